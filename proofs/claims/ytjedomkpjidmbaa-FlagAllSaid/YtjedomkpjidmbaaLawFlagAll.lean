/- Proved: the statement FlagAll. No conditions. -/
import Derived.Test.YtjedomkpjidmbaaRows
import Derived.Test.YtjedomkpjidmbaaCheck
import Derived.Test.YtjedomkpjidmbaaR3PFlagAll
import Derived.ChangeShapes
namespace Go.Proofs.Ytjedomkpjidmbaa.flagAll
open Go.Fw
set_option linter.unusedVariables false
theorem own : ownKnob Try.prog.godebug = none := by kernel_rfl
theorem laidOut : laidOutB Try.prog = true := by kernel_rfl
set_option maxRecDepth 100000 in
theorem lifted (os : Os) (started : os.Started) (H : Type) (enc : TypeId × Value → H) :
    ReturnsInHanded {} Try.checked os 3 .any (Rows.flagAllSpec.pre6 enc Try.prog Try.f3 Rows.flagAllRow.domain false) (Rows.flagAllSpec.post enc Try.prog Try.f3 false true false false) :=
  lift (C := Try.checked) (FT := Go.Cd.FT) (kp := Go.Cd.kp) Go.Cd.sgsAll Go.Cd.okAll Try.func3 own (by kernel_rfl) laidOut (shs := [.st [.i .u32, .sl (.st [.i .i64, .i .u32])], .i .u32, .i .i64]) (ts := [25, 22, 3]) rfl rfl (by kernel_rfl) rfl (by kernel_rfl) (by kernel_rfl) (tb := 4) rfl Try.underlying4 rfl
    (fun ds h => by match ds, h with | [a, b, c], _ => rfl) Go.Cd.law_FlagAll started
    (ChangeSpec.witness6 (enc := enc) (C := Try.checked) false ⟨#[], #[.agg #[.int .u32 0, .slice none 0 0], .int .u32 0, .int .i64 0], []⟩ 8 (by kernel_rfl) (by kernel_rfl) (by kernel_rfl) (by kernel_rfl))
theorem over : Rows.flagAllRow.holds Try.pinned (OpenSpec.ofChange Rows.flagAllSpec) :=
  OpenClaim.holds_of_wide 3 Try.f3 rfl rfl rfl rfl rfl rfl rfl ⟨rfl, rfl, rfl, rfl, rfl⟩ rfl rfl rfl rfl rfl (by kernel_rfl) Try.func3 (by kernel_rfl)
    (of_decide_eq_true (by kernel_rfl)) (by unfold Func.isWrapper; first | (rw [if_pos (by decide +kernel)]; kernel_rfl) | (rw [if_neg (by decide +kernel)]; exact ⟨rfl, rfl⟩))
    (fun os started H enc _ => lifted os started H enc)
theorem proved : Rows.FlagAllSaid := over
#print axioms proved
end Go.Proofs.Ytjedomkpjidmbaa.flagAll
namespace Go.Proofs.Ytjedomkpjidmbaa
/-- The row, under a short name, for the claim. -/
theorem flagAll_holds : Rows.FlagAllSaid := flagAll.proved
end Go.Proofs.Ytjedomkpjidmbaa
