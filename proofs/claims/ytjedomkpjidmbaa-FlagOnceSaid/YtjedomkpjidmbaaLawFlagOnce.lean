/- Proved: the statement FlagOnce. No conditions. -/
import Derived.Test.YtjedomkpjidmbaaRows
import Derived.Test.YtjedomkpjidmbaaCheck
import Derived.Test.YtjedomkpjidmbaaR3PFlagOnce
import Derived.ChangeShapes
namespace Go.Proofs.Ytjedomkpjidmbaa.flagOnce
open Go.Fw
set_option linter.unusedVariables false
theorem own : ownKnob Try.prog.godebug = none := by kernel_rfl
theorem laidOut : laidOutB Try.prog = true := by kernel_rfl
set_option maxRecDepth 100000 in
theorem lifted (os : Os) (started : os.Started) (H : Type) (enc : TypeId × Value → H) :
    ReturnsInHanded {} Try.checked os 4 .any (Rows.flagOnceSpec.pre6 enc Try.prog Try.f4 Rows.flagOnceRow.domain false) (Rows.flagOnceSpec.post enc Try.prog Try.f4 false true false false) :=
  lift (C := Try.checked) (FT := Go.Cd.FT) (kp := Go.Cd.kp) Go.Cd.sgsAll Go.Cd.okAll Try.func4 own (by kernel_rfl) laidOut (shs := [.sl (.ar 3 (.i .u8))]) (ts := [39]) rfl rfl (by kernel_rfl) rfl (by kernel_rfl) (by kernel_rfl) (tb := 4) rfl Try.underlying4 rfl
    (fun ds h => by match ds, h with | [a], _ => rfl) Go.Cd.law_FlagOnce started
    (ChangeSpec.witness6 (enc := enc) (C := Try.checked) false ⟨#[], #[.slice none 0 0], []⟩ 8 (by kernel_rfl) (by kernel_rfl) (by kernel_rfl) (by kernel_rfl))
theorem over : Rows.flagOnceRow.holds Try.pinned (OpenSpec.ofChange Rows.flagOnceSpec) :=
  OpenClaim.holds_of_wide 4 Try.f4 rfl rfl rfl rfl rfl rfl rfl ⟨rfl, rfl, rfl, rfl, rfl⟩ rfl rfl rfl rfl rfl (by kernel_rfl) Try.func4 (by kernel_rfl)
    (of_decide_eq_true (by kernel_rfl)) (by unfold Func.isWrapper; first | (rw [if_pos (by decide +kernel)]; kernel_rfl) | (rw [if_neg (by decide +kernel)]; exact ⟨rfl, rfl⟩))
    (fun os started H enc _ => lifted os started H enc)
theorem proved : Rows.FlagOnceSaid := over
#print axioms proved
end Go.Proofs.Ytjedomkpjidmbaa.flagOnce
namespace Go.Proofs.Ytjedomkpjidmbaa
/-- The row, under a short name, for the claim. -/
theorem flagOnce_holds : Rows.FlagOnceSaid := flagOnce.proved
end Go.Proofs.Ytjedomkpjidmbaa
