/- Proved: the statement SemaLow. No conditions. -/
import Derived.Test.YtpdanhecaalfbaaRows
import Derived.Test.YtpdanhecaalfbaaCheck
import Derived.Test.YtpdanhecaalfbaaR2PSemaLow
import Derived.ChangeShapes
namespace Go.Proofs.Ytpdanhecaalfbaa.semaLow
open Go.Fw
set_option linter.unusedVariables false
theorem own : ownKnob Try.prog.godebug = none := by kernel_rfl
theorem laidOut : laidOutB Try.prog = true := by kernel_rfl
set_option maxRecDepth 100000 in
theorem lifted (os : Os) (started : os.Started) (H : Type) (enc : TypeId × Value → H) :
    ReturnsInHanded {} Try.checked os 9 .any (Rows.semaLowSpec.pre6 enc Try.prog Try.f9 Rows.semaLowRow.domain false) (Rows.semaLowSpec.post enc Try.prog Try.f9 false true false false) :=
  lift (C := Try.checked) (FT := Go.Cd.FT) (kp := Go.Cd.kp) Go.Cd.sgsAll Go.Cd.okAll Try.func9 own (by kernel_rfl) laidOut (shs := [.ar 4 (.i .u8), .ar 4 (.i .u8), .sl (.i .u8), .i .u8]) (ts := [57, 57, 58, 5]) rfl rfl (by kernel_rfl) rfl (by kernel_rfl) (by kernel_rfl) (tb := 4) rfl Try.underlying4 rfl
    (fun ds h => by match ds, h with | [a, b, c, d], _ => rfl) Go.Cd.law_SemaLow started
    (ChangeSpec.witness6 (enc := enc) (C := Try.checked) false ⟨#[], #[.agg #[.int .u8 0, .int .u8 0, .int .u8 0, .int .u8 0], .agg #[.int .u8 0, .int .u8 0, .int .u8 0, .int .u8 0], .slice none 0 0, .int .u8 0], []⟩ 8 (by kernel_rfl) (by kernel_rfl) (by kernel_rfl) (by kernel_rfl))
theorem over : Rows.semaLowRow.holds Try.pinned (OpenSpec.ofChange Rows.semaLowSpec) :=
  OpenClaim.holds_of_wide 9 Try.f9 rfl rfl rfl rfl rfl rfl rfl ⟨rfl, rfl, rfl, rfl, rfl⟩ rfl rfl rfl rfl rfl (by kernel_rfl) Try.func9 (by kernel_rfl)
    (of_decide_eq_true (by kernel_rfl)) (by unfold Func.isWrapper; first | (rw [if_pos (by decide +kernel)]; kernel_rfl) | (rw [if_neg (by decide +kernel)]; exact ⟨rfl, rfl⟩))
    (fun os started H enc _ => lifted os started H enc)
theorem proved : Rows.SemaLowSaid := over
#print axioms proved
end Go.Proofs.Ytpdanhecaalfbaa.semaLow
namespace Go.Proofs.Ytpdanhecaalfbaa
/-- The row, under a short name, for the claim. -/
theorem semaLow_holds : Rows.SemaLowSaid := semaLow.proved
end Go.Proofs.Ytpdanhecaalfbaa
