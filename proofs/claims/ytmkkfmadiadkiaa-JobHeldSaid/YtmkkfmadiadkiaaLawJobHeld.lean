/- Proved: the statement JobHeld. No conditions. -/
import Derived.Test.YtmkkfmadiadkiaaRows
import Derived.Test.YtmkkfmadiadkiaaCheck
import Derived.Test.YtmkkfmadiadkiaaR6PJobHeld
import Derived.ChangeShapes
namespace Go.Proofs.Ytmkkfmadiadkiaa.jobHeld
open Go.Fw
set_option linter.unusedVariables false
theorem own : ownKnob Try.prog.godebug = none := by kernel_rfl
theorem laidOut : laidOutB Try.prog = true := by kernel_rfl
set_option maxRecDepth 100000 in
theorem lifted (os : Os) (started : os.Started) (H : Type) (enc : TypeId × Value → H) :
    ReturnsInHanded {} Try.checked os 6 .any (Rows.jobHeldSpec.pre6 enc Try.prog Try.f6 Rows.jobHeldRow.domain false) (Rows.jobHeldSpec.post enc Try.prog Try.f6 false true false false) :=
  lift2 (C := Try.checked) (FT := Go.Cd.FT) (kp := Go.Cd.kp) Go.Cd.sgsAll Go.Cd.okAll Try.func6 own (by kernel_rfl) laidOut (shs := [.sl (.i .u8), .i .i64]) (ts := [22, 2]) rfl rfl (by kernel_rfl) rfl (by kernel_rfl) (by kernel_rfl) (tb := 4) rfl Try.underlying4 rfl
    (fun ds h => by match ds, h with | [a, b], _ => rfl) Go.Cd.law2_JobHeld started
    (ChangeSpec.witness6 (enc := enc) (C := Try.checked) false ⟨#[], #[.slice none 0 0, .int .i64 0], []⟩ 8 (by kernel_rfl) (by kernel_rfl) (by kernel_rfl) (by kernel_rfl))
theorem over : Rows.jobHeldRow.holds Try.pinned (OpenSpec.ofChange Rows.jobHeldSpec) :=
  OpenClaim.holds_of_wide 6 Try.f6 rfl rfl rfl rfl rfl rfl rfl ⟨rfl, rfl, rfl, rfl, rfl⟩ rfl rfl rfl rfl rfl (by kernel_rfl) Try.func6 (by kernel_rfl)
    (of_decide_eq_true (by kernel_rfl)) (by unfold Func.isWrapper; first | (rw [if_pos (by decide +kernel)]; kernel_rfl) | (rw [if_neg (by decide +kernel)]; exact ⟨rfl, rfl⟩))
    (fun os started H enc _ => lifted os started H enc)
theorem proved : Rows.JobHeldSaid := over
#print axioms proved
end Go.Proofs.Ytmkkfmadiadkiaa.jobHeld
namespace Go.Proofs.Ytmkkfmadiadkiaa
/-- The row, under a short name, for the claim. -/
theorem jobHeld_holds : Rows.JobHeldSaid := jobHeld.proved
end Go.Proofs.Ytmkkfmadiadkiaa
