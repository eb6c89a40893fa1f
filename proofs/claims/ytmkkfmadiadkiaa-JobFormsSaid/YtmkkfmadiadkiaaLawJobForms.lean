/- Proved: the statement JobForms. No conditions. -/
import Derived.Test.YtmkkfmadiadkiaaRows
import Derived.Test.YtmkkfmadiadkiaaCheck
import Derived.Test.YtmkkfmadiadkiaaPJobForms
import Derived.ChangeShapes
namespace Go.Proofs.Ytmkkfmadiadkiaa.jobForms
open Go.Fw
set_option linter.unusedVariables false
theorem own : ownKnob Try.prog.godebug = none := by kernel_rfl
theorem laidOut : laidOutB Try.prog = true := by kernel_rfl
set_option maxRecDepth 100000 in
theorem lifted (os : Os) (started : os.Started) (H : Type) (enc : TypeId × Value → H) :
    ReturnsInHanded {} Try.checked os 5 .any (Rows.jobFormsSpec.pre6 enc Try.prog Try.f5 Rows.jobFormsRow.domain false) (Rows.jobFormsSpec.post enc Try.prog Try.f5 false true false false) :=
  lift (C := Try.checked) (FT := Go.Cd.FT) (kp := Go.Cd.kp) Go.Cd.sgsAll Go.Cd.okAll Try.func5 own (by kernel_rfl) laidOut (shs := []) (ts := []) rfl rfl (by kernel_rfl) rfl (by kernel_rfl) (by kernel_rfl) (tb := 4) rfl Try.underlying4 rfl
    (fun ds h => by match ds, h with | [], _ => rfl) Go.Cd.law_JobForms started
    (ChangeSpec.witness6 (enc := enc) (C := Try.checked) false ⟨#[], #[], []⟩ 8 (by kernel_rfl) (by kernel_rfl) (by kernel_rfl) (by kernel_rfl))
theorem over : Rows.jobFormsRow.holds Try.pinned (OpenSpec.ofChange Rows.jobFormsSpec) :=
  OpenClaim.holds_of_wide 5 Try.f5 rfl rfl rfl rfl rfl rfl rfl ⟨rfl, rfl, rfl, rfl, rfl⟩ rfl rfl rfl rfl rfl (by kernel_rfl) Try.func5 (by kernel_rfl)
    (of_decide_eq_true (by kernel_rfl)) (by unfold Func.isWrapper; first | (rw [if_pos (by decide +kernel)]; kernel_rfl) | (rw [if_neg (by decide +kernel)]; exact ⟨rfl, rfl⟩))
    (fun os started H enc _ => lifted os started H enc)
theorem proved : Rows.JobFormsSaid := over
#print axioms proved
end Go.Proofs.Ytmkkfmadiadkiaa.jobForms
namespace Go.Proofs.Ytmkkfmadiadkiaa
/-- The row, under a short name, for the claim. -/
theorem jobForms_holds : Rows.JobFormsSaid := jobForms.proved
end Go.Proofs.Ytmkkfmadiadkiaa
