/- Proved: the statement DeltaForms. No conditions. -/
import Derived.Test.YtmkkfmadiadkiaaRows
import Derived.Test.YtmkkfmadiadkiaaCheck
import Derived.Test.YtmkkfmadiadkiaaPDeltaForms
import Derived.ChangeShapes
namespace Go.Proofs.Ytmkkfmadiadkiaa.deltaForms
open Go.Fw
set_option linter.unusedVariables false
theorem own : ownKnob Try.prog.godebug = none := by kernel_rfl
theorem laidOut : laidOutB Try.prog = true := by kernel_rfl
set_option maxRecDepth 100000 in
theorem lifted (os : Os) (started : os.Started) (H : Type) (enc : TypeId × Value → H) :
    ReturnsInHanded {} Try.checked os 10 .any (Rows.deltaFormsSpec.pre6 enc Try.prog Try.f10 Rows.deltaFormsRow.domain false) (Rows.deltaFormsSpec.post enc Try.prog Try.f10 false true false false) :=
  lift (C := Try.checked) (FT := Go.Cd.FT) (kp := Go.Cd.kp) Go.Cd.sgsAll Go.Cd.okAll Try.func10 own (by kernel_rfl) laidOut (shs := []) (ts := []) rfl rfl (by kernel_rfl) rfl (by kernel_rfl) (by kernel_rfl) (tb := 4) rfl Try.underlying4 rfl
    (fun ds h => by match ds, h with | [], _ => rfl) Go.Cd.law_DeltaForms started
    (ChangeSpec.witness6 (enc := enc) (C := Try.checked) false ⟨#[], #[], []⟩ 8 (by kernel_rfl) (by kernel_rfl) (by kernel_rfl) (by kernel_rfl))
theorem over : Rows.deltaFormsRow.holds Try.pinned (OpenSpec.ofChange Rows.deltaFormsSpec) :=
  OpenClaim.holds_of_wide 10 Try.f10 rfl rfl rfl rfl rfl rfl rfl ⟨rfl, rfl, rfl, rfl, rfl⟩ rfl rfl rfl rfl rfl (by kernel_rfl) Try.func10 (by kernel_rfl)
    (of_decide_eq_true (by kernel_rfl)) (by unfold Func.isWrapper; first | (rw [if_pos (by decide +kernel)]; kernel_rfl) | (rw [if_neg (by decide +kernel)]; exact ⟨rfl, rfl⟩))
    (fun os started H enc _ => lifted os started H enc)
theorem proved : Rows.DeltaFormsSaid := over
#print axioms proved
end Go.Proofs.Ytmkkfmadiadkiaa.deltaForms
namespace Go.Proofs.Ytmkkfmadiadkiaa
/-- The row, under a short name, for the claim. -/
theorem deltaForms_holds : Rows.DeltaFormsSaid := deltaForms.proved
end Go.Proofs.Ytmkkfmadiadkiaa
