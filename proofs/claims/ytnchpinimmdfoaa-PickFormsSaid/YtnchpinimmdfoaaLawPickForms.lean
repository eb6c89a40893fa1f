/- Proved: the statement PickForms. No conditions. -/
import Derived.Test.YtnchpinimmdfoaaRows
import Derived.Test.YtnchpinimmdfoaaCheck
import Derived.Test.YtnchpinimmdfoaaPPickForms
import Derived.ChangeShapes
namespace Go.Proofs.Ytnchpinimmdfoaa.pickForms
open Go.Fw
set_option linter.unusedVariables false
theorem own : ownKnob Try.prog.godebug = none := by kernel_rfl
theorem laidOut : laidOutB Try.prog = true := by kernel_rfl
set_option maxRecDepth 100000 in
theorem lifted (os : Os) (started : os.Started) (H : Type) (enc : TypeId × Value → H) :
    ReturnsInHanded {} Try.checked os 9 .any (Rows.pickFormsSpec.pre6 enc Try.prog Try.f9 Rows.pickFormsRow.domain false) (Rows.pickFormsSpec.post enc Try.prog Try.f9 false true false false) :=
  lift (C := Try.checked) (FT := Go.Cd.FT) (kp := Go.Cd.kp) Go.Cd.sgsAll Go.Cd.okAll Try.func9 own (by kernel_rfl) laidOut (shs := []) (ts := []) rfl rfl (by kernel_rfl) rfl (by kernel_rfl) (by kernel_rfl) (tb := 4) rfl Try.underlying4 rfl
    (fun ds h => by match ds, h with | [], _ => rfl) Go.Cd.law_PickForms started
    (ChangeSpec.witness6 (enc := enc) (C := Try.checked) false ⟨#[], #[], []⟩ 8 (by kernel_rfl) (by kernel_rfl) (by kernel_rfl) (by kernel_rfl))
theorem over : Rows.pickFormsRow.holds Try.pinned (OpenSpec.ofChange Rows.pickFormsSpec) :=
  OpenClaim.holds_of_wide 9 Try.f9 rfl rfl rfl rfl rfl rfl rfl ⟨rfl, rfl, rfl, rfl, rfl⟩ rfl rfl rfl rfl rfl (by kernel_rfl) Try.func9 (by kernel_rfl)
    (of_decide_eq_true (by kernel_rfl)) (by unfold Func.isWrapper; first | (rw [if_pos (by decide +kernel)]; kernel_rfl) | (rw [if_neg (by decide +kernel)]; exact ⟨rfl, rfl⟩))
    (fun os started H enc _ => lifted os started H enc)
theorem proved : Rows.PickFormsSaid := over
#print axioms proved
end Go.Proofs.Ytnchpinimmdfoaa.pickForms
namespace Go.Proofs.Ytnchpinimmdfoaa
/-- The row, under a short name, for the claim. -/
theorem pickForms_holds : Rows.PickFormsSaid := pickForms.proved
end Go.Proofs.Ytnchpinimmdfoaa
