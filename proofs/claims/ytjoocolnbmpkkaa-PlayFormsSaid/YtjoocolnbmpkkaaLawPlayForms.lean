/- Proved: the statement PlayForms. No conditions. -/
import Derived.Test.YtjoocolnbmpkkaaRows
import Derived.Test.YtjoocolnbmpkkaaCheck
import Derived.Test.YtjoocolnbmpkkaaPPlayForms
import Derived.ChangeShapes
namespace Go.Proofs.Ytjoocolnbmpkkaa.playForms
open Go.Fw
set_option linter.unusedVariables false
theorem own : ownKnob Try.prog.godebug = none := by kernel_rfl
theorem laidOut : laidOutB Try.prog = true := by kernel_rfl
set_option maxRecDepth 100000 in
theorem lifted (os : Os) (started : os.Started) (H : Type) (enc : TypeId × Value → H) :
    ReturnsInHanded {} Try.checked os 6 .any (Rows.playFormsSpec.pre6 enc Try.prog Try.f6 Rows.playFormsRow.domain false) (Rows.playFormsSpec.post enc Try.prog Try.f6 false true false false) :=
  lift (C := Try.checked) (FT := Go.Cd.FT) (kp := Go.Cd.kp) Go.Cd.sgsAll Go.Cd.okAll Try.func6 own (by kernel_rfl) laidOut (shs := []) (ts := []) rfl rfl (by kernel_rfl) rfl (by kernel_rfl) (by kernel_rfl) (tb := 4) rfl Try.underlying4 rfl
    (fun ds h => by match ds, h with | [], _ => rfl) Go.Cd.law_PlayForms started
    (ChangeSpec.witness6 (enc := enc) (C := Try.checked) false ⟨#[], #[], []⟩ 8 (by kernel_rfl) (by kernel_rfl) (by kernel_rfl) (by kernel_rfl))
theorem over : Rows.playFormsRow.holds Try.pinned (OpenSpec.ofChange Rows.playFormsSpec) :=
  OpenClaim.holds_of_wide 6 Try.f6 rfl rfl rfl rfl rfl rfl rfl ⟨rfl, rfl, rfl, rfl, rfl⟩ rfl rfl rfl rfl rfl (by kernel_rfl) Try.func6 (by kernel_rfl)
    (of_decide_eq_true (by kernel_rfl)) (by unfold Func.isWrapper; first | (rw [if_pos (by decide +kernel)]; kernel_rfl) | (rw [if_neg (by decide +kernel)]; exact ⟨rfl, rfl⟩))
    (fun os started H enc _ => lifted os started H enc)
theorem proved : Rows.PlayFormsSaid := over
#print axioms proved
end Go.Proofs.Ytjoocolnbmpkkaa.playForms
namespace Go.Proofs.Ytjoocolnbmpkkaa
/-- The row, under a short name, for the claim. -/
theorem playForms_holds : Rows.PlayFormsSaid := playForms.proved
end Go.Proofs.Ytjoocolnbmpkkaa
