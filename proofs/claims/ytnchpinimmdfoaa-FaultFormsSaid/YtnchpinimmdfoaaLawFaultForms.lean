/- Proved: the statement FaultForms. No conditions. -/
import Derived.Test.YtnchpinimmdfoaaRows
import Derived.Test.YtnchpinimmdfoaaCheck
import Derived.Test.YtnchpinimmdfoaaPFaultForms
import Derived.ChangeShapes
namespace Go.Proofs.Ytnchpinimmdfoaa.faultForms
open Go.Fw
set_option linter.unusedVariables false
theorem own : ownKnob Try.prog.godebug = none := by kernel_rfl
theorem laidOut : laidOutB Try.prog = true := by kernel_rfl
set_option maxRecDepth 100000 in
theorem lifted (os : Os) (started : os.Started) (H : Type) (enc : TypeId × Value → H) :
    ReturnsInHanded {} Try.checked os 6 .any (Rows.faultFormsSpec.pre6 enc Try.prog Try.f6 Rows.faultFormsRow.domain false) (Rows.faultFormsSpec.post enc Try.prog Try.f6 false true false false) :=
  lift (C := Try.checked) (FT := Go.Cd.FT) (kp := Go.Cd.kp) Go.Cd.sgsAll Go.Cd.okAll Try.func6 own (by kernel_rfl) laidOut (shs := []) (ts := []) rfl rfl (by kernel_rfl) rfl (by kernel_rfl) (by kernel_rfl) (tb := 4) rfl Try.underlying4 rfl
    (fun ds h => by match ds, h with | [], _ => rfl) Go.Cd.law_FaultForms started
    (ChangeSpec.witness6 (enc := enc) (C := Try.checked) false ⟨#[], #[], []⟩ 8 (by kernel_rfl) (by kernel_rfl) (by kernel_rfl) (by kernel_rfl))
theorem over : Rows.faultFormsRow.holds Try.pinned (OpenSpec.ofChange Rows.faultFormsSpec) :=
  OpenClaim.holds_of_wide 6 Try.f6 rfl rfl rfl rfl rfl rfl rfl ⟨rfl, rfl, rfl, rfl, rfl⟩ rfl rfl rfl rfl rfl (by kernel_rfl) Try.func6 (by kernel_rfl)
    (of_decide_eq_true (by kernel_rfl)) (by unfold Func.isWrapper; first | (rw [if_pos (by decide +kernel)]; kernel_rfl) | (rw [if_neg (by decide +kernel)]; exact ⟨rfl, rfl⟩))
    (fun os started H enc _ => lifted os started H enc)
theorem proved : Rows.FaultFormsSaid := over
#print axioms proved
end Go.Proofs.Ytnchpinimmdfoaa.faultForms
namespace Go.Proofs.Ytnchpinimmdfoaa
/-- The row, under a short name, for the claim. -/
theorem faultForms_holds : Rows.FaultFormsSaid := faultForms.proved
end Go.Proofs.Ytnchpinimmdfoaa
