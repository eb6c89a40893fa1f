/- Proved: the statement RowForms. No conditions. -/
import Derived.Test.YtohopligfihopaaRows
import Derived.Test.YtohopligfihopaaCheck
import Derived.Test.YtohopligfihopaaR1PRowForms
import Derived.ChangeShapes
namespace Go.Proofs.Ytohopligfihopaa.rowForms
open Go.Fw
set_option linter.unusedVariables false
theorem own : ownKnob Try.prog.godebug = none := by kernel_rfl
theorem laidOut : laidOutB Try.prog = true := by kernel_rfl
set_option maxRecDepth 100000 in
theorem lifted (os : Os) (started : os.Started) (H : Type) (enc : TypeId × Value → H) :
    ReturnsInHanded {} Try.checked os 14 .any (Rows.rowFormsSpec.pre6 enc Try.prog Try.f14 Rows.rowFormsRow.domain false) (Rows.rowFormsSpec.post enc Try.prog Try.f14 false true false false) :=
  lift (C := Try.checked) (FT := Go.Cd.FT) (kp := Go.Cd.kp) Go.Cd.sgsAll Go.Cd.okAll Try.func14 own (by kernel_rfl) laidOut (shs := []) (ts := []) rfl rfl (by kernel_rfl) rfl (by kernel_rfl) (by kernel_rfl) (tb := 4) rfl Try.underlying4 rfl
    (fun ds h => by match ds, h with | [], _ => rfl) Go.Cd.law_RowForms started
    (ChangeSpec.witness6 (enc := enc) (C := Try.checked) false ⟨#[], #[], []⟩ 8 (by kernel_rfl) (by kernel_rfl) (by kernel_rfl) (by kernel_rfl))
theorem over : Rows.rowFormsRow.holds Try.pinned (OpenSpec.ofChange Rows.rowFormsSpec) :=
  OpenClaim.holds_of_wide 14 Try.f14 rfl rfl rfl rfl rfl rfl rfl ⟨rfl, rfl, rfl, rfl, rfl⟩ rfl rfl rfl rfl rfl (by kernel_rfl) Try.func14 (by kernel_rfl)
    (of_decide_eq_true (by kernel_rfl)) (by unfold Func.isWrapper; first | (rw [if_pos (by decide +kernel)]; kernel_rfl) | (rw [if_neg (by decide +kernel)]; exact ⟨rfl, rfl⟩))
    (fun os started H enc _ => lifted os started H enc)
theorem proved : Rows.RowFormsSaid := over
#print axioms proved
end Go.Proofs.Ytohopligfihopaa.rowForms
namespace Go.Proofs.Ytohopligfihopaa
/-- The row, under a short name, for the claim. -/
theorem rowForms_holds : Rows.RowFormsSaid := rowForms.proved
end Go.Proofs.Ytohopligfihopaa
