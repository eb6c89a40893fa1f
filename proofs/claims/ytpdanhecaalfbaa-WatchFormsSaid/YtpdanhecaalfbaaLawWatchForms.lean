/- Proved: the statement WatchForms. No conditions. -/
import Derived.Test.YtpdanhecaalfbaaRows
import Derived.Test.YtpdanhecaalfbaaCheck
import Derived.Test.YtpdanhecaalfbaaPWatchForms
import Derived.ChangeShapes
namespace Go.Proofs.Ytpdanhecaalfbaa.watchForms
open Go.Fw
set_option linter.unusedVariables false
theorem own : ownKnob Try.prog.godebug = none := by kernel_rfl
theorem laidOut : laidOutB Try.prog = true := by kernel_rfl
set_option maxRecDepth 100000 in
theorem lifted (os : Os) (started : os.Started) (H : Type) (enc : TypeId × Value → H) :
    ReturnsInHanded {} Try.checked os 5 .any (Rows.watchFormsSpec.pre6 enc Try.prog Try.f5 Rows.watchFormsRow.domain false) (Rows.watchFormsSpec.post enc Try.prog Try.f5 false true false false) :=
  lift (C := Try.checked) (FT := Go.Cd.FT) (kp := Go.Cd.kp) Go.Cd.sgsAll Go.Cd.okAll Try.func5 own (by kernel_rfl) laidOut (shs := []) (ts := []) rfl rfl (by kernel_rfl) rfl (by kernel_rfl) (by kernel_rfl) (tb := 4) rfl Try.underlying4 rfl
    (fun ds h => by match ds, h with | [], _ => rfl) Go.Cd.law_WatchForms started
    (ChangeSpec.witness6 (enc := enc) (C := Try.checked) false ⟨#[], #[], []⟩ 8 (by kernel_rfl) (by kernel_rfl) (by kernel_rfl) (by kernel_rfl))
theorem over : Rows.watchFormsRow.holds Try.pinned (OpenSpec.ofChange Rows.watchFormsSpec) :=
  OpenClaim.holds_of_wide 5 Try.f5 rfl rfl rfl rfl rfl rfl rfl ⟨rfl, rfl, rfl, rfl, rfl⟩ rfl rfl rfl rfl rfl (by kernel_rfl) Try.func5 (by kernel_rfl)
    (of_decide_eq_true (by kernel_rfl)) (by unfold Func.isWrapper; first | (rw [if_pos (by decide +kernel)]; kernel_rfl) | (rw [if_neg (by decide +kernel)]; exact ⟨rfl, rfl⟩))
    (fun os started H enc _ => lifted os started H enc)
theorem proved : Rows.WatchFormsSaid := over
#print axioms proved
end Go.Proofs.Ytpdanhecaalfbaa.watchForms
namespace Go.Proofs.Ytpdanhecaalfbaa
/-- The row, under a short name, for the claim. -/
theorem watchForms_holds : Rows.WatchFormsSaid := watchForms.proved
end Go.Proofs.Ytpdanhecaalfbaa
