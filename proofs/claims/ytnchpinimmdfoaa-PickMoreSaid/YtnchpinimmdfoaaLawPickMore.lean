/- Proved: the statement PickMore. No conditions. -/
import Derived.Test.YtnchpinimmdfoaaRows
import Derived.Test.YtnchpinimmdfoaaCheck
import Derived.Test.YtnchpinimmdfoaaR5PPickMore
import Derived.ChangeShapes
namespace Go.Proofs.Ytnchpinimmdfoaa.pickMore
open Go.Fw
set_option linter.unusedVariables false
theorem own : ownKnob Try.prog.godebug = none := by kernel_rfl
theorem laidOut : laidOutB Try.prog = true := by kernel_rfl
set_option maxRecDepth 100000 in
theorem lifted (os : Os) (started : os.Started) (H : Type) (enc : TypeId × Value → H) :
    ReturnsInHanded {} Try.checked os 10 .any (Rows.pickMoreSpec.pre6 enc Try.prog Try.f10 Rows.pickMoreRow.domain false) (Rows.pickMoreSpec.post enc Try.prog Try.f10 false true false false) :=
  lift (C := Try.checked) (FT := Go.Cd.FT) (kp := Go.Cd.kp) Go.Cd.sgsAll Go.Cd.okAll Try.func10 own (by kernel_rfl) laidOut (shs := [.sl (.ar 3 (.i .u8)), .sl (.ar 2 (.i .u8))]) (ts := [54, 55]) rfl rfl (by kernel_rfl) rfl (by kernel_rfl) (by kernel_rfl) (tb := 4) rfl Try.underlying4 rfl
    (fun ds h => by match ds, h with | [a, b], _ => rfl) Go.Cd.law_PickMore started
    (ChangeSpec.witness6 (enc := enc) (C := Try.checked) false ⟨#[], #[.slice none 0 0, .slice none 0 0], []⟩ 8 (by kernel_rfl) (by kernel_rfl) (by kernel_rfl) (by kernel_rfl))
theorem over : Rows.pickMoreRow.holds Try.pinned (OpenSpec.ofChange Rows.pickMoreSpec) :=
  OpenClaim.holds_of_wide 10 Try.f10 rfl rfl rfl rfl rfl rfl rfl ⟨rfl, rfl, rfl, rfl, rfl⟩ rfl rfl rfl rfl rfl (by kernel_rfl) Try.func10 (by kernel_rfl)
    (of_decide_eq_true (by kernel_rfl)) (by unfold Func.isWrapper; first | (rw [if_pos (by decide +kernel)]; kernel_rfl) | (rw [if_neg (by decide +kernel)]; exact ⟨rfl, rfl⟩))
    (fun os started H enc _ => lifted os started H enc)
theorem proved : Rows.PickMoreSaid := over
#print axioms proved
end Go.Proofs.Ytnchpinimmdfoaa.pickMore
namespace Go.Proofs.Ytnchpinimmdfoaa
/-- The row, under a short name, for the claim. -/
theorem pickMore_holds : Rows.PickMoreSaid := pickMore.proved
end Go.Proofs.Ytnchpinimmdfoaa
