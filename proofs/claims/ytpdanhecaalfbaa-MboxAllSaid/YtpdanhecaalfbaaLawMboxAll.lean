/- Proved: the statement MboxAll. No conditions. -/
import Derived.Test.YtpdanhecaalfbaaRows
import Derived.Test.YtpdanhecaalfbaaCheck
import Derived.Test.YtpdanhecaalfbaaR2PMboxAll
import Derived.ChangeShapes
namespace Go.Proofs.Ytpdanhecaalfbaa.mboxAll
open Go.Fw
set_option linter.unusedVariables false
theorem own : ownKnob Try.prog.godebug = none := by kernel_rfl
theorem laidOut : laidOutB Try.prog = true := by kernel_rfl
set_option maxRecDepth 100000 in
theorem lifted (os : Os) (started : os.Started) (H : Type) (enc : TypeId × Value → H) :
    ReturnsInHanded {} Try.checked os 10 .any (Rows.mboxAllSpec.pre6 enc Try.prog Try.f10 Rows.mboxAllRow.domain false) (Rows.mboxAllSpec.post enc Try.prog Try.f10 false true false false) :=
  lift (C := Try.checked) (FT := Go.Cd.FT) (kp := Go.Cd.kp) Go.Cd.sgsAll Go.Cd.okAll Try.func10 own (by kernel_rfl) laidOut (shs := [.st [.sl (.i .i64), .sl (.i .i64)], .i .i64, .i .i64]) (ts := [62, 2, 3]) rfl rfl (by kernel_rfl) rfl (by kernel_rfl) (by kernel_rfl) (tb := 4) rfl Try.underlying4 rfl
    (fun ds h => by match ds, h with | [a, b, c], _ => rfl) Go.Cd.law_MboxAll started
    (ChangeSpec.witness6 (enc := enc) (C := Try.checked) false ⟨#[], #[.agg #[.slice none 0 0, .slice none 0 0], .int .i64 0, .int .i64 0], []⟩ 8 (by kernel_rfl) (by kernel_rfl) (by kernel_rfl) (by kernel_rfl))
theorem over : Rows.mboxAllRow.holds Try.pinned (OpenSpec.ofChange Rows.mboxAllSpec) :=
  OpenClaim.holds_of_wide 10 Try.f10 rfl rfl rfl rfl rfl rfl rfl ⟨rfl, rfl, rfl, rfl, rfl⟩ rfl rfl rfl rfl rfl (by kernel_rfl) Try.func10 (by kernel_rfl)
    (of_decide_eq_true (by kernel_rfl)) (by unfold Func.isWrapper; first | (rw [if_pos (by decide +kernel)]; kernel_rfl) | (rw [if_neg (by decide +kernel)]; exact ⟨rfl, rfl⟩))
    (fun os started H enc _ => lifted os started H enc)
theorem proved : Rows.MboxAllSaid := over
#print axioms proved
end Go.Proofs.Ytpdanhecaalfbaa.mboxAll
namespace Go.Proofs.Ytpdanhecaalfbaa
/-- The row, under a short name, for the claim. -/
theorem mboxAll_holds : Rows.MboxAllSaid := mboxAll.proved
end Go.Proofs.Ytpdanhecaalfbaa
