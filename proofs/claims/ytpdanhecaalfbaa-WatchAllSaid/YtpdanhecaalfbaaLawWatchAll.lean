/- Proved: the statement WatchAll. No conditions. -/
import Derived.Test.YtpdanhecaalfbaaRows
import Derived.Test.YtpdanhecaalfbaaCheck
import Derived.Test.YtpdanhecaalfbaaR2PWatchAll
import Derived.ChangeShapes
namespace Go.Proofs.Ytpdanhecaalfbaa.watchAll
open Go.Fw
set_option linter.unusedVariables false
theorem own : ownKnob Try.prog.godebug = none := by kernel_rfl
theorem laidOut : laidOutB Try.prog = true := by kernel_rfl
set_option maxRecDepth 100000 in
theorem lifted (os : Os) (started : os.Started) (H : Type) (enc : TypeId × Value → H) :
    ReturnsInHanded {} Try.checked os 3 .any (Rows.watchAllSpec.pre6 enc Try.prog Try.f3 Rows.watchAllRow.domain false) (Rows.watchAllSpec.post enc Try.prog Try.f3 false true false false) :=
  lift (C := Try.checked) (FT := Go.Cd.FT) (kp := Go.Cd.kp) Go.Cd.sgsAll Go.Cd.okAll Try.func3 own (by kernel_rfl) laidOut (shs := [.i .u8, .sl (.ar 2 (.i .u8)), .i .i64]) (ts := [5, 22, 3]) rfl rfl (by kernel_rfl) rfl (by kernel_rfl) (by kernel_rfl) (tb := 4) rfl Try.underlying4 rfl
    (fun ds h => by match ds, h with | [a, b, c], _ => rfl) Go.Cd.law_WatchAll started
    (ChangeSpec.witness6 (enc := enc) (C := Try.checked) false ⟨#[], #[.int .u8 0, .slice none 0 0, .int .i64 0], []⟩ 8 (by kernel_rfl) (by kernel_rfl) (by kernel_rfl) (by kernel_rfl))
theorem over : Rows.watchAllRow.holds Try.pinned (OpenSpec.ofChange Rows.watchAllSpec) :=
  OpenClaim.holds_of_wide 3 Try.f3 rfl rfl rfl rfl rfl rfl rfl ⟨rfl, rfl, rfl, rfl, rfl⟩ rfl rfl rfl rfl rfl (by kernel_rfl) Try.func3 (by kernel_rfl)
    (of_decide_eq_true (by kernel_rfl)) (by unfold Func.isWrapper; first | (rw [if_pos (by decide +kernel)]; kernel_rfl) | (rw [if_neg (by decide +kernel)]; exact ⟨rfl, rfl⟩))
    (fun os started H enc _ => lifted os started H enc)
theorem proved : Rows.WatchAllSaid := over
#print axioms proved
end Go.Proofs.Ytpdanhecaalfbaa.watchAll
namespace Go.Proofs.Ytpdanhecaalfbaa
/-- The row, under a short name, for the claim. -/
theorem watchAll_holds : Rows.WatchAllSaid := watchAll.proved
end Go.Proofs.Ytpdanhecaalfbaa
