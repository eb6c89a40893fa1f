/- Proved: the statement WatchStops. No conditions. -/
import Derived.Test.YtpdanhecaalfbaaRows
import Derived.Test.YtpdanhecaalfbaaCheck
import Derived.Test.YtpdanhecaalfbaaR2PWatchStops
import Derived.ChangeShapes
namespace Go.Proofs.Ytpdanhecaalfbaa.watchStops
open Go.Fw
set_option linter.unusedVariables false
theorem own : ownKnob Try.prog.godebug = none := by kernel_rfl
theorem laidOut : laidOutB Try.prog = true := by kernel_rfl
set_option maxRecDepth 100000 in
theorem lifted (os : Os) (started : os.Started) (H : Type) (enc : TypeId × Value → H) :
    ReturnsInHanded {} Try.checked os 4 .any (Rows.watchStopsSpec.pre6 enc Try.prog Try.f4 Rows.watchStopsRow.domain false) (Rows.watchStopsSpec.post enc Try.prog Try.f4 false true false false) :=
  lift (C := Try.checked) (FT := Go.Cd.FT) (kp := Go.Cd.kp) Go.Cd.sgsAll Go.Cd.okAll Try.func4 own (by kernel_rfl) laidOut (shs := [.i .u8, .sl (.ar 2 (.i .u8))]) (ts := [5, 22]) rfl rfl (by kernel_rfl) rfl (by kernel_rfl) (by kernel_rfl) (tb := 4) rfl Try.underlying4 rfl
    (fun ds h => by match ds, h with | [a, b], _ => rfl) Go.Cd.law_WatchStops started
    (ChangeSpec.witness6 (enc := enc) (C := Try.checked) false ⟨#[], #[.int .u8 0, .slice none 0 0], []⟩ 8 (by kernel_rfl) (by kernel_rfl) (by kernel_rfl) (by kernel_rfl))
theorem over : Rows.watchStopsRow.holds Try.pinned (OpenSpec.ofChange Rows.watchStopsSpec) :=
  OpenClaim.holds_of_wide 4 Try.f4 rfl rfl rfl rfl rfl rfl rfl ⟨rfl, rfl, rfl, rfl, rfl⟩ rfl rfl rfl rfl rfl (by kernel_rfl) Try.func4 (by kernel_rfl)
    (of_decide_eq_true (by kernel_rfl)) (by unfold Func.isWrapper; first | (rw [if_pos (by decide +kernel)]; kernel_rfl) | (rw [if_neg (by decide +kernel)]; exact ⟨rfl, rfl⟩))
    (fun os started H enc _ => lifted os started H enc)
theorem proved : Rows.WatchStopsSaid := over
#print axioms proved
end Go.Proofs.Ytpdanhecaalfbaa.watchStops
namespace Go.Proofs.Ytpdanhecaalfbaa
/-- The row, under a short name, for the claim. -/
theorem watchStops_holds : Rows.WatchStopsSaid := watchStops.proved
end Go.Proofs.Ytpdanhecaalfbaa
