/- Proved: the statement TopWays. No conditions. -/
import Derived.Test.YtfddchjmpmjcfaaGreatRows
import Derived.Test.YtfddchjmpmjcfaaGreatCheck
import Derived.Test.YtfddchjmpmjcfaaGreatR8PTopWays
import Derived.ChangeShapes
namespace Go.Proofs.YtfddchjmpmjcfaaGreat.topWays
open Go.Fw
set_option linter.unusedVariables false
theorem own : ownKnob Tryz.prog.godebug = none := by kernel_rfl
theorem laidOut : laidOutB Tryz.prog = true := by kernel_rfl
set_option maxRecDepth 100000 in
theorem lifted (os : Os) (started : os.Started) (H : Type) (enc : TypeId × Value → H) :
    ReturnsInHanded {} Tryz.checked os 7 .any (Rows.topWaysSpec.pre6 enc Tryz.prog Tryz.f7 Rows.topWaysRow.domain false) (Rows.topWaysSpec.post enc Tryz.prog Tryz.f7 false true false false) :=
  lift2 (C := Tryz.checked) (FT := Go.Cd.FT) (kp := Go.Cd.kp) Go.Cd.sgsAll Go.Cd.okAll Tryz.func7 own (by kernel_rfl) laidOut (shs := [.i .i64, .i .u8, .i .u8, .sl (.i .u8)]) (ts := [2, 5, 5, 22]) rfl rfl (by kernel_rfl) rfl (by kernel_rfl) (by kernel_rfl) (tb := 4) rfl Tryz.underlying4 rfl
    (fun ds h => by match ds, h with | [a, b, c, d], _ => rfl) Go.Cd.law2_TopWays started
    (ChangeSpec.witness6 (enc := enc) (C := Tryz.checked) false ⟨#[], #[.int .i64 0, .int .u8 0, .int .u8 0, .slice none 0 0], []⟩ 8 (by kernel_rfl) (by kernel_rfl) (by kernel_rfl) (by kernel_rfl))
theorem over : Rows.topWaysRow.holds Tryz.pinned (OpenSpec.ofChange Rows.topWaysSpec) :=
  OpenClaim.holds_of_wide 7 Tryz.f7 rfl rfl rfl rfl rfl rfl rfl ⟨rfl, rfl, rfl, rfl, rfl⟩ rfl rfl rfl rfl rfl (by kernel_rfl) Tryz.func7 (by kernel_rfl)
    (of_decide_eq_true (by kernel_rfl)) (by unfold Func.isWrapper; first | (rw [if_pos (by decide +kernel)]; kernel_rfl) | (rw [if_neg (by decide +kernel)]; exact ⟨rfl, rfl⟩))
    (fun os started H enc _ => lifted os started H enc)
theorem proved : Rows.TopWaysSaid := over
#print axioms proved
end Go.Proofs.YtfddchjmpmjcfaaGreat.topWays
namespace Go.Proofs.YtfddchjmpmjcfaaGreat
/-- The row, under a short name, for the claim. -/
theorem topWays_holds : Rows.TopWaysSaid := topWays.proved
end Go.Proofs.YtfddchjmpmjcfaaGreat
