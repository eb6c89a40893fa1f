/- Proved: the statement TopMarks. No conditions. -/
import Derived.Test.YtfddchjmpmjcfaaGreatRows
import Derived.Test.YtfddchjmpmjcfaaGreatCheck
import Derived.Test.YtfddchjmpmjcfaaGreatR8PTopMarks
import Derived.ChangeShapes
namespace Go.Proofs.YtfddchjmpmjcfaaGreat.topMarks
open Go.Fw
set_option linter.unusedVariables false
theorem own : ownKnob Tryz.prog.godebug = none := by kernel_rfl
theorem laidOut : laidOutB Tryz.prog = true := by kernel_rfl
set_option maxRecDepth 100000 in
theorem lifted (os : Os) (started : os.Started) (H : Type) (enc : TypeId × Value → H) :
    ReturnsInHanded {} Tryz.checked os 8 .any (Rows.topMarksSpec.pre6 enc Tryz.prog Tryz.f8 Rows.topMarksRow.domain false) (Rows.topMarksSpec.post enc Tryz.prog Tryz.f8 false true false false) :=
  lift2 (C := Tryz.checked) (FT := Go.Cd.FT) (kp := Go.Cd.kp) Go.Cd.sgsAll Go.Cd.okAll Tryz.func8 own (by kernel_rfl) laidOut (shs := [.sl (.i .u8), .i .u8]) (ts := [22, 5]) rfl rfl (by kernel_rfl) rfl (by kernel_rfl) (by kernel_rfl) (tb := 4) rfl Tryz.underlying4 rfl
    (fun ds h => by match ds, h with | [a, b], _ => rfl) Go.Cd.law2_TopMarks started
    (ChangeSpec.witness6 (enc := enc) (C := Tryz.checked) false ⟨#[], #[.slice none 0 0, .int .u8 0], []⟩ 8 (by kernel_rfl) (by kernel_rfl) (by kernel_rfl) (by kernel_rfl))
theorem over : Rows.topMarksRow.holds Tryz.pinned (OpenSpec.ofChange Rows.topMarksSpec) :=
  OpenClaim.holds_of_wide 8 Tryz.f8 rfl rfl rfl rfl rfl rfl rfl ⟨rfl, rfl, rfl, rfl, rfl⟩ rfl rfl rfl rfl rfl (by kernel_rfl) Tryz.func8 (by kernel_rfl)
    (of_decide_eq_true (by kernel_rfl)) (by unfold Func.isWrapper; first | (rw [if_pos (by decide +kernel)]; kernel_rfl) | (rw [if_neg (by decide +kernel)]; exact ⟨rfl, rfl⟩))
    (fun os started H enc _ => lifted os started H enc)
theorem proved : Rows.TopMarksSaid := over
#print axioms proved
end Go.Proofs.YtfddchjmpmjcfaaGreat.topMarks
namespace Go.Proofs.YtfddchjmpmjcfaaGreat
/-- The row, under a short name, for the claim. -/
theorem topMarks_holds : Rows.TopMarksSaid := topMarks.proved
end Go.Proofs.YtfddchjmpmjcfaaGreat
