/- Proved: the statement SatHalves. No conditions. -/
import Derived.Test.YtjedomkpjidmbaaRows
import Derived.Test.YtjedomkpjidmbaaCheck
import Derived.Test.YtjedomkpjidmbaaR3PSatHalves
import Derived.ChangeShapes
namespace Go.Proofs.Ytjedomkpjidmbaa.satHalves
open Go.Fw
set_option linter.unusedVariables false
theorem own : ownKnob Try.prog.godebug = none := by kernel_rfl
theorem laidOut : laidOutB Try.prog = true := by kernel_rfl
set_option maxRecDepth 100000 in
theorem lifted (os : Os) (started : os.Started) (H : Type) (enc : TypeId × Value → H) :
    ReturnsInHanded {} Try.checked os 12 .any (Rows.satHalvesSpec.pre6 enc Try.prog Try.f12 Rows.satHalvesRow.domain false) (Rows.satHalvesSpec.post enc Try.prog Try.f12 false true false false) :=
  lift (C := Try.checked) (FT := Go.Cd.FT) (kp := Go.Cd.kp) Go.Cd.sgsAll Go.Cd.okAll Try.func12 own (by kernel_rfl) laidOut (shs := [.i .i32, .i .i32, .i .u8]) (ts := [21, 21, 5]) rfl rfl (by kernel_rfl) rfl (by kernel_rfl) (by kernel_rfl) (tb := 4) rfl Try.underlying4 rfl
    (fun ds h => by match ds, h with | [a, b, c], _ => rfl) Go.Cd.law_SatHalves started
    (ChangeSpec.witness6 (enc := enc) (C := Try.checked) false ⟨#[], #[.int .i32 0, .int .i32 0, .int .u8 0], []⟩ 8 (by kernel_rfl) (by kernel_rfl) (by kernel_rfl) (by kernel_rfl))
theorem over : Rows.satHalvesRow.holds Try.pinned (OpenSpec.ofChange Rows.satHalvesSpec) :=
  OpenClaim.holds_of_wide 12 Try.f12 rfl rfl rfl rfl rfl rfl rfl ⟨rfl, rfl, rfl, rfl, rfl⟩ rfl rfl rfl rfl rfl (by kernel_rfl) Try.func12 (by kernel_rfl)
    (of_decide_eq_true (by kernel_rfl)) (by unfold Func.isWrapper; first | (rw [if_pos (by decide +kernel)]; kernel_rfl) | (rw [if_neg (by decide +kernel)]; exact ⟨rfl, rfl⟩))
    (fun os started H enc _ => lifted os started H enc)
theorem proved : Rows.SatHalvesSaid := over
#print axioms proved
end Go.Proofs.Ytjedomkpjidmbaa.satHalves
namespace Go.Proofs.Ytjedomkpjidmbaa
/-- The row, under a short name, for the claim. -/
theorem satHalves_holds : Rows.SatHalvesSaid := satHalves.proved
end Go.Proofs.Ytjedomkpjidmbaa
