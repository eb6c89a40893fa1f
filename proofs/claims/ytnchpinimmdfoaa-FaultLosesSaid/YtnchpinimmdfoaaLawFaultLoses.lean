/- Proved: the statement FaultLoses. No conditions. -/
import Derived.Test.YtnchpinimmdfoaaRows
import Derived.Test.YtnchpinimmdfoaaCheck
import Derived.Test.YtnchpinimmdfoaaR5PFaultLoses
import Derived.ChangeShapes
namespace Go.Proofs.Ytnchpinimmdfoaa.faultLoses
open Go.Fw
set_option linter.unusedVariables false
theorem own : ownKnob Try.prog.godebug = none := by kernel_rfl
theorem laidOut : laidOutB Try.prog = true := by kernel_rfl
set_option maxRecDepth 100000 in
theorem lifted (os : Os) (started : os.Started) (H : Type) (enc : TypeId × Value → H) :
    ReturnsInHanded {} Try.checked os 5 .any (Rows.faultLosesSpec.pre6 enc Try.prog Try.f5 Rows.faultLosesRow.domain false) (Rows.faultLosesSpec.post enc Try.prog Try.f5 false true false false) :=
  lift (C := Try.checked) (FT := Go.Cd.FT) (kp := Go.Cd.kp) Go.Cd.sgsAll Go.Cd.okAll Try.func5 own (by kernel_rfl) laidOut (shs := [.sl (.i .u8), .i .u8]) (ts := [22, 5]) rfl rfl (by kernel_rfl) rfl (by kernel_rfl) (by kernel_rfl) (tb := 4) rfl Try.underlying4 rfl
    (fun ds h => by match ds, h with | [a, b], _ => rfl) Go.Cd.law_FaultLoses started
    (ChangeSpec.witness6 (enc := enc) (C := Try.checked) false ⟨#[], #[.slice none 0 0, .int .u8 0], []⟩ 8 (by kernel_rfl) (by kernel_rfl) (by kernel_rfl) (by kernel_rfl))
theorem over : Rows.faultLosesRow.holds Try.pinned (OpenSpec.ofChange Rows.faultLosesSpec) :=
  OpenClaim.holds_of_wide 5 Try.f5 rfl rfl rfl rfl rfl rfl rfl ⟨rfl, rfl, rfl, rfl, rfl⟩ rfl rfl rfl rfl rfl (by kernel_rfl) Try.func5 (by kernel_rfl)
    (of_decide_eq_true (by kernel_rfl)) (by unfold Func.isWrapper; first | (rw [if_pos (by decide +kernel)]; kernel_rfl) | (rw [if_neg (by decide +kernel)]; exact ⟨rfl, rfl⟩))
    (fun os started H enc _ => lifted os started H enc)
theorem proved : Rows.FaultLosesSaid := over
#print axioms proved
end Go.Proofs.Ytnchpinimmdfoaa.faultLoses
namespace Go.Proofs.Ytnchpinimmdfoaa
/-- The row, under a short name, for the claim. -/
theorem faultLoses_holds : Rows.FaultLosesSaid := faultLoses.proved
end Go.Proofs.Ytnchpinimmdfoaa
