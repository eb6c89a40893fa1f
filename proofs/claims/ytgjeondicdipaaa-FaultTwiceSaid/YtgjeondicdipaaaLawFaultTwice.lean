/- Proved: the statement FaultTwice. No conditions. -/
import Derived.Test.YtgjeondicdipaaaRows
import Derived.Test.YtgjeondicdipaaaCheck
import Derived.Test.YtgjeondicdipaaaR9PFaultTwice
import Derived.ChangeShapes
namespace Go.Proofs.Ytgjeondicdipaaa.faultTwice
open Go.Fw
set_option linter.unusedVariables false
theorem own : ownKnob Try.prog.godebug = none := by kernel_rfl
theorem laidOut : laidOutB Try.prog = true := by kernel_rfl
set_option maxRecDepth 100000 in
theorem lifted (os : Os) (started : os.Started) (H : Type) (enc : TypeId × Value → H) :
    ReturnsInHanded {} Try.checked os 3 .any (Rows.faultTwiceSpec.pre6 enc Try.prog Try.f3 Rows.faultTwiceRow.domain false) (Rows.faultTwiceSpec.post enc Try.prog Try.f3 false true false false) :=
  lift2 (C := Try.checked) (FT := Go.Cd.FT) (kp := Go.Cd.kp) Go.Cd.sgsAll Go.Cd.okAll Try.func3 own (by kernel_rfl) laidOut (shs := [.sl (.i .u8), .i .i64, .i .u8]) (ts := [22, 2, 5]) rfl rfl (by kernel_rfl) rfl (by kernel_rfl) (by kernel_rfl) (tb := 4) rfl Try.underlying4 rfl
    (fun ds h => by match ds, h with | [a, b, c], _ => rfl) Go.Cd.law2_FaultTwice started
    (ChangeSpec.witness6 (enc := enc) (C := Try.checked) false ⟨#[], #[.slice none 0 0, .int .i64 0, .int .u8 0], []⟩ 8 (by kernel_rfl) (by kernel_rfl) (by kernel_rfl) (by kernel_rfl))
theorem over : Rows.faultTwiceRow.holds Try.pinned (OpenSpec.ofChange Rows.faultTwiceSpec) :=
  OpenClaim.holds_of_wide 3 Try.f3 rfl rfl rfl rfl rfl rfl rfl ⟨rfl, rfl, rfl, rfl, rfl⟩ rfl rfl rfl rfl rfl (by kernel_rfl) Try.func3 (by kernel_rfl)
    (of_decide_eq_true (by kernel_rfl)) (by unfold Func.isWrapper; first | (rw [if_pos (by decide +kernel)]; kernel_rfl) | (rw [if_neg (by decide +kernel)]; exact ⟨rfl, rfl⟩))
    (fun os started H enc _ => lifted os started H enc)
theorem proved : Rows.FaultTwiceSaid := over
#print axioms proved
end Go.Proofs.Ytgjeondicdipaaa.faultTwice
namespace Go.Proofs.Ytgjeondicdipaaa
/-- The row, under a short name, for the claim. -/
theorem faultTwice_holds : Rows.FaultTwiceSaid := faultTwice.proved
end Go.Proofs.Ytgjeondicdipaaa
