/- Proved: the statement SatOrder. No conditions. -/
import Derived.Test.YtjedomkpjidmbaaRows
import Derived.Test.YtjedomkpjidmbaaCheck
import Derived.Test.YtjedomkpjidmbaaR3PSatOrder
import Derived.ChangeShapes
namespace Go.Proofs.Ytjedomkpjidmbaa.satOrder
open Go.Fw
set_option linter.unusedVariables false
theorem own : ownKnob Try.prog.godebug = none := by kernel_rfl
theorem laidOut : laidOutB Try.prog = true := by kernel_rfl
set_option maxRecDepth 100000 in
theorem lifted (os : Os) (started : os.Started) (H : Type) (enc : TypeId × Value → H) :
    ReturnsInHanded {} Try.checked os 11 .any (Rows.satOrderSpec.pre6 enc Try.prog Try.f11 Rows.satOrderRow.domain false) (Rows.satOrderSpec.post enc Try.prog Try.f11 false true false false) :=
  lift (C := Try.checked) (FT := Go.Cd.FT) (kp := Go.Cd.kp) Go.Cd.sgsAll Go.Cd.okAll Try.func11 own (by kernel_rfl) laidOut (shs := [.i .i64, .i .i64, .i .i64]) (ts := [2, 2, 2]) rfl rfl (by kernel_rfl) rfl (by kernel_rfl) (by kernel_rfl) (tb := 4) rfl Try.underlying4 rfl
    (fun ds h => by match ds, h with | [a, b, c], _ => rfl) Go.Cd.law_SatOrder started
    (ChangeSpec.witness6 (enc := enc) (C := Try.checked) false ⟨#[], #[.int .i64 0, .int .i64 0, .int .i64 0], []⟩ 8 (by kernel_rfl) (by kernel_rfl) (by kernel_rfl) (by kernel_rfl))
theorem over : Rows.satOrderRow.holds Try.pinned (OpenSpec.ofChange Rows.satOrderSpec) :=
  OpenClaim.holds_of_wide 11 Try.f11 rfl rfl rfl rfl rfl rfl rfl ⟨rfl, rfl, rfl, rfl, rfl⟩ rfl rfl rfl rfl rfl (by kernel_rfl) Try.func11 (by kernel_rfl)
    (of_decide_eq_true (by kernel_rfl)) (by unfold Func.isWrapper; first | (rw [if_pos (by decide +kernel)]; kernel_rfl) | (rw [if_neg (by decide +kernel)]; exact ⟨rfl, rfl⟩))
    (fun os started H enc _ => lifted os started H enc)
theorem proved : Rows.SatOrderSaid := over
#print axioms proved
end Go.Proofs.Ytjedomkpjidmbaa.satOrder
namespace Go.Proofs.Ytjedomkpjidmbaa
/-- The row, under a short name, for the claim. -/
theorem satOrder_holds : Rows.SatOrderSaid := satOrder.proved
end Go.Proofs.Ytjedomkpjidmbaa
