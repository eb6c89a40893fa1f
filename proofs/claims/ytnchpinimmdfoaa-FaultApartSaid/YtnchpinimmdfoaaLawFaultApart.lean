/- Proved: the statement FaultApart. No conditions. -/
import Derived.Test.YtnchpinimmdfoaaRows
import Derived.Test.YtnchpinimmdfoaaCheck
import Derived.Test.YtnchpinimmdfoaaR5PFaultApart
import Derived.ChangeShapes
namespace Go.Proofs.Ytnchpinimmdfoaa.faultApart
open Go.Fw
set_option linter.unusedVariables false
theorem own : ownKnob Try.prog.godebug = none := by kernel_rfl
theorem laidOut : laidOutB Try.prog = true := by kernel_rfl
set_option maxRecDepth 100000 in
theorem lifted (os : Os) (started : os.Started) (H : Type) (enc : TypeId × Value → H) :
    ReturnsInHanded {} Try.checked os 3 .any (Rows.faultApartSpec.pre6 enc Try.prog Try.f3 Rows.faultApartRow.domain false) (Rows.faultApartSpec.post enc Try.prog Try.f3 false true false false) :=
  lift (C := Try.checked) (FT := Go.Cd.FT) (kp := Go.Cd.kp) Go.Cd.sgsAll Go.Cd.okAll Try.func3 own (by kernel_rfl) laidOut (shs := [.i .u8, .i .u8, .sl (.i .u8), .sl (.st [.i .i64, .i .i64])]) (ts := [5, 5, 22, 23]) rfl rfl (by kernel_rfl) rfl (by kernel_rfl) (by kernel_rfl) (tb := 4) rfl Try.underlying4 rfl
    (fun ds h => by match ds, h with | [a, b, c, d], _ => rfl) Go.Cd.law_FaultApart started
    (ChangeSpec.witness6 (enc := enc) (C := Try.checked) false ⟨#[], #[.int .u8 0, .int .u8 0, .slice none 0 0, .slice none 0 0], []⟩ 8 (by kernel_rfl) (by kernel_rfl) (by kernel_rfl) (by kernel_rfl))
theorem over : Rows.faultApartRow.holds Try.pinned (OpenSpec.ofChange Rows.faultApartSpec) :=
  OpenClaim.holds_of_wide 3 Try.f3 rfl rfl rfl rfl rfl rfl rfl ⟨rfl, rfl, rfl, rfl, rfl⟩ rfl rfl rfl rfl rfl (by kernel_rfl) Try.func3 (by kernel_rfl)
    (of_decide_eq_true (by kernel_rfl)) (by unfold Func.isWrapper; first | (rw [if_pos (by decide +kernel)]; kernel_rfl) | (rw [if_neg (by decide +kernel)]; exact ⟨rfl, rfl⟩))
    (fun os started H enc _ => lifted os started H enc)
theorem proved : Rows.FaultApartSaid := over
#print axioms proved
end Go.Proofs.Ytnchpinimmdfoaa.faultApart
namespace Go.Proofs.Ytnchpinimmdfoaa
/-- The row, under a short name, for the claim. -/
theorem faultApart_holds : Rows.FaultApartSaid := faultApart.proved
end Go.Proofs.Ytnchpinimmdfoaa
