/- Proved: the statement VmShift. No conditions. -/
import Derived.Test.YteamehchfnccmaaRows
import Derived.Test.YteamehchfnccmaaCheck
import Derived.Test.YteamehchfnccmaaR4PVmShift
import Derived.ChangeShapes
namespace Go.Proofs.Yteamehchfnccmaa.vmShift
open Go.Fw
set_option linter.unusedVariables false
theorem own : ownKnob Try.prog.godebug = none := by kernel_rfl
theorem laidOut : laidOutB Try.prog = true := by kernel_rfl
set_option maxRecDepth 100000 in
theorem lifted (os : Os) (started : os.Started) (H : Type) (enc : TypeId × Value → H) :
    ReturnsInHanded {} Try.checked os 11 .any (Rows.vmShiftSpec.pre6 enc Try.prog Try.f11 Rows.vmShiftRow.domain false) (Rows.vmShiftSpec.post enc Try.prog Try.f11 false true false false) :=
  lift (C := Try.checked) (FT := Go.Cd.FT) (kp := Go.Cd.kp) Go.Cd.sgsAll Go.Cd.okAll Try.func11 own (by kernel_rfl) laidOut (shs := [.i .i64, .i .u8]) (ts := [2, 5]) rfl rfl (by kernel_rfl) rfl (by kernel_rfl) (by kernel_rfl) (tb := 4) rfl Try.underlying4 rfl
    (fun ds h => by match ds, h with | [a, b], _ => rfl) Go.Cd.law_VmShift started
    (ChangeSpec.witness6 (enc := enc) (C := Try.checked) false ⟨#[], #[.int .i64 0, .int .u8 0], []⟩ 8 (by kernel_rfl) (by kernel_rfl) (by kernel_rfl) (by kernel_rfl))
theorem over : Rows.vmShiftRow.holds Try.pinned (OpenSpec.ofChange Rows.vmShiftSpec) :=
  OpenClaim.holds_of_wide 11 Try.f11 rfl rfl rfl rfl rfl rfl rfl ⟨rfl, rfl, rfl, rfl, rfl⟩ rfl rfl rfl rfl rfl (by kernel_rfl) Try.func11 (by kernel_rfl)
    (of_decide_eq_true (by kernel_rfl)) (by unfold Func.isWrapper; first | (rw [if_pos (by decide +kernel)]; kernel_rfl) | (rw [if_neg (by decide +kernel)]; exact ⟨rfl, rfl⟩))
    (fun os started H enc _ => lifted os started H enc)
theorem proved : Rows.VmShiftSaid := over
#print axioms proved
end Go.Proofs.Yteamehchfnccmaa.vmShift
namespace Go.Proofs.Yteamehchfnccmaa
/-- The row, under a short name, for the claim. -/
theorem vmShift_holds : Rows.VmShiftSaid := vmShift.proved
end Go.Proofs.Yteamehchfnccmaa
