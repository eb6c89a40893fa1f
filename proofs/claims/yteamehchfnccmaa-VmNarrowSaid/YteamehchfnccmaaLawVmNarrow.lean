/- Proved: the statement VmNarrow. No conditions. -/
import Derived.Test.YteamehchfnccmaaRows
import Derived.Test.YteamehchfnccmaaCheck
import Derived.Test.YteamehchfnccmaaR4QVm
import Derived.ChangeShapes
namespace Go.Proofs.Yteamehchfnccmaa.vmNarrow
open Go.Fw
set_option linter.unusedVariables false
theorem own : ownKnob Try.prog.godebug = none := by kernel_rfl
theorem laidOut : laidOutB Try.prog = true := by kernel_rfl
set_option maxRecDepth 100000 in
theorem lifted (os : Os) (started : os.Started) (H : Type) (enc : TypeId × Value → H) :
    ReturnsInHanded {} Try.checked os 10 .any (Rows.vmNarrowSpec.pre6 enc Try.prog Try.f10 Rows.vmNarrowRow.domain false) (Rows.vmNarrowSpec.post enc Try.prog Try.f10 false true false false) :=
  lift (C := Try.checked) (FT := Go.Cd.FT) (kp := Go.Cd.kp) Go.Cd.sgsAll Go.Cd.okAll Try.func10 own (by kernel_rfl) laidOut (shs := [.i .i64, .i .u8]) (ts := [2, 5]) rfl rfl (by kernel_rfl) rfl (by kernel_rfl) (by kernel_rfl) (tb := 4) rfl Try.underlying4 rfl
    (fun ds h => by match ds, h with | [a, b], _ => rfl) Go.Cd.law_VmNarrow started
    (ChangeSpec.witness6 (enc := enc) (C := Try.checked) false ⟨#[], #[.int .i64 0, .int .u8 0], []⟩ 8 (by kernel_rfl) (by kernel_rfl) (by kernel_rfl) (by kernel_rfl))
theorem over : Rows.vmNarrowRow.holds Try.pinned (OpenSpec.ofChange Rows.vmNarrowSpec) :=
  OpenClaim.holds_of_wide 10 Try.f10 rfl rfl rfl rfl rfl rfl rfl ⟨rfl, rfl, rfl, rfl, rfl⟩ rfl rfl rfl rfl rfl (by kernel_rfl) Try.func10 (by kernel_rfl)
    (of_decide_eq_true (by kernel_rfl)) (by unfold Func.isWrapper; first | (rw [if_pos (by decide +kernel)]; kernel_rfl) | (rw [if_neg (by decide +kernel)]; exact ⟨rfl, rfl⟩))
    (fun os started H enc _ => lifted os started H enc)
theorem proved : Rows.VmNarrowSaid := over
#print axioms proved
end Go.Proofs.Yteamehchfnccmaa.vmNarrow
namespace Go.Proofs.Yteamehchfnccmaa
/-- The row, under a short name, for the claim. -/
theorem vmNarrow_holds : Rows.VmNarrowSaid := vmNarrow.proved
end Go.Proofs.Yteamehchfnccmaa
