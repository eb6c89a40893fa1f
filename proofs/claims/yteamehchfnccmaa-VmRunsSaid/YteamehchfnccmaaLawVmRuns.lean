/- Proved: the statement VmRuns. No conditions. -/
import Derived.Test.YteamehchfnccmaaRows
import Derived.Test.YteamehchfnccmaaCheck
import Derived.Test.YteamehchfnccmaaR4PVmRuns
import Derived.ChangeShapes
namespace Go.Proofs.Yteamehchfnccmaa.vmRuns
open Go.Fw
set_option linter.unusedVariables false
theorem own : ownKnob Try.prog.godebug = none := by kernel_rfl
theorem laidOut : laidOutB Try.prog = true := by kernel_rfl
set_option maxRecDepth 100000 in
theorem lifted (os : Os) (started : os.Started) (H : Type) (enc : TypeId × Value → H) :
    ReturnsInHanded {} Try.checked os 9 .any (Rows.vmRunsSpec.pre6 enc Try.prog Try.f9 Rows.vmRunsRow.domain false) (Rows.vmRunsSpec.post enc Try.prog Try.f9 false true false false) :=
  lift2 (C := Try.checked) (FT := Go.Cd.FT) (kp := Go.Cd.kp) Go.Cd.sgsAll Go.Cd.okAll Try.func9 own (by kernel_rfl) laidOut (shs := [.sl (.i .u8), .i .i64]) (ts := [25, 2]) rfl rfl (by kernel_rfl) rfl (by kernel_rfl) (by kernel_rfl) (tb := 4) rfl Try.underlying4 rfl
    (fun ds h => by match ds, h with | [a, b], _ => rfl) Go.Cd.law2_VmRuns started
    (ChangeSpec.witness6 (enc := enc) (C := Try.checked) false ⟨#[], #[.slice none 0 0, .int .i64 0], []⟩ 8 (by kernel_rfl) (by kernel_rfl) (by kernel_rfl) (by kernel_rfl))
theorem over : Rows.vmRunsRow.holds Try.pinned (OpenSpec.ofChange Rows.vmRunsSpec) :=
  OpenClaim.holds_of_wide 9 Try.f9 rfl rfl rfl rfl rfl rfl rfl ⟨rfl, rfl, rfl, rfl, rfl⟩ rfl rfl rfl rfl rfl (by kernel_rfl) Try.func9 (by kernel_rfl)
    (of_decide_eq_true (by kernel_rfl)) (by unfold Func.isWrapper; first | (rw [if_pos (by decide +kernel)]; kernel_rfl) | (rw [if_neg (by decide +kernel)]; exact ⟨rfl, rfl⟩))
    (fun os started H enc _ => lifted os started H enc)
theorem proved : Rows.VmRunsSaid := over
#print axioms proved
end Go.Proofs.Yteamehchfnccmaa.vmRuns
namespace Go.Proofs.Yteamehchfnccmaa
/-- The row, under a short name, for the claim. -/
theorem vmRuns_holds : Rows.VmRunsSaid := vmRuns.proved
end Go.Proofs.Yteamehchfnccmaa
