/- Proved: the statement VmAll. No conditions. -/
import Derived.Test.YteamehchfnccmaaRows
import Derived.Test.YteamehchfnccmaaCheck
import Derived.Test.YteamehchfnccmaaR4PVmAll
import Derived.ChangeShapes
namespace Go.Proofs.Yteamehchfnccmaa.vmAll
open Go.Fw
set_option linter.unusedVariables false
theorem own : ownKnob Try.prog.godebug = none := by kernel_rfl
theorem laidOut : laidOutB Try.prog = true := by kernel_rfl
set_option maxRecDepth 100000 in
theorem lifted (os : Os) (started : os.Started) (H : Type) (enc : TypeId × Value → H) :
    ReturnsInHanded {} Try.checked os 8 .any (Rows.vmAllSpec.pre6 enc Try.prog Try.f8 Rows.vmAllRow.domain false) (Rows.vmAllSpec.post enc Try.prog Try.f8 false true false false) :=
  lift2 (C := Try.checked) (FT := Go.Cd.FT) (kp := Go.Cd.kp) Go.Cd.sgsAll Go.Cd.okAll Try.func8 own (by kernel_rfl) laidOut (shs := [.sl (.i .u8), .sl (.st [.i .i64, .i .i64, .i .i64, .i .i64]), .st [.i .i64, .ar 8 (.i .i64), .sl (.st [.i .i64, .i .i64, .i .i64]), .b], .i .i64, .i .i64]) (ts := [25, 24, 44, 2, 3]) rfl rfl (by kernel_rfl) rfl (by kernel_rfl) (by kernel_rfl) (tb := 4) rfl Try.underlying4 rfl
    (fun ds h => by match ds, h with | [a, b, c, d, e], _ => rfl) Go.Cd.law2_VmAll started
    (ChangeSpec.witness6 (enc := enc) (C := Try.checked) false ⟨#[], #[.slice none 0 0, .slice none 0 0, .agg #[.int .i64 0, .int .i64 0, .int .i64 0, .int .i64 0, .int .i64 0, .int .i64 0, .int .i64 0, .int .i64 0, .int .i64 0, .slice none 0 0, .bool false], .int .i64 0, .int .i64 0], []⟩ 8 (by kernel_rfl) (by kernel_rfl) (by kernel_rfl) (by kernel_rfl))
theorem over : Rows.vmAllRow.holds Try.pinned (OpenSpec.ofChange Rows.vmAllSpec) :=
  OpenClaim.holds_of_wide 8 Try.f8 rfl rfl rfl rfl rfl rfl rfl ⟨rfl, rfl, rfl, rfl, rfl⟩ rfl rfl rfl rfl rfl (by kernel_rfl) Try.func8 (by kernel_rfl)
    (of_decide_eq_true (by kernel_rfl)) (by unfold Func.isWrapper; first | (rw [if_pos (by decide +kernel)]; kernel_rfl) | (rw [if_neg (by decide +kernel)]; exact ⟨rfl, rfl⟩))
    (fun os started H enc _ => lifted os started H enc)
theorem proved : Rows.VmAllSaid := over
#print axioms proved
end Go.Proofs.Yteamehchfnccmaa.vmAll
namespace Go.Proofs.Yteamehchfnccmaa
/-- The row, under a short name, for the claim. -/
theorem vmAll_holds : Rows.VmAllSaid := vmAll.proved
end Go.Proofs.Yteamehchfnccmaa
