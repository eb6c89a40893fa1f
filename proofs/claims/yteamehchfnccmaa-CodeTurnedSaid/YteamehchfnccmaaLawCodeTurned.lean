/- Proved: the statement CodeTurned. No conditions. -/
import Derived.Test.YteamehchfnccmaaRows
import Derived.Test.YteamehchfnccmaaCheck
import Derived.Test.YteamehchfnccmaaR4PCodeTurned
import Derived.ChangeShapes
namespace Go.Proofs.Yteamehchfnccmaa.codeTurned
open Go.Fw
set_option linter.unusedVariables false
theorem own : ownKnob Try.prog.godebug = none := by kernel_rfl
theorem laidOut : laidOutB Try.prog = true := by kernel_rfl
set_option maxRecDepth 100000 in
theorem lifted (os : Os) (started : os.Started) (H : Type) (enc : TypeId × Value → H) :
    ReturnsInHanded {} Try.checked os 5 .any (Rows.codeTurnedSpec.pre6 enc Try.prog Try.f5 Rows.codeTurnedRow.domain false) (Rows.codeTurnedSpec.post enc Try.prog Try.f5 false true false false) :=
  lift2 (C := Try.checked) (FT := Go.Cd.FT) (kp := Go.Cd.kp) Go.Cd.sgsAll Go.Cd.okAll Try.func5 own (by kernel_rfl) laidOut (shs := [.sl (.i .u8), .ar 3 (.i .u8), .ar 3 (.i .u8)]) (ts := [25, 38, 38]) rfl rfl (by kernel_rfl) rfl (by kernel_rfl) (by kernel_rfl) (tb := 4) rfl Try.underlying4 rfl
    (fun ds h => by match ds, h with | [a, b, c], _ => rfl) Go.Cd.law2_CodeTurned started
    (ChangeSpec.witness6 (enc := enc) (C := Try.checked) false ⟨#[], #[.slice none 0 0, .agg #[.int .u8 0, .int .u8 0, .int .u8 0], .agg #[.int .u8 0, .int .u8 0, .int .u8 0]], []⟩ 8 (by kernel_rfl) (by kernel_rfl) (by kernel_rfl) (by kernel_rfl))
theorem over : Rows.codeTurnedRow.holds Try.pinned (OpenSpec.ofChange Rows.codeTurnedSpec) :=
  OpenClaim.holds_of_wide 5 Try.f5 rfl rfl rfl rfl rfl rfl rfl ⟨rfl, rfl, rfl, rfl, rfl⟩ rfl rfl rfl rfl rfl (by kernel_rfl) Try.func5 (by kernel_rfl)
    (of_decide_eq_true (by kernel_rfl)) (by unfold Func.isWrapper; first | (rw [if_pos (by decide +kernel)]; kernel_rfl) | (rw [if_neg (by decide +kernel)]; exact ⟨rfl, rfl⟩))
    (fun os started H enc _ => lifted os started H enc)
theorem proved : Rows.CodeTurnedSaid := over
#print axioms proved
end Go.Proofs.Yteamehchfnccmaa.codeTurned
namespace Go.Proofs.Yteamehchfnccmaa
/-- The row, under a short name, for the claim. -/
theorem codeTurned_holds : Rows.CodeTurnedSaid := codeTurned.proved
end Go.Proofs.Yteamehchfnccmaa
