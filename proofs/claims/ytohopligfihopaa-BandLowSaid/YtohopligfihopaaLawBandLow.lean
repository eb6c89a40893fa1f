/- Proved: the statement BandLow. No conditions. -/
import Derived.Test.YtohopligfihopaaRows
import Derived.Test.YtohopligfihopaaCheck
import Derived.Test.YtohopligfihopaaR1PBandLow
import Derived.ChangeShapes
namespace Go.Proofs.Ytohopligfihopaa.bandLow
open Go.Fw
set_option linter.unusedVariables false
theorem own : ownKnob Try.prog.godebug = none := by kernel_rfl
theorem laidOut : laidOutB Try.prog = true := by kernel_rfl
set_option maxRecDepth 100000 in
theorem lifted (os : Os) (started : os.Started) (H : Type) (enc : TypeId × Value → H) :
    ReturnsInHanded {} Try.checked os 9 .any (Rows.bandLowSpec.pre6 enc Try.prog Try.f9 Rows.bandLowRow.domain false) (Rows.bandLowSpec.post enc Try.prog Try.f9 false true false false) :=
  lift (C := Try.checked) (FT := Go.Cd.FT) (kp := Go.Cd.kp) Go.Cd.sgsAll Go.Cd.okAll Try.func9 own (by kernel_rfl) laidOut (shs := [.i .u8, .i .u8, .i .u8, .sl (.i .u8), .ar 4 (.i .u8), .ar 4 (.i .u8)]) (ts := [5, 5, 5, 45, 46, 46]) rfl rfl (by kernel_rfl) rfl (by kernel_rfl) (by kernel_rfl) (tb := 4) rfl Try.underlying4 rfl
    (fun ds h => by match ds, h with | [a, b, c, d, e, f], _ => rfl) Go.Cd.law_BandLow started
    (ChangeSpec.witness6 (enc := enc) (C := Try.checked) false ⟨#[], #[.int .u8 0, .int .u8 0, .int .u8 0, .slice none 0 0, .agg #[.int .u8 0, .int .u8 0, .int .u8 0, .int .u8 0], .agg #[.int .u8 0, .int .u8 0, .int .u8 0, .int .u8 0]], []⟩ 8 (by kernel_rfl) (by kernel_rfl) (by kernel_rfl) (by kernel_rfl))
theorem over : Rows.bandLowRow.holds Try.pinned (OpenSpec.ofChange Rows.bandLowSpec) :=
  OpenClaim.holds_of_wide 9 Try.f9 rfl rfl rfl rfl rfl rfl rfl ⟨rfl, rfl, rfl, rfl, rfl⟩ rfl rfl rfl rfl rfl (by kernel_rfl) Try.func9 (by kernel_rfl)
    (of_decide_eq_true (by kernel_rfl)) (by unfold Func.isWrapper; first | (rw [if_pos (by decide +kernel)]; kernel_rfl) | (rw [if_neg (by decide +kernel)]; exact ⟨rfl, rfl⟩))
    (fun os started H enc _ => lifted os started H enc)
theorem proved : Rows.BandLowSaid := over
#print axioms proved
end Go.Proofs.Ytohopligfihopaa.bandLow
namespace Go.Proofs.Ytohopligfihopaa
/-- The row, under a short name, for the claim. -/
theorem bandLow_holds : Rows.BandLowSaid := bandLow.proved
end Go.Proofs.Ytohopligfihopaa
