/- Proved: the statement BandThree. No conditions. -/
import Derived.Test.YtohopligfihopaaRows
import Derived.Test.YtohopligfihopaaCheck
import Derived.Test.YtohopligfihopaaR1PBandThree
import Derived.ChangeShapes
namespace Go.Proofs.Ytohopligfihopaa.bandThree
open Go.Fw
set_option linter.unusedVariables false
theorem own : ownKnob Try.prog.godebug = none := by kernel_rfl
theorem laidOut : laidOutB Try.prog = true := by kernel_rfl
set_option maxRecDepth 100000 in
theorem lifted (os : Os) (started : os.Started) (H : Type) (enc : TypeId × Value → H) :
    ReturnsInHanded {} Try.checked os 8 .any (Rows.bandThreeSpec.pre6 enc Try.prog Try.f8 Rows.bandThreeRow.domain false) (Rows.bandThreeSpec.post enc Try.prog Try.f8 false true false false) :=
  lift (C := Try.checked) (FT := Go.Cd.FT) (kp := Go.Cd.kp) Go.Cd.sgsAll Go.Cd.okAll Try.func8 own (by kernel_rfl) laidOut (shs := [.ar 2 (.i .u8), .ar 2 (.i .u8), .i .u8]) (ts := [43, 43, 5]) rfl rfl (by kernel_rfl) rfl (by kernel_rfl) (by kernel_rfl) (tb := 4) rfl Try.underlying4 rfl
    (fun ds h => by match ds, h with | [a, b, c], _ => rfl) Go.Cd.law_BandThree started
    (ChangeSpec.witness6 (enc := enc) (C := Try.checked) false ⟨#[], #[.agg #[.int .u8 0, .int .u8 0], .agg #[.int .u8 0, .int .u8 0], .int .u8 0], []⟩ 8 (by kernel_rfl) (by kernel_rfl) (by kernel_rfl) (by kernel_rfl))
theorem over : Rows.bandThreeRow.holds Try.pinned (OpenSpec.ofChange Rows.bandThreeSpec) :=
  OpenClaim.holds_of_wide 8 Try.f8 rfl rfl rfl rfl rfl rfl rfl ⟨rfl, rfl, rfl, rfl, rfl⟩ rfl rfl rfl rfl rfl (by kernel_rfl) Try.func8 (by kernel_rfl)
    (of_decide_eq_true (by kernel_rfl)) (by unfold Func.isWrapper; first | (rw [if_pos (by decide +kernel)]; kernel_rfl) | (rw [if_neg (by decide +kernel)]; exact ⟨rfl, rfl⟩))
    (fun os started H enc _ => lifted os started H enc)
theorem proved : Rows.BandThreeSaid := over
#print axioms proved
end Go.Proofs.Ytohopligfihopaa.bandThree
namespace Go.Proofs.Ytohopligfihopaa
/-- The row, under a short name, for the claim. -/
theorem bandThree_holds : Rows.BandThreeSaid := bandThree.proved
end Go.Proofs.Ytohopligfihopaa
