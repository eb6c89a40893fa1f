/- Proved: the statement SealTurned. No conditions. -/
import Derived.Test.YtohopligfihopaaRows
import Derived.Test.YtohopligfihopaaCheck
import Derived.Test.YtohopligfihopaaR1PSealTurned
import Derived.ChangeShapes
namespace Go.Proofs.Ytohopligfihopaa.sealTurned
open Go.Fw
set_option linter.unusedVariables false
theorem own : ownKnob Try.prog.godebug = none := by kernel_rfl
theorem laidOut : laidOutB Try.prog = true := by kernel_rfl
set_option maxRecDepth 100000 in
theorem lifted (os : Os) (started : os.Started) (H : Type) (enc : TypeId × Value → H) :
    ReturnsInHanded {} Try.checked os 4 .any (Rows.sealTurnedSpec.pre6 enc Try.prog Try.f4 Rows.sealTurnedRow.domain false) (Rows.sealTurnedSpec.post enc Try.prog Try.f4 false true false false) :=
  lift (C := Try.checked) (FT := Go.Cd.FT) (kp := Go.Cd.kp) Go.Cd.sgsAll Go.Cd.okAll Try.func4 own (by kernel_rfl) laidOut (shs := [.sl (.i .i64), .i .u8, .i .u8, .i .u8]) (ts := [22, 5, 5, 5]) rfl rfl (by kernel_rfl) rfl (by kernel_rfl) (by kernel_rfl) (tb := 4) rfl Try.underlying4 rfl
    (fun ds h => by match ds, h with | [a, b, c, d], _ => rfl) Go.Cd.law_SealTurned started
    (ChangeSpec.witness6 (enc := enc) (C := Try.checked) false ⟨#[], #[.slice none 0 0, .int .u8 0, .int .u8 0, .int .u8 0], []⟩ 8 (by kernel_rfl) (by kernel_rfl) (by kernel_rfl) (by kernel_rfl))
theorem over : Rows.sealTurnedRow.holds Try.pinned (OpenSpec.ofChange Rows.sealTurnedSpec) :=
  OpenClaim.holds_of_wide 4 Try.f4 rfl rfl rfl rfl rfl rfl rfl ⟨rfl, rfl, rfl, rfl, rfl⟩ rfl rfl rfl rfl rfl (by kernel_rfl) Try.func4 (by kernel_rfl)
    (of_decide_eq_true (by kernel_rfl)) (by unfold Func.isWrapper; first | (rw [if_pos (by decide +kernel)]; kernel_rfl) | (rw [if_neg (by decide +kernel)]; exact ⟨rfl, rfl⟩))
    (fun os started H enc _ => lifted os started H enc)
theorem proved : Rows.SealTurnedSaid := over
#print axioms proved
end Go.Proofs.Ytohopligfihopaa.sealTurned
namespace Go.Proofs.Ytohopligfihopaa
/-- The row, under a short name, for the claim. -/
theorem sealTurned_holds : Rows.SealTurnedSaid := sealTurned.proved
end Go.Proofs.Ytohopligfihopaa
