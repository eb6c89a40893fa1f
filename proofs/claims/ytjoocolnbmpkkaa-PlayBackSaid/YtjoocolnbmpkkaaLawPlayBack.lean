/- Proved: the statement PlayBack. No conditions. -/
import Derived.Test.YtjoocolnbmpkkaaRows
import Derived.Test.YtjoocolnbmpkkaaCheck
import Derived.Test.YtjoocolnbmpkkaaR7PPlayBack
import Derived.ChangeShapes
namespace Go.Proofs.Ytjoocolnbmpkkaa.playBack
open Go.Fw
set_option linter.unusedVariables false
theorem own : ownKnob Try.prog.godebug = none := by kernel_rfl
theorem laidOut : laidOutB Try.prog = true := by kernel_rfl
set_option maxRecDepth 100000 in
theorem lifted (os : Os) (started : os.Started) (H : Type) (enc : TypeId × Value → H) :
    ReturnsInHanded {} Try.checked os 4 .any (Rows.playBackSpec.pre6 enc Try.prog Try.f4 Rows.playBackRow.domain false) (Rows.playBackSpec.post enc Try.prog Try.f4 false true false false) :=
  lift2 (C := Try.checked) (FT := Go.Cd.FT) (kp := Go.Cd.kp) Go.Cd.sgsAll Go.Cd.okAll Try.func4 own (by kernel_rfl) laidOut (shs := [.sl (.i .u8), .sl (.i .u8), .i .u16]) (ts := [22, 22, 33]) rfl rfl (by kernel_rfl) rfl (by kernel_rfl) (by kernel_rfl) (tb := 4) rfl Try.underlying4 rfl
    (fun ds h => by match ds, h with | [a, b, c], _ => rfl) Go.Cd.law2_PlayBack started
    (ChangeSpec.witness6 (enc := enc) (C := Try.checked) false ⟨#[], #[.slice none 0 0, .slice none 0 0, .int .u16 0], []⟩ 8 (by kernel_rfl) (by kernel_rfl) (by kernel_rfl) (by kernel_rfl))
theorem over : Rows.playBackRow.holds Try.pinned (OpenSpec.ofChange Rows.playBackSpec) :=
  OpenClaim.holds_of_wide 4 Try.f4 rfl rfl rfl rfl rfl rfl rfl ⟨rfl, rfl, rfl, rfl, rfl⟩ rfl rfl rfl rfl rfl (by kernel_rfl) Try.func4 (by kernel_rfl)
    (of_decide_eq_true (by kernel_rfl)) (by unfold Func.isWrapper; first | (rw [if_pos (by decide +kernel)]; kernel_rfl) | (rw [if_neg (by decide +kernel)]; exact ⟨rfl, rfl⟩))
    (fun os started H enc _ => lifted os started H enc)
theorem proved : Rows.PlayBackSaid := over
#print axioms proved
end Go.Proofs.Ytjoocolnbmpkkaa.playBack
namespace Go.Proofs.Ytjoocolnbmpkkaa
/-- The row, under a short name, for the claim. -/
theorem playBack_holds : Rows.PlayBackSaid := playBack.proved
end Go.Proofs.Ytjoocolnbmpkkaa
