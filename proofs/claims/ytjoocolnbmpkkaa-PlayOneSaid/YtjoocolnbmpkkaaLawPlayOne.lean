/- Proved: the statement PlayOne. No conditions. -/
import Derived.Test.YtjoocolnbmpkkaaRows
import Derived.Test.YtjoocolnbmpkkaaCheck
import Derived.Test.YtjoocolnbmpkkaaR7PPlayOne
import Derived.ChangeShapes
namespace Go.Proofs.Ytjoocolnbmpkkaa.playOne
open Go.Fw
set_option linter.unusedVariables false
theorem own : ownKnob Try.prog.godebug = none := by kernel_rfl
theorem laidOut : laidOutB Try.prog = true := by kernel_rfl
set_option maxRecDepth 100000 in
theorem lifted (os : Os) (started : os.Started) (H : Type) (enc : TypeId × Value → H) :
    ReturnsInHanded {} Try.checked os 7 .any (Rows.playOneSpec.pre6 enc Try.prog Try.f7 Rows.playOneRow.domain false) (Rows.playOneSpec.post enc Try.prog Try.f7 false true false false) :=
  lift2 (C := Try.checked) (FT := Go.Cd.FT) (kp := Go.Cd.kp) Go.Cd.sgsAll Go.Cd.okAll Try.func7 own (by kernel_rfl) laidOut (shs := [.i .u8, .i .u8, .i .u8, .i .u8, .i .u8, .i .u16, .i .i64, .i .u32, .i .u8, .i .u32, .i .u32, .sl (.i .u8)]) (ts := [5, 5, 5, 5, 5, 33, 2, 39, 5, 39, 39, 22]) rfl rfl (by kernel_rfl) rfl (by kernel_rfl) (by kernel_rfl) (tb := 4) rfl Try.underlying4 rfl
    (fun ds h => by match ds, h with | [a, b, c, d, e, f, g, h, i, j, k, l], _ => rfl) Go.Cd.law2_PlayOne started
    (ChangeSpec.witness6 (enc := enc) (C := Try.checked) false ⟨#[], #[.int .u8 0, .int .u8 0, .int .u8 0, .int .u8 0, .int .u8 0, .int .u16 0, .int .i64 0, .int .u32 0, .int .u8 0, .int .u32 0, .int .u32 0, .slice none 0 0], []⟩ 8 (by kernel_rfl) (by kernel_rfl) (by kernel_rfl) (by kernel_rfl))
theorem over : Rows.playOneRow.holds Try.pinned (OpenSpec.ofChange Rows.playOneSpec) :=
  OpenClaim.holds_of_wide 7 Try.f7 rfl rfl rfl rfl rfl rfl rfl ⟨rfl, rfl, rfl, rfl, rfl⟩ rfl rfl rfl rfl rfl (by kernel_rfl) Try.func7 (by kernel_rfl)
    (of_decide_eq_true (by kernel_rfl)) (by unfold Func.isWrapper; first | (rw [if_pos (by decide +kernel)]; kernel_rfl) | (rw [if_neg (by decide +kernel)]; exact ⟨rfl, rfl⟩))
    (fun os started H enc _ => lifted os started H enc)
theorem proved : Rows.PlayOneSaid := over
#print axioms proved
end Go.Proofs.Ytjoocolnbmpkkaa.playOne
namespace Go.Proofs.Ytjoocolnbmpkkaa
/-- The row, under a short name, for the claim. -/
theorem playOne_holds : Rows.PlayOneSaid := playOne.proved
end Go.Proofs.Ytjoocolnbmpkkaa
