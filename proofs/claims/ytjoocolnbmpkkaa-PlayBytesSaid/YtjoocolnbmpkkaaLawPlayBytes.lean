/- Proved: the statement PlayBytes. No conditions. -/
import Derived.Test.YtjoocolnbmpkkaaRows
import Derived.Test.YtjoocolnbmpkkaaCheck
import Derived.Test.YtjoocolnbmpkkaaR7PPlayBytes
import Derived.ChangeShapes
namespace Go.Proofs.Ytjoocolnbmpkkaa.playBytes
open Go.Fw
set_option linter.unusedVariables false
theorem own : ownKnob Try.prog.godebug = none := by kernel_rfl
theorem laidOut : laidOutB Try.prog = true := by kernel_rfl
set_option maxRecDepth 100000 in
theorem lifted (os : Os) (started : os.Started) (H : Type) (enc : TypeId × Value → H) :
    ReturnsInHanded {} Try.checked os 3 .any (Rows.playBytesSpec.pre6 enc Try.prog Try.f3 Rows.playBytesRow.domain false) (Rows.playBytesSpec.post enc Try.prog Try.f3 false true false false) :=
  lift2 (C := Try.checked) (FT := Go.Cd.FT) (kp := Go.Cd.kp) Go.Cd.sgsAll Go.Cd.okAll Try.func3 own (by kernel_rfl) laidOut (shs := [.sl (.i .u8), .sl (.st [.i .i64, .st [.i .i64, .st [.i .i64, .i .i64, .i .i64, .sl (.st [.i .i64, .i .i64, .i .i64, .i .i64]), .sl (.st [.i .i64, .i .i64, .i .i64, .i .i64]), .sl (.st [.i .i64, .i .i64, .i .i64, .i .i64])], .st [.i .i64, .i .i64], .i .i64, .i .i64, .i .u32], .i .i64, .i .i64]), .sl (.i .u8)]) (ts := [22, 23, 22]) rfl rfl (by kernel_rfl) rfl (by kernel_rfl) (by kernel_rfl) (tb := 4) rfl Try.underlying4 rfl
    (fun ds h => by match ds, h with | [a, b, c], _ => rfl) Go.Cd.law2_PlayBytes started
    (ChangeSpec.witness6 (enc := enc) (C := Try.checked) false ⟨#[], #[.slice none 0 0, .slice none 0 0, .slice none 0 0], []⟩ 8 (by kernel_rfl) (by kernel_rfl) (by kernel_rfl) (by kernel_rfl))
theorem over : Rows.playBytesRow.holds Try.pinned (OpenSpec.ofChange Rows.playBytesSpec) :=
  OpenClaim.holds_of_wide 3 Try.f3 rfl rfl rfl rfl rfl rfl rfl ⟨rfl, rfl, rfl, rfl, rfl⟩ rfl rfl rfl rfl rfl (by kernel_rfl) Try.func3 (by kernel_rfl)
    (of_decide_eq_true (by kernel_rfl)) (by unfold Func.isWrapper; first | (rw [if_pos (by decide +kernel)]; kernel_rfl) | (rw [if_neg (by decide +kernel)]; exact ⟨rfl, rfl⟩))
    (fun os started H enc _ => lifted os started H enc)
theorem proved : Rows.PlayBytesSaid := over
#print axioms proved
end Go.Proofs.Ytjoocolnbmpkkaa.playBytes
namespace Go.Proofs.Ytjoocolnbmpkkaa
/-- The row, under a short name, for the claim. -/
theorem playBytes_holds : Rows.PlayBytesSaid := playBytes.proved
end Go.Proofs.Ytjoocolnbmpkkaa
