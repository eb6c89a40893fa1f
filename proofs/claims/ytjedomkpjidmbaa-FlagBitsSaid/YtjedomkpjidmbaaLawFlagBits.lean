/- Proved: the statement FlagBits. No conditions. -/
import Derived.Test.YtjedomkpjidmbaaRows
import Derived.Test.YtjedomkpjidmbaaCheck
import Derived.Test.YtjedomkpjidmbaaR3PFlagBits
import Derived.ChangeShapes
namespace Go.Proofs.Ytjedomkpjidmbaa.flagBits
open Go.Fw
set_option linter.unusedVariables false
theorem own : ownKnob Try.prog.godebug = none := by kernel_rfl
theorem laidOut : laidOutB Try.prog = true := by kernel_rfl
set_option maxRecDepth 100000 in
theorem lifted (os : Os) (started : os.Started) (H : Type) (enc : TypeId × Value → H) :
    ReturnsInHanded {} Try.checked os 6 .any (Rows.flagBitsSpec.pre6 enc Try.prog Try.f6 Rows.flagBitsRow.domain false) (Rows.flagBitsSpec.post enc Try.prog Try.f6 false true false false) :=
  lift (C := Try.checked) (FT := Go.Cd.FT) (kp := Go.Cd.kp) Go.Cd.sgsAll Go.Cd.okAll Try.func6 own (by kernel_rfl) laidOut (shs := [.sl (.i .u32), .i .u32, .i .u32]) (ts := [45, 22, 22]) rfl rfl (by kernel_rfl) rfl (by kernel_rfl) (by kernel_rfl) (tb := 4) rfl Try.underlying4 rfl
    (fun ds h => by match ds, h with | [a, b, c], _ => rfl) Go.Cd.law_FlagBits started
    (ChangeSpec.witness6 (enc := enc) (C := Try.checked) false ⟨#[], #[.slice none 0 0, .int .u32 0, .int .u32 0], []⟩ 8 (by kernel_rfl) (by kernel_rfl) (by kernel_rfl) (by kernel_rfl))
theorem over : Rows.flagBitsRow.holds Try.pinned (OpenSpec.ofChange Rows.flagBitsSpec) :=
  OpenClaim.holds_of_wide 6 Try.f6 rfl rfl rfl rfl rfl rfl rfl ⟨rfl, rfl, rfl, rfl, rfl⟩ rfl rfl rfl rfl rfl (by kernel_rfl) Try.func6 (by kernel_rfl)
    (of_decide_eq_true (by kernel_rfl)) (by unfold Func.isWrapper; first | (rw [if_pos (by decide +kernel)]; kernel_rfl) | (rw [if_neg (by decide +kernel)]; exact ⟨rfl, rfl⟩))
    (fun os started H enc _ => lifted os started H enc)
theorem proved : Rows.FlagBitsSaid := over
#print axioms proved
end Go.Proofs.Ytjedomkpjidmbaa.flagBits
namespace Go.Proofs.Ytjedomkpjidmbaa
/-- The row, under a short name, for the claim. -/
theorem flagBits_holds : Rows.FlagBitsSaid := flagBits.proved
end Go.Proofs.Ytjedomkpjidmbaa
