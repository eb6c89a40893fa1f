/- Proved: the statement DeltaAlone. No conditions. -/
import Derived.Test.YtmkkfmadiadkiaaRows
import Derived.Test.YtmkkfmadiadkiaaCheck
import Derived.Test.YtmkkfmadiadkiaaR6PDeltaAlone
import Derived.ChangeShapes
namespace Go.Proofs.Ytmkkfmadiadkiaa.deltaAlone
open Go.Fw
set_option linter.unusedVariables false
theorem own : ownKnob Try.prog.godebug = none := by kernel_rfl
theorem laidOut : laidOutB Try.prog = true := by kernel_rfl
set_option maxRecDepth 100000 in
theorem lifted (os : Os) (started : os.Started) (H : Type) (enc : TypeId × Value → H) :
    ReturnsInHanded {} Try.checked os 11 .any (Rows.deltaAloneSpec.pre6 enc Try.prog Try.f11 Rows.deltaAloneRow.domain false) (Rows.deltaAloneSpec.post enc Try.prog Try.f11 false true false false) :=
  lift2 (C := Try.checked) (FT := Go.Cd.FT) (kp := Go.Cd.kp) Go.Cd.sgsAll Go.Cd.okAll Try.func11 own (by kernel_rfl) laidOut (shs := [.sl (.i .u8), .sl (.i .u8)]) (ts := [22, 22]) rfl rfl (by kernel_rfl) rfl (by kernel_rfl) (by kernel_rfl) (tb := 4) rfl Try.underlying4 rfl
    (fun ds h => by match ds, h with | [a, b], _ => rfl) Go.Cd.law2_DeltaAlone started
    (ChangeSpec.witness6 (enc := enc) (C := Try.checked) false ⟨#[], #[.slice none 0 0, .slice none 0 0], []⟩ 8 (by kernel_rfl) (by kernel_rfl) (by kernel_rfl) (by kernel_rfl))
theorem over : Rows.deltaAloneRow.holds Try.pinned (OpenSpec.ofChange Rows.deltaAloneSpec) :=
  OpenClaim.holds_of_wide 11 Try.f11 rfl rfl rfl rfl rfl rfl rfl ⟨rfl, rfl, rfl, rfl, rfl⟩ rfl rfl rfl rfl rfl (by kernel_rfl) Try.func11 (by kernel_rfl)
    (of_decide_eq_true (by kernel_rfl)) (by unfold Func.isWrapper; first | (rw [if_pos (by decide +kernel)]; kernel_rfl) | (rw [if_neg (by decide +kernel)]; exact ⟨rfl, rfl⟩))
    (fun os started H enc _ => lifted os started H enc)
theorem proved : Rows.DeltaAloneSaid := over
#print axioms proved
end Go.Proofs.Ytmkkfmadiadkiaa.deltaAlone
namespace Go.Proofs.Ytmkkfmadiadkiaa
/-- The row, under a short name, for the claim. -/
theorem deltaAlone_holds : Rows.DeltaAloneSaid := deltaAlone.proved
end Go.Proofs.Ytmkkfmadiadkiaa
