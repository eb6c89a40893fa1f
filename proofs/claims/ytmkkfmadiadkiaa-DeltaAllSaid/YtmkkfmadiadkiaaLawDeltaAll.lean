/- Proved: the statement DeltaAll. No conditions. -/
import Derived.Test.YtmkkfmadiadkiaaRows
import Derived.Test.YtmkkfmadiadkiaaCheck
import Derived.Test.YtmkkfmadiadkiaaR6PDeltaAll
import Derived.ChangeShapes
namespace Go.Proofs.Ytmkkfmadiadkiaa.deltaAll
open Go.Fw
set_option linter.unusedVariables false
theorem own : ownKnob Try.prog.godebug = none := by kernel_rfl
theorem laidOut : laidOutB Try.prog = true := by kernel_rfl
set_option maxRecDepth 100000 in
theorem lifted (os : Os) (started : os.Started) (H : Type) (enc : TypeId × Value → H) :
    ReturnsInHanded {} Try.checked os 9 .any (Rows.deltaAllSpec.pre6 enc Try.prog Try.f9 Rows.deltaAllRow.domain false) (Rows.deltaAllSpec.post enc Try.prog Try.f9 false true false false) :=
  lift2 (C := Try.checked) (FT := Go.Cd.FT) (kp := Go.Cd.kp) Go.Cd.sgsAll Go.Cd.okAll Try.func9 own (by kernel_rfl) laidOut (shs := [.sl (.ar 3 (.i .u8)), .i .i64, .i .i64]) (ts := [70, 2, 3]) rfl rfl (by kernel_rfl) rfl (by kernel_rfl) (by kernel_rfl) (tb := 4) rfl Try.underlying4 rfl
    (fun ds h => by match ds, h with | [a, b, c], _ => rfl) Go.Cd.law2_DeltaAll started
    (ChangeSpec.witness6 (enc := enc) (C := Try.checked) false ⟨#[], #[.slice none 0 0, .int .i64 0, .int .i64 0], []⟩ 8 (by kernel_rfl) (by kernel_rfl) (by kernel_rfl) (by kernel_rfl))
theorem over : Rows.deltaAllRow.holds Try.pinned (OpenSpec.ofChange Rows.deltaAllSpec) :=
  OpenClaim.holds_of_wide 9 Try.f9 rfl rfl rfl rfl rfl rfl rfl ⟨rfl, rfl, rfl, rfl, rfl⟩ rfl rfl rfl rfl rfl (by kernel_rfl) Try.func9 (by kernel_rfl)
    (of_decide_eq_true (by kernel_rfl)) (by unfold Func.isWrapper; first | (rw [if_pos (by decide +kernel)]; kernel_rfl) | (rw [if_neg (by decide +kernel)]; exact ⟨rfl, rfl⟩))
    (fun os started H enc _ => lifted os started H enc)
theorem proved : Rows.DeltaAllSaid := over
#print axioms proved
end Go.Proofs.Ytmkkfmadiadkiaa.deltaAll
namespace Go.Proofs.Ytmkkfmadiadkiaa
/-- The row, under a short name, for the claim. -/
theorem deltaAll_holds : Rows.DeltaAllSaid := deltaAll.proved
end Go.Proofs.Ytmkkfmadiadkiaa
