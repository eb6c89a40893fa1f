/- Proved: the statement JobLost. No conditions. -/
import Derived.Test.YtgjeondicdipaaaRows
import Derived.Test.YtgjeondicdipaaaCheck
import Derived.Test.YtgjeondicdipaaaR9PJobLost
import Derived.ChangeShapes
namespace Go.Proofs.Ytgjeondicdipaaa.jobLost
open Go.Fw
set_option linter.unusedVariables false
theorem own : ownKnob Try.prog.godebug = none := by kernel_rfl
theorem laidOut : laidOutB Try.prog = true := by kernel_rfl
set_option maxRecDepth 100000 in
theorem lifted (os : Os) (started : os.Started) (H : Type) (enc : TypeId × Value → H) :
    ReturnsInHanded {} Try.checked os 4 .any (Rows.jobLostSpec.pre6 enc Try.prog Try.f4 Rows.jobLostRow.domain false) (Rows.jobLostSpec.post enc Try.prog Try.f4 false true false false) :=
  lift2 (C := Try.checked) (FT := Go.Cd.FT) (kp := Go.Cd.kp) Go.Cd.sgsAll Go.Cd.okAll Try.func4 own (by kernel_rfl) laidOut (shs := [.sl (.i .u8), .i .i64, .sl (.i .u8)]) (ts := [22, 2, 22]) rfl rfl (by kernel_rfl) rfl (by kernel_rfl) (by kernel_rfl) (tb := 4) rfl Try.underlying4 rfl
    (fun ds h => by match ds, h with | [a, b, c], _ => rfl) Go.Cd.law2_JobLost started
    (ChangeSpec.witness6 (enc := enc) (C := Try.checked) false ⟨#[], #[.slice none 0 0, .int .i64 0, .slice none 0 0], []⟩ 8 (by kernel_rfl) (by kernel_rfl) (by kernel_rfl) (by kernel_rfl))
theorem over : Rows.jobLostRow.holds Try.pinned (OpenSpec.ofChange Rows.jobLostSpec) :=
  OpenClaim.holds_of_wide 4 Try.f4 rfl rfl rfl rfl rfl rfl rfl ⟨rfl, rfl, rfl, rfl, rfl⟩ rfl rfl rfl rfl rfl (by kernel_rfl) Try.func4 (by kernel_rfl)
    (of_decide_eq_true (by kernel_rfl)) (by unfold Func.isWrapper; first | (rw [if_pos (by decide +kernel)]; kernel_rfl) | (rw [if_neg (by decide +kernel)]; exact ⟨rfl, rfl⟩))
    (fun os started H enc _ => lifted os started H enc)
theorem proved : Rows.JobLostSaid := over
#print axioms proved
end Go.Proofs.Ytgjeondicdipaaa.jobLost
namespace Go.Proofs.Ytgjeondicdipaaa
/-- The row, under a short name, for the claim. -/
theorem jobLost_holds : Rows.JobLostSaid := jobLost.proved
end Go.Proofs.Ytgjeondicdipaaa
