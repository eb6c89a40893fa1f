/- Proved: the statement JobAll. No conditions. -/
import Derived.Test.YtmkkfmadiadkiaaRows
import Derived.Test.YtmkkfmadiadkiaaCheck
import Derived.Test.YtmkkfmadiadkiaaR6PJobAll
import Derived.ChangeShapes
namespace Go.Proofs.Ytmkkfmadiadkiaa.jobAll
open Go.Fw
set_option linter.unusedVariables false
theorem own : ownKnob Try.prog.godebug = none := by kernel_rfl
theorem laidOut : laidOutB Try.prog = true := by kernel_rfl
set_option maxRecDepth 100000 in
theorem lifted (os : Os) (started : os.Started) (H : Type) (enc : TypeId × Value → H) :
    ReturnsInHanded {} Try.checked os 3 .any (Rows.jobAllSpec.pre6 enc Try.prog Try.f3 Rows.jobAllRow.domain false) (Rows.jobAllSpec.post enc Try.prog Try.f3 false true false false) :=
  lift2 (C := Try.checked) (FT := Go.Cd.FT) (kp := Go.Cd.kp) Go.Cd.sgsAll Go.Cd.okAll Try.func3 own (by kernel_rfl) laidOut (shs := [.sl (.i .u8), .st [.i .i64, .i .i64, .i .i64, .i .i64, .st [.i .i64, .ar 8 (.i .i64), .sl (.st [.i .i64, .i .i64, .i .i64]), .b], .st [.i .i64, .ar 8 (.i .i64), .sl (.st [.i .i64, .i .i64, .i .i64]), .b], .sl (.i .i64), .b], .i .i64, .i .i64, .i .i64]) (ts := [22, 29, 3, 2, 2]) rfl rfl (by kernel_rfl) rfl (by kernel_rfl) (by kernel_rfl) (tb := 4) rfl Try.underlying4 rfl
    (fun ds h => by match ds, h with | [a, b, c, d, e], _ => rfl) Go.Cd.law2_JobAll started
    (ChangeSpec.witness6 (enc := enc) (C := Try.checked) false ⟨#[], #[.slice none 0 0, .agg #[.int .i64 0, .int .i64 0, .int .i64 0, .int .i64 0, .int .i64 0, .int .i64 0, .int .i64 0, .int .i64 0, .int .i64 0, .int .i64 0, .int .i64 0, .int .i64 0, .int .i64 0, .slice none 0 0, .bool false, .int .i64 0, .int .i64 0, .int .i64 0, .int .i64 0, .int .i64 0, .int .i64 0, .int .i64 0, .int .i64 0, .int .i64 0, .slice none 0 0, .bool false, .slice none 0 0, .bool false], .int .i64 0, .int .i64 0, .int .i64 0], []⟩ 8 (by kernel_rfl) (by kernel_rfl) (by kernel_rfl) (by kernel_rfl))
theorem over : Rows.jobAllRow.holds Try.pinned (OpenSpec.ofChange Rows.jobAllSpec) :=
  OpenClaim.holds_of_wide 3 Try.f3 rfl rfl rfl rfl rfl rfl rfl ⟨rfl, rfl, rfl, rfl, rfl⟩ rfl rfl rfl rfl rfl (by kernel_rfl) Try.func3 (by kernel_rfl)
    (of_decide_eq_true (by kernel_rfl)) (by unfold Func.isWrapper; first | (rw [if_pos (by decide +kernel)]; kernel_rfl) | (rw [if_neg (by decide +kernel)]; exact ⟨rfl, rfl⟩))
    (fun os started H enc _ => lifted os started H enc)
theorem proved : Rows.JobAllSaid := over
#print axioms proved
end Go.Proofs.Ytmkkfmadiadkiaa.jobAll
namespace Go.Proofs.Ytmkkfmadiadkiaa
/-- The row, under a short name, for the claim. -/
theorem jobAll_holds : Rows.JobAllSaid := jobAll.proved
end Go.Proofs.Ytmkkfmadiadkiaa
