/- Proved: the statement RowFirst. No conditions. -/
import Derived.Test.YtohopligfihopaaRows
import Derived.Test.YtohopligfihopaaCheck
import Derived.Test.YtohopligfihopaaR1PRowFirst
import Derived.ChangeShapes
namespace Go.Proofs.Ytohopligfihopaa.rowFirst
open Go.Fw
set_option linter.unusedVariables false
theorem own : ownKnob Try.prog.godebug = none := by kernel_rfl
theorem laidOut : laidOutB Try.prog = true := by kernel_rfl
set_option maxRecDepth 100000 in
theorem lifted (os : Os) (started : os.Started) (H : Type) (enc : TypeId × Value → H) :
    ReturnsInHanded {} Try.checked os 12 .any (Rows.rowFirstSpec.pre6 enc Try.prog Try.f12 Rows.rowFirstRow.domain false) (Rows.rowFirstSpec.post enc Try.prog Try.f12 false true false false) :=
  lift (C := Try.checked) (FT := Go.Cd.FT) (kp := Go.Cd.kp) Go.Cd.sgsAll Go.Cd.okAll Try.func12 own (by kernel_rfl) laidOut (shs := [.i .u64]) (ts := [49]) rfl rfl (by kernel_rfl) rfl (by kernel_rfl) (by kernel_rfl) (tb := 4) rfl Try.underlying4 rfl
    (fun ds h => by match ds, h with | [a], _ => rfl) Go.Cd.law_RowFirst started
    (ChangeSpec.witness6 (enc := enc) (C := Try.checked) false ⟨#[], #[.int .u64 0], []⟩ 8 (by kernel_rfl) (by kernel_rfl) (by kernel_rfl) (by kernel_rfl))
theorem over : Rows.rowFirstRow.holds Try.pinned (OpenSpec.ofChange Rows.rowFirstSpec) :=
  OpenClaim.holds_of_wide 12 Try.f12 rfl rfl rfl rfl rfl rfl rfl ⟨rfl, rfl, rfl, rfl, rfl⟩ rfl rfl rfl rfl rfl (by kernel_rfl) Try.func12 (by kernel_rfl)
    (of_decide_eq_true (by kernel_rfl)) (by unfold Func.isWrapper; first | (rw [if_pos (by decide +kernel)]; kernel_rfl) | (rw [if_neg (by decide +kernel)]; exact ⟨rfl, rfl⟩))
    (fun os started H enc _ => lifted os started H enc)
theorem proved : Rows.RowFirstSaid := over
#print axioms proved
end Go.Proofs.Ytohopligfihopaa.rowFirst
namespace Go.Proofs.Ytohopligfihopaa
/-- The row, under a short name, for the claim. -/
theorem rowFirst_holds : Rows.RowFirstSaid := rowFirst.proved
end Go.Proofs.Ytohopligfihopaa
