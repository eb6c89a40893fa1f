/- The law RowAll, as the evaluator has it. No conditions. -/
import Derived.Test.YtohopligfihopaaR1QRowF
set_option linter.unusedVariables false
set_option linter.unusedSimpArgs false
namespace Go.Cd
open Go Go.Fw
theorem law_RowAll (xs : List D) (h : Sh.hasL [.i .u64, .i .i64] xs) : run kp (.data f_law3_RowAll xs) = some (.ds [.bool true]) := by
  obtain ⟨x1, _, rfl, h1, h⟩ := hasL_cons h
  obtain ⟨x2, _, rfl, h2, h⟩ := hasL_cons h
  obtain rfl := hasL_nil h
  obtain ⟨n, rfl, k1⟩ := has_int h1
  obtain ⟨i, rfl, _⟩ := has_int h2
  obtain ⟨r, rfl, hr⟩ := wf_u64 k1
  rw [run_data, run_call, kp_law3_RowAll]
  by_cases h0 : r = 0
  · subst h0
    have a1 := row_First0
    have a2 := ref1_FirstBit0
    have a3 := row_Set 0 (by decide) i
    have a4 := ref1_SetBit 0 (by decide) i
    have a5 := row_Clear 0 (by decide) i
    have a6 := ref1_ClearBit 0 (by decide) i
    have a7 := row_Is 0 (by decide) i
    have a8 := ref1_IsBit 0 (by decide) i
    have a9 := row_Count 0 (by decide)
    have a10 := ref1_Bits 0 (by decide)
    generalize pcR 64 0 = p at *
    generalize setB 0 i = q at *
    generalize clrB 0 i = t at *
    simp only [Int.cast_ofNat_Int] at *
    simp [k_law3_RowAll, row_begun, a1, a2, a3, a4, a5, a6, a7, a8, a9, a10]
  · obtain ⟨a, ha⟩ := first_is r h0
    have a1 := row_First r a hr ha
    have a2 := ref1_FirstBit r a hr ha
    have a3 := row_Set r hr i
    have a4 := ref1_SetBit r hr i
    have a5 := row_Clear r hr i
    have a6 := ref1_ClearBit r hr i
    have a7 := row_Is r hr i
    have a8 := ref1_IsBit r hr i
    have a9 := row_Count r hr
    have a10 := ref1_Bits r hr
    generalize pcR 64 r = p at *
    generalize setB r i = q at *
    generalize clrB r i = t at *
    simp [k_law3_RowAll, row_begun, a1, a2, a3, a4, a5, a6, a7, a8, a9, a10]
end Go.Cd
