/- The law RowSets, as the evaluator has it. No conditions. -/
import Derived.Test.YtohopligfihopaaR1QRowF
set_option linter.unusedVariables false
set_option linter.unusedSimpArgs false
namespace Go.Cd
open Go Go.Fw
theorem set_clr (r a : Nat) : setN (clrN r a) a = setN r a := by
  apply Nat.eq_of_testBit_eq; intro j
  rw [tb_set, tb_clr, tb_set]
  by_cases h : a = j <;> simp [h]
theorem clr_set (r a : Nat) : clrN (setN r a) a = clrN r a := by
  apply Nat.eq_of_testBit_eq; intro j
  rw [tb_clr, tb_set, tb_clr]
  by_cases h : a = j <;> simp [h]
theorem count_set_clr (r a : Nat) (ha : a < 64) : pcR 64 (setN r a) = pcR 64 (clrN r a) + 1 := by
  have := pcR_one a 64 (setN r a) (clrN r a) (fun i _ hi => by
    have : ¬ a = i := fun e => hi e.symm
    rw [tb_set, tb_clr]; simp [this]) (by rw [tb_set]; simp) (by rw [tb_clr]; simp)
  rw [this, if_pos ha]
set_option maxRecDepth 10000 in
set_option maxHeartbeats 4000000 in
theorem law_RowSets (xs : List D) (h : Sh.hasL [.i .u64, .i .u8, .i .u8] xs) : run kp (.data f_law3_RowSets xs) = some (.ds [.bool true]) := by
  obtain ⟨x1, _, rfl, h1, h⟩ := hasL_cons h
  obtain ⟨x2, _, rfl, h2, h⟩ := hasL_cons h
  obtain ⟨x3, _, rfl, h3, h⟩ := hasL_cons h
  obtain rfl := hasL_nil h
  obtain ⟨n, rfl, k1⟩ := has_int h1
  obtain ⟨i, rfl, k2⟩ := has_int h2
  obtain ⟨k, rfl, k3⟩ := has_int h3
  obtain ⟨r, rfl, hr⟩ := wf_u64 k1
  have hi := wf_u8 k2
  have hk := wf_u8 k3
  obtain ⟨a, ha, ha64⟩ : ∃ a : Nat, IntKind.i64.wrap (i.tmod 64) = (a : Int) ∧ a < 64 := by
    rw [Int.tmod_eq_emod_of_nonneg hi.1, wrap_i64 (by omega) (by omega)]
    exact ⟨(i % 64).toNat, by omega, by omega⟩
  obtain ⟨b, hb, hb64⟩ : ∃ b : Nat, IntKind.i64.wrap (k.tmod 64) = (b : Int) ∧ b < 64 := by
    rw [Int.tmod_eq_emod_of_nonneg hk.1, wrap_i64 (by omega) (by omega)]
    exact ⟨(k % 64).toNat, by omega, by omega⟩
  have ia : inB (a : Int) := by unfold inB; omega
  have ib : inB (b : Int) := by unfold inB; omega
  have n1 : ¬ inB 64 := by unfold inB; omega
  have n2 : ¬ inB (-1) := by unfold inB; omega
  have hx := set_lt (i := a) hr ha64
  have hy := clr_lt (i := a) hr
  have a1 := row_Set r hr a
  have a2 := row_Clear r hr a
  have a3 := row_Is _ hx a
  have a4 := row_Is _ hy a
  have a5 := row_Is _ hx b
  have a6 := row_Is _ hy b
  have a7 := row_Is r hr b
  have a8 := row_Count _ hx
  have a9 := row_Count _ hy
  have a10 := row_Set _ hy a
  have a11 := row_Clear _ hx a
  have a12 := row_Set r hr 64
  have a13 := row_Clear r hr (-1)
  have a14 := row_Is r hr 64
  have a15 := row_Is r hr (-1)
  simp only [setB, clrB, isB, ia, ib, n1, n2, if_true, if_false, Int.toNat_natCast, decide_true, decide_false, Bool.true_and, Bool.false_and, tb_set, tb_clr, set_clr, clr_set] at a1 a2 a3 a4 a5 a6 a7 a10 a11 a12 a13 a14 a15
  have cs := count_set_clr r a ha64
  have cl := pcR_le 64 (clrN r a)
  rw [cs] at a8
  have w : IntKind.i64.wrap (((pcR 64 (clrN r a) : Nat) : Int) + 1) = ((pcR 64 (clrN r a) + 1 : Nat) : Int) := by rw [wrap_i64 (by omega) (by omega)]; omega
  generalize pcR 64 (clrN r a) + 1 = p1 at *
  generalize pcR 64 (clrN r a) = p at *
  generalize setN r a = x at *
  generalize clrN r a = y at *
  rw [run_data, run_call, kp_law3_RowSets]
  by_cases e : a = b
  · subst e
    simp only [decide_true, Bool.or_true, Bool.not_true, Bool.and_false] at a3 a4 a5 a6
    simp [k_law3_RowSets, row_begun, ha, hb, a1, a2, a3, a4, a5, a6, a7, a8, a9, a10, a11, a12, a13, a14, a15, w]
  · simp only [e, decide_true, decide_false, Bool.or_true, Bool.or_false, Bool.not_true, Bool.and_false, Bool.not_false, Bool.and_true] at a3 a4 a5 a6
    have e2 : ¬ (a : Int) = (b : Int) := by omega
    simp [k_law3_RowSets, row_begun, ha, hb, a1, a2, a3, a4, a5, a6, a7, a8, a9, a10, a11, a12, a13, a14, a15, w, e2, e]
end Go.Cd
