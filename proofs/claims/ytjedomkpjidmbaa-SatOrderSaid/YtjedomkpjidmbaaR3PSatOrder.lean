/- The law SatOrder, as the evaluator has it. No conditions. -/
import Derived.Test.YtjedomkpjidmbaaR3QMul2
import Derived.Test.YtjedomkpjidmbaaR3PSatUp
set_option linter.unusedVariables false
set_option linter.unusedSimpArgs false
namespace Go.Cd
open Go Go.Fw
theorem satV_mono {x y : Int} (h : x ≤ y) : satV x ≤ satV y := by
  simp only [satV]
  split <;> split <;> (try split) <;> (try split) <;> omega
theorem law_SatOrder (xs : List D) (h : Sh.hasL [.i .i64, .i .i64, .i .i64] xs) : run kp (.data f_law1_SatOrder xs) = some (.ds [.bool true]) := by
  obtain ⟨x1, _, rfl, h1, h⟩ := hasL_cons h
  obtain ⟨x2, _, rfl, h2, h⟩ := hasL_cons h
  obtain ⟨x3, _, rfl, h3, h⟩ := hasL_cons h
  obtain rfl := hasL_nil h
  obtain ⟨a, rfl, k1⟩ := has_int h1
  obtain ⟨b, rfl, k2⟩ := has_int h2
  obtain ⟨c, rfl, k3⟩ := has_int h3
  have ha : In64 a := wf_i64 k1
  have hb : In64 b := wf_i64 k2
  have hc : In64 c := wf_i64 k3
  rw [run_data, run_call, kp_law1_SatOrder]
  have key : ∀ x y : Int, In64 x → In64 y → x ≤ y → satV (x + c) ≤ satV (y + c) ∧ satV (x - c) ≤ satV (y - c) ∧ (0 ≤ c → satV (x * c) ≤ satV (y * c)) ∧ (c < 0 → satV (y * c) ≤ satV (x * c)) := by
    intro x y _ _ h
    refine ⟨satV_mono (by omega), satV_mono (by omega), fun k => satV_mono (Int.mul_le_mul_of_nonneg_right h k), fun k => satV_mono (Int.mul_le_mul_of_nonpos_right h (by omega))⟩
  rcases Int.lt_trichotomy a b with l | l | l
  · have n : ¬ b < a := by omega
    obtain ⟨e1, e2, e3, e4⟩ := key a b ha hb (by omega)
    by_cases hc0 : c < 0
    · have hc1 : ¬ 0 ≤ c := by omega
      have e4 := e4 hc0
      simp [k_law1_SatOrder, sat_begun, sat_Add, sat_Sub, sat_Mul, ha, hb, hc, hc0, hc1, e1, e2, e4, l, n]
    · have hc1 : 0 ≤ c := by omega
      have e3 := e3 hc1
      simp [k_law1_SatOrder, sat_begun, sat_Add, sat_Sub, sat_Mul, ha, hb, hc, hc0, hc1, e1, e2, e3, l, n]
  · subst l
    by_cases hc0 : c < 0
    · have hc1 : ¬ 0 ≤ c := by omega
      simp [k_law1_SatOrder, sat_begun, sat_Add, sat_Sub, sat_Mul, ha, hc, hc0, hc1]
    · have hc1 : 0 ≤ c := by omega
      simp [k_law1_SatOrder, sat_begun, sat_Add, sat_Sub, sat_Mul, ha, hc, hc0, hc1]
  · have n : ¬ a < b := by omega
    obtain ⟨e1, e2, e3, e4⟩ := key b a hb ha (by omega)
    by_cases hc0 : c < 0
    · have hc1 : ¬ 0 ≤ c := by omega
      have e4 := e4 hc0
      simp [k_law1_SatOrder, sat_begun, sat_Add, sat_Sub, sat_Mul, ha, hb, hc, hc0, hc1, e1, e2, e4, l, n]
    · have hc1 : 0 ≤ c := by omega
      have e3 := e3 hc1
      simp [k_law1_SatOrder, sat_begun, sat_Add, sat_Sub, sat_Mul, ha, hb, hc, hc0, hc1, e1, e2, e3, l, n]
end Go.Cd
