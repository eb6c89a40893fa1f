/- The laws SatUp and SatSteps, as the evaluator has them. No conditions. -/
import Derived.Test.YtjedomkpjidmbaaR3QSat
set_option linter.unusedVariables false
set_option linter.unusedSimpArgs false
namespace Go.Cd
open Go Go.Fw
theorem has_pair {x : List D} (h : Sh.hasL [.i .i64, .i .i64] x) : ∃ a b, x = [.int .i64 a, .int .i64 b] ∧ In64 a ∧ In64 b := by
  obtain ⟨x1, _, rfl, h1, h⟩ := hasL_cons h
  obtain ⟨x2, _, rfl, h2, h⟩ := hasL_cons h
  obtain rfl := hasL_nil h
  obtain ⟨a, rfl, k1⟩ := has_int h1
  obtain ⟨b, rfl, k2⟩ := has_int h2
  exact ⟨a, b, rfl, wf_i64 k1, wf_i64 k2⟩
theorem law_SatUp (xs : List D) (h : Sh.hasL [.i .i64, .i .i64] xs) : run kp (.data f_law1_SatUp xs) = some (.ds [.bool true]) := by
  obtain ⟨a, b, rfl, ha, hb⟩ := has_pair h
  rw [run_data, run_call, kp_law1_SatUp]
  by_cases h1 : a < 0
  · simp [k_law1_SatUp, sat_begun, sat_Up, ha, hb, h1, upV]
  · by_cases h2 : b < 1
    · simp [k_law1_SatUp, sat_begun, sat_Up, ha, hb, h1, h2, upV]
    · have h1' : 0 ≤ a := by omega
      have h2' : 1 ≤ b := by omega
      obtain ⟨e1, e2, e3, e4, e5, e6⟩ := up_fits ha h2' h1'
      simp [k_law1_SatUp, sat_begun, sat_Up, ha, hb, h1, h2, h1', h2', upV]
      have h6 := Int.mul_ediv_add_emod a b
      have hr0 : 0 ≤ a % b := Int.emod_nonneg _ (by omega)
      have hr1 : a % b < b := Int.emod_lt_of_pos _ (by omega)
      have ha1 := ha.2
      have hb1 := hb.2
      have hq : a / b ≤ b * (a / b) := by
        have := Int.mul_le_mul_of_nonneg_right h2' e4
        omega
      generalize hQ : a / b = q at *
      generalize hR : a % b = r at *
      by_cases h3 : 0 < r
      · have w1 : IntKind.i64.wrap q = q := e3
        have w2 : q + 1 - 1 = q := by omega
        have w3 : q * b = b * q := Int.mul_comm _ _
        have w4 : IntKind.i64.wrap (b * q) = b * q := wrap_i64 (by omega) (by omega)
        have w5 : a - b * q = r := by omega
        have w6 : IntKind.i64.wrap r = r := wrap_i64 (by omega) (by omega)
        have c1 : 0 ≤ q + 1 := by omega
        have c2 : ¬ a < q + 1 := by omega
        have c3 : ¬ q + 1 = 0 := by omega
        have c4 : 0 < q + 1 := by omega
        have c5 : r ≤ b := by omega
        simp [h3, w1, w2, w3, w4, w5, w6, c1, c2, c3, c4, c5]
      · have hr : r = 0 := by omega
        subst hr
        by_cases h4 : q = 0
        · subst h4
          have : a = 0 := by omega
          simp [this]
        · have w1 : IntKind.i64.wrap (q - 1) = q - 1 := wrap_i64 (by omega) (by omega)
          have w3 : (q - 1) * b = b * q - b := by rw [Int.sub_mul, Int.mul_comm]; omega
          have w4 : IntKind.i64.wrap (b * q - b) = b * q - b := wrap_i64 (by omega) (by omega)
          have w5 : a - (b * q - b) = b := by omega
          have w6 : IntKind.i64.wrap b = b := wrap_i64 (by omega) (by omega)
          have c1 : 0 ≤ q := e4
          have c2 : ¬ a < q := by omega
          have c4 : 0 < q := by omega
          have c5 : 0 < b := by omega
          simp [w1, w3, w4, w5, w6, c1, c2, h4, c4, c5]
end Go.Cd
