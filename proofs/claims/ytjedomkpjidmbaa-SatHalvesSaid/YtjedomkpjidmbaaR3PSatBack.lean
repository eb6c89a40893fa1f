/- The law SatBack, as the evaluator has it. No conditions. -/
import Derived.Test.YtjedomkpjidmbaaR3QMul2
import Derived.Test.YtjedomkpjidmbaaR3PSatUp
set_option linter.unusedVariables false
set_option linter.unusedSimpArgs false
namespace Go.Cd
open Go Go.Fw
theorem sat_in {x : Int} (h : In64 x) : satV x = x ∧ satB x = true := by
  have := h.1; have := h.2
  simp only [satV, satB]
  have s1 : ¬ x < -9223372036854775808 := by omega
  have s2 : ¬ 9223372036854775807 < x := by omega
  have s3 : -9223372036854775808 ≤ x := by omega
  have s4 : x ≤ 9223372036854775807 := by omega
  simp [s1, s2, s3, s4]
theorem sat_over {x : Int} (h : 9223372036854775807 < x) : satV x = 9223372036854775807 ∧ satB x = false := by
  simp only [satV, satB]
  have s1 : ¬ x < -9223372036854775808 := by omega
  have s4 : ¬ x ≤ 9223372036854775807 := by omega
  simp [s1, h, s4]
theorem sat_under {x : Int} (h : x < -9223372036854775808) : satV x = -9223372036854775808 ∧ satB x = false := by
  simp only [satV, satB]
  have s1 : ¬ -9223372036854775808 ≤ x := by omega
  simp [s1, h]
theorem sat_cases (x : Int) : (In64 x ∧ satV x = x ∧ satB x = true) ∨ (9223372036854775807 < x ∧ satV x = 9223372036854775807 ∧ satB x = false) ∨ (x < -9223372036854775808 ∧ satV x = -9223372036854775808 ∧ satB x = false) := by
  by_cases h1 : x < -9223372036854775808
  · exact .inr (.inr ⟨h1, sat_under h1⟩)
  · by_cases h2 : 9223372036854775807 < x
    · exact .inr (.inl ⟨h2, sat_over h2⟩)
    · have h : In64 x := ⟨by omega, by omega⟩
      exact .inl ⟨h, sat_in h⟩
set_option maxRecDepth 100000 in
set_option maxHeartbeats 8000000 in
theorem law_SatBack (xs : List D) (h : Sh.hasL [.i .i64, .i .i64] xs) : run kp (.data f_law1_SatBack xs) = some (.ds [.bool true]) := by
  obtain ⟨a, b, rfl, ha, hb⟩ := has_pair h
  rw [run_data, run_call, kp_law1_SatBack]
  have c1 : b + a = a + b := by omega
  have c2 : b * a = a * b := Int.mul_comm b a
  have := ha.1; have := ha.2; have := hb.1; have := hb.2
  rcases sat_cases (a + b) with ⟨i, k1, k2⟩ | ⟨i, k1, k2⟩ | ⟨i, k1, k2⟩
  · have d : a + b - b = a := by omega
    obtain ⟨z1, z2⟩ := sat_in ha
    rcases sat_cases (a * b) with ⟨j, l1, l2⟩ | ⟨j, l1, l2⟩ | ⟨j, l1, l2⟩
    · by_cases b0 : b = 0
      · subst b0
        simp at k1 k2 l1 l2
        simp [k_law1_SatBack, sat_begun, sat_Add, sat_Sub, sat_Mul, ha, hb, z1, z2, l1, l2]
      · have q1 : (a * b).tdiv b = a := Int.mul_tdiv_cancel a b0
        have q2 : (a * b).tmod b = 0 := Int.mul_tmod_left a b
        have q3 : IntKind.i64.wrap a = a := wrap_i64 (by omega) (by omega)
        simp [k_law1_SatBack, sat_begun, sat_Add, sat_Sub, sat_Mul, ha, hb, i, c1, c2, d, k1, k2, l1, l2, z1, z2, b0, q1, q2, q3]
    · have s := mul_sign a b
      have a0 : ¬ a = 0 := by intro h; subst h; simp at j
      have b0 : ¬ b = 0 := by intro h; subst h; simp at j
      have e : (0 < a ↔ 0 < b) := by omega
      simp [k_law1_SatBack, sat_begun, sat_Add, sat_Sub, sat_Mul, ha, hb, i, c1, c2, d, k1, k2, l1, l2, z1, z2, e]
    · have s := mul_sign a b
      have a0 : ¬ a = 0 := by intro h; subst h; simp at j
      have b0 : ¬ b = 0 := by intro h; subst h; simp at j
      have e : ¬ (0 < a ↔ 0 < b) := by omega
      by_cases n1 : 0 < a <;> by_cases n2 : 0 < b <;> simp [n1, n2] at e <;>
      simp [k_law1_SatBack, sat_begun, sat_Add, sat_Sub, sat_Mul, ha, hb, i, c1, c2, d, k1, k2, l1, l2, z1, z2, n1, n2]
  · have n1 : 0 < a := by omega
    have n2 : 0 < b := by omega
    simp [k_law1_SatBack, sat_begun, sat_Add, sat_Sub, sat_Mul, ha, hb, c1, c2, k1, k2, n1, n2]
  · have n1 : ¬ 0 < a := by omega
    have n2 : ¬ 0 < b := by omega
    have n3 : a < 0 := by omega
    simp [k_law1_SatBack, sat_begun, sat_Add, sat_Sub, sat_Mul, ha, hb, c1, c2, k1, k2, n1, n2, n3]
end Go.Cd
