/- The law SatHalves, as the evaluator has it. No conditions. -/
import Derived.Test.YtjedomkpjidmbaaR3PSatBack
set_option linter.unusedVariables false
set_option linter.unusedSimpArgs false
namespace Go.Cd
open Go Go.Fw
theorem law_SatHalves (xs : List D) (h : Sh.hasL [.i .i32, .i .i32, .i .u8] xs) : run kp (.data f_law1_SatHalves xs) = some (.ds [.bool true]) := by
  obtain ⟨x1, _, rfl, h1, h⟩ := hasL_cons h
  obtain ⟨x2, _, rfl, h2, h⟩ := hasL_cons h
  obtain ⟨x3, _, rfl, h3, h⟩ := hasL_cons h
  obtain rfl := hasL_nil h
  obtain ⟨a, rfl, k1⟩ := has_int h1
  obtain ⟨b, rfl, k2⟩ := has_int h2
  obtain ⟨c, rfl, k3⟩ := has_int h3
  have ha := wf_i32 k1
  have hb := wf_i32 k2
  have hc := wf_u8 k3
  rw [run_data, run_call, kp_law1_SatHalves]
  have := ha.1; have := ha.2; have := hb.1; have := hb.2; have := hc.1; have := hc.2
  have w1 : IntKind.i64.wrap a = a := wrap_i64 (by omega) (by omega)
  have w2 : IntKind.i64.wrap b = b := wrap_i64 (by omega) (by omega)
  have i1 : In64 a := ⟨by omega, by omega⟩
  have i2 : In64 b := ⟨by omega, by omega⟩
  have m := mul_sign a b
  have mm : a.natAbs * b.natAbs ≤ 2147483648 * 2147483648 := Nat.mul_le_mul (by omega) (by omega)
  have i3 : In64 (a * b) := by
    generalize a.natAbs * b.natAbs = n at *
    generalize a * b = x at *
    exact ⟨by omega, by omega⟩
  obtain ⟨v1, v2⟩ := sat_in i3
  have w3 : IntKind.i64.wrap (a * b) = a * b := wrap_i64 (by have := i3.1; omega) (by have := i3.2; omega)
  obtain ⟨k, hk, r1⟩ : ∃ k : Nat, k < 32 ∧ IntKind.i64.wrap (c.tmod 32) = (k : Int) := by
    refine ⟨(c % 32).toNat, by omega, ?_⟩
    rw [Int.tmod_eq_emod_of_nonneg (by omega)]
    rw [wrap_i64 (by omega) (by omega)]; omega
  have r2 : min k IntKind.i64.bits = k := Nat.min_eq_left (by simp [IntKind.bits]; omega)
  obtain ⟨q, hq, q1, q2⟩ : ∃ q : Nat, (2 : Int) ^ k = (q : Int) ∧ 1 ≤ q ∧ q ≤ 2147483648 := by
    refine ⟨2 ^ k, by simp, Nat.one_le_two_pow, ?_⟩
    exact Nat.pow_le_pow_right (n := 2) (by decide) (show k ≤ 31 by omega)
  have w4 : IntKind.i64.wrap (a * (q : Int)) = a * q := by
    have := Int.natAbs_mul a q
    have mm : a.natAbs * q ≤ 2147483648 * 2147483648 := Nat.mul_le_mul (by omega) q2
    simp only [Int.natAbs_natCast] at this
    generalize a.natAbs * q = n at *
    exact wrap_i64 (by omega) (by omega)
  have i4 : In64 (a * q) := by rw [← w4]; exact wrap_in _
  have c1 : a * (q : Int) * b = a * b * q := by rw [Int.mul_assoc, Int.mul_comm (q : Int) b, ← Int.mul_assoc]
  generalize hx : a * b = x at *
  have hxq : (x * (q : Int)) / q = x := Int.mul_ediv_cancel x (by omega)
  have fits : (IntKind.i64.wrap (x * (q : Int))) / q = x ↔ In64 (x * q) := by
    constructor
    · intro h
      have hw := wrap_in (x * (q : Int))
      obtain ⟨t, ht⟩ := wrap_mul x q
      rw [ht] at h hw
      have : (q : Int) ∣ 18446744073709551616 := by
        rw [← hq, show (18446744073709551616 : Int) = 2 ^ k * 2 ^ (64 - k) by
          rw [← Int.pow_add, show k + (64 - k) = 64 by omega]; decide]
        exact Int.dvd_mul_right _ _
      obtain ⟨u, hu⟩ := this
      rw [hu, Int.mul_assoc, Int.mul_comm x, Int.add_mul_ediv_left _ _ (by omega), Int.mul_ediv_cancel_left _ (by omega)] at h
      have hut : u * t = 0 := by omega
      have hu0 : ¬ u = 0 := by intro k; rw [k] at hu; simp at hu
      have : t = 0 := by
        rcases Int.mul_eq_zero.1 hut with k | k
        · exact absurd k hu0
        · exact k
      rw [this] at hw
      simpa using hw
    · intro h
      rw [wrap_i64 h.1 h.2]
      exact hxq
  rcases sat_cases (x * q) with ⟨j, l1, l2⟩ | ⟨j, l1, l2⟩ | ⟨j, l1, l2⟩
  · have f := fits.2 j
    have w5 : IntKind.i64.wrap (x * (q : Int)) = x * q := wrap_i64 j.1 j.2
    simp [k_law1_SatHalves, sat_begun, w1, w2, sat_Mul, i1, i2, v1, v2, w3, r1, r2, hq, w4, i4, c1, hx, l1, l2, w5, hxq]
  · have f : ¬ _ := fun h => absurd (fits.1 h).2 (by omega)
    simp [k_law1_SatHalves, sat_begun, w1, w2, sat_Mul, i1, i2, v1, v2, w3, r1, r2, hq, w4, i4, c1, hx, l1, l2, f]
  · have f : ¬ _ := fun h => absurd (fits.1 h).1 (by omega)
    simp [k_law1_SatHalves, sat_begun, w1, w2, sat_Mul, i1, i2, v1, v2, w3, r1, r2, hq, w4, i4, c1, hx, l1, l2, f]
end Go.Cd
