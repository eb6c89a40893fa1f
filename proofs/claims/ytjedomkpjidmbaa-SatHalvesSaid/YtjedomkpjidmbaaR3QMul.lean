/- Products: of sat and of the reference. No conditions. -/
import Derived.Test.YtjedomkpjidmbaaR3PSatUp
set_option linter.unusedVariables false
set_option linter.unusedSimpArgs false
namespace Go.Cd
open Go Go.Fw
theorem div32 (a : Nat) : ((a : Int) / 2 ^ min 32 IntKind.u64.bits) = ((a / 4294967296 : Nat) : Int) := by
  have : (2 : Int) ^ min 32 IntKind.u64.bits = 4294967296 := by decide
  rw [this]; omega
theorem low32 (a : Nat) : IntKind.u64.wrap (IntKind.u32.wrap (a : Int)) = ((a % 4294967296 : Nat) : Int) := by
  rw [wrap_u32_mod, wrap_u64_mod]; omega
theorem wrapN {n : Nat} (h : n < 18446744073709551616) : IntKind.u64.wrap (n : Int) = n := wrap_u64 (by omega) (by omega)
theorem or_zero_left (n : Nat) (h : n < 18446744073709551616) : bits .or .u64 (0 : Int) (n : Int) = n := by
  have := u64_or_nat 0 n (by omega) h
  simpa using this
theorem or_zero_right (n : Nat) (h : n < 18446744073709551616) : bits .or .u64 (n : Int) (0 : Int) = n := by
  have := u64_or_nat n 0 h (by omega)
  simpa using this
/-- A product of numbers without a sign: told to be none where it is beyond 64 bits. -/
theorem sat_times (a b : Nat) (ha : a ≤ 9223372036854775808) (hb : b ≤ 9223372036854775808) : ∃ (p : Int) (ok : Bool), run kp (.data f_sat_times [.int .u64 a, .int .u64 b]) = some (.ds [.int .u64 p, .bool ok]) ∧ (ok = true ↔ a * b < 18446744073709551616) ∧ (ok = true → p = (a * b : Nat)) := by
  rw [run_data, run_call, kp_sat_times]
  have hA := Nat.div_add_mod a 4294967296
  have hB := Nat.div_add_mod b 4294967296
  have hal : a % 4294967296 < 4294967296 := Nat.mod_lt _ (by decide)
  have hbl : b % 4294967296 < 4294967296 := Nat.mod_lt _ (by decide)
  have hah : a / 4294967296 ≤ 2147483648 := by omega
  have hbh : b / 4294967296 ≤ 2147483648 := by omega
  generalize hx : a / 4294967296 = ah at *
  generalize hy : b / 4294967296 = bh at *
  generalize hz : a % 4294967296 = al at *
  generalize hw : b % 4294967296 = bl at *
  have m1 : ah * bl ≤ 2147483648 * 4294967296 := Nat.mul_le_mul hah (by omega)
  have m2 : al * bh ≤ 4294967296 * 2147483648 := Nat.mul_le_mul (by omega) hbh
  have m3 : al * bl ≤ 4294967295 * 4294967295 := Nat.mul_le_mul (by omega) (by omega)
  have p1 : IntKind.u64.wrap ((ah : Int) * (bl : Int)) = ((ah * bl : Nat) : Int) := by rw [← Int.natCast_mul]; exact wrapN (by omega)
  have p2 : IntKind.u64.wrap ((al : Int) * (bh : Int)) = ((al * bh : Nat) : Int) := by rw [← Int.natCast_mul]; exact wrapN (by omega)
  have p3 : IntKind.u64.wrap ((al : Int) * (bl : Int)) = ((al * bl : Nat) : Int) := by rw [← Int.natCast_mul]; exact wrapN (by omega)
  have hprod : a * b = (ah * bh) * 18446744073709551616 + (ah * bl + al * bh) * 4294967296 + al * bl := by
    rw [← hA, ← hB]
    simp only [Nat.add_mul, Nat.mul_add]
    have q1 : 4294967296 * ah * (4294967296 * bh) = ah * bh * 18446744073709551616 := by
      rw [Nat.mul_mul_mul_comm, Nat.mul_comm]
    have q2 : 4294967296 * ah * bl = ah * bl * 4294967296 := by rw [Nat.mul_assoc, Nat.mul_comm]
    have q3 : al * (4294967296 * bh) = al * bh * 4294967296 := by rw [Nat.mul_left_comm, Nat.mul_comm]
    omega
  by_cases h12 : 0 < ah ∧ 0 < bh
  · obtain ⟨h1, h2⟩ := h12
    have : 1 ≤ ah * bh := Nat.mul_pos h1 h2
    simp [k_sat_times, div32, low32, hx, hy, hz, hw, h1, h2]
    omega
  · have hz0 : ah * bh = 0 := by
      rw [Nat.mul_eq_zero]; omega
    have hc : ∃ mid : Nat, bits .or .u64 (IntKind.u64.wrap ((ah : Int) * (bl : Int))) (IntKind.u64.wrap ((al : Int) * (bh : Int))) = (mid : Int) ∧ mid ≤ 9223372036854775808 ∧ a * b = mid * 4294967296 + al * bl := by
      rw [p1, p2]
      by_cases h1 : ah = 0
      · refine ⟨al * bh, ?_, by omega, ?_⟩
        · rw [h1, Nat.zero_mul]
          exact or_zero_left _ (by omega)
        · rw [hprod, hz0, h1]; omega
      · have h2 : bh = 0 := by omega
        refine ⟨ah * bl, ?_, by omega, ?_⟩
        · rw [h2, Nat.mul_zero]
          exact or_zero_right _ (by omega)
        · rw [hprod, hz0, h2]; omega
    obtain ⟨mid, hc, hm, hp⟩ := hc
    have h12' : (decide (0 < ah) && decide (0 < bh)) = false := by
      simpa using h12
    rw [hp]
    generalize al * bl = low at *
    clear hprod hp m1 m2 p1 p2 hz0
    by_cases ov : 4294967296 ≤ mid
    · have : ¬ mid * 4294967296 + low < 18446744073709551616 := by omega
      by_cases h1 : 0 < ah
      · have h2 : ¬ 0 < bh := by omega
        refine ⟨0, false, ?_, by simp [this], by simp⟩
        simp [k_sat_times, div32, low32, hx, hy, hz, hw, h1, h2, hc, ov]
        intro h; omega
      · refine ⟨0, false, ?_, by simp [this], by simp⟩
        simp [k_sat_times, div32, low32, hx, hy, hz, hw, h1, hc, ov]
        intro h; omega
    · have sh : IntKind.u64.wrap ((mid : Int) * 2 ^ min 32 IntKind.u64.bits) = ((mid * 4294967296 : Nat) : Int) := by
        have : (2 : Int) ^ min 32 IntKind.u64.bits = 4294967296 := by decide
        rw [this]
        have : (mid : Int) * 4294967296 = ((mid * 4294967296 : Nat) : Int) := by omega
        rw [this]; exact wrapN (by omega)
      have fin : ∀ (p : Int) (ok : Bool), IntKind.u64.wrap ((low : Int) + ((mid * 4294967296 : Nat) : Int)) = p → decide ((low : Int) ≤ p) = ok → (ok = true ↔ mid * 4294967296 + low < 18446744073709551616) ∧ (ok = true → p = ((mid * 4294967296 + low : Nat) : Int)) := by
        intro p ok hp hk
        by_cases hf : mid * 4294967296 + low < 18446744073709551616
        · have : IntKind.u64.wrap ((low : Int) + ((mid * 4294967296 : Nat) : Int)) = ((mid * 4294967296 + low : Nat) : Int) := by
            rw [show (low : Int) + ((mid * 4294967296 : Nat) : Int) = ((mid * 4294967296 + low : Nat) : Int) by omega]
            exact wrapN hf
          rw [this] at hp
          subst hp
          have : ok = true := by rw [← hk, decide_eq_true_eq]; omega
          simp [this, hf]
        · have e : IntKind.u64.wrap ((low : Int) + ((mid * 4294967296 : Nat) : Int)) = ((mid * 4294967296 + low : Nat) : Int) - 18446744073709551616 := by
            rw [wrap_u64_mod]; omega
          rw [e] at hp
          have : ok = false := by rw [← hk, decide_eq_false_iff_not]; omega
          simp [this]; omega
      by_cases h1 : 0 < ah
      · have h2 : ¬ 0 < bh := by omega
        refine ⟨_, _, ?_, fin _ _ rfl rfl⟩
        simp [k_sat_times, div32, low32, hx, hy, hz, hw, h1, h2, hc, ov, p3, sh, -Int.natCast_mul]
        intro h; omega
      · refine ⟨_, _, ?_, fin _ _ rfl rfl⟩
        simp [k_sat_times, div32, low32, hx, hy, hz, hw, h1, hc, ov, p3, sh, -Int.natCast_mul]
        intro h; omega
end Go.Cd
