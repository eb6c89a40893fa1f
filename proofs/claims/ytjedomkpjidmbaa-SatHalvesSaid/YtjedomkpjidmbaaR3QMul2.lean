/- The products of sat and of the reference, and the reference's other functions. No conditions. -/
import Derived.Test.YtjedomkpjidmbaaR3QMul
set_option linter.unusedVariables false
set_option linter.unusedSimpArgs false
namespace Go.Cd
open Go Go.Fw
/-- A product by its size and its sign. -/
theorem mul_sign (a b : Int) : ((a < 0 ↔ b < 0) → a * b = (a.natAbs * b.natAbs : Nat)) ∧ (¬ (a < 0 ↔ b < 0) → a * b = -((a.natAbs * b.natAbs : Nat) : Int)) := by
  rw [← Int.natAbs_mul]
  constructor
  · intro h
    by_cases ha : a < 0
    · have hb := h.1 ha
      have := Int.mul_nonneg_of_nonpos_of_nonpos (Int.le_of_lt ha) (Int.le_of_lt hb)
      omega
    · have hb : ¬ b < 0 := fun k => ha (h.2 k)
      have := Int.mul_nonneg (Int.not_lt.1 ha) (Int.not_lt.1 hb)
      omega
  · intro h
    by_cases ha : a < 0
    · have hb : ¬ b < 0 := fun k => h ⟨fun _ => k, fun _ => ha⟩
      have := Int.mul_nonpos_of_nonpos_of_nonneg (Int.le_of_lt ha) (Int.not_lt.1 hb)
      omega
    · have hb : b < 0 := by
        by_cases k : b < 0
        · exact k
        · exact absurd ⟨fun x => absurd x ha, fun x => absurd x k⟩ h
      have := Int.mul_nonpos_of_nonneg_of_nonpos (Int.not_lt.1 ha) (Int.le_of_lt hb)
      omega
theorem sat_Mul (a b : Int) (ha : In64 a) (hb : In64 b) : run kp (.data f_sat_Mul [.int .i64 a, .int .i64 b]) = some (.ds [.int .i64 (satV (a * b)), .bool (satB (a * b))]) := by
  rw [run_data, run_call, kp_sat_Mul]
  have := ha.1; have := ha.2; have := hb.1; have := hb.2
  obtain ⟨p, ok, e, k1, k2⟩ := sat_times a.natAbs b.natAbs (by omega) (by omega)
  obtain ⟨m1, m2⟩ := mul_sign a b
  generalize a.natAbs * b.natAbs = n at *
  generalize hc : a * b = c at *
  have w8 : IntKind.u64.wrap 9223372036854775808 = 9223372036854775808 := by decide
  by_cases hs : a < 0 ↔ b < 0
  · have m := m1 hs
    have hd : (decide (a < 0) = decide (b < 0)) := by simp [hs]
    have s1 : ¬ c < -9223372036854775808 := by omega
    have s3 : -9223372036854775808 ≤ c := by omega
    cases ok
    · have hbig : 18446744073709551616 ≤ n := by simpa using k1
      have s2 : 9223372036854775807 < c := by omega
      have s4 : ¬ c ≤ 9223372036854775807 := by omega
      simp [k_sat_Mul, sat_size, ha, hb, e, sat_end, hd, satV, satB, s1, s2, s4]
    · have hp := k2 rfl
      have hn := k1.1 rfl
      subst hp
      by_cases hbig : (9223372036854775807 : Int) < n
      · have s2 : 9223372036854775807 < c := by omega
        have s4 : ¬ c ≤ 9223372036854775807 := by omega
        simp [k_sat_Mul, sat_size, ha, hb, e, sat_end, hd, satV, satB, s1, s2, s4, hbig]
      · have s2 : ¬ 9223372036854775807 < c := by omega
        have s4 : c ≤ 9223372036854775807 := by omega
        have w : IntKind.i64.wrap (n : Int) = c := by rw [m]; exact wrap_i64 (by omega) (by omega)
        simp [k_sat_Mul, sat_size, ha, hb, e, sat_end, hd, satV, satB, s1, s2, s3, s4, w, hbig]
  · have m := m2 hs
    have hd : (decide (a < 0) = decide (b < 0)) = False := by simp; omega
    have s4 : c ≤ 9223372036854775807 := by omega
    have s2 : ¬ 9223372036854775807 < c := by omega
    cases ok
    · have hbig : 18446744073709551616 ≤ n := by simpa using k1
      have s1 : c < -9223372036854775808 := by omega
      have s3 : ¬ -9223372036854775808 ≤ c := by omega
      simp [k_sat_Mul, sat_size, ha, hb, e, sat_end, hd, satV, satB, s1, s3]
    · have hp := k2 rfl
      have hn := k1.1 rfl
      subst hp
      by_cases hbig : (9223372036854775808 : Int) < n
      · have s1 : c < -9223372036854775808 := by omega
        have s3 : ¬ -9223372036854775808 ≤ c := by omega
        simp [k_sat_Mul, sat_size, ha, hb, e, sat_end, hd, satV, satB, s1, s3, hbig, w8]
      · have s1 : ¬ c < -9223372036854775808 := by omega
        have s3 : -9223372036854775808 ≤ c := by omega
        have w : IntKind.i64.wrap (IntKind.u64.wrap (-(n : Int))) = c := by
          rw [m, wrap_u64_mod]
          simp only [IntKind.wrap, IntKind.bits, IntKind.signed]
          simp
          omega
        simp [k_sat_Mul, sat_size, ha, hb, e, sat_end, hd, satV, satB, s1, s2, s3, s4, w, hbig, w8]
theorem ref_Add (a b : Int) (ha : In64 a) (hb : In64 b) : run kp (.data f_ref1_Add [.int .i64 a, .int .i64 b]) = some (.ds [.int .i64 (satV (a + b)), .bool (satB (a + b))]) := by
  rw [run_data, run_call, kp_ref1_Add]
  have := ha.1; have := ha.2; have := hb.1; have := hb.2
  by_cases h1 : 0 < b
  · have w1 : IntKind.i64.wrap (9223372036854775807 - b) = 9223372036854775807 - b := wrap_i64 (by omega) (by omega)
    have h2 : ¬ b < 0 := by omega
    have s1 : ¬ a + b < -9223372036854775808 := by omega
    have s3 : -9223372036854775808 ≤ a + b := by omega
    by_cases h3 : 9223372036854775807 - b < a
    · have s2 : 9223372036854775807 < a + b := by omega
      simp [k_ref1_Add, h1, w1, h3, satV, satB, s1, s2]
    · have s2 : ¬ 9223372036854775807 < a + b := by omega
      have s4 : a + b ≤ 9223372036854775807 := by omega
      have w2 : IntKind.i64.wrap (a + b) = a + b := wrap_i64 (by omega) (by omega)
      simp [k_ref1_Add, h1, h2, w1, w2, h3, satV, satB, s1, s2, s3, s4]
  · have s2 : ¬ 9223372036854775807 < a + b := by omega
    have s4 : a + b ≤ 9223372036854775807 := by omega
    by_cases h2 : b < 0
    · have w1 : IntKind.i64.wrap (-9223372036854775808 - b) = -9223372036854775808 - b := wrap_i64 (by omega) (by omega)
      by_cases h3 : a < -9223372036854775808 - b
      · have s1 : a + b < -9223372036854775808 := by omega
        have s3 : ¬ -9223372036854775808 ≤ a + b := by omega
        simp [k_ref1_Add, h1, h2, w1, h3, satV, satB, s1, s3]
      · have s1 : ¬ a + b < -9223372036854775808 := by omega
        have s3 : -9223372036854775808 ≤ a + b := by omega
        have w2 : IntKind.i64.wrap (a + b) = a + b := wrap_i64 (by omega) (by omega)
        simp [k_ref1_Add, h1, h2, w1, w2, h3, satV, satB, s1, s2, s3, s4]
    · have : b = 0 := by omega
      subst this
      have w2 : IntKind.i64.wrap a = a := wrap_i64 (by omega) (by omega)
      have s1 : ¬ a < -9223372036854775808 := by omega
      have s2 : ¬ 9223372036854775807 < a := by omega
      have s3 : -9223372036854775808 ≤ a := by omega
      have s4 : a ≤ 9223372036854775807 := by omega
      simp [k_ref1_Add, w2, satV, satB, s1, s2, s3, s4]
theorem ref_Sub (a b : Int) (ha : In64 a) (hb : In64 b) : run kp (.data f_ref1_Sub [.int .i64 a, .int .i64 b]) = some (.ds [.int .i64 (satV (a - b)), .bool (satB (a - b))]) := by
  rw [run_data, run_call, kp_ref1_Sub]
  have := ha.1; have := ha.2; have := hb.1; have := hb.2
  by_cases h1 : b < 0
  · have w1 : IntKind.i64.wrap (9223372036854775807 + b) = 9223372036854775807 + b := wrap_i64 (by omega) (by omega)
    have h2 : ¬ 0 < b := by omega
    have s1 : ¬ a - b < -9223372036854775808 := by omega
    have s3 : -9223372036854775808 ≤ a - b := by omega
    by_cases h3 : 9223372036854775807 + b < a
    · have s2 : 9223372036854775807 < a - b := by omega
      simp [k_ref1_Sub, h1, w1, h3, satV, satB, s1, s2]
    · have s2 : ¬ 9223372036854775807 < a - b := by omega
      have s4 : a - b ≤ 9223372036854775807 := by omega
      have w2 : IntKind.i64.wrap (a - b) = a - b := wrap_i64 (by omega) (by omega)
      simp [k_ref1_Sub, h1, h2, w1, w2, h3, satV, satB, s1, s2, s3, s4]
  · have s2 : ¬ 9223372036854775807 < a - b := by omega
    have s4 : a - b ≤ 9223372036854775807 := by omega
    by_cases h2 : 0 < b
    · have w1 : IntKind.i64.wrap (-9223372036854775808 + b) = -9223372036854775808 + b := wrap_i64 (by omega) (by omega)
      by_cases h3 : a < -9223372036854775808 + b
      · have s1 : a - b < -9223372036854775808 := by omega
        have s3 : ¬ -9223372036854775808 ≤ a - b := by omega
        simp [k_ref1_Sub, h1, h2, w1, h3, satV, satB, s1, s3]
      · have s1 : ¬ a - b < -9223372036854775808 := by omega
        have s3 : -9223372036854775808 ≤ a - b := by omega
        have w2 : IntKind.i64.wrap (a - b) = a - b := wrap_i64 (by omega) (by omega)
        simp [k_ref1_Sub, h1, h2, w1, w2, h3, satV, satB, s1, s2, s3, s4]
    · have : b = 0 := by omega
      subst this
      have w2 : IntKind.i64.wrap a = a := wrap_i64 (by omega) (by omega)
      have s1 : ¬ a < -9223372036854775808 := by omega
      have s2 : ¬ 9223372036854775807 < a := by omega
      have s3 : -9223372036854775808 ≤ a := by omega
      have s4 : a ≤ 9223372036854775807 := by omega
      simp [k_ref1_Sub, w2, satV, satB, s1, s2, s3, s4]
theorem wrap_mul (a b : Int) : ∃ t : Int, IntKind.i64.wrap (a * b) = a * b + 18446744073709551616 * t := by
  refine ⟨(IntKind.i64.wrap (a * b) - a * b) / 18446744073709551616, ?_⟩
  generalize a * b = x
  simp only [IntKind.wrap, IntKind.bits, IntKind.signed]
  simp
  omega
set_option maxHeartbeats 4000000 in
theorem ref_Mul (a b : Int) (ha : In64 a) (hb : In64 b) : run kp (.data f_ref1_Mul [.int .i64 a, .int .i64 b]) = some (.ds [.int .i64 (satV (a * b)), .bool (satB (a * b))]) := by
  rw [run_data, run_call, kp_ref1_Mul]
  have := ha.1; have := ha.2; have := hb.1; have := hb.2
  by_cases a0 : a = 0
  · subst a0
    simp [k_ref1_Mul, satV, satB]
  · by_cases b0 : b = 0
    · subst b0
      simp [k_ref1_Mul, satV, satB]
    · obtain ⟨m1, m2⟩ := mul_sign a b
      have npos : 0 < a.natAbs * b.natAbs := Nat.mul_pos (by omega) (by omega)
      have over : ¬ In64 (a * b) → (if (a < 0 ↔ b < 0) then (9223372036854775807 : Int) else -9223372036854775808) = satV (a * b) ∧ satB (a * b) = false := by
        intro h
        generalize a.natAbs * b.natAbs = n at *
        generalize a * b = c at *
        simp only [In64] at h
        simp only [satV, satB]
        by_cases hs : a < 0 ↔ b < 0
        · have := m1 hs
          have s1 : ¬ c < -9223372036854775808 := by omega
          have s2 : 9223372036854775807 < c := by omega
          have s4 : ¬ c ≤ 9223372036854775807 := by omega
          simp [hs, s1, s2, s4]
        · have := m2 hs
          have s1 : c < -9223372036854775808 := by omega
          have s3 : ¬ -9223372036854775808 ≤ c := by omega
          simp [hs, s1, s3]
      have within : In64 (a * b) → satV (a * b) = a * b ∧ satB (a * b) = true := by
        intro h
        generalize a * b = c at *
        have := h.1; have := h.2
        simp only [satV, satB]
        have s1 : ¬ c < -9223372036854775808 := by omega
        have s2 : ¬ 9223372036854775807 < c := by omega
        have s3 : -9223372036854775808 ≤ c := by omega
        have s4 : c ≤ 9223372036854775807 := by omega
        simp [s1, s2, s3, s4]
      by_cases a1 : a = -1
      · subst a1
        by_cases bm : b = -9223372036854775808
        · subst bm
          simp [k_ref1_Mul, satV, satB]
        · have i : In64 (-1 * b) := ⟨by omega, by omega⟩
          obtain ⟨k1, k2⟩ := within i
          have w : IntKind.i64.wrap (-b) = -b := wrap_i64 (by omega) (by omega)
          rw [k1, k2]
          simp [k_ref1_Mul, b0, bm, w]
      · by_cases bm : b = -1 ∧ a = -9223372036854775808
        · obtain ⟨rfl, rfl⟩ := bm
          simp [k_ref1_Mul, satV, satB]
        · obtain ⟨t, ht⟩ := wrap_mul a b
          by_cases i : In64 (a * b)
          · obtain ⟨k1, k2⟩ := within i
            have w : IntKind.i64.wrap (a * b) = a * b := wrap_i64 (by have := i.1; omega) (by have := i.2; omega)
            have q : (a * b).tdiv a = b := Int.mul_tdiv_cancel_left b a0
            have wb : IntKind.i64.wrap b = b := wrap_i64 (by omega) (by omega)
            rw [k1, k2]
            by_cases b1 : b = -1
            · subst b1
              have : ¬ a = -9223372036854775808 := by omega
              have e : a * -1 = -a := by omega
              rw [e] at w q
              simp [k_ref1_Mul, a0, a1, w, q, wb, this]
            · simp [k_ref1_Mul, a0, a1, b0, b1, w, q, wb]
          · obtain ⟨k1, k2⟩ := over i
            have a2 : 2 ≤ a.natAbs := by
              have : ¬ a = 1 := by
                intro h; subst h
                apply i
                rw [Int.one_mul]; exact hb
              omega
            have hi := wrap_in (a * b)
            have q : ¬ (IntKind.i64.wrap (a * b)).tdiv a = b := by
              intro q
              have r1 := Int.mul_tdiv_add_tmod (IntKind.i64.wrap (a * b)) a
              rw [q] at r1
              have r2 : ((IntKind.i64.wrap (a * b)).tmod a).natAbs < a.natAbs := by
                rw [Int.natAbs_tmod]; exact Nat.mod_lt _ (by omega)
              clear k1 over within m1 m2
              generalize IntKind.i64.wrap (a * b) = p at *
              generalize p.tmod a = r at *
              generalize a * b = c at *
              by_cases t0 : t = 0
              · subst t0
                apply i
                have : p = c := by omega
                rw [← this]; exact hi
              · omega
            have wq : IntKind.i64.wrap ((IntKind.i64.wrap (a * b)).tdiv a) = (IntKind.i64.wrap (a * b)).tdiv a := by
              have e := Int.natAbs_tdiv (IntKind.i64.wrap (a * b)) a
              generalize IntKind.i64.wrap (a * b) = p at *
              have u1 : p.natAbs / a.natAbs ≤ p.natAbs / 2 := Nat.div_le_div_left a2 (by decide)
              have := hi.1; have := hi.2
              change _ = p.natAbs / a.natAbs at e
              generalize p.tdiv a = y at *
              generalize p.natAbs / a.natAbs = z at *
              exact wrap_i64 (by omega) (by omega)
            have b1 : ¬ b = -1 := by
              intro h; subst h
              apply i
              exact ⟨by omega, by omega⟩
            rw [← k1, k2]
            clear over within k1 k2 m1 m2
            generalize hp : IntKind.i64.wrap (a * b) = p at *
            by_cases n1 : a < 0 <;> by_cases n2 : b < 0 <;>
              simp [k_ref1_Mul, a0, a1, b0, b1, q, wq, n1, n2, hp]
theorem ref_Up (a b : Int) (ha : In64 a) (hb : In64 b) : run kp (.data f_ref1_Up [.int .i64 a, .int .i64 b]) = some (.ds [.int .i64 (upV a b), .bool (decide (1 ≤ b ∧ 0 ≤ a))]) := by
  rw [run_data, run_call, kp_ref1_Up]
  by_cases h1 : b < 1
  · have : ¬ (1 ≤ b) := by omega
    simp [k_ref1_Up, upV, h1, this]
  · have h1' : 1 ≤ b := by omega
    by_cases h2 : a < 0
    · have : ¬ (0 ≤ a) := by omega
      simp [k_ref1_Up, upV, h1, h1', h2, this]
    · have h2' : 0 ≤ a := by omega
      have hb0 : ¬ b = 0 := by omega
      obtain ⟨e1, e2, e3, e4, e5, e6⟩ := up_fits ha h1' h2'
      by_cases h3 : 0 < a % b
      · simp [k_ref1_Up, upV, h1, h1', h2, h2', hb0, e1, e2, e3, h3, e6 h3]
      · simp [k_ref1_Up, upV, h1, h1', h2, h2', hb0, e1, e2, e3, h3]
end Go.Cd
