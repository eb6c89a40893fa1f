/- The document's Shift, of any numbers, and which instructions may be. No conditions. -/
import Derived.Test.YtgjeondicdipaaaR9QVmA
set_option linter.unusedVariables false
set_option linter.unusedSimpArgs false
namespace Go.Cd
open Go Go.Fw
def sSt (v n : Int) (ex : List (Nat × V)) : St := { env := [(0, .int .i64 v), (1, .int .i64 n)] ++ ex, hp := [], tl := fun _ => none, base := 0, next := 0 }
theorem wrap_mul2 (v : Int) (k : Nat) : IntKind.i64.wrap (IntKind.i64.wrap (v * 2) * 2 ^ k) = IntKind.i64.wrap (v * 2 ^ (k + 1)) := by
  rw [show v * 2 ^ (k + 1) = v * 2 * 2 ^ k from by rw [Int.pow_succ, Int.mul_assoc, Int.mul_comm 2]]
  generalize v * 2 = w
  obtain ⟨q, hq⟩ : ∃ q : Int, IntKind.i64.wrap w = w + 18446744073709551616 * q := by
    rw [IntKind.wrap_i64]
    exact ⟨-((w + 9223372036854775808) / 18446744073709551616), by omega⟩
  rw [hq, Int.add_mul, Int.mul_assoc]
  rw [IntKind.wrap_i64, IntKind.wrap_i64]
  generalize q * 2 ^ k = s
  omega
theorem up_loop (hi : ∀ v : Int, i64b (IntKind.i64.wrap v)) : ∀ (k : Nat) (v : Int), i64b v → k ≤ 63 → run kp (.loop [0, 1] k_ref1_Shift_L0 (sSt v k [])) = some (.out (.ext 0) (sSt (IntKind.i64.wrap (v * 2 ^ k)) 0 [(13, .bool false)]))
  | 0, v, hv, _ => by
    have w : IntKind.i64.wrap v = v := wrap_i64 hv.1 hv.2
    rw [run_round]
    simp [c_ref1_Shift_L0, k_ref1_Shift_L0b, sSt, w]
  | k + 1, v, hv, h => by
    rw [← wrap_mul2, ← up_loop hi k _ (hi _) (by omega), run_round]
    have p : (0 : Int) < ((k + 1 : Nat) : Int) := by omega
    have w : IntKind.i64.wrap (((k + 1 : Nat) : Int) - 1) = (k : Int) := by rw [wrap_i64 (by omega) (by omega)]; omega
    generalize ((k + 1 : Nat) : Int) = z at *
    simp [c_ref1_Shift_L0, k_ref1_Shift_L0b, sSt, p, w]
theorem half_down (v : Int) (hv : i64b v) : (if v < 0 ∧ ¬ v.tmod 2 = 0 then IntKind.i64.wrap (IntKind.i64.wrap (v.tdiv 2) - 1) else IntKind.i64.wrap (v.tdiv 2)) = v / 2 := by
  unfold i64b at hv
  have a : v.tdiv 2 = if 0 ≤ v ∨ v % 2 = 0 then v / 2 else v / 2 + 1 := by
    rcases Int.le_total 0 v with h | h
    · rw [Int.tdiv_eq_ediv_of_nonneg h, if_pos (.inl h)]
    · obtain ⟨u, rfl⟩ : ∃ u, v = -u := ⟨-v, by omega⟩
      rw [Int.neg_tdiv, Int.tdiv_eq_ediv_of_nonneg (by omega)]
      split <;> omega
  have b : v.tmod 2 = v - 2 * v.tdiv 2 := by have := Int.mul_tdiv_add_tmod v 2; omega
  have c : i64b (v.tdiv 2) := by rw [a]; unfold i64b; split <;> omega
  have w : IntKind.i64.wrap (v.tdiv 2) = v.tdiv 2 := wrap_i64 c.1 c.2
  rw [w]
  by_cases h : v < 0 ∧ ¬ v.tmod 2 = 0
  · have d : v.tdiv 2 = v / 2 + 1 := by
      rw [a, if_neg]; intro k; rcases k with k | k
      · omega
      · rw [b, a, if_pos (.inr k)] at h; omega
    rw [if_pos h, d, wrap_i64 (by omega) (by omega)]; omega
  · rw [if_neg h, a, if_pos]
    by_cases h0 : 0 ≤ v
    · exact .inl h0
    · right
      have h2 : v.tmod 2 = 0 := by
        by_cases e : v.tmod 2 = 0
        · exact e
        · exact absurd ⟨by omega, e⟩ h
      omega
theorem half_b (v : Int) (hv : i64b v) : i64b (v / 2) := by unfold i64b at *; omega
theorem down_loop : ∀ (k : Nat) (v : Int), i64b v → k ≤ 63 → run kp (.loop [0, 1] k_ref1_Shift_L1 (sSt v (-(k : Int)) [])) = some (.out (.ext 2) (sSt (v / 2 ^ k) 0 [(19, .bool false)]))
  | 0, v, hv, _ => by
    rw [run_round]
    simp [c_ref1_Shift_L1, k_ref1_Shift_L1b, sSt]
  | k + 1, v, hv, h => by
    have e : v / 2 ^ (k + 1) = v / 2 / 2 ^ k := by rw [Int.pow_succ, Int.mul_comm, Int.ediv_ediv_of_nonneg (by omega)]
    rw [e, ← down_loop k (v / 2) (half_b v hv) (by omega), run_round]
    have p : -((k + 1 : Nat) : Int) < 0 := by omega
    have w : IntKind.i64.wrap (-((k + 1 : Nat) : Int) + 1) = -(k : Int) := by rw [wrap_i64 (by omega) (by omega)]; omega
    have hd := half_down v hv
    generalize -((k + 1 : Nat) : Int) = z at *
    by_cases h1 : v < 0
    · by_cases h2 : v.tmod 2 = 0
      · rw [if_neg (by simp [h2])] at hd
        simp [c_ref1_Shift_L1, k_ref1_Shift_L1b, sSt, p, w, h1, h2, hd]
      · rw [if_pos ⟨h1, h2⟩] at hd
        simp [c_ref1_Shift_L1, k_ref1_Shift_L1b, sSt, p, w, h1, h2, hd]
    · rw [if_neg (by simp [h1])] at hd
      simp [c_ref1_Shift_L1, k_ref1_Shift_L1b, sSt, p, w, h1, hd]
theorem i64b_wrap (v : Int) : i64b (IntKind.i64.wrap v) := by
  rw [IntKind.wrap_i64]; unfold i64b; omega
theorem ref1_ShiftA (v n : Int) (hv : i64b v) : run kp (.data f_ref1_Shift [.int .i64 v, .int .i64 n]) = some (.ds [.int .i64 (shV v n)]) := by
  unfold shV
  rw [run_data, run_call, kp_ref1_Shift]
  by_cases h1 : n ≤ -64
  · have h1' : n < -63 := by omega
    rw [if_pos (.inl h1)]
    simp [k_ref1_Shift, h1']
  have h1' : ¬ n < -63 := by omega
  by_cases h2 : 64 ≤ n
  · have h2' : 63 < n := by omega
    rw [if_pos (.inr h2)]
    simp [k_ref1_Shift, h1', h2']
  have h2' : ¬ 63 < n := by omega
  rw [if_neg (by omega)]
  by_cases h3 : n < 0
  · obtain ⟨k, rfl⟩ : ∃ k : Nat, n = -(k : Int) := ⟨(-n).toNat, by omega⟩
    rw [if_pos h3, show (- -(k : Int)).toNat = k by omega]
    have L := down_loop k v hv (by omega)
    have U : run kp (.loop [0, 1] k_ref1_Shift_L0 (sSt v (-(k : Int)) [])) = some (.out (.ext 0) (sSt v (-(k : Int)) [(13, .bool false)])) := by
      rw [run_round]
      have p : ¬ (0 : Int) < -(k : Int) := by omega
      generalize -(k : Int) = z at *
      simp [c_ref1_Shift_L0, k_ref1_Shift_L0b, sSt, p]
    simp only [sSt, List.append_nil, List.cons_append, List.nil_append] at L U
    generalize -(k : Int) = z at *
    simp [k_ref1_Shift, h1', h2', U, L]
  · obtain ⟨k, rfl⟩ : ∃ k : Nat, n = (k : Int) := ⟨n.toNat, by omega⟩
    rw [if_neg h3, show ((k : Int)).toNat = k from rfl]
    have U := up_loop i64b_wrap k v hv (by omega)
    have L := down_loop 0 (IntKind.i64.wrap (v * 2 ^ k)) (i64b_wrap _) (by omega)
    simp only [sSt, List.append_nil, List.cons_append, List.nil_append, Int.cast_ofNat_Int, Int.neg_zero, Int.pow_zero, Int.ediv_one] at L U
    generalize v * 2 ^ k = y at *
    generalize (k : Int) = z at *
    simp [k_ref1_Shift, h1', h2', U, L]
end Go.Cd
