/- Texts of this session in one. No conditions. -/
import Derived.Test.YtgjeondicdipaaaR9QVmS
set_option linter.unusedVariables false
set_option linter.unusedSimpArgs false
namespace Go.Cd
open Go Go.Fw
def i64b (v : Int) : Prop := -9223372036854775808 ≤ v ∧ v < 9223372036854775808
def nwV (v n : Int) : Int := if n < 1 ∨ 63 < n then v else nwF v n.toNat
def shV (v n : Int) : Int := if n ≤ -64 ∨ 64 ≤ n then v else if n < 0 then v / 2 ^ (-n).toNat else IntKind.i64.wrap (v * 2 ^ n.toNat)
theorem vm_NarrowA (v n : Int) (hv : i64b v) : run kp (.data f_vm_Narrow [.int .i64 v, .int .i64 n]) = some (.ds [.int .i64 (nwV v n)]) := by
  unfold nwV
  by_cases h1 : n < 1
  · rw [if_pos (.inl h1), run_data, run_call, kp_vm_Narrow]
    simp [k_vm_Narrow, h1]
  by_cases h2 : 64 < n
  · rw [if_pos (.inr (by omega)), run_data, run_call, kp_vm_Narrow]
    simp [k_vm_Narrow, h1, h2]
  obtain ⟨k, rfl⟩ : ∃ k : Nat, n = (k : Int) := ⟨n.toNat, by omega⟩
  rw [vm_Narrow v k (by omega) (by omega)]
  by_cases h3 : k = 64
  · subst h3; rw [nw64 hv]; rfl
  · rw [if_neg (by omega)]; rfl
theorem vm_ShiftA (v n : Int) (hv : i64b v) : run kp (.data f_vm_Shift [.int .i64 v, .int .i64 n]) = some (.ds [.int .i64 (shV v n)]) := by
  unfold shV
  by_cases h1 : n ≤ -64
  · rw [if_pos (.inl h1), vm_Shift_none v n (.inl h1)]
  by_cases h2 : 64 ≤ n
  · rw [if_pos (.inr h2), vm_Shift_none v n (.inr h2)]
  rw [if_neg (by omega)]
  by_cases h3 : n < 0
  · obtain ⟨k, rfl⟩ : ∃ k : Nat, n = -(k : Int) := ⟨(-n).toNat, by omega⟩
    rw [if_pos h3, vm_Shift_down v k (by omega) (by omega), show (- -(k : Int)).toNat = k by omega]
  · obtain ⟨k, rfl⟩ : ∃ k : Nat, n = (k : Int) := ⟨n.toNat, by omega⟩
    rw [if_neg h3, vm_Shift_up v k (by omega)]; rfl
theorem two_lt' {i : Nat} (h : i ≤ 63) : 2 ^ i < 2 ^ 64 := Nat.pow_lt_pow_right (by decide) (by omega)
theorem refbit_loop : ∀ (i b : Nat), b + i ≤ 63 →
    run kp (.loop [0, 3] k_ref1_bit_L0 { env := [(0, .int .i64 (i : Int)), (3, .int .u64 ((2 ^ b : Nat) : Int))], hp := [], tl := fun _ => none, base := 0, next := 0 }) =
    some (.out (.ext 0) { env := [(0, .int .i64 0), (3, .int .u64 ((2 ^ (b + i) : Nat) : Int)), (5, .bool false)], hp := [], tl := fun _ => none, base := 0, next := 0 })
  | 0, b, h => by
    rw [run_round]
    simp [c_ref1_bit_L0, k_ref1_bit_L0b]
  | i + 1, b, h => by
    have ih := refbit_loop i (b + 1) (by omega)
    have hp := two_lt' (i := b + 1) (by omega)
    have w1 : IntKind.u64.wrap (2 * ((2 ^ b : Nat) : Int)) = ((2 ^ (b + 1) : Nat) : Int) := by
      rw [Nat.pow_succ] at hp ⊢
      rw [wrap_u64_mod]; omega
    have w2 : IntKind.i64.wrap (((i + 1 : Nat) : Int) - 1) = (i : Int) := by rw [wrap_i64 (by omega) (by omega)]; omega
    have p : (0 : Int) < ((i + 1 : Nat) : Int) := by omega
    rw [show b + 1 + i = b + (i + 1) by omega] at ih
    rw [← ih, run_round]
    generalize 2 ^ (b + 1) = x at *
    generalize 2 ^ b = y at *
    generalize ((i + 1 : Nat) : Int) = z at *
    simp [c_ref1_bit_L0, k_ref1_bit_L0b, w1, w2, p]
theorem ref1_bit (i : Nat) (h : i ≤ 63) : run kp (.data f_ref1_bit [.int .i64 (i : Int)]) = some (.ds [.int .u64 ((2 ^ i : Nat) : Int)]) := by
  have l := refbit_loop i 0 (by omega)
  rw [run_data, run_call, kp_ref1_bit]
  rw [Nat.zero_add] at l
  generalize 2 ^ i = x at *
  simp only [Nat.pow_zero, Int.cast_ofNat_Int] at l
  simp [k_ref1_bit, l]
theorem nw_parts (v H : Int) (hH : 0 < H) : (v + H) % (H + H) - H = if H ≤ v % (H + H) then v % (H + H) - (H + H) else v % (H + H) := by
  have a := Int.emod_nonneg v (b := H + H) (by omega)
  have b := Int.emod_lt_of_pos v (b := H + H) (by omega)
  rw [← Int.emod_add_emod]
  generalize v % (H + H) = x at *
  split
  · rw [show x + H = (x - H) + (H + H) by omega, Int.add_emod_right, Int.emod_eq_of_lt (by omega) (by omega)]; omega
  · rw [Int.emod_eq_of_lt (by omega) (by omega)]; omega
theorem nw_mod63 (v : Int) (k : Nat) (h : k ≤ 63) : (IntKind.u64.wrap v).tmod ((2 ^ k : Nat) : Int) = v % 2 ^ k := by
  rw [wrap_u64_mod]
  rw [Int.tmod_eq_emod_of_nonneg (Int.emod_nonneg _ (by decide))]
  have e : ((2 ^ k : Nat) : Int) = (2 : Int) ^ k := by simp
  rw [e]
  refine Int.emod_emod_of_dvd _ ⟨2 ^ (64 - k), ?_⟩
  rw [← Int.pow_add, show k + (64 - k) = 64 by omega]; rfl
set_option maxHeartbeats 4000000 in
theorem ref1_NarrowA (v n : Int) : run kp (.data f_ref1_Narrow [.int .i64 v, .int .i64 n]) = some (.ds [.int .i64 (nwV v n)]) := by
  unfold nwV
  rw [run_data, run_call, kp_ref1_Narrow]
  by_cases h1 : n < 1
  · rw [if_pos (.inl h1)]
    simp [k_ref1_Narrow, h1]
  by_cases h2 : 63 < n
  · rw [if_pos (.inr (by omega))]
    simp [k_ref1_Narrow, h1, h2]
  rw [if_neg (by omega)]
  obtain ⟨k, rfl⟩ : ∃ k : Nat, n = (k : Int) := ⟨n.toNat, by omega⟩
  obtain ⟨j, rfl⟩ : ∃ j, k = j + 1 := ⟨k - 1, by omega⟩
  have b1 := ref1_bit (j + 1) (by omega)
  have b2 := ref1_bit j (by omega)
  have m := nw_mod63 v (j + 1) (by omega)
  have w : IntKind.i64.wrap (((j + 1 : Nat) : Int) - 1) = (j : Int) := by rw [wrap_i64 (by omega) (by omega)]; omega
  have e1 : ((2 ^ j : Nat) : Int) = (2 : Int) ^ j := by simp
  have e2 : ((2 ^ (j + 1) : Nat) : Int) = (2 : Int) ^ j + 2 ^ j := by rw [Nat.pow_succ]; simp; omega
  have e3 : ((2 : Int) ^ (j + 1)) = (2 : Int) ^ j + 2 ^ j := by rw [Int.pow_succ]; omega
  have pz : ¬ ((2 : Int) ^ j + 2 ^ j = 0) := by have := two_pos j; omega
  have pp := nw_parts v (2 ^ j) (two_pos j)
  have l := two_le63 j (by omega)
  have l2 := two_le63 (j + 1) (by omega)
  have l0 := two_pos j
  rw [show (((j + 1 : Nat) : Int)).toNat = j + 1 from rfl]
  have en : nwF v (j + 1) = (v + 2 ^ j) % (2 ^ j + 2 ^ j) - 2 ^ j := by unfold nwF; rw [e3]; rfl
  rw [en, pp]
  rw [e2] at m b1
  rw [e1] at b2
  rw [e3] at m l2
  have x0 := Int.emod_nonneg v (b := (2 : Int) ^ j + 2 ^ j) pz
  have x1 := Int.emod_lt_of_pos v (b := (2 : Int) ^ j + 2 ^ j) (by omega)
  clear e1 e2 e3 en pp
  generalize (2 : Int) ^ j = H at *
  generalize v % (H + H) = x at *
  generalize ((j + 1 : Nat) : Int) = z at *
  have wx : IntKind.i64.wrap x = x := wrap_i64 (by omega) (by omega)
  have wd : IntKind.u64.wrap (H + H - x) = H + H - x := wrap_u64 (by omega) (by omega)
  by_cases h3 : H ≤ x
  · have wd2 : IntKind.i64.wrap (H + H - x) = H + H - x := wrap_i64 (by omega) (by omega)
    have wd3 : IntKind.i64.wrap (-(H + H - x)) = x - (H + H) := by rw [wrap_i64 (by omega) (by omega)]; omega
    have wd4 : IntKind.i64.wrap (0 - (H + H - x)) = x - (H + H) := by rw [wrap_i64 (by omega) (by omega)]; omega
    simp [k_ref1_Narrow, h1, h2, h3, b1, b2, m, w, pz, wx, wd, wd2, wd3, wd4]
  · simp [k_ref1_Narrow, h1, h2, h3, b1, b2, m, w, pz, wx, wd]
end Go.Cd
namespace Go.Cd
open Go Go.Fw
def sSt (v n : Int) (ex : List (Nat × V)) : St := { env := [(0, .int .i64 v), (1, .int .i64 n)] ++ ex, hp := [], tl := fun _ => none, base := 0, next := 0 }
theorem wrap_mul2 (v : Int) (k : Nat) : IntKind.i64.wrap (IntKind.i64.wrap (v * 2) * 2 ^ k) = IntKind.i64.wrap (v * 2 ^ (k + 1)) := by
  rw [show v * 2 ^ (k + 1) = v * 2 * 2 ^ k from by rw [Int.pow_succ, Int.mul_assoc, Int.mul_comm 2]]
  generalize v * 2 = w
  obtain ⟨q, hq⟩ : ∃ q : Int, IntKind.i64.wrap w = w + 18446744073709551616 * q := by
    rw [IntKind.wrap_i64]
    exact ⟨-((w + 9223372036854775808) / 18446744073709551616), by omega⟩
  rw [hq, Int.add_mul, Int.mul_assoc]
  rw [IntKind.wrap_i64, IntKind.wrap_i64]
  generalize q * 2 ^ k = s
  omega
theorem up_loop (hi : ∀ v : Int, i64b (IntKind.i64.wrap v)) : ∀ (k : Nat) (v : Int), i64b v → k ≤ 63 → run kp (.loop [0, 1] k_ref1_Shift_L0 (sSt v k [])) = some (.out (.ext 0) (sSt (IntKind.i64.wrap (v * 2 ^ k)) 0 [(13, .bool false)]))
  | 0, v, hv, _ => by
    have w : IntKind.i64.wrap v = v := wrap_i64 hv.1 hv.2
    rw [run_round]
    simp [c_ref1_Shift_L0, k_ref1_Shift_L0b, sSt, w]
  | k + 1, v, hv, h => by
    rw [← wrap_mul2, ← up_loop hi k _ (hi _) (by omega), run_round]
    have p : (0 : Int) < ((k + 1 : Nat) : Int) := by omega
    have w : IntKind.i64.wrap (((k + 1 : Nat) : Int) - 1) = (k : Int) := by rw [wrap_i64 (by omega) (by omega)]; omega
    generalize ((k + 1 : Nat) : Int) = z at *
    simp [c_ref1_Shift_L0, k_ref1_Shift_L0b, sSt, p, w]
theorem half_down (v : Int) (hv : i64b v) : (if v < 0 ∧ ¬ v.tmod 2 = 0 then IntKind.i64.wrap (IntKind.i64.wrap (v.tdiv 2) - 1) else IntKind.i64.wrap (v.tdiv 2)) = v / 2 := by
  unfold i64b at hv
  have a : v.tdiv 2 = if 0 ≤ v ∨ v % 2 = 0 then v / 2 else v / 2 + 1 := by
    rcases Int.le_total 0 v with h | h
    · rw [Int.tdiv_eq_ediv_of_nonneg h, if_pos (.inl h)]
    · obtain ⟨u, rfl⟩ : ∃ u, v = -u := ⟨-v, by omega⟩
      rw [Int.neg_tdiv, Int.tdiv_eq_ediv_of_nonneg (by omega)]
      split <;> omega
  have b : v.tmod 2 = v - 2 * v.tdiv 2 := by have := Int.mul_tdiv_add_tmod v 2; omega
  have c : i64b (v.tdiv 2) := by rw [a]; unfold i64b; split <;> omega
  have w : IntKind.i64.wrap (v.tdiv 2) = v.tdiv 2 := wrap_i64 c.1 c.2
  rw [w]
  by_cases h : v < 0 ∧ ¬ v.tmod 2 = 0
  · have d : v.tdiv 2 = v / 2 + 1 := by
      rw [a, if_neg]; intro k; rcases k with k | k
      · omega
      · rw [b, a, if_pos (.inr k)] at h; omega
    rw [if_pos h, d, wrap_i64 (by omega) (by omega)]; omega
  · rw [if_neg h, a, if_pos]
    by_cases h0 : 0 ≤ v
    · exact .inl h0
    · right
      have h2 : v.tmod 2 = 0 := by
        by_cases e : v.tmod 2 = 0
        · exact e
        · exact absurd ⟨by omega, e⟩ h
      omega
theorem half_b (v : Int) (hv : i64b v) : i64b (v / 2) := by unfold i64b at *; omega
theorem down_loop : ∀ (k : Nat) (v : Int), i64b v → k ≤ 63 → run kp (.loop [0, 1] k_ref1_Shift_L1 (sSt v (-(k : Int)) [])) = some (.out (.ext 2) (sSt (v / 2 ^ k) 0 [(19, .bool false)]))
  | 0, v, hv, _ => by
    rw [run_round]
    simp [c_ref1_Shift_L1, k_ref1_Shift_L1b, sSt]
  | k + 1, v, hv, h => by
    have e : v / 2 ^ (k + 1) = v / 2 / 2 ^ k := by rw [Int.pow_succ, Int.mul_comm, Int.ediv_ediv_of_nonneg (by omega)]
    rw [e, ← down_loop k (v / 2) (half_b v hv) (by omega), run_round]
    have p : -((k + 1 : Nat) : Int) < 0 := by omega
    have w : IntKind.i64.wrap (-((k + 1 : Nat) : Int) + 1) = -(k : Int) := by rw [wrap_i64 (by omega) (by omega)]; omega
    have hd := half_down v hv
    generalize -((k + 1 : Nat) : Int) = z at *
    by_cases h1 : v < 0
    · by_cases h2 : v.tmod 2 = 0
      · rw [if_neg (by simp [h2])] at hd
        simp [c_ref1_Shift_L1, k_ref1_Shift_L1b, sSt, p, w, h1, h2, hd]
      · rw [if_pos ⟨h1, h2⟩] at hd
        simp [c_ref1_Shift_L1, k_ref1_Shift_L1b, sSt, p, w, h1, h2, hd]
    · rw [if_neg (by simp [h1])] at hd
      simp [c_ref1_Shift_L1, k_ref1_Shift_L1b, sSt, p, w, h1, hd]
theorem i64b_wrap (v : Int) : i64b (IntKind.i64.wrap v) := by
  rw [IntKind.wrap_i64]; unfold i64b; omega
theorem ref1_ShiftA (v n : Int) (hv : i64b v) : run kp (.data f_ref1_Shift [.int .i64 v, .int .i64 n]) = some (.ds [.int .i64 (shV v n)]) := by
  unfold shV
  rw [run_data, run_call, kp_ref1_Shift]
  by_cases h1 : n ≤ -64
  · have h1' : n < -63 := by omega
    rw [if_pos (.inl h1)]
    simp [k_ref1_Shift, h1']
  have h1' : ¬ n < -63 := by omega
  by_cases h2 : 64 ≤ n
  · have h2' : 63 < n := by omega
    rw [if_pos (.inr h2)]
    simp [k_ref1_Shift, h1', h2']
  have h2' : ¬ 63 < n := by omega
  rw [if_neg (by omega)]
  by_cases h3 : n < 0
  · obtain ⟨k, rfl⟩ : ∃ k : Nat, n = -(k : Int) := ⟨(-n).toNat, by omega⟩
    rw [if_pos h3, show (- -(k : Int)).toNat = k by omega]
    have L := down_loop k v hv (by omega)
    have U : run kp (.loop [0, 1] k_ref1_Shift_L0 (sSt v (-(k : Int)) [])) = some (.out (.ext 0) (sSt v (-(k : Int)) [(13, .bool false)])) := by
      rw [run_round]
      have p : ¬ (0 : Int) < -(k : Int) := by omega
      generalize -(k : Int) = z at *
      simp [c_ref1_Shift_L0, k_ref1_Shift_L0b, sSt, p]
    simp only [sSt, List.append_nil, List.cons_append, List.nil_append] at L U
    generalize -(k : Int) = z at *
    simp [k_ref1_Shift, h1', h2', U, L]
  · obtain ⟨k, rfl⟩ : ∃ k : Nat, n = (k : Int) := ⟨n.toNat, by omega⟩
    rw [if_neg h3, show ((k : Int)).toNat = k from rfl]
    have U := up_loop i64b_wrap k v hv (by omega)
    have L := down_loop 0 (IntKind.i64.wrap (v * 2 ^ k)) (i64b_wrap _) (by omega)
    simp only [sSt, List.append_nil, List.cons_append, List.nil_append, Int.cast_ofNat_Int, Int.neg_zero, Int.pow_zero, Int.ediv_one] at L U
    generalize v * 2 ^ k = y at *
    generalize (k : Int) = z at *
    simp [k_ref1_Shift, h1', h2', U, L]
end Go.Cd
