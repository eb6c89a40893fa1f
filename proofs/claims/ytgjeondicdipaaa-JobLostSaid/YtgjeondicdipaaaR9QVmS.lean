/- Texts of this session in one. No conditions. -/
import Derived.Test.YtgjeondicdipaaaS6
import Derived.Laws.BitsLemmas
import Derived.Test.YtgjeondicdipaaaCode
import Derived.KernelRfl
import Derived.Test.YtgjeondicdipaaaR9QMay
set_option linter.unusedVariables false
set_option linter.unusedSimpArgs false
namespace Go.Cd
open Go Go.Fw
theorem emod_mulR (a b : Int) {s : Int} (h : 0 < s) : a * s % (b * s) = a % b * s := by rw [Int.mul_comm a, Int.mul_comm b, Int.mul_emod_mul_of_pos _ _ h, Int.mul_comm]
/-- What is shifted out and back, with its sign: H is half of P, P times S is 2 to the 64th. -/
theorem narrow_pure (v H S : Int) (hS : 0 < S) (hHS : H * S = 9223372036854775808) : IntKind.i64.wrap (v * S) / S = (v + H) % (H + H) - H := by
  rw [IntKind.wrap_i64, ← hHS, ← Int.add_mul, show (18446744073709551616 : Int) = (H + H) * S by rw [Int.add_mul]; omega, emod_mulR _ _ hS, ← Int.sub_mul, Int.mul_ediv_cancel _ (by omega)]
theorem two_half (k : Nat) (h : 1 ≤ k) : (2 : Int) ^ (k - 1) + 2 ^ (k - 1) = 2 ^ k := by
  obtain ⟨j, rfl⟩ : ∃ j, k = j + 1 := ⟨k - 1, by omega⟩
  simp only [Nat.add_sub_cancel, Int.pow_succ]; omega
theorem half_s (k : Nat) (h1 : 1 ≤ k) (h2 : k ≤ 64) : (2 : Int) ^ (k - 1) * 2 ^ (64 - k) = 9223372036854775808 := by
  rw [← Int.pow_add, show k - 1 + (64 - k) = 63 by omega]; rfl
theorem two_pos (k : Nat) : (0 : Int) < 2 ^ k := Int.pow_pos (by decide)
def nwF (v : Int) (k : Nat) : Int := (v + 2 ^ (k - 1)) % 2 ^ k - 2 ^ (k - 1)
theorem narrow_eq (v : Int) (k : Nat) (h1 : 1 ≤ k) (h2 : k ≤ 64) : IntKind.i64.wrap (v * 2 ^ (64 - k)) / 2 ^ (64 - k) = nwF v k := by
  rw [narrow_pure v (2 ^ (k - 1)) (2 ^ (64 - k)) (two_pos _) (half_s k h1 h2), two_half k h1]; rfl
theorem nw_range (v : Int) (k : Nat) (h1 : 1 ≤ k) : -(2 ^ (k - 1)) ≤ nwF v k ∧ nwF v k < 2 ^ (k - 1) := by
  have h := two_half k h1
  have p := two_pos k
  have := Int.emod_nonneg (v + 2 ^ (k - 1)) (b := 2 ^ k) (by omega)
  have := Int.emod_lt_of_pos (v + 2 ^ (k - 1)) p
  unfold nwF; omega
theorem nw_self {v : Int} {k : Nat} (h1 : 1 ≤ k) (h : -(2 ^ (k - 1)) ≤ v ∧ v < 2 ^ (k - 1)) : nwF v k = v := by
  have e := two_half k h1
  unfold nwF
  rw [Int.emod_eq_of_lt (by omega) (by omega)]; omega
theorem nw_nw (v : Int) (k : Nat) (h1 : 1 ≤ k) : nwF (nwF v k) k = nwF v k := nw_self h1 (nw_range v k h1)
theorem nw_mod (v : Int) (k : Nat) : ∃ q : Int, v - nwF v k = 2 ^ k * q := by
  refine ⟨(v + 2 ^ (k - 1)) / 2 ^ k, ?_⟩
  have := Int.mul_ediv_add_emod (v + 2 ^ (k - 1)) (2 ^ k)
  unfold nwF; omega
theorem two_le63 (k : Nat) (h : k ≤ 63) : (2 : Int) ^ k ≤ 9223372036854775808 := by
  have : (2 : Nat) ^ k ≤ 2 ^ 63 := Nat.pow_le_pow_right (by decide) h
  have e : ((2 ^ k : Nat) : Int) = (2 : Int) ^ k := by simp
  omega
/-- The difference, without a sign, is a multiple. -/
theorem diff_mod (v x : Int) (k : Nat) (hk : k ≤ 63) (q : Int) (h : v - x = 2 ^ k * q) : (IntKind.u64.wrap (IntKind.u64.wrap v - IntKind.u64.wrap x)) % 2 ^ k = 0 := by
  rw [wrap_u64_mod, wrap_u64_mod, wrap_u64_mod, ← Int.sub_emod, h]
  have e : (18446744073709551616 : Int) = 2 ^ k * 2 ^ (64 - k) := by rw [← Int.pow_add, show k + (64 - k) = 64 by omega]; rfl
  rw [e, Int.mul_emod_mul_of_pos _ _ (two_pos k)]
  exact Int.mul_emod_right _ _
theorem left_wrap (v P : Int) : IntKind.i64.wrap (IntKind.u64.wrap (IntKind.u64.wrap v * P)) = IntKind.i64.wrap (v * P) := by
  have h : (v % 18446744073709551616 * P) % 18446744073709551616 = (v * P) % 18446744073709551616 := by
    rw [Int.mul_emod, Int.emod_emod, ← Int.mul_emod]
  rw [wrap_u64_mod, wrap_u64_mod, IntKind.wrap_i64, IntKind.wrap_i64]
  omega
theorem up_fits (v : Int) (k : Nat) (hk : k ≤ 63) (h : -(2 ^ (63 - k)) ≤ v ∧ v < 2 ^ (63 - k)) : IntKind.i64.wrap (v * 2 ^ k) = v * 2 ^ k := by
  have p := two_pos k
  have e : (2 : Int) ^ (63 - k) * 2 ^ k = 9223372036854775808 := by rw [← Int.pow_add, show 63 - k + k = 63 by omega]; rfl
  have a1 := Int.mul_le_mul_of_nonneg_right h.1 (Int.le_of_lt p)
  have a2 := Int.mul_lt_mul_of_pos_right h.2 p
  rw [Int.neg_mul, e] at a1
  rw [e] at a2
  exact wrap_i64 a1 a2
theorem down_up (v : Int) (k : Nat) (hk : k ≤ 63) (hv : -9223372036854775808 ≤ v ∧ v < 9223372036854775808) :
    IntKind.i64.wrap (v / 2 ^ k * 2 ^ k) = v / 2 ^ k * 2 ^ k ∧ v / 2 ^ k * 2 ^ k ≤ v ∧ v - v / 2 ^ k * 2 ^ k < 2 ^ k := by
  have p := two_pos k
  have e : (2 : Int) ^ (63 - k) * 2 ^ k = 9223372036854775808 := by rw [← Int.pow_add, show 63 - k + k = 63 by omega]; rfl
  have d1 := Int.mul_ediv_add_emod v (2 ^ k)
  have d2 := Int.emod_nonneg v (b := 2 ^ k) (by omega)
  have d3 := Int.emod_lt_of_pos v p
  rw [Int.mul_comm] at d1
  have d4 : -(2 ^ (63 - k)) ≤ v / 2 ^ k := by
    apply Int.le_ediv_of_mul_le p
    rw [Int.neg_mul, e]; exact hv.1
  have a1 := Int.mul_le_mul_of_nonneg_right d4 (Int.le_of_lt p)
  rw [Int.neg_mul, e] at a1
  refine ⟨wrap_i64 a1 (by omega), by omega, by omega⟩
theorem diff_small (v x : Int) (h1 : x ≤ v) (P : Int) (h2 : v - x < P) (hP : P ≤ 9223372036854775808) : IntKind.u64.wrap (IntKind.u64.wrap v - IntKind.u64.wrap x) < P := by
  rw [wrap_u64_mod, wrap_u64_mod, wrap_u64_mod, ← Int.sub_emod, Int.emod_eq_of_lt (by omega) (by omega)]
  exact h2
end Go.Cd
namespace Go.Cd
open Go Go.Fw
theorem vm_Narrow (v : Int) (k : Nat) (h1 : 1 ≤ k) (h2 : k ≤ 64) : run kp (.data f_vm_Narrow [.int .i64 v, .int .i64 (k : Int)]) = some (.ds [.int .i64 (nwF v k)]) := by
  rw [run_data, run_call, kp_vm_Narrow]
  have a1 : ¬ (k : Int) < 1 := by omega
  have a2 : ¬ (64 : Int) < (k : Int) := by omega
  have w : IntKind.i64.wrap (64 - (k : Int)) = ((64 - k : Nat) : Int) := by rw [wrap_i64 (by omega) (by omega)]; omega
  have m : min (64 - k) 64 = 64 - k := by omega
  have e := narrow_eq v k h1 h2
  have n1 : ¬ ((64 - k : Nat) : Int) < 0 := by omega
  have a3 : ¬ k = 0 := by omega
  have a4 : ¬ 64 < k := by omega
  generalize nwF v k = x at *
  generalize 64 - k = s at *
  simp [k_vm_Narrow, a1, a2, a3, a4, w, m, n1, e, IntKind.bits]
theorem vm_Shift_up (v : Int) (k : Nat) (h : k ≤ 63) : run kp (.data f_vm_Shift [.int .i64 v, .int .i64 (k : Int)]) = some (.ds [.int .i64 (IntKind.i64.wrap (v * 2 ^ k))]) := by
  rw [run_data, run_call, kp_vm_Shift]
  have a1 : ¬ (k : Int) ≤ -64 := by omega
  have a2 : ¬ (64 : Int) ≤ (k : Int) := by omega
  have a3 : ¬ (k : Int) < 0 := by omega
  have a4 : ¬ 64 ≤ k := by omega
  have m : min k 64 = k := by omega
  have e := left_wrap v (2 ^ k)
  simp [k_vm_Shift, a1, a2, a3, a4, m, e, IntKind.bits]
theorem vm_Shift_down (v : Int) (k : Nat) (h1 : 1 ≤ k) (h : k ≤ 63) : run kp (.data f_vm_Shift [.int .i64 v, .int .i64 (-(k : Int))]) = some (.ds [.int .i64 (v / 2 ^ k)]) := by
  rw [run_data, run_call, kp_vm_Shift]
  have a1 : ¬ -(k : Int) ≤ -64 := by omega
  have a2 : ¬ (64 : Int) ≤ -(k : Int) := by omega
  have a3 : -(k : Int) < 0 := by omega
  have a4 : ¬ 64 ≤ k := by omega
  have a5 : 0 < k := by omega
  have w : IntKind.i64.wrap (k : Int) = (k : Int) := wrap_i64 (by omega) (by omega)
  have m : min k 64 = k := by omega
  have n1 : ¬ (k : Int) < 0 := by omega
  generalize hz : -(k : Int) = z at *
  have w2 : IntKind.i64.wrap (0 - z) = (k : Int) := by rw [wrap_i64 (by omega) (by omega)]; omega
  have w3 : IntKind.i64.wrap (-z) = (k : Int) := by rw [wrap_i64 (by omega) (by omega)]; omega
  simp [k_vm_Shift, a1, a2, a3, a4, a5, m, w, w2, w3, n1, IntKind.bits]
theorem vm_Shift_none (v z : Int) (h : z ≤ -64 ∨ 64 ≤ z) : run kp (.data f_vm_Shift [.int .i64 v, .int .i64 z]) = some (.ds [.int .i64 v]) := by
  rw [run_data, run_call, kp_vm_Shift]
  by_cases h1 : z ≤ -64
  · simp [k_vm_Shift, h1]
  · have : 64 ≤ z := by omega
    simp [k_vm_Shift, h1, this]
theorem wf_i64' {n : Int} (h : (Lit.int .i64 n).wf = true) : -9223372036854775808 ≤ n ∧ n < 9223372036854775808 := by
  simp [Lit.wf, IntKind.min, IntKind.max, IntKind.signed, IntKind.bits] at h; omega
theorem nw64 {v : Int} (h : -9223372036854775808 ≤ v ∧ v < 9223372036854775808) : nwF v 64 = v := nw_self (by omega) (by simpa using h)
end Go.Cd
namespace Go.Cd
open Go Go.Fw
structure Rep where
  first : Int
  last : Int
  left : Int
def Rep.d (r : Rep) : D := .agg [.int .i64 r.first, .int .i64 r.last, .int .i64 r.left]
theorem clone_Rep (nl : Bool) (l : List Rep) (hn : nl = true → l = []) (hl : l.length ≤ 100000) : run kp (.data f_slices_Clone_api_Rep2_api_Rep2 [.sl nl (l.map Rep.d)]) = some (.ds [.sl nl (l.map Rep.d)]) := by
  rw [run_data, run_call, kp_slices_Clone_api_Rep2_api_Rep2]
  cases nl with
  | true => simp [hn rfl, k_slices_Clone_api_Rep2_api_Rep2]
  | false =>
    simp [k_slices_Clone_api_Rep2_api_Rep2]
    omega
/-- A machine, its numbers as they are. -/
def mD (pc : Int) (mem : List Int) (rn : Bool) (reps : List Rep) (over : Bool) : D := .agg [.int .i64 pc, .agg (mem.map (.int .i64)), .sl rn (reps.map Rep.d), .bool over]
theorem vm_twin (pc : Int) (mem : List Int) (rn : Bool) (reps : List Rep) (over : Bool) (hn : rn = true → reps = []) (hl : reps.length ≤ 100000) : run kp (.data f_vm_twin [mD pc mem rn reps over]) = some (.ds [mD pc mem rn reps over]) := by
  rw [run_data, run_call, kp_vm_twin]
  have c := clone_Rep rn reps hn hl
  cases rn with
  | true =>
    have := hn rfl; subst this
    simp only [List.map_nil] at c
    simp [k_vm_twin, mD, c, flats_ints]
  | false => simp [k_vm_twin, mD, c, flats_ints]
end Go.Cd
