/- Narrow and Shift of vm. No conditions. -/
import Derived.Test.YteamehchfnccmaaCode
import Derived.Test.YteamehchfnccmaaS6
import Derived.Test.YteamehchfnccmaaR4QVmN
import Derived.KernelRfl
set_option linter.unusedVariables false
set_option linter.unusedSimpArgs false
namespace Go.Cd
open Go Go.Fw
set_option maxRecDepth 100000 in
theorem vm_begun : run kp (.data f_law8_begun []) = some (.ds [.bool true]) := run_of (n := 4000) (by kernel_rfl)
theorem vm_Narrow (v : Int) (k : Nat) (h1 : 1 ≤ k) (h2 : k ≤ 64) : run kp (.data f_vm_Narrow [.int .i64 v, .int .i64 (k : Int)]) = some (.ds [.int .i64 (nwF v k)]) := by
  rw [run_data, run_call, kp_vm_Narrow]
  have a1 : ¬ (k : Int) < 1 := by omega
  have a2 : ¬ (64 : Int) < (k : Int) := by omega
  have w : IntKind.i64.wrap (64 - (k : Int)) = ((64 - k : Nat) : Int) := by rw [wrap_i64 (by omega) (by omega)]; omega
  have m : min (64 - k) 64 = 64 - k := by omega
  have e := narrow_eq v k h1 h2
  have n1 : ¬ ((64 - k : Nat) : Int) < 0 := by omega
  have a3 : ¬ k = 0 := by omega
  have a4 : ¬ 64 < k := by omega
  generalize nwF v k = x at *
  generalize 64 - k = s at *
  simp [k_vm_Narrow, a1, a2, a3, a4, w, m, n1, e, IntKind.bits]
theorem vm_Shift_up (v : Int) (k : Nat) (h : k ≤ 63) : run kp (.data f_vm_Shift [.int .i64 v, .int .i64 (k : Int)]) = some (.ds [.int .i64 (IntKind.i64.wrap (v * 2 ^ k))]) := by
  rw [run_data, run_call, kp_vm_Shift]
  have a1 : ¬ (k : Int) ≤ -64 := by omega
  have a2 : ¬ (64 : Int) ≤ (k : Int) := by omega
  have a3 : ¬ (k : Int) < 0 := by omega
  have a4 : ¬ 64 ≤ k := by omega
  have m : min k 64 = k := by omega
  have e := left_wrap v (2 ^ k)
  simp [k_vm_Shift, a1, a2, a3, a4, m, e, IntKind.bits]
theorem vm_Shift_down (v : Int) (k : Nat) (h1 : 1 ≤ k) (h : k ≤ 63) : run kp (.data f_vm_Shift [.int .i64 v, .int .i64 (-(k : Int))]) = some (.ds [.int .i64 (v / 2 ^ k)]) := by
  rw [run_data, run_call, kp_vm_Shift]
  have a1 : ¬ -(k : Int) ≤ -64 := by omega
  have a2 : ¬ (64 : Int) ≤ -(k : Int) := by omega
  have a3 : -(k : Int) < 0 := by omega
  have a4 : ¬ 64 ≤ k := by omega
  have a5 : 0 < k := by omega
  have w : IntKind.i64.wrap (k : Int) = (k : Int) := wrap_i64 (by omega) (by omega)
  have m : min k 64 = k := by omega
  have n1 : ¬ (k : Int) < 0 := by omega
  generalize hz : -(k : Int) = z at *
  have w2 : IntKind.i64.wrap (0 - z) = (k : Int) := by rw [wrap_i64 (by omega) (by omega)]; omega
  have w3 : IntKind.i64.wrap (-z) = (k : Int) := by rw [wrap_i64 (by omega) (by omega)]; omega
  simp [k_vm_Shift, a1, a2, a3, a4, a5, m, w, w2, w3, n1, IntKind.bits]
theorem vm_Shift_none (v z : Int) (h : z ≤ -64 ∨ 64 ≤ z) : run kp (.data f_vm_Shift [.int .i64 v, .int .i64 z]) = some (.ds [.int .i64 v]) := by
  rw [run_data, run_call, kp_vm_Shift]
  by_cases h1 : z ≤ -64
  · simp [k_vm_Shift, h1]
  · have : 64 ≤ z := by omega
    simp [k_vm_Shift, h1, this]
theorem wf_i64' {n : Int} (h : (Lit.int .i64 n).wf = true) : -9223372036854775808 ≤ n ∧ n < 9223372036854775808 := by
  simp [Lit.wf, IntKind.min, IntKind.max, IntKind.signed, IntKind.bits] at h; omega
theorem nw64 {v : Int} (h : -9223372036854775808 ≤ v ∧ v < 9223372036854775808) : nwF v 64 = v := nw_self (by omega) (by simpa using h)
set_option maxHeartbeats 4000000 in
theorem law_VmNarrow (xs : List D) (h : Sh.hasL [.i .i64, .i .u8] xs) : run kp (.data f_law8_VmNarrow xs) = some (.ds [.bool true]) := by
  obtain ⟨x1, _, rfl, h1, h⟩ := hasL_cons h
  obtain ⟨x2, _, rfl, h2, h⟩ := hasL_cons h
  obtain rfl := hasL_nil h
  obtain ⟨v, rfl, k1⟩ := has_int h1
  obtain ⟨n, rfl, k2⟩ := has_int h2
  have hv := wf_i64' k1
  have hn := wf_u8 k2
  obtain ⟨k, hk, hk1, hk63⟩ : ∃ k : Nat, IntKind.i64.wrap (1 + IntKind.i64.wrap (n.tmod 63)) = (k : Int) ∧ 1 ≤ k ∧ k ≤ 63 := by
    refine ⟨(1 + n % 63).toNat, ?_, by omega, by omega⟩
    rw [Int.tmod_eq_emod_of_nonneg hn.1, wrap_i64 (x := n % 63) (by omega) (by omega), wrap_i64 (by omega) (by omega)]; omega
  have a1 := vm_Narrow v k hk1 (by omega)
  have a2 := vm_Narrow (nwF v k) k hk1 (by omega)
  rw [nw_nw v k hk1] at a2
  have a3 := vm_Narrow v 64 (by omega) (by omega)
  rw [nw64 hv] at a3
  obtain ⟨r1, r2⟩ := nw_range v k hk1
  obtain ⟨q, hq⟩ := nw_mod v k
  have dm := diff_mod v (nwF v k) k hk63 q hq
  have hP := two_pos k
  have hH := two_pos (k - 1)
  have lH : (2 : Int) ^ (k - 1) ≤ 4611686018427387904 := by
    have : (2 : Nat) ^ (k - 1) ≤ 2 ^ 62 := Nat.pow_le_pow_right (by decide) (by omega)
    have e : ((2 ^ (k - 1) : Nat) : Int) = (2 : Int) ^ (k - 1) := by simp
    omega
  have lP := two_le63 k hk63
  have wk : IntKind.i64.wrap ((k : Int) - 1) = ((k - 1 : Nat) : Int) := by rw [wrap_i64 (by omega) (by omega)]; omega
  have m1 : min (k - 1) 64 = k - 1 := by omega
  have m2 : min k 64 = k := by omega
  have wH : IntKind.i64.wrap ((2 : Int) ^ (k - 1)) = 2 ^ (k - 1) := wrap_i64 (by omega) (by omega)
  have wN : IntKind.i64.wrap (-((2 : Int) ^ (k - 1))) = -(2 ^ (k - 1)) := wrap_i64 (by omega) (by omega)
  have wN' : IntKind.i64.wrap (0 - ((2 : Int) ^ (k - 1))) = -(2 ^ (k - 1)) := by rw [Int.zero_sub]; exact wN
  have wP : IntKind.u64.wrap ((2 : Int) ^ k) = 2 ^ k := wrap_u64 (by omega) (by omega)
  have dn : 0 ≤ IntKind.u64.wrap (IntKind.u64.wrap v - IntKind.u64.wrap (nwF v k)) := by rw [wrap_u64_mod]; omega
  have dt : (IntKind.u64.wrap (IntKind.u64.wrap v - IntKind.u64.wrap (nwF v k))).tmod (2 ^ k) = 0 := by rw [Int.tmod_eq_emod_of_nonneg dn, dm]
  have n1 : ¬ ((k - 1 : Nat) : Int) < 0 := by omega
  have n2 : ¬ (k : Int) < 0 := by omega
  have hP0 : ¬ (2 : Int) ^ k = 0 := by omega
  have r1' : ¬ nwF v k < -(2 ^ (k - 1)) := by omega
  have r2' : ¬ (2 ^ (k - 1)) ≤ nwF v k := by omega
  generalize nwF v k = x at *
  generalize hj : k - 1 = j at *
  generalize hHd : (2 : Int) ^ j = H at *
  generalize hPd : (2 : Int) ^ k = P at *
  simp only [Int.cast_ofNat_Int] at a3
  rw [run_data, run_call, kp_law8_VmNarrow]
  simp [k_law8_VmNarrow, vm_begun, hk, a1, a2, a3, wk, m1, m2, hHd, hPd, wH, wN, wN', wP, dt, n1, n2, hP0, r1', r2', IntKind.bits]
end Go.Cd
