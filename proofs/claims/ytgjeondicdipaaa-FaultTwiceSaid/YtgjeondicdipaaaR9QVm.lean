/- Narrow and Shift of vm. No conditions. -/
import Derived.Test.YtgjeondicdipaaaCode
import Derived.Test.YtgjeondicdipaaaS6
import Derived.Test.YtgjeondicdipaaaR9QVmN
import Derived.KernelRfl
set_option linter.unusedVariables false
set_option linter.unusedSimpArgs false
namespace Go.Cd
open Go Go.Fw
theorem vm_Narrow (v : Int) (k : Nat) (h1 : 1 ≤ k) (h2 : k ≤ 64) : run kp (.data f_vm_Narrow [.int .i64 v, .int .i64 (k : Int)]) = some (.ds [.int .i64 (nwF v k)]) := by
  rw [run_data, run_call, kp_vm_Narrow]
  have a1 : ¬ (k : Int) < 1 := by omega
  have a2 : ¬ (64 : Int) < (k : Int) := by omega
  have w : IntKind.i64.wrap (64 - (k : Int)) = ((64 - k : Nat) : Int) := by rw [wrap_i64 (by omega) (by omega)]; omega
  have m : min (64 - k) 64 = 64 - k := by omega
  have e := narrow_eq v k h1 h2
  have n1 : ¬ ((64 - k : Nat) : Int) < 0 := by omega
  have a3 : ¬ k = 0 := by omega
  have a4 : ¬ 64 < k := by omega
  generalize nwF v k = x at *
  generalize 64 - k = s at *
  simp [k_vm_Narrow, a1, a2, a3, a4, w, m, n1, e, IntKind.bits]
theorem vm_Shift_up (v : Int) (k : Nat) (h : k ≤ 63) : run kp (.data f_vm_Shift [.int .i64 v, .int .i64 (k : Int)]) = some (.ds [.int .i64 (IntKind.i64.wrap (v * 2 ^ k))]) := by
  rw [run_data, run_call, kp_vm_Shift]
  have a1 : ¬ (k : Int) ≤ -64 := by omega
  have a2 : ¬ (64 : Int) ≤ (k : Int) := by omega
  have a3 : ¬ (k : Int) < 0 := by omega
  have a4 : ¬ 64 ≤ k := by omega
  have m : min k 64 = k := by omega
  have e := left_wrap v (2 ^ k)
  simp [k_vm_Shift, a1, a2, a3, a4, m, e, IntKind.bits]
theorem vm_Shift_down (v : Int) (k : Nat) (h1 : 1 ≤ k) (h : k ≤ 63) : run kp (.data f_vm_Shift [.int .i64 v, .int .i64 (-(k : Int))]) = some (.ds [.int .i64 (v / 2 ^ k)]) := by
  rw [run_data, run_call, kp_vm_Shift]
  have a1 : ¬ -(k : Int) ≤ -64 := by omega
  have a2 : ¬ (64 : Int) ≤ -(k : Int) := by omega
  have a3 : -(k : Int) < 0 := by omega
  have a4 : ¬ 64 ≤ k := by omega
  have a5 : 0 < k := by omega
  have w : IntKind.i64.wrap (k : Int) = (k : Int) := wrap_i64 (by omega) (by omega)
  have m : min k 64 = k := by omega
  have n1 : ¬ (k : Int) < 0 := by omega
  generalize hz : -(k : Int) = z at *
  have w2 : IntKind.i64.wrap (0 - z) = (k : Int) := by rw [wrap_i64 (by omega) (by omega)]; omega
  have w3 : IntKind.i64.wrap (-z) = (k : Int) := by rw [wrap_i64 (by omega) (by omega)]; omega
  simp [k_vm_Shift, a1, a2, a3, a4, a5, m, w, w2, w3, n1, IntKind.bits]
theorem vm_Shift_none (v z : Int) (h : z ≤ -64 ∨ 64 ≤ z) : run kp (.data f_vm_Shift [.int .i64 v, .int .i64 z]) = some (.ds [.int .i64 v]) := by
  rw [run_data, run_call, kp_vm_Shift]
  by_cases h1 : z ≤ -64
  · simp [k_vm_Shift, h1]
  · have : 64 ≤ z := by omega
    simp [k_vm_Shift, h1, this]
theorem wf_i64' {n : Int} (h : (Lit.int .i64 n).wf = true) : -9223372036854775808 ≤ n ∧ n < 9223372036854775808 := by
  simp [Lit.wf, IntKind.min, IntKind.max, IntKind.signed, IntKind.bits] at h; omega
theorem nw64 {v : Int} (h : -9223372036854775808 ≤ v ∧ v < 9223372036854775808) : nwF v 64 = v := nw_self (by omega) (by simpa using h)
end Go.Cd
