/- The law VmShift, as the evaluator has it. No conditions. -/
import Derived.Test.YteamehchfnccmaaR4QVm
set_option linter.unusedVariables false
set_option linter.unusedSimpArgs false
namespace Go.Cd
open Go Go.Fw
set_option maxHeartbeats 4000000 in
theorem law_VmShift (xs : List D) (h : Sh.hasL [.i .i64, .i .u8] xs) : run kp (.data f_law8_VmShift xs) = some (.ds [.bool true]) := by
  obtain ⟨x1, _, rfl, h1, h⟩ := hasL_cons h
  obtain ⟨x2, _, rfl, h2, h⟩ := hasL_cons h
  obtain rfl := hasL_nil h
  obtain ⟨v, rfl, k1⟩ := has_int h1
  obtain ⟨n, rfl, k2⟩ := has_int h2
  have hv := wf_i64' k1
  have hn := wf_u8 k2
  obtain ⟨k, hk, hk63⟩ : ∃ k : Nat, IntKind.i64.wrap (n.tmod 64) = (k : Int) ∧ k ≤ 63 := by
    refine ⟨(n % 64).toNat, ?_, by omega⟩
    rw [Int.tmod_eq_emod_of_nonneg hn.1, wrap_i64 (by omega) (by omega)]; omega
  have wk : IntKind.i64.wrap (64 - (k : Int)) = ((64 - k : Nat) : Int) := by rw [wrap_i64 (by omega) (by omega)]; omega
  have wn : IntKind.i64.wrap (-(k : Int)) = -(k : Int) := wrap_i64 (by omega) (by omega)
  have wn' : IntKind.i64.wrap (0 - (k : Int)) = -(k : Int) := by rw [Int.zero_sub]; exact wn
  have a1 := vm_Narrow v (64 - k) (by omega) (by omega)
  have rg := nw_range v (64 - k) (by omega)
  rw [show 64 - k - 1 = 63 - k by omega] at rg
  have uf := up_fits (nwF v (64 - k)) k hk63 rg
  have du := down_up v k hk63 hv
  have a2 := vm_Shift_up (nwF v (64 - k)) k hk63
  rw [uf] at a2
  have a3 := vm_Shift_none v 64 (by omega)
  have a4 := vm_Shift_none v (-64) (by omega)
  have hP := two_pos k
  have lP := two_le63 k hk63
  have wP : IntKind.u64.wrap ((2 : Int) ^ k) = 2 ^ k := wrap_u64 (by omega) (by omega)
  have m2 : min k 64 = k := by omega
  have n2 : ¬ (k : Int) < 0 := by omega
  obtain ⟨d1, d2, d3⟩ := du
  have ds := diff_small v (v / 2 ^ k * 2 ^ k) d2 (2 ^ k) d3 lP
  have a5 := vm_Shift_up (v / 2 ^ k) k hk63
  rw [d1] at a5
  rw [run_data, run_call, kp_law8_VmShift]
  by_cases k0 : k = 0
  · subst k0
    have b1 := vm_Shift_up v 0 (by omega)
    have wv : IntKind.i64.wrap v = v := wrap_i64 hv.1 hv.2
    simp only [Int.pow_zero, Int.mul_one, wv] at b1
    simp only [Int.pow_zero, Int.mul_one, Int.ediv_one] at a2 a5 ds d1 d2 d3
    have w64 : IntKind.i64.wrap 64 = 64 := by decide
    have wu1 : IntKind.u64.wrap 1 = 1 := by decide
    have wu0 : IntKind.u64.wrap 0 = 0 := by decide
    generalize nwF v (64 - 0) = x at *
    simp only [Int.cast_ofNat_Int, Int.neg_zero, Nat.sub_zero] at *
    simp [k_law8_VmShift, vm_begun, hk, a1, a2, a3, a4, a5, b1, wk, wn, wn', IntKind.bits, d2, ds, w64, wu1, wu0]
  · have b1 := vm_Shift_down v k (by omega) hk63
    have b2 := vm_Shift_down (nwF v (64 - k) * 2 ^ k) k (by omega) hk63
    rw [Int.mul_ediv_cancel _ (by omega)] at b2
    generalize nwF v (64 - k) * 2 ^ k = y at *
    generalize nwF v (64 - k) = x at *
    generalize v / 2 ^ k * 2 ^ k = low at *
    generalize v / 2 ^ k = right at *
    generalize 64 - k = s at *
    generalize hPd : (2 : Int) ^ k = P at *
    simp [k_law8_VmShift, vm_begun, hk, a1, a2, a3, a4, a5, b1, b2, wk, wn, wn', m2, n2, hPd, wP, IntKind.bits, d2, ds]
end Go.Cd
