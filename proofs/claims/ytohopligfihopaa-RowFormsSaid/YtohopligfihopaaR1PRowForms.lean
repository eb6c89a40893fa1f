/- The law RowForms, as the evaluator has it. No conditions. -/
import Derived.Test.YtohopligfihopaaR1PRowSets
set_option linter.unusedVariables false
set_option linter.unusedSimpArgs false
namespace Go.Cd
open Go Go.Fw
theorem set0 (i : Nat) : setN 0 i = 2 ^ i := by unfold setN; simp
theorem clr_two (i : Nat) : clrN (2 ^ i) i = 0 := by unfold clrN; simp [Nat.testBit_two_pow_self]
theorem first_two (i : Nat) : IsFirst (2 ^ i) i := ⟨Nat.testBit_two_pow_self, fun j hj => by rw [Nat.testBit_two_pow]; simp; omega⟩
theorem count_two (i : Nat) (hi : i < 64) : pcR 64 (2 ^ i) = 1 := by
  have := count_set_clr 0 i hi
  rw [set0] at this
  rw [this, pcR_none 64 (clrN 0 i) (fun j _ => by rw [tb_clr]; simp)]
theorem forms_loop : ∀ (d i : Nat), i + d = 64 →
    run kp (.loop [1] k_law3_RowForms_L0 { env := [(1, .int .i64 (i : Int))], hp := [], tl := fun _ => none, base := 0, next := 0 }) =
    some (.out (.ext 0) { env := [(1, .int .i64 64), (10, .bool false)], hp := [], tl := fun _ => none, base := 0, next := 0 })
  | 0, i, h => by
    obtain rfl : i = 64 := by omega
    rw [run_round]
    simp [c_law3_RowForms_L0, k_law3_RowForms_L0b]
  | d + 1, i, h => by
    have ih := forms_loop d (i + 1) (by omega)
    have hi : i < 64 := by omega
    have p : (i : Int) < 64 := by omega
    have w1 : IntKind.i64.wrap ((i : Int) + 1) = ((i + 1 : Nat) : Int) := by rw [wrap_i64 (by omega) (by omega)]; omega
    have ib : inB (i : Int) := by unfold inB; omega
    have hp := two_lt hi
    have a1 := row_Set 0 (by decide) i
    simp only [setB, ib, if_true, Int.toNat_natCast, set0, Int.cast_ofNat_Int] at a1
    have a2 := row_First _ i hp (first_two i)
    have a3 := row_Count _ hp
    rw [count_two i hi] at a3
    have a4 := row_Clear _ hp i
    simp only [clrB, ib, if_true, Int.toNat_natCast, clr_two, Int.cast_ofNat_Int] at a4
    have m : min i 64 = i := by omega
    have w2 : IntKind.u64.wrap (1 * 2 ^ i : Int) = ((2 ^ i : Nat) : Int) := by
      rw [Int.one_mul, show (2 : Int) ^ i = ((2 ^ i : Nat) : Int) by simp]
      exact wrapN64 _ hp
    have w3 : IntKind.u64.wrap (2 ^ i : Int) = ((2 ^ i : Nat) : Int) := by simpa using w2
    have h0 : ¬ (i : Int) < 0 := by omega
    rw [← ih, run_round]
    generalize i + 1 = j at *
    generalize hx : 2 ^ i = x at *
    simp only [Int.cast_ofNat_Int] at a3
    simp [c_law3_RowForms_L0, k_law3_RowForms_L0b, p, hi, w1, a1, a2, a3, a4, m, w2, w3, h0, IntKind.bits]
set_option maxRecDepth 100000 in
theorem full_count : pcR 64 18446744073709551615 = 64 := by decide +kernel
set_option maxRecDepth 100000 in
theorem law_RowForms (xs : List D) (h : Sh.hasL [] xs) : run kp (.data f_law3_RowForms xs) = some (.ds [.bool true]) := by
  obtain rfl := hasL_nil h
  have l := forms_loop 64 0 rfl
  have b1 := row_First 18446744073709551615 0 (by decide) ⟨by decide, fun j hj => by omega⟩
  have b2 := row_Count 18446744073709551615 (by decide)
  rw [full_count] at b2
  have b3 := row_Count 0 (by decide)
  rw [show pcR 64 0 = 0 from by decide +kernel] at b3
  have b4 := row_Set 5 (by decide) 1099511627776
  have b5 := row_Clear 5 (by decide) (-1099511627776)
  simp only [setB, clrB, show ¬ inB 1099511627776 from by unfold inB; omega, show ¬ inB (-1099511627776) from by unfold inB; omega, if_false] at b4 b5
  simp only [Int.cast_ofNat_Int] at l b1 b2 b3 b4 b5
  rw [run_data, run_call, kp_law3_RowForms]
  simp [k_law3_RowForms, row_begun, l, b1, b2, b3, b4, b5]
end Go.Cd
