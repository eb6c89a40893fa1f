/- The functions of row, and the reference's. No conditions. -/
import Derived.Test.YtohopligfihopaaR1QRowM
set_option linter.unusedVariables false
set_option linter.unusedSimpArgs false
namespace Go.Cd
open Go Go.Fw
theorem ofNat64 (a : Nat) (ha : a < 2 ^ 64) : (BitVec.ofInt 64 (a : Int)).toNat = a := by
  rw [BitVec.ofInt_natCast, BitVec.toNat_ofNat]; exact Nat.mod_eq_of_lt ha
theorem or64 (a b : Nat) (ha : a < 2 ^ 64) (hb : b < 2 ^ 64) : bits .or .u64 (a : Int) (b : Int) = ((a ||| b : Nat) : Int) := by
  have hx : a ||| b < 2 ^ 64 := Nat.or_lt_two_pow ha hb
  show IntKind.u64.wrap ((BitVec.ofInt 64 (a : Int) ||| BitVec.ofInt 64 (b : Int)).toNat : Int) = _
  rw [BitVec.toNat_or, ofNat64 a ha, ofNat64 b hb, wrap_u64_mod]
  omega
theorem and64 (a b : Nat) (ha : a < 2 ^ 64) (hb : b < 2 ^ 64) : bits .and .u64 (a : Int) (b : Int) = ((a &&& b : Nat) : Int) := by
  have hx : a &&& b < 2 ^ 64 := Nat.and_lt_two_pow a hb
  show IntKind.u64.wrap ((BitVec.ofInt 64 (a : Int) &&& BitVec.ofInt 64 (b : Int)).toNat : Int) = _
  rw [BitVec.toNat_and, ofNat64 a ha, ofNat64 b hb, wrap_u64_mod]
  omega
/-- r without bit i. -/
def clrN (r i : Nat) : Nat := if r.testBit i then r - 2 ^ i else r
def setN (r i : Nat) : Nat := if r.testBit i then r else r + 2 ^ i
theorem tb_clr (r i j : Nat) : (clrN r i).testBit j = (r.testBit j && !decide (i = j)) := by
  unfold clrN
  split
  · rename_i h; exact testBit_sub_bit r i h j
  · rename_i h
    by_cases e : i = j
    · subst e; simp at h; simp [h]
    · simp [e]
theorem tb_set (r i j : Nat) : (setN r i).testBit j = (r.testBit j || decide (i = j)) := by
  unfold setN
  rw [← or_bit, Nat.testBit_or, Nat.testBit_two_pow]
theorem clr_lt {r i : Nat} (h : r < 2 ^ 64) : clrN r i < 2 ^ 64 := by
  unfold clrN; split
  · exact Nat.lt_of_le_of_lt (Nat.sub_le _ _) h
  · exact h
theorem two_lt {i : Nat} (h : i < 64) : 2 ^ i < 2 ^ 64 := Nat.pow_lt_pow_right (by decide) h
theorem set_lt {r i : Nat} (h : r < 2 ^ 64) (hi : i < 64) : setN r i < 2 ^ 64 := by
  unfold setN; rw [← or_bit]; exact Nat.or_lt_two_pow h (two_lt hi)
theorem andNot64 (r i : Nat) (hr : r < 2 ^ 64) (hi : i < 64) : bits .andNot .u64 (r : Int) ((2 ^ i : Nat) : Int) = ((clrN r i : Nat) : Int) := by
  have hp := two_lt hi
  show IntKind.u64.wrap ((BitVec.ofInt 64 (r : Int) &&& ~~~ BitVec.ofInt 64 ((2 ^ i : Nat) : Int)).toNat : Int) = _
  have e : (BitVec.ofInt 64 (r : Int) &&& ~~~ BitVec.ofInt 64 ((2 ^ i : Nat) : Int)).toNat = clrN r i := by
    apply Nat.eq_of_testBit_eq; intro j
    rw [tb_clr]
    by_cases hj : j < 64
    · rw [BitVec.testBit_toNat, BitVec.getLsbD_and, BitVec.getLsbD_not, ← BitVec.testBit_toNat, ← BitVec.testBit_toNat, ofNat64 r hr, ofNat64 _ hp, Nat.testBit_two_pow]
      simp [hj]
    · rw [Nat.testBit_lt_two_pow (Nat.lt_of_lt_of_le (BitVec.isLt _) (Nat.pow_le_pow_right (by decide) (by omega))), tb_high hr (by omega)]
      rfl
  rw [e, wrap_u64_mod]
  have := clr_lt (i := i) hr
  omega
theorem andNot0 (r : Nat) (hr : r < 2 ^ 64) : bits .andNot .u64 (r : Int) 0 = (r : Int) := by
  show IntKind.u64.wrap ((BitVec.ofInt 64 (r : Int) &&& ~~~ BitVec.ofInt 64 0).toNat : Int) = _
  have : BitVec.ofInt 64 (r : Int) &&& ~~~ BitVec.ofInt 64 0 = BitVec.ofInt 64 (r : Int) := by
    rw [show ~~~ BitVec.ofInt 64 0 = BitVec.allOnes 64 from by decide, BitVec.and_allOnes]
  rw [this, ofNat64 r hr, wrap_u64_mod]; omega
def inB (i : Int) : Prop := 0 ≤ i ∧ i < 64
instance (i : Int) : Decidable (inB i) := inferInstanceAs (Decidable (0 ≤ i ∧ i < 64))
def bitN (i : Int) : Nat := if inB i then 2 ^ i.toNat else 0
def setB (r : Nat) (i : Int) : Nat := if inB i then setN r i.toNat else r
def clrB (r : Nat) (i : Int) : Nat := if inB i then clrN r i.toNat else r
def isB (r : Nat) (i : Int) : Bool := decide (inB i) && r.testBit i.toNat
theorem row_bit (i : Int) : run kp (.data f_row_bit [.int .i64 i]) = some (.ds [.int .u64 (bitN i : Nat)]) := by
  rw [run_data, run_call, kp_row_bit]
  unfold bitN inB
  by_cases h : i < 0
  · have : ¬ (0 ≤ i ∧ i < 64) := by omega
    simp [k_row_bit, h, this]
  · by_cases h2 : 64 ≤ i
    · have : ¬ (0 ≤ i ∧ i < 64) := by omega
      simp [k_row_bit, h, h2, this]
    · have h3 : 0 ≤ i ∧ i < 64 := by omega
      obtain ⟨n, rfl⟩ : ∃ n : Nat, i = n := ⟨i.toNat, by omega⟩
      have hm : min n 64 = n := by omega
      have hp := two_lt (i := n) (by omega)
      have hw : IntKind.u64.wrap (2 ^ n : Int) = 2 ^ n := by
        rw [wrap_u64_mod, show (2 : Int) ^ n = ((2 ^ n : Nat) : Int) by simp]
        generalize 2 ^ n = q at *
        omega
      have h4 : n < 64 := by omega
      simp [k_row_bit, h, h2, h3, IntKind.bits, hm, hw, h4]
theorem row_Set (r : Nat) (hr : r < 2 ^ 64) (i : Int) : run kp (.data f_row_Set [.int .u64 r, .int .i64 i]) = some (.ds [.int .u64 (setB r i : Nat)]) := by
  rw [run_data, run_call, kp_row_Set]
  have b := row_bit i
  have hb : bitN i < 2 ^ 64 := by
    unfold bitN
    by_cases h : inB i
    · rw [if_pos h]; exact two_lt (by unfold inB at h; omega)
    · rw [if_neg h]; decide
  have e := or64 r (bitN i) hr hb
  have e2 : r ||| bitN i = setB r i := by
    unfold bitN setB setN
    split
    · exact or_bit r _
    · simp
  rw [e2] at e
  simp [k_row_Set, b, e]
theorem row_Clear (r : Nat) (hr : r < 2 ^ 64) (i : Int) : run kp (.data f_row_Clear [.int .u64 r, .int .i64 i]) = some (.ds [.int .u64 (clrB r i : Nat)]) := by
  rw [run_data, run_call, kp_row_Clear]
  have b := row_bit i
  have e : bits .andNot .u64 (r : Int) (bitN i : Nat) = (clrB r i : Nat) := by
    unfold bitN clrB
    split
    · rename_i h
      exact andNot64 r _ hr (by unfold inB at h; omega)
    · exact andNot0 r hr
  simp [k_row_Clear, b, e]
theorem and_bit (r i : Nat) : r &&& 2 ^ i = if r.testBit i then 2 ^ i else 0 := by
  apply Nat.eq_of_testBit_eq; intro j
  rw [Nat.testBit_and, Nat.testBit_two_pow]
  by_cases h : i = j
  · subst h; cases hr : r.testBit i <;> simp
  · cases hr : r.testBit i
    · simp [h]
    · simp [h, Nat.testBit_two_pow]
theorem row_Is (r : Nat) (hr : r < 2 ^ 64) (i : Int) : run kp (.data f_row_Is [.int .u64 r, .int .i64 i]) = some (.ds [.bool (isB r i)]) := by
  rw [run_data, run_call, kp_row_Is]
  have b := row_bit i
  have e : decide (bits .and .u64 (r : Int) (bitN i : Nat) = 0) = !isB r i := by
    unfold bitN isB
    split
    · rename_i h
      rw [and64 r _ hr (two_lt (by unfold inB at h; omega)), and_bit]
      simp only [h]
      have := Nat.two_pow_pos i.toNat
      cases r.testBit i.toNat <;> simp
      rw [show (2 : Int) ^ i.toNat = ((2 ^ i.toNat : Nat) : Int) by simp]
      omega
    · rename_i h
      have := and64 r 0 hr (by decide)
      simp only [Nat.and_zero] at this
      simp [h]
      simpa using this
  simp [k_row_Is, b, e]
theorem pcR_le : ∀ (n r : Nat), pcR n r ≤ n
  | 0, _ => Nat.le_refl _
  | n + 1, r => by
    simp only [pcR]
    have := pcR_le n r
    cases r.testBit n <;> simp <;> omega
/-- What is shifted out to the left and back. -/
theorem up_mod (r n s : Nat) (h : n + s = 64) : IntKind.u64.wrap ((r : Int) * 2 ^ s) = ((r % 2 ^ n * 2 ^ s : Nat) : Int) := by
  rw [wrap_u64_mod, show (r : Int) * 2 ^ s = ((r * 2 ^ s : Nat) : Int) by simp, show (18446744073709551616 : Int) = ((2 ^ n * 2 ^ s : Nat) : Int) by rw [← Nat.pow_add, h]; rfl, ← Int.natCast_emod, Nat.mul_mod_mul_right]
theorem down_div (r n : Nat) : (r : Int) / 2 ^ n = ((r / 2 ^ n : Nat) : Int) := by simp
theorem count_loop (r : Nat) (hr2 : 2 ≤ r) : ∀ (k : Nat), k ≤ 5 → ∃ (j : Nat), j ≤ 5 ∧ ¬ r / 2 ^ (2 ^ j) = 0 ∧
    run kp (.loop [0, 3] k_row_Count_L0 { env := [(0, .int .u64 (r : Int)), (3, .int .i64 ((2 ^ k : Nat) : Int))], hp := [], tl := fun _ => none, base := 0, next := 0 }) =
    some (.out (.ext 0) { env := [(0, .int .u64 (r : Int)), (3, .int .i64 ((2 ^ j : Nat) : Int)), (11, .bool false)], hp := [], tl := fun _ => none, base := 0, next := 0 })
  | k, hk => by
    have hk2 : 2 ^ k ≤ 2 ^ 5 := Nat.pow_le_pow_right (by decide) hk
    have hd := down_div r (2 ^ k)
    by_cases h : r / 2 ^ (2 ^ k) = 0
    · cases k with
      | zero => simp at h; omega
      | succ k =>
        obtain ⟨j, j1, j2, j3⟩ := count_loop r hr2 k (by omega)
        refine ⟨j, j1, j2, ?_⟩
        rw [h] at hd
        rw [← j3, run_round]
        have hab := Nat.pow_succ 2 k
        generalize 2 ^ (k + 1) = a at *
        generalize 2 ^ k = b at *
        have hm : min a 64 = a := by omega
        have hn : ¬ (a : Int) < 0 := by omega
        have hq : (a : Int).tdiv 2 = (b : Int) := by
          rw [Int.tdiv_eq_ediv_of_nonneg (by omega)]; omega
        have hw : IntKind.i64.wrap (b : Int) = (b : Int) := wrap_i64 (by omega) (by omega)
        have hd2 : (r : Int) / 2 ^ a = 0 := hd
        simp [c_row_Count_L0, k_row_Count_L0b, hm, hn, hq, hw, IntKind.bits, hd2]
    · refine ⟨k, hk, h, ?_⟩
      have hd' : ¬ (r : Int) / 2 ^ (2 ^ k) = 0 := by rw [hd]; exact fun e => h (Int.ofNat.inj e)
      rw [run_round]
      generalize 2 ^ k = a at *
      have hm : min a 64 = a := by omega
      have hn : ¬ (a : Int) < 0 := by omega
      simp [c_row_Count_L0, k_row_Count_L0b, hm, hn, IntKind.bits, hd']
theorem row_Count : ∀ (r : Nat), r < 2 ^ 64 → run kp (.data f_row_Count [.int .u64 (r : Int)]) = some (.ds [.int .i64 ((pcR 64 r : Nat) : Int)]) := by
  intro r
  induction r using Nat.strongRecOn with
  | ind r ih =>
    intro hr
    by_cases h1 : r ≤ 1
    · have h1' : (r : Int) ≤ 1 := by omega
      rw [run_data, run_call, kp_row_Count]
      have : r = 0 ∨ r = 1 := by omega
      rcases this with rfl | rfl
      · simp [k_row_Count]; decide
      · simp [k_row_Count]; decide
    · have h1' : ¬ (r : Int) ≤ 1 := by omega
      obtain ⟨j, j1, j2, l⟩ := count_loop r (by omega) 5 (by omega)
      have hj : 2 ^ j ≤ 2 ^ 5 := Nat.pow_le_pow_right (by decide) j1
      have hj0 := Nat.two_pow_pos j
      generalize hn : 2 ^ j = n at *
      simp only [Nat.reducePow, Int.cast_ofNat_Int] at l
      have hdl : r / 2 ^ n < r := Nat.div_lt_self (by omega) (Nat.lt_of_lt_of_le (by omega : 1 < 2) (by rw [show (2 : Nat) = 2 ^ 1 from rfl]; exact Nat.pow_le_pow_right (by decide) hj0))
      have hge : 2 ^ n ≤ r := by
        rcases Nat.lt_or_ge r (2 ^ n) with h | h
        · exact absurd (Nat.div_eq_of_lt h) j2
        · exact h
      have hml : r % 2 ^ n < r := Nat.lt_of_lt_of_le (Nat.mod_lt _ (Nat.two_pow_pos n)) hge
      have i1 := ih _ hdl (by omega)
      have i2 := ih _ hml (by omega)
      have e1 := up_mod r n (64 - n) (by omega)
      have e2 := down_div (r % 2 ^ n * 2 ^ (64 - n)) (64 - n)
      rw [Nat.mul_div_cancel _ (Nat.two_pow_pos _)] at e2
      rw [← e1] at e2
      have e3 := down_div r n
      have hh := pcR_halves r n hr (by omega)
      have hle := pcR_le 64 r
      have w1 : IntKind.i64.wrap (64 - (n : Int)) = ((64 - n : Nat) : Int) := by rw [wrap_i64 (by omega) (by omega)]; omega
      have w2 : IntKind.i64.wrap (((pcR 64 (r / 2 ^ n) : Nat) : Int) + ((pcR 64 (r % 2 ^ n) : Nat) : Int)) = ((pcR 64 r : Nat) : Int) := by rw [wrap_i64 (by omega) (by omega)]; omega
      have m1 : min n 64 = n := by omega
      have n1 : ¬ (n : Int) < 0 := by omega
      have m2 : min (64 - n) 64 = 64 - n := by omega
      generalize pcR 64 (r / 2 ^ n) = p at *
      generalize pcR 64 (r % 2 ^ n) = q at *
      generalize pcR 64 r = s at *
      generalize r / 2 ^ n = x at *
      generalize r % 2 ^ n = y at *
      generalize 64 - n = z at *
      have n2 : ¬ (z : Int) < 0 := by omega
      rw [run_data, run_call, kp_row_Count]
      simp [k_row_Count, h1', l, n1, n2, w1, m1, m2, e2, e3, i1, i2, w2, IntKind.bits]
end Go.Cd
