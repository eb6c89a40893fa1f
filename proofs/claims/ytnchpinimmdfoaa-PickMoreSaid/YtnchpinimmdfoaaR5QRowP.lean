/- Rows, so far as picking needs them. No conditions. -/
import Derived.Test.YtnchpinimmdfoaaR5QRowM
set_option linter.unusedVariables false
set_option linter.unusedSimpArgs false
namespace Go.Cd
open Go Go.Fw
theorem ofNat64 (a : Nat) (ha : a < 2 ^ 64) : (BitVec.ofInt 64 (a : Int)).toNat = a := by
  rw [BitVec.ofInt_natCast, BitVec.toNat_ofNat]; exact Nat.mod_eq_of_lt ha
theorem or64 (a b : Nat) (ha : a < 2 ^ 64) (hb : b < 2 ^ 64) : bits .or .u64 (a : Int) (b : Int) = ((a ||| b : Nat) : Int) := by
  have hx : a ||| b < 2 ^ 64 := Nat.or_lt_two_pow ha hb
  show IntKind.u64.wrap ((BitVec.ofInt 64 (a : Int) ||| BitVec.ofInt 64 (b : Int)).toNat : Int) = _
  rw [BitVec.toNat_or, ofNat64 a ha, ofNat64 b hb, wrap_u64_mod]
  omega
def setN (r i : Nat) : Nat := if r.testBit i then r else r + 2 ^ i
theorem tb_set (r i j : Nat) : (setN r i).testBit j = (r.testBit j || decide (i = j)) := by
  unfold setN
  rw [← or_bit, Nat.testBit_or, Nat.testBit_two_pow]
theorem two_lt {i : Nat} (h : i < 64) : 2 ^ i < 2 ^ 64 := Nat.pow_lt_pow_right (by decide) h
theorem set_lt {r i : Nat} (h : r < 2 ^ 64) (hi : i < 64) : setN r i < 2 ^ 64 := by
  unfold setN; rw [← or_bit]; exact Nat.or_lt_two_pow h (two_lt hi)
def inB (i : Int) : Prop := 0 ≤ i ∧ i < 64
instance (i : Int) : Decidable (inB i) := inferInstanceAs (Decidable (0 ≤ i ∧ i < 64))
def bitN (i : Int) : Nat := if inB i then 2 ^ i.toNat else 0
def setB (r : Nat) (i : Int) : Nat := if inB i then setN r i.toNat else r
theorem row_bit (i : Int) : run kp (.data f_row_bit [.int .i64 i]) = some (.ds [.int .u64 (bitN i : Nat)]) := by
  rw [run_data, run_call, kp_row_bit]
  unfold bitN inB
  by_cases h : i < 0
  · have : ¬ (0 ≤ i ∧ i < 64) := by omega
    simp [k_row_bit, h, this]
  · by_cases h2 : 64 ≤ i
    · have : ¬ (0 ≤ i ∧ i < 64) := by omega
      simp [k_row_bit, h, h2, this]
    · have h3 : 0 ≤ i ∧ i < 64 := by omega
      obtain ⟨n, rfl⟩ : ∃ n : Nat, i = n := ⟨i.toNat, by omega⟩
      have hm : min n 64 = n := by omega
      have hp := two_lt (i := n) (by omega)
      have hw : IntKind.u64.wrap (2 ^ n : Int) = 2 ^ n := by
        rw [wrap_u64_mod, show (2 : Int) ^ n = ((2 ^ n : Nat) : Int) by simp]
        generalize 2 ^ n = q at *
        omega
      have h4 : n < 64 := by omega
      simp [k_row_bit, h, h2, h3, IntKind.bits, hm, hw, h4]
theorem row_Set (r : Nat) (hr : r < 2 ^ 64) (i : Int) : run kp (.data f_row_Set [.int .u64 r, .int .i64 i]) = some (.ds [.int .u64 (setB r i : Nat)]) := by
  rw [run_data, run_call, kp_row_Set]
  have b := row_bit i
  have hb : bitN i < 2 ^ 64 := by
    unfold bitN
    by_cases h : inB i
    · rw [if_pos h]; exact two_lt (by unfold inB at h; omega)
    · rw [if_neg h]; decide
  have e := or64 r (bitN i) hr hb
  have e2 : r ||| bitN i = setB r i := by
    unfold bitN setB setN
    split
    · exact or_bit r _
    · simp
  rw [e2] at e
  simp [k_row_Set, b, e]
theorem up_mod (r n s : Nat) (h : n + s = 64) : IntKind.u64.wrap ((r : Int) * 2 ^ s) = ((r % 2 ^ n * 2 ^ s : Nat) : Int) := by
  rw [wrap_u64_mod, show (r : Int) * 2 ^ s = ((r * 2 ^ s : Nat) : Int) by simp, show (18446744073709551616 : Int) = ((2 ^ n * 2 ^ s : Nat) : Int) by rw [← Nat.pow_add, h]; rfl, ← Int.natCast_emod, Nat.mul_mod_mul_right]
theorem down_div (r n : Nat) : (r : Int) / 2 ^ n = ((r / 2 ^ n : Nat) : Int) := by simp
def IsFirst (r a : Nat) : Prop := r.testBit a = true ∧ ∀ j, j < a → r.testBit j = false
theorem first_is (r : Nat) (h : ¬ r = 0) : ∃ a, IsFirst r a := by
  induction r using Nat.strongRecOn with
  | ind r ih =>
    by_cases h2 : r % 2 = 1
    · exact ⟨0, by simp [Nat.testBit_zero, h2], fun j hj => by omega⟩
    · obtain ⟨a, a1, a2⟩ := ih (r / 2) (by omega) (by omega)
      refine ⟨a + 1, by rw [Nat.testBit_succ]; exact a1, fun j hj => ?_⟩
      cases j with
      | zero => simp [Nat.testBit_zero]; omega
      | succ j => rw [Nat.testBit_succ]; exact a2 j (by omega)
theorem first_lt {r a : Nat} (h : IsFirst r a) (hr : r < 2 ^ 64) : a < 64 := by
  rcases Nat.lt_or_ge a 64 with h2 | h2
  · exact h2
  · have := tb_high hr h2; rw [h.1] at this; cases this
theorem first_mod {r a n : Nat} (h : IsFirst r a) : r % 2 ^ n = 0 ↔ n ≤ a := by
  constructor
  · intro e
    rcases Nat.lt_or_ge a n with h2 | h2
    · have : (r % 2 ^ n).testBit a = true := by rw [Nat.testBit_mod_two_pow]; simp [h2, h.1]
      rw [e] at this; simp at this
    · exact h2
  · intro e
    apply Nat.eq_of_testBit_eq; intro j
    rw [Nat.testBit_mod_two_pow]
    by_cases h2 : j < n
    · simp [h.2 j (by omega)]
    · simp [h2]
theorem first_down {r a n : Nat} (h : IsFirst r a) (hn : n ≤ a) : IsFirst (r / 2 ^ n) (a - n) := by
  refine ⟨?_, fun j hj => ?_⟩
  · rw [Nat.testBit_div_two_pow, show a - n + n = a by omega]; exact h.1
  · rw [Nat.testBit_div_two_pow]; exact h.2 _ (by omega)
theorem first_uniq {r a b : Nat} (h : IsFirst r a) (h2 : IsFirst r b) : a = b := by
  rcases Nat.lt_trichotomy a b with h3 | h3 | h3
  · have := h2.2 a h3; rw [h.1] at this; cases this
  · exact h3
  · have := h.2 b h3; rw [h2.1] at this; cases this
theorem first_loop : ∀ (k : Nat), k ≤ 5 → ∀ (r at_ a : Nat), IsFirst r a → a < 2 * 2 ^ k → r < 2 ^ 64 → at_ + 2 * 2 ^ k ≤ 1000 → ∃ r' : Nat,
    run kp (.loop [0, 2, 4] k_row_First_L0 { env := [(0, .int .u64 (r : Int)), (2, .int .i64 (at_ : Int)), (4, .int .i64 ((2 ^ k : Nat) : Int))], hp := [], tl := fun _ => none, base := 0, next := 0 }) =
    some (.out (.ext 0) { env := [(0, .int .u64 (r' : Int)), (2, .int .i64 ((at_ + a : Nat) : Int)), (4, .int .i64 0), (8, .bool false)], hp := [], tl := fun _ => none, base := 0, next := 0 })
  | k, hk, r, at_, a, hf, ha, hr, hat => by
    have hk2 : 2 ^ k ≤ 2 ^ 5 := Nat.pow_le_pow_right (by decide) hk
    have hk0 := Nat.two_pow_pos k
    have w0 : IntKind.i64.wrap 0 = 0 := by decide
    have um := up_mod r (2 ^ k) (64 - 2 ^ k) (by omega)
    have dd := down_div r (2 ^ k)
    have fm := first_mod (n := 2 ^ k) hf
    have fd := fun h => first_down (n := 2 ^ k) hf h
    have w1 : IntKind.i64.wrap (64 - ((2 ^ k : Nat) : Int)) = ((64 - 2 ^ k : Nat) : Int) := by rw [wrap_i64 (by omega) (by omega)]; omega
    have w2 : IntKind.i64.wrap ((at_ : Int) + ((2 ^ k : Nat) : Int)) = ((at_ + 2 ^ k : Nat) : Int) := by rw [wrap_i64 (by omega) (by omega)]; omega
    have m1 : min (2 ^ k) 64 = 2 ^ k := by omega
    have m2 : min (64 - 2 ^ k) 64 = 64 - 2 ^ k := by omega
    have n1 : ¬ ((2 ^ k : Nat) : Int) < 0 := by omega
    have n2 : ¬ ((64 - 2 ^ k : Nat) : Int) < 0 := by omega
    have p1 : (0 : Int) < ((2 ^ k : Nat) : Int) := by omega
    have last : ∀ (r at_ : Nat), run kp (.loop [0, 2, 4] k_row_First_L0 { env := [(0, .int .u64 (r : Int)), (2, .int .i64 (at_ : Int)), (4, .int .i64 0)], hp := [], tl := fun _ => none, base := 0, next := 0 }) =
        some (.out (.ext 0) { env := [(0, .int .u64 (r : Int)), (2, .int .i64 (at_ : Int)), (4, .int .i64 0), (8, .bool false)], hp := [], tl := fun _ => none, base := 0, next := 0 }) := by
      intro r at_
      rw [run_round]
      simp [c_row_First_L0, k_row_First_L0b]
    have sp := Nat.two_pow_pos (64 - 2 ^ k)
    cases k with
    | zero =>
      by_cases h : r % 2 ^ (2 ^ 0) = 0
      · have ea : a = 1 := by have := fm.1 h; omega
        subst ea
        rw [h, Nat.zero_mul] at um
        refine ⟨r / 2 ^ (2 ^ 0), ?_⟩
        have l := last (r / 2 ^ (2 ^ 0)) (at_ + 1)
        simp only [Nat.pow_zero] at *
        rw [← l, run_round]
        generalize r / 2 ^ 1 = x at *
        simp at um dd w1 w2
        simp [c_row_First_L0, k_row_First_L0b, IntKind.bits, um, dd, w1, w2, w0]
      · have ea : a = 0 := by
          rcases Nat.lt_or_ge a 1 with h2 | h2
          · omega
          · exact absurd (fm.2 h2) h
        subst ea
        refine ⟨r, ?_⟩
        have l := last r at_
        have um2 : ¬ IntKind.u64.wrap ((r : Int) * 2 ^ (64 - 2 ^ 0)) = 0 := by
          rw [um]; intro e
          have e2 := Int.ofNat.inj e
          rcases Nat.mul_eq_zero.1 e2 with h3 | h3
          · exact h h3
          · omega
        simp only [Nat.pow_zero, Nat.add_zero] at *
        rw [← l, run_round]
        simp at um2 w1 w2
        simp [c_row_First_L0, k_row_First_L0b, IntKind.bits, um2, w1, w2, w0]
    | succ k =>
      have hab := Nat.pow_succ 2 k
      have hq : ((2 ^ (k + 1) : Nat) : Int).tdiv 2 = ((2 ^ k : Nat) : Int) := by
        rw [hab, Int.tdiv_eq_ediv_of_nonneg (by omega)]; omega
      have hw : IntKind.i64.wrap ((2 ^ k : Nat) : Int) = ((2 ^ k : Nat) : Int) := wrap_i64 (by omega) (by omega)
      by_cases h : r % 2 ^ (2 ^ (k + 1)) = 0
      · have ha2 := fm.1 h
        have hx : r / 2 ^ 2 ^ (k + 1) < 2 ^ 64 := Nat.lt_of_le_of_lt (Nat.div_le_self _ _) hr
        obtain ⟨r', l⟩ := first_loop k (by omega) (r / 2 ^ 2 ^ (k + 1)) (at_ + 2 ^ (k + 1)) (a - 2 ^ (k + 1)) (fd ha2) (by omega) hx (by omega)
        refine ⟨r', ?_⟩
        rw [h, Nat.zero_mul] at um
        rw [show at_ + 2 ^ (k + 1) + (a - 2 ^ (k + 1)) = at_ + a by omega] at l
        rw [← l, run_round]
        clear fm fd
        have nz : ¬ 2 ^ (k + 1) = 0 := by omega
        generalize r / 2 ^ 2 ^ (k + 1) = x at *
        generalize at_ + 2 ^ (k + 1) = y at *
        generalize 2 ^ (k + 1) = n at *
        generalize 64 - n = s at *
        generalize 2 ^ k = m at *
        simp at um
        simp [c_row_First_L0, k_row_First_L0b, IntKind.bits, um, dd, w1, w2, m1, m2, n1, n2, p1, hq, hw, hk0, nz]
      · have ha2 : a < 2 ^ (k + 1) := by
          rcases Nat.lt_or_ge a (2 ^ (k + 1)) with h2 | h2
          · exact h2
          · exact absurd (fm.2 h2) h
        obtain ⟨r', l⟩ := first_loop k (by omega) r at_ a hf (by omega) hr (by omega)
        refine ⟨r', ?_⟩
        have um2 : ¬ IntKind.u64.wrap ((r : Int) * 2 ^ (64 - 2 ^ (k + 1))) = 0 := by
          rw [um]; intro e
          have e2 := Int.ofNat.inj e
          rcases Nat.mul_eq_zero.1 e2 with h3 | h3
          · exact h h3
          · omega
        rw [← l, run_round]
        clear fm fd um
        have nz : ¬ 2 ^ (k + 1) = 0 := by omega
        generalize 2 ^ (k + 1) = n at *
        generalize 64 - n = s at *
        generalize 2 ^ k = m at *
        simp [c_row_First_L0, k_row_First_L0b, IntKind.bits, um2, w1, m2, n2, p1, hq, hw, hk0, nz]
theorem row_First (r a : Nat) (hr : r < 2 ^ 64) (h : IsFirst r a) : run kp (.data f_row_First [.int .u64 (r : Int)]) = some (.ds [.int .i64 (a : Int), .bool true]) := by
  obtain ⟨r', l⟩ := first_loop 5 (by decide) r 0 a h (first_lt h hr) hr (by decide)
  have h0 : ¬ (r : Int) = 0 := by
    intro e; have : r = 0 := by omega
    subst this; simp [IsFirst] at h
  simp only [Nat.zero_add, Nat.reducePow, Int.cast_ofNat_Int] at l
  rw [run_data, run_call, kp_row_First]
  have h1 : ¬ r = 0 := by omega
  simp [k_row_First, h0, h1, l]
theorem row_First0 : run kp (.data f_row_First [.int .u64 0]) = some (.ds [.int .i64 0, .bool false]) := by
  rw [run_data, run_call, kp_row_First]
  simp [k_row_First]
end Go.Cd
