/- The first bit, and the reference's functions of rows. No conditions. -/
import Derived.Test.YtohopligfihopaaR1QRow
set_option linter.unusedVariables false
set_option linter.unusedSimpArgs false
namespace Go.Cd
open Go Go.Fw
def IsFirst (r a : Nat) : Prop := r.testBit a = true ∧ ∀ j, j < a → r.testBit j = false
theorem first_is (r : Nat) (h : ¬ r = 0) : ∃ a, IsFirst r a := by
  induction r using Nat.strongRecOn with
  | ind r ih =>
    by_cases h2 : r % 2 = 1
    · exact ⟨0, by simp [Nat.testBit_zero, h2], fun j hj => by omega⟩
    · obtain ⟨a, a1, a2⟩ := ih (r / 2) (by omega) (by omega)
      refine ⟨a + 1, by rw [Nat.testBit_succ]; exact a1, fun j hj => ?_⟩
      cases j with
      | zero => simp [Nat.testBit_zero]; omega
      | succ j => rw [Nat.testBit_succ]; exact a2 j (by omega)
theorem first_lt {r a : Nat} (h : IsFirst r a) (hr : r < 2 ^ 64) : a < 64 := by
  rcases Nat.lt_or_ge a 64 with h2 | h2
  · exact h2
  · have := tb_high hr h2; rw [h.1] at this; cases this
theorem first_mod {r a n : Nat} (h : IsFirst r a) : r % 2 ^ n = 0 ↔ n ≤ a := by
  constructor
  · intro e
    rcases Nat.lt_or_ge a n with h2 | h2
    · have : (r % 2 ^ n).testBit a = true := by rw [Nat.testBit_mod_two_pow]; simp [h2, h.1]
      rw [e] at this; simp at this
    · exact h2
  · intro e
    apply Nat.eq_of_testBit_eq; intro j
    rw [Nat.testBit_mod_two_pow]
    by_cases h2 : j < n
    · simp [h.2 j (by omega)]
    · simp [h2]
theorem first_down {r a n : Nat} (h : IsFirst r a) (hn : n ≤ a) : IsFirst (r / 2 ^ n) (a - n) := by
  refine ⟨?_, fun j hj => ?_⟩
  · rw [Nat.testBit_div_two_pow, show a - n + n = a by omega]; exact h.1
  · rw [Nat.testBit_div_two_pow]; exact h.2 _ (by omega)
theorem first_uniq {r a b : Nat} (h : IsFirst r a) (h2 : IsFirst r b) : a = b := by
  rcases Nat.lt_trichotomy a b with h3 | h3 | h3
  · have := h2.2 a h3; rw [h.1] at this; cases this
  · exact h3
  · have := h.2 b h3; rw [h2.1] at this; cases this
theorem first_loop : ∀ (k : Nat), k ≤ 5 → ∀ (r at_ a : Nat), IsFirst r a → a < 2 * 2 ^ k → r < 2 ^ 64 → at_ + 2 * 2 ^ k ≤ 1000 → ∃ r' : Nat,
    run kp (.loop [0, 2, 4] k_row_First_L0 { env := [(0, .int .u64 (r : Int)), (2, .int .i64 (at_ : Int)), (4, .int .i64 ((2 ^ k : Nat) : Int))], hp := [], tl := fun _ => none, base := 0, next := 0 }) =
    some (.out (.ext 0) { env := [(0, .int .u64 (r' : Int)), (2, .int .i64 ((at_ + a : Nat) : Int)), (4, .int .i64 0), (8, .bool false)], hp := [], tl := fun _ => none, base := 0, next := 0 })
  | k, hk, r, at_, a, hf, ha, hr, hat => by
    have hk2 : 2 ^ k ≤ 2 ^ 5 := Nat.pow_le_pow_right (by decide) hk
    have hk0 := Nat.two_pow_pos k
    have w0 : IntKind.i64.wrap 0 = 0 := by decide
    have um := up_mod r (2 ^ k) (64 - 2 ^ k) (by omega)
    have dd := down_div r (2 ^ k)
    have fm := first_mod (n := 2 ^ k) hf
    have fd := fun h => first_down (n := 2 ^ k) hf h
    have w1 : IntKind.i64.wrap (64 - ((2 ^ k : Nat) : Int)) = ((64 - 2 ^ k : Nat) : Int) := by rw [wrap_i64 (by omega) (by omega)]; omega
    have w2 : IntKind.i64.wrap ((at_ : Int) + ((2 ^ k : Nat) : Int)) = ((at_ + 2 ^ k : Nat) : Int) := by rw [wrap_i64 (by omega) (by omega)]; omega
    have m1 : min (2 ^ k) 64 = 2 ^ k := by omega
    have m2 : min (64 - 2 ^ k) 64 = 64 - 2 ^ k := by omega
    have n1 : ¬ ((2 ^ k : Nat) : Int) < 0 := by omega
    have n2 : ¬ ((64 - 2 ^ k : Nat) : Int) < 0 := by omega
    have p1 : (0 : Int) < ((2 ^ k : Nat) : Int) := by omega
    have last : ∀ (r at_ : Nat), run kp (.loop [0, 2, 4] k_row_First_L0 { env := [(0, .int .u64 (r : Int)), (2, .int .i64 (at_ : Int)), (4, .int .i64 0)], hp := [], tl := fun _ => none, base := 0, next := 0 }) =
        some (.out (.ext 0) { env := [(0, .int .u64 (r : Int)), (2, .int .i64 (at_ : Int)), (4, .int .i64 0), (8, .bool false)], hp := [], tl := fun _ => none, base := 0, next := 0 }) := by
      intro r at_
      rw [run_round]
      simp [c_row_First_L0, k_row_First_L0b]
    have sp := Nat.two_pow_pos (64 - 2 ^ k)
    cases k with
    | zero =>
      by_cases h : r % 2 ^ (2 ^ 0) = 0
      · have ea : a = 1 := by have := fm.1 h; omega
        subst ea
        rw [h, Nat.zero_mul] at um
        refine ⟨r / 2 ^ (2 ^ 0), ?_⟩
        have l := last (r / 2 ^ (2 ^ 0)) (at_ + 1)
        simp only [Nat.pow_zero] at *
        rw [← l, run_round]
        generalize r / 2 ^ 1 = x at *
        simp at um dd w1 w2
        simp [c_row_First_L0, k_row_First_L0b, IntKind.bits, um, dd, w1, w2, w0]
      · have ea : a = 0 := by
          rcases Nat.lt_or_ge a 1 with h2 | h2
          · omega
          · exact absurd (fm.2 h2) h
        subst ea
        refine ⟨r, ?_⟩
        have l := last r at_
        have um2 : ¬ IntKind.u64.wrap ((r : Int) * 2 ^ (64 - 2 ^ 0)) = 0 := by
          rw [um]; intro e
          have e2 := Int.ofNat.inj e
          rcases Nat.mul_eq_zero.1 e2 with h3 | h3
          · exact h h3
          · omega
        simp only [Nat.pow_zero, Nat.add_zero] at *
        rw [← l, run_round]
        simp at um2 w1 w2
        simp [c_row_First_L0, k_row_First_L0b, IntKind.bits, um2, w1, w2, w0]
    | succ k =>
      have hab := Nat.pow_succ 2 k
      have hq : ((2 ^ (k + 1) : Nat) : Int).tdiv 2 = ((2 ^ k : Nat) : Int) := by
        rw [hab, Int.tdiv_eq_ediv_of_nonneg (by omega)]; omega
      have hw : IntKind.i64.wrap ((2 ^ k : Nat) : Int) = ((2 ^ k : Nat) : Int) := wrap_i64 (by omega) (by omega)
      by_cases h : r % 2 ^ (2 ^ (k + 1)) = 0
      · have ha2 := fm.1 h
        have hx : r / 2 ^ 2 ^ (k + 1) < 2 ^ 64 := Nat.lt_of_le_of_lt (Nat.div_le_self _ _) hr
        obtain ⟨r', l⟩ := first_loop k (by omega) (r / 2 ^ 2 ^ (k + 1)) (at_ + 2 ^ (k + 1)) (a - 2 ^ (k + 1)) (fd ha2) (by omega) hx (by omega)
        refine ⟨r', ?_⟩
        rw [h, Nat.zero_mul] at um
        rw [show at_ + 2 ^ (k + 1) + (a - 2 ^ (k + 1)) = at_ + a by omega] at l
        rw [← l, run_round]
        clear fm fd
        have nz : ¬ 2 ^ (k + 1) = 0 := by omega
        generalize r / 2 ^ 2 ^ (k + 1) = x at *
        generalize at_ + 2 ^ (k + 1) = y at *
        generalize 2 ^ (k + 1) = n at *
        generalize 64 - n = s at *
        generalize 2 ^ k = m at *
        simp at um
        simp [c_row_First_L0, k_row_First_L0b, IntKind.bits, um, dd, w1, w2, m1, m2, n1, n2, p1, hq, hw, hk0, nz]
      · have ha2 : a < 2 ^ (k + 1) := by
          rcases Nat.lt_or_ge a (2 ^ (k + 1)) with h2 | h2
          · exact h2
          · exact absurd (fm.2 h2) h
        obtain ⟨r', l⟩ := first_loop k (by omega) r at_ a hf (by omega) hr (by omega)
        refine ⟨r', ?_⟩
        have um2 : ¬ IntKind.u64.wrap ((r : Int) * 2 ^ (64 - 2 ^ (k + 1))) = 0 := by
          rw [um]; intro e
          have e2 := Int.ofNat.inj e
          rcases Nat.mul_eq_zero.1 e2 with h3 | h3
          · exact h h3
          · omega
        rw [← l, run_round]
        clear fm fd um
        have nz : ¬ 2 ^ (k + 1) = 0 := by omega
        generalize 2 ^ (k + 1) = n at *
        generalize 64 - n = s at *
        generalize 2 ^ k = m at *
        simp [c_row_First_L0, k_row_First_L0b, IntKind.bits, um2, w1, m2, n2, p1, hq, hw, hk0, nz]
theorem row_First (r a : Nat) (hr : r < 2 ^ 64) (h : IsFirst r a) : run kp (.data f_row_First [.int .u64 (r : Int)]) = some (.ds [.int .i64 (a : Int), .bool true]) := by
  obtain ⟨r', l⟩ := first_loop 5 (by decide) r 0 a h (first_lt h hr) hr (by decide)
  have h0 : ¬ (r : Int) = 0 := by
    intro e; have : r = 0 := by omega
    subst this; simp [IsFirst] at h
  simp only [Nat.zero_add, Nat.reducePow, Int.cast_ofNat_Int] at l
  rw [run_data, run_call, kp_row_First]
  have h1 : ¬ r = 0 := by omega
  simp [k_row_First, h0, h1, l]
theorem row_First0 : run kp (.data f_row_First [.int .u64 0]) = some (.ds [.int .i64 0, .bool false]) := by
  rw [run_data, run_call, kp_row_First]
  simp [k_row_First]
/-! ### The reference's -/
theorem wrapN64 (x : Nat) (h : x < 2 ^ 64) : IntKind.u64.wrap (x : Int) = (x : Int) := by rw [wrap_u64_mod]; omega
theorem natmod2 (x : Nat) : (x : Int).tmod 2 = ((x % 2 : Nat) : Int) := by rw [Int.tmod_eq_emod_of_nonneg (by omega)]; omega
theorem wrapAdd64 (x y : Nat) (h : x + y < 2 ^ 64) : IntKind.u64.wrap ((x : Int) + (y : Int)) = ((x + y : Nat) : Int) := by rw [wrap_u64_mod]; omega
theorem wrapSub64 (x y : Nat) (h : y ≤ x) (h2 : x < 2 ^ 64) : IntKind.u64.wrap ((x : Int) - (y : Int)) = ((x - y : Nat) : Int) := by rw [wrap_u64_mod]; omega
theorem dec1 (x : Nat) : decide ((x : Int) = 1) = decide (x = 1) := by
  by_cases h : x = 1
  · subst h; rfl
  · have : ¬ (x : Int) = 1 := by omega
    simp only [h, this]
theorem refbit_loop : ∀ (i b : Nat), b + i ≤ 63 →
    run kp (.loop [0, 3] k_ref1_bit_L0 { env := [(0, .int .i64 (i : Int)), (3, .int .u64 ((2 ^ b : Nat) : Int))], hp := [], tl := fun _ => none, base := 0, next := 0 }) =
    some (.out (.ext 0) { env := [(0, .int .i64 0), (3, .int .u64 ((2 ^ (b + i) : Nat) : Int)), (5, .bool false)], hp := [], tl := fun _ => none, base := 0, next := 0 })
  | 0, b, h => by
    rw [run_round]
    simp [c_ref1_bit_L0, k_ref1_bit_L0b]
  | i + 1, b, h => by
    have ih := refbit_loop i (b + 1) (by omega)
    have hp := two_lt (i := b + 1) (by omega)
    have w1 : IntKind.u64.wrap (2 * ((2 ^ b : Nat) : Int)) = ((2 ^ (b + 1) : Nat) : Int) := by
      rw [Nat.pow_succ] at hp ⊢
      rw [wrap_u64_mod]; omega
    have w2 : IntKind.i64.wrap (((i + 1 : Nat) : Int) - 1) = (i : Int) := by rw [wrap_i64 (by omega) (by omega)]; omega
    have p : (0 : Int) < ((i + 1 : Nat) : Int) := by omega
    rw [show b + 1 + i = b + (i + 1) by omega] at ih
    rw [← ih, run_round]
    generalize 2 ^ (b + 1) = x at *
    generalize 2 ^ b = y at *
    generalize ((i + 1 : Nat) : Int) = z at *
    simp [c_ref1_bit_L0, k_ref1_bit_L0b, w1, w2, p]
theorem ref1_bit (i : Nat) (h : i ≤ 63) : run kp (.data f_ref1_bit [.int .i64 (i : Int)]) = some (.ds [.int .u64 ((2 ^ i : Nat) : Int)]) := by
  have l := refbit_loop i 0 (by omega)
  rw [run_data, run_call, kp_ref1_bit]
  rw [Nat.zero_add] at l
  generalize 2 ^ i = x at *
  simp only [Nat.pow_zero, Int.cast_ofNat_Int] at l
  simp [k_ref1_bit, l]
theorem ref1_IsBit (r : Nat) (hr : r < 2 ^ 64) (i : Int) : run kp (.data f_ref1_IsBit [.int .u64 (r : Int), .int .i64 i]) = some (.ds [.bool (isB r i)]) := by
  rw [run_data, run_call, kp_ref1_IsBit]
  unfold isB inB
  by_cases h : 0 ≤ i
  · by_cases h2 : i ≤ 63
    · obtain ⟨n, rfl⟩ : ∃ n : Nat, i = n := ⟨i.toNat, by omega⟩
      have b := ref1_bit n (by omega)
      have e := tb_mod r n
      have hp := two_lt (i := n) (by omega)
      have hp0 := Nat.two_pow_pos n
      have hq : (r : Int).tdiv ((2 ^ n : Nat) : Int) = ((r / 2 ^ n : Nat) : Int) := by
        rw [Int.tdiv_eq_ediv_of_nonneg (by omega)]; simp
      have hw := wrapN64 (r / 2 ^ n) (Nat.lt_of_le_of_lt (Nat.div_le_self _ _) hr)
      have hm := natmod2 (r / 2 ^ n)
      have hd := dec1 (r / 2 ^ n % 2)
      have h3 : (n : Int) < 64 := by omega
      have h4 : n < 64 := by omega
      have h5 : ¬ (2 ^ n = 0) := by omega
      generalize r / 2 ^ n % 2 = z at *
      generalize r / 2 ^ n = y at *
      generalize 2 ^ n = x at *
      have h6 : ¬ (x : Int) = 0 := by omega
      simp only [Int.toNat_natCast, h3, h, e]
      simp [k_ref1_IsBit, h, h2, b, hq, hw, hm, hd, h5, h6, h4]
    · have : ¬ i < 64 := by omega
      simp [k_ref1_IsBit, h, h2, this]
  · simp [k_ref1_IsBit, h]
theorem ref1_SetBit (r : Nat) (hr : r < 2 ^ 64) (i : Int) : run kp (.data f_ref1_SetBit [.int .u64 (r : Int), .int .i64 i]) = some (.ds [.int .u64 (setB r i : Nat)]) := by
  rw [run_data, run_call, kp_ref1_SetBit]
  have ib := ref1_IsBit r hr i
  unfold isB inB at ib
  unfold setB inB setN
  by_cases h : i < 0
  · have : ¬ (0 ≤ i ∧ i < 64) := by omega
    simp [k_ref1_SetBit, h, this]
  · by_cases h2 : 63 < i
    · have : ¬ (0 ≤ i ∧ i < 64) := by omega
      simp [k_ref1_SetBit, h, h2, this]
    · have h3 : 0 ≤ i ∧ i < 64 := by omega
      obtain ⟨n, rfl⟩ : ∃ n : Nat, i = n := ⟨i.toNat, by omega⟩
      have h4 : n < 64 := by omega
      have b := ref1_bit n (by omega)
      have sl := set_lt (i := n) hr (by omega)
      unfold setN at sl
      simp only [Int.toNat_natCast] at ib ⊢
      cases hb : r.testBit n with
      | true =>
        simp [hb, h3, h4] at ib
        simp [k_ref1_SetBit, h, h2, ib, h3, h4]
      | false =>
        simp [hb, h3, h4] at ib
        rw [hb] at sl
        simp only [Bool.false_eq_true, if_false] at sl
        have hw := wrapAdd64 r (2 ^ n) sl
        rw [if_pos h3]
        simp only [Bool.false_eq_true, if_false]
        generalize r + 2 ^ n = x at *
        generalize 2 ^ n = y at *
        simp [k_ref1_SetBit, h, h2, ib, b, hw]
theorem ref1_ClearBit (r : Nat) (hr : r < 2 ^ 64) (i : Int) : run kp (.data f_ref1_ClearBit [.int .u64 (r : Int), .int .i64 i]) = some (.ds [.int .u64 (clrB r i : Nat)]) := by
  rw [run_data, run_call, kp_ref1_ClearBit]
  have ib := ref1_IsBit r hr i
  unfold isB at ib
  unfold clrB clrN
  by_cases h : inB i
  · obtain ⟨n, rfl⟩ : ∃ n : Nat, i = n := ⟨i.toNat, by unfold inB at h; omega⟩
    have b := ref1_bit n (by unfold inB at h; omega)
    simp only [Int.toNat_natCast, h, decide_true, Bool.true_and, if_true] at ib ⊢
    cases hb : r.testBit n with
    | true =>
      have hge := Nat.ge_two_pow_of_testBit hb
      have hw := wrapSub64 r (2 ^ n) hge hr
      rw [hb] at ib
      simp only [if_true]
      generalize r - 2 ^ n = x at *
      generalize 2 ^ n = y at *
      simp [k_ref1_ClearBit, ib, b, hw]
    | false =>
      rw [hb] at ib
      simp [k_ref1_ClearBit, ib]
  · simp [h] at ib
    simp [k_ref1_ClearBit, ib, h]
theorem bits_loop (r : Nat) (hr : r < 2 ^ 64) : ∀ (d i : Nat), i + d = 64 →
    run kp (.loop [0, 3, 4] k_ref1_Bits_L0 { env := [(0, .int .u64 (r : Int)), (3, .int .i64 ((pcR i r : Nat) : Int)), (4, .int .i64 (i : Int))], hp := [], tl := fun _ => none, base := 0, next := 0 }) =
    some (.out (.ext 0) { env := [(0, .int .u64 (r : Int)), (3, .int .i64 ((pcR 64 r : Nat) : Int)), (4, .int .i64 64), (6, .bool false)], hp := [], tl := fun _ => none, base := 0, next := 0 })
  | 0, i, h => by
    obtain rfl : i = 64 := by omega
    generalize pcR 64 r = x
    rw [run_round]
    simp [c_ref1_Bits_L0, k_ref1_Bits_L0b]
  | d + 1, i, h => by
    have ih := bits_loop r hr d (i + 1) (by omega)
    have ib := ref1_IsBit r hr i
    have hi : inB (i : Int) := by unfold inB; omega
    simp only [isB, hi, decide_true, Bool.true_and, Int.toNat_natCast] at ib
    have hle := pcR_le i r
    have p : (i : Int) < 64 := by omega
    have p2 : i < 64 := by omega
    have w1 : IntKind.i64.wrap ((i : Int) + 1) = ((i + 1 : Nat) : Int) := by rw [wrap_i64 (by omega) (by omega)]; omega
    have w2 : IntKind.i64.wrap (((pcR i r : Nat) : Int) + 1) = ((pcR i r + 1 : Nat) : Int) := by rw [wrap_i64 (by omega) (by omega)]; omega
    rw [show pcR (i + 1) r = pcR i r + (r.testBit i).toNat from rfl] at ih
    rw [← ih, run_round]
    cases hb : r.testBit i with
    | true =>
      rw [hb] at ib
      simp only [Bool.toNat_true]
      generalize pcR i r + 1 = y at *
      generalize pcR i r = x at *
      generalize i + 1 = j at *
      simp [c_ref1_Bits_L0, k_ref1_Bits_L0b, p, p2, ib, w1, w2]
    | false =>
      rw [hb] at ib
      simp only [Bool.toNat_false, Nat.add_zero]
      generalize pcR i r = x at *
      generalize i + 1 = j at *
      simp [c_ref1_Bits_L0, k_ref1_Bits_L0b, p, p2, ib, w1]
theorem ref1_Bits (r : Nat) (hr : r < 2 ^ 64) : run kp (.data f_ref1_Bits [.int .u64 (r : Int)]) = some (.ds [.int .i64 ((pcR 64 r : Nat) : Int)]) := by
  have l := bits_loop r hr 64 0 rfl
  rw [run_data, run_call, kp_ref1_Bits]
  generalize pcR 64 r = x at *
  simp only [pcR, Int.cast_ofNat_Int] at l
  simp [k_ref1_Bits, l]
theorem firstbit_loop (r a : Nat) (hr : r < 2 ^ 64) (hf : IsFirst r a) (ha : a < 64) : ∀ (d i : Nat), i + d = a →
    run kp (.loop [0, 4] k_ref1_FirstBit_L0 { env := [(0, .int .u64 (r : Int)), (4, .int .i64 (i : Int))], hp := [], tl := fun _ => none, base := 0, next := 0 }) =
    some (.out .ret { env := [(0, .int .u64 (r : Int)), (6, .bool true), (11, .bool true), (2, .int .i64 (a : Int)), (3, .bool true)], hp := [], tl := fun _ => none, base := 0, next := 0 })
  | 0, i, h => by
    obtain rfl : i = a := by omega
    have ib := ref1_IsBit r hr i
    have hi : inB (i : Int) := by unfold inB; omega
    simp only [isB, hi, decide_true, Bool.true_and, Int.toNat_natCast, hf.1] at ib
    have p : (i : Int) < 64 := by omega
    rw [run_round]
    simp [c_ref1_FirstBit_L0, k_ref1_FirstBit_L0b, p, ha, ib]
  | d + 1, i, h => by
    have ih := firstbit_loop r a hr hf ha d (i + 1) (by omega)
    have ib := ref1_IsBit r hr i
    have hi : inB (i : Int) := by unfold inB; omega
    simp only [isB, hi, decide_true, Bool.true_and, Int.toNat_natCast, hf.2 i (by omega)] at ib
    have p : (i : Int) < 64 := by omega
    have p2 : i < 64 := by omega
    have w1 : IntKind.i64.wrap ((i : Int) + 1) = ((i + 1 : Nat) : Int) := by rw [wrap_i64 (by omega) (by omega)]; omega
    rw [← ih, run_round]
    generalize i + 1 = j at *
    simp [c_ref1_FirstBit_L0, k_ref1_FirstBit_L0b, p, p2, ib, w1]
theorem ref1_FirstBit (r a : Nat) (hr : r < 2 ^ 64) (hf : IsFirst r a) : run kp (.data f_ref1_FirstBit [.int .u64 (r : Int)]) = some (.ds [.int .i64 (a : Int), .bool true]) := by
  have l := firstbit_loop r a hr hf (first_lt hf hr) a 0 (by omega)
  simp only [Int.cast_ofNat_Int] at l
  rw [run_data, run_call, kp_ref1_FirstBit]
  simp [k_ref1_FirstBit, l]
theorem firstbit_none : ∀ (d i : Nat), i + d = 64 →
    run kp (.loop [0, 4] k_ref1_FirstBit_L0 { env := [(0, .int .u64 0), (4, .int .i64 (i : Int))], hp := [], tl := fun _ => none, base := 0, next := 0 }) =
    some (.out (.ext 0) { env := [(0, .int .u64 0), (4, .int .i64 64), (6, .bool false)], hp := [], tl := fun _ => none, base := 0, next := 0 })
  | 0, i, h => by
    obtain rfl : i = 64 := by omega
    rw [run_round]
    simp [c_ref1_FirstBit_L0, k_ref1_FirstBit_L0b]
  | d + 1, i, h => by
    have ih := firstbit_none d (i + 1) (by omega)
    have ib := ref1_IsBit 0 (by decide) i
    simp only [isB, Nat.zero_testBit, Bool.and_false, Int.cast_ofNat_Int] at ib
    have p : (i : Int) < 64 := by omega
    have p2 : i < 64 := by omega
    have w1 : IntKind.i64.wrap ((i : Int) + 1) = ((i + 1 : Nat) : Int) := by rw [wrap_i64 (by omega) (by omega)]; omega
    rw [← ih, run_round]
    generalize i + 1 = j at *
    simp [c_ref1_FirstBit_L0, k_ref1_FirstBit_L0b, p, p2, ib, w1]
theorem ref1_FirstBit0 : run kp (.data f_ref1_FirstBit [.int .u64 0]) = some (.ds [.int .i64 0, .bool false]) := by
  have l := firstbit_none 64 0 rfl
  simp only [Int.cast_ofNat_Int] at l
  rw [run_data, run_call, kp_ref1_FirstBit]
  simp [k_ref1_FirstBit, l]
set_option maxRecDepth 100000 in
theorem row_begun : run kp (.data f_law3_begun []) = some (.ds [.bool true]) := run_of (n := 4000) (by kernel_rfl)
theorem wf_u64 {n : Int} (h : (Lit.int .u64 n).wf = true) : ∃ r : Nat, n = (r : Int) ∧ r < 2 ^ 64 := by
  simp [Lit.wf, IntKind.min, IntKind.max, IntKind.signed, IntKind.bits] at h
  exact ⟨n.toNat, by omega, by omega⟩
end Go.Cd
