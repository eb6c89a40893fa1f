/- Bits of numbers, in plain Lean. No conditions. -/
import Derived.Test.YtnchpinimmdfoaaCode
import Derived.Test.YtnchpinimmdfoaaS6
import Derived.Laws.BitsAllLaws
import Derived.KernelRfl
set_option linter.unusedVariables false
set_option linter.unusedSimpArgs false
namespace Go.Cd
open Go Go.Fw
/-- How many of the first n bits are set. -/
def pcR : Nat → Nat → Nat
  | 0, _ => 0
  | n + 1, r => pcR n r + (r.testBit n).toNat
theorem pcR_congr : ∀ (n r s : Nat), (∀ i, i < n → r.testBit i = s.testBit i) → pcR n r = pcR n s
  | 0, _, _, _ => rfl
  | n + 1, r, s, h => by simp only [pcR]; rw [pcR_congr n r s (fun i hi => h i (by omega)), h n (by omega)]
theorem pcR_none : ∀ (n r : Nat), (∀ i, i < n → r.testBit i = false) → pcR n r = 0
  | 0, _, _ => rfl
  | n + 1, r, h => by simp only [pcR]; rw [pcR_none n r (fun i hi => h i (by omega)), h n (by omega)]; rfl
theorem pcR_split (a r : Nat) : ∀ b : Nat, pcR (a + b) r = pcR a r + pcR b (r / 2 ^ a)
  | 0 => by simp [pcR]
  | b + 1 => by
    rw [← Nat.add_assoc]; simp only [pcR]; rw [pcR_split a r b, Nat.testBit_div_two_pow]
    rw [Nat.add_comm b a]; omega
theorem pcR_one (a : Nat) : ∀ (n r s : Nat), (∀ i, i < n → i ≠ a → r.testBit i = s.testBit i) → r.testBit a = true → s.testBit a = false → pcR n r = pcR n s + if a < n then 1 else 0
  | 0, _, _, _, _, _ => rfl
  | n + 1, r, s, h, h1, h2 => by
    simp only [pcR]
    rw [pcR_one a n r s (fun i hi => h i (by omega)) h1 h2]
    by_cases e : n = a
    · subst e; simp [h1, h2]
    · rw [h n (by omega) e]
      by_cases h3 : a < n
      · rw [if_pos h3, if_pos (by omega)]; omega
      · rw [if_neg h3, if_neg (by omega)]; omega
theorem tb_high {r n i : Nat} (h : r < 2 ^ n) (hi : n ≤ i) : r.testBit i = false := Nat.testBit_lt_two_pow (Nat.lt_of_lt_of_le h (Nat.pow_le_pow_right (by decide) hi))
/-- The halves of a number have its bits. -/
theorem pcR_halves (r n : Nat) (hr : r < 2 ^ 64) (hn : n ≤ 64) : pcR 64 (r / 2 ^ n) + pcR 64 (r % 2 ^ n) = pcR 64 r := by
  have e1 : pcR 64 r = pcR n r + pcR (64 - n) (r / 2 ^ n) := by
    rw [← pcR_split]; congr 1; omega
  have e2 : pcR 64 (r / 2 ^ n) = pcR (64 - n) (r / 2 ^ n) := by
    have := pcR_split (64 - n) (r / 2 ^ n) n
    rw [show 64 - n + n = 64 by omega] at this
    rw [this, pcR_none n _ (fun i _ => ?_)]
    · omega
    · rw [Nat.testBit_div_two_pow, Nat.testBit_div_two_pow]
      exact tb_high hr (by omega)
  have e3 : pcR 64 (r % 2 ^ n) = pcR n r := by
    have := pcR_split n (r % 2 ^ n) (64 - n)
    rw [show n + (64 - n) = 64 by omega] at this
    rw [this, pcR_none (64 - n) _ (fun i _ => ?_), pcR_congr n (r % 2 ^ n) r (fun i hi => ?_)]
    · omega
    · rw [Nat.testBit_mod_two_pow]; simp [hi]
    · rw [Nat.testBit_div_two_pow, Nat.testBit_mod_two_pow]
      have : ¬ i + n < n := by omega
      simp [this]
  omega
theorem tb_mod (r i : Nat) : r.testBit i = decide (r / 2 ^ i % 2 = 1) := Nat.testBit_eq_decide_div_mod_eq
theorem or_bit (r i : Nat) : r ||| 2 ^ i = if r.testBit i then r else r + 2 ^ i := by
  split
  · rename_i h
    apply Nat.eq_of_testBit_eq; intro j
    rw [Nat.testBit_or, Nat.testBit_two_pow]
    by_cases e : i = j
    · subst e; simp [h]
    · simp [e]
  · rename_i h
    have hb : r / 2 ^ i % 2 = 0 := by rw [tb_mod] at h; simp at h; omega
    have hm := Nat.mod_lt r (Nat.two_pow_pos i)
    have e1 := Nat.div_add_mod r (2 ^ i)
    have e2 : 2 ^ i * (r / 2 ^ i) = 2 ^ i * (r / 2 ^ i) := rfl
    have k1 := Nat.two_pow_add_eq_or_of_lt hm (r / 2 ^ i)
    have k2 := Nat.two_pow_add_eq_or_of_lt hm (r / 2 ^ i + 1)
    have k3 : 2 ^ i * (r / 2 ^ i + 1) = r + 2 ^ i - r % 2 ^ i := by rw [Nat.mul_add, Nat.mul_one]; omega
    have k4 : r + 2 ^ i = 2 ^ i * (r / 2 ^ i + 1) ||| r % 2 ^ i := by rw [← k2]; omega
    rw [k4]
    apply Nat.eq_of_testBit_eq; intro j
    rw [Nat.testBit_or, Nat.testBit_or, Nat.testBit_two_pow, Nat.testBit_two_pow_mul, Nat.testBit_mod_two_pow]
    by_cases e : j < i
    · have : ¬ i ≤ j := by omega
      have : ¬ i = j := by omega
      simp [*]
    · obtain ⟨d, rfl⟩ : ∃ d, j = i + d := ⟨j - i, by omega⟩
      have h1 : i ≤ i + d := by omega
      rw [show i + d - i = d by omega]
      have hq : (r / 2 ^ i).testBit d = r.testBit (i + d) := by rw [Nat.testBit_div_two_pow, Nat.add_comm]
      rw [← hq]
      generalize r / 2 ^ i = q at *
      cases d with
      | zero => simp [Nat.testBit_zero]; omega
      | succ d =>
        rw [Nat.testBit_succ, Nat.testBit_succ]
        have : (q + 1) / 2 = q / 2 := by omega
        simp [this]
theorem testBit_sub_bit (r i : Nat) (h : r.testBit i = true) : ∀ j, (r - 2 ^ i).testBit j = (r.testBit j && !decide (i = j)) := by
  have hr : 2 ^ i ≤ r := Nat.ge_two_pow_of_testBit h
  obtain ⟨s, hs⟩ : ∃ s, s = r - 2 ^ i := ⟨_, rfl⟩
  have hs2 : s.testBit i = false := by
    have e : r = s + 2 ^ i := by omega
    rw [tb_mod] at h ⊢
    rw [e, Nat.add_div_right _ (Nat.two_pow_pos i)] at h
    simp at h ⊢; omega
  have e : r = s ||| 2 ^ i := by rw [or_bit, hs2]; simp; omega
  intro j
  rw [← hs, e, Nat.testBit_or, Nat.testBit_two_pow]
  by_cases e : i = j
  · subst e; simp [hs2]
  · simp [e]
end Go.Cd
