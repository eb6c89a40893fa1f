/- Proved: the pure statement of SealAll. seal.Sum comes to what the document's Sum comes to: the loops of both are one function of the bytes. No conditions. -/
import Derived.Test.YtohopligfihopaaPSealAllx1
namespace Go.Proofs.Ytohopligfihopaa.Pure
open Go.RowKit Go.Proofs.Ytohopligfihopaa.PSealAll Go.Proofs.YtohopligfihopaaW.PrintWords Go.Proofs.YtohopligfihopaaW.PrintLast

/-- One turn by five bits. -/
def turn5 (h : Nat) : Nat := h * 32 % 4294967296 + h / 134217728
/-- n bytes of u, the lowest first. -/
def feed : Nat → Nat → Nat → Nat
  | 0, h, _ => h
  | n + 1, h, u => feed n (turn5 h ^^^ (u % 256)) (u / 256)
def sumOf (h : Nat) (l : List Int) : Nat := l.foldl (fun h v => feed 8 h (v % 18446744073709551616).toNat) h

theorem turn5_lt {h : Nat} (hh : h < 4294967296) : turn5 h < 4294967296 := by unfold turn5; omega
theorem xor_lt {a b : Nat} (ha : a < 4294967296) (hb : b < 256) : a ^^^ b < 4294967296 := Nat.xor_lt_two_pow (n := 32) (by omega) (by omega)
theorem feed_lt : ∀ (n h u : Nat), h < 4294967296 → feed n h u < 4294967296
  | 0, _, _, hh => hh
  | n + 1, h, u, hh => feed_lt n _ _ (xor_lt (turn5_lt hh) (Nat.mod_lt _ (by decide)))
theorem sumOf_lt : ∀ (l : List Int) (h : Nat), h < 4294967296 → sumOf h l < 4294967296
  | [], _, hh => hh
  | _ :: l, h, hh => sumOf_lt l _ (feed_lt 8 h _ hh)

theorem ofNat32 (a : Nat) (ha : a < 4294967296) : (BitVec.ofInt 32 (a : Int)).toNat = a := by
  rw [BitVec.ofInt_natCast, BitVec.toNat_ofNat]; exact Nat.mod_eq_of_lt (by omega)
theorem xor32 (a b : Nat) (ha : a < 4294967296) (hb : b < 4294967296) : Go.bits .xor .u32 (a : Int) (b : Int) = ((a ^^^ b : Nat) : Int) := by
  have hx : a ^^^ b < 2 ^ 32 := Nat.xor_lt_two_pow (by omega) (by omega)
  show IntKind.u32.wrap ((BitVec.ofInt 32 (a : Int) ^^^ BitVec.ofInt 32 (b : Int)).toNat : Int) = _
  rw [BitVec.toNat_xor, ofNat32 a ha, ofNat32 b hb, IntKind.wrap_u32]
  omega
theorem or32 (a b : Nat) (ha : a < 4294967296) (hb : b < 4294967296) : Go.bits .or .u32 (a : Int) (b : Int) = ((a ||| b : Nat) : Int) := by
  have hx : a ||| b < 2 ^ 32 := Nat.or_lt_two_pow (by omega) (by omega)
  show IntKind.u32.wrap ((BitVec.ofInt 32 (a : Int) ||| BitVec.ofInt 32 (b : Int)).toNat : Int) = _
  rw [BitVec.toNat_or, ofNat32 a ha, ofNat32 b hb, IntKind.wrap_u32]
  omega
theorem or_turn {h : Nat} (hh : h < 4294967296) : (h * 32 % 4294967296) ||| (h / 134217728) = turn5 h := by
  have e : h * 32 % 4294967296 = 2 ^ 5 * (h % 134217728) := by omega
  rw [e, ← Nat.two_pow_add_eq_or_of_lt (by omega : h / 134217728 < 2 ^ 5)]
  unfold turn5; omega
theorem step_a {h u : Nat} (hh : h < 4294967296) : Go.bits .xor .u32 (Go.bits .or .u32 (((h : Int) * 32) % 4294967296) ((h : Int) / 134217728)) ((u : Int) % 256) = ((turn5 h ^^^ (u % 256) : Nat) : Int) := by
  have e1 : ((h : Int) * 32) % 4294967296 = ((h * 32 % 4294967296 : Nat) : Int) := by omega
  have e2 : (h : Int) / 134217728 = ((h / 134217728 : Nat) : Int) := by omega
  have e3 : (u : Int) % 256 = ((u % 256 : Nat) : Int) := by omega
  rw [e1, e2, e3, or32 _ _ (by omega) (by omega), or_turn hh, xor32 _ _ (turn5_lt hh) (by omega)]
theorem step_b {h u : Nat} (hh : h < 4294967296) : Go.bits .xor .u32 (((((h : Int) * 32) % 4294967296) + ((Int.tdiv (h : Int) 134217728) % 4294967296)) % 4294967296) ((Int.tmod (u : Int) 256) % 4294967296) = ((turn5 h ^^^ (u % 256) : Nat) : Int) := by
  have e2 : Int.tdiv (h : Int) 134217728 = ((h / 134217728 : Nat) : Int) := by rw [Int.tdiv_eq_ediv_of_nonneg (by omega)]; omega
  have e3 : Int.tmod (u : Int) 256 = ((u % 256 : Nat) : Int) := by rw [Int.tmod_eq_emod_of_nonneg (by omega)]; omega
  have e1 : ((((h : Int) * 32) % 4294967296) + (((h / 134217728 : Nat) : Int) % 4294967296)) % 4294967296 = ((turn5 h : Nat) : Int) := by unfold turn5; omega
  have e4 : (((u % 256 : Nat) : Int)) % 4294967296 = ((u % 256 : Nat) : Int) := by omega
  rw [e2, e3, e1, e4, xor32 _ _ (turn5_lt hh) (by omega)]

theorem seal_l1 (l : List Int) (len i : Int) : ∀ (d k h u : Nat), d ≤ 8 → h < 4294967296 →
    seal_Sum.l1 (k + d + 1) (h : Int) (u : Int) (8 - (d : Int)) l len i = seal_Sum.l0 k ((feed d h u : Nat) : Int) l len (wrap64 (i + 1))
  | 0, k, h, u, _, hh => by
    simp only [seal_Sum.l1]
    rw [if_neg (by omega)]; rfl
  | d + 1, k, h, u, hd, hh => by
    obtain ⟨m, hm⟩ : ∃ m, m = k + d + 1 := ⟨_, rfl⟩
    rw [show k + (d + 1) + 1 = m + 1 by omega]
    simp only [seal_Sum.l1]
    rw [if_pos (by omega), step_a hh, show wrap64 (8 - ((d + 1 : Nat) : Int) + 1) = 8 - (d : Int) by unfold wrap64; omega, show (u : Int) / 256 = ((u / 256 : Nat) : Int) by omega]
    rw [hm, seal_l1 l len i d k _ _ (by omega) (xor_lt (turn5_lt hh) (Nat.mod_lt _ (by decide)))]
    rfl
theorem ref_l1 (l : List Int) (i : Int) : ∀ (d k h u : Nat), d ≤ 8 → h < 4294967296 → u < 18446744073709551616 →
    foliotref1_Sum.l1 (k + d + 1) l (h : Int) i (u : Int) (8 - (d : Int)) = foliotref1_Sum.l0 k l ((feed d h u : Nat) : Int) (wrap64 (i + 1))
  | 0, k, h, u, _, hh, _ => by
    simp only [foliotref1_Sum.l1]
    rw [if_neg (by omega)]; rfl
  | d + 1, k, h, u, hd, hh, hu => by
    obtain ⟨m, hm⟩ : ∃ m, m = k + d + 1 := ⟨_, rfl⟩
    rw [show k + (d + 1) + 1 = m + 1 by omega]
    simp only [foliotref1_Sum.l1]
    have e : IntKind.u64.wrap (Int.tdiv (u : Int) 256) = ((u / 256 : Nat) : Int) := by
      rw [Int.tdiv_eq_ediv_of_nonneg (by omega), IntKind.wrap_u64]; omega
    rw [if_pos (by omega), step_b hh, show wrap64 (8 - ((d + 1 : Nat) : Int) + 1) = 8 - (d : Int) by unfold wrap64; omega, e]
    rw [hm, ref_l1 l i d k _ _ (by omega) (xor_lt (turn5_lt hh) (Nat.mod_lt _ (by decide))) (by omega)]
    rfl
theorem u64_wrap (v : Int) : IntKind.u64.wrap v = (((v % 18446744073709551616).toNat : Nat) : Int) := by
  rw [IntKind.wrap_u64]; omega
theorem rd_drop {l : List Int} {i : Nat} (h : i < l.length) : l.drop i = rd l (i : Int) :: l.drop (i + 1) := by
  rw [List.drop_eq_getElem_cons h]; simp [rd, List.getD_eq_getElem?_getD, h]
theorem seal_l0 (l : List Int) (hl : l.length ≤ 4611686018427387904) : ∀ (n k i h : Nat), i + n = l.length → h < 4294967296 →
    seal_Sum.l0 (k + 10 * n + 1) (h : Int) l (l.length : Int) (i : Int) = some ((sumOf h (l.drop i) : Nat) : Int)
  | 0, k, i, h, hi, hh => by
    simp only [seal_Sum.l0]
    rw [if_neg (by omega), List.drop_eq_nil_of_le (by omega)]; rfl
  | n + 1, k, i, h, hi, hh => by
    rw [show k + 10 * (n + 1) + 1 = ((k + 10 * n + 1) + 8 + 1) + 1 by omega]
    simp only [seal_Sum.l0]
    rw [if_pos (by omega), if_pos (by omega), if_pos (by omega), u64_wrap]
    have := seal_l1 l (l.length : Int) (i : Int) 8 (k + 10 * n + 1) h (rd l (i : Int) % 18446744073709551616).toNat (by omega) hh
    simp only [Int.reduceSub, Int.cast_ofNat_Int] at this
    rw [this, show wrap64 ((i : Int) + 1) = ((i + 1 : Nat) : Int) by unfold wrap64; omega]
    rw [seal_l0 l hl n k (i + 1) _ (by omega) (feed_lt 8 _ _ hh), rd_drop (by omega : i < l.length)]
    rfl
theorem ref_l0 (l : List Int) (hl : l.length ≤ 4611686018427387904) : ∀ (n k i h : Nat), i + n = l.length → h < 4294967296 →
    foliotref1_Sum.l0 (k + 10 * n + 1) l (h : Int) (i : Int) = some ((sumOf h (l.drop i) : Nat) : Int)
  | 0, k, i, h, hi, hh => by
    simp only [foliotref1_Sum.l0]
    rw [if_neg (by omega), List.drop_eq_nil_of_le (by omega)]; rfl
  | n + 1, k, i, h, hi, hh => by
    rw [show k + 10 * (n + 1) + 1 = ((k + 10 * n + 1) + 8 + 1) + 1 by omega]
    simp only [foliotref1_Sum.l0]
    rw [if_pos (by omega), if_pos (by omega), u64_wrap]
    have := ref_l1 l (i : Int) 8 (k + 10 * n + 1) h (rd l (i : Int) % 18446744073709551616).toNat (by omega) hh (by omega)
    simp only [Int.reduceSub, Int.cast_ofNat_Int] at this
    rw [this, show wrap64 ((i : Int) + 1) = ((i + 1 : Nat) : Int) by unfold wrap64; omega]
    rw [ref_l0 l hl n k (i + 1) _ (by omega) (feed_lt 8 _ _ hh), rd_drop (by omega : i < l.length)]
    rfl
def sm (l : List Int) : Nat := sumOf 2166136261 l
theorem seal_f (l : List Int) (hl : l.length ≤ 40) (k : Nat) (hk : 401 ≤ k) : seal_Sum.f k l = some ((sm l : Nat) : Int) := by
  unfold seal_Sum.f
  have := seal_l0 l (by omega) l.length (k - 10 * l.length - 1) 0 2166136261 (by omega) (by omega)
  rw [show k - 10 * l.length - 1 + 10 * l.length + 1 = k by omega] at this
  simpa [sm] using this
theorem ref_f (l : List Int) (hl : l.length ≤ 40) (k : Nat) (hk : 401 ≤ k) : foliotref1_Sum.f k l = some ((sm l : Nat) : Int) := by
  unfold foliotref1_Sum.f
  have := ref_l0 l (by omega) l.length (k - 10 * l.length - 1) 0 2166136261 (by omega) (by omega)
  rw [show k - 10 * l.length - 1 + 10 * l.length + 1 = k by omega] at this
  simpa [sm] using this
theorem begun_f (k : Nat) (hk : 401 ≤ k) : foliotlaw10_begun.f k = some true := by
  unfold foliotlaw10_begun.f
  rw [seal_f _ (by simp) k hk, seal_f _ (by simp) k hk, seal_f _ (by simp) k hk, ref_f _ (by simp) k hk]
  decide +kernel

theorem SealAll : foliotlaw10_SealAll.Pure := by
  intro l _ _ _
  refine ⟨401, ?_⟩
  unfold foliotlaw10_SealAll.f
  rw [begun_f _ (Nat.le_refl _)]
  simp only [Option.bind_some, if_true]
  by_cases h : (l.length : Int) > 30
  · rw [if_pos h]
  · rw [if_neg h, seal_f l (by omega) _ (Nat.le_refl _), ref_f l (by omega) _ (Nat.le_refl _)]
    simp
end Go.Proofs.Ytohopligfihopaa.Pure
