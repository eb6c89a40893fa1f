/- Proved: the pure statement of SealRow. Noughts behind a row turn its sum round by eight bits each and take nothing away. No conditions. -/
import Derived.Test.YtohopligfihopaaPSealRowx1
namespace Go.Proofs.Ytohopligfihopaa.Pure
open Go.RowKit Go.Proofs.Ytohopligfihopaa.PSealRow Go.Proofs.YtohopligfihopaaW.PrintWords Go.Proofs.YtohopligfihopaaW.PrintLast

/-- One turn by five bits. -/
def turn5 (h : Nat) : Nat := h * 32 % 4294967296 + h / 134217728
/-- n bytes of u, the lowest first. -/
def feed : Nat → Nat → Nat → Nat
  | 0, h, _ => h
  | n + 1, h, u => feed n (turn5 h ^^^ (u % 256)) (u / 256)
def sumOf (h : Nat) (l : List Int) : Nat := l.foldl (fun h v => feed 8 h (v % 18446744073709551616).toNat) h

theorem turn5_lt {h : Nat} (hh : h < 4294967296) : turn5 h < 4294967296 := by unfold turn5; omega
theorem xor_lt {a b : Nat} (ha : a < 4294967296) (hb : b < 256) : a ^^^ b < 4294967296 := Nat.xor_lt_two_pow (n := 32) (by omega) (by omega)
theorem feed_lt : ∀ (n h u : Nat), h < 4294967296 → feed n h u < 4294967296
  | 0, _, _, hh => hh
  | n + 1, h, u, hh => feed_lt n _ _ (xor_lt (turn5_lt hh) (Nat.mod_lt _ (by decide)))
theorem sumOf_lt : ∀ (l : List Int) (h : Nat), h < 4294967296 → sumOf h l < 4294967296
  | [], _, hh => hh
  | _ :: l, h, hh => sumOf_lt l _ (feed_lt 8 h _ hh)

theorem ofNat32 (a : Nat) (ha : a < 4294967296) : (BitVec.ofInt 32 (a : Int)).toNat = a := by
  rw [BitVec.ofInt_natCast, BitVec.toNat_ofNat]; exact Nat.mod_eq_of_lt (by omega)
theorem xor32 (a b : Nat) (ha : a < 4294967296) (hb : b < 4294967296) : Go.bits .xor .u32 (a : Int) (b : Int) = ((a ^^^ b : Nat) : Int) := by
  have hx : a ^^^ b < 2 ^ 32 := Nat.xor_lt_two_pow (by omega) (by omega)
  show IntKind.u32.wrap ((BitVec.ofInt 32 (a : Int) ^^^ BitVec.ofInt 32 (b : Int)).toNat : Int) = _
  rw [BitVec.toNat_xor, ofNat32 a ha, ofNat32 b hb, IntKind.wrap_u32]
  omega
theorem or32 (a b : Nat) (ha : a < 4294967296) (hb : b < 4294967296) : Go.bits .or .u32 (a : Int) (b : Int) = ((a ||| b : Nat) : Int) := by
  have hx : a ||| b < 2 ^ 32 := Nat.or_lt_two_pow (by omega) (by omega)
  show IntKind.u32.wrap ((BitVec.ofInt 32 (a : Int) ||| BitVec.ofInt 32 (b : Int)).toNat : Int) = _
  rw [BitVec.toNat_or, ofNat32 a ha, ofNat32 b hb, IntKind.wrap_u32]
  omega
theorem or_turn {h : Nat} (hh : h < 4294967296) : (h * 32 % 4294967296) ||| (h / 134217728) = turn5 h := by
  have e : h * 32 % 4294967296 = 2 ^ 5 * (h % 134217728) := by omega
  rw [e, ← Nat.two_pow_add_eq_or_of_lt (by omega : h / 134217728 < 2 ^ 5)]
  unfold turn5; omega
theorem step_a {h u : Nat} (hh : h < 4294967296) : Go.bits .xor .u32 (Go.bits .or .u32 (((h : Int) * 32) % 4294967296) ((h : Int) / 134217728)) ((u : Int) % 256) = ((turn5 h ^^^ (u % 256) : Nat) : Int) := by
  have e1 : ((h : Int) * 32) % 4294967296 = ((h * 32 % 4294967296 : Nat) : Int) := by omega
  have e2 : (h : Int) / 134217728 = ((h / 134217728 : Nat) : Int) := by omega
  have e3 : (u : Int) % 256 = ((u % 256 : Nat) : Int) := by omega
  rw [e1, e2, e3, or32 _ _ (by omega) (by omega), or_turn hh, xor32 _ _ (turn5_lt hh) (by omega)]
theorem step_b {h u : Nat} (hh : h < 4294967296) : Go.bits .xor .u32 (((((h : Int) * 32) % 4294967296) + ((Int.tdiv (h : Int) 134217728) % 4294967296)) % 4294967296) ((Int.tmod (u : Int) 256) % 4294967296) = ((turn5 h ^^^ (u % 256) : Nat) : Int) := by
  have e2 : Int.tdiv (h : Int) 134217728 = ((h / 134217728 : Nat) : Int) := by rw [Int.tdiv_eq_ediv_of_nonneg (by omega)]; omega
  have e3 : Int.tmod (u : Int) 256 = ((u % 256 : Nat) : Int) := by rw [Int.tmod_eq_emod_of_nonneg (by omega)]; omega
  have e1 : ((((h : Int) * 32) % 4294967296) + (((h / 134217728 : Nat) : Int) % 4294967296)) % 4294967296 = ((turn5 h : Nat) : Int) := by unfold turn5; omega
  have e4 : (((u % 256 : Nat) : Int)) % 4294967296 = ((u % 256 : Nat) : Int) := by omega
  rw [e2, e3, e1, e4, xor32 _ _ (turn5_lt hh) (by omega)]

theorem seal_l1 (l : List Int) (len i : Int) : ∀ (d k h u : Nat), d ≤ 8 → h < 4294967296 →
    seal_Sum.l1 (k + d + 1) (h : Int) (u : Int) (8 - (d : Int)) l len i = seal_Sum.l0 k ((feed d h u : Nat) : Int) l len (wrap64 (i + 1))
  | 0, k, h, u, _, hh => by
    simp only [seal_Sum.l1]
    rw [if_neg (by omega)]; rfl
  | d + 1, k, h, u, hd, hh => by
    obtain ⟨m, hm⟩ : ∃ m, m = k + d + 1 := ⟨_, rfl⟩
    rw [show k + (d + 1) + 1 = m + 1 by omega]
    simp only [seal_Sum.l1]
    rw [if_pos (by omega), step_a hh, show wrap64 (8 - ((d + 1 : Nat) : Int) + 1) = 8 - (d : Int) by unfold wrap64; omega, show (u : Int) / 256 = ((u / 256 : Nat) : Int) by omega]
    rw [hm, seal_l1 l len i d k _ _ (by omega) (xor_lt (turn5_lt hh) (Nat.mod_lt _ (by decide)))]
    rfl
theorem ref_l1 (l : List Int) (i : Int) : ∀ (d k h u : Nat), d ≤ 8 → h < 4294967296 → u < 18446744073709551616 →
    foliotref1_Sum.l1 (k + d + 1) l (h : Int) i (u : Int) (8 - (d : Int)) = foliotref1_Sum.l0 k l ((feed d h u : Nat) : Int) (wrap64 (i + 1))
  | 0, k, h, u, _, hh, _ => by
    simp only [foliotref1_Sum.l1]
    rw [if_neg (by omega)]; rfl
  | d + 1, k, h, u, hd, hh, hu => by
    obtain ⟨m, hm⟩ : ∃ m, m = k + d + 1 := ⟨_, rfl⟩
    rw [show k + (d + 1) + 1 = m + 1 by omega]
    simp only [foliotref1_Sum.l1]
    have e : IntKind.u64.wrap (Int.tdiv (u : Int) 256) = ((u / 256 : Nat) : Int) := by
      rw [Int.tdiv_eq_ediv_of_nonneg (by omega), IntKind.wrap_u64]; omega
    rw [if_pos (by omega), step_b hh, show wrap64 (8 - ((d + 1 : Nat) : Int) + 1) = 8 - (d : Int) by unfold wrap64; omega, e]
    rw [hm, ref_l1 l i d k _ _ (by omega) (xor_lt (turn5_lt hh) (Nat.mod_lt _ (by decide))) (by omega)]
    rfl
theorem u64_wrap (v : Int) : IntKind.u64.wrap v = (((v % 18446744073709551616).toNat : Nat) : Int) := by
  rw [IntKind.wrap_u64]; omega
theorem rd_drop {l : List Int} {i : Nat} (h : i < l.length) : l.drop i = rd l (i : Int) :: l.drop (i + 1) := by
  rw [List.drop_eq_getElem_cons h]; simp [rd, List.getD_eq_getElem?_getD, h]
theorem seal_l0 (l : List Int) (hl : l.length ≤ 4611686018427387904) : ∀ (n k i h : Nat), i + n = l.length → h < 4294967296 →
    seal_Sum.l0 (k + 10 * n + 1) (h : Int) l (l.length : Int) (i : Int) = some ((sumOf h (l.drop i) : Nat) : Int)
  | 0, k, i, h, hi, hh => by
    simp only [seal_Sum.l0]
    rw [if_neg (by omega), List.drop_eq_nil_of_le (by omega)]; rfl
  | n + 1, k, i, h, hi, hh => by
    rw [show k + 10 * (n + 1) + 1 = ((k + 10 * n + 1) + 8 + 1) + 1 by omega]
    simp only [seal_Sum.l0]
    rw [if_pos (by omega), if_pos (by omega), if_pos (by omega), u64_wrap]
    have := seal_l1 l (l.length : Int) (i : Int) 8 (k + 10 * n + 1) h (rd l (i : Int) % 18446744073709551616).toNat (by omega) hh
    simp only [Int.reduceSub, Int.cast_ofNat_Int] at this
    rw [this, show wrap64 ((i : Int) + 1) = ((i + 1 : Nat) : Int) by unfold wrap64; omega]
    rw [seal_l0 l hl n k (i + 1) _ (by omega) (feed_lt 8 _ _ hh), rd_drop (by omega : i < l.length)]
    rfl
theorem ref_l0 (l : List Int) (hl : l.length ≤ 4611686018427387904) : ∀ (n k i h : Nat), i + n = l.length → h < 4294967296 →
    foliotref1_Sum.l0 (k + 10 * n + 1) l (h : Int) (i : Int) = some ((sumOf h (l.drop i) : Nat) : Int)
  | 0, k, i, h, hi, hh => by
    simp only [foliotref1_Sum.l0]
    rw [if_neg (by omega), List.drop_eq_nil_of_le (by omega)]; rfl
  | n + 1, k, i, h, hi, hh => by
    rw [show k + 10 * (n + 1) + 1 = ((k + 10 * n + 1) + 8 + 1) + 1 by omega]
    simp only [foliotref1_Sum.l0]
    rw [if_pos (by omega), if_pos (by omega), u64_wrap]
    have := ref_l1 l (i : Int) 8 (k + 10 * n + 1) h (rd l (i : Int) % 18446744073709551616).toNat (by omega) hh (by omega)
    simp only [Int.reduceSub, Int.cast_ofNat_Int] at this
    rw [this, show wrap64 ((i : Int) + 1) = ((i + 1 : Nat) : Int) by unfold wrap64; omega]
    rw [ref_l0 l hl n k (i + 1) _ (by omega) (feed_lt 8 _ _ hh), rd_drop (by omega : i < l.length)]
    rfl
def sm (l : List Int) : Nat := sumOf 2166136261 l
theorem seal_f (l : List Int) (hl : l.length ≤ 40) (k : Nat) (hk : 401 ≤ k) : seal_Sum.f k l = some ((sm l : Nat) : Int) := by
  unfold seal_Sum.f
  have := seal_l0 l (by omega) l.length (k - 10 * l.length - 1) 0 2166136261 (by omega) (by omega)
  rw [show k - 10 * l.length - 1 + 10 * l.length + 1 = k by omega] at this
  simpa [sm] using this
theorem ref_f (l : List Int) (hl : l.length ≤ 40) (k : Nat) (hk : 401 ≤ k) : foliotref1_Sum.f k l = some ((sm l : Nat) : Int) := by
  unfold foliotref1_Sum.f
  have := ref_l0 l (by omega) l.length (k - 10 * l.length - 1) 0 2166136261 (by omega) (by omega)
  rw [show k - 10 * l.length - 1 + 10 * l.length + 1 = k by omega] at this
  simpa [sm] using this
theorem begun_f (k : Nat) (hk : 401 ≤ k) : foliotlaw10_begun.f k = some true := by
  unfold foliotlaw10_begun.f
  rw [seal_f _ (by simp) k hk, seal_f _ (by simp) k hk, seal_f _ (by simp) k hk, ref_f _ (by simp) k hk]
  decide +kernel


theorem u8_pos {n : Int} (h : (Lit.int .u8 n).wf = true) : 0 ≤ n := by simp [Lit.wf, IntKind.min, IntKind.max, IntKind.signed, IntKind.bits] at h; omega
theorem u8_lt {n : Int} (h : (Lit.int .u8 n).wf = true) : n < 256 := by simp [Lit.wf, IntKind.min, IntKind.max, IntKind.signed, IntKind.bits] at h; omega

theorem rot_5_5_1 (A B C : Nat) (hB : B < 32) (hC : C < 4194304) : (A * 134217728 + B * 4194304 + C) * 32 % 4294967296 + (A * 134217728 + B * 4194304 + C) / 134217728 = (B * 134217728 + C * 32) + A := by
  rw [show (A * 134217728 + B * 4194304 + C) / 134217728 = A by omega, show (A * 134217728 + B * 4194304 + C) * 32 = 4294967296 * A + (B * 134217728 + C * 32) by omega, Nat.mul_add_mod, Nat.mod_eq_of_lt (show B * 134217728 + C * 32 < 4294967296 by omega)]
theorem rot_5_5_2 (A B C : Nat) (hA : A < 32) (hC : C < 4194304) : ((B * 134217728 + C * 32) + A) * 32 % 4294967296 + ((B * 134217728 + C * 32) + A) / 134217728 = (C * 1024 + A * 32) + B := by
  rw [show ((B * 134217728 + C * 32) + A) / 134217728 = B by omega, show ((B * 134217728 + C * 32) + A) * 32 = 4294967296 * B + (C * 1024 + A * 32) by omega, Nat.mul_add_mod, Nat.mod_eq_of_lt (show C * 1024 + A * 32 < 4294967296 by omega)]
theorem rot_5_5_3 (D C : Nat) (hC : C < 4194304) : (D * 4194304 + C) * 1024 % 4294967296 + (D * 4194304 + C) / 4194304 = C * 1024 + D := by
  rw [show (D * 4194304 + C) / 4194304 = D by omega, show (D * 4194304 + C) * 1024 = 4294967296 * D + C * 1024 by omega, Nat.mul_add_mod, Nat.mod_eq_of_lt (show C * 1024 < 4294967296 by omega)]
theorem rot_5_5_s (A B C : Nat) (hA : A < 32) (hB : B < 32) (hC : C < 4194304) : ((A * 134217728 + B * 4194304 + C) * 32 % 4294967296 + (A * 134217728 + B * 4194304 + C) / 134217728) * 32 % 4294967296 + ((A * 134217728 + B * 4194304 + C) * 32 % 4294967296 + (A * 134217728 + B * 4194304 + C) / 134217728) / 134217728 = (A * 134217728 + B * 4194304 + C) * 1024 % 4294967296 + (A * 134217728 + B * 4194304 + C) / 4194304 := by
  rw [rot_5_5_1 A B C hB hC, rot_5_5_2 A B C hA hC, show (A * 134217728 + B * 4194304 + C) = (A * 32 + B) * 4194304 + C by omega, rot_5_5_3 _ C hC]
  omega
theorem rot_5_5 (a : Nat) (ha : a < 4294967296) : (a * 32 % 4294967296 + a / 134217728) * 32 % 4294967296 + (a * 32 % 4294967296 + a / 134217728) / 134217728 = a * 1024 % 4294967296 + a / 4194304 := by
  have h := rot_5_5_s (a / 134217728) (a / 4194304 % 32) (a % 4194304) (by omega) (Nat.mod_lt _ (by omega)) (Nat.mod_lt _ (by omega))
  rw [show a / 134217728 * 134217728 + a / 4194304 % 32 * 4194304 + a % 4194304 = a by clear h; omega] at h
  exact h
theorem rot_10_10_1 (A B C : Nat) (hB : B < 1024) (hC : C < 4096) : (A * 4194304 + B * 4096 + C) * 1024 % 4294967296 + (A * 4194304 + B * 4096 + C) / 4194304 = (B * 4194304 + C * 1024) + A := by
  rw [show (A * 4194304 + B * 4096 + C) / 4194304 = A by omega, show (A * 4194304 + B * 4096 + C) * 1024 = 4294967296 * A + (B * 4194304 + C * 1024) by omega, Nat.mul_add_mod, Nat.mod_eq_of_lt (show B * 4194304 + C * 1024 < 4294967296 by omega)]
theorem rot_10_10_2 (A B C : Nat) (hA : A < 1024) (hC : C < 4096) : ((B * 4194304 + C * 1024) + A) * 1024 % 4294967296 + ((B * 4194304 + C * 1024) + A) / 4194304 = (C * 1048576 + A * 1024) + B := by
  rw [show ((B * 4194304 + C * 1024) + A) / 4194304 = B by omega, show ((B * 4194304 + C * 1024) + A) * 1024 = 4294967296 * B + (C * 1048576 + A * 1024) by omega, Nat.mul_add_mod, Nat.mod_eq_of_lt (show C * 1048576 + A * 1024 < 4294967296 by omega)]
theorem rot_10_10_3 (D C : Nat) (hC : C < 4096) : (D * 4096 + C) * 1048576 % 4294967296 + (D * 4096 + C) / 4096 = C * 1048576 + D := by
  rw [show (D * 4096 + C) / 4096 = D by omega, show (D * 4096 + C) * 1048576 = 4294967296 * D + C * 1048576 by omega, Nat.mul_add_mod, Nat.mod_eq_of_lt (show C * 1048576 < 4294967296 by omega)]
theorem rot_10_10_s (A B C : Nat) (hA : A < 1024) (hB : B < 1024) (hC : C < 4096) : ((A * 4194304 + B * 4096 + C) * 1024 % 4294967296 + (A * 4194304 + B * 4096 + C) / 4194304) * 1024 % 4294967296 + ((A * 4194304 + B * 4096 + C) * 1024 % 4294967296 + (A * 4194304 + B * 4096 + C) / 4194304) / 4194304 = (A * 4194304 + B * 4096 + C) * 1048576 % 4294967296 + (A * 4194304 + B * 4096 + C) / 4096 := by
  rw [rot_10_10_1 A B C hB hC, rot_10_10_2 A B C hA hC, show (A * 4194304 + B * 4096 + C) = (A * 1024 + B) * 4096 + C by omega, rot_10_10_3 _ C hC]
  omega
theorem rot_10_10 (a : Nat) (ha : a < 4294967296) : (a * 1024 % 4294967296 + a / 4194304) * 1024 % 4294967296 + (a * 1024 % 4294967296 + a / 4194304) / 4194304 = a * 1048576 % 4294967296 + a / 4096 := by
  have h := rot_10_10_s (a / 4194304) (a / 4096 % 1024) (a % 4096) (by omega) (Nat.mod_lt _ (by omega)) (Nat.mod_lt _ (by omega))
  rw [show a / 4194304 * 4194304 + a / 4096 % 1024 * 4096 + a % 4096 = a by clear h; omega] at h
  exact h
theorem rot_20_12_1 (A B C : Nat) (hB : B < 4096) (hC : C < 1) : (A * 4096 + B * 1 + C) * 1048576 % 4294967296 + (A * 4096 + B * 1 + C) / 4096 = (B * 1048576 + C * 1048576) + A := by
  rw [show (A * 4096 + B * 1 + C) / 4096 = A by omega, show (A * 4096 + B * 1 + C) * 1048576 = 4294967296 * A + (B * 1048576 + C * 1048576) by omega, Nat.mul_add_mod, Nat.mod_eq_of_lt (show B * 1048576 + C * 1048576 < 4294967296 by omega)]
theorem rot_20_12_2 (A B C : Nat) (hA : A < 1048576) (hC : C < 1) : ((B * 1048576 + C * 1048576) + A) * 4096 % 4294967296 + ((B * 1048576 + C * 1048576) + A) / 1048576 = (C * 4294967296 + A * 4096) + B := by
  rw [show ((B * 1048576 + C * 1048576) + A) / 1048576 = B by omega, show ((B * 1048576 + C * 1048576) + A) * 4096 = 4294967296 * B + (C * 4294967296 + A * 4096) by omega, Nat.mul_add_mod, Nat.mod_eq_of_lt (show C * 4294967296 + A * 4096 < 4294967296 by omega)]
theorem rot_20_12_s (A B C : Nat) (hA : A < 1048576) (hB : B < 4096) (hC : C < 1) : ((A * 4096 + B * 1 + C) * 1048576 % 4294967296 + (A * 4096 + B * 1 + C) / 4096) * 4096 % 4294967296 + ((A * 4096 + B * 1 + C) * 1048576 % 4294967296 + (A * 4096 + B * 1 + C) / 4096) / 1048576 = (A * 4096 + B * 1 + C) := by
  rw [rot_20_12_1 A B C hB hC, rot_20_12_2 A B C hA hC]
  omega
theorem rot_20_12 (a : Nat) (ha : a < 4294967296) : (a * 1048576 % 4294967296 + a / 4096) * 4096 % 4294967296 + (a * 1048576 % 4294967296 + a / 4096) / 1048576 = a := by
  have h := rot_20_12_s (a / 4096) (a / 1 % 4096) (a % 1) (by omega) (Nat.mod_lt _ (by omega)) (Nat.mod_lt _ (by omega))
  rw [show a / 4096 * 4096 + a / 1 % 4096 * 1 + a % 1 = a by clear h; omega] at h
  exact h
theorem rot_12_8_1 (A B C : Nat) (hB : B < 256) (hC : C < 4096) : (A * 1048576 + B * 4096 + C) * 4096 % 4294967296 + (A * 1048576 + B * 4096 + C) / 1048576 = (B * 16777216 + C * 4096) + A := by
  rw [show (A * 1048576 + B * 4096 + C) / 1048576 = A by omega, show (A * 1048576 + B * 4096 + C) * 4096 = 4294967296 * A + (B * 16777216 + C * 4096) by omega, Nat.mul_add_mod, Nat.mod_eq_of_lt (show B * 16777216 + C * 4096 < 4294967296 by omega)]
theorem rot_12_8_2 (A B C : Nat) (hA : A < 4096) (hC : C < 4096) : ((B * 16777216 + C * 4096) + A) * 256 % 4294967296 + ((B * 16777216 + C * 4096) + A) / 16777216 = (C * 1048576 + A * 256) + B := by
  rw [show ((B * 16777216 + C * 4096) + A) / 16777216 = B by omega, show ((B * 16777216 + C * 4096) + A) * 256 = 4294967296 * B + (C * 1048576 + A * 256) by omega, Nat.mul_add_mod, Nat.mod_eq_of_lt (show C * 1048576 + A * 256 < 4294967296 by omega)]
theorem rot_12_8_3 (D C : Nat) (hC : C < 4096) : (D * 4096 + C) * 1048576 % 4294967296 + (D * 4096 + C) / 4096 = C * 1048576 + D := by
  rw [show (D * 4096 + C) / 4096 = D by omega, show (D * 4096 + C) * 1048576 = 4294967296 * D + C * 1048576 by omega, Nat.mul_add_mod, Nat.mod_eq_of_lt (show C * 1048576 < 4294967296 by omega)]
theorem rot_12_8_s (A B C : Nat) (hA : A < 4096) (hB : B < 256) (hC : C < 4096) : ((A * 1048576 + B * 4096 + C) * 4096 % 4294967296 + (A * 1048576 + B * 4096 + C) / 1048576) * 256 % 4294967296 + ((A * 1048576 + B * 4096 + C) * 4096 % 4294967296 + (A * 1048576 + B * 4096 + C) / 1048576) / 16777216 = (A * 1048576 + B * 4096 + C) * 1048576 % 4294967296 + (A * 1048576 + B * 4096 + C) / 4096 := by
  rw [rot_12_8_1 A B C hB hC, rot_12_8_2 A B C hA hC, show (A * 1048576 + B * 4096 + C) = (A * 256 + B) * 4096 + C by omega, rot_12_8_3 _ C hC]
  omega
theorem rot_12_8 (a : Nat) (ha : a < 4294967296) : (a * 4096 % 4294967296 + a / 1048576) * 256 % 4294967296 + (a * 4096 % 4294967296 + a / 1048576) / 16777216 = a * 1048576 % 4294967296 + a / 4096 := by
  have h := rot_12_8_s (a / 1048576) (a / 4096 % 256) (a % 4096) (by omega) (Nat.mod_lt _ (by omega)) (Nat.mod_lt _ (by omega))
  rw [show a / 1048576 * 1048576 + a / 4096 % 256 * 4096 + a % 4096 = a by clear h; omega] at h
  exact h
theorem rot_8_8_1 (A B C : Nat) (hB : B < 256) (hC : C < 65536) : (A * 16777216 + B * 65536 + C) * 256 % 4294967296 + (A * 16777216 + B * 65536 + C) / 16777216 = (B * 16777216 + C * 256) + A := by
  rw [show (A * 16777216 + B * 65536 + C) / 16777216 = A by omega, show (A * 16777216 + B * 65536 + C) * 256 = 4294967296 * A + (B * 16777216 + C * 256) by omega, Nat.mul_add_mod, Nat.mod_eq_of_lt (show B * 16777216 + C * 256 < 4294967296 by omega)]
theorem rot_8_8_2 (A B C : Nat) (hA : A < 256) (hC : C < 65536) : ((B * 16777216 + C * 256) + A) * 256 % 4294967296 + ((B * 16777216 + C * 256) + A) / 16777216 = (C * 65536 + A * 256) + B := by
  rw [show ((B * 16777216 + C * 256) + A) / 16777216 = B by omega, show ((B * 16777216 + C * 256) + A) * 256 = 4294967296 * B + (C * 65536 + A * 256) by omega, Nat.mul_add_mod, Nat.mod_eq_of_lt (show C * 65536 + A * 256 < 4294967296 by omega)]
theorem rot_8_8_3 (D C : Nat) (hC : C < 65536) : (D * 65536 + C) * 65536 % 4294967296 + (D * 65536 + C) / 65536 = C * 65536 + D := by
  rw [show (D * 65536 + C) / 65536 = D by omega, show (D * 65536 + C) * 65536 = 4294967296 * D + C * 65536 by omega, Nat.mul_add_mod, Nat.mod_eq_of_lt (show C * 65536 < 4294967296 by omega)]
theorem rot_8_8_s (A B C : Nat) (hA : A < 256) (hB : B < 256) (hC : C < 65536) : ((A * 16777216 + B * 65536 + C) * 256 % 4294967296 + (A * 16777216 + B * 65536 + C) / 16777216) * 256 % 4294967296 + ((A * 16777216 + B * 65536 + C) * 256 % 4294967296 + (A * 16777216 + B * 65536 + C) / 16777216) / 16777216 = (A * 16777216 + B * 65536 + C) * 65536 % 4294967296 + (A * 16777216 + B * 65536 + C) / 65536 := by
  rw [rot_8_8_1 A B C hB hC, rot_8_8_2 A B C hA hC, show (A * 16777216 + B * 65536 + C) = (A * 256 + B) * 65536 + C by omega, rot_8_8_3 _ C hC]
  omega
theorem rot_8_8 (a : Nat) (ha : a < 4294967296) : (a * 256 % 4294967296 + a / 16777216) * 256 % 4294967296 + (a * 256 % 4294967296 + a / 16777216) / 16777216 = a * 65536 % 4294967296 + a / 65536 := by
  have h := rot_8_8_s (a / 16777216) (a / 65536 % 256) (a % 65536) (by omega) (Nat.mod_lt _ (by omega)) (Nat.mod_lt _ (by omega))
  rw [show a / 16777216 * 16777216 + a / 65536 % 256 * 65536 + a % 65536 = a by clear h; omega] at h
  exact h
theorem rot_16_8_1 (A B C : Nat) (hB : B < 256) (hC : C < 256) : (A * 65536 + B * 256 + C) * 65536 % 4294967296 + (A * 65536 + B * 256 + C) / 65536 = (B * 16777216 + C * 65536) + A := by
  rw [show (A * 65536 + B * 256 + C) / 65536 = A by omega, show (A * 65536 + B * 256 + C) * 65536 = 4294967296 * A + (B * 16777216 + C * 65536) by omega, Nat.mul_add_mod, Nat.mod_eq_of_lt (show B * 16777216 + C * 65536 < 4294967296 by omega)]
theorem rot_16_8_2 (A B C : Nat) (hA : A < 65536) (hC : C < 256) : ((B * 16777216 + C * 65536) + A) * 256 % 4294967296 + ((B * 16777216 + C * 65536) + A) / 16777216 = (C * 16777216 + A * 256) + B := by
  rw [show ((B * 16777216 + C * 65536) + A) / 16777216 = B by omega, show ((B * 16777216 + C * 65536) + A) * 256 = 4294967296 * B + (C * 16777216 + A * 256) by omega, Nat.mul_add_mod, Nat.mod_eq_of_lt (show C * 16777216 + A * 256 < 4294967296 by omega)]
theorem rot_16_8_3 (D C : Nat) (hC : C < 256) : (D * 256 + C) * 16777216 % 4294967296 + (D * 256 + C) / 256 = C * 16777216 + D := by
  rw [show (D * 256 + C) / 256 = D by omega, show (D * 256 + C) * 16777216 = 4294967296 * D + C * 16777216 by omega, Nat.mul_add_mod, Nat.mod_eq_of_lt (show C * 16777216 < 4294967296 by omega)]
theorem rot_16_8_s (A B C : Nat) (hA : A < 65536) (hB : B < 256) (hC : C < 256) : ((A * 65536 + B * 256 + C) * 65536 % 4294967296 + (A * 65536 + B * 256 + C) / 65536) * 256 % 4294967296 + ((A * 65536 + B * 256 + C) * 65536 % 4294967296 + (A * 65536 + B * 256 + C) / 65536) / 16777216 = (A * 65536 + B * 256 + C) * 16777216 % 4294967296 + (A * 65536 + B * 256 + C) / 256 := by
  rw [rot_16_8_1 A B C hB hC, rot_16_8_2 A B C hA hC, show (A * 65536 + B * 256 + C) = (A * 256 + B) * 256 + C by omega, rot_16_8_3 _ C hC]
  omega
theorem rot_16_8 (a : Nat) (ha : a < 4294967296) : (a * 65536 % 4294967296 + a / 65536) * 256 % 4294967296 + (a * 65536 % 4294967296 + a / 65536) / 16777216 = a * 16777216 % 4294967296 + a / 256 := by
  have h := rot_16_8_s (a / 65536) (a / 256 % 256) (a % 256) (by omega) (Nat.mod_lt _ (by omega)) (Nat.mod_lt _ (by omega))
  rw [show a / 65536 * 65536 + a / 256 % 256 * 256 + a % 256 = a by clear h; omega] at h
  exact h
theorem rot_24_8_1 (A B C : Nat) (hB : B < 256) (hC : C < 1) : (A * 256 + B * 1 + C) * 16777216 % 4294967296 + (A * 256 + B * 1 + C) / 256 = (B * 16777216 + C * 16777216) + A := by
  rw [show (A * 256 + B * 1 + C) / 256 = A by omega, show (A * 256 + B * 1 + C) * 16777216 = 4294967296 * A + (B * 16777216 + C * 16777216) by omega, Nat.mul_add_mod, Nat.mod_eq_of_lt (show B * 16777216 + C * 16777216 < 4294967296 by omega)]
theorem rot_24_8_2 (A B C : Nat) (hA : A < 16777216) (hC : C < 1) : ((B * 16777216 + C * 16777216) + A) * 256 % 4294967296 + ((B * 16777216 + C * 16777216) + A) / 16777216 = (C * 4294967296 + A * 256) + B := by
  rw [show ((B * 16777216 + C * 16777216) + A) / 16777216 = B by omega, show ((B * 16777216 + C * 16777216) + A) * 256 = 4294967296 * B + (C * 4294967296 + A * 256) by omega, Nat.mul_add_mod, Nat.mod_eq_of_lt (show C * 4294967296 + A * 256 < 4294967296 by omega)]
theorem rot_24_8_s (A B C : Nat) (hA : A < 16777216) (hB : B < 256) (hC : C < 1) : ((A * 256 + B * 1 + C) * 16777216 % 4294967296 + (A * 256 + B * 1 + C) / 256) * 256 % 4294967296 + ((A * 256 + B * 1 + C) * 16777216 % 4294967296 + (A * 256 + B * 1 + C) / 256) / 16777216 = (A * 256 + B * 1 + C) := by
  rw [rot_24_8_1 A B C hB hC, rot_24_8_2 A B C hA hC]
  omega
theorem rot_24_8 (a : Nat) (ha : a < 4294967296) : (a * 16777216 % 4294967296 + a / 256) * 256 % 4294967296 + (a * 16777216 % 4294967296 + a / 256) / 16777216 = a := by
  have h := rot_24_8_s (a / 256) (a / 1 % 256) (a % 1) (by omega) (Nat.mod_lt _ (by omega)) (Nat.mod_lt _ (by omega))
  rw [show a / 256 * 256 + a / 1 % 256 * 1 + a % 1 = a by clear h; omega] at h
  exact h

def rot8 (h : Nat) : Nat := h * 256 % 4294967296 + h / 16777216
theorem feed_zero {h : Nat} (hh : h < 4294967296) : feed 8 h 0 = rot8 h := by
  have r10 : ∀ a, a < 4294967296 → turn5 (turn5 a) = a * 1024 % 4294967296 + a / 4194304 := fun a ha => rot_5_5 a ha
  have r20 : ∀ a, a < 4294967296 → turn5 (turn5 (turn5 (turn5 a))) = a * 1048576 % 4294967296 + a / 4096 := fun a ha => by
    rw [r10 _ (turn5_lt (turn5_lt ha)), r10 a ha]; exact rot_10_10 a ha
  simp only [feed, Nat.zero_mod, Nat.zero_div, Nat.xor_zero]
  rw [r20 _ (turn5_lt (turn5_lt (turn5_lt (turn5_lt hh)))), r20 h hh]
  have hb : h * 1048576 % 4294967296 + h / 4096 < 4294967296 := by rw [← r20 h hh]; exact turn5_lt (turn5_lt (turn5_lt (turn5_lt hh)))
  rw [← rot_12_8 _ hb, rot_20_12 h hh]
  rfl
theorem sumOf_append (l m : List Int) (h : Nat) : sumOf h (l ++ m) = sumOf (sumOf h l) m := by simp [sumOf]
theorem sumOf_zero (h : Nat) (hh : h < 4294967296) : sumOf h [0] = rot8 h := by
  have := feed_zero hh
  simpa [sumOf] using this
theorem rot8_lt {h : Nat} (hh : h < 4294967296) : rot8 h < 4294967296 := by unfold rot8; omega
def zeros (n : Nat) : List Int := List.replicate n 0
theorem zeros_succ (n : Nat) : zeros (n + 1) = zeros n ++ [0] := by simp [zeros, List.replicate_succ']
def rots : Nat → Nat → Nat
  | 0, h => h
  | n + 1, h => rot8 (rots n h)
theorem rots_lt : ∀ (n : Nat) {h : Nat}, h < 4294967296 → rots n h < 4294967296
  | 0, _, hh => hh
  | n + 1, _, hh => rot8_lt (rots_lt n hh)
theorem sm_zeros (l : List Int) : ∀ n : Nat, sm (l ++ zeros n) = rots n (sm l)
  | 0 => by simp [zeros, rots]
  | n + 1 => by
    have hl : sm (l ++ zeros n) < 4294967296 := sumOf_lt _ _ (by omega)
    rw [zeros_succ, ← List.append_assoc]
    show sumOf _ _ = _
    rw [sumOf_append, show sumOf 2166136261 (l ++ zeros n) = sm (l ++ zeros n) from rfl, sumOf_zero _ hl, sm_zeros l n]
    rfl
theorem shl32 (a k : Nat) (hk : k ≤ 32) : shl .u32 (a : Int) (k : Int) = ((a * 2 ^ k % 4294967296 : Nat) : Int) := by
  unfold shl
  rw [show min ((k : Int)).toNat IntKind.u32.bits = k by simp [IntKind.bits]; omega, IntKind.wrap_u32]
  simp
theorem shr32 (a k : Nat) (hk : k ≤ 32) : shr .u32 (a : Int) (k : Int) = ((a / 2 ^ k : Nat) : Int) := by
  unfold shr
  rw [show min ((k : Int)).toNat IntKind.u32.bits = k by simp [IntKind.bits]; omega]
  simp
theorem or_apart {a b k : Nat} (hb : b < 2 ^ k) : (2 ^ k * a) ||| b = 2 ^ k * a + b := (Nat.two_pow_add_eq_or_of_lt hb a).symm
theorem turned (a n : Nat) (ha : a < 4294967296) (hn : n ≤ 8) : Go.bits .or .u32 (shl .u32 (a : Int) ((8 * n % 32 : Nat) : Int)) (shr .u32 (a : Int) ((32 - 8 * n % 32 : Nat) : Int)) = ((rots n a : Nat) : Int) := by
  rw [shl32 _ _ (by omega), shr32 _ _ (by omega)]
  have r2 : ∀ x, x < 4294967296 → rot8 (rot8 x) = x * 65536 % 4294967296 + x / 65536 := fun x hx => rot_8_8 x hx
  have r3 : ∀ x, x < 4294967296 → rot8 (rot8 (rot8 x)) = x * 16777216 % 4294967296 + x / 256 := fun x hx => by
    show rot8 (rot8 (rot8 x)) = _
    rw [show rot8 (rot8 x) = x * 65536 % 4294967296 + x / 65536 from r2 x hx]; exact rot_16_8 x hx
  have r4 : ∀ x, x < 4294967296 → rot8 (rot8 (rot8 (rot8 x))) = x := fun x hx => by
    rw [show rot8 (rot8 (rot8 x)) = x * 16777216 % 4294967296 + x / 256 from r3 x hx]; exact rot_24_8 x hx
  have key : ∀ k j : Nat, k + j = 32 → 0 < k → ((a * 2 ^ k % 4294967296) ||| (a / 2 ^ j)) = a * 2 ^ k % 4294967296 + a / 2 ^ j ∧ a * 2 ^ k % 4294967296 < 4294967296 ∧ a / 2 ^ j < 4294967296 := by
    intro k j hkj _
    have e : (4294967296 : Nat) = 2 ^ k * 2 ^ j := by rw [← Nat.pow_add, hkj]
    have e1 : a * 2 ^ k % 4294967296 = 2 ^ k * (a % 2 ^ j) := by rw [e, Nat.mul_comm a, Nat.mul_mod_mul_left]
    have hlt : a / 2 ^ j < 2 ^ k := Nat.div_lt_of_lt_mul (by rw [Nat.mul_comm, ← e]; exact ha)
    refine ⟨?_, Nat.mod_lt _ (by decide), Nat.lt_of_le_of_lt (Nat.div_le_self _ _) ha⟩
    rw [e1, or_apart hlt]
  have go : ∀ k j : Nat, k + j = 32 → 0 < k → Go.bits .or .u32 (((a * 2 ^ k % 4294967296 : Nat) : Int)) (((a / 2 ^ j : Nat) : Int)) = ((a * 2 ^ k % 4294967296 + a / 2 ^ j : Nat) : Int) := by
    intro k j h1 h2
    obtain ⟨e1, e2, e3⟩ := key k j h1 h2
    rw [or32 _ _ e2 e3, e1]
  have z : Go.bits .or .u32 (((a * 2 ^ 0 % 4294967296 : Nat) : Int)) (((a / 2 ^ 32 : Nat) : Int)) = ((a : Nat) : Int) := by
    rw [or32 _ _ (by omega) (by omega)]
    have e1 : a * 2 ^ 0 % 4294967296 = a := by omega
    have e2 : a / 2 ^ 32 = 0 := by omega
    rw [e1, e2, Nat.or_zero]
  have cases : n = 0 ∨ n = 1 ∨ n = 2 ∨ n = 3 ∨ n = 4 ∨ n = 5 ∨ n = 6 ∨ n = 7 ∨ n = 8 := by omega
  have g8 := go 8 24 rfl (by omega)
  have g16 := go 16 16 rfl (by omega)
  have g24 := go 24 8 rfl (by omega)
  have h1 : rot8 a = a * 256 % 4294967296 + a / 16777216 := rfl
  have h2 := r2 a ha
  have h3 := r3 a ha
  have h4 := r4 a ha
  rcases cases with rfl | rfl | rfl | rfl | rfl | rfl | rfl | rfl | rfl
  · exact z
  · exact g8
  · refine g16.trans ?_; simp only [rots]; rw [h2]
  · refine g24.trans ?_; simp only [rots]; rw [h3]
  · refine z.trans ?_; simp only [rots]; rw [h4]
  · refine g8.trans ?_; simp only [rots]; rw [h4]; rfl
  · refine g16.trans ?_; simp only [rots]; rw [h4, h2]
  · refine g24.trans ?_; simp only [rots]; rw [h4, h3]
  · refine z.trans ?_; simp only [rots]; rw [h4, h4]

theorem row_l0 (l : List Int) (hl : l.length ≤ 30) (x : Nat) (hx : x < 256) : ∀ (d k i : Nat), i + d = x % 9 → 500 ≤ k →
    foliotlaw10_SealRow.l0 (k + d) l (x : Int) (l ++ zeros i) (i : Int) = some true := by
  have ex : wrap64 (Int.tmod (x : Int) 9) = ((x % 9 : Nat) : Int) := by
    rw [Int.tmod_eq_emod_of_nonneg (by omega)]; unfold wrap64; omega
  have ek : Int.tmod (wrap64 (8 * ((x % 9 : Nat) : Int))) 32 = ((8 * (x % 9) % 32 : Nat) : Int) := by
    rw [show wrap64 (8 * ((x % 9 : Nat) : Int)) = 8 * ((x % 9 : Nat) : Int) by unfold wrap64; omega, Int.tmod_eq_emod_of_nonneg (by omega)]; omega
  intro d
  induction d with
  | zero =>
    intro k i hi hk
    obtain ⟨m, rfl⟩ : ∃ m, k = m + 1 := ⟨k - 1, by omega⟩
    simp only [foliotlaw10_SealRow.l0]
    rw [ex, if_neg (by omega), seal_f _ (by omega) _ (by omega), seal_f _ (by simp [zeros]; omega) _ (by omega), ek]
    simp only [Option.bind_some]
    rw [if_pos (by omega), show wrap64 (32 - ((8 * (x % 9) % 32 : Nat) : Int)) = ((32 - 8 * (x % 9) % 32 : Nat) : Int) by unfold wrap64; omega, if_pos (by omega)]
    rw [turned (sm l) (x % 9) (sumOf_lt _ _ (by omega)) (by omega), sm_zeros, show i = x % 9 by omega]
    simp
  | succ d ih =>
    intro k i hi hk
    obtain ⟨m, hm⟩ : ∃ m, m = k + d := ⟨_, rfl⟩
    rw [show k + (d + 1) = m + 1 by omega]
    simp only [foliotlaw10_SealRow.l0]
    rw [ex, if_pos (by omega), if_pos (by simp [zeros]; omega), List.append_assoc, ← zeros_succ, show wrap64 ((i : Int) + 1) = ((i + 1 : Nat) : Int) by unfold wrap64; omega, hm]
    exact ih k (i + 1) (by omega) hk

theorem SealRow : foliotlaw10_SealRow.Pure := by
  intro l a _ _ _ ha
  obtain ⟨x, rfl⟩ := Int.eq_ofNat_of_zero_le (u8_pos ha)
  have hx := u8_lt ha
  refine ⟨600, ?_⟩
  unfold foliotlaw10_SealRow.f
  rw [begun_f _ (by omega)]
  simp only [Option.bind_some, if_true]
  by_cases h : (l.length : Int) > 30
  · rw [if_pos h]
  · rw [if_neg h, if_pos (by simp; omega)]
    have := row_l0 l (by omega) x (by omega) (x % 9) (600 - x % 9) 0 (by omega) (by omega)
    rw [show 600 - x % 9 + x % 9 = 600 by omega] at this
    simpa [zeros] using this
end Go.Proofs.Ytohopligfihopaa.Pure
