/- The sum of seal. No conditions. -/
import Derived.Test.YtohopligfihopaaCode
import Derived.Test.YtohopligfihopaaS6
import Derived.KernelRfl
set_option linter.unusedVariables false
set_option linter.unusedSimpArgs false
namespace Go.Cd
open Go Go.Fw
/-- One turn by five bits. -/
def turn5 (h : Nat) : Nat := h * 32 % 4294967296 + h / 134217728
/-- n bytes of u, the lowest first. -/
def feed : Nat → Nat → Nat → Nat
  | 0, h, _ => h
  | n + 1, h, u => feed n (turn5 h ^^^ (u % 256)) (u / 256)
def sumOf (h : Nat) (l : List Int) : Nat := l.foldl (fun h v => feed 8 h (v % 18446744073709551616).toNat) h

theorem turn5_lt {h : Nat} (hh : h < 4294967296) : turn5 h < 4294967296 := by unfold turn5; omega
theorem xor_lt {a b : Nat} (ha : a < 4294967296) (hb : b < 256) : a ^^^ b < 4294967296 := Nat.xor_lt_two_pow (n := 32) (by omega) (by omega)
theorem feed_lt : ∀ (n h u : Nat), h < 4294967296 → feed n h u < 4294967296
  | 0, _, _, hh => hh
  | n + 1, h, u, hh => feed_lt n _ _ (xor_lt (turn5_lt hh) (Nat.mod_lt _ (by decide)))
theorem sumOf_lt : ∀ (l : List Int) (h : Nat), h < 4294967296 → sumOf h l < 4294967296
  | [], _, hh => hh
  | _ :: l, h, hh => sumOf_lt l _ (feed_lt 8 h _ hh)

theorem ofNat32 (a : Nat) (ha : a < 4294967296) : (BitVec.ofInt 32 (a : Int)).toNat = a := by
  rw [BitVec.ofInt_natCast, BitVec.toNat_ofNat]; exact Nat.mod_eq_of_lt (by omega)
theorem xor32 (a b : Nat) (ha : a < 4294967296) (hb : b < 4294967296) : Go.bits .xor .u32 (a : Int) (b : Int) = ((a ^^^ b : Nat) : Int) := by
  have hx : a ^^^ b < 2 ^ 32 := Nat.xor_lt_two_pow (by omega) (by omega)
  show IntKind.u32.wrap ((BitVec.ofInt 32 (a : Int) ^^^ BitVec.ofInt 32 (b : Int)).toNat : Int) = _
  rw [BitVec.toNat_xor, ofNat32 a ha, ofNat32 b hb, IntKind.wrap_u32]
  omega
theorem or32 (a b : Nat) (ha : a < 4294967296) (hb : b < 4294967296) : Go.bits .or .u32 (a : Int) (b : Int) = ((a ||| b : Nat) : Int) := by
  have hx : a ||| b < 2 ^ 32 := Nat.or_lt_two_pow (by omega) (by omega)
  show IntKind.u32.wrap ((BitVec.ofInt 32 (a : Int) ||| BitVec.ofInt 32 (b : Int)).toNat : Int) = _
  rw [BitVec.toNat_or, ofNat32 a ha, ofNat32 b hb, IntKind.wrap_u32]
  omega
theorem or_turn {h : Nat} (hh : h < 4294967296) : (h * 32 % 4294967296) ||| (h / 134217728) = turn5 h := by
  have e : h * 32 % 4294967296 = 2 ^ 5 * (h % 134217728) := by omega
  rw [e, ← Nat.two_pow_add_eq_or_of_lt (by omega : h / 134217728 < 2 ^ 5)]
  unfold turn5; omega
theorem step_a {h u : Nat} (hh : h < 4294967296) : Go.bits .xor .u32 (Go.bits .or .u32 (((h : Int) * 32) % 4294967296) ((h : Int) / 134217728)) ((u : Int) % 256) = ((turn5 h ^^^ (u % 256) : Nat) : Int) := by
  have e1 : ((h : Int) * 32) % 4294967296 = ((h * 32 % 4294967296 : Nat) : Int) := by omega
  have e2 : (h : Int) / 134217728 = ((h / 134217728 : Nat) : Int) := by omega
  have e3 : (u : Int) % 256 = ((u % 256 : Nat) : Int) := by omega
  rw [e1, e2, e3, or32 _ _ (by omega) (by omega), or_turn hh, xor32 _ _ (turn5_lt hh) (by omega)]
theorem step_b {h u : Nat} (hh : h < 4294967296) : Go.bits .xor .u32 (((((h : Int) * 32) % 4294967296) + ((Int.tdiv (h : Int) 134217728) % 4294967296)) % 4294967296) ((Int.tmod (u : Int) 256) % 4294967296) = ((turn5 h ^^^ (u % 256) : Nat) : Int) := by
  have e2 : Int.tdiv (h : Int) 134217728 = ((h / 134217728 : Nat) : Int) := by rw [Int.tdiv_eq_ediv_of_nonneg (by omega)]; omega
  have e3 : Int.tmod (u : Int) 256 = ((u % 256 : Nat) : Int) := by rw [Int.tmod_eq_emod_of_nonneg (by omega)]; omega
  have e1 : ((((h : Int) * 32) % 4294967296) + (((h / 134217728 : Nat) : Int) % 4294967296)) % 4294967296 = ((turn5 h : Nat) : Int) := by unfold turn5; omega
  have e4 : (((u % 256 : Nat) : Int)) % 4294967296 = ((u % 256 : Nat) : Int) := by omega
  rw [e2, e3, e1, e4, xor32 _ _ (turn5_lt hh) (by omega)]

theorem turn5_inj {a b : Nat} (ha : a < 4294967296) (hb : b < 4294967296) (h : turn5 a = turn5 b) : a = b := by
  unfold turn5 at h
  have e1 : a * 32 % 4294967296 = a % 134217728 * 32 := by omega
  have e2 : b * 32 % 4294967296 = b % 134217728 * 32 := by omega
  omega
theorem xor_inj {a b c : Nat} (h : a ^^^ c = b ^^^ c) : a = b := by
  have := congrArg (fun x => x ^^^ c) h
  simpa [Nat.xor_assoc] using this
theorem feed_apart : ∀ (n h h' u : Nat), h < 4294967296 → h' < 4294967296 → h ≠ h' → feed n h u ≠ feed n h' u
  | 0, _, _, _, _, _, hne => hne
  | n + 1, _, _, _, hh, hh', hne => feed_apart n _ _ _ (xor_lt (turn5_lt hh) (Nat.mod_lt _ (by decide))) (xor_lt (turn5_lt hh') (Nat.mod_lt _ (by decide))) (fun e => hne (turn5_inj hh hh' (xor_inj e)))
theorem feed_byte : ∀ (w n h u u' : Nat), w < n → h < 4294967296 → u % 2 ^ (8 * w) = u' % 2 ^ (8 * w) → u / 2 ^ (8 * w) % 256 ≠ u' / 2 ^ (8 * w) % 256 → u / 2 ^ (8 * w) / 256 = u' / 2 ^ (8 * w) / 256 → feed n h u ≠ feed n h u'
  | 0, n + 1, h, u, u', _, hh, _, h2, h3 => by
    simp only [Nat.mul_zero, Nat.pow_zero, Nat.div_one] at h2 h3
    simp only [feed]
    rw [h3]
    refine feed_apart n _ _ _ (xor_lt (turn5_lt hh) (Nat.mod_lt _ (by decide))) (xor_lt (turn5_lt hh) (Nat.mod_lt _ (by decide))) (fun e => h2 ?_)
    rw [Nat.xor_comm, Nat.xor_comm (turn5 h)] at e
    exact xor_inj e
  | w + 1, n + 1, h, u, u', hw, hh, h1, h2, h3 => by
    have e : 2 ^ (8 * (w + 1)) = 256 * 2 ^ (8 * w) := by rw [Nat.mul_add, Nat.pow_add]; omega
    rw [e] at h1 h2 h3
    rw [← Nat.div_div_eq_div_mul, ← Nat.div_div_eq_div_mul] at h2 h3
    have l0 : u % 256 = u' % 256 := by
      have := congrArg (· % 256) h1
      simpa [Nat.mod_mul_right_mod] using this
    have l1 : u / 256 % 2 ^ (8 * w) = u' / 256 % 2 ^ (8 * w) := by
      have := congrArg (· / 256) h1
      simpa [Nat.mod_mul_right_div_self] using this
    simp only [feed]
    rw [l0]
    exact feed_byte w n _ _ _ (by omega) (xor_lt (turn5_lt hh) (Nat.mod_lt _ (by decide))) l1 h2 h3
theorem sumOf_apart : ∀ (l : List Int) (h h' : Nat), h < 4294967296 → h' < 4294967296 → h ≠ h' → sumOf h l ≠ sumOf h' l
  | [], _, _, _, _, hne => hne
  | _ :: l, _, _, hh, hh', hne => sumOf_apart l _ _ (feed_lt 8 _ _ hh) (feed_lt 8 _ _ hh') (feed_apart 8 _ _ _ hh hh' hne)
theorem sumOf_set : ∀ (l : List Int) (i h : Nat) (x : Int), h < 4294967296 → i < l.length → (∀ g, g < 4294967296 → feed 8 g ((l.getD i 0) % 18446744073709551616).toNat ≠ feed 8 g (x % 18446744073709551616).toNat) → sumOf h (l.set i x) ≠ sumOf h l
  | v :: l, 0, h, x, hh, _, hne => by
    simp only [List.set_cons_zero]
    exact sumOf_apart l _ _ (feed_lt 8 _ _ hh) (feed_lt 8 _ _ hh) (fun e => hne h hh (by simpa using e.symm))
  | v :: l, i + 1, h, x, hh, hi, hne => by
    simp only [List.set_cons_succ]
    exact sumOf_set l i _ x (feed_lt 8 _ _ hh) (by simpa using hi) (fun g hg => by simpa using hne g hg)
theorem xor64 (x y : Int) : (Go.bits .xor .i64 x y % 18446744073709551616).toNat = (x % 18446744073709551616).toNat ^^^ (y % 18446744073709551616).toNat := by
  have e : Go.bits .xor .i64 x y = IntKind.i64.wrap ((BitVec.ofInt 64 x ^^^ BitVec.ofInt 64 y).toNat : Int) := rfl
  have hlt := (BitVec.ofInt 64 x ^^^ BitVec.ofInt 64 y).isLt
  have e2 : ((BitVec.ofInt 64 x ^^^ BitVec.ofInt 64 y).toNat) = (x % 18446744073709551616).toNat ^^^ (y % 18446744073709551616).toNat := by
    rw [BitVec.toNat_xor, BitVec.toNat_ofInt, BitVec.toNat_ofInt]; rfl
  rw [e, IntKind.wrap_i64, ← e2]
  omega
theorem step_s {h u : Nat} (hh : h < 4294967296) (hu : u < 18446744073709551616) : bits .xor .u32 (bits .or .u32 (IntKind.u32.wrap ((h : Int) * 32)) ((h : Int) / 134217728)) (IntKind.u32.wrap (IntKind.u8.wrap (u : Int))) = ((turn5 h ^^^ (u % 256) : Nat) : Int) := by
  have := step_a (u := u) hh
  rw [IntKind.wrap_u32, IntKind.wrap_u32, IntKind.wrap_u8, show (u : Int) % 256 % 4294967296 = (u : Int) % 256 by omega]
  exact this
theorem sum_L1 (nl : Bool) (l : List Int) (len i : Int) : ∀ (d h u : Nat), d ≤ 8 → h < 4294967296 → u < 18446744073709551616 → ∃ u' : Nat,
    run kp (.loop [3, 6, 7, 8, 9, 10] k_seal_Sum_L1 { env := [(3, .int .u32 h), (6, .int .u64 u), (7, .int .i64 (8 - (d : Int))), (8, .asl nl (l.map (.int .i64))), (9, .int .i64 len), (10, .int .i64 i)], hp := [], tl := fun _ => none, base := 0, next := 0 }) =
    some (.out (.ext 2) { env := [(3, .int .u32 (feed d h u : Nat)), (6, .int .u64 u'), (7, .int .i64 8), (8, .asl nl (l.map (.int .i64))), (9, .int .i64 len), (10, .int .i64 i), (17, .bool false)], hp := [], tl := fun _ => none, base := 0, next := 0 })
  | 0, h, u, _, hh, hu => by
    refine ⟨u, ?_⟩
    rw [run_round]
    simp [c_seal_Sum_L1, k_seal_Sum_L1b, feed]
  | d + 1, h, u, hd, hh, hu => by
    have lt : turn5 h ^^^ (u % 256) < 4294967296 := xor_lt (turn5_lt hh) (Nat.mod_lt _ (by decide))
    obtain ⟨u', ih⟩ := sum_L1 nl l len i d (turn5 h ^^^ (u % 256)) (u / 256) (by omega) lt (by omega)
    refine ⟨u', ?_⟩
    have e1 := step_s hh hu
    have e2 : (u : Int) / 256 = ((u / 256 : Nat) : Int) := by omega
    have k8 : (8 : Int) - ((d + 1 : Nat) : Int) < 8 := by omega
    have kw : IntKind.i64.wrap ((8 : Int) - ((d + 1 : Nat) : Int) + 1) = 8 - (d : Int) := by rw [wrap_i64 (by omega) (by omega)]; omega
    simp only [feed]
    generalize feed d (turn5 h ^^^ (u % 256)) (u / 256) = f at *
    generalize (turn5 h ^^^ (u % 256)) = h1 at *
    generalize u / 256 = u1 at *
    generalize (8 : Int) - ((d + 1 : Nat) : Int) = a at *
    generalize (8 : Int) - (d : Int) = b at *
    rw [← ih, run_round]
    simp [c_seal_Sum_L1, k_seal_Sum_L1b, k8, kw, e1, e2, IntKind.bits]
theorem sum_L0 (nl : Bool) (l : List Int) (hl : l.length ≤ 1000) : ∀ (rest pre : List Int), l = pre ++ rest → ∀ (i : Int), i = pre.length → ∀ h : Nat, h < 4294967296 →
    run kp (.loop [3, 8, 9, 10] k_seal_Sum_L0 { env := [(3, .int .u32 h), (8, .asl nl (l.map (.int .i64))), (9, .int .i64 l.length), (10, .int .i64 i)], hp := [], tl := fun _ => none, base := 0, next := 0 }) =
    some (.out (.ext 0) { env := [(3, .int .u32 (sumOf h rest : Nat)), (8, .asl nl (l.map (.int .i64))), (9, .int .i64 l.length), (10, .int .i64 l.length), (11, .bool false)], hp := [], tl := fun _ => none, base := 0, next := 0 })
  | [], pre, e, i, hi, h, hh => by
    simp at e
    subst e hi
    rw [run_round]
    simp [c_seal_Sum_L0, k_seal_Sum_L0b, sumOf]
  | x :: rest, pre, e, i, hi, h, hh => by
    have hli : i < l.length := by rw [e, hi]; simp; omega
    have h0 : 0 ≤ i := by omega
    have hget0 : l[i.toNat]? = some x := by rw [e, hi]; simp
    have hget : ∀ hh : i.toNat < l.length, l[i.toNat] = x := fun hh => by rw [List.getElem?_eq_getElem hh] at hget0; injection hget0
    have hw : IntKind.i64.wrap (i + 1) = i + 1 := wrap_i64 (by omega) (by omega)
    have ih := sum_L0 nl l hl rest (pre ++ [x]) (by simp [e]) (i + 1) (by simp [hi]) (feed 8 h (x % 18446744073709551616).toNat) (feed_lt 8 _ _ hh)
    have hs : sumOf h (x :: rest) = sumOf (feed 8 h (x % 18446744073709551616).toNat) rest := rfl
    have hu : IntKind.u64.wrap x = (((x % 18446744073709551616).toNat : Nat) : Int) := by rw [wrap_u64_mod]; omega
    have hul : (x % 18446744073709551616).toNat < 18446744073709551616 := by omega
    rw [hs]
    generalize (x % 18446744073709551616).toNat = u at *
    obtain ⟨u', l1⟩ := sum_L1 nl l l.length i 8 h u (by omega) hh hul
    simp only [Int.reduceSub, Int.cast_ofNat_Int, Int.sub_self] at l1
    rw [← ih, run_round]
    simp [c_seal_Sum_L0, k_seal_Sum_L0b, h0, hli, hget, hw, hu, l1]
def sm (l : List Int) : Nat := sumOf 2166136261 l
theorem seal_Sum (nl : Bool) (l : List Int) (hl : l.length ≤ 1000) : run kp (.data f_seal_Sum [.sl nl (l.map (.int .i64))]) = some (.ds [.int .u32 (sm l : Nat)]) := by
  rw [run_data, run_call, kp_seal_Sum]
  have h := sum_L0 nl l hl l [] rfl 0 rfl 2166136261 (by decide)
  simp only [Int.cast_ofNat_Int] at h
  simp [k_seal_Sum, h, sm]
end Go.Cd
