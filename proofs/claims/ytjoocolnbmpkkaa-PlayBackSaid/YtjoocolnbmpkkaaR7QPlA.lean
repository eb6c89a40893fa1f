/- Readers of bytes: numbers. No conditions. -/
import Derived.Test.YtjoocolnbmpkkaaR7QCodeU
set_option linter.unusedVariables false
set_option linter.unusedSimpArgs false
namespace Go.Cd
open Go Go.Fw
structure Rd where
  nl : Bool
  b : List Int
  bad : Bool
def Rd.box (r : Rd) : Blk := .box (.d (.agg [.sl r.nl (r.b.map u8d), .bool r.bad]))
def RdOk (o : Option Blk) : Prop := ∃ r : Rd, o = some r.box ∧ bytesOk r.b ∧ r.b.length ≤ 100000
theorem pow256 {a b : Nat} (h : a ≤ b) : (256 : Int) ^ a ≤ 256 ^ b := by
  have h2 := Nat.pow_le_pow_right (show 0 < 256 by decide) h
  have h3 : ((256 ^ a : Nat) : Int) ≤ ((256 ^ b : Nat) : Int) := Int.ofNat_le.2 h2
  rw [Int.natCast_pow, Int.natCast_pow] at h3
  exact h3
def be (c : List Int) : Int := c.foldl (fun v x => v * 256 + x) 0
def Rd.over (r : Rd) (n : Nat) : Bool := r.bad || decide (r.b.length < n)
def Rd.drop (r : Rd) (n : Nat) : Rd := if r.over n = true then ⟨true, [], true⟩ else ⟨r.nl, r.b.drop n, false⟩
def Rd.num (r : Rd) (n : Nat) : Int := if r.over n = true then 0 else be (r.b.take n)
theorem be_append (a : List Int) (x : Int) : be (a ++ [x]) = be a * 256 + x := by simp [be]
theorem be_range : ∀ (c : List Int), bytesOk c → 0 ≤ be c ∧ be c < 256 ^ c.length := by
  intro c hc
  have key : ∀ (l : List Int) (v : Int), bytesOk l → 0 ≤ v → 0 ≤ l.foldl (fun v x => v * 256 + x) v ∧ l.foldl (fun v x => v * 256 + x) v < (v + 1) * 256 ^ l.length := by
    intro l
    induction l with
    | nil => intro v _ hv; simp; omega
    | cons x l ih =>
      intro v hl hv
      have hx := hl x (by simp)
      have := ih (v * 256 + x) (fun y hy => hl y (by simp [hy])) (by omega)
      refine ⟨this.1, Int.lt_of_lt_of_le this.2 ?_⟩
      simp only [List.length_cons, Int.pow_succ]
      have h1 : v * 256 + x + 1 ≤ (v + 1) * 256 := by omega
      have h2 : (0 : Int) ≤ 256 ^ l.length := Int.pow_nonneg (by omega)
      have := Int.mul_le_mul_of_nonneg_right h1 h2
      rw [Int.mul_assoc, Int.mul_comm 256] at this
      exact this
  have := key c 0 hc (by omega)
  simpa [be] using this
theorem or_byte64 {m c : Int} (hm : 0 ≤ m ∧ m < 72057594037927936) (hc : 0 ≤ c ∧ c < 256) : bits .or .u64 (m * 256) c = m * 256 + c := by
  have key : bits .or .u64 (m * 256) c = IntKind.u64.wrap (((BitVec.ofInt 64 (m * 256) ||| BitVec.ofInt 64 c).toNat : Nat) : Int) := rfl
  obtain ⟨m, rfl⟩ : ∃ k : Nat, m = (k : Int) := ⟨m.toNat, by omega⟩
  obtain ⟨c, rfl⟩ : ∃ k : Nat, c = (k : Int) := ⟨c.toNat, by omega⟩
  have e1 : (BitVec.ofInt 64 ((m : Int) * 256)).toNat = 2 ^ 8 * m := by
    rw [BitVec.toNat_ofInt]
    omega
  have e2 : (BitVec.ofInt 64 (c : Int)).toNat = c := by
    rw [BitVec.toNat_ofInt]
    omega
  have e3 : (BitVec.ofInt 64 ((m : Int) * 256) ||| BitVec.ofInt 64 (c : Int)).toNat = 2 ^ 8 * m + c := by
    rw [BitVec.toNat_or, e1, e2, Nat.two_pow_add_eq_or_of_lt (by omega)]
  rw [key, e3, wrap_u64_mod]
  omega
theorem be_small {c : List Int} (hc : bytesOk c) (hl : c.length ≤ 7) : 0 ≤ be c ∧ be c < 72057594037927936 := by
  have h := be_range c hc
  have h2 : (256 : Int) ^ c.length ≤ 256 ^ 7 := pow256 hl
  have h3 : (256 : Int) ^ 7 = 72057594037927936 := by decide
  omega
/-! ### The program's -/
def numSt (h : Nat) (r : Rd) (C : V) (R : Hp) (len : Nat) (v : Int) (i : Nat) (ex : List (Nat × V)) (tl : Nat → Option Blk) (b k : Nat) : St :=
  { env := [(4, .int .u64 v), (9, C), (10, .int .i64 len), (11, .int .i64 (i : Int))] ++ ex, hp := (h, r.box) :: R, tl := tl, base := b, next := k }
set_option maxRecDepth 10000 in
set_option maxHeartbeats 4000000 in
theorem nr_loop (h : Nat) (r : Rd) (tl : Nat → Option Blk) (b : Nat) (hb : h < b) (nl : Bool) (c : List Int) (hc : bytesOk c) (hl : c.length ≤ 8) : ∀ (j i : Nat), i + j = c.length →
    run kp (.loop [4, 9, 10, 11] k_play_reader_num_L0 (numSt h r (.d (.sl nl (c.map u8d))) [] c.length (be (c.take i)) i [] tl b b)) = some (.out (.ext 0) (numSt h r (.d (.sl nl (c.map u8d))) [] c.length (be c) c.length [(12, .bool false)] tl b b))
  | 0, i, hij => by
    obtain rfl : i = c.length := by omega
    rw [run_round, List.take_length]
    simp [c_play_reader_num_L0, k_play_reader_num_L0b, numSt, Rd.box, hb]
  | j + 1, i, hij => by
    have hi : i < c.length := by omega
    have hi2 : (i : Int) < (c.length : Int) := by omega
    rw [← nr_loop h r tl b hb nl c hc hl j (i + 1) (by omega), run_round]
    obtain ⟨x, hx⟩ : ∃ x, c[i]? = some x := ⟨_, List.getElem?_eq_getElem hi⟩
    have hx2 : ∀ hh : i < c.length, c[i] = x := fun hh => by rw [List.getElem?_eq_getElem hh] at hx; injection hx
    have xo := hc x (List.mem_of_getElem? hx)
    have et : c.take (i + 1) = c.take i ++ [x] := by rw [List.take_add_one, hx]; rfl
    have bs := be_small (c := c.take i) (fun y hy => hc y (List.mem_of_mem_take hy)) (by simp; omega)
    have w : IntKind.i64.wrap ((i : Int) + 1) = ((i + 1 : Nat) : Int) := by rw [wrap_i64 (by omega) (by omega)]; omega
    have wx : IntKind.u64.wrap x = x := by rw [wrap_u64_mod]; omega
    have b8 : (2 : Int) ^ min 8 IntKind.u64.bits = 256 := by decide
    have e8 : ∀ x, u8d x = .int .u8 x := fun _ => rfl
    rw [et, be_append]
    generalize be (c.take i) = m at *
    have ws : IntKind.u64.wrap (m * 256) = m * 256 := by rw [wrap_u64_mod]; omega
    have o := or_byte64 bs xo
    generalize i + 1 = i' at *
    simp [c_play_reader_num_L0, k_play_reader_num_L0b, numSt, Rd.box, hb, hi, hi2, hx, hx2, e8, w, wx, b8, ws, o]
set_option maxRecDepth 10000 in
set_option maxHeartbeats 4000000 in
theorem nr_loop0 (h : Nat) (r : Rd) (tl : Nat → Option Blk) (b : Nat) (hb : h < b) (n : Nat) (hn : n ≤ 8) : ∀ (j i : Nat), i + j = n →
    run kp (.loop [4, 9, 10, 11] k_play_reader_num_L0 (numSt h r (.sl false b 0 n) [(b, .row true (List.replicate n (.int .u8 0)))] n 0 i [] tl b (b + 1))) = some (.out (.ext 0) (numSt h r (.sl false b 0 n) [(b, .row true (List.replicate n (.int .u8 0)))] n 0 n [(12, .bool false)] tl b (b + 1)))
  | 0, i, hij => by
    obtain rfl : i = n := by omega
    have F := natF h b hb
    rw [run_round]
    simp [c_play_reader_num_L0, k_play_reader_num_L0b, numSt, Rd.box, hb, F]
  | j + 1, i, hij => by
    have hi : i < n := by omega
    have hi2 : (i : Int) < (n : Int) := by omega
    have F := natF h b hb
    rw [← nr_loop0 h r tl b hb n hn j (i + 1) (by omega), run_round]
    have w : IntKind.i64.wrap ((i : Int) + 1) = ((i + 1 : Nat) : Int) := by rw [wrap_i64 (by omega) (by omega)]; omega
    have z : IntKind.u64.wrap 0 = 0 := by decide
    have o : bits .or .u64 0 0 = 0 := by decide
    generalize i + 1 = i' at *
    simp [c_play_reader_num_L0, k_play_reader_num_L0b, numSt, Rd.box, hb, F, gOf, hlook, hi, hi2, w, z, o]
def nrA (o : Option Blk) (h : Nat) (n b : Nat) : Option Ans := match o with
  | some (.box (.d (.agg [.sl nl l, .bool bad]))) => (let r : Rd := ⟨nl, l.map (fun x => match x with | .int _ v => v | _ => 0), bad⟩; some (.val (.int .u64 (r.num n)) [(h, (r.drop n).box)] b))
  | _ => none
theorem rd_back (b : List Int) : (b.map u8d).map (fun x => match x with | .int _ v => v | _ => 0) = b := by
  induction b with
  | nil => rfl
  | cons x b ih => simp only [List.map_cons, ih]; rfl
@[simp] theorem nrA_mk (r : Rd) (h n b : Nat) : nrA (some r.box) h n b = some (.val (.int .u64 (r.num n)) [(h, (r.drop n).box)] b) := by
  obtain ⟨nl, l, bad⟩ := r
  simp only [Rd.box, nrA, rd_back]
@[simp] theorem rdOk_mk (r : Rd) : RdOk (some r.box) ↔ bytesOk r.b ∧ r.b.length ≤ 100000 := by
  constructor
  · rintro ⟨r', e, h1, h2⟩
    have : r'.b = r.b := by
      unfold Rd.box at e
      injection e with e; injection e with e; injection e with e; injection e with e; injection e with e1 e2; injection e1 with e3 e4
      rw [← rd_back r'.b, ← rd_back r.b, e4]
    rw [this] at h1 h2
    exact ⟨h1, h2⟩
  · exact fun h => ⟨r, rfl, h⟩
theorem Rd.drop_ok {r : Rd} (n : Nat) (h : bytesOk r.b ∧ r.b.length ≤ 100000) : bytesOk (r.drop n).b ∧ (r.drop n).b.length ≤ 100000 := by
  unfold Rd.drop
  split
  · exact ⟨fun x hx => by simp at hx, by simp⟩
  · exact ⟨fun x hx => h.1 x (List.mem_of_mem_drop hx), by simp; omega⟩
set_option maxRecDepth 10000 in
set_option maxHeartbeats 8000000 in
theorem take_over (r : Rd) (n : Nat) (hn : n ≤ 100) (ho : r.over n = true) (h : Nat) (tl : Nat → Option Blk) (b : Nat) (hb : h < b) (ht : tl h = some r.box) (hr : r.b.length ≤ 100000) : run kp (.call f_play_reader_take [.ptr h [], .int .i64 n] tl b) = some (.val (.sl false b 0 n) [(h, (Rd.mk true [] true).box), (b, .row true (List.replicate n (.int .u8 0)))] (b + 1)) := by
  obtain ⟨nl, l, bad⟩ := r
  have F := natF h b hb
  have n0 : (0 : Int) ≤ n := by omega
  have n1 : (n : Int) ≤ 1073741824 := by omega
  rw [run_call, kp_play_reader_take]
  simp only [Rd.box] at ht
  cases bad with
  | true => simp [k_play_reader_take, canK_canH, ht, hb, F, gOf_below hb, gOf, hlook, Rd.box, n0, n1]
  | false =>
    have : l.length < n := by simpa [Rd.over] using ho
    have g : (l.length : Int) < (n : Int) := by omega
    simp [k_play_reader_take, canK_canH, ht, hb, F, gOf_below hb, gOf, hlook, Rd.box, n0, n1, g]
set_option maxRecDepth 10000 in
set_option maxHeartbeats 8000000 in
theorem take_fits (r : Rd) (n : Nat) (hn : n ≤ 100) (ho : r.over n = false) (h : Nat) (tl : Nat → Option Blk) (b : Nat) (hb : h < b) (ht : tl h = some r.box) (hr : r.b.length ≤ 100000) : run kp (.call f_play_reader_take [.ptr h [], .int .i64 n] tl b) = some (.val (.d (.sl r.nl ((r.b.take n).map u8d))) [(h, (Rd.mk r.nl (r.b.drop n) false).box)] b) := by
  obtain ⟨nl, l, bad⟩ := r
  have F := natF h b hb
  have hbad : bad = false := by cases bad with | false => rfl | true => simp [Rd.over] at ho
  subst hbad
  have hl : n ≤ l.length := by simpa [Rd.over] using ho
  have g : ¬ (l.length : Int) < (n : Int) := by omega
  have g2 : (n : Int) ≤ (l.length : Int) := by omega
  have em : ((l.length : Int) - (n : Int)).toNat = l.length - n := by omega
  have tk : List.take (l.length - n) (List.drop n (l.map u8d)) = List.drop n (l.map u8d) := List.take_of_length_le (by simp)
  simp only [Rd.box] at ht
  rw [run_call, kp_play_reader_take]
  simp [k_play_reader_take, canK_canH, ht, hb, F, gOf_below hb, gOf, hlook, Rd.box, g, g2, em, tk]
set_option maxRecDepth 10000 in
set_option maxHeartbeats 8000000 in
theorem nr_call (tl : Nat → Option Blk) (b h : Nat) (n : Nat) (hn : n ≤ 8) (hk : RdOk (tl h)) (hb : h < b) : run kp (.call f_play_reader_num [.ptr h [], .int .i64 n] tl b) = nrA (tl h) h n b := by
  obtain ⟨r, ht, hr, hl⟩ := hk
  have F := natF h b hb
  rw [ht, nrA_mk, run_call, kp_play_reader_num]
  cases ho : r.over n with
  | true =>
    have tc := take_over r n (by omega) ho h tl b hb ht hl
    have lp := nr_loop0 h ⟨true, [], true⟩ tl b hb n hn n 0 (by omega)
    simp only [numSt, Rd.box, List.map_nil, List.map_drop, List.append_nil, List.cons_append, List.nil_append, Int.cast_ofNat_Int] at lp
    have e1 : r.num n = 0 := by unfold Rd.num; rw [if_pos ho]
    have e2 : r.drop n = ⟨true, [], true⟩ := by unfold Rd.drop; rw [if_pos ho]
    rw [e1, e2]
    simp [k_play_reader_num, canK_canH, tc, lp, hb, F, gOf_below hb, gOf, hlook, hputs, hput, Rd.box]
  | false =>
    have tc := take_fits r n (by omega) ho h tl b hb ht hl
    have hl2 : n ≤ r.b.length := by
      have : r.bad = false ∧ n ≤ r.b.length := by simpa [Rd.over] using ho
      exact this.2
    have hlt : (r.b.take n).length = n := by simp; omega
    have lp := nr_loop h ⟨r.nl, r.b.drop n, false⟩ tl b hb r.nl (r.b.take n) (fun x hx => hr x (List.mem_of_mem_take hx)) (by omega) n 0 (by omega)
    rw [hlt] at lp
    have b0 : be (List.take 0 (r.b.take n)) = 0 := rfl
    rw [b0] at lp
    simp only [numSt, Rd.box, List.map_nil, List.map_drop, List.append_nil, List.cons_append, List.nil_append, Int.cast_ofNat_Int] at lp
    have e1 : r.num n = be (r.b.take n) := by unfold Rd.num; rw [if_neg (by simp [ho])]
    have e2 : r.drop n = ⟨r.nl, r.b.drop n, false⟩ := by unfold Rd.drop; rw [if_neg (by simp [ho])]
    have hlti : ((r.b.take n).length : Int) = (n : Int) := by omega
    have mn : min n r.b.length = n := by omega
    rw [e1, e2]
    generalize r.b.take n = C at *
    simp [k_play_reader_num, canK_canH, tc, lp, hb, F, gOf_below hb, gOf, hlook, hlti, hlt, mn, Rd.box]
set_option maxRecDepth 10000 in
theorem nr_one (tl : Nat → Option Blk) (b h : Nat) (hk : RdOk (tl h)) (hb : h < b) : ∀ r : Rd, tl h = some r.box → run kp (.call f_play_reader_one [.ptr h []] tl b) = some (.val (.int .i64 (r.num 1)) [(h, (r.drop 1).box)] b) := by
  intro r ht
  have nc := nr_call tl b h 1 (by omega) hk hb
  rw [ht, nrA_mk] at nc
  simp only [Int.natCast_one] at nc
  have F := natF h b hb
  obtain ⟨r', e, hr, hl⟩ := hk
  have hr1 : bytesOk r.b := (rdOk_mk r).1 (by rw [← ht, e]; exact ⟨r', rfl, hr, hl⟩) |>.1
  have rg : 0 ≤ r.num 1 ∧ r.num 1 < 256 := by
    unfold Rd.num
    split
    · omega
    · have := be_range (r.b.take 1) (fun x hx => hr1 x (List.mem_of_mem_take hx))
      have h2 : (256 : Int) ^ (r.b.take 1).length ≤ 256 ^ 1 := pow256 (by simp; omega)
      omega
  have w : IntKind.i64.wrap (r.num 1) = r.num 1 := wrap_i64 (by omega) (by omega)
  rw [run_call, kp_play_reader_one]
  simp [k_play_reader_one, canK_canH, nc, hb, F, gOf_below hb, gOf, hlook, w, Rd.box]
/-! ### The document's -/
def Rd.rdrop (r : Rd) (n : Nat) : Rd := if r.over n = true then ⟨r.nl, r.b, true⟩ else ⟨r.nl, r.b.drop n, false⟩
def rnumA (o : Option Blk) (h : Nat) (n b : Nat) : Option Ans := match o with
  | some (.box (.d (.agg [.sl nl l, .bool bad]))) => (let r : Rd := ⟨nl, l.map (fun x => match x with | .int _ v => v | _ => 0), bad⟩; some (.val (.int .u64 (r.num n)) (if r.bad = true ∧ ¬ r.b.length < n then [] else [(h, (r.rdrop n).box)]) b))
  | _ => none
theorem rnumA_mk (r : Rd) (h n b : Nat) : rnumA (some r.box) h n b = some (.val (.int .u64 (r.num n)) (if r.bad = true ∧ ¬ r.b.length < n then [] else [(h, (r.rdrop n).box)]) b) := by
  obtain ⟨nl, l, bad⟩ := r
  simp only [Rd.box, rnumA, rd_back]
def rnumSt (h n : Nat) (v : Int) (i : Nat) (ex : List (Nat × V)) (tl : Nat → Option Blk) (b : Nat) : St :=
  { env := [(0, .ptr h []), (1, .int .i64 n), (5, .int .u64 v), (6, .int .i64 (i : Int))] ++ ex, hp := [], tl := tl, base := b, next := b }
set_option maxRecDepth 10000 in
set_option maxHeartbeats 4000000 in
theorem rnum_loop (h : Nat) (r : Rd) (tl : Nat → Option Blk) (b : Nat) (hb : h < b) (ht : tl h = some r.box) (hr : bytesOk r.b) (n : Nat) (hn : n ≤ 8) (hl : n ≤ r.b.length) : ∀ (j i : Nat), i + j = n →
    run kp (.loop [0, 1, 5, 6] k_ref27_reader_num_L0 (rnumSt h n (be (r.b.take i)) i [] tl b)) = some (.out (.ext 0) (rnumSt h n (be (r.b.take n)) n [(23, .bool false)] tl b))
  | 0, i, hij => by
    obtain rfl : i = n := by omega
    rw [run_round]
    simp [c_ref27_reader_num_L0, k_ref27_reader_num_L0b, rnumSt, Rd.box, hb]
  | j + 1, i, hij => by
    have hi : i < r.b.length := by omega
    have hi2 : (i : Int) < (n : Int) := by omega
    rw [← rnum_loop h r tl b hb ht hr n hn hl j (i + 1) (by omega), run_round]
    obtain ⟨x, hx⟩ : ∃ x, r.b[i]? = some x := ⟨_, List.getElem?_eq_getElem hi⟩
    have hx2 : ∀ hh : i < r.b.length, r.b[i] = x := fun hh => by rw [List.getElem?_eq_getElem hh] at hx; injection hx
    have xo := hr x (List.mem_of_getElem? hx)
    have et : r.b.take (i + 1) = r.b.take i ++ [x] := by rw [List.take_add_one, hx]; rfl
    have bs := be_small (c := r.b.take i) (fun y hy => hr y (List.mem_of_mem_take hy)) (by simp; omega)
    have w : IntKind.i64.wrap ((i : Int) + 1) = ((i + 1 : Nat) : Int) := by rw [wrap_i64 (by omega) (by omega)]; omega
    have wx : IntKind.u64.wrap x = x := by rw [wrap_u64_mod]; omega
    have e8 : ∀ x, u8d x = .int .u8 x := fun _ => rfl
    obtain ⟨nl, l, bad⟩ := r
    simp only [Rd.box] at ht
    simp only at hi hx hx2 xo et bs
    simp only [et, be_append]
    generalize be (l.take i) = m at *
    have ws : IntKind.u64.wrap (m * 256) = m * 256 := by rw [wrap_u64_mod]; omega
    have wa : IntKind.u64.wrap (m * 256 + x) = m * 256 + x := by rw [wrap_u64_mod]; omega
    generalize i + 1 = i' at *
    simp [c_ref27_reader_num_L0, k_ref27_reader_num_L0b, rnumSt, Rd.box, hb, gOf_below hb, gOf, hlook, ht, hi, hi2, hx, hx2, e8, w, wx, ws, wa]
set_option maxRecDepth 10000 in
set_option maxHeartbeats 8000000 in
theorem rnum_call (tl : Nat → Option Blk) (b h : Nat) (n : Nat) (hn : n ≤ 8) (hk : RdOk (tl h)) (hb : h < b) : run kp (.call f_ref27_reader_num [.ptr h [], .int .i64 n] tl b) = rnumA (tl h) h n b := by
  obtain ⟨r, ht, hr, hl⟩ := hk
  have F := natF h b hb
  rw [ht, rnumA_mk, run_call, kp_ref27_reader_num]
  have lp := fun h1 => rnum_loop h r tl b hb ht hr n hn h1 n 0 (by omega)
  have b0 : be (List.take 0 r.b) = 0 := rfl
  rw [b0] at lp
  simp only [rnumSt, List.append_nil, List.cons_append, List.nil_append, Int.cast_ofNat_Int] at lp
  obtain ⟨nl, l, bad⟩ := r
  simp only [Rd.box] at ht
  simp only at hl lp
  unfold Rd.num Rd.rdrop Rd.over
  simp only
  cases bad with
  | true =>
    by_cases g : l.length < n
    · have g2 : (l.length : Int) < (n : Int) := by omega
      simp [k_ref27_reader_num, canK_canH, ht, hb, F, gOf_below hb, gOf, hlook, g, g2, Rd.box]
    · have g2 : ¬ (l.length : Int) < (n : Int) := by omega
      simp [k_ref27_reader_num, canK_canH, ht, hb, F, gOf_below hb, gOf, hlook, g, g2, Rd.box]
  | false =>
    by_cases g : l.length < n
    · have g2 : (l.length : Int) < (n : Int) := by omega
      simp [k_ref27_reader_num, canK_canH, ht, hb, F, gOf_below hb, gOf, hlook, g, g2, Rd.box]
    · have g2 : ¬ (l.length : Int) < (n : Int) := by omega
      have g3 : (n : Int) ≤ (l.length : Int) := by omega
      have em : ((l.length : Int) - (n : Int)).toNat = l.length - n := by omega
      have tk : List.take (l.length - n) (List.drop n (l.map u8d)) = List.drop n (l.map u8d) := List.take_of_length_le (by simp)
      have lp := lp (by omega)
      generalize l.take n = C at *
      simp [k_ref27_reader_num, canK_canH, ht, hb, F, gOf_below hb, gOf, hlook, g, g2, g3, em, tk, lp, Rd.box]
end Go.Cd
