/- Choices out of numbers: programs of any instructions that may be. No conditions. -/
import Derived.Test.YtjoocolnbmpkkaaR7QPk2b
set_option linter.unusedVariables false
set_option linter.unusedSimpArgs false
namespace Go.Cd
open Go Go.Fw
def wildI (L : List D) (n : Int) : Inst :=
  let n1 := plainN L n
  let c := valN L n1 9
  let n2 := nextN L n1
  if c = 0 then ⟨7, valN L n2 3, 0, IntKind.i64.wrap (1 + valN L (nextN L n2) 5)⟩
  else if c = 1 then ⟨8, 0, IntKind.i64.wrap (1 + valN L n2 5), IntKind.i64.wrap (1 + valN L (nextN L n2) 3)⟩
  else if c = 2 then ⟨9, valN L n2 2, 0, 0⟩
  else if c = 3 then ⟨9, valN L n2 2, 0, 0⟩
  else if c = 4 then ⟨10, valN L n2 2, 0, 0⟩
  else if c = 5 then ⟨10, valN L n2 2, 0, 0⟩
  else if c = 6 then ⟨11, 0, 0, 0⟩
  else plainI L n
def wildN (L : List D) (n : Int) : Int :=
  let n1 := plainN L n
  let c := valN L n1 9
  let n2 := nextN L n1
  if c = 0 then nextN L (nextN L n2)
  else if c = 1 then nextN L (nextN L n2)
  else if c = 2 then nextN L n2
  else if c = 3 then nextN L n2
  else if c = 4 then nextN L n2
  else if c = 5 then nextN L n2
  else n2
theorem wildN_ok {L : List D} {n : Int} (h : NumOk L n) : NumOk L (wildN L n) := by
  have h1 := nextN_ok (plainN_ok h)
  unfold wildN
  simp only
  repeat' split
  all_goals first | exact h1 | exact nextN_ok h1 | exact nextN_ok (nextN_ok h1)
def wildRow (L : List D) : Nat → Int → List Inst
  | 0, _ => []
  | i + 1, n => wildI L n :: wildRow L i (wildN L n)
def wildEnd (L : List D) : Nat → Int → Int
  | 0, n => n
  | i + 1, n => wildEnd L i (wildN L n)
theorem wildEnd_ok {L : List D} : ∀ {i : Nat} {n : Int}, NumOk L n → NumOk L (wildEnd L i n)
  | 0, _, h => h
  | i + 1, n, h => by
    unfold wildEnd
    exact wildEnd_ok (wildN_ok h)
def wildSt (nl : Bool) (L : List D) (n : Int) (h : Nat) (acc : List Inst) (i : Nat) (ex : List (Nat × V)) (tl : Nat → Option Blk) (b : Nat) : St :=
  { env := [(0, .ptr h []), (3, aV b acc), (4, .int .i64 (i : Int))] ++ ex, hp := (h, .box (.d (.agg [.sl nl L, .int .i64 n]))) :: aH b acc, tl := tl, base := b, next := b + aN acc }
set_option maxRecDepth 10000 in
set_option maxHeartbeats 16000000 in
theorem wild_round (nl : Bool) (L : List D) (n : Int) (ho : NumOk L n) (h : Nat) (acc : List Inst) (i : Nat) (tl : Nat → Option Blk) (b : Nat) (hb : h < b) (hl : acc.length ≤ 1000) (hi : i ≤ 1000) :
    run kp (.loop [0, 3, 4] k_play_Picks_Wild_L0 (wildSt nl L n h acc (i + 1) [] tl b)) = run kp (.loop [0, 3, 4] k_play_Picks_Wild_L0 (wildSt nl L (wildN L n) h (acc ++ [wildI L n]) i [] tl b)) := by
  have o1 := plainN_ok ho
  have o2 := nextN_ok o1
  have o3 := nextN_ok o2
  have c0 := keep_plain L n
  have c1 := keep_next L (plainN L n)
  have c2 := keep_next L (nextN L (plainN L n))
  have c3 := keep_next L (nextN L (nextN L (plainN L n)))
  have w : IntKind.i64.wrap (((i + 1 : Nat) : Int) - 1) = (i : Int) := by rw [wrap_i64 (by omega) (by omega)]; omega
  have p : (0 : Int) < ((i + 1 : Nat) : Int) := by omega
  have F := natF h b hb
  have w' : IntKind.i64.wrap (i : Int) = (i : Int) := wrap_i64 (by omega) (by omega)
  have p' : (0 : Int) < (i : Int) + 1 := by omega
  have hl2 : acc.length ≤ 1073741823 := by omega
  rw [run_round]
  unfold wildI wildN
  simp only
  cases acc with
  | nil =>
    by_cases h0 : valN L (plainN L n) 9 = 0
    · simp [c_play_Picks_Wild_L0, k_play_Picks_Wild_L0b, wildSt, aV, aH, aN, num_call, plain_call, wr_in, hb, F, gOf_below hb, gOf, hlook, ho, o1, o2, o3, c0, c1, c2, c3, w', p', Inst.v, Inst.d, h0]
    by_cases h1 : valN L (plainN L n) 9 = 1
    · simp [c_play_Picks_Wild_L0, k_play_Picks_Wild_L0b, wildSt, aV, aH, aN, num_call, plain_call, wr_in, hb, F, gOf_below hb, gOf, hlook, ho, o1, o2, o3, c0, c1, c2, c3, w', p', Inst.v, Inst.d, h0, h1]
    by_cases h2 : valN L (plainN L n) 9 = 2
    · simp [c_play_Picks_Wild_L0, k_play_Picks_Wild_L0b, wildSt, aV, aH, aN, num_call, plain_call, wr_in, hb, F, gOf_below hb, gOf, hlook, ho, o1, o2, o3, c0, c1, c2, c3, w', p', Inst.v, Inst.d, h0, h1, h2]
    by_cases h3 : valN L (plainN L n) 9 = 3
    · simp [c_play_Picks_Wild_L0, k_play_Picks_Wild_L0b, wildSt, aV, aH, aN, num_call, plain_call, wr_in, hb, F, gOf_below hb, gOf, hlook, ho, o1, o2, o3, c0, c1, c2, c3, w', p', Inst.v, Inst.d, h0, h1, h2, h3]
    by_cases h4 : valN L (plainN L n) 9 = 4
    · simp [c_play_Picks_Wild_L0, k_play_Picks_Wild_L0b, wildSt, aV, aH, aN, num_call, plain_call, wr_in, hb, F, gOf_below hb, gOf, hlook, ho, o1, o2, o3, c0, c1, c2, c3, w', p', Inst.v, Inst.d, h0, h1, h2, h3, h4]
    by_cases h5 : valN L (plainN L n) 9 = 5
    · simp [c_play_Picks_Wild_L0, k_play_Picks_Wild_L0b, wildSt, aV, aH, aN, num_call, plain_call, wr_in, hb, F, gOf_below hb, gOf, hlook, ho, o1, o2, o3, c0, c1, c2, c3, w', p', Inst.v, Inst.d, h0, h1, h2, h3, h4, h5]
    by_cases h6 : valN L (plainN L n) 9 = 6
    · simp [c_play_Picks_Wild_L0, k_play_Picks_Wild_L0b, wildSt, aV, aH, aN, num_call, plain_call, wr_in, hb, F, gOf_below hb, gOf, hlook, ho, o1, o2, o3, c0, c1, c2, c3, w', p', Inst.v, Inst.d, h0, h1, h2, h3, h4, h5, h6]
    simp [c_play_Picks_Wild_L0, k_play_Picks_Wild_L0b, wildSt, aV, aH, aN, num_call, plain_call, wr_in, hb, F, gOf_below hb, gOf, hlook, ho, o1, o2, o3, c0, c1, c2, c3, w', p', Inst.v, Inst.d, h0, h1, h2, h3, h4, h5, h6]
  | cons x acc =>
    simp only [List.length_cons] at hl hl2
    have q1 : acc.length ≤ 1073741822 := by omega
    by_cases h0 : valN L (plainN L n) 9 = 0
    · simp [c_play_Picks_Wild_L0, k_play_Picks_Wild_L0b, wildSt, aV, aH, aN, num_call, plain_call, wr_in, hb, F, gOf_below hb, gOf, hlook, ho, o1, o2, o3, c0, c1, c2, c3, w', p', hl2, q1, take_map_lenP, Inst.v, Inst.d, h0]
    by_cases h1 : valN L (plainN L n) 9 = 1
    · simp [c_play_Picks_Wild_L0, k_play_Picks_Wild_L0b, wildSt, aV, aH, aN, num_call, plain_call, wr_in, hb, F, gOf_below hb, gOf, hlook, ho, o1, o2, o3, c0, c1, c2, c3, w', p', hl2, q1, take_map_lenP, Inst.v, Inst.d, h0, h1]
    by_cases h2 : valN L (plainN L n) 9 = 2
    · simp [c_play_Picks_Wild_L0, k_play_Picks_Wild_L0b, wildSt, aV, aH, aN, num_call, plain_call, wr_in, hb, F, gOf_below hb, gOf, hlook, ho, o1, o2, o3, c0, c1, c2, c3, w', p', hl2, q1, take_map_lenP, Inst.v, Inst.d, h0, h1, h2]
    by_cases h3 : valN L (plainN L n) 9 = 3
    · simp [c_play_Picks_Wild_L0, k_play_Picks_Wild_L0b, wildSt, aV, aH, aN, num_call, plain_call, wr_in, hb, F, gOf_below hb, gOf, hlook, ho, o1, o2, o3, c0, c1, c2, c3, w', p', hl2, q1, take_map_lenP, Inst.v, Inst.d, h0, h1, h2, h3]
    by_cases h4 : valN L (plainN L n) 9 = 4
    · simp [c_play_Picks_Wild_L0, k_play_Picks_Wild_L0b, wildSt, aV, aH, aN, num_call, plain_call, wr_in, hb, F, gOf_below hb, gOf, hlook, ho, o1, o2, o3, c0, c1, c2, c3, w', p', hl2, q1, take_map_lenP, Inst.v, Inst.d, h0, h1, h2, h3, h4]
    by_cases h5 : valN L (plainN L n) 9 = 5
    · simp [c_play_Picks_Wild_L0, k_play_Picks_Wild_L0b, wildSt, aV, aH, aN, num_call, plain_call, wr_in, hb, F, gOf_below hb, gOf, hlook, ho, o1, o2, o3, c0, c1, c2, c3, w', p', hl2, q1, take_map_lenP, Inst.v, Inst.d, h0, h1, h2, h3, h4, h5]
    by_cases h6 : valN L (plainN L n) 9 = 6
    · simp [c_play_Picks_Wild_L0, k_play_Picks_Wild_L0b, wildSt, aV, aH, aN, num_call, plain_call, wr_in, hb, F, gOf_below hb, gOf, hlook, ho, o1, o2, o3, c0, c1, c2, c3, w', p', hl2, q1, take_map_lenP, Inst.v, Inst.d, h0, h1, h2, h3, h4, h5, h6]
    simp [c_play_Picks_Wild_L0, k_play_Picks_Wild_L0b, wildSt, aV, aH, aN, num_call, plain_call, wr_in, hb, F, gOf_below hb, gOf, hlook, ho, o1, o2, o3, c0, c1, c2, c3, w', p', hl2, q1, take_map_lenP, Inst.v, Inst.d, h0, h1, h2, h3, h4, h5, h6]
set_option maxRecDepth 10000 in
theorem wild_loop (nl : Bool) (L : List D) (h : Nat) (tl : Nat → Option Blk) (b : Nat) (hb : h < b) : ∀ (i : Nat) (n : Int) (acc : List Inst), NumOk L n → acc.length + i ≤ 1000 →
    run kp (.loop [0, 3, 4] k_play_Picks_Wild_L0 (wildSt nl L n h acc i [] tl b)) = some (.out (.ext 0) (wildSt nl L (wildEnd L i n) h (acc ++ wildRow L i n) 0 [(9, .bool false)] tl b))
  | 0, n, acc, ho, hl => by
    have F := natF h b hb
    rw [run_round]
    cases acc with
    | nil => simp [c_play_Picks_Wild_L0, k_play_Picks_Wild_L0b, wildSt, aV, aH, aN, wildEnd, wildRow, F]
    | cons x acc => simp [c_play_Picks_Wild_L0, k_play_Picks_Wild_L0b, wildSt, aV, aH, aN, wildEnd, wildRow, F, gOf, hlook]
  | i + 1, n, acc, ho, hl => by
    rw [wild_round nl L n ho h acc i tl b hb (by omega) (by omega), wild_loop nl L h tl b hb i (wildN L n) (acc ++ [wildI L n]) (wildN_ok ho) (by simp; omega)]
    rw [List.append_assoc]
    rfl
theorem keep_wild (L : List D) (n : Int) : KeepN L n (wildN L n) := fun h => by
  have e : plainN L n = n := keep_plain L n h
  unfold wildN
  simp [e, nextN_off h]
theorem keep_wildEnd (L : List D) : ∀ (i : Nat) (n : Int), KeepN L n (wildEnd L i n)
  | 0, _ => fun _ => rfl
  | i + 1, n => fun h => by
    unfold wildEnd
    rw [keep_wild L n h]
    exact keep_wildEnd L i n h
/-- What Wild makes, and which number is next. -/
def wildL (L : List D) (n : Int) : List Inst := wildRow L (valN L n 12).toNat (nextN L n) ++ [endI]
def wildNx (L : List D) (n : Int) : Int := wildEnd L (valN L n 12).toNat (nextN L n)
theorem wildRow_len (L : List D) : ∀ (i : Nat) (n : Int), (wildRow L i n).length = i
  | 0, _ => rfl
  | i + 1, n => by simp [wildRow, wildRow_len L i]
def wildA (o : Option Blk) (h : Nat) (b : Nat) : Option Ans := match o with
  | some (.box (.d (.agg [.sl nl L, .int .i64 n]))) => some (.val (.sl false b 0 (wildL L n).length) (wr nl L n h (wildNx L n) ++ [(b, .row true ((wildL L n).map Inst.d))]) (b + 1))
  | _ => none
@[simp] theorem wildA_mk (nl : Bool) (L : List D) (n : Int) (h : Nat) (b : Nat) : wildA (some (.box (.d (.agg [.sl nl L, .int .i64 n])))) h b = some (.val (.sl false b 0 (wildL L n).length) (wr nl L n h (wildNx L n) ++ [(b, .row true ((wildL L n).map Inst.d))]) (b + 1)) := rfl
set_option maxRecDepth 10000 in
set_option maxHeartbeats 8000000 in
theorem wild_call (tl : Nat → Option Blk) (b h : Nat) (hk : PkOk (tl h)) (hb : h < b) : run kp (.call f_play_Picks_Wild [.ptr h []] tl b) = wildA (tl h) h b := by
  obtain ⟨nl, L, n, ht, ho⟩ := hk
  rw [ht, wildA_mk, run_call, kp_play_Picks_Wild]
  have o1 := nextN_ok ho
  have F := natF h b hb
  by_cases hlt : n < L.length
  · have r := valN_range (m := 12) ho (by omega)
    have lp := wild_loop nl L h tl b hb (valN L n 12).toNat (nextN L n) [] o1 (by simp; omega)
    have len := wildRow_len L (valN L n 12).toNat (nextN L n)
    rw [wr_on hlt]
    unfold wildL wildNx
    obtain ⟨k, hk⟩ : ∃ k : Nat, valN L n 12 = (k : Int) := ⟨(valN L n 12).toNat, by omega⟩
    rw [hk] at lp len r
    simp only [Int.toNat_natCast] at lp len
    simp only [hk, Int.toNat_natCast]
    generalize wildRow L k (nextN L n) = R at *
    generalize wildEnd L k (nextN L n) = E at *
    have hR : R.length ≤ 1000 := by omega
    cases R with
    | nil =>
      simp only [wildSt, aV, aH, aN, List.append_nil, List.nil_append, List.cons_append, Nat.add_zero] at lp
      simp [k_play_Picks_Wild, canK_canH, num_call, wr_in, wr_on, ht, hb, F, gOf_below hb, gOf, hlook, ho, o1, hlt, hk, lp, endI, Inst.d]
    | cons x R =>
      simp only [List.length_cons] at hR
      have q1 : R.length ≤ 1073741822 := by omega
      have q2 : R.length + 1 ≤ 1073741823 := by omega
      simp only [wildSt, aV, aH, aN, List.append_nil, List.nil_append, List.cons_append, Nat.add_zero] at lp
      simp [k_play_Picks_Wild, canK_canH, num_call, wr_in, wr_on, ht, hb, F, gOf_below hb, gOf, hlook, ho, o1, hlt, hk, lp, endI, Inst.d, q1, q2, take_map_lenP]
  · have hv := valN_off (m := 12) hlt
    rw [wr_off hlt]
    unfold wildL
    have lp : run kp (.loop [0, 3, 4] k_play_Picks_Wild_L0 { env := [(0, .ptr h []), (3, .d (.sl true [])), (4, .int .i64 0)], hp := [], tl := tl, base := b, next := b }) = some (.out (.ext 0) { env := [(0, .ptr h []), (3, .d (.sl true [])), (4, .int .i64 0), (9, .bool false)], hp := [], tl := tl, base := b, next := b }) := by
      rw [run_round]
      simp [c_play_Picks_Wild_L0, k_play_Picks_Wild_L0b, F]
    simp only [hv, Int.toNat_zero, wildRow, nextN_off hlt, List.nil_append]
    simp [k_play_Picks_Wild, canK_canH, num_call, wr_off hlt, hv, ht, hb, F, gOf_below hb, gOf, hlook, ho, lp, endI, Inst.d]
theorem keep_wildNx (L : List D) (n : Int) : KeepN L n (wildNx L n) := fun h => by
  unfold wildNx
  rw [nextN_off h]
  exact keep_wildEnd L _ n h
end Go.Cd
