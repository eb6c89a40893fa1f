/- Choices out of numbers: pieces of programs. No conditions. -/
import Derived.Test.YtgjeondicdipaaaR9QPk2b
set_option linter.unusedVariables false
set_option linter.unusedSimpArgs false
namespace Go.Cd
open Go Go.Fw
theorem natF8 (h b : Nat) (hb : h < b) : (¬ b = b + 1) ∧ (¬ b + 1 = b) ∧ (¬ b = b + 1 + 1) ∧ (¬ b + 1 + 1 = b) ∧ (¬ b = b + 1 + 1 + 1) ∧ (¬ b + 1 + 1 + 1 = b) ∧ (¬ b = b + 1 + 1 + 1 + 1) ∧ (¬ b + 1 + 1 + 1 + 1 = b) ∧ (¬ b = b + 1 + 1 + 1 + 1 + 1) ∧ (¬ b + 1 + 1 + 1 + 1 + 1 = b) ∧ (¬ b = b + 1 + 1 + 1 + 1 + 1 + 1) ∧ (¬ b + 1 + 1 + 1 + 1 + 1 + 1 = b) ∧ (¬ b = b + 1 + 1 + 1 + 1 + 1 + 1 + 1) ∧ (¬ b + 1 + 1 + 1 + 1 + 1 + 1 + 1 = b) ∧ (¬ b < h) ∧ (¬ b = h) ∧ (¬ h = b) ∧ (h < b) ∧ (¬ b + 1 = b + 1 + 1) ∧ (¬ b + 1 + 1 = b + 1) ∧ (¬ b + 1 = b + 1 + 1 + 1) ∧ (¬ b + 1 + 1 + 1 = b + 1) ∧ (¬ b + 1 = b + 1 + 1 + 1 + 1) ∧ (¬ b + 1 + 1 + 1 + 1 = b + 1) ∧ (¬ b + 1 = b + 1 + 1 + 1 + 1 + 1) ∧ (¬ b + 1 + 1 + 1 + 1 + 1 = b + 1) ∧ (¬ b + 1 = b + 1 + 1 + 1 + 1 + 1 + 1) ∧ (¬ b + 1 + 1 + 1 + 1 + 1 + 1 = b + 1) ∧ (¬ b + 1 = b + 1 + 1 + 1 + 1 + 1 + 1 + 1) ∧ (¬ b + 1 + 1 + 1 + 1 + 1 + 1 + 1 = b + 1) ∧ (b < b + 1) ∧ (¬ b + 1 < b) ∧ (¬ b + 1 < h) ∧ (¬ b + 1 = h) ∧ (¬ h = b + 1) ∧ (h < b + 1) ∧ (¬ b + 1 + 1 = b + 1 + 1 + 1) ∧ (¬ b + 1 + 1 + 1 = b + 1 + 1) ∧ (¬ b + 1 + 1 = b + 1 + 1 + 1 + 1) ∧ (¬ b + 1 + 1 + 1 + 1 = b + 1 + 1) ∧ (¬ b + 1 + 1 = b + 1 + 1 + 1 + 1 + 1) ∧ (¬ b + 1 + 1 + 1 + 1 + 1 = b + 1 + 1) ∧ (¬ b + 1 + 1 = b + 1 + 1 + 1 + 1 + 1 + 1) ∧ (¬ b + 1 + 1 + 1 + 1 + 1 + 1 = b + 1 + 1) ∧ (¬ b + 1 + 1 = b + 1 + 1 + 1 + 1 + 1 + 1 + 1) ∧ (¬ b + 1 + 1 + 1 + 1 + 1 + 1 + 1 = b + 1 + 1) ∧ (b < b + 1 + 1) ∧ (b + 1 < b + 1 + 1) ∧ (¬ b + 1 + 1 < b) ∧ (¬ b + 1 + 1 < h) ∧ (¬ b + 1 + 1 = h) ∧ (¬ h = b + 1 + 1) ∧ (h < b + 1 + 1) ∧ (¬ b + 1 + 1 + 1 = b + 1 + 1 + 1 + 1) ∧ (¬ b + 1 + 1 + 1 + 1 = b + 1 + 1 + 1) ∧ (¬ b + 1 + 1 + 1 = b + 1 + 1 + 1 + 1 + 1) ∧ (¬ b + 1 + 1 + 1 + 1 + 1 = b + 1 + 1 + 1) ∧ (¬ b + 1 + 1 + 1 = b + 1 + 1 + 1 + 1 + 1 + 1) ∧ (¬ b + 1 + 1 + 1 + 1 + 1 + 1 = b + 1 + 1 + 1) ∧ (¬ b + 1 + 1 + 1 = b + 1 + 1 + 1 + 1 + 1 + 1 + 1) ∧ (¬ b + 1 + 1 + 1 + 1 + 1 + 1 + 1 = b + 1 + 1 + 1) ∧ (b < b + 1 + 1 + 1) ∧ (b + 1 < b + 1 + 1 + 1) ∧ (b + 1 + 1 < b + 1 + 1 + 1) ∧ (¬ b + 1 + 1 + 1 < b) ∧ (¬ b + 1 + 1 + 1 < h) ∧ (¬ b + 1 + 1 + 1 = h) ∧ (¬ h = b + 1 + 1 + 1) ∧ (h < b + 1 + 1 + 1) ∧ (¬ b + 1 + 1 + 1 + 1 = b + 1 + 1 + 1 + 1 + 1) ∧ (¬ b + 1 + 1 + 1 + 1 + 1 = b + 1 + 1 + 1 + 1) ∧ (¬ b + 1 + 1 + 1 + 1 = b + 1 + 1 + 1 + 1 + 1 + 1) ∧ (¬ b + 1 + 1 + 1 + 1 + 1 + 1 = b + 1 + 1 + 1 + 1) ∧ (¬ b + 1 + 1 + 1 + 1 = b + 1 + 1 + 1 + 1 + 1 + 1 + 1) ∧ (¬ b + 1 + 1 + 1 + 1 + 1 + 1 + 1 = b + 1 + 1 + 1 + 1) ∧ (b < b + 1 + 1 + 1 + 1) ∧ (b + 1 < b + 1 + 1 + 1 + 1) ∧ (b + 1 + 1 < b + 1 + 1 + 1 + 1) ∧ (b + 1 + 1 + 1 < b + 1 + 1 + 1 + 1) ∧ (¬ b + 1 + 1 + 1 + 1 < b) ∧ (¬ b + 1 + 1 + 1 + 1 < h) ∧ (¬ b + 1 + 1 + 1 + 1 = h) ∧ (¬ h = b + 1 + 1 + 1 + 1) ∧ (h < b + 1 + 1 + 1 + 1) ∧ (¬ b + 1 + 1 + 1 + 1 + 1 = b + 1 + 1 + 1 + 1 + 1 + 1) ∧ (¬ b + 1 + 1 + 1 + 1 + 1 + 1 = b + 1 + 1 + 1 + 1 + 1) ∧ (¬ b + 1 + 1 + 1 + 1 + 1 = b + 1 + 1 + 1 + 1 + 1 + 1 + 1) ∧ (¬ b + 1 + 1 + 1 + 1 + 1 + 1 + 1 = b + 1 + 1 + 1 + 1 + 1) ∧ (b < b + 1 + 1 + 1 + 1 + 1) ∧ (b + 1 < b + 1 + 1 + 1 + 1 + 1) ∧ (b + 1 + 1 < b + 1 + 1 + 1 + 1 + 1) ∧ (b + 1 + 1 + 1 < b + 1 + 1 + 1 + 1 + 1) ∧ (b + 1 + 1 + 1 + 1 < b + 1 + 1 + 1 + 1 + 1) ∧ (¬ b + 1 + 1 + 1 + 1 + 1 < b) ∧ (¬ b + 1 + 1 + 1 + 1 + 1 < h) ∧ (¬ b + 1 + 1 + 1 + 1 + 1 = h) ∧ (¬ h = b + 1 + 1 + 1 + 1 + 1) ∧ (h < b + 1 + 1 + 1 + 1 + 1) ∧ (¬ b + 1 + 1 + 1 + 1 + 1 + 1 = b + 1 + 1 + 1 + 1 + 1 + 1 + 1) ∧ (¬ b + 1 + 1 + 1 + 1 + 1 + 1 + 1 = b + 1 + 1 + 1 + 1 + 1 + 1) ∧ (b < b + 1 + 1 + 1 + 1 + 1 + 1) ∧ (b + 1 < b + 1 + 1 + 1 + 1 + 1 + 1) ∧ (b + 1 + 1 < b + 1 + 1 + 1 + 1 + 1 + 1) ∧ (b + 1 + 1 + 1 < b + 1 + 1 + 1 + 1 + 1 + 1) ∧ (b + 1 + 1 + 1 + 1 < b + 1 + 1 + 1 + 1 + 1 + 1) ∧ (b + 1 + 1 + 1 + 1 + 1 < b + 1 + 1 + 1 + 1 + 1 + 1) ∧ (¬ b + 1 + 1 + 1 + 1 + 1 + 1 < b) ∧ (¬ b + 1 + 1 + 1 + 1 + 1 + 1 < h) ∧ (¬ b + 1 + 1 + 1 + 1 + 1 + 1 = h) ∧ (¬ h = b + 1 + 1 + 1 + 1 + 1 + 1) ∧ (h < b + 1 + 1 + 1 + 1 + 1 + 1) ∧ (b < b + 1 + 1 + 1 + 1 + 1 + 1 + 1) ∧ (b + 1 < b + 1 + 1 + 1 + 1 + 1 + 1 + 1) ∧ (b + 1 + 1 < b + 1 + 1 + 1 + 1 + 1 + 1 + 1) ∧ (b + 1 + 1 + 1 < b + 1 + 1 + 1 + 1 + 1 + 1 + 1) ∧ (b + 1 + 1 + 1 + 1 < b + 1 + 1 + 1 + 1 + 1 + 1 + 1) ∧ (b + 1 + 1 + 1 + 1 + 1 < b + 1 + 1 + 1 + 1 + 1 + 1 + 1) ∧ (b + 1 + 1 + 1 + 1 + 1 + 1 < b + 1 + 1 + 1 + 1 + 1 + 1 + 1) ∧ (¬ b + 1 + 1 + 1 + 1 + 1 + 1 + 1 < b) ∧ (¬ b + 1 + 1 + 1 + 1 + 1 + 1 + 1 < h) ∧ (¬ b + 1 + 1 + 1 + 1 + 1 + 1 + 1 = h) ∧ (¬ h = b + 1 + 1 + 1 + 1 + 1 + 1 + 1) ∧ (h < b + 1 + 1 + 1 + 1 + 1 + 1 + 1) := by omega
def someI (L : List D) (n lk : Int) : List Inst :=
  if 0 < lk then (if valN L n 4 = 0 then [⟨9, valN L (nextN L n) lk, 0, 0⟩, plainI L (nextN L (nextN L n)), ⟨10, valN L (nextN L n) lk, 0, 0⟩] else [plainI L (nextN L n)]) else [plainI L n]
def someN (L : List D) (n lk : Int) : Int := if 0 < lk then (if valN L n 4 = 0 then plainN L (nextN L (nextN L n)) else plainN L (nextN L n)) else plainN L n
theorem someN_ok {L : List D} {n : Int} (lk : Int) (h : NumOk L n) : NumOk L (someN L n lk) := by
  unfold someN
  repeat' split
  · exact plainN_ok (nextN_ok (nextN_ok h))
  · exact plainN_ok (nextN_ok h)
  · exact plainN_ok h
theorem keep_some1 (L : List D) (n lk : Int) : KeepN L n (someN L n lk) := fun h => by
  unfold someN
  simp [nextN_off h, keep_plain L n h]
def someSt (nl : Bool) (L : List D) (n : Int) (h : Nat) (lk : Int) (acc : List Inst) (i : Nat) (ex : List (Nat × V)) (tl : Nat → Option Blk) (b : Nat) : St :=
  { env := [(0, .ptr h []), (2, .int .i64 lk), (7, aV b acc), (8, .int .i64 (i : Int))] ++ ex, hp := (h, .box (.d (.agg [.sl nl L, .int .i64 n]))) :: aH b acc, tl := tl, base := b, next := b + aN acc }
set_option maxRecDepth 10000 in
set_option maxHeartbeats 16000000 in
theorem some_round (nl : Bool) (L : List D) (n : Int) (ho : NumOk L n) (h : Nat) (lk : Int) (hlk : lk ≤ 1000) (acc : List Inst) (i : Nat) (tl : Nat → Option Blk) (b : Nat) (hb : h < b) (hl : acc.length ≤ 1000) (hi : i ≤ 1000) :
    run kp (.loop [0, 2, 7, 8] k_play_Picks_some_L0 (someSt nl L n h lk acc (i + 1) [] tl b)) = run kp (.loop [0, 2, 7, 8] k_play_Picks_some_L0 (someSt nl L (someN L n lk) h lk (acc ++ someI L n lk) i [] tl b)) := by
  have o1 := nextN_ok ho
  have o2 := nextN_ok o1
  have o3 := plainN_ok o2
  have c0 := keep_plain L n
  have c1 := keep_next L n
  have c2 := keep_next L (nextN L n)
  have c3 := keep_plain L (nextN L n)
  have c4 := keep_plain L (nextN L (nextN L n))
  have F := natF8 h b hb
  have w' : IntKind.i64.wrap (i : Int) = (i : Int) := wrap_i64 (by omega) (by omega)
  have p' : (0 : Int) < (i : Int) + 1 := by omega
  have hl2 : acc.length ≤ 1073741823 := by omega
  rw [run_round]
  unfold someI someN
  cases acc with
  | nil =>
    by_cases h0 : 0 < lk
    · have lk2 : 0 < lk ∧ lk ≤ 1000 := ⟨h0, hlk⟩
      by_cases h1 : valN L n 4 = 0
      · simp [c_play_Picks_some_L0, k_play_Picks_some_L0b, someSt, aV, aH, aN, num_call, plain_call, wr_in, hb, F, gOf_below hb, gOf, hlook, ho, o1, o2, o3, c0, c1, c2, c3, c4, w', p', Inst.v, Inst.d, h0, h1, hlk]
      · simp [c_play_Picks_some_L0, k_play_Picks_some_L0b, someSt, aV, aH, aN, num_call, plain_call, wr_in, hb, F, gOf_below hb, gOf, hlook, ho, o1, o2, o3, c0, c1, c2, c3, c4, w', p', Inst.v, Inst.d, h0, h1, hlk]
    · simp [c_play_Picks_some_L0, k_play_Picks_some_L0b, someSt, aV, aH, aN, num_call, plain_call, wr_in, hb, F, gOf_below hb, gOf, hlook, ho, o1, o2, o3, c0, c1, c2, c3, c4, w', p', Inst.v, Inst.d, h0]
  | cons x acc =>
    simp only [List.length_cons] at hl hl2
    have q1 : acc.length ≤ 1073741822 := by omega
    have q2 : acc.length ≤ 1073741821 := by omega
    have q3 : acc.length ≤ 1073741820 := by omega
    have q4 : acc.length + 1 ≤ 1073741822 := by omega
    have q5 : acc.length + 1 + 1 ≤ 1073741823 := by omega
    have q6 : acc.length + 1 + 1 ≤ 1073741822 := by omega
    have q7 : acc.length + 1 + 1 + 1 ≤ 1073741823 := by omega
    have t1 : List.take (acc.length + 1) (List.map Inst.d acc) = List.map Inst.d acc := List.take_of_length_le (by simp)
    have t2 : List.take (acc.length + 2) (List.map Inst.d acc) = List.map Inst.d acc := List.take_of_length_le (by simp)
    have t3 : List.take (acc.length + 1 + 1) (List.map Inst.d acc) = List.map Inst.d acc := List.take_of_length_le (by simp; omega)
    by_cases h0 : 0 < lk
    · have lk2 : 0 < lk ∧ lk ≤ 1000 := ⟨h0, hlk⟩
      by_cases h1 : valN L n 4 = 0
      · simp [c_play_Picks_some_L0, k_play_Picks_some_L0b, someSt, aV, aH, aN, num_call, plain_call, wr_in, hb, F, gOf_below hb, gOf, hlook, ho, o1, o2, o3, c0, c1, c2, c3, c4, w', p', hl2, q1, q2, q3, q4, q5, q6, q7, take_map_lenP, Inst.v, h0, h1, hlk]
        generalize plainI L _ = z
        simp [Inst.d, List.take_append, t1, t2, t3]
      · simp [c_play_Picks_some_L0, k_play_Picks_some_L0b, someSt, aV, aH, aN, num_call, plain_call, wr_in, hb, F, gOf_below hb, gOf, hlook, ho, o1, o2, o3, c0, c1, c2, c3, c4, w', p', hl2, q1, q2, q3, q4, q5, q6, q7, take_map_lenP, Inst.v, Inst.d, h0, h1, hlk]
    · simp [c_play_Picks_some_L0, k_play_Picks_some_L0b, someSt, aV, aH, aN, num_call, plain_call, wr_in, hb, F, gOf_below hb, gOf, hlook, ho, o1, o2, o3, c0, c1, c2, c3, c4, w', p', hl2, q1, q2, q3, q4, q5, q6, q7, take_map_lenP, Inst.v, Inst.d, h0]
set_option maxRecDepth 10000 in
theorem some_stop (nl : Bool) (L : List D) (n : Int) (h : Nat) (lk : Int) (acc : List Inst) (tl : Nat → Option Blk) (b : Nat) (hb : h < b) :
    run kp (.loop [0, 2, 7, 8] k_play_Picks_some_L0 (someSt nl L n h lk acc 0 [] tl b)) = some (.out (.ext 0) (someSt nl L n h lk acc 0 [(15, .bool false)] tl b)) := by
  have F := natF8 h b hb
  rw [run_round]
  cases acc with
  | nil => simp [c_play_Picks_some_L0, k_play_Picks_some_L0b, someSt, aV, aH, aN, F]
  | cons x acc => simp [c_play_Picks_some_L0, k_play_Picks_some_L0b, someSt, aV, aH, aN, F, gOf, hlook]
def someRow (L : List D) (lk : Int) : Nat → Int → List Inst
  | 0, _ => []
  | i + 1, n => someI L n lk ++ someRow L lk i (someN L n lk)
def someEnd (L : List D) (lk : Int) : Nat → Int → Int
  | 0, n => n
  | i + 1, n => someEnd L lk i (someN L n lk)
theorem someI_len (L : List D) (n lk : Int) : 1 ≤ (someI L n lk).length ∧ (someI L n lk).length ≤ 3 := by
  unfold someI
  repeat' split
  all_goals simp
theorem some_loop (nl : Bool) (L : List D) (h : Nat) (lk : Int) (hlk : lk ≤ 1000) (tl : Nat → Option Blk) (b : Nat) (hb : h < b) : ∀ (i : Nat) (n : Int) (acc : List Inst), NumOk L n → acc.length + 3 * i ≤ 1000 →
    run kp (.loop [0, 2, 7, 8] k_play_Picks_some_L0 (someSt nl L n h lk acc i [] tl b)) = some (.out (.ext 0) (someSt nl L (someEnd L lk i n) h lk (acc ++ someRow L lk i n) 0 [(15, .bool false)] tl b))
  | 0, n, acc, ho, hl => by
    rw [some_stop nl L n h lk acc tl b hb]
    simp [someEnd, someRow]
  | i + 1, n, acc, ho, hl => by
    have hi := someI_len L n lk
    rw [some_round nl L n ho h lk hlk acc i tl b hb (by omega) (by omega), some_loop nl L h lk hlk tl b hb i (someN L n lk) (acc ++ someI L n lk) (someN_ok lk ho) (by simp; omega)]
    rw [List.append_assoc]
    rfl
theorem someEnd_ok {L : List D} {lk : Int} : ∀ {i : Nat} {n : Int}, NumOk L n → NumOk L (someEnd L lk i n)
  | 0, _, h => h
  | i + 1, n, h => by
    unfold someEnd
    exact someEnd_ok (someN_ok lk h)
theorem keep_someEnd (L : List D) (lk : Int) : ∀ (i : Nat) (n : Int), KeepN L n (someEnd L lk i n)
  | 0, _ => fun _ => rfl
  | i + 1, n => fun h => by
    unfold someEnd
    rw [keep_some1 L n lk h]
    exact keep_someEnd L lk i n h
/-- What a piece is, and which number is next. -/
def someL (L : List D) (n m lk : Int) : List Inst := someRow L lk ((valN L n m).toNat + 1) (nextN L n)
def someNx (L : List D) (n m lk : Int) : Int := someEnd L lk ((valN L n m).toNat + 1) (nextN L n)
theorem someRow_len (L : List D) (lk : Int) : ∀ (i : Nat) (n : Int), i ≤ (someRow L lk i n).length ∧ (someRow L lk i n).length ≤ 3 * i
  | 0, _ => by simp [someRow]
  | i + 1, n => by
    have h := someRow_len L lk i (someN L n lk)
    have h1 := someI_len L n lk
    simp only [someRow, List.length_append]
    omega
theorem someL_len {L : List D} {n m lk : Int} (ho : NumOk L n) (hm : 0 < m) : 1 ≤ (someL L n m lk).length ∧ (someL L n m lk).length ≤ 3 * m := by
  have h := someRow_len L lk ((valN L n m).toNat + 1) (nextN L n)
  have r := valN_range (m := m) ho hm
  unfold someL
  omega
theorem someNx_ok {L : List D} {n : Int} (m lk : Int) (h : NumOk L n) : NumOk L (someNx L n m lk) := someEnd_ok (nextN_ok h)
theorem keep_someNx (L : List D) (n m lk : Int) : KeepN L n (someNx L n m lk) := fun h => by
  unfold someNx
  rw [nextN_off h]
  exact keep_someEnd L lk _ n h
def someA (o : Option Blk) (h : Nat) (m lk : Int) (b : Nat) : Option Ans := match o with
  | some (.box (.d (.agg [.sl nl L, .int .i64 n]))) => some (.val (.sl false b 0 (someL L n m lk).length) (wr nl L n h (someNx L n m lk) ++ [(b, .row true ((someL L n m lk).map Inst.d))]) (b + 1))
  | _ => none
@[simp] theorem someA_mk (nl : Bool) (L : List D) (n : Int) (h : Nat) (m lk : Int) (b : Nat) : someA (some (.box (.d (.agg [.sl nl L, .int .i64 n])))) h m lk b = some (.val (.sl false b 0 (someL L n m lk).length) (wr nl L n h (someNx L n m lk) ++ [(b, .row true ((someL L n m lk).map Inst.d))]) (b + 1)) := rfl
set_option maxRecDepth 10000 in
set_option maxHeartbeats 16000000 in
theorem some_off (nl : Bool) (L : List D) (n : Int) (ho : NumOk L n) (hlt : ¬ n < L.length) (h : Nat) (lk : Int) (hlk : lk ≤ 1000) (tl : Nat → Option Blk) (ht : tl h = some (.box (.d (.agg [.sl nl L, .int .i64 n])))) (b : Nat) (hb : h < b) :
    run kp (.loop [0, 2, 7, 8] k_play_Picks_some_L0 { env := [(0, .ptr h []), (2, .int .i64 lk), (7, .d (.sl true [])), (8, .int .i64 1)], hp := [], tl := tl, base := b, next := b }) = some (.out (.ext 0) { env := [(0, .ptr h []), (2, .int .i64 lk), (7, .sl false b 0 (someI L n lk).length), (8, .int .i64 0), (15, .bool false)], hp := [(b, .row true ((someI L n lk).map Inst.d))], tl := tl, base := b, next := b + 1 }) := by
  have F := natF8 h b hb
  have hp1 : plainN L n = n := keep_plain L n hlt
  have z0 : IntKind.i64.wrap 0 = 0 := by decide
  rw [run_round]
  unfold someI
  by_cases h0 : 0 < lk
  · have h1 := valN_off (m := 4) hlt
    have h2 := valN_off (m := lk) hlt
    simp [c_play_Picks_some_L0, k_play_Picks_some_L0b, num_call, plain_call, wr_off hlt, nextN_off hlt, ht, hb, F, gOf_below hb, gOf, hlook, ho, Inst.v, Inst.d, h0, h1, h2, hlk, z0]
    rw [run_round]
    simp [c_play_Picks_some_L0, k_play_Picks_some_L0b, F, gOf, hlook]
  · simp [c_play_Picks_some_L0, k_play_Picks_some_L0b, num_call, plain_call, wr_off hlt, nextN_off hlt, ht, hb, F, gOf_below hb, gOf, hlook, ho, Inst.v, Inst.d, h0, hlk, z0]
    rw [run_round]
    simp [c_play_Picks_some_L0, k_play_Picks_some_L0b, F, gOf, hlook]
set_option maxRecDepth 10000 in
set_option maxHeartbeats 8000000 in
theorem some_call (tl : Nat → Option Blk) (b h : Nat) (m lk : Int) (hm : 0 < m ∧ m ≤ 100) (hlk : lk ≤ 1000) (hk : PkOk (tl h)) (hb : h < b) : run kp (.call f_play_Picks_some [.ptr h [], .int .i64 m, .int .i64 lk] tl b) = someA (tl h) h m lk b := by
  obtain ⟨nl, L, n, ht, ho⟩ := hk
  rw [ht, someA_mk, run_call, kp_play_Picks_some]
  have o1 := nextN_ok ho
  have F := natF8 h b hb
  have hm2 : 0 < m ∧ m ≤ 1000 := ⟨hm.1, by omega⟩
  by_cases hlt : n < L.length
  · have r := valN_range (m := m) ho hm.1
    have lp := some_loop nl L h lk hlk tl b hb ((valN L n m).toNat + 1) (nextN L n) [] o1 (by simp; omega)
    have len := someL_len (lk := lk) ho hm.1
    rw [wr_on hlt]
    unfold someL at len
    unfold someL someNx
    obtain ⟨k, hk⟩ : ∃ k : Nat, valN L n m = (k : Int) := ⟨(valN L n m).toNat, by omega⟩
    rw [hk] at lp len r
    have w : IntKind.i64.wrap ((k : Int) + 1) = (k : Int) + 1 := wrap_i64 (by omega) (by omega)
    simp only [Int.toNat_natCast] at lp len
    simp only [hk, Int.toNat_natCast]
    generalize someRow L lk (k + 1) (nextN L n) = R at *
    generalize someEnd L lk (k + 1) (nextN L n) = E at *
    cases R with
    | nil => simp at len
    | cons x R =>
      simp only [someSt, aV, aH, aN, List.append_nil, List.nil_append, List.cons_append, Nat.add_zero, Int.natCast_add, Int.natCast_one] at lp
      simp [k_play_Picks_some, canK_canH, num_call, wr_in, wr_on, ht, hb, F, gOf_below hb, gOf, hlook, ho, o1, hlt, hk, lp, w, hm2.2, hm2.1, Inst.d]
  · have hv := valN_off (m := m) hlt
    rw [wr_off hlt]
    have lp := some_off nl L n ho hlt h lk hlk tl ht b hb
    have e1 : someL L n m lk = someI L n lk := by
      unfold someL
      rw [hv, nextN_off hlt]
      simp [someRow]
    rw [e1]
    have z1 : IntKind.i64.wrap 1 = 1 := by decide
    have e2 : wr nl L n h (someNx L n m lk) = [] := wr_off hlt
    simp [z1, k_play_Picks_some, canK_canH, num_call, wr_off hlt, hv, ht, hb, F, gOf_below hb, gOf, hlook, ho, lp, hm2.1, hm2.2]
end Go.Cd
