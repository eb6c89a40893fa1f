/- Texts of this session in one. No conditions. -/
import Derived.Test.YtjoocolnbmpkkaaR7QPlSt
set_option linter.unusedVariables false
set_option linter.unusedSimpArgs false
namespace Go.Cd
open Go Go.Fw
def gV (b : Nat) : List Sp → V
  | [] => .d (.sl true [])
  | x :: l => .sl false b 0 (x :: l).length
def gH (b : Nat) : List Sp → Hp
  | [] => []
  | x :: l => [(b, .row true ((x :: l).map Sp.d))]
def gN : List Sp → Nat
  | [] => 0
  | _ :: _ => 1
def bg0 (nl : Bool) (L : List D) (n : Int) (h : Nat) (acc : List Sp) (lk : Nat) (i : Nat) (ex : List (Nat × V)) (tl : Nat → Option Blk) (b : Nat) : St :=
  { env := [(0, .ptr h []), (3, gV b acc), (4, .int .i64 (lk : Int)), (5, .int .i64 (i : Int))] ++ ex, hp := (h, pkB nl L n) :: gH b acc, tl := tl, base := b, next := b + gN acc }
def semaS : Sp := ⟨1, Cl.zero 2, 0, 0⟩
set_option maxRecDepth 10000 in
set_option maxHeartbeats 16000000 in
theorem bg_loop0 (nl : Bool) (L : List D) (n : Int) (h : Nat) (lk : Nat) (hlk : lk ≤ 100) (tl : Nat → Option Blk) (b : Nat) (hb : h < b) : ∀ (k i : Nat) (acc : List Sp), i + k = lk → acc.length = i →
    run kp (.loop [0, 3, 4, 5] k_play_Picks_Begin_L0 (bg0 nl L n h acc lk i [] tl b)) = some (.out (.ext 0) (bg0 nl L n h (acc ++ List.replicate k semaS) lk lk [(11, .bool false)] tl b))
  | 0, i, acc, he, ha => by
    obtain rfl : i = lk := by omega
    have F := natF8 h b hb
    rw [run_round]
    cases acc with
    | nil => simp [c_play_Picks_Begin_L0, k_play_Picks_Begin_L0b, bg0, gV, gH, gN, play_Call, canK_canH, F, gOf, hlook, hputs, pkB, Sp.d, Cl.zero, Cl.d, rowD, noRow]
    | cons x acc => simp [c_play_Picks_Begin_L0, k_play_Picks_Begin_L0b, bg0, gV, gH, gN, play_Call, canK_canH, F, gOf, hlook, hputs, pkB, Sp.d, Cl.zero, Cl.d, rowD, noRow]
  | k + 1, i, acc, he, ha => by
    have F := natF8 h b hb
    have hi : (i : Int) < (lk : Int) := by omega
    have w : IntKind.i64.wrap ((i : Int) + 1) = ((i + 1 : Nat) : Int) := by rw [wrap_i64 (by omega) (by omega)]; omega
    have e : acc ++ List.replicate (k + 1) semaS = (acc ++ [semaS]) ++ List.replicate k semaS := by simp [List.replicate_succ]
    rw [e, ← bg_loop0 nl L n h lk hlk tl b hb k (i + 1) (acc ++ [semaS]) (by omega) (by simp [ha]), run_round]
    have hc : acc.length ≤ 1000 := by omega
    generalize i + 1 = i' at *
    cases acc with
    | nil => simp [c_play_Picks_Begin_L0, k_play_Picks_Begin_L0b, bg0, gV, gH, gN, play_Call, canK_canH, F, gOf, hlook, hputs, pkB, Sp.d, Cl.zero, Cl.d, rowD, noRow, semaS, hi, w]
    | cons x acc =>
      have q1 : acc.length ≤ 1073741822 := by simp at hc; omega
      have q2 : acc.length + 1 ≤ 1073741823 := by omega
      simp [c_play_Picks_Begin_L0, k_play_Picks_Begin_L0b, bg0, gV, gH, gN, play_Call, canK_canH, F, gOf, hlook, hputs, pkB, Sp.d, Cl.zero, Cl.d, rowD, noRow, semaS, hi, w, q1, q2]
def bg1 (nl : Bool) (L : List D) (n : Int) (h : Nat) (acc : List Sp) (lk : Int) (i : Nat) (ex : List (Nat × V)) (tl : Nat → Option Blk) (b : Nat) : St :=
  { env := [(0, .ptr h []), (3, gV b acc), (4, .int .i64 lk), (6, .int .i64 (i : Int))] ++ ex, hp := (h, pkB nl L n) :: gH b acc, tl := tl, base := b, next := b + gN acc }
def Sp.small (s : Sp) : Prop := s.cl.main.2.length ≤ 30 ∧ s.cl.way.2.length ≤ 30 ∧ s.cl.opt.2.length ≤ 30
set_option maxRecDepth 10000 in
set_option maxHeartbeats 32000000 in
theorem bg_round1 (nl : Bool) (L : List D) (n : Int) (ho : NumOk L n) (h : Nat) (acc : List Sp) (hc : acc.length ≤ 1000) (lk : Int) (hlk : lk ≤ 1000) (i : Nat) (hi : i ≤ 100) :
    ∃ (s : Sp) (n' : Int), s.small ∧ NumOk L n' ∧ ∀ (tl : Nat → Option Blk) (b : Nat), h < b →
    run kp (.loop [0, 3, 4, 6] k_play_Picks_Begin_L1 (bg1 nl L n h acc lk (i + 1) [] tl b)) = run kp (.loop [0, 3, 4, 6] k_play_Picks_Begin_L1 (bg1 nl L n' h (acc ++ [s]) lk i [] tl b)) := by
  have o1 := nextN_ok ho
  have k0 := keep_next L n
  have r3 := valN_range (m := 3) ho (by omega)
  have w1 : IntKind.i64.wrap (3 * ((i : Int) + 1)) = 3 * ((i : Int) + 1) := wrap_i64 (by omega) (by omega)
  have w2 : IntKind.i64.wrap (3 * ((i : Int) + 1) + valN L n 3) = 3 * ((i : Int) + 1) + valN L n 3 := wrap_i64 (by omega) (by omega)
  have w3 : IntKind.i64.wrap (i : Int) = (i : Int) := wrap_i64 (by omega) (by omega)
  have p1 : (0 : Int) < (i : Int) + 1 := by omega
  obtain ⟨t, n', oT, kT, tok, tk⟩ := task_ex nl L (nextN L n) (3 * ((i : Int) + 1) + valN L n 3) lk o1 hlk
  obtain ⟨per, stop, m, w, o⟩ := t
  have t1 := tok.m1
  have t2 := tok.o1
  simp only at t1 t2
  refine ⟨⟨1, ⟨1, 3 * ((i : Int) + 1) + valN L n 3, per, stop, (false, m), (match w with | none => emR | some j => (false, [wayI, endI].drop j)), (match o with | [] => emR | x :: l => (false, x :: l)), 0, 0, 0, 0, 0⟩, 0, 0⟩, n', ?_, oT, ?_⟩
  · refine ⟨by simp only; omega, ?_, ?_⟩
    · cases w with
      | none => simp [emR]
      | some j => simp; omega
    · cases o with
      | nil => simp [emR]
      | cons x l => simp only; omega
  intro tl b hb
  have F := natF8 h b hb
  rw [run_round]
  cases acc with
  | nil =>
    cases w with
    | none =>
      cases o with
      | nil => simp [-Blk.hs, -Blk.ren, hsB, hsR, hsD, renB, renR, renD, c_play_Picks_Begin_L1, k_play_Picks_Begin_L1b, bg1, gV, gH, gN, play_Call, num_call, canK_canH, F, gOf, hlook, hputs, gOf_below hb, wr_in, hputs_append, pkB, k0, kT, tk, ho, o1, hb, w1, w2, w3, p1, tkV, tkH, tkN, wV, wH, wN, aV, aH, aN, wayI, endI, Inst.d, Sp.d, Cl.d, rowD, emR]
      | cons x l => simp [-Blk.hs, -Blk.ren, hsB, hsR, hsD, renB, renR, renD, c_play_Picks_Begin_L1, k_play_Picks_Begin_L1b, bg1, gV, gH, gN, play_Call, num_call, canK_canH, F, gOf, hlook, hputs, gOf_below hb, wr_in, hputs_append, pkB, k0, kT, tk, ho, o1, hb, w1, w2, w3, p1, tkV, tkH, tkN, wV, wH, wN, aV, aH, aN, wayI, endI, Inst.d, Sp.d, Cl.d, rowD, emR]
    | some q =>
      have hq := tok.w1 q rfl
      rcases (by omega : q = 0 ∨ q = 1) with hq | hq
      · subst hq
        cases o with
        | nil => simp [-Blk.hs, -Blk.ren, hsB, hsR, hsD, renB, renR, renD, c_play_Picks_Begin_L1, k_play_Picks_Begin_L1b, bg1, gV, gH, gN, play_Call, num_call, canK_canH, F, gOf, hlook, hputs, gOf_below hb, wr_in, hputs_append, pkB, k0, kT, tk, ho, o1, hb, w1, w2, w3, p1, tkV, tkH, tkN, wV, wH, wN, aV, aH, aN, wayI, endI, Inst.d, Sp.d, Cl.d, rowD, emR]
        | cons x l => simp [-Blk.hs, -Blk.ren, hsB, hsR, hsD, renB, renR, renD, c_play_Picks_Begin_L1, k_play_Picks_Begin_L1b, bg1, gV, gH, gN, play_Call, num_call, canK_canH, F, gOf, hlook, hputs, gOf_below hb, wr_in, hputs_append, pkB, k0, kT, tk, ho, o1, hb, w1, w2, w3, p1, tkV, tkH, tkN, wV, wH, wN, aV, aH, aN, wayI, endI, Inst.d, Sp.d, Cl.d, rowD, emR]
      · subst hq
        cases o with
        | nil => simp [-Blk.hs, -Blk.ren, hsB, hsR, hsD, renB, renR, renD, c_play_Picks_Begin_L1, k_play_Picks_Begin_L1b, bg1, gV, gH, gN, play_Call, num_call, canK_canH, F, gOf, hlook, hputs, gOf_below hb, wr_in, hputs_append, pkB, k0, kT, tk, ho, o1, hb, w1, w2, w3, p1, tkV, tkH, tkN, wV, wH, wN, aV, aH, aN, wayI, endI, Inst.d, Sp.d, Cl.d, rowD, emR]
        | cons x l => simp [-Blk.hs, -Blk.ren, hsB, hsR, hsD, renB, renR, renD, c_play_Picks_Begin_L1, k_play_Picks_Begin_L1b, bg1, gV, gH, gN, play_Call, num_call, canK_canH, F, gOf, hlook, hputs, gOf_below hb, wr_in, hputs_append, pkB, k0, kT, tk, ho, o1, hb, w1, w2, w3, p1, tkV, tkH, tkN, wV, wH, wN, aV, aH, aN, wayI, endI, Inst.d, Sp.d, Cl.d, rowD, emR]
  | cons y acc =>
    have q1 : acc.length ≤ 1073741822 := by simp at hc; omega
    have q2 : acc.length + 1 ≤ 1073741823 := by omega
    have tm : List.take (acc.length + 1) (List.map Sp.d (y :: acc)) = List.map Sp.d (y :: acc) := List.take_of_length_le (by simp)
    cases w with
    | none =>
      cases o with
      | nil => simp [-Blk.hs, -Blk.ren, hsB, hsR, hsD, renB, renR, renD, c_play_Picks_Begin_L1, k_play_Picks_Begin_L1b, bg1, gV, gH, gN, play_Call, num_call, canK_canH, F, gOf, hlook, hputs, gOf_below hb, wr_in, hputs_append, pkB, k0, kT, tk, ho, o1, hb, w1, w2, w3, p1, tkV, tkH, tkN, wV, wH, wN, aV, aH, aN, wayI, endI, Inst.d, Sp.d, Cl.d, rowD, emR, q1, q2]
      | cons x l => simp [-Blk.hs, -Blk.ren, hsB, hsR, hsD, renB, renR, renD, c_play_Picks_Begin_L1, k_play_Picks_Begin_L1b, bg1, gV, gH, gN, play_Call, num_call, canK_canH, F, gOf, hlook, hputs, gOf_below hb, wr_in, hputs_append, pkB, k0, kT, tk, ho, o1, hb, w1, w2, w3, p1, tkV, tkH, tkN, wV, wH, wN, aV, aH, aN, wayI, endI, Inst.d, Sp.d, Cl.d, rowD, emR, q1, q2]
    | some q =>
      have hq := tok.w1 q rfl
      rcases (by omega : q = 0 ∨ q = 1) with hq | hq
      · subst hq
        cases o with
        | nil => simp [-Blk.hs, -Blk.ren, hsB, hsR, hsD, renB, renR, renD, c_play_Picks_Begin_L1, k_play_Picks_Begin_L1b, bg1, gV, gH, gN, play_Call, num_call, canK_canH, F, gOf, hlook, hputs, gOf_below hb, wr_in, hputs_append, pkB, k0, kT, tk, ho, o1, hb, w1, w2, w3, p1, tkV, tkH, tkN, wV, wH, wN, aV, aH, aN, wayI, endI, Inst.d, Sp.d, Cl.d, rowD, emR, q1, q2]
        | cons x l => simp [-Blk.hs, -Blk.ren, hsB, hsR, hsD, renB, renR, renD, c_play_Picks_Begin_L1, k_play_Picks_Begin_L1b, bg1, gV, gH, gN, play_Call, num_call, canK_canH, F, gOf, hlook, hputs, gOf_below hb, wr_in, hputs_append, pkB, k0, kT, tk, ho, o1, hb, w1, w2, w3, p1, tkV, tkH, tkN, wV, wH, wN, aV, aH, aN, wayI, endI, Inst.d, Sp.d, Cl.d, rowD, emR, q1, q2]
      · subst hq
        cases o with
        | nil => simp [-Blk.hs, -Blk.ren, hsB, hsR, hsD, renB, renR, renD, c_play_Picks_Begin_L1, k_play_Picks_Begin_L1b, bg1, gV, gH, gN, play_Call, num_call, canK_canH, F, gOf, hlook, hputs, gOf_below hb, wr_in, hputs_append, pkB, k0, kT, tk, ho, o1, hb, w1, w2, w3, p1, tkV, tkH, tkN, wV, wH, wN, aV, aH, aN, wayI, endI, Inst.d, Sp.d, Cl.d, rowD, emR, q1, q2]
        | cons x l => simp [-Blk.hs, -Blk.ren, hsB, hsR, hsD, renB, renR, renD, c_play_Picks_Begin_L1, k_play_Picks_Begin_L1b, bg1, gV, gH, gN, play_Call, num_call, canK_canH, F, gOf, hlook, hputs, gOf_below hb, wr_in, hputs_append, pkB, k0, kT, tk, ho, o1, hb, w1, w2, w3, p1, tkV, tkH, tkN, wV, wH, wN, aV, aH, aN, wayI, endI, Inst.d, Sp.d, Cl.d, rowD, emR, q1, q2]
def smalls (l : List Sp) : Prop := ∀ s ∈ l, s.small
theorem bg_stop1 (nl : Bool) (L : List D) (n : Int) (h : Nat) (acc : List Sp) (lk : Int) (tl : Nat → Option Blk) (b : Nat) (hb : h < b) :
    run kp (.loop [0, 3, 4, 6] k_play_Picks_Begin_L1 (bg1 nl L n h acc lk 0 [] tl b)) = some (.out (.ext 2) (bg1 nl L n h acc lk 0 [(23, .bool false)] tl b)) := by
  have F := natF8 h b hb
  rw [run_round]
  cases acc with
  | nil => simp [c_play_Picks_Begin_L1, k_play_Picks_Begin_L1b, bg1, gV, gH, gN, F, gOf, hlook, pkB]
  | cons x acc => simp [c_play_Picks_Begin_L1, k_play_Picks_Begin_L1b, bg1, gV, gH, gN, F, gOf, hlook, pkB]
theorem bg_loop1 (nl : Bool) (L : List D) (h : Nat) (lk : Int) (hlk : lk ≤ 1000) : ∀ (i : Nat) (n : Int) (acc : List Sp), NumOk L n → acc.length + i ≤ 1000 → i ≤ 100 → smalls acc →
    ∃ (acc' : List Sp) (n' : Int), smalls acc' ∧ acc'.length = acc.length + i ∧ NumOk L n' ∧ ∀ (tl : Nat → Option Blk) (b : Nat), h < b →
    run kp (.loop [0, 3, 4, 6] k_play_Picks_Begin_L1 (bg1 nl L n h acc lk i [] tl b)) = some (.out (.ext 2) (bg1 nl L n' h acc' lk 0 [(23, .bool false)] tl b))
  | 0, n, acc, ho, hl, _, hs => ⟨acc, n, hs, rfl, ho, fun tl b hb => bg_stop1 nl L n h acc lk tl b hb⟩
  | i + 1, n, acc, ho, hl, hi, hs => by
    obtain ⟨s, n1, h1, h2, h3⟩ := bg_round1 nl L n ho h acc (by omega) lk hlk i (by omega)
    obtain ⟨acc', n', g1, g2, g3, g4⟩ := bg_loop1 nl L h lk hlk i n1 (acc ++ [s]) h2 (by simp; omega) (by omega) (fun x hx => by
      rcases List.mem_append.1 hx with hx | hx
      · exact hs x hx
      · simp at hx; subst hx; exact h1)
    exact ⟨acc', n', g1, by rw [g2]; simp; omega, g3, fun tl b hb => by rw [h3 tl b hb]; exact g4 tl b hb⟩
theorem cS3 : Sp.d ⟨1, Cl.zero 3, 0, 0⟩ = .agg [.int .i64 1, .agg [.int .i64 3, .agg [.int .i64 0, .int .i64 0, .int .i64 0, .sl true [], .sl true [], .sl true []], .agg [.int .i64 0, .int .i64 0], .int .i64 0, .int .i64 0, .int .u32 0], .int .i64 0, .int .i64 0] := rfl
theorem cS4 : Sp.d ⟨1, Cl.zero 4, 0, 0⟩ = .agg [.int .i64 1, .agg [.int .i64 4, .agg [.int .i64 0, .int .i64 0, .int .i64 0, .sl true [], .sl true [], .sl true []], .agg [.int .i64 0, .int .i64 0], .int .i64 0, .int .i64 0, .int .u32 0], .int .i64 0, .int .i64 0] := rfl
theorem cS5 : Sp.d ⟨1, Cl.zero 5, 0, 0⟩ = .agg [.int .i64 1, .agg [.int .i64 5, .agg [.int .i64 0, .int .i64 0, .int .i64 0, .sl true [], .sl true [], .sl true []], .agg [.int .i64 0, .int .i64 0], .int .i64 0, .int .i64 0, .int .u32 0], .int .i64 0, .int .i64 0] := rfl
set_option maxRecDepth 10000 in
set_option maxHeartbeats 32000000 in
theorem begin_on (nl : Bool) (L : List D) (n : Int) (ho : NumOk L n) (hlt : n < L.length) (h : Nat) :
    ∃ (l : List Sp) (n' : Int), smalls l ∧ 0 < l.length ∧ l.length ≤ 20 ∧ NumOk L n' ∧ ∀ (tl : Nat → Option Blk) (b : Nat), tl h = some (pkB nl L n) → h < b →
      run kp (.call f_play_Picks_Begin [.ptr h []] tl b) = some (.val (.sl false b 0 l.length) [(h, pkB nl L n'), (b, .row true (l.map Sp.d))] (b + 1)) := by
  have o1 := nextN_ok ho
  have o2 := nextN_ok o1
  have r4 := valN_range (m := 4) ho (by omega)
  have r5 := valN_range (m := 4) o1 (by omega)
  have k0 := keep_next L (nextN L n)
  obtain ⟨lk, hv⟩ : ∃ lk : Nat, valN L n 4 = (lk : Int) := ⟨(valN L n 4).toNat, by omega⟩
  obtain ⟨i, hi⟩ : ∃ i : Nat, valN L (nextN L n) 4 = (i : Int) := ⟨(valN L (nextN L n) 4).toNat, by omega⟩
  have lp0' := fun tl b hb => bg_loop0 nl L (nextN L n) h lk (by omega) tl b hb lk 0 [] (by omega) rfl
  have ss : smalls (List.replicate lk semaS) := fun x hx => by
    rw [List.mem_replicate] at hx
    rw [hx.2]; exact ⟨by simp [semaS, Cl.zero, noRow], by simp [semaS, Cl.zero, noRow], by simp [semaS, Cl.zero, noRow]⟩
  obtain ⟨acc, n1, s1, s2, o3, lp1'⟩ := bg_loop1 nl L h (lk : Int) (by omega) (i + 1) (nextN L (nextN L n)) (List.replicate lk semaS) o2 (by simp; omega) (by omega) ss
  have wi : IntKind.i64.wrap ((i : Int) + 1) = (i : Int) + 1 := wrap_i64 (by omega) (by omega)
  have o4 := nextN_ok o3
  have k1 := keep_next L n1
  have k2 := keep_next L (nextN L n1)
  have sz : ∀ k, Sp.small ⟨1, Cl.zero k, 0, 0⟩ := fun k => ⟨by simp [Cl.zero, noRow], by simp [Cl.zero, noRow], by simp [Cl.zero, noRow]⟩
  have sa : ∀ (m : List Sp), smalls m → smalls (acc ++ m) := fun m hm x hx => by
    rcases List.mem_append.1 hx with hx | hx
    · exact s1 x hx
    · exact hm x hx
  simp only [List.length_replicate] at s2
  have key : ∀ (m : List Sp), smalls m → m.length ≤ 3 → (∀ (tl : Nat → Option Blk) (b : Nat), tl h = some (pkB nl L n) → h < b →
      run kp (.call f_play_Picks_Begin [.ptr h []] tl b) = some (.val (.sl false b 0 (acc ++ m).length) [(h, pkB nl L (nextN L (nextN L n1))), (b, .row true ((acc ++ m).map Sp.d))] (b + 1))) → ∃ (l : List Sp) (n' : Int), smalls l ∧ 0 < l.length ∧ l.length ≤ 20 ∧ NumOk L n' ∧ ∀ (tl : Nat → Option Blk) (b : Nat), tl h = some (pkB nl L n) → h < b →
      run kp (.call f_play_Picks_Begin [.ptr h []] tl b) = some (.val (.sl false b 0 l.length) [(h, pkB nl L n'), (b, .row true (l.map Sp.d))] (b + 1)) :=
    fun m hm hl hr => ⟨acc ++ m, _, sa m hm, by simp; omega, by simp; omega, nextN_ok o4, hr⟩
  have s1' := s2
  clear sa ss s1
  generalize List.replicate lk semaS = R0 at *
  cases acc with
  | nil => simp at s2
  | cons x acc =>
  simp only [List.length_cons] at s2
  have q0 : acc.length ≤ 7 := by omega
  have q1 : acc.length ≤ 1073741820 := by omega
  have q2 : acc.length + 1 ≤ 1073741823 := by omega
  have q3 : acc.length + 1 + 1 ≤ 1073741823 := by omega
  have q4 : acc.length + 1 + 1 + 1 ≤ 1073741823 := by omega
  have tk1 : ∀ (l : List D) (k : Nat), l.length = k → List.take k l = l := fun l k e => List.take_of_length_le (by omega)
  by_cases c3 : valN L n1 3 = 0
  · by_cases c4 : valN L (nextN L n1) 3 = 0
    · refine key [⟨1, Cl.zero 3, 0, 0⟩, ⟨1, Cl.zero 4, 0, 0⟩, ⟨1, Cl.zero 5, 0, 0⟩] (fun y hy => by
        simp at hy
        first
          | (rcases hy with rfl | rfl | rfl <;> exact sz _)
          | (rcases hy with rfl | rfl <;> exact sz _)
          | (subst hy; exact sz _)) (by simp) ?_
      intro tl b ht hb
      have F := natF8 h b hb
      have lp0 := lp0' tl b hb
      have lp1 := lp1' tl b hb
      rw [run_call, kp_play_Picks_Begin]
      cases R0 with
      | nil =>
        simp only [bg0, bg1, gV, gH, gN, pkB, Int.toNat_natCast, List.append_nil, List.nil_append, List.cons_append, Nat.add_zero, Int.natCast_add, Int.natCast_one, Int.cast_ofNat_Int, List.length_cons, List.map_cons, List.map_nil] at lp0 lp1
        simp [k_play_Picks_Begin, canK_canH, num_call, play_Call, wr_on hlt, wr_in, hputs_append, pkB, k0, k1, k2, ht, hb, F, gOf_below hb, gOf, hlook, hputs, ho, o1, o2, o3, o4, hv, hi, lp0, wi, lp1, gV, gH, gN, cS3, cS4, cS5, q1, q2, q3, q4, c3, c4]
        first
          | done
          | (refine ⟨by omega, by omega, ?_⟩
             repeat rw [List.take_of_length_le (by simp)]
             simp)
          | (refine ⟨by omega, ?_⟩
             repeat rw [List.take_of_length_le (by simp)]
             simp)
          | omega
      | cons y R0 =>
        simp only [bg0, bg1, gV, gH, gN, pkB, Int.toNat_natCast, List.append_nil, List.nil_append, List.cons_append, Nat.add_zero, Int.natCast_add, Int.natCast_one, Int.cast_ofNat_Int, List.length_cons, List.map_cons, List.map_nil] at lp0 lp1
        simp [k_play_Picks_Begin, canK_canH, num_call, play_Call, wr_on hlt, wr_in, hputs_append, pkB, k0, k1, k2, ht, hb, F, gOf_below hb, gOf, hlook, hputs, ho, o1, o2, o3, o4, hv, hi, lp0, wi, lp1, gV, gH, gN, cS3, cS4, cS5, q1, q2, q3, q4, c3, c4]
        first
          | done
          | (refine ⟨by omega, by omega, ?_⟩
             repeat rw [List.take_of_length_le (by simp)]
             simp)
          | (refine ⟨by omega, ?_⟩
             repeat rw [List.take_of_length_le (by simp)]
             simp)
          | omega
    · refine key [⟨1, Cl.zero 3, 0, 0⟩, ⟨1, Cl.zero 5, 0, 0⟩] (fun y hy => by
        simp at hy
        first
          | (rcases hy with rfl | rfl | rfl <;> exact sz _)
          | (rcases hy with rfl | rfl <;> exact sz _)
          | (subst hy; exact sz _)) (by simp) ?_
      intro tl b ht hb
      have F := natF8 h b hb
      have lp0 := lp0' tl b hb
      have lp1 := lp1' tl b hb
      rw [run_call, kp_play_Picks_Begin]
      cases R0 with
      | nil =>
        simp only [bg0, bg1, gV, gH, gN, pkB, Int.toNat_natCast, List.append_nil, List.nil_append, List.cons_append, Nat.add_zero, Int.natCast_add, Int.natCast_one, Int.cast_ofNat_Int, List.length_cons, List.map_cons, List.map_nil] at lp0 lp1
        simp [k_play_Picks_Begin, canK_canH, num_call, play_Call, wr_on hlt, wr_in, hputs_append, pkB, k0, k1, k2, ht, hb, F, gOf_below hb, gOf, hlook, hputs, ho, o1, o2, o3, o4, hv, hi, lp0, wi, lp1, gV, gH, gN, cS3, cS4, cS5, q1, q2, q3, q4, c3, c4]
        first
          | done
          | (refine ⟨by omega, by omega, ?_⟩
             repeat rw [List.take_of_length_le (by simp)]
             simp)
          | (refine ⟨by omega, ?_⟩
             repeat rw [List.take_of_length_le (by simp)]
             simp)
          | omega
      | cons y R0 =>
        simp only [bg0, bg1, gV, gH, gN, pkB, Int.toNat_natCast, List.append_nil, List.nil_append, List.cons_append, Nat.add_zero, Int.natCast_add, Int.natCast_one, Int.cast_ofNat_Int, List.length_cons, List.map_cons, List.map_nil] at lp0 lp1
        simp [k_play_Picks_Begin, canK_canH, num_call, play_Call, wr_on hlt, wr_in, hputs_append, pkB, k0, k1, k2, ht, hb, F, gOf_below hb, gOf, hlook, hputs, ho, o1, o2, o3, o4, hv, hi, lp0, wi, lp1, gV, gH, gN, cS3, cS4, cS5, q1, q2, q3, q4, c3, c4]
        first
          | done
          | (refine ⟨by omega, by omega, ?_⟩
             repeat rw [List.take_of_length_le (by simp)]
             simp)
          | (refine ⟨by omega, ?_⟩
             repeat rw [List.take_of_length_le (by simp)]
             simp)
          | omega
  · by_cases c4 : valN L (nextN L n1) 3 = 0
    · refine key [⟨1, Cl.zero 4, 0, 0⟩, ⟨1, Cl.zero 5, 0, 0⟩] (fun y hy => by
        simp at hy
        first
          | (rcases hy with rfl | rfl | rfl <;> exact sz _)
          | (rcases hy with rfl | rfl <;> exact sz _)
          | (subst hy; exact sz _)) (by simp) ?_
      intro tl b ht hb
      have F := natF8 h b hb
      have lp0 := lp0' tl b hb
      have lp1 := lp1' tl b hb
      rw [run_call, kp_play_Picks_Begin]
      cases R0 with
      | nil =>
        simp only [bg0, bg1, gV, gH, gN, pkB, Int.toNat_natCast, List.append_nil, List.nil_append, List.cons_append, Nat.add_zero, Int.natCast_add, Int.natCast_one, Int.cast_ofNat_Int, List.length_cons, List.map_cons, List.map_nil] at lp0 lp1
        simp [k_play_Picks_Begin, canK_canH, num_call, play_Call, wr_on hlt, wr_in, hputs_append, pkB, k0, k1, k2, ht, hb, F, gOf_below hb, gOf, hlook, hputs, ho, o1, o2, o3, o4, hv, hi, lp0, wi, lp1, gV, gH, gN, cS3, cS4, cS5, q1, q2, q3, q4, c3, c4]
        first
          | done
          | (refine ⟨by omega, by omega, ?_⟩
             repeat rw [List.take_of_length_le (by simp)]
             simp)
          | (refine ⟨by omega, ?_⟩
             repeat rw [List.take_of_length_le (by simp)]
             simp)
          | omega
      | cons y R0 =>
        simp only [bg0, bg1, gV, gH, gN, pkB, Int.toNat_natCast, List.append_nil, List.nil_append, List.cons_append, Nat.add_zero, Int.natCast_add, Int.natCast_one, Int.cast_ofNat_Int, List.length_cons, List.map_cons, List.map_nil] at lp0 lp1
        simp [k_play_Picks_Begin, canK_canH, num_call, play_Call, wr_on hlt, wr_in, hputs_append, pkB, k0, k1, k2, ht, hb, F, gOf_below hb, gOf, hlook, hputs, ho, o1, o2, o3, o4, hv, hi, lp0, wi, lp1, gV, gH, gN, cS3, cS4, cS5, q1, q2, q3, q4, c3, c4]
        first
          | done
          | (refine ⟨by omega, by omega, ?_⟩
             repeat rw [List.take_of_length_le (by simp)]
             simp)
          | (refine ⟨by omega, ?_⟩
             repeat rw [List.take_of_length_le (by simp)]
             simp)
          | omega
    · refine key [⟨1, Cl.zero 5, 0, 0⟩] (fun y hy => by
        simp at hy
        first
          | (rcases hy with rfl | rfl | rfl <;> exact sz _)
          | (rcases hy with rfl | rfl <;> exact sz _)
          | (subst hy; exact sz _)) (by simp) ?_
      intro tl b ht hb
      have F := natF8 h b hb
      have lp0 := lp0' tl b hb
      have lp1 := lp1' tl b hb
      rw [run_call, kp_play_Picks_Begin]
      cases R0 with
      | nil =>
        simp only [bg0, bg1, gV, gH, gN, pkB, Int.toNat_natCast, List.append_nil, List.nil_append, List.cons_append, Nat.add_zero, Int.natCast_add, Int.natCast_one, Int.cast_ofNat_Int, List.length_cons, List.map_cons, List.map_nil] at lp0 lp1
        simp [k_play_Picks_Begin, canK_canH, num_call, play_Call, wr_on hlt, wr_in, hputs_append, pkB, k0, k1, k2, ht, hb, F, gOf_below hb, gOf, hlook, hputs, ho, o1, o2, o3, o4, hv, hi, lp0, wi, lp1, gV, gH, gN, cS3, cS4, cS5, q1, q2, q3, q4, c3, c4]
        first
          | done
          | (refine ⟨by omega, by omega, ?_⟩
             repeat rw [List.take_of_length_le (by simp)]
             simp)
          | (refine ⟨by omega, ?_⟩
             repeat rw [List.take_of_length_le (by simp)]
             simp)
          | omega
      | cons y R0 =>
        simp only [bg0, bg1, gV, gH, gN, pkB, Int.toNat_natCast, List.append_nil, List.nil_append, List.cons_append, Nat.add_zero, Int.natCast_add, Int.natCast_one, Int.cast_ofNat_Int, List.length_cons, List.map_cons, List.map_nil] at lp0 lp1
        simp [k_play_Picks_Begin, canK_canH, num_call, play_Call, wr_on hlt, wr_in, hputs_append, pkB, k0, k1, k2, ht, hb, F, gOf_below hb, gOf, hlook, hputs, ho, o1, o2, o3, o4, hv, hi, lp0, wi, lp1, gV, gH, gN, cS3, cS4, cS5, q1, q2, q3, q4, c3, c4]
        first
          | done
          | (refine ⟨by omega, by omega, ?_⟩
             repeat rw [List.take_of_length_le (by simp)]
             simp)
          | (refine ⟨by omega, ?_⟩
             repeat rw [List.take_of_length_le (by simp)]
             simp)
          | omega
end Go.Cd
namespace Go.Cd
open Go Go.Fw
theorem over_call (nl : Bool) (L : List D) (n : Int) (tl : Nat → Option Blk) (b h : Nat) (ht : tl h = some (pkB nl L n)) (hb : h < b) : run kp (.call f_play_Picks_Over [.ptr h []] tl b) = some (.val (.bool (decide ((L.length : Int) ≤ n))) [] b) := by
  rw [run_call, kp_play_Picks_Over]
  simp [k_play_Picks_Over, canK_canH, ht, hb, pkB, gOf_below hb, gOf, hlook]
def stp (nl : Bool) (L : List D) (n : Int) (h : Nat) (most : Int) (acc : List Sp) (i : Nat) (ex : List (Nat × V)) (tl : Nat → Option Blk) (b : Nat) : St :=
  { env := [(0, .ptr h []), (1, .int .i64 most), (5, .sl false b 0 acc.length), (6, .int .i64 (i : Int))] ++ ex, hp := [(h, pkB nl L n), (b, .row true (acc.map Sp.d))], tl := tl, base := b, next := b + 1 }
set_option maxRecDepth 10000 in
set_option maxHeartbeats 16000000 in
theorem stp_stop (nl : Bool) (L : List D) (n : Int) (h : Nat) (acc : List Sp) (i : Nat) (hi : i ≤ 20) (hs : i = 20 ∨ (L.length : Int) ≤ n) (tl : Nat → Option Blk) (b : Nat) (hb : h < b) :
    run kp (.loop [0, 1, 5, 6] k_play_Picks_Steps_L0 (stp nl L n h 20 acc i [] tl b)) = some (.out (.ext 0) (stp nl L n h 20 acc i [(16, .bool false)] tl b)) := by
  have F := natF8 h b hb
  rw [run_round]
  have oc := fun tl b => over_call nl L n tl b h
  by_cases h20 : i = 20
  · subst h20
    simp [c_play_Picks_Steps_L0, k_play_Picks_Steps_L0b, stp, F, gOf, hlook, pkB]
  · have hl : (L.length : Int) ≤ n := by omega
    have p : (i : Int) < 20 := by omega
    simp only [pkB] at oc
    simp [c_play_Picks_Steps_L0, k_play_Picks_Steps_L0b, stp, F, gOf, hlook, pkB, p, oc, hl, hb]
set_option maxRecDepth 10000 in
set_option maxHeartbeats 16000000 in
theorem stp_round (nl : Bool) (L : List D) (n : Int) (ho : NumOk L n) (hlt : n < L.length) (h : Nat) (acc : List Sp) (hc : acc.length ≤ 1000) (i : Nat) (hi : i < 20) :
    ∃ (s : Sp) (n' : Int), s.small ∧ NumOk L n' ∧ ∀ (tl : Nat → Option Blk) (b : Nat), h < b →
    run kp (.loop [0, 1, 5, 6] k_play_Picks_Steps_L0 (stp nl L n h 20 acc i [] tl b)) = run kp (.loop [0, 1, 5, 6] k_play_Picks_Steps_L0 (stp nl L n' h 20 (acc ++ [s]) (i + 1) [] tl b)) := by
  obtain ⟨s, n', o', s1, s2, s3, sc⟩ := step_on nl L n ho hlt
  refine ⟨s, n', ⟨s1, s2, s3⟩, o', ?_⟩
  intro tl b hb
  have F := natF8 h b hb
  have hl : ¬ (L.length : Int) ≤ n := by omega
  have p : (i : Int) < 20 := by omega
  have w : IntKind.i64.wrap ((i : Int) + 1) = ((i + 1 : Nat) : Int) := by rw [wrap_i64 (by omega) (by omega)]; omega
  have oc := fun tl b => over_call nl L n tl b h
  have q1 : acc.length ≤ 1073741823 := by omega
  have q2 : acc.length + 1 ≤ 1073741824 := by omega
  rw [run_round]
  generalize i + 1 = i' at *
  simp only [pkB] at oc sc
  simp only [Sp.d] at sc
  simp [c_play_Picks_Steps_L0, k_play_Picks_Steps_L0b, stp, F, gOf, hlook, hputs, pkB, p, oc, sc, hl, hb, w, q1, q2, Sp.d]
theorem stp_loop (nl : Bool) (L : List D) (h : Nat) : ∀ (k i : Nat), i + k = 20 → ∀ (n : Int) (acc : List Sp), NumOk L n → acc.length ≤ 20 + i → smalls acc →
    ∃ (acc' : List Sp) (n' : Int) (i' : Nat), smalls acc' ∧ acc.length ≤ acc'.length ∧ acc'.length ≤ 40 ∧ NumOk L n' ∧ ∀ (tl : Nat → Option Blk) (b : Nat), h < b →
    run kp (.loop [0, 1, 5, 6] k_play_Picks_Steps_L0 (stp nl L n h 20 acc i [] tl b)) = some (.out (.ext 0) (stp nl L n' h 20 acc' i' [(16, .bool false)] tl b))
  | 0, i, he, n, acc, ho, hl, hs => ⟨acc, n, i, hs, Nat.le_refl _, by omega, ho, fun tl b hb => stp_stop nl L n h acc i (by omega) (.inl (by omega)) tl b hb⟩
  | k + 1, i, he, n, acc, ho, hl, hs => by
    by_cases hlt : n < L.length
    · obtain ⟨s, n1, h1, h2, h3⟩ := stp_round nl L n ho hlt h acc (by omega) i (by omega)
      obtain ⟨acc', n', i', g1, g2, g3, g4, g5⟩ := stp_loop nl L h k (i + 1) (by omega) n1 (acc ++ [s]) h2 (by simp; omega) (fun x hx => by
        rcases List.mem_append.1 hx with hx | hx
        · exact hs x hx
        · simp at hx; subst hx; exact h1)
      exact ⟨acc', n', i', g1, by simp at g2; omega, g3, g4, fun tl b hb => by rw [h3 tl b hb]; exact g5 tl b hb⟩
    · exact ⟨acc, n, i, hs, Nat.le_refl _, by omega, ho, fun tl b hb => stp_stop nl L n h acc i (by omega) (.inr (by omega)) tl b hb⟩
set_option maxRecDepth 10000 in
set_option maxHeartbeats 16000000 in
theorem steps_on (nl : Bool) (L : List D) (n : Int) (ho : NumOk L n) (hlt : n < L.length) (h : Nat) :
    ∃ (l : List Sp) (n' : Int), smalls l ∧ 0 < l.length ∧ l.length ≤ 40 ∧ NumOk L n' ∧ ∀ (tl : Nat → Option Blk) (b : Nat), tl h = some (pkB nl L n) → h < b →
      run kp (.call f_play_Picks_Steps [.ptr h [], .int .i64 20] tl b) = some (.val (.sl false b 0 l.length) [(h, pkB nl L n'), (b, .row true (l.map Sp.d))] (b + 1)) := by
  obtain ⟨l, n1, h1, h2, h3, h4, bg⟩ := begin_on nl L n ho hlt h
  obtain ⟨l', n', i', g1, g2, g3, g4, lp'⟩ := stp_loop nl L h 20 0 rfl n1 l h4 (by omega) h1
  refine ⟨l', n', g1, by omega, g3, g4, ?_⟩
  intro tl b ht hb
  have F := natF8 h b hb
  have lp := lp' tl b hb
  simp only [stp, pkB, List.append_nil, List.nil_append, List.cons_append, Int.cast_ofNat_Int] at lp bg ht
  rw [run_call, kp_play_Picks_Steps]
  simp [k_play_Picks_Steps, canK_canH, bg, ht, hb, F, gOf_below hb, gOf, hlook, hputs, pkB, lp]
end Go.Cd
