/- Steps read, the program's. No conditions. -/
import Derived.Test.YtjoocolnbmpkkaaR7QPlF
set_option linter.unusedVariables false
set_option linter.unusedSimpArgs false
namespace Go.Cd
open Go Go.Fw
theorem call_c (tl : Nat → Option Blk) (b h : Nat) (hk : RdOk (tl h)) (hb : h < b) :
    run kp (.call f_play_reader_call [.ptr h []] tl b) = some (.val (admV b (pCall (rdOf (tl h))).1) ((h, (pCall (rdOf (tl h))).2.box) :: admH b (pCall (rdOf (tl h))).1) (b + admN (pCall (rdOf (tl h))).1)) := by
  obtain ⟨r, ht, hr⟩ := hk
  rw [ht, rdOf_mk]
  by_cases h1 : r.num 1 = 1
  · exact call_admit tl b h r ht hr hb h1
  · rw [call_small tl b h r ht hr hb h1]
    have e : (pCall r).1.main = noRow ∧ (pCall r).1.way = noRow ∧ (pCall r).1.opt = noRow := by
      unfold pCall
      simp only [if_neg h1]
      repeat' split
      all_goals exact ⟨rfl, rfl, rfl⟩
    obtain ⟨e1, e2, e3⟩ := e
    unfold admV admH admN
    rw [e1, e2, e3]
    rfl
structure Sp where
  kind : Int
  cl : Cl
  a : Int
  n : Int
def Sp.d (s : Sp) : D := .agg [.int .i64 s.kind, s.cl.d, .int .i64 s.a, .int .i64 s.n]
/-- A step, as bytes say; its kind is not nought. -/
def pStep (r : Rd) : Sp × Rd :=
  let k := (r.num 1).tmod 6
  let r1 := r.drop 1
  if k = 4 then (⟨k, Cl.zero 0, r1.num 1, 0⟩, r1.drop 1)
  else if k = 5 then (⟨k, Cl.zero 0, 0, IntKind.i64.wrap (r1.num 2)⟩, r1.drop 2)
  else if k = 1 then (⟨k, (pCall r1).1, 0, 0⟩, (pCall r1).2)
  else (⟨k, Cl.zero 0, 0, 0⟩, r1)
def sV : List Sp → V
  | [] => .d (.sl true [])
  | x :: l => .sl false 0 0 (x :: l).length
def decSt (r : Rd) (acc : List Sp) (ex : List (Nat × V)) : St :=
  match acc with
  | [] => { env := [(2, .d (.sl true [])), (3, .ptr 0 [])] ++ ex, hp := [(0, r.box)], tl := fun _ => none, base := 0, next := 1 }
  | x :: l => { env := [(2, .sl false 0 0 (x :: l).length), (3, .ptr 1 [])] ++ ex, hp := [(0, .row true ((x :: l).map Sp.d)), (1, r.box)], tl := fun _ => none, base := 0, next := 2 }
def FinS (s : St) (acc : List Sp) : Prop := val s.env (.t 2) = sV acc ∧ (acc ≠ [] → hlook s.hp 0 = some (.row true (acc.map Sp.d))) ∧ s.base = 0 ∧ s.tl = fun _ => none
theorem take_Sp (l : List Sp) : List.take l.length (List.map Sp.d l) = List.map Sp.d l := List.take_of_length_le (by simp)
theorem pCall_ok {r : Rd} (h : bytesOk r.b ∧ r.b.length ≤ 100000) : bytesOk (pCall r).2.b ∧ (pCall r).2.b.length ≤ 100000 := by
  have d1 := Rd.drop_ok 1 h
  have d2 := Rd.drop_ok 1 d1
  have d3 := Rd.drop_ok 1 d2
  have d4 := Rd.drop_ok 1 d3
  have e3 := Rd.drop_ok 4 d2
  unfold pCall
  simp only
  repeat' split
  · exact pgR_ok (pgR_ok (pgR_ok (Rd.drop_ok 4 e3)))
  · exact Rd.drop_ok 8 d2
  · exact Rd.drop_ok 8 d3
  · exact d4
  · exact Rd.drop_ok 4 d3
  · exact Rd.drop_ok 4 d4
  · exact d3
  · exact d1
theorem pStep_ok {r : Rd} (h : bytesOk r.b ∧ r.b.length ≤ 100000) : bytesOk (pStep r).2.b ∧ (pStep r).2.b.length ≤ 100000 := by
  have d1 := Rd.drop_ok 1 h
  unfold pStep
  simp only
  repeat' split
  · exact Rd.drop_ok 1 d1
  · exact Rd.drop_ok 2 d1
  · exact pCall_ok d1
  · exact d1
theorem rdOk_ex {r : Rd} (h : bytesOk r.b ∧ r.b.length ≤ 100000) : RdOk (some (.box (.d (.agg [.sl r.nl (r.b.map u8d), .bool r.bad])))) := (rdOk_mk r).2 h
theorem rdOf_ex (r : Rd) : rdOf (some (.box (.d (.agg [.sl r.nl (r.b.map u8d), .bool r.bad])))) = r := rdOf_mk r
set_option maxRecDepth 10000 in
set_option maxHeartbeats 32000000 in
theorem dec_skip (r : Rd) (hr : bytesOk r.b ∧ r.b.length ≤ 100000) (acc : List Sp) (hl : acc.length ≤ 100000) (hne : r.b ≠ []) (hk : (r.num 1).tmod 6 = 0) :
    run kp (.loop [2, 3] k_play_Decode_L0 (decSt r acc [])) = run kp (.loop [2, 3] k_play_Decode_L0 (decSt (r.drop 1) acc [])) := by
  have d1 := Rd.drop_ok 1 hr
  have hbx : r.box = .box (.d (.agg [.sl r.nl (r.b.map u8d), .bool r.bad])) := rfl
  have k1 := rdOk_ex hr
  have k2 := rdOf_ex r
  have hl0 : (0 : Int) < (r.b.length : Int) := by
    have := List.length_pos_iff.2 hne
    omega
  have hl1 : 0 < r.b.length := List.length_pos_iff.2 hne
  rw [run_round]
  cases acc with
  | nil => simp [-Blk.hs, -Blk.ren, rdbox_hs, rdbox_ren, hsB, hsR, hsD, renB, renR, renD, c_play_Decode_L0, k_play_Decode_L0b, decSt, one_c, num_c2, call_c, hbx, k1, k2, d1, hl0, hl1, hk]
  | cons x acc => simp [-Blk.hs, -Blk.ren, rdbox_hs, rdbox_ren, hsB, hsR, hsD, renB, renR, renD, c_play_Decode_L0, k_play_Decode_L0b, decSt, one_c, num_c2, call_c, hbx, k1, k2, d1, hl0, hl1, hk]
theorem dec_end (r : Rd) (acc : List Sp) (he : r.b = []) :
    ∃ s, run kp (.loop [2, 3] k_play_Decode_L0 (decSt r acc [])) = some (.out (.ext 0) s) ∧ FinS s acc := by
  have hbx : r.box = .box (.d (.agg [.sl r.nl (r.b.map u8d), .bool r.bad])) := rfl
  rw [run_round]
  cases acc with
  | nil => simp [c_play_Decode_L0, k_play_Decode_L0b, decSt, hbx, he, FinS, sV]
  | cons x acc => simp [c_play_Decode_L0, k_play_Decode_L0b, decSt, hbx, he, FinS, sV]
theorem pCall_rows (r : Rd) : ∃ m w p, (pCall r).1.main = rr m ∧ (pCall r).1.way = rr w ∧ (pCall r).1.opt = rr p := by
  unfold pCall
  simp only
  repeat' split
  · exact ⟨_, _, _, rfl, rfl, rfl⟩
  all_goals exact ⟨[], [], [], rfl, rfl, rfl⟩
end Go.Cd
