/- Handles and calls read, the program's. No conditions. -/
import Derived.Test.YtjoocolnbmpkkaaR7QPlD
import Derived.Test.YtjoocolnbmpkkaaR7QHs
set_option linter.unusedVariables false
set_option linter.unusedSimpArgs false
namespace Go.Cd
open Go Go.Fw
theorem rdbox_hs (r : Rd) : r.box.hs = [] := rfl
theorem rdbox_ren (f : Nat → Nat) (r : Rd) : r.box.ren f = r.box := rfl
abbrev RRow := Bool × List Inst
structure Cl where
  kind : Int
  rank : Int
  period : Int
  stop : Int
  main : RRow
  way : RRow
  opt : RRow
  at_ : Int
  gen : Int
  a : Int
  n : Int
  mask : Int
def rowD (p : RRow) : D := .sl p.1 (p.2.map Inst.d)
def Cl.d (c : Cl) : D := .agg [.int .i64 c.kind, .agg [.int .i64 c.rank, .int .i64 c.period, .int .i64 c.stop, rowD c.main, rowD c.way, rowD c.opt], .agg [.int .i64 c.at_, .int .i64 c.gen], .int .i64 c.a, .int .i64 c.n, .int .u32 c.mask]
def noRow : RRow := (true, [])
def Cl.zero (k : Int) : Cl := ⟨k, 0, 0, 0, noRow, noRow, noRow, 0, 0, 0, 0, 0⟩
def rdOf (o : Option Blk) : Rd := match o with
  | some (.box (.d (.agg [.sl nl l, .bool bad]))) => ⟨nl, l.map (fun x => match x with | .int _ v => v | _ => 0), bad⟩
  | _ => gone
@[simp] theorem rdOf_mk (r : Rd) : rdOf (some r.box) = r := by
  obtain ⟨nl, l, bad⟩ := r
  exact congrArg (fun x => Rd.mk nl x bad) (rd_back l)
theorem num_c (tl : Nat → Option Blk) (b h : Nat) (n : Nat) (hn : n ≤ 8) (hk : RdOk (tl h)) (hb : h < b) : run kp (.call f_play_reader_num [.ptr h [], .int .i64 n] tl b) = some (.val (.int .u64 ((rdOf (tl h)).num n)) [(h, ((rdOf (tl h)).drop n).box)] b) := by
  rw [nr_call tl b h n hn hk hb]
  obtain ⟨r, ht, _, _⟩ := hk
  rw [ht, nrA_mk, rdOf_mk]
theorem num_c2 (tl : Nat → Option Blk) (b h : Nat) (hk : RdOk (tl h)) (hb : h < b) : run kp (.call f_play_reader_num [.ptr h [], .int .i64 2] tl b) = some (.val (.int .u64 ((rdOf (tl h)).num 2)) [(h, ((rdOf (tl h)).drop 2).box)] b) := num_c tl b h 2 (by omega) hk hb
theorem num_c4 (tl : Nat → Option Blk) (b h : Nat) (hk : RdOk (tl h)) (hb : h < b) : run kp (.call f_play_reader_num [.ptr h [], .int .i64 4] tl b) = some (.val (.int .u64 ((rdOf (tl h)).num 4)) [(h, ((rdOf (tl h)).drop 4).box)] b) := num_c tl b h 4 (by omega) hk hb
theorem num_c8 (tl : Nat → Option Blk) (b h : Nat) (hk : RdOk (tl h)) (hb : h < b) : run kp (.call f_play_reader_num [.ptr h [], .int .i64 8] tl b) = some (.val (.int .u64 ((rdOf (tl h)).num 8)) [(h, ((rdOf (tl h)).drop 8).box)] b) := num_c tl b h 8 (by omega) hk hb
theorem one_c (tl : Nat → Option Blk) (b h : Nat) (hk : RdOk (tl h)) (hb : h < b) : run kp (.call f_play_reader_one [.ptr h []] tl b) = some (.val (.int .i64 ((rdOf (tl h)).num 1)) [(h, ((rdOf (tl h)).drop 1).box)] b) := by
  have hk' := hk
  obtain ⟨r, ht, _, _⟩ := hk
  rw [nr_one tl b h hk' hb r ht, ht, rdOf_mk]
theorem program_c (tl : Nat → Option Blk) (b h : Nat) (hk : RdOk (tl h)) (hb : h < b) : run kp (.call f_play_reader_program [.ptr h []] tl b) = some (.val (aV b (pgR (rdOf (tl h))).1) ((h, (pgR (rdOf (tl h))).2.box) :: aH b (pgR (rdOf (tl h))).1) (b + aN (pgR (rdOf (tl h))).1)) := by
  obtain ⟨r, ht, h1, h2⟩ := hk
  rw [program_call tl b h r ht h1 h2 hb, ht, rdOf_mk]
set_option maxRecDepth 10000 in
set_option maxHeartbeats 4000000 in
theorem handle_c (tl : Nat → Option Blk) (b h : Nat) (hk : RdOk (tl h)) (hb : h < b) :
    run kp (.call f_play_reader_handle [.ptr h []] tl b) = some (.val (.d (.agg [.int .i64 ((rdOf (tl h)).num 1), .int .i64 (((rdOf (tl h)).drop 1).num 1)])) [(h, (((rdOf (tl h)).drop 1).drop 1).box)] b) := by
  have F := natF8 h b hb
  obtain ⟨r, ht, hr⟩ := hk
  have d1 := Rd.drop_ok 1 hr
  rw [ht, rdOf_mk, run_call, kp_play_reader_handle]
  simp [-Blk.hs, -Blk.ren, rdbox_hs, rdbox_ren, hsB, hsR, hsD, renB, renR, renD, k_play_reader_handle, canK_canH, one_c, ht, hb, F, gOf_below hb, gOf, hlook, hr, d1]
def rr (l : List Inst) : RRow := (l.isEmpty, l)
/-- A call, as bytes say. -/
def pCall (r : Rd) : Cl × Rd :=
  let k := r.num 1
  let r1 := r.drop 1
  if k = 1 then
    let r2 := r1.drop 1
    let r3 := r2.drop 4
    let r4 := r3.drop 4
    let m := pgR r4
    let w := pgR m.2
    let o := pgR w.2
    (⟨k, r1.num 1, IntKind.i64.wrap (r2.num 4), IntKind.i64.wrap (r3.num 4), rr m.1, rr w.1, rr o.1, 0, 0, 0, 0, 0⟩, o.2)
  else if k = 6 then ({ Cl.zero k with a := r1.num 1, n := IntKind.i64.wrap ((r1.drop 1).num 8) }, (r1.drop 1).drop 8)
  else if k = 7 then ({ Cl.zero k with at_ := r1.num 1, gen := (r1.drop 1).num 1, n := IntKind.i64.wrap (((r1.drop 1).drop 1).num 8) }, ((r1.drop 1).drop 1).drop 8)
  else if k = 8 then ({ Cl.zero k with at_ := r1.num 1, gen := (r1.drop 1).num 1, a := ((r1.drop 1).drop 1).num 1 }, ((r1.drop 1).drop 1).drop 1)
  else if k = 9 then ({ Cl.zero k with at_ := r1.num 1, gen := (r1.drop 1).num 1, mask := IntKind.u32.wrap (((r1.drop 1).drop 1).num 4) }, ((r1.drop 1).drop 1).drop 4)
  else if k = 10 then ({ Cl.zero k with at_ := r1.num 1, gen := (r1.drop 1).num 1, a := ((r1.drop 1).drop 1).num 1, mask := IntKind.u32.wrap ((((r1.drop 1).drop 1).drop 1).num 4) }, (((r1.drop 1).drop 1).drop 1).drop 4)
  else if k = 11 then ({ Cl.zero k with at_ := r1.num 1, gen := (r1.drop 1).num 1 }, (r1.drop 1).drop 1)
  else (Cl.zero k, r1)
set_option maxRecDepth 10000 in
set_option maxHeartbeats 16000000 in
theorem call_small (tl : Nat → Option Blk) (b h : Nat) (r : Rd) (ht : tl h = some r.box) (hr : bytesOk r.b ∧ r.b.length ≤ 100000) (hb : h < b) (hk : r.num 1 ≠ 1) :
    run kp (.call f_play_reader_call [.ptr h []] tl b) = some (.val (.d (pCall r).1.d) [(h, (pCall r).2.box)] b) := by
  have F := natF8 h b hb
  have d1 := Rd.drop_ok 1 hr
  have d2 := Rd.drop_ok 1 d1
  have d3 := Rd.drop_ok 1 d2
  have d4 := Rd.drop_ok 1 d3
  rw [run_call, kp_play_reader_call]
  unfold pCall
  simp only [if_neg hk]
  by_cases h6 : r.num 1 = 6
  · simp [-Blk.hs, -Blk.ren, rdbox_hs, rdbox_ren, hsB, hsR, hsD, renB, renR, renD, k_play_reader_call, canK_canH, one_c, num_c4, num_c8, handle_c, ht, hb, F, gOf_below hb, gOf, hlook, hr, d1, d2, d3, d4, h6, Cl.d, Cl.zero, rowD, noRow]
  by_cases h7 : r.num 1 = 7
  · simp [-Blk.hs, -Blk.ren, rdbox_hs, rdbox_ren, hsB, hsR, hsD, renB, renR, renD, k_play_reader_call, canK_canH, one_c, num_c4, num_c8, handle_c, ht, hb, F, gOf_below hb, gOf, hlook, hr, d1, d2, d3, d4, h6, h7, Cl.d, Cl.zero, rowD, noRow]
  by_cases h8 : r.num 1 = 8
  · simp [-Blk.hs, -Blk.ren, rdbox_hs, rdbox_ren, hsB, hsR, hsD, renB, renR, renD, k_play_reader_call, canK_canH, one_c, num_c4, num_c8, handle_c, ht, hb, F, gOf_below hb, gOf, hlook, hr, d1, d2, d3, d4, h6, h7, h8, Cl.d, Cl.zero, rowD, noRow]
  by_cases h9 : r.num 1 = 9
  · simp [-Blk.hs, -Blk.ren, rdbox_hs, rdbox_ren, hsB, hsR, hsD, renB, renR, renD, k_play_reader_call, canK_canH, one_c, num_c4, num_c8, handle_c, ht, hb, F, gOf_below hb, gOf, hlook, hr, d1, d2, d3, d4, h6, h7, h8, h9, Cl.d, Cl.zero, rowD, noRow]
  by_cases h10 : r.num 1 = 10
  · simp [-Blk.hs, -Blk.ren, rdbox_hs, rdbox_ren, hsB, hsR, hsD, renB, renR, renD, k_play_reader_call, canK_canH, one_c, num_c4, num_c8, handle_c, ht, hb, F, gOf_below hb, gOf, hlook, hr, d1, d2, d3, d4, h6, h7, h8, h9, h10, Cl.d, Cl.zero, rowD, noRow]
  by_cases h11 : r.num 1 = 11
  · simp [-Blk.hs, -Blk.ren, rdbox_hs, rdbox_ren, hsB, hsR, hsD, renB, renR, renD, k_play_reader_call, canK_canH, one_c, num_c4, num_c8, handle_c, ht, hb, F, gOf_below hb, gOf, hlook, hr, d1, d2, d3, d4, h6, h7, h8, h9, h10, h11, Cl.d, Cl.zero, rowD, noRow]
  simp [-Blk.hs, -Blk.ren, rdbox_hs, rdbox_ren, hsB, hsR, hsD, renB, renR, renD, k_play_reader_call, canK_canH, one_c, num_c4, num_c8, handle_c, ht, hb, F, gOf_below hb, gOf, hlook, hr, d1, d2, d3, d4, hk, h6, h7, h8, h9, h10, h11, Cl.d, Cl.zero, rowD, noRow]
end Go.Cd
