/- Steps read, the document's: rounds. No conditions. -/
import Derived.Test.YtjoocolnbmpkkaaR7QPlL
set_option linter.unusedVariables false
set_option linter.unusedSimpArgs false
namespace Go.Cd
open Go Go.Fw
/-- A step, as the document reads; its kind is not nought. -/
def rStep (r : Rd) : Sp × Rd :=
  let k := (r.num 1).tmod 6
  let r1 := r.rdrop 1
  if k = 4 then (⟨k, Cl.zero 0, r1.num 1, 0⟩, r1.rdrop 1)
  else if k = 5 then (⟨k, Cl.zero 0, 0, IntKind.i64.wrap (r1.num 2)⟩, r1.rdrop 2)
  else if k = 1 then (⟨k, (rCall r1).1, 0, 0⟩, (rCall r1).2)
  else (⟨k, Cl.zero 0, 0, 0⟩, r1)
def rdSt (r : Rd) (acc : List Sp) (ex : List (Nat × V)) : St :=
  match acc with
  | [] => { env := [(3, .ptr 0 []), (4, .d (.sl true []))] ++ ex, hp := [(0, r.box)], tl := fun _ => none, base := 0, next := 1 }
  | x :: l => { env := [(3, .ptr 0 []), (4, .sl false 1 0 (x :: l).length)] ++ ex, hp := [(0, r.box), (1, .row true ((x :: l).map Sp.d))], tl := fun _ => none, base := 0, next := 2 }
def sV1 : List Sp → V
  | [] => .d (.sl true [])
  | x :: l => .sl false 1 0 (x :: l).length
def FinR (s : St) (acc : List Sp) : Prop := val s.env (.t 2) = sV1 acc ∧ (acc ≠ [] → hlook s.hp 1 = some (.row true (acc.map Sp.d))) ∧ s.base = 0 ∧ s.tl = fun _ => none
theorem rCall_rows (r : Rd) : ∃ m w p, (rCall r).1.main = rr m ∧ (rCall r).1.way = rr w ∧ (rCall r).1.opt = rr p := by
  unfold rCall
  simp only
  repeat' split
  · exact ⟨_, _, _, rfl, rfl, rfl⟩
  all_goals exact ⟨[], [], [], rfl, rfl, rfl⟩
theorem tmod_wrap {r : Rd} (hr : bytesOk r.b) : IntKind.i64.wrap ((r.num 1).tmod 6) = (r.num 1).tmod 6 := by
  have := num1_range hr
  have e := Int.tmod_eq_emod_of_nonneg this.1 (b := 6)
  rw [e]
  exact wrap_i64 (by omega) (by omega)
theorem rdrop1_bad {r : Rd} (hbd : r.bad = false) (hne : r.b ≠ []) : (r.rdrop 1).bad = false := by
  have := List.length_pos_iff.2 hne
  have ho : r.over 1 = false := by simp [Rd.over, hbd, hne]
  unfold Rd.rdrop
  rw [if_neg (by simp [ho])]
set_option maxRecDepth 10000 in
set_option maxHeartbeats 32000000 in
theorem rdec_skip (r : Rd) (hr : bytesOk r.b ∧ r.b.length ≤ 100000) (hbd : r.bad = false) (acc : List Sp) (hl : acc.length ≤ 100000) (hne : r.b ≠ []) (kk : (r.num 1).tmod 6 = 0) :
    run kp (.loop [3, 4] k_ref27_Decode_L0 (rdSt r acc [])) = run kp (.loop [3, 4] k_ref27_Decode_L0 (rdSt (r.rdrop 1) acc [])) := by
  have d1 := rdrop_ok 1 hr
  have hbx : r.box = .box (.d (.agg [.sl r.nl (r.b.map u8d), .bool r.bad])) := rfl
  have k1 := rdOk_ex hr
  have k2 := rdOf_ex r
  have hl0 : (0 : Int) < (r.b.length : Int) := by
    have := List.length_pos_iff.2 hne
    omega
  have hl1 : 0 < r.b.length := List.length_pos_iff.2 hne
  have rw0 : ∀ r' n, rW r r' n 0 = [(0, r'.box)] := fun r' n => by unfold rW; rw [if_neg (by simp [hbd])]
  have hd1 := rdrop1_bad hbd hne
  have wk := tmod_wrap hr.1
  rw [hbd] at k1 k2 hbx
  have k4 : True := trivial
  have k5 : True := trivial
  rw [kk] at wk
  rw [run_round]
  cases acc with
  | nil => simp [-Blk.hs, -Blk.ren, rdbox_hs, rdbox_ren, hsB, hsR, hsD, renB, renR, renD, c_ref27_Decode_L0, k_ref27_Decode_L0b, rdSt, rnum_c1, rnum_c2, rcall_c, hbx, k1, k2, d1, hl0, hl1, rw0, rW_in1, hd1, wk, k4, k5, kk]
  | cons x acc => simp [-Blk.hs, -Blk.ren, rdbox_hs, rdbox_ren, hsB, hsR, hsD, renB, renR, renD, c_ref27_Decode_L0, k_ref27_Decode_L0b, rdSt, rnum_c1, rnum_c2, rcall_c, hbx, k1, k2, d1, hl0, hl1, rw0, rW_in1, hd1, wk, k4, k5, kk]
set_option maxRecDepth 10000 in
set_option maxHeartbeats 32000000 in
theorem rdec_4_ok (r : Rd) (hr : bytesOk r.b ∧ r.b.length ≤ 100000) (hbd : r.bad = false) (acc : List Sp) (hl : acc.length ≤ 100000) (hne : r.b ≠ []) (kk : (r.num 1).tmod 6 = 4) (hb : ((r.rdrop 1).rdrop 1).bad = false) :
    run kp (.loop [3, 4] k_ref27_Decode_L0 (rdSt r acc [])) = run kp (.loop [3, 4] k_ref27_Decode_L0 (rdSt ((r.rdrop 1).rdrop 1) (acc ++ [⟨4, Cl.zero 0, (r.rdrop 1).num 1, 0⟩]) [])) := by
  have d1 := rdrop_ok 1 hr
  have hbx : r.box = .box (.d (.agg [.sl r.nl (r.b.map u8d), .bool r.bad])) := rfl
  have k1 := rdOk_ex hr
  have k2 := rdOf_ex r
  have hl0 : (0 : Int) < (r.b.length : Int) := by
    have := List.length_pos_iff.2 hne
    omega
  have hl1 : 0 < r.b.length := List.length_pos_iff.2 hne
  have rw0 : ∀ r' n, rW r r' n 0 = [(0, r'.box)] := fun r' n => by unfold rW; rw [if_neg (by simp [hbd])]
  have hd1 := rdrop1_bad hbd hne
  have wk := tmod_wrap hr.1
  rw [hbd] at k1 k2 hbx
  have k4 := num1_wrap' d1
  have k5 : True := trivial
  rw [kk] at wk
  have hby : ((r.rdrop 1).rdrop 1).box = .box (.d (.agg [.sl ((r.rdrop 1).rdrop 1).nl (((r.rdrop 1).rdrop 1).b.map u8d), .bool ((r.rdrop 1).rdrop 1).bad])) := rfl
  rw [run_round]
  cases acc with
  | nil => simp [-Blk.hs, -Blk.ren, rdbox_hs, rdbox_ren, hsB, hsR, hsD, renB, renR, renD, c_ref27_Decode_L0, k_ref27_Decode_L0b, rdSt, rnum_c1, rnum_c2, rcall_c, hbx, k1, k2, d1, hl0, hl1, rw0, rW_in1, hd1, wk, k4, k5, kk, hby, hb, Sp.d, Cl.d, Cl.zero, rowD, noRow]
  | cons x acc =>
    simp only [List.length_cons] at hl
    have q1 : acc.length ≤ 1073741822 := by omega
    simp [-Blk.hs, -Blk.ren, rdbox_hs, rdbox_ren, hsB, hsR, hsD, renB, renR, renD, c_ref27_Decode_L0, k_ref27_Decode_L0b, rdSt, rnum_c1, rnum_c2, rcall_c, hbx, k1, k2, d1, hl0, hl1, rw0, rW_in1, hd1, wk, k4, k5, kk, hby, hb, Sp.d, Cl.d, Cl.zero, rowD, noRow, q1, take_Sp]
    try simp [Sp.d, Cl.d, take_Sp, rowD]
set_option maxRecDepth 10000 in
set_option maxHeartbeats 32000000 in
theorem rdec_4_bad (r : Rd) (hr : bytesOk r.b ∧ r.b.length ≤ 100000) (hbd : r.bad = false) (acc : List Sp) (hl : acc.length ≤ 100000) (hne : r.b ≠ []) (kk : (r.num 1).tmod 6 = 4) (hb : ((r.rdrop 1).rdrop 1).bad = true) :
    ∃ s, run kp (.loop [3, 4] k_ref27_Decode_L0 (rdSt r acc [])) = some (.out .ret s) ∧ FinR s acc := by
  have d1 := rdrop_ok 1 hr
  have hbx : r.box = .box (.d (.agg [.sl r.nl (r.b.map u8d), .bool r.bad])) := rfl
  have k1 := rdOk_ex hr
  have k2 := rdOf_ex r
  have hl0 : (0 : Int) < (r.b.length : Int) := by
    have := List.length_pos_iff.2 hne
    omega
  have hl1 : 0 < r.b.length := List.length_pos_iff.2 hne
  have rw0 : ∀ r' n, rW r r' n 0 = [(0, r'.box)] := fun r' n => by unfold rW; rw [if_neg (by simp [hbd])]
  have hd1 := rdrop1_bad hbd hne
  have wk := tmod_wrap hr.1
  rw [hbd] at k1 k2 hbx
  have k4 := num1_wrap' d1
  have k5 : True := trivial
  rw [kk] at wk
  have hby : ((r.rdrop 1).rdrop 1).box = .box (.d (.agg [.sl ((r.rdrop 1).rdrop 1).nl (((r.rdrop 1).rdrop 1).b.map u8d), .bool ((r.rdrop 1).rdrop 1).bad])) := rfl
  rw [run_round]
  cases acc with
  | nil => simp [-Blk.hs, -Blk.ren, rdbox_hs, rdbox_ren, hsB, hsR, hsD, renB, renR, renD, c_ref27_Decode_L0, k_ref27_Decode_L0b, rdSt, rnum_c1, rnum_c2, rcall_c, hbx, k1, k2, d1, hl0, hl1, rw0, rW_in1, hd1, wk, k4, k5, kk, hby, hb, Sp.d, Cl.d, Cl.zero, rowD, noRow, FinR, sV1]
  | cons x acc =>
    simp only [List.length_cons] at hl
    have q1 : acc.length ≤ 1073741822 := by omega
    simp [-Blk.hs, -Blk.ren, rdbox_hs, rdbox_ren, hsB, hsR, hsD, renB, renR, renD, c_ref27_Decode_L0, k_ref27_Decode_L0b, rdSt, rnum_c1, rnum_c2, rcall_c, hbx, k1, k2, d1, hl0, hl1, rw0, rW_in1, hd1, wk, k4, k5, kk, hby, hb, Sp.d, Cl.d, Cl.zero, rowD, noRow, FinR, sV1, q1, take_Sp]
set_option maxRecDepth 10000 in
set_option maxHeartbeats 32000000 in
theorem rdec_5_ok (r : Rd) (hr : bytesOk r.b ∧ r.b.length ≤ 100000) (hbd : r.bad = false) (acc : List Sp) (hl : acc.length ≤ 100000) (hne : r.b ≠ []) (kk : (r.num 1).tmod 6 = 5) (hb : ((r.rdrop 1).rdrop 2).bad = false) :
    run kp (.loop [3, 4] k_ref27_Decode_L0 (rdSt r acc [])) = run kp (.loop [3, 4] k_ref27_Decode_L0 (rdSt ((r.rdrop 1).rdrop 2) (acc ++ [⟨5, Cl.zero 0, 0, IntKind.i64.wrap ((r.rdrop 1).num 2)⟩]) [])) := by
  have d1 := rdrop_ok 1 hr
  have hbx : r.box = .box (.d (.agg [.sl r.nl (r.b.map u8d), .bool r.bad])) := rfl
  have k1 := rdOk_ex hr
  have k2 := rdOf_ex r
  have hl0 : (0 : Int) < (r.b.length : Int) := by
    have := List.length_pos_iff.2 hne
    omega
  have hl1 : 0 < r.b.length := List.length_pos_iff.2 hne
  have rw0 : ∀ r' n, rW r r' n 0 = [(0, r'.box)] := fun r' n => by unfold rW; rw [if_neg (by simp [hbd])]
  have hd1 := rdrop1_bad hbd hne
  have wk := tmod_wrap hr.1
  rw [hbd] at k1 k2 hbx
  have k4 : True := trivial
  have k5 : True := trivial
  rw [kk] at wk
  have hby : ((r.rdrop 1).rdrop 2).box = .box (.d (.agg [.sl ((r.rdrop 1).rdrop 2).nl (((r.rdrop 1).rdrop 2).b.map u8d), .bool ((r.rdrop 1).rdrop 2).bad])) := rfl
  rw [run_round]
  cases acc with
  | nil => simp [-Blk.hs, -Blk.ren, rdbox_hs, rdbox_ren, hsB, hsR, hsD, renB, renR, renD, c_ref27_Decode_L0, k_ref27_Decode_L0b, rdSt, rnum_c1, rnum_c2, rcall_c, hbx, k1, k2, d1, hl0, hl1, rw0, rW_in1, hd1, wk, k4, k5, kk, hby, hb, Sp.d, Cl.d, Cl.zero, rowD, noRow]
  | cons x acc =>
    simp only [List.length_cons] at hl
    have q1 : acc.length ≤ 1073741822 := by omega
    simp [-Blk.hs, -Blk.ren, rdbox_hs, rdbox_ren, hsB, hsR, hsD, renB, renR, renD, c_ref27_Decode_L0, k_ref27_Decode_L0b, rdSt, rnum_c1, rnum_c2, rcall_c, hbx, k1, k2, d1, hl0, hl1, rw0, rW_in1, hd1, wk, k4, k5, kk, hby, hb, Sp.d, Cl.d, Cl.zero, rowD, noRow, q1, take_Sp]
    try simp [Sp.d, Cl.d, take_Sp, rowD]
set_option maxRecDepth 10000 in
set_option maxHeartbeats 32000000 in
theorem rdec_5_bad (r : Rd) (hr : bytesOk r.b ∧ r.b.length ≤ 100000) (hbd : r.bad = false) (acc : List Sp) (hl : acc.length ≤ 100000) (hne : r.b ≠ []) (kk : (r.num 1).tmod 6 = 5) (hb : ((r.rdrop 1).rdrop 2).bad = true) :
    ∃ s, run kp (.loop [3, 4] k_ref27_Decode_L0 (rdSt r acc [])) = some (.out .ret s) ∧ FinR s acc := by
  have d1 := rdrop_ok 1 hr
  have hbx : r.box = .box (.d (.agg [.sl r.nl (r.b.map u8d), .bool r.bad])) := rfl
  have k1 := rdOk_ex hr
  have k2 := rdOf_ex r
  have hl0 : (0 : Int) < (r.b.length : Int) := by
    have := List.length_pos_iff.2 hne
    omega
  have hl1 : 0 < r.b.length := List.length_pos_iff.2 hne
  have rw0 : ∀ r' n, rW r r' n 0 = [(0, r'.box)] := fun r' n => by unfold rW; rw [if_neg (by simp [hbd])]
  have hd1 := rdrop1_bad hbd hne
  have wk := tmod_wrap hr.1
  rw [hbd] at k1 k2 hbx
  have k4 : True := trivial
  have k5 : True := trivial
  rw [kk] at wk
  have hby : ((r.rdrop 1).rdrop 2).box = .box (.d (.agg [.sl ((r.rdrop 1).rdrop 2).nl (((r.rdrop 1).rdrop 2).b.map u8d), .bool ((r.rdrop 1).rdrop 2).bad])) := rfl
  rw [run_round]
  cases acc with
  | nil => simp [-Blk.hs, -Blk.ren, rdbox_hs, rdbox_ren, hsB, hsR, hsD, renB, renR, renD, c_ref27_Decode_L0, k_ref27_Decode_L0b, rdSt, rnum_c1, rnum_c2, rcall_c, hbx, k1, k2, d1, hl0, hl1, rw0, rW_in1, hd1, wk, k4, k5, kk, hby, hb, Sp.d, Cl.d, Cl.zero, rowD, noRow, FinR, sV1]
  | cons x acc =>
    simp only [List.length_cons] at hl
    have q1 : acc.length ≤ 1073741822 := by omega
    simp [-Blk.hs, -Blk.ren, rdbox_hs, rdbox_ren, hsB, hsR, hsD, renB, renR, renD, c_ref27_Decode_L0, k_ref27_Decode_L0b, rdSt, rnum_c1, rnum_c2, rcall_c, hbx, k1, k2, d1, hl0, hl1, rw0, rW_in1, hd1, wk, k4, k5, kk, hby, hb, Sp.d, Cl.d, Cl.zero, rowD, noRow, FinR, sV1, q1, take_Sp]
set_option maxRecDepth 10000 in
set_option maxHeartbeats 32000000 in
theorem rdec_o_ok (r : Rd) (hr : bytesOk r.b ∧ r.b.length ≤ 100000) (hbd : r.bad = false) (acc : List Sp) (hl : acc.length ≤ 100000) (hne : r.b ≠ []) (kk : ¬ (r.num 1).tmod 6 = 0) (k4 : ¬ (r.num 1).tmod 6 = 4) (k5 : ¬ (r.num 1).tmod 6 = 5) (k6 : ¬ (r.num 1).tmod 6 = 1) :
    run kp (.loop [3, 4] k_ref27_Decode_L0 (rdSt r acc [])) = run kp (.loop [3, 4] k_ref27_Decode_L0 (rdSt (r.rdrop 1) (acc ++ [⟨(r.num 1).tmod 6, Cl.zero 0, 0, 0⟩]) [])) := by
  have d1 := rdrop_ok 1 hr
  have hbx : r.box = .box (.d (.agg [.sl r.nl (r.b.map u8d), .bool r.bad])) := rfl
  have k1 := rdOk_ex hr
  have k2 := rdOf_ex r
  have hl0 : (0 : Int) < (r.b.length : Int) := by
    have := List.length_pos_iff.2 hne
    omega
  have hl1 : 0 < r.b.length := List.length_pos_iff.2 hne
  have rw0 : ∀ r' n, rW r r' n 0 = [(0, r'.box)] := fun r' n => by unfold rW; rw [if_neg (by simp [hbd])]
  have hd1 := rdrop1_bad hbd hne
  have wk := tmod_wrap hr.1
  rw [hbd] at k1 k2 hbx
  have hb := hd1
  have hby : (r.rdrop 1).box = .box (.d (.agg [.sl (r.rdrop 1).nl ((r.rdrop 1).b.map u8d), .bool (r.rdrop 1).bad])) := rfl
  rw [run_round]
  cases acc with
  | nil => simp [-Blk.hs, -Blk.ren, rdbox_hs, rdbox_ren, hsB, hsR, hsD, renB, renR, renD, c_ref27_Decode_L0, k_ref27_Decode_L0b, rdSt, rnum_c1, rnum_c2, rcall_c, hbx, k1, k2, d1, hl0, hl1, rw0, rW_in1, hd1, wk, k4, k5, kk, k6, hby, hb, Sp.d, Cl.d, Cl.zero, rowD, noRow]
  | cons x acc =>
    simp only [List.length_cons] at hl
    have q1 : acc.length ≤ 1073741822 := by omega
    simp [-Blk.hs, -Blk.ren, rdbox_hs, rdbox_ren, hsB, hsR, hsD, renB, renR, renD, c_ref27_Decode_L0, k_ref27_Decode_L0b, rdSt, rnum_c1, rnum_c2, rcall_c, hbx, k1, k2, d1, hl0, hl1, rw0, rW_in1, hd1, wk, k4, k5, kk, k6, hby, hb, Sp.d, Cl.d, Cl.zero, rowD, noRow, q1, take_Sp]
    try simp [Sp.d, Cl.d, take_Sp, rowD]
set_option maxRecDepth 10000 in
set_option maxHeartbeats 64000000 in
theorem rdec_1_ok (r : Rd) (hr : bytesOk r.b ∧ r.b.length ≤ 100000) (hbd : r.bad = false) (acc : List Sp) (hl : acc.length ≤ 100000) (hne : r.b ≠ []) (kk : (r.num 1).tmod 6 = 1) (hb : ((rCall (r.rdrop 1)).2).bad = false) :
    run kp (.loop [3, 4] k_ref27_Decode_L0 (rdSt r acc [])) = run kp (.loop [3, 4] k_ref27_Decode_L0 (rdSt ((rCall (r.rdrop 1)).2) (acc ++ [⟨1, (rCall (r.rdrop 1)).1, 0, 0⟩]) [])) := by
  have d1 := rdrop_ok 1 hr
  have hbx : r.box = .box (.d (.agg [.sl r.nl (r.b.map u8d), .bool r.bad])) := rfl
  have k1 := rdOk_ex hr
  have k2 := rdOf_ex r
  have hl0 : (0 : Int) < (r.b.length : Int) := by
    have := List.length_pos_iff.2 hne
    omega
  have hl1 : 0 < r.b.length := List.length_pos_iff.2 hne
  have rw0 : ∀ r' n, rW r r' n 0 = [(0, r'.box)] := fun r' n => by unfold rW; rw [if_neg (by simp [hbd])]
  have hd1 := rdrop1_bad hbd hne
  have wk := tmod_wrap hr.1
  rw [hbd] at k1 k2 hbx
  have k4 : True := trivial
  have k5 : True := trivial
  rw [kk] at wk
  obtain ⟨m, w, p, e1, e2, e3⟩ := rCall_rows (r.rdrop 1)
  obtain ⟨c, hc⟩ : ∃ c, rCall (r.rdrop 1) = c := ⟨_, rfl⟩
  rw [hc] at e1 e2 e3 hb
  try rw [hc]
  obtain ⟨c, r'⟩ := c
  obtain ⟨kind, rank, period, stop, main, way, opt, at_, gen, a, n, mask⟩ := c
  simp only at e1 e2 e3 hb
  subst e1 e2 e3
  have hby : r'.box = .box (.d (.agg [.sl r'.nl (r'.b.map u8d), .bool r'.bad])) := rfl
  rw [run_round]
  rcases m with _ | ⟨m0, m⟩ <;> rcases w with _ | ⟨w0, w⟩ <;> rcases p with _ | ⟨p0, p⟩ <;> rcases acc with _ | ⟨x, acc⟩
  all_goals first
    | (simp only [List.length_cons] at hl
       have q1 : acc.length ≤ 1073741822 := by omega
       simp [-Blk.hs, -Blk.ren, rdbox_hs, rdbox_ren, hsB, hsR, hsD, renB, renR, renD, c_ref27_Decode_L0, k_ref27_Decode_L0b, rdSt, rnum_c1, rnum_c2, rcall_c, hbx, k1, k2, d1, hl0, hl1, rw0, rW_in1, hd1, wk, k4, k5, kk, hby, hb, admV, admH, admN, aV, aH, aN, hc, rr, Sp.d, Cl.d, rowD, take_map_lenP, q1, take_Sp]
       done)
    | (simp [-Blk.hs, -Blk.ren, rdbox_hs, rdbox_ren, hsB, hsR, hsD, renB, renR, renD, c_ref27_Decode_L0, k_ref27_Decode_L0b, rdSt, rnum_c1, rnum_c2, rcall_c, hbx, k1, k2, d1, hl0, hl1, rw0, rW_in1, hd1, wk, k4, k5, kk, hby, hb, admV, admH, admN, aV, aH, aN, hc, rr, Sp.d, Cl.d, rowD, take_map_lenP]
       done)
set_option maxRecDepth 10000 in
set_option maxHeartbeats 64000000 in
theorem rdec_1_bad (r : Rd) (hr : bytesOk r.b ∧ r.b.length ≤ 100000) (hbd : r.bad = false) (acc : List Sp) (hl : acc.length ≤ 100000) (hne : r.b ≠ []) (kk : (r.num 1).tmod 6 = 1) (hb : ((rCall (r.rdrop 1)).2).bad = true) :
    ∃ s, run kp (.loop [3, 4] k_ref27_Decode_L0 (rdSt r acc [])) = some (.out .ret s) ∧ FinR s acc := by
  have d1 := rdrop_ok 1 hr
  have hbx : r.box = .box (.d (.agg [.sl r.nl (r.b.map u8d), .bool r.bad])) := rfl
  have k1 := rdOk_ex hr
  have k2 := rdOf_ex r
  have hl0 : (0 : Int) < (r.b.length : Int) := by
    have := List.length_pos_iff.2 hne
    omega
  have hl1 : 0 < r.b.length := List.length_pos_iff.2 hne
  have rw0 : ∀ r' n, rW r r' n 0 = [(0, r'.box)] := fun r' n => by unfold rW; rw [if_neg (by simp [hbd])]
  have hd1 := rdrop1_bad hbd hne
  have wk := tmod_wrap hr.1
  rw [hbd] at k1 k2 hbx
  have k4 : True := trivial
  have k5 : True := trivial
  rw [kk] at wk
  obtain ⟨m, w, p, e1, e2, e3⟩ := rCall_rows (r.rdrop 1)
  obtain ⟨c, hc⟩ : ∃ c, rCall (r.rdrop 1) = c := ⟨_, rfl⟩
  rw [hc] at e1 e2 e3 hb
  try rw [hc]
  obtain ⟨c, r'⟩ := c
  obtain ⟨kind, rank, period, stop, main, way, opt, at_, gen, a, n, mask⟩ := c
  simp only at e1 e2 e3 hb
  subst e1 e2 e3
  have hby : r'.box = .box (.d (.agg [.sl r'.nl (r'.b.map u8d), .bool r'.bad])) := rfl
  rw [run_round]
  rcases m with _ | ⟨m0, m⟩ <;> rcases w with _ | ⟨w0, w⟩ <;> rcases p with _ | ⟨p0, p⟩ <;> rcases acc with _ | ⟨x, acc⟩
  all_goals first
    | (simp only [List.length_cons] at hl
       have q1 : acc.length ≤ 1073741822 := by omega
       simp [-Blk.hs, -Blk.ren, rdbox_hs, rdbox_ren, hsB, hsR, hsD, renB, renR, renD, c_ref27_Decode_L0, k_ref27_Decode_L0b, rdSt, rnum_c1, rnum_c2, rcall_c, hbx, k1, k2, d1, hl0, hl1, rw0, rW_in1, hd1, wk, k4, k5, kk, hby, hb, admV, admH, admN, aV, aH, aN, hc, rr, Sp.d, Cl.d, rowD, take_map_lenP, FinR, sV1, q1, take_Sp]
       done)
    | (simp [-Blk.hs, -Blk.ren, rdbox_hs, rdbox_ren, hsB, hsR, hsD, renB, renR, renD, c_ref27_Decode_L0, k_ref27_Decode_L0b, rdSt, rnum_c1, rnum_c2, rcall_c, hbx, k1, k2, d1, hl0, hl1, rw0, rW_in1, hd1, wk, k4, k5, kk, hby, hb, admV, admH, admN, aV, aH, aN, hc, rr, Sp.d, Cl.d, rowD, take_map_lenP, FinR, sV1]
       done)
theorem rdec_end (r : Rd) (acc : List Sp) (he : r.b = []) :
    run kp (.loop [3, 4] k_ref27_Decode_L0 (rdSt r acc [])) = some (.out (.ext 0) (rdSt r acc [(14, .bool false)])) := by
  have hbx : r.box = .box (.d (.agg [.sl r.nl (r.b.map u8d), .bool r.bad])) := rfl
  rw [run_round]
  cases acc with
  | nil => simp [c_ref27_Decode_L0, k_ref27_Decode_L0b, rdSt, hbx, he]
  | cons x acc => simp [c_ref27_Decode_L0, k_ref27_Decode_L0b, rdSt, hbx, he]
end Go.Cd
