/- Steps read, the program's: rounds. No conditions. -/
import Derived.Test.YtjoocolnbmpkkaaR7QPlG
set_option linter.unusedVariables false
set_option linter.unusedSimpArgs false
namespace Go.Cd
open Go Go.Fw
set_option maxRecDepth 10000 in
set_option maxHeartbeats 32000000 in
theorem dec_4_ok (r : Rd) (hr : bytesOk r.b ∧ r.b.length ≤ 100000) (acc : List Sp) (hl : acc.length ≤ 100000) (hne : r.b ≠ []) (kk : (r.num 1).tmod 6 = 4) (hb : ((r.drop 1).drop 1).bad = false) :
    run kp (.loop [2, 3] k_play_Decode_L0 (decSt r acc [])) = run kp (.loop [2, 3] k_play_Decode_L0 (decSt ((r.drop 1).drop 1) (acc ++ [⟨4, Cl.zero 0, (r.drop 1).num 1, 0⟩]) [])) := by
  have d1 := Rd.drop_ok 1 hr
  have hbx : r.box = .box (.d (.agg [.sl r.nl (r.b.map u8d), .bool r.bad])) := rfl
  have k1 := rdOk_ex hr
  have k2 := rdOf_ex r
  have hl0 : (0 : Int) < (r.b.length : Int) := by
    have := List.length_pos_iff.2 hne
    omega
  have hl1 : 0 < r.b.length := List.length_pos_iff.2 hne
  have k4 : True := trivial
  have k5 : True := trivial
  have hby : ((r.drop 1).drop 1).box = .box (.d (.agg [.sl ((r.drop 1).drop 1).nl (((r.drop 1).drop 1).b.map u8d), .bool ((r.drop 1).drop 1).bad])) := rfl
  rw [run_round]
  cases acc with
  | nil => simp [-Blk.hs, -Blk.ren, rdbox_hs, rdbox_ren, hsB, hsR, hsD, renB, renR, renD, c_play_Decode_L0, k_play_Decode_L0b, decSt, one_c, num_c2, call_c, hbx, k1, k2, d1, hl0, hl1, k4, k5, kk, hby, hb, Sp.d, Cl.d, Cl.zero, rowD, noRow]
  | cons x acc =>
    simp only [List.length_cons] at hl
    have q1 : acc.length ≤ 1073741822 := by omega
    simp [-Blk.hs, -Blk.ren, rdbox_hs, rdbox_ren, hsB, hsR, hsD, renB, renR, renD, c_play_Decode_L0, k_play_Decode_L0b, decSt, one_c, num_c2, call_c, hbx, k1, k2, d1, hl0, hl1, k4, k5, kk, hby, hb, Sp.d, Cl.d, Cl.zero, rowD, noRow, q1, take_Sp]
    try simp [Sp.d, Cl.d, take_Sp, rowD]
set_option maxRecDepth 10000 in
set_option maxHeartbeats 32000000 in
theorem dec_4_bad (r : Rd) (hr : bytesOk r.b ∧ r.b.length ≤ 100000) (acc : List Sp) (hl : acc.length ≤ 100000) (hne : r.b ≠ []) (kk : (r.num 1).tmod 6 = 4) (hb : ((r.drop 1).drop 1).bad = true) :
    ∃ s, run kp (.loop [2, 3] k_play_Decode_L0 (decSt r acc [])) = some (.out (.ext 0) s) ∧ FinS s acc := by
  have d1 := Rd.drop_ok 1 hr
  have hbx : r.box = .box (.d (.agg [.sl r.nl (r.b.map u8d), .bool r.bad])) := rfl
  have k1 := rdOk_ex hr
  have k2 := rdOf_ex r
  have hl0 : (0 : Int) < (r.b.length : Int) := by
    have := List.length_pos_iff.2 hne
    omega
  have hl1 : 0 < r.b.length := List.length_pos_iff.2 hne
  have k4 : True := trivial
  have k5 : True := trivial
  have hby : ((r.drop 1).drop 1).box = .box (.d (.agg [.sl ((r.drop 1).drop 1).nl (((r.drop 1).drop 1).b.map u8d), .bool ((r.drop 1).drop 1).bad])) := rfl
  rw [run_round]
  cases acc with
  | nil => simp [-Blk.hs, -Blk.ren, rdbox_hs, rdbox_ren, hsB, hsR, hsD, renB, renR, renD, c_play_Decode_L0, k_play_Decode_L0b, decSt, one_c, num_c2, call_c, hbx, k1, k2, d1, hl0, hl1, k4, k5, kk, hby, hb, Sp.d, Cl.d, Cl.zero, rowD, noRow, FinS, sV]
  | cons x acc =>
    simp only [List.length_cons] at hl
    have q1 : acc.length ≤ 1073741822 := by omega
    simp [-Blk.hs, -Blk.ren, rdbox_hs, rdbox_ren, hsB, hsR, hsD, renB, renR, renD, c_play_Decode_L0, k_play_Decode_L0b, decSt, one_c, num_c2, call_c, hbx, k1, k2, d1, hl0, hl1, k4, k5, kk, hby, hb, Sp.d, Cl.d, Cl.zero, rowD, noRow, FinS, sV, q1, take_Sp]
set_option maxRecDepth 10000 in
set_option maxHeartbeats 32000000 in
theorem dec_5_ok (r : Rd) (hr : bytesOk r.b ∧ r.b.length ≤ 100000) (acc : List Sp) (hl : acc.length ≤ 100000) (hne : r.b ≠ []) (kk : (r.num 1).tmod 6 = 5) (hb : ((r.drop 1).drop 2).bad = false) :
    run kp (.loop [2, 3] k_play_Decode_L0 (decSt r acc [])) = run kp (.loop [2, 3] k_play_Decode_L0 (decSt ((r.drop 1).drop 2) (acc ++ [⟨5, Cl.zero 0, 0, IntKind.i64.wrap ((r.drop 1).num 2)⟩]) [])) := by
  have d1 := Rd.drop_ok 1 hr
  have hbx : r.box = .box (.d (.agg [.sl r.nl (r.b.map u8d), .bool r.bad])) := rfl
  have k1 := rdOk_ex hr
  have k2 := rdOf_ex r
  have hl0 : (0 : Int) < (r.b.length : Int) := by
    have := List.length_pos_iff.2 hne
    omega
  have hl1 : 0 < r.b.length := List.length_pos_iff.2 hne
  have k4 : True := trivial
  have k5 : True := trivial
  have hby : ((r.drop 1).drop 2).box = .box (.d (.agg [.sl ((r.drop 1).drop 2).nl (((r.drop 1).drop 2).b.map u8d), .bool ((r.drop 1).drop 2).bad])) := rfl
  rw [run_round]
  cases acc with
  | nil => simp [-Blk.hs, -Blk.ren, rdbox_hs, rdbox_ren, hsB, hsR, hsD, renB, renR, renD, c_play_Decode_L0, k_play_Decode_L0b, decSt, one_c, num_c2, call_c, hbx, k1, k2, d1, hl0, hl1, k4, k5, kk, hby, hb, Sp.d, Cl.d, Cl.zero, rowD, noRow]
  | cons x acc =>
    simp only [List.length_cons] at hl
    have q1 : acc.length ≤ 1073741822 := by omega
    simp [-Blk.hs, -Blk.ren, rdbox_hs, rdbox_ren, hsB, hsR, hsD, renB, renR, renD, c_play_Decode_L0, k_play_Decode_L0b, decSt, one_c, num_c2, call_c, hbx, k1, k2, d1, hl0, hl1, k4, k5, kk, hby, hb, Sp.d, Cl.d, Cl.zero, rowD, noRow, q1, take_Sp]
    try simp [Sp.d, Cl.d, take_Sp, rowD]
set_option maxRecDepth 10000 in
set_option maxHeartbeats 32000000 in
theorem dec_5_bad (r : Rd) (hr : bytesOk r.b ∧ r.b.length ≤ 100000) (acc : List Sp) (hl : acc.length ≤ 100000) (hne : r.b ≠ []) (kk : (r.num 1).tmod 6 = 5) (hb : ((r.drop 1).drop 2).bad = true) :
    ∃ s, run kp (.loop [2, 3] k_play_Decode_L0 (decSt r acc [])) = some (.out (.ext 0) s) ∧ FinS s acc := by
  have d1 := Rd.drop_ok 1 hr
  have hbx : r.box = .box (.d (.agg [.sl r.nl (r.b.map u8d), .bool r.bad])) := rfl
  have k1 := rdOk_ex hr
  have k2 := rdOf_ex r
  have hl0 : (0 : Int) < (r.b.length : Int) := by
    have := List.length_pos_iff.2 hne
    omega
  have hl1 : 0 < r.b.length := List.length_pos_iff.2 hne
  have k4 : True := trivial
  have k5 : True := trivial
  have hby : ((r.drop 1).drop 2).box = .box (.d (.agg [.sl ((r.drop 1).drop 2).nl (((r.drop 1).drop 2).b.map u8d), .bool ((r.drop 1).drop 2).bad])) := rfl
  rw [run_round]
  cases acc with
  | nil => simp [-Blk.hs, -Blk.ren, rdbox_hs, rdbox_ren, hsB, hsR, hsD, renB, renR, renD, c_play_Decode_L0, k_play_Decode_L0b, decSt, one_c, num_c2, call_c, hbx, k1, k2, d1, hl0, hl1, k4, k5, kk, hby, hb, Sp.d, Cl.d, Cl.zero, rowD, noRow, FinS, sV]
  | cons x acc =>
    simp only [List.length_cons] at hl
    have q1 : acc.length ≤ 1073741822 := by omega
    simp [-Blk.hs, -Blk.ren, rdbox_hs, rdbox_ren, hsB, hsR, hsD, renB, renR, renD, c_play_Decode_L0, k_play_Decode_L0b, decSt, one_c, num_c2, call_c, hbx, k1, k2, d1, hl0, hl1, k4, k5, kk, hby, hb, Sp.d, Cl.d, Cl.zero, rowD, noRow, FinS, sV, q1, take_Sp]
set_option maxRecDepth 10000 in
set_option maxHeartbeats 32000000 in
theorem dec_o_ok (r : Rd) (hr : bytesOk r.b ∧ r.b.length ≤ 100000) (acc : List Sp) (hl : acc.length ≤ 100000) (hne : r.b ≠ []) (kk : ¬ (r.num 1).tmod 6 = 0) (k4 : ¬ (r.num 1).tmod 6 = 4) (k5 : ¬ (r.num 1).tmod 6 = 5) (k6 : ¬ (r.num 1).tmod 6 = 1) (hb : (r.drop 1).bad = false) :
    run kp (.loop [2, 3] k_play_Decode_L0 (decSt r acc [])) = run kp (.loop [2, 3] k_play_Decode_L0 (decSt (r.drop 1) (acc ++ [⟨(r.num 1).tmod 6, Cl.zero 0, 0, 0⟩]) [])) := by
  have d1 := Rd.drop_ok 1 hr
  have hbx : r.box = .box (.d (.agg [.sl r.nl (r.b.map u8d), .bool r.bad])) := rfl
  have k1 := rdOk_ex hr
  have k2 := rdOf_ex r
  have hl0 : (0 : Int) < (r.b.length : Int) := by
    have := List.length_pos_iff.2 hne
    omega
  have hl1 : 0 < r.b.length := List.length_pos_iff.2 hne
  have hby : (r.drop 1).box = .box (.d (.agg [.sl (r.drop 1).nl ((r.drop 1).b.map u8d), .bool (r.drop 1).bad])) := rfl
  rw [run_round]
  cases acc with
  | nil => simp [-Blk.hs, -Blk.ren, rdbox_hs, rdbox_ren, hsB, hsR, hsD, renB, renR, renD, c_play_Decode_L0, k_play_Decode_L0b, decSt, one_c, num_c2, call_c, hbx, k1, k2, d1, hl0, hl1, k4, k5, kk, k6, hby, hb, Sp.d, Cl.d, Cl.zero, rowD, noRow]
  | cons x acc =>
    simp only [List.length_cons] at hl
    have q1 : acc.length ≤ 1073741822 := by omega
    simp [-Blk.hs, -Blk.ren, rdbox_hs, rdbox_ren, hsB, hsR, hsD, renB, renR, renD, c_play_Decode_L0, k_play_Decode_L0b, decSt, one_c, num_c2, call_c, hbx, k1, k2, d1, hl0, hl1, k4, k5, kk, k6, hby, hb, Sp.d, Cl.d, Cl.zero, rowD, noRow, q1, take_Sp]
    try simp [Sp.d, Cl.d, take_Sp, rowD]
set_option maxRecDepth 10000 in
set_option maxHeartbeats 32000000 in
theorem dec_o_bad (r : Rd) (hr : bytesOk r.b ∧ r.b.length ≤ 100000) (acc : List Sp) (hl : acc.length ≤ 100000) (hne : r.b ≠ []) (kk : ¬ (r.num 1).tmod 6 = 0) (k4 : ¬ (r.num 1).tmod 6 = 4) (k5 : ¬ (r.num 1).tmod 6 = 5) (k6 : ¬ (r.num 1).tmod 6 = 1) (hb : (r.drop 1).bad = true) :
    ∃ s, run kp (.loop [2, 3] k_play_Decode_L0 (decSt r acc [])) = some (.out (.ext 0) s) ∧ FinS s acc := by
  have d1 := Rd.drop_ok 1 hr
  have hbx : r.box = .box (.d (.agg [.sl r.nl (r.b.map u8d), .bool r.bad])) := rfl
  have k1 := rdOk_ex hr
  have k2 := rdOf_ex r
  have hl0 : (0 : Int) < (r.b.length : Int) := by
    have := List.length_pos_iff.2 hne
    omega
  have hl1 : 0 < r.b.length := List.length_pos_iff.2 hne
  have hby : (r.drop 1).box = .box (.d (.agg [.sl (r.drop 1).nl ((r.drop 1).b.map u8d), .bool (r.drop 1).bad])) := rfl
  rw [run_round]
  cases acc with
  | nil => simp [-Blk.hs, -Blk.ren, rdbox_hs, rdbox_ren, hsB, hsR, hsD, renB, renR, renD, c_play_Decode_L0, k_play_Decode_L0b, decSt, one_c, num_c2, call_c, hbx, k1, k2, d1, hl0, hl1, k4, k5, kk, k6, hby, hb, Sp.d, Cl.d, Cl.zero, rowD, noRow, FinS, sV]
  | cons x acc =>
    simp only [List.length_cons] at hl
    have q1 : acc.length ≤ 1073741822 := by omega
    simp [-Blk.hs, -Blk.ren, rdbox_hs, rdbox_ren, hsB, hsR, hsD, renB, renR, renD, c_play_Decode_L0, k_play_Decode_L0b, decSt, one_c, num_c2, call_c, hbx, k1, k2, d1, hl0, hl1, k4, k5, kk, k6, hby, hb, Sp.d, Cl.d, Cl.zero, rowD, noRow, FinS, sV, q1, take_Sp]
set_option maxRecDepth 10000 in
set_option maxHeartbeats 64000000 in
theorem dec_1_ok (r : Rd) (hr : bytesOk r.b ∧ r.b.length ≤ 100000) (acc : List Sp) (hl : acc.length ≤ 100000) (hne : r.b ≠ []) (kk : (r.num 1).tmod 6 = 1) (hb : ((pCall (r.drop 1)).2).bad = false) :
    run kp (.loop [2, 3] k_play_Decode_L0 (decSt r acc [])) = run kp (.loop [2, 3] k_play_Decode_L0 (decSt ((pCall (r.drop 1)).2) (acc ++ [⟨1, (pCall (r.drop 1)).1, 0, 0⟩]) [])) := by
  have d1 := Rd.drop_ok 1 hr
  have hbx : r.box = .box (.d (.agg [.sl r.nl (r.b.map u8d), .bool r.bad])) := rfl
  have k1 := rdOk_ex hr
  have k2 := rdOf_ex r
  have hl0 : (0 : Int) < (r.b.length : Int) := by
    have := List.length_pos_iff.2 hne
    omega
  have hl1 : 0 < r.b.length := List.length_pos_iff.2 hne
  have k4 : True := trivial
  have k5 : True := trivial
  obtain ⟨m, w, p, e1, e2, e3⟩ := pCall_rows (r.drop 1)
  obtain ⟨c, hc⟩ : ∃ c, pCall (r.drop 1) = c := ⟨_, rfl⟩
  rw [hc] at e1 e2 e3 hb
  try rw [hc]
  obtain ⟨c, r'⟩ := c
  obtain ⟨kind, rank, period, stop, main, way, opt, at_, gen, a, n, mask⟩ := c
  simp only at e1 e2 e3 hb
  subst e1 e2 e3
  have hby : r'.box = .box (.d (.agg [.sl r'.nl (r'.b.map u8d), .bool r'.bad])) := rfl
  rw [run_round]

  rcases m with _ | ⟨m0, m⟩ <;> rcases w with _ | ⟨w0, w⟩ <;> rcases p with _ | ⟨p0, p⟩ <;> rcases acc with _ | ⟨x, acc⟩
  all_goals first
    | (simp only [List.length_cons] at hl
       have q1 : acc.length ≤ 1073741822 := by omega
       simp [-Blk.hs, -Blk.ren, rdbox_hs, rdbox_ren, hsB, hsR, hsD, renB, renR, renD, c_play_Decode_L0, k_play_Decode_L0b, decSt, one_c, num_c2, call_c, hbx, k1, k2, d1, hl0, hl1, k4, k5, kk, hby, hb, admV, admH, admN, aV, aH, aN, hc, rr, Sp.d, Cl.d, rowD, take_map_lenP, q1, take_Sp]
       done)
    | (simp [-Blk.hs, -Blk.ren, rdbox_hs, rdbox_ren, hsB, hsR, hsD, renB, renR, renD, c_play_Decode_L0, k_play_Decode_L0b, decSt, one_c, num_c2, call_c, hbx, k1, k2, d1, hl0, hl1, k4, k5, kk, hby, hb, admV, admH, admN, aV, aH, aN, hc, rr, Sp.d, Cl.d, rowD, take_map_lenP]
       done)
set_option maxRecDepth 10000 in
set_option maxHeartbeats 64000000 in
theorem dec_1_bad (r : Rd) (hr : bytesOk r.b ∧ r.b.length ≤ 100000) (acc : List Sp) (hl : acc.length ≤ 100000) (hne : r.b ≠ []) (kk : (r.num 1).tmod 6 = 1) (hb : ((pCall (r.drop 1)).2).bad = true) :
    ∃ s, run kp (.loop [2, 3] k_play_Decode_L0 (decSt r acc [])) = some (.out (.ext 0) s) ∧ FinS s acc := by
  have d1 := Rd.drop_ok 1 hr
  have hbx : r.box = .box (.d (.agg [.sl r.nl (r.b.map u8d), .bool r.bad])) := rfl
  have k1 := rdOk_ex hr
  have k2 := rdOf_ex r
  have hl0 : (0 : Int) < (r.b.length : Int) := by
    have := List.length_pos_iff.2 hne
    omega
  have hl1 : 0 < r.b.length := List.length_pos_iff.2 hne
  have k4 : True := trivial
  have k5 : True := trivial
  obtain ⟨m, w, p, e1, e2, e3⟩ := pCall_rows (r.drop 1)
  obtain ⟨c, hc⟩ : ∃ c, pCall (r.drop 1) = c := ⟨_, rfl⟩
  rw [hc] at e1 e2 e3 hb
  try rw [hc]
  obtain ⟨c, r'⟩ := c
  obtain ⟨kind, rank, period, stop, main, way, opt, at_, gen, a, n, mask⟩ := c
  simp only at e1 e2 e3 hb
  subst e1 e2 e3
  have hby : r'.box = .box (.d (.agg [.sl r'.nl (r'.b.map u8d), .bool r'.bad])) := rfl
  rw [run_round]

  rcases m with _ | ⟨m0, m⟩ <;> rcases w with _ | ⟨w0, w⟩ <;> rcases p with _ | ⟨p0, p⟩ <;> rcases acc with _ | ⟨x, acc⟩
  all_goals first
    | (simp only [List.length_cons] at hl
       have q1 : acc.length ≤ 1073741822 := by omega
       simp [-Blk.hs, -Blk.ren, rdbox_hs, rdbox_ren, hsB, hsR, hsD, renB, renR, renD, c_play_Decode_L0, k_play_Decode_L0b, decSt, one_c, num_c2, call_c, hbx, k1, k2, d1, hl0, hl1, k4, k5, kk, hby, hb, admV, admH, admN, aV, aH, aN, hc, rr, Sp.d, Cl.d, rowD, take_map_lenP, FinS, sV, q1, take_Sp]
       done)
    | (simp [-Blk.hs, -Blk.ren, rdbox_hs, rdbox_ren, hsB, hsR, hsD, renB, renR, renD, c_play_Decode_L0, k_play_Decode_L0b, decSt, one_c, num_c2, call_c, hbx, k1, k2, d1, hl0, hl1, k4, k5, kk, hby, hb, admV, admH, admN, aV, aH, aN, hc, rr, Sp.d, Cl.d, rowD, take_map_lenP, FinS, sV]
       done)
end Go.Cd
