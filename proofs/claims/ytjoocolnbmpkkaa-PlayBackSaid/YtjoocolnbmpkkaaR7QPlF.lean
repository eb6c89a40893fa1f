/- Calls that admit, read, the program's. No conditions. -/
import Derived.Test.YtjoocolnbmpkkaaR7QPlE
set_option linter.unusedVariables false
set_option linter.unusedSimpArgs false
namespace Go.Cd
open Go Go.Fw
theorem pProg_ok : ∀ (n : Nat) (r : Rd) (acc : List Inst), bytesOk r.b ∧ r.b.length ≤ 100000 → bytesOk (pProg n r acc).2.b ∧ (pProg n r acc).2.b.length ≤ 100000
  | 0, r, acc, h => h
  | n + 1, r, acc, h => by
    have g : bytesOk gone.b ∧ gone.b.length ≤ 100000 := ⟨fun x hx => by simp [gone] at hx, by simp [gone]⟩
    unfold pProg
    split
    · exact h
    · split
      · exact g
      · split
        · exact pProg_ok n _ _ ⟨fun x hx => h.1 x (List.mem_of_mem_drop hx), by simp; omega⟩
        · exact g
theorem pgR_ok {r : Rd} (h : bytesOk r.b ∧ r.b.length ≤ 100000) : bytesOk (pgR r).2.b ∧ (pgR r).2.b.length ≤ 100000 := pProg_ok _ _ _ (Rd.drop_ok 1 h)
/-- What a call that was read is: rows of one's own. -/
def admV (b : Nat) (c : Cl) : V :=
  match c.main.2, c.way.2, c.opt.2 with
  | [], [], [] => .d c.d
  | M, W, O => .agg [.int .i64 c.kind, .agg [.int .i64 c.rank, .int .i64 c.period, .int .i64 c.stop, aV b M, aV (b + aN M) W, aV (b + aN M + aN W) O], .d (.agg [.int .i64 c.at_, .int .i64 c.gen]), .int .i64 c.a, .int .i64 c.n, .int .u32 c.mask]
def admH (b : Nat) (c : Cl) : Hp := aH b c.main.2 ++ aH (b + aN c.main.2) c.way.2 ++ aH (b + aN c.main.2 + aN c.way.2) c.opt.2
def admN (c : Cl) : Nat := aN c.main.2 + aN c.way.2 + aN c.opt.2
set_option maxRecDepth 10000 in
set_option maxHeartbeats 16000000 in
theorem call_admit (tl : Nat → Option Blk) (b h : Nat) (r : Rd) (ht : tl h = some r.box) (hr : bytesOk r.b ∧ r.b.length ≤ 100000) (hb : h < b) (hk : r.num 1 = 1) :
    run kp (.call f_play_reader_call [.ptr h []] tl b) = some (.val (admV b (pCall r).1) ((h, (pCall r).2.box) :: admH b (pCall r).1) (b + admN (pCall r).1)) := by
  have F := natF8 h b hb
  have d1 := Rd.drop_ok 1 hr
  have d2 := Rd.drop_ok 1 d1
  have d3 := Rd.drop_ok 4 d2
  have d4 := Rd.drop_ok 4 d3
  have d5 := pgR_ok d4
  have d6 := pgR_ok d5
  rw [run_call, kp_play_reader_call]
  unfold pCall
  simp only [if_pos hk]
  obtain ⟨M, hM⟩ : ∃ M, pgR (((r.drop 1).drop 1 |>.drop 4).drop 4) = M := ⟨_, rfl⟩
  rw [hM] at d5 d6
  obtain ⟨W, hW⟩ : ∃ W, pgR M.2 = W := ⟨_, rfl⟩
  rw [hW] at d6
  obtain ⟨O, hO⟩ : ∃ O, pgR W.2 = O := ⟨_, rfl⟩
  obtain ⟨M, rM⟩ := M
  obtain ⟨W, rW⟩ := W
  obtain ⟨O, rO⟩ := O
  simp only at d5 d6 hW hO
  simp only [hM, hW, hO, hk]
  rcases M with _ | ⟨x, M⟩ <;> rcases W with _ | ⟨y, W⟩ <;> rcases O with _ | ⟨z, O⟩
  all_goals simp [-Blk.hs, -Blk.ren, rdbox_hs, rdbox_ren, hsB, hsR, hsD, renB, renR, renD, k_play_reader_call, canK_canH, one_c, num_c4, num_c8, program_c, ht, hb, F, gOf_below hb, gOf, hlook, hr, d1, d2, d3, d4, d5, d6, hk, hM, hW, hO, aV, aH, aN, admV, admH, admN, rr, Cl.d, rowD]
end Go.Cd
