/- Programs read, the program's, whole. No conditions. -/
import Derived.Test.YtjoocolnbmpkkaaR7QPlC
set_option linter.unusedVariables false
set_option linter.unusedSimpArgs false
namespace Go.Cd
open Go Go.Fw
def pProg : Nat → Rd → List Inst → List Inst × Rd
  | 0, r, acc => (acc, r)
  | n + 1, r, acc => if r.bad = true then (acc, r) else if r.over 7 = true then (acc ++ [zeroI], gone) else if mayF (decI (r.b.take 7)) = true then pProg n ⟨r.nl, r.b.drop 7, false⟩ (acc ++ [decI (r.b.take 7)]) else (acc, gone)
theorem pg_loop (h : Nat) (tl : Nat → Option Blk) (b : Nat) (hb : h < b) : ∀ (n : Nat) (r : Rd) (acc : List Inst), bytesOk r.b → r.b.length ≤ 100000 → acc.length + n ≤ 1000 →
    ∃ s, run kp (.loop [0, 2, 3] k_play_reader_program_L0 (pgSt h r acc n [] tl b)) = some (.out (.ext 0) s) ∧
      ((∃ i, s = pgSt h (pProg n r acc).2 (pProg n r acc).1 i [(16, .bool false)] tl b) ∨ (∃ i nl C, s = pgNo h (pProg n r acc).1 i nl C tl b ∧ (pProg n r acc).2 = gone))
  | 0, r, acc, hr, hrl, hl => ⟨_, pg_stop r h acc 0 tl b hb (.inl rfl), .inl ⟨0, rfl⟩⟩
  | n + 1, r, acc, hr, hrl, hl => by
    unfold pProg
    cases hbd : r.bad with
    | true => exact ⟨_, pg_stop r h acc (n + 1) tl b hb (.inr hbd), .inl ⟨n + 1, by simp⟩⟩
    | false =>
      simp only [Bool.false_eq_true, if_false]
      cases ho : r.over 7 with
      | true =>
        refine ⟨_, (pg_over r hrl h acc (by omega) n (by omega) tl b hb hbd ho).trans (pg_stop gone h _ n tl b hb (.inr rfl)), .inl ⟨n, by simp⟩⟩
      | false =>
        simp only [Bool.false_eq_true, if_false]
        cases hm : mayF (decI (r.b.take 7)) with
        | true =>
          rw [pg_ok r hr hrl h acc (by omega) n (by omega) tl b hb ho hm]
          simp only [if_true]
          exact pg_loop h tl b hb n ⟨r.nl, r.b.drop 7, false⟩ _ (fun x hx => hr x (List.mem_of_mem_drop hx)) (by simp; omega) (by simp; omega)
        | false => exact ⟨_, pg_no r hr hrl h acc (by omega) n (by omega) tl b hb ho hm, .inr ⟨n, r.nl, r.b.take 7, by simp, by simp⟩⟩
theorem num1_range {r : Rd} (hr : bytesOk r.b) : 0 ≤ r.num 1 ∧ r.num 1 < 256 := by
  unfold Rd.num
  split
  · omega
  · have := be_range (r.b.take 1) (fun x hx => hr x (List.mem_of_mem_take hx))
    have h2 : (256 : Int) ^ (r.b.take 1).length ≤ 256 ^ 1 := pow256 (by simp; omega)
    omega
def pgR (r : Rd) : List Inst × Rd := pProg (r.num 1).toNat (r.drop 1) []
set_option maxRecDepth 10000 in
set_option maxHeartbeats 8000000 in
theorem program_call (tl : Nat → Option Blk) (b h : Nat) (r : Rd) (ht : tl h = some r.box) (hr : bytesOk r.b) (hl : r.b.length ≤ 100000) (hb : h < b) :
    run kp (.call f_play_reader_program [.ptr h []] tl b) = some (.val (aV b (pgR r).1) ((h, (pgR r).2.box) :: aH b (pgR r).1) (b + aN (pgR r).1)) := by
  have o := nr_one tl b h (by rw [ht]; exact (rdOk_mk r).2 ⟨hr, hl⟩) hb r ht
  have F := natF8 h b hb
  have rg := num1_range hr
  obtain ⟨n, hn⟩ : ∃ n : Nat, r.num 1 = (n : Int) := ⟨(r.num 1).toNat, by omega⟩
  obtain ⟨d1, d2⟩ := Rd.drop_ok 1 ⟨hr, hl⟩
  obtain ⟨s, l1, l2⟩ := pg_loop h tl b hb n (r.drop 1) [] d1 d2 (by simp; omega)
  have e : pgR r = pProg n (r.drop 1) [] := by unfold pgR; rw [hn, Int.toNat_natCast]
  rw [e]
  rw [hn] at o
  generalize pProg n (r.drop 1) [] = pr at *
  obtain ⟨acc, r'⟩ := pr
  simp only [pgSt, Rd.box, aV, aH, aN, Nat.add_zero, List.append_nil, List.cons_append, List.nil_append] at l1
  simp only [Rd.box] at o
  rw [run_call, kp_play_reader_program]
  rcases l2 with ⟨i, rfl⟩ | ⟨i, nl, C, rfl, hg⟩
  · cases acc with
    | nil => simp [k_play_reader_program, canK_canH, o, hb, F, gOf_below hb, gOf, hlook, l1, pgSt, aV, aH, aN, Rd.box]
    | cons y acc => simp [k_play_reader_program, canK_canH, o, hb, F, gOf_below hb, gOf, hlook, l1, pgSt, aV, aH, aN, Rd.box]
  · simp only at hg
    subst hg
    cases acc with
    | nil => simp [k_play_reader_program, canK_canH, o, hb, F, gOf_below hb, gOf, hlook, l1, pgNo, aV, aH, aN, Rd.box]
    | cons y acc => simp [k_play_reader_program, canK_canH, o, hb, F, gOf_below hb, gOf, hlook, l1, pgNo, aV, aH, aN, Rd.box]
end Go.Cd
