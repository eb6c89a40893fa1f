/- Calls read, the document's. No conditions. -/
import Derived.Test.YtjoocolnbmpkkaaR7QPlK
set_option linter.unusedVariables false
set_option linter.unusedSimpArgs false
namespace Go.Cd
open Go Go.Fw
theorem rW_in3 {hp : Hp} {r : Rd} {h : Nat} (hl : hlook hp h = some r.box) : hputs hp (rW r (rcR r).2 1 h) = hput hp h (rcR r).2.box := rW_in hl (fun e => (rcR_bad e).1)
theorem rProg_ok : ∀ (n : Nat) (r : Rd) (acc : List Inst), bytesOk r.b ∧ r.b.length ≤ 100000 → bytesOk (rProg n r acc).2.b ∧ (rProg n r acc).2.b.length ≤ 100000
  | 0, r, acc, h => h
  | n + 1, r, acc, h => by
    unfold rProg
    split
    · exact h
    · exact rProg_ok n _ _ ⟨fun x hx => h.1 x (List.mem_of_mem_drop hx), by simp; omega⟩
theorem rcR_ok {r : Rd} (h : bytesOk r.b ∧ r.b.length ≤ 100000) : bytesOk (rcR r).2.b ∧ (rcR r).2.b.length ≤ 100000 := by
  unfold rcR
  split
  · exact rdrop_ok 1 h
  · exact rProg_ok _ _ _ (rdrop_ok 1 h)
/-- A call, as the document reads. -/
def rCall (r : Rd) : Cl × Rd :=
  let k := r.num 1
  let r1 := r.rdrop 1
  if k = 1 then
    let r2 := r1.rdrop 1
    let r3 := r2.rdrop 4
    let r4 := r3.rdrop 4
    let m := rcR r4
    let w := rcR m.2
    let o := rcR w.2
    (⟨k, r1.num 1, IntKind.i64.wrap (r2.num 4), IntKind.i64.wrap (r3.num 4), rr m.1, rr w.1, rr o.1, 0, 0, 0, 0, 0⟩, o.2)
  else if k = 6 then ({ Cl.zero k with a := r1.num 1, n := IntKind.i64.wrap ((r1.rdrop 1).num 8) }, (r1.rdrop 1).rdrop 8)
  else if k = 7 then ({ Cl.zero k with at_ := r1.num 1, gen := (r1.rdrop 1).num 1, n := IntKind.i64.wrap (((r1.rdrop 1).rdrop 1).num 8) }, ((r1.rdrop 1).rdrop 1).rdrop 8)
  else if k = 8 then ({ Cl.zero k with at_ := r1.num 1, gen := (r1.rdrop 1).num 1, a := ((r1.rdrop 1).rdrop 1).num 1 }, ((r1.rdrop 1).rdrop 1).rdrop 1)
  else if k = 9 then ({ Cl.zero k with at_ := r1.num 1, gen := (r1.rdrop 1).num 1, mask := IntKind.u32.wrap (((r1.rdrop 1).rdrop 1).num 4) }, ((r1.rdrop 1).rdrop 1).rdrop 4)
  else if k = 10 then ({ Cl.zero k with at_ := r1.num 1, gen := (r1.rdrop 1).num 1, a := ((r1.rdrop 1).rdrop 1).num 1, mask := IntKind.u32.wrap ((((r1.rdrop 1).rdrop 1).rdrop 1).num 4) }, (((r1.rdrop 1).rdrop 1).rdrop 1).rdrop 4)
  else if k = 11 then ({ Cl.zero k with at_ := r1.num 1, gen := (r1.rdrop 1).num 1 }, (r1.rdrop 1).rdrop 1)
  else (Cl.zero k, r1)
theorem num1_wrap' {r : Rd} (h : bytesOk r.b ∧ r.b.length ≤ 100000) : IntKind.i64.wrap (r.num 1) = r.num 1 := num1_wrap h.1
set_option maxRecDepth 10000 in
set_option maxHeartbeats 16000000 in
theorem rcall_small (tl : Nat → Option Blk) (b h : Nat) (r : Rd) (ht : tl h = some r.box) (hr : bytesOk r.b ∧ r.b.length ≤ 100000) (hb : h < b) (hbd : r.bad = false) (hk : r.num 1 ≠ 1) :
    run kp (.call f_ref27_call [.ptr h []] tl b) = some (.val (.d (rCall r).1.d) [(h, (rCall r).2.box)] b) := by
  have F := natF8 h b hb
  have d1 := rdrop_ok 1 hr
  have d2 := rdrop_ok 1 d1
  have d3 := rdrop_ok 1 d2
  have d4 := rdrop_ok 1 d3
  have w0 := num1_wrap' hr
  have w1 := num1_wrap' d1
  have w2 := num1_wrap' d2
  have w3 := num1_wrap' d3
  have rw0 : ∀ r' n, rW r r' n h = [(h, r'.box)] := fun r' n => by unfold rW; rw [if_neg (by simp [hbd])]
  rw [run_call, kp_ref27_call]
  unfold rCall
  simp only [if_neg hk]
  by_cases h6 : r.num 1 = 6
  · rw [h6] at w0
    simp [-Blk.hs, -Blk.ren, rdbox_hs, rdbox_ren, hsB, hsR, hsD, renB, renR, renD, k_ref27_call, canK_canH, rnum_c1, rnum_c4, rnum_c8, rhandle_c, ht, hb, F, gOf_below hb, gOf, hlook, hr, d1, d2, d3, d4, w0, w1, w2, w3, rw0, rW_in1, rW_in2, h6, Cl.d, Cl.zero, rowD, noRow]
  by_cases h7 : r.num 1 = 7
  · rw [h7] at w0
    simp [-Blk.hs, -Blk.ren, rdbox_hs, rdbox_ren, hsB, hsR, hsD, renB, renR, renD, k_ref27_call, canK_canH, rnum_c1, rnum_c4, rnum_c8, rhandle_c, ht, hb, F, gOf_below hb, gOf, hlook, hr, d1, d2, d3, d4, w0, w1, w2, w3, rw0, rW_in1, rW_in2, h6, h7, Cl.d, Cl.zero, rowD, noRow]
  by_cases h8 : r.num 1 = 8
  · rw [h8] at w0
    simp [-Blk.hs, -Blk.ren, rdbox_hs, rdbox_ren, hsB, hsR, hsD, renB, renR, renD, k_ref27_call, canK_canH, rnum_c1, rnum_c4, rnum_c8, rhandle_c, ht, hb, F, gOf_below hb, gOf, hlook, hr, d1, d2, d3, d4, w0, w1, w2, w3, rw0, rW_in1, rW_in2, h6, h7, h8, Cl.d, Cl.zero, rowD, noRow]
  by_cases h9 : r.num 1 = 9
  · rw [h9] at w0
    simp [-Blk.hs, -Blk.ren, rdbox_hs, rdbox_ren, hsB, hsR, hsD, renB, renR, renD, k_ref27_call, canK_canH, rnum_c1, rnum_c4, rnum_c8, rhandle_c, ht, hb, F, gOf_below hb, gOf, hlook, hr, d1, d2, d3, d4, w0, w1, w2, w3, rw0, rW_in1, rW_in2, h6, h7, h8, h9, Cl.d, Cl.zero, rowD, noRow]
  by_cases h10 : r.num 1 = 10
  · rw [h10] at w0
    simp [-Blk.hs, -Blk.ren, rdbox_hs, rdbox_ren, hsB, hsR, hsD, renB, renR, renD, k_ref27_call, canK_canH, rnum_c1, rnum_c4, rnum_c8, rhandle_c, ht, hb, F, gOf_below hb, gOf, hlook, hr, d1, d2, d3, d4, w0, w1, w2, w3, rw0, rW_in1, rW_in2, h6, h7, h8, h9, h10, Cl.d, Cl.zero, rowD, noRow]
  by_cases h11 : r.num 1 = 11
  · rw [h11] at w0
    simp [-Blk.hs, -Blk.ren, rdbox_hs, rdbox_ren, hsB, hsR, hsD, renB, renR, renD, k_ref27_call, canK_canH, rnum_c1, rnum_c4, rnum_c8, rhandle_c, ht, hb, F, gOf_below hb, gOf, hlook, hr, d1, d2, d3, d4, w0, w1, w2, w3, rw0, rW_in1, rW_in2, h6, h7, h8, h9, h10, h11, Cl.d, Cl.zero, rowD, noRow]
  simp [-Blk.hs, -Blk.ren, rdbox_hs, rdbox_ren, hsB, hsR, hsD, renB, renR, renD, k_ref27_call, canK_canH, rnum_c1, rnum_c4, rnum_c8, rhandle_c, ht, hb, F, gOf_below hb, gOf, hlook, hr, d1, d2, d3, d4, w0, w1, w2, w3, rw0, rW_in1, rW_in2, hk, h6, h7, h8, h9, h10, h11, Cl.d, Cl.zero, rowD, noRow]
set_option maxRecDepth 10000 in
set_option maxHeartbeats 64000000 in
theorem rcall_admit (tl : Nat → Option Blk) (b h : Nat) (r : Rd) (ht : tl h = some r.box) (hr : bytesOk r.b ∧ r.b.length ≤ 100000) (hb : h < b) (hbd : r.bad = false) (hk : r.num 1 = 1) :
    run kp (.call f_ref27_call [.ptr h []] tl b) = some (.val (admV b (rCall r).1) ((h, (rCall r).2.box) :: admH b (rCall r).1) (b + admN (rCall r).1)) := by
  have F := natF8 h b hb
  have d1 := rdrop_ok 1 hr
  have d2 := rdrop_ok 1 d1
  have d3 := rdrop_ok 4 d2
  have d4 := rdrop_ok 4 d3
  have d5 := rcR_ok d4
  have d6 := rcR_ok d5
  have w1 := num1_wrap' d1
  have z1 : IntKind.i64.wrap 1 = 1 := by decide
  have rw0 : ∀ r' n, rW r r' n h = [(h, r'.box)] := fun r' n => by unfold rW; rw [if_neg (by simp [hbd])]
  have i4 : ∀ {hp : Hp}, hlook hp h = some (((r.rdrop 1).rdrop 1 |>.rdrop 4).rdrop 4).box → hputs hp (rW (((r.rdrop 1).rdrop 1 |>.rdrop 4).rdrop 4) (rcR (((r.rdrop 1).rdrop 1 |>.rdrop 4).rdrop 4)).2 1 h) = hput hp h (rcR (((r.rdrop 1).rdrop 1 |>.rdrop 4).rdrop 4)).2.box := rW_in3
  rw [run_call, kp_ref27_call]
  unfold rCall
  simp only [if_pos hk]
  obtain ⟨M, hM⟩ : ∃ M, rcR (((r.rdrop 1).rdrop 1 |>.rdrop 4).rdrop 4) = M := ⟨_, rfl⟩
  have i5 : ∀ {hp : Hp}, hlook hp h = some M.2.box → hputs hp (rW M.2 (rcR M.2).2 1 h) = hput hp h (rcR M.2).2.box := rW_in3
  rw [hM] at d5 d6
  obtain ⟨W, hW⟩ : ∃ W, rcR M.2 = W := ⟨_, rfl⟩
  have i6 : ∀ {hp : Hp}, hlook hp h = some W.2.box → hputs hp (rW W.2 (rcR W.2).2 1 h) = hput hp h (rcR W.2).2.box := rW_in3
  rw [hW] at d6
  obtain ⟨O, hO⟩ : ∃ O, rcR W.2 = O := ⟨_, rfl⟩
  simp only [hM] at i4
  simp only [hW] at i5
  simp only [hO] at i6
  obtain ⟨M, rM⟩ := M
  obtain ⟨W, rW'⟩ := W
  obtain ⟨O, rO⟩ := O
  simp only at d5 d6 hW hO i4 i5 i6
  simp only [hM, hW, hO, hk]
  rcases M with _ | ⟨x, M⟩ <;> rcases W with _ | ⟨y, W⟩ <;> rcases O with _ | ⟨z, O⟩
  all_goals simp [-Blk.hs, -Blk.ren, rdbox_hs, rdbox_ren, hsB, hsR, hsD, renB, renR, renD, k_ref27_call, canK_canH, rnum_c1, rnum_c4, rnum_c8, code_c, ht, hb, F, gOf_below hb, gOf, hlook, hr, d1, d2, d3, d4, d5, d6, w1, z1, rw0, rW_in1, i4, i5, i6, hputs_append, hk, hM, hW, hO, aV, aH, aN, admV, admH, admN, rr, Cl.d, rowD]
theorem rcall_c (tl : Nat → Option Blk) (b h : Nat) (hk : RdOk (tl h)) (hb : h < b) (hbd : (rdOf (tl h)).bad = false) :
    run kp (.call f_ref27_call [.ptr h []] tl b) = some (.val (admV b (rCall (rdOf (tl h))).1) ((h, (rCall (rdOf (tl h))).2.box) :: admH b (rCall (rdOf (tl h))).1) (b + admN (rCall (rdOf (tl h))).1)) := by
  obtain ⟨r, ht, hr⟩ := hk
  rw [ht, rdOf_mk] at hbd ⊢
  by_cases h1 : r.num 1 = 1
  · exact rcall_admit tl b h r ht hr hb hbd h1
  · rw [rcall_small tl b h r ht hr hb hbd h1]
    have e : (rCall r).1.main = noRow ∧ (rCall r).1.way = noRow ∧ (rCall r).1.opt = noRow := by
      unfold rCall
      simp only [if_neg h1]
      repeat' split
      all_goals exact ⟨rfl, rfl, rfl⟩
    obtain ⟨e1, e2, e3⟩ := e
    unfold admV admH admN
    rw [e1, e2, e3]
    rfl
end Go.Cd
