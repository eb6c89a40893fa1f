/- Programs read, the document's. No conditions. -/
import Derived.Test.YtjoocolnbmpkkaaR7QPlJ
set_option linter.unusedVariables false
set_option linter.unusedSimpArgs false
namespace Go.Cd
open Go Go.Fw
def rcSt (h : Nat) (r : Rd) (acc : List Inst) (i : Nat) (ex : List (Nat × V)) (tl : Nat → Option Blk) (b : Nat) : St :=
  { env := [(0, .ptr h []), (3, aV b acc), (4, .int .u64 (i : Int))] ++ ex, hp := (h, r.box) :: aH b acc, tl := tl, base := b, next := b + aN acc }
def rcNo (h : Nat) (r : Rd) (acc : List Inst) (i : Nat) (tl : Nat → Option Blk) (b : Nat) : St :=
  { env := [(3, aV b acc), (4, .int .u64 ((i : Int) + 1)), (17, .bool true), (5, .ptr (b + aN acc) []), (29, .bool true), (2, .d (.sl true []))], hp := (h, (Rd.mk r.nl r.b true).box) :: (aH b acc ++ [(b + aN acc, .box (.d zI.d))]), tl := tl, base := b, next := b + aN acc + 1 }
set_option maxRecDepth 10000 in
set_option maxHeartbeats 16000000 in
theorem rc_ok (r : Rd) (hr : bytesOk r.b) (hrl : r.b.length ≤ 100000) (h : Nat) (acc : List Inst) (hl : acc.length ≤ 1000) (i : Nat) (hi : i ≤ 1000) (tl : Nat → Option Blk) (b : Nat) (hb : h < b) (hbd : r.bad = false) (h7 : 7 ≤ r.b.length) (hm : mayF (decI (r.b.take 7)) = true) :
    run kp (.loop [0, 3, 4] k_ref27_reader_code_L0 (rcSt h r acc (i + 1) [] tl b)) = run kp (.loop [0, 3, 4] k_ref27_reader_code_L0 (rcSt h ⟨r.nl, r.b.drop 7, false⟩ (acc ++ [decI (r.b.take 7)]) i [] tl b)) := by
  have F := natF8 h b hb
  have w' : IntKind.u64.wrap (i : Int) = (i : Int) := wrap_u64 (by omega) (by omega)
  have p' : (0 : Int) < (i : Int) + 1 := by omega
  have ti := ref1_TakeInst h7 hr r.nl
  rw [if_pos hm] at ti
  obtain ⟨nl, l, bad⟩ := r
  simp only at hbd h7 ti hr hrl hm
  subst hbd
  have g2 : (7 : Int) ≤ (l.length : Int) := by omega
  have em : ((l.length : Int) - 7).toNat = l.length - 7 := by omega
  have tk : List.take (l.length - 7) (List.drop 7 (l.map u8d)) = List.drop 7 (l.map u8d) := List.take_of_length_le (by simp)
  have hl2 : acc.length ≤ 1073741823 := by omega
  rw [run_round]
  generalize decI (l.take 7) = X at *
  have ax : ∀ n, adopts n [X.d, .bool true] = ([.d X.d, .bool true], [], n) := fun n => rfl
  cases acc with
  | nil => simp [c_ref27_reader_code_L0, k_ref27_reader_code_L0b, rcSt, aV, aH, aN, Rd.box, hb, F, gOf_below hb, gOf, hlook, ti, w', p', g2, em, tk, adopt_I, Inst.d]
  | cons y acc =>
    simp only [List.length_cons] at hl hl2
    have q1 : acc.length ≤ 1073741822 := by omega
    simp [c_ref27_reader_code_L0, k_ref27_reader_code_L0b, rcSt, aV, aH, aN, Rd.box, hb, F, gOf_below hb, gOf, hlook, ti, w', p', g2, em, tk, adopt_I, q1, take_map_lenP, Inst.d]
set_option maxRecDepth 10000 in
set_option maxHeartbeats 16000000 in
theorem rc_no (r : Rd) (hr : bytesOk r.b) (hrl : r.b.length ≤ 100000) (h : Nat) (acc : List Inst) (hl : acc.length ≤ 1000) (i : Nat) (hi : i ≤ 1000) (tl : Nat → Option Blk) (b : Nat) (hb : h < b) (hbd : r.bad = false) (hm : r.b.length < 7 ∨ mayF (decI (r.b.take 7)) = false) :
    run kp (.loop [0, 3, 4] k_ref27_reader_code_L0 (rcSt h r acc (i + 1) [] tl b)) = some (.out .ret (rcNo h r acc i tl b)) := by
  have F := natF8 h b hb
  have p' : (0 : Int) < (i : Int) + 1 := by omega
  have ti : run kp (.data f_ref1_TakeInst [.sl r.nl (r.b.map u8d)]) = some (.ds [zI.d, .bool false]) := by
    by_cases h7 : 7 ≤ r.b.length
    · rw [ref1_TakeInst h7 hr r.nl, if_neg]
      rcases hm with hm | hm
      · omega
      · simp [hm]
    · exact take_short (by omega) r.nl
  obtain ⟨nl, l, bad⟩ := r
  simp only at hbd ti
  subst hbd
  rw [run_round]
  cases acc with
  | nil => simp [c_ref27_reader_code_L0, k_ref27_reader_code_L0b, rcSt, rcNo, aV, aH, aN, Rd.box, hb, F, gOf_below hb, gOf, hlook, ti, p', adopt_I, Inst.d, zI]
  | cons y acc => simp [c_ref27_reader_code_L0, k_ref27_reader_code_L0b, rcSt, rcNo, aV, aH, aN, Rd.box, hb, F, gOf_below hb, gOf, hlook, ti, p', adopt_I, Inst.d, zI]
set_option maxRecDepth 10000 in
theorem rc_stop (r : Rd) (h : Nat) (acc : List Inst) (tl : Nat → Option Blk) (b : Nat) (hb : h < b) :
    run kp (.loop [0, 3, 4] k_ref27_reader_code_L0 (rcSt h r acc 0 [] tl b)) = some (.out (.ext 0) (rcSt h r acc 0 [(17, .bool false)] tl b)) := by
  have F := natF8 h b hb
  obtain ⟨nl, l, bad⟩ := r
  rw [run_round]
  cases acc with
  | nil => simp [c_ref27_reader_code_L0, k_ref27_reader_code_L0b, rcSt, aV, aH, aN, Rd.box, hb, F, gOf_below hb, gOf, hlook]
  | cons y acc => simp [c_ref27_reader_code_L0, k_ref27_reader_code_L0b, rcSt, aV, aH, aN, Rd.box, hb, F, gOf_below hb, gOf, hlook]
def rProg : Nat → Rd → List Inst → List Inst × Rd
  | 0, r, acc => (acc, r)
  | n + 1, r, acc => if r.b.length < 7 ∨ mayF (decI (r.b.take 7)) = false then ([], ⟨r.nl, r.b, true⟩) else rProg n ⟨r.nl, r.b.drop 7, false⟩ (acc ++ [decI (r.b.take 7)])
theorem rc_loop (h : Nat) (tl : Nat → Option Blk) (b : Nat) (hb : h < b) : ∀ (n : Nat) (r : Rd) (acc : List Inst), bytesOk r.b → r.b.length ≤ 100000 → acc.length + n ≤ 1000 → r.bad = false →
    (run kp (.loop [0, 3, 4] k_ref27_reader_code_L0 (rcSt h r acc n [] tl b)) = some (.out (.ext 0) (rcSt h (rProg n r acc).2 (rProg n r acc).1 0 [(17, .bool false)] tl b))) ∨
    (∃ r1 acc1 i, run kp (.loop [0, 3, 4] k_ref27_reader_code_L0 (rcSt h r acc n [] tl b)) = some (.out .ret (rcNo h r1 acc1 i tl b)) ∧ (rProg n r acc) = ([], ⟨r1.nl, r1.b, true⟩))
  | 0, r, acc, hr, hrl, hl, hbd => .inl (rc_stop r h acc tl b hb)
  | n + 1, r, acc, hr, hrl, hl, hbd => by
    unfold rProg
    by_cases hm : r.b.length < 7 ∨ mayF (decI (r.b.take 7)) = false
    · rw [if_pos hm]
      exact .inr ⟨r, acc, n, rc_no r hr hrl h acc (by omega) n (by omega) tl b hb hbd hm, rfl⟩
    · rw [if_neg hm]
      simp only [not_or, Nat.not_lt, Bool.not_eq_false] at hm
      rw [rc_ok r hr hrl h acc (by omega) n (by omega) tl b hb hbd hm.1 hm.2]
      exact rc_loop h tl b hb n ⟨r.nl, r.b.drop 7, false⟩ _ (fun x hx => hr x (List.mem_of_mem_drop hx)) (by simp; omega) (by simp; omega) rfl
/-- A program, as the document reads. -/
def rcR (r : Rd) : List Inst × Rd := if r.over 1 = true then ([], r.rdrop 1) else rProg (r.num 1).toNat (r.rdrop 1) []
theorem rcR_bad {r : Rd} (h : r.bad = true) : (rcR r).2 = r ∧ (rcR r).1 = [] := by
  unfold rcR
  rw [if_pos (by simp [Rd.over, h]), rdrop_bad 1 h]
  exact ⟨rfl, rfl⟩
set_option maxRecDepth 10000 in
set_option maxHeartbeats 8000000 in
theorem code_c (tl : Nat → Option Blk) (b h : Nat) (hk : RdOk (tl h)) (hb : h < b) :
    run kp (.call f_ref27_reader_code [.ptr h []] tl b) = some (.val (aV b (rcR (rdOf (tl h))).1) (rW (rdOf (tl h)) (rcR (rdOf (tl h))).2 1 h ++ aH b (rcR (rdOf (tl h))).1) (b + aN (rcR (rdOf (tl h))).1)) := by
  have F := natF8 h b hb
  obtain ⟨r, ht, hr⟩ := hk
  have d1 := rdrop_ok 1 hr
  rw [ht, rdOf_mk, run_call, kp_ref27_reader_code]
  cases ho : r.over 1 with
  | true =>
    have e0 : r.num 1 = 0 := by unfold Rd.num; rw [if_pos ho]
    have e1 : rcR r = ([], r.rdrop 1) := by unfold rcR; rw [if_pos ho]
    rw [e1]
    have z : IntKind.u64.wrap 0 = 0 := by decide
    by_cases g : r.bad = true ∧ ¬ r.b.length < 1
    · have rw0 : rW r (r.rdrop 1) 1 h = [] := by unfold rW; rw [if_pos g]
      rw [rw0]
      have lp : run kp (.loop [0, 3, 4] k_ref27_reader_code_L0 { env := [(0, .ptr h []), (3, .d (.sl true [])), (4, .int .u64 0)], hp := [], tl := tl, base := b, next := b }) = some (.out (.ext 0) { env := [(0, .ptr h []), (3, .d (.sl true [])), (4, .int .u64 0), (17, .bool false)], hp := [], tl := tl, base := b, next := b }) := by
        rw [run_round]
        simp [c_ref27_reader_code_L0, k_ref27_reader_code_L0b, hb, F]
      simp [-Blk.hs, -Blk.ren, rdbox_hs, rdbox_ren, hsB, hsR, hsD, renB, renR, renD, k_ref27_reader_code, canK_canH, rnum_c1, ht, hb, F, gOf_below hb, gOf, hlook, hr, e0, rw0, lp, aV, aH, aN]
    · have rw0 : rW r (r.rdrop 1) 1 h = [(h, (r.rdrop 1).box)] := by unfold rW; rw [if_neg g]
      rw [rw0]
      have lp := rc_stop (r.rdrop 1) h [] tl b hb
      simp only [rcSt, aV, aH, aN, List.append_nil, List.cons_append, List.nil_append, Nat.add_zero, Int.cast_ofNat_Int] at lp
      simp [-Blk.hs, -Blk.ren, rdbox_hs, rdbox_ren, hsB, hsR, hsD, renB, renR, renD, k_ref27_reader_code, canK_canH, rnum_c1, ht, hb, F, gOf_below hb, gOf, hlook, hr, e0, rw0, lp, aV, aH, aN]
  | false =>
    have hbd : r.bad = false := by
      cases e : r.bad with
      | false => rfl
      | true => simp [Rd.over, e] at ho
    have hd : (r.rdrop 1).bad = false := by unfold Rd.rdrop; rw [if_neg (by simp [ho])]
    have rw0 : ∀ r' n, rW r r' n h = [(h, r'.box)] := fun r' n => by unfold rW; rw [if_neg (by simp [hbd])]
    have rg := num1_range hr.1
    obtain ⟨n, hn⟩ : ∃ n : Nat, r.num 1 = (n : Int) := ⟨(r.num 1).toNat, by omega⟩
    have e1 : rcR r = rProg n (r.rdrop 1) [] := by unfold rcR; rw [if_neg (by simp [ho]), hn, Int.toNat_natCast]
    have lp := rc_loop h tl b hb n (r.rdrop 1) [] d1.1 d1.2 (by simp; omega) hd
    rw [e1]
    generalize rProg n (r.rdrop 1) [] = pr at *
    obtain ⟨acc, r'⟩ := pr
    simp only [rcSt, aV, aH, aN, Nat.add_zero, List.append_nil, List.cons_append, List.nil_append] at lp
    rcases lp with lp | ⟨r1, acc1, i, lp, he⟩
    · cases acc with
      | nil => simp [-Blk.hs, -Blk.ren, rdbox_hs, rdbox_ren, hsB, hsR, hsD, renB, renR, renD, k_ref27_reader_code, canK_canH, rnum_c1, ht, hb, F, gOf_below hb, gOf, hlook, hr, hn, rw0, lp, aV, aH, aN]
      | cons y acc => simp [-Blk.hs, -Blk.ren, rdbox_hs, rdbox_ren, hsB, hsR, hsD, renB, renR, renD, k_ref27_reader_code, canK_canH, rnum_c1, ht, hb, F, gOf_below hb, gOf, hlook, hr, hn, rw0, lp, aV, aH, aN]
    · injection he with he1 he2
      subst he1 he2
      cases acc1 with
      | nil => simp [-Blk.hs, -Blk.ren, rdbox_hs, rdbox_ren, hsB, hsR, hsD, renB, renR, renD, k_ref27_reader_code, canK_canH, rnum_c1, ht, hb, F, gOf_below hb, gOf, hlook, hr, hn, rw0, lp, rcNo, aV, aH, aN]
      | cons y acc => simp [-Blk.hs, -Blk.ren, rdbox_hs, rdbox_ren, hsB, hsR, hsD, renB, renR, renD, k_ref27_reader_code, canK_canH, rnum_c1, ht, hb, F, gOf_below hb, gOf, hlook, hr, hn, rw0, lp, rcNo, aV, aH, aN]
end Go.Cd
