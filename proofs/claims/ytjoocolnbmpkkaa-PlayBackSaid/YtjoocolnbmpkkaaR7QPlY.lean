/- Texts of this session in one. No conditions. -/
import Derived.Test.YtjoocolnbmpkkaaR7QPlU
set_option linter.unusedVariables false
set_option linter.unusedSimpArgs false
namespace Go.Cd
open Go Go.Fw
structure Ex (t : List Int) (r r2 : Rd) : Prop where
  bad : r2.bad = r.bad
  b : r2.b = r.b ++ t
theorem Ex.mk' {t : List Int} (nl nl2 : Bool) (c : List Int) (x : Bool) : Ex t ⟨nl, c, x⟩ ⟨nl2, c ++ t, x⟩ := ⟨rfl, rfl⟩
theorem over_no {r : Rd} {n : Nat} (hb : (r.drop n).bad = false) : r.bad = false ∧ n ≤ r.b.length := by
  unfold Rd.drop at hb
  split at hb
  · cases hb
  · rename_i h
    unfold Rd.over at h
    cases e : r.bad with
    | true => simp [e] at h
    | false =>
      simp [e] at h
      exact ⟨rfl, h⟩
theorem drop_fine {r : Rd} {n : Nat} (hb : r.bad = false) (hl : n ≤ r.b.length) : r.drop n = ⟨r.nl, r.b.drop n, false⟩ ∧ r.num n = be (r.b.take n) := by
  have o : ¬ r.over n = true := by unfold Rd.over; simp [hb]; omega
  unfold Rd.drop Rd.num
  rw [if_neg o, if_neg o]
  exact ⟨rfl, rfl⟩
theorem drop_ex {t : List Int} {r r2 : Rd} (h : Ex t r r2) {n : Nat} (hb : (r.drop n).bad = false) : r2.num n = r.num n ∧ Ex t (r.drop n) (r2.drop n) := by
  obtain ⟨h1, h2⟩ := over_no hb
  have e := drop_fine h1 h2
  have e2 := drop_fine (r := r2) (n := n) (h.bad.trans h1) (by rw [h.b]; simp; omega)
  rw [e.1, e.2, e2.1, e2.2, h.b, List.take_append_of_le_length h2, List.drop_append_of_le_length h2]
  exact ⟨rfl, rfl, rfl⟩
theorem drop_mono {r : Rd} {n : Nat} (hb : (r.drop n).bad = false) : r.bad = false := (over_no hb).1
theorem pProg_mono {n : Nat} {r : Rd} {acc : List Inst} (hb : (pProg n r acc).2.bad = false) : r.bad = false := by
  cases e : r.bad with
  | false => rfl
  | true => rw [pProg_bad e, e] at hb; cases hb
theorem pProg_ex {t : List Int} : ∀ (n : Nat) {r r2 : Rd} (acc : List Inst), Ex t r r2 → (pProg n r acc).2.bad = false → (pProg n r2 acc).1 = (pProg n r acc).1 ∧ Ex t (pProg n r acc).2 (pProg n r2 acc).2
  | 0, r, r2, acc, h, hb => ⟨rfl, h⟩
  | n + 1, r, r2, acc, h, hb => by
    have h0 := pProg_mono hb
    have h2 := h.bad.trans h0
    unfold pProg at hb ⊢
    simp only [h0, h2, Bool.false_eq_true, if_false] at hb ⊢
    cases o : r.over 7 with
    | true => rw [o] at hb; simp [gone] at hb
    | false =>
      rw [o] at hb
      have l : 7 ≤ r.b.length := by unfold Rd.over at o; simp at o; exact o.2
      have o2 : r2.over 7 = false := by unfold Rd.over; rw [h.b]; simp [h2]; omega
      rw [o2]
      simp only [Bool.false_eq_true, if_false] at hb ⊢
      have e : r2.b.take 7 = r.b.take 7 := by rw [h.b, List.take_append_of_le_length l]
      rw [e]
      cases m : mayF (decI (r.b.take 7)) with
      | false => rw [m] at hb; simp [gone] at hb
      | true =>
        rw [m] at hb
        simp only [if_true] at hb ⊢
        exact pProg_ex n _ ⟨rfl, by rw [h.b, List.drop_append_of_le_length l]⟩ hb
theorem pgR_mono {r : Rd} (hb : (pgR r).2.bad = false) : r.bad = false := drop_mono (pProg_mono hb)
theorem pgR_ex {t : List Int} {r r2 : Rd} (h : Ex t r r2) (hb : (pgR r).2.bad = false) : (pgR r2).1 = (pgR r).1 ∧ Ex t (pgR r).2 (pgR r2).2 := by
  obtain ⟨e, d⟩ := drop_ex h (n := 1) (pProg_mono hb)
  unfold pgR at hb ⊢
  rw [e]
  exact pProg_ex _ _ d hb
theorem pCall_mono {r : Rd} (hb : (pCall r).2.bad = false) : (r.drop 1).bad = false := by
  unfold pCall at hb
  simp only at hb
  repeat' split at hb
  · exact drop_mono (drop_mono (drop_mono (pgR_mono (pgR_mono (pgR_mono hb)))))
  · exact drop_mono (drop_mono hb)
  · exact drop_mono (drop_mono (drop_mono hb))
  · exact drop_mono (drop_mono (drop_mono hb))
  · exact drop_mono (drop_mono (drop_mono hb))
  · exact drop_mono (drop_mono (drop_mono (drop_mono hb)))
  · exact drop_mono (drop_mono hb)
  · exact hb
theorem pCall_ex {t : List Int} {r r2 : Rd} (h : Ex t r r2) (hb : (pCall r).2.bad = false) : (pCall r2).1 = (pCall r).1 ∧ Ex t (pCall r).2 (pCall r2).2 := by
  obtain ⟨e1, d1⟩ := drop_ex h (pCall_mono hb)
  unfold pCall at hb ⊢
  simp only at hb ⊢
  rw [e1]
  repeat' split at hb
  · rename_i k
    simp only [if_pos k]
    simp only at hb
    have b3 := pgR_mono hb
    have b2 := pgR_mono b3
    have b1 := pgR_mono b2
    obtain ⟨f1, g1⟩ := drop_ex d1 (n := 1) (drop_mono (drop_mono b1))
    obtain ⟨f2, g2⟩ := drop_ex g1 (n := 4) (drop_mono b1)
    obtain ⟨f3, g3⟩ := drop_ex g2 (n := 4) b1
    obtain ⟨f4, g4⟩ := pgR_ex g3 b2
    obtain ⟨f5, g5⟩ := pgR_ex g4 b3
    obtain ⟨f6, g6⟩ := pgR_ex g5 hb
    rw [f1, f2, f3, f4, f5, f6]
    exact ⟨rfl, g6⟩
  · rename_i k1 k
    simp only [if_neg k1, if_pos k]
    obtain ⟨f1, g1⟩ := drop_ex d1 (n := 1) (drop_mono hb)
    obtain ⟨f2, g2⟩ := drop_ex g1 (n := 8) hb
    rw [f1, f2]
    exact ⟨rfl, g2⟩
  · rename_i k1 k6 k
    simp only [if_neg k1, if_neg k6, if_pos k]
    obtain ⟨f1, g1⟩ := drop_ex d1 (n := 1) (drop_mono (drop_mono hb))
    obtain ⟨f2, g2⟩ := drop_ex g1 (n := 1) (drop_mono hb)
    obtain ⟨f3, g3⟩ := drop_ex g2 (n := 8) hb
    rw [f1, f2, f3]
    exact ⟨rfl, g3⟩
  · rename_i k1 k6 k7 k
    simp only [if_neg k1, if_neg k6, if_neg k7, if_pos k]
    obtain ⟨f1, g1⟩ := drop_ex d1 (n := 1) (drop_mono (drop_mono hb))
    obtain ⟨f2, g2⟩ := drop_ex g1 (n := 1) (drop_mono hb)
    obtain ⟨f3, g3⟩ := drop_ex g2 (n := 1) hb
    rw [f1, f2, f3]
    exact ⟨rfl, g3⟩
  · rename_i k1 k6 k7 k8 k
    simp only [if_neg k1, if_neg k6, if_neg k7, if_neg k8, if_pos k]
    obtain ⟨f1, g1⟩ := drop_ex d1 (n := 1) (drop_mono (drop_mono hb))
    obtain ⟨f2, g2⟩ := drop_ex g1 (n := 1) (drop_mono hb)
    obtain ⟨f3, g3⟩ := drop_ex g2 (n := 4) hb
    rw [f1, f2, f3]
    exact ⟨rfl, g3⟩
  · rename_i k1 k6 k7 k8 k9 k
    simp only [if_neg k1, if_neg k6, if_neg k7, if_neg k8, if_neg k9, if_pos k]
    obtain ⟨f1, g1⟩ := drop_ex d1 (n := 1) (drop_mono (drop_mono (drop_mono hb)))
    obtain ⟨f2, g2⟩ := drop_ex g1 (n := 1) (drop_mono (drop_mono hb))
    obtain ⟨f3, g3⟩ := drop_ex g2 (n := 1) (drop_mono hb)
    obtain ⟨f4, g4⟩ := drop_ex g3 (n := 4) hb
    rw [f1, f2, f3, f4]
    exact ⟨rfl, g4⟩
  · rename_i k1 k6 k7 k8 k9 k10 k
    simp only [if_neg k1, if_neg k6, if_neg k7, if_neg k8, if_neg k9, if_neg k10, if_pos k]
    obtain ⟨f1, g1⟩ := drop_ex d1 (n := 1) (drop_mono hb)
    obtain ⟨f2, g2⟩ := drop_ex g1 (n := 1) hb
    rw [f1, f2]
    exact ⟨rfl, g2⟩
  · rename_i k1 k6 k7 k8 k9 k10 k11
    simp only [if_neg k1, if_neg k6, if_neg k7, if_neg k8, if_neg k9, if_neg k10, if_neg k11]
    exact ⟨trivial, d1⟩
theorem pStep_mono {r : Rd} (hb : (pStep r).2.bad = false) : (r.drop 1).bad = false := by
  unfold pStep at hb
  simp only at hb
  repeat' split at hb
  · exact drop_mono hb
  · exact drop_mono hb
  · exact drop_mono (pCall_mono hb)
  · exact hb
theorem pStep_ex {t : List Int} {r r2 : Rd} (h : Ex t r r2) (hb : (pStep r).2.bad = false) : (pStep r2).1 = (pStep r).1 ∧ Ex t (pStep r).2 (pStep r2).2 := by
  obtain ⟨e1, d1⟩ := drop_ex h (pStep_mono hb)
  unfold pStep at hb ⊢
  simp only at hb ⊢
  rw [e1]
  repeat' split at hb
  · rename_i k
    simp only [if_pos k]
    obtain ⟨f1, g1⟩ := drop_ex d1 (n := 1) hb
    rw [f1]
    exact ⟨rfl, g1⟩
  · rename_i k4 k
    simp only [if_neg k4, if_pos k]
    obtain ⟨f1, g1⟩ := drop_ex d1 (n := 2) hb
    rw [f1]
    exact ⟨rfl, g1⟩
  · rename_i k4 k5 k
    simp only [if_neg k4, if_neg k5, if_pos k]
    obtain ⟨f1, g1⟩ := pCall_ex d1 hb
    rw [f1]
    exact ⟨rfl, g1⟩
  · rename_i k4 k5 k1
    simp only [if_neg k4, if_neg k5, if_neg k1]
    exact ⟨trivial, d1⟩
/-! ### Steps, by themselves -/
theorem num1_nl (nl : Bool) (c : List Int) (hc : c ≠ []) : Rd.num ⟨nl, c, false⟩ 1 = c.headD 0 ∧ Rd.drop ⟨nl, c, false⟩ 1 = ⟨nl, c.drop 1, false⟩ := by
  cases c with
  | nil => exact absurd rfl hc
  | cons x c =>
    have := drop_fine (r := ⟨nl, x :: c, false⟩) (n := 1) rfl (by simp)
    rw [this.1, this.2]
    simp [be]
theorem pDec_step (f : Nat) (nl : Bool) (x : Int) (c : List Int) (acc : List Sp) : pDec (f + 1) ⟨nl, x :: c, false⟩ acc = if x.tmod 6 = 0 then pDec f ⟨nl, c, false⟩ acc else if (pStep ⟨nl, x :: c, false⟩).2.bad = true then acc else pDec f (pStep ⟨nl, x :: c, false⟩).2 (acc ++ [(pStep ⟨nl, x :: c, false⟩).1]) := by
  obtain ⟨n1, d1⟩ := num1_nl nl (x :: c) (by simp)
  simp only [List.headD_cons, List.drop_one, List.tail_cons] at n1 d1
  rw [pDec, if_neg (by simp), n1, d1]
theorem pDec_gen : ∀ (N f : Nat) (nl : Bool) (c : List Int) (acc : List Sp), f ≤ N → c.length ≤ f → pDec f ⟨nl, c, false⟩ acc = acc ++ dec c := by
  intro N
  induction N with
  | zero =>
    intro f nl c acc hN h
    obtain rfl : f = 0 := by omega
    have : c = [] := List.length_eq_zero_iff.1 (by omega)
    subst this
    show acc = acc ++ dec []
    rw [show dec [] = [] from rfl, List.append_nil]
  | succ N ih =>
    intro f nl c acc hN h
    cases c with
    | nil =>
      rw [show dec [] = [] from rfl, List.append_nil]
      cases f with
      | zero => rfl
      | succ f => rw [pDec, if_pos rfl]
    | cons x c =>
      simp only [List.length_cons] at h
      obtain ⟨f, rfl⟩ : ∃ g, f = g + 1 := ⟨f - 1, by omega⟩
      unfold dec
      rw [List.length_cons, pDec_step, pDec_step]
      split
      · rw [ih f nl c acc (by omega) (by omega), ih c.length false c [] (by omega) (by omega)]
        rfl
      · cases e1 : (pStep ⟨nl, x :: c, false⟩).2.bad with
        | false =>
          obtain ⟨f1, g1⟩ := pStep_ex (t := []) (r := ⟨nl, x :: c, false⟩) (r2 := ⟨false, x :: c, false⟩) ⟨rfl, by simp⟩ e1
          have e2 := g1.bad.trans e1
          have eb := g1.b
          rw [List.append_nil] at eb
          rw [e2, f1]
          have l2 := pStep_lt (r := ⟨false, x :: c, false⟩) (by simp)
          simp only [List.length_cons] at l2
          generalize pStep ⟨nl, x :: c, false⟩ = p1 at *
          generalize pStep ⟨false, x :: c, false⟩ = p2 at *
          obtain ⟨s1, nl1, c1, b1⟩ := p1
          obtain ⟨s2, nl2, c2, b2⟩ := p2
          simp only at e1 e2 eb f1 l2
          subst e1 e2 eb f1
          simp only [Bool.false_eq_true, if_false]
          rw [ih f nl1 c2 _ (by omega) (by omega), ih c.length nl2 c2 _ (by omega) (by omega)]
          simp
        | true =>
          cases e2 : (pStep ⟨false, x :: c, false⟩).2.bad with
          | true => simp
          | false =>
            obtain ⟨f1, g1⟩ := pStep_ex (t := []) (r := ⟨false, x :: c, false⟩) (r2 := ⟨nl, x :: c, false⟩) ⟨rfl, by simp⟩ e2
            have := g1.bad
            rw [e1, e2] at this
            cases this
/-- What bytes say, step by step. -/
theorem dec_cons (x : Int) (c : List Int) : dec (x :: c) = if x.tmod 6 = 0 then dec c else if (pStep ⟨false, x :: c, false⟩).2.bad = true then [] else (pStep ⟨false, x :: c, false⟩).1 :: dec (pStep ⟨false, x :: c, false⟩).2.b := by
  have e : dec (x :: c) = pDec (c.length + 1) ⟨false, x :: c, false⟩ [] := rfl
  rw [e, pDec_step]
  split
  · rw [pDec_gen _ _ false c [] (Nat.le_refl _) (Nat.le_refl _)]
    rfl
  · have l2 := pStep_lt (r := ⟨false, x :: c, false⟩) (by simp)
    generalize pStep ⟨false, x :: c, false⟩ = p2 at *
    obtain ⟨s2, nl2, c2, b2⟩ := p2
    simp only [List.length_cons] at l2
    cases b2 with
    | true => simp
    | false =>
      simp only [Bool.false_eq_true, if_false]
      rw [pDec_gen _ _ nl2 c2 _ (Nat.le_refl _) (by omega)]
      rfl
theorem dec_nl (nl : Bool) (c : List Int) : pDec c.length ⟨nl, c, false⟩ [] = dec c := by
  rw [pDec_gen _ _ nl c [] (Nat.le_refl _) (Nat.le_refl _)]
  rfl
end Go.Cd
namespace Go.Cd
open Go Go.Fw
theorem wi64 (x : Int) : IntKind.i64.wrap x = (x + 9223372036854775808) % 18446744073709551616 - 9223372036854775808 := by
  have h : IntKind.i64.wrap x = if 9223372036854775808 ≤ x % 18446744073709551616 then x % 18446744073709551616 - 18446744073709551616 else x % 18446744073709551616 := by simp [IntKind.wrap, IntKind.bits, IntKind.signed]
  rw [h]
  split <;> omega
theorem wu32 (x : Int) : IntKind.u32.wrap x = x % 4294967296 := by simp [IntKind.wrap, IntKind.bits, IntKind.signed]
theorem w_n (y : Int) : IntKind.i64.wrap (u64w (IntKind.i64.wrap y) % 18446744073709551616) = IntKind.i64.wrap y := by
  unfold u64w
  simp only [wi64, wrap_u64_mod]
  omega
theorem w_m (y : Int) : IntKind.u32.wrap (u64w (IntKind.u32.wrap y) % 4294967296) = IntKind.u32.wrap y := by
  unfold u64w
  simp only [wu32, wrap_u64_mod]
  omega
theorem w_p {y : Int} (h : 0 ≤ y ∧ y < 4294967296) : IntKind.i64.wrap (u64w (IntKind.i64.wrap y) % 4294967296) = IntKind.i64.wrap y := by
  unfold u64w
  simp only [wi64, wrap_u64_mod]
  omega
theorem w_2 {y : Int} (h : 0 ≤ y ∧ y < 65536) : IntKind.i64.wrap (u64w (IntKind.i64.wrap y) % 65536) = IntKind.i64.wrap y := by
  unfold u64w
  simp only [wi64, wrap_u64_mod]
  omega
theorem w_b {y : Int} (h : 0 ≤ y ∧ y < 256) : u8w y = y := u8_id h
theorem be_two (v : Int) : be (beB 2 v) = v % 65536 := by
  simp [be, beB]
  omega
theorem be_four (v : Int) : be (beB 4 v) = v % 4294967296 := by
  simp [be, beB]
  omega
theorem be_eight (v : Int) : be (beB 8 v) = v % 18446744073709551616 := by
  simp [be, beB]
  omega
theorem rd_app (nl : Bool) (c t : List Int) (n : Nat) (h : c.length = n) : Rd.num ⟨nl, c ++ t, false⟩ n = be c ∧ Rd.drop ⟨nl, c ++ t, false⟩ n = ⟨nl, t, false⟩ := by
  subst h
  have := drop_fine (r := ⟨nl, c ++ t, false⟩) (n := c.length) rfl (by simp)
  rw [this.1, this.2]
  simp
theorem rn1 (nl : Bool) (x : Int) (c : List Int) : Rd.num ⟨nl, x :: c, false⟩ 1 = x := (num1_nl nl (x :: c) (by simp)).1
theorem rd1 (nl : Bool) (x : Int) (c : List Int) : Rd.drop ⟨nl, x :: c, false⟩ 1 = ⟨nl, c, false⟩ := (num1_nl nl (x :: c) (by simp)).2
theorem rn2 (nl : Bool) (v : Int) (c : List Int) : Rd.num ⟨nl, beB 2 v ++ c, false⟩ 2 = v % 65536 := by rw [(rd_app nl _ c 2 (beB_len 2 v)).1, be_two]
theorem rd2 (nl : Bool) (v : Int) (c : List Int) : Rd.drop ⟨nl, beB 2 v ++ c, false⟩ 2 = ⟨nl, c, false⟩ := (rd_app nl _ c 2 (beB_len 2 v)).2
theorem rn4 (nl : Bool) (v : Int) (c : List Int) : Rd.num ⟨nl, beB 4 v ++ c, false⟩ 4 = v % 4294967296 := by rw [(rd_app nl _ c 4 (beB_len 4 v)).1, be_four]
theorem rd4 (nl : Bool) (v : Int) (c : List Int) : Rd.drop ⟨nl, beB 4 v ++ c, false⟩ 4 = ⟨nl, c, false⟩ := (rd_app nl _ c 4 (beB_len 4 v)).2
theorem rn8 (nl : Bool) (v : Int) (c : List Int) : Rd.num ⟨nl, beB 8 v ++ c, false⟩ 8 = v % 18446744073709551616 := by rw [(rd_app nl _ c 8 (beB_len 8 v)).1, be_eight]
theorem rd8 (nl : Bool) (v : Int) (c : List Int) : Rd.drop ⟨nl, beB 8 v ++ c, false⟩ 8 = ⟨nl, c, false⟩ := (rd_app nl _ c 8 (beB_len 8 v)).2
def progOk (l : List Inst) : Prop := l.length < 256 ∧ l.all mayF = true
theorem pProg_put (nl : Bool) (t : List Int) : ∀ (l acc : List Inst), l.all mayF = true → pProg l.length ⟨nl, prTail l ++ t, false⟩ acc = (acc ++ l, ⟨nl, t, false⟩)
  | [], acc, _ => by simp [pProg, prTail]
  | i :: l, acc, h => by
    rw [List.all_cons, Bool.and_eq_true] at h
    have e : prTail (i :: l) ++ t = instB i ++ (prTail l ++ t) := by
      rw [prTail, prInst, if_pos h.1, List.append_assoc]
    have o : Rd.over ⟨nl, instB i ++ (prTail l ++ t), false⟩ 7 = false := by
      unfold Rd.over
      simp [instB_len]
    have tk : (instB i ++ (prTail l ++ t)).take 7 = instB i := by
      rw [List.take_append_of_le_length (by simp [instB_len])]
      exact List.take_of_length_le (by simp [instB_len])
    have dk : (instB i ++ (prTail l ++ t)).drop 7 = prTail l ++ t := by
      rw [← instB_len i, List.drop_left]
    rw [List.length_cons, e, pProg]
    simp only [Bool.false_eq_true, if_false, o, tk, dk, dec_inst h.1, h.1, if_true]
    rw [pProg_put nl t l (acc ++ [i]) h.2]
    simp
theorem pgR_put (nl : Bool) (t : List Int) {l : List Inst} (h : progOk l) : pgR ⟨nl, prB l ++ t, false⟩ = (l, ⟨nl, t, false⟩) := by
  have w : u8w (l.length : Int) = l.length := w_b ⟨by omega, by have := h.1; omega⟩
  unfold pgR
  have e : prB l ++ t = u8w (l.length : Int) :: (prTail l ++ t) := rfl
  rw [e, rn1, rd1, w, Int.toNat_natCast, pProg_put nl t l [] h.2]
  rfl
/-- A call, as it is when it has been made bytes and read. -/
def nCall (c : Cl) : Cl :=
  if c.kind = 1 then ⟨1, u8w c.rank, IntKind.i64.wrap (u64w c.period % 4294967296), IntKind.i64.wrap (u64w c.stop % 4294967296), rr c.main.2, rr c.way.2, rr c.opt.2, 0, 0, 0, 0, 0⟩
  else if c.kind = 6 then { Cl.zero 6 with a := u8w c.a, n := IntKind.i64.wrap (u64w c.n % 18446744073709551616) }
  else if c.kind = 7 then { Cl.zero 7 with at_ := u8w c.at_, gen := u8w c.gen, n := IntKind.i64.wrap (u64w c.n % 18446744073709551616) }
  else if c.kind = 8 then { Cl.zero 8 with at_ := u8w c.at_, gen := u8w c.gen, a := u8w c.a }
  else if c.kind = 9 then { Cl.zero 9 with at_ := u8w c.at_, gen := u8w c.gen, mask := IntKind.u32.wrap (u64w c.mask % 4294967296) }
  else if c.kind = 10 then { Cl.zero 10 with at_ := u8w c.at_, gen := u8w c.gen, a := u8w c.a, mask := IntKind.u32.wrap (u64w c.mask % 4294967296) }
  else if c.kind = 11 then { Cl.zero 11 with at_ := u8w c.at_, gen := u8w c.gen }
  else Cl.zero c.kind
def nStep (s : Sp) : Sp :=
  if s.kind = 4 then ⟨4, Cl.zero 0, u8w s.a, 0⟩
  else if s.kind = 5 then ⟨5, Cl.zero 0, 0, IntKind.i64.wrap (u64w s.n % 65536)⟩
  else if s.kind = 1 then ⟨1, nCall s.cl, 0, 0⟩
  else ⟨s.kind, Cl.zero 0, 0, 0⟩
def CGk (c : Cl) : Prop := 0 ≤ c.kind ∧ c.kind < 256 ∧ (c.kind = 1 → progOk c.main.2 ∧ progOk c.way.2 ∧ progOk c.opt.2)
def SGk (s : Sp) : Prop := 1 ≤ s.kind ∧ s.kind ≤ 5 ∧ (s.kind = 1 → CGk s.cl)
/-- May a step be said? -/
def SG (s : Sp) : Prop := SGk s ∧ skey (nStep s) = skey s
theorem pCall_put (nl : Bool) (t : List Int) {c : Cl} (h : CGk c) : pCall ⟨nl, callB c ++ t, false⟩ = (nCall c, ⟨nl, t, false⟩) := by
  have w : u8w c.kind = c.kind := w_b ⟨h.1, h.2.1⟩
  unfold callB
  rw [List.cons_append, w]
  unfold pCall
  simp only [rn1, rd1]
  unfold restB nCall hanB
  by_cases k1 : c.kind = 1
  · obtain ⟨p1, p2, p3⟩ := h.2.2 k1
    simp only [if_pos k1, List.cons_append, List.append_assoc, rn1, rd1, rn4, rd4, pgR_put nl _ p1, pgR_put nl _ p2, pgR_put nl _ p3]
    rw [k1]
  by_cases k6 : c.kind = 6
  · simp only [if_neg k1, if_pos k6, List.cons_append, List.append_assoc, List.nil_append, rn1, rd1, rn4, rd4, rn8, rd8]
    rw [k6]
  by_cases k7 : c.kind = 7
  · simp only [if_neg k1, if_neg k6, if_pos k7, List.cons_append, List.append_assoc, List.nil_append, rn1, rd1, rn4, rd4, rn8, rd8]
    rw [k7]
  by_cases k8 : c.kind = 8
  · simp only [if_neg k1, if_neg k6, if_neg k7, if_pos k8, List.cons_append, List.append_assoc, List.nil_append, rn1, rd1, rn4, rd4, rn8, rd8]
    rw [k8]
  by_cases k9 : c.kind = 9
  · simp only [if_neg k1, if_neg k6, if_neg k7, if_neg k8, if_pos k9, List.cons_append, List.append_assoc, List.nil_append, rn1, rd1, rn4, rd4, rn8, rd8]
    rw [k9]
  by_cases k10 : c.kind = 10
  · simp only [if_neg k1, if_neg k6, if_neg k7, if_neg k8, if_neg k9, if_pos k10, List.cons_append, List.append_assoc, List.nil_append, rn1, rd1, rn4, rd4, rn8, rd8]
    rw [k10]
  by_cases k11 : c.kind = 11
  · simp only [if_neg k1, if_neg k6, if_neg k7, if_neg k8, if_neg k9, if_neg k10, if_pos k11, List.cons_append, List.append_assoc, List.nil_append, rn1, rd1, rn4, rd4, rn8, rd8]
    rw [k11]
  simp only [if_neg k1, if_neg k6, if_neg k7, if_neg k8, if_neg k9, if_neg k10, if_neg k11, List.nil_append]
theorem pStep_put (nl : Bool) (t : List Int) {s : Sp} (h : SGk s) : pStep ⟨nl, stB s ++ t, false⟩ = (nStep s, ⟨nl, t, false⟩) := by
  obtain ⟨h1, h2, h3⟩ := h
  have w : u8w s.kind = s.kind := w_b ⟨by omega, by omega⟩
  have m : s.kind.tmod 6 = s.kind := by rw [Int.tmod_eq_emod_of_nonneg (by omega)]; omega
  unfold stB
  rw [List.cons_append, w]
  unfold pStep
  simp only [rn1, rd1, m]
  unfold nStep
  by_cases k4 : s.kind = 4
  · simp only [if_pos k4, List.cons_append, List.nil_append, rn1, rd1]
    rw [k4]
  by_cases k5 : s.kind = 5
  · simp only [if_neg k4, if_pos k5, rn2, rd2]
    rw [k5]
  by_cases k1 : s.kind = 1
  · simp only [if_neg k4, if_neg k5, if_pos k1, pCall_put nl t (h3 k1)]
    rw [k1]
  simp only [if_neg k4, if_neg k5, if_neg k1, List.nil_append]
end Go.Cd
namespace Go.Cd
open Go Go.Fw
theorem num_range {r : Rd} {n : Nat} (hr : bytesOk r.b) : 0 ≤ r.num n ∧ r.num n < 256 ^ n := by
  have p : (0 : Int) < 256 ^ n := Int.pow_pos (by omega)
  unfold Rd.num
  split
  · omega
  · have := be_range (r.b.take n) (fun x hx => hr x (List.mem_of_mem_take hx))
    have h2 : (256 : Int) ^ (r.b.take n).length ≤ 256 ^ n := pow256 (by simp; omega)
    omega
theorem num_range1 {r : Rd} (hr : bytesOk r.b) : 0 ≤ r.num 1 ∧ r.num 1 < 256 := num_range hr
theorem num_range2 {r : Rd} (hr : bytesOk r.b) : 0 ≤ r.num 2 ∧ r.num 2 < 65536 := num_range hr
theorem num_range4 {r : Rd} (hr : bytesOk r.b) : 0 ≤ r.num 4 ∧ r.num 4 < 4294967296 := num_range hr
theorem pProg_read : ∀ (n : Nat) (r : Rd) (acc : List Inst), (pProg n r acc).2.bad = false → ∃ l, (pProg n r acc).1 = acc ++ l ∧ l.length = n ∧ l.all mayF = true
  | 0, r, acc, _ => ⟨[], by simp [pProg], rfl, rfl⟩
  | n + 1, r, acc, hb => by
    have h0 := pProg_mono hb
    unfold pProg at hb ⊢
    simp only [h0, Bool.false_eq_true, if_false] at hb ⊢
    cases o : r.over 7 with
    | true => rw [o] at hb; simp [gone] at hb
    | false =>
      rw [o] at hb
      simp only [Bool.false_eq_true, if_false] at hb ⊢
      cases m : mayF (decI (r.b.take 7)) with
      | false => rw [m] at hb; simp [gone] at hb
      | true =>
        rw [m] at hb
        simp only [if_true] at hb ⊢
        obtain ⟨l, e, h1, h2⟩ := pProg_read n _ _ hb
        exact ⟨decI (r.b.take 7) :: l, by rw [e]; simp, by simp [h1], by simp only [List.all_cons, m, h2, Bool.true_and]⟩
theorem pgR_read {r : Rd} (hr : bytesOk r.b) (hb : (pgR r).2.bad = false) : progOk (pgR r).1 := by
  obtain ⟨l, e, h1, h2⟩ := pProg_read (r.num 1).toNat (r.drop 1) [] hb
  have := num_range1 hr
  have e' : (pgR r).1 = l := e
  rw [e']
  exact ⟨by omega, h2⟩
theorem call_read {r : Rd} (hr : bytesOk r.b ∧ r.b.length ≤ 100000) (hb : (pCall r).2.bad = false) : CGk (pCall r).1 ∧ ckey (nCall (pCall r).1) = ckey (pCall r).1 := by
  have d1 := Rd.drop_ok 1 hr
  have d2 := Rd.drop_ok 1 d1
  have d3 := Rd.drop_ok 1 d2
  have d4 := Rd.drop_ok 1 d3
  have e3 := Rd.drop_ok 4 d2
  have e4 := Rd.drop_ok 4 e3
  have n0 := num_range1 hr.1
  have n1 := num_range1 d1.1
  have n2 := num_range1 d2.1
  have n3 := num_range1 d3.1
  have p2 := num_range4 d2.1
  have p3 := num_range4 e3.1
  unfold pCall at hb ⊢
  simp only at hb ⊢
  by_cases k1 : r.num 1 = 1
  · simp only [if_pos k1] at hb ⊢
    have b3 := pgR_mono hb
    have b2 := pgR_mono b3
    refine ⟨⟨n0.1, n0.2, fun _ => ⟨pgR_read e4.1 b2, pgR_read (pgR_ok e4).1 b3, pgR_read (pgR_ok (pgR_ok e4)).1 hb⟩⟩, ?_⟩
    rw [k1]
    unfold nCall ckey tkey
    simp only [if_true, w_b n1, w_p p2, w_p p3, rr]
  by_cases k6 : r.num 1 = 6
  · simp only [if_neg k1, if_pos k6]
    refine ⟨⟨n0.1, n0.2, fun k => absurd k k1⟩, ?_⟩
    rw [k6]
    simp [nCall, ckey, tkey, Cl.zero, w_b n1, w_n]
  by_cases k7 : r.num 1 = 7
  · simp only [if_neg k1, if_neg k6, if_pos k7]
    refine ⟨⟨n0.1, n0.2, fun k => absurd k k1⟩, ?_⟩
    rw [k7]
    simp [nCall, ckey, tkey, Cl.zero, w_b n1, w_b n2, w_n]
  by_cases k8 : r.num 1 = 8
  · simp only [if_neg k1, if_neg k6, if_neg k7, if_pos k8]
    refine ⟨⟨n0.1, n0.2, fun k => absurd k k1⟩, ?_⟩
    rw [k8]
    simp [nCall, ckey, tkey, Cl.zero, w_b n1, w_b n2, w_b n3]
  by_cases k9 : r.num 1 = 9
  · simp only [if_neg k1, if_neg k6, if_neg k7, if_neg k8, if_pos k9]
    refine ⟨⟨n0.1, n0.2, fun k => absurd k k1⟩, ?_⟩
    rw [k9]
    simp [nCall, ckey, tkey, Cl.zero, w_b n1, w_b n2, w_m]
  by_cases k10 : r.num 1 = 10
  · simp only [if_neg k1, if_neg k6, if_neg k7, if_neg k8, if_neg k9, if_pos k10]
    refine ⟨⟨n0.1, n0.2, fun k => absurd k k1⟩, ?_⟩
    rw [k10]
    simp [nCall, ckey, tkey, Cl.zero, w_b n1, w_b n2, w_b n3, w_m]
  by_cases k11 : r.num 1 = 11
  · simp only [if_neg k1, if_neg k6, if_neg k7, if_neg k8, if_neg k9, if_neg k10, if_pos k11]
    refine ⟨⟨n0.1, n0.2, fun k => absurd k k1⟩, ?_⟩
    rw [k11]
    simp [nCall, ckey, tkey, Cl.zero, w_b n1, w_b n2]
  simp only [if_neg k1, if_neg k6, if_neg k7, if_neg k8, if_neg k9, if_neg k10, if_neg k11]
  refine ⟨⟨n0.1, n0.2, fun k => absurd k k1⟩, ?_⟩
  simp [nCall, ckey, tkey, Cl.zero, k1, k6, k7, k8, k9, k10, k11]
theorem step_read {r : Rd} (hr : bytesOk r.b ∧ r.b.length ≤ 100000) (hk : (r.num 1).tmod 6 ≠ 0) (hb : (pStep r).2.bad = false) : SG (pStep r).1 := by
  have d1 := Rd.drop_ok 1 hr
  have n0 := num_range1 hr.1
  have n1 := num_range1 d1.1
  have p1 := num_range2 d1.1
  have hm : (r.num 1).tmod 6 = (r.num 1) % 6 := Int.tmod_eq_emod_of_nonneg n0.1
  have l1 : 1 ≤ (r.num 1).tmod 6 := by omega
  have l2 : (r.num 1).tmod 6 ≤ 5 := by omega
  unfold pStep at hb ⊢
  simp only at hb ⊢
  generalize (r.num 1).tmod 6 = k at *
  by_cases k4 : k = 4
  · simp only [if_pos k4]
    subst k4
    refine ⟨⟨l1, l2, fun h => by simp at h⟩, ?_⟩
    simp [nStep, skey, w_b n1]
  by_cases k5 : k = 5
  · simp only [if_neg k4, if_pos k5]
    subst k5
    refine ⟨⟨l1, l2, fun h => by simp at h⟩, ?_⟩
    simp [nStep, skey, w_2 p1]
  by_cases k1 : k = 1
  · simp only [if_neg k4, if_neg k5, if_pos k1] at hb ⊢
    obtain ⟨c1, c2⟩ := call_read d1 hb
    subst k1
    refine ⟨⟨l1, l2, fun _ => c1⟩, ?_⟩
    simp [nStep, skey, c2]
  simp only [if_neg k4, if_neg k5, if_neg k1]
  refine ⟨⟨l1, l2, fun h => absurd h k1⟩, ?_⟩
  simp [nStep, skey, k4, k5, k1]
theorem dec_SG : ∀ (N : Nat) (c : List Int), c.length ≤ N → c.length ≤ 100000 → bytesOk c → ∀ s ∈ dec c, SG s := by
  intro N
  induction N with
  | zero =>
    intro c h _ _ s hs
    have : c = [] := List.length_eq_zero_iff.1 (by omega)
    subst this
    rw [show dec [] = [] from rfl] at hs
    simp at hs
  | succ N ih =>
    intro c h hl hb s hs
    cases c with
    | nil =>
      rw [show dec [] = [] from rfl] at hs
      simp at hs
    | cons x c =>
      simp only [List.length_cons] at h hl
      have l2 := pStep_lt (r := ⟨false, x :: c, false⟩) (by simp)
      have ok := pStep_ok (r := ⟨false, x :: c, false⟩) ⟨hb, by simp; omega⟩
      simp only [List.length_cons] at l2
      rw [dec_cons] at hs
      split at hs
      · exact ih c (by omega) (by omega) (fun y hy => hb y (by simp [hy])) s hs
      · rename_i hk
        split at hs
        · simp at hs
        · rename_i hbad
          rcases List.mem_cons.1 hs with rfl | hs
          · exact step_read (r := ⟨false, x :: c, false⟩) ⟨hb, by simp; omega⟩ (by rw [rn1]; exact hk) (by simpa using hbad)
          · exact ih _ (by omega) (by omega) ok.1 s hs
theorem dec_good {c : List Int} (hl : c.length ≤ 100000) (hb : bytesOk c) : ∀ s ∈ dec c, SG s := dec_SG c.length c (Nat.le_refl _) hl hb
theorem dec_put {s : Sp} (h : SGk s) (t : List Int) : dec (stB s ++ t) = nStep s :: dec t := by
  have p := pStep_put false t h
  obtain ⟨h1, h2, h3⟩ := h
  have w : u8w s.kind = s.kind := w_b ⟨by omega, by omega⟩
  have m : ¬ s.kind.tmod 6 = 0 := by rw [Int.tmod_eq_emod_of_nonneg (by omega)]; omega
  have e : ∃ c, stB s = s.kind :: c := by unfold stB; rw [w]; exact ⟨_, rfl⟩
  obtain ⟨c, e⟩ := e
  rw [e] at p ⊢
  rw [List.cons_append] at p ⊢
  rw [dec_cons, if_neg m, p]
  rfl
theorem SG_key {s s' : Sp} (h : skey s = skey s') (hs : SG s) : SG s' := by
  obtain ⟨sk, ⟨kind, rank, period, stop, ⟨mn, m⟩, ⟨wn, w⟩, ⟨on, o⟩, at_, gen, a, n, mask⟩, sa, sn⟩ := s
  obtain ⟨sk', ⟨kind', rank', period', stop', ⟨mn', m'⟩, ⟨wn', w'⟩, ⟨on', o'⟩, at_', gen', a', n', mask'⟩, sa', sn'⟩ := s'
  have h0 := h
  unfold skey ckey tkey at h
  simp only [Prod.mk.injEq] at h
  obtain ⟨rfl, rfl, rfl, rfl, rfl, rfl, rfl, rfl, rfl, rfl, rfl, rfl, rfl, rfl, rfl⟩ := h
  exact ⟨hs.1, hs.2.trans h0⟩
theorem encS_yes {s : Sp} (h : SG s) : encS s = stB s := by
  unfold encS
  have := dec_put h.1 []
  rw [List.append_nil] at this
  rw [this, show dec [] = [] from rfl]
  rw [if_pos ((eqB_iff _ _).2 (by simp [h.2]))]
theorem encS_no {s : Sp} (hc : s.cl.lite) (h : ¬ SG s) : encS s = [] := by
  unfold encS
  split
  · rename_i e
    have e := (eqB_iff _ _).1 e
    obtain ⟨x, hx, hk⟩ : ∃ x, dec (stB s) = [x] ∧ skey x = skey s := by
      cases hd : dec (stB s) with
      | nil => rw [hd] at e; simp at e
      | cons x l =>
        rw [hd] at e
        simp only [List.map_cons, List.cons.injEq, List.map_eq_nil_iff] at e
        exact ⟨x, by rw [e.2], e.1⟩
    have l := stB_len hc
    exact absurd (SG_key hk (dec_good (by omega) (stB_ok s) x (by rw [hx]; simp))) h
  · rfl
/-- The bytes of steps, one behind the other. -/
def stBs : List Sp → List Int
  | [] => []
  | s :: l => stB s ++ stBs l
theorem encB_good : ∀ {l : List Sp}, (∀ s ∈ l, SG s) → encB l = stBs l
  | [], _ => rfl
  | s :: l, h => by
    rw [encB, stBs, encS_yes (h s (by simp)), encB_good (fun x hx => h x (by simp [hx]))]
theorem dec_puts : ∀ {l : List Sp}, (∀ s ∈ l, SG s) → ∀ t : List Int, dec (stBs l ++ t) = l.map nStep ++ dec t
  | [], _, t => rfl
  | s :: l, h, t => by
    rw [stBs, List.append_assoc, dec_put (h s (by simp)).1, dec_puts (fun x hx => h x (by simp [hx])) t]
    rfl
theorem keys_good : ∀ {l : List Sp}, (∀ s ∈ l, SG s) → (l.map nStep).map skey = l.map skey
  | [], _ => rfl
  | s :: l, h => by
    rw [List.map_cons, List.map_cons, List.map_cons, (h s (by simp)).2, keys_good (fun x hx => h x (by simp [hx]))]
theorem encB_append : ∀ (l m : List Sp), encB (l ++ m) = encB l ++ encB m
  | [], m => rfl
  | s :: l, m => by rw [List.cons_append, encB, encB, encB_append l m, List.append_assoc]
theorem stBs_ok : ∀ l : List Sp, bytesOk (stBs l)
  | [] => ok_nil
  | s :: l => ok_app (stB_ok s) (stBs_ok l)
theorem stBs_append : ∀ (l m : List Sp), stBs (l ++ m) = stBs l ++ stBs m
  | [], m => rfl
  | s :: l, m => by rw [List.cons_append, stBs, stBs, stBs_append l m, List.append_assoc]
/-- A step that is cut off says nothing. -/
theorem dec_part {s : Sp} (h : SG s) (j : Nat) (hj : j < (stB s).length) : dec ((stB s).take j) = [] := by
  obtain ⟨h1, h2, h3⟩ := h.1
  have w : u8w s.kind = s.kind := w_b ⟨by omega, by omega⟩
  have m : ¬ s.kind.tmod 6 = 0 := by rw [Int.tmod_eq_emod_of_nonneg (by omega)]; omega
  have p := pStep_put false [] h.1
  rw [List.append_nil] at p
  obtain ⟨c, e⟩ : ∃ c, stB s = s.kind :: c := by unfold stB; rw [w]; exact ⟨_, rfl⟩
  cases j with
  | zero => rfl
  | succ j =>
    rw [e] at hj p ⊢
    rw [List.take_succ_cons, dec_cons, if_neg m]
    cases hb : (pStep ⟨false, s.kind :: c.take j, false⟩).2.bad with
    | true => rfl
    | false =>
      obtain ⟨_, g⟩ := pStep_ex (t := c.drop j) (r := ⟨false, s.kind :: c.take j, false⟩) (r2 := ⟨false, s.kind :: c, false⟩) ⟨rfl, by simp⟩ hb
      have := g.b
      rw [p] at this
      have l := congrArg List.length this
      simp only [List.length_append, List.length_drop, List.length_nil, List.length_cons] at l hj
      omega
theorem dec_cut : ∀ {l : List Sp}, (∀ s ∈ l, SG s) → ∀ j : Nat, j < (stBs l).length → ∃ i, i < l.length ∧ dec ((stBs l).take j) = (l.take i).map nStep
  | [], _, j, hj => by simp [stBs] at hj
  | s :: l, h, j, hj => by
    rw [stBs] at hj ⊢
    by_cases g : j < (stB s).length
    · refine ⟨0, by simp, ?_⟩
      rw [List.take_append_of_le_length (by omega), dec_part (h s (by simp)) j g]
      rfl
    · rw [List.length_append] at hj
      obtain ⟨i, hi, e⟩ := dec_cut (fun x hx => h x (by simp [hx])) (j - (stB s).length) (l := l) (by omega)
      refine ⟨i + 1, by simp; omega, ?_⟩
      rw [List.take_append, List.take_of_length_le (by omega), dec_put (h s (by simp)).1, e]
      rfl
end Go.Cd
