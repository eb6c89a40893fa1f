/- Reading goes on the same with more behind it. Plain. -/
import Derived.Test.YtjoocolnbmpkkaaR7QPlU
set_option linter.unusedVariables false
set_option linter.unusedSimpArgs false
namespace Go.Cd
open Go Go.Fw
structure Ex (t : List Int) (r r2 : Rd) : Prop where
  bad : r2.bad = r.bad
  b : r2.b = r.b ++ t
theorem Ex.mk' {t : List Int} (nl nl2 : Bool) (c : List Int) (x : Bool) : Ex t ⟨nl, c, x⟩ ⟨nl2, c ++ t, x⟩ := ⟨rfl, rfl⟩
theorem over_no {r : Rd} {n : Nat} (hb : (r.drop n).bad = false) : r.bad = false ∧ n ≤ r.b.length := by
  unfold Rd.drop at hb
  split at hb
  · cases hb
  · rename_i h
    unfold Rd.over at h
    cases e : r.bad with
    | true => simp [e] at h
    | false =>
      simp [e] at h
      exact ⟨rfl, h⟩
theorem drop_fine {r : Rd} {n : Nat} (hb : r.bad = false) (hl : n ≤ r.b.length) : r.drop n = ⟨r.nl, r.b.drop n, false⟩ ∧ r.num n = be (r.b.take n) := by
  have o : ¬ r.over n = true := by unfold Rd.over; simp [hb]; omega
  unfold Rd.drop Rd.num
  rw [if_neg o, if_neg o]
  exact ⟨rfl, rfl⟩
theorem drop_ex {t : List Int} {r r2 : Rd} (h : Ex t r r2) {n : Nat} (hb : (r.drop n).bad = false) : r2.num n = r.num n ∧ Ex t (r.drop n) (r2.drop n) := by
  obtain ⟨h1, h2⟩ := over_no hb
  have e := drop_fine h1 h2
  have e2 := drop_fine (r := r2) (n := n) (h.bad.trans h1) (by rw [h.b]; simp; omega)
  rw [e.1, e.2, e2.1, e2.2, h.b, List.take_append_of_le_length h2, List.drop_append_of_le_length h2]
  exact ⟨rfl, rfl, rfl⟩
theorem drop_mono {r : Rd} {n : Nat} (hb : (r.drop n).bad = false) : r.bad = false := (over_no hb).1
theorem pProg_mono {n : Nat} {r : Rd} {acc : List Inst} (hb : (pProg n r acc).2.bad = false) : r.bad = false := by
  cases e : r.bad with
  | false => rfl
  | true => rw [pProg_bad e, e] at hb; cases hb
theorem pProg_ex {t : List Int} : ∀ (n : Nat) {r r2 : Rd} (acc : List Inst), Ex t r r2 → (pProg n r acc).2.bad = false → (pProg n r2 acc).1 = (pProg n r acc).1 ∧ Ex t (pProg n r acc).2 (pProg n r2 acc).2
  | 0, r, r2, acc, h, hb => ⟨rfl, h⟩
  | n + 1, r, r2, acc, h, hb => by
    have h0 := pProg_mono hb
    have h2 := h.bad.trans h0
    unfold pProg at hb ⊢
    simp only [h0, h2, Bool.false_eq_true, if_false] at hb ⊢
    cases o : r.over 7 with
    | true => rw [o] at hb; simp [gone] at hb
    | false =>
      rw [o] at hb
      have l : 7 ≤ r.b.length := by unfold Rd.over at o; simp at o; exact o.2
      have o2 : r2.over 7 = false := by unfold Rd.over; rw [h.b]; simp [h2]; omega
      rw [o2]
      simp only [Bool.false_eq_true, if_false] at hb ⊢
      have e : r2.b.take 7 = r.b.take 7 := by rw [h.b, List.take_append_of_le_length l]
      rw [e]
      cases m : mayF (decI (r.b.take 7)) with
      | false => rw [m] at hb; simp [gone] at hb
      | true =>
        rw [m] at hb
        simp only [if_true] at hb ⊢
        exact pProg_ex n _ ⟨rfl, by rw [h.b, List.drop_append_of_le_length l]⟩ hb
theorem pgR_mono {r : Rd} (hb : (pgR r).2.bad = false) : r.bad = false := drop_mono (pProg_mono hb)
theorem pgR_ex {t : List Int} {r r2 : Rd} (h : Ex t r r2) (hb : (pgR r).2.bad = false) : (pgR r2).1 = (pgR r).1 ∧ Ex t (pgR r).2 (pgR r2).2 := by
  obtain ⟨e, d⟩ := drop_ex h (n := 1) (pProg_mono hb)
  unfold pgR at hb ⊢
  rw [e]
  exact pProg_ex _ _ d hb
theorem pCall_mono {r : Rd} (hb : (pCall r).2.bad = false) : (r.drop 1).bad = false := by
  unfold pCall at hb
  simp only at hb
  repeat' split at hb
  · exact drop_mono (drop_mono (drop_mono (pgR_mono (pgR_mono (pgR_mono hb)))))
  · exact drop_mono (drop_mono hb)
  · exact drop_mono (drop_mono (drop_mono hb))
  · exact drop_mono (drop_mono (drop_mono hb))
  · exact drop_mono (drop_mono (drop_mono hb))
  · exact drop_mono (drop_mono (drop_mono (drop_mono hb)))
  · exact drop_mono (drop_mono hb)
  · exact hb
theorem pCall_ex {t : List Int} {r r2 : Rd} (h : Ex t r r2) (hb : (pCall r).2.bad = false) : (pCall r2).1 = (pCall r).1 ∧ Ex t (pCall r).2 (pCall r2).2 := by
  obtain ⟨e1, d1⟩ := drop_ex h (pCall_mono hb)
  unfold pCall at hb ⊢
  simp only at hb ⊢
  rw [e1]
  repeat' split at hb
  · rename_i k
    simp only [if_pos k]
    simp only at hb
    have b3 := pgR_mono hb
    have b2 := pgR_mono b3
    have b1 := pgR_mono b2
    obtain ⟨f1, g1⟩ := drop_ex d1 (n := 1) (drop_mono (drop_mono b1))
    obtain ⟨f2, g2⟩ := drop_ex g1 (n := 4) (drop_mono b1)
    obtain ⟨f3, g3⟩ := drop_ex g2 (n := 4) b1
    obtain ⟨f4, g4⟩ := pgR_ex g3 b2
    obtain ⟨f5, g5⟩ := pgR_ex g4 b3
    obtain ⟨f6, g6⟩ := pgR_ex g5 hb
    rw [f1, f2, f3, f4, f5, f6]
    exact ⟨rfl, g6⟩
  · rename_i k1 k
    simp only [if_neg k1, if_pos k]
    obtain ⟨f1, g1⟩ := drop_ex d1 (n := 1) (drop_mono hb)
    obtain ⟨f2, g2⟩ := drop_ex g1 (n := 8) hb
    rw [f1, f2]
    exact ⟨rfl, g2⟩
  · rename_i k1 k6 k
    simp only [if_neg k1, if_neg k6, if_pos k]
    obtain ⟨f1, g1⟩ := drop_ex d1 (n := 1) (drop_mono (drop_mono hb))
    obtain ⟨f2, g2⟩ := drop_ex g1 (n := 1) (drop_mono hb)
    obtain ⟨f3, g3⟩ := drop_ex g2 (n := 8) hb
    rw [f1, f2, f3]
    exact ⟨rfl, g3⟩
  · rename_i k1 k6 k7 k
    simp only [if_neg k1, if_neg k6, if_neg k7, if_pos k]
    obtain ⟨f1, g1⟩ := drop_ex d1 (n := 1) (drop_mono (drop_mono hb))
    obtain ⟨f2, g2⟩ := drop_ex g1 (n := 1) (drop_mono hb)
    obtain ⟨f3, g3⟩ := drop_ex g2 (n := 1) hb
    rw [f1, f2, f3]
    exact ⟨rfl, g3⟩
  · rename_i k1 k6 k7 k8 k
    simp only [if_neg k1, if_neg k6, if_neg k7, if_neg k8, if_pos k]
    obtain ⟨f1, g1⟩ := drop_ex d1 (n := 1) (drop_mono (drop_mono hb))
    obtain ⟨f2, g2⟩ := drop_ex g1 (n := 1) (drop_mono hb)
    obtain ⟨f3, g3⟩ := drop_ex g2 (n := 4) hb
    rw [f1, f2, f3]
    exact ⟨rfl, g3⟩
  · rename_i k1 k6 k7 k8 k9 k
    simp only [if_neg k1, if_neg k6, if_neg k7, if_neg k8, if_neg k9, if_pos k]
    obtain ⟨f1, g1⟩ := drop_ex d1 (n := 1) (drop_mono (drop_mono (drop_mono hb)))
    obtain ⟨f2, g2⟩ := drop_ex g1 (n := 1) (drop_mono (drop_mono hb))
    obtain ⟨f3, g3⟩ := drop_ex g2 (n := 1) (drop_mono hb)
    obtain ⟨f4, g4⟩ := drop_ex g3 (n := 4) hb
    rw [f1, f2, f3, f4]
    exact ⟨rfl, g4⟩
  · rename_i k1 k6 k7 k8 k9 k10 k
    simp only [if_neg k1, if_neg k6, if_neg k7, if_neg k8, if_neg k9, if_neg k10, if_pos k]
    obtain ⟨f1, g1⟩ := drop_ex d1 (n := 1) (drop_mono hb)
    obtain ⟨f2, g2⟩ := drop_ex g1 (n := 1) hb
    rw [f1, f2]
    exact ⟨rfl, g2⟩
  · rename_i k1 k6 k7 k8 k9 k10 k11
    simp only [if_neg k1, if_neg k6, if_neg k7, if_neg k8, if_neg k9, if_neg k10, if_neg k11]
    exact ⟨trivial, d1⟩
theorem pStep_mono {r : Rd} (hb : (pStep r).2.bad = false) : (r.drop 1).bad = false := by
  unfold pStep at hb
  simp only at hb
  repeat' split at hb
  · exact drop_mono hb
  · exact drop_mono hb
  · exact drop_mono (pCall_mono hb)
  · exact hb
theorem pStep_ex {t : List Int} {r r2 : Rd} (h : Ex t r r2) (hb : (pStep r).2.bad = false) : (pStep r2).1 = (pStep r).1 ∧ Ex t (pStep r).2 (pStep r2).2 := by
  obtain ⟨e1, d1⟩ := drop_ex h (pStep_mono hb)
  unfold pStep at hb ⊢
  simp only at hb ⊢
  rw [e1]
  repeat' split at hb
  · rename_i k
    simp only [if_pos k]
    obtain ⟨f1, g1⟩ := drop_ex d1 (n := 1) hb
    rw [f1]
    exact ⟨rfl, g1⟩
  · rename_i k4 k
    simp only [if_neg k4, if_pos k]
    obtain ⟨f1, g1⟩ := drop_ex d1 (n := 2) hb
    rw [f1]
    exact ⟨rfl, g1⟩
  · rename_i k4 k5 k
    simp only [if_neg k4, if_neg k5, if_pos k]
    obtain ⟨f1, g1⟩ := pCall_ex d1 hb
    rw [f1]
    exact ⟨rfl, g1⟩
  · rename_i k4 k5 k1
    simp only [if_neg k4, if_neg k5, if_neg k1]
    exact ⟨trivial, d1⟩
/-! ### Steps, by themselves -/
theorem num1_nl (nl : Bool) (c : List Int) (hc : c ≠ []) : Rd.num ⟨nl, c, false⟩ 1 = c.headD 0 ∧ Rd.drop ⟨nl, c, false⟩ 1 = ⟨nl, c.drop 1, false⟩ := by
  cases c with
  | nil => exact absurd rfl hc
  | cons x c =>
    have := drop_fine (r := ⟨nl, x :: c, false⟩) (n := 1) rfl (by simp)
    rw [this.1, this.2]
    simp [be]
theorem pDec_step (f : Nat) (nl : Bool) (x : Int) (c : List Int) (acc : List Sp) : pDec (f + 1) ⟨nl, x :: c, false⟩ acc = if x.tmod 6 = 0 then pDec f ⟨nl, c, false⟩ acc else if (pStep ⟨nl, x :: c, false⟩).2.bad = true then acc else pDec f (pStep ⟨nl, x :: c, false⟩).2 (acc ++ [(pStep ⟨nl, x :: c, false⟩).1]) := by
  obtain ⟨n1, d1⟩ := num1_nl nl (x :: c) (by simp)
  simp only [List.headD_cons, List.drop_one, List.tail_cons] at n1 d1
  rw [pDec, if_neg (by simp), n1, d1]
theorem pDec_gen : ∀ (N f : Nat) (nl : Bool) (c : List Int) (acc : List Sp), f ≤ N → c.length ≤ f → pDec f ⟨nl, c, false⟩ acc = acc ++ dec c := by
  intro N
  induction N with
  | zero =>
    intro f nl c acc hN h
    obtain rfl : f = 0 := by omega
    have : c = [] := List.length_eq_zero_iff.1 (by omega)
    subst this
    show acc = acc ++ dec []
    rw [show dec [] = [] from rfl, List.append_nil]
  | succ N ih =>
    intro f nl c acc hN h
    cases c with
    | nil =>
      rw [show dec [] = [] from rfl, List.append_nil]
      cases f with
      | zero => rfl
      | succ f => rw [pDec, if_pos rfl]
    | cons x c =>
      simp only [List.length_cons] at h
      obtain ⟨f, rfl⟩ : ∃ g, f = g + 1 := ⟨f - 1, by omega⟩
      unfold dec
      rw [List.length_cons, pDec_step, pDec_step]
      split
      · rw [ih f nl c acc (by omega) (by omega), ih c.length false c [] (by omega) (by omega)]
        rfl
      · cases e1 : (pStep ⟨nl, x :: c, false⟩).2.bad with
        | false =>
          obtain ⟨f1, g1⟩ := pStep_ex (t := []) (r := ⟨nl, x :: c, false⟩) (r2 := ⟨false, x :: c, false⟩) ⟨rfl, by simp⟩ e1
          have e2 := g1.bad.trans e1
          have eb := g1.b
          rw [List.append_nil] at eb
          rw [e2, f1]
          have l2 := pStep_lt (r := ⟨false, x :: c, false⟩) (by simp)
          simp only [List.length_cons] at l2
          generalize pStep ⟨nl, x :: c, false⟩ = p1 at *
          generalize pStep ⟨false, x :: c, false⟩ = p2 at *
          obtain ⟨s1, nl1, c1, b1⟩ := p1
          obtain ⟨s2, nl2, c2, b2⟩ := p2
          simp only at e1 e2 eb f1 l2
          subst e1 e2 eb f1
          simp only [Bool.false_eq_true, if_false]
          rw [ih f nl1 c2 _ (by omega) (by omega), ih c.length nl2 c2 _ (by omega) (by omega)]
          simp
        | true =>
          cases e2 : (pStep ⟨false, x :: c, false⟩).2.bad with
          | true => simp
          | false =>
            obtain ⟨f1, g1⟩ := pStep_ex (t := []) (r := ⟨false, x :: c, false⟩) (r2 := ⟨nl, x :: c, false⟩) ⟨rfl, by simp⟩ e2
            have := g1.bad
            rw [e1, e2] at this
            cases this
/-- What bytes say, step by step. -/
theorem dec_cons (x : Int) (c : List Int) : dec (x :: c) = if x.tmod 6 = 0 then dec c else if (pStep ⟨false, x :: c, false⟩).2.bad = true then [] else (pStep ⟨false, x :: c, false⟩).1 :: dec (pStep ⟨false, x :: c, false⟩).2.b := by
  have e : dec (x :: c) = pDec (c.length + 1) ⟨false, x :: c, false⟩ [] := rfl
  rw [e, pDec_step]
  split
  · rw [pDec_gen _ _ false c [] (Nat.le_refl _) (Nat.le_refl _)]
    rfl
  · have l2 := pStep_lt (r := ⟨false, x :: c, false⟩) (by simp)
    generalize pStep ⟨false, x :: c, false⟩ = p2 at *
    obtain ⟨s2, nl2, c2, b2⟩ := p2
    simp only [List.length_cons] at l2
    cases b2 with
    | true => simp
    | false =>
      simp only [Bool.false_eq_true, if_false]
      rw [pDec_gen _ _ nl2 c2 _ (Nat.le_refl _) (by omega)]
      rfl
theorem dec_nl (nl : Bool) (c : List Int) : pDec c.length ⟨nl, c, false⟩ [] = dec c := by
  rw [pDec_gen _ _ nl c [] (Nat.le_refl _) (Nat.le_refl _)]
  rfl
end Go.Cd
