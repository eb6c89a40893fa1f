/- Steps read, the document's, whole; both read the same. No conditions. -/
import Derived.Test.YtjoocolnbmpkkaaR7QPlM
set_option linter.unusedVariables false
set_option linter.unusedSimpArgs false
namespace Go.Cd
open Go Go.Fw
def rDec : Nat → Rd → List Sp → List Sp
  | 0, _, acc => acc
  | f + 1, r, acc => if r.b = [] then acc else if (r.num 1).tmod 6 = 0 then rDec f (r.rdrop 1) acc else if (rStep r).2.bad = true then acc else rDec f (rStep r).2 (acc ++ [(rStep r).1])
/-! ### The same -/
structure Co (r r' : Rd) : Prop where
  bad : r'.bad = r.bad
  same : r.bad = false → r' = r
theorem Co.refl (r : Rd) : Co r r := ⟨rfl, fun _ => rfl⟩
theorem Co.over {r r' : Rd} (h : Co r r') (n : Nat) : r'.over n = r.over n := by
  cases hb : r.bad with
  | true =>
    have e := h.bad
    unfold Rd.over
    rw [e, hb]
    rfl
  | false => rw [h.same hb]
theorem Co.num {r r' : Rd} (h : Co r r') (n : Nat) : r'.num n = r.num n := by
  cases hb : r.bad with
  | true =>
    have h1 := h.bad.trans hb
    have o1 : r'.over n = true := by unfold Rd.over; rw [h1]; rfl
    have o2 : r.over n = true := by unfold Rd.over; rw [hb]; rfl
    unfold Rd.num
    rw [if_pos o1, if_pos o2]
  | false => rw [h.same hb]
theorem Co.drop {r r' : Rd} (h : Co r r') (n : Nat) : Co (r.drop n) (r'.rdrop n) := by
  have ho := h.over n
  unfold Rd.drop Rd.rdrop
  rw [ho]
  cases e : r.over n with
  | true => exact ⟨rfl, fun k => by cases k⟩
  | false =>
    have hb : r.bad = false := by
      cases e2 : r.bad with
      | false => rfl
      | true => simp [Rd.over, e2] at e
    rw [h.same hb]
    exact ⟨rfl, fun _ => rfl⟩
theorem prog_same : ∀ (n : Nat) (r : Rd) (acc : List Inst), r.bad = false → Co (pProg n r acc).2 (rProg n r acc).2 ∧ ((pProg n r acc).2.bad = false → (rProg n r acc).1 = (pProg n r acc).1)
  | 0, r, acc, hb => ⟨Co.refl r, fun _ => rfl⟩
  | n + 1, r, acc, hb => by
    unfold pProg rProg
    rw [hb]
    simp only [Bool.false_eq_true, if_false]
    have ho : (r.over 7 = true) ↔ r.b.length < 7 := by simp [Rd.over, hb]
    by_cases h7 : r.b.length < 7
    · rw [if_pos (ho.2 h7), if_pos (.inl h7)]
      exact ⟨⟨rfl, fun k => by cases k⟩, fun k => by cases k⟩
    · rw [if_neg (fun k => h7 (ho.1 k))]
      cases hm : mayF (decI (r.b.take 7)) with
      | true =>
        rw [if_pos rfl, if_neg (by simp [h7])]
        exact prog_same n _ _ rfl
      | false =>
        rw [if_neg (by simp), if_pos (.inr rfl)]
        exact ⟨⟨rfl, fun k => by cases k⟩, fun k => by cases k⟩
theorem pProg_bad {n : Nat} {r : Rd} {acc : List Inst} (h : r.bad = true) : (pProg n r acc).2 = r := by
  cases n with
  | zero => rfl
  | succ n => unfold pProg; rw [if_pos h]
theorem code_same {r r' : Rd} (h : Co r r') : Co (pgR r).2 (rcR r').2 ∧ ((pgR r).2.bad = false → (rcR r').1 = (pgR r).1) := by
  have ho := h.over 1
  have hd := h.drop 1
  have hn := h.num 1
  unfold pgR rcR
  rw [ho, hn]
  cases e : r.over 1 with
  | true =>
    rw [if_pos rfl]
    have e0 : r.num 1 = 0 := by unfold Rd.num; rw [if_pos e]
    rw [e0]
    refine ⟨hd, fun k => ?_⟩
    rfl
  | false =>
    rw [if_neg (by simp)]
    have hb : (r.drop 1).bad = false := by unfold Rd.drop; rw [if_neg (by simp [e])]
    rw [hd.same hb]
    exact prog_same _ _ _ hb
theorem pgR_bad {r : Rd} (h : r.bad = true) : (pgR r).2.bad = true := by
  unfold pgR
  have : (r.drop 1).bad = true := by unfold Rd.drop; rw [if_pos (by simp [Rd.over, h])]
  rw [pProg_bad this]; exact this
theorem call_same {r r' : Rd} (h : Co r r') : Co (pCall r).2 (rCall r').2 ∧ ((pCall r).2.bad = false → (rCall r').1 = (pCall r).1) := by
  have n0 := h.num 1
  have h1 := h.drop 1
  have n1 := h1.num 1
  have h2 := h1.drop 1
  have n2 := h2.num 1
  have h3 := h2.drop 1
  have n3 := h3.num 1
  have n24 := h2.num 4
  have n28 := h2.num 8
  have n34 := h3.num 4
  have n38 := h3.num 8
  have h4 := h3.drop 1
  have n44 := h4.num 4
  unfold pCall rCall
  simp only [n0, n1, n2, n3, n24, n28, n34, n38, n44]
  repeat' split
  · have g3 := h2.drop 4
    have g4 := g3.drop 4
    have m3 := g3.num 4
    obtain ⟨c1, e1⟩ := code_same g4
    obtain ⟨c2, e2⟩ := code_same c1
    obtain ⟨c3, e3⟩ := code_same c2
    refine ⟨c3, fun hb => ?_⟩
    have b2 : (pgR (pgR (((r.drop 1).drop 1 |>.drop 4).drop 4)).2).2.bad = false := by
      cases e : (pgR (pgR (((r.drop 1).drop 1 |>.drop 4).drop 4)).2).2.bad with
      | false => rfl
      | true => rw [pgR_bad e] at hb; cases hb
    have b1 : (pgR (((r.drop 1).drop 1 |>.drop 4).drop 4)).2.bad = false := by
      cases e : (pgR (((r.drop 1).drop 1 |>.drop 4).drop 4)).2.bad with
      | false => rfl
      | true => rw [pgR_bad e] at b2; cases b2
    rw [e1 b1, e2 b2, e3 hb, m3]
  · exact ⟨h2.drop 8, fun _ => rfl⟩
  · exact ⟨h3.drop 8, fun _ => rfl⟩
  · exact ⟨h4, fun _ => rfl⟩
  · exact ⟨h3.drop 4, fun _ => rfl⟩
  · exact ⟨h4.drop 4, fun _ => rfl⟩
  · exact ⟨h3, fun _ => rfl⟩
  · exact ⟨h1, fun _ => rfl⟩
theorem step_same (r : Rd) : Co (pStep r).2 (rStep r).2 ∧ ((pStep r).2.bad = false → (rStep r).1 = (pStep r).1) := by
  have h := Co.refl r
  have h1 := h.drop 1
  have n1 := h1.num 1
  have n2 := h1.num 2
  unfold pStep rStep
  simp only [n1, n2]
  repeat' split
  · exact ⟨h1.drop 1, fun _ => rfl⟩
  · exact ⟨h1.drop 2, fun _ => rfl⟩
  · obtain ⟨c1, e1⟩ := call_same h1
    exact ⟨c1, fun hb => by rw [e1 hb]⟩
  · exact ⟨h1, fun _ => rfl⟩
theorem dec_same : ∀ (f : Nat) (r : Rd) (acc : List Sp), r.bad = false → rDec f r acc = pDec f r acc
  | 0, _, _, _ => rfl
  | f + 1, r, acc, hb => by
    unfold rDec pDec
    by_cases he : r.b = []
    · rw [if_pos he, if_pos he]
    · rw [if_neg he, if_neg he]
      have ho : r.over 1 = false := by simp [Rd.over, hb, he]
      have e1 : r.rdrop 1 = r.drop 1 := by unfold Rd.rdrop Rd.drop; rw [if_neg (by simp [ho]), if_neg (by simp [ho])]
      have b1 : (r.drop 1).bad = false := by unfold Rd.drop; rw [if_neg (by simp [ho])]
      rw [e1]
      split
      · exact dec_same f _ acc b1
      · obtain ⟨c, e⟩ := step_same r
        cases hbd : (pStep r).2.bad with
        | true => rw [c.bad, hbd, if_pos rfl, if_pos rfl]
        | false =>
          rw [c.bad, hbd, if_neg (by simp), if_neg (by simp), c.same hbd, e hbd]
          exact dec_same f _ _ hbd
/-! ### The document's Decode -/
theorem rdrop_lt {r : Rd} (h : r.b ≠ []) (hb : r.bad = false) : (r.rdrop 1).b.length + 1 ≤ r.b.length := by
  have := List.length_pos_iff.2 h
  have ho : r.over 1 = false := by simp [Rd.over, hb, h]
  unfold Rd.rdrop
  rw [if_neg (by simp [ho])]
  simp; omega
theorem rStep_lt {r : Rd} (h : r.b ≠ []) (hok : (rStep r).2.bad = false) : (rStep r).2.b.length + 1 ≤ r.b.length := by
  obtain ⟨c, _⟩ := step_same r
  have hb : (pStep r).2.bad = false := by rw [← c.bad]; exact hok
  rw [c.same hb]
  exact pStep_lt h
theorem rStep_ok {r : Rd} (h : bytesOk r.b ∧ r.b.length ≤ 100000) (hok : (rStep r).2.bad = false) : bytesOk (rStep r).2.b ∧ (rStep r).2.b.length ≤ 100000 := by
  obtain ⟨c, _⟩ := step_same r
  have hb : (pStep r).2.bad = false := by rw [← c.bad]; exact hok
  rw [c.same hb]
  exact pStep_ok h
theorem rdec_loop : ∀ (f : Nat) (r : Rd) (acc : List Sp), r.b.length ≤ f → bytesOk r.b ∧ r.b.length ≤ 100000 → r.bad = false → acc.length + r.b.length ≤ 100000 →
    (∃ r', run kp (.loop [3, 4] k_ref27_Decode_L0 (rdSt r acc [])) = some (.out (.ext 0) (rdSt r' (rDec f r acc) [(14, .bool false)]))) ∨
    (∃ s, run kp (.loop [3, 4] k_ref27_Decode_L0 (rdSt r acc [])) = some (.out .ret s) ∧ FinR s (rDec f r acc))
  | 0, r, acc, hf, hr, hbd, hl => .inl ⟨r, rdec_end r acc (List.eq_nil_of_length_eq_zero (by omega))⟩
  | f + 1, r, acc, hf, hr, hbd, hl => by
    unfold rDec
    by_cases he : r.b = []
    · rw [if_pos he]; exact .inl ⟨r, rdec_end r acc he⟩
    · rw [if_neg he]
      by_cases k0 : (r.num 1).tmod 6 = 0
      · rw [if_pos k0, rdec_skip r hr hbd acc (by omega) he k0]
        have := rdrop_lt he hbd
        exact rdec_loop f _ acc (by omega) (rdrop_ok 1 hr) (rdrop1_bad hbd he) (by omega)
      · rw [if_neg k0]
        have fin : (rStep r).2.bad = false → run kp (.loop [3, 4] k_ref27_Decode_L0 (rdSt r acc [])) = run kp (.loop [3, 4] k_ref27_Decode_L0 (rdSt (rStep r).2 (acc ++ [(rStep r).1]) [])) := fun hb => by
          unfold rStep at hb ⊢
          simp only at hb ⊢
          by_cases k4 : (r.num 1).tmod 6 = 4
          · rw [if_pos k4] at hb ⊢; simp only at hb ⊢; rw [k4]; exact rdec_4_ok r hr hbd acc (by omega) he k4 hb
          rw [if_neg k4] at hb ⊢
          by_cases k5 : (r.num 1).tmod 6 = 5
          · rw [if_pos k5] at hb ⊢; simp only at hb ⊢; rw [k5]; exact rdec_5_ok r hr hbd acc (by omega) he k5 hb
          rw [if_neg k5] at hb ⊢
          by_cases k6 : (r.num 1).tmod 6 = 1
          · rw [if_pos k6] at hb ⊢; simp only at hb ⊢; rw [k6]; exact rdec_1_ok r hr hbd acc (by omega) he k6 hb
          rw [if_neg k6]
          exact rdec_o_ok r hr hbd acc (by omega) he k0 k4 k5 k6
        have bad : (rStep r).2.bad = true → ∃ s, run kp (.loop [3, 4] k_ref27_Decode_L0 (rdSt r acc [])) = some (.out .ret s) ∧ FinR s acc := fun hb => by
          unfold rStep at hb
          simp only at hb
          by_cases k4 : (r.num 1).tmod 6 = 4
          · rw [if_pos k4] at hb; exact rdec_4_bad r hr hbd acc (by omega) he k4 hb
          rw [if_neg k4] at hb
          by_cases k5 : (r.num 1).tmod 6 = 5
          · rw [if_pos k5] at hb; exact rdec_5_bad r hr hbd acc (by omega) he k5 hb
          rw [if_neg k5] at hb
          by_cases k6 : (r.num 1).tmod 6 = 1
          · rw [if_pos k6] at hb; exact rdec_1_bad r hr hbd acc (by omega) he k6 hb
          rw [if_neg k6] at hb
          have := rdrop1_bad hbd he
          rw [this] at hb; cases hb
        cases hb : (rStep r).2.bad with
        | true => simp only [if_true]; exact .inr (bad hb)
        | false =>
          simp only [Bool.false_eq_true, if_false]
          rw [fin hb]
          have := rStep_lt he hb
          exact rdec_loop f _ _ (by omega) (rStep_ok hr hb) hb (by simp; omega)
theorem canon_sV1 (s : St) (acc : List Sp) (hb : s.base = 0) (ht : s.tl = fun _ => none) (hh : acc ≠ [] → hlook s.hp 1 = some (.row true (acc.map Sp.d))) : canK (canon [(0, sV1 acc)] s) = some (.val (sV acc) (sH acc) (sN acc)) := by
  obtain ⟨env, hp, tl, base, next⟩ := s
  simp only at hb ht hh
  subst hb ht
  unfold canon
  simp only [outer_no]
  cases acc with
  | nil => simp [sV1, sV, sH, sN, envHs, hpHs, reach, gathered, V.hs, V.ren, envRen, hpRen]
  | cons x acc =>
    have h0 := hh (by simp)
    have hg : (St.mk env hp (fun _ => none) 0 next).g 1 = some (.row true ((x :: acc).map Sp.d)) := by
      unfold St.g
      simp only [h0]
    have er : reach (St.mk env hp (fun _ => none) 0 next).g 0 4096 [1] [] = [1] := by
      simp [reach, hg, Blk.hs]
    have e1 : envHs [(0, sV1 (x :: acc))] = [1] := rfl
    have e2 : hpHs [] = [] := rfl
    rw [e1, e2]
    simp only [List.append_nil]
    rw [er]
    simp [gathered, hg, renOf, idx, Blk.ren, Blk.hs, hpHs, envRen, hpRen, sV1, sV, sH, sN, V.ren]
theorem valK_sV (acc : List Sp) : valK (some (.val (sV acc) (sH acc) (sN acc))) = some (.ds [rowS acc]) := by
  cases acc with
  | nil => rfl
  | cons x acc => simp [sV, sH, sN, rowS, take_Sp, valK, vsOf, dsK]
set_option maxRecDepth 10000 in
set_option maxHeartbeats 4000000 in
theorem ref27_Decode (nl : Bool) (b : List Int) (hb : bytesOk b) (hl : b.length ≤ 50000) : run kp (.dats f_ref27_Decode [.sl nl (b.map u8d)]) = some (.ds [rowS (pDec b.length ⟨nl, b, false⟩ [])]) := by
  rw [← dec_same b.length ⟨nl, b, false⟩ [] rfl]
  have lp := rdec_loop b.length ⟨nl, b, false⟩ [] (Nat.le_refl _) ⟨hb, by simp only; omega⟩ rfl (by simp; omega)
  generalize rDec b.length ⟨nl, b, false⟩ [] = acc at *
  simp only [rdSt, Rd.box, List.append_nil, List.cons_append, List.nil_append] at lp
  rw [run_dats, run_call, kp_ref27_Decode]
  rcases lp with ⟨r', lp⟩ | ⟨s, l1, l2⟩
  · cases acc with
    | nil => simp [k_ref27_Decode, lp, rowS, Rd.box]
    | cons x acc => simp [k_ref27_Decode, lp, rowS, Rd.box, take_Sp]
  · obtain ⟨f1, f2, f3, f4⟩ := l2
    have c := canon_sV1 s acc f3 f4 f2
    simp only [val] at f1
    simp [k_ref27_Decode, l1, f1]
    cases acc with
    | nil =>
      show valK (canK (canon [(0, sV1 [])] _)) = _
      rw [c]; exact valK_sV []
    | cons x acc =>
      show valK (canK (canon [(0, sV1 (x :: acc))] _)) = _
      rw [c]; exact valK_sV (x :: acc)
end Go.Cd
