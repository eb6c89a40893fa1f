/- Which steps are made bytes; what the bytes of steps say. Plain. -/
import Derived.Test.YtjoocolnbmpkkaaR7QPlX
set_option linter.unusedVariables false
set_option linter.unusedSimpArgs false
namespace Go.Cd
open Go Go.Fw
theorem num_range {r : Rd} {n : Nat} (hr : bytesOk r.b) : 0 ≤ r.num n ∧ r.num n < 256 ^ n := by
  have p : (0 : Int) < 256 ^ n := Int.pow_pos (by omega)
  unfold Rd.num
  split
  · omega
  · have := be_range (r.b.take n) (fun x hx => hr x (List.mem_of_mem_take hx))
    have h2 : (256 : Int) ^ (r.b.take n).length ≤ 256 ^ n := pow256 (by simp; omega)
    omega
theorem num_range1 {r : Rd} (hr : bytesOk r.b) : 0 ≤ r.num 1 ∧ r.num 1 < 256 := num_range hr
theorem num_range2 {r : Rd} (hr : bytesOk r.b) : 0 ≤ r.num 2 ∧ r.num 2 < 65536 := num_range hr
theorem num_range4 {r : Rd} (hr : bytesOk r.b) : 0 ≤ r.num 4 ∧ r.num 4 < 4294967296 := num_range hr
theorem pProg_read : ∀ (n : Nat) (r : Rd) (acc : List Inst), (pProg n r acc).2.bad = false → ∃ l, (pProg n r acc).1 = acc ++ l ∧ l.length = n ∧ l.all mayF = true
  | 0, r, acc, _ => ⟨[], by simp [pProg], rfl, rfl⟩
  | n + 1, r, acc, hb => by
    have h0 := pProg_mono hb
    unfold pProg at hb ⊢
    simp only [h0, Bool.false_eq_true, if_false] at hb ⊢
    cases o : r.over 7 with
    | true => rw [o] at hb; simp [gone] at hb
    | false =>
      rw [o] at hb
      simp only [Bool.false_eq_true, if_false] at hb ⊢
      cases m : mayF (decI (r.b.take 7)) with
      | false => rw [m] at hb; simp [gone] at hb
      | true =>
        rw [m] at hb
        simp only [if_true] at hb ⊢
        obtain ⟨l, e, h1, h2⟩ := pProg_read n _ _ hb
        exact ⟨decI (r.b.take 7) :: l, by rw [e]; simp, by simp [h1], by simp only [List.all_cons, m, h2, Bool.true_and]⟩
theorem pgR_read {r : Rd} (hr : bytesOk r.b) (hb : (pgR r).2.bad = false) : progOk (pgR r).1 := by
  obtain ⟨l, e, h1, h2⟩ := pProg_read (r.num 1).toNat (r.drop 1) [] hb
  have := num_range1 hr
  have e' : (pgR r).1 = l := e
  rw [e']
  exact ⟨by omega, h2⟩
theorem call_read {r : Rd} (hr : bytesOk r.b ∧ r.b.length ≤ 100000) (hb : (pCall r).2.bad = false) : CGk (pCall r).1 ∧ ckey (nCall (pCall r).1) = ckey (pCall r).1 := by
  have d1 := Rd.drop_ok 1 hr
  have d2 := Rd.drop_ok 1 d1
  have d3 := Rd.drop_ok 1 d2
  have d4 := Rd.drop_ok 1 d3
  have e3 := Rd.drop_ok 4 d2
  have e4 := Rd.drop_ok 4 e3
  have n0 := num_range1 hr.1
  have n1 := num_range1 d1.1
  have n2 := num_range1 d2.1
  have n3 := num_range1 d3.1
  have p2 := num_range4 d2.1
  have p3 := num_range4 e3.1
  unfold pCall at hb ⊢
  simp only at hb ⊢
  by_cases k1 : r.num 1 = 1
  · simp only [if_pos k1] at hb ⊢
    have b3 := pgR_mono hb
    have b2 := pgR_mono b3
    refine ⟨⟨n0.1, n0.2, fun _ => ⟨pgR_read e4.1 b2, pgR_read (pgR_ok e4).1 b3, pgR_read (pgR_ok (pgR_ok e4)).1 hb⟩⟩, ?_⟩
    rw [k1]
    unfold nCall ckey tkey
    simp only [if_true, w_b n1, w_p p2, w_p p3, rr]
  by_cases k6 : r.num 1 = 6
  · simp only [if_neg k1, if_pos k6]
    refine ⟨⟨n0.1, n0.2, fun k => absurd k k1⟩, ?_⟩
    rw [k6]
    simp [nCall, ckey, tkey, Cl.zero, w_b n1, w_n]
  by_cases k7 : r.num 1 = 7
  · simp only [if_neg k1, if_neg k6, if_pos k7]
    refine ⟨⟨n0.1, n0.2, fun k => absurd k k1⟩, ?_⟩
    rw [k7]
    simp [nCall, ckey, tkey, Cl.zero, w_b n1, w_b n2, w_n]
  by_cases k8 : r.num 1 = 8
  · simp only [if_neg k1, if_neg k6, if_neg k7, if_pos k8]
    refine ⟨⟨n0.1, n0.2, fun k => absurd k k1⟩, ?_⟩
    rw [k8]
    simp [nCall, ckey, tkey, Cl.zero, w_b n1, w_b n2, w_b n3]
  by_cases k9 : r.num 1 = 9
  · simp only [if_neg k1, if_neg k6, if_neg k7, if_neg k8, if_pos k9]
    refine ⟨⟨n0.1, n0.2, fun k => absurd k k1⟩, ?_⟩
    rw [k9]
    simp [nCall, ckey, tkey, Cl.zero, w_b n1, w_b n2, w_m]
  by_cases k10 : r.num 1 = 10
  · simp only [if_neg k1, if_neg k6, if_neg k7, if_neg k8, if_neg k9, if_pos k10]
    refine ⟨⟨n0.1, n0.2, fun k => absurd k k1⟩, ?_⟩
    rw [k10]
    simp [nCall, ckey, tkey, Cl.zero, w_b n1, w_b n2, w_b n3, w_m]
  by_cases k11 : r.num 1 = 11
  · simp only [if_neg k1, if_neg k6, if_neg k7, if_neg k8, if_neg k9, if_neg k10, if_pos k11]
    refine ⟨⟨n0.1, n0.2, fun k => absurd k k1⟩, ?_⟩
    rw [k11]
    simp [nCall, ckey, tkey, Cl.zero, w_b n1, w_b n2]
  simp only [if_neg k1, if_neg k6, if_neg k7, if_neg k8, if_neg k9, if_neg k10, if_neg k11]
  refine ⟨⟨n0.1, n0.2, fun k => absurd k k1⟩, ?_⟩
  simp [nCall, ckey, tkey, Cl.zero, k1, k6, k7, k8, k9, k10, k11]
theorem step_read {r : Rd} (hr : bytesOk r.b ∧ r.b.length ≤ 100000) (hk : (r.num 1).tmod 6 ≠ 0) (hb : (pStep r).2.bad = false) : SG (pStep r).1 := by
  have d1 := Rd.drop_ok 1 hr
  have n0 := num_range1 hr.1
  have n1 := num_range1 d1.1
  have p1 := num_range2 d1.1
  have hm : (r.num 1).tmod 6 = (r.num 1) % 6 := Int.tmod_eq_emod_of_nonneg n0.1
  have l1 : 1 ≤ (r.num 1).tmod 6 := by omega
  have l2 : (r.num 1).tmod 6 ≤ 5 := by omega
  unfold pStep at hb ⊢
  simp only at hb ⊢
  generalize (r.num 1).tmod 6 = k at *
  by_cases k4 : k = 4
  · simp only [if_pos k4]
    subst k4
    refine ⟨⟨l1, l2, fun h => by simp at h⟩, ?_⟩
    simp [nStep, skey, w_b n1]
  by_cases k5 : k = 5
  · simp only [if_neg k4, if_pos k5]
    subst k5
    refine ⟨⟨l1, l2, fun h => by simp at h⟩, ?_⟩
    simp [nStep, skey, w_2 p1]
  by_cases k1 : k = 1
  · simp only [if_neg k4, if_neg k5, if_pos k1] at hb ⊢
    obtain ⟨c1, c2⟩ := call_read d1 hb
    subst k1
    refine ⟨⟨l1, l2, fun _ => c1⟩, ?_⟩
    simp [nStep, skey, c2]
  simp only [if_neg k4, if_neg k5, if_neg k1]
  refine ⟨⟨l1, l2, fun h => absurd h k1⟩, ?_⟩
  simp [nStep, skey, k4, k5, k1]
theorem dec_SG : ∀ (N : Nat) (c : List Int), c.length ≤ N → c.length ≤ 100000 → bytesOk c → ∀ s ∈ dec c, SG s := by
  intro N
  induction N with
  | zero =>
    intro c h _ _ s hs
    have : c = [] := List.length_eq_zero_iff.1 (by omega)
    subst this
    rw [show dec [] = [] from rfl] at hs
    simp at hs
  | succ N ih =>
    intro c h hl hb s hs
    cases c with
    | nil =>
      rw [show dec [] = [] from rfl] at hs
      simp at hs
    | cons x c =>
      simp only [List.length_cons] at h hl
      have l2 := pStep_lt (r := ⟨false, x :: c, false⟩) (by simp)
      have ok := pStep_ok (r := ⟨false, x :: c, false⟩) ⟨hb, by simp; omega⟩
      simp only [List.length_cons] at l2
      rw [dec_cons] at hs
      split at hs
      · exact ih c (by omega) (by omega) (fun y hy => hb y (by simp [hy])) s hs
      · rename_i hk
        split at hs
        · simp at hs
        · rename_i hbad
          rcases List.mem_cons.1 hs with rfl | hs
          · exact step_read (r := ⟨false, x :: c, false⟩) ⟨hb, by simp; omega⟩ (by rw [rn1]; exact hk) (by simpa using hbad)
          · exact ih _ (by omega) (by omega) ok.1 s hs
theorem dec_good {c : List Int} (hl : c.length ≤ 100000) (hb : bytesOk c) : ∀ s ∈ dec c, SG s := dec_SG c.length c (Nat.le_refl _) hl hb
theorem dec_put {s : Sp} (h : SGk s) (t : List Int) : dec (stB s ++ t) = nStep s :: dec t := by
  have p := pStep_put false t h
  obtain ⟨h1, h2, h3⟩ := h
  have w : u8w s.kind = s.kind := w_b ⟨by omega, by omega⟩
  have m : ¬ s.kind.tmod 6 = 0 := by rw [Int.tmod_eq_emod_of_nonneg (by omega)]; omega
  have e : ∃ c, stB s = s.kind :: c := by unfold stB; rw [w]; exact ⟨_, rfl⟩
  obtain ⟨c, e⟩ := e
  rw [e] at p ⊢
  rw [List.cons_append] at p ⊢
  rw [dec_cons, if_neg m, p]
  rfl
theorem SG_key {s s' : Sp} (h : skey s = skey s') (hs : SG s) : SG s' := by
  obtain ⟨sk, ⟨kind, rank, period, stop, ⟨mn, m⟩, ⟨wn, w⟩, ⟨on, o⟩, at_, gen, a, n, mask⟩, sa, sn⟩ := s
  obtain ⟨sk', ⟨kind', rank', period', stop', ⟨mn', m'⟩, ⟨wn', w'⟩, ⟨on', o'⟩, at_', gen', a', n', mask'⟩, sa', sn'⟩ := s'
  have h0 := h
  unfold skey ckey tkey at h
  simp only [Prod.mk.injEq] at h
  obtain ⟨rfl, rfl, rfl, rfl, rfl, rfl, rfl, rfl, rfl, rfl, rfl, rfl, rfl, rfl, rfl⟩ := h
  exact ⟨hs.1, hs.2.trans h0⟩
theorem encS_yes {s : Sp} (h : SG s) : encS s = stB s := by
  unfold encS
  have := dec_put h.1 []
  rw [List.append_nil] at this
  rw [this, show dec [] = [] from rfl]
  rw [if_pos ((eqB_iff _ _).2 (by simp [h.2]))]
theorem encS_no {s : Sp} (hc : s.cl.lite) (h : ¬ SG s) : encS s = [] := by
  unfold encS
  split
  · rename_i e
    have e := (eqB_iff _ _).1 e
    obtain ⟨x, hx, hk⟩ : ∃ x, dec (stB s) = [x] ∧ skey x = skey s := by
      cases hd : dec (stB s) with
      | nil => rw [hd] at e; simp at e
      | cons x l =>
        rw [hd] at e
        simp only [List.map_cons, List.cons.injEq, List.map_eq_nil_iff] at e
        exact ⟨x, by rw [e.2], e.1⟩
    have l := stB_len hc
    exact absurd (SG_key hk (dec_good (by omega) (stB_ok s) x (by rw [hx]; simp))) h
  · rfl
/-- The bytes of steps, one behind the other. -/
def stBs : List Sp → List Int
  | [] => []
  | s :: l => stB s ++ stBs l
theorem encB_good : ∀ {l : List Sp}, (∀ s ∈ l, SG s) → encB l = stBs l
  | [], _ => rfl
  | s :: l, h => by
    rw [encB, stBs, encS_yes (h s (by simp)), encB_good (fun x hx => h x (by simp [hx]))]
theorem dec_puts : ∀ {l : List Sp}, (∀ s ∈ l, SG s) → ∀ t : List Int, dec (stBs l ++ t) = l.map nStep ++ dec t
  | [], _, t => rfl
  | s :: l, h, t => by
    rw [stBs, List.append_assoc, dec_put (h s (by simp)).1, dec_puts (fun x hx => h x (by simp [hx])) t]
    rfl
theorem keys_good : ∀ {l : List Sp}, (∀ s ∈ l, SG s) → (l.map nStep).map skey = l.map skey
  | [], _ => rfl
  | s :: l, h => by
    rw [List.map_cons, List.map_cons, List.map_cons, (h s (by simp)).2, keys_good (fun x hx => h x (by simp [hx]))]
theorem encB_append : ∀ (l m : List Sp), encB (l ++ m) = encB l ++ encB m
  | [], m => rfl
  | s :: l, m => by rw [List.cons_append, encB, encB, encB_append l m, List.append_assoc]
theorem stBs_ok : ∀ l : List Sp, bytesOk (stBs l)
  | [] => ok_nil
  | s :: l => ok_app (stB_ok s) (stBs_ok l)
theorem stBs_append : ∀ (l m : List Sp), stBs (l ++ m) = stBs l ++ stBs m
  | [], m => rfl
  | s :: l, m => by rw [List.cons_append, stBs, stBs, stBs_append l m, List.append_assoc]
/-- A step that is cut off says nothing. -/
theorem dec_part {s : Sp} (h : SG s) (j : Nat) (hj : j < (stB s).length) : dec ((stB s).take j) = [] := by
  obtain ⟨h1, h2, h3⟩ := h.1
  have w : u8w s.kind = s.kind := w_b ⟨by omega, by omega⟩
  have m : ¬ s.kind.tmod 6 = 0 := by rw [Int.tmod_eq_emod_of_nonneg (by omega)]; omega
  have p := pStep_put false [] h.1
  rw [List.append_nil] at p
  obtain ⟨c, e⟩ : ∃ c, stB s = s.kind :: c := by unfold stB; rw [w]; exact ⟨_, rfl⟩
  cases j with
  | zero => rfl
  | succ j =>
    rw [e] at hj p ⊢
    rw [List.take_succ_cons, dec_cons, if_neg m]
    cases hb : (pStep ⟨false, s.kind :: c.take j, false⟩).2.bad with
    | true => rfl
    | false =>
      obtain ⟨_, g⟩ := pStep_ex (t := c.drop j) (r := ⟨false, s.kind :: c.take j, false⟩) (r2 := ⟨false, s.kind :: c, false⟩) ⟨rfl, by simp⟩ hb
      have := g.b
      rw [p] at this
      have l := congrArg List.length this
      simp only [List.length_append, List.length_drop, List.length_nil, List.length_cons] at l hj
      omega
theorem dec_cut : ∀ {l : List Sp}, (∀ s ∈ l, SG s) → ∀ j : Nat, j < (stBs l).length → ∃ i, i < l.length ∧ dec ((stBs l).take j) = (l.take i).map nStep
  | [], _, j, hj => by simp [stBs] at hj
  | s :: l, h, j, hj => by
    rw [stBs] at hj ⊢
    by_cases g : j < (stB s).length
    · refine ⟨0, by simp, ?_⟩
      rw [List.take_append_of_le_length (by omega), dec_part (h s (by simp)) j g]
      rfl
    · rw [List.length_append] at hj
      obtain ⟨i, hi, e⟩ := dec_cut (fun x hx => h x (by simp [hx])) (j - (stB s).length) (l := l) (by omega)
      refine ⟨i + 1, by simp; omega, ?_⟩
      rw [List.take_append, List.take_of_length_le (by omega), dec_put (h s (by simp)).1, e]
      rfl
end Go.Cd
