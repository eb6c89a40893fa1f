/- Steps read, the program's, whole. No conditions. -/
import Derived.Test.YtjoocolnbmpkkaaR7QPlH
set_option linter.unusedVariables false
set_option linter.unusedSimpArgs false
namespace Go.Cd
open Go Go.Fw
def pDec : Nat → Rd → List Sp → List Sp
  | 0, _, acc => acc
  | f + 1, r, acc => if r.b = [] then acc else if (r.num 1).tmod 6 = 0 then pDec f (r.drop 1) acc else if (pStep r).2.bad = true then acc else pDec f (pStep r).2 (acc ++ [(pStep r).1])
theorem drop_le (r : Rd) (n : Nat) : (r.drop n).b.length ≤ r.b.length := by
  unfold Rd.drop
  split
  · simp
  · simp
theorem drop_lt {r : Rd} (h : r.b ≠ []) : (r.drop 1).b.length + 1 ≤ r.b.length := by
  have := List.length_pos_iff.2 h
  unfold Rd.drop
  split
  · simp; omega
  · simp; omega
theorem pProg_le : ∀ (n : Nat) (r : Rd) (acc : List Inst), (pProg n r acc).2.b.length ≤ r.b.length
  | 0, r, acc => Nat.le_refl _
  | n + 1, r, acc => by
    unfold pProg
    split
    · exact Nat.le_refl _
    · split
      · simp [gone]
      · split
        · exact Nat.le_trans (pProg_le n _ _) (by simp)
        · simp [gone]
theorem pgR_le (r : Rd) : (pgR r).2.b.length ≤ r.b.length := Nat.le_trans (pProg_le _ _ _) (drop_le r 1)
theorem pCall_le (r : Rd) : (pCall r).2.b.length ≤ r.b.length := by
  have d1 := drop_le r 1
  have d2 := drop_le (r.drop 1) 1
  have d3 := drop_le ((r.drop 1).drop 1) 1
  have d4 := drop_le (((r.drop 1).drop 1).drop 1) 1
  unfold pCall
  simp only
  repeat' split
  · have e3 := drop_le ((r.drop 1).drop 1) 4
    have e4 := drop_le (((r.drop 1).drop 1).drop 4) 4
    have g1 := pgR_le ((((r.drop 1).drop 1).drop 4).drop 4)
    have g2 := pgR_le (pgR ((((r.drop 1).drop 1).drop 4).drop 4)).2
    have g3 := pgR_le (pgR (pgR ((((r.drop 1).drop 1).drop 4).drop 4)).2).2
    simp only
    omega
  · have := drop_le ((r.drop 1).drop 1) 8; simp only; omega
  · have := drop_le (((r.drop 1).drop 1).drop 1) 8; simp only; omega
  · simp only; omega
  · have := drop_le (((r.drop 1).drop 1).drop 1) 4; simp only; omega
  · have := drop_le ((((r.drop 1).drop 1).drop 1).drop 1) 4; simp only; omega
  · simp only; omega
  · simp only; omega
theorem pStep_lt {r : Rd} (h : r.b ≠ []) : (pStep r).2.b.length + 1 ≤ r.b.length := by
  have d0 := drop_lt h
  unfold pStep
  simp only
  repeat' split
  · have := drop_le (r.drop 1) 1; simp only; omega
  · have := drop_le (r.drop 1) 2; simp only; omega
  · have := pCall_le (r.drop 1); simp only; omega
  · simp only; omega
theorem dec_loop : ∀ (f : Nat) (r : Rd) (acc : List Sp), r.b.length ≤ f → bytesOk r.b ∧ r.b.length ≤ 100000 → acc.length + r.b.length ≤ 100000 →
    ∃ s, run kp (.loop [2, 3] k_play_Decode_L0 (decSt r acc [])) = some (.out (.ext 0) s) ∧ FinS s (pDec f r acc)
  | 0, r, acc, hf, hr, hl => dec_end r acc (List.eq_nil_of_length_eq_zero (by omega))
  | f + 1, r, acc, hf, hr, hl => by
    unfold pDec
    by_cases he : r.b = []
    · rw [if_pos he]; exact dec_end r acc he
    · rw [if_neg he]
      by_cases k0 : (r.num 1).tmod 6 = 0
      · rw [if_pos k0, dec_skip r hr acc (by omega) he k0]
        have := drop_lt he
        exact dec_loop f _ acc (by omega) (Rd.drop_ok 1 hr) (by omega)
      · rw [if_neg k0]
        have lt := pStep_lt he
        have ok := pStep_ok hr
        have fin : (pStep r).2.bad = false → run kp (.loop [2, 3] k_play_Decode_L0 (decSt r acc [])) = run kp (.loop [2, 3] k_play_Decode_L0 (decSt (pStep r).2 (acc ++ [(pStep r).1]) [])) := fun hb => by
          unfold pStep at hb ⊢
          simp only at hb ⊢
          by_cases k4 : (r.num 1).tmod 6 = 4
          · rw [if_pos k4] at hb ⊢; simp only at hb ⊢; rw [k4]; exact dec_4_ok r hr acc (by omega) he k4 hb
          rw [if_neg k4] at hb ⊢
          by_cases k5 : (r.num 1).tmod 6 = 5
          · rw [if_pos k5] at hb ⊢; simp only at hb ⊢; rw [k5]; exact dec_5_ok r hr acc (by omega) he k5 hb
          rw [if_neg k5] at hb ⊢
          by_cases k6 : (r.num 1).tmod 6 = 1
          · rw [if_pos k6] at hb ⊢; simp only at hb ⊢; rw [k6]; exact dec_1_ok r hr acc (by omega) he k6 hb
          rw [if_neg k6] at hb ⊢
          exact dec_o_ok r hr acc (by omega) he k0 k4 k5 k6 hb
        have bad : (pStep r).2.bad = true → ∃ s, run kp (.loop [2, 3] k_play_Decode_L0 (decSt r acc [])) = some (.out (.ext 0) s) ∧ FinS s acc := fun hb => by
          unfold pStep at hb
          simp only at hb
          by_cases k4 : (r.num 1).tmod 6 = 4
          · rw [if_pos k4] at hb; exact dec_4_bad r hr acc (by omega) he k4 hb
          rw [if_neg k4] at hb
          by_cases k5 : (r.num 1).tmod 6 = 5
          · rw [if_pos k5] at hb; exact dec_5_bad r hr acc (by omega) he k5 hb
          rw [if_neg k5] at hb
          by_cases k6 : (r.num 1).tmod 6 = 1
          · rw [if_pos k6] at hb; exact dec_1_bad r hr acc (by omega) he k6 hb
          rw [if_neg k6] at hb
          exact dec_o_bad r hr acc (by omega) he k0 k4 k5 k6 hb
        cases hb : (pStep r).2.bad with
        | true => simp only [if_true]; exact bad hb
        | false =>
          simp only [Bool.false_eq_true, if_false]
          rw [fin hb]
          exact dec_loop f _ _ (by omega) ok (by simp; omega)
def rowS (l : List Sp) : D := .sl l.isEmpty (l.map Sp.d)
def sH : List Sp → Hp
  | [] => []
  | x :: l => [(0, .row true ((x :: l).map Sp.d))]
def sN : List Sp → Nat
  | [] => 0
  | _ :: _ => 1
theorem look_put2 (v : V) (i : Nat) : ∀ e : Env, Fw.look (put e i v) i = v
  | [] => by simp [put, Fw.look]
  | (j, w) :: l => by
    unfold put
    by_cases h : j = i
    · simp [h, Fw.look]
    · simp [h, Fw.look, look_put2 v i l]
theorem canon_sV (s : St) (acc : List Sp) (hb : s.base = 0) (ht : s.tl = fun _ => none) (hh : acc ≠ [] → hlook s.hp 0 = some (.row true (acc.map Sp.d))) : canK (canon [(0, sV acc)] s) = some (.val (sV acc) (sH acc) (sN acc)) := by
  obtain ⟨env, hp, tl, base, next⟩ := s
  simp only at hb ht hh
  subst hb ht
  unfold canon
  simp only [outer_no]
  cases acc with
  | nil => simp [sV, sH, sN, envHs, hpHs, reach, gathered, V.hs, V.ren, envRen, hpRen]
  | cons x acc =>
    have h0 := hh (by simp)
    have hg : (St.mk env hp (fun _ => none) 0 next).g 0 = some (.row true ((x :: acc).map Sp.d)) := by
      unfold St.g
      simp only [h0]
    have er : reach (St.mk env hp (fun _ => none) 0 next).g 0 4096 [0] [] = [0] := by
      simp [reach, hg, Blk.hs]
    have e1 : envHs [(0, sV (x :: acc))] = [0] := rfl
    have e2 : hpHs [] = [] := rfl
    rw [e1, e2]
    simp only [List.append_nil]
    rw [er]
    simp [gathered, hg, renOf, idx, Blk.ren, Blk.hs, hpHs, envRen, hpRen, sV, sH, sN, V.ren]
set_option maxRecDepth 10000 in
set_option maxHeartbeats 4000000 in
theorem play_Decode (nl : Bool) (b : List Int) (hb : bytesOk b) (hl : b.length ≤ 50000) : run kp (.dats f_play_Decode [.sl nl (b.map u8d)]) = some (.ds [rowS (pDec b.length ⟨nl, b, false⟩ [])]) := by
  obtain ⟨s, l1, l2⟩ := dec_loop b.length ⟨nl, b, false⟩ [] (Nat.le_refl _) ⟨hb, by simp only; omega⟩ (by simp; omega)
  generalize pDec b.length ⟨nl, b, false⟩ [] = acc at *
  obtain ⟨f1, f2, f3, f4⟩ := l2
  simp only [decSt, Rd.box, List.append_nil, List.cons_append, List.nil_append] at l1
  obtain ⟨e, hp, tl, base, n⟩ := s
  simp only at f1 f2 f3 f4
  subst f3 f4
  have lf : ∀ (l : Env), Fw.look (List.filter (fun x => !decide (x.fst = 46)) l) 2 = Fw.look l 2 := fun l => by
    induction l with
    | nil => rfl
    | cons a l ih =>
      obtain ⟨j, v⟩ := a
      by_cases h : j = 46
      · subst h; simp [ih, Fw.look]
      · simp only [List.filter_cons, h, decide_false, Bool.not_false, if_true, Fw.look, ih]
  rw [run_dats, run_call, kp_play_Decode]
  simp only [val] at f1
  simp [k_play_Decode, l1, f1, lf, look_put2]
  have c := canon_sV { env := List.filter (fun x => !decide (x.fst = 46)) (put (put e 46 (sV acc)) 2 (sV acc)), hp := hp, tl := fun _ => none, base := 0, next := n } acc rfl rfl f2
  cases acc with
  | nil =>
    show valK (canK (canon [(0, sV [])] _)) = _
    rw [c]
    rfl
  | cons x acc =>
    show valK (canK (canon [(0, sV (x :: acc))] _)) = _
    rw [c]
    simp [sV, sH, sN, rowS, take_Sp, valK, vsOf, dsK]
end Go.Cd
