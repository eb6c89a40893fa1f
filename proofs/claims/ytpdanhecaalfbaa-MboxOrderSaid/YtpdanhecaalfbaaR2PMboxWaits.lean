/- The law MboxWaits, as the evaluator has it. No conditions. -/
import Derived.Test.YtpdanhecaalfbaaR2QMboxX
import Derived.Test.YtpdanhecaalfbaaR2PMboxAll
set_option linter.unusedVariables false
set_option linter.unusedSimpArgs false
namespace Go.Cd
open Go Go.Fw
def mwSt (nl : Bool) (who : List Int) (n i : Int) (ex : List (Nat × V)) : List Int → St
  | [] => { env := [(0, .asl nl (who.map (.int .u8))), (1, .int .u8 n), (5, .ptr 0 []), (6, .d (.sl true [])), (7, .int .i64 i)] ++ ex, hp := [(0, .box (.d (.agg [.sl true [], .sl true []])))], tl := fun _ => none, base := 0, next := 1 }
  | a :: w => { env := [(0, .asl nl (who.map (.int .u8))), (1, .int .u8 n), (5, .ptr 0 []), (6, .sl false 2 0 (w.length + 1)), (7, .int .i64 i)] ++ ex, hp := [(0, .box (.agg [.d (.sl true []), .sl false 1 0 (w.length + 1)])), (1, .row true (.int .i64 a :: w.map (.int .i64))), (2, .row true (.int .i64 a :: w.map (.int .i64)))], tl := fun _ => none, base := 0, next := 3 }
theorem mw_loop1 (nl : Bool) (who : List Int) (n i0 c : Int) (h : List Int) (hf : h.length ≤ 1000) : ∀ (rest pre : List Int), h = pre ++ rest → ∀ (i : Int), i = pre.length → ∀ (th : Bool),
    run kp (.loop [0, 1, 5, 6, 7, 8, 9, 10] k_law12_MboxWaits_L1 (mwSt nl who n i0 [(8, .int .i64 c), (9, .bool th), (10, .int .i64 i)] h)) =
    some (.out (.ext 2) (mwSt nl who n i0 [(8, .int .i64 c), (9, .bool (th || decide (c ∈ rest))), (10, .int .i64 h.length), (41, .bool false)] h))
  | [], pre, e, i, hi, th => by
    simp at e
    subst e hi
    rw [run_round]
    cases h <;> simp [c_law12_MboxWaits_L1, k_law12_MboxWaits_L1b, mwSt]
  | s :: rest, pre, e, i, hi, th => by
    have hli : i < h.length := by rw [e, hi]; simp; omega
    have h0 : 0 ≤ i := by omega
    have hw : IntKind.i64.wrap (i + 1) = i + 1 := wrap_i64 (by omega) (by omega)
    have hmem : s ∈ h := by rw [e]; simp
    have ih := fun a => mw_loop1 nl who n i0 c h hf rest (pre ++ [s]) (by simp [e]) (i + 1) (by simp [hi]) a
    have hget0 : (h.map (D.int .i64))[i.toNat]? = some (.int .i64 s) := by rw [e, hi]; simp
    rw [run_round]
    cases h with
    | nil => cases hmem
    | cons b h =>
      simp only [List.map_cons] at hget0
      have hget : ∀ hh : i.toNat < (D.int .i64 b :: h.map (.int .i64)).length, (D.int .i64 b :: h.map (.int .i64))[i.toNat] = .int .i64 s := fun hh => by rw [List.getElem?_eq_getElem hh] at hget0; injection hget0
      have hli2 : i < (h.length : Int) + 1 := by simp only [List.length_cons] at hli; omega
      have hli3 : i.toNat < h.length + 1 := by omega
      have ih := ih (th || decide (s = c))
      have e1 : (th || decide (s = c) || decide (c ∈ rest)) = (th || decide (c ∈ s :: rest)) := by
        by_cases hc : s = c
        · simp [hc]
        · have : ¬ c = s := fun e => hc e.symm
          simp [hc, this]
      rw [e1] at ih
      generalize (th || decide (c ∈ s :: rest)) = fin at *
      simp only [mwSt] at ih ⊢
      cases th with
      | true =>
        simp only [Bool.true_or] at ih
        simp [c_law12_MboxWaits_L1, k_law12_MboxWaits_L1b, h0, hli2, hli3, hget, hw] at ih ⊢
        exact ih
      | false =>
        simp only [Bool.false_or] at ih
        simp [c_law12_MboxWaits_L1, k_law12_MboxWaits_L1b, h0, hli2, hli3, hget, hw] at ih ⊢
        exact ih
set_option maxHeartbeats 4000000 in
theorem mw_loop0 (nl : Bool) (who : List Int) (hf : who.length ≤ 1000) (hu : ∀ x ∈ who, 0 ≤ x ∧ x < 256) (n : Int) : ∀ (rest pre : List Int), who = pre ++ rest → ∀ (i : Int), i = pre.length → ∀ want : List Int, want.length ≤ 4 →
    ∃ want' : List Int, want'.length ≤ 4 ∧ run kp (.loop [0, 1, 5, 6, 7] k_law12_MboxWaits_L0 (mwSt nl who n i [] want)) = some (.out (.ext 0) (mwSt nl who n who.length [(28, .bool false)] want'))
  | [], pre, e, i, hi, want, hw => by
    simp at e
    subst e hi
    refine ⟨want, hw, ?_⟩
    rw [run_round]
    cases want <;> simp [c_law12_MboxWaits_L0, k_law12_MboxWaits_L0b, mwSt]
  | x :: rest, pre, h, i, hi, want, hl4 => by
    have hli : i < who.length := by rw [h, hi]; simp; omega
    have h0 : 0 ≤ i := by omega
    have hget0 : who[i.toNat]? = some x := by rw [h, hi]; simp
    have hget : ∀ hh : i.toNat < who.length, who[i.toNat] = x := fun hh => by rw [List.getElem?_eq_getElem hh] at hget0; injection hget0
    have hw : IntKind.i64.wrap (i + 1) = i + 1 := wrap_i64 (by omega) (by omega)
    have hx := hu x (by rw [h]; simp)
    have ih := mw_loop0 nl who hf hu n rest (pre ++ [x]) (by simp [h]) (i + 1) (by simp [hi])
    obtain ⟨c, hc, hc1⟩ : ∃ c, IntKind.i64.wrap (1 + IntKind.i64.wrap (x.tmod 7)) = c ∧ 1 ≤ c := by
      refine ⟨1 + x % 7, ?_, by omega⟩
      rw [Int.tmod_eq_emod_of_nonneg hx.1, wrap_i64 (x := x % 7) (by omega) (by omega), wrap_i64 (by omega) (by omega)]
    have hc1' : ¬ c < 1 := by omega
    have l1 := mw_loop1 nl who n i c want (by omega) want [] rfl 0 rfl false
    have tk := mbox_TakeX ⟨true, [], want.isEmpty, want⟩ ⟨fun _ => rfl, List.isEmpty_iff.1, by simp, by simp; omega⟩ c
    by_cases hin : c ∈ want ∨ 4 ≤ want.length
    · obtain ⟨w', k1, k2⟩ := ih want hl4
      refine ⟨w', k1, ?_⟩
      rw [← k2, run_round]
      simp only [takeF, takeN, hc1', if_false, hin, if_true] at tk
      have hcond : (!decide (c ∈ want) && decide (want.length < 4)) = false := by
        rcases hin with h1 | h1
        · simp [h1]
        · have : ¬ want.length < 4 := by omega
          simp [this]
      cases want with
      | nil => simp at hin
      | cons a w =>
        simp [mwSt, Box.d] at l1 tk
        by_cases h1 : c = a ∨ c ∈ w
        · have hd : (decide (c = a) || decide (c ∈ w)) = true := by rcases h1 with h1 | h1 <;> simp [h1]
          rw [hd] at l1
          simp [c_law12_MboxWaits_L0, k_law12_MboxWaits_L0b, mwSt, h0, hli, hget, hw, hc, l1, tk, h1]
        · have h2 : ¬ (w.length : Int) + 1 < 4 := by
            rcases hin with h3 | h3
            · exact absurd (by simpa using h3) h1
            · simp at h3; omega
          have hd : (decide (c = a) || decide (c ∈ w)) = false := by simp only [not_or] at h1; simp [h1]
          rw [hd] at l1
          simp [c_law12_MboxWaits_L0, k_law12_MboxWaits_L0b, mwSt, h0, hli, hget, hw, hc, l1, tk, h1, h2]
    · obtain ⟨w', k1, k2⟩ := ih (want ++ [c]) (by simp; omega)
      refine ⟨w', k1, ?_⟩
      rw [← k2, run_round]
      simp only [takeF, takeN, hc1', if_false, hin] at tk
      simp only [not_or] at hin
      cases want with
      | nil =>
        simp [mwSt, Box.d] at l1 tk
        simp [c_law12_MboxWaits_L0, k_law12_MboxWaits_L0b, mwSt, h0, hli, hget, hw, hc, l1, tk]
      | cons a w =>
        have h1 : ¬ (c = a ∨ c ∈ w) := fun h => hin.1 (by simpa using h)
        have h2 : (w.length : Int) + 1 < 4 := by have := hin.2; simp at this; omega
        have h3 : w.length ≤ 1000 := by omega
        have h4 : w.length ≤ 1073741822 := by omega
        have hd : (decide (c = a) || decide (c ∈ w)) = false := by simp only [not_or] at h1; simp [h1]
        simp [mwSt, Box.d] at l1 tk
        rw [hd] at l1
        simp [c_law12_MboxWaits_L0, k_law12_MboxWaits_L0b, mwSt, h0, hli, hget, hw, hc, l1, tk, h1, h2, h4]
def mpSt (n i : Int) (ex : List (Nat × V)) : Bool → List Int → List Int → List Int → St
  | true, _, _, [] => { env := [(1, .int .u8 n), (5, .ptr 0 []), (6, .d (.sl true [])), (15, .int .i64 i)] ++ ex, hp := [(0, .box (.d (.agg [.sl true [], .sl true []])))], tl := fun _ => none, base := 0, next := 1 }
  | false, l, _, [] => { env := [(1, .int .u8 n), (5, .ptr 0 []), (6, .d (.sl true [])), (15, .int .i64 i)] ++ ex, hp := [(0, .box (.agg [.sl false 1 0 l.length, .d (.sl true [])])), (1, .row true (l.map (.int .i64)))], tl := fun _ => none, base := 0, next := 2 }
  | true, _, w, a :: v => { env := [(1, .int .u8 n), (5, .ptr 0 []), (6, .sl false 2 0 (v.length + 1)), (15, .int .i64 i)] ++ ex, hp := [(0, .box (.agg [.d (.sl true []), .sl false 1 0 w.length])), (1, .row true (w.map (.int .i64))), (2, .row true (.int .i64 a :: v.map (.int .i64)))], tl := fun _ => none, base := 0, next := 3 }
  | false, l, w, a :: v => { env := [(1, .int .u8 n), (5, .ptr 0 []), (6, .sl false 3 0 (v.length + 1)), (15, .int .i64 i)] ++ ex, hp := [(0, .box (.agg [.sl false 1 0 l.length, .sl false 2 0 w.length])), (1, .row true (l.map (.int .i64))), (2, .row true (w.map (.int .i64))), (3, .row true (.int .i64 a :: v.map (.int .i64)))], tl := fun _ => none, base := 0, next := 4 }
set_option maxHeartbeats 4000000 in
theorem mp_loop (n N : Int) (hN : IntKind.i64.wrap (n.tmod 9) = N) (hN9 : N ≤ 9) (want : List Int) (hl : want.length ≤ 4) : ∀ (k : Nat) (i : Int), 0 ≤ i → i + k = N → ∀ (ln : Bool) (l w : List Int),
    (i < want.length → ln = true ∧ l = [] ∧ w = want.drop i.toNat) → (want.length ≤ i → w = [] ∧ (l.length : Int) = min (i - want.length) 4 ∧ (ln = true → l = [])) →
    ∃ (ln' : Bool) (l' w' : List Int), run kp (.loop [1, 5, 6, 15] k_law12_MboxWaits_L2 (mpSt n i [] ln l w want)) = some (.out (.ext 4) (mpSt n N [(83, .bool false)] ln' l' w' want))
  | 0, i, h0, hi, ln, l, w, _, _ => by
    refine ⟨ln, l, w, ?_⟩
    obtain rfl : i = N := by omega
    rw [run_round]
    cases ln <;> cases want <;> simp [c_law12_MboxWaits_L2, k_law12_MboxWaits_L2b, mpSt, hN]
  | k + 1, i, h0, hi, ln, l, w, A, B => by
    have hiN : i < N := by omega
    have hw : IntKind.i64.wrap (i + 1) = i + 1 := wrap_i64 (by omega) (by omega)
    have ih := mp_loop n N hN hN9 want hl k (i + 1) (by omega) (by omega)
    by_cases h : i < want.length
    · obtain ⟨rfl, rfl, hwd⟩ := A h
      have hlt : i.toNat < want.length := by omega
      rw [List.drop_eq_getElem_cons hlt] at hwd
      have hget0 : want[i.toNat]? = some want[i.toNat] := List.getElem?_eq_getElem hlt
      generalize want[i.toNat] = c at *
      generalize hr : want.drop (i.toNat + 1) = r at *
      subst hwd
      have hrl : r.length ≤ 4 := by rw [← hr]; simp; omega
      have ps := mbox_PostX ⟨true, [], false, c :: r⟩ ⟨fun _ => rfl, by simp, by simp, by simp; omega⟩ i
      obtain ⟨ln', l', w', e⟩ := ih true [] r (fun _ => ⟨rfl, rfl, by rw [show (i + 1).toNat = i.toNat + 1 by omega, hr]⟩) (fun h2 => by
        refine ⟨?_, ?_, by simp⟩
        · have : r.length = 0 := by rw [← hr]; simp; omega
          exact List.length_eq_zero_iff.1 this
        · simp only [List.length_nil]; omega)
      refine ⟨ln', l', w', ?_⟩
      rw [← e, run_round]
      cases want with
      | nil => simp at hlt
      | cons a v =>
        have hget1 : ((a :: v).map (D.int .i64))[i.toNat]? = some (.int .i64 c) := by rw [List.getElem?_map, hget0]; rfl
        simp only [List.map_cons] at hget1
        have hget : ∀ hh : i.toNat < (D.int .i64 a :: v.map (.int .i64)).length, (D.int .i64 a :: v.map (.int .i64))[i.toNat] = .int .i64 c := fun hh => by rw [List.getElem?_eq_getElem hh] at hget1; injection hget1
        have h2 : i < (v.length : Int) + 1 := by simp at h; omega
        have h3 : i.toNat < v.length + 1 := by omega
        simp [postF, postN, Box.d] at ps
        simp [c_law12_MboxWaits_L2, k_law12_MboxWaits_L2b, mpSt, h0, hN, hiN, hw, hget, h2, h3, ps]
    · obtain ⟨rfl, hll, hln⟩ := B (by omega)
      have hws : IntKind.i64.wrap (i - want.length) = i - want.length := wrap_i64 (by omega) (by omega)
      have ps := mbox_PostX ⟨ln, l, want.isEmpty, []⟩ ⟨hln, by simp, by simp; omega, by simp⟩ i
      have h' : ¬ i < (want.length : Int) := h
      by_cases hf : 4 ≤ l.length
      · have lf : ln = false := by
          cases ln
          · rfl
          · have := hln rfl; subst this; simp at hf
        subst lf
        have c4 : ¬ i - (want.length : Int) < 4 := by omega
        obtain ⟨ln', l', w', e⟩ := ih false l [] (fun h2 => by omega) (fun _ => ⟨rfl, by omega, by simp⟩)
        refine ⟨ln', l', w', ?_⟩
        rw [← e, run_round]
        have tk : List.take l.length (l.map (D.int .i64)) = l.map (D.int .i64) := List.take_of_length_le (by simp)
        cases want with
        | nil =>
          simp at hws
          have c5 : ¬ i < 4 := by simp at c4; omega
          have h2 : ¬ i < 0 := by omega
          simp [postF, postN, Box.d, hf] at ps
          simp [c_law12_MboxWaits_L2, k_law12_MboxWaits_L2b, mpSt, h0, h2, hN, hiN, hw, ps, hws, c5]
        | cons a v =>
          simp at hws h'
          have c5 : ¬ i - ((v.length : Int) + 1) < 4 := by simp at c4; omega
          have h2 : ¬ i < (v.length : Int) + 1 := by omega
          simp [postF, postN, Box.d, hf] at ps
          simp [c_law12_MboxWaits_L2, k_law12_MboxWaits_L2b, mpSt, h0, hN, hiN, hw, h2, ps, hws, c5]
      · have c4 : i - (want.length : Int) < 4 := by omega
        obtain ⟨ln', l', w', e⟩ := ih false (l ++ [i]) [] (fun h2 => by omega) (fun _ => ⟨rfl, by simp; omega, by simp⟩)
        refine ⟨ln', l', w', ?_⟩
        rw [← e, run_round]
        have l3 : l.length ≤ 1073741822 := by omega
        have tk : List.take (l.length + 1) (l.map (D.int .i64) ++ [.int .i64 i]) = l.map (D.int .i64) ++ [.int .i64 i] := List.take_of_length_le (by simp)
        cases want with
        | nil =>
          simp at c4 hws
          have h2 : ¬ i < 0 := by omega
          cases ln with
          | true =>
            obtain rfl := hln rfl
            simp [postF, postN, Box.d] at ps
            simp [c_law12_MboxWaits_L2, k_law12_MboxWaits_L2b, mpSt, h0, h2, hN, hiN, hw, ps, hws, c4]
          | false =>
            simp [postF, postN, Box.d, hf] at ps
            simp [c_law12_MboxWaits_L2, k_law12_MboxWaits_L2b, mpSt, h0, h2, hN, hiN, hw, ps, hws, c4]
        | cons a v =>
          simp at c4 hws h'
          have h2 : ¬ i < (v.length : Int) + 1 := by omega
          cases ln with
          | true =>
            obtain rfl := hln rfl
            simp [postF, postN, Box.d] at ps
            simp [c_law12_MboxWaits_L2, k_law12_MboxWaits_L2b, mpSt, h0, hN, hiN, hw, h2, ps, hws, c4]
          | false =>
            simp [postF, postN, Box.d, hf] at ps
            simp [c_law12_MboxWaits_L2, k_law12_MboxWaits_L2b, mpSt, h0, hN, hiN, hw, h2, ps, hws, c4]
theorem law_MboxWaits (xs : List D) (h : Sh.hasL [.sl (.i .u8), .i .u8] xs) : run kp (.data f_law12_MboxWaits xs) = some (.ds [.bool true]) := by
  obtain ⟨x1, _, rfl, h1, h⟩ := hasL_cons h
  obtain ⟨x2, _, rfl, h2, h⟩ := hasL_cons h
  obtain rfl := hasL_nil h
  obtain ⟨nl, who, rfl, _, _, hw⟩ := has_nums h1
  obtain ⟨n, rfl, k2⟩ := has_int h2
  have hn := wf_u8 k2
  rw [run_data, run_call, kp_law12_MboxWaits]
  by_cases hl : who.length ≤ 10
  · have a1 : ¬ (10 : Int) < who.length := by omega
    obtain ⟨N, hN⟩ : ∃ N, IntKind.i64.wrap (n.tmod 9) = N := ⟨_, rfl⟩
    have hN0 : 0 ≤ N ∧ N ≤ 9 := by
      rw [← hN, Int.tmod_eq_emod_of_nonneg hn.1, wrap_i64 (by omega) (by omega)]; omega
    obtain ⟨want, c4, e1⟩ := mw_loop0 nl who (by omega) (fun x hx => wf_u8 (hw x hx)) n who [] rfl 0 rfl [] (by simp)
    obtain ⟨ln, l, w, e2⟩ := mp_loop n N hN hN0.2 want c4 N.toNat 0 (by omega) (by omega) true [] want (fun _ => ⟨rfl, rfl, rfl⟩) (fun h2 => by
      have : want = [] := List.length_eq_zero_iff.1 (by omega)
      subst this; refine ⟨rfl, ?_, fun _ => rfl⟩; simp only [List.length_nil]; omega)
    simp [mwSt] at e1
    cases want with
    | nil =>
      simp [mpSt] at e2
      cases ln <;> simp at e2 <;> simp [k_law12_MboxWaits, mbox_begun, a1, e1, e2]
    | cons a v =>
      simp [mpSt] at e1 e2
      cases ln <;> simp at e2 <;> simp [k_law12_MboxWaits, mbox_begun, a1, e1, e2]
  · have a1 : (10 : Int) < who.length := by omega
    simp [k_law12_MboxWaits, mbox_begun, a1]
end Go.Cd
