/- Timers by what comes behind: a tick. No conditions. -/
import Derived.Test.YtmkkfmadiadkiaaR6QDelB
set_option linter.unusedVariables false
set_option linter.unusedSimpArgs false
namespace Go.Cd
open Go Go.Fw
def zT (t : Tm) : Bool := decide (t.after = 0)
/-- The first that is not nought, one sooner. -/
def decT : List Tm → List Tm
  | [] => []
  | t :: r => if t.after = 0 then t :: decT r else ⟨t.after - 1, t.key⟩ :: r
def tickSt (L : List Tm) (off len : Nat) (ex : List (Nat × V)) : List Int → St
  | [] => { env := [(4, .sl false 0 off len), (6, .d (.sl true []))] ++ ex, hp := [(0, .row true (L.map Tm.d))], tl := fun _ => none, base := 0, next := 1 }
  | a :: l => { env := [(4, .sl false 0 off len), (6, .sl false 1 0 (l.length + 1))] ++ ex, hp := [(0, .row true (L.map Tm.d)), (1, .row true (.int .i64 a :: l.map (.int .i64)))], tl := fun _ => none, base := 0, next := 2 }
def dueD : List Int → D
  | [] => .sl true []
  | a :: l => .sl false (.int .i64 a :: l.map (.int .i64))
theorem drop_takeWhile {α : Type} (p : α → Bool) : ∀ (l : List α), l.drop (l.takeWhile p).length = l.dropWhile p
  | [] => rfl
  | a :: l => by
    cases h : p a
    · simp [h]
    · simp [h, drop_takeWhile p l]
theorem tick_loop (L : List Tm) : ∀ (rest pre : List Tm), L = pre ++ rest → ∀ (due : List Int), due.length + rest.length ≤ 1000 →
    run kp (.loop [4, 6] k_delta_Tick_L0 (tickSt L pre.length rest.length [] due)) = some (.out (.ext 0) (tickSt L (pre.length + (rest.takeWhile zT).length) (rest.dropWhile zT).length [(30, .bool false)] (due ++ (rest.takeWhile zT).map Tm.key)))
  | [], pre, h, due, hd => by
    rw [run_round]
    cases due <;> simp [c_delta_Tick_L0, k_delta_Tick_L0b, tickSt]
  | t :: rest, pre, h, due, hd => by
    have hget0 : L[pre.length]? = some t := by rw [h]; simp
    have hlt : pre.length < L.length := by rw [h]; simp
    have hget : ∀ hh : pre.length < L.length, L[pre.length] = t := fun hh => by rw [List.getElem?_eq_getElem hh] at hget0; injection hget0
    rw [run_round]
    by_cases hz : t.after = 0
    · have ih := tick_loop L rest (pre ++ [t]) (by simp [h]) (due ++ [t.key]) (by simp at hd ⊢; omega)
      have e1 : (t :: rest).takeWhile zT = t :: rest.takeWhile zT := by simp [zT, hz]
      have e2 : (t :: rest).dropWhile zT = rest.dropWhile zT := by simp [zT, hz]
      rw [e1, e2]
      have e3 : pre.length + (t :: rest.takeWhile zT).length = (pre ++ [t]).length + (rest.takeWhile zT).length := by simp; omega
      have e4 : due ++ (t :: rest.takeWhile zT).map Tm.key = due ++ [t.key] ++ (rest.takeWhile zT).map Tm.key := by simp
      rw [e3, e4, ← ih]
      have hr : (0 : Int) < (rest.length : Int) + 1 := by omega
      have hr2 : ¬ (rest.length : Int) + 1 < 1 := by omega
      cases due with
      | nil => simp [c_delta_Tick_L0, k_delta_Tick_L0b, tickSt, hlt, hget, hz, Tm.d, hr, hr2]
      | cons a l =>
        have hl : l.length ≤ 1073741822 := by simp at hd; omega
        simp [c_delta_Tick_L0, k_delta_Tick_L0b, tickSt, hlt, hget, hz, Tm.d, hr, hr2, hl]
    · have e1 : (t :: rest).takeWhile zT = [] := by simp [zT, hz]
      have e2 : (t :: rest).dropWhile zT = t :: rest := by simp [zT, hz]
      rw [e1, e2]
      have hr : (0 : Int) < (rest.length : Int) + 1 := by omega
      cases due <;> simp [c_delta_Tick_L0, k_delta_Tick_L0b, tickSt, hlt, hget, hz, Tm.d, hr]
theorem Tick_1 (w : Tm) (tl : Nat → Option Blk) (n : Nat) : run kp (.call f_delta_Tick_1 [.d w.d] tl n) = some (.val (.bool (!decide (w.after = 0))) [] n) := by
  rw [run_call, kp_delta_Tick_1]
  simp [k_delta_Tick_1, Tm.d, canK_canH]
def firstT : List Tm → Int → Int
  | [], _ => -1
  | t :: r, i => if t.after = 0 then firstT r (i + 1) else i
def firstSt (tl : Nat → Option Blk) (l : List Tm) (i : Int) (ex : List (Nat × V)) : St :=
  { env := [(0, V.sl false 0 0 l.length), (1, V.clo f_delta_Tick_1 [] []), (7, V.int IntKind.i64 ↑l.length), (8, V.int IntKind.i64 i)] ++ ex, hp := [], tl := tl, base := 1, next := 1 }
theorem first_loop (tl : Nat → Option Blk) (l : List Tm) (hp : tl 0 = some (.row true (l.map Tm.d))) (hlen : l.length ≤ 1000) : ∀ (rest pre : List Tm), l = pre ++ rest → ∀ (i : Int), i = pre.length →
   (∃ j : Int, firstT rest i = j ∧ 0 ≤ j ∧ run kp (.loop [0, 1, 7, 8] k_slices_IndexFunc_delta_Timer_delta_Timer_L0 (firstSt tl l i [])) = some (.out .ret (firstSt tl l j [(9, .bool true), (16, .bool true), (4, .int .i64 j)]))) ∨
   (firstT rest i = -1 ∧ run kp (.loop [0, 1, 7, 8] k_slices_IndexFunc_delta_Timer_delta_Timer_L0 (firstSt tl l i [])) = some (.out (.ext 0) (firstSt tl l l.length [(9, .bool false)])))
  | [], pre, h, i, hi => by
    simp at h
    subst h hi
    refine .inr ⟨rfl, ?_⟩
    rw [run_round]
    simp [c_slices_IndexFunc_delta_Timer_delta_Timer_L0, k_slices_IndexFunc_delta_Timer_delta_Timer_L0b, firstSt]
  | w :: rest, pre, h, i, hi => by
    have hli : i < l.length := by rw [h, hi]; simp; omega
    have h0 : 0 ≤ i := by omega
    have hget0 : l[i.toNat]? = some w := by rw [h, hi]; simp
    have hget : ∀ hh : i.toNat < l.length, l[i.toNat] = w := fun hh => by rw [List.getElem?_eq_getElem hh] at hget0; injection hget0
    have hw : IntKind.i64.wrap (i + 1) = i + 1 := wrap_i64 (by omega) (by omega)
    have ih := first_loop tl l hp hlen rest (pre ++ [w]) (by simp [h]) (i + 1) (by simp [hi])
    have a := Tick_1 w tl 1
    simp only [Tm.d] at a
    by_cases hc : w.after = 0
    · have e1 : firstT (w :: rest) i = firstT rest (i + 1) := by simp [firstT, hc]
      rw [hc] at a
      have st : run kp (.loop [0, 1, 7, 8] k_slices_IndexFunc_delta_Timer_delta_Timer_L0 (firstSt tl l i [])) = run kp (.loop [0, 1, 7, 8] k_slices_IndexFunc_delta_Timer_delta_Timer_L0 (firstSt tl l (i + 1) [])) := by
        rw [run_round]
        simp [c_slices_IndexFunc_delta_Timer_delta_Timer_L0, k_slices_IndexFunc_delta_Timer_delta_Timer_L0b, h0, hli, hget, hw, a, hc, Tm.d, hp, firstSt]
      rw [e1, st]
      exact ih
    · refine .inl ⟨i, by simp [firstT, hc], h0, ?_⟩
      rw [run_round]
      simp [c_slices_IndexFunc_delta_Timer_delta_Timer_L0, k_slices_IndexFunc_delta_Timer_delta_Timer_L0b, h0, hli, hget, hw, a, hc, Tm.d, hp, firstSt]
theorem first_Tm (tl : Nat → Option Blk) (l : List Tm) (hp : tl 0 = some (.row true (l.map Tm.d))) (hlen : l.length ≤ 1000) :
    run kp (.call f_slices_IndexFunc_delta_Timer_delta_Timer [V.sl false 0 0 l.length, V.clo f_delta_Tick_1 [] []] tl 1) = some (.val (.int .i64 (firstT l 0)) [] 1) := by
  rw [run_call, kp_slices_IndexFunc_delta_Timer_delta_Timer]
  rcases first_loop tl l hp hlen l [] rfl 0 rfl with ⟨j, h1, h2, h3⟩ | ⟨h1, h3⟩ <;> simp only [firstSt, List.append_nil] at h3
  · simp [k_slices_IndexFunc_delta_Timer_delta_Timer, h3, h1, canK_canH]
  · simp [k_slices_IndexFunc_delta_Timer_delta_Timer, h3, h1, canK_canH]
theorem firstT_dec : ∀ (l : List Tm) (i : Int), 0 ≤ i → (firstT l i = -1 ∧ decT l = l) ∨ ∃ (j : Nat) (h : j < l.length), firstT l i = i + j ∧ decT l = l.set j ⟨l[j].after - 1, l[j].key⟩
  | [], i, _ => .inl ⟨rfl, rfl⟩
  | t :: r, i, hi => by
    simp only [firstT, decT]
    by_cases h : t.after = 0
    · simp only [h, if_true]
      rcases firstT_dec r (i + 1) (by omega) with ⟨h1, h2⟩ | ⟨j, hj, h1, h2⟩
      · exact .inl ⟨h1, by rw [h2]⟩
      · exact .inr ⟨j + 1, by simp; omega, by rw [h1]; omega, by rw [h2]; simp⟩
    · refine .inr ⟨0, by simp, by simp [h], by simp [h]⟩
set_option maxHeartbeats 1000000 in
theorem delta_Tick (nl : Bool) (L : List Tm) (hn : nl = true → L = []) (hL : L.length ≤ 1000) (ho : okT L) : run kp (.datk f_delta_Tick [.sl nl (L.map Tm.d)]) =
    some (.ds [.sl nl (((decT L).dropWhile zT).map Tm.d), dueD (((decT L).takeWhile zT).map Tm.key)]) := by
  rw [run_datk, run_call, kp_delta_Tick]
  have cl := clone_Tm nl L hn hL
  cases nl with
  | true =>
    obtain rfl := hn rfl
    simp only [List.map_nil] at cl
    simp [k_delta_Tick, cl]
    rw [run_call, kp_slices_IndexFunc_delta_Timer_delta_Timer]
    simp [k_slices_IndexFunc_delta_Timer_delta_Timer]
    rw [run_round]
    simp [c_slices_IndexFunc_delta_Timer_delta_Timer_L0, k_slices_IndexFunc_delta_Timer_delta_Timer_L0b, canK_canH]
    rw [run_round]
    simp [c_delta_Tick_L0, k_delta_Tick_L0b, decT, dueD]
  | false =>
    have fi := first_Tm (fun x => if 0 = x then some (.row true (L.map Tm.d)) else none) L (by simp) hL
    rcases firstT_dec L 0 (by omega) with ⟨h1, h2⟩ | ⟨j, hj, h1, h2⟩
    · rw [h1] at fi
      rw [h2]
      have lp := tick_loop L L [] rfl [] (by simpa using hL)
      simp only [List.length_nil, Nat.zero_add, List.nil_append] at lp
      generalize hk : (L.takeWhile zT).map Tm.key = ks at *
      have hsplit := List.takeWhile_append_dropWhile (p := zT) (l := L)
      have hdrop : (L.map Tm.d).drop (L.takeWhile zT).length = (L.dropWhile zT).map Tm.d := by
        rw [← List.map_drop, drop_takeWhile]
      have hlen : (L.takeWhile zT).length + (L.dropWhile zT).length = L.length := by rw [← List.length_append, hsplit]
      cases ks <;> simp [k_delta_Tick, cl, fi, dueD] <;> (simp [tickSt] at lp; simp [lp, hlen, hdrop])
    · rw [h1] at fi
      rw [h2]
      have hoj := ho L[j] (List.getElem_mem hj)
      have w1 : IntKind.i64.wrap (L[j].after - 1) = L[j].after - 1 := wrap_i64 (by omega) (by omega)
      simp only [Int.zero_add] at fi
      generalize hM : L.set j ⟨L[j].after - 1, L[j].key⟩ = M at *
      have hMl : M.length = L.length := by rw [← hM]; simp
      have hMd : (L.map Tm.d).set j (D.agg [D.int IntKind.i64 (L[j].after - 1), D.int IntKind.i64 L[j].key]) = M.map Tm.d := by rw [← hM, List.map_set]; rfl
      have lp := tick_loop M M [] rfl [] (by simp; omega)
      simp only [List.length_nil, Nat.zero_add, List.nil_append] at lp
      rw [hMl] at lp
      generalize hk : (M.takeWhile zT).map Tm.key = ks at *
      have hsplit := List.takeWhile_append_dropWhile (p := zT) (l := M)
      have hdrop : (M.map Tm.d).drop (M.takeWhile zT).length = (M.dropWhile zT).map Tm.d := by
        rw [← List.map_drop, drop_takeWhile]
      have hlen : (M.takeWhile zT).length + (M.dropWhile zT).length = L.length := by rw [← List.length_append, hsplit, hMl]
      have hlen' : (M.takeWhile zT).length + (M.dropWhile zT).length ≤ M.length := by omega
      cases ks <;> (simp [tickSt] at lp; simp [k_delta_Tick, cl, fi, dueD, hj, Tm.d, w1]; simp [hMd, lp, hlen, hMl, hdrop])
end Go.Cd
