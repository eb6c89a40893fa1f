/- What is without a semaphore: DeleteFunc. No conditions. -/
import Derived.Test.YtnchpinimmdfoaaR5QBandS
import Derived.Test.YtnchpinimmdfoaaS6
import Derived.KernelRfl
set_option linter.unusedVariables false
set_option linter.unusedSimpArgs false
namespace Go.Cd
open Go Go.Fw
theorem loses_1 (s x : Int) (tl : Nat → Option Blk) (n p : Nat) (hp : tl p = some (.box (.int .i64 s))) (hlt : p < n) : run kp (.call f_fault_Loses_1 [.int .i64 x, .ptr p []] tl n) = some (.val (.bool (decide (x = s))) [] n) := by
  rw [run_call, kp_fault_Loses_1]
  simp [k_fault_Loses_1, hp, gOf_below hlt, canK_canH]
/-- Where it stands first. -/
theorem index_loopF (s : Int) (tl : Nat → Option Blk) (n p r : Nat) (hp : tl p = some (.box (.int .i64 s))) (hlt : p < n) (hr : r < n) (l : List Int) (hrow : tl r = some (.row true (l.map (.int .i64)))) (hlen : l.length ≤ 1000) : ∀ (rest pre : List Int), l = pre ++ rest → ∀ (i : Int), i = pre.length → (∀ x ∈ pre, ¬ x = s) →
   (∃ (j : Nat), j < l.length ∧ l[j]? = some s ∧ (∀ x ∈ l.take j, ¬ x = s) ∧ run kp (.loop [0, 1, 7, 8] k_slices_IndexFunc_int_int_L0
                      { env := [(0, .sl false r 0 l.length), (1, V.clo f_fault_Loses_1 [] [V.ptr p []]), (7, V.int IntKind.i64 ↑l.length), (8, V.int IntKind.i64 i)],
                        hp := [], tl := tl, base := n, next := n }) = some (.out .ret
                      { env := [(0, .sl false r 0 l.length), (1, V.clo f_fault_Loses_1 [] [V.ptr p []]), (7, V.int IntKind.i64 ↑l.length), (8, V.int IntKind.i64 (j : Int)), (9, .bool true), (16, .bool true), (4, .int .i64 (j : Int))],
                        hp := [], tl := tl, base := n, next := n })) ∨
   ((∀ x ∈ l, ¬ x = s) ∧ run kp (.loop [0, 1, 7, 8] k_slices_IndexFunc_int_int_L0
                      { env := [(0, .sl false r 0 l.length), (1, V.clo f_fault_Loses_1 [] [V.ptr p []]), (7, V.int IntKind.i64 ↑l.length), (8, V.int IntKind.i64 i)],
                        hp := [], tl := tl, base := n, next := n }) = some (.out (.ext 0)
                      { env := [(0, .sl false r 0 l.length), (1, V.clo f_fault_Loses_1 [] [V.ptr p []]), (7, V.int IntKind.i64 ↑l.length), (8, V.int IntKind.i64 l.length), (9, .bool false)],
                        hp := [], tl := tl, base := n, next := n }))
  | [], pre, h, i, hi, hn => by
    simp at h
    subst h hi
    refine .inr ⟨hn, ?_⟩
    rw [run_round]
    simp [c_slices_IndexFunc_int_int_L0, k_slices_IndexFunc_int_int_L0b, hlt, hr]
  | w :: rest, pre, h, i, hi, hn => by
    have hli : i < l.length := by rw [h, hi]; simp; omega
    have h0 : 0 ≤ i := by omega
    have hget0 : l[i.toNat]? = some w := by rw [h, hi]; simp
    have hget : ∀ hh : i.toNat < l.length, l[i.toNat] = w := fun hh => by rw [List.getElem?_eq_getElem hh] at hget0; injection hget0
    have hli3 : i.toNat < l.length := by omega
    have hw : IntKind.i64.wrap (i + 1) = i + 1 := wrap_i64 (by omega) (by omega)
    have a := loses_1 s w tl n p hp hlt
    by_cases hc : w = s
    · refine .inl ⟨i.toNat, by omega, by rw [hget0, hc], ?_, ?_⟩
      · rw [h, hi]; simpa using hn
      · rw [run_round]
        have hit : ((i.toNat : Nat) : Int) = i := by omega
        rw [hit]
        simp only [hc, decide_true] at a
        simp [c_slices_IndexFunc_int_int_L0, k_slices_IndexFunc_int_int_L0b, hlt, hr, h0, hli, hli3, hget, hget0, hw, a, hc, hrow, gOf_below hr]
    · have ih := index_loopF s tl n p r hp hlt hr l hrow hlen rest (pre ++ [w]) (by simp [h]) (i + 1) (by simp [hi]) (fun x hx => by
        rcases List.mem_append.1 hx with hx | hx
        · exact hn x hx
        · simp at hx; subst hx; exact hc)
      have step : run kp (.loop [0, 1, 7, 8] k_slices_IndexFunc_int_int_L0
                      { env := [(0, .sl false r 0 l.length), (1, V.clo f_fault_Loses_1 [] [V.ptr p []]), (7, V.int IntKind.i64 ↑l.length), (8, V.int IntKind.i64 i)],
                        hp := [], tl := tl, base := n, next := n }) = run kp (.loop [0, 1, 7, 8] k_slices_IndexFunc_int_int_L0
                      { env := [(0, .sl false r 0 l.length), (1, V.clo f_fault_Loses_1 [] [V.ptr p []]), (7, V.int IntKind.i64 ↑l.length), (8, V.int IntKind.i64 (i + 1))],
                        hp := [], tl := tl, base := n, next := n }) := by
        rw [run_round]
        simp only [hc, decide_false] at a
        simp [c_slices_IndexFunc_int_int_L0, k_slices_IndexFunc_int_int_L0b, hlt, hr, h0, hli, hli3, hget, hget0, hw, a, hrow, gOf_below hr]
      rw [step]
      exact ih
theorem index_F (s : Int) (tl : Nat → Option Blk) (n p r : Nat) (hp : tl p = some (.box (.int .i64 s))) (hlt : p < n) (hr : r < n) (l : List Int) (hrow : tl r = some (.row true (l.map (.int .i64)))) (hlen : l.length ≤ 1000) :
    (∃ (j : Nat), j < l.length ∧ l[j]? = some s ∧ (∀ x ∈ l.take j, ¬ x = s) ∧ run kp (.call f_slices_IndexFunc_int_int [.sl false r 0 l.length, V.clo f_fault_Loses_1 [] [V.ptr p []]] tl n) = some (.val (.int .i64 (j : Int)) [] n)) ∨
    ((∀ x ∈ l, ¬ x = s) ∧ run kp (.call f_slices_IndexFunc_int_int [.sl false r 0 l.length, V.clo f_fault_Loses_1 [] [V.ptr p []]] tl n) = some (.val (.int .i64 (-1)) [] n)) := by
  rw [run_call, kp_slices_IndexFunc_int_int]
  rcases index_loopF s tl n p r hp hlt hr l hrow hlen l [] rfl 0 rfl (fun x hx => by cases hx) with ⟨j, j1, j2, j3, e⟩ | ⟨h1, e⟩
  · refine .inl ⟨j, j1, j2, j3, ?_⟩
    simp [k_slices_IndexFunc_int_int, hlt, hr, e, canK_canH]
  · refine .inr ⟨h1, ?_⟩
    simp [k_slices_IndexFunc_int_int, hlt, hr, e, canK_canH]
def dfHp (r : Nat) (cells : List D) : Bool → Hp
  | true => [(r, .row true cells)]
  | false => []
def dfSt (p r len : Nat) (tl : Nat → Option Blk) (n : Nat) (wr : Bool) (cells : List D) (ex : List (Nat × V)) (i j : Int) : St :=
  { env := [(0, .sl false r 0 len), (1, V.clo f_fault_Loses_1 [] [V.ptr p []]), (5, .int .i64 i), (6, .int .i64 j)] ++ ex, hp := dfHp r cells wr, tl := tl, base := n, next := n }
set_option maxHeartbeats 4000000 in
theorem df_loop (s : Int) (tl : Nat → Option Blk) (n p r : Nat) (hp : tl p = some (.box (.int .i64 s))) (hlt : p < n) (hr : r < n) (hpr : ¬ p = r) (len : Nat) (hlen : len ≤ 1000) : ∀ (R : List Int) (i j : Nat) (K : List Int) (cells : List D) (wr : Bool),
    i < j → j + R.length = len → cells.length = len → cells.take i = K.map (.int .i64) → K.length = i → cells.drop j = R.map (.int .i64) → (wr = false → tl r = some (.row true cells)) →
    ∃ (cells' : List D) (wr' : Bool), cells'.length = len ∧ cells'.take (K ++ R.filter (fun x => decide (¬ x = s))).length = (K ++ R.filter (fun x => decide (¬ x = s))).map (.int .i64) ∧ (wr' = false → tl r = some (.row true cells')) ∧ (K ++ R.filter (fun x => decide (¬ x = s))).length < len ∧
      run kp (.loop [0, 1, 5, 6] k_slices_DeleteFunc_int_int_L0 (dfSt p r len tl n wr cells [] i j)) = some (.out (.ext 0) (dfSt p r len tl n wr' cells' [(19, .bool false)] ((K ++ R.filter (fun x => decide (¬ x = s))).length : Nat) len))
  | [], i, j, K, cells, wr, hij, hj, hc, ht, hk, hd, hw => by
    simp only [List.length_nil, Nat.add_zero] at hj
    subst hj
    refine ⟨cells, wr, hc, by simpa [hk] using ht, hw, by simp [hk]; omega, ?_⟩
    simp only [List.filter_nil, List.append_nil, hk]
    rw [run_round]
    cases wr <;> simp [c_slices_DeleteFunc_int_int_L0, k_slices_DeleteFunc_int_int_L0b, dfSt, dfHp, hlt, hr]
  | v :: R, i, j, K, cells, wr, hij, hj, hc, ht, hk, hd, hw => by
    simp only [List.length_cons] at hj
    have hjl : j < cells.length := by omega
    have hjl2 : (j : Int) < (len : Int) := by omega
    have hil2 : (i : Int) < (len : Int) := by omega
    have hjl3 : j < len := by omega
    have hil3 : i < len := by omega
    have hv0 : cells[j]? = some (.int .i64 v) := by
      have := congrArg List.head? hd
      simpa [List.head?_drop] using this
    have hvg : ∀ hh : j < cells.length, cells[j] = .int .i64 v := fun hh => by rw [List.getElem?_eq_getElem hh] at hv0; injection hv0
    have hd2 : cells.drop (j + 1) = R.map (.int .i64) := by
      have := congrArg List.tail hd
      simpa [List.tail_drop] using this
    have w1 : IntKind.i64.wrap ((j : Int) + 1) = ((j + 1 : Nat) : Int) := by rw [wrap_i64 (by omega) (by omega)]; omega
    have w2 : IntKind.i64.wrap ((i : Int) + 1) = ((i + 1 : Nat) : Int) := by rw [wrap_i64 (by omega) (by omega)]; omega
    have a := loses_1 s v
    have hgp : gOf [(r, .row true cells)] tl p = some (.box (.int .i64 s)) := by
      have : ¬ r = p := fun e => hpr e.symm
      simp [gOf, hlook, this, hp]
    by_cases hvs : v = s
    · obtain ⟨cells', wr', q1, q2, q3, q4, q5⟩ := df_loop s tl n p r hp hlt hr hpr len hlen R i (j + 1) K cells wr (by omega) (by omega) hc ht hk hd2 hw
      have hf : K ++ (v :: R).filter (fun x => decide (¬ x = s)) = K ++ R.filter (fun x => decide (¬ x = s)) := by simp [hvs]
      rw [hf]
      refine ⟨cells', wr', q1, q2, q3, q4, ?_⟩
      rw [← q5, run_round]
      generalize j + 1 = j' at *
      cases wr with
      | false =>
        have hrow := hw rfl
        have a := a tl n p hp hlt
        simp only [hvs, decide_true] at a
        simp [c_slices_DeleteFunc_int_int_L0, k_slices_DeleteFunc_int_int_L0b, dfSt, dfHp, hlt, hr, hjl, hjl2, hjl3, hv0, hvg, w1, a, hvs, hrow, gOf_below hr, hc]
      | true =>
        have a := a (gOf [(r, .row true cells)] tl) n p hgp hlt
        simp only [hvs, decide_true] at a
        simp [c_slices_DeleteFunc_int_int_L0, k_slices_DeleteFunc_int_int_L0b, dfSt, dfHp, hlt, hr, hjl, hjl2, hjl3, hv0, hvg, w1, a, hvs, gOf_below hr, hc]
    · have hset : (cells.set i (.int .i64 v)).take (i + 1) = (K ++ [v]).map (.int .i64) := by
        rw [List.take_add_one, List.take_set_of_le (by omega), ht]
        simp [List.getElem?_set, hil3, hc]
      have hset2 : (cells.set i (.int .i64 v)).drop (j + 1) = R.map (.int .i64) := by
        rw [List.drop_set_of_lt (by omega), hd2]
      obtain ⟨cells', wr', q1, q2, q3, q4, q5⟩ := df_loop s tl n p r hp hlt hr hpr len hlen R (i + 1) (j + 1) (K ++ [v]) (cells.set i (.int .i64 v)) true (by omega) (by omega) (by simpa using hc) hset (by simp [hk]) hset2 (by simp)
      have hf : K ++ (v :: R).filter (fun x => decide (¬ x = s)) = K ++ [v] ++ R.filter (fun x => decide (¬ x = s)) := by simp [hvs]
      rw [hf]
      refine ⟨cells', wr', q1, q2, q3, q4, ?_⟩
      rw [← q5, run_round]
      generalize j + 1 = j' at *
      generalize i + 1 = i' at *
      cases wr with
      | false =>
        have hrow := hw rfl
        have a := a tl n p hp hlt
        simp only [hvs, decide_false] at a
        simp [c_slices_DeleteFunc_int_int_L0, k_slices_DeleteFunc_int_int_L0b, dfSt, dfHp, hlt, hr, hjl, hjl2, hjl3, hil2, hil3, hv0, hvg, w1, w2, a, hvs, hrow, gOf_below hr, hc]
      | true =>
        have a := a (gOf [(r, .row true cells)] tl) n p hgp hlt
        simp only [hvs, decide_false] at a
        simp [c_slices_DeleteFunc_int_int_L0, k_slices_DeleteFunc_int_int_L0b, dfSt, dfHp, hlt, hr, hjl, hjl2, hjl3, hil2, hil3, hv0, hvg, w1, w2, a, hvs, gOf_below hr, hc]
theorem filter_first (s : Int) (l : List Int) (j : Nat) (h2 : l[j]? = some s) (h3 : ∀ x ∈ l.take j, ¬ x = s) : l.filter (fun x => decide (¬ x = s)) = l.take j ++ (l.drop (j + 1)).filter (fun x => decide (¬ x = s)) := by
  have hlt := (List.getElem?_eq_some_iff.1 h2).1
  have e : l = l.take j ++ s :: l.drop (j + 1) := by
    rw [← (List.getElem?_eq_some_iff.1 h2).2, ← List.drop_eq_getElem_cons hlt, List.take_append_drop]
  conv => lhs; rw [e]
  rw [List.filter_append, List.filter_cons]
  simp only [not_true, decide_false, Bool.false_eq_true, if_false]
  congr 1
  rw [List.filter_eq_self]
  intro x hx
  simpa using h3 x hx
/-- What is left of a row. -/
def leftF (s : Int) (l : List Int) : List Int := l.filter (fun x => decide (¬ x = s))
set_option maxHeartbeats 4000000 in
theorem deleteF (s : Int) (tl : Nat → Option Blk) (n p r : Nat) (hp : tl p = some (.box (.int .i64 s))) (hlt : p < n) (hr : r < n) (hpr : ¬ p = r) (l : List Int) (hrow : tl r = some (.row true (l.map (.int .i64)))) (hlen : l.length ≤ 1000) :
    (leftF s l = l ∧ run kp (.call f_slices_DeleteFunc_int_int [.sl false r 0 l.length, V.clo f_fault_Loses_1 [] [V.ptr p []]] tl n) = some (.val (.sl false r 0 l.length) [] n)) ∨
    (∃ zs, run kp (.call f_slices_DeleteFunc_int_int [.sl false r 0 l.length, V.clo f_fault_Loses_1 [] [V.ptr p []]] tl n) = some (.val (.sl false r 0 (leftF s l).length) [(r, .row true ((leftF s l).map (.int .i64) ++ zs))] n)) := by
  rw [run_call, kp_slices_DeleteFunc_int_int]
  rcases index_F s tl n p r hp hlt hr l hrow hlen with ⟨j, j1, j2, j3, e⟩ | ⟨h1, e⟩
  · right
    obtain ⟨cells, wr, q1, q2, q3, q4, q5⟩ := df_loop s tl n p r hp hlt hr hpr l.length hlen (l.drop (j + 1)) j (j + 1) (l.take j) (l.map (.int .i64)) false (by omega) (by simp; omega) (by simp) (by simp) (by simp; omega) (by simp) (fun _ => hrow)
    rw [← filter_first s l j j2 j3] at q2 q4 q5
    change cells.take (leftF s l).length = (leftF s l).map (.int .i64) at q2
    change (leftF s l).length < l.length at q4
    change run kp _ = some (.out (.ext 0) (dfSt p r l.length tl n wr cells [(19, .bool false)] ((leftF s l).length : Nat) l.length)) at q5
    generalize hF : leftF s l = F at *
    have w1 : IntKind.i64.wrap ((j : Int) + 1) = ((j + 1 : Nat) : Int) := by rw [wrap_i64 (by omega) (by omega)]; omega
    have c1 : (F.length : Int) ≤ (l.length : Int) := by omega
    have c2 : F.length ≤ l.length := by omega
    have c3 : ¬ ((j : Int) = -1) := by omega
    have c4 : ((l.length : Int) - (F.length : Int)).toNat = l.length - F.length := by omega
    have c5 : ¬ l.length < F.length + (l.length - F.length) := by omega
    have c6 : F.length + (l.length - F.length) = l.length := by omega
    have c7 : ¬ cells.length < F.length + (l.length - F.length) := by omega
    refine ⟨List.replicate (l.length - F.length) (.int .i64 0) ++ cells.drop l.length, ?_⟩
    simp only [dfSt] at q5
    generalize j + 1 = j' at *
    cases wr with
    | false =>
      have hr2 := q3 rfl
      simp only [dfHp, List.append_nil, List.cons_append, List.nil_append] at q5
      simp [k_slices_DeleteFunc_int_int, hlt, hr, e, q5, dfSt, dfHp, w1, c1, c2, c3, c4, c5, c6, c7, q1, q2, hr2, gOf_below hr, canK_canH]
    | true =>
      simp only [dfHp, List.append_nil, List.cons_append, List.nil_append] at q5
      simp [k_slices_DeleteFunc_int_int, hlt, hr, e, q5, dfSt, dfHp, w1, c1, c2, c3, c4, c5, c6, c7, q1, q2, gOf_below hr, canK_canH]
  · left
    refine ⟨?_, ?_⟩
    · unfold leftF
      rw [List.filter_eq_self]
      intro x hx
      simpa using h1 x hx
    · simp [k_slices_DeleteFunc_int_int, hlt, hr, e, canK_canH]
end Go.Cd
