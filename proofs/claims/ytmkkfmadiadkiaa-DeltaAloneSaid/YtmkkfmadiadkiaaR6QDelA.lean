/- Timers by what comes behind: rows, and where a key is. No conditions. -/
import Derived.Test.YtmkkfmadiadkiaaCode
import Derived.Test.YtmkkfmadiadkiaaS7
import Derived.KernelRfl
set_option linter.unusedVariables false
set_option linter.unusedSimpArgs false
namespace Go.Cd
open Go Go.Fw
structure Tm where
  after : Int
  key : Int
def Tm.d (t : Tm) : D := .agg [.int .i64 t.after, .int .i64 t.key]
@[simp] theorem take_map_lenT {α β : Type} (f : α → β) (l : List α) : List.take l.length (List.map f l) = List.map f l := by
  rw [← List.length_map (f := f), List.take_length]
@[simp] theorem take_set_lenT {α β : Type} (f : α → β) (l : List α) (i : Nat) (x : β) : List.take l.length ((List.map f l).set i x) = (List.map f l).set i x :=
  List.take_of_length_le (by simp)
theorem clone_Tm (nl : Bool) (l : List Tm) (hn : nl = true → l = []) (hl : l.length ≤ 1000) : run kp (.data f_slices_Clone_delta_Timer_delta_Timer [.sl nl (l.map Tm.d)]) = some (.ds [.sl nl (l.map Tm.d)]) := by
  rw [run_data, run_call, kp_slices_Clone_delta_Timer_delta_Timer]
  cases nl with
  | true => simp [hn rfl, k_slices_Clone_delta_Timer_delta_Timer]
  | false =>
    simp [k_slices_Clone_delta_Timer_delta_Timer]
    omega
theorem find_1 (w : Tm) (c : Int) (tl : Nat → Option Blk) (n p : Nat) (hp : tl p = some (.box (.int .i64 c))) (hlt : p < n) : run kp (.call f_delta_find_1 [.d w.d, .ptr p []] tl n) = some (.val (.bool (decide (w.key = c))) [] n) := by
  rw [run_call, kp_delta_find_1]
  simp [k_delta_find_1, Tm.d, hp, gOf_below hlt, canK_canH]
/-- Where a key is; -1: nowhere. -/
def findT : List Tm → Int → Int → Int
  | [], _, _ => -1
  | t :: r, k, i => if t.key = k then i else findT r k (i + 1)
theorem findT_loop (c : Int) (tl : Nat → Option Blk) (n p : Nat) (hp : tl p = some (.box (.int .i64 c))) (hlt : p < n) (nl : Bool) (l : List Tm) (hlen : l.length ≤ 1000) : ∀ (rest pre : List Tm), l = pre ++ rest → ∀ (i : Int), i = pre.length →
   (∃ j : Int, findT rest c i = j ∧ 0 ≤ j ∧ run kp (.loop [0, 1, 7, 8] k_slices_IndexFunc_delta_Timer_delta_Timer_L0
                      { env := [(0, V.asl nl (List.map Tm.d l)), (1, V.clo f_delta_find_1 [] [V.ptr p []]), (7, V.int IntKind.i64 ↑l.length), (8, V.int IntKind.i64 i)],
                        hp := [], tl := tl, base := n, next := n }) = some (.out .ret
                      { env := [(0, V.asl nl (List.map Tm.d l)), (1, V.clo f_delta_find_1 [] [V.ptr p []]), (7, V.int IntKind.i64 ↑l.length), (8, V.int IntKind.i64 j), (9, .bool true), (16, .bool true), (4, .int .i64 j)],
                        hp := [], tl := tl, base := n, next := n })) ∨
   (findT rest c i = -1 ∧ run kp (.loop [0, 1, 7, 8] k_slices_IndexFunc_delta_Timer_delta_Timer_L0
                      { env := [(0, V.asl nl (List.map Tm.d l)), (1, V.clo f_delta_find_1 [] [V.ptr p []]), (7, V.int IntKind.i64 ↑l.length), (8, V.int IntKind.i64 i)],
                        hp := [], tl := tl, base := n, next := n }) = some (.out (.ext 0)
                      { env := [(0, V.asl nl (List.map Tm.d l)), (1, V.clo f_delta_find_1 [] [V.ptr p []]), (7, V.int IntKind.i64 ↑l.length), (8, V.int IntKind.i64 l.length), (9, .bool false)],
                        hp := [], tl := tl, base := n, next := n }))
  | [], pre, h, i, hi => by
    simp at h
    subst h hi
    refine .inr ⟨rfl, ?_⟩
    rw [run_round]
    simp [c_slices_IndexFunc_delta_Timer_delta_Timer_L0, k_slices_IndexFunc_delta_Timer_delta_Timer_L0b, hlt]
  | w :: rest, pre, h, i, hi => by
    have hli : i < l.length := by rw [h, hi]; simp; omega
    have h0 : 0 ≤ i := by omega
    have hget0 : l[i.toNat]? = some w := by rw [h, hi]; simp
    have hget : ∀ hh : i.toNat < l.length, l[i.toNat] = w := fun hh => by rw [List.getElem?_eq_getElem hh] at hget0; injection hget0
    have hw : IntKind.i64.wrap (i + 1) = i + 1 := wrap_i64 (by omega) (by omega)
    have ih := findT_loop c tl n p hp hlt nl l hlen rest (pre ++ [w]) (by simp [h]) (i + 1) (by simp [hi])
    have a := find_1 w c tl n p hp hlt
    rw [run_round]
    by_cases hc : w.key = c
    · refine .inl ⟨i, by simp [findT, hc], h0, ?_⟩
      simp only [hc, Tm.d] at a
      simp [c_slices_IndexFunc_delta_Timer_delta_Timer_L0, k_slices_IndexFunc_delta_Timer_delta_Timer_L0b, hlt, h0, hli, hget, hw, a, hc, Tm.d]
    · simp only [Tm.d] at a
      simp [c_slices_IndexFunc_delta_Timer_delta_Timer_L0, k_slices_IndexFunc_delta_Timer_delta_Timer_L0b, hlt, h0, hli, hget, hw, a, hc, Tm.d, findT]
      simpa using ih
theorem index_Tm (c : Int) (tl : Nat → Option Blk) (n p : Nat) (hp : tl p = some (.box (.int .i64 c))) (hlt : p < n) (nl : Bool) (l : List Tm) (hlen : l.length ≤ 1000) :
    run kp (.call f_slices_IndexFunc_delta_Timer_delta_Timer [V.asl nl (List.map Tm.d l), V.clo f_delta_find_1 [] [V.ptr p []]] tl n) = some (.val (.int .i64 (findT l c 0)) [] n) := by
  rw [run_call, kp_slices_IndexFunc_delta_Timer_delta_Timer]
  rcases findT_loop c tl n p hp hlt nl l hlen l [] rfl 0 rfl with ⟨j, h1, h2, h3⟩ | ⟨h1, h3⟩
  · simp [k_slices_IndexFunc_delta_Timer_delta_Timer, hlt, h3, h1, canK_canH]
  · simp [k_slices_IndexFunc_delta_Timer_delta_Timer, hlt, h3, h1, canK_canH]
theorem delta_find (nl : Bool) (l : List Tm) (hl : l.length ≤ 1000) (k : Int) : run kp (.data f_delta_find [.sl nl (l.map Tm.d), .int .i64 k]) = some (.ds [.int .i64 (findT l k 0)]) := by
  rw [run_data, run_call, kp_delta_find]
  have a := index_Tm k (fun x => if 0 = x then some (.box (.int .i64 k)) else none) 1 0 (by simp) (by omega) nl l hl
  simp [k_delta_find, a]
end Go.Cd
