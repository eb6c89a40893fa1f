/- The functions of flag, and the reference's. No conditions. -/
import Derived.Test.YtjedomkpjidmbaaCode
import Derived.Test.YtjedomkpjidmbaaS6
import Derived.Laws.BitsAllLaws
import Derived.KernelRfl
set_option linter.unusedVariables false
set_option linter.unusedSimpArgs false
namespace Go.Cd
open Go Go.Fw
structure Waiter where
  client : Int
  mask : Int
def Waiter.d (w : Waiter) : D := .agg [.int .i64 w.client, .int .u32 w.mask]
structure Flag where
  bits : Int
  wn : Bool
  wait : List Waiter
def Flag.d (f : Flag) : D := .agg [.int .u32 f.bits, .sl f.wn (f.wait.map Waiter.d)]
@[simp] theorem take_map_len {α β : Type} (f : α → β) (l : List α) : List.take l.length (List.map f l) = List.map f l := by
  rw [← List.length_map (f := f), List.take_length]
/-- A row that a loop has put together: none so far, or one that stands. -/
def rowD : List Waiter → D
  | [] => .sl true []
  | a :: l => .sl false (a.d :: l.map Waiter.d)
/-- What is raised: the bits, who waits on, who is told. -/
def raiseF : List Waiter → Int → List Waiter → List Waiter → Int × List Waiter × List Waiter
  | [], b, l, t => (b, l, t)
  | w :: r, b, l, t =>
    if bits .and .u32 b w.mask = 0 then raiseF r b (l ++ [w]) t
    else raiseF r (bits .andNot .u32 b (bits .and .u32 b w.mask)) l (t ++ [⟨w.client, bits .and .u32 b w.mask⟩])
def raiseSt (f : Flag) (ex : List (Nat × V)) (i b : Int) : List Waiter → List Waiter → St
  | [], [] => { env := [(4, V.ptr 0 []), (5, V.d (D.sl true [])), (15, V.asl f.wn (List.map Waiter.d f.wait)), (16, V.int IntKind.i64 f.wait.length), (17, V.int IntKind.i64 i)] ++ ex,
                                hp := [(0, Blk.box (V.d (D.agg [.int .u32 b, .sl true []])))], tl := fun _ => none, base := 0, next := 1 }
  | [], c :: t => { env := [(4, V.ptr 0 []), (5, .sl false 1 0 (t.length + 1)), (15, V.asl f.wn (List.map Waiter.d f.wait)), (16, V.int IntKind.i64 f.wait.length), (17, V.int IntKind.i64 i)] ++ ex,
                                hp := [(0, Blk.box (V.d (D.agg [.int .u32 b, .sl true []]))), (1, .row true (c.d :: t.map Waiter.d))], tl := fun _ => none, base := 0, next := 2 }
  | a :: l, [] => { env := [(4, V.ptr 0 []), (5, V.d (D.sl true [])), (15, V.asl f.wn (List.map Waiter.d f.wait)), (16, V.int IntKind.i64 f.wait.length), (17, V.int IntKind.i64 i)] ++ ex,
                                hp := [(0, Blk.box (V.agg [.int .u32 b, .sl false 1 0 (l.length + 1)])), (1, .row true (a.d :: l.map Waiter.d))], tl := fun _ => none, base := 0, next := 2 }
  | a :: l, c :: t => { env := [(4, V.ptr 0 []), (5, .sl false 2 0 (t.length + 1)), (15, V.asl f.wn (List.map Waiter.d f.wait)), (16, V.int IntKind.i64 f.wait.length), (17, V.int IntKind.i64 i)] ++ ex,
                                hp := [(0, Blk.box (V.agg [.int .u32 b, .sl false 1 0 (l.length + 1)])), (1, .row true (a.d :: l.map Waiter.d)), (2, .row true (c.d :: t.map Waiter.d))], tl := fun _ => none, base := 0, next := 3 }
theorem flag_Raise_loop (f : Flag) (hf : f.wait.length ≤ 1000) : ∀ (rest pre : List Waiter), f.wait = pre ++ rest → ∀ (i : Int), i = pre.length → ∀ (b : Int) (l t : List Waiter), l.length + rest.length ≤ 1000 → t.length + rest.length ≤ 1000 →
    run kp (.loop [4, 5, 15, 16, 17] k_flag_Raise_L0 (raiseSt f [] i b l t)) =
    some (.out (.ext 0) (raiseSt f [(18, .bool false)] f.wait.length (raiseF rest b l t).1 (raiseF rest b l t).2.1 (raiseF rest b l t).2.2))
  | [], pre, h, i, hi, b, l, t, _, _ => by
    simp at h
    subst hi
    rw [run_round]
    cases l <;> cases t <;> simp [c_flag_Raise_L0, k_flag_Raise_L0b, raiseF, raiseSt, h]
  | w :: rest, pre, h, i, hi, b, l, t, hl, ht => by
    have hli : i < f.wait.length := by rw [h, hi]; simp; omega
    have h0 : 0 ≤ i := by omega
    have hget0 : f.wait[i.toNat]? = some w := by rw [h, hi]; simp
    have hget : ∀ hh : i.toNat < f.wait.length, f.wait[i.toNat] = w := fun hh => by rw [List.getElem?_eq_getElem hh] at hget0; injection hget0
    have hw : IntKind.i64.wrap (i + 1) = i + 1 := wrap_i64 (by omega) (by omega)
    simp only [List.length_cons] at hl ht
    by_cases hg : bits .and .u32 b w.mask = 0
    · have ih := flag_Raise_loop f hf rest (pre ++ [w]) (by simp [h]) (i + 1) (by simp [hi]) b (l ++ [w]) t (by simp; omega) (by omega)
      simp only [raiseF, hg, if_true]
      rw [← ih, run_round]
      cases l with
      | nil => cases t <;> simp [c_flag_Raise_L0, k_flag_Raise_L0b, h0, hli, hget, hg, Waiter.d, hw, raiseSt]
      | cons a l =>
        simp only [List.length_cons] at hl
        have : l.length ≤ 1073741822 := by omega
        cases t <;> simp [c_flag_Raise_L0, k_flag_Raise_L0b, h0, hli, hget, hg, Waiter.d, hw, raiseSt, this]
    · have ih := flag_Raise_loop f hf rest (pre ++ [w]) (by simp [h]) (i + 1) (by simp [hi]) (bits .andNot .u32 b (bits .and .u32 b w.mask)) l (t ++ [⟨w.client, bits .and .u32 b w.mask⟩]) (by omega) (by simp; omega)
      simp only [raiseF, hg, if_false]
      rw [← ih, run_round]
      cases t with
      | nil => cases l <;> simp [c_flag_Raise_L0, k_flag_Raise_L0b, h0, hli, hget, hg, Waiter.d, hw, raiseSt]
      | cons a t =>
        simp only [List.length_cons] at ht
        have : t.length ≤ 1073741822 := by omega
        cases l <;> simp [c_flag_Raise_L0, k_flag_Raise_L0b, h0, hli, hget, hg, Waiter.d, hw, raiseSt, this]
theorem flag_Raise (f : Flag) (hf : f.wait.length ≤ 1000) (mask : Int) : run kp (.data f_flag_Raise [f.d, .int .u32 mask]) =
    some (.ds [.agg [.int .u32 (raiseF f.wait (bits .or .u32 f.bits mask) [] []).1, rowD (raiseF f.wait (bits .or .u32 f.bits mask) [] []).2.1], rowD (raiseF f.wait (bits .or .u32 f.bits mask) [] []).2.2]) := by
  rw [run_data, run_call, kp_flag_Raise]
  have hl := flag_Raise_loop f hf f.wait [] rfl 0 rfl (bits .or .u32 f.bits mask) [] [] (by simpa using hf) (by simpa using hf)
  generalize raiseF f.wait (bits .or .u32 f.bits mask) [] [] = r at *
  obtain ⟨b, l, t⟩ := r
  simp only [raiseSt, List.append_nil] at hl
  cases l <;> cases t <;> simp [k_flag_Raise, Flag.d, hl, raiseSt, rowD]
theorem await_1 (w : Waiter) (c : Int) (tl : Nat → Option Blk) (n p : Nat) (hp : tl p = some (.box (.int .i64 c))) (hlt : p < n) : run kp (.call f_flag_Await_1 [.d w.d, .ptr p []] tl n) = some (.val (.bool (decide (w.client = c))) [] n) := by
  rw [run_call, kp_flag_Await_1]
  simp [k_flag_Await_1, Waiter.d, hp, gOf_below hlt, canK_canH]
theorem index_loop (c : Int) (tl : Nat → Option Blk) (n p : Nat) (hp : tl p = some (.box (.int .i64 c))) (hlt : p < n) (nl : Bool) (l : List Waiter) (hlen : l.length ≤ 1000) : ∀ (rest pre : List Waiter), l = pre ++ rest → ∀ (i : Int), i = pre.length →
   (rest.any (fun w => decide (w.client = c)) = true ∧ ∃ j : Int, 0 ≤ j ∧ run kp (.loop [0, 1, 7, 8] k_slices_IndexFunc_api_Waiter_api_Waiter_L0
                      { env := [(0, V.asl nl (List.map Waiter.d l)), (1, V.clo f_flag_Await_1 [] [V.ptr p []]), (7, V.int IntKind.i64 ↑l.length), (8, V.int IntKind.i64 i)],
                        hp := [], tl := tl, base := n, next := n }) = some (.out .ret
                      { env := [(0, V.asl nl (List.map Waiter.d l)), (1, V.clo f_flag_Await_1 [] [V.ptr p []]), (7, V.int IntKind.i64 ↑l.length), (8, V.int IntKind.i64 j), (9, .bool true), (16, .bool true), (4, .int .i64 j)],
                        hp := [], tl := tl, base := n, next := n })) ∨
   (rest.any (fun w => decide (w.client = c)) = false ∧ run kp (.loop [0, 1, 7, 8] k_slices_IndexFunc_api_Waiter_api_Waiter_L0
                      { env := [(0, V.asl nl (List.map Waiter.d l)), (1, V.clo f_flag_Await_1 [] [V.ptr p []]), (7, V.int IntKind.i64 ↑l.length), (8, V.int IntKind.i64 i)],
                        hp := [], tl := tl, base := n, next := n }) = some (.out (.ext 0)
                      { env := [(0, V.asl nl (List.map Waiter.d l)), (1, V.clo f_flag_Await_1 [] [V.ptr p []]), (7, V.int IntKind.i64 ↑l.length), (8, V.int IntKind.i64 l.length), (9, .bool false)],
                        hp := [], tl := tl, base := n, next := n }))
  | [], pre, h, i, hi => by
    simp at h
    subst h hi
    rw [run_round]
    simp [c_slices_IndexFunc_api_Waiter_api_Waiter_L0, k_slices_IndexFunc_api_Waiter_api_Waiter_L0b, hlt]
  | w :: rest, pre, h, i, hi => by
    have hli : i < l.length := by rw [h, hi]; simp; omega
    have h0 : 0 ≤ i := by omega
    have hget0 : l[i.toNat]? = some w := by rw [h, hi]; simp
    have hget : ∀ hh : i.toNat < l.length, l[i.toNat] = w := fun hh => by rw [List.getElem?_eq_getElem hh] at hget0; injection hget0
    have hw : IntKind.i64.wrap (i + 1) = i + 1 := wrap_i64 (by omega) (by omega)
    have ih := index_loop c tl n p hp hlt nl l hlen rest (pre ++ [w]) (by simp [h]) (i + 1) (by simp [hi])
    have a := await_1 w c tl n p hp hlt
    rw [run_round]
    by_cases hc : w.client = c
    · refine .inl ⟨by simp [hc], i, h0, ?_⟩
      simp only [hc, Waiter.d] at a
      simp [c_slices_IndexFunc_api_Waiter_api_Waiter_L0, k_slices_IndexFunc_api_Waiter_api_Waiter_L0b, hlt, h0, hli, hget, hw, a, hc, Waiter.d]
    · simp only [Waiter.d] at a
      simp [c_slices_IndexFunc_api_Waiter_api_Waiter_L0, k_slices_IndexFunc_api_Waiter_api_Waiter_L0b, hlt, h0, hli, hget, hw, a, hc, Waiter.d]
      simpa using ih
theorem contains_Waiter (c : Int) (tl : Nat → Option Blk) (n p : Nat) (hp : tl p = some (.box (.int .i64 c))) (hlt : p < n) (nl : Bool) (l : List Waiter) (hlen : l.length ≤ 1000) : run kp (.call f_slices_ContainsFunc_api_Waiter_api_Waiter [V.asl nl (List.map Waiter.d l), V.clo f_flag_Await_1 [] [V.ptr p []]] tl n) = some (.val (.bool (l.any fun w => decide (w.client = c))) [] n) := by
  rw [run_call, kp_slices_ContainsFunc_api_Waiter_api_Waiter]
  simp [k_slices_ContainsFunc_api_Waiter_api_Waiter]
  rw [run_call, kp_slices_IndexFunc_api_Waiter_api_Waiter]
  rcases index_loop c tl n p hp hlt nl l hlen l [] rfl 0 rfl with ⟨h1, j, h2, h3⟩ | ⟨h1, h3⟩
  · simp [k_slices_IndexFunc_api_Waiter_api_Waiter, hlt, h3, h1, h2, canK_canH]
  · simp [k_slices_IndexFunc_api_Waiter_api_Waiter, hlt, h3, h1, canK_canH]
theorem clone_Waiter (nl : Bool) (l : List Waiter) (hn : nl = true → l = []) (hl : l.length ≤ 1000) : run kp (.data f_slices_Clone_api_Waiter_api_Waiter [.sl nl (l.map Waiter.d)]) = some (.ds [.sl nl (l.map Waiter.d)]) := by
  rw [run_data, run_call, kp_slices_Clone_api_Waiter_api_Waiter]
  cases nl with
  | true => simp [hn rfl, k_slices_Clone_api_Waiter_api_Waiter]
  | false =>
    simp [k_slices_Clone_api_Waiter_api_Waiter]
    omega
/-- What is taken, or waited for: the bits, who waits, what there was, whether it may be. -/
def awaitF (f : Flag) (c m : Int) : Int × List Waiter × Int × Bool :=
  if c < 1 ∨ m = 0 then (f.bits, f.wait, 0, false)
  else if ¬ bits .and .u32 f.bits m = 0 then (bits .andNot .u32 f.bits (bits .and .u32 f.bits m), f.wait, bits .and .u32 f.bits m, true)
  else if 4 ≤ f.wait.length ∨ (f.wait.any fun w => decide (w.client = c)) = true then (f.bits, f.wait, 0, false)
  else (f.bits, f.wait ++ [⟨c, m⟩], 0, true)
theorem flag_Await (f : Flag) (hn : f.wn = true → f.wait = []) (hf : f.wait.length ≤ 1000) (c m : Int) : ∃ nl, run kp (.data f_flag_Await [f.d, .int .i64 c, .int .u32 m]) =
    some (.ds [.agg [.int .u32 (awaitF f c m).1, .sl nl ((awaitF f c m).2.1.map Waiter.d)], .int .u32 (awaitF f c m).2.2.1, .bool (awaitF f c m).2.2.2]) := by
  obtain ⟨b, nl, l⟩ := f
  simp only at hn hf
  have cl := clone_Waiter nl l hn hf
  simp only [Flag.d, awaitF]
  rw [run_data, run_call, kp_flag_Await]
  cases nl with
  | true =>
    have := hn rfl
    subst this
    simp only [List.map_nil] at cl ⊢
    by_cases h1 : c < 1
    · refine ⟨true, ?_⟩
      simp [k_flag_Await, cl, h1]
    · by_cases h2 : m = 0
      · refine ⟨true, ?_⟩
        simp [k_flag_Await, cl, h1, h2]
      · by_cases h3 : bits .and .u32 b m = 0
        · refine ⟨false, ?_⟩
          have cw := fun tl n p hp hlt => contains_Waiter c tl n p hp hlt true [] (by simp)
          simp only [List.map_nil, List.any_nil] at cw
          simp [k_flag_Await, cl, h1, h2, h3, cw, Waiter.d]
        · refine ⟨true, ?_⟩
          simp [k_flag_Await, cl, h1, h2, h3]
  | false =>
    refine ⟨false, ?_⟩
    by_cases h1 : c < 1
    · simp [k_flag_Await, cl, h1]
    · by_cases h2 : m = 0
      · simp [k_flag_Await, cl, h1, h2]
      · by_cases h3 : bits .and .u32 b m = 0
        · by_cases h4 : 4 ≤ l.length
          · have h4' : (4 : Int) ≤ l.length := by omega
            simp [k_flag_Await, cl, h1, h2, h3, h4, h4']
          · have h4' : ¬ (4 : Int) ≤ l.length := by omega
            have h5 : l.length ≤ 1073741823 := by omega
            cases h6 : (l.any fun w => decide (w.client = c))
            · simp [k_flag_Await, cl, h1, h2, h3, h4, h4', contains_Waiter c, hf, h5, h6, Waiter.d]
              exact List.take_of_length_le (by simp)
            · simp [k_flag_Await, cl, h1, h2, h3, h4, h4', contains_Waiter c, hf, h5, h6, Waiter.d]
        · simp [k_flag_Await, cl, h1, h2, h3]
/-- Who waits. -/
def whoD (l : List Waiter) : D := match l with
  | [] => .sl true []
  | a :: l => .sl false (.int .i64 a.client :: l.map fun w => .int .i64 w.client)
def resetSt (f : Flag) (ex : List (Nat × V)) (i : Int) : List Waiter → St
  | [] => { env := [(2, V.ptr 0 []), (3, V.d (D.sl true [])), (7, V.asl f.wn (List.map Waiter.d f.wait)), (8, V.int IntKind.i64 f.wait.length), (9, V.int IntKind.i64 i)] ++ ex,
                                hp := [(0, Blk.box (V.d (D.agg [.int .u32 0, .sl true []])))], tl := fun _ => none, base := 0, next := 1 }
  | a :: l => { env := [(2, V.ptr 0 []), (3, .sl false 1 0 (l.length + 1)), (7, V.asl f.wn (List.map Waiter.d f.wait)), (8, V.int IntKind.i64 f.wait.length), (9, V.int IntKind.i64 i)] ++ ex,
                                hp := [(0, Blk.box (V.d (D.agg [.int .u32 0, .sl true []]))), (1, .row true (.int .i64 a.client :: l.map fun w => .int .i64 w.client))], tl := fun _ => none, base := 0, next := 2 }
theorem flag_Reset_loop (f : Flag) (hf : f.wait.length ≤ 1000) : ∀ (rest pre : List Waiter), f.wait = pre ++ rest → ∀ (i : Int), i = pre.length →
    run kp (.loop [2, 3, 7, 8, 9] k_flag_Reset_L0 (resetSt f [] i pre)) =
    some (.out (.ext 0) (resetSt f [(10, .bool false)] f.wait.length f.wait))
  | [], pre, h, i, hi => by
    simp at h
    subst hi
    rw [run_round, h]
    cases pre <;> simp [c_flag_Reset_L0, k_flag_Reset_L0b, resetSt, h]
  | w :: rest, pre, h, i, hi => by
    have hli : i < f.wait.length := by rw [h, hi]; simp; omega
    have h0 : 0 ≤ i := by omega
    have hget0 : f.wait[i.toNat]? = some w := by rw [h, hi]; simp
    have hget : ∀ hh : i.toNat < f.wait.length, f.wait[i.toNat] = w := fun hh => by rw [List.getElem?_eq_getElem hh] at hget0; injection hget0
    have hw : IntKind.i64.wrap (i + 1) = i + 1 := wrap_i64 (by omega) (by omega)
    have ih := flag_Reset_loop f hf rest (pre ++ [w]) (by simp [h]) (i + 1) (by simp [hi])
    rw [← ih, run_round]
    have hp : pre.length ≤ 1000 := by omega
    cases pre with
    | nil => simp [c_flag_Reset_L0, k_flag_Reset_L0b, h0, hli, hget, Waiter.d, hw, resetSt]
    | cons a l =>
      simp only [List.length_cons] at hp
      have : l.length ≤ 1073741822 := by omega
      simp [c_flag_Reset_L0, k_flag_Reset_L0b, h0, hli, hget, Waiter.d, hw, resetSt, this]
theorem flag_Reset (f : Flag) (hf : f.wait.length ≤ 1000) : run kp (.data f_flag_Reset [f.d]) = some (.ds [.agg [.int .u32 0, .sl true []], whoD f.wait]) := by
  rw [run_data, run_call, kp_flag_Reset]
  have hl := flag_Reset_loop f hf f.wait [] rfl 0 rfl
  cases hw : f.wait with
  | nil =>
    rw [hw] at hl
    simp [resetSt, hw] at hl
    simp [k_flag_Reset, Flag.d, hw, hl, whoD]
  | cons a l =>
    rw [hw] at hl
    simp [resetSt, hw] at hl
    simp [k_flag_Reset, Flag.d, hw, hl, whoD]
end Go.Cd
