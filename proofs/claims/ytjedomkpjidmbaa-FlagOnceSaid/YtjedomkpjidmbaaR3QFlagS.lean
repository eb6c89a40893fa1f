/- What is the same, as the reference has it. No conditions. -/
import Derived.Test.YtjedomkpjidmbaaR3QFlagR
set_option linter.unusedVariables false
set_option linter.unusedSimpArgs false
namespace Go.Cd
open Go Go.Fw
theorem sameW_loop (n1 n2 : Bool) (l : List Waiter) (hf : l.length ≤ 1000) : ∀ (rest pre : List Waiter), l = pre ++ rest → ∀ (i : Int), i = pre.length →
    run kp (.loop [0, 1, 5] k_ref11_SameWaiters_L0 { env := [(0, .asl n1 (l.map Waiter.d)), (1, .asl n2 (l.map Waiter.d)), (5, .int .i64 i)], hp := [], tl := fun _ => none, base := 0, next := 0 }) =
    some (.out (.ext 0) { env := [(0, .asl n1 (l.map Waiter.d)), (1, .asl n2 (l.map Waiter.d)), (5, .int .i64 l.length), (14, .bool false)], hp := [], tl := fun _ => none, base := 0, next := 0 })
  | [], pre, h, i, hi => by
    simp at h
    subst h hi
    rw [run_round]
    simp [c_ref11_SameWaiters_L0, k_ref11_SameWaiters_L0b]
  | w :: rest, pre, h, i, hi => by
    have hli : i < l.length := by rw [h, hi]; simp; omega
    have h0 : 0 ≤ i := by omega
    have hget0 : l[i.toNat]? = some w := by rw [h, hi]; simp
    have hget : ∀ hh : i.toNat < l.length, l[i.toNat] = w := fun hh => by rw [List.getElem?_eq_getElem hh] at hget0; injection hget0
    have hw : IntKind.i64.wrap (i + 1) = i + 1 := wrap_i64 (by omega) (by omega)
    have ih := sameW_loop n1 n2 l hf rest (pre ++ [w]) (by simp [h]) (i + 1) (by simp [hi])
    rw [← ih, run_round]
    simp [c_ref11_SameWaiters_L0, k_ref11_SameWaiters_L0b, h0, hli, hget, Waiter.d, hw]
theorem same_waiters (n1 n2 : Bool) (l : List Waiter) (hf : l.length ≤ 1000) : run kp (.data f_ref11_SameWaiters [.sl n1 (l.map Waiter.d), .sl n2 (l.map Waiter.d)]) = some (.ds [.bool true]) := by
  rw [run_data, run_call, kp_ref11_SameWaiters]
  have hl := sameW_loop n1 n2 l hf l [] rfl 0 rfl
  simp [k_ref11_SameWaiters, hl]
theorem same_flag (b : Int) (n1 n2 : Bool) (l : List Waiter) (hf : l.length ≤ 1000) : run kp (.data f_ref11_SameFlag [.agg [.int .u32 b, .sl n1 (l.map Waiter.d)], .agg [.int .u32 b, .sl n2 (l.map Waiter.d)]]) = some (.ds [.bool true]) := by
  rw [run_data, run_call, kp_ref11_SameFlag]
  simp [k_ref11_SameFlag, same_waiters, hf]
theorem sameI_loop (n1 n2 : Bool) (l : List Int) (hf : l.length ≤ 1000) : ∀ (rest pre : List Int), l = pre ++ rest → ∀ (i : Int), i = pre.length →
    run kp (.loop [0, 1, 5] k_ref11_SameInts_L0 { env := [(0, .asl n1 (l.map (.int .i64))), (1, .asl n2 (l.map (.int .i64))), (5, .int .i64 i)], hp := [], tl := fun _ => none, base := 0, next := 0 }) =
    some (.out (.ext 0) { env := [(0, .asl n1 (l.map (.int .i64))), (1, .asl n2 (l.map (.int .i64))), (5, .int .i64 l.length), (14, .bool false)], hp := [], tl := fun _ => none, base := 0, next := 0 })
  | [], pre, h, i, hi => by
    simp at h
    subst h hi
    rw [run_round]
    simp [c_ref11_SameInts_L0, k_ref11_SameInts_L0b]
  | w :: rest, pre, h, i, hi => by
    have hli : i < l.length := by rw [h, hi]; simp; omega
    have h0 : 0 ≤ i := by omega
    have hget0 : l[i.toNat]? = some w := by rw [h, hi]; simp
    have hget : ∀ hh : i.toNat < l.length, l[i.toNat] = w := fun hh => by rw [List.getElem?_eq_getElem hh] at hget0; injection hget0
    have hw : IntKind.i64.wrap (i + 1) = i + 1 := wrap_i64 (by omega) (by omega)
    have ih := sameI_loop n1 n2 l hf rest (pre ++ [w]) (by simp [h]) (i + 1) (by simp [hi])
    rw [← ih, run_round]
    simp [c_ref11_SameInts_L0, k_ref11_SameInts_L0b, h0, hli, hget, hw]
theorem same_ints (n1 n2 : Bool) (l : List Int) (hf : l.length ≤ 1000) : run kp (.data f_ref11_SameInts [.sl n1 (l.map (.int .i64)), .sl n2 (l.map (.int .i64))]) = some (.ds [.bool true]) := by
  rw [run_data, run_call, kp_ref11_SameInts]
  have hl := sameI_loop n1 n2 l hf l [] rfl 0 rfl
  simp [k_ref11_SameInts, hl]
theorem rowD_eq (l : List Waiter) : ∃ nl, rowD l = .sl nl (l.map Waiter.d) := by
  cases l
  · exact ⟨true, rfl⟩
  · exact ⟨false, rfl⟩
theorem whoD_eq (l : List Waiter) : ∃ nl, whoD l = .sl nl ((l.map Waiter.client).map (.int .i64)) := by
  cases l
  · exact ⟨true, rfl⟩
  · rename_i a l
    refine ⟨false, ?_⟩
    simp [whoD]
theorem awaitR_loop (c : Int) (m : Int) (b : Int) (nl : Bool) (l : List Waiter) (hf : l.length ≤ 1000) : ∀ (rest pre : List Waiter), l = pre ++ rest → ∀ (i : Int), i = pre.length →
    (rest.any (fun w => decide (w.client = c)) = true ∧ ∃ j, run kp (.loop [1, 2, 3, 6, 9, 11] k_ref11_Await_L0 { env := [(1, .int .i64 c), (2, .int .u32 m), (3, .ptr 0 []), (6, .ptr 1 []), (9, .ptr 2 []), (11, .int .i64 i)], hp := [(0, .box (.agg [.int .u32 b, .asl nl (l.map Waiter.d)])), (1, .box (.d (.agg [.int .u32 0, .sl true []]))), (2, .box (.agg [.int .u32 b, .sl false 3 0 l.length])), (3, .row true (l.map Waiter.d))], tl := fun _ => none, base := 0, next := 4 }) = some (.out .ret { env := [(1, .int .i64 c), (2, .int .u32 m), (3, .ptr 0 []), (6, .ptr 1 []), (11, .int .i64 j), (43, .bool true), (53, .bool true), (7, .int .u32 0), (8, .bool false)], hp := [(0, .box (.agg [.int .u32 b, .asl nl (l.map Waiter.d)])), (1, .box (.agg [.int .u32 b, .sl false 3 0 l.length])), (2, .box (.agg [.int .u32 b, .sl false 3 0 l.length])), (3, .row true (l.map Waiter.d))], tl := fun _ => none, base := 0, next := 4 })) ∨
    (rest.any (fun w => decide (w.client = c)) = false ∧ run kp (.loop [1, 2, 3, 6, 9, 11] k_ref11_Await_L0 { env := [(1, .int .i64 c), (2, .int .u32 m), (3, .ptr 0 []), (6, .ptr 1 []), (9, .ptr 2 []), (11, .int .i64 i)], hp := [(0, .box (.agg [.int .u32 b, .asl nl (l.map Waiter.d)])), (1, .box (.d (.agg [.int .u32 0, .sl true []]))), (2, .box (.agg [.int .u32 b, .sl false 3 0 l.length])), (3, .row true (l.map Waiter.d))], tl := fun _ => none, base := 0, next := 4 }) =
     some (.out (.ext 0) { env := [(1, .int .i64 c), (2, .int .u32 m), (3, .ptr 0 []), (6, .ptr 1 []), (9, .ptr 2 []), (11, .int .i64 l.length), (43, .bool false)], hp := [(0, .box (.agg [.int .u32 b, .asl nl (l.map Waiter.d)])), (1, .box (.d (.agg [.int .u32 0, .sl true []]))), (2, .box (.agg [.int .u32 b, .sl false 3 0 l.length])), (3, .row true (l.map Waiter.d))], tl := fun _ => none, base := 0, next := 4 }))
  | [], pre, h, i, hi => by
    simp at h
    subst h hi
    rw [run_round]
    simp [c_ref11_Await_L0, k_ref11_Await_L0b]
  | w :: rest, pre, h, i, hi => by
    have hli : i < l.length := by rw [h, hi]; simp; omega
    have h0 : 0 ≤ i := by omega
    have hget0 : l[i.toNat]? = some w := by rw [h, hi]; simp
    have hget : ∀ hh : i.toNat < l.length, l[i.toNat] = w := fun hh => by rw [List.getElem?_eq_getElem hh] at hget0; injection hget0
    have hw : IntKind.i64.wrap (i + 1) = i + 1 := wrap_i64 (by omega) (by omega)
    have ih := awaitR_loop c m b nl l hf rest (pre ++ [w]) (by simp [h]) (i + 1) (by simp [hi])
    rw [run_round]
    by_cases hc : w.client = c
    · refine .inl ⟨by simp [hc], i, ?_⟩
      simp [c_ref11_Await_L0, k_ref11_Await_L0b, h0, hli, hget, Waiter.d, hw, hc]
    · simp [c_ref11_Await_L0, k_ref11_Await_L0b, h0, hli, hget, Waiter.d, hw, hc]
      simpa using ih
/-- What the reference takes, or waits for. -/
def refAwaitF (f : Flag) (c m : Int) : Int × List Waiter × Int × Bool :=
  if c < 1 ∨ m = 0 then (f.bits, f.wait, 0, false)
  else if ¬ bits .and .u32 f.bits m = 0 then (IntKind.u32.wrap (f.bits - bits .and .u32 f.bits m), f.wait, bits .and .u32 f.bits m, true)
  else if 4 ≤ f.wait.length ∨ (f.wait.any fun w => decide (w.client = c)) = true then (f.bits, f.wait, 0, false)
  else (f.bits, f.wait ++ [⟨c, m⟩], 0, true)
theorem ref11_Await (f : Flag) (hf : f.wait.length ≤ 1000) (c m : Int) : run kp (.data f_ref11_Await [f.d, .int .i64 c, .int .u32 m]) =
    some (.ds [.agg [.int .u32 (refAwaitF f c m).1, .sl false ((refAwaitF f c m).2.1.map Waiter.d)], .int .u32 (refAwaitF f c m).2.2.1, .bool (refAwaitF f c m).2.2.2]) := by
  obtain ⟨b, nl, l⟩ := f
  simp only at hf
  simp only [Flag.d, refAwaitF]
  rw [run_data, run_call, kp_ref11_Await]
  have h5 : l.length ≤ 1073741824 := by omega
  have h5' : l.length ≤ 1073741823 := by omega
  by_cases h1 : c < 1
  · simp [k_ref11_Await, h1, h5]
  · by_cases h2 : m = 0
    · simp [k_ref11_Await, h1, h2, h5]
    · by_cases h3 : bits .and .u32 b m = 0
      · rcases awaitR_loop c m b nl l hf l [] rfl 0 rfl with ⟨h6, j, h7⟩ | ⟨h6, h7⟩
        · simp [k_ref11_Await, h1, h2, h3, h5, h6, h7]
        · by_cases h4 : 4 ≤ l.length
          · have h4' : (4 : Int) ≤ l.length := by omega
            simp [k_ref11_Await, h1, h2, h3, h5, h6, h7, h4, h4']
          · have h4' : ¬ (4 : Int) ≤ l.length := by omega
            simp [k_ref11_Await, h1, h2, h3, h5, h5', h6, h7, h4, h4', Waiter.d]
            exact List.take_of_length_le (by simp)
      · simp [k_ref11_Await, h1, h2, h3, h5]
end Go.Cd
