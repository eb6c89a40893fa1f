/- The reference's flags. No conditions. -/
import Derived.Test.YtjedomkpjidmbaaR3QFlag
set_option linter.unusedVariables false
set_option linter.unusedSimpArgs false
namespace Go.Cd
open Go Go.Fw
def refRaiseF : List Waiter → Int → List Waiter → List Waiter → Int × List Waiter × List Waiter
  | [], b, l, t => (b, l, t)
  | w :: r, b, l, t =>
    if bits .and .u32 w.mask b = 0 then refRaiseF r b (l ++ [w]) t
    else refRaiseF r (IntKind.u32.wrap (b - bits .and .u32 w.mask b)) l (t ++ [⟨w.client, bits .and .u32 w.mask b⟩])
def refRaiseSt (f : Flag) (ex : List (Nat × V)) (i b : Int) : List Waiter → List Waiter → St
  | [], [] => { env := [(2, V.ptr 0 []), (4, V.ptr 1 []), (6, V.ptr 2 []), (7, V.d (D.sl true [])), (8, V.int IntKind.i64 i)] ++ ex,
                                hp := [(0, Blk.box (V.agg [V.int IntKind.u32 f.bits, V.asl f.wn (List.map Waiter.d f.wait)])), (1, Blk.box (V.d (D.agg [D.int IntKind.u32 0, D.sl true []]))), (2, Blk.box (V.d (D.agg [.int .u32 b, .sl true []])))], tl := fun _ => none, base := 0, next := 3 }
  | [], c :: t => { env := [(2, V.ptr 0 []), (4, V.ptr 1 []), (6, V.ptr 2 []), (7, .sl false 3 0 (t.length + 1)), (8, V.int IntKind.i64 i)] ++ ex,
                                hp := [(0, Blk.box (V.agg [V.int IntKind.u32 f.bits, V.asl f.wn (List.map Waiter.d f.wait)])), (1, Blk.box (V.d (D.agg [D.int IntKind.u32 0, D.sl true []]))), (2, Blk.box (V.d (D.agg [.int .u32 b, .sl true []]))), (3, .row true (c.d :: t.map Waiter.d))], tl := fun _ => none, base := 0, next := 4 }
  | a :: l, [] => { env := [(2, V.ptr 0 []), (4, V.ptr 1 []), (6, V.ptr 2 []), (7, V.d (D.sl true [])), (8, V.int IntKind.i64 i)] ++ ex,
                                hp := [(0, Blk.box (V.agg [V.int IntKind.u32 f.bits, V.asl f.wn (List.map Waiter.d f.wait)])), (1, Blk.box (V.d (D.agg [D.int IntKind.u32 0, D.sl true []]))), (2, Blk.box (V.agg [.int .u32 b, .sl false 3 0 (l.length + 1)])), (3, .row true (a.d :: l.map Waiter.d))], tl := fun _ => none, base := 0, next := 4 }
  | a :: l, c :: t => { env := [(2, V.ptr 0 []), (4, V.ptr 1 []), (6, V.ptr 2 []), (7, .sl false 4 0 (t.length + 1)), (8, V.int IntKind.i64 i)] ++ ex,
                                hp := [(0, Blk.box (V.agg [V.int IntKind.u32 f.bits, V.asl f.wn (List.map Waiter.d f.wait)])), (1, Blk.box (V.d (D.agg [D.int IntKind.u32 0, D.sl true []]))), (2, Blk.box (V.agg [.int .u32 b, .sl false 3 0 (l.length + 1)])), (3, .row true (a.d :: l.map Waiter.d)), (4, .row true (c.d :: t.map Waiter.d))], tl := fun _ => none, base := 0, next := 5 }
theorem ref11_Raise_loop (f : Flag) (hf : f.wait.length ≤ 1000) : ∀ (rest pre : List Waiter), f.wait = pre ++ rest → ∀ (i : Int), i = pre.length → ∀ (b : Int) (l t : List Waiter), l.length + rest.length ≤ 1000 → t.length + rest.length ≤ 1000 →
    run kp (.loop [2, 4, 6, 7, 8] k_ref11_Raise_L0 (refRaiseSt f [] i b l t)) =
    some (.out (.ext 0) (refRaiseSt f [(19, .bool false)] f.wait.length (refRaiseF rest b l t).1 (refRaiseF rest b l t).2.1 (refRaiseF rest b l t).2.2))
  | [], pre, h, i, hi, b, l, t, _, _ => by
    simp at h
    subst hi
    rw [run_round]
    cases l <;> cases t <;> simp [c_ref11_Raise_L0, k_ref11_Raise_L0b, refRaiseF, refRaiseSt, h]
  | w :: rest, pre, h, i, hi, b, l, t, hl, ht => by
    have hli : i < f.wait.length := by rw [h, hi]; simp; omega
    have h0 : 0 ≤ i := by omega
    have hget0 : f.wait[i.toNat]? = some w := by rw [h, hi]; simp
    have hget : ∀ hh : i.toNat < f.wait.length, f.wait[i.toNat] = w := fun hh => by rw [List.getElem?_eq_getElem hh] at hget0; injection hget0
    have hw : IntKind.i64.wrap (i + 1) = i + 1 := wrap_i64 (by omega) (by omega)
    simp only [List.length_cons] at hl ht
    by_cases hg : bits .and .u32 w.mask b = 0
    · have ih := ref11_Raise_loop f hf rest (pre ++ [w]) (by simp [h]) (i + 1) (by simp [hi]) b (l ++ [w]) t (by simp; omega) (by omega)
      simp only [refRaiseF, hg, if_true]
      rw [← ih, run_round]
      cases l with
      | nil => cases t <;> simp [c_ref11_Raise_L0, k_ref11_Raise_L0b, h0, hli, hget, hg, Waiter.d, hw, refRaiseSt]
      | cons a l =>
        simp only [List.length_cons] at hl
        have : l.length ≤ 1073741822 := by omega
        cases t <;> simp [c_ref11_Raise_L0, k_ref11_Raise_L0b, h0, hli, hget, hg, Waiter.d, hw, refRaiseSt, this]
    · have ih := ref11_Raise_loop f hf rest (pre ++ [w]) (by simp [h]) (i + 1) (by simp [hi]) (IntKind.u32.wrap (b - bits .and .u32 w.mask b)) l (t ++ [⟨w.client, bits .and .u32 w.mask b⟩]) (by omega) (by simp; omega)
      simp only [refRaiseF, hg, if_false]
      rw [← ih, run_round]
      cases t with
      | nil => cases l <;> simp [c_ref11_Raise_L0, k_ref11_Raise_L0b, h0, hli, hget, hg, Waiter.d, hw, refRaiseSt]
      | cons a t =>
        simp only [List.length_cons] at ht
        have : t.length ≤ 1073741822 := by omega
        cases l <;> simp [c_ref11_Raise_L0, k_ref11_Raise_L0b, h0, hli, hget, hg, Waiter.d, hw, refRaiseSt, this]
theorem ref11_Raise (f : Flag) (hf : f.wait.length ≤ 1000) (mask : Int) : run kp (.data f_ref11_Raise [f.d, .int .u32 mask]) =
    some (.ds [.agg [.int .u32 (refRaiseF f.wait (bits .or .u32 f.bits mask) [] []).1, rowD (refRaiseF f.wait (bits .or .u32 f.bits mask) [] []).2.1], rowD (refRaiseF f.wait (bits .or .u32 f.bits mask) [] []).2.2]) := by
  rw [run_data, run_call, kp_ref11_Raise]
  have hl := ref11_Raise_loop f hf f.wait [] rfl 0 rfl (bits .or .u32 f.bits mask) [] [] (by simpa using hf) (by simpa using hf)
  generalize refRaiseF f.wait (bits .or .u32 f.bits mask) [] [] = r at *
  obtain ⟨b, l, t⟩ := r
  simp only [refRaiseSt, List.append_nil] at hl
  cases l <;> cases t <;> simp [k_ref11_Raise, Flag.d, hl, refRaiseSt, rowD]
def clientsSt (f : Flag) (ex : List (Nat × V)) (i : Int) : List Waiter → St
  | [] => { env := [(1, V.ptr 0 []), (3, V.d (D.sl true [])), (4, V.int IntKind.i64 i)] ++ ex,
                                hp := [(0, Blk.box (V.agg [V.int IntKind.u32 f.bits, V.asl f.wn (List.map Waiter.d f.wait)]))], tl := fun _ => none, base := 0, next := 1 }
  | a :: l => { env := [(1, V.ptr 0 []), (3, .sl false 1 0 (l.length + 1)), (4, V.int IntKind.i64 i)] ++ ex,
                                hp := [(0, Blk.box (V.agg [V.int IntKind.u32 f.bits, V.asl f.wn (List.map Waiter.d f.wait)])), (1, .row true (.int .i64 a.client :: l.map fun w => .int .i64 w.client))], tl := fun _ => none, base := 0, next := 2 }
theorem ref11_Clients_loop (f : Flag) (hf : f.wait.length ≤ 1000) : ∀ (rest pre : List Waiter), f.wait = pre ++ rest → ∀ (i : Int), i = pre.length →
    run kp (.loop [1, 3, 4] k_ref11_Clients_L0 (clientsSt f [] i pre)) =
    some (.out (.ext 0) (clientsSt f [(9, .bool false)] f.wait.length f.wait))
  | [], pre, h, i, hi => by
    simp at h
    subst hi
    rw [run_round, h]
    cases pre <;> simp [c_ref11_Clients_L0, k_ref11_Clients_L0b, clientsSt, h]
  | w :: rest, pre, h, i, hi => by
    have hli : i < f.wait.length := by rw [h, hi]; simp; omega
    have h0 : 0 ≤ i := by omega
    have hget0 : f.wait[i.toNat]? = some w := by rw [h, hi]; simp
    have hget : ∀ hh : i.toNat < f.wait.length, f.wait[i.toNat] = w := fun hh => by rw [List.getElem?_eq_getElem hh] at hget0; injection hget0
    have hw : IntKind.i64.wrap (i + 1) = i + 1 := wrap_i64 (by omega) (by omega)
    have ih := ref11_Clients_loop f hf rest (pre ++ [w]) (by simp [h]) (i + 1) (by simp [hi])
    rw [← ih, run_round]
    have hp : pre.length ≤ 1000 := by omega
    cases pre with
    | nil => simp [c_ref11_Clients_L0, k_ref11_Clients_L0b, h0, hli, hget, Waiter.d, hw, clientsSt]
    | cons a l =>
      simp only [List.length_cons] at hp
      have : l.length ≤ 1073741822 := by omega
      simp [c_ref11_Clients_L0, k_ref11_Clients_L0b, h0, hli, hget, Waiter.d, hw, clientsSt, this]
theorem ref11_Clients (f : Flag) (hf : f.wait.length ≤ 1000) : run kp (.data f_ref11_Clients [f.d]) = some (.ds [whoD f.wait]) := by
  rw [run_data, run_call, kp_ref11_Clients]
  have hl := ref11_Clients_loop f hf f.wait [] rfl 0 rfl
  cases hw : f.wait with
  | nil =>
    rw [hw] at hl
    simp [clientsSt, hw] at hl
    simp [k_ref11_Clients, Flag.d, hw, hl, whoD]
  | cons a l =>
    rw [hw] at hl
    simp [clientsSt, hw] at hl
    simp [k_ref11_Clients, Flag.d, hw, hl, whoD]
end Go.Cd
