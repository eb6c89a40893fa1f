/- Timers by what comes behind: one more. No conditions. -/
import Derived.Test.YtmkkfmadiadkiaaR6QDelA
set_option linter.unusedVariables false
set_option linter.unusedSimpArgs false
namespace Go.Cd
open Go Go.Fw
/-- How many come ahead, and what is left then. -/
def walkT : List Tm → Int → Nat × Int
  | [], n => (0, n)
  | t :: r, n => if t.after ≤ n then ((walkT r (n - t.after)).1 + 1, (walkT r (n - t.after)).2) else (0, n)
/-- A row with one more. -/
def insT : List Tm → Int → Int → List Tm
  | [], n, k => [⟨n, k⟩]
  | t :: r, n, k => if t.after ≤ n then t :: insT r (n - t.after) k else ⟨n, k⟩ :: ⟨t.after - n, t.key⟩ :: r
def okT (l : List Tm) : Prop := ∀ t ∈ l, 0 ≤ t.after ∧ t.after ≤ 4611686018427387904
def addT (l : List Tm) (n k : Int) : List Tm × Bool := if n < 0 ∨ 4611686018427387904 < n ∨ 0 ≤ findT l k 0 ∨ 64 ≤ l.length then (l, false) else (insT l n k, true)
def delSt (L : List Tm) (n key : Int) (i : Int) (ex : List (Nat × V)) : St :=
  { env := [(0, .d (.sl false (L.map Tm.d))), (1, .int .i64 n), (2, .int .i64 key), (8, .sl false 0 0 L.length), (9, .int .i64 i)] ++ ex, hp := [(0, .row true (L.map Tm.d))], tl := fun _ => none, base := 0, next := 1 }
theorem walkT_le : ∀ (l : List Tm) (n : Int), (walkT l n).1 ≤ l.length
  | [], n => by simp [walkT]
  | t :: r, n => by
    simp only [walkT]
    split
    · have := walkT_le r (n - t.after); simp; omega
    · simp
theorem add_loop (L : List Tm) (hL : L.length ≤ 1000) (ho : okT L) (key : Int) : ∀ (rest pre : List Tm), L = pre ++ rest → ∀ (n : Int), 0 ≤ n → n ≤ 4611686018427387904 → ∀ (i : Int), i = pre.length →
    run kp (.loop [0, 1, 2, 8, 9] k_delta_Add_L0 (delSt L n key i [])) = some (.out (.ext 0) (delSt L (walkT rest n).2 key (i + (walkT rest n).1) [(42, .bool false)]))
  | [], pre, h, n, h0, h1, i, hi => by
    simp at h
    subst h hi
    rw [run_round]
    simp [c_delta_Add_L0, k_delta_Add_L0b, delSt, walkT]
  | t :: rest, pre, h, n, h0, h1, i, hi => by
    have hli : i < L.length := by rw [h, hi]; simp; omega
    have hi0 : 0 ≤ i := by omega
    have hget0 : L[i.toNat]? = some t := by rw [h, hi]; simp
    have hget : ∀ hh : i.toNat < L.length, L[i.toNat] = t := fun hh => by rw [List.getElem?_eq_getElem hh] at hget0; injection hget0
    have hw : IntKind.i64.wrap (i + 1) = i + 1 := wrap_i64 (by omega) (by omega)
    have ht := ho t (by rw [h]; simp)
    have hw2 : IntKind.i64.wrap (n - t.after) = n - t.after := wrap_i64 (by omega) (by omega)
    rw [run_round]
    by_cases hc : t.after ≤ n
    · have ih := add_loop L hL ho key rest (pre ++ [t]) (by simp [h]) (n - t.after) (by omega) (by omega) (i + 1) (by simp [hi])
      have e1 : (walkT (t :: rest) n).2 = (walkT rest (n - t.after)).2 := by simp [walkT, hc]
      have e2 : i + ((walkT (t :: rest) n).1 : Int) = i + 1 + ((walkT rest (n - t.after)).1 : Int) := by simp [walkT, hc]; omega
      rw [e1, e2, ← ih]
      simp [c_delta_Add_L0, k_delta_Add_L0b, delSt, hi0, hli, hget, hc, hw, hw2, Tm.d]
    · simp [c_delta_Add_L0, k_delta_Add_L0b, delSt, hi0, hli, hget, hc, hw, Tm.d, walkT]
/-- The row with what comes behind the new one so much sooner. -/
def cutT (l : List Tm) (n : Int) : List Tm := if h : (walkT l n).1 < l.length then l.set (walkT l n).1 ⟨l[(walkT l n).1].after - (walkT l n).2, l[(walkT l n).1].key⟩ else l
theorem insT_walk : ∀ (l : List Tm) (n k : Int), insT l n k = (cutT l n).take (walkT l n).1 ++ ⟨(walkT l n).2, k⟩ :: (cutT l n).drop (walkT l n).1
  | [], n, k => by simp [insT, walkT, cutT]
  | t :: r, n, k => by
    simp only [insT, walkT, cutT]
    by_cases h : t.after ≤ n
    · simp only [h, if_true, List.length_cons]
      rw [insT_walk r (n - t.after) k]
      simp only [cutT]
      by_cases h2 : (walkT r (n - t.after)).1 < r.length
      · rw [dif_pos h2, dif_pos (by omega)]
        simp
      · rw [dif_neg h2, dif_neg (by omega)]
        simp
    · simp [h]
theorem walkT_rest : ∀ (l : List Tm) (n : Int), okT l → 0 ≤ n → 0 ≤ (walkT l n).2 ∧ (walkT l n).2 ≤ n
  | [], n, _, h => by simp [walkT]; exact h
  | t :: r, n, ho, h => by
    have ht := ho t (by simp)
    simp only [walkT]
    split
    · have := walkT_rest r (n - t.after) (fun x hx => ho x (by simp [hx])) (by omega)
      simp only; omega
    · simp; exact h
theorem walkT_next : ∀ (l : List Tm) (n : Int) (h : (walkT l n).1 < l.length), (walkT l n).2 < l[(walkT l n).1].after
  | [], n, h => by simp at h
  | t :: r, n, h => by
    by_cases hc : t.after ≤ n
    · have e : walkT (t :: r) n = ((walkT r (n - t.after)).1 + 1, (walkT r (n - t.after)).2) := by simp [walkT, hc]
      simp only [e] at h ⊢
      exact walkT_next r (n - t.after) (by simpa using h)
    · have e : walkT (t :: r) n = (0, n) := by simp [walkT, hc]
      simp only [e]
      simp; omega
set_option maxHeartbeats 1000000 in
theorem delta_Add (nl : Bool) (L : List Tm) (hn : nl = true → L = []) (hL : L.length ≤ 1000) (ho : okT L) (n key : Int) : run kp (.datk f_delta_Add [.sl nl (L.map Tm.d), .int .i64 n, .int .i64 key]) =
    some (.ds [.sl (nl && !(addT L n key).2) ((addT L n key).1.map Tm.d), .bool (addT L n key).2]) := by
  rw [run_datk, run_call, kp_delta_Add]
  have cl := clone_Tm nl L hn hL
  have fd := delta_find nl L hL key
  cases nl with
  | true =>
    obtain rfl := hn rfl
    simp only [List.map_nil] at cl fd
    by_cases h1 : n < 0
    · simp [k_delta_Add, cl, fd, addT, h1]
    · by_cases h2 : 4611686018427387904 < n
      · simp [k_delta_Add, cl, fd, addT, h1, h2]
      · have e : findT [] key 0 = -1 := rfl
        rw [e] at fd
        simp [k_delta_Add, cl, fd, addT, h1, h2, e]
        rw [run_round]
        simp [c_delta_Add_L0, k_delta_Add_L0b]
        rw [run_call, kp_slices_Insert_delta_Timer_delta_Timer]
        simp [k_slices_Insert_delta_Timer_delta_Timer, bodyK_nat, natV, insV, insT, Tm.d]
  | false =>
    by_cases h1 : n < 0
    · simp [k_delta_Add, cl, fd, addT, h1]
    · by_cases h2 : 4611686018427387904 < n
      · simp [k_delta_Add, cl, fd, addT, h1, h2]
      · by_cases h3 : 0 ≤ findT L key 0
        · simp [k_delta_Add, cl, fd, addT, h1, h2, h3]
        · by_cases h4 : 64 ≤ L.length
          · have h4i : (64 : Int) ≤ L.length := by omega
            simp [k_delta_Add, cl, fd, addT, h1, h2, h3, h4, h4i]
          · have h4i : ¬ (64 : Int) ≤ L.length := by omega
            have lp := add_loop L hL ho key L [] rfl n (by omega) (by omega) 0 rfl
            have wl := walkT_le L n
            have wr := walkT_rest L n ho (by omega)
            have wn := walkT_next L n
            have iw := insT_walk L n key
            simp only [delSt, List.append_nil] at lp
            generalize hw : walkT L n = W at *
            obtain ⟨at_, rn⟩ := W
            simp only at wl wr wn iw
            by_cases h5 : at_ < L.length
            · have wn := wn h5
              have ho5 := ho L[at_] (List.getElem_mem h5)
              have w1 : IntKind.i64.wrap (L[at_].after - rn) = L[at_].after - rn := wrap_i64 (by omega) (by omega)
              have ec : cutT L n = L.set at_ ⟨L[at_].after - rn, L[at_].key⟩ := by simp [cutT, hw, h5]
              have wl2 : L.length ≤ 1073741823 := by omega
              simp [k_delta_Add, cl, fd, addT, h1, h2, h3, h4, h4i, lp, h5, w1, Tm.d]
              rw [run_call, kp_slices_Insert_delta_Timer_delta_Timer]
              simp [k_slices_Insert_delta_Timer_delta_Timer, bodyK_nat, natV, insV, wl, wl2, insAt, iw, ec, Tm.d, show L.length + 1 ≤ at_ + (L.length - at_ + 1) by omega]
              rw [List.take_of_length_le (by simp; omega)]
            · have ec : cutT L n = L := by simp [cutT, hw, h5]
              have wl2 : L.length ≤ 1073741823 := by omega
              simp [k_delta_Add, cl, fd, addT, h1, h2, h3, h4, h4i, lp, h5]
              rw [run_call, kp_slices_Insert_delta_Timer_delta_Timer]
              simp [k_slices_Insert_delta_Timer_delta_Timer, bodyK_nat, natV, insV, wl, wl2, insAt, iw, ec, Tm.d, show L.length + 1 ≤ at_ + (L.length - at_ + 1) by omega]
              rw [List.take_of_length_le (by simp; omega)]
end Go.Cd
