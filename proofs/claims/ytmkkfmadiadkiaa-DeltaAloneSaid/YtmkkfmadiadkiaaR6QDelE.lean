/- Timers by what comes behind: a row without one. No conditions. -/
import Derived.Test.YtmkkfmadiadkiaaR6QDelD
set_option linter.unusedVariables false
set_option linter.unusedSimpArgs false
namespace Go.Cd
open Go Go.Fw
def drT : List Tm → Int → List Tm
  | [], _ => []
  | t :: r, k => if t.key = k then (match r with | [] => [] | u :: r' => ⟨u.after + t.after, u.key⟩ :: r') else t :: drT r k
def dropT (l : List Tm) (k : Int) : List Tm × Bool := if findT l k 0 < 0 then (l, false) else (drT l k, true)
theorem findT_drop : ∀ (l : List Tm) (k i : Int), 0 ≤ i → findT l k i = -1 ∨ ∃ (j : Nat) (h : j < l.length), findT l k i = i + j ∧ drT l k = (if h2 : j + 1 < l.length then l.set (j + 1) ⟨l[j + 1].after + l[j].after, l[j + 1].key⟩ else l).take j ++ (if h2 : j + 1 < l.length then l.set (j + 1) ⟨l[j + 1].after + l[j].after, l[j + 1].key⟩ else l).drop (j + 1)
  | [], k, i, _ => .inl rfl
  | t :: r, k, i, hi => by
    simp only [findT, drT]
    by_cases h : t.key = k
    · refine .inr ⟨0, by simp, by simp [h], ?_⟩
      cases r with
      | nil => simp [h]
      | cons u r => simp [h]
    · simp only [h, if_false]
      rcases findT_drop r k (i + 1) (by omega) with h1 | ⟨j, hj, h1, h2⟩
      · exact .inl h1
      · refine .inr ⟨j + 1, by simp; omega, by rw [h1]; omega, ?_⟩
        rw [h2]
        by_cases h3 : j + 1 < r.length
        · simp [h3]
        · simp [h3]
set_option maxHeartbeats 1000000 in
theorem delta_Drop (nl : Bool) (L : List Tm) (hn : nl = true → L = []) (hL : L.length ≤ 1000) (ho : okT L) (hs : sumA L ≤ 4611686018427387904) (k : Int) : run kp (.datk f_delta_Drop [.sl nl (L.map Tm.d), .int .i64 k]) =
    some (.ds [.sl nl ((dropT L k).1.map Tm.d), .bool (dropT L k).2]) := by
  rw [run_datk, run_call, kp_delta_Drop]
  have cl := clone_Tm nl L hn hL
  have fd := delta_find nl L hL k
  rcases findT_drop L k 0 (by omega) with h1 | ⟨j, hj, h1, h2⟩
  · rw [h1] at fd
    cases nl with
    | true =>
      obtain rfl := hn rfl
      simp only [List.map_nil] at cl fd
      simp [k_delta_Drop, cl, fd, dropT, h1]
    | false => simp [k_delta_Drop, cl, fd, dropT, h1]
  · rw [h1] at fd
    have hne : nl = false := by
      cases nl with
      | true => rw [hn rfl] at hj; simp at hj
      | false => rfl
    subst hne
    have hlt : ¬ (findT L k 0 < 0) := by rw [h1]; omega
    have hj2 : ¬ (j : Int) < 0 := by omega
    have hw : IntKind.i64.wrap ((j : Int) + 1) = (j : Int) + 1 := wrap_i64 (by omega) (by omega)
    have hj0 : (0 : Int) ≤ (j : Int) + 1 := by omega
    have hj3 : ((j : Int) + 1).toNat = j + 1 := by omega
    have hj1 : (j : Int) + 1 ≤ (L.length : Int) := by omega
    have hj4 : (j : Int) ≤ (j : Int) + 1 := by omega
    have hl1 : j + (L.length - (j + 1)) ≤ j + (L.length - (j + 1)) := Nat.le_refl _
    have hmin : min j L.length = j := by omega
    by_cases h3 : j + 1 < L.length
    · have h3i : (j : Int) + 1 < (L.length : Int) := by omega
      have o1 := ho L[j] (List.getElem_mem hj)
      have o2 := ho L[j + 1] (List.getElem_mem h3)
      have sa := sat_Add L[j + 1].after L[j].after ⟨by omega, by omega⟩ ⟨by omega, by omega⟩
      have e1 : satV (L[j + 1].after + L[j].after) = L[j + 1].after + L[j].after := by
        simp only [satV]; rw [if_neg (by omega)]
        have hsum : L[j].after + L[j + 1].after ≤ sumA L := by
          have e : L = L.take j ++ (L[j] :: L[j + 1] :: L.drop (j + 2)) := by
            conv => lhs; rw [← List.take_append_drop j L]
            rw [List.drop_eq_getElem_cons hj, List.drop_eq_getElem_cons h3]
          have n1 := sumA_nonneg (L.take j) (fun x hx => ho x (List.mem_of_mem_take hx))
          have n2 := sumA_nonneg (L.drop (j + 2)) (fun x hx => ho x (List.mem_of_mem_drop hx))
          have : sumA L = sumA (L.take j) + (L[j].after + (L[j + 1].after + sumA (L.drop (j + 2)))) := by
            have h := congrArg sumA e
            simp only [sumA, List.map_append, List.map_cons, List.sum_append, List.sum_cons] at h ⊢
            exact h
          omega
        rw [if_neg (by omega)]
      rw [e1] at sa
      rw [dif_pos h3] at h2
      simp [k_delta_Drop, cl, fd, dropT, hlt, hj2, hw, h3i, hj0, hj3, h3, hj, Tm.d, sa]
      rw [run_call, kp_slices_Delete_delta_Timer_delta_Timer]
      simp [k_slices_Delete_delta_Timer_delta_Timer, bodyK_nat, natV, delV, hj1, hj3, hj4, hmin, h2, Tm.d]
      exact List.take_of_length_le (by simp; omega)
    · have h3i : ¬ (j : Int) + 1 < (L.length : Int) := by omega
      rw [dif_neg h3] at h2
      simp [k_delta_Drop, cl, fd, dropT, hlt, hj2, hw, h3i, hj0, hj3, h3, hj, Tm.d]
      rw [run_call, kp_slices_Delete_delta_Timer_delta_Timer]
      simp [k_slices_Delete_delta_Timer_delta_Timer, bodyK_nat, natV, delV, hj1, hj3, hj4, hmin, h2, Tm.d]
      exact List.take_of_length_le (by simp; omega)
end Go.Cd
