/- Timers by what comes behind: in how many ticks one comes; without one. No conditions. -/
import Derived.Test.YtmkkfmadiadkiaaR6QDelC
import Derived.Test.YtmkkfmadiadkiaaR6QSatA
set_option linter.unusedVariables false
set_option linter.unusedSimpArgs false
namespace Go.Cd
open Go Go.Fw
/-- In how many ticks a key comes. -/
def sumTo : List Tm → Int → Int
  | [], _ => 0
  | t :: r, k => if t.key = k then t.after else t.after + sumTo r k
def leftT (l : List Tm) (k : Int) : Int × Bool := if findT l k 0 < 0 then (0, false) else (sumTo l k, true)
def sumA (l : List Tm) : Int := (l.map Tm.after).sum
theorem sumA_nonneg : ∀ (l : List Tm), okT l → 0 ≤ sumA l
  | [], _ => by simp [sumA]
  | t :: r, h => by
    have := sumA_nonneg r (fun x hx => h x (by simp [hx]))
    have ht := h t (by simp)
    simp only [sumA, List.map_cons, List.sum_cons] at *
    omega
theorem findT_some : ∀ (l : List Tm) (k i : Int), 0 ≤ i → (findT l k i = -1 ∧ ∀ t ∈ l, t.key ≠ k) ∨ ∃ (j : Nat) (h : j < l.length), findT l k i = i + j ∧ l[j].key = k ∧ sumA (l.take (j + 1)) = sumTo l k
  | [], k, i, _ => .inl ⟨rfl, by simp⟩
  | t :: r, k, i, hi => by
    simp only [findT, sumTo]
    by_cases h : t.key = k
    · exact .inr ⟨0, by simp, by simp [h], by simp [h], by simp [h, sumA]⟩
    · simp only [h, if_false]
      rcases findT_some r k (i + 1) (by omega) with ⟨h1, h2⟩ | ⟨j, hj, h1, h2, h3⟩
      · exact .inl ⟨h1, by simpa [h] using h2⟩
      · refine .inr ⟨j + 1, by simp; omega, by rw [h1]; omega, by simpa using h2, ?_⟩
        simp only [sumA] at h3 ⊢
        simp [← h3]
def leftSt (nl : Bool) (M : List Tm) (acc i : Int) (ex : List (Nat × V)) : St :=
  { env := [(4, .int .i64 acc), (17, .d (.sl nl (M.map Tm.d))), (18, .int .i64 M.length), (19, .int .i64 i)] ++ ex, hp := [], tl := fun _ => none, base := 0, next := 0 }
theorem left_loop (nl : Bool) (M : List Tm) (hM : M.length ≤ 1000) (ho : okT M) : ∀ (rest pre : List Tm), M = pre ++ rest → ∀ (acc : Int), 0 ≤ acc → acc + sumA rest ≤ 4611686018427387904 → ∀ (i : Int), i = pre.length → 
    run kp (.loop [4, 17, 18, 19] k_delta_Left_L0 (leftSt nl M acc i [])) = some (.out (.ext 0) (leftSt nl M (acc + sumA rest) M.length [(20, .bool false)]))
  | [], pre, h, acc, h0, h1, i, hi => by
    simp at h
    subst h hi
    rw [run_round]
    simp [c_delta_Left_L0, k_delta_Left_L0b, leftSt, sumA]
  | t :: rest, pre, h, acc, h0, h1, i, hi => by
    have hli : i < M.length := by rw [h, hi]; simp; omega
    have hi0 : 0 ≤ i := by omega
    have hget0 : M[i.toNat]? = some t := by rw [h, hi]; simp
    have hget : ∀ hh : i.toNat < M.length, M[i.toNat] = t := fun hh => by rw [List.getElem?_eq_getElem hh] at hget0; injection hget0
    have hw : IntKind.i64.wrap (i + 1) = i + 1 := wrap_i64 (by omega) (by omega)
    have ht := ho t (by rw [h]; simp)
    have hr := sumA_nonneg rest (fun x hx => ho x (by rw [h]; simp [hx]))
    have hs : sumA (t :: rest) = t.after + sumA rest := by simp [sumA]
    rw [hs] at h1 ⊢
    have ih := left_loop nl M hM ho rest (pre ++ [t]) (by simp [h]) (acc + t.after) (by omega) (by omega) (i + 1) (by simp [hi])
    rw [← Int.add_assoc, ← ih, run_round]
    have sa := sat_Add acc t.after ⟨by omega, by omega⟩ ⟨by omega, by omega⟩
    have e1 : satV (acc + t.after) = acc + t.after := by
      simp only [satV]; rw [if_neg (by omega), if_neg (by omega)]
    rw [e1] at sa
    simp [c_delta_Left_L0, k_delta_Left_L0b, leftSt, hi0, hli, hget, hw, Tm.d, sa]
theorem delta_Left (nl : Bool) (L : List Tm) (hn : nl = true → L = []) (hL : L.length ≤ 1000) (ho : okT L) (hs : sumA L ≤ 4611686018427387904) (k : Int) : run kp (.datk f_delta_Left [.sl nl (L.map Tm.d), .int .i64 k]) =
    some (.ds [.int .i64 (leftT L k).1, .bool (leftT L k).2]) := by
  rw [run_datk, run_call, kp_delta_Left]
  have fd := delta_find nl L hL k
  rcases findT_some L k 0 (by omega) with ⟨h1, _⟩ | ⟨j, hj, h1, h2, h3⟩
  · rw [h1] at fd
    simp [k_delta_Left, fd, leftT, h1]
  · rw [h1] at fd
    have hle : sumA (L.take (j + 1)) ≤ sumA L := by
      have e : sumA L = sumA (L.take (j + 1)) + sumA (L.drop (j + 1)) := by
        simp only [sumA, ← List.sum_append, ← List.map_append, List.take_append_drop]
      have := sumA_nonneg (L.drop (j + 1)) (fun x hx => ho x (List.mem_of_mem_drop hx))
      omega
    have lp := left_loop nl (L.take (j + 1)) (by simp; omega) (fun x hx => ho x (List.mem_of_mem_take hx)) (L.take (j + 1)) [] rfl 0 (by omega) (by omega) 0 rfl
    have hw : IntKind.i64.wrap ((j : Int) + 1) = (j : Int) + 1 := wrap_i64 (by omega) (by omega)
    have hj0 : (0 : Int) ≤ (j : Int) + 1 := by omega
    have hj1 : (j : Int) + 1 ≤ (L.length : Int) := by omega
    have hj2 : ¬ (j : Int) < 0 := by omega
    have hj3 : ((j : Int) + 1).toNat = j + 1 := by omega
    have hlt : ¬ (findT L k 0 < 0) := by rw [h1]; omega
    have hmin : min (j + 1) L.length = j + 1 := by omega
    simp [leftSt, h3, List.map_take, hmin] at lp
    simp [k_delta_Left, fd, leftT, hlt, hw, hj0, hj1, hj2, hj3, hmin, lp]
end Go.Cd
