/- Both kinds of timers are found alike. No conditions. -/
import Derived.Test.YtmkkfmadiadkiaaR6QDelG
set_option linter.unusedVariables false
set_option linter.unusedSimpArgs false
namespace Go.Cd
open Go Go.Fw
theorem law4_begun : run kp (.data f_law4_begun []) = some (.ds [.bool true]) := run_of (n := 3000) (by kernel_rfl)
def sameSt (na nb : Bool) (a : List Tm) (at_ i : Int) (ex : List (Nat × V)) : St :=
  { env := [(0, .d (.sl na (a.map Tm.d))), (1, .d (.sl nb ((toDu 0 a).map Du.d))), (5, .int .i64 at_), (6, .int .i64 i)] ++ ex, hp := [], tl := fun _ => none, base := 0, next := 0 }
theorem sumTo_at : ∀ (pre : List Tm) (t : Tm) (rest : List Tm), (∀ x ∈ pre, x.key ≠ t.key) → sumTo (pre ++ t :: rest) t.key = sumA pre + t.after
  | [], t, rest, _ => by simp [sumTo, sumA]
  | p :: pre, t, rest, h => by
    have h1 := h p (by simp)
    have := sumTo_at pre t rest (fun x hx => h x (by simp [hx]))
    simp only [List.cons_append, sumTo, h1, if_false, this, sumA, List.map_cons, List.sum_cons]
    omega
theorem same_loop (na nb : Bool) (a : List Tm) (hn : na = true → a = []) (inv : InvT a) : ∀ (rest pre : List Tm), a = pre ++ rest → ∀ (i : Int), i = pre.length →
    run kp (.loop [0, 1, 5, 6] k_law4_same_L0 (sameSt na nb a (sumA pre) i [])) = some (.out (.ext 0) (sameSt na nb a (sumA a) a.length [(17, .bool false)]))
  | [], pre, h, i, hi => by
    simp at h
    subst h hi
    rw [run_round]
    simp [c_law4_same_L0, k_law4_same_L0b, sameSt, toDu_length]
  | t :: rest, pre, h, i, hi => by
    have hli : i < a.length := by rw [h, hi]; simp; omega
    have hi0 : 0 ≤ i := by omega
    have hget0 : a[i.toNat]? = some t := by rw [h, hi]; simp
    have hget : ∀ hh : i.toNat < a.length, a[i.toNat] = t := fun hh => by rw [List.getElem?_eq_getElem hh] at hget0; injection hget0
    have hgD0 : (toDu 0 a)[i.toNat]? = some ⟨sumA pre + t.after, t.key⟩ := by
      rw [h, toDu_append, hi]
      simp [toDu_length, toDu]
    have hgD : ∀ hh : i.toNat < (toDu 0 a).length, (toDu 0 a)[i.toNat] = ⟨sumA pre + t.after, t.key⟩ := fun hh => by rw [List.getElem?_eq_getElem hh] at hgD0; injection hgD0
    have hw : IntKind.i64.wrap (i + 1) = i + 1 := wrap_i64 (by omega) (by have := inv.len; omega)
    have ht := inv.ok t (by rw [h]; simp)
    have hp := sumA_nonneg pre (fun x hx => inv.ok x (by rw [h]; simp [hx]))
    have hr := sumA_nonneg rest (fun x hx => inv.ok x (by rw [h]; simp [hx]))
    have hsum : sumA a = sumA pre + (t.after + sumA rest) := by rw [h]; simp [sumA]
    have hs := inv.sum
    have hw2 : IntKind.i64.wrap (sumA pre + t.after) = sumA pre + t.after := wrap_i64 (by omega) (by omega)
    have hk : ∀ x ∈ pre, x.key ≠ t.key := by
      have := inv.nd
      rw [h, List.map_append, List.map_cons, List.nodup_append] at this
      intro x hx e
      exact this.2.2 x.key (List.mem_map.2 ⟨x, hx, rfl⟩) t.key (by simp) e
    have hl := delta_Left na a hn (by have := inv.len; omega) inv.ok hs t.key
    have hf : ¬ findT a t.key 0 < 0 := fun hh => (findT_neg a t.key 0 (by omega)).1 hh t (by rw [h]; simp) rfl
    have hst : sumTo a t.key = sumA pre + t.after := by rw [h]; exact sumTo_at pre t rest hk
    simp only [leftT, hf, if_false, hst] at hl
    have ih := same_loop na nb a hn inv rest (pre ++ [t]) (by simp [h]) (i + 1) (by simp [hi])
    have e : sumA (pre ++ [t]) = sumA pre + t.after := by simp [sumA]
    rw [e] at ih
    have hli2 : i < (toDu 0 a).length := by rw [toDu_length]; exact hli
    have hge : ¬ t.after < 0 := by omega
    rw [← ih, run_round]
    simp [c_law4_same_L0, k_law4_same_L0b, sameSt, hi0, hli, hli2, hget, hgD, hw, hw2, Tm.d, Du.d, hl, hge]
theorem law4_same (na nb : Bool) (a : List Tm) (hn : na = true → a = []) (inv : InvT a) : run kp (.datk f_law4_same [.sl na (a.map Tm.d), .sl nb ((toDu 0 a).map Du.d)]) = some (.ds [.bool true]) := by
  rw [run_datk, run_call, kp_law4_same]
  have lp := same_loop na nb a hn inv a [] rfl 0 rfl
  simp [sameSt, sumA] at lp
  simp [k_law4_same, toDu_length, lp]
theorem rowX_sl (l : List D) : rowX l = .sl l.isEmpty l := by cases l <;> rfl
theorem dueD_sl (l : List Int) : dueD l = .sl l.isEmpty (l.map (.int .i64)) := by cases l <;> rfl
end Go.Cd
