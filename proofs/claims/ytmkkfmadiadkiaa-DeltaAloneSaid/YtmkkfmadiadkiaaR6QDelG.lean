/- Both kinds of timers come at the same ticks. No conditions. -/
import Derived.Test.YtmkkfmadiadkiaaR6QDelF
set_option linter.unusedVariables false
set_option linter.unusedSimpArgs false
namespace Go.Cd
open Go Go.Fw
def toDu : Int → List Tm → List Du
  | _, [] => []
  | b, t :: r => ⟨b + t.after, t.key⟩ :: toDu (b + t.after) r
structure InvT (a : List Tm) : Prop where
  ok : okT a
  sum : sumA a ≤ 4611686018427387904
  nd : (a.map Tm.key).Nodup
  len : a.length ≤ 64
theorem toDu_length : ∀ (a : List Tm) (b : Int), (toDu b a).length = a.length
  | [], _ => rfl
  | t :: r, b => by simp [toDu, toDu_length r]
theorem toDu_append : ∀ (x y : List Tm) (b : Int), toDu b (x ++ y) = toDu b x ++ toDu (b + sumA x) y
  | [], y, b => by simp [toDu, sumA]
  | t :: r, y, b => by
    simp only [List.cons_append, toDu, toDu_append r y, sumA, List.map_cons, List.sum_cons]
    rw [Int.add_assoc]
theorem findT_neg : ∀ (l : List Tm) (k i : Int), 0 ≤ i → (findT l k i < 0 ↔ ∀ t ∈ l, t.key ≠ k)
  | [], k, i, hi => by simp [findT]
  | t :: r, k, i, hi => by
    simp only [findT]
    by_cases h : t.key = k
    · simp [h]; omega
    · have := findT_neg r k (i + 1) (by omega)
      simp [h, this]
theorem hasD_toDu : ∀ (a : List Tm) (b k : Int), hasD (toDu b a) k = a.any fun t => decide (t.key = k)
  | [], b, k => rfl
  | t :: r, b, k => by
    have := hasD_toDu r (b + t.after) k
    simp only [hasD] at this
    simp only [hasD, toDu, List.any_cons, this]
theorem hasD_find (a : List Tm) (b k : Int) : hasD (toDu b a) k = true ↔ 0 ≤ findT a k 0 := by
  rw [hasD_toDu, List.any_eq_true]
  have := findT_neg a k 0 (by omega)
  constructor
  · rintro ⟨t, h1, h2⟩
    by_cases h : findT a k 0 < 0
    · exact absurd (by simpa using h2) (this.1 h t h1)
    · omega
  · intro h
    by_cases hh : ∀ t ∈ a, t.key ≠ k
    · have := this.2 hh; omega
    · simp only [Classical.not_forall, Decidable.not_not] at hh
      obtain ⟨t, h1, h2⟩ := hh
      exact ⟨t, h1, by simpa using h2⟩
theorem insD_toDu : ∀ (a : List Tm) (b n k : Int), insD (toDu b a) n k = toDu b (insT a (n - b) k)
  | [], b, n, k => by simp only [toDu, insD, insT]; congr 2; omega
  | t :: r, b, n, k => by
    simp only [toDu, insD, insT]
    by_cases h : b + t.after ≤ n
    · rw [if_pos h, if_pos (by omega), insD_toDu r]
      simp only [toDu]
      rw [show n - (b + t.after) = n - b - t.after by omega]
    · rw [if_neg h, if_neg (by omega)]
      simp only [toDu]
      congr 2
      · omega
      · congr 1; omega
      · congr 1; omega
theorem drD_none : ∀ (a : List Tm) (b k : Int), (∀ t ∈ a, t.key ≠ k) → drD (toDu b a) k = toDu b a
  | [], b, k, _ => rfl
  | t :: r, b, k, h => by
    have h1 := h t (by simp)
    have := drD_none r (b + t.after) k (fun x hx => h x (by simp [hx]))
    simp only [drD] at this
    simp [drD, toDu, h1, this]
theorem drD_toDu : ∀ (a : List Tm) (b k : Int), (a.map Tm.key).Nodup → (∃ t ∈ a, t.key = k) → drD (toDu b a) k = toDu b (drT a k)
  | [], b, k, _, h => by simp at h
  | t :: r, b, k, hn, h => by
    simp only [List.map_cons, List.nodup_cons] at hn
    by_cases h1 : t.key = k
    · have h2 : ∀ x ∈ r, x.key ≠ k := fun x hx e => hn.1 (List.mem_map.2 ⟨x, hx, by rw [e, h1]⟩)
      have h3 := drD_none r (b + t.after) k h2
      simp only [drD] at h3
      simp only [drD, toDu, drT, h1, if_true]
      simp only [List.filter_cons, decide_true, Bool.not_true, Bool.false_eq_true, if_false, h3]
      cases r with
      | nil => rfl
      | cons u r =>
        simp only [toDu]
        rw [show b + t.after + u.after = b + (u.after + t.after) by omega]
    · have h2 : ∃ x ∈ r, x.key = k := by
        obtain ⟨x, hx, e⟩ := h
        rcases List.mem_cons.1 hx with hx | hx
        · subst hx; exact absurd e h1
        · exact ⟨x, hx, e⟩
      have := drD_toDu r (b + t.after) k hn.2 h2
      simp only [drD] at this
      simp [drD, toDu, drT, h1, this]
theorem tk_far : ∀ (a : List Tm) (b : Int), okT a → 2 ≤ b → tkK (toDu b a) = [] ∧ tkD (toDu b a) = toDu (b - 1) a
  | [], b, _, _ => ⟨rfl, rfl⟩
  | t :: r, b, ho, hb => by
    have ht := ho t (by simp)
    obtain ⟨h1, h2⟩ := tk_far r (b + t.after) (fun x hx => ho x (by simp [hx])) (by omega)
    simp only [tkK, tkD] at h1 h2
    have h3 : ¬ (b + t.after ≤ 1) := by omega
    simp only [tkK, tkD, toDu, List.filter_cons, h3, decide_false, Bool.false_eq_true, if_false, Bool.not_false, if_true, List.map_cons, h1, h2]
    refine ⟨trivial, ?_⟩
    rw [show b + t.after - 1 = b - 1 + t.after by omega]
theorem tk_one : ∀ (a : List Tm), okT a → tkK (toDu 1 a) = (a.takeWhile zT).map Tm.key ∧ tkD (toDu 1 a) = toDu 0 (a.dropWhile zT)
  | [], _ => ⟨rfl, rfl⟩
  | t :: r, ho => by
    have ht := ho t (by simp)
    have hr : okT r := fun x hx => ho x (by simp [hx])
    by_cases h : t.after = 0
    · obtain ⟨h1, h2⟩ := tk_one r hr
      simp only [tkK, tkD] at h1 h2
      simp [tkK, tkD, toDu, h, zT, h1, h2]
    · have h3 := tk_far (t :: r) 2 ho (by omega)
      have e : toDu 1 (t :: r) = ⟨1 + t.after, t.key⟩ :: toDu (1 + t.after) r := rfl
      obtain ⟨h1, h2⟩ := tk_far r (1 + t.after) hr (by omega)
      simp only [tkK, tkD] at h1 h2
      have h4 : ¬ (1 + t.after ≤ 1) := by omega
      simp only [e, tkK, tkD, List.filter_cons, h4, decide_false, Bool.false_eq_true, if_false, Bool.not_false, if_true, List.map_cons, h1, h2]
      simp only [List.takeWhile_cons, List.dropWhile_cons, zT, h, decide_false, Bool.false_eq_true, if_false, List.map_nil, toDu]
      refine ⟨trivial, ?_⟩
      rw [show 1 + t.after - 1 = 0 + t.after by omega]
theorem tk_nought : ∀ (a : List Tm), okT a → tkK (toDu 0 a) = ((decT a).takeWhile zT).map Tm.key ∧ tkD (toDu 0 a) = toDu 0 ((decT a).dropWhile zT)
  | [], _ => ⟨rfl, rfl⟩
  | t :: r, ho => by
    have ht := ho t (by simp)
    have hr : okT r := fun x hx => ho x (by simp [hx])
    by_cases h : t.after = 0
    · obtain ⟨h1, h2⟩ := tk_nought r hr
      simp only [tkK, tkD] at h1 h2
      simp [tkK, tkD, toDu, h, zT, decT, h1, h2]
    · by_cases h5 : t.after = 1
      · obtain ⟨h1, h2⟩ := tk_one r hr
        simp only [tkK, tkD] at h1 h2
        simp [tkK, tkD, toDu, h5, zT, decT, h1, h2]
      · obtain ⟨h1, h2⟩ := tk_far r (0 + t.after) hr (by omega)
        simp only [tkK, tkD] at h1 h2
        have h4 : ¬ (0 + t.after ≤ 1) := by omega
        have h6 : ¬ (t.after - 1 = 0) := by omega
        simp only [tkK, tkD, toDu, decT, h, if_false, List.filter_cons, h4, decide_false, Bool.false_eq_true, if_false, Bool.not_false, if_true, List.map_cons, h1, h2]
        simp only [List.takeWhile_cons, List.dropWhile_cons, zT, h6, decide_false, Bool.false_eq_true, if_false, List.map_nil, toDu]
        refine ⟨trivial, ?_⟩
        rw [show 0 + t.after - 1 = 0 + (t.after - 1) by omega]
/-! ### What stays so -/
theorem insT_keys : ∀ (a : List Tm) (n k : Int), ((insT a n k).map Tm.key).Perm (k :: a.map Tm.key)
  | [], n, k => by simp [insT]
  | t :: r, n, k => by
    simp only [insT]
    split
    · have := insT_keys r (n - t.after) k
      simp only [List.map_cons]
      exact (this.cons _).trans (List.Perm.swap _ _ _)
    · simp
theorem insT_ok : ∀ (a : List Tm) (n k : Int), okT a → 0 ≤ n → n ≤ 4611686018427387904 → okT (insT a n k)
  | [], n, k, _, h0, h1 => by intro t ht; simp [insT] at ht; subst ht; exact ⟨h0, h1⟩
  | t :: r, n, k, ho, h0, h1 => by
    have ht := ho t (by simp)
    simp only [insT]
    split
    · have := insT_ok r (n - t.after) k (fun x hx => ho x (by simp [hx])) (by omega) (by omega)
      intro x hx
      rcases List.mem_cons.1 hx with hx | hx
      · subst hx; exact ht
      · exact this x hx
    · intro x hx
      rcases List.mem_cons.1 hx with hx | hx
      · subst hx; exact ⟨h0, h1⟩
      · rcases List.mem_cons.1 hx with hx | hx
        · subst hx; simp only; omega
        · exact ho x (by simp [hx])
theorem insT_sum : ∀ (a : List Tm) (n k : Int), okT a → 0 ≤ n → sumA (insT a n k) = sumA a ∨ sumA (insT a n k) = n
  | [], n, k, _, _ => by right; simp [insT, sumA]
  | t :: r, n, k, ho, h0 => by
    simp only [insT]
    split
    · rcases insT_sum r (n - t.after) k (fun x hx => ho x (by simp [hx])) (by omega) with h | h <;> simp only [sumA, List.map_cons, List.sum_cons] at h ⊢
      · left; omega
      · right; omega
    · left; simp only [sumA, List.map_cons, List.sum_cons]; omega
theorem insT_len (a : List Tm) (n k : Int) : (insT a n k).length = a.length + 1 := by
  have := (insT_keys a n k).length_eq
  simpa using this
theorem InvT.add {a : List Tm} (h : InvT a) (n k : Int) : InvT (addT a n k).1 := by
  unfold addT
  split
  · exact h
  · rename_i hc
    simp only [not_or] at hc
    obtain ⟨h1, h2, h3, h4⟩ := hc
    refine ⟨insT_ok a n k h.ok (by omega) (by omega), ?_, ?_, by rw [insT_len]; omega⟩
    · rcases insT_sum a n k h.ok (by omega) with e | e
      · rw [e]; exact h.sum
      · rw [e]; omega
    · refine (insT_keys a n k).nodup_iff.2 (List.nodup_cons.2 ⟨fun hm => ?_, h.nd⟩)
      obtain ⟨t, ht, e⟩ := List.mem_map.1 hm
      exact (findT_neg a k 0 (by omega)).1 (by omega) t ht e
theorem drT_keys : ∀ (a : List Tm) (k : Int), ((drT a k).map Tm.key).Sublist (a.map Tm.key)
  | [], k => by simp [drT]
  | t :: r, k => by
    simp only [drT]
    split
    · cases r with
      | nil => simp
      | cons u r => simp only [List.map_cons]; exact List.Sublist.cons _ (List.Sublist.refl _)
    · simp only [List.map_cons]
      exact (drT_keys r k).cons_cons _
theorem drT_ok : ∀ (a : List Tm) (k : Int), okT a → sumA a ≤ 4611686018427387904 → okT (drT a k) ∧ sumA (drT a k) ≤ sumA a
  | [], k, _, _ => ⟨fun t ht => by simp [drT] at ht, by simp [drT]⟩
  | t :: r, k, ho, hs => by
    have ht := ho t (by simp)
    have hr : okT r := fun x hx => ho x (by simp [hx])
    have hn := sumA_nonneg r hr
    have e : sumA (t :: r) = t.after + sumA r := by simp [sumA]
    simp only [drT]
    split
    · cases r with
      | nil => exact ⟨fun x hx => by simp at hx, by simp [sumA]; exact ht.1⟩
      | cons u r =>
        have hu := hr u (by simp)
        have hn' := sumA_nonneg r (fun x hx => hr x (by simp [hx]))
        have e2 : sumA (u :: r) = u.after + sumA r := by simp [sumA]
        refine ⟨fun x hx => ?_, by simp only [sumA, List.map_cons, List.sum_cons]; omega⟩
        rcases List.mem_cons.1 hx with hx | hx
        · subst hx; simp only; omega
        · exact hr x (by simp [hx])
    · obtain ⟨h1, h2⟩ := drT_ok r k hr (by omega)
      refine ⟨fun x hx => ?_, by simp only [sumA, List.map_cons, List.sum_cons] at h2 ⊢; omega⟩
      rcases List.mem_cons.1 hx with hx | hx
      · subst hx; exact ht
      · exact h1 x hx
theorem InvT.drop {a : List Tm} (h : InvT a) (k : Int) : InvT (dropT a k).1 := by
  unfold dropT
  split
  · exact h
  · obtain ⟨h1, h2⟩ := drT_ok a k h.ok h.sum
    have h3 := drT_keys a k
    exact ⟨h1, Int.le_trans h2 h.sum, h3.nodup h.nd, by have := h3.length_le; simp at this; have := h.len; show (drT a k).length ≤ 64; omega⟩
theorem decT_keys : ∀ (a : List Tm), (decT a).map Tm.key = a.map Tm.key
  | [] => rfl
  | t :: r => by
    simp only [decT]
    split <;> simp [decT_keys r]
theorem decT_ok : ∀ (a : List Tm), okT a → okT (decT a) ∧ sumA (decT a) ≤ sumA a
  | [], h => ⟨h, Int.le_refl _⟩
  | t :: r, ho => by
    have ht := ho t (by simp)
    have hr : okT r := fun x hx => ho x (by simp [hx])
    simp only [decT]
    split
    · obtain ⟨h1, h2⟩ := decT_ok r hr
      refine ⟨fun x hx => ?_, by simp only [sumA, List.map_cons, List.sum_cons] at h2 ⊢; omega⟩
      rcases List.mem_cons.1 hx with hx | hx
      · subst hx; exact ht
      · exact h1 x hx
    · refine ⟨fun x hx => ?_, by simp only [sumA, List.map_cons, List.sum_cons]; omega⟩
      rcases List.mem_cons.1 hx with hx | hx
      · subst hx; simp only; omega
      · exact hr x hx
theorem InvT.tick {a : List Tm} (h : InvT a) : InvT ((decT a).dropWhile zT) := by
  obtain ⟨h1, h2⟩ := decT_ok a h.ok
  have hsub := List.dropWhile_sublist (p := zT) (l := decT a)
  have hsplit := List.takeWhile_append_dropWhile (p := zT) (l := decT a)
  have e : sumA (decT a) = sumA ((decT a).takeWhile zT) + sumA ((decT a).dropWhile zT) := by
    conv => lhs; rw [← hsplit]
    simp only [sumA, List.map_append, List.sum_append]
  have hn := sumA_nonneg ((decT a).takeWhile zT) (fun x hx => h1 x ((List.takeWhile_sublist _).mem hx))
  refine ⟨fun x hx => h1 x (hsub.mem hx), by have := h.sum; omega, ?_, ?_⟩
  · have := (hsub.map Tm.key).nodup (by rw [decT_keys]; exact h.nd)
    exact this
  · have h3 := hsub.length_le
    have h4 : (decT a).length = a.length := by have := congrArg List.length (decT_keys a); simpa using this
    have := h.len; omega
end Go.Cd
