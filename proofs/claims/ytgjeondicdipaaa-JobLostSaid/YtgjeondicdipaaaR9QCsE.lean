/- Programs that numbers make: what stands in what. No conditions. -/
import Derived.Test.YtgjeondicdipaaaR9QCsD
import Derived.Test.YtgjeondicdipaaaR9QFin
set_option linter.unusedVariables false
set_option linter.unusedSimpArgs false
namespace Go.Cd
open Go Go.Fw
theorem areasF_app : ∀ (a b : List Inst) (o : Nat), areasF (a ++ b) o = areasF a o ++ areasF b (o + a.length)
  | [], b, o => by simp [areasF]
  | x :: a, b, o => by
    simp only [List.cons_append, areasF, List.append_assoc, List.length_cons]
    rw [areasF_app a b (o + 1), show o + 1 + a.length = o + (a.length + 1) by omega]
theorem areasF_pl {s : List Inst} (h : Pl s) : ∀ o : Nat, areasF s o = [] := by
  induction h with
  | nil => intro o; rfl
  | one hp _ ih =>
    intro o
    obtain ⟨_, h7, h8, _⟩ := hp
    simp [areasF, arOf, h7, h8, ih]
  | lock hp _ ih =>
    intro o
    obtain ⟨_, h7, h8, _⟩ := hp
    simp [areasF, arOf, h7, h8, ih]
theorem Trip.append {a b : List Inst} (ha : Trip a) (hb : Trip b) : Trip (a ++ b) := by
  induction ha with
  | nil => exact hb
  | one h1 h2 _ ih => exact .one h1 h2 ih
  | lock h1 h2 h3 _ ih => exact .lock h1 h2 h3 ih
theorem trip_pl {s : List Inst} (h : Pl s) : Trip s := by
  induction h with
  | nil => exact .nil
  | one hp _ ih => exact .one hp.2.2.2.1 hp.2.2.2.2.1 ih
  | lock hp _ ih => exact .lock hp.2.2.2.1 hp.2.2.2.2.1 hp.2.2.2.2.2 ih
theorem trip_bl {b : List Inst} (h : Bl b) : Trip b := by
  cases h with
  | some h => exact trip_pl h
  | rep h _ _ _ => exact .one (by simp) (by simp) (trip_pl h)
  | skip h => exact .one (by simp) (by simp) (trip_pl h)
  | mark => exact .one (by simp) (by simp) .nil
theorem trip_pr {s : List Inst} (h : Pr s) : Trip s := by
  induction h with
  | nil => exact .nil
  | cons hb _ ih => exact (trip_bl hb).append ih
theorem trip_lock {s : List Inst} (h : Trip s) : ∀ (k : Nat) (x : Inst), s[k]? = some x → x.op = 9 → k + 2 < s.length := by
  induction h with
  | nil => intro k x hx; simp at hx
  | one h1 _ _ ih =>
    intro k x hx h9
    cases k with
    | zero => simp at hx; subst hx; exact absurd h9 h1
    | succ k =>
      have := ih k x (by simpa using hx) h9
      simp; omega
  | lock h1 h2 h3 _ ih =>
    intro k x hx h9
    match k, hx with
    | 0, hx => simp
    | 1, hx => simp at hx; subst hx; exact absurd h9 h1
    | 2, hx => simp at hx; subst hx; simp at h9
    | k + 3, hx =>
      have := ih k x (by simpa using hx) h9
      simp; omega
theorem trip_mark {s : List Inst} (h : Trip s) : ∀ (k i : Nat) (x y : Inst), s[k]? = some x → x.op = 9 → s[i]? = some y → y.op = 11 → k < i → k + 2 < i := by
  induction h with
  | nil => intro k i x y hx; simp at hx
  | one h1 _ _ ih =>
    intro k i x y hx h9 hy h11 hki
    cases k with
    | zero => simp at hx; subst hx; exact absurd h9 h1
    | succ k =>
      cases i with
      | zero => omega
      | succ i =>
        have := ih k i x y (by simpa using hx) h9 (by simpa using hy) h11 (by omega)
        omega
  | lock h1 h2 h3 _ ih =>
    intro k i x y hx h9 hy h11 hki
    match k, hx with
    | 0, hx =>
      match i, hy with
      | 0, _ => omega
      | 1, hy => simp at hy; subst hy; exact absurd h11 h3
      | 2, hy => simp at hy; subst hy; simp at h11
      | i + 3, _ => omega
    | 1, hx => simp at hx; subst hx; exact absurd h9 h1
    | 2, hx => simp at hx; subst hx; simp at h9
    | k + 3, hx =>
      match i, hy with
      | 0, _ => omega
      | 1, _ => omega
      | 2, _ => omega
      | i + 3, hy =>
        have := ih k i x y (by simpa using hx) h9 (by simpa using hy) h11 (by omega)
        omega
/-- Where the pieces of a row lie that stands here. -/
structure Lay (s : List Inst) (o : Nat) : Prop where
  rng : ∀ a ∈ areasF s o, (o : Int) ≤ a.of ∧ a.fr = a.of + 1 ∧ a.fr ≤ a.to ∧ a.to < (o : Int) + s.length ∧ ∃ y, s[(a.of - o).toNat]? = some y ∧ (a.body = true → 1 ≤ y.n ∧ y.n ≤ 3)
  pw : (areasF s o).Pairwise fun a b => a.to < b.of
  same : ∀ (k : Nat) (x : Inst), s[k]? = some x → x.op = 9 → ∀ a ∈ areasF s o, a.has ((o + k : Nat) : Int) = a.has ((o + k + 2 : Nat) : Int)
  marks : ∀ (k : Nat) (x : Inst), s[k]? = some x → x.op = 11 → ∀ a ∈ areasF s o, a.has ((o + k : Nat) : Int) = false
theorem has_no {a : Ar} {i : Int} (h : i < a.fr ∨ a.to < i) : a.has i = false := by
  unfold Ar.has
  rcases h with h | h
  · have : ¬ a.fr ≤ i := by omega
    simp [this]
  · have : ¬ i ≤ a.to := by omega
    simp [this]
theorem has_yes {a : Ar} {i : Int} (h1 : a.fr ≤ i) (h2 : i ≤ a.to) : a.has i = true := by
  unfold Ar.has; simp [h1, h2]
theorem Lay.nil (o : Nat) : Lay [] o := ⟨fun a h => by simp [areasF] at h, .nil, fun k x h => by simp at h, fun k x h => by simp at h⟩
theorem lay_none {s : List Inst} {o : Nat} (h : areasF s o = []) : Lay s o := by
  refine ⟨fun a ha => ?_, ?_, fun _ _ _ _ a ha => ?_, fun _ _ _ _ a ha => ?_⟩
  · rw [h] at ha; cases ha
  · rw [h]; exact .nil
  · rw [h] at ha; cases ha
  · rw [h] at ha; cases ha
theorem Lay.append {a b : List Inst} {o : Nat} (ha : Lay a o) (hb : Lay b (o + a.length)) (ta : Trip a) : Lay (a ++ b) o := by
  have e := areasF_app a b o
  refine ⟨fun x hx => ?_, ?_, fun k x hx h9 z hz => ?_, fun k x hx h11 z hz => ?_⟩
  · rw [e] at hx
    rcases List.mem_append.1 hx with hx | hx
    · obtain ⟨h1, h2, h3, h4, y, hy, h5⟩ := ha.rng x hx
      refine ⟨h1, h2, h3, by simp; omega, y, ?_, h5⟩
      rw [List.getElem?_append_left (getX hy)]; exact hy
    · obtain ⟨h1, h2, h3, h4, y, hy, h5⟩ := hb.rng x hx
      refine ⟨by omega, h2, h3, by simp; omega, y, ?_, h5⟩
      rw [List.getElem?_append_right (by omega), ← hy]
      congr 1
      omega
  · rw [e, List.pairwise_append]
    refine ⟨ha.pw, hb.pw, fun x hx y hy => ?_⟩
    obtain ⟨_, _, _, h4, _⟩ := ha.rng x hx
    obtain ⟨h1, _⟩ := hb.rng y hy
    omega
  · rw [e] at hz
    by_cases hk : k < a.length
    · have hx' : a[k]? = some x := by rw [← hx, List.getElem?_append_left hk]
      have hk2 := trip_lock ta k x hx' h9
      rcases List.mem_append.1 hz with hz | hz
      · exact ha.same k x hx' h9 z hz
      · obtain ⟨h1, h2, _⟩ := hb.rng z hz
        rw [has_no (.inl (by omega)), has_no (.inl (by omega))]
    · have hx' : b[k - a.length]? = some x := by rw [← hx, List.getElem?_append_right (by omega)]
      rcases List.mem_append.1 hz with hz | hz
      · obtain ⟨_, _, _, h4, _⟩ := ha.rng z hz
        rw [has_no (.inr (by omega)), has_no (.inr (by omega))]
      · have := hb.same (k - a.length) x hx' h9 z hz
        rw [show o + a.length + (k - a.length) = o + k by omega] at this
        exact this
  · rw [e] at hz
    by_cases hk : k < a.length
    · have hx' : a[k]? = some x := by rw [← hx, List.getElem?_append_left hk]
      rcases List.mem_append.1 hz with hz | hz
      · exact ha.marks k x hx' h11 z hz
      · obtain ⟨h1, h2, _⟩ := hb.rng z hz
        exact has_no (.inl (by omega))
    · have hx' : b[k - a.length]? = some x := by rw [← hx, List.getElem?_append_right (by omega)]
      rcases List.mem_append.1 hz with hz | hz
      · obtain ⟨_, _, _, h4, _⟩ := ha.rng z hz
        exact has_no (.inr (by omega))
      · have := hb.marks (k - a.length) x hx' h11 z hz
        rw [show o + a.length + (k - a.length) = o + k by omega] at this
        exact this
theorem pl_no11 {s : List Inst} (h : Pl s) : ∀ x ∈ s, x.op ≠ 11 := by
  induction h with
  | nil => intro x hx; cases hx
  | one hp _ ih =>
    intro x hx
    rcases List.mem_cons.1 hx with rfl | hx
    · exact hp.2.2.2.2.2
    · exact ih x hx
  | lock hp _ ih =>
    intro x hx
    simp only [List.mem_cons] at hx
    rcases hx with rfl | rfl | rfl | hx
    · simp
    · exact hp.2.2.2.2.2
    · simp
    · exact ih x hx
theorem lay_one {h : Inst} {s : List Inst} {o : Nat} (hs : Pl s) (hne : 1 ≤ s.length) (bd : Bool) (he : arOf h o = [⟨(o : Int) + 1, (o : Int) + s.length, o, bd⟩]) (hb : bd = true → 1 ≤ h.n ∧ h.n ≤ 3) (h9 : h.op ≠ 9) (h11 : h.op ≠ 11) : Lay (h :: s) o := by
  have e : areasF (h :: s) o = [⟨(o : Int) + 1, (o : Int) + s.length, o, bd⟩] := by
    simp only [areasF, areasF_pl hs, he, List.append_nil]
  have ts := trip_pl hs
  refine ⟨fun a ha => ?_, ?_, fun k x hx k9 a ha => ?_, fun k x hx k11 a ha => ?_⟩
  · rw [e, List.mem_singleton] at ha
    subst ha
    refine ⟨by simp, rfl, by simp only; omega, by simp only [List.length_cons]; omega, h, by simp, hb⟩
  · rw [e]; simp
  · rw [e, List.mem_singleton] at ha
    subst ha
    cases k with
    | zero => simp at hx; subst hx; exact absurd k9 h9
    | succ k =>
      have := trip_lock ts k x (by simpa using hx) k9
      rw [has_yes (by simp only; omega) (by simp only; omega), has_yes (by simp only; omega) (by simp only; omega)]
  · cases k with
    | zero => simp at hx; subst hx; exact absurd k11 h11
    | succ k =>
      have hx' : s[k]? = some x := by simpa using hx
      exact absurd k11 (pl_no11 hs x (List.mem_of_getElem? hx'))
theorem lay_bl {b : List Inst} (h : Bl b) (hm : ∀ x ∈ b, mayF x = true) (o : Nat) : Lay b o := by
  cases h with
  | some h => exact lay_none (areasF_pl h o)
  | @rep s c h hne h1 h3 =>
    have hl : 1 ≤ s.length := by cases s with | nil => exact absurd rfl hne | cons a b => simp
    exact lay_one h hl true (by simp [arOf]) (fun _ => ⟨h1, h3⟩) (by simp) (by simp)
  | @skip s a h =>
    have hl := (may_7 (hm _ List.mem_cons_self) rfl).1
    simp only at hl
    exact lay_one h (by omega) false (by simp [arOf]) (fun e => by cases e) (by simp) (by simp)
  | mark => exact lay_none (by simp [areasF, arOf])
theorem lay_pr {s : List Inst} (h : Pr s) : (∀ x ∈ s, mayF x = true) → ∀ o : Nat, Lay s o := by
  induction h with
  | nil => intro _ o; exact .nil o
  | cons hb _ ih =>
    intro hm o
    exact (lay_bl hb (fun x hx => hm x (by simp [hx])) o).append (ih (fun x hx => hm x (by simp [hx])) _) (trip_bl hb)
/-! How often -/
theorem tmF_none (L : List Inst) (i : Int) : ∀ (A : List Ar) (v : Int), (∀ a ∈ A, a.has i = false) → tmF L A i v = v
  | [], _, _ => rfl
  | a :: A, v, h => by
    have := h a List.mem_cons_self
    simp only [tmF, this, Bool.and_false, Bool.false_eq_true, if_false]
    exact tmF_none L i A v (fun x hx => h x (List.mem_cons_of_mem _ hx))
theorem tmF_app (L : List Inst) (i : Int) : ∀ (A B : List Ar) (v : Int), tmF L (A ++ B) i v = tmF L B i (tmF L A i v)
  | [], _, _ => rfl
  | a :: A, B, v => by simp only [List.cons_append, tmF]; exact tmF_app L i A B _
theorem cntA_none (i : Int) : ∀ (A : List Ar), (∀ a ∈ A, a.has i = false) → cntA A i = 0
  | [], _ => rfl
  | a :: A, h => by
    have := h a List.mem_cons_self
    simp only [cntA, this, Bool.false_eq_true, if_false, Nat.zero_add]
    exact cntA_none i A (fun x hx => h x (List.mem_cons_of_mem _ hx))
theorem cntA_one (i : Int) : ∀ (A : List Ar), (∀ a ∈ A, a.fr = a.of + 1 ∧ a.fr ≤ a.to) → A.Pairwise (fun a b => a.to < b.of) → cntA A i ≤ 1
  | [], _, _ => by simp [cntA]
  | a :: A, hr, hp => by
    rw [List.pairwise_cons] at hp
    have ih := cntA_one i A (fun x hx => hr x (List.mem_cons_of_mem _ hx)) hp.2
    simp only [cntA]
    by_cases h : a.has i = true
    · have hi : i ≤ a.to := by
        unfold Ar.has at h; simp at h; exact h.2
      rw [cntA_none i A (fun x hx => has_no (.inl (by
        have := hp.1 x hx
        have := (hr x (List.mem_cons_of_mem _ hx)).1
        omega)))]
      simp [h]
    · simp only [h, Bool.false_eq_true, if_false]; omega
theorem tm_bound (L : List Inst) (i : Int) : ∀ (A : List Ar), (∀ a ∈ A, a.fr = a.of + 1 ∧ a.fr ≤ a.to ∧ (a.body = true → 1 ≤ nOf L a ∧ nOf L a ≤ 20)) → A.Pairwise (fun a b => a.to < b.of) → 1 ≤ tmF L A i 1 ∧ tmF L A i 1 ≤ 20
  | [], _, _ => by simp [tmF]
  | a :: A, hr, hp => by
    rw [List.pairwise_cons] at hp
    have ih := tm_bound L i A (fun x hx => hr x (List.mem_cons_of_mem _ hx)) hp.2
    simp only [tmF]
    by_cases h : a.has i = true
    · have hi : i ≤ a.to := by
        unfold Ar.has at h; simp at h; exact h.2
      have hno : ∀ x ∈ A, x.has i = false := fun x hx => has_no (.inl (by
        have := hp.1 x hx
        have := (hr x (List.mem_cons_of_mem _ hx)).1
        omega))
      rw [tmF_none L i A _ hno]
      by_cases hb : a.body = true
      · have := (hr a List.mem_cons_self).2.2 hb
        simp only [h, hb, Bool.and_self, if_true, Int.one_mul]
        rw [wrap_i64 (by omega) (by omega)]; omega
      · simp [h, hb]
    · simp only [h, Bool.and_false, Bool.false_eq_true, if_false]; exact ih
/-- Programs that numbers make: all that is needed of their form. -/
structure Made (R : List Inst) : Prop where
  pr : Pr R
  len : R.length ≤ 22
  ok : codeOk R
theorem lay_end (o : Nat) : Lay [endI] o := lay_none (by simp [areasF, arOf, endI])
theorem Made.may {R : List Inst} (h : Made R) : ∀ x ∈ R ++ [endI], mayF x = true := fun x hx => by
  rcases List.mem_append.1 hx with hx | hx
  · exact (h.ok.1 x hx).1
  · simp at hx; subst hx; decide
theorem Made.trip {R : List Inst} (h : Made R) : Trip (R ++ [endI]) := (trip_pr h.pr).append (.one (by decide) (by decide) .nil)
theorem Made.lay {R : List Inst} (h : Made R) : Lay (R ++ [endI]) 0 := (lay_pr h.pr (fun x hx => (h.ok.1 x hx).1) 0).append (lay_end _) (trip_pr h.pr)
theorem Made.costFit {R : List Inst} (h : Made R) : CostFit (R ++ [endI]) := by
  have l := h.lay
  have len := h.len
  have sp := areasF_app R [endI] 0
  have se : areasF [endI] (0 + R.length) = [] := by simp [areasF, arOf, endI]
  rw [se, List.append_nil] at sp
  have lr := lay_pr h.pr (fun x hx => (h.ok.1 x hx).1) 0
  have nof : ∀ a ∈ areasF (R ++ [endI]) 0, a.body = true → 1 ≤ nOf (R ++ [endI]) a ∧ nOf (R ++ [endI]) a ≤ 20 := fun a ha hb => by
    obtain ⟨_, _, _, _, y, hy, h5⟩ := l.rng a ha
    have := h5 hb
    have e : (a.of - ((0 : Nat) : Int)).toNat = a.of.toNat := by omega
    rw [e] at hy
    simp only [nOf, hy, Option.map_some, Option.getD_some]; omega
  refine { pos := by simp, len := by simp; omega, may := h.may, ends := fun i x hx => ?_, trip := h.trip, same := fun k x hx h9 a ha => ?_, fit := fun a ha => (l.rng a ha).2.2.1, inn := fun a ha => ?_, apart := ?_, bodies := fun i => ?_, marks := fun i x hx h11 => ⟨?_, ?_⟩, ofs := fun a ha => ?_, tms := fun t ht => ?_, lock := fun i x hx h9 => trip_lock h.trip i x hx h9 }
  · by_cases hi : i < R.length
    · rw [List.getElem?_append_left hi] at hx
      have := (h.ok.1 x (List.mem_of_getElem? hx)).2
      constructor
      · intro e; exact absurd e this
      · intro e; simp at e; omega
    · have hl := getX hx
      simp at hl
      have : i = R.length := by omega
      subst this
      simp at hx; subst hx
      simp [endI]
  · have := l.same k x hx h9 a ha
    simpa using this
  · rw [sp] at ha
    have := (lr.rng a ha).2.2.2.1
    simp; omega
  · intro i k a b ha hb hik
    have hw := List.pairwise_iff_getElem.1 l.pw
    have ra := l.rng a (List.mem_of_getElem? ha)
    have rb := l.rng b (List.mem_of_getElem? hb)
    by_cases c : i < k
    · have := hw i k (getX ha) (getX hb) c
      rw [get_of ha, get_of hb] at this
      exact ⟨.inl (by omega), has_no (.inr (by omega))⟩
    · have := hw k i (getX hb) (getX ha) (by omega)
      rw [get_of ha, get_of hb] at this
      exact ⟨.inr (by omega), has_no (.inl (by omega))⟩
  · have := cntA_one i (areasF (R ++ [endI]) 0) (fun a ha => ⟨(l.rng a ha).2.1, (l.rng a ha).2.2.1⟩) l.pw
    have := cntB_le (areasF (R ++ [endI]) 0) i
    omega
  · refine cntA_none i _ (fun a ha => ?_)
    have := l.marks i x hx h11 a ha
    simpa using this
  · intro k y p hy hp h9 hki
    have := trip_mark h.trip k i y x hy h9 hx h11 hki
    rw [outP_get _ 0 k y hy, if_pos h9] at hp
    injection hp with hp
    omega
  · obtain ⟨h1, _, _, _, y, hy, _⟩ := l.rng a ha
    refine ⟨by simpa using h1, y, ?_⟩
    rw [← hy]; congr 1; omega
  · have key : ∀ (r i : Nat), ∀ t ∈ tmsF (R ++ [endI]) (areasF (R ++ [endI]) 0) r i, 1 ≤ t ∧ t ≤ 20 := by
      intro r
      induction r with
      | zero => intro i t ht; simp [tmsF] at ht
      | succ r ih =>
        intro i t ht
        simp only [tmsF, List.mem_cons] at ht
        rcases ht with rfl | ht
        · exact tm_bound _ _ _ (fun a ha => ⟨(l.rng a ha).2.1, (l.rng a ha).2.2.1, nof a ha⟩) l.pw
        · exact ih (i + 1) t ht
    exact key _ _ t ht
end Go.Cd
