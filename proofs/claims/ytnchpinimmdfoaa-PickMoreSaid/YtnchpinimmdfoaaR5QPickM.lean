/- Who is first of some places, in plain Lean. No conditions. -/
import Derived.Test.YtnchpinimmdfoaaR5QBand
set_option linter.unusedVariables false
set_option linter.unusedSimpArgs false
namespace Go.Cd
open Go Go.Fw
structure Pl where
  band : Int
  free : Int
  task : Int
def Pl.d (p : Pl) : D := .agg [.int .i64 p.band, .int .i64 p.free, .int .i64 p.task]
def ltP (p q : Pl) : Prop := p.band < q.band ∨ (p.band = q.band ∧ (p.free < q.free ∨ (p.free = q.free ∧ p.task < q.task)))
instance (p q : Pl) : Decidable (ltP p q) := inferInstanceAs (Decidable (p.band < q.band ∨ (p.band = q.band ∧ (p.free < q.free ∨ (p.free = q.free ∧ p.task < q.task)))))
def cmpI (x y : Int) : Int := if x < y then -1 else if y < x then 1 else 0
def cmpP (p q : Pl) : Int := if ¬ cmpI p.band q.band = 0 then cmpI p.band q.band else if ¬ cmpI p.free q.free = 0 then cmpI p.free q.free else cmpI p.task q.task
theorem cmpI_cases (x y : Int) : (x < y ∧ cmpI x y = -1) ∨ (y < x ∧ cmpI x y = 1) ∨ (x = y ∧ cmpI x y = 0) := by
  unfold cmpI
  rcases Int.lt_trichotomy x y with h | h | h
  · simp [h]
  · simp [h]
  · have : ¬ x < y := by omega
    simp [h, this]
theorem cmpP_cases (p q : Pl) : (ltP p q ∧ cmpP p q < 0) ∨ (¬ ltP p q ∧ ¬ p = q ∧ 0 < cmpP p q) ∨ (¬ ltP p q ∧ p = q ∧ cmpP p q = 0) := by
  obtain ⟨a, b, c⟩ := p
  obtain ⟨x, y, z⟩ := q
  simp only [ltP, cmpP, Pl.mk.injEq]
  rcases cmpI_cases a x with ⟨h1, e1⟩ | ⟨h1, e1⟩ | ⟨h1, e1⟩ <;> rcases cmpI_cases b y with ⟨h2, e2⟩ | ⟨h2, e2⟩ | ⟨h2, e2⟩ <;> rcases cmpI_cases c z with ⟨h3, e3⟩ | ⟨h3, e3⟩ | ⟨h3, e3⟩ <;> simp only [e1, e2, e3] <;> simp <;> omega
/-- The first of those that nobody is ahead of: i are behind, b is the best so far. -/
def fmF : List Pl → Nat → Nat → Pl → Nat
  | [], _, b, _ => b
  | p :: r, i, b, m => if ltP p m then fmF r (i + 1) i p else fmF r (i + 1) b m
def fmL : List Pl → Nat
  | [] => 0
  | p :: r => fmF r 1 0 p
theorem ltP_irrefl (p : Pl) : ¬ ltP p p := by simp only [ltP]; omega
theorem ltP_trans' {p q r : Pl} (h1 : ¬ ltP q p) (h2 : ¬ ltP r q) : ¬ ltP r p := by simp only [ltP] at *; omega
theorem ltP_mix {p q r : Pl} (h1 : ltP p q) (h2 : ¬ ltP r q) : ltP p r := by simp only [ltP] at *; omega
theorem fm_spec (all : List Pl) : ∀ (rest pre : List Pl), all = pre ++ rest → ∀ (b : Nat) (m : Pl), all[b]? = some m → b < pre.length → (∀ (k : Nat) (q : Pl), k < pre.length → all[k]? = some q → ¬ ltP q m) → (∀ (k : Nat) (q : Pl), k < b → all[k]? = some q → ltP m q) →
    ∃ m', all[fmF rest pre.length b m]? = some m' ∧ (∀ (k : Nat) (q : Pl), all[k]? = some q → ¬ ltP q m') ∧ (∀ (k : Nat) (q : Pl), k < fmF rest pre.length b m → all[k]? = some q → ltP m' q)
  | [], pre, h, b, m, hb, hl, h1, h2 => by
    refine ⟨m, hb, fun k q hk => ?_, h2⟩
    have : k < pre.length := by
      have := (List.getElem?_eq_some_iff.1 hk).1
      rw [h] at this; simpa using this
    exact h1 k q this hk
  | p :: rest, pre, h, b, m, hb, hl, h1, h2 => by
    have hp : all[pre.length]? = some p := by rw [h]; simp
    simp only [fmF]
    by_cases hlt : ltP p m
    · rw [if_pos hlt]
      have := fm_spec all rest (pre ++ [p]) (by simp [h]) pre.length p hp (by simp) (fun k q hk hq => by
        simp only [List.length_append, List.length_singleton] at hk
        by_cases e : k = pre.length
        · subst e; rw [hp] at hq; injection hq with hq; subst hq; exact ltP_irrefl p
        · have := h1 k q (by omega) hq
          simp only [ltP] at *; omega) (fun k q hk hq => ltP_mix hlt (h1 k q hk hq))
      simpa using this
    · rw [if_neg hlt]
      have := fm_spec all rest (pre ++ [p]) (by simp [h]) b m hb (by simp; omega) (fun k q hk hq => by
        simp only [List.length_append, List.length_singleton] at hk
        by_cases e : k = pre.length
        · subst e; rw [hp] at hq; injection hq with hq; subst hq; exact hlt
        · exact h1 k q (by omega) hq) h2
      simpa using this
theorem fmL_spec (l : List Pl) (h : l ≠ []) : ∃ m, l[fmL l]? = some m ∧ (∀ (k : Nat) (q : Pl), l[k]? = some q → ¬ ltP q m) ∧ (∀ (k : Nat) (q : Pl), k < fmL l → l[k]? = some q → ltP m q) := by
  cases l with
  | nil => exact absurd rfl h
  | cons p r =>
    exact fm_spec (p :: r) r [p] rfl 0 p rfl (by simp) (fun k q hk hq => by
      have : k = 0 := by simpa using hk
      subst this; simp at hq; subst hq; exact ltP_irrefl p) (fun k q hk _ => by omega)
theorem fmL_uniq (l : List Pl) (k : Nat) (m : Pl) (hk : l[k]? = some m) (h1 : ∀ (j : Nat) (q : Pl), l[j]? = some q → ¬ ltP q m) (h2 : ∀ (j : Nat) (q : Pl), j < k → l[j]? = some q → ltP m q) : fmL l = k := by
  obtain ⟨m', a, b, c⟩ := fmL_spec l (by intro e; subst e; simp at hk)
  rcases Nat.lt_trichotomy (fmL l) k with h | h | h
  · exact absurd (h2 _ _ h a) (b _ _ hk)
  · exact h
  · exact absurd (c _ _ h hk) (h1 _ _ a)
theorem fmL_snoc (l : List Pl) (p : Pl) (h : l ≠ []) (hp : ∀ (k : Nat) (q : Pl), l[k]? = some q → ¬ ltP p q) : fmL (l ++ [p]) = fmL l := by
  obtain ⟨m, a, b, c⟩ := fmL_spec l h
  have hlt := (List.getElem?_eq_some_iff.1 a).1
  refine fmL_uniq _ _ m (by rw [List.getElem?_append_left hlt]; exact a) (fun j q hq => ?_) (fun j q hj hq => ?_)
  · by_cases hj : j < l.length
    · rw [List.getElem?_append_left hj] at hq; exact b j q hq
    · rw [List.getElem?_append_right (by omega)] at hq
      have : j - l.length = 0 := by
        have := (List.getElem?_eq_some_iff.1 hq).1
        simp at this; omega
      rw [this] at hq; simp at hq; subst hq; exact hp _ _ a
  · rw [List.getElem?_append_left (by omega)] at hq; exact c j q hj hq
/-- Where a job stands. -/
def plOf (n : Int) (s : List Sema) (j : Job) : Pl := ⟨ofF j n s, if (lowF s j.task j.held [] 0 false).2.1 then 0 else 1, j.task⟩
end Go.Cd
