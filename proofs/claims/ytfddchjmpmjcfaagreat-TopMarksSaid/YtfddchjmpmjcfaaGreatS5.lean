/- What comes in, typed; regions whose operations come up in any order. No conditions. -/
import Derived.Test.YtfddchjmpmjcfaaGreatS4
import Derived.Test.YtfddchjmpmjcfaaGreatFwD
set_option linter.unusedVariables false
set_option linter.unusedSimpArgs false
namespace Go.Fw
open Go
attribute [simp] regK_st' meets hit KI.writes KI.reads KI.fresh ptrs
theorem has_int {k : IntKind} {x : D} (h : Sh.has (.i k) x) : ∃ n, x = .int k n ∧ (Lit.int k n).wf = true := by
  cases x <;> simp [Sh.has] at h
  obtain ⟨rfl, h⟩ := h
  exact ⟨_, rfl, h⟩
theorem has_bool {x : D} (h : Sh.has .b x) : ∃ b, x = .bool b := by
  cases x <;> simp [Sh.has] at h
  exact ⟨_, rfl⟩
theorem has_sl {s : Sh} {x : D} (h : Sh.has (.sl s) x) : ∃ nl l, x = .sl nl l ∧ (nl = true → l = []) ∧ l.length ≤ maxLen ∧ ∀ y ∈ l, s.has y := by
  cases x <;> simp [Sh.has] at h
  exact ⟨_, _, rfl, by simpa using h.1, h.2.1, h.2.2⟩
theorem has_ar {n : Nat} {s : Sh} {x : D} (h : Sh.has (.ar n s) x) : ∃ l, x = .agg l ∧ l.length = n ∧ ∀ y ∈ l, s.has y := by
  cases x <;> simp [Sh.has] at h
  exact ⟨_, rfl, h.1, h.2⟩
theorem has_st {ss : List Sh} {x : D} (h : Sh.has (.st ss) x) : ∃ l, x = .agg l ∧ Sh.hasL ss l := by
  cases x <;> simp [Sh.has] at h
  exact ⟨_, rfl, h⟩
theorem hasL_nil {l : List D} (h : Sh.hasL [] l) : l = [] := by
  cases l <;> simp [Sh.hasL] at h
  rfl
theorem hasL_cons {s : Sh} {ss : List Sh} {l : List D} (h : Sh.hasL (s :: ss) l) : ∃ x r, l = x :: r ∧ s.has x ∧ Sh.hasL ss r := by
  cases l <;> simp [Sh.hasL] at h
  exact ⟨_, _, rfl, h.1, h.2⟩
/-- A list of typed things. -/
theorem all_typed {α : Type} {f : α → D} {p : α → Prop} {q : D → Prop} (h : ∀ y, q y → ∃ a, y = f a ∧ p a) : ∀ (l : List D), (∀ y ∈ l, q y) → ∃ m : List α, l = m.map f ∧ ∀ a ∈ m, p a
  | [], _ => ⟨[], rfl, fun a ha => by cases ha⟩
  | y :: l, hl => by
    obtain ⟨a, rfl, ha⟩ := h y (hl y List.mem_cons_self)
    obtain ⟨m, rfl, hm⟩ := all_typed h l (fun y hy => hl y (List.mem_cons_of_mem _ hy))
    refine ⟨a :: m, rfl, fun b hb => ?_⟩
    rcases List.mem_cons.1 hb with rfl | hb
    · exact ha
    · exact hm b hb
/-- A row of numbers. -/
theorem has_nums {k : IntKind} {x : D} (h : Sh.has (.sl (.i k)) x) : ∃ nl l, x = .sl nl (l.map (.int k)) ∧ (nl = true → l = []) ∧ l.length ≤ maxLen ∧ ∀ n ∈ l, (Lit.int k n).wf = true := by
  obtain ⟨nl, l, rfl, h1, h2, h3⟩ := has_sl h
  obtain ⟨m, rfl, hm⟩ := all_typed (f := D.int k) (p := fun n => (Lit.int k n).wf = true) (fun y hy => has_int hy) l h3
  exact ⟨nl, m, rfl, by simpa using h1, by simpa using h2, hm⟩
end Go.Fw
