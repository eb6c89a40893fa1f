/- What a law of jobs is given. No conditions. -/
import Derived.Test.YtgjeondicdipaaaR9QJobH
set_option linter.unusedVariables false
set_option linter.unusedSimpArgs false
namespace Go.Cd
open Go Go.Fw
theorem has_picks {x : D} (h : Sh.has (.sl (.i .u8)) x) : ∃ nl l, x = .sl nl l ∧ l.length ≤ maxLen ∧ ∀ y ∈ l, ∃ v, y = .int .u8 v ∧ 0 ≤ v ∧ v < 256 := by
  obtain ⟨nl, l, rfl, h1, h2, h3⟩ := has_sl h
  refine ⟨nl, l, rfl, h2, fun y hy => ?_⟩
  obtain ⟨v, rfl, k⟩ := has_int (h3 y hy)
  exact ⟨v, rfl, wf_u8 k⟩
def repSh : Sh := .st [.i .i64, .i .i64, .i .i64]
theorem has_rep {x : D} (h : Sh.has repSh x) : ∃ r : Rep, x = r.d ∧ r.left ≤ 9223372036854775807 := by
  obtain ⟨l, rfl, h⟩ := has_st h
  obtain ⟨a, _, rfl, h1, h⟩ := hasL_cons h
  obtain ⟨b, _, rfl, h2, h⟩ := hasL_cons h
  obtain ⟨c, _, rfl, h3, h⟩ := hasL_cons h
  obtain rfl := hasL_nil h
  obtain ⟨a, rfl, k1⟩ := has_int h1
  obtain ⟨b, rfl, k2⟩ := has_int h2
  obtain ⟨c, rfl, k3⟩ := has_int h3
  have := wf_i64' k3
  exact ⟨⟨a, b, c⟩, rfl, by simp only; omega⟩
def machSh : Sh := .st [.i .i64, .ar 8 (.i .i64), .sl repSh, .b]
theorem has_mach {x : D} (h : Sh.has machSh x) : ∃ pc mem rn reps over, x = mD pc mem rn reps over ∧ memOk mem ∧ repsOk reps ∧ (rn = true → reps = []) := by
  obtain ⟨l, rfl, h⟩ := has_st h
  obtain ⟨a, _, rfl, h1, h⟩ := hasL_cons h
  obtain ⟨b, _, rfl, h2, h⟩ := hasL_cons h
  obtain ⟨c, _, rfl, h3, h⟩ := hasL_cons h
  obtain ⟨d, _, rfl, h4, h⟩ := hasL_cons h
  obtain rfl := hasL_nil h
  obtain ⟨a, rfl, k1⟩ := has_int h1
  obtain ⟨b, rfl, h2, h2'⟩ := has_ar h2
  obtain ⟨b, rfl, h2''⟩ := all_typed (f := D.int .i64) (fun y hy => has_int hy) b h2'
  obtain ⟨nl, c, rfl, h3, _, h3'⟩ := has_sl h3
  obtain ⟨c, rfl, hc⟩ := all_typed (f := Rep.d) (p := fun r => r.left ≤ 9223372036854775807) (fun y hy => has_rep hy) c h3'
  obtain ⟨d, rfl⟩ := has_bool h4
  exact ⟨a, b, nl, c, d, rfl, ⟨by simpa using h2, fun x hx => wf_i64' (h2'' x hx)⟩, hc, by simpa using h3⟩
def jobSh : Sh := .st [.i .i64, .i .i64, .i .i64, .i .i64, machSh, machSh, .sl (.i .i64), .b]
theorem has_job {x : D} (h : Sh.has jobSh x) : ∃ j : Jb, x = j.d ∧ memOk j.m.mem ∧ repsOk j.m.reps ∧ (j.m.rn = true → j.m.reps = []) ∧ memOk j.k.mem ∧ repsOk j.k.reps ∧ (j.k.rn = true → j.k.reps = []) ∧ (j.hn = true → j.held = []) := by
  obtain ⟨l, rfl, h⟩ := has_st h
  obtain ⟨a, _, rfl, h1, h⟩ := hasL_cons h
  obtain ⟨b, _, rfl, h2, h⟩ := hasL_cons h
  obtain ⟨c, _, rfl, h3, h⟩ := hasL_cons h
  obtain ⟨d, _, rfl, h4, h⟩ := hasL_cons h
  obtain ⟨e, _, rfl, h5, h⟩ := hasL_cons h
  obtain ⟨f, _, rfl, h6, h⟩ := hasL_cons h
  obtain ⟨g, _, rfl, h7, h⟩ := hasL_cons h
  obtain ⟨o, _, rfl, h8, h⟩ := hasL_cons h
  obtain rfl := hasL_nil h
  obtain ⟨a, rfl, k1⟩ := has_int h1
  obtain ⟨b, rfl, k2⟩ := has_int h2
  obtain ⟨c, rfl, k3⟩ := has_int h3
  obtain ⟨d, rfl, k4⟩ := has_int h4
  obtain ⟨p1, m1, r1, l1, o1, rfl, q1, q2, q3⟩ := has_mach h5
  obtain ⟨p2, m2, r2, l2, o2, rfl, q4, q5, q6⟩ := has_mach h6
  obtain ⟨nl, hl, rfl, h7, _, h7'⟩ := has_sl h7
  obtain ⟨hl, rfl, _⟩ := all_typed (f := D.int .i64) (fun y hy => has_int hy) hl h7'
  obtain ⟨o, rfl⟩ := has_bool h8
  exact ⟨⟨a, b, c, d, ⟨p1, m1, r1, l1, o1⟩, ⟨p2, m2, r2, l2, o2⟩, nl, hl, o⟩, rfl, q1, q2, q3, q4, q5, q6, by simpa using h7⟩
end Go.Cd
