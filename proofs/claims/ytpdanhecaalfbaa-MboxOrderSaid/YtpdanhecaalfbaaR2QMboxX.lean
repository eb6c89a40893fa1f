/- Post and Take of mbox, with what is none told. No conditions. -/
import Derived.Test.YtpdanhecaalfbaaR2QMbox
set_option linter.unusedVariables false
set_option linter.unusedSimpArgs false
namespace Go.Cd
open Go Go.Fw
def postN (b : Box) : Bool := match b.w with | [] => if 4 ≤ b.l.length then b.ln else false | _ => b.ln
def takeN (b : Box) (c : Int) : Bool := if c < 1 then b.wn else match b.l with | _ :: _ => b.wn | [] => if c ∈ b.w ∨ 4 ≤ b.w.length then b.wn else false
theorem mbox_PostX (b : Box) (hb : b.ok) (v : Int) : run kp (.data f_mbox_Post [b.d, .int .i64 v]) =
    some (.ds [.agg [.sl (postN b) ((postF b v).1.map (.int .i64)), .sl b.wn ((postF b v).2.1.map (.int .i64))], .int .i64 (postF b v).2.2.1, .bool (postF b v).2.2.2]) := by
  have tw := mbox_twin b hb
  obtain ⟨ln, l, wn, w⟩ := b
  obtain ⟨h1, h2, h3, h4⟩ := hb
  simp only at h1 h2 h3 h4
  simp only [Box.d] at *
  rw [run_data, run_call, kp_mbox_Post]
  have l5 : l.length ≤ 1073741822 := by omega
  have l6 : l.length ≤ 1073741823 := by omega
  cases w with
  | cons c w =>
    have u1 : (1 : Int) ≤ (w.length : Int) + 1 := by omega
    have u2 : 1 + w.length ≤ w.length + 1 := by omega
    have hwn : wn = false := by cases wn; rfl; exact absurd (h2 rfl) (by simp)
    subst hwn
    cases ln with
    | false =>
      simp only [List.map_cons] at tw
      simp [k_mbox_Post, tw, postF, u1, u2, postN]
    | true =>
      have := h1 rfl
      subst this
      simp only [List.map_cons, List.map_nil] at tw
      simp [k_mbox_Post, tw, postF, u1, u2, postN]
  | nil =>
    by_cases h5 : 4 ≤ l.length
    · have h5' : (4 : Int) ≤ l.length := by omega
      have hln : ln = false := by
        cases ln
        · rfl
        · have := h1 rfl; subst this; simp at h5
      subst hln
      simp only [List.map_nil] at tw
      cases wn <;> simp [k_mbox_Post, tw, postF, h5, h5', postN]
    · have h5' : ¬ (4 : Int) ≤ l.length := by omega
      cases wn <;> cases ln
      · simp only [List.map_nil] at tw
        simp [k_mbox_Post, tw, postF, h5, h5', l5, l6, postN]
        exact List.take_of_length_le (by simp)
      · have := h1 rfl
        subst this
        simp only [List.map_nil] at tw
        simp [k_mbox_Post, tw, postF, h5, h5', l5, l6, postN]
      · simp only [List.map_nil] at tw
        simp [k_mbox_Post, tw, postF, h5, h5', l5, l6, postN]
        exact List.take_of_length_le (by simp)
      · have := h1 rfl
        subst this
        simp only [List.map_nil] at tw
        simp [k_mbox_Post, tw, postF, h5, h5', l5, l6, postN]
theorem mbox_TakeX (b : Box) (hb : b.ok) (c : Int) : run kp (.data f_mbox_Take [b.d, .int .i64 c]) =
    some (.ds [.agg [.sl b.ln ((takeF b c).1.map (.int .i64)), .sl (takeN b c) ((takeF b c).2.1.map (.int .i64))], .int .i64 (takeF b c).2.2.1, .bool (takeF b c).2.2.2.1, .bool (takeF b c).2.2.2.2]) := by
  have tw := mbox_twin b hb
  obtain ⟨ln, l, wn, w⟩ := b
  obtain ⟨h1, h2, h3, h4⟩ := hb
  simp only at h1 h2 h3 h4
  simp only [Box.d] at *
  rw [run_data, run_call, kp_mbox_Take]
  have ct := contains_int wn w c h4
  by_cases hc : c < 1
  · cases ln <;> cases wn
    · simp [k_mbox_Take, tw, takeF, hc, takeN]
    · have := h2 rfl; subst this
      simp only [List.map_nil] at tw
      simp [k_mbox_Take, tw, takeF, hc, takeN]
    · have := h1 rfl; subst this
      simp only [List.map_nil] at tw
      simp [k_mbox_Take, tw, takeF, hc, takeN]
    · have := h1 rfl
      have := h2 rfl
      subst l w
      simp only [List.map_nil] at tw
      simp [k_mbox_Take, tw, takeF, hc, takeN]
  · cases l with
    | cons v l =>
      have u1 : (1 : Int) ≤ (l.length : Int) + 1 := by omega
      have u2 : 1 + l.length ≤ l.length + 1 := by omega
      have hln : ln = false := by cases ln; rfl; exact absurd (h1 rfl) (by simp)
      subst hln
      cases wn with
      | false =>
        simp only [List.map_cons] at tw
        simp [k_mbox_Take, tw, takeF, hc, u1, u2, takeN]
      | true =>
        have := h2 rfl; subst this
        simp only [List.map_cons, List.map_nil] at tw
        simp [k_mbox_Take, tw, takeF, hc, u1, u2, takeN]
    | nil =>
      by_cases h5 : c ∈ w
      · have hwn : wn = false := by
          cases wn; rfl
          have := h2 rfl; subst this; simp at h5
        subst hwn
        simp only [List.map_nil] at tw
        cases ln <;> simp [k_mbox_Take, tw, takeF, hc, h5, ct, takeN]
      · by_cases h6 : 4 ≤ w.length
        · have h6' : (4 : Int) ≤ w.length := by omega
          have hwn : wn = false := by
            cases wn; rfl
            have := h2 rfl; subst this; simp at h6
          subst hwn
          simp only [List.map_nil] at tw
          cases ln <;> simp [k_mbox_Take, tw, takeF, hc, h5, h6, h6', ct, takeN]
        · have h6' : ¬ (4 : Int) ≤ w.length := by omega
          have l6 : w.length ≤ 1073741823 := by omega
          cases wn with
          | false =>
            simp only [List.map_nil] at tw
            cases ln <;> simp [k_mbox_Take, tw, takeF, hc, h5, h6, h6', ct, l6, takeN] <;> exact List.take_of_length_le (by simp)
          | true =>
            have := h2 rfl; subst this
            simp only [List.map_nil] at tw ct
            cases ln <;> simp [k_mbox_Take, tw, takeF, hc, ct, takeN]
end Go.Cd
