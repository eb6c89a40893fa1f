/- The functions of mbox, and the reference's. No conditions. -/
import Derived.Test.YtpdanhecaalfbaaCode
import Derived.Test.YtpdanhecaalfbaaS6
import Derived.KernelRfl
set_option linter.unusedVariables false
set_option linter.unusedSimpArgs false
namespace Go.Cd
open Go Go.Fw
structure Box where
  ln : Bool
  l : List Int
  wn : Bool
  w : List Int
def Box.d (b : Box) : D := .agg [.sl b.ln (b.l.map (.int .i64)), .sl b.wn (b.w.map (.int .i64))]
/-- None is none, and not too many. -/
def Box.ok (b : Box) : Prop := (b.ln = true → b.l = []) ∧ (b.wn = true → b.w = []) ∧ b.l.length ≤ 1000 ∧ b.w.length ≤ 1000
@[simp] theorem take_map_len' {α β : Type} (f : α → β) (l : List α) : List.take l.length (List.map f l) = List.map f l := by
  rw [← List.length_map (f := f), List.take_length]
theorem clone_i64 (nl : Bool) (l : List Int) (hn : nl = true → l = []) (hl : l.length ≤ 1000) : run kp (.data f_slices_Clone_int64_int64 [.sl nl (l.map (.int .i64))]) = some (.ds [.sl nl (l.map (.int .i64))]) := by
  rw [run_data, run_call, kp_slices_Clone_int64_int64]
  cases nl with
  | true => simp [hn rfl, k_slices_Clone_int64_int64]
  | false =>
    simp [k_slices_Clone_int64_int64]
    omega
theorem clone_int (nl : Bool) (l : List Int) (hn : nl = true → l = []) (hl : l.length ≤ 1000) : run kp (.data f_slices_Clone_int_int [.sl nl (l.map (.int .i64))]) = some (.ds [.sl nl (l.map (.int .i64))]) := by
  rw [run_data, run_call, kp_slices_Clone_int_int]
  cases nl with
  | true => simp [hn rfl, k_slices_Clone_int_int]
  | false =>
    simp [k_slices_Clone_int_int]
    omega
theorem mbox_twin (b : Box) (hb : b.ok) : run kp (.data f_mbox_twin [b.d]) = some (.ds [b.d]) := by
  obtain ⟨ln, l, wn, w⟩ := b
  obtain ⟨h1, h2, h3, h4⟩ := hb
  simp only at h1 h2 h3 h4
  have c1 := clone_i64 ln l h1 h3
  have c2 := clone_int wn w h2 h4
  simp only [Box.d]
  rw [run_data, run_call, kp_mbox_twin]
  cases ln <;> cases wn
  · simp [k_mbox_twin, c1, c2]
  · have := h2 rfl
    subst this
    simp only [List.map_nil] at *
    simp [k_mbox_twin, c1, c2]
  · have := h1 rfl
    subst this
    simp only [List.map_nil] at *
    simp [k_mbox_twin, c1, c2]
  · have := h1 rfl
    have := h2 rfl
    subst l w
    simp only [List.map_nil] at *
    simp [k_mbox_twin, c1, c2]
/-- What a letter does. -/
def postF (b : Box) (v : Int) : List Int × List Int × Int × Bool := match b.w with
  | c :: w => (b.l, w, c, true)
  | [] => if 4 ≤ b.l.length then (b.l, [], 0, false) else (b.l ++ [v], [], 0, true)
theorem mbox_Post (b : Box) (hb : b.ok) (v : Int) : ∃ n1 n2, run kp (.data f_mbox_Post [b.d, .int .i64 v]) =
    some (.ds [.agg [.sl n1 ((postF b v).1.map (.int .i64)), .sl n2 ((postF b v).2.1.map (.int .i64))], .int .i64 (postF b v).2.2.1, .bool (postF b v).2.2.2]) ∧ (n1 = true → (postF b v).1 = []) ∧ (n2 = true → (postF b v).2.1 = []) := by
  have tw := mbox_twin b hb
  obtain ⟨ln, l, wn, w⟩ := b
  obtain ⟨h1, h2, h3, h4⟩ := hb
  simp only at h1 h2 h3 h4
  simp only [Box.d] at *
  rw [run_data, run_call, kp_mbox_Post]
  have l5 : l.length ≤ 1073741822 := by omega
  have l6 : l.length ≤ 1073741823 := by omega
  cases w with
  | cons c w =>
    have u1 : (1 : Int) ≤ (w.length : Int) + 1 := by omega
    have u2 : 1 + w.length ≤ w.length + 1 := by omega
    have hwn : wn = false := by cases wn; rfl; exact absurd (h2 rfl) (by simp)
    subst hwn
    cases ln with
    | false =>
      refine ⟨false, false, ?_, by simp, by simp⟩
      simp only [List.map_cons] at tw
      simp [k_mbox_Post, tw, postF, u1, u2]
    | true =>
      have := h1 rfl
      subst this
      refine ⟨true, false, ?_, by simp [postF], by simp⟩
      simp only [List.map_cons, List.map_nil] at tw
      simp [k_mbox_Post, tw, postF, u1, u2]
  | nil =>
    by_cases h5 : 4 ≤ l.length
    · have h5' : (4 : Int) ≤ l.length := by omega
      have hln : ln = false := by
        cases ln
        · rfl
        · have := h1 rfl; subst this; simp at h5
      subst hln
      cases wn with
      | false =>
        refine ⟨false, false, ?_, by simp, by simp⟩
        simp only [List.map_nil] at tw
        simp [k_mbox_Post, tw, postF, h5, h5']
      | true =>
        refine ⟨false, true, ?_, by simp, by simp [postF, h5]⟩
        simp only [List.map_nil] at tw
        simp [k_mbox_Post, tw, postF, h5, h5']
    · have h5' : ¬ (4 : Int) ≤ l.length := by omega
      refine ⟨false, wn, ?_, by simp, by simp [postF, h5]⟩
      cases wn <;> cases ln
      · simp only [List.map_nil] at tw
        simp [k_mbox_Post, tw, postF, h5, h5', l5, l6]
        exact List.take_of_length_le (by simp)
      · have := h1 rfl
        subst this
        simp only [List.map_nil] at tw
        simp [k_mbox_Post, tw, postF, h5, h5', l5, l6]
      · simp only [List.map_nil] at tw
        simp [k_mbox_Post, tw, postF, h5, h5', l5, l6]
        exact List.take_of_length_le (by simp)
      · have := h1 rfl
        subst this
        simp only [List.map_nil] at tw
        simp [k_mbox_Post, tw, postF, h5, h5', l5, l6]
theorem index_int_loop (c : Int) (nl : Bool) (l : List Int) (hlen : l.length ≤ 1000) : ∀ (rest pre : List Int), l = pre ++ rest → ∀ (i : Int), i = pre.length →
   (c ∈ rest ∧ ∃ j : Int, 0 ≤ j ∧ run kp (.loop [0, 1, 7, 8] k_slices_Index_int_int_L0
                      { env := [(0, V.asl nl (l.map (.int .i64))), (1, .int .i64 c), (7, V.int IntKind.i64 ↑l.length), (8, V.int IntKind.i64 i)],
                        hp := [], tl := fun _ => none, base := 0, next := 0 }) = some (.out .ret
                      { env := [(0, V.asl nl (l.map (.int .i64))), (1, .int .i64 c), (7, V.int IntKind.i64 ↑l.length), (8, V.int IntKind.i64 j), (9, .bool true), (16, .bool true), (4, .int .i64 j)],
                        hp := [], tl := fun _ => none, base := 0, next := 0 })) ∨
   (¬ c ∈ rest ∧ run kp (.loop [0, 1, 7, 8] k_slices_Index_int_int_L0
                      { env := [(0, V.asl nl (l.map (.int .i64))), (1, .int .i64 c), (7, V.int IntKind.i64 ↑l.length), (8, V.int IntKind.i64 i)],
                        hp := [], tl := fun _ => none, base := 0, next := 0 }) = some (.out (.ext 0)
                      { env := [(0, V.asl nl (l.map (.int .i64))), (1, .int .i64 c), (7, V.int IntKind.i64 ↑l.length), (8, V.int IntKind.i64 l.length), (9, .bool false)],
                        hp := [], tl := fun _ => none, base := 0, next := 0 }))
  | [], pre, h, i, hi => by
    simp at h
    subst h hi
    rw [run_round]
    simp [c_slices_Index_int_int_L0, k_slices_Index_int_int_L0b]
  | w :: rest, pre, h, i, hi => by
    have hli : i < l.length := by rw [h, hi]; simp; omega
    have h0 : 0 ≤ i := by omega
    have hget0 : l[i.toNat]? = some w := by rw [h, hi]; simp
    have hget : ∀ hh : i.toNat < l.length, l[i.toNat] = w := fun hh => by rw [List.getElem?_eq_getElem hh] at hget0; injection hget0
    have hw : IntKind.i64.wrap (i + 1) = i + 1 := wrap_i64 (by omega) (by omega)
    have ih := index_int_loop c nl l hlen rest (pre ++ [w]) (by simp [h]) (i + 1) (by simp [hi])
    rw [run_round]
    by_cases hc : c = w
    · refine .inl ⟨by simp [hc], i, h0, ?_⟩
      simp [c_slices_Index_int_int_L0, k_slices_Index_int_int_L0b, h0, hli, hget, hw, hc]
    · simp [c_slices_Index_int_int_L0, k_slices_Index_int_int_L0b, h0, hli, hget, hw, hc]
      simpa using ih
theorem contains_int (nl : Bool) (l : List Int) (c : Int) (hl : l.length ≤ 1000) : run kp (.data f_slices_Contains_int_int [.sl nl (l.map (.int .i64)), .int .i64 c]) = some (.ds [.bool (decide (c ∈ l))]) := by
  have e : ∃ j : Int, run kp (.data f_slices_Index_int_int [.sl nl (l.map (.int .i64)), .int .i64 c]) = some (.ds [.int .i64 j]) ∧ decide (0 ≤ j) = decide (c ∈ l) := by
    rw [run_data, run_call, kp_slices_Index_int_int]
    rcases index_int_loop c nl l hl l [] rfl 0 rfl with ⟨h1, j, h2, h3⟩ | ⟨h1, h3⟩
    · refine ⟨j, ?_, by simp [h1, h2]⟩
      simp [k_slices_Index_int_int, h3]
    · refine ⟨-1, ?_, by simp [h1]⟩
      simp [k_slices_Index_int_int, h3]
  obtain ⟨j, e1, e2⟩ := e
  rw [run_data, run_call, kp_slices_Contains_int_int]
  simp [k_slices_Contains_int_int, e1, e2]
/-- What asking does. -/
def takeF (b : Box) (c : Int) : List Int × List Int × Int × Bool × Bool :=
  if c < 1 then (b.l, b.w, 0, false, false) else match b.l with
  | v :: l => (l, b.w, v, true, true)
  | [] => if c ∈ b.w ∨ 4 ≤ b.w.length then ([], b.w, 0, false, false) else ([], b.w ++ [c], 0, false, true)
theorem mbox_Take (b : Box) (hb : b.ok) (c : Int) : ∃ n1 n2, run kp (.data f_mbox_Take [b.d, .int .i64 c]) =
    some (.ds [.agg [.sl n1 ((takeF b c).1.map (.int .i64)), .sl n2 ((takeF b c).2.1.map (.int .i64))], .int .i64 (takeF b c).2.2.1, .bool (takeF b c).2.2.2.1, .bool (takeF b c).2.2.2.2]) ∧ (n1 = true → (takeF b c).1 = []) ∧ (n2 = true → (takeF b c).2.1 = []) := by
  have tw := mbox_twin b hb
  obtain ⟨ln, l, wn, w⟩ := b
  obtain ⟨h1, h2, h3, h4⟩ := hb
  simp only at h1 h2 h3 h4
  simp only [Box.d] at *
  rw [run_data, run_call, kp_mbox_Take]
  have ct := contains_int wn w c h4
  by_cases hc : c < 1
  · refine ⟨ln, wn, ?_, by simpa [takeF, hc] using h1, by simpa [takeF, hc] using h2⟩
    cases ln <;> cases wn
    · simp [k_mbox_Take, tw, takeF, hc]
    · have := h2 rfl; subst this
      simp only [List.map_nil] at tw
      simp [k_mbox_Take, tw, takeF, hc]
    · have := h1 rfl; subst this
      simp only [List.map_nil] at tw
      simp [k_mbox_Take, tw, takeF, hc]
    · have := h1 rfl
      have := h2 rfl
      subst l w
      simp only [List.map_nil] at tw
      simp [k_mbox_Take, tw, takeF, hc]
  · cases l with
    | cons v l =>
      have u1 : (1 : Int) ≤ (l.length : Int) + 1 := by omega
      have u2 : 1 + l.length ≤ l.length + 1 := by omega
      have hln : ln = false := by cases ln; rfl; exact absurd (h1 rfl) (by simp)
      subst hln
      refine ⟨false, wn, ?_, by simp, by simpa [takeF, hc] using h2⟩
      cases wn with
      | false =>
        simp only [List.map_cons] at tw
        simp [k_mbox_Take, tw, takeF, hc, u1, u2]
      | true =>
        have := h2 rfl; subst this
        simp only [List.map_cons, List.map_nil] at tw
        simp [k_mbox_Take, tw, takeF, hc, u1, u2]
    | nil =>
      by_cases h5 : c ∈ w
      · have hwn : wn = false := by
          cases wn; rfl
          have := h2 rfl; subst this; simp at h5
        subst hwn
        refine ⟨ln, false, ?_, by simp [takeF, hc, h5], by simp⟩
        simp only [List.map_nil] at tw
        cases ln <;> simp [k_mbox_Take, tw, takeF, hc, h5, ct]
      · by_cases h6 : 4 ≤ w.length
        · have h6' : (4 : Int) ≤ w.length := by omega
          have hwn : wn = false := by
            cases wn; rfl
            have := h2 rfl; subst this; simp at h6
          subst hwn
          refine ⟨ln, false, ?_, by simp [takeF, hc, h6], by simp⟩
          simp only [List.map_nil] at tw
          cases ln <;> simp [k_mbox_Take, tw, takeF, hc, h5, h6, h6', ct]
        · have h6' : ¬ (4 : Int) ≤ w.length := by omega
          have l6 : w.length ≤ 1073741823 := by omega
          refine ⟨ln, false, ?_, by simp [takeF, hc, h5, h6], by simp⟩
          cases wn with
          | false =>
            simp only [List.map_nil] at tw
            cases ln <;> simp [k_mbox_Take, tw, takeF, hc, h5, h6, h6', ct, l6] <;> exact List.take_of_length_le (by simp)
          | true =>
            have := h2 rfl; subst this
            simp only [List.map_nil] at tw ct
            cases ln <;> simp [k_mbox_Take, tw, takeF, hc, ct]
theorem mbox_Reset (b : Box) (hb : b.ok) : run kp (.data f_mbox_Reset [b.d]) = some (.ds [.agg [.sl true [], .sl true []], .sl b.wn (b.w.map (.int .i64))]) := by
  obtain ⟨ln, l, wn, w⟩ := b
  obtain ⟨h1, h2, h3, h4⟩ := hb
  simp only at h1 h2 h3 h4
  have c2 := clone_int wn w h2 h4
  simp only [Box.d] at *
  rw [run_data, run_call, kp_mbox_Reset]
  cases wn with
  | false => simp [k_mbox_Reset, c2]
  | true =>
    have := h2 rfl; subst this
    simp only [List.map_nil] at c2
    simp [k_mbox_Reset, c2]
end Go.Cd
