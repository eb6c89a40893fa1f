/- The reference's boxes. No conditions. -/
import Derived.Test.YtpdanhecaalfbaaR2QMbox
set_option linter.unusedVariables false
set_option linter.unusedSimpArgs false
namespace Go.Cd
open Go Go.Fw
theorem ref11_Post (b : Box) (hb : b.ok) (v : Int) : run kp (.data f_ref11_Post [b.d, .int .i64 v]) =
    some (.ds [.agg [.sl false ((postF b v).1.map (.int .i64)), .sl false ((postF b v).2.1.map (.int .i64))], .int .i64 (postF b v).2.2.1, .bool (postF b v).2.2.2]) := by
  obtain ⟨ln, l, wn, w⟩ := b
  obtain ⟨h1, h2, h3, h4⟩ := hb
  simp only at h1 h2 h3 h4
  simp only [Box.d] at *
  rw [run_data, run_call, kp_ref11_Post]
  have l5 : l.length ≤ 1073741824 := by omega
  have l6 : l.length ≤ 1073741823 := by omega
  have l7 : w.length ≤ 1073741824 := by omega
  cases w with
  | cons c w =>
    have u1 : (1 : Int) ≤ (w.length : Int) + 1 := by omega
    have u2 : 1 + w.length ≤ w.length + 1 := by omega
    simp at l7
    simp [k_ref11_Post, postF, u1, u2, l5, l7]
  | nil =>
    by_cases h5 : 4 ≤ l.length
    · have h5' : (4 : Int) ≤ l.length := by omega
      simp [k_ref11_Post, postF, h5, h5', l5]
    · have h5' : ¬ (4 : Int) ≤ l.length := by omega
      simp [k_ref11_Post, postF, h5, h5', l5, l6]
      exact List.take_of_length_le (by simp)
theorem takeR_loop (c : Int) (ln nl : Bool) (l : List Int) (hf : l.length ≤ 1000) : ∀ (rest pre : List Int), l = pre ++ rest → ∀ (i : Int), i = pre.length →
    (c ∈ rest ∧ ∃ j : Int, run kp (.loop [1, 2, 4, 8, 9] k_ref11_Take_L0 { env := [(1, .int .i64 c), (2, .ptr 0 []), (4, .ptr 1 []), (8, .ptr 2 []), (9, .int .i64 i)], hp := [(0, .box (.agg [.asl ln [], .asl nl (l.map (.int .i64))])), (1, .box (.d (.agg [.sl true [], .sl true []]))), (2, .box (.agg [.sl false 3 0 0, .sl false 4 0 l.length])), (3, .row true []), (4, .row true (l.map (.int .i64)))], tl := fun _ => none, base := 0, next := 5 }) =
     some (.out .ret { env := [(1, .int .i64 c), (2, .ptr 0 []), (4, .ptr 1 []), (9, .int .i64 j), (39, .bool true), (48, .bool true), (5, .int .i64 0), (6, .bool false), (7, .bool false)], hp := [(0, .box (.agg [.asl ln [], .asl nl (l.map (.int .i64))])), (1, .box (.agg [.sl false 3 0 0, .sl false 4 0 l.length])), (2, .box (.agg [.sl false 3 0 0, .sl false 4 0 l.length])), (3, .row true []), (4, .row true (l.map (.int .i64)))], tl := fun _ => none, base := 0, next := 5 })) ∨
    (¬ c ∈ rest ∧ run kp (.loop [1, 2, 4, 8, 9] k_ref11_Take_L0 { env := [(1, .int .i64 c), (2, .ptr 0 []), (4, .ptr 1 []), (8, .ptr 2 []), (9, .int .i64 i)], hp := [(0, .box (.agg [.asl ln [], .asl nl (l.map (.int .i64))])), (1, .box (.d (.agg [.sl true [], .sl true []]))), (2, .box (.agg [.sl false 3 0 0, .sl false 4 0 l.length])), (3, .row true []), (4, .row true (l.map (.int .i64)))], tl := fun _ => none, base := 0, next := 5 }) =
     some (.out (.ext 0) { env := [(1, .int .i64 c), (2, .ptr 0 []), (4, .ptr 1 []), (8, .ptr 2 []), (9, .int .i64 l.length), (39, .bool false)], hp := [(0, .box (.agg [.asl ln [], .asl nl (l.map (.int .i64))])), (1, .box (.d (.agg [.sl true [], .sl true []]))), (2, .box (.agg [.sl false 3 0 0, .sl false 4 0 l.length])), (3, .row true []), (4, .row true (l.map (.int .i64)))], tl := fun _ => none, base := 0, next := 5 }))
  | [], pre, h, i, hi => by
    simp at h
    subst h hi
    rw [run_round]
    simp [c_ref11_Take_L0, k_ref11_Take_L0b]
  | w :: rest, pre, h, i, hi => by
    have hli : i < l.length := by rw [h, hi]; simp; omega
    have h0 : 0 ≤ i := by omega
    have hget0 : l[i.toNat]? = some w := by rw [h, hi]; simp
    have hget : ∀ hh : i.toNat < l.length, l[i.toNat] = w := fun hh => by rw [List.getElem?_eq_getElem hh] at hget0; injection hget0
    have hw : IntKind.i64.wrap (i + 1) = i + 1 := wrap_i64 (by omega) (by omega)
    have ih := takeR_loop c ln nl l hf rest (pre ++ [w]) (by simp [h]) (i + 1) (by simp [hi])
    rw [run_round]
    by_cases hc : c = w
    · refine .inl ⟨by simp [hc], i, ?_⟩
      simp [c_ref11_Take_L0, k_ref11_Take_L0b, h0, hli, hget, hw, hc]
    · have hc' : ¬ w = c := fun e => hc e.symm
      simp [c_ref11_Take_L0, k_ref11_Take_L0b, h0, hli, hget, hw, hc, hc']
      simpa using ih
theorem ref11_Take (b : Box) (hb : b.ok) (c : Int) : run kp (.data f_ref11_Take [b.d, .int .i64 c]) =
    some (.ds [.agg [.sl false ((takeF b c).1.map (.int .i64)), .sl false ((takeF b c).2.1.map (.int .i64))], .int .i64 (takeF b c).2.2.1, .bool (takeF b c).2.2.2.1, .bool (takeF b c).2.2.2.2]) := by
  obtain ⟨ln, l, wn, w⟩ := b
  obtain ⟨h1, h2, h3, h4⟩ := hb
  simp only at h1 h2 h3 h4
  simp only [Box.d] at *
  rw [run_data, run_call, kp_ref11_Take]
  have l5 : l.length ≤ 1073741824 := by omega
  have l6 : w.length ≤ 1073741823 := by omega
  have l7 : w.length ≤ 1073741824 := by omega
  by_cases hc : c < 1
  · simp [k_ref11_Take, takeF, hc, l5, l7]
  · cases l with
    | cons v l =>
      have u1 : (1 : Int) ≤ (l.length : Int) + 1 := by omega
      have u2 : 1 + l.length ≤ l.length + 1 := by omega
      simp at l5
      simp [k_ref11_Take, takeF, hc, l5, l7, u1, u2]
    | nil =>
      rcases takeR_loop c ln wn w h4 w [] rfl 0 rfl with ⟨h5, j, h6⟩ | ⟨h5, h6⟩
      · simp [k_ref11_Take, takeF, hc, l7, h5, h6]
      · by_cases h7 : 4 ≤ w.length
        · have h7' : (4 : Int) ≤ w.length := by omega
          simp [k_ref11_Take, takeF, hc, l7, h5, h6, h7, h7']
        · have h7' : ¬ (4 : Int) ≤ w.length := by omega
          simp [k_ref11_Take, takeF, hc, l7, l6, h5, h6, h7, h7']
          exact List.take_of_length_le (by simp)
theorem sameB0 (n1 n2 m1 m2 : Bool) (l w : List Int) (hf : l.length ≤ 1000) : ∀ (rest pre : List Int), l = pre ++ rest → ∀ (i : Int), i = pre.length →
    run kp (.loop [2, 3, 5] k_ref11_SameBox_L0 { env := [(2, .ptr 0 []), (3, .ptr 1 []), (5, .int .i64 i)], hp := [(0, .box (.agg [.asl n1 (l.map (.int .i64)), .asl m1 (w.map (.int .i64))])), (1, .box (.agg [.asl n2 (l.map (.int .i64)), .asl m2 (w.map (.int .i64))]))], tl := fun _ => none, base := 0, next := 2 }) =
    some (.out (.ext 0) { env := [(2, .ptr 0 []), (3, .ptr 1 []), (5, .int .i64 l.length), (27, .bool false)], hp := [(0, .box (.agg [.asl n1 (l.map (.int .i64)), .asl m1 (w.map (.int .i64))])), (1, .box (.agg [.asl n2 (l.map (.int .i64)), .asl m2 (w.map (.int .i64))]))], tl := fun _ => none, base := 0, next := 2 })
  | [], pre, h, i, hi => by
    simp at h
    subst h hi
    rw [run_round]
    simp [c_ref11_SameBox_L0, k_ref11_SameBox_L0b]
  | x :: rest, pre, h, i, hi => by
    have hli : i < l.length := by rw [h, hi]; simp; omega
    have h0 : 0 ≤ i := by omega
    have hget0 : l[i.toNat]? = some x := by rw [h, hi]; simp
    have hget : ∀ hh : i.toNat < l.length, l[i.toNat] = x := fun hh => by rw [List.getElem?_eq_getElem hh] at hget0; injection hget0
    have hw : IntKind.i64.wrap (i + 1) = i + 1 := wrap_i64 (by omega) (by omega)
    have ih := sameB0 n1 n2 m1 m2 l w hf rest (pre ++ [x]) (by simp [h]) (i + 1) (by simp [hi])
    rw [← ih, run_round]
    simp [c_ref11_SameBox_L0, k_ref11_SameBox_L0b, h0, hli, hget, hw]
theorem sameB1 (n1 n2 m1 m2 : Bool) (l w : List Int) (hf : w.length ≤ 1000) : ∀ (rest pre : List Int), w = pre ++ rest → ∀ (i : Int), i = pre.length →
    run kp (.loop [2, 3, 6] k_ref11_SameBox_L1 { env := [(2, .ptr 0 []), (3, .ptr 1 []), (6, .int .i64 i)], hp := [(0, .box (.agg [.asl n1 (l.map (.int .i64)), .asl m1 (w.map (.int .i64))])), (1, .box (.agg [.asl n2 (l.map (.int .i64)), .asl m2 (w.map (.int .i64))]))], tl := fun _ => none, base := 0, next := 2 }) =
    some (.out (.ext 2) { env := [(2, .ptr 0 []), (3, .ptr 1 []), (6, .int .i64 w.length), (45, .bool false)], hp := [(0, .box (.agg [.asl n1 (l.map (.int .i64)), .asl m1 (w.map (.int .i64))])), (1, .box (.agg [.asl n2 (l.map (.int .i64)), .asl m2 (w.map (.int .i64))]))], tl := fun _ => none, base := 0, next := 2 })
  | [], pre, h, i, hi => by
    simp at h
    subst h hi
    rw [run_round]
    simp [c_ref11_SameBox_L1, k_ref11_SameBox_L1b]
  | x :: rest, pre, h, i, hi => by
    have hli : i < w.length := by rw [h, hi]; simp; omega
    have h0 : 0 ≤ i := by omega
    have hget0 : w[i.toNat]? = some x := by rw [h, hi]; simp
    have hget : ∀ hh : i.toNat < w.length, w[i.toNat] = x := fun hh => by rw [List.getElem?_eq_getElem hh] at hget0; injection hget0
    have hw : IntKind.i64.wrap (i + 1) = i + 1 := wrap_i64 (by omega) (by omega)
    have ih := sameB1 n1 n2 m1 m2 l w hf rest (pre ++ [x]) (by simp [h]) (i + 1) (by simp [hi])
    rw [← ih, run_round]
    simp [c_ref11_SameBox_L1, k_ref11_SameBox_L1b, h0, hli, hget, hw]
theorem same_box (n1 n2 m1 m2 : Bool) (l w : List Int) (hl : l.length ≤ 1000) (hw : w.length ≤ 1000) : run kp (.data f_ref11_SameBox [.agg [.sl n1 (l.map (.int .i64)), .sl m1 (w.map (.int .i64))], .agg [.sl n2 (l.map (.int .i64)), .sl m2 (w.map (.int .i64))]]) = some (.ds [.bool true]) := by
  rw [run_data, run_call, kp_ref11_SameBox]
  have a := sameB0 n1 n2 m1 m2 l w hl l [] rfl 0 rfl
  have b := sameB1 n1 n2 m1 m2 l w hw w [] rfl 0 rfl
  simp [k_ref11_SameBox, a, b]
theorem sameI_loop (n1 n2 : Bool) (l : List Int) (hf : l.length ≤ 1000) : ∀ (rest pre : List Int), l = pre ++ rest → ∀ (i : Int), i = pre.length →
    run kp (.loop [0, 1, 5] k_ref11_SameInts_L0 { env := [(0, .asl n1 (l.map (.int .i64))), (1, .asl n2 (l.map (.int .i64))), (5, .int .i64 i)], hp := [], tl := fun _ => none, base := 0, next := 0 }) =
    some (.out (.ext 0) { env := [(0, .asl n1 (l.map (.int .i64))), (1, .asl n2 (l.map (.int .i64))), (5, .int .i64 l.length), (14, .bool false)], hp := [], tl := fun _ => none, base := 0, next := 0 })
  | [], pre, h, i, hi => by
    simp at h
    subst h hi
    rw [run_round]
    simp [c_ref11_SameInts_L0, k_ref11_SameInts_L0b]
  | w :: rest, pre, h, i, hi => by
    have hli : i < l.length := by rw [h, hi]; simp; omega
    have h0 : 0 ≤ i := by omega
    have hget0 : l[i.toNat]? = some w := by rw [h, hi]; simp
    have hget : ∀ hh : i.toNat < l.length, l[i.toNat] = w := fun hh => by rw [List.getElem?_eq_getElem hh] at hget0; injection hget0
    have hw : IntKind.i64.wrap (i + 1) = i + 1 := wrap_i64 (by omega) (by omega)
    have ih := sameI_loop n1 n2 l hf rest (pre ++ [w]) (by simp [h]) (i + 1) (by simp [hi])
    rw [← ih, run_round]
    simp [c_ref11_SameInts_L0, k_ref11_SameInts_L0b, h0, hli, hget, hw]
theorem same_ints (n1 n2 : Bool) (l : List Int) (hf : l.length ≤ 1000) : run kp (.data f_ref11_SameInts [.sl n1 (l.map (.int .i64)), .sl n2 (l.map (.int .i64))]) = some (.ds [.bool true]) := by
  rw [run_data, run_call, kp_ref11_SameInts]
  have hl := sameI_loop n1 n2 l hf l [] rfl 0 rfl
  simp [k_ref11_SameInts, hl]
end Go.Cd
