/- The functions of watch, and the reference's. No conditions. -/
import Derived.Test.YtpdanhecaalfbaaCode
import Derived.Test.YtpdanhecaalfbaaS6
import Derived.KernelRfl
set_option linter.unusedVariables false
set_option linter.unusedSimpArgs false
namespace Go.Cd
open Go Go.Fw
/-- Whose misses in a row there are, who is off. -/
structure Watch where
  rows : List Int
  off : List Bool
def Watch.d (w : Watch) : D := .agg [.sl false (w.rows.map (.int .i64)), .sl false (w.off.map .bool)]
def Watch.ok (w : Watch) : Prop := w.rows.length = w.off.length ∧ w.rows.length ≤ 1000
@[simp] theorem take_map_lenW {α β : Type} (f : α → β) (l : List α) : List.take l.length (List.map f l) = List.map f l := by
  rw [← List.length_map (f := f), List.take_length]
theorem clone_intW (l : List Int) (hl : l.length ≤ 1000) : run kp (.data f_slices_Clone_int_int [.sl false (l.map (.int .i64))]) = some (.ds [.sl false (l.map (.int .i64))]) := by
  rw [run_data, run_call, kp_slices_Clone_int_int]
  simp [k_slices_Clone_int_int]
  omega
theorem clone_boolW (l : List Bool) (hl : l.length ≤ 1000) : run kp (.data f_slices_Clone_bool_bool [.sl false (l.map .bool)]) = some (.ds [.sl false (l.map .bool)]) := by
  rw [run_data, run_call, kp_slices_Clone_bool_bool]
  simp [k_slices_Clone_bool_bool]
  omega
theorem watch_twin (w : Watch) (hw : w.ok) : run kp (.data f_watch_twin [w.d]) = some (.ds [w.d]) := by
  have c1 := clone_intW w.rows hw.2
  have c2 := clone_boolW w.off (by have := hw.1; have := hw.2; omega)
  rw [run_data, run_call, kp_watch_twin]
  simp [k_watch_twin, Watch.d, c1, c2]
theorem watch_has (w : Watch) (hw : w.ok) (i : Int) : run kp (.data f_watch_has [w.d, .int .i64 i]) = some (.ds [.bool (decide (0 ≤ i ∧ i < w.rows.length))]) := by
  rw [run_data, run_call, kp_watch_has]
  have := hw.1
  by_cases h : 0 ≤ i
  · simp [k_watch_has, Watch.d, h, this]
  · simp [k_watch_has, Watch.d, h]
def goodF (w : Watch) (i : Int) : Watch := if 0 ≤ i ∧ i < w.rows.length then ⟨w.rows.set i.toNat 0, w.off⟩ else w
theorem watch_Good (w : Watch) (hw : w.ok) (i : Int) : run kp (.data f_watch_Good [w.d, .int .i64 i]) = some (.ds [(goodF w i).d]) := by
  have tw := watch_twin w hw
  rw [run_data, run_call, kp_watch_Good]
  simp only [Watch.d] at *
  by_cases h : 0 ≤ i
  · by_cases h2 : i < w.rows.length
    · simp [k_watch_Good, tw, goodF, h, h2]
      exact List.take_of_length_le (by simp)
    · simp [k_watch_Good, tw, goodF, h, h2]
  · simp [k_watch_Good, tw, goodF, h]
theorem ref19_Good (w : Watch) (hw : w.ok) (i : Int) : run kp (.data f_ref19_Good [w.d, .int .i64 i]) = some (.ds [(goodF w i).d]) := by
  rw [run_data, run_call, kp_ref19_Good]
  have l1 : w.rows.length ≤ 1073741824 := by have := hw.2; omega
  have l2 : w.off.length ≤ 1073741824 := by have := hw.1; omega
  simp only [Watch.d] at *
  by_cases h : 0 ≤ i
  · by_cases h2 : i < w.rows.length
    · simp [k_ref19_Good, goodF, h, h2, l1, l2]
      exact List.take_of_length_le (by simp)
    · simp [k_ref19_Good, goodF, h, h2, l1, l2]
  · simp [k_ref19_Good, goodF, h, l1, l2]
theorem index_bool_loop (c : Bool) (l : List Bool) (hlen : l.length ≤ 1000) : ∀ (rest pre : List Bool), l = pre ++ rest → ∀ (i : Int), i = pre.length →
   (c ∈ rest ∧ ∃ j : Int, 0 ≤ j ∧ run kp (.loop [0, 1, 7, 8] k_slices_Index_bool_bool_L0
                      { env := [(0, V.asl false (l.map .bool)), (1, .bool c), (7, V.int IntKind.i64 ↑l.length), (8, V.int IntKind.i64 i)],
                        hp := [], tl := fun _ => none, base := 0, next := 0 }) = some (.out .ret
                      { env := [(0, V.asl false (l.map .bool)), (1, .bool c), (7, V.int IntKind.i64 ↑l.length), (8, V.int IntKind.i64 j), (9, .bool true), (16, .bool true), (4, .int .i64 j)],
                        hp := [], tl := fun _ => none, base := 0, next := 0 })) ∨
   (¬ c ∈ rest ∧ run kp (.loop [0, 1, 7, 8] k_slices_Index_bool_bool_L0
                      { env := [(0, V.asl false (l.map .bool)), (1, .bool c), (7, V.int IntKind.i64 ↑l.length), (8, V.int IntKind.i64 i)],
                        hp := [], tl := fun _ => none, base := 0, next := 0 }) = some (.out (.ext 0)
                      { env := [(0, V.asl false (l.map .bool)), (1, .bool c), (7, V.int IntKind.i64 ↑l.length), (8, V.int IntKind.i64 l.length), (9, .bool false)],
                        hp := [], tl := fun _ => none, base := 0, next := 0 }))
  | [], pre, h, i, hi => by
    simp at h
    subst h hi
    rw [run_round]
    simp [c_slices_Index_bool_bool_L0, k_slices_Index_bool_bool_L0b]
  | w :: rest, pre, h, i, hi => by
    have hli : i < l.length := by rw [h, hi]; simp; omega
    have h0 : 0 ≤ i := by omega
    have hget0 : l[i.toNat]? = some w := by rw [h, hi]; simp
    have hget : ∀ hh : i.toNat < l.length, l[i.toNat] = w := fun hh => by rw [List.getElem?_eq_getElem hh] at hget0; injection hget0
    have hw : IntKind.i64.wrap (i + 1) = i + 1 := wrap_i64 (by omega) (by omega)
    have ih := index_bool_loop c l hlen rest (pre ++ [w]) (by simp [h]) (i + 1) (by simp [hi])
    rw [run_round]
    by_cases hc : c = w
    · refine .inl ⟨by simp [hc], i, h0, ?_⟩
      subst hc
      simp [c_slices_Index_bool_bool_L0, k_slices_Index_bool_bool_L0b, h0, hli, hget, hw]
    · have hb : (c == w) = false := by simpa using hc
      simp [c_slices_Index_bool_bool_L0, k_slices_Index_bool_bool_L0b, h0, hli, hget, hw, hc, hb]
      simpa using ih
theorem contains_bool (l : List Bool) (c : Bool) (hl : l.length ≤ 1000) : run kp (.data f_slices_Contains_bool_bool [.sl false (l.map .bool), .bool c]) = some (.ds [.bool (decide (c ∈ l))]) := by
  have e : ∃ j : Int, run kp (.data f_slices_Index_bool_bool [.sl false (l.map .bool), .bool c]) = some (.ds [.int .i64 j]) ∧ decide (0 ≤ j) = decide (c ∈ l) := by
    rw [run_data, run_call, kp_slices_Index_bool_bool]
    rcases index_bool_loop c l hl l [] rfl 0 rfl with ⟨h1, j, h2, h3⟩ | ⟨h1, h3⟩
    · refine ⟨j, ?_, by simp [h1, h2]⟩
      simp [k_slices_Index_bool_bool, h3]
    · refine ⟨-1, ?_, by simp [h1]⟩
      simp [k_slices_Index_bool_bool, h3]
  obtain ⟨j, e1, e2⟩ := e
  rw [run_data, run_call, kp_slices_Contains_bool_bool]
  simp [k_slices_Contains_bool_bool, e1, e2]
/-- What a miss does. -/
def missF (w : Watch) (i : Int) : Watch × Bool × Bool :=
  if 0 ≤ i ∧ i < w.rows.length then
    (if w.rows[i.toNat]?.map (fun x => IntKind.i64.wrap (x + 1)) = some 2 ∧ w.off[i.toNat]? = some false then
      (⟨w.rows.set i.toNat 2, w.off.set i.toNat true⟩, true, !decide (false ∈ w.off.set i.toNat true))
    else (⟨w.rows.set i.toNat (IntKind.i64.wrap ((w.rows[i.toNat]?.getD 0) + 1)), w.off⟩, false, false))
  else (w, false, false)
theorem watch_Miss (w : Watch) (hw : w.ok) (i : Int) : run kp (.data f_watch_Miss [w.d, .int .i64 i]) = some (.ds [(missF w i).1.d, .bool (missF w i).2.1, .bool (missF w i).2.2]) := by
  have tw := watch_twin w hw
  have hs := watch_has w hw i
  have hl := hw.1
  have hl2 := hw.2
  rw [run_data, run_call, kp_watch_Miss]
  simp only [Watch.d] at *
  by_cases h : 0 ≤ i ∧ i < w.rows.length
  · obtain ⟨h1, h2⟩ := h
    have h3 : i.toNat < w.rows.length := by omega
    have h4 : i.toNat < w.off.length := by omega
    have h5 : i < w.off.length := by omega
    obtain ⟨x, hx⟩ : ∃ x, w.rows[i.toNat]? = some x := ⟨_, List.getElem?_eq_getElem h3⟩
    obtain ⟨y, hy⟩ : ∃ y, w.off[i.toNat]? = some y := ⟨_, List.getElem?_eq_getElem h4⟩
    have gx : ∀ hh : i.toNat < w.rows.length, w.rows[i.toNat] = x := fun hh => by rw [List.getElem?_eq_getElem hh] at hx; injection hx
    have gy : ∀ hh : i.toNat < w.off.length, w.off[i.toNat] = y := fun hh => by rw [List.getElem?_eq_getElem hh] at hy; injection hy
    have ct := contains_bool (w.off.set i.toNat true) false (by simp; omega)
    rw [List.map_set] at ct
    have k1 : ∀ z, List.take w.rows.length ((List.map (D.int IntKind.i64) w.rows).set i.toNat z) = (List.map (D.int IntKind.i64) w.rows).set i.toNat z := fun z => List.take_of_length_le (by simp)
    have k2 : ∀ z, List.take w.off.length ((List.map D.bool w.off).set i.toNat z) = (List.map D.bool w.off).set i.toNat z := fun z => List.take_of_length_le (by simp)
    by_cases hz : IntKind.i64.wrap (x + 1) = 2
    · cases y with
      | true => simp [k_watch_Miss, tw, hs, missF, h1, h2, h3, h4, h5, hx, hy, gx, gy, hz, k1, k2]
      | false => simp [k_watch_Miss, tw, hs, missF, h1, h2, h3, h4, h5, hx, hy, gx, gy, hz, k1, k2, ct]
    · simp [k_watch_Miss, tw, hs, missF, h1, h2, h3, h4, h5, hx, hy, gx, gy, hz, k1, k2]
  · simp [k_watch_Miss, tw, hs, missF, h]
end Go.Cd
