/- The reference's watch. No conditions. -/
import Derived.Test.YtpdanhecaalfbaaR2QWatch
set_option linter.unusedVariables false
set_option linter.unusedSimpArgs false
namespace Go.Cd
open Go Go.Fw
theorem missR_loop (rows : List D) (n : Nat) (l : List Bool) (hf : l.length ≤ 1000) : ∀ (rest pre : List Bool), l = pre ++ rest → ∀ (i : Int), i = pre.length →
   (false ∈ rest ∧ ∃ j : Int, run kp (.loop [4, 7, 8] k_ref19_Miss_L0 { env := [(4, .ptr 0 []), (7, .ptr 1 []), (8, .int .i64 i)], hp := [(0, .box (.d (.agg [.sl true [], .sl true []]))), (1, .box (.agg [.sl false 2 0 n, .sl false 3 0 l.length])), (2, .row true rows), (3, .row true (l.map .bool))], tl := fun _ => none, base := 0, next := 4 }) =
     some (.out .ret { env := [(4, .ptr 0 []), (8, .int .i64 j), (64, .bool true), (72, .bool true), (5, .bool true), (6, .bool false)], hp := [(0, .box (.agg [.sl false 2 0 n, .sl false 3 0 l.length])), (1, .box (.agg [.sl false 2 0 n, .sl false 3 0 l.length])), (2, .row true rows), (3, .row true (l.map .bool))], tl := fun _ => none, base := 0, next := 4 })) ∨
   (¬ false ∈ rest ∧ run kp (.loop [4, 7, 8] k_ref19_Miss_L0 { env := [(4, .ptr 0 []), (7, .ptr 1 []), (8, .int .i64 i)], hp := [(0, .box (.d (.agg [.sl true [], .sl true []]))), (1, .box (.agg [.sl false 2 0 n, .sl false 3 0 l.length])), (2, .row true rows), (3, .row true (l.map .bool))], tl := fun _ => none, base := 0, next := 4 }) =
     some (.out (.ext 0) { env := [(4, .ptr 0 []), (7, .ptr 1 []), (8, .int .i64 l.length), (64, .bool false)], hp := [(0, .box (.d (.agg [.sl true [], .sl true []]))), (1, .box (.agg [.sl false 2 0 n, .sl false 3 0 l.length])), (2, .row true rows), (3, .row true (l.map .bool))], tl := fun _ => none, base := 0, next := 4 }))
  | [], pre, h, i, hi => by
    simp at h
    subst h hi
    rw [run_round]
    simp [c_ref19_Miss_L0, k_ref19_Miss_L0b]
  | w :: rest, pre, h, i, hi => by
    have hli : i < l.length := by rw [h, hi]; simp; omega
    have hln : i.toNat < l.length := by omega
    have h0 : 0 ≤ i := by omega
    have hget0 : l[i.toNat]? = some w := by rw [h, hi]; simp
    have hget : ∀ hh : i.toNat < l.length, l[i.toNat] = w := fun hh => by rw [List.getElem?_eq_getElem hh] at hget0; injection hget0
    have hw : IntKind.i64.wrap (i + 1) = i + 1 := wrap_i64 (by omega) (by omega)
    have ih := missR_loop rows n l hf rest (pre ++ [w]) (by simp [h]) (i + 1) (by simp [hi])
    rw [run_round]
    cases w with
    | false =>
      refine .inl ⟨by simp, i, ?_⟩
      simp [c_ref19_Miss_L0, k_ref19_Miss_L0b, h0, hli, hln, hget, hw]
    | true =>
      simp [c_ref19_Miss_L0, k_ref19_Miss_L0b, h0, hli, hln, hget, hw]
      simpa using ih
theorem ref19_Miss (w : Watch) (hw : w.ok) (i : Int) : run kp (.data f_ref19_Miss [w.d, .int .i64 i]) = some (.ds [(missF w i).1.d, .bool (missF w i).2.1, .bool (missF w i).2.2]) := by
  have hl := hw.1
  have hl2 := hw.2
  have l1 : w.rows.length ≤ 1073741824 := by omega
  have l2 : w.off.length ≤ 1073741824 := by omega
  rw [run_data, run_call, kp_ref19_Miss]
  simp only [Watch.d] at *
  by_cases h : 0 ≤ i ∧ i < w.rows.length
  · obtain ⟨h1, h2⟩ := h
    have h3 : i.toNat < w.rows.length := by omega
    have h4 : i.toNat < w.off.length := by omega
    have h5 : i < w.off.length := by omega
    have h6 : ¬ i < 0 := by omega
    have h7 : ¬ (w.rows.length : Int) ≤ i := by omega
    have h8 : ¬ (w.off.length : Int) ≤ i := by omega
    obtain ⟨x, hx⟩ : ∃ x, w.rows[i.toNat]? = some x := ⟨_, List.getElem?_eq_getElem h3⟩
    obtain ⟨y, hy⟩ : ∃ y, w.off[i.toNat]? = some y := ⟨_, List.getElem?_eq_getElem h4⟩
    have gx : ∀ hh : i.toNat < w.rows.length, w.rows[i.toNat] = x := fun hh => by rw [List.getElem?_eq_getElem hh] at hx; injection hx
    have gy : ∀ hh : i.toNat < w.off.length, w.off[i.toNat] = y := fun hh => by rw [List.getElem?_eq_getElem hh] at hy; injection hy
    have k1 : ∀ z, List.take w.rows.length ((List.map (D.int .i64) w.rows).set i.toNat z) = (List.map (D.int .i64) w.rows).set i.toNat z := fun z => List.take_of_length_le (by simp)
    have k2 : ∀ z, List.take w.off.length ((List.map D.bool w.off).set i.toNat z) = (List.map D.bool w.off).set i.toNat z := fun z => List.take_of_length_le (by simp)
    by_cases hz : IntKind.i64.wrap (x + 1) = 2
    · cases y with
      | true => simp [k_ref19_Miss, l1, l2, missF, h1, h2, h3, h4, h5, h6, h7, h8, hx, hy, gx, gy, hz, k1, k2]
      | false =>
        have lp := missR_loop ((List.map (D.int .i64) w.rows).set i.toNat (.int .i64 2)) w.rows.length (w.off.set i.toNat true) (by simp; omega) (w.off.set i.toNat true) [] rfl 0 rfl
        rw [List.map_set, List.length_set] at lp
        rcases lp with ⟨q1, j, q2⟩ | ⟨q1, q2⟩
        · simp [k_ref19_Miss, l1, l2, missF, h1, h2, h3, h4, h5, h6, h7, h8, hx, hy, gx, gy, hz, k1, k2, q1, q2]
        · simp [k_ref19_Miss, l1, l2, missF, h1, h2, h3, h4, h5, h6, h7, h8, hx, hy, gx, gy, hz, k1, k2, q1, q2]
    · simp [k_ref19_Miss, l1, l2, missF, h1, h2, h3, h4, h5, h6, h7, h8, hx, hy, gx, gy, hz, k1, k2]
  · by_cases h6 : i < 0
    · have : ¬ 0 ≤ i := by omega
      simp [k_ref19_Miss, l1, l2, missF, h6, this]
    · have h1 : 0 ≤ i := by omega
      have h7 : (w.rows.length : Int) ≤ i := by omega
      have h8 : ¬ i < w.rows.length := by omega
      simp [k_ref19_Miss, l1, l2, missF, h6, h1, h7, h8]
end Go.Cd
