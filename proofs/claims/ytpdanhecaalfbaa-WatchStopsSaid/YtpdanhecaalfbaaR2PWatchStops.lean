/- The law WatchStops, as the evaluator has it. No conditions. -/
import Derived.Test.YtpdanhecaalfbaaR2PWatchAll
set_option linter.unusedVariables false
set_option linter.unusedSimpArgs false
namespace Go.Cd
open Go Go.Fw
theorem count_set : ∀ (l : List Bool) (i : Nat), l[i]? = some false → (l.set i true).count false + 1 = l.count false
  | [], i, h => by simp at h
  | a :: l, 0, h => by simp at h; subst h; simp
  | a :: l, i + 1, h => by
    simp at h
    have := count_set l i h
    cases a <;> simp <;> omega
def wsSt (nl : Bool) (l : List (Int × Int)) (w : Watch) (pr : List Int) (po : List Bool) (ex : List (Nat × V)) (i : Int) : St :=
  { env := [(1, .asl nl (l.map twoD)), (5, .int .i64 w.rows.length), (6, .ptr 0 []), (7, .ptr 3 []), (8, .ptr 4 []), (9, .int .i64 (w.off.count false : Nat)), (10, .int .i64 i)] ++ ex,
    hp := [(0, .box (.agg [.sl false 1 0 w.rows.length, .sl false 2 0 w.off.length])), (1, .row true (w.rows.map (.int .i64))), (2, .row true (w.off.map .bool)), (3, .box (.d (.agg ((w.rows ++ pr).map (.int .i64))))), (4, .box (.d (.agg ((w.off ++ po).map .bool))))], tl := fun _ => none, base := 0, next := 5 }
set_option maxHeartbeats 4000000 in
theorem ws_step (nl : Bool) (l : List (Int × Int)) (i : Int) (h0 : 0 ≤ i) (hli : i < l.length) (x : Int × Int) (hu : 0 ≤ x.2 ∧ x.2 < 256) (hget : ∀ hh : i.toNat < l.length, l[i.toNat] = x) (hw : IntKind.i64.wrap (i + 1) = i + 1) (w : Watch) (ok : w.ok) (h5 : w.rows.length ≤ 5) (h1 : 1 ≤ w.rows.length) (pr : List Int) (po : List Bool) :
    ∃ w' : Watch, w'.ok ∧ w'.rows.length = w.rows.length ∧ run kp (.loop [1, 5, 6, 7, 8, 9, 10] k_law23_WatchStops_L0 (wsSt nl l w pr po [] i)) = run kp (.loop [1, 5, 6, 7, 8, 9, 10] k_law23_WatchStops_L0 (wsSt nl l w' pr po [] (i + 1))) := by
  obtain ⟨p, z⟩ := x
  obtain ⟨rows, off⟩ := w
  obtain ⟨ok1, ok2⟩ := ok
  simp only at *
  obtain ⟨k, hk, hk2⟩ : ∃ k : Nat, IntKind.i64.wrap (z) = z ∧ z.tmod rows.length = (k : Int) ∧ k < rows.length := by
    refine ⟨(z % rows.length).toNat, wrap_i64 (by omega) (by omega), ?_, ?_⟩
    · rw [Int.tmod_eq_emod_of_nonneg hu.1]
      have := Int.emod_nonneg z (b := rows.length) (by omega)
      omega
    · have := Int.emod_lt_of_pos z (b := (rows.length : Int)) (by omega)
      have := Int.emod_nonneg z (b := rows.length) (by omega)
      omega
  obtain ⟨hk2, hk3⟩ := hk2
  have hm0 : ¬ (rows.length : Int) = 0 := by omega
  have m1 := watch_Miss ⟨rows, off⟩ ⟨ok1, ok2⟩ k
  have g1 := watch_Good ⟨rows, off⟩ ⟨ok1, ok2⟩ k
  have k6 : (k : Int) < rows.length := by omega
  have k7 : k < off.length := by omega
  have hr : ¬ rows = [] := by intro h; subst h; simp at h1
  have k8 : (k : Int) < (rows.length : Int) + pr.length := by omega
  have k9 : (k : Int) < (off.length : Int) + po.length := by omega
  obtain ⟨x, hx⟩ : ∃ x, rows[k]? = some x := ⟨_, List.getElem?_eq_getElem hk3⟩
  obtain ⟨y, hy⟩ : ∃ y, off[k]? = some y := ⟨_, List.getElem?_eq_getElem k7⟩
  have hX : (List.map (D.int .i64) rows ++ List.map (D.int .i64) pr)[k]? = some (.int .i64 x) := by
    rw [List.getElem?_append_left (by simpa using hk3)]; simp [hx]
  have hY : (List.map D.bool off ++ List.map D.bool po)[k]? = some (.bool y) := by
    rw [List.getElem?_append_left (by simpa using k7)]; simp [hy]
  have gX : ∀ z, ((List.map (D.int .i64) rows).set k (.int .i64 z) ++ List.map (D.int .i64) pr)[k]? = some (.int .i64 z) := by
    intro z
    rw [List.getElem?_append_left (by simpa using hk3)]; simp [hk3]
  have gY : ((List.map D.bool off).set k (.bool true) ++ List.map D.bool po)[k]? = some (.bool true) := by
    rw [List.getElem?_append_left (by simpa using k7)]; simp [k7]
  have k10 : (k : Int) < (rows.length : Int) + po.length := by omega
  have gy : ∀ hh : k < off.length, off[k] = y := fun hh => by rw [List.getElem?_eq_getElem hh] at hy; injection hy
  have hcast : (off.length : Int) = rows.length := by omega
  by_cases hp : p.tmod 3 = 0
  · refine ⟨⟨rows.set k 0, off⟩, ⟨by simpa using ok1, by simpa using ok2⟩, by simp, ?_⟩
    simp [goodF, k6, Watch.d] at g1
    rw [run_round]
    simp [c_law23_WatchStops_L0, k_law23_WatchStops_L0b, wsSt, h0, hli, hget, hw, twoD, hp, hk, hk2, hm0, g1, k6, k7, hk3, hr, k8, k9, hX, hY]
  · by_cases hz : IntKind.i64.wrap (x + 1) = 2
    · cases y with
      | true =>
        refine ⟨⟨rows.set k 2, off⟩, ⟨by simpa using ok1, by simpa using ok2⟩, by simp, ?_⟩
        simp [missF, k6, hx, hy, hz, Watch.d] at m1
        rw [run_round]
        simp [c_law23_WatchStops_L0, k_law23_WatchStops_L0b, wsSt, h0, hli, hget, hw, twoD, hp, hk, hk2, hm0, m1, k6, k7, hk3, hr, k8, k9, hX, hY, hz, hcast, gX, gY, k10, gy]
      | false =>
        have ct := count_set off k hy
        have cl : (off.set k true).count false ≤ 1000 := Nat.le_trans List.count_le_length (by simp; omega)
        have hcW : IntKind.i64.wrap ((off.count false : Nat) - 1) = ((off.set k true).count false : Nat) := by
          rw [← ct, wrap_i64 (by omega) (by omega)]; omega
        have hcZ : decide (false ∈ off.set k true) = !decide (((off.set k true).count false : Int) = 0) := by
          by_cases hm : false ∈ off.set k true
          · have := List.count_pos_iff.2 hm
            have : ¬ ((off.set k true).count false : Int) = 0 := by omega
            simp only [hm, this]; decide
          · have := List.count_eq_zero.2 hm
            simp [hm, this]
        refine ⟨⟨rows.set k 2, off.set k true⟩, ⟨by simpa using ok1, by simpa using ok2⟩, by simp, ?_⟩
        simp [missF, k6, hx, hy, hz, Watch.d] at m1
        rw [run_round]
        simp [c_law23_WatchStops_L0, k_law23_WatchStops_L0b, wsSt, h0, hli, hget, hw, twoD, hp, hk, hk2, hm0, m1, k6, k7, hk3, hr, k8, k9, hX, hY, hz, hcast, gX, gY, k10, gy, hcW, hcZ]
    · refine ⟨⟨rows.set k (IntKind.i64.wrap (x + 1)), off⟩, ⟨by simpa using ok1, by simpa using ok2⟩, by simp, ?_⟩
      simp [missF, k6, hx, hy, hz, Watch.d] at m1
      rw [run_round]
      simp [c_law23_WatchStops_L0, k_law23_WatchStops_L0b, wsSt, h0, hli, hget, hw, twoD, hp, hk, hk2, hm0, m1, k6, k7, hk3, hr, k8, k9, hX, hY, hz, hcast, gX, gY, k10, gy]
theorem ws_loop (nl : Bool) (l : List (Int × Int)) (hf : l.length ≤ 1000) (hu : ∀ x ∈ l, 0 ≤ x.2 ∧ x.2 < 256) (pr : List Int) (po : List Bool) : ∀ (rest pre : List (Int × Int)), l = pre ++ rest → ∀ (i : Int), i = pre.length → ∀ w : Watch, w.ok → w.rows.length ≤ 5 → 1 ≤ w.rows.length →
    ∃ w' : Watch, run kp (.loop [1, 5, 6, 7, 8, 9, 10] k_law23_WatchStops_L0 (wsSt nl l w pr po [] i)) = some (.out (.ext 0) (wsSt nl l w' pr po [(31, .bool false)] l.length))
  | [], pre, h, i, hi, w, ok, _, _ => by
    simp at h
    subst h hi
    refine ⟨w, ?_⟩
    rw [run_round]
    simp [c_law23_WatchStops_L0, k_law23_WatchStops_L0b, wsSt]
  | x :: rest, pre, h, i, hi, w, ok, h5, h1 => by
    have hli : i < l.length := by rw [h, hi]; simp; omega
    have h0 : 0 ≤ i := by omega
    have hget0 : l[i.toNat]? = some x := by rw [h, hi]; simp
    have hget : ∀ hh : i.toNat < l.length, l[i.toNat] = x := fun hh => by rw [List.getElem?_eq_getElem hh] at hget0; injection hget0
    have hw : IntKind.i64.wrap (i + 1) = i + 1 := wrap_i64 (by omega) (by omega)
    obtain ⟨w1, ok1, e0, e1⟩ := ws_step nl l i h0 hli x (hu x (by rw [h]; simp)) hget hw w ok h5 h1 pr po
    obtain ⟨w2, e2⟩ := ws_loop nl l hf hu pr po rest (pre ++ [x]) (by simp [h]) (i + 1) (by simp [hi]) w1 ok1 (by omega) (by omega)
    exact ⟨w2, by rw [e1, e2]⟩
theorem has_two3 {x : D} (h : Sh.has (.ar 2 (.i .u8)) x) : ∃ t : Int × Int, x = twoD t ∧ (0 ≤ t.2 ∧ t.2 < 256) := by
  obtain ⟨l, rfl, h1, h2⟩ := has_ar h
  obtain ⟨m, rfl, hm⟩ := all_typed (f := D.int .u8) (fun y hy => has_int hy) l h2
  match m, h1, hm with
  | [a, b], _, hm => exact ⟨(a, b), rfl, wf_u8 (hm b (by simp))⟩
theorem law_WatchStops (xs : List D) (h : Sh.hasL [.i .u8, .sl (.ar 2 (.i .u8))] xs) : run kp (.data f_law23_WatchStops xs) = some (.ds [.bool true]) := by
  obtain ⟨x1, _, rfl, h1, h⟩ := hasL_cons h
  obtain ⟨x2, _, rfl, h2, h⟩ := hasL_cons h
  obtain rfl := hasL_nil h
  obtain ⟨n, rfl, k1⟩ := has_int h1
  obtain ⟨nl, l, rfl, _, _, h5⟩ := has_sl h2
  obtain ⟨m, rfl, hm⟩ := all_typed (f := twoD) (fun y hy => has_two3 hy) l h5
  have hn := wf_u8 k1
  rw [run_data, run_call, kp_law23_WatchStops]
  by_cases hl : m.length ≤ 80
  · have a1 : ¬ (80 : Int) < m.length := by omega
    have e1 : n.tmod 5 = n % 5 := Int.tmod_eq_emod_of_nonneg hn.1
    have w1 : IntKind.i64.wrap (n % 5) = n % 5 := wrap_i64 (by omega) (by omega)
    have w2 : IntKind.i64.wrap (1 + n % 5) = 1 + n % 5 := wrap_i64 (by omega) (by omega)
    obtain ⟨N, hN, hN1, hN5⟩ : ∃ N : Nat, 1 + n % 5 = (N : Int) ∧ 1 ≤ N ∧ N ≤ 5 := ⟨(1 + n % 5).toNat, by omega, by omega, by omega⟩
    rw [hN] at w2
    have n1 := watch_New N (by omega)
    obtain ⟨w, e⟩ := ws_loop nl m (by omega) hm (List.replicate (6 - N) 0) (List.replicate (6 - N) false) m [] rfl 0 rfl (newW N) (newW_ok N (by omega)) (by simp [newW]; omega) (by simp [newW]; omega)
    have c : N = 1 ∨ N = 2 ∨ N = 3 ∨ N = 4 ∨ N = 5 := by omega
    rcases c with rfl | rfl | rfl | rfl | rfl <;> simp [newW, Watch.d, wsSt, List.replicate] at n1 e w2 <;> simp [k_law23_WatchStops, watch_begun, a1, e1, w1, hN, w2, n1, e]
  · have a1 : (80 : Int) < m.length := by omega
    simp [k_law23_WatchStops, watch_begun, a1]
end Go.Cd
