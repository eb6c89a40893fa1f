/- The law WatchAll, as the evaluator has it. No conditions. -/
import Derived.Test.YtpdanhecaalfbaaR2QWatchR
set_option linter.unusedVariables false
set_option linter.unusedSimpArgs false
namespace Go.Cd
open Go Go.Fw
theorem sameI_loopW (l : List Int) (hf : l.length ≤ 1000) : ∀ (rest pre : List Int), l = pre ++ rest → ∀ (i : Int), i = pre.length →
    run kp (.loop [0, 1, 5] k_ref11_SameInts_L0 { env := [(0, .asl false (l.map (.int .i64))), (1, .asl false (l.map (.int .i64))), (5, .int .i64 i)], hp := [], tl := fun _ => none, base := 0, next := 0 }) =
    some (.out (.ext 0) { env := [(0, .asl false (l.map (.int .i64))), (1, .asl false (l.map (.int .i64))), (5, .int .i64 l.length), (14, .bool false)], hp := [], tl := fun _ => none, base := 0, next := 0 })
  | [], pre, h, i, hi => by
    simp at h
    subst h hi
    rw [run_round]
    simp [c_ref11_SameInts_L0, k_ref11_SameInts_L0b]
  | w :: rest, pre, h, i, hi => by
    have hli : i < l.length := by rw [h, hi]; simp; omega
    have h0 : 0 ≤ i := by omega
    have hget0 : l[i.toNat]? = some w := by rw [h, hi]; simp
    have hget : ∀ hh : i.toNat < l.length, l[i.toNat] = w := fun hh => by rw [List.getElem?_eq_getElem hh] at hget0; injection hget0
    have hw : IntKind.i64.wrap (i + 1) = i + 1 := wrap_i64 (by omega) (by omega)
    have ih := sameI_loopW l hf rest (pre ++ [w]) (by simp [h]) (i + 1) (by simp [hi])
    rw [← ih, run_round]
    simp [c_ref11_SameInts_L0, k_ref11_SameInts_L0b, h0, hli, hget, hw]
theorem same_intsW (l : List Int) (hf : l.length ≤ 1000) : run kp (.data f_ref11_SameInts [.sl false (l.map (.int .i64)), .sl false (l.map (.int .i64))]) = some (.ds [.bool true]) := by
  rw [run_data, run_call, kp_ref11_SameInts]
  have hl := sameI_loopW l hf l [] rfl 0 rfl
  simp [k_ref11_SameInts, hl]
theorem sameW_loopW (rows : List D) (l : List Bool) (hf : l.length ≤ 1000) : ∀ (rest pre : List Bool), l = pre ++ rest → ∀ (i : Int), i = pre.length →
    run kp (.loop [2, 3, 5] k_ref19_SameWatch_L0 { env := [(2, .ptr 0 []), (3, .ptr 1 []), (5, .int .i64 i)], hp := [(0, .box (.agg [.asl false rows, .asl false (l.map .bool)])), (1, .box (.agg [.asl false rows, .asl false (l.map .bool)]))], tl := fun _ => none, base := 0, next := 2 }) =
    some (.out (.ext 0) { env := [(2, .ptr 0 []), (3, .ptr 1 []), (5, .int .i64 l.length), (25, .bool false)], hp := [(0, .box (.agg [.asl false rows, .asl false (l.map .bool)])), (1, .box (.agg [.asl false rows, .asl false (l.map .bool)]))], tl := fun _ => none, base := 0, next := 2 })
  | [], pre, h, i, hi => by
    simp at h
    subst h hi
    rw [run_round]
    simp [c_ref19_SameWatch_L0, k_ref19_SameWatch_L0b]
  | w :: rest, pre, h, i, hi => by
    have hli : i < l.length := by rw [h, hi]; simp; omega
    have h0 : 0 ≤ i := by omega
    have hget0 : l[i.toNat]? = some w := by rw [h, hi]; simp
    have hget : ∀ hh : i.toNat < l.length, l[i.toNat] = w := fun hh => by rw [List.getElem?_eq_getElem hh] at hget0; injection hget0
    have hw : IntKind.i64.wrap (i + 1) = i + 1 := wrap_i64 (by omega) (by omega)
    have ih := sameW_loopW rows l hf rest (pre ++ [w]) (by simp [h]) (i + 1) (by simp [hi])
    rw [← ih, run_round]
    simp [c_ref19_SameWatch_L0, k_ref19_SameWatch_L0b, h0, hli, hget, hw]
theorem same_watchR (w : Watch) (hw : w.ok) : run kp (.data f_ref19_SameWatch [w.d, w.d]) = some (.ds [.bool true]) := by
  rw [run_data, run_call, kp_ref19_SameWatch]
  have hl := sameW_loopW (w.rows.map (.int .i64)) w.off (by have := hw.1; have := hw.2; omega) w.off [] rfl 0 rfl
  have si := same_intsW w.rows hw.2
  simp [k_ref19_SameWatch, Watch.d, hl, si]
theorem same_watch (w : Watch) (hw : w.ok) : run kp (.data f_law23_same [w.d, w.d]) = some (.ds [.bool true]) := by
  have s := same_watchR w hw
  rw [run_data, run_call, kp_law23_same]
  simp only [Watch.d] at *
  simp [k_law23_same, s]
def newW (n : Nat) : Watch := ⟨List.replicate n 0, List.replicate n false⟩
theorem newW_ok (n : Nat) (h : n ≤ 1000) : (newW n).ok := by constructor <;> simp [newW]; omega
theorem goodF_ok (w : Watch) (hw : w.ok) (i : Int) : (goodF w i).ok := by
  obtain ⟨h1, h2⟩ := hw
  simp only [goodF]; split
  · constructor <;> simp [h1]; omega
  · exact ⟨h1, h2⟩
theorem missF_ok (w : Watch) (hw : w.ok) (i : Int) : (missF w i).1.ok := by
  obtain ⟨h1, h2⟩ := hw
  simp only [missF]; split
  · split
    · constructor <;> simp [h1]; omega
    · constructor <;> simp [h1]; omega
  · exact ⟨h1, h2⟩
theorem watch_New (n : Nat) (h : n ≤ 9) : run kp (.data f_watch_New [.int .i64 n]) = some (.ds [(newW n).d]) := by
  rw [run_data, run_call, kp_watch_New]
  have a1 : ¬ (65536 : Int) < n := by omega
  have a2 : ¬ (n : Int) < 0 := by omega
  simp [k_watch_New, newW, Watch.d, a1, a2]
  omega
theorem ref19_NewWatch (n : Nat) (h : n ≤ 9) : run kp (.data f_ref19_NewWatch [.int .i64 n]) = some (.ds [(newW n).d]) := by
  rw [run_data, run_call, kp_ref19_NewWatch]
  have a2 : ¬ (n : Int) < 0 := by omega
  simp [k_ref19_NewWatch, newW, Watch.d, a2]
  omega
def twoD (x : Int × Int) : D := .agg [.int .u8 x.1, .int .u8 x.2]
def waSt (nl : Bool) (l : List (Int × Int)) (q : Int) (w : Watch) (ex : List (Nat × V)) (i : Int) : St :=
  { env := [(1, .asl nl (l.map twoD)), (2, .int .i64 q), (7, .ptr 0 []), (8, .ptr 3 []), (9, .int .i64 i)] ++ ex,
    hp := [(0, .box (.agg [.sl false 1 0 w.rows.length, .sl false 2 0 w.off.length])), (1, .row true (w.rows.map (.int .i64))), (2, .row true (w.off.map .bool)), (3, .box (.agg [.sl false 4 0 w.rows.length, .sl false 5 0 w.off.length])), (4, .row true (w.rows.map (.int .i64))), (5, .row true (w.off.map .bool))], tl := fun _ => none, base := 0, next := 6 }
set_option maxHeartbeats 4000000 in
theorem wa_step (nl : Bool) (l : List (Int × Int)) (q : Int) (i : Int) (h0 : 0 ≤ i) (hli : i < l.length) (x : Int × Int) (hget : ∀ hh : i.toNat < l.length, l[i.toNat] = x) (hw : IntKind.i64.wrap (i + 1) = i + 1) (w : Watch) (ok : w.ok) :
    ∃ w' : Watch, w'.ok ∧ run kp (.loop [1, 2, 7, 8, 9] k_law23_WatchAll_L0 (waSt nl l q w [] i)) = run kp (.loop [1, 2, 7, 8, 9] k_law23_WatchAll_L0 (waSt nl l q w' [] (i + 1))) := by
  obtain ⟨p, z⟩ := x
  have g1 := watch_Good w ok (IntKind.i64.wrap (z.tmod 11))
  have g2 := ref19_Good w ok (IntKind.i64.wrap (z.tmod 11))
  have g3 := goodF_ok w ok (IntKind.i64.wrap (z.tmod 11))
  have g4 := same_watch _ g3
  have m1 := watch_Miss w ok (IntKind.i64.wrap (z.tmod 11))
  have m2 := ref19_Miss w ok (IntKind.i64.wrap (z.tmod 11))
  have m3 := missF_ok w ok (IntKind.i64.wrap (z.tmod 11))
  have m4 := same_watch _ m3
  by_cases hp : p.tmod 3 = 0
  · refine ⟨_, g3, ?_⟩
    generalize goodF w (IntKind.i64.wrap (z.tmod 11)) = v at *
    simp only [Watch.d] at *
    rw [run_round]
    simp [c_law23_WatchAll_L0, k_law23_WatchAll_L0b, waSt, h0, hli, hget, hw, twoD, hp, g1, g2, g4]
  · refine ⟨_, m3, ?_⟩
    generalize missF w (IntKind.i64.wrap (z.tmod 11)) = v at *
    obtain ⟨v, a, b⟩ := v
    simp only [Watch.d] at *
    rw [run_round]
    simp [c_law23_WatchAll_L0, k_law23_WatchAll_L0b, waSt, h0, hli, hget, hw, twoD, hp, m1, m2, m4]
theorem wa_loop (nl : Bool) (l : List (Int × Int)) (hf : l.length ≤ 1000) (q : Int) : ∀ (rest pre : List (Int × Int)), l = pre ++ rest → ∀ (i : Int), i = pre.length → ∀ w : Watch, w.ok →
    ∃ w' : Watch, w'.ok ∧ run kp (.loop [1, 2, 7, 8, 9] k_law23_WatchAll_L0 (waSt nl l q w [] i)) = some (.out (.ext 0) (waSt nl l q w' [(39, .bool false)] l.length))
  | [], pre, h, i, hi, w, ok => by
    simp at h
    subst h hi
    refine ⟨w, ok, ?_⟩
    rw [run_round]
    simp [c_law23_WatchAll_L0, k_law23_WatchAll_L0b, waSt]
  | x :: rest, pre, h, i, hi, w, ok => by
    have hli : i < l.length := by rw [h, hi]; simp; omega
    have h0 : 0 ≤ i := by omega
    have hget0 : l[i.toNat]? = some x := by rw [h, hi]; simp
    have hget : ∀ hh : i.toNat < l.length, l[i.toNat] = x := fun hh => by rw [List.getElem?_eq_getElem hh] at hget0; injection hget0
    have hw : IntKind.i64.wrap (i + 1) = i + 1 := wrap_i64 (by omega) (by omega)
    obtain ⟨w1, ok1, e1⟩ := wa_step nl l q i h0 hli x hget hw w ok
    obtain ⟨w2, ok2, e2⟩ := wa_loop nl l hf q rest (pre ++ [x]) (by simp [h]) (i + 1) (by simp [hi]) w1 ok1
    exact ⟨w2, ok2, by rw [e1, e2]⟩
set_option maxRecDepth 100000 in
theorem watch_begun : run kp (.data f_law23_begun []) = some (.ds [.bool true]) := run_of (n := 4000) (by kernel_rfl)
set_option maxRecDepth 100000 in
theorem watch_New3 : run kp (.data f_watch_New [.int .i64 (-3)]) = some (.ds [(newW 0).d]) := run_of (n := 4000) (by kernel_rfl)
theorem has_two2 {x : D} (h : Sh.has (.ar 2 (.i .u8)) x) : ∃ t : Int × Int, x = twoD t ∧ True := by
  obtain ⟨l, rfl, h1, h2⟩ := has_ar h
  obtain ⟨m, rfl, hm⟩ := all_typed (f := D.int .u8) (fun y hy => has_int hy) l h2
  match m, h1, hm with
  | [a, b], _, hm => exact ⟨(a, b), rfl, trivial⟩
theorem law_WatchAll (xs : List D) (h : Sh.hasL [.i .u8, .sl (.ar 2 (.i .u8)), .i .i64] xs) : run kp (.data f_law23_WatchAll xs) = some (.ds [.bool true]) := by
  obtain ⟨x1, _, rfl, h1, h⟩ := hasL_cons h
  obtain ⟨x2, _, rfl, h2, h⟩ := hasL_cons h
  obtain ⟨x3, _, rfl, h3, h⟩ := hasL_cons h
  obtain rfl := hasL_nil h
  obtain ⟨n, rfl, k1⟩ := has_int h1
  obtain ⟨nl, l, rfl, _, _, h5⟩ := has_sl h2
  obtain ⟨m, rfl, _⟩ := all_typed (f := twoD) (fun y hy => has_two2 hy) l h5
  obtain ⟨q, rfl, _⟩ := has_int h3
  have hn := wf_u8 k1
  rw [run_data, run_call, kp_law23_WatchAll]
  by_cases hl : m.length ≤ 60
  · have a1 : ¬ (60 : Int) < m.length := by omega
    obtain ⟨N, hN, hN9⟩ : ∃ N : Nat, IntKind.i64.wrap (n.tmod 10) = (N : Int) ∧ N ≤ 9 := by
      refine ⟨(n % 10).toNat, ?_, by omega⟩
      rw [Int.tmod_eq_emod_of_nonneg hn.1, wrap_i64 (by omega) (by omega)]; omega
    have n1 := watch_New N hN9
    have n2 := ref19_NewWatch N hN9
    obtain ⟨w, ok, e⟩ := wa_loop nl m (by omega) q m [] rfl 0 rfl (newW N) (newW_ok N (by omega))
    have g1 := watch_Good w ok q
    have g2 := ref19_Good w ok q
    have g4 := same_watch _ (goodF_ok w ok q)
    have m1 := watch_Miss w ok q
    have m2 := ref19_Miss w ok q
    have m4 := same_watch _ (missF_ok w ok q)
    have n3 := watch_New3
    generalize goodF w q = v at *
    generalize missF w q = u at *
    obtain ⟨u, a, b⟩ := u
    generalize newW N = nw at *
    simp only [Watch.d, waSt, List.append_nil, List.cons_append, List.nil_append] at *
    simp [newW] at n3
    simp [k_law23_WatchAll, watch_begun, a1, hN, n1, n2, e, g1, g2, g4, m1, m2, m4, n3]
  · have a1 : (60 : Int) < m.length := by omega
    simp [k_law23_WatchAll, watch_begun, a1]
end Go.Cd
