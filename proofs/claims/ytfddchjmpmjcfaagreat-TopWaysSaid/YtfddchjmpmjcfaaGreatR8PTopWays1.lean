/- Texts of this session in one. No conditions. -/
import Derived.Test.YtfddchjmpmjcfaaGreatR8QTwI
import Derived.Test.YtfddchjmpmjcfaaGreatR8QTwA
set_option linter.unusedVariables false
set_option linter.unusedSimpArgs false
namespace Go.Cd
open Go Go.Fw
def zI : D := .agg [.int .i64 0, .int .i64 0, .int .i64 0, .int .i64 0]
def fil (x : D) (n i : Nat) : List D := List.replicate i x ++ List.replicate (n - i) zI
theorem fil_zero (x : D) (n : Nat) : fil x n 0 = List.replicate n zI := by simp [fil]
theorem fil_len (x : D) {n i : Nat} (h : i ≤ n) : (fil x n i).length = n := by simp [fil]; omega
theorem fil_get (x : D) {n i : Nat} (h : i < n) : (fil x n i)[i]? = some zI := by
  rw [fil, List.getElem?_append_right (by simp), List.getElem?_replicate]
  simp; omega
theorem fil_set (x : D) {n i : Nat} (h : i < n) : (fil x n i).set i x = fil x n (i + 1) := by
  obtain ⟨k, rfl⟩ : ∃ k, n = i + k + 1 := ⟨n - i - 1, by omega⟩
  have e1 : i + k + 1 - i = k + 1 := by omega
  have e2 : i + k + 1 - (i + 1) = k := by omega
  rw [fil, fil, e1, e2, List.set_append_right _ _ (by simp), List.replicate_succ, List.replicate_succ']
  simp
def wSA (inn : Int) (hn : Bool) (H : List D) (m q i : Nat) (ext : Env) : St := ⟨[(0, V.int .i64 inn), (3, V.d (.sl hn H)), (9, V.int .i64 ((m + 1 : Nat) : Int)), (10, V.sl false 0 0 (m + 1)), (11, V.sl false 1 0 (q + 1)), (12, V.int .i64 (i : Int))] ++ ext, [(0, Blk.row true (fil addI.d (m + 1) i)), (1, Blk.row true (List.replicate (q + 1) zI))], fun _ => none, 0, 2⟩
set_option maxRecDepth 10000 in
set_option maxHeartbeats 8000000 in
theorem wA_end (inn : Int) (hn : Bool) (H : List D) (m q : Nat) (hm : 1 ≤ m ∧ m ≤ 9) : run kp (.loop [0, 3, 9, 10, 11, 12] k_top_TopWays_L0 (wSA inn hn H m q m [])) = some (.out (.ext 0) (wSA inn hn H m q m [(54, .bool false)])) := by
  have w3 : IntKind.i64.wrap ((m + 1 : Nat) - 1 : Int) = (m : Int) := by rw [wrap_i64 (by omega) (by omega)]; omega
  unfold wSA
  generalize m + 1 = c at *
  rw [run_round]
  simp [c_top_TopWays_L0, k_top_TopWays_L0b, w3]
set_option maxRecDepth 10000 in
set_option maxHeartbeats 8000000 in
theorem wA_round (inn : Int) (hn : Bool) (H : List D) (m q i : Nat) (hm : 1 ≤ m ∧ m ≤ 9) (hi : i < m) : run kp (.loop [0, 3, 9, 10, 11, 12] k_top_TopWays_L0 (wSA inn hn H m q i [])) = run kp (.loop [0, 3, 9, 10, 11, 12] k_top_TopWays_L0 (wSA inn hn H m q (i + 1) [])) := by
  have w3 : IntKind.i64.wrap ((m + 1 : Nat) - 1 : Int) = (m : Int) := by rw [wrap_i64 (by omega) (by omega)]; omega
  have w4 : IntKind.i64.wrap ((i : Int) + 1) = ((i + 1 : Nat) : Int) := by rw [wrap_i64 (by omega) (by omega)]; omega
  have f1 := fil_get addI.d (n := m + 1) (i := i) (by omega)
  have f2 := fil_set addI.d (n := m + 1) (i := i) (by omega)
  have f3 := fil_len addI.d (n := m + 1) (i := i) (by omega)
  have hc : i < m + 1 := by omega
  unfold wSA
  simp only [addI, Inst.d] at f1 f2 f3 ⊢
  generalize m + 1 = c at *
  generalize i + 1 = i' at *
  rw [run_round]
  simp [c_top_TopWays_L0, k_top_TopWays_L0b, w3, w4, hi, hc, f1, f2, f3]
theorem wA_run (inn : Int) (hn : Bool) (H : List D) (m q : Nat) (hm : 1 ≤ m ∧ m ≤ 9) : ∀ (k i : Nat), i + k = m → run kp (.loop [0, 3, 9, 10, 11, 12] k_top_TopWays_L0 (wSA inn hn H m q i [])) = some (.out (.ext 0) (wSA inn hn H m q m [(54, .bool false)]))
  | 0, i, h => by
    obtain rfl : i = m := by omega
    exact wA_end inn hn H i q hm
  | k + 1, i, h => by
    rw [wA_round inn hn H m q i hm (by omega)]
    exact wA_run inn hn H m q hm k (i + 1) (by omega)
def wSB (inn : Int) (hn : Bool) (H : List D) (m q i : Nat) (ext : Env) : St := ⟨[(0, V.int .i64 inn), (3, V.d (.sl hn H)), (9, V.int .i64 ((m + 1 : Nat) : Int)), (10, V.sl false 0 0 (m + 1)), (11, V.sl false 1 0 (q + 1)), (13, V.int .i64 (i : Int))] ++ ext, [(0, Blk.row true (fil addI.d (m + 1) m)), (1, Blk.row true (fil setI.d (q + 1) i))], fun _ => none, 0, 2⟩
set_option maxRecDepth 10000 in
set_option maxHeartbeats 8000000 in
theorem wB_end (inn : Int) (hn : Bool) (H : List D) (m q : Nat) (hq : 1 ≤ q ∧ q ≤ 9) : run kp (.loop [0, 3, 9, 10, 11, 13] k_top_TopWays_L1 (wSB inn hn H m q q [])) = some (.out (.ext 2) (wSB inn hn H m q q [(65, .bool false)])) := by
  have w3 : IntKind.i64.wrap ((q + 1 : Nat) - 1 : Int) = (q : Int) := by rw [wrap_i64 (by omega) (by omega)]; omega
  unfold wSB
  generalize m + 1 = c at *
  generalize q + 1 = w at *
  rw [run_round]
  simp [c_top_TopWays_L1, k_top_TopWays_L1b, w3]
set_option maxRecDepth 10000 in
set_option maxHeartbeats 8000000 in
theorem wB_round (inn : Int) (hn : Bool) (H : List D) (m q i : Nat) (hq : 1 ≤ q ∧ q ≤ 9) (hi : i < q) : run kp (.loop [0, 3, 9, 10, 11, 13] k_top_TopWays_L1 (wSB inn hn H m q i [])) = run kp (.loop [0, 3, 9, 10, 11, 13] k_top_TopWays_L1 (wSB inn hn H m q (i + 1) [])) := by
  have w3 : IntKind.i64.wrap ((q + 1 : Nat) - 1 : Int) = (q : Int) := by rw [wrap_i64 (by omega) (by omega)]; omega
  have w4 : IntKind.i64.wrap ((i : Int) + 1) = ((i + 1 : Nat) : Int) := by rw [wrap_i64 (by omega) (by omega)]; omega
  have f1 := fil_get setI.d (n := q + 1) (i := i) (by omega)
  have f2 := fil_set setI.d (n := q + 1) (i := i) (by omega)
  have f3 := fil_len setI.d (n := q + 1) (i := i) (by omega)
  have hc : i < q + 1 := by omega
  unfold wSB
  simp only [setI, Inst.d] at f1 f2 f3 ⊢
  generalize m + 1 = c at *
  generalize q + 1 = w at *
  generalize i + 1 = i' at *
  rw [run_round]
  simp [c_top_TopWays_L1, k_top_TopWays_L1b, w3, w4, hi, hc, f1, f2, f3]
theorem wB_run (inn : Int) (hn : Bool) (H : List D) (m q : Nat) (hq : 1 ≤ q ∧ q ≤ 9) : ∀ (k i : Nat), i + k = q → run kp (.loop [0, 3, 9, 10, 11, 13] k_top_TopWays_L1 (wSB inn hn H m q i [])) = some (.out (.ext 2) (wSB inn hn H m q q [(65, .bool false)]))
  | 0, i, h => by
    obtain rfl : i = q := by omega
    exact wB_end inn hn H m i hq
  | k + 1, i, h => by
    rw [wB_round inn hn H m q i hq (by omega)]
    exact wB_run inn hn H m q hq k (i + 1) (by omega)
theorem fil_add (m : Nat) : fil addI.d (m + 1) m = (adds m).map Inst.d := by
  have : m + 1 - m = 1 := by omega
  simp [fil, adds, this, zI, endJ, Inst.d]
theorem fil_sets (m : Nat) : fil setI.d (m + 1) m = (sets m).map Inst.d := by
  have : m + 1 - m = 1 := by omega
  simp [fil, sets, this, zI, endJ, Inst.d]
def twT (m q : Nat) : Ts := tsOf 1 40 40 (adds m) false (sets q)
theorem adds_len (m : Nat) : (adds m).length = m + 1 := by simp [adds]
theorem sets_len (m : Nat) : (sets m).length = m + 1 := by simp [sets]
theorem rk_adds {m : Nat} (h : 1 ≤ m ∧ m ≤ 9) : MayOk (adds m) ∧ OfOk (adds m) := by
  obtain rfl | rfl | rfl | rfl | rfl | rfl | rfl | rfl | rfl : m = 1 ∨ m = 2 ∨ m = 3 ∨ m = 4 ∨ m = 5 ∨ m = 6 ∨ m = 7 ∨ m = 8 ∨ m = 9 := by omega
  · exact ⟨may_adds1, of_adds1⟩
  · exact ⟨may_adds2, of_adds2⟩
  · exact ⟨may_adds3, of_adds3⟩
  · exact ⟨may_adds4, of_adds4⟩
  · exact ⟨may_adds5, of_adds5⟩
  · exact ⟨may_adds6, of_adds6⟩
  · exact ⟨may_adds7, of_adds7⟩
  · exact ⟨may_adds8, of_adds8⟩
  · exact ⟨may_adds9, of_adds9⟩
theorem rk_sets {m : Nat} (h : 1 ≤ m ∧ m ≤ 9) : MayOk (sets m) ∧ OfOk (sets m) := by
  obtain rfl | rfl | rfl | rfl | rfl | rfl | rfl | rfl | rfl : m = 1 ∨ m = 2 ∨ m = 3 ∨ m = 4 ∨ m = 5 ∨ m = 6 ∨ m = 7 ∨ m = 8 ∨ m = 9 := by omega
  · exact ⟨may_sets1, of_sets1⟩
  · exact ⟨may_sets2, of_sets2⟩
  · exact ⟨may_sets3, of_sets3⟩
  · exact ⟨may_sets4, of_sets4⟩
  · exact ⟨may_sets5, of_sets5⟩
  · exact ⟨may_sets6, of_sets6⟩
  · exact ⟨may_sets7, of_sets7⟩
  · exact ⟨may_sets8, of_sets8⟩
  · exact ⟨may_sets9, of_sets9⟩
theorem tmay_way {q : Nat} (h : 1 ≤ q ∧ q ≤ 9) : run kp (.data f_task_may [.sl false ((sets q).map Inst.d)]) = some (.ds [.bool true]) := by
  obtain ⟨m, o⟩ := rk_sets h
  exact tmay_K false _ (n := 0) ⟨m, o⟩
theorem tw_ok {m q : Nat} (hm : 1 ≤ m ∧ m ≤ 9) (hq : 1 ≤ q ∧ q ≤ m) : TsOk 1 40 40 (adds m) false (sets q) ((m + 1 : Nat) : Int) ((m + 1 : Nat) : Int) ((q + 1 : Nat) : Int) (q + 1) := by
  obtain ⟨a1, a2⟩ := rk_adds hm
  obtain ⟨b1, b2⟩ := rk_sets (m := q) (by omega)
  unfold OfOk at a2 b2
  rw [adds_len] at a2
  rw [sets_len] at b2
  exact ⟨⟨by omega, by omega, by omega, ⟨a1, a2⟩, tmay_way (by omega), .inl ⟨b2, rfl⟩, by omega, by omega⟩, by rw [adds_len]; omega, by rw [sets_len]; omega, by simp, by omega, by omega, by omega⟩
theorem tw_no9 (m q : Nat) : ∀ i ∈ adds m ++ sets q, ¬ i.op = 9 := by
  intro i hi
  simp only [adds, sets, List.mem_append, List.mem_replicate, List.mem_singleton] at hi
  rcases hi with (⟨_, rfl⟩ | rfl) | (⟨_, rfl⟩ | rfl) <;> simp [addI, setI, endJ]
theorem tw_all {m q : Nat} (hm : 1 ≤ m ∧ m ≤ 9) (hq : 1 ≤ q ∧ q ≤ m) : run kp (.datk f_trial_All [.int .i64 40, .sl false [stD 1 (clD 1 (twT m q).d 0 0) 0, stD 1 (clD 5 zT 0 0) 0]]) = some (.ds [(r1 0 40 (twT m q) (bdD ((m + 1 : Nat) : Int) (q + 1) 40) false true []).d, .sl true [], .sl false [rpD 0, rpD 0], .bool true]) :=
  all_begin (tw_ok hm hq) (tw_no9 m q) (by rw [adds_len]; omega) 40 (by omega)
end Go.Cd
namespace Go.Cd
open Go Go.Fw
def w3S (inn : Int) (hn : Bool) (H : List D) (m q : Nat) (K : List D) (g : Nat) (at_ last : Int) (fr : Bool) (i : Nat) (ext : Env) : St :=
  ⟨[(0, V.int .i64 inn), (3, V.d (.sl hn H)), (9, V.int .i64 ((m + 1 : Nat) : Int)), (11, V.sl false 0 0 (q + 1)), (15, V.ptr 1 []), (19, V.int .i64 (g : Int)), (23, V.int .i64 at_), (24, V.int .i64 last), (25, V.bool fr), (26, V.int .i64 (i : Int))] ++ ext, [(0, Blk.row false ((sets q).map Inst.d)), (1, Blk.box (V.d (.agg K)))], fun _ => none, 0, 2⟩
set_option maxRecDepth 10000 in
set_option maxHeartbeats 8000000 in
theorem w3_idle (inn : Int) (hn : Bool) (H : List D) (m q : Nat) (hm : 1 ≤ m ∧ m ≤ 9) (hq : 1 ≤ q ∧ q ≤ m) (g : Nat) (hg : g < H.length) (u : Int) (v : Int) (hv : 0 ≤ v ∧ v < 256) (hH : H[g]? = some (.int .u8 v)) (eu : v.tmod 40 = u) (hu : 0 ≤ u ∧ u < 40) (at_ last : Int) (fr : Bool) (i : Nat) (hi : i < 40)  (h : ¬ (i : Int) = u) (K K' : List D)
    (t : run kp (.datk f_trial_Do [.agg K, stD 2 zCl 0]) = some (.ds [.agg K', .sl true [], rpD 0])) :
    run kp (.loop [0, 3, 9, 11, 15, 19, 23, 24, 25, 26] k_top_TopWays_L3 (w3S inn hn H m q K g at_ last fr i [])) = run kp (.loop [0, 3, 9, 11, 15, 19, 23, 24, 25, 26] k_top_TopWays_L3 (w3S inn hn H m q K' g at_ last fr (i + 1) [])) := by
  have w1 : IntKind.i64.wrap u = u := wrap_i64 (by omega) (by omega)
  have w2 : IntKind.i64.wrap ((i : Int) + 1) = ((i + 1 : Nat) : Int) := by rw [wrap_i64 (by omega) (by omega)]; omega
  have wz1 : IntKind.i64.wrap 1 = 1 := rfl
  have wz2 : IntKind.i64.wrap 2 = 2 := rfl
  have wz3 : IntKind.i64.wrap 3 = 3 := rfl
  have hi2 : (i : Int) < 40 := by omega
  have hH2 : ∀ hh : g < H.length, H[g]'hh = .int .u8 v := fun hh => by rw [List.getElem?_eq_getElem hh] at hH; injection hH
  unfold w3S
  simp only [stD, zCl, zT, hz, rpD, evD] at t
  generalize m + 1 = c at *
  generalize q + 1 = w at *
  generalize i + 1 = i' at *
  generalize (sets q).map Inst.d = S at *
  rw [run_round]
  simp [c_top_TopWays_L3, k_top_TopWays_L3b, w1, hi2, hH, hH2, hg, eu, h, t]
  rw [run_round]
  simp [c_top_TopWays_L4, k_top_TopWays_L4b, w2]
set_option maxRecDepth 10000 in
set_option maxHeartbeats 8000000 in
theorem w3_hitidle (inn : Int) (hn : Bool) (H : List D) (m q : Nat) (hm : 1 ≤ m ∧ m ≤ 9) (hq : 1 ≤ q ∧ q ≤ m) (g : Nat) (hg : g < H.length) (u : Int) (v : Int) (hv : 0 ≤ v ∧ v < 256) (hH : H[g]? = some (.int .u8 v)) (eu : v.tmod 40 = u) (hu : 0 ≤ u ∧ u < 40) (at_ last : Int) (fr : Bool) (i : Nat) (hi : i < 40)  (h : u = (i : Int)) (K Kh K' : List D)
    (th : run kp (.datk f_trial_Do [.agg K, stD 3 zCl 0]) = some (.ds [.agg Kh, .sl true [], rpD 0]))
    (t : run kp (.datk f_trial_Do [.agg Kh, stD 2 zCl 0]) = some (.ds [.agg K', .sl true [], rpD 0])) :
    run kp (.loop [0, 3, 9, 11, 15, 19, 23, 24, 25, 26] k_top_TopWays_L3 (w3S inn hn H m q K g at_ last fr i [])) = run kp (.loop [0, 3, 9, 11, 15, 19, 23, 24, 25, 26] k_top_TopWays_L3 (w3S inn hn H m q K' g at_ last fr (i + 1) [])) := by
  have w1 : IntKind.i64.wrap u = u := wrap_i64 (by omega) (by omega)
  have w2 : IntKind.i64.wrap ((i : Int) + 1) = ((i + 1 : Nat) : Int) := by rw [wrap_i64 (by omega) (by omega)]; omega
  have wz1 : IntKind.i64.wrap 1 = 1 := rfl
  have wz2 : IntKind.i64.wrap 2 = 2 := rfl
  have wz3 : IntKind.i64.wrap 3 = 3 := rfl
  have hi2 : (i : Int) < 40 := by omega
  have hH2 : ∀ hh : g < H.length, H[g]'hh = .int .u8 v := fun hh => by rw [List.getElem?_eq_getElem hh] at hH; injection hH
  unfold w3S
  simp only [stD, zCl, zT, hz, rpD, evD] at t th
  have w1' : IntKind.i64.wrap (i : Int) = (i : Int) := wrap_i64 (by omega) (by omega)
  subst h
  generalize m + 1 = c at *
  generalize q + 1 = w at *
  generalize i + 1 = i' at *
  generalize (sets q).map Inst.d = S at *
  rw [run_round]
  simp [c_top_TopWays_L3, k_top_TopWays_L3b, w1, hi2, hH, hH2, hg, eu, th, t]
  rw [run_round]
  simp [c_top_TopWays_L4, k_top_TopWays_L4b, w2]
set_option maxRecDepth 10000 in
set_option maxHeartbeats 8000000 in
theorem w3_turn (inn : Int) (hn : Bool) (H : List D) (m q : Nat) (hm : 1 ≤ m ∧ m ≤ 9) (hq : 1 ≤ q ∧ q ≤ m) (g : Nat) (hg : g < H.length) (u : Int) (v : Int) (hv : 0 ≤ v ∧ v < 256) (hH : H[g]? = some (.int .u8 v)) (eu : v.tmod 40 = u) (hu : 0 ≤ u ∧ u < 40) (at_ last : Int) (i : Nat) (hi : i < 40) (now : Int) (h : u = (i : Int)) (K Kh K' : List D)
    (th : run kp (.datk f_trial_Do [.agg K, stD 3 zCl 0]) = some (.ds [.agg Kh, .sl true [], rpD 0]))
    (t : run kp (.datk f_trial_Do [.agg Kh, stD 2 zCl 0]) = some (.ds [.agg K', .sl false [evD now 2 0 0, evD now 7 0 0], rpD 0])) :
    run kp (.loop [0, 3, 9, 11, 15, 19, 23, 24, 25, 26] k_top_TopWays_L3 (w3S inn hn H m q K g at_ last false i [])) = run kp (.loop [0, 3, 9, 11, 15, 19, 23, 24, 25, 26] k_top_TopWays_L3 (w3S inn hn H m q K' g at_ last false (i + 1) [])) := by
  have w1 : IntKind.i64.wrap u = u := wrap_i64 (by omega) (by omega)
  have w2 : IntKind.i64.wrap ((i : Int) + 1) = ((i + 1 : Nat) : Int) := by rw [wrap_i64 (by omega) (by omega)]; omega
  have wz1 : IntKind.i64.wrap 1 = 1 := rfl
  have wz2 : IntKind.i64.wrap 2 = 2 := rfl
  have wz3 : IntKind.i64.wrap 3 = 3 := rfl
  have hi2 : (i : Int) < 40 := by omega
  have hH2 : ∀ hh : g < H.length, H[g]'hh = .int .u8 v := fun hh => by rw [List.getElem?_eq_getElem hh] at hH; injection hH
  unfold w3S
  simp only [stD, zCl, zT, hz, rpD, evD] at t th
  have w1' : IntKind.i64.wrap (i : Int) = (i : Int) := wrap_i64 (by omega) (by omega)
  subst h
  generalize m + 1 = c at *
  generalize q + 1 = w at *
  generalize i + 1 = i' at *
  generalize (sets q).map Inst.d = S at *
  rw [run_round]
  simp [c_top_TopWays_L3, k_top_TopWays_L3b, w1, hi2, hH, hH2, hg, eu, th, t]
  rw [run_round]
  simp [c_top_TopWays_L4, k_top_TopWays_L4b, wz1, w1, hH, hH2, hg, eu]
  rw [run_round]
  simp [c_top_TopWays_L4, k_top_TopWays_L4b, wz2, w1, hH, hH2, hg, eu]
  rw [run_round]
  simp [c_top_TopWays_L4, k_top_TopWays_L4b, w2]
set_option maxRecDepth 10000 in
set_option maxHeartbeats 8000000 in
theorem w3_ran (inn : Int) (hn : Bool) (H : List D) (m q : Nat) (hm : 1 ≤ m ∧ m ≤ 9) (hq : 1 ≤ q ∧ q ≤ m) (g : Nat) (hg : g < H.length) (u : Int) (v : Int) (hv : 0 ≤ v ∧ v < 256) (hH : H[g]? = some (.int .u8 v)) (eu : v.tmod 40 = u) (hu : 0 ≤ u ∧ u < 40) (at_ last : Int) (i : Nat) (hi : i < 40) (now : Int) (h : ¬ (i : Int) = u) (K K' : List D)
    (t : run kp (.datk f_trial_Do [.agg K, stD 2 zCl 0]) = some (.ds [.agg K', .sl false [evD now 2 0 0], rpD 0])) :
    run kp (.loop [0, 3, 9, 11, 15, 19, 23, 24, 25, 26] k_top_TopWays_L3 (w3S inn hn H m q K g at_ last false i [])) = run kp (.loop [0, 3, 9, 11, 15, 19, 23, 24, 25, 26] k_top_TopWays_L3 (w3S inn hn H m q K' g at_ last false (i + 1) [])) := by
  have w1 : IntKind.i64.wrap u = u := wrap_i64 (by omega) (by omega)
  have w2 : IntKind.i64.wrap ((i : Int) + 1) = ((i + 1 : Nat) : Int) := by rw [wrap_i64 (by omega) (by omega)]; omega
  have wz1 : IntKind.i64.wrap 1 = 1 := rfl
  have wz2 : IntKind.i64.wrap 2 = 2 := rfl
  have wz3 : IntKind.i64.wrap 3 = 3 := rfl
  have hi2 : (i : Int) < 40 := by omega
  have hH2 : ∀ hh : g < H.length, H[g]'hh = .int .u8 v := fun hh => by rw [List.getElem?_eq_getElem hh] at hH; injection hH
  unfold w3S
  simp only [stD, zCl, zT, hz, rpD, evD] at t
  generalize m + 1 = c at *
  generalize q + 1 = w at *
  generalize i + 1 = i' at *
  generalize (sets q).map Inst.d = S at *
  rw [run_round]
  simp [c_top_TopWays_L3, k_top_TopWays_L3b, w1, hi2, hH, hH2, hg, eu, h, t]
  rw [run_round]
  simp [c_top_TopWays_L4, k_top_TopWays_L4b, wz1, w1, hH, hH2, hg, eu]
  rw [run_round]
  simp [c_top_TopWays_L4, k_top_TopWays_L4b, w2]
set_option maxRecDepth 10000 in
set_option maxHeartbeats 8000000 in
theorem w3_freed (inn : Int) (hn : Bool) (H : List D) (m q : Nat) (hm : 1 ≤ m ∧ m ≤ 9) (hq : 1 ≤ q ∧ q ≤ m) (g : Nat) (hg : g < H.length) (u : Int) (v : Int) (hv : 0 ≤ v ∧ v < 256) (hH : H[g]? = some (.int .u8 v)) (eu : v.tmod 40 = u) (hu : 0 ≤ u ∧ u < 40) (at_ last : Int) (i : Nat) (hi : i < 40) (now x : Int) (hu : ¬ u < (m + 1 : Nat)) (hx : x = IntKind.i64.wrap (inn * 2 ^ m)) (h : ¬ (i : Int) = u) (K K' : List D)
    (t : run kp (.datk f_trial_Do [.agg K, stD 2 zCl 0]) = some (.ds [.agg K', .sl false [evD now 2 0 0, evD now 3 0 x, evD now 8 0 0], rpD 0])) :
    run kp (.loop [0, 3, 9, 11, 15, 19, 23, 24, 25, 26] k_top_TopWays_L3 (w3S inn hn H m q K g at_ last false i [])) = run kp (.loop [0, 3, 9, 11, 15, 19, 23, 24, 25, 26] k_top_TopWays_L3 (w3S inn hn H m q K' g at_ (i : Int) true (i + 1) [])) := by
  have w1 : IntKind.i64.wrap u = u := wrap_i64 (by omega) (by omega)
  have w2 : IntKind.i64.wrap ((i : Int) + 1) = ((i + 1 : Nat) : Int) := by rw [wrap_i64 (by omega) (by omega)]; omega
  have wz1 : IntKind.i64.wrap 1 = 1 := rfl
  have wz2 : IntKind.i64.wrap 2 = 2 := rfl
  have wz3 : IntKind.i64.wrap 3 = 3 := rfl
  have hi2 : (i : Int) < 40 := by omega
  have hH2 : ∀ hh : g < H.length, H[g]'hh = .int .u8 v := fun hh => by rw [List.getElem?_eq_getElem hh] at hH; injection hH
  have wb : min m IntKind.i64.bits = m := by have : IntKind.i64.bits = 64 := rfl; omega
  have wn : ¬ (m : Int) < 0 := by omega
  have w3 : IntKind.i64.wrap ((m + 1 : Nat) - 1 : Int) = (m : Int) := by rw [wrap_i64 (by omega) (by omega)]; omega
  unfold w3S
  simp only [stD, zCl, zT, hz, rpD, evD] at t
  generalize m + 1 = c at *
  generalize q + 1 = w at *
  generalize i + 1 = i' at *
  generalize (sets q).map Inst.d = S at *
  rw [run_round]
  simp [c_top_TopWays_L3, k_top_TopWays_L3b, w1, hi2, hH, hH2, hg, eu, h, t]
  rw [run_round]
  simp [c_top_TopWays_L4, k_top_TopWays_L4b, wz1, w1, hH, hH2, hg, eu, w3, hu, wb, wn, hx]
  rw [run_round]
  simp [c_top_TopWays_L4, k_top_TopWays_L4b, wz2, w1, hH, hH2, hg, eu, w3, hu, wb, wn, hx]
  rw [run_round]
  simp [c_top_TopWays_L4, k_top_TopWays_L4b, wz3, w1, hH, hH2, hg, eu, w3, hu, wb, wn, hx]
  rw [run_round]
  simp [c_top_TopWays_L4, k_top_TopWays_L4b, w2]
set_option maxRecDepth 10000 in
set_option maxHeartbeats 8000000 in
theorem w3_done (inn : Int) (hn : Bool) (H : List D) (m q : Nat) (hm : 1 ≤ m ∧ m ≤ 9) (hq : 1 ≤ q ∧ q ≤ m) (g : Nat) (hg : g < H.length) (u : Int) (v : Int) (hv : 0 ≤ v ∧ v < 256) (hH : H[g]? = some (.int .u8 v)) (eu : v.tmod 40 = u) (hu : 0 ≤ u ∧ u < 40) (at_ last : Int) (i : Nat) (hi : i < 40) (now : Int) (hu : u < (m + 1 : Nat)) (h : ¬ (i : Int) = u) (K K' : List D)
    (t : run kp (.datk f_trial_Do [.agg K, stD 2 zCl 0]) = some (.ds [.agg K', .sl false [evD now 2 0 0, evD now 3 0 7], rpD 0])) :
    run kp (.loop [0, 3, 9, 11, 15, 19, 23, 24, 25, 26] k_top_TopWays_L3 (w3S inn hn H m q K g at_ last false i [])) = run kp (.loop [0, 3, 9, 11, 15, 19, 23, 24, 25, 26] k_top_TopWays_L3 (w3S inn hn H m q K' g at_ (i : Int) false (i + 1) [])) := by
  have w1 : IntKind.i64.wrap u = u := wrap_i64 (by omega) (by omega)
  have w2 : IntKind.i64.wrap ((i : Int) + 1) = ((i + 1 : Nat) : Int) := by rw [wrap_i64 (by omega) (by omega)]; omega
  have wz1 : IntKind.i64.wrap 1 = 1 := rfl
  have wz2 : IntKind.i64.wrap 2 = 2 := rfl
  have wz3 : IntKind.i64.wrap 3 = 3 := rfl
  have hi2 : (i : Int) < 40 := by omega
  have hH2 : ∀ hh : g < H.length, H[g]'hh = .int .u8 v := fun hh => by rw [List.getElem?_eq_getElem hh] at hH; injection hH
  have wb : min m IntKind.i64.bits = m := by have : IntKind.i64.bits = 64 := rfl; omega
  have wn : ¬ (m : Int) < 0 := by omega
  have w3 : IntKind.i64.wrap ((m + 1 : Nat) - 1 : Int) = (m : Int) := by rw [wrap_i64 (by omega) (by omega)]; omega
  unfold w3S
  simp only [stD, zCl, zT, hz, rpD, evD] at t
  generalize m + 1 = c at *
  generalize q + 1 = w at *
  generalize i + 1 = i' at *
  generalize (sets q).map Inst.d = S at *
  rw [run_round]
  simp [c_top_TopWays_L3, k_top_TopWays_L3b, w1, hi2, hH, hH2, hg, eu, h, t]
  rw [run_round]
  simp [c_top_TopWays_L4, k_top_TopWays_L4b, wz1, w1, hH, hH2, hg, eu, w3, hu, wb, wn]
  rw [run_round]
  simp [c_top_TopWays_L4, k_top_TopWays_L4b, wz2, w1, hH, hH2, hg, eu, w3, hu, wb, wn]
  rw [run_round]
  simp [c_top_TopWays_L4, k_top_TopWays_L4b, w2]
end Go.Cd
