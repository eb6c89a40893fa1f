/- The law FaultLoses, as the evaluator has it. No conditions. -/
import Derived.Test.YtnchpinimmdfoaaR5QFault2
set_option linter.unusedVariables false
set_option linter.unusedSimpArgs false
namespace Go.Cd
open Go Go.Fw
theorem sameI_loop (n1 n2 : Bool) (l : List Int) (hf : l.length ≤ 1000) : ∀ (rest pre : List Int), l = pre ++ rest → ∀ (i : Int), i = pre.length →
    run kp (.loop [0, 1, 5] k_ref11_SameInts_L0 { env := [(0, .asl n1 (l.map (.int .i64))), (1, .asl n2 (l.map (.int .i64))), (5, .int .i64 i)], hp := [], tl := fun _ => none, base := 0, next := 0 }) =
    some (.out (.ext 0) { env := [(0, .asl n1 (l.map (.int .i64))), (1, .asl n2 (l.map (.int .i64))), (5, .int .i64 l.length), (14, .bool false)], hp := [], tl := fun _ => none, base := 0, next := 0 })
  | [], pre, h, i, hi => by
    simp at h
    subst h hi
    rw [run_round]
    simp [c_ref11_SameInts_L0, k_ref11_SameInts_L0b]
  | w :: rest, pre, h, i, hi => by
    have hli : i < l.length := by rw [h, hi]; simp; omega
    have h0 : 0 ≤ i := by omega
    have hget0 : l[i.toNat]? = some w := by rw [h, hi]; simp
    have hget : ∀ hh : i.toNat < l.length, l[i.toNat] = w := fun hh => by rw [List.getElem?_eq_getElem hh] at hget0; injection hget0
    have hw : IntKind.i64.wrap (i + 1) = i + 1 := wrap_i64 (by omega) (by omega)
    have ih := sameI_loop n1 n2 l hf rest (pre ++ [w]) (by simp [h]) (i + 1) (by simp [hi])
    rw [← ih, run_round]
    simp [c_ref11_SameInts_L0, k_ref11_SameInts_L0b, h0, hli, hget, hw]
theorem same_ints (n1 n2 : Bool) (l : List Int) (hf : l.length ≤ 1000) : run kp (.data f_ref11_SameInts [.sl n1 (l.map (.int .i64)), .sl n2 (l.map (.int .i64))]) = some (.ds [.bool true]) := by
  rw [run_data, run_call, kp_ref11_SameInts]
  have hl := sameI_loop n1 n2 l hf l [] rfl 0 rfl
  simp [k_ref11_SameInts, hl]
theorem same_mI (x : Int) : run kp (.data f_ref1_SameMachine [mI x, mI x]) = some (.ds [.bool true]) := by
  rw [run_data, run_call, kp_ref1_SameMachine]
  simp [k_ref1_SameMachine, mI]
  rw [run_round]
  simp [c_ref1_SameMachine_L0, k_ref1_SameMachine_L0b]
set_option maxRecDepth 10000 in
set_option maxHeartbeats 4000000 in
theorem same_jI (t a i p x : Int) (n1 n2 up : Bool) (l : List Int) (hl : l.length ≤ 1000) : run kp (.data f_ref19_SameJob [jI t a i p x n1 l up, jI t a i p x n2 l up]) = some (.ds [.bool true]) := by
  rw [run_data, run_call, kp_ref19_SameJob]
  have m := same_mI x
  have s := same_ints n1 n2 l hl
  simp only [mI] at m
  simp [k_ref19_SameJob, jI, mI, m, s]
set_option maxRecDepth 100000 in
theorem fault_begun : run kp (.data f_law22_begun []) = some (.ds [.bool true]) := run_of (n := 4000) (by kernel_rfl)
set_option maxRecDepth 100000 in
theorem new_job234 : run kp (.data f_ref19_NewJob [.int .i64 2, .int .i64 3, .int .i64 4]) = some (.ds [jI 2 3 4 0 4 true [] false]) := run_of (n := 4000) (by kernel_rfl)
def hOf (x : Int) : Int := IntKind.i64.wrap (x.tmod 4)
def flV (k : Nat) : List Int → V
  | [] => .d (jI 2 3 4 0 4 true [] false)
  | _ :: h => .agg [.int .i64 2, .int .i64 3, .int .i64 4, .int .i64 0, .d (mI 4), .d (mI 4), .sl false k 0 (h.length + 1), .bool false]
def flH (k : Nat) : List Int → Hp
  | [] => []
  | a :: h => [(k, .row true (.int .i64 a :: h.map (.int .i64)))]
def flN : List Int → Nat
  | [] => 0
  | _ :: _ => 1
def flSt (nl : Bool) (held : List Int) (q : Int) (ex : List (Nat × V)) (i : Int) (h : List Int) : St :=
  { env := [(0, .asl nl (held.map (.int .u8))), (1, .int .u8 q), (5, .ptr 0 []), (6, .int .i64 i)] ++ ex, hp := (0, .box (flV 1 h)) :: flH 1 h, tl := fun _ => none, base := 0, next := 1 + flN h }
set_option maxHeartbeats 4000000 in
theorem fl_loop0 (nl : Bool) (held : List Int) (hf : held.length ≤ 1000) (q : Int) : ∀ (rest pre : List Int), held = pre ++ rest → ∀ (i : Int), i = pre.length →
    run kp (.loop [0, 1, 5, 6] k_law22_FaultLoses_L0 (flSt nl held q [] i (pre.map hOf))) = some (.out (.ext 0) (flSt nl held q [(20, .bool false)] held.length (held.map hOf)))
  | [], pre, h, i, hi => by
    simp at h
    subst h hi
    rw [run_round]
    cases held <;> simp [c_law22_FaultLoses_L0, k_law22_FaultLoses_L0b, flSt, flV, flH, flN, jI, mI]
  | w :: rest, pre, h, i, hi => by
    have hli : i < held.length := by rw [h, hi]; simp; omega
    have h0 : 0 ≤ i := by omega
    have hget0 : held[i.toNat]? = some w := by rw [h, hi]; simp
    have hget : ∀ hh : i.toNat < held.length, held[i.toNat] = w := fun hh => by rw [List.getElem?_eq_getElem hh] at hget0; injection hget0
    have hw : IntKind.i64.wrap (i + 1) = i + 1 := wrap_i64 (by omega) (by omega)
    have ih := fl_loop0 nl held hf q rest (pre ++ [w]) (by simp [h]) (i + 1) (by simp [hi])
    rw [← ih, run_round]
    have hp : (pre.map hOf).length ≤ 1000 := by simp; omega
    rw [List.map_append]
    generalize pre.map hOf = pm at *
    cases pm with
    | nil => simp [c_law22_FaultLoses_L0, k_law22_FaultLoses_L0b, h0, hli, hget, hw, flSt, flV, flH, flN, jI, mI, hOf]
    | cons a q =>
      simp only [List.length_cons] at hp
      have : q.length ≤ 1073741822 := by omega
      simp [c_law22_FaultLoses_L0, k_law22_FaultLoses_L0b, h0, hli, hget, hw, flSt, flV, flH, flN, jI, mI, hOf, this]
def mV4 : V := .agg [.int .i64 0, .d (.agg [.int .i64 4, .int .i64 0, .int .i64 0, .int .i64 0, .int .i64 0, .int .i64 0, .int .i64 0, .int .i64 0]), .d (.sl true []), .bool false]
/-- While what is left is looked at: h is what was held. -/
def fkSt (q : Int) (a : Int) (h left : List Int) (ex : List (Nat × V)) (k i : Int) : St :=
  { env := [(1, .int .u8 q), (5, .ptr 0 []), (7, .ptr 2 []), (8, .int .i64 k), (9, .int .i64 i)] ++ ex,
    hp := [(0, .box (flV 1 (a :: h))), (1, .row true (.int .i64 a :: h.map (.int .i64))), (2, .box (.agg [.int .i64 2, .int .i64 3, .int .i64 4, .int .i64 0, mV4, mV4, .sl false 3 0 left.length, .bool false])), (3, .row true (left.map (.int .i64)))], tl := fun _ => none, base := 0, next := 4 }
theorem left_app (s : Int) (a b : List Int) : leftF s (a ++ b) = leftF s a ++ leftF s b := by simp [leftF]
theorem left_cons (s w : Int) (r : List Int) : leftF s (w :: r) = if w = s then leftF s r else w :: leftF s r := by
  unfold leftF
  by_cases h : w = s <;> simp [h]
theorem left_le (s : Int) (l : List Int) : (leftF s l).length ≤ l.length := List.length_filter_le _ _
set_option maxHeartbeats 8000000 in
theorem fl_loop1 (q s : Int) (hs : IntKind.i64.wrap (q.tmod 4) = s) (a : Int) (h : List Int) (hf : h.length ≤ 100) : ∀ (rest pre : List Int), a :: h = pre ++ rest → ∀ (i : Int), i = pre.length →
    run kp (.loop [1, 5, 7, 8, 9] k_law22_FaultLoses_L1 (fkSt q a h (leftF s (a :: h)) [] ((leftF s pre).length : Nat) i)) = some (.out (.ext 2) (fkSt q a h (leftF s (a :: h)) [(43, .bool false)] ((leftF s (a :: h)).length : Nat) (h.length + 1)))
  | [], pre, e, i, hi => by
    simp only [List.append_nil] at e
    subst e
    have hi2 : i = (h.length : Int) + 1 := by simpa using hi
    subst hi2
    generalize leftF s (a :: h) = L
    rw [run_round]
    simp [c_law22_FaultLoses_L1, k_law22_FaultLoses_L1b, fkSt, flV, mI, mV4]
  | w :: rest, pre, e, i, hi => by
    have hel := congrArg List.length e
    simp at hel
    have hli2 : i < (h.length : Int) + 1 := by omega
    have hli3 : i.toNat < h.length + 1 := by omega
    have h0 : 0 ≤ i := by omega
    have hw : IntKind.i64.wrap (i + 1) = i + 1 := wrap_i64 (by omega) (by omega)
    have hget0 : ((a :: h).map (D.int .i64))[i.toNat]? = some (.int .i64 w) := by rw [e, hi]; simp
    simp only [List.map_cons] at hget0
    have hget : ∀ hh : i.toNat < (D.int .i64 a :: h.map (.int .i64)).length, (D.int .i64 a :: h.map (.int .i64))[i.toNat] = .int .i64 w := fun hh => by rw [List.getElem?_eq_getElem hh] at hget0; injection hget0
    have ih := fl_loop1 q s hs a h hf rest (pre ++ [w]) (by simp [e]) (i + 1) (by simp [hi])
    have hL : leftF s (a :: h) = leftF s pre ++ leftF s (w :: rest) := by rw [e, left_app]
    have hle := left_le s (a :: h)
    simp only [List.length_cons] at hle
    rw [← ih, run_round]
    by_cases hws : w = s
    · have h1 : leftF s (pre ++ [w]) = leftF s pre := by rw [left_app, left_cons]; simp [hws, leftF]
      rw [h1]
      generalize leftF s (a :: h) = L at *
      generalize (leftF s pre).length = k at *
      simp [c_law22_FaultLoses_L1, k_law22_FaultLoses_L1b, fkSt, flV, mI, mV4, hli2, hli3, h0, hget, hget0, hw, hs, hws]
    · have h1 : leftF s (pre ++ [w]) = leftF s pre ++ [w] := by rw [left_app, left_cons]; simp [hws, leftF]
      have h2 : leftF s (w :: rest) = w :: leftF s rest := by rw [left_cons, if_neg hws]
      rw [h2] at hL
      have hk0 : (leftF s (a :: h))[(leftF s pre).length]? = some w := by rw [hL]; simp
      have hkl : (leftF s pre).length < (leftF s (a :: h)).length := by rw [hL]; simp
      have hkw : IntKind.i64.wrap (((leftF s pre).length : Nat) + 1 : Int) = (((leftF s pre).length + 1 : Nat) : Int) := by rw [wrap_i64 (by omega) (by omega)]; omega
      rw [h1, List.length_append]
      simp only [List.length_singleton]
      clear hL h1 h2 ih
      generalize leftF s (a :: h) = L at *
      generalize (leftF s pre).length = k at *
      generalize k + 1 = k' at *
      have hkg : ∀ hh : k < L.length, L[k] = w := fun hh => by rw [List.getElem?_eq_getElem hh] at hk0; injection hk0
      have hk2 : ¬ (L.length : Int) ≤ (k : Int) := by omega
      have hk3 : (k : Int) < (L.length : Int) := by omega
      have hk4 : ¬ L.length ≤ k := by omega
      simp [c_law22_FaultLoses_L1, k_law22_FaultLoses_L1b, fkSt, flV, mI, mV4, hli2, hli3, h0, hget, hget0, hw, hs, hws, hkw, hkl, hkg, hk0, hk2, hk3, hk4]
set_option maxRecDepth 10000 in
set_option maxHeartbeats 8000000 in
theorem law_FaultLoses (xs : List D) (h : Sh.hasL [.sl (.i .u8), .i .u8] xs) : run kp (.data f_law22_FaultLoses xs) = some (.ds [.bool true]) := by
  obtain ⟨x1, _, rfl, h1, h⟩ := hasL_cons h
  obtain ⟨x2, _, rfl, h2, h⟩ := hasL_cons h
  obtain rfl := hasL_nil h
  obtain ⟨nl, held, rfl, _, _, hw⟩ := has_nums h1
  obtain ⟨q, rfl, k2⟩ := has_int h2
  rw [run_data, run_call, kp_law22_FaultLoses]
  by_cases hl : held.length ≤ 6
  · have a1 : ¬ (6 : Int) < held.length := by omega
    have nj := new_job234
    have l0 := fl_loop0 nl held (by omega) q held [] rfl 0 rfl
    obtain ⟨s, hs⟩ : ∃ s, IntKind.i64.wrap (q.tmod 4) = s := ⟨_, rfl⟩
    have hH : (held.map hOf).length ≤ 100 := by simp; omega
    simp only [List.map_nil] at l0
    generalize held.map hOf = H at *
    have lo := fault_Loses 2 3 4 0 4 s false H (by omega)
    have sj := same_jI 2 3 4 0 4 H.isEmpty H.isEmpty false H (by omega)
    cases H with
    | nil =>
      simp [flSt, flV, flH, flN, jI, mI] at l0
      simp [jI, mI] at nj
      simp [jI, mI, leftF] at lo sj
      have l1 : run kp (.loop [1, 5, 7, 8, 9] k_law22_FaultLoses_L1 { env := [(1, .int .u8 q), (5, .ptr 0 []), (7, .ptr 1 []), (8, .int .i64 0), (9, .int .i64 0)], hp := [(0, .box (.d (jI 2 3 4 0 4 true [] false))), (1, .box (.d (jI 2 3 4 0 4 true [] false)))], tl := fun _ => none, base := 0, next := 2 }) =
          some (.out (.ext 2) { env := [(1, .int .u8 q), (5, .ptr 0 []), (7, .ptr 1 []), (8, .int .i64 0), (9, .int .i64 0), (43, .bool false)], hp := [(0, .box (.d (jI 2 3 4 0 4 true [] false))), (1, .box (.d (jI 2 3 4 0 4 true [] false)))], tl := fun _ => none, base := 0, next := 2 }) := by
        rw [run_round]
        simp [c_law22_FaultLoses_L1, k_law22_FaultLoses_L1b, jI, mI]
      simp [jI, mI] at l1
      simp [k_law22_FaultLoses, fault_begun, a1, nj, l0, hs, lo, l1, sj]
    | cons a H =>
      have l1 := fl_loop1 q s hs a H (by simp at hH; omega) (a :: H) [] rfl 0 rfl
      have hle := left_le s (a :: H)
      simp only [List.length_cons] at hle hH
      have e0 : leftF s [] = [] := rfl
      rw [e0] at l1
      generalize leftF s (a :: H) = L at *
      simp [flSt, flV, flH, flN, jI, mI] at l0
      simp [jI, mI] at nj
      simp [jI, mI] at lo sj
      simp [fkSt, flV, mI, mV4] at l1
      simp [k_law22_FaultLoses, fault_begun, a1, nj, l0, hs, lo, l1, sj]
  · have a1 : (6 : Int) < held.length := by omega
    simp [k_law22_FaultLoses, fault_begun, a1]
end Go.Cd
