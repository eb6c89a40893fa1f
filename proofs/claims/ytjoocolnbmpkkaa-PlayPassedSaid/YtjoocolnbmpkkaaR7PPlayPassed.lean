/- The law PlayPassed, as the evaluator has it. No conditions. -/
import Derived.Test.YtjoocolnbmpkkaaR7QPlB2
set_option linter.unusedVariables false
set_option linter.unusedSimpArgs false
namespace Go.Cd
open Go Go.Fw
def vS (b : Nat) : List Sp → V
  | [] => .d (.sl true [])
  | x :: l => .sl false b 0 (x :: l).length
def hS (b : Nat) : List Sp → Hp
  | [] => []
  | x :: l => [(b, .row true ((x :: l).map Sp.d))]
def nS : List Sp → Nat
  | [] => 0
  | _ :: _ => 1
def vB (b : Nat) : List Int → V
  | [] => .d (.sl true [])
  | x :: l => .sl false b 0 (x :: l).length
def hB (b : Nat) : List Int → Hp
  | [] => []
  | x :: l => [(b, .row true ((x :: l).map u8d))]
def nB : List Int → Nat
  | [] => 0
  | _ :: _ => 1
def paSt (n k : Int) (L M : List Sp) (acc : List Int) (i : Nat) (ex : List (Nat × V)) : St :=
  { env := [(2, .int .u8 n), (3, .int .u8 k), (9, vS 0 L), (10, vS (nS L) M), (11, vB (nS L + nS M) acc), (12, .int .i64 (i : Int))] ++ ex, hp := hS 0 L ++ (hS (nS L) M ++ hB (nS L + nS M) acc), tl := fun _ => none, base := 0, next := nS L + nS M + nB acc }
set_option maxRecDepth 10000 in
set_option maxHeartbeats 16000000 in
theorem pa_round (n k : Int) (hn : 0 ≤ n ∧ n < 256) (hk : 0 ≤ k ∧ k < 256) (L M : List Sp) (acc : List Int) (ha : acc.length ≤ 1000000) (i : Nat) (hi : (i : Int) < n % 9) :
    run kp (.loop [2, 3, 9, 10, 11, 12] k_law27_PlayPassed_L0 (paSt n k L M acc i [])) = run kp (.loop [2, 3, 9, 10, 11, 12] k_law27_PlayPassed_L0 (paSt n k L M (acc ++ [6 * (k % 42)]) (i + 1) [])) := by
  have w : IntKind.i64.wrap ((i : Int) + 1) = ((i + 1 : Nat) : Int) := by rw [wrap_i64 (by omega) (by omega)]; omega
  have t1 : n.tmod 9 = n % 9 := Int.tmod_eq_emod_of_nonneg hn.1
  have t2 : k.tmod 42 = k % 42 := Int.tmod_eq_emod_of_nonneg hk.1
  have wn : IntKind.i64.wrap (n % 9) = n % 9 := wrap_i64 (by omega) (by omega)
  have wz : IntKind.u8.wrap (6 * (k % 42)) = 6 * (k % 42) := wrap_u8 (by omega) (by omega)
  have wn8 : IntKind.u8.wrap (n % 9) = n % 9 := wrap_u8 (by omega) (by omega)
  have wk8 : IntKind.u8.wrap (k % 42) = k % 42 := wrap_u8 (by omega) (by omega)
  rw [run_round]
  generalize i + 1 = i' at *
  cases acc with
  | nil =>
    cases L <;> cases M <;> simp [c_law27_PlayPassed_L0, k_law27_PlayPassed_L0b, paSt, vS, hS, nS, vB, hB, nB, w, t1, t2, wn, wz, wn8, wk8, hi, u8d]
  | cons y acc =>
    simp only [List.length_cons] at ha
    have q1 : acc.length ≤ 1073741822 := by omega
    have tk := take_u8 acc
    cases L <;> cases M <;> simp [c_law27_PlayPassed_L0, k_law27_PlayPassed_L0b, paSt, vS, hS, nS, vB, hB, nB, w, t1, t2, wn, wz, wn8, wk8, hi, u8d, q1, tk]
set_option maxRecDepth 10000 in
set_option maxHeartbeats 16000000 in
theorem pa_stop (n k : Int) (hn : 0 ≤ n ∧ n < 256) (L M : List Sp) (acc : List Int) (i : Nat) (hi : (i : Int) = n % 9) :
    run kp (.loop [2, 3, 9, 10, 11, 12] k_law27_PlayPassed_L0 (paSt n k L M acc i [])) = some (.out (.ext 0) (paSt n k L M acc i [(33, .bool false)])) := by
  have t1 : n.tmod 9 = n % 9 := Int.tmod_eq_emod_of_nonneg hn.1
  have wn : IntKind.i64.wrap (n % 9) = n % 9 := wrap_i64 (by omega) (by omega)
  have wn8 : IntKind.u8.wrap (n % 9) = n % 9 := wrap_u8 (by omega) (by omega)
  rw [run_round]
  cases acc <;> cases L <;> cases M <;> simp [c_law27_PlayPassed_L0, k_law27_PlayPassed_L0b, paSt, vS, hS, nS, vB, hB, nB, t1, wn, wn8, hi]
theorem pa_loop (n k : Int) (hn : 0 ≤ n ∧ n < 256) (hk : 0 ≤ k ∧ k < 256) (L M : List Sp) : ∀ (j i : Nat) (acc : List Int), ((i + j : Nat) : Int) = n % 9 → acc.length + j ≤ 1000000 →
    run kp (.loop [2, 3, 9, 10, 11, 12] k_law27_PlayPassed_L0 (paSt n k L M acc i [])) = some (.out (.ext 0) (paSt n k L M (acc ++ List.replicate j (6 * (k % 42))) (i + j) [(33, .bool false)]))
  | 0, i, acc, hi, ha => by
    rw [List.replicate_zero, List.append_nil, Nat.add_zero]
    exact pa_stop n k hn L M acc i (by omega)
  | j + 1, i, acc, hi, ha => by
    have := pa_loop n k hn hk L M j (i + 1) (acc ++ [6 * (k % 42)]) (by omega) (by simp; omega)
    rw [List.append_assoc, List.singleton_append, ← List.replicate_succ, show i + 1 + j = i + (j + 1) by omega] at this
    rw [pa_round n k hn hk L M acc (by omega) i (by omega)]
    exact this
theorem dec_noughts (z : Int) (hz : z.tmod 6 = 0) (t : List Int) : ∀ j : Nat, dec (List.replicate j z ++ t) = dec t
  | 0 => rfl
  | j + 1 => by
    rw [List.replicate_succ, List.cons_append, dec_cons, if_pos hz, dec_noughts z hz t j]
set_option maxRecDepth 10000 in
set_option maxHeartbeats 16000000 in
theorem passed_run (n1 n2 : Bool) (b1 b2 : List Int) (h1 : bytesOk b1) (h2 : bytesOk b2) (l1 : b1.length ≤ 100) (l2 : b2.length ≤ 100) (n k : Int) (hn : 0 ≤ n ∧ n < 256) (hk : 0 ≤ k ∧ k < 256) :
    ∃ u w, run kp (.call f_law27_PlayPassed [.d (.sl n1 (b1.map u8d)), .d (.sl n2 (b2.map u8d)), .int .u8 n, .int .u8 k] (fun _ => none) 0) = some (.val (.bool true) u w) := by
  have g1 : ¬ (100 : Int) < b1.length := by omega
  have g2 : ¬ (100 : Int) < b2.length := by omega
  have d1 := play_dec n1 h1 (by omega)
  have d2 := play_dec n2 h2 (by omega)
  have s1 := dec_good (by omega) h1
  have s2 := dec_good (by omega) h2
  have c1 := dec_lite h1 (by omega)
  have c2 := dec_lite h2 (by omega)
  have k1 := dec_le b1
  have k2 := dec_le b2
  have y1 := dec_size (by omega) h1
  have y2 := dec_size (by omega) h2
  generalize dec b1 = L at *
  generalize dec b2 = M at *
  have s3 := all_app s1 s2
  have c3 := all_app c1 c2
  have e1 := fun nl => play_enc nl (by omega) c1 s1
  have e2 := fun nl => play_enc nl (by omega) c2 s2
  obtain ⟨j, hj⟩ : ∃ j : Nat, (j : Int) = n % 9 := ⟨(n % 9).toNat, by omega⟩
  have lp := pa_loop n k hn hk L M j 0 (stBs L) (by omega) (by omega)
  have zr : 0 ≤ 6 * (k % 42) ∧ 6 * (k % 42) < 256 := by omega
  have z6 : (6 * (k % 42)).tmod 6 = 0 := by rw [Int.tmod_eq_emod_of_nonneg (by omega)]; omega
  generalize 6 * (k % 42) = z at *
  have okz : bytesOk (List.replicate j z) := fun x hx => by rw [List.eq_of_mem_replicate hx]; exact zr
  have ok := ok_app (ok_app (stBs_ok L) okz) (stBs_ok M)
  have dd : dec (stBs L ++ List.replicate j z ++ stBs M) = (L ++ M).map nStep := by
    rw [List.append_assoc, dec_puts s1, dec_noughts z z6]
    have := dec_puts s2 []
    rw [List.append_nil, show dec [] = [] from rfl, List.append_nil] at this
    rw [this, List.map_append]
  have d3 := fun nl => play_dec nl ok (by simp; omega)
  have sm := fun n m => same_n n m (by simp; omega) c3 s3
  rw [dd] at d3
  have ya : (stBs L ++ List.replicate j z).length ≤ 200 := by simp; omega
  rw [run_call, kp_law27_PlayPassed]
  refine ⟨[], 0, ?_⟩
  cases L with
  | nil =>
    rw [show stBs [] = [] from rfl, List.nil_append] at d3 ya lp
    generalize List.replicate j z = A at *
    cases M with
    | nil =>
      cases A with
      | nil =>
        simp [stBs, rowU, rowS, paSt, vS, hS, nS, vB, hB, nB] at d1 d2 e1 e2 d3 sm lp
        simp [k_law27_PlayPassed, canK_canH, play_begun, g1, g2, d1, d2, e1, e2, d3, sm, lp, rowU, rowS, bytesOf]
      | cons a A =>
        have tA := take_u8 A
        simp [stBs, rowU, rowS, paSt, vS, hS, nS, vB, hB, nB] at d1 d2 e1 e2 d3 sm lp ya
        have q1 : A.length ≤ 1073741823 := by omega
        simp [k_law27_PlayPassed, canK_canH, play_begun, g1, g2, d1, d2, e1, e2, d3, sm, lp, rowU, rowS, bytesOf, tA, q1]
    | cons y M =>
      obtain ⟨zz, C, e⟩ := stBs_ne y M
      rw [e] at e2 d3 y2
      have tC := take_u8 C
      have tm := take_map_lenP Sp.d M
      have tn := take_map_lenP (Sp.d ∘ nStep) M
      simp only [List.length_cons] at k1 k2 y1 y2
      have h1 : M.length ≤ 1073741823 := by omega
      have h2 : C.length ≤ 1073741823 := by omega
      cases A with
      | nil =>
        simp [stBs, rowU, rowS, paSt, vS, hS, nS, vB, hB, nB] at d1 d2 e1 e2 d3 sm lp ya
        simp [k_law27_PlayPassed, canK_canH, play_begun, g1, g2, d1, d2, e1, e2, d3, sm, lp, rowU, rowS, bytesOf, tC, tm, tn, h1, h2]
      | cons a A =>
        have tA := take_u8 A
        simp [stBs, rowU, rowS, paSt, vS, hS, nS, vB, hB, nB] at d1 d2 e1 e2 d3 sm lp ya
        have q1 : A.length ≤ 1073741823 := by omega
        have n2 : A.length + 1 + (C.length + 1) = A.length + (C.length + 1) + 1 := by omega
        have b2 : A.length + (C.length + 1) ≤ 1073741823 := by omega
        have t1 : List.take (A.length + (C.length + 1)) (List.map u8d A ++ u8d zz :: List.map u8d C) = List.map u8d A ++ u8d zz :: List.map u8d C := List.take_of_length_le (by simp)
        simp [k_law27_PlayPassed, canK_canH, play_begun, g1, g2, d1, d2, e1, e2, d3, sm, lp, rowU, rowS, bytesOf, tC, tm, tn, h1, h2, tA, q1, n2, b2, t1]
  | cons x L =>
    obtain ⟨z', C', e'⟩ := stBs_ne x L
    rw [e'] at e1 d3 lp ya y1
    rw [List.cons_append] at d3 lp ya
    have tC' := take_u8 C'
    have tm' := take_map_lenP Sp.d L
    have tn' := take_map_lenP (Sp.d ∘ nStep) L
    simp only [List.length_cons] at k1 k2 y1 y2
    have h1' : L.length ≤ 1073741823 := by omega
    have h2' : C'.length ≤ 1073741823 := by omega
    generalize C' ++ List.replicate j z = A at *
    have tA := take_u8 A
    cases M with
    | nil =>
      simp [stBs, rowU, rowS, paSt, vS, hS, nS, vB, hB, nB] at d1 d2 e1 e2 d3 sm lp ya
      have q1 : A.length ≤ 1073741823 := by omega
      simp [k_law27_PlayPassed, canK_canH, play_begun, g1, g2, d1, d2, e1, e2, d3, sm, lp, rowU, rowS, bytesOf, tC', tm', tn', h1', h2', tA, q1]
    | cons y M =>
      obtain ⟨zz, C, e⟩ := stBs_ne y M
      rw [e] at e2 d3 y2
      have tC := take_u8 C
      have tm := take_map_lenP Sp.d M
      have tn := take_map_lenP (Sp.d ∘ nStep) M
      simp only [List.length_cons] at k1 k2 y1 y2
      simp [stBs, rowU, rowS, paSt, vS, hS, nS, vB, hB, nB] at d1 d2 e1 e2 d3 sm lp ya
      have h1 : M.length ≤ 1073741823 := by omega
      have h2 : C.length ≤ 1073741823 := by omega
      have q1 : A.length ≤ 1073741823 := by omega
      have n2 : A.length + 1 + (C.length + 1) = A.length + (C.length + 1) + 1 := by omega
      have b2 : A.length + (C.length + 1) ≤ 1073741823 := by omega
      have n1 : L.length + 1 + (M.length + 1) = L.length + (M.length + 1) + 1 := by omega
      have b1 : L.length + (M.length + 1) ≤ 1073741823 := by omega
      have t1 : List.take (A.length + (C.length + 1)) (List.map u8d A ++ u8d zz :: List.map u8d C) = List.map u8d A ++ u8d zz :: List.map u8d C := List.take_of_length_le (by simp)
      have t2 : List.take (L.length + (M.length + 1)) (List.map Sp.d L ++ y.d :: List.map Sp.d M) = List.map Sp.d L ++ y.d :: List.map Sp.d M := List.take_of_length_le (by simp)
      have t3 : List.take (L.length + (M.length + 1)) (List.map (Sp.d ∘ nStep) L ++ (nStep y).d :: List.map (Sp.d ∘ nStep) M) = List.map (Sp.d ∘ nStep) L ++ (nStep y).d :: List.map (Sp.d ∘ nStep) M := List.take_of_length_le (by simp)
      simp [k_law27_PlayPassed, canK_canH, play_begun, g1, g2, d1, d2, e1, e2, d3, sm, lp, rowU, rowS, bytesOf, tC, tm, tn, tC', tm', tn', h1, h2, h1', h2', tA, q1, n1, n2, b1, b2, t1, t2, t3]
set_option maxHeartbeats 8000000 in
theorem law2_PlayPassed (xs : List D) (h : Sh.hasL [.sl (.i .u8), .sl (.i .u8), .i .u8, .i .u8] xs) : ∃ u k, run kp (.call f_law27_PlayPassed (xs.map ofD) (fun _ => none) 0) = some (.val (.bool true) u k) := by
  obtain ⟨x1, _, rfl, h1, h⟩ := hasL_cons h
  obtain ⟨x2, _, rfl, h2, h⟩ := hasL_cons h
  obtain ⟨x3, _, rfl, h3, h⟩ := hasL_cons h
  obtain ⟨x4, _, rfl, h4, h⟩ := hasL_cons h
  obtain rfl := hasL_nil h
  obtain ⟨n1, b1, rfl, q1⟩ := has_bytes h1
  obtain ⟨n2, b2, rfl, q2⟩ := has_bytes h2
  obtain ⟨n, rfl, r1⟩ := has_int h3
  obtain ⟨k, rfl, r2⟩ := has_int h4
  have r1 := wf_u8 r1
  have r2 := wf_u8 r2
  by_cases g : b1.length ≤ 100 ∧ b2.length ≤ 100
  · exact passed_run n1 n2 b1 b2 q1 q2 g.1 g.2 n k r1 r2
  · refine ⟨[], 0, ?_⟩
    rw [run_call, kp_law27_PlayPassed]
    by_cases g1 : (100 : Int) < b1.length
    · simp [k_law27_PlayPassed, canK_canH, play_begun, g1]
    · have g2 : (100 : Int) < b2.length := by omega
      simp [k_law27_PlayPassed, canK_canH, play_begun, g1, g2]
end Go.Cd
