/- A run of so many ticks. No conditions. -/
import Derived.Test.YtfddchjmpmjcfaaGreatR8QTwI
set_option linter.unusedVariables false
set_option linter.unusedSimpArgs false
namespace Go.Cd
open Go Go.Fw
def K00 : D := .agg [.int .i64 0, .int .i64 0, .sl true [], .sl true [], .bool false, .bool false, .bool false, .sl true [], .agg [.agg [.sl true [], .sl true []], .sl true []], .agg [.sl true [], .sl true []]]
def rnS (K : List D) (n i : Nat) (ext : Env) : St := ⟨[(2, V.ptr 0 []), (4, V.ptr 1 []), (6, V.ptr 2 []), (7, V.ptr 3 []), (8, .d (.sl true [])), (65, V.int .i64 (n : Int)), (66, V.int .i64 (i : Int))] ++ ext, [(0, Blk.box (V.d (.agg K))), (1, Blk.box (V.d K00)), (2, Blk.box (V.d (rpD 0))), (3, Blk.box (V.d (rpD 0)))], fun _ => none, 0, 4⟩
def roS (K : List D) (A : List D) (n i : Nat) (ext : Env) : St := ⟨[(2, V.ptr 0 []), (4, V.ptr 1 []), (6, V.ptr 2 []), (7, V.ptr 3 []), (8, .sl A.isEmpty 4 0 A.length), (65, V.int .i64 (n : Int)), (66, V.int .i64 (i : Int))] ++ ext, [(0, Blk.box (V.d (.agg K))), (1, Blk.box (V.d K00)), (2, Blk.box (V.d (rpD 0))), (3, Blk.box (V.d (rpD 0))), (4, Blk.row true A)], fun _ => none, 0, 5⟩
set_option maxRecDepth 10000 in
set_option maxHeartbeats 8000000 in
theorem rn_first (K K' : List D) (n : Nat) (hn : n ≤ 1000) (hi : 0 < n) (E : List D) (hE : E.length ≤ 1000) (b : Bool) (t : run kp (.datk f_kern_Tick [.agg K]) = some (.ds [.agg K', .sl b E])) : run kp (.loop [2, 4, 6, 7, 8, 65, 66] k_trial_Do_L0 (rnS K n 0 [])) = run kp (.loop [2, 4, 6, 7, 8, 65, 66] k_trial_Do_L0 (roS K' E n 1 [])) := by
  have w1 : (E.length : Int) ≤ 1073741824 := by omega
  have w3 : E.length ≤ 1073741824 := by omega
  have w2 : IntKind.i64.wrap 1 = 1 := rfl
  unfold rnS roS K00 rpD hz
  rw [run_round]
  simp [c_trial_Do_L0, k_trial_Do_L0b, hi, t, w1, w2, w3]
set_option maxRecDepth 10000 in
set_option maxHeartbeats 8000000 in
theorem rn_next (K K' : List D) (n i : Nat) (hn : n ≤ 1000) (hi : i < n) (A E : List D) (hA : A.length ≤ 1000 * i) (hE : E.length ≤ 1000) (b : Bool) (t : run kp (.datk f_kern_Tick [.agg K]) = some (.ds [.agg K', .sl b E])) : run kp (.loop [2, 4, 6, 7, 8, 65, 66] k_trial_Do_L0 (roS K A n i [])) = run kp (.loop [2, 4, 6, 7, 8, 65, 66] k_trial_Do_L0 (roS K' (A ++ E) n (i + 1) [])) := by
  have w1 : A.length + E.length ≤ 1073741824 := by omega
  have w2 : IntKind.i64.wrap ((i : Int) + 1) = ((i + 1 : Nat) : Int) := by rw [wrap_i64 (by omega) (by omega)]; omega
  have ie : (A ++ E).isEmpty = (A.isEmpty && E.isEmpty) := by cases A <;> simp
  unfold roS K00 rpD hz
  rw [ie]
  generalize i + 1 = i' at *
  rw [run_round]
  simp [c_trial_Do_L0, k_trial_Do_L0b, hi, t, w1, w2]
def catE (E : Nat → List D) : Nat → List D
  | 0 => []
  | n + 1 => catE E n ++ E n
theorem catE_len (E : Nat → List D) (h : ∀ i, (E i).length ≤ 1000) : ∀ n, (catE E n).length ≤ 1000 * n
  | 0 => by simp [catE]
  | n + 1 => by
    have := catE_len E h n
    have := h n
    simp [catE]; omega
theorem rn_all (K : Nat → List D) (E : Nat → List D) (n : Nat) (hn : n ≤ 1000) (hE : ∀ i, (E i).length ≤ 1000) (t : ∀ i, i < n → ∃ b, run kp (.datk f_kern_Tick [.agg (K i)]) = some (.ds [.agg (K (i + 1)), .sl b (E i)])) : ∀ (k i : Nat), 1 ≤ i → i + k = n → run kp (.loop [2, 4, 6, 7, 8, 65, 66] k_trial_Do_L0 (roS (K i) (catE E i) n i [])) = some (.out (.ext 1) (roS (K n) (catE E n) n n [(67, .bool false)]))
  | 0, i, h1, e => by
    obtain rfl : i = n := by omega
    unfold roS K00 rpD hz
    rw [run_round]
    simp [c_trial_Do_L0, k_trial_Do_L0b]
  | k + 1, i, h1, e => by
    obtain ⟨b, ti⟩ := t i (by omega)
    rw [rn_next (K i) (K (i + 1)) n i hn (by omega) (catE E i) (E i) (catE_len E hE i) (hE i) b ti]
    exact rn_all K E n hn hE t k (i + 1) (by omega) (by omega)
set_option maxRecDepth 10000 in
set_option maxHeartbeats 8000000 in
theorem step_run (K : Nat → List D) (E : Nat → List D) (n : Nat) (hn : 1 ≤ n ∧ n ≤ 1000) (hE : ∀ i, (E i).length ≤ 1000) (t : ∀ i, i < n → ∃ b, run kp (.datk f_kern_Tick [.agg (K i)]) = some (.ds [.agg (K (i + 1)), .sl b (E i)]))
    (ev : List D) (en : Bool) (r : D) (rl : run kp (.datk f_kern_Release [.agg (K n), .int .i64 (-1), .int .i64 0]) = some (.ds [.agg (K n), .sl en ev, r])) :
    run kp (.datk f_trial_Do [.agg (K 0), stD 5 zCl n]) = some (.ds [.agg (K n), .sl (catE E n).isEmpty (catE E n), rpD 0]) := by
  have g1 : ¬ (n : Int) < 0 := by omega
  have g2 : ¬ (10000 : Int) < n := by omega
  obtain ⟨b, t0⟩ := t 0 (by omega)
  have r1 := rn_first (K 0) (K 1) n hn.2 (by omega) (E 0) (hE 0) b t0
  have r2 := rn_all K E n hn.2 hE t (n - 1) 1 (by omega) (by omega)
  have c1 : catE E 1 = E 0 := by simp [catE]
  rw [c1] at r2
  rw [r2] at r1
  simp only [rnS, roS, K00, rpD, hz, List.append_nil, List.cons_append, List.nil_append, Int.cast_ofNat_Int] at r1
  rw [run_datk, run_call, kp_trial_Do]
  simp [k_trial_Do, stD, zCl, zT, hz, rpD, g1, g2, r1, rl]
set_option maxRecDepth 10000 in
set_option maxHeartbeats 8000000 in
theorem step_run0 (K : List D) (ev : List D) (en : Bool) (r : D) (rl : run kp (.datk f_kern_Release [.agg K, .int .i64 (-1), .int .i64 0]) = some (.ds [.agg K, .sl en ev, r])) :
    run kp (.datk f_trial_Do [.agg K, stD 5 zCl 0]) = some (.ds [.agg K, .sl true [], rpD 0]) := by
  rw [run_datk, run_call, kp_trial_Do]
  simp [k_trial_Do, stD, zCl, zT, hz, rpD]
  rw [run_round]
  simp [c_trial_Do_L0, k_trial_Do_L0b, rl]
end Go.Cd
