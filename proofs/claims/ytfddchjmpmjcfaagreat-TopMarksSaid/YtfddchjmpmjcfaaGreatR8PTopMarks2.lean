/- The law TopMarks, as the evaluator has it: all its steps. No conditions. -/
import Derived.Test.YtfddchjmpmjcfaaGreatR8PTopMarks1
set_option linter.unusedVariables false
set_option linter.unusedSimpArgs false
namespace Go.Cd
open Go Go.Fw
variable {l : List Inst} {z : Nat}
theorem no9_M (h : PMk l z) : ∀ i ∈ l ++ [], ¬ i.op = 9 := by
  intro i hi
  rw [List.append_nil] at hi
  have := (h.sim i hi).1.1
  omega
set_option maxRecDepth 20000 in
set_option maxHeartbeats 64000000 in
theorem all_six (K0' K1' K2' K3' K4' K5' K6' : List D) (c1 c2 c3 : List D) (t : Int) (A B : List D)
    (nw : run kp (.datk f_kern_New [.int .i64 500]) = some (.ds [.agg K0', .bool true]))
    (h1 : run kp (.datk f_trial_Do [.agg K0', stD 1 (.agg c1) 0]) = some (.ds [.agg K1', .sl true [], rpD 0]))
    (h2 : run kp (.datk f_trial_Do [.agg K1', stD 1 (.agg c2) 0]) = some (.ds [.agg K2', .sl true [], rpD 0]))
    (h3 : run kp (.datk f_trial_Do [.agg K2', stD 1 (.agg c3) 0]) = some (.ds [.agg K3', .sl false [evD 0 1 0 3], rpD 0]))
    (h4 : run kp (.datk f_trial_Do [.agg K3', stD 5 zCl t]) = some (.ds [.agg K4', .sl A.isEmpty A, rpD 0]))
    (h5 : run kp (.datk f_trial_Do [.agg K4', stD 3 zCl 0]) = some (.ds [.agg K5', .sl true [], rpD 0]))
    (h6 : run kp (.datk f_trial_Do [.agg K5', stD 5 zCl 100]) = some (.ds [.agg K6', .sl B.isEmpty B, rpD 0]))
    (hA : A.length ≤ 100000) (hB : B.length ≤ 100000) :
    run kp (.datk f_trial_All [.int .i64 500, .sl false [stD 1 (.agg c1) 0, stD 1 (.agg c2) 0, stD 1 (.agg c3) 0, stD 5 zCl t, stD 3 zCl 0, stD 5 zCl 100]]) = some (.ds [.agg K6', .sl false ([evD 0 1 0 3] ++ A ++ B), .sl false [rpD 0, rpD 0, rpD 0, rpD 0, rpD 0, rpD 0], .bool true]) := by
  have wz : IntKind.i64.wrap 1 = 1 := rfl
  have wz2 : IntKind.i64.wrap 2 = 2 := rfl
  have wz3 : IntKind.i64.wrap 3 = 3 := rfl
  have wz4 : IntKind.i64.wrap 4 = 4 := rfl
  have wz5 : IntKind.i64.wrap 5 = 5 := rfl
  have wz6 : IntKind.i64.wrap 6 = 6 := rfl
  have q1 : 1 + A.length ≤ 1073741824 := by omega
  have q2 : 1 + A.length + B.length ≤ 1073741824 := by omega
  have q3 : A.length + 1 ≤ 1073741824 := by omega
  have q4 : A.length + 1 + B.length ≤ 1073741824 := by omega
  have q5 : 1 + A.length ≤ A.length + 1 := by omega
  have q6 : 1 + A.length + B.length ≤ A.length + B.length + 1 := by omega
  have q7 : ∀ x : D, List.take (1 + A.length) (x :: A) = x :: A := fun x => List.take_of_length_le (by simp; omega)
  have q8 : ∀ x : D, List.take (1 + A.length + B.length) (x :: (A ++ B)) = x :: (A ++ B) := fun x => List.take_of_length_le (by simp; omega)
  simp only [stD, zCl, zT, hz, rpD, evD] at h1 h2 h3 h4 h5 h6
  rw [run_datk, run_call, kp_trial_All]
  simp [k_trial_All, stD, zCl, zT, hz, rpD, evD, nw]
  rw [run_round]
  simp [c_trial_All_L0, k_trial_All_L0b, h1, wz]
  rw [run_round]
  simp [c_trial_All_L0, k_trial_All_L0b, h2, wz2]
  rw [run_round]
  simp [c_trial_All_L0, k_trial_All_L0b, h3, wz3]
  rw [run_round]
  simp [c_trial_All_L0, k_trial_All_L0b, h4, wz4, q1, q3]
  rw [run_round]
  simp [c_trial_All_L0, k_trial_All_L0b, h5, wz5, q1, q3, q5, q7]
  rw [run_round]
  simp [c_trial_All_L0, k_trial_All_L0b, h6, wz6, q1, q2, q3, q4, q5, q7]
  rw [run_round]
  simp [c_trial_All_L0, k_trial_All_L0b, q6, q8]
def tcl (l : List Inst) : D := clD 1 (mkT l).d 0 0
set_option maxRecDepth 20000 in
theorem all_M (h : PMk l z) (t : Nat) (ht : t ≤ 90) : ∃ (K : List D) (L : List D),
    run kp (.datk f_trial_All [.int .i64 500, .sl false [stD 1 (tcl l) 0, stD 1 (clD 5 zT 0 0) 0, stD 1 (clD 6 zT 0 3) 0, stD 5 zCl t, stD 3 zCl 0, stD 5 zCl 100]]) = some (.ds [.agg (.int .i64 ((t : Int) + 100) :: K), .sl false L, .sl false [rpD 0, rpD 0, rpD 0, rpD 0, rpD 0, rpD 0], .bool true])
    ∧ FD L (if t ≤ z then (z : Int) + ((t - lmk l t : Nat) : Int) + 1 else (z : Int)) ∧ L.length ≤ 300000 := by
  obtain ⟨pc, hpc, ok⟩ := mk_ok h
  have hz := h.le
  have hlen := h.len
  have nw := kern_New_K 500 (by omega)
  have s1 := step_call _ _ _ _ _ _ (do_admit ok 500 (by omega))
  have s2 := step_call _ _ _ _ _ _ (do_start ok (no9_M h) (by omega) 500 (bdD ((z + 1 : Nat) : Int) pc 200))
  have s3 := step_call _ _ _ _ _ _ (do_release 0 500 (mkT l) (mkT_ok h) (bM z pc).d false true 3)
  have s4 := run_1 h pc t ht
  have gt := itM_G h pc 0 s0M (s0_G h) t
  have s5 := hit_M h pc t _ gt
  obtain ⟨s', s6⟩ := run_2 h pc t ht _ gt
  have fd := told_FD h pc t ht
  have hA := catE_len (itE l z pc 0 s0M) (fun i => by have := itE_len l z pc 0 s0M i; omega) t
  have hB := catE_len (E2 l z pc t (itM l z pc 0 s0M t)) (fun i => by
    cases i with
    | zero => show ((bkM l z pc t _).2).length ≤ 1000; unfold bkM; split <;> simp
    | succ i => have := itE_len l z pc ((t + 1 : Nat) : Int) (bkM l z pc t (itM l z pc 0 s0M t)).1 i; simp only [E2]; omega) 100
  exact ⟨_, _, all_six _ _ _ _ _ _ _ _ _ _ _ _ _ nw s1 s2 s3 s4 s5 s6 (by omega) (by omega), fd, by simp only [List.length_append, List.length_singleton]; omega⟩
end Go.Cd
