/- What a job is behind what it has lost, and in what is optional. No conditions. -/
import Derived.Test.YtgjeondicdipaaaR9QJobA
set_option linter.unusedVariables false
set_option linter.unusedSimpArgs false
namespace Go.Cd
open Go Go.Fw
theorem natB (b : Nat) : (¬ b = b + 1) ∧ (¬ b + 1 = b) ∧ (¬ b = b + 1 + 1) ∧ (¬ b + 1 + 1 = b) ∧ (¬ b + 1 = b + 1 + 1) ∧ (¬ b + 1 + 1 = b + 1) ∧ (¬ b = b + 1 + 1 + 1) ∧ (¬ b + 1 + 1 + 1 = b) ∧ (¬ b + 1 = b + 1 + 1 + 1) ∧ (¬ b + 1 + 1 + 1 = b + 1) ∧ (¬ b + 1 < b) ∧ (¬ b + 1 + 1 < b) ∧ (¬ b + 1 + 1 + 1 < b) := by omega
def twinV (b : Nat) (j : Jb) : V := match j.hn with
  | true => .d j.d
  | false => .agg [.int .i64 j.task, .int .i64 j.at_, .int .i64 j.inn, .int .i64 j.phase, .d j.m.d, .d j.k.d, .sl false b 0 j.held.length, .bool j.up]
def twinH (b : Nat) (j : Jb) : Hp := match j.hn with
  | true => []
  | false => [(b, .row true (j.held.map (.int .i64)))]
def twinN (j : Jb) : Nat := match j.hn with
  | true => 0
  | false => 1
set_option maxRecDepth 10000 in
set_option maxHeartbeats 8000000 in
theorem twin_call (j : Jb) (h : j.Ok) (tl : Nat → Option Blk) (b : Nat) : run kp (.call f_job_twin [.d j.d] tl b) = some (.val (twinV b j) (twinH b j) (b + twinN j)) := by
  rw [run_call, kp_job_twin]
  have m1 := job_machine j.m h.m
  have m2 := job_machine j.k h.k
  obtain ⟨task, at_, inn, ph, m, k, hn, held, up⟩ := j
  have c := clone_intJ hn held h.hn h.len
  have hw := h.hn
  simp only [Mc.d, mD] at m1 m2
  simp only at hw
  have F := natB b
  cases hn with
  | true =>
    have := hw rfl; subst this
    simp only [List.map_nil] at c
    simp [F, gOf, hlook, hputs, k_job_twin, Jb.d, Mc.d, mD, canK_canH, m1, m2, c, twinV, twinH, twinN]
  | false => simp [F, gOf, hlook, hputs, k_job_twin, Jb.d, Mc.d, mD, canK_canH, m1, m2, c, twinV, twinH, twinN]
def backF (t : Tsk) (j : Jb) : Jb := if j.phase = 0 ∧ 0 < t.way.l.length then ⟨j.task, j.at_, j.inn, 1, newM j.inn, newM j.inn, true, [], j.up⟩ else ⟨j.task, j.at_, j.inn, j.phase, j.k, j.k, true, [], j.up⟩
def mem0 (m : Mc) : Int := m.mem.headD 0
def optF (j : Jb) : Jb := ⟨j.task, j.at_, j.inn, 2, newM (mem0 j.m), newM (mem0 j.m), true, [], false⟩
set_option maxRecDepth 10000 in
set_option maxHeartbeats 8000000 in
theorem job_Back (t : Tsk) (j : Jb) (h : j.Ok) : run kp (.datk f_job_Back [t.d, j.d]) = some (.ds [(backF t j).d]) := by
  rw [run_datk, run_call, kp_job_Back]
  have tw := twin_call j h
  obtain ⟨task, at_, inn, ph, m, k, hn, held, up⟩ := j
  have m2 := job_machine k h.k
  have n := vm_New inn
  simp only [mD, List.map_nil, List.map_cons] at n
  have hw := h.hn
  simp only [Jb.d, Mc.d, mD] at m2 tw
  unfold backF
  by_cases h0 : ph = 0
  · subst h0
    by_cases h1 : 0 < t.way.l.length
    · have h2 : (0 : Int) < t.way.l.length := by omega
      cases hn with
      | true =>
        have := hw rfl; simp only at this; subst this
        simp only [List.map_nil] at tw
        simp [k_job_Back, tw, twinV, twinH, twinN, Tsk.d, Jb.d, Row.d, Mc.d, mD, newM, canK_canH, m2, n, h1, h2]
      | false => simp [k_job_Back, tw, twinV, twinH, twinN, Tsk.d, Jb.d, Row.d, Mc.d, mD, newM, canK_canH, m2, n, h1, h2]
    · have h2 : ¬ (0 : Int) < t.way.l.length := by omega
      cases hn with
      | true =>
        have := hw rfl; simp only at this; subst this
        simp only [List.map_nil] at tw
        simp [k_job_Back, tw, twinV, twinH, twinN, Tsk.d, Jb.d, Row.d, Mc.d, mD, newM, canK_canH, m2, n, h1, h2]
      | false => simp [k_job_Back, tw, twinV, twinH, twinN, Tsk.d, Jb.d, Row.d, Mc.d, mD, newM, canK_canH, m2, n, h1, h2]
  · cases hn with
    | true =>
      have := hw rfl; simp only at this; subst this
      simp only [List.map_nil] at tw
      simp [k_job_Back, tw, twinV, twinH, twinN, Tsk.d, Jb.d, Row.d, Mc.d, mD, newM, canK_canH, m2, n, h0]
    | false => simp [k_job_Back, tw, twinV, twinH, twinN, Tsk.d, Jb.d, Row.d, Mc.d, mD, newM, canK_canH, m2, n, h0]
end Go.Cd
