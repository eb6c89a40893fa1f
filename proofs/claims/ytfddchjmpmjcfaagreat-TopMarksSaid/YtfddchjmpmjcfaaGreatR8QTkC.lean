/- Jobs of programs that sum and mark alone: how they go on, what a hit leaves. No conditions. -/
import Derived.Test.YtfddchjmpmjcfaaGreatR8QTkB
set_option linter.unusedVariables false
set_option linter.unusedSimpArgs false
namespace Go.Cd
open Go Go.Fw
def goK (j : Sj) (i : Inst) : Sj := ⟨j.task, j.at_, j.inn, j.ph, if i.op = 0 then j.pc else j.pc + 1, stepX i j.x, decide (i.op = 0), if i.op = 11 then j.pc + 1 else j.kpc, if i.op = 11 then j.x else j.kx, j.up⟩
set_option maxRecDepth 10000 in
set_option maxHeartbeats 8000000 in
theorem job_Go_K (t : Ts) (ht : t.Ok) (j : Sj) (pc : Nat) (hp : j.pc = (pc : Int)) (ho : j.over = false) (i : Inst) (hi : (cdOf t j.ph).l[pc]? = some i) (hl : (cdOf t j.ph).l.length ≤ 1000) (hs : simple i) (hm : mayF i = true) :
    run kp (.datk f_job_Go [t.d, j.d]) = some (.ds [(goK j i).d, i.d, .bool true]) := by
  have c := job_Code_K t ht j
  have s := step_K (cdOf t j.ph) pc j.x hl i hi hs hm
  have tw := fun tl b => jtwin_K tl b j
  have mk := fun p x o => machine_K p x o
  have e : ((pc + 1 : Nat) : Int) = (pc : Int) + 1 := by omega
  rw [e] at s
  obtain ⟨task, at_, inn, ph, p, x, over, kpc, kx, up⟩ := j
  simp only at hp ho c s
  subst hp ho
  generalize cdOf t ph = r at *
  obtain ⟨op, a, b, n⟩ := i
  obtain ⟨h, rfl, rfl⟩ := hs
  simp only at h
  rw [run_datk, run_call, kp_job_Go]
  simp only [Sj.d, Ts.d, Rw.d, mz, Inst.d] at c s tw mk
  rcases h with rfl | rfl | rfl | rfl
  · simp only [stepX, Int.reduceEq, if_true, if_false, decide_true, decide_false] at s
    simp [k_job_Go, Sj.d, Ts.d, Rw.d, mz, Inst.d, goK, stepX, c, s, tw, mk]
  · simp only [stepX, Int.reduceEq, if_true, if_false, decide_true, decide_false] at s
    simp [k_job_Go, Sj.d, Ts.d, Rw.d, mz, Inst.d, goK, stepX, c, s, tw, mk]
  · simp only [stepX, Int.reduceEq, if_true, if_false, decide_true, decide_false] at s
    simp [k_job_Go, Sj.d, Ts.d, Rw.d, mz, Inst.d, goK, stepX, c, s, tw, mk]
  · simp only [stepX, Int.reduceEq, if_true, if_false, decide_true, decide_false] at s
    simp [k_job_Go, Sj.d, Ts.d, Rw.d, mz, Inst.d, goK, stepX, c, s, tw, mk]
def backK (t : Ts) (j : Sj) : Sj := if j.ph = 0 ∧ 0 < t.way.l.length then ⟨j.task, j.at_, j.inn, 1, 0, j.inn, false, 0, j.inn, j.up⟩ else ⟨j.task, j.at_, j.inn, j.ph, j.kpc, j.kx, false, j.kpc, j.kx, j.up⟩
set_option maxRecDepth 10000 in
set_option maxHeartbeats 8000000 in
theorem job_Back_K (t : Ts) (j : Sj) : run kp (.datk f_job_Back [t.d, j.d]) = some (.ds [(backK t j).d]) := by
  have tw := fun tl b => jtwin_K tl b j
  have mk := fun p x o => machine_K p x o
  have n := vm_New_K j.inn
  obtain ⟨task, at_, inn, ph, p, x, over, kpc, kx, up⟩ := j
  rw [run_datk, run_call, kp_job_Back]
  simp only [Sj.d, mz] at tw mk n
  unfold backK
  by_cases h0 : ph = 0
  · subst h0
    by_cases h1 : 0 < t.way.l.length
    · have h2 : (0 : Int) < t.way.l.length := by omega
      simp [k_job_Back, Sj.d, Ts.d, Rw.d, mz, tw, mk, n, h1, h2]
    · have h2 : ¬ (0 : Int) < t.way.l.length := by omega
      simp [k_job_Back, Sj.d, Ts.d, Rw.d, mz, tw, mk, n, h1, h2]
  · simp [k_job_Back, Sj.d, Ts.d, Rw.d, mz, tw, mk, n, h0]
def optK (j : Sj) : Sj := ⟨j.task, j.at_, j.inn, 2, 0, j.x, false, 0, j.x, false⟩
set_option maxRecDepth 10000 in
set_option maxHeartbeats 8000000 in
theorem job_Opt_K (j : Sj) : run kp (.datk f_job_Opt [j.d]) = some (.ds [(optK j).d]) := by
  have tw := fun tl b => jtwin_K tl b j
  have n := vm_New_K j.x
  obtain ⟨task, at_, inn, ph, p, x, over, kpc, kx, up⟩ := j
  rw [run_datk, run_call, kp_job_Opt]
  simp only [Sj.d, mz] at tw n
  simp [k_job_Opt, Sj.d, mz, tw, n, optK]
set_option maxRecDepth 10000 in
set_option maxHeartbeats 8000000 in
theorem fault_Hit_K (t : Ts) (j : Sj) (h2 : ¬ j.ph = 2) : run kp (.datk f_fault_Hit [t.d, j.d, .sl true []]) = some (.ds [(backK t j).d, .sl true [], .int .i64 (if (backK t j).ph = j.ph then 6 else 7)]) := by
  have b := job_Back_K t j
  have s := semas_nil j.task
  generalize backK t j = y at *
  obtain ⟨task, at_, inn, ph, p, x, over, kpc, kx, up⟩ := j
  obtain ⟨task', at', inn', ph', p', x', over', kpc', kx', up'⟩ := y
  rw [run_datk, run_call, kp_fault_Hit]
  simp only [Sj.d, Ts.d, Rw.d, mz] at b s h2
  by_cases e : ph' = ph
  · simp [k_fault_Hit, Sj.d, Ts.d, Rw.d, mz, b, s, h2, e]
  · simp [k_fault_Hit, Sj.d, Ts.d, Rw.d, mz, b, s, h2, e]
end Go.Cd
