/- A tick in which a job is hit, or done; releases; steps. No conditions. -/
import Derived.Test.YtfddchjmpmjcfaaGreatR8QTkF
set_option linter.unusedVariables false
set_option linter.unusedSimpArgs false
namespace Go.Cd
open Go Go.Fw
set_option maxRecDepth 20000 in
set_option maxHeartbeats 64000000 in
theorem tick_hit (now apart : Int) (hn : -1000 ≤ now ∧ now ≤ 4611686018427387904) (t : Ts) (ht : t.Ok) (b : Bd) (j : Sj) (hj : j.task = 0 ∧ -1000 ≤ j.at_ ∧ j.at_ ≤ 4611686018427387904) (hp : ¬ j.ph = 2) (he : ¬ now - j.at_ = t.stop) (rows off : List D) (g : run kp (.datk f_watch_Good [.agg [.sl false rows, .sl false off], .int .i64 (-1)]) = some (.ds [.agg [.sl false rows, .sl false off]])) :
    run kp (.datk f_kern_Tick [(k1 now apart t b true false [j] rows off).d]) = some (.ds [(k1 (now + 1) apart t b false false [backK t (upK j now b.p)] rows off).d, .sl false [evD now 2 0 0, evD now (if (backK t (upK j now b.p)).ph = j.ph then 6 else 7) 0 0]]) := by
  have tw := fun tl => twin_K tl (k1 now apart t b true false [j] rows off) (k1_ok ht (fun h => by cases h) (by simp) g)
  have fh := fault_Hit_K t (upK j now b.p) hp
  have ph : (upK j now b.p).ph = j.ph := rfl
  have tk : (backK t (upK j now b.p)).task = 0 := by unfold backK; split <;> exact hj.1
  rw [ph] at fh
  have w : IntKind.i64.wrap (now + 1) = now + 1 := wrap_i64 (by omega) (by omega)
  have w1 : IntKind.i64.wrap (now - j.at_) = now - j.at_ := wrap_i64 (by omega) (by omega)
  have wz : IntKind.i64.wrap 1 = 1 := rfl
  have wz0 : IntKind.i64.wrap 0 = 0 := rfl
  have nx := next_one (upK j now b.p) 1
  obtain ⟨h0, _, _⟩ := hj
  have kd : ¬ (if (backK t (upK j now b.p)).ph = j.ph then (6 : Int) else 7) = 13 := by split <;> omega
  generalize (if (backK t (upK j now b.p)).ph = j.ph then (6 : Int) else 7) = kind at *
  generalize backK t (upK j now b.p) = j' at *
  obtain ⟨task, at_, inn, ph, pc, x, over, kpc, kx, up⟩ := j
  obtain ⟨task', at', inn', ph', pc', x', over', kpc', kx', up'⟩ := j'
  obtain ⟨rank, per, stop, main, way, opt⟩ := t
  simp only at h0 hp he w1 tk
  subst h0 tk
  rw [run_datk, run_call, kp_kern_Tick]
  simp only [k1, Kn.d, knV, knH, jV, jH, jN, List.map_cons, List.map_nil, List.length_cons, List.length_nil, Nat.zero_add, Nat.reduceAdd, Int.cast_ofNat_Int, Sj.d, Ts.d, Bd.d, mz] at tw
  by_cases c : b.p ≤ now - at_
  · simp only [upK, c, decide_true, Bool.true_or, Sj.d, mz, Ts.d, Inst.d] at nx fh
    simp [k_kern_Tick, k1, Kn.d, Sj.d, Ts.d, Bd.d, mz, evD, tw, canK_canH, gOf, hlook, run_call, kp_kern_turn_ends, k_kern_turn_ends, kp_kern_turn_promotes, k_kern_turn_promotes, kp_kern_turn_audits, k_kern_turn_audits, kp_kern_turn_runs, k_kern_turn_runs, kp_kern_turn_tells, k_kern_turn_tells, kp_kern_turn_goes, k_kern_turn_goes, kp_kern_turn_hits, k_kern_turn_hits, kp_kern_turn_done, k_kern_turn_done, kp_kern_Kernel_lock, k_kern_Kernel_lock, run_round, c_kern_turn_ends_L0, k_kern_turn_ends_L0b, c_kern_turn_promotes_L0, k_kern_turn_promotes_L0b, c_kern_turn_audits_L0, k_kern_turn_audits_L0b, c_kern_Kernel_lock_L0, k_kern_Kernel_lock_L0b, audit_T', semas_T', locks_T', kp_slices_Delete_api_Job_api_Job, k_slices_Delete_api_Job_api_Job, bodyK_nat, natV, delV, nx, fh, w, w1, wz, he, hp, c, kd]
  · simp only [upK, c, decide_false, Bool.false_or, Sj.d, mz, Ts.d, Inst.d] at nx fh
    simp [k_kern_Tick, k1, Kn.d, Sj.d, Ts.d, Bd.d, mz, evD, tw, canK_canH, gOf, hlook, run_call, kp_kern_turn_ends, k_kern_turn_ends, kp_kern_turn_promotes, k_kern_turn_promotes, kp_kern_turn_audits, k_kern_turn_audits, kp_kern_turn_runs, k_kern_turn_runs, kp_kern_turn_tells, k_kern_turn_tells, kp_kern_turn_goes, k_kern_turn_goes, kp_kern_turn_hits, k_kern_turn_hits, kp_kern_turn_done, k_kern_turn_done, kp_kern_Kernel_lock, k_kern_Kernel_lock, run_round, c_kern_turn_ends_L0, k_kern_turn_ends_L0b, c_kern_turn_promotes_L0, k_kern_turn_promotes_L0b, c_kern_turn_audits_L0, k_kern_turn_audits_L0b, c_kern_Kernel_lock_L0, k_kern_Kernel_lock_L0b, audit_T', semas_T', locks_T', kp_slices_Delete_api_Job_api_Job, k_slices_Delete_api_Job_api_Job, bodyK_nat, natV, delV, nx, fh, w, w1, wz, he, hp, c, kd]
set_option maxRecDepth 20000 in
set_option maxHeartbeats 64000000 in
theorem tick_donew (now apart : Int) (hn : -1000 ≤ now ∧ now ≤ 4611686018427387904) (t : Ts) (ht : t.Ok) (b : Bd) (j : Sj) (hj : j.task = 0 ∧ -1000 ≤ j.at_ ∧ j.at_ ≤ 4611686018427387904) (hp : ¬ j.ph = 2) (he : ¬ now - j.at_ = t.stop) (rows off : List D) (g : run kp (.datk f_watch_Good [.agg [.sl false rows, .sl false off], .int .i64 (-1)]) = some (.ds [.agg [.sl false rows, .sl false off]]))
    (hc : 0 < t.way.l.length ∧ j.ph = 0) (ho0 : t.opt = ⟨true, []⟩) (rows' off' : List D) (g0 : run kp (.datk f_watch_Good [.agg [.sl false rows, .sl false off], .int .i64 0]) = some (.ds [.agg [.sl false rows', .sl false off']]))
    (j' : Sj) (i : Inst) (hg : run kp (.datk f_job_Go [t.d, (upK j now b.p).d]) = some (.ds [j'.d, i.d, .bool true])) (ho : j'.over = true) (hp' : j'.ph = j.ph) (h9 : ¬ i.op = 9) (h10 : ¬ i.op = 10) (ht' : j'.task = 0) :
    run kp (.datk f_kern_Tick [(k1 now apart t b false false [j] rows off).d]) = some (.ds [(k1 (now + 1) apart t b false false [] rows' off').d, .sl false [evD now 2 0 0, evD now 3 0 j'.x, evD now 8 0 0]]) := by
  have tw := fun tl => twin_K tl (k1 now apart t b false false [j] rows off) (k1_ok ht (fun h => by cases h) (by simp) g)
  have jo := job_Opt_K j'
  have w : IntKind.i64.wrap (now + 1) = now + 1 := wrap_i64 (by omega) (by omega)
  have w1 : IntKind.i64.wrap (now - j.at_) = now - j.at_ := wrap_i64 (by omega) (by omega)
  have wz : IntKind.i64.wrap 1 = 1 := rfl
  have wz0 : IntKind.i64.wrap 0 = 0 := rfl
  have nx := next_one (upK j now b.p) 1
  obtain ⟨h0, _, _⟩ := hj
  obtain ⟨cw, cp⟩ := hc
  have cw2 : (0 : Int) < (t.way.l.length : Int) := by omega
  obtain ⟨task, at_, inn, ph, pc, x, over, kpc, kx, up⟩ := j
  obtain ⟨task', at', inn', ph', pc', x', over', kpc', kx', up'⟩ := j'
  obtain ⟨op, a, bb, n⟩ := i
  obtain ⟨rank, per, stop, main, way, opt⟩ := t
  simp only at h0 hp he ho w1 h9 h10 hp' ht' ho0 cp cw cw2
  subst h0 ho hp' ht' ho0 cp
  rw [run_datk, run_call, kp_kern_Tick]
  simp only [k1, Kn.d, knV, knH, jV, jH, jN, List.map_cons, List.map_nil, List.length_cons, List.length_nil, Nat.zero_add, Nat.reduceAdd, Int.cast_ofNat_Int, Sj.d, Ts.d, Rw.d, Bd.d, mz] at tw
  simp only [optK, Sj.d, mz] at jo
  by_cases c : b.p ≤ now - at_
  · simp only [upK, c, decide_true, Bool.true_or, Sj.d, mz, Ts.d, Rw.d, Inst.d, List.map_nil] at nx hg
    simp (config := { maxSteps := 1000000 }) [k_kern_Tick, k1, Kn.d, Sj.d, Ts.d, Rw.d, Bd.d, mz, evD, tw, canK_canH, gOf, hlook, run_call, kp_kern_turn_ends, k_kern_turn_ends, kp_kern_turn_promotes, k_kern_turn_promotes, kp_kern_turn_audits, k_kern_turn_audits, kp_kern_turn_runs, k_kern_turn_runs, kp_kern_turn_tells, k_kern_turn_tells, kp_kern_turn_goes, k_kern_turn_goes, kp_kern_turn_hits, k_kern_turn_hits, kp_kern_turn_done, k_kern_turn_done, kp_kern_Kernel_lock, k_kern_Kernel_lock, run_round, c_kern_turn_ends_L0, k_kern_turn_ends_L0b, c_kern_turn_promotes_L0, k_kern_turn_promotes_L0b, c_kern_turn_audits_L0, k_kern_turn_audits_L0b, c_kern_Kernel_lock_L0, k_kern_Kernel_lock_L0b, audit_T', semas_T', locks_T', kp_slices_Delete_api_Job_api_Job, k_slices_Delete_api_Job_api_Job, bodyK_nat, natV, delV, nx, hg, jo, g0, w, w1, wz, wz0, he, hp, c, h9, h10, cw, cw2]
  · simp only [upK, c, decide_false, Bool.false_or, Sj.d, mz, Ts.d, Rw.d, Inst.d, List.map_nil] at nx hg
    simp (config := { maxSteps := 1000000 }) [k_kern_Tick, k1, Kn.d, Sj.d, Ts.d, Rw.d, Bd.d, mz, evD, tw, canK_canH, gOf, hlook, run_call, kp_kern_turn_ends, k_kern_turn_ends, kp_kern_turn_promotes, k_kern_turn_promotes, kp_kern_turn_audits, k_kern_turn_audits, kp_kern_turn_runs, k_kern_turn_runs, kp_kern_turn_tells, k_kern_turn_tells, kp_kern_turn_goes, k_kern_turn_goes, kp_kern_turn_hits, k_kern_turn_hits, kp_kern_turn_done, k_kern_turn_done, kp_kern_Kernel_lock, k_kern_Kernel_lock, run_round, c_kern_turn_ends_L0, k_kern_turn_ends_L0b, c_kern_turn_promotes_L0, k_kern_turn_promotes_L0b, c_kern_turn_audits_L0, k_kern_turn_audits_L0b, c_kern_Kernel_lock_L0, k_kern_Kernel_lock_L0b, audit_T', semas_T', locks_T', kp_slices_Delete_api_Job_api_Job, k_slices_Delete_api_Job_api_Job, bodyK_nat, natV, delV, nx, hg, jo, g0, w, w1, wz, wz0, he, hp, c, h9, h10, cw, cw2]
set_option maxRecDepth 20000 in
set_option maxHeartbeats 64000000 in
theorem tick_done (now apart : Int) (hn : -1000 ≤ now ∧ now ≤ 4611686018427387904) (t : Ts) (ht : t.Ok) (b : Bd) (j : Sj) (hj : j.task = 0 ∧ -1000 ≤ j.at_ ∧ j.at_ ≤ 4611686018427387904) (hp : ¬ j.ph = 2) (he : ¬ now - j.at_ = t.stop) (rows off : List D) (g : run kp (.datk f_watch_Good [.agg [.sl false rows, .sl false off], .int .i64 (-1)]) = some (.ds [.agg [.sl false rows, .sl false off]]))
    (hc : ¬ (j.ph = 0 ∧ 0 < t.way.l.length)) (ho0 : t.opt = ⟨true, []⟩) (rows' off' : List D) (g0 : run kp (.datk f_watch_Good [.agg [.sl false rows, .sl false off], .int .i64 0]) = some (.ds [.agg [.sl false rows', .sl false off']]))
    (j' : Sj) (i : Inst) (hg : run kp (.datk f_job_Go [t.d, (upK j now b.p).d]) = some (.ds [j'.d, i.d, .bool true])) (ho : j'.over = true) (hp' : j'.ph = j.ph) (h9 : ¬ i.op = 9) (h10 : ¬ i.op = 10) (ht' : j'.task = 0) :
    run kp (.datk f_kern_Tick [(k1 now apart t b false false [j] rows off).d]) = some (.ds [(k1 (now + 1) apart t b false false [] rows' off').d, .sl false [evD now 2 0 0, evD now 3 0 j'.x]]) := by
  have tw := fun tl => twin_K tl (k1 now apart t b false false [j] rows off) (k1_ok ht (fun h => by cases h) (by simp) g)
  have jo := job_Opt_K j'
  have w : IntKind.i64.wrap (now + 1) = now + 1 := wrap_i64 (by omega) (by omega)
  have w1 : IntKind.i64.wrap (now - j.at_) = now - j.at_ := wrap_i64 (by omega) (by omega)
  have wz : IntKind.i64.wrap 1 = 1 := rfl
  have wz0 : IntKind.i64.wrap 0 = 0 := rfl
  have nx := next_one (upK j now b.p) 1
  obtain ⟨h0, _, _⟩ := hj
  have hc2 : ¬ j.ph = 0 ∨ (j.ph = 0 ∧ ¬ (0 : Int) < (t.way.l.length : Int) ∧ ¬ 0 < t.way.l.length) := by omega
  obtain ⟨task, at_, inn, ph, pc, x, over, kpc, kx, up⟩ := j
  obtain ⟨task', at', inn', ph', pc', x', over', kpc', kx', up'⟩ := j'
  obtain ⟨op, a, bb, n⟩ := i
  obtain ⟨rank, per, stop, main, way, opt⟩ := t
  simp only at h0 hp he ho w1 h9 h10 hp' ht' ho0 hc2
  subst h0 ho hp' ht' ho0
  rw [run_datk, run_call, kp_kern_Tick]
  simp only [k1, Kn.d, knV, knH, jV, jH, jN, List.map_cons, List.map_nil, List.length_cons, List.length_nil, Nat.zero_add, Nat.reduceAdd, Int.cast_ofNat_Int, Sj.d, Ts.d, Rw.d, Bd.d, mz] at tw
  simp only [optK, Sj.d, mz] at jo
  by_cases c : b.p ≤ now - at_
  · simp only [upK, c, decide_true, Bool.true_or, Sj.d, mz, Ts.d, Rw.d, Inst.d, List.map_nil] at nx hg
    rcases hc2 with q | ⟨q1, q2, q3⟩
    · simp (config := { maxSteps := 1000000 }) [k_kern_Tick, k1, Kn.d, Sj.d, Ts.d, Rw.d, Bd.d, mz, evD, tw, canK_canH, gOf, hlook, run_call, kp_kern_turn_ends, k_kern_turn_ends, kp_kern_turn_promotes, k_kern_turn_promotes, kp_kern_turn_audits, k_kern_turn_audits, kp_kern_turn_runs, k_kern_turn_runs, kp_kern_turn_tells, k_kern_turn_tells, kp_kern_turn_goes, k_kern_turn_goes, kp_kern_turn_hits, k_kern_turn_hits, kp_kern_turn_done, k_kern_turn_done, kp_kern_Kernel_lock, k_kern_Kernel_lock, run_round, c_kern_turn_ends_L0, k_kern_turn_ends_L0b, c_kern_turn_promotes_L0, k_kern_turn_promotes_L0b, c_kern_turn_audits_L0, k_kern_turn_audits_L0b, c_kern_Kernel_lock_L0, k_kern_Kernel_lock_L0b, audit_T', semas_T', locks_T', kp_slices_Delete_api_Job_api_Job, k_slices_Delete_api_Job_api_Job, bodyK_nat, natV, delV, nx, hg, jo, g0, w, w1, wz, wz0, he, hp, c, h9, h10, q]
    · subst q1
      simp (config := { maxSteps := 1000000 }) [k_kern_Tick, k1, Kn.d, Sj.d, Ts.d, Rw.d, Bd.d, mz, evD, tw, canK_canH, gOf, hlook, run_call, kp_kern_turn_ends, k_kern_turn_ends, kp_kern_turn_promotes, k_kern_turn_promotes, kp_kern_turn_audits, k_kern_turn_audits, kp_kern_turn_runs, k_kern_turn_runs, kp_kern_turn_tells, k_kern_turn_tells, kp_kern_turn_goes, k_kern_turn_goes, kp_kern_turn_hits, k_kern_turn_hits, kp_kern_turn_done, k_kern_turn_done, kp_kern_Kernel_lock, k_kern_Kernel_lock, run_round, c_kern_turn_ends_L0, k_kern_turn_ends_L0b, c_kern_turn_promotes_L0, k_kern_turn_promotes_L0b, c_kern_turn_audits_L0, k_kern_turn_audits_L0b, c_kern_Kernel_lock_L0, k_kern_Kernel_lock_L0b, audit_T', semas_T', locks_T', kp_slices_Delete_api_Job_api_Job, k_slices_Delete_api_Job_api_Job, bodyK_nat, natV, delV, nx, hg, jo, g0, w, w1, wz, wz0, he, hp, c, h9, h10, q2, q3]
  · simp only [upK, c, decide_false, Bool.false_or, Sj.d, mz, Ts.d, Rw.d, Inst.d, List.map_nil] at nx hg
    rcases hc2 with q | ⟨q1, q2, q3⟩
    · simp (config := { maxSteps := 1000000 }) [k_kern_Tick, k1, Kn.d, Sj.d, Ts.d, Rw.d, Bd.d, mz, evD, tw, canK_canH, gOf, hlook, run_call, kp_kern_turn_ends, k_kern_turn_ends, kp_kern_turn_promotes, k_kern_turn_promotes, kp_kern_turn_audits, k_kern_turn_audits, kp_kern_turn_runs, k_kern_turn_runs, kp_kern_turn_tells, k_kern_turn_tells, kp_kern_turn_goes, k_kern_turn_goes, kp_kern_turn_hits, k_kern_turn_hits, kp_kern_turn_done, k_kern_turn_done, kp_kern_Kernel_lock, k_kern_Kernel_lock, run_round, c_kern_turn_ends_L0, k_kern_turn_ends_L0b, c_kern_turn_promotes_L0, k_kern_turn_promotes_L0b, c_kern_turn_audits_L0, k_kern_turn_audits_L0b, c_kern_Kernel_lock_L0, k_kern_Kernel_lock_L0b, audit_T', semas_T', locks_T', kp_slices_Delete_api_Job_api_Job, k_slices_Delete_api_Job_api_Job, bodyK_nat, natV, delV, nx, hg, jo, g0, w, w1, wz, wz0, he, hp, c, h9, h10, q]
    · subst q1
      simp (config := { maxSteps := 1000000 }) [k_kern_Tick, k1, Kn.d, Sj.d, Ts.d, Rw.d, Bd.d, mz, evD, tw, canK_canH, gOf, hlook, run_call, kp_kern_turn_ends, k_kern_turn_ends, kp_kern_turn_promotes, k_kern_turn_promotes, kp_kern_turn_audits, k_kern_turn_audits, kp_kern_turn_runs, k_kern_turn_runs, kp_kern_turn_tells, k_kern_turn_tells, kp_kern_turn_goes, k_kern_turn_goes, kp_kern_turn_hits, k_kern_turn_hits, kp_kern_turn_done, k_kern_turn_done, kp_kern_Kernel_lock, k_kern_Kernel_lock, run_round, c_kern_turn_ends_L0, k_kern_turn_ends_L0b, c_kern_turn_promotes_L0, k_kern_turn_promotes_L0b, c_kern_turn_audits_L0, k_kern_turn_audits_L0b, c_kern_Kernel_lock_L0, k_kern_Kernel_lock_L0b, audit_T', semas_T', locks_T', kp_slices_Delete_api_Job_api_Job, k_slices_Delete_api_Job_api_Job, bodyK_nat, natV, delV, nx, hg, jo, g0, w, w1, wz, wz0, he, hp, c, h9, h10, q2, q3]
end Go.Cd
