/- Texts of this session in one. No conditions. -/
import Derived.Test.YtfddchjmpmjcfaaGreatR8QTwF
set_option linter.unusedVariables false
set_option linter.unusedSimpArgs false
namespace Go.Cd
open Go Go.Fw
variable {rank per stop : Int} {ml : List Inst} {wn : Bool} {wl : List Inst} {c p w : Int} {lo : Nat}
/-- A kernel with one task that runs, nobody has missed. -/
def r1 (now apart : Int) (t : Ts) (b : D) (hit jn : Bool) (jobs : List Sj) : Kn := ⟨now, apart, [t], [b], true, false, hit, jn, jobs, [.int .i64 0], [.bool false]⟩
theorem r1_ok {now apart : Int} {t : Ts} (ht : t.Ok) {b : D} {hit jn : Bool} {jobs : List Sj} (hj : jn = true → jobs = []) (hl : jobs.length ≤ 100) : (r1 now apart t b hit jn jobs).Ok :=
  ⟨⟨by simp [r1], fun x hx => by simp [r1] at hx; subst hx; exact ht⟩, by simp [r1], hl, hj, good_1⟩
set_option maxRecDepth 20000 in
set_option maxHeartbeats 32000000 in
theorem do_start (h : TsOk rank per stop ml wn wl c p w lo) (h9 : ∀ i ∈ ml ++ wl, ¬ i.op = 9) (hm : 1 ≤ ml.length) (apart : Int) (b : D) :
    run kp (.datk f_call_Do [(kA apart (tsOf rank per stop ml wn wl) b false [] []).d, clD 5 zT 0 0]) = some (.ds [(r1 0 apart (tsOf rank per stop ml wn wl) b false true []).d, .sl true [], rpD 0]) := by
  have s := start_K h h9 hm apart b
  have m := mine_K (r1 0 apart (tsOf rank per stop ml wn wl) b false true []) (r1_ok h.ok (fun _ => rfl) (by simp)) (fun _ => rfl)
  simp only [kA, r1, Kn.d, tsOf, Ts.d, Rw.d, List.map_cons, List.map_nil] at s m
  rw [run_datk, run_call, kp_call_Do]
  simp [k_call_Do, kA, r1, clD, hz, zT, rpD, Kn.d, tsOf, Ts.d, Rw.d, run_call, kp_call_asked_start, k_call_asked_start, canK_canH, gOf, hlook, s, m, wnew_1]
theorem play_Call_K (kind : Int) (t : List D) (a n : Int) : run kp (.datk f_play_Call [clD kind (.agg t) a n]) = some (.ds [stD 1 (clD kind (.agg t) a n) 0]) := by
  rw [run_datk, run_call, kp_play_Call]
  simp [k_play_Call, clD, stD, hz]
theorem step_call (K K' : List D) (cl : List D) (en : Bool) (ev : List D) (r : List D) (h : run kp (.datk f_call_Do [.agg K, .agg cl]) = some (.ds [.agg K', .sl en ev, .agg r])) :
    run kp (.datk f_trial_Do [.agg K, stD 1 (.agg cl) 0]) = some (.ds [.agg K', .sl en ev, .agg r]) := by
  rw [run_datk, run_call, kp_trial_Do]
  simp [k_trial_Do, stD, h]
theorem step_tick (K K' : List D) (en : Bool) (ev : List D) (h : run kp (.datk f_kern_Tick [.agg K]) = some (.ds [.agg K', .sl en ev])) :
    run kp (.datk f_trial_Do [.agg K, stD 2 zCl 0]) = some (.ds [.agg K', .sl en ev, rpD 0]) := by
  rw [run_datk, run_call, kp_trial_Do]
  simp [k_trial_Do, stD, zCl, zT, hz, rpD, h]
set_option maxRecDepth 20000 in
theorem step_hit (k : Kn) (hk : k.Ok) (hr : k.runs = true → k.halt = false) :
    run kp (.datk f_trial_Do [k.d, stD 3 zCl 0]) = some (.ds [({ k with hit := true } : Kn).d, .sl true [], rpD 0]) := by
  have r := rel_no { k with hit := true } ⟨hk.tasks, hk.bounds, hk.jobs, hk.jn, hk.good⟩ 0 hr
  simp only [Kn.d] at r ⊢
  rw [run_datk, run_call, kp_trial_Do]
  simp [k_trial_Do, stD, zCl, zT, hz, rpD, r]
set_option maxRecDepth 20000 in
set_option maxHeartbeats 32000000 in
theorem release_K (now apart : Int) (t : Ts) (ht : t.Ok) (b : D) (hit jn : Bool) (x : Int) :
    run kp (.datk f_kern_Release [(r1 now apart t b hit jn []).d, .int .i64 0, .int .i64 x]) = some (.ds [(r1 now apart t b hit false [Sj.mk 0 now x 0 0 x false 0 x false]).d, .sl false [evD now 1 0 x], .int .i64 0]) := by
  have tw := fun tl => twin_K tl (r1 now apart t b hit jn []) (r1_ok ht (fun _ => rfl) (by simp))
  have nj := job_New_K 0 now x
  simp only [Sj.d, mz] at nj
  simp only [r1, Kn.d, knV, knH, List.map_cons, List.map_nil, List.length_cons, List.length_nil, Nat.zero_add, Nat.reduceAdd, Int.cast_ofNat_Int] at tw
  rw [run_datk, run_call, kp_kern_Release]
  cases jn with
  | true =>
    simp only [jV, jH, jN] at tw
    simp [k_kern_Release, r1, Kn.d, Sj.d, mz, evD, tw, canK_canH, gOf, hlook, run_call, kp_kern_Kernel_find, k_kern_Kernel_find, kp_slices_BinarySearchFunc_api_Job_api_Job_int, k_slices_BinarySearchFunc_api_Job_api_Job_int, run_round, c_slices_BinarySearchFunc_api_Job_api_Job_int_L0, k_slices_BinarySearchFunc_api_Job_api_Job_int_L0b, kp_slices_Insert_api_Job_api_Job, k_slices_Insert_api_Job_api_Job, bodyK_nat, natV, insV, insAt, nj]
  | false =>
    simp only [jV, jH, jN] at tw
    simp [k_kern_Release, r1, Kn.d, Sj.d, mz, evD, tw, canK_canH, gOf, hlook, run_call, kp_kern_Kernel_find, k_kern_Kernel_find, kp_slices_BinarySearchFunc_api_Job_api_Job_int, k_slices_BinarySearchFunc_api_Job_api_Job_int, run_round, c_slices_BinarySearchFunc_api_Job_api_Job_int_L0, k_slices_BinarySearchFunc_api_Job_api_Job_int_L0b, kp_slices_Insert_api_Job_api_Job, k_slices_Insert_api_Job_api_Job, bodyK_nat, natV, insV, insAt, nj]
set_option maxRecDepth 20000 in
set_option maxHeartbeats 32000000 in
theorem do_release (now apart : Int) (t : Ts) (ht : t.Ok) (b : D) (hit jn : Bool) (x : Int) :
    run kp (.datk f_call_Do [(r1 now apart t b hit jn []).d, clD 6 zT 0 x]) = some (.ds [(r1 now apart t b hit false [Sj.mk 0 now x 0 0 x false 0 x false]).d, .sl false [evD now 1 0 x], rpD 0]) := by
  have s := release_K now apart t ht b hit jn x
  have m := mine_K (r1 now apart t b hit false [Sj.mk 0 now x 0 0 x false 0 x false]) (r1_ok ht (fun e => by cases e) (by simp)) (fun _ => rfl)
  simp only [r1, Kn.d, Ts.d, List.map_cons, List.map_nil] at s m
  rw [run_datk, run_call, kp_call_Do]
  simp [k_call_Do, r1, clD, hz, zT, rpD, Kn.d, Ts.d, run_call, kp_call_asked_release, k_call_asked_release, canK_canH, gOf, hlook, s, m]
end Go.Cd
namespace Go.Cd
open Go Go.Fw
variable {rank per stop : Int} {ml : List Inst} {wn : Bool} {wl : List Inst} {c p w : Int} {lo : Nat}
set_option maxRecDepth 20000 in
set_option maxHeartbeats 32000000 in
theorem all_begin (h : TsOk rank per stop ml wn wl c p w lo) (h9 : ∀ i ∈ ml ++ wl, ¬ i.op = 9) (hm : 1 ≤ ml.length) (apart : Int) (ha : c + lo ≤ apart ∧ apart ≤ 100000) :
    run kp (.datk f_trial_All [.int .i64 apart, .sl false [stD 1 (clD 1 (tsOf rank per stop ml wn wl).d 0 0) 0, stD 1 (clD 5 zT 0 0) 0]]) = some (.ds [(r1 0 apart (tsOf rank per stop ml wn wl) (bdD c lo stop) false true []).d, .sl true [], .sl false [rpD 0, rpD 0], .bool true]) := by
  have nw := kern_New_K apart ⟨by have := h.hc; omega, ha.2⟩
  have s1 := step_call _ _ _ _ _ _ (do_admit h apart ha)
  have s2 := step_call _ _ _ _ _ _ (do_start h h9 hm apart (bdD c lo stop))
  have wz : IntKind.i64.wrap 1 = 1 := rfl
  have wz2 : IntKind.i64.wrap 2 = 2 := rfl
  rw [run_datk, run_call, kp_trial_All]
  simp only [K0, kA, r1, Kn.d, tsOf, Ts.d, Rw.d, List.map_cons, List.map_nil, stD, clD, hz, zT, rpD] at nw s1 s2
  simp [k_trial_All, r1, Kn.d, tsOf, Ts.d, Rw.d, stD, clD, hz, zT, rpD, nw]
  rw [run_round]
  simp [c_trial_All_L0, k_trial_All_L0b, s1, wz]
  rw [run_round]
  simp [c_trial_All_L0, k_trial_All_L0b, s2, wz2]
  rw [run_round]
  simp [c_trial_All_L0, k_trial_All_L0b]
end Go.Cd
