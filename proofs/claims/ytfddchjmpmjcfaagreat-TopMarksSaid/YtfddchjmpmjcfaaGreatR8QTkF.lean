/- Texts of this session in one. No conditions. -/
import Derived.Test.YtfddchjmpmjcfaaGreatR8QTkD
set_option linter.unusedVariables false
set_option linter.unusedSimpArgs false
namespace Go.Cd
open Go Go.Fw
set_option maxRecDepth 100000 in
theorem low_nil (t : Int) : run kp (.data f_sema_Low [.sl true [], .sl true [], .int .i64 t]) = some (.ds [.int .i64 0, .bool false]) := run_of (n := 4000) (by kernel_rfl)
def baseK (j : Sj) (n : Int) : Int := if j.ph = 2 then IntKind.i64.wrap (IntKind.i64.wrap (n + n) + j.task) else if j.up then j.task else IntKind.i64.wrap (n + j.task)
theorem band_Base_K (j : Sj) (n : Int) : run kp (.data f_band_Base [j.d, .int .i64 n]) = some (.ds [.int .i64 (baseK j n)]) := by
  obtain ⟨task, at_, inn, ph, p, x, over, kpc, kx, up⟩ := j
  rw [run_data, run_call, kp_band_Base]
  by_cases h : ph = 2
  · simp [k_band_Base, Sj.d, mz, baseK, h]
  · cases up <;> simp [k_band_Base, Sj.d, mz, baseK, h]
theorem band_Of_K (j : Sj) (n : Int) : run kp (.data f_band_Of [j.d, .int .i64 n, .sl true []]) = some (.ds [.int .i64 (baseK j n)]) := by
  have b := band_Base_K j n
  generalize baseK j n = v at *
  obtain ⟨task, at_, inn, ph, p, x, over, kpc, kx, up⟩ := j
  rw [run_data, run_call, kp_band_Of]
  simp only [Sj.d, mz] at b
  simp [k_band_Of, Sj.d, mz, low_nil, b]
def plK (a b c : Int) : D := .agg [.int .i64 a, .int .i64 b, .int .i64 c]
theorem pick_of_K (j : Sj) (n : Int) : run kp (.data f_pick_of [j.d, .int .i64 n, .sl true []]) = some (.ds [plK (baseK j n) 1 j.task]) := by
  have b := band_Of_K j n
  generalize baseK j n = v at *
  obtain ⟨task, at_, inn, ph, p, x, over, kpc, kx, up⟩ := j
  rw [run_data, run_call, kp_pick_of]
  simp only [Sj.d, mz] at b
  simp [k_pick_of, Sj.d, mz, low_nil, b, plK]
theorem nan_K (x : Int) : run kp (.data f_cmp_isNaN_int [.int .i64 x]) = some (.ds [.bool false]) := by
  rw [run_data, run_call, kp_cmp_isNaN_int]
  simp [k_cmp_isNaN_int]
theorem cmp_same (x : Int) : run kp (.data f_cmp_Compare_int [.int .i64 x, .int .i64 x]) = some (.ds [.int .i64 0]) := by
  rw [run_data, run_call, kp_cmp_Compare_int]
  simp [k_cmp_Compare_int, nan_K]
set_option maxRecDepth 100000 in
theorem or_zero : run kp (.data f_cmp_Or_int [.sl false [.int .i64 0, .int .i64 0, .int .i64 0]]) = some (.ds [.int .i64 0]) := run_of (n := 4000) (by kernel_rfl)
theorem compare_same (a b c : Int) : run kp (.data f_pick_compare [plK a b c, plK a b c]) = some (.ds [.int .i64 0]) := by
  rw [run_data, run_call, kp_pick_compare]
  simp [k_pick_compare, plK, cmp_same, or_zero]
set_option maxRecDepth 100000 in
theorem set_0 : run kp (.data f_row_Set [.int .u64 0, .int .i64 0]) = some (.ds [.int .u64 1]) := run_of (n := 4000) (by kernel_rfl)
set_option maxRecDepth 100000 in
theorem first_1 : run kp (.data f_row_First [.int .u64 1]) = some (.ds [.int .i64 0, .bool true]) := run_of (n := 4000) (by kernel_rfl)
set_option maxRecDepth 10000 in
theorem pick_first_1 (a b c : Int) : run kp (.data f_pick_first [.sl false [plK a b c]]) = some (.ds [.int .i64 0]) := by
  have s := compare_same a b c
  have w : IntKind.i64.wrap 1 = 1 := rfl
  rw [run_data, run_call, kp_pick_first]
  simp only [plK] at s
  simp [k_pick_first, plK]
  rw [run_round]
  simp [c_pick_first_L0, k_pick_first_L0b, s, set_0, w]
  rw [run_round]
  simp [c_pick_first_L0, k_pick_first_L0b, first_1]
set_option maxRecDepth 100000 in
theorem next_nil (n : Int) : run kp (.data f_pick_Next [.sl true [], .int .i64 n, .sl true []]) = some (.ds [.int .i64 0, .bool false]) := run_of (n := 4000) (by kernel_rfl)
set_option maxRecDepth 10000 in
set_option maxHeartbeats 4000000 in
theorem next_one (j : Sj) (n : Int) : run kp (.data f_pick_Next [.sl false [j.d], .int .i64 n, .sl true []]) = some (.ds [.int .i64 0, .bool true]) := by
  have o := pick_of_K j n
  have f := pick_first_1 (baseK j n) 1 j.task
  generalize baseK j n = v at *
  obtain ⟨task, at_, inn, ph, p, x, over, kpc, kx, up⟩ := j
  have w : IntKind.i64.wrap 1 = 1 := rfl
  have w64 : IntKind.i64.wrap 64 = 64 := rfl
  have w0 : IntKind.i64.wrap 0 = 0 := rfl
  rw [run_data, run_call, kp_pick_Next]
  simp only [Sj.d, mz, plK] at o f
  simp [k_pick_Next, Sj.d, mz]
  rw [run_round]
  simp [c_pick_Next_L0, k_pick_Next_L0b, o, plK, w]
  rw [run_round]
  simp [c_pick_Next_L0, k_pick_Next_L0b]
  rw [run_round]
  simp [c_pick_Next_L1, k_pick_Next_L1b, f, w64, w0]
  rw [run_round]
  simp [c_pick_Next_L1, k_pick_Next_L1b]
end Go.Cd
namespace Go.Cd
open Go Go.Fw
structure Bd where
  c : Int
  l : Int
  b : Int
  r : Int
  p : Int
def Bd.d (b : Bd) : D := .agg [.int .i64 b.c, .int .i64 b.l, .int .i64 b.b, .int .i64 b.r, .int .i64 b.p]
/-- A kernel with one task, that runs. -/
def k1 (now apart : Int) (t : Ts) (b : Bd) (hit : Bool) (jn : Bool) (jobs : List Sj) (rows off : List D) : Kn := ⟨now, apart, [t], [b.d], true, false, hit, jn, jobs, rows, off⟩
def evD (at_ kind task n : Int) : D := .agg [.int .i64 at_, .int .i64 kind, .int .i64 task, .int .i64 0, .int .i64 n, .int .i64 0]
theorem k1_ok {now apart : Int} {t : Ts} (ht : t.Ok) {b : Bd} {hit : Bool} {jn : Bool} {jobs : List Sj} {rows off : List D} (hj : jn = true → jobs = []) (hl : jobs.length ≤ 100) (g : run kp (.datk f_watch_Good [.agg [.sl false rows, .sl false off], .int .i64 (-1)]) = some (.ds [.agg [.sl false rows, .sl false off]])) : (k1 now apart t b hit jn jobs rows off).Ok :=
  ⟨⟨by simp [k1], fun x hx => by simp [k1] at hx; subst hx; exact ht⟩, by simp [k1], hl, hj, g⟩
theorem audit_T' : run kp (.datk f_obj_Audit [.agg [gS, gL]]) = some (.ds [.agg [gS, gL], .sl true [], .sl true []]) := audit_T
theorem semas_T' : run kp (.data f_obj_Semas [.agg [gS, gL]]) = some (.ds [.sl true []]) := semas_T
theorem locks_T' (a b c d e f g h w : D) : run kp (.data f_kern_Locks [.agg [a, b, c, d, e, f, g, h, .agg [gS, gL], w]]) = some (.ds [.sl true []]) := locks_T a b c d e f g h w
set_option maxRecDepth 20000 in
set_option maxHeartbeats 64000000 in
theorem tick_none (now apart : Int) (hn : -1000 ≤ now ∧ now ≤ 4611686018427387904) (t : Ts) (ht : t.Ok) (b : Bd) (hit : Bool) (jn : Bool) (rows off : List D) (g : run kp (.datk f_watch_Good [.agg [.sl false rows, .sl false off], .int .i64 (-1)]) = some (.ds [.agg [.sl false rows, .sl false off]])) :
    run kp (.datk f_kern_Tick [(k1 now apart t b hit jn [] rows off).d]) = some (.ds [(k1 (now + 1) apart t b false true [] rows off).d, .sl true []]) := by
  have tw := fun tl => twin_K tl (k1 now apart t b hit jn [] rows off) (k1_ok ht (fun _ => rfl) (by simp) g)
  have w : IntKind.i64.wrap (now + 1) = now + 1 := wrap_i64 (by omega) (by omega)
  have wz : IntKind.i64.wrap 0 = 0 := rfl
  rw [run_datk, run_call, kp_kern_Tick]
  simp only [k1, Kn.d, knV, knH, List.map_cons, List.map_nil, List.length_cons, List.length_nil] at tw
  cases jn with
  | true =>
    simp only [jV, jH, jN] at tw
    simp [k_kern_Tick, k1, Kn.d, tw, canK_canH, gOf, hlook, run_call, kp_kern_turn_ends, k_kern_turn_ends, kp_kern_turn_promotes, k_kern_turn_promotes, kp_kern_turn_audits, k_kern_turn_audits, kp_kern_turn_runs, k_kern_turn_runs, run_round, c_kern_turn_ends_L0, k_kern_turn_ends_L0b, c_kern_turn_promotes_L0, k_kern_turn_promotes_L0b, c_kern_turn_audits_L0, k_kern_turn_audits_L0b, audit_T', locks_T', next_nil, w]
  | false =>
    simp only [jV, jH, jN] at tw
    simp [k_kern_Tick, k1, Kn.d, tw, canK_canH, gOf, hlook, run_call, kp_kern_turn_ends, k_kern_turn_ends, kp_kern_turn_promotes, k_kern_turn_promotes, kp_kern_turn_audits, k_kern_turn_audits, kp_kern_turn_runs, k_kern_turn_runs, run_round, c_kern_turn_ends_L0, k_kern_turn_ends_L0b, c_kern_turn_promotes_L0, k_kern_turn_promotes_L0b, c_kern_turn_audits_L0, k_kern_turn_audits_L0b, audit_T', locks_T', next_nil, w]
/-- Promoted, if it is time. -/
def upK (j : Sj) (now p : Int) : Sj := ⟨j.task, j.at_, j.inn, j.ph, j.pc, j.x, j.over, j.kpc, j.kx, decide (p ≤ now - j.at_) || j.up⟩
set_option maxRecDepth 20000 in
set_option maxHeartbeats 64000000 in
theorem tick_go (now apart : Int) (hn : -1000 ≤ now ∧ now ≤ 4611686018427387904) (t : Ts) (ht : t.Ok) (b : Bd) (j : Sj) (hj : j.task = 0 ∧ -1000 ≤ j.at_ ∧ j.at_ ≤ 4611686018427387904) (hp : ¬ j.ph = 2) (he : ¬ now - j.at_ = t.stop) (rows off : List D) (g : run kp (.datk f_watch_Good [.agg [.sl false rows, .sl false off], .int .i64 (-1)]) = some (.ds [.agg [.sl false rows, .sl false off]]))
    (j' : Sj) (i : Inst) (hg : run kp (.datk f_job_Go [t.d, (upK j now b.p).d]) = some (.ds [j'.d, i.d, .bool true])) (ho : j'.over = false) (h9 : ¬ i.op = 9) (h10 : ¬ i.op = 10) :
    run kp (.datk f_kern_Tick [(k1 now apart t b false false [j] rows off).d]) = some (.ds [(k1 (now + 1) apart t b false false [j'] rows off).d, .sl false [evD now 2 0 0]]) := by
  have tw := fun tl => twin_K tl (k1 now apart t b false false [j] rows off) (k1_ok ht (fun h => by cases h) (by simp) g)
  have w : IntKind.i64.wrap (now + 1) = now + 1 := wrap_i64 (by omega) (by omega)
  have w1 : IntKind.i64.wrap (now - j.at_) = now - j.at_ := wrap_i64 (by omega) (by omega)
  have wz : IntKind.i64.wrap 1 = 1 := rfl
  have nx := next_one (upK j now b.p) 1
  obtain ⟨h0, _, _⟩ := hj
  obtain ⟨task, at_, inn, ph, pc, x, over, kpc, kx, up⟩ := j
  obtain ⟨task', at', inn', ph', pc', x', over', kpc', kx', up'⟩ := j'
  obtain ⟨op, a, bb, n⟩ := i
  obtain ⟨rank, per, stop, main, way, opt⟩ := t
  simp only at h0 hp he ho w1 h9 h10
  subst h0 ho
  rw [run_datk, run_call, kp_kern_Tick]
  simp only [k1, Kn.d, knV, knH, jV, jH, jN, List.map_cons, List.map_nil, List.length_cons, List.length_nil, Nat.zero_add, Nat.reduceAdd, Int.cast_ofNat_Int, Sj.d, Ts.d, Bd.d, mz] at tw
  by_cases c : b.p ≤ now - at_
  · simp only [upK, c, decide_true, Bool.true_or, Sj.d, mz, Ts.d, Inst.d] at nx hg
    simp [k_kern_Tick, k1, Kn.d, Sj.d, Ts.d, Bd.d, mz, evD, tw, canK_canH, gOf, hlook, run_call, kp_kern_turn_ends, k_kern_turn_ends, kp_kern_turn_promotes, k_kern_turn_promotes, kp_kern_turn_audits, k_kern_turn_audits, kp_kern_turn_runs, k_kern_turn_runs, kp_kern_turn_tells, k_kern_turn_tells, kp_kern_turn_goes, k_kern_turn_goes, kp_kern_turn_hits, k_kern_turn_hits, kp_kern_turn_done, k_kern_turn_done, kp_kern_Kernel_lock, k_kern_Kernel_lock, run_round, c_kern_turn_ends_L0, k_kern_turn_ends_L0b, c_kern_turn_promotes_L0, k_kern_turn_promotes_L0b, c_kern_turn_audits_L0, k_kern_turn_audits_L0b, c_kern_Kernel_lock_L0, k_kern_Kernel_lock_L0b, audit_T', semas_T', locks_T', nx, hg, w, w1, wz, he, hp, c, h9, h10]
  · simp only [upK, c, decide_false, Bool.false_or, Sj.d, mz, Ts.d, Inst.d] at nx hg
    simp [k_kern_Tick, k1, Kn.d, Sj.d, Ts.d, Bd.d, mz, evD, tw, canK_canH, gOf, hlook, run_call, kp_kern_turn_ends, k_kern_turn_ends, kp_kern_turn_promotes, k_kern_turn_promotes, kp_kern_turn_audits, k_kern_turn_audits, kp_kern_turn_runs, k_kern_turn_runs, kp_kern_turn_tells, k_kern_turn_tells, kp_kern_turn_goes, k_kern_turn_goes, kp_kern_turn_hits, k_kern_turn_hits, kp_kern_turn_done, k_kern_turn_done, kp_kern_Kernel_lock, k_kern_Kernel_lock, run_round, c_kern_turn_ends_L0, k_kern_turn_ends_L0b, c_kern_turn_promotes_L0, k_kern_turn_promotes_L0b, c_kern_turn_audits_L0, k_kern_turn_audits_L0b, c_kern_Kernel_lock_L0, k_kern_Kernel_lock_L0b, audit_T', semas_T', locks_T', nx, hg, w, w1, wz, he, hp, c, h9, h10]
end Go.Cd
