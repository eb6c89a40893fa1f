/- The law FaultTwice, as the evaluator has it. No conditions. -/
import Derived.Test.YtgjeondicdipaaaR9QJobK
set_option linter.unusedVariables false
set_option linter.unusedSimpArgs false
namespace Go.Cd
open Go Go.Fw
set_option maxRecDepth 100000 in
theorem fault_begunJ : run kp (.data f_law22_begun []) = some (.ds [.bool true]) := run_of (n := 4000) (by kernel_rfl)
def sm0 : D := .sl false [.agg [.int .i64 0, .int .i64 2], .agg [.int .i64 0, .int .i64 1]]
def sm1 : D := .sl false [.agg [.int .i64 0, .int .i64 0], .agg [.int .i64 0, .int .i64 1]]
set_option maxRecDepth 100000 in
theorem all_0 : run kp (.data f_sema_All [sm0, .int .i64 1]) = some (.ds [sm1]) := run_of (n := 4000) (by kernel_rfl)
set_option maxRecDepth 100000 in
theorem all_1 : run kp (.data f_sema_All [sm1, .int .i64 1]) = some (.ds [sm1]) := run_of (n := 4000) (by kernel_rfl)
set_option maxRecDepth 100000 in
theorem same_1 : run kp (.data f_ref11_SameSemas [sm1, sm1]) = some (.ds [.bool true]) := run_of (n := 4000) (by kernel_rfl)
set_option maxRecDepth 10000 in
set_option maxHeartbeats 16000000 in
theorem fault_HitJ (t : Tsk) (j : Jb) (hj : j.Ok) (hp : j.phase ≠ 2) (l l' : List D) (hs : run kp (.data f_sema_All [.sl false l, .int .i64 j.task]) = some (.ds [.sl false l'])) :
    run kp (.datk f_fault_Hit [t.d, j.d, .sl false l]) = some (.ds [(backF t j).d, .sl false l', .int .i64 (if (backF t j).phase = j.phase then 6 else 7)]) := by
  have b := job_Back t j hj
  rw [run_datk, run_call, kp_fault_Hit]
  generalize backF t j = x at *
  simp only [Tsk.d, Row.d, Jb.d, Mc.d, mD] at b
  by_cases h : x.phase = j.phase
  · simp only [h] at b
    simp [k_fault_Hit, Tsk.d, Row.d, Jb.d, Mc.d, mD, b, hs, h, hp]
  · simp [k_fault_Hit, Tsk.d, Row.d, Jb.d, Mc.d, mD, b, hs, h, hp]
def ft0 (n : Int) (T : List D) (j : Jb) (i : Nat) (ex : List (Nat × V)) : St :=
  { env := [(2, .int .u8 n), (7, .ptr 0 []), (8, .ptr 1 []), (9, .int .i64 (i : Int))] ++ ex, hp := [(0, .box (.d (.agg T))), (1, .box (.d j.d))], tl := fun _ => none, base := 0, next := 2 }
structure FtOk (n : Nat) (j : Jb) : Prop where
  inn : i64b j.inn
  ok : j.Ok
  task : j.task = 1
  phase : j.phase = 0
  reps : j.m.reps.length ≤ n
  kreps : j.k.reps.length ≤ n
  held : j.held.length ≤ n
theorem FtOk.go {n : Nat} {j : Jb} (h : FtOk n j) (hn : n ≤ 1000) (t : Tsk) (ht : t.Ok) : ∃ (x : Jb) (i : Inst) (ok : Bool), run kp (.datk f_ref19_Go [t.d, j.d]) = some (.ds [x.d, i.d, .bool ok]) ∧ FtOk (n + 1) x := by
  have h1 := h.reps
  have h2 := h.held
  have h3 := h.kreps
  rcases goes_or (codeOf t j.phase).l j.m with hno | ⟨i, hc⟩
  · obtain ⟨_, g2⟩ := go_off t ht j h.ok hno
    exact ⟨j, noI, false, g2, ⟨h.inn, h.ok, h.task, h.phase, by omega, by omega, by omega⟩⟩
  · obtain ⟨rn', g⟩ := go_on t ht j h.ok (by omega) i hc
    have hl := heldF_len j.held i
    have gl : (nextM j.m i false).reps.length ≤ j.m.reps.length + 1 := g.len
    have mo : (nextM j.m i false).Ok := ⟨g.mem, (fun k => by cases k), by omega, g.left⟩
    refine ⟨goR j (nextM j.m i false) i, i, true, g.rf, ⟨h.inn, ⟨mo, ?_, ?_, ?_⟩, h.task, h.phase, ?_, ?_, ?_⟩⟩
    · unfold goR; simp only
      split
      · exact mo
      · exact h.ok.k
    · intro k; cases k
    · simp only [goR]; omega
    · simp only [goR]; omega
    · unfold goR; simp only
      split <;> omega
    · simp only [goR]; omega
theorem tmod40 (a : Int) (ha : 0 ≤ a ∧ a < 256) : 0 ≤ IntKind.i64.wrap (a.tmod 40) ∧ IntKind.i64.wrap (a.tmod 40) < 40 := by
  rw [Int.tmod_eq_emod_of_nonneg ha.1, wrap_i64 (by omega) (by omega)]; omega
set_option maxRecDepth 10000 in
set_option maxHeartbeats 16000000 in
theorem ft_loop (n : Int) (hn : 0 ≤ n ∧ n < 256) (t : Tsk) (ht : t.Ok) (T : List D) (hT : t.d = .agg T) : ∀ (k i : Nat), i + k = 40 → ∀ (j : Jb), FtOk i j →
    ∃ (j' : Jb) (i' : Nat), FtOk 40 j' ∧ run kp (.loop [2, 7, 8, 9] k_law22_FaultTwice_L0 (ft0 n T j i [])) = some (.out (.ext 0) (ft0 n T j' i' [(36, .bool false)]))
  | 0, i, h, j, hj => by
    obtain rfl : i = 40 := by omega
    have l := tmod40 n hn
    have l1 : ¬ (40 : Int) < IntKind.i64.wrap (n.tmod 40) := by omega
    refine ⟨j, 40, hj, ?_⟩
    rw [run_round]
    obtain ⟨task, at_, inn', ph, ⟨pc, mem, rn, reps, over⟩, kk, hn, held, up⟩ := j
    simp [c_law22_FaultTwice_L0, k_law22_FaultTwice_L0b, ft0, Jb.d, Mc.d, mD, l1]
  | k + 1, i, h, j, hj => by
    have l := tmod40 n hn
    have w : IntKind.i64.wrap ((i : Int) + 1) = ((i + 1 : Nat) : Int) := by rw [wrap_i64 (by omega) (by omega)]; omega
    have stay : FtOk 40 j := ⟨hj.inn, hj.ok, hj.task, hj.phase, by have := hj.reps; omega, by have := hj.kreps; omega, by have := hj.held; omega⟩
    by_cases hi : (i : Int) < IntKind.i64.wrap (n.tmod 40)
    · cases ho : j.m.over with
      | true =>
        refine ⟨j, i, stay, ?_⟩
        rw [run_round]
        obtain ⟨task, at_, inn', ph, ⟨pc, mem, rn, reps, over⟩, kk, hn, held, up⟩ := j
        simp only at ho
        subst ho
        simp [c_law22_FaultTwice_L0, k_law22_FaultTwice_L0b, ft0, Jb.d, Mc.d, mD, hi]
      | false =>
        obtain ⟨x, I, ok, g, hx⟩ := hj.go (by omega) t ht
        obtain ⟨j', i', e1, e2⟩ := ft_loop n hn t ht T hT k (i + 1) (by omega) x hx
        refine ⟨j', i', e1, ?_⟩
        rw [← e2, run_round]
        clear e2
        generalize i + 1 = i2 at *
        rw [hT] at g
        obtain ⟨task, at_, inn', ph, ⟨pc, mem, rn, reps, over⟩, kk, hn, held, up⟩ := j
        simp only at ho
        subst ho
        simp only [Jb.d, Mc.d, mD, Inst.d] at g
        simp [c_law22_FaultTwice_L0, k_law22_FaultTwice_L0b, ft0, Jb.d, Mc.d, mD, hi, w, g]
    · refine ⟨j, i, stay, ?_⟩
      rw [run_round]
      obtain ⟨task, at_, inn', ph, ⟨pc, mem, rn, reps, over⟩, kk, hn, held, up⟩ := j
      simp [c_law22_FaultTwice_L0, k_law22_FaultTwice_L0b, ft0, Jb.d, Mc.d, mD, hi]
theorem backF_ok {t : Tsk} {j : Jb} (hj : j.Ok) (hi : i64b j.inn) : (backF t j).Ok := by
  have mk0 : memOk [j.inn, 0, 0, 0, 0, 0, 0, 0] := ⟨rfl, fun x hx => by
    simp at hx
    rcases hx with rfl | rfl
    · exact hi
    · unfold i64b; omega⟩
  have mo : (newM j.inn).Ok := ⟨mk0, fun _ => rfl, by simp [newM], fun x hx => by simp [newM] at hx⟩
  unfold backF
  split
  · exact ⟨mo, mo, fun _ => rfl, by simp⟩
  · exact ⟨hj.k, hj.k, fun _ => rfl, by simp⟩
theorem back_back (t : Tsk) (j : Jb) : backF t (backF t j) = backF t j := by
  by_cases h : j.phase = 0 ∧ 0 < t.way.l.length
  · have e : backF t j = ⟨j.task, j.at_, j.inn, 1, newM j.inn, newM j.inn, true, [], j.up⟩ := by unfold backF; rw [if_pos h]
    rw [e]
    unfold backF
    rw [if_neg (by simp)]
  · have e : backF t j = ⟨j.task, j.at_, j.inn, j.phase, j.k, j.k, true, [], j.up⟩ := by unfold backF; rw [if_neg h]
    rw [e]
    unfold backF
    rw [if_neg h]
set_option maxRecDepth 10000 in
set_option maxHeartbeats 32000000 in
theorem ft_run (P : List D) (pn : Bool) (hP : NumOk P 0) (hp : P.length ≤ 150) (inn n : Int) (hin : i64b inn) (hn : 0 ≤ n ∧ n < 256) :
    ∃ u k, run kp (.call f_law22_FaultTwice [.d (.sl pn P), .int .i64 inn, .int .u8 n] (fun _ => none) 0) = some (.val (.bool true) u k) := by
  obtain ⟨t, n', ho, k1, tok, tk⟩ := task_ex pn P 0 1 3 hP (by omega)
  have T := tskOf_ok 1 t tok
  have g1 : ¬ (150 : Int) < P.length := by omega
  have nj := ref19_NewJob 1 2 inn
  have mk0 : memOk [inn, 0, 0, 0, 0, 0, 0, 0] := ⟨rfl, fun x hx => by
    simp at hx
    rcases hx with rfl | rfl
    · exact hin
    · unfold i64b; omega⟩
  have mo : (newM inn).Ok := ⟨mk0, fun _ => rfl, by simp [newM], fun x hx => by simp [newM] at hx⟩
  have j0 : FtOk 0 ⟨1, 2, inn, 0, newM inn, newM inn, true, [], false⟩ := ⟨hin, ⟨mo, mo, fun _ => rfl, by simp⟩, rfl, rfl, by simp [newM], by simp [newM], by simp⟩
  obtain ⟨j1, i1, J1, lp⟩ := ft_loop n hn (tskOf 1 t) T [.int .i64 1, .int .i64 t.per, .int .i64 t.stop, (tskOf 1 t).main.d, (tskOf 1 t).way.d, (tskOf 1 t).opt.d] rfl 40 0 rfl _ j0
  have hp0 := J1.phase
  have ht0 := J1.task
  have i1b : i64b j1.inn := J1.inn
  have bo := backF_ok (t := tskOf 1 t) J1.ok i1b
  have hx2 : (backF (tskOf 1 t) j1).phase ≠ 2 := by unfold backF; split <;> simp [hp0]
  have hxt : (backF (tskOf 1 t) j1).task = 1 := by unfold backF; split <;> exact ht0
  have a0 := all_0
  have a1 := all_1
  rw [← ht0] at a0
  rw [← hxt] at a1
  have h1 := fault_HitJ (tskOf 1 t) j1 J1.ok (by omega) _ _ a0
  have h2 := fault_HitJ (tskOf 1 t) (backF (tskOf 1 t) j1) bo hx2 _ _ a1
  rw [back_back, if_pos rfl] at h2
  have same_1' := same_1
  have sj := same_job (backF (tskOf 1 t) j1) (backF (tskOf 1 t) j1) (.refl _) (by have := bo.m.len; omega) (by have := bo.k.len; omega) (by have := bo.len; omega)
  have hk : ((backF (tskOf 1 t) j1).phase = j1.phase) ↔ ¬ 0 < (tskOf 1 t).way.l.length := by
    unfold backF
    split
    · rename_i h; simp only [hp0]; constructor
      · intro k; omega
      · intro k; exact absurd h.2 k
    · rename_i h; simp only [hp0]; constructor
      · intro _ k; exact h ⟨hp0, k⟩
      · intro _; trivial
  generalize backF (tskOf 1 t) j1 = x at *
  rw [run_call, kp_law22_FaultTwice]
  obtain ⟨per, stop, m, w, o⟩ := t
  simp only [ft0, Jb.d, Mc.d, mD, newM, sm0, sm1, List.append_nil, List.cons_append, List.nil_append, List.map_cons, List.map_nil, Int.cast_ofNat_Int] at nj lp h1 h2 same_1' sj
  cases w with
  | none =>
    have hk' : x.phase = j1.phase := hk.2 (by simp [tskOf])
    rw [if_pos hk'] at h1
    cases o with
    | nil =>
      simp only [tskOf, Tsk.d, Row.d, List.drop, List.map_cons, List.map_nil] at lp h1 h2
      simp [k_law22_FaultTwice, canK_canH, fault_begunJ, g1, made_call, tk, tkV, tkH, tkN, wV, wH, wN, aV, aH, aN, wr_in, hputs_append, k1, nj, lp, h1, h2, same_1', sj]
    | cons x l =>
      simp only [tskOf, Tsk.d, Row.d, List.drop, List.map_cons, List.map_nil] at lp h1 h2
      simp [k_law22_FaultTwice, canK_canH, fault_begunJ, g1, made_call, tk, tkV, tkH, tkN, wV, wH, wN, aV, aH, aN, wr_in, hputs_append, k1, nj, lp, h1, h2, same_1', sj]
  | some q =>
    have hq := tok.w1 q rfl
    have hk' : ¬ x.phase = j1.phase := fun k => absurd (hk.1 k) (by rcases (by omega : q = 0 ∨ q = 1) with rfl | rfl <;> simp [tskOf])
    rw [if_neg hk'] at h1
    rcases (by omega : q = 0 ∨ q = 1) with hq | hq
    · subst hq
      cases o with
      | nil =>
        simp only [tskOf, Tsk.d, Row.d, List.drop, List.map_cons, List.map_nil] at lp h1 h2
        simp [k_law22_FaultTwice, canK_canH, fault_begunJ, g1, made_call, tk, tkV, tkH, tkN, wV, wH, wN, aV, aH, aN, wr_in, hputs_append, k1, nj, lp, h1, h2, same_1', sj]
      | cons x l =>
        simp only [tskOf, Tsk.d, Row.d, List.drop, List.map_cons, List.map_nil] at lp h1 h2
        simp [k_law22_FaultTwice, canK_canH, fault_begunJ, g1, made_call, tk, tkV, tkH, tkN, wV, wH, wN, aV, aH, aN, wr_in, hputs_append, k1, nj, lp, h1, h2, same_1', sj]
    · subst hq
      cases o with
      | nil =>
        simp only [tskOf, Tsk.d, Row.d, List.drop, List.map_cons, List.map_nil] at lp h1 h2
        simp [k_law22_FaultTwice, canK_canH, fault_begunJ, g1, made_call, tk, tkV, tkH, tkN, wV, wH, wN, aV, aH, aN, wr_in, hputs_append, k1, nj, lp, h1, h2, same_1', sj]
      | cons x l =>
        simp only [tskOf, Tsk.d, Row.d, List.drop, List.map_cons, List.map_nil] at lp h1 h2
        simp [k_law22_FaultTwice, canK_canH, fault_begunJ, g1, made_call, tk, tkV, tkH, tkN, wV, wH, wN, aV, aH, aN, wr_in, hputs_append, k1, nj, lp, h1, h2, same_1', sj]
set_option maxRecDepth 10000 in
set_option maxHeartbeats 8000000 in
theorem law2_FaultTwice (xs : List D) (h : Sh.hasL [.sl (.i .u8), .i .i64, .i .u8] xs) : ∃ u k, run kp (.call f_law22_FaultTwice (xs.map ofD) (fun _ => none) 0) = some (.val (.bool true) u k) := by
  obtain ⟨x1, _, rfl, h1, h⟩ := hasL_cons h
  obtain ⟨x2, _, rfl, h2, h⟩ := hasL_cons h
  obtain ⟨x3, _, rfl, h3, h⟩ := hasL_cons h
  obtain rfl := hasL_nil h
  obtain ⟨pn, P, rfl, p1, p2⟩ := has_picks h1
  obtain ⟨inn, rfl, k2⟩ := has_int h2
  obtain ⟨n, rfl, k3⟩ := has_int h3
  by_cases g : P.length ≤ 150
  · exact ft_run P pn ⟨by omega, by omega, by omega, p2⟩ g inn n (wf_i64' k2) (wf_u8 k3)
  · refine ⟨[], 0, ?_⟩
    have g1 : (150 : Int) < P.length := by omega
    rw [List.map_cons, run_call, kp_law22_FaultTwice]
    simp [k_law22_FaultTwice, canK_canH, fault_begunJ, g1]
end Go.Cd
