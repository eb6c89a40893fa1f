/- The law JobAll, as the evaluator has it. No conditions. -/
import Derived.Test.YtmkkfmadiadkiaaR6QJobH
import Derived.Test.YtmkkfmadiadkiaaR6QHasJ
import Derived.Test.YtmkkfmadiadkiaaR6QPlTk
set_option linter.unusedVariables false
set_option linter.unusedSimpArgs false
namespace Go.Cd
open Go Go.Fw
set_option maxRecDepth 100000 in
theorem job_begun : run kp (.data f_law19_begun []) = some (.ds [.bool true]) := run_of (n := 4000) (by kernel_rfl)
def jaSt (place at_ inn : Int) (T : D) (jobs : List D) (i : Nat) (ex : List (Nat × V)) : St :=
  { env := [(2, .int .i64 place), (3, .int .i64 at_), (4, .int .i64 inn), (11, .ptr 0 []), (13, .sl false 1 0 3), (14, .int .i64 (i : Int))] ++ ex, hp := [(0, .box (.d T)), (1, .row true jobs)], tl := fun _ => none, base := 0, next := 2 }
set_option maxRecDepth 10000 in
set_option maxHeartbeats 16000000 in
theorem ja_round (place at_ inn : Int) (T : D) (jobs : List D) (hl : jobs.length = 3) (i : Nat) (hi : i < 3) (jl : List D) (hx : jobs[i]? = some (.agg jl)) (xl yl bl bl' ol ol' cl cl' : List D) (cn cn' : Bool) (I : Inst) (ok : Bool)
    (g1 : run kp (.datk f_job_Go [T, (.agg jl)]) = some (.ds [(.agg xl), I.d, .bool ok])) (g2 : run kp (.datk f_ref19_Go [T, (.agg jl)]) = some (.ds [(.agg yl), I.d, .bool ok])) (s1 : run kp (.data f_ref19_SameJob [(.agg xl), (.agg yl)]) = some (.ds [.bool true]))
    (b1 : run kp (.datk f_job_Back [T, (.agg jl)]) = some (.ds [(.agg bl)])) (b2 : run kp (.datk f_ref19_Back [T, (.agg jl)]) = some (.ds [(.agg bl')])) (s2 : run kp (.data f_ref19_SameJob [(.agg bl), (.agg bl')]) = some (.ds [.bool true]))
    (o1 : run kp (.datk f_job_Opt [(.agg jl)]) = some (.ds [(.agg ol)])) (o2 : run kp (.datk f_ref19_OptOf [(.agg jl)]) = some (.ds [(.agg ol')])) (s3 : run kp (.data f_ref19_SameJob [(.agg ol), (.agg ol')]) = some (.ds [.bool true]))
    (c1 : run kp (.datk f_job_Code [T, (.agg jl)]) = some (.ds [(.sl cn cl)])) (c2 : run kp (.datk f_ref19_Code [T, (.agg jl)]) = some (.ds [(.sl cn' cl')])) (s4 : run kp (.data f_ref1_SameCode [(.sl cn cl), (.sl cn' cl')]) = some (.ds [.bool true])) :
    run kp (.loop [2, 3, 4, 11, 13, 14] k_law19_JobAll_L0 (jaSt place at_ inn T jobs i [])) = run kp (.loop [2, 3, 4, 11, 13, 14] k_law19_JobAll_L0 (jaSt place at_ inn T jobs (i + 1) [])) := by
  have hx2 : ∀ hh : i < jobs.length, jobs[i] = .agg jl := fun hh => by rw [List.getElem?_eq_getElem hh] at hx; injection hx
  have w : IntKind.i64.wrap ((i : Int) + 1) = ((i + 1 : Nat) : Int) := by rw [wrap_i64 (by omega) (by omega)]; omega
  have p : (i : Int) < 3 := by omega
  have e := (D.beqs_iff [D.int .i64 I.op, .int .i64 I.a, .int .i64 I.b, .int .i64 I.n] _).2 rfl
  rw [run_round]
  generalize i + 1 = i' at *
  simp only [Inst.d] at g1 g2
  simp [c_law19_JobAll_L0, k_law19_JobAll_L0b, jaSt, hl, hi, p, w, hx, hx2, g1, g2, s1, b1, b2, s2, o1, o2, s3, c1, c2, s4, e]
/-- What is the same of both. -/
structure AllD (T : D) (jl : List D) : Prop where
  all : ∃ (xl yl bl bl' ol ol' cl cl' : List D) (cn cn' : Bool) (I : Inst) (ok : Bool),
    run kp (.datk f_job_Go [T, (.agg jl)]) = some (.ds [(.agg xl), I.d, .bool ok]) ∧ run kp (.datk f_ref19_Go [T, (.agg jl)]) = some (.ds [(.agg yl), I.d, .bool ok]) ∧ run kp (.data f_ref19_SameJob [(.agg xl), (.agg yl)]) = some (.ds [.bool true]) ∧
    run kp (.datk f_job_Back [T, (.agg jl)]) = some (.ds [(.agg bl)]) ∧ run kp (.datk f_ref19_Back [T, (.agg jl)]) = some (.ds [(.agg bl')]) ∧ run kp (.data f_ref19_SameJob [(.agg bl), (.agg bl')]) = some (.ds [.bool true]) ∧
    run kp (.datk f_job_Opt [(.agg jl)]) = some (.ds [(.agg ol)]) ∧ run kp (.datk f_ref19_OptOf [(.agg jl)]) = some (.ds [(.agg ol')]) ∧ run kp (.data f_ref19_SameJob [(.agg ol), (.agg ol')]) = some (.ds [.bool true]) ∧
    run kp (.datk f_job_Code [T, (.agg jl)]) = some (.ds [(.sl cn cl)]) ∧ run kp (.datk f_ref19_Code [T, (.agg jl)]) = some (.ds [(.sl cn' cl')]) ∧ run kp (.data f_ref1_SameCode [(.sl cn cl), (.sl cn' cl')]) = some (.ds [.bool true])
def Jb.l (j : Jb) : List D := [.int .i64 j.task, .int .i64 j.at_, .int .i64 j.inn, .int .i64 j.phase, j.m.d, j.k.d, .sl j.hn (j.held.map (.int .i64)), .bool j.up]
theorem all_both (t : Tsk) (ht : t.Ok) (j : Jb) (hj : j.Ok) (h8 : j.m.reps.length < 89000) (h9 : j.held.length < 89000) : AllD t.d j.l := by
  have co := codeOf_ok ht j.phase
  have k8 := hj.k.len
  have b1 := job_Back t j hj
  have b2 := ref19_Back t j
  have o1 := job_Opt j hj
  have o2 := ref19_OptOf j hj
  have c1 := job_Code t ht j
  have c2 := ref19_Code t j
  have s4 := same_codeJ (codeOf t j.phase).l (codeOf t j.phase).nl (codeOf t j.phase).nl (by have := co.len; omega)
  have s3 := same_job (optF j) (optF j) (.refl _) (by simp [optF, newM]) (by simp [optF, newM]) (by simp [optF])
  have s2 : run kp (.data f_ref19_SameJob [(backF t j).d, (backF t j).d]) = some (.ds [.bool true]) := by
    refine same_job (backF t j) (backF t j) (.refl _) ?_ ?_ ?_
    · unfold backF; split
      · simp [newM]
      · simp only; omega
    · unfold backF; split
      · simp [newM]
      · simp only; omega
    · unfold backF; split <;> simp
  rcases goes_or (codeOf t j.phase).l j.m with hno | ⟨i, hc⟩
  · obtain ⟨g1, g2⟩ := go_off t ht j hj hno
    have s1 := same_job j j (.refl _) (by omega) (by omega) (by omega)
    exact ⟨j.l, j.l, (backF t j).l, (backF t j).l, (optF j).l, (optF j).l, _, _, _, _, noI, false, g1, g2, s1, b1, b2, s2, o1, o2, s3, c1, c2, s4⟩
  · obtain ⟨rn', g⟩ := go_on t ht j hj (by omega) i hc
    have hl := heldF_len j.held i
    have gl := g.len
    have s1 := same_job (goJ j (nextM j.m i rn') i) (goR j (nextM j.m i false) i) (go_like j i rn') (by simp only [goJ]; omega) (by
      unfold goJ; simp only
      split <;> omega) (by simp only [goJ]; omega)
    exact ⟨(goJ j (nextM j.m i rn') i).l, (goR j (nextM j.m i false) i).l, (backF t j).l, (backF t j).l, (optF j).l, (optF j).l, _, _, _, _, i, true, g.go, g.rf, s1, b1, b2, s2, o1, o2, s3, c1, c2, s4⟩
theorem ja_loop (place at_ inn : Int) (T : D) (a b c : List D) (ha : AllD T a) (hb : AllD T b) (hc : AllD T c) :
    run kp (.loop [2, 3, 4, 11, 13, 14] k_law19_JobAll_L0 (jaSt place at_ inn T [.agg a, .agg b, .agg c] 0 [])) = some (.out (.ext 0) (jaSt place at_ inn T [.agg a, .agg b, .agg c] 3 [(57, .bool false)])) := by
  obtain ⟨⟨_, _, _, _, _, _, _, _, _, _, _, _, a1, a2, a3, a4, a5, a6, a7, a8, a9, a10, a11, a12⟩⟩ := ha
  obtain ⟨⟨_, _, _, _, _, _, _, _, _, _, _, _, b1, b2, b3, b4, b5, b6, b7, b8, b9, b10, b11, b12⟩⟩ := hb
  obtain ⟨⟨_, _, _, _, _, _, _, _, _, _, _, _, c1, c2, c3, c4, c5, c6, c7, c8, c9, c10, c11, c12⟩⟩ := hc
  rw [ja_round place at_ inn T _ rfl 0 (by omega) a rfl _ _ _ _ _ _ _ _ _ _ _ _ a1 a2 a3 a4 a5 a6 a7 a8 a9 a10 a11 a12,
    ja_round place at_ inn T _ rfl 1 (by omega) b rfl _ _ _ _ _ _ _ _ _ _ _ _ b1 b2 b3 b4 b5 b6 b7 b8 b9 b10 b11 b12,
    ja_round place at_ inn T _ rfl 2 (by omega) c rfl _ _ _ _ _ _ _ _ _ _ _ _ c1 c2 c3 c4 c5 c6 c7 c8 c9 c10 c11 c12, run_round]
  simp [c_law19_JobAll_L0, k_law19_JobAll_L0b, jaSt]
def tskOf (rank : Int) (t : Tk) : Tsk := ⟨rank, t.per, t.stop, ⟨false, t.m⟩, match t.w with | none => ⟨true, []⟩ | some j => ⟨false, [wayI, endI].drop j⟩, match t.o with | [] => ⟨true, []⟩ | x :: l => ⟨false, x :: l⟩⟩
theorem tskOf_ok (rank : Int) (t : Tk) (h : t.Ok) : (tskOf rank t).Ok := by
  obtain ⟨per, stop, m, w, o⟩ := t
  obtain ⟨_, h1, h2, _⟩ := h
  simp only at h1 h2
  refine ⟨⟨by simp [tskOf], by simp only [tskOf]; omega⟩, ?_, ?_⟩
  · cases w with
    | none => exact ⟨fun _ => rfl, by simp [tskOf]⟩
    | some j => exact ⟨by simp [tskOf], by simp [tskOf]; omega⟩
  · cases o with
    | nil => exact ⟨fun _ => rfl, by simp [tskOf]⟩
    | cons x l => exact ⟨by simp [tskOf], by simp only [tskOf]; omega⟩
theorem law19_Light (j : Jb) : run kp (.data f_law19_Light [j.d]) = some (.ds [.bool (decide (j.held.length ≤ 6 ∧ j.m.reps.length ≤ 5 ∧ j.k.reps.length ≤ 5))]) := by
  rw [run_data, run_call, kp_law19_Light]
  obtain ⟨task, at_, inn, ph, m, k, hn, held, up⟩ := j
  by_cases h1 : held.length ≤ 6
  · have h1' : (held.length : Int) ≤ 6 := by omega
    by_cases h2 : m.reps.length ≤ 5
    · have h2' : (m.reps.length : Int) ≤ 5 := by omega
      by_cases h3 : k.reps.length ≤ 5
      · have h3' : (k.reps.length : Int) ≤ 5 := by omega
        simp [k_law19_Light, Jb.d, Mc.d, mD, h1, h2, h3, h1', h2', h3']
      · have h3' : ¬ (k.reps.length : Int) ≤ 5 := by omega
        simp [k_law19_Light, Jb.d, Mc.d, mD, h1, h2, h3, h1', h2', h3']
    · have h2' : ¬ (m.reps.length : Int) ≤ 5 := by omega
      simp [k_law19_Light, Jb.d, Mc.d, mD, h1, h2, h1', h2']
  · have h1' : ¬ (held.length : Int) ≤ 6 := by omega
    simp [k_law19_Light, Jb.d, Mc.d, mD, h1, h1']
def aJ (j : Jb) : Jb := ⟨j.task, j.at_, j.inn, IntKind.i64.wrap ((IntKind.u64.wrap j.phase).tmod 3), ⟨IntKind.i64.wrap ((IntKind.u64.wrap j.m.pc).tmod 24), j.m.mem, j.m.rn, j.m.reps, j.m.over⟩, j.k, j.hn, j.held, j.up⟩
set_option maxRecDepth 10000 in
set_option maxHeartbeats 32000000 in
theorem ja_run (P : List D) (pn : Bool) (hP : NumOk P 0) (hp : P.length ≤ 150) (j : Jb) (hj : j.Ok) (h1 : j.held.length ≤ 6) (h2 : j.m.reps.length ≤ 5) (h3 : j.k.reps.length ≤ 5) (place at_ inn : Int) (hin : i64b inn) :
    ∃ u k, run kp (.call f_law19_JobAll [.d (.sl pn P), .d j.d, .int .i64 place, .int .i64 at_, .int .i64 inn] (fun _ => none) 0) = some (.val (.bool true) u k) := by
  obtain ⟨t, n', ho, k1, tok, tk⟩ := task_ex pn P 0 1 3 hP (by omega)
  have T := tskOf_ok 1 t tok
  have g1 : ¬ (150 : Int) < P.length := by omega
  have lt := law19_Light j
  rw [decide_eq_true (by exact ⟨h1, h2, h3⟩)] at lt
  have nj := ref19_NewJob place at_ inn
  have jn := job_New place at_ inn
  have nOk : (Jb.mk place at_ inn 0 (newM inn) (newM inn) true [] false).Ok := by
    have mk0 : memOk [inn, 0, 0, 0, 0, 0, 0, 0] := ⟨rfl, fun x hx => by
      simp at hx
      rcases hx with rfl | rfl
      · exact hin
      · unfold i64b; omega⟩
    have := Mc.Ok.mk (m := newM inn) mk0 (fun _ => rfl) (by simp [newM]) (fun x hx => by simp [newM] at hx)
    exact ⟨this, this, fun _ => rfl, by simp⟩
  have aOk : (aJ j).Ok := ⟨⟨hj.m.mem, hj.m.rn, hj.m.len, hj.m.left⟩, hj.k, hj.hn, hj.len⟩
  have sj := same_job _ _ (.refl (Jb.mk place at_ inn 0 (newM inn) (newM inn) true [] false)) (by simp [newM]) (by simp [newM]) (by simp)
  have lp := ja_loop place at_ inn (tskOf 1 t).d j.l (aJ j).l (Jb.mk place at_ inn 0 (newM inn) (newM inn) true [] false).l (all_both _ T j hj (by omega) (by omega)) (all_both _ T (aJ j) aOk (by simp only [aJ]; omega) (by simp only [aJ]; omega)) (all_both _ T _ nOk (by simp [newM]) (by simp))
  rw [run_call, kp_law19_JobAll]
  simp only [Jb.d, Jb.l, Mc.d, mD, aJ, newM, jaSt, List.append_nil, List.cons_append, List.nil_append, List.map_cons, List.map_nil, Int.cast_ofNat_Int] at lt nj jn sj lp ⊢
  obtain ⟨per, stop, m, w, o⟩ := t
  cases w with
  | none =>
    cases o with
    | nil =>
      simp only [tskOf, Tsk.d, Row.d, List.drop, List.map_cons, List.map_nil] at lp
      simp [k_law19_JobAll, canK_canH, job_begun, g1, made_call, tk, tkV, tkH, tkN, wV, wH, wN, aV, aH, aN, wr_in, hputs_append, k1, lt, nj, jn, sj, lp]
    | cons x l =>
      simp only [tskOf, Tsk.d, Row.d, List.drop, List.map_cons, List.map_nil] at lp
      simp [k_law19_JobAll, canK_canH, job_begun, g1, made_call, tk, tkV, tkH, tkN, wV, wH, wN, aV, aH, aN, wr_in, hputs_append, k1, lt, nj, jn, sj, lp]
  | some q =>
    have hq := tok.w1 q rfl
    rcases (by omega : q = 0 ∨ q = 1) with hq | hq
    · subst hq
      cases o with
      | nil =>
        simp only [tskOf, Tsk.d, Row.d, List.drop, List.map_cons, List.map_nil] at lp
        simp [k_law19_JobAll, canK_canH, job_begun, g1, made_call, tk, tkV, tkH, tkN, wV, wH, wN, aV, aH, aN, wr_in, hputs_append, k1, lt, nj, jn, sj, lp]
      | cons x l =>
        simp only [tskOf, Tsk.d, Row.d, List.drop, List.map_cons, List.map_nil] at lp
        simp [k_law19_JobAll, canK_canH, job_begun, g1, made_call, tk, tkV, tkH, tkN, wV, wH, wN, aV, aH, aN, wr_in, hputs_append, k1, lt, nj, jn, sj, lp]
    · subst hq
      cases o with
      | nil =>
        simp only [tskOf, Tsk.d, Row.d, List.drop, List.map_cons, List.map_nil] at lp
        simp [k_law19_JobAll, canK_canH, job_begun, g1, made_call, tk, tkV, tkH, tkN, wV, wH, wN, aV, aH, aN, wr_in, hputs_append, k1, lt, nj, jn, sj, lp]
      | cons x l =>
        simp only [tskOf, Tsk.d, Row.d, List.drop, List.map_cons, List.map_nil] at lp
        simp [k_law19_JobAll, canK_canH, job_begun, g1, made_call, tk, tkV, tkH, tkN, wV, wH, wN, aV, aH, aN, wr_in, hputs_append, k1, lt, nj, jn, sj, lp]
set_option maxRecDepth 10000 in
set_option maxHeartbeats 8000000 in
theorem law2_JobAll (xs : List D) (h : Sh.hasL [.sl (.i .u8), jobSh, .i .i64, .i .i64, .i .i64] xs) : ∃ u k, run kp (.call f_law19_JobAll (xs.map ofD) (fun _ => none) 0) = some (.val (.bool true) u k) := by
  obtain ⟨x1, _, rfl, h1, h⟩ := hasL_cons h
  obtain ⟨x2, _, rfl, h2, h⟩ := hasL_cons h
  obtain ⟨x3, _, rfl, h3, h⟩ := hasL_cons h
  obtain ⟨x4, _, rfl, h4, h⟩ := hasL_cons h
  obtain ⟨x5, _, rfl, h5, h⟩ := hasL_cons h
  obtain rfl := hasL_nil h
  obtain ⟨pn, P, rfl, p1, p2⟩ := has_picks h1
  obtain ⟨j, rfl, q1, q2, q3, q4, q5, q6, q7⟩ := has_job h2
  obtain ⟨place, rfl, k3⟩ := has_int h3
  obtain ⟨at_, rfl, k4⟩ := has_int h4
  obtain ⟨inn, rfl, k5⟩ := has_int h5
  by_cases g : P.length ≤ 150 ∧ (j.held.length ≤ 6 ∧ j.m.reps.length ≤ 5 ∧ j.k.reps.length ≤ 5)
  · exact ja_run P pn ⟨by omega, by omega, by omega, p2⟩ g.1 j ⟨⟨q1, q3, by omega, q2⟩, ⟨q4, q6, by omega, q5⟩, q7, by omega⟩ g.2.1 g.2.2.1 g.2.2.2 place at_ inn (wf_i64' k5)
  · refine ⟨[], 0, ?_⟩
    rw [List.map_cons, run_call, kp_law19_JobAll]
    by_cases g1 : (150 : Int) < P.length
    · simp [k_law19_JobAll, canK_canH, job_begun, Jb.d, g1]
    have lt := law19_Light j
    have g2 : ¬ (j.held.length ≤ 6 ∧ j.m.reps.length ≤ 5 ∧ j.k.reps.length ≤ 5) := fun k => g ⟨by omega, k⟩
    rw [decide_eq_false g2] at lt
    simp only [Jb.d] at lt
    simp [k_law19_JobAll, canK_canH, job_begun, Jb.d, g1, lt]
end Go.Cd
