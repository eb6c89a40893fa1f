/- Jobs and tasks, and what of job has no loop. No conditions. -/
import Derived.Test.YtgjeondicdipaaaR9QVmS
import Derived.Test.YtgjeondicdipaaaR9QVmY
import Derived.Test.YtgjeondicdipaaaR9QVmX
import Derived.Test.YtgjeondicdipaaaS7
set_option linter.unusedVariables false
set_option linter.unusedSimpArgs false
namespace Go.Cd
open Go Go.Fw
structure Mc where
  pc : Int
  mem : List Int
  rn : Bool
  reps : List Rep
  over : Bool
def Mc.d (m : Mc) : D := mD m.pc m.mem m.rn m.reps m.over
structure Mc.Ok (m : Mc) : Prop where
  mem : memOk m.mem
  rn : m.rn = true → m.reps = []
  len : m.reps.length ≤ 90000
  left : repsOk m.reps
structure Jb where
  task : Int
  at_ : Int
  inn : Int
  phase : Int
  m : Mc
  k : Mc
  hn : Bool
  held : List Int
  up : Bool
def Jb.d (j : Jb) : D := .agg [.int .i64 j.task, .int .i64 j.at_, .int .i64 j.inn, .int .i64 j.phase, j.m.d, j.k.d, .sl j.hn (j.held.map (.int .i64)), .bool j.up]
structure Jb.Ok (j : Jb) : Prop where
  m : j.m.Ok
  k : j.k.Ok
  hn : j.hn = true → j.held = []
  len : j.held.length ≤ 90000
structure Row where
  nl : Bool
  l : List Inst
def Row.d (r : Row) : D := .sl r.nl (r.l.map Inst.d)
structure Row.Ok (r : Row) : Prop where
  nl : r.nl = true → r.l = []
  len : r.l.length ≤ 90000
structure Tsk where
  rank : Int
  per : Int
  stop : Int
  main : Row
  way : Row
  opt : Row
def Tsk.d (t : Tsk) : D := .agg [.int .i64 t.rank, .int .i64 t.per, .int .i64 t.stop, t.main.d, t.way.d, t.opt.d]
structure Tsk.Ok (t : Tsk) : Prop where
  main : t.main.Ok
  way : t.way.Ok
  opt : t.opt.Ok
def newM (x : Int) : Mc := ⟨0, [x, 0, 0, 0, 0, 0, 0, 0], true, [], false⟩
def codeOf (t : Tsk) (p : Int) : Row := if p = 0 then t.main else if p = 1 then t.way else if p = 2 then t.opt else ⟨true, []⟩
theorem codeOf_ok {t : Tsk} (h : t.Ok) (p : Int) : (codeOf t p).Ok := by
  unfold codeOf
  split
  · exact h.main
  · split
    · exact h.way
    · split
      · exact h.opt
      · exact ⟨fun _ => rfl, by simp⟩
/-- A machine of one's own: nil only where it was. -/
theorem job_machine (m : Mc) (h : m.Ok) : run kp (.datk f_job_machine [m.d]) = some (.ds [m.d]) := by
  obtain ⟨pc, mem, rn, reps, over⟩ := m
  have c := clone_Rep rn reps h.rn (Nat.le_trans h.len (by simp))
  rw [run_datk, run_call, kp_job_machine]
  cases rn with
  | true =>
    have := h.rn rfl
    simp only at this
    subst this
    simp only [List.map_nil] at c
    simp [k_job_machine, Mc.d, mD, c]
  | false => simp [k_job_machine, Mc.d, mD, c]
theorem clone_intJ (nl : Bool) (l : List Int) (hn : nl = true → l = []) (hl : l.length ≤ 90000) : run kp (.data f_slices_Clone_int_int [.sl nl (l.map (.int .i64))]) = some (.ds [.sl nl (l.map (.int .i64))]) := by
  rw [run_data, run_call, kp_slices_Clone_int_int]
  cases nl with
  | true => simp [hn rfl, k_slices_Clone_int_int]
  | false =>
    simp [k_slices_Clone_int_int]
    omega
theorem clone_InstJ (r : Row) (h : r.Ok) : run kp (.data f_slices_Clone_api_Inst_api_Inst [r.d]) = some (.ds [r.d]) := by
  obtain ⟨nl, l⟩ := r
  have hl := h.len
  rw [run_data, run_call, kp_slices_Clone_api_Inst_api_Inst]
  cases nl with
  | true =>
    have := h.nl rfl
    simp only at this
    subst this
    simp [k_slices_Clone_api_Inst_api_Inst, Row.d]
  | false =>
    simp [k_slices_Clone_api_Inst_api_Inst, Row.d]
    simp only at hl
    omega
set_option maxRecDepth 10000 in
set_option maxHeartbeats 4000000 in
theorem job_New (t a x : Int) : run kp (.datk f_job_New [.int .i64 t, .int .i64 a, .int .i64 x]) = some (.ds [(Jb.mk t a x 0 (newM x) (newM x) true [] false).d]) := by
  rw [run_datk, run_call, kp_job_New]
  have n := vm_New x
  simp only [mD, List.map_nil, List.map_cons] at n
  simp [k_job_New, n, Jb.d, Mc.d, mD, newM]
set_option maxRecDepth 10000 in
set_option maxHeartbeats 4000000 in
theorem ref19_NewJob (t a x : Int) : run kp (.datk f_ref19_NewJob [.int .i64 t, .int .i64 a, .int .i64 x]) = some (.ds [(Jb.mk t a x 0 (newM x) (newM x) true [] false).d]) := by
  rw [run_datk, run_call, kp_ref19_NewJob]
  have n := ref1_New x
  simp only [mD, List.map_nil, List.map_cons] at n
  simp [k_ref19_NewJob, n, Jb.d, Mc.d, mD, newM]
set_option maxRecDepth 10000 in
set_option maxHeartbeats 4000000 in
theorem ref19_Code (t : Tsk) (j : Jb) : run kp (.datk f_ref19_Code [t.d, j.d]) = some (.ds [(codeOf t j.phase).d]) := by
  rw [run_datk, run_call, kp_ref19_Code]
  unfold codeOf
  by_cases h0 : j.phase = 0
  · simp [k_ref19_Code, Tsk.d, Jb.d, h0, Row.d]
  · by_cases h1 : j.phase = 1
    · simp [k_ref19_Code, Tsk.d, Jb.d, h1, Row.d]
    · by_cases h2 : j.phase = 2
      · simp [k_ref19_Code, Tsk.d, Jb.d, h2, Row.d]
      · simp [k_ref19_Code, Tsk.d, Jb.d, h0, h1, h2, Row.d]
set_option maxRecDepth 10000 in
set_option maxHeartbeats 4000000 in
theorem job_Code (t : Tsk) (ht : t.Ok) (j : Jb) : run kp (.datk f_job_Code [t.d, j.d]) = some (.ds [(codeOf t j.phase).d]) := by
  rw [run_datk, run_call, kp_job_Code]
  by_cases h0 : j.phase = 0
  · rcases hr : t.main with ⟨nl, l⟩
    have c := clone_InstJ ⟨nl, l⟩ (hr ▸ ht.main)
    have hk := (hr ▸ ht.main : Row.Ok ⟨nl, l⟩).nl
    cases nl with
    | true =>
      have := hk rfl; simp only at this; subst this
      simp only [Row.d, List.map_nil] at c
      simp [k_job_Code, Tsk.d, Jb.d, h0, Row.d, hr, c, codeOf]
    | false =>
      simp only [Row.d] at c
      simp [k_job_Code, Tsk.d, Jb.d, h0, Row.d, hr, c, codeOf]
  by_cases h1 : j.phase = 1
  · rcases hr : t.way with ⟨nl, l⟩
    have c := clone_InstJ ⟨nl, l⟩ (hr ▸ ht.way)
    have hk := (hr ▸ ht.way : Row.Ok ⟨nl, l⟩).nl
    cases nl with
    | true =>
      have := hk rfl; simp only at this; subst this
      simp only [Row.d, List.map_nil] at c
      simp [k_job_Code, Tsk.d, Jb.d, h1, Row.d, hr, c, codeOf]
    | false =>
      simp only [Row.d] at c
      simp [k_job_Code, Tsk.d, Jb.d, h1, Row.d, hr, c, codeOf]
  by_cases h2 : j.phase = 2
  · rcases hr : t.opt with ⟨nl, l⟩
    have c := clone_InstJ ⟨nl, l⟩ (hr ▸ ht.opt)
    have hk := (hr ▸ ht.opt : Row.Ok ⟨nl, l⟩).nl
    cases nl with
    | true =>
      have := hk rfl; simp only at this; subst this
      simp only [Row.d, List.map_nil] at c
      simp [k_job_Code, Tsk.d, Jb.d, h2, Row.d, hr, c, codeOf]
    | false =>
      simp only [Row.d] at c
      simp [k_job_Code, Tsk.d, Jb.d, h2, Row.d, hr, c, codeOf]
  have c := clone_InstJ ⟨true, []⟩ ⟨fun _ => rfl, by simp⟩
  simp only [Row.d, List.map_nil] at c
  simp [k_job_Code, Tsk.d, Jb.d, h0, h1, h2, Row.d, c, codeOf]
end Go.Cd
