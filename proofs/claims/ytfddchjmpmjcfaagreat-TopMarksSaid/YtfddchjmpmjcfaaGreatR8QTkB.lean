/- Jobs of programs that sum and mark alone: what vm and job do. No conditions. -/
import Derived.Test.YtfddchjmpmjcfaaGreatR8QTkA
import Derived.Test.YtfddchjmpmjcfaaGreatS7
set_option linter.unusedVariables false
set_option linter.unusedSimpArgs false
namespace Go.Cd
open Go Go.Fw
def nckT (x : V) : Option V := match x with | .ptr h p => some (.ptr h p) | .rp x => some (.rp x) | .clo f a b => some (.clo f a b) | _ => none
@[simp] theorem nckT_ptr (h : Nat) (p : List Nat) : nckT (.ptr h p) = some (.ptr h p) := rfl
@[simp] theorem nckT_rp (x : D) : nckT (.rp x) = some (.rp x) := rfl
@[simp] theorem nckT_clo (f : Nat) (a b : List V) : nckT (.clo f a b) = some (.clo f a b) := rfl
@[simp] theorem o_nckT {kp : Nat → Option KF} {r : List GI} {e : Env} {h : Hp} {t : Nat → Option Blk} {b n : Nat} (d : Nat) (x : Opd) : run kp (.ops (⟨none, .nck d x⟩ :: r) ⟨e, h, t, b, n⟩) = opK kp (nckT (val e x)) d r e h t b n := by
  rw [o_nck_ptr]
  unfold nckT
  rfl
/-- A job whose programs have one number, and hold nothing. -/
structure Sj where
  task : Int
  at_ : Int
  inn : Int
  ph : Int
  pc : Int
  x : Int
  over : Bool
  kpc : Int
  kx : Int
  up : Bool
def mz (pc x : Int) (over : Bool) : D := .agg [.int .i64 pc, .agg [.int .i64 x, .int .i64 0, .int .i64 0, .int .i64 0, .int .i64 0, .int .i64 0, .int .i64 0, .int .i64 0], .sl true [], .bool over]
def Sj.d (j : Sj) : D := .agg [.int .i64 j.task, .int .i64 j.at_, .int .i64 j.inn, .int .i64 j.ph, mz j.pc j.x j.over, mz j.kpc j.kx false, .sl true [], .bool j.up]
/-- Programs, as data. -/
structure Rw where
  nl : Bool
  l : List Inst
def Rw.d (r : Rw) : D := .sl r.nl (r.l.map Inst.d)
structure Rw.Ok (r : Rw) : Prop where
  nl : r.nl = true → r.l = []
  len : r.l.length ≤ 1000
structure Ts where
  rank : Int
  per : Int
  stop : Int
  main : Rw
  way : Rw
  opt : Rw
def Ts.d (t : Ts) : D := .agg [.int .i64 t.rank, .int .i64 t.per, .int .i64 t.stop, t.main.d, t.way.d, t.opt.d]
structure Ts.Ok (t : Ts) : Prop where
  main : t.main.Ok
  way : t.way.Ok
  opt : t.opt.Ok
def cdOf (t : Ts) (p : Int) : Rw := if p = 0 then t.main else if p = 1 then t.way else if p = 2 then t.opt else ⟨true, []⟩
set_option maxRecDepth 100000 in
theorem clone_Rep0 : run kp (.data f_slices_Clone_api_Rep2_api_Rep2 [.sl true []]) = some (.ds [.sl true []]) := run_of (n := 4000) (by kernel_rfl)
set_option maxRecDepth 100000 in
theorem clone_int0 : run kp (.data f_slices_Clone_int_int [.sl true []]) = some (.ds [.sl true []]) := run_of (n := 4000) (by kernel_rfl)
theorem clone_InsK (r : Rw) (h : r.Ok) : run kp (.datk f_slices_Clone_api_Inst_api_Inst [r.d]) = some (.ds [r.d]) := by
  obtain ⟨nl, l⟩ := r
  have hl := h.len
  rw [run_datk, run_call, kp_slices_Clone_api_Inst_api_Inst]
  cases nl with
  | true =>
    have := h.nl rfl
    simp only at this
    subst this
    simp [k_slices_Clone_api_Inst_api_Inst, Rw.d]
  | false =>
    simp [k_slices_Clone_api_Inst_api_Inst, Rw.d]
    simp only at hl
    omega
theorem natB4 (b : Nat) : (¬ b = b + 1) ∧ (¬ b + 1 = b) ∧ (¬ b = b + 1 + 1) ∧ (¬ b + 1 + 1 = b) ∧ (¬ b + 1 = b + 1 + 1) ∧ (¬ b + 1 + 1 = b + 1) ∧ (¬ b = b + 1 + 1 + 1) ∧ (¬ b + 1 + 1 + 1 = b) ∧ (¬ b + 1 = b + 1 + 1 + 1) ∧ (¬ b + 1 + 1 + 1 = b + 1) ∧ (¬ b + 1 < b) ∧ (¬ b + 1 + 1 < b) ∧ (¬ b + 1 + 1 + 1 < b) := by omega
theorem index_nil0 (tl : Nat → Option Blk) (n p : Nat) (hlt : p < n) : run kp (.call f_slices_IndexFunc_int_int [.d (.sl true []), V.clo f_fault_Loses_1 [] [V.ptr p []]] tl n) = some (.val (.int .i64 (-1)) [] n) := by
  rw [run_call, kp_slices_IndexFunc_int_int]
  simp [k_slices_IndexFunc_int_int, hlt]
  rw [run_round]
  simp [c_slices_IndexFunc_int_int_L0, k_slices_IndexFunc_int_int_L0b, hlt, canK_canH]
theorem delete_nil0 (tl : Nat → Option Blk) (n p : Nat) (hlt : p < n) : run kp (.call f_slices_DeleteFunc_int_int [.d (.sl true []), V.clo f_fault_Loses_1 [] [V.ptr p []]] tl n) = some (.val (.d (.sl true [])) [] n) := by
  rw [run_call, kp_slices_DeleteFunc_int_int]
  simp [k_slices_DeleteFunc_int_int, index_nil0, hlt, canK_canH]
set_option maxRecDepth 10000 in
theorem loses_K (j : Sj) (s : Int) : run kp (.datk f_fault_Loses [j.d, .int .i64 s]) = some (.ds [j.d]) := by
  rw [run_datk, run_call, kp_fault_Loses]
  simp [k_fault_Loses, Sj.d, mz, clone_Rep0, clone_int0, delete_nil0]
theorem machine_K (pc x : Int) (o : Bool) : run kp (.datk f_job_machine [mz pc x o]) = some (.ds [mz pc x o]) := by
  rw [run_datk, run_call, kp_job_machine]
  simp [k_job_machine, mz, clone_Rep0]
theorem vm_twin_K (pc x : Int) (o : Bool) : run kp (.data f_vm_twin [mz pc x o]) = some (.ds [mz pc x o]) := by
  rw [run_data, run_call, kp_vm_twin]
  simp [k_vm_twin, mz, clone_Rep0]
theorem vm_New_K (x : Int) : run kp (.data f_vm_New [.int .i64 x]) = some (.ds [mz 0 x false]) := by
  rw [run_data, run_call, kp_vm_New]
  simp [k_vm_New, mz]
theorem goes_K (tl : Nat → Option Blk) (b : Nat) (pc x : Int) (o : Bool) : run kp (.call f_vm_goes [.d (mz pc x o)] tl b) = some (.val (.d (mz pc x o)) [] b) := by
  have F := natB4 b
  rw [run_call, kp_vm_goes]
  simp [k_vm_goes, mz, canK_canH, gOf, hlook, F]
  rw [run_round]
  simp [c_vm_goes_L0, k_vm_goes_L0b, canK_canH, gOf, hlook, F]
theorem goes_K2 (tl : Nat → Option Blk) (b : Nat) (pc x : Int) (o : Bool) : run kp (.call f_vm_goes [.agg [.int .i64 pc, .d (.agg [.int .i64 x, .int .i64 0, .int .i64 0, .int .i64 0, .int .i64 0, .int .i64 0, .int .i64 0, .int .i64 0]), .d (.sl true []), .bool o]] tl b) = some (.val (.d (mz pc x o)) [] b) := by
  have F := natB4 b
  rw [run_call, kp_vm_goes]
  simp [k_vm_goes, mz, canK_canH, gOf, hlook, F]
  rw [run_round]
  simp [c_vm_goes_L0, k_vm_goes_L0b, canK_canH, gOf, hlook, F]
theorem goes_K3 (tl : Nat → Option Blk) (b : Nat) (pc x : Int) (o : Bool) : run kp (.call f_vm_goes [.agg [.int .i64 pc, .agg [.int .i64 x, .int .i64 0, .int .i64 0, .int .i64 0, .int .i64 0, .int .i64 0, .int .i64 0, .int .i64 0], .d (.sl true []), .bool o]] tl b) = some (.val (.d (mz pc x o)) [] b) := by
  have F := natB4 b
  rw [run_call, kp_vm_goes]
  simp [k_vm_goes, mz, canK_canH, gOf, hlook, F]
  rw [run_round]
  simp [c_vm_goes_L0, k_vm_goes_L0b, canK_canH, gOf, hlook, F]
theorem wrapU (x : Int) : IntKind.i64.wrap (IntKind.u64.wrap (IntKind.u64.wrap x + IntKind.u64.wrap x)) = IntKind.i64.wrap (x + x) := by
  rw [wrap_u64_mod, wrap_u64_mod, IntKind.wrap_i64, IntKind.wrap_i64]
  omega
/-- What a step leaves. -/
def stepX (i : Inst) (x : Int) : Int := if i.op = 1 then i.n else if i.op = 2 then IntKind.i64.wrap (x + x) else x
def simple (i : Inst) : Prop := (i.op = 0 ∨ i.op = 1 ∨ i.op = 2 ∨ i.op = 11) ∧ i.a = 0 ∧ i.b = 0
set_option maxRecDepth 10000 in
set_option maxHeartbeats 8000000 in
theorem step_K (r : Rw) (pc : Nat) (x : Int) (hl : r.l.length ≤ 1000) (i : Inst) (hi : r.l[pc]? = some i) (hs : simple i) (hm : mayF i = true) :
    run kp (.data f_vm_Step [r.d, mz pc x false]) = some (.ds [mz (if i.op = 0 then (pc : Int) else ((pc + 1 : Nat) : Int)) (stepX i x) (decide (i.op = 0)), i.d, .bool true]) := by
  obtain ⟨nl, l⟩ := r
  obtain ⟨op, a, b, n⟩ := i
  obtain ⟨h, rfl, rfl⟩ := hs
  have mi := code_May ⟨op, 0, 0, n⟩
  rw [hm] at mi
  simp only at hi hl h
  have h1 : pc < l.length := (List.getElem?_eq_some_iff.1 hi).1
  have h2 : (pc : Int) < (l.length : Int) := by omega
  have w : IntKind.i64.wrap ((pc : Int) + 1) = ((pc + 1 : Nat) : Int) := by rw [wrap_i64 (by omega) (by omega)]; omega
  have tw := vm_twin_K (pc : Int) x false
  have hi2 : ∀ hh : pc < l.length, l[pc]'hh = ⟨op, 0, 0, n⟩ := fun hh => by rw [List.getElem?_eq_getElem hh] at hi; injection hi
  have gk := goes_K
  have gk2 := goes_K2
  have gk3 := goes_K3
  generalize pc + 1 = pc' at *
  rw [run_data, run_call, kp_vm_Step]
  simp only [mz, Inst.d] at tw mi gk gk2 gk3
  rcases h with rfl | rfl | rfl | rfl
  · simp [k_vm_Step, mz, Rw.d, Inst.d, h1, h2, hi, hi2, mi, tw, gk, gk2, gk3, w, stepX]
  · simp [k_vm_Step, mz, Rw.d, Inst.d, h1, h2, hi, hi2, mi, tw, gk, gk2, gk3, w, stepX]
  · simp [k_vm_Step, mz, Rw.d, Inst.d, h1, h2, hi, hi2, mi, tw, gk, gk2, gk3, w, stepX, wrapU]
  · simp [k_vm_Step, mz, Rw.d, Inst.d, h1, h2, hi, hi2, mi, tw, gk, gk2, gk3, w, stepX]
set_option maxRecDepth 10000 in
set_option maxHeartbeats 8000000 in
theorem jtwin_K (tl : Nat → Option Blk) (b : Nat) (j : Sj) : run kp (.call f_job_twin [.d j.d] tl b) = some (.val (.d j.d) [] b) := by
  have F := natB4 b
  have m := fun p x o => machine_K p x o
  rw [run_call, kp_job_twin]
  simp only [mz] at m
  simp [k_job_twin, Sj.d, mz, canK_canH, gOf, hlook, hputs, F, m, clone_int0]
set_option maxRecDepth 10000 in
theorem job_New_K (t a x : Int) : run kp (.datk f_job_New [.int .i64 t, .int .i64 a, .int .i64 x]) = some (.ds [(Sj.mk t a x 0 0 x false 0 x false).d]) := by
  have n := vm_New_K x
  rw [run_datk, run_call, kp_job_New]
  simp only [mz] at n
  simp [k_job_New, Sj.d, mz, n]
set_option maxRecDepth 10000 in
set_option maxHeartbeats 4000000 in
theorem job_Code_K (t : Ts) (ht : t.Ok) (j : Sj) : run kp (.datk f_job_Code [t.d, j.d]) = some (.ds [(cdOf t j.ph).d]) := by
  have c0 := clone_InsK t.main ht.main
  have c1 := clone_InsK t.way ht.way
  have c2 := clone_InsK t.opt ht.opt
  have c3 := clone_InsK ⟨true, []⟩ ⟨fun _ => rfl, by simp⟩
  rw [run_datk, run_call, kp_job_Code]
  simp only [Rw.d, List.map_nil] at c0 c1 c2 c3
  unfold cdOf
  by_cases h0 : j.ph = 0
  · simp [k_job_Code, Ts.d, Sj.d, Rw.d, h0, c0]
  by_cases h1 : j.ph = 1
  · simp [k_job_Code, Ts.d, Sj.d, Rw.d, h1, c1]
  by_cases h2 : j.ph = 2
  · simp [k_job_Code, Ts.d, Sj.d, Rw.d, h2, c2]
  · simp [k_job_Code, Ts.d, Sj.d, Rw.d, h0, h1, h2, c3]
end Go.Cd
