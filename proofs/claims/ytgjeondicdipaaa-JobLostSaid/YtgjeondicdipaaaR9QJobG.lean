/- What job.Go does. No conditions. -/
import Derived.Test.YtgjeondicdipaaaR9QJobC
set_option linter.unusedVariables false
set_option linter.unusedSimpArgs false
namespace Go.Cd
open Go Go.Fw
/-- The row without the last that is this one, looked for from here down. -/
def remL (l : List Int) (a : Int) : Nat → List Int
  | 0 => l
  | i + 1 => if l[i]? = some a then l.take i ++ l.drop (i + 1) else remL l a i
def heldF (held : List Int) (i : Inst) : List Int := if i.op = 9 then held ++ [i.a] else if i.op = 10 then remL held i.a held.length else held
def goJ (j : Jb) (m : Mc) (i : Inst) : Jb := ⟨j.task, j.at_, j.inn, j.phase, m, if i.op = 11 then m else j.k, if i.op = 9 then false else j.hn, heldF j.held i, j.up⟩
def goR (j : Jb) (m : Mc) (i : Inst) : Jb := ⟨j.task, j.at_, j.inn, j.phase, m, if i.op = 11 then m else j.k, false, heldF j.held i, j.up⟩
def noI : Inst := ⟨0, 0, 0, 0⟩
set_option maxRecDepth 10000 in
set_option maxHeartbeats 8000000 in
theorem ref19_Go_no (t : Tsk) (j : Jb) (m : Mc) (hm : m.rn = false) (i : Inst) (hs : run kp (.data f_ref1_Step [(codeOf t j.phase).d, j.m.d]) = some (.ds [m.d, i.d, .bool false])) :
    run kp (.datk f_ref19_Go [t.d, j.d]) = some (.ds [j.d, noI.d, .bool false]) := by
  have c := ref19_Code t j
  rw [run_datk, run_call, kp_ref19_Go]
  obtain ⟨task, at_, inn, ph, ⟨pc, mem, rn, reps, over⟩, k, hn, held, up⟩ := j
  obtain ⟨pc', mem', rn', reps', over'⟩ := m
  simp only at hm
  subst hm
  simp only [Jb.d, Mc.d, mD, Tsk.d, Row.d, Inst.d] at c hs
  simp [k_ref19_Go, Jb.d, Mc.d, mD, Tsk.d, Row.d, Inst.d, noI, c, hs]
def zMJ : D := .agg [.int .i64 0, .agg [.int .i64 0, .int .i64 0, .int .i64 0, .int .i64 0, .int .i64 0, .int .i64 0, .int .i64 0, .int .i64 0], .sl true [], .bool false]
def jrSt (task at_ inn ph pc : Int) (mem : List Int) (reps : List D) (over : Bool) (k : D) (held : List Int) (up : Bool) (i : Inst) (x : Int) : St :=
  { env := [(4, .ptr 0 []), (5, .ptr 1 []), (8, .ptr 2 []), (10, .ptr 3 []), (11, .int .i64 x)],
    hp := [(0, .box (.d (.agg [.int .i64 0, .int .i64 0, .int .i64 0, .int .i64 0, zMJ, zMJ, .sl true [], .bool false]))), (1, .box (.d (.agg [.int .i64 0, .int .i64 0, .int .i64 0, .int .i64 0]))), (2, .box (.d (.agg [.int .i64 10, .int .i64 i.a, .int .i64 i.b, .int .i64 i.n]))), (3, .box (.agg [.int .i64 task, .int .i64 at_, .int .i64 inn, .int .i64 ph, .agg [.int .i64 pc, .d (.agg (mem.map (.int .i64))), .sl false 4 0 reps.length, .bool over], .d k, .sl false 5 0 held.length, .bool up])), (4, .row true reps), (5, .row true (held.map (.int .i64)))], tl := fun _ => none, base := 0, next := 6 }
def jrRest : K := (K.reg [(1, 2)] [⟨none, .ld 80 (.t 10)⟩, ⟨none, .ld 81 (.t 8)⟩, ⟨none, .st (.t 4) (.t 80)⟩, ⟨none, .st (.t 5) (.t 81)⟩, ⟨none, .mv 6 (.c (.bool true))⟩] [8, 10, 80, 81]).seq K.ret
set_option maxRecDepth 10000 in
set_option maxHeartbeats 16000000 in
theorem jr_loop (task at_ inn ph pc : Int) (mem : List Int) (reps : List D) (over : Bool) (k : D) (held : List Int) (hl : held.length ≤ 90000) (up : Bool) (i : Inst) : ∀ (n : Nat), n ≤ held.length →
    frzK (outK (thenK kp (blkK (blkK (run kp (.loop [4, 5, 8, 10, 11] k_ref19_Go_L0 (jrSt task at_ inn ph pc mem reps over k held up i ((n : Int) - 1)))) 1) 0) jrRest) [.cell 4, .cell 5, .t 6]) =
      some (.ds [.agg [.int .i64 task, .int .i64 at_, .int .i64 inn, .int .i64 ph, .agg [.int .i64 pc, .agg (mem.map (.int .i64)), .sl false reps, .bool over], k, .sl false ((remL held i.a n).map (.int .i64)), .bool up], .agg [.int .i64 10, .int .i64 i.a, .int .i64 i.b, .int .i64 i.n], .bool true])
  | 0, _ => by
    rw [run_round]
    simp [c_ref19_Go_L0, k_ref19_Go_L0b, jrSt, jrRest, remL]
  | n + 1, hn => by
    have hi : n < held.length := by omega
    have hi2 : (n : Int) < (held.length : Int) := by omega
    obtain ⟨x, hx⟩ : ∃ x, held[n]? = some x := ⟨_, List.getElem?_eq_getElem hi⟩
    have hx2 : ∀ hh : n < held.length, held[n] = x := fun hh => by rw [List.getElem?_eq_getElem hh] at hx; injection hx
    have e : ((n + 1 : Nat) : Int) - 1 = (n : Int) := by omega
    have w : IntKind.i64.wrap ((n : Int) - 1) = (n : Int) - 1 := wrap_i64 (by omega) (by omega)
    have w2 : IntKind.i64.wrap ((n : Int) + 1) = ((n + 1 : Nat) : Int) := by rw [wrap_i64 (by omega) (by omega)]; omega
    rw [run_round, e]
    by_cases h : x = i.a
    · subst h
      have hle : n ≤ held.length := by omega
      have hle1 : n + 1 ≤ held.length := by omega
      have b1 : n ≤ 1073741824 := by omega
      have b2 : held.length - (n + 1) ≤ 1073741824 := by omega
      have b3 : n + (held.length - (n + 1)) ≤ 1073741824 := by omega
      have m1 : min n held.length = n := by omega
      have c1 : (0 : Int) ≤ (n : Int) + 1 := by omega
      have c2 : (n : Int) + 1 ≤ (held.length : Int) := by omega
      have t1 : ((held.length : Int) - ((n : Int) + 1)).toNat = held.length - (n + 1) := by omega
      have b4 : n + 1 + (held.length - (n + 1)) ≤ held.length := by omega
      have t2 : List.take (held.length - (n + 1)) (List.drop (n + 1) (held.map (D.int .i64))) = (held.drop (n + 1)).map (.int .i64) := by
        rw [List.take_of_length_le (by simp)]; simp
      have t3 : List.take (n + (held.length - (n + 1))) (List.take n (List.take n (held.map (D.int .i64))) ++ (held.drop (n + 1)).map (.int .i64)) = (held.take n ++ held.drop (n + 1)).map (.int .i64) := by
        rw [List.take_of_length_le (by simp; omega), List.take_take, Nat.min_self]; simp
      simp [hle, hle1, b1, b2, b3, b4, c1, c2, t1, t2, t3, m1, c_ref19_Go_L0, k_ref19_Go_L0b, jrSt, jrRest, remL, hi, hi2, hx, hx2, w2]
      rw [List.take_of_length_le (by simp; omega), List.take_take, Nat.min_self]
    · have ih := jr_loop task at_ inn ph pc mem reps over k held hl up i n (by omega)
      have hx3 : ¬ held[n]? = some i.a := by rw [hx]; intro k; injection k; contradiction
      simp only [jrSt] at ih
      simp [c_ref19_Go_L0, k_ref19_Go_L0b, jrSt, remL, hi, hi2, hx, hx2, h, hx3, w, ih]
set_option maxRecDepth 10000 in
set_option maxHeartbeats 8000000 in
theorem ref19_Go_ok (t : Tsk) (j : Jb) (hj : j.Ok) (m : Mc) (hm : m.rn = false) (i : Inst) (hs : run kp (.data f_ref1_Step [(codeOf t j.phase).d, j.m.d]) = some (.ds [m.d, i.d, .bool true])) :
    run kp (.datk f_ref19_Go [t.d, j.d]) = some (.ds [(goR j m i).d, i.d, .bool true]) := by
  have c := ref19_Code t j
  have hl := hj.len
  rw [run_datk, run_call, kp_ref19_Go]
  obtain ⟨task, at_, inn, ph, ⟨pc, mem, rn, reps, over⟩, k, hn, held, up⟩ := j
  obtain ⟨pc', mem', rn', reps', over'⟩ := m
  simp only at hm hl
  subst hm
  simp only [Jb.d, Mc.d, mD, Tsk.d, Row.d, Inst.d] at c hs
  have l1 : held.length ≤ 4611686018427387904 := by omega
  by_cases h11 : i.op = 11
  · have h9 : ¬ i.op = 9 := by omega
    have h10 : ¬ i.op = 10 := by omega
    simp [k_ref19_Go, Jb.d, Mc.d, mD, Tsk.d, Row.d, Inst.d, c, hs, goR, heldF, h11]
    omega
  by_cases h9 : i.op = 9
  · simp [k_ref19_Go, Jb.d, Mc.d, mD, Tsk.d, Row.d, Inst.d, c, hs, goR, heldF, h9]
    exact ⟨by omega, by omega, List.take_of_length_le (by simp)⟩
  by_cases h10 : i.op = 10
  · simp [k_ref19_Go, Jb.d, Mc.d, mD, Tsk.d, Row.d, Inst.d, c, hs, goR, heldF, h10]
    have lp := jr_loop task at_ inn ph pc' mem' (reps'.map Rep.d) over' k.d held hl up i held.length (Nat.le_refl _)
    have w : IntKind.i64.wrap ((held.length : Int) - 1) = (held.length : Int) - 1 := wrap_i64 (by omega) (by omega)
    simp only [jrSt, jrRest, zMJ, Mc.d, mD, List.length_map] at lp
    rw [w]
    exact ⟨by omega, lp⟩
  simp [k_ref19_Go, Jb.d, Mc.d, mD, Tsk.d, Row.d, Inst.d, c, hs, goR, heldF, h9, h10, h11]
  omega
set_option maxRecDepth 10000 in
set_option maxHeartbeats 16000000 in
theorem job_Go_no (t : Tsk) (ht : t.Ok) (j : Jb) (hj : j.Ok) (m : Mc) (hm : m.rn = true → m.reps = []) (i : Inst) (hs : run kp (.data f_vm_Step [(codeOf t j.phase).d, j.m.d]) = some (.ds [m.d, i.d, .bool false])) :
    run kp (.datk f_job_Go [t.d, j.d]) = some (.ds [j.d, noI.d, .bool false]) := by
  have c := job_Code t ht j
  have tw := twin_call j hj
  have hw := hj.hn
  rw [run_datk, run_call, kp_job_Go]
  obtain ⟨task, at_, inn, ph, ⟨pc, mem, rn, reps, over⟩, k, hn, held, up⟩ := j
  obtain ⟨pc', mem', rn', reps', over'⟩ := m
  simp only at hm hw
  simp only [Jb.d, Mc.d, mD, Tsk.d, Row.d, Inst.d] at c hs tw
  cases rn' with
  | true =>
    have := hm rfl; subst this
    simp only [List.map_nil] at hs
    cases hn with
    | true =>
      have := hw rfl; subst this
      simp only [List.map_nil] at tw c
      simp [k_job_Go, Jb.d, Mc.d, mD, Tsk.d, Row.d, Inst.d, noI, c, hs, tw, twinV, twinH, twinN]
    | false => simp [k_job_Go, Jb.d, Mc.d, mD, Tsk.d, Row.d, Inst.d, noI, c, hs, tw, twinV, twinH, twinN]
  | false =>
    cases hn with
    | true =>
      have := hw rfl; subst this
      simp only [List.map_nil] at tw c
      simp [k_job_Go, Jb.d, Mc.d, mD, Tsk.d, Row.d, Inst.d, noI, c, hs, tw, twinV, twinH, twinN]
    | false => simp [k_job_Go, Jb.d, Mc.d, mD, Tsk.d, Row.d, Inst.d, noI, c, hs, tw, twinV, twinH, twinN]
def jgRest : K := (K.reg [(1, 2)] [⟨none, .ld 68 (.t 4)⟩, ⟨none, .ld 69 (.t 5)⟩, ⟨none, .st (.t 4) (.t 68)⟩, ⟨none, .st (.t 5) (.t 69)⟩, ⟨none, .mv 6 (.c (.bool true))⟩] [68, 69]).seq K.ret
def jgASt (task at_ inn ph pc : Int) (mem : List Int) (over : Bool) (k : D) (held : List Int) (up : Bool) (i : Inst) (x : Int) : St :=
  { env := [(4, .ptr 0 []), (5, .ptr 2 []), (8, .int .i64 x)],
    hp := [(0, .box (.agg [.int .i64 task, .int .i64 at_, .int .i64 inn, .int .i64 ph, .d (.agg [.int .i64 pc, .agg (mem.map (.int .i64)), .sl true [], .bool over]), .d k, .sl false 1 0 held.length, .bool up])), (1, .row true (held.map (.int .i64))), (2, .box (.d (.agg [.int .i64 10, .int .i64 i.a, .int .i64 i.b, .int .i64 i.n])))], tl := fun _ => none, base := 0, next := 3 }
set_option maxRecDepth 10000 in
set_option maxHeartbeats 16000000 in
theorem jgA (task at_ inn ph pc : Int) (mem : List Int) (over : Bool) (k : D) (held : List Int) (hl : held.length ≤ 90000) (up : Bool) (i : Inst) : ∀ (n : Nat), n ≤ held.length →
    frzK (outK (thenK kp (blkK (blkK (run kp (.loop [4, 5, 8] k_job_Go_L0 (jgASt task at_ inn ph pc mem over k held up i ((n : Int) - 1)))) 1) 0) jgRest) [.cell 4, .cell 5, .t 6]) =
      some (.ds [.agg [.int .i64 task, .int .i64 at_, .int .i64 inn, .int .i64 ph, .agg [.int .i64 pc, .agg (mem.map (.int .i64)), .sl true [], .bool over], k, .sl false ((remL held i.a n).map (.int .i64)), .bool up], .agg [.int .i64 10, .int .i64 i.a, .int .i64 i.b, .int .i64 i.n], .bool true])
  | 0, _ => by
    rw [run_round]
    simp [c_job_Go_L0, k_job_Go_L0b, jgASt, jgRest, remL]
  | n + 1, hn => by
    have hi : n < held.length := by omega
    have hi2 : (n : Int) < (held.length : Int) := by omega
    obtain ⟨x, hx⟩ : ∃ x, held[n]? = some x := ⟨_, List.getElem?_eq_getElem hi⟩
    have hx2 : ∀ hh : n < held.length, held[n] = x := fun hh => by rw [List.getElem?_eq_getElem hh] at hx; injection hx
    have e : ((n + 1 : Nat) : Int) - 1 = (n : Int) := by omega
    have w : IntKind.i64.wrap ((n : Int) - 1) = (n : Int) - 1 := wrap_i64 (by omega) (by omega)
    have w2 : IntKind.i64.wrap ((n : Int) + 1) = ((n + 1 : Nat) : Int) := by rw [wrap_i64 (by omega) (by omega)]; omega
    rw [run_round, e]
    by_cases h : x = i.a
    · subst h
      have hle : n ≤ held.length := by omega
      have hle1 : n + 1 ≤ held.length := by omega
      have c0 : (0 : Int) ≤ (n : Int) := by omega
      have c1 : (0 : Int) ≤ (n : Int) + 1 := by omega
      have c2 : (n : Int) + 1 ≤ (held.length : Int) := by omega
      have c3 : (n : Int) ≤ (n : Int) + 1 := by omega
      have t1 : ((n : Int) + 1).toNat = n + 1 := by omega
      simp [hle, hle1, c0, c1, c2, c3, t1, c_job_Go_L0, k_job_Go_L0b, jgASt, jgRest, remL, hi, hi2, hx, hx2, w2, run_call, kp_slices_Delete_int_int, k_slices_Delete_int_int, bodyK_nat, natV, delV]
      exact List.take_of_length_le (by simp; omega)
    · have ih := jgA task at_ inn ph pc mem over k held hl up i n (by omega)
      have hx3 : ¬ held[n]? = some i.a := by rw [hx]; intro k; injection k; contradiction
      simp only [jgASt] at ih
      simp [c_job_Go_L0, k_job_Go_L0b, jgASt, remL, hi, hi2, hx, hx2, h, hx3, w, ih]
def jgBSt (task at_ inn ph pc : Int) (mem : List Int) (reps : List D) (over : Bool) (k : D) (held : List Int) (up : Bool) (i : Inst) (x : Int) : St :=
  { env := [(4, .ptr 0 []), (5, .ptr 3 []), (8, .int .i64 x)],
    hp := [(0, .box (.agg [.int .i64 task, .int .i64 at_, .int .i64 inn, .int .i64 ph, .agg [.int .i64 pc, .d (.agg (mem.map (.int .i64))), .sl false 1 0 reps.length, .bool over], .d k, .sl false 2 0 held.length, .bool up])), (1, .row true reps), (2, .row true (held.map (.int .i64))), (3, .box (.d (.agg [.int .i64 10, .int .i64 i.a, .int .i64 i.b, .int .i64 i.n])))], tl := fun _ => none, base := 0, next := 4 }
set_option maxRecDepth 10000 in
set_option maxHeartbeats 16000000 in
theorem jgB (task at_ inn ph pc : Int) (mem : List Int) (reps : List D) (over : Bool) (k : D) (held : List Int) (hl : held.length ≤ 90000) (up : Bool) (i : Inst) : ∀ (n : Nat), n ≤ held.length →
    frzK (outK (thenK kp (blkK (blkK (run kp (.loop [4, 5, 8] k_job_Go_L0 (jgBSt task at_ inn ph pc mem reps over k held up i ((n : Int) - 1)))) 1) 0) jgRest) [.cell 4, .cell 5, .t 6]) =
      some (.ds [.agg [.int .i64 task, .int .i64 at_, .int .i64 inn, .int .i64 ph, .agg [.int .i64 pc, .agg (mem.map (.int .i64)), .sl false reps, .bool over], k, .sl false ((remL held i.a n).map (.int .i64)), .bool up], .agg [.int .i64 10, .int .i64 i.a, .int .i64 i.b, .int .i64 i.n], .bool true])
  | 0, _ => by
    rw [run_round]
    simp [c_job_Go_L0, k_job_Go_L0b, jgBSt, jgRest, remL]
  | n + 1, hn => by
    have hi : n < held.length := by omega
    have hi2 : (n : Int) < (held.length : Int) := by omega
    obtain ⟨x, hx⟩ : ∃ x, held[n]? = some x := ⟨_, List.getElem?_eq_getElem hi⟩
    have hx2 : ∀ hh : n < held.length, held[n] = x := fun hh => by rw [List.getElem?_eq_getElem hh] at hx; injection hx
    have e : ((n + 1 : Nat) : Int) - 1 = (n : Int) := by omega
    have w : IntKind.i64.wrap ((n : Int) - 1) = (n : Int) - 1 := wrap_i64 (by omega) (by omega)
    have w2 : IntKind.i64.wrap ((n : Int) + 1) = ((n + 1 : Nat) : Int) := by rw [wrap_i64 (by omega) (by omega)]; omega
    rw [run_round, e]
    by_cases h : x = i.a
    · subst h
      have hle : n ≤ held.length := by omega
      have hle1 : n + 1 ≤ held.length := by omega
      have c0 : (0 : Int) ≤ (n : Int) := by omega
      have c1 : (0 : Int) ≤ (n : Int) + 1 := by omega
      have c2 : (n : Int) + 1 ≤ (held.length : Int) := by omega
      have c3 : (n : Int) ≤ (n : Int) + 1 := by omega
      have t1 : ((n : Int) + 1).toNat = n + 1 := by omega
      simp [hle, hle1, c0, c1, c2, c3, t1, c_job_Go_L0, k_job_Go_L0b, jgBSt, jgRest, remL, hi, hi2, hx, hx2, w2, run_call, kp_slices_Delete_int_int, k_slices_Delete_int_int, bodyK_nat, natV, delV]
      exact List.take_of_length_le (by simp; omega)
    · have ih := jgB task at_ inn ph pc mem reps over k held hl up i n (by omega)
      have hx3 : ¬ held[n]? = some i.a := by rw [hx]; intro k; injection k; contradiction
      simp only [jgBSt] at ih
      simp [c_job_Go_L0, k_job_Go_L0b, jgBSt, remL, hi, hi2, hx, hx2, h, hx3, w, ih]
set_option maxRecDepth 10000 in
set_option maxHeartbeats 16000000 in
theorem job_Go_ok (t : Tsk) (ht : t.Ok) (j : Jb) (hj : j.Ok) (m : Mc) (hmo : m.Ok) (i : Inst) (hs : run kp (.data f_vm_Step [(codeOf t j.phase).d, j.m.d]) = some (.ds [m.d, i.d, .bool true])) :
    run kp (.datk f_job_Go [t.d, j.d]) = some (.ds [(goJ j m i).d, i.d, .bool true]) := by
  have c := job_Code t ht j
  have tw := twin_call j hj
  have hw := hj.hn
  have hl := hj.len
  have hm := hmo.rn
  have mc := job_machine m hmo
  rw [run_datk, run_call, kp_job_Go]
  obtain ⟨task, at_, inn, ph, ⟨pc, mem, rn, reps, over⟩, k, hn, held, up⟩ := j
  obtain ⟨pc', mem', rn', reps', over'⟩ := m
  simp only at hm hw hl
  simp only [Jb.d, Mc.d, mD, Tsk.d, Row.d, Inst.d] at c hs tw mc
  by_cases h11 : i.op = 11
  · have h9 : ¬ i.op = 9 := by omega
    have h10 : ¬ i.op = 10 := by omega
    cases rn' with
    | true =>
      have := hm rfl; subst this
      simp only [List.map_nil] at hs mc
      cases hn with
      | true =>
        have := hw rfl; subst this
        simp only [List.map_nil] at tw c
        simp [k_job_Go, Jb.d, Mc.d, mD, Tsk.d, Row.d, Inst.d, goJ, heldF, h11, c, hs, tw, mc, twinV, twinH, twinN]
      | false => simp [k_job_Go, Jb.d, Mc.d, mD, Tsk.d, Row.d, Inst.d, goJ, heldF, h11, c, hs, tw, mc, twinV, twinH, twinN]
    | false =>
      cases hn with
      | true =>
        have := hw rfl; subst this
        simp only [List.map_nil] at tw c
        simp [k_job_Go, Jb.d, Mc.d, mD, Tsk.d, Row.d, Inst.d, goJ, heldF, h11, c, hs, tw, mc, twinV, twinH, twinN]
      | false => simp [k_job_Go, Jb.d, Mc.d, mD, Tsk.d, Row.d, Inst.d, goJ, heldF, h11, c, hs, tw, mc, twinV, twinH, twinN]
  by_cases h9 : i.op = 9
  · have h10 : ¬ i.op = 10 := by omega
    cases rn' with
    | true =>
      have := hm rfl; subst this
      simp only [List.map_nil] at hs mc
      cases hn with
      | true =>
        have := hw rfl; subst this
        simp only [List.map_nil] at tw c
        simp [k_job_Go, Jb.d, Mc.d, mD, Tsk.d, Row.d, Inst.d, goJ, heldF, h9, c, hs, tw, mc, twinV, twinH, twinN]
      | false =>
        simp [k_job_Go, Jb.d, Mc.d, mD, Tsk.d, Row.d, Inst.d, goJ, heldF, h9, c, hs, tw, mc, twinV, twinH, twinN]
        exact ⟨by omega, List.take_of_length_le (by simp)⟩
    | false =>
      cases hn with
      | true =>
        have := hw rfl; subst this
        simp only [List.map_nil] at tw c
        simp [k_job_Go, Jb.d, Mc.d, mD, Tsk.d, Row.d, Inst.d, goJ, heldF, h9, c, hs, tw, mc, twinV, twinH, twinN]
      | false =>
        simp [k_job_Go, Jb.d, Mc.d, mD, Tsk.d, Row.d, Inst.d, goJ, heldF, h9, c, hs, tw, mc, twinV, twinH, twinN]
        exact ⟨by omega, List.take_of_length_le (by simp)⟩
  by_cases h10 : i.op = 10
  · have q : True := trivial
    cases rn' with
    | true =>
      have := hm rfl; subst this
      simp only [List.map_nil] at hs mc
      cases hn with
      | true =>
        have := hw rfl; subst this
        simp only [List.map_nil] at tw c
        simp [k_job_Go, Jb.d, Mc.d, mD, Tsk.d, Row.d, Inst.d, goJ, heldF, h10, c, hs, tw, mc, twinV, twinH, twinN]
        rw [run_round]
        simp [c_job_Go_L0, k_job_Go_L0b, remL, show IntKind.i64.wrap (-1) = -1 from wrap_i64 (by omega) (by omega)]
      | false =>
        simp [k_job_Go, Jb.d, Mc.d, mD, Tsk.d, Row.d, Inst.d, goJ, heldF, h10, c, hs, tw, mc, twinV, twinH, twinN]
        have lp := jgA task at_ inn ph pc' mem' over' k.d held hl up i held.length (Nat.le_refl _)
        have w : IntKind.i64.wrap ((held.length : Int) - 1) = (held.length : Int) - 1 := wrap_i64 (by omega) (by omega)
        simp only [jgASt, jgRest, Mc.d, mD, List.length_map] at lp
        rw [w]
        exact lp
    | false =>
      cases hn with
      | true =>
        have := hw rfl; subst this
        simp only [List.map_nil] at tw c
        simp [k_job_Go, Jb.d, Mc.d, mD, Tsk.d, Row.d, Inst.d, goJ, heldF, h10, c, hs, tw, mc, twinV, twinH, twinN]
        rw [run_round]
        simp [c_job_Go_L0, k_job_Go_L0b, remL, show IntKind.i64.wrap (-1) = -1 from wrap_i64 (by omega) (by omega)]
      | false =>
        simp [k_job_Go, Jb.d, Mc.d, mD, Tsk.d, Row.d, Inst.d, goJ, heldF, h10, c, hs, tw, mc, twinV, twinH, twinN]
        have lp := jgB task at_ inn ph pc' mem' (reps'.map Rep.d) over' k.d held hl up i held.length (Nat.le_refl _)
        have w : IntKind.i64.wrap ((held.length : Int) - 1) = (held.length : Int) - 1 := wrap_i64 (by omega) (by omega)
        simp only [jgBSt, jgRest, Mc.d, mD, List.length_map] at lp
        rw [w]
        exact lp
  · have q : True := trivial
    cases rn' with
    | true =>
      have := hm rfl; subst this
      simp only [List.map_nil] at hs mc
      cases hn with
      | true =>
        have := hw rfl; subst this
        simp only [List.map_nil] at tw c
        simp [k_job_Go, Jb.d, Mc.d, mD, Tsk.d, Row.d, Inst.d, goJ, heldF, h9, h10, h11, c, hs, tw, mc, twinV, twinH, twinN]
      | false =>
        simp [k_job_Go, Jb.d, Mc.d, mD, Tsk.d, Row.d, Inst.d, goJ, heldF, h9, h10, h11, c, hs, tw, mc, twinV, twinH, twinN]
    | false =>
      cases hn with
      | true =>
        have := hw rfl; subst this
        simp only [List.map_nil] at tw c
        simp [k_job_Go, Jb.d, Mc.d, mD, Tsk.d, Row.d, Inst.d, goJ, heldF, h9, h10, h11, c, hs, tw, mc, twinV, twinH, twinN]
      | false =>
        simp [k_job_Go, Jb.d, Mc.d, mD, Tsk.d, Row.d, Inst.d, goJ, heldF, h9, h10, h11, c, hs, tw, mc, twinV, twinH, twinN]
end Go.Cd
