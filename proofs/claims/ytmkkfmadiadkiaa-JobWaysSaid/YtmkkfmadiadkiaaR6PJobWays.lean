/- The law JobWays, as the evaluator has it. No conditions. -/
import Derived.Test.YtmkkfmadiadkiaaR6QJobK
set_option linter.unusedVariables false
set_option linter.unusedSimpArgs false
namespace Go.Cd
open Go Go.Fw
def addI : Inst := ⟨2, 0, 0, 0⟩
def wayL : List Inst := [addI, addI, endI]
structure Tp where
  rank : Int
  per : Int
  stop : Int
  main : Row
  opt : Row
def Tp.t (t : Tp) : Tsk := ⟨t.rank, t.per, t.stop, t.main, ⟨false, wayL⟩, t.opt⟩
def Tp.v (t : Tp) (h : Nat) : V := .agg [.int .i64 t.rank, .int .i64 t.per, .int .i64 t.stop, .d t.main.d, .sl false h 0 3, .d t.opt.d]
def jw0 (inn a b : Int) (t : Tp) (ow : Bool) (j : Jb) (i : Nat) (ex : List (Nat × V)) : St :=
  { env := [(1, .int .i64 inn), (2, .int .u8 a), (3, .int .u8 b), (9, .ptr 0 []), (10, .ptr 2 []), (11, .int .i64 (i : Int))] ++ ex, hp := [(0, .box (t.v 1)), (1, .row ow (wayL.map Inst.d)), (2, .box (.d j.d))], tl := fun _ => none, base := 0, next := 3 }
structure Jw (inn : Int) (n : Nat) (p : Int) (j : Jb) : Prop where
  ok : j.Ok
  task : j.task = 3
  at_ : j.at_ = 4
  inn : j.inn = inn
  phase : j.phase = p
  reps : j.m.reps.length ≤ n
  held : j.held.length ≤ n
theorem Jw.go {inn : Int} {n : Nat} {p : Int} {j : Jb} (h : Jw inn n p j) (hn : n ≤ 1000) (t : Tsk) (ht : t.Ok) : ∃ (x : Jb) (i : Inst) (ok : Bool), run kp (.datk f_job_Go [t.d, j.d]) = some (.ds [x.d, i.d, .bool ok]) ∧ Jw inn (n + 1) p x ∧
    (x.k = j.k ∨ ∃ i, CanGo (codeOf t j.phase).l j.m i ∧ i.op = 11) := by
  have h1 := h.reps
  have h2 := h.held
  rcases goes_or (codeOf t j.phase).l j.m with hno | ⟨i, hc⟩
  · obtain ⟨g1, _⟩ := go_off t ht j h.ok hno
    exact ⟨j, noI, false, g1, ⟨h.ok, h.task, h.at_, h.inn, h.phase, by omega, by omega⟩, .inl rfl⟩
  · obtain ⟨rn', g⟩ := go_on t ht j h.ok (by omega) i hc
    have hl := heldF_len j.held i
    have gl := g.len
    have mo : (nextM j.m i rn').Ok := ⟨g.mem, g.nil, by omega, g.left⟩
    refine ⟨goJ j (nextM j.m i rn') i, i, true, g.go, ⟨⟨mo, ?_, ?_, ?_⟩, h.task, h.at_, h.inn, h.phase, ?_, ?_⟩, ?_⟩
    · unfold goJ; simp only
      split
      · exact mo
      · exact h.ok.k
    · unfold goJ; simp only
      split
      · intro k; cases k
      · intro k
        rename_i h9
        have := h.ok.hn k
        unfold heldF
        rw [if_neg h9, this]
        split <;> rfl
    · simp only [goJ]; omega
    · simp only [goJ]; omega
    · simp only [goJ]; omega
    · by_cases h11 : i.op = 11
      · exact .inr ⟨i, hc, h11⟩
      · left; unfold goJ; simp only; rw [if_neg h11]
theorem tmod20 (a : Int) (ha : 0 ≤ a ∧ a < 256) : 0 ≤ IntKind.i64.wrap (a.tmod 20) ∧ IntKind.i64.wrap (a.tmod 20) < 20 := by
  rw [Int.tmod_eq_emod_of_nonneg ha.1, wrap_i64 (by omega) (by omega)]; omega
theorem tmod3 (a : Int) (ha : 0 ≤ a ∧ a < 256) : 0 ≤ IntKind.i64.wrap (a.tmod 3) ∧ IntKind.i64.wrap (a.tmod 3) < 3 := by
  rw [Int.tmod_eq_emod_of_nonneg ha.1, wrap_i64 (by omega) (by omega)]; omega
set_option maxRecDepth 10000 in
set_option maxHeartbeats 16000000 in
theorem jw_loop0 (inn a b : Int) (ha : 0 ≤ a ∧ a < 256) (t : Tp) (ht : t.t.Ok) : ∀ (k i : Nat), i + k = 20 → ∀ (ow : Bool) (j : Jb), Jw inn i 0 j →
    ∃ (ow' : Bool) (j' : Jb) (i' : Nat), Jw inn 20 0 j' ∧ run kp (.loop [1, 2, 3, 9, 10, 11] k_law19_JobWays_L0 (jw0 inn a b t ow j i [])) = some (.out (.ext 0) (jw0 inn a b t ow' j' i' [(44, .bool false)]))
  | 0, i, h, ow, j, hj => by
    obtain rfl : i = 20 := by omega
    have l := tmod20 a ha
    have l1 : ¬ (20 : Int) < IntKind.i64.wrap (a.tmod 20) := by omega
    refine ⟨ow, j, 20, hj, ?_⟩
    rw [run_round]
    obtain ⟨task, at_, inn', ph, ⟨pc, mem, rn, reps, over⟩, kk, hn, held, up⟩ := j
    simp [c_law19_JobWays_L0, k_law19_JobWays_L0b, jw0, Tp.v, Jb.d, Mc.d, mD, l1]
  | k + 1, i, h, ow, j, hj => by
    have l := tmod20 a ha
    have w : IntKind.i64.wrap ((i : Int) + 1) = ((i + 1 : Nat) : Int) := by rw [wrap_i64 (by omega) (by omega)]; omega
    by_cases hi : (i : Int) < IntKind.i64.wrap (a.tmod 20)
    · cases ho : j.m.over with
      | true =>
        refine ⟨ow, j, i, ⟨hj.ok, hj.task, hj.at_, hj.inn, hj.phase, by have := hj.reps; omega, by have := hj.held; omega⟩, ?_⟩
        rw [run_round]
        obtain ⟨task, at_, inn', ph, ⟨pc, mem, rn, reps, over⟩, kk, hn, held, up⟩ := j
        simp only at ho
        subst ho
        simp [c_law19_JobWays_L0, k_law19_JobWays_L0b, jw0, Tp.v, Jb.d, Mc.d, mD, hi]
      | false =>
        obtain ⟨x, I, ok, g, hx, _⟩ := hj.go (by omega) t.t ht
        obtain ⟨ow', j', i', e1, e2⟩ := jw_loop0 inn a b ha t ht k (i + 1) (by omega) false x hx
        refine ⟨ow', j', i', e1, ?_⟩
        rw [← e2, run_round]
        clear e2
        generalize i + 1 = i2 at *
        obtain ⟨task, at_, inn', ph, ⟨pc, mem, rn, reps, over⟩, kk, hn, held, up⟩ := j
        simp only at ho
        subst ho
        simp only [Tp.t, Tsk.d, Row.d, Jb.d, Mc.d, mD, Inst.d, wayL, List.map_cons, List.map_nil, addI, endI] at g
        simp [c_law19_JobWays_L0, k_law19_JobWays_L0b, jw0, Tp.v, Row.d, Jb.d, Mc.d, mD, wayL, addI, endI, Inst.d, hi, w, g]
    · refine ⟨ow, j, i, ⟨hj.ok, hj.task, hj.at_, hj.inn, hj.phase, by have := hj.reps; omega, by have := hj.held; omega⟩, ?_⟩
      rw [run_round]
      obtain ⟨task, at_, inn', ph, ⟨pc, mem, rn, reps, over⟩, kk, hn, held, up⟩ := j
      simp [c_law19_JobWays_L0, k_law19_JobWays_L0b, jw0, Tp.v, Jb.d, Mc.d, mD, hi]
def jw1 (inn b : Int) (t : Tp) (ow : Bool) (j : Jb) (i : Nat) (ex : List (Nat × V)) : St :=
  { env := [(1, .int .i64 inn), (3, .int .u8 b), (9, .ptr 0 []), (12, .ptr 2 []), (13, .int .i64 (i : Int))] ++ ex, hp := [(0, .box (t.v 1)), (1, .row ow (wayL.map Inst.d)), (2, .box (.d j.d))], tl := fun _ => none, base := 0, next := 3 }
theorem way_noMark {m : Mc} {i : Inst} (h : CanGo wayL m i) : ¬ i.op = 11 := by
  have := List.mem_of_getElem? h.get
  simp [wayL, addI, endI] at this
  rcases this with rfl | rfl <;> simp
set_option maxRecDepth 10000 in
set_option maxHeartbeats 16000000 in
theorem jw_loop1 (inn b : Int) (hb : 0 ≤ b ∧ b < 256) (t : Tp) (ht : t.t.Ok) (K : Mc) : ∀ (k i : Nat), i + k = 3 → ∀ (ow : Bool) (j : Jb), Jw inn (i + 30) 1 j → j.k = K →
    ∃ (ow' : Bool) (j' : Jb) (i' : Nat), Jw inn 33 1 j' ∧ j'.k = K ∧ run kp (.loop [1, 3, 9, 12, 13] k_law19_JobWays_L1 (jw1 inn b t ow j i [])) = some (.out (.ext 2) (jw1 inn b t ow' j' i' [(78, .bool false)]))
  | 0, i, h, ow, j, hj, hk => by
    obtain rfl : i = 3 := by omega
    have l := tmod3 b hb
    have l1 : ¬ (3 : Int) < IntKind.i64.wrap (b.tmod 3) := by omega
    refine ⟨ow, j, 3, hj, hk, ?_⟩
    rw [run_round]
    simp [c_law19_JobWays_L1, k_law19_JobWays_L1b, jw1, Tp.v, Jb.d, Mc.d, mD, l1]
  | k + 1, i, h, ow, j, hj, hk => by
    have l := tmod3 b hb
    have w : IntKind.i64.wrap ((i : Int) + 1) = ((i + 1 : Nat) : Int) := by rw [wrap_i64 (by omega) (by omega)]; omega
    by_cases hi : (i : Int) < IntKind.i64.wrap (b.tmod 3)
    · obtain ⟨x, I, ok, g, hx, hxk⟩ := hj.go (by omega) t.t ht
      have hxk : x.k = K := by
        rcases hxk with h | ⟨i, h, h11⟩
        · rw [h, hk]
        · rw [hj.phase] at h
          exact absurd h11 (way_noMark h)
      obtain ⟨ow', j', i', e1, e3, e2⟩ := jw_loop1 inn b hb t ht K k (i + 1) (by omega) false x ⟨hx.ok, hx.task, hx.at_, hx.inn, hx.phase, by have := hx.reps; omega, by have := hx.held; omega⟩ hxk
      refine ⟨ow', j', i', e1, e3, ?_⟩
      rw [← e2, run_round]
      clear e2
      generalize i + 1 = i2 at *
      simp only [Tp.t, Tsk.d, Row.d, Jb.d, Mc.d, mD, Inst.d, wayL, List.map_cons, List.map_nil, addI, endI] at g
      simp [c_law19_JobWays_L1, k_law19_JobWays_L1b, jw1, Tp.v, Row.d, Jb.d, Mc.d, mD, wayL, addI, endI, Inst.d, hi, w, g]
    · refine ⟨ow, j, i, ⟨hj.ok, hj.task, hj.at_, hj.inn, hj.phase, by have := hj.reps; omega, by have := hj.held; omega⟩, hk, ?_⟩
      rw [run_round]
      simp [c_law19_JobWays_L1, k_law19_JobWays_L1b, jw1, Tp.v, Jb.d, Mc.d, mD, hi]
def yk (inn v pc : Int) (rn over up : Bool) : Jb := ⟨3, 4, inn, 1, ⟨pc, [v, 0, 0, 0, 0, 0, 0, 0], rn, [], over⟩, newM inn, true, [], up⟩
theorem mem8 (v : Int) (hv : i64b v) : memOk [v, 0, 0, 0, 0, 0, 0, 0] := ⟨rfl, fun x hx => by
  simp at hx
  rcases hx with rfl | rfl
  · exact hv
  · unfold i64b; omega⟩
theorem yk_ok (inn v pc : Int) (rn over up : Bool) (hi : i64b inn) (hv : i64b v) : (yk inn v pc rn over up).Ok :=
  ⟨⟨mem8 v hv, fun _ => rfl, by simp [yk], fun x hx => by simp [yk] at hx⟩, ⟨mem8 inn hi, fun _ => rfl, by simp [yk, newM], fun x hx => by simp [yk, newM] at hx⟩, fun _ => rfl, by simp [yk]⟩
theorem way_add (t : Tp) (ht : t.t.Ok) (inn v : Int) (hi : i64b inn) (hv : i64b v) (pc : Nat) (hpc : pc < 2) (rn up : Bool) :
    ∃ rn', run kp (.datk f_job_Go [t.t.d, (yk inn v pc rn false up).d]) = some (.ds [(yk inn (IntKind.i64.wrap (v + v)) (pc + 1 : Nat) rn' false up).d, addI.d, .bool true]) := by
  have hc : CanGo (codeOf t.t (yk inn v pc rn false up).phase).l (yk inn v pc rn false up).m addI := by
    refine ⟨rfl, by simp [yk], ?_, ?_, by decide⟩
    · simp [codeOf, yk, Tp.t, wayL]; omega
    · rcases (by omega : pc = 0 ∨ pc = 1) with rfl | rfl <;> rfl
  obtain ⟨rn', g⟩ := go_on t.t ht _ (yk_ok inn v pc rn false up hi hv) (by simp [yk]) addI hc
  refine ⟨rn', ?_⟩
  rw [g.go]
  have e : goJ (yk inn v pc rn false up) (nextM (yk inn v pc rn false up).m addI rn') addI = yk inn (IntKind.i64.wrap (v + v)) (pc + 1 : Nat) rn' false up := by
    rcases (by omega : pc = 0 ∨ pc = 1) with rfl | rfl <;> rfl
  rw [e]
theorem way_end (t : Tp) (ht : t.t.Ok) (inn v : Int) (hi : i64b inn) (hv : i64b v) (rn up : Bool) :
    ∃ rn', run kp (.datk f_job_Go [t.t.d, (yk inn v 2 rn false up).d]) = some (.ds [(yk inn v 2 rn' true up).d, endI.d, .bool true]) := by
  have hc : CanGo (codeOf t.t (yk inn v 2 rn false up).phase).l (yk inn v 2 rn false up).m endI := ⟨rfl, by simp [yk], by simp [codeOf, yk, Tp.t, wayL], rfl, by decide⟩
  obtain ⟨rn', g⟩ := go_on t.t ht _ (yk_ok inn v 2 rn false up hi hv) (by simp [yk]) endI hc
  exact ⟨rn', g.go⟩
def jw2 (inn : Int) (t : Tp) (ow : Bool) (j : Jb) (i : Nat) (ex : List (Nat × V)) : St :=
  { env := [(1, .int .i64 inn), (9, .ptr 0 []), (14, .ptr 2 []), (15, .int .i64 (i : Int))] ++ ex, hp := [(0, .box (t.v 1)), (1, .row ow (wayL.map Inst.d)), (2, .box (.d j.d))], tl := fun _ => none, base := 0, next := 3 }
set_option maxRecDepth 10000 in
set_option maxHeartbeats 16000000 in
theorem jw_round2 (inn : Int) (t : Tp) (ow : Bool) (j x : Jb) (I : Inst) (g : run kp (.datk f_job_Go [t.t.d, j.d]) = some (.ds [x.d, I.d, .bool true])) (i : Nat) (hi : i < 3) :
    run kp (.loop [1, 9, 14, 15] k_law19_JobWays_L2 (jw2 inn t ow j i [])) = run kp (.loop [1, 9, 14, 15] k_law19_JobWays_L2 (jw2 inn t false x (i + 1) [])) := by
  have w : IntKind.i64.wrap ((i : Int) + 1) = ((i + 1 : Nat) : Int) := by rw [wrap_i64 (by omega) (by omega)]; omega
  have p : (i : Int) < 3 := by omega
  rw [run_round]
  generalize i + 1 = i2 at *
  simp only [Tp.t, Tsk.d, Row.d, Jb.d, Mc.d, mD, Inst.d, wayL, List.map_cons, List.map_nil, addI, endI] at g
  simp [c_law19_JobWays_L2, k_law19_JobWays_L2b, jw2, Tp.v, Row.d, Jb.d, Mc.d, mD, wayL, addI, endI, Inst.d, p, w, g]
theorem jw_loop2 (t : Tp) (ht : t.t.Ok) (inn : Int) (hi : i64b inn) (ow up : Bool) :
    ∃ rn, run kp (.loop [1, 9, 14, 15] k_law19_JobWays_L2 (jw2 inn t ow (yk inn inn 0 true false up) 0 [])) = some (.out (.ext 4) (jw2 inn t false (yk inn (IntKind.i64.wrap (IntKind.i64.wrap (inn + inn) + IntKind.i64.wrap (inn + inn))) 2 rn true up) 3 [(103, .bool false)])) := by
  obtain ⟨r1, g1⟩ := way_add t ht inn inn hi hi 0 (by omega) true up
  obtain ⟨r2, g2⟩ := way_add t ht inn _ hi (i64b_wrap (inn + inn)) 1 (by omega) r1 up
  obtain ⟨r3, g3⟩ := way_end t ht inn _ hi (i64b_wrap (IntKind.i64.wrap (inn + inn) + IntKind.i64.wrap (inn + inn))) r2 up
  refine ⟨r3, ?_⟩
  rw [show yk inn inn 0 true false up = yk inn inn ((0 : Nat) : Int) true false up from rfl, jw_round2 inn t ow _ _ _ g1 0 (by omega), jw_round2 inn t false _ _ _ g2 1 (by omega)]
  rw [show ((1 + 1 : Nat) : Int) = 2 from rfl, jw_round2 inn t false _ _ _ g3 2 (by omega), run_round]
  simp [c_law19_JobWays_L2, k_law19_JobWays_L2b, jw2, Tp.v, Jb.d, Mc.d, mD]
def rowOf : List Inst → Row
  | [] => ⟨true, []⟩
  | x :: l => ⟨false, x :: l⟩
set_option maxRecDepth 10000 in
set_option maxHeartbeats 32000000 in
theorem jw_run (P : List D) (pn : Bool) (hP : NumOk P 0) (hp : P.length ≤ 150) (inn a b : Int) (hin : i64b inn) (ha : 0 ≤ a ∧ a < 256) (hb : 0 ≤ b ∧ b < 256) :
    ∃ u k, run kp (.call f_law19_JobWays [.d (.sl pn P), .int .i64 inn, .int .u8 a, .int .u8 b] (fun _ => none) 0) = some (.val (.bool true) u k) := by
  obtain ⟨t, n', ho, k1, tok, tk⟩ := task_ex pn P 0 1 3 hP (by omega)
  have T := tskOf_ok 1 t tok
  have g1 : ¬ (150 : Int) < P.length := by omega
  let tp : Tp := ⟨1, t.per, t.stop, ⟨false, t.m⟩, rowOf t.o⟩
  have ht : tp.t.Ok := ⟨T.main, ⟨by simp [tp, Tp.t], by simp [tp, Tp.t, wayL]⟩, by
    have := T.opt
    show (rowOf t.o).Ok
    have e : (tskOf 1 t).opt = rowOf t.o := by unfold tskOf rowOf; cases t.o <;> rfl
    rw [← e]; exact this⟩
  have nj := job_New 3 4 inn
  have j0 : Jw inn 0 0 ⟨3, 4, inn, 0, newM inn, newM inn, true, [], false⟩ := by
    have mo : (newM inn).Ok := ⟨mem8 inn hin, fun _ => rfl, by simp [newM], fun x hx => by simp [newM] at hx⟩
    exact ⟨⟨mo, mo, fun _ => rfl, by simp⟩, rfl, rfl, rfl, rfl, by simp [newM], by simp⟩
  obtain ⟨ow1, j1, i1, J1, lp0⟩ := jw_loop0 inn a b ha tp ht 20 0 rfl true _ j0
  have b1 := job_Back tp.t j1 J1.ok
  have eb1 : backF tp.t j1 = yk inn inn 0 true false j1.up := by
    unfold backF
    rw [if_pos ⟨J1.phase, by simp [tp, Tp.t, wayL]⟩, J1.task, J1.at_, J1.inn]
    rfl
  rw [eb1] at b1
  have rn0 := ref1_New inn
  have sm := same_machine 0 [inn, 0, 0, 0, 0, 0, 0, 0] true true [] false (by simp)
  obtain ⟨ow2, j2, i2, J2, hk2, lp1⟩ := jw_loop1 inn b hb tp ht (newM inn) 3 0 rfl false (yk inn inn 0 true false j1.up) ⟨yk_ok _ _ _ _ _ _ hin hin, rfl, rfl, rfl, rfl, by simp [yk], by simp [yk]⟩ rfl
  have b2 := job_Back tp.t j2 J2.ok
  have eb2 : backF tp.t j2 = yk inn inn 0 true false j2.up := by
    unfold backF
    rw [if_neg (by rw [J2.phase]; omega), J2.task, J2.at_, J2.inn, J2.phase, hk2]
    rfl
  rw [eb2] at b2
  obtain ⟨r3, lp2⟩ := jw_loop2 tp ht inn hin false j2.up
  generalize j1.up = up1 at *
  generalize j2.up = up2 at *
  rw [run_call, kp_law19_JobWays]
  obtain ⟨per, stop, m, w, o⟩ := t
  simp only [tp, Tp.t, Tp.v, Tsk.d, Row.d, Jb.d, Mc.d, mD, Inst.d, wayL, addI, endI, newM, yk, jw0, jw1, jw2, List.append_nil, List.cons_append, List.nil_append, List.map_cons, List.map_nil, Int.cast_ofNat_Int] at nj lp0 b1 rn0 sm lp1 b2 lp2
  have fin4 : IntKind.i64.wrap (IntKind.i64.wrap (inn + inn) + IntKind.i64.wrap (inn + inn)) = IntKind.i64.wrap (inn * 2 ^ min 2 IntKind.i64.bits) := by
    rw [show (2 : Int) ^ min 2 IntKind.i64.bits = 4 from rfl, IntKind.wrap_i64, IntKind.wrap_i64, IntKind.wrap_i64]; omega
  cases w with
  | none =>
    cases o with
    | nil =>
      simp only [rowOf, List.map_nil, List.map_cons] at lp0 b1 lp1 b2 lp2
      simp [k_law19_JobWays, canK_canH, job_begun, g1, made_call, tk, tkV, tkH, tkN, wV, wH, wN, aV, aH, aN, wr_in, hputs_append, k1, nj, lp0, b1, rn0, sm, lp1, b2, lp2, fin4]
    | cons x l =>
      simp only [rowOf, List.map_nil, List.map_cons] at lp0 b1 lp1 b2 lp2
      simp [k_law19_JobWays, canK_canH, job_begun, g1, made_call, tk, tkV, tkH, tkN, wV, wH, wN, aV, aH, aN, wr_in, hputs_append, k1, nj, lp0, b1, rn0, sm, lp1, b2, lp2, fin4]
  | some q =>
    have hq := tok.w1 q rfl
    rcases (by omega : q = 0 ∨ q = 1) with hq | hq
    · subst hq
      cases o with
      | nil =>
        simp only [rowOf, List.map_nil, List.map_cons] at lp0 b1 lp1 b2 lp2
        simp [k_law19_JobWays, canK_canH, job_begun, g1, made_call, tk, tkV, tkH, tkN, wV, wH, wN, aV, aH, aN, wr_in, hputs_append, k1, nj, lp0, b1, rn0, sm, lp1, b2, lp2, fin4]
      | cons x l =>
        simp only [rowOf, List.map_nil, List.map_cons] at lp0 b1 lp1 b2 lp2
        simp [k_law19_JobWays, canK_canH, job_begun, g1, made_call, tk, tkV, tkH, tkN, wV, wH, wN, aV, aH, aN, wr_in, hputs_append, k1, nj, lp0, b1, rn0, sm, lp1, b2, lp2, fin4]
    · subst hq
      cases o with
      | nil =>
        simp only [rowOf, List.map_nil, List.map_cons] at lp0 b1 lp1 b2 lp2
        simp [k_law19_JobWays, canK_canH, job_begun, g1, made_call, tk, tkV, tkH, tkN, wV, wH, wN, aV, aH, aN, wr_in, hputs_append, k1, nj, lp0, b1, rn0, sm, lp1, b2, lp2, fin4]
      | cons x l =>
        simp only [rowOf, List.map_nil, List.map_cons] at lp0 b1 lp1 b2 lp2
        simp [k_law19_JobWays, canK_canH, job_begun, g1, made_call, tk, tkV, tkH, tkN, wV, wH, wN, aV, aH, aN, wr_in, hputs_append, k1, nj, lp0, b1, rn0, sm, lp1, b2, lp2, fin4]
set_option maxRecDepth 10000 in
set_option maxHeartbeats 8000000 in
theorem law2_JobWays (xs : List D) (h : Sh.hasL [.sl (.i .u8), .i .i64, .i .u8, .i .u8] xs) : ∃ u k, run kp (.call f_law19_JobWays (xs.map ofD) (fun _ => none) 0) = some (.val (.bool true) u k) := by
  obtain ⟨x1, _, rfl, h1, h⟩ := hasL_cons h
  obtain ⟨x2, _, rfl, h2, h⟩ := hasL_cons h
  obtain ⟨x3, _, rfl, h3, h⟩ := hasL_cons h
  obtain ⟨x4, _, rfl, h4, h⟩ := hasL_cons h
  obtain rfl := hasL_nil h
  obtain ⟨pn, P, rfl, p1, p2⟩ := has_picks h1
  obtain ⟨inn, rfl, k2⟩ := has_int h2
  obtain ⟨a, rfl, k3⟩ := has_int h3
  obtain ⟨b, rfl, k4⟩ := has_int h4
  by_cases g : P.length ≤ 150
  · exact jw_run P pn ⟨by omega, by omega, by omega, p2⟩ g inn a b (wf_i64' k2) (wf_u8 k3) (wf_u8 k4)
  · refine ⟨[], 0, ?_⟩
    have g1 : (150 : Int) < P.length := by omega
    rw [List.map_cons, run_call, kp_law19_JobWays]
    simp [k_law19_JobWays, canK_canH, job_begun, g1]
end Go.Cd
