/- The law VmRuns, as the evaluator has it. No conditions. -/
import Derived.Test.YteamehchfnccmaaR4QVmZ
import Derived.Test.YteamehchfnccmaaR4QVmY
import Derived.Test.YteamehchfnccmaaR4QVm
set_option linter.unusedVariables false
set_option linter.unusedSimpArgs false
namespace Go.Cd
open Go Go.Fw
def maV (pc : Int) (mem : List Int) (over : Bool) (x : V) : Blk := .box (.agg [.int .i64 pc, .d (.agg (mem.map (.int .i64))), x, .bool over])
def vrSt (l : List Inst) (pc : Int) (mem : List Int) (rn : Bool) (rn2 : Bool) (reps : List Rep) (over : Bool) (i : Nat) (ex : List (Nat × V)) : St :=
  match rn, rn2 with
  | true, true => { env := [(5, .sl false 0 0 l.length), (6, .ptr 1 []), (7, .ptr 2 []), (8, .int .i64 (i : Int))] ++ ex, hp := [(0, .row true (l.map Inst.d)), (1, .box (.d (mD pc mem true reps over))), (2, .box (.d (mD pc mem true reps over)))], tl := fun _ => none, base := 0, next := 3 }
  | true, false => { env := [(5, .sl false 0 0 l.length), (6, .ptr 1 []), (7, .ptr 2 []), (8, .int .i64 (i : Int))] ++ ex, hp := [(0, .row true (l.map Inst.d)), (1, .box (.d (mD pc mem true reps over))), (2, maV pc mem over (.sl false 3 0 reps.length)), (3, .row true (reps.map Rep.d))], tl := fun _ => none, base := 0, next := 4 }
  | false, _ => { env := [(5, .sl false 0 0 l.length), (6, .ptr 1 []), (7, .ptr 3 []), (8, .int .i64 (i : Int))] ++ ex, hp := [(0, .row true (l.map Inst.d)), (1, maV pc mem over (.sl false 2 0 reps.length)), (2, .row true (reps.map Rep.d)), (3, maV pc mem over (.sl false 4 0 reps.length)), (4, .row true (reps.map Rep.d))], tl := fun _ => none, base := 0, next := 5 }
theorem take_Rep (l : List Rep) : List.take l.length (List.map Rep.d l) = List.map Rep.d l := List.take_of_length_le (by simp)
theorem take_Inst (l : List Inst) : List.take l.length (List.map Inst.d l) = List.map Inst.d l := List.take_of_length_le (by simp)
set_option maxRecDepth 10000 in
set_option maxHeartbeats 32000000 in
theorem vr_round (l : List Inst) (hl : l.length ≤ 1000) (pc : Int) (mem : List Int) (rn : Bool) (rn2 : Bool) (hx : rn2 = true → rn = true) (reps : List Rep) (hn : rn = true → reps = []) (hr : reps.length ≤ 5000) (over : Bool) (i : Nat) (hi : i < 3000) (pc' : Int) (mem' : List Int) (rn' : Bool) (reps' : List Rep) (over' : Bool) (j : Inst) (ok : Bool)
    (s1 : run kp (.data f_vm_Step [.sl false (l.map Inst.d), mD pc mem rn reps over]) = some (.ds [mD pc' mem' rn' reps' over', j.d, .bool ok]))
    (s2 : run kp (.data f_ref1_Step [.sl false (l.map Inst.d), mD pc mem rn2 reps over]) = some (.ds [mD pc' mem' false reps' over', j.d, .bool ok])) (hr' : reps'.length ≤ reps.length + 1) (hn' : rn' = true → reps' = []) :
    (ok = true → run kp (.loop [5, 6, 7, 8] k_law8_VmRuns_L0 (vrSt l pc mem rn rn2 reps over i [])) = run kp (.loop [5, 6, 7, 8] k_law8_VmRuns_L0 (vrSt l pc' mem' rn' false reps' over' (i + 1) []))) ∧
    (ok = false → over = true → ∃ s, run kp (.loop [5, 6, 7, 8] k_law8_VmRuns_L0 (vrSt l pc mem rn rn2 reps over i [])) = some (.out .ret s) ∧ val s.env (.t 4) = .bool true ∧ s.base = 0) := by
  have sm := same_machine pc' mem' rn' false reps' over' (by omega)
  have w : IntKind.i64.wrap ((i : Int) + 1) = ((i + 1 : Nat) : Int) := by rw [wrap_i64 (by omega) (by omega)]; omega
  have p : (i : Int) < 3000 := by omega
  have e := (D.beqs_iff [D.int .i64 j.op, .int .i64 j.a, .int .i64 j.b, .int .i64 j.n] _).2 rfl
  have pv := pv_d mem
  have pv' := pv_d mem'
  generalize i + 1 = i' at *
  simp only [mD, Inst.d] at s1 s2 sm
  cases rn with
  | true =>
   cases rn2 with
   | true =>
    have := hn rfl; subst this
    simp only [List.map_nil] at s1 s2 sm
    cases rn' with
    | true =>
      have := hn' rfl; subst this
      simp only [List.map_nil] at s1 s2 sm
      refine ⟨fun hok => ?_, fun hok ho => ?_⟩
      · subst hok
        rw [run_round]
        simp [c_law8_VmRuns_L0, k_law8_VmRuns_L0b, vrSt, maV, mD, p, w, s1, s2, sm, e, pv.toD, pv'.toD, take_Inst, take_Rep]
      · subst hok; subst ho
        rw [run_round]
        simp [c_law8_VmRuns_L0, k_law8_VmRuns_L0b, vrSt, maV, mD, p, w, s1, s2, sm, e, pv.toD, pv'.toD, take_Inst, take_Rep]
    | false =>
      refine ⟨fun hok => ?_, fun hok ho => ?_⟩
      · subst hok
        rw [run_round]
        simp [c_law8_VmRuns_L0, k_law8_VmRuns_L0b, vrSt, maV, mD, p, w, s1, s2, sm, e, pv.toD, pv'.toD, take_Inst, take_Rep]
      · subst hok; subst ho
        rw [run_round]
        simp [c_law8_VmRuns_L0, k_law8_VmRuns_L0b, vrSt, maV, mD, p, w, s1, s2, sm, e, pv.toD, pv'.toD, take_Inst, take_Rep]
   | false =>
    have := hn rfl; subst this
    simp only [List.map_nil] at s1 s2 sm
    cases rn' with
    | true =>
      have := hn' rfl; subst this
      simp only [List.map_nil] at s1 s2 sm
      refine ⟨fun hok => ?_, fun hok ho => ?_⟩
      · subst hok
        rw [run_round]
        simp [c_law8_VmRuns_L0, k_law8_VmRuns_L0b, vrSt, maV, mD, p, w, s1, s2, sm, e, pv.toD, pv'.toD, take_Inst, take_Rep]
      · subst hok; subst ho
        rw [run_round]
        simp [c_law8_VmRuns_L0, k_law8_VmRuns_L0b, vrSt, maV, mD, p, w, s1, s2, sm, e, pv.toD, pv'.toD, take_Inst, take_Rep]
    | false =>
      refine ⟨fun hok => ?_, fun hok ho => ?_⟩
      · subst hok
        rw [run_round]
        simp [c_law8_VmRuns_L0, k_law8_VmRuns_L0b, vrSt, maV, mD, p, w, s1, s2, sm, e, pv.toD, pv'.toD, take_Inst, take_Rep]
      · subst hok; subst ho
        rw [run_round]
        simp [c_law8_VmRuns_L0, k_law8_VmRuns_L0b, vrSt, maV, mD, p, w, s1, s2, sm, e, pv.toD, pv'.toD, take_Inst, take_Rep]
  | false =>
   cases rn2 with
   | true => exact absurd (hx rfl) (by simp)
   | false =>
    cases rn' with
    | true =>
      have := hn' rfl; subst this
      simp only [List.map_nil] at s1 s2 sm
      refine ⟨fun hok => ?_, fun hok ho => ?_⟩
      · subst hok
        rw [run_round]
        simp [c_law8_VmRuns_L0, k_law8_VmRuns_L0b, vrSt, maV, mD, p, w, s1, s2, sm, e, pv.toD, pv'.toD, take_Inst, take_Rep]
      · subst hok; subst ho
        rw [run_round]
        simp [c_law8_VmRuns_L0, k_law8_VmRuns_L0b, vrSt, maV, mD, p, w, s1, s2, sm, e, pv.toD, pv'.toD, take_Inst, take_Rep]
    | false =>
      refine ⟨fun hok => ?_, fun hok ho => ?_⟩
      · subst hok
        rw [run_round]
        simp [c_law8_VmRuns_L0, k_law8_VmRuns_L0b, vrSt, maV, mD, p, w, s1, s2, sm, e, pv.toD, pv'.toD, take_Inst, take_Rep]
      · subst hok; subst ho
        rw [run_round]
        simp [c_law8_VmRuns_L0, k_law8_VmRuns_L0b, vrSt, maV, mD, p, w, s1, s2, sm, e, pv.toD, pv'.toD, take_Inst, take_Rep]
theorem outer_none : ∀ hp : Hp, outer 0 hp = []
  | [] => rfl
  | (h, b) :: l => by
    unfold outer
    simp [outer_none l]
theorem canon_true (s : St) (hb : s.base = 0) : ∃ u k, canK (canon [(0, .bool true)] s) = some (.val (.bool true) u k) := by
  unfold canon
  rw [hb]
  simp only [outer_none]
  have e1 : envHs [(0, V.bool true)] = [] := rfl
  have e2 : hpHs [] = [] := rfl
  have e3 : reach s.g 0 4096 [] [] = [] := rfl
  rw [e1, e2]
  simp only [List.append_nil]
  rw [e3]
  exact ⟨_, _, rfl⟩
theorem put_look (v : V) (i : Nat) : ∀ e : Env, Fw.look (put e i v) i = v
  | [] => by simp [put, Fw.look]
  | (j, w) :: l => by
    unfold put
    by_cases h : j = i
    · simp [h, Fw.look]
    · simp [h, Fw.look, put_look v i l]
theorem vr_loop (R : List Inst) (hR : codeOk R) (hl : R.length ≤ 100) : ∀ (k i : Nat), i + k = 3000 → ∀ (pc : Int) (mem : List Int) (rn rn2 : Bool) (reps : List Rep) (over : Bool), memOk mem → repsOk reps → inProg R pc reps → (rn2 = true → rn = true) → (rn = true → reps = []) → reps.length ≤ i →
    (∃ s, run kp (.loop [5, 6, 7, 8] k_law8_VmRuns_L0 (vrSt (R ++ [endI]) pc mem rn rn2 reps over i [])) = some (.out .ret s) ∧ val s.env (.t 4) = .bool true ∧ s.base = 0) ∨
    (∃ s, run kp (.loop [5, 6, 7, 8] k_law8_VmRuns_L0 (vrSt (R ++ [endI]) pc mem rn rn2 reps over i [])) = some (.out (.ext 0) s) ∧ s.base = 0)
  | 0, i, h, pc, mem, rn, rn2, reps, over, hm, hr, hin, hx, hn, hlen => by
    obtain rfl : i = 3000 := by omega
    refine .inr ?_
    rw [run_round]
    cases rn with
    | true =>
      cases rn2 with
      | true => simp [c_law8_VmRuns_L0, k_law8_VmRuns_L0b, vrSt]
      | false => simp [c_law8_VmRuns_L0, k_law8_VmRuns_L0b, vrSt]
    | false => simp [c_law8_VmRuns_L0, k_law8_VmRuns_L0b, vrSt]
  | k + 1, i, h, pc, mem, rn, rn2, reps, over, hm, hr, hin, hx, hn, hlen => by
    obtain ⟨pc', mem', rn', reps', over', j, ok, s1, s2, s3, hm', hr', hl', hn', _, hnx⟩ := step_both (R ++ [endI]) false (by simp; omega) pc mem hm rn reps hn (by omega) hr over
    have nx := in_next hR hin hnx
    have s4 : run kp (.data f_ref1_Step [.sl false ((R ++ [endI]).map Inst.d), mD pc mem rn2 reps over]) = some (.ds [mD pc' mem' false reps' over', j.d, .bool ok]) := by
      cases rn2 with
      | false => exact s2
      | true =>
        have := hx rfl; subst this
        exact s3
    obtain ⟨r1, r2⟩ := vr_round (R ++ [endI]) (by simp; omega) pc mem rn rn2 hx reps hn (by omega) over i (by omega) pc' mem' rn' reps' over' j ok s1 s4 hl' hn'
    cases ok with
    | true =>
      rw [r1 rfl]
      exact vr_loop R hR hl k (i + 1) (by omega) pc' mem' rn' false reps' over' hm' hr' (nx.2 rfl) (by simp) hn' (by omega)
    | false => exact .inl (r2 rfl (nx.1 rfl))
set_option maxRecDepth 10000 in
set_option maxHeartbeats 16000000 in
theorem vm_runs_run (P : List D) (pn : Bool) (hP : NumOk P 0) (v : Int) (hv : i64b v) (hp80 : P.length ≤ 80) :
    ∃ u k, run kp (.call f_law8_VmRuns [.d (.sl pn P), .int .i64 v] (fun _ => none) 0) = some (.val (.bool true) u k) := by
  have m1 := vm_New v
  have m2 := ref1_New v
  simp only [mD, List.map_cons, List.map_nil] at m1 m2
  have l1 : ¬ (80 : Int) < P.length := by omega
  have k1 := keep_codeNx P 0 3
  have mk0 : memOk [v, 0, 0, 0, 0, 0, 0, 0] := ⟨rfl, fun x hx => by
    simp at hx
    rcases hx with rfl | rfl
    · exact hv
    · unfold i64b; omega⟩
  have lp := vr_loop (codeRow P 3 ((valN P 0 4).toNat + 1) (nextN P 0) []) (codeRow_ok 3 (by omega) _ _ _ (nextN_ok hP) (codeOk_plain (fun i hi => by simp at hi))) (by have := codeRow_len P 3 ((valN P 0 4).toNat + 1) (nextN P 0) [] (by simp); omega) 3000 0 rfl 0 [v, 0, 0, 0, 0, 0, 0, 0] true true [] false mk0 (fun x hx => by simp at hx) ⟨by omega, by omega, fun r hr => by simp at hr⟩ (fun h => h) (fun _ => rfl) (by simp)
  have ec : codeRow P 3 ((valN P 0 4).toNat + 1) (nextN P 0) [] ++ [endI] = codeL P 0 3 := rfl
  rw [ec] at lp
  simp only [vrSt, mD, List.append_nil, List.cons_append, List.nil_append, List.map_cons, List.map_nil, Int.cast_ofNat_Int] at lp
  rw [run_call, kp_law8_VmRuns]
  rcases lp with ⟨s, lp, hs, hb⟩ | ⟨s, lp, hb⟩
  · obtain ⟨u, k, h⟩ := canon_true s hb
    refine ⟨u, k, ?_⟩
    simp only [val] at hs
    simp [k_law8_VmRuns, vm_begun, m1, m2, l1, made_call, code_call, wr_in, hputs_append, k1, hP, lp, hs, h]
  · obtain ⟨e, hp, tl, b, n⟩ := s
    simp only at hb
    subst hb
    simp [k_law8_VmRuns, vm_begun, m1, m2, l1, made_call, code_call, wr_in, hputs_append, k1, hP, lp, put_look]
    have ef : ∀ l : Env, List.filter (fun _ => true) l = l := fun l => by induction l with
      | nil => rfl
      | cons a l ih => simp [List.filter, ih]
    simp only [ef, put_look]
    exact canon_true _ rfl
theorem has_picks {x : D} (h : Sh.has (.sl (.i .u8)) x) : ∃ nl l, x = .sl nl l ∧ l.length ≤ maxLen ∧ ∀ y ∈ l, ∃ v, y = .int .u8 v ∧ 0 ≤ v ∧ v < 256 := by
  obtain ⟨nl, l, rfl, h1, h2, h3⟩ := has_sl h
  refine ⟨nl, l, rfl, h2, fun y hy => ?_⟩
  obtain ⟨v, rfl, k⟩ := has_int (h3 y hy)
  exact ⟨v, rfl, wf_u8 k⟩
set_option maxHeartbeats 8000000 in
theorem law2_VmRuns (xs : List D) (h : Sh.hasL [.sl (.i .u8), .i .i64] xs) : ∃ u k, run kp (.call f_law8_VmRuns (xs.map ofD) (fun _ => none) 0) = some (.val (.bool true) u k) := by
  obtain ⟨x1, _, rfl, h1, h⟩ := hasL_cons h
  obtain ⟨x2, _, rfl, h2, h⟩ := hasL_cons h
  obtain rfl := hasL_nil h
  obtain ⟨pn, P, rfl, p1, p2⟩ := has_picks h1
  obtain ⟨v, rfl, k4⟩ := has_int h2
  by_cases g : P.length ≤ 80
  · exact vm_runs_run P pn ⟨by omega, by omega, by omega, p2⟩ v (wf_i64' k4) g
  · refine ⟨[], 0, ?_⟩
    rw [run_call, kp_law8_VmRuns]
    have g1 : (80 : Int) < P.length := by omega
    simp [k_law8_VmRuns, canK_canH, vm_begun, g1]
end Go.Cd
