/- The law JobHeld, as the evaluator has it. No conditions. -/
import Derived.Test.YtmkkfmadiadkiaaR6QJobK
import Derived.Test.YtmkkfmadiadkiaaR6QFin
set_option linter.unusedVariables false
set_option linter.unusedSimpArgs false
namespace Go.Cd
open Go Go.Fw
def jh1 (T : List D) (j x : Jb) (i : Inst) (J : List D) (n k : Nat) (ex : List (Nat × V)) : St :=
  { env := [(5, .ptr 0 []), (6, .ptr 1 []), (7, .sl false 2 0 x.held.length), (8, .int .i64 (n : Int)), (9, .ptr 3 []), (10, .ptr 4 []), (12, .int .i64 (k : Int))] ++ ex, hp := [(0, .box (.d (.agg T))), (1, .box (.d j.d)), (2, .row true (x.held.map (.int .i64) ++ J)), (3, .box (.d x.d)), (4, .box (.d i.d))], tl := fun _ => none, base := 0, next := 5 }
set_option maxRecDepth 10000 in
set_option maxHeartbeats 16000000 in
theorem jh_loop1 (T : List D) (j x : Jb) (hx : x.held.length ≤ 90000) (i : Inst) (J : List D) (n : Nat) : ∀ (k q : Nat), q + k = x.held.length →
    run kp (.loop [5, 6, 7, 8, 9, 10, 12] k_law19_JobHeld_L1 (jh1 T j x i J n q [])) = some (.out (.ext 2) (jh1 T j x i J n x.held.length [(70, .bool false)]))
  | 0, q, h => by
    obtain rfl : q = x.held.length := by omega
    rw [run_round]
    simp [c_law19_JobHeld_L1, k_law19_JobHeld_L1b, jh1]
  | k + 1, q, h => by
    rw [← jh_loop1 T j x hx i J n k (q + 1) (by omega), run_round]
    have hi : q < x.held.length := by omega
    have hi2 : (q : Int) < (x.held.length : Int) := by omega
    obtain ⟨y, hy⟩ : ∃ y, x.held[q]? = some y := ⟨_, List.getElem?_eq_getElem hi⟩
    have hy2 : ∀ hh : q < x.held.length, x.held[q] = y := fun hh => by rw [List.getElem?_eq_getElem hh] at hy; injection hy
    have w : IntKind.i64.wrap ((q : Int) + 1) = ((q + 1 : Nat) : Int) := by rw [wrap_i64 (by omega) (by omega)]; omega
    have ga : (x.held.map (D.int .i64) ++ J)[q]? = some (.int .i64 y) := by
      rw [List.getElem?_append_left (by simpa using hi), List.getElem?_map, hy]; rfl
    generalize q + 1 = q' at *
    simp [c_law19_JobHeld_L1, k_law19_JobHeld_L1b, jh1, Jb.d, hi, hi2, hy, hy2, w, ga]
def jn1 (T : List D) (j x : Jb) (i : Inst) (n : Nat) (ex : List (Nat × V)) : St :=
  { env := [(5, .ptr 0 []), (6, .ptr 1 []), (7, .d (.sl true [])), (8, .int .i64 (n : Int)), (9, .ptr 2 []), (10, .ptr 3 []), (12, .int .i64 0)] ++ ex, hp := [(0, .box (.d (.agg T))), (1, .box (.d j.d)), (2, .box (.d x.d)), (3, .box (.d i.d))], tl := fun _ => none, base := 0, next := 4 }
set_option maxRecDepth 10000 in
theorem jn_loop1 (T : List D) (j x : Jb) (i : Inst) (n : Nat) :
    run kp (.loop [5, 6, 7, 8, 9, 10, 12] k_law19_JobHeld_L1 (jn1 T j x i n [])) = some (.out (.ext 2) (jn1 T j x i n [(70, .bool false)])) := by
  rw [run_round]
  simp [c_law19_JobHeld_L1, k_law19_JobHeld_L1b, jn1]
def jh0 (T : List D) (j : Jb) (J : List D) (n : Nat) (ex : List (Nat × V)) : St :=
  { env := [(5, .ptr 0 []), (6, .ptr 1 []), (7, .sl false 2 0 j.held.length), (8, .int .i64 (n : Int))] ++ ex, hp := [(0, .box (.d (.agg T))), (1, .box (.d j.d)), (2, .row true (j.held.map (.int .i64) ++ J))], tl := fun _ => none, base := 0, next := 3 }
def jn0 (T : List D) (j : Jb) (n : Nat) (ex : List (Nat × V)) : St :=
  { env := [(5, .ptr 0 []), (6, .ptr 1 []), (7, .d (.sl true [])), (8, .int .i64 (n : Int))] ++ ex, hp := [(0, .box (.d (.agg T))), (1, .box (.d j.d))], tl := fun _ => none, base := 0, next := 2 }
set_option maxRecDepth 10000 in
set_option maxHeartbeats 16000000 in
theorem jh_round (T : List D) (j : Jb) (m : Mc) (i : Inst) (J : List D) (n : Nat) (hn : n < 2000) (hj : j.held.length ≤ 80000) (ho : j.m.over = false) (h10 : i.op = 10 → ∃ h, j.held = h ++ [i.a])
    (g : run kp (.datk f_job_Go [.agg T, j.d]) = some (.ds [(goJ j m i).d, i.d, .bool true]))
    (s1 : run kp (.data f_ref1_SameMachine [m.d, m.d]) = some (.ds [.bool true])) (s2 : run kp (.data f_ref1_SameMachine [j.k.d, j.k.d]) = some (.ds [.bool true])) :
    ∃ J', run kp (.loop [5, 6, 7, 8] k_law19_JobHeld_L0 (jh0 T j J n [])) = run kp (.loop [5, 6, 7, 8] k_law19_JobHeld_L0 (jh0 T (goJ j m i) J' (n + 1) [])) := by
  have w : IntKind.i64.wrap ((n : Int) + 1) = ((n + 1 : Nat) : Int) := by rw [wrap_i64 (by omega) (by omega)]; omega
  have p : (n : Int) < 2000 := by omega
  have hl := heldF_len j.held i
  have cl : j.held.length ≤ 1073741823 := by omega
  have cl2 : j.held.length + 1 ≤ 1073741824 := by omega
  by_cases h9 : i.op = 9
  · refine ⟨[], ?_⟩
    have lp := jh_loop1 T j (goJ j m i) (by simp only [goJ]; omega) i [] n (goJ j m i).held.length 0 (by omega)
    rw [run_round]
    generalize n + 1 = n' at *
    obtain ⟨task, at_, inn, ph, ⟨pc, mem, rn, reps, over⟩, k, hn, held, up⟩ := j
    simp only at ho cl cl2
    subst ho
    simp only [goJ, heldF, h9, Jb.d, Mc.d, mD, Inst.d, jh1, if_true, if_false, show ¬ (9 : Int) = 11 by omega, Int.cast_ofNat_Int, List.map_append, List.length_append, List.map_cons, List.map_nil, List.append_nil, List.cons_append, List.nil_append, List.length_cons, List.length_nil, Nat.zero_add, List.append_assoc] at g s1 s2 lp
    simp [c_law19_JobHeld_L0, k_law19_JobHeld_L0b, jh0, Jb.d, Mc.d, mD, goJ, heldF, h9, p, w, g, s1, s2, cl, cl2, lp]
  by_cases h10' : i.op = 10
  · obtain ⟨h, hh⟩ := h10 h10'
    refine ⟨.int .i64 i.a :: J, ?_⟩
    have e : heldF j.held i = h := by
      unfold heldF
      rw [if_neg h9, if_pos h10', hh, remL_last]
    have lp := jh_loop1 T j (goJ j m i) (by simp only [goJ]; omega) i (.int .i64 i.a :: J) n (goJ j m i).held.length 0 (by omega)
    rw [run_round]
    generalize n + 1 = n' at *
    obtain ⟨task, at_, inn, ph, ⟨pc, mem, rn, reps, over⟩, k, hn, held, up⟩ := j
    simp only at ho cl cl2 hh e
    subst ho hh
    have wh : IntKind.i64.wrap (h.length : Int) = h.length := by
      simp at cl
      exact wrap_i64 (by omega) (by omega)
    have mx : max (h.length : Int) 0 = h.length := by omega
    have ne : ¬ (h.length : Int) + 1 = 0 := by omega
    have le1 : (h.length : Int) ≤ (h.length : Int) + 1 := by omega
    simp only [goJ, e, h10', Jb.d, Mc.d, mD, Inst.d, jh1, if_true, if_false, show ¬ (10 : Int) = 11 by omega, show ¬ (10 : Int) = 9 by omega, Int.cast_ofNat_Int, List.map_append, List.length_append, List.map_cons, List.map_nil, List.append_nil, List.cons_append, List.nil_append, List.length_cons, List.length_nil, Nat.zero_add, List.append_assoc] at g s1 s2 lp
    simp [c_law19_JobHeld_L0, k_law19_JobHeld_L0b, jh0, Jb.d, Mc.d, mD, goJ, e, h10', p, w, wh, mx, ne, le1, g, s1, s2, lp]
  · refine ⟨J, ?_⟩
    have e : heldF j.held i = j.held := by
      unfold heldF
      rw [if_neg h9, if_neg h10']
    have lp := jh_loop1 T j (goJ j m i) (by simp only [goJ]; omega) i J n (goJ j m i).held.length 0 (by omega)
    rw [run_round]
    generalize n + 1 = n' at *
    obtain ⟨task, at_, inn, ph, ⟨pc, mem, rn, reps, over⟩, k, hn, held, up⟩ := j
    simp only at ho cl cl2 e
    subst ho
    by_cases h11 : i.op = 11
    · simp only [goJ, e, h11, Jb.d, Mc.d, mD, Inst.d, jh1, if_true, if_false, show ¬ (11 : Int) = 9 by omega, Int.cast_ofNat_Int, List.map_append, List.length_append, List.map_cons, List.map_nil, List.append_nil, List.cons_append, List.nil_append, List.length_cons, List.length_nil, Nat.zero_add, List.append_assoc] at g s1 s2 lp
      simp [c_law19_JobHeld_L0, k_law19_JobHeld_L0b, jh0, Jb.d, Mc.d, mD, goJ, e, h11, p, w, g, s1, s2, lp]
    · simp only [goJ, e, h11, h9, Jb.d, Mc.d, mD, Inst.d, jh1, if_true, if_false, Int.cast_ofNat_Int, List.map_append, List.length_append, List.map_cons, List.map_nil, List.append_nil, List.cons_append, List.nil_append, List.length_cons, List.length_nil, Nat.zero_add, List.append_assoc] at g s1 s2 lp
      simp [c_law19_JobHeld_L0, k_law19_JobHeld_L0b, jh0, Jb.d, Mc.d, mD, goJ, e, h9, h10', h11, p, w, g, s1, s2, lp]
set_option maxRecDepth 10000 in
set_option maxHeartbeats 16000000 in
theorem jn_round (T : List D) (j : Jb) (m : Mc) (i : Inst) (n : Nat) (hn : n < 2000) (hj : j.held = []) (ho : j.m.over = false) (h10 : i.op = 10 → ∃ h, j.held = h ++ [i.a])
    (g : run kp (.datk f_job_Go [.agg T, j.d]) = some (.ds [(goJ j m i).d, i.d, .bool true]))
    (s1 : run kp (.data f_ref1_SameMachine [m.d, m.d]) = some (.ds [.bool true])) (s2 : run kp (.data f_ref1_SameMachine [j.k.d, j.k.d]) = some (.ds [.bool true])) :
    run kp (.loop [5, 6, 7, 8] k_law19_JobHeld_L0 (jn0 T j n [])) = run kp (.loop [5, 6, 7, 8] k_law19_JobHeld_L0 (if i.op = 9 then jh0 T (goJ j m i) [] (n + 1) [] else jn0 T (goJ j m i) (n + 1) [])) := by
  have w : IntKind.i64.wrap ((n : Int) + 1) = ((n + 1 : Nat) : Int) := by rw [wrap_i64 (by omega) (by omega)]; omega
  have p : (n : Int) < 2000 := by omega
  have n10 : ¬ i.op = 10 := fun k => by
    obtain ⟨h, hh⟩ := h10 k
    rw [hj] at hh
    simp at hh
  by_cases h9 : i.op = 9
  · have lp := jh_loop1 T j (goJ j m i) (by simp [goJ, heldF, h9, hj]) i [] n (goJ j m i).held.length 0 (by omega)
    rw [run_round, if_pos h9]
    generalize n + 1 = n' at *
    obtain ⟨task, at_, inn, ph, ⟨pc, mem, rn, reps, over⟩, k, hn, held, up⟩ := j
    simp only at ho hj
    subst ho hj
    simp only [goJ, heldF, h9, Jb.d, Mc.d, mD, Inst.d, jh1, if_true, if_false, show ¬ (9 : Int) = 11 by omega, Int.cast_ofNat_Int, List.map_append, List.length_append, List.map_cons, List.map_nil, List.append_nil, List.cons_append, List.nil_append, List.length_cons, List.length_nil, Nat.zero_add, List.append_assoc] at g s1 s2 lp
    simp [c_law19_JobHeld_L0, k_law19_JobHeld_L0b, jh0, jn0, Jb.d, Mc.d, mD, goJ, heldF, h9, p, w, g, s1, s2, lp]
  · have lp := jn_loop1 T j (goJ j m i) i n
    rw [run_round, if_neg h9]
    generalize n + 1 = n' at *
    obtain ⟨task, at_, inn, ph, ⟨pc, mem, rn, reps, over⟩, k, hn, held, up⟩ := j
    simp only at ho hj
    subst ho hj
    by_cases h11 : i.op = 11
    · simp only [goJ, heldF, h11, Jb.d, Mc.d, mD, Inst.d, jn1, if_true, if_false, show ¬ (11 : Int) = 9 by omega, show ¬ (11 : Int) = 10 by omega, Int.cast_ofNat_Int, List.map_append, List.length_append, List.map_cons, List.map_nil, List.append_nil, List.cons_append, List.nil_append, List.length_cons, List.length_nil, Nat.zero_add, List.append_assoc] at g s1 s2 lp
      simp [c_law19_JobHeld_L0, k_law19_JobHeld_L0b, jn0, Jb.d, Mc.d, mD, goJ, heldF, h11, p, w, g, s1, s2, lp]
    · simp only [goJ, heldF, h11, h9, n10, Jb.d, Mc.d, mD, Inst.d, jn1, if_true, if_false, Int.cast_ofNat_Int, List.map_append, List.length_append, List.map_cons, List.map_nil, List.append_nil, List.cons_append, List.nil_append, List.length_cons, List.length_nil, Nat.zero_add, List.append_assoc] at g s1 s2 lp
      simp [c_law19_JobHeld_L0, k_law19_JobHeld_L0b, jn0, Jb.d, Mc.d, mD, goJ, heldF, h9, n10, h11, p, w, g, s1, s2, lp]
/-- What holds of a job on its way. -/
structure JhOk (n : Nat) (j : Jb) : Prop where
  ok : j.Ok
  phase : j.phase = 0
  reps : j.m.reps.length ≤ n
  kreps : j.k.reps.length ≤ n
  held : j.held.length ≤ n
theorem JhOk.go {n : Nat} {j : Jb} (h : JhOk n j) (hn : n ≤ 2000) (t : Tsk) (ht : t.Ok) (i : Inst) (hc : CanGo (codeOf t j.phase).l j.m i) : ∃ rn', GoD t j i rn' ∧ JhOk (n + 1) (goJ j (nextM j.m i rn') i) := by
  have h1 := h.reps
  have h2 := h.held
  have h3 := h.kreps
  obtain ⟨rn', g⟩ := go_on t ht j h.ok (by omega) i hc
  have hl := heldF_len j.held i
  have gl := g.len
  have mo : (nextM j.m i rn').Ok := ⟨g.mem, g.nil, by omega, g.left⟩
  refine ⟨rn', g, ⟨⟨mo, ?_, ?_, ?_⟩, h.phase, ?_, ?_, ?_⟩⟩
  · unfold goJ; simp only
    split
    · exact mo
    · exact h.ok.k
  · unfold goJ; simp only
    split
    · intro k; cases k
    · intro k
      rename_i h9
      have := h.ok.hn k
      unfold heldF
      rw [if_neg h9, this]
      split <;> rfl
  · simp only [goJ]; omega
  · simp only [goJ]; omega
  · unfold goJ; simp only
    split <;> omega
  · simp only [goJ]; omega
theorem jh_loop (t : Tsk) (ht : t.Ok) (T : List D) (hT : t.d = .agg T) : ∀ (k : Nat) (j : Jb), Fin t.main.l k j → ∀ (n : Nat), n + k ≤ 1900 → JhOk n j →
    (∀ J, ∃ (j' : Jb) (J' : List D) (n' : Nat), j'.m.over = true ∧ j'.held = [] ∧ run kp (.loop [5, 6, 7, 8] k_law19_JobHeld_L0 (jh0 T j J n [])) = run kp (.loop [5, 6, 7, 8] k_law19_JobHeld_L0 (jh0 T j' J' n' [])) ∧ n' ≤ 1900) ∧
    (j.held = [] → ∃ (j' : Jb) (n' : Nat), j'.m.over = true ∧ j'.held = [] ∧ n' ≤ 1900 ∧ ((∃ J', run kp (.loop [5, 6, 7, 8] k_law19_JobHeld_L0 (jn0 T j n [])) = run kp (.loop [5, 6, 7, 8] k_law19_JobHeld_L0 (jh0 T j' J' n' []))) ∨ run kp (.loop [5, 6, 7, 8] k_law19_JobHeld_L0 (jn0 T j n [])) = run kp (.loop [5, 6, 7, 8] k_law19_JobHeld_L0 (jn0 T j' n' [])))) := by
  intro k j hf
  induction hf with
  | @done k j h1 h2 =>
    intro n hn _
    exact ⟨fun J => ⟨j, J, n, h1, h2, rfl, by omega⟩, fun _ => ⟨j, n, h1, h2, by omega, .inr rfl⟩⟩
  | @step k j i hc h10 _ ih =>
    intro n hn hj
    have hc' : CanGo (codeOf t j.phase).l j.m i := by rw [hj.phase]; exact hc
    obtain ⟨rn, g, hj'⟩ := hj.go (by omega) t ht i hc'
    obtain ⟨ih1, ih2⟩ := ih rn (n + 1) (by omega) hj'
    have s1 := same_mc (nextM j.m i rn) (nextM j.m i rn) (.refl _) (by have := g.len; have := hj.reps; omega)
    have s2 := same_mc j.k j.k (.refl _) (by have := hj.kreps; omega)
    have gg := g.go
    rw [hT] at gg
    constructor
    · intro J
      obtain ⟨J1, e⟩ := jh_round T j (nextM j.m i rn) i J n (by omega) (by have := hj.held; omega) hc.on h10 gg s1 s2
      obtain ⟨j', J', n', k1, k2, k3, k4⟩ := ih1 J1
      exact ⟨j', J', n', k1, k2, by rw [e, k3], k4⟩
    · intro hh
      have e := jn_round T j (nextM j.m i rn) i n (by omega) hh hc.on h10 gg s1 s2
      by_cases h9 : i.op = 9
      · rw [if_pos h9] at e
        obtain ⟨j', J', n', k1, k2, k3, k4⟩ := ih1 []
        exact ⟨j', n', k1, k2, k4, .inl ⟨J', by rw [e, k3]⟩⟩
      · rw [if_neg h9] at e
        have hh' : (goJ j (nextM j.m i rn) i).held = [] := by
          simp only [goJ, heldF]
          rw [if_neg h9, hh]
          split <;> rfl
        obtain ⟨j', n', k1, k2, k4, k3⟩ := ih2 hh'
        refine ⟨j', n', k1, k2, k4, ?_⟩
        rw [e]; exact k3
theorem jh_exit (T : List D) (j : Jb) (J : List D) (n : Nat) (hn : n ≤ 1900) (ho : j.m.over = true) : run kp (.loop [5, 6, 7, 8] k_law19_JobHeld_L0 (jh0 T j J n [])) = some (.out (.ext 0) (jh0 T j J n [(30, .bool false)])) := by
  have p : (n : Int) < 2000 := by omega
  rw [run_round]
  obtain ⟨task, at_, inn, ph, ⟨pc, mem, rn, reps, over⟩, k, hn, held, up⟩ := j
  simp only at ho
  subst ho
  simp [c_law19_JobHeld_L0, k_law19_JobHeld_L0b, jh0, Jb.d, Mc.d, mD, p]
theorem jn_exit (T : List D) (j : Jb) (n : Nat) (hn : n ≤ 1900) (ho : j.m.over = true) : run kp (.loop [5, 6, 7, 8] k_law19_JobHeld_L0 (jn0 T j n [])) = some (.out (.ext 0) (jn0 T j n [(30, .bool false)])) := by
  have p : (n : Int) < 2000 := by omega
  rw [run_round]
  obtain ⟨task, at_, inn, ph, ⟨pc, mem, rn, reps, over⟩, k, hn, held, up⟩ := j
  simp only at ho
  subst ho
  simp [c_law19_JobHeld_L0, k_law19_JobHeld_L0b, jn0, Jb.d, Mc.d, mD, p]
set_option maxRecDepth 10000 in
set_option maxHeartbeats 32000000 in
theorem jhe_run (P : List D) (pn : Bool) (hP : NumOk P 0) (hp : P.length ≤ 150) (inn : Int) (hin : i64b inn) :
    ∃ u k, run kp (.call f_law19_JobHeld [.d (.sl pn P), .int .i64 inn] (fun _ => none) 0) = some (.val (.bool true) u k) := by
  obtain ⟨t, n', ho, k1, tok, tk, em⟩ := task_ex2 pn P 0 1 3 hP (by omega)
  have T := tskOf_ok 1 t tok
  have g1 : ¬ (150 : Int) < P.length := by omega
  have nj := job_New 0 0 inn
  have mk0 : memOk [inn, 0, 0, 0, 0, 0, 0, 0] := ⟨rfl, fun x hx => by
    simp at hx
    rcases hx with rfl | rfl
    · exact hin
    · unfold i64b; omega⟩
  have mo : (newM inn).Ok := ⟨mk0, fun _ => rfl, by simp [newM], fun x hx => by simp [newM] at hx⟩
  have j0 : JhOk 0 ⟨0, 0, inn, 0, newM inn, newM inn, true, [], false⟩ := ⟨⟨mo, mo, fun _ => rfl, by simp⟩, rfl, by simp [newM], by simp [newM], by simp⟩
  have F : Fin (tskOf 1 t).main.l 100 ⟨0, 0, inn, 0, newM inn, newM inn, true, [], false⟩ := by
    have := fin_code (L := P) (n := 0) (lk := 3) (by omega) hP ⟨0, 0, inn, 0, newM inn, newM inn, true, [], false⟩ rfl rfl rfl rfl
    rw [← em] at this
    exact this
  obtain ⟨j', n1, o1, o2, o4, lp⟩ := (jh_loop (tskOf 1 t) T [.int .i64 1, .int .i64 t.per, .int .i64 t.stop, (tskOf 1 t).main.d, (tskOf 1 t).way.d, (tskOf 1 t).opt.d] rfl 100 _ F 0 (by omega) j0).2 rfl
  have lp : (∃ J', run kp (.loop [5, 6, 7, 8] k_law19_JobHeld_L0 (jn0 [.int .i64 1, .int .i64 t.per, .int .i64 t.stop, (tskOf 1 t).main.d, (tskOf 1 t).way.d, (tskOf 1 t).opt.d] ⟨0, 0, inn, 0, newM inn, newM inn, true, [], false⟩ 0 [])) = some (.out (.ext 0) (jh0 [.int .i64 1, .int .i64 t.per, .int .i64 t.stop, (tskOf 1 t).main.d, (tskOf 1 t).way.d, (tskOf 1 t).opt.d] j' J' n1 [(30, .bool false)]))) ∨ run kp (.loop [5, 6, 7, 8] k_law19_JobHeld_L0 (jn0 [.int .i64 1, .int .i64 t.per, .int .i64 t.stop, (tskOf 1 t).main.d, (tskOf 1 t).way.d, (tskOf 1 t).opt.d] ⟨0, 0, inn, 0, newM inn, newM inn, true, [], false⟩ 0 [])) = some (.out (.ext 0) (jn0 [.int .i64 1, .int .i64 t.per, .int .i64 t.stop, (tskOf 1 t).main.d, (tskOf 1 t).way.d, (tskOf 1 t).opt.d] j' n1 [(30, .bool false)])) := by
    rcases lp with ⟨J', lp⟩ | lp
    · left; exact ⟨J', by rw [lp, jh_exit _ _ _ _ o4 o1]⟩
    · right; rw [lp, jn_exit _ _ _ o4 o1]
  clear em F j0 mo
  rw [run_call, kp_law19_JobHeld]
  obtain ⟨task, at_, inn', ph, ⟨pc, mem, rn, reps, over⟩, k, hn, held, up⟩ := j'
  simp only at o1 o2
  subst o1 o2
  obtain ⟨per, stop, m, w, o⟩ := t
  simp only [Jb.d, Mc.d, mD, newM, jn0, jh0, List.append_nil, List.cons_append, List.nil_append, List.map_cons, List.map_nil, List.length_nil, Int.cast_ofNat_Int] at nj lp
  cases w with
  | none =>
    cases o with
    | nil =>
      simp only [tskOf, Tsk.d, Row.d, List.drop, List.map_cons, List.map_nil] at lp
      rcases lp with ⟨J', lp⟩ | lp <;> simp [k_law19_JobHeld, canK_canH, job_begun, g1, made_call, tk, tkV, tkH, tkN, wV, wH, wN, aV, aH, aN, wr_in, hputs_append, k1, nj, lp]
    | cons x l =>
      simp only [tskOf, Tsk.d, Row.d, List.drop, List.map_cons, List.map_nil] at lp
      rcases lp with ⟨J', lp⟩ | lp <;> simp [k_law19_JobHeld, canK_canH, job_begun, g1, made_call, tk, tkV, tkH, tkN, wV, wH, wN, aV, aH, aN, wr_in, hputs_append, k1, nj, lp]
  | some q =>
    have hq := tok.w1 q rfl
    rcases (by omega : q = 0 ∨ q = 1) with hq | hq
    · subst hq
      cases o with
      | nil =>
        simp only [tskOf, Tsk.d, Row.d, List.drop, List.map_cons, List.map_nil] at lp
        rcases lp with ⟨J', lp⟩ | lp <;> simp [k_law19_JobHeld, canK_canH, job_begun, g1, made_call, tk, tkV, tkH, tkN, wV, wH, wN, aV, aH, aN, wr_in, hputs_append, k1, nj, lp]
      | cons x l =>
        simp only [tskOf, Tsk.d, Row.d, List.drop, List.map_cons, List.map_nil] at lp
        rcases lp with ⟨J', lp⟩ | lp <;> simp [k_law19_JobHeld, canK_canH, job_begun, g1, made_call, tk, tkV, tkH, tkN, wV, wH, wN, aV, aH, aN, wr_in, hputs_append, k1, nj, lp]
    · subst hq
      cases o with
      | nil =>
        simp only [tskOf, Tsk.d, Row.d, List.drop, List.map_cons, List.map_nil] at lp
        rcases lp with ⟨J', lp⟩ | lp <;> simp [k_law19_JobHeld, canK_canH, job_begun, g1, made_call, tk, tkV, tkH, tkN, wV, wH, wN, aV, aH, aN, wr_in, hputs_append, k1, nj, lp]
      | cons x l =>
        simp only [tskOf, Tsk.d, Row.d, List.drop, List.map_cons, List.map_nil] at lp
        rcases lp with ⟨J', lp⟩ | lp <;> simp [k_law19_JobHeld, canK_canH, job_begun, g1, made_call, tk, tkV, tkH, tkN, wV, wH, wN, aV, aH, aN, wr_in, hputs_append, k1, nj, lp]
set_option maxRecDepth 10000 in
set_option maxHeartbeats 8000000 in
theorem law2_JobHeld (xs : List D) (h : Sh.hasL [.sl (.i .u8), .i .i64] xs) : ∃ u k, run kp (.call f_law19_JobHeld (xs.map ofD) (fun _ => none) 0) = some (.val (.bool true) u k) := by
  obtain ⟨x1, _, rfl, h1, h⟩ := hasL_cons h
  obtain ⟨x2, _, rfl, h2, h⟩ := hasL_cons h
  obtain rfl := hasL_nil h
  obtain ⟨pn, P, rfl, p1, p2⟩ := has_picks h1
  obtain ⟨inn, rfl, k2⟩ := has_int h2
  by_cases g : P.length ≤ 150
  · exact jhe_run P pn ⟨by omega, by omega, by omega, p2⟩ g inn (wf_i64' k2)
  · refine ⟨[], 0, ?_⟩
    have g1 : (150 : Int) < P.length := by omega
    rw [List.map_cons, run_call, kp_law19_JobHeld]
    simp [k_law19_JobHeld, canK_canH, job_begun, g1]
end Go.Cd
