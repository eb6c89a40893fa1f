/- The law VmAll, as the evaluator has it. No conditions. -/
import Derived.Test.YteamehchfnccmaaR4QVmX
import Derived.Test.YteamehchfnccmaaR4QVmY
import Derived.Test.YteamehchfnccmaaR4QVmB
import Derived.Test.YteamehchfnccmaaR4QPk3
set_option linter.unusedVariables false
set_option linter.unusedSimpArgs false
namespace Go.Cd
open Go Go.Fw
def vaSt (v : Int) (m : D) (both : List D) (k : Int) (l : D) (ms : List D) (i : Nat) (ex : List (Nat × V)) : St :=
  { env := [(3, .int .i64 v), (7, .ptr 0 []), (11, .sl false 1 0 2), (12, .int .i64 k), (13, .d l), (14, .sl false 2 0 3), (15, .int .i64 (i : Int))] ++ ex, hp := [(0, .box (.d m)), (1, .row true both), (2, .row true ms)], tl := fun _ => none, base := 0, next := 3 }
set_option maxRecDepth 10000 in
set_option maxHeartbeats 16000000 in
theorem va_round (v : Int) (m : D) (both : List D) (k : Int) (l : List Inst) (nl : Bool) (ms : List D) (hms : ms.length = 3) (i : Nat) (hi : i < 3) (pc : Int) (mem : List Int) (rn : Bool) (reps : List Rep) (hr : reps.length ≤ 1000) (over : Bool) (hx : ms[i]? = some (mD pc mem rn reps over)) (hB : Both l nl pc mem rn reps over) :
    run kp (.loop [3, 7, 11, 12, 13, 14, 15] k_law8_VmAll_L1 (vaSt v m both k (.sl nl (l.map Inst.d)) ms i [])) = run kp (.loop [3, 7, 11, 12, 13, 14, 15] k_law8_VmAll_L1 (vaSt v m both k (.sl nl (l.map Inst.d)) ms (i + 1) [])) := by
  obtain ⟨pc', mem', rn', reps', over', j, ok, s1, _, s2, _, _, hl', hn', _⟩ := hB
  have sm := same_machine pc' mem' rn' false reps' over' (by omega)
  have w : IntKind.i64.wrap ((i : Int) + 1) = ((i + 1 : Nat) : Int) := by rw [wrap_i64 (by omega) (by omega)]; omega
  have p : (i : Int) < 3 := by omega
  have hx2 : ∀ hh : i < ms.length, ms[i] = mD pc mem rn reps over := fun hh => by rw [List.getElem?_eq_getElem hh] at hx; injection hx
  have e := (D.beqs_iff [D.int .i64 j.op, .int .i64 j.a, .int .i64 j.b, .int .i64 j.n] _).2 rfl
  have pv := pv_d mem'
  rw [run_round]
  generalize i + 1 = i' at *
  simp only [mD, Inst.d] at s1 s2 sm hx hx2
  cases rn' with
  | true =>
    have := hn' rfl; subst this
    simp only [List.map_nil] at s1 s2 sm
    simp [c_law8_VmAll_L1, k_law8_VmAll_L1b, vaSt, hms, hi, p, w, hx, hx2, s1, s2, sm, e, pv.toD]
  | false => simp [c_law8_VmAll_L1, k_law8_VmAll_L1b, vaSt, hms, hi, p, w, hx, hx2, s1, s2, sm, e, pv.toD]
theorem va_inner (v : Int) (m : D) (both : List D) (k : Int) (l : List Inst) (nl : Bool) (m0 m1 m2 : D)
    (h0 : ∃ pc mem rn reps over, m0 = mD pc mem rn reps over ∧ reps.length ≤ 1000 ∧ Both l nl pc mem rn reps over) (h1 : ∃ pc mem rn reps over, m1 = mD pc mem rn reps over ∧ reps.length ≤ 1000 ∧ Both l nl pc mem rn reps over) (h2 : ∃ pc mem rn reps over, m2 = mD pc mem rn reps over ∧ reps.length ≤ 1000 ∧ Both l nl pc mem rn reps over) :
    run kp (.loop [3, 7, 11, 12, 13, 14, 15] k_law8_VmAll_L1 (vaSt v m both k (.sl nl (l.map Inst.d)) [m0, m1, m2] 0 [])) = some (.out (.ext 2) (vaSt v m both k (.sl nl (l.map Inst.d)) [m0, m1, m2] 3 [(101, .bool false)])) := by
  obtain ⟨a1, a2, a3, a4, a5, rfl, a6, a7⟩ := h0
  obtain ⟨b1, b2, b3, b4, b5, rfl, b6, b7⟩ := h1
  obtain ⟨c1, c2, c3, c4, c5, rfl, c6, c7⟩ := h2
  rw [va_round v m both k l nl _ rfl 0 (by omega) a1 a2 a3 a4 a6 a5 rfl a7, va_round v m both k l nl _ rfl 1 (by omega) b1 b2 b3 b4 b6 b5 rfl b7, va_round v m both k l nl _ rfl 2 (by omega) c1 c2 c3 c4 c6 c5 rfl c7, run_round]
  simp [c_law8_VmAll_L1, k_law8_VmAll_L1b, vaSt]
def voSt (v : Int) (m : D) (both : List D) (k : Nat) (ex : List (Nat × V)) : St :=
  { env := [(3, .int .i64 v), (7, .ptr 0 []), (11, .sl false 1 0 2), (12, .int .i64 (k : Int))] ++ ex, hp := [(0, .box (.d m)), (1, .row true both)], tl := fun _ => none, base := 0, next := 2 }
set_option maxRecDepth 10000 in
set_option maxHeartbeats 16000000 in
theorem va_outer (v : Int) (hv : i64b v) (pc : Int) (mem : List Int) (hm : memOk mem) (rn : Bool) (reps : List Rep) (hn : rn = true → reps = []) (hL : reps.length ≤ 5) (hr : repsOk reps) (over : Bool) (both : List D) (hb : both.length = 2) (k : Nat) (hk : k < 2) (l : List Inst) (nl : Bool) (hl : l.length ≤ 1000) (hx : both[k]? = some (.sl nl (l.map Inst.d))) :
    run kp (.loop [3, 7, 11, 12] k_law8_VmAll_L0 (voSt v (mD pc mem rn reps over) both k [])) = run kp (.loop [3, 7, 11, 12] k_law8_VmAll_L0 (voSt v (mD pc mem rn reps over) both (k + 1) [])) := by
  have w : IntKind.i64.wrap ((k : Int) + 1) = ((k + 1 : Nat) : Int) := by rw [wrap_i64 (by omega) (by omega)]; omega
  have p : (k : Int) < 2 := by omega
  have hx2 : ∀ hh : k < both.length, both[k] = .sl nl (l.map Inst.d) := fun hh => by rw [List.getElem?_eq_getElem hh] at hx; injection hx
  have mk0 : memOk [v, 0, 0, 0, 0, 0, 0, 0] := ⟨rfl, fun x hx => by
    simp at hx
    rcases hx with rfl | rfl
    · exact hv
    · unfold i64b; omega⟩
  have B0 := step_both l nl (by omega) pc mem hm rn reps hn (by omega) hr over
  have B2 := step_both l nl (by omega) 0 [v, 0, 0, 0, 0, 0, 0, 0] mk0 true [] (by simp) (by simp) (fun x hx => by simp at hx) false
  have pv := pv_d mem
  have rw1 := ref1_New v
  by_cases hl0 : l.length = 0
  · have I := va_inner v (mD pc mem rn reps over) both k l nl (mD pc mem rn reps over) (mD pc mem rn reps over) (mD 0 [v, 0, 0, 0, 0, 0, 0, 0] true [] false) ⟨_, _, _, _, _, rfl, by omega, B0⟩ ⟨_, _, _, _, _, rfl, by omega, B0⟩ ⟨_, _, _, _, _, rfl, by simp, B2⟩
    have l0 : ¬ (0 : Int) < l.length := by omega
    simp only [vaSt, mD, List.append_nil, List.cons_append, List.nil_append, List.map_cons, List.map_nil, Int.cast_ofNat_Int] at I rw1
    rw [run_round]
    generalize k + 1 = k' at *
    simp [c_law8_VmAll_L0, k_law8_VmAll_L0b, voSt, mD, hb, hk, p, w, hx, hx2, rw1, I, l0, hl0, pv.toD]
  · have B1 := step_both l nl (by omega) ((IntKind.i64.wrap (pc.tmod l.length + l.length)).tmod l.length) mem hm rn reps hn (by omega) hr false
    have I := va_inner v (mD pc mem rn reps over) both k l nl (mD pc mem rn reps over) (mD ((IntKind.i64.wrap (pc.tmod l.length + l.length)).tmod l.length) mem rn reps false) (mD 0 [v, 0, 0, 0, 0, 0, 0, 0] true [] false) ⟨_, _, _, _, _, rfl, by omega, B0⟩ ⟨_, _, _, _, _, rfl, by omega, B1⟩ ⟨_, _, _, _, _, rfl, by simp, B2⟩
    have l0 : (0 : Int) < l.length := by omega
    have l1 : 0 < l.length := by omega
    simp only [vaSt, mD, List.append_nil, List.cons_append, List.nil_append, List.map_cons, List.map_nil, Int.cast_ofNat_Int] at I rw1
    rw [run_round]
    generalize k + 1 = k' at *
    simp [c_law8_VmAll_L0, k_law8_VmAll_L0b, voSt, mD, hb, hk, p, w, hx, hx2, rw1, I, l0, l1, hl0, pv.toD]
set_option maxRecDepth 10000 in
set_option maxHeartbeats 16000000 in
theorem vm_all_run (P : List D) (pn : Bool) (hP : NumOk P 0) (w : List Inst) (wn : Bool) (hw : w.length ≤ 30) (pc : Int) (mem : List Int) (hm : memOk mem) (rn : Bool) (reps : List Rep) (hn : rn = true → reps = []) (hL : reps.length ≤ 5) (hr : repsOk reps) (over : Bool) (v n : Int) (hv : i64b v) (hp80 : P.length ≤ 80) :
    ∃ u k, run kp (.call f_law8_VmAll [.d (.sl pn P), .d (.sl wn (w.map Inst.d)), .d (mD pc mem rn reps over), .int .i64 v, .int .i64 n] (fun _ => none) 0) = some (.val (.bool true) u k) := by
  have n1 := vm_NarrowA v n hv
  have n2 := ref1_NarrowA v n
  have s1 := vm_ShiftA v n hv
  have s2 := ref1_ShiftA v n hv
  have m1 := vm_New v
  have m2 := ref1_New v
  have sm := same_machine 0 [v, 0, 0, 0, 0, 0, 0, 0] true true [] false (by simp)
  simp only [mD, List.map_cons, List.map_nil] at m1 m2 sm
  have l1 : ¬ (80 : Int) < P.length := by omega
  have l2 : ¬ (30 : Int) < w.length := by omega
  have l3 : ¬ (5 : Int) < reps.length := by omega
  have k1 := keep_wildNx P 0
  have hwl : (wildL P 0).length ≤ 1000 := by
    have r := valN_range (m := 12) hP (by omega)
    unfold wildL
    rw [List.length_append, wildRow_len]
    simp only [List.length_cons, List.length_nil]
    omega
  have O0 := va_outer v hv pc mem hm rn reps hn hL hr over [.sl false ((wildL P 0).map Inst.d), .sl wn (w.map Inst.d)] rfl 0 (by omega) (wildL P 0) false hwl rfl
  have O1 := va_outer v hv pc mem hm rn reps hn hL hr over [.sl false ((wildL P 0).map Inst.d), .sl wn (w.map Inst.d)] rfl 1 (by omega) w wn (by omega) rfl
  have O2 : run kp (.loop [3, 7, 11, 12] k_law8_VmAll_L0 (voSt v (mD pc mem rn reps over) [.sl false ((wildL P 0).map Inst.d), .sl wn (w.map Inst.d)] 2 [])) = some (.out (.ext 0) (voSt v (mD pc mem rn reps over) [.sl false ((wildL P 0).map Inst.d), .sl wn (w.map Inst.d)] 2 [(68, .bool false)])) := by
    rw [run_round]
    simp [c_law8_VmAll_L0, k_law8_VmAll_L0b, voSt]
  have O := O0.trans (O1.trans O2)
  simp only [voSt, mD, List.append_nil, List.cons_append, List.nil_append, Int.cast_ofNat_Int] at O
  refine ⟨[], 0, ?_⟩
  rw [run_call, kp_law8_VmAll]
  simp [k_law8_VmAll, canK_canH, vm_begun, mD, n1, n2, s1, s2, m1, m2, sm, l1, l2, l3, made_call, wild_call, wr_in, hputs_append, k1, hP, O]
theorem has_picks {x : D} (h : Sh.has (.sl (.i .u8)) x) : ∃ nl l, x = .sl nl l ∧ l.length ≤ maxLen ∧ ∀ y ∈ l, ∃ v, y = .int .u8 v ∧ 0 ≤ v ∧ v < 256 := by
  obtain ⟨nl, l, rfl, h1, h2, h3⟩ := has_sl h
  refine ⟨nl, l, rfl, h2, fun y hy => ?_⟩
  obtain ⟨v, rfl, k⟩ := has_int (h3 y hy)
  exact ⟨v, rfl, wf_u8 k⟩
def instSh : Sh := .st [.i .i64, .i .i64, .i .i64, .i .i64]
theorem has_inst {x : D} (h : Sh.has instSh x) : ∃ i : Inst, x = i.d := by
  obtain ⟨l, rfl, h⟩ := has_st h
  obtain ⟨a, _, rfl, h1, h⟩ := hasL_cons h
  obtain ⟨b, _, rfl, h2, h⟩ := hasL_cons h
  obtain ⟨c, _, rfl, h3, h⟩ := hasL_cons h
  obtain ⟨d, _, rfl, h4, h⟩ := hasL_cons h
  obtain rfl := hasL_nil h
  obtain ⟨a, rfl, k1⟩ := has_int h1
  obtain ⟨b, rfl, k2⟩ := has_int h2
  obtain ⟨c, rfl, k3⟩ := has_int h3
  obtain ⟨d, rfl, k4⟩ := has_int h4
  exact ⟨⟨a, b, c, d⟩, rfl⟩
theorem has_insts {x : D} (h : Sh.has (.sl instSh) x) : ∃ (nl : Bool) (l : List Inst), x = .sl nl (l.map Inst.d) := by
  obtain ⟨nl, l, rfl, h1, h2, h3⟩ := has_sl h
  obtain ⟨m, rfl, hm⟩ := all_typed (f := Inst.d) (p := fun _ => True) (fun y hy => by obtain ⟨r, hr⟩ := has_inst hy; exact ⟨r, hr, trivial⟩) l h3
  exact ⟨nl, m, rfl⟩
def repSh : Sh := .st [.i .i64, .i .i64, .i .i64]
theorem has_rep {x : D} (h : Sh.has repSh x) : ∃ r : Rep, x = r.d ∧ r.left ≤ 9223372036854775807 := by
  obtain ⟨l, rfl, h⟩ := has_st h
  obtain ⟨a, _, rfl, h1, h⟩ := hasL_cons h
  obtain ⟨b, _, rfl, h2, h⟩ := hasL_cons h
  obtain ⟨c, _, rfl, h3, h⟩ := hasL_cons h
  obtain rfl := hasL_nil h
  obtain ⟨a, rfl, k1⟩ := has_int h1
  obtain ⟨b, rfl, k2⟩ := has_int h2
  obtain ⟨c, rfl, k3⟩ := has_int h3
  have := wf_i64' k3
  exact ⟨⟨a, b, c⟩, rfl, by simp only; omega⟩
def machSh : Sh := .st [.i .i64, .ar 8 (.i .i64), .sl repSh, .b]
theorem has_mach {x : D} (h : Sh.has machSh x) : ∃ pc mem rn reps over, x = mD pc mem rn reps over ∧ memOk mem ∧ repsOk reps ∧ (rn = true → reps = []) := by
  obtain ⟨l, rfl, h⟩ := has_st h
  obtain ⟨a, _, rfl, h1, h⟩ := hasL_cons h
  obtain ⟨b, _, rfl, h2, h⟩ := hasL_cons h
  obtain ⟨c, _, rfl, h3, h⟩ := hasL_cons h
  obtain ⟨d, _, rfl, h4, h⟩ := hasL_cons h
  obtain rfl := hasL_nil h
  obtain ⟨a, rfl, k1⟩ := has_int h1
  obtain ⟨b, rfl, h2, h2'⟩ := has_ar h2
  obtain ⟨b, rfl, h2''⟩ := all_typed (f := D.int .i64) (fun y hy => has_int hy) b h2'
  obtain ⟨nl, c, rfl, h3, _, h3'⟩ := has_sl h3
  obtain ⟨c, rfl, hc⟩ := all_typed (f := Rep.d) (p := fun r => r.left ≤ 9223372036854775807) (fun y hy => has_rep hy) c h3'
  obtain ⟨d, rfl⟩ := has_bool h4
  exact ⟨a, b, nl, c, d, rfl, ⟨by simpa using h2, fun x hx => wf_i64' (h2'' x hx)⟩, hc, by simpa using h3⟩
set_option maxHeartbeats 8000000 in
theorem law2_VmAll (xs : List D) (h : Sh.hasL [.sl (.i .u8), .sl instSh, machSh, .i .i64, .i .i64] xs) : ∃ u k, run kp (.call f_law8_VmAll (xs.map ofD) (fun _ => none) 0) = some (.val (.bool true) u k) := by
  obtain ⟨x1, _, rfl, h1, h⟩ := hasL_cons h
  obtain ⟨x2, _, rfl, h2, h⟩ := hasL_cons h
  obtain ⟨x3, _, rfl, h3, h⟩ := hasL_cons h
  obtain ⟨x4, _, rfl, h4, h⟩ := hasL_cons h
  obtain ⟨x5, _, rfl, h5, h⟩ := hasL_cons h
  obtain rfl := hasL_nil h
  obtain ⟨pn, P, rfl, p1, p2⟩ := has_picks h1
  obtain ⟨wn, w, rfl⟩ := has_insts h2
  obtain ⟨pc, mem, rn, reps, over, rfl, q1, q2, q3⟩ := has_mach h3
  obtain ⟨v, rfl, k4⟩ := has_int h4
  obtain ⟨n, rfl, k5⟩ := has_int h5
  by_cases g : P.length ≤ 80 ∧ w.length ≤ 30 ∧ reps.length ≤ 5
  · exact vm_all_run P pn ⟨by omega, by omega, by omega, p2⟩ w wn g.2.1 pc mem q1 rn reps q3 g.2.2 q2 over v n (wf_i64' k4) g.1
  · refine ⟨[], 0, ?_⟩
    rw [run_call, kp_law8_VmAll]
    by_cases g1 : (80 : Int) < P.length
    · simp [k_law8_VmAll, canK_canH, vm_begun, mD, g1]
    by_cases g2 : (30 : Int) < w.length
    · simp [k_law8_VmAll, canK_canH, vm_begun, mD, g1, g2]
    have g3 : (5 : Int) < reps.length := by omega
    simp [k_law8_VmAll, canK_canH, vm_begun, mD, g1, g2, g3]
end Go.Cd
