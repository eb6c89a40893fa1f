/- The law JobLost, as the evaluator has it: its end. No conditions. -/
import Derived.Test.YtgjeondicdipaaaR9PJobLost0
set_option linter.unusedVariables false
set_option linter.unusedSimpArgs false
namespace Go.Cd
open Go Go.Fw
def way0 : List Inst := [wayI, endI]
theorem made_way : Made [wayI] := ⟨.one (.some (.one ⟨by decide, by decide, by decide, by decide, by decide, by decide⟩ .nil)), by simp, ⟨fun i hi => by simp at hi; subst hi; decide, fun j i hj h7 => by
  cases j with
  | zero => simp at hj; subst hj; simp [wayI] at h7
  | succ j => simp at hj⟩⟩
theorem made_nil : Made [] := ⟨.nil, by simp, ⟨fun i hi => by simp at hi, fun j i hj => by simp at hj⟩⟩
theorem all_way : allOf ([wayI] ++ [endI]) = (2, 2, 0) := by decide +kernel
theorem all_nil : allOf ([] ++ [endI]) = (1, 1, 0) := by decide +kernel
set_option maxRecDepth 100000 in
theorem cost_none : run kp (.data f_ref1_Cost [.sl true []]) = some (.ds [.agg [.int .i64 0, .int .i64 0, .sl true []], .bool false]) := run_of (n := 4000) (by kernel_rfl)
set_option maxRecDepth 100000 in
theorem cost_way : run kp (.data f_ref1_Cost [.sl false [.agg [.int .i64 1, .int .i64 0, .int .i64 0, .int .i64 99], .agg [.int .i64 0, .int .i64 0, .int .i64 0, .int .i64 0]]]) = some (.ds [.agg [.int .i64 2, .int .i64 2, .sl true []], .bool true]) := run_of (n := 4000) (by kernel_rfl)
set_option maxRecDepth 100000 in
theorem cost_end : run kp (.data f_ref1_Cost [.sl false [.agg [.int .i64 0, .int .i64 0, .int .i64 0, .int .i64 0]]]) = some (.ds [.agg [.int .i64 1, .int .i64 1, .sl true []], .bool true]) := run_of (n := 4000) (by kernel_rfl)
theorem made_code {L : List D} {n lk : Int} (hlk : lk ≤ 4) (ho : NumOk L n) : ∃ R, codeL L n lk = R ++ [endI] ∧ Made R := by
  have o := codeRow_ok lk hlk ((valN L n 4).toNat + 1) (nextN L n) [] (nextN_ok ho) ⟨fun i hi => by simp at hi, fun j i hj => by simp at hj⟩
  have pr := codeRow_pr0 lk (nextN_ok ho) ((valN L n 4).toNat + 1)
  have len := codeRow_len L lk ((valN L n 4).toNat + 1) (nextN L n) [] (by simp)
  exact ⟨_, rfl, pr, len, o⟩
theorem hits_ok {hn : Bool} {H : List D} (h : ∀ y ∈ H, ∃ v, y = .int .u8 v ∧ 0 ≤ v ∧ v < 256) : ∀ x ∈ H, ∃ v, x = .int .u8 v ∧ 0 ≤ v ∧ v < 256 := h
theorem mx_le {R : List Inst} (h : Made R) : (allOf (R ++ [endI])).2.1 ≤ 1000 := by
  have key : ∀ (l : List Inst) (T : List Int) (all mx pc : Int), (∀ t ∈ T, 1 ≤ t ∧ t ≤ 20) → 0 ≤ pc → 0 ≤ mx → (cstF l T (all, mx, pc)).2.1 ≤ mx + pc + 20 * T.length := by
    intro l
    induction l with
    | nil => intro T all mx pc _ _ _; cases T <;> simp [cstF] <;> omega
    | cons x l ih =>
      intro T all mx pc hT h1 h2
      cases T with
      | nil => simp [cstF]; omega
      | cons t T =>
        have ht := hT t List.mem_cons_self
        simp only [cstF, List.length_cons]
        split
        · have := ih T (all + t) (if mx < pc + t then pc + t else mx) 0 (fun y hy => hT y (List.mem_cons_of_mem _ hy)) (by omega) (by split <;> omega)
          have e : (if mx < pc + t then pc + t else mx) ≤ mx + pc + t := by split <;> omega
          omega
        · have := ih T (all + t) mx (pc + t) (fun y hy => hT y (List.mem_cons_of_mem _ hy)) (by omega) h2
          omega
  have hc := h.costFit
  have := key (R ++ [endI]) (tmsF (R ++ [endI]) (areasF (R ++ [endI]) 0) (R ++ [endI]).length 0) 0 0 0 hc.tms (by omega) (by omega)
  have hl := hc.len
  rw [tmsF_len] at this
  unfold allOf
  omega
def j00 (inn : Int) : Jb := ⟨0, 0, inn, 0, newM inn, newM inn, true, [], false⟩
theorem inv0 (t : Tsk) (inn : Int) (hin : i64b inn) {R : List Inst} (hR : Made R) (hm : t.main.l = R ++ [endI]) (lost v : Int) (hv : EndsAt (R ++ [endI]) (er (newM inn)) v) : JInv t 0 (R ++ [endI]) (allOf (R ++ [endI])).2.1.toNat v (allOf (R ++ [endI])).1 lost (j00 inn) 0 0 := by
  obtain ⟨h1, h2, tr⟩ := made_tr hR (er (newM inn)) rfl rfl rfl
  have nf := newM_fit inn hin
  exact ⟨⟨nf, nf, fun _ => rfl, by simp [j00]⟩, rfl, ⟨_, 0, _, tr, tr, by omega, by simp; omega⟩, hv, hv⟩
set_option maxRecDepth 10000 in
set_option maxHeartbeats 32000000 in
theorem jlo_n (P : List D) (pn : Bool) (hP : NumOk P 0) (hp : P.length ≤ 150) (inn : Int) (hin : i64b inn) (hn : Bool) (H : List D) (hH : ∀ y ∈ H, ∃ v, y = .int .u8 v ∧ 0 ≤ v ∧ v < 256) (hlen : H.length ≤ 20)
    (per stop : Int) (m o : List Inst) (n' : Int) (k1 : KeepN P 0 n') (tok : (⟨per, stop, m, none, o⟩ : Tk).Ok) (em : m = codeL P 0 3)
    (tk : ∀ (tl : Nat → Option Blk) (b h : Nat), tl h = some (.box (.d (.agg [.sl pn P, .int .i64 0]))) → h < b → run kp (.call f_play_Picks_Task [.ptr h [], .int .i64 1, .int .i64 3] tl b) = some (.val (tkV b 1 ⟨per, stop, m, none, o⟩) (wr pn P 0 h n' ++ tkH b ⟨per, stop, m, none, o⟩) (b + tkN ⟨per, stop, m, none, o⟩))) :
    ∃ u k, run kp (.call f_law19_JobLost [.d (.sl pn P), .int .i64 inn, .d (.sl hn H)] (fun _ => none) 0) = some (.val (.bool true) u k) := by
  have g1 : ¬ (150 : Int) < P.length := by omega
  have g2 : ¬ (20 : Int) < H.length := by omega
  have T := tskOf_ok 1 _ tok
  obtain ⟨R, eR, hR⟩ := made_code (L := P) (n := 0) (lk := 3) (by omega) hP
  have eM := em.trans eR
  obtain ⟨sp, lsp, co⟩ := ref1_Cost false (R ++ [endI]) hR.costFit
  obtain ⟨v, nv, hv, r1⟩ := ref1_Run false hR inn hin
  obtain ⟨a1, a2, _⟩ := made_tr hR (newM inn) rfl rfl rfl
  have a3 := allOf_le hR.costFit
  have a4 := mx_le hR
  have nj := job_New 0 0 inn
  have i0 := inv0 (tskOf 1 ⟨per, stop, m, none, o⟩) inn hin hR (by simp [tskOf, eM]) (allOf (R ++ [endI])).2.1 v hv
  obtain ⟨j', t', n1, s1, lp, ov, iv, l1, l2⟩ := jl_run inn hn H hH hlen _ T _ rfl (allOf (R ++ [endI])).1 (allOf (R ++ [endI])).2.1 ⟨by omega, a3⟩ sp 0 0 (allOf (R ++ [endI])).2.1 ⟨by omega, by omega⟩ 0 _ _ v (by omega) (by simp [codeOf, tskOf, eM]) (by simp [tskOf]) 30000 (j00 inn) 0 0 0 i0 (by omega) (by omega) (by omega)
  rw [jl_exit _ _ _ _ _ _ _ _ _ _ j' ov] at lp
  obtain ⟨e1, e2⟩ := iv.over ov
  have e3 := iv.ph
  have e4 := iv.tick
  have e5 := iv.fit.m.mem
  clear iv hv i0 T
  subst eM
  generalize (allOf (R ++ [endI])).2.1 = mx at *
  generalize (allOf (R ++ [endI])).1 = all at *
  generalize hLL : R ++ [endI] = L at *
  obtain ⟨task, at_, inn', ph, ⟨pc, mem, rn, reps, over⟩, k, hn', held, up⟩ := j'
  simp only at ov e1 e2 e3 e5
  subst ov e2 e3
  have ml := e5.1
  cases mem with
  | nil => simp at ml
  | cons x mem =>
  simp only [mem0, List.headD_cons] at e1
  subst e1
  have pl : (n1 : Int) * mx ≤ 20 * 1000 ∧ 0 ≤ (n1 : Int) * mx := by
    constructor
    · exact Int.mul_le_mul (by omega) (by omega) (by omega) (by omega)
    · exact Int.mul_nonneg (by omega) (by omega)
  generalize hpp : (n1 : Int) * mx = pr at *
  have w1 : IntKind.i64.wrap pr = pr := wrap_i64 (by omega) (by omega)
  have w2 : IntKind.i64.wrap (all + pr) = all + pr := wrap_i64 (by omega) (by omega)
  have c0 : ¬ all < 0 := by omega
  simp only [jl, KL, j00, newM, spB', Jb.d, Mc.d, mD, tskOf, Tsk.d, Row.d, List.append_nil, List.nil_append, List.cons_append, List.map_cons, List.map_nil, List.length_nil, Int.cast_ofNat_Int] at nj lp
  rw [run_call, kp_law19_JobLost]
  cases sp with
  | nil =>
    simp only [spB', spH', spN, spD, List.nil_append, List.cons_append, Nat.add_zero, Nat.reduceAdd] at lp co
    cases o with
    | nil =>
      simp only [List.map_nil] at lp
      simp [k_law19_JobLost, canK_canH, job_begun, g1, g2, made_call, tk, tkV, tkH, tkN, wV, wH, wN, aV, aH, aN, wr_in, hputs_append, k1, nj, lp, co, r1, cost_none, hpp, w1, w2, c0, e4]
    | cons y o =>
      simp only [List.map_cons] at lp
      simp [k_law19_JobLost, canK_canH, job_begun, g1, g2, made_call, tk, tkV, tkH, tkN, wV, wH, wN, aV, aH, aN, wr_in, hputs_append, k1, nj, lp, co, r1, cost_none, hpp, w1, w2, c0, e4]
  | cons a sp =>
    simp only [spB', spH', spN, spD, List.nil_append, List.cons_append, Nat.add_zero, Nat.reduceAdd] at lp co
    cases o with
    | nil =>
      simp only [List.map_nil] at lp
      simp [k_law19_JobLost, canK_canH, job_begun, g1, g2, made_call, tk, tkV, tkH, tkN, wV, wH, wN, aV, aH, aN, wr_in, hputs_append, k1, nj, lp, co, r1, cost_none, hpp, w1, w2, c0, e4]
    | cons y o =>
      simp only [List.map_cons] at lp
      simp [k_law19_JobLost, canK_canH, job_begun, g1, g2, made_call, tk, tkV, tkH, tkN, wV, wH, wN, aV, aH, aN, wr_in, hputs_append, k1, nj, lp, co, r1, cost_none, hpp, w1, w2, c0, e4]
set_option maxRecDepth 10000 in
set_option maxHeartbeats 32000000 in
theorem jlo_a (P : List D) (pn : Bool) (hP : NumOk P 0) (hp : P.length ≤ 150) (inn : Int) (hin : i64b inn) (hn : Bool) (H : List D) (hH : ∀ y ∈ H, ∃ v, y = .int .u8 v ∧ 0 ≤ v ∧ v < 256) (hlen : H.length ≤ 20)
    (per stop : Int) (m o : List Inst) (n' : Int) (k1 : KeepN P 0 n') (tok : (⟨per, stop, m, some 0, o⟩ : Tk).Ok) (em : m = codeL P 0 3)
    (tk : ∀ (tl : Nat → Option Blk) (b h : Nat), tl h = some (.box (.d (.agg [.sl pn P, .int .i64 0]))) → h < b → run kp (.call f_play_Picks_Task [.ptr h [], .int .i64 1, .int .i64 3] tl b) = some (.val (tkV b 1 ⟨per, stop, m, some 0, o⟩) (wr pn P 0 h n' ++ tkH b ⟨per, stop, m, some 0, o⟩) (b + tkN ⟨per, stop, m, some 0, o⟩))) :
    ∃ u k, run kp (.call f_law19_JobLost [.d (.sl pn P), .int .i64 inn, .d (.sl hn H)] (fun _ => none) 0) = some (.val (.bool true) u k) := by
  have g1 : ¬ (150 : Int) < P.length := by omega
  have g2 : ¬ (20 : Int) < H.length := by omega
  have T := tskOf_ok 1 _ tok
  obtain ⟨R, eR, hR⟩ := made_code (L := P) (n := 0) (lk := 3) (by omega) hP
  have eM := em.trans eR
  obtain ⟨sp, lsp, co⟩ := ref1_Cost false (R ++ [endI]) hR.costFit
  obtain ⟨v, nv, hv, r1⟩ := ref1_Run false hR inn hin
  obtain ⟨a1, a2, _⟩ := made_tr hR (newM inn) rfl rfl rfl
  have a3 := allOf_le hR.costFit
  have a4 := mx_le hR
  have nj := job_New 0 0 inn
  obtain ⟨vw, nw, hvw, r2⟩ := ref1_Run false made_way inn hin
  have tw : Tr (tskOf 1 ⟨per, stop, m, some 0, o⟩).way.l 2 2 2 (er (newM inn)) [] ∨ True := .inr trivial
  have hw : Tr (tskOf 1 ⟨per, stop, m, some 0, o⟩).way.l ((2 : Int)).toNat ((2 : Int)).toNat ((2 : Int)).toNat (er (newM inn)) [] := by
    obtain ⟨_, _, t⟩ := made_tr made_way (er (newM inn)) rfl rfl rfl
    rw [all_way] at t
    exact t
  have i0 := inv0 (tskOf 1 ⟨per, stop, m, some 0, o⟩) inn hin hR (by simp [tskOf, eM]) 2 v hv
  obtain ⟨j', t', n1, s1, lp, ov, l2, iv⟩ := jl_way inn hn H hH hlen _ T _ rfl (allOf (R ++ [endI])).1 (allOf (R ++ [endI])).2.1 ⟨by omega, a3⟩ sp 2 2 2 ⟨by omega, by omega⟩ hin _ _ v (by simp [tskOf, eM]) (by simp [tskOf]) vw hw (by simpa [tskOf] using hvw) 20000 (j00 inn) 0 0 i0 rfl (by omega) (by omega)
  rw [jl_exit _ _ _ _ _ _ _ _ _ _ j' ov] at lp
  subst eM
  have c2 : (allOf (R ++ [endI])).1 < 2 ∨ ¬ (allOf (R ++ [endI])).1 < 2 := by omega
  have fin : mem0 j'.m = (if n1 = 0 then v else vw) ∧ j'.held = [] ∧ j'.phase = (if n1 = 0 then 0 else 1) ∧ (t' : Int) ≤ (allOf (R ++ [endI])).1 + n1 * 2 ∧ memOk j'.m.mem := by
    rcases iv with ⟨rfl, iv⟩ | ⟨h0, iv⟩
    · obtain ⟨e1, e2⟩ := iv.over ov
      exact ⟨by simpa using e1, e2, by simpa using iv.ph, iv.tick, iv.fit.m.mem⟩
    · obtain ⟨e1, e2⟩ := iv.over ov
      have : ¬ n1 = 0 := by omega
      exact ⟨by simpa [this] using e1, e2, by simpa [this] using iv.ph, iv.tick, iv.fit.m.mem⟩
  clear iv hv hvw i0 T tw hw
  obtain ⟨e1, e2, e3, e4, e5⟩ := fin
  generalize (allOf (R ++ [endI])).2.1 = mx at *
  generalize (allOf (R ++ [endI])).1 = all at *
  generalize hLL : R ++ [endI] = L at *
  obtain ⟨task, at_, inn', ph, ⟨pc, mem, rn, reps, over⟩, k, hn', held, up⟩ := j'
  simp only at ov e1 e2 e3 e5
  subst ov e2
  have ml := e5.1
  cases mem with
  | nil => simp at ml
  | cons x mem =>
  simp only [mem0, List.headD_cons] at e1
  have w1 : IntKind.i64.wrap ((n1 : Int) * 2) = (n1 : Int) * 2 := wrap_i64 (by omega) (by omega)
  have w2 : IntKind.i64.wrap (all + (n1 : Int) * 2) = all + (n1 : Int) * 2 := wrap_i64 (by omega) (by omega)
  simp only [jl, KL, j00, newM, spB', Jb.d, Mc.d, mD, tskOf, Tsk.d, Row.d, List.append_nil, List.nil_append, List.cons_append, List.map_cons, List.map_nil, List.length_nil, Int.cast_ofNat_Int, List.drop, wayI, endI, Inst.d] at nj lp
  simp only [List.nil_append, List.cons_append, List.map_cons, List.map_nil, Inst.d, wayI, endI] at r2
  rw [run_call, kp_law19_JobLost]
  by_cases z : n1 = 0
  · subst z
    simp only [if_true] at e1 e3
    subst e1 e3
    simp only [Int.natCast_zero, Int.zero_mul, Int.add_zero, Int.cast_ofNat_Int] at w1 w2 e4 lp
    cases sp with
    | nil =>
      simp only [spB', spH', spN, spD, List.nil_append, List.cons_append, Nat.add_zero, Nat.reduceAdd] at lp co
      cases o with
      | nil =>
        simp only [List.map_nil] at lp
        rcases c2 with c2 | c2 <;> simp [k_law19_JobLost, canK_canH, job_begun, g1, g2, made_call, tk, tkV, tkH, tkN, wV, wH, wN, aV, aH, aN, wayI, endI, Inst.d, wr_in, hputs_append, k1, nj, lp, co, r1, r2, cost_way, w1, w2, c2, e4]
      | cons y o =>
        simp only [List.map_cons, Inst.d] at lp
        rcases c2 with c2 | c2 <;> simp [k_law19_JobLost, canK_canH, job_begun, g1, g2, made_call, tk, tkV, tkH, tkN, wV, wH, wN, aV, aH, aN, wayI, endI, Inst.d, wr_in, hputs_append, k1, nj, lp, co, r1, r2, cost_way, w1, w2, c2, e4]
    | cons a sp =>
      simp only [spB', spH', spN, spD, List.nil_append, List.cons_append, Nat.add_zero, Nat.reduceAdd] at lp co
      cases o with
      | nil =>
        simp only [List.map_nil] at lp
        rcases c2 with c2 | c2 <;> simp [k_law19_JobLost, canK_canH, job_begun, g1, g2, made_call, tk, tkV, tkH, tkN, wV, wH, wN, aV, aH, aN, wayI, endI, Inst.d, wr_in, hputs_append, k1, nj, lp, co, r1, r2, cost_way, w1, w2, c2, e4]
      | cons y o =>
        simp only [List.map_cons, Inst.d] at lp
        rcases c2 with c2 | c2 <;> simp [k_law19_JobLost, canK_canH, job_begun, g1, g2, made_call, tk, tkV, tkH, tkN, wV, wH, wN, aV, aH, aN, wayI, endI, Inst.d, wr_in, hputs_append, k1, nj, lp, co, r1, r2, cost_way, w1, w2, c2, e4]
  · have z1 : (0 : Int) < (n1 : Int) := by omega
    have z2 : 0 < n1 := by omega
    simp only [z, if_false] at e1 e3
    subst e1 e3
    cases sp with
    | nil =>
      simp only [spB', spH', spN, spD, List.nil_append, List.cons_append, Nat.add_zero, Nat.reduceAdd] at lp co
      cases o with
      | nil =>
        simp only [List.map_nil] at lp
        rcases c2 with c2 | c2 <;> simp [k_law19_JobLost, canK_canH, job_begun, g1, g2, made_call, tk, tkV, tkH, tkN, wV, wH, wN, aV, aH, aN, wayI, endI, Inst.d, wr_in, hputs_append, k1, nj, lp, co, r1, r2, cost_way, w1, w2, c2, e4, z, z1, z2]
      | cons y o =>
        simp only [List.map_cons, Inst.d] at lp
        rcases c2 with c2 | c2 <;> simp [k_law19_JobLost, canK_canH, job_begun, g1, g2, made_call, tk, tkV, tkH, tkN, wV, wH, wN, aV, aH, aN, wayI, endI, Inst.d, wr_in, hputs_append, k1, nj, lp, co, r1, r2, cost_way, w1, w2, c2, e4, z, z1, z2]
    | cons a sp =>
      simp only [spB', spH', spN, spD, List.nil_append, List.cons_append, Nat.add_zero, Nat.reduceAdd] at lp co
      cases o with
      | nil =>
        simp only [List.map_nil] at lp
        rcases c2 with c2 | c2 <;> simp [k_law19_JobLost, canK_canH, job_begun, g1, g2, made_call, tk, tkV, tkH, tkN, wV, wH, wN, aV, aH, aN, wayI, endI, Inst.d, wr_in, hputs_append, k1, nj, lp, co, r1, r2, cost_way, w1, w2, c2, e4, z, z1, z2]
      | cons y o =>
        simp only [List.map_cons, Inst.d] at lp
        rcases c2 with c2 | c2 <;> simp [k_law19_JobLost, canK_canH, job_begun, g1, g2, made_call, tk, tkV, tkH, tkN, wV, wH, wN, aV, aH, aN, wayI, endI, Inst.d, wr_in, hputs_append, k1, nj, lp, co, r1, r2, cost_way, w1, w2, c2, e4, z, z1, z2]
set_option maxRecDepth 10000 in
set_option maxHeartbeats 32000000 in
theorem jlo_b (P : List D) (pn : Bool) (hP : NumOk P 0) (hp : P.length ≤ 150) (inn : Int) (hin : i64b inn) (hn : Bool) (H : List D) (hH : ∀ y ∈ H, ∃ v, y = .int .u8 v ∧ 0 ≤ v ∧ v < 256) (hlen : H.length ≤ 20)
    (per stop : Int) (m o : List Inst) (n' : Int) (k1 : KeepN P 0 n') (tok : (⟨per, stop, m, some 1, o⟩ : Tk).Ok) (em : m = codeL P 0 3)
    (tk : ∀ (tl : Nat → Option Blk) (b h : Nat), tl h = some (.box (.d (.agg [.sl pn P, .int .i64 0]))) → h < b → run kp (.call f_play_Picks_Task [.ptr h [], .int .i64 1, .int .i64 3] tl b) = some (.val (tkV b 1 ⟨per, stop, m, some 1, o⟩) (wr pn P 0 h n' ++ tkH b ⟨per, stop, m, some 1, o⟩) (b + tkN ⟨per, stop, m, some 1, o⟩))) :
    ∃ u k, run kp (.call f_law19_JobLost [.d (.sl pn P), .int .i64 inn, .d (.sl hn H)] (fun _ => none) 0) = some (.val (.bool true) u k) := by
  have g1 : ¬ (150 : Int) < P.length := by omega
  have g2 : ¬ (20 : Int) < H.length := by omega
  have T := tskOf_ok 1 _ tok
  obtain ⟨R, eR, hR⟩ := made_code (L := P) (n := 0) (lk := 3) (by omega) hP
  have eM := em.trans eR
  obtain ⟨sp, lsp, co⟩ := ref1_Cost false (R ++ [endI]) hR.costFit
  obtain ⟨v, nv, hv, r1⟩ := ref1_Run false hR inn hin
  obtain ⟨a1, a2, _⟩ := made_tr hR (newM inn) rfl rfl rfl
  have a3 := allOf_le hR.costFit
  have a4 := mx_le hR
  have nj := job_New 0 0 inn
  obtain ⟨vw, nw, hvw, r2⟩ := ref1_Run false made_nil inn hin
  have tw : Tr (tskOf 1 ⟨per, stop, m, some 1, o⟩).way.l 2 2 2 (er (newM inn)) [] ∨ True := .inr trivial
  have hw : Tr (tskOf 1 ⟨per, stop, m, some 1, o⟩).way.l ((1 : Int)).toNat ((1 : Int)).toNat ((1 : Int)).toNat (er (newM inn)) [] := by
    obtain ⟨_, _, t⟩ := made_tr made_nil (er (newM inn)) rfl rfl rfl
    rw [all_nil] at t
    exact t
  have i0 := inv0 (tskOf 1 ⟨per, stop, m, some 1, o⟩) inn hin hR (by simp [tskOf, eM]) 1 v hv
  obtain ⟨j', t', n1, s1, lp, ov, l2, iv⟩ := jl_way inn hn H hH hlen _ T _ rfl (allOf (R ++ [endI])).1 (allOf (R ++ [endI])).2.1 ⟨by omega, a3⟩ sp 1 1 1 ⟨by omega, by omega⟩ hin _ _ v (by simp [tskOf, eM]) (by simp [tskOf]) vw hw (by simpa [tskOf] using hvw) 20000 (j00 inn) 0 0 i0 rfl (by omega) (by omega)
  rw [jl_exit _ _ _ _ _ _ _ _ _ _ j' ov] at lp
  subst eM
  have c2 : (allOf (R ++ [endI])).1 < 1 ∨ ¬ (allOf (R ++ [endI])).1 < 1 := by omega
  have fin : mem0 j'.m = (if n1 = 0 then v else vw) ∧ j'.held = [] ∧ j'.phase = (if n1 = 0 then 0 else 1) ∧ (t' : Int) ≤ (allOf (R ++ [endI])).1 + n1 * 1 ∧ memOk j'.m.mem := by
    rcases iv with ⟨rfl, iv⟩ | ⟨h0, iv⟩
    · obtain ⟨e1, e2⟩ := iv.over ov
      exact ⟨by simpa using e1, e2, by simpa using iv.ph, iv.tick, iv.fit.m.mem⟩
    · obtain ⟨e1, e2⟩ := iv.over ov
      have : ¬ n1 = 0 := by omega
      exact ⟨by simpa [this] using e1, e2, by simpa [this] using iv.ph, iv.tick, iv.fit.m.mem⟩
  clear iv hv hvw i0 T tw hw
  obtain ⟨e1, e2, e3, e4, e5⟩ := fin
  generalize (allOf (R ++ [endI])).2.1 = mx at *
  generalize (allOf (R ++ [endI])).1 = all at *
  generalize hLL : R ++ [endI] = L at *
  obtain ⟨task, at_, inn', ph, ⟨pc, mem, rn, reps, over⟩, k, hn', held, up⟩ := j'
  simp only at ov e1 e2 e3 e5
  subst ov e2
  have ml := e5.1
  cases mem with
  | nil => simp at ml
  | cons x mem =>
  simp only [mem0, List.headD_cons] at e1
  have e4 : (t' : Int) ≤ all + n1 := by omega
  have w1 : IntKind.i64.wrap (n1 : Int) = (n1 : Int) := wrap_i64 (by omega) (by omega)
  have w2 : IntKind.i64.wrap (all + (n1 : Int)) = all + (n1 : Int) := wrap_i64 (by omega) (by omega)
  simp only [jl, KL, j00, newM, spB', Jb.d, Mc.d, mD, tskOf, Tsk.d, Row.d, List.append_nil, List.nil_append, List.cons_append, List.map_cons, List.map_nil, List.length_nil, Int.cast_ofNat_Int, List.drop, wayI, endI, Inst.d] at nj lp
  simp only [List.nil_append, List.cons_append, List.map_cons, List.map_nil, Inst.d, wayI, endI] at r2
  rw [run_call, kp_law19_JobLost]
  by_cases z : n1 = 0
  · subst z
    simp only [if_true] at e1 e3
    subst e1 e3
    simp only [Int.natCast_zero, Int.zero_mul, Int.add_zero, Int.cast_ofNat_Int] at w1 w2 e4 lp
    cases sp with
    | nil =>
      simp only [spB', spH', spN, spD, List.nil_append, List.cons_append, Nat.add_zero, Nat.reduceAdd] at lp co
      cases o with
      | nil =>
        simp only [List.map_nil] at lp
        rcases c2 with c2 | c2 <;> simp [k_law19_JobLost, canK_canH, job_begun, g1, g2, made_call, tk, tkV, tkH, tkN, wV, wH, wN, aV, aH, aN, wayI, endI, Inst.d, wr_in, hputs_append, k1, nj, lp, co, r1, r2, cost_end, w1, w2, c2, e4]
      | cons y o =>
        simp only [List.map_cons, Inst.d] at lp
        rcases c2 with c2 | c2 <;> simp [k_law19_JobLost, canK_canH, job_begun, g1, g2, made_call, tk, tkV, tkH, tkN, wV, wH, wN, aV, aH, aN, wayI, endI, Inst.d, wr_in, hputs_append, k1, nj, lp, co, r1, r2, cost_end, w1, w2, c2, e4]
    | cons a sp =>
      simp only [spB', spH', spN, spD, List.nil_append, List.cons_append, Nat.add_zero, Nat.reduceAdd] at lp co
      cases o with
      | nil =>
        simp only [List.map_nil] at lp
        rcases c2 with c2 | c2 <;> simp [k_law19_JobLost, canK_canH, job_begun, g1, g2, made_call, tk, tkV, tkH, tkN, wV, wH, wN, aV, aH, aN, wayI, endI, Inst.d, wr_in, hputs_append, k1, nj, lp, co, r1, r2, cost_end, w1, w2, c2, e4]
      | cons y o =>
        simp only [List.map_cons, Inst.d] at lp
        rcases c2 with c2 | c2 <;> simp [k_law19_JobLost, canK_canH, job_begun, g1, g2, made_call, tk, tkV, tkH, tkN, wV, wH, wN, aV, aH, aN, wayI, endI, Inst.d, wr_in, hputs_append, k1, nj, lp, co, r1, r2, cost_end, w1, w2, c2, e4]
  · have z1 : (0 : Int) < (n1 : Int) := by omega
    have z2 : 0 < n1 := by omega
    simp only [z, if_false] at e1 e3
    subst e1 e3
    cases sp with
    | nil =>
      simp only [spB', spH', spN, spD, List.nil_append, List.cons_append, Nat.add_zero, Nat.reduceAdd] at lp co
      cases o with
      | nil =>
        simp only [List.map_nil] at lp
        rcases c2 with c2 | c2 <;> simp [k_law19_JobLost, canK_canH, job_begun, g1, g2, made_call, tk, tkV, tkH, tkN, wV, wH, wN, aV, aH, aN, wayI, endI, Inst.d, wr_in, hputs_append, k1, nj, lp, co, r1, r2, cost_end, w1, w2, c2, e4, z, z1, z2]
      | cons y o =>
        simp only [List.map_cons, Inst.d] at lp
        rcases c2 with c2 | c2 <;> simp [k_law19_JobLost, canK_canH, job_begun, g1, g2, made_call, tk, tkV, tkH, tkN, wV, wH, wN, aV, aH, aN, wayI, endI, Inst.d, wr_in, hputs_append, k1, nj, lp, co, r1, r2, cost_end, w1, w2, c2, e4, z, z1, z2]
    | cons a sp =>
      simp only [spB', spH', spN, spD, List.nil_append, List.cons_append, Nat.add_zero, Nat.reduceAdd] at lp co
      cases o with
      | nil =>
        simp only [List.map_nil] at lp
        rcases c2 with c2 | c2 <;> simp [k_law19_JobLost, canK_canH, job_begun, g1, g2, made_call, tk, tkV, tkH, tkN, wV, wH, wN, aV, aH, aN, wayI, endI, Inst.d, wr_in, hputs_append, k1, nj, lp, co, r1, r2, cost_end, w1, w2, c2, e4, z, z1, z2]
      | cons y o =>
        simp only [List.map_cons, Inst.d] at lp
        rcases c2 with c2 | c2 <;> simp [k_law19_JobLost, canK_canH, job_begun, g1, g2, made_call, tk, tkV, tkH, tkN, wV, wH, wN, aV, aH, aN, wayI, endI, Inst.d, wr_in, hputs_append, k1, nj, lp, co, r1, r2, cost_end, w1, w2, c2, e4, z, z1, z2]
set_option maxRecDepth 10000 in
set_option maxHeartbeats 8000000 in
theorem law2_JobLost (xs : List D) (h : Sh.hasL [.sl (.i .u8), .i .i64, .sl (.i .u8)] xs) : ∃ u k, run kp (.call f_law19_JobLost (xs.map ofD) (fun _ => none) 0) = some (.val (.bool true) u k) := by
  obtain ⟨x1, _, rfl, h1, h⟩ := hasL_cons h
  obtain ⟨x2, _, rfl, h2, h⟩ := hasL_cons h
  obtain ⟨x3, _, rfl, h3, h⟩ := hasL_cons h
  obtain rfl := hasL_nil h
  obtain ⟨pn, P, rfl, p1, p2⟩ := has_picks h1
  obtain ⟨inn, rfl, k2⟩ := has_int h2
  obtain ⟨hn, H, rfl, p3, p4⟩ := has_picks h3
  by_cases g : P.length ≤ 150
  · by_cases g' : H.length ≤ 20
    · have hP : NumOk P 0 := ⟨by omega, by omega, by omega, p2⟩
      obtain ⟨⟨per, stop, m, w, o⟩, n', ho, k1, tok, tk, em⟩ := task_ex2 pn P 0 1 3 hP (by omega)
      cases w with
      | none => exact jlo_n P pn hP g inn (wf_i64' k2) hn H p4 g' per stop m o n' k1 tok em tk
      | some q =>
        have hq := tok.w1 q rfl
        rcases (by omega : q = 0 ∨ q = 1) with hq | hq
        · subst hq
          exact jlo_a P pn hP g inn (wf_i64' k2) hn H p4 g' per stop m o n' k1 tok em tk
        · subst hq
          exact jlo_b P pn hP g inn (wf_i64' k2) hn H p4 g' per stop m o n' k1 tok em tk
    · refine ⟨[], 0, ?_⟩
      have g1 : ¬ (150 : Int) < P.length := by omega
      have g2 : (20 : Int) < H.length := by omega
      rw [List.map_cons, run_call, kp_law19_JobLost]
      simp [k_law19_JobLost, canK_canH, job_begun, g1, g2]
  · refine ⟨[], 0, ?_⟩
    have g1 : (150 : Int) < P.length := by omega
    rw [List.map_cons, run_call, kp_law19_JobLost]
    simp [k_law19_JobLost, canK_canH, job_begun, g1]
end Go.Cd
