/- What the document says a program comes to. No conditions. -/
import Derived.Test.YtgjeondicdipaaaR9QCsF
import Derived.Test.YtgjeondicdipaaaR9QJobK
set_option linter.unusedVariables false
set_option linter.unusedSimpArgs false
namespace Go.Cd
open Go Go.Fw
/-- What a machine comes to. -/
inductive EndsAt (l : List Inst) : Mc → Int → Prop
  | done {m : Mc} : m.over = true → EndsAt l m (mem0 m)
  | step {m : Mc} {i : Inst} {v : Int} : CanGo l m i → EndsAt l (nextM m i false) v → EndsAt l m v
theorem CanGo.same {l : List Inst} {m m' : Mc} {i : Inst} (h : CanGo l m i) (e1 : m'.pc = m.pc) (e2 : m'.over = m.over) : CanGo l m' i :=
  ⟨by rw [e2]; exact h.on, by rw [e1]; exact h.lo, by rw [e1]; exact h.hi, by rw [e1]; exact h.get, h.may⟩
theorem CanGo.uniq {l : List Inst} {m : Mc} {i j : Inst} (h : CanGo l m i) (k : CanGo l m j) : i = j := by
  have := h.get; rw [k.get] at this; injection this with this; exact this.symm
theorem er_next (m : Mc) (i : Inst) (rn : Bool) : er (nextM m i rn) = nextM (er m) i false := rfl
theorem er_er (m : Mc) : er (er m) = er m := rfl
theorem EndsAt.over {l : List Inst} {m : Mc} {v : Int} (h : EndsAt l m v) (ho : m.over = true) : v = mem0 m := by
  cases h with
  | done _ => rfl
  | step hc _ => have := hc.on; rw [ho] at this; cases this
theorem EndsAt.next {l : List Inst} {m : Mc} {v : Int} {i : Inst} (h : EndsAt l m v) (hc : CanGo l m i) : EndsAt l (nextM m i false) v := by
  cases h with
  | done ho => have := hc.on; rw [ho] at this; cases this
  | step hc' h' => rw [hc.uniq hc']; exact h'
theorem Tr.ends {l : List Inst} {P k p : Nat} {m : Mc} {h : List Int} (t : Tr l P k p m h) : ∃ v, EndsAt l m v := by
  induction t with
  | done h1 => exact ⟨_, .done h1⟩
  | step h1 _ _ _ ih => obtain ⟨v, hv⟩ := ih; exact ⟨v, .step h1 hv⟩
  | mark h1 _ _ ih => obtain ⟨v, hv⟩ := ih; exact ⟨v, .step h1 hv⟩
def mB (h : Nat) (m : Mc) : V := match m.rn with
  | true => .d m.d
  | false => .agg [.int .i64 m.pc, .d (.agg (m.mem.map (.int .i64))), .sl false h 0 m.reps.length, .bool m.over]
def mH (h : Nat) (m : Mc) : Hp := match m.rn with
  | true => []
  | false => [(h, .row true (m.reps.map Rep.d))]
def mN (m : Mc) : Nat := match m.rn with
  | true => 0
  | false => 1
def spB' (h : Nat) (all mx : Int) : List D → V
  | [] => .d (.agg [.int .i64 all, .int .i64 mx, .sl true []])
  | a :: l => .agg [.int .i64 all, .int .i64 mx, .sl false h 0 (l.length + 1)]
def spH' (h : Nat) : List D → Hp
  | [] => []
  | a :: l => [(h, .row true (a :: l))]
def rSt (nl : Bool) (L : List Inst) (all mx : Int) (sp : List D) (m : Mc) (n : Nat) (ex : List (Nat × V)) : St :=
  { env := [(0, .asl nl (L.map Inst.d)), (7, .ptr 0 []), (9, .ptr (1 + spN sp) []), (10, .int .i64 (n : Int))] ++ ex, hp := (0, .box (spB' 1 all mx sp)) :: (spH' 1 sp ++ (1 + spN sp, .box (mB (2 + spN sp) m)) :: mH (2 + spN sp) m), tl := fun _ => none, base := 0, next := 2 + spN sp + mN m }
theorem take_Rep (l : List Rep) : List.take l.length (List.map Rep.d l) = List.map Rep.d l := List.take_of_length_le (by simp)
set_option maxRecDepth 10000 in
set_option maxHeartbeats 16000000 in
theorem rr_round (nl : Bool) (L : List Inst) (all mx : Int) (sp : List D) (m m' : Mc) (hr : m.rn = true → m.reps = []) (hr' : m'.rn = false) (ho : m.over = false) (n : Nat) (hn : (n : Int) ≤ all) (hn2 : n ≤ 100000) (i : Inst)
    (s : run kp (.data f_ref1_Step [.sl nl (L.map Inst.d), m.d]) = some (.ds [m'.d, i.d, .bool true])) :
    run kp (.loop [0, 7, 9, 10] k_ref1_Run_L0 (rSt nl L all mx sp m n [])) = run kp (.loop [0, 7, 9, 10] k_ref1_Run_L0 (rSt nl L all mx sp m' (n + 1) [])) := by
  have w : IntKind.i64.wrap ((n : Int) + 1) = ((n + 1 : Nat) : Int) := by rw [wrap_i64 (by omega) (by omega)]; omega
  obtain ⟨pc, mem, rn, reps, over⟩ := m
  obtain ⟨pc', mem', rn', reps', over'⟩ := m'
  simp only at hr hr' ho
  subst hr' ho
  generalize n + 1 = n' at *
  rw [run_round]
  have tr' := take_Rep reps
  cases rn with
  | true =>
    have := hr rfl; subst this
    simp only [Mc.d, mD, Inst.d, List.map_nil] at s
    cases sp <;> simp [c_ref1_Run_L0, k_ref1_Run_L0b, rSt, spB', spH', spN, mB, mH, mN, Mc.d, mD, hn, w, s]
  | false =>
    simp only [Mc.d, mD, Inst.d] at s
    cases sp <;> simp [c_ref1_Run_L0, k_ref1_Run_L0b, rSt, spB', spH', spN, mB, mH, mN, Mc.d, mD, hn, w, s, tr']
theorem rr_stop (nl : Bool) (L : List Inst) (all mx : Int) (sp : List D) (m : Mc) (ho : m.over = true) (n : Nat) :
    run kp (.loop [0, 7, 9, 10] k_ref1_Run_L0 (rSt nl L all mx sp m n [])) = some (.out (.ext 0) (rSt nl L all mx sp m n [(28, .bool false)])) := by
  obtain ⟨pc, mem, rn, reps, over⟩ := m
  simp only at ho
  subst ho
  rw [run_round]
  cases rn <;> cases sp <;> simp [c_ref1_Run_L0, k_ref1_Run_L0b, rSt, spB', spH', spN, mB, mH, mN, Mc.d, mD]
/-- A machine that is as it should be, and not too great. -/
structure McFit (n : Nat) (m : Mc) : Prop where
  mem : memOk m.mem
  rn : m.rn = true → m.reps = []
  len : m.reps.length ≤ n
  left : repsOk m.reps
theorem rr_loop (nl : Bool) (L : List Inst) (hL : L.length ≤ 24) (all mx : Int) (hall : all ≤ 10000) (sp : List D) {P k p : Nat} {e : Mc} {h : List Int} (t : Tr L P k p e h) : ∀ (m : Mc) (n : Nat), er m = e → McFit n m → (n : Int) + k ≤ all →
    ∃ m' n', run kp (.loop [0, 7, 9, 10] k_ref1_Run_L0 (rSt nl L all mx sp m n [])) = run kp (.loop [0, 7, 9, 10] k_ref1_Run_L0 (rSt nl L all mx sp m' n' [])) ∧ m'.over = true ∧ memOk m'.mem ∧ ∀ v, EndsAt L (er m) v → EndsAt L (er m') v := by
  have key : ∀ (k : Nat) (m : Mc) (n : Nat) (i : Inst), CanGo L (er m) i → McFit n m → (n : Int) + (k + 1 : Nat) ≤ all → ∃ m1, er m1 = nextM (er m) i false ∧ McFit (n + 1) m1 ∧ run kp (.loop [0, 7, 9, 10] k_ref1_Run_L0 (rSt nl L all mx sp m n [])) = run kp (.loop [0, 7, 9, 10] k_ref1_Run_L0 (rSt nl L all mx sp m1 (n + 1) [])) := by
    intro k m n i hc hf hn
    have hm : CanGo L m i := hc.same rfl rfl
    have hlen := hf.len
    obtain ⟨rn', x⟩ := step_ex L nl (by omega) m.pc m.mem hf.mem m.rn m.reps hf.rn (by omega) hf.left hm.lo hm.hi i hm.get hm.may
    have xl := x.len
    refine ⟨nextM m i false, rfl, ⟨x.okm, (fun e => by cases e), by simp only [nextM]; omega, x.left⟩, ?_⟩
    refine rr_round nl L all mx sp m (nextM m i false) hf.rn rfl hm.on n (by omega) (by omega) i ?_
    have r := x.rf
    rw [show mD m.pc m.mem m.rn m.reps false = m.d from by unfold Mc.d; rw [hm.on]] at r
    exact r
  induction t with
  | @done k p m0 h1 =>
    intro m n he hf hn
    subst he
    exact ⟨m, n, rfl, h1, hf.mem, fun v hv => hv⟩
  | @step k p m0 h i h1 h2 h3 _ ih =>
    intro m n he hf hn
    subst he
    obtain ⟨m1, e1, f1, q⟩ := key k m n i h1 hf hn
    obtain ⟨m', n', q', o, mo, ev⟩ := ih m1 (n + 1) e1 f1 (by omega)
    exact ⟨m', n', by rw [q, q'], o, mo, fun v hv => ev v (by rw [e1]; exact hv.next h1)⟩
  | @mark k p m0 i h1 h2 _ ih =>
    intro m n he hf hn
    subst he
    obtain ⟨m1, e1, f1, q⟩ := key k m n i h1 hf hn
    obtain ⟨m', n', q', o, mo, ev⟩ := ih m1 (n + 1) e1 f1 (by omega)
    exact ⟨m', n', by rw [q, q'], o, mo, fun v hv => ev v (by rw [e1]; exact hv.next h1)⟩
theorem newM_fit (x : Int) (hx : i64b x) : McFit 0 (newM x) :=
  ⟨⟨rfl, fun y hy => by
    simp [newM] at hy
    rcases hy with rfl | rfl
    · exact hx
    · unfold i64b; omega⟩, fun _ => rfl, by simp [newM], fun y hy => by simp [newM] at hy⟩
theorem allOf_le {L : List Inst} (h : CostFit L) : (allOf L).1 ≤ 1000 := by
  have key : ∀ (l : List Inst) (T : List Int) (all mx pc : Int), (∀ t ∈ T, 1 ≤ t ∧ t ≤ 20) → (cstF l T (all, mx, pc)).1 ≤ all + 20 * T.length := by
    intro l
    induction l with
    | nil => intro T all mx pc _; cases T <;> simp [cstF] <;> omega
    | cons x l ih =>
      intro T all mx pc hT
      cases T with
      | nil => simp [cstF]
      | cons t T =>
        have ht := hT t List.mem_cons_self
        simp only [cstF, List.length_cons]
        split
        · have := ih T (all + t) (if mx < pc + t then pc + t else mx) 0 (fun y hy => hT y (List.mem_cons_of_mem _ hy))
          omega
        · have := ih T (all + t) mx (pc + t) (fun y hy => hT y (List.mem_cons_of_mem _ hy))
          omega
  have := key L (tmsF L (areasF L 0) L.length 0) 0 0 0 h.tms
  have hl := h.len
  rw [tmsF_len] at this
  unfold allOf
  omega
set_option maxRecDepth 10000 in
set_option maxHeartbeats 16000000 in
theorem ref1_Run (nl : Bool) {R : List Inst} (h : Made R) (inn : Int) (hin : i64b inn) : ∃ v n, EndsAt (R ++ [endI]) (er (newM inn)) v ∧ run kp (.data f_ref1_Run [.sl nl ((R ++ [endI]).map Inst.d), .int .i64 inn]) = some (.ds [.int .i64 v, .int .i64 n, .bool true]) := by
  obtain ⟨h1, h2, t⟩ := made_tr h (newM inn) rfl rfl rfl
  have hl := allOf_le h.costFit
  obtain ⟨sp, ls, co⟩ := ref1_Cost nl (R ++ [endI]) h.costFit
  have t' : Tr (R ++ [endI]) (allOf (R ++ [endI])).2.1.toNat (allOf (R ++ [endI])).1.toNat (allOf (R ++ [endI])).2.1.toNat (er (newM inn)) [] := by
    obtain ⟨_, _, t⟩ := made_tr h (er (newM inn)) rfl rfl rfl
    exact t
  obtain ⟨v, hv⟩ := t'.ends
  have lenL : (R ++ [endI]).length ≤ 24 := by have := h.len; simp; omega
  obtain ⟨m', n', q, o, mo, ev⟩ := rr_loop nl (R ++ [endI]) lenL (allOf (R ++ [endI])).1 (allOf (R ++ [endI])).2.1 (by omega) sp t' (newM inn) 0 rfl (newM_fit inn hin) (by omega)
  refine ⟨v, n', hv, ?_⟩
  have ve := (ev v hv).over o
  rw [rr_stop nl _ _ _ sp m' o n'] at q
  clear ev hv t t' h1 h2 hl ls
  have nm := ref1_New inn
  simp only [mD, List.map_nil, List.map_cons] at nm
  generalize (allOf (R ++ [endI])).1 = all at *
  generalize (allOf (R ++ [endI])).2.1 = mx at *
  rw [run_data, run_call, kp_ref1_Run]
  obtain ⟨pc, mem, rn, reps, over⟩ := m'
  obtain ⟨x, hx, _⟩ := memOk_get mo 0 (by omega)
  have ml := mo.1
  cases mem with
  | nil => simp at hx
  | cons x' mem =>
    simp at hx; subst hx
    simp only [er, mem0, List.headD_cons] at ve
    subst ve
    generalize hLL : R ++ [endI] = L at *
    cases sp with
    | nil =>
      simp only [spD] at co
      cases rn <;>
      · simp only [rSt, spB', spH', spN, mB, mH, mN, newM, Mc.d, mD, List.append_nil, List.cons_append, List.nil_append, List.map_cons, List.map_nil, List.length_nil, Int.cast_ofNat_Int, Nat.add_zero, Nat.reduceAdd] at q
        simp [k_ref1_Run, co, nm, q]
    | cons a sp =>
      simp only [spD] at co
      cases rn <;>
      · simp only [rSt, spB', spH', spN, mB, mH, mN, newM, Mc.d, mD, List.append_nil, List.cons_append, List.nil_append, List.map_cons, List.map_nil, List.length_nil, Int.cast_ofNat_Int, Nat.add_zero, Nat.reduceAdd] at q
        simp [k_ref1_Run, co, nm, q]
end Go.Cd
