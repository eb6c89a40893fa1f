/- Steps that are the same, the program's and the document's. No conditions. -/
import Derived.Test.YtjoocolnbmpkkaaR7QPlI
import Derived.Test.YtjoocolnbmpkkaaR7QSame
set_option linter.unusedVariables false
set_option linter.unusedSimpArgs false
namespace Go.Cd
open Go Go.Fw
def equalSt (L K : List Inst) (n m : Bool) (i : Nat) (ex : List (Nat × V)) : St :=
  { env := [(0, .asl n (L.map Inst.d)), (1, .asl m (K.map Inst.d)), (12, .int .i64 L.length), (13, .int .i64 (i : Int))] ++ ex, hp := [], tl := fun _ => none, base := 0, next := 0 }
theorem equal_round (L K : List Inst) (n m : Bool) (hL : L.length ≤ 100000) (h : L.length = K.length) (i : Nat) (hi : i < L.length) :
    (L[i]? = K[i]? → run kp (.loop [0, 1, 12, 13] k_slices_Equal_api_Inst_api_Inst_L0 (equalSt L K n m i [])) = run kp (.loop [0, 1, 12, 13] k_slices_Equal_api_Inst_api_Inst_L0 (equalSt L K n m (i + 1) []))) ∧
    (L[i]? ≠ K[i]? → ∃ s, run kp (.loop [0, 1, 12, 13] k_slices_Equal_api_Inst_api_Inst_L0 (equalSt L K n m i [])) = some (.out .ret s) ∧ val s.env (.t 4) = .bool false ∧ s.base = 0) := by
  have w : IntKind.i64.wrap ((i : Int) + 1) = ((i + 1 : Nat) : Int) := by rw [wrap_i64 (by omega) (by omega)]; omega
  have p : (i : Int) < (L.length : Int) := by omega
  have hk : i < K.length := by omega
  obtain ⟨x, hx⟩ : ∃ x, L[i]? = some x := ⟨_, List.getElem?_eq_getElem hi⟩
  obtain ⟨y, hy⟩ : ∃ x, K[i]? = some x := ⟨_, List.getElem?_eq_getElem hk⟩
  have hx2 : ∀ hh : i < L.length, L[i] = x := fun hh => by rw [List.getElem?_eq_getElem hh] at hx; injection hx
  have hy2 : ∀ hh : i < K.length, K[i] = y := fun hh => by rw [List.getElem?_eq_getElem hh] at hy; injection hy
  have hi' : i < K.length ↔ True := by simp [hk]
  generalize i + 1 = i' at *
  rw [hx, hy]
  refine ⟨fun e => ?_, fun e => ?_⟩
  · injection e with e; subst e
    rw [run_round]
    simp [c_slices_Equal_api_Inst_api_Inst_L0, k_slices_Equal_api_Inst_api_Inst_L0b, equalSt, hi, hk, p, w, hx, hy, hx2, hy2, Inst.d]
  · have e2 : D.beqs [D.int .i64 x.op, .int .i64 x.a, .int .i64 x.b, .int .i64 x.n] [D.int .i64 y.op, .int .i64 y.a, .int .i64 y.b, .int .i64 y.n] = false := by
      cases hb : D.beqs [D.int .i64 x.op, .int .i64 x.a, .int .i64 x.b, .int .i64 x.n] [D.int .i64 y.op, .int .i64 y.a, .int .i64 y.b, .int .i64 y.n] with
      | false => rfl
      | true =>
        have := (D.beqs_iff _ _).1 hb
        exact absurd (congrArg some (d_inj (x := x) (y := y) (by unfold Inst.d; rw [this]))) e
    rw [run_round]
    simp [c_slices_Equal_api_Inst_api_Inst_L0, k_slices_Equal_api_Inst_api_Inst_L0b, equalSt, hi, hk, p, w, hx, hy, hx2, hy2, Inst.d, e2, -D.beqs, -D.beq]
theorem equal_loop (L K : List Inst) (n m : Bool) (hL : L.length ≤ 100000) (h : L.length = K.length) : ∀ (j i : Nat), i + j = L.length →
    (L.drop i = K.drop i → run kp (.loop [0, 1, 12, 13] k_slices_Equal_api_Inst_api_Inst_L0 (equalSt L K n m i [])) = some (.out (.ext 0) (equalSt L K n m L.length [(14, .bool false)]))) ∧
    (L.drop i ≠ K.drop i → ∃ s, run kp (.loop [0, 1, 12, 13] k_slices_Equal_api_Inst_api_Inst_L0 (equalSt L K n m i [])) = some (.out .ret s) ∧ val s.env (.t 4) = .bool false ∧ s.base = 0)
  | 0, i, hij => by
    obtain rfl : i = L.length := by omega
    refine ⟨fun _ => ?_, fun e => absurd ?_ e⟩
    · rw [run_round]
      simp [c_slices_Equal_api_Inst_api_Inst_L0, k_slices_Equal_api_Inst_api_Inst_L0b, equalSt]
    · rw [List.drop_length, h, List.drop_length]
  | j + 1, i, hij => by
    have hi : i < L.length := by omega
    obtain ⟨r1, r2⟩ := equal_round L K n m hL h i hi
    obtain ⟨p1, p2⟩ := equal_loop L K n m hL h j (i + 1) (by omega)
    rw [List.drop_eq_getElem_cons hi, List.drop_eq_getElem_cons (show i < K.length by omega)]
    by_cases e : L[i]? = K[i]?
    · rw [r1 e]
      have e' : L[i] = K[i]'(by omega) := by
        rw [List.getElem?_eq_getElem hi, List.getElem?_eq_getElem (show i < K.length by omega)] at e
        injection e
      refine ⟨fun h => p1 (by injection h), fun h => p2 (fun k => h (by rw [e', k]))⟩
    · refine ⟨fun h => absurd ?_ e, fun _ => r2 e⟩
      rw [List.getElem?_eq_getElem hi, List.getElem?_eq_getElem (show i < K.length by omega)]
      injection h with h _
      rw [h]
theorem equal_code (L K : List Inst) (n m : Bool) (hL : L.length ≤ 100000) : ∃ c : Bool, run kp (.data f_slices_Equal_api_Inst_api_Inst [.sl n (L.map Inst.d), .sl m (K.map Inst.d)]) = some (.ds [.bool c]) ∧ (c = true ↔ L = K) := by
  rw [run_data, run_call, kp_slices_Equal_api_Inst_api_Inst]
  by_cases h : L.length = K.length
  · obtain ⟨p1, p2⟩ := equal_loop L K n m hL h L.length 0 (by omega)
    have h' : (L.length : Int) = (K.length : Int) := by omega
    simp only [List.drop_zero, equalSt, List.append_nil, List.cons_append, List.nil_append, Int.cast_ofNat_Int, h'] at p1 p2
    by_cases e : L = K
    · refine ⟨true, ?_, by simp [e]⟩
      have p1 := p1 e
      simp [k_slices_Equal_api_Inst_api_Inst, h', p1]
    · refine ⟨false, ?_, by simp [e]⟩
      obtain ⟨s, p2, q1, q2⟩ := p2 e
      obtain ⟨u, k, cn⟩ := canon_b s false q2
      simp only [val] at q1
      simp [k_slices_Equal_api_Inst_api_Inst, h', p2, q1, cn, valK_b]
  · refine ⟨false, ?_, by simp; rintro rfl; exact h rfl⟩
    have h' : ¬ (L.length : Int) = (K.length : Int) := by omega
    simp [k_slices_Equal_api_Inst_api_Inst, h']
noncomputable def eqB {α : Type} (a b : α) : Bool := @decide (a = b) (Classical.propDecidable _)
theorem eqB_iff {α : Type} (a b : α) : eqB a b = true ↔ a = b := by
  unfold eqB
  exact @decide_eq_true_iff _ (Classical.propDecidable _)
theorem eqB_no {α : Type} {a b : α} (h : a ≠ b) : eqB a b = false := by
  cases e : eqB a b with
  | false => rfl
  | true => exact absurd ((eqB_iff a b).1 e) h
theorem eqB_self {α : Type} (a : α) : eqB a a = true := (eqB_iff a a).2 rfl
theorem eqB_of {α : Type} {a b : α} {c : Bool} (h : c = true ↔ a = b) : c = eqB a b := by
  cases c with
  | true => exact ((eqB_iff a b).2 (h.1 rfl)).symm
  | false => exact (eqB_no (fun e => by have := h.2 e; cases this)).symm
theorem code_eq (L K : List Inst) (n m : Bool) (hL : L.length ≤ 100000) : run kp (.data f_ref1_SameCode [.sl n (L.map Inst.d), .sl m (K.map Inst.d)]) = some (.ds [.bool (eqB L K)]) := by
  obtain ⟨c, h1, h2⟩ := same_code L K n m hL
  rw [h1, eqB_of h2]
theorem slices_eq (L K : List Inst) (n m : Bool) (hL : L.length ≤ 100000) : run kp (.data f_slices_Equal_api_Inst_api_Inst [.sl n (L.map Inst.d), .sl m (K.map Inst.d)]) = some (.ds [.bool (eqB L K)]) := by
  obtain ⟨c, h1, h2⟩ := equal_code L K n m hL
  rw [h1, eqB_of h2]
def tkD (c : Cl) : D := .agg [.int .i64 c.rank, .int .i64 c.period, .int .i64 c.stop, rowD c.main, rowD c.way, rowD c.opt]
def tkey (c : Cl) := (c.rank, c.period, c.stop, c.main.2, c.way.2, c.opt.2)
def ckey (c : Cl) := (c.kind, c.at_, c.gen, c.a, c.n, c.mask, tkey c)
def skey (s : Sp) := (s.kind, s.a, s.n, ckey s.cl)
def Cl.lim (c : Cl) : Prop := c.main.2.length ≤ 100000 ∧ c.way.2.length ≤ 100000 ∧ c.opt.2.length ≤ 100000
set_option maxRecDepth 10000 in
set_option maxHeartbeats 16000000 in
theorem play_task_eq (c d : Cl) (hc : c.lim) : run kp (.data f_play_task [tkD c, tkD d]) = some (.ds [.bool (eqB (tkey c) (tkey d))]) := by
  obtain ⟨kind, rank, period, stop, ⟨mn, m⟩, ⟨wn, w⟩, ⟨on, o⟩, at_, gen, a, n, mask⟩ := c
  obtain ⟨kind', rank', period', stop', ⟨mn', m'⟩, ⟨wn', w'⟩, ⟨on', o'⟩, at_', gen', a', n', mask'⟩ := d
  obtain ⟨hm, hw, ho⟩ := hc
  simp only at hm hw ho
  have p1 := slices_eq m m' mn mn' hm
  have p2 := slices_eq w w' wn wn' hw
  have p3 := slices_eq o o' on on' ho
  rw [run_data, run_call, kp_play_task]
  unfold tkey
  simp only
  by_cases e1 : rank = rank'
  · by_cases e2 : period = period'
    · by_cases e3 : stop = stop'
      · by_cases e4 : m = m'
        · rw [(eqB_iff m m').2 e4] at p1
          by_cases e5 : w = w'
          · rw [(eqB_iff w w').2 e5] at p2
            by_cases e6 : o = o'
            · rw [(eqB_iff o o').2 e6] at p3
              subst e1 e2 e3 e4 e5 e6
              rw [eqB_self]
              simp [k_play_task, tkD, rowD, p1, p2, p3]
            · rw [eqB_no e6] at p3
              rw [eqB_no (fun h => e6 (by simp only [Prod.mk.injEq] at h; exact h.2.2.2.2.2))]
              simp [k_play_task, tkD, rowD, e1, e2, e3, p1, p2, p3]
          · rw [eqB_no e5] at p2
            rw [eqB_no (fun h => e5 (by simp only [Prod.mk.injEq] at h; exact h.2.2.2.2.1))]
            simp [k_play_task, tkD, rowD, e1, e2, e3, p1, p2]
        · rw [eqB_no e4] at p1
          rw [eqB_no (fun h => e4 (by simp only [Prod.mk.injEq] at h; exact h.2.2.2.1))]
          simp [k_play_task, tkD, rowD, e1, e2, e3, p1]
      · rw [eqB_no (fun h => e3 (by simp only [Prod.mk.injEq] at h; exact h.2.2.1))]
        simp [k_play_task, tkD, rowD, e1, e2, e3]
    · rw [eqB_no (fun h => e2 (by simp only [Prod.mk.injEq] at h; exact h.2.1))]
      simp [k_play_task, tkD, rowD, e1, e2]
  · rw [eqB_no (fun h => e1 (by simp only [Prod.mk.injEq] at h; exact h.1))]
    simp [k_play_task, tkD, rowD, e1]
set_option maxRecDepth 10000 in
set_option maxHeartbeats 16000000 in
theorem ref15_task_eq (c d : Cl) (hc : c.lim) : run kp (.data f_ref15_SameTask [tkD c, tkD d]) = some (.ds [.bool (eqB (tkey c) (tkey d))]) := by
  obtain ⟨kind, rank, period, stop, ⟨mn, m⟩, ⟨wn, w⟩, ⟨on, o⟩, at_, gen, a, n, mask⟩ := c
  obtain ⟨kind', rank', period', stop', ⟨mn', m'⟩, ⟨wn', w'⟩, ⟨on', o'⟩, at_', gen', a', n', mask'⟩ := d
  obtain ⟨hm, hw, ho⟩ := hc
  simp only at hm hw ho
  have p1 := code_eq m m' mn mn' hm
  have p2 := code_eq w w' wn wn' hw
  have p3 := code_eq o o' on on' ho
  rw [run_data, run_call, kp_ref15_SameTask]
  unfold tkey
  simp only
  by_cases e1 : rank = rank'
  · by_cases e2 : period = period'
    · by_cases e3 : stop = stop'
      · by_cases e4 : m = m'
        · rw [(eqB_iff m m').2 e4] at p1
          by_cases e5 : w = w'
          · rw [(eqB_iff w w').2 e5] at p2
            by_cases e6 : o = o'
            · rw [(eqB_iff o o').2 e6] at p3
              subst e1 e2 e3 e4 e5 e6
              rw [eqB_self]
              simp [k_ref15_SameTask, tkD, rowD, p1, p2, p3]
            · rw [eqB_no e6] at p3
              rw [eqB_no (fun h => e6 (by simp only [Prod.mk.injEq] at h; exact h.2.2.2.2.2))]
              simp [k_ref15_SameTask, tkD, rowD, e1, e2, e3, p1, p2, p3]
          · rw [eqB_no e5] at p2
            rw [eqB_no (fun h => e5 (by simp only [Prod.mk.injEq] at h; exact h.2.2.2.2.1))]
            simp [k_ref15_SameTask, tkD, rowD, e1, e2, e3, p1, p2]
        · rw [eqB_no e4] at p1
          rw [eqB_no (fun h => e4 (by simp only [Prod.mk.injEq] at h; exact h.2.2.2.1))]
          simp [k_ref15_SameTask, tkD, rowD, e1, e2, e3, p1]
      · rw [eqB_no (fun h => e3 (by simp only [Prod.mk.injEq] at h; exact h.2.2.1))]
        simp [k_ref15_SameTask, tkD, rowD, e1, e2, e3]
    · rw [eqB_no (fun h => e2 (by simp only [Prod.mk.injEq] at h; exact h.2.1))]
      simp [k_ref15_SameTask, tkD, rowD, e1, e2]
  · rw [eqB_no (fun h => e1 (by simp only [Prod.mk.injEq] at h; exact h.1))]
    simp [k_ref15_SameTask, tkD, rowD, e1]
set_option maxRecDepth 10000 in
set_option maxHeartbeats 16000000 in
theorem play_same_eq (s t : Sp) (hc : s.cl.lim) : run kp (.data f_play_same [s.d, t.d]) = some (.ds [.bool (eqB (skey s) (skey t))]) := by
  have tk := play_task_eq s.cl t.cl hc
  have en : ∀ h : ¬ tkey s.cl = tkey t.cl, eqB (skey s) (skey t) = false := fun h => eqB_no (fun k => h (by unfold skey ckey at k; simp only [Prod.mk.injEq] at k; exact k.2.2.2.2.2.2.2.2.2))
  have ey : tkey s.cl = tkey t.cl → s.kind = t.kind → s.a = t.a → s.n = t.n → s.cl.kind = t.cl.kind → s.cl.at_ = t.cl.at_ → s.cl.gen = t.cl.gen → s.cl.a = t.cl.a → s.cl.n = t.cl.n → s.cl.mask = t.cl.mask → eqB (skey s) (skey t) = true := fun a b c d e f g h i j => (eqB_iff _ _).2 (by unfold skey ckey; rw [a, b, c, d, e, f, g, h, i, j])
  have ni : ∀ h : ¬ (s.kind = t.kind ∧ s.a = t.a ∧ s.n = t.n ∧ s.cl.kind = t.cl.kind ∧ s.cl.at_ = t.cl.at_ ∧ s.cl.gen = t.cl.gen ∧ s.cl.a = t.cl.a ∧ s.cl.n = t.cl.n ∧ s.cl.mask = t.cl.mask), eqB (skey s) (skey t) = false := fun h => eqB_no (fun k => h (by unfold skey ckey at k; simp only [Prod.mk.injEq] at k; obtain ⟨b, c, d, e, f, g, h, i, j, _⟩ := k; exact ⟨b, c, d, e, f, g, h, i, j⟩))
  generalize eqB (skey s) (skey t) = res at *
  rw [run_data, run_call, kp_play_same]
  generalize hq : eqB (tkey s.cl) (tkey t.cl) = q at *
  have eq : q = true ↔ tkey s.cl = tkey t.cl := by rw [← hq]; exact eqB_iff _ _
  clear hq
  generalize tkey s.cl = A at *
  generalize tkey t.cl = B at *
  obtain ⟨sk, ⟨kind, rank, period, stop, ⟨mn, m⟩, ⟨wn, w⟩, ⟨on, o⟩, at_, gen, a, n, mask⟩, sa, sn⟩ := s
  obtain ⟨sk', ⟨kind', rank', period', stop', ⟨mn', m'⟩, ⟨wn', w'⟩, ⟨on', o'⟩, at_', gen', a', n', mask'⟩, sa', sn'⟩ := t
  simp only [tkD, rowD] at tk ey ni
  by_cases e1 : sk = sk'
  · by_cases e2 : sa = sa'
    · by_cases e3 : sn = sn'
      · by_cases e4 : kind = kind'
        · by_cases e5 : at_ = at_'
          · by_cases e6 : gen = gen'
            · by_cases e7 : a = a'
              · by_cases e8 : n = n'
                · by_cases e9 : mask = mask'
                  · subst e1 e2 e3 e4 e5 e6 e7 e8 e9
                    cases q with
                    | true =>
                      rw [ey (eq.1 rfl) rfl rfl rfl rfl rfl rfl rfl rfl rfl]
                      simp [k_play_same, Sp.d, Cl.d, rowD, tk]
                    | false =>
                      rw [en (fun h => by have := eq.2 h; cases this)]
                      simp [k_play_same, Sp.d, Cl.d, rowD, tk]
                  · rw [ni (fun h => e9 h.2.2.2.2.2.2.2.2)]
                    simp [k_play_same, Sp.d, Cl.d, rowD, e1, e2, e3, e4, e5, e6, e7, e8, e9]
                · rw [ni (fun h => e8 h.2.2.2.2.2.2.2.1)]
                  simp [k_play_same, Sp.d, Cl.d, rowD, e1, e2, e3, e4, e5, e6, e7, e8]
              · rw [ni (fun h => e7 h.2.2.2.2.2.2.1)]
                simp [k_play_same, Sp.d, Cl.d, rowD, e1, e2, e3, e4, e5, e6, e7]
            · rw [ni (fun h => e6 h.2.2.2.2.2.1)]
              simp [k_play_same, Sp.d, Cl.d, rowD, e1, e2, e3, e4, e5, e6]
          · rw [ni (fun h => e5 h.2.2.2.2.1)]
            simp [k_play_same, Sp.d, Cl.d, rowD, e1, e2, e3, e4, e5]
        · rw [ni (fun h => e4 h.2.2.2.1)]
          simp [k_play_same, Sp.d, Cl.d, rowD, e1, e2, e3, e4]
      · rw [ni (fun h => e3 h.2.2.1)]
        simp [k_play_same, Sp.d, Cl.d, rowD, e1, e2, e3]
    · rw [ni (fun h => e2 h.2.1)]
      simp [k_play_same, Sp.d, Cl.d, rowD, e1, e2]
  · rw [ni (fun h => e1 h.1)]
    simp [k_play_same, Sp.d, Cl.d, rowD, e1]
set_option maxRecDepth 10000 in
set_option maxHeartbeats 16000000 in
theorem ref27_SameStep_eq (s t : Sp) (hc : s.cl.lim) : run kp (.data f_ref27_SameStep [s.d, t.d]) = some (.ds [.bool (eqB (skey s) (skey t))]) := by
  have tk := ref15_task_eq s.cl t.cl hc
  have en : ∀ h : ¬ tkey s.cl = tkey t.cl, eqB (skey s) (skey t) = false := fun h => eqB_no (fun k => h (by unfold skey ckey at k; simp only [Prod.mk.injEq] at k; exact k.2.2.2.2.2.2.2.2.2))
  have ey : tkey s.cl = tkey t.cl → s.kind = t.kind → s.a = t.a → s.n = t.n → s.cl.kind = t.cl.kind → s.cl.at_ = t.cl.at_ → s.cl.gen = t.cl.gen → s.cl.a = t.cl.a → s.cl.n = t.cl.n → s.cl.mask = t.cl.mask → eqB (skey s) (skey t) = true := fun a b c d e f g h i j => (eqB_iff _ _).2 (by unfold skey ckey; rw [a, b, c, d, e, f, g, h, i, j])
  have ni : ∀ h : ¬ (s.kind = t.kind ∧ s.a = t.a ∧ s.n = t.n ∧ s.cl.kind = t.cl.kind ∧ s.cl.at_ = t.cl.at_ ∧ s.cl.gen = t.cl.gen ∧ s.cl.a = t.cl.a ∧ s.cl.n = t.cl.n ∧ s.cl.mask = t.cl.mask), eqB (skey s) (skey t) = false := fun h => eqB_no (fun k => h (by unfold skey ckey at k; simp only [Prod.mk.injEq] at k; obtain ⟨b, c, d, e, f, g, h, i, j, _⟩ := k; exact ⟨b, c, d, e, f, g, h, i, j⟩))
  generalize eqB (skey s) (skey t) = res at *
  rw [run_data, run_call, kp_ref27_SameStep]
  generalize hq : eqB (tkey s.cl) (tkey t.cl) = q at *
  have eq : q = true ↔ tkey s.cl = tkey t.cl := by rw [← hq]; exact eqB_iff _ _
  clear hq
  generalize tkey s.cl = A at *
  generalize tkey t.cl = B at *
  obtain ⟨sk, ⟨kind, rank, period, stop, ⟨mn, m⟩, ⟨wn, w⟩, ⟨on, o⟩, at_, gen, a, n, mask⟩, sa, sn⟩ := s
  obtain ⟨sk', ⟨kind', rank', period', stop', ⟨mn', m'⟩, ⟨wn', w'⟩, ⟨on', o'⟩, at_', gen', a', n', mask'⟩, sa', sn'⟩ := t
  simp only [tkD, rowD] at tk ey ni
  by_cases e1 : sk = sk'
  · by_cases e2 : sa = sa'
    · by_cases e3 : sn = sn'
      · by_cases e4 : kind = kind'
        · by_cases e5 : at_ = at_'
          · by_cases e6 : gen = gen'
            · by_cases e7 : a = a'
              · by_cases e8 : n = n'
                · by_cases e9 : mask = mask'
                  · subst e1 e2 e3 e4 e5 e6 e7 e8 e9
                    cases q with
                    | true =>
                      rw [ey (eq.1 rfl) rfl rfl rfl rfl rfl rfl rfl rfl rfl]
                      simp [k_ref27_SameStep, Sp.d, Cl.d, rowD, tk]
                    | false =>
                      rw [en (fun h => by have := eq.2 h; cases this)]
                      simp [k_ref27_SameStep, Sp.d, Cl.d, rowD, tk]
                  · rw [ni (fun h => e9 h.2.2.2.2.2.2.2.2)]
                    simp [k_ref27_SameStep, Sp.d, Cl.d, rowD, e1, e2, e3, e4, e5, e6, e7, e8, e9]
                · rw [ni (fun h => e8 h.2.2.2.2.2.2.2.1)]
                  simp [k_ref27_SameStep, Sp.d, Cl.d, rowD, e1, e2, e3, e4, e5, e6, e7, e8]
              · rw [ni (fun h => e7 h.2.2.2.2.2.2.1)]
                simp [k_ref27_SameStep, Sp.d, Cl.d, rowD, e1, e2, e3, e4, e5, e6, e7]
            · rw [ni (fun h => e6 h.2.2.2.2.2.1)]
              simp [k_ref27_SameStep, Sp.d, Cl.d, rowD, e1, e2, e3, e4, e5, e6]
          · rw [ni (fun h => e5 h.2.2.2.2.1)]
            simp [k_ref27_SameStep, Sp.d, Cl.d, rowD, e1, e2, e3, e4, e5]
        · rw [ni (fun h => e4 h.2.2.2.1)]
          simp [k_ref27_SameStep, Sp.d, Cl.d, rowD, e1, e2, e3, e4]
      · rw [ni (fun h => e3 h.2.2.1)]
        simp [k_ref27_SameStep, Sp.d, Cl.d, rowD, e1, e2, e3]
    · rw [ni (fun h => e2 h.2.1)]
      simp [k_ref27_SameStep, Sp.d, Cl.d, rowD, e1, e2]
  · rw [ni (fun h => e1 h.1)]
    simp [k_ref27_SameStep, Sp.d, Cl.d, rowD, e1]
end Go.Cd
