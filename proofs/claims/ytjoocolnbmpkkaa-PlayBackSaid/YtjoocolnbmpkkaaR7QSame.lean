/- Programs that are the same. No conditions. -/
import Derived.Test.YtjoocolnbmpkkaaR7QCodeA
set_option linter.unusedVariables false
set_option linter.unusedSimpArgs false
namespace Go.Cd
open Go Go.Fw
theorem d_inj {x y : Inst} (h : x.d = y.d) : x = y := by
  obtain ⟨a, b, c, d⟩ := x
  obtain ⟨a', b', c', d'⟩ := y
  simp [Inst.d] at h
  simp [h]
theorem ds_inj : ∀ {l m : List Inst}, l.map Inst.d = m.map Inst.d → l = m
  | [], [], _ => rfl
  | [], _ :: _, h => by simp at h
  | _ :: _, [], h => by simp at h
  | x :: l, y :: m, h => by
    simp only [List.map_cons, List.cons.injEq] at h
    rw [d_inj h.1, ds_inj h.2]
def sameSt (L K : List Inst) (n m : Bool) (i : Nat) (ex : List (Nat × V)) : St :=
  { env := [(0, .asl n (L.map Inst.d)), (1, .asl m (K.map Inst.d)), (5, .int .i64 (i : Int))] ++ ex, hp := [], tl := fun _ => none, base := 0, next := 0 }
theorem same_round (L K : List Inst) (n m : Bool) (hL : L.length ≤ 100000) (h : L.length = K.length) (i : Nat) (hi : i < L.length) :
    (L[i]? = K[i]? → run kp (.loop [0, 1, 5] k_ref1_SameCode_L0 (sameSt L K n m i [])) = run kp (.loop [0, 1, 5] k_ref1_SameCode_L0 (sameSt L K n m (i + 1) []))) ∧
    (L[i]? ≠ K[i]? → ∃ s, run kp (.loop [0, 1, 5] k_ref1_SameCode_L0 (sameSt L K n m i [])) = some (.out .ret s) ∧ val s.env (.t 4) = .bool false ∧ s.base = 0) := by
  have w : IntKind.i64.wrap ((i : Int) + 1) = ((i + 1 : Nat) : Int) := by rw [wrap_i64 (by omega) (by omega)]; omega
  have p : (i : Int) < (L.length : Int) := by omega
  have hk : i < K.length := by omega
  obtain ⟨x, hx⟩ : ∃ x, L[i]? = some x := ⟨_, List.getElem?_eq_getElem hi⟩
  obtain ⟨y, hy⟩ : ∃ x, K[i]? = some x := ⟨_, List.getElem?_eq_getElem hk⟩
  have hx2 : ∀ hh : i < L.length, L[i] = x := fun hh => by rw [List.getElem?_eq_getElem hh] at hx; injection hx
  have hy2 : ∀ hh : i < K.length, K[i] = y := fun hh => by rw [List.getElem?_eq_getElem hh] at hy; injection hy
  have hi' : i < K.length ↔ True := by simp [hk]
  generalize i + 1 = i' at *
  rw [hx, hy]
  refine ⟨fun e => ?_, fun e => ?_⟩
  · injection e with e; subst e
    rw [run_round]
    simp [c_ref1_SameCode_L0, k_ref1_SameCode_L0b, sameSt, hi, hk, p, w, hx, hy, hx2, hy2, Inst.d]
  · have e2 : D.beqs [D.int .i64 x.op, .int .i64 x.a, .int .i64 x.b, .int .i64 x.n] [D.int .i64 y.op, .int .i64 y.a, .int .i64 y.b, .int .i64 y.n] = false := by
      cases hb : D.beqs [D.int .i64 x.op, .int .i64 x.a, .int .i64 x.b, .int .i64 x.n] [D.int .i64 y.op, .int .i64 y.a, .int .i64 y.b, .int .i64 y.n] with
      | false => rfl
      | true =>
        have := (D.beqs_iff _ _).1 hb
        exact absurd (congrArg some (d_inj (x := x) (y := y) (by unfold Inst.d; rw [this]))) e
    rw [run_round]
    simp [c_ref1_SameCode_L0, k_ref1_SameCode_L0b, sameSt, hi, hk, p, w, hx, hy, hx2, hy2, Inst.d, e2, -D.beqs, -D.beq]
theorem same_loop (L K : List Inst) (n m : Bool) (hL : L.length ≤ 100000) (h : L.length = K.length) : ∀ (j i : Nat), i + j = L.length →
    (L.drop i = K.drop i → run kp (.loop [0, 1, 5] k_ref1_SameCode_L0 (sameSt L K n m i [])) = some (.out (.ext 0) (sameSt L K n m L.length [(14, .bool false)]))) ∧
    (L.drop i ≠ K.drop i → ∃ s, run kp (.loop [0, 1, 5] k_ref1_SameCode_L0 (sameSt L K n m i [])) = some (.out .ret s) ∧ val s.env (.t 4) = .bool false ∧ s.base = 0)
  | 0, i, hij => by
    obtain rfl : i = L.length := by omega
    refine ⟨fun _ => ?_, fun e => absurd ?_ e⟩
    · rw [run_round]
      simp [c_ref1_SameCode_L0, k_ref1_SameCode_L0b, sameSt]
    · rw [List.drop_length, h, List.drop_length]
  | j + 1, i, hij => by
    have hi : i < L.length := by omega
    obtain ⟨r1, r2⟩ := same_round L K n m hL h i hi
    obtain ⟨p1, p2⟩ := same_loop L K n m hL h j (i + 1) (by omega)
    rw [List.drop_eq_getElem_cons hi, List.drop_eq_getElem_cons (show i < K.length by omega)]
    by_cases e : L[i]? = K[i]?
    · rw [r1 e]
      have e' : L[i] = K[i]'(by omega) := by
        rw [List.getElem?_eq_getElem hi, List.getElem?_eq_getElem (show i < K.length by omega)] at e
        injection e
      refine ⟨fun h => p1 (by injection h), fun h => p2 (fun k => h (by rw [e', k]))⟩
    · refine ⟨fun h => absurd ?_ e, fun _ => r2 e⟩
      rw [List.getElem?_eq_getElem hi, List.getElem?_eq_getElem (show i < K.length by omega)]
      injection h with h _
      rw [h]
theorem canon_b (s : St) (c : Bool) (hb : s.base = 0) : ∃ u k, canK (canon [(0, .bool c)] s) = some (.val (.bool c) u k) := by
  unfold canon
  rw [hb]
  simp only [outer_no]
  have e1 : envHs [(0, V.bool c)] = [] := rfl
  have e2 : hpHs [] = [] := rfl
  have e3 : reach s.g 0 4096 [] [] = [] := rfl
  rw [e1, e2]
  simp only [List.append_nil]
  rw [e3]
  exact ⟨_, _, rfl⟩
theorem valK_b (u : Hp) (k : Nat) (c : Bool) : valK (some (.val (.bool c) u k)) = some (.ds [.bool c]) := rfl
theorem same_code (L K : List Inst) (n m : Bool) (hL : L.length ≤ 100000) : ∃ c : Bool, run kp (.data f_ref1_SameCode [.sl n (L.map Inst.d), .sl m (K.map Inst.d)]) = some (.ds [.bool c]) ∧ (c = true ↔ L = K) := by
  rw [run_data, run_call, kp_ref1_SameCode]
  by_cases h : L.length = K.length
  · obtain ⟨p1, p2⟩ := same_loop L K n m hL h L.length 0 (by omega)
    have h' : (L.length : Int) = (K.length : Int) := by omega
    simp only [List.drop_zero, sameSt, List.append_nil, List.cons_append, List.nil_append, Int.cast_ofNat_Int] at p1 p2
    by_cases e : L = K
    · refine ⟨true, ?_, by simp [e]⟩
      have p1 := p1 e
      simp [k_ref1_SameCode, h', p1]
    · refine ⟨false, ?_, by simp [e]⟩
      obtain ⟨s, p2, q1, q2⟩ := p2 e
      obtain ⟨u, k, cn⟩ := canon_b s false q2
      simp only [val] at q1
      simp [k_ref1_SameCode, h', p2, q1, cn, valK_b]
  · refine ⟨false, ?_, by simp; rintro rfl; exact h rfl⟩
    have h' : ¬ (L.length : Int) = (K.length : Int) := by omega
    simp [k_ref1_SameCode, h']
theorem same_self (L : List Inst) (n m : Bool) (hL : L.length ≤ 100000) : run kp (.data f_ref1_SameCode [.sl n (L.map Inst.d), .sl m (L.map Inst.d)]) = some (.ds [.bool true]) := by
  obtain ⟨c, h1, h2⟩ := same_code L L n m hL
  rw [h2.2 rfl] at h1
  exact h1
end Go.Cd
