/- Rows of steps that are the same. No conditions. -/
import Derived.Test.YtjoocolnbmpkkaaR7QPlV
import Derived.Test.YtjoocolnbmpkkaaR7QPlY
import Derived.KernelRfl
set_option linter.unusedVariables false
set_option linter.unusedSimpArgs false
namespace Go.Cd
open Go Go.Fw
def ssSt (L K : List Sp) (n m : Bool) (i : Nat) (ex : List (Nat × V)) : St :=
  { env := [(0, .asl n (L.map Sp.d)), (1, .asl m (K.map Sp.d)), (5, .int .i64 (i : Int))] ++ ex, hp := [], tl := fun _ => none, base := 0, next := 0 }
set_option maxRecDepth 10000 in
set_option maxHeartbeats 16000000 in
theorem ss_round (L K : List Sp) (n m : Bool) (hL : L.length ≤ 100000) (h : L.length = K.length) (i : Nat) (hi : i < L.length) (x y : Sp) (hx : L[i]? = some x) (hy : K[i]? = some y) (hc : x.cl.lim) :
    (skey x = skey y → run kp (.loop [0, 1, 5] k_ref27_SameSteps_L0 (ssSt L K n m i [])) = run kp (.loop [0, 1, 5] k_ref27_SameSteps_L0 (ssSt L K n m (i + 1) []))) ∧
    (skey x ≠ skey y → ∃ s, run kp (.loop [0, 1, 5] k_ref27_SameSteps_L0 (ssSt L K n m i [])) = some (.out .ret s) ∧ val s.env (.t 4) = .bool false ∧ s.base = 0) := by
  have w : IntKind.i64.wrap ((i : Int) + 1) = ((i + 1 : Nat) : Int) := by rw [wrap_i64 (by omega) (by omega)]; omega
  have p : (i : Int) < (L.length : Int) := by omega
  have hk : i < K.length := by omega
  have hx2 : ∀ hh : i < L.length, L[i] = x := fun hh => by rw [List.getElem?_eq_getElem hh] at hx; injection hx
  have hy2 : ∀ hh : i < K.length, K[i] = y := fun hh => by rw [List.getElem?_eq_getElem hh] at hy; injection hy
  have hs := ref27_SameStep_eq x y hc
  generalize i + 1 = i' at *
  refine ⟨fun e => ?_, fun e => ?_⟩
  · rw [(eqB_iff _ _).2 e] at hs
    clear e
    obtain ⟨sk, ⟨kind, rank, period, stop, ⟨mn, mm⟩, ⟨wn, ww⟩, ⟨on, o⟩, at_, gen, a, nn, mask⟩, sa, sn⟩ := x
    obtain ⟨sk', ⟨kind', rank', period', stop', ⟨mn', mm'⟩, ⟨wn', ww'⟩, ⟨on', o'⟩, at_', gen', a', nn', mask'⟩, sa', sn'⟩ := y
    simp only [Sp.d, Cl.d, rowD] at hs
    rw [run_round]
    simp [c_ref27_SameSteps_L0, k_ref27_SameSteps_L0b, ssSt, hi, hk, p, w, hx, hy, hx2, hy2, Sp.d, Cl.d, rowD, hs]
  · rw [eqB_no e] at hs
    clear e
    obtain ⟨sk, ⟨kind, rank, period, stop, ⟨mn, mm⟩, ⟨wn, ww⟩, ⟨on, o⟩, at_, gen, a, nn, mask⟩, sa, sn⟩ := x
    obtain ⟨sk', ⟨kind', rank', period', stop', ⟨mn', mm'⟩, ⟨wn', ww'⟩, ⟨on', o'⟩, at_', gen', a', nn', mask'⟩, sa', sn'⟩ := y
    simp only [Sp.d, Cl.d, rowD] at hs
    rw [run_round]
    simp [c_ref27_SameSteps_L0, k_ref27_SameSteps_L0b, ssSt, hi, hk, p, w, hx, hy, hx2, hy2, Sp.d, Cl.d, rowD, hs]
theorem ss_loop (L K : List Sp) (n m : Bool) (hL : L.length ≤ 100000) (h : L.length = K.length) (hc : ∀ x ∈ L, x.cl.lim) : ∀ (j i : Nat), i + j = L.length →
    ((L.drop i).map skey = (K.drop i).map skey → run kp (.loop [0, 1, 5] k_ref27_SameSteps_L0 (ssSt L K n m i [])) = some (.out (.ext 0) (ssSt L K n m L.length [(14, .bool false)]))) ∧
    ((L.drop i).map skey ≠ (K.drop i).map skey → ∃ s, run kp (.loop [0, 1, 5] k_ref27_SameSteps_L0 (ssSt L K n m i [])) = some (.out .ret s) ∧ val s.env (.t 4) = .bool false ∧ s.base = 0)
  | 0, i, hij => by
    obtain rfl : i = L.length := by omega
    refine ⟨fun _ => ?_, fun e => absurd ?_ e⟩
    · rw [run_round]
      simp [c_ref27_SameSteps_L0, k_ref27_SameSteps_L0b, ssSt]
    · rw [List.drop_length, h, List.drop_length]
  | j + 1, i, hij => by
    have hi : i < L.length := by omega
    have hk : i < K.length := by omega
    obtain ⟨r1, r2⟩ := ss_round L K n m hL h i hi L[i] K[i] (List.getElem?_eq_getElem hi) (List.getElem?_eq_getElem hk) (hc _ (List.getElem_mem hi))
    obtain ⟨p1, p2⟩ := ss_loop L K n m hL h hc j (i + 1) (by omega)
    rw [List.drop_eq_getElem_cons hi, List.drop_eq_getElem_cons hk, List.map_cons, List.map_cons]
    by_cases e : skey L[i] = skey K[i]
    · rw [r1 e]
      refine ⟨fun h => p1 (by injection h), fun h => p2 (fun k => h (by rw [e, k]))⟩
    · exact ⟨fun h => absurd (by injection h) e, fun _ => r2 e⟩
set_option maxRecDepth 10000 in
set_option maxHeartbeats 4000000 in
theorem ref27_SameSteps (L K : List Sp) (n m : Bool) (hL : L.length ≤ 100000) (hc : ∀ x ∈ L, x.cl.lim) : run kp (.data f_ref27_SameSteps [.sl n (L.map Sp.d), .sl m (K.map Sp.d)]) = some (.ds [.bool (eqB (L.map skey) (K.map skey))]) := by
  rw [run_data, run_call, kp_ref27_SameSteps]
  by_cases h : L.length = K.length
  · obtain ⟨p1, p2⟩ := ss_loop L K n m hL h hc L.length 0 (by omega)
    have h' : (L.length : Int) = (K.length : Int) := by omega
    simp only [List.drop_zero, ssSt, List.append_nil, List.cons_append, List.nil_append, Int.cast_ofNat_Int, h'] at p1 p2
    by_cases e : L.map skey = K.map skey
    · rw [(eqB_iff _ _).2 e]
      have p1 := p1 e
      simp [k_ref27_SameSteps, h', p1]
    · rw [eqB_no e]
      obtain ⟨s, p2, q1, q2⟩ := p2 e
      obtain ⟨u, k, cn⟩ := canon_b s false q2
      simp only [val] at q1
      simp [k_ref27_SameSteps, h', p2, q1, cn, valK_b]
  · rw [eqB_no (fun e => h (by have := congrArg List.length e; simpa using this))]
    have h' : ¬ (L.length : Int) = (K.length : Int) := by omega
    simp [k_ref27_SameSteps, h']
set_option maxRecDepth 100000 in
theorem play_begun : run kp (.data f_law27_begun []) = some (.ds [.bool true]) := run_of (n := 4000) (by kernel_rfl)
end Go.Cd
