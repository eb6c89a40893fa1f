/- The law SemaOne, as the evaluator has it: the end. No conditions. -/
import Derived.Test.YtpdanhecaalfbaaR2PSemaOne
set_option linter.unusedVariables false
set_option linter.unusedSimpArgs false
namespace Go.Cd
open Go Go.Fw
def U8 (x : Int) : Prop := 0 ≤ x ∧ x < 256
theorem so_loop (nl : Bool) (l : List (Int × Int × Int)) (hf : l.length ≤ 1000) (hu : ∀ x ∈ l, U8 x.1 ∧ U8 x.2.1 ∧ U8 x.2.2) : ∀ (rest pre : List (Int × Int × Int)), l = pre ++ rest → ∀ (i : Int), i = pre.length → ∀ a b c d : Int,
    ∃ a' b' c' d', run kp (.loop [0, 3, 4, 5] k_law11_SemaOne_L0 (soSt nl l a b c d [] i)) = some (.out (.ext 0) (soSt nl l a' b' c' d' [(23, .bool false)] l.length))
  | [], pre, h, i, hi, a, b, c, d => by
    simp at h
    subst h hi
    refine ⟨a, b, c, d, ?_⟩
    rw [run_round]
    simp [c_law11_SemaOne_L0, k_law11_SemaOne_L0b, soSt]
  | x :: rest, pre, h, i, hi, a, b, c, d => by
    have hli : i < l.length := by rw [h, hi]; simp; omega
    have h0 : 0 ≤ i := by omega
    have hget0 : l[i.toNat]? = some x := by rw [h, hi]; simp
    have hget : ∀ hh : i.toNat < l.length, l[i.toNat] = x := fun hh => by rw [List.getElem?_eq_getElem hh] at hget0; injection hget0
    have hw : IntKind.i64.wrap (i + 1) = i + 1 := wrap_i64 (by omega) (by omega)
    obtain ⟨u1, u2, u3⟩ := hu x (by rw [h]; simp)
    have o4 : x.1.tmod 4 = 0 ∨ x.1.tmod 4 = 1 ∨ x.1.tmod 4 = 2 ∨ x.1.tmod 4 = 3 := by
      rw [Int.tmod_eq_emod_of_nonneg u1.1]; omega
    have s5 : IntKind.i64.wrap (x.2.1.tmod 5) = 0 ∨ IntKind.i64.wrap (x.2.1.tmod 5) = 1 ∨ IntKind.i64.wrap (x.2.1.tmod 5) = 2 ∨ IntKind.i64.wrap (x.2.1.tmod 5) = 3 ∨ IntKind.i64.wrap (x.2.1.tmod 5) = 4 := by
      rw [Int.tmod_eq_emod_of_nonneg u2.1, wrap_i64 (by omega) (by omega)]; omega
    have t3 : 0 ≤ IntKind.i64.wrap (x.2.2.tmod 3) := by
      rw [Int.tmod_eq_emod_of_nonneg u3.1, wrap_i64 (by omega) (by omega)]; omega
    have ih := so_loop nl l hf hu rest (pre ++ [x]) (by simp [h]) (i + 1) (by simp [hi])
    have st : ∃ a' b' c' d', run kp (.loop [0, 3, 4, 5] k_law11_SemaOne_L0 (soSt nl l a b c d [] i)) = run kp (.loop [0, 3, 4, 5] k_law11_SemaOne_L0 (soSt nl l a' b' c' d' [] (i + 1))) := by
      rcases o4 with o | o | o | o
      · exact so_step_take nl l i h0 hli x hget hw (.inl o) _ _ rfl rfl s5 a b c d
      · exact so_step_take nl l i h0 hli x hget hw (.inr o) _ _ rfl rfl s5 a b c d
      · exact so_step_let nl l i h0 hli x hget hw o _ _ rfl rfl s5 t3 a b c d
      · exact so_step_all nl l i h0 hli x hget hw o _ _ rfl rfl t3 a b c d
    obtain ⟨a1, b1, c1, d1, e⟩ := st
    obtain ⟨a2, b2, c2, d2, e2⟩ := ih a1 b1 c1 d1
    exact ⟨a2, b2, c2, d2, by rw [e, e2]⟩
theorem has_one {x : D} (h : Sh.has (.ar 3 (.i .u8)) x) : ∃ t : Int × Int × Int, x = oneD t ∧ (U8 t.1 ∧ U8 t.2.1 ∧ U8 t.2.2) := by
  obtain ⟨l, rfl, h1, h2⟩ := has_ar h
  obtain ⟨m, rfl, hm⟩ := all_typed (f := D.int .u8) (fun y hy => has_int hy) l h2
  match m, h1, hm with
  | [a, b, c], _, hm => exact ⟨(a, b, c), rfl, wf_u8 (hm a (by simp)), wf_u8 (hm b (by simp)), wf_u8 (hm c (by simp))⟩
theorem law_SemaOne (xs : List D) (h : Sh.hasL [.sl (.ar 3 (.i .u8))] xs) : run kp (.data f_law11_SemaOne xs) = some (.ds [.bool true]) := by
  obtain ⟨x1, _, rfl, h1, h⟩ := hasL_cons h
  obtain rfl := hasL_nil h
  obtain ⟨nl, l, rfl, _, _, h5⟩ := has_sl h1
  obtain ⟨m, rfl, hm⟩ := all_typed (f := oneD) (fun y hy => has_one hy) l h5
  rw [run_data, run_call, kp_law11_SemaOne]
  by_cases hl : m.length ≤ 40
  · have a1 : ¬ (40 : Int) < m.length := by omega
    obtain ⟨a, b, c, d, e⟩ := so_loop nl m (by omega) hm m [] rfl 0 rfl 0 0 0 0
    simp [soSt, fourS, Sema.d] at e
    simp [k_law11_SemaOne, sema_begun, a1, e, List.replicate]
  · have a1 : (40 : Int) < m.length := by omega
    simp [k_law11_SemaOne, sema_begun, a1]
end Go.Cd
