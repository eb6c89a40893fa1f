/- The law BandThree, as the evaluator has it. No conditions. -/
import Derived.Test.YtohopligfihopaaR1PBandAll
set_option linter.unusedVariables false
set_option linter.unusedSimpArgs false
namespace Go.Cd
open Go Go.Fw
def zeroM : Mach := ⟨0, [0, 0, 0, 0, 0, 0, 0, 0], true, [], false⟩
theorem base_plain (t p n : Int) (up : Bool) : run kp (.data f_band_Base [D.agg [D.int .i64 t, D.int .i64 0, D.int .i64 0, D.int .i64 p,
    D.agg [D.int .i64 0, D.agg [D.int .i64 0, D.int .i64 0, D.int .i64 0, D.int .i64 0, D.int .i64 0, D.int .i64 0, D.int .i64 0, D.int .i64 0], D.sl true [], D.bool false],
    D.agg [D.int .i64 0, D.agg [D.int .i64 0, D.int .i64 0, D.int .i64 0, D.int .i64 0, D.int .i64 0, D.int .i64 0, D.int .i64 0, D.int .i64 0], D.sl true [], D.bool false],
    D.sl true [], D.bool up], .int .i64 n]) = some (.ds [.int .i64 (if p = 2 then IntKind.i64.wrap (IntKind.i64.wrap (n + n) + t) else if up then t else IntKind.i64.wrap (n + t))]) :=
  band_Base ⟨t, 0, 0, p, zeroM, zeroM, true, [], up⟩ n
set_option maxHeartbeats 4000000 in
theorem band_three (a0 a1 b0 b1 n : Int) (ha0 : 0 ≤ a0 ∧ a0 < 256) (ha1 : 0 ≤ a1 ∧ a1 < 256) (hb0 : 0 ≤ b0 ∧ b0 < 256) (hb1 : 0 ≤ b1 ∧ b1 < 256) (hn : 0 ≤ n ∧ n < 256) :
    run kp (.data f_law20_BandThree [.agg [.int .u8 a0, .int .u8 a1], .agg [.int .u8 b0, .int .u8 b1], .int .u8 n]) = some (.ds [.bool true]) := by
  rw [run_data, run_call, kp_law20_BandThree]
  have e1 : n.tmod 8 = n % 8 := Int.tmod_eq_emod_of_nonneg hn.1
  have e2 : a1.tmod 3 = a1 % 3 := Int.tmod_eq_emod_of_nonneg ha1.1
  have e3 : b1.tmod 3 = b1 % 3 := Int.tmod_eq_emod_of_nonneg hb1.1
  have w1 : IntKind.i64.wrap (n % 8) = n % 8 := wrap_i64 (by omega) (by omega)
  have w2 : IntKind.i64.wrap (1 + n % 8) = 1 + n % 8 := wrap_i64 (by omega) (by omega)
  have w3 : IntKind.i64.wrap a0 = a0 := wrap_i64 (by omega) (by omega)
  have w4 : IntKind.i64.wrap b0 = b0 := wrap_i64 (by omega) (by omega)
  have k0 : ¬ (1 + n % 8 = 0) := by omega
  have e4 : a0.tmod (1 + n % 8) = a0 % (1 + n % 8) := Int.tmod_eq_emod_of_nonneg ha0.1
  have e5 : b0.tmod (1 + n % 8) = b0 % (1 + n % 8) := Int.tmod_eq_emod_of_nonneg hb0.1
  have hk : 0 < 1 + n % 8 ∧ 1 + n % 8 ≤ 8 := by omega
  have m1 : 0 ≤ a0 % (1 + n % 8) := Int.emod_nonneg _ (by omega)
  have m2 : a0 % (1 + n % 8) < 1 + n % 8 := Int.emod_lt_of_pos _ hk.1
  have m3 : 0 ≤ b0 % (1 + n % 8) := Int.emod_nonneg _ (by omega)
  have m4 : b0 % (1 + n % 8) < 1 + n % 8 := Int.emod_lt_of_pos _ hk.1
  generalize hx : a0 % (1 + n % 8) = x at *
  generalize hy : b0 % (1 + n % 8) = y at *
  generalize hz : 1 + n % 8 = k at *
  have v1 : IntKind.i64.wrap (a1 % 3) = a1 % 3 := wrap_i64 (by omega) (by omega)
  have v2 : IntKind.i64.wrap (b1 % 3) = b1 % 3 := wrap_i64 (by omega) (by omega)
  have v3 : IntKind.i64.wrap (k + k) = k + k := wrap_i64 (by omega) (by omega)
  have v4 : IntKind.i64.wrap (k + k + x) = k + k + x := wrap_i64 (by omega) (by omega)
  have v5 : IntKind.i64.wrap (k + k + y) = k + k + y := wrap_i64 (by omega) (by omega)
  have v6 : IntKind.i64.wrap (k + x) = k + x := wrap_i64 (by omega) (by omega)
  have v7 : IntKind.i64.wrap (k + y) = k + y := wrap_i64 (by omega) (by omega)
  have c1 : a1 % 3 = 0 ∨ a1 % 3 = 1 ∨ a1 % 3 = 2 := by omega
  have c2 : b1 % 3 = 0 ∨ b1 % 3 = 1 ∨ b1 % 3 = 2 := by omega
  rcases c1 with c1 | c1 | c1 <;> rcases c2 with c2 | c2 | c2 <;> rw [c1] at v1 <;> rw [c2] at v2 <;>
    simp [k_law20_BandThree, band_begun, e1, e2, e3, e4, e5, w1, w2, w3, w4, k0, base_plain, c1, c2, v1, v2, v3, v4, v5, v6, v7, hz] <;> (try omega)
theorem has_two {k : IntKind} {x : D} (h : Sh.has (.ar 2 (.i k)) x) : ∃ a b, x = .agg [.int k a, .int k b] ∧ (Lit.int k a).wf = true ∧ (Lit.int k b).wf = true := by
  obtain ⟨l, rfl, h1, h2⟩ := has_ar h
  match l, h1 with
  | [x, y], _ =>
    obtain ⟨a, rfl, k1⟩ := has_int (h2 x (by simp))
    obtain ⟨b, rfl, k2⟩ := has_int (h2 y (by simp))
    exact ⟨a, b, rfl, k1, k2⟩
theorem law_BandThree (xs : List D) (h : Sh.hasL [.ar 2 (.i .u8), .ar 2 (.i .u8), .i .u8] xs) : run kp (.data f_law20_BandThree xs) = some (.ds [.bool true]) := by
  obtain ⟨a, _, rfl, h1, h⟩ := hasL_cons h
  obtain ⟨b, _, rfl, h2, h⟩ := hasL_cons h
  obtain ⟨c, _, rfl, h3, h⟩ := hasL_cons h
  obtain rfl := hasL_nil h
  obtain ⟨a0, a1, rfl, k1, k2⟩ := has_two h1
  obtain ⟨b0, b1, rfl, k3, k4⟩ := has_two h2
  obtain ⟨n, rfl, k5⟩ := has_int h3
  exact band_three a0 a1 b0 b1 n (wf_u8 k1) (wf_u8 k2) (wf_u8 k3) (wf_u8 k4) (wf_u8 k5)
end Go.Cd
