/- The law SealTurned, as the evaluator has it. No conditions. -/
import Derived.Test.YtohopligfihopaaR1QSeal
set_option linter.unusedVariables false
set_option linter.unusedSimpArgs false
namespace Go.Cd
open Go Go.Fw
set_option maxRecDepth 100000 in
theorem seal_begun : run kp (.data f_law10_begun []) = some (.ds [.bool true]) := run_of (n := 4000) (by kernel_rfl)
theorem byte_turned (v : Int) (b w : Nat) (hb : b < 256) (hb0 : b ≠ 0) (hw : w < 8) (g : Nat) (hg : g < 4294967296) :
    feed 8 g (v % 18446744073709551616).toNat ≠ feed 8 g (Go.bits .xor .i64 v (IntKind.i64.wrap ((b : Int) * 2 ^ (8 * w))) % 18446744073709551616).toNat := by
  have hp : b * 2 ^ (8 * w) < 18446744073709551616 := by
    have h1 : 2 ^ (8 * w) ≤ 2 ^ 56 := Nat.pow_le_pow_right (by decide) (by omega)
    have h2 : b * 2 ^ (8 * w) ≤ 255 * 2 ^ 56 := Nat.mul_le_mul (by omega) h1
    omega
  have es : (IntKind.i64.wrap ((b : Int) * 2 ^ (8 * w)) % 18446744073709551616).toNat = b * 2 ^ (8 * w) := by
    rw [IntKind.wrap_i64, show (b : Int) * 2 ^ (8 * w) = ((b * 2 ^ (8 * w) : Nat) : Int) by simp]
    generalize b * 2 ^ (8 * w) = z at *
    omega
  rw [xor64, es]
  generalize (v % 18446744073709551616).toNat = u
  have hpos := Nat.two_pow_pos (8 * w)
  refine feed_byte w 8 g _ _ hw hg ?_ ?_ ?_
  · rw [Nat.xor_mod_two_pow, Nat.mul_mod_left, Nat.xor_zero]
  · rw [Nat.xor_div_two_pow, Nat.mul_div_cancel _ hpos, show (256 : Nat) = 2 ^ 8 from rfl, Nat.xor_mod_two_pow, Nat.mod_eq_of_lt hb]
    intro e
    have : (0 : Nat) ^^^ (u / 2 ^ (8 * w) % 2 ^ 8) = b ^^^ (u / 2 ^ (8 * w) % 2 ^ 8) := by rw [Nat.zero_xor, Nat.xor_comm b]; exact e
    exact hb0 (xor_inj this).symm
  · rw [Nat.xor_div_two_pow, Nat.mul_div_cancel _ hpos, show (256 : Nat) = 2 ^ 8 from rfl, Nat.xor_div_two_pow, Nat.div_eq_of_lt hb, Nat.xor_zero]
set_option maxHeartbeats 4000000 in
theorem law_SealTurned (xs : List D) (h : Sh.hasL [.sl (.i .i64), .i .u8, .i .u8, .i .u8] xs) : run kp (.data f_law10_SealTurned xs) = some (.ds [.bool true]) := by
  obtain ⟨x1, _, rfl, h1, h⟩ := hasL_cons h
  obtain ⟨x2, _, rfl, h2, h⟩ := hasL_cons h
  obtain ⟨x3, _, rfl, h3, h⟩ := hasL_cons h
  obtain ⟨x4, _, rfl, h4, h⟩ := hasL_cons h
  obtain rfl := hasL_nil h
  obtain ⟨nl, l, rfl, hnl, _, _⟩ := has_nums h1
  obtain ⟨x, rfl, k2⟩ := has_int h2
  obtain ⟨y, rfl, k3⟩ := has_int h3
  obtain ⟨z, rfl, k4⟩ := has_int h4
  have hx := wf_u8 k2
  have hy := wf_u8 k3
  have hz := wf_u8 k4
  rw [run_data, run_call, kp_law10_SealTurned]
  by_cases c1 : 30 < l.length
  · have a1 : (30 : Int) < l.length := by omega
    simp [k_law10_SealTurned, seal_begun, a1]
  · have a1 : ¬ (30 : Int) < l.length := by omega
    by_cases c2 : l = []
    · subst c2
      simp [k_law10_SealTurned, seal_begun]
    · have lp : 0 < l.length := List.length_pos_iff.2 c2
      have a2 : ¬ (l.length : Int) = 0 := by omega
      by_cases c3 : z = 0
      · subst c3
        simp [k_law10_SealTurned, seal_begun, a1, c2]
      · obtain ⟨k, hk, hkl⟩ : ∃ k : Nat, (IntKind.i64.wrap x).tmod l.length = (k : Int) ∧ k < l.length := by
          rw [wrap_i64 (by omega) (by omega), Int.tmod_eq_emod_of_nonneg hx.1]
          have := Int.emod_lt_of_pos x (b := (l.length : Int)) (by omega)
          have := Int.emod_nonneg x (b := (l.length : Int)) (by omega)
          exact ⟨(x % l.length).toNat, by omega, by omega⟩
        obtain ⟨w, hw, hw8⟩ : ∃ w : Nat, IntKind.u8.wrap (8 * y.tmod 8) = ((8 * w : Nat) : Int) ∧ w < 8 := by
          refine ⟨(y % 8).toNat, ?_, by omega⟩
          rw [Int.tmod_eq_emod_of_nonneg hy.1, IntKind.wrap_u8]; omega
        obtain ⟨b, hb⟩ : ∃ b : Nat, z = b := ⟨z.toNat, by omega⟩
        have hzw : IntKind.i64.wrap z = (b : Int) := by rw [wrap_i64 (by omega) (by omega), hb]
        obtain ⟨v, hv⟩ : ∃ v, l[k]? = some v := ⟨_, List.getElem?_eq_getElem hkl⟩
        have hvg : ∀ hh : k < l.length, l[k] = v := fun hh => by rw [List.getElem?_eq_getElem hh] at hv; injection hv
        have hmin : min (8 * w) 64 = 8 * w := by omega
        have hneg : ¬ ((8 * w : Nat) : Int) < 0 := by omega
        have htn : (((8 * w : Nat) : Int)).toNat = 8 * w := by omega
        generalize hs : 8 * w = s at *
        have bt := sumOf_set l k 2166136261 (Go.bits .xor .i64 v (IntKind.i64.wrap ((b : Int) * 2 ^ s))) (by decide) hkl (fun g hg => by
          have := byte_turned v b w (by omega) (by omega) hw8 g hg
          rw [hs] at this
          simpa [List.getD_eq_getElem?_getD, hv] using this)
        have s1 := seal_Sum nl l (by omega)
        have s2 := seal_Sum false (l.set k (Go.bits .xor .i64 v (IntKind.i64.wrap ((b : Int) * 2 ^ s)))) (by simp; omega)
        have bt2 : ¬ sm (l.set k (Go.bits .xor .i64 v (IntKind.i64.wrap ((b : Int) * 2 ^ s)))) = sm l := bt
        generalize sm (l.set k (Go.bits .xor .i64 v (IntKind.i64.wrap ((b : Int) * 2 ^ s)))) = r at *
        rw [List.map_set] at s2
        have bt3 : ¬ ((r : Nat) : Int) = ((sm l : Nat) : Int) := by omega
        have tk : ∀ q, List.take l.length ((List.map (D.int .i64) l).set k q) = (List.map (D.int .i64) l).set k q := fun q => List.take_of_length_le (by simp)
        have hl3 : l.length ≤ 1073741824 := by omega
        simp [k_law10_SealTurned, seal_begun, a1, c2, c3, hk, hkl, hw, hzw, hv, hvg, s1, s2, IntKind.bits, hmin, bt2, bt3, tk, hl3, htn, hneg]
end Go.Cd
