/- The law RowFirst, as the evaluator has it. No conditions. -/
import Derived.Test.YtohopligfihopaaR1PRowSets
set_option linter.unusedVariables false
set_option linter.unusedSimpArgs false
namespace Go.Cd
open Go Go.Fw
/-- No bit of r stands between last and i. -/
theorem rf_loop1 (r : Nat) (hr : r < 2 ^ 64) (n x : Int) (i : Nat) (hi : i < 64) (last : Int) (hl : -1 ≤ last) (hno : ∀ j : Nat, last < j → j < i → r.testBit j = false) : ∀ (d : Nat) (k : Int), last < k → k + d = i →
    run kp (.loop [0, 3, 5, 6, 8] k_law3_RowFirst_L1 { env := [(0, .int .u64 (r : Int)), (3, .int .i64 n), (5, .int .u64 x), (6, .int .i64 (i : Int)), (8, .int .i64 k)], hp := [], tl := fun _ => none, base := 0, next := 0 }) =
    some (.out (.ext 2) { env := [(0, .int .u64 (r : Int)), (3, .int .i64 n), (5, .int .u64 x), (6, .int .i64 (i : Int)), (8, .int .i64 (i : Int)), (47, .bool false)], hp := [], tl := fun _ => none, base := 0, next := 0 })
  | 0, k, hk, e => by
    obtain rfl : k = (i : Int) := by omega
    rw [run_round]
    simp [c_law3_RowFirst_L1, k_law3_RowFirst_L1b]
  | d + 1, k, hk, e => by
    have ih := rf_loop1 r hr n x i hi last hl hno d (k + 1) (by omega) (by omega)
    have is_ := row_Is r hr k
    have hb : isB r k = false := by
      unfold isB
      rw [hno k.toNat (by omega) (by omega)]; simp
    rw [hb] at is_
    have p : k < (i : Int) := by omega
    have w1 : IntKind.i64.wrap (k + 1) = k + 1 := wrap_i64 (by omega) (by omega)
    rw [← ih, run_round]
    simp [c_law3_RowFirst_L1, k_law3_RowFirst_L1b, p, is_, w1]
theorem rf_loop1n (r : Nat) (n x : Int) (i : Nat) (k : Int) (hk : ¬ k < (i : Int)) :
    run kp (.loop [0, 3, 5, 6, 8] k_law3_RowFirst_L1 { env := [(0, .int .u64 (r : Int)), (3, .int .i64 n), (5, .int .u64 x), (6, .int .i64 (i : Int)), (8, .int .i64 k)], hp := [], tl := fun _ => none, base := 0, next := 0 }) =
    some (.out (.ext 2) { env := [(0, .int .u64 (r : Int)), (3, .int .i64 n), (5, .int .u64 x), (6, .int .i64 (i : Int)), (8, .int .i64 k), (47, .bool false)], hp := [], tl := fun _ => none, base := 0, next := 0 }) := by
  rw [run_round]
  simp [c_law3_RowFirst_L1, k_law3_RowFirst_L1b, hk]
theorem set_clr_self {x a : Nat} (h : x.testBit a = true) : setN x a = x := by unfold setN; simp [h]
theorem clr_less {x a : Nat} (h : x.testBit a = true) : clrN x a < x := by
  unfold clrN
  have := Nat.ge_two_pow_of_testBit h
  have := Nat.two_pow_pos a
  simp [h]; omega
set_option maxHeartbeats 4000000 in
theorem rf_loop0 (r : Nat) (hr : r < 2 ^ 64) : ∀ (x : Nat) (n : Nat) (last : Int), x < 2 ^ 64 → -1 ≤ last → last ≤ 63 → (∀ j : Nat, x.testBit j = (r.testBit j && decide (last < (j : Int)))) → n + pcR 64 x = pcR 64 r → ∃ last' : Int,
    run kp (.loop [0, 3, 4, 5] k_law3_RowFirst_L0 { env := [(0, .int .u64 (r : Int)), (3, .int .i64 (n : Int)), (4, .int .i64 last), (5, .int .u64 (x : Int))], hp := [], tl := fun _ => none, base := 0, next := 0 }) =
    some (.out (.ext 0) { env := [(0, .int .u64 (r : Int)), (3, .int .i64 ((pcR 64 r : Nat) : Int)), (4, .int .i64 last'), (5, .int .u64 0), (18, .bool false)], hp := [], tl := fun _ => none, base := 0, next := 0 }) := by
  intro x
  induction x using Nat.strongRecOn with
  | ind x ih =>
    intro n last hx hl1 hl2 hb hn
    by_cases h0 : x = 0
    · subst h0
      refine ⟨last, ?_⟩
      rw [show pcR 64 0 = 0 from pcR_none 64 0 (fun i _ => Nat.zero_testBit i)] at hn
      rw [← hn, run_round]
      simp [c_law3_RowFirst_L0, k_law3_RowFirst_L0b]
    · obtain ⟨a, ha⟩ := first_is x h0
      have ha64 := first_lt ha hx
      have hla : last < (a : Int) ∧ r.testBit a = true := by
        have := hb a; rw [ha.1] at this; simp at this; exact ⟨this.2, this.1⟩
      have hlt := clr_less ha.1
      have hp := count_set_clr x a ha64
      rw [set_clr_self ha.1] at hp
      have hr64 := pcR_le 64 r
      obtain ⟨last', e⟩ := ih (clrN x a) hlt (n + 1) (a : Int) (by omega) (by omega) (by omega) (fun j => by
        rw [tb_clr]
        by_cases h1 : a = j
        · subst h1; simp
        · by_cases h2 : (a : Int) < (j : Int)
          · have h3 : last < (j : Int) := by omega
            rw [hb j]; simp [h1, h2, h3]
          · rw [ha.2 j (by omega)]; simp [h2]) (by omega)
      refine ⟨last', ?_⟩
      have f1 := row_First x a hx ha
      have is_ := row_Is r hr a
      have ia : inB (a : Int) := by unfold inB; omega
      have c1 := row_Clear x hx a
      have s1 := row_Set (clrN x a) (by omega) a
      simp only [isB, clrB, setB, ia, if_true, decide_true, Bool.true_and, Int.toNat_natCast, hla.2, set_clr, set_clr_self ha.1] at is_ c1 s1
      have w1 : IntKind.i64.wrap (last + 1) = last + 1 := wrap_i64 (by omega) (by omega)
      have w2 : IntKind.i64.wrap ((n : Int) + 1) = ((n + 1 : Nat) : Int) := by rw [wrap_i64 (by omega) (by omega)]; omega
      have n64 : (n : Int) ≤ 64 := by omega
      have n64' : n ≤ 64 := by omega
      have i1 : ¬ (a : Int) ≤ last := by omega
      have i2 : ¬ (63 : Int) < (a : Int) := by omega
      have i2' : ¬ 63 < a := by omega
      have i3 : ¬ x ≤ clrN x a := by omega
      have i4 : ¬ (x : Int) ≤ (clrN x a : Nat) := by omega
      have lp : ∃ k : Int, run kp (.loop [0, 3, 5, 6, 8] k_law3_RowFirst_L1 { env := [(0, .int .u64 (r : Int)), (3, .int .i64 (n : Int)), (5, .int .u64 (x : Int)), (6, .int .i64 (a : Int)), (8, .int .i64 (last + 1))], hp := [], tl := fun _ => none, base := 0, next := 0 }) =
          some (.out (.ext 2) { env := [(0, .int .u64 (r : Int)), (3, .int .i64 (n : Int)), (5, .int .u64 (x : Int)), (6, .int .i64 (a : Int)), (8, .int .i64 k), (47, .bool false)], hp := [], tl := fun _ => none, base := 0, next := 0 }) := by
        exact ⟨_, rf_loop1 r hr n x a ha64 last hl1 (fun j h1 h2 => by
          have := hb j
          rw [ha.2 j h2] at this
          simpa [h1] using this.symm) ((a : Int) - (last + 1)).toNat (last + 1) (by omega) (by omega)⟩
      obtain ⟨k, lp⟩ := lp
      have h0' : ¬ (x : Int) = 0 := by omega
      rw [← e, run_round]
      generalize clrN x a = y at *
      generalize n + 1 = m at *
      simp [c_law3_RowFirst_L0, k_law3_RowFirst_L0b, h0, h0', n64, n64', f1, is_, w1, w2, i1, i2, i2', i3, i4, lp, c1, s1]
theorem law_RowFirst (xs : List D) (h : Sh.hasL [.i .u64] xs) : run kp (.data f_law3_RowFirst xs) = some (.ds [.bool true]) := by
  obtain ⟨x1, _, rfl, h1, h⟩ := hasL_cons h
  obtain rfl := hasL_nil h
  obtain ⟨n, rfl, k1⟩ := has_int h1
  obtain ⟨r, rfl, hr⟩ := wf_u64 k1
  obtain ⟨last, e⟩ := rf_loop0 r hr r 0 (-1) hr (by omega) (by omega) (fun j => by
    have : (-1 : Int) < (j : Int) := by omega
    simp [this]) (by omega)
  have c := row_Count r hr
  generalize pcR 64 r = p at *
  simp only [Int.cast_ofNat_Int] at e
  rw [run_data, run_call, kp_law3_RowFirst]
  simp [k_law3_RowFirst, row_begun, e, c]
end Go.Cd
