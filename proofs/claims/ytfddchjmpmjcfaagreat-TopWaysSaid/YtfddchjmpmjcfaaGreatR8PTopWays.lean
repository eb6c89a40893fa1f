/- The law TopWays, as the evaluator has it: the whole. No conditions. -/
import Derived.Test.YtfddchjmpmjcfaaGreatR8PTopWays3
import Derived.Test.YtfddchjmpmjcfaaGreatS5
set_option linter.unusedVariables false
set_option linter.unusedSimpArgs false
namespace Go.Cd
open Go Go.Fw
set_option maxRecDepth 10000 in
set_option maxHeartbeats 8000000 in
theorem w2_end (inn : Int) (hn : Bool) (H : List D) (m q : Nat) (K : List D) :
    run kp (.loop KL2 k_top_TopWays_L2 (w2S inn hn H m q K H.length [])) = some (.out (.ext 4) (w2S inn hn H m q K H.length [(111, .bool false)])) := by
  unfold w2S KL2
  generalize m + 1 = c at *
  generalize q + 1 = w at *
  rw [run_round]
  simp [c_top_TopWays_L2, k_top_TopWays_L2b]
theorem w2_run (inn : Int) (hi : -9223372036854775808 ≤ inn ∧ inn ≤ 9223372036854775807) (hn : Bool) (H : List D) (hl : H.length ≤ 12) (hH : ∀ y ∈ H, ∃ v, y = .int .u8 v ∧ 0 ≤ v ∧ v < 256) (m q : Nat) (hm : 1 ≤ m ∧ m ≤ 9) (hq : 1 ≤ q ∧ q ≤ m) : ∀ (k g : Nat) (jn : Bool), g + k = H.length →
    ∃ K, run kp (.loop KL2 k_top_TopWays_L2 (w2S inn hn H m q (kW m q (40 * (g : Int)) false jn []).l g [])) = some (.out (.ext 4) (w2S inn hn H m q K H.length [(111, .bool false)]))
  | 0, g, jn, h => by
    obtain rfl : g = H.length := by omega
    exact ⟨_, w2_end inn hn H m q _⟩
  | k + 1, g, jn, h => by
    have hg : g < H.length := by omega
    obtain ⟨v, ev, hv⟩ := hH _ (List.getElem_mem hg)
    have hu : 0 ≤ v.tmod 40 ∧ v.tmod 40 < 40 := by rw [Int.tmod_eq_emod_of_nonneg hv.1]; omega
    obtain ⟨jn', r⟩ := w2_round (g := g) (u := v.tmod 40) (v := v) ⟨hm, hq, hg, hv, by rw [List.getElem?_eq_getElem hg, ev], rfl, hu⟩ inn hi hn (40 * (g : Int)) (by omega) jn (by omega)
    have e : 40 * (g : Int) + 40 = 40 * ((g + 1 : Nat) : Int) := by omega
    rw [e] at r
    obtain ⟨K, ih⟩ := w2_run inn hi hn H hl hH m q hm hq k (g + 1) jn' (by omega)
    exact ⟨K, r.trans ih⟩
set_option maxRecDepth 10000 in
set_option maxHeartbeats 16000000 in
theorem ways_run (inn a b : Int) (hi : -9223372036854775808 ≤ inn ∧ inn ≤ 9223372036854775807) (m q : Nat) (hm : 1 ≤ m ∧ m ≤ 9) (hq : 1 ≤ q ∧ q ≤ m) (ea : a.tmod 9 = (m : Int) - 1) (eb : b.tmod (m : Int) = (q : Int) - 1) (ha : 0 ≤ a ∧ a < 256) (hb : 0 ≤ b ∧ b < 256) (hn : Bool) (H : List D) (hl : H.length ≤ 12) (hH : ∀ y ∈ H, ∃ v, y = .int .u8 v ∧ 0 ≤ v ∧ v < 256) : ∃ u k, run kp (.call f_top_TopWays [.int .i64 inn, .int .u8 a, .int .u8 b, .d (.sl hn H)] (fun _ => none) 0) = some (.val (.bool true) u k) := by
  have g : ¬ (12 : Int) < H.length := by omega
  have w1 : IntKind.i64.wrap ((m : Int) - 1) = (m : Int) - 1 := wrap_i64 (by omega) (by omega)
  have w2 : IntKind.i64.wrap (2 + ((m : Int) - 1)) = ((m + 1 : Nat) : Int) := by rw [wrap_i64 (by omega) (by omega)]; omega
  have w3 : IntKind.i64.wrap ((m + 1 : Nat) - 1 : Int) = (m : Int) := by rw [wrap_i64 (by omega) (by omega)]; omega
  have w4 : IntKind.i64.wrap b = b := wrap_i64 (by omega) (by omega)
  have w5 : IntKind.i64.wrap (2 + ((q : Int) - 1)) = ((q + 1 : Nat) : Int) := by rw [wrap_i64 (by omega) (by omega)]; omega
  have g3 : ¬ m = 0 := by omega
  have l0 := wA_run inn hn H m q hm m 0 (by omega)
  have l1 := wB_run inn hn H m q (by omega) q 0 (by omega)
  have al := tw_all hm hq
  obtain ⟨K, l2⟩ := w2_run inn hi hn H hl hH m q hm hq H.length 0 true (by omega)
  have pc1 := play_Call_K 1 (match (twT m q).d with | .agg l => l | _ => []) 0 0
  have pc5 := play_Call_K 5 (match zT with | .agg l => l | _ => []) 0 0
  have eq1 : ((q + 1 : Nat) : Int) = (q : Int) + 1 := by omega
  simp only [wSA, fil_zero, Int.cast_ofNat_Int] at l0
  simp only [wSB, fil_zero, fil_add, fil_sets, Int.cast_ofNat_Int] at l0 l1
  simp only [w2S, KL2, kW, k1, bW, Bd.d, twT, tsOf, Ts.d, Rw.d, Kn.l, Kn.d, List.map_cons, List.map_nil, Int.cast_ofNat_Int, Int.mul_zero, eq1] at l2
  simp only [twT, tsOf, Ts.d, Rw.d, r1, Kn.d, bdD, stD, clD, rpD, hz, zT, List.map_cons, List.map_nil, eq1] at pc1 pc5 al
  have e1 := adds_len m
  have e2 := sets_len q
  generalize hc : m + 1 = c at *
  generalize hw : q + 1 = w at *
  have g5 : (c : Int) ≤ 1073741824 := by omega
  have g6 : (w : Int) ≤ 1073741824 := by omega
  generalize hA : adds m = A at *
  generalize hS : sets q = S at *
  simp only [zI, List.cons_append, List.nil_append] at l0 l1 l2
  have t1 : List.take c (List.map Inst.d A) = List.map Inst.d A := List.take_of_length_le (by simp; omega)
  have t2 : List.take w (List.map Inst.d S) = List.map Inst.d S := List.take_of_length_le (by simp; omega)
  rw [run_call, kp_top_TopWays]
  simp [k_top_TopWays, top_begun, g, ea, eb, w1, w2, w3, w4, w5, g3, g5, g6, l0, l1, pc1, pc5, al, e1, e2, t1, t2, l2, canK_canH]
theorem has_bytesW {x : D} (h : Sh.has (.sl (.i .u8)) x) : ∃ nl l, x = .sl nl l ∧ l.length ≤ maxLen ∧ ∀ y ∈ l, ∃ v, y = .int .u8 v ∧ 0 ≤ v ∧ v < 256 := by
  obtain ⟨nl, l, rfl, h1, h2, h3⟩ := has_sl h
  refine ⟨nl, l, rfl, h2, fun y hy => ?_⟩
  obtain ⟨v, rfl, k⟩ := has_int (h3 y hy)
  exact ⟨v, rfl, wf_u8 k⟩
theorem wf_i64W {n : Int} (h : (Lit.int .i64 n).wf = true) : -9223372036854775808 ≤ n ∧ n < 9223372036854775808 := by
  simp [Lit.wf, IntKind.min, IntKind.max, IntKind.signed, IntKind.bits] at h; omega
set_option maxRecDepth 10000 in
set_option maxHeartbeats 8000000 in
theorem law2_TopWays (xs : List D) (h : Sh.hasL [.i .i64, .i .u8, .i .u8, .sl (.i .u8)] xs) : ∃ u k, run kp (.call f_top_TopWays (xs.map ofD) (fun _ => none) 0) = some (.val (.bool true) u k) := by
  obtain ⟨x1, _, rfl, h1, h⟩ := hasL_cons h
  obtain ⟨x2, _, rfl, h2, h⟩ := hasL_cons h
  obtain ⟨x3, _, rfl, h3, h⟩ := hasL_cons h
  obtain ⟨x4, _, rfl, h4, h⟩ := hasL_cons h
  obtain rfl := hasL_nil h
  obtain ⟨inn, rfl, k1⟩ := has_int h1
  obtain ⟨a, rfl, k2⟩ := has_int h2
  obtain ⟨b, rfl, k3⟩ := has_int h3
  obtain ⟨hn, H, rfl, p3, p4⟩ := has_bytesW h4
  have k1 := wf_i64W k1
  have k2 := wf_u8 k2
  have k3 := wf_u8 k3
  by_cases g : H.length ≤ 12
  · obtain ⟨m, em⟩ : ∃ m : Nat, (m : Int) = a.tmod 9 + 1 := ⟨(a.tmod 9 + 1).toNat, by rw [Int.tmod_eq_emod_of_nonneg k2.1]; omega⟩
    have hm : 1 ≤ m ∧ m ≤ 9 := by rw [Int.tmod_eq_emod_of_nonneg k2.1] at em; omega
    have hb : 0 ≤ b.tmod (m : Int) ∧ b.tmod (m : Int) < m := by
      rw [Int.tmod_eq_emod_of_nonneg k3.1]
      exact ⟨Int.emod_nonneg _ (by omega), Int.emod_lt_of_pos _ (by omega)⟩
    obtain ⟨q, eq⟩ : ∃ q : Nat, (q : Int) = b.tmod (m : Int) + 1 := ⟨(b.tmod (m : Int) + 1).toNat, by omega⟩
    exact ways_run inn a b (by omega) m q hm (by omega) (by omega) (by omega) k2 k3 hn H g p4
  · refine ⟨[], 0, ?_⟩
    have g1 : (12 : Int) < H.length := by omega
    rw [List.map_cons, run_call, kp_top_TopWays]
    simp [k_top_TopWays, top_begun, g1, canK_canH]
end Go.Cd
