/- The law MboxAll, as the evaluator has it. No conditions. -/
import Derived.Test.YtpdanhecaalfbaaR2QMboxR
set_option linter.unusedVariables false
set_option linter.unusedSimpArgs false
namespace Go.Cd
open Go Go.Fw
set_option maxRecDepth 100000 in
theorem mbox_begun : run kp (.data f_law12_begun []) = some (.ds [.bool true]) := run_of (n := 2000) (by kernel_rfl)
theorem has_box {x : D} (h : Sh.has (.st [.sl (.i .i64), .sl (.i .i64)]) x) : ∃ b : Box, x = b.d ∧ (b.ln = true → b.l = []) ∧ (b.wn = true → b.w = []) := by
  obtain ⟨l, rfl, h⟩ := has_st h
  obtain ⟨a, _, rfl, h1, h⟩ := hasL_cons h
  obtain ⟨b, _, rfl, h2, h⟩ := hasL_cons h
  obtain rfl := hasL_nil h
  obtain ⟨n1, l1, rfl, a1, a2, a3⟩ := has_nums h1
  obtain ⟨n2, l2, rfl, b1, b2, b3⟩ := has_nums h2
  exact ⟨⟨n1, l1, n2, l2⟩, rfl, a1, b1⟩
theorem postF_len (b : Box) (v : Int) : (postF b v).1.length ≤ b.l.length + 1 ∧ (postF b v).2.1.length ≤ b.w.length := by
  simp only [postF]
  split <;> (try split) <;> simp_all
theorem takeF_len (b : Box) (c : Int) : (takeF b c).1.length ≤ b.l.length ∧ (takeF b c).2.1.length ≤ b.w.length + 1 := by
  simp only [takeF]
  split
  · simp
  · split
    · simp_all
    · split <;> simp
set_option maxHeartbeats 4000000 in
theorem mbox_all (b : Box) (h1 : b.ln = true → b.l = []) (h2 : b.wn = true → b.w = []) (h3 : b.l.length ≤ 8) (h4 : b.w.length ≤ 8) (v c : Int) : run kp (.data f_law12_MboxAll [b.d, .int .i64 v, .int .i64 c]) = some (.ds [.bool true]) := by
  have hb : b.ok := ⟨h1, h2, by omega, by omega⟩
  rw [run_data, run_call, kp_law12_MboxAll]
  have h3' : ¬ (8 : Int) < b.l.length := by omega
  have h4' : ¬ (8 : Int) < b.w.length := by omega
  obtain ⟨n1, n2, p1, k1, k2⟩ := mbox_Post b hb v
  have p2 := ref11_Post b hb v
  have pl := postF_len b v
  have t1 := mbox_Take b hb
  have t2 := ref11_Take b hb
  have tl := takeF_len b
  have r1 := mbox_Reset b hb
  have si := same_ints b.wn b.wn b.w (by omega)
  have sn := same_box true true true true [] [] (by simp) (by simp)
  simp only [List.map_nil] at sn
  generalize postF b v = q at *
  obtain ⟨ql, qw, qc, qk⟩ := q
  simp only at p1 p2 k1 k2 pl
  have sb := same_box n1 false n2 false ql qw (by omega) (by omega)
  generalize (fun c => takeF b c) = tk at *
  obtain ⟨ln, l, wn, w⟩ := b
  simp only [Box.d] at *
  have step : ∀ (i : Int), 0 ≤ i → i < 3 → ∀ ci : Int, (∀ hh : i.toNat < [D.int .i64 c, D.int .i64 1, D.int .i64 2].length, [D.int .i64 c, D.int .i64 1, D.int .i64 2][i.toNat] = .int .i64 ci) → run kp (.loop [3, 13, 14] k_law12_MboxAll_L0 { env := [(3, .ptr 0 []), (13, .sl false 1 0 3), (14, .int .i64 i)], hp := [(0, .box (.agg [.asl ln (l.map (.int .i64)), .asl wn (w.map (.int .i64))])), (1, .row true [.int .i64 c, .int .i64 1, .int .i64 2])], tl := fun _ => none, base := 0, next := 2 }) =
      run kp (.loop [3, 13, 14] k_law12_MboxAll_L0 { env := [(3, .ptr 0 []), (13, .sl false 1 0 3), (14, .int .i64 (i + 1))], hp := [(0, .box (.agg [.asl ln (l.map (.int .i64)), .asl wn (w.map (.int .i64))])), (1, .row true [.int .i64 c, .int .i64 1, .int .i64 2])], tl := fun _ => none, base := 0, next := 2 }) := by
    intro i h0 h3 ci hget
    have hw : IntKind.i64.wrap (i + 1) = i + 1 := wrap_i64 (by omega) (by omega)
    obtain ⟨m1, m2, t1, j1, j2⟩ := t1 ci
    have t2 := t2 ci
    have tl := tl ci
    generalize takeF ⟨ln, l, wn, w⟩ ci = z at *
    obtain ⟨zl, zw, zv, zg, zk⟩ := z
    simp only at t1 t2 j1 j2 tl
    have sz := same_box m1 false m2 false zl zw (by omega) (by omega)
    rw [run_round]
    cases m1 with
    | true =>
      have := j1 rfl; subst this
      simp only [List.map_nil] at t1 t2 sz
      cases m2 with
      | true =>
        have := j2 rfl; subst this
        simp only [List.map_nil] at t1 t2 sz
        simp [c_law12_MboxAll_L0, k_law12_MboxAll_L0b, h0, h3, hw, hget, t1, t2, sz]
      | false => simp [c_law12_MboxAll_L0, k_law12_MboxAll_L0b, h0, h3, hw, hget, t1, t2, sz]
    | false =>
      cases m2 with
      | true =>
        have := j2 rfl; subst this
        simp only [List.map_nil] at t1 t2 sz
        simp [c_law12_MboxAll_L0, k_law12_MboxAll_L0b, h0, h3, hw, hget, t1, t2, sz]
      | false => simp [c_law12_MboxAll_L0, k_law12_MboxAll_L0b, h0, h3, hw, hget, t1, t2, sz]
  have last : run kp (.loop [3, 13, 14] k_law12_MboxAll_L0 { env := [(3, .ptr 0 []), (13, .sl false 1 0 3), (14, .int .i64 0)], hp := [(0, .box (.agg [.asl ln (l.map (.int .i64)), .asl wn (w.map (.int .i64))])), (1, .row true [.int .i64 c, .int .i64 1, .int .i64 2])], tl := fun _ => none, base := 0, next := 2 }) = some (.out (.ext 0) { env := [(3, .ptr 0 []), (13, .sl false 1 0 3), (14, .int .i64 3), (68, .bool false)], hp := [(0, .box (.agg [.asl ln (l.map (.int .i64)), .asl wn (w.map (.int .i64))])), (1, .row true [.int .i64 c, .int .i64 1, .int .i64 2])], tl := fun _ => none, base := 0, next := 2 }) := by
    rw [step 0 (by decide) (by decide) c (fun _ => rfl), step (0 + 1) (by decide) (by decide) 1 (fun _ => rfl), step (0 + 1 + 1) (by decide) (by decide) 2 (fun _ => rfl), run_round]
    simp [c_law12_MboxAll_L0, k_law12_MboxAll_L0b]
  clear step t1 t2 tl
  cases wn with
  | true =>
    have := h2 rfl; subst this
    simp only [List.map_nil] at *
    cases n1 with
    | true =>
      have := k1 rfl; subst this
      simp only [List.map_nil] at *
      cases n2 with
      | true =>
        have := k2 rfl; subst this
        simp only [List.map_nil] at *
        simp [k_law12_MboxAll, mbox_begun, h3', h4', p1, p2, sb, last, r1, sn, si]
      | false => simp [k_law12_MboxAll, mbox_begun, h3', h4', p1, p2, sb, last, r1, sn, si]
    | false =>
      cases n2 with
      | true =>
        have := k2 rfl; subst this
        simp only [List.map_nil] at *
        simp [k_law12_MboxAll, mbox_begun, h3', h4', p1, p2, sb, last, r1, sn, si]
      | false => simp [k_law12_MboxAll, mbox_begun, h3', h4', p1, p2, sb, last, r1, sn, si]
  | false =>
    cases n1 with
    | true =>
      have := k1 rfl; subst this
      simp only [List.map_nil] at *
      cases n2 with
      | true =>
        have := k2 rfl; subst this
        simp only [List.map_nil] at *
        simp [k_law12_MboxAll, mbox_begun, h3', h4', p1, p2, sb, last, r1, sn, si]
      | false => simp [k_law12_MboxAll, mbox_begun, h3', h4', p1, p2, sb, last, r1, sn, si]
    | false =>
      cases n2 with
      | true =>
        have := k2 rfl; subst this
        simp only [List.map_nil] at *
        simp [k_law12_MboxAll, mbox_begun, h3', h4', p1, p2, sb, last, r1, sn, si]
      | false => simp [k_law12_MboxAll, mbox_begun, h3', h4', p1, p2, sb, last, r1, sn, si]
theorem law_MboxAll (xs : List D) (h : Sh.hasL [.st [.sl (.i .i64), .sl (.i .i64)], .i .i64, .i .i64] xs) : run kp (.data f_law12_MboxAll xs) = some (.ds [.bool true]) := by
  obtain ⟨x1, _, rfl, h1, h⟩ := hasL_cons h
  obtain ⟨x2, _, rfl, h2, h⟩ := hasL_cons h
  obtain ⟨x3, _, rfl, h3, h⟩ := hasL_cons h
  obtain rfl := hasL_nil h
  obtain ⟨b, rfl, k1, k2⟩ := has_box h1
  obtain ⟨v, rfl, _⟩ := has_int h2
  obtain ⟨c, rfl, _⟩ := has_int h3
  by_cases hl : b.l.length ≤ 8
  · by_cases hw : b.w.length ≤ 8
    · exact mbox_all b k1 k2 hl hw v c
    · rw [run_data, run_call, kp_law12_MboxAll]
      have a1 : ¬ (8 : Int) < b.l.length := by omega
      have a2 : (8 : Int) < b.w.length := by omega
      simp [k_law12_MboxAll, mbox_begun, Box.d, a1, a2]
  · rw [run_data, run_call, kp_law12_MboxAll]
    have a1 : (8 : Int) < b.l.length := by omega
    simp [k_law12_MboxAll, mbox_begun, Box.d, a1]
end Go.Cd
