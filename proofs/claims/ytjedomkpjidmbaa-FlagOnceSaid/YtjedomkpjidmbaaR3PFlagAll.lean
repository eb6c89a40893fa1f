/- The law FlagAll, as the evaluator has it. No conditions. -/
import Derived.Test.YtjedomkpjidmbaaR3QFlagS
set_option linter.unusedVariables false
set_option linter.unusedSimpArgs false
namespace Go.Cd
open Go Go.Fw
theorem u32_and_key (a b : Int) : bits .and .u32 a b = (((BitVec.ofInt 32 a &&& BitVec.ofInt 32 b).toNat : Nat) : Int) := by
  have key : bits .and .u32 a b = IntKind.u32.wrap (((BitVec.ofInt 32 a &&& BitVec.ofInt 32 b).toNat : Nat) : Int) := rfl
  have := (BitVec.ofInt 32 a &&& BitVec.ofInt 32 b).isLt
  rw [key]; exact wrap_u32 (by omega) (by omega)
theorem u32_or_key (a b : Int) : bits .or .u32 a b = (((BitVec.ofInt 32 a ||| BitVec.ofInt 32 b).toNat : Nat) : Int) := by
  have key : bits .or .u32 a b = IntKind.u32.wrap (((BitVec.ofInt 32 a ||| BitVec.ofInt 32 b).toNat : Nat) : Int) := rfl
  have := (BitVec.ofInt 32 a ||| BitVec.ofInt 32 b).isLt
  rw [key]; exact wrap_u32 (by omega) (by omega)
theorem u32_andNot_key (a b : Int) : bits .andNot .u32 a b = (((BitVec.ofInt 32 a &&& ~~~ BitVec.ofInt 32 b).toNat : Nat) : Int) := by
  have key : bits .andNot .u32 a b = IntKind.u32.wrap (((BitVec.ofInt 32 a &&& ~~~ BitVec.ofInt 32 b).toNat : Nat) : Int) := rfl
  have := (BitVec.ofInt 32 a &&& ~~~ BitVec.ofInt 32 b).isLt
  rw [key]; exact wrap_u32 (by omega) (by omega)
theorem ofInt_toNat (x : BitVec 32) : BitVec.ofInt 32 ((x.toNat : Nat) : Int) = x := by simp
theorem u32_and_comm (a b : Int) : bits .and .u32 a b = bits .and .u32 b a := by
  rw [u32_and_key, u32_and_key, BitVec.and_comm]
def InU32 (a : Int) : Prop := 0 ≤ a ∧ a < 4294967296
theorem u32_toInt {a : Int} (h : InU32 a) : ((BitVec.ofInt 32 a).toNat : Int) = a := by
  have := h.1; have := h.2
  simp only [BitVec.toNat_ofInt]
  omega
theorem bv_sub_and (x y : BitVec 32) : x - (x &&& y) = x &&& ~~~(x &&& y) := by
  have h : (x &&& y) + (x &&& ~~~(x &&& y)) = x := by
    rw [BitVec.add_eq_or_of_and_eq_zero]
    · ext i hi; simp; cases x[i] <;> cases y[i] <;> rfl
    · ext i hi; simp; cases x[i] <;> cases y[i] <;> simp
  generalize x &&& ~~~(x &&& y) = q at *
  generalize (x &&& y) = p at *
  rw [← h, BitVec.add_comm]
  exact BitVec.add_sub_cancel q _
theorem u32_sub_and {b : Int} (h : InU32 b) (m : Int) : IntKind.u32.wrap (b - bits .and .u32 b m) = bits .andNot .u32 b (bits .and .u32 b m) := by
  rw [u32_andNot_key, u32_and_key, ofInt_toNat, ← bv_sub_and]
  have e := u32_toInt h
  have e2 : (BitVec.ofInt 32 b &&& BitVec.ofInt 32 m).toNat ≤ (BitVec.ofInt 32 b).toNat := by
    rw [BitVec.toNat_and]; exact Nat.and_le_left
  generalize BitVec.ofInt 32 b = x at *
  generalize x &&& BitVec.ofInt 32 m = y at *
  have := x.isLt
  rw [BitVec.toNat_sub_of_le (by simpa [BitVec.le_def] using e2)]
  rw [wrap_u32 (by omega) (by omega)]
  omega
theorem u32_andNot_in (a b : Int) : InU32 (bits .andNot .u32 a b) := by
  rw [u32_andNot_key]
  have := (BitVec.ofInt 32 a &&& ~~~ BitVec.ofInt 32 b).isLt
  exact ⟨by omega, by omega⟩
theorem u32_or_in (a b : Int) : InU32 (bits .or .u32 a b) := by
  rw [u32_or_key]
  have := (BitVec.ofInt 32 a ||| BitVec.ofInt 32 b).isLt
  exact ⟨by omega, by omega⟩
theorem raise_same : ∀ (r : List Waiter) (b : Int) (l t : List Waiter), InU32 b → refRaiseF r b l t = raiseF r b l t
  | [], b, l, t, _ => rfl
  | w :: r, b, l, t, h => by
    simp only [refRaiseF, raiseF]
    rw [u32_and_comm w.mask b, u32_sub_and h, raise_same r b _ _ h, raise_same r _ _ _ (u32_andNot_in _ _)]
theorem await_same (f : Flag) (h : InU32 f.bits) (c m : Int) : refAwaitF f c m = awaitF f c m := by
  simp only [refAwaitF, awaitF, u32_sub_and h]
theorem raiseF_len : ∀ (r : List Waiter) (b : Int) (l t : List Waiter), (raiseF r b l t).2.1.length + (raiseF r b l t).2.2.length = l.length + t.length + r.length
  | [], b, l, t => rfl
  | w :: r, b, l, t => by
    simp only [raiseF]
    split
    · rw [raiseF_len r]; simp; omega
    · rw [raiseF_len r]; simp; omega
theorem awaitF_len (f : Flag) (c m : Int) : (awaitF f c m).2.1.length ≤ f.wait.length + 1 := by
  simp only [awaitF]
  (repeat' split) <;> simp
set_option maxRecDepth 100000 in
theorem flag_begun : run kp (.data f_law13_begun []) = some (.ds [.bool true]) := run_of (n := 2000) (by kernel_rfl)
def waiterSh : Sh := .st [.i .i64, .i .u32]
theorem has_waiter {x : D} (h : Sh.has waiterSh x) : ∃ w : Waiter, x = w.d ∧ True := by
  obtain ⟨l, rfl, h⟩ := has_st h
  obtain ⟨a, _, rfl, h1, h⟩ := hasL_cons h
  obtain ⟨b, _, rfl, h2, h⟩ := hasL_cons h
  obtain rfl := hasL_nil h
  obtain ⟨a, rfl, k1⟩ := has_int h1
  obtain ⟨b, rfl, k2⟩ := has_int h2
  exact ⟨⟨a, b⟩, rfl, trivial⟩
theorem has_flag {x : D} (h : Sh.has (.st [.i .u32, .sl waiterSh]) x) : ∃ f : Flag, x = f.d ∧ InU32 f.bits ∧ (f.wn = true → f.wait = []) ∧ f.wait.length ≤ maxLen := by
  obtain ⟨l, rfl, h⟩ := has_st h
  obtain ⟨a, _, rfl, h1, h⟩ := hasL_cons h
  obtain ⟨b, _, rfl, h2, h⟩ := hasL_cons h
  obtain rfl := hasL_nil h
  obtain ⟨a, rfl, k1⟩ := has_int h1
  obtain ⟨nl, l, rfl, h3, h4, h5⟩ := has_sl h2
  obtain ⟨m, rfl, hm⟩ := all_typed (f := Waiter.d) (fun y hy => has_waiter hy) l h5
  exact ⟨⟨a, nl, m⟩, rfl, wf_u32 k1, by simpa using h3, by simpa using h4⟩
theorem flag_all (f : Flag) (hb : InU32 f.bits) (hn : f.wn = true → f.wait = []) (hf : f.wait.length ≤ 8) (m c : Int) : run kp (.data f_law13_FlagAll [f.d, .int .u32 m, .int .i64 c]) = some (.ds [.bool true]) := by
  rw [run_data, run_call, kp_law13_FlagAll]
  have hf1 : f.wait.length ≤ 1000 := by omega
  have hf2 : ¬ (8 : Int) < f.wait.length := by omega
  have r1 := flag_Raise f hf1 m
  have r2 := ref11_Raise f hf1 m
  rw [raise_same _ _ _ _ (u32_or_in _ _)] at r2
  have rl := raiseF_len f.wait (bits .or .u32 f.bits m) [] []
  generalize raiseF f.wait (bits .or .u32 f.bits m) [] [] = r at r1 r2 rl
  obtain ⟨rb, rw, rt⟩ := r
  simp only [List.length_nil] at r1 r2 rl
  obtain ⟨nw, ew⟩ := rowD_eq rw
  obtain ⟨nt, et⟩ := rowD_eq rt
  obtain ⟨nc, ec⟩ := whoD_eq f.wait
  rw [ew, et] at r1 r2
  have q1 := flag_Reset f hf1
  have q2 := ref11_Clients f hf1
  rw [ec] at q1 q2
  have sf := same_flag 0 true true [] (by simp)
  have si := same_ints nc nc (f.wait.map Waiter.client) (by simpa using hf1)
  have sw : rw.length ≤ 1000 := by omega
  have st : rt.length ≤ 1000 := by omega
  have a1 := fun c => flag_Await f hn hf1 c m
  have a2 := fun c => ref11_Await f hf1 c m
  simp only [await_same f hb] at a2
  have a3 := fun c => awaitF_len f c m
  generalize (fun c => awaitF f c m) = aw at *
  obtain ⟨b, nl, l⟩ := f
  simp only [Flag.d] at *
  have step : ∀ (i : Int), 0 ≤ i → i < 3 → ∀ ci : Int, (∀ hh : i.toNat < [D.int .i64 c, D.int .i64 1, D.int .i64 2].length, [D.int .i64 c, D.int .i64 1, D.int .i64 2][i.toNat] = .int .i64 ci) → run kp (.loop [1, 3, 11, 12] k_law13_FlagAll_L0 { env := [(1, .int .u32 m), (3, .ptr 0 []), (11, .sl false 1 0 3), (12, .int .i64 i)], hp := [(0, .box (.agg [.int .u32 b, .asl nl (l.map Waiter.d)])), (1, .row true [.int .i64 c, .int .i64 1, .int .i64 2])], tl := fun _ => none, base := 0, next := 2 }) =
      run kp (.loop [1, 3, 11, 12] k_law13_FlagAll_L0 { env := [(1, .int .u32 m), (3, .ptr 0 []), (11, .sl false 1 0 3), (12, .int .i64 (i + 1))], hp := [(0, .box (.agg [.int .u32 b, .asl nl (l.map Waiter.d)])), (1, .row true [.int .i64 c, .int .i64 1, .int .i64 2])], tl := fun _ => none, base := 0, next := 2 }) := by
    intro i h0 h3 ci hget
    have hw : IntKind.i64.wrap (i + 1) = i + 1 := wrap_i64 (by omega) (by omega)
    obtain ⟨na, a1⟩ := a1 ci
    have a2 := a2 ci
    have a3 := a3 ci
    generalize awaitF { bits := b, wn := nl, wait := l } ci m = w at *
    obtain ⟨wb, ww, wg, wk⟩ := w
    simp only at a1 a2 a3
    have hww : ww.length ≤ 1000 := by omega
    rw [run_round]
    by_cases hna : na = true ∧ ww = []
    · obtain ⟨rfl, rfl⟩ := hna
      simp only [List.map_nil] at a1 a2
      have sfn := same_flag wb true false [] (by simp)
      simp only [List.map_nil] at sfn
      simp [c_law13_FlagAll_L0, k_law13_FlagAll_L0b, h0, h3, hw, hget, a1, a2, sfn]
    · simp [c_law13_FlagAll_L0, k_law13_FlagAll_L0b, h0, h3, hw, hget, a1, a2, same_flag, hww, hna]
  have last : run kp (.loop [1, 3, 11, 12] k_law13_FlagAll_L0 { env := [(1, .int .u32 m), (3, .ptr 0 []), (11, .sl false 1 0 3), (12, .int .i64 0)], hp := [(0, .box (.agg [.int .u32 b, .asl nl (l.map Waiter.d)])), (1, .row true [.int .i64 c, .int .i64 1, .int .i64 2])], tl := fun _ => none, base := 0, next := 2 }) = some (.out (.ext 0) { env := [(1, .int .u32 m), (3, .ptr 0 []), (11, .sl false 1 0 3), (12, .int .i64 3), (52, .bool false)], hp := [(0, .box (.agg [.int .u32 b, .asl nl (l.map Waiter.d)])), (1, .row true [.int .i64 c, .int .i64 1, .int .i64 2])], tl := fun _ => none, base := 0, next := 2 }) := by
    rw [step 0 (by decide) (by decide) c (fun _ => rfl), step (0 + 1) (by decide) (by decide) 1 (fun _ => rfl), step (0 + 1 + 1) (by decide) (by decide) 2 (fun _ => rfl), run_round]
    simp [c_law13_FlagAll_L0, k_law13_FlagAll_L0b]
  have e1 : ∃ nw, rowD rw = .sl nw (rw.map Waiter.d) ∧ ((nw = true ∧ rw = []) ∨ (nw = false ∧ ¬ rw = [])) := by
    cases rw <;> simp [rowD]
  have e2 : ∃ nw, rowD rt = .sl nw (rt.map Waiter.d) ∧ ((nw = true ∧ rt = []) ∨ (nw = false ∧ ¬ rt = [])) := by
    cases rt <;> simp [rowD]
  have sn := same_waiters true true [] (by simp)
  have sfr := fun b => same_flag b true true [] (by simp)
  simp only [List.map_nil] at sn sf sfr
  rw [List.map_map] at si
  have e3 : (nc = true ∧ l = []) ∨ (nc = false ∧ ¬ l = []) := by
    cases l <;> simp [whoD] at ec <;> simp [← ec]
  rw [ew] at e1
  rw [et] at e2
  obtain ⟨nw', e1, f1⟩ := e1
  obtain ⟨nt', e2, f2⟩ := e2
  injection e1 with e1 _
  injection e2 with e2 _
  subst e1 e2
  rcases f1 with ⟨rfl, rfl⟩ | ⟨rfl, f1⟩ <;> rcases f2 with ⟨rfl, rfl⟩ | ⟨rfl, f2⟩ <;> rcases e3 with ⟨rfl, rfl⟩ | ⟨rfl, f3⟩ <;> simp only [List.map_nil] at * <;>
    simp [k_law13_FlagAll, flag_begun, hf2, r1, r2, same_flag, same_waiters, sn, sfr, sw, st, q1, q2, sf, si, last, *]
theorem law_FlagAll (xs : List D) (h : Sh.hasL [.st [.i .u32, .sl (.st [.i .i64, .i .u32])], .i .u32, .i .i64] xs) : run kp (.data f_law13_FlagAll xs) = some (.ds [.bool true]) := by
  obtain ⟨x1, _, rfl, h1, h⟩ := hasL_cons h
  obtain ⟨x2, _, rfl, h2, h⟩ := hasL_cons h
  obtain ⟨x3, _, rfl, h3, h⟩ := hasL_cons h
  obtain rfl := hasL_nil h
  obtain ⟨f, rfl, hb, hn, hl⟩ := has_flag h1
  obtain ⟨m, rfl, k2⟩ := has_int h2
  obtain ⟨c, rfl, k3⟩ := has_int h3
  by_cases hf : f.wait.length ≤ 8
  · exact flag_all f hb hn hf m c
  · rw [run_data, run_call, kp_law13_FlagAll]
    have hf2 : (8 : Int) < f.wait.length := by omega
    simp [k_law13_FlagAll, flag_begun, Flag.d, hf2]
end Go.Cd
