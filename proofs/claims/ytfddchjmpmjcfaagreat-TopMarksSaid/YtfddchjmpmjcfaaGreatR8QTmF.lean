/- Texts of this session in one. No conditions. -/
import Derived.Test.YtfddchjmpmjcfaaGreatR8QTmD
set_option linter.unusedVariables false
set_option linter.unusedSimpArgs false
namespace Go.Cd
open Go Go.Fw
def one64 : D := .int .i64 1
def nil64 : D := .int .i64 0
def filO (n i : Nat) : List D := List.replicate i one64 ++ List.replicate (n - i) nil64
theorem filO_zero (n : Nat) : filO n 0 = List.replicate n nil64 := by simp [filO]
theorem filO_all (n : Nat) : filO n n = List.replicate n one64 := by simp [filO]
theorem filO_len {n i : Nat} (h : i ≤ n) : (filO n i).length = n := by simp [filO]; omega
theorem filO_get {n i : Nat} (h : i < n) : (filO n i)[i]? = some nil64 := by
  rw [filO, List.getElem?_append_right (by simp), List.getElem?_replicate]
  simp; omega
theorem filO_set {n i : Nat} (h : i < n) : (filO n i).set i one64 = filO n (i + 1) := by
  obtain ⟨k, rfl⟩ : ∃ k, n = i + k + 1 := ⟨n - i - 1, by omega⟩
  have e1 : i + k + 1 - i = k + 1 := by omega
  have e2 : i + k + 1 - (i + 1) = k := by omega
  rw [filO, filO, e1, e2, List.set_append_right _ _ (by simp), List.replicate_succ, List.replicate_succ']
  simp
def tmS (nl : Bool) (l : List Inst) (i : Nat) (ext : Env) : St := ⟨[(0, V.asl nl (l.map Inst.d)), (3, V.sl false 0 0 l.length), (12, V.int .i64 (l.length : Int)), (13, V.int .i64 (i : Int))] ++ ext, [(0, Blk.row true (filO l.length i))], fun _ => none, 0, 1⟩
set_option maxRecDepth 10000 in
set_option maxHeartbeats 8000000 in
theorem tm_round (nl : Bool) (l : List Inst) (hl : l.length ≤ 24) (i : Nat) (hi : i < l.length) : run kp (.loop [0, 3, 12, 13] k_cost_times_L0 (tmS nl l i [])) = run kp (.loop [0, 3, 12, 13] k_cost_times_L0 (tmS nl l (i + 1) [])) := by
  have w2 : IntKind.i64.wrap ((i : Int) + 1) = ((i + 1 : Nat) : Int) := by rw [wrap_i64 (by omega) (by omega)]; omega
  have f1 := filO_get hi
  have f2 := filO_set hi
  have f3 := filO_len (n := l.length) (i := i) (by omega)
  unfold tmS
  simp only [one64, nil64] at f1 f2 f3
  generalize i + 1 = i' at *
  rw [run_round]
  simp [c_cost_times_L0, k_cost_times_L0b, hi, w2, f1, f2, f3]
theorem tm_run (nl : Bool) (l : List Inst) (hl : l.length ≤ 24) : ∀ (k i : Nat), i + k = l.length → run kp (.loop [0, 3, 12, 13] k_cost_times_L0 (tmS nl l i [])) = some (.out (.ext 0) (tmS nl l l.length [(14, .bool false)]))
  | 0, i, e => by
    obtain rfl : i = l.length := by omega
    unfold tmS
    rw [run_round]
    simp [c_cost_times_L0, k_cost_times_L0b]
  | k + 1, i, e => by
    rw [tm_round nl l hl i (by omega)]
    exact tm_run nl l hl k (i + 1) (by omega)
def tnS (nl : Bool) (l : List Inst) (i : Nat) (ext : Env) : St := ⟨[(3, V.sl false 0 0 l.length), (20, V.asl nl (l.map Inst.d)), (21, V.int .i64 (l.length : Int)), (22, V.int .i64 (i : Int))] ++ ext, [(0, Blk.row true (filO l.length l.length))], fun _ => none, 0, 1⟩
set_option maxRecDepth 10000 in
set_option maxHeartbeats 8000000 in
theorem tn_round (nl : Bool) (l : List Inst) (h : Sim l) (hl : l.length ≤ 24) (i : Nat) (hi : i < l.length) : run kp (.loop [3, 20, 21, 22] k_cost_times_L1 (tnS nl l i [])) = run kp (.loop [3, 20, 21, 22] k_cost_times_L1 (tnS nl l (i + 1) [])) := by
  have w2 : IntKind.i64.wrap ((i : Int) + 1) = ((i + 1 : Nat) : Int) := by rw [wrap_i64 (by omega) (by omega)]; omega
  obtain ⟨x, hx⟩ : ∃ x, l[i]? = some x := ⟨l[i], List.getElem?_eq_getElem hi⟩
  have hx2 : ∀ hh : i < l.length, l[i]'hh = x := fun hh => by rw [List.getElem?_eq_getElem hh] at hx; injection hx
  obtain ⟨o, _, _⟩ := h.op hx
  obtain ⟨op, a, b, n⟩ := x
  have o8 : ¬ op = 8 := by simp only at o; omega
  unfold tnS
  generalize i + 1 = i' at *
  generalize filO l.length l.length = F at *
  rw [run_round]
  simp [c_cost_times_L1, k_cost_times_L1b, hi, w2, hx, hx2, Inst.d, o8]
theorem tn_run (nl : Bool) (l : List Inst) (h : Sim l) (hl : l.length ≤ 24) : ∀ (k i : Nat), i + k = l.length → run kp (.loop [3, 20, 21, 22] k_cost_times_L1 (tnS nl l i [])) = some (.out (.ext 2) (tnS nl l l.length [(23, .bool false)]))
  | 0, i, e => by
    obtain rfl : i = l.length := by omega
    unfold tnS
    generalize filO l.length l.length = F at *
    rw [run_round]
    simp [c_cost_times_L1, k_cost_times_L1b]
  | k + 1, i, e => by
    rw [tn_round nl l h hl i (by omega)]
    exact tn_run nl l h hl k (i + 1) (by omega)
set_option maxRecDepth 10000 in
set_option maxHeartbeats 8000000 in
theorem times_S (nl : Bool) (l : List Inst) (h : Sim l) (hl : l.length ≤ 24) : run kp (.data f_cost_times [.sl nl (l.map Inst.d)]) = some (.ds [.sl false (List.replicate l.length one64)]) := by
  have w1 : (l.length : Int) ≤ 1073741824 := by omega
  have a := tm_run nl l hl l.length 0 (by omega)
  have b := tn_run nl l h hl l.length 0 (by omega)
  simp only [tmS, tnS, filO_zero, filO_all, nil64, List.append_nil, List.cons_append, List.nil_append, Int.cast_ofNat_Int] at a b
  rw [run_data, run_call, kp_cost_times]
  simp [k_cost_times, w1, a, b]
def smS (m i : Nat) (ext : Env) : St := ⟨[(2, V.int .i64 (i : Int)), (5, V.asl false (List.replicate m one64)), (6, V.int .i64 (m : Int)), (7, V.int .i64 (i : Int))] ++ ext, [], fun _ => none, 0, 0⟩
set_option maxRecDepth 10000 in
set_option maxHeartbeats 8000000 in
theorem sm_round (m i : Nat) (hm : m ≤ 24) (hi : i < m) : run kp (.loop [2, 5, 6, 7] k_cost_sum_L0 (smS m i [])) = run kp (.loop [2, 5, 6, 7] k_cost_sum_L0 (smS m (i + 1) [])) := by
  have w2 : IntKind.i64.wrap ((i : Int) + 1) = ((i + 1 : Nat) : Int) := by rw [wrap_i64 (by omega) (by omega)]; omega
  have hg : (List.replicate m one64)[i]? = some one64 := by rw [List.getElem?_replicate, if_pos hi]
  have sa := sat_Add_K (i : Int) 1 (by omega) (by omega)
  have e : (i : Int) + 1 = ((i + 1 : Nat) : Int) := by omega
  rw [e] at sa
  unfold smS
  simp only [one64] at hg ⊢
  generalize i + 1 = i' at *
  rw [run_round]
  simp [c_cost_sum_L0, k_cost_sum_L0b, hi, w2, hg, sa]
theorem sm_run (m : Nat) (hm : m ≤ 24) : ∀ (k i : Nat), i + k = m → run kp (.loop [2, 5, 6, 7] k_cost_sum_L0 (smS m i [])) = some (.out (.ext 0) (smS m m [(8, .bool false)]))
  | 0, i, e => by
    obtain rfl : i = m := by omega
    unfold smS
    rw [run_round]
    simp [c_cost_sum_L0, k_cost_sum_L0b]
  | k + 1, i, e => by
    rw [sm_round m i hm (by omega)]
    exact sm_run m hm k (i + 1) (by omega)
set_option maxRecDepth 10000 in
set_option maxHeartbeats 8000000 in
theorem sum_S (m : Nat) (hm : m ≤ 24) : run kp (.data f_cost_sum [.sl false (List.replicate m one64)]) = some (.ds [.int .i64 (m : Int)]) := by
  have a := sm_run m hm m 0 (by omega)
  simp only [smS, List.append_nil, List.cons_append, List.nil_append, Int.cast_ofNat_Int] at a
  rw [run_data, run_call, kp_cost_sum]
  simp [k_cost_sum, a]
end Go.Cd
namespace Go.Cd
open Go Go.Fw
def ofS (nl : Bool) (l : List Inst) (p f i : Nat) (ext : Env) : St := ⟨[(2, V.ptr 0 []), (4, V.sl false 1 0 l.length), (5, V.int .i64 (f : Int)), (6, V.sl false 2 0 l.length), (24, V.asl nl (l.map Inst.d)), (25, V.int .i64 (l.length : Int)), (26, V.int .i64 (i : Int))] ++ ext, [(0, Blk.box (V.d (.agg [.int .i64 (l.length : Int), .int .i64 (p : Int), .sl true []]))), (1, Blk.row true (List.replicate l.length one64)), (2, Blk.row true (List.replicate l.length (.int .i64 0)))], fun _ => none, 0, 3⟩
set_option maxRecDepth 10000 in
set_option maxHeartbeats 16000000 in
theorem of_skip (nl : Bool) (l : List Inst) (h : Sim l) (hl : l.length ≤ 24) (p f i : Nat) (hi : i < l.length) (x : Inst) (hx : l[i]? = some x) (ho : ¬ (x.op = 0 ∨ x.op = 11)) : run kp (.loop [2, 4, 5, 6, 24, 25, 26] k_cost_Of_L0 (ofS nl l p f i [])) = run kp (.loop [2, 4, 5, 6, 24, 25, 26] k_cost_Of_L0 (ofS nl l p f (i + 1) [])) := by
  have w2 : IntKind.i64.wrap ((i : Int) + 1) = ((i + 1 : Nat) : Int) := by rw [wrap_i64 (by omega) (by omega)]; omega
  have hx2 : ∀ hh : i < l.length, l[i]'hh = x := fun hh => by rw [List.getElem?_eq_getElem hh] at hx; injection hx
  obtain ⟨o, _, _⟩ := h.op hx
  obtain ⟨op, a, b, n⟩ := x
  simp only at ho o
  have o0 : ¬ op = 0 := by omega
  have o9 : ¬ op = 9 := by omega
  have o11 : ¬ op = 11 := by omega
  unfold ofS
  generalize i + 1 = i' at *
  rw [run_round]
  simp [c_cost_Of_L0, k_cost_Of_L0b, hi, w2, hx, hx2, Inst.d, o0, o9, o11]
set_option maxRecDepth 10000 in
set_option maxHeartbeats 16000000 in
theorem of_mark (nl : Bool) (l : List Inst) (h : Sim l) (hl : l.length ≤ 24) (p f i : Nat) (hf : f ≤ i) (hp : p ≤ 24) (hi : i < l.length) (x : Inst) (hx : l[i]? = some x) (ho : x.op = 0 ∨ x.op = 11) : run kp (.loop [2, 4, 5, 6, 24, 25, 26] k_cost_Of_L0 (ofS nl l p f i [])) = run kp (.loop [2, 4, 5, 6, 24, 25, 26] k_cost_Of_L0 (ofS nl l (max p (i + 1 - f)) (i + 1) (i + 1) [])) := by
  have w2 : IntKind.i64.wrap ((i : Int) + 1) = ((i + 1 : Nat) : Int) := by rw [wrap_i64 (by omega) (by omega)]; omega
  have hx2 : ∀ hh : i < l.length, l[i]'hh = x := fun hh => by rw [List.getElem?_eq_getElem hh] at hx; injection hx
  have sm := sum_S (i + 1 - f) (by omega)
  have tk : List.take (i + 1 - f) (List.drop f (List.replicate l.length one64)) = List.replicate (i + 1 - f) one64 := by
    rw [List.drop_replicate, List.take_replicate]; congr 1; omega
  have g1 : f ≤ i + 1 := by omega
  have g2 : i + 1 ≤ l.length := by omega
  have g3 : min (i + 1 - f) (l.length - f) = i + 1 - f := by omega
  have g4 : f + (i + 1 - f) ≤ l.length := by omega
  have mx : ((max p (i + 1 - f) : Nat) : Int) = if (p : Int) < ((i + 1 - f : Nat) : Int) then ((i + 1 - f : Nat) : Int) else (p : Int) := by split <;> omega
  obtain ⟨op, a, b, n⟩ := x
  simp only at ho
  unfold ofS
  rw [mx]
  generalize hd : i + 1 - f = d at *
  generalize i + 1 = i' at *
  rw [run_round]
  by_cases c : (p : Int) < (d : Int)
  · have c' : p < d := by omega
    rcases ho with rfl | rfl
    · simp [c_cost_Of_L0, k_cost_Of_L0b, hi, w2, hx, hx2, Inst.d, sm, tk, g1, g2, g3, g4, hd, maxV, mostV, c, c']
    · simp [c_cost_Of_L0, k_cost_Of_L0b, hi, w2, hx, hx2, Inst.d, sm, tk, g1, g2, g3, g4, hd, maxV, mostV, c, c']
  · have c' : ¬ p < d := by omega
    rcases ho with rfl | rfl
    · simp [c_cost_Of_L0, k_cost_Of_L0b, hi, w2, hx, hx2, Inst.d, sm, tk, g1, g2, g3, g4, hd, maxV, mostV, c, c']
    · simp [c_cost_Of_L0, k_cost_Of_L0b, hi, w2, hx, hx2, Inst.d, sm, tk, g1, g2, g3, g4, hd, maxV, mostV, c, c']
theorem of_run (nl : Bool) (l : List Inst) (h : Sim l) (hl : l.length ≤ 24) : ∀ (k p f i : Nat), i + k = l.length → f ≤ i → p ≤ i → (i = l.length → 1 ≤ p) → (∀ x, l[l.length - 1]? = some x → x.op = 0) → ∃ p' f' : Nat, run kp (.loop [2, 4, 5, 6, 24, 25, 26] k_cost_Of_L0 (ofS nl l p f i [])) = some (.out (.ext 0) (ofS nl l p' f' l.length [(27, .bool false)])) ∧ 1 ≤ p' ∧ p' ≤ l.length
  | 0, p, f, i, e, hf, hp, h1, _ => by
    obtain rfl : i = l.length := by omega
    refine ⟨p, f, ?_, h1 rfl, hp⟩
    unfold ofS
    rw [run_round]
    simp [c_cost_Of_L0, k_cost_Of_L0b]
  | k + 1, p, f, i, e, hf, hp, h1, hz => by
    have hi : i < l.length := by omega
    have hx : l[i]? = some l[i] := List.getElem?_eq_getElem hi
    by_cases c : (l[i]).op = 0 ∨ (l[i]).op = 11
    · obtain ⟨p', f', r, b⟩ := of_run nl l h hl k (max p (i + 1 - f)) (i + 1) (i + 1) (by omega) (by omega) (by omega) (by omega) hz
      exact ⟨p', f', (of_mark nl l h hl p f i hf (by omega) hi _ hx c).trans r, b⟩
    · obtain ⟨p', f', r, b⟩ := of_run nl l h hl k p f (i + 1) (by omega) (by omega) (by omega) (fun e2 => by
        have hi2 : i = l.length - 1 := by omega
        exact absurd (.inl (hz _ (by rw [← hi2]; exact hx))) c) hz
      exact ⟨p', f', (of_skip nl l h hl p f i hi _ hx c).trans r, b⟩
set_option maxRecDepth 10000 in
set_option maxHeartbeats 8000000 in
theorem Of_S (nl : Bool) (l : List Inst) (h : Sim l) (z : Nat) (hz : l.length = z + 1) (hl : z ≤ 23) (h0 : ∀ i x, l[i]? = some x → (x.op = 0 ↔ i = z)) : ∃ (pc : Nat), (1 ≤ pc ∧ pc ≤ l.length) ∧ run kp (.data f_cost_Of [.sl nl (l.map Inst.d)]) = some (.ds [.agg [.int .i64 (l.length : Int), .int .i64 (pc : Int), .sl true []], .bool true]) := by
  have a := May_S nl l h z hz hl h0
  have b := Pairs_S nl l h (by omega)
  have c := times_S nl l h (by omega)
  have e := sum_S l.length (by omega)
  obtain ⟨p', f', r, b1⟩ := of_run nl l h (by omega) l.length 0 0 0 (by omega) (by omega) (by omega) (by omega) (fun x hx => (h0 _ x hx).2 (by omega))
  refine ⟨p', b1, ?_⟩
  simp only [ofS, List.append_nil, List.cons_append, List.nil_append, Int.cast_ofNat_Int] at r
  rw [run_data, run_call, kp_cost_Of]
  simp [k_cost_Of, a, b, c, e, r]
end Go.Cd
