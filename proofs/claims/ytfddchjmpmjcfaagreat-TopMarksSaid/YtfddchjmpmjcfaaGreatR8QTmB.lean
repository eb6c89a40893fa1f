/- Texts of this session in one. No conditions. -/
import Derived.Test.YtfddchjmpmjcfaaGreatR8QTwB
set_option linter.unusedVariables false
set_option linter.unusedSimpArgs false
namespace Go.Cd
open Go Go.Fw
def off24 : D := .agg [.bool false, .bool false, .bool false, .bool false, .bool false, .bool false, .bool false, .bool false, .bool false, .bool false, .bool false, .bool false, .bool false, .bool false, .bool false, .bool false, .bool false, .bool false, .bool false, .bool false, .bool false, .bool false, .bool false, .bool false]
/-- Programs of sums, settings, marks and ends. -/
def Sim (l : List Inst) : Prop := ∀ i ∈ l, simple i ∧ mayF i = true
theorem Sim.op {l : List Inst} (h : Sim l) {i : Nat} {x : Inst} (hx : l[i]? = some x) : (x.op = 0 ∨ x.op = 1 ∨ x.op = 2 ∨ x.op = 11) ∧ x.a = 0 ∧ x.b = 0 := (h x (List.mem_of_getElem? hx)).1
def pcS (nl : Bool) (l : List Inst) (i : Nat) (ext : Env) : St := ⟨[(2, V.d (.sl true [])), (5, V.asl nl (l.map Inst.d)), (6, V.int .i64 (l.length : Int)), (7, V.int .i64 (i : Int))] ++ ext, [], fun _ => none, 0, 0⟩
set_option maxRecDepth 10000 in
set_option maxHeartbeats 8000000 in
theorem pc_round (nl : Bool) (l : List Inst) (h : Sim l) (hl : l.length ≤ 24) (i : Nat) (hi : i < l.length) : run kp (.loop [2, 5, 6, 7] k_shape_pieces_L0 (pcS nl l i [])) = run kp (.loop [2, 5, 6, 7] k_shape_pieces_L0 (pcS nl l (i + 1) [])) := by
  have w2 : IntKind.i64.wrap ((i : Int) + 1) = ((i + 1 : Nat) : Int) := by rw [wrap_i64 (by omega) (by omega)]; omega
  obtain ⟨x, hx⟩ : ∃ x, l[i]? = some x := ⟨l[i], List.getElem?_eq_getElem hi⟩
  have hx2 : ∀ hh : i < l.length, l[i]'hh = x := fun hh => by rw [List.getElem?_eq_getElem hh] at hx; injection hx
  obtain ⟨o, _, _⟩ := h.op hx
  obtain ⟨op, a, b, n⟩ := x
  unfold pcS
  generalize i + 1 = i' at *
  rw [run_round]
  simp only at o
  rcases o with rfl | rfl | rfl | rfl
  · simp [c_shape_pieces_L0, k_shape_pieces_L0b, hi, hx, hx2, Inst.d, w2]
  · simp [c_shape_pieces_L0, k_shape_pieces_L0b, hi, hx, hx2, Inst.d, w2]
  · simp [c_shape_pieces_L0, k_shape_pieces_L0b, hi, hx, hx2, Inst.d, w2]
  · simp [c_shape_pieces_L0, k_shape_pieces_L0b, hi, hx, hx2, Inst.d, w2]
theorem pc_run (nl : Bool) (l : List Inst) (h : Sim l) (hl : l.length ≤ 24) : ∀ (k i : Nat), i + k = l.length → run kp (.loop [2, 5, 6, 7] k_shape_pieces_L0 (pcS nl l i [])) = some (.out (.ext 0) (pcS nl l l.length [(8, .bool false)]))
  | 0, i, e => by
    obtain rfl : i = l.length := by omega
    unfold pcS
    rw [run_round]
    simp [c_shape_pieces_L0, k_shape_pieces_L0b]
  | k + 1, i, e => by
    rw [pc_round nl l h hl i (by omega)]
    exact pc_run nl l h hl k (i + 1) (by omega)
set_option maxRecDepth 10000 in
set_option maxHeartbeats 8000000 in
theorem pieces_S (nl : Bool) (l : List Inst) (h : Sim l) (hl : l.length ≤ 24) : run kp (.data f_shape_pieces [.sl nl (l.map Inst.d)]) = some (.ds [.sl true []]) := by
  have r := pc_run nl l h hl l.length 0 (by omega)
  simp only [pcS, List.append_nil, List.cons_append, List.nil_append, Int.cast_ofNat_Int] at r
  rw [run_data, run_call, kp_shape_pieces]
  simp [k_shape_pieces, r]
end Go.Cd
namespace Go.Cd
open Go Go.Fw
theorem nested_1 (tl : Nat → Option Blk) (n : Nat) : run kp (.call f_shape_nested_1 [.int .i64 0] tl n) = some (.val (.bool false) [] n) := by
  rw [run_call, kp_shape_nested_1]
  simp [k_shape_nested_1, canK_canH]
theorem may_3 (tl : Nat → Option Blk) (n p : Nat) (i : Int) (hi : 0 ≤ i) (hp : tl p = some (.box (.int .i64 i))) (hlt : p < n) : run kp (.call f_shape_May_3 [.int .i64 0, .ptr p []] tl n) = some (.val (.bool false) [] n) := by
  have g : ¬ i < 0 := by omega
  rw [run_call, kp_shape_May_3]
  simp [k_shape_May_3, hp, gOf_below hlt, canK_canH, g]
theorem may_1 (tl : Nat → Option Blk) (n : Nat) (i : Inst) (h : mayF i = true) : run kp (.call f_shape_May_1 [.d i.d] tl n) = some (.val (.bool false) [] n) := by
  have m := code_May i
  rw [h] at m
  rw [run_call, kp_shape_May_1]
  obtain ⟨op, a, b, k⟩ := i
  simp only [Inst.d] at m ⊢
  simp [k_shape_May_1, m, canK_canH]
theorem may_2 (tl : Nat → Option Blk) (n : Nat) (i : Inst) : run kp (.call f_shape_May_2 [.d i.d] tl n) = some (.val (.bool (decide (i.op = 0))) [] n) := by
  rw [run_call, kp_shape_May_2]
  obtain ⟨op, a, b, k⟩ := i
  simp only [Inst.d]
  simp [k_shape_May_2, canK_canH]
def xAS (r : Nat) (tl : Nat → Option Blk) (n m i : Nat) (ext : Env) : St := ⟨[(0, V.sl false r 0 m), (1, V.clo f_shape_nested_1 [] []), (7, V.int .i64 (m : Int)), (8, V.int .i64 (i : Int))] ++ ext, [], tl, n, n⟩
set_option maxHeartbeats 4000000 in
theorem xA_round (r : Nat) (tl : Nat → Option Blk) (n m i : Nat) (hm : m ≤ 1000) (hr : r < n) (hrow : tl r = some (.row true (List.replicate m (.int .i64 0)))) (hi : i < m) : run kp (.loop [0, 1, 7, 8] k_slices_IndexFunc_int_int_L0 (xAS r tl n m i [])) = run kp (.loop [0, 1, 7, 8] k_slices_IndexFunc_int_int_L0 (xAS r tl n m (i + 1) [])) := by
  have w2 : IntKind.i64.wrap ((i : Int) + 1) = ((i + 1 : Nat) : Int) := by rw [wrap_i64 (by omega) (by omega)]; omega
  have hf := nested_1 tl n
  have hg : (List.replicate m (D.int IntKind.i64 0))[i]? = some (.int .i64 0) := by rw [List.getElem?_replicate, if_pos hi]
  unfold xAS
  generalize i + 1 = i' at *
  rw [run_round]
  simp [c_slices_IndexFunc_int_int_L0, k_slices_IndexFunc_int_int_L0b, hi, w2, hr, hrow, hf, hg, gOf_below hr]
theorem xA_run (r : Nat) (tl : Nat → Option Blk) (n m : Nat) (hm : m ≤ 1000) (hr : r < n) (hrow : tl r = some (.row true (List.replicate m (.int .i64 0)))) : ∀ (k i : Nat), i + k = m → run kp (.loop [0, 1, 7, 8] k_slices_IndexFunc_int_int_L0 (xAS r tl n m i [])) = some (.out (.ext 0) (xAS r tl n m m [(9, .bool false)]))
  | 0, i, e => by
    obtain rfl : i = m := by omega
    unfold xAS
    rw [run_round]
    simp [c_slices_IndexFunc_int_int_L0, k_slices_IndexFunc_int_int_L0b]
  | k + 1, i, e => by
    rw [xA_round r tl n m i hm hr hrow (by omega)]
    exact xA_run r tl n m hm hr hrow k (i + 1) (by omega)
theorem nested_row (tl : Nat → Option Blk) (n m r : Nat) (hm : m ≤ 1000) (hr : r < n) (hrow : tl r = some (.row true (List.replicate m (.int .i64 0)))) : run kp (.call f_slices_ContainsFunc_int_int [.sl false r 0 m, V.clo f_shape_nested_1 [] []] tl n) = some (.val (.bool false) [] n) := by
  have e := xA_run r tl n m hm hr hrow m 0 (by omega)
  simp only [xAS, List.append_nil, List.cons_append, List.nil_append, Int.cast_ofNat_Int] at e
  have ix : run kp (.call f_slices_IndexFunc_int_int [.sl false r 0 m, V.clo f_shape_nested_1 [] []] tl n) = some (.val (.int .i64 (-1)) [] n) := by
    rw [run_call, kp_slices_IndexFunc_int_int]
    simp [k_slices_IndexFunc_int_int, hr, e, canK_canH]
  rw [run_call, kp_slices_ContainsFunc_int_int]
  simp [k_slices_ContainsFunc_int_int, hr, ix, canK_canH]
def xBS (r p N : Nat) (v : Int) (tl : Nat → Option Blk) (n m i : Nat) (ext : Env) : St := ⟨[(0, V.sl false r 0 m), (1, V.clo f_shape_May_3 [] [V.ptr p []]), (7, V.int .i64 (m : Int)), (8, V.int .i64 (i : Int))] ++ ext, [], tl, n, n⟩
set_option maxHeartbeats 4000000 in
theorem xB_round (r p N : Nat) (v : Int) (tl : Nat → Option Blk) (n m i : Nat) (hm : m ≤ N) (hN : N ≤ 1000) (hr : r < n) (hrow : tl r = some (.row true (List.replicate N (.int .i64 0)))) (hv : 0 ≤ v) (hp : tl p = some (.box (.int .i64 v))) (hlt : p < n) (hi : i < m) : run kp (.loop [0, 1, 7, 8] k_slices_IndexFunc_int_int_L0 (xBS r p N v tl n m i [])) = run kp (.loop [0, 1, 7, 8] k_slices_IndexFunc_int_int_L0 (xBS r p N v tl n m (i + 1) [])) := by
  have w2 : IntKind.i64.wrap ((i : Int) + 1) = ((i + 1 : Nat) : Int) := by rw [wrap_i64 (by omega) (by omega)]; omega
  have hf := may_3 tl n p v hv hp hlt
  have hg : (List.replicate N (D.int IntKind.i64 0))[i]? = some (.int .i64 0) := by rw [List.getElem?_replicate, if_pos (by omega)]
  have hiN : i < N := by omega
  unfold xBS
  generalize i + 1 = i' at *
  rw [run_round]
  simp [c_slices_IndexFunc_int_int_L0, k_slices_IndexFunc_int_int_L0b, hi, w2, hlt, hr, hrow, hf, hg, gOf_below hr, hiN]
theorem xB_run (r p N : Nat) (v : Int) (tl : Nat → Option Blk) (n m : Nat) (hm : m ≤ N) (hN : N ≤ 1000) (hr : r < n) (hrow : tl r = some (.row true (List.replicate N (.int .i64 0)))) (hv : 0 ≤ v) (hp : tl p = some (.box (.int .i64 v))) (hlt : p < n) : ∀ (k i : Nat), i + k = m → run kp (.loop [0, 1, 7, 8] k_slices_IndexFunc_int_int_L0 (xBS r p N v tl n m i [])) = some (.out (.ext 0) (xBS r p N v tl n m m [(9, .bool false)]))
  | 0, i, e => by
    obtain rfl : i = m := by omega
    unfold xBS
    rw [run_round]
    simp [c_slices_IndexFunc_int_int_L0, k_slices_IndexFunc_int_int_L0b]
  | k + 1, i, e => by
    rw [xB_round r p N v tl n m i hm hN hr hrow hv hp hlt (by omega)]
    exact xB_run r p N v tl n m hm hN hr hrow hv hp hlt k (i + 1) (by omega)
theorem may3_row (tl : Nat → Option Blk) (n m r p N : Nat) (v : Int) (hm : m ≤ N) (hN : N ≤ 1000) (hr : r < n) (hrow : tl r = some (.row true (List.replicate N (.int .i64 0)))) (hv : 0 ≤ v) (hp : tl p = some (.box (.int .i64 v))) (hlt : p < n) : run kp (.call f_slices_ContainsFunc_int_int [.sl false r 0 m, V.clo f_shape_May_3 [] [V.ptr p []]] tl n) = some (.val (.bool false) [] n) := by
  have e := xB_run r p N v tl n m hm hN hr hrow hv hp hlt m 0 (by omega)
  simp only [xBS, List.append_nil, List.cons_append, List.nil_append, Int.cast_ofNat_Int] at e
  have ix : run kp (.call f_slices_IndexFunc_int_int [.sl false r 0 m, V.clo f_shape_May_3 [] [V.ptr p []]] tl n) = some (.val (.int .i64 (-1)) [] n) := by
    rw [run_call, kp_slices_IndexFunc_int_int]
    simp [k_slices_IndexFunc_int_int, hlt, hr, e, canK_canH]
  rw [run_call, kp_slices_ContainsFunc_int_int]
  simp [k_slices_ContainsFunc_int_int, hlt, hr, ix, canK_canH]
def xCS (nl : Bool) (l : List Inst) (tl : Nat → Option Blk) (n m i : Nat) (ext : Env) : St := ⟨[(0, V.asl nl (l.map Inst.d)), (1, V.clo f_shape_May_1 [] []), (7, V.int .i64 (m : Int)), (8, V.int .i64 (i : Int))] ++ ext, [], tl, n, n⟩
set_option maxHeartbeats 4000000 in
theorem xC_round (nl : Bool) (l : List Inst) (tl : Nat → Option Blk) (n m i : Nat) (hm : m = l.length) (hl : l.length ≤ 1000) (hM : ∀ x ∈ l, mayF x = true) (hi : i < m) : run kp (.loop [0, 1, 7, 8] k_slices_IndexFunc_api_Inst_api_Inst_L0 (xCS nl l tl n m i [])) = run kp (.loop [0, 1, 7, 8] k_slices_IndexFunc_api_Inst_api_Inst_L0 (xCS nl l tl n m (i + 1) [])) := by
  have w2 : IntKind.i64.wrap ((i : Int) + 1) = ((i + 1 : Nat) : Int) := by rw [wrap_i64 (by omega) (by omega)]; omega
  subst hm
  have hf := may_1 tl n (l[i]) (hM _ (List.getElem_mem hi))
  simp only [Inst.d] at hf
  have hg : l[i]? = some l[i] := List.getElem?_eq_getElem hi
  unfold xCS
  generalize i + 1 = i' at *
  rw [run_round]
  simp [c_slices_IndexFunc_api_Inst_api_Inst_L0, k_slices_IndexFunc_api_Inst_api_Inst_L0b, hi, w2, hf, hg, Inst.d]
theorem xC_run (nl : Bool) (l : List Inst) (tl : Nat → Option Blk) (n m : Nat) (hm : m = l.length) (hl : l.length ≤ 1000) (hM : ∀ x ∈ l, mayF x = true) : ∀ (k i : Nat), i + k = m → run kp (.loop [0, 1, 7, 8] k_slices_IndexFunc_api_Inst_api_Inst_L0 (xCS nl l tl n m i [])) = some (.out (.ext 0) (xCS nl l tl n m m [(9, .bool false)]))
  | 0, i, e => by
    obtain rfl : i = m := by omega
    unfold xCS
    rw [run_round]
    simp [c_slices_IndexFunc_api_Inst_api_Inst_L0, k_slices_IndexFunc_api_Inst_api_Inst_L0b]
  | k + 1, i, e => by
    rw [xC_round nl l tl n m i hm hl hM (by omega)]
    exact xC_run nl l tl n m hm hl hM k (i + 1) (by omega)
theorem may1_row (tl : Nat → Option Blk) (n : Nat) (nl : Bool) (l : List Inst) (hl : l.length ≤ 1000) (hM : ∀ x ∈ l, mayF x = true) : run kp (.call f_slices_ContainsFunc_api_Inst_api_Inst [V.asl nl (l.map Inst.d), V.clo f_shape_May_1 [] []] tl n) = some (.val (.bool false) [] n) := by
  have e := xC_run nl l tl n l.length rfl hl hM l.length 0 (by omega)
  simp only [xCS, List.append_nil, List.cons_append, List.nil_append, Int.cast_ofNat_Int] at e
  have ix : run kp (.call f_slices_IndexFunc_api_Inst_api_Inst [V.asl nl (l.map Inst.d), V.clo f_shape_May_1 [] []] tl n) = some (.val (.int .i64 (-1)) [] n) := by
    rw [run_call, kp_slices_IndexFunc_api_Inst_api_Inst]
    simp [k_slices_IndexFunc_api_Inst_api_Inst, e, canK_canH]
  rw [run_call, kp_slices_ContainsFunc_api_Inst_api_Inst]
  simp [k_slices_ContainsFunc_api_Inst_api_Inst, ix, canK_canH]
def xDS (nl : Bool) (l : List Inst) (tl : Nat → Option Blk) (n i : Nat) (ext : Env) : St := ⟨[(0, V.asl nl (l.map Inst.d)), (1, V.clo f_shape_May_2 [] []), (7, V.int .i64 (l.length : Int)), (8, V.int .i64 (i : Int))] ++ ext, [], tl, n, n⟩
set_option maxHeartbeats 4000000 in
theorem xD_run (nl : Bool) (l : List Inst) (z : Nat) (hl : l.length = z + 1) (hz : z ≤ 1000) (h0 : ∀ i x, l[i]? = some x → (x.op = 0 ↔ i = z)) (tl : Nat → Option Blk) (n : Nat) : ∀ (k i : Nat), i + k = z → ∃ s, run kp (.loop [0, 1, 7, 8] k_slices_IndexFunc_api_Inst_api_Inst_L0 (xDS nl l tl n i [])) = some (.out .ret (xDS nl l tl n z s)) ∧ s = [(9, .bool true), (16, .bool true), (4, .int .i64 (z : Int))]
  | 0, i, e => by
    obtain rfl : i = z := by omega
    have hi : i < l.length := by omega
    have hg : l[i]? = some l[i] := List.getElem?_eq_getElem hi
    have o : (l[i]).op = 0 := (h0 i _ hg).2 rfl
    have hf := may_2 tl n (l[i])
    rw [o] at hf
    simp only [Inst.d, o] at hf
    refine ⟨_, ?_, rfl⟩
    unfold xDS
    rw [run_round]
    simp at hf
    simp [c_slices_IndexFunc_api_Inst_api_Inst_L0, k_slices_IndexFunc_api_Inst_api_Inst_L0b, hi, hf, hg, Inst.d, o]
  | k + 1, i, e => by
    have hi : i < l.length := by omega
    have w2 : IntKind.i64.wrap ((i : Int) + 1) = ((i + 1 : Nat) : Int) := by rw [wrap_i64 (by omega) (by omega)]; omega
    have hg : l[i]? = some l[i] := List.getElem?_eq_getElem hi
    have o : ¬ (l[i]).op = 0 := fun c => by have := (h0 i _ hg).1 c; omega
    have hf := may_2 tl n (l[i])
    obtain ⟨s, ih, es⟩ := xD_run nl l z hl hz h0 tl n k (i + 1) (by omega)
    refine ⟨s, ?_, es⟩
    rw [← ih]
    unfold xDS
    generalize i + 1 = i' at *
    simp only [o, decide_false, Inst.d] at hf
    rw [run_round]
    simp [c_slices_IndexFunc_api_Inst_api_Inst_L0, k_slices_IndexFunc_api_Inst_api_Inst_L0b, hi, hf, hg, w2, Inst.d]
theorem may2_row (tl : Nat → Option Blk) (n : Nat) (nl : Bool) (l : List Inst) (z : Nat) (hl : l.length = z + 1) (hz : z ≤ 1000) (h0 : ∀ i x, l[i]? = some x → (x.op = 0 ↔ i = z)) : run kp (.call f_slices_IndexFunc_api_Inst_api_Inst [V.asl nl (l.map Inst.d), V.clo f_shape_May_2 [] []] tl n) = some (.val (.int .i64 (z : Int)) [] n) := by
  obtain ⟨s, e, rfl⟩ := xD_run nl l z hl hz h0 tl n z 0 (by omega)
  simp only [xDS, List.append_nil, List.cons_append, List.nil_append, Int.cast_ofNat_Int] at e
  rw [run_call, kp_slices_IndexFunc_api_Inst_api_Inst]
  simp [k_slices_IndexFunc_api_Inst_api_Inst, e, canK_canH]
end Go.Cd
