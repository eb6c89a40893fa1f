/- Texts of this session in one. No conditions. -/
import Derived.Test.YtfddchjmpmjcfaaGreatR8QTmB
set_option linter.unusedVariables false
set_option linter.unusedSimpArgs false
namespace Go.Cd
open Go Go.Fw
set_option maxRecDepth 10000 in
set_option maxHeartbeats 8000000 in
theorem nested_S (nl : Bool) (l : List Inst) (h : Sim l) (hl : l.length ≤ 24) : run kp (.data f_shape_nested [.sl nl (l.map Inst.d)]) = some (.ds [.bool true]) := by
  have w1 : (l.length : Int) ≤ 1073741824 := by omega
  have hp := pieces_S nl l h hl
  have r := nested_row (fun x => if 0 = x then some (Blk.row true (List.replicate l.length (D.int .i64 0))) else none) 1 l.length 0 (by omega) (by omega) (by simp)
  rw [run_data, run_call, kp_shape_nested]
  simp [k_shape_nested, hp, w1, run_round, c_shape_nested_L0, k_shape_nested_L0b, r]
set_option maxRecDepth 10000 in
set_option maxHeartbeats 8000000 in
theorem ins_S (nl : Bool) (l : List Inst) (h : Sim l) (hl : l.length ≤ 24) : run kp (.data f_shape_ins [.sl nl (l.map Inst.d)]) = some (.ds [.sl false (List.replicate l.length off24)]) := by
  have w1 : (l.length : Int) ≤ 1073741824 := by omega
  have hp := pieces_S nl l h hl
  rw [run_data, run_call, kp_shape_ins]
  simp [k_shape_ins, hp, w1, run_round, c_shape_ins_L0, k_shape_ins_L0b, off24]
def prS (nl : Bool) (l : List Inst) (M : List (D × V)) (i : Nat) (ext : Env) : St := ⟨[(1, V.ptr 0 []), (4, V.sl false 1 0 l.length), (5, V.sl false 2 0 0), (6, V.map 3), (7, V.sl false 4 0 l.length), (20, V.sl false 4 0 l.length), (21, V.int .i64 (l.length : Int)), (22, V.int .i64 (i : Int))] ++ ext, [(0, Blk.box (V.asl nl (l.map Inst.d))), (1, Blk.row true (List.replicate l.length (.int .i64 0))), (2, Blk.row true []), (3, Blk.mp M), (4, Blk.row true (List.replicate l.length off24))], fun _ => none, 0, 5⟩
set_option maxRecDepth 10000 in
set_option maxHeartbeats 16000000 in
theorem pr_first (nl : Bool) (l : List Inst) (h : Sim l) (hl : l.length ≤ 24) (i : Nat) (hi : i < l.length) : run kp (.loop [1, 4, 5, 6, 7, 20, 21, 22] k_shape_Pairs_L0 (prS nl l [] i [])) = run kp (.loop [1, 4, 5, 6, 7, 20, 21, 22] k_shape_Pairs_L0 (prS nl l [(off24, V.int .i64 (i : Int))] (i + 1) [])) := by
  have w2 : IntKind.i64.wrap ((i : Int) + 1) = ((i + 1 : Nat) : Int) := by rw [wrap_i64 (by omega) (by omega)]; omega
  obtain ⟨x, hx⟩ : ∃ x, l[i]? = some x := ⟨l[i], List.getElem?_eq_getElem hi⟩
  have hx2 : ∀ hh : i < l.length, l[i]'hh = x := fun hh => by rw [List.getElem?_eq_getElem hh] at hx; injection hx
  have hr : (List.replicate l.length off24)[i]? = some off24 := by rw [List.getElem?_replicate, if_pos hi]
  have mf : mapFind [(off24, V.int .i64 (i : Int))] off24 = some (V.int .i64 i) := by simp [mapFind, off24]
  have mn : mapFind [] off24 = none := rfl
  obtain ⟨o, _, _⟩ := h.op hx
  obtain ⟨op, a, b, n⟩ := x
  unfold prS
  simp only [off24] at hr mf mn ⊢
  generalize i + 1 = i' at *
  rw [run_round]
  simp only at o
  rcases o with rfl | rfl | rfl | rfl
  · simp [c_shape_Pairs_L0, k_shape_Pairs_L0b, hi, hx, hx2, Inst.d, w2, hr, mf, mn, off24]
  · simp [c_shape_Pairs_L0, k_shape_Pairs_L0b, hi, hx, hx2, Inst.d, w2, hr, mf, mn, off24]
  · simp [c_shape_Pairs_L0, k_shape_Pairs_L0b, hi, hx, hx2, Inst.d, w2, hr, mf, mn, off24]
  · simp [c_shape_Pairs_L0, k_shape_Pairs_L0b, hi, hx, hx2, Inst.d, w2, hr, mf, mn, off24]
set_option maxRecDepth 10000 in
set_option maxHeartbeats 16000000 in
theorem pr_next (nl : Bool) (l : List Inst) (h : Sim l) (hl : l.length ≤ 24) (i : Nat) (hi : i < l.length) : run kp (.loop [1, 4, 5, 6, 7, 20, 21, 22] k_shape_Pairs_L0 (prS nl l [(off24, V.int .i64 0)] i [])) = run kp (.loop [1, 4, 5, 6, 7, 20, 21, 22] k_shape_Pairs_L0 (prS nl l [(off24, V.int .i64 0)] (i + 1) [])) := by
  have w2 : IntKind.i64.wrap ((i : Int) + 1) = ((i + 1 : Nat) : Int) := by rw [wrap_i64 (by omega) (by omega)]; omega
  obtain ⟨x, hx⟩ : ∃ x, l[i]? = some x := ⟨l[i], List.getElem?_eq_getElem hi⟩
  have hx2 : ∀ hh : i < l.length, l[i]'hh = x := fun hh => by rw [List.getElem?_eq_getElem hh] at hx; injection hx
  have hr : (List.replicate l.length off24)[i]? = some off24 := by rw [List.getElem?_replicate, if_pos hi]
  have mf : mapFind [(off24, V.int .i64 (0 : Int))] off24 = some (V.int .i64 0) := by simp [mapFind, off24]
  have mn : mapFind [] off24 = none := rfl
  obtain ⟨o, _, _⟩ := h.op hx
  obtain ⟨op, a, b, n⟩ := x
  unfold prS
  simp only [off24] at hr mf mn ⊢
  generalize i + 1 = i' at *
  rw [run_round]
  simp only at o
  rcases o with rfl | rfl | rfl | rfl
  · simp [c_shape_Pairs_L0, k_shape_Pairs_L0b, hi, hx, hx2, Inst.d, w2, hr, mf, mn, off24]
  · simp [c_shape_Pairs_L0, k_shape_Pairs_L0b, hi, hx, hx2, Inst.d, w2, hr, mf, mn, off24]
  · simp [c_shape_Pairs_L0, k_shape_Pairs_L0b, hi, hx, hx2, Inst.d, w2, hr, mf, mn, off24]
  · simp [c_shape_Pairs_L0, k_shape_Pairs_L0b, hi, hx, hx2, Inst.d, w2, hr, mf, mn, off24]
theorem pr_run (nl : Bool) (l : List Inst) (h : Sim l) (hl : l.length ≤ 24) : ∀ (k i : Nat), i + k = l.length → run kp (.loop [1, 4, 5, 6, 7, 20, 21, 22] k_shape_Pairs_L0 (prS nl l [(off24, V.int .i64 0)] i [])) = some (.out (.ext 0) (prS nl l [(off24, V.int .i64 0)] l.length [(23, .bool false)]))
  | 0, i, e => by
    obtain rfl : i = l.length := by omega
    unfold prS
    rw [run_round]
    simp [c_shape_Pairs_L0, k_shape_Pairs_L0b]
  | k + 1, i, e => by
    rw [pr_next nl l h hl i (by omega)]
    exact pr_run nl l h hl k (i + 1) (by omega)
set_option maxRecDepth 10000 in
set_option maxHeartbeats 8000000 in
theorem Pairs_S (nl : Bool) (l : List Inst) (h : Sim l) (hl : 1 ≤ l.length ∧ l.length ≤ 24) : run kp (.data f_shape_Pairs [.sl nl (l.map Inst.d)]) = some (.ds [.sl false (List.replicate l.length (.int .i64 0)), .bool true]) := by
  have w1 : (l.length : Int) ≤ 1073741824 := by omega
  have hp := ins_S nl l h hl.2
  have r := pr_first nl l h hl.2 0 (by omega)
  rw [Int.natCast_zero] at r
  rw [pr_run nl l h hl.2 (l.length - 1) 1 (by omega)] at r
  simp only [prS, List.append_nil, List.cons_append, List.nil_append, Int.natCast_zero] at r
  rw [run_data, run_call, kp_shape_Pairs]
  simp [k_shape_Pairs, hp, w1, canK_canH, r, valK_val, vsOf, ownAlls, ownAll, apartHs, V.hss, V.hs, hlook, toDs, toD, pieceOf, dsK]
end Go.Cd
namespace Go.Cd
open Go Go.Fw
def myS (nl : Bool) (l : List Inst) (i : Nat) (ext : Env) : St := ⟨[(4, V.sl false 0 0 l.length), (6, V.sl false 1 0 l.length), (42, V.asl nl (l.map Inst.d)), (43, V.int .i64 (l.length : Int)), (44, V.int .i64 (i : Int))] ++ ext, [(0, Blk.row true (List.replicate l.length (.int .i64 0))), (1, Blk.row true (List.replicate l.length off24))], fun _ => none, 0, 2⟩
set_option maxRecDepth 10000 in
set_option maxHeartbeats 16000000 in
theorem my_round (nl : Bool) (l : List Inst) (h : Sim l) (hl : l.length ≤ 24) (i : Nat) (hi : i < l.length) : run kp (.loop [4, 6, 42, 43, 44] k_shape_May_L0 (myS nl l i [])) = run kp (.loop [4, 6, 42, 43, 44] k_shape_May_L0 (myS nl l (i + 1) [])) := by
  have w2 : IntKind.i64.wrap ((i : Int) + 1) = ((i + 1 : Nat) : Int) := by rw [wrap_i64 (by omega) (by omega)]; omega
  obtain ⟨x, hx⟩ : ∃ x, l[i]? = some x := ⟨l[i], List.getElem?_eq_getElem hi⟩
  have hx2 : ∀ hh : i < l.length, l[i]'hh = x := fun hh => by rw [List.getElem?_eq_getElem hh] at hx; injection hx
  have hr : (List.replicate l.length off24)[i]? = some off24 := by rw [List.getElem?_replicate, if_pos hi]
  have hm := fun tl n p hr hrow hp hlt => may3_row tl n i 0 p l.length (i : Int) (by omega) (by omega) hr hrow (by omega) hp hlt
  obtain ⟨o, _, _⟩ := h.op hx
  obtain ⟨op, a, b, n⟩ := x
  have hile : i ≤ l.length := by omega
  unfold myS
  simp only [off24] at hr ⊢
  generalize i + 1 = i' at *
  rw [run_round]
  simp only at o
  rcases o with rfl | rfl | rfl | rfl
  · simp [c_shape_May_L0, k_shape_May_L0b, hi, hx, hx2, Inst.d, w2, hr]
  · simp [c_shape_May_L0, k_shape_May_L0b, hi, hx, hx2, Inst.d, w2, hr]
  · simp [c_shape_May_L0, k_shape_May_L0b, hi, hx, hx2, Inst.d, w2, hr]
  · simp [c_shape_May_L0, k_shape_May_L0b, hi, hx, hx2, Inst.d, w2, hr, hm, hile]
theorem my_run (nl : Bool) (l : List Inst) (h : Sim l) (hl : l.length ≤ 24) : ∀ (k i : Nat), i + k = l.length → run kp (.loop [4, 6, 42, 43, 44] k_shape_May_L0 (myS nl l i [])) = some (.out (.ext 0) (myS nl l l.length [(45, .bool false)]))
  | 0, i, e => by
    obtain rfl : i = l.length := by omega
    unfold myS
    rw [run_round]
    simp [c_shape_May_L0, k_shape_May_L0b]
  | k + 1, i, e => by
    rw [my_round nl l h hl i (by omega)]
    exact my_run nl l h hl k (i + 1) (by omega)
set_option maxRecDepth 10000 in
set_option maxHeartbeats 8000000 in
theorem May_S (nl : Bool) (l : List Inst) (h : Sim l) (z : Nat) (hz : l.length = z + 1) (hl : z ≤ 23) (h0 : ∀ i x, l[i]? = some x → (x.op = 0 ↔ i = z)) : run kp (.data f_shape_May [.sl nl (l.map Inst.d)]) = some (.ds [.bool true]) := by
  have w1 : ¬ (24 : Int) < (l.length : Int) := by omega
  have w2 : ¬ (l.length : Int) < 1 := by omega
  have w3 : IntKind.i64.wrap ((l.length : Int) - 1) = (z : Int) := by rw [wrap_i64 (by omega) (by omega)]; omega
  have a := nested_S nl l h (by omega)
  have b := Pairs_S nl l h (by omega)
  have c := ins_S nl l h (by omega)
  have e := may1_row (fun _ => none) 0 nl l (by omega) (fun x hx => (h x hx).2)
  have f := may2_row (fun _ => none) 0 nl l z hz (by omega) h0
  have r := my_run nl l h (by omega) l.length 0 (by omega)
  have hne : ¬ l = [] := fun e => by subst e; simp at hz
  simp only [myS, List.append_nil, List.cons_append, List.nil_append, Int.cast_ofNat_Int] at r
  rw [run_data, run_call, kp_shape_May]
  simp [k_shape_May, w1, w2, w3, a, b, c, e, f, r, hne]
end Go.Cd
