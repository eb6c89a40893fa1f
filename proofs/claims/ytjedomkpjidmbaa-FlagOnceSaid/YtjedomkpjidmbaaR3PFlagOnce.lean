/- The law FlagOnce, as the evaluator has it. No conditions. -/
import Derived.Test.YtjedomkpjidmbaaR3PFlagOnceM
set_option linter.unusedVariables false
set_option linter.unusedSimpArgs false
namespace Go.Cd
open Go Go.Fw
def wd (x : W2) : D := .agg [.int .i64 (x.c : Int), .int .u32 (nI x.m)]
theorem map_wd (ws : List W2) : (ws.map W2.w).map Waiter.d = ws.map wd := by simp [wd, W2.w, Waiter.d, Function.comp_def]
theorem raise_W (b mask : BitVec 32) (ws : List W2) (h : ws.length ≤ 1000) (b' : BitVec 32) (ws' t' : List W2) (e : raiseF (ws.map W2.w) (nI (b ||| mask)) [] [] = (nI b', ws'.map W2.w, t'.map W2.w)) :
    run kp (.data f_flag_Raise [.agg [.int .u32 (nI b), .sl ws.isEmpty (ws.map wd)], .int .u32 (nI mask)]) = some (.ds [.agg [.int .u32 (nI b'), .sl ws'.isEmpty (ws'.map wd)], .sl t'.isEmpty (t'.map wd)]) := by
  have r := flag_Raise2 ⟨nI b, ws.isEmpty, ws.map W2.w⟩ (by simpa using h) (nI mask)
  simp only [Flag.d, or_nI, e, map_wd, List.isEmpty_map] at r
  exact r
theorem await_W (b m : BitVec 32) (ws : List W2) (h : ws.length ≤ 4) (c : Nat) (hc : 1 ≤ c) :
    run kp (.data f_flag_Await [.agg [.int .u32 (nI b), .sl ws.isEmpty (ws.map wd)], .int .i64 (c : Int), .int .u32 (nI m)]) =
      if m = 0#32 then some (.ds [.agg [.int .u32 (nI b), .sl ws.isEmpty (ws.map wd)], .int .u32 0, .bool false])
      else if ¬ b &&& m = 0#32 then some (.ds [.agg [.int .u32 (nI (b &&& ~~~(b &&& m))), .sl ws.isEmpty (ws.map wd)], .int .u32 (nI (b &&& m)), .bool true])
      else if 4 ≤ ws.length ∨ c ∈ ws.map W2.c then some (.ds [.agg [.int .u32 (nI b), .sl ws.isEmpty (ws.map wd)], .int .u32 0, .bool false])
      else some (.ds [.agg [.int .u32 (nI b), .sl false ((ws ++ [(⟨c, m⟩ : W2)]).map wd)], .int .u32 0, .bool true]) := by
  have r := flag_Await2 ⟨nI b, ws.isEmpty, ws.map W2.w⟩ (by simp) (by simp; omega) (c : Int) (nI m)
  have hc' : ¬ (c : Int) < 1 := by omega
  simp only [Flag.d, awaitF, hc', false_or, nI_zero, and_nI, andNot_nI, any_client, List.length_map, map_wd, decide_eq_true_eq] at r
  rw [r]
  by_cases h1 : m = 0#32
  · simp only [h1, if_true, map_wd, List.isEmpty_map]
  · by_cases h2 : b &&& m = 0#32
    · by_cases h3 : 4 ≤ ws.length ∨ c ∈ ws.map W2.c
      · simp only [h1, h2, h3, if_true, if_false, not_true, map_wd, List.isEmpty_map]
      · simp only [h1, h2, h3, if_true, if_false, not_true]
        have : ws.map W2.w ++ [(⟨(c : Int), nI m⟩ : Waiter)] = (ws ++ [(⟨c, m⟩ : W2)]).map W2.w := by simp [W2.w]
        rw [this, map_wd]
        simp
    · simp only [h1, h2, if_true, if_false, not_false_eq_true, map_wd, List.isEmpty_map]
def wantL (want : Nat → BitVec 32) : List D := [.int .u32 (nI (want 0)), .int .u32 (nI (want 1)), .int .u32 (nI (want 2)), .int .u32 (nI (want 3)), .int .u32 (nI (want 4)), .int .u32 (nI (want 5)), .int .u32 (nI (want 6))]
@[simp] theorem wantL_len (want : Nat → BitVec 32) : (wantL want).length = 7 := rfl
theorem wantL_get (want : Nat → BitVec 32) (c : Nat) (h : c ≤ 6) : (wantL want)[c]? = some (.int .u32 (nI (want c))) := by
  have : c = 0 ∨ c = 1 ∨ c = 2 ∨ c = 3 ∨ c = 4 ∨ c = 5 ∨ c = 6 := by omega
  rcases this with rfl | rfl | rfl | rfl | rfl | rfl | rfl <;> rfl
theorem wantL_set (want : Nat → BitVec 32) (c : Nat) (h : c ≤ 6) (m : BitVec 32) : (wantL want).set c (.int .u32 (nI m)) = wantL (fun k => if k = c then m else want k) := by
  have : c = 0 ∨ c = 1 ∨ c = 2 ∨ c = 3 ∨ c = 4 ∨ c = 5 ∨ c = 6 := by omega
  rcases this with rfl | rfl | rfl | rfl | rfl | rfl | rfl <;> rfl
theorem wantL_clr (want : Nat → BitVec 32) (c : Nat) (h : c ≤ 6) : (wantL want).set c (.int .u32 0) = wantL (clr want c) := wantL_set want c h 0#32
def fV (k : Nat) (b : BitVec 32) : List W2 → V
  | [] => .d (.agg [.int .u32 (nI b), .sl true []])
  | _ :: l => .agg [.int .u32 (nI b), .sl false k 0 (l.length + 1)]
def fH (k : Nat) : List W2 → Hp
  | [] => []
  | a :: l => [(k, .row true (wd a :: l.map wd))]
def fN : List W2 → Nat
  | [] => 0
  | _ :: _ => 1
def tV (k : Nat) : List W2 → V
  | [] => .d (.sl true [])
  | _ :: l => .sl false k 0 (l.length + 1)
structure D3 where
  a : Int
  b : Int
  c : Int
def D3.d (x : D3) : D := .agg [.int .u8 x.a, .int .u8 x.b, .int .u8 x.c]
def foSt (nl : Bool) (l : List D3) (b : BitVec 32) (ws : List W2) (want : Nat → BitVec 32) (ex : List (Nat × V)) (i : Int) : St :=
  { env := [(0, .asl nl (l.map D3.d)), (3, .ptr 0 []), (4, .ptr (1 + fN ws) []), (5, .int .i64 i)] ++ ex,
    hp := (0, .box (fV 1 b ws)) :: (fH 1 ws ++ [(1 + fN ws, .box (.d (.agg (wantL want))))]), tl := fun _ => none, base := 0, next := 2 + fN ws }
def foSt1 (nl : Bool) (l : List D3) (b : BitVec 32) (ws : List W2) (want : Nat → BitVec 32) (i : Int) (b' : BitVec 32) (ws' told : List W2) (all : BitVec 32) (ex : List (Nat × V)) (k : Int) : St :=
  { env := [(0, .asl nl (l.map D3.d)), (3, .ptr 0 []), (4, .ptr (1 + fN ws) []), (5, .int .i64 i), (8, .ptr (2 + fN ws) []), (9, tV (3 + fN ws + fN ws') told), (10, .int .u32 (nI all)), (11, .int .i64 k)] ++ ex,
    hp := (0, .box (fV 1 b ws)) :: (fH 1 ws ++ ((1 + fN ws, .box (.d (.agg (wantL want)))) :: (2 + fN ws, .box (fV (3 + fN ws) b' ws')) :: (fH (3 + fN ws) ws' ++ fH (3 + fN ws + fN ws') told))), tl := fun _ => none, base := 0, next := 3 + fN ws + fN ws' + fN told }
set_option maxHeartbeats 16000000 in
theorem fo_loop1 (nl : Bool) (l : List D3) (b : BitVec 32) (ws : List W2) (i : Int) (b' : BitVec 32) (ws' told : List W2) (hf : told.length ≤ 1000) (allF : BitVec 32) (wantF : Nat → BitVec 32) : ∀ (rest pre : List W2), told = pre ++ rest → ∀ (k : Int), k = pre.length → ∀ (all : BitVec 32) (want : Nat → BitVec 32), Told rest all want allF wantF →
    run kp (.loop [0, 3, 4, 5, 8, 9, 10, 11] k_law13_FlagOnce_L1 (foSt1 nl l b ws want i b' ws' told all [] k)) =
    some (.out (.ext 2) (foSt1 nl l b ws wantF i b' ws' told allF [(63, .bool false)] told.length))
  | [], pre, e, k, hk, all, want, T => by
    simp at e
    subst e hk
    obtain ⟨rfl, rfl⟩ := T
    rw [run_round]
    cases ws <;> cases ws' <;> cases told <;> simp [c_law13_FlagOnce_L1, k_law13_FlagOnce_L1b, foSt1, fV, fH, fN, tV]
  | s :: rest, pre, e, k, hk, all, want, T => by
    obtain ⟨t1, t2, t3, t4, t5, T⟩ := T
    have hli : k < told.length := by rw [e, hk]; simp; omega
    have h0 : 0 ≤ k := by omega
    have hw : IntKind.i64.wrap (k + 1) = k + 1 := wrap_i64 (by omega) (by omega)
    have ih := fo_loop1 nl l b ws i b' ws' told hf allF wantF rest (pre ++ [s]) (by simp [e]) (k + 1) (by simp [hk]) _ _ T
    have hget0 : (told.map wd)[k.toNat]? = some (wd s) := by rw [e, hk]; simp
    have u1 : ¬ (s.c : Int) < 1 := by omega
    have u2 : ¬ (6 : Int) < s.c := by omega
    have u2' : (s.c : Int) < 7 := by omega
    have u2'' : s.c < 7 := by omega
    have u3 : ¬ nI s.m = 0 := fun h => t3 ((nI_zero _).1 h)
    have g1 := wantL_get want s.c t2
    have g2 := wantL_clr want s.c t2
    rw [← ih, run_round]
    cases told with
    | nil => simp at hli; omega
    | cons a t =>
      simp only [List.map_cons] at hget0
      have hget : ∀ hh : k.toNat < (wd a :: t.map wd).length, (wd a :: t.map wd)[k.toNat] = wd s := fun hh => by rw [List.getElem?_eq_getElem hh] at hget0; injection hget0
      have hli2 : k < (t.length : Int) + 1 := by simp only [List.length_cons] at hli; omega
      have hli3 : k.toNat < t.length + 1 := by omega
      simp only [wd] at hget hget0
      cases ws <;> cases ws' <;> simp [c_law13_FlagOnce_L1, k_law13_FlagOnce_L1b, foSt1, fV, fH, fN, tV, h0, hli2, hli3, hget, hget0, hw, wd, u1, u2, u2', u2'', u3, and_nI, andNot_nI, t4, t5, g1, g2]
set_option maxHeartbeats 4000000 in
theorem fo_loop2 (nl : Bool) (l : List D3) (b : BitVec 32) (ws : List W2) (want : Nat → BitVec 32) (i : Int) (hn : ∀ k, want k &&& b = 0#32) : ∀ (d k : Nat), k + d = 7 →
    run kp (.loop [0, 3, 4, 5, 16] k_law13_FlagOnce_L2 (foSt nl l b ws want [(16, .int .i64 (k : Int))] i)) = some (.out (.ext 4) (foSt nl l b ws want [(16, .int .i64 7), (165, .bool false)] i))
  | 0, k, e => by
    obtain rfl : k = 7 := by omega
    rw [run_round]
    cases ws <;> simp [c_law13_FlagOnce_L2, k_law13_FlagOnce_L2b, foSt, fV, fH, fN]
  | d + 1, k, e => by
    have ih := fo_loop2 nl l b ws want i hn d (k + 1) (by omega)
    have k7 : (k : Int) < 7 := by omega
    have k8 : k < 7 := by omega
    have hw : IntKind.i64.wrap ((k : Int) + 1) = ((k + 1 : Nat) : Int) := by rw [wrap_i64 (by omega) (by omega)]; omega
    have g1 := wantL_get want k (by omega)
    have n0 : nI (want k &&& b) = 0 := (nI_zero _).2 (hn k)
    rw [← ih, run_round]
    cases ws <;> simp [c_law13_FlagOnce_L2, k_law13_FlagOnce_L2b, foSt, fV, fH, fN, k7, k8, hw, g1, and_nI, n0]
set_option maxHeartbeats 16000000 in
theorem fo_step (nl : Bool) (l : List D3) (i : Int) (h0 : 0 ≤ i) (hli : i < l.length) (x : D3) (hx : 0 ≤ x.b ∧ x.b < 256) (hx2 : 0 ≤ x.c ∧ x.c < 256) (hget : ∀ hh : i.toNat < l.length, l[i.toNat] = x) (hw : IntKind.i64.wrap (i + 1) = i + 1)
    (b : BitVec 32) (ws : List W2) (want : Nat → BitVec 32) (o : Once ws b want) :
    ∃ (b' : BitVec 32) (ws' : List W2) (want' : Nat → BitVec 32), Once ws' b' want' ∧
      run kp (.loop [0, 3, 4, 5] k_law13_FlagOnce_L0 (foSt nl l b ws want [] i)) = run kp (.loop [0, 3, 4, 5] k_law13_FlagOnce_L0 (foSt nl l b' ws' want' [] (i + 1))) := by
  obtain ⟨p, q, z⟩ := x
  simp only at hx hx2
  obtain ⟨m, hm⟩ : ∃ m, IntKind.u32.wrap q = nI m := of_u32 (by rw [IntKind.wrap_u32]; unfold InU32; omega)
  obtain ⟨c, hc, hc1, hc6⟩ : ∃ c : Nat, IntKind.i64.wrap (1 + IntKind.i64.wrap (z.tmod 6)) = (c : Int) ∧ 1 ≤ c ∧ c ≤ 6 := by
    refine ⟨(1 + z % 6).toNat, ?_, by omega, by omega⟩
    rw [Int.tmod_eq_emod_of_nonneg (by omega), wrap_i64 (x := z % 6) (by omega) (by omega), wrap_i64 (by omega) (by omega)]
    omega
  by_cases hp : p.tmod 2 = 0
  · obtain ⟨b', ws', t', want', e1, T, O, l4⟩ := once_raise ws b m want o
    refine ⟨b', ws', want', O, ?_⟩
    have r := raise_W b m ws (by have := o.len; omega) b' ws' t' e1
    have l1 := fo_loop1 nl l b ws i b' ws' t' (by omega) b' want' t' [] rfl 0 rfl (b ||| m) want T
    have l2 := fo_loop2 nl l b' ws' want' i O.none 6 1 rfl
    rw [run_round]
    cases ws <;> cases ws' <;> cases t' <;> simp [foSt1, foSt, fV, fH, fN, tV] at l1 l2 r <;>
      simp [c_law13_FlagOnce_L0, k_law13_FlagOnce_L0b, foSt, fV, fH, fN, h0, hli, hget, hw, D3.d, hp, hm, hc, r, or_nI, l1, l2]
  · have aw := await_W b m ws o.len c hc1
    have c7 : (c : Int) < 7 := by omega
    have c7' : c < 7 := by omega
    have gc := wantL_get want c hc6
    by_cases h1 : m = 0#32
    · refine ⟨b, ws, want, o, ?_⟩
      have l2 := fo_loop2 nl l b ws want i o.none 6 1 rfl
      rw [if_pos h1] at aw
      rw [run_round]
      cases ws <;> simp [foSt, fV, fH, fN] at l2 aw <;>
        simp [c_law13_FlagOnce_L0, k_law13_FlagOnce_L0b, foSt, fV, fH, fN, h0, hli, hget, hw, D3.d, hp, hm, hc, aw, l2]
    · rw [if_neg h1] at aw
      by_cases h2 : b &&& m = 0#32
      · have h2' : ¬ ¬ b &&& m = 0#32 := fun h => h h2
        rw [if_neg h2'] at aw
        have h2n : nI (b &&& m) = 0 := (nI_zero _).2 h2
        have h2z : b &&& ~~~(0#32) = b := by rw [show ~~~(0#32) = BitVec.allOnes 32 from rfl, BitVec.and_allOnes]
        have h2y : bits .andNot .u32 (nI b) 0 = nI b := by
          have := andNot_nI b 0#32
          rw [h2z] at this; exact this
        by_cases h3 : 4 ≤ ws.length ∨ c ∈ ws.map W2.c
        · rw [if_pos h3] at aw
          refine ⟨b, ws, want, o, ?_⟩
          have l2 := fo_loop2 nl l b ws want i o.none 6 1 rfl
          rw [run_round]
          cases ws <;> simp [foSt, fV, fH, fN] at l2 aw <;>
            simp [c_law13_FlagOnce_L0, k_law13_FlagOnce_L0b, foSt, fV, fH, fN, h0, hli, hget, hw, D3.d, hp, hm, hc, aw, l2]
        · rw [if_neg h3] at aw
          simp only [not_or] at h3
          refine ⟨b, ws ++ [⟨c, m⟩], _, once_wait ws b m want o c ⟨hc1, hc6⟩ (by omega) h3.2 h1 h2, ?_⟩
          have w0 : nI (want c) = 0 := (nI_zero _).2 (o.gone c h3.2)
          have gs := wantL_set want c hc6 m
          have l2 := fo_loop2 nl l b (ws ++ [⟨c, m⟩]) _ i (once_wait ws b m want o c ⟨hc1, hc6⟩ (by omega) h3.2 h1 h2).none 6 1 rfl
          rw [run_round]
          cases ws <;> simp [foSt, fV, fH, fN] at l2 aw <;>
            simp [c_law13_FlagOnce_L0, k_law13_FlagOnce_L0b, foSt, fV, fH, fN, h0, hli, hget, hw, D3.d, hp, hm, hc, aw, l2, c7, c7', gc, gs, w0, and_nI, h2n, h2y]
      · rw [if_pos h2] at aw
        refine ⟨b &&& ~~~(b &&& m), ws, want, once_take ws b (b &&& m) want o, ?_⟩
        have h2n : ¬ nI (b &&& m) = 0 := fun h => h2 ((nI_zero _).1 h)
        have l2 := fo_loop2 nl l (b &&& ~~~(b &&& m)) ws want i (once_take ws b (b &&& m) want o).none 6 1 rfl
        rw [run_round]
        generalize hq : b &&& ~~~(b &&& m) = q' at *
        cases ws <;> simp [foSt, fV, fH, fN] at l2 aw <;>
          simp [c_law13_FlagOnce_L0, k_law13_FlagOnce_L0b, foSt, fV, fH, fN, h0, hli, hget, hw, D3.d, hp, hm, hc, aw, l2, and_nI, andNot_nI, h2n, hq]
theorem fo_loop (nl : Bool) (l : List D3) (hf : l.length ≤ 1000) (hu : ∀ x ∈ l, (0 ≤ x.b ∧ x.b < 256) ∧ (0 ≤ x.c ∧ x.c < 256)) : ∀ (rest pre : List D3), l = pre ++ rest → ∀ (i : Int), i = pre.length → ∀ (b : BitVec 32) (ws : List W2) (want : Nat → BitVec 32), Once ws b want →
    ∃ (b' : BitVec 32) (ws' : List W2) (want' : Nat → BitVec 32), run kp (.loop [0, 3, 4, 5] k_law13_FlagOnce_L0 (foSt nl l b ws want [] i)) = some (.out (.ext 0) (foSt nl l b' ws' want' [(26, .bool false)] l.length))
  | [], pre, h, i, hi, b, ws, want, o => by
    simp at h
    subst h hi
    refine ⟨b, ws, want, ?_⟩
    rw [run_round]
    cases ws <;> simp [c_law13_FlagOnce_L0, k_law13_FlagOnce_L0b, foSt, fV, fH, fN]
  | x :: rest, pre, h, i, hi, b, ws, want, o => by
    have hli : i < l.length := by rw [h, hi]; simp; omega
    have h0 : 0 ≤ i := by omega
    have hget0 : l[i.toNat]? = some x := by rw [h, hi]; simp
    have hget : ∀ hh : i.toNat < l.length, l[i.toNat] = x := fun hh => by rw [List.getElem?_eq_getElem hh] at hget0; injection hget0
    have hw : IntKind.i64.wrap (i + 1) = i + 1 := wrap_i64 (by omega) (by omega)
    have hx := hu x (by rw [h]; simp)
    obtain ⟨b1, ws1, want1, o1, e1⟩ := fo_step nl l i h0 hli x hx.1 hx.2 hget hw b ws want o
    obtain ⟨b2, ws2, want2, e2⟩ := fo_loop nl l hf hu rest (pre ++ [x]) (by simp [h]) (i + 1) (by simp [hi]) b1 ws1 want1 o1
    exact ⟨b2, ws2, want2, by rw [e1, e2]⟩
theorem has_d3 {x : D} (h : Sh.has (.ar 3 (.i .u8)) x) : ∃ t : D3, x = t.d ∧ ((0 ≤ t.b ∧ t.b < 256) ∧ (0 ≤ t.c ∧ t.c < 256)) := by
  obtain ⟨l, rfl, h1, h2⟩ := has_ar h
  obtain ⟨m, rfl, hm⟩ := all_typed (f := D.int .u8) (fun y hy => has_int hy) l h2
  match m, h1, hm with
  | [a, b, c], _, hm => exact ⟨⟨a, b, c⟩, rfl, wf_u8 (hm b (by simp)), wf_u8 (hm c (by simp))⟩
theorem law_FlagOnce (xs : List D) (h : Sh.hasL [.sl (.ar 3 (.i .u8))] xs) : run kp (.data f_law13_FlagOnce xs) = some (.ds [.bool true]) := by
  obtain ⟨x1, _, rfl, h1, h⟩ := hasL_cons h
  obtain rfl := hasL_nil h
  obtain ⟨nl, l, rfl, _, _, h5⟩ := has_sl h1
  obtain ⟨m, rfl, hm⟩ := all_typed (f := D3.d) (fun y hy => has_d3 hy) l h5
  rw [run_data, run_call, kp_law13_FlagOnce]
  by_cases hl : m.length ≤ 40
  · have a1 : ¬ (40 : Int) < m.length := by omega
    obtain ⟨b, ws, want, e⟩ := fo_loop nl m (by omega) hm m [] rfl 0 rfl 0#32 [] (fun _ => 0#32) ⟨by simp, by simp, by simp, by simp, by simp⟩
    have z0 : nI 0#32 = 0 := rfl
    cases ws <;> simp [foSt, fV, fH, fN, wantL, z0] at e <;> simp [k_law13_FlagOnce, flag_begun, a1, e]
  · have a1 : (40 : Int) < m.length := by omega
    simp [k_law13_FlagOnce, flag_begun, a1]
end Go.Cd
