/- Texts of this session in one. No conditions. -/
import Derived.Test.YtfddchjmpmjcfaaGreatR8QTwD
set_option linter.unusedVariables false
set_option linter.unusedSimpArgs false
namespace Go.Cd
open Go Go.Fw
variable {rank per stop : Int} {ml : List Inst} {wn : Bool} {wl : List Inst} {c p w : Int} {lo : Nat}
def hz : D := .agg [.int .i64 0, .int .i64 0]
def zT : D := .agg [.int .i64 0, .int .i64 0, .int .i64 0, .sl true [], .sl true [], .sl true []]
def clD (kind : Int) (t : D) (a n : Int) : D := .agg [.int .i64 kind, t, hz, .int .i64 a, .int .i64 n, .int .u32 0]
def zCl : D := .agg [.int .i64 0, zT, hz, .int .i64 0, .int .i64 0, .int .u32 0]
def stD (kind : Int) (cl : D) (n : Int) : D := .agg [.int .i64 kind, cl, .int .i64 0, .int .i64 n]
def rpD (e : Int) : D := .agg [.int .i64 e, hz, .int .i64 0]
/-- What begins. -/
def K0 (apart : Int) : D := .agg [.int .i64 0, .int .i64 apart, .sl true [], .sl true [], .bool false, .bool false, .bool false, .sl true [], .agg [gS, gL], .agg [.sl false [], .sl false []]]
set_option maxRecDepth 100000 in
theorem wnew_0 : run kp (.datk f_watch_New [.int .i64 0]) = some (.ds [.agg [.sl false [], .sl false []]]) := run_of (n := 4000) (by kernel_rfl)
set_option maxRecDepth 100000 in
theorem wnew_1 : run kp (.datk f_watch_New [.int .i64 1]) = some (.ds [.agg [.sl false [.int .i64 0], .sl false [.bool false]]]) := run_of (n := 4000) (by kernel_rfl)
set_option maxRecDepth 100000 in
theorem good_0 : run kp (.datk f_watch_Good [.agg [.sl false [], .sl false []], .int .i64 (-1)]) = some (.ds [.agg [.sl false [], .sl false []]]) := run_of (n := 4000) (by kernel_rfl)
theorem good_1 : run kp (.datk f_watch_Good [.agg [.sl false [.int .i64 0], .sl false [.bool false]], .int .i64 (-1)]) = some (.ds [.agg [.sl false [.int .i64 0], .sl false [.bool false]]]) := good_W1m
theorem new_T' : run kp (.datk f_obj_New []) = some (.ds [.agg [gS, gL]]) := new_T
theorem kern_New_K (apart : Int) (h : 1 ≤ apart ∧ apart ≤ 100000) : run kp (.datk f_kern_New [.int .i64 apart]) = some (.ds [K0 apart, .bool true]) := by
  have a1 : ¬ apart < 1 := by omega
  have a2 : ¬ 4611686018427387904 < apart := by omega
  rw [run_datk, run_call, kp_kern_New]
  simp [k_kern_New, K0, a1, a2, wnew_0, new_T']
def kA (apart : Int) (t : Ts) (b : D) (runs : Bool) (rows off : List D) : Kn := ⟨0, apart, [t], [b], runs, false, false, true, [], rows, off⟩
theorem kA_ok {apart : Int} {t : Ts} (ht : t.Ok) {b : D} {runs : Bool} {rows off : List D} (g : run kp (.datk f_watch_Good [.agg [.sl false rows, .sl false off], .int .i64 (-1)]) = some (.ds [.agg [.sl false rows, .sl false off]])) : (kA apart t b runs rows off).Ok :=
  ⟨⟨by simp [kA], fun x hx => by simp [kA] at hx; subst hx; exact ht⟩, by simp [kA], by simp [kA], fun _ => rfl, g⟩
set_option maxRecDepth 20000 in
set_option maxHeartbeats 32000000 in
theorem do_admit (h : TsOk rank per stop ml wn wl c p w lo) (apart : Int) (ha : c + lo ≤ apart ∧ apart ≤ 100000) :
    run kp (.datk f_call_Do [K0 apart, clD 1 (tsOf rank per stop ml wn wl).d 0 0]) = some (.ds [(kA apart (tsOf rank per stop ml wn wl) (bdD c lo stop) false [] []).d, .sl true [], rpD 0]) := by
  have i := In_1 h apart ha
  have m := mine_K (kA apart (tsOf rank per stop ml wn wl) (bdD c lo stop) false [] []) (kA_ok h.ok good_0) (fun e => by cases e)
  simp only [tsOf, Ts.d, Rw.d, List.map_nil] at i
  simp only [kA, Kn.d, tsOf, Ts.d, Rw.d, List.map_cons, List.map_nil] at m
  rw [run_datk, run_call, kp_call_Do]
  simp [k_call_Do, K0, clD, hz, rpD, kA, Kn.d, tsOf, Ts.d, Rw.d, run_call, kp_call_asked_admit, k_call_asked_admit, canK_canH, gOf, hlook, i, m]
end Go.Cd
namespace Go.Cd
open Go Go.Fw
variable {rank per stop : Int} {ml : List Inst} {wn : Bool} {wl : List Inst} {c p w : Int} {lo : Nat}
set_option maxRecDepth 20000 in
set_option maxHeartbeats 16000000 in
theorem concat_I (L1 L2 : List D) (wn : Bool) (h1 : 1 ≤ L1.length ∧ L1.length ≤ 1000) (h2 : L2.length ≤ 1000) : run kp (.data f_slices_Concat_api_Inst_api_Inst [.sl false [.sl false L1, .sl wn L2]]) = some (.ds [.sl false (L1 ++ L2)]) := by
  have wz : IntKind.i64.wrap 1 = 1 := rfl
  have wz0 : IntKind.i64.wrap 0 = 0 := rfl
  have wz2 : IntKind.i64.wrap 2 = 2 := rfl
  have w1 : IntKind.i64.wrap (L1.length : Int) = L1.length := wrap_i64 (by omega) (by omega)
  have w2 : IntKind.i64.wrap ((L1.length : Int) + L2.length) = (L1.length : Int) + L2.length := wrap_i64 (by omega) (by omega)
  have a1 : ¬ (L1.length : Int) < 0 := by omega
  have a2 : ¬ (L1.length : Int) + L2.length < 0 := by omega
  have a3 : (0 : Int) < (L1.length : Int) + L2.length := by omega
  have a4 : (L1.length : Int) + L2.length ≤ 1073741824 := by omega
  have a5 : L1.length ≤ 1073741824 := by omega
  have a6 : L1.length + L2.length ≤ 1073741824 := by omega
  have a7 : (0 : Int) ≤ (L1.length : Int) + L2.length := by omega
  have a8 : ((L1.length : Int) + L2.length).toNat = L1.length + L2.length := by omega
  have t1 : List.take L1.length L1 = L1 := List.take_of_length_le (by omega)
  rw [run_data, run_call, kp_slices_Concat_api_Inst_api_Inst]
  simp [k_slices_Concat_api_Inst_api_Inst]
  rw [run_round]
  simp [c_slices_Concat_api_Inst_api_Inst_L0, k_slices_Concat_api_Inst_api_Inst_L0b, wz, w1, a1]
  rw [run_round]
  simp [c_slices_Concat_api_Inst_api_Inst_L0, k_slices_Concat_api_Inst_api_Inst_L0b, wz2, w2, a2]
  rw [run_round]
  simp [c_slices_Concat_api_Inst_api_Inst_L0, k_slices_Concat_api_Inst_api_Inst_L0b, run_call, kp_slices_Grow_api_Inst_api_Inst, k_slices_Grow_api_Inst_api_Inst, canK_canH, gOf, hlook, wz0, w2, a2, a3, a4, a7, a8]
  rw [run_round]
  simp [c_slices_Concat_api_Inst_api_Inst_L1, k_slices_Concat_api_Inst_api_Inst_L1b, wz, a5]
  rw [run_round]
  simp [c_slices_Concat_api_Inst_api_Inst_L1, k_slices_Concat_api_Inst_api_Inst_L1b, wz2, a6]
  rw [run_round]
  simp [c_slices_Concat_api_Inst_api_Inst_L1, k_slices_Concat_api_Inst_api_Inst_L1b]
  exact List.take_of_length_le (by simp)
theorem start_1 (i : Inst) (h9 : ¬ i.op = 9) (tl : Nat → Option Blk) (n p : Nat) : run kp (.call f_kern_Start_1 [.d i.d, .ptr p []] tl n) = some (.val (.bool false) [] n) := by
  rw [run_call, kp_kern_Start_1]
  simp [k_kern_Start_1, Inst.d, h9, canK_canH]
set_option maxRecDepth 10000 in
theorem sidx_loop (tl : Nat → Option Blk) (n p r : Nat) (hlt : p < n) (hr : r < n) (l : List Inst) (hrow : tl r = some (.row true (l.map Inst.d))) (hlen : l.length ≤ 10000) (h9 : ∀ i ∈ l, ¬ i.op = 9) : ∀ (k i : Nat), i + k = l.length →
    run kp (.loop [0, 1, 7, 8] k_slices_IndexFunc_api_Inst_api_Inst_L0 { env := [(0, .sl false r 0 l.length), (1, V.clo f_kern_Start_1 [] [V.ptr p []]), (7, .int .i64 (l.length : Int)), (8, .int .i64 (i : Int))], hp := [], tl := tl, base := n, next := n }) =
      some (.out (.ext 0) { env := [(0, .sl false r 0 l.length), (1, V.clo f_kern_Start_1 [] [V.ptr p []]), (7, .int .i64 (l.length : Int)), (8, .int .i64 (l.length : Int)), (9, .bool false)], hp := [], tl := tl, base := n, next := n })
  | 0, i, h => by
    obtain rfl : i = l.length := by omega
    rw [run_round]
    simp [c_slices_IndexFunc_api_Inst_api_Inst_L0, k_slices_IndexFunc_api_Inst_api_Inst_L0b, hlt, hr]
  | k + 1, i, h => by
    rw [← sidx_loop tl n p r hlt hr l hrow hlen h9 k (i + 1) (by omega), run_round]
    have hi : i < l.length := by omega
    have hi2 : (i : Int) < (l.length : Int) := by omega
    obtain ⟨x, hx⟩ : ∃ x, l[i]? = some x := ⟨_, List.getElem?_eq_getElem hi⟩
    have g1 := get_mapT (f := Inst.d) hx
    have g2 := get_ofT g1
    have g3 := get_ofT hx
    have w : IntKind.i64.wrap ((i : Int) + 1) = ((i + 1 : Nat) : Int) := by rw [wrap_i64 (by omega) (by omega)]; omega
    have a := start_1 x (h9 x (List.mem_of_getElem? hx)) tl n p
    generalize i + 1 = i' at *
    simp only [Inst.d] at a g1 g2
    simp [c_slices_IndexFunc_api_Inst_api_Inst_L0, k_slices_IndexFunc_api_Inst_api_Inst_L0b, hlt, hr, hi, hi2, hx, g1, g2, g3, w, a, hrow, gOf_below hr, Inst.d]
set_option maxRecDepth 10000 in
theorem scont (tl : Nat → Option Blk) (n p r : Nat) (hlt : p < n) (hr : r < n) (l : List Inst) (hrow : tl r = some (.row true (l.map Inst.d))) (hlen : l.length ≤ 10000) (h9 : ∀ i ∈ l, ¬ i.op = 9) :
    run kp (.call f_slices_ContainsFunc_api_Inst_api_Inst [.sl false r 0 l.length, V.clo f_kern_Start_1 [] [V.ptr p []]] tl n) = some (.val (.bool false) [] n) := by
  have lp := sidx_loop tl n p r hlt hr l hrow hlen h9 l.length 0 (by omega)
  simp only [Int.cast_ofNat_Int] at lp
  rw [run_call, kp_slices_ContainsFunc_api_Inst_api_Inst]
  simp [k_slices_ContainsFunc_api_Inst_api_Inst, run_call, kp_slices_IndexFunc_api_Inst_api_Inst, k_slices_IndexFunc_api_Inst_api_Inst, hlt, hr, lp, canK_canH]
set_option maxRecDepth 20000 in
set_option maxHeartbeats 32000000 in
theorem start_K (h : TsOk rank per stop ml wn wl c p w lo) (h9 : ∀ i ∈ ml ++ wl, ¬ i.op = 9) (hm : 1 ≤ ml.length) (apart : Int) (b : D) :
    run kp (.datk f_kern_Start [(kA apart (tsOf rank per stop ml wn wl) b false [] []).d]) = some (.ds [(kA apart (tsOf rank per stop ml wn wl) b true [] []).d, .int .i64 0]) := by
  have tw := fun tl => twin_K tl (kA apart (tsOf rank per stop ml wn wl) b false [] []) (kA_ok h.ok good_0)
  have cc := concat_I (ml.map Inst.d) (wl.map Inst.d) wn ⟨by simpa using hm, by simpa using h.hml⟩ (by simpa using h.hwl)
  have hlen : (ml ++ wl).length ≤ 10000 := by have := h.hml; have := h.hwl; simp; omega
  rw [← List.map_append] at cc
  have wz : IntKind.i64.wrap 1 = 1 := rfl
  have sc := fun tl n p r hlt hr hrow => scont tl n p r hlt hr (ml ++ wl) hrow hlen h9
  generalize hL : ml ++ wl = L at *
  simp only [kA, Kn.d, knV, knH, jV, jH, jN, tsOf, Ts.d, Rw.d, List.map_cons, List.map_nil, List.length_cons, List.length_nil, Nat.zero_add, Nat.reduceAdd, Int.cast_ofNat_Int] at tw
  rw [run_datk, run_call, kp_kern_Start]
  simp [k_kern_Start, kA, Kn.d, tsOf, Ts.d, Rw.d, tw, locks_T', canK_canH, gOf, hlook]
  rw [run_round]
  simp [c_kern_Start_L0, k_kern_Start_L0b, cc, sc, wz, canK_canH, gOf, hlook]
  rw [run_round]
  simp [c_kern_Start_L0, k_kern_Start_L0b]
  rw [run_round]
  simp [c_kern_Start_L1, k_kern_Start_L1b, run_call, kp_kern_Kernel_lock, k_kern_Kernel_lock, semas_T', canK_canH, gOf, hlook]
  rw [run_round]
  simp [c_kern_Kernel_lock_L0, k_kern_Kernel_lock_L0b, canK_canH, gOf, hlook]
end Go.Cd
