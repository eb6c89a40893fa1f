/- Admission of one task: its bounds. No conditions. -/
import Derived.Test.YtfddchjmpmjcfaaGreatR8QTwB
set_option linter.unusedVariables false
set_option linter.unusedSimpArgs false
namespace Go.Cd
open Go Go.Fw
variable {rank per stop : Int} {ml : List D} {wn : Bool} {wl : List D} {c p w : Int} {lo : Nat}
set_option maxRecDepth 10000 in
set_option maxHeartbeats 8000000 in
theorem block_By_1 (h : TkOk rank per stop ml wn wl c p w (lo : Int)) : run kp (.data f_block_By [.sl false [tkD rank per stop (.sl false ml) (.sl wn wl)], .int .i64 0]) = some (.ds [.int .i64 0]) := by
  have wz : IntKind.i64.wrap 1 = 1 := rfl
  rw [run_data, run_call, kp_block_By]
  simp [k_block_By, tkD, run_round, c_block_By_L0, k_block_By_L0b, wz]
set_option maxRecDepth 10000 in
set_option maxHeartbeats 8000000 in
theorem row_1 (h : TkOk rank per stop ml wn wl c p w (lo : Int)) : run kp (.data f_bound_row [.sl false [tkD rank per stop (.sl false ml) (.sl wn wl)]]) = some (.ds [.bool true]) := by
  have wz : IntKind.i64.wrap 1 = 1 := rfl
  have tm := task_May_K h
  simp only [tkD] at tm
  rw [run_data, run_call, kp_bound_row]
  simp [k_bound_row, tkD, run_round, c_bound_row_L0, k_bound_row_L0b, wz, tm]
set_option maxRecDepth 10000 in
set_option maxHeartbeats 32000000 in
theorem resp_1 (h : TkOk rank per stop ml wn wl c p w (lo : Int)) (apart : Int) (hl : 1 ≤ lo ∧ lo < 24) (hc : 1 ≤ c) (ha : c + lo ≤ apart ∧ apart ≤ 100000) (hs : c + lo ≤ stop) :
    run kp (.data f_bound_Resp [.sl false [tkD rank per stop (.sl false ml) (.sl wn wl)], .int .i64 0, .int .i64 apart]) = some (.ds [.int .i64 (c + lo), .int .i64 2, .int .i64 0]) := by
  have b := block_By_1 h
  have r := row_1 h
  have tc := task_Costs_K h
  have s0 := sat_Add_K c 0 (by omega) (by omega)
  have s1 := sat_Add_K c lo (by omega) (by omega)
  have m0 := mul_1 0 (by omega)
  have m1 := mul_1 lo hl.2
  have o1 := often_1 c apart hc (by omega) (by omega)
  have o2 := often_1 (c + lo) apart (by omega) (by omega) (by omega)
  have wz : IntKind.i64.wrap 1 = 1 := rfl
  have wz2 : IntKind.i64.wrap 2 = 2 := rfl
  have a1 : ¬ apart < 1 := by omega
  have a2 : ¬ c + (lo : Int) = c := by omega
  have a3 : ¬ stop < c + (lo : Int) := by omega
  have a4 : (0 : Int) < (lo : Int) := by omega
  have a5 : ¬ (lo : Int) = 0 := by omega
  have a6 : ¬ lo = 0 := by omega
  have a7 : 0 < lo := by omega
  simp only [Int.add_zero, Int.natCast_zero, Int.cast_ofNat_Int] at s0 m0
  simp only [tkD] at b r tc
  rw [run_data, run_call, kp_bound_Resp]
  simp [k_bound_Resp, tkD, b, r, tc, wz, a1]
  rw [run_round]
  simp [c_bound_Resp_L0, k_bound_Resp_L0b, tc, wz, a4, a5, a6, a7]
  rw [run_round]
  simp [c_bound_Resp_L0, k_bound_Resp_L0b, b, run_call, kp_bound_sum_add, k_bound_sum_add, m0, s0, canK_canH, gOf, hlook]
  rw [run_round]
  simp [c_bound_Resp_L1, k_bound_Resp_L1b, wz, o1, run_call, kp_bound_sum_add, k_bound_sum_add, m1, s1, canK_canH, gOf, hlook]
  rw [run_round]
  simp [c_bound_Resp_L2, k_bound_Resp_L2b, a2, a3]
  rw [run_round]
  simp [c_bound_Resp_L1, k_bound_Resp_L1b, wz2, o2, run_call, kp_bound_sum_add, k_bound_sum_add, m1, s1, canK_canH, gOf, hlook]
  rw [run_round]
  simp [c_bound_Resp_L2, k_bound_Resp_L2b, a2, a3]
def bdD (c lo s : Int) : D := .agg [.int .i64 c, .int .i64 lo, .int .i64 0, .int .i64 (c + lo), .int .i64 (s - (c + lo))]
set_option maxRecDepth 10000 in
set_option maxHeartbeats 8000000 in
theorem all_1 (h : TkOk rank per stop ml wn wl c p w (lo : Int)) (apart : Int) (hl : 1 ≤ lo ∧ lo < 24) (hc : 1 ≤ c) (ha : c + lo ≤ apart ∧ apart ≤ 100000) (hs : c + lo ≤ stop) :
    run kp (.datk f_admit_All [.sl false [tkD rank per stop (.sl false ml) (.sl wn wl)], .int .i64 apart]) = some (.ds [.sl false [bdD c lo stop], .int .i64 0]) := by
  have b := block_By_1 h
  have tc := task_Costs_K h
  have r := resp_1 h apart hl hc ha hs
  have wz : IntKind.i64.wrap 1 = 1 := rfl
  have hst := h.hstop
  have hpe := h.hper
  have w1 : IntKind.i64.wrap (stop - (c + lo)) = stop - (c + lo) := wrap_i64 (by omega) (by omega)
  have a1 : ¬ apart < 1 := by omega
  simp only [tkD] at b r tc
  rw [run_datk, run_call, kp_admit_All]
  simp [k_admit_All, tkD, a1, run_round, c_admit_All_L0, k_admit_All_L0b, wz, r, tc, b, w1, bdD]
end Go.Cd
