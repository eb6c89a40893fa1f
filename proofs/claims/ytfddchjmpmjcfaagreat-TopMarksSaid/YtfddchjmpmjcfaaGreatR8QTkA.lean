/- A kernel in which there are no things: what of it is closed. No conditions. -/
import Derived.Test.YtfddchjmpmjcfaaGreatR8QMay
import Derived.Test.YtfddchjmpmjcfaaGreatS7
import Derived.KernelRfl
set_option linter.unusedVariables false
set_option linter.unusedSimpArgs false
namespace Go.Cd
open Go Go.Fw
def zTh : D := .agg [.int .i64 0, .agg [.int .i64 0, .int .i64 0], .agg [.int .i64 0, .int .i64 0], .agg [.sl true [], .sl true []], .agg [.int .u32 0, .sl true []], .int .u32 0]
def gS : D := .agg [.sl false (List.replicate 12 (.int .i64 0)), .sl false (List.replicate 12 (.bool false))]
def gL : D := .sl false (List.replicate 12 zTh)
def T0 : D := .agg [gS, gL]
def W1 : D := .agg [.sl false [.int .i64 0], .sl false [.bool false]]
set_option maxRecDepth 100000 in
theorem new_T : run kp (.datk f_obj_New []) = some (.ds [T0]) := run_of (n := 4000) (by kernel_rfl)
set_option maxRecDepth 100000 in
theorem put_T : run kp (.datk f_obj_Put [T0, .int .i64 (-1), zTh]) = some (.ds [T0]) := run_of (n := 4000) (by kernel_rfl)
set_option maxRecDepth 100000 in
theorem semas_T : run kp (.data f_obj_Semas [T0]) = some (.ds [.sl true []]) := run_of (n := 4000) (by kernel_rfl)
set_option maxRecDepth 100000 in
theorem audit_T : run kp (.datk f_obj_Audit [T0]) = some (.ds [T0, .sl true [], .sl true []]) := run_of (n := 4000) (by kernel_rfl)
set_option maxRecDepth 100000 in
theorem good_W1m : run kp (.datk f_watch_Good [W1, .int .i64 (-1)]) = some (.ds [W1]) := run_of (n := 4000) (by kernel_rfl)
set_option maxRecDepth 100000 in
theorem good_W10 : run kp (.datk f_watch_Good [W1, .int .i64 0]) = some (.ds [W1]) := run_of (n := 4000) (by kernel_rfl)
set_option maxRecDepth 100000 in
theorem semas_nil (x : Int) : run kp (.datk f_sema_All [.sl true [], .int .i64 x]) = some (.ds [.sl true []]) := run_of (n := 4000) (by kernel_rfl)
theorem flat_L : D.flat gL = false := rfl
set_option maxRecDepth 10000 in
set_option maxHeartbeats 4000000 in
theorem locks_T (a b c d e f g h w : D) : run kp (.data f_kern_Locks [.agg [a, b, c, d, e, f, g, h, T0, w]]) = some (.ds [.sl true []]) := by
  have s := semas_T
  simp only [T0] at s ⊢
  rw [run_data, run_call, kp_kern_Locks]
  simp [k_kern_Locks, s, flat_L]
  rw [run_round]
  simp [c_kern_Locks_L0, k_kern_Locks_L0b]
end Go.Cd
