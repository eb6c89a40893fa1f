/- The law SatAll, as the evaluator has it. No conditions. -/
import Derived.Test.YtjedomkpjidmbaaR3QMul2
import Derived.Test.YtjedomkpjidmbaaR3PSatUp
set_option linter.unusedVariables false
set_option linter.unusedSimpArgs false
namespace Go.Cd
open Go Go.Fw
theorem law_SatAll (xs : List D) (h : Sh.hasL [.i .i64, .i .i64] xs) : run kp (.data f_law1_SatAll xs) = some (.ds [.bool true]) := by
  obtain ⟨a, b, rfl, ha, hb⟩ := has_pair h
  rw [run_data, run_call, kp_law1_SatAll]
  simp [k_law1_SatAll, sat_begun, sat_Add, sat_Sub, sat_Mul, sat_Up, ref_Add, ref_Sub, ref_Mul, ref_Up, ha, hb]
end Go.Cd
