/- The law PlayForms, as the evaluator has it. No conditions. -/
import Derived.Test.YtjoocolnbmpkkaaCode
import Derived.Test.YtjoocolnbmpkkaaFwA
import Derived.Test.YtjoocolnbmpkkaaFwD
import Derived.KernelRfl
set_option linter.unusedVariables false
set_option linter.unusedSimpArgs false
namespace Go.Cd
open Go.Fw
set_option maxRecDepth 100000 in
theorem law_PlayForms (xs : List D) (h : Sh.hasL [] xs) : run kp (.data f_law27_PlayForms xs) = some (.ds [.bool true]) := by
  cases xs with
  | nil => exact run_of (n := 4000) (by kernel_rfl)
  | cons x l => exact h.elim
end Go.Cd
