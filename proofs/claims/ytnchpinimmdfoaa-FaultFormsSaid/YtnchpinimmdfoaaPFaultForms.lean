/- The law FaultForms, as the evaluator has it. No conditions. -/
import Derived.Test.YtnchpinimmdfoaaCode
import Derived.Test.YtnchpinimmdfoaaFwA
import Derived.Test.YtnchpinimmdfoaaFwD
import Derived.KernelRfl
set_option linter.unusedVariables false
set_option linter.unusedSimpArgs false
namespace Go.Cd
open Go.Fw
set_option maxRecDepth 100000 in
theorem law_FaultForms (xs : List D) (h : Sh.hasL [] xs) : run kp (.data f_law22_FaultForms xs) = some (.ds [.bool true]) := by
  cases xs with
  | nil => exact run_of (n := 4000) (by kernel_rfl)
  | cons x l => exact h.elim
end Go.Cd
