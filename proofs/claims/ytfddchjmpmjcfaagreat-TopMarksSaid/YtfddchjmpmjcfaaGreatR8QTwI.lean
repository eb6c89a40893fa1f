/- The laws of the top begin. No conditions. -/
import Derived.Test.YtfddchjmpmjcfaaGreatR8QTwH
set_option linter.unusedVariables false
set_option linter.unusedSimpArgs false
namespace Go.Cd
open Go Go.Fw
set_option maxRecDepth 100000 in
theorem top_begun : run kp (.data f_top_begun []) = some (.ds [.bool true]) := run_of (n := 6000) (by kernel_rfl)
end Go.Cd
