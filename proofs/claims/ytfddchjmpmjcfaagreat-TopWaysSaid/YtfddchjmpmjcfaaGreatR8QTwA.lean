/- Programs that sum so often, and such that set so often: they may be, and how long they are. No conditions. -/
import Derived.Test.YtfddchjmpmjcfaaGreatR8QTkC
set_option linter.unusedVariables false
set_option linter.unusedSimpArgs false
namespace Go.Cd
open Go Go.Fw
def addI : Inst := ⟨2, 0, 0, 0⟩
def setI : Inst := ⟨1, 0, 0, 7⟩
def endJ : Inst := ⟨0, 0, 0, 0⟩
def adds (n : Nat) : List Inst := List.replicate n addI ++ [endJ]
def sets (n : Nat) : List Inst := List.replicate n setI ++ [endJ]
def MayOk (l : List Inst) : Prop := run kp (.data f_shape_May [.sl false (l.map Inst.d)]) = some (.ds [.bool true])
def OfOk (l : List Inst) : Prop := run kp (.data f_cost_Of [.sl false (l.map Inst.d)]) = some (.ds [.agg [.int .i64 (l.length : Int), .int .i64 (l.length : Int), .sl true []], .bool true])
set_option maxRecDepth 100000 in
theorem may_adds1 : MayOk (adds 1) := run_of (n := 6000) (by kernel_rfl)
set_option maxRecDepth 100000 in
theorem of_adds1 : OfOk (adds 1) := run_of (n := 6000) (by kernel_rfl)
set_option maxRecDepth 100000 in
theorem may_adds2 : MayOk (adds 2) := run_of (n := 6000) (by kernel_rfl)
set_option maxRecDepth 100000 in
theorem of_adds2 : OfOk (adds 2) := run_of (n := 6000) (by kernel_rfl)
set_option maxRecDepth 100000 in
theorem may_adds3 : MayOk (adds 3) := run_of (n := 6000) (by kernel_rfl)
set_option maxRecDepth 100000 in
theorem of_adds3 : OfOk (adds 3) := run_of (n := 6000) (by kernel_rfl)
set_option maxRecDepth 100000 in
theorem may_adds4 : MayOk (adds 4) := run_of (n := 6000) (by kernel_rfl)
set_option maxRecDepth 100000 in
theorem of_adds4 : OfOk (adds 4) := run_of (n := 6000) (by kernel_rfl)
set_option maxRecDepth 100000 in
theorem may_adds5 : MayOk (adds 5) := run_of (n := 6000) (by kernel_rfl)
set_option maxRecDepth 100000 in
theorem of_adds5 : OfOk (adds 5) := run_of (n := 6000) (by kernel_rfl)
set_option maxRecDepth 100000 in
theorem may_adds6 : MayOk (adds 6) := run_of (n := 6000) (by kernel_rfl)
set_option maxRecDepth 100000 in
theorem of_adds6 : OfOk (adds 6) := run_of (n := 6000) (by kernel_rfl)
set_option maxRecDepth 100000 in
theorem may_adds7 : MayOk (adds 7) := run_of (n := 6000) (by kernel_rfl)
set_option maxRecDepth 100000 in
theorem of_adds7 : OfOk (adds 7) := run_of (n := 6000) (by kernel_rfl)
set_option maxRecDepth 100000 in
theorem may_adds8 : MayOk (adds 8) := run_of (n := 6000) (by kernel_rfl)
set_option maxRecDepth 100000 in
theorem of_adds8 : OfOk (adds 8) := run_of (n := 6000) (by kernel_rfl)
set_option maxRecDepth 100000 in
theorem may_adds9 : MayOk (adds 9) := run_of (n := 6000) (by kernel_rfl)
set_option maxRecDepth 100000 in
theorem of_adds9 : OfOk (adds 9) := run_of (n := 6000) (by kernel_rfl)
set_option maxRecDepth 100000 in
theorem may_sets1 : MayOk (sets 1) := run_of (n := 6000) (by kernel_rfl)
set_option maxRecDepth 100000 in
theorem of_sets1 : OfOk (sets 1) := run_of (n := 6000) (by kernel_rfl)
set_option maxRecDepth 100000 in
theorem may_sets2 : MayOk (sets 2) := run_of (n := 6000) (by kernel_rfl)
set_option maxRecDepth 100000 in
theorem of_sets2 : OfOk (sets 2) := run_of (n := 6000) (by kernel_rfl)
set_option maxRecDepth 100000 in
theorem may_sets3 : MayOk (sets 3) := run_of (n := 6000) (by kernel_rfl)
set_option maxRecDepth 100000 in
theorem of_sets3 : OfOk (sets 3) := run_of (n := 6000) (by kernel_rfl)
set_option maxRecDepth 100000 in
theorem may_sets4 : MayOk (sets 4) := run_of (n := 6000) (by kernel_rfl)
set_option maxRecDepth 100000 in
theorem of_sets4 : OfOk (sets 4) := run_of (n := 6000) (by kernel_rfl)
set_option maxRecDepth 100000 in
theorem may_sets5 : MayOk (sets 5) := run_of (n := 6000) (by kernel_rfl)
set_option maxRecDepth 100000 in
theorem of_sets5 : OfOk (sets 5) := run_of (n := 6000) (by kernel_rfl)
set_option maxRecDepth 100000 in
theorem may_sets6 : MayOk (sets 6) := run_of (n := 6000) (by kernel_rfl)
set_option maxRecDepth 100000 in
theorem of_sets6 : OfOk (sets 6) := run_of (n := 6000) (by kernel_rfl)
set_option maxRecDepth 100000 in
theorem may_sets7 : MayOk (sets 7) := run_of (n := 6000) (by kernel_rfl)
set_option maxRecDepth 100000 in
theorem of_sets7 : OfOk (sets 7) := run_of (n := 6000) (by kernel_rfl)
set_option maxRecDepth 100000 in
theorem may_sets8 : MayOk (sets 8) := run_of (n := 6000) (by kernel_rfl)
set_option maxRecDepth 100000 in
theorem of_sets8 : OfOk (sets 8) := run_of (n := 6000) (by kernel_rfl)
set_option maxRecDepth 100000 in
theorem may_sets9 : MayOk (sets 9) := run_of (n := 6000) (by kernel_rfl)
set_option maxRecDepth 100000 in
theorem of_sets9 : OfOk (sets 9) := run_of (n := 6000) (by kernel_rfl)
end Go.Cd
