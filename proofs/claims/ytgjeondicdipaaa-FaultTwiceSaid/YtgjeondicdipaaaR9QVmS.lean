/- Which instructions may be; machines; where repetitions go on. No conditions. -/
import Derived.Test.YtgjeondicdipaaaR9QVm
import Derived.Test.YtgjeondicdipaaaR9QMay
set_option linter.unusedVariables false
set_option linter.unusedSimpArgs false
namespace Go.Cd
open Go Go.Fw
structure Rep where
  first : Int
  last : Int
  left : Int
def Rep.d (r : Rep) : D := .agg [.int .i64 r.first, .int .i64 r.last, .int .i64 r.left]
theorem clone_Rep (nl : Bool) (l : List Rep) (hn : nl = true → l = []) (hl : l.length ≤ 100000) : run kp (.data f_slices_Clone_api_Rep2_api_Rep2 [.sl nl (l.map Rep.d)]) = some (.ds [.sl nl (l.map Rep.d)]) := by
  rw [run_data, run_call, kp_slices_Clone_api_Rep2_api_Rep2]
  cases nl with
  | true => simp [hn rfl, k_slices_Clone_api_Rep2_api_Rep2]
  | false =>
    simp [k_slices_Clone_api_Rep2_api_Rep2]
    omega
/-- A machine, its numbers as they are. -/
def mD (pc : Int) (mem : List Int) (rn : Bool) (reps : List Rep) (over : Bool) : D := .agg [.int .i64 pc, .agg (mem.map (.int .i64)), .sl rn (reps.map Rep.d), .bool over]
theorem vm_twin (pc : Int) (mem : List Int) (rn : Bool) (reps : List Rep) (over : Bool) (hn : rn = true → reps = []) (hl : reps.length ≤ 100000) : run kp (.data f_vm_twin [mD pc mem rn reps over]) = some (.ds [mD pc mem rn reps over]) := by
  rw [run_data, run_call, kp_vm_twin]
  have c := clone_Rep rn reps hn hl
  cases rn with
  | true =>
    have := hn rfl; subst this
    simp only [List.map_nil] at c
    simp [k_vm_twin, mD, c, flats_ints]
  | false => simp [k_vm_twin, mD, c, flats_ints]
end Go.Cd
