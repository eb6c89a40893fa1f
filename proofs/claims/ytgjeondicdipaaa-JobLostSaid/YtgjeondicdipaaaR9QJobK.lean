/- Tasks out of numbers, as data. No conditions. -/
import Derived.Test.YtgjeondicdipaaaR9QJobH
import Derived.Test.YtgjeondicdipaaaR9QHasJ
import Derived.Test.YtgjeondicdipaaaR9QPlTk
import Derived.KernelRfl
set_option linter.unusedVariables false
set_option linter.unusedSimpArgs false
namespace Go.Cd
open Go Go.Fw
set_option maxRecDepth 100000 in
theorem job_begun : run kp (.data f_law19_begun []) = some (.ds [.bool true]) := run_of (n := 4000) (by kernel_rfl)
def tskOf (rank : Int) (t : Tk) : Tsk := ⟨rank, t.per, t.stop, ⟨false, t.m⟩, match t.w with | none => ⟨true, []⟩ | some j => ⟨false, [wayI, endI].drop j⟩, match t.o with | [] => ⟨true, []⟩ | x :: l => ⟨false, x :: l⟩⟩
theorem tskOf_ok (rank : Int) (t : Tk) (h : t.Ok) : (tskOf rank t).Ok := by
  obtain ⟨per, stop, m, w, o⟩ := t
  obtain ⟨_, h1, h2, _⟩ := h
  simp only at h1 h2
  refine ⟨⟨by simp [tskOf], by simp only [tskOf]; omega⟩, ?_, ?_⟩
  · cases w with
    | none => exact ⟨fun _ => rfl, by simp [tskOf]⟩
    | some j => exact ⟨by simp [tskOf], by simp [tskOf]; omega⟩
  · cases o with
    | nil => exact ⟨fun _ => rfl, by simp [tskOf]⟩
    | cons x l => exact ⟨by simp [tskOf], by simp only [tskOf]; omega⟩
end Go.Cd
