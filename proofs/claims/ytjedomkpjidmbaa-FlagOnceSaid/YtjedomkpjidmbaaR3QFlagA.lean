/- Await, where none is none just if there is nobody. No conditions. -/
import Derived.Test.YtjedomkpjidmbaaR3QFlag
set_option linter.unusedVariables false
set_option linter.unusedSimpArgs false
namespace Go.Cd
open Go Go.Fw
theorem flag_Await2 (f : Flag) (hn : f.wn = f.wait.isEmpty) (hf : f.wait.length ≤ 1000) (c m : Int) : run kp (.data f_flag_Await [f.d, .int .i64 c, .int .u32 m]) =
    some (.ds [.agg [.int .u32 (awaitF f c m).1, .sl (awaitF f c m).2.1.isEmpty ((awaitF f c m).2.1.map Waiter.d)], .int .u32 (awaitF f c m).2.2.1, .bool (awaitF f c m).2.2.2]) := by
  obtain ⟨b, nl, l⟩ := f
  simp only at hn hf
  have cl := clone_Waiter nl l (by rw [hn]; exact List.isEmpty_iff.1) hf
  simp only [Flag.d, awaitF]
  rw [run_data, run_call, kp_flag_Await]
  cases nl with
  | true =>
    have := List.isEmpty_iff.1 hn.symm
    subst this
    simp only [List.map_nil] at cl ⊢
    by_cases h1 : c < 1
    · simp [k_flag_Await, cl, h1]
    · by_cases h2 : m = 0
      · simp [k_flag_Await, cl, h1, h2]
      · by_cases h3 : bits .and .u32 b m = 0
        · have cw := fun tl n p hp hlt => contains_Waiter c tl n p hp hlt true [] (by simp)
          simp only [List.map_nil, List.any_nil] at cw
          simp [k_flag_Await, cl, h1, h2, h3, cw, Waiter.d]
        · simp [k_flag_Await, cl, h1, h2, h3]
  | false =>
    have hne : l.isEmpty = false := hn.symm
    by_cases h1 : c < 1
    · simp [k_flag_Await, cl, h1, hne]
    · by_cases h2 : m = 0
      · simp [k_flag_Await, cl, h1, h2, hne]
      · by_cases h3 : bits .and .u32 b m = 0
        · by_cases h4 : 4 ≤ l.length
          · have h4' : (4 : Int) ≤ l.length := by omega
            simp [k_flag_Await, cl, h1, h2, h3, h4, h4', hne]
          · have h4' : ¬ (4 : Int) ≤ l.length := by omega
            have h5 : l.length ≤ 1073741823 := by omega
            cases h6 : (l.any fun w => decide (w.client = c))
            · simp [k_flag_Await, cl, h1, h2, h3, h4, h4', contains_Waiter c, hf, h5, h6, Waiter.d, hne]
              exact List.take_of_length_le (by simp)
            · simp [k_flag_Await, cl, h1, h2, h3, h4, h4', contains_Waiter c, hf, h5, h6, Waiter.d, hne]
        · simp [k_flag_Await, cl, h1, h2, h3, hne]
theorem rowD_eq2 (l : List Waiter) : rowD l = .sl l.isEmpty (l.map Waiter.d) := by cases l <;> rfl
theorem flag_Raise2 (f : Flag) (hf : f.wait.length ≤ 1000) (mask : Int) : run kp (.data f_flag_Raise [f.d, .int .u32 mask]) =
    some (.ds [.agg [.int .u32 (raiseF f.wait (bits .or .u32 f.bits mask) [] []).1, .sl (raiseF f.wait (bits .or .u32 f.bits mask) [] []).2.1.isEmpty ((raiseF f.wait (bits .or .u32 f.bits mask) [] []).2.1.map Waiter.d)], .sl (raiseF f.wait (bits .or .u32 f.bits mask) [] []).2.2.isEmpty ((raiseF f.wait (bits .or .u32 f.bits mask) [] []).2.2.map Waiter.d)]) := by
  rw [flag_Raise f hf mask, rowD_eq2, rowD_eq2]
end Go.Cd
