/- The functions of pick. No conditions. -/
import Derived.Test.YtnchpinimmdfoaaR5QRowP
import Derived.Test.YtnchpinimmdfoaaR5QPickM
set_option linter.unusedVariables false
set_option linter.unusedSimpArgs false
namespace Go.Cd
open Go Go.Fw
theorem cmp_isNaN (x : Int) : run kp (.data f_cmp_isNaN_int [.int .i64 x]) = some (.ds [.bool false]) := by
  rw [run_data, run_call, kp_cmp_isNaN_int]
  simp [k_cmp_isNaN_int]
theorem cmp_Compare (x y : Int) : run kp (.data f_cmp_Compare_int [.int .i64 x, .int .i64 y]) = some (.ds [.int .i64 (cmpI x y)]) := by
  rw [run_data, run_call, kp_cmp_Compare_int]
  have a1 := cmp_isNaN x
  have a2 := cmp_isNaN y
  unfold cmpI
  by_cases h1 : x < y
  · simp [k_cmp_Compare_int, a1, a2, h1]
  · by_cases h2 : y < x
    · simp [k_cmp_Compare_int, a1, a2, h1, h2]
    · simp [k_cmp_Compare_int, a1, a2, h1, h2]
set_option maxHeartbeats 4000000 in
theorem cmp_Or (a b c : Int) : run kp (.data f_cmp_Or_int [.sl false [.int .i64 a, .int .i64 b, .int .i64 c]]) = some (.ds [.int .i64 (if ¬ a = 0 then a else if ¬ b = 0 then b else c)]) := by
  rw [run_data, run_call, kp_cmp_Or_int]
  have w1 : IntKind.i64.wrap 1 = 1 := by decide
  have w2 : IntKind.i64.wrap 2 = 2 := by decide
  have w3 : IntKind.i64.wrap 3 = 3 := by decide
  simp [k_cmp_Or_int]
  rw [run_round]
  by_cases h1 : a = 0
  · simp [c_cmp_Or_int_L0, k_cmp_Or_int_L0b, h1, w1]
    rw [run_round]
    by_cases h2 : b = 0
    · simp [c_cmp_Or_int_L0, k_cmp_Or_int_L0b, h2, w2]
      rw [run_round]
      by_cases h3 : c = 0
      · simp [c_cmp_Or_int_L0, k_cmp_Or_int_L0b, h3, w3]
        rw [run_round]
        simp [c_cmp_Or_int_L0, k_cmp_Or_int_L0b]
      · simp [c_cmp_Or_int_L0, k_cmp_Or_int_L0b, h3]
    · simp [c_cmp_Or_int_L0, k_cmp_Or_int_L0b, h2]
  · simp [c_cmp_Or_int_L0, k_cmp_Or_int_L0b, h1]
theorem pick_compare (p q : Pl) : run kp (.data f_pick_compare [p.d, q.d]) = some (.ds [.int .i64 (cmpP p q)]) := by
  rw [run_data, run_call, kp_pick_compare]
  unfold cmpP
  simp [k_pick_compare, Pl.d, cmp_Compare, cmp_Or]
theorem pick_of (j : Job) (hj : j.held.length ≤ maxLen) (n : Int) (nl : Bool) (s : List Sema) : run kp (.data f_pick_of [j.d, .int .i64 n, .sl nl (s.map Sema.d)]) = some (.ds [(plOf n s j).d]) := by
  rw [run_data, run_call, kp_pick_of]
  have b := band_Of j hj n nl s
  have l := fun nh => sema_Low nl nh s j.held hj j.task
  unfold plOf
  simp only [Pl.d]
  generalize ofF j n s = x at *
  generalize (lowF s j.task j.held [] 0 false).1 = lo at *
  generalize (lowF s j.task j.held [] 0 false).2.1 = is at *
  cases is <;> simp [k_pick_of, Job.argV, b, l]
end Go.Cd
