/- The law SatSteps, as the evaluator has it. No conditions. -/
import Derived.Test.YtjedomkpjidmbaaR3PSatUp
set_option linter.unusedVariables false
set_option linter.unusedSimpArgs false
namespace Go.Cd
open Go Go.Fw
theorem law_SatSteps (xs : List D) (h : Sh.hasL [.i .i64, .i .i64] xs) : run kp (.data f_law1_SatSteps xs) = some (.ds [.bool true]) := by
  obtain ⟨a, b, rfl, ha, hb⟩ := has_pair h
  rw [run_data, run_call, kp_law1_SatSteps]
  by_cases h1 : a < 0
  · simp [k_law1_SatSteps, sat_begun, h1]
  · by_cases h2 : b < 1
    · simp [k_law1_SatSteps, sat_begun, h1, h2]
    · by_cases h3 : 4611686018427387904 < a
      · simp [k_law1_SatSteps, sat_begun, h1, h2, h3]
      · by_cases h4 : 4611686018427387903 < b
        · simp [k_law1_SatSteps, sat_begun, h1, h2, h3, h4]
        · have h1' : 0 ≤ a := by omega
          have h2' : 1 ≤ b := by omega
          have w1 : IntKind.i64.wrap (a + b) = a + b := wrap_i64 (by omega) (by omega)
          have i1 : In64 (a + b) := ⟨by omega, by omega⟩
          have i2 : In64 0 := ⟨by decide, by decide⟩
          have i3 : In64 1 := ⟨by decide, by decide⟩
          have c1 : 0 ≤ a + b := by omega
          have c2 : ¬ (a + b < 0) := by omega
          obtain ⟨e1, e2, e3, e4, e5, e6⟩ := up_fits ha h2' h1'
          have d1 : (a + b) / b = a / b + 1 := by rw [Int.add_ediv_of_dvd_right (Int.dvd_refl b), Int.ediv_self (by omega)]
          have d2 : (a + b) % b = a % b := by simp
          have d3 : IntKind.i64.wrap (a / b + (if 0 < a % b then 1 else 0) + 1) = a / b + (if 0 < a % b then 1 else 0) + 1 := by
            split <;> exact wrap_i64 (by omega) (by omega)
          have d4 : a / b + 1 + (if 0 < a % b then 1 else 0) = a / b + (if 0 < a % b then 1 else 0) + 1 := by omega
          simp [k_law1_SatSteps, sat_begun, sat_Up, ha, hb, i1, i2, i3, w1, h1, h2, h1', h2', c1, c2, h3, h4, upV, d1, d2, d3, d4]
end Go.Cd
