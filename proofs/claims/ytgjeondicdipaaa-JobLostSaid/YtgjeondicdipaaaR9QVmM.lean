/- Which instructions may be, the document's answer. No conditions. -/
import Derived.Test.YtgjeondicdipaaaR9QMay
set_option linter.unusedVariables false
set_option linter.unusedSimpArgs false
namespace Go.Cd
open Go Go.Fw
theorem ref1_has (a : Int) : run kp (.data f_ref1_places_has [.agg [.int .i64 8], .int .i64 a]) = some (.ds [.bool (memB a)]) := by
  rw [run_data, run_call, kp_ref1_places_has]
  unfold memB
  by_cases h : 0 ≤ a
  · simp [k_ref1_places_has, h]
  · simp [k_ref1_places_has, h]
set_option maxHeartbeats 16000000 in
theorem ref1_MayInst (i : Inst) : run kp (.data f_ref1_MayInst [i.d]) = some (.ds [.bool (mayF i)]) := by
  obtain ⟨op, a, b, n⟩ := i
  rw [run_data, run_call, kp_ref1_MayInst]
  unfold mayF
  simp only [Inst.d]
  have m1 := ref1_has a
  have m2 := ref1_has b
  by_cases h0 : op = 0
  · subst h0
    by_cases q1 : a = 0 <;> by_cases q2 : b = 0 <;> simp [k_ref1_MayInst, q1, q2]
  by_cases h11 : op = 11
  · subst h11
    by_cases q1 : a = 0 <;> by_cases q2 : b = 0 <;> simp [k_ref1_MayInst, q1, q2]
  by_cases h1 : op = 1
  · subst h1
    cases q1 : memB a
    · simp [k_ref1_MayInst, m1, q1]
    by_cases q2 : b = 0
    · by_cases q3 : -2147483648 ≤ n
      · have e : (n < 2147483648) = (n ≤ 2147483647) := by apply propext; omega
        simp [k_ref1_MayInst, m1, q1, q2, q3, withB, e]
      · simp [k_ref1_MayInst, m1, q1, q2, q3, withB]
    · simp [k_ref1_MayInst, m1, q1, q2]
  by_cases h2 : op = 2
  · subst h2
    cases q1 : memB a <;> cases q2 : memB b <;> simp [k_ref1_MayInst, m1, m2, q1, q2]
  by_cases h3 : op = 3
  · subst h3
    cases q1 : memB a <;> cases q2 : memB b <;> simp [k_ref1_MayInst, m1, m2, q1, q2]
  by_cases h4 : op = 4
  · subst h4
    cases q1 : memB a <;> cases q2 : memB b <;> simp [k_ref1_MayInst, m1, m2, q1, q2]
  by_cases h5 : op = 5
  · subst h5
    cases q1 : memB a <;> by_cases q2 : b = 0 <;> by_cases q3 : -63 ≤ n <;> simp [k_ref1_MayInst, m1, q1, q2, q3, withB]
  by_cases h6 : op = 6
  · subst h6
    cases q1 : memB a <;> by_cases q2 : b = 0 <;> by_cases q3 : 1 ≤ n <;> simp [k_ref1_MayInst, m1, q1, q2, q3, withB]
  by_cases h7 : op = 7
  · subst h7
    cases q1 : memB a <;> by_cases q2 : b = 0 <;> by_cases q3 : 1 ≤ n <;> simp [k_ref1_MayInst, m1, q1, q2, q3, withB]
  by_cases h8 : op = 8
  · subst h8
    by_cases q1 : a = 0 <;> by_cases q2 : 1 ≤ b <;> by_cases q4 : b ≤ 24 <;> by_cases q3 : 1 ≤ n <;> simp [k_ref1_MayInst, q1, q2, q3, q4, withB]
  by_cases h9 : op = 9
  · subst h9
    have e : (a < 4) = (a ≤ 3) := by apply propext; omega
    by_cases q1 : 0 ≤ a <;> by_cases q3 : a ≤ 3 <;> by_cases q2 : b = 0 <;> simp [k_ref1_MayInst, q1, q2, q3, withB, e]
  by_cases h10 : op = 10
  · subst h10
    have e : (a < 4) = (a ≤ 3) := by apply propext; omega
    by_cases q1 : 0 ≤ a <;> by_cases q3 : a ≤ 3 <;> by_cases q2 : b = 0 <;> simp [k_ref1_MayInst, q1, q2, q3, withB, e]
  simp [k_ref1_MayInst, h0, h1, h2, h3, h4, h5, h6, h7, h8, h9, h10, h11]
end Go.Cd
