/- Texts of this session in one. No conditions. -/
import Derived.Test.YtfddchjmpmjcfaaGreatCode
import Derived.Test.YtfddchjmpmjcfaaGreatS6
set_option linter.unusedVariables false
set_option linter.unusedSimpArgs false
namespace Go.Cd
open Go Go.Fw
structure Inst where
  op : Int
  a : Int
  b : Int
  n : Int
def Inst.d (i : Inst) : D := .agg [.int .i64 i.op, .int .i64 i.a, .int .i64 i.b, .int .i64 i.n]
end Go.Cd
namespace Go.Cd
open Go Go.Fw
def memB (a : Int) : Bool := decide (0 ≤ a ∧ a < 8)
def withB (v f t : Int) : Bool := decide (f ≤ v ∧ v ≤ t)
def mayF (i : Inst) : Bool :=
  if i.op = 0 ∨ i.op = 11 then decide (i.a = 0 ∧ i.b = 0 ∧ i.n = 0)
  else if i.op = 1 then memB i.a && decide (i.b = 0) && withB i.n (-2147483648) 2147483647
  else if i.op = 2 ∨ i.op = 3 ∨ i.op = 4 then memB i.a && memB i.b && decide (i.n = 0)
  else if i.op = 5 then memB i.a && decide (i.b = 0) && withB i.n (-63) 63
  else if i.op = 6 then memB i.a && decide (i.b = 0) && withB i.n 1 64
  else if i.op = 7 then memB i.a && decide (i.b = 0) && withB i.n 1 24
  else if i.op = 8 then decide (i.a = 0) && withB i.b 1 24 && withB i.n 1 20
  else if i.op = 9 ∨ i.op = 10 then withB i.a 0 3 && decide (i.b = 0) && decide (i.n = 0)
  else false
theorem code_memory (a : Int) : run kp (.data f_code_memory [.int .i64 a]) = some (.ds [.bool (memB a)]) := by
  rw [run_data, run_call, kp_code_memory]
  unfold memB
  by_cases h : 0 ≤ a
  · simp [k_code_memory, h]
  · simp [k_code_memory, h]
theorem code_within (v f t : Int) : run kp (.data f_code_within [.int .i64 v, .int .i64 f, .int .i64 t]) = some (.ds [.bool (withB v f t)]) := by
  rw [run_data, run_call, kp_code_within]
  unfold withB
  by_cases h : f ≤ v
  · simp [k_code_within, h]
  · simp [k_code_within, h]
set_option maxHeartbeats 16000000 in
theorem code_May (i : Inst) : run kp (.data f_code_May [i.d]) = some (.ds [.bool (mayF i)]) := by
  obtain ⟨op, a, b, n⟩ := i
  rw [run_data, run_call, kp_code_May]
  unfold mayF
  simp only [Inst.d]
  have m1 := code_memory a
  have m2 := code_memory b
  have w1 := fun f t => code_within n f t
  have w2 := fun f t => code_within b f t
  have w3 := fun f t => code_within a f t
  by_cases h0 : op = 0
  · subst h0
    by_cases q1 : a = 0 <;> by_cases q2 : b = 0 <;> simp [k_code_May, q1, q2]
  by_cases h11 : op = 11
  · subst h11
    by_cases q1 : a = 0 <;> by_cases q2 : b = 0 <;> simp [k_code_May, q1, q2]
  by_cases h1 : op = 1
  · subst h1
    cases q1 : memB a <;> by_cases q2 : b = 0 <;> simp [k_code_May, m1, w1, q1, q2]
  by_cases h2 : op = 2
  · subst h2
    cases q1 : memB a <;> cases q2 : memB b <;> simp [k_code_May, m1, m2, q1, q2]
  by_cases h3 : op = 3
  · subst h3
    cases q1 : memB a <;> cases q2 : memB b <;> simp [k_code_May, m1, m2, q1, q2]
  by_cases h4 : op = 4
  · subst h4
    cases q1 : memB a <;> cases q2 : memB b <;> simp [k_code_May, m1, m2, q1, q2]
  by_cases h5 : op = 5
  · subst h5
    cases q1 : memB a <;> by_cases q2 : b = 0 <;> simp [k_code_May, m1, w1, q1, q2]
  by_cases h6 : op = 6
  · subst h6
    cases q1 : memB a <;> by_cases q2 : b = 0 <;> simp [k_code_May, m1, w1, q1, q2]
  by_cases h7 : op = 7
  · subst h7
    cases q1 : memB a <;> by_cases q2 : b = 0 <;> simp [k_code_May, m1, w1, q1, q2]
  by_cases h8 : op = 8
  · subst h8
    by_cases q1 : a = 0
    · cases q2 : withB b 1 24 <;> simp [k_code_May, w1, w2, q1, q2]
    · simp [k_code_May, q1]
  by_cases h9 : op = 9
  · subst h9
    cases q1 : withB a 0 3 <;> by_cases q2 : b = 0 <;> simp [k_code_May, w3, q1, q2]
  by_cases h10 : op = 10
  · subst h10
    cases q1 : withB a 0 3 <;> by_cases q2 : b = 0 <;> simp [k_code_May, w3, q1, q2]
  simp [k_code_May, h0, h1, h2, h3, h4, h5, h6, h7, h8, h9, h10, h11]
@[simp] theorem take_map_lenV {α β : Type} (f : α → β) (l : List α) : List.take l.length (List.map f l) = List.map f l := by
  rw [← List.length_map (f := f), List.take_length]
@[simp] theorem frees_ints (k : IntKind) : ∀ l : List Int, D.frees (l.map (D.int k)) = true
  | [] => rfl
  | _ :: l => by simp [D.frees, D.free, frees_ints k l]
@[simp] theorem flats_ints (k : IntKind) : ∀ l : List Int, D.flats (l.map (D.int k)) = true
  | [] => rfl
  | _ :: l => by simp [D.flats, D.flat, flats_ints k l]
end Go.Cd
