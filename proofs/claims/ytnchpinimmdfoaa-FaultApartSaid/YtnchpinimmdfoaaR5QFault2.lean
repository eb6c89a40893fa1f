/- A job without a semaphore. No conditions. -/
import Derived.Test.YtnchpinimmdfoaaR5QFault
set_option linter.unusedVariables false
set_option linter.unusedSimpArgs false
namespace Go.Cd
open Go Go.Fw
@[simp] theorem take_map_lenF {α β : Type} (f : α → β) (l : List α) : List.take l.length (List.map f l) = List.map f l := by
  rw [← List.length_map (f := f), List.take_length]
def mI (x : Int) : D := .agg [.int .i64 0, .agg [.int .i64 x, .int .i64 0, .int .i64 0, .int .i64 0, .int .i64 0, .int .i64 0, .int .i64 0, .int .i64 0], .sl true [], .bool false]
def jI (t a i p x : Int) (nl : Bool) (held : List Int) (up : Bool) : D := .agg [.int .i64 t, .int .i64 a, .int .i64 i, .int .i64 p, mI x, mI x, .sl nl (held.map (.int .i64)), .bool up]
theorem clone_rep_nil : run kp (.data f_slices_Clone_api_Rep2_api_Rep2 [.sl true []]) = some (.ds [.sl true []]) := by
  rw [run_data, run_call, kp_slices_Clone_api_Rep2_api_Rep2]
  simp [k_slices_Clone_api_Rep2_api_Rep2]
theorem clone_intF (nl : Bool) (l : List Int) (hn : nl = true → l = []) (hl : l.length ≤ 1000) : run kp (.data f_slices_Clone_int_int [.sl nl (l.map (.int .i64))]) = some (.ds [.sl nl (l.map (.int .i64))]) := by
  rw [run_data, run_call, kp_slices_Clone_int_int]
  cases nl with
  | true => simp [hn rfl, k_slices_Clone_int_int]
  | false =>
    simp [k_slices_Clone_int_int]
    omega
theorem index_nilF (tl : Nat → Option Blk) (n p : Nat) (hlt : p < n) : run kp (.call f_slices_IndexFunc_int_int [.d (.sl true []), V.clo f_fault_Loses_1 [] [V.ptr p []]] tl n) = some (.val (.int .i64 (-1)) [] n) := by
  rw [run_call, kp_slices_IndexFunc_int_int]
  simp [k_slices_IndexFunc_int_int, hlt]
  rw [run_round]
  simp [c_slices_IndexFunc_int_int_L0, k_slices_IndexFunc_int_int_L0b, hlt, canK_canH]
theorem delete_nilF (tl : Nat → Option Blk) (n p : Nat) (hlt : p < n) : run kp (.call f_slices_DeleteFunc_int_int [.d (.sl true []), V.clo f_fault_Loses_1 [] [V.ptr p []]] tl n) = some (.val (.d (.sl true [])) [] n) := by
  rw [run_call, kp_slices_DeleteFunc_int_int]
  simp [k_slices_DeleteFunc_int_int, hlt, index_nilF tl n p hlt, canK_canH]
theorem fault_Loses (t a i p x s : Int) (up : Bool) (held : List Int) (hl : held.length ≤ 1000) :
    run kp (.data f_fault_Loses [jI t a i p x held.isEmpty held up, .int .i64 s]) = some (.ds [jI t a i p x held.isEmpty (leftF s held) up]) := by
  rw [run_data, run_call, kp_fault_Loses]
  have c1 := clone_rep_nil
  have c2 := clone_intF held.isEmpty held List.isEmpty_iff.1 hl
  cases held with
  | nil =>
    simp at c2
    simp [k_fault_Loses, jI, mI, c1, c2, delete_nilF, leftF]
  | cons b held =>
    simp only [List.isEmpty_cons] at c2 ⊢
    generalize hh : b :: held = l at *
    simp [k_fault_Loses, jI, mI, c1, c2]
    generalize hT : Task.call f_slices_DeleteFunc_int_int _ _ _ = T
    have hD : (leftF s l = l ∧ run kp T = some (.val (.sl false 3 0 l.length) [] 4)) ∨ (∃ zs, run kp T = some (.val (.sl false 3 0 (leftF s l).length) [(3, .row true ((leftF s l).map (.int .i64) ++ zs))] 4)) := by
      rw [← hT]; exact deleteF s _ 4 1 3 (by simp) (by decide) (by decide) (by decide) l (by simp) hl
    clear hT
    rcases hD with ⟨h1, h2⟩ | ⟨zs, h2⟩
    · rw [h1]
      simp [h2]
    · generalize leftF s l = F at *
      have t1 : List.take F.length (F.map (D.int .i64) ++ zs) = F.map (.int .i64) := by rw [List.take_append_of_le_length (by simp)]; simp
      simp [h2, t1]
end Go.Cd
