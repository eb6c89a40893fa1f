/- Machines that are alike, and at their begin. No conditions. -/
import Derived.Test.YtgjeondicdipaaaR9QVmG
set_option linter.unusedVariables false
set_option linter.unusedSimpArgs false
namespace Go.Cd
open Go Go.Fw
def smSt (pc : Int) (mem : List Int) (rn rn2 : Bool) (reps : List Rep) (over : Bool) (i : Nat) (ex : List (Nat × V)) : St :=
  { env := [(2, .ptr 0 []), (3, .ptr 1 []), (5, .int .i64 (i : Int))] ++ ex, hp := [(0, .box (.agg [.int .i64 pc, .d (.agg (mem.map (.int .i64))), .asl rn (reps.map Rep.d), .bool over])), (1, .box (.agg [.int .i64 pc, .d (.agg (mem.map (.int .i64))), .asl rn2 (reps.map Rep.d), .bool over]))], tl := fun _ => none, base := 0, next := 2 }
set_option maxRecDepth 10000 in
set_option maxHeartbeats 8000000 in
theorem sm_loop (pc : Int) (mem : List Int) (rn rn2 : Bool) (reps : List Rep) (over : Bool) (hl : reps.length ≤ 100000) : ∀ (k i : Nat), i + k = reps.length →
    run kp (.loop [2, 3, 5] k_ref1_SameMachine_L0 (smSt pc mem rn rn2 reps over i [])) = some (.out (.ext 0) (smSt pc mem rn rn2 reps over reps.length [(38, .bool false)]))
  | 0, i, h => by
    obtain rfl : i = reps.length := by omega
    rw [run_round]
    simp [c_ref1_SameMachine_L0, k_ref1_SameMachine_L0b, smSt]
  | k + 1, i, h => by
    rw [← sm_loop pc mem rn rn2 reps over hl k (i + 1) (by omega), run_round]
    have hi : i < reps.length := by omega
    have hi2 : (i : Int) < (reps.length : Int) := by omega
    obtain ⟨x, hx⟩ : ∃ x, reps[i]? = some x := ⟨_, List.getElem?_eq_getElem hi⟩
    have hx2 : ∀ hh : i < reps.length, reps[i] = x := fun hh => by rw [List.getElem?_eq_getElem hh] at hx; injection hx
    have w : IntKind.i64.wrap ((i : Int) + 1) = ((i + 1 : Nat) : Int) := by rw [wrap_i64 (by omega) (by omega)]; omega
    have e : D.beqs [D.int .i64 x.first, .int .i64 x.last, .int .i64 x.left] [D.int .i64 x.first, .int .i64 x.last, .int .i64 x.left] = true := (D.beqs_iff _ _).2 rfl
    generalize i + 1 = j at *
    simp [c_ref1_SameMachine_L0, k_ref1_SameMachine_L0b, smSt, hi, hi2, hx, hx2, w, Rep.d, e]
set_option maxRecDepth 10000 in
set_option maxHeartbeats 8000000 in
theorem same_machine (pc : Int) (mem : List Int) (rn rn2 : Bool) (reps : List Rep) (over : Bool) (hl : reps.length ≤ 100000) : run kp (.data f_ref1_SameMachine [mD pc mem rn reps over, mD pc mem rn2 reps over]) = some (.ds [.bool true]) := by
  have pv := pv_d mem
  have e : D.beqs (mem.map (D.int .i64)) (mem.map (D.int .i64)) = true := (D.beqs_iff _ _).2 rfl
  have lp := sm_loop pc mem rn rn2 reps over hl reps.length 0 (by omega)
  simp only [smSt, List.append_nil, Int.cast_ofNat_Int, List.cons_append, List.nil_append] at lp
  rw [run_data, run_call, kp_ref1_SameMachine]
  simp [k_ref1_SameMachine, mD, pv.toD, e, lp]
theorem vm_New (v : Int) : run kp (.data f_vm_New [.int .i64 v]) = some (.ds [mD 0 [v, 0, 0, 0, 0, 0, 0, 0] true [] false]) := by
  rw [run_data, run_call, kp_vm_New]
  simp [k_vm_New, mD]
theorem ref1_New (v : Int) : run kp (.data f_ref1_NewMachine [.int .i64 v]) = some (.ds [mD 0 [v, 0, 0, 0, 0, 0, 0, 0] true [] false]) := by
  rw [run_data, run_call, kp_ref1_NewMachine]
  simp [k_ref1_NewMachine, mD]
end Go.Cd
