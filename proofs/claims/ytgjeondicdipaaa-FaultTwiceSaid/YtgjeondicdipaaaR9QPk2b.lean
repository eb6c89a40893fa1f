/- Rows that are made, and what choices may be. No conditions. -/
import Derived.Test.YtgjeondicdipaaaR9QPk2
set_option linter.unusedVariables false
set_option linter.unusedSimpArgs false
namespace Go.Cd
open Go Go.Fw
theorem take_map_lenP {α β : Type} (f : α → β) (l : List α) : List.take l.length (List.map f l) = List.map f l := by
  rw [← List.length_map (f := f), List.take_length]
def aV (b : Nat) : List Inst → V
  | [] => .d (.sl true [])
  | x :: l => .sl false b 0 (x :: l).length
def aH (b : Nat) : List Inst → Hp
  | [] => []
  | x :: l => [(b, .row true ((x :: l).map Inst.d))]
def aN : List Inst → Nat
  | [] => 0
  | _ :: _ => 1
theorem natF (h b : Nat) (hb : h < b) : (¬ b = b + 1) ∧ (¬ b + 1 = b) ∧ (¬ b = b + 1 + 1) ∧ (¬ b + 1 + 1 = b) ∧ (¬ b = b + 1 + 1 + 1) ∧ (¬ b + 1 + 1 + 1 = b) ∧ (¬ b = b + 1 + 1 + 1 + 1) ∧ (¬ b + 1 + 1 + 1 + 1 = b) ∧ (¬ b < h) ∧ (¬ b = h) ∧ (¬ h = b) ∧ (h < b) ∧ (¬ b + 1 = b + 1 + 1) ∧ (¬ b + 1 + 1 = b + 1) ∧ (¬ b + 1 = b + 1 + 1 + 1) ∧ (¬ b + 1 + 1 + 1 = b + 1) ∧ (¬ b + 1 = b + 1 + 1 + 1 + 1) ∧ (¬ b + 1 + 1 + 1 + 1 = b + 1) ∧ (¬ b + 1 < b) ∧ (¬ b + 1 < h) ∧ (¬ b + 1 = h) ∧ (¬ h = b + 1) ∧ (h < b + 1) ∧ (¬ b + 1 + 1 = b + 1 + 1 + 1) ∧ (¬ b + 1 + 1 + 1 = b + 1 + 1) ∧ (¬ b + 1 + 1 = b + 1 + 1 + 1 + 1) ∧ (¬ b + 1 + 1 + 1 + 1 = b + 1 + 1) ∧ (¬ b + 1 + 1 < b) ∧ (¬ b + 1 + 1 < h) ∧ (¬ b + 1 + 1 = h) ∧ (¬ h = b + 1 + 1) ∧ (h < b + 1 + 1) ∧ (¬ b + 1 + 1 + 1 = b + 1 + 1 + 1 + 1) ∧ (¬ b + 1 + 1 + 1 + 1 = b + 1 + 1 + 1) ∧ (¬ b + 1 + 1 + 1 < b) ∧ (¬ b + 1 + 1 + 1 < h) ∧ (¬ b + 1 + 1 + 1 = h) ∧ (¬ h = b + 1 + 1 + 1) ∧ (h < b + 1 + 1 + 1) ∧ (¬ b + 1 + 1 + 1 + 1 < b) ∧ (¬ b + 1 + 1 + 1 + 1 < h) ∧ (¬ b + 1 + 1 + 1 + 1 = h) ∧ (¬ h = b + 1 + 1 + 1 + 1) ∧ (h < b + 1 + 1 + 1 + 1) := by omega
theorem valN_range {L : List D} {n m : Int} (ho : NumOk L n) (hm : 0 < m) : 0 ≤ valN L n m ∧ valN L n m < m := by
  unfold valN
  split
  · exact ⟨Int.emod_nonneg _ (by omega), Int.emod_lt_of_pos _ hm⟩
  · exact ⟨by omega, hm⟩
theorem valN_off {L : List D} {n m : Int} (hl : ¬ n < L.length) : valN L n m = 0 := by
  unfold valN
  rw [List.getElem?_eq_none (by omega)]
def endI : Inst := ⟨0, 0, 0, 0⟩
theorem hputs_append (hp : Hp) : ∀ (a b : Hp), hputs hp (a ++ b) = hputs (hputs hp a) b
  | [], _ => rfl
  | (i, x) :: a, b => hputs_append (hput hp i x) a b
end Go.Cd
