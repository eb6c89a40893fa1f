/- Calls of one's own, told apart from where they stand. No conditions. -/
import Derived.Test.YtfddchjmpmjcfaaGreatS5
set_option linter.unusedVariables false
set_option linter.unusedSimpArgs false
namespace Go.Fw
open Go
@[simp] theorem hlook_nil (x : Nat) : hlook [] x = none := rfl
@[simp] theorem gOf_same (n : Nat) (b : Blk) (h : Hp) (tl : Nat → Option Blk) : gOf ((n, b) :: h) tl n = some b := by
  simp [gOf, hlook]
@[simp] theorem gOf_nil' (tl : Nat → Option Blk) : gOf [] tl = tl := by
  funext x; simp [gOf]
theorem gOf_below {p n : Nat} (hlt : p < n) (b : Blk) (tl : Nat → Option Blk) : gOf [(n, b)] tl p = tl p := by
  have : ¬ n = p := by omega
  simp [gOf, hlook, this]
theorem canK_canH (e : Env) (s : St) : canK (canon e s) = canK (canonH e s) := rfl
@[simp] theorem binV_eql_agg (l m : List D) : binV .eql (.d (.agg l)) (.d (.agg m)) = some (.bool (D.beqs l m)) := by
  simp [binV, eqV, V.pure?, D.beq]
@[simp] theorem binV_neq_agg (l m : List D) : binV .neq (.d (.agg l)) (.d (.agg m)) = some (.bool (!D.beqs l m)) := by
  simp [binV, eqV, V.pure?, D.beq]
@[simp] theorem binV_eql_str (l m : List UInt8) : binV .eql (.d (.str l)) (.d (.str m)) = some (.bool (decide (l = m))) := by
  simp [binV, eqV, V.pure?, D.beq]
@[simp] theorem binV_neq_str (l m : List UInt8) : binV .neq (.d (.str l)) (.d (.str m)) = some (.bool (!decide (l = m))) := by
  simp [binV, eqV, V.pure?, D.beq]
attribute [simp] D.beq D.beqs
end Go.Fw
