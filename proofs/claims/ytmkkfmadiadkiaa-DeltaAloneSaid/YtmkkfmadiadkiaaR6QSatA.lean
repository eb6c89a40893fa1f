/- The functions of sat, and the reference's. No conditions. -/
import Derived.Test.YtmkkfmadiadkiaaCode
import Derived.Test.YtmkkfmadiadkiaaS5
import Derived.Laws.BitsAllLaws
import Derived.KernelRfl
set_option linter.unusedVariables false
set_option linter.unusedSimpArgs false
namespace Go.Cd
open Go Go.Fw
def In64 (a : Int) : Prop := -9223372036854775808 ≤ a ∧ a < 9223372036854775808
def lo64 : Int := -9223372036854775808
def hi64 : Int := 9223372036854775807
/-- A number, or the end that it goes beyond. -/
def satV (x : Int) : Int := if x < -9223372036854775808 then -9223372036854775808 else if 9223372036854775807 < x then 9223372036854775807 else x
def satB (x : Int) : Bool := decide (-9223372036854775808 ≤ x ∧ x ≤ 9223372036854775807)
theorem msb_of {a : Int} (h : In64 a) : (BitVec.ofInt 64 a).msb = decide (a < 0) := by
  have := h.1
  have := h.2
  rw [BitVec.msb_eq_decide]
  simp only [BitVec.toNat_ofInt]
  congr 1
  apply propext
  omega
theorem neg_wrap (n : Nat) (h : n < 18446744073709551616) : IntKind.i64.wrap (n : Int) < 0 ↔ 9223372036854775808 ≤ n := by
  simp only [IntKind.wrap, IntKind.bits, IntKind.signed]
  simp
  omega
theorem neg_and {a b : Int} (ha : In64 a) (hb : In64 b) : bits .and .i64 a b < 0 ↔ a < 0 ∧ b < 0 := by
  have key : bits .and .i64 a b = IntKind.i64.wrap (((BitVec.ofInt 64 a &&& BitVec.ofInt 64 b).toNat : Nat) : Int) := rfl
  rw [key, neg_wrap _ (BitVec.isLt _)]
  have h1 := msb_of ha
  have h2 := msb_of hb
  have h3 : (BitVec.ofInt 64 a &&& BitVec.ofInt 64 b).msb = (decide (a < 0) && decide (b < 0)) := by rw [BitVec.msb_and, h1, h2]
  rw [BitVec.msb_eq_decide] at h3
  have : decide (2 ^ (64 - 1) ≤ (BitVec.ofInt 64 a &&& BitVec.ofInt 64 b).toNat) = decide (a < 0 ∧ b < 0) := by rw [h3]; simp
  exact decide_eq_decide.1 this
theorem neg_xor {a b : Int} (ha : In64 a) (hb : In64 b) : bits .xor .i64 a b < 0 ↔ ¬ (a < 0 ↔ b < 0) := by
  have key : bits .xor .i64 a b = IntKind.i64.wrap (((BitVec.ofInt 64 a ^^^ BitVec.ofInt 64 b).toNat : Nat) : Int) := rfl
  rw [key, neg_wrap _ (BitVec.isLt _)]
  have h1 := msb_of ha
  have h2 := msb_of hb
  have h3 : (BitVec.ofInt 64 a ^^^ BitVec.ofInt 64 b).msb = (decide (a < 0) ^^ decide (b < 0)) := by rw [BitVec.msb_xor, h1, h2]
  rw [BitVec.msb_eq_decide] at h3
  have : decide (2 ^ (64 - 1) ≤ (BitVec.ofInt 64 a ^^^ BitVec.ofInt 64 b).toNat) = decide (¬ (a < 0 ↔ b < 0)) := by
    rw [h3]
    by_cases h4 : a < 0 <;> by_cases h5 : b < 0 <;> simp [h4, h5]
  exact decide_eq_decide.1 this
theorem wrap_in (x : Int) : In64 (IntKind.i64.wrap x) := by
  simp only [IntKind.wrap, IntKind.bits, IntKind.signed, In64]
  simp
  omega
theorem bits_in (op : BinOp) (h : op = .and ∨ op = .xor) (a b : Int) : In64 (bits op .i64 a b) := by
  rcases h with rfl | rfl
  · exact wrap_in _
  · exact wrap_in _
theorem sat_end (b : Bool) : run kp (.data f_sat_end [.bool b]) = some (.ds [.int .i64 (if b then -9223372036854775808 else 9223372036854775807), .bool false]) := by
  rw [run_data, run_call, kp_sat_end]
  cases b <;> simp [k_sat_end]
theorem wrap_add_u (a b : Int) : IntKind.i64.wrap (IntKind.u64.wrap (IntKind.u64.wrap a + IntKind.u64.wrap b)) = IntKind.i64.wrap (a + b) := by
  simp only [IntKind.wrap, IntKind.bits, IntKind.signed]
  simp
theorem wrap_sub_u (a b : Int) : IntKind.i64.wrap (IntKind.u64.wrap (IntKind.u64.wrap a - IntKind.u64.wrap b)) = IntKind.i64.wrap (a - b) := by
  simp only [IntKind.wrap, IntKind.bits, IntKind.signed]
  simp
theorem wrap_near {x : Int} (h1 : -18446744073709551616 ≤ x) (h2 : x < 18446744073709551616) : (x < -9223372036854775808 ∧ IntKind.i64.wrap x = x + 18446744073709551616) ∨ (-9223372036854775808 ≤ x ∧ x < 9223372036854775808 ∧ IntKind.i64.wrap x = x) ∨ (9223372036854775808 ≤ x ∧ IntKind.i64.wrap x = x - 18446744073709551616) := by
  simp only [IntKind.wrap, IntKind.bits, IntKind.signed]
  simp
  omega
theorem sat_Add (a b : Int) (ha : In64 a) (hb : In64 b) : run kp (.data f_sat_Add [.int .i64 a, .int .i64 b]) = some (.ds [.int .i64 (satV (a + b)), .bool (satB (a + b))]) := by
  rw [run_data, run_call, kp_sat_Add]
  simp [k_sat_Add, sat_end, wrap_add_u]
  have hs := wrap_in (a + b)
  have h1 := neg_and (bits_in .xor (.inr rfl) a (IntKind.i64.wrap (a + b))) (bits_in .xor (.inr rfl) b (IntKind.i64.wrap (a + b)))
  rw [neg_xor ha hs, neg_xor hb hs] at h1
  have h2 := wrap_near (x := a + b) (by have := ha.1; have := hb.1; omega) (by have := ha.2; have := hb.2; omega)
  generalize IntKind.i64.wrap (a + b) = s at *
  have := ha.1; have := ha.2; have := hb.1; have := hb.2
  by_cases hc : bits .and .i64 (bits .xor .i64 a s) (bits .xor .i64 b s) < 0
  · have h3 := h1.1 hc
    rw [if_pos hc]
    simp only [satV, satB]
    by_cases hn : a < 0
    · have : a + b < -9223372036854775808 := by omega
      simp [hn, this]
      omega
    · have h4 : ¬ a + b < -9223372036854775808 := by omega
      have h5 : 9223372036854775807 < a + b := by omega
      simp [hn, h4, h5]
  · have h3 : ¬ _ := fun h => hc (h1.2 h)
    rw [if_neg hc]
    simp only [satV, satB]
    have h4 : ¬ a + b < -9223372036854775808 := by omega
    have h5 : ¬ 9223372036854775807 < a + b := by omega
    have h6 : s = a + b := by omega
    simp [h4, h5, h6]
    omega
end Go.Cd
