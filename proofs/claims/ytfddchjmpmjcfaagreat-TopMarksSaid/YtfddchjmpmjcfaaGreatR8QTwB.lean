/- Texts of this session in one. No conditions. -/
import Derived.Test.YtfddchjmpmjcfaaGreatCode
import Derived.Test.YtfddchjmpmjcfaaGreatS5
import Derived.Laws.BitsAllLaws
import Derived.KernelRfl
import Derived.Test.YtfddchjmpmjcfaaGreatR8QTkD
set_option linter.unusedVariables false
set_option linter.unusedSimpArgs false
namespace Go.Cd
open Go Go.Fw
def In64 (a : Int) : Prop := -9223372036854775808 ≤ a ∧ a < 9223372036854775808
def lo64 : Int := -9223372036854775808
def hi64 : Int := 9223372036854775807
/-- A number, or the end that it goes beyond. -/
def satV (x : Int) : Int := if x < -9223372036854775808 then -9223372036854775808 else if 9223372036854775807 < x then 9223372036854775807 else x
def satB (x : Int) : Bool := decide (-9223372036854775808 ≤ x ∧ x ≤ 9223372036854775807)
theorem msb_of {a : Int} (h : In64 a) : (BitVec.ofInt 64 a).msb = decide (a < 0) := by
  have := h.1
  have := h.2
  rw [BitVec.msb_eq_decide]
  simp only [BitVec.toNat_ofInt]
  congr 1
  apply propext
  omega
theorem neg_wrap (n : Nat) (h : n < 18446744073709551616) : IntKind.i64.wrap (n : Int) < 0 ↔ 9223372036854775808 ≤ n := by
  simp only [IntKind.wrap, IntKind.bits, IntKind.signed]
  simp
  omega
theorem neg_and {a b : Int} (ha : In64 a) (hb : In64 b) : bits .and .i64 a b < 0 ↔ a < 0 ∧ b < 0 := by
  have key : bits .and .i64 a b = IntKind.i64.wrap (((BitVec.ofInt 64 a &&& BitVec.ofInt 64 b).toNat : Nat) : Int) := rfl
  rw [key, neg_wrap _ (BitVec.isLt _)]
  have h1 := msb_of ha
  have h2 := msb_of hb
  have h3 : (BitVec.ofInt 64 a &&& BitVec.ofInt 64 b).msb = (decide (a < 0) && decide (b < 0)) := by rw [BitVec.msb_and, h1, h2]
  rw [BitVec.msb_eq_decide] at h3
  have : decide (2 ^ (64 - 1) ≤ (BitVec.ofInt 64 a &&& BitVec.ofInt 64 b).toNat) = decide (a < 0 ∧ b < 0) := by rw [h3]; simp
  exact decide_eq_decide.1 this
theorem neg_xor {a b : Int} (ha : In64 a) (hb : In64 b) : bits .xor .i64 a b < 0 ↔ ¬ (a < 0 ↔ b < 0) := by
  have key : bits .xor .i64 a b = IntKind.i64.wrap (((BitVec.ofInt 64 a ^^^ BitVec.ofInt 64 b).toNat : Nat) : Int) := rfl
  rw [key, neg_wrap _ (BitVec.isLt _)]
  have h1 := msb_of ha
  have h2 := msb_of hb
  have h3 : (BitVec.ofInt 64 a ^^^ BitVec.ofInt 64 b).msb = (decide (a < 0) ^^ decide (b < 0)) := by rw [BitVec.msb_xor, h1, h2]
  rw [BitVec.msb_eq_decide] at h3
  have : decide (2 ^ (64 - 1) ≤ (BitVec.ofInt 64 a ^^^ BitVec.ofInt 64 b).toNat) = decide (¬ (a < 0 ↔ b < 0)) := by
    rw [h3]
    by_cases h4 : a < 0 <;> by_cases h5 : b < 0 <;> simp [h4, h5]
  exact decide_eq_decide.1 this
theorem wrap_in (x : Int) : In64 (IntKind.i64.wrap x) := by
  simp only [IntKind.wrap, IntKind.bits, IntKind.signed, In64]
  simp
  omega
theorem bits_in (op : BinOp) (h : op = .and ∨ op = .xor) (a b : Int) : In64 (bits op .i64 a b) := by
  rcases h with rfl | rfl
  · exact wrap_in _
  · exact wrap_in _
theorem sat_end (b : Bool) : run kp (.data f_sat_end [.bool b]) = some (.ds [.int .i64 (if b then -9223372036854775808 else 9223372036854775807), .bool false]) := by
  rw [run_data, run_call, kp_sat_end]
  cases b <;> simp [k_sat_end]
theorem wrap_add_u (a b : Int) : IntKind.i64.wrap (IntKind.u64.wrap (IntKind.u64.wrap a + IntKind.u64.wrap b)) = IntKind.i64.wrap (a + b) := by
  simp only [IntKind.wrap, IntKind.bits, IntKind.signed]
  simp
theorem wrap_sub_u (a b : Int) : IntKind.i64.wrap (IntKind.u64.wrap (IntKind.u64.wrap a - IntKind.u64.wrap b)) = IntKind.i64.wrap (a - b) := by
  simp only [IntKind.wrap, IntKind.bits, IntKind.signed]
  simp
theorem wrap_near {x : Int} (h1 : -18446744073709551616 ≤ x) (h2 : x < 18446744073709551616) : (x < -9223372036854775808 ∧ IntKind.i64.wrap x = x + 18446744073709551616) ∨ (-9223372036854775808 ≤ x ∧ x < 9223372036854775808 ∧ IntKind.i64.wrap x = x) ∨ (9223372036854775808 ≤ x ∧ IntKind.i64.wrap x = x - 18446744073709551616) := by
  simp only [IntKind.wrap, IntKind.bits, IntKind.signed]
  simp
  omega
theorem sat_Add (a b : Int) (ha : In64 a) (hb : In64 b) : run kp (.data f_sat_Add [.int .i64 a, .int .i64 b]) = some (.ds [.int .i64 (satV (a + b)), .bool (satB (a + b))]) := by
  rw [run_data, run_call, kp_sat_Add]
  simp [k_sat_Add, sat_end, wrap_add_u]
  have hs := wrap_in (a + b)
  have h1 := neg_and (bits_in .xor (.inr rfl) a (IntKind.i64.wrap (a + b))) (bits_in .xor (.inr rfl) b (IntKind.i64.wrap (a + b)))
  rw [neg_xor ha hs, neg_xor hb hs] at h1
  have h2 := wrap_near (x := a + b) (by have := ha.1; have := hb.1; omega) (by have := ha.2; have := hb.2; omega)
  generalize IntKind.i64.wrap (a + b) = s at *
  have := ha.1; have := ha.2; have := hb.1; have := hb.2
  by_cases hc : bits .and .i64 (bits .xor .i64 a s) (bits .xor .i64 b s) < 0
  · have h3 := h1.1 hc
    rw [if_pos hc]
    simp only [satV, satB]
    by_cases hn : a < 0
    · have : a + b < -9223372036854775808 := by omega
      simp [hn, this]
      omega
    · have h4 : ¬ a + b < -9223372036854775808 := by omega
      have h5 : 9223372036854775807 < a + b := by omega
      simp [hn, h4, h5]
  · have h3 : ¬ _ := fun h => hc (h1.2 h)
    rw [if_neg hc]
    simp only [satV, satB]
    have h4 : ¬ a + b < -9223372036854775808 := by omega
    have h5 : ¬ 9223372036854775807 < a + b := by omega
    have h6 : s = a + b := by omega
    simp [h4, h5, h6]
    omega
end Go.Cd
namespace Go.Cd
open Go Go.Fw
/-- A program that is reckoned: that may be, so long in all, its longest piece; it holds nothing. -/
structure Rk (x : D) (n : Nat) (all pc : Int) : Prop where
  may : run kp (.data f_shape_May [x]) = some (.ds [.bool true])
  of : run kp (.data f_cost_Of [x]) = some (.ds [.agg [.int .i64 all, .int .i64 pc, .sl true []], .bool true])
set_option maxRecDepth 100000 in
theorem of_nil : run kp (.data f_cost_Of [.sl true []]) = some (.ds [.agg [.int .i64 0, .int .i64 0, .sl true []], .bool false]) := run_of (n := 4000) (by kernel_rfl)
set_option maxRecDepth 100000 in
theorem locks_nil : run kp (.data f_task_locks [.sl true []]) = some (.ds [.bool false]) := run_of (n := 4000) (by kernel_rfl)
set_option maxRecDepth 100000 in
theorem tmay_nil : run kp (.data f_task_may [.sl true []]) = some (.ds [.bool true]) := run_of (n := 4000) (by kernel_rfl)
set_option maxRecDepth 100000 in
theorem concat_nil : run kp (.data f_slices_Concat_api_Span_api_Span [.sl false [.sl true [], .sl true []]]) = some (.ds [.sl true []]) := run_of (n := 4000) (by kernel_rfl)
theorem tmay_K (nl : Bool) (l : List D) {n : Nat} {a p : Int} (h : Rk (.sl nl l) n a p) : run kp (.data f_task_may [.sl nl l]) = some (.ds [.bool true]) := by
  have m := h.may
  rw [run_data, run_call, kp_task_may]
  by_cases c : l.length = 0
  · have : l = [] := List.eq_nil_of_length_eq_zero c
    subst this
    simp [k_task_may]
  · have c2 : ¬ (l.length : Int) = 0 := by omega
    have c3 : ¬ l = [] := fun e => by subst e; simp at c
    simp [k_task_may, c, c2, c3, m]
theorem long_K (x : D) (nl : Bool) (l : List D) (hx : x = .sl nl l) {a p : Int} {b : Bool} (o : run kp (.data f_cost_Of [x]) = some (.ds [.agg [.int .i64 a, .int .i64 p, .sl true []], .bool b])) : run kp (.data f_task_long [x]) = some (.ds [.int .i64 a]) := by
  subst hx
  rw [run_data, run_call, kp_task_long]
  simp [k_task_long, o]
/-- A task as data: its way is either none, or a program. -/
def tkD (rank per stop : Int) (main way : D) : D := .agg [.int .i64 rank, .int .i64 per, .int .i64 stop, main, way, .sl true []]
structure TkOk (rank per stop : Int) (ml : List D) (wn : Bool) (wl : List D) (c p w lost : Int) : Prop where
  hrank : 0 ≤ rank ∧ rank ≤ 63
  hper : 1 ≤ per ∧ per ≤ 16384
  hstop : 1 ≤ stop ∧ stop ≤ per
  hmain : Rk (.sl false ml) 0 c p
  hwmay : run kp (.data f_task_may [.sl wn wl]) = some (.ds [.bool true])
  hway : (run kp (.data f_cost_Of [.sl wn wl]) = some (.ds [.agg [.int .i64 w, .int .i64 w, .sl true []], .bool true]) ∧ lost = w) ∨ (run kp (.data f_cost_Of [.sl wn wl]) = some (.ds [.agg [.int .i64 0, .int .i64 0, .sl true []], .bool false]) ∧ lost = p ∧ w = 0)
  hcs : c ≤ stop
  hws : w ≤ c
variable {rank per stop : Int} {ml : List D} {wn : Bool} {wl : List D} {c p w lost : Int}
theorem wlong (h : TkOk rank per stop ml wn wl c p w lost) : run kp (.data f_task_long [.sl wn wl]) = some (.ds [.int .i64 w]) := by
  rcases h.hway with ⟨o, _⟩ | ⟨o, _, rfl⟩
  · exact long_K _ wn wl rfl o
  · exact long_K _ wn wl rfl o
set_option maxRecDepth 10000 in
set_option maxHeartbeats 8000000 in
theorem task_May_K (h : TkOk rank per stop ml wn wl c p w lost) : run kp (.data f_task_May [tkD rank per stop (.sl false ml) (.sl wn wl)]) = some (.ds [.int .i64 0]) := by
  have m := h.hmain.may
  have l1 := long_K _ false ml rfl h.hmain.of
  have l2 := wlong h
  have wm := h.hwmay
  have a1 : ¬ rank < 0 := by have := h.hrank; omega
  have a2 : ¬ 63 < rank := by have := h.hrank; omega
  have a3 : ¬ per < 1 := by have := h.hper; omega
  have a4 : ¬ 16384 < per := by have := h.hper; omega
  have a5 : ¬ stop < 1 := by have := h.hstop; omega
  have a6 : ¬ per < stop := by have := h.hstop; omega
  have a7 : ¬ stop < c := by have := h.hcs; omega
  have a8 : ¬ c < w := by have := h.hws; omega
  rw [run_data, run_call, kp_task_May]
  simp [k_task_May, tkD, m, l1, l2, wm, tmay_nil, locks_nil, a1, a2, a3, a4, a5, a6, a7, a8]
set_option maxRecDepth 10000 in
set_option maxHeartbeats 8000000 in
theorem task_Costs_K (h : TkOk rank per stop ml wn wl c p w lost) : run kp (.data f_task_Costs [tkD rank per stop (.sl false ml) (.sl wn wl)]) = some (.ds [.int .i64 c, .int .i64 lost, .sl true []]) := by
  have tm := task_May_K h
  have om := h.hmain.of
  rw [run_data, run_call, kp_task_Costs]
  simp only [tkD] at tm
  rcases h.hway with ⟨o, rfl⟩ | ⟨o, rfl, _⟩
  · simp [k_task_Costs, tkD, tm, om, o, concat_nil]
  · simp [k_task_Costs, tkD, tm, om, o, concat_nil]
theorem sat_Add_K (a b : Int) (ha : 0 ≤ a ∧ a ≤ 1000000) (hb : 0 ≤ b ∧ b ≤ 1000000) : run kp (.data f_sat_Add [.int .i64 a, .int .i64 b]) = some (.ds [.int .i64 (a + b), .bool true]) := by
  have e := sat_Add a b ⟨by omega, by omega⟩ ⟨by omega, by omega⟩
  have v : satV (a + b) = a + b := by unfold satV; rw [if_neg (by omega), if_neg (by omega)]
  have u : satB (a + b) = true := by unfold satB; simp; omega
  rw [v, u] at e
  exact e
theorem mul_1 (v : Nat) (hv : v < 24) : run kp (.data f_sat_Mul [.int .i64 1, .int .i64 (v : Int)]) = some (.ds [.int .i64 (v : Int), .bool true]) := by
  have h : v = 0 ∨ v = 1 ∨ v = 2 ∨ v = 3 ∨ v = 4 ∨ v = 5 ∨ v = 6 ∨ v = 7 ∨ v = 8 ∨ v = 9 ∨ v = 10 ∨ v = 11 ∨ v = 12 ∨ v = 13 ∨ v = 14 ∨ v = 15 ∨ v = 16 ∨ v = 17 ∨ v = 18 ∨ v = 19 ∨ v = 20 ∨ v = 21 ∨ v = 22 ∨ v = 23 := by omega
  rcases h with rfl | rfl | rfl | rfl | rfl | rfl | rfl | rfl | rfl | rfl | rfl | rfl | rfl | rfl | rfl | rfl | rfl | rfl | rfl | rfl | rfl | rfl | rfl | rfl
  all_goals exact run_of (n := 400) (by kernel_rfl)
theorem often_1 (a b : Int) (ha : 1 ≤ a) (hb : a ≤ b) (h2 : b ≤ 1000000) : run kp (.data f_bound_often [.int .i64 a, .int .i64 b]) = some (.ds [.int .i64 1]) := by
  have u : run kp (.data f_sat_Up [.int .i64 a, .int .i64 b]) = some (.ds [.int .i64 1, .bool true]) := by
    rw [run_data, run_call, kp_sat_Up]
    have b1 : ¬ b < 1 := by omega
    have b2 : ¬ a < 0 := by omega
    have b0 : ¬ b = 0 := by omega
    rcases (by omega : a = b ∨ a < b) with rfl | hlt
    · have t1 : a.tdiv a = 1 := Int.tdiv_self (by omega)
      have t2 : a.tmod a = 0 := Int.tmod_self
      simp [k_sat_Up, b1, b2, b0, t1, t2]
      decide
    · have t1 : a.tdiv b = 0 := Int.tdiv_eq_zero_of_lt (by omega) hlt
      have t2 : a.tmod b = a := Int.tmod_eq_of_lt (by omega) hlt
      have t3 : 0 < a := by omega
      have t4 : IntKind.i64.wrap 0 = 0 := rfl
      have t5 : IntKind.i64.wrap 1 = 1 := rfl
      simp [k_sat_Up, b1, b2, b0, t1, t2, t3, t4, t5]
  rw [run_data, run_call, kp_bound_often]
  simp [k_bound_often, u]
end Go.Cd
