/- The law VmReps, as the evaluator has it. No conditions. -/
import Derived.Test.YteamehchfnccmaaR4QVmU
set_option linter.unusedVariables false
set_option linter.unusedSimpArgs false
namespace Go.Cd
open Go Go.Fw
def prog (n k : Int) : List Inst := [⟨1, 1, 0, 1⟩, ⟨1, 0, 0, 0⟩, ⟨8, 0, 3, n⟩, ⟨2, 2, 1, 0⟩, ⟨8, 0, 1, k⟩, ⟨2, 0, 1, 0⟩, ⟨0, 0, 0, 0⟩]
def vrV (pc : Int) (mem : List Int) (reps : List Rep) (over : Bool) : Bool → V
  | true => .d (.agg [.int .i64 pc, .agg (mem.map (.int .i64)), .sl true [], .bool over])
  | false => .agg [.int .i64 pc, .d (.agg (mem.map (.int .i64))), .sl false 2 0 reps.length, .bool over]
def vrH (reps : List Rep) : Bool → Hp
  | true => []
  | false => [(2, .row true (reps.map Rep.d))]
def vrN : Bool → Nat
  | true => 0
  | false => 1
def vrSt (n k : Int) (pc : Int) (mem : List Int) (rn : Bool) (reps : List Rep) (over : Bool) (ex : List (Nat × V)) (t : Int) : St :=
  { env := [(5, .int .i64 n), (6, .int .i64 k), (7, .sl false 0 0 7), (8, .ptr 1 []), (9, .int .i64 t)] ++ ex, hp := (0, .row true ((prog n k).map Inst.d)) :: (1, .box (vrV pc mem reps over rn)) :: vrH reps rn, tl := fun _ => none, base := 0, next := 2 + vrN rn }
noncomputable def LP (n k : Int) (pc : Int) (mem : List Int) (rn : Bool) (reps : List Rep) (over : Bool) (t : Int) : Option Ans := run kp (.loop [5, 6, 7, 8, 9] k_law8_VmReps_L0 (vrSt n k pc mem rn reps over [] t))
set_option maxRecDepth 10000 in
set_option maxHeartbeats 8000000 in
theorem vr_step (n k : Int) (pc : Int) (mem : List Int) (rn : Bool) (reps : List Rep) (hn : rn = true → reps = []) (t : Int) (ht : 0 ≤ t ∧ t < 2000) (pc' : Int) (mem' : List Int) (rn' : Bool) (reps' : List Rep) (hn' : rn' = true → reps' = []) (over' : Bool) (i : Inst)
    (hs : run kp (.data f_vm_Step [.sl false ((prog n k).map Inst.d), mD pc mem rn reps false]) = some (.ds [mD pc' mem' rn' reps' over', i.d, .bool true])) :
    LP n k pc mem rn reps false t = LP n k pc' mem' rn' reps' over' (t + 1) := by
  have hw : IntKind.i64.wrap (t + 1) = t + 1 := wrap_i64 (by omega) (by omega)
  have h2 : ¬ 2000 < t + 1 := by omega
  simp only [LP]
  rw [run_round]
  simp only [mD, Inst.d] at hs
  have h7 : (prog n k).length = 7 := rfl
  have t7 : List.take 7 ((prog n k).map Inst.d) = (prog n k).map Inst.d := rfl
  cases rn <;> cases rn'
  · simp [c_law8_VmReps_L0, k_law8_VmReps_L0b, vrSt, vrV, vrH, vrN, hs, hw, h2, h7, t7]
  · have := hn' rfl; subst this
    simp only [List.map_nil] at hs
    simp [c_law8_VmReps_L0, k_law8_VmReps_L0b, vrSt, vrV, vrH, vrN, hs, hw, h2, h7, t7]
  · have := hn rfl; subst this
    simp only [List.map_nil] at hs
    simp [c_law8_VmReps_L0, k_law8_VmReps_L0b, vrSt, vrV, vrH, vrN, hs, hw, h2, h7, t7]
  · have := hn rfl; subst this
    have := hn' rfl; subst this
    simp only [List.map_nil] at hs
    simp [c_law8_VmReps_L0, k_law8_VmReps_L0b, vrSt, vrV, vrH, vrN, hs, hw, h2, h7, t7]
theorem vr_end (n k : Int) (pc : Int) (mem : List Int) (reps : List Rep) (t : Int) : LP n k pc mem false reps true t = some (.out (.ext 0) (vrSt n k pc mem false reps true [(36, .bool false)] t)) := by
  simp only [LP]
  rw [run_round]
  simp [c_law8_VmReps_L0, k_law8_VmReps_L0b, vrSt, vrV, vrH, vrN]
def mm (m0 m2 : Int) : List Int := [m0, 1, m2, 0, 0, 0, 0, 0]
theorem add1 (x : Int) (h : 0 ≤ x ∧ x ≤ 1000000) : IntKind.i64.wrap (IntKind.u64.wrap (IntKind.u64.wrap x + IntKind.u64.wrap 1)) = x + 1 := by
  rw [wrap_u64 (x := x) (by omega) (by omega), wrap_u64 (x := 1) (by omega) (by omega), wrap_u64 (by omega) (by omega), wrap_i64 (by omega) (by omega)]
/-- The step at 3: one more of the outer goes. -/
theorem at3 (n k : Int) (hn : 1 ≤ n ∧ n ≤ 20) (m0 m2 r t : Int) (h2 : 0 ≤ m2 ∧ m2 ≤ 1000000) (hr : r ≤ 100) (ht : 0 ≤ t ∧ t < 2000) :
    LP n k 3 (mm m0 m2) false [⟨3, 5, r⟩] false t = LP n k 4 (mm m0 (m2 + 1)) false [⟨3, 5, r⟩] false (t + 1) := by
  have s := step_2 (prog n k) false (by simp [prog]) 3 (mm m0 m2) false [⟨3, 5, r⟩] (by simp) (by simp) (fun x hx => by simp at hx; subst hx; simp only; omega) (by decide) (by simp [prog]) ⟨2, 2, 1, 0⟩ rfl rfl rfl m2 rfl 1 rfl (by simp) (by decide) rfl
  have e : outD (3 + 1) ((mm m0 m2).set (Int.toNat 2) (IntKind.i64.wrap (IntKind.u64.wrap (IntKind.u64.wrap m2 + IntKind.u64.wrap 1)))) false [⟨3, 5, r⟩] false = mD 4 (mm m0 (m2 + 1)) false [⟨3, 5, r⟩] false := by
    rw [add1 m2 h2]; rfl
  rw [e] at s
  exact vr_step n k 3 _ false _ (by simp) t ht 4 _ false _ (by simp) false _ s
theorem at4 (n k : Int) (hk : 1 ≤ k ∧ k ≤ 20) (m0 m2 r t : Int) (hr : r ≤ 100) (ht : 0 ≤ t ∧ t < 2000) :
    LP n k 4 (mm m0 m2) false [⟨3, 5, r⟩] false t = LP n k 5 (mm m0 m2) false [⟨3, 5, r⟩, ⟨5, 5, k - 1⟩] false (t + 1) := by
  have s := step_8 (prog n k) false (by simp [prog]) 4 (mm m0 m2) false [⟨3, 5, r⟩] (by simp) (by simp) (fun x hx => by simp at hx; subst hx; simp only; omega) (by decide) (by simp [prog]) ⟨8, 0, 1, k⟩ rfl rfl (by simp [mayF, withB]; omega) m0 rfl 1 rfl (by simp) (by simp) rfl (by simp) (by simpa using hk)
  have e : outD (4 + 1) (mm m0 m2) false ([⟨3, 5, r⟩] ++ [⟨4 + 1, 4 + 1, k - 1⟩]) false = mD 5 (mm m0 m2) false [⟨3, 5, r⟩, ⟨5, 5, k - 1⟩] false := rfl
  rw [e] at s
  exact vr_step n k 4 _ false _ (by simp) t ht 5 _ false _ (by simp) false _ s
/-- The step at 5. -/
theorem at5 (n k : Int) (m0 m2 r q t : Int) (h0 : 0 ≤ m0 ∧ m0 ≤ 1000000) (hr : r ≤ 100) (hq : q ≤ 100) (ht : 0 ≤ t ∧ t < 2000) (pc' : Int) (reps' : List Rep)
    (he : ∀ mem, outD 6 mem false [⟨3, 5, r⟩, ⟨5, 5, q⟩] false = mD pc' mem false reps' false) :
    LP n k 5 (mm m0 m2) false [⟨3, 5, r⟩, ⟨5, 5, q⟩] false t = LP n k pc' (mm (m0 + 1) m2) false reps' false (t + 1) := by
  have s := step_2 (prog n k) false (by simp [prog]) 5 (mm m0 m2) false [⟨3, 5, r⟩, ⟨5, 5, q⟩] (by simp) (by simp) (fun x hx => by
    simp at hx
    rcases hx with rfl | rfl <;> simp only <;> omega) (by decide) (by simp [prog]) ⟨2, 0, 1, 0⟩ rfl rfl rfl m0 rfl 1 rfl (by simp) (by decide) rfl
  have e : ((mm m0 m2).set (Int.toNat 0) (IntKind.i64.wrap (IntKind.u64.wrap (IntKind.u64.wrap m0 + IntKind.u64.wrap 1)))) = mm (m0 + 1) m2 := by
    rw [add1 m0 h0]; rfl
  rw [show (5 : Int) + 1 = 6 from rfl] at s
  simp only [e] at s
  rw [he] at s
  exact vr_step n k 5 _ false _ (by simp) t ht pc' _ false _ (by simp) false _ s
theorem inner (n k : Int) (m2 r : Int) (hr : 0 ≤ r ∧ r ≤ 100) : ∀ (q : Nat) (m0 t : Int), q ≤ 100 → 0 ≤ m0 → m0 + q ≤ 1000000 → 0 ≤ t → t + q + 1 ≤ 2000 →
    LP n k 5 (mm m0 m2) false [⟨3, 5, r⟩, ⟨5, 5, q⟩] false t = if 0 < r then LP n k 3 (mm (m0 + q + 1) m2) false [⟨3, 5, r - 1⟩] false (t + q + 1) else LP n k 6 (mm (m0 + q + 1) m2) false [] false (t + q + 1)
  | 0, m0, t, _, h0, h1, h2, h3 => by
    by_cases hr0 : 0 < r
    · rw [if_pos hr0, at5 n k m0 m2 r ((0 : Nat) : Int) t (by omega) hr.2 (by omega) (by omega) 3 [⟨3, 5, r - 1⟩] (fun mem => by simp [outD, gN, repsN, hr0])]
      congr 1 <;> simp
    · have hre : r = 0 := by omega
      subst hre
      rw [if_neg hr0, at5 n k m0 m2 0 ((0 : Nat) : Int) t (by omega) hr.2 (by omega) (by omega) 6 [] (fun mem => by simp [outD, gN, repsN])]
      congr 1 <;> simp
  | q + 1, m0, t, hq, h0, h1, h2, h3 => by
    have hq0 : (0 : Int) < ((q + 1 : Nat) : Int) := by omega
    have hq1 : ((q + 1 : Nat) : Int) - 1 = (q : Int) := by omega
    rw [at5 n k m0 m2 r ((q + 1 : Nat) : Int) t (by omega) hr.2 (by omega) (by omega) 5 [⟨3, 5, r⟩, ⟨5, 5, q⟩] (fun mem => by
      have a1 : (0 : Int) < (q : Int) + 1 := by omega
      have a2 : (q : Int) + 1 - 1 = (q : Int) := by omega
      simp [outD, gN, repsN, a1, a2])]
    rw [inner n k m2 r hr q (m0 + 1) (t + 1) (by omega) (by omega) (by omega) (by omega) (by omega)]
    have e1 : m0 + 1 + (q : Int) + 1 = m0 + ((q + 1 : Nat) : Int) + 1 := by omega
    have e2 : t + 1 + (q : Int) + 1 = t + ((q + 1 : Nat) : Int) + 1 := by omega
    rw [e1, e2]
/-- The outer goes, to the end. -/
theorem outer (n k : Int) (hn : 1 ≤ n ∧ n ≤ 20) (hk : 1 ≤ k ∧ k ≤ 20) : ∀ (r : Nat) (m0 m2 t : Int), r ≤ 19 → 0 ≤ m0 → m0 + (r + 1) * k ≤ 1000000 → 0 ≤ m2 → m2 + r + 1 ≤ 1000000 → 0 ≤ t → t + (r + 1) * (2 + k) ≤ 1990 →
    LP n k 3 (mm m0 m2) false [⟨3, 5, r⟩] false t = LP n k 6 (mm (m0 + (r + 1) * k) (m2 + r + 1)) false [] false (t + (r + 1) * (2 + k))
  | 0, m0, m2, t, _, a1, a2, a3, a4, a5, a6 => by
    simp only [Int.cast_ofNat_Int, Int.zero_add, Int.one_mul, Int.add_zero] at *
    obtain ⟨q, rfl⟩ : ∃ q : Nat, k = (q : Int) + 1 := ⟨(k - 1).toNat, by omega⟩
    rw [at3 n _ hn m0 m2 0 t (by omega) (by omega) (by omega), at4 n _ hk m0 (m2 + 1) 0 (t + 1) (by omega) (by omega), show ((q : Int) + 1 - 1) = q from by omega, inner n _ (m2 + 1) 0 (by omega) q m0 (t + 1 + 1) (by omega) (by omega) (by omega) (by omega) (by omega), if_neg (by omega)]
    have e1 : m0 + (q : Int) + 1 = m0 + ((q : Int) + 1) := by omega
    have e2 : t + 1 + 1 + (q : Int) + 1 = t + (2 + ((q : Int) + 1)) := by omega
    rw [e1, e2]
  | r + 1, m0, m2, t, a0, a1, a2, a3, a4, a5, a6 => by
    have c1 : (((r + 1 : Nat) : Int) + 1) * k = ((r : Int) + 1) * k + k := by
      rw [show (((r + 1 : Nat) : Int) + 1) = ((r : Int) + 1) + 1 from by omega, Int.add_mul, Int.one_mul]
    have c2 : (((r + 1 : Nat) : Int) + 1) * (2 + k) = ((r : Int) + 1) * (2 + k) + (2 + k) := by
      rw [show (((r + 1 : Nat) : Int) + 1) = ((r : Int) + 1) + 1 from by omega, Int.add_mul, Int.one_mul]
    have p1 : 0 ≤ ((r : Int) + 1) * k := Int.mul_nonneg (by omega) (by omega)
    have p2 : 0 ≤ ((r : Int) + 1) * (2 + k) := Int.mul_nonneg (by omega) (by omega)
    rw [c1] at a2
    rw [c2] at a6
    rw [c1, c2]
    have IH := outer n k hn hk r (m0 + k) (m2 + 1) (t + (2 + k)) (by omega) (by omega) (by omega) (by omega) (by omega) (by omega) (by omega)
    generalize ((r : Int) + 1) * k = A at *
    generalize ((r : Int) + 1) * (2 + k) = B at *
    obtain ⟨q, rfl⟩ : ∃ q : Nat, k = (q : Int) + 1 := ⟨(k - 1).toNat, by omega⟩
    rw [at3 n _ hn m0 m2 ((r + 1 : Nat) : Int) t (by omega) (by omega) (by omega), at4 n _ hk m0 (m2 + 1) ((r + 1 : Nat) : Int) (t + 1) (by omega) (by omega), show ((q : Int) + 1 - 1) = q from by omega, inner n _ (m2 + 1) ((r + 1 : Nat) : Int) (by omega) q m0 (t + 1 + 1) (by omega) (by omega) (by omega) (by omega) (by omega), if_pos (by omega)]
    have e1 : m0 + (q : Int) + 1 = m0 + ((q : Int) + 1) := by omega
    have e2 : t + 1 + 1 + (q : Int) + 1 = t + (2 + ((q : Int) + 1)) := by omega
    have e3 : ((r + 1 : Nat) : Int) - 1 = (r : Int) := by omega
    rw [e1, e2, e3, IH]
    have e4 : m0 + ((q : Int) + 1) + A = m0 + (A + ((q : Int) + 1)) := by omega
    have e5 : m2 + 1 + (r : Int) + 1 = m2 + ((r + 1 : Nat) : Int) + 1 := by omega
    have e6 : t + (2 + ((q : Int) + 1)) + B = t + (B + (2 + ((q : Int) + 1))) := by omega
    rw [e4, e5, e6]
theorem at6 (n k : Int) (m0 m2 t : Int) (ht : 0 ≤ t ∧ t < 2000) :
    LP n k 6 (mm m0 m2) false [] false t = LP n k 6 (mm m0 m2) false [] true (t + 1) := by
  have s := step_0 (prog n k) false (by simp [prog]) 6 (mm m0 m2) false [] (by simp) (by simp) (by simp) (by decide) (by simp [prog]) ⟨0, 0, 0, 0⟩ rfl rfl rfl m0 rfl m0 rfl (by simp) (by simp) rfl
  rw [outD_nil] at s
  exact vr_step n k 6 _ false _ (by simp) t ht 6 _ false _ (by simp) true _ s
theorem at2 (n k : Int) (hk : 1 ≤ n ∧ n ≤ 20) (t : Int) (ht : 0 ≤ t ∧ t < 2000) :
    LP n k 2 (mm 0 0) true [] false t = LP n k 3 (mm 0 0) false [⟨3, 5, n - 1⟩] false (t + 1) := by
  have s := step_8 (prog n k) false (by simp [prog]) 2 (mm 0 0) true [] (by simp) (by simp) (by simp) (by decide) (by simp [prog]) ⟨8, 0, 3, n⟩ rfl rfl (by simp [mayF, withB]; omega) 0 rfl 0 rfl (by simp) (by simp) rfl (by simp) (by simpa using hk)
  have e : outD (2 + 1) (mm 0 0) false ([] ++ [⟨2 + 1, 2 + 3, n - 1⟩]) false = mD 3 (mm 0 0) false [⟨3, 5, n - 1⟩] false := rfl
  rw [e] at s
  exact vr_step n k 2 _ true _ (by simp) t ht 3 _ false _ (by simp) false _ s
theorem at1 (n k : Int) (t : Int) (ht : 0 ≤ t ∧ t < 2000) :
    LP n k 1 (mm 9 0) true [] false t = LP n k 2 (mm 0 0) true [] false (t + 1) := by
  have s := step_1 (prog n k) false (by simp [prog]) 1 (mm 9 0) true [] (by simp) (by simp) (by simp) (by decide) (by simp [prog]) ⟨1, 0, 0, 0⟩ rfl rfl rfl 9 rfl 9 rfl (by simp) (by simp) rfl
  rw [outD_nil] at s
  exact vr_step n k 1 _ true _ (by simp) t ht 2 _ true _ (by simp) false _ s
theorem at0 (n k : Int) (t : Int) (ht : 0 ≤ t ∧ t < 2000) :
    LP n k 0 [9, 0, 0, 0, 0, 0, 0, 0] true [] false t = LP n k 1 (mm 9 0) true [] false (t + 1) := by
  have s := step_1 (prog n k) false (by simp [prog]) 0 [9, 0, 0, 0, 0, 0, 0, 0] true [] (by simp) (by simp) (by simp) (by decide) (by simp [prog]) ⟨1, 1, 0, 1⟩ rfl rfl rfl 0 rfl 9 rfl (by simp) (by simp) rfl
  rw [outD_nil] at s
  exact vr_step n k 0 _ true _ (by simp) t ht 1 _ true _ (by simp) false _ s
theorem vm_all (n k : Int) (hn : 1 ≤ n ∧ n ≤ 20) (hk : 1 ≤ k ∧ k ≤ 20) :
    LP n k 0 [9, 0, 0, 0, 0, 0, 0, 0] true [] false 0 = some (.out (.ext 0) (vrSt n k 6 (mm (n * k) n) false [] true [(36, .bool false)] (4 + n * (2 + k)))) := by
  have b1 : n * k ≤ 20 * 20 := Int.mul_le_mul hn.2 hk.2 (by omega) (by omega)
  have b2 : n * (2 + k) ≤ 20 * 22 := Int.mul_le_mul hn.2 (by omega) (by omega) (by omega)
  have p1 : 0 ≤ n * k := Int.mul_nonneg (by omega) (by omega)
  have p2 : 0 ≤ n * (2 + k) := Int.mul_nonneg (by omega) (by omega)
  rw [at0 n k 0 (by omega), at1 n k _ (by omega), at2 n k hn _ (by omega)]
  obtain ⟨r, rfl⟩ : ∃ r : Nat, n = (r : Int) + 1 := ⟨(n - 1).toNat, by omega⟩
  rw [show (r : Int) + 1 - 1 = r from by omega, outer _ k hn hk r 0 0 _ (by omega) (by omega) (by omega) (by omega) (by omega) (by omega) (by omega), at6 _ _ _ _ _ (by omega), vr_end]
  have e1 : 0 + ((r : Int) + 1) * k = ((r : Int) + 1) * k := by omega
  have e2 : (0 : Int) + (r : Int) + 1 = r + 1 := by omega
  have e3 : 0 + 1 + 1 + 1 + ((r : Int) + 1) * (2 + k) + 1 = 4 + ((r : Int) + 1) * (2 + k) := by omega
  rw [e1, e2, e3]
theorem vm_New9 : run kp (.data f_vm_New [.int .i64 9]) = some (.ds [mD 0 [9, 0, 0, 0, 0, 0, 0, 0] true [] false]) := run_of (n := 4000) (by kernel_rfl)
set_option maxRecDepth 10000 in
set_option maxHeartbeats 8000000 in
theorem law_VmReps (xs : List D) (h : Sh.hasL [.i .u8, .i .u8] xs) : run kp (.data f_law8_VmReps xs) = some (.ds [.bool true]) := by
  obtain ⟨x1, _, rfl, h1, h⟩ := hasL_cons h
  obtain ⟨x2, _, rfl, h2, h⟩ := hasL_cons h
  obtain rfl := hasL_nil h
  obtain ⟨a, rfl, k1⟩ := has_int h1
  obtain ⟨b, rfl, k2⟩ := has_int h2
  have ha := wf_u8 k1
  have hb := wf_u8 k2
  have ea : a.tmod 20 = a % 20 := Int.tmod_eq_emod_of_nonneg ha.1
  have eb : b.tmod 20 = b % 20 := Int.tmod_eq_emod_of_nonneg hb.1
  have wa : IntKind.i64.wrap (a % 20) = a % 20 := wrap_i64 (by omega) (by omega)
  have wb : IntKind.i64.wrap (b % 20) = b % 20 := wrap_i64 (by omega) (by omega)
  have wa1 : IntKind.i64.wrap (1 + a % 20) = 1 + a % 20 := wrap_i64 (by omega) (by omega)
  have wb1 : IntKind.i64.wrap (1 + b % 20) = 1 + b % 20 := wrap_i64 (by omega) (by omega)
  have hn : 1 ≤ 1 + a % 20 ∧ 1 + a % 20 ≤ 20 := by omega
  have hk : 1 ≤ 1 + b % 20 ∧ 1 + b % 20 ≤ 20 := by omega
  rw [run_data, run_call, kp_law8_VmReps]
  obtain ⟨n, hna⟩ : ∃ n, 1 + a % 20 = n := ⟨_, rfl⟩
  obtain ⟨k, hkb⟩ : ∃ k, 1 + b % 20 = k := ⟨_, rfl⟩
  rw [hna] at wa1 hn
  rw [hkb] at wb1 hk
  have b1 : n * k ≤ 20 * 20 := Int.mul_le_mul hn.2 hk.2 (by omega) (by omega)
  have b2 : n * (2 + k) ≤ 20 * 22 := Int.mul_le_mul hn.2 (by omega) (by omega) (by omega)
  have p1 : 0 ≤ n * k := Int.mul_nonneg (by omega) (by omega)
  have p2 : 0 ≤ n * (2 + k) := Int.mul_nonneg (by omega) (by omega)
  have q1 : IntKind.i64.wrap (n * k) = n * k := wrap_i64 (by omega) (by omega)
  have q2 : IntKind.i64.wrap (2 + k) = 2 + k := wrap_i64 (by omega) (by omega)
  have q3 : IntKind.i64.wrap (n * (2 + k)) = n * (2 + k) := wrap_i64 (by omega) (by omega)
  have q4 : IntKind.i64.wrap (4 + n * (2 + k)) = 4 + n * (2 + k) := wrap_i64 (by omega) (by omega)
  have A := vm_all n k hn hk
  simp only [LP, vrSt, vrV, vrH, vrN, prog, mm, List.map_cons, List.map_nil, Inst.d, List.append_nil] at A
  have N := vm_New9
  simp only [mD, List.map_cons, List.map_nil] at N
  simp [k_law8_VmReps, vm_begun, ea, eb, wa, wb, hna, hkb, wa1, wb1, N, A, q1, q2, q3, q4]
end Go.Cd
