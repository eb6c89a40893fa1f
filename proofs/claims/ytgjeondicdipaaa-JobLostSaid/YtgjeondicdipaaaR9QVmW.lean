/- What Step does, the program's and the document's, where it does nothing. No conditions. -/
import Derived.Test.YtgjeondicdipaaaR9QVmG
import Derived.Test.YtgjeondicdipaaaR9QVmM
set_option linter.unusedVariables false
set_option linter.unusedSimpArgs false
namespace Go.Cd
open Go Go.Fw
def zeroI : D := .agg [.int .i64 0, .int .i64 0, .int .i64 0, .int .i64 0]
def noStep (l : List Inst) (pc : Int) (over : Bool) : Prop := over = true ∨ pc < 0 ∨ (l.length : Int) ≤ pc ∨ ∃ i, 0 ≤ pc ∧ l[pc.toNat]? = some i ∧ mayF i = false
set_option maxHeartbeats 4000000 in
theorem vm_no (l : List Inst) (nl : Bool) (pc : Int) (mem : List Int) (rn : Bool) (reps : List Rep) (hn : rn = true → reps = []) (hLL : reps.length ≤ 100000) (over : Bool) (h : noStep l pc over) :
    run kp (.data f_vm_Step [.sl nl (l.map Inst.d), mD pc mem rn reps over]) = some (.ds [mD pc mem rn reps over, zeroI, .bool false]) := by
  have hrl : reps.length ≤ 1073741824 := by omega
  have pv := pv_d mem
  have tw := vm_twin pc mem rn reps over hn hLL
  simp only [mD] at tw
  rw [run_data, run_call, kp_vm_Step]
  cases over with
  | true =>
    cases rn with
    | true =>
      have := hn rfl; subst this; simp only [List.map_nil] at tw
      simp [k_vm_Step, mD, zeroI, tw, pv.toD]
    | false => simp [k_vm_Step, mD, zeroI, tw, hrl, pv.toD]
  | false =>
    by_cases h0 : pc < 0
    · cases rn with
      | true =>
        have := hn rfl; subst this; simp only [List.map_nil] at tw
        simp [k_vm_Step, mD, zeroI, tw, h0, pv.toD]
      | false => simp [k_vm_Step, mD, zeroI, tw, hrl, h0, pv.toD]
    by_cases h1 : (l.length : Int) ≤ pc
    · cases rn with
      | true =>
        have := hn rfl; subst this; simp only [List.map_nil] at tw
        simp [k_vm_Step, mD, zeroI, tw, h0, h1, pv.toD]
      | false => simp [k_vm_Step, mD, zeroI, tw, hrl, h0, h1, pv.toD]
    rcases h with h | h | h | ⟨i, h2, hi, hm⟩
    · cases h
    · exact absurd h h0
    · exact absurd h h1
    have cm := code_May i
    rw [hm] at cm
    obtain ⟨op, a, b, n⟩ := i
    simp only [Inst.d] at cm
    have hi2 : ∀ hh : pc.toNat < l.length, l[pc.toNat] = ⟨op, a, b, n⟩ := fun hh => by rw [List.getElem?_eq_getElem hh] at hi; injection hi
    have hp : pc < l.length := by omega
    have hpn : pc.toNat < l.length := by omega
    cases rn with
    | true =>
      have := hn rfl; subst this; simp only [List.map_nil] at tw
      simp [k_vm_Step, mD, zeroI, tw, h0, h1, h2, hi, hi2, hp, hpn, cm, Inst.d, pv.toD]
    | false => simp [k_vm_Step, mD, zeroI, tw, hrl, h0, h1, h2, hi, hi2, hp, hpn, cm, Inst.d, pv.toD]
set_option maxHeartbeats 4000000 in
theorem ref1_no (l : List Inst) (nl : Bool) (pc : Int) (mem : List Int) (rn : Bool) (reps : List Rep) (hn : rn = true → reps = []) (hLL : reps.length ≤ 100000) (over : Bool) (h : noStep l pc over) :
    run kp (.data f_ref1_Step [.sl nl (l.map Inst.d), mD pc mem rn reps over]) = some (.ds [mD pc mem false reps over, zeroI, .bool false]) := by
  have hrl : reps.length ≤ 1073741824 := by omega
  have pv := pv_d mem
  rw [run_data, run_call, kp_ref1_Step]
  cases over with
  | true =>
    cases rn with
    | true =>
      have := hn rfl; subst this
      simp [k_ref1_Step, mD, zeroI, pv.toD]
    | false => simp [k_ref1_Step, mD, zeroI, hrl, pv.toD]
  | false =>
    by_cases h0 : pc < 0
    · cases rn with
      | true =>
        have := hn rfl; subst this
        simp [k_ref1_Step, mD, zeroI, h0, pv.toD]
      | false => simp [k_ref1_Step, mD, zeroI, hrl, h0, pv.toD]
    by_cases h1 : (l.length : Int) ≤ pc
    · cases rn with
      | true =>
        have := hn rfl; subst this
        simp [k_ref1_Step, mD, zeroI, h0, h1, pv.toD]
      | false => simp [k_ref1_Step, mD, zeroI, hrl, h0, h1, pv.toD]
    rcases h with h | h | h | ⟨i, h2, hi, hm⟩
    · cases h
    · exact absurd h h0
    · exact absurd h h1
    have cm := ref1_MayInst i
    rw [hm] at cm
    obtain ⟨op, a, b, n⟩ := i
    simp only [Inst.d] at cm
    have hi2 : ∀ hh : pc.toNat < l.length, l[pc.toNat] = ⟨op, a, b, n⟩ := fun hh => by rw [List.getElem?_eq_getElem hh] at hi; injection hi
    have hp : pc < l.length := by omega
    have hpn : pc.toNat < l.length := by omega
    cases rn with
    | true =>
      have := hn rfl; subst this
      simp [k_ref1_Step, mD, zeroI, h0, h1, h2, hi, hi2, hp, hpn, cm, Inst.d, pv.toD]
    | false => simp [k_ref1_Step, mD, zeroI, hrl, h0, h1, h2, hi, hi2, hp, hpn, cm, Inst.d, pv.toD]
end Go.Cd
