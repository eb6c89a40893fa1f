/- The program's job and the document's go alike. No conditions. -/
import Derived.Test.YtgjeondicdipaaaR9QJobG
import Derived.Test.YtgjeondicdipaaaR9QVmE
set_option linter.unusedVariables false
set_option linter.unusedSimpArgs false
namespace Go.Cd
open Go Go.Fw
/-- A machine behind an instruction. -/
def nextM (m : Mc) (i : Inst) (rn' : Bool) : Mc := ⟨exP i m.pc m.mem m.reps, aluM i m.mem, rn', exR i m.pc m.mem m.reps, decide (i.op = 0)⟩
structure CanGo (l : List Inst) (m : Mc) (i : Inst) : Prop where
  on : m.over = false
  lo : 0 ≤ m.pc
  hi : m.pc < l.length
  get : l[m.pc.toNat]? = some i
  may : mayF i = true
theorem goes_or (l : List Inst) (m : Mc) : noStep l m.pc m.over ∨ ∃ i, CanGo l m i := by
  by_cases h : noStep l m.pc m.over
  · exact .inl h
  · right
    have ho : m.over = false := by
      cases e : m.over with
      | false => rfl
      | true => exact absurd (.inl e) h
    have h0 : 0 ≤ m.pc := by
      by_cases k : 0 ≤ m.pc
      · exact k
      · exact absurd (.inr (.inl (by omega))) h
    have hp : m.pc < l.length := by
      by_cases k : m.pc < l.length
      · exact k
      · exact absurd (.inr (.inr (.inl (by omega)))) h
    obtain ⟨i, hi⟩ : ∃ i, l[m.pc.toNat]? = some i := ⟨_, List.getElem?_eq_getElem (by omega : m.pc.toNat < l.length)⟩
    refine ⟨i, ho, h0, hp, hi, ?_⟩
    cases hm : mayF i with
    | true => rfl
    | false => exact absurd (.inr (.inr (.inr ⟨i, h0, hi, hm⟩))) h
structure GoD (t : Tsk) (j : Jb) (i : Inst) (rn' : Bool) : Prop where
  go : run kp (.datk f_job_Go [t.d, j.d]) = some (.ds [(goJ j (nextM j.m i rn') i).d, i.d, .bool true])
  rf : run kp (.datk f_ref19_Go [t.d, j.d]) = some (.ds [(goR j (nextM j.m i false) i).d, i.d, .bool true])
  mem : memOk (nextM j.m i rn').mem
  left : repsOk (nextM j.m i rn').reps
  len : (nextM j.m i rn').reps.length ≤ j.m.reps.length + 1
  nil : rn' = true → (nextM j.m i rn').reps = []
theorem go_on (t : Tsk) (ht : t.Ok) (j : Jb) (hj : j.Ok) (h8 : j.m.reps.length < 90000) (i : Inst) (h : CanGo (codeOf t j.phase).l j.m i) : ∃ rn', GoD t j i rn' := by
  have co := codeOf_ok ht j.phase
  obtain ⟨rn', e⟩ := step_ex (codeOf t j.phase).l (codeOf t j.phase).nl (by have := co.len; omega) j.m.pc j.m.mem hj.m.mem j.m.rn j.m.reps hj.m.rn hj.m.len hj.m.left h.lo h.hi i h.get h.may
  have ev := e.vm
  have er := e.rf
  rw [show mD j.m.pc j.m.mem j.m.rn j.m.reps false = j.m.d from by unfold Mc.d; rw [h.on]] at ev er
  refine ⟨rn', ?_, ?_, e.okm, e.left, e.len, e.nil⟩
  · exact job_Go_ok t ht j hj (nextM j.m i rn') ⟨e.okm, e.nil, by have := e.len; simp only [nextM]; omega, e.left⟩ i ev
  · exact ref19_Go_ok t j hj (nextM j.m i false) rfl i er
theorem go_off (t : Tsk) (ht : t.Ok) (j : Jb) (hj : j.Ok) (h : noStep (codeOf t j.phase).l j.m.pc j.m.over) :
    run kp (.datk f_job_Go [t.d, j.d]) = some (.ds [j.d, noI.d, .bool false]) ∧ run kp (.datk f_ref19_Go [t.d, j.d]) = some (.ds [j.d, noI.d, .bool false]) := by
  have hr : j.m.reps.length ≤ 100000 := Nat.le_trans hj.m.len (by simp)
  have v := vm_no (codeOf t j.phase).l (codeOf t j.phase).nl j.m.pc j.m.mem j.m.rn j.m.reps hj.m.rn hr j.m.over h
  have r := ref1_no (codeOf t j.phase).l (codeOf t j.phase).nl j.m.pc j.m.mem j.m.rn j.m.reps hj.m.rn hr j.m.over h
  exact ⟨job_Go_no t ht j hj j.m hj.m.rn noI v, ref19_Go_no t j ⟨j.m.pc, j.m.mem, false, j.m.reps, j.m.over⟩ rfl noI r⟩
theorem heldF_len (h : List Int) (i : Inst) : (heldF h i).length ≤ h.length + 1 := by
  have r : ∀ (a : Int) (n : Nat), (remL h a n).length ≤ h.length := by
    intro a n
    induction n with
    | zero => simp [remL]
    | succ n ih =>
      simp only [remL]
      split
      · simp; omega
      · exact ih
  unfold heldF
  split
  · simp
  · split
    · have := r i.a h.length; omega
    · omega
theorem go_like (j : Jb) (i : Inst) (rn' : Bool) : (goJ j (nextM j.m i rn') i).Like (goR j (nextM j.m i false) i) := by
  refine ⟨rfl, rfl, rfl, rfl, ⟨rfl, rfl, rfl, rfl⟩, ?_, rfl, rfl⟩
  unfold goJ goR
  simp only
  split
  · exact ⟨rfl, rfl, rfl, rfl⟩
  · exact .refl _
end Go.Cd
