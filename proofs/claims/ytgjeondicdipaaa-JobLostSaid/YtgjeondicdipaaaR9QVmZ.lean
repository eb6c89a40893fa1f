/- Programs that may be, as numbers make them: what is in them, and where their machines are. No conditions. -/
import Derived.Test.YtgjeondicdipaaaR9QHs
import Derived.Test.YtgjeondicdipaaaR9QVmX
set_option linter.unusedVariables false
set_option linter.unusedSimpArgs false
namespace Go.Cd
open Go Go.Fw
def plainOk (l : List Inst) : Prop := ∀ i ∈ l, mayF i = true ∧ i.op ≠ 0 ∧ i.op ≠ 7
def codeOk (l : List Inst) : Prop := (∀ i ∈ l, mayF i = true ∧ i.op ≠ 0) ∧ ∀ (j : Nat) (i : Inst), l[j]? = some i → i.op = 7 → (j : Int) + 1 + i.n ≤ l.length
theorem plainI_ok {L : List D} {n : Int} (ho : NumOk L n) : mayF (plainI L n) = true ∧ (plainI L n).op ≠ 0 ∧ (plainI L n).op ≠ 7 := by
  have o1 := nextN_ok ho
  have o2 := nextN_ok o1
  have o3 := nextN_ok o2
  have a := valN_range (m := 3) ho (by omega)
  have b := valN_range (m := 3) o1 (by omega)
  have c := valN_range (m := 9) o3 (by omega)
  have d := valN_range (m := 7) o3 (by omega)
  have e := valN_range (m := 64) o3 (by omega)
  have w1 : IntKind.i64.wrap (valN L (nextN L (nextN L (nextN L n))) 9 - 4) = valN L (nextN L (nextN L (nextN L n))) 9 - 4 := wrap_i64 (by omega) (by omega)
  have w2 : IntKind.i64.wrap (valN L (nextN L (nextN L (nextN L n))) 7 - 3) = valN L (nextN L (nextN L (nextN L n))) 7 - 3 := wrap_i64 (by omega) (by omega)
  have w3 : IntKind.i64.wrap (1 + valN L (nextN L (nextN L (nextN L n))) 64) = 1 + valN L (nextN L (nextN L (nextN L n))) 64 := wrap_i64 (by omega) (by omega)
  unfold plainI
  simp only [w1, w2, w3]
  repeat' split
  all_goals simp [mayF, memB, withB]
  all_goals omega
theorem someI_ok {L : List D} {n : Int} (lk : Int) (hlk : lk ≤ 4) (ho : NumOk L n) : plainOk (someI L n lk) := by
  have o1 := nextN_ok ho
  have o2 := nextN_ok o1
  unfold someI
  split
  · rename_i h0
    have r := valN_range (m := lk) o1 h0
    have p := plainI_ok o2
    have p1 := plainI_ok o1
    split
    · intro i hi
      simp only [List.mem_cons, List.not_mem_nil, or_false] at hi
      rcases hi with rfl | rfl | rfl
      · simp [mayF, withB]; omega
      · exact p
      · simp [mayF, withB]; omega
    · intro i hi
      simp only [List.mem_cons, List.not_mem_nil, or_false] at hi
      subst hi; exact p1
  · intro i hi
    simp only [List.mem_cons, List.not_mem_nil, or_false] at hi
    subst hi; exact plainI_ok ho
theorem someRow_ok {L : List D} (lk : Int) (hlk : lk ≤ 4) : ∀ (i : Nat) (n : Int), NumOk L n → plainOk (someRow L lk i n)
  | 0, _, _ => fun i hi => by simp [someRow] at hi
  | k + 1, n, ho => fun i hi => by
    unfold someRow at hi
    rcases List.mem_append.1 hi with hi | hi
    · exact someI_ok lk hlk ho i hi
    · exact someRow_ok lk hlk k _ (someN_ok lk ho) i hi
theorem someL_ok {L : List D} {n : Int} (m lk : Int) (hlk : lk ≤ 4) (ho : NumOk L n) : plainOk (someL L n m lk) := someRow_ok lk hlk _ _ (nextN_ok ho)
theorem codeOk_plain {l : List Inst} (h : plainOk l) : codeOk l := ⟨fun i hi => ⟨(h i hi).1, (h i hi).2.1⟩, fun j i hj h7 => absurd h7 (h i (List.mem_of_getElem? hj)).2.2⟩
theorem codeOk_append {a b : List Inst} (ha : codeOk a) (hb : codeOk b) : codeOk (a ++ b) := by
  refine ⟨fun i hi => ?_, fun j i hj h7 => ?_⟩
  · rcases List.mem_append.1 hi with hi | hi
    · exact ha.1 i hi
    · exact hb.1 i hi
  · rw [List.length_append]
    by_cases h : j < a.length
    · rw [List.getElem?_append_left h] at hj
      have := ha.2 j i hj h7
      omega
    · rw [List.getElem?_append_right (by omega)] at hj
      have := hb.2 _ i hj h7
      omega
theorem codeI_ok {L : List D} {n : Int} (lk : Int) (hlk : lk ≤ 4) (ho : NumOk L n) : codeOk (codeI L n lk) := by
  have o1 := nextN_ok ho
  have s := someL_ok 2 lk hlk o1
  have len := someL_len (m := 2) (lk := lk) o1 (by omega)
  have o2 := someNx_ok 2 lk o1
  have r := valN_range (m := 3) o2 (by omega)
  have w : IntKind.i64.wrap (1 + valN L (someNx L (nextN L n) 2 lk) 3) = 1 + valN L (someNx L (nextN L n) 2 lk) 3 := wrap_i64 (by omega) (by omega)
  unfold codeI
  rw [w]
  generalize someL L (nextN L n) 2 lk = S at *
  repeat' split
  · refine codeOk_plain fun i hi => ?_
    rcases List.mem_cons.1 hi with rfl | hi
    · simp [mayF, withB]; omega
    · exact s i hi
  · refine ⟨fun i hi => ?_, fun j i hj h7 => ?_⟩
    · rcases List.mem_cons.1 hi with rfl | hi
      · simp [mayF, withB, memB]; omega
      · exact ⟨(s i hi).1, (s i hi).2.1⟩
    · cases j with
      | zero => simp at hj; subst hj; simp; omega
      | succ j => simp at hj; exact absurd h7 (s i (List.mem_of_getElem? hj)).2.2
  · refine codeOk_plain fun i hi => ?_
    simp only [List.mem_cons, List.not_mem_nil, or_false] at hi
    subst hi
    simp [mayF]
  · exact codeOk_plain s
theorem codeRow_ok {L : List D} (lk : Int) (hlk : lk ≤ 4) : ∀ (i : Nat) (n : Int) (acc : List Inst), NumOk L n → codeOk acc → codeOk (codeRow L lk i n acc)
  | 0, _, _, _, h => h
  | i + 1, n, acc, ho, h => by
    unfold codeRow
    refine codeRow_ok lk hlk i _ _ (codeN_ok lk ho) ?_
    unfold codeAdd
    split
    · exact codeOk_append h (codeI_ok lk hlk ho)
    · exact h
/-- A machine is in its program. -/
def inProg (R : List Inst) (pc : Int) (reps : List Rep) : Prop := 0 ≤ pc ∧ pc ≤ R.length ∧ ∀ r ∈ reps, 0 ≤ r.first ∧ r.first ≤ R.length
theorem in_next {R : List Inst} (hR : codeOk R) {pc : Int} {reps : List Rep} {over : Bool} {pc' : Int} {reps' : List Rep} {ok : Bool} (h : inProg R pc reps) (hn : NextOk (R ++ [endI]) pc reps over pc' reps' ok) : (ok = false → over = true) ∧ (ok = true → inProg R pc' reps') := by
  obtain ⟨h0, h1, h2⟩ := h
  refine ⟨fun e => ?_, fun e => ?_⟩
  · rcases hn.1 e with h | h | h | ⟨i, _, hi, hm⟩
    · exact h
    · omega
    · simp at h; omega
    · rcases List.mem_append.1 (List.mem_of_getElem? hi) with hj | hj
      · rw [(hR.1 i hj).1] at hm; cases hm
      · simp at hj; subst hj; simp [endI, mayF] at hm
  · obtain ⟨i, P, L, hi, _, _, hP, hL, hp, hr⟩ := hn.2 e
    have hin : (i = endI ∧ pc = R.length) ∨ R[pc.toNat]? = some i := by
      by_cases hlt : pc.toNat < R.length
      · rw [List.getElem?_append_left hlt] at hi; exact .inr hi
      · rw [List.getElem?_append_right (by omega)] at hi
        have : pc.toNat - R.length = 0 := by omega
        rw [this] at hi
        simp at hi
        exact .inl ⟨hi.symm, by omega⟩
    have hlt : i.op ≠ 0 → pc + 1 ≤ R.length := fun hne => by
      rcases hin with ⟨rfl, _⟩ | hin
      · exact absurd rfl hne
      · have : pc.toNat < R.length := by
          by_cases hh : pc.toNat < R.length
          · exact hh
          · rw [List.getElem?_eq_none (by omega)] at hin; cases hin
        omega
    have hLr : ∀ r ∈ L, 0 ≤ r.first ∧ r.first ≤ R.length := by
      rcases hL with rfl | ⟨r, rfl, hf, h8⟩
      · exact h2
      · intro r2 hr2
        rcases List.mem_append.1 hr2 with hr2 | hr2
        · exact h2 r2 hr2
        · simp at hr2; subst hr2
          have := hlt (by omega)
          omega
    have hPr : 0 ≤ P ∧ P ≤ R.length := by
      rcases hP with ⟨rfl, hne⟩ | ⟨_, rfl⟩ | ⟨h7, rfl⟩
      · have := hlt hne; omega
      · omega
      · rcases hin with ⟨rfl, _⟩ | hin
        · simp [endI] at h7
        · have a := hR.2 _ i hin h7
          have b := (hR.1 i (List.mem_of_getElem? hin)).1
          have : 1 ≤ i.n := by
            unfold mayF at b
            simp [h7, memB, withB] at b
            omega
          omega
    refine ⟨?_, ?_, fun r h => ?_⟩
    · rcases hp with rfl | ⟨r, h, rfl⟩
      · exact hPr.1
      · exact (hLr r h).1
    · rcases hp with rfl | ⟨r, h, rfl⟩
      · exact hPr.2
      · exact (hLr r h).2
    · obtain ⟨r2, h, e⟩ := hr r h
      rw [e]; exact hLr r2 h
end Go.Cd
