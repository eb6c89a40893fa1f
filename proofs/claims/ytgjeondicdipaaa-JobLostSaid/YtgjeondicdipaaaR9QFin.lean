/- Programs that numbers make come to their end, and hold nothing then. No conditions. -/
import Derived.Test.YtgjeondicdipaaaR9QJobH
import Derived.Test.YtgjeondicdipaaaR9QVmZ
set_option linter.unusedVariables false
set_option linter.unusedSimpArgs false
namespace Go.Cd
open Go Go.Fw
def Plain (i : Inst) : Prop := i.op ≠ 0 ∧ i.op ≠ 7 ∧ i.op ≠ 8 ∧ i.op ≠ 9 ∧ i.op ≠ 10 ∧ i.op ≠ 11
/-- Plain ones and pairs. -/
inductive Pl : List Inst → Prop
  | nil : Pl []
  | one {i : Inst} {l : List Inst} : Plain i → Pl l → Pl (i :: l)
  | lock {s : Int} {i : Inst} {l : List Inst} : Plain i → Pl l → Pl (⟨9, s, 0, 0⟩ :: i :: ⟨10, s, 0, 0⟩ :: l)
theorem Pl.append {a b : List Inst} (ha : Pl a) (hb : Pl b) : Pl (a ++ b) := by
  induction ha with
  | nil => exact hb
  | one h _ ih => exact .one h ih
  | lock h _ ih => exact .lock h ih
/-- One piece of a program. -/
inductive Bl : List Inst → Prop
  | some {l : List Inst} : Pl l → Bl l
  | rep {l : List Inst} {c : Int} : Pl l → l ≠ [] → 1 ≤ c → c ≤ 3 → Bl (⟨8, 0, (l.length : Int), c⟩ :: l)
  | skip {l : List Inst} {a : Int} : Pl l → Bl (⟨7, a, 0, (l.length : Int)⟩ :: l)
  | mark : Bl [⟨11, 0, 0, 0⟩]
/-- Pieces, one behind the other. -/
inductive Pr : List Inst → Prop
  | nil : Pr []
  | cons {b l : List Inst} : Bl b → Pr l → Pr (b ++ l)
theorem Pr.append {a b : List Inst} (ha : Pr a) (hb : Pr b) : Pr (a ++ b) := by
  induction ha with
  | nil => exact hb
  | cons h _ ih => rw [List.append_assoc]; exact .cons h ih
theorem Pr.one {b : List Inst} (h : Bl b) : Pr b := by
  have := Pr.cons h .nil
  simpa using this
theorem plainI_pl (L : List D) (n : Int) : Plain (plainI L n) := by
  unfold plainI Plain
  simp only
  repeat' split
  all_goals simp
theorem someI_pl (L : List D) (n lk : Int) : Pl (someI L n lk) := by
  unfold someI
  split
  · split
    · exact .lock (plainI_pl _ _) .nil
    · exact .one (plainI_pl _ _) .nil
  · exact .one (plainI_pl _ _) .nil
theorem someRow_pl (L : List D) (lk : Int) : ∀ (i : Nat) (n : Int), Pl (someRow L lk i n)
  | 0, _ => .nil
  | i + 1, n => (someI_pl L n lk).append (someRow_pl L lk i _)
theorem someL_pl (L : List D) (n m lk : Int) : Pl (someL L n m lk) := someRow_pl L lk _ _
theorem codeI_bl {L : List D} {n : Int} (lk : Int) (ho : NumOk L n) : Bl (codeI L n lk) := by
  unfold codeI
  have o1 := nextN_ok ho
  have o2 := someNx_ok (L := L) (n := nextN L n) 2 lk o1
  have hl := someL_len (lk := lk) (m := 2) o1 (by omega)
  split
  · have v := valN_range (m := 3) o2 (by omega)
    have w : IntKind.i64.wrap (1 + valN L (someNx L (nextN L n) 2 lk) 3) = 1 + valN L (someNx L (nextN L n) 2 lk) 3 := wrap_i64 (by omega) (by omega)
    rw [w]
    refine .rep (someL_pl _ _ _ _) (fun e => ?_) (by omega) (by omega)
    rw [e] at hl; simp at hl
  · split
    · exact .skip (someL_pl _ _ _ _)
    · split
      · exact .mark
      · exact .some (someL_pl _ _ _ _)
theorem codeRow_pr {L : List D} (lk : Int) : ∀ (i : Nat) (n : Int) (acc : List Inst), NumOk L n → Pr acc → Pr (codeRow L lk i n acc)
  | 0, _, _, _, h => h
  | i + 1, n, acc, ho, h => by
    refine codeRow_pr lk i _ _ (codeN_ok lk ho) ?_
    unfold codeAdd
    split
    · exact h.append (.one (codeI_bl lk ho))
    · exact h
theorem codeRow_pr0 {L : List D} {n : Int} (lk : Int) (ho : NumOk L n) (i : Nat) : Pr (codeRow L lk i n []) := codeRow_pr lk i n [] ho .nil
/-- A job comes to its end in so many steps, and lets go what it took last. -/
inductive Fin (l : List Inst) : Nat → Jb → Prop
  | done {k : Nat} {j : Jb} : j.m.over = true → j.held = [] → Fin l k j
  | step {k : Nat} {j : Jb} {i : Inst} : CanGo l j.m i → (i.op = 10 → ∃ h, j.held = h ++ [i.a]) → (∀ rn', Fin l k (goJ j (nextM j.m i rn') i)) → Fin l (k + 1) j
theorem Fin.mono {l : List Inst} {k : Nat} {j : Jb} (h : Fin l k j) : ∀ {m : Nat}, k ≤ m → Fin l m j := by
  induction h with
  | done h1 h2 => exact fun _ => .done h1 h2
  | step h1 h2 _ ih =>
    intro m hm
    obtain ⟨m, rfl⟩ : ∃ q, m = q + 1 := ⟨m - 1, by omega⟩
    exact .step h1 h2 (fun rn => ih rn (by omega))
/-- A machine that comes to a place with these loops. -/
structure At (R : List Rep) (p : Int) (j : Jb) : Prop where
  pc : j.m.pc = (gN R p R.length).1
  reps : j.m.reps = repsN R (gN R p R.length)
  over : j.m.over = false
theorem gN_in {R : List Rep} {p : Int} (h : ∀ r ∈ R, p ≤ r.last) : gN R p R.length = (p, R.length, false) := by
  cases hR : R.length with
  | zero => rfl
  | succ n =>
    unfold gN
    have hn : n < R.length := by omega
    rw [List.getElem?_eq_getElem hn]
    have := h R[n] (List.getElem_mem hn)
    simp only
    rw [if_neg (by omega)]
theorem At.inn {R : List Rep} {p : Int} {j : Jb} (h : At R p j) (hR : ∀ r ∈ R, p ≤ r.last) : j.m.pc = p ∧ j.m.reps = R := by
  have e := gN_in hR
  refine ⟨by rw [h.pc, e], ?_⟩
  rw [h.reps, e]
  simp [repsN]
theorem remL_last (h : List Int) (a : Int) : remL (h ++ [a]) a (h ++ [a]).length = h := by
  simp [remL]
theorem gone_at {R : List Rep} {p : Int} {j : Jb} (h : At R p j) (hR : ∀ r ∈ R, p ≤ r.last) {i : Inst} (h0 : i.op ≠ 0) (h7 : i.op ≠ 7) (h8 : i.op ≠ 8) (rn : Bool) : At R (p + 1) (goJ j (nextM j.m i rn) i) := by
  obtain ⟨e1, e2⟩ := h.inn hR
  have eP : aluP i j.m.pc j.m.mem = p + 1 := by unfold aluP; rw [if_neg h0, if_neg h7, e1]
  have eL : aluL i j.m.pc j.m.reps = R := by unfold aluL; rw [if_neg h8, e2]
  refine ⟨?_, ?_, ?_⟩
  · show exP i j.m.pc j.m.mem j.m.reps = _
    unfold exP; rw [eP, eL]
  · show exR i j.m.pc j.m.mem j.m.reps = _
    unfold exR; rw [eP, eL]
  · show decide (i.op = 0) = false
    simp [h0]
/-- The row stands in the program from here on. -/
def Sits (l : List Inst) (p : Nat) (s : List Inst) : Prop := ∃ a b, l = a ++ s ++ b ∧ a.length = p
theorem Sits.get {l : List Inst} {p : Nat} {s : List Inst} {i : Inst} (h : Sits l p (i :: s)) : l[p]? = some i := by
  obtain ⟨a, b, rfl, rfl⟩ := h
  simp
theorem Sits.tail {l : List Inst} {p : Nat} {s : List Inst} {i : Inst} (h : Sits l p (i :: s)) : Sits l (p + 1) s := by
  obtain ⟨a, b, rfl, rfl⟩ := h
  exact ⟨a ++ [i], b, by simp, by simp⟩
theorem Sits.len {l : List Inst} {p : Nat} {s : List Inst} (h : Sits l p s) : p + s.length ≤ l.length := by
  obtain ⟨a, b, rfl, rfl⟩ := h
  simp
theorem Sits.left {l : List Inst} {p : Nat} {s t : List Inst} (h : Sits l p (s ++ t)) : Sits l p s := by
  obtain ⟨a, b, rfl, rfl⟩ := h
  exact ⟨a, t ++ b, by simp, rfl⟩
theorem Sits.right {l : List Inst} {p : Nat} {s t : List Inst} (h : Sits l p (s ++ t)) : Sits l (p + s.length) t := by
  obtain ⟨a, b, rfl, rfl⟩ := h
  exact ⟨a ++ s, b, by simp, by simp⟩
theorem can_at {l : List Inst} {R : List Rep} {p : Nat} {j : Jb} {i : Inst} (hl : ∀ i ∈ l, mayF i = true) (h : At R p j) (hR : ∀ r ∈ R, (p : Int) ≤ r.last) (hg : l[p]? = some i) : CanGo l j.m i := by
  obtain ⟨e1, _⟩ := h.inn hR
  have hp : p < l.length := by
    by_cases k : p < l.length
    · exact k
    · rw [List.getElem?_eq_none (by omega)] at hg; cases hg
  exact ⟨h.over, by omega, by omega, by rw [e1]; simpa using hg, hl i (List.mem_of_getElem? hg)⟩
/-- Through plain ones and pairs. -/
theorem fin_pl {l : List Inst} (hl : ∀ i ∈ l, mayF i = true) {s : List Inst} (hs : Pl s) : ∀ (p k : Nat) (R : List Rep) (j : Jb), Sits l p s → (∀ r ∈ R, ((p + s.length : Nat) : Int) ≤ r.last + 1) → At R p j → j.held = [] →
    (∀ j', At R ((p + s.length : Nat) : Int) j' → j'.held = [] → Fin l k j') → Fin l (k + s.length) j := by
  induction hs with
  | nil => intro p k R j _ _ h1 h2 hK; exact hK j (by simpa using h1) h2
  | @one i s hi _ ih =>
    intro p k R j hs hR ha hh hK
    obtain ⟨q0, q7, q8, q9, q10, q11⟩ := hi
    have hR' : ∀ r ∈ R, (p : Int) ≤ r.last := fun r hr => by have := hR r hr; simp only [List.length_cons] at this; omega
    rw [List.length_cons, ← Nat.add_assoc]
    refine .step (can_at hl ha hR' hs.get) (fun e => absurd e q10) (fun rn => ?_)
    refine ih (p + 1) k R _ hs.tail (fun r hr => by have := hR r hr; simp only [List.length_cons] at this; omega) (gone_at ha hR' q0 q7 q8 rn) ?_ (fun j' h1 h2 => hK j' (by rw [List.length_cons, show p + (s.length + 1) = p + 1 + s.length by omega]; exact h1) h2)
    simp only [goJ, heldF]; rw [if_neg q9, if_neg q10]; exact hh
  | @lock x i s hi _ ih =>
    intro p k R j hs hR ha hh hK
    obtain ⟨q0, q7, q8, q9, q10, q11⟩ := hi
    simp only [List.length_cons] at hR
    have hR0 : ∀ r ∈ R, (p : Int) ≤ r.last := fun r hr => by have := hR r hr; omega
    have hR1 : ∀ r ∈ R, ((p + 1 : Nat) : Int) ≤ r.last := fun r hr => by have := hR r hr; omega
    have hR2 : ∀ r ∈ R, ((p + 1 + 1 : Nat) : Int) ≤ r.last := fun r hr => by have := hR r hr; omega
    simp only [List.length_cons]
    rw [show k + (s.length + 1 + 1 + 1) = k + s.length + 1 + 1 + 1 by omega]
    refine .step (can_at hl ha hR0 hs.get) (fun e => by simp at e) (fun r1 => ?_)
    have a1 := gone_at (i := ⟨9, x, 0, 0⟩) ha hR0 (by simp) (by simp) (by simp) r1
    have h1 : (goJ j (nextM j.m ⟨9, x, 0, 0⟩ r1) ⟨9, x, 0, 0⟩).held = [x] := by simp [goJ, heldF, hh]
    generalize goJ j (nextM j.m ⟨9, x, 0, 0⟩ r1) ⟨9, x, 0, 0⟩ = j1 at a1 h1
    refine .step (can_at hl a1 hR1 hs.tail.get) (fun e => absurd e q10) (fun r2 => ?_)
    have a2 := gone_at a1 hR1 q0 q7 q8 r2
    have h2 : (goJ j1 (nextM j1.m i r2) i).held = [x] := by simp only [goJ, heldF]; rw [if_neg q9, if_neg q10]; exact h1
    generalize goJ j1 (nextM j1.m i r2) i = j2 at a2 h2
    refine .step (can_at hl a2 hR2 hs.tail.tail.get) (fun _ => ⟨[], by simpa using h2⟩) (fun r3 => ?_)
    have a3 := gone_at (i := ⟨10, x, 0, 0⟩) a2 hR2 (by simp) (by simp) (by simp) r3
    have h3 : (goJ j2 (nextM j2.m ⟨10, x, 0, 0⟩ r3) ⟨10, x, 0, 0⟩).held = [] := by
      simp only [goJ, heldF, h2]; exact remL_last [] x
    exact ih (p + 1 + 1 + 1) k R _ hs.tail.tail.tail (fun r hr => by have := hR r hr; omega) a3 h3 (fun j' k1 k2 => hK j' (by simp only [List.length_cons]; rw [show p + (s.length + 1 + 1 + 1) = p + 1 + 1 + 1 + s.length by omega]; exact k1) k2)
theorem at_nil {p : Int} {j : Jb} (h : At [] p j) : j.m.pc = p ∧ j.m.reps = [] := h.inn (fun r hr => by simp at hr)
theorem at_of {p : Int} {j : Jb} (h1 : j.m.pc = p) (h2 : j.m.reps = []) (h3 : j.m.over = false) : At [] p j := ⟨h1, h2, h3⟩
theorem at_back {f la c : Int} (hc : 0 < c) (hf : f ≤ la) {j : Jb} (h : At [⟨f, la, c⟩] (la + 1) j) : At [⟨f, la, c - 1⟩] f j := by
  obtain ⟨h1, h2, h3⟩ := h
  have e1 : gN [⟨f, la, c⟩] (la + 1) 1 = (f, 1, true) := by
    simp only [gN, List.getElem?_cons_zero]
    rw [if_pos (by omega), if_pos hc]
  have e2 : gN [⟨f, la, c - 1⟩] f 1 = (f, 1, false) := by
    simp only [gN, List.getElem?_cons_zero]
    rw [if_neg (by omega)]
  simp only [List.length_cons, List.length_nil, Nat.zero_add, e1] at h1 h2
  refine ⟨?_, ?_, h3⟩
  · simp only [List.length_cons, List.length_nil, Nat.zero_add, e2]; exact h1
  · simp only [List.length_cons, List.length_nil, Nat.zero_add, e2]; rw [h2]; rfl
theorem at_pop {f la : Int} {j : Jb} (h : At [⟨f, la, 0⟩] (la + 1) j) : At [] (la + 1) j := by
  obtain ⟨h1, h2, h3⟩ := h
  have e1 : gN [⟨f, la, 0⟩] (la + 1) 1 = (la + 1, 0, false) := by
    simp only [gN, List.getElem?_cons_zero]
    rw [if_pos (by omega), if_neg (by omega)]
  simp only [List.length_cons, List.length_nil, Nat.zero_add, e1] at h1 h2
  exact ⟨h1, h2, h3⟩
theorem fin_rep {l : List Inst} (hl : ∀ i ∈ l, mayF i = true) {s : List Inst} (hs : Pl s) (hne : s ≠ []) (p k : Nat) (hsit : Sits l p s) (hK : ∀ j', At [] ((p + s.length : Nat) : Int) j' → j'.held = [] → Fin l k j') :
    ∀ (c : Nat) (j : Jb), At [⟨(p : Int), (p : Int) + s.length - 1, (c : Int)⟩] (p : Int) j → j.held = [] → Fin l (k + (c + 1) * s.length) j
  | 0, j, ha, hh => by
    have h1 : 1 ≤ s.length := by cases s with | nil => exact absurd rfl hne | cons a b => simp
    have h := fin_pl hl hs p k [⟨(p : Int), (p : Int) + s.length - 1, ((0 : Nat) : Int)⟩] j hsit (fun r hr => by simp at hr; subst hr; simp only; omega) ha hh (fun j' k1 k2 => hK j' (by
      have e : ((p + s.length : Nat) : Int) = (p : Int) + s.length - 1 + 1 := by omega
      rw [e] at k1 ⊢
      exact at_pop k1) k2)
    simpa using h
  | c + 1, j, ha, hh => by
    have h1 : 1 ≤ s.length := by cases s with | nil => exact absurd rfl hne | cons a b => simp
    have ih := fin_rep hl hs hne p k hsit hK c
    have h := fin_pl hl hs p (k + (c + 1) * s.length) [⟨(p : Int), (p : Int) + s.length - 1, ((c + 1 : Nat) : Int)⟩] j hsit (fun r hr => by simp at hr; subst hr; simp only; omega) ha hh (fun j' k1 k2 => ih j' (by
      have e : ((p + s.length : Nat) : Int) = (p : Int) + s.length - 1 + 1 := by omega
      rw [e] at k1
      have := at_back (by omega) (by omega) k1
      have e2 : ((c + 1 : Nat) : Int) - 1 = (c : Int) := by omega
      rw [e2] at this
      exact this) k2)
    have e : k + (c + 1 + 1) * s.length = k + (c + 1) * s.length + s.length := by rw [Nat.add_mul (c + 1) 1, Nat.one_mul, Nat.add_assoc]
    rw [e]; exact h
theorem fin_bl {l : List Inst} (hl : ∀ i ∈ l, mayF i = true) {b : List Inst} (hb : Bl b) (p k : Nat) (hsit : Sits l p b) (hK : ∀ j', At [] ((p + b.length : Nat) : Int) j' → j'.held = [] → Fin l k j') (j : Jb) (ha : At [] (p : Int) j) (hh : j.held = []) : Fin l (k + 4 * b.length) j := by
  have hn : ∀ r ∈ ([] : List Rep), (p : Int) ≤ r.last := fun r hr => by simp at hr
  obtain ⟨e1, e2⟩ := at_nil ha
  cases hb with
  | some hs => exact (fin_pl hl hs p k [] j hsit (fun r hr => by simp at hr) ha hh hK).mono (by omega)
  | @rep s c hs hne hc hc3 =>
    have h1 : 1 ≤ s.length := by cases s with | nil => exact absurd rfl hne | cons a b => simp
    obtain ⟨d, rfl⟩ : ∃ d : Nat, c = (d : Int) + 1 := ⟨(c - 1).toNat, by omega⟩
    have hd : d ≤ 2 := by omega
    have F := fin_rep hl hs hne (p + 1) k hsit.tail (fun j' k1 k2 => hK j' (by simp only [List.length_cons]; rw [show p + (s.length + 1) = p + 1 + s.length by omega]; exact k1) k2) d
    have le : k + (d + 1) * s.length + 1 ≤ k + 4 * ((⟨8, 0, (s.length : Int), (d : Int) + 1⟩ : Inst) :: s).length := by
      have : (d + 1) * s.length ≤ 3 * s.length := Nat.mul_le_mul_right _ (by omega)
      simp only [List.length_cons]; omega
    refine Fin.mono (.step (can_at hl ha hn hsit.get) (fun e => by simp at e) (fun rn => F _ ?_ ?_)) le
    · have eP : aluP ⟨8, 0, (s.length : Int), (d : Int) + 1⟩ j.m.pc j.m.mem = (p : Int) + 1 := by simp [aluP, e1]
      have eL : aluL ⟨8, 0, (s.length : Int), (d : Int) + 1⟩ j.m.pc j.m.reps = [⟨(p : Int) + 1, (p : Int) + s.length, (d : Int)⟩] := by
        simp [aluL, e1, e2]
      have e3 : (⟨((p + 1 : Nat) : Int), ((p + 1 : Nat) : Int) + s.length - 1, (d : Int)⟩ : Rep) = ⟨(p : Int) + 1, (p : Int) + s.length, (d : Int)⟩ := by
        congr 1
        omega
      rw [e3]
      refine ⟨?_, ?_, rfl⟩
      · show exP _ j.m.pc j.m.mem j.m.reps = _
        unfold exP; rw [eP, eL]; rfl
      · show exR _ j.m.pc j.m.mem j.m.reps = _
        unfold exR; rw [eP, eL]; rfl
    · simp only [goJ, heldF]; rw [if_neg (by omega), if_neg (by omega)]; exact hh
  | @skip s a hs =>
    have le : k + s.length + 1 ≤ k + 4 * ((⟨7, a, 0, (s.length : Int)⟩ : Inst) :: s).length := by simp only [List.length_cons]; omega
    refine Fin.mono (.step (can_at hl ha hn hsit.get) (fun e => by simp at e) (fun rn => ?_)) le
    have hh' : (goJ j (nextM j.m ⟨7, a, 0, (s.length : Int)⟩ rn) ⟨7, a, 0, (s.length : Int)⟩).held = [] := by
      simp only [goJ, heldF]; rw [if_neg (by omega), if_neg (by omega)]; exact hh
    have eL : aluL ⟨7, a, 0, (s.length : Int)⟩ j.m.pc j.m.reps = [] := by simp [aluL, e2]
    by_cases hx : (j.m.mem[a.toNat]?).getD 0 = 0
    · have eP : aluP ⟨7, a, 0, (s.length : Int)⟩ j.m.pc j.m.mem = (p : Int) + 1 + s.length := by simp [aluP, e1, hx]
      refine Fin.mono (hK _ (at_of ?_ ?_ rfl) hh') (by omega)
      · show exP _ j.m.pc j.m.mem j.m.reps = _
        unfold exP; rw [eP, eL]
        simp only [List.length_cons, gN, List.length_nil]; omega
      · show exR _ j.m.pc j.m.mem j.m.reps = _
        unfold exR; rw [eP, eL]; rfl
    · have eP : aluP ⟨7, a, 0, (s.length : Int)⟩ j.m.pc j.m.mem = (p : Int) + 1 := by simp [aluP, e1, hx]
      refine fin_pl hl hs (p + 1) k [] _ hsit.tail (fun r hr => by simp at hr) (at_of ?_ ?_ rfl) hh' (fun j' k1 k2 => hK j' (by simp only [List.length_cons]; rw [show p + (s.length + 1) = p + 1 + s.length by omega]; exact k1) k2)
      · show exP _ j.m.pc j.m.mem j.m.reps = _
        unfold exP; rw [eP, eL]; rfl
      · show exR _ j.m.pc j.m.mem j.m.reps = _
        unfold exR; rw [eP, eL]; rfl
  | mark =>
    refine Fin.mono (.step (can_at hl ha hn hsit.get) (fun e => by simp at e) (fun rn => hK _ ?_ ?_)) (by simp)
    · exact gone_at (i := ⟨11, 0, 0, 0⟩) ha hn (by simp) (by simp) (by simp) rn
    · simp only [goJ, heldF]; rw [if_neg (by omega), if_neg (by omega)]; exact hh
theorem fin_pr {l : List Inst} (hl : ∀ i ∈ l, mayF i = true) {s : List Inst} (hs : Pr s) : ∀ (p k : Nat), Sits l p s → (∀ j', At [] ((p + s.length : Nat) : Int) j' → j'.held = [] → Fin l k j') → ∀ (j : Jb), At [] (p : Int) j → j.held = [] → Fin l (k + 4 * s.length) j := by
  induction hs with
  | nil => intro p k _ hK j ha hh; exact hK j (by simpa using ha) hh
  | @cons b s hb _ ih =>
    intro p k hsit hK j ha hh
    have h2 := ih (p + b.length) k hsit.right (fun j' k1 k2 => hK j' (by rw [List.length_append, ← Nat.add_assoc]; exact k1) k2)
    have h1 := fin_bl hl hb p (k + 4 * s.length) hsit.left (fun j' k1 k2 => h2 j' k1 k2) j ha hh
    exact h1.mono (by rw [List.length_append]; omega)
theorem fin_end {l : List Inst} (hl : ∀ i ∈ l, mayF i = true) (p : Nat) (hsit : Sits l p [endI]) (j : Jb) (ha : At [] (p : Int) j) (hh : j.held = []) : Fin l 1 j := by
  refine .step (can_at hl ha (fun r hr => by simp at hr) hsit.get) (fun e => by simp [endI] at e) (fun rn => .done ?_ ?_)
  · rfl
  · show heldF j.held endI = []
    unfold heldF
    rw [if_neg (by decide), if_neg (by decide)]; exact hh
theorem fin_code {L : List D} {n lk : Int} (hlk : lk ≤ 4) (ho : NumOk L n) (j : Jb) (h1 : j.m.pc = 0) (h2 : j.m.reps = []) (h3 : j.m.over = false) (hh : j.held = []) : Fin (codeL L n lk) 100 j := by
  have o := codeRow_ok lk hlk ((valN L n 4).toNat + 1) (nextN L n) [] (nextN_ok ho) ⟨fun i hi => by simp at hi, fun j i hj => by simp at hj⟩
  have pr := codeRow_pr0 lk (nextN_ok ho) ((valN L n 4).toNat + 1)
  have len := codeRow_len L lk ((valN L n 4).toNat + 1) (nextN L n) [] (by simp)
  unfold codeL
  generalize codeRow L lk ((valN L n 4).toNat + 1) (nextN L n) [] = R at *
  have hl : ∀ i ∈ R ++ [endI], mayF i = true := fun i hi => by
    rcases List.mem_append.1 hi with hi | hi
    · exact (o.1 i hi).1
    · simp at hi; subst hi; decide
  have hs : Sits (R ++ [endI]) 0 (R ++ [endI]) := ⟨[], [], by simp, rfl⟩
  have F := fin_pr hl pr 0 1 hs.left (fun j' k1 k2 => fin_end hl (0 + R.length) hs.right j' k1 k2) j (at_of h1 h2 h3) hh
  exact F.mono (by omega)
end Go.Cd
