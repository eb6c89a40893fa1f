/- How long a program that numbers make goes on, all of it and between marks. No conditions. -/
import Derived.Test.YtgjeondicdipaaaR9QCsE
set_option linter.unusedVariables false
set_option linter.unusedSimpArgs false
namespace Go.Cd
open Go Go.Fw
def er (m : Mc) : Mc := ⟨m.pc, m.mem, false, m.reps, m.over⟩
/-- A machine comes to its end in so many steps, to its next mark or its end in so many. -/
inductive Tr (l : List Inst) (P : Nat) : Nat → Nat → Mc → List Int → Prop
  | done {k p : Nat} {m : Mc} : m.over = true → Tr l P k p m []
  | step {k p : Nat} {m : Mc} {h : List Int} {i : Inst} : CanGo l m i → i.op ≠ 11 → (i.op = 10 → ∃ h', h = h' ++ [i.a]) → Tr l P k p (nextM m i false) (heldF h i) → Tr l P (k + 1) (p + 1) m h
  | mark {k p : Nat} {m : Mc} {i : Inst} : CanGo l m i → i.op = 11 → Tr l P k P (nextM m i false) [] → Tr l P (k + 1) (p + 1) m []
theorem Tr.mono {l : List Inst} {P k p : Nat} {m : Mc} {h : List Int} (t : Tr l P k p m h) : ∀ {k' p' : Nat}, k ≤ k' → p ≤ p' → Tr l P k' p' m h := by
  induction t with
  | done h1 => exact fun _ _ => .done h1
  | step h1 h2 h3 _ ih =>
    intro k' p' hk hp
    obtain ⟨k', rfl⟩ : ∃ q, k' = q + 1 := ⟨k' - 1, by omega⟩
    obtain ⟨p', rfl⟩ : ∃ q, p' = q + 1 := ⟨p' - 1, by omega⟩
    exact .step h1 h2 h3 (ih (by omega) (by omega))
  | mark h1 h2 _ ih =>
    intro k' p' hk hp
    obtain ⟨k', rfl⟩ : ∃ q, k' = q + 1 := ⟨k' - 1, by omega⟩
    obtain ⟨p', rfl⟩ : ∃ q, p' = q + 1 := ⟨p' - 1, by omega⟩
    exact .mark h1 h2 (ih (by omega) (Nat.le_refl _))
structure AtM (R : List Rep) (p : Int) (m : Mc) : Prop where
  pc : m.pc = (gN R p R.length).1
  reps : m.reps = repsN R (gN R p R.length)
  over : m.over = false
theorem AtM.inn {R : List Rep} {p : Int} {m : Mc} (h : AtM R p m) (hR : ∀ r ∈ R, p ≤ r.last) : m.pc = p ∧ m.reps = R := by
  have e := gN_in hR
  refine ⟨by rw [h.pc, e], ?_⟩
  rw [h.reps, e]
  simp [repsN]
theorem goneM_at {R : List Rep} {p : Int} {m : Mc} (h : AtM R p m) (hR : ∀ r ∈ R, p ≤ r.last) {i : Inst} (h0 : i.op ≠ 0) (h7 : i.op ≠ 7) (h8 : i.op ≠ 8) : AtM R (p + 1) (nextM m i false) := by
  obtain ⟨e1, e2⟩ := h.inn hR
  have eP : aluP i m.pc m.mem = p + 1 := by unfold aluP; rw [if_neg h0, if_neg h7, e1]
  have eL : aluL i m.pc m.reps = R := by unfold aluL; rw [if_neg h8, e2]
  refine ⟨?_, ?_, ?_⟩
  · show exP i m.pc m.mem m.reps = _
    unfold exP; rw [eP, eL]
  · show exR i m.pc m.mem m.reps = _
    unfold exR; rw [eP, eL]
  · show decide (i.op = 0) = false
    simp [h0]
theorem canM_at {l : List Inst} {R : List Rep} {p : Nat} {m : Mc} {i : Inst} (hl : ∀ i ∈ l, mayF i = true) (h : AtM R p m) (hR : ∀ r ∈ R, (p : Int) ≤ r.last) (hg : l[p]? = some i) : CanGo l m i := by
  obtain ⟨e1, _⟩ := h.inn hR
  have hp := getX hg
  exact ⟨h.over, by omega, by omega, by rw [e1]; simpa using hg, hl i (List.mem_of_getElem? hg)⟩
theorem heldF_same {h : List Int} {i : Inst} (h9 : i.op ≠ 9) (h10 : i.op ≠ 10) : heldF h i = h := by
  unfold heldF; rw [if_neg h9, if_neg h10]
/-- Through plain ones and pairs. -/
theorem tr_pl {l : List Inst} {P : Nat} (hl : ∀ i ∈ l, mayF i = true) {s : List Inst} (hs : Pl s) : ∀ (p k q : Nat) (R : List Rep) (m : Mc), Sits l p s → (∀ r ∈ R, ((p + s.length : Nat) : Int) ≤ r.last + 1) → AtM R p m →
    (∀ m', AtM R ((p + s.length : Nat) : Int) m' → Tr l P k q m' []) → Tr l P (k + s.length) (q + s.length) m [] := by
  induction hs with
  | nil => intro p k q R m _ _ h1 hK; exact hK m (by simpa using h1)
  | @one i s hi _ ih =>
    intro p k q R m hs hR ha hK
    obtain ⟨q0, q7, q8, q9, q10, q11⟩ := hi
    have hR' : ∀ r ∈ R, (p : Int) ≤ r.last := fun r hr => by have := hR r hr; simp only [List.length_cons] at this; omega
    rw [List.length_cons, ← Nat.add_assoc, ← Nat.add_assoc]
    refine .step (canM_at hl ha hR' hs.get) q11 (fun e => absurd e q10) ?_
    rw [heldF_same q9 q10]
    exact ih (p + 1) k q R _ hs.tail (fun r hr => by have := hR r hr; simp only [List.length_cons] at this; omega) (goneM_at ha hR' q0 q7 q8) (fun m' h1 => hK m' (by rw [List.length_cons, show p + (s.length + 1) = p + 1 + s.length by omega]; exact h1))
  | @lock x i s hi _ ih =>
    intro p k q R m hs hR ha hK
    obtain ⟨q0, q7, q8, q9, q10, q11⟩ := hi
    simp only [List.length_cons] at hR
    have hR0 : ∀ r ∈ R, (p : Int) ≤ r.last := fun r hr => by have := hR r hr; omega
    have hR1 : ∀ r ∈ R, ((p + 1 : Nat) : Int) ≤ r.last := fun r hr => by have := hR r hr; omega
    have hR2 : ∀ r ∈ R, ((p + 1 + 1 : Nat) : Int) ≤ r.last := fun r hr => by have := hR r hr; omega
    simp only [List.length_cons]
    rw [show k + (s.length + 1 + 1 + 1) = k + s.length + 1 + 1 + 1 by omega, show q + (s.length + 1 + 1 + 1) = q + s.length + 1 + 1 + 1 by omega]
    refine .step (canM_at hl ha hR0 hs.get) (by simp) (fun e => by simp at e) ?_
    have a1 := goneM_at (i := ⟨9, x, 0, 0⟩) ha hR0 (by simp) (by simp) (by simp)
    have e1 : heldF [] ⟨9, x, 0, 0⟩ = [x] := by simp [heldF]
    rw [e1]
    generalize nextM m ⟨9, x, 0, 0⟩ false = m1 at a1
    refine .step (canM_at hl a1 hR1 hs.tail.get) q11 (fun e => absurd e q10) ?_
    rw [heldF_same q9 q10]
    have a2 := goneM_at a1 hR1 q0 q7 q8
    generalize nextM m1 i false = m2 at a2
    refine .step (canM_at hl a2 hR2 hs.tail.tail.get) (by simp) (fun _ => ⟨[], by simp⟩) ?_
    have a3 := goneM_at (i := ⟨10, x, 0, 0⟩) a2 hR2 (by simp) (by simp) (by simp)
    have e3 : heldF [x] ⟨10, x, 0, 0⟩ = [] := by
      simp only [heldF]; exact remL_last [] x
    rw [e3]
    exact ih (p + 1 + 1 + 1) k q R _ hs.tail.tail.tail (fun r hr => by have := hR r hr; omega) a3 (fun m' k1 => hK m' (by simp only [List.length_cons]; rw [show p + (s.length + 1 + 1 + 1) = p + 1 + 1 + 1 + s.length by omega]; exact k1))
theorem atM_nil {p : Int} {m : Mc} (h : AtM [] p m) : m.pc = p ∧ m.reps = [] := h.inn (fun r hr => by simp at hr)
theorem atM_of {p : Int} {m : Mc} (h1 : m.pc = p) (h2 : m.reps = []) (h3 : m.over = false) : AtM [] p m := ⟨h1, h2, h3⟩
theorem atM_back {f la c : Int} (hc : 0 < c) (hf : f ≤ la) {m : Mc} (h : AtM [⟨f, la, c⟩] (la + 1) m) : AtM [⟨f, la, c - 1⟩] f m := by
  obtain ⟨h1, h2, h3⟩ := h
  have e1 : gN [⟨f, la, c⟩] (la + 1) 1 = (f, 1, true) := by
    simp only [gN, List.getElem?_cons_zero]
    rw [if_pos (by omega), if_pos hc]
  have e2 : gN [⟨f, la, c - 1⟩] f 1 = (f, 1, false) := by
    simp only [gN, List.getElem?_cons_zero]
    rw [if_neg (by omega)]
  simp only [List.length_cons, List.length_nil, Nat.zero_add, e1] at h1 h2
  refine ⟨?_, ?_, h3⟩
  · simp only [List.length_cons, List.length_nil, Nat.zero_add, e2]; exact h1
  · simp only [List.length_cons, List.length_nil, Nat.zero_add, e2]; rw [h2]; rfl
theorem atM_pop {f la : Int} {m : Mc} (h : AtM [⟨f, la, 0⟩] (la + 1) m) : AtM [] (la + 1) m := by
  obtain ⟨h1, h2, h3⟩ := h
  have e1 : gN [⟨f, la, 0⟩] (la + 1) 1 = (la + 1, 0, false) := by
    simp only [gN, List.getElem?_cons_zero]
    rw [if_pos (by omega), if_neg (by omega)]
  simp only [List.length_cons, List.length_nil, Nat.zero_add, e1] at h1 h2
  exact ⟨h1, h2, h3⟩
theorem tr_rep {l : List Inst} {P : Nat} (hl : ∀ i ∈ l, mayF i = true) {s : List Inst} (hs : Pl s) (hne : 1 ≤ s.length) (p k q : Nat) (hsit : Sits l p s) (hK : ∀ m', AtM [] ((p + s.length : Nat) : Int) m' → Tr l P k q m' []) :
    ∀ (c : Nat) (m : Mc), AtM [⟨(p : Int), (p : Int) + s.length - 1, (c : Int)⟩] (p : Int) m → Tr l P (k + (c + 1) * s.length) (q + (c + 1) * s.length) m []
  | 0, m, ha => by
    have h := tr_pl (P := P) hl hs p k q [⟨(p : Int), (p : Int) + s.length - 1, ((0 : Nat) : Int)⟩] m hsit (fun r hr => by simp at hr; subst hr; simp only; omega) ha (fun m' k1 => hK m' (by
      have e : ((p + s.length : Nat) : Int) = (p : Int) + s.length - 1 + 1 := by omega
      rw [e] at k1 ⊢
      exact atM_pop k1))
    simpa using h
  | c + 1, m, ha => by
    have ih := tr_rep hl hs hne p k q hsit hK c
    have h := tr_pl (P := P) hl hs p (k + (c + 1) * s.length) (q + (c + 1) * s.length) [⟨(p : Int), (p : Int) + s.length - 1, ((c + 1 : Nat) : Int)⟩] m hsit (fun r hr => by simp at hr; subst hr; simp only; omega) ha (fun m' k1 => ih m' (by
      have e : ((p + s.length : Nat) : Int) = (p : Int) + s.length - 1 + 1 := by omega
      rw [e] at k1
      have := atM_back (by omega) (by omega) k1
      have e2 : ((c + 1 : Nat) : Int) - 1 = (c : Int) := by omega
      rw [e2] at this
      exact this))
    have e : ∀ x : Nat, x + (c + 1 + 1) * s.length = x + (c + 1) * s.length + s.length := fun x => by rw [Nat.add_mul (c + 1) 1, Nat.one_mul, Nat.add_assoc]
    rw [e, e]; exact h
/-- What a row of so many of the same does to the account. -/
theorem cst_rep {c : Int} : ∀ (s : List Inst) (r : List Inst) (T : List Int) (all mx pc : Int), (∀ x ∈ s, x.op ≠ 11 ∧ x.op ≠ 0) → cstF (s ++ r) (List.replicate s.length c ++ T) (all, mx, pc) = cstF r T (all + s.length * c, mx, pc + s.length * c)
  | [], r, T, all, mx, pc, _ => by simp
  | x :: s, r, T, all, mx, pc, h => by
    have hx := h x List.mem_cons_self
    have n : ¬ (x.op = 11 ∨ x.op = 0) := by omega
    simp only [List.cons_append, List.length_cons, List.replicate_succ, cstF]
    rw [if_neg n, cst_rep s r T _ _ _ (fun y hy => h y (List.mem_cons_of_mem _ hy))]
    have e : ((s.length + 1 : Nat) : Int) * c = c + (s.length : Int) * c := by
      rw [Int.natCast_add, Int.add_mul, Int.natCast_one, Int.one_mul, Int.add_comm]
    rw [e, Int.add_assoc, Int.add_assoc]
theorem pl_no0 {s : List Inst} (h : Pl s) : ∀ x ∈ s, x.op ≠ 11 ∧ x.op ≠ 0 := by
  induction h with
  | nil => intro x hx; cases hx
  | one hp _ ih =>
    intro x hx
    rcases List.mem_cons.1 hx with rfl | hx
    · exact ⟨hp.2.2.2.2.2, hp.1⟩
    · exact ih x hx
  | lock hp _ ih =>
    intro x hx
    simp only [List.mem_cons] at hx
    rcases hx with rfl | rfl | rfl | hx
    · simp
    · exact ⟨hp.2.2.2.2.2, hp.1⟩
    · simp
    · exact ih x hx
/-- The times of a row that stands here are those of its own pieces. -/
theorem tms_rep (L : List Inst) (A : List Ar) (c : Int) : ∀ (r i : Nat), (∀ j : Nat, i ≤ j → j < i + r → tmF L A j 1 = c) → tmsF L A r i = List.replicate r c
  | 0, _, _ => rfl
  | r + 1, i, h => by
    simp only [tmsF, List.replicate_succ]
    rw [h i (by omega) (by omega), tms_rep L A c r (i + 1) (fun j h1 h2 => h j (by omega) (by omega))]
theorem tms_app (L : List Inst) (A : List Ar) : ∀ (r q i : Nat), tmsF L A (r + q) i = tmsF L A r i ++ tmsF L A q (i + r)
  | 0, q, i => by simp [tmsF]
  | r + 1, q, i => by
    rw [show r + 1 + q = (r + q) + 1 by omega]
    simp only [tmsF, List.cons_append]
    rw [tms_app L A r q (i + 1), show i + 1 + r = i + (r + 1) by omega]
/-- In the middle of a row, only the pieces of the part that stands here have its instructions. -/
theorem tm_mid {a b c : List Inst} (L : List Inst) (la : Lay a 0) (lc : Lay c (a.length + b.length)) (j : Nat) (h1 : a.length ≤ j) (h2 : j < a.length + b.length) (v : Int) : tmF L (areasF (a ++ (b ++ c)) 0) j v = tmF L (areasF b a.length) j v := by
  rw [areasF_app a, areasF_app b, Nat.zero_add, tmF_app, tmF_app, tmF_none L j (areasF a 0) v (fun x hx => ?_), tmF_none L j (areasF c _) _ (fun x hx => ?_)]
  · obtain ⟨r1, r2, _⟩ := lc.rng x hx
    exact has_no (.inl (by omega))
  · obtain ⟨_, _, _, r4, _⟩ := la.rng x hx
    exact has_no (.inr (by omega))
/-- A piece of a program: what it costs, and that it goes through in that. -/
theorem tr_bl {P : Nat} {a b c : List Inst} (hl : ∀ i ∈ a ++ (b ++ c), mayF i = true) (la : Lay a 0) (lc : Lay c (a.length + b.length)) (hb : Bl b) (hnm : b ≠ [⟨11, 0, 0, 0⟩]) :
    ∃ n : Nat, (∀ (T : List Int) (all mx pc : Int), cstF (b ++ c) (tmsF (a ++ (b ++ c)) (areasF (a ++ (b ++ c)) 0) b.length a.length ++ T) (all, mx, pc) = cstF c T (all + n, mx, pc + n)) ∧
      (∀ (k q : Nat), (∀ m', AtM [] ((a.length + b.length : Nat) : Int) m' → Tr (a ++ (b ++ c)) P k q m' []) → ∀ m, AtM [] (a.length : Int) m → Tr (a ++ (b ++ c)) P (k + n) (q + n) m []) := by
  have hsit : Sits (a ++ (b ++ c)) a.length b := ⟨a, c, by simp, rfl⟩
  have tm := fun j h1 h2 => tm_mid (a ++ (b ++ c)) la lc j h1 h2 1
  have hn : ∀ r ∈ ([] : List Rep), ((a.length : Nat) : Int) ≤ r.last := fun r hr => by simp at hr
  generalize hL : a ++ (b ++ c) = L at *
  cases hb with
  | some hs =>
    refine ⟨b.length, fun T all mx pc => ?_, fun k q hK m ha => tr_pl hl hs a.length k q [] m hsit (fun r hr => by simp at hr) ha hK⟩
    rw [tms_rep L _ 1 b.length a.length (fun j h1 h2 => by rw [tm j h1 h2, areasF_pl hs]; rfl), cst_rep b c T all mx pc (pl_no0 hs)]
    simp
  | @rep s d hs hne hd hd3 =>
    have h1 : 1 ≤ s.length := by cases s with | nil => exact absurd rfl hne | cons a b => simp
    obtain ⟨e, rfl⟩ : ∃ e : Nat, d = (e : Int) + 1 := ⟨(d - 1).toNat, by omega⟩
    have ar : areasF (⟨8, 0, (s.length : Int), (e : Int) + 1⟩ :: s) a.length = [⟨(a.length : Int) + 1, (a.length : Int) + s.length, a.length, true⟩] := by
      simp [areasF, arOf, areasF_pl hs]
    have gl : L[a.length]? = some ⟨8, 0, (s.length : Int), (e : Int) + 1⟩ := by
      rw [← hL, List.getElem?_append_right (Nat.le_refl _)]; simp
    refine ⟨1 + (e + 1) * s.length, fun T all mx pc => ?_, fun k q hK m ha => ?_⟩
    · have t0 : tmF L (areasF L 0) ((a.length : Nat) : Int) 1 = 1 := by
        rw [tm a.length (Nat.le_refl _) (by simp), ar]
        have : (⟨(a.length : Int) + 1, (a.length : Int) + s.length, (a.length : Int), true⟩ : Ar).has (a.length : Int) = false := has_no (.inl (by simp only; omega))
        simp [tmF, this]
      have t1 : tmsF L (areasF L 0) s.length (a.length + 1) = List.replicate s.length ((e : Int) + 1) := by
        refine tms_rep L _ _ s.length (a.length + 1) (fun j h1 h2 => ?_)
        rw [tm j (by omega) (by simp; omega), ar]
        have : (⟨(a.length : Int) + 1, (a.length : Int) + s.length, (a.length : Int), true⟩ : Ar).has (j : Int) = true := has_yes (by simp only; omega) (by simp only; omega)
        have en : nOf L ⟨(a.length : Int) + 1, (a.length : Int) + s.length, (a.length : Int), true⟩ = (e : Int) + 1 := by simp [nOf, gl]
        simp only [tmF, this, en, Bool.and_self, if_true, Int.one_mul]
        exact wrap_i64 (by omega) (by omega)
      simp only [List.length_cons, List.cons_append, tmsF]
      rw [t0, t1]
      simp only [cstF]
      rw [if_neg (by simp), cst_rep s c T _ _ _ (pl_no0 hs)]
      have ec : ((1 + (e + 1) * s.length : Nat) : Int) = 1 + (s.length : Int) * ((e : Int) + 1) := by
        rw [Nat.mul_comm]; simp [Int.natCast_add, Int.natCast_mul]
      rw [ec, Int.add_assoc, Int.add_assoc]
    · obtain ⟨e1, e2⟩ := atM_nil ha
      have F := tr_rep (P := P) hl hs h1 (a.length + 1) k q hsit.tail (fun m' k1 => hK m' (by simp only [List.length_cons]; rw [show a.length + (s.length + 1) = a.length + 1 + s.length by omega]; exact k1)) e
      rw [show k + (1 + (e + 1) * s.length) = k + (e + 1) * s.length + 1 by omega, show q + (1 + (e + 1) * s.length) = q + (e + 1) * s.length + 1 by omega]
      refine .step (canM_at hl ha hn hsit.get) (by simp) (fun e => by simp at e) ?_
      rw [heldF_same (by simp) (by simp)]
      refine F _ ?_
      have eP : aluP ⟨8, 0, (s.length : Int), (e : Int) + 1⟩ m.pc m.mem = (a.length : Int) + 1 := by simp [aluP, e1]
      have eL : aluL ⟨8, 0, (s.length : Int), (e : Int) + 1⟩ m.pc m.reps = [⟨(a.length : Int) + 1, (a.length : Int) + s.length, (e : Int)⟩] := by
        simp [aluL, e1, e2]
      have e3 : (⟨((a.length + 1 : Nat) : Int), ((a.length + 1 : Nat) : Int) + s.length - 1, (e : Int)⟩ : Rep) = ⟨(a.length : Int) + 1, (a.length : Int) + s.length, (e : Int)⟩ := by
        congr 1
        omega
      rw [e3]
      refine ⟨?_, ?_, rfl⟩
      · show exP _ m.pc m.mem m.reps = _
        unfold exP; rw [eP, eL]; rfl
      · show exR _ m.pc m.mem m.reps = _
        unfold exR; rw [eP, eL]; rfl
  | @skip s d hs =>
    have ar : areasF (⟨7, d, 0, (s.length : Int)⟩ :: s) a.length = [⟨(a.length : Int) + 1, (a.length : Int) + s.length, a.length, false⟩] := by
      simp [areasF, arOf, areasF_pl hs]
    refine ⟨1 + s.length, fun T all mx pc => ?_, fun k q hK m ha => ?_⟩
    · have t1 : ∀ (r i : Nat), a.length ≤ i → i + r ≤ a.length + (s.length + 1) → tmsF L (areasF L 0) r i = List.replicate r 1 := fun r i h1 h2 => by
        refine tms_rep L _ 1 r i (fun j h3 h4 => ?_)
        rw [tm j (by omega) (by simp; omega), ar]
        simp [tmF]
      rw [t1 _ _ (Nat.le_refl _) (by simp), cst_rep (⟨7, d, 0, (s.length : Int)⟩ :: s) c T all mx pc (fun x hx => by
        rcases List.mem_cons.1 hx with rfl | hx
        · simp
        · exact pl_no0 hs x hx)]
      have ec : ((1 + s.length : Nat) : Int) = ((s.length + 1 : Nat) : Int) := by omega
      simp only [List.length_cons, Int.mul_one]
      rw [ec]
    · obtain ⟨e1, e2⟩ := atM_nil ha
      rw [show k + (1 + s.length) = k + s.length + 1 by omega, show q + (1 + s.length) = q + s.length + 1 by omega]
      refine .step (canM_at hl ha hn hsit.get) (by simp) (fun e => by simp at e) ?_
      rw [heldF_same (by simp) (by simp)]
      have eL : aluL ⟨7, d, 0, (s.length : Int)⟩ m.pc m.reps = [] := by simp [aluL, e2]
      by_cases hx : (m.mem[d.toNat]?).getD 0 = 0
      · have eP : aluP ⟨7, d, 0, (s.length : Int)⟩ m.pc m.mem = (a.length : Int) + 1 + s.length := by simp [aluP, e1, hx]
        refine Tr.mono (hK _ (atM_of ?_ ?_ rfl)) (by omega) (by omega)
        · show exP _ m.pc m.mem m.reps = _
          unfold exP; rw [eP, eL]
          simp only [List.length_cons, gN, List.length_nil]; omega
        · show exR _ m.pc m.mem m.reps = _
          unfold exR; rw [eP, eL]; rfl
      · have eP : aluP ⟨7, d, 0, (s.length : Int)⟩ m.pc m.mem = (a.length : Int) + 1 := by simp [aluP, e1, hx]
        refine tr_pl hl hs (a.length + 1) k q [] _ hsit.tail (fun r hr => by simp at hr) (atM_of ?_ ?_ rfl) (fun m' k1 => hK m' (by simp only [List.length_cons]; rw [show a.length + (s.length + 1) = a.length + 1 + s.length by omega]; exact k1))
        · show exP _ m.pc m.mem m.reps = _
          unfold exP; rw [eP, eL]; rfl
        · show exR _ m.pc m.mem m.reps = _
          unfold exR; rw [eP, eL]; rfl
  | mark => exact absurd rfl hnm
/-- All of a program. -/
theorem tr_pr {s : List Inst} (hs : Pr s) : ∀ (a : List Inst), (∀ i ∈ a ++ (s ++ [endI]), mayF i = true) → Lay a 0 → Trip a → ∀ (all mx pc : Int) (P : Nat), 0 ≤ pc →
    (cstF (s ++ [endI]) (tmsF (a ++ (s ++ [endI])) (areasF (a ++ (s ++ [endI])) 0) (s.length + 1) a.length) (all, mx, pc)).2.1 ≤ P →
    all + 1 ≤ (cstF (s ++ [endI]) (tmsF (a ++ (s ++ [endI])) (areasF (a ++ (s ++ [endI])) 0) (s.length + 1) a.length) (all, mx, pc)).1 ∧
    mx ≤ (cstF (s ++ [endI]) (tmsF (a ++ (s ++ [endI])) (areasF (a ++ (s ++ [endI])) 0) (s.length + 1) a.length) (all, mx, pc)).2.1 ∧
    pc + 1 ≤ (cstF (s ++ [endI]) (tmsF (a ++ (s ++ [endI])) (areasF (a ++ (s ++ [endI])) 0) (s.length + 1) a.length) (all, mx, pc)).2.1 ∧
    ∀ m, AtM [] (a.length : Int) m → Tr (a ++ (s ++ [endI])) P ((cstF (s ++ [endI]) (tmsF (a ++ (s ++ [endI])) (areasF (a ++ (s ++ [endI])) 0) (s.length + 1) a.length) (all, mx, pc)).1 - all).toNat ((P : Int) - pc).toNat m [] := by
  induction hs with
  | nil =>
    intro a hl la ta all mx pc P hpc
    have e : tmsF (a ++ ([] ++ [endI])) (areasF (a ++ ([] ++ [endI])) 0) (([] : List Inst).length + 1) a.length = [1] := by
      simp only [List.length_nil, tmsF]
      have := tm_mid (b := [endI]) (c := []) (a ++ ([] ++ [endI])) la (Lay.nil _) a.length (Nat.le_refl _) (by simp) 1
      simp only [List.append_nil, List.nil_append] at this ⊢
      rw [this]
      rfl
    rw [e]
    simp only [List.nil_append, cstF, endI]
    simp only [or_true, if_true]
    intro hP
    refine ⟨by omega, by split <;> omega, by split <;> omega, fun m ha => ?_⟩
    have hc : CanGo (a ++ [endI]) m endI := canM_at (by simpa using hl) ha (fun r hr => by simp at hr) (by simp)
    have k1 : (all + 1 - all).toNat = 0 + 1 := by omega
    have hpp : pc + 1 ≤ (P : Int) := by split at hP <;> omega
    obtain ⟨q, hq⟩ : ∃ q : Nat, ((P : Int) - pc).toNat = q + 1 := ⟨((P : Int) - pc).toNat - 1, by omega⟩
    rw [k1, hq]
    refine .step (i := endI) hc (by decide) (fun e => by simp [endI] at e) ?_
    exact .done rfl
  | @cons b s hb hs' ih =>
    intro a hl la ta all mx pc P hpc
    have lb : Lay b a.length := lay_bl hb (fun x hx => hl x (by simp [hx])) a.length
    have ls : Lay (s ++ [endI]) (a.length + b.length) := (lay_pr hs' (fun x hx => hl x (by simp [hx])) _).append (lay_end _) (trip_pr hs')
    have lab : Lay (a ++ b) 0 := la.append (by simpa using lb) ta
    have ih' := ih (a ++ b) (by intro i hi; exact hl i (by simpa using hi)) lab (ta.append (trip_bl hb))
    simp only [List.append_assoc, List.length_append] at ih' ⊢
    have et : tmsF (a ++ (b ++ (s ++ [endI]))) (areasF (a ++ (b ++ (s ++ [endI]))) 0) (b.length + s.length + 1) a.length = tmsF (a ++ (b ++ (s ++ [endI]))) (areasF (a ++ (b ++ (s ++ [endI]))) 0) b.length a.length ++ tmsF (a ++ (b ++ (s ++ [endI]))) (areasF (a ++ (b ++ (s ++ [endI]))) 0) (s.length + 1) (a.length + b.length) := by
      rw [Nat.add_assoc, tms_app]
    rw [et]
    simp only [List.append_assoc] at hl
    by_cases hm : b = [⟨11, 0, 0, 0⟩]
    · subst hm
      have t1 : tmsF (a ++ ([⟨11, 0, 0, 0⟩] ++ (s ++ [endI]))) (areasF (a ++ ([⟨11, 0, 0, 0⟩] ++ (s ++ [endI]))) 0) ([⟨11, 0, 0, 0⟩] : List Inst).length a.length = [1] := by
        have := tm_mid (b := [⟨11, 0, 0, 0⟩]) (c := s ++ [endI]) (a ++ ([⟨11, 0, 0, 0⟩] ++ (s ++ [endI]))) la ls a.length (Nat.le_refl _) (by simp) 1
        simp only [List.length_cons, List.length_nil, Nat.zero_add, tmsF]
        rw [this]
        simp [areasF, arOf, tmF]
      rw [t1]
      simp only [List.cons_append, List.nil_append, cstF]
      simp only [true_or, if_true]
      simp only [List.cons_append, List.nil_append] at ih' hl ls
      intro hP
      obtain ⟨i1, i2, i3, i4⟩ := ih' (all + 1) (if mx < pc + 1 then pc + 1 else mx) 0 P (by omega) hP
      have hmx : mx ≤ (if mx < pc + 1 then pc + 1 else mx) ∧ pc + 1 ≤ (if mx < pc + 1 then pc + 1 else mx) := by split <;> omega
      generalize (if mx < pc + 1 then pc + 1 else mx) = mx' at *
      generalize tmsF (a ++ (⟨11, 0, 0, 0⟩ :: (s ++ [endI]))) (areasF (a ++ (⟨11, 0, 0, 0⟩ :: (s ++ [endI]))) 0) (s.length + 1) (a.length + ([⟨11, 0, 0, 0⟩] : List Inst).length) = T at *
      generalize cstF (s ++ [endI]) T (all + 1, mx', 0) = r at *
      refine ⟨by omega, by omega, by omega, fun m ha => ?_⟩
      have hc : CanGo (a ++ ⟨11, 0, 0, 0⟩ :: (s ++ [endI])) m ⟨11, 0, 0, 0⟩ := canM_at hl ha (fun r hr => by simp at hr) (by rw [List.getElem?_append_right (Nat.le_refl _)]; simp)
      obtain ⟨q, hq⟩ : ∃ q : Nat, ((P : Int) - pc).toNat = q + 1 := ⟨((P : Int) - pc).toNat - 1, by omega⟩
      have ek : (r.1 - all).toNat = (r.1 - (all + 1)).toNat + 1 := by omega
      rw [ek, hq]
      have at1 : AtM [] ((a.length : Int) + 1) (nextM m ⟨11, 0, 0, 0⟩ false) := goneM_at ha (fun r hr => by simp at hr) (by simp) (by simp) (by simp)
      have T1 := i4 _ (by simpa using at1)
      rw [show ((P : Int) - 0).toNat = P by omega] at T1
      exact .mark hc rfl T1
    · obtain ⟨n, hc, ht⟩ := tr_bl (P := P) (a := a) (c := s ++ [endI]) hl la ls hb hm
      rw [hc]
      intro hP
      obtain ⟨i1, i2, i3, i4⟩ := ih' (all + n) mx (pc + n) P (by omega) hP
      generalize cstF (s ++ [endI]) _ (all + n, mx, pc + n) = r at *
      refine ⟨by omega, by omega, by omega, fun m ha => ?_⟩
      have F := ht (r.1 - (all + n)).toNat ((P : Int) - (pc + n)).toNat (fun m' k1 => i4 m' k1) m ha
      have ek : (r.1 - all).toNat = (r.1 - (all + n)).toNat + n := by omega
      have eq : ((P : Int) - pc).toNat = ((P : Int) - (pc + n)).toNat + n := by omega
      rw [ek, eq]
      exact F
theorem made_tr {R : List Inst} (h : Made R) (m : Mc) (h1 : m.pc = 0) (h2 : m.reps = []) (h3 : m.over = false) : 1 ≤ (allOf (R ++ [endI])).1 ∧ 1 ≤ (allOf (R ++ [endI])).2.1 ∧ Tr (R ++ [endI]) (allOf (R ++ [endI])).2.1.toNat (allOf (R ++ [endI])).1.toNat (allOf (R ++ [endI])).2.1.toNat m [] := by
  have ge : ∀ (P : Nat), (allOf (R ++ [endI])).2.1 ≤ (P : Int) → _ := fun P hP => tr_pr h.pr [] (by simpa using h.may) (.nil 0) .nil 0 0 0 P (by omega) (by simpa [allOf] using hP)
  have g := ge ((allOf (R ++ [endI])).2.1.toNat) (by omega)
  simp only [List.nil_append, List.length_nil] at g
  have e : cstF (R ++ [endI]) (tmsF (R ++ [endI]) (areasF (R ++ [endI]) 0) (R.length + 1) 0) (0, 0, 0) = allOf (R ++ [endI]) := by simp [allOf]
  rw [e] at g
  obtain ⟨g1, g2, g3, g4⟩ := g
  refine ⟨by omega, by omega, ?_⟩
  have g5 := g4 m (atM_of (by simpa using h1) h2 h3)
  generalize allOf (R ++ [endI]) = r at *
  rw [show (((r.2.1.toNat : Nat) : Int) - 0).toNat = r.2.1.toNat by omega, show (r.1 - 0).toNat = r.1.toNat by omega] at g5
  exact g5
end Go.Cd
