/- What the law FlagOnce asks, in plain Lean. No conditions. -/
import Derived.Test.YtjedomkpjidmbaaR3PFlagBits
import Derived.Test.YtjedomkpjidmbaaR3QFlagA
set_option linter.unusedVariables false
set_option linter.unusedSimpArgs false
namespace Go.Cd
open Go Go.Fw
/-- Who waits, with a mask of bits. -/
structure W2 where
  c : Nat
  m : BitVec 32
def W2.w (x : W2) : Waiter := ⟨(x.c : Int), nI x.m⟩
def clr (want : Nat → BitVec 32) (c : Nat) : Nat → BitVec 32 := fun k => if k = c then 0#32 else want k
/-- What the law asks of who is told, and what it notes. -/
def Told : List W2 → BitVec 32 → (Nat → BitVec 32) → BitVec 32 → (Nat → BitVec 32) → Prop
  | [], all, want, all', want' => all = all' ∧ want = want'
  | t :: r, all, want, all', want' => 1 ≤ t.c ∧ t.c ≤ 6 ∧ ¬ t.m = 0#32 ∧ t.m &&& all = t.m ∧ want t.c &&& t.m = t.m ∧ Told r (all &&& ~~~t.m) (clr want t.c) all' want'
theorem Told_all : ∀ (t : List W2) (all : BitVec 32) (want : Nat → BitVec 32) (all' : BitVec 32) (want' : Nat → BitVec 32), Told t all want all' want' → all' &&& ~~~all = 0#32
  | [], all, _, _, _, h => by obtain ⟨rfl, _⟩ := h; ext i hi; simp
  | t :: r, all, want, all', want', h => by
    obtain ⟨_, _, _, _, _, h⟩ := h
    have e := Told_all r _ _ _ _ h
    ext i hi
    have := congrArg (fun x : BitVec 32 => x.getLsbD i) e
    simp [hi] at this ⊢
    intro h1; exact (this h1).1
theorem raise_told : ∀ (ws : List W2) (b : BitVec 32) (want : Nat → BitVec 32) (l t : List Waiter),
    (∀ x ∈ ws, 1 ≤ x.c ∧ x.c ≤ 6 ∧ want x.c = x.m ∧ ¬ x.m = 0#32) → (ws.map W2.c).Nodup →
    ∃ (b' : BitVec 32) (ws' t' : List W2) (want' : Nat → BitVec 32), raiseF (ws.map W2.w) (nI b) l t = (nI b', l ++ ws'.map W2.w, t ++ t'.map W2.w) ∧ Told t' b want b' want' ∧
      ws'.Sublist ws ∧ (∀ k, k ∉ ws.map W2.c → want' k = want k) ∧ (∀ x ∈ ws', want' x.c = x.m ∧ x.m &&& b' = 0#32) ∧ (∀ k, k ∉ ws'.map W2.c → k ∈ ws.map W2.c → want' k = 0#32) ∧ t'.length ≤ ws.length
  | [], b, want, l, t, _, _ => ⟨b, [], [], want, by simp [raiseF], ⟨rfl, rfl⟩, List.Sublist.refl _, by simp, by simp, by simp, by simp⟩
  | x :: ws, b, want, l, t, h, hn => by
    simp only [List.map_cons, List.nodup_cons] at hn
    obtain ⟨hn1, hn2⟩ := hn
    obtain ⟨x1, x2, x3, x4⟩ := h x List.mem_cons_self
    have hws : ∀ y ∈ ws, ¬ y.c = x.c := fun y hy e => hn1 (by rw [← e]; exact List.mem_map_of_mem hy)
    simp only [List.map_cons, W2.w, raiseF, and_nI, andNot_nI]
    by_cases hg : b &&& x.m = 0#32
    · have : nI (b &&& x.m) = 0 := (nI_zero _).2 hg
      rw [if_pos this]
      obtain ⟨b', ws', t', want', e1, e2, e3, e4, e5, e6, e7⟩ := raise_told ws b want (l ++ [⟨(x.c : Int), nI x.m⟩]) t (fun y hy => h y (List.mem_cons_of_mem _ hy)) hn2
      refine ⟨b', x :: ws', t', want', ?_, e2, e3.cons_cons x, ?_, ?_, ?_, by simp; omega⟩
      · rw [e1]; simp [W2.w]
      · intro k hk
        simp only [List.map_cons, List.mem_cons, not_or] at hk
        exact e4 k hk.2
      · intro y hy
        rcases List.mem_cons.1 hy with rfl | hy
        · refine ⟨by rw [e4 _ hn1, x3], ?_⟩
          have e := Told_all _ _ _ _ _ e2
          ext i hi
          have k1 := congrArg (fun x : BitVec 32 => x.getLsbD i) e
          have k2 := congrArg (fun x : BitVec 32 => x.getLsbD i) hg
          simp [hi] at k1 k2 ⊢
          intro hm
          cases hb : b'[i]
          · rfl
          · have := k2 (k1 hb); simp [hm] at this
        · exact e5 y hy
      · intro k hk1 hk2
        simp only [List.map_cons, List.mem_cons, not_or] at hk1 hk2
        rcases hk2 with hk2 | hk2
        · exact absurd hk2 hk1.1
        · exact e6 k hk1.2 hk2
    · have : ¬ nI (b &&& x.m) = 0 := fun e => hg ((nI_zero _).1 e)
      rw [if_neg this]
      have hcl : ∀ y ∈ ws, clr want x.c y.c = want y.c := fun y hy => by simp [clr, hws y hy]
      obtain ⟨b', ws', t', want', e1, e2, e3, e4, e5, e6, e7⟩ := raise_told ws (b &&& ~~~(b &&& x.m)) (clr want x.c) l (t ++ [⟨(x.c : Int), nI (b &&& x.m)⟩]) (fun y hy => by rw [hcl y hy]; exact h y (List.mem_cons_of_mem _ hy)) hn2
      refine ⟨b', ws', ⟨x.c, b &&& x.m⟩ :: t', want', ?_, ?_, e3.cons x, ?_, e5, ?_, by simp; omega⟩
      · rw [e1]; simp [W2.w]
      · refine ⟨x1, x2, hg, ?_, ?_, e2⟩
        · simp only
          rw [BitVec.and_comm, ← BitVec.and_assoc, BitVec.and_self]
        · simp only
          rw [x3, BitVec.and_comm, BitVec.and_assoc, BitVec.and_self]
      · intro k hk
        simp only [List.map_cons, List.mem_cons, not_or] at hk
        rw [e4 k hk.2]; simp [clr, hk.1]
      · intro k hk1 hk2
        simp only [List.map_cons, List.mem_cons] at hk2
        by_cases hk : k ∈ ws.map W2.c
        · exact e6 k hk1 hk
        · rw [e4 k hk]
          rcases hk2 with hk2 | hk2
          · simp [clr, hk2]
          · exact absurd hk2 hk
/-- What stands between two deeds. -/
structure Once (ws : List W2) (b : BitVec 32) (want : Nat → BitVec 32) : Prop where
  len : ws.length ≤ 4
  each : ∀ x ∈ ws, 1 ≤ x.c ∧ x.c ≤ 6 ∧ want x.c = x.m ∧ ¬ x.m = 0#32
  apart : (ws.map W2.c).Nodup
  gone : ∀ k, k ∉ ws.map W2.c → want k = 0#32
  none : ∀ k, want k &&& b = 0#32
theorem once_raise (ws : List W2) (b mask : BitVec 32) (want : Nat → BitVec 32) (o : Once ws b want) :
    ∃ (b' : BitVec 32) (ws' t' : List W2) (want' : Nat → BitVec 32), raiseF (ws.map W2.w) (nI (b ||| mask)) [] [] = (nI b', ws'.map W2.w, t'.map W2.w) ∧ Told t' (b ||| mask) want b' want' ∧ Once ws' b' want' ∧ t'.length ≤ 4 := by
  obtain ⟨b', ws', t', want', e1, e2, e3, e4, e5, e6, e7⟩ := raise_told ws (b ||| mask) want [] [] o.each o.apart
  have hg : ∀ k, k ∉ ws'.map W2.c → want' k = 0#32 := by
    intro k hk
    by_cases h : k ∈ ws.map W2.c
    · exact e6 k hk h
    · rw [e4 k h, o.gone k h]
  refine ⟨b', ws', t', want', by simpa using e1, e2, ⟨Nat.le_trans e3.length_le o.len, ?_, o.apart.sublist (e3.map _), hg, ?_⟩, Nat.le_trans e7 o.len⟩
  · intro x hx
    obtain ⟨x1, x2, _, x4⟩ := o.each x (e3.subset hx)
    exact ⟨x1, x2, (e5 x hx).1, x4⟩
  · intro k
    by_cases h : k ∈ ws'.map W2.c
    · obtain ⟨x, hx, rfl⟩ := List.mem_map.1 h
      rw [(e5 x hx).1]; exact (e5 x hx).2
    · rw [hg k h]; simp
theorem once_take (ws : List W2) (b m : BitVec 32) (want : Nat → BitVec 32) (o : Once ws b want) : Once ws (b &&& ~~~m) want := by
  refine ⟨o.len, o.each, o.apart, o.gone, fun k => ?_⟩
  have := o.none k
  ext i hi
  have k1 := congrArg (fun x : BitVec 32 => x.getLsbD i) this
  simp [hi] at k1 ⊢
  intro h1 h2; rw [k1 h1] at h2; cases h2
theorem once_wait (ws : List W2) (b m : BitVec 32) (want : Nat → BitVec 32) (o : Once ws b want) (c : Nat) (hc : 1 ≤ c ∧ c ≤ 6) (hl : ws.length < 4) (hw : c ∉ ws.map W2.c) (hm : ¬ m = 0#32) (hb : b &&& m = 0#32) :
    Once (ws ++ [⟨c, m⟩]) b (fun k => if k = c then m else want k) := by
  refine ⟨by simp; omega, ?_, ?_, ?_, ?_⟩
  · intro x hx
    rcases List.mem_append.1 hx with hx | hx
    · obtain ⟨x1, x2, x3, x4⟩ := o.each x hx
      have : ¬ x.c = c := fun e => hw (by rw [← e]; exact List.mem_map_of_mem hx)
      exact ⟨x1, x2, by simp [this, x3], x4⟩
    · simp only [List.mem_singleton] at hx; subst hx
      exact ⟨hc.1, hc.2, by simp, hm⟩
  · rw [List.map_append, List.nodup_append]
    refine ⟨o.apart, by simp, ?_⟩
    intro a ha b' hb' e
    simp at hb'; subst hb'; exact hw (e ▸ ha)
  · intro k hk
    simp at hk
    have : ¬ k = c := hk.2
    simp only [this, if_false]
    exact o.gone k (by simpa using hk.1)
  · intro k
    by_cases h : k = c
    · simp only [h, if_true]; rw [BitVec.and_comm]; exact hb
    · simp only [h, if_false]; exact o.none k
theorem any_client (ws : List W2) (c : Nat) : ((ws.map W2.w).any fun w => decide (w.client = (c : Int))) = decide (c ∈ ws.map W2.c) := by
  induction ws with
  | nil => rfl
  | cons x r ih =>
    simp only [List.map_cons, List.any_cons, ih, W2.w]
    by_cases h : x.c = c
    · simp [h]
    · have h1 : ¬ (x.c : Int) = (c : Int) := by omega
      have h2 : ¬ c = x.c := fun e => h e.symm
      simp [h1, h2]
end Go.Cd
