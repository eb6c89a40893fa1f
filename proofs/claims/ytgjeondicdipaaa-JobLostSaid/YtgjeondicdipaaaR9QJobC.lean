/- Jobs that are alike, and programs. No conditions. -/
import Derived.Test.YtgjeondicdipaaaR9QJobB
set_option linter.unusedVariables false
set_option linter.unusedSimpArgs false
namespace Go.Cd
open Go Go.Fw
def siSt (l : List Int) (n1 n2 : Bool) (i : Nat) (ex : List (Nat × V)) : St :=
  { env := [(0, .asl n1 (l.map (.int .i64))), (1, .asl n2 (l.map (.int .i64))), (5, .int .i64 (i : Int))] ++ ex, hp := [], tl := fun _ => none, base := 0, next := 0 }
set_option maxRecDepth 10000 in
set_option maxHeartbeats 4000000 in
theorem si_loop (l : List Int) (n1 n2 : Bool) (hl : l.length ≤ 100000) : ∀ (k i : Nat), i + k = l.length →
    run kp (.loop [0, 1, 5] k_ref11_SameInts_L0 (siSt l n1 n2 i [])) = some (.out (.ext 0) (siSt l n1 n2 l.length [(14, .bool false)]))
  | 0, i, h => by
    obtain rfl : i = l.length := by omega
    rw [run_round]
    simp [c_ref11_SameInts_L0, k_ref11_SameInts_L0b, siSt]
  | k + 1, i, h => by
    rw [← si_loop l n1 n2 hl k (i + 1) (by omega), run_round]
    have hi : i < l.length := by omega
    have hi2 : (i : Int) < (l.length : Int) := by omega
    obtain ⟨x, hx⟩ : ∃ x, l[i]? = some x := ⟨_, List.getElem?_eq_getElem hi⟩
    have hx2 : ∀ hh : i < l.length, l[i] = x := fun hh => by rw [List.getElem?_eq_getElem hh] at hx; injection hx
    have w : IntKind.i64.wrap ((i : Int) + 1) = ((i + 1 : Nat) : Int) := by rw [wrap_i64 (by omega) (by omega)]; omega
    generalize i + 1 = j at *
    simp [c_ref11_SameInts_L0, k_ref11_SameInts_L0b, siSt, hi, hi2, hx, hx2, w]
theorem same_ints (l : List Int) (n1 n2 : Bool) (hl : l.length ≤ 100000) : run kp (.data f_ref11_SameInts [.sl n1 (l.map (.int .i64)), .sl n2 (l.map (.int .i64))]) = some (.ds [.bool true]) := by
  have lp := si_loop l n1 n2 hl l.length 0 (by omega)
  simp only [siSt, List.append_nil, Int.cast_ofNat_Int, List.cons_append, List.nil_append] at lp
  rw [run_data, run_call, kp_ref11_SameInts]
  simp [k_ref11_SameInts, lp]
/-- Alike but for what is nil. -/
structure Mc.Like (a b : Mc) : Prop where
  pc : a.pc = b.pc
  mem : a.mem = b.mem
  reps : a.reps = b.reps
  over : a.over = b.over
structure Jb.Like (a b : Jb) : Prop where
  task : a.task = b.task
  at_ : a.at_ = b.at_
  inn : a.inn = b.inn
  phase : a.phase = b.phase
  m : a.m.Like b.m
  k : a.k.Like b.k
  held : a.held = b.held
  up : a.up = b.up
theorem Mc.Like.refl (a : Mc) : a.Like a := ⟨rfl, rfl, rfl, rfl⟩
theorem Jb.Like.refl (a : Jb) : a.Like a := ⟨rfl, rfl, rfl, rfl, .refl _, .refl _, rfl, rfl⟩
theorem same_mc (a b : Mc) (h : a.Like b) (hl : a.reps.length ≤ 100000) : run kp (.data f_ref1_SameMachine [a.d, b.d]) = some (.ds [.bool true]) := by
  obtain ⟨pc, mem, rn, reps, over⟩ := a
  obtain ⟨pc2, mem2, rn2, reps2, over2⟩ := b
  obtain ⟨h1, h2, h3, h4⟩ := h
  simp only at h1 h2 h3 h4
  subst h1 h2 h3 h4
  exact same_machine pc mem rn rn2 reps over hl
set_option maxRecDepth 10000 in
set_option maxHeartbeats 8000000 in
theorem same_job (a b : Jb) (h : a.Like b) (h1 : a.m.reps.length ≤ 100000) (h2 : a.k.reps.length ≤ 100000) (h3 : a.held.length ≤ 100000) : run kp (.data f_ref19_SameJob [a.d, b.d]) = some (.ds [.bool true]) := by
  have m1 := same_mc a.m b.m h.m h1
  have m2 := same_mc a.k b.k h.k h2
  have m3 := same_ints a.held a.hn b.hn h3
  obtain ⟨task, at_, inn, ph, m, k, hn, held, up⟩ := a
  obtain ⟨task2, at2, inn2, ph2, mm, kk, hn2, held2, up2⟩ := b
  obtain ⟨e1, e2, e3, e4, _, _, e5, e6⟩ := h
  simp only at e1 e2 e3 e4 e5 e6
  subst e1 e2 e3 e4 e5 e6
  simp only [Mc.d, mD] at m1 m2 m3
  rw [run_data, run_call, kp_ref19_SameJob]
  simp [k_ref19_SameJob, Jb.d, Mc.d, mD, m1, m2, m3]
end Go.Cd
