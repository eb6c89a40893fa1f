/- Texts of this session in one. No conditions. -/
import Derived.Test.YtfddchjmpmjcfaaGreatR8QTmF
import Derived.Test.YtfddchjmpmjcfaaGreatR8QTmG
import Derived.Test.YtfddchjmpmjcfaaGreatR8QTkG
set_option linter.unusedVariables false
set_option linter.unusedSimpArgs false
namespace Go.Cd
open Go Go.Fw
/-- A program of sums, settings and marks, with one end, its last. -/
structure PMk (l : List Inst) (z : Nat) : Prop where
  sim : Sim l
  len : l.length = z + 1
  le : z ≤ 20
  ends : ∀ i x, l[i]? = some x → (x.op = 0 ↔ i = z)
def mkT (l : List Inst) : Ts := tsOf 1 200 200 l true []
theorem mk_ok {l : List Inst} {z : Nat} (h : PMk l z) : ∃ pc : Nat, (1 ≤ pc ∧ pc ≤ 21) ∧ TsOk 1 200 200 l true [] ((z + 1 : Nat) : Int) (pc : Int) 0 pc := by
  have hl := h.len
  have hz := h.le
  obtain ⟨pc, b, o⟩ := Of_S false l h.sim z hl (by omega) h.ends
  have m := May_S false l h.sim z hl (by omega) h.ends
  rw [hl] at o
  exact ⟨pc, by omega, ⟨⟨by omega, by omega, by omega, ⟨m, o⟩, tmay_nil, .inr ⟨of_nil, rfl, rfl⟩, by omega, by omega⟩, by omega, by simp, fun _ => rfl, by omega, by omega, by omega⟩⟩
def bM (z pc : Nat) : Bd := ⟨((z + 1 : Nat) : Int), (pc : Int), 0, ((z + 1 : Nat) : Int) + (pc : Int), 200 - (((z + 1 : Nat) : Int) + (pc : Int))⟩
def Kn.l (k : Kn) : List D := match k.d with | .agg l => l | _ => []
/-- How it stands: its job, if there is one; is the row of jobs none. -/
structure Mst where
  j : Option Sj
  jn : Bool
def Mst.jobs (s : Mst) : List Sj := match s.j with | some j => [j] | none => []
def kM (l : List Inst) (z pc : Nat) (now : Int) (hit : Bool) (s : Mst) : Kn := k1 now 500 (mkT l) (bM z pc) hit s.jn s.jobs [.int .i64 0] [.bool false]
/-- Where the last mark is. -/
def lmk (l : List Inst) : Nat → Nat
  | 0 => 0
  | i + 1 => if (l[i]?.map Inst.op) = some 11 then i + 1 else lmk l i
theorem lmk_le (l : List Inst) : ∀ i, lmk l i ≤ i
  | 0 => Nat.le_refl 0
  | i + 1 => by
    have := lmk_le l i
    simp only [lmk]; split <;> omega
structure Gj (l : List Inst) (z : Nat) (j : Sj) (i : Nat) : Prop where
  task : j.task = 0
  at_ : j.at_ = 0
  ph : j.ph = 0
  pc : j.pc = (i : Int)
  over : j.over = false
  kpc : j.kpc = (lmk l i : Int)
  le : i ≤ z
def stM (l : List Inst) (z pc : Nat) (now : Int) (s : Mst) : Mst × List D := match s.j with
  | none => (⟨none, true⟩, [])
  | some j => match l[j.pc.toNat]? with
    | none => (s, [])
    | some i => if i.op = 0 then (⟨none, false⟩, [evD now 2 0 0, evD now 3 0 (goK (upK j now (bM z pc).p) i).x]) else (⟨some (goK (upK j now (bM z pc).p) i), false⟩, [evD now 2 0 0])
structure Gs (l : List Inst) (z : Nat) (s : Mst) : Prop where
  job : ∀ j, s.j = some j → s.jn = false ∧ ∃ i, Gj l z j i
theorem mkT_ok {l : List Inst} {z : Nat} (h : PMk l z) : (mkT l).Ok := by
  obtain ⟨pc, _, o⟩ := mk_ok h
  exact o.ok
theorem tick_M {l : List Inst} {z : Nat} (h : PMk l z) (pc : Nat) (now : Int) (hn : 0 ≤ now ∧ now < 200) (s : Mst) (g : Gs l z s) :
    ∃ b, run kp (.datk f_kern_Tick [.agg (kM l z pc now false s).l]) = some (.ds [.agg (kM l z pc (now + 1) false (stM l z pc now s).1).l, .sl b (stM l z pc now s).2]) := by
  obtain ⟨jo, jn⟩ := s
  cases jo with
  | none => exact ⟨true, tick_none now 500 (by omega) (mkT l) (mkT_ok h) (bM z pc) false jn _ _ good_1⟩
  | some j =>
    obtain ⟨hjn, i, gj⟩ := g.job j rfl
    simp only at hjn
    subst hjn
    have hi : i < l.length := by have := h.len; have := gj.le; omega
    have hx : l[i]? = some l[i] := List.getElem?_eq_getElem hi
    have e : j.pc.toNat = i := by rw [gj.pc]; omega
    have sm := h.sim _ (List.mem_of_getElem? hx)
    have hgo := job_Go_K (mkT l) (mkT_ok h) (upK j now (bM z pc).p) i gj.pc gj.over l[i] (by rw [show (upK j now (bM z pc).p).ph = 0 from gj.ph]; exact hx) (by rw [show (upK j now (bM z pc).p).ph = 0 from gj.ph]; show l.length ≤ 1000; have := h.len; have := h.le; omega) sm.1 sm.2
    have h9 : ¬ (l[i]).op = 9 := by have := sm.1.1; omega
    have h10 : ¬ (l[i]).op = 10 := by have := sm.1.1; omega
    have hst : ¬ now - j.at_ = (mkT l).stop := by rw [gj.at_]; show ¬ now - 0 = 200; omega
    have hat : j.task = 0 ∧ -1000 ≤ j.at_ ∧ j.at_ ≤ 4611686018427387904 := ⟨gj.task, by rw [gj.at_]; omega, by rw [gj.at_]; omega⟩
    have hph : ¬ j.ph = 2 := by rw [gj.ph]; omega
    by_cases c : (l[i]).op = 0
    · have t := tick_done now 500 (by omega) (mkT l) (mkT_ok h) (bM z pc) j hat hph hst _ _ good_1 (by simp [mkT, tsOf]) rfl _ _ good_W10 _ l[i] hgo (by simp [goK, c]) (by simp [goK, upK]) h9 h10 (by simp [goK, upK, gj.task])
      refine ⟨false, ?_⟩
      simp only [stM, e, hx, c, if_true]
      exact t
    · have t := tick_go now 500 (by omega) (mkT l) (mkT_ok h) (bM z pc) j hat hph hst _ _ good_1 _ l[i] hgo (by simp [goK, c]) h9 h10
      refine ⟨false, ?_⟩
      simp only [stM, e, hx, c, if_false]
      exact t
theorem goK_G {l : List Inst} {z : Nat} (h : PMk l z) {j : Sj} {i : Nat} (g : Gj l z j i) {x : Inst} (hx : l[i]? = some x) (c : ¬ x.op = 0) (now p : Int) : Gj l z (goK (upK j now p) x) (i + 1) := by
  have hne : ¬ i = z := fun e => c ((h.ends i x hx).2 e)
  have := g.le
  refine ⟨by simp [goK, upK, g.task], by simp [goK, upK, g.at_], by simp [goK, upK, g.ph], ?_, by simp [goK, c], ?_, by omega⟩
  · simp [goK, upK, c, g.pc]
  · simp only [goK, upK, lmk, hx, Option.map_some, Option.some.injEq]
    split
    · rw [g.pc]; omega
    · exact g.kpc
theorem stM_G {l : List Inst} {z : Nat} (h : PMk l z) (pc : Nat) (now : Int) (s : Mst) (g : Gs l z s) : Gs l z (stM l z pc now s).1 := by
  obtain ⟨jo, jn⟩ := s
  cases jo with
  | none => exact ⟨fun j hj => by simp [stM] at hj⟩
  | some j =>
    obtain ⟨hjn, i, gj⟩ := g.job j rfl
    have hi : i < l.length := by have := h.len; have := gj.le; omega
    have hx : l[i]? = some l[i] := List.getElem?_eq_getElem hi
    have e : j.pc.toNat = i := by rw [gj.pc]; omega
    by_cases c : (l[i]).op = 0
    · simp only [stM, e, hx, c, if_true]
      exact ⟨fun j' hj => by simp at hj⟩
    · simp only [stM, e, hx, c, if_false]
      refine ⟨fun j' hj => ?_⟩
      simp only [Option.some.injEq] at hj
      subst hj
      exact ⟨rfl, i + 1, goK_G h gj hx c now _⟩
/-- So many ticks. -/
def itM (l : List Inst) (z pc : Nat) (n0 : Int) (s : Mst) : Nat → Mst
  | 0 => s
  | n + 1 => (stM l z pc (n0 + n) (itM l z pc n0 s n)).1
def itE (l : List Inst) (z pc : Nat) (n0 : Int) (s : Mst) (n : Nat) : List D := (stM l z pc (n0 + n) (itM l z pc n0 s n)).2
theorem itM_G {l : List Inst} {z : Nat} (h : PMk l z) (pc : Nat) (n0 : Int) (s : Mst) (g : Gs l z s) : ∀ n, Gs l z (itM l z pc n0 s n)
  | 0 => g
  | n + 1 => stM_G h pc _ _ (itM_G h pc n0 s g n)
theorem itE_len (l : List Inst) (z pc : Nat) (n0 : Int) (s : Mst) (n : Nat) : (itE l z pc n0 s n).length ≤ 2 := by
  unfold itE stM
  split
  · simp
  · split
    · simp
    · split <;> simp
theorem tick_it {l : List Inst} {z : Nat} (h : PMk l z) (pc : Nat) (n0 : Int) (s : Mst) (g : Gs l z s) (n : Nat) (hn : 0 ≤ n0 ∧ n0 + n < 200) :
    ∃ b, run kp (.datk f_kern_Tick [.agg (kM l z pc (n0 + n) false (itM l z pc n0 s n)).l]) = some (.ds [.agg (kM l z pc (n0 + ((n + 1 : Nat) : Int)) false (itM l z pc n0 s (n + 1))).l, .sl b (itE l z pc n0 s n)]) := by
  have e : n0 + ((n + 1 : Nat) : Int) = n0 + n + 1 := by omega
  rw [e]
  exact tick_M h pc (n0 + n) (by omega) _ (itM_G h pc n0 s g n)
end Go.Cd
namespace Go.Cd
open Go Go.Fw
variable {l : List Inst} {z : Nat}
def nd (e : D) : Prop := ∃ a k n, e = evD a k 0 n ∧ ¬ k = 3
/-- The first that is done is told at just then. -/
def FD (L : List D) (w : Int) : Prop := ∃ A x B, L = A ++ evD w 3 0 x :: B ∧ ∀ e ∈ A, nd e
theorem FD.front {L : List D} {w : Int} (h : FD L w) {A : List D} (hA : ∀ e ∈ A, nd e) : FD (A ++ L) w := by
  obtain ⟨A', x, B, rfl, h⟩ := h
  exact ⟨A ++ A', x, B, by simp, fun e he => by rcases List.mem_append.1 he with he | he; exact hA e he; exact h e he⟩
theorem FD.back {L : List D} {w : Int} (h : FD L w) (B : List D) : FD (L ++ B) w := by
  obtain ⟨A', x, B', rfl, h⟩ := h
  exact ⟨A', x, B' ++ B, by simp, h⟩
theorem lmk_lmk (l : List Inst) : ∀ i, lmk l (lmk l i) = lmk l i
  | 0 => rfl
  | i + 1 => by
    by_cases c : (l[i]?.map Inst.op) = some 11
    · have e : lmk l (i + 1) = i + 1 := by simp only [lmk, c, if_true]
      rw [e, e]
    · have e : lmk l (i + 1) = lmk l i := by simp only [lmk, c, if_false]
      rw [e]
      exact lmk_lmk l i
/-- It goes on. -/
theorem it_go (h : PMk l z) (pc : Nat) (n0 : Int) (j : Sj) (i : Nat) (g : Gj l z j i) : ∀ k, i + k ≤ z → (∃ j', itM l z pc n0 ⟨some j, false⟩ k = ⟨some j', false⟩ ∧ Gj l z j' (i + k)) ∧ (∀ e ∈ catE (itE l z pc n0 ⟨some j, false⟩) k, nd e)
  | 0, _ => ⟨⟨j, rfl, g⟩, fun e he => by simp [catE] at he⟩
  | k + 1, hk => by
    obtain ⟨⟨j', e1, g1⟩, e2⟩ := it_go h pc n0 j i g k (by omega)
    have hi : i + k < l.length := by have := h.len; omega
    have hx : l[i + k]? = some l[i + k] := List.getElem?_eq_getElem hi
    have e : j'.pc.toNat = i + k := by rw [g1.pc]; omega
    have c : ¬ (l[i + k]).op = 0 := fun c => by have := (h.ends _ _ hx).1 c; omega
    have s : stM l z pc (n0 + k) ⟨some j', false⟩ = (⟨some (goK (upK j' (n0 + k) (bM z pc).p) l[i + k]), false⟩, [evD (n0 + k) 2 0 0]) := by
      simp only [stM, e, hx, c, if_false]
    refine ⟨⟨_, ?_, goK_G h g1 hx c (n0 + k) (bM z pc).p⟩, fun y hy => ?_⟩
    · simp only [itM, e1, s]
    · simp only [catE, List.mem_append] at hy
      rcases hy with hy | hy
      · exact e2 y hy
      · simp only [itE, e1, s, List.mem_singleton] at hy
        exact ⟨_, 2, 0, hy, by omega⟩
/-- It comes to its end. -/
theorem it_end (h : PMk l z) (pc : Nat) (n0 : Int) (j : Sj) (i : Nat) (g : Gj l z j i) : itM l z pc n0 ⟨some j, false⟩ (z - i + 1) = ⟨none, false⟩ ∧ FD (catE (itE l z pc n0 ⟨some j, false⟩) (z - i + 1)) (n0 + ((z - i : Nat) : Int)) := by
  have hle := g.le
  obtain ⟨⟨j', e1, g1⟩, e2⟩ := it_go h pc n0 j i g (z - i) (by omega)
  have ez : i + (z - i) = z := by omega
  rw [ez] at g1
  have hi : z < l.length := by have := h.len; omega
  have hx : l[z]? = some l[z] := List.getElem?_eq_getElem hi
  have e : j'.pc.toNat = z := by rw [g1.pc]; omega
  have c : (l[z]).op = 0 := (h.ends _ _ hx).2 rfl
  have s : stM l z pc (n0 + ((z - i : Nat) : Int)) ⟨some j', false⟩ = (⟨none, false⟩, [evD (n0 + ((z - i : Nat) : Int)) 2 0 0, evD (n0 + ((z - i : Nat) : Int)) 3 0 (goK (upK j' (n0 + ((z - i : Nat) : Int)) (bM z pc).p) l[z]).x]) := by
    simp only [stM, e, hx, c, if_true]
  generalize (goK (upK j' (n0 + ((z - i : Nat) : Int)) (bM z pc).p) l[z]).x = xv at s
  refine ⟨by simp only [itM, e1, s], ?_⟩
  simp only [catE, itE, e1, s]
  exact ⟨catE (itE l z pc n0 ⟨some j, false⟩) (z - i) ++ [evD (n0 + ((z - i : Nat) : Int)) 2 0 0], xv, [], by simp, fun y hy => by
    rcases List.mem_append.1 hy with hy | hy
    · exact e2 y hy
    · simp only [List.mem_singleton] at hy; exact ⟨_, 2, 0, hy, by omega⟩⟩
theorem cat_FD (E : Nat → List D) (w : Int) (n : Nat) (h : FD (catE E n) w) : ∀ k, FD (catE E (n + k)) w
  | 0 => h
  | k + 1 => (cat_FD E w n h k).back _
theorem it_none (l : List Inst) (z pc : Nat) (n0 : Int) (s : Mst) (n : Nat) (h : (itM l z pc n0 s n).j = none) : ∀ k, (itM l z pc n0 s (n + k)).j = none
  | 0 => h
  | k + 1 => by
    have ih := it_none l z pc n0 s n h k
    show (stM l z pc _ (itM l z pc n0 s (n + k))).1.j = none
    generalize itM l z pc n0 s (n + k) = s' at *
    obtain ⟨jo, jn⟩ := s'
    simp only at ih
    subst ih
    rfl
/-- What a hit leaves, and what is told of it. -/
def bkM (l : List Inst) (z pc : Nat) (now : Int) (s : Mst) : Mst × List D := match s.j with
  | none => (⟨none, true⟩, [])
  | some j => (⟨some (backK (mkT l) (upK j now (bM z pc).p)), false⟩, [evD now 2 0 0, evD now 6 0 0])
theorem back_G {j : Sj} {i : Nat} (g : Gj l z j i) (now p : Int) : Gj l z (backK (mkT l) (upK j now p)) (lmk l i) := by
  have e : backK (mkT l) (upK j now p) = ⟨j.task, j.at_, j.inn, j.ph, j.kpc, j.kx, false, j.kpc, j.kx, decide (p ≤ now - j.at_) || j.up⟩ := by
    simp [backK, upK, mkT, tsOf]
  rw [e]
  have := lmk_le l i
  have := g.le
  exact ⟨g.task, g.at_, g.ph, g.kpc, rfl, by rw [lmk_lmk]; exact g.kpc, by omega⟩
theorem bk_G (pc : Nat) (now : Int) (s : Mst) (g : Gs l z s) : Gs l z (bkM l z pc now s).1 := by
  obtain ⟨jo, jn⟩ := s
  cases jo with
  | none => exact ⟨fun j hj => by simp [bkM] at hj⟩
  | some j =>
    obtain ⟨_, i, gj⟩ := g.job j rfl
    refine ⟨fun j' hj => ?_⟩
    simp only [bkM, Option.some.injEq] at hj
    subst hj
    exact ⟨rfl, _, back_G gj _ _⟩
theorem tick_bk (h : PMk l z) (pc : Nat) (now : Int) (hn : 0 ≤ now ∧ now < 200) (s : Mst) (g : Gs l z s) :
    ∃ b, run kp (.datk f_kern_Tick [.agg (kM l z pc now true s).l]) = some (.ds [.agg (kM l z pc (now + 1) false (bkM l z pc now s).1).l, .sl b (bkM l z pc now s).2]) := by
  obtain ⟨jo, jn⟩ := s
  cases jo with
  | none => exact ⟨true, tick_none now 500 (by omega) (mkT l) (mkT_ok h) (bM z pc) true jn _ _ good_1⟩
  | some j =>
    obtain ⟨hjn, i, gj⟩ := g.job j rfl
    simp only at hjn
    subst hjn
    have hst : ¬ now - j.at_ = (mkT l).stop := by rw [gj.at_]; show ¬ now - 0 = 200; omega
    have hat : j.task = 0 ∧ -1000 ≤ j.at_ ∧ j.at_ ≤ 4611686018427387904 := ⟨gj.task, by rw [gj.at_]; omega, by rw [gj.at_]; omega⟩
    have hph : ¬ j.ph = 2 := by rw [gj.ph]; omega
    have t := tick_hit now 500 (by omega) (mkT l) (mkT_ok h) (bM z pc) j hat hph hst _ _ good_1
    have b : (backK (mkT l) (upK j now (bM z pc).p)).ph = j.ph := by simp [backK, upK, mkT, tsOf]
    rw [if_pos b] at t
    exact ⟨false, t⟩
def j0M : Sj := ⟨0, 0, 3, 0, 0, 3, false, 0, 3, false⟩
theorem j0_G (h : PMk l z) : Gj l z j0M 0 := ⟨rfl, rfl, rfl, rfl, rfl, rfl, by omega⟩
def s0M : Mst := ⟨some j0M, false⟩
theorem s0_G (h : PMk l z) : Gs l z s0M := ⟨fun j hj => by simp only [s0M, Option.some.injEq] at hj; subst hj; exact ⟨rfl, 0, j0_G h⟩⟩
theorem kM_ok (h : PMk l z) (pc : Nat) (now : Int) (hit : Bool) (s : Mst) (g : Gs l z s) : (kM l z pc now hit s).Ok :=
  k1_ok (mkT_ok h) (fun e => by
    obtain ⟨jo, jn⟩ := s
    cases jo with
    | none => rfl
    | some j => obtain ⟨hj, _⟩ := g.job j rfl; simp only at hj e; rw [hj] at e; cases e) (by obtain ⟨jo, jn⟩ := s; cases jo <;> simp [Mst.jobs]) good_1
theorem rel_M (h : PMk l z) (pc : Nat) (now : Int) (hit : Bool) (s : Mst) (g : Gs l z s) : run kp (.datk f_kern_Release [.agg (kM l z pc now hit s).l, .int .i64 (-1), .int .i64 0]) = some (.ds [.agg (kM l z pc now hit s).l, .sl true [], .int .i64 3]) :=
  rel_no (kM l z pc now hit s) (kM_ok h pc now hit s g) 0 (fun _ => rfl)
/-- The run up to the hit. -/
theorem run_1 (h : PMk l z) (pc t : Nat) (ht : t ≤ 90) :
    run kp (.datk f_trial_Do [.agg (kM l z pc 0 false s0M).l, stD 5 zCl t]) = some (.ds [.agg (kM l z pc t false (itM l z pc 0 s0M t)).l, .sl (catE (itE l z pc 0 s0M) t).isEmpty (catE (itE l z pc 0 s0M) t), rpD 0]) := by
  by_cases c : t = 0
  · subst c
    exact step_run0 _ _ _ _ (rel_M h pc 0 false s0M (s0_G h))
  · have e : ((0 : Int) + (t : Int)) = t := by omega
    have e0 : ((0 : Int) + ((0 : Nat) : Int)) = 0 := by omega
    have r := step_run (fun i => (kM l z pc (0 + (i : Int)) false (itM l z pc 0 s0M i)).l) (itE l z pc 0 s0M) t (by omega) (fun i => by have := itE_len l z pc 0 s0M i; omega) (fun i hi => tick_it h pc 0 s0M (s0_G h) i (by omega)) _ _ _ (rel_M h pc _ false _ (itM_G h pc 0 s0M (s0_G h) t))
    simp only [e, e0] at r
    exact r
theorem hit_M (h : PMk l z) (pc : Nat) (now : Int) (s : Mst) (g : Gs l z s) : run kp (.datk f_trial_Do [.agg (kM l z pc now false s).l, stD 3 zCl 0]) = some (.ds [.agg (kM l z pc now true s).l, .sl true [], rpD 0]) :=
  step_hit (kM l z pc now false s) (kM_ok h pc now false s g) (fun _ => rfl)
def K2 (l : List Inst) (z pc t : Nat) (s : Mst) : Nat → List D
  | 0 => (kM l z pc t true s).l
  | i + 1 => (kM l z pc (((t + 1 : Nat) : Int) + i) false (itM l z pc ((t + 1 : Nat) : Int) (bkM l z pc t s).1 i)).l
def E2 (l : List Inst) (z pc t : Nat) (s : Mst) : Nat → List D
  | 0 => (bkM l z pc t s).2
  | i + 1 => itE l z pc ((t + 1 : Nat) : Int) (bkM l z pc t s).1 i
/-- The run behind it. -/
theorem run_2 (h : PMk l z) (pc t : Nat) (ht : t ≤ 90) (s : Mst) (g : Gs l z s) :
    ∃ s', run kp (.datk f_trial_Do [.agg (kM l z pc t true s).l, stD 5 zCl 100]) = some (.ds [.agg (kM l z pc ((t : Int) + 100) false s').l, .sl (catE (E2 l z pc t s) 100).isEmpty (catE (E2 l z pc t s) 100), rpD 0]) := by
  have g' := bk_G pc t s g
  have e : (((t + 1 : Nat) : Int) + ((99 : Nat) : Int)) = (t : Int) + 100 := by omega
  refine ⟨itM l z pc ((t + 1 : Nat) : Int) (bkM l z pc t s).1 99, ?_⟩
  have r := step_run (K2 l z pc t s) (E2 l z pc t s) 100 (by omega) (fun i => by
    cases i with
    | zero => show ((bkM l z pc t s).2).length ≤ 1000; unfold bkM; split <;> simp
    | succ i => have := itE_len l z pc ((t + 1 : Nat) : Int) (bkM l z pc t s).1 i; simp only [E2]; omega) (fun i hi => by
    cases i with
    | zero =>
      obtain ⟨b, tb⟩ := tick_bk h pc t (by omega) s g
      refine ⟨b, ?_⟩
      have e1 : ((t + 1 : Nat) : Int) + ((0 : Nat) : Int) = (t : Int) + 1 := by omega
      simp only [K2, E2, itM]
      rw [e1]
      exact tb
    | succ i => exact tick_it h pc ((t + 1 : Nat) : Int) _ g' i (by omega)) _ _ _ (rel_M h pc (((t + 1 : Nat) : Int) + ((99 : Nat) : Int)) false _ (itM_G h pc _ _ g' 99))
  simp only [K2] at r
  rw [e] at r
  exact r
theorem cat_E2 (l : List Inst) (z pc t : Nat) (s : Mst) : ∀ n, catE (E2 l z pc t s) (n + 1) = (bkM l z pc t s).2 ++ catE (itE l z pc ((t + 1 : Nat) : Int) (bkM l z pc t s).1) n
  | 0 => by simp [catE, E2]
  | n + 1 => by
    have ih := cat_E2 l z pc t s n
    rw [catE, ih]
    simp [catE, E2]
/-- What is told in all. -/
theorem told_FD (h : PMk l z) (pc t : Nat) (ht : t ≤ 90) : FD ([evD 0 1 0 3] ++ catE (itE l z pc 0 s0M) t ++ catE (E2 l z pc t (itM l z pc 0 s0M t)) 100) (if t ≤ z then (z : Int) + ((t - lmk l t : Nat) : Int) + 1 else (z : Int)) := by
  have hz := h.le
  have h1 : ∀ e ∈ [evD 0 1 0 3], nd e := fun e he => by simp only [List.mem_singleton] at he; exact ⟨_, 1, 3, he, by omega⟩
  rw [List.append_assoc]
  apply FD.front _ h1
  by_cases c : t ≤ z
  · rw [if_pos c]
    obtain ⟨⟨j', e1, g1⟩, e2⟩ := it_go h pc 0 j0M 0 (j0_G h) t (by omega)
    apply FD.front _ e2
    rw [Nat.zero_add] at g1
    have es : itM l z pc 0 s0M t = ⟨some j', false⟩ := e1
    rw [es, cat_E2 l z pc t _ 99]
    have eb : bkM l z pc t ⟨some j', false⟩ = (⟨some (backK (mkT l) (upK j' t (bM z pc).p)), false⟩, [evD t 2 0 0, evD t 6 0 0]) := rfl
    rw [eb]
    apply FD.front _ (fun e he => by
      simp only [List.mem_cons, List.not_mem_nil, or_false] at he
      rcases he with rfl | rfl
      · exact ⟨_, 2, 0, rfl, by omega⟩
      · exact ⟨_, 6, 0, rfl, by omega⟩)
    have gb := back_G g1 (t : Int) (bM z pc).p
    obtain ⟨_, fd⟩ := it_end h pc ((t + 1 : Nat) : Int) _ _ gb
    have lle := lmk_le l t
    have e3 : z - lmk l t + 1 + (99 - (z - lmk l t + 1)) = 99 := by omega
    have fd2 := cat_FD _ _ _ fd (99 - (z - lmk l t + 1))
    rw [e3] at fd2
    have e4 : (z : Int) + ((t - lmk l t : Nat) : Int) + 1 = ((t + 1 : Nat) : Int) + ((z - lmk l t : Nat) : Int) := by omega
    rw [e4]
    exact fd2
  · rw [if_neg c]
    apply FD.back
    obtain ⟨_, fd⟩ := it_end h pc 0 j0M 0 (j0_G h)
    have e3 : z - 0 + 1 + (t - (z + 1)) = t := by omega
    have fd2 := cat_FD _ _ _ fd (t - (z + 1))
    rw [e3] at fd2
    have e4 : (0 : Int) + ((z - 0 : Nat) : Int) = z := by omega
    rw [e4] at fd2
    exact fd2
end Go.Cd
