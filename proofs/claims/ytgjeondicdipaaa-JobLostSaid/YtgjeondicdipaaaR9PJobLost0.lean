/- The law JobLost, as the evaluator has it. No conditions. -/
import Derived.Test.YtgjeondicdipaaaR9QCsR
import Derived.KernelRfl
set_option linter.unusedVariables false
set_option linter.unusedSimpArgs false
namespace Go.Cd
open Go Go.Fw
/-- The state at the head of the law's loop. -/
def jl (inn : Int) (hn : Bool) (H : List D) (T : List D) (all mx : Int) (sp : List D) (wa wp lost : Int) (j : Jb) (ticks n since : Nat) (ex : List (Nat × V)) : St :=
  { env := [(1, .int .i64 inn), (2, .d (.sl hn H)), (7, .ptr 0 []), (8, .ptr 1 []), (10, .ptr (2 + spN sp) []), (12, .int .i64 lost), (13, .ptr (3 + spN sp) []), (14, .int .i64 (ticks : Int)), (15, .int .i64 (n : Int)), (16, .int .i64 (since : Int))] ++ ex,
    hp := [(0, .box (.d (.agg T))), (1, .box (spB' 2 all mx sp))] ++ spH' 2 sp ++ [(2 + spN sp, .box (.d (.agg [.int .i64 wa, .int .i64 wp, .sl true []]))), (3 + spN sp, .box (.d j.d))], tl := fun _ => none, base := 0, next := 4 + spN sp }
def KL : List Nat := [1, 2, 7, 8, 10, 12, 13, 14, 15, 16]
theorem jl_exit (inn : Int) (hn : Bool) (H T : List D) (all mx : Int) (sp : List D) (wa wp lost : Int) (j : Jb) (ho : j.m.over = true) (ticks n since : Nat) :
    run kp (.loop KL k_law19_JobLost_L0 (jl inn hn H T all mx sp wa wp lost j ticks n since [])) = some (.out (.ext 0) (jl inn hn H T all mx sp wa wp lost j ticks n since [(64, .bool false)])) := by
  obtain ⟨task, at_, inn', ph, ⟨pc, mem, rn, reps, over⟩, k, hn', held, up⟩ := j
  simp only at ho
  subst ho
  rw [KL, run_round]
  cases sp <;> simp [c_law19_JobLost_L0, k_law19_JobLost_L0b, jl, spB', spH', spN, Jb.d, Mc.d, mD]
/-- Does the law let it be hit now? -/
def hitNow (H : List D) (n since : Nat) : Prop := ∃ v : Int, H[n]? = some (.int .u8 v) ∧ IntKind.i64.wrap (v.tmod 30) < ((since + 1 : Nat) : Int)
set_option maxRecDepth 10000 in
set_option maxHeartbeats 16000000 in
theorem jl_hit (inn : Int) (hn : Bool) (H T : List D) (all mx : Int) (ha : 0 ≤ all ∧ all ≤ 1000) (sp : List D) (wa wp lost : Int) (hl : 0 ≤ lost ∧ lost ≤ 1000) (j j' : Jb) (ho : j.m.over = false) (ticks n since : Nat) (hn20 : n ≤ 20) (ht : (ticks : Int) ≤ all + n * lost) (hs : since ≤ 100000)
    (hh : hitNow H n since) (b : run kp (.datk f_job_Back [.agg T, j.d]) = some (.ds [j'.d])) :
    run kp (.loop KL k_law19_JobLost_L0 (jl inn hn H T all mx sp wa wp lost j ticks n since [])) = run kp (.loop KL k_law19_JobLost_L0 (jl inn hn H T all mx sp wa wp lost j' (ticks + 1) (n + 1) 0 [])) := by
  obtain ⟨v, hv, hc⟩ := hh
  have n1 := getX hv
  have n2 : (n : Int) < (H.length : Int) := by omega
  have hv2 := get_of hv
  have pl : (n : Int) * lost ≤ 20 * 1000 ∧ 0 ≤ (n : Int) * lost := by
    constructor
    · exact Int.mul_le_mul (by omega) hl.2 hl.1 (by omega)
    · exact Int.mul_nonneg (by omega) hl.1
  have pa : (n : Int) * all ≤ 20 * 1000 ∧ 0 ≤ (n : Int) * all := by
    constructor
    · exact Int.mul_le_mul (by omega) ha.2 ha.1 (by omega)
    · exact Int.mul_nonneg (by omega) ha.1
  have w1 : IntKind.i64.wrap ((ticks : Int) + 1) = ((ticks + 1 : Nat) : Int) := by rw [wrap_i64 (by omega) (by omega)]; omega
  have w2 : IntKind.i64.wrap ((since : Int) + 1) = ((since + 1 : Nat) : Int) := by rw [wrap_i64 (by omega) (by omega)]; omega
  have w3 : IntKind.i64.wrap ((n : Int) + 1) = ((n + 1 : Nat) : Int) := by rw [wrap_i64 (by omega) (by omega)]; omega
  have qL : lost < all → (n : Int) * lost ≤ (n : Int) * all := fun h => Int.mul_le_mul_of_nonneg_left (by omega) (by omega)
  obtain ⟨task, at_, inn', ph, ⟨pc, mem, rn, reps, over⟩, k, hn', held, up⟩ := j
  obtain ⟨task', at', inn'', ph', ⟨pc', mem', rn', reps', over'⟩, k', hn'', held', up'⟩ := j'
  simp only at ho
  subst ho
  rw [KL, run_round]
  by_cases c : lost < all
  · have q := qL c
    generalize hpp : (n : Int) * all = pr at *
    have w4 : IntKind.i64.wrap pr = pr := wrap_i64 (by omega) (by omega)
    have w5 : IntKind.i64.wrap (all + pr) = all + pr := wrap_i64 (by omega) (by omega)
    have w6 : IntKind.i64.wrap (all + pr + n) = all + pr + n := wrap_i64 (by omega) (by omega)
    have w7 : IntKind.i64.wrap (all + pr + n + 1) = all + pr + n + 1 := wrap_i64 (by omega) (by omega)
    have cc : ¬ all + pr + (n : Int) + 1 < ((ticks + 1 : Nat) : Int) := by omega
    generalize n + 1 = n' at *
    generalize ticks + 1 = t' at *
    generalize since + 1 = s' at *
    simp only [Jb.d, Mc.d, mD] at b
    cases sp <;> simp [c_law19_JobLost_L0, k_law19_JobLost_L0b, jl, spB', spH', spN, Jb.d, Mc.d, mD, w1, w2, w3, c, hpp, w4, w5, w6, w7, cc, n1, n2, hv, hv2, hc, b]
  · generalize hpp : (n : Int) * lost = pr at *
    have w4 : IntKind.i64.wrap pr = pr := wrap_i64 (by omega) (by omega)
    have w5 : IntKind.i64.wrap (all + pr) = all + pr := wrap_i64 (by omega) (by omega)
    have w6 : IntKind.i64.wrap (all + pr + n) = all + pr + n := wrap_i64 (by omega) (by omega)
    have w7 : IntKind.i64.wrap (all + pr + n + 1) = all + pr + n + 1 := wrap_i64 (by omega) (by omega)
    have cc : ¬ all + pr + (n : Int) + 1 < ((ticks + 1 : Nat) : Int) := by omega
    generalize n + 1 = n' at *
    generalize ticks + 1 = t' at *
    generalize since + 1 = s' at *
    simp only [Jb.d, Mc.d, mD] at b
    cases sp <;> simp [c_law19_JobLost_L0, k_law19_JobLost_L0b, jl, spB', spH', spN, Jb.d, Mc.d, mD, w1, w2, w3, c, hpp, w4, w5, w6, w7, cc, n1, n2, hv, hv2, hc, b]
set_option maxRecDepth 10000 in
set_option maxHeartbeats 16000000 in
theorem jl_go (inn : Int) (hn : Bool) (H T : List D) (hH : ∀ x ∈ H, ∃ v, x = .int .u8 v ∧ 0 ≤ v ∧ v < 256) (all mx : Int) (ha : 0 ≤ all ∧ all ≤ 1000) (sp : List D) (wa wp lost : Int) (hl : 0 ≤ lost ∧ lost ≤ 1000) (j j' : Jb) (i : Inst) (ho : j.m.over = false) (ticks n since : Nat) (hn20 : n ≤ 20) (ht : (ticks : Int) ≤ all + n * lost) (hs : since ≤ 100000)
    (hh : ¬ hitNow H n since) (g : run kp (.datk f_job_Go [.agg T, j.d]) = some (.ds [j'.d, i.d, .bool true])) :
    run kp (.loop KL k_law19_JobLost_L0 (jl inn hn H T all mx sp wa wp lost j ticks n since [])) = run kp (.loop KL k_law19_JobLost_L0 (jl inn hn H T all mx sp wa wp lost j' (ticks + 1) n (since + 1) [])) := by
  have pl : (n : Int) * lost ≤ 20 * 1000 ∧ 0 ≤ (n : Int) * lost := by
    constructor
    · exact Int.mul_le_mul (by omega) hl.2 hl.1 (by omega)
    · exact Int.mul_nonneg (by omega) hl.1
  have pa : (n : Int) * all ≤ 20 * 1000 ∧ 0 ≤ (n : Int) * all := by
    constructor
    · exact Int.mul_le_mul (by omega) ha.2 ha.1 (by omega)
    · exact Int.mul_nonneg (by omega) ha.1
  have w1 : IntKind.i64.wrap ((ticks : Int) + 1) = ((ticks + 1 : Nat) : Int) := by rw [wrap_i64 (by omega) (by omega)]; omega
  have w2 : IntKind.i64.wrap ((since : Int) + 1) = ((since + 1 : Nat) : Int) := by rw [wrap_i64 (by omega) (by omega)]; omega
  have qL : lost < all → (n : Int) * lost ≤ (n : Int) * all := fun h => Int.mul_le_mul_of_nonneg_left (by omega) (by omega)
  have hno : ((n : Int) < (H.length : Int) ∧ ∃ v : Int, H[n]? = some (.int .u8 v) ∧ (∀ hh : n < H.length, H[n] = .int .u8 v) ∧ n < H.length ∧ ¬ IntKind.i64.wrap (v.tmod 30) < ((since + 1 : Nat) : Int)) ∨ ¬ (n : Int) < (H.length : Int) := by
    by_cases k : n < H.length
    · left
      have hx := List.getElem?_eq_getElem k
      obtain ⟨v, hv, _⟩ := hH _ (List.getElem_mem k)
      rw [hv] at hx
      exact ⟨by omega, v, hx, get_of hx, k, fun c => hh ⟨v, hx, c⟩⟩
    · right; omega
  obtain ⟨task, at_, inn', ph, ⟨pc, mem, rn, reps, over⟩, k, hn', held, up⟩ := j
  obtain ⟨task', at', inn'', ph', ⟨pc', mem', rn', reps', over'⟩, k', hn'', held', up'⟩ := j'
  simp only at ho
  subst ho
  rw [KL, run_round]
  simp only [Jb.d, Mc.d, mD, Inst.d] at g
  by_cases c : lost < all
  · have q := qL c
    generalize hpp : (n : Int) * all = pr at *
    have w4 : IntKind.i64.wrap pr = pr := wrap_i64 (by omega) (by omega)
    have w5 : IntKind.i64.wrap (all + pr) = all + pr := wrap_i64 (by omega) (by omega)
    have w6 : IntKind.i64.wrap (all + pr + n) = all + pr + n := wrap_i64 (by omega) (by omega)
    have w7 : IntKind.i64.wrap (all + pr + n + 1) = all + pr + n + 1 := wrap_i64 (by omega) (by omega)
    have cc : ¬ all + pr + (n : Int) + 1 < ((ticks + 1 : Nat) : Int) := by omega
    generalize ticks + 1 = t' at *
    generalize since + 1 = s' at *
    rcases hno with ⟨n2, v, hv, hv2, n1, hc⟩ | n2
    · cases sp <;> simp [c_law19_JobLost_L0, k_law19_JobLost_L0b, jl, spB', spH', spN, Jb.d, Mc.d, mD, w1, w2, c, hpp, w4, w5, w6, w7, cc, n1, n2, hv, hv2, hc, g]
    · cases sp <;> simp [c_law19_JobLost_L0, k_law19_JobLost_L0b, jl, spB', spH', spN, Jb.d, Mc.d, mD, w1, w2, c, hpp, w4, w5, w6, w7, cc, n2, g]
  · generalize hpp : (n : Int) * lost = pr at *
    have w4 : IntKind.i64.wrap pr = pr := wrap_i64 (by omega) (by omega)
    have w5 : IntKind.i64.wrap (all + pr) = all + pr := wrap_i64 (by omega) (by omega)
    have w6 : IntKind.i64.wrap (all + pr + n) = all + pr + n := wrap_i64 (by omega) (by omega)
    have w7 : IntKind.i64.wrap (all + pr + n + 1) = all + pr + n + 1 := wrap_i64 (by omega) (by omega)
    have cc : ¬ all + pr + (n : Int) + 1 < ((ticks + 1 : Nat) : Int) := by omega
    generalize ticks + 1 = t' at *
    generalize since + 1 = s' at *
    rcases hno with ⟨n2, v, hv, hv2, n1, hc⟩ | n2
    · cases sp <;> simp [c_law19_JobLost_L0, k_law19_JobLost_L0b, jl, spB', spH', spN, Jb.d, Mc.d, mD, w1, w2, c, hpp, w4, w5, w6, w7, cc, n1, n2, hv, hv2, hc, g]
    · cases sp <;> simp [c_law19_JobLost_L0, k_law19_JobLost_L0b, jl, spB', spH', spN, Jb.d, Mc.d, mD, w1, w2, c, hpp, w4, w5, w6, w7, cc, n2, g]
/-! What holds of the job on its way -/
structure JFit (c : Nat) (j : Jb) : Prop where
  m : McFit c j.m
  k : McFit c j.k
  hn : j.hn = true → j.held = []
  len : j.held.length ≤ c
theorem JFit.ok {c : Nat} {j : Jb} (h : JFit c j) (hc : c ≤ 90000) : j.Ok :=
  ⟨⟨h.m.mem, h.m.rn, by have := h.m.len; omega, h.m.left⟩, ⟨h.k.mem, h.k.rn, by have := h.k.len; omega, h.k.left⟩, h.hn, by have := h.len; omega⟩
theorem McFit.more {c : Nat} {m : Mc} (h : McFit c m) : McFit (c + 1) m := ⟨h.mem, h.rn, by have := h.len; omega, h.left⟩
theorem JFit.go {c : Nat} {j : Jb} (h : JFit c j) (hc : c ≤ 80000) (t : Tsk) (ht : t.Ok) (i : Inst) (hg : CanGo (codeOf t j.phase).l j.m i) : ∃ rn', GoD t j i rn' ∧ JFit (c + 1) (goJ j (nextM j.m i rn') i) := by
  have h1 := h.m.len
  have h2 := h.len
  obtain ⟨rn', g⟩ := go_on t ht j (h.ok (by omega)) (by omega) i hg
  have hl := heldF_len j.held i
  have gl := g.len
  have mo : McFit (c + 1) (nextM j.m i rn') := ⟨g.mem, g.nil, by omega, g.left⟩
  refine ⟨rn', g, ⟨mo, ?_, ?_, ?_⟩⟩
  · unfold goJ; simp only
    split
    · exact mo
    · exact h.k.more
  · unfold goJ; simp only
    split
    · intro k; cases k
    · intro k
      rename_i h9
      have := h.hn k
      unfold heldF
      rw [if_neg h9, this]
      split <;> rfl
  · simp only [goJ]; omega
theorem Tr.pos {l : List Inst} {P k p : Nat} {m : Mc} {h : List Int} (t : Tr l P k p m h) (ho : m.over = false) : 1 ≤ k ∧ 1 ≤ p ∧ ∃ i, CanGo l m i := by
  cases t with
  | done h1 => rw [ho] at h1; cases h1
  | step h1 _ _ _ => exact ⟨by omega, by omega, _, h1⟩
  | mark h1 _ _ => exact ⟨by omega, by omega, _, h1⟩
/-- A job on its way through a program: how far it may still be, what it comes to. -/
structure JInv (t : Tsk) (ph : Int) (L : List Inst) (P : Nat) (v all lost : Int) (j : Jb) (ticks n : Nat) : Prop where
  fit : JFit ticks j
  ph : j.phase = ph
  ex : ∃ k d p, Tr L P k p (er j.m) j.held ∧ Tr L P (k + d) P (er j.k) [] ∧ p + d = P ∧ (ticks : Int) + k ≤ all + n * lost
  vm : EndsAt L (er j.m) v
  vk : EndsAt L (er j.k) v
theorem JInv.go {t : Tsk} {ph : Int} {L : List Inst} {P : Nat} {v all lost : Int} {j : Jb} {ticks n : Nat} (h : JInv t ph L P v all lost j ticks n) (ht : t.Ok) (hc : ticks ≤ 80000) (hL : (codeOf t ph).l = L) (ho : j.m.over = false) :
    ∃ (j' : Jb) (i : Inst), run kp (.datk f_job_Go [t.d, j.d]) = some (.ds [j'.d, i.d, .bool true]) ∧ JInv t ph L P v all lost j' (ticks + 1) n := by
  obtain ⟨k, d, p, tm, tk, hp, hk⟩ := h.ex
  have hd := h.ph
  generalize hh : j.held = held at tm
  generalize hm : er j.m = m at tm
  cases tm with
  | done h1 => subst hm; have : j.m.over = true := h1; rw [ho] at this; cases this
  | @step k' p' _ _ i h1 h2 h3 h4 =>
    subst hm hh
    have hg : CanGo (codeOf t j.phase).l j.m i := by rw [hd, hL]; exact h1.same rfl rfl
    obtain ⟨rn, g, f⟩ := h.fit.go hc t ht i hg
    refine ⟨goJ j (nextM j.m i rn) i, i, g.go, ⟨f, hd, ⟨k', d + 1, p', ?_, ?_, by omega, by omega⟩, ?_, ?_⟩⟩
    · exact h4
    · have e : (goJ j (nextM j.m i rn) i).k = j.k := by simp [goJ, h2]
      rw [e]
      rw [show k' + (d + 1) = k' + 1 + d by omega]
      exact tk
    · exact h.vm.next h1
    · have e : (goJ j (nextM j.m i rn) i).k = j.k := by simp [goJ, h2]
      rw [e]; exact h.vk
  | @mark k' p' _ i h1 h2 h3 =>
    subst hm
    have hg : CanGo (codeOf t j.phase).l j.m i := by rw [hd, hL]; exact h1.same rfl rfl
    obtain ⟨rn, g, f⟩ := h.fit.go hc t ht i hg
    have e : (goJ j (nextM j.m i rn) i).k = nextM j.m i rn := by simp [goJ, h2]
    have eh : (goJ j (nextM j.m i rn) i).held = [] := by
      simp only [goJ]
      rw [heldF_same (by omega) (by omega), hh]
    refine ⟨goJ j (nextM j.m i rn) i, i, g.go, ⟨f, hd, ⟨k', 0, P, ?_, ?_, by omega, by omega⟩, ?_, ?_⟩⟩
    · rw [eh]; exact h3
    · rw [e]; exact h3
    · exact h.vm.next h1
    · rw [e]; exact h.vm.next h1
theorem JInv.back {t : Tsk} {ph : Int} {L : List Inst} {P : Nat} {v all lost : Int} {j : Jb} {ticks n : Nat} (h : JInv t ph L P v all lost j ticks n) (hP : (P : Int) ≤ lost) (hb : ¬ (ph = 0 ∧ 0 < t.way.l.length)) (ho : j.m.over = false) :
    JInv t ph L P v all lost (backF t j) (ticks + 1) (n + 1) := by
  obtain ⟨k, d, p, tm, tk, hp, hk⟩ := h.ex
  have hd := h.ph
  have e : backF t j = ⟨j.task, j.at_, j.inn, j.phase, j.k, j.k, true, [], j.up⟩ := by
    unfold backF
    rw [if_neg (by rw [hd]; exact hb)]
  have hp1 : 1 ≤ p := (tm.pos ho).2.1
  rw [e]
  have el : ((n + 1 : Nat) : Int) * lost = (n : Int) * lost + lost := by
    rw [Int.natCast_add, Int.add_mul, Int.natCast_one, Int.one_mul]
  refine ⟨⟨h.fit.k.more, h.fit.k.more, fun _ => rfl, by simp⟩, hd, ⟨k + d, 0, P, tk, tk, by omega, ?_⟩, h.vk, h.vk⟩
  rw [el]
  omega
theorem JInv.tick {t : Tsk} {ph : Int} {L : List Inst} {P : Nat} {v all lost : Int} {j : Jb} {ticks n : Nat} (h : JInv t ph L P v all lost j ticks n) : (ticks : Int) ≤ all + n * lost := by
  obtain ⟨k, d, p, tm, tk, hp, hk⟩ := h.ex
  omega
theorem JInv.over {t : Tsk} {ph : Int} {L : List Inst} {P : Nat} {v all lost : Int} {j : Jb} {ticks n : Nat} (h : JInv t ph L P v all lost j ticks n) (ho : j.m.over = true) : mem0 j.m = v ∧ j.held = [] := by
  obtain ⟨k, d, p, tm, tk, hp, hk⟩ := h.ex
  refine ⟨(h.vm.over ho).symm, ?_⟩
  generalize hh : j.held = held at tm
  generalize hm : er j.m = m at tm
  cases tm with
  | done h1 => rfl
  | step h1 _ _ _ => subst hm; have : j.m.over = false := h1.on; rw [ho] at this; cases this
  | mark h1 _ _ => rfl
theorem stop_or (H : List D) (hlen : H.length ≤ 20) (n since : Nat) : hitNow H n since → n < H.length := fun ⟨v, hv, _⟩ => getX hv
/-- Through a program, with any hits, from which it does not turn. -/
theorem jl_run (inn : Int) (hn : Bool) (H : List D) (hH : ∀ x ∈ H, ∃ v, x = .int .u8 v ∧ 0 ≤ v ∧ v < 256) (hlen : H.length ≤ 20) (t : Tsk) (ht : t.Ok) (T : List D) (hT : t.d = .agg T) (all mx : Int) (ha : 0 ≤ all ∧ all ≤ 1000) (sp : List D) (wa wp lost : Int) (hl : 0 ≤ lost ∧ lost ≤ 1000)
    (ph : Int) (L : List Inst) (P : Nat) (v : Int) (hP : (P : Int) ≤ lost) (hL : (codeOf t ph).l = L) (hb : ¬ (ph = 0 ∧ 0 < t.way.l.length)) : ∀ (F : Nat) (j : Jb) (ticks n since : Nat), JInv t ph L P v all lost j ticks n → n ≤ H.length → since ≤ ticks → ticks + F = 30000 →
    ∃ (j' : Jb) (ticks' n' since' : Nat), run kp (.loop KL k_law19_JobLost_L0 (jl inn hn H T all mx sp wa wp lost j ticks n since [])) = run kp (.loop KL k_law19_JobLost_L0 (jl inn hn H T all mx sp wa wp lost j' ticks' n' since' [])) ∧ j'.m.over = true ∧ JInv t ph L P v all lost j' ticks' n' ∧ n ≤ n' ∧ n' ≤ 20
  | 0, j, ticks, n, since, h, hn', hs, hF => by
    have := h.tick
    have : (n : Int) * lost ≤ 20 * 1000 := Int.mul_le_mul (by omega) hl.2 hl.1 (by omega)
    omega
  | F + 1, j, ticks, n, since, h, hn', hs, hF => by
    by_cases ho : j.m.over = true
    · exact ⟨j, ticks, n, since, rfl, ho, h, Nat.le_refl _, by omega⟩
    · have ho' : j.m.over = false := by simpa using ho
      have htk := h.tick
      by_cases hh : hitNow H n since
      · have b := job_Back t j (h.fit.ok (by omega))
        rw [hT] at b
        have h' := h.back hP hb ho'
        have n1 := stop_or H hlen n since hh
        obtain ⟨j', t', n', s', e, o, i, l1, l2⟩ := jl_run inn hn H hH hlen t ht T hT all mx ha sp wa wp lost hl ph L P v hP hL hb F (backF t j) (ticks + 1) (n + 1) 0 h' (by omega) (by omega) (by omega)
        exact ⟨j', t', n', s', by rw [jl_hit inn hn H T all mx ha sp wa wp lost hl j (backF t j) ho' ticks n since (by omega) htk (by omega) hh b, e], o, i, by omega, l2⟩
      · obtain ⟨j1, i1, g, h'⟩ := h.go ht (by omega) hL ho'
        rw [hT] at g
        obtain ⟨j', t', n', s', e, o, i, l1, l2⟩ := jl_run inn hn H hH hlen t ht T hT all mx ha sp wa wp lost hl ph L P v hP hL hb F j1 (ticks + 1) n (since + 1) h' hn' (by omega) (by omega)
        exact ⟨j', t', n', s', by rw [jl_go inn hn H T hH all mx ha sp wa wp lost hl j j1 i1 ho' ticks n since (by omega) htk (by omega) hh g, e], o, i, l1, l2⟩
/-- A program with another way: not hit so far. -/
theorem jl_way (inn : Int) (hn : Bool) (H : List D) (hH : ∀ x ∈ H, ∃ v, x = .int .u8 v ∧ 0 ≤ v ∧ v < 256) (hlen : H.length ≤ 20) (t : Tsk) (ht : t.Ok) (T : List D) (hT : t.d = .agg T) (all mx : Int) (ha : 0 ≤ all ∧ all ≤ 1000) (sp : List D) (wa wp lost : Int) (hl : 0 ≤ lost ∧ lost ≤ 1000) (hin : i64b inn)
    (L : List Inst) (P : Nat) (v : Int) (hL : t.main.l = L) (hb : 0 < t.way.l.length) (vw : Int) (hw : Tr t.way.l lost.toNat lost.toNat lost.toNat (er (newM inn)) []) (hvw : EndsAt t.way.l (er (newM inn)) vw) : ∀ (F : Nat) (j : Jb) (ticks since : Nat), JInv t 0 L P v all lost j ticks 0 → j.inn = inn → since ≤ ticks → ticks + F = 20000 →
    ∃ (j' : Jb) (ticks' n' since' : Nat), run kp (.loop KL k_law19_JobLost_L0 (jl inn hn H T all mx sp wa wp lost j ticks 0 since [])) = run kp (.loop KL k_law19_JobLost_L0 (jl inn hn H T all mx sp wa wp lost j' ticks' n' since' [])) ∧ j'.m.over = true ∧ n' ≤ 20 ∧
      ((n' = 0 ∧ JInv t 0 L P v all lost j' ticks' n') ∨ (0 < n' ∧ JInv t 1 t.way.l lost.toNat vw all lost j' ticks' n'))
  | 0, j, ticks, since, h, _, hs, hF => by
    have := h.tick
    simp at this
    omega
  | F + 1, j, ticks, since, h, hi, hs, hF => by
    by_cases ho : j.m.over = true
    · exact ⟨j, ticks, 0, since, rfl, ho, by omega, .inl ⟨rfl, h⟩⟩
    · have ho' : j.m.over = false := by simpa using ho
      have htk := h.tick
      by_cases hh : hitNow H 0 since
      · have b := job_Back t j (h.fit.ok (by omega))
        rw [hT] at b
        have n1 := stop_or H hlen 0 since hh
        have e : backF t j = ⟨j.task, j.at_, j.inn, 1, newM j.inn, newM j.inn, true, [], j.up⟩ := by
          unfold backF
          rw [if_pos ⟨h.ph, hb⟩]
        have nf : McFit (ticks + 1) (newM inn) := by
          have := newM_fit inn hin
          exact ⟨this.mem, this.rn, by have := this.len; omega, this.left⟩
        obtain ⟨k, d, p, tm, tk, hp, hk⟩ := h.ex
        have hk1 : 1 ≤ k := (tm.pos ho').1
        have i' : JInv t 1 t.way.l lost.toNat vw all lost (backF t j) (ticks + 1) 1 := by
          rw [e, hi]
          refine ⟨⟨nf, nf, fun _ => rfl, by simp⟩, rfl, ⟨lost.toNat, 0, lost.toNat, ?_, ?_, by omega, ?_⟩, hvw, hvw⟩
          · exact hw
          · exact hw
          · simp only [Int.natCast_zero, Int.zero_mul, Int.add_zero] at hk
            have : ((1 : Nat) : Int) * lost = lost := by simp
            rw [this]; omega
        obtain ⟨j', t', n', s', q, o, i, l1, l2⟩ := jl_run inn hn H hH hlen t ht T hT all mx ha sp wa wp lost hl 1 t.way.l lost.toNat vw (by omega) (by simp [codeOf]) (by omega) (30000 - (ticks + 1)) (backF t j) (ticks + 1) 1 0 i' (by omega) (by omega) (by omega)
        exact ⟨j', t', n', s', by rw [jl_hit inn hn H T all mx ha sp wa wp lost hl j (backF t j) ho' ticks 0 since (by omega) htk (by omega) hh b, q], o, l2, .inr ⟨by omega, i⟩⟩
      · obtain ⟨j1, i1, g, h'⟩ := h.go ht (by omega) (by simpa [codeOf] using hL) ho'
        have hi1 : j1.inn = inn := by
          have g2 := g
          obtain ⟨k, d, p, tm, tk, hp, hk⟩ := h.ex
          obtain ⟨i, h1⟩ := (tm.pos ho').2.2
          have hg : CanGo (codeOf t j.phase).l j.m i := by rw [h.ph]; simp only [codeOf, if_true]; rw [hL]; exact h1.same rfl rfl
          obtain ⟨rn, gg, _⟩ := h.fit.go (by omega) t ht i hg
          rw [gg.go] at g
          injection g with g; injection g with g; injection g with g _
          simp only [Jb.d, D.agg.injEq, List.cons.injEq, D.int.injEq] at g
          simp only [goJ] at g
          rw [← hi]; exact g.2.2.1.2.symm
        rw [hT] at g
        obtain ⟨j', t', n', s', e, o, i, l1⟩ := jl_way inn hn H hH hlen t ht T hT all mx ha sp wa wp lost hl hin L P v hL hb vw hw hvw F j1 (ticks + 1) (since + 1) h' hi1 (by omega) (by omega)
        exact ⟨j', t', n', s', by rw [jl_go inn hn H T hH all mx ha sp wa wp lost hl j j1 i1 ho' ticks 0 since (by omega) htk (by omega) hh g, e], o, i, l1⟩
end Go.Cd
