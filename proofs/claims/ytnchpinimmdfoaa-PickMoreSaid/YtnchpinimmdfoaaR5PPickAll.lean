/- The law PickAll, as the evaluator has it. No conditions. -/
import Derived.Test.YtnchpinimmdfoaaR5QPickS
set_option linter.unusedVariables false
set_option linter.unusedSimpArgs false
namespace Go.Cd
open Go Go.Fw
def okJ (j : Job) : Prop := ¬ (6 < j.held.length ∨ 1099511627776 < j.task ∨ j.task < 0)
instance (j : Job) : Decidable (okJ j) := inferInstanceAs (Decidable (¬ (6 < j.held.length ∨ 1099511627776 < j.task ∨ j.task < 0)))
def paSt (nl ns nw : Bool) (l : List T3) (s : List T2) (w : List Job) (n : Int) (ex : List (Nat × V)) (i : Int) : St :=
  { env := [(0, .asl nl (l.map T3.d)), (1, .asl ns (s.map T2.d)), (2, .asl nw (w.map Job.d)), (3, .int .u8 n), (9, .int .i64 i)] ++ ex, hp := [], tl := fun _ => none, base := 0, next := 0 }
set_option maxHeartbeats 4000000 in
theorem pa_loop (nl ns nw : Bool) (l : List T3) (s : List T2) (w : List Job) (hl : w.length ≤ 1000) (n : Int) : ∀ (rest pre : List Job), w = pre ++ rest → ∀ (i : Int), i = pre.length →
    ((∀ j ∈ rest, okJ j) ∧ run kp (.loop [0, 1, 2, 3, 9] k_law21_PickAll_L0 (paSt nl ns nw l s w n [] i)) = some (.out (.ext 0) (paSt nl ns nw l s w n [(28, .bool false)] w.length))) ∨
    (∃ j, run kp (.loop [0, 1, 2, 3, 9] k_law21_PickAll_L0 (paSt nl ns nw l s w n [] i)) = some (.out .ret (paSt nl ns nw l s w n [(28, .bool true), (53, .bool true), (8, .bool true)] j)))
  | [], pre, h, i, hi => by
    simp at h
    subst h hi
    refine .inl ⟨by simp, ?_⟩
    rw [run_round]
    simp [c_law21_PickAll_L0, k_law21_PickAll_L0b, paSt]
  | j :: rest, pre, h, i, hi => by
    have hli : i < w.length := by rw [h, hi]; simp; omega
    have h0 : 0 ≤ i := by omega
    have hget0 : w[i.toNat]? = some j := by rw [h, hi]; simp
    have hget : ∀ hh : i.toNat < w.length, w[i.toNat] = j := fun hh => by rw [List.getElem?_eq_getElem hh] at hget0; injection hget0
    have hw : IntKind.i64.wrap (i + 1) = i + 1 := wrap_i64 (by omega) (by omega)
    by_cases hok : okJ j
    · have step : run kp (.loop [0, 1, 2, 3, 9] k_law21_PickAll_L0 (paSt nl ns nw l s w n [] i)) = run kp (.loop [0, 1, 2, 3, 9] k_law21_PickAll_L0 (paSt nl ns nw l s w n [] (i + 1))) := by
        unfold okJ at hok
        simp only [not_or] at hok
        obtain ⟨k1, k2, k3⟩ := hok
        have k1' : ¬ (6 : Int) < j.held.length := by omega
        rw [run_round]
        simp [-Job.fold, Job.d, c_law21_PickAll_L0, k_law21_PickAll_L0b, paSt, h0, hli, hget, hw, k1', k2, k3]
      rw [step]
      rcases pa_loop nl ns nw l s w hl n rest (pre ++ [j]) (by simp [h]) (i + 1) (by simp [hi]) with ⟨a, b⟩ | ⟨k, b⟩
      · exact .inl ⟨fun x hx => by
          rcases List.mem_cons.1 hx with rfl | hx
          · exact hok
          · exact a x hx, b⟩
      · exact .inr ⟨k, b⟩
    · refine .inr ⟨i, ?_⟩
      rw [run_round]
      by_cases k1 : (6 : Int) < j.held.length
      · simp [-Job.fold, Job.d, c_law21_PickAll_L0, k_law21_PickAll_L0b, paSt, h0, hli, hget, hw, k1]
      · by_cases k2 : 1099511627776 < j.task
        · simp [-Job.fold, Job.d, c_law21_PickAll_L0, k_law21_PickAll_L0b, paSt, h0, hli, hget, hw, k1, k2]
        · have k3 : j.task < 0 := by
            unfold okJ at hok
            have := Decidable.not_not.1 hok
            omega
          simp [-Job.fold, Job.d, c_law21_PickAll_L0, k_law21_PickAll_L0b, paSt, h0, hli, hget, hw, k1, k2, k3]
theorem has_t3 {x : D} (h : Sh.has (.ar 3 (.i .u8)) x) : ∃ t : T3, x = t.d ∧ True := by
  obtain ⟨l, rfl, h1, h2⟩ := has_ar h
  obtain ⟨m, rfl, hm⟩ := all_typed (f := D.int .u8) (fun y hy => has_int hy) l h2
  match m, h1, hm with
  | [a, b, c], _, _ => exact ⟨⟨a, b, c⟩, rfl, trivial⟩
theorem has_t2 {x : D} (h : Sh.has (.ar 2 (.i .u8)) x) : ∃ t : T2, x = t.d ∧ True := by
  obtain ⟨l, rfl, h1, h2⟩ := has_ar h
  obtain ⟨m, rfl, hm⟩ := all_typed (f := D.int .u8) (fun y hy => has_int hy) l h2
  match m, h1, hm with
  | [a, b], _, _ => exact ⟨⟨a, b⟩, rfl, trivial⟩
theorem small_max {n : Nat} (h : n ≤ 1000) : n ≤ maxLen := Nat.le_trans h (by decide)
theorem made_ok {js : List Job} (h : Made js) : ∀ j ∈ js, j.held.length ≤ maxLen ∧ 0 ≤ j.task := by
  intro j hj
  obtain ⟨k, hk⟩ := List.getElem?_of_mem hj
  obtain ⟨h1, h2⟩ := h k j hk
  exact ⟨small_max (by omega), by omega⟩
set_option maxHeartbeats 8000000 in
theorem law_PickAll (xs : List D) (h : Sh.hasL [.sl (.ar 3 (.i .u8)), .sl (.ar 2 (.i .u8)), .sl jobSh, .i .u8] xs) : run kp (.data f_law21_PickAll xs) = some (.ds [.bool true]) := by
  obtain ⟨x1, _, rfl, h1, h⟩ := hasL_cons h
  obtain ⟨x2, _, rfl, h2, h⟩ := hasL_cons h
  obtain ⟨x3, _, rfl, h3, h⟩ := hasL_cons h
  obtain ⟨x4, _, rfl, h4, h⟩ := hasL_cons h
  obtain rfl := hasL_nil h
  obtain ⟨nl, l, rfl, _, _, k1⟩ := has_sl h1
  obtain ⟨l, rfl, _⟩ := all_typed (f := T3.d) (fun y hy => has_t3 hy) l k1
  obtain ⟨ns, s, rfl, _, _, k2⟩ := has_sl h2
  obtain ⟨s, rfl, _⟩ := all_typed (f := T2.d) (fun y hy => has_t2 hy) s k2
  obtain ⟨nw, w, rfl, _, _, k3⟩ := has_sl h3
  obtain ⟨w, rfl, hw⟩ := all_typed (f := Job.d) (p := fun j => j.held.length ≤ maxLen) (fun y hy => by
    obtain ⟨j, rfl, _, _, k, _⟩ := has_job hy
    exact ⟨j, rfl, k⟩) w k3
  obtain ⟨n, rfl, _⟩ := has_int h4
  rw [run_data, run_call, kp_law21_PickAll]
  by_cases c1 : 8 < w.length
  · have a1 : (8 : Int) < w.length := by omega
    simp [k_law21_PickAll, pick_begun, a1]
  · have a1 : ¬ (8 : Int) < w.length := by omega
    rcases pa_loop nl ns nw l s w (by omega) n w [] rfl 0 rfl with ⟨hok, e⟩ | ⟨j, e⟩
    · obtain ⟨js, ss, m1, m2, m3, em⟩ := law21_made nl ns l s
      have hwo : ∀ j ∈ w, j.held.length ≤ maxLen ∧ 0 ≤ j.task := fun j hj => by
        have := hok j hj
        unfold okJ at this
        exact ⟨hw j hj, by omega⟩
      have mo := made_ok m1
      have p1 := pick_Next js.length ss.isEmpty js.isEmpty ss js (by omega) (fun j hj => (mo j hj).1)
      have p2 := ref19_Next js.length ss.isEmpty js.isEmpty ss js (by omega) mo
      have p3 := fun m => pick_Next m ss.isEmpty nw ss w (by omega) (fun j hj => (hwo j hj).1)
      have p4 := fun m => ref19_Next m ss.isEmpty nw ss w (by omega) hwo
      have hje : js.isEmpty = (js.map Job.d).isEmpty := by simp
      have hse : ss.isEmpty = (ss.map Sema.d).isEmpty := by simp
      have hjl : js.length = (js.map Job.d).length := by simp
      generalize fmL (plsOf js.length ss js) = f1 at *
      generalize (fun m : Int => fmL (plsOf m ss w)) = f2 at *
      rw [hje, hse] at em
      rw [hje, hse, hjl] at p1 p2
      rw [hse] at p3 p4
      clear hje hse hjl mo m1 m2 m3
      generalize js.map Job.d = jd at *
      generalize ss.map Sema.d = sd at *
      simp [paSt] at e
      cases jd <;> cases sd <;> simp at em p1 p2 p3 p4 <;> simp [k_law21_PickAll, pick_begun, a1, e, paSt, em, p1, p2, p3, p4]
    · simp [paSt] at e
      simp [k_law21_PickAll, pick_begun, a1, e]
end Go.Cd
