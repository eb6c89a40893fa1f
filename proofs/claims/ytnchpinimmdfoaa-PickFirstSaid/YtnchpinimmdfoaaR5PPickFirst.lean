/- The law PickFirst, as the evaluator has it. No conditions. -/
import Derived.Test.YtnchpinimmdfoaaR5PPickAll
set_option linter.unusedVariables false
set_option linter.unusedSimpArgs false
namespace Go.Cd
open Go Go.Fw
def fiSt (jd sd : List D) (i x : Int) (holds : Bool) (ex : List (Nat × V)) (k : Int) : St :=
  { env := [(5, rV 0 jd), (6, rV (rN jd) sd), (7, .int .i64 i), (9, .int .i64 x), (11, .bool holds), (12, .int .i64 k)] ++ ex, hp := rH 0 jd ++ rH (rN jd) sd, tl := fun _ => none, base := 0, next := rN jd + rN sd }
set_option maxHeartbeats 8000000 in
theorem fi_loop (js : List Job) (ss : List Sema) (hjs : js.length ≤ 8) (hss : ss.length ≤ 4) (i : Nat) (x : Int) (holds : Bool) (hm : Made js)
    (hno : ∀ (k : Nat) (j : Job), js[k]? = some j → ¬ (ofF j js.length ss < x ∨ (ofF j js.length ss = x ∧ (((lowF ss j.task j.held [] 0 false).2.1 = true ∧ holds = false) ∨ ((lowF ss j.task j.held [] 0 false).2.1 = holds ∧ k < i))))) : ∀ (rest pre : List Job), js = pre ++ rest → ∀ (k : Nat), k = pre.length →
    run kp (.loop [5, 6, 7, 9, 11, 12] k_law21_PickFirst_L0 (fiSt (js.map Job.d) (ss.map Sema.d) i x holds [] (k : Int))) = some (.out (.ext 0) (fiSt (js.map Job.d) (ss.map Sema.d) i x holds [(77, .bool false)] js.length))
  | [], pre, h, k, hk => by
    simp at h
    subst h hk
    rw [run_round]
    have hl : js.length = (js.map Job.d).length := by simp
    rw [hl]
    generalize js.map Job.d = jd at *
    generalize ss.map Sema.d = sd at *
    cases jd <;> cases sd <;> simp [c_law21_PickFirst_L0, k_law21_PickFirst_L0b, fiSt, rV, rH, rN]
  | j :: rest, pre, h, k, hk => by
    have hkl : k < js.length := by rw [h, hk]; simp
    have hget0 : js[k]? = some j := by rw [h, hk]; simp
    have hno := hno k j hget0
    have ih := fi_loop js ss hjs hss i x holds hm ‹_› rest (pre ++ [j]) (by simp [h]) (k + 1) (by simp [hk])
    have hw : IntKind.i64.wrap ((k : Int) + 1) = ((k + 1 : Nat) : Int) := by rw [wrap_i64 (by omega) (by omega)]; omega
    obtain ⟨t1, t2⟩ := hm k j hget0
    have ht : 0 ≤ j.task := by omega
    have b := ref19_Band j (small_max (by omega)) js.length ss.isEmpty ss
    rw [← band_same _ _ _ ht] at b
    have lo := ref11_Low ss.isEmpty j.hn ss j.held (small_max (by omega)) j.task
    have e1 := low_same ss j.task ht j.held [] 0 false (fun h => by cases h) (fun h => absurd rfl h)
    rw [← e1] at lo
    generalize ofF j js.length ss = y at *
    generalize (lowF ss j.task j.held [] 0 false).1 = lw at *
    generalize (lowF ss j.task j.held [] 0 false).2.1 = has at *
    have hd0 : (js.map Job.d)[k]? = some j.d := by rw [List.getElem?_map, hget0]; rfl
    have hl : js.length = (js.map Job.d).length := by simp
    have hse : ss.isEmpty = (ss.map Sema.d).isEmpty := by simp
    have hsl : (ss.map Sema.d).length ≤ 4 := by simpa using hss
    simp only [not_or, not_and] at hno
    obtain ⟨n1, n2⟩ := hno
    rw [← ih, run_round]
    rw [hse] at b lo
    rw [hl] at b hkl hjs
    clear hse hl
    generalize js.map Job.d = jd at *
    generalize ss.map Sema.d = sd at *
    cases jd with
    | nil => simp at hd0
    | cons a jd =>
      have hget : ∀ hh : k < (a :: jd).length, (a :: jd)[k] = j.d := fun hh => by rw [List.getElem?_eq_getElem hh] at hd0; injection hd0
      have hk2 : (k : Int) < (jd.length : Int) + 1 := by simp only [List.length_cons] at hkl; omega
      have hk3 : k < jd.length + 1 := by simpa using hkl
      generalize k + 1 = k' at *
      simp only [Job.d] at hd0 hget b
      by_cases hy : y = x
      · obtain ⟨n3, n4⟩ := n2 hy
        subst hy
        cases has with
        | true =>
          cases holds with
          | false => exact absurd rfl (n3 rfl)
          | true =>
            have n5 := n4 rfl
            have n6 : ¬ (k : Int) < (i : Int) := by omega
            cases sd <;> simp [-Job.fold] at b lo <;> simp [-Job.fold, Job.d, c_law21_PickFirst_L0, k_law21_PickFirst_L0b, fiSt, rV, rH, rN, hk2, hk3, hget, hw, b, lo, n5, n6]
        | false =>
          cases holds with
          | true => cases sd <;> simp [-Job.fold] at b lo <;> simp [-Job.fold, Job.d, c_law21_PickFirst_L0, k_law21_PickFirst_L0b, fiSt, rV, rH, rN, hk2, hk3, hget, hw, b, lo]
          | false =>
            have n5 := n4 rfl
            have n6 : ¬ (k : Int) < (i : Int) := by omega
            cases sd <;> simp [-Job.fold] at b lo <;> simp [-Job.fold, Job.d, c_law21_PickFirst_L0, k_law21_PickFirst_L0b, fiSt, rV, rH, rN, hk2, hk3, hget, hw, b, lo, n5, n6]
      · cases sd <;> simp [-Job.fold] at b lo <;> simp [-Job.fold, Job.d, c_law21_PickFirst_L0, k_law21_PickFirst_L0b, fiSt, rV, rH, rN, hk2, hk3, hget, hw, b, lo, n1, hy]
set_option maxHeartbeats 8000000 in
theorem law_PickFirst (xs : List D) (h : Sh.hasL [.sl (.ar 3 (.i .u8)), .sl (.ar 2 (.i .u8))] xs) : run kp (.data f_law21_PickFirst xs) = some (.ds [.bool true]) := by
  obtain ⟨x1, _, rfl, h1, h⟩ := hasL_cons h
  obtain ⟨x2, _, rfl, h2, h⟩ := hasL_cons h
  obtain rfl := hasL_nil h
  obtain ⟨nl, l, rfl, _, _, k1⟩ := has_sl h1
  obtain ⟨l, rfl, _⟩ := all_typed (f := T3.d) (fun y hy => has_t3 hy) l k1
  obtain ⟨ns, s, rfl, _, _, k2⟩ := has_sl h2
  obtain ⟨s, rfl, _⟩ := all_typed (f := T2.d) (fun y hy => has_t2 hy) s k2
  obtain ⟨js, ss, m1, m2, m3, em⟩ := law21_made nl ns l s
  have mo := made_ok m1
  have p1 := pick_Next js.length ss.isEmpty js.isEmpty ss js (by omega) (fun j hj => (mo j hj).1)
  rw [run_data, run_call, kp_law21_PickFirst]
  by_cases hj : js = []
  · subst hj
    have hse : ss.isEmpty = (ss.map Sema.d).isEmpty := by simp
    rw [hse] at em p1
    generalize ss.map Sema.d = sd at *
    simp [plsOf, fmL] at p1 em
    cases sd <;> simp at em p1 <;> simp [k_law21_PickFirst, pick_begun, em, p1]
  · obtain ⟨m, a1, a2, a3⟩ := fmL_spec (plsOf js.length ss js) (by simp [plsOf, hj])
    generalize fmL (plsOf js.length ss js) = i at *
    obtain ⟨j, hji, hjm⟩ : ∃ j, js[i]? = some j ∧ plOf js.length ss j = m := by
      simp only [plsOf, List.getElem?_map, Option.map_eq_some_iff] at a1
      exact a1
    obtain ⟨t1, t2⟩ := m1 i j hji
    have ht : 0 ≤ j.task := by omega
    have hil := (List.getElem?_eq_some_iff.1 hji).1
    have b := ref19_Band j (small_max (by omega)) js.length ss.isEmpty ss
    rw [← band_same _ _ _ ht] at b
    have lo := ref11_Low ss.isEmpty j.hn ss j.held (small_max (by omega)) j.task
    have e1 := low_same ss j.task ht j.held [] 0 false (fun h => by cases h) (fun h => absurd rfl h)
    rw [← e1] at lo
    have lp := fi_loop js ss m2 m3 i (ofF j js.length ss) (lowF ss j.task j.held [] 0 false).2.1 m1 (fun k q hq => by
      obtain ⟨u1, u2⟩ := m1 k q hq
      have := a2 k (plOf js.length ss q) (by simp only [plsOf, List.getElem?_map, hq]; rfl)
      rw [← hjm] at this
      simp only [plOf, ltP] at this
      simp only [not_or, not_and] at this
      rintro (h1 | ⟨h1, h2 | ⟨h2, h3⟩⟩)
      · exact this.1 h1
      · rw [h2.1, h2.2] at this
        exact (this.2 h1).1 (by simp)
      · rw [h2] at this
        exact (this.2 h1).2 rfl (by omega)) js [] rfl 0 rfl
    generalize ofF j js.length ss = y at *
    generalize (lowF ss j.task j.held [] 0 false).1 = lw at *
    generalize (lowF ss j.task j.held [] 0 false).2.1 = has at *
    have hd0 : (js.map Job.d)[i]? = some j.d := by rw [List.getElem?_map, hji]; rfl
    have hl : js.length = (js.map Job.d).length := by simp
    have hje : js.isEmpty = (js.map Job.d).isEmpty := by simp
    have hse : ss.isEmpty = (ss.map Sema.d).isEmpty := by simp
    rw [hje, hse] at em
    rw [hje, hse, hl] at p1
    rw [hse] at b lo
    rw [hl] at b lp hil
    clear hje hse hl m1 m2 m3 mo a1 a2 a3
    generalize js.map Job.d = jd at *
    generalize ss.map Sema.d = sd at *
    cases jd with
    | nil => simp at hd0
    | cons a jd =>
      have hget : ∀ hh : i < (a :: jd).length, (a :: jd)[i] = j.d := fun hh => by rw [List.getElem?_eq_getElem hh] at hd0; injection hd0
      have hk2 : (i : Int) < (jd.length : Int) + 1 := by simp only [List.length_cons] at hil; omega
      have hk4 : ¬ (jd.length : Int) + 1 ≤ (i : Int) := by omega
      have hk3 : i < jd.length + 1 := by simpa using hil
      have hk5 : ¬ (i : Int) < 0 := by omega
      simp only [Job.d] at hd0 hget b
      cases sd <;> simp [-Job.fold] at b lo em p1 <;> simp [fiSt, rV, rH, rN] at lp <;>
        simp [-Job.fold, Job.d, k_law21_PickFirst, pick_begun, em, p1, hk2, hk3, hk4, hk5, hget, b, lo, lp, rV, rH, rN, fiSt]
end Go.Cd
