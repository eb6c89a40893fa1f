/- The law SemaAll, as the evaluator has it. No conditions. -/
import Derived.Test.YtpdanhecaalfbaaR2QSemaS
set_option linter.unusedVariables false
set_option linter.unusedSimpArgs false
namespace Go.Cd
open Go Go.Fw
set_option maxRecDepth 100000 in
theorem sema_begun : run kp (.data f_law11_begun []) = some (.ds [.bool true]) := run_of (n := 4000) (by kernel_rfl)
theorem takeS_len (l : List Sema) (s t : Int) : (takeS l s t).1.length = l.length := by
  simp only [takeS]; split <;> (try split) <;> simp
theorem letS_len (l : List Sema) (s t : Int) : (letS l s t).1.length = l.length := by
  simp only [letS]; split <;> (try split) <;> simp
def saSt (nl nh : Bool) (l : List Sema) (held : List Int) (task s : Int) (ex : List (Nat × V)) (i : Int) : St :=
  { env := [(0, .asl nl (l.map Sema.d)), (1, .asl nh (held.map (.int .i64))), (9, .sl false 0 0 4), (10, .sl false 1 0 4), (11, .int .i64 i)] ++ ex, hp := [(0, .row true [.int .i64 task, .int .i64 0, .int .i64 1, .int .i64 2]), (1, .row true [.int .i64 s, .int .i64 0, .int .i64 1, .int .i64 3])], tl := fun _ => none, base := 0, next := 2 }
set_option maxHeartbeats 4000000 in
theorem sa_inner (nl nh : Bool) (l : List Sema) (hn : nl = true → l = []) (hl : l.length ≤ 6) (held : List Int) (task s : Int) (i : Int) (i0 : 0 ≤ i) (i4 : i < 4) (t : Int) (ht : 0 ≤ t) (hgt : ∀ hh : i.toNat < [D.int .i64 task, D.int .i64 0, D.int .i64 1, D.int .i64 2].length, [D.int .i64 task, D.int .i64 0, D.int .i64 1, D.int .i64 2][i.toNat] = .int .i64 t)
    (k : Int) (k0 : 0 ≤ k) (k4 : k < 4) (c : Int) (hgs : ∀ hh : k.toNat < [D.int .i64 s, D.int .i64 0, D.int .i64 1, D.int .i64 3].length, [D.int .i64 s, D.int .i64 0, D.int .i64 1, D.int .i64 3][k.toNat] = .int .i64 c) :
    run kp (.loop [0, 1, 9, 10, 11, 12] k_law11_SemaAll_L1 (saSt nl nh l held task s [(12, .int .i64 k)] i)) = run kp (.loop [0, 1, 9, 10, 11, 12] k_law11_SemaAll_L1 (saSt nl nh l held task s [(12, .int .i64 (k + 1))] i)) := by
  have hw : IntKind.i64.wrap (k + 1) = k + 1 := wrap_i64 (by omega) (by omega)
  have a1 := sema_Take nl l hn (by omega) c t
  have a2 := ref11_TakeSema nl l (by omega) c t
  have a3 := sema_Let nl l hn (by omega) c t ht
  have a4 := ref11_LetSema nl l (by omega) c t
  have b1 := takeS_len l c t
  have b2 := letS_len l c t
  have c1 := same_semas nl false (takeS l c t).1 (by omega)
  have c2 := same_semas nl false (letS l c t).1 (by omega)
  generalize takeS l c t = x at *
  generalize letS l c t = y at *
  obtain ⟨x, p⟩ := x
  obtain ⟨y, q⟩ := y
  simp only at *
  rw [run_round]
  cases nl with
  | true =>
    have := hn rfl; subst this
    have : x = [] := List.length_eq_zero_iff.1 (by simpa using b1)
    subst this
    have : y = [] := List.length_eq_zero_iff.1 (by simpa using b2)
    subst this
    simp only [List.map_nil] at *
    simp [c_law11_SemaAll_L1, k_law11_SemaAll_L1b, saSt, i0, i4, k0, k4, hgt, hgs, hw, a1, a2, a3, a4, c1, c2]
  | false =>
    simp [c_law11_SemaAll_L1, k_law11_SemaAll_L1b, saSt, i0, i4, k0, k4, hgt, hgs, hw, a1, a2, a3, a4, c1, c2]
theorem sa_inner_all (nl nh : Bool) (l : List Sema) (hn : nl = true → l = []) (hl : l.length ≤ 6) (held : List Int) (task s : Int) (i : Int) (i0 : 0 ≤ i) (i4 : i < 4) (t : Int) (ht : 0 ≤ t) (hgt : ∀ hh : i.toNat < [D.int .i64 task, D.int .i64 0, D.int .i64 1, D.int .i64 2].length, [D.int .i64 task, D.int .i64 0, D.int .i64 1, D.int .i64 2][i.toNat] = .int .i64 t) :
    run kp (.loop [0, 1, 9, 10, 11, 12] k_law11_SemaAll_L1 (saSt nl nh l held task s [(12, .int .i64 0)] i)) = some (.out (.ext 2) (saSt nl nh l held task s [(12, .int .i64 4), (52, .bool false)] i)) := by
  rw [sa_inner nl nh l hn hl held task s i i0 i4 t ht hgt 0 (by decide) (by decide) s (fun _ => rfl),
    sa_inner nl nh l hn hl held task s i i0 i4 t ht hgt (0 + 1) (by decide) (by decide) 0 (fun _ => rfl),
    sa_inner nl nh l hn hl held task s i i0 i4 t ht hgt (0 + 1 + 1) (by decide) (by decide) 1 (fun _ => rfl),
    sa_inner nl nh l hn hl held task s i i0 i4 t ht hgt (0 + 1 + 1 + 1) (by decide) (by decide) 3 (fun _ => rfl), run_round]
  simp [c_law11_SemaAll_L1, k_law11_SemaAll_L1b, saSt]
theorem low_eq (l : List Sema) (held : List Int) (t : Int) (ht : 0 ≤ t) : (refLowF l t held 0 false).1 = (lowF l t held [] 0 false).1 ∧ (refLowF l t held 0 false).2 = (lowF l t held [] 0 false).2.1 := by
  have h := low_same l t ht held [] 0 false (fun h => by cases h) (fun h => absurd rfl h)
  constructor <;> rw [← h]
set_option maxHeartbeats 4000000 in
theorem sa_outer (nl nh : Bool) (l : List Sema) (hn : nl = true → l = []) (hl : l.length ≤ 6) (held : List Int) (hh : held.length ≤ 6) (task s : Int) (i : Int) (i0 : 0 ≤ i) (i4 : i < 4) (t : Int) (ht : 0 ≤ t) (hgt : ∀ hh : i.toNat < [D.int .i64 task, D.int .i64 0, D.int .i64 1, D.int .i64 2].length, [D.int .i64 task, D.int .i64 0, D.int .i64 1, D.int .i64 2][i.toNat] = .int .i64 t) :
    run kp (.loop [0, 1, 9, 10, 11] k_law11_SemaAll_L0 (saSt nl nh l held task s [] i)) = run kp (.loop [0, 1, 9, 10, 11] k_law11_SemaAll_L0 (saSt nl nh l held task s [] (i + 1))) := by
  have hw : IntKind.i64.wrap (i + 1) = i + 1 := wrap_i64 (by omega) (by omega)
  have inn := sa_inner_all nl nh l hn hl held task s i i0 i4 t ht hgt
  have hm : held.length ≤ maxLen := Nat.le_trans hh (by decide)
  have a1 := sema_Low nl nh l held hm t
  have a2 := ref11_Low nl nh l held hm t
  obtain ⟨e1, e2⟩ := low_eq l held t ht
  rw [e1, e2] at a2
  have a3 := sema_All nl l hn (by omega) t ht
  have a4 := ref11_AllSemas nl l (by omega) t
  have c1 := same_semas nl false (l.map (freeS t)) (by simp; omega)
  generalize (lowF l t held [] 0 false).1 = x at *
  generalize (lowF l t held [] 0 false).2.1 = y at *
  simp only [saSt, List.cons_append, List.nil_append] at inn
  rw [run_round]
  cases nl with
  | true =>
    have := hn rfl; subst this
    simp only [List.map_nil] at *
    simp [c_law11_SemaAll_L0, k_law11_SemaAll_L0b, saSt, i0, i4, hgt, hw, inn, a1, a2, a3, a4, c1]
  | false =>
    rw [List.map_map] at a3 a4 c1
    simp [c_law11_SemaAll_L0, k_law11_SemaAll_L0b, saSt, i0, i4, hgt, hw, inn, a1, a2, a3, a4, c1]
theorem sa_all (nl nh : Bool) (l : List Sema) (hn : nl = true → l = []) (hl : l.length ≤ 6) (held : List Int) (hh : held.length ≤ 6) (task s : Int) (ht : 0 ≤ task) :
    run kp (.loop [0, 1, 9, 10, 11] k_law11_SemaAll_L0 (saSt nl nh l held task s [] 0)) = some (.out (.ext 0) (saSt nl nh l held task s [(48, .bool false)] 4)) := by
  rw [sa_outer nl nh l hn hl held hh task s 0 (by decide) (by decide) task ht (fun _ => rfl),
    sa_outer nl nh l hn hl held hh task s (0 + 1) (by decide) (by decide) 0 (by decide) (fun _ => rfl),
    sa_outer nl nh l hn hl held hh task s (0 + 1 + 1) (by decide) (by decide) 1 (by decide) (fun _ => rfl),
    sa_outer nl nh l hn hl held hh task s (0 + 1 + 1 + 1) (by decide) (by decide) 2 (by decide) (fun _ => rfl), run_round]
  simp [c_law11_SemaAll_L0, k_law11_SemaAll_L0b, saSt]
theorem law_SemaAll (xs : List D) (h : Sh.hasL [.sl (.st [.i .i64, .i .i64]), .sl (.i .i64), .i .i64, .i .i64] xs) : run kp (.data f_law11_SemaAll xs) = some (.ds [.bool true]) := by
  obtain ⟨x1, _, rfl, h1, h⟩ := hasL_cons h
  obtain ⟨x2, _, rfl, h2, h⟩ := hasL_cons h
  obtain ⟨x3, _, rfl, h3, h⟩ := hasL_cons h
  obtain ⟨x4, _, rfl, h4, h⟩ := hasL_cons h
  obtain rfl := hasL_nil h
  obtain ⟨nl, l, rfl, hn, _, _⟩ := has_semas h1
  obtain ⟨nh, held, rfl, _, _, _⟩ := has_nums h2
  obtain ⟨s, rfl, _⟩ := has_int h3
  obtain ⟨task, rfl, _⟩ := has_int h4
  rw [run_data, run_call, kp_law11_SemaAll]
  by_cases hl : l.length ≤ 6
  · have a1 : ¬ (6 : Int) < l.length := by omega
    by_cases hh : held.length ≤ 6
    · have a2 : ¬ (6 : Int) < held.length := by omega
      by_cases ht : task < 0
      · simp [k_law11_SemaAll, sema_begun, a1, a2, ht]
      · by_cases hu : 1099511627776 < task
        · simp [k_law11_SemaAll, sema_begun, a1, a2, ht, hu]
        · have sa := sa_all nl nh l hn hl held hh task s (by omega)
          simp only [saSt, List.cons_append, List.nil_append] at sa
          simp [k_law11_SemaAll, sema_begun, a1, a2, ht, hu, sa]
    · have a2 : (6 : Int) < held.length := by omega
      simp [k_law11_SemaAll, sema_begun, a1, a2]
  · have a1 : (6 : Int) < l.length := by omega
    simp [k_law11_SemaAll, sema_begun, a1]
end Go.Cd
