/- Taking semaphores and letting them go, and the reference's. No conditions. -/
import Derived.Test.YtpdanhecaalfbaaR2QSemaL
set_option linter.unusedVariables false
set_option linter.unusedSimpArgs false
namespace Go.Cd
open Go Go.Fw
@[simp] theorem take_map_lenS {α β : Type} (f : α → β) (l : List α) : List.take l.length (List.map f l) = List.map f l := by
  rw [← List.length_map (f := f), List.take_length]
theorem clone_Sema (nl : Bool) (l : List Sema) (hn : nl = true → l = []) (hl : l.length ≤ 1000) : run kp (.data f_slices_Clone_api_Sema_api_Sema [.sl nl (l.map Sema.d)]) = some (.ds [.sl nl (l.map Sema.d)]) := by
  rw [run_data, run_call, kp_slices_Clone_api_Sema_api_Sema]
  cases nl with
  | true => simp [hn rfl, k_slices_Clone_api_Sema_api_Sema]
  | false =>
    simp [k_slices_Clone_api_Sema_api_Sema]
    omega
def takeS (l : List Sema) (s task : Int) : List Sema × Bool := match semaAt l s with
  | some x => if x.holder = 0 then (l.set s.toNat ⟨x.ceil, IntKind.i64.wrap (task + 1)⟩, true) else (l, false)
  | none => (l, false)
theorem semaAt_cases (l : List Sema) (s : Int) : (semaAt l s = none ∧ ¬ (0 ≤ s ∧ s < l.length)) ∨ (∃ x, semaAt l s = some x ∧ 0 ≤ s ∧ s < l.length ∧ l[s.toNat]? = some x) := by
  by_cases h : 0 ≤ s ∧ s < l.length
  · have h1 : s.toNat < l.length := by omega
    refine .inr ⟨l[s.toNat], ?_, h.1, h.2, List.getElem?_eq_getElem h1⟩
    simp [semaAt, h.1, List.getElem?_eq_getElem h1]
  · refine .inl ⟨?_, h⟩
    simp only [semaAt]
    by_cases h0 : 0 ≤ s
    · rw [if_pos h0]; exact List.getElem?_eq_none (by omega)
    · rw [if_neg h0]
theorem sema_Take (nl : Bool) (l : List Sema) (hn : nl = true → l = []) (hl : l.length ≤ 1000) (s task : Int) : run kp (.data f_sema_Take [.sl nl (l.map Sema.d), .int .i64 s, .int .i64 task]) = some (.ds [.sl nl ((takeS l s task).1.map Sema.d), .bool (takeS l s task).2]) := by
  have cl := clone_Sema nl l hn hl
  rw [run_data, run_call, kp_sema_Take]
  rcases semaAt_cases l s with ⟨h1, h2⟩ | ⟨x, h1, h2, h3, h4⟩
  · cases nl with
    | true =>
      have := hn rfl; subst this
      simp only [List.map_nil] at cl
      have hh := sema_has true [] s
      simp [k_sema_Take, cl, takeS, h1, hh]
    | false =>
      simp [k_sema_Take, cl, takeS, h1, sema_has, h2]
  · have hnl : nl = false := by
      cases nl; rfl
      have := hn rfl; subst this; simp at h3; omega
    subst hnl
    have hget : ∀ hh : s.toNat < l.length, l[s.toNat] = x := fun hh => by rw [List.getElem?_eq_getElem hh] at h4; injection h4
    by_cases h5 : x.holder = 0
    · simp [k_sema_Take, cl, takeS, h1, sema_has, h2, h3, h4, hget, h5, Sema.d]
      exact List.take_of_length_le (by simp)
    · simp [k_sema_Take, cl, takeS, h1, sema_has, h2, h3, h4, hget, h5, Sema.d]
theorem ref11_TakeSema (nl : Bool) (l : List Sema) (hl : l.length ≤ 1000) (s task : Int) : run kp (.data f_ref11_TakeSema [.sl nl (l.map Sema.d), .int .i64 s, .int .i64 task]) = some (.ds [.sl false ((takeS l s task).1.map Sema.d), .bool (takeS l s task).2]) := by
  rw [run_data, run_call, kp_ref11_TakeSema]
  have l5 : l.length ≤ 1073741824 := by omega
  rcases semaAt_cases l s with ⟨h1, h2⟩ | ⟨x, h1, h2, h3, h4⟩
  · by_cases h0 : s < 0
    · simp [k_ref11_TakeSema, takeS, h1, h0, l5]
    · have h3 : (l.length : Int) ≤ s := by omega
      simp [k_ref11_TakeSema, takeS, h1, h0, h3, l5]
  · have hget : ∀ hh : s.toNat < l.length, l[s.toNat] = x := fun hh => by rw [List.getElem?_eq_getElem hh] at h4; injection h4
    have h0 : ¬ s < 0 := by omega
    have h6 : ¬ (l.length : Int) ≤ s := by omega
    by_cases h5 : x.holder = 0
    · simp [k_ref11_TakeSema, takeS, h1, h2, h0, h3, h4, h6, hget, h5, l5, Sema.d]
      exact List.take_of_length_le (by simp)
    · simp [k_ref11_TakeSema, takeS, h1, h2, h0, h3, h4, h6, hget, h5, l5, Sema.d]
def letS (l : List Sema) (s task : Int) : List Sema × Bool := match semaAt l s with
  | some x => if x.holder = IntKind.i64.wrap (task + 1) then (l.set s.toNat ⟨x.ceil, 0⟩, true) else (l, false)
  | none => (l, false)
theorem sema_Let (nl : Bool) (l : List Sema) (hn : nl = true → l = []) (hl : l.length ≤ 1000) (s task : Int) (ht : 0 ≤ task) : run kp (.data f_sema_Let [.sl nl (l.map Sema.d), .int .i64 s, .int .i64 task]) = some (.ds [.sl nl ((letS l s task).1.map Sema.d), .bool (letS l s task).2]) := by
  have cl := clone_Sema nl l hn hl
  have hh := sema_holds nl l s task
  rw [run_data, run_call, kp_sema_Let]
  rcases semaAt_cases l s with ⟨h1, h2⟩ | ⟨x, h1, h2, h3, h4⟩
  · have e : semaHolds l s task = false := by simp [semaHolds, h1]
    rw [e] at hh
    cases nl with
    | true =>
      have := hn rfl; subst this
      simp only [List.map_nil] at cl hh
      simp [k_sema_Let, cl, letS, h1, hh]
    | false => simp [k_sema_Let, cl, letS, h1, hh]
  · have hnl : nl = false := by
      cases nl; rfl
      have := hn rfl; subst this; simp at h3; omega
    subst hnl
    have hget : ∀ hh : s.toNat < l.length, l[s.toNat] = x := fun hh => by rw [List.getElem?_eq_getElem hh] at h4; injection h4
    by_cases h5 : x.holder = IntKind.i64.wrap (task + 1)
    · have e : semaHolds l s task = true := by simp [semaHolds, h1, ht, h5]
      rw [e] at hh
      simp [k_sema_Let, cl, letS, h1, hh, h2, h3, h4, hget, h5, Sema.d]
      exact List.take_of_length_le (by simp)
    · have e : semaHolds l s task = false := by simp [semaHolds, h1, h5]
      rw [e] at hh
      simp [k_sema_Let, cl, letS, h1, hh, h2, h3, h4, hget, h5, Sema.d]
theorem ref11_LetSema (nl : Bool) (l : List Sema) (hl : l.length ≤ 1000) (s task : Int) : run kp (.data f_ref11_LetSema [.sl nl (l.map Sema.d), .int .i64 s, .int .i64 task]) = some (.ds [.sl false ((letS l s task).1.map Sema.d), .bool (letS l s task).2]) := by
  rw [run_data, run_call, kp_ref11_LetSema]
  have l5 : l.length ≤ 1073741824 := by omega
  rcases semaAt_cases l s with ⟨h1, h2⟩ | ⟨x, h1, h2, h3, h4⟩
  · by_cases h0 : s < 0
    · simp [k_ref11_LetSema, letS, h1, h0, l5]
    · have h3 : (l.length : Int) ≤ s := by omega
      simp [k_ref11_LetSema, letS, h1, h0, h3, l5]
  · have hget : ∀ hh : s.toNat < l.length, l[s.toNat] = x := fun hh => by rw [List.getElem?_eq_getElem hh] at h4; injection h4
    have h0 : ¬ s < 0 := by omega
    have h6 : ¬ (l.length : Int) ≤ s := by omega
    by_cases h5 : x.holder = IntKind.i64.wrap (task + 1)
    · simp [k_ref11_LetSema, letS, h1, h2, h0, h3, h4, h6, hget, h5, l5, Sema.d]
      exact List.take_of_length_le (by simp)
    · simp [k_ref11_LetSema, letS, h1, h2, h0, h3, h4, h6, hget, h5, l5, Sema.d]
theorem sameS_loop (n1 n2 : Bool) (l : List Sema) (hf : l.length ≤ 1000) : ∀ (rest pre : List Sema), l = pre ++ rest → ∀ (i : Int), i = pre.length →
    run kp (.loop [0, 1, 5] k_ref11_SameSemas_L0 { env := [(0, .asl n1 (l.map Sema.d)), (1, .asl n2 (l.map Sema.d)), (5, .int .i64 i)], hp := [], tl := fun _ => none, base := 0, next := 0 }) =
    some (.out (.ext 0) { env := [(0, .asl n1 (l.map Sema.d)), (1, .asl n2 (l.map Sema.d)), (5, .int .i64 l.length), (14, .bool false)], hp := [], tl := fun _ => none, base := 0, next := 0 })
  | [], pre, h, i, hi => by
    simp at h
    subst h hi
    rw [run_round]
    simp [c_ref11_SameSemas_L0, k_ref11_SameSemas_L0b]
  | w :: rest, pre, h, i, hi => by
    have hli : i < l.length := by rw [h, hi]; simp; omega
    have h0 : 0 ≤ i := by omega
    have hget0 : l[i.toNat]? = some w := by rw [h, hi]; simp
    have hget : ∀ hh : i.toNat < l.length, l[i.toNat] = w := fun hh => by rw [List.getElem?_eq_getElem hh] at hget0; injection hget0
    have hw : IntKind.i64.wrap (i + 1) = i + 1 := wrap_i64 (by omega) (by omega)
    have ih := sameS_loop n1 n2 l hf rest (pre ++ [w]) (by simp [h]) (i + 1) (by simp [hi])
    rw [← ih, run_round]
    simp [c_ref11_SameSemas_L0, k_ref11_SameSemas_L0b, h0, hli, hget, hw, Sema.d]
theorem same_semas (n1 n2 : Bool) (l : List Sema) (hf : l.length ≤ 1000) : run kp (.data f_ref11_SameSemas [.sl n1 (l.map Sema.d), .sl n2 (l.map Sema.d)]) = some (.ds [.bool true]) := by
  rw [run_data, run_call, kp_ref11_SameSemas]
  have hl := sameS_loop n1 n2 l hf l [] rfl 0 rfl
  simp [k_ref11_SameSemas, hl]
def freeS (task : Int) (x : Sema) : Sema := if x.holder = IntKind.i64.wrap (task + 1) then ⟨x.ceil, 0⟩ else x
theorem set_mid {α : Type} (pre rest : List α) (w y : α) : (pre ++ w :: rest).set pre.length y = pre ++ y :: rest := by simp
theorem allR_loop (task : Int) (l : List Sema) (hf : l.length ≤ 1000) : ∀ (rest pre : List Sema), l = pre ++ rest → ∀ (i : Int), i = pre.length →
    run kp (.loop [1, 5, 6] k_ref11_AllSemas_L0 { env := [(1, .int .i64 task), (5, .sl false 0 0 l.length), (6, .int .i64 i)], hp := [(0, .row true ((pre.map (freeS task) ++ rest).map Sema.d))], tl := fun _ => none, base := 0, next := 1 }) =
    some (.out (.ext 0) { env := [(1, .int .i64 task), (5, .sl false 0 0 l.length), (6, .int .i64 l.length), (13, .bool false)], hp := [(0, .row true ((l.map (freeS task)).map Sema.d))], tl := fun _ => none, base := 0, next := 1 })
  | [], pre, h, i, hi => by
    simp at h
    subst h hi
    rw [run_round]
    simp [c_ref11_AllSemas_L0, k_ref11_AllSemas_L0b]
  | w :: rest, pre, h, i, hi => by
    have hli : i < l.length := by rw [h, hi]; simp; omega
    have h0 : 0 ≤ i := by omega
    have hw : IntKind.i64.wrap (i + 1) = i + 1 := wrap_i64 (by omega) (by omega)
    have ih := allR_loop task l hf rest (pre ++ [w]) (by simp [h]) (i + 1) (by simp [hi])
    have hn : i.toNat = pre.length := by omega
    have hlen : l.length = pre.length + (rest.length + 1) := by rw [h]; simp
    have hli2 : i < (pre.length : Int) + ((rest.length : Int) + 1) := by omega
    rw [← ih, run_round]
    by_cases h5 : w.holder = IntKind.i64.wrap (task + 1)
    · simp [c_ref11_AllSemas_L0, k_ref11_AllSemas_L0b, h0, hli2, hw, h5, hn, hlen, Sema.d, freeS]
    · simp [c_ref11_AllSemas_L0, k_ref11_AllSemas_L0b, h0, hli2, hw, h5, hn, hlen, Sema.d, freeS]
theorem ref11_AllSemas (nl : Bool) (l : List Sema) (hl : l.length ≤ 1000) (task : Int) : run kp (.data f_ref11_AllSemas [.sl nl (l.map Sema.d), .int .i64 task]) = some (.ds [.sl false ((l.map (freeS task)).map Sema.d)]) := by
  rw [run_data, run_call, kp_ref11_AllSemas]
  have l5 : l.length ≤ 1073741824 := by omega
  have h := allR_loop task l hl l [] rfl 0 rfl
  simp only [List.map_nil, List.nil_append] at h
  simp [k_ref11_AllSemas, h, l5]
  try exact List.take_of_length_le (by simp)
theorem all_loop (nl : Bool) (task : Int) (ht : 0 ≤ task) (l : List Sema) (hf : l.length ≤ 1000) : ∀ (rest pre : List Sema), l = pre ++ rest → ∀ (i : Int), i = pre.length → 
    run kp (.loop [0, 1, 5, 10, 11] k_sema_All_L0 { env := [(0, .asl nl (l.map Sema.d)), (1, .int .i64 task), (5, .sl false 0 0 l.length), (10, .int .i64 l.length), (11, .int .i64 i)], hp := [(0, .row true ((pre.map (freeS task) ++ rest).map Sema.d))], tl := fun _ => none, base := 0, next := 1 }) =
    some (.out (.ext 0) { env := [(0, .asl nl (l.map Sema.d)), (1, .int .i64 task), (5, .sl false 0 0 l.length), (10, .int .i64 l.length), (11, .int .i64 l.length), (12, .bool false)], hp := [(0, .row true ((l.map (freeS task)).map Sema.d))], tl := fun _ => none, base := 0, next := 1 })
  | [], pre, h, i, hi => by
    simp at h
    subst h hi
    rw [run_round]
    simp [c_sema_All_L0, k_sema_All_L0b]
  | w :: rest, pre, h, i, hi => by
    have hli : i < l.length := by rw [h, hi]; simp; omega
    have h0 : 0 ≤ i := by omega
    have hw : IntKind.i64.wrap (i + 1) = i + 1 := wrap_i64 (by omega) (by omega)
    have ih := all_loop nl task ht l hf rest (pre ++ [w]) (by simp [h]) (i + 1) (by simp [hi])
    have hn : i.toNat = pre.length := by omega
    have hlen : l.length = pre.length + (rest.length + 1) := by rw [h]; simp
    have hli2 : i < (pre.length : Int) + ((rest.length : Int) + 1) := by omega
    have hh := sema_holds nl l i task
    have hat : semaAt l i = some w := by
      simp only [semaAt, if_pos h0]
      rw [h, hn]; simp
    rw [← ih, run_round]
    by_cases h5 : w.holder = IntKind.i64.wrap (task + 1)
    · have e : semaHolds l i task = true := by simp [semaHolds, hat, ht, h5]
      rw [e] at hh
      simp [c_sema_All_L0, k_sema_All_L0b, h0, hli, hli2, hh, hw, h5, hn, hlen, Sema.d, freeS]
    · have e : semaHolds l i task = false := by simp [semaHolds, hat, h5]
      rw [e] at hh
      simp [c_sema_All_L0, k_sema_All_L0b, h0, hli, hli2, hh, hw, h5, hn, hlen, Sema.d, freeS]
theorem sema_All (nl : Bool) (l : List Sema) (hn : nl = true → l = []) (hl : l.length ≤ 1000) (task : Int) (ht : 0 ≤ task) : run kp (.data f_sema_All [.sl nl (l.map Sema.d), .int .i64 task]) = some (.ds [.sl nl ((l.map (freeS task)).map Sema.d)]) := by
  have cl := clone_Sema nl l hn hl
  rw [run_data, run_call, kp_sema_All]
  cases nl with
  | true =>
    have := hn rfl; subst this
    simp only [List.map_nil] at cl
    have e : run kp (.loop [0, 1, 5, 10, 11] k_sema_All_L0 { env := [(0, .asl true []), (1, .int .i64 task), (5, .d (.sl true [])), (10, .int .i64 0), (11, .int .i64 0)], hp := [], tl := fun _ => none, base := 0, next := 0 }) = some (.out (.ext 0) { env := [(0, .asl true []), (1, .int .i64 task), (5, .d (.sl true [])), (10, .int .i64 0), (11, .int .i64 0), (12, .bool false)], hp := [], tl := fun _ => none, base := 0, next := 0 }) := by
      rw [run_round]
      simp [c_sema_All_L0, k_sema_All_L0b]
    simp [k_sema_All, cl, e]
  | false =>
    have h := all_loop false task ht l hl l [] rfl 0 rfl
    simp only [List.map_nil, List.nil_append] at h
    simp [k_sema_All, cl, h]
    try exact List.take_of_length_le (by simp)
end Go.Cd
