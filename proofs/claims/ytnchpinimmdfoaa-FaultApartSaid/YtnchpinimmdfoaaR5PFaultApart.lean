/- The law FaultApart, as the evaluator has it. No conditions. -/
import Derived.Test.YtnchpinimmdfoaaR5QFault2
set_option linter.unusedVariables false
set_option linter.unusedSimpArgs false
namespace Go.Cd
open Go Go.Fw
theorem clone_Sema (nl : Bool) (l : List Sema) (hn : nl = true → l = []) (hl : l.length ≤ 1000) : run kp (.data f_slices_Clone_api_Sema_api_Sema [.sl nl (l.map Sema.d)]) = some (.ds [.sl nl (l.map Sema.d)]) := by
  rw [run_data, run_call, kp_slices_Clone_api_Sema_api_Sema]
  cases nl with
  | true => simp [hn rfl, k_slices_Clone_api_Sema_api_Sema]
  | false =>
    simp [k_slices_Clone_api_Sema_api_Sema]
    omega
def freeS (task : Int) (x : Sema) : Sema := if x.holder = IntKind.i64.wrap (task + 1) then ⟨x.ceil, 0⟩ else x
theorem all_loop (nl : Bool) (task : Int) (ht : 0 ≤ task) (l : List Sema) (hf : l.length ≤ 1000) : ∀ (rest pre : List Sema), l = pre ++ rest → ∀ (i : Int), i = pre.length → 
    run kp (.loop [0, 1, 5, 10, 11] k_sema_All_L0 { env := [(0, .asl nl (l.map Sema.d)), (1, .int .i64 task), (5, .sl false 0 0 l.length), (10, .int .i64 l.length), (11, .int .i64 i)], hp := [(0, .row true ((pre.map (freeS task) ++ rest).map Sema.d))], tl := fun _ => none, base := 0, next := 1 }) =
    some (.out (.ext 0) { env := [(0, .asl nl (l.map Sema.d)), (1, .int .i64 task), (5, .sl false 0 0 l.length), (10, .int .i64 l.length), (11, .int .i64 l.length), (12, .bool false)], hp := [(0, .row true ((l.map (freeS task)).map Sema.d))], tl := fun _ => none, base := 0, next := 1 })
  | [], pre, h, i, hi => by
    simp at h
    subst h hi
    rw [run_round]
    simp [c_sema_All_L0, k_sema_All_L0b]
  | w :: rest, pre, h, i, hi => by
    have hli : i < l.length := by rw [h, hi]; simp; omega
    have h0 : 0 ≤ i := by omega
    have hw : IntKind.i64.wrap (i + 1) = i + 1 := wrap_i64 (by omega) (by omega)
    have ih := all_loop nl task ht l hf rest (pre ++ [w]) (by simp [h]) (i + 1) (by simp [hi])
    have hn : i.toNat = pre.length := by omega
    have hlen : l.length = pre.length + (rest.length + 1) := by rw [h]; simp
    have hli2 : i < (pre.length : Int) + ((rest.length : Int) + 1) := by omega
    have hh := sema_holds nl l i task
    have hat : semaAt l i = some w := by
      simp only [semaAt, if_pos h0]
      rw [h, hn]; simp
    rw [← ih, run_round]
    by_cases h5 : w.holder = IntKind.i64.wrap (task + 1)
    · have e : semaHolds l i task = true := by simp [semaHolds, hat, ht, h5]
      rw [e] at hh
      simp [c_sema_All_L0, k_sema_All_L0b, h0, hli, hli2, hh, hw, h5, hn, hlen, Sema.d, freeS]
    · have e : semaHolds l i task = false := by simp [semaHolds, hat, h5]
      rw [e] at hh
      simp [c_sema_All_L0, k_sema_All_L0b, h0, hli, hli2, hh, hw, h5, hn, hlen, Sema.d, freeS]
theorem sema_All (nl : Bool) (l : List Sema) (hn : nl = true → l = []) (hl : l.length ≤ 1000) (task : Int) (ht : 0 ≤ task) : run kp (.data f_sema_All [.sl nl (l.map Sema.d), .int .i64 task]) = some (.ds [.sl nl ((l.map (freeS task)).map Sema.d)]) := by
  have cl := clone_Sema nl l hn hl
  rw [run_data, run_call, kp_sema_All]
  cases nl with
  | true =>
    have := hn rfl; subst this
    simp only [List.map_nil] at cl
    have e : run kp (.loop [0, 1, 5, 10, 11] k_sema_All_L0 { env := [(0, .asl true []), (1, .int .i64 task), (5, .d (.sl true [])), (10, .int .i64 0), (11, .int .i64 0)], hp := [], tl := fun _ => none, base := 0, next := 0 }) = some (.out (.ext 0) { env := [(0, .asl true []), (1, .int .i64 task), (5, .d (.sl true [])), (10, .int .i64 0), (11, .int .i64 0), (12, .bool false)], hp := [], tl := fun _ => none, base := 0, next := 0 }) := by
      rw [run_round]
      simp [c_sema_All_L0, k_sema_All_L0b]
    simp [k_sema_All, cl, e]
  | false =>
    have h := all_loop false task ht l hl l [] rfl 0 rfl
    simp only [List.map_nil, List.nil_append] at h
    simp [k_sema_All, cl, h]
    try exact List.take_of_length_le (by simp)
theorem job_machineI (x : Int) : run kp (.data f_job_machine [mI x]) = some (.ds [mI x]) := by
  rw [run_data, run_call, kp_job_machine]
  have c := clone_rep_nil
  simp [k_job_machine, mI, c]
set_option maxRecDepth 10000 in
theorem job_twinI (t a i p x : Int) (nl up : Bool) (held : List Int) (hn : nl = true → held = []) (hl : held.length ≤ 1000) : run kp (.data f_job_twin [jI t a i p x nl held up]) = some (.ds [jI t a i p x nl held up]) := by
  rw [run_data, run_call, kp_job_twin]
  have m := job_machineI x
  have c := clone_intF nl held hn hl
  simp only [mI] at m
  cases nl with
  | true =>
    have := hn rfl; subst this
    simp only [List.map_nil] at c
    simp [k_job_twin, jI, mI, m, c]
  | false => simp [k_job_twin, jI, mI, m, c]
def taskD : D := .agg [.int .i64 0, .int .i64 0, .int .i64 0, .sl false [.agg [.int .i64 0, .int .i64 0, .int .i64 0, .int .i64 0]], .sl true [], .sl true []]
set_option maxRecDepth 10000 in
set_option maxHeartbeats 4000000 in
theorem job_BackI (t a i p x : Int) (nl up : Bool) (held : List Int) (hn : nl = true → held = []) (hl : held.length ≤ 1000) : run kp (.data f_job_Back [taskD, jI t a i p x nl held up]) = some (.ds [jI t a i p x true [] up]) := by
  rw [run_data, run_call, kp_job_Back]
  have m := job_machineI x
  have tw := job_twinI t a i p x nl up held hn hl
  simp only [mI] at m
  simp only [jI, mI] at tw
  cases nl with
  | true =>
    have := hn rfl; subst this
    simp only [List.map_nil] at tw
    simp [k_job_Back, jI, mI, taskD, m, tw]
  | false => simp [k_job_Back, jI, mI, taskD, m, tw]
def hitF (t a i p x : Int) (held : List Int) (up : Bool) : D := if p = 2 then jI t a i p x held.isEmpty (leftF (-1) held) up else jI t a i p x true [] up
set_option maxRecDepth 10000 in
set_option maxHeartbeats 4000000 in
theorem fault_HitI (t a i p x : Int) (ht : 0 ≤ t) (up : Bool) (held : List Int) (hl : held.length ≤ 1000) (nl : Bool) (l : List Sema) (hn : nl = true → l = []) (hll : l.length ≤ 1000) :
    run kp (.data f_fault_Hit [taskD, jI t a i p x held.isEmpty held up, .sl nl (l.map Sema.d)]) = some (.ds [hitF t a i p x held up, .sl nl ((l.map (freeS t)).map Sema.d), .int .i64 (if p = 2 then 13 else 6)]) := by
  rw [run_data, run_call, kp_fault_Hit]
  have b := job_BackI t a i p x held.isEmpty up held List.isEmpty_iff.1 hl
  have al := sema_All nl l hn hll t ht
  have lo := fault_Loses t a i p x (-1) up held hl
  unfold hitF
  generalize hFF : leftF (-1) held = F at *
  have hF0 : held = [] → F = [] := fun e => by rw [← hFF, e]; rfl
  have tkl : List.take l.length ((l.map (freeS t)).map Sema.d) = (l.map (freeS t)).map Sema.d := List.take_of_length_le (by simp)
  have hsd : nl = true → (l.map (freeS t)).map Sema.d = [] := fun e => by rw [hn e]; rfl
  generalize (l.map (freeS t)).map Sema.d = sd at *
  simp only [jI, mI, taskD] at b lo
  cases nl with
  | true =>
    have := hn rfl; subst this
    have := hsd rfl; subst this
    simp only [List.map_nil] at al
    by_cases hp : p = 2
    · subst hp
      cases held with
      | nil =>
        have := hF0 rfl; subst this
        simp at b lo
        simp [k_fault_Hit, jI, mI, taskD, b, al, lo]
      | cons h0 held =>
        simp at b lo
        simp [k_fault_Hit, jI, mI, taskD, b, al, lo]
    · cases held with
      | nil =>
        simp at b
        simp [k_fault_Hit, jI, mI, taskD, b, al, hp]
      | cons h0 held =>
        simp at b
        simp [k_fault_Hit, jI, mI, taskD, b, al, hp]
  | false =>
    by_cases hp : p = 2
    · subst hp
      cases held with
      | nil =>
        have := hF0 rfl; subst this
        simp at b lo
        simp [k_fault_Hit, jI, mI, taskD, b, al, lo]
      | cons h0 held =>
        simp at b lo
        simp [k_fault_Hit, jI, mI, taskD, b, al, lo]
    · cases held with
      | nil =>
        simp at b
        simp [k_fault_Hit, jI, mI, taskD, b, al, hp]
      | cons h0 held =>
        simp at b
        simp [k_fault_Hit, jI, mI, taskD, b, al, hp]
set_option maxRecDepth 100000 in
theorem fault_begun : run kp (.data f_law22_begun []) = some (.ds [.bool true]) := run_of (n := 4000) (by kernel_rfl)
theorem new_machI (x : Int) : run kp (.data f_ref1_NewMachine [.int .i64 x]) = some (.ds [mI x]) := by
  rw [run_data, run_call, kp_ref1_NewMachine]
  simp [k_ref1_NewMachine, mI]
theorem new_jobI (t a i : Int) : run kp (.data f_ref19_NewJob [.int .i64 t, .int .i64 a, .int .i64 i]) = some (.ds [jI t a i 0 i true [] false]) := by
  rw [run_data, run_call, kp_ref19_NewJob]
  have m := new_machI i
  simp only [mI] at m
  simp [k_ref19_NewJob, jI, mI, m]
def hOf (x : Int) : Int := IntKind.i64.wrap (x.tmod 6)
def faV (k : Nat) (t p : Int) : List Int → V
  | [] => .d (jI t 3 9 p 9 true [] false)
  | _ :: h => .agg [.int .i64 t, .int .i64 3, .int .i64 9, .int .i64 p, .d (mI 9), .d (mI 9), .sl false k 0 (h.length + 1), .bool false]
def faH (k : Nat) : List Int → Hp
  | [] => []
  | a :: h => [(k, .row true (.int .i64 a :: h.map (.int .i64)))]
def faN : List Int → Nat
  | [] => 0
  | _ :: _ => 1
def faSt (nl ns : Bool) (held : List Int) (l : List Sema) (t p : Int) (ex : List (Nat × V)) (i : Int) (h : List Int) : St :=
  { env := [(2, .asl nl (held.map (.int .u8))), (3, .asl ns (l.map Sema.d)), (9, .ptr 0 []), (10, .int .i64 i)] ++ ex, hp := (0, .box (faV 1 t p h)) :: faH 1 h, tl := fun _ => none, base := 0, next := 1 + faN h }
set_option maxHeartbeats 4000000 in
theorem fa_loop0 (nl ns : Bool) (held : List Int) (hf : held.length ≤ 1000) (l : List Sema) (t p : Int) : ∀ (rest pre : List Int), held = pre ++ rest → ∀ (i : Int), i = pre.length →
    run kp (.loop [2, 3, 9, 10] k_law22_FaultApart_L0 (faSt nl ns held l t p [] i (pre.map hOf))) = some (.out (.ext 0) (faSt nl ns held l t p [(37, .bool false)] held.length (held.map hOf)))
  | [], pre, h, i, hi => by
    simp at h
    subst h hi
    rw [run_round]
    cases held <;> simp [c_law22_FaultApart_L0, k_law22_FaultApart_L0b, faSt, faV, faH, faN, jI, mI]
  | w :: rest, pre, h, i, hi => by
    have hli : i < held.length := by rw [h, hi]; simp; omega
    have h0 : 0 ≤ i := by omega
    have hget0 : held[i.toNat]? = some w := by rw [h, hi]; simp
    have hget : ∀ hh : i.toNat < held.length, held[i.toNat] = w := fun hh => by rw [List.getElem?_eq_getElem hh] at hget0; injection hget0
    have hw : IntKind.i64.wrap (i + 1) = i + 1 := wrap_i64 (by omega) (by omega)
    have ih := fa_loop0 nl ns held hf l t p rest (pre ++ [w]) (by simp [h]) (i + 1) (by simp [hi])
    rw [← ih, run_round]
    have hp : (pre.map hOf).length ≤ 1000 := by simp; omega
    rw [List.map_append]
    generalize pre.map hOf = pm at *
    cases pm with
    | nil => simp [c_law22_FaultApart_L0, k_law22_FaultApart_L0b, h0, hli, hget, hw, faSt, faV, faH, faN, jI, mI, hOf]
    | cons a q =>
      simp only [List.length_cons] at hp
      have : q.length ≤ 1073741822 := by omega
      simp [c_law22_FaultApart_L0, k_law22_FaultApart_L0b, h0, hli, hget, hw, faSt, faV, faH, faN, jI, mI, hOf, this]
def fbSt (l : List Sema) (t p : Int) (ex : List (Nat × V)) (i : Int) (h : List Int) : St :=
  { env := [(3, .asl false (l.map Sema.d)), (9, .ptr 0 []), (12, .sl false (1 + faN h) 0 l.length), (14, .int .i64 i)] ++ ex, hp := (0, .box (faV 1 t p h)) :: (faH 1 h ++ [(1 + faN h, .row true ((l.map (freeS t)).map Sema.d))]), tl := fun _ => none, base := 0, next := 2 + faN h }
set_option maxHeartbeats 4000000 in
theorem fa_loop1 (l : List Sema) (hf : l.length ≤ 1000) (t p : Int) (h : List Int) : ∀ (rest pre : List Sema), l = pre ++ rest → ∀ (i : Int), i = pre.length →
    run kp (.loop [3, 9, 12, 14] k_law22_FaultApart_L1 (fbSt l t p [] i h)) = some (.out (.ext 2) (fbSt l t p [(86, .bool false)] l.length h))
  | [], pre, e, i, hi => by
    simp at e
    subst e hi
    rw [run_round]
    cases h <;> simp [c_law22_FaultApart_L1, k_law22_FaultApart_L1b, fbSt, faV, faH, faN, jI, mI]
  | w :: rest, pre, e, i, hi => by
    have hli : i < l.length := by rw [e, hi]; simp; omega
    have h0 : 0 ≤ i := by omega
    have hln : i.toNat < l.length := by omega
    have hget0 : l[i.toNat]? = some w := by rw [e, hi]; simp
    have hget : ∀ hh : i.toNat < l.length, l[i.toNat] = w := fun hh => by rw [List.getElem?_eq_getElem hh] at hget0; injection hget0
    have hw : IntKind.i64.wrap (i + 1) = i + 1 := wrap_i64 (by omega) (by omega)
    have ih := fa_loop1 l hf t p h rest (pre ++ [w]) (by simp [e]) (i + 1) (by simp [hi])
    rw [← ih, run_round]
    by_cases hm : w.holder = IntKind.i64.wrap (t + 1)
    · have hfr : freeS t w = ⟨w.ceil, 0⟩ := by simp [freeS, hm]
      cases h <;> simp [c_law22_FaultApart_L1, k_law22_FaultApart_L1b, fbSt, faV, faH, faN, jI, mI, h0, hli, hln, hget, hget0, hw, hm, hfr, Sema.d]
    · have hfr : freeS t w = w := by simp [freeS, hm]
      cases h <;> simp [c_law22_FaultApart_L1, k_law22_FaultApart_L1b, fbSt, faV, faH, faN, jI, mI, h0, hli, hln, hget, hget0, hw, hm, hfr, Sema.d]
theorem fa_loop1n (t p : Int) (h : List Int) :
    run kp (.loop [3, 9, 12, 14] k_law22_FaultApart_L1 { env := [(3, .asl true []), (9, .ptr 0 []), (12, .d (.sl true [])), (14, .int .i64 0)], hp := (0, .box (faV 1 t p h)) :: faH 1 h, tl := fun _ => none, base := 0, next := 1 + faN h }) =
    some (.out (.ext 2) { env := [(3, .asl true []), (9, .ptr 0 []), (12, .d (.sl true [])), (14, .int .i64 0), (86, .bool false)], hp := (0, .box (faV 1 t p h)) :: faH 1 h, tl := fun _ => none, base := 0, next := 1 + faN h }) := by
  rw [run_round]
  cases h <;> simp [c_law22_FaultApart_L1, k_law22_FaultApart_L1b, faV, faH, faN, jI, mI]
set_option maxRecDepth 10000 in
set_option maxHeartbeats 16000000 in
theorem law_FaultApart (xs : List D) (h : Sh.hasL [.i .u8, .i .u8, .sl (.i .u8), .sl semaSh] xs) : run kp (.data f_law22_FaultApart xs) = some (.ds [.bool true]) := by
  obtain ⟨x1, _, rfl, h1, h⟩ := hasL_cons h
  obtain ⟨x2, _, rfl, h2, h⟩ := hasL_cons h
  obtain ⟨x3, _, rfl, h3, h⟩ := hasL_cons h
  obtain ⟨x4, _, rfl, h4, h⟩ := hasL_cons h
  obtain rfl := hasL_nil h
  obtain ⟨task, rfl, k1⟩ := has_int h1
  obtain ⟨phase, rfl, k2⟩ := has_int h2
  obtain ⟨nl, held, rfl, _, _, hw⟩ := has_nums h3
  obtain ⟨ns, l, rfl, hns, _, _⟩ := has_semas h4
  have ht0 := wf_u8 k1
  rw [run_data, run_call, kp_law22_FaultApart]
  by_cases c1 : 6 < held.length
  · have a1 : (6 : Int) < held.length := by omega
    simp [k_law22_FaultApart, fault_begun, a1]
  · have a1 : ¬ (6 : Int) < held.length := by omega
    by_cases c2 : 6 < l.length
    · have a2 : (6 : Int) < l.length := by omega
      simp [k_law22_FaultApart, fault_begun, a1, a2]
    · have a2 : ¬ (6 : Int) < l.length := by omega
      obtain ⟨t, ht, htn⟩ : ∃ t, IntKind.i64.wrap (task.tmod 8) = t ∧ 0 ≤ t := by
        refine ⟨_, rfl, ?_⟩
        rw [Int.tmod_eq_emod_of_nonneg ht0.1, wrap_i64 (by omega) (by omega)]; omega
      obtain ⟨p, hp⟩ : ∃ p, IntKind.i64.wrap (phase.tmod 3) = p := ⟨_, rfl⟩
      have nj := new_jobI t 3 9
      have l0 := fa_loop0 nl ns held (by omega) l t p held [] rfl 0 rfl
      have hH : (held.map hOf).length ≤ 100 := by simp; omega
      simp only [List.map_nil] at l0
      generalize held.map hOf = H at *
      have hit := fault_HitI t 3 9 p 9 htn false H (by omega) ns l hns (by omega)
      unfold hitF at hit
      have hF0 : H = [] → leftF (-1) H = [] := fun e => by rw [e]; rfl
      generalize leftF (-1) H = F at *
      simp only [jI, mI] at nj
      simp only [jI, mI, taskD] at hit
      cases ns with
      | true =>
        have := hns rfl; subst this
        have l1 := fa_loop1n t p H
        simp only [List.map_nil] at hit
        by_cases hp2 : p = 2
        · subst hp2
          cases H with
          | nil =>
            have := hF0 rfl; subst this
            simp [faSt, faV, faH, faN, jI, mI] at l0 l1
            simp at hit
            simp [k_law22_FaultApart, fault_begun, a1, ht, hp, nj, l0, l1, hit]
          | cons a H =>
            simp [faSt, faV, faH, faN, jI, mI] at l0 l1
            simp at hit
            simp [k_law22_FaultApart, fault_begun, a1, ht, hp, nj, l0, l1, hit]
        · rw [if_neg hp2, if_neg hp2] at hit
          cases H with
          | nil =>
            simp [faSt, faV, faH, faN, jI, mI] at l0 l1
            simp at hit
            simp [k_law22_FaultApart, fault_begun, a1, ht, hp, nj, l0, l1, hit]
          | cons a H =>
            simp [faSt, faV, faH, faN, jI, mI] at l0 l1
            simp at hit
            simp [k_law22_FaultApart, fault_begun, a1, ht, hp, nj, l0, l1, hit]
      | false =>
        have l1 := fa_loop1 l (by omega) t p H l [] rfl 0 rfl
        simp only [fbSt] at l1
        have hsl : ((l.map (freeS t)).map Sema.d).length = l.length := by simp
        generalize (l.map (freeS t)).map Sema.d = sd at *
        by_cases hp2 : p = 2
        · subst hp2
          cases H with
          | nil =>
            have := hF0 rfl; subst this
            simp [faSt, faV, faH, faN, jI, mI] at l0 l1
            simp at hit
            simp [k_law22_FaultApart, fault_begun, a1, a2, ht, hp, nj, l0, l1, hit, hsl]
          | cons a H =>
            simp [faSt, faV, faH, faN, jI, mI] at l0 l1
            simp at hit
            simp [k_law22_FaultApart, fault_begun, a1, a2, ht, hp, nj, l0, l1, hit, hsl]
        · rw [if_neg hp2, if_neg hp2] at hit
          cases H with
          | nil =>
            simp [faSt, faV, faH, faN, jI, mI] at l0 l1
            simp at hit
            simp [k_law22_FaultApart, fault_begun, a1, a2, ht, hp, nj, l0, l1, hit, hsl]
          | cons a H =>
            simp [faSt, faV, faH, faN, jI, mI] at l0 l1
            simp at hit
            simp [k_law22_FaultApart, fault_begun, a1, a2, ht, hp, nj, l0, l1, hit, hsl]
end Go.Cd
