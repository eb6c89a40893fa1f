/- The law BandAll, as the evaluator has it. No conditions. -/
import Derived.Test.YtohopligfihopaaR1QBand
import Derived.Test.YtohopligfihopaaS5
import Derived.KernelRfl
set_option linter.unusedVariables false
set_option linter.unusedSimpArgs false
namespace Go.Cd
open Go Go.Fw
def semaSh : Sh := .st [.i .i64, .i .i64]
theorem has_sema {x : D} (h : Sh.has semaSh x) : ∃ s : Sema, x = s.d ∧ (Lit.int .i64 s.ceil).wf = true ∧ (Lit.int .i64 s.holder).wf = true := by
  obtain ⟨l, rfl, h⟩ := has_st h
  obtain ⟨a, _, rfl, h1, h⟩ := hasL_cons h
  obtain ⟨b, _, rfl, h2, h⟩ := hasL_cons h
  obtain rfl := hasL_nil h
  obtain ⟨a, rfl, k1⟩ := has_int h1
  obtain ⟨b, rfl, k2⟩ := has_int h2
  exact ⟨⟨a, b⟩, rfl, k1, k2⟩
theorem has_semas {x : D} (h : Sh.has (.sl semaSh) x) : ∃ nl l, x = .sl nl (l.map Sema.d) ∧ (nl = true → l = []) ∧ l.length ≤ maxLen ∧ ∀ s ∈ l, (Lit.int .i64 s.ceil).wf = true ∧ (Lit.int .i64 s.holder).wf = true := by
  obtain ⟨nl, l, rfl, h1, h2, h3⟩ := has_sl h
  obtain ⟨m, rfl, hm⟩ := all_typed (f := Sema.d) (fun y hy => has_sema hy) l h3
  exact ⟨nl, m, rfl, by simpa using h1, by simpa using h2, hm⟩
def repSh : Sh := .st [.i .i64, .i .i64, .i .i64]
theorem has_rep {x : D} (h : Sh.has repSh x) : ∃ r : Rep, x = r.d := by
  obtain ⟨l, rfl, h⟩ := has_st h
  obtain ⟨a, _, rfl, h1, h⟩ := hasL_cons h
  obtain ⟨b, _, rfl, h2, h⟩ := hasL_cons h
  obtain ⟨c, _, rfl, h3, h⟩ := hasL_cons h
  obtain rfl := hasL_nil h
  obtain ⟨a, rfl, k1⟩ := has_int h1
  obtain ⟨b, rfl, k2⟩ := has_int h2
  obtain ⟨c, rfl, k3⟩ := has_int h3
  exact ⟨⟨a, b, c⟩, rfl⟩
def machSh : Sh := .st [.i .i64, .ar 8 (.i .i64), .sl repSh, .b]
theorem has_mach {x : D} (h : Sh.has machSh x) : ∃ m : Mach, x = m.d ∧ m.mem.length = 8 := by
  obtain ⟨l, rfl, h⟩ := has_st h
  obtain ⟨a, _, rfl, h1, h⟩ := hasL_cons h
  obtain ⟨b, _, rfl, h2, h⟩ := hasL_cons h
  obtain ⟨c, _, rfl, h3, h⟩ := hasL_cons h
  obtain ⟨d, _, rfl, h4, h⟩ := hasL_cons h
  obtain rfl := hasL_nil h
  obtain ⟨a, rfl, k1⟩ := has_int h1
  obtain ⟨b, rfl, h2, h2'⟩ := has_ar h2
  obtain ⟨b, rfl, h2''⟩ := all_typed (f := D.int .i64) (fun y hy => has_int hy) b h2'
  obtain ⟨nl, c, rfl, h3, _, h3'⟩ := has_sl h3
  obtain ⟨c, rfl, _⟩ := all_typed (f := Rep.d) (p := fun _ => True) (fun y hy => by obtain ⟨r, hr⟩ := has_rep hy; exact ⟨r, hr, trivial⟩) c h3'
  obtain ⟨d, rfl⟩ := has_bool h4
  exact ⟨⟨a, b, nl, c, d⟩, rfl, by simpa using h2⟩
def jobSh : Sh := .st [.i .i64, .i .i64, .i .i64, .i .i64, machSh, machSh, .sl (.i .i64), .b]
theorem has_job {x : D} (h : Sh.has jobSh x) : ∃ j : Job, x = j.d ∧ (Lit.int .i64 j.task).wf = true ∧ (Lit.int .i64 j.phase).wf = true ∧ j.held.length ≤ maxLen ∧ (∀ n ∈ j.held, (Lit.int .i64 n).wf = true) := by
  obtain ⟨l, rfl, h⟩ := has_st h
  obtain ⟨a, _, rfl, h1, h⟩ := hasL_cons h
  obtain ⟨b, _, rfl, h2, h⟩ := hasL_cons h
  obtain ⟨c, _, rfl, h3, h⟩ := hasL_cons h
  obtain ⟨d, _, rfl, h4, h⟩ := hasL_cons h
  obtain ⟨m, _, rfl, h5, h⟩ := hasL_cons h
  obtain ⟨k, _, rfl, h6, h⟩ := hasL_cons h
  obtain ⟨g, _, rfl, h7, h⟩ := hasL_cons h
  obtain ⟨u, _, rfl, h8, h⟩ := hasL_cons h
  obtain rfl := hasL_nil h
  obtain ⟨a, rfl, k1⟩ := has_int h1
  obtain ⟨b, rfl, k2⟩ := has_int h2
  obtain ⟨c, rfl, k3⟩ := has_int h3
  obtain ⟨d, rfl, k4⟩ := has_int h4
  obtain ⟨m, rfl, h5⟩ := has_mach h5
  obtain ⟨k, rfl, h6⟩ := has_mach h6
  obtain ⟨hn, g, rfl, _, h7, h7'⟩ := has_nums h7
  obtain ⟨u, rfl⟩ := has_bool h8
  exact ⟨⟨a, b, c, d, m, k, hn, g, u⟩, rfl, k1, k4, h7, h7'⟩

/-- The two ways to the least ceiling come to one. -/
theorem low_same (l : List Sema) (task : Int) (ht : 0 ≤ task) : ∀ (rest seen : List Int) (low : Int) (ok : Bool), (ok = true → ∀ s ∈ seen, low ≤ semaCeil l s) → (seen ≠ [] → ok = true) →
    ((lowF l task rest seen low ok).1, (lowF l task rest seen low ok).2.1) = refLowF l task rest low ok
  | [], seen, low, ok, _, _ => rfl
  | s :: r, seen, low, ok, h1, h2 => by
    simp only [lowF, refLowF]
    cases hx : semaAt l s with
    | none =>
      have : semaHolds l s task = false := by simp [semaHolds, hx]
      simp only [this]
      simpa using low_same l task ht r seen low ok h1 h2
    | some x =>
      have hc : semaCeil l s = x.ceil := by simp [semaCeil, hx]
      by_cases hh : x.holder = IntKind.i64.wrap (task + 1)
      · have hho : semaHolds l s task = true := by simp [semaHolds, hx, ht, hh]
        by_cases hs : s ∈ seen
        · have hok := h2 (fun e => by rw [e] at hs; cases hs)
          have hle := h1 hok s hs
          rw [hc] at hle
          simp only [hho, hs, hh, hok, hle]
          simpa using low_same l task ht r seen low true (fun _ => h1 hok) (fun _ => rfl)
        · simp only [hho, hs, hh, hc]
          by_cases hk : ok = true ∧ low ≤ x.ceil
          · obtain ⟨hok, hle⟩ := hk
            simp only [hok, hle]
            simpa using low_same l task ht r (seen ++ [s]) low true (fun _ y hy => by
              rcases List.mem_append.1 hy with hy | hy
              · exact h1 hok y hy
              · simp at hy; subst hy; rw [hc]; exact hle) (fun _ => rfl)
          · simp only [hk]
            simpa using low_same l task ht r (seen ++ [s]) x.ceil true (fun _ y hy => by
              rcases List.mem_append.1 hy with hy | hy
              · have hok := h2 (fun e => by rw [e] at hy; cases hy)
                have := h1 hok y hy
                have : ¬ low ≤ x.ceil := fun e => hk ⟨hok, e⟩
                omega
              · simp at hy; subst hy; rw [hc]; exact Int.le_refl _) (fun _ => rfl)
      · have hho : semaHolds l s task = false := by simp [semaHolds, hx, hh]
        simp only [hho, hh]
        simpa using low_same l task ht r seen low ok h1 h2
theorem base_same (j : Job) (n : Int) : baseF j n = refBaseF j n := by
  have : n + n = 2 * n := by omega
  simp [baseF, refBaseF, this]
theorem band_same (j : Job) (n : Int) (l : List Sema) (ht : 0 ≤ j.task) : ofF j n l = refBandF j n l := by
  have h := low_same l j.task ht j.held [] 0 false (fun h => by cases h) (fun h => absurd rfl h)
  have e1 : (lowF l j.task j.held [] 0 false).1 = (refLowF l j.task j.held 0 false).1 := by rw [← h]
  have e2 : (lowF l j.task j.held [] 0 false).2.1 = (refLowF l j.task j.held 0 false).2 := by rw [← h]
  simp only [ofF, refBandF, e1, e2, base_same]
  by_cases h1 : (refLowF l j.task j.held 0 false).2 = true <;> simp [h1]
set_option maxRecDepth 100000 in
theorem band_begun : run kp (.data f_law20_begun []) = some (.ds [.bool true]) := run_of (n := 2000) (by kernel_rfl)
theorem bandAll_loop (n t : Int) (nl : Bool) (l : List Sema) (j : Job) (N : Nat) (hN : (N : Int) ≤ 6) : ∀ (k : Nat) (i : Nat) (m : List Sema), i + k = N → m.length = N → ∃ m' : List Sema, m'.length = N ∧
    run kp (.loop [1, 2, 3, 7, 8, 9] k_law20_BandAll_L0 { env := [(1, V.int IntKind.i64 n), (2, V.asl nl (List.map Sema.d l)), (3, V.ptr 0 []), (7, V.ptr 1 []),
                      (8, V.sl false 3 0 N), (9, V.int IntKind.i64 i)], hp := [(0, Blk.box (V.agg [V.int IntKind.i64 j.task, V.int IntKind.i64 j.at_, V.int IntKind.i64 j.inp,
                              V.int IntKind.i64 j.phase, argV j.m.d, argV j.kept.d, V.asl j.hn (List.map (D.int IntKind.i64) j.held), V.bool j.up])),
                      (1, Blk.box (V.agg [V.int IntKind.i64 t, V.int IntKind.i64 j.at_, V.int IntKind.i64 j.inp, V.int IntKind.i64 j.phase, argV j.m.d,
                              argV j.kept.d, V.sl false 2 0 2, V.bool j.up])),
                      (2, Blk.row true [D.int IntKind.i64 0, D.int IntKind.i64 1]), (3, Blk.row true (List.map Sema.d m))], tl := fun _ => none, base := 0, next := 4 }) =
    some (.out (.ext 0) { env := [(1, V.int IntKind.i64 n), (2, V.asl nl (List.map Sema.d l)), (3, V.ptr 0 []), (7, V.ptr 1 []),
                      (8, V.sl false 3 0 N), (9, V.int IntKind.i64 N), (54, .bool false)], hp := [(0, Blk.box (V.agg [V.int IntKind.i64 j.task, V.int IntKind.i64 j.at_, V.int IntKind.i64 j.inp,
                              V.int IntKind.i64 j.phase, argV j.m.d, argV j.kept.d, V.asl j.hn (List.map (D.int IntKind.i64) j.held), V.bool j.up])),
                      (1, Blk.box (V.agg [V.int IntKind.i64 t, V.int IntKind.i64 j.at_, V.int IntKind.i64 j.inp, V.int IntKind.i64 j.phase, argV j.m.d,
                              argV j.kept.d, V.sl false 2 0 2, V.bool j.up])),
                      (2, Blk.row true [D.int IntKind.i64 0, D.int IntKind.i64 1]), (3, Blk.row true (List.map Sema.d m'))], tl := fun _ => none, base := 0, next := 4 })
  | 0, i, m, hi, hm => by
    have : i = N := by omega
    subst this
    refine ⟨m, hm, ?_⟩
    rw [run_round]
    simp [c_law20_BandAll_L0, k_law20_BandAll_L0b]
  | k + 1, i, m, hi, hm => by
    have hlt : (i : Int) < N := by omega
    have hlt' : i < N := by omega
    have hget : m[i]? = some (m[i]'(by omega)) := List.getElem?_eq_getElem (by omega)
    have hw : IntKind.i64.wrap ((i : Int) + 1) = ((i + 1 : Nat) : Int) := by rw [wrap_i64 (by omega) (by omega)]; simp
    obtain ⟨m', hl', h'⟩ := bandAll_loop n t nl l j N hN k (i + 1) (m.set i ⟨(m[i]'(by omega)).ceil, IntKind.i64.wrap (IntKind.i64.wrap (t + 1) - (i : Int).tmod 2)⟩) (by omega) (by simpa using hm)
    refine ⟨m', hl', ?_⟩
    rw [← h', run_round]
    simp only [List.map_set, Sema.d] 
    simp [c_law20_BandAll_L0, k_law20_BandAll_L0b, hlt, hlt', hw, hm, Sema.d]
theorem band_all (j : Job) (hj : j.held.length ≤ maxLen) (ht : (Lit.int .i64 j.task).wf = true) (n : Int) (nl : Bool) (l : List Sema) : run kp (.data f_law20_BandAll [j.d, .int .i64 n, .sl nl (l.map Sema.d)]) = some (.ds [.bool true]) := by
  rw [run_data, run_call, kp_law20_BandAll]
  by_cases hg : 6 < j.held.length ∨ 6 < l.length ∨ n < -1099511627776 ∨ 1099511627776 < n ∨ 1099511627776 < j.task ∨ j.task < 0
  · by_cases g1 : (6 : Int) < j.held.length
    · simp [k_law20_BandAll, Job.argV, band_begun, g1]
    · by_cases g2 : (6 : Int) < l.length
      · simp [k_law20_BandAll, Job.argV, band_begun, g1, g2]
      · by_cases g3 : n < -1099511627776
        · simp [k_law20_BandAll, Job.argV, band_begun, g1, g2, g3]
        · by_cases g4 : 1099511627776 < n
          · simp [k_law20_BandAll, Job.argV, band_begun, g1, g2, g3, g4]
          · by_cases g5 : 1099511627776 < j.task
            · simp [k_law20_BandAll, Job.argV, band_begun, g1, g2, g3, g4, g5]
            · have g6 : j.task < 0 := by omega
              simp [k_law20_BandAll, Job.argV, band_begun, g1, g2, g3, g4, g5, g6]
  · simp only [not_or, Nat.not_lt, Int.not_lt] at hg
    obtain ⟨g1, g2, g3, g4, g5, g6⟩ := hg
    have g1' : (j.held.length : Int) ≤ 6 := by omega
    have g2' : (l.length : Int) ≤ 6 := by omega
    have g2'' : l.length ≤ 1073741824 := by omega
    have hu : IntKind.u64.wrap j.task = j.task := wrap_u64 g6 (by omega)
    have hm : 0 ≤ j.task.tmod 4 ∧ j.task.tmod 4 < 4 := by rw [Int.tmod_eq_emod_of_nonneg g6]; omega
    obtain ⟨m', hl', hm'⟩ := bandAll_loop n (j.task.tmod 4) nl l j l.length g2' l.length 0 l (by omega) rfl
    simp only [Int.natCast_zero] at hm'
    have hfold : D.agg [D.int .i64 (j.task.tmod 4), D.int .i64 j.at_, D.int .i64 j.inp, D.int .i64 j.phase, j.m.d, j.kept.d, D.sl false [D.int .i64 0, D.int .i64 1], D.bool j.up] = Job.d ⟨j.task.tmod 4, j.at_, j.inp, j.phase, j.m, j.kept, false, [0, 1], j.up⟩ := rfl
    have h2m : 2 ≤ maxLen := by simp [maxLen]
    have htake : List.take l.length (List.map Sema.d m') = List.map Sema.d m' := List.take_of_length_le (by simp [hl'])
    simp [k_law20_BandAll, Job.argV, band_begun, hu, wrap_i64 (x := j.task.tmod 4) (by omega) (by omega), hm', band_Of, band_Base, ref19_Base, ref19_Band, hj, g1', g2', g2'', g3, g4, g5, g6, base_same, band_same, hl', hfold, htake, hm, h2m]
theorem law_BandAll (xs : List D) (h : Sh.hasL [jobSh, .i .i64, .sl semaSh] xs) : run kp (.data f_law20_BandAll xs) = some (.ds [.bool true]) := by
  obtain ⟨a, _, rfl, h1, h⟩ := hasL_cons h
  obtain ⟨b, _, rfl, h2, h⟩ := hasL_cons h
  obtain ⟨c, _, rfl, h3, h⟩ := hasL_cons h
  obtain rfl := hasL_nil h
  obtain ⟨j, rfl, k1, _, k3, _⟩ := has_job h1
  obtain ⟨n, rfl, _⟩ := has_int h2
  obtain ⟨nl, l, rfl, _⟩ := has_semas h3
  exact band_all j k3 k1 n nl l
end Go.Cd
