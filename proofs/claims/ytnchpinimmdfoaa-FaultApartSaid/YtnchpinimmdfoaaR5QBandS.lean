/- Shapes of semaphores and jobs; the two ways to a band come to one. No conditions. -/
import Derived.Test.YtnchpinimmdfoaaR5QBand
import Derived.Test.YtnchpinimmdfoaaS5
set_option linter.unusedVariables false
set_option linter.unusedSimpArgs false
namespace Go.Cd
open Go Go.Fw
def semaSh : Sh := .st [.i .i64, .i .i64]
theorem has_sema {x : D} (h : Sh.has semaSh x) : ∃ s : Sema, x = s.d ∧ (Lit.int .i64 s.ceil).wf = true ∧ (Lit.int .i64 s.holder).wf = true := by
  obtain ⟨l, rfl, h⟩ := has_st h
  obtain ⟨a, _, rfl, h1, h⟩ := hasL_cons h
  obtain ⟨b, _, rfl, h2, h⟩ := hasL_cons h
  obtain rfl := hasL_nil h
  obtain ⟨a, rfl, k1⟩ := has_int h1
  obtain ⟨b, rfl, k2⟩ := has_int h2
  exact ⟨⟨a, b⟩, rfl, k1, k2⟩
theorem has_semas {x : D} (h : Sh.has (.sl semaSh) x) : ∃ nl l, x = .sl nl (l.map Sema.d) ∧ (nl = true → l = []) ∧ l.length ≤ maxLen ∧ ∀ s ∈ l, (Lit.int .i64 s.ceil).wf = true ∧ (Lit.int .i64 s.holder).wf = true := by
  obtain ⟨nl, l, rfl, h1, h2, h3⟩ := has_sl h
  obtain ⟨m, rfl, hm⟩ := all_typed (f := Sema.d) (fun y hy => has_sema hy) l h3
  exact ⟨nl, m, rfl, by simpa using h1, by simpa using h2, hm⟩
def repSh : Sh := .st [.i .i64, .i .i64, .i .i64]
theorem has_rep {x : D} (h : Sh.has repSh x) : ∃ r : Rep, x = r.d := by
  obtain ⟨l, rfl, h⟩ := has_st h
  obtain ⟨a, _, rfl, h1, h⟩ := hasL_cons h
  obtain ⟨b, _, rfl, h2, h⟩ := hasL_cons h
  obtain ⟨c, _, rfl, h3, h⟩ := hasL_cons h
  obtain rfl := hasL_nil h
  obtain ⟨a, rfl, k1⟩ := has_int h1
  obtain ⟨b, rfl, k2⟩ := has_int h2
  obtain ⟨c, rfl, k3⟩ := has_int h3
  exact ⟨⟨a, b, c⟩, rfl⟩
def machSh : Sh := .st [.i .i64, .ar 8 (.i .i64), .sl repSh, .b]
theorem has_mach {x : D} (h : Sh.has machSh x) : ∃ m : Mach, x = m.d ∧ m.mem.length = 8 := by
  obtain ⟨l, rfl, h⟩ := has_st h
  obtain ⟨a, _, rfl, h1, h⟩ := hasL_cons h
  obtain ⟨b, _, rfl, h2, h⟩ := hasL_cons h
  obtain ⟨c, _, rfl, h3, h⟩ := hasL_cons h
  obtain ⟨d, _, rfl, h4, h⟩ := hasL_cons h
  obtain rfl := hasL_nil h
  obtain ⟨a, rfl, k1⟩ := has_int h1
  obtain ⟨b, rfl, h2, h2'⟩ := has_ar h2
  obtain ⟨b, rfl, h2''⟩ := all_typed (f := D.int .i64) (fun y hy => has_int hy) b h2'
  obtain ⟨nl, c, rfl, h3, _, h3'⟩ := has_sl h3
  obtain ⟨c, rfl, _⟩ := all_typed (f := Rep.d) (p := fun _ => True) (fun y hy => by obtain ⟨r, hr⟩ := has_rep hy; exact ⟨r, hr, trivial⟩) c h3'
  obtain ⟨d, rfl⟩ := has_bool h4
  exact ⟨⟨a, b, nl, c, d⟩, rfl, by simpa using h2⟩
def jobSh : Sh := .st [.i .i64, .i .i64, .i .i64, .i .i64, machSh, machSh, .sl (.i .i64), .b]
theorem has_job {x : D} (h : Sh.has jobSh x) : ∃ j : Job, x = j.d ∧ (Lit.int .i64 j.task).wf = true ∧ (Lit.int .i64 j.phase).wf = true ∧ j.held.length ≤ maxLen ∧ (∀ n ∈ j.held, (Lit.int .i64 n).wf = true) := by
  obtain ⟨l, rfl, h⟩ := has_st h
  obtain ⟨a, _, rfl, h1, h⟩ := hasL_cons h
  obtain ⟨b, _, rfl, h2, h⟩ := hasL_cons h
  obtain ⟨c, _, rfl, h3, h⟩ := hasL_cons h
  obtain ⟨d, _, rfl, h4, h⟩ := hasL_cons h
  obtain ⟨m, _, rfl, h5, h⟩ := hasL_cons h
  obtain ⟨k, _, rfl, h6, h⟩ := hasL_cons h
  obtain ⟨g, _, rfl, h7, h⟩ := hasL_cons h
  obtain ⟨u, _, rfl, h8, h⟩ := hasL_cons h
  obtain rfl := hasL_nil h
  obtain ⟨a, rfl, k1⟩ := has_int h1
  obtain ⟨b, rfl, k2⟩ := has_int h2
  obtain ⟨c, rfl, k3⟩ := has_int h3
  obtain ⟨d, rfl, k4⟩ := has_int h4
  obtain ⟨m, rfl, h5⟩ := has_mach h5
  obtain ⟨k, rfl, h6⟩ := has_mach h6
  obtain ⟨hn, g, rfl, _, h7, h7'⟩ := has_nums h7
  obtain ⟨u, rfl⟩ := has_bool h8
  exact ⟨⟨a, b, c, d, m, k, hn, g, u⟩, rfl, k1, k4, h7, h7'⟩

/-- The two ways to the least ceiling come to one. -/
theorem low_same (l : List Sema) (task : Int) (ht : 0 ≤ task) : ∀ (rest seen : List Int) (low : Int) (ok : Bool), (ok = true → ∀ s ∈ seen, low ≤ semaCeil l s) → (seen ≠ [] → ok = true) →
    ((lowF l task rest seen low ok).1, (lowF l task rest seen low ok).2.1) = refLowF l task rest low ok
  | [], seen, low, ok, _, _ => rfl
  | s :: r, seen, low, ok, h1, h2 => by
    simp only [lowF, refLowF]
    cases hx : semaAt l s with
    | none =>
      have : semaHolds l s task = false := by simp [semaHolds, hx]
      simp only [this]
      simpa using low_same l task ht r seen low ok h1 h2
    | some x =>
      have hc : semaCeil l s = x.ceil := by simp [semaCeil, hx]
      by_cases hh : x.holder = IntKind.i64.wrap (task + 1)
      · have hho : semaHolds l s task = true := by simp [semaHolds, hx, ht, hh]
        by_cases hs : s ∈ seen
        · have hok := h2 (fun e => by rw [e] at hs; cases hs)
          have hle := h1 hok s hs
          rw [hc] at hle
          simp only [hho, hs, hh, hok, hle]
          simpa using low_same l task ht r seen low true (fun _ => h1 hok) (fun _ => rfl)
        · simp only [hho, hs, hh, hc]
          by_cases hk : ok = true ∧ low ≤ x.ceil
          · obtain ⟨hok, hle⟩ := hk
            simp only [hok, hle]
            simpa using low_same l task ht r (seen ++ [s]) low true (fun _ y hy => by
              rcases List.mem_append.1 hy with hy | hy
              · exact h1 hok y hy
              · simp at hy; subst hy; rw [hc]; exact hle) (fun _ => rfl)
          · simp only [hk]
            simpa using low_same l task ht r (seen ++ [s]) x.ceil true (fun _ y hy => by
              rcases List.mem_append.1 hy with hy | hy
              · have hok := h2 (fun e => by rw [e] at hy; cases hy)
                have := h1 hok y hy
                have : ¬ low ≤ x.ceil := fun e => hk ⟨hok, e⟩
                omega
              · simp at hy; subst hy; rw [hc]; exact Int.le_refl _) (fun _ => rfl)
      · have hho : semaHolds l s task = false := by simp [semaHolds, hx, hh]
        simp only [hho, hh]
        simpa using low_same l task ht r seen low ok h1 h2
theorem base_same (j : Job) (n : Int) : baseF j n = refBaseF j n := by
  have : n + n = 2 * n := by omega
  simp [baseF, refBaseF, this]
theorem band_same (j : Job) (n : Int) (l : List Sema) (ht : 0 ≤ j.task) : ofF j n l = refBandF j n l := by
  have h := low_same l j.task ht j.held [] 0 false (fun h => by cases h) (fun h => absurd rfl h)
  have e1 : (lowF l j.task j.held [] 0 false).1 = (refLowF l j.task j.held 0 false).1 := by rw [← h]
  have e2 : (lowF l j.task j.held [] 0 false).2.1 = (refLowF l j.task j.held 0 false).2 := by rw [← h]
  simp only [ofF, refBandF, e1, e2, base_same]
  by_cases h1 : (refLowF l j.task j.held 0 false).2 = true <;> simp [h1]
end Go.Cd
