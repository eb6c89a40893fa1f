/- The law BandLow, as the evaluator has it. No conditions. -/
import Derived.Test.YtohopligfihopaaR1PBandAll
set_option linter.unusedVariables false
set_option linter.unusedSimpArgs false
namespace Go.Cd
open Go Go.Fw
theorem semaAt_cases (l : List Sema) (s : Int) : (semaAt l s = none ∧ ¬ (0 ≤ s ∧ s < l.length)) ∨ (∃ x, semaAt l s = some x ∧ 0 ≤ s ∧ s < l.length ∧ l[s.toNat]? = some x) := by
  by_cases h : 0 ≤ s ∧ s < l.length
  · have h1 : s.toNat < l.length := by omega
    refine .inr ⟨l[s.toNat], ?_, h.1, h.2, List.getElem?_eq_getElem h1⟩
    simp [semaAt, h.1, List.getElem?_eq_getElem h1]
  · refine .inl ⟨?_, h⟩
    simp only [semaAt]
    by_cases h0 : 0 ≤ s
    · rw [if_pos h0]; exact List.getElem?_eq_none (by omega)
    · rw [if_neg h0]
/-- Is it one that the task holds, and is its ceiling this? -/
def hitB (l : List Sema) (t s : Int) : Bool := match semaAt l s with | some x => decide (x.holder = IntKind.i64.wrap (t + 1)) | none => false
def eqB (l : List Sema) (t low s : Int) : Bool := match semaAt l s with | some x => decide (x.holder = IntKind.i64.wrap (t + 1)) && decide (x.ceil = low) | none => false
theorem low_is (l : List Sema) (t : Int) : ∀ (rest : List Int) (low : Int) (is : Bool),
    (refLowF l t rest low is).2 = (is || rest.any (hitB l t)) ∧
    (∀ s ∈ rest, ∀ x, semaAt l s = some x → x.holder = IntKind.i64.wrap (t + 1) → (refLowF l t rest low is).1 ≤ x.ceil) ∧
    (is = true → (refLowF l t rest low is).1 ≤ low) ∧
    (((refLowF l t rest low is).1 = low ∧ (is = true ∨ rest.any (hitB l t) = false)) ∨ rest.any (eqB l t (refLowF l t rest low is).1) = true)
  | [], low, is => by simp [refLowF]
  | s :: r, low, is => by
    cases hx : semaAt l s with
    | none =>
      have e : refLowF l t (s :: r) low is = refLowF l t r low is := by simp [refLowF, hx]
      have hb : hitB l t s = false := by simp [hitB, hx]
      have eb : ∀ c, eqB l t c s = false := fun c => by simp [eqB, hx]
      obtain ⟨a1, a2, a3, a4⟩ := low_is l t r low is
      rw [e]
      refine ⟨by simp [hb, a1], ?_, a3, by simpa [hb, eb] using a4⟩
      intro y hy x hx2 hh
      rcases List.mem_cons.1 hy with rfl | hy
      · rw [hx] at hx2; cases hx2
      · exact a2 y hy x hx2 hh
    | some x =>
      by_cases hh : x.holder = IntKind.i64.wrap (t + 1)
      · have e : refLowF l t (s :: r) low is = refLowF l t r (if is = true ∧ low ≤ x.ceil then low else x.ceil) true := by simp [refLowF, hx, hh]
        have hb : hitB l t s = true := by simp [hitB, hx, hh]
        have eb : ∀ c, eqB l t c s = decide (x.ceil = c) := fun c => by simp [eqB, hx, hh]
        obtain ⟨a1, a2, a3, a4⟩ := low_is l t r (if is = true ∧ low ≤ x.ceil then low else x.ceil) true
        have a3 := a3 rfl
        rw [e]
        generalize hz : refLowF l t r (if is = true ∧ low ≤ x.ceil then low else x.ceil) true = z at *
        refine ⟨by simp [hb, a1], ?_, ?_, ?_⟩
        · intro y hy x2 hx2 hh2
          rcases List.mem_cons.1 hy with rfl | hy
          · rw [hx] at hx2; injection hx2 with hx2; subst hx2
            split at a3
            · rename_i h; omega
            · exact a3
          · exact a2 y hy x2 hx2 hh2
        · intro his
          split at a3
          · exact a3
          · rename_i h
            have : ¬ low ≤ x.ceil := fun k => h ⟨his, k⟩
            omega
        · rcases a4 with ⟨b1, _⟩ | b2
          · split at b1
            · rename_i h
              exact .inl ⟨b1, .inl h.1⟩
            · right
              simp [eb, b1]
          · right
            simp only [List.any_cons, b2, Bool.or_true]
      · have e : refLowF l t (s :: r) low is = refLowF l t r low is := by simp [refLowF, hx, hh]
        have hb : hitB l t s = false := by simp [hitB, hx, hh]
        have eb : ∀ c, eqB l t c s = false := fun c => by simp [eqB, hx, hh]
        obtain ⟨a1, a2, a3, a4⟩ := low_is l t r low is
        rw [e]
        refine ⟨by simp [hb, a1], ?_, a3, by simpa [hb, eb] using a4⟩
        intro y hy x2 hx2 hh2
        rcases List.mem_cons.1 hy with rfl | hy
        · rw [hx] at hx2; injection hx2 with hx2; subst hx2; exact absurd hh2 hh
        · exact a2 y hy x2 hx2 hh2
@[simp] theorem take_map_lenB {α β : Type} (f : α → β) (l : List α) : List.take l.length (List.map f l) = List.map f l := by
  rw [← List.length_map (f := f), List.take_length]
def mkS (c h : Int) : Sema := ⟨IntKind.i64.wrap (c.tmod 9), IntKind.i64.wrap (h.tmod 9)⟩
def four (c0 c1 c2 c3 h0 h1 h2 h3 : Int) : List Sema := [mkS c0 h0, mkS c1 h1, mkS c2 h2, mkS c3 h3]
def zMd : D := .agg [.int .i64 0, .agg [.int .i64 0, .int .i64 0, .int .i64 0, .int .i64 0, .int .i64 0, .int .i64 0, .int .i64 0, .int .i64 0], .sl true [], .bool false]
set_option maxHeartbeats 4000000 in
theorem bl_loop0 (c0 c1 c2 c3 h0 h1 h2 h3 : Int) (nl : Bool) (held : List Int) (jd : D) :
    run kp (.loop [3, 10, 11, 13, 14, 15] k_law20_BandLow_L0 { env := [(3, .asl nl (held.map (.int .u8))), (10, .ptr 0 []), (11, .ptr 1 []), (13, .ptr 2 []), (14, .d (.sl true [])), (15, .int .i64 0)], hp := [(0, .box (.d (.agg [.int .u8 c0, .int .u8 c1, .int .u8 c2, .int .u8 c3]))), (1, .box (.d (.agg [.int .u8 h0, .int .u8 h1, .int .u8 h2, .int .u8 h3]))), (2, .box (.d jd))], tl := fun _ => none, base := 0, next := 3 }) =
    some (.out (.ext 0) { env := [(3, .asl nl (held.map (.int .u8))), (10, .ptr 0 []), (11, .ptr 1 []), (13, .ptr 2 []), (14, .sl false 3 0 4), (15, .int .i64 4), (37, .bool false)], hp := [(0, .box (.d (.agg [.int .u8 c0, .int .u8 c1, .int .u8 c2, .int .u8 c3]))), (1, .box (.d (.agg [.int .u8 h0, .int .u8 h1, .int .u8 h2, .int .u8 h3]))), (2, .box (.d jd)), (3, .row true ((four c0 c1 c2 c3 h0 h1 h2 h3).map Sema.d))], tl := fun _ => none, base := 0, next := 4 }) := by
  have w1 : IntKind.i64.wrap 1 = 1 := by decide
  have w2 : IntKind.i64.wrap 2 = 2 := by decide
  have w3 : IntKind.i64.wrap 3 = 3 := by decide
  have w4 : IntKind.i64.wrap 4 = 4 := by decide
  rw [run_round]
  simp [c_law20_BandLow_L0, k_law20_BandLow_L0b, w1, w2, w3, w4]
  rw [run_round]
  simp [c_law20_BandLow_L0, k_law20_BandLow_L0b, w1, w2, w3, w4]
  rw [run_round]
  simp [c_law20_BandLow_L0, k_law20_BandLow_L0b, w1, w2, w3, w4]
  rw [run_round]
  simp [c_law20_BandLow_L0, k_law20_BandLow_L0b, w1, w2, w3, w4]
  rw [run_round]
  simp [c_law20_BandLow_L0, k_law20_BandLow_L0b, w1, w2, w3, w4, four, mkS, Sema.d]
def hOf (x : Int) : Int := IntKind.i64.wrap (x.tmod 4)
def blSt (t p : Int) (up nl : Bool) (held : List Int) (l : List Sema) (ex : List (Nat × V)) (i : Int) : List Int → St
  | [] => { env := [(3, .asl nl (held.map (.int .u8))), (13, .ptr 0 []), (14, .sl false 1 0 4), (16, .int .i64 i)] ++ ex, hp := [(0, .box (.d (.agg [.int .i64 t, .int .i64 0, .int .i64 0, .int .i64 p, zMd, zMd, .sl true [], .bool up]))), (1, .row true (l.map Sema.d))], tl := fun _ => none, base := 0, next := 2 }
  | a :: h => { env := [(3, .asl nl (held.map (.int .u8))), (13, .ptr 0 []), (14, .sl false 2 0 4), (16, .int .i64 i)] ++ ex, hp := [(0, .box (.agg [.int .i64 t, .int .i64 0, .int .i64 0, .int .i64 p, .d zMd, .d zMd, .sl false 1 0 (h.length + 1), .bool up])), (1, .row true (.int .i64 a :: h.map (.int .i64))), (2, .row true (l.map Sema.d))], tl := fun _ => none, base := 0, next := 3 }
set_option maxHeartbeats 4000000 in
theorem bl_loop1 (t p : Int) (up nl : Bool) (held : List Int) (hf : held.length ≤ 1000) (l : List Sema) : ∀ (rest pre : List Int), held = pre ++ rest → ∀ (i : Int), i = pre.length →
    run kp (.loop [3, 13, 14, 16] k_law20_BandLow_L1 (blSt t p up nl held l [] i (pre.map hOf))) = some (.out (.ext 2) (blSt t p up nl held l [(57, .bool false)] held.length (held.map hOf)))
  | [], pre, h, i, hi => by
    simp at h
    subst h hi
    rw [run_round]
    cases held <;> simp [c_law20_BandLow_L1, k_law20_BandLow_L1b, blSt, zMd]
  | w :: rest, pre, h, i, hi => by
    have hli : i < held.length := by rw [h, hi]; simp; omega
    have h0 : 0 ≤ i := by omega
    have hget0 : held[i.toNat]? = some w := by rw [h, hi]; simp
    have hget : ∀ hh : i.toNat < held.length, held[i.toNat] = w := fun hh => by rw [List.getElem?_eq_getElem hh] at hget0; injection hget0
    have hw : IntKind.i64.wrap (i + 1) = i + 1 := wrap_i64 (by omega) (by omega)
    have ih := bl_loop1 t p up nl held hf l rest (pre ++ [w]) (by simp [h]) (i + 1) (by simp [hi])
    rw [← ih, run_round]
    have hp : pre.length ≤ 1000 := by omega
    cases pre with
    | nil => simp [c_law20_BandLow_L1, k_law20_BandLow_L1b, h0, hli, hget, hw, blSt, hOf, zMd]
    | cons a q =>
      simp only [List.length_cons] at hp
      have : q.length ≤ 1073741822 := by omega
      simp [c_law20_BandLow_L1, k_law20_BandLow_L1b, h0, hli, hget, hw, blSt, hOf, this, zMd]
def blSt2 (t p : Int) (up : Bool) (l : List Sema) (x base : Int) (own : Bool) (ex : List (Nat × V)) (i : Int) : List Int → St
  | [] => { env := [(13, .ptr 0 []), (14, .sl false 1 0 4), (17, .int .i64 x), (18, .int .i64 base), (19, .bool own), (20, .int .i64 i)] ++ ex, hp := [(0, .box (.d (.agg [.int .i64 t, .int .i64 0, .int .i64 0, .int .i64 p, zMd, zMd, .sl true [], .bool up]))), (1, .row true (l.map Sema.d))], tl := fun _ => none, base := 0, next := 2 }
  | a :: h => { env := [(13, .ptr 0 []), (14, .sl false 2 0 4), (17, .int .i64 x), (18, .int .i64 base), (19, .bool own), (20, .int .i64 i)] ++ ex, hp := [(0, .box (.agg [.int .i64 t, .int .i64 0, .int .i64 0, .int .i64 p, .d zMd, .d zMd, .sl false 1 0 (h.length + 1), .bool up])), (1, .row true (.int .i64 a :: h.map (.int .i64))), (2, .row true (l.map Sema.d))], tl := fun _ => none, base := 0, next := 3 }
set_option maxHeartbeats 8000000 in
theorem bl_loop2 (t p : Int) (up : Bool) (x base : Int) (l : List Sema) (hl : l.length = 4) (h : List Int) (hf : h.length ≤ 1000) (hpos : ∀ s ∈ h, 0 ≤ s ∧ s < 4) (H : ∀ s ∈ h, ∀ y, semaAt l s = some y → y.holder = IntKind.i64.wrap (t + 1) → x ≤ y.ceil) : ∀ (rest pre : List Int), h = pre ++ rest → ∀ (i : Int), i = pre.length → ∀ (own : Bool),
    run kp (.loop [13, 14, 17, 18, 19, 20] k_law20_BandLow_L2 (blSt2 t p up l x base own [] i h)) = some (.out (.ext 4) (blSt2 t p up l x base (own || rest.any (eqB l t x)) [(80, .bool false)] h.length h))
  | [], pre, e, i, hi, own => by
    simp at e
    subst e hi
    rw [run_round]
    cases h <;> simp [c_law20_BandLow_L2, k_law20_BandLow_L2b, blSt2, zMd]
  | s :: rest, pre, e, i, hi, own => by
    have hli : i < h.length := by rw [e, hi]; simp; omega
    have h0 : 0 ≤ i := by omega
    have hw : IntKind.i64.wrap (i + 1) = i + 1 := wrap_i64 (by omega) (by omega)
    have hmem : s ∈ h := by rw [e]; simp
    obtain ⟨s0, s4⟩ := hpos s hmem
    have ih := fun b => bl_loop2 t p up x base l hl h hf hpos H rest (pre ++ [s]) (by simp [e]) (i + 1) (by simp [hi]) b
    have hget0 : (h.map (D.int .i64))[i.toNat]? = some (.int .i64 s) := by rw [e, hi]; simp
    rw [run_round]
    cases h with
    | nil => cases hmem
    | cons c h =>
      simp only [List.map_cons] at hget0
      have hget : ∀ hh : i.toNat < (D.int .i64 c :: h.map (.int .i64)).length, (D.int .i64 c :: h.map (.int .i64))[i.toNat] = .int .i64 s := fun hh => by rw [List.getElem?_eq_getElem hh] at hget0; injection hget0
      have hli2 : i < (h.length : Int) + 1 := by simp only [List.length_cons] at hli; omega
      have hli3 : i.toNat < h.length + 1 := by omega
      simp only [blSt2, List.append_nil] at ih
      rcases semaAt_cases l s with ⟨h1, h2⟩ | ⟨y, h1, h2, h3, h4⟩
      · exact absurd ⟨s0, by omega⟩ h2
      · have s5 : s.toNat < l.length := by omega
        have hgs : ∀ hh : s.toNat < l.length, l[s.toNat] = y := fun hh => by rw [List.getElem?_eq_getElem hh] at h4; injection h4
        by_cases hh : y.holder = IntKind.i64.wrap (t + 1)
        · have eb : eqB l t x s = decide (y.ceil = x) := by simp [eqB, h1, hh]
          have hc : ¬ y.ceil < x := by have := H s hmem y h1 hh; omega
          have ih := ih (own || decide (x = y.ceil))
          have e1 : decide (y.ceil = x) = decide (x = y.ceil) := by simp [eq_comm]
          rw [e1] at eb
          cases own <;> simp at ih <;> simp [c_law20_BandLow_L2, k_law20_BandLow_L2b, blSt2, zMd, h0, s0, s4, hli2, hli3, hget, hw, s5, hgs, h4, hh, eb, hc, Sema.d, hl] <;> simpa [zMd] using ih
        · have eb : eqB l t x s = false := by simp [eqB, h1, hh]
          have ih := ih own
          simp [c_law20_BandLow_L2, k_law20_BandLow_L2b, blSt2, zMd, h0, s0, s4, hli2, hli3, hget, hw, s5, hgs, h4, hh, eb, Sema.d, hl]
          simpa [zMd] using ih
def zM : Mach := ⟨0, [0, 0, 0, 0, 0, 0, 0, 0], true, [], false⟩
def jOf (t p : Int) (up hn : Bool) (h : List Int) : Job := ⟨t, 0, 0, p, zM, zM, hn, h, up⟩
theorem of_plain (t p : Int) (up hn : Bool) (h : List Int) (hh : h.length ≤ maxLen) (l : List Sema) : run kp (.data f_band_Of [.agg [.int .i64 t, .int .i64 0, .int .i64 0, .int .i64 p, zMd, zMd, .sl hn (h.map (.int .i64)), .bool up], .int .i64 8, .sl false (l.map Sema.d)]) = some (.ds [.int .i64 (ofF (jOf t p up hn h) 8 l)]) :=
  band_Of (jOf t p up hn h) hh 8 false l
theorem base_plain2 (t p : Int) (up hn : Bool) (h : List Int) : run kp (.data f_band_Base [.agg [.int .i64 t, .int .i64 0, .int .i64 0, .int .i64 p, zMd, zMd, .sl hn (h.map (.int .i64)), .bool up], .int .i64 8]) = some (.ds [.int .i64 (baseF (jOf t p up hn h) 8)]) :=
  band_Base (jOf t p up hn h) 8
theorem of_low (t p : Int) (up hn : Bool) (h : List Int) (l : List Sema) (ht : 0 ≤ t) :
    (∀ s ∈ h, ∀ y, semaAt l s = some y → y.holder = IntKind.i64.wrap (t + 1) → ofF (jOf t p up hn h) 8 l ≤ y.ceil) ∧ ofF (jOf t p up hn h) 8 l ≤ baseF (jOf t p up hn h) 8 ∧ (ofF (jOf t p up hn h) 8 l = baseF (jOf t p up hn h) 8 ∨ h.any (eqB l t (ofF (jOf t p up hn h) 8 l)) = true) := by
  rw [band_same _ _ _ ht, base_same]
  obtain ⟨p1, p2, p3, p4⟩ := low_is l t h 0 false
  simp only [refBandF]
  generalize refBaseF (jOf t p up hn h) 8 = base
  have hj : (jOf t p up hn h).task = t := rfl
  have hk : (jOf t p up hn h).held = h := rfl
  rw [hj, hk]
  generalize refLowF l t h 0 false = z at *
  obtain ⟨low, is⟩ := z
  simp only [Bool.false_or] at p1 p2 p4 ⊢
  by_cases hc : is = true ∧ low < base
  · rw [if_pos hc]
    refine ⟨p2, by omega, .inr ?_⟩
    rcases p4 with ⟨_, h1⟩ | h1
    · rcases h1 with h1 | h1
      · cases h1
      · rw [h1] at p1; rw [p1] at hc; exact absurd hc.1 (by simp)
    · exact h1
  · rw [if_neg hc]
    refine ⟨?_, by omega, .inl rfl⟩
    intro s hs y h1 h2
    have hb : h.any (hitB l t) = true := List.any_eq_true.2 ⟨s, hs, by simp [hitB, h1, h2]⟩
    rw [hb] at p1
    have := p2 s hs y h1 h2
    have : ¬ low < base := fun e => hc ⟨p1, e⟩
    omega
theorem argV4 (a b c d : Int) : argV (.agg [.int .u8 a, .int .u8 b, .int .u8 c, .int .u8 d]) = .d (.agg [.int .u8 a, .int .u8 b, .int .u8 c, .int .u8 d]) := rfl
set_option maxHeartbeats 8000000 in
theorem band_low (task phase up : Int) (ht : 0 ≤ task ∧ task < 256) (c0 c1 c2 c3 h0 h1 h2 h3 : Int) (nl : Bool) (held : List Int) (hh : held.length ≤ 6) (hp : ∀ s ∈ held, 0 ≤ s ∧ s < 256) :
    run kp (.data f_law20_BandLow [.int .u8 task, .int .u8 phase, .int .u8 up, .sl nl (held.map (.int .u8)), .agg [.int .u8 c0, .int .u8 c1, .int .u8 c2, .int .u8 c3], .agg [.int .u8 h0, .int .u8 h1, .int .u8 h2, .int .u8 h3]]) = some (.ds [.bool true]) := by
  rw [run_data, run_call, kp_law20_BandLow]
  have a1 : ¬ (6 : Int) < held.length := by omega
  have t0 : 0 ≤ IntKind.i64.wrap (task.tmod 8) := by
    rw [Int.tmod_eq_emod_of_nonneg (by omega), wrap_i64 (by omega) (by omega)]; omega
  generalize ht' : IntKind.i64.wrap (task.tmod 8) = t at *
  generalize hph : IntKind.i64.wrap (phase.tmod 3) = p at *
  generalize hup : decide (up.tmod 2 = 1) = u at *
  have l0 := bl_loop0 c0 c1 c2 c3 h0 h1 h2 h3 nl held (.agg [.int .i64 t, .int .i64 0, .int .i64 0, .int .i64 p, zMd, zMd, .sl true [], .bool u])
  generalize hl : four c0 c1 c2 c3 h0 h1 h2 h3 = l at *
  have hlen : l.length = 4 := by rw [← hl]; rfl
  have l1 := bl_loop1 t p u nl held (by omega) l held [] rfl 0 rfl
  have hpos : ∀ s ∈ held.map hOf, 0 ≤ s ∧ s < 4 := by
    intro s hs
    obtain ⟨x, hx, rfl⟩ := List.mem_map.1 hs
    have := hp x hx
    simp only [hOf]
    rw [Int.tmod_eq_emod_of_nonneg (by omega), wrap_i64 (by omega) (by omega)]; omega
  have hlh : (held.map hOf).length = held.length := by simp
  have tk : List.take 4 (List.map Sema.d l) = List.map Sema.d l := List.take_of_length_le (by simp [hlen])
  generalize held.map hOf = h at *
  have hm : h.length ≤ maxLen := Nat.le_trans (by omega : h.length ≤ 6) (by decide)
  have o1 := fun hn => of_plain t p u hn h hm l
  have o2 := fun hn => base_plain2 t p u hn h
  have eo : ∀ hn, ofF (jOf t p u hn h) 8 l = ofF (jOf t p u true h) 8 l := fun _ => rfl
  have eb : ∀ hn, baseF (jOf t p u hn h) 8 = baseF (jOf t p u true h) 8 := fun _ => rfl
  obtain ⟨q1, q2, q3⟩ := of_low t p u true h l t0
  simp only [eo, eb] at o1 o2
  generalize ofF (jOf t p u true h) 8 l = x at *
  generalize baseF (jOf t p u true h) 8 = base at *
  have l2 := bl_loop2 t p u x base l hlen h (by omega) hpos q1 h [] rfl 0 rfl false
  simp only [Bool.false_or] at l2
  have q4 : (decide (x = base) || h.any (eqB l t x)) = true := by simpa using q3
  generalize h.any (eqB l t x) = own at *
  cases h with
  | nil =>
    simp [blSt, zMd] at l1 l0
    simp [blSt2, zMd] at l2
    have o1 := o1 true
    have o2 := o2 true
    simp only [List.map_nil, zMd] at o1 o2
    by_cases hx : x = base
    · subst hx
      simp [k_law20_BandLow, band_begun, argV4, a1, ht', hph, hup, l0, l1, l2, o1, o2, hlen, tk, zMd]
    · simp [hx] at q4
      subst q4
      simp [k_law20_BandLow, band_begun, argV4, a1, ht', hph, hup, l0, l1, l2, o1, o2, hlen, tk, zMd, q2, hx]
  | cons a h =>
    simp [blSt, zMd] at l1 l0
    simp [blSt2, zMd] at l2
    have o1 := o1 false
    have o2 := o2 false
    simp only [List.map_cons, zMd] at o1 o2
    by_cases hx : x = base
    · subst hx
      simp [k_law20_BandLow, band_begun, argV4, a1, ht', hph, hup, l0, l1, l2, o1, o2, hlen, tk, zMd]
    · simp [hx] at q4
      subst q4
      simp [k_law20_BandLow, band_begun, argV4, a1, ht', hph, hup, l0, l1, l2, o1, o2, hlen, tk, zMd, q2, hx]
theorem has_four {x : D} (h : Sh.has (.ar 4 (.i .u8)) x) : ∃ a b c d : Int, x = .agg [.int .u8 a, .int .u8 b, .int .u8 c, .int .u8 d] := by
  obtain ⟨l, rfl, h1, h2⟩ := has_ar h
  obtain ⟨m, rfl, hm⟩ := all_typed (f := D.int .u8) (fun y hy => has_int hy) l h2
  match m, h1 with
  | [a, b, c, d], _ => exact ⟨a, b, c, d, rfl⟩
theorem law_BandLow (xs : List D) (h : Sh.hasL [.i .u8, .i .u8, .i .u8, .sl (.i .u8), .ar 4 (.i .u8), .ar 4 (.i .u8)] xs) : run kp (.data f_law20_BandLow xs) = some (.ds [.bool true]) := by
  obtain ⟨x1, _, rfl, h1, h⟩ := hasL_cons h
  obtain ⟨x2, _, rfl, h2, h⟩ := hasL_cons h
  obtain ⟨x3, _, rfl, h3, h⟩ := hasL_cons h
  obtain ⟨x4, _, rfl, h4, h⟩ := hasL_cons h
  obtain ⟨x5, _, rfl, h5, h⟩ := hasL_cons h
  obtain ⟨x6, _, rfl, h6, h⟩ := hasL_cons h
  obtain rfl := hasL_nil h
  obtain ⟨task, rfl, k1⟩ := has_int h1
  obtain ⟨phase, rfl, _⟩ := has_int h2
  obtain ⟨up, rfl, _⟩ := has_int h3
  obtain ⟨nl, held, rfl, _, _, hw⟩ := has_nums h4
  obtain ⟨c0, c1, c2, c3, rfl⟩ := has_four h5
  obtain ⟨g0, g1, g2, g3, rfl⟩ := has_four h6
  by_cases hh : held.length ≤ 6
  · exact band_low task phase up (wf_u8 k1) c0 c1 c2 c3 g0 g1 g2 g3 nl held hh (fun s hs => wf_u8 (hw s hs))
  · rw [run_data, run_call, kp_law20_BandLow]
    have a1 : (6 : Int) < held.length := by omega
    simp [k_law20_BandLow, band_begun, argV4, a1]
end Go.Cd
