/- The law SemaLow, as the evaluator has it. No conditions. -/
import Derived.Test.YtpdanhecaalfbaaR2PSemaAll
set_option linter.unusedVariables false
set_option linter.unusedSimpArgs false
namespace Go.Cd
open Go Go.Fw
def mkS (c h : Int) : Sema := ⟨IntKind.i64.wrap (c.tmod 9), IntKind.i64.wrap (h.tmod 5)⟩
def four (c0 c1 c2 c3 h0 h1 h2 h3 : Int) : List Sema := [mkS c0 h0, mkS c1 h1, mkS c2 h2, mkS c3 h3]
set_option maxHeartbeats 4000000 in
theorem sl_loop0 (c0 c1 c2 c3 h0 h1 h2 h3 t : Int) (nl : Bool) (held : List Int) :
    run kp (.loop [2, 4, 5, 9, 10, 11] k_law11_SemaLow_L0 { env := [(2, .asl nl (held.map (.int .u8))), (4, .ptr 0 []), (5, .ptr 1 []), (9, .int .i64 t), (10, .d (.sl true [])), (11, .int .i64 0)], hp := [(0, .box (.d (.agg [.int .u8 c0, .int .u8 c1, .int .u8 c2, .int .u8 c3]))), (1, .box (.d (.agg [.int .u8 h0, .int .u8 h1, .int .u8 h2, .int .u8 h3])))], tl := fun _ => none, base := 0, next := 2 }) =
    some (.out (.ext 0) { env := [(2, .asl nl (held.map (.int .u8))), (4, .ptr 0 []), (5, .ptr 1 []), (9, .int .i64 t), (10, .sl false 2 0 4), (11, .int .i64 4), (28, .bool false)], hp := [(0, .box (.d (.agg [.int .u8 c0, .int .u8 c1, .int .u8 c2, .int .u8 c3]))), (1, .box (.d (.agg [.int .u8 h0, .int .u8 h1, .int .u8 h2, .int .u8 h3]))), (2, .row true ((four c0 c1 c2 c3 h0 h1 h2 h3).map Sema.d))], tl := fun _ => none, base := 0, next := 3 }) := by
  have w1 : IntKind.i64.wrap 1 = 1 := by decide
  have w2 : IntKind.i64.wrap 2 = 2 := by decide
  have w3 : IntKind.i64.wrap 3 = 3 := by decide
  have w4 : IntKind.i64.wrap 4 = 4 := by decide
  rw [run_round]
  simp [c_law11_SemaLow_L0, k_law11_SemaLow_L0b, w1, w2, w3, w4]
  rw [run_round]
  simp [c_law11_SemaLow_L0, k_law11_SemaLow_L0b, w1, w2, w3, w4]
  rw [run_round]
  simp [c_law11_SemaLow_L0, k_law11_SemaLow_L0b, w1, w2, w3, w4]
  rw [run_round]
  simp [c_law11_SemaLow_L0, k_law11_SemaLow_L0b, w1, w2, w3, w4]
  rw [run_round]
  simp [c_law11_SemaLow_L0, k_law11_SemaLow_L0b, w1, w2, w3, w4, four, mkS, Sema.d]
def slSt (t : Int) (nl : Bool) (held : List Int) (l : List Sema) (ex : List (Nat × V)) (i : Int) : List Int → St
  | [] => { env := [(2, .asl nl (held.map (.int .u8))), (9, .int .i64 t), (10, .sl false 0 0 4), (12, .d (.sl true [])), (13, .int .i64 i)] ++ ex, hp := [(0, .row true (l.map Sema.d))], tl := fun _ => none, base := 0, next := 1 }
  | a :: h => { env := [(2, .asl nl (held.map (.int .u8))), (9, .int .i64 t), (10, .sl false 0 0 4), (12, .sl false 1 0 (h.length + 1)), (13, .int .i64 i)] ++ ex, hp := [(0, .row true (l.map Sema.d)), (1, .row true (.int .i64 a :: h.map (.int .i64)))], tl := fun _ => none, base := 0, next := 2 }
def hOf (x : Int) : Int := IntKind.i64.wrap (x.tmod 5)
theorem sl_loop1 (t : Int) (nl : Bool) (held : List Int) (hf : held.length ≤ 1000) (l : List Sema) : ∀ (rest pre : List Int), held = pre ++ rest → ∀ (i : Int), i = pre.length →
    run kp (.loop [2, 9, 10, 12, 13] k_law11_SemaLow_L1 (slSt t nl held l [] i (pre.map hOf))) = some (.out (.ext 2) (slSt t nl held l [(48, .bool false)] held.length (held.map hOf)))
  | [], pre, h, i, hi => by
    simp at h
    subst h hi
    rw [run_round]
    cases held <;> simp [c_law11_SemaLow_L1, k_law11_SemaLow_L1b, slSt]
  | w :: rest, pre, h, i, hi => by
    have hli : i < held.length := by rw [h, hi]; simp; omega
    have h0 : 0 ≤ i := by omega
    have hget0 : held[i.toNat]? = some w := by rw [h, hi]; simp
    have hget : ∀ hh : i.toNat < held.length, held[i.toNat] = w := fun hh => by rw [List.getElem?_eq_getElem hh] at hget0; injection hget0
    have hw : IntKind.i64.wrap (i + 1) = i + 1 := wrap_i64 (by omega) (by omega)
    have ih := sl_loop1 t nl held hf l rest (pre ++ [w]) (by simp [h]) (i + 1) (by simp [hi])
    rw [← ih, run_round]
    have hp : pre.length ≤ 1000 := by omega
    cases pre with
    | nil => simp [c_law11_SemaLow_L1, k_law11_SemaLow_L1b, h0, hli, hget, hw, slSt, hOf]
    | cons a p =>
      simp only [List.length_cons] at hp
      have : p.length ≤ 1073741822 := by omega
      simp [c_law11_SemaLow_L1, k_law11_SemaLow_L1b, h0, hli, hget, hw, slSt, hOf, this]
/-- Is it one that the task holds, and is its ceiling this? -/
def hitB (l : List Sema) (t s : Int) : Bool := match semaAt l s with | some x => decide (x.holder = IntKind.i64.wrap (t + 1)) | none => false
def eqB (l : List Sema) (t low s : Int) : Bool := match semaAt l s with | some x => decide (x.holder = IntKind.i64.wrap (t + 1)) && decide (x.ceil = low) | none => false
theorem low_is (l : List Sema) (t : Int) : ∀ (rest : List Int) (low : Int) (is : Bool),
    (refLowF l t rest low is).2 = (is || rest.any (hitB l t)) ∧
    (∀ s ∈ rest, ∀ x, semaAt l s = some x → x.holder = IntKind.i64.wrap (t + 1) → (refLowF l t rest low is).1 ≤ x.ceil) ∧
    (is = true → (refLowF l t rest low is).1 ≤ low) ∧
    (((refLowF l t rest low is).1 = low ∧ (is = true ∨ rest.any (hitB l t) = false)) ∨ rest.any (eqB l t (refLowF l t rest low is).1) = true)
  | [], low, is => by simp [refLowF]
  | s :: r, low, is => by
    cases hx : semaAt l s with
    | none =>
      have e : refLowF l t (s :: r) low is = refLowF l t r low is := by simp [refLowF, hx]
      have hb : hitB l t s = false := by simp [hitB, hx]
      have eb : ∀ c, eqB l t c s = false := fun c => by simp [eqB, hx]
      obtain ⟨a1, a2, a3, a4⟩ := low_is l t r low is
      rw [e]
      refine ⟨by simp [hb, a1], ?_, a3, by simpa [hb, eb] using a4⟩
      intro y hy x hx2 hh
      rcases List.mem_cons.1 hy with rfl | hy
      · rw [hx] at hx2; cases hx2
      · exact a2 y hy x hx2 hh
    | some x =>
      by_cases hh : x.holder = IntKind.i64.wrap (t + 1)
      · have e : refLowF l t (s :: r) low is = refLowF l t r (if is = true ∧ low ≤ x.ceil then low else x.ceil) true := by simp [refLowF, hx, hh]
        have hb : hitB l t s = true := by simp [hitB, hx, hh]
        have eb : ∀ c, eqB l t c s = decide (x.ceil = c) := fun c => by simp [eqB, hx, hh]
        obtain ⟨a1, a2, a3, a4⟩ := low_is l t r (if is = true ∧ low ≤ x.ceil then low else x.ceil) true
        have a3 := a3 rfl
        rw [e]
        generalize hz : refLowF l t r (if is = true ∧ low ≤ x.ceil then low else x.ceil) true = z at *
        refine ⟨by simp [hb, a1], ?_, ?_, ?_⟩
        · intro y hy x2 hx2 hh2
          rcases List.mem_cons.1 hy with rfl | hy
          · rw [hx] at hx2; injection hx2 with hx2; subst hx2
            split at a3
            · rename_i h; omega
            · exact a3
          · exact a2 y hy x2 hx2 hh2
        · intro his
          split at a3
          · exact a3
          · rename_i h
            have : ¬ low ≤ x.ceil := fun k => h ⟨his, k⟩
            omega
        · rcases a4 with ⟨b1, _⟩ | b2
          · split at b1
            · rename_i h
              exact .inl ⟨b1, .inl h.1⟩
            · right
              simp [eb, b1]
          · right
            simp only [List.any_cons, b2, Bool.or_true]
      · have e : refLowF l t (s :: r) low is = refLowF l t r low is := by simp [refLowF, hx, hh]
        have hb : hitB l t s = false := by simp [hitB, hx, hh]
        have eb : ∀ c, eqB l t c s = false := fun c => by simp [eqB, hx, hh]
        obtain ⟨a1, a2, a3, a4⟩ := low_is l t r low is
        rw [e]
        refine ⟨by simp [hb, a1], ?_, a3, by simpa [hb, eb] using a4⟩
        intro y hy x2 hx2 hh2
        rcases List.mem_cons.1 hy with rfl | hy
        · rw [hx] at hx2; injection hx2 with hx2; subst hx2; exact absurd hh2 hh
        · exact a2 y hy x2 hx2 hh2
def slSt2 (t low : Int) (ok : Bool) (l : List Sema) (any at_ : Bool) (ex : List (Nat × V)) (i : Int) : List Int → St
  | [] => { env := [(9, .int .i64 t), (10, .sl false 0 0 4), (12, .d (.sl true [])), (14, .int .i64 low), (15, .bool ok), (16, .bool any), (17, .bool at_), (18, .int .i64 i)] ++ ex, hp := [(0, .row true (l.map Sema.d))], tl := fun _ => none, base := 0, next := 1 }
  | a :: h => { env := [(9, .int .i64 t), (10, .sl false 0 0 4), (12, .sl false 1 0 (h.length + 1)), (14, .int .i64 low), (15, .bool ok), (16, .bool any), (17, .bool at_), (18, .int .i64 i)] ++ ex, hp := [(0, .row true (l.map Sema.d)), (1, .row true (.int .i64 a :: h.map (.int .i64)))], tl := fun _ => none, base := 0, next := 2 }
set_option maxHeartbeats 4000000 in
theorem sl_loop2 (t low : Int) (ok : Bool) (l : List Sema) (hl : l.length = 4) (h : List Int) (hf : h.length ≤ 1000) (hpos : ∀ s ∈ h, 0 ≤ s) (H : ∀ s ∈ h, ∀ x, semaAt l s = some x → x.holder = IntKind.i64.wrap (t + 1) → low ≤ x.ceil) : ∀ (rest pre : List Int), h = pre ++ rest → ∀ (i : Int), i = pre.length → ∀ (any at_ : Bool),
    run kp (.loop [9, 10, 12, 14, 15, 16, 17, 18] k_law11_SemaLow_L2 (slSt2 t low ok l any at_ [] i h)) = some (.out (.ext 4) (slSt2 t low ok l (any || rest.any (hitB l t)) (at_ || rest.any (eqB l t low)) [(70, .bool false)] h.length h))
  | [], pre, e, i, hi, any, at_ => by
    simp at e
    subst e hi
    rw [run_round]
    cases h <;> simp [c_law11_SemaLow_L2, k_law11_SemaLow_L2b, slSt2]
  | s :: rest, pre, e, i, hi, any, at_ => by
    have hli : i < h.length := by rw [e, hi]; simp; omega
    have h0 : 0 ≤ i := by omega
    have hw : IntKind.i64.wrap (i + 1) = i + 1 := wrap_i64 (by omega) (by omega)
    have hmem : s ∈ h := by rw [e]; simp
    have s0 := hpos s hmem
    have ih := fun a b => sl_loop2 t low ok l hl h hf hpos H rest (pre ++ [s]) (by simp [e]) (i + 1) (by simp [hi]) a b
    have hget0 : (h.map (D.int .i64))[i.toNat]? = some (.int .i64 s) := by rw [e, hi]; simp
    rw [run_round]
    cases h with
    | nil => cases hmem
    | cons c h =>
      simp only [List.map_cons] at hget0
      have hget : ∀ hh : i.toNat < (D.int .i64 c :: h.map (.int .i64)).length, (D.int .i64 c :: h.map (.int .i64))[i.toNat] = .int .i64 s := fun hh => by rw [List.getElem?_eq_getElem hh] at hget0; injection hget0
      have hli2 : i < (h.length : Int) + 1 := by simp only [List.length_cons] at hli; omega
      have hli3 : i.toNat < h.length + 1 := by omega
      simp only [slSt2, List.append_nil] at ih
      rcases semaAt_cases l s with ⟨h1, h2⟩ | ⟨x, h1, h2, h3, h4⟩
      · have s3 : 3 < s := by omega
        have hb : hitB l t s = false := by simp [hitB, h1]
        have eb : eqB l t low s = false := by simp [eqB, h1]
        have ih := ih any at_
        simp [c_law11_SemaLow_L2, k_law11_SemaLow_L2b, slSt2, h0, hli2, hli3, hget, hw, s3, hb, eb, ih]
      · have s3 : ¬ 3 < s := by omega
        have s4 : s < 4 := by omega
        have s5 : s.toNat < l.length := by omega
        have hgs : ∀ hh : s.toNat < l.length, l[s.toNat] = x := fun hh => by rw [List.getElem?_eq_getElem hh] at h4; injection h4
        by_cases hh : x.holder = IntKind.i64.wrap (t + 1)
        · have hb : hitB l t s = true := by simp [hitB, h1, hh]
          have eb : eqB l t low s = decide (x.ceil = low) := by simp [eqB, h1, hh]
          have hc : ¬ x.ceil < low := by have := H s hmem x h1 hh; omega
          have ih := ih true (at_ || decide (x.ceil = low))
          cases at_ <;> simp at ih <;> simp [c_law11_SemaLow_L2, k_law11_SemaLow_L2b, slSt2, h0, s0, hli2, hli3, hget, hw, s3, s4, s5, hgs, h4, hh, hb, eb, hc, ih, Sema.d, hl]
        · have hb : hitB l t s = false := by simp [hitB, h1, hh]
          have eb : eqB l t low s = false := by simp [eqB, h1, hh]
          have ih := ih any at_
          simp [c_law11_SemaLow_L2, k_law11_SemaLow_L2b, slSt2, h0, s0, hli2, hli3, hget, hw, s3, s4, s5, hgs, h4, hh, hb, eb, ih, Sema.d, hl]
theorem argV_four (a b c d : Int) : argV (.agg [.int .u8 a, .int .u8 b, .int .u8 c, .int .u8 d]) = .d (.agg [.int .u8 a, .int .u8 b, .int .u8 c, .int .u8 d]) := rfl
set_option maxHeartbeats 4000000 in
theorem sema_low (c0 c1 c2 c3 h0 h1 h2 h3 : Int) (nl : Bool) (held : List Int) (hh : held.length ≤ 6) (hp : ∀ s ∈ held, 0 ≤ s ∧ s < 256) (task : Int) (ht : 0 ≤ task ∧ task < 256) :
    run kp (.data f_law11_SemaLow [.agg [.int .u8 c0, .int .u8 c1, .int .u8 c2, .int .u8 c3], .agg [.int .u8 h0, .int .u8 h1, .int .u8 h2, .int .u8 h3], .sl nl (held.map (.int .u8)), .int .u8 task]) = some (.ds [.bool true]) := by
  rw [run_data, run_call, kp_law11_SemaLow]
  have a1 : ¬ (6 : Int) < held.length := by omega
  have t0 : 0 ≤ IntKind.i64.wrap (task.tmod 4) := by
    rw [Int.tmod_eq_emod_of_nonneg (by omega), wrap_i64 (by omega) (by omega)]; omega
  generalize ht' : IntKind.i64.wrap (task.tmod 4) = t at *
  have l0 := sl_loop0 c0 c1 c2 c3 h0 h1 h2 h3 t nl held
  generalize hl : four c0 c1 c2 c3 h0 h1 h2 h3 = l at *
  have hlen : l.length = 4 := by rw [← hl]; rfl
  have l1 := sl_loop1 t nl held (by omega) l held [] rfl 0 rfl
  have hpos : ∀ s ∈ held.map hOf, 0 ≤ s := by
    intro s hs
    obtain ⟨x, hx, rfl⟩ := List.mem_map.1 hs
    have := hp x hx
    simp only [hOf]
    rw [Int.tmod_eq_emod_of_nonneg (by omega), wrap_i64 (by omega) (by omega)]; omega
  have hlh : (held.map hOf).length = held.length := by simp
  have tk : List.take 4 (List.map Sema.d l) = List.map Sema.d l := List.take_of_length_le (by simp [hlen])
  generalize held.map hOf = h at *
  obtain ⟨e1, e2⟩ := low_eq l h t t0
  obtain ⟨p1, p2, p3, p4⟩ := low_is l t h 0 false
  rw [e1] at p2 p3 p4
  rw [e2] at p1
  have hm : h.length ≤ maxLen := Nat.le_trans (by omega : h.length ≤ 6) (by decide)
  have hm' : ∀ nh, _ := fun nh => sema_Low false nh l h hm t
  have l2 := sl_loop2 t (lowF l t h [] 0 false).1 (lowF l t h [] 0 false).2.1 l hlen h (by omega) hpos p2 h [] rfl 0 rfl false false
  generalize (lowF l t h [] 0 false).1 = low at *
  generalize (lowF l t h [] 0 false).2.1 = ok at *
  simp only [Bool.false_or] at p1 l2
  have hq : h.any (eqB l t low) = true → h.any (hitB l t) = true := by
    intro hx
    obtain ⟨y, hy, hz⟩ := List.any_eq_true.1 hx
    refine List.any_eq_true.2 ⟨y, hy, ?_⟩
    simp only [eqB] at hz
    simp only [hitB]
    split at hz
    · simp at hz; simp [hz.1]
    · cases hz
  generalize h.any (hitB l t) = any at *
  generalize h.any (eqB l t low) = at_ at *
  subst p1
  cases h with
  | nil =>
    simp [slSt] at l1
    simp [slSt2] at l2
    have hm' := hm' true
    simp only [List.map_nil] at hm'
    cases ok with
    | true =>
      cases at_ with
      | true => simp [k_law11_SemaLow, sema_begun, argV_four, a1, ht', l0, l1, l2, hm', hlen, tk]
      | false => simp at p4
    | false =>
      cases at_ with
      | true => exact absurd (hq rfl) (by simp)
      | false =>
        have : low = 0 := by simpa using p4
        subst this
        simp [k_law11_SemaLow, sema_begun, argV_four, a1, ht', l0, l1, l2, hm', hlen, tk]
  | cons a h =>
    simp [slSt] at l1
    simp [slSt2] at l2
    have hm' := hm' false
    simp only [List.map_cons] at hm'
    cases ok with
    | true =>
      cases at_ with
      | true => simp [k_law11_SemaLow, sema_begun, argV_four, a1, ht', l0, l1, l2, hm', hlen, tk]
      | false => simp at p4
    | false =>
      cases at_ with
      | true => exact absurd (hq rfl) (by simp)
      | false =>
        have : low = 0 := by simpa using p4
        subst this
        simp [k_law11_SemaLow, sema_begun, argV_four, a1, ht', l0, l1, l2, hm', hlen, tk]
theorem has_four {x : D} (h : Sh.has (.ar 4 (.i .u8)) x) : ∃ a b c d : Int, x = .agg [.int .u8 a, .int .u8 b, .int .u8 c, .int .u8 d] := by
  obtain ⟨l, rfl, h1, h2⟩ := has_ar h
  obtain ⟨m, rfl, hm⟩ := all_typed (f := D.int .u8) (fun y hy => has_int hy) l h2
  match m, h1 with
  | [a, b, c, d], _ => exact ⟨a, b, c, d, rfl⟩
theorem law_SemaLow (xs : List D) (h : Sh.hasL [.ar 4 (.i .u8), .ar 4 (.i .u8), .sl (.i .u8), .i .u8] xs) : run kp (.data f_law11_SemaLow xs) = some (.ds [.bool true]) := by
  obtain ⟨x1, _, rfl, h1, h⟩ := hasL_cons h
  obtain ⟨x2, _, rfl, h2, h⟩ := hasL_cons h
  obtain ⟨x3, _, rfl, h3, h⟩ := hasL_cons h
  obtain ⟨x4, _, rfl, h4, h⟩ := hasL_cons h
  obtain rfl := hasL_nil h
  obtain ⟨c0, c1, c2, c3, rfl⟩ := has_four h1
  obtain ⟨g0, g1, g2, g3, rfl⟩ := has_four h2
  obtain ⟨nl, held, rfl, _, _, hw⟩ := has_nums h3
  obtain ⟨task, rfl, k4⟩ := has_int h4
  by_cases hh : held.length ≤ 6
  · exact sema_low c0 c1 c2 c3 g0 g1 g2 g3 nl held hh (fun s hs => wf_u8 (hw s hs)) task (wf_u8 k4)
  · rw [run_data, run_call, kp_law11_SemaLow]
    have a1 : (6 : Int) < held.length := by omega
    simp [k_law11_SemaLow, sema_begun, argV_four, a1]
end Go.Cd
