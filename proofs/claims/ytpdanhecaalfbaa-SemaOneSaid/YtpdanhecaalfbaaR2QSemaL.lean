/- The least ceiling, as the reference has it. No conditions. -/
import Derived.Test.YtpdanhecaalfbaaR2QSema
import Derived.Test.YtpdanhecaalfbaaS6
import Derived.KernelRfl
set_option linter.unusedVariables false
set_option linter.unusedSimpArgs false
namespace Go.Cd
open Go Go.Fw
def semaSh : Sh := .st [.i .i64, .i .i64]
theorem has_sema {x : D} (h : Sh.has semaSh x) : ∃ s : Sema, x = s.d ∧ (Lit.int .i64 s.ceil).wf = true ∧ (Lit.int .i64 s.holder).wf = true := by
  obtain ⟨l, rfl, h⟩ := has_st h
  obtain ⟨a, _, rfl, h1, h⟩ := hasL_cons h
  obtain ⟨b, _, rfl, h2, h⟩ := hasL_cons h
  obtain rfl := hasL_nil h
  obtain ⟨a, rfl, k1⟩ := has_int h1
  obtain ⟨b, rfl, k2⟩ := has_int h2
  exact ⟨⟨a, b⟩, rfl, k1, k2⟩
theorem has_semas {x : D} (h : Sh.has (.sl semaSh) x) : ∃ nl l, x = .sl nl (l.map Sema.d) ∧ (nl = true → l = []) ∧ l.length ≤ maxLen ∧ ∀ s ∈ l, (Lit.int .i64 s.ceil).wf = true ∧ (Lit.int .i64 s.holder).wf = true := by
  obtain ⟨nl, l, rfl, h1, h2, h3⟩ := has_sl h
  obtain ⟨m, rfl, hm⟩ := all_typed (f := Sema.d) (fun y hy => has_sema hy) l h3
  exact ⟨nl, m, rfl, by simpa using h1, by simpa using h2, hm⟩
/-- The least ceiling, as the reference finds it. -/
def refLowF (l : List Sema) (task : Int) : List Int → Int → Bool → Int × Bool
  | [], low, is => (low, is)
  | s :: r, low, is => match semaAt l s with
    | some x => if x.holder = IntKind.i64.wrap (task + 1) then refLowF l task r (if is = true ∧ low ≤ x.ceil then low else x.ceil) true else refLowF l task r low is
    | none => refLowF l task r low is
theorem ref11_Low_loop (nl nh : Bool) (l : List Sema) (task : Int) (held : List Int) (hlen : held.length ≤ maxLen) : ∀ (rest pre : List Int), held = pre ++ rest → ∀ (i : Int), i = pre.length → ∀ (low : Int) (is : Bool),
    run kp (.loop [0, 1, 2, 8, 9, 10] k_ref11_Low_L0 { env := [(0, V.asl nl (List.map Sema.d l)), (1, V.asl nh (List.map (D.int IntKind.i64) held)), (2, V.int IntKind.i64 task), (8, V.int IntKind.i64 low),
                      (9, V.bool is), (10, V.int IntKind.i64 i)], hp := [], tl := fun _ => none, base := 0, next := 0 }) =
    some (.out (.ext 0) { env := [(0, V.asl nl (List.map Sema.d l)), (1, V.asl nh (List.map (D.int IntKind.i64) held)), (2, V.int IntKind.i64 task), (8, V.int IntKind.i64 (refLowF l task rest low is).1),
                      (9, V.bool (refLowF l task rest low is).2), (10, V.int IntKind.i64 held.length), (15, .bool false)], hp := [], tl := fun _ => none, base := 0, next := 0 })
  | [], pre, h, i, hi, low, is => by
    simp at h
    subst h hi
    rw [run_round]
    simp [c_ref11_Low_L0, k_ref11_Low_L0b, refLowF]
  | s :: rest, pre, h, i, hi, low, is => by
    have hl : i < held.length := by rw [h, hi]; simp; omega
    have h0 : 0 ≤ i := by omega
    have hget0 : held[i.toNat]? = some s := by rw [h, hi]; simp
    have hget : ∀ hh : i.toNat < held.length, held[i.toNat] = s := fun hh => by rw [List.getElem?_eq_getElem hh] at hget0; injection hget0
    have hm := len_i64 hlen
    have hw : IntKind.i64.wrap (i + 1) = i + 1 := wrap_i64 (by omega) (by omega)
    have ih := fun low is => ref11_Low_loop nl nh l task held hlen rest (pre ++ [s]) (by simp [h]) (i + 1) (by simp [hi]) low is
    rw [run_round]
    by_cases hs0 : s < 0
    · have : semaAt l s = none := by simp [semaAt]; omega
      simp [c_ref11_Low_L0, k_ref11_Low_L0b, hl, h0, hget, hs0, refLowF, hw, ih, this]
    · have hs0' : 0 ≤ s := by omega
      by_cases hsl : l.length ≤ s
      · have : semaAt l s = none := by
          simp only [semaAt]
          rw [if_pos hs0', List.getElem?_eq_none (by omega)]
        simp [c_ref11_Low_L0, k_ref11_Low_L0b, hl, h0, hget, hs0, hsl, refLowF, hw, ih, this]
      · have hsn : s.toNat < l.length := by omega
        have hx2 : l[s.toNat]? = some l[s.toNat] := List.getElem?_eq_getElem hsn
        have hat : semaAt l s = some l[s.toNat] := by simp [semaAt, hs0', hx2]
        generalize l[s.toNat] = x at hx2 hat
        by_cases hx : x.holder = IntKind.i64.wrap (task + 1)
        · cases is with
          | false => simp [c_ref11_Low_L0, k_ref11_Low_L0b, hl, h0, hget, hs0, hs0', hsl, refLowF, hw, ih, hat, hx2, hx, Sema.d]
          | true =>
            by_cases hlow : x.ceil < low
            · have : ¬ low ≤ x.ceil := by omega
              simp [c_ref11_Low_L0, k_ref11_Low_L0b, hl, h0, hget, hs0, hs0', hsl, refLowF, hw, ih, hat, hx2, hx, Sema.d, hlow, this]
            · have : low ≤ x.ceil := by omega
              simp [c_ref11_Low_L0, k_ref11_Low_L0b, hl, h0, hget, hs0, hs0', hsl, refLowF, hw, ih, hat, hx2, hx, Sema.d, hlow, this]
        · simp [c_ref11_Low_L0, k_ref11_Low_L0b, hl, h0, hget, hs0, hs0', hsl, refLowF, hw, ih, hat, hx2, hx, Sema.d]
theorem ref11_Low (nl nh : Bool) (l : List Sema) (held : List Int) (hlen : held.length ≤ maxLen) (task : Int) : run kp (.data f_ref11_Low [.sl nl (l.map Sema.d), .sl nh (held.map (.int .i64)), .int .i64 task]) = some (.ds [.int .i64 (refLowF l task held 0 false).1, .bool (refLowF l task held 0 false).2]) := by
  rw [run_data, run_call, kp_ref11_Low]
  have hl := ref11_Low_loop nl nh l task held hlen held [] rfl 0 rfl 0 false
  simp [k_ref11_Low, hl]
/-- The two ways to the least ceiling come to one. -/
theorem low_same (l : List Sema) (task : Int) (ht : 0 ≤ task) : ∀ (rest seen : List Int) (low : Int) (ok : Bool), (ok = true → ∀ s ∈ seen, low ≤ semaCeil l s) → (seen ≠ [] → ok = true) →
    ((lowF l task rest seen low ok).1, (lowF l task rest seen low ok).2.1) = refLowF l task rest low ok
  | [], seen, low, ok, _, _ => rfl
  | s :: r, seen, low, ok, h1, h2 => by
    simp only [lowF, refLowF]
    cases hx : semaAt l s with
    | none =>
      have : semaHolds l s task = false := by simp [semaHolds, hx]
      simp only [this]
      simpa using low_same l task ht r seen low ok h1 h2
    | some x =>
      have hc : semaCeil l s = x.ceil := by simp [semaCeil, hx]
      by_cases hh : x.holder = IntKind.i64.wrap (task + 1)
      · have hho : semaHolds l s task = true := by simp [semaHolds, hx, ht, hh]
        by_cases hs : s ∈ seen
        · have hok := h2 (fun e => by rw [e] at hs; cases hs)
          have hle := h1 hok s hs
          rw [hc] at hle
          simp only [hho, hs, hh, hok, hle]
          simpa using low_same l task ht r seen low true (fun _ => h1 hok) (fun _ => rfl)
        · simp only [hho, hs, hh, hc]
          by_cases hk : ok = true ∧ low ≤ x.ceil
          · obtain ⟨hok, hle⟩ := hk
            simp only [hok, hle]
            simpa using low_same l task ht r (seen ++ [s]) low true (fun _ y hy => by
              rcases List.mem_append.1 hy with hy | hy
              · exact h1 hok y hy
              · simp at hy; subst hy; rw [hc]; exact hle) (fun _ => rfl)
          · simp only [hk]
            simpa using low_same l task ht r (seen ++ [s]) x.ceil true (fun _ y hy => by
              rcases List.mem_append.1 hy with hy | hy
              · have hok := h2 (fun e => by rw [e] at hy; cases hy)
                have := h1 hok y hy
                have : ¬ low ≤ x.ceil := fun e => hk ⟨hok, e⟩
                omega
              · simp at hy; subst hy; rw [hc]; exact Int.le_refl _) (fun _ => rfl)
      · have hho : semaHolds l s task = false := by simp [semaHolds, hx, hh]
        simp only [hho, hh]
        simpa using low_same l task ht r seen low ok h1 h2
end Go.Cd
