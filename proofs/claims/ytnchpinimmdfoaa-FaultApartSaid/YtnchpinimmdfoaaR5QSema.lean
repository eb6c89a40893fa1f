/- The functions of sema. No conditions. -/
import Derived.Test.YtnchpinimmdfoaaCode
import Derived.Test.YtnchpinimmdfoaaS4
set_option linter.unusedVariables false
set_option linter.unusedSimpArgs false
namespace Go.Cd
open Go Go.Fw
structure Sema where
  ceil : Int
  holder : Int
def Sema.d (s : Sema) : D := .agg [.int .i64 s.ceil, .int .i64 s.holder]
theorem sema_has (nl : Bool) (l : List D) (s : Int) : run kp (.data f_sema_has [.sl nl l, .int .i64 s]) = some (.ds [.bool (decide (0 ≤ s ∧ s < l.length))]) := by
  rw [run_data, run_call, kp_sema_has]
  simp [k_sema_has]
  by_cases h : 0 ≤ s <;> simp [h]
def semaAt (l : List Sema) (s : Int) : Option Sema := if 0 ≤ s then l[s.toNat]? else none
def semaHolds (l : List Sema) (s task : Int) : Bool := match semaAt l s with | some x => decide (0 ≤ task) && decide (x.holder = IntKind.i64.wrap (task + 1)) | none => false
theorem sema_holds (nl : Bool) (l : List Sema) (s task : Int) : run kp (.data f_sema_holds [.sl nl (l.map Sema.d), .int .i64 s, .int .i64 task]) = some (.ds [.bool (semaHolds l s task)]) := by
  rw [run_data, run_call, kp_sema_holds]
  by_cases h : 0 ≤ s ∧ s < l.length
  · have h1 : s.toNat < l.length := by omega
    have h2 : l[s.toNat]? = some l[s.toNat] := List.getElem?_eq_getElem h1
    simp [k_sema_holds, sema_has, h, semaHolds, semaAt, h2, Sema.d]
    split
    · simp_all
    · rename_i ht
      simp [ht]
  · simp [k_sema_holds, sema_has, h]
    simp only [semaHolds, semaAt]
    by_cases h0 : 0 ≤ s
    · have : l.length ≤ s.toNat := by omega
      simp [h0, List.getElem?_eq_none this]
    · simp [h0]
def seenM (seen : List Int) : List (D × V) := seen.map fun s => (.agg [.int .i64 s], .bool true)
theorem seen_find (s : Int) : ∀ (seen : List Int), mapFind (seenM seen) (.agg [.int .i64 s]) = if s ∈ seen then some (.bool true) else none
  | [] => rfl
  | a :: r => by
    simp only [seenM, List.map_cons, mapFind]
    have := seen_find s r
    simp only [seenM] at this
    rw [this]
    by_cases h : s = a
    · subst h; simp [D.beq, D.beqs]
    · simp [D.beq, D.beqs, h]
theorem seen_put (s : Int) : ∀ (seen : List Int), s ∉ seen → mapPut (seenM seen) (.agg [.int .i64 s]) (.bool true) = seenM (seen ++ [s])
  | [], _ => rfl
  | a :: r, h => by
    simp only [List.mem_cons, not_or] at h
    simp only [seenM, List.map_cons, mapPut, List.cons_append]
    have := seen_put s r h.2
    simp only [seenM] at this
    rw [this]
    simp [D.beq, D.beqs, h.1]
@[simp] theorem seen_hss : ∀ (seen : List Int), V.hss ((seenM seen).map (fun x => x.2)) = []
  | [] => rfl
  | a :: r => by
    have := seen_hss r
    simp only [seenM, List.map_map] at this
    simp [seenM, V.hss, V.hs, this]
@[simp] theorem seen_ren (f : Nat → Nat) : ∀ (seen : List Int), mapRen f (seenM seen) = seenM seen
  | [] => rfl
  | a :: r => by
    have := seen_ren f r
    simp only [seenM] at this
    simp [seenM, mapRen, V.ren, this]
def semaCeil (l : List Sema) (s : Int) : Int := match semaAt l s with | some x => x.ceil | none => 0
/-- The least ceiling, as the code finds it. -/
def lowF (l : List Sema) (task : Int) : List Int → List Int → Int → Bool → Int × Bool × List Int
  | [], seen, low, ok => (low, ok, seen)
  | s :: r, seen, low, ok =>
    if semaHolds l s task = true ∧ s ∉ seen then
      (if ok = true ∧ low ≤ semaCeil l s then lowF l task r (seen ++ [s]) low ok else lowF l task r (seen ++ [s]) (semaCeil l s) true)
    else lowF l task r seen low ok
theorem sema_Low_loop (nl nh : Bool) (l : List Sema) (task : Int) (held : List Int) (hlen : held.length ≤ maxLen) : ∀ (rest pre : List Int), held = pre ++ rest → ∀ (i : Int), i = pre.length → ∀ (seen : List Int) (low : Int) (ok : Bool),
    run kp (.loop [0, 2, 6, 7, 8, 12, 13, 14] k_sema_Low_L0 { env := [(0, V.asl nl (List.map Sema.d l)), (2, V.int IntKind.i64 task), (6, V.int IntKind.i64 low),
                      (7, V.bool ok), (8, V.map 0), (12, V.asl nh (List.map (D.int IntKind.i64) held)),
                      (13, V.int IntKind.i64 ↑held.length), (14, V.int IntKind.i64 i)], hp := [(0, Blk.mp (seenM seen))], tl := fun _ => none, base := 0, next := 1 }) =
    some (.out (.ext 0) { env := [(0, V.asl nl (List.map Sema.d l)), (2, V.int IntKind.i64 task), (6, V.int IntKind.i64 (lowF l task rest seen low ok).1),
                      (7, V.bool (lowF l task rest seen low ok).2.1), (8, V.map 0), (12, V.asl nh (List.map (D.int IntKind.i64) held)),
                      (13, V.int IntKind.i64 ↑held.length), (14, V.int IntKind.i64 held.length), (15, .bool false)], hp := [(0, Blk.mp (seenM (lowF l task rest seen low ok).2.2))], tl := fun _ => none, base := 0, next := 1 })
  | [], pre, h, i, hi, seen, low, ok => by
    simp at h
    subst h hi
    rw [run_round]
    simp [c_sema_Low_L0, k_sema_Low_L0b, lowF]
  | s :: rest, pre, h, i, hi, seen, low, ok => by
    have hl : i < held.length := by rw [h, hi]; simp; omega
    have h0 : 0 ≤ i := by omega
    have hget0 : held[i.toNat]? = some s := by rw [h, hi]; simp
    have hget : ∀ hh : i.toNat < held.length, held[i.toNat] = s := fun hh => by rw [List.getElem?_eq_getElem hh] at hget0; injection hget0
    have hm := len_i64 hlen
    have hw : IntKind.i64.wrap (i + 1) = i + 1 := wrap_i64 (by omega) (by omega)
    have ih := fun seen low ok => sema_Low_loop nl nh l task held hlen rest (pre ++ [s]) (by simp [h]) (i + 1) (by simp [hi]) seen low ok
    rw [run_round]
    by_cases hh : semaHolds l s task = true
    · by_cases hs : s ∈ seen
      · simp [c_sema_Low_L0, k_sema_Low_L0b, hl, h0, hget, sema_holds, hh, seen_find, hs, lowF, hw, ih]
      · have hc : ∃ x, semaAt l s = some x := by
          simp only [semaHolds] at hh
          cases hx : semaAt l s with
          | none => rw [hx] at hh; cases hh
          | some x => exact ⟨x, rfl⟩
        obtain ⟨x, hx⟩ := hc
        have hs0 : 0 ≤ s := by
          simp only [semaAt] at hx
          split at hx
          · assumption
          · cases hx
        have hx2 : l[s.toNat]? = some x := by simpa [semaAt, hs0] using hx
        have hceil : semaCeil l s = x.ceil := by simp [semaCeil, hx]
        cases ok with
        | false => simp [c_sema_Low_L0, k_sema_Low_L0b, hl, h0, hget, sema_holds, hh, seen_find, hs, lowF, hw, ih, seen_put, hs0, hx2, Sema.d, hceil]
        | true =>
          by_cases hlow : x.ceil < low
          · have : ¬ low ≤ x.ceil := by omega
            simp [c_sema_Low_L0, k_sema_Low_L0b, hl, h0, hget, sema_holds, hh, seen_find, hs, lowF, hw, ih, seen_put, hs0, hx2, Sema.d, hceil, hlow, this]
          · have : low ≤ x.ceil := by omega
            simp [c_sema_Low_L0, k_sema_Low_L0b, hl, h0, hget, sema_holds, hh, seen_find, hs, lowF, hw, ih, seen_put, hs0, hx2, Sema.d, hceil, hlow, this]
    · simp [c_sema_Low_L0, k_sema_Low_L0b, hl, h0, hget, sema_holds, hh, lowF, hw, ih]
theorem sema_Low (nl nh : Bool) (l : List Sema) (held : List Int) (hlen : held.length ≤ maxLen) (task : Int) : run kp (.data f_sema_Low [.sl nl (l.map Sema.d), .sl nh (held.map (.int .i64)), .int .i64 task]) = some (.ds [.int .i64 (lowF l task held [] 0 false).1, .bool (lowF l task held [] 0 false).2.1]) := by
  rw [run_data, run_call, kp_sema_Low]
  have hl := sema_Low_loop nl nh l task held hlen held [] rfl 0 rfl [] 0 false
  simp only [seenM, List.map_nil] at hl
  simp [k_sema_Low, hl]
end Go.Cd
