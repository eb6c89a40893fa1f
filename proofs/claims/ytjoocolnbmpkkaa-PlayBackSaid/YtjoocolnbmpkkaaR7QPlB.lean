/- Rows joined; handles read. No conditions. -/
import Derived.Test.YtjoocolnbmpkkaaR7QPlA
set_option linter.unusedVariables false
set_option linter.unusedSimpArgs false
namespace Go.Cd
open Go Go.Fw
def rwD (p : Bool × List Int) : D := .sl p.1 (p.2.map u8d)
def cat : List (Bool × List Int) → List Int
  | [] => []
  | p :: l => p.2 ++ cat l
def cat1St (L : List (Bool × List Int)) (nl : Bool) (s i : Nat) (ex : List (Nat × V)) : St :=
  { env := [(0, .asl nl (L.map rwD)), (3, .int .i64 (s : Int)), (9, .asl nl (L.map rwD)), (10, .int .i64 L.length), (11, .int .i64 (i : Int))] ++ ex, hp := [], tl := fun _ => none, base := 0, next := 0 }
set_option maxRecDepth 10000 in
set_option maxHeartbeats 4000000 in
theorem cat_loop1 (L : List (Bool × List Int)) (nl : Bool) (hL : L.length ≤ 1000) (ht : (cat L).length ≤ 100000) : ∀ (j i s : Nat), i + j = L.length → s + (cat (L.drop i)).length = (cat L).length →
    run kp (.loop [0, 3, 9, 10, 11] k_slices_Concat_byte_byte_L0 (cat1St L nl s i [])) = some (.out (.ext 0) (cat1St L nl (cat L).length L.length [(12, .bool false)]))
  | 0, i, s, hij, hs => by
    obtain rfl : i = L.length := by omega
    rw [List.drop_length] at hs
    have : s = (cat L).length := by simpa [cat] using hs
    subst this
    rw [run_round]
    simp [c_slices_Concat_byte_byte_L0, k_slices_Concat_byte_byte_L0b, cat1St]
  | j + 1, i, s, hij, hs => by
    have hi : i < L.length := by omega
    have hi2 : (i : Int) < (L.length : Int) := by omega
    obtain ⟨p, hp⟩ : ∃ p, L[i]? = some p := ⟨_, List.getElem?_eq_getElem hi⟩
    have hp2 : ∀ hh : i < L.length, L[i] = p := fun hh => by rw [List.getElem?_eq_getElem hh] at hp; injection hp
    have ed : L.drop i = p :: L.drop (i + 1) := by rw [List.drop_eq_getElem_cons hi, hp2 hi]
    rw [ed] at hs
    simp only [cat, List.length_append] at hs
    rw [← cat_loop1 L nl hL ht j (i + 1) (s + p.2.length) (by omega) (by omega), run_round]
    have w : IntKind.i64.wrap ((i : Int) + 1) = ((i + 1 : Nat) : Int) := by rw [wrap_i64 (by omega) (by omega)]; omega
    have ws : IntKind.i64.wrap ((s : Int) + (p.2.length : Int)) = ((s + p.2.length : Nat) : Int) := by rw [wrap_i64 (by omega) (by omega)]; omega
    have s0 : ¬ ((s + p.2.length : Nat) : Int) < 0 := by omega
    obtain ⟨pn, pl⟩ := p
    simp only at ws s0
    generalize s + pl.length = s' at *
    generalize i + 1 = i' at *
    simp [c_slices_Concat_byte_byte_L0, k_slices_Concat_byte_byte_L0b, cat1St, rwD, hi, hi2, hp, hp2, w, ws, s0]
def cat2St (L : List (Bool × List Int)) (nl : Bool) (R : List D) (n i : Nat) (ex : List (Nat × V)) : St :=
  { env := [(6, .sl false 0 0 n), (25, .asl nl (L.map rwD)), (26, .int .i64 L.length), (27, .int .i64 (i : Int))] ++ ex, hp := [(0, .row true R)], tl := fun _ => none, base := 0, next := 1 }
set_option maxRecDepth 10000 in
set_option maxHeartbeats 4000000 in
theorem cat_round2 (L : List (Bool × List Int)) (nl : Bool) (hL : L.length ≤ 1000) (ht : (cat L).length ≤ 100000) (i : Nat) (hi : i < L.length) (p : Bool × List Int) (hp : L[i]? = some p) (acc : List Int) (R : List D) (hR : R.take acc.length = acc.map u8d) (hRl : acc.length ≤ R.length) (hs : acc.length + p.2.length ≤ 100000) :
    run kp (.loop [6, 25, 26, 27] k_slices_Concat_byte_byte_L1 (cat2St L nl R acc.length i [])) = run kp (.loop [6, 25, 26, 27] k_slices_Concat_byte_byte_L1 (cat2St L nl ((acc ++ p.2).map u8d) (acc ++ p.2).length (i + 1) [])) := by
  have hi2 : (i : Int) < (L.length : Int) := by omega
  have hp2 : ∀ hh : i < L.length, L[i] = p := fun hh => by rw [List.getElem?_eq_getElem hh] at hp; injection hp
  have w : IntKind.i64.wrap ((i : Int) + 1) = ((i + 1 : Nat) : Int) := by rw [wrap_i64 (by omega) (by omega)]; omega
  obtain ⟨pn, pl⟩ := p
  simp only at hs
  have q : acc.length + pl.length ≤ 1073741824 := by omega
  rw [run_round]
  generalize i + 1 = i' at *
  simp [c_slices_Concat_byte_byte_L1, k_slices_Concat_byte_byte_L1b, cat2St, rwD, hi, hi2, hp, hp2, w, q, hR, hRl]
theorem cat_loop2 (L : List (Bool × List Int)) (nl : Bool) (hL : L.length ≤ 1000) (ht : (cat L).length ≤ 100000) : ∀ (j i : Nat) (acc : List Int) (R : List D), i + j = L.length → acc ++ cat (L.drop i) = cat L → R.take acc.length = acc.map u8d → acc.length ≤ R.length →
    ∃ R', R'.take (cat L).length = (cat L).map u8d ∧ (cat L).length ≤ R'.length ∧ run kp (.loop [6, 25, 26, 27] k_slices_Concat_byte_byte_L1 (cat2St L nl R acc.length i [])) = some (.out (.ext 2) (cat2St L nl R' (cat L).length L.length [(28, .bool false)]))
  | 0, i, acc, R, hij, ha, hR, hRl => by
    obtain rfl : i = L.length := by omega
    rw [List.drop_length] at ha
    have : acc = cat L := by simpa [cat] using ha
    subst this
    refine ⟨R, hR, hRl, ?_⟩
    rw [run_round]
    simp [c_slices_Concat_byte_byte_L1, k_slices_Concat_byte_byte_L1b, cat2St]
  | j + 1, i, acc, R, hij, ha, hR, hRl => by
    have hi : i < L.length := by omega
    obtain ⟨p, hp⟩ : ∃ p, L[i]? = some p := ⟨_, List.getElem?_eq_getElem hi⟩
    have hp2 : ∀ hh : i < L.length, L[i] = p := fun hh => by rw [List.getElem?_eq_getElem hh] at hp; injection hp
    have ed : L.drop i = p :: L.drop (i + 1) := by rw [List.drop_eq_getElem_cons hi, hp2 hi]
    rw [ed] at ha
    simp only [cat] at ha
    have hl : acc.length + p.2.length ≤ 100000 := by
      have := congrArg List.length ha
      simp at this
      omega
    rw [cat_round2 L nl hL ht i hi p hp acc R hR hRl hl]
    exact cat_loop2 L nl hL ht j (i + 1) (acc ++ p.2) _ (by omega) (by rw [List.append_assoc]; exact ha) (List.take_of_length_le (by simp)) (by simp)
set_option maxRecDepth 10000 in
set_option maxHeartbeats 4000000 in
theorem grow_call (n : Nat) (h0 : 0 < n) (hn : n ≤ 100000) : run kp (.call f_slices_Grow_byte_byte [.d (.sl true []), .int .i64 n] (fun _ => none) 0) = some (.val (.sl false 0 0 0) [(0, .row true (List.replicate n (.int .u8 0)))] 1) := by
  have n0 : (0 : Int) < (n : Int) := by omega
  have n1 : ¬ (n : Int) < 0 := by omega
  have n2 : (n : Int) ≤ 1073741824 := by omega
  have z : IntKind.i64.wrap 0 = 0 := by decide
  have w : IntKind.i64.wrap (n : Int) = (n : Int) := wrap_i64 (by omega) (by omega)
  have n3 : 0 ≤ (n : Int) := by omega
  rw [run_call, kp_slices_Grow_byte_byte]
  simp [k_slices_Grow_byte_byte, canK_canH, h0, n0, n1, n2, n3, z, w, mostLen]
set_option maxRecDepth 10000 in
set_option maxHeartbeats 4000000 in
theorem slices_Concat (L : List (Bool × List Int)) (nl : Bool) (hL : L.length ≤ 1000) (ht : (cat L).length ≤ 100000) (h0 : cat L ≠ []) : run kp (.data f_slices_Concat_byte_byte [.sl nl (L.map rwD)]) = some (.ds [.sl false ((cat L).map u8d)]) := by
  have hp : 0 < (cat L).length := List.length_pos_iff.2 h0
  have l1 := cat_loop1 L nl hL ht L.length 0 0 (by omega) (by simp)
  have g := grow_call (cat L).length hp ht
  obtain ⟨R', r1, r2, l2⟩ := cat_loop2 L nl hL ht L.length 0 [] (List.replicate (cat L).length (.int .u8 0)) (by omega) (by simp) (by simp) (by simp)
  simp only [cat1St, cat2St, List.append_nil, List.cons_append, List.nil_append, Int.cast_ofNat_Int, List.length_nil] at l1 l2
  rw [run_data, run_call, kp_slices_Concat_byte_byte]
  generalize cat L = C at *
  simp [k_slices_Concat_byte_byte, l1, g, l2, r1, r2]
end Go.Cd
