/- What the document reckons of programs: which may be. No conditions. -/
import Derived.Test.YtgjeondicdipaaaR9QCsB
set_option linter.unusedVariables false
set_option linter.unusedSimpArgs false
namespace Go.Cd
open Go Go.Fw
theorem get_map {α : Type} {f : α → D} {L : List α} {i : Nat} {x : α} (hx : L[i]? = some x) : (L.map f)[i]? = some (f x) := by
  rw [List.getElem?_map, hx]; rfl
theorem get_of {α : Type} {L : List α} {i : Nat} {x : α} (hx : L[i]? = some x) : ∀ hh : i < L.length, L[i]'hh = x := fun hh => by
  rw [List.getElem?_eq_getElem hh] at hx; injection hx
def hdSt (nl : Bool) (L : List Inst) (P : List Int) (i k : Nat) (ex : List (Nat × V)) : St :=
  { env := [(0, .asl nl (L.map Inst.d)), (1, .asl false (P.map (.int .i64))), (2, .int .i64 (i : Int)), (7, .int .i64 0), (8, .int .i64 (k : Int))] ++ ex, hp := [], tl := fun _ => none, base := 0, next := 0 }
set_option maxRecDepth 10000 in
set_option maxHeartbeats 8000000 in
theorem hd_loop (nl : Bool) (L : List Inst) (hL : L.length ≤ 100) (P : List Int) (hP : P.length = L.length) (i : Nat)
    (hn : ∀ (k : Nat) (x : Inst) (p : Int), L[k]? = some x → P[k]? = some p → x.op = 9 → k < i → ¬ (i : Int) < p) : ∀ (r k : Nat), k + r = L.length →
    run kp (.loop [0, 1, 2, 7, 8] k_ref1_held_L0 (hdSt nl L P i k [])) = some (.out (.ext 0) (hdSt nl L P i L.length [(12, .bool false)]))
  | 0, k, h => by
    obtain rfl : k = L.length := by omega
    rw [run_round]
    simp [c_ref1_held_L0, k_ref1_held_L0b, hdSt]
  | r + 1, k, h => by
    rw [← hd_loop nl L hL P hP i hn r (k + 1) (by omega), run_round]
    have hk : k < L.length := by omega
    have hk2 : (k : Int) < (L.length : Int) := by omega
    have hk3 : k < P.length := by omega
    obtain ⟨x, hx⟩ : ∃ x, L[k]? = some x := ⟨_, List.getElem?_eq_getElem hk⟩
    obtain ⟨p, hp⟩ : ∃ p, P[k]? = some p := ⟨_, List.getElem?_eq_getElem hk3⟩
    have hx2 := get_of hx
    have hp2 := get_of hp
    have w : IntKind.i64.wrap ((k : Int) + 1) = ((k + 1 : Nat) : Int) := by rw [wrap_i64 (by omega) (by omega)]; omega
    have hc := hn k x p hx hp
    generalize k + 1 = k' at *
    by_cases h9 : x.op = 9
    · by_cases hki : k < i
      · have hki2 : (k : Int) < (i : Int) := by omega
        have hc' := hc h9 hki
        simp [c_ref1_held_L0, k_ref1_held_L0b, hdSt, Inst.d, hk, hk2, hk3, hx, hx2, hp, hp2, w, h9, hki, hki2, hc']
      · have hki2 : ¬ (k : Int) < (i : Int) := by omega
        simp [c_ref1_held_L0, k_ref1_held_L0b, hdSt, Inst.d, hk, hk2, hk3, hx, hx2, hp, hp2, w, h9, hki, hki2]
    · simp [c_ref1_held_L0, k_ref1_held_L0b, hdSt, Inst.d, hk, hk2, hk3, hx, hx2, hp, hp2, w, h9]
theorem ref1_held (nl : Bool) (L : List Inst) (hL : L.length ≤ 100) (P : List Int) (hP : P.length = L.length) (i : Nat)
    (hn : ∀ (k : Nat) (x : Inst) (p : Int), L[k]? = some x → P[k]? = some p → x.op = 9 → k < i → ¬ (i : Int) < p) :
    run kp (.data f_ref1_held [.sl nl (L.map Inst.d), .sl false (P.map (.int .i64)), .int .i64 (i : Int)]) = some (.ds [.int .i64 0]) := by
  have lp := hd_loop nl L hL P hP i hn L.length 0 (by omega)
  simp only [hdSt, Int.cast_ofNat_Int, List.append_nil] at lp
  rw [run_data, run_call, kp_ref1_held]
  simp [k_ref1_held, lp]
/-! The first loop -/
def m0St (nl : Bool) (L : List Inst) (i : Nat) (ex : List (Nat × V)) : St :=
  { env := [(0, .asl nl (L.map Inst.d)), (3, .int .i64 (i : Int))] ++ ex, hp := [], tl := fun _ => none, base := 0, next := 0 }
set_option maxRecDepth 10000 in
set_option maxHeartbeats 8000000 in
theorem m0_loop (nl : Bool) (L : List Inst) (hL : L.length ≤ 100) (hm : ∀ x ∈ L, mayF x = true) (he : ∀ (i : Nat) (x : Inst), L[i]? = some x → (x.op = 0 ↔ i + 1 = L.length)) : ∀ (r k : Nat), k + r = L.length →
    run kp (.loop [0, 3] k_ref1_MayCode_L0 (m0St nl L k [])) = some (.out (.ext 0) (m0St nl L L.length [(26, .bool false)]))
  | 0, k, h => by
    obtain rfl : k = L.length := by omega
    rw [run_round]
    simp [c_ref1_MayCode_L0, k_ref1_MayCode_L0b, m0St]
  | r + 1, k, h => by
    rw [← m0_loop nl L hL hm he r (k + 1) (by omega), run_round]
    have hk : k < L.length := by omega
    have hk2 : (k : Int) < (L.length : Int) := by omega
    obtain ⟨x, hx⟩ : ∃ x, L[k]? = some x := ⟨_, List.getElem?_eq_getElem hk⟩
    have hx2 := get_of hx
    have w : IntKind.i64.wrap ((k : Int) + 1) = ((k + 1 : Nat) : Int) := by rw [wrap_i64 (by omega) (by omega)]; omega
    have w2 : IntKind.i64.wrap ((L.length : Int) - 1) = (L.length : Int) - 1 := wrap_i64 (by omega) (by omega)
    have hmx := hm x (List.mem_of_getElem? hx)
    have mi := ref1_MayInst x
    simp only [Inst.d] at mi
    have hc := he k x hx
    by_cases h0 : x.op = 0
    · have e := hc.1 h0
      have e2 : (L.length : Int) - 1 = (k : Int) := by omega
      have w3 : IntKind.i64.wrap (k : Int) = (k : Int) := wrap_i64 (by omega) (by omega)
      generalize k + 1 = k' at *
      rw [h0] at mi
      simp [c_ref1_MayCode_L0, k_ref1_MayCode_L0b, m0St, Inst.d, hk, hk2, hx, hx2, w, w3, h0, e2, mi, hmx]
    · have e : ¬ k + 1 = L.length := fun e => h0 (hc.2 e)
      have e2 : ¬ (k : Int) = (L.length : Int) - 1 := by omega
      generalize k + 1 = k' at *
      simp [c_ref1_MayCode_L0, k_ref1_MayCode_L0b, m0St, Inst.d, hk, hk2, hx, hx2, w, w2, h0, e2, mi, hmx]
/-! The pieces, two by two -/
def m1St (nl : Bool) (L : List Inst) (A : List Ar) (i : Nat) (ex : List (Nat × V)) : St :=
  { env := [(0, .asl nl (L.map Inst.d)), (4, arV 0 A), (5, .int .i64 (i : Int))] ++ ex, hp := arH 0 A, tl := fun _ => none, base := 0, next := arN A }
def Apart (A : List Ar) : Prop := ∀ (i k : Nat) (a b : Ar), A[i]? = some a → A[k]? = some b → i ≠ k → (a.to < b.fr ∨ b.to < a.fr) ∧ a.has b.of = false
set_option maxRecDepth 10000 in
set_option maxHeartbeats 8000000 in
theorem m2_loop (nl : Bool) (L : List Inst) (A : List Ar) (hA : A.length ≤ 100) (hf : ∀ a ∈ A, a.fr ≤ a.to) (hap : Apart A) (i : Nat) (a : Ar) (ha : A[i]? = some a) : ∀ (r k : Nat), k + r = A.length →
    run kp (.loop [0, 4, 5, 6] k_ref1_MayCode_L2 (m1St nl L A i [(6, .int .i64 (k : Int))])) = some (.out (.ext 4) (m1St nl L A i [(6, .int .i64 (A.length : Int)), (69, .bool false)]))
  | 0, k, h => by
    obtain rfl : k = A.length := by omega
    rw [run_round]
    cases A <;> simp [c_ref1_MayCode_L2, k_ref1_MayCode_L2b, m1St, arV, arH, arN]
  | r + 1, k, h => by
    rw [← m2_loop nl L A hA hf hap i a ha r (k + 1) (by omega), run_round]
    have hk : k < A.length := by omega
    have hi := getX ha
    obtain ⟨b, hb⟩ : ∃ b, A[k]? = some b := ⟨_, List.getElem?_eq_getElem hk⟩
    have w : IntKind.i64.wrap ((k : Int) + 1) = ((k + 1 : Nat) : Int) := by rw [wrap_i64 (by omega) (by omega)]; omega
    have fa := hf a (List.mem_of_getElem? ha)
    have fb := hf b (List.mem_of_getElem? hb)
    have hab := hap i k a b ha hb
    have eh := area_has a b.of
    generalize k + 1 = k' at *
    have ga := get_map (f := Ar.d) ha
    have gb := get_map (f := Ar.d) hb
    have ga2 := get_of ga
    have gb2 := get_of gb
    cases A with
    | nil => simp at hk
    | cons z A =>
      simp only [List.map_cons, List.length_cons] at ga gb ga2 gb2 hk hi
      have hk4 : (k : Int) < (A.length : Int) + 1 := by omega
      have hi4 : (i : Int) < (A.length : Int) + 1 := by omega
      simp only [Ar.d] at ga gb ga2 gb2 eh
      by_cases hik : i = k
      · subst hik
        simp [c_ref1_MayCode_L2, k_ref1_MayCode_L2b, m1St, arV, arH, arN, Ar.d, hk, hk4, w]
      · have hik2 : ¬ (i : Int) = (k : Int) := by omega
        obtain ⟨h1, h2⟩ := hab hik
        rw [h2] at eh
        rcases h1 with h1 | h1
        · have c1 : a.fr ≤ b.fr := by omega
          have c2 : ¬ b.to ≤ a.to := by omega
          have c3 : ¬ b.fr ≤ a.fr := by omega
          simp [c_ref1_MayCode_L2, k_ref1_MayCode_L2b, m1St, arV, arH, arN, Ar.d, hk, hk4, hi, hi4, w, hik, hik2, ga, gb, ga2, gb2, eh, h1, c1, c2, c3]
        · have c0 : ¬ a.to < b.fr := by omega
          have c1 : ¬ a.fr ≤ b.fr := by omega
          have c2 : b.fr ≤ a.fr := by omega
          have c3 : ¬ a.to ≤ b.to := by omega
          simp [c_ref1_MayCode_L2, k_ref1_MayCode_L2b, m1St, arV, arH, arN, Ar.d, hk, hk4, hi, hi4, w, hik, hik2, ga, gb, ga2, gb2, eh, h1, c0, c1, c2, c3]
set_option maxRecDepth 10000 in
set_option maxHeartbeats 8000000 in
theorem m1_loop (nl : Bool) (L : List Inst) (hL : L.length ≤ 100) (A : List Ar) (hA : A.length ≤ 100) (hf : ∀ a ∈ A, a.fr ≤ a.to) (ht : ∀ a ∈ A, a.to < (L.length : Int) - 1) (hap : Apart A) : ∀ (r k : Nat), k + r = A.length →
    run kp (.loop [0, 4, 5] k_ref1_MayCode_L1 (m1St nl L A k [])) = some (.out (.ext 2) (m1St nl L A A.length [(54, .bool false)]))
  | 0, k, h => by
    obtain rfl : k = A.length := by omega
    rw [run_round]
    cases A <;> simp [c_ref1_MayCode_L1, k_ref1_MayCode_L1b, m1St, arV, arH, arN]
  | r + 1, k, h => by
    rw [← m1_loop nl L hL A hA hf ht hap r (k + 1) (by omega), run_round]
    have hk : k < A.length := by omega
    obtain ⟨b, hb⟩ : ∃ b, A[k]? = some b := ⟨_, List.getElem?_eq_getElem hk⟩
    have w : IntKind.i64.wrap ((k : Int) + 1) = ((k + 1 : Nat) : Int) := by rw [wrap_i64 (by omega) (by omega)]; omega
    have w2 : IntKind.i64.wrap ((L.length : Int) - 1) = (L.length : Int) - 1 := wrap_i64 (by omega) (by omega)
    have hbt := ht b (List.mem_of_getElem? hb)
    have hbt2 : ¬ (L.length : Int) - 1 ≤ b.to := by omega
    have lp := m2_loop nl L A hA hf hap k b hb A.length 0 (by omega)
    have gb := get_map (f := Ar.d) hb
    have gb2 := get_of gb
    generalize k + 1 = k' at *
    cases A with
    | nil => simp at hk
    | cons z A =>
      simp only [List.map_cons, List.length_cons] at gb gb2 hk
      have hk4 : (k : Int) < (A.length : Int) + 1 := by omega
      simp only [Ar.d] at gb gb2
      simp only [m1St, arV, arH, arN, Ar.d, List.append_nil, List.nil_append, List.cons_append, Int.cast_ofNat_Int] at lp
      simp [c_ref1_MayCode_L1, k_ref1_MayCode_L1b, m1St, arV, arH, arN, Ar.d, hk, hk4, w, w2, gb, gb2, hbt2, lp]
/-! Each instruction -/
def cntA : List Ar → Int → Nat
  | [], _ => 0
  | a :: A, i => (if a.has i then 1 else 0) + cntA A i
def cntB : List Ar → Int → Nat
  | [], _ => 0
  | a :: A, i => (if a.has i && a.body then 1 else 0) + cntB A i
theorem cntB_le : ∀ (A : List Ar) (i : Int), cntB A i ≤ cntA A i
  | [], _ => Nat.le_refl _
  | a :: A, i => by
    have := cntB_le A i
    simp only [cntB, cntA]
    cases a.has i <;> cases a.body <;> simp <;> omega
theorem cntA_le : ∀ (A : List Ar) (i : Int), cntA A i ≤ A.length
  | [], _ => Nat.le_refl _
  | a :: A, i => by
    have := cntA_le A i
    simp only [cntA, List.length_cons]
    split <;> omega
def m3St (nl : Bool) (L : List Inst) (A : List Ar) (P : List Int) (i : Nat) (ex : List (Nat × V)) : St :=
  { env := [(0, .asl nl (L.map Inst.d)), (4, arV 0 A), (9, .sl false (arN A) 0 P.length), (11, .int .i64 (i : Int))] ++ ex, hp := arH 0 A ++ [(arN A, .row true (P.map (.int .i64)))], tl := fun _ => none, base := 0, next := arN A + 1 }
set_option maxRecDepth 10000 in
set_option maxHeartbeats 8000000 in
theorem m4_loop (nl : Bool) (L : List Inst) (A : List Ar) (hA : A.length ≤ 100) (P : List Int) (i : Nat) : ∀ (r k b c : Nat), k + r = A.length → b ≤ k → c ≤ k →
    run kp (.loop [0, 4, 9, 11, 12, 13, 14] k_ref1_MayCode_L4 (m3St nl L A P i [(12, .int .i64 (b : Int)), (13, .int .i64 (c : Int)), (14, .int .i64 (k : Int))])) = some (.out (.ext 8) (m3St nl L A P i [(12, .int .i64 ((b + cntB (A.drop k) i : Nat) : Int)), (13, .int .i64 ((c + cntA (A.drop k) i : Nat) : Int)), (14, .int .i64 (A.length : Int)), (196, .bool false)]))
  | 0, k, b, c, h, _, _ => by
    obtain rfl : k = A.length := by omega
    rw [run_round]
    simp only [List.drop_length, cntA, cntB, Nat.add_zero]
    cases A <;> simp [c_ref1_MayCode_L4, k_ref1_MayCode_L4b, m3St, arV, arH, arN]
  | r + 1, k, b, c, h, hb, hc => by
    have hk : k < A.length := by omega
    obtain ⟨a, ha⟩ : ∃ b, A[k]? = some b := ⟨_, List.getElem?_eq_getElem hk⟩
    have ed : A.drop k = a :: A.drop (k + 1) := by
      rw [List.drop_eq_getElem_cons hk, get_of ha hk]
    have w : IntKind.i64.wrap ((k : Int) + 1) = ((k + 1 : Nat) : Int) := by rw [wrap_i64 (by omega) (by omega)]; omega
    have wb : IntKind.i64.wrap ((b : Int) + 1) = ((b + 1 : Nat) : Int) := by rw [wrap_i64 (by omega) (by omega)]; omega
    have wc : IntKind.i64.wrap ((c : Int) + 1) = ((c + 1 : Nat) : Int) := by rw [wrap_i64 (by omega) (by omega)]; omega
    have eh := area_has a (i : Int)
    have ga := get_map (f := Ar.d) ha
    have ga2 := get_of ga
    rw [run_round]
    by_cases h1 : a.has i = true
    · by_cases h2 : a.body = true
      · have e1 : b + cntB (A.drop k) i = (b + 1) + cntB (A.drop (k + 1)) i := by rw [ed]; simp [cntB, h1, h2]; omega
        have e2 : c + cntA (A.drop k) i = (c + 1) + cntA (A.drop (k + 1)) i := by rw [ed]; simp [cntA, h1]; omega
        rw [e1, e2, ← m4_loop nl L A hA P i r (k + 1) (b + 1) (c + 1) (by omega) (by omega) (by omega)]
        generalize k + 1 = k' at *
        generalize b + 1 = b' at *
        generalize c + 1 = c' at *
        cases A with
        | nil => simp at hk
        | cons z A =>
          simp only [List.map_cons, List.length_cons] at ga ga2 hk
          have hk4 : (k : Int) < (A.length : Int) + 1 := by omega
          simp only [Ar.d, h2] at ga ga2 eh
          simp [c_ref1_MayCode_L4, k_ref1_MayCode_L4b, m3St, arV, arH, arN, Ar.d, hk, hk4, w, wb, wc, ga, ga2, eh, h1, h2]
      · have h2' : a.body = false := by simpa using h2
        have e1 : b + cntB (A.drop k) i = b + cntB (A.drop (k + 1)) i := by rw [ed]; simp [cntB, h1, h2]
        have e2 : c + cntA (A.drop k) i = (c + 1) + cntA (A.drop (k + 1)) i := by rw [ed]; simp [cntA, h1]; omega
        rw [e1, e2, ← m4_loop nl L A hA P i r (k + 1) b (c + 1) (by omega) (by omega) (by omega)]
        generalize k + 1 = k' at *
        generalize c + 1 = c' at *
        cases A with
        | nil => simp at hk
        | cons z A =>
          simp only [List.map_cons, List.length_cons] at ga ga2 hk
          have hk4 : (k : Int) < (A.length : Int) + 1 := by omega
          simp only [Ar.d, h2'] at ga ga2 eh
          simp [c_ref1_MayCode_L4, k_ref1_MayCode_L4b, m3St, arV, arH, arN, Ar.d, hk, hk4, w, wc, ga, ga2, eh, h1, h2']
    · have h1' : a.has i = false := by simpa using h1
      have e1 : b + cntB (A.drop k) i = b + cntB (A.drop (k + 1)) i := by rw [ed]; simp [cntB, h1']
      have e2 : c + cntA (A.drop k) i = c + cntA (A.drop (k + 1)) i := by rw [ed]; simp [cntA, h1']
      rw [e1, e2, ← m4_loop nl L A hA P i r (k + 1) b c (by omega) (by omega) (by omega)]
      generalize k + 1 = k' at *
      cases A with
      | nil => simp at hk
      | cons z A =>
        simp only [List.map_cons, List.length_cons] at ga ga2 hk
        have hk4 : (k : Int) < (A.length : Int) + 1 := by omega
        simp only [Ar.d] at ga ga2 eh
        simp [c_ref1_MayCode_L4, k_ref1_MayCode_L4b, m3St, arV, arH, arN, Ar.d, hk, hk4, w, ga, ga2, eh, h1']
set_option maxRecDepth 10000 in
set_option maxHeartbeats 8000000 in
theorem m3_loop (nl : Bool) (L : List Inst) (hL : L.length ≤ 100) (A : List Ar) (hA : A.length ≤ 100) (P : List Int) (hP : P.length = L.length) (hB : ∀ i : Nat, cntB A i ≤ 2)
    (hM : ∀ (i : Nat) (x : Inst), L[i]? = some x → x.op = 11 → cntA A i = 0 ∧ ∀ (k : Nat) (x : Inst) (p : Int), L[k]? = some x → P[k]? = some p → x.op = 9 → k < i → ¬ (i : Int) < p) : ∀ (r k : Nat), k + r = L.length →
    run kp (.loop [0, 4, 9, 11] k_ref1_MayCode_L3 (m3St nl L A P k [])) = some (.out (.ext 6) (m3St nl L A P L.length [(190, .bool false)]))
  | 0, k, h => by
    obtain rfl : k = L.length := by omega
    rw [run_round]
    cases A <;> simp [c_ref1_MayCode_L3, k_ref1_MayCode_L3b, m3St, arV, arH, arN]
  | r + 1, k, h => by
    rw [← m3_loop nl L hL A hA P hP hB hM r (k + 1) (by omega), run_round]
    have hk : k < L.length := by omega
    have hk2 : (k : Int) < (L.length : Int) := by omega
    obtain ⟨x, hx⟩ : ∃ x, L[k]? = some x := ⟨_, List.getElem?_eq_getElem hk⟩
    have hx2 := get_of hx
    have w : IntKind.i64.wrap ((k : Int) + 1) = ((k + 1 : Nat) : Int) := by rw [wrap_i64 (by omega) (by omega)]; omega
    have lp := m4_loop nl L A hA P k A.length 0 0 0 (by omega) (by omega) (by omega)
    have hb := hB k
    have hb2 : ¬ (2 : Int) < (cntB A k : Int) := by omega
    have hm := hM k x hx
    have tkP : List.take P.length (P.map (D.int .i64)) = P.map (D.int .i64) := List.take_of_length_le (by simp)
    simp only [List.drop_zero, Nat.zero_add] at lp
    generalize cntB A k = B at *
    generalize hc : cntA A k = C at *
    by_cases h11 : x.op = 11
    · obtain ⟨hc0, hh⟩ := hm h11
      have he := ref1_held nl L hL P hP k hh
      subst hc0
      generalize k + 1 = k' at *
      cases A with
      | nil =>
        simp only [m3St, arV, arH, arN, List.append_nil, List.nil_append, List.cons_append, Int.cast_ofNat_Int] at lp
        simp [c_ref1_MayCode_L3, k_ref1_MayCode_L3b, m3St, arV, arH, arN, Inst.d, hk, hk2, hx, hx2, w, lp, hb2, h11, he, tkP]
      | cons z A =>
        simp only [m3St, arV, arH, arN, List.append_nil, List.nil_append, List.cons_append, Int.cast_ofNat_Int, Nat.reduceAdd] at lp
        simp [c_ref1_MayCode_L3, k_ref1_MayCode_L3b, m3St, arV, arH, arN, Inst.d, hk, hk2, hx, hx2, w, lp, hb2, h11, he, tkP]
    · generalize k + 1 = k' at *
      cases A with
      | nil =>
        simp only [m3St, arV, arH, arN, List.append_nil, List.nil_append, List.cons_append, Int.cast_ofNat_Int] at lp
        simp [c_ref1_MayCode_L3, k_ref1_MayCode_L3b, m3St, arV, arH, arN, Inst.d, hk, hk2, hx, hx2, w, lp, hb2, h11]
      | cons z A =>
        simp only [m3St, arV, arH, arN, List.append_nil, List.nil_append, List.cons_append, Int.cast_ofNat_Int, Nat.reduceAdd] at lp
        simp [c_ref1_MayCode_L3, k_ref1_MayCode_L3b, m3St, arV, arH, arN, Inst.d, hk, hk2, hx, hx2, w, lp, hb2, h11]
/-- Which programs may be, as far as is needed. -/
structure CodeFit (L : List Inst) : Prop where
  pos : 1 ≤ L.length
  len : L.length ≤ 24
  may : ∀ x ∈ L, mayF x = true
  ends : ∀ (i : Nat) (x : Inst), L[i]? = some x → (x.op = 0 ↔ i + 1 = L.length)
  trip : Trip L
  same : ∀ (k : Nat) (x : Inst), L[k]? = some x → x.op = 9 → ∀ a ∈ areasF L 0, a.has (k : Int) = a.has ((k + 2 : Nat) : Int)
  fit : ∀ a ∈ areasF L 0, a.fr ≤ a.to
  inn : ∀ a ∈ areasF L 0, a.to < (L.length : Int) - 1
  apart : Apart (areasF L 0)
  bodies : ∀ i : Nat, cntB (areasF L 0) i ≤ 2
  marks : ∀ (i : Nat) (x : Inst), L[i]? = some x → x.op = 11 → cntA (areasF L 0) i = 0 ∧ ∀ (k : Nat) (x : Inst) (p : Int), L[k]? = some x → (outP L 0)[k]? = some p → x.op = 9 → k < i → ¬ (i : Int) < p
set_option maxRecDepth 10000 in
set_option maxHeartbeats 8000000 in
theorem ref1_MayCode (nl : Bool) (L : List Inst) (h : CodeFit L) : run kp (.data f_ref1_MayCode [.sl nl (L.map Inst.d)]) = some (.ds [.bool true]) := by
  have l1 := h.pos
  have l2 := h.len
  have ar := ref1_areas nl L (by omega) h.may
  have pr := ref1_Pairs nl L (by omega) h.may h.trip h.same
  have la := areasF_len L 0
  have q0 := m0_loop nl L (by omega) h.may h.ends L.length 0 (by omega)
  have q1 := m1_loop nl L (by omega) (areasF L 0) (by omega) h.fit h.inn h.apart (areasF L 0).length 0 (by omega)
  have q3 := m3_loop nl L (by omega) (areasF L 0) (by omega) (outP L 0) (outP_len L 0) h.bodies h.marks L.length 0 (by omega)
  have lo := outP_len L 0
  have p1 : ¬ (L.length : Int) < 1 := by omega
  have p2 : ¬ (24 : Int) < (L.length : Int) := by omega
  generalize areasF L 0 = A at *
  generalize outP L 0 = P at *
  rw [run_data, run_call, kp_ref1_MayCode]
  cases A with
  | nil =>
    simp only [arD] at ar
    simp only [m0St, m1St, m3St, arV, arH, arN, List.append_nil, List.nil_append, List.cons_append, Int.cast_ofNat_Int, List.length_nil] at q0 q1 q3
    simp [k_ref1_MayCode, p1, p2, ar, pr, q0, q1, q3]
  | cons a A =>
    simp only [arD] at ar
    simp only [m0St, m1St, m3St, arV, arH, arN, List.append_nil, List.nil_append, List.cons_append, Int.cast_ofNat_Int, List.length_cons] at q0 q1 q3
    simp [k_ref1_MayCode, p1, p2, ar, pr, q0, q1, q3]
end Go.Cd
