/- What the document reckons of programs: how long they are. No conditions. -/
import Derived.Test.YtgjeondicdipaaaR9QCsC
set_option linter.unusedVariables false
set_option linter.unusedSimpArgs false
namespace Go.Cd
open Go Go.Fw
def nOf (L : List Inst) (a : Ar) : Int := ((L[a.of.toNat]?).map (·.n)).getD 0
def tmF (L : List Inst) : List Ar → Int → Int → Int
  | [], _, v => v
  | a :: A, i, v => tmF L A i (if a.body && a.has i then IntKind.i64.wrap (v * nOf L a) else v)
def tmsF (L : List Inst) (A : List Ar) : Nat → Nat → List Int
  | 0, _ => []
  | r + 1, i => tmF L A i 1 :: tmsF L A r (i + 1)
theorem tmsF_len (L : List Inst) (A : List Ar) : ∀ (r i : Nat), (tmsF L A r i).length = r
  | 0, _ => rfl
  | r + 1, i => by simp [tmsF, tmsF_len L A r]
def tSt (nl : Bool) (L : List Inst) (out : List Int) (A : List Ar) (i : Nat) (ex : List (Nat × V)) : St :=
  { env := [(0, .asl nl (L.map Inst.d)), (3, .sl false 0 0 out.length), (4, arV 1 A), (5, .int .i64 (i : Int))] ++ ex, hp := (0, .row true (out.map (.int .i64))) :: arH 1 A, tl := fun _ => none, base := 0, next := 1 + arN A }
set_option maxRecDepth 10000 in
set_option maxHeartbeats 8000000 in
theorem t1_loop (nl : Bool) (L : List Inst) (A : List Ar) (hA : A.length ≤ 100) (hof : ∀ a ∈ A, 0 ≤ a.of ∧ ∃ y, L[a.of.toNat]? = some y) (i : Nat) : ∀ (r k : Nat) (out : List Int) (v : Int), k + r = A.length → out[i]? = some v →
    run kp (.loop [0, 3, 4, 5, 6] k_ref1_times_L1 (tSt nl L out A i [(6, .int .i64 (k : Int))])) = some (.out (.ext 2) (tSt nl L (out.set i (tmF L (A.drop k) i v)) A i [(6, .int .i64 (A.length : Int)), (24, .bool false)]))
  | 0, k, out, v, h, hv => by
    obtain rfl : k = A.length := by omega
    have hi := getX hv
    have e : out.set i (tmF L (A.drop A.length) i v) = out := by
      simp only [List.drop_length, tmF]
      rw [← get_of hv hi, List.set_getElem_self]
    rw [e, run_round]
    cases A <;> simp [c_ref1_times_L1, k_ref1_times_L1b, tSt, arV, arH, arN]
  | r + 1, k, out, v, h, hv => by
    have hk : k < A.length := by omega
    obtain ⟨a, ha⟩ : ∃ b, A[k]? = some b := ⟨_, List.getElem?_eq_getElem hk⟩
    have ed : A.drop k = a :: A.drop (k + 1) := by
      rw [List.drop_eq_getElem_cons hk, get_of ha hk]
    have w : IntKind.i64.wrap ((k : Int) + 1) = ((k + 1 : Nat) : Int) := by rw [wrap_i64 (by omega) (by omega)]; omega
    have eh := area_has a (i : Int)
    have ga := get_map (f := Ar.d) ha
    have ga2 := get_of ga
    have hi := getX hv
    have hi2 : (i : Int) < (out.length : Int) := by omega
    have gv := get_map (f := D.int .i64) hv
    have gv2 := get_of hv
    obtain ⟨of0, y, hy⟩ := hof a (List.mem_of_getElem? ha)
    have hy2 := get_of hy
    have hyl := getX hy
    rw [run_round]
    by_cases h2 : a.body = true
    · by_cases h1 : a.has i = true
      · have en : nOf L a = y.n := by simp [nOf, hy]
        have e : out.set i (tmF L (A.drop k) i v) = (out.set i (IntKind.i64.wrap (v * y.n))).set i (tmF L (A.drop (k + 1)) i (IntKind.i64.wrap (v * y.n))) := by
          rw [List.set_set, ed]; simp [tmF, h1, h2, en]
        have q := t1_loop nl L A hA hof i r (k + 1) (out.set i (IntKind.i64.wrap (v * y.n))) (IntKind.i64.wrap (v * y.n)) (by omega) (by simp [hi])
        rw [e, ← q]
        generalize k + 1 = k' at *
        cases A with
        | nil => simp at hk
        | cons z A =>
          simp only [List.map_cons, List.length_cons] at ga ga2 hk
          have hk4 : (k : Int) < (A.length : Int) + 1 := by omega
          simp only [Ar.d, h2] at ga ga2 eh
          simp [c_ref1_times_L1, k_ref1_times_L1b, tSt, arV, arH, arN, Ar.d, Inst.d, hk, hk4, w, ga, ga2, eh, h1, h2, hi, hi2, hv, gv, gv2, of0, hy, hy2, hyl, List.map_set]
      · have h1' : a.has i = false := by simpa using h1
        have e : out.set i (tmF L (A.drop k) i v) = out.set i (tmF L (A.drop (k + 1)) i v) := by rw [ed]; simp [tmF, h1']
        have q := t1_loop nl L A hA hof i r (k + 1) out v (by omega) hv
        rw [e, ← q]
        generalize k + 1 = k' at *
        cases A with
        | nil => simp at hk
        | cons z A =>
          simp only [List.map_cons, List.length_cons] at ga ga2 hk
          have hk4 : (k : Int) < (A.length : Int) + 1 := by omega
          simp only [Ar.d, h2] at ga ga2 eh
          simp [c_ref1_times_L1, k_ref1_times_L1b, tSt, arV, arH, arN, Ar.d, Inst.d, hk, hk4, w, ga, ga2, eh, h1', h2]
    · have h2' : a.body = false := by simpa using h2
      have e : out.set i (tmF L (A.drop k) i v) = out.set i (tmF L (A.drop (k + 1)) i v) := by rw [ed]; simp [tmF, h2']
      have q := t1_loop nl L A hA hof i r (k + 1) out v (by omega) hv
      rw [e, ← q]
      generalize k + 1 = k' at *
      cases A with
      | nil => simp at hk
      | cons z A =>
        simp only [List.map_cons, List.length_cons] at ga ga2 hk
        have hk4 : (k : Int) < (A.length : Int) + 1 := by omega
        simp only [Ar.d, h2'] at ga ga2 eh
        simp [c_ref1_times_L1, k_ref1_times_L1b, tSt, arV, arH, arN, Ar.d, Inst.d, hk, hk4, w, ga, ga2, eh, h2']
set_option maxRecDepth 10000 in
set_option maxHeartbeats 8000000 in
theorem t0_loop (nl : Bool) (L : List Inst) (hL : L.length ≤ 100) (A : List Ar) (hA : A.length ≤ 100) (hof : ∀ a ∈ A, 0 ≤ a.of ∧ ∃ y, L[a.of.toNat]? = some y) : ∀ (r i : Nat) (P : List Int), i + r = L.length → P.length = i →
    run kp (.loop [0, 3, 4, 5] k_ref1_times_L0 (tSt nl L (P ++ List.replicate r 0) A i [])) = some (.out (.ext 0) (tSt nl L (P ++ tmsF L A r i) A L.length [(15, .bool false)]))
  | 0, i, P, h, hP => by
    obtain rfl : i = L.length := by omega
    simp only [List.replicate_zero, tmsF, List.append_nil]
    rw [run_round]
    cases A <;> simp [c_ref1_times_L0, k_ref1_times_L0b, tSt, arV, arH, arN]
  | r + 1, i, P, h, hP => by
    have e1 : P ++ tmsF L A (r + 1) i = (P ++ [tmF L A i 1]) ++ tmsF L A r (i + 1) := by simp [tmsF]
    rw [e1, ← t0_loop nl L hL A hA hof r (i + 1) (P ++ [tmF L A i 1]) (by omega) (by simp [hP]), run_round]
    have hi : i < L.length := by omega
    have hi2 : (i : Int) < (L.length : Int) := by omega
    have w : IntKind.i64.wrap ((i : Int) + 1) = ((i + 1 : Nat) : Int) := by rw [wrap_i64 (by omega) (by omega)]; omega
    have e2 : (P ++ List.replicate (r + 1) (0 : Int)).set i 1 = P ++ 1 :: List.replicate r 0 := by
      rw [← hP, List.set_append_right _ _ (Nat.le_refl _)]; simp [List.replicate_succ]
    have q := t1_loop nl L A hA hof i A.length 0 (P ++ 1 :: List.replicate r 0) 1 (by omega) (by rw [← hP]; simp)
    have e3 : (P ++ 1 :: List.replicate r (0 : Int)).set i (tmF L (A.drop 0) i 1) = (P ++ [tmF L A i 1]) ++ List.replicate r 0 := by
      rw [← hP, List.set_append_right _ _ (Nat.le_refl _)]; simp
    rw [e3] at q
    have ln : (P ++ 1 :: List.replicate r (0 : Int)).length = (P ++ List.replicate (r + 1) (0 : Int)).length := by simp
    have hi3 : i < (P ++ List.replicate (r + 1) (0 : Int)).length := by simp; omega
    have hi4 : (i : Int) < ((P ++ List.replicate (r + 1) (0 : Int)).length : Int) := by omega
    generalize tmF L A i 1 = v at *
    have e2' := congrArg (List.map (D.int .i64)) e2
    rw [List.map_set] at e2'
    have gx : (P ++ List.replicate (r + 1) (0 : Int))[i]? = some 0 := by
      rw [← hP, List.getElem?_append_right (Nat.le_refl _)]; simp [List.replicate_succ]
    have gx2 := get_of gx
    have eF : ((P ++ [v]) ++ List.replicate r (0 : Int)).length = (P ++ List.replicate (r + 1) (0 : Int)).length := by simp
    generalize (P ++ [v]) ++ List.replicate r (0 : Int) = Z at *
    generalize P ++ List.replicate (r + 1) (0 : Int) = X at *
    generalize P ++ 1 :: List.replicate r (0 : Int) = Y at *
    generalize i + 1 = i' at *
    cases A with
    | nil =>
      simp only [tSt, arV, arH, arN, List.append_nil, List.nil_append, List.cons_append, Int.cast_ofNat_Int, List.length_nil, Nat.add_zero, ln, eF] at q
      simp [c_ref1_times_L0, k_ref1_times_L0b, tSt, arV, arH, arN, hi, hi2, w, hi3, hi4, gx, gx2, e2', eF, q]
    | cons z A =>
      simp only [tSt, arV, arH, arN, List.append_nil, List.nil_append, List.cons_append, Int.cast_ofNat_Int, Nat.reduceAdd, ln, eF] at q
      simp [c_ref1_times_L0, k_ref1_times_L0b, tSt, arV, arH, arN, hi, hi2, w, hi3, hi4, gx, gx2, e2', eF, q]
theorem ref1_times (nl : Bool) (L : List Inst) (hL : L.length ≤ 100) (hm : ∀ x ∈ L, mayF x = true) (hof : ∀ a ∈ areasF L 0, 0 ≤ a.of ∧ ∃ y, L[a.of.toNat]? = some y) :
    run kp (.data f_ref1_times [.sl nl (L.map Inst.d)]) = some (.ds [.sl false ((tmsF L (areasF L 0) L.length 0).map (.int .i64))]) := by
  have ar := ref1_areas nl L hL hm
  have la := areasF_len L 0
  have lp := t0_loop nl L hL (areasF L 0) (by omega) hof L.length 0 [] (by omega) rfl
  have lo := tmsF_len L (areasF L 0) L.length 0
  have hL2 : (L.length : Int) ≤ 1073741824 := by omega
  simp only [List.nil_append] at lp
  have rz : (List.replicate L.length (0 : Int)).map (D.int .i64) = List.replicate L.length (D.int .i64 0) := by simp
  generalize areasF L 0 = A at *
  generalize tmsF L A L.length 0 = T at *
  have tk : List.take L.length (T.map (D.int .i64)) = T.map (D.int .i64) := List.take_of_length_le (by simp [lo])
  rw [run_data, run_call, kp_ref1_times]
  cases A with
  | nil =>
    simp only [arD] at ar
    simp only [tSt, arV, arH, arN, List.append_nil, List.nil_append, List.cons_append, Int.cast_ofNat_Int, Nat.add_zero, List.length_replicate, rz] at lp
    simp [k_ref1_times, ar, lp, hL2, lo, tk]
  | cons a A =>
    simp only [arD] at ar
    simp only [tSt, arV, arH, arN, List.append_nil, List.nil_append, List.cons_append, Int.cast_ofNat_Int, Nat.reduceAdd, List.length_replicate, rz] at lp
    simp [k_ref1_times, ar, lp, hL2, lo, tk]
/-! All of it -/
def zC : D := .agg [.int .i64 0, .int .i64 0, .sl true []]
def spN : List D → Nat
  | [] => 0
  | _ :: _ => 1
def spH : List D → Hp
  | [] => []
  | a :: l => [(2, .row true (a :: l))]
def spB (all mx : Int) : List D → V
  | [] => .d (.agg [.int .i64 all, .int .i64 mx, .sl true []])
  | a :: l => .agg [.int .i64 all, .int .i64 mx, .sl false 2 0 (l.length + 1)]
def spD : List D → D
  | [] => .sl true []
  | a :: l => .sl false (a :: l)
def cSt (nl : Bool) (L : List Inst) (T P : List Int) (all mx pc : Int) (sp : List D) (i : Nat) (ex : List (Nat × V)) : St :=
  { env := [(0, .asl nl (L.map Inst.d)), (2, .ptr 0 []), (4, .ptr 1 []), (5, .sl false (2 + spN sp) 0 T.length), (6, .sl false (3 + spN sp) 0 P.length), (8, .int .i64 pc), (9, .int .i64 (i : Int))] ++ ex,
    hp := [(0, .box (.d zC)), (1, .box (spB all mx sp))] ++ spH sp ++ [(2 + spN sp, .row true (T.map (.int .i64))), (3 + spN sp, .row true (P.map (.int .i64)))], tl := fun _ => none, base := 0, next := 4 + spN sp }
set_option maxRecDepth 10000 in
set_option maxHeartbeats 8000000 in
theorem c1_round (nl : Bool) (L : List Inst) (T P : List Int) (all mx pc : Int) (sp : List D) (i : Nat) (n : Int) (k : Nat) (hk : k ≤ 100) (t p : Int) (ht : T[k]? = some t) (hp : P[i]? = some p) (hkp : (k : Int) ≤ p) :
    run kp (.loop [0, 2, 4, 5, 6, 8, 9, 10, 11] k_ref1_Cost_L1 (cSt nl L T P all mx pc sp i [(10, .int .i64 n), (11, .int .i64 (k : Int))])) = run kp (.loop [0, 2, 4, 5, 6, 8, 9, 10, 11] k_ref1_Cost_L1 (cSt nl L T P all mx pc sp i [(10, .int .i64 (IntKind.i64.wrap (n + t))), (11, .int .i64 ((k + 1 : Nat) : Int))])) := by
  have w : IntKind.i64.wrap ((k : Int) + 1) = ((k + 1 : Nat) : Int) := by rw [wrap_i64 (by omega) (by omega)]; omega
  have h1 := getX ht
  have h2 := getX hp
  have h3 : (k : Int) < (T.length : Int) := by omega
  have h4 : (i : Int) < (P.length : Int) := by omega
  have ht2 := get_of ht
  have hp2 := get_of hp
  rw [run_round]
  generalize k + 1 = k' at *
  cases sp <;> simp [c_ref1_Cost_L1, k_ref1_Cost_L1b, cSt, spN, spH, spB, h1, h2, h3, h4, ht, hp, ht2, hp2, hkp, w]
set_option maxRecDepth 10000 in
set_option maxHeartbeats 8000000 in
theorem c1_stop (nl : Bool) (L : List Inst) (T P : List Int) (all mx pc : Int) (sp : List D) (i : Nat) (n : Int) (k : Nat) (p : Int) (hp : P[i]? = some p) (hkp : ¬ (k : Int) ≤ p) :
    run kp (.loop [0, 2, 4, 5, 6, 8, 9, 10, 11] k_ref1_Cost_L1 (cSt nl L T P all mx pc sp i [(10, .int .i64 n), (11, .int .i64 (k : Int))])) = some (.out (.ext 2) (cSt nl L T P all mx pc sp i [(10, .int .i64 n), (11, .int .i64 (k : Int)), (76, .bool false)])) := by
  have h2 := getX hp
  have h4 : (i : Int) < (P.length : Int) := by omega
  have hp2 := get_of hp
  rw [run_round]
  cases sp <;> simp [c_ref1_Cost_L1, k_ref1_Cost_L1b, cSt, spN, spH, spB, h2, h4, hp, hp2, hkp]
/-- All, the longest piece, the present one. -/
def cstF : List Inst → List Int → Int × Int × Int → Int × Int × Int
  | x :: l, t :: T, (all, mx, pc) => cstF l T (if x.op = 11 ∨ x.op = 0 then (all + t, if mx < pc + t then pc + t else mx, 0) else (all + t, mx, pc + t))
  | _, _, s => s
set_option maxRecDepth 10000 in
set_option maxHeartbeats 16000000 in
theorem c0_round (nl : Bool) (L : List Inst) (hL : L.length ≤ 24) (T P : List Int) (hT : T.length = L.length) (hP : P.length = L.length) (all mx pc : Int) (sp : List D) (hsp : sp.length ≤ 100) (i : Nat) (x : Inst) (t : Int) (hx : L[i]? = some x) (ht : T[i]? = some t)
    (b1 : 0 ≤ all ∧ all ≤ 1000) (b2 : 0 ≤ pc ∧ pc ≤ 1000) (b3 : 1 ≤ t ∧ t ≤ 100) (hl : x.op = 9 → P[i]? = some ((i : Int) + 2) ∧ i + 2 < L.length) :
    ∃ sp' : List D, sp'.length ≤ sp.length + 1 ∧ run kp (.loop [0, 2, 4, 5, 6, 8, 9] k_ref1_Cost_L0 (cSt nl L T P all mx pc sp i [])) =
      run kp (.loop [0, 2, 4, 5, 6, 8, 9] k_ref1_Cost_L0 (if x.op = 11 ∨ x.op = 0 then cSt nl L T P (all + t) (if mx < pc + t then pc + t else mx) 0 sp' (i + 1) [] else cSt nl L T P (all + t) mx (pc + t) sp' (i + 1) [])) := by
  have hi := getX hx
  have hi2 : (i : Int) < (L.length : Int) := by omega
  have hx2 := get_of hx
  have ht2 := get_of ht
  have ht3 := getX ht
  have ht4 : (i : Int) < (T.length : Int) := by omega
  have w : IntKind.i64.wrap ((i : Int) + 1) = ((i + 1 : Nat) : Int) := by rw [wrap_i64 (by omega) (by omega)]; omega
  have wa : IntKind.i64.wrap (all + t) = all + t := wrap_i64 (by omega) (by omega)
  have wp : IntKind.i64.wrap (pc + t) = pc + t := wrap_i64 (by omega) (by omega)
  have tn : ¬ t = 0 := by omega
  by_cases h9 : x.op = 9
  · obtain ⟨hp, hp5⟩ := hl h9
    have hp2 := get_of hp
    have hp3 := getX hp
    have hp4 : (i : Int) < (P.length : Int) := by omega
    obtain ⟨u, hu⟩ : ∃ u, T[i + 1]? = some u := ⟨_, List.getElem?_eq_getElem (by omega)⟩
    obtain ⟨v, hv⟩ : ∃ v, T[i + 1 + 1]? = some v := ⟨_, List.getElem?_eq_getElem (by omega)⟩
    have q1 := c1_round nl L T P (all + t) mx (pc + t) sp i 0 (i + 1) (by omega) u _ hu hp (by omega)
    have q2 := c1_round nl L T P (all + t) mx (pc + t) sp i (IntKind.i64.wrap (0 + u)) (i + 1 + 1) (by omega) v _ hv hp (by omega)
    have q3 := c1_stop nl L T P (all + t) mx (pc + t) sp i (IntKind.i64.wrap (IntKind.i64.wrap (0 + u) + v)) (i + 1 + 1 + 1) _ hp (by omega)
    rw [q2, q3] at q1
    generalize IntKind.i64.wrap (IntKind.i64.wrap (0 + u) + v) = n at q1
    have n11 : ¬ (x.op = 11 ∨ x.op = 0) := by omega
    refine ⟨sp ++ [.agg [.int .i64 x.a, .int .i64 (IntKind.i64.wrap (n.tdiv t))]], by simp, ?_⟩
    rw [if_neg n11, run_round]
    generalize i + 1 + 1 + 1 = i3 at *
    generalize i + 1 = i' at *
    cases sp with
    | nil =>
      simp only [cSt, spN, spH, spB, List.append_nil, List.nil_append, List.cons_append, Nat.add_zero, Nat.reduceAdd, Int.cast_ofNat_Int] at q1
      simp [c_ref1_Cost_L0, k_ref1_Cost_L0b, cSt, spN, spH, spB, Inst.d, hi, hi2, hx, hx2, ht, ht2, ht3, ht4, w, wa, wp, h9, q1, tn]
    | cons a sp =>
      have cl : sp.length ≤ 1073741822 := by simp at hsp; omega
      have cl2 : sp.length + 1 ≤ 1073741823 := by omega
      simp only [cSt, spN, spH, spB, List.append_nil, List.nil_append, List.cons_append, Nat.add_zero, Nat.reduceAdd, Int.cast_ofNat_Int] at q1
      simp [c_ref1_Cost_L0, k_ref1_Cost_L0b, cSt, spN, spH, spB, Inst.d, hi, hi2, hx, hx2, ht, ht2, ht3, ht4, w, wa, wp, h9, q1, tn, cl, cl2]
  · refine ⟨sp, by omega, ?_⟩
    rw [run_round]
    by_cases h11 : x.op = 11
    · rw [if_pos (Or.inl h11)]
      generalize i + 1 = i' at *
      cases sp <;> simp [c_ref1_Cost_L0, k_ref1_Cost_L0b, cSt, spN, spH, spB, Inst.d, hi, hi2, hx, hx2, ht, ht2, ht3, ht4, w, wa, wp, h11]
    · by_cases h0 : x.op = 0
      · rw [if_pos (Or.inr h0)]
        generalize i + 1 = i' at *
        cases sp <;> simp [c_ref1_Cost_L0, k_ref1_Cost_L0b, cSt, spN, spH, spB, Inst.d, hi, hi2, hx, hx2, ht, ht2, ht3, ht4, w, wa, wp, h0]
      · rw [if_neg (by omega)]
        generalize i + 1 = i' at *
        cases sp <;> simp [c_ref1_Cost_L0, k_ref1_Cost_L0b, cSt, spN, spH, spB, Inst.d, hi, hi2, hx, hx2, ht, ht2, ht3, ht4, w, wa, wp, h9, h11, h0]
theorem c0_stop (nl : Bool) (L : List Inst) (T P : List Int) (all mx pc : Int) (sp : List D) : run kp (.loop [0, 2, 4, 5, 6, 8, 9] k_ref1_Cost_L0 (cSt nl L T P all mx pc sp L.length [])) = some (.out (.ext 0) (cSt nl L T P all mx pc sp L.length [(27, .bool false)])) := by
  rw [run_round]
  cases sp <;> simp [c_ref1_Cost_L0, k_ref1_Cost_L0b, cSt, spN, spH, spB]
theorem outP_get : ∀ (l : List Inst) (o k : Nat) (x : Inst), l[k]? = some x → (outP l o)[k]? = some (if x.op = 9 then ((o + k : Nat) : Int) + 2 else 0)
  | [], _, _, _, h => by simp at h
  | y :: l, o, 0, x, h => by simp at h; subst h; simp [outP]
  | y :: l, o, k + 1, x, h => by
    have := outP_get l (o + 1) k x (by simpa using h)
    simp only [outP, List.getElem?_cons_succ]
    rw [this, show o + 1 + k = o + (k + 1) by omega]
theorem c0_loop (nl : Bool) (L : List Inst) (hL : L.length ≤ 24) (T : List Int) (hT : T.length = L.length) (bT : ∀ t ∈ T, 1 ≤ t ∧ t ≤ 20) (ht : ∀ (i : Nat) (x : Inst), L[i]? = some x → x.op = 9 → i + 2 < L.length) :
    ∀ (r i : Nat) (all mx pc : Int) (sp : List D), i + r = L.length → 0 ≤ all ∧ all ≤ 20 * i → 0 ≤ pc ∧ pc ≤ 20 * i → sp.length ≤ i →
    ∃ sp' : List D, sp'.length ≤ 24 ∧ ∃ all' mx' pc', (all', mx', pc') = cstF (L.drop i) (T.drop i) (all, mx, pc) ∧ run kp (.loop [0, 2, 4, 5, 6, 8, 9] k_ref1_Cost_L0 (cSt nl L T (outP L 0) all mx pc sp i [])) = some (.out (.ext 0) (cSt nl L T (outP L 0) all' mx' pc' sp' L.length [(27, .bool false)]))
  | 0, i, all, mx, pc, sp, h, _, _, hs => by
    obtain rfl : i = L.length := by omega
    refine ⟨sp, by omega, all, mx, pc, ?_, c0_stop nl L T _ all mx pc sp⟩
    rw [List.drop_length]; rfl
  | r + 1, i, all, mx, pc, sp, h, b1, b2, hs => by
    have hi : i < L.length := by omega
    obtain ⟨x, hx⟩ : ∃ x, L[i]? = some x := ⟨_, List.getElem?_eq_getElem hi⟩
    obtain ⟨t, hti⟩ : ∃ x, T[i]? = some x := ⟨_, List.getElem?_eq_getElem (by omega)⟩
    have bt := bT t (List.mem_of_getElem? hti)
    have hP := outP_len L 0
    have e1 : L.drop i = x :: L.drop (i + 1) := by rw [List.drop_eq_getElem_cons hi, get_of hx hi]
    have e2 : T.drop i = t :: T.drop (i + 1) := by rw [List.drop_eq_getElem_cons (getX hti), get_of hti (getX hti)]
    obtain ⟨sp1, l1, q⟩ := c0_round nl L hL T (outP L 0) hT hP all mx pc sp (by omega) i x t hx hti (by omega) (by omega) (by omega) (fun h9 => ⟨by rw [outP_get L 0 i x hx, if_pos h9]; simp, ht i x hx h9⟩)
    rw [e1, e2]
    simp only [cstF]
    rw [q]
    by_cases hc : x.op = 11 ∨ x.op = 0
    · rw [if_pos hc, if_pos hc]
      exact c0_loop nl L hL T hT bT ht r (i + 1) _ _ _ sp1 (by omega) (by omega) (by omega) (by omega)
    · rw [if_neg hc, if_neg hc]
      exact c0_loop nl L hL T hT bT ht r (i + 1) _ _ _ sp1 (by omega) (by omega) (by omega) (by omega)
structure CostFit (L : List Inst) : Prop extends CodeFit L where
  ofs : ∀ a ∈ areasF L 0, 0 ≤ a.of ∧ ∃ y, L[a.of.toNat]? = some y
  tms : ∀ t ∈ tmsF L (areasF L 0) L.length 0, 1 ≤ t ∧ t ≤ 20
  lock : ∀ (i : Nat) (x : Inst), L[i]? = some x → x.op = 9 → i + 2 < L.length
def allOf (L : List Inst) : Int × Int × Int := cstF L (tmsF L (areasF L 0) L.length 0) (0, 0, 0)
set_option maxRecDepth 10000 in
set_option maxHeartbeats 8000000 in
theorem ref1_Cost (nl : Bool) (L : List Inst) (h : CostFit L) : ∃ sp : List D, sp.length ≤ 24 ∧ run kp (.data f_ref1_Cost [.sl nl (L.map Inst.d)]) = some (.ds [.agg [.int .i64 (allOf L).1, .int .i64 (allOf L).2.1, spD sp], .bool true]) := by
  have l2 := h.len
  have mc := ref1_MayCode nl L h.toCodeFit
  have tm := ref1_times nl L (by omega) h.may h.ofs
  have pr := ref1_Pairs nl L (by omega) h.may h.trip h.same
  have lT := tmsF_len L (areasF L 0) L.length 0
  obtain ⟨sp, ls, all, mx, pc, e, lp⟩ := c0_loop nl L h.len (tmsF L (areasF L 0) L.length 0) lT h.tms h.lock L.length 0 0 0 0 [] (by omega) (by omega) (by omega) (by simp)
  simp only [List.drop_zero] at e
  have ea : allOf L = (all, mx, pc) := e.symm
  rw [ea]
  refine ⟨sp, ls, ?_⟩
  have lP := outP_len L 0
  generalize tmsF L (areasF L 0) L.length 0 = T at *
  generalize outP L 0 = P at *
  rw [run_data, run_call, kp_ref1_Cost]
  cases sp with
  | nil =>
    simp only [cSt, spN, spH, spB, zC, List.append_nil, List.nil_append, List.cons_append, Nat.add_zero, Nat.reduceAdd, Int.cast_ofNat_Int] at lp
    simp [k_ref1_Cost, mc, tm, pr, lp, spD]
  | cons a sp =>
    simp only [cSt, spN, spH, spB, zC, List.append_nil, List.nil_append, List.cons_append, Nat.add_zero, Nat.reduceAdd, Int.cast_ofNat_Int] at lp
    simp [k_ref1_Cost, mc, tm, pr, lp, spD]
end Go.Cd
