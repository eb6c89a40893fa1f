/- What the document reckons of programs: pairs. No conditions. -/
import Derived.Test.YtgjeondicdipaaaR9QCsA
set_option linter.unusedVariables false
set_option linter.unusedSimpArgs false
namespace Go.Cd
open Go Go.Fw
def outP : List Inst → Nat → List Int
  | [], _ => []
  | x :: l, i => (if x.op = 9 then (i : Int) + 2 else 0) :: outP l (i + 1)
/-- Locks, each with its one and its unlock right behind it. -/
inductive Trip : List Inst → Prop
  | nil : Trip []
  | one {x : Inst} {l : List Inst} : x.op ≠ 9 → x.op ≠ 10 → Trip l → Trip (x :: l)
  | lock {s : Int} {x : Inst} {l : List Inst} : x.op ≠ 9 → x.op ≠ 10 → x.op ≠ 11 → Trip l → Trip (⟨9, s, 0, 0⟩ :: x :: ⟨10, s, 0, 0⟩ :: l)
inductive Opn where
  | non
  | gone (k : Nat)
  | full (k : Nat)
def opV : Opn → V
  | .non => .d (.sl true [])
  | .gone _ => .sl false 1 0 0
  | .full _ => .sl false 1 0 1
def opH : Opn → Hp
  | .non => []
  | .gone k => [(1, .row true [.int .i64 (k : Int)])]
  | .full k => [(1, .row true [.int .i64 (k : Int)])]
def opN : Opn → Nat
  | .non => 0
  | _ => 1
def ps (nl : Bool) (L : List Inst) (out : List Int) (o : Opn) (A : List Ar) (i : Nat) (ex : List (Nat × V)) : St :=
  { env := [(0, .asl nl (L.map Inst.d)), (4, .sl false 0 0 out.length), (5, opV o), (6, arV (1 + opN o) A), (7, .int .i64 (i : Int))] ++ ex, hp := (0, .row true (out.map (.int .i64))) :: (opH o ++ arH (1 + opN o) A), tl := fun _ => none, base := 0, next := 1 + opN o + arN A }
def Opn.open : Opn → Prop
  | .full _ => False
  | _ => True
theorem wz : IntKind.i64.wrap 0 = 0 := rfl
theorem pr1_stop (nl : Bool) (L : List Inst) (out : List Int) (o : Opn) (ho : o.open) (A : List Ar) (i : Nat) :
    run kp (.loop [0, 4, 5, 6, 7, 8] k_ref1_Pairs_L1 (ps nl L out o A i [(8, .int .i64 0)])) = some (.out (.ext 3) (ps nl L out o A i [(8, .int .i64 0), (32, .bool false)])) := by
  rw [run_round]
  cases o with
  | full k => exact ho.elim
  | non => cases A <;> simp [c_ref1_Pairs_L1, k_ref1_Pairs_L1b, ps, opV, opH, opN, arV, arH, arN]
  | gone k => cases A <;> simp [c_ref1_Pairs_L1, k_ref1_Pairs_L1b, ps, opV, opH, opN, arV, arH, arN]
set_option maxRecDepth 10000 in
set_option maxHeartbeats 8000000 in
theorem pr_other (nl : Bool) (L : List Inst) (hL : L.length ≤ 100) (out : List Int) (o : Opn) (A : List Ar) (i : Nat) (x : Inst) (hx : L[i]? = some x) (h9 : x.op ≠ 9) (h10 : x.op ≠ 10) :
    run kp (.loop [0, 4, 5, 6, 7] k_ref1_Pairs_L0 (ps nl L out o A i [])) = run kp (.loop [0, 4, 5, 6, 7] k_ref1_Pairs_L0 (ps nl L out o A (i + 1) [])) := by
  have hi := getX hx
  have hi2 : (i : Int) < (L.length : Int) := by omega
  have w : IntKind.i64.wrap ((i : Int) + 1) = ((i + 1 : Nat) : Int) := by rw [wrap_i64 (by omega) (by omega)]; omega
  have hx2 : ∀ hh : i < L.length, L[i] = x := fun hh => by rw [List.getElem?_eq_getElem hh] at hx; injection hx
  rw [run_round]
  generalize i + 1 = j at *
  cases o with
  | non => cases A <;> simp [c_ref1_Pairs_L0, k_ref1_Pairs_L0b, ps, opV, opH, opN, arV, arH, arN, Inst.d, hi, hi2, hx, hx2, h9, h10, w]
  | gone k => cases A <;> simp [c_ref1_Pairs_L0, k_ref1_Pairs_L0b, ps, opV, opH, opN, arV, arH, arN, Inst.d, hi, hi2, hx, hx2, h9, h10, w]
  | full k => cases A <;> simp [c_ref1_Pairs_L0, k_ref1_Pairs_L0b, ps, opV, opH, opN, arV, arH, arN, Inst.d, hi, hi2, hx, hx2, h9, h10, w]
set_option maxRecDepth 10000 in
set_option maxHeartbeats 8000000 in
theorem pr_lock (nl : Bool) (L : List Inst) (hL : L.length ≤ 100) (out : List Int) (o : Opn) (ho : o.open) (A : List Ar) (i : Nat) (x : Inst) (hx : L[i]? = some x) (h9 : x.op = 9) :
    run kp (.loop [0, 4, 5, 6, 7] k_ref1_Pairs_L0 (ps nl L out o A i [])) = run kp (.loop [0, 4, 5, 6, 7] k_ref1_Pairs_L0 (ps nl L out (.full i) A (i + 1) [])) := by
  have hi := getX hx
  have hi2 : (i : Int) < (L.length : Int) := by omega
  have w : IntKind.i64.wrap ((i : Int) + 1) = ((i + 1 : Nat) : Int) := by rw [wrap_i64 (by omega) (by omega)]; omega
  have hx2 : ∀ hh : i < L.length, L[i] = x := fun hh => by rw [List.getElem?_eq_getElem hh] at hx; injection hx
  have lp := pr1_stop nl L out o ho A i
  rw [run_round]
  generalize i + 1 = j at *
  cases o with
  | full k => exact ho.elim
  | non =>
    cases A with
    | nil =>
      simp only [ps, opV, opH, opN, arV, arH, arN, List.append_nil, List.nil_append, List.cons_append, Nat.add_zero] at lp
      simp [c_ref1_Pairs_L0, k_ref1_Pairs_L0b, ps, opV, opH, opN, arV, arH, arN, Inst.d, hi, hi2, hx, hx2, h9, w, lp]
    | cons a A =>
      simp only [ps, opV, opH, opN, arV, arH, arN, List.append_nil, List.nil_append, List.cons_append, Nat.add_zero, Nat.reduceAdd] at lp
      simp [c_ref1_Pairs_L0, k_ref1_Pairs_L0b, ps, opV, opH, opN, arV, arH, arN, Inst.d, hi, hi2, hx, hx2, h9, w, lp]
  | gone k =>
    cases A with
    | nil =>
      simp only [ps, opV, opH, opN, arV, arH, arN, List.append_nil, List.nil_append, List.cons_append, Nat.add_zero, Nat.reduceAdd] at lp
      simp [c_ref1_Pairs_L0, k_ref1_Pairs_L0b, ps, opV, opH, opN, arV, arH, arN, Inst.d, hi, hi2, hx, hx2, h9, w, lp]
    | cons a A =>
      simp only [ps, opV, opH, opN, arV, arH, arN, List.append_nil, List.nil_append, List.cons_append, Nat.add_zero, Nat.reduceAdd] at lp
      simp [c_ref1_Pairs_L0, k_ref1_Pairs_L0b, ps, opV, opH, opN, arV, arH, arN, Inst.d, hi, hi2, hx, hx2, h9, w, lp]
set_option maxRecDepth 10000 in
set_option maxHeartbeats 8000000 in
theorem pr2_loop (nl : Bool) (L : List Inst) (out : List Int) (k : Nat) (A : List Ar) (hA : A.length ≤ 100) (i : Nat) (hs : ∀ a ∈ A, a.has k = a.has i) : ∀ (r m : Nat), m + r = A.length →
    run kp (.loop [0, 4, 5, 6, 7, 9, 10] k_ref1_Pairs_L2 (ps nl L out (.gone k) A i [(9, .int .i64 (k : Int)), (10, .int .i64 (m : Int))])) = some (.out (.ext 5) (ps nl L out (.gone k) A i [(9, .int .i64 (k : Int)), (10, .int .i64 (A.length : Int)), (93, .bool false)]))
  | 0, m, h => by
    obtain rfl : m = A.length := by omega
    rw [run_round]
    cases A <;> simp [c_ref1_Pairs_L2, k_ref1_Pairs_L2b, ps, opV, opH, opN, arV, arH, arN]
  | r + 1, m, h => by
    rw [← pr2_loop nl L out k A hA i hs r (m + 1) (by omega), run_round]
    have hm : m < A.length := by omega
    have hm2 : (m : Int) < (A.length : Int) := by omega
    obtain ⟨y, hy⟩ : ∃ y, A[m]? = some y := ⟨_, List.getElem?_eq_getElem hm⟩
    have hh := hs y (List.mem_of_getElem? hy)
    have e1 := area_has y (k : Int)
    have e2 := area_has y (i : Int)
    have w : IntKind.i64.wrap ((m : Int) + 1) = ((m + 1 : Nat) : Int) := by rw [wrap_i64 (by omega) (by omega)]; omega
    generalize m + 1 = m' at *
    cases A with
    | nil => simp at hm
    | cons a A =>
      have gy : (a.d :: A.map Ar.d)[m]? = some y.d := by
        rw [← List.map_cons, List.getElem?_map, hy]; rfl
      have gy2 : ∀ hh : m < (a.d :: A.map Ar.d).length, (a.d :: A.map Ar.d)[m]'hh = y.d := fun hh => by
        have g := gy
        rw [List.getElem?_eq_getElem hh] at g; injection g
      simp only [List.length_cons] at hm hm2
      have hm3 : m < A.length + 1 := hm
      have hm4 : (m : Int) < (A.length : Int) + 1 := by omega
      simp only [Ar.d] at e1 e2
      simp only [Ar.d] at gy gy2
      simp [c_ref1_Pairs_L2, k_ref1_Pairs_L2b, ps, opV, opH, opN, arV, arH, arN, Ar.d, hm3, hm4, gy, gy2, w, e1, e2, hh]
set_option maxRecDepth 10000 in
set_option maxHeartbeats 8000000 in
theorem pr_unlock (nl : Bool) (L : List Inst) (hL : L.length ≤ 100) (out : List Int) (k : Nat) (hk : k < out.length) (A : List Ar) (hA : A.length ≤ 100) (i : Nat) (hs : ∀ a ∈ A, a.has k = a.has i) (x y : Inst) (hx : L[i]? = some x) (h10 : x.op = 10) (hy : L[k]? = some y) (ha : y.a = x.a) :
    run kp (.loop [0, 4, 5, 6, 7] k_ref1_Pairs_L0 (ps nl L out (.full k) A i [])) = run kp (.loop [0, 4, 5, 6, 7] k_ref1_Pairs_L0 (ps nl L (out.set k (i : Int)) (.gone k) A (i + 1) [])) := by
  have hi := getX hx
  have hi2 : (i : Int) < (L.length : Int) := by omega
  have w : IntKind.i64.wrap ((i : Int) + 1) = ((i + 1 : Nat) : Int) := by rw [wrap_i64 (by omega) (by omega)]; omega
  have hx2 : ∀ hh : i < L.length, L[i] = x := fun hh => by rw [List.getElem?_eq_getElem hh] at hx; injection hx
  have hk1 := getX hy
  have hk2 : (k : Int) < (L.length : Int) := by omega
  have hy2 : ∀ hh : k < L.length, L[k] = y := fun hh => by rw [List.getElem?_eq_getElem hh] at hy; injection hy
  have hk3 : (k : Int) < (out.length : Int) := by omega
  have lp := pr2_loop nl L out k A hA i hs A.length 0 (by omega)
  rw [run_round]
  generalize i + 1 = j at *
  cases A with
  | nil =>
    simp only [ps, opV, opH, opN, arV, arH, arN, List.append_nil, List.nil_append, List.cons_append, Nat.add_zero, Nat.reduceAdd, Int.cast_ofNat_Int, List.length_nil] at lp
    simp [c_ref1_Pairs_L0, k_ref1_Pairs_L0b, ps, opV, opH, opN, arV, arH, arN, Inst.d, hi, hi2, hx, hx2, h10, w, lp, hy, hy2, hk, hk1, hk2, hk3, ha, List.map_set, wz]
  | cons a A =>
    simp only [ps, opV, opH, opN, arV, arH, arN, List.append_nil, List.nil_append, List.cons_append, Nat.add_zero, Nat.reduceAdd, Int.cast_ofNat_Int] at lp
    simp [c_ref1_Pairs_L0, k_ref1_Pairs_L0b, ps, opV, opH, opN, arV, arH, arN, Inst.d, hi, hi2, hx, hx2, h10, w, lp, hy, hy2, hk, hk1, hk2, hk3, ha, List.map_set, wz]
theorem pr_stop (nl : Bool) (L : List Inst) (out : List Int) (o : Opn) (A : List Ar) : run kp (.loop [0, 4, 5, 6, 7] k_ref1_Pairs_L0 (ps nl L out o A L.length [])) = some (.out (.ext 0) (ps nl L out o A L.length [(19, .bool false)])) := by
  rw [run_round]
  cases o <;> cases A <;> simp [c_ref1_Pairs_L0, k_ref1_Pairs_L0b, ps, opV, opH, opN, arV, arH, arN]
theorem outP_len : ∀ (l : List Inst) (i : Nat), (outP l i).length = l.length
  | [], _ => rfl
  | x :: l, i => by simp [outP, outP_len l]
theorem pr_loop (nl : Bool) (L : List Inst) (hL : L.length ≤ 100) (A : List Ar) (hA : A.length ≤ 100) (hs : ∀ (k : Nat) (x : Inst), L[k]? = some x → x.op = 9 → ∀ a ∈ A, a.has (k : Int) = a.has ((k + 2 : Nat) : Int)) {s : List Inst} (ht : Trip s) :
    ∀ (a : List Inst) (P : List Int) (o : Opn), o.open → L = a ++ s → P.length = a.length →
    ∃ o' : Opn, o'.open ∧ run kp (.loop [0, 4, 5, 6, 7] k_ref1_Pairs_L0 (ps nl L (P ++ List.replicate s.length 0) o A a.length [])) = some (.out (.ext 0) (ps nl L (P ++ outP s a.length) o' A L.length [(19, .bool false)])) := by
  induction ht with
  | nil =>
    intro a P o ho hLa hP
    refine ⟨o, ho, ?_⟩
    have e : a.length = L.length := by rw [hLa]; simp
    rw [e]
    simp only [List.length_nil, List.replicate_zero, List.append_nil, outP]
    exact pr_stop nl L P o A
  | @one x l h9 h10 _ ih =>
    intro a P o ho hLa hP
    obtain ⟨o', ho', e⟩ := ih (a ++ [x]) (P ++ [0]) o ho (by rw [hLa]; simp) (by simp [hP])
    refine ⟨o', ho', ?_⟩
    have hx : L[a.length]? = some x := by rw [hLa]; simp
    have e1 : P ++ List.replicate (x :: l).length 0 = (P ++ [0]) ++ List.replicate l.length (0 : Int) := by
      simp [List.replicate_succ]
    have e2 : P ++ outP (x :: l) a.length = (P ++ [0]) ++ outP l (a.length + 1) := by simp [outP, h9]
    rw [e1, e2, pr_other nl L hL _ o A a.length x hx h9 h10]
    simpa using e
  | @lock t x l h9 h10 _ _ ih =>
    intro a P o ho hLa hP
    obtain ⟨o', ho', e⟩ := ih (a ++ [⟨9, t, 0, 0⟩, x, ⟨10, t, 0, 0⟩]) (P ++ [(a.length : Int) + 2, 0, 0]) (.gone a.length) trivial (by rw [hLa]; simp) (by simp [hP])
    refine ⟨o', ho', ?_⟩
    have hx : L[a.length]? = some ⟨9, t, 0, 0⟩ := by rw [hLa]; simp
    have hx1 : L[a.length + 1]? = some x := by rw [hLa, List.getElem?_append_right (by omega)]; simp
    have hx2 : L[a.length + 1 + 1]? = some ⟨10, t, 0, 0⟩ := by
      rw [hLa, List.getElem?_append_right (by omega), show a.length + 1 + 1 - a.length = 2 by omega]; rfl
    have hsa := hs a.length _ hx rfl
    rw [pr_lock nl L hL _ o ho A a.length _ hx rfl, pr_other nl L hL _ _ A _ x hx1 h9 h10,
      pr_unlock nl L hL _ a.length (by simp [hP]) A hA _ hsa _ _ hx2 rfl hx rfl]
    have e1 : (P ++ List.replicate ((⟨9, t, 0, 0⟩ : Inst) :: x :: ⟨10, t, 0, 0⟩ :: l).length (0 : Int)).set a.length ((a.length + 1 + 1 : Nat) : Int) = (P ++ [(a.length : Int) + 2, 0, 0]) ++ List.replicate l.length 0 := by
      rw [← hP, List.set_append_right _ _ (Nat.le_refl _)]
      simp [List.replicate_succ]
      omega
    have e2 : P ++ outP ((⟨9, t, 0, 0⟩ : Inst) :: x :: ⟨10, t, 0, 0⟩ :: l) a.length = (P ++ [(a.length : Int) + 2, 0, 0]) ++ outP l (a.length + 1 + 1 + 1) := by simp [outP, h9]
    rw [e1, e2]
    simpa using e
theorem ref1_Pairs (nl : Bool) (L : List Inst) (hL : L.length ≤ 100) (hm : ∀ x ∈ L, mayF x = true) (ht : Trip L) (hs : ∀ (k : Nat) (x : Inst), L[k]? = some x → x.op = 9 → ∀ a ∈ areasF L 0, a.has (k : Int) = a.has ((k + 2 : Nat) : Int)) :
    run kp (.data f_ref1_Pairs [.sl nl (L.map Inst.d)]) = some (.ds [.sl false ((outP L 0).map (.int .i64)), .bool true]) := by
  have ar := ref1_areas nl L hL hm
  have la := areasF_len L 0
  obtain ⟨o', ho', lp⟩ := pr_loop nl L hL (areasF L 0) (by omega) hs ht [] [] .non trivial rfl rfl
  rw [run_data, run_call, kp_ref1_Pairs]
  have hL2 : (L.length : Int) ≤ 1073741824 := by omega
  have lo := outP_len L 0
  have lo2 : ((outP L 0).map (D.int .i64)).length = L.length := by simp [lo]
  have tk : List.take L.length ((outP L 0).map (D.int .i64)) = (outP L 0).map (D.int .i64) := List.take_of_length_le (by simp [lo])
  simp only [List.length_nil, List.nil_append] at lp
  generalize areasF L 0 = A at *
  have rz : (List.replicate L.length (0 : Int)).map (D.int .i64) = List.replicate L.length (D.int .i64 0) := by simp
  cases A with
  | nil =>
    simp only [arD] at ar
    cases o' with
    | full k => exact ho'.elim
    | non =>
      simp only [ps, opV, opH, opN, arV, arH, arN, List.append_nil, List.nil_append, List.cons_append, Nat.add_zero, Nat.reduceAdd, Int.cast_ofNat_Int, List.length_replicate, rz] at lp
      simp [k_ref1_Pairs, ar, lp, hL2, lo, tk]
    | gone k =>
      simp only [ps, opV, opH, opN, arV, arH, arN, List.append_nil, List.nil_append, List.cons_append, Nat.add_zero, Nat.reduceAdd, Int.cast_ofNat_Int, List.length_replicate, rz] at lp
      simp [k_ref1_Pairs, ar, lp, hL2, lo, tk]
  | cons a A =>
    simp only [arD] at ar
    cases o' with
    | full k => exact ho'.elim
    | non =>
      simp only [ps, opV, opH, opN, arV, arH, arN, List.append_nil, List.nil_append, List.cons_append, Nat.add_zero, Nat.reduceAdd, Int.cast_ofNat_Int, List.length_replicate, rz] at lp
      simp [k_ref1_Pairs, ar, lp, hL2, lo, tk]
    | gone k =>
      simp only [ps, opV, opH, opN, arV, arH, arN, List.append_nil, List.nil_append, List.cons_append, Nat.add_zero, Nat.reduceAdd, Int.cast_ofNat_Int, List.length_replicate, rz] at lp
      simp [k_ref1_Pairs, ar, lp, hL2, lo, tk]
end Go.Cd
