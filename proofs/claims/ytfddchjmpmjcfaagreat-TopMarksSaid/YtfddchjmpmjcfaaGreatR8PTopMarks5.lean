/- Texts of this session in one. No conditions. -/
import Derived.Test.YtfddchjmpmjcfaaGreatR8PTopMarks2
set_option linter.unusedVariables false
set_option linter.unusedSimpArgs false
namespace Go.Cd
open Go Go.Fw
def addM : Inst := ⟨2, 0, 0, 0⟩
def endM : Inst := ⟨0, 0, 0, 0⟩
def markI : Inst := ⟨11, 0, 0, 0⟩
def nilV : V := .d (.sl true [])
def mk0 (pn : Bool) (P : List D) (b : Int) (i n : Nat) (ext : Env) : St := ⟨[(0, V.d (.sl pn P)), (1, V.int .u8 b), (5, .d (.sl true [])), (6, .d (.sl true [])), (7, V.int .i64 (i : Int)), (8, V.int .i64 (n : Int))] ++ ext, [], fun _ => none, 0, 0⟩
def mk1 (pn : Bool) (P : List D) (b : Int) (A : List D) (i n : Nat) (ext : Env) : St := ⟨[(0, V.d (.sl pn P)), (1, V.int .u8 b), (5, .sl false 0 0 A.length), (6, .d (.sl true [])), (7, V.int .i64 (i : Int)), (8, V.int .i64 (n : Int))] ++ ext, [(0, Blk.row true A)], fun _ => none, 0, 1⟩
def mk2 (pn : Bool) (P : List D) (b : Int) (A B : List D) (i n : Nat) (ext : Env) : St := ⟨[(0, V.d (.sl pn P)), (1, V.int .u8 b), (5, .sl false 0 0 A.length), (6, .sl false 1 0 B.length), (7, V.int .i64 (i : Int)), (8, V.int .i64 (n : Int))] ++ ext, [(0, Blk.row true A), (1, Blk.row true B)], fun _ => none, 0, 2⟩
def KM1 : List Nat := [0, 1, 5, 6, 7, 8]
structure VOk (P : List D) (i : Nat) (v : Int) (k : Nat) : Prop where
  lt : i < P.length
  val : P[i]? = some (.int .u8 v)
  hk : v.tmod 4 = (k : Int)
  le : k ≤ 3
set_option maxRecDepth 10000 in
set_option maxHeartbeats 8000000 in
theorem m1_a (pn : Bool) (P : List D) (b : Int)  (i n : Nat) (v : Int) (k : Nat) (o : VOk P i v k) (h : n < k)  : run kp (.loop KM1 k_top_TopMarks_L1 (mk0 pn P b i n [])) = run kp (.loop KM1 k_top_TopMarks_L1 (mk1 pn P b [addM.d] i (n + 1) [])) := by
  have hx2 : ∀ hh : i < P.length, P[i]'hh = .int .u8 v := fun hh => by have := o.val; rw [List.getElem?_eq_getElem hh] at this; injection this
  have hx := o.val
  have hk := o.hk
  have hi := o.lt
  have w1 : IntKind.i64.wrap (k : Int) = (k : Int) := wrap_i64 (by have := o.le; omega) (by have := o.le; omega)
  have w2 : IntKind.i64.wrap ((n : Int) + 1) = ((n + 1 : Nat) : Int) := by have := o.le; rw [wrap_i64 (by omega) (by omega)]; omega
  have q1 : True := trivial
  simp only [KM1, mk0, mk1, mk2, List.append_nil, List.length_singleton, List.length_append]
  simp only [addM, Inst.d]
  generalize n + 1 = n' at *
  rw [run_round]
  simp [c_top_TopMarks_L1, k_top_TopMarks_L1b, hx, hx2, hk, hi, w1, w2, h, q1]
set_option maxRecDepth 10000 in
set_option maxHeartbeats 8000000 in
theorem m1_b (pn : Bool) (P : List D) (b : Int) (A : List D) (i n : Nat) (v : Int) (k : Nat) (o : VOk P i v k) (h : n < k) (hA : A.length ≤ 1000) : run kp (.loop KM1 k_top_TopMarks_L1 (mk1 pn P b A i n [])) = run kp (.loop KM1 k_top_TopMarks_L1 (mk1 pn P b (A ++ [addM.d]) i (n + 1) [])) := by
  have hx2 : ∀ hh : i < P.length, P[i]'hh = .int .u8 v := fun hh => by have := o.val; rw [List.getElem?_eq_getElem hh] at this; injection this
  have hx := o.val
  have hk := o.hk
  have hi := o.lt
  have w1 : IntKind.i64.wrap (k : Int) = (k : Int) := wrap_i64 (by have := o.le; omega) (by have := o.le; omega)
  have w2 : IntKind.i64.wrap ((n : Int) + 1) = ((n + 1 : Nat) : Int) := by have := o.le; rw [wrap_i64 (by omega) (by omega)]; omega
  have q1 : A.length + 1 ≤ 1073741824 := by omega
  simp only [KM1, mk0, mk1, mk2, List.append_nil, List.length_singleton, List.length_append]
  simp only [addM, Inst.d]
  generalize n + 1 = n' at *
  rw [run_round]
  simp [c_top_TopMarks_L1, k_top_TopMarks_L1b, hx, hx2, hk, hi, w1, w2, h, q1]
set_option maxRecDepth 10000 in
set_option maxHeartbeats 8000000 in
theorem m1_c (pn : Bool) (P : List D) (b : Int) (A B : List D) (i n : Nat) (v : Int) (k : Nat) (o : VOk P i v k) (h : n < k) (hA : A.length ≤ 1000) : run kp (.loop KM1 k_top_TopMarks_L1 (mk2 pn P b A B i n [])) = run kp (.loop KM1 k_top_TopMarks_L1 (mk2 pn P b (A ++ [addM.d]) B i (n + 1) [])) := by
  have hx2 : ∀ hh : i < P.length, P[i]'hh = .int .u8 v := fun hh => by have := o.val; rw [List.getElem?_eq_getElem hh] at this; injection this
  have hx := o.val
  have hk := o.hk
  have hi := o.lt
  have w1 : IntKind.i64.wrap (k : Int) = (k : Int) := wrap_i64 (by have := o.le; omega) (by have := o.le; omega)
  have w2 : IntKind.i64.wrap ((n : Int) + 1) = ((n + 1 : Nat) : Int) := by have := o.le; rw [wrap_i64 (by omega) (by omega)]; omega
  have q1 : A.length + 1 ≤ 1073741824 := by omega
  simp only [KM1, mk0, mk1, mk2, List.append_nil, List.length_singleton, List.length_append]
  simp only [addM, Inst.d]
  generalize n + 1 = n' at *
  rw [run_round]
  simp [c_top_TopMarks_L1, k_top_TopMarks_L1b, hx, hx2, hk, hi, w1, w2, h, q1]
set_option maxRecDepth 10000 in
set_option maxHeartbeats 8000000 in
theorem e1_a (pn : Bool) (P : List D) (b : Int)  (i : Nat) (v : Int) (k : Nat) (o : VOk P i v k) : run kp (.loop KM1 k_top_TopMarks_L1 (mk0 pn P b i k [])) = some (.out (.ext 2) (mk0 pn P b i k [(42, .bool false)])) := by
  have hx2 : ∀ hh : i < P.length, P[i]'hh = .int .u8 v := fun hh => by have := o.val; rw [List.getElem?_eq_getElem hh] at this; injection this
  have hx := o.val
  have hk := o.hk
  have hi := o.lt
  have w1 : IntKind.i64.wrap (k : Int) = (k : Int) := wrap_i64 (by have := o.le; omega) (by have := o.le; omega)
  simp only [KM1, mk0, mk1, mk2, List.append_nil, List.length_singleton, List.length_append]
  rw [run_round]
  simp [c_top_TopMarks_L1, k_top_TopMarks_L1b, hx, hx2, hk, hi, w1]
set_option maxRecDepth 10000 in
set_option maxHeartbeats 8000000 in
theorem e1_b (pn : Bool) (P : List D) (b : Int) (A : List D) (i : Nat) (v : Int) (k : Nat) (o : VOk P i v k) : run kp (.loop KM1 k_top_TopMarks_L1 (mk1 pn P b A i k [])) = some (.out (.ext 2) (mk1 pn P b A i k [(42, .bool false)])) := by
  have hx2 : ∀ hh : i < P.length, P[i]'hh = .int .u8 v := fun hh => by have := o.val; rw [List.getElem?_eq_getElem hh] at this; injection this
  have hx := o.val
  have hk := o.hk
  have hi := o.lt
  have w1 : IntKind.i64.wrap (k : Int) = (k : Int) := wrap_i64 (by have := o.le; omega) (by have := o.le; omega)
  simp only [KM1, mk0, mk1, mk2, List.append_nil, List.length_singleton, List.length_append]
  rw [run_round]
  simp [c_top_TopMarks_L1, k_top_TopMarks_L1b, hx, hx2, hk, hi, w1]
set_option maxRecDepth 10000 in
set_option maxHeartbeats 8000000 in
theorem e1_c (pn : Bool) (P : List D) (b : Int) (A B : List D) (i : Nat) (v : Int) (k : Nat) (o : VOk P i v k) : run kp (.loop KM1 k_top_TopMarks_L1 (mk2 pn P b A B i k [])) = some (.out (.ext 2) (mk2 pn P b A B i k [(42, .bool false)])) := by
  have hx2 : ∀ hh : i < P.length, P[i]'hh = .int .u8 v := fun hh => by have := o.val; rw [List.getElem?_eq_getElem hh] at this; injection this
  have hx := o.val
  have hk := o.hk
  have hi := o.lt
  have w1 : IntKind.i64.wrap (k : Int) = (k : Int) := wrap_i64 (by have := o.le; omega) (by have := o.le; omega)
  simp only [KM1, mk0, mk1, mk2, List.append_nil, List.length_singleton, List.length_append]
  rw [run_round]
  simp [c_top_TopMarks_L1, k_top_TopMarks_L1b, hx, hx2, hk, hi, w1]
theorem run1_b (pn : Bool) (P : List D) (b : Int) (i : Nat) (v : Int) (k : Nat) (o : VOk P i v k) : ∀ (j n : Nat) (A : List D), A.length ≤ 900 + n → n + j = k → run kp (.loop KM1 k_top_TopMarks_L1 (mk1 pn P b A i n [])) = some (.out (.ext 2) (mk1 pn P b (A ++ List.replicate j addM.d) i k [(42, .bool false)]))
  | 0, n, A, hA, e => by
    obtain rfl : n = k := by omega
    rw [List.replicate_zero, List.append_nil]
    exact e1_b pn P b A i v n o
  | j + 1, n, A, hA, e => by
    have := o.le
    rw [m1_b pn P b A i n v k o (by omega) (by omega)]
    rw [run1_b pn P b i v k o j (n + 1) (A ++ [addM.d]) (by simp; omega) (by omega)]
    have e2 : A ++ [addM.d] ++ List.replicate j addM.d = A ++ List.replicate (j + 1) addM.d := by rw [List.append_assoc, List.replicate_succ]; rfl
    rw [e2]
theorem run1_c (pn : Bool) (P : List D) (b : Int) (i : Nat) (v : Int) (k : Nat) (o : VOk P i v k) (B : List D) : ∀ (j n : Nat) (A : List D), A.length ≤ 900 + n → n + j = k → run kp (.loop KM1 k_top_TopMarks_L1 (mk2 pn P b A B i n [])) = some (.out (.ext 2) (mk2 pn P b (A ++ List.replicate j addM.d) B i k [(42, .bool false)]))
  | 0, n, A, hA, e => by
    obtain rfl : n = k := by omega
    rw [List.replicate_zero, List.append_nil]
    exact e1_c pn P b A B i v n o
  | j + 1, n, A, hA, e => by
    have := o.le
    rw [m1_c pn P b A B i n v k o (by omega) (by omega)]
    rw [run1_c pn P b i v k o B j (n + 1) (A ++ [addM.d]) (by simp; omega) (by omega)]
    have e2 : A ++ [addM.d] ++ List.replicate j addM.d = A ++ List.replicate (j + 1) addM.d := by rw [List.append_assoc, List.replicate_succ]; rfl
    rw [e2]
theorem run1_a (pn : Bool) (P : List D) (b : Int) (i : Nat) (v : Int) (k : Nat) (o : VOk P i v (k + 1)) : run kp (.loop KM1 k_top_TopMarks_L1 (mk0 pn P b i 0 [])) = some (.out (.ext 2) (mk1 pn P b (List.replicate (k + 1) addM.d) i (k + 1) [(42, .bool false)])) := by
  rw [m1_a pn P b i 0 v (k + 1) o (by omega)]
  rw [run1_b pn P b i v (k + 1) o k 1 [addM.d] (by simp) (by omega)]
  rfl
end Go.Cd
namespace Go.Cd
open Go Go.Fw
def ck0 (pn : Bool) (P : List D) (b : Int) (i : Nat) (ext : Env) : St := ⟨[(0, V.d (.sl pn P)), (1, V.int .u8 b), (5, .d (.sl true [])), (6, .d (.sl true [])), (7, V.int .i64 (i : Int))] ++ ext, [], fun _ => none, 0, 0⟩
def ck2 (pn : Bool) (P : List D) (b : Int) (A B : List D) (i : Nat) (ext : Env) : St := ⟨[(0, V.d (.sl pn P)), (1, V.int .u8 b), (5, .sl false 0 0 A.length), (6, .sl false 1 0 B.length), (7, V.int .i64 (i : Int))] ++ ext, [(0, Blk.row true A), (1, Blk.row true B)], fun _ => none, 0, 2⟩
def KM0 : List Nat := [0, 1, 5, 6, 7]
/-- A piece: so many sums, and a mark. -/
def pce (k : Nat) : List D := List.replicate k addM.d ++ [markI.d]
theorem pce_len (k : Nat) : (pce k).length = k + 1 := by simp [pce]
def lnD (A : List D) : D := .int .i64 (A.length : Int)
set_option maxRecDepth 10000 in
set_option maxHeartbeats 8000000 in
theorem c_next (pn : Bool) (P : List D) (b : Int) (A B : List D) (i : Nat) (v : Int) (k : Nat) (o : VOk P i v k) (hP : P.length ≤ 4) (hA : A.length ≤ 100) (hB : B.length ≤ 100) : run kp (.loop KM0 k_top_TopMarks_L0 (ck2 pn P b A B i [])) = run kp (.loop KM0 k_top_TopMarks_L0 (ck2 pn P b (A ++ pce k) (B ++ [lnD (A ++ pce k)]) (i + 1) [])) := by
  have r := run1_c pn P b i v k o B k 0 A (by omega) (by omega)
  have hi := o.lt
  have hk := o.le
  have w2 : IntKind.i64.wrap ((i : Int) + 1) = ((i + 1 : Nat) : Int) := by rw [wrap_i64 (by omega) (by omega)]; omega
  have q1 : A.length + k + 1 ≤ 1073741824 := by omega
  have q2 : B.length + 1 ≤ 1073741824 := by omega
  have e1 : (A ++ pce k).length = A.length + k + 1 := by simp [pce]; omega
  have e2 : A ++ pce k = A ++ List.replicate k addM.d ++ [markI.d] := by simp [pce]
  have e3 : (A ++ List.replicate k addM.d).length = A.length + k := by simp
  simp only [ck2, lnD, e1]
  rw [e2]
  simp only [KM1, mk2, e3, List.append_nil, Int.cast_ofNat_Int] at r
  generalize A ++ List.replicate k addM.d = A1 at *
  generalize i + 1 = i' at *
  have q3 : A1.length + 1 ≤ 1073741824 := by omega
  have q4 : List.take (A.length + k) A1 = A1 := List.take_of_length_le (by omega)
  simp only [KM0, markI, Inst.d, List.append_nil]
  rw [run_round]
  simp [c_top_TopMarks_L0, k_top_TopMarks_L0b, hi, w2, r, q1, q2, q3, q4, e3]
set_option maxRecDepth 10000 in
set_option maxHeartbeats 8000000 in
theorem c_first (pn : Bool) (P : List D) (b : Int) (v : Int) (k : Nat) (o : VOk P 0 v k) : run kp (.loop KM0 k_top_TopMarks_L0 (ck0 pn P b 0 [])) = run kp (.loop KM0 k_top_TopMarks_L0 (ck2 pn P b (pce k) [lnD (pce k)] 1 [])) := by
  have hi := o.lt
  have hk := o.le
  have w2 : IntKind.i64.wrap 1 = 1 := rfl
  cases k with
  | zero =>
    have r := e1_a pn P b 0 v 0 o
    simp only [KM1, mk0, List.append_nil, Int.cast_ofNat_Int] at r
    simp only [ck0, ck2, lnD, pce, KM0, markI, Inst.d, List.append_nil]
    rw [run_round]
    simp [c_top_TopMarks_L0, k_top_TopMarks_L0b, hi, w2, r]
  | succ k =>
    have r := run1_a pn P b 0 v k o
    have e1 : (pce (k + 1)).length = k + 1 + 1 := pce_len _
    have e2 : pce (k + 1) = List.replicate (k + 1) addM.d ++ [markI.d] := rfl
    have e3 : (List.replicate (k + 1) addM.d).length = k + 1 := by simp
    simp only [ck0, ck2, lnD, e1]
    rw [e2]
    simp only [KM1, mk0, mk1, e3, List.append_nil, Int.cast_ofNat_Int] at r
    generalize List.replicate (k + 1) addM.d = A1 at *
    generalize k + 1 = k1 at *
    have q3 : k1 + 1 ≤ 1073741824 := by omega
    have q4 : List.take k1 A1 = A1 := List.take_of_length_le (by omega)
    simp only [KM0, markI, Inst.d, List.append_nil]
    rw [run_round]
    simp [c_top_TopMarks_L0, k_top_TopMarks_L0b, hi, w2, r, q3, q4, e3]
set_option maxRecDepth 10000 in
set_option maxHeartbeats 8000000 in
theorem c_end2 (pn : Bool) (P : List D) (b : Int) (A B : List D) : run kp (.loop KM0 k_top_TopMarks_L0 (ck2 pn P b A B P.length [])) = some (.out (.ext 0) (ck2 pn P b A B P.length [(32, .bool false)])) := by
  unfold ck2 KM0
  rw [run_round]
  simp [c_top_TopMarks_L0, k_top_TopMarks_L0b]
set_option maxRecDepth 10000 in
set_option maxHeartbeats 8000000 in
theorem c_end0 (pn : Bool) (P : List D) (b : Int) : run kp (.loop KM0 k_top_TopMarks_L0 (ck0 pn P b P.length [])) = some (.out (.ext 0) (ck0 pn P b P.length [(32, .bool false)])) := by
  unfold ck0 KM0
  rw [run_round]
  simp [c_top_TopMarks_L0, k_top_TopMarks_L0b]
/-- The program and where its marks are, of so many pieces. -/
def prgL : List Nat → List D
  | [] => []
  | k :: l => pce k ++ prgL l
def endL : Nat → List Nat → List D
  | _, [] => []
  | n, k :: l => .int .i64 ((n + (k + 1) : Nat) : Int) :: endL (n + (k + 1)) l
theorem prgL_len : ∀ l : List Nat, (∀ k ∈ l, k ≤ 3) → (prgL l).length ≤ 4 * l.length
  | [], _ => by simp [prgL]
  | k :: l, h => by
    have := prgL_len l (fun x hx => h x (List.mem_cons_of_mem _ hx))
    have := h k List.mem_cons_self
    simp [prgL, pce_len]; omega
theorem endL_len : ∀ (l : List Nat) (n : Nat), (endL n l).length = l.length
  | [], _ => rfl
  | k :: l, n => by simp [endL, endL_len l]
/-- What the numbers of pieces are. -/
def KsOk (P : List D) (i : Nat) (l : List Nat) : Prop := ∀ j k, l[j]? = some k → ∃ v, VOk P (i + j) v k
theorem c_run (pn : Bool) (P : List D) (b : Int) (hP : P.length ≤ 4) : ∀ (l : List Nat) (i : Nat) (A B : List D), i + l.length = P.length → KsOk P i l → A.length ≤ 4 * i → B.length = i →
    run kp (.loop KM0 k_top_TopMarks_L0 (ck2 pn P b A B i [])) = some (.out (.ext 0) (ck2 pn P b (A ++ prgL l) (B ++ endL A.length l) P.length [(32, .bool false)]))
  | [], i, A, B, e, _, _, _ => by
    obtain rfl : i = P.length := by simpa using e
    simpa [prgL, endL] using c_end2 pn P b A B
  | k :: l, i, A, B, e, h, hA, hB => by
    obtain ⟨v, o⟩ := h 0 k rfl
    rw [Nat.add_zero] at o
    have := o.le
    rw [c_next pn P b A B i v k o hP (by omega) (by omega)]
    rw [c_run pn P b hP l (i + 1) (A ++ pce k) (B ++ [lnD (A ++ pce k)]) (by simp at e; omega) (fun j x hx => by
      obtain ⟨v', o'⟩ := h (j + 1) x hx
      rw [← Nat.add_assoc, Nat.add_right_comm] at o'
      exact ⟨v', o'⟩) (by simp [pce_len]; omega) (by simp [hB])]
    simp [prgL, endL, lnD, pce_len]
theorem c_all (pn : Bool) (P : List D) (b : Int) (hP : P.length ≤ 4) (k : Nat) (l : List Nat) (e : l.length + 1 = P.length) (h : KsOk P 0 (k :: l)) :
    run kp (.loop KM0 k_top_TopMarks_L0 (ck0 pn P b 0 [])) = some (.out (.ext 0) (ck2 pn P b (prgL (k :: l)) (endL 0 (k :: l)) P.length [(32, .bool false)])) := by
  obtain ⟨v, o⟩ := h 0 k rfl
  have := o.le
  rw [c_first pn P b v k o]
  rw [c_run pn P b hP l 1 (pce k) [lnD (pce k)] (by omega) (fun j x hx => by
    obtain ⟨v', o'⟩ := h (j + 1) x hx
    rw [Nat.zero_add, Nat.add_comm] at o'
    exact ⟨v', o'⟩) (by rw [pce_len]; omega) rfl]
  simp [prgL, endL, lnD, pce_len]
end Go.Cd
namespace Go.Cd
open Go Go.Fw
def pcI (k : Nat) : List Inst := List.replicate k addM ++ [markI]
def prgI : List Nat → List Inst
  | [] => []
  | k :: l => pcI k ++ prgI l
theorem prgI_d : ∀ l, (prgI l).map Inst.d = prgL l
  | [] => rfl
  | k :: l => by simp [prgI, prgL, pcI, pce, prgI_d l]
theorem pcI_len (k : Nat) : (pcI k).length = k + 1 := by simp [pcI]
theorem prgI_len : ∀ l : List Nat, (∀ k ∈ l, k ≤ 3) → (prgI l).length ≤ 4 * l.length
  | [], _ => by simp [prgI]
  | k :: l, h => by
    have := prgI_len l (fun x hx => h x (List.mem_cons_of_mem _ hx))
    have := h k List.mem_cons_self
    simp [prgI, pcI_len]; omega
theorem prgI_mem : ∀ l, ∀ i ∈ prgI l, i = addM ∨ i = markI
  | [], i, h => by simp [prgI] at h
  | k :: l, i, h => by
    simp only [prgI, pcI, List.mem_append, List.mem_replicate, List.mem_singleton] at h
    rcases h with (⟨_, rfl⟩ | rfl) | h
    · exact .inl rfl
    · exact .inr rfl
    · exact prgI_mem l i h
theorem prog_ok (l : List Nat) (h : ∀ k ∈ l, k ≤ 3) (hl : l.length ≤ 4) : PMk (prgI l ++ [endM]) (prgI l).length := by
  have hn := prgI_len l h
  refine ⟨fun i hi => ?_, by simp, by omega, fun i x hx => ?_⟩
  · simp only [List.mem_append, List.mem_singleton] at hi
    rcases hi with hi | rfl
    · rcases prgI_mem l i hi with rfl | rfl
      · exact ⟨⟨by simp [addM], rfl, rfl⟩, by decide⟩
      · exact ⟨⟨by simp [markI], rfl, rfl⟩, by decide⟩
    · exact ⟨⟨by simp [endM], rfl, rfl⟩, by decide⟩
  · by_cases c : i < (prgI l).length
    · rw [List.getElem?_append_left c] at hx
      have := prgI_mem l x (List.mem_of_getElem? hx)
      rcases this with rfl | rfl
      · simp [addM]; omega
      · simp [markI]; omega
    · rw [List.getElem?_append_right (by omega)] at hx
      have hi : i - (prgI l).length = 0 := by
        rcases hh : i - (prgI l).length with _ | n
        · rfl
        · rw [hh] at hx; simp at hx
      rw [hi] at hx
      simp at hx
      subst hx
      simp [endM]; omega
/-- The last of the ends that is not behind. -/
def lastE (t : Nat) : Nat → List Nat → Nat → Nat
  | _, [], acc => acc
  | n, k :: l, acc => lastE t (n + (k + 1)) l (if n + (k + 1) ≤ t then n + (k + 1) else acc)
theorem lastE_le (t : Nat) : ∀ (l : List Nat) (n acc : Nat), t ≤ n → lastE t n l acc = acc
  | [], _, _, _ => rfl
  | k :: l, n, acc, h => by
    rw [lastE, if_neg (by omega)]
    exact lastE_le t l _ _ (by omega)
theorem lmk_adds (pre suf : List Inst) (k : Nat) : ∀ j, j ≤ k → lmk (pre ++ (List.replicate k addM ++ suf)) (pre.length + j) = lmk (pre ++ (List.replicate k addM ++ suf)) pre.length
  | 0, _ => rfl
  | j + 1, h => by
    have ih := lmk_adds pre suf k j (by omega)
    have e : (pre ++ (List.replicate k addM ++ suf))[pre.length + j]? = some addM := by
      rw [List.getElem?_append_right (by omega), Nat.add_sub_cancel_left, List.getElem?_append_left (by simp; omega), List.getElem?_replicate, if_pos (by omega)]
    rw [← Nat.add_assoc, lmk, e, ← ih]
    simp [addM]
theorem lmk_last (t : Nat) : ∀ (l : List Nat) (pre suf : List Inst), pre.length ≤ t → t ≤ pre.length + (prgI l).length → lmk (pre ++ (prgI l ++ suf)) t = lastE t pre.length l (lmk (pre ++ (prgI l ++ suf)) pre.length)
  | [], pre, suf, h1, h2 => by
    have e : t = pre.length := by simp [prgI] at h2; omega
    subst e
    rfl
  | k :: l, pre, suf, h1, h2 => by
    have e : pre ++ (prgI (k :: l) ++ suf) = pre ++ (List.replicate k addM ++ ([markI] ++ (prgI l ++ suf))) := by simp [prgI, pcI]
    have e2 : pre ++ (prgI (k :: l) ++ suf) = (pre ++ pcI k) ++ (prgI l ++ suf) := by simp [prgI]
    have el : (pre ++ pcI k).length = pre.length + (k + 1) := by simp [pcI_len]
    by_cases c : t < pre.length + (k + 1)
    · obtain ⟨j, rfl⟩ : ∃ j, t = pre.length + j := ⟨t - pre.length, by omega⟩
      rw [lastE, if_neg (by omega), lastE_le _ _ _ _ (by omega), e]
      exact lmk_adds pre _ k j (by omega)
    · have ih := lmk_last t l (pre ++ pcI k) suf (by omega) (by rw [el]; simp only [prgI, List.length_append, pcI_len] at h2; omega)
      have m : lmk (pre ++ pcI k ++ (prgI l ++ suf)) (pre.length + (k + 1)) = pre.length + (k + 1) := by
        have g : (pre ++ pcI k ++ (prgI l ++ suf))[pre.length + k]? = some markI := by
          rw [← e2, e, List.getElem?_append_right (by omega), Nat.add_sub_cancel_left, List.getElem?_append_right (by simp)]
          simp
        rw [← Nat.add_assoc, lmk, g]
        simp [markI]
      rw [el, m] at ih
      rw [lastE, if_pos (by omega), e2]
      exact ih
theorem lmk_is (l : List Nat) (t : Nat) (h : t ≤ (prgI l).length) : lmk (prgI l ++ [endM]) t = lastE t 0 l 0 := by
  have := lmk_last t l [] [endM] (Nat.zero_le _) (by simpa using h)
  simpa [lmk] using this
end Go.Cd
