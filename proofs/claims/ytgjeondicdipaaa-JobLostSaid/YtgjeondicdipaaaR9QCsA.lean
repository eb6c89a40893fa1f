/- What the document reckons of programs: bodies and reaches, pairs. No conditions. -/
import Derived.Test.YtgjeondicdipaaaR9QVmM
set_option linter.unusedVariables false
set_option linter.unusedSimpArgs false
namespace Go.Cd
open Go Go.Fw
structure Ar where
  fr : Int
  to : Int
  of : Int
  body : Bool
def Ar.d (a : Ar) : D := .agg [.int .i64 a.fr, .int .i64 a.to, .int .i64 a.of, .bool a.body]
def Ar.has (a : Ar) (i : Int) : Bool := decide (a.fr ≤ i) && decide (i ≤ a.to)
def arOf (x : Inst) (i : Nat) : List Ar := if x.op = 7 then [⟨(i : Int) + 1, (i : Int) + x.n, i, false⟩] else if x.op = 8 then [⟨(i : Int) + 1, (i : Int) + x.b, i, true⟩] else []
def areasF : List Inst → Nat → List Ar
  | [], _ => []
  | x :: l, i => arOf x i ++ areasF l (i + 1)
def arV (h : Nat) : List Ar → V
  | [] => .d (.sl true [])
  | a :: l => .sl false h 0 (l.length + 1)
def arH (h : Nat) : List Ar → Hp
  | [] => []
  | a :: l => [(h, .row true (a.d :: l.map Ar.d))]
def arN : List Ar → Nat
  | [] => 0
  | _ :: _ => 1
def arD : List Ar → D
  | [] => .sl true []
  | a :: l => .sl false (a.d :: l.map Ar.d)
def areaSt (nl : Bool) (L : List Inst) (acc : List Ar) (i : Nat) (ex : List (Nat × V)) : St :=
  { env := [(0, .asl nl (L.map Inst.d)), (3, arV 0 acc), (4, .int .i64 (i : Int))] ++ ex, hp := arH 0 acc, tl := fun _ => none, base := 0, next := arN acc }
theorem area_has (a : Ar) (i : Int) : run kp (.data f_ref1_area_has [a.d, .int .i64 i]) = some (.ds [.bool (a.has i)]) := by
  rw [run_data, run_call, kp_ref1_area_has]
  by_cases h : a.fr ≤ i
  · simp [k_ref1_area_has, Ar.d, Ar.has, h]
  · simp [k_ref1_area_has, Ar.d, Ar.has, h]
theorem may_7 {x : Inst} (h : mayF x = true) (h7 : x.op = 7) : 1 ≤ x.n ∧ x.n ≤ 24 := by
  unfold mayF at h
  simp [h7, memB, withB] at h
  omega
theorem may_8 {x : Inst} (h : mayF x = true) (h8 : x.op = 8) : (1 ≤ x.b ∧ x.b ≤ 24) ∧ (1 ≤ x.n ∧ x.n ≤ 20) := by
  unfold mayF at h
  simp [h8, memB, withB] at h
  omega
theorem getX {α : Type} {L : List α} {i : Nat} {x : α} (hx : L[i]? = some x) : i < L.length := by
  by_cases k : i < L.length
  · exact k
  · rw [List.getElem?_eq_none (by omega)] at hx; cases hx
set_option maxRecDepth 10000 in
set_option maxHeartbeats 8000000 in
theorem area_round (nl : Bool) (L : List Inst) (hL : L.length ≤ 100) (acc : List Ar) (ha : acc.length ≤ 100) (i : Nat) (x : Inst) (hx : L[i]? = some x) (hm : mayF x = true) :
    run kp (.loop [0, 3, 4] k_ref1_areas_L0 (areaSt nl L acc i [])) = run kp (.loop [0, 3, 4] k_ref1_areas_L0 (areaSt nl L (acc ++ arOf x i) (i + 1) [])) := by
  have hi := getX hx
  have hi2 : (i : Int) < (L.length : Int) := by omega
  have w : IntKind.i64.wrap ((i : Int) + 1) = (i : Int) + 1 := wrap_i64 (by omega) (by omega)
  have c : ((i + 1 : Nat) : Int) = (i : Int) + 1 := by omega
  have hx2 : ∀ hh : i < L.length, L[i] = x := fun hh => by rw [List.getElem?_eq_getElem hh] at hx; injection hx
  rw [run_round]
  by_cases h7 : x.op = 7
  · obtain ⟨n1, n2⟩ := may_7 hm h7
    have w2 : IntKind.i64.wrap ((i : Int) + x.n) = (i : Int) + x.n := wrap_i64 (by omega) (by omega)
    cases acc with
    | nil => simp [c_ref1_areas_L0, k_ref1_areas_L0b, areaSt, arV, arH, arN, arOf, Ar.d, Inst.d, hi, hi2, hx, hx2, h7, w, w2, c]
    | cons a acc =>
      have q1 : acc.length ≤ 1073741822 := by simp at ha; omega
      have q2 : acc.length + 1 ≤ 1073741823 := by omega
      simp [c_ref1_areas_L0, k_ref1_areas_L0b, areaSt, arV, arH, arN, arOf, Ar.d, Inst.d, hi, hi2, hx, hx2, h7, w, w2, c, q1, q2]
  by_cases h8 : x.op = 8
  · obtain ⟨⟨n1, n2⟩, _⟩ := may_8 hm h8
    have w2 : IntKind.i64.wrap ((i : Int) + x.b) = (i : Int) + x.b := wrap_i64 (by omega) (by omega)
    cases acc with
    | nil => simp [c_ref1_areas_L0, k_ref1_areas_L0b, areaSt, arV, arH, arN, arOf, Ar.d, Inst.d, hi, hi2, hx, hx2, h8, w, w2, c]
    | cons a acc =>
      have q1 : acc.length ≤ 1073741822 := by simp at ha; omega
      have q2 : acc.length + 1 ≤ 1073741823 := by omega
      simp [c_ref1_areas_L0, k_ref1_areas_L0b, areaSt, arV, arH, arN, arOf, Ar.d, Inst.d, hi, hi2, hx, hx2, h8, w, w2, c, q1, q2]
  · cases acc with
    | nil => simp [c_ref1_areas_L0, k_ref1_areas_L0b, areaSt, arV, arH, arN, arOf, Ar.d, Inst.d, hi, hi2, hx, hx2, h7, h8, w, c]
    | cons a acc => simp [c_ref1_areas_L0, k_ref1_areas_L0b, areaSt, arV, arH, arN, arOf, Ar.d, Inst.d, hi, hi2, hx, hx2, h7, h8, w, c]
theorem area_stop (nl : Bool) (L : List Inst) (acc : List Ar) : run kp (.loop [0, 3, 4] k_ref1_areas_L0 (areaSt nl L acc L.length [])) = some (.out (.ext 0) (areaSt nl L acc L.length [(8, .bool false)])) := by
  rw [run_round]
  cases acc <;> simp [c_ref1_areas_L0, k_ref1_areas_L0b, areaSt, arV, arH, arN]
theorem arOf_len (x : Inst) (i : Nat) : (arOf x i).length ≤ 1 := by
  unfold arOf
  repeat' split
  all_goals simp
theorem area_loop (nl : Bool) (L : List Inst) (hL : L.length ≤ 100) (hm : ∀ x ∈ L, mayF x = true) : ∀ (k i : Nat) (acc : List Ar), i + k = L.length → acc.length ≤ i →
    run kp (.loop [0, 3, 4] k_ref1_areas_L0 (areaSt nl L acc i [])) = some (.out (.ext 0) (areaSt nl L (acc ++ areasF (L.drop i) i) L.length [(8, .bool false)]))
  | 0, i, acc, h, _ => by
    obtain rfl : i = L.length := by omega
    rw [area_stop]; simp [areasF]
  | k + 1, i, acc, h, hl => by
    have hi : i < L.length := by omega
    have hx := List.getElem?_eq_getElem hi
    have ed : L.drop i = L[i] :: L.drop (i + 1) := List.drop_eq_getElem_cons hi
    have l1 := arOf_len L[i] i
    rw [area_round nl L hL acc (by omega) i _ hx (hm _ (List.getElem_mem hi)), area_loop nl L hL hm k (i + 1) _ (by omega) (by simp; omega), ed, areasF, List.append_assoc]
theorem areasF_len : ∀ (L : List Inst) (i : Nat), (areasF L i).length ≤ L.length
  | [], _ => Nat.le_refl _
  | x :: l, i => by
    have := areasF_len l (i + 1)
    have := arOf_len x i
    simp [areasF]; omega
theorem take_map_lenA {α β : Type} (f : α → β) (l : List α) : List.take l.length (List.map f l) = List.map f l := List.take_of_length_le (by simp)
theorem ref1_areas (nl : Bool) (L : List Inst) (hL : L.length ≤ 100) (hm : ∀ x ∈ L, mayF x = true) : run kp (.data f_ref1_areas [.sl nl (L.map Inst.d)]) = some (.ds [arD (areasF L 0)]) := by
  have lp := area_loop nl L hL hm L.length 0 [] (by omega) (by simp)
  simp only [List.drop_zero, List.nil_append] at lp
  rw [run_data, run_call, kp_ref1_areas]
  generalize areasF L 0 = A at *
  have e : areaSt nl L [] 0 [] = { env := [(0, .asl nl (L.map Inst.d)), (3, .d (.sl true [])), (4, .int .i64 0)], hp := [], tl := fun _ => none, base := 0, next := 0 } := rfl
  rw [e] at lp
  cases A with
  | nil => simp [k_ref1_areas, lp, areaSt, arV, arH, arN, arD]
  | cons a A => simp [k_ref1_areas, lp, areaSt, arV, arH, arN, arD, take_map_lenA]
end Go.Cd
