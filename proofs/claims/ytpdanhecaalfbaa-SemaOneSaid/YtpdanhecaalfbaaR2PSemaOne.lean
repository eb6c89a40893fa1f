/- The law SemaOne, as the evaluator has it. No conditions. -/
import Derived.Test.YtpdanhecaalfbaaR2PSemaAll
set_option linter.unusedVariables false
set_option linter.unusedSimpArgs false
namespace Go.Cd
open Go Go.Fw
def fourS (a b c d : Int) : List Sema := [⟨0, a⟩, ⟨0, b⟩, ⟨0, c⟩, ⟨0, d⟩]
def oneD (x : Int × Int × Int) : D := .agg [.int .u8 x.1, .int .u8 x.2.1, .int .u8 x.2.2]
def soSt (nl : Bool) (l : List (Int × Int × Int)) (a b c d : Int) (ex : List (Nat × V)) (i : Int) : St :=
  { env := [(0, .asl nl (l.map oneD)), (3, .sl false 0 0 4), (4, .ptr 1 []), (5, .int .i64 i)] ++ ex, hp := [(0, .row true ((fourS a b c d).map Sema.d)), (1, .box (.d (.agg [.int .i64 a, .int .i64 b, .int .i64 c, .int .i64 d])))], tl := fun _ => none, base := 0, next := 2 }
/-- What is held is what the law says. -/
theorem so_check (nl : Bool) (l : List (Int × Int × Int)) (a b c d i : Int) :
    run kp (.loop [0, 3, 4, 5, 13] k_law11_SemaOne_L2 (soSt nl l a b c d [(13, .int .i64 0)] i)) = some (.out (.ext 5) (soSt nl l a b c d [(13, .int .i64 4), (118, .bool false)] i)) := by
  have w1 : IntKind.i64.wrap 1 = 1 := by decide
  have w2 : IntKind.i64.wrap 2 = 2 := by decide
  have w3 : IntKind.i64.wrap 3 = 3 := by decide
  have w4 : IntKind.i64.wrap 4 = 4 := by decide
  simp only [soSt, fourS, List.map, Sema.d]
  rw [run_round]
  simp [c_law11_SemaOne_L2, k_law11_SemaOne_L2b, w1, w2, w3, w4]
  rw [run_round]
  simp [c_law11_SemaOne_L2, k_law11_SemaOne_L2b, w1, w2, w3, w4]
  rw [run_round]
  simp [c_law11_SemaOne_L2, k_law11_SemaOne_L2b, w1, w2, w3, w4]
  rw [run_round]
  simp [c_law11_SemaOne_L2, k_law11_SemaOne_L2b, w1, w2, w3, w4]
  rw [run_round]
  simp [c_law11_SemaOne_L2, k_law11_SemaOne_L2b, w1, w2, w3, w4]
def fr (t x : Int) : Int := if x = IntKind.i64.wrap (t + 1) then 0 else x
def soSt1 (nl : Bool) (l : List (Int × Int × Int)) (a b c d a' b' c' d' t : Int) (ex : List (Nat × V)) (i k : Int) : St :=
  { env := [(0, .asl nl (l.map oneD)), (3, .sl false 0 0 4), (4, .ptr 1 []), (5, .int .i64 i), (7, .int .i64 t), (12, .int .i64 k)] ++ ex, hp := [(0, .row true ((fourS a b c d).map Sema.d)), (1, .box (.d (.agg [.int .i64 a', .int .i64 b', .int .i64 c', .int .i64 d'])))], tl := fun _ => none, base := 0, next := 2 }
theorem so_free (nl : Bool) (l : List (Int × Int × Int)) (a b c d a' b' c' d' t i : Int) :
    run kp (.loop [0, 3, 4, 5, 7, 12] k_law11_SemaOne_L1 (soSt1 nl l a b c d a' b' c' d' t [] i 0)) = some (.out (.ext 3) (soSt1 nl l a b c d (fr t a') (fr t b') (fr t c') (fr t d') t [(50, .bool false)] i 4)) := by
  have w1 : IntKind.i64.wrap 1 = 1 := by decide
  have w2 : IntKind.i64.wrap 2 = 2 := by decide
  have w3 : IntKind.i64.wrap 3 = 3 := by decide
  have w4 : IntKind.i64.wrap 4 = 4 := by decide
  simp only [soSt1]
  rw [run_round]
  by_cases h0 : a' = IntKind.i64.wrap (t + 1) <;> simp [c_law11_SemaOne_L1, k_law11_SemaOne_L1b, w1, w2, w3, w4, h0, fr] <;>
  rw [run_round] <;>
  by_cases h1 : b' = IntKind.i64.wrap (t + 1) <;> simp [c_law11_SemaOne_L1, k_law11_SemaOne_L1b, w1, w2, w3, w4, h0, h1] <;>
  rw [run_round] <;>
  by_cases h2 : c' = IntKind.i64.wrap (t + 1) <;> simp [c_law11_SemaOne_L1, k_law11_SemaOne_L1b, w1, w2, w3, w4, h0, h1, h2] <;>
  rw [run_round] <;>
  by_cases h3 : d' = IntKind.i64.wrap (t + 1) <;> simp [c_law11_SemaOne_L1, k_law11_SemaOne_L1b, w1, w2, w3, w4, h0, h1, h2, h3] <;>
  rw [run_round] <;> simp [c_law11_SemaOne_L1, k_law11_SemaOne_L1b, w1, w2, w3, w4, h0, h1, h2, h3]
set_option maxHeartbeats 8000000 in
theorem so_step_take (nl : Bool) (l : List (Int × Int × Int)) (i : Int) (h0 : 0 ≤ i) (hli : i < l.length) (x : Int × Int × Int) (hget : ∀ hh : i.toNat < l.length, l[i.toNat] = x) (hw : IntKind.i64.wrap (i + 1) = i + 1)
    (ho : x.1.tmod 4 = 0 ∨ x.1.tmod 4 = 1) (s t : Int) (hs : IntKind.i64.wrap (x.2.1.tmod 5) = s) (ht : IntKind.i64.wrap (x.2.2.tmod 3) = t) (hs5 : s = 0 ∨ s = 1 ∨ s = 2 ∨ s = 3 ∨ s = 4) (a b c d : Int) :
    ∃ a' b' c' d', run kp (.loop [0, 3, 4, 5] k_law11_SemaOne_L0 (soSt nl l a b c d [] i)) = run kp (.loop [0, 3, 4, 5] k_law11_SemaOne_L0 (soSt nl l a' b' c' d' [] (i + 1))) := by
  have tk := sema_Take false (fourS a b c d) (by simp) (by simp [fourS]) s t
  have ck := fun a b c d => so_check nl l a b c d i
  simp only [soSt, fourS, List.map, Sema.d, List.cons_append, List.nil_append] at ck
  obtain ⟨o, p, q⟩ := x
  simp only at ho hs ht
  rcases hs5 with rfl | rfl | rfl | rfl | rfl
  · by_cases hz : a = 0
    · refine ⟨IntKind.i64.wrap (t + 1), b, c, d, ?_⟩
      simp [takeS, semaAt, fourS, hz, Sema.d] at tk
      rw [run_round]
      rcases ho with ho | ho <;> simp [c_law11_SemaOne_L0, k_law11_SemaOne_L0b, soSt, fourS, h0, hli, hget, hw, oneD, ho, hs, ht, tk, ck, Sema.d, hz]
    · refine ⟨a, b, c, d, ?_⟩
      simp [takeS, semaAt, fourS, hz, Sema.d] at tk
      rw [run_round]
      rcases ho with ho | ho <;> simp [c_law11_SemaOne_L0, k_law11_SemaOne_L0b, soSt, fourS, h0, hli, hget, hw, oneD, ho, hs, ht, tk, ck, Sema.d, hz]
  · by_cases hz : b = 0
    · refine ⟨a, IntKind.i64.wrap (t + 1), c, d, ?_⟩
      simp [takeS, semaAt, fourS, hz, Sema.d] at tk
      rw [run_round]
      rcases ho with ho | ho <;> simp [c_law11_SemaOne_L0, k_law11_SemaOne_L0b, soSt, fourS, h0, hli, hget, hw, oneD, ho, hs, ht, tk, ck, Sema.d, hz]
    · refine ⟨a, b, c, d, ?_⟩
      simp [takeS, semaAt, fourS, hz, Sema.d] at tk
      rw [run_round]
      rcases ho with ho | ho <;> simp [c_law11_SemaOne_L0, k_law11_SemaOne_L0b, soSt, fourS, h0, hli, hget, hw, oneD, ho, hs, ht, tk, ck, Sema.d, hz]
  · by_cases hz : c = 0
    · refine ⟨a, b, IntKind.i64.wrap (t + 1), d, ?_⟩
      simp [takeS, semaAt, fourS, hz, Sema.d] at tk
      rw [run_round]
      rcases ho with ho | ho <;> simp [c_law11_SemaOne_L0, k_law11_SemaOne_L0b, soSt, fourS, h0, hli, hget, hw, oneD, ho, hs, ht, tk, ck, Sema.d, hz]
    · refine ⟨a, b, c, d, ?_⟩
      simp [takeS, semaAt, fourS, hz, Sema.d] at tk
      rw [run_round]
      rcases ho with ho | ho <;> simp [c_law11_SemaOne_L0, k_law11_SemaOne_L0b, soSt, fourS, h0, hli, hget, hw, oneD, ho, hs, ht, tk, ck, Sema.d, hz]
  · by_cases hz : d = 0
    · refine ⟨a, b, c, IntKind.i64.wrap (t + 1), ?_⟩
      simp [takeS, semaAt, fourS, hz, Sema.d] at tk
      rw [run_round]
      rcases ho with ho | ho <;> simp [c_law11_SemaOne_L0, k_law11_SemaOne_L0b, soSt, fourS, h0, hli, hget, hw, oneD, ho, hs, ht, tk, ck, Sema.d, hz]
    · refine ⟨a, b, c, d, ?_⟩
      simp [takeS, semaAt, fourS, hz, Sema.d] at tk
      rw [run_round]
      rcases ho with ho | ho <;> simp [c_law11_SemaOne_L0, k_law11_SemaOne_L0b, soSt, fourS, h0, hli, hget, hw, oneD, ho, hs, ht, tk, ck, Sema.d, hz]
  · refine ⟨a, b, c, d, ?_⟩
    simp [takeS, semaAt, fourS, Sema.d] at tk
    rw [run_round]
    rcases ho with ho | ho <;> simp [c_law11_SemaOne_L0, k_law11_SemaOne_L0b, soSt, fourS, h0, hli, hget, hw, oneD, ho, hs, ht, tk, ck, Sema.d]
set_option maxHeartbeats 8000000 in
theorem so_step_let (nl : Bool) (l : List (Int × Int × Int)) (i : Int) (h0 : 0 ≤ i) (hli : i < l.length) (x : Int × Int × Int) (hget : ∀ hh : i.toNat < l.length, l[i.toNat] = x) (hw : IntKind.i64.wrap (i + 1) = i + 1)
    (ho : x.1.tmod 4 = 2) (s t : Int) (hs : IntKind.i64.wrap (x.2.1.tmod 5) = s) (ht : IntKind.i64.wrap (x.2.2.tmod 3) = t) (hs5 : s = 0 ∨ s = 1 ∨ s = 2 ∨ s = 3 ∨ s = 4) (t0 : 0 ≤ t) (a b c d : Int) :
    ∃ a' b' c' d', run kp (.loop [0, 3, 4, 5] k_law11_SemaOne_L0 (soSt nl l a b c d [] i)) = run kp (.loop [0, 3, 4, 5] k_law11_SemaOne_L0 (soSt nl l a' b' c' d' [] (i + 1))) := by
  have tk := sema_Let false (fourS a b c d) (by simp) (by simp [fourS]) s t t0
  have ck := fun a b c d => so_check nl l a b c d i
  simp only [soSt, fourS, List.map, Sema.d, List.cons_append, List.nil_append] at ck
  obtain ⟨o, p, q⟩ := x
  simp only at ho hs ht
  rcases hs5 with rfl | rfl | rfl | rfl | rfl
  · by_cases hz : a = IntKind.i64.wrap (t + 1)
    · refine ⟨0, b, c, d, ?_⟩
      simp [letS, semaAt, fourS, hz, Sema.d] at tk
      rw [run_round]
      simp [c_law11_SemaOne_L0, k_law11_SemaOne_L0b, soSt, fourS, h0, hli, hget, hw, oneD, ho, hs, ht, tk, ck, Sema.d, hz]
    · refine ⟨a, b, c, d, ?_⟩
      simp [letS, semaAt, fourS, hz, Sema.d] at tk
      rw [run_round]
      simp [c_law11_SemaOne_L0, k_law11_SemaOne_L0b, soSt, fourS, h0, hli, hget, hw, oneD, ho, hs, ht, tk, ck, Sema.d, hz]
  · by_cases hz : b = IntKind.i64.wrap (t + 1)
    · refine ⟨a, 0, c, d, ?_⟩
      simp [letS, semaAt, fourS, hz, Sema.d] at tk
      rw [run_round]
      simp [c_law11_SemaOne_L0, k_law11_SemaOne_L0b, soSt, fourS, h0, hli, hget, hw, oneD, ho, hs, ht, tk, ck, Sema.d, hz]
    · refine ⟨a, b, c, d, ?_⟩
      simp [letS, semaAt, fourS, hz, Sema.d] at tk
      rw [run_round]
      simp [c_law11_SemaOne_L0, k_law11_SemaOne_L0b, soSt, fourS, h0, hli, hget, hw, oneD, ho, hs, ht, tk, ck, Sema.d, hz]
  · by_cases hz : c = IntKind.i64.wrap (t + 1)
    · refine ⟨a, b, 0, d, ?_⟩
      simp [letS, semaAt, fourS, hz, Sema.d] at tk
      rw [run_round]
      simp [c_law11_SemaOne_L0, k_law11_SemaOne_L0b, soSt, fourS, h0, hli, hget, hw, oneD, ho, hs, ht, tk, ck, Sema.d, hz]
    · refine ⟨a, b, c, d, ?_⟩
      simp [letS, semaAt, fourS, hz, Sema.d] at tk
      rw [run_round]
      simp [c_law11_SemaOne_L0, k_law11_SemaOne_L0b, soSt, fourS, h0, hli, hget, hw, oneD, ho, hs, ht, tk, ck, Sema.d, hz]
  · by_cases hz : d = IntKind.i64.wrap (t + 1)
    · refine ⟨a, b, c, 0, ?_⟩
      simp [letS, semaAt, fourS, hz, Sema.d] at tk
      rw [run_round]
      simp [c_law11_SemaOne_L0, k_law11_SemaOne_L0b, soSt, fourS, h0, hli, hget, hw, oneD, ho, hs, ht, tk, ck, Sema.d, hz]
    · refine ⟨a, b, c, d, ?_⟩
      simp [letS, semaAt, fourS, hz, Sema.d] at tk
      rw [run_round]
      simp [c_law11_SemaOne_L0, k_law11_SemaOne_L0b, soSt, fourS, h0, hli, hget, hw, oneD, ho, hs, ht, tk, ck, Sema.d, hz]
  · refine ⟨a, b, c, d, ?_⟩
    simp [letS, semaAt, fourS, Sema.d] at tk
    rw [run_round]
    simp [c_law11_SemaOne_L0, k_law11_SemaOne_L0b, soSt, fourS, h0, hli, hget, hw, oneD, ho, hs, ht, tk, ck, Sema.d]
set_option maxHeartbeats 8000000 in
theorem so_step_all (nl : Bool) (l : List (Int × Int × Int)) (i : Int) (h0 : 0 ≤ i) (hli : i < l.length) (x : Int × Int × Int) (hget : ∀ hh : i.toNat < l.length, l[i.toNat] = x) (hw : IntKind.i64.wrap (i + 1) = i + 1)
    (ho : x.1.tmod 4 = 3) (s t : Int) (hs : IntKind.i64.wrap (x.2.1.tmod 5) = s) (ht : IntKind.i64.wrap (x.2.2.tmod 3) = t) (t0 : 0 ≤ t) (a b c d : Int) :
    ∃ a' b' c' d', run kp (.loop [0, 3, 4, 5] k_law11_SemaOne_L0 (soSt nl l a b c d [] i)) = run kp (.loop [0, 3, 4, 5] k_law11_SemaOne_L0 (soSt nl l a' b' c' d' [] (i + 1))) := by
  have tk := sema_All false (fourS a b c d) (by simp) (by simp [fourS]) t t0
  have ck := fun a b c d => so_check nl l a b c d i
  have fr := so_free nl l (fr t a) (fr t b) (fr t c) (fr t d) a b c d t i
  have e : (fourS a b c d).map (freeS t) = fourS (Cd.fr t a) (Cd.fr t b) (Cd.fr t c) (Cd.fr t d) := by
    have : ∀ y, freeS t ⟨0, y⟩ = ⟨0, Cd.fr t y⟩ := by
      intro y; simp only [freeS, Cd.fr]; split <;> rfl
    simp [fourS, this]
  rw [e] at tk
  simp only [soSt, soSt1, fourS, List.map, Sema.d, List.cons_append, List.nil_append] at ck fr tk
  obtain ⟨o, p, q⟩ := x
  simp only at ho hs ht
  refine ⟨Cd.fr t a, Cd.fr t b, Cd.fr t c, Cd.fr t d, ?_⟩
  rw [run_round]
  simp [c_law11_SemaOne_L0, k_law11_SemaOne_L0b, soSt, fourS, h0, hli, hget, hw, oneD, ho, hs, ht, tk, ck, Sema.d, fr]
end Go.Cd
