/- The law CodeAll, as the evaluator has it. No conditions. -/
import Derived.Test.YteamehchfnccmaaR4QCodeW
set_option linter.unusedVariables false
set_option linter.unusedSimpArgs false
namespace Go.Cd
open Go Go.Fw
theorem take_u8b (l : List Int) : List.take l.length (List.map u8d l) = List.map u8d l := List.take_of_length_le (by simp)
theorem putD_cases (L : List Inst) : (putD L = .sl true []) ∨ ∃ b : List Int, putD L = .sl false (b.map u8d) := by
  unfold putD
  cases putB L with
  | none => exact .inl rfl
  | some b => exact .inr ⟨b, rfl⟩
theorem takeR_cases (b : List Int) : (takeR b = [.sl true [], .bool false]) ∨ ∃ l : List Inst, l.length ≤ 24 ∧ takeR b = [.sl l.isEmpty (l.map Inst.d), .bool true] := by
  unfold takeR takeO putB
  split
  · rename_i l h
    split at h
    · rename_i c hc
      split at h
      · injection h with h
        split at hc
        · rename_i g
          exact .inr ⟨l, by rw [← h]; exact g.1, rfl⟩
        · cases hc
      · cases h
    · cases h
  · exact .inl rfl
set_option maxRecDepth 10000 in
set_option maxHeartbeats 64000000 in
theorem all_run (i : Inst) (L : List Inst) (nl : Bool) (hL : L.length ≤ 30) (A : List D) (an : Bool) (hA : NumOk A 0) (ha : A.length ≤ 80) (b : List Int) (bn : Bool) (hb : bytesOk b) (hbl : b.length ≤ 100) :
    ∃ u k, run kp (.call f_law5_CodeAll [.d i.d, .d (.sl nl (L.map Inst.d)), .d (.sl an A), .d (.sl bn (b.map u8d))] (fun _ => none) 0) = some (.val (.bool true) u k) := by
  have k1 := keep_wildNx A 0
  have k2 := keep_codeNx A 0 3
  have l1 : ¬ (30 : Int) < L.length := by omega
  have l2 : ¬ (80 : Int) < A.length := by omega
  have l3 : ¬ (100 : Int) < b.length := by omega
  have m1 := code_May i
  have m2 := ref1_MayInst i
  have p1 := code_Put L nl
  have p2 := ref1_PutCode L nl
  have p3 := code_Put (codeL A 0 3) false
  have p4 := ref1_PutCode (codeL A 0 3) false
  have p5 := code_Put (wildL A 0) false
  have p6 := ref1_PutCode (wildL A 0) false
  have t1 := code_Take b hb bn (by omega)
  have t2 := ref1_TakeCode b hb bn (by omega)
  have c1 := putD_cases L
  have c2 := putD_cases (codeL A 0 3)
  have c3 := putD_cases (wildL A 0)
  have c4 := takeR_cases b
  generalize putD L = d1 at *
  generalize putD (codeL A 0 3) = d2 at *
  generalize putD (wildL A 0) = d3 at *
  generalize takeR b = d4 at *
  refine ⟨[], 0, ?_⟩
  rw [run_call, kp_law5_CodeAll]
  obtain ⟨op, a, bb, n⟩ := i
  simp only [Inst.d] at m1 m2
  have s0 := fun n m => same_self [] n m (by simp)
  simp only [List.map_nil] at s0
  rcases c4 with rfl | ⟨l4, hl4, rfl⟩
  · rcases c1 with rfl | ⟨b1, rfl⟩ <;> rcases c2 with rfl | ⟨b2, rfl⟩ <;> rcases c3 with rfl | ⟨b3, rfl⟩
    all_goals simp [k_law5_CodeAll, canK_canH, code_begun, l1, l2, l3, made_call, wild_call, code_call, wr_in, hputs_append, k1, k2, hA, m1, m2, p1, p2, p3, p4, p5, p6, t1, t2, s0, Inst.d, take_map_lenP, take_u8b, bytesOf_u8, bytesOf]
  · cases l4 with
    | nil =>
      simp only [List.map_nil] at t1 t2
      rcases c1 with rfl | ⟨b1, rfl⟩ <;> rcases c2 with rfl | ⟨b2, rfl⟩ <;> rcases c3 with rfl | ⟨b3, rfl⟩
      all_goals simp [k_law5_CodeAll, canK_canH, code_begun, l1, l2, l3, made_call, wild_call, code_call, wr_in, hputs_append, k1, k2, hA, m1, m2, p1, p2, p3, p4, p5, p6, t1, t2, s0, Inst.d, take_map_lenP, take_u8b, bytesOf_u8, bytesOf]
    | cons x l4 =>
      have sx := same_self (x :: l4) false false (by omega)
      simp only [List.map_cons, List.isEmpty_cons] at t1 t2 sx
      simp only [Inst.d] at sx
      rcases c1 with rfl | ⟨b1, rfl⟩ <;> rcases c2 with rfl | ⟨b2, rfl⟩ <;> rcases c3 with rfl | ⟨b3, rfl⟩
      all_goals simp [k_law5_CodeAll, canK_canH, code_begun, l1, l2, l3, made_call, wild_call, code_call, wr_in, hputs_append, k1, k2, hA, m1, m2, p1, p2, p3, p4, p5, p6, t1, t2, sx, Inst.d, take_map_lenP, take_u8b, bytesOf_u8, bytesOf]
def instSh : Sh := .st [.i .i64, .i .i64, .i .i64, .i .i64]
theorem has_inst {x : D} (h : Sh.has instSh x) : ∃ i : Inst, x = i.d := by
  obtain ⟨l, rfl, h⟩ := has_st h
  obtain ⟨a, _, rfl, h1, h⟩ := hasL_cons h
  obtain ⟨b, _, rfl, h2, h⟩ := hasL_cons h
  obtain ⟨c, _, rfl, h3, h⟩ := hasL_cons h
  obtain ⟨d, _, rfl, h4, h⟩ := hasL_cons h
  obtain rfl := hasL_nil h
  obtain ⟨a, rfl, k1⟩ := has_int h1
  obtain ⟨b, rfl, k2⟩ := has_int h2
  obtain ⟨c, rfl, k3⟩ := has_int h3
  obtain ⟨d, rfl, k4⟩ := has_int h4
  exact ⟨⟨a, b, c, d⟩, rfl⟩
theorem has_insts {x : D} (h : Sh.has (.sl instSh) x) : ∃ (nl : Bool) (l : List Inst), x = .sl nl (l.map Inst.d) := by
  obtain ⟨nl, l, rfl, h1, h2, h3⟩ := has_sl h
  obtain ⟨m, rfl, hm⟩ := all_typed (f := Inst.d) (p := fun _ => True) (fun y hy => by obtain ⟨r, hr⟩ := has_inst hy; exact ⟨r, hr, trivial⟩) l h3
  exact ⟨nl, m, rfl⟩
set_option maxHeartbeats 8000000 in
theorem law2_CodeAll (xs : List D) (h : Sh.hasL [instSh, .sl instSh, .sl (.i .u8), .sl (.i .u8)] xs) : ∃ u k, run kp (.call f_law5_CodeAll (xs.map ofD) (fun _ => none) 0) = some (.val (.bool true) u k) := by
  obtain ⟨x1, _, rfl, h1, h⟩ := hasL_cons h
  obtain ⟨x2, _, rfl, h2, h⟩ := hasL_cons h
  obtain ⟨x3, _, rfl, h3, h⟩ := hasL_cons h
  obtain ⟨x4, _, rfl, h4, h⟩ := hasL_cons h
  obtain rfl := hasL_nil h
  obtain ⟨i, rfl⟩ := has_inst h1
  obtain ⟨nl, L, rfl⟩ := has_insts h2
  obtain ⟨an, A, rfl, p1, p2⟩ := has_picks h3
  obtain ⟨bn, b, rfl, q⟩ := has_bytes h4
  by_cases g : L.length ≤ 30 ∧ A.length ≤ 80 ∧ b.length ≤ 100
  · exact all_run i L nl g.1 A an ⟨by omega, by omega, by omega, p2⟩ g.2.1 b bn q g.2.2
  · refine ⟨[], 0, ?_⟩
    rw [run_call, kp_law5_CodeAll]
    by_cases g1 : (30 : Int) < L.length
    · simp [k_law5_CodeAll, canK_canH, code_begun, Inst.d, g1]
    by_cases g2 : (80 : Int) < A.length
    · simp [k_law5_CodeAll, canK_canH, code_begun, Inst.d, g1, g2]
    have g3 : (100 : Int) < b.length := by omega
    simp [k_law5_CodeAll, canK_canH, code_begun, Inst.d, g1, g2, g3]
end Go.Cd
