/- The law CodeBack, as the evaluator has it. No conditions. -/
import Derived.Test.YteamehchfnccmaaR4QCodeW
set_option linter.unusedVariables false
set_option linter.unusedSimpArgs false
namespace Go.Cd
open Go Go.Fw
theorem take_u8b (l : List Int) : List.take l.length (List.map u8d l) = List.map u8d l := List.take_of_length_le (by simp)
theorem take_no {b : List Int} (hb : bytesOk b) (h : ∀ k : Nat, b[0]? = some (k : Int) → b.length ≠ 1 + 7 * k) : takeR b = [.sl true [], .bool false] := by
  unfold takeR
  cases ho : takeO b with
  | none => rfl
  | some l =>
    obtain ⟨k, h1, h2, _⟩ := (takeO_iff hb l).1 ho
    exact absurd h1 (h k h2)
set_option maxRecDepth 10000 in
set_option maxHeartbeats 16000000 in
theorem back_run (A : List D) (an : Bool) (hA : NumOk A 0) (ha : A.length ≤ 80) (cut more : Int) (hcut : 0 ≤ cut ∧ cut < 256) (hmore : 0 ≤ more ∧ more < 256) :
    ∃ u k, run kp (.call f_law5_CodeBack [.d (.sl an A), .int .u8 cut, .int .u8 more] (fun _ => none) 0) = some (.val (.bool true) u k) := by
  have k1 := keep_wildNx A 0
  have l1 : ¬ (80 : Int) < A.length := by omega
  obtain ⟨c, e1⟩ := wildL_put hA
  have p1 := code_Put (wildL A 0) false
  unfold putD at p1
  simp only [e1] at p1
  have wl := wildL_len hA
  have hc := putB_ok e1
  have tp := take_put e1
  obtain ⟨ec, _, _⟩ := bytes_of e1
  have len : c.length = 1 + 7 * (wildL A 0).length := by rw [ec]; simp [bytesB_len]; omega
  have h0 : c[0]? = some ((wildL A 0).length : Int) := by rw [ec]; rfl
  have t1 := code_Take c hc false (by omega)
  have r1 : takeR c = [rowI (wildL A 0), .bool true] := by unfold takeR; rw [tp]
  rw [r1] at t1
  have wc : IntKind.i64.wrap cut = cut := wrap_i64 (by omega) (by omega)
  obtain ⟨j, hj⟩ : ∃ j : Nat, cut.tmod (c.length : Int) = (j : Int) := by
    refine ⟨(cut.tmod c.length).toNat, ?_⟩
    rw [Int.tmod_eq_emod_of_nonneg hcut.1]
    have := Int.emod_nonneg cut (show (c.length : Int) ≠ 0 by omega)
    omega
  have hjl : j < c.length := by
    rw [Int.tmod_eq_emod_of_nonneg hcut.1] at hj
    have := Int.emod_lt_of_pos cut (show (0 : Int) < (c.length : Int) by omega)
    omega
  have wj : IntKind.i64.wrap (j : Int) = (j : Int) := wrap_i64 (by omega) (by omega)
  have hbs : bytesOk (c.take j) := fun x hx => hc x (List.mem_of_mem_take hx)
  have t2 := code_Take (c.take j) hbs false (by simp; omega)
  have r2 : takeR (c.take j) = [.sl true [], .bool false] := take_no hbs (fun k hk h => by
    rw [List.length_take] at h
    rw [List.getElem?_take] at hk
    split at hk
    · rw [h0] at hk
      injection hk with hk
      omega
    · cases hk)
  rw [r2, List.map_take] at t2
  have hbl : bytesOk (c ++ [more]) := fun x hx => by
    rcases List.mem_append.1 hx with hx | hx
    · exact hc x hx
    · simp at hx; subst hx; exact hmore
  have t3 := code_Take (c ++ [more]) hbl false (by simp; omega)
  have r3 : takeR (c ++ [more]) = [.sl true [], .bool false] := take_no hbl (fun k hk h => by
    rw [List.length_append] at h
    rw [List.getElem?_append_left (by omega), h0] at hk
    injection hk with hk
    simp only [List.length_cons, List.length_nil] at h
    omega)
  rw [r3, List.map_append] at t3
  have hne : ∃ z r, c = z :: r := ⟨_, _, ec⟩
  have lenI : (c.length : Int) = 1 + 7 * ((wildL A 0).length : Int) := by omega
  obtain ⟨y, W, hW⟩ : ∃ y W, wildL A 0 = y :: W := by
    cases h : wildL A 0 with
    | nil => rw [h] at wl; simp at wl
    | cons y W => exact ⟨y, W, rfl⟩
  have sc := same_self (wildL A 0) false false (by omega)
  have w7 : IntKind.i64.wrap (7 * ((wildL A 0).length : Int)) = 7 * ((wildL A 0).length : Int) := wrap_i64 (by omega) (by omega)
  have w8 : IntKind.i64.wrap (1 + 7 * ((wildL A 0).length : Int)) = 1 + 7 * ((wildL A 0).length : Int) := wrap_i64 (by omega) (by omega)
  have q1 : c.length ≤ 1073741822 := by omega
  have q2 : c.length ≤ 1073741823 := by omega
  have q3 : c.length ≤ 1073741824 := by omega
  have hjl2 : (j : Int) ≤ (c.length : Int) := by omega
  have hjl3 : j ≤ c.length := by omega
  have clne : ¬ c.length = 0 := by omega
  have clnz : ¬ (1 + 7 * ((wildL A 0).length : Int) = 0) := by omega
  have rne : rowI (wildL A 0) = .sl false ((wildL A 0).map Inst.d) := by unfold rowI; rw [hW]; rfl
  rw [rne] at t1
  have u8m : u8d more = .int .u8 more := rfl
  simp only [List.map_cons, List.map_nil, u8m] at t3
  rw [lenI] at hj hjl2
  have wm : IntKind.u8.wrap more = more := by rw [IntKind.wrap_u8]; omega
  have t4 : List.take (c.length + 1) (List.map u8d c ++ [D.int .u8 more]) = List.map u8d c ++ [D.int .u8 more] := List.take_of_length_le (by simp)
  refine ⟨[], 0, ?_⟩
  rw [run_call, kp_law5_CodeBack]
  simp [k_law5_CodeBack, canK_canH, code_begun, l1, t4, made_call, wild_call, wr_in, hputs_append, k1, hA, p1, sc, take_map_lenP, take_u8b, lenI, w7, w8, t1, t2, t3, wc, hj, hjl2, hjl3, wj, clnz, q1, q2, q3]
set_option maxHeartbeats 8000000 in
theorem law2_CodeBack (xs : List D) (h : Sh.hasL [.sl (.i .u8), .i .u8, .i .u8] xs) : ∃ u k, run kp (.call f_law5_CodeBack (xs.map ofD) (fun _ => none) 0) = some (.val (.bool true) u k) := by
  obtain ⟨x1, _, rfl, h1, h⟩ := hasL_cons h
  obtain ⟨x2, _, rfl, h2, h⟩ := hasL_cons h
  obtain ⟨x3, _, rfl, h3, h⟩ := hasL_cons h
  obtain rfl := hasL_nil h
  obtain ⟨an, A, rfl, p1, p2⟩ := has_picks h1
  obtain ⟨cut, rfl, k2⟩ := has_int h2
  obtain ⟨more, rfl, k3⟩ := has_int h3
  by_cases g : A.length ≤ 80
  · exact back_run A an ⟨by omega, by omega, by omega, p2⟩ g cut more (wf_u8 k2) (wf_u8 k3)
  · refine ⟨[], 0, ?_⟩
    rw [run_call, kp_law5_CodeBack]
    have g1 : (80 : Int) < A.length := by omega
    simp [k_law5_CodeBack, canK_canH, code_begun, g1]
end Go.Cd
