/- The law CodeApart, as the evaluator has it. No conditions. -/
import Derived.Test.YteamehchfnccmaaR4QCodeW
set_option linter.unusedVariables false
set_option linter.unusedSimpArgs false
namespace Go.Cd
open Go Go.Fw
theorem take_u8b (l : List Int) : List.take l.length (List.map u8d l) = List.map u8d l := List.take_of_length_le (by simp)
set_option maxRecDepth 10000 in
set_option maxHeartbeats 16000000 in
theorem apart_run (A B : List D) (an bn : Bool) (hA : NumOk A 0) (hB : NumOk B 0) (ha : A.length ≤ 80) (hb : B.length ≤ 80) :
    ∃ u k, run kp (.call f_law5_CodeApart [.d (.sl an A), .d (.sl bn B)] (fun _ => none) 0) = some (.val (.bool true) u k) := by
  have k1 := keep_wildNx A 0
  have k2 := keep_wildNx B 0
  have l1 : ¬ (80 : Int) < A.length := by omega
  have l2 : ¬ (80 : Int) < B.length := by omega
  obtain ⟨c1, e1⟩ := wildL_put hA
  obtain ⟨c2, e2⟩ := wildL_put hB
  have p1 := code_Put (wildL A 0) false
  have p2 := code_Put (wildL B 0) false
  unfold putD at p1 p2
  simp only [e1, e2] at p1 p2
  have wl := wildL_len hA
  obtain ⟨c, sc, hc⟩ := same_code (wildL A 0) (wildL B 0) false false (by omega)
  have si := str_inj c1 c2 (putB_ok e1) (putB_ok e2)
  have hcc : decide (c1.map (fun n => UInt8.ofNat n.toNat) = c2.map (fun n => UInt8.ofNat n.toNat)) = c := by
    have h : (c1.map (fun n => UInt8.ofNat n.toNat) = c2.map (fun n => UInt8.ofNat n.toNat)) ↔ c = true := by
      rw [si, hc]
      constructor
      · rintro rfl; exact putB_inj e1 e2
      · intro h
        rw [h, e2] at e1
        injection e1 with e1
        exact e1.symm
    cases c with
    | true => simpa using h
    | false => simpa using h
  refine ⟨[], 0, ?_⟩
  rw [run_call, kp_law5_CodeApart]
  simp [k_law5_CodeApart, canK_canH, code_begun, l1, l2, made_call, wild_call, wr_in, hputs_append, k1, k2, hA, hB, p1, p2, sc, take_map_lenP, take_u8b, bytesOf_u8, hcc]
set_option maxHeartbeats 8000000 in
theorem law2_CodeApart (xs : List D) (h : Sh.hasL [.sl (.i .u8), .sl (.i .u8)] xs) : ∃ u k, run kp (.call f_law5_CodeApart (xs.map ofD) (fun _ => none) 0) = some (.val (.bool true) u k) := by
  obtain ⟨x1, _, rfl, h1, h⟩ := hasL_cons h
  obtain ⟨x2, _, rfl, h2, h⟩ := hasL_cons h
  obtain rfl := hasL_nil h
  obtain ⟨an, A, rfl, p1, p2⟩ := has_picks h1
  obtain ⟨bn, B, rfl, q1, q2⟩ := has_picks h2
  by_cases g : A.length ≤ 80 ∧ B.length ≤ 80
  · exact apart_run A B an bn ⟨by omega, by omega, by omega, p2⟩ ⟨by omega, by omega, by omega, q2⟩ g.1 g.2
  · refine ⟨[], 0, ?_⟩
    rw [run_call, kp_law5_CodeApart]
    by_cases g1 : (80 : Int) < A.length
    · simp [k_law5_CodeApart, canK_canH, code_begun, g1]
    have g2 : (80 : Int) < B.length := by omega
    simp [k_law5_CodeApart, canK_canH, code_begun, g1, g2]
end Go.Cd
