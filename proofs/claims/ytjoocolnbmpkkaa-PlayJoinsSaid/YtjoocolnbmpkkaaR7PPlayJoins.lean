/- The law PlayJoins, as the evaluator has it. No conditions. -/
import Derived.Test.YtjoocolnbmpkkaaR7QPlB2
set_option linter.unusedVariables false
set_option linter.unusedSimpArgs false
namespace Go.Cd
open Go Go.Fw
set_option maxRecDepth 10000 in
set_option maxHeartbeats 16000000 in
theorem joins_run (n1 n2 : Bool) (b1 b2 : List Int) (h1 : bytesOk b1) (h2 : bytesOk b2) (l1 : b1.length ≤ 100) (l2 : b2.length ≤ 100) :
    ∃ u k, run kp (.call f_law27_PlayJoins [.d (.sl n1 (b1.map u8d)), .d (.sl n2 (b2.map u8d))] (fun _ => none) 0) = some (.val (.bool true) u k) := by
  have g1 : ¬ (100 : Int) < b1.length := by omega
  have g2 : ¬ (100 : Int) < b2.length := by omega
  have d1 := play_dec n1 h1 (by omega)
  have d2 := play_dec n2 h2 (by omega)
  have s1 := dec_good (by omega) h1
  have s2 := dec_good (by omega) h2
  have c1 := dec_lite h1 (by omega)
  have c2 := dec_lite h2 (by omega)
  have k1 := dec_le b1
  have k2 := dec_le b2
  have y1 := dec_size (by omega) h1
  have y2 := dec_size (by omega) h2
  generalize dec b1 = L at *
  generalize dec b2 = M at *
  have s3 := all_app s1 s2
  have c3 := all_app c1 c2
  have e1 := fun nl => play_enc nl (by omega) c1 s1
  have e2 := fun nl => play_enc nl (by omega) c2 s2
  have e3 := fun nl => play_enc nl (by simp; omega) c3 s3
  have ok := ok_app (stBs_ok L) (stBs_ok M)
  have dd : dec (stBs L ++ stBs M) = (L ++ M).map nStep := by
    have := dec_puts s3 []
    rw [List.append_nil, show dec [] = [] from rfl, List.append_nil, stBs_append] at this
    exact this
  have d3 := dec_play ok (by simp; omega)
  have sm := fun n m => same_n n m (by simp; omega) c3 s3
  rw [dd] at d3
  rw [stBs_append] at e3
  clear s1 s2 s3 c1 c2 c3 ok dd h1 h2
  rw [run_call, kp_law27_PlayJoins]
  refine ⟨[], 0, ?_⟩
  cases L with
  | nil =>
    cases M with
    | nil =>
      simp [stBs, rowU, rowS] at d1 d2 e1 e2 e3 d3 sm
      simp [k_law27_PlayJoins, canK_canH, play_begun, g1, g2, d1, d2, e1, e2, e3, d3, sm, rowU, rowS, binV_add_str, bytesOf]
    | cons y M =>
      obtain ⟨z, C, e⟩ := stBs_ne y M
      have q1 := bytes_u8s (z :: C)
      have q2 := u8s_len (z :: C)
      rw [e] at e2 e3 d3 y2
      generalize u8s (z :: C) = U at *
      simp only [List.length_cons] at k1 k2 y1 y2 q2
      have tk := take_u8 C
      have tm := take_map_lenP Sp.d M
      have tn := take_map_lenP (Sp.d ∘ nStep) M
      simp [stBs, rowU, rowS] at d1 d2 e1 e2 e3 d3 sm q1
      have h1 : M.length ≤ 1073741823 := by omega
      have h2 : C.length ≤ 1073741823 := by omega
      have h3 : U.length ≤ 1073741824 := by omega
      simp [k_law27_PlayJoins, canK_canH, play_begun, g1, g2, d1, d2, e1, e2, e3, d3, sm, rowU, rowS, binV_add_str, q1, tk, tm, tn, h1, h2, h3, bytesOf]
  | cons x L =>
    obtain ⟨z', C', e'⟩ := stBs_ne x L
    have q1' := bytes_u8s (z' :: C')
    have q2' := u8s_len (z' :: C')
    rw [e'] at e1 e3 d3 y1
    have tk' := take_u8 C'
    have tm' := take_map_lenP Sp.d L
    have tn' := take_map_lenP (Sp.d ∘ nStep) L
    cases M with
    | nil =>
      generalize u8s (z' :: C') = U at *
      simp only [List.length_cons] at k1 k2 y1 y2 q2'
      simp [stBs, rowU, rowS] at d1 d2 e1 e2 e3 d3 sm q1'
      have h1 : L.length ≤ 1073741823 := by omega
      have h2 : C'.length ≤ 1073741823 := by omega
      have h3 : U.length ≤ 1073741824 := by omega
      simp [k_law27_PlayJoins, canK_canH, play_begun, g1, g2, d1, d2, e1, e2, e3, d3, sm, rowU, rowS, binV_add_str, q1', tk', tm', tn', h1, h2, h3, bytesOf]
    | cons y M =>
      obtain ⟨z, C, e⟩ := stBs_ne y M
      have q1 := bytes_u8s (z :: C)
      have q2 := u8s_len (z :: C)
      have q3 := bytes_u8s (z' :: C' ++ z :: C)
      rw [u8s_append] at q3
      rw [e] at e2 e3 d3 y2
      generalize u8s (z :: C) = U at *
      generalize u8s (z' :: C') = U' at *
      simp only [List.length_cons] at k1 k2 y1 y2 q2 q2'
      have tk := take_u8 C
      have tm := take_map_lenP Sp.d M
      have tn := take_map_lenP (Sp.d ∘ nStep) M
      simp [stBs, rowU, rowS] at d1 d2 e1 e2 e3 d3 sm q1 q1' q3
      have h1 : L.length ≤ 1073741823 := by omega
      have h2 : C'.length ≤ 1073741823 := by omega
      have h3 : U'.length + U.length ≤ 1073741824 := by omega
      have n1 : L.length + 1 + (M.length + 1) = L.length + (M.length + 1) + 1 := by omega
      have n2 : C'.length + 1 + (C.length + 1) = C'.length + (C.length + 1) + 1 := by omega
      have b1 : L.length + (M.length + 1) ≤ 1073741823 := by omega
      have b2 : C'.length + (C.length + 1) ≤ 1073741823 := by omega
      have t1 : List.take (C'.length + (C.length + 1)) (List.map u8d C' ++ u8d z :: List.map u8d C) = List.map u8d C' ++ u8d z :: List.map u8d C := List.take_of_length_le (by simp)
      have t2 : List.take (L.length + (M.length + 1)) (List.map Sp.d L ++ y.d :: List.map Sp.d M) = List.map Sp.d L ++ y.d :: List.map Sp.d M := List.take_of_length_le (by simp)
      have t3 : List.take (L.length + (M.length + 1)) (List.map (Sp.d ∘ nStep) L ++ (nStep y).d :: List.map (Sp.d ∘ nStep) M) = List.map (Sp.d ∘ nStep) L ++ (nStep y).d :: List.map (Sp.d ∘ nStep) M := List.take_of_length_le (by simp)
      simp [k_law27_PlayJoins, canK_canH, play_begun, g1, g2, d1, d2, e1, e2, e3, d3, sm, rowU, rowS, binV_add_str, q1, q1', q3, tk, tm, tn, tk', tm', tn', h1, h2, h3, n1, n2, b1, b2, t1, t2, t3, bytesOf]
set_option maxHeartbeats 8000000 in
theorem law2_PlayJoins (xs : List D) (h : Sh.hasL [.sl (.i .u8), .sl (.i .u8)] xs) : ∃ u k, run kp (.call f_law27_PlayJoins (xs.map ofD) (fun _ => none) 0) = some (.val (.bool true) u k) := by
  obtain ⟨x1, _, rfl, h1, h⟩ := hasL_cons h
  obtain ⟨x2, _, rfl, h2, h⟩ := hasL_cons h
  obtain rfl := hasL_nil h
  obtain ⟨n1, b1, rfl, q1⟩ := has_bytes h1
  obtain ⟨n2, b2, rfl, q2⟩ := has_bytes h2
  by_cases g : b1.length ≤ 100 ∧ b2.length ≤ 100
  · exact joins_run n1 n2 b1 b2 q1 q2 g.1 g.2
  · refine ⟨[], 0, ?_⟩
    rw [run_call, kp_law27_PlayJoins]
    by_cases g1 : (100 : Int) < b1.length
    · simp [k_law27_PlayJoins, canK_canH, play_begun, g1]
    · have g2 : (100 : Int) < b2.length := by omega
      simp [k_law27_PlayJoins, canK_canH, play_begun, g1, g2]
end Go.Cd
