/- The law CodeTurned, as the evaluator has it. No conditions. -/
import Derived.Test.YteamehchfnccmaaR4QCodeW
set_option linter.unusedVariables false
set_option linter.unusedSimpArgs false
namespace Go.Cd
open Go Go.Fw
theorem take_u8b (l : List Int) : List.take l.length (List.map u8d l) = List.map u8d l := List.take_of_length_le (by simp)
theorem takeR_cases (b : List Int) : (takeR b = [.sl true [], .bool false]) ∨ ∃ l : List Inst, l.length ≤ 24 ∧ takeR b = [.sl l.isEmpty (l.map Inst.d), .bool true] := by
  unfold takeR takeO putB
  split
  · rename_i l h
    split at h
    · rename_i c hc
      split at h
      · injection h with h
        split at hc
        · rename_i g
          exact .inr ⟨l, by rw [← h]; exact g.1, rfl⟩
        · cases hc
      · cases h
    · cases h
  · exact .inl rfl
def tuSt (a w : List Int) (b : List Int) (i : Nat) (ex : List (Nat × V)) : St :=
  { env := [(4, .ptr 0 []), (5, .ptr 1 []), (7, .sl false 2 0 b.length), (8, .int .i64 (i : Int))] ++ ex, hp := [(0, .box (.d (.agg (a.map u8d)))), (1, .box (.d (.agg (w.map u8d)))), (2, .row true (b.map u8d))], tl := fun _ => none, base := 0, next := 3 }
theorem bytesOk_set {b : List Int} {k : Nat} {w : Int} (hb : bytesOk b) (hw : 0 ≤ w ∧ w < 256) : bytesOk (b.set k w) := fun x hx => by
  rcases List.mem_or_eq_of_mem_set hx with h | h
  · exact hb x h
  · subst h; exact hw
set_option maxRecDepth 10000 in
set_option maxHeartbeats 32000000 in
theorem turned_round (a w : List Int) (ha : a.length = 3) (hw : w.length = 3) (oa : bytesOk a) (ow : bytesOk w) (b : List Int) (hb : bytesOk b) (h1 : 0 < b.length) (h2 : b.length ≤ 1000) (i : Nat) (hi : i < 3) :
    ∃ b' : List Int, bytesOk b' ∧ b'.length = b.length ∧ run kp (.loop [4, 5, 7, 8] k_law5_CodeTurned_L0 (tuSt a w b i [])) = run kp (.loop [4, 5, 7, 8] k_law5_CodeTurned_L0 (tuSt a w b' (i + 1) [])) := by
  obtain ⟨x, hx⟩ : ∃ x, a[i]? = some x := ⟨_, List.getElem?_eq_getElem (by omega)⟩
  obtain ⟨y, hy⟩ : ∃ x, w[i]? = some x := ⟨_, List.getElem?_eq_getElem (by omega)⟩
  have hx2 : ∀ hh : i < a.length, a[i] = x := fun hh => by rw [List.getElem?_eq_getElem hh] at hx; injection hx
  have hy2 : ∀ hh : i < w.length, w[i] = y := fun hh => by rw [List.getElem?_eq_getElem hh] at hy; injection hy
  have ox := oa x (List.mem_of_getElem? hx)
  have oy := ow y (List.mem_of_getElem? hy)
  have wx : IntKind.i64.wrap x = x := wrap_i64 (by omega) (by omega)
  have wi : IntKind.i64.wrap ((i : Int) + 1) = ((i + 1 : Nat) : Int) := by rw [wrap_i64 (by omega) (by omega)]; omega
  have p : (i : Int) < 3 := by omega
  obtain ⟨j, hj⟩ : ∃ j : Nat, x.tmod (b.length : Int) = (j : Int) := by
    refine ⟨(x.tmod b.length).toNat, ?_⟩
    rw [Int.tmod_eq_emod_of_nonneg ox.1]
    have := Int.emod_nonneg x (show (b.length : Int) ≠ 0 by omega)
    omega
  have hjl : j < b.length := by
    rw [Int.tmod_eq_emod_of_nonneg ox.1] at hj
    have := Int.emod_lt_of_pos x (show (0 : Int) < (b.length : Int) by omega)
    omega
  have wj : IntKind.i64.wrap (j : Int) = (j : Int) := wrap_i64 (by omega) (by omega)
  have hb' := bytesOk_set (k := j) hb oy
  have t1 := code_Take (b.set j y) hb' false (by simp; omega)
  have t2 := ref1_TakeCode (b.set j y) hb' false (by simp; omega)
  have c4 := takeR_cases (b.set j y)
  generalize takeR (b.set j y) = d4 at *
  have ms : (b.map u8d).set j (.int .u8 y) = (b.set j y).map u8d := by rw [List.map_set]; rfl
  have tk : List.take b.length ((b.set j y).map u8d) = (b.set j y).map u8d := List.take_of_length_le (by simp)
  have e8 : ∀ x, u8d x = .int .u8 x := fun _ => rfl
  refine ⟨b.set j y, hb', by simp, ?_⟩
  have ln : (b.set j y).length = b.length := by simp
  have hjl2 : (j : Int) < (b.length : Int) := by omega
  have bz : ¬ ((b.length : Int) = 0) := by omega
  have s0 := fun n m => same_self [] n m (by simp)
  simp only [List.map_nil] at s0
  have i3 : i < a.length := by omega
  have i4 : i < w.length := by omega
  generalize b.set j y = B at *
  generalize hL : b.length = L at *
  have bz2 : ¬ L = 0 := by omega
  generalize i + 1 = i' at *
  rw [run_round]
  rcases c4 with rfl | ⟨l4, hl4, rfl⟩
  · simp [c_law5_CodeTurned_L0, k_law5_CodeTurned_L0b, tuSt, ln, ha, hw, hL, hi, i3, i4, p, wi, hx, hy, hx2, hy2, wx, hj, hjl, hjl2, bz, bz2, ms, tk, e8, t1, t2, s0]
  · cases l4 with
    | nil =>
      simp only [List.map_nil] at t1 t2
      simp [c_law5_CodeTurned_L0, k_law5_CodeTurned_L0b, tuSt, ln, ha, hw, hL, hi, i3, i4, p, wi, hx, hy, hx2, hy2, wx, hj, hjl, hjl2, bz, bz2, ms, tk, e8, t1, t2, s0]
    | cons z l4 =>
      have sx := same_self (z :: l4) false false (by omega)
      simp only [List.map_cons, List.isEmpty_cons] at t1 t2 sx
      simp [c_law5_CodeTurned_L0, k_law5_CodeTurned_L0b, tuSt, ln, ha, hw, hL, hi, i3, i4, p, wi, hx, hy, hx2, hy2, wx, hj, hjl, hjl2, bz, bz2, ms, tk, e8, t1, t2, sx, take_map_lenP]
set_option maxRecDepth 10000 in
set_option maxHeartbeats 16000000 in
theorem turned_run (A : List D) (an : Bool) (hA : NumOk A 0) (hal : A.length ≤ 80) (a w : List Int) (ha : a.length = 3) (hw : w.length = 3) (oa : bytesOk a) (ow : bytesOk w) :
    ∃ u k, run kp (.call f_law5_CodeTurned [.d (.sl an A), .d (.agg (a.map u8d)), .d (.agg (w.map u8d))] (fun _ => none) 0) = some (.val (.bool true) u k) := by
  have k1 := keep_wildNx A 0
  have l1 : ¬ (80 : Int) < A.length := by omega
  obtain ⟨c, e1⟩ := wildL_put hA
  have p1 := ref1_PutCode (wildL A 0) false
  unfold putD at p1
  simp only [e1] at p1
  have wl := wildL_len hA
  have hc := putB_ok e1
  obtain ⟨ec, _, _⟩ := bytes_of e1
  have len : c.length = 1 + 7 * (wildL A 0).length := by rw [ec]; simp [bytesB_len]; omega
  obtain ⟨b1, o1, n1, r1⟩ := turned_round a w ha hw oa ow c hc (by omega) (by omega) 0 (by omega)
  obtain ⟨b2, o2, n2, r2⟩ := turned_round a w ha hw oa ow b1 o1 (by omega) (by omega) 1 (by omega)
  obtain ⟨b3, o3, n3, r3⟩ := turned_round a w ha hw oa ow b2 o2 (by omega) (by omega) 2 (by omega)
  have r4 : run kp (.loop [4, 5, 7, 8] k_law5_CodeTurned_L0 (tuSt a w b3 3 [])) = some (.out (.ext 0) (tuSt a w b3 3 [(23, .bool false)])) := by
    rw [run_round]
    simp [c_law5_CodeTurned_L0, k_law5_CodeTurned_L0b, tuSt]
  have R := r1.trans (r2.trans (r3.trans r4))
  simp only [tuSt, List.append_nil, List.cons_append, List.nil_append, Int.cast_ofNat_Int] at R
  refine ⟨[], 0, ?_⟩
  rw [run_call, kp_law5_CodeTurned]
  simp [k_law5_CodeTurned, canK_canH, code_begun, l1, made_call, wild_call, wr_in, hputs_append, k1, hA, p1, take_map_lenP, R]
set_option maxHeartbeats 8000000 in
theorem law2_CodeTurned (xs : List D) (h : Sh.hasL [.sl (.i .u8), .ar 3 (.i .u8), .ar 3 (.i .u8)] xs) : ∃ u k, run kp (.call f_law5_CodeTurned (xs.map ofD) (fun _ => none) 0) = some (.val (.bool true) u k) := by
  obtain ⟨x1, _, rfl, h1, h⟩ := hasL_cons h
  obtain ⟨x2, _, rfl, h2, h⟩ := hasL_cons h
  obtain ⟨x3, _, rfl, h3, h⟩ := hasL_cons h
  obtain rfl := hasL_nil h
  obtain ⟨an, A, rfl, p1, p2⟩ := has_picks h1
  have byt : ∀ {l : List D}, (∀ y ∈ l, Sh.has (.i .u8) y) → ∃ b : List Int, l = b.map u8d ∧ bytesOk b := fun {l} h3 => all_typed (f := u8d) (p := fun v => 0 ≤ v ∧ v < 256) (fun y hy => by
    obtain ⟨v, rfl, k⟩ := has_int hy
    exact ⟨v, rfl, wf_u8 k⟩) l h3
  obtain ⟨a, rfl, a1, a2⟩ := has_ar h2
  obtain ⟨w, rfl, w1, w2⟩ := has_ar h3
  obtain ⟨a, rfl, oa⟩ := byt a2
  obtain ⟨w, rfl, ow⟩ := byt w2
  by_cases g : A.length ≤ 80
  · exact turned_run A an ⟨by omega, by omega, by omega, p2⟩ g a w (by simpa using a1) (by simpa using w1) oa ow
  · refine ⟨[], 0, ?_⟩
    rw [run_call, kp_law5_CodeTurned]
    have g1 : (80 : Int) < A.length := by omega
    simp [k_law5_CodeTurned, canK_canH, code_begun, g1]
end Go.Cd
