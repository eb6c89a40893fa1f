/- Texts of this session in one. No conditions. -/
import Derived.Test.YtfddchjmpmjcfaaGreatR8PTopMarks5
import Derived.Test.YtfddchjmpmjcfaaGreatS5
set_option linter.unusedVariables false
set_option linter.unusedSimpArgs false
namespace Go.Cd
open Go Go.Fw
def l2S (z t : Nat) (L Es : List D) (acc i : Nat) (ext : Env) : St := ⟨[(6, V.sl false 0 0 Es.length), (9, V.int .i64 ((z : Int) + 1)), (10, V.int .i64 (t : Int)), (17, V.d (.sl false L)), (20, V.int .i64 (acc : Int)), (21, V.int .i64 (i : Int))] ++ ext, [(0, Blk.row true Es)], fun _ => none, 0, 1⟩
def KL2m : List Nat := [6, 9, 10, 17, 20, 21]
set_option maxRecDepth 10000 in
set_option maxHeartbeats 8000000 in
theorem l2_round (z t : Nat) (L Es : List D) (acc i e : Nat) (hi : i < Es.length) (hl : Es.length ≤ 100) (he : Es[i]? = some (.int .i64 (e : Int))) : run kp (.loop KL2m k_top_TopMarks_L2 (l2S z t L Es acc i [])) = run kp (.loop KL2m k_top_TopMarks_L2 (l2S z t L Es (if e ≤ t then e else acc) (i + 1) [])) := by
  have w2 : IntKind.i64.wrap ((i : Int) + 1) = ((i + 1 : Nat) : Int) := by rw [wrap_i64 (by omega) (by omega)]; omega
  have he2 : ∀ hh : i < Es.length, Es[i]'hh = .int .i64 (e : Int) := fun hh => by rw [List.getElem?_eq_getElem hh] at he; injection he
  simp only [l2S, KL2m, List.append_nil]
  generalize i + 1 = i' at *
  rw [run_round]
  by_cases c : e ≤ t
  · simp [c_top_TopMarks_L2, k_top_TopMarks_L2b, hi, he, he2, w2, c]
  · simp [c_top_TopMarks_L2, k_top_TopMarks_L2b, hi, he, he2, w2, c]
theorem l2_run (z t : Nat) (L Es : List D) (hl : Es.length ≤ 100) : ∀ (l : List Nat) (n acc i : Nat), Es.drop i = endL n l → i + l.length = Es.length → run kp (.loop KL2m k_top_TopMarks_L2 (l2S z t L Es acc i [])) = some (.out (.ext 4) (l2S z t L Es (lastE t n l acc) Es.length [(135, .bool false)]))
  | [], n, acc, i, _, e => by
    obtain rfl : i = Es.length := by simpa using e
    simp only [l2S, KL2m, lastE, List.append_nil]
    rw [run_round]
    simp [c_top_TopMarks_L2, k_top_TopMarks_L2b]
  | k :: l, n, acc, i, d, e => by
    have hi : i < Es.length := by simp at e; omega
    have he : Es[i]? = some (.int .i64 ((n + (k + 1) : Nat) : Int)) := by
      have : (Es.drop i)[0]? = some (.int .i64 ((n + (k + 1) : Nat) : Int)) := by rw [d]; rfl
      simpa using this
    rw [l2_round z t L Es acc i (n + (k + 1)) hi hl he]
    exact l2_run z t L Es hl l (n + (k + 1)) _ (i + 1) (by rw [← List.drop_drop, d]; rfl) (by simp at e; omega)
def l3S (L : List D) (w : Int) (i : Nat) (ext : Env) : St := ⟨[(17, V.d (.sl false L)), (22, V.int .i64 w), (23, V.int .i64 (i : Int))] ++ ext, [], fun _ => none, 0, 0⟩
def KL3m : List Nat := [17, 22, 23]
set_option maxRecDepth 10000 in
set_option maxHeartbeats 8000000 in
theorem l3_skip (L : List D) (w : Int) (i : Nat) (hi : i < L.length) (hl : L.length ≤ 1000000) (e : D) (he : L[i]? = some e) (hn : nd e) : run kp (.loop KL3m k_top_TopMarks_L3 (l3S L w i [])) = run kp (.loop KL3m k_top_TopMarks_L3 (l3S L w (i + 1) [])) := by
  have w2 : IntKind.i64.wrap ((i : Int) + 1) = ((i + 1 : Nat) : Int) := by rw [wrap_i64 (by omega) (by omega)]; omega
  have he2 : ∀ hh : i < L.length, L[i]'hh = e := fun hh => by rw [List.getElem?_eq_getElem hh] at he; injection he
  obtain ⟨a, k, n, rfl, hk⟩ := hn
  simp only [l3S, KL3m, List.append_nil, evD] at he he2 ⊢
  generalize i + 1 = i' at *
  rw [run_round]
  simp [c_top_TopMarks_L3, k_top_TopMarks_L3b, hi, he, he2, w2, hk]
def l3R : St := ⟨[(162, V.bool true), (170, V.bool true), (4, V.bool true)], [], fun _ => none, 0, 0⟩
set_option maxRecDepth 10000 in
set_option maxHeartbeats 8000000 in
theorem l3_hit (L : List D) (w : Int) (i : Nat) (hi : i < L.length) (x : Int) (he : L[i]? = some (evD w 3 0 x)) : run kp (.loop KL3m k_top_TopMarks_L3 (l3S L w i [])) = some (.out .ret l3R) := by
  have he2 : ∀ hh : i < L.length, L[i]'hh = evD w 3 0 x := fun hh => by rw [List.getElem?_eq_getElem hh] at he; injection he
  simp only [l3S, l3R, KL3m, List.append_nil, evD] at he he2 ⊢
  rw [run_round]
  simp [c_top_TopMarks_L3, k_top_TopMarks_L3b, hi, he, he2]
theorem l3_run (w x : Int) (B : List D) : ∀ (A pre : List D), (∀ e ∈ A, nd e) → (pre ++ (A ++ evD w 3 0 x :: B)).length ≤ 1000000 → run kp (.loop KL3m k_top_TopMarks_L3 (l3S (pre ++ (A ++ evD w 3 0 x :: B)) w pre.length [])) = some (.out .ret l3R)
  | [], pre, _, hl => l3_hit (pre ++ ([] ++ evD w 3 0 x :: B)) w pre.length (by simp) x (by simp)
  | a :: A, pre, hA, hl => by
    have r := l3_skip (pre ++ (a :: A ++ evD w 3 0 x :: B)) w pre.length (by simp) hl a (by simp) (hA a List.mem_cons_self)
    have r2 := l3_run w x B A (pre ++ [a]) (fun y hy => hA y (List.mem_cons_of_mem _ hy)) (by simpa using hl)
    simp only [List.append_assoc, List.singleton_append, List.length_append, List.length_singleton] at r2
    rw [r]
    exact r2
theorem l3_FD (L : List D) (w : Int) (h : FD L w) (hl : L.length ≤ 1000000) : run kp (.loop KL3m k_top_TopMarks_L3 (l3S L w 0 [])) = some (.out .ret l3R) := by
  obtain ⟨A, x, B, rfl, hA⟩ := h
  exact l3_run w x B A [] hA (by simpa using hl)
end Go.Cd
namespace Go.Cd
open Go Go.Fw
set_option maxRecDepth 20000 in
set_option maxHeartbeats 32000000 in
theorem marks_run (pn : Bool) (P : List D) (b : Int) (hb : 0 ≤ b ∧ b < 256) (hP : P.length ≤ 4) (k : Nat) (l : List Nat) (hl : l.length + 1 = P.length) (h : KsOk P 0 (k :: l)) (hk : ∀ x ∈ k :: l, x ≤ 3) : ∃ u n, run kp (.call f_top_TopMarks [.d (.sl pn P), .int .u8 b] (fun _ => none) 0) = some (.val (.bool true) u n) := by
  have g : ¬ (4 : Int) < P.length := by omega
  have ok := prog_ok (k :: l) hk (by simp; omega)
  have hzl := ok.le
  obtain ⟨t, et⟩ : ∃ t : Nat, (t : Int) = b.tmod (((prgI (k :: l)).length + 1 : Nat) + 3 : Int) := ⟨(b.tmod (((prgI (k :: l)).length + 1 : Nat) + 3 : Int)).toNat, by rw [Int.tmod_eq_emod_of_nonneg hb.1]; have := Int.emod_nonneg b (b := (((prgI (k :: l)).length + 1 : Nat) + 3 : Int)) (by omega); omega⟩
  have ht : t < (prgI (k :: l)).length + 4 := by
    rw [Int.tmod_eq_emod_of_nonneg hb.1] at et
    have := Int.emod_lt_of_pos b (b := (((prgI (k :: l)).length + 1 : Nat) + 3 : Int)) (by omega)
    omega
  obtain ⟨K, L, al, fd, hL⟩ := all_M ok t (by omega)
  have cl := c_all pn P b hP k l hl h
  have p1 := play_Call_K 1 (match (mkT (prgI (k :: l) ++ [endM])).d with | .agg l => l | _ => []) 0 0
  have p5 := play_Call_K 5 (match zT with | .agg l => l | _ => []) 0 0
  have p6 := play_Call_K 6 (match zT with | .agg l => l | _ => []) 0 3
  have lm := lmk_is (k :: l) t
  have r2 := l2_run (prgI (k :: l)).length t L (endL 0 (k :: l)) (by rw [endL_len]; simp; omega) (k :: l) 0 0 0 rfl (by rw [endL_len]; simp)
  have e1 : (prgL (k :: l)).length = (prgI (k :: l)).length := by rw [← prgI_d]; simp
  simp only [tcl, mkT, tsOf, Ts.d, Rw.d, clD, stD, hz, zT, zCl, rpD, List.map_append, prgI_d, List.map_cons, List.map_nil, endM, Inst.d] at al p1 p5 p6
  simp only [ck0, ck2, KM0, List.append_nil, Int.cast_ofNat_Int] at cl
  simp only [l2S, KL2m, List.append_nil, Int.cast_ofNat_Int] at r2
  generalize lastE t 0 (k :: l) 0 = la at *
  generalize hz' : (prgI (k :: l)).length = z at *
  generalize endL 0 (k :: l) = Es at *
  generalize prgL (k :: l) = A at *
  have q1 : z ≤ 1073741823 := by omega
  have wz : IntKind.i64.wrap ((z : Int) + 1 + 3) = (z : Int) + 1 + 3 := wrap_i64 (by omega) (by omega)
  have wb : IntKind.i64.wrap b = b := wrap_i64 (by omega) (by omega)
  have et' : b.tmod ((z : Int) + 1 + 3) = (t : Int) := by rw [et]; congr 1
  have g2 : ¬ (z : Int) + 1 + 3 = 0 := by omega
  have t1 : List.take z A = A := List.take_of_length_le (by omega)
  have t2 : ∀ x : D, List.take (z + 1) (A ++ [x]) = A ++ [x] := fun x => List.take_of_length_le (by simp; omega)
  have wt : IntKind.i64.wrap ((t : Int) + 100) = (t : Int) + 100 := wrap_i64 (by omega) (by omega)
  have wq : IntKind.i64.wrap (z : Int) = (z : Int) := wrap_i64 (by omega) (by omega)
  have ll := lmk_le (prgI (k :: l) ++ [endM]) t
  by_cases c : t ≤ z
  · rw [if_pos c, lm c] at fd
    rw [lm c] at ll
    have r3 := l3_FD L _ fd (by omega)
    have c2 : (t : Int) < (z : Int) + 1 := by omega
    have c3 : t < z + 1 := by omega
    have wa : IntKind.i64.wrap ((t : Int) - (la : Int)) = ((t - la : Nat) : Int) := by rw [wrap_i64 (by omega) (by omega)]; omega
    have wc : IntKind.i64.wrap ((z : Int) + ((t - la : Nat) : Int)) = (z : Int) + ((t - la : Nat) : Int) := wrap_i64 (by omega) (by omega)
    have wd : IntKind.i64.wrap ((z : Int) + ((t - la : Nat) : Int) + 1) = (z : Int) + ((t - la : Nat) : Int) + 1 := wrap_i64 (by omega) (by omega)
    generalize t - la = dd at *
    simp only [l3S, l3R, KL3m, List.append_nil, Int.cast_ofNat_Int] at r3
    rw [run_call, kp_top_TopMarks]
    simp [k_top_TopMarks, top_begun, g, cl, e1, q1, wz, wb, et', g2, t1, t2, p1, p5, p6, al, wt, r2, r3, c2, c3, wq, wa, wc, wd, canK_canH]
  · rw [if_neg c] at fd
    have r3 := l3_FD L _ fd (by omega)
    have c2 : ¬ (t : Int) < (z : Int) + 1 := by omega
    have c3 : ¬ t < z + 1 := by omega
    simp only [l3S, l3R, KL3m, List.append_nil, Int.cast_ofNat_Int] at r3
    rw [run_call, kp_top_TopMarks]
    simp [k_top_TopMarks, top_begun, g, cl, e1, q1, wz, wb, et', g2, t1, t2, p1, p5, p6, al, wt, r2, r3, c2, c3, wq, canK_canH]
theorem has_bytesW {x : D} (h : Sh.has (.sl (.i .u8)) x) : ∃ nl l, x = .sl nl l ∧ l.length ≤ maxLen ∧ ∀ y ∈ l, ∃ v, y = .int .u8 v ∧ 0 ≤ v ∧ v < 256 := by
  obtain ⟨nl, l, rfl, h1, h2, h3⟩ := has_sl h
  refine ⟨nl, l, rfl, h2, fun y hy => ?_⟩
  obtain ⟨v, rfl, k⟩ := has_int (h3 y hy)
  exact ⟨v, rfl, wf_u8 k⟩
/-- How long each piece is. -/
theorem ks_ex (P0 : List D) : ∀ (P : List D) (i : Nat), P0.drop i = P → (∀ y ∈ P, ∃ v, y = .int .u8 v ∧ 0 ≤ v ∧ v < 256) → ∃ ks : List Nat, ks.length = P.length ∧ KsOk P0 i ks ∧ ∀ k ∈ ks, k ≤ 3
  | [], i, _, _ => ⟨[], rfl, fun j k h => by simp at h, fun k h => by simp at h⟩
  | y :: P, i, d, h => by
    obtain ⟨v, rfl, hv⟩ := h y List.mem_cons_self
    have d2 : P0.drop (i + 1) = P := by rw [← List.drop_drop, d]; rfl
    obtain ⟨ks, e, o, b⟩ := ks_ex P0 P (i + 1) d2 (fun z hz => h z (List.mem_cons_of_mem _ hz))
    have hm : 0 ≤ v.tmod 4 ∧ v.tmod 4 < 4 := by rw [Int.tmod_eq_emod_of_nonneg hv.1]; omega
    have hg : P0[i]? = some (.int .u8 v) := by
      have : (P0.drop i)[0]? = some (.int .u8 v) := by rw [d]; rfl
      simpa using this
    have hi : i < P0.length := (List.getElem?_eq_some_iff.1 hg).1
    refine ⟨(v.tmod 4).toNat :: ks, by simp [e], fun j k hj => ?_, fun k hk => ?_⟩
    · cases j with
      | zero =>
        simp only [List.getElem?_cons_zero, Option.some.injEq] at hj
        subst hj
        exact ⟨v, hi, hg, by omega, by omega⟩
      | succ j =>
        obtain ⟨v', o'⟩ := o j k (by simpa using hj)
        have e2 : i + (j + 1) = i + 1 + j := by omega
        rw [e2]
        exact ⟨v', o'⟩
    · rcases List.mem_cons.1 hk with rfl | hk
      · omega
      · exact b k hk
set_option maxRecDepth 20000 in
set_option maxHeartbeats 32000000 in
theorem marks_none (pn : Bool) (b : Int) (hb : 0 ≤ b ∧ b < 256) : ∃ u n, run kp (.call f_top_TopMarks [.d (.sl pn []), .int .u8 b] (fun _ => none) 0) = some (.val (.bool true) u n) := by
  have ok := prog_ok [] (by simp) (by simp)
  obtain ⟨t, et⟩ : ∃ t : Nat, (t : Int) = b.tmod 4 := ⟨(b.tmod 4).toNat, by rw [Int.tmod_eq_emod_of_nonneg hb.1]; omega⟩
  have ht : t < 4 := by rw [Int.tmod_eq_emod_of_nonneg hb.1] at et; omega
  obtain ⟨K, L, al, fd, hL⟩ := all_M ok t (by omega)
  have cl := c_end0 pn [] b
  have p1 := play_Call_K 1 (match (mkT (prgI [] ++ [endM])).d with | .agg l => l | _ => []) 0 0
  have p5 := play_Call_K 5 (match zT with | .agg l => l | _ => []) 0 0
  have p6 := play_Call_K 6 (match zT with | .agg l => l | _ => []) 0 3
  simp only [tcl, mkT, tsOf, Ts.d, Rw.d, clD, stD, hz, zT, zCl, rpD, prgI, List.nil_append, List.map_cons, List.map_nil, endM, Inst.d] at al p1 p5 p6
  simp only [ck0, KM0, List.append_nil, List.length_nil, Int.cast_ofNat_Int] at cl
  have wb : IntKind.i64.wrap b = b := wrap_i64 (by omega) (by omega)
  have wz0 : IntKind.i64.wrap 1 = 1 := rfl
  have wz4 : IntKind.i64.wrap 4 = 4 := rfl
  have wq : IntKind.i64.wrap 0 = 0 := rfl
  have wt : IntKind.i64.wrap ((t : Int) + 100) = (t : Int) + 100 := wrap_i64 (by omega) (by omega)
  have ll := lmk_le (prgI [] ++ [endM]) t
  have l0 : t = 0 → lmk (prgI [] ++ [endM]) t = 0 := fun e => by subst e; rfl
  have et' := et.symm
  have w100 : IntKind.i64.wrap 100 = 100 := rfl
  by_cases c : t = 0
  · subst c
    have fd2 : FD L 1 := by simpa [prgI, lmk] using fd
    have r3 := l3_FD L _ fd2 (by omega)
    simp only [l3S, l3R, KL3m, List.append_nil, Int.cast_ofNat_Int] at r3 al et'
    rw [run_call, kp_top_TopMarks]
    simp [k_top_TopMarks, top_begun, cl, wz4, wb, et', p1, p5, p6, al, wz0, wq, w100, canK_canH]
    rw [run_round]
    simp [c_top_TopMarks_L2, k_top_TopMarks_L2b, r3, canK_canH, wz0, wq, w100]
  · have fd2 : FD L 0 := by simpa [prgI, c] using fd
    have r3 := l3_FD L _ fd2 (by omega)
    have c2 : ¬ (t : Int) < 1 := by omega
    have c3 : ¬ t < 1 := by omega
    have c4 : ¬ (t : Int) = 0 := by omega
    simp only [l3S, l3R, KL3m, List.append_nil, Int.cast_ofNat_Int] at r3
    rw [run_call, kp_top_TopMarks]
    simp [k_top_TopMarks, top_begun, cl, wz4, wb, et', p1, p5, p6, al, wz0, wq, wt, canK_canH]
    rw [run_round]
    simp [c_top_TopMarks_L2, k_top_TopMarks_L2b, r3, c, c2, c3, c4, canK_canH, wz0, wq]
set_option maxRecDepth 10000 in
set_option maxHeartbeats 8000000 in
theorem law2_TopMarks (xs : List D) (h : Sh.hasL [.sl (.i .u8), .i .u8] xs) : ∃ u k, run kp (.call f_top_TopMarks (xs.map ofD) (fun _ => none) 0) = some (.val (.bool true) u k) := by
  obtain ⟨x1, _, rfl, h1, h⟩ := hasL_cons h
  obtain ⟨x2, _, rfl, h2, h⟩ := hasL_cons h
  obtain rfl := hasL_nil h
  obtain ⟨pn, P, rfl, p3, p4⟩ := has_bytesW h1
  obtain ⟨b, rfl, k2⟩ := has_int h2
  have k2 := wf_u8 k2
  by_cases g : P.length ≤ 4
  · obtain ⟨ks, e, o, hk⟩ := ks_ex P P 0 rfl p4
    cases ks with
    | nil =>
      have : P = [] := List.eq_nil_of_length_eq_zero (by simpa using e.symm)
      subst this
      exact marks_none pn b k2
    | cons k l => exact marks_run pn P b k2 g k l (by simpa using e) o hk
  · refine ⟨[], 0, ?_⟩
    have g1 : (4 : Int) < P.length := by omega
    rw [List.map_cons, run_call, kp_top_TopMarks]
    simp [k_top_TopMarks, top_begun, g1, canK_canH]
end Go.Cd
