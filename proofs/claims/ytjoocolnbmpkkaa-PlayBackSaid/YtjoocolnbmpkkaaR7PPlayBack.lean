/- The law PlayBack, as the evaluator has it. No conditions. -/
import Derived.Test.YtjoocolnbmpkkaaR7QPlB2
import Derived.Test.YtjoocolnbmpkkaaR7QPlSs
import Derived.KernelRfl
set_option linter.unusedVariables false
set_option linter.unusedSimpArgs false
namespace Go.Cd
open Go Go.Fw
open Classical in
noncomputable def saidS (l : List Sp) : List Sp := l.filter fun s => decide (SG s)
def pbk (cut : Int) (A M S : List Sp) (i : Nat) (ex : List (Nat × V)) : St :=
  { env := [(2, .int .u16 cut), (7, gV 0 A), (8, gV (gN A) M), (9, .int .i64 (i : Int)), (10, .d (.sl false (S.map Sp.d)))] ++ ex, hp := gH 0 A ++ gH (gN A) M, tl := fun _ => none, base := 0, next := gN A + gN M }
theorem enc_one (s : Sp) (hc : s.cl.lite) : run kp (.data f_ref27_Encode [.sl false [s.d]]) = some (.ds [rowU (encB [s])]) :=
  ref27_Encode [s] false (by simp) (fun x hx => by simp at hx; subst hx; exact hc)
set_option maxRecDepth 10000 in
set_option maxHeartbeats 16000000 in
theorem pbk_no (cut : Int) (A M S : List Sp) (i : Nat) (hS : S.length ≤ 1000) (x : Sp) (hx : S[i]? = some x) (hc : x.cl.lite) (hs : ¬ SG x) :
    run kp (.loop [2, 7, 8, 9, 10] k_law27_PlayBack_L0 (pbk cut A M S i [])) = run kp (.loop [2, 7, 8, 9, 10] k_law27_PlayBack_L0 (pbk cut A M S (i + 1) [])) := by
  have hi : i < S.length := by
    by_cases k : i < S.length
    · exact k
    · rw [List.getElem?_eq_none (by omega)] at hx; cases hx
  have hi2 : (i : Int) < (S.length : Int) := by omega
  have hx2 : ∀ hh : i < S.length, S[i] = x := fun hh => by rw [List.getElem?_eq_getElem hh] at hx; injection hx
  have w : IntKind.i64.wrap ((i : Int) + 1) = ((i + 1 : Nat) : Int) := by rw [wrap_i64 (by omega) (by omega)]; omega
  have e := enc_one x hc
  have e0 : encB [x] = [] := by
    have := encS_no hc hs
    simp [encB, this]
  rw [e0] at e
  simp only [rowU, List.isEmpty_nil, List.map_nil, Sp.d] at e
  rw [run_round]
  generalize i + 1 = j at *
  cases A with
  | nil =>
    cases M with
    | nil => simp [c_law27_PlayBack_L0, k_law27_PlayBack_L0b, pbk, gV, gH, gN, hi, hi2, hx, hx2, w, e, Sp.d]
    | cons m M => simp [c_law27_PlayBack_L0, k_law27_PlayBack_L0b, pbk, gV, gH, gN, hi, hi2, hx, hx2, w, e, Sp.d]
  | cons a A =>
    cases M with
    | nil => simp [c_law27_PlayBack_L0, k_law27_PlayBack_L0b, pbk, gV, gH, gN, hi, hi2, hx, hx2, w, e, Sp.d]
    | cons m M => simp [c_law27_PlayBack_L0, k_law27_PlayBack_L0b, pbk, gV, gH, gN, hi, hi2, hx, hx2, w, e, Sp.d]
set_option maxRecDepth 10000 in
set_option maxHeartbeats 16000000 in
theorem pbk_yes (cut : Int) (A M S : List Sp) (hM : M.length ≤ 1000) (i : Nat) (hS : S.length ≤ 1000) (x : Sp) (hx : S[i]? = some x) (hc : x.cl.lite) (hs : SG x) :
    run kp (.loop [2, 7, 8, 9, 10] k_law27_PlayBack_L0 (pbk cut A M S i [])) = run kp (.loop [2, 7, 8, 9, 10] k_law27_PlayBack_L0 (pbk cut A (M ++ [x]) S (i + 1) [])) := by
  have hi : i < S.length := by
    by_cases k : i < S.length
    · exact k
    · rw [List.getElem?_eq_none (by omega)] at hx; cases hx
  have hi2 : (i : Int) < (S.length : Int) := by omega
  have hx2 : ∀ hh : i < S.length, S[i] = x := fun hh => by rw [List.getElem?_eq_getElem hh] at hx; injection hx
  have w : IntKind.i64.wrap ((i : Int) + 1) = ((i + 1 : Nat) : Int) := by rw [wrap_i64 (by omega) (by omega)]; omega
  have e := enc_one x hc
  obtain ⟨z, c, hz⟩ := stB_ne x
  have e0 : encB [x] = z :: c := by
    have := encS_yes hs
    simp [encB, this, hz]
  rw [e0] at e
  have lz : (0 : Int) < (c.length : Int) + 1 := by omega
  simp only [rowU, List.isEmpty_cons, List.map_cons, Sp.d] at e
  rw [run_round]
  generalize i + 1 = j at *
  cases A with
  | nil =>
    cases M with
    | nil => simp [c_law27_PlayBack_L0, k_law27_PlayBack_L0b, pbk, gV, gH, gN, hi, hi2, hx, hx2, w, e, Sp.d, lz]
    | cons m M =>
      have q1 : M.length ≤ 1073741822 := by simp at hM; omega
      have q2 : M.length + 1 ≤ 1073741823 := by omega
      simp [c_law27_PlayBack_L0, k_law27_PlayBack_L0b, pbk, gV, gH, gN, hi, hi2, hx, hx2, w, e, Sp.d, lz, q1, q2]
  | cons a A =>
    cases M with
    | nil => simp [c_law27_PlayBack_L0, k_law27_PlayBack_L0b, pbk, gV, gH, gN, hi, hi2, hx, hx2, w, e, Sp.d, lz]
    | cons m M =>
      have q1 : M.length ≤ 1073741822 := by simp at hM; omega
      have q2 : M.length + 1 ≤ 1073741823 := by omega
      simp [c_law27_PlayBack_L0, k_law27_PlayBack_L0b, pbk, gV, gH, gN, hi, hi2, hx, hx2, w, e, Sp.d, lz, q1, q2]
theorem pbk_stop (cut : Int) (A M S : List Sp) : run kp (.loop [2, 7, 8, 9, 10] k_law27_PlayBack_L0 (pbk cut A M S S.length [])) = some (.out (.ext 0) (pbk cut A M S S.length [(31, .bool false)])) := by
  rw [run_round]
  cases A <;> cases M <;> simp [c_law27_PlayBack_L0, k_law27_PlayBack_L0b, pbk, gV, gH, gN]
theorem pbk_loop (cut : Int) (A S : List Sp) (hS : S.length ≤ 40) (hs : smalls S) : ∀ (k i : Nat), i + k = S.length → ∀ M : List Sp, M.length ≤ i →
    run kp (.loop [2, 7, 8, 9, 10] k_law27_PlayBack_L0 (pbk cut A M S i [])) = some (.out (.ext 0) (pbk cut A (M ++ saidS (S.drop i)) S S.length [(31, .bool false)]))
  | 0, i, h, M, hM => by
    obtain rfl : i = S.length := by omega
    rw [pbk_stop]
    simp [saidS]
  | k + 1, i, h, M, hM => by
    have hi : i < S.length := by omega
    have hx := List.getElem?_eq_getElem hi
    have ed : S.drop i = S[i] :: S.drop (i + 1) := List.drop_eq_getElem_cons hi
    obtain ⟨a, b, c⟩ := hs S[i] (List.getElem_mem hi)
    have hc : S[i].cl.lite := ⟨by omega, by omega, by omega⟩
    by_cases g : SG S[i]
    · have es : saidS (S.drop i) = S[i] :: saidS (S.drop (i + 1)) := by
        rw [ed]; unfold saidS; rw [List.filter_cons_of_pos (by simpa using g)]
      rw [pbk_yes cut A M S (by omega) i (by omega) _ hx hc g, pbk_loop cut A S hS hs k (i + 1) (by omega) (M ++ [S[i]]) (by simp; omega), es, List.append_assoc]
      rfl
    · have es : saidS (S.drop i) = saidS (S.drop (i + 1)) := by
        rw [ed]; unfold saidS; rw [List.filter_cons_of_neg (by simpa using g)]
      rw [pbk_no cut A M S i (by omega) _ hx hc g, pbk_loop cut A S hS hs k (i + 1) (by omega) M (by omega), es]
theorem restB_small {s : Sp} (h : s.small) : (restB s.cl).length ≤ 700 := by
  have l1 := prB_len s.cl.main.2
  have l2 := prB_len s.cl.way.2
  have l3 := prB_len s.cl.opt.2
  obtain ⟨h1, h2, h3⟩ := h
  unfold restB hanB
  repeat' split
  all_goals simp [beB_len]
  omega
theorem stB_small {s : Sp} (h : s.small) : (stB s).length ≤ 702 := by
  have := restB_small h
  unfold stB callB
  repeat' split
  all_goals simp [beB_len]
  omega
theorem stBs_small : ∀ {L : List Sp}, smalls L → (stBs L).length ≤ 702 * L.length
  | [], _ => Nat.le_refl _
  | s :: L, h => by
    have h1 := stB_small (h s (by simp))
    have h2 := stBs_small (L := L) (fun x hx => h x (by simp [hx]))
    simp [stBs]; omega
theorem saidS_all (S : List Sp) : ∀ x ∈ saidS S, SG x := fun x hx => by
  unfold saidS at hx
  rw [List.mem_filter] at hx
  simpa using hx.2
theorem saidS_sub {S : List Sp} (h : smalls S) : smalls (saidS S) := fun x hx => by
  unfold saidS at hx
  rw [List.mem_filter] at hx
  exact h x hx.1
theorem saidS_len (S : List Sp) : (saidS S).length ≤ S.length := by
  unfold saidS; exact List.length_filter_le _ _
theorem smalls_lite' {l : List Sp} (h : smalls l) : ∀ x ∈ l, x.cl.lite := fun x hx => by
  obtain ⟨a, b, c⟩ := h x hx
  exact ⟨by omega, by omega, by omega⟩
theorem rowS_n (A : List Sp) : rowS (A.map nStep) = .sl A.isEmpty ((A.map nStep).map Sp.d) := by
  unfold rowS; cases A <;> rfl
theorem dec_stBs {A : List Sp} (hA : ∀ s ∈ A, SG s) : dec (stBs A) = A.map nStep := by
  have h := dec_puts hA []
  have e : dec [] = [] := rfl
  rw [List.append_nil, e, List.append_nil] at h
  exact h
/-- What is made bytes, read back, compared. -/
theorem back_facts (A : List Sp) (hA : ∀ s ∈ A, SG s) (lA : ∀ s ∈ A, s.cl.lite) (nA : A.length ≤ 1000) (sz : (stBs A).length ≤ 50000) :
    run kp (.data f_play_Encode [rowS A]) = some (.ds [rowU (stBs A)]) ∧ run kp (.dats f_play_Decode [rowU (stBs A)]) = some (.ds [rowS (A.map nStep)]) ∧
    run kp (.data f_ref27_SameSteps [rowS (A.map nStep), rowS A]) = some (.ds [.bool true]) := by
  have d := play_dec (stBs A).isEmpty (stBs_ok A) sz
  rw [dec_stBs hA] at d
  refine ⟨play_enc A.isEmpty nA lA hA, d, ?_⟩
  rw [rowS_n]
  exact same_n A.isEmpty A.isEmpty (by omega) lA hA
def tlA (A : List Sp) (p : Blk) : Nat → Option Blk := match A with
  | [] => fun x => if 0 = x then some p else none
  | a :: A => fun x => if 0 = x then some (.row true (a.d :: A.map Sp.d)) else if 1 = x then some p else none
set_option maxRecDepth 10000 in
set_option maxHeartbeats 32000000 in
theorem pk_run (nl : Bool) (b : List Int) (hb : bytesOk b) (hbl : b.length ≤ 200) (pn : Bool) (P : List D) (hp : P.length ≤ 200) (cut : Int) (hcut : 0 ≤ cut ∧ cut < 65536)
    (S : List Sp) (hS : smalls S) (hSl : S.length ≤ 40) (hp' : Hp) (st : run kp (.call f_play_Picks_Steps [.ptr (gN (dec b)) [], .int .i64 20] (tlA (dec b) (pkB pn P 0)) (gN (dec b) + 1)) = some (.val (.sl false (gN (dec b) + 1) 0 S.length) (hp' ++ [(gN (dec b) + 1, .row true (S.map Sp.d))]) (gN (dec b) + 2))) (hh : hp' = [] ∨ ∃ n', hp' = [(gN (dec b), pkB pn P n')]) :
    ∃ u k, run kp (.call f_law27_PlayBack [.d (.sl nl (b.map u8d)), .d (.sl pn P), .int .u16 cut] (fun _ => none) 0) = some (.val (.bool true) u k) := by
  have g1 : ¬ (200 : Int) < b.length := by omega
  have g2 : ¬ (200 : Int) < P.length := by omega
  have d1 := play_dec nl hb (by omega)
  have hA := dec_good (by omega) hb
  have lA := dec_lite hb (by omega)
  have nA : (dec b).length ≤ 200 := by have := dec_le b; omega
  have sz := dec_size (by omega) hb
  have lp := pbk_loop cut (dec b) S hSl hS S.length 0 (by omega) [] (by simp)
  generalize dec b = A at *
  simp only [List.drop_zero, List.nil_append] at lp
  have hM := saidS_all S
  have sM := saidS_sub hS
  have nM := saidS_len S
  generalize saidS S = M at *
  have lM := smalls_lite' sM
  have zM : (stBs M).length ≤ 50000 := by have := stBs_small sM; omega
  obtain ⟨a1, a2, a3⟩ := back_facts A hA lA (by omega) (by omega)
  obtain ⟨m1, m2, m3⟩ := back_facts M hM lM (by omega) zM
  have tS : List.take S.length (S.map Sp.d) = S.map Sp.d := List.take_of_length_le (by simp)
  have wc : IntKind.i64.wrap cut = cut := wrap_i64 (by omega) (by omega)
  simp only [pkB] at st hh
  have g1' := g1
  rw [run_call, kp_law27_PlayBack]
  cases M with
  | nil =>
    rcases hh with rfl | ⟨n', rfl⟩
    · cases A with
      | nil =>
        simp only [rowS, rowU, pbk, gV, gH, gN, List.isEmpty_nil, List.isEmpty_cons, List.map_nil, List.map_cons, List.map_map, List.append_nil, List.nil_append, List.cons_append, Int.cast_ofNat_Int, stBs, Nat.add_zero, Nat.zero_add, List.length_cons, List.length_nil] at d1 lp a1 a2 a3 m1 m2 m3
        simp only [gN, tlA] at st
        simp [k_law27_PlayBack, canK_canH, play_begun, g1, g2, made_call, st, hputs_append, tS, wc, d1, lp, a1, a2, a3, m1, m2, m3]
      | cons a A =>
        obtain ⟨z, c, hz⟩ := stBs_ne a A
        rw [hz] at a1 a2
        have tA : List.take (A.length + 1) (a.d :: A.map Sp.d) = a.d :: A.map Sp.d := List.take_of_length_le (by simp)
        have tA2 : List.take (A.length + 1) ((nStep a).d :: A.map (Sp.d ∘ nStep)) = (nStep a).d :: A.map (Sp.d ∘ nStep) := List.take_of_length_le (by simp)
        have tz : List.take (c.length + 1) (u8d z :: c.map u8d) = u8d z :: c.map u8d := List.take_of_length_le (by simp)
        simp only [rowS, rowU, pbk, gV, gH, gN, List.isEmpty_nil, List.isEmpty_cons, List.map_nil, List.map_cons, List.map_map, List.append_nil, List.nil_append, List.cons_append, Int.cast_ofNat_Int, stBs, Nat.add_zero, Nat.zero_add, List.length_cons, List.length_nil] at d1 lp a1 a2 a3 m1 m2 m3
        simp only [gN, tlA] at st
        simp [k_law27_PlayBack, canK_canH, play_begun, g1, g2, made_call, st, hputs_append, tS, wc, d1, lp, a1, a2, a3, m1, m2, m3, tA, tA2, tz]
    · cases A with
      | nil =>
        simp only [rowS, rowU, pbk, gV, gH, gN, List.isEmpty_nil, List.isEmpty_cons, List.map_nil, List.map_cons, List.map_map, List.append_nil, List.nil_append, List.cons_append, Int.cast_ofNat_Int, stBs, Nat.add_zero, Nat.zero_add, List.length_cons, List.length_nil] at d1 lp a1 a2 a3 m1 m2 m3
        simp only [gN, tlA] at st
        simp [k_law27_PlayBack, canK_canH, play_begun, g1, g2, made_call, st, hputs_append, tS, wc, d1, lp, a1, a2, a3, m1, m2, m3]
      | cons a A =>
        obtain ⟨z, c, hz⟩ := stBs_ne a A
        rw [hz] at a1 a2
        have tA : List.take (A.length + 1) (a.d :: A.map Sp.d) = a.d :: A.map Sp.d := List.take_of_length_le (by simp)
        have tA2 : List.take (A.length + 1) ((nStep a).d :: A.map (Sp.d ∘ nStep)) = (nStep a).d :: A.map (Sp.d ∘ nStep) := List.take_of_length_le (by simp)
        have tz : List.take (c.length + 1) (u8d z :: c.map u8d) = u8d z :: c.map u8d := List.take_of_length_le (by simp)
        simp only [rowS, rowU, pbk, gV, gH, gN, List.isEmpty_nil, List.isEmpty_cons, List.map_nil, List.map_cons, List.map_map, List.append_nil, List.nil_append, List.cons_append, Int.cast_ofNat_Int, stBs, Nat.add_zero, Nat.zero_add, List.length_cons, List.length_nil] at d1 lp a1 a2 a3 m1 m2 m3
        simp only [gN, tlA] at st
        simp [k_law27_PlayBack, canK_canH, play_begun, g1, g2, made_call, st, hputs_append, tS, wc, d1, lp, a1, a2, a3, m1, m2, m3, tA, tA2, tz]
  | cons m M =>
    obtain ⟨y, W, hy⟩ := stBs_ne m M
    have r0 : 0 ≤ cut.tmod ((W.length : Int) + 1) ∧ cut.tmod ((W.length : Int) + 1) < (W.length : Int) + 1 := by
      rw [Int.tmod_eq_emod_of_nonneg hcut.1]
      exact ⟨Int.emod_nonneg _ (by omega), Int.emod_lt_of_pos _ (by omega)⟩
    obtain ⟨q, hq⟩ : ∃ q : Nat, cut.tmod ((W.length : Int) + 1) = (q : Int) := ⟨(cut.tmod ((W.length : Int) + 1)).toNat, by omega⟩
    rw [hq] at r0
    obtain ⟨i, hi, hcutq⟩ := dec_cut hM q (by rw [hy]; simp; omega)
    rw [hy] at m1 m2 hcutq zM
    have dX := play_dec false (b := (y :: W).take q) (fun x hx => (hy ▸ stBs_ok (m :: M) : bytesOk (y :: W)) x (List.mem_of_mem_take hx)) (by simp at zM ⊢; omega)
    rw [hcutq] at dX
    have sX := same_n (L := (m :: M).take i) ((m :: M).take i).isEmpty false (by simp at nM ⊢; omega) (fun x hx => lM x (List.mem_of_mem_take hx)) (fun x hx => hM x (List.mem_of_mem_take hx))
    have tm : List.take (M.length + 1) (m.d :: M.map Sp.d) = m.d :: M.map Sp.d := List.take_of_length_le (by simp)
    have tm2 : List.take (M.length + 1) ((nStep m).d :: M.map (Sp.d ∘ nStep)) = (nStep m).d :: M.map (Sp.d ∘ nStep) := List.take_of_length_le (by simp)
    have ty : List.take (W.length + 1) (u8d y :: W.map u8d) = u8d y :: W.map u8d := List.take_of_length_le (by simp)
    have wl : IntKind.i64.wrap (q : Int) = (q : Int) := wrap_i64 (by omega) (by simp at zM; omega)
    have q0 : ¬ (W.length : Int) + 1 = 0 := by omega
    have q2 : q ≤ W.length + 1 := by omega
    have sn : stBs [] = [] := rfl
    have q1 : (q : Int) ≤ (W.length : Int) + 1 := by omega
    simp only [List.length_cons] at hi
    cases i with
    | zero =>
      have li : (0 : Int) ≤ (M.length : Int) + 1 := by omega
      have li2 : (0 : Int) < (M.length : Int) + 1 := by omega
      rcases hh with rfl | ⟨n', rfl⟩
      · cases A with
        | nil =>
          simp only [sn, rowS, rowU, pbk, gV, gH, gN, List.isEmpty_nil, List.isEmpty_cons, List.map_nil, List.map_cons, List.map_map, List.map_take, List.append_nil, List.nil_append, List.cons_append, Int.cast_ofNat_Int, Nat.add_zero, Nat.zero_add, List.length_cons, List.length_nil, List.take_zero, List.take_succ_cons] at d1 lp a1 a2 a3 m1 m2 m3 dX sX
          simp only [gN, tlA] at st
          simp [k_law27_PlayBack, canK_canH, play_begun, g1, g2, made_call, st, hputs_append, tS, wc, d1, lp, a1, a2, a3, m1, m2, m3, dX, sX, tm, tm2, ty, wl, hq, r0, q0, q1, q2, li, li2]
        | cons a A =>
          obtain ⟨z, c, hz⟩ := stBs_ne a A
          rw [hz] at a1 a2
          have tA : List.take (A.length + 1) (a.d :: A.map Sp.d) = a.d :: A.map Sp.d := List.take_of_length_le (by simp)
          have tA2 : List.take (A.length + 1) ((nStep a).d :: A.map (Sp.d ∘ nStep)) = (nStep a).d :: A.map (Sp.d ∘ nStep) := List.take_of_length_le (by simp)
          have tz : List.take (c.length + 1) (u8d z :: c.map u8d) = u8d z :: c.map u8d := List.take_of_length_le (by simp)
          simp only [sn, rowS, rowU, pbk, gV, gH, gN, List.isEmpty_nil, List.isEmpty_cons, List.map_nil, List.map_cons, List.map_map, List.map_take, List.append_nil, List.nil_append, List.cons_append, Int.cast_ofNat_Int, Nat.add_zero, Nat.zero_add, List.length_cons, List.length_nil, List.take_zero, List.take_succ_cons] at d1 lp a1 a2 a3 m1 m2 m3 dX sX
          simp only [gN, tlA] at st
          simp [k_law27_PlayBack, canK_canH, play_begun, g1, g2, made_call, st, hputs_append, tS, wc, d1, lp, a1, a2, a3, m1, m2, m3, dX, sX, tm, tm2, ty, wl, hq, r0, q0, q1, q2, li, li2, tA, tA2, tz]
      · cases A with
        | nil =>
          simp only [sn, rowS, rowU, pbk, gV, gH, gN, List.isEmpty_nil, List.isEmpty_cons, List.map_nil, List.map_cons, List.map_map, List.map_take, List.append_nil, List.nil_append, List.cons_append, Int.cast_ofNat_Int, Nat.add_zero, Nat.zero_add, List.length_cons, List.length_nil, List.take_zero, List.take_succ_cons] at d1 lp a1 a2 a3 m1 m2 m3 dX sX
          simp only [gN, tlA] at st
          simp [k_law27_PlayBack, canK_canH, play_begun, g1, g2, made_call, st, hputs_append, tS, wc, d1, lp, a1, a2, a3, m1, m2, m3, dX, sX, tm, tm2, ty, wl, hq, r0, q0, q1, q2, li, li2]
        | cons a A =>
          obtain ⟨z, c, hz⟩ := stBs_ne a A
          rw [hz] at a1 a2
          have tA : List.take (A.length + 1) (a.d :: A.map Sp.d) = a.d :: A.map Sp.d := List.take_of_length_le (by simp)
          have tA2 : List.take (A.length + 1) ((nStep a).d :: A.map (Sp.d ∘ nStep)) = (nStep a).d :: A.map (Sp.d ∘ nStep) := List.take_of_length_le (by simp)
          have tz : List.take (c.length + 1) (u8d z :: c.map u8d) = u8d z :: c.map u8d := List.take_of_length_le (by simp)
          simp only [sn, rowS, rowU, pbk, gV, gH, gN, List.isEmpty_nil, List.isEmpty_cons, List.map_nil, List.map_cons, List.map_map, List.map_take, List.append_nil, List.nil_append, List.cons_append, Int.cast_ofNat_Int, Nat.add_zero, Nat.zero_add, List.length_cons, List.length_nil, List.take_zero, List.take_succ_cons] at d1 lp a1 a2 a3 m1 m2 m3 dX sX
          simp only [gN, tlA] at st
          simp [k_law27_PlayBack, canK_canH, play_begun, g1, g2, made_call, st, hputs_append, tS, wc, d1, lp, a1, a2, a3, m1, m2, m3, dX, sX, tm, tm2, ty, wl, hq, r0, q0, q1, q2, li, li2, tA, tA2, tz]
    | succ i =>
      have li : (i : Int) < (M.length : Int) := by omega
      have li2 : i ≤ M.length := by omega
      have li3 : (i : Int) + 1 ≤ (M.length : Int) + 1 := by omega
      have ti : List.take (i + 1) ((nStep m).d :: M.map (Sp.d ∘ nStep)) = (nStep m).d :: List.take i (M.map (Sp.d ∘ nStep)) := rfl
      have li4 : min i M.length = i := by omega
      have li5 : (0 : Int) ≤ (i : Int) + 1 := by omega
      have tt : ∀ l : List D, List.take i (List.take i l) = List.take i l := fun l => by rw [List.take_take, Nat.min_self]
      rcases hh with rfl | ⟨n', rfl⟩
      · cases A with
        | nil =>
          simp only [sn, rowS, rowU, pbk, gV, gH, gN, List.isEmpty_nil, List.isEmpty_cons, List.map_nil, List.map_cons, List.map_map, List.map_take, List.append_nil, List.nil_append, List.cons_append, Int.cast_ofNat_Int, Nat.add_zero, Nat.zero_add, List.length_cons, List.length_nil, List.take_zero, List.take_succ_cons] at d1 lp a1 a2 a3 m1 m2 m3 dX sX
          simp only [gN, tlA] at st
          simp [k_law27_PlayBack, canK_canH, play_begun, g1, g2, made_call, st, hputs_append, tS, wc, d1, lp, a1, a2, a3, m1, m2, m3, dX, sX, tm, tm2, ty, wl, hq, r0, q0, q1, q2, li, li2, li3, li4, li5, tt]
        | cons a A =>
          obtain ⟨z, c, hz⟩ := stBs_ne a A
          rw [hz] at a1 a2
          have tA : List.take (A.length + 1) (a.d :: A.map Sp.d) = a.d :: A.map Sp.d := List.take_of_length_le (by simp)
          have tA2 : List.take (A.length + 1) ((nStep a).d :: A.map (Sp.d ∘ nStep)) = (nStep a).d :: A.map (Sp.d ∘ nStep) := List.take_of_length_le (by simp)
          have tz : List.take (c.length + 1) (u8d z :: c.map u8d) = u8d z :: c.map u8d := List.take_of_length_le (by simp)
          simp only [sn, rowS, rowU, pbk, gV, gH, gN, List.isEmpty_nil, List.isEmpty_cons, List.map_nil, List.map_cons, List.map_map, List.map_take, List.append_nil, List.nil_append, List.cons_append, Int.cast_ofNat_Int, Nat.add_zero, Nat.zero_add, List.length_cons, List.length_nil, List.take_zero, List.take_succ_cons] at d1 lp a1 a2 a3 m1 m2 m3 dX sX
          simp only [gN, tlA] at st
          simp [k_law27_PlayBack, canK_canH, play_begun, g1, g2, made_call, st, hputs_append, tS, wc, d1, lp, a1, a2, a3, m1, m2, m3, dX, sX, tm, tm2, ty, wl, hq, r0, q0, q1, q2, li, li2, li3, li4, li5, tt, tA, tA2, tz]
      · cases A with
        | nil =>
          simp only [sn, rowS, rowU, pbk, gV, gH, gN, List.isEmpty_nil, List.isEmpty_cons, List.map_nil, List.map_cons, List.map_map, List.map_take, List.append_nil, List.nil_append, List.cons_append, Int.cast_ofNat_Int, Nat.add_zero, Nat.zero_add, List.length_cons, List.length_nil, List.take_zero, List.take_succ_cons] at d1 lp a1 a2 a3 m1 m2 m3 dX sX
          simp only [gN, tlA] at st
          simp [k_law27_PlayBack, canK_canH, play_begun, g1, g2, made_call, st, hputs_append, tS, wc, d1, lp, a1, a2, a3, m1, m2, m3, dX, sX, tm, tm2, ty, wl, hq, r0, q0, q1, q2, li, li2, li3, li4, li5, tt]
        | cons a A =>
          obtain ⟨z, c, hz⟩ := stBs_ne a A
          rw [hz] at a1 a2
          have tA : List.take (A.length + 1) (a.d :: A.map Sp.d) = a.d :: A.map Sp.d := List.take_of_length_le (by simp)
          have tA2 : List.take (A.length + 1) ((nStep a).d :: A.map (Sp.d ∘ nStep)) = (nStep a).d :: A.map (Sp.d ∘ nStep) := List.take_of_length_le (by simp)
          have tz : List.take (c.length + 1) (u8d z :: c.map u8d) = u8d z :: c.map u8d := List.take_of_length_le (by simp)
          simp only [sn, rowS, rowU, pbk, gV, gH, gN, List.isEmpty_nil, List.isEmpty_cons, List.map_nil, List.map_cons, List.map_map, List.map_take, List.append_nil, List.nil_append, List.cons_append, Int.cast_ofNat_Int, Nat.add_zero, Nat.zero_add, List.length_cons, List.length_nil, List.take_zero, List.take_succ_cons] at d1 lp a1 a2 a3 m1 m2 m3 dX sX
          simp only [gN, tlA] at st
          simp [k_law27_PlayBack, canK_canH, play_begun, g1, g2, made_call, st, hputs_append, tS, wc, d1, lp, a1, a2, a3, m1, m2, m3, dX, sX, tm, tm2, ty, wl, hq, r0, q0, q1, q2, li, li2, li3, li4, li5, tt, tA, tA2, tz]
def offMK : RRow := (false, [⟨8, 0, 1, 1⟩, ⟨1, 0, 0, -4⟩, ⟨0, 0, 0, 0⟩])
def offK : List Sp := [⟨1, ⟨1, 3, 20, 20, offMK, (false, [⟨1, 0, 0, 99⟩, ⟨0, 0, 0, 0⟩]), offMK, 0, 0, 0, 0, 0⟩, 0, 0⟩, ⟨1, Cl.zero 3, 0, 0⟩, ⟨1, Cl.zero 4, 0, 0⟩, ⟨1, Cl.zero 5, 0, 0⟩]
set_option maxRecDepth 100000 in
theorem offK_0 (pn : Bool) : run kp (.call f_play_Picks_Steps [.ptr 0 [], .int .i64 20] (tlA [] (pkB pn [] 0)) 1) = some (.val (.sl false 1 0 4) [(1, .row true (offK.map Sp.d))] 2) := by
  cases pn
  · exact run_of (n := 4000) (by kernel_rfl)
  · exact run_of (n := 4000) (by kernel_rfl)
set_option maxRecDepth 100000 in
theorem offK_1 (pn : Bool) (a : Sp) (A : List Sp) : run kp (.call f_play_Picks_Steps [.ptr 1 [], .int .i64 20] (tlA (a :: A) (pkB pn [] 0)) 2) = some (.val (.sl false 2 0 4) [(2, .row true (offK.map Sp.d))] 3) := by
  unfold tlA
  generalize Blk.row true (a.d :: A.map Sp.d) = X
  cases pn
  · exact run_of (n := 4000) (by kernel_rfl)
  · exact run_of (n := 4000) (by kernel_rfl)
set_option maxHeartbeats 8000000 in
theorem law2_PlayBack (xs : List D) (h : Sh.hasL [.sl (.i .u8), .sl (.i .u8), .i .u16] xs) : ∃ u k, run kp (.call f_law27_PlayBack (xs.map ofD) (fun _ => none) 0) = some (.val (.bool true) u k) := by
  obtain ⟨x1, _, rfl, h1, h⟩ := hasL_cons h
  obtain ⟨x2, _, rfl, h2, h⟩ := hasL_cons h
  obtain ⟨x3, _, rfl, h3, h⟩ := hasL_cons h
  obtain rfl := hasL_nil h
  obtain ⟨nl, b, rfl, hb⟩ := has_bytes h1
  obtain ⟨pn, P, rfl, p1, p2⟩ := has_picks h2
  obtain ⟨cut, rfl, k3⟩ := has_int h3
  have hcut : 0 ≤ cut ∧ cut < 65536 := by
    simp [Lit.wf, IntKind.min, IntKind.max, IntKind.signed, IntKind.bits] at k3; omega
  by_cases g1 : (200 : Int) < b.length
  · refine ⟨[], 0, ?_⟩
    rw [List.map_cons, run_call, kp_law27_PlayBack]
    simp [k_law27_PlayBack, canK_canH, play_begun, g1]
  by_cases g2 : (200 : Int) < P.length
  · refine ⟨[], 0, ?_⟩
    rw [List.map_cons, run_call, kp_law27_PlayBack]
    simp [k_law27_PlayBack, canK_canH, play_begun, g1, g2]
  have hP : NumOk P 0 := ⟨by omega, by omega, by omega, p2⟩
  by_cases hp0 : 0 < P.length
  · obtain ⟨m, n', m1, m2, m3, _, st⟩ := steps_on pn P 0 hP (by omega) (gN (dec b))
    have ht : tlA (dec b) (pkB pn P 0) (gN (dec b)) = some (pkB pn P 0) := by
      cases dec b <;> rfl
    exact pk_run nl b hb (by omega) pn P (by omega) cut hcut m m1 m3 [(gN (dec b), pkB pn P n')] (st _ _ ht (by omega)) (.inr ⟨n', rfl⟩)
  · have : P = [] := List.eq_nil_of_length_eq_zero (by omega)
    subst this
    have so : smalls offK := fun x hx => by
      simp [offK] at hx
      rcases hx with rfl | rfl | rfl | rfl <;> exact ⟨by decide, by decide, by decide⟩
    refine pk_run nl b hb (by omega) pn [] (by omega) cut hcut offK so (by decide) [] ?_ (.inl rfl)
    cases dec b with
    | nil => exact offK_0 pn
    | cons a A => exact offK_1 pn a A
end Go.Cd
