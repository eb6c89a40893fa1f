/- Texts of this session in one. No conditions. -/
import Derived.Test.YtjoocolnbmpkkaaR7QPlV
import Derived.Test.YtjoocolnbmpkkaaR7QPlY
import Derived.KernelRfl
import Derived.Test.YtjoocolnbmpkkaaR7QCodeM
import Derived.Test.YtjoocolnbmpkkaaR7QPk1
set_option linter.unusedVariables false
set_option linter.unusedSimpArgs false
namespace Go.Cd
open Go Go.Fw
def ssSt (L K : List Sp) (n m : Bool) (i : Nat) (ex : List (Nat × V)) : St :=
  { env := [(0, .asl n (L.map Sp.d)), (1, .asl m (K.map Sp.d)), (5, .int .i64 (i : Int))] ++ ex, hp := [], tl := fun _ => none, base := 0, next := 0 }
set_option maxRecDepth 10000 in
set_option maxHeartbeats 16000000 in
theorem ss_round (L K : List Sp) (n m : Bool) (hL : L.length ≤ 100000) (h : L.length = K.length) (i : Nat) (hi : i < L.length) (x y : Sp) (hx : L[i]? = some x) (hy : K[i]? = some y) (hc : x.cl.lim) :
    (skey x = skey y → run kp (.loop [0, 1, 5] k_ref27_SameSteps_L0 (ssSt L K n m i [])) = run kp (.loop [0, 1, 5] k_ref27_SameSteps_L0 (ssSt L K n m (i + 1) []))) ∧
    (skey x ≠ skey y → ∃ s, run kp (.loop [0, 1, 5] k_ref27_SameSteps_L0 (ssSt L K n m i [])) = some (.out .ret s) ∧ val s.env (.t 4) = .bool false ∧ s.base = 0) := by
  have w : IntKind.i64.wrap ((i : Int) + 1) = ((i + 1 : Nat) : Int) := by rw [wrap_i64 (by omega) (by omega)]; omega
  have p : (i : Int) < (L.length : Int) := by omega
  have hk : i < K.length := by omega
  have hx2 : ∀ hh : i < L.length, L[i] = x := fun hh => by rw [List.getElem?_eq_getElem hh] at hx; injection hx
  have hy2 : ∀ hh : i < K.length, K[i] = y := fun hh => by rw [List.getElem?_eq_getElem hh] at hy; injection hy
  have hs := ref27_SameStep_eq x y hc
  generalize i + 1 = i' at *
  refine ⟨fun e => ?_, fun e => ?_⟩
  · rw [(eqB_iff _ _).2 e] at hs
    clear e
    obtain ⟨sk, ⟨kind, rank, period, stop, ⟨mn, mm⟩, ⟨wn, ww⟩, ⟨on, o⟩, at_, gen, a, nn, mask⟩, sa, sn⟩ := x
    obtain ⟨sk', ⟨kind', rank', period', stop', ⟨mn', mm'⟩, ⟨wn', ww'⟩, ⟨on', o'⟩, at_', gen', a', nn', mask'⟩, sa', sn'⟩ := y
    simp only [Sp.d, Cl.d, rowD] at hs
    rw [run_round]
    simp [c_ref27_SameSteps_L0, k_ref27_SameSteps_L0b, ssSt, hi, hk, p, w, hx, hy, hx2, hy2, Sp.d, Cl.d, rowD, hs]
  · rw [eqB_no e] at hs
    clear e
    obtain ⟨sk, ⟨kind, rank, period, stop, ⟨mn, mm⟩, ⟨wn, ww⟩, ⟨on, o⟩, at_, gen, a, nn, mask⟩, sa, sn⟩ := x
    obtain ⟨sk', ⟨kind', rank', period', stop', ⟨mn', mm'⟩, ⟨wn', ww'⟩, ⟨on', o'⟩, at_', gen', a', nn', mask'⟩, sa', sn'⟩ := y
    simp only [Sp.d, Cl.d, rowD] at hs
    rw [run_round]
    simp [c_ref27_SameSteps_L0, k_ref27_SameSteps_L0b, ssSt, hi, hk, p, w, hx, hy, hx2, hy2, Sp.d, Cl.d, rowD, hs]
theorem ss_loop (L K : List Sp) (n m : Bool) (hL : L.length ≤ 100000) (h : L.length = K.length) (hc : ∀ x ∈ L, x.cl.lim) : ∀ (j i : Nat), i + j = L.length →
    ((L.drop i).map skey = (K.drop i).map skey → run kp (.loop [0, 1, 5] k_ref27_SameSteps_L0 (ssSt L K n m i [])) = some (.out (.ext 0) (ssSt L K n m L.length [(14, .bool false)]))) ∧
    ((L.drop i).map skey ≠ (K.drop i).map skey → ∃ s, run kp (.loop [0, 1, 5] k_ref27_SameSteps_L0 (ssSt L K n m i [])) = some (.out .ret s) ∧ val s.env (.t 4) = .bool false ∧ s.base = 0)
  | 0, i, hij => by
    obtain rfl : i = L.length := by omega
    refine ⟨fun _ => ?_, fun e => absurd ?_ e⟩
    · rw [run_round]
      simp [c_ref27_SameSteps_L0, k_ref27_SameSteps_L0b, ssSt]
    · rw [List.drop_length, h, List.drop_length]
  | j + 1, i, hij => by
    have hi : i < L.length := by omega
    have hk : i < K.length := by omega
    obtain ⟨r1, r2⟩ := ss_round L K n m hL h i hi L[i] K[i] (List.getElem?_eq_getElem hi) (List.getElem?_eq_getElem hk) (hc _ (List.getElem_mem hi))
    obtain ⟨p1, p2⟩ := ss_loop L K n m hL h hc j (i + 1) (by omega)
    rw [List.drop_eq_getElem_cons hi, List.drop_eq_getElem_cons hk, List.map_cons, List.map_cons]
    by_cases e : skey L[i] = skey K[i]
    · rw [r1 e]
      refine ⟨fun h => p1 (by injection h), fun h => p2 (fun k => h (by rw [e, k]))⟩
    · exact ⟨fun h => absurd (by injection h) e, fun _ => r2 e⟩
set_option maxRecDepth 10000 in
set_option maxHeartbeats 4000000 in
theorem ref27_SameSteps (L K : List Sp) (n m : Bool) (hL : L.length ≤ 100000) (hc : ∀ x ∈ L, x.cl.lim) : run kp (.data f_ref27_SameSteps [.sl n (L.map Sp.d), .sl m (K.map Sp.d)]) = some (.ds [.bool (eqB (L.map skey) (K.map skey))]) := by
  rw [run_data, run_call, kp_ref27_SameSteps]
  by_cases h : L.length = K.length
  · obtain ⟨p1, p2⟩ := ss_loop L K n m hL h hc L.length 0 (by omega)
    have h' : (L.length : Int) = (K.length : Int) := by omega
    simp only [List.drop_zero, ssSt, List.append_nil, List.cons_append, List.nil_append, Int.cast_ofNat_Int, h'] at p1 p2
    by_cases e : L.map skey = K.map skey
    · rw [(eqB_iff _ _).2 e]
      have p1 := p1 e
      simp [k_ref27_SameSteps, h', p1]
    · rw [eqB_no e]
      obtain ⟨s, p2, q1, q2⟩ := p2 e
      obtain ⟨u, k, cn⟩ := canon_b s false q2
      simp only [val] at q1
      simp [k_ref27_SameSteps, h', p2, q1, cn, valK_b]
  · rw [eqB_no (fun e => h (by have := congrArg List.length e; simpa using this))]
    have h' : ¬ (L.length : Int) = (K.length : Int) := by omega
    simp [k_ref27_SameSteps, h']
set_option maxRecDepth 100000 in
theorem play_begun : run kp (.data f_law27_begun []) = some (.ds [.bool true]) := run_of (n := 4000) (by kernel_rfl)
end Go.Cd
namespace Go.Cd
open Go Go.Fw
theorem has_picks {x : D} (h : Sh.has (.sl (.i .u8)) x) : ∃ nl l, x = .sl nl l ∧ l.length ≤ maxLen ∧ ∀ y ∈ l, ∃ v, y = .int .u8 v ∧ 0 ≤ v ∧ v < 256 := by
  obtain ⟨nl, l, rfl, h1, h2, h3⟩ := has_sl h
  refine ⟨nl, l, rfl, h2, fun y hy => ?_⟩
  obtain ⟨v, rfl, k⟩ := has_int (h3 y hy)
  exact ⟨v, rfl, wf_u8 k⟩
theorem has_bytes {x : D} (h : Sh.has (.sl (.i .u8)) x) : ∃ nl b, x = .sl nl (b.map u8d) ∧ bytesOk b := by
  obtain ⟨nl, l, rfl, h1, h2, h3⟩ := has_sl h
  obtain ⟨b, rfl, hb⟩ := all_typed (f := u8d) (p := fun v => 0 ≤ v ∧ v < 256) (fun y hy => by
    obtain ⟨v, rfl, k⟩ := has_int hy
    exact ⟨v, rfl, wf_u8 k⟩) l h3
  exact ⟨nl, b, rfl, hb⟩
end Go.Cd
namespace Go.Cd
open Go Go.Fw
theorem dec_len : ∀ (N : Nat) (c : List Int), c.length ≤ N → (dec c).length ≤ c.length := by
  intro N
  induction N with
  | zero =>
    intro c h
    have : c = [] := List.length_eq_zero_iff.1 (by omega)
    subst this
    exact Nat.le_refl _
  | succ N ih =>
    intro c h
    cases c with
    | nil => exact Nat.le_refl _
    | cons x c =>
      simp only [List.length_cons] at h ⊢
      have l2 := pStep_lt (r := ⟨false, x :: c, false⟩) (by simp)
      simp only [List.length_cons] at l2
      rw [dec_cons]
      split
      · have := ih c (by omega); omega
      · split
        · simp
        · have := ih _ (show (pStep ⟨false, x :: c, false⟩).2.b.length ≤ N by omega)
          simp only [List.length_cons]
          omega
theorem dec_le (c : List Int) : (dec c).length ≤ c.length := dec_len c.length c (Nat.le_refl _)
theorem stB_ne (s : Sp) : ∃ z c, stB s = z :: c := ⟨_, _, rfl⟩
theorem stBs_ne (s : Sp) (l : List Sp) : ∃ z c, stBs (s :: l) = z :: c := by
  obtain ⟨z, c, e⟩ := stB_ne s
  exact ⟨z, c ++ stBs l, by rw [stBs, e]; rfl⟩
theorem stBs_len : ∀ {L : List Sp}, (∀ x ∈ L, x.cl.lite) → (stBs L).length ≤ 21014 * L.length
  | [], _ => Nat.le_refl _
  | s :: L, h => by
    have h1 := stB_len (h s (by simp))
    have h2 := stBs_len (L := L) (fun x hx => h x (by simp [hx]))
    simp [stBs]; omega
theorem play_dec (nl : Bool) {b : List Int} (hb : bytesOk b) (hl : b.length ≤ 50000) : run kp (.dats f_play_Decode [.sl nl (b.map u8d)]) = some (.ds [rowS (dec b)]) := by
  rw [play_Decode nl b hb hl, dec_nl]
theorem play_enc {L : List Sp} (nl : Bool) (hL : L.length ≤ 1000) (hc : ∀ x ∈ L, x.cl.lite) (hg : ∀ x ∈ L, SG x) : run kp (.data f_play_Encode [.sl nl (L.map Sp.d)]) = some (.ds [rowU (stBs L)]) := by
  rw [play_Encode L nl hL hc, encB_good hg]
theorem nCall_lite {c : Cl} (h : c.lite) : (nCall c).lite := by
  unfold nCall
  repeat' split
  · exact h
  all_goals exact ⟨by simp [Cl.zero, noRow], by simp [Cl.zero, noRow], by simp [Cl.zero, noRow]⟩
theorem nStep_lite {s : Sp} (h : s.cl.lite) : (nStep s).cl.lite := by
  unfold nStep
  repeat' split
  · exact ⟨by simp [Cl.zero, noRow], by simp [Cl.zero, noRow], by simp [Cl.zero, noRow]⟩
  · exact ⟨by simp [Cl.zero, noRow], by simp [Cl.zero, noRow], by simp [Cl.zero, noRow]⟩
  · exact nCall_lite h
  · exact ⟨by simp [Cl.zero, noRow], by simp [Cl.zero, noRow], by simp [Cl.zero, noRow]⟩
theorem n_lite {L : List Sp} (h : ∀ x ∈ L, x.cl.lite) : ∀ x ∈ L.map nStep, x.cl.lite := fun x hx => by
  obtain ⟨y, hy, rfl⟩ := List.mem_map.1 hx
  exact nStep_lite (h y hy)
theorem same_n {L : List Sp} (n m : Bool) (hL : L.length ≤ 100000) (hc : ∀ x ∈ L, x.cl.lite) (hg : ∀ x ∈ L, SG x) : run kp (.data f_ref27_SameSteps [.sl n ((L.map nStep).map Sp.d), .sl m (L.map Sp.d)]) = some (.ds [.bool true]) := by
  rw [ref27_SameSteps _ _ n m (by simpa using hL) (fun x hx => (n_lite hc x hx).lim), keys_good hg, eqB_self]
theorem take_Sp' (l : List Sp) : List.take l.length (List.map Sp.d l) = List.map Sp.d l := List.take_of_length_le (by simp)
/-! ### As many bytes as were read -/
theorem drop_len {r : Rd} {n : Nat} (hb : (r.drop n).bad = false) : (r.drop n).b.length + n = r.b.length := by
  obtain ⟨h1, h2⟩ := over_no hb
  rw [(drop_fine h1 h2).1]
  simp; omega
theorem pProg_len2 : ∀ (n : Nat) (r : Rd) (acc : List Inst), (pProg n r acc).2.bad = false → (pProg n r acc).2.b.length + 7 * n = r.b.length
  | 0, r, acc, _ => rfl
  | n + 1, r, acc, hb => by
    have h0 := pProg_mono hb
    unfold pProg at hb ⊢
    simp only [h0, Bool.false_eq_true, if_false] at hb ⊢
    cases o : r.over 7 with
    | true => rw [o] at hb; simp [gone] at hb
    | false =>
      rw [o] at hb
      have l : 7 ≤ r.b.length := by unfold Rd.over at o; simp at o; exact o.2
      simp only [Bool.false_eq_true, if_false] at hb ⊢
      cases m : mayF (decI (r.b.take 7)) with
      | false => rw [m] at hb; simp [gone] at hb
      | true =>
        rw [m] at hb
        simp only [if_true] at hb ⊢
        have := pProg_len2 n _ _ hb
        simp only [List.length_drop] at this
        omega
theorem prTail_full : ∀ {l : List Inst}, l.all mayF = true → (prTail l).length = 7 * l.length
  | [], _ => rfl
  | i :: l, h => by
    rw [List.all_cons, Bool.and_eq_true] at h
    have := prTail_full h.2
    rw [prTail, prInst, if_pos h.1, List.length_append, instB_len, this, List.length_cons]
    omega
theorem prB_full {l : List Inst} (h : l.all mayF = true) : (prB l).length = 1 + 7 * l.length := by
  rw [prB, List.length_cons, prTail_full h]; omega
theorem pgR_len2 {r : Rd} (hr : bytesOk r.b) (hb : (pgR r).2.bad = false) : (pgR r).2.b.length + (prB (pgR r).1).length = r.b.length := by
  have h1 := drop_len (pProg_mono hb)
  have h2 := pProg_len2 _ _ _ hb
  obtain ⟨l, e, h3, h4⟩ := pProg_read (r.num 1).toNat (r.drop 1) [] hb
  have e' : (pgR r).1 = l := e
  have e2 : (pgR r).2 = (pProg (r.num 1).toNat (r.drop 1) []).2 := rfl
  rw [e', prB_full h4, h3, e2]
  omega
theorem call_len {r : Rd} (hr : bytesOk r.b ∧ r.b.length ≤ 100000) (hb : (pCall r).2.bad = false) : (pCall r).2.b.length + (callB (pCall r).1).length = r.b.length := by
  have d1 := Rd.drop_ok 1 hr
  have d2 := Rd.drop_ok 1 d1
  have e3 := Rd.drop_ok 4 d2
  have e4 := Rd.drop_ok 4 e3
  have hm := pCall_mono hb
  have m1 := drop_len hm
  unfold callB restB hanB
  unfold pCall at hb ⊢
  simp only at hb ⊢
  by_cases k1 : r.num 1 = 1
  · simp only [if_pos k1] at hb ⊢
    have b3 := pgR_mono hb
    have b2 := pgR_mono b3
    have b1 := pgR_mono b2
    have x1 := pgR_len2 (pgR_ok (pgR_ok e4)).1 hb
    have x2 := pgR_len2 (pgR_ok e4).1 b3
    have x3 := pgR_len2 e4.1 b2
    have x4 := drop_len b1
    have x5 := drop_len (drop_mono b1)
    have x6 := drop_len (drop_mono (drop_mono b1))
    simp only [List.length_cons, List.length_append, beB_len, rr]
    omega
  by_cases k6 : r.num 1 = 6
  · simp only [if_neg k1, if_pos k6] at hb ⊢
    have x1 := drop_len hb
    have x2 := drop_len (drop_mono hb)
    simp [Cl.zero, k1, k6, beB_len]
    omega
  by_cases k7 : r.num 1 = 7
  · simp only [if_neg k1, if_neg k6, if_pos k7] at hb ⊢
    have x1 := drop_len hb
    have x2 := drop_len (drop_mono hb)
    have x3 := drop_len (drop_mono (drop_mono hb))
    simp [Cl.zero, k1, k6, k7, beB_len]
    omega
  by_cases k8 : r.num 1 = 8
  · simp only [if_neg k1, if_neg k6, if_neg k7, if_pos k8] at hb ⊢
    have x1 := drop_len hb
    have x2 := drop_len (drop_mono hb)
    have x3 := drop_len (drop_mono (drop_mono hb))
    simp [Cl.zero, k1, k6, k7, k8, beB_len]
    omega
  by_cases k9 : r.num 1 = 9
  · simp only [if_neg k1, if_neg k6, if_neg k7, if_neg k8, if_pos k9] at hb ⊢
    have x1 := drop_len hb
    have x2 := drop_len (drop_mono hb)
    have x3 := drop_len (drop_mono (drop_mono hb))
    simp [Cl.zero, k1, k6, k7, k8, k9, beB_len]
    omega
  by_cases k10 : r.num 1 = 10
  · simp only [if_neg k1, if_neg k6, if_neg k7, if_neg k8, if_neg k9, if_pos k10] at hb ⊢
    have x1 := drop_len hb
    have x2 := drop_len (drop_mono hb)
    have x3 := drop_len (drop_mono (drop_mono hb))
    have x4 := drop_len (drop_mono (drop_mono (drop_mono hb)))
    simp [Cl.zero, k1, k6, k7, k8, k9, k10, beB_len]
    omega
  by_cases k11 : r.num 1 = 11
  · simp only [if_neg k1, if_neg k6, if_neg k7, if_neg k8, if_neg k9, if_neg k10, if_pos k11] at hb ⊢
    have x1 := drop_len hb
    have x2 := drop_len (drop_mono hb)
    simp [Cl.zero, k1, k6, k7, k8, k9, k10, k11, beB_len]
    omega
  simp [Cl.zero, k1, k6, k7, k8, k9, k10, k11, beB_len]
  omega
theorem step_len {r : Rd} (hr : bytesOk r.b ∧ r.b.length ≤ 100000) (hb : (pStep r).2.bad = false) : (pStep r).2.b.length + (stB (pStep r).1).length = r.b.length := by
  have d1 := Rd.drop_ok 1 hr
  have m1 := drop_len (pStep_mono hb)
  unfold stB
  unfold pStep at hb ⊢
  simp only at hb ⊢
  generalize (r.num 1).tmod 6 = k at *
  by_cases k4 : k = 4
  · simp only [if_pos k4] at hb ⊢
    have x1 := drop_len hb
    simp only [List.length_cons, List.length_nil]
    omega
  by_cases k5 : k = 5
  · simp only [if_neg k4, if_pos k5] at hb ⊢
    have x1 := drop_len hb
    simp only [List.length_cons, beB_len]
    omega
  by_cases k1 : k = 1
  · simp only [if_neg k4, if_neg k5, if_pos k1] at hb ⊢
    have x1 := call_len d1 hb
    simp only [List.length_cons]
    omega
  simp only [if_neg k4, if_neg k5, if_neg k1, List.length_cons, List.length_nil]
  omega
theorem dec_bytes : ∀ (N : Nat) (c : List Int), c.length ≤ N → c.length ≤ 100000 → bytesOk c → (stBs (dec c)).length ≤ c.length := by
  intro N
  induction N with
  | zero =>
    intro c h _ _
    have : c = [] := List.length_eq_zero_iff.1 (by omega)
    subst this
    exact Nat.le_refl _
  | succ N ih =>
    intro c h hl hb
    cases c with
    | nil => exact Nat.le_refl _
    | cons x c =>
      simp only [List.length_cons] at h hl ⊢
      have ok := pStep_ok (r := ⟨false, x :: c, false⟩) ⟨hb, by simp; omega⟩
      have l2 := pStep_lt (r := ⟨false, x :: c, false⟩) (by simp)
      simp only [List.length_cons] at l2
      rw [dec_cons]
      split
      · have := ih c (by omega) (by omega) (fun y hy => hb y (by simp [hy])); omega
      · split
        · simp [stBs]
        · rename_i hbad
          have e := step_len (r := ⟨false, x :: c, false⟩) ⟨hb, by simp; omega⟩ (by simpa using hbad)
          have := ih _ (show (pStep ⟨false, x :: c, false⟩).2.b.length ≤ N by omega) (by omega) ok.1
          simp only [List.length_cons] at e
          rw [stBs, List.length_append]
          omega
theorem dec_size {c : List Int} (hl : c.length ≤ 100000) (hb : bytesOk c) : (stBs (dec c)).length ≤ c.length := dec_bytes c.length c (Nat.le_refl _) hl hb
theorem all_app {α : Type} {p : α → Prop} {l m : List α} (h1 : ∀ x ∈ l, p x) (h2 : ∀ x ∈ m, p x) : ∀ x ∈ l ++ m, p x := fun x hx => by
  rcases List.mem_append.1 hx with h | h
  · exact h1 x h
  · exact h2 x h
theorem binV_add_str (l m : List UInt8) : binV .add (.d (.str l)) (.d (.str m)) = if l.length + m.length ≤ 1073741824 then some (.d (.str (l ++ m))) else none := rfl
def u8s (l : List Int) : List UInt8 := l.map fun n => UInt8.ofNat n.toNat
theorem bytes_u8s (l : List Int) : bytesOf (l.map u8d) = some (u8s l) := bytesOf_u8 l
theorem u8s_append (l m : List Int) : u8s (l ++ m) = u8s l ++ u8s m := by simp [u8s]
theorem u8s_len (l : List Int) : (u8s l).length = l.length := by simp [u8s]
theorem u8s_nil : u8s [] = [] := rfl
end Go.Cd
