/- The law DeltaAlone, as the evaluator has it. No conditions. -/
import Derived.Test.YtmkkfmadiadkiaaR6PDeltaMany
import Derived.Test.YtmkkfmadiadkiaaR6PDeltaAll
set_option linter.unusedVariables false
set_option linter.unusedSimpArgs false
namespace Go.Cd
open Go Go.Fw
structure InvA (W : List Int) (off : List Bool) (t : Int) (a : List Tm) : Prop where
  inv : InvT a
  all : ∀ e ∈ toDu 0 a, ∃ (k : Nat) (x : Int), e.key = k ∧ W[k]? = some x ∧ off[k]? = some false ∧ e.at_ = x % 40 - (t - 1) ∧ (t = 1 ∨ 1 ≤ e.at_)
  each : ∀ (k : Nat) (x : Int), W[k]? = some x → off[k]? = some false → t ≤ max (x % 40) 1 → ∃ e ∈ toDu 0 a, e.key = k
/-- Does one come at tick t? -/
def comes (W : List Int) (off : List Bool) (t : Int) (k : Nat) : Bool := match W[k]?, off[k]? with
  | some x, some b => !b && decide (max (x % 40) 1 = t)
  | _, _ => false
theorem InvA.drop {W : List Int} {off : List Bool} {t : Int} {a : List Tm} (h : InvA W off t a) (ht : 1 ≤ t) (hU : U8 W) (k : Nat) (x : Int) (b : Bool) (hx : W[k]? = some x) (hb : off[k]? = some b) :
    InvA W (off.set k true) t (dropT a k).1 ∧ (dropT a k).2 = (!b && decide (t ≤ max (x % 40) 1)) := by
  obtain ⟨h1, h2⟩ := dropD_toDu h.inv k
  refine ⟨⟨h.inv.drop k, fun e he => ?_, fun j y hj hoff hle => ?_⟩, ?_⟩
  · rw [← h1, drD, List.mem_filter] at he
    obtain ⟨j, y, j1, j2, j3, j4⟩ := h.all e he.1
    have hne : ¬ e.key = (k : Int) := by simpa using he.2
    have : ¬ k = j := by omega
    exact ⟨j, y, j1, j2, by rw [List.getElem?_set, if_neg this]; exact j3, j4⟩
  · have hne : ¬ k = j := by
      intro e
      rw [List.getElem?_set, if_pos e] at hoff
      split at hoff
      · cases hoff
      · cases hoff
    rw [List.getElem?_set, if_neg hne] at hoff
    obtain ⟨e, he, hk⟩ := h.each j y hj hoff hle
    refine ⟨e, ?_, hk⟩
    rw [← h1, drD, List.mem_filter]
    refine ⟨he, ?_⟩
    have : ¬ e.key = (k : Int) := by omega
    simpa using this
  · rw [← h2]
    cases hh : hasD (toDu 0 a) k with
    | true =>
      obtain ⟨e, he, hk⟩ := List.any_eq_true.1 hh
      obtain ⟨j, y, j1, j2, j3, j4, j5⟩ := h.all e he
      have hk : e.key = (k : Int) := by simpa using hk
      have hjk : j = k := by omega
      subst hjk
      rw [hx] at j2; injection j2 with j2; subst j2
      rw [hb] at j3; injection j3 with j3; subst j3
      have hy := hU x (List.mem_of_getElem? hx)
      have : t ≤ max (x % 40) 1 := by omega
      simp [this]
    | false =>
      symm
      rw [Bool.and_eq_false_iff]
      by_cases hbb : b = false
      · right
        subst hbb
        rw [decide_eq_false_iff_not]
        intro hle
        obtain ⟨e, he, hk⟩ := h.each k x hx hb hle
        have : hasD (toDu 0 a) k = true := List.any_eq_true.2 ⟨e, he, by simpa using hk⟩
        rw [hh] at this; cases this
      · left; simpa using hbb
theorem tkK_nodup {a : List Tm} (h : InvT a) : (tkK (toDu 0 a)).Nodup := by
  have h1 : (toDu 0 a).map Du.key = a.map Tm.key := by
    have : ∀ (a : List Tm) (b : Int), (toDu b a).map Du.key = a.map Tm.key := by
      intro a
      induction a with
      | nil => intro b; rfl
      | cons t r ih => intro b; simp [toDu, ih]
    exact this a 0
  have h2 := (List.filter_sublist (p := fun t : Du => decide (t.at_ ≤ 1)) (l := toDu 0 a)).map Du.key
  exact h2.nodup (by rw [h1]; exact h.nd)
theorem InvA.tick {W : List Int} {off : List Bool} {t : Int} {a : List Tm} (h : InvA W off t a) (ht : 1 ≤ t) (hU : U8 W) :
    InvA W off (t + 1) ((decT a).dropWhile zT) ∧ (∀ k ∈ ((decT a).takeWhile zT).map Tm.key, ∃ (j : Nat) (x : Int), k = j ∧ W[j]? = some x ∧ off[j]? = some false ∧ max (x % 40) 1 = t) ∧
    (((decT a).takeWhile zT).map Tm.key).length = ((List.range W.length).filter (comes W off t)).length := by
  obtain ⟨h1, h2⟩ := tk_nought a h.inv.ok
  have hdue : ∀ k ∈ ((decT a).takeWhile zT).map Tm.key, ∃ (j : Nat) (x : Int), k = j ∧ W[j]? = some x ∧ off[j]? = some false ∧ max (x % 40) 1 = t := by
    intro k hk
    rw [← h1] at hk
    obtain ⟨u, hu, rfl⟩ := List.mem_map.1 hk
    rw [List.mem_filter] at hu
    obtain ⟨j, y, k1, k2, k3, k4, k5⟩ := h.all u hu.1
    have hle : u.at_ ≤ 1 := by simpa using hu.2
    have hy := hU y (List.mem_of_getElem? k2)
    exact ⟨j, y, k1, k2, k3, by omega⟩
  refine ⟨⟨h.inv.tick, fun e he => ?_, fun k x hx hoff hle => ?_⟩, hdue, ?_⟩
  · rw [← h2] at he
    obtain ⟨u, hu, rfl⟩ := List.mem_map.1 he
    rw [List.mem_filter] at hu
    obtain ⟨j, y, k1, k2, k3, k4, k5⟩ := h.all u hu.1
    have : ¬ u.at_ ≤ 1 := by simpa using hu.2
    exact ⟨j, y, k1, k2, k3, by simp only; omega, .inr (by simp only; omega)⟩
  · obtain ⟨e, he, hk⟩ := h.each k x hx hoff (by omega)
    obtain ⟨j, y, k1, k2, k3, k4, k5⟩ := h.all e he
    have hjk : j = k := by omega
    subst hjk
    rw [hx] at k2; injection k2 with k2; subst k2
    rw [← h2]
    refine ⟨⟨e.at_ - 1, e.key⟩, List.mem_map.2 ⟨e, List.mem_filter.2 ⟨he, ?_⟩, rfl⟩, hk⟩
    have : ¬ e.at_ ≤ 1 := by omega
    simpa using this
  · have hp : (((decT a).takeWhile zT).map Tm.key).Perm (((List.range W.length).filter (comes W off t)).map (fun k : Nat => (k : Int))) := by
      refine (List.perm_ext_iff_of_nodup ?_ ?_).2 fun k => ?_
      · rw [← h1]; exact tkK_nodup h.inv
      · exact List.Pairwise.map (fun k : Nat => (k : Int)) (fun a b h e => h (by omega)) (List.nodup_range.filter _)
      · constructor
        · intro hk
          obtain ⟨j, x, e1, e2, e3, e4⟩ := hdue k hk
          refine List.mem_map.2 ⟨j, List.mem_filter.2 ⟨?_, ?_⟩, e1.symm⟩
          · rw [List.mem_range]; exact (List.getElem?_eq_some_iff.1 e2).1
          · simp [comes, e2, e3, e4]
        · intro hk
          obtain ⟨j, hj, rfl⟩ := List.mem_map.1 hk
          rw [List.mem_filter, List.mem_range] at hj
          have e2 := List.getElem?_eq_getElem hj.1
          have hc := hj.2
          simp only [comes, e2] at hc
          cases e3 : off[j]? with
          | none => rw [e3] at hc; cases hc
          | some b =>
            rw [e3] at hc
            simp only [Bool.and_eq_true, Bool.not_eq_true', decide_eq_true_eq] at hc
            obtain ⟨rfl, hc⟩ := hc
            obtain ⟨e, he, hk⟩ := h.each j _ e2 e3 (by omega)
            obtain ⟨j', y, k1, k2, k3, k4, k5⟩ := h.all e he
            have hjk : j' = j := by omega
            subst hjk
            rw [e2] at k2; injection k2 with k2; subst k2
            rw [← h1, ← hk]
            have hw := hU _ (List.mem_of_getElem? e2)
            exact List.mem_map.2 ⟨e, List.mem_filter.2 ⟨he, by simp only [decide_eq_true_eq]; omega⟩, rfl⟩
    rw [hp.length_eq, List.length_map]
/-! ### The rounds -/
def aloneSt (nl ng : Bool) (W G : List Int) (na : Bool) (a : List Tm) (i : Int) (ex : List (Nat × V)) : St :=
  { env := [(0, .d (.sl nl (W.map (.int .u8)))), (1, .d (.sl ng (G.map (.int .u8)))), (5, .d (.sl na (a.map Tm.d))), (6, .int .i64 i)] ++ ex, hp := [], tl := fun _ => none, base := 0, next := 0 }
theorem alone_add (nl ng : Bool) (W G : List Int) (hW : U8 W) (hL : W.length ≤ 30) : ∀ (rest pre : List Int), W = pre ++ rest → ∀ (i : Int), i = pre.length → ∀ (na : Bool) (a : List Tm), (na = true → a = []) → InvM W 40 i 1 a → (a.length : Int) = i → (∀ k : Nat, (k : Int) < i → ∃ e ∈ toDu 0 a, e.key = k) →
    ∃ na' a', (na' = true → a' = []) ∧ InvM W 40 W.length 1 a' ∧ (∀ k : Nat, k < W.length → ∃ e ∈ toDu 0 a', e.key = k) ∧
      run kp (.loop [0, 1, 5, 6] k_law4_DeltaAlone_L0 (aloneSt nl ng W G na a i [])) = some (.out (.ext 0) (aloneSt nl ng W G na' a' W.length [(32, .bool false)]))
  | [], pre, h, i, hi, na, a, h1, h2, h3, h4 => by
    simp at h
    subst h hi
    refine ⟨na, a, h1, h2, fun k hk => h4 k (by omega), ?_⟩
    rw [run_round]
    simp [c_law4_DeltaAlone_L0, k_law4_DeltaAlone_L0b, aloneSt]
  | x :: rest, pre, h, i, hi, na, a, h1, h2, h3, h4 => by
    have hli : i < W.length := by rw [h, hi]; simp; omega
    have hi0 : 0 ≤ i := by omega
    have hget0 : W[i.toNat]? = some x := by rw [h, hi]; simp
    have hget : ∀ hh : i.toNat < W.length, W[i.toNat] = x := fun hh => by rw [List.getElem?_eq_getElem hh] at hget0; injection hget0
    have hw : IntKind.i64.wrap (i + 1) = i + 1 := wrap_i64 (by omega) (by omega)
    have hx := hW x (by rw [h]; simp)
    have t2 : x.tmod 40 = x % 40 := Int.tmod_eq_emod_of_nonneg hx.1
    have w2 : IntKind.i64.wrap (x % 40) = x % 40 := wrap_i64 (by omega) (by omega)
    have A := delta_Add na a h1 (by omega) h2.inv.ok (x % 40) i
    have hin : (i.toNat : Int) = i := by omega
    obtain ⟨k1, k2, k3⟩ := h2.add (by omega) x i.toNat (by omega) hget0 hx.1 (by omega)
    rw [hin] at k1 k2 k3
    rw [k2] at A
    have hmem : ∀ k : Nat, (k : Int) < i + 1 → ∃ e ∈ toDu 0 (addT a (x % 40) i).1, e.key = k := by
      intro k hk
      have hadd : (addT a (x % 40) i).1 = insT a (x % 40) i := by
        by_cases c : x % 40 < 0 ∨ 4611686018427387904 < x % 40 ∨ 0 ≤ findT a i 0 ∨ 64 ≤ a.length
        · simp only [addT] at k2; rw [if_pos c] at k2; cases k2
        · simp only [addT]; rw [if_neg c]
      have hD : toDu 0 (insT a (x % 40) i) = insD (toDu 0 a) (x % 40) i := by rw [insD_toDu, Int.sub_zero]
      rw [hadd, hD]
      by_cases hlt : (k : Int) < i
      · obtain ⟨e, he, hk⟩ := h4 k hlt
        exact ⟨e, (mem_insD _ _ _ _).2 (.inr he), hk⟩
      · exact ⟨⟨x % 40, i⟩, (mem_insD _ _ _ _).2 (.inl rfl), by simp only; omega⟩
    obtain ⟨na', a', j1, j2, j3, j4⟩ := alone_add nl ng W G hW hL rest (pre ++ [x]) (by simp [h]) (i + 1) (by simp [hi]) false (addT a (x % 40) i).1 (by simp) k1 (by omega) hmem
    refine ⟨na', a', j1, j2, j3, ?_⟩
    rw [← j4, run_round]
    simp [c_law4_DeltaAlone_L0, k_law4_DeltaAlone_L0b, aloneSt, hi0, hli, hget, t2, w2, A, hw]
def cntSt2 (nl ng : Bool) (W G : List Int) (off : List Bool) (t : Int) (nx nk : Bool) (x : List D) (ks : List Int) (c i : Int) (ex : List (Nat × V)) : St :=
  { env := [(0, .d (.sl nl (W.map (.int .u8)))), (1, .d (.sl ng (G.map (.int .u8)))), (9, .ptr 0 []), (10, .int .i64 t), (14, .d (.sl nx x)), (15, .d (.sl nk (ks.map (.int .i64)))), (16, .int .i64 c), (17, .int .i64 i)] ++ ex, hp := [(0, .box (.d (.agg (off.map .bool))))], tl := fun _ => none, base := 0, next := 1 }
theorem alone_cnt (nl ng : Bool) (W G : List Int) (hW : U8 W) (hL : W.length ≤ 30) (off : List Bool) (ho : off.length = 30) (t : Int) (nx nk : Bool) (x : List D) (ks : List Int) : ∀ (rest pre : List Int), W = pre ++ rest → ∀ (i : Int), i = pre.length → ∀ (c : Int), 0 ≤ c → c ≤ i →
    run kp (.loop [0, 1, 9, 10, 14, 15, 16, 17] k_law4_DeltaAlone_L2 (cntSt2 nl ng W G off t nx nk x ks c i [])) = some (.out (.ext 4) (cntSt2 nl ng W G off t nx nk x ks (c + ((List.range' pre.length rest.length).filter (comes W off t)).length) W.length [(107, .bool false)]))
  | [], pre, h, i, hi, c, _, _ => by
    simp at h
    subst h hi
    rw [run_round]
    simp [c_law4_DeltaAlone_L2, k_law4_DeltaAlone_L2b, cntSt2]
  | y :: rest, pre, h, i, hi, c, hc0, hci => by
    have hli : i < W.length := by rw [h, hi]; simp; omega
    have hi0 : 0 ≤ i := by omega
    have hget0 : W[i.toNat]? = some y := by rw [h, hi]; simp
    have hget : ∀ hh : i.toNat < W.length, W[i.toNat] = y := fun hh => by rw [List.getElem?_eq_getElem hh] at hget0; injection hget0
    have hw : IntKind.i64.wrap (i + 1) = i + 1 := wrap_i64 (by omega) (by omega)
    have hwc : IntKind.i64.wrap (c + 1) = c + 1 := wrap_i64 (by omega) (by omega)
    have hx := hW y (by rw [h]; simp)
    have t2 : y.tmod 40 = y % 40 := Int.tmod_eq_emod_of_nonneg hx.1
    have w2 : IntKind.i64.wrap (y % 40) = y % 40 := wrap_i64 (by omega) (by omega)
    have hmx : (if y % 40 < 1 then 1 else y % 40) = max (y % 40) 1 := by split <;> omega
    have hoi : i.toNat < off.length := by omega
    have hoi2 : i < (off.length : Int) := by omega
    obtain ⟨b, hb⟩ : ∃ b, off[i.toNat]? = some b := ⟨_, List.getElem?_eq_getElem hoi⟩
    have hb2 : ∀ hh : i.toNat < off.length, off[i.toNat] = b := fun hh => by rw [List.getElem?_eq_getElem hh] at hb; injection hb
    have hin : i.toNat = pre.length := by omega
    have hcm : comes W off t pre.length = (!b && decide (max (y % 40) 1 = t)) := by rw [← hin]; simp [comes, hget0, hb]
    have hr : List.range' pre.length (rest.length + 1) = pre.length :: List.range' (pre.length + 1) rest.length := by simp [List.range'_succ]
    have hpl : (pre ++ [y]).length = pre.length + 1 := by simp
    rw [List.length_cons, hr, List.filter_cons, hcm]
    by_cases hcc : (!b && decide (max (y % 40) 1 = t)) = true
    · have ih := alone_cnt nl ng W G hW hL off ho t nx nk x ks rest (pre ++ [y]) (by simp [h]) (i + 1) (by simp [hi]) (c + 1) (by omega) (by omega)
      rw [if_pos hcc, List.length_cons]
      rw [hpl] at ih
      rw [show c + ((((List.range' (pre.length + 1) rest.length).filter (comes W off t)).length + 1 : Nat) : Int) = c + 1 + ((List.range' (pre.length + 1) rest.length).filter (comes W off t)).length by omega, ← ih, run_round]
      simp only [Bool.and_eq_true, Bool.not_eq_true', decide_eq_true_eq] at hcc
      obtain ⟨rfl, hcc⟩ := hcc
      simp [c_law4_DeltaAlone_L2, k_law4_DeltaAlone_L2b, cntSt2, hi0, hli, hget, t2, w2, hmx, hw, hwc, hoi, hoi2, hb, hb2, hcc]
    · have ih := alone_cnt nl ng W G hW hL off ho t nx nk x ks rest (pre ++ [y]) (by simp [h]) (i + 1) (by simp [hi]) c hc0 (by omega)
      rw [if_neg hcc]
      rw [hpl] at ih
      rw [← ih, run_round]
      cases b with
      | true => simp [c_law4_DeltaAlone_L2, k_law4_DeltaAlone_L2b, cntSt2, hi0, hli, hget, t2, w2, hmx, hw, hwc, hoi, hoi2, hb, hb2]
      | false =>
        have hcc : ¬ max (y % 40) 1 = t := by simpa using hcc
        simp [c_law4_DeltaAlone_L2, k_law4_DeltaAlone_L2b, cntSt2, hi0, hli, hget, t2, w2, hmx, hw, hwc, hoi, hoi2, hb, hb2, hcc]
def alSt3 (nl ng : Bool) (W G : List Int) (off : List Bool) (t : Int) (nx nk : Bool) (x : List D) (ks : List Int) (i : Int) (ex : List (Nat × V)) : St :=
  { env := [(0, .d (.sl nl (W.map (.int .u8)))), (1, .d (.sl ng (G.map (.int .u8)))), (9, .ptr 0 []), (10, .int .i64 t), (14, .d (.sl nx x)), (15, .d (.sl nk (ks.map (.int .i64)))), (18, .int .i64 i)] ++ ex, hp := [(0, .box (.d (.agg (off.map .bool))))], tl := fun _ => none, base := 0, next := 1 }
theorem alone_due (nl ng : Bool) (W G : List Int) (hW : U8 W) (hL : W.length ≤ 30) (off : List Bool) (ho : off.length = 30) (t : Int) (nx nk : Bool) (x : List D) (ks : List Int) (hkl : ks.length ≤ 1000) (hk : ∀ k ∈ ks, ∃ (j : Nat) (x : Int), k = j ∧ W[j]? = some x ∧ off[j]? = some false ∧ max (x % 40) 1 = t) :
    ∀ (rest pre : List Int), ks = pre ++ rest → ∀ (i : Int), i = pre.length →
    run kp (.loop [0, 1, 9, 10, 14, 15, 18] k_law4_DeltaAlone_L3 (alSt3 nl ng W G off t nx nk x ks i [])) = some (.out (.ext 6) (alSt3 nl ng W G off t nx nk x ks ks.length [(134, .bool false)]))
  | [], pre, h, i, hi => by
    simp at h
    subst h hi
    rw [run_round]
    simp [c_law4_DeltaAlone_L3, k_law4_DeltaAlone_L3b, alSt3]
  | k :: rest, pre, h, i, hi => by
    have hli : i < ks.length := by rw [h, hi]; simp; omega
    have hi0 : 0 ≤ i := by omega
    have hget0 : ks[i.toNat]? = some k := by rw [h, hi]; simp
    have hget : ∀ hh : i.toNat < ks.length, ks[i.toNat] = k := fun hh => by rw [List.getElem?_eq_getElem hh] at hget0; injection hget0
    have hw : IntKind.i64.wrap (i + 1) = i + 1 := wrap_i64 (by omega) (by omega)
    obtain ⟨j, y, hj1, hj3, hj4, hj5⟩ := hk k (by rw [h]; simp)
    have hjl := (List.getElem?_eq_some_iff.1 hj3).1
    have hy := hW y (List.mem_of_getElem? hj3)
    have t2 : y.tmod 40 = y % 40 := Int.tmod_eq_emod_of_nonneg hy.1
    have w2 : IntKind.i64.wrap (y % 40) = y % 40 := wrap_i64 (by omega) (by omega)
    have hk0 : ¬ k < 0 := by omega
    have hk0' : 0 ≤ k := by omega
    have hk1 : ¬ (W.length : Int) ≤ k := by omega
    have hk1' : k < (W.length : Int) := by omega
    have hkn : k.toNat = j := by omega
    have hgW : ∀ hh : k.toNat < W.length, W[k.toNat] = y := fun hh => by
      have : W[k.toNat]? = some y := by rw [hkn]; exact hj3
      rw [List.getElem?_eq_getElem hh] at this; injection this
    have hoi2 : k < (off.length : Int) := by omega
    have hb : off[k.toNat]? = some false := by rw [hkn]; exact hj4
    have hb2 : ∀ hh : k.toNat < off.length, off[k.toNat] = false := fun hh => by rw [List.getElem?_eq_getElem hh] at hb; injection hb
    have hmx : (if y % 40 < 1 then 1 else y % 40) = t := by
      rw [← hj5]; split <;> omega
    have ih := alone_due nl ng W G hW hL off ho t nx nk x ks hkl hk rest (pre ++ [k]) (by simp [h]) (i + 1) (by simp [hi])
    rw [← ih, run_round]
    simp [c_law4_DeltaAlone_L3, k_law4_DeltaAlone_L3b, alSt3, hi0, hli, hget, t2, w2, hw, hk0, hk0', hk1, hk1', hgW, hoi2, hb, hb2, hmx]
def alSt1 (nl ng : Bool) (W G : List Int) (off : List Bool) (na : Bool) (a : List Tm) (t : Int) (ex : List (Nat × V)) : St :=
  { env := [(0, .d (.sl nl (W.map (.int .u8)))), (1, .d (.sl ng (G.map (.int .u8)))), (5, .d (.sl na (a.map Tm.d))), (9, .ptr 0 []), (10, .int .i64 t)] ++ ex, hp := [(0, .box (.d (.agg (off.map .bool))))], tl := fun _ => none, base := 0, next := 1 }
set_option maxHeartbeats 4000000 in
theorem alone_tick (nl ng : Bool) (W G : List Int) (hW : U8 W) (hL : W.length ≤ 30) (hG : U8 G) (hGl : G.length ≤ 30) : ∀ (r : Nat) (t : Int), t + r = 41 → 1 ≤ t → ∀ (na : Bool) (a : List Tm) (off : List Bool), (na = true → a = []) → off.length = 30 → InvA W off t a →
    ∃ (na' : Bool) (a' : List Tm) (off' : List Bool) (ex : List (Nat × V)), InvA W off' 41 a' ∧
      run kp (.loop [0, 1, 5, 9, 10] k_law4_DeltaAlone_L1 (alSt1 nl ng W G off na a t [])) = some (.out (.ext 2) (alSt1 nl ng W G off' na' a' 41 [(51, .bool false)]))
  | 0, t, ht, h0, na, a, off, h1, ho, h2 => by
    obtain rfl : t = 41 := by omega
    refine ⟨na, a, off, [], h2, ?_⟩
    rw [run_round]
    simp [c_law4_DeltaAlone_L1, k_law4_DeltaAlone_L1b, alSt1]
  | r + 1, t, ht, h0, na, a, off, h1, ho, h2 => by
    have hw : IntKind.i64.wrap (t + 1) = t + 1 := wrap_i64 (by omega) (by omega)
    have hwm : IntKind.i64.wrap (t - 1) = t - 1 := wrap_i64 (by omega) (by omega)
    have hle : t ≤ 40 := by omega
    -- the tick, behind what goes
    have tick : ∀ (na : Bool) (a : List Tm) (off : List Bool), (na = true → a = []) → off.length = 30 → InvA W off t a →
        ∃ na2 a2, (na2 = true → a2 = []) ∧ InvA W off (t + 1) a2 ∧ ∃ ks nk, run kp (.datk f_delta_Tick [.sl na (a.map Tm.d)]) = some (.ds [.sl na2 (a2.map Tm.d), .sl nk (ks.map (.int .i64))]) ∧
          (ks.length : Int) = 0 + (((List.range' 0 W.length).filter (comes W off t)).length : Int) ∧
          run kp (.loop [0, 1, 9, 10, 14, 15, 16, 17] k_law4_DeltaAlone_L2 (cntSt2 nl ng W G off t na2 nk (a2.map Tm.d) ks 0 0 [])) = some (.out (.ext 4) (cntSt2 nl ng W G off t na2 nk (a2.map Tm.d) ks (0 + (((List.range' 0 W.length).filter (comes W off t)).length : Int)) W.length [(107, .bool false)])) ∧
          run kp (.loop [0, 1, 9, 10, 14, 15, 18] k_law4_DeltaAlone_L3 (alSt3 nl ng W G off t na2 nk (a2.map Tm.d) ks 0 [])) = some (.out (.ext 6) (alSt3 nl ng W G off t na2 nk (a2.map Tm.d) ks ks.length [(134, .bool false)])) := by
      intro na a off h1 ho h2
      have A := delta_Tick na a h1 (by have := h2.inv.len; omega) h2.inv.ok
      obtain ⟨k1, k2, k3⟩ := h2.tick h0 hW
      rw [dueD_sl] at A
      have hna' : na = true → (decT a).dropWhile zT = [] := by
        intro h
        have ha := h1 h
        subst ha
        rfl
      have hkl : (((decT a).takeWhile zT).map Tm.key).length ≤ 1000 := by
        have h1 := (List.takeWhile_sublist (p := zT) (l := decT a)).length_le
        have h4 : (decT a).length = a.length := by have := congrArg List.length (decT_keys a); simpa using this
        have := h2.inv.len
        rw [List.length_map]; omega
      generalize hkk : List.map Tm.key (List.takeWhile zT (decT a)) = ks at *
      refine ⟨na, (decT a).dropWhile zT, hna', k1, ks, ks.isEmpty, A, ?_, alone_cnt nl ng W G hW hL off ho t na ks.isEmpty _ ks W [] rfl 0 rfl 0 (by omega) (by omega), alone_due nl ng W G hW hL off ho t na ks.isEmpty _ ks hkl k2 ks [] rfl 0 rfl⟩
      rw [k3, Int.zero_add, List.range_eq_range']
    by_cases hg : t - 1 < (G.length : Int) ∧ (0 : Int) < W.length
    · obtain ⟨hg1, hg2⟩ := hg
      have ht0 : 0 ≤ t - 1 := by omega
      obtain ⟨g, hgg⟩ : ∃ g, G[(t - 1).toNat]? = some g := ⟨_, List.getElem?_eq_getElem (by omega)⟩
      have hgg2 : ∀ hh : (t - 1).toNat < G.length, G[(t - 1).toNat] = g := fun hh => by rw [List.getElem?_eq_getElem hh] at hgg; injection hgg
      have hgi : (t - 1).toNat = t.toNat - 1 := by omega
      have hgg' := hgg
      have hgg2' := hgg2
      rw [hgi] at hgg'
      simp only [hgi] at hgg2'
      have hg2' : 0 < W.length := by omega
      have hgu := hG g (List.mem_of_getElem? hgg)
      have w1 : IntKind.i64.wrap g = g := wrap_i64 (by omega) (by omega)
      have t1 : g.tmod (W.length : Int) = g % (W.length : Int) := Int.tmod_eq_emod_of_nonneg hgu.1
      have hk1 := Int.emod_nonneg g (show (W.length : Int) ≠ 0 by omega)
      have hk2 := Int.emod_lt_of_pos g hg2
      generalize hkk : g % (W.length : Int) = k at *
      obtain ⟨k, rfl⟩ := Int.eq_ofNat_of_zero_le hk1
      have hkW : k < W.length := by omega
      obtain ⟨y, hy⟩ : ∃ y, W[k]? = some y := ⟨_, List.getElem?_eq_getElem hkW⟩
      have hy2 : ∀ hh : k < W.length, W[k] = y := fun hh => by rw [List.getElem?_eq_getElem hh] at hy; injection hy
      obtain ⟨b, hb⟩ : ∃ b, off[k]? = some b := ⟨_, List.getElem?_eq_getElem (by omega)⟩
      have hb2 : ∀ hh : k < off.length, off[k] = b := fun hh => by rw [List.getElem?_eq_getElem hh] at hb; injection hb
      have hyu := hW y (List.mem_of_getElem? hy)
      have t2 : y.tmod 40 = y % 40 := Int.tmod_eq_emod_of_nonneg hyu.1
      have w2 : IntKind.i64.wrap (y % 40) = y % 40 := wrap_i64 (by omega) (by omega)
      have hmx : (if y % 40 < 1 then 1 else y % 40) = max (y % 40) 1 := by split <;> omega
      have A := delta_Drop na a h1 (by have := h2.inv.len; omega) h2.inv.ok h2.inv.sum k
      obtain ⟨d1, d2⟩ := h2.drop h0 hW k y b hy hb
      have hna2 : na = true → (dropT a k).1 = [] := by
        intro h
        have ha := h1 h
        subst ha
        rfl
      rw [d2] at A
      obtain ⟨na2, a2, e1, e2, ks, nk, e3, e4, e5, e6⟩ := tick na (dropT a k).1 (off.set k true) hna2 (by simpa using ho) d1
      obtain ⟨na', a', off', ex, j1, j2⟩ := alone_tick nl ng W G hW hL hG hGl r (t + 1) (by omega) (by omega) na2 a2 (off.set k true) e1 (by simpa using ho) e2
      refine ⟨na', a', off', ex, j1, ?_⟩
      have hko : k < off.length := by omega
      have hko2 : (k : Int) < (off.length : Int) := by omega
      have hW0 : ¬ ((W.length : Int) = 0) := by omega
      have hW0' : ¬ W = [] := fun e => by rw [e] at hg2; simp at hg2
      simp [cntSt2] at e5
      simp [alSt3] at e6
      rw [← j2, run_round]
      generalize List.map Tm.d (dropT a k).1 = dd at *
      cases b with
      | true => simp [c_law4_DeltaAlone_L1, k_law4_DeltaAlone_L1b, alSt1, hle, hwm, hg1, hg2, ht0, h0, hg2', hgg, hgg2, hgg', hgg2', w1, t1, A, hb, hb2, hy, hy2, hkW, t2, w2, hmx, hko, hko2, hW0, hW0', e3, e4, e5, e6, hw]
      | false => simp [c_law4_DeltaAlone_L1, k_law4_DeltaAlone_L1b, alSt1, hle, hwm, hg1, hg2, ht0, h0, hg2', hgg, hgg2, hgg', hgg2', w1, t1, A, hb, hb2, hy, hy2, hkW, t2, w2, hmx, hko, hko2, hW0, hW0', e3, e4, e5, e6, hw]
    · obtain ⟨na2, a2, e1, e2, ks, nk, e3, e4, e5, e6⟩ := tick na a off h1 ho h2
      obtain ⟨na', a', off', ex, j1, j2⟩ := alone_tick nl ng W G hW hL hG hGl r (t + 1) (by omega) (by omega) na2 a2 off e1 ho e2
      refine ⟨na', a', off', ex, j1, ?_⟩
      simp [cntSt2] at e5
      simp [alSt3] at e6
      rw [← j2, run_round]
      by_cases hg1 : t - 1 < (G.length : Int)
      · have hg2 : ¬ (0 : Int) < W.length := fun h => hg ⟨hg1, h⟩
        have hW0 : W = [] := by
          cases W with
          | nil => rfl
          | cons x l => simp at hg2
        subst hW0
        have hks : ks = [] := by simpa using e4
        subst hks
        simp at e5 e6
        simp [c_law4_DeltaAlone_L1, k_law4_DeltaAlone_L1b, alSt1, hle, hwm, hg1, e3, e4, e5, e6, hw]
      · simp [c_law4_DeltaAlone_L1, k_law4_DeltaAlone_L1b, alSt1, hle, hwm, hg1, e3, e4, e5, e6, hw]
set_option maxHeartbeats 1000000 in
theorem law2_DeltaAlone (xs : List D) (h : Sh.hasL [.sl (.i .u8), .sl (.i .u8)] xs) : ∃ u k, run kp (.call f_law4_DeltaAlone (xs.map ofD) (fun _ => none) 0) = some (.val (.bool true) u k) := by
  obtain ⟨x0, _, rfl, h0, h⟩ := hasL_cons h
  obtain ⟨x1, _, rfl, h1, h⟩ := hasL_cons h
  obtain rfl := hasL_nil h
  obtain ⟨nl, W, rfl, hnl, hlen, hW⟩ := has_u8s h0
  obtain ⟨ng, G, rfl, hng, hlenG, hG⟩ := has_u8s h1
  refine ⟨[], 0, ?_⟩
  rw [run_call, kp_law4_DeltaAlone]
  by_cases g : W.length ≤ 30
  · have g1 : ¬ (30 : Int) < W.length := by omega
    by_cases g' : G.length ≤ 30
    · have g1' : ¬ (30 : Int) < G.length := by omega
      obtain ⟨na, a, k1, k2, k3, lp⟩ := alone_add nl ng W G hW g W [] rfl 0 rfl true [] (fun _ => rfl) ⟨⟨fun t ht => by simp at ht, by simp [sumA], by simp, by simp⟩, fun e he => by simp [toDu] at he, by simp [toDu]⟩ (by simp) (fun k hk => by omega)
      have ia : InvA W (List.replicate 30 false) 1 a := ⟨k2.inv, fun e he => by
        obtain ⟨k, x, e1, e2, e3, e4, e5⟩ := k2.all e he
        exact ⟨k, x, e1, e3, by rw [List.getElem?_replicate, if_pos (by omega)], e4, e5⟩, fun k x hx _ _ => k3 k (List.getElem?_eq_some_iff.1 hx).1⟩
      obtain ⟨na', a', off', ex, j1, lq⟩ := alone_tick nl ng W G hW g hG g' 40 1 (by omega) (by omega) na a (List.replicate 30 false) k1 (by simp) ia
      have ha' : a' = [] := by
        cases a' with
        | nil => rfl
        | cons u r =>
          exfalso
          obtain ⟨k, x, e1, e2, e3, e4, e5⟩ := j1.all _ (by simp only [toDu]; exact List.mem_cons_self)
          have hx := hW x (List.mem_of_getElem? e2)
          omega
      subst ha'
      simp only [aloneSt, List.append_nil, List.map_nil] at lp
      simp [alSt1, List.replicate] at lq
      simp [k_law4_DeltaAlone, canK_canH, law4_begun, g1, g1', lp, lq]
    · have g1' : (30 : Int) < G.length := by omega
      simp [k_law4_DeltaAlone, canK_canH, law4_begun, g1, g1']
  · have g1 : (30 : Int) < W.length := by omega
    simp [k_law4_DeltaAlone, canK_canH, law4_begun, g1]
end Go.Cd
