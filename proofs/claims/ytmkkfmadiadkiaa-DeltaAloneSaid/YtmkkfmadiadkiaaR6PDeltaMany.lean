/- The law DeltaMany, as the evaluator has it. No conditions. -/
import Derived.Test.YtmkkfmadiadkiaaR6QDelH
set_option linter.unusedVariables false
set_option linter.unusedSimpArgs false
namespace Go.Cd
open Go Go.Fw
def U8 (V : List Int) : Prop := ∀ x ∈ V, 0 ≤ x ∧ x < 256
def ltE (a b : Du) : Prop := a.at_ < b.at_ ∨ (a.at_ = b.at_ ∧ a.key < b.key)
/-- One that is there ahead of tick t; c: at most so many ticks; m: how many there are. -/
def okE (V : List Int) (c m t : Int) (e : Du) : Prop := ∃ (k : Nat) (x : Int), e.key = k ∧ (k : Int) < m ∧ V[k]? = some x ∧ e.at_ = x % c - (t - 1) ∧ (t = 1 ∨ 1 ≤ e.at_)
structure InvM (V : List Int) (c m t : Int) (a : List Tm) : Prop where
  inv : InvT a
  all : ∀ e ∈ toDu 0 a, okE V c m t e
  srt : (toDu 0 a).Pairwise ltE
theorem insD_srt : ∀ (l : List Du) (n k : Int), l.Pairwise ltE → (∀ e ∈ l, e.key < k) → (insD l n k).Pairwise ltE
  | [], n, k, _, _ => by simp [insD]
  | t :: r, n, k, hs, hk => by
    rw [List.pairwise_cons] at hs
    simp only [insD]
    split
    · rename_i h
      refine List.pairwise_cons.2 ⟨fun e he => ?_, insD_srt r n k hs.2 (fun e he => hk e (by simp [he]))⟩
      rw [insD_cnt] at he
      rcases List.mem_append.1 he with he | he
      · exact hs.1 e (List.mem_of_mem_take he)
      · rcases List.mem_cons.1 he with he | he
        · subst he
          have := hk t (by simp)
          by_cases h2 : t.at_ < n
          · exact .inl h2
          · exact .inr ⟨by simp only; omega, this⟩
        · exact hs.1 e (List.mem_of_mem_drop he)
    · rename_i h
      refine List.pairwise_cons.2 ⟨fun e he => ?_, List.pairwise_cons.2 hs⟩
      rcases List.mem_cons.1 he with he | he
      · subst he; left; simp only; omega
      · rcases hs.1 e he with h2 | h2
        · left; simp only; omega
        · left; simp only; omega
theorem mem_insD (l : List Du) (n k : Int) (e : Du) : e ∈ insD l n k ↔ e = ⟨n, k⟩ ∨ e ∈ l := by
  rw [insD_cnt]
  constructor
  · intro h
    rcases List.mem_append.1 h with h | h
    · exact .inr (List.mem_of_mem_take h)
    · rcases List.mem_cons.1 h with h | h
      · exact .inl h
      · exact .inr (List.mem_of_mem_drop h)
  · intro h
    rcases h with h | h
    · subst h; simp
    · have := List.take_append_drop (cntD l n) l
      rw [← this] at h
      rcases List.mem_append.1 h with h | h
      · exact List.mem_append_left _ h
      · exact List.mem_append_right _ (List.mem_cons_of_mem _ h)
theorem toDu_mem : ∀ (a : List Tm) (b : Int) (t : Tm), t ∈ a → ∃ e ∈ toDu b a, e.key = t.key
  | [], _, _, h => by simp at h
  | u :: r, b, t, h => by
    rcases List.mem_cons.1 h with h | h
    · subst h; exact ⟨_, by simp [toDu]; left; rfl, rfl⟩
    · obtain ⟨e, h1, h2⟩ := toDu_mem r (b + u.after) t h
      exact ⟨e, by simp [toDu, h1], h2⟩
/-- One more, whose key is the next. -/
theorem InvM.add {V : List Int} {c m : Int} {a : List Tm} (h : InvM V c m 1 a) (hc : 0 < c ∧ c ≤ 100) (x : Int) (i : Nat) (hm : (i : Int) = m) (hx : V[i]? = some x) (hu : 0 ≤ x) (hl : a.length < 64) :
    InvM V c (m + 1) 1 (addT a (x % c) i).1 ∧ (addT a (x % c) i).2 = true ∧ (addT a (x % c) i).1.length = a.length + 1 := by
  have hxc : 0 ≤ x % c ∧ x % c < c := ⟨Int.emod_nonneg _ (by omega), Int.emod_lt_of_pos _ hc.1⟩
  have hf : ¬ 0 ≤ findT a i 0 := by
    have := (findT_neg a i 0 (by omega)).2 (fun t ht e => by
      obtain ⟨e', h1, h2⟩ := toDu_mem a 0 t ht
      obtain ⟨k, y, k1, k2, _⟩ := h.all e' h1
      omega)
    omega
  have hcond : ¬ (x % c < 0 ∨ 4611686018427387904 < x % c ∨ 0 ≤ findT a i 0 ∨ 64 ≤ a.length) := by omega
  have hadd : addT a (x % c) i = (insT a (x % c) i, true) := by simp only [addT]; rw [if_neg hcond]
  have hD : toDu 0 (insT a (x % c) i) = insD (toDu 0 a) (x % c) i := by rw [insD_toDu, Int.sub_zero]
  have hi := h.inv.add (x % c) i
  rw [hadd] at hi ⊢
  refine ⟨⟨hi, fun e he => ?_, ?_⟩, rfl, insT_len a _ _⟩
  · simp only at he
    rw [hD, mem_insD] at he
    rcases he with he | he
    · subst he
      exact ⟨i, x, rfl, by omega, hx, by simp, .inl rfl⟩
    · obtain ⟨k, y, k1, k2, k3⟩ := h.all e he
      exact ⟨k, y, k1, by omega, k3⟩
  · simp only
    rw [hD]
    exact insD_srt _ _ _ h.srt (fun e he => by
      obtain ⟨k, y, k1, k2, _⟩ := h.all e he
      omega)
/-- A tick: what comes, and what stays. -/
theorem InvM.tick {V : List Int} {c m t : Int} {a : List Tm} (h : InvM V c m t a) (ht : 1 ≤ t) (hV : U8 V) (hc : 0 < c) :
    InvM V c m (t + 1) ((decT a).dropWhile zT) ∧ a.length = (((decT a).takeWhile zT).map Tm.key).length + ((decT a).dropWhile zT).length ∧
    (∀ k ∈ ((decT a).takeWhile zT).map Tm.key, ∃ (j : Nat) (x : Int), k = j ∧ (j : Int) < m ∧ V[j]? = some x ∧ max (x % c) 1 = t) ∧
    (1 < t → (((decT a).takeWhile zT).map Tm.key).Pairwise (· < ·)) := by
  obtain ⟨h1, h2⟩ := tk_nought a h.inv.ok
  have hlen : a.length = (((decT a).takeWhile zT).map Tm.key).length + ((decT a).dropWhile zT).length := by
    have h4 : (decT a).length = a.length := by have := congrArg List.length (decT_keys a); simpa using this
    rw [List.length_map, ← List.length_append, List.takeWhile_append_dropWhile, h4]
  refine ⟨⟨h.inv.tick, fun e he => ?_, ?_⟩, hlen, fun k hk => ?_, fun ht1 => ?_⟩
  · rw [← h2] at he
    obtain ⟨u, hu, rfl⟩ := List.mem_map.1 he
    rw [List.mem_filter] at hu
    obtain ⟨k, y, k1, k2, k3, k4, k5⟩ := h.all u hu.1
    have : ¬ u.at_ ≤ 1 := by simpa using hu.2
    exact ⟨k, y, k1, k2, k3, by simp only; omega, .inr (by simp only; omega)⟩
  · rw [← h2]
    simp only [tkD]
    rw [List.pairwise_map]
    refine (h.srt.sublist List.filter_sublist).imp (fun {x y} hxy => ?_)
    rcases hxy with hxy | hxy
    · left; simp only; omega
    · right; simp only; omega
  · rw [← h1] at hk
    obtain ⟨u, hu, rfl⟩ := List.mem_map.1 hk
    rw [List.mem_filter] at hu
    obtain ⟨k, y, k1, k2, k3, k4, k5⟩ := h.all u hu.1
    have hle : u.at_ ≤ 1 := by simpa using hu.2
    have hy := hV y (List.mem_of_getElem? k3)
    have := Int.emod_nonneg y (show c ≠ 0 by omega)
    exact ⟨k, y, k1, k2, k3, by omega⟩
  · rw [← h1]
    simp only [tkK]
    rw [List.pairwise_map]
    have hs := h.srt.sublist (List.filter_sublist (p := fun t : Du => decide (t.at_ ≤ 1)))
    refine List.Pairwise.imp_of_mem (fun {x y} hx hy hxy => ?_) hs
    rw [List.mem_filter] at hx hy
    obtain ⟨k, z, k1, k2, k3, k4, k5⟩ := h.all x hx.1
    obtain ⟨k', z', k1', k2', k3', k4', k5'⟩ := h.all y hy.1
    have hx2 : x.at_ ≤ 1 := by simpa using hx.2
    have hy2 : y.at_ ≤ 1 := by simpa using hy.2
    rcases hxy with hxy | hxy <;> omega
def manySt (nl : Bool) (W : List Int) (na : Bool) (a : List Tm) (i : Int) (ex : List (Nat × V)) : St :=
  { env := [(0, .d (.sl nl (W.map (.int .u8)))), (3, .d (.sl na (a.map Tm.d))), (4, .int .i64 i)] ++ ex, hp := [], tl := fun _ => none, base := 0, next := 0 }
theorem many_add (nl : Bool) (W : List Int) (hW : U8 W) (hL : W.length ≤ 100) : ∀ (rest pre : List Int), W = pre ++ rest → ∀ (i : Int), i = pre.length → ∀ (na : Bool) (a : List Tm), (na = true → a = []) → InvM W 20 (min i 64) 1 a → (a.length : Int) = min i 64 →
    ∃ na' a', (na' = true → a' = []) ∧ InvM W 20 (min (W.length : Int) 64) 1 a' ∧ (a'.length : Int) = min (W.length : Int) 64 ∧
      run kp (.loop [0, 3, 4] k_law4_DeltaMany_L0 (manySt nl W na a i [])) = some (.out (.ext 0) (manySt nl W na' a' W.length [(22, .bool false)]))
  | [], pre, h, i, hi, na, a, h1, h2, h3 => by
    simp at h
    subst h hi
    refine ⟨na, a, h1, h2, h3, ?_⟩
    rw [run_round]
    simp [c_law4_DeltaMany_L0, k_law4_DeltaMany_L0b, manySt]
  | x :: rest, pre, h, i, hi, na, a, h1, h2, h3 => by
    have hli : i < W.length := by rw [h, hi]; simp; omega
    have hi0 : 0 ≤ i := by omega
    have hget0 : W[i.toNat]? = some x := by rw [h, hi]; simp
    have hget : ∀ hh : i.toNat < W.length, W[i.toNat] = x := fun hh => by rw [List.getElem?_eq_getElem hh] at hget0; injection hget0
    have hw : IntKind.i64.wrap (i + 1) = i + 1 := wrap_i64 (by omega) (by omega)
    have hx := hW x (by rw [h]; simp)
    have t2 : x.tmod 20 = x % 20 := Int.tmod_eq_emod_of_nonneg hx.1
    have w2 : IntKind.i64.wrap (x % 20) = x % 20 := wrap_i64 (by omega) (by omega)
    have A := delta_Add na a h1 (by omega) h2.inv.ok (x % 20) i
    by_cases hlt : i < 64
    · have hin : (i.toNat : Int) = i := by omega
      obtain ⟨k1, k2, k3⟩ := h2.add (by omega) x i.toNat (by omega) hget0 hx.1 (by omega)
      rw [hin] at k1 k2 k3
      rw [k2] at A
      have hm : min (i + 1) 64 = min i 64 + 1 := by omega
      obtain ⟨na', a', j1, j2, j3, j4⟩ := many_add nl W hW hL rest (pre ++ [x]) (by simp [h]) (i + 1) (by simp [hi]) false (addT a (x % 20) i).1 (by simp) (by rw [hm]; exact k1) (by omega)
      refine ⟨na', a', j1, j2, j3, ?_⟩
      rw [← j4, run_round]
      simp [c_law4_DeltaMany_L0, k_law4_DeltaMany_L0b, manySt, hi0, hli, hget, t2, w2, A, hlt, hw]
    · have hf : addT a (x % 20) i = (a, false) := by
        simp only [addT]; rw [if_pos]; right; right; right; omega
      rw [hf] at A
      have hm : min (i + 1) 64 = min i 64 := by omega
      obtain ⟨na', a', j1, j2, j3, j4⟩ := many_add nl W hW hL rest (pre ++ [x]) (by simp [h]) (i + 1) (by simp [hi]) na a h1 (by rw [hm]; exact h2) (by omega)
      refine ⟨na', a', j1, j2, j3, ?_⟩
      rw [← j4, run_round]
      simp [c_law4_DeltaMany_L0, k_law4_DeltaMany_L0b, manySt, hi0, hli, hget, t2, w2, A, hlt, hw]
def mdSt (nl : Bool) (W : List Int) (n t : Int) (nx nk : Bool) (x : List D) (ks : List Int) (last i : Int) (ex : List (Nat × V)) : St :=
  { env := [(0, .d (.sl nl (W.map (.int .u8)))), (7, .int .i64 n), (8, .int .i64 t), (9, .d (.sl nx x)), (10, .d (.sl nk (ks.map (.int .i64)))), (11, .int .i64 last), (12, .int .i64 i)] ++ ex, hp := [], tl := fun _ => none, base := 0, next := 0 }
theorem many_due (nl : Bool) (W : List Int) (hW : U8 W) (hL : W.length ≤ 100) (n t : Int) (nx nk : Bool) (x : List D) (ks : List Int) (hkl : ks.length ≤ 1000) (hk : ∀ k ∈ ks, ∃ (j : Nat) (x : Int), k = j ∧ (j : Int) < min (W.length : Int) 64 ∧ W[j]? = some x ∧ max (x % 20) 1 = t) (hp : 1 < t → ks.Pairwise (· < ·)) :
    ∀ (rest pre : List Int), ks = pre ++ rest → ∀ (i : Int), i = pre.length → ∀ (last : Int), (1 < t → ∀ k ∈ rest, last < k) →
    ∃ last', run kp (.loop [0, 7, 8, 9, 10, 11, 12] k_law4_DeltaMany_L2 (mdSt nl W n t nx nk x ks last i [])) = some (.out (.ext 4) (mdSt nl W n t nx nk x ks last' ks.length [(54, .bool false)]))
  | [], pre, h, i, hi, last, _ => by
    simp at h
    subst h hi
    refine ⟨last, ?_⟩
    rw [run_round]
    simp [c_law4_DeltaMany_L2, k_law4_DeltaMany_L2b, mdSt]
  | k :: rest, pre, h, i, hi, last, hlast => by
    have hli : i < ks.length := by rw [h, hi]; simp; omega
    have hi0 : 0 ≤ i := by omega
    have hget0 : ks[i.toNat]? = some k := by rw [h, hi]; simp
    have hget : ∀ hh : i.toNat < ks.length, ks[i.toNat] = k := fun hh => by rw [List.getElem?_eq_getElem hh] at hget0; injection hget0
    have hw : IntKind.i64.wrap (i + 1) = i + 1 := wrap_i64 (by omega) (by omega)
    obtain ⟨j, y, hj1, hj2, hj3, hj4⟩ := hk k (by rw [h]; simp)
    have hy := hW y (List.mem_of_getElem? hj3)
    have t2 : y.tmod 20 = y % 20 := Int.tmod_eq_emod_of_nonneg hy.1
    have w2 : IntKind.i64.wrap (y % 20) = y % 20 := wrap_i64 (by omega) (by omega)
    have hk0 : ¬ k < 0 := by omega
    have hk0' : 0 ≤ k := by omega
    have hk1 : ¬ (W.length : Int) ≤ k := by omega
    have hk1' : k < (W.length : Int) := by omega
    have hk2 : ¬ 64 ≤ k := by omega
    have hkn : k.toNat = j := by omega
    have hgW : ∀ hh : k.toNat < W.length, W[k.toNat] = y := fun hh => by
      have : W[k.toNat]? = some y := by rw [hkn]; exact hj3
      rw [List.getElem?_eq_getElem hh] at this; injection this
    have hmx : (if y % 20 < 1 then 1 else y % 20) = t := by
      rw [← hj4]; split <;> omega
    have hmx2 : 1 < t → last < k := fun ht => hlast ht k (by simp)
    obtain ⟨last', ih⟩ := many_due nl W hW hL n t nx nk x ks hkl hk hp rest (pre ++ [k]) (by simp [h]) (i + 1) (by simp [hi]) k (fun ht k' hk' => by
      have := hp ht
      rw [h, List.pairwise_append] at this
      exact (List.pairwise_cons.1 this.2.1).1 k' hk')
    refine ⟨last', ?_⟩
    rw [← ih, run_round]
    by_cases ht : 1 < t
    · have hl : ¬ k ≤ last := by have := hmx2 ht; omega
      simp [c_law4_DeltaMany_L2, k_law4_DeltaMany_L2b, mdSt, hi0, hli, hget, t2, w2, hw, hk0, hk0', hk1, hk1', hk2, hgW, hmx, ht, hl]
    · simp [c_law4_DeltaMany_L2, k_law4_DeltaMany_L2b, mdSt, hi0, hli, hget, t2, w2, hw, hk0, hk0', hk1, hk1', hk2, hgW, hmx, ht]
def mtSt (nl : Bool) (W : List Int) (na : Bool) (a : List Tm) (n t : Int) (ex : List (Nat × V)) : St :=
  { env := [(0, .d (.sl nl (W.map (.int .u8)))), (3, .d (.sl na (a.map Tm.d))), (7, .int .i64 n), (8, .int .i64 t)] ++ ex, hp := [], tl := fun _ => none, base := 0, next := 0 }
set_option maxHeartbeats 1000000 in
theorem many_tick (nl : Bool) (W : List Int) (hW : U8 W) (hL : W.length ≤ 100) : ∀ (r : Nat) (t : Int), t + r = 21 → 1 ≤ t → ∀ (na : Bool) (a : List Tm) (n : Int), (na = true → a = []) → InvM W 20 (min (W.length : Int) 64) t a → 0 ≤ n → n + a.length = min (W.length : Int) 64 →
    ∃ (na' : Bool) (a' : List Tm) (n' : Int), InvM W 20 (min (W.length : Int) 64) 21 a' ∧ n' + a'.length = min (W.length : Int) 64 ∧
      run kp (.loop [0, 3, 7, 8] k_law4_DeltaMany_L1 (mtSt nl W na a n t [])) = some (.out (.ext 2) (mtSt nl W na' a' n' 21 [(43, .bool false)]))
  | 0, t, ht, h0, na, a, n, h1, h2, hn, h3 => by
    obtain rfl : t = 21 := by omega
    refine ⟨na, a, n, h2, h3, ?_⟩
    rw [run_round]
    simp [c_law4_DeltaMany_L1, k_law4_DeltaMany_L1b, mtSt]
  | r + 1, t, ht, h0, na, a, n, h1, h2, hn, h3 => by
    have hw : IntKind.i64.wrap (t + 1) = t + 1 := wrap_i64 (by omega) (by omega)
    have hle : t ≤ 20 := by omega
    have A := delta_Tick na a h1 (by have := h2.inv.len; omega) h2.inv.ok
    obtain ⟨k1, k2, k3, k4⟩ := h2.tick h0 hW (by omega)
    rw [dueD_sl] at A
    have hna' : na = true → (decT a).dropWhile zT = [] := by
      intro h
      have ha := h1 h
      subst ha
      rfl
    generalize hkk : List.map Tm.key (List.takeWhile zT (decT a)) = ks at *
    generalize (decT a).dropWhile zT = a' at *
    have hal := h2.inv.len
    obtain ⟨last', lp⟩ := many_due nl W hW hL n t na ks.isEmpty (a'.map Tm.d) ks (by omega) k3 k4 ks [] rfl 0 rfl (-1) (fun _ k hk => by
      obtain ⟨j, _, hj, _⟩ := k3 k hk
      omega)
    simp only [mdSt, List.append_nil] at lp
    have hw2 : IntKind.i64.wrap (n + (ks.length : Int)) = n + ks.length := wrap_i64 (by omega) (by omega)
    obtain ⟨na', a2, n', j1, j2, j3⟩ := many_tick nl W hW hL r (t + 1) (by omega) (by omega) na a' (n + ks.length) hna' k1 (by omega) (by omega)
    refine ⟨na', a2, n', j1, j2, ?_⟩
    generalize ks.isEmpty = e at *
    rw [← j3, run_round]
    simp [c_law4_DeltaMany_L1, k_law4_DeltaMany_L1b, mtSt, hle, A, lp, hw, hw2]
theorem has_u8s {x : D} (h : Sh.has (.sl (.i .u8)) x) : ∃ nl l, x = .sl nl (l.map (.int .u8)) ∧ (nl = true → l = []) ∧ l.length ≤ maxLen ∧ U8 l := by
  obtain ⟨nl, l, h1, h2, h3, h4⟩ := has_nums h
  exact ⟨nl, l, h1, h2, h3, fun n hn => wf_u8 (h4 n hn)⟩
set_option maxHeartbeats 1000000 in
theorem law2_DeltaMany (xs : List D) (h : Sh.hasL [.sl (.i .u8)] xs) : ∃ u k, run kp (.call f_law4_DeltaMany (xs.map ofD) (fun _ => none) 0) = some (.val (.bool true) u k) := by
  obtain ⟨x0, _, rfl, h0, h⟩ := hasL_cons h
  obtain rfl := hasL_nil h
  obtain ⟨nl, W, rfl, hnl, hlen, hW⟩ := has_u8s h0
  refine ⟨[], 0, ?_⟩
  rw [run_call, kp_law4_DeltaMany]
  by_cases g : W.length ≤ 100
  · have g1 : ¬ (100 : Int) < W.length := by omega
    obtain ⟨na, a, k1, k2, k3, lp⟩ := many_add nl W hW g W [] rfl 0 rfl true [] (fun _ => rfl) ⟨⟨fun t ht => by simp at ht, by simp [sumA], by simp, by simp⟩, fun e he => by simp [toDu] at he, by simp [toDu]⟩ (by show (0 : Int) = min 0 64; omega)
    obtain ⟨na', a', n', j1, j2, lq⟩ := many_tick nl W hW g 20 1 (by omega) (by omega) na a 0 k1 k2 (by omega) (by omega)
    have ha' : a' = [] := by
      cases a' with
      | nil => rfl
      | cons u r =>
        exfalso
        obtain ⟨k, x, e1, e2, e3, e4, e5⟩ := j1.all _ (by simp only [toDu]; exact List.mem_cons_self)
        have hx := hW x (List.mem_of_getElem? e3)
        omega
    subst ha'
    have hn' : n' = min (W.length : Int) 64 := by simpa using j2
    have hmn : (if (64 : Int) < W.length then 64 else (W.length : Int)) = min (W.length : Int) 64 := by
      split <;> omega
    simp only [manySt, List.append_nil, List.map_nil] at lp
    simp only [mtSt, List.append_nil, List.map_nil] at lq
    simp [k_law4_DeltaMany, canK_canH, law4_begun, g1, lp, lq, hn', hmn]
  · have g1 : (100 : Int) < W.length := by omega
    simp [k_law4_DeltaMany, canK_canH, law4_begun, g1]
end Go.Cd
