/- The law DeltaAll, as the evaluator has it. No conditions. -/
import Derived.Test.YtmkkfmadiadkiaaR6QDelH
set_option linter.unusedVariables false
set_option linter.unusedSimpArgs false
namespace Go.Cd
open Go Go.Fw
structure Deed where
  a : Int
  b : Int
  c : Int
def Deed.d (x : Deed) : D := .agg [.int .u8 x.a, .int .u8 x.b, .int .u8 x.c]
def Deed.ok (x : Deed) : Prop := (0 ≤ x.a ∧ x.a < 256) ∧ (0 ≤ x.b ∧ x.b < 256) ∧ (0 ≤ x.c ∧ x.c < 256)
def runSt (nl : Bool) (L : List Deed) (n key : Int) (i : Int) (na nb : Bool) (a : List Tm) (ex : List (Nat × V)) : St :=
  { env := [(0, .d (.sl nl (L.map Deed.d))), (1, .int .i64 n), (2, .int .i64 key), (7, .d (.sl na (a.map Tm.d))), (8, .d (.sl nb ((toDu 0 a).map Du.d))), (9, .int .i64 i)] ++ ex, hp := [], tl := fun _ => none, base := 0, next := 0 }
def keysT (a : List Tm) : Prop := ∀ t ∈ a, 0 ≤ t.key ∧ t.key < 12
def dueSt (nl : Bool) (L : List Deed) (n key : Int) (i : Int) (nx ny nk : Bool) (x y : List D) (ks : List Int) (m : Int) (ex : List (Nat × V)) : St :=
  { env := [(0, .d (.sl nl (L.map Deed.d))), (1, .int .i64 n), (2, .int .i64 key), (9, .int .i64 i), (19, .d (.sl nx x)), (20, .d (.sl nk (ks.map (.int .i64)))), (21, .d (.sl ny y)), (22, .d (.sl nk (ks.map (.int .i64)))), (23, .int .i64 m)] ++ ex, hp := [], tl := fun _ => none, base := 0, next := 0 }
theorem due_loop (nl : Bool) (L : List Deed) (n key : Int) (i : Int) (nx ny nk : Bool) (x y : List D) (ks : List Int) (hk : ks.length ≤ 1000) : ∀ (rest pre : List Int), ks = pre ++ rest → ∀ (m : Int), m = pre.length →
    run kp (.loop [0, 1, 2, 9, 19, 20, 21, 22, 23] k_law4_DeltaAll_L1 (dueSt nl L n key i nx ny nk x y ks m [])) = some (.out (.ext 3) (dueSt nl L n key i nx ny nk x y ks ks.length [(72, .bool false)]))
  | [], pre, h, m, hm => by
    simp at h
    subst h hm
    rw [run_round]
    simp [c_law4_DeltaAll_L1, k_law4_DeltaAll_L1b, dueSt]
  | k :: rest, pre, h, m, hm => by
    have hli : m < ks.length := by rw [h, hm]; simp; omega
    have hi0 : 0 ≤ m := by omega
    have hget0 : ks[m.toNat]? = some k := by rw [h, hm]; simp
    have hget : ∀ hh : m.toNat < ks.length, ks[m.toNat] = k := fun hh => by rw [List.getElem?_eq_getElem hh] at hget0; injection hget0
    have hw : IntKind.i64.wrap (m + 1) = m + 1 := wrap_i64 (by omega) (by omega)
    rw [← due_loop nl L n key i nx ny nk x y ks hk rest (pre ++ [k]) (by simp [h]) (m + 1) (by simp [hm]), run_round]
    simp [c_law4_DeltaAll_L1, k_law4_DeltaAll_L1b, dueSt, hi0, hli, hget, hw]
theorem addT_keys {a : List Tm} (h : keysT a) {n k : Int} (hk : 0 ≤ k ∧ k < 12) : keysT (addT a n k).1 := by
  unfold addT
  split
  · exact h
  · intro t ht
    have : t.key ∈ (insT a n k).map Tm.key := List.mem_map.2 ⟨t, ht, rfl⟩
    rw [(insT_keys a n k).mem_iff] at this
    rcases List.mem_cons.1 this with e | e
    · rw [e]; exact hk
    · obtain ⟨u, hu, e⟩ := List.mem_map.1 e
      rw [← e]; exact h u hu
theorem addT_false {a : List Tm} {n k : Int} (h : (addT a n k).2 = false) : (addT a n k).1 = a := by
  by_cases c : n < 0 ∨ 4611686018427387904 < n ∨ 0 ≤ findT a k 0 ∨ 64 ≤ a.length
  · simp [addT, c]
  · simp [addT, c] at h
theorem dropT_keys {a : List Tm} (h : keysT a) {k : Int} : keysT (dropT a k).1 := by
  unfold dropT
  split
  · exact h
  · intro t ht
    have : t.key ∈ (drT a k).map Tm.key := List.mem_map.2 ⟨t, ht, rfl⟩
    have := (drT_keys a k).mem this
    obtain ⟨u, hu, e⟩ := List.mem_map.1 this
    rw [← e]; exact h u hu
theorem tickT_keys {a : List Tm} (h : keysT a) : keysT ((decT a).dropWhile zT) := by
  intro t ht
  have h1 := (List.dropWhile_sublist (p := zT) (l := decT a)).mem ht
  have : t.key ∈ (decT a).map Tm.key := List.mem_map.2 ⟨t, h1, rfl⟩
  rw [decT_keys] at this
  obtain ⟨u, hu, e⟩ := List.mem_map.1 this
  rw [← e]; exact h u hu
theorem toDu_keys (a : List Tm) (b : Int) (h : okT a) (hs : b + sumA a ≤ 4611686018427387904) (hb : 0 ≤ b) : ∀ t ∈ toDu b a, -4611686018427387904 ≤ t.at_ ∧ t.at_ ≤ 4611686018427387904 := by
  induction a generalizing b with
  | nil => intro t ht; simp [toDu] at ht
  | cons u r ih =>
    have hu := h u (by simp)
    have hr := sumA_nonneg r (fun x hx => h x (by simp [hx]))
    have e : sumA (u :: r) = u.after + sumA r := by simp [sumA]
    intro t ht
    simp only [toDu, List.mem_cons] at ht
    rcases ht with ht | ht
    · subst ht; simp only; omega
    · exact ih (b + u.after) (fun x hx => h x (by simp [hx])) (by omega) (by omega) t ht
/-- What a round of the run comes to. -/
theorem addD_toDu (a : List Tm) (n k : Int) : addD (toDu 0 a) n k = (toDu 0 (addT a n k).1, (addT a n k).2) := by
  unfold addD addT
  have h1 := hasD_find a 0 k
  rw [toDu_length]
  by_cases h : hasD (toDu 0 a) k = true ∨ n < 0 ∨ 4611686018427387904 < n ∨ 64 ≤ a.length
  · rw [if_pos h, if_pos]
    rcases h with h | h | h | h
    · exact .inr (.inr (.inl (h1.1 h)))
    · exact .inl h
    · exact .inr (.inl h)
    · exact .inr (.inr (.inr h))
  · rw [if_neg h, if_neg, insD_toDu, Int.sub_zero]
    simp only [not_or] at h ⊢
    exact ⟨h.2.1, h.2.2.1, fun hh => h.1 (h1.2 hh), h.2.2.2⟩
theorem dropD_toDu {a : List Tm} (h : InvT a) (k : Int) : drD (toDu 0 a) k = toDu 0 (dropT a k).1 ∧ hasD (toDu 0 a) k = (dropT a k).2 := by
  unfold dropT
  have h1 := hasD_find a 0 k
  by_cases hc : findT a k 0 < 0
  · rw [if_pos hc]
    refine ⟨drD_none a 0 k ((findT_neg a k 0 (by omega)).1 hc), ?_⟩
    cases hh : hasD (toDu 0 a) k with
    | false => rfl
    | true => have := h1.1 hh; omega
  · rw [if_neg hc]
    refine ⟨drD_toDu a 0 k h.nd ?_, h1.2 (by omega)⟩
    apply Classical.byContradiction
    intro hn
    exact hc ((findT_neg a k 0 (by omega)).2 (fun t ht e => hn ⟨t, ht, e⟩))
set_option maxHeartbeats 4000000 in
theorem all_round (nl : Bool) (L : List Deed) (hL : L.length ≤ 80) (n key : Int) (x : Deed) (hx : x.ok) (i : Int) (hi0 : 0 ≤ i) (hli : i < L.length) (hget : ∀ hh : i.toNat < L.length, L[i.toNat] = x) (na nb : Bool) (a : List Tm) (hna : na = true → a = []) (hnb : nb = true → a = []) (inv : InvT a) (hk : keysT a) :
    ∃ na' nb' a', (na' = true → a' = []) ∧ (nb' = true → a' = []) ∧ InvT a' ∧ keysT a' ∧ run kp (.loop [0, 1, 2, 7, 8, 9] k_law4_DeltaAll_L0 (runSt nl L n key i na nb a [])) = run kp (.loop [0, 1, 2, 7, 8, 9] k_law4_DeltaAll_L0 (runSt nl L n key (i + 1) na' nb' a' [])) := by
  obtain ⟨hxa, hxb, hxc⟩ := hx
  have hw : IntKind.i64.wrap (i + 1) = i + 1 := wrap_i64 (by omega) (by omega)
  have t1 : x.a.tmod 5 = x.a % 5 := Int.tmod_eq_emod_of_nonneg hxa.1
  have t2 : x.b.tmod 9 = x.b % 9 := Int.tmod_eq_emod_of_nonneg hxb.1
  have t3 : x.c.tmod 12 = x.c % 12 := Int.tmod_eq_emod_of_nonneg hxc.1
  have w2 : IntKind.i64.wrap (x.b % 9) = x.b % 9 := wrap_i64 (by omega) (by omega)
  have w3 : IntKind.i64.wrap (x.c % 12) = x.c % 12 := wrap_i64 (by omega) (by omega)
  have hal : a.length ≤ 1000 := by have := inv.len; omega
  have hdl : (toDu 0 a).length ≤ 1000 := by rw [toDu_length]; exact hal
  have c1 : x.a % 5 = 0 ∨ x.a % 5 = 1 ∨ x.a % 5 = 2 ∨ (x.a % 5 ≠ 0 ∧ x.a % 5 ≠ 1 ∧ x.a % 5 ≠ 2) := by omega
  generalize hb2 : x.b % 9 = xb at *
  generalize hc2 : x.c % 12 = xc at *
  generalize ha2 : x.a % 5 = xa at *
  rcases c1 with c | c | c | c
  case' inl | inr.inl =>
    have A := delta_Add na a hna hal inv.ok xb xc
    have B := ref1_AddDue nb (toDu 0 a) hdl xb xc
    rw [addD_toDu] at B
    have inv' := inv.add xb xc
    have hna' : (na && !(addT a xb xc).2) = true → (addT a xb xc).1 = [] := by
      intro h
      simp only [Bool.and_eq_true, Bool.not_eq_true'] at h
      rw [addT_false h.2]
      exact hna h.1
    have S := law4_same (na && !(addT a xb xc).2) false (addT a xb xc).1 hna' inv'
    refine ⟨na && !(addT a xb xc).2, false, (addT a xb xc).1, hna', by simp, inv', addT_keys hk ⟨by omega, by omega⟩, ?_⟩
    rw [run_round]
    simp [c_law4_DeltaAll_L0, k_law4_DeltaAll_L0b, runSt, hi0, hli, hget, Deed.d, t1, t2, t3, w2, w3, c, A, B, S, hw]
  · have A := delta_Drop na a hna hal inv.ok inv.sum xc
    have B := ref1_DropDue nb (toDu 0 a) hdl xc
    obtain ⟨d1, d2⟩ := dropD_toDu inv xc
    rw [d1, d2, rowX_sl] at B
    have inv' := inv.drop xc
    have hna' : na = true → (dropT a xc).1 = [] := by
      intro h
      have ha := hna h
      subst ha
      rfl
    have hnb' : ((toDu 0 (dropT a xc).1).map Du.d).isEmpty = true → (dropT a xc).1 = [] := by
      intro h
      cases e : (dropT a xc).1 with
      | nil => rfl
      | cons t r => rw [e] at h; simp [toDu] at h
    have S := law4_same na ((toDu 0 (dropT a xc).1).map Du.d).isEmpty (dropT a xc).1 hna' inv'
    refine ⟨na, _, (dropT a xc).1, hna', hnb', inv', dropT_keys hk, ?_⟩
    rw [run_round]
    generalize ((toDu 0 (dropT a xc).1).map Du.d).isEmpty = e at *
    simp [c_law4_DeltaAll_L0, k_law4_DeltaAll_L0b, runSt, hi0, hli, hget, Deed.d, t1, t2, t3, w2, w3, c, A, B, S, hw]
  · have A := delta_Tick na a hna hal inv.ok
    have B := ref1_TickDue nb (toDu 0 a) hdl (toDu_keys a 0 inv.ok (by have := inv.sum; omega) (by omega))
    obtain ⟨d1, d2⟩ := tk_nought a inv.ok
    rw [d1, d2, rowX_sl, rowX_sl] at B
    rw [dueD_sl] at A
    have inv' := inv.tick
    have hks : ((decT a).takeWhile zT).length ≤ 1000 := by
      have h1 := (List.takeWhile_sublist (p := zT) (l := decT a)).length_le
      have h4 : (decT a).length = a.length := by have := congrArg List.length (decT_keys a); simpa using this
      omega
    have hna' : na = true → (decT a).dropWhile zT = [] := by
      intro h
      have ha := hna h
      subst ha
      rfl
    have hnb' : ((toDu 0 ((decT a).dropWhile zT)).map Du.d).isEmpty = true → (decT a).dropWhile zT = [] := by
      intro h
      cases e : (decT a).dropWhile zT with
      | nil => rfl
      | cons t r => rw [e] at h; simp [toDu] at h
    have S := law4_same na ((toDu 0 ((decT a).dropWhile zT)).map Du.d).isEmpty ((decT a).dropWhile zT) hna' inv'
    refine ⟨na, _, (decT a).dropWhile zT, hna', hnb', inv', tickT_keys hk, ?_⟩
    have hke : ((List.map Tm.key (List.takeWhile zT (decT a))).map (D.int .i64)).isEmpty = (List.map Tm.key (List.takeWhile zT (decT a))).isEmpty := by
      cases List.map Tm.key (List.takeWhile zT (decT a)) <;> rfl
    rw [hke] at B
    generalize hkk : List.map Tm.key (List.takeWhile zT (decT a)) = ks at *
    have hksl : ks.length ≤ 1000 := by rw [← hkk]; simpa using hks
    generalize (decT a).dropWhile zT = a' at *
    have lp := due_loop nl L n key i na ((toDu 0 a').map Du.d).isEmpty ks.isEmpty (a'.map Tm.d) ((toDu 0 a').map Du.d) ks hksl ks [] rfl 0 rfl
    simp only [dueSt, List.append_nil] at lp
    generalize ((toDu 0 a').map Du.d).isEmpty = e at *
    generalize ks.isEmpty = e2 at *
    rw [run_round]
    simp [c_law4_DeltaAll_L0, k_law4_DeltaAll_L0b, runSt, hi0, hli, hget, Deed.d, t1, t2, t3, w2, w3, c, A, B, S, hw, lp]
theorem all_loop (nl : Bool) (L : List Deed) (hL : L.length ≤ 80) (hD : ∀ x ∈ L, x.ok) (n key : Int) : ∀ (rest pre : List Deed), L = pre ++ rest → ∀ (i : Int), i = pre.length → ∀ (na nb : Bool) (a : List Tm), (na = true → a = []) → (nb = true → a = []) → InvT a → keysT a →
    ∃ na' nb' a', (na' = true → a' = []) ∧ (nb' = true → a' = []) ∧ InvT a' ∧ keysT a' ∧ run kp (.loop [0, 1, 2, 7, 8, 9] k_law4_DeltaAll_L0 (runSt nl L n key i na nb a [])) = some (.out (.ext 0) (runSt nl L n key L.length na' nb' a' [(38, .bool false)]))
  | [], pre, h, i, hi, na, nb, a, h1, h2, h3, h4 => by
    simp at h
    subst h hi
    refine ⟨na, nb, a, h1, h2, h3, h4, ?_⟩
    rw [run_round]
    simp [c_law4_DeltaAll_L0, k_law4_DeltaAll_L0b, runSt]
  | x :: rest, pre, h, i, hi, na, nb, a, h1, h2, h3, h4 => by
    have hli : i < L.length := by rw [h, hi]; simp; omega
    have hi0 : 0 ≤ i := by omega
    have hget0 : L[i.toNat]? = some x := by rw [h, hi]; simp
    have hget : ∀ hh : i.toNat < L.length, L[i.toNat] = x := fun hh => by rw [List.getElem?_eq_getElem hh] at hget0; injection hget0
    obtain ⟨na', nb', a', k1, k2, k3, k4, k5⟩ := all_round nl L hL n key x (hD x (by rw [h]; simp)) i hi0 hli hget na nb a h1 h2 h3 h4
    rw [k5]
    exact all_loop nl L hL hD n key rest (pre ++ [x]) (by simp [h]) (i + 1) (by simp [hi]) na' nb' a' k1 k2 k3 k4
theorem has_deed {y : D} (h : Sh.has (.ar 3 (.i .u8)) y) : ∃ x : Deed, y = x.d ∧ x.ok := by
  obtain ⟨l, rfl, h1, h2⟩ := has_ar h
  match l, h1, h2 with
  | [p, q, r], _, h2 =>
    obtain ⟨a, rfl, ha⟩ := has_int (h2 p (by simp))
    obtain ⟨b, rfl, hb⟩ := has_int (h2 q (by simp))
    obtain ⟨c, rfl, hc⟩ := has_int (h2 r (by simp))
    exact ⟨⟨a, b, c⟩, rfl, wf_u8 ha, wf_u8 hb, wf_u8 hc⟩
set_option maxHeartbeats 4000000 in
theorem law2_DeltaAll (xs : List D) (h : Sh.hasL [.sl (.ar 3 (.i .u8)), .i .i64, .i .i64] xs) : ∃ u k, run kp (.call f_law4_DeltaAll (xs.map ofD) (fun _ => none) 0) = some (.val (.bool true) u k) := by
  obtain ⟨x0, _, rfl, h0, h⟩ := hasL_cons h
  obtain ⟨x1, _, rfl, h1, h⟩ := hasL_cons h
  obtain ⟨x2, _, rfl, h2, h⟩ := hasL_cons h
  obtain rfl := hasL_nil h
  obtain ⟨nl, l, rfl, hnl, hlen, hl⟩ := has_sl h0
  obtain ⟨n, rfl, hn⟩ := has_int h1
  obtain ⟨key, rfl, hk⟩ := has_int h2
  obtain ⟨L, rfl, hD⟩ := all_typed (f := Deed.d) (p := Deed.ok) (fun y hy => has_deed hy) l hl
  refine ⟨[], 0, ?_⟩
  rw [run_call, kp_law4_DeltaAll]
  by_cases g : L.length ≤ 80
  · have g1 : ¬ (80 : Int) < L.length := by omega
    obtain ⟨na, nb, a, k1, k2, k3, k4, lp⟩ := all_loop nl L g hD n key L [] rfl 0 rfl true true [] (fun _ => rfl) (fun _ => rfl) ⟨fun t ht => by simp at ht, by simp [sumA], by simp, by simp⟩ (fun t ht => by simp at ht)
    simp only [runSt, List.append_nil, List.map_nil, toDu] at lp
    have hal : a.length ≤ 1000 := by have := k3.len; omega
    have hdl : (toDu 0 a).length ≤ 1000 := by rw [toDu_length]; exact hal
    have A := delta_Add na a k1 hal k3.ok n key
    have B := ref1_AddDue nb (toDu 0 a) hdl n key
    rw [addD_toDu] at B
    have inv' := k3.add n key
    have hna' : (na && !(addT a n key).2) = true → (addT a n key).1 = [] := by
      intro h
      simp only [Bool.and_eq_true, Bool.not_eq_true'] at h
      rw [addT_false h.2]
      exact k1 h.1
    have S := law4_same (na && !(addT a n key).2) false (addT a n key).1 hna' inv'
    have F := delta_Left na a k1 hal k3.ok k3.sum 99
    have hf : findT a 99 0 < 0 := (findT_neg a 99 0 (by omega)).2 (fun t ht e => by have := k4 t ht; omega)
    simp only [leftT, hf, if_true] at F
    simp [k_law4_DeltaAll, canK_canH, law4_begun, g1, lp, A, B, S, F]
  · have g1 : (80 : Int) < L.length := by omega
    simp [k_law4_DeltaAll, canK_canH, law4_begun, g1]
end Go.Cd
