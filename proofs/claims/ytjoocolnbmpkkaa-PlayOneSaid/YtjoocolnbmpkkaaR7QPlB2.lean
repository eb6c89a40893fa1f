/- What the laws of bytes and steps lean on. No conditions. -/
import Derived.Test.YtjoocolnbmpkkaaR7QPlZ
import Derived.Test.YtjoocolnbmpkkaaR7QHas
set_option linter.unusedVariables false
set_option linter.unusedSimpArgs false
namespace Go.Cd
open Go Go.Fw
theorem dec_len : ∀ (N : Nat) (c : List Int), c.length ≤ N → (dec c).length ≤ c.length := by
  intro N
  induction N with
  | zero =>
    intro c h
    have : c = [] := List.length_eq_zero_iff.1 (by omega)
    subst this
    exact Nat.le_refl _
  | succ N ih =>
    intro c h
    cases c with
    | nil => exact Nat.le_refl _
    | cons x c =>
      simp only [List.length_cons] at h ⊢
      have l2 := pStep_lt (r := ⟨false, x :: c, false⟩) (by simp)
      simp only [List.length_cons] at l2
      rw [dec_cons]
      split
      · have := ih c (by omega); omega
      · split
        · simp
        · have := ih _ (show (pStep ⟨false, x :: c, false⟩).2.b.length ≤ N by omega)
          simp only [List.length_cons]
          omega
theorem dec_le (c : List Int) : (dec c).length ≤ c.length := dec_len c.length c (Nat.le_refl _)
theorem stB_ne (s : Sp) : ∃ z c, stB s = z :: c := ⟨_, _, rfl⟩
theorem stBs_ne (s : Sp) (l : List Sp) : ∃ z c, stBs (s :: l) = z :: c := by
  obtain ⟨z, c, e⟩ := stB_ne s
  exact ⟨z, c ++ stBs l, by rw [stBs, e]; rfl⟩
theorem stBs_len : ∀ {L : List Sp}, (∀ x ∈ L, x.cl.lite) → (stBs L).length ≤ 21014 * L.length
  | [], _ => Nat.le_refl _
  | s :: L, h => by
    have h1 := stB_len (h s (by simp))
    have h2 := stBs_len (L := L) (fun x hx => h x (by simp [hx]))
    simp [stBs]; omega
theorem play_dec (nl : Bool) {b : List Int} (hb : bytesOk b) (hl : b.length ≤ 50000) : run kp (.dats f_play_Decode [.sl nl (b.map u8d)]) = some (.ds [rowS (dec b)]) := by
  rw [play_Decode nl b hb hl, dec_nl]
theorem play_enc {L : List Sp} (nl : Bool) (hL : L.length ≤ 1000) (hc : ∀ x ∈ L, x.cl.lite) (hg : ∀ x ∈ L, SG x) : run kp (.data f_play_Encode [.sl nl (L.map Sp.d)]) = some (.ds [rowU (stBs L)]) := by
  rw [play_Encode L nl hL hc, encB_good hg]
theorem nCall_lite {c : Cl} (h : c.lite) : (nCall c).lite := by
  unfold nCall
  repeat' split
  · exact h
  all_goals exact ⟨by simp [Cl.zero, noRow], by simp [Cl.zero, noRow], by simp [Cl.zero, noRow]⟩
theorem nStep_lite {s : Sp} (h : s.cl.lite) : (nStep s).cl.lite := by
  unfold nStep
  repeat' split
  · exact ⟨by simp [Cl.zero, noRow], by simp [Cl.zero, noRow], by simp [Cl.zero, noRow]⟩
  · exact ⟨by simp [Cl.zero, noRow], by simp [Cl.zero, noRow], by simp [Cl.zero, noRow]⟩
  · exact nCall_lite h
  · exact ⟨by simp [Cl.zero, noRow], by simp [Cl.zero, noRow], by simp [Cl.zero, noRow]⟩
theorem n_lite {L : List Sp} (h : ∀ x ∈ L, x.cl.lite) : ∀ x ∈ L.map nStep, x.cl.lite := fun x hx => by
  obtain ⟨y, hy, rfl⟩ := List.mem_map.1 hx
  exact nStep_lite (h y hy)
theorem same_n {L : List Sp} (n m : Bool) (hL : L.length ≤ 100000) (hc : ∀ x ∈ L, x.cl.lite) (hg : ∀ x ∈ L, SG x) : run kp (.data f_ref27_SameSteps [.sl n ((L.map nStep).map Sp.d), .sl m (L.map Sp.d)]) = some (.ds [.bool true]) := by
  rw [ref27_SameSteps _ _ n m (by simpa using hL) (fun x hx => (n_lite hc x hx).lim), keys_good hg, eqB_self]
theorem take_Sp' (l : List Sp) : List.take l.length (List.map Sp.d l) = List.map Sp.d l := List.take_of_length_le (by simp)
/-! ### As many bytes as were read -/
theorem drop_len {r : Rd} {n : Nat} (hb : (r.drop n).bad = false) : (r.drop n).b.length + n = r.b.length := by
  obtain ⟨h1, h2⟩ := over_no hb
  rw [(drop_fine h1 h2).1]
  simp; omega
theorem pProg_len2 : ∀ (n : Nat) (r : Rd) (acc : List Inst), (pProg n r acc).2.bad = false → (pProg n r acc).2.b.length + 7 * n = r.b.length
  | 0, r, acc, _ => rfl
  | n + 1, r, acc, hb => by
    have h0 := pProg_mono hb
    unfold pProg at hb ⊢
    simp only [h0, Bool.false_eq_true, if_false] at hb ⊢
    cases o : r.over 7 with
    | true => rw [o] at hb; simp [gone] at hb
    | false =>
      rw [o] at hb
      have l : 7 ≤ r.b.length := by unfold Rd.over at o; simp at o; exact o.2
      simp only [Bool.false_eq_true, if_false] at hb ⊢
      cases m : mayF (decI (r.b.take 7)) with
      | false => rw [m] at hb; simp [gone] at hb
      | true =>
        rw [m] at hb
        simp only [if_true] at hb ⊢
        have := pProg_len2 n _ _ hb
        simp only [List.length_drop] at this
        omega
theorem prTail_full : ∀ {l : List Inst}, l.all mayF = true → (prTail l).length = 7 * l.length
  | [], _ => rfl
  | i :: l, h => by
    rw [List.all_cons, Bool.and_eq_true] at h
    have := prTail_full h.2
    rw [prTail, prInst, if_pos h.1, List.length_append, instB_len, this, List.length_cons]
    omega
theorem prB_full {l : List Inst} (h : l.all mayF = true) : (prB l).length = 1 + 7 * l.length := by
  rw [prB, List.length_cons, prTail_full h]; omega
theorem pgR_len2 {r : Rd} (hr : bytesOk r.b) (hb : (pgR r).2.bad = false) : (pgR r).2.b.length + (prB (pgR r).1).length = r.b.length := by
  have h1 := drop_len (pProg_mono hb)
  have h2 := pProg_len2 _ _ _ hb
  obtain ⟨l, e, h3, h4⟩ := pProg_read (r.num 1).toNat (r.drop 1) [] hb
  have e' : (pgR r).1 = l := e
  have e2 : (pgR r).2 = (pProg (r.num 1).toNat (r.drop 1) []).2 := rfl
  rw [e', prB_full h4, h3, e2]
  omega
theorem call_len {r : Rd} (hr : bytesOk r.b ∧ r.b.length ≤ 100000) (hb : (pCall r).2.bad = false) : (pCall r).2.b.length + (callB (pCall r).1).length = r.b.length := by
  have d1 := Rd.drop_ok 1 hr
  have d2 := Rd.drop_ok 1 d1
  have e3 := Rd.drop_ok 4 d2
  have e4 := Rd.drop_ok 4 e3
  have hm := pCall_mono hb
  have m1 := drop_len hm
  unfold callB restB hanB
  unfold pCall at hb ⊢
  simp only at hb ⊢
  by_cases k1 : r.num 1 = 1
  · simp only [if_pos k1] at hb ⊢
    have b3 := pgR_mono hb
    have b2 := pgR_mono b3
    have b1 := pgR_mono b2
    have x1 := pgR_len2 (pgR_ok (pgR_ok e4)).1 hb
    have x2 := pgR_len2 (pgR_ok e4).1 b3
    have x3 := pgR_len2 e4.1 b2
    have x4 := drop_len b1
    have x5 := drop_len (drop_mono b1)
    have x6 := drop_len (drop_mono (drop_mono b1))
    simp only [List.length_cons, List.length_append, beB_len, rr]
    omega
  by_cases k6 : r.num 1 = 6
  · simp only [if_neg k1, if_pos k6] at hb ⊢
    have x1 := drop_len hb
    have x2 := drop_len (drop_mono hb)
    simp [Cl.zero, k1, k6, beB_len]
    omega
  by_cases k7 : r.num 1 = 7
  · simp only [if_neg k1, if_neg k6, if_pos k7] at hb ⊢
    have x1 := drop_len hb
    have x2 := drop_len (drop_mono hb)
    have x3 := drop_len (drop_mono (drop_mono hb))
    simp [Cl.zero, k1, k6, k7, beB_len]
    omega
  by_cases k8 : r.num 1 = 8
  · simp only [if_neg k1, if_neg k6, if_neg k7, if_pos k8] at hb ⊢
    have x1 := drop_len hb
    have x2 := drop_len (drop_mono hb)
    have x3 := drop_len (drop_mono (drop_mono hb))
    simp [Cl.zero, k1, k6, k7, k8, beB_len]
    omega
  by_cases k9 : r.num 1 = 9
  · simp only [if_neg k1, if_neg k6, if_neg k7, if_neg k8, if_pos k9] at hb ⊢
    have x1 := drop_len hb
    have x2 := drop_len (drop_mono hb)
    have x3 := drop_len (drop_mono (drop_mono hb))
    simp [Cl.zero, k1, k6, k7, k8, k9, beB_len]
    omega
  by_cases k10 : r.num 1 = 10
  · simp only [if_neg k1, if_neg k6, if_neg k7, if_neg k8, if_neg k9, if_pos k10] at hb ⊢
    have x1 := drop_len hb
    have x2 := drop_len (drop_mono hb)
    have x3 := drop_len (drop_mono (drop_mono hb))
    have x4 := drop_len (drop_mono (drop_mono (drop_mono hb)))
    simp [Cl.zero, k1, k6, k7, k8, k9, k10, beB_len]
    omega
  by_cases k11 : r.num 1 = 11
  · simp only [if_neg k1, if_neg k6, if_neg k7, if_neg k8, if_neg k9, if_neg k10, if_pos k11] at hb ⊢
    have x1 := drop_len hb
    have x2 := drop_len (drop_mono hb)
    simp [Cl.zero, k1, k6, k7, k8, k9, k10, k11, beB_len]
    omega
  simp [Cl.zero, k1, k6, k7, k8, k9, k10, k11, beB_len]
  omega
theorem step_len {r : Rd} (hr : bytesOk r.b ∧ r.b.length ≤ 100000) (hb : (pStep r).2.bad = false) : (pStep r).2.b.length + (stB (pStep r).1).length = r.b.length := by
  have d1 := Rd.drop_ok 1 hr
  have m1 := drop_len (pStep_mono hb)
  unfold stB
  unfold pStep at hb ⊢
  simp only at hb ⊢
  generalize (r.num 1).tmod 6 = k at *
  by_cases k4 : k = 4
  · simp only [if_pos k4] at hb ⊢
    have x1 := drop_len hb
    simp only [List.length_cons, List.length_nil]
    omega
  by_cases k5 : k = 5
  · simp only [if_neg k4, if_pos k5] at hb ⊢
    have x1 := drop_len hb
    simp only [List.length_cons, beB_len]
    omega
  by_cases k1 : k = 1
  · simp only [if_neg k4, if_neg k5, if_pos k1] at hb ⊢
    have x1 := call_len d1 hb
    simp only [List.length_cons]
    omega
  simp only [if_neg k4, if_neg k5, if_neg k1, List.length_cons, List.length_nil]
  omega
theorem dec_bytes : ∀ (N : Nat) (c : List Int), c.length ≤ N → c.length ≤ 100000 → bytesOk c → (stBs (dec c)).length ≤ c.length := by
  intro N
  induction N with
  | zero =>
    intro c h _ _
    have : c = [] := List.length_eq_zero_iff.1 (by omega)
    subst this
    exact Nat.le_refl _
  | succ N ih =>
    intro c h hl hb
    cases c with
    | nil => exact Nat.le_refl _
    | cons x c =>
      simp only [List.length_cons] at h hl ⊢
      have ok := pStep_ok (r := ⟨false, x :: c, false⟩) ⟨hb, by simp; omega⟩
      have l2 := pStep_lt (r := ⟨false, x :: c, false⟩) (by simp)
      simp only [List.length_cons] at l2
      rw [dec_cons]
      split
      · have := ih c (by omega) (by omega) (fun y hy => hb y (by simp [hy])); omega
      · split
        · simp [stBs]
        · rename_i hbad
          have e := step_len (r := ⟨false, x :: c, false⟩) ⟨hb, by simp; omega⟩ (by simpa using hbad)
          have := ih _ (show (pStep ⟨false, x :: c, false⟩).2.b.length ≤ N by omega) (by omega) ok.1
          simp only [List.length_cons] at e
          rw [stBs, List.length_append]
          omega
theorem dec_size {c : List Int} (hl : c.length ≤ 100000) (hb : bytesOk c) : (stBs (dec c)).length ≤ c.length := dec_bytes c.length c (Nat.le_refl _) hl hb
theorem all_app {α : Type} {p : α → Prop} {l m : List α} (h1 : ∀ x ∈ l, p x) (h2 : ∀ x ∈ m, p x) : ∀ x ∈ l ++ m, p x := fun x hx => by
  rcases List.mem_append.1 hx with h | h
  · exact h1 x h
  · exact h2 x h
theorem binV_add_str (l m : List UInt8) : binV .add (.d (.str l)) (.d (.str m)) = if l.length + m.length ≤ 1073741824 then some (.d (.str (l ++ m))) else none := rfl
def u8s (l : List Int) : List UInt8 := l.map fun n => UInt8.ofNat n.toNat
theorem bytes_u8s (l : List Int) : bytesOf (l.map u8d) = some (u8s l) := bytesOf_u8 l
theorem u8s_append (l m : List Int) : u8s (l ++ m) = u8s l ++ u8s m := by simp [u8s]
theorem u8s_len (l : List Int) : (u8s l).length = l.length := by simp [u8s]
theorem u8s_nil : u8s [] = [] := rfl
end Go.Cd
