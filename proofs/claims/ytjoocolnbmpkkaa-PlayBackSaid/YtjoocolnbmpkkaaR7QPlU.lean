/- Steps as bytes, whole: Encode, the program's. No conditions. -/
import Derived.Test.YtjoocolnbmpkkaaR7QPlN
import Derived.Test.YtjoocolnbmpkkaaR7QPlS
import Derived.Test.YtjoocolnbmpkkaaR7QPlT
set_option linter.unusedVariables false
set_option linter.unusedSimpArgs false
namespace Go.Cd
open Go Go.Fw
def dec (b : List Int) : List Sp := pDec b.length ⟨false, b, false⟩ []
theorem pProg_len : ∀ (n : Nat) (r : Rd) (acc : List Inst), (pProg n r acc).1.length ≤ acc.length + n
  | 0, r, acc => Nat.le_refl _
  | n + 1, r, acc => by
    unfold pProg
    repeat' split
    all_goals first
      | (simp only [List.length_append, List.length_cons, List.length_nil]; omega)
      | (have := pProg_len n ⟨r.nl, r.b.drop 7, false⟩ (acc ++ [decI (r.b.take 7)]); simp only [List.length_append, List.length_cons, List.length_nil] at this; omega)
theorem pgR_len {r : Rd} (hr : bytesOk r.b) : (pgR r).1.length ≤ 1000 := by
  have h := pProg_len (r.num 1).toNat (r.drop 1) []
  have n := num1_range hr
  unfold pgR
  simp only [List.length_nil] at h
  omega
theorem pCall_lite {r : Rd} (h : bytesOk r.b ∧ r.b.length ≤ 100000) : (pCall r).1.lite := by
  have e := Rd.drop_ok 4 (Rd.drop_ok 4 (Rd.drop_ok 1 (Rd.drop_ok 1 h)))
  unfold pCall
  simp only
  repeat' split
  · exact ⟨pgR_len e.1, pgR_len (pgR_ok e).1, pgR_len (pgR_ok (pgR_ok e)).1⟩
  all_goals exact ⟨by simp [Cl.zero, noRow], by simp [Cl.zero, noRow], by simp [Cl.zero, noRow]⟩
theorem pStep_lite {r : Rd} (h : bytesOk r.b ∧ r.b.length ≤ 100000) : (pStep r).1.cl.lite := by
  unfold pStep
  simp only
  repeat' split
  · exact ⟨by simp [Cl.zero, noRow], by simp [Cl.zero, noRow], by simp [Cl.zero, noRow]⟩
  · exact ⟨by simp [Cl.zero, noRow], by simp [Cl.zero, noRow], by simp [Cl.zero, noRow]⟩
  · exact pCall_lite (Rd.drop_ok 1 h)
  · exact ⟨by simp [Cl.zero, noRow], by simp [Cl.zero, noRow], by simp [Cl.zero, noRow]⟩
theorem pDec_lite : ∀ (f : Nat) (r : Rd) (acc : List Sp), bytesOk r.b ∧ r.b.length ≤ 100000 → (∀ s ∈ acc, s.cl.lite) → ∀ s ∈ pDec f r acc, s.cl.lite
  | 0, r, acc, _, ha => ha
  | f + 1, r, acc, h, ha => by
    unfold pDec
    repeat' split
    · exact ha
    · exact pDec_lite f _ _ (Rd.drop_ok 1 h) ha
    · exact ha
    · exact pDec_lite f _ _ (pStep_ok h) (fun s hs => by
        rcases List.mem_append.1 hs with hs | hs
        · exact ha s hs
        · simp at hs; subst hs; exact pStep_lite h)
theorem dec_lite {b : List Int} (hb : bytesOk b) (hl : b.length ≤ 100000) : ∀ s ∈ dec b, s.cl.lite := pDec_lite _ _ _ ⟨hb, hl⟩ (by simp)
theorem Cl.lite.lim {c : Cl} (h : c.lite) : c.lim := ⟨by have := h.1; omega, by have := h.2.1; omega, by have := h.2.2; omega⟩
theorem u8w_range (x : Int) : 0 ≤ u8w x ∧ u8w x < 256 := by unfold u8w; rw [u8_mod]; omega
theorem ok_nil : bytesOk [] := fun x hx => by simp at hx
theorem ok_cons {x : Int} {l : List Int} (h : 0 ≤ x ∧ x < 256) (hl : bytesOk l) : bytesOk (x :: l) := fun y hy => by
  rcases List.mem_cons.1 hy with rfl | hy
  · exact h
  · exact hl y hy
theorem ok_app {l m : List Int} (hl : bytesOk l) (hm : bytesOk m) : bytesOk (l ++ m) := fun y hy => by
  rcases List.mem_append.1 hy with hy | hy
  · exact hl y hy
  · exact hm y hy
theorem prTail_ok : ∀ l : List Inst, bytesOk (prTail l)
  | [] => ok_nil
  | i :: l => ok_app (by unfold prInst; split; · exact instB_ok i
                         · exact ok_nil) (prTail_ok l)
theorem prB_ok (l : List Inst) : bytesOk (prB l) := ok_cons (u8w_range _) (prTail_ok l)
theorem hanB_ok (c : Cl) : bytesOk (hanB c) := ok_cons (u8w_range _) (ok_cons (u8w_range _) ok_nil)
theorem restB_ok (c : Cl) : bytesOk (restB c) := by
  unfold restB
  repeat' split
  · exact ok_cons (u8w_range _) (ok_app (beB_ok _ _) (ok_app (beB_ok _ _) (ok_app (prB_ok _) (ok_app (prB_ok _) (prB_ok _)))))
  · exact ok_cons (u8w_range _) (beB_ok _ _)
  · exact ok_app (hanB_ok c) (beB_ok _ _)
  · exact ok_app (hanB_ok c) (ok_cons (u8w_range _) ok_nil)
  · exact ok_app (hanB_ok c) (beB_ok _ _)
  · exact ok_app (hanB_ok c) (ok_cons (u8w_range _) (beB_ok _ _))
  · exact hanB_ok c
  · exact ok_nil
theorem stB_ok (s : Sp) : bytesOk (stB s) := by
  unfold stB callB
  refine ok_cons (u8w_range _) ?_
  repeat' split
  · exact ok_cons (u8w_range _) ok_nil
  · exact beB_ok _ _
  · exact ok_cons (u8w_range _) (restB_ok _)
  · exact ok_nil
theorem restB_len {c : Cl} (h : c.lite) : (restB c).length ≤ 21012 := by
  have l1 := prB_len c.main.2
  have l2 := prB_len c.way.2
  have l3 := prB_len c.opt.2
  obtain ⟨h1, h2, h3⟩ := h
  unfold restB hanB
  repeat' split
  all_goals simp [beB_len]
  omega
theorem stB_len {s : Sp} (h : s.cl.lite) : (stB s).length ≤ 21014 := by
  have := restB_len h
  unfold stB callB
  repeat' split
  all_goals simp [beB_len]
  omega
noncomputable def encS (s : Sp) : List Int := if eqB ((dec (stB s)).map skey) [skey s] = true then stB s else []
noncomputable def encB : List Sp → List Int
  | [] => []
  | s :: l => encS s ++ encB l
def rowU (b : List Int) : D := .sl b.isEmpty (b.map u8d)
theorem encS_none {s : Sp} (h : dec (stB s) = []) : encS s = [] := by
  unfold encS
  rw [h, eqB_no (by simp)]
  rfl
theorem encS_many {s : Sp} {x y : Sp} {l : List Sp} (h : dec (stB s) = x :: y :: l) : encS s = [] := by
  unfold encS
  rw [h, eqB_no (by simp)]
  rfl
theorem encS_one {s : Sp} {x : Sp} (h : dec (stB s) = [x]) : encS s = if eqB (skey x) (skey s) = true then stB s else [] := by
  unfold encS
  rw [h]
  have : eqB ([x].map skey) [skey s] = eqB (skey x) (skey s) := by
    apply eqB_of
    rw [eqB_iff]
    simp
  rw [this]
theorem encB_drop {L : List Sp} {i : Nat} {x : Sp} (hx : L[i]? = some x) : encB (L.drop i) = encS x ++ encB (L.drop (i + 1)) := by
  have hi : i < L.length := (List.getElem?_eq_some_iff.1 hx).1
  rw [List.drop_eq_getElem_cons hi, encB]
  rw [List.getElem?_eq_getElem hi] at hx
  injection hx with hx
  rw [hx]
theorem encS_len {s : Sp} (h : s.cl.lite) : (encS s).length ≤ 21014 := by
  have := stB_len h
  unfold encS
  split
  · exact this
  · simp
theorem dec_play {c : List Int} (hc : bytesOk c) (hl : c.length ≤ 50000) : run kp (.dats f_play_Decode [.sl false (c.map u8d)]) = some (.ds [rowS (dec c)]) := play_Decode false c hc hl
theorem dec_ref {c : List Int} (hc : bytesOk c) (hl : c.length ≤ 50000) : run kp (.dats f_ref27_Decode [.sl false (c.map u8d)]) = some (.ds [rowS (dec c)]) := ref27_Decode false c hc hl
/-! ### The document's -/
def renSt (L : List Sp) (nl : Bool) (acc : List Int) (i : Nat) (ex : List (Nat × V)) : St :=
  match acc with
  | [] => { env := [(0, .asl nl (L.map Sp.d)), (3, .d (.sl true [])), (4, .int .i64 (i : Int))] ++ ex, hp := [], tl := fun _ => none, base := 0, next := 0 }
  | x :: l => { env := [(0, .asl nl (L.map Sp.d)), (3, .sl false 0 0 (x :: l).length), (4, .int .i64 (i : Int))] ++ ex, hp := [(0, .row true ((x :: l).map u8d))], tl := fun _ => none, base := 0, next := 1 }
set_option maxRecDepth 10000 in
set_option maxHeartbeats 16000000 in
theorem ren_round (L : List Sp) (nl : Bool) (hL : L.length ≤ 1000) (acc : List Int) (h0 : acc.length ≤ 900000000) (i : Nat) (hi : i < L.length) (x : Sp) (hx : L[i]? = some x) (hc : x.cl.lite) :
    run kp (.loop [0, 3, 4] k_ref27_Encode_L0 (renSt L nl acc i [])) = run kp (.loop [0, 3, 4] k_ref27_Encode_L0 (renSt L nl (acc ++ encS x) (i + 1) [])) := by
  have w : IntKind.i64.wrap ((i : Int) + 1) = ((i + 1 : Nat) : Int) := by rw [wrap_i64 (by omega) (by omega)]; omega
  have p : (i : Int) < (L.length : Int) := by omega
  have hx2 : ∀ hh : i < L.length, L[i] = x := fun hh => by rw [List.getElem?_eq_getElem hh] at hx; injection hx
  have hput := ref27_put x hc
  have len := stB_len hc
  have hdec := dec_ref (stB_ok x) (by omega)
  have lit := dec_lite (stB_ok x) (by omega)
  have e0 := encS_none (s := x)
  have e1 := fun y => encS_one (s := x) (x := y)
  have e2 := fun y z l => encS_many (s := x) (x := y) (y := z) (l := l)
  have hsame := fun y hy => ref27_SameStep_eq y x hy
  have hne : ∃ z c, stB x = z :: c := ⟨_, _, rfl⟩
  have tk := take_u8 (stB x)
  rw [run_round]
  generalize i + 1 = i' at *
  generalize encS x = E at *
  generalize dec (stB x) = D0 at *
  generalize stB x = C at *
  obtain ⟨z, C, rfl⟩ := hne
  simp only [List.length_cons] at len tk
  simp only [List.map_cons] at hdec hput
  have q : acc.length + (C.length + 1) ≤ 1073741824 := by omega
  obtain ⟨sk, ⟨kind, rank, period, stop, ⟨mn, m⟩, ⟨wn, ww⟩, ⟨on, o⟩, at_, gen, a, n, mask⟩, sa, sn⟩ := x
  cases D0 with
  | nil =>
    rw [e0 rfl, List.append_nil]
    simp only [Sp.d, Cl.d, rowD] at hput
    cases acc with
    | nil => simp [c_ref27_Encode_L0, k_ref27_Encode_L0b, renSt, hi, p, hx, hx2, w, hput, hdec, Sp.d, Cl.d, rowD, rowS, tk]
    | cons y acc => simp [c_ref27_Encode_L0, k_ref27_Encode_L0b, renSt, hi, p, hx, hx2, w, hput, hdec, Sp.d, Cl.d, rowD, rowS, tk]
  | cons y D0 =>
    cases D0 with
    | nil =>
      have hs := hsame y (lit y (by simp)).lim
      have e := e1 y rfl
      generalize eqB (skey y) _ = q1 at *
      obtain ⟨sk', ⟨kind', rank', period', stop', ⟨mn', m'⟩, ⟨wn', ww'⟩, ⟨on', o'⟩, at_', gen', a', n', mask'⟩, sa', sn'⟩ := y
      simp only [Sp.d, Cl.d, rowD] at hput hs
      rw [e]
      cases q1 with
      | true =>
        cases acc with
        | nil =>
          have q2 : ¬ 1073741823 < C.length := by omega
          simp [c_ref27_Encode_L0, k_ref27_Encode_L0b, renSt, hi, p, hx, hx2, w, hput, hdec, hs, Sp.d, Cl.d, rowD, rowS, tk, q2]
        | cons y acc =>
          simp only [List.length_cons] at q
          have q2 : acc.length + (C.length + 1) + 1 = acc.length + 1 + (C.length + 1) := by omega
          simp [c_ref27_Encode_L0, k_ref27_Encode_L0b, renSt, hi, p, hx, hx2, w, hput, hdec, hs, Sp.d, Cl.d, rowD, rowS, tk, q, q2]
      | false =>
        cases acc with
        | nil => simp [c_ref27_Encode_L0, k_ref27_Encode_L0b, renSt, hi, p, hx, hx2, w, hput, hdec, hs, Sp.d, Cl.d, rowD, rowS, tk]
        | cons y acc => simp [c_ref27_Encode_L0, k_ref27_Encode_L0b, renSt, hi, p, hx, hx2, w, hput, hdec, hs, Sp.d, Cl.d, rowD, rowS, tk]
    | cons y2 D0 =>
      rw [e2 y y2 D0 rfl, List.append_nil]
      simp only [Sp.d, Cl.d, rowD] at hput
      have g : ¬ ((D0.length : Int) + 1 + 1 = 1) := by omega
      cases acc with
      | nil => simp [c_ref27_Encode_L0, k_ref27_Encode_L0b, renSt, hi, p, hx, hx2, w, hput, hdec, Sp.d, Cl.d, rowD, rowS, tk, g]
      | cons y acc => simp [c_ref27_Encode_L0, k_ref27_Encode_L0b, renSt, hi, p, hx, hx2, w, hput, hdec, Sp.d, Cl.d, rowD, rowS, tk, g]
theorem ren_loop (L : List Sp) (nl : Bool) (hL : L.length ≤ 1000) (hc : ∀ x ∈ L, x.cl.lite) : ∀ (k i : Nat) (acc : List Int), i + k = L.length → acc.length + 21014 * k ≤ 900000000 →
    run kp (.loop [0, 3, 4] k_ref27_Encode_L0 (renSt L nl acc i [])) = some (.out (.ext 0) (renSt L nl (acc ++ encB (L.drop i)) L.length [(10, .bool false)]))
  | 0, i, acc, hk, hl => by
    obtain rfl : i = L.length := by omega
    rw [List.drop_length, encB, List.append_nil, run_round]
    cases acc with
    | nil => simp [c_ref27_Encode_L0, k_ref27_Encode_L0b, renSt]
    | cons y acc => simp [c_ref27_Encode_L0, k_ref27_Encode_L0b, renSt]
  | k + 1, i, acc, hk, hl => by
    have hi : i < L.length := by omega
    obtain ⟨x, hx⟩ : ∃ x, L[i]? = some x := ⟨_, List.getElem?_eq_getElem hi⟩
    have hm : x.cl.lite := hc x (List.mem_of_getElem? hx)
    have := encS_len hm
    rw [ren_round L nl hL acc (by omega) i hi x hx hm, encB_drop hx, ← List.append_assoc]
    exact ren_loop L nl hL hc k (i + 1) _ (by omega) (by simp; omega)
theorem encB_len : ∀ {L : List Sp}, (∀ x ∈ L, x.cl.lite) → (encB L).length ≤ 21014 * L.length
  | [], _ => Nat.le_refl _
  | s :: L, h => by
    have h1 := encS_len (h s (by simp))
    have h2 := encB_len (L := L) (fun x hx => h x (by simp [hx]))
    simp [encB]; omega
set_option maxRecDepth 10000 in
set_option maxHeartbeats 4000000 in
theorem ref27_Encode (L : List Sp) (nl : Bool) (hL : L.length ≤ 1000) (hc : ∀ x ∈ L, x.cl.lite) : run kp (.data f_ref27_Encode [.sl nl (L.map Sp.d)]) = some (.ds [rowU (encB L)]) := by
  have lp := ren_loop L nl hL hc L.length 0 [] (by omega) (by simp; omega)
  rw [run_data, run_call, kp_ref27_Encode]
  rw [List.nil_append, List.drop_zero] at lp
  unfold rowU
  generalize encB L = B at *
  cases B with
  | nil =>
    simp [renSt] at lp
    simp [k_ref27_Encode, lp]
  | cons y B =>
    have tk : List.take B.length (List.map u8d B) = List.map u8d B := take_u8 B
    simp [renSt] at lp
    simp [k_ref27_Encode, lp, tk]
end Go.Cd
