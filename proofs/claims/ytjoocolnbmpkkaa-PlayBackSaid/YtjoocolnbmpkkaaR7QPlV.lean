/- Steps as bytes, whole: Encode, the program's. No conditions. -/
import Derived.Test.YtjoocolnbmpkkaaR7QPlU
set_option linter.unusedVariables false
set_option linter.unusedSimpArgs false
namespace Go.Cd
open Go Go.Fw
def enSt (L : List Sp) (nl : Bool) (acc : List Int) (i : Nat) (ex : List (Nat × V)) : St :=
  match acc with
  | [] => { env := [(2, .d (.sl true [])), (7, .asl nl (L.map Sp.d)), (8, .int .i64 L.length), (9, .int .i64 (i : Int))] ++ ex, hp := [], tl := fun _ => none, base := 0, next := 0 }
  | x :: l => { env := [(2, .sl false 0 0 (x :: l).length), (7, .asl nl (L.map Sp.d)), (8, .int .i64 L.length), (9, .int .i64 (i : Int))] ++ ex, hp := [(0, .row true ((x :: l).map u8d))], tl := fun _ => none, base := 0, next := 1 }
set_option maxRecDepth 10000 in
set_option maxHeartbeats 16000000 in
theorem en_round4 (L : List Sp) (nl : Bool) (hL : L.length ≤ 1000) (acc : List Int) (h0 : acc.length ≤ 900000000) (i : Nat) (hi : i < L.length) (x : Sp) (hx : L[i]? = some x) (hc : x.cl.lite) (hk : x.kind = 4) :
    run kp (.loop [2, 7, 8, 9] k_play_Encode_L0 (enSt L nl acc i [])) = run kp (.loop [2, 7, 8, 9] k_play_Encode_L0 (enSt L nl (acc ++ encS x) (i + 1) [])) := by
  have w : IntKind.i64.wrap ((i : Int) + 1) = ((i + 1 : Nat) : Int) := by rw [wrap_i64 (by omega) (by omega)]; omega
  have p : (i : Int) < (L.length : Int) := by omega
  have hx2 : ∀ hh : i < L.length, L[i] = x := fun hh => by rw [List.getElem?_eq_getElem hh] at hx; injection hx
  have len := stB_len hc
  have hdec := dec_play (stB_ok x) (by omega)
  have lit := dec_lite (stB_ok x) (by omega)
  have e0 := encS_none (s := x)
  have e1 := fun y => encS_one (s := x) (x := y)
  have e2 := fun y z l => encS_many (s := x) (x := y) (y := z) (l := l)
  have hsame := fun y hy => play_same_eq y x hy
  rw [run_round]
  generalize i + 1 = i' at *
  generalize encS x = E at *
  generalize dec (stB x) = D0 at *
  have es : stB x = [u8w x.kind, u8w x.a] := by unfold stB; rw [if_pos hk]
  rw [es] at hdec e1 len
  obtain ⟨sk, ⟨kind, rank, period, stop, ⟨mn, m⟩, ⟨wn, ww⟩, ⟨on, o⟩, at_, gen, a, n, mask⟩, sa, sn⟩ := x
  simp only at hk hdec e1 len
  subst hk
  simp [u8d] at hdec len
  cases D0 with
  | nil =>
    rw [e0 rfl, List.append_nil]
    cases acc with
    | nil => simp [c_play_Encode_L0, k_play_Encode_L0b, enSt, hi, p, hx, hx2, w, hdec, Sp.d, Cl.d, rowD, rowS, tkB, beB_len, u8d]
    | cons y acc => simp [c_play_Encode_L0, k_play_Encode_L0b, enSt, hi, p, hx, hx2, w, hdec, Sp.d, Cl.d, rowD, rowS, tkB, beB_len, u8d]
  | cons y D0 =>
    cases D0 with
    | nil =>
      have hs := hsame y (lit y (by simp)).lim
      have e := e1 y rfl
      generalize eqB (skey y) _ = q1 at *
      obtain ⟨sk', ⟨kind', rank', period', stop', ⟨mn', m'⟩, ⟨wn', ww'⟩, ⟨on', o'⟩, at_', gen', a', n', mask'⟩, sa', sn'⟩ := y
      simp only [Sp.d, Cl.d, rowD] at hs
      rw [e]
      cases q1 with
      | true =>
        cases acc with
        | nil => simp [c_play_Encode_L0, k_play_Encode_L0b, enSt, hi, p, hx, hx2, w, hdec, Sp.d, Cl.d, rowD, rowS, tkB, beB_len, u8d, hs]
        | cons y acc =>
          simp only [List.length_cons] at h0
          have q : acc.length ≤ 1073741820 := by omega
          have q2 : acc.length ≤ 1073741821 := by omega
          have q3 : acc.length ≤ 1073741822 := by omega
          simp [c_play_Encode_L0, k_play_Encode_L0b, enSt, hi, p, hx, hx2, w, hdec, Sp.d, Cl.d, rowD, rowS, tkB, beB_len, u8d, hs, q, q2, q3]
      | false =>
        cases acc with
        | nil => simp [c_play_Encode_L0, k_play_Encode_L0b, enSt, hi, p, hx, hx2, w, hdec, Sp.d, Cl.d, rowD, rowS, tkB, beB_len, u8d, hs]
        | cons y acc => simp [c_play_Encode_L0, k_play_Encode_L0b, enSt, hi, p, hx, hx2, w, hdec, Sp.d, Cl.d, rowD, rowS, tkB, beB_len, u8d, hs]
    | cons y2 D0 =>
      rw [e2 y y2 D0 rfl, List.append_nil]
      have g : ¬ ((D0.length : Int) + 1 + 1 = 1) := by omega
      cases acc with
      | nil => simp [c_play_Encode_L0, k_play_Encode_L0b, enSt, hi, p, hx, hx2, w, hdec, Sp.d, Cl.d, rowD, rowS, tkB, beB_len, u8d, g]
      | cons y acc => simp [c_play_Encode_L0, k_play_Encode_L0b, enSt, hi, p, hx, hx2, w, hdec, Sp.d, Cl.d, rowD, rowS, tkB, beB_len, u8d, g]
set_option maxRecDepth 10000 in
set_option maxHeartbeats 16000000 in
theorem en_round5 (L : List Sp) (nl : Bool) (hL : L.length ≤ 1000) (acc : List Int) (h0 : acc.length ≤ 900000000) (i : Nat) (hi : i < L.length) (x : Sp) (hx : L[i]? = some x) (hc : x.cl.lite) (hk : x.kind = 5) :
    run kp (.loop [2, 7, 8, 9] k_play_Encode_L0 (enSt L nl acc i [])) = run kp (.loop [2, 7, 8, 9] k_play_Encode_L0 (enSt L nl (acc ++ encS x) (i + 1) [])) := by
  have w : IntKind.i64.wrap ((i : Int) + 1) = ((i + 1 : Nat) : Int) := by rw [wrap_i64 (by omega) (by omega)]; omega
  have p : (i : Int) < (L.length : Int) := by omega
  have hx2 : ∀ hh : i < L.length, L[i] = x := fun hh => by rw [List.getElem?_eq_getElem hh] at hx; injection hx
  have len := stB_len hc
  have hdec := dec_play (stB_ok x) (by omega)
  have lit := dec_lite (stB_ok x) (by omega)
  have e0 := encS_none (s := x)
  have e1 := fun y => encS_one (s := x) (x := y)
  have e2 := fun y z l => encS_many (s := x) (x := y) (y := z) (l := l)
  have hsame := fun y hy => play_same_eq y x hy
  rw [run_round]
  generalize i + 1 = i' at *
  generalize encS x = E at *
  generalize dec (stB x) = D0 at *
  have es : stB x = u8w x.kind :: beB 2 (u64w x.n) := by unfold stB; rw [if_neg (by omega), if_pos hk]
  rw [es] at hdec e1 len
  obtain ⟨sk, ⟨kind, rank, period, stop, ⟨mn, m⟩, ⟨wn, ww⟩, ⟨on, o⟩, at_, gen, a, n, mask⟩, sa, sn⟩ := x
  simp only at hk hdec e1 len
  subst hk
  simp [u8d] at hdec len
  cases D0 with
  | nil =>
    rw [e0 rfl, List.append_nil]
    cases acc with
    | nil => simp [c_play_Encode_L0, k_play_Encode_L0b, enSt, hi, p, hx, hx2, w, hdec, Sp.d, Cl.d, rowD, rowS, tkB, beB_len, u8d, play_num2]
    | cons y acc => simp [c_play_Encode_L0, k_play_Encode_L0b, enSt, hi, p, hx, hx2, w, hdec, Sp.d, Cl.d, rowD, rowS, tkB, beB_len, u8d, play_num2]
  | cons y D0 =>
    cases D0 with
    | nil =>
      have hs := hsame y (lit y (by simp)).lim
      have e := e1 y rfl
      generalize eqB (skey y) _ = q1 at *
      obtain ⟨sk', ⟨kind', rank', period', stop', ⟨mn', m'⟩, ⟨wn', ww'⟩, ⟨on', o'⟩, at_', gen', a', n', mask'⟩, sa', sn'⟩ := y
      simp only [Sp.d, Cl.d, rowD] at hs
      rw [e]
      cases q1 with
      | true =>
        cases acc with
        | nil => simp [c_play_Encode_L0, k_play_Encode_L0b, enSt, hi, p, hx, hx2, w, hdec, Sp.d, Cl.d, rowD, rowS, tkB, beB_len, u8d, play_num2, hs]
        | cons y acc =>
          simp only [List.length_cons] at h0
          have q : acc.length ≤ 1073741820 := by omega
          have q2 : acc.length ≤ 1073741821 := by omega
          have q3 : acc.length ≤ 1073741822 := by omega
          simp [c_play_Encode_L0, k_play_Encode_L0b, enSt, hi, p, hx, hx2, w, hdec, Sp.d, Cl.d, rowD, rowS, tkB, beB_len, u8d, play_num2, hs, q, q2, q3]
      | false =>
        cases acc with
        | nil => simp [c_play_Encode_L0, k_play_Encode_L0b, enSt, hi, p, hx, hx2, w, hdec, Sp.d, Cl.d, rowD, rowS, tkB, beB_len, u8d, play_num2, hs]
        | cons y acc => simp [c_play_Encode_L0, k_play_Encode_L0b, enSt, hi, p, hx, hx2, w, hdec, Sp.d, Cl.d, rowD, rowS, tkB, beB_len, u8d, play_num2, hs]
    | cons y2 D0 =>
      rw [e2 y y2 D0 rfl, List.append_nil]
      have g : ¬ ((D0.length : Int) + 1 + 1 = 1) := by omega
      cases acc with
      | nil => simp [c_play_Encode_L0, k_play_Encode_L0b, enSt, hi, p, hx, hx2, w, hdec, Sp.d, Cl.d, rowD, rowS, tkB, beB_len, u8d, play_num2, g]
      | cons y acc => simp [c_play_Encode_L0, k_play_Encode_L0b, enSt, hi, p, hx, hx2, w, hdec, Sp.d, Cl.d, rowD, rowS, tkB, beB_len, u8d, play_num2, g]
set_option maxRecDepth 10000 in
set_option maxHeartbeats 16000000 in
theorem en_round1 (L : List Sp) (nl : Bool) (hL : L.length ≤ 1000) (acc : List Int) (h0 : acc.length ≤ 900000000) (i : Nat) (hi : i < L.length) (x : Sp) (hx : L[i]? = some x) (hc : x.cl.lite) (hk : x.kind = 1) :
    run kp (.loop [2, 7, 8, 9] k_play_Encode_L0 (enSt L nl acc i [])) = run kp (.loop [2, 7, 8, 9] k_play_Encode_L0 (enSt L nl (acc ++ encS x) (i + 1) [])) := by
  have w : IntKind.i64.wrap ((i : Int) + 1) = ((i + 1 : Nat) : Int) := by rw [wrap_i64 (by omega) (by omega)]; omega
  have p : (i : Int) < (L.length : Int) := by omega
  have hx2 : ∀ hh : i < L.length, L[i] = x := fun hh => by rw [List.getElem?_eq_getElem hh] at hx; injection hx
  have len := stB_len hc
  have hdec := dec_play (stB_ok x) (by omega)
  have lit := dec_lite (stB_ok x) (by omega)
  have e0 := encS_none (s := x)
  have e1 := fun y => encS_one (s := x) (x := y)
  have e2 := fun y z l => encS_many (s := x) (x := y) (y := z) (l := l)
  have hsame := fun y hy => play_same_eq y x hy
  have hcall := play_call x.cl hc
  have tkc := take_u8 (callB x.cl)
  rw [run_round]
  generalize i + 1 = i' at *
  generalize encS x = E at *
  generalize dec (stB x) = D0 at *
  have es : stB x = u8w x.kind :: callB x.cl := by unfold stB; rw [if_neg (by omega), if_neg (by omega), if_pos hk]
  rw [es] at hdec e1 len
  generalize callB x.cl = Q at *
  obtain ⟨sk, ⟨kind, rank, period, stop, ⟨mn, m⟩, ⟨wn, ww⟩, ⟨on, o⟩, at_, gen, a, n, mask⟩, sa, sn⟩ := x
  simp only at hk hdec e1 len
  subst hk
  simp only [Cl.d, rowD] at hcall
  have ql : 1 + Q.length = Q.length + 1 := by omega
  have qb : Q.length ≤ 1073741823 := by simp only [List.length_cons] at len; omega
  have qa : ∀ z : Nat, z + (1 + Q.length) = z + (Q.length + 1) := fun z => by omega
  simp [u8d] at hdec len
  cases D0 with
  | nil =>
    rw [e0 rfl, List.append_nil]
    cases acc with
    | nil => simp [c_play_Encode_L0, k_play_Encode_L0b, enSt, hi, p, hx, hx2, w, hdec, Sp.d, Cl.d, rowD, rowS, tkB, beB_len, u8d, hcall, tkc, ql, qb, qa]
    | cons y acc => simp [c_play_Encode_L0, k_play_Encode_L0b, enSt, hi, p, hx, hx2, w, hdec, Sp.d, Cl.d, rowD, rowS, tkB, beB_len, u8d, hcall, tkc, ql, qb, qa]
  | cons y D0 =>
    cases D0 with
    | nil =>
      have hs := hsame y (lit y (by simp)).lim
      have e := e1 y rfl
      generalize eqB (skey y) _ = q1 at *
      obtain ⟨sk', ⟨kind', rank', period', stop', ⟨mn', m'⟩, ⟨wn', ww'⟩, ⟨on', o'⟩, at_', gen', a', n', mask'⟩, sa', sn'⟩ := y
      simp only [Sp.d, Cl.d, rowD] at hs
      rw [e]
      cases q1 with
      | true =>
        cases acc with
        | nil => have q2 : ¬ 1073741823 < Q.length := by omega
                 simp [c_play_Encode_L0, k_play_Encode_L0b, enSt, hi, p, hx, hx2, w, hdec, Sp.d, Cl.d, rowD, rowS, tkB, beB_len, u8d, hcall, tkc, ql, qb, qa, hs, q2]
        | cons y acc =>
          simp only [List.length_cons] at h0
          have q : acc.length + 1 + (Q.length + 1) ≤ 1073741824 := by omega
          have q2 : acc.length + (Q.length + 1) + 1 = acc.length + 1 + (Q.length + 1) := by omega
          simp [c_play_Encode_L0, k_play_Encode_L0b, enSt, hi, p, hx, hx2, w, hdec, Sp.d, Cl.d, rowD, rowS, tkB, beB_len, u8d, hcall, tkc, ql, qb, qa, hs, q, q2]
      | false =>
        cases acc with
        | nil => simp [c_play_Encode_L0, k_play_Encode_L0b, enSt, hi, p, hx, hx2, w, hdec, Sp.d, Cl.d, rowD, rowS, tkB, beB_len, u8d, hcall, tkc, ql, qb, qa, hs]
        | cons y acc => simp [c_play_Encode_L0, k_play_Encode_L0b, enSt, hi, p, hx, hx2, w, hdec, Sp.d, Cl.d, rowD, rowS, tkB, beB_len, u8d, hcall, tkc, ql, qb, qa, hs]
    | cons y2 D0 =>
      rw [e2 y y2 D0 rfl, List.append_nil]
      have g : ¬ ((D0.length : Int) + 1 + 1 = 1) := by omega
      cases acc with
      | nil => simp [c_play_Encode_L0, k_play_Encode_L0b, enSt, hi, p, hx, hx2, w, hdec, Sp.d, Cl.d, rowD, rowS, tkB, beB_len, u8d, hcall, tkc, ql, qb, qa, g]
      | cons y acc => simp [c_play_Encode_L0, k_play_Encode_L0b, enSt, hi, p, hx, hx2, w, hdec, Sp.d, Cl.d, rowD, rowS, tkB, beB_len, u8d, hcall, tkc, ql, qb, qa, g]
set_option maxRecDepth 10000 in
set_option maxHeartbeats 16000000 in
theorem en_round0 (L : List Sp) (nl : Bool) (hL : L.length ≤ 1000) (acc : List Int) (h0 : acc.length ≤ 900000000) (i : Nat) (hi : i < L.length) (x : Sp) (hx : L[i]? = some x) (hc : x.cl.lite) (hk : ¬ x.kind = 4 ∧ ¬ x.kind = 5 ∧ ¬ x.kind = 1) :
    run kp (.loop [2, 7, 8, 9] k_play_Encode_L0 (enSt L nl acc i [])) = run kp (.loop [2, 7, 8, 9] k_play_Encode_L0 (enSt L nl (acc ++ encS x) (i + 1) [])) := by
  have w : IntKind.i64.wrap ((i : Int) + 1) = ((i + 1 : Nat) : Int) := by rw [wrap_i64 (by omega) (by omega)]; omega
  have p : (i : Int) < (L.length : Int) := by omega
  have hx2 : ∀ hh : i < L.length, L[i] = x := fun hh => by rw [List.getElem?_eq_getElem hh] at hx; injection hx
  have len := stB_len hc
  have hdec := dec_play (stB_ok x) (by omega)
  have lit := dec_lite (stB_ok x) (by omega)
  have e0 := encS_none (s := x)
  have e1 := fun y => encS_one (s := x) (x := y)
  have e2 := fun y z l => encS_many (s := x) (x := y) (y := z) (l := l)
  have hsame := fun y hy => play_same_eq y x hy
  rw [run_round]
  generalize i + 1 = i' at *
  generalize encS x = E at *
  generalize dec (stB x) = D0 at *
  obtain ⟨k4, k5, k1⟩ := hk
  have es : stB x = [u8w x.kind] := by unfold stB; rw [if_neg k4, if_neg k5, if_neg k1]
  rw [es] at hdec e1 len
  obtain ⟨sk, ⟨kind, rank, period, stop, ⟨mn, m⟩, ⟨wn, ww⟩, ⟨on, o⟩, at_, gen, a, n, mask⟩, sa, sn⟩ := x
  simp only at k1 k4 k5 hdec e1 len
  simp [u8d] at hdec len
  cases D0 with
  | nil =>
    rw [e0 rfl, List.append_nil]
    cases acc with
    | nil => simp [c_play_Encode_L0, k_play_Encode_L0b, enSt, hi, p, hx, hx2, w, hdec, Sp.d, Cl.d, rowD, rowS, tkB, beB_len, u8d, k1, k4, k5]
    | cons y acc => simp [c_play_Encode_L0, k_play_Encode_L0b, enSt, hi, p, hx, hx2, w, hdec, Sp.d, Cl.d, rowD, rowS, tkB, beB_len, u8d, k1, k4, k5]
  | cons y D0 =>
    cases D0 with
    | nil =>
      have hs := hsame y (lit y (by simp)).lim
      have e := e1 y rfl
      generalize eqB (skey y) _ = q1 at *
      obtain ⟨sk', ⟨kind', rank', period', stop', ⟨mn', m'⟩, ⟨wn', ww'⟩, ⟨on', o'⟩, at_', gen', a', n', mask'⟩, sa', sn'⟩ := y
      simp only [Sp.d, Cl.d, rowD] at hs
      rw [e]
      cases q1 with
      | true =>
        cases acc with
        | nil => simp [c_play_Encode_L0, k_play_Encode_L0b, enSt, hi, p, hx, hx2, w, hdec, Sp.d, Cl.d, rowD, rowS, tkB, beB_len, u8d, k1, k4, k5, hs]
        | cons y acc =>
          simp only [List.length_cons] at h0
          have q : acc.length ≤ 1073741820 := by omega
          have q2 : acc.length ≤ 1073741821 := by omega
          have q3 : acc.length ≤ 1073741822 := by omega
          simp [c_play_Encode_L0, k_play_Encode_L0b, enSt, hi, p, hx, hx2, w, hdec, Sp.d, Cl.d, rowD, rowS, tkB, beB_len, u8d, k1, k4, k5, hs, q, q2, q3]
      | false =>
        cases acc with
        | nil => simp [c_play_Encode_L0, k_play_Encode_L0b, enSt, hi, p, hx, hx2, w, hdec, Sp.d, Cl.d, rowD, rowS, tkB, beB_len, u8d, k1, k4, k5, hs]
        | cons y acc => simp [c_play_Encode_L0, k_play_Encode_L0b, enSt, hi, p, hx, hx2, w, hdec, Sp.d, Cl.d, rowD, rowS, tkB, beB_len, u8d, k1, k4, k5, hs]
    | cons y2 D0 =>
      rw [e2 y y2 D0 rfl, List.append_nil]
      have g : ¬ ((D0.length : Int) + 1 + 1 = 1) := by omega
      cases acc with
      | nil => simp [c_play_Encode_L0, k_play_Encode_L0b, enSt, hi, p, hx, hx2, w, hdec, Sp.d, Cl.d, rowD, rowS, tkB, beB_len, u8d, k1, k4, k5, g]
      | cons y acc => simp [c_play_Encode_L0, k_play_Encode_L0b, enSt, hi, p, hx, hx2, w, hdec, Sp.d, Cl.d, rowD, rowS, tkB, beB_len, u8d, k1, k4, k5, g]
theorem en_round (L : List Sp) (nl : Bool) (hL : L.length ≤ 1000) (acc : List Int) (h0 : acc.length ≤ 900000000) (i : Nat) (hi : i < L.length) (x : Sp) (hx : L[i]? = some x) (hc : x.cl.lite) :
    run kp (.loop [2, 7, 8, 9] k_play_Encode_L0 (enSt L nl acc i [])) = run kp (.loop [2, 7, 8, 9] k_play_Encode_L0 (enSt L nl (acc ++ encS x) (i + 1) [])) := by
  by_cases h4 : x.kind = 4
  · exact en_round4 L nl hL acc h0 i hi x hx hc h4
  by_cases h5 : x.kind = 5
  · exact en_round5 L nl hL acc h0 i hi x hx hc h5
  by_cases h1 : x.kind = 1
  · exact en_round1 L nl hL acc h0 i hi x hx hc h1
  exact en_round0 L nl hL acc h0 i hi x hx hc ⟨h4, h5, h1⟩
theorem en_loop (L : List Sp) (nl : Bool) (hL : L.length ≤ 1000) (hc : ∀ x ∈ L, x.cl.lite) : ∀ (k i : Nat) (acc : List Int), i + k = L.length → acc.length + 21014 * k ≤ 900000000 →
    run kp (.loop [2, 7, 8, 9] k_play_Encode_L0 (enSt L nl acc i [])) = some (.out (.ext 0) (enSt L nl (acc ++ encB (L.drop i)) L.length [(10, .bool false)]))
  | 0, i, acc, hk, hl => by
    obtain rfl : i = L.length := by omega
    rw [List.drop_length, encB, List.append_nil, run_round]
    cases acc with
    | nil => simp [c_play_Encode_L0, k_play_Encode_L0b, enSt]
    | cons y acc => simp [c_play_Encode_L0, k_play_Encode_L0b, enSt]
  | k + 1, i, acc, hk, hl => by
    have hi : i < L.length := by omega
    obtain ⟨x, hx⟩ : ∃ x, L[i]? = some x := ⟨_, List.getElem?_eq_getElem hi⟩
    have hm : x.cl.lite := hc x (List.mem_of_getElem? hx)
    have := encS_len hm
    rw [en_round L nl hL acc (by omega) i hi x hx hm, encB_drop hx, ← List.append_assoc]
    exact en_loop L nl hL hc k (i + 1) _ (by omega) (by simp; omega)
set_option maxRecDepth 10000 in
set_option maxHeartbeats 4000000 in
theorem play_Encode (L : List Sp) (nl : Bool) (hL : L.length ≤ 1000) (hc : ∀ x ∈ L, x.cl.lite) : run kp (.data f_play_Encode [.sl nl (L.map Sp.d)]) = some (.ds [rowU (encB L)]) := by
  have lp := en_loop L nl hL hc L.length 0 [] (by omega) (by simp; omega)
  rw [run_data, run_call, kp_play_Encode]
  rw [List.nil_append, List.drop_zero] at lp
  unfold rowU
  generalize encB L = B at *
  cases B with
  | nil =>
    simp [enSt] at lp
    simp [k_play_Encode, lp]
  | cons y B =>
    have tk : List.take B.length (List.map u8d B) = List.map u8d B := take_u8 B
    simp [enSt] at lp
    simp [k_play_Encode, lp, tk]
end Go.Cd
