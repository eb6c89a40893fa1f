/- The document's timers, by when each comes. No conditions. -/
import Derived.Test.YtmkkfmadiadkiaaR6QDelE
set_option linter.unusedVariables false
set_option linter.unusedSimpArgs false
namespace Go.Cd
open Go Go.Fw
structure Du where
  at_ : Int
  key : Int
def Du.d (t : Du) : D := .agg [.int .i64 t.at_, .int .i64 t.key]
/-- A row that was put together: nil where there is nothing. -/
def rowX : List D → D
  | [] => .sl true []
  | a :: l => .sl false (a :: l)
def insD : List Du → Int → Int → List Du
  | [], n, k => [⟨n, k⟩]
  | t :: r, n, k => if t.at_ ≤ n then t :: insD r n k else ⟨n, k⟩ :: t :: r
def hasD (l : List Du) (k : Int) : Bool := l.any fun t => decide (t.key = k)
def addD (l : List Du) (n k : Int) : List Du × Bool := if hasD l k = true ∨ n < 0 ∨ 4611686018427387904 < n ∨ 64 ≤ l.length then (l, false) else (insD l n k, true)
def cntD : List Du → Int → Nat
  | [], _ => 0
  | t :: r, n => if t.at_ ≤ n then cntD r n + 1 else 0
theorem insD_cnt : ∀ (l : List Du) (n k : Int), insD l n k = l.take (cntD l n) ++ ⟨n, k⟩ :: l.drop (cntD l n)
  | [], n, k => by simp [insD, cntD]
  | t :: r, n, k => by
    simp only [insD, cntD]
    split
    · simp [insD_cnt r n k]
    · simp
theorem cntD_le : ∀ (l : List Du) (n : Int), cntD l n ≤ l.length
  | [], n => by simp [cntD]
  | t :: r, n => by
    simp only [cntD]
    split
    · have := cntD_le r n; simp; omega
    · simp
def addSt (nl : Bool) (L : List Du) (n key : Int) (i : Int) (ex : List (Nat × V)) : St :=
  { env := [(0, .d (.sl nl (L.map Du.d))), (1, .int .i64 n), (2, .int .i64 key), (8, .sl false 0 0 L.length), (9, .int .i64 i)] ++ ex, hp := [(0, .row true (L.map Du.d))], tl := fun _ => none, base := 0, next := 1 }
theorem addD_loop (nl : Bool) (L : List Du) (hL : L.length ≤ 1000) (n key : Int) : ∀ (rest pre : List Du), L = pre ++ rest → ∀ (i : Int), i = pre.length →
    (hasD rest key = true → ∃ s, run kp (.loop [0, 1, 2, 8, 9] k_ref1_AddDue_L0 (addSt nl L n key i [])) = some (.out .ret s) ∧ s.env = [(0, .d (.sl nl (L.map Du.d))), (1, .int .i64 n), (2, .int .i64 key), (9, s.env.getD 3 default |>.2), (17, .bool true), (26, .bool true), (6, .sl false 0 0 L.length), (7, .bool false)] ∧ s.hp = [(0, .row true (L.map Du.d))] ∧ s.tl = (fun _ => none) ∧ s.base = 0 ∧ s.next = 1) ∧
    (hasD rest key = false → run kp (.loop [0, 1, 2, 8, 9] k_ref1_AddDue_L0 (addSt nl L n key i [])) = some (.out (.ext 0) (addSt nl L n key L.length [(17, .bool false)])))
  | [], pre, h, i, hi => by
    simp at h
    subst h hi
    refine ⟨fun hh => by simp [hasD] at hh, fun _ => ?_⟩
    rw [run_round]
    simp [c_ref1_AddDue_L0, k_ref1_AddDue_L0b, addSt]
  | t :: rest, pre, h, i, hi => by
    have hli : i < L.length := by rw [h, hi]; simp; omega
    have hi0 : 0 ≤ i := by omega
    have hget0 : L[i.toNat]? = some t := by rw [h, hi]; simp
    have hget : ∀ hh : i.toNat < L.length, L[i.toNat] = t := fun hh => by rw [List.getElem?_eq_getElem hh] at hget0; injection hget0
    have hw : IntKind.i64.wrap (i + 1) = i + 1 := wrap_i64 (by omega) (by omega)
    obtain ⟨i1, i2⟩ := addD_loop nl L hL n key rest (pre ++ [t]) (by simp [h]) (i + 1) (by simp [hi])
    by_cases hc : t.key = key
    · refine ⟨fun _ => ?_, fun hh => by simp [hasD, hc] at hh⟩
      rw [run_round]
      simp [c_ref1_AddDue_L0, k_ref1_AddDue_L0b, addSt, hi0, hli, hget, hc, Du.d]
    · have st : run kp (.loop [0, 1, 2, 8, 9] k_ref1_AddDue_L0 (addSt nl L n key i [])) = run kp (.loop [0, 1, 2, 8, 9] k_ref1_AddDue_L0 (addSt nl L n key (i + 1) [])) := by
        rw [run_round]
        simp [c_ref1_AddDue_L0, k_ref1_AddDue_L0b, addSt, hi0, hli, hget, hc, Du.d, hw]
      have e : hasD (t :: rest) key = hasD rest key := by simp [hasD, hc]
      rw [st, e]
      exact ⟨i1, i2⟩
def cntSt (L : List Du) (n key : Int) (i : Int) (ex : List (Nat × V)) : St :=
  { env := [(1, .int .i64 n), (2, .int .i64 key), (8, .sl false 0 0 L.length), (10, .int .i64 i)] ++ ex, hp := [(0, .row true (L.map Du.d))], tl := fun _ => none, base := 0, next := 1 }
theorem cntD_loop (L : List Du) (hL : L.length ≤ 1000) (n key : Int) : ∀ (rest pre : List Du), L = pre ++ rest → ∀ (i : Int), i = pre.length →
    run kp (.loop [1, 2, 8, 10] k_ref1_AddDue_L1 (cntSt L n key i [])) = some (.out (.ext 2) (cntSt L n key (i + cntD rest n) [(52, .bool false)]))
  | [], pre, h, i, hi => by
    simp at h
    subst h hi
    rw [run_round]
    simp [c_ref1_AddDue_L1, k_ref1_AddDue_L1b, cntSt, cntD]
  | t :: rest, pre, h, i, hi => by
    have hli : i < L.length := by rw [h, hi]; simp; omega
    have hi0 : 0 ≤ i := by omega
    have hget0 : L[i.toNat]? = some t := by rw [h, hi]; simp
    have hget : ∀ hh : i.toNat < L.length, L[i.toNat] = t := fun hh => by rw [List.getElem?_eq_getElem hh] at hget0; injection hget0
    have hw : IntKind.i64.wrap (i + 1) = i + 1 := wrap_i64 (by omega) (by omega)
    rw [run_round]
    by_cases hc : t.at_ ≤ n
    · have e : i + ((cntD (t :: rest) n : Nat) : Int) = i + 1 + cntD rest n := by simp [cntD, hc]; omega
      rw [e, ← cntD_loop L hL n key rest (pre ++ [t]) (by simp [h]) (i + 1) (by simp [hi])]
      simp [c_ref1_AddDue_L1, k_ref1_AddDue_L1b, cntSt, hi0, hli, hget, hc, Du.d, hw]
    · simp [c_ref1_AddDue_L1, k_ref1_AddDue_L1b, cntSt, hi0, hli, hget, hc, Du.d, cntD]
theorem ref1_AddDue (nl : Bool) (L : List Du) (hL : L.length ≤ 1000) (n key : Int) : run kp (.datk f_ref1_AddDue [.sl nl (L.map Du.d), .int .i64 n, .int .i64 key]) =
    some (.ds [.sl false ((addD L n key).1.map Du.d), .bool (addD L n key).2]) := by
  rw [run_datk, run_call, kp_ref1_AddDue]
  obtain ⟨l1, l2⟩ := addD_loop nl L hL n key L [] rfl 0 rfl
  have hl : L.length ≤ 1073741824 := by omega
  cases hh : hasD L key with
  | true =>
    obtain ⟨s, h1, h2, h3, h4, h5, h6⟩ := l1 hh
    obtain ⟨e, hp, tl, b, nx⟩ := s
    simp only at h2 h3 h4 h5 h6
    subst h3 h4 h5 h6
    simp only [addSt, List.append_nil] at h1
    rw [h2] at h1
    simp [k_ref1_AddDue, hl, h1, addD, hh]
  | false =>
    have l2 := l2 hh
    simp only [addSt, List.append_nil] at l2
    by_cases h1 : n < 0
    · simp [k_ref1_AddDue, hl, l2, addD, hh, h1]
    · by_cases h2 : 4611686018427387904 < n
      · simp [k_ref1_AddDue, hl, l2, addD, hh, h1, h2]
      · by_cases h4 : 64 ≤ L.length
        · have h4i : (64 : Int) ≤ L.length := by omega
          simp [k_ref1_AddDue, hl, l2, addD, hh, h1, h2, h4, h4i]
        · have h4i : ¬ (64 : Int) ≤ L.length := by omega
          have lp := cntD_loop L hL n key L [] rfl 0 rfl
          simp only [cntSt, List.append_nil, Int.zero_add] at lp
          have hc := cntD_le L n
          have hc0 : (cntD L n : Int) ≤ L.length := by omega
          have ic := insD_cnt L n key
          have hm : min (cntD L n) L.length = cntD L n := by omega
          have hc2 : cntD L n + (L.length - cntD L n) ≤ L.length := by omega
          generalize cntD L n = c at *
          have g1 : c ≤ 1073741824 := by omega
          have g2 : c ≤ 1073741823 := by omega
          have g3 : c + 1 + (L.length - c) ≤ 1073741824 := by omega
          simp [k_ref1_AddDue, hl, l2, addD, hh, h1, h2, h4, h4i, lp, hc, hc0, hm, g1, g2, g3, hc2, ic, Du.d]
          rw [List.take_take, Nat.min_self, List.take_of_length_le (l := List.take c _ ++ [_]) (by simp; omega), List.take_of_length_le (l := List.drop c _) (by simp), List.take_of_length_le (by simp; omega)]
          simp
/-- Those that stay. -/
def drD (l : List Du) (k : Int) : List Du := l.filter fun t => !decide (t.key = k)
def dropSt (nl : Bool) (L : List D) (key : Int) (is : Bool) (i : Int) (ex : List (Nat × V)) : List D → St
  | [] => { env := [(0, .d (.sl nl L)), (1, .int .i64 key), (6, .d (.sl true [])), (7, .bool is), (8, .int .i64 i)] ++ ex, hp := [], tl := fun _ => none, base := 0, next := 0 }
  | a :: l => { env := [(0, .d (.sl nl L)), (1, .int .i64 key), (6, .sl false 0 0 (l.length + 1)), (7, .bool is), (8, .int .i64 i)] ++ ex, hp := [(0, .row true (a :: l))], tl := fun _ => none, base := 0, next := 1 }
theorem dropD_loop (nl : Bool) (L : List Du) (hL : L.length ≤ 1000) (key : Int) : ∀ (rest pre : List Du), L = pre ++ rest → ∀ (i : Int), i = pre.length → ∀ (is : Bool) (out : List D), out.length + rest.length ≤ 1000 →
    run kp (.loop [0, 1, 6, 7, 8] k_ref1_DropDue_L0 (dropSt nl (L.map Du.d) key is i [] out)) = some (.out (.ext 0) (dropSt nl (L.map Du.d) key (is || hasD rest key) L.length [(12, .bool false)] (out ++ (drD rest key).map Du.d)))
  | [], pre, h, i, hi, is, out, _ => by
    simp at h
    subst h hi
    rw [run_round]
    cases out <;> simp [c_ref1_DropDue_L0, k_ref1_DropDue_L0b, dropSt, hasD, drD]
  | t :: rest, pre, h, i, hi, is, out, hb => by
    have hli : i < L.length := by rw [h, hi]; simp; omega
    have hi0 : 0 ≤ i := by omega
    have hget0 : L[i.toNat]? = some t := by rw [h, hi]; simp
    have hget : ∀ hh : i.toNat < L.length, L[i.toNat] = t := fun hh => by rw [List.getElem?_eq_getElem hh] at hget0; injection hget0
    have hw : IntKind.i64.wrap (i + 1) = i + 1 := wrap_i64 (by omega) (by omega)
    simp only [List.length_cons] at hb
    rw [run_round]
    by_cases hc : t.key = key
    · have ih := dropD_loop nl L hL key rest (pre ++ [t]) (by simp [h]) (i + 1) (by simp [hi]) true out (by omega)
      have e1 : hasD (t :: rest) key = true := by simp [hasD, hc]
      have e2 : drD (t :: rest) key = drD rest key := by simp [drD, hc]
      rw [e1, e2, Bool.or_true, ← show (true || hasD rest key) = true from rfl, ← ih]
      cases out <;> simp [c_ref1_DropDue_L0, k_ref1_DropDue_L0b, dropSt, hi0, hli, hget, hc, Du.d, hw]
    · have ih := dropD_loop nl L hL key rest (pre ++ [t]) (by simp [h]) (i + 1) (by simp [hi]) is (out ++ [t.d]) (by simp; omega)
      have e1 : hasD (t :: rest) key = hasD rest key := by simp [hasD, hc]
      have e2 : drD (t :: rest) key = t :: drD rest key := by simp [drD, hc]
      have e3 : out ++ (t :: drD rest key).map Du.d = out ++ [t.d] ++ (drD rest key).map Du.d := by simp
      rw [e1, e2, e3, ← ih]
      cases out with
      | nil => simp [c_ref1_DropDue_L0, k_ref1_DropDue_L0b, dropSt, hi0, hli, hget, hc, Du.d, hw]
      | cons a out =>
        simp only [List.length_cons] at hb
        have : out.length ≤ 1073741822 := by omega
        simp [c_ref1_DropDue_L0, k_ref1_DropDue_L0b, dropSt, hi0, hli, hget, hc, Du.d, hw, this]
theorem ref1_DropDue (nl : Bool) (L : List Du) (hL : L.length ≤ 1000) (key : Int) : run kp (.datk f_ref1_DropDue [.sl nl (L.map Du.d), .int .i64 key]) =
    some (.ds [rowX ((drD L key).map Du.d), .bool (hasD L key)]) := by
  rw [run_datk, run_call, kp_ref1_DropDue]
  have lp := dropD_loop nl L hL key L [] rfl 0 rfl false [] (by simpa using hL)
  simp only [List.nil_append, Bool.false_or] at lp
  generalize (drD L key).map Du.d = o at *
  cases o <;> (simp [dropSt] at lp; simp [k_ref1_DropDue, lp, rowX])
/-- Those that come, and the others a tick sooner. -/
def tkK (l : List Du) : List Int := (l.filter fun t => decide (t.at_ ≤ 1)).map Du.key
def tkD (l : List Du) : List Du := (l.filter fun t => !decide (t.at_ ≤ 1)).map fun t => ⟨t.at_ - 1, t.key⟩
def tkV (b : Nat) : List D → V
  | [] => .d (.sl true [])
  | a :: l => .sl false b 0 (l.length + 1)
def tkH (b : Nat) : List D → Hp
  | [] => []
  | a :: l => [(b, .row true (a :: l))]
def tkN : List D → Nat
  | [] => 0
  | _ :: _ => 1
def tkSt (nl : Bool) (L : List D) (i : Int) (ex : List (Nat × V)) (o k : List D) : St :=
  { env := [(0, .d (.sl nl L)), (4, tkV 0 o), (5, tkV (tkN o) k), (6, .int .i64 i)] ++ ex, hp := tkH 0 o ++ tkH (tkN o) k, tl := fun _ => none, base := 0, next := tkN o + tkN k }
theorem tkD_loop (nl : Bool) (L : List Du) (hL : L.length ≤ 1000) (hb : ∀ t ∈ L, -4611686018427387904 ≤ t.at_ ∧ t.at_ ≤ 4611686018427387904) : ∀ (rest pre : List Du), L = pre ++ rest → ∀ (i : Int), i = pre.length → ∀ (o k : List D), o.length + rest.length ≤ 1000 → k.length + rest.length ≤ 1000 →
    run kp (.loop [0, 4, 5, 6] k_ref1_TickDue_L0 (tkSt nl (L.map Du.d) i [] o k)) = some (.out (.ext 0) (tkSt nl (L.map Du.d) L.length [(10, .bool false)] (o ++ (tkD rest).map Du.d) (k ++ (tkK rest).map (.int .i64))))
  | [], pre, h, i, hi, o, k, _, _ => by
    simp at h
    subst h hi
    rw [run_round]
    cases o <;> cases k <;> simp [c_ref1_TickDue_L0, k_ref1_TickDue_L0b, tkSt, tkV, tkH, tkN, tkD, tkK]
  | t :: rest, pre, h, i, hi, o, k, ho, hk => by
    have hli : i < L.length := by rw [h, hi]; simp; omega
    have hi0 : 0 ≤ i := by omega
    have hget0 : L[i.toNat]? = some t := by rw [h, hi]; simp
    have hget : ∀ hh : i.toNat < L.length, L[i.toNat] = t := fun hh => by rw [List.getElem?_eq_getElem hh] at hget0; injection hget0
    have hw : IntKind.i64.wrap (i + 1) = i + 1 := wrap_i64 (by omega) (by omega)
    have ht := hb t (by rw [h]; simp)
    have hw2 : IntKind.i64.wrap (t.at_ - 1) = t.at_ - 1 := wrap_i64 (by omega) (by omega)
    simp only [List.length_cons] at ho hk
    rw [run_round]
    by_cases hc : t.at_ ≤ 1
    · have ih := tkD_loop nl L hL hb rest (pre ++ [t]) (by simp [h]) (i + 1) (by simp [hi]) o (k ++ [.int .i64 t.key]) (by omega) (by simp; omega)
      have e1 : tkD (t :: rest) = tkD rest := by simp [tkD, hc]
      have e2 : k ++ (tkK (t :: rest)).map (D.int .i64) = k ++ [.int .i64 t.key] ++ (tkK rest).map (.int .i64) := by simp [tkK, hc]
      rw [e1, e2, ← ih]
      cases k with
      | nil => cases o <;> simp [c_ref1_TickDue_L0, k_ref1_TickDue_L0b, tkSt, tkV, tkH, tkN, hi0, hli, hget, hc, Du.d, hw]
      | cons a k =>
        simp only [List.length_cons] at hk
        have : k.length ≤ 1073741822 := by omega
        cases o <;> simp [c_ref1_TickDue_L0, k_ref1_TickDue_L0b, tkSt, tkV, tkH, tkN, hi0, hli, hget, hc, Du.d, hw, this]
    · have ih := tkD_loop nl L hL hb rest (pre ++ [t]) (by simp [h]) (i + 1) (by simp [hi]) (o ++ [(⟨t.at_ - 1, t.key⟩ : Du).d]) k (by simp; omega) (by omega)
      have e1 : o ++ (tkD (t :: rest)).map Du.d = o ++ [(⟨t.at_ - 1, t.key⟩ : Du).d] ++ (tkD rest).map Du.d := by simp [tkD, hc]
      have e2 : tkK (t :: rest) = tkK rest := by simp [tkK, hc]
      rw [e1, e2, ← ih]
      cases o with
      | nil => cases k <;> simp [c_ref1_TickDue_L0, k_ref1_TickDue_L0b, tkSt, tkV, tkH, tkN, hi0, hli, hget, hc, Du.d, hw, hw2]
      | cons a o =>
        simp only [List.length_cons] at ho
        have : o.length ≤ 1073741822 := by omega
        cases k <;> simp [c_ref1_TickDue_L0, k_ref1_TickDue_L0b, tkSt, tkV, tkH, tkN, hi0, hli, hget, hc, Du.d, hw, hw2, this]
theorem ref1_TickDue (nl : Bool) (L : List Du) (hL : L.length ≤ 1000) (hb : ∀ t ∈ L, -4611686018427387904 ≤ t.at_ ∧ t.at_ ≤ 4611686018427387904) : run kp (.datk f_ref1_TickDue [.sl nl (L.map Du.d)]) =
    some (.ds [rowX ((tkD L).map Du.d), rowX ((tkK L).map (.int .i64))]) := by
  rw [run_datk, run_call, kp_ref1_TickDue]
  have lp := tkD_loop nl L hL hb L [] rfl 0 rfl [] [] (by simpa using hL) (by simpa using hL)
  simp only [List.nil_append] at lp
  generalize (tkD L).map Du.d = o at *
  generalize (tkK L).map (D.int .i64) = k at *
  cases o <;> cases k <;> (simp [tkSt, tkV, tkH, tkN] at lp; simp [k_ref1_TickDue, lp, rowX])
end Go.Cd
