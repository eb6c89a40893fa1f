/- The law PlayBytes, as the evaluator has it. No conditions. -/
import Derived.Test.YtjoocolnbmpkkaaR7QPlB2
import Derived.Test.YtjoocolnbmpkkaaR7QPlSs
import Derived.KernelRfl
set_option linter.unusedVariables false
set_option linter.unusedSimpArgs false
namespace Go.Cd
open Go Go.Fw
def instShP : Sh := .st [.i .i64, .i .i64, .i .i64, .i .i64]
def taskShP : Sh := .st [.i .i64, .i .i64, .i .i64, .sl instShP, .sl instShP, .sl instShP]
def callShP : Sh := .st [.i .i64, taskShP, .st [.i .i64, .i .i64], .i .i64, .i .i64, .i .u32]
def stepShP : Sh := .st [.i .i64, callShP, .i .i64, .i .i64]
theorem has_instP {x : D} (h : Sh.has instShP x) : ∃ i : Inst, x = i.d := by
  obtain ⟨l, rfl, h⟩ := has_st h
  obtain ⟨a, _, rfl, h1, h⟩ := hasL_cons h
  obtain ⟨b, _, rfl, h2, h⟩ := hasL_cons h
  obtain ⟨c, _, rfl, h3, h⟩ := hasL_cons h
  obtain ⟨d, _, rfl, h4, h⟩ := hasL_cons h
  obtain rfl := hasL_nil h
  obtain ⟨a, rfl, k1⟩ := has_int h1
  obtain ⟨b, rfl, k2⟩ := has_int h2
  obtain ⟨c, rfl, k3⟩ := has_int h3
  obtain ⟨d, rfl, k4⟩ := has_int h4
  exact ⟨⟨a, b, c, d⟩, rfl⟩
theorem has_rowP {x : D} (h : Sh.has (.sl instShP) x) : ∃ r : RRow, x = rowD r := by
  obtain ⟨nl, l, rfl, h1, h2, h3⟩ := has_sl h
  obtain ⟨m, rfl, hm⟩ := all_typed (f := Inst.d) (p := fun _ => True) (fun y hy => by obtain ⟨r, hr⟩ := has_instP hy; exact ⟨r, hr, trivial⟩) l h3
  exact ⟨(nl, m), rfl⟩
theorem has_taskP {x : D} (h : Sh.has taskShP x) : ∃ (a b c : Int) (m w o : RRow), x = .agg [.int .i64 a, .int .i64 b, .int .i64 c, rowD m, rowD w, rowD o] := by
  obtain ⟨l, rfl, h⟩ := has_st h
  obtain ⟨a, _, rfl, h1, h⟩ := hasL_cons h
  obtain ⟨b, _, rfl, h2, h⟩ := hasL_cons h
  obtain ⟨c, _, rfl, h3, h⟩ := hasL_cons h
  obtain ⟨d, _, rfl, h4, h⟩ := hasL_cons h
  obtain ⟨e, _, rfl, h5, h⟩ := hasL_cons h
  obtain ⟨f, _, rfl, h6, h⟩ := hasL_cons h
  obtain rfl := hasL_nil h
  obtain ⟨a, rfl, _⟩ := has_int h1
  obtain ⟨b, rfl, _⟩ := has_int h2
  obtain ⟨c, rfl, _⟩ := has_int h3
  obtain ⟨m, rfl⟩ := has_rowP h4
  obtain ⟨w, rfl⟩ := has_rowP h5
  obtain ⟨o, rfl⟩ := has_rowP h6
  exact ⟨a, b, c, m, w, o, rfl⟩
theorem has_handP {x : D} (h : Sh.has (.st [.i .i64, .i .i64]) x) : ∃ (a b : Int), x = .agg [.int .i64 a, .int .i64 b] := by
  obtain ⟨l, rfl, h⟩ := has_st h
  obtain ⟨a, _, rfl, h1, h⟩ := hasL_cons h
  obtain ⟨b, _, rfl, h2, h⟩ := hasL_cons h
  obtain rfl := hasL_nil h
  obtain ⟨a, rfl, _⟩ := has_int h1
  obtain ⟨b, rfl, _⟩ := has_int h2
  exact ⟨a, b, rfl⟩
theorem has_callP {x : D} (h : Sh.has callShP x) : ∃ c : Cl, x = c.d := by
  obtain ⟨l, rfl, h⟩ := has_st h
  obtain ⟨a, _, rfl, h1, h⟩ := hasL_cons h
  obtain ⟨b, _, rfl, h2, h⟩ := hasL_cons h
  obtain ⟨c, _, rfl, h3, h⟩ := hasL_cons h
  obtain ⟨d, _, rfl, h4, h⟩ := hasL_cons h
  obtain ⟨e, _, rfl, h5, h⟩ := hasL_cons h
  obtain ⟨f, _, rfl, h6, h⟩ := hasL_cons h
  obtain rfl := hasL_nil h
  obtain ⟨ck, rfl, _⟩ := has_int h1
  obtain ⟨t1, t2, t3, m, w, o, rfl⟩ := has_taskP h2
  obtain ⟨g1, g2, rfl⟩ := has_handP h3
  obtain ⟨ca, rfl, _⟩ := has_int h4
  obtain ⟨cn, rfl, _⟩ := has_int h5
  obtain ⟨cm, rfl, _⟩ := has_int h6
  exact ⟨⟨ck, t1, t2, t3, m, w, o, g1, g2, ca, cn, cm⟩, rfl⟩
theorem has_stepP {x : D} (h : Sh.has stepShP x) : ∃ s : Sp, x = s.d := by
  obtain ⟨l, rfl, h⟩ := has_st h
  obtain ⟨a, _, rfl, h1, h⟩ := hasL_cons h
  obtain ⟨b, _, rfl, h2, h⟩ := hasL_cons h
  obtain ⟨c, _, rfl, h3, h⟩ := hasL_cons h
  obtain ⟨d, _, rfl, h4, h⟩ := hasL_cons h
  obtain rfl := hasL_nil h
  obtain ⟨kind, rfl, _⟩ := has_int h1
  obtain ⟨cl, rfl⟩ := has_callP h2
  obtain ⟨sa, rfl, _⟩ := has_int h3
  obtain ⟨sn, rfl, _⟩ := has_int h4
  exact ⟨⟨kind, cl, sa, sn⟩, rfl⟩
theorem has_stepsP {x : D} (h : Sh.has (.sl stepShP) x) : ∃ (nl : Bool) (l : List Sp), x = .sl nl (l.map Sp.d) ∧ l.length ≤ maxLen := by
  obtain ⟨nl, l, rfl, h1, h2, h3⟩ := has_sl h
  obtain ⟨m, rfl, hm⟩ := all_typed (f := Sp.d) (p := fun _ => True) (fun y hy => by obtain ⟨r, hr⟩ := has_stepP hy; exact ⟨r, hr, trivial⟩) l h3
  exact ⟨nl, m, rfl, by simpa using h2⟩
def liSt (l : List Sp) (nl : Bool) (i : Nat) (ex : List (Nat × V)) : St :=
  { env := [(0, .asl nl (l.map Sp.d)), (3, .int .i64 (i : Int))] ++ ex, hp := [], tl := fun _ => none, base := 0, next := 0 }
set_option maxRecDepth 10000 in
set_option maxHeartbeats 8000000 in
theorem li_loop (l : List Sp) (nl : Bool) (hl : l.length ≤ 9223372036854775807) : ∀ (k i : Nat), i + k = l.length →
    (smalls (l.drop i) ∧ run kp (.loop [0, 3] k_law27_light_L0 (liSt l nl i [])) = some (.out (.ext 0) (liSt l nl l.length [(7, .bool false)]))) ∨
    (∃ s, run kp (.loop [0, 3] k_law27_light_L0 (liSt l nl i [])) = some (.out .ret s) ∧ val s.env (.t 2) = .bool false ∧ s.base = 0 ∧ s.tl = fun _ => none)
  | 0, i, h => by
    obtain rfl : i = l.length := by omega
    left
    refine ⟨fun s hs => by simp at hs, ?_⟩
    rw [run_round]
    simp [c_law27_light_L0, k_law27_light_L0b, liSt]
  | k + 1, i, h => by
    have hi : i < l.length := by omega
    have hi2 : (i : Int) < (l.length : Int) := by omega
    obtain ⟨x, hx⟩ : ∃ x, l[i]? = some x := ⟨_, List.getElem?_eq_getElem hi⟩
    have hx2 : ∀ hh : i < l.length, l[i] = x := fun hh => by rw [List.getElem?_eq_getElem hh] at hx; injection hx
    have w : IntKind.i64.wrap ((i : Int) + 1) = ((i + 1 : Nat) : Int) := by rw [wrap_i64 (by omega) (by omega)]; omega
    have ed : l.drop i = x :: l.drop (i + 1) := by rw [List.drop_eq_getElem_cons hi, hx2 hi]
    by_cases hs : x.small
    · obtain ⟨s1, s2, s3⟩ := hs
      have n1 : ¬ (30 : Int) < x.cl.main.2.length := by omega
      have n2 : ¬ (30 : Int) < x.cl.way.2.length := by omega
      have n3 : ¬ (30 : Int) < x.cl.opt.2.length := by omega
      have e : run kp (.loop [0, 3] k_law27_light_L0 (liSt l nl i [])) = run kp (.loop [0, 3] k_law27_light_L0 (liSt l nl (i + 1) [])) := by
        rw [run_round]
        generalize i + 1 = j at *
        simp [c_law27_light_L0, k_law27_light_L0b, liSt, hi, hi2, hx, hx2, w, Sp.d, Cl.d, rowD, n1, n2, n3]
      rcases li_loop l nl hl k (i + 1) (by omega) with ⟨g1, g2⟩ | ⟨s, g1, g2⟩
      · left
        refine ⟨fun y hy => ?_, by rw [e, g2]⟩
        rw [ed] at hy
        rcases List.mem_cons.1 hy with rfl | hy
        · exact ⟨s1, s2, s3⟩
        · exact g1 y hy
      · right; exact ⟨s, by rw [e, g1], g2⟩
    · right
      rw [run_round]
      by_cases n1 : (30 : Int) < x.cl.main.2.length
      · simp [c_law27_light_L0, k_law27_light_L0b, liSt, hi, hi2, hx, hx2, w, Sp.d, Cl.d, rowD, n1]
      · by_cases n2 : (30 : Int) < x.cl.way.2.length
        · simp [c_law27_light_L0, k_law27_light_L0b, liSt, hi, hi2, hx, hx2, w, Sp.d, Cl.d, rowD, n1, n2]
        · have n3 : (30 : Int) < x.cl.opt.2.length := by
            have : ¬ (x.cl.main.2.length ≤ 30 ∧ x.cl.way.2.length ≤ 30 ∧ x.cl.opt.2.length ≤ 30) := hs
            omega
          simp [c_law27_light_L0, k_law27_light_L0b, liSt, hi, hi2, hx, hx2, w, Sp.d, Cl.d, rowD, n1, n2, n3]
theorem law27_light (l : List Sp) (nl : Bool) (hl : l.length ≤ 9223372036854775807) : ∃ c : Bool, run kp (.data f_law27_light [.sl nl (l.map Sp.d)]) = some (.ds [.bool c]) ∧ (c = true → smalls l ∧ l.length ≤ 10) := by
  rw [run_data, run_call, kp_law27_light]
  rcases li_loop l nl hl l.length 0 (by omega) with ⟨h1, h2⟩ | ⟨s, h1, h2, h3, h4⟩
  · refine ⟨decide ((l.length : Int) ≤ 10), ?_, fun k => ⟨by simpa using h1, by simp at k; omega⟩⟩
    simp only [liSt, List.append_nil, List.cons_append, List.nil_append, Int.cast_ofNat_Int] at h2
    simp [k_law27_light, h2]
  · refine ⟨false, ?_, fun k => by cases k⟩
    simp only [liSt, List.append_nil, List.cons_append, List.nil_append, Int.cast_ofNat_Int] at h1
    obtain ⟨e, hp, tl, b, n⟩ := s
    simp only at h2 h3 h4
    subst h3 h4
    have h2' : Fw.look e 2 = .bool false := h2
    simp [k_law27_light, h1, h2']
theorem ref_dec (nl : Bool) {b : List Int} (hb : bytesOk b) (hl : b.length ≤ 50000) : run kp (.dats f_ref27_Decode [.sl nl (b.map u8d)]) = some (.ds [rowS (dec b)]) := by
  rw [ref27_Decode nl b hb hl]
  have h := play_dec nl hb hl
  rw [play_Decode nl b hb hl] at h
  exact h
theorem smalls_lite {l : List Sp} (h : smalls l) : ∀ x ∈ l, x.cl.lite := fun x hx => by
  obtain ⟨a, b, c⟩ := h x hx
  exact ⟨by omega, by omega, by omega⟩
set_option maxRecDepth 10000 in
set_option maxHeartbeats 32000000 in
theorem pb_run (nl : Bool) (b : List Int) (hb : bytesOk b) (hbl : b.length ≤ 200) (n2 : Bool) (l : List Sp) (hs : smalls l) (hl : l.length ≤ 10) (lt : run kp (.data f_law27_light [.sl n2 (l.map Sp.d)]) = some (.ds [.bool true])) (pn : Bool) (P : List D) (hP : NumOk P 0) (hp : P.length ≤ 200)
    (m : List Sp) (hm : smalls m) (hml : m.length ≤ 40) (h0 : m ≠ []) (hp' : Hp) (st : run kp (.call f_play_Picks_Steps [.ptr 0 [], .int .i64 20] (fun x => if 0 = x then some (pkB pn P 0) else none) 1) = some (.val (.sl false 1 0 m.length) (hp' ++ [(1, .row true (m.map Sp.d))]) 2)) (hh : hp' = [] ∨ ∃ n', hp' = [(0, pkB pn P n')]) :
    ∃ u k, run kp (.call f_law27_PlayBytes [.d (.sl nl (b.map u8d)), .d (.sl n2 (l.map Sp.d)), .d (.sl pn P)] (fun _ => none) 0) = some (.val (.bool true) u k) := by
  have g1 : ¬ (200 : Int) < b.length := by omega
  have g2 : ¬ (200 : Int) < P.length := by omega
  have d1 := play_dec nl hb (by omega)
  have d2 := ref_dec nl hb (by omega)
  have la := dec_lite hb (by omega)
  have sz : (dec b).length ≤ 100000 := by have := dec_le b; omega
  generalize dec b = A at *
  have ss := ref27_SameSteps A A A.isEmpty A.isEmpty sz (fun x hx => (la x hx).lim)
  have e1 := play_Encode l n2 (by omega) (smalls_lite hs)
  have e2 := ref27_Encode l n2 (by omega) (smalls_lite hs)
  have e3 := play_Encode m false (by omega) (smalls_lite hm)
  have e4 := ref27_Encode m false (by omega) (smalls_lite hm)
  generalize encB l = U at *
  generalize encB m = W at *
  have eq1 : eqB (A.map skey) (A.map skey) = true := (eqB_iff _ _).2 rfl
  rw [eq1] at ss
  simp only [pkB] at st hh
  rw [run_call, kp_law27_PlayBytes]
  have tm : List.take m.length (m.map Sp.d) = m.map Sp.d := List.take_of_length_le (by simp)
  have bU0 : bytesOf [] = some [] := rfl
  rcases hh with rfl | ⟨n', rfl⟩
  · cases A with
    | nil =>
      cases U with
      | nil =>
        cases W with
        | nil =>
          simp only [rowS, rowU, List.isEmpty_nil, List.isEmpty_cons, List.map_nil, List.map_cons] at d1 d2 ss e1 e2 e3 e4
          simp [k_law27_PlayBytes, canK_canH, play_begun, g1, g2, lt, made_call, st, hputs_append, d1, d2, ss, e1, e2, e3, e4, tm, bU0]
        | cons z W =>
          have bW := bytes_u8s (z :: W)
          have tW : List.take (W.length + 1) (u8d z :: W.map u8d) = u8d z :: W.map u8d := List.take_of_length_le (by simp)
          simp only [List.map_cons] at bW
          simp only [rowS, rowU, List.isEmpty_nil, List.isEmpty_cons, List.map_nil, List.map_cons] at d1 d2 ss e1 e2 e3 e4
          simp [k_law27_PlayBytes, canK_canH, play_begun, g1, g2, lt, made_call, st, hputs_append, d1, d2, ss, e1, e2, e3, e4, tm, bU0, bW, tW]
      | cons y U =>
        cases W with
        | nil =>
          have bU := bytes_u8s (y :: U)
          have tU : List.take (U.length + 1) (u8d y :: U.map u8d) = u8d y :: U.map u8d := List.take_of_length_le (by simp)
          simp only [List.map_cons] at bU
          simp only [rowS, rowU, List.isEmpty_nil, List.isEmpty_cons, List.map_nil, List.map_cons] at d1 d2 ss e1 e2 e3 e4
          simp [k_law27_PlayBytes, canK_canH, play_begun, g1, g2, lt, made_call, st, hputs_append, d1, d2, ss, e1, e2, e3, e4, tm, bU0, bU, tU]
        | cons z W =>
          have bU := bytes_u8s (y :: U)
          have tU : List.take (U.length + 1) (u8d y :: U.map u8d) = u8d y :: U.map u8d := List.take_of_length_le (by simp)
          have bW := bytes_u8s (z :: W)
          have tW : List.take (W.length + 1) (u8d z :: W.map u8d) = u8d z :: W.map u8d := List.take_of_length_le (by simp)
          simp only [List.map_cons] at bU bW
          simp only [rowS, rowU, List.isEmpty_nil, List.isEmpty_cons, List.map_nil, List.map_cons] at d1 d2 ss e1 e2 e3 e4
          simp [k_law27_PlayBytes, canK_canH, play_begun, g1, g2, lt, made_call, st, hputs_append, d1, d2, ss, e1, e2, e3, e4, tm, bU0, bU, tU, bW, tW]
    | cons a A =>
      cases U with
      | nil =>
        cases W with
        | nil =>
          simp only [rowS, rowU, List.isEmpty_nil, List.isEmpty_cons, List.map_nil, List.map_cons] at d1 d2 ss e1 e2 e3 e4
          simp [k_law27_PlayBytes, canK_canH, play_begun, g1, g2, lt, made_call, st, hputs_append, d1, d2, ss, e1, e2, e3, e4, tm, bU0]
        | cons z W =>
          have bW := bytes_u8s (z :: W)
          have tW : List.take (W.length + 1) (u8d z :: W.map u8d) = u8d z :: W.map u8d := List.take_of_length_le (by simp)
          simp only [List.map_cons] at bW
          simp only [rowS, rowU, List.isEmpty_nil, List.isEmpty_cons, List.map_nil, List.map_cons] at d1 d2 ss e1 e2 e3 e4
          simp [k_law27_PlayBytes, canK_canH, play_begun, g1, g2, lt, made_call, st, hputs_append, d1, d2, ss, e1, e2, e3, e4, tm, bU0, bW, tW]
      | cons y U =>
        cases W with
        | nil =>
          have bU := bytes_u8s (y :: U)
          have tU : List.take (U.length + 1) (u8d y :: U.map u8d) = u8d y :: U.map u8d := List.take_of_length_le (by simp)
          simp only [List.map_cons] at bU
          simp only [rowS, rowU, List.isEmpty_nil, List.isEmpty_cons, List.map_nil, List.map_cons] at d1 d2 ss e1 e2 e3 e4
          simp [k_law27_PlayBytes, canK_canH, play_begun, g1, g2, lt, made_call, st, hputs_append, d1, d2, ss, e1, e2, e3, e4, tm, bU0, bU, tU]
        | cons z W =>
          have bU := bytes_u8s (y :: U)
          have tU : List.take (U.length + 1) (u8d y :: U.map u8d) = u8d y :: U.map u8d := List.take_of_length_le (by simp)
          have bW := bytes_u8s (z :: W)
          have tW : List.take (W.length + 1) (u8d z :: W.map u8d) = u8d z :: W.map u8d := List.take_of_length_le (by simp)
          simp only [List.map_cons] at bU bW
          simp only [rowS, rowU, List.isEmpty_nil, List.isEmpty_cons, List.map_nil, List.map_cons] at d1 d2 ss e1 e2 e3 e4
          simp [k_law27_PlayBytes, canK_canH, play_begun, g1, g2, lt, made_call, st, hputs_append, d1, d2, ss, e1, e2, e3, e4, tm, bU0, bU, tU, bW, tW]
  · cases A with
    | nil =>
      cases U with
      | nil =>
        cases W with
        | nil =>
          simp only [rowS, rowU, List.isEmpty_nil, List.isEmpty_cons, List.map_nil, List.map_cons] at d1 d2 ss e1 e2 e3 e4
          simp [k_law27_PlayBytes, canK_canH, play_begun, g1, g2, lt, made_call, st, hputs_append, d1, d2, ss, e1, e2, e3, e4, tm, bU0]
        | cons z W =>
          have bW := bytes_u8s (z :: W)
          have tW : List.take (W.length + 1) (u8d z :: W.map u8d) = u8d z :: W.map u8d := List.take_of_length_le (by simp)
          simp only [List.map_cons] at bW
          simp only [rowS, rowU, List.isEmpty_nil, List.isEmpty_cons, List.map_nil, List.map_cons] at d1 d2 ss e1 e2 e3 e4
          simp [k_law27_PlayBytes, canK_canH, play_begun, g1, g2, lt, made_call, st, hputs_append, d1, d2, ss, e1, e2, e3, e4, tm, bU0, bW, tW]
      | cons y U =>
        cases W with
        | nil =>
          have bU := bytes_u8s (y :: U)
          have tU : List.take (U.length + 1) (u8d y :: U.map u8d) = u8d y :: U.map u8d := List.take_of_length_le (by simp)
          simp only [List.map_cons] at bU
          simp only [rowS, rowU, List.isEmpty_nil, List.isEmpty_cons, List.map_nil, List.map_cons] at d1 d2 ss e1 e2 e3 e4
          simp [k_law27_PlayBytes, canK_canH, play_begun, g1, g2, lt, made_call, st, hputs_append, d1, d2, ss, e1, e2, e3, e4, tm, bU0, bU, tU]
        | cons z W =>
          have bU := bytes_u8s (y :: U)
          have tU : List.take (U.length + 1) (u8d y :: U.map u8d) = u8d y :: U.map u8d := List.take_of_length_le (by simp)
          have bW := bytes_u8s (z :: W)
          have tW : List.take (W.length + 1) (u8d z :: W.map u8d) = u8d z :: W.map u8d := List.take_of_length_le (by simp)
          simp only [List.map_cons] at bU bW
          simp only [rowS, rowU, List.isEmpty_nil, List.isEmpty_cons, List.map_nil, List.map_cons] at d1 d2 ss e1 e2 e3 e4
          simp [k_law27_PlayBytes, canK_canH, play_begun, g1, g2, lt, made_call, st, hputs_append, d1, d2, ss, e1, e2, e3, e4, tm, bU0, bU, tU, bW, tW]
    | cons a A =>
      cases U with
      | nil =>
        cases W with
        | nil =>
          simp only [rowS, rowU, List.isEmpty_nil, List.isEmpty_cons, List.map_nil, List.map_cons] at d1 d2 ss e1 e2 e3 e4
          simp [k_law27_PlayBytes, canK_canH, play_begun, g1, g2, lt, made_call, st, hputs_append, d1, d2, ss, e1, e2, e3, e4, tm, bU0]
        | cons z W =>
          have bW := bytes_u8s (z :: W)
          have tW : List.take (W.length + 1) (u8d z :: W.map u8d) = u8d z :: W.map u8d := List.take_of_length_le (by simp)
          simp only [List.map_cons] at bW
          simp only [rowS, rowU, List.isEmpty_nil, List.isEmpty_cons, List.map_nil, List.map_cons] at d1 d2 ss e1 e2 e3 e4
          simp [k_law27_PlayBytes, canK_canH, play_begun, g1, g2, lt, made_call, st, hputs_append, d1, d2, ss, e1, e2, e3, e4, tm, bU0, bW, tW]
      | cons y U =>
        cases W with
        | nil =>
          have bU := bytes_u8s (y :: U)
          have tU : List.take (U.length + 1) (u8d y :: U.map u8d) = u8d y :: U.map u8d := List.take_of_length_le (by simp)
          simp only [List.map_cons] at bU
          simp only [rowS, rowU, List.isEmpty_nil, List.isEmpty_cons, List.map_nil, List.map_cons] at d1 d2 ss e1 e2 e3 e4
          simp [k_law27_PlayBytes, canK_canH, play_begun, g1, g2, lt, made_call, st, hputs_append, d1, d2, ss, e1, e2, e3, e4, tm, bU0, bU, tU]
        | cons z W =>
          have bU := bytes_u8s (y :: U)
          have tU : List.take (U.length + 1) (u8d y :: U.map u8d) = u8d y :: U.map u8d := List.take_of_length_le (by simp)
          have bW := bytes_u8s (z :: W)
          have tW : List.take (W.length + 1) (u8d z :: W.map u8d) = u8d z :: W.map u8d := List.take_of_length_le (by simp)
          simp only [List.map_cons] at bU bW
          simp only [rowS, rowU, List.isEmpty_nil, List.isEmpty_cons, List.map_nil, List.map_cons] at d1 d2 ss e1 e2 e3 e4
          simp [k_law27_PlayBytes, canK_canH, play_begun, g1, g2, lt, made_call, st, hputs_append, d1, d2, ss, e1, e2, e3, e4, tm, bU0, bU, tU, bW, tW]
def offM : RRow := (false, [⟨8, 0, 1, 1⟩, ⟨1, 0, 0, -4⟩, ⟨0, 0, 0, 0⟩])
def offL : List Sp := [⟨1, ⟨1, 3, 20, 20, offM, (false, [⟨1, 0, 0, 99⟩, ⟨0, 0, 0, 0⟩]), offM, 0, 0, 0, 0, 0⟩, 0, 0⟩, ⟨1, Cl.zero 3, 0, 0⟩, ⟨1, Cl.zero 4, 0, 0⟩, ⟨1, Cl.zero 5, 0, 0⟩]
set_option maxRecDepth 100000 in
theorem steps_off (pn : Bool) : run kp (.call f_play_Picks_Steps [.ptr 0 [], .int .i64 20] (fun x => if 0 = x then some (pkB pn [] 0) else none) 1) = some (.val (.sl false 1 0 4) [(1, .row true (offL.map Sp.d))] 2) := by
  cases pn
  · exact run_of (n := 4000) (by kernel_rfl)
  · exact run_of (n := 4000) (by kernel_rfl)
set_option maxHeartbeats 8000000 in
theorem law2_PlayBytes (xs : List D) (h : Sh.hasL [.sl (.i .u8), .sl stepShP, .sl (.i .u8)] xs) : ∃ u k, run kp (.call f_law27_PlayBytes (xs.map ofD) (fun _ => none) 0) = some (.val (.bool true) u k) := by
  obtain ⟨x1, _, rfl, h1, h⟩ := hasL_cons h
  obtain ⟨x2, _, rfl, h2, h⟩ := hasL_cons h
  obtain ⟨x3, _, rfl, h3, h⟩ := hasL_cons h
  obtain rfl := hasL_nil h
  have hl0 := h2
  obtain ⟨nl, b, rfl, hb⟩ := has_bytes h1
  obtain ⟨n2, l, rfl, hml⟩ := has_stepsP h2
  obtain ⟨pn, P, rfl, p1, p2⟩ := has_picks h3
  by_cases g1 : (200 : Int) < b.length
  · refine ⟨[], 0, ?_⟩
    rw [List.map_cons, run_call, kp_law27_PlayBytes]
    simp [k_law27_PlayBytes, canK_canH, play_begun, g1]
  have gl : l.length ≤ 9223372036854775807 := by simp only [maxLen] at hml; omega
  · obtain ⟨c, lt, hc⟩ := law27_light l n2 gl
    cases c with
    | false =>
      refine ⟨[], 0, ?_⟩
      rw [List.map_cons, run_call, kp_law27_PlayBytes]
      simp [k_law27_PlayBytes, canK_canH, play_begun, g1, lt]
    | true =>
      obtain ⟨hs, hll⟩ := hc rfl
      by_cases g2 : (200 : Int) < P.length
      · refine ⟨[], 0, ?_⟩
        rw [List.map_cons, run_call, kp_law27_PlayBytes]
        simp [k_law27_PlayBytes, canK_canH, play_begun, g1, g2, lt]
      have hP : NumOk P 0 := ⟨by omega, by omega, by omega, p2⟩
      by_cases hp0 : 0 < P.length
      · obtain ⟨m, n', m1, m2, m3, _, st⟩ := steps_on pn P 0 hP (by omega) 0
        exact pb_run nl b hb (by omega) n2 l hs hll lt pn P hP (by omega) m m1 m3 (fun e => by subst e; simp at m2) [(0, pkB pn P n')] (st _ 1 (by simp) (by omega)) (.inr ⟨n', rfl⟩)
      · have : P = [] := List.eq_nil_of_length_eq_zero (by omega)
        subst this
        have so : smalls offL := fun x hx => by
          simp [offL] at hx
          rcases hx with rfl | rfl | rfl | rfl <;> exact ⟨by decide, by decide, by decide⟩
        exact pb_run nl b hb (by omega) n2 l hs hll lt pn [] hP (by omega) offL so (by decide) (by simp [offL]) [] (steps_off pn) (.inl rfl)
end Go.Cd
