/- The document's program out of bytes; the same programs. No conditions. -/
import Derived.Test.YteamehchfnccmaaR4QCodeU
set_option linter.unusedVariables false
set_option linter.unusedSimpArgs false
namespace Go.Cd
open Go Go.Fw
def allFrom (b : List Int) : Nat → Nat → Bool
  | _, 0 => true
  | i, j + 1 => mayF (decI (chunk b i)) && allFrom b (i + 1) j
theorem allFrom_all (b : List Int) : ∀ j i, (decs b (i + j)).all mayF = ((decs b i).all mayF && allFrom b i j)
  | 0, i => by simp [allFrom]
  | j + 1, i => by
    rw [show i + (j + 1) = (i + 1) + j by omega, allFrom_all b j (i + 1), decs_succ, List.all_append]
    simp only [List.all_cons, List.all_nil, Bool.and_true, allFrom, Bool.and_assoc]
def rtakeSt (b : List Int) (nl : Bool) (acc : List Inst) (i : Nat) (ex : List (Nat × V)) : St :=
  { env := [(0, .asl nl (b.map u8d)), (4, aV 0 acc), (5, .int .i64 (i : Int))] ++ ex, hp := aH 0 acc, tl := fun _ => none, base := 0, next := aN acc }
set_option maxRecDepth 10000 in
set_option maxHeartbeats 8000000 in
theorem rtake_round (b : List Int) (hb : bytesOk b) (nl : Bool) (k : Nat) (hk : k ≤ 24) (hlen : b.length = 1 + 7 * k) (h0 : b[0]? = some (k : Int)) (acc : List Inst) (hl : acc.length ≤ 100000) (i : Nat) (hi : i < k) :
    (mayF (decI (chunk b i)) = true → run kp (.loop [0, 4, 5] k_ref1_TakeCode_L0 (rtakeSt b nl acc i [])) = run kp (.loop [0, 4, 5] k_ref1_TakeCode_L0 (rtakeSt b nl (acc ++ [decI (chunk b i)]) (i + 1) []))) ∧
    (mayF (decI (chunk b i)) = false → ∃ s, run kp (.loop [0, 4, 5] k_ref1_TakeCode_L0 (rtakeSt b nl acc i [])) = some (.out .ret s) ∧ val s.env (.t 2) = .d (.sl true []) ∧ val s.env (.t 3) = .bool false ∧ s.base = 0) := by
  have ti := ref1_TakeInst (c := b.drop (1 + 7 * i)) (by simp; omega) (fun x hx => hb x (List.mem_of_mem_drop hx)) nl
  have hc : (b.drop (1 + 7 * i)).take 7 = chunk b i := rfl
  rw [hc, List.map_drop] at ti
  have w7 : IntKind.i64.wrap (7 * (i : Int)) = 7 * (i : Int) := wrap_i64 (by omega) (by omega)
  have w1 : IntKind.i64.wrap (1 + 7 * (i : Int)) = 1 + 7 * (i : Int) := wrap_i64 (by omega) (by omega)
  have w : IntKind.i64.wrap ((i : Int) + 1) = ((i + 1 : Nat) : Int) := by rw [wrap_i64 (by omega) (by omega)]; omega
  have wk : IntKind.i64.wrap (k : Int) = (k : Int) := wrap_i64 (by omega) (by omega)
  have p : (i : Int) < (k : Int) := by omega
  have p0 : (0 : Int) ≤ 1 + 7 * (i : Int) := by omega
  have p1 : 1 + 7 * (i : Int) ≤ (b.length : Int) := by omega
  have et : (1 + 7 * (i : Int)).toNat = 1 + 7 * i := by omega
  have em : ((b.length : Int) - (1 + 7 * (i : Int))).toNat = b.length - (1 + 7 * i) := by omega
  have tk : List.take (b.length - (1 + 7 * i)) (List.drop (1 + 7 * i) (b.map u8d)) = List.drop (1 + 7 * i) (b.map u8d) := List.take_of_length_le (by simp)
  have hl0 : 0 < b.length := by omega
  have h02 : ∀ hh : 0 < b.length, b[0] = (k : Int) := fun hh => by rw [List.getElem?_eq_getElem hh] at h0; injection h0
  have e8 : ∀ x, u8d x = .int .u8 x := fun _ => rfl
  generalize hcc : decI (chunk b i) = x at *
  generalize i + 1 = i' at *
  refine ⟨fun hm => ?_, fun hm => ?_⟩
  · rw [hm, if_pos rfl] at ti
    rw [run_round]
    cases acc with
    | nil => simp [c_ref1_TakeCode_L0, k_ref1_TakeCode_L0b, rtakeSt, aV, aH, aN, w, w1, w7, wk, p, p0, p1, et, em, tk, hl0, h0, h02, e8, ti, adopt_I, Inst.d]
    | cons y acc =>
      simp only [List.length_cons] at hl
      have q1 : acc.length ≤ 1073741822 := by omega
      simp [c_ref1_TakeCode_L0, k_ref1_TakeCode_L0b, rtakeSt, aV, aH, aN, w, w1, w7, wk, p, p0, p1, et, em, tk, hl0, h0, h02, e8, ti, q1, take_map_lenP, Inst.d]
  · rw [hm, if_neg (by simp)] at ti
    rw [run_round]
    cases acc with
    | nil => simp [c_ref1_TakeCode_L0, k_ref1_TakeCode_L0b, rtakeSt, aV, aH, aN, w, w1, w7, wk, p, p0, p1, et, em, tk, hl0, h0, h02, e8, ti, zI, Inst.d]
    | cons y acc => simp [c_ref1_TakeCode_L0, k_ref1_TakeCode_L0b, rtakeSt, aV, aH, aN, w, w1, w7, wk, p, p0, p1, et, em, tk, hl0, h0, h02, e8, ti, zI, Inst.d]
theorem rtake_loop (b : List Int) (hb : bytesOk b) (nl : Bool) (k : Nat) (hk : k ≤ 24) (hlen : b.length = 1 + 7 * k) (h0 : b[0]? = some (k : Int)) : ∀ (j i : Nat), i + j = k →
    (allFrom b i j = true → run kp (.loop [0, 4, 5] k_ref1_TakeCode_L0 (rtakeSt b nl (decs b i) i [])) = some (.out (.ext 0) (rtakeSt b nl (decs b k) k [(34, .bool false)]))) ∧
    (allFrom b i j = false → ∃ s, run kp (.loop [0, 4, 5] k_ref1_TakeCode_L0 (rtakeSt b nl (decs b i) i [])) = some (.out .ret s) ∧ val s.env (.t 2) = .d (.sl true []) ∧ val s.env (.t 3) = .bool false ∧ s.base = 0)
  | 0, i, h => by
    obtain rfl : i = k := by omega
    refine ⟨fun _ => ?_, fun e => by simp [allFrom] at e⟩
    have wk : IntKind.i64.wrap (i : Int) = (i : Int) := wrap_i64 (by omega) (by omega)
    have hl0 : 0 < b.length := by omega
    have h02 : ∀ hh : 0 < b.length, b[0] = (i : Int) := fun hh => by rw [List.getElem?_eq_getElem hh] at h0; injection h0
    have e8 : ∀ x, u8d x = .int .u8 x := fun _ => rfl
    rw [run_round]
    generalize decs b i = acc
    cases acc with
    | nil => simp [c_ref1_TakeCode_L0, k_ref1_TakeCode_L0b, rtakeSt, aV, aH, aN, wk, hl0, h0, h02, e8]
    | cons y acc => simp [c_ref1_TakeCode_L0, k_ref1_TakeCode_L0b, rtakeSt, aV, aH, aN, wk, hl0, h0, h02, e8]
  | j + 1, i, h => by
    obtain ⟨r1, r2⟩ := rtake_round b hb nl k hk hlen h0 (decs b i) (by rw [decs_len]; omega) i (by omega)
    obtain ⟨p1, p2⟩ := rtake_loop b hb nl k hk hlen h0 j (i + 1) (by omega)
    rw [decs_succ] at p1 p2
    unfold allFrom
    cases hm : mayF (decI (chunk b i)) with
    | true =>
      rw [r1 hm, Bool.true_and]
      exact ⟨p1, p2⟩
    | false => exact ⟨fun e => by simp at e, fun _ => r2 hm⟩
theorem canon_tup (s : St) (x : D) (c : Bool) (hb : s.base = 0) : ∃ u k, canK (canon [(0, .tup [.d x, .bool c])] s) = some (.val (.tup [.d x, .bool c]) u k) := by
  unfold canon
  rw [hb]
  simp only [outer_no]
  have e1 : envHs [(0, V.tup [.d x, .bool c])] = [] := rfl
  have e2 : hpHs [] = [] := rfl
  have e3 : reach s.g 0 4096 [] [] = [] := rfl
  rw [e1, e2]
  simp only [List.append_nil]
  rw [e3]
  exact ⟨_, _, rfl⟩
theorem valK_tup (u : Hp) (k : Nat) (c : Bool) : valK (some (.val (.tup [.d (.sl true []), .bool c]) u k)) = some (.ds [.sl true [], .bool c]) := rfl
set_option maxRecDepth 10000 in
set_option maxHeartbeats 8000000 in
theorem ref1_TakeCode (b : List Int) (hb : bytesOk b) (nl : Bool) (hbl : b.length ≤ 100000) : run kp (.data f_ref1_TakeCode [.sl nl (b.map u8d)]) = some (.ds (takeR b)) := by
  have e8 : ∀ x, u8d x = .int .u8 x := fun _ => rfl
  have none_of : (∀ k : Nat, b.length = 1 + 7 * k → b[0]? = some (k : Int) → k ≤ 24 → (decs b k).all mayF = false) → takeR b = [.sl true [], .bool false] := fun h => by
    unfold takeR
    cases ho : takeO b with
    | none => rfl
    | some l =>
      obtain ⟨k, h1, h2, h3, h4, _⟩ := (takeO_iff hb l).1 ho
      rw [h k h1 h2 h3] at h4
      cases h4
  rw [run_data, run_call, kp_ref1_TakeCode]
  cases b with
  | nil =>
    rw [none_of (fun k h _ _ => by simp at h; omega)]
    simp [k_ref1_TakeCode]
  | cons z r =>
    have hz := hb z (by simp)
    have wz : IntKind.i64.wrap z = z := wrap_i64 (by omega) (by omega)
    have w7 : IntKind.i64.wrap (7 * z) = 7 * z := wrap_i64 (by omega) (by omega)
    have w1 : IntKind.i64.wrap (1 + 7 * z) = 1 + 7 * z := wrap_i64 (by omega) (by omega)
    have r0 : ¬ ((r.length : Int) + 1 < 1) := by omega
    by_cases h1 : 24 < z
    · rw [none_of (fun k _ h h' => by simp at h; omega)]
      simp [k_ref1_TakeCode, e8, wz, w7, w1, h1, r0]
    by_cases h2 : (r.length : Int) + 1 = 1 + 7 * z
    · obtain ⟨k, rfl⟩ : ∃ k : Nat, z = (k : Int) := ⟨z.toNat, by omega⟩
      have hlen : ((k : Int) :: r).length = 1 + 7 * k := by simp; omega
      have hk : k ≤ 24 := by omega
      obtain ⟨p1, p2⟩ := rtake_loop ((k : Int) :: r) hb nl k hk hlen rfl k 0 (by omega)
      have ha := allFrom_all ((k : Int) :: r) k 0
      rw [Nat.zero_add] at ha
      have h3 : ¬ (24 : Int) < (k : Int) := by omega
      have r1 : ¬ (1 + 7 * (k : Int) < 1) := by omega
      simp only [rtakeSt, decs, List.range_zero, List.map_nil, aV, aH, aN, List.append_nil, List.cons_append, List.nil_append, List.map_cons, Int.cast_ofNat_Int, List.all_nil, Bool.true_and] at p1 p2 ha
      have ed : ((List.range k).map fun i => decI (chunk ((k : Int) :: r) i)) = decs ((k : Int) :: r) k := rfl
      rw [ed] at p1 ha
      cases hm : allFrom ((k : Int) :: r) 0 k with
      | true =>
        have p1 := p1 hm
        rw [hm] at ha
        have : takeR ((k : Int) :: r) = [rowI (decs ((k : Int) :: r) k), .bool true] := by
          unfold takeR
          rw [(takeO_iff hb _).2 ⟨k, hlen, rfl, hk, ha, rfl⟩]
        rw [this]
        generalize decs ((k : Int) :: r) k = R at *
        cases R with
        | nil =>
          simp only [aV, aH, aN, List.map_nil] at p1
          simp [k_ref1_TakeCode, e8, wz, w7, w1, h1, h2, h3, r0, r1, rowI]
          simp only [e8] at p1
          simp [p1]
        | cons x R =>
          simp only [aV, aH, aN, List.map_cons] at p1
          simp only [e8] at p1
          simp [k_ref1_TakeCode, e8, wz, w7, w1, h1, h2, h3, r0, r1, rowI, p1, take_map_lenP]
      | false =>
        obtain ⟨s, p2, q1, q2, q3⟩ := p2 hm
        obtain ⟨u, n, cn⟩ := canon_tup s (.sl true []) false q3
        rw [hm] at ha
        rw [none_of (fun j g1 g2 _ => by
          have : j = k := by omega
          subst this; exact ha)]
        simp only [val] at q1 q2
        simp only [e8] at p2
        simp [k_ref1_TakeCode, e8, wz, w7, w1, h1, h2, h3, r0, r1, p2, q1, q2, cn, valK_tup]
    · rw [none_of (fun k g1 g2 _ => by simp at g1 g2; omega)]
      simp [k_ref1_TakeCode, e8, wz, w7, w1, h1, h2, r0]
end Go.Cd
