/- The law MboxOrder, as the evaluator has it. No conditions. -/
import Derived.Test.YtpdanhecaalfbaaR2PMboxWaits
set_option linter.unusedVariables false
set_option linter.unusedSimpArgs false
namespace Go.Cd
open Go Go.Fw
/-- n numbers behind a. -/
def sq : Int → Nat → List Int
  | _, 0 => []
  | a, n + 1 => (a + 1) :: sq (a + 1) n
@[simp] theorem sq_len : ∀ (n : Nat) (a : Int), (sq a n).length = n
  | 0, _ => rfl
  | n + 1, a => by simp [sq, sq_len n]
@[simp] theorem take_sq (a : Int) (n : Nat) : List.take n (List.map (D.int .i64) (sq a n)) = List.map (D.int .i64) (sq a n) := List.take_of_length_le (by simp)
theorem sq_snoc : ∀ (n : Nat) (a : Int), sq a n ++ [a + n + 1] = sq a (n + 1)
  | 0, a => by simp [sq]
  | n + 1, a => by
    have := sq_snoc n (a + 1)
    simp only [sq, List.cons_append] at this ⊢
    rw [← this]
    congr 3; omega
def bxV (k : Nat) : Bool → Bool → List Int → List Int → V
  | true, true, _, _ => .d (.agg [.sl true [], .sl true []])
  | true, false, _, w => .agg [.d (.sl true []), .sl false k 0 w.length]
  | false, true, l, _ => .agg [.sl false k 0 l.length, .d (.sl true [])]
  | false, false, l, w => .agg [.sl false k 0 l.length, .sl false (k + 1) 0 w.length]
def bxH (k : Nat) : Bool → Bool → List Int → List Int → Hp
  | true, true, _, _ => []
  | true, false, _, w => [(k, .row true (w.map (.int .i64)))]
  | false, true, l, _ => [(k, .row true (l.map (.int .i64)))]
  | false, false, l, w => [(k, .row true (l.map (.int .i64))), (k + 1, .row true (w.map (.int .i64)))]
def bxN : Bool → Bool → Nat
  | true, true => 0
  | true, false => 1
  | false, true => 1
  | false, false => 2
def waitV (k off len : Nat) : Bool → V
  | true => .d (.sl true [])
  | false => .sl false k off len
def waitH (k : Nat) (cs : List D) : Bool → Hp
  | true => []
  | false => [(k, .row true cs)]
def waitN : Bool → Nat
  | true => 0
  | false => 1
def moSt (nl : Bool) (who : List Int) (ln wn : Bool) (l w : List Int) (cs : List D) (off : Nat) (posted came : Int) (ex : List (Nat × V)) (i : Int) : St :=
  { env := [(0, .asl nl (who.map (.int .u8))), (3, .ptr 0 []), (4, .int .i64 posted), (5, .int .i64 came), (6, waitV (1 + bxN ln wn) off w.length wn), (7, .int .i64 i)] ++ ex,
    hp := (0, .box (bxV 1 ln wn l w)) :: (bxH 1 ln wn l w ++ waitH (1 + bxN ln wn) cs wn), tl := fun _ => none, base := 0, next := 1 + bxN ln wn + waitN wn }
/-- While it is looked for who asks: what was taken stands beside. -/
def moSt1 (nl : Bool) (who : List Int) (ln wn : Bool) (w : List Int) (cs : List D) (off : Nat) (w' : List Int) (posted came i c : Int) (got ok th : Bool) (ex : List (Nat × V)) (k : Int) : St :=
  { env := [(0, .asl nl (who.map (.int .u8))), (3, .ptr 0 []), (4, .int .i64 posted), (5, .int .i64 came), (6, waitV (1 + bxN ln wn) off w.length wn), (7, .int .i64 i), (12, .int .i64 c), (13, .ptr (1 + bxN ln wn + waitN wn) []), (15, .bool got), (16, .bool ok), (17, .bool th), (18, .int .i64 k)] ++ ex,
    hp := (0, .box (bxV 1 ln wn [] w)) :: (bxH 1 ln wn [] w ++ (waitH (1 + bxN ln wn) cs wn ++ ((1 + bxN ln wn + waitN wn, .box (bxV (1 + bxN ln wn + waitN wn + 1) ln false [] w')) :: bxH (1 + bxN ln wn + waitN wn + 1) ln false [] w'))), tl := fun _ => none, base := 0, next := 1 + bxN ln wn + waitN wn + 1 + bxN ln false }
set_option maxHeartbeats 4000000 in
theorem mo_loop1 (nl : Bool) (who : List Int) (ln : Bool) (w : List Int) (hf : w.length ≤ 1000) (cs : List D) (off : Nat) (hc : cs.drop off = w.map (.int .i64)) (hcl : cs.length = off + w.length) (w' : List Int) (posted came i c : Int) (got ok : Bool) : ∀ (rest pre : List Int), w = pre ++ rest → ∀ (k : Int), k = pre.length → ∀ (th : Bool),
    run kp (.loop [0, 3, 4, 5, 6, 7, 12, 13, 15, 16, 17, 18] k_law12_MboxOrder_L1 (moSt1 nl who ln false w cs off w' posted came i c got ok th [] k)) =
    some (.out (.ext 2) (moSt1 nl who ln false w cs off w' posted came i c got ok (th || decide (c ∈ rest)) [(119, .bool false)] w.length))
  | [], pre, e, k, hk, th => by
    simp at e
    subst e hk
    rw [run_round]
    cases ln <;> simp [c_law12_MboxOrder_L1, k_law12_MboxOrder_L1b, moSt1, bxV, bxH, bxN, waitV, waitH, waitN]
  | s :: rest, pre, e, k, hk, th => by
    have hli : k < w.length := by rw [e, hk]; simp; omega
    have h0 : 0 ≤ k := by omega
    have hw : IntKind.i64.wrap (k + 1) = k + 1 := wrap_i64 (by omega) (by omega)
    have ih := mo_loop1 nl who ln w hf cs off hc hcl w' posted came i c got ok rest (pre ++ [s]) (by simp [e]) (k + 1) (by simp [hk]) (th || decide (s = c))
    have hget0 : cs[off + k.toNat]? = some (.int .i64 s) := by
      rw [← List.getElem?_drop, hc, e, hk]; simp
    have hlt : off + k.toNat < cs.length := by omega
    have hget : ∀ hh : off + k.toNat < cs.length, cs[off + k.toNat] = .int .i64 s := fun hh => by rw [List.getElem?_eq_getElem hh] at hget0; injection hget0
    have e1 : (th || decide (s = c) || decide (c ∈ rest)) = (th || decide (c ∈ s :: rest)) := by
      by_cases hc : s = c
      · simp [hc]
      · have : ¬ c = s := fun e => hc e.symm
        simp [hc, this]
    rw [e1] at ih
    generalize (th || decide (c ∈ s :: rest)) = fin at *
    rw [run_round]
    simp only [moSt1] at ih ⊢
    cases th with
    | true =>
      simp only [Bool.true_or] at ih
      cases ln <;> simp [c_law12_MboxOrder_L1, k_law12_MboxOrder_L1b, bxV, bxH, bxN, waitV, waitH, waitN, h0, hli, hlt, hget, hget0, hw] at ih ⊢ <;> exact ih
    | false =>
      simp only [Bool.false_or] at ih
      cases ln <;> simp [c_law12_MboxOrder_L1, k_law12_MboxOrder_L1b, bxV, bxH, bxN, waitV, waitH, waitN, h0, hli, hlt, hget, hget0, hw] at ih ⊢ <;> exact ih
theorem mo_loop1n (nl : Bool) (who : List Int) (ln : Bool) (cs : List D) (off : Nat) (w' : List Int) (posted came i c : Int) (got ok : Bool) (th : Bool) :
    run kp (.loop [0, 3, 4, 5, 6, 7, 12, 13, 15, 16, 17, 18] k_law12_MboxOrder_L1 (moSt1 nl who ln true [] cs off w' posted came i c got ok th [] 0)) =
    some (.out (.ext 2) (moSt1 nl who ln true [] cs off w' posted came i c got ok th [(119, .bool false)] 0)) := by
  rw [run_round]
  cases ln <;> simp [c_law12_MboxOrder_L1, k_law12_MboxOrder_L1b, moSt1, bxV, bxH, bxN, waitV, waitH, waitN]
/-- What stands between two deeds. -/
structure MoInv (ln wn : Bool) (n : Nat) (w : List Int) (cs : List D) (off : Nat) (posted came i : Int) : Prop where
  c0 : 0 ≤ came
  pc : posted = came + n
  pi : posted ≤ i
  n4 : n ≤ 4
  w4 : w.length ≤ 4
  one : w ≠ [] → n = 0
  lnn : ln = true → n = 0
  wnn : wn = true → w = []
  hc : wn = false → cs.drop off = w.map (.int .i64)
  hl : wn = false → cs.length = off + w.length
set_option maxHeartbeats 16000000 in
theorem mo_step (nl : Bool) (who : List Int) (i : Int) (h0 : 0 ≤ i) (hli : i < who.length) (hi60 : i ≤ 60) (x : Int) (hx : 0 ≤ x ∧ x < 256) (hget : ∀ hh : i.toNat < who.length, who[i.toNat] = x) (hw : IntKind.i64.wrap (i + 1) = i + 1)
    (ln wn : Bool) (n : Nat) (w : List Int) (cs : List D) (off : Nat) (posted came : Int) (I : MoInv ln wn n w cs off posted came i) :
    ∃ (ln' wn' : Bool) (n' : Nat) (w' : List Int) (cs' : List D) (off' : Nat) (posted' came' : Int), MoInv ln' wn' n' w' cs' off' posted' came' (i + 1) ∧
      run kp (.loop [0, 3, 4, 5, 6, 7] k_law12_MboxOrder_L0 (moSt nl who ln wn (sq came n) w cs off posted came [] i)) = run kp (.loop [0, 3, 4, 5, 6, 7] k_law12_MboxOrder_L0 (moSt nl who ln' wn' (sq came' n') w' cs' off' posted' came' [] (i + 1))) := by
  obtain ⟨c0, pc, pi, n4, w4, one, lnn, wnn, hc, hl⟩ := I
  have hb : Box.ok ⟨ln, sq came n, wn, w⟩ := ⟨fun h => by rw [lnn h]; rfl, wnn, by simp; omega, by simp; omega⟩
  have wp : IntKind.i64.wrap (posted + 1) = posted + 1 := wrap_i64 (by omega) (by omega)
  have wc : IntKind.i64.wrap (came + 1) = came + 1 := wrap_i64 (by omega) (by omega)
  have wd : IntKind.i64.wrap (posted - came) = posted - came := wrap_i64 (by omega) (by omega)
  by_cases hx2 : x.tmod 2 = 0
  · have ps := mbox_PostX ⟨ln, sq came n, wn, w⟩ hb (posted + 1)
    cases w with
    | cons c w =>
      have n0 : n = 0 := one (by simp)
      subst n0
      have hwn : wn = false := by cases wn; rfl; exact absurd (wnn rfl) (by simp)
      subst hwn
      have e1 : posted = came := by omega
      subst e1
      have hc := hc rfl
      have hl := hl rfl
      simp only [List.length_cons] at hl w4
      refine ⟨ln, false, 0, w, cs, off + 1, posted + 1, posted + 1, ⟨by omega, by omega, by omega, by omega, by omega, fun _ => rfl, fun _ => rfl, by simp, fun _ => ?_, fun _ => by omega⟩, ?_⟩
      · have := congrArg List.tail hc
        simpa [List.tail_drop] using this
      · have hget0 : cs[off]? = some (.int .i64 c) := by
          have := congrArg List.head? hc
          simpa [List.head?_drop] using this
        have hlt : off < cs.length := by omega
        have hg : ∀ hh : off < cs.length, cs[off] = .int .i64 c := fun hh => by rw [List.getElem?_eq_getElem hh] at hget0; injection hget0
        have hwc : (1 : Int) ≤ (w.length : Int) + 1 := by omega
        have z0 : ¬ (w.length : Int) + 1 = 0 := by omega
        simp [postF, postN, Box.d, sq] at ps
        rw [run_round]
        cases ln <;> simp [c_law12_MboxOrder_L0, k_law12_MboxOrder_L0b, moSt, bxV, bxH, bxN, waitV, waitH, waitN, sq, h0, hli, hget, hw, hx2, ps, wp, wd, hget0, hlt, hg, hwc, z0]
    | nil =>
      by_cases hn : 4 ≤ n
      · have hln : ln = false := by cases ln; rfl; have := lnn rfl; omega
        subst hln
        refine ⟨false, wn, n, [], cs, off, posted, came, ⟨c0, pc, by omega, n4, by simp, by simp, by simp, by simp, hc, hl⟩, ?_⟩
        have h4 : (4 : Int) ≤ posted - came := by omega
        simp [postF, postN, Box.d, hn] at ps
        rw [run_round]
        cases wn <;> simp [c_law12_MboxOrder_L0, k_law12_MboxOrder_L0b, moSt, bxV, bxH, bxN, waitV, waitH, waitN, h0, hli, hget, hw, hx2, ps, wp, wd, h4]
      · refine ⟨false, wn, n + 1, [], cs, off, posted + 1, came, ⟨c0, by omega, by omega, by omega, by simp, by simp, by simp, by simp, hc, hl⟩, ?_⟩
        have h4 : ¬ (4 : Int) ≤ posted - came := by omega
        have hs := sq_snoc n came
        rw [← pc] at hs
        have hsm : List.map (D.int .i64) (sq came n) ++ [D.int .i64 (posted + 1)] = List.map (D.int .i64) (sq came (n + 1)) := by rw [← hs]; simp
        simp only [postF, postN, Box.d, sq_len, hn, if_false, hs] at ps
        rw [run_round]
        cases ln with
        | true =>
          obtain rfl := lnn rfl
          simp only [sq, List.map_nil] at ps
          cases wn <;> simp [sq] at ps <;> simp [c_law12_MboxOrder_L0, k_law12_MboxOrder_L0b, moSt, bxV, bxH, bxN, waitV, waitH, waitN, h0, hli, hget, hw, hx2, wp, wd, h4, ps, sq]
        | false =>
          cases wn <;> simp only [List.map_nil] at ps <;> simp [c_law12_MboxOrder_L0, k_law12_MboxOrder_L0b, moSt, bxV, bxH, bxN, waitV, waitH, waitN, h0, hli, hget, hw, hx2, wp, wd, h4, ps]
  · obtain ⟨c, hcc, hc1⟩ : ∃ c, IntKind.i64.wrap (1 + IntKind.i64.wrap ((IntKind.u8.wrap (x.tdiv 2)).tmod 6)) = c ∧ 1 ≤ c := by
      refine ⟨_, rfl, ?_⟩
      rw [Int.tdiv_eq_ediv_of_nonneg hx.1, IntKind.wrap_u8, show x / 2 % 256 = x / 2 by omega, Int.tmod_eq_emod_of_nonneg (by omega), wrap_i64 (x := x / 2 % 6) (by omega) (by omega), wrap_i64 (by omega) (by omega)]
      omega
    have hc1' : ¬ c < 1 := by omega
    have tk := mbox_TakeX ⟨ln, sq came n, wn, w⟩ hb c
    cases n with
    | succ n =>
      have hln : ln = false := by cases ln; rfl; have := lnn rfl; omega
      subst hln
      have hwe : w = [] := by
        cases w
        · rfl
        · have := one (by simp); omega
      subst hwe
      have hgt : came < posted := by omega
      refine ⟨false, wn, n, [], cs, off, posted, came + 1, ⟨by omega, by omega, by omega, by omega, by simp, by simp, by simp, by simp, hc, hl⟩, ?_⟩
      simp [takeF, takeN, Box.d, sq, hc1'] at tk
      rw [run_round]
      cases wn <;> simp [c_law12_MboxOrder_L0, k_law12_MboxOrder_L0b, moSt, bxV, bxH, bxN, waitV, waitH, waitN, sq, h0, hli, hget, hw, hx2, hcc, tk, hgt, wc]
    | zero =>
      have hgt : ¬ came < posted := by omega
      cases wn with
      | true =>
        obtain rfl := wnn rfl
        refine ⟨ln, false, 0, [c], [.int .i64 c], 0, posted, came, ⟨c0, pc, by omega, by omega, by simp, by simp, by simp, by simp, by simp, by simp⟩, ?_⟩
        have l1 := mo_loop1n nl who ln cs off [c] posted came i c false true false
        simp [takeF, takeN, Box.d, sq, hc1'] at tk
        rw [run_round]
        cases ln <;> simp [moSt1, bxV, bxH, bxN, waitV, waitH, waitN] at l1 <;> simp [c_law12_MboxOrder_L0, k_law12_MboxOrder_L0b, moSt, bxV, bxH, bxN, waitV, waitH, waitN, sq, h0, hli, hget, hw, hx2, hcc, tk, hgt, l1]
      | false =>
        have hc := hc rfl
        have hl := hl rfl
        by_cases hin : c ∈ w ∨ 4 ≤ w.length
        · refine ⟨ln, false, 0, w, cs, off, posted, came, ⟨c0, pc, by omega, by omega, w4, one, lnn, wnn, fun _ => hc, fun _ => hl⟩, ?_⟩
          have l1 := mo_loop1 nl who ln w (by omega) cs off hc hl w posted came i c false false w [] rfl 0 rfl false
          simp [takeF, takeN, Box.d, sq, hc1', hin] at tk
          rw [run_round]
          by_cases h1 : c ∈ w
          · cases ln <;> simp [moSt1, bxV, bxH, bxN, waitV, waitH, waitN, h1] at l1 <;> simp [c_law12_MboxOrder_L0, k_law12_MboxOrder_L0b, moSt, bxV, bxH, bxN, waitV, waitH, waitN, sq, h0, hli, hget, hw, hx2, hcc, tk, hgt, l1]
          · have h2 : ¬ (w.length : Int) < 4 := by
              rcases hin with h | h
              · exact absurd h h1
              · omega
            cases ln <;> simp [moSt1, bxV, bxH, bxN, waitV, waitH, waitN, h1] at l1 <;> simp [c_law12_MboxOrder_L0, k_law12_MboxOrder_L0b, moSt, bxV, bxH, bxN, waitV, waitH, waitN, sq, h0, hli, hget, hw, hx2, hcc, tk, hgt, l1, h2]
        · simp only [not_or] at hin
          obtain ⟨hin, hin2⟩ := hin
          refine ⟨ln, false, 0, w ++ [c], (w ++ [c]).map (.int .i64), 0, posted, came, ⟨c0, pc, by omega, by omega, by simp; omega, fun _ => rfl, fun _ => rfl, by simp, fun _ => by simp, fun _ => by simp⟩, ?_⟩
          have l1 := mo_loop1 nl who ln w (by omega) cs off hc hl (w ++ [c]) posted came i c false true w [] rfl 0 rfl false
          have h2 : (w.length : Int) < 4 := by omega
          have h3 : w.length ≤ 1073741823 := by omega
          have h4 : off + w.length ≤ cs.length := by omega
          have tk2 : List.take w.length (List.map (D.int .i64) w) = List.map (D.int .i64) w := List.take_of_length_le (by simp)
          simp [takeF, takeN, Box.d, sq, hc1', hin, hin2] at tk
          rw [run_round]
          cases ln <;> simp [moSt1, bxV, bxH, bxN, waitV, waitH, waitN, hin] at l1 <;> simp [c_law12_MboxOrder_L0, k_law12_MboxOrder_L0b, moSt, bxV, bxH, bxN, waitV, waitH, waitN, sq, h0, hli, hget, hw, hx2, hcc, tk, hgt, l1, h2, h3, h4, hc, tk2]
theorem mo_loop (nl : Bool) (who : List Int) (hf : who.length ≤ 60) (hu : ∀ x ∈ who, 0 ≤ x ∧ x < 256) : ∀ (rest pre : List Int), who = pre ++ rest → ∀ (i : Int), i = pre.length →
    ∀ (ln wn : Bool) (n : Nat) (w : List Int) (cs : List D) (off : Nat) (posted came : Int), MoInv ln wn n w cs off posted came i →
    ∃ (ln' wn' : Bool) (n' : Nat) (w' : List Int) (cs' : List D) (off' : Nat) (posted' came' i' : Int), MoInv ln' wn' n' w' cs' off' posted' came' i' ∧ i' ≤ 60 ∧
      run kp (.loop [0, 3, 4, 5, 6, 7] k_law12_MboxOrder_L0 (moSt nl who ln wn (sq came n) w cs off posted came [] i)) = some (.out (.ext 0) (moSt nl who ln' wn' (sq came' n') w' cs' off' posted' came' [(28, .bool false)] who.length))
  | [], pre, h, i, hi, ln, wn, n, w, cs, off, posted, came, I => by
    simp at h
    subst h hi
    refine ⟨ln, wn, n, w, cs, off, posted, came, _, I, by omega, ?_⟩
    have hlnn := I.lnn
    have hwnn := I.wnn
    rw [run_round]
    cases ln <;> cases wn <;> simp [c_law12_MboxOrder_L0, k_law12_MboxOrder_L0b, moSt, bxV, bxH, bxN, waitV, waitH, waitN]
  | x :: rest, pre, h, i, hi, ln, wn, n, w, cs, off, posted, came, I => by
    have hli : i < who.length := by rw [h, hi]; simp; omega
    have h0 : 0 ≤ i := by omega
    have hget0 : who[i.toNat]? = some x := by rw [h, hi]; simp
    have hget : ∀ hh : i.toNat < who.length, who[i.toNat] = x := fun hh => by rw [List.getElem?_eq_getElem hh] at hget0; injection hget0
    have hw : IntKind.i64.wrap (i + 1) = i + 1 := wrap_i64 (by omega) (by omega)
    obtain ⟨ln1, wn1, n1, w1, cs1, off1, p1, c1, I1, e1⟩ := mo_step nl who i h0 hli (by omega) x (hu x (by rw [h]; simp)) hget hw ln wn n w cs off posted came I
    obtain ⟨ln2, wn2, n2, w2, cs2, off2, p2, c2, i2, I2, l2, e2⟩ := mo_loop nl who hf hu rest (pre ++ [x]) (by simp [h]) (i + 1) (by simp [hi]) ln1 wn1 n1 w1 cs1 off1 p1 c1 I1
    exact ⟨ln2, wn2, n2, w2, cs2, off2, p2, c2, i2, I2, l2, by rw [e1, e2]⟩
theorem law_MboxOrder (xs : List D) (h : Sh.hasL [.sl (.i .u8)] xs) : run kp (.data f_law12_MboxOrder xs) = some (.ds [.bool true]) := by
  obtain ⟨x1, _, rfl, h1, h⟩ := hasL_cons h
  obtain rfl := hasL_nil h
  obtain ⟨nl, who, rfl, _, _, hw⟩ := has_nums h1
  rw [run_data, run_call, kp_law12_MboxOrder]
  by_cases hl : who.length ≤ 60
  · have a1 : ¬ (60 : Int) < who.length := by omega
    obtain ⟨ln, wn, n, w, cs, off, p, c, i', I, hi', e⟩ := mo_loop nl who hl (fun x hx => wf_u8 (hw x hx)) who [] rfl 0 rfl true true 0 [] [] 0 0 0 ⟨by omega, by omega, by omega, by omega, by simp, by simp, by simp, by simp, by simp, by simp⟩
    obtain ⟨c0, pc, pi, n4, w4, one, lnn, wnn, hc, hl⟩ := I
    have wd : IntKind.i64.wrap (p - c) = p - c := wrap_i64 (by omega) (by omega)
    have e4 : (n : Int) = p - c := by omega
    have e5 : p - c = (n : Int) := by omega
    have w5 : IntKind.i64.wrap (n : Int) = n := wrap_i64 (by omega) (by omega)
    have w6 : IntKind.i64.wrap 0 = 0 := by decide
    simp [moSt, bxV, bxH, bxN, waitV, waitH, waitN, sq] at e
    cases ln with
    | true =>
      obtain rfl := lnn rfl
      cases wn with
      | true =>
        obtain rfl := wnn rfl
        simp [k_law12_MboxOrder, mbox_begun, a1, bxV, bxH, bxN, waitV, waitH, waitN, e, wd, e5, sq, w5, w6]
      | false => simp [k_law12_MboxOrder, mbox_begun, a1, bxV, bxH, bxN, waitV, waitH, waitN, e, wd, e5, sq, w5, w6]
    | false =>
      cases wn with
      | true =>
        obtain rfl := wnn rfl
        simp [k_law12_MboxOrder, mbox_begun, a1, bxV, bxH, bxN, waitV, waitH, waitN, e, wd, e5, sq, w5, w6]
      | false => simp [k_law12_MboxOrder, mbox_begun, a1, bxV, bxH, bxN, waitV, waitH, waitN, e, wd, e5, sq, w5, w6]
  · have a1 : (60 : Int) < who.length := by omega
    simp [k_law12_MboxOrder, mbox_begun, a1]
end Go.Cd
