/- Programs as bytes in calls, the program's and the document's. No conditions. -/
import Derived.Test.YtjoocolnbmpkkaaR7QPlP
set_option linter.unusedVariables false
set_option linter.unusedSimpArgs false
namespace Go.Cd
open Go Go.Fw
def prInst (i : Inst) : List Int := if mayF i = true then instB i else []
def prTail : List Inst → List Int
  | [] => []
  | i :: l => prInst i ++ prTail l
/-- A program, in a call. -/
def prB (l : List Inst) : List Int := IntKind.u8.wrap (l.length : Int) :: prTail l
theorem prInst_len (i : Inst) : (prInst i).length ≤ 7 := by
  unfold prInst
  split
  · simp [instB_len]
  · simp
theorem prTail_len : ∀ l : List Inst, (prTail l).length ≤ 7 * l.length
  | [] => Nat.le_refl _
  | i :: l => by
    have := prTail_len l
    have := prInst_len i
    simp [prTail]; omega
theorem prTail_drop {L : List Inst} {i : Nat} {x : Inst} (hx : L[i]? = some x) : prTail (L.drop i) = prInst x ++ prTail (L.drop (i + 1)) := by
  have hi : i < L.length := (List.getElem?_eq_some_iff.1 hx).1
  rw [List.drop_eq_getElem_cons hi, prTail]
  rw [List.getElem?_eq_getElem hi] at hx
  injection hx with hx
  rw [hx]
theorem put_one (i : Inst) : run kp (.data f_code_Put [.sl false [i.d]]) = some (.ds [if mayF i = true then .sl false ((1 :: instB i).map u8d) else .sl true []]) := by
  have h := code_Put [i] false
  rw [List.map_singleton] at h
  rw [h]
  unfold putD putB
  cases hm : mayF i with
  | true => simp [hm, bytesB]
  | false => simp [hm]
def ppSt (L : List Inst) (nl : Bool) (acc : List Int) (i : Nat) (ex : List (Nat × V)) : St :=
  { env := [(3, .sl false 0 0 acc.length), (11, .asl nl (L.map Inst.d)), (12, .int .i64 L.length), (13, .int .i64 (i : Int))] ++ ex, hp := [(0, .row true (acc.map u8d))], tl := fun _ => none, base := 0, next := 1 }
set_option maxRecDepth 10000 in
set_option maxHeartbeats 8000000 in
theorem pp_round (L : List Inst) (nl : Bool) (acc : List Int) (h0 : acc.length ≤ 100000) (i : Nat) (hi : i < L.length) (hL : L.length ≤ 1000) (x : Inst) (hx : L[i]? = some x) :
    run kp (.loop [3, 11, 12, 13] k_play_program_L0 (ppSt L nl acc i [])) = run kp (.loop [3, 11, 12, 13] k_play_program_L0 (ppSt L nl (acc ++ prInst x) (i + 1) [])) := by
  have w : IntKind.i64.wrap ((i : Int) + 1) = ((i + 1 : Nat) : Int) := by rw [wrap_i64 (by omega) (by omega)]; omega
  have p : (i : Int) < (L.length : Int) := by omega
  have hx2 : ∀ hh : i < L.length, L[i] = x := fun hh => by rw [List.getElem?_eq_getElem hh] at hx; injection hx
  have po := put_one x
  have q1 : acc.length + 7 ≤ 1073741824 := by omega
  have tk := take_u8 (instB x)
  rw [instB_len] at tk
  have ln := instB_len x
  rw [run_round]
  generalize i + 1 = i' at *
  unfold prInst
  cases hm : mayF x with
  | true =>
    rw [hm] at po
    simp only [if_true] at po ⊢
    generalize instB x = B at *
    obtain ⟨op, a, b, n⟩ := x
    simp only [Inst.d] at po
    simp [Inst.d, c_play_program_L0, k_play_program_L0b, ppSt, hi, p, hx, hx2, po, adopt_I, w, q1, tk, ln, u8d]
  | false =>
    rw [hm] at po
    obtain ⟨op, a, b, n⟩ := x
    simp only [Inst.d] at po
    simp [Inst.d, c_play_program_L0, k_play_program_L0b, ppSt, hi, p, hx, hx2, po, adopt_I, w]
theorem pp_loop (L : List Inst) (nl : Bool) (hL : L.length ≤ 1000) : ∀ (k i : Nat) (acc : List Int), i + k = L.length → acc.length + 7 * k ≤ 100000 →
    run kp (.loop [3, 11, 12, 13] k_play_program_L0 (ppSt L nl acc i [])) = some (.out (.ext 0) (ppSt L nl (acc ++ prTail (L.drop i)) L.length [(14, .bool false)]))
  | 0, i, acc, h, hl => by
    obtain rfl : i = L.length := by omega
    rw [run_round]
    simp [c_play_program_L0, k_play_program_L0b, ppSt, prTail]
  | k + 1, i, acc, h, hl => by
    have hi : i < L.length := by omega
    obtain ⟨x, hx⟩ : ∃ x, L[i]? = some x := ⟨_, List.getElem?_eq_getElem hi⟩
    have := prInst_len x
    rw [pp_round L nl acc (by omega) i hi hL x hx, prTail_drop hx, ← List.append_assoc]
    exact pp_loop L nl hL k (i + 1) _ (by omega) (by simp; omega)
set_option maxRecDepth 10000 in
set_option maxHeartbeats 4000000 in
theorem play_program (L : List Inst) (nl : Bool) (hL : L.length ≤ 1000) : run kp (.data f_play_program [.sl nl (L.map Inst.d)]) = some (.ds [.sl false ((prB L).map u8d)]) := by
  have lp := pp_loop L nl hL L.length 0 [IntKind.u8.wrap (L.length : Int)] (by omega) (by simp; omega)
  rw [run_data, run_call, kp_play_program]
  simp only [ppSt, List.append_nil, List.drop_zero, List.length_cons, List.length_nil, List.map_cons, List.map_nil, u8d, Nat.zero_add, Int.cast_ofNat_Int] at lp
  have tk := take_u8 (prTail L)
  unfold prB
  generalize prTail L = B at *
  simp [k_play_program, lp, u8d, tk]
/-! ### The document's: inline, on a row of one's own -/
def rcodeSt (h n : Nat) (L : List Inst) (C : V) (acc : List Int) (i : Nat) (ex : List (Nat × V)) (tl : Nat → Option Blk) (b : Nat) : St :=
  { env := [(0, .sl false b 0 acc.length), (1, C), (5, .int .i64 (i : Int))] ++ ex, hp := [(h, .dead), (b, .row true (acc.map u8d))], tl := tl, base := b, next := b + 1 }
set_option maxRecDepth 10000 in
set_option maxHeartbeats 8000000 in
theorem rcode_round (h n : Nat) (L : List Inst) (nl : Bool) (acc : List Int) (h0 : acc.length ≤ 100000) (i : Nat) (hi : i < L.length) (hL : L.length ≤ 1000) (x : Inst) (hx : L[i]? = some x) (tl : Nat → Option Blk) (b : Nat) (hb : h < b) :
    run kp (.loop [0, 1, 5] k_ref27_code_L0 (rcodeSt h n L (.asl nl (L.map Inst.d)) acc i [] tl b)) = run kp (.loop [0, 1, 5] k_ref27_code_L0 (rcodeSt h n L (.asl nl (L.map Inst.d)) (acc ++ prInst x) (i + 1) [] tl b)) := by
  have F := natF8 h b hb
  have w : IntKind.i64.wrap ((i : Int) + 1) = ((i + 1 : Nat) : Int) := by rw [wrap_i64 (by omega) (by omega)]; omega
  have p : (i : Int) < (L.length : Int) := by omega
  have hx2 : ∀ hh : i < L.length, L[i] = x := fun hh => by rw [List.getElem?_eq_getElem hh] at hx; injection hx
  have my := ref1_MayInst x
  have pi := ref1_PutInst x
  have q1 : acc.length + 7 ≤ 1073741824 := by omega
  have tk := take_u8 (instB x)
  rw [instB_len] at tk
  have ln := instB_len x
  rw [run_round]
  generalize i + 1 = i' at *
  unfold prInst
  generalize instB x = B at *
  obtain ⟨op, a, bb, n⟩ := x
  simp only [Inst.d] at my pi
  cases hm : mayF ⟨op, a, bb, n⟩ with
  | true =>
    simp [c_ref27_code_L0, k_ref27_code_L0b, rcodeSt, Inst.d, hi, p, hx, hx2, my, pi, hm, w, q1, tk, ln, u8d, hb, F, gOf_below hb, gOf, hlook]
  | false =>
    simp [c_ref27_code_L0, k_ref27_code_L0b, rcodeSt, Inst.d, hi, p, hx, hx2, my, pi, hm, w, q1, tk, ln, u8d, hb, F, gOf_below hb, gOf, hlook]
set_option maxRecDepth 10000 in
set_option maxHeartbeats 4000000 in
theorem rcode_stop (h n : Nat) (L : List Inst) (nl : Bool) (acc : List Int) (tl : Nat → Option Blk) (b : Nat) (hb : h < b) :
    run kp (.loop [0, 1, 5] k_ref27_code_L0 (rcodeSt h n L (.asl nl (L.map Inst.d)) acc L.length [] tl b)) = some (.out (.ext 0) (rcodeSt h n L (.asl nl (L.map Inst.d)) acc L.length [(15, .bool false)] tl b)) := by
  have F := natF8 h b hb
  rw [run_round]
  simp [c_ref27_code_L0, k_ref27_code_L0b, rcodeSt, hb, F, gOf_below hb, gOf, hlook]
theorem rcode_loop (h n : Nat) (L : List Inst) (nl : Bool) (hL : L.length ≤ 1000) (tl : Nat → Option Blk) (b : Nat) (hb : h < b) : ∀ (k i : Nat) (acc : List Int), i + k = L.length → acc.length + 7 * k ≤ 100000 →
    run kp (.loop [0, 1, 5] k_ref27_code_L0 (rcodeSt h n L (.asl nl (L.map Inst.d)) acc i [] tl b)) = some (.out (.ext 0) (rcodeSt h n L (.asl nl (L.map Inst.d)) (acc ++ prTail (L.drop i)) L.length [(15, .bool false)] tl b))
  | 0, i, acc, hk, hl => by
    obtain rfl : i = L.length := by omega
    rw [rcode_stop h n L nl acc tl b hb]
    simp [prTail]
  | k + 1, i, acc, hk, hl => by
    have hi : i < L.length := by omega
    obtain ⟨x, hx⟩ : ∃ x, L[i]? = some x := ⟨_, List.getElem?_eq_getElem hi⟩
    have := prInst_len x
    rw [rcode_round h n L nl acc (by omega) i hi hL x hx tl b hb, prTail_drop hx, ← List.append_assoc]
    exact rcode_loop h n L nl hL tl b hb k (i + 1) _ (by omega) (by simp; omega)
set_option maxRecDepth 10000 in
set_option maxHeartbeats 4000000 in
theorem rcode_call (tl : Nat → Option Blk) (b h n : Nat) (hb : h < b) (L : List Inst) (nl : Bool) (hL : L.length ≤ 1000) (l : List Int) (ht : tl h = some (.row true (l.map u8d))) (hn : n = l.length) (hl : l.length ≤ 90000) :
    run kp (.call f_ref27_code [.sl false h 0 n, .asl nl (L.map Inst.d)] tl b) = some (.val (.sl false b 0 (l.length + (prB L).length)) [(h, .dead), (b, .row true ((l ++ prB L).map u8d))] (b + 1)) := by
  subst hn
  have F := natF8 h b hb
  have lp := rcode_loop h l.length L nl hL tl b hb L.length 0 (l ++ [IntKind.u8.wrap (L.length : Int)]) (by omega) (by simp; omega)
  have tk : List.take l.length (List.map u8d l) = List.map u8d l := List.take_of_length_le (by simp)
  have q : l.length + 1 ≤ 1073741824 := by omega
  rw [run_call, kp_ref27_code]
  simp only [rcodeSt, List.append_nil, List.cons_append, List.nil_append, List.drop_zero, Int.cast_ofNat_Int] at lp
  unfold prB
  generalize prTail L = B at *
  simp [u8d] at lp
  simp [k_ref27_code, canK_canH, lp, tk, ht, hb, F, gOf_below hb, gOf, hlook, u8d, q]
end Go.Cd
