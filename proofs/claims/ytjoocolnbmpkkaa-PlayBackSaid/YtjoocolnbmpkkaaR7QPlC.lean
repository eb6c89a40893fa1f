/- Programs read, the program's. No conditions. -/
import Derived.Test.YtjoocolnbmpkkaaR7QPlB
import Derived.Test.YtjoocolnbmpkkaaR7QPk4
set_option linter.unusedVariables false
set_option linter.unusedSimpArgs false
namespace Go.Cd
open Go Go.Fw
theorem take_one {c : List Int} (hl : c.length = 7) (hc : bytesOk c) : takeR (1 :: c) = if mayF (decI c) = true then [rowI [decI c], .bool true] else [.sl true [], .bool false] := by
  have hb : bytesOk (1 :: c) := fun x hx => by
    rcases List.mem_cons.1 hx with rfl | hx
    · omega
    · exact hc x hx
  have e : decs (1 :: c) 1 = [decI c] := by
    have : chunk (1 :: c) 0 = c := by
      unfold chunk
      rw [List.drop_succ_cons]
      exact List.take_of_length_le (by simp [hl])
    simp [decs, this]
  have iff := takeO_iff hb
  unfold takeR
  by_cases h : mayF (decI c) = true
  · have : takeO (1 :: c) = some [decI c] := (iff _).2 ⟨1, by simp [hl], rfl, by omega, by rw [e]; simp [h], e.symm⟩
    rw [this, if_pos h]
  · rw [if_neg h]
    cases ho : takeO (1 :: c) with
    | none => rfl
    | some l =>
      obtain ⟨k, h1, h2, h3, h4, _⟩ := (iff l).1 ho
      have : k = 1 := by simp [hl] at h1; omega
      subst this
      rw [e] at h4
      simp at h4
      exact absurd h4 h
def gone : Rd := ⟨true, [], true⟩
def zeroI : Inst := ⟨0, 0, 0, 0⟩
def pgSt (h : Nat) (r : Rd) (acc : List Inst) (i : Nat) (ex : List (Nat × V)) (tl : Nat → Option Blk) (b : Nat) : St :=
  { env := [(0, .ptr h []), (2, aV b acc), (3, .int .i64 (i : Int))] ++ ex, hp := (h, r.box) :: aH b acc, tl := tl, base := b, next := b + aN acc }
theorem cat_two (c : List Int) (nl : Bool) (hl : c.length = 7) : run kp (.data f_slices_Concat_byte_byte [.sl false [.sl false [.int .u8 1], .sl nl (c.map u8d)]]) = some (.ds [.sl false ((1 :: c).map u8d)]) := by
  have := slices_Concat [(false, [1]), (nl, c)] false (by simp) (by simp [cat]; omega) (by simp [cat])
  simpa [rwD, cat, u8d] using this
set_option maxRecDepth 10000 in
set_option maxHeartbeats 16000000 in
theorem pg_ok (r : Rd) (hr : bytesOk r.b) (hrl : r.b.length ≤ 100000) (h : Nat) (acc : List Inst) (hl : acc.length ≤ 1000) (i : Nat) (hi : i ≤ 1000) (tl : Nat → Option Blk) (b : Nat) (hb : h < b) (ho : r.over 7 = false) (hm : mayF (decI (r.b.take 7)) = true) :
    run kp (.loop [0, 2, 3] k_play_reader_program_L0 (pgSt h r acc (i + 1) [] tl b)) = run kp (.loop [0, 2, 3] k_play_reader_program_L0 (pgSt h ⟨r.nl, r.b.drop 7, false⟩ (acc ++ [decI (r.b.take 7)]) i [] tl b)) := by
  have hbad : r.bad = false ∧ 7 ≤ r.b.length := by simpa [Rd.over] using ho
  have c7 : (r.b.take 7).length = 7 := by simp; omega
  have co : bytesOk (r.b.take 7) := fun x hx => hr x (List.mem_of_mem_take hx)
  have F := natF8 h b hb
  have w' : IntKind.i64.wrap (i : Int) = (i : Int) := wrap_i64 (by omega) (by omega)
  have p' : (0 : Int) < (i : Int) + 1 := by omega
  have cc := cat_two (r.b.take 7) r.nl c7
  have ct := code_Take (1 :: r.b.take 7) (fun x hx => by
    rcases List.mem_cons.1 hx with rfl | hx
    · omega
    · exact co x hx) false (by simp; omega)
  rw [take_one c7 co, if_pos hm] at ct
  have tf : ∀ t bb, h < bb → t h = some r.box → run kp (.call f_play_reader_take [.ptr h [], .int .i64 7] t bb) = some (.val (.d (.sl r.nl ((r.b.take 7).map u8d))) [(h, (Rd.mk r.nl (r.b.drop 7) false).box)] bb) := fun t bb h1 h2 => take_fits r 7 (by omega) ho h t bb h1 h2 hrl
  obtain ⟨nl, l, bad⟩ := r
  obtain ⟨rfl, hb7⟩ := hbad
  simp only [Rd.box] at tf
  have hl2 : acc.length ≤ 1073741823 := by omega
  rw [run_round]
  have e1 : ∀ x : Int, u8d x = .int .u8 x := fun _ => rfl
  simp only at hb7
  have mn : min 7 l.length = 7 := by omega
  generalize hC : l.take 7 = C at *
  generalize hx : decI C = X at *
  simp only [List.map_cons, e1] at cc ct
  have rI : rowI [X] = .sl false [X.d] := rfl
  rw [rI] at ct
  have ce : List.take 7 (List.map u8d C) = List.map u8d C := List.take_of_length_le (by simp [c7])
  cases acc with
  | nil =>
    simp [c_play_reader_program_L0, k_play_reader_program_L0b, pgSt, aV, aH, aN, Rd.box, hb, F, gOf_below hb, gOf, hlook, tf, cc, ct, w', p', c7, mn, ce]
  | cons y acc =>
    simp only [List.length_cons] at hl hl2
    have q1 : acc.length ≤ 1073741822 := by omega
    simp [c_play_reader_program_L0, k_play_reader_program_L0b, pgSt, aV, aH, aN, Rd.box, hb, F, gOf_below hb, gOf, hlook, tf, cc, ct, w', p', c7, mn, ce, q1, take_map_lenP]
def pgNo (h : Nat) (acc : List Inst) (i : Nat) (nl : Bool) (C : List Int) (tl : Nat → Option Blk) (b : Nat) : St :=
  { env := [(2, aV b acc), (3, .int .i64 ((i : Int) + 1)), (16, .bool true), (4, .d (.sl true [])), (29, .bool true)], hp := (h, gone.box) :: (aH b acc ++ [(b + aN acc, .row false [.int .u8 1]), (b + aN acc + 1, .row true [.sl false [.int .u8 1], .sl nl (C.map u8d)]), (b + aN acc + 1 + 1, .row true (.int .u8 1 :: C.map u8d))]), tl := tl, base := b, next := b + aN acc + 1 + 1 + 1 }
set_option maxRecDepth 10000 in
set_option maxHeartbeats 16000000 in
theorem pg_no (r : Rd) (hr : bytesOk r.b) (hrl : r.b.length ≤ 100000) (h : Nat) (acc : List Inst) (hl : acc.length ≤ 1000) (i : Nat) (hi : i ≤ 1000) (tl : Nat → Option Blk) (b : Nat) (hb : h < b) (ho : r.over 7 = false) (hm : mayF (decI (r.b.take 7)) = false) :
    run kp (.loop [0, 2, 3] k_play_reader_program_L0 (pgSt h r acc (i + 1) [] tl b)) = some (.out (.ext 0) (pgNo h acc i r.nl (r.b.take 7) tl b)) := by
  have hbad : r.bad = false ∧ 7 ≤ r.b.length := by simpa [Rd.over] using ho
  have c7 : (r.b.take 7).length = 7 := by simp; omega
  have co : bytesOk (r.b.take 7) := fun x hx => hr x (List.mem_of_mem_take hx)
  have F := natF8 h b hb
  have p' : (0 : Int) < (i : Int) + 1 := by omega
  have cc := cat_two (r.b.take 7) r.nl c7
  have ct := code_Take (1 :: r.b.take 7) (fun x hx => by
    rcases List.mem_cons.1 hx with rfl | hx
    · omega
    · exact co x hx) false (by simp; omega)
  rw [take_one c7 co, if_neg (by simp [hm])] at ct
  have tf : ∀ t bb, h < bb → t h = some r.box → run kp (.call f_play_reader_take [.ptr h [], .int .i64 7] t bb) = some (.val (.d (.sl r.nl ((r.b.take 7).map u8d))) [(h, (Rd.mk r.nl (r.b.drop 7) false).box)] bb) := fun t bb h1 h2 => take_fits r 7 (by omega) ho h t bb h1 h2 hrl
  obtain ⟨nl, l, bad⟩ := r
  obtain ⟨rfl, hb7⟩ := hbad
  simp only [Rd.box] at tf
  rw [run_round]
  have e1 : ∀ x : Int, u8d x = .int .u8 x := fun _ => rfl
  simp only at hb7
  have mn : min 7 l.length = 7 := by omega
  generalize hC : l.take 7 = C at *
  simp only [List.map_cons, e1] at cc ct
  have ce : List.take 7 (List.map u8d C) = List.map u8d C := List.take_of_length_le (by simp [c7])
  cases acc with
  | nil => simp [c_play_reader_program_L0, k_play_reader_program_L0b, pgSt, pgNo, aV, aH, aN, Rd.box, gone, hb, F, gOf_below hb, gOf, hlook, tf, cc, ct, p', c7, mn, ce]
  | cons y acc => simp [c_play_reader_program_L0, k_play_reader_program_L0b, pgSt, pgNo, aV, aH, aN, Rd.box, gone, hb, F, gOf_below hb, gOf, hlook, tf, cc, ct, p', c7, mn, ce]
set_option maxRecDepth 10000 in
set_option maxHeartbeats 16000000 in
theorem pg_over (r : Rd) (hrl : r.b.length ≤ 100000) (h : Nat) (acc : List Inst) (hl : acc.length ≤ 1000) (i : Nat) (hi : i ≤ 1000) (tl : Nat → Option Blk) (b : Nat) (hb : h < b) (hbd : r.bad = false) (ho : r.over 7 = true) :
    run kp (.loop [0, 2, 3] k_play_reader_program_L0 (pgSt h r acc (i + 1) [] tl b)) = run kp (.loop [0, 2, 3] k_play_reader_program_L0 (pgSt h gone (acc ++ [zeroI]) i [] tl b)) := by
  have F := natF8 h b hb
  have w' : IntKind.i64.wrap (i : Int) = (i : Int) := wrap_i64 (by omega) (by omega)
  have p' : (0 : Int) < (i : Int) + 1 := by omega
  have cc := cat_two [0, 0, 0, 0, 0, 0, 0] false rfl
  have ct := code_Take (1 :: [0, 0, 0, 0, 0, 0, 0]) (fun x hx => by simp at hx; omega) false (by simp)
  rw [take_one (c := [0, 0, 0, 0, 0, 0, 0]) rfl (fun x hx => by simp at hx; omega), if_pos (by decide)] at ct
  have tf : ∀ t bb, h < bb → t h = some r.box → run kp (.call f_play_reader_take [.ptr h [], .int .i64 7] t bb) = _ := fun t bb h1 h2 => take_over r 7 (by omega) ho h t bb h1 h2 hrl
  obtain ⟨nl, l, bad⟩ := r
  simp only at hbd
  subst hbd
  simp only [Rd.box] at tf
  have hl2 : acc.length ≤ 1073741823 := by omega
  rw [run_round]
  have e1 : ∀ x : Int, u8d x = .int .u8 x := fun _ => rfl
  have dz : decI [0, 0, 0, 0, 0, 0, 0] = zeroI := rfl
  have rI : rowI [decI [0, 0, 0, 0, 0, 0, 0]] = .sl false [zeroI.d] := rfl
  rw [rI] at ct
  simp only [List.map_cons, List.map_nil, e1] at cc ct
  have rep : List.replicate 7 (D.int .u8 0) = [.int .u8 0, .int .u8 0, .int .u8 0, .int .u8 0, .int .u8 0, .int .u8 0, .int .u8 0] := rfl
  cases acc with
  | nil => simp [c_play_reader_program_L0, k_play_reader_program_L0b, pgSt, aV, aH, aN, Rd.box, gone, hb, F, gOf_below hb, gOf, hlook, tf, rep, cc, ct, w', p']
  | cons y acc =>
    simp only [List.length_cons] at hl hl2
    have q1 : acc.length ≤ 1073741822 := by omega
    simp [c_play_reader_program_L0, k_play_reader_program_L0b, pgSt, aV, aH, aN, Rd.box, gone, hb, F, gOf_below hb, gOf, hlook, tf, rep, cc, ct, w', p', q1, take_map_lenP]
set_option maxRecDepth 10000 in
theorem pg_stop (r : Rd) (h : Nat) (acc : List Inst) (i : Nat) (tl : Nat → Option Blk) (b : Nat) (hb : h < b) (hs : i = 0 ∨ r.bad = true) :
    run kp (.loop [0, 2, 3] k_play_reader_program_L0 (pgSt h r acc i [] tl b)) = some (.out (.ext 0) (pgSt h r acc i [(16, .bool false)] tl b)) := by
  have F := natF8 h b hb
  obtain ⟨nl, l, bad⟩ := r
  rw [run_round]
  rcases hs with rfl | hs
  · cases acc with
    | nil => simp [c_play_reader_program_L0, k_play_reader_program_L0b, pgSt, aV, aH, aN, Rd.box, hb, F, gOf_below hb, gOf, hlook]
    | cons y acc => simp [c_play_reader_program_L0, k_play_reader_program_L0b, pgSt, aV, aH, aN, Rd.box, hb, F, gOf_below hb, gOf, hlook]
  · simp only at hs
    subst hs
    by_cases hi : (0 : Int) < (i : Int)
    · cases acc with
      | nil => simp [c_play_reader_program_L0, k_play_reader_program_L0b, pgSt, aV, aH, aN, Rd.box, hb, F, gOf_below hb, gOf, hlook, hi]
      | cons y acc => simp [c_play_reader_program_L0, k_play_reader_program_L0b, pgSt, aV, aH, aN, Rd.box, hb, F, gOf_below hb, gOf, hlook, hi]
    · cases acc with
      | nil => simp [c_play_reader_program_L0, k_play_reader_program_L0b, pgSt, aV, aH, aN, Rd.box, hb, F, gOf_below hb, gOf, hlook, hi]
      | cons y acc => simp [c_play_reader_program_L0, k_play_reader_program_L0b, pgSt, aV, aH, aN, Rd.box, hb, F, gOf_below hb, gOf, hlook, hi]
end Go.Cd
