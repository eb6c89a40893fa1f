/- Choices out of numbers: programs that may be. No conditions. -/
import Derived.Test.YtgjeondicdipaaaR9QPk4
set_option linter.unusedVariables false
set_option linter.unusedSimpArgs false
namespace Go.Cd
open Go Go.Fw
def codeI (L : List D) (n lk : Int) : List Inst :=
  if valN L n 5 = 0 then ⟨8, 0, ((someL L (nextN L n) 2 lk).length : Int), IntKind.i64.wrap (1 + valN L (someNx L (nextN L n) 2 lk) 3)⟩ :: someL L (nextN L n) 2 lk
  else if valN L n 5 = 1 then ⟨7, valN L (someNx L (nextN L n) 2 lk) 3, 0, ((someL L (nextN L n) 2 lk).length : Int)⟩ :: someL L (nextN L n) 2 lk
  else if valN L n 5 = 2 then [⟨11, 0, 0, 0⟩]
  else someL L (nextN L n) 2 lk
def codeN (L : List D) (n lk : Int) : Int :=
  if valN L n 5 = 0 then nextN L (someNx L (nextN L n) 2 lk)
  else if valN L n 5 = 1 then nextN L (someNx L (nextN L n) 2 lk)
  else if valN L n 5 = 2 then nextN L n
  else someNx L (nextN L n) 2 lk
def codeAdd (acc x : List Inst) : List Inst := if acc.length + x.length < 23 then acc ++ x else acc
theorem codeN_ok {L : List D} {n : Int} (lk : Int) (h : NumOk L n) : NumOk L (codeN L n lk) := by
  have h1 := someNx_ok 2 lk (nextN_ok h)
  unfold codeN
  repeat' split
  · exact nextN_ok h1
  · exact nextN_ok h1
  · exact nextN_ok h
  · exact h1
theorem keep_code1 (L : List D) (n lk : Int) : KeepN L n (codeN L n lk) := fun h => by
  unfold codeN
  have h1 := keep_someNx L n 2 lk h
  simp [nextN_off h, h1]
def codeSt (nl : Bool) (L : List D) (n : Int) (h : Nat) (lk : Int) (acc : List Inst) (i : Nat) (ex : List (Nat × V)) (tl : Nat → Option Blk) (b : Nat) : St :=
  { env := [(0, .ptr h []), (1, .int .i64 lk), (5, aV b acc), (6, .int .i64 (i : Int))] ++ ex, hp := (h, .box (.d (.agg [.sl nl L, .int .i64 n]))) :: aH b acc, tl := tl, base := b, next := b + aN acc }
set_option maxRecDepth 10000 in
set_option maxHeartbeats 32000000 in
theorem code_round (nl : Bool) (L : List D) (n : Int) (ho : NumOk L n) (h : Nat) (lk : Int) (hlk : lk ≤ 1000) (acc : List Inst) (i : Nat) (tl : Nat → Option Blk) (b : Nat) (hb : h < b) (hl : acc.length ≤ 100) (hi : i ≤ 1000) :
    run kp (.loop [0, 1, 5, 6] k_play_Picks_Code_L0 (codeSt nl L n h lk acc (i + 1) [] tl b)) = run kp (.loop [0, 1, 5, 6] k_play_Picks_Code_L0 (codeSt nl L (codeN L n lk) h lk (codeAdd acc (codeI L n lk)) i [] tl b)) := by
  have o1 := nextN_ok ho
  have o2 := someNx_ok 2 lk o1
  have c0 := keep_next L n
  have c1 := keep_someNx L (nextN L n) 2 lk
  have c2 := keep_next L (someNx L (nextN L n) 2 lk)
  have F := natF8 h b hb
  have w' : IntKind.i64.wrap (i : Int) = (i : Int) := wrap_i64 (by omega) (by omega)
  have p' : (0 : Int) < (i : Int) + 1 := by omega
  have sl := someL_len (lk := lk) o1 (m := 2) (by omega)
  rw [run_round]
  unfold codeI codeN
  obtain ⟨S, hS⟩ : ∃ S, someL L (nextN L n) 2 lk = S := ⟨_, rfl⟩
  rw [hS] at sl
  have T1 : List.take S.length (List.map Inst.d S) = List.map Inst.d S := List.take_of_length_le (by simp)
  cases S with
  | nil => simp at sl
  | cons y S =>
  simp only [List.length_cons] at sl T1
  have S0 : S.length ≤ 5 := by omega
  have W1 : IntKind.i64.wrap ((S.length : Int) + 1) = (S.length : Int) + 1 := wrap_i64 (by omega) (by omega)
  have W2 : IntKind.i64.wrap ((S.length : Int) + 1 + 1) = (S.length : Int) + 1 + 1 := wrap_i64 (by omega) (by omega)
  have f0 : (S.length : Int) + 1 < 23 := by omega
  have f1 : (S.length : Int) + 1 + 1 < 23 := by omega
  have f2 : S.length + 1 < 23 := by omega
  have f3 : S.length + 1 + 1 < 23 := by omega
  have W0 : IntKind.i64.wrap (S.length : Int) = (S.length : Int) := wrap_i64 (by omega) (by omega)
  have f4 : S.length ≤ 1073741822 := by omega
  have f5 : S.length + 1 ≤ 1073741822 := by omega
  have f6 : S.length + 1 + 1 ≤ 1073741823 := by omega
  have f7 : S.length + 1 ≤ 1073741823 := by omega
  have f8 : S.length ≤ 1073741821 := by omega
  have z1 : IntKind.i64.wrap 1 = 1 := by decide
  have f9 : S.length ≤ 1073741823 := by omega
  have E1 : 1 + (S.length + 1) = S.length + 1 + 1 := by omega
  have E2 : (1 : Int) + ((S.length : Int) + 1) = (S.length : Int) + 1 + 1 := by omega
  have T2 : List.take S.length (List.map Inst.d S) = List.map Inst.d S := List.take_of_length_le (by simp)
  have T3 : List.take (S.length + 1) (List.map Inst.d S) = List.map Inst.d S := List.take_of_length_le (by simp)

  cases acc with
  | nil =>
    by_cases h0 : valN L n 5 = 0
    · simp [c_play_Picks_Code_L0, k_play_Picks_Code_L0b, codeSt, codeAdd, aV, aH, aN, num_call, some_call, wr_in, hputs_append, hb, F, gOf_below hb, gOf, hlook, hput, hputs, ho, o1, o2, c0, c1, c2, w', p', Inst.v, hlk, hS, T1, T2, T3, W0, W1, W2, f0, f1, f2, f3, f4, f5, f6, f7, f8, E1, E2, z1, f9, h0]
      try simp [Inst.d]
    by_cases h1 : valN L n 5 = 1
    · simp [c_play_Picks_Code_L0, k_play_Picks_Code_L0b, codeSt, codeAdd, aV, aH, aN, num_call, some_call, wr_in, hputs_append, hb, F, gOf_below hb, gOf, hlook, hput, hputs, ho, o1, o2, c0, c1, c2, w', p', Inst.v, hlk, hS, T1, T2, T3, W0, W1, W2, f0, f1, f2, f3, f4, f5, f6, f7, f8, E1, E2, z1, f9, h0, h1]
      try simp [Inst.d]
    by_cases h2 : valN L n 5 = 2
    · simp [c_play_Picks_Code_L0, k_play_Picks_Code_L0b, codeSt, codeAdd, aV, aH, aN, num_call, some_call, wr_in, hputs_append, hb, F, gOf_below hb, gOf, hlook, hput, hputs, ho, o1, o2, c0, c1, c2, w', p', Inst.v, hlk, hS, T1, T2, T3, W0, W1, W2, f0, f1, f2, f3, f4, f5, f6, f7, f8, E1, E2, z1, f9, h0, h1, h2]
      try simp [Inst.d]
    simp [c_play_Picks_Code_L0, k_play_Picks_Code_L0b, codeSt, codeAdd, aV, aH, aN, num_call, some_call, wr_in, hputs_append, hb, F, gOf_below hb, gOf, hlook, hput, hputs, ho, o1, o2, c0, c1, c2, w', p', Inst.v, hlk, hS, T1, T2, T3, W0, W1, W2, f0, f1, f2, f3, f4, f5, f6, f7, f8, E1, E2, z1, f9, h0, h1, h2]
    try simp [Inst.d]
  | cons x acc =>
    simp only [List.length_cons] at hl
    have T4 : List.take acc.length (List.map Inst.d acc) = List.map Inst.d acc := List.take_of_length_le (by simp)
    have T5 : List.take (acc.length + 1) (List.map Inst.d acc) = List.map Inst.d acc := List.take_of_length_le (by simp)
    have g1 : acc.length ≤ 1073741822 := by omega
    have g2 : acc.length + 1 ≤ 1073741823 := by omega
    by_cases h0 : valN L n 5 = 0
    · have W3 : IntKind.i64.wrap ((acc.length : Int) + 1 + ((S.length : Int) + 1 + 1)) = (acc.length : Int) + 1 + ((S.length : Int) + 1 + 1) := wrap_i64 (by omega) (by omega)
      have W4 : IntKind.i64.wrap ((acc.length : Int) + ((S.length : Int) + 1 + 1)) = (acc.length : Int) + ((S.length : Int) + 1 + 1) := wrap_i64 (by omega) (by omega)
      by_cases hf : acc.length + 1 + (S.length + 1 + 1) < 23
      · have hfi : (acc.length : Int) + 1 + ((S.length : Int) + 1 + 1) < 23 := by omega
        have g3 : acc.length + 1 + (S.length + 1 + 1) ≤ 1073741823 := by omega
        have g5 : acc.length + 1 + (S.length + 1 + 1) ≤ 1073741824 := by omega
        have E3 : acc.length + 1 + (S.length + 1 + 1) = acc.length + (S.length + 1 + 1) + 1 := by omega
        have g4 : acc.length + (S.length + 1 + 1) ≤ 1073741822 := by omega
        simp [c_play_Picks_Code_L0, k_play_Picks_Code_L0b, codeSt, codeAdd, aV, aH, aN, num_call, some_call, wr_in, hputs_append, hb, F, gOf_below hb, gOf, hlook, hput, hputs, ho, o1, o2, c0, c1, c2, w', p', Inst.v, hlk, hS, T1, T2, T3, W0, W1, W2, f0, f1, f2, f3, f4, f5, f6, f7, f8, E1, E2, z1, f9, h0, T4, T5, g1, g2, g3, g4, g5, W3, W4, hf, hfi]
        try simp [Inst.d, E3]
      · have hfi : ¬ (acc.length : Int) + 1 + ((S.length : Int) + 1 + 1) < 23 := by omega
        simp [c_play_Picks_Code_L0, k_play_Picks_Code_L0b, codeSt, codeAdd, aV, aH, aN, num_call, some_call, wr_in, hputs_append, hb, F, gOf_below hb, gOf, hlook, hput, hputs, ho, o1, o2, c0, c1, c2, w', p', Inst.v, hlk, hS, T1, T2, T3, W0, W1, W2, f0, f1, f2, f3, f4, f5, f6, f7, f8, E1, E2, z1, f9, h0, T4, T5, g1, g2, W3, W4, hf, hfi]
        try simp [Inst.d]
    by_cases h1 : valN L n 5 = 1
    · have W3 : IntKind.i64.wrap ((acc.length : Int) + 1 + ((S.length : Int) + 1 + 1)) = (acc.length : Int) + 1 + ((S.length : Int) + 1 + 1) := wrap_i64 (by omega) (by omega)
      have W4 : IntKind.i64.wrap ((acc.length : Int) + ((S.length : Int) + 1 + 1)) = (acc.length : Int) + ((S.length : Int) + 1 + 1) := wrap_i64 (by omega) (by omega)
      by_cases hf : acc.length + 1 + (S.length + 1 + 1) < 23
      · have hfi : (acc.length : Int) + 1 + ((S.length : Int) + 1 + 1) < 23 := by omega
        have g3 : acc.length + 1 + (S.length + 1 + 1) ≤ 1073741823 := by omega
        have g5 : acc.length + 1 + (S.length + 1 + 1) ≤ 1073741824 := by omega
        have E3 : acc.length + 1 + (S.length + 1 + 1) = acc.length + (S.length + 1 + 1) + 1 := by omega
        have g4 : acc.length + (S.length + 1 + 1) ≤ 1073741822 := by omega
        simp [c_play_Picks_Code_L0, k_play_Picks_Code_L0b, codeSt, codeAdd, aV, aH, aN, num_call, some_call, wr_in, hputs_append, hb, F, gOf_below hb, gOf, hlook, hput, hputs, ho, o1, o2, c0, c1, c2, w', p', Inst.v, hlk, hS, T1, T2, T3, W0, W1, W2, f0, f1, f2, f3, f4, f5, f6, f7, f8, E1, E2, z1, f9, h0, h1, T4, T5, g1, g2, g3, g4, g5, W3, W4, hf, hfi]
        try simp [Inst.d, E3]
      · have hfi : ¬ (acc.length : Int) + 1 + ((S.length : Int) + 1 + 1) < 23 := by omega
        simp [c_play_Picks_Code_L0, k_play_Picks_Code_L0b, codeSt, codeAdd, aV, aH, aN, num_call, some_call, wr_in, hputs_append, hb, F, gOf_below hb, gOf, hlook, hput, hputs, ho, o1, o2, c0, c1, c2, w', p', Inst.v, hlk, hS, T1, T2, T3, W0, W1, W2, f0, f1, f2, f3, f4, f5, f6, f7, f8, E1, E2, z1, f9, h0, h1, T4, T5, g1, g2, W3, W4, hf, hfi]
        try simp [Inst.d]
    by_cases h2 : valN L n 5 = 2
    · have W3 : IntKind.i64.wrap ((acc.length : Int) + 1 + (1)) = (acc.length : Int) + 1 + (1) := wrap_i64 (by omega) (by omega)
      have W4 : IntKind.i64.wrap ((acc.length : Int) + (1)) = (acc.length : Int) + (1) := wrap_i64 (by omega) (by omega)
      by_cases hf : acc.length + 1 + (1) < 23
      · have hfi : (acc.length : Int) + 1 + (1) < 23 := by omega
        have g3 : acc.length + 1 + (1) ≤ 1073741823 := by omega
        have g5 : acc.length + 1 + (1) ≤ 1073741824 := by omega
        have E3 : acc.length + 1 + (1) = acc.length + (1) + 1 := by omega
        have g4 : acc.length + (1) ≤ 1073741822 := by omega
        simp [c_play_Picks_Code_L0, k_play_Picks_Code_L0b, codeSt, codeAdd, aV, aH, aN, num_call, some_call, wr_in, hputs_append, hb, F, gOf_below hb, gOf, hlook, hput, hputs, ho, o1, o2, c0, c1, c2, w', p', Inst.v, hlk, hS, T1, T2, T3, W0, W1, W2, f0, f1, f2, f3, f4, f5, f6, f7, f8, E1, E2, z1, f9, h0, h1, h2, T4, T5, g1, g2, g3, g4, g5, W3, W4, hf, hfi]
        try simp [Inst.d, E3]
      · have hfi : ¬ (acc.length : Int) + 1 + (1) < 23 := by omega
        simp [c_play_Picks_Code_L0, k_play_Picks_Code_L0b, codeSt, codeAdd, aV, aH, aN, num_call, some_call, wr_in, hputs_append, hb, F, gOf_below hb, gOf, hlook, hput, hputs, ho, o1, o2, c0, c1, c2, w', p', Inst.v, hlk, hS, T1, T2, T3, W0, W1, W2, f0, f1, f2, f3, f4, f5, f6, f7, f8, E1, E2, z1, f9, h0, h1, h2, T4, T5, g1, g2, W3, W4, hf, hfi]
        try simp [Inst.d]
    have W3 : IntKind.i64.wrap ((acc.length : Int) + 1 + ((S.length : Int) + 1)) = (acc.length : Int) + 1 + ((S.length : Int) + 1) := wrap_i64 (by omega) (by omega)
    have W4 : IntKind.i64.wrap ((acc.length : Int) + ((S.length : Int) + 1)) = (acc.length : Int) + ((S.length : Int) + 1) := wrap_i64 (by omega) (by omega)
    by_cases hf : acc.length + 1 + (S.length + 1) < 23
    · have hfi : (acc.length : Int) + 1 + ((S.length : Int) + 1) < 23 := by omega
      have g3 : acc.length + 1 + (S.length + 1) ≤ 1073741823 := by omega
      have g5 : acc.length + 1 + (S.length + 1) ≤ 1073741824 := by omega
      have E3 : acc.length + 1 + (S.length + 1) = acc.length + (S.length + 1) + 1 := by omega
      have g4 : acc.length + (S.length + 1) ≤ 1073741822 := by omega
      simp [c_play_Picks_Code_L0, k_play_Picks_Code_L0b, codeSt, codeAdd, aV, aH, aN, num_call, some_call, wr_in, hputs_append, hb, F, gOf_below hb, gOf, hlook, hput, hputs, ho, o1, o2, c0, c1, c2, w', p', Inst.v, hlk, hS, T1, T2, T3, W0, W1, W2, f0, f1, f2, f3, f4, f5, f6, f7, f8, E1, E2, z1, f9, h0, h1, h2, T4, T5, g1, g2, g3, g4, g5, W3, W4, hf, hfi]
      try simp [Inst.d, E3]
    · have hfi : ¬ (acc.length : Int) + 1 + ((S.length : Int) + 1) < 23 := by omega
      simp [c_play_Picks_Code_L0, k_play_Picks_Code_L0b, codeSt, codeAdd, aV, aH, aN, num_call, some_call, wr_in, hputs_append, hb, F, gOf_below hb, gOf, hlook, hput, hputs, ho, o1, o2, c0, c1, c2, w', p', Inst.v, hlk, hS, T1, T2, T3, W0, W1, W2, f0, f1, f2, f3, f4, f5, f6, f7, f8, E1, E2, z1, f9, h0, h1, h2, T4, T5, g1, g2, W3, W4, hf, hfi]
      try simp [Inst.d]
end Go.Cd
