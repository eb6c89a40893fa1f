/- Texts of this session in one. No conditions. -/
import Derived.Test.YtgjeondicdipaaaR9QPk4
set_option linter.unusedVariables false
set_option linter.unusedSimpArgs false
namespace Go.Cd
open Go Go.Fw
def codeI (L : List D) (n lk : Int) : List Inst :=
  if valN L n 5 = 0 then ⟨8, 0, ((someL L (nextN L n) 2 lk).length : Int), IntKind.i64.wrap (1 + valN L (someNx L (nextN L n) 2 lk) 3)⟩ :: someL L (nextN L n) 2 lk
  else if valN L n 5 = 1 then ⟨7, valN L (someNx L (nextN L n) 2 lk) 3, 0, ((someL L (nextN L n) 2 lk).length : Int)⟩ :: someL L (nextN L n) 2 lk
  else if valN L n 5 = 2 then [⟨11, 0, 0, 0⟩]
  else someL L (nextN L n) 2 lk
def codeN (L : List D) (n lk : Int) : Int :=
  if valN L n 5 = 0 then nextN L (someNx L (nextN L n) 2 lk)
  else if valN L n 5 = 1 then nextN L (someNx L (nextN L n) 2 lk)
  else if valN L n 5 = 2 then nextN L n
  else someNx L (nextN L n) 2 lk
def codeAdd (acc x : List Inst) : List Inst := if acc.length + x.length < 23 then acc ++ x else acc
theorem codeN_ok {L : List D} {n : Int} (lk : Int) (h : NumOk L n) : NumOk L (codeN L n lk) := by
  have h1 := someNx_ok 2 lk (nextN_ok h)
  unfold codeN
  repeat' split
  · exact nextN_ok h1
  · exact nextN_ok h1
  · exact nextN_ok h
  · exact h1
theorem keep_code1 (L : List D) (n lk : Int) : KeepN L n (codeN L n lk) := fun h => by
  unfold codeN
  have h1 := keep_someNx L n 2 lk h
  simp [nextN_off h, h1]
def codeSt (nl : Bool) (L : List D) (n : Int) (h : Nat) (lk : Int) (acc : List Inst) (i : Nat) (ex : List (Nat × V)) (tl : Nat → Option Blk) (b : Nat) : St :=
  { env := [(0, .ptr h []), (1, .int .i64 lk), (5, aV b acc), (6, .int .i64 (i : Int))] ++ ex, hp := (h, .box (.d (.agg [.sl nl L, .int .i64 n]))) :: aH b acc, tl := tl, base := b, next := b + aN acc }
set_option maxRecDepth 10000 in
set_option maxHeartbeats 32000000 in
theorem code_round (nl : Bool) (L : List D) (n : Int) (ho : NumOk L n) (h : Nat) (lk : Int) (hlk : lk ≤ 1000) (acc : List Inst) (i : Nat) (tl : Nat → Option Blk) (b : Nat) (hb : h < b) (hl : acc.length ≤ 100) (hi : i ≤ 1000) :
    run kp (.loop [0, 1, 5, 6] k_play_Picks_Code_L0 (codeSt nl L n h lk acc (i + 1) [] tl b)) = run kp (.loop [0, 1, 5, 6] k_play_Picks_Code_L0 (codeSt nl L (codeN L n lk) h lk (codeAdd acc (codeI L n lk)) i [] tl b)) := by
  have o1 := nextN_ok ho
  have o2 := someNx_ok 2 lk o1
  have c0 := keep_next L n
  have c1 := keep_someNx L (nextN L n) 2 lk
  have c2 := keep_next L (someNx L (nextN L n) 2 lk)
  have F := natF8 h b hb
  have w' : IntKind.i64.wrap (i : Int) = (i : Int) := wrap_i64 (by omega) (by omega)
  have p' : (0 : Int) < (i : Int) + 1 := by omega
  have sl := someL_len (lk := lk) o1 (m := 2) (by omega)
  rw [run_round]
  unfold codeI codeN
  obtain ⟨S, hS⟩ : ∃ S, someL L (nextN L n) 2 lk = S := ⟨_, rfl⟩
  rw [hS] at sl
  have T1 : List.take S.length (List.map Inst.d S) = List.map Inst.d S := List.take_of_length_le (by simp)
  cases S with
  | nil => simp at sl
  | cons y S =>
  simp only [List.length_cons] at sl T1
  have S0 : S.length ≤ 5 := by omega
  have W1 : IntKind.i64.wrap ((S.length : Int) + 1) = (S.length : Int) + 1 := wrap_i64 (by omega) (by omega)
  have W2 : IntKind.i64.wrap ((S.length : Int) + 1 + 1) = (S.length : Int) + 1 + 1 := wrap_i64 (by omega) (by omega)
  have f0 : (S.length : Int) + 1 < 23 := by omega
  have f1 : (S.length : Int) + 1 + 1 < 23 := by omega
  have f2 : S.length + 1 < 23 := by omega
  have f3 : S.length + 1 + 1 < 23 := by omega
  have W0 : IntKind.i64.wrap (S.length : Int) = (S.length : Int) := wrap_i64 (by omega) (by omega)
  have f4 : S.length ≤ 1073741822 := by omega
  have f5 : S.length + 1 ≤ 1073741822 := by omega
  have f6 : S.length + 1 + 1 ≤ 1073741823 := by omega
  have f7 : S.length + 1 ≤ 1073741823 := by omega
  have f8 : S.length ≤ 1073741821 := by omega
  have z1 : IntKind.i64.wrap 1 = 1 := by decide
  have f9 : S.length ≤ 1073741823 := by omega
  have E1 : 1 + (S.length + 1) = S.length + 1 + 1 := by omega
  have E2 : (1 : Int) + ((S.length : Int) + 1) = (S.length : Int) + 1 + 1 := by omega
  have T2 : List.take S.length (List.map Inst.d S) = List.map Inst.d S := List.take_of_length_le (by simp)
  have T3 : List.take (S.length + 1) (List.map Inst.d S) = List.map Inst.d S := List.take_of_length_le (by simp)

  cases acc with
  | nil =>
    by_cases h0 : valN L n 5 = 0
    · simp [c_play_Picks_Code_L0, k_play_Picks_Code_L0b, codeSt, codeAdd, aV, aH, aN, num_call, some_call, wr_in, hputs_append, hb, F, gOf_below hb, gOf, hlook, hput, hputs, ho, o1, o2, c0, c1, c2, w', p', Inst.v, hlk, hS, T1, T2, T3, W0, W1, W2, f0, f1, f2, f3, f4, f5, f6, f7, f8, E1, E2, z1, f9, h0]
      try simp [Inst.d]
    by_cases h1 : valN L n 5 = 1
    · simp [c_play_Picks_Code_L0, k_play_Picks_Code_L0b, codeSt, codeAdd, aV, aH, aN, num_call, some_call, wr_in, hputs_append, hb, F, gOf_below hb, gOf, hlook, hput, hputs, ho, o1, o2, c0, c1, c2, w', p', Inst.v, hlk, hS, T1, T2, T3, W0, W1, W2, f0, f1, f2, f3, f4, f5, f6, f7, f8, E1, E2, z1, f9, h0, h1]
      try simp [Inst.d]
    by_cases h2 : valN L n 5 = 2
    · simp [c_play_Picks_Code_L0, k_play_Picks_Code_L0b, codeSt, codeAdd, aV, aH, aN, num_call, some_call, wr_in, hputs_append, hb, F, gOf_below hb, gOf, hlook, hput, hputs, ho, o1, o2, c0, c1, c2, w', p', Inst.v, hlk, hS, T1, T2, T3, W0, W1, W2, f0, f1, f2, f3, f4, f5, f6, f7, f8, E1, E2, z1, f9, h0, h1, h2]
      try simp [Inst.d]
    simp [c_play_Picks_Code_L0, k_play_Picks_Code_L0b, codeSt, codeAdd, aV, aH, aN, num_call, some_call, wr_in, hputs_append, hb, F, gOf_below hb, gOf, hlook, hput, hputs, ho, o1, o2, c0, c1, c2, w', p', Inst.v, hlk, hS, T1, T2, T3, W0, W1, W2, f0, f1, f2, f3, f4, f5, f6, f7, f8, E1, E2, z1, f9, h0, h1, h2]
    try simp [Inst.d]
  | cons x acc =>
    simp only [List.length_cons] at hl
    have T4 : List.take acc.length (List.map Inst.d acc) = List.map Inst.d acc := List.take_of_length_le (by simp)
    have T5 : List.take (acc.length + 1) (List.map Inst.d acc) = List.map Inst.d acc := List.take_of_length_le (by simp)
    have g1 : acc.length ≤ 1073741822 := by omega
    have g2 : acc.length + 1 ≤ 1073741823 := by omega
    by_cases h0 : valN L n 5 = 0
    · have W3 : IntKind.i64.wrap ((acc.length : Int) + 1 + ((S.length : Int) + 1 + 1)) = (acc.length : Int) + 1 + ((S.length : Int) + 1 + 1) := wrap_i64 (by omega) (by omega)
      have W4 : IntKind.i64.wrap ((acc.length : Int) + ((S.length : Int) + 1 + 1)) = (acc.length : Int) + ((S.length : Int) + 1 + 1) := wrap_i64 (by omega) (by omega)
      by_cases hf : acc.length + 1 + (S.length + 1 + 1) < 23
      · have hfi : (acc.length : Int) + 1 + ((S.length : Int) + 1 + 1) < 23 := by omega
        have g3 : acc.length + 1 + (S.length + 1 + 1) ≤ 1073741823 := by omega
        have g5 : acc.length + 1 + (S.length + 1 + 1) ≤ 1073741824 := by omega
        have E3 : acc.length + 1 + (S.length + 1 + 1) = acc.length + (S.length + 1 + 1) + 1 := by omega
        have g4 : acc.length + (S.length + 1 + 1) ≤ 1073741822 := by omega
        simp [c_play_Picks_Code_L0, k_play_Picks_Code_L0b, codeSt, codeAdd, aV, aH, aN, num_call, some_call, wr_in, hputs_append, hb, F, gOf_below hb, gOf, hlook, hput, hputs, ho, o1, o2, c0, c1, c2, w', p', Inst.v, hlk, hS, T1, T2, T3, W0, W1, W2, f0, f1, f2, f3, f4, f5, f6, f7, f8, E1, E2, z1, f9, h0, T4, T5, g1, g2, g3, g4, g5, W3, W4, hf, hfi]
        try simp [Inst.d, E3]
      · have hfi : ¬ (acc.length : Int) + 1 + ((S.length : Int) + 1 + 1) < 23 := by omega
        simp [c_play_Picks_Code_L0, k_play_Picks_Code_L0b, codeSt, codeAdd, aV, aH, aN, num_call, some_call, wr_in, hputs_append, hb, F, gOf_below hb, gOf, hlook, hput, hputs, ho, o1, o2, c0, c1, c2, w', p', Inst.v, hlk, hS, T1, T2, T3, W0, W1, W2, f0, f1, f2, f3, f4, f5, f6, f7, f8, E1, E2, z1, f9, h0, T4, T5, g1, g2, W3, W4, hf, hfi]
        try simp [Inst.d]
    by_cases h1 : valN L n 5 = 1
    · have W3 : IntKind.i64.wrap ((acc.length : Int) + 1 + ((S.length : Int) + 1 + 1)) = (acc.length : Int) + 1 + ((S.length : Int) + 1 + 1) := wrap_i64 (by omega) (by omega)
      have W4 : IntKind.i64.wrap ((acc.length : Int) + ((S.length : Int) + 1 + 1)) = (acc.length : Int) + ((S.length : Int) + 1 + 1) := wrap_i64 (by omega) (by omega)
      by_cases hf : acc.length + 1 + (S.length + 1 + 1) < 23
      · have hfi : (acc.length : Int) + 1 + ((S.length : Int) + 1 + 1) < 23 := by omega
        have g3 : acc.length + 1 + (S.length + 1 + 1) ≤ 1073741823 := by omega
        have g5 : acc.length + 1 + (S.length + 1 + 1) ≤ 1073741824 := by omega
        have E3 : acc.length + 1 + (S.length + 1 + 1) = acc.length + (S.length + 1 + 1) + 1 := by omega
        have g4 : acc.length + (S.length + 1 + 1) ≤ 1073741822 := by omega
        simp [c_play_Picks_Code_L0, k_play_Picks_Code_L0b, codeSt, codeAdd, aV, aH, aN, num_call, some_call, wr_in, hputs_append, hb, F, gOf_below hb, gOf, hlook, hput, hputs, ho, o1, o2, c0, c1, c2, w', p', Inst.v, hlk, hS, T1, T2, T3, W0, W1, W2, f0, f1, f2, f3, f4, f5, f6, f7, f8, E1, E2, z1, f9, h0, h1, T4, T5, g1, g2, g3, g4, g5, W3, W4, hf, hfi]
        try simp [Inst.d, E3]
      · have hfi : ¬ (acc.length : Int) + 1 + ((S.length : Int) + 1 + 1) < 23 := by omega
        simp [c_play_Picks_Code_L0, k_play_Picks_Code_L0b, codeSt, codeAdd, aV, aH, aN, num_call, some_call, wr_in, hputs_append, hb, F, gOf_below hb, gOf, hlook, hput, hputs, ho, o1, o2, c0, c1, c2, w', p', Inst.v, hlk, hS, T1, T2, T3, W0, W1, W2, f0, f1, f2, f3, f4, f5, f6, f7, f8, E1, E2, z1, f9, h0, h1, T4, T5, g1, g2, W3, W4, hf, hfi]
        try simp [Inst.d]
    by_cases h2 : valN L n 5 = 2
    · have W3 : IntKind.i64.wrap ((acc.length : Int) + 1 + (1)) = (acc.length : Int) + 1 + (1) := wrap_i64 (by omega) (by omega)
      have W4 : IntKind.i64.wrap ((acc.length : Int) + (1)) = (acc.length : Int) + (1) := wrap_i64 (by omega) (by omega)
      by_cases hf : acc.length + 1 + (1) < 23
      · have hfi : (acc.length : Int) + 1 + (1) < 23 := by omega
        have g3 : acc.length + 1 + (1) ≤ 1073741823 := by omega
        have g5 : acc.length + 1 + (1) ≤ 1073741824 := by omega
        have E3 : acc.length + 1 + (1) = acc.length + (1) + 1 := by omega
        have g4 : acc.length + (1) ≤ 1073741822 := by omega
        simp [c_play_Picks_Code_L0, k_play_Picks_Code_L0b, codeSt, codeAdd, aV, aH, aN, num_call, some_call, wr_in, hputs_append, hb, F, gOf_below hb, gOf, hlook, hput, hputs, ho, o1, o2, c0, c1, c2, w', p', Inst.v, hlk, hS, T1, T2, T3, W0, W1, W2, f0, f1, f2, f3, f4, f5, f6, f7, f8, E1, E2, z1, f9, h0, h1, h2, T4, T5, g1, g2, g3, g4, g5, W3, W4, hf, hfi]
        try simp [Inst.d, E3]
      · have hfi : ¬ (acc.length : Int) + 1 + (1) < 23 := by omega
        simp [c_play_Picks_Code_L0, k_play_Picks_Code_L0b, codeSt, codeAdd, aV, aH, aN, num_call, some_call, wr_in, hputs_append, hb, F, gOf_below hb, gOf, hlook, hput, hputs, ho, o1, o2, c0, c1, c2, w', p', Inst.v, hlk, hS, T1, T2, T3, W0, W1, W2, f0, f1, f2, f3, f4, f5, f6, f7, f8, E1, E2, z1, f9, h0, h1, h2, T4, T5, g1, g2, W3, W4, hf, hfi]
        try simp [Inst.d]
    have W3 : IntKind.i64.wrap ((acc.length : Int) + 1 + ((S.length : Int) + 1)) = (acc.length : Int) + 1 + ((S.length : Int) + 1) := wrap_i64 (by omega) (by omega)
    have W4 : IntKind.i64.wrap ((acc.length : Int) + ((S.length : Int) + 1)) = (acc.length : Int) + ((S.length : Int) + 1) := wrap_i64 (by omega) (by omega)
    by_cases hf : acc.length + 1 + (S.length + 1) < 23
    · have hfi : (acc.length : Int) + 1 + ((S.length : Int) + 1) < 23 := by omega
      have g3 : acc.length + 1 + (S.length + 1) ≤ 1073741823 := by omega
      have g5 : acc.length + 1 + (S.length + 1) ≤ 1073741824 := by omega
      have E3 : acc.length + 1 + (S.length + 1) = acc.length + (S.length + 1) + 1 := by omega
      have g4 : acc.length + (S.length + 1) ≤ 1073741822 := by omega
      simp [c_play_Picks_Code_L0, k_play_Picks_Code_L0b, codeSt, codeAdd, aV, aH, aN, num_call, some_call, wr_in, hputs_append, hb, F, gOf_below hb, gOf, hlook, hput, hputs, ho, o1, o2, c0, c1, c2, w', p', Inst.v, hlk, hS, T1, T2, T3, W0, W1, W2, f0, f1, f2, f3, f4, f5, f6, f7, f8, E1, E2, z1, f9, h0, h1, h2, T4, T5, g1, g2, g3, g4, g5, W3, W4, hf, hfi]
      try simp [Inst.d, E3]
    · have hfi : ¬ (acc.length : Int) + 1 + ((S.length : Int) + 1) < 23 := by omega
      simp [c_play_Picks_Code_L0, k_play_Picks_Code_L0b, codeSt, codeAdd, aV, aH, aN, num_call, some_call, wr_in, hputs_append, hb, F, gOf_below hb, gOf, hlook, hput, hputs, ho, o1, o2, c0, c1, c2, w', p', Inst.v, hlk, hS, T1, T2, T3, W0, W1, W2, f0, f1, f2, f3, f4, f5, f6, f7, f8, E1, E2, z1, f9, h0, h1, h2, T4, T5, g1, g2, W3, W4, hf, hfi]
      try simp [Inst.d]
end Go.Cd
namespace Go.Cd
open Go Go.Fw
def codeRow (L : List D) (lk : Int) : Nat → Int → List Inst → List Inst
  | 0, _, acc => acc
  | i + 1, n, acc => codeRow L lk i (codeN L n lk) (codeAdd acc (codeI L n lk))
def codeEnd (L : List D) (lk : Int) : Nat → Int → Int
  | 0, n => n
  | i + 1, n => codeEnd L lk i (codeN L n lk)
theorem codeAdd_len {acc x : List Inst} (h : acc.length ≤ 22) : (codeAdd acc x).length ≤ 22 := by
  unfold codeAdd
  split
  · simp; omega
  · exact h
theorem codeRow_len (L : List D) (lk : Int) : ∀ (i : Nat) (n : Int) (acc : List Inst), acc.length ≤ 22 → (codeRow L lk i n acc).length ≤ 22
  | 0, _, _, h => h
  | i + 1, n, acc, h => codeRow_len L lk i _ _ (codeAdd_len h)
theorem codeEnd_ok {L : List D} {lk : Int} : ∀ {i : Nat} {n : Int}, NumOk L n → NumOk L (codeEnd L lk i n)
  | 0, _, h => h
  | i + 1, n, h => by
    unfold codeEnd
    exact codeEnd_ok (codeN_ok lk h)
theorem keep_codeEnd (L : List D) (lk : Int) : ∀ (i : Nat) (n : Int), KeepN L n (codeEnd L lk i n)
  | 0, _ => fun _ => rfl
  | i + 1, n => fun h => by
    unfold codeEnd
    rw [keep_code1 L n lk h]
    exact keep_codeEnd L lk i n h
set_option maxRecDepth 10000 in
theorem code_stop (nl : Bool) (L : List D) (n : Int) (h : Nat) (lk : Int) (acc : List Inst) (tl : Nat → Option Blk) (b : Nat) (hb : h < b) :
    run kp (.loop [0, 1, 5, 6] k_play_Picks_Code_L0 (codeSt nl L n h lk acc 0 [] tl b)) = some (.out (.ext 0) (codeSt nl L n h lk acc 0 [(14, .bool false)] tl b)) := by
  have F := natF8 h b hb
  rw [run_round]
  cases acc with
  | nil => simp [c_play_Picks_Code_L0, k_play_Picks_Code_L0b, codeSt, aV, aH, aN, F]
  | cons x acc => simp [c_play_Picks_Code_L0, k_play_Picks_Code_L0b, codeSt, aV, aH, aN, F, gOf, hlook]
theorem code_loop (nl : Bool) (L : List D) (h : Nat) (lk : Int) (hlk : lk ≤ 1000) (tl : Nat → Option Blk) (b : Nat) (hb : h < b) : ∀ (i : Nat) (n : Int) (acc : List Inst), NumOk L n → acc.length ≤ 22 → i ≤ 100 →
    run kp (.loop [0, 1, 5, 6] k_play_Picks_Code_L0 (codeSt nl L n h lk acc i [] tl b)) = some (.out (.ext 0) (codeSt nl L (codeEnd L lk i n) h lk (codeRow L lk i n acc) 0 [(14, .bool false)] tl b))
  | 0, n, acc, ho, hl, _ => code_stop nl L n h lk acc tl b hb
  | i + 1, n, acc, ho, hl, hi => by
    rw [code_round nl L n ho h lk hlk acc i tl b hb (by omega) (by omega), code_loop nl L h lk hlk tl b hb i (codeN L n lk) _ (codeN_ok lk ho) (codeAdd_len hl) (by omega)]
    rfl
/-- What Code makes, and which number is next. -/
def codeL (L : List D) (n lk : Int) : List Inst := codeRow L lk ((valN L n 4).toNat + 1) (nextN L n) [] ++ [endI]
def codeNx (L : List D) (n lk : Int) : Int := codeEnd L lk ((valN L n 4).toNat + 1) (nextN L n)
theorem codeL_len (L : List D) (n lk : Int) : (codeL L n lk).length ≤ 23 := by
  have h := codeRow_len L lk ((valN L n 4).toNat + 1) (nextN L n) [] (by simp)
  unfold codeL
  simp; omega
theorem codeNx_ok {L : List D} {n : Int} (lk : Int) (h : NumOk L n) : NumOk L (codeNx L n lk) := codeEnd_ok (nextN_ok h)
theorem keep_codeNx (L : List D) (n lk : Int) : KeepN L n (codeNx L n lk) := fun h => by
  unfold codeNx
  rw [nextN_off h]
  exact keep_codeEnd L lk _ n h
def codeA (o : Option Blk) (h : Nat) (lk : Int) (b : Nat) : Option Ans := match o with
  | some (.box (.d (.agg [.sl nl L, .int .i64 n]))) => some (.val (.sl false b 0 (codeL L n lk).length) (wr nl L n h (codeNx L n lk) ++ [(b, .row true ((codeL L n lk).map Inst.d))]) (b + 1))
  | _ => none
@[simp] theorem codeA_mk (nl : Bool) (L : List D) (n : Int) (h : Nat) (lk : Int) (b : Nat) : codeA (some (.box (.d (.agg [.sl nl L, .int .i64 n])))) h lk b = some (.val (.sl false b 0 (codeL L n lk).length) (wr nl L n h (codeNx L n lk) ++ [(b, .row true ((codeL L n lk).map Inst.d))]) (b + 1)) := rfl
set_option maxRecDepth 10000 in
set_option maxHeartbeats 16000000 in
theorem code_off (nl : Bool) (L : List D) (n : Int) (ho : NumOk L n) (hlt : ¬ n < L.length) (h : Nat) (lk : Int) (hlk : lk ≤ 1000) (tl : Nat → Option Blk) (ht : tl h = some (.box (.d (.agg [.sl nl L, .int .i64 n])))) (b : Nat) (hb : h < b) :
    run kp (.loop [0, 1, 5, 6] k_play_Picks_Code_L0 { env := [(0, .ptr h []), (1, .int .i64 lk), (5, .d (.sl true [])), (6, .int .i64 1)], hp := [], tl := tl, base := b, next := b }) = some (.out (.ext 0) { env := [(0, .ptr h []), (1, .int .i64 lk), (5, .sl false b 0 (codeI L n lk).length), (6, .int .i64 0), (14, .bool false)], hp := [(b, .row true ((codeI L n lk).map Inst.d))], tl := tl, base := b, next := b + 1 }) := by
  have F := natF8 h b hb
  have h1 := valN_off (m := 5) hlt
  have h2 := valN_off (m := 3) hlt
  have n1 := nextN_off hlt
  have n2 := keep_someNx L n 2 lk hlt
  have z0 : IntKind.i64.wrap 0 = 0 := by decide
  have z1 : IntKind.i64.wrap 1 = 1 := by decide
  have sl := someL_len (lk := lk) ho (m := 2) (by omega)
  rw [run_round]
  unfold codeI
  obtain ⟨S, hS⟩ : ∃ S, someL L n 2 lk = S := ⟨_, rfl⟩
  rw [hS] at sl
  cases S with
  | nil => simp at sl
  | cons y S =>
  simp only [List.length_cons] at sl
  have T1 : List.take (S.length + 1) (List.map Inst.d (y :: S)) = List.map Inst.d (y :: S) := List.take_of_length_le (by simp)
  have W2 : IntKind.i64.wrap ((S.length : Int) + 1 + 1) = (S.length : Int) + 1 + 1 := wrap_i64 (by omega) (by omega)
  have f1 : (S.length : Int) + 1 + 1 < 23 := by omega
  have f4 : S.length ≤ 1073741822 := by omega
  have f5 : S.length + 1 ≤ 1073741822 := by omega
  have f6 : S.length + 1 + 1 ≤ 1073741823 := by omega
  have f7 : S.length + 1 ≤ 1073741823 := by omega
  have f8 : S.length ≤ 1073741821 := by omega
  have T2 : List.take S.length (List.map Inst.d S) = List.map Inst.d S := List.take_of_length_le (by simp)
  have T3 : List.take (S.length + 1) (List.map Inst.d S) = List.map Inst.d S := List.take_of_length_le (by simp)
  have E1 : 1 + (S.length + 1) = S.length + 1 + 1 := by omega
  have E2 : (1 : Int) + ((S.length : Int) + 1) = (S.length : Int) + 1 + 1 := by omega
  have e3 : wr nl L n h (someNx L n 2 lk) = [] := wr_off hlt
  simp [c_play_Picks_Code_L0, k_play_Picks_Code_L0b, num_call, some_call, wr_off hlt, n1, n2, ht, hb, F, gOf_below hb, gOf, hlook, hputs, ho, h1, h2, hlk, hS, e3, T1, T2, T3, W2, f1, f4, f5, f6, f7, f8, E1, E2, z0, z1, Inst.v]
  rw [run_round]
  simp [c_play_Picks_Code_L0, k_play_Picks_Code_L0b, F, gOf, hlook, Inst.d]
set_option maxRecDepth 10000 in
set_option maxHeartbeats 8000000 in
theorem code_call (tl : Nat → Option Blk) (b h : Nat) (lk : Int) (hlk : lk ≤ 1000) (hk : PkOk (tl h)) (hb : h < b) : run kp (.call f_play_Picks_Code [.ptr h [], .int .i64 lk] tl b) = codeA (tl h) h lk b := by
  obtain ⟨nl, L, n, ht, ho⟩ := hk
  rw [ht, codeA_mk, run_call, kp_play_Picks_Code]
  have o1 := nextN_ok ho
  have F := natF8 h b hb
  by_cases hlt : n < L.length
  · have r := valN_range (m := 4) ho (by omega)
    have lp := code_loop nl L h lk hlk tl b hb ((valN L n 4).toNat + 1) (nextN L n) [] o1 (by simp) (by omega)
    have len := codeRow_len L lk ((valN L n 4).toNat + 1) (nextN L n) [] (by simp)
    rw [wr_on hlt]
    unfold codeL codeNx
    obtain ⟨k, hk⟩ : ∃ k : Nat, valN L n 4 = (k : Int) := ⟨(valN L n 4).toNat, by omega⟩
    rw [hk] at lp len r
    have w : IntKind.i64.wrap ((k : Int) + 1) = (k : Int) + 1 := wrap_i64 (by omega) (by omega)
    simp only [Int.toNat_natCast] at lp len
    simp only [hk, Int.toNat_natCast]
    generalize codeRow L lk (k + 1) (nextN L n) [] = R at *
    generalize codeEnd L lk (k + 1) (nextN L n) = E at *
    cases R with
    | nil =>
      simp only [codeSt, aV, aH, aN, List.append_nil, List.nil_append, List.cons_append, Nat.add_zero, Int.natCast_add, Int.natCast_one] at lp
      simp [k_play_Picks_Code, canK_canH, num_call, wr_in, wr_on, ht, hb, F, gOf_below hb, gOf, hlook, ho, o1, hlt, hk, lp, w, endI, Inst.d]
    | cons x R =>
      simp only [List.length_cons] at len
      have q1 : R.length ≤ 1073741822 := by omega
      have q2 : R.length + 1 ≤ 1073741823 := by omega
      simp only [codeSt, aV, aH, aN, List.append_nil, List.nil_append, List.cons_append, Nat.add_zero, Int.natCast_add, Int.natCast_one] at lp
      simp [k_play_Picks_Code, canK_canH, num_call, wr_in, wr_on, ht, hb, F, gOf_below hb, gOf, hlook, ho, o1, hlt, hk, lp, w, endI, Inst.d, q1, q2, take_map_lenP]
  · have hv := valN_off (m := 4) hlt
    have hv5 := valN_off (m := 5) hlt
    have n1 := nextN_off hlt
    have lp := code_off nl L n ho hlt h lk hlk tl ht b hb
    have z1 : IntKind.i64.wrap 1 = 1 := by decide
    have z0 : IntKind.i64.wrap 0 = 0 := by decide
    have e2 : wr nl L n h (codeNx L n lk) = [] := wr_off hlt
    have len := someL_len (lk := lk) ho (m := 2) (by omega)
    have e1 : codeL L n lk = codeI L n lk ++ [endI] := by
      unfold codeL
      rw [hv, n1]
      simp only [Int.toNat_zero, Nat.zero_add, codeRow]
      unfold codeAdd
      have : (codeI L n lk).length ≤ 7 := by unfold codeI; rw [hv5, n1]; simp; omega
      rw [if_pos (by simp; omega)]
      simp
    have hl : (codeI L n lk).length ≤ 7 := by unfold codeI; rw [hv5, n1]; simp; omega
    have q1 : (codeI L n lk).length ≤ 1073741822 := by omega
    have q2 : (codeI L n lk).length ≤ 1073741823 := by omega
    rw [e1]
    simp [k_play_Picks_Code, canK_canH, num_call, wr_off hlt, hv, ht, hb, F, gOf_below hb, gOf, hlook, ho, lp, endI, Inst.d, z1, z0, e2, q1, q2, take_map_lenP]
end Go.Cd
namespace Go.Cd
open Go Go.Fw
theorem hsB (v : V) : Blk.hs (.box v) = v.hs := rfl
theorem hsR (o : Bool) (l : List D) : Blk.hs (.row o l) = [] := rfl
theorem hsD : Blk.hs .dead = [] := rfl
theorem renB (f : Nat → Nat) (v : V) : Blk.ren f (.box v) = .box (v.ren f) := rfl
theorem renR (f : Nat → Nat) (o : Bool) (l : List D) : Blk.ren f (.row o l) = .row o l := rfl
theorem renD (f : Nat → Nat) : Blk.ren f .dead = .dead := rfl
end Go.Cd
