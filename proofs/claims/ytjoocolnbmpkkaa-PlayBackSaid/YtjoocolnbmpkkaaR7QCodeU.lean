/- Programs out of bytes: Take, the program's and the document's. No conditions. -/
import Derived.Test.YtjoocolnbmpkkaaR7QCodeT
import Derived.Test.YtjoocolnbmpkkaaR7QPk3
set_option linter.unusedVariables false
set_option linter.unusedSimpArgs false
namespace Go.Cd
open Go Go.Fw
theorem u8_slice (b : List Int) (i n : Nat) : List.take n (List.drop i (b.map u8d)) = ((b.drop i).take n).map u8d := by
  rw [← List.map_drop, ← List.map_take]
theorem adopt_I (x : Inst) (n : Nat) : adopt n x.d = (.d x.d, [], n) := rfl
def takeSt (b : List Int) (nl : Bool) (acc : List Inst) (at_ : Nat) (ex : List (Nat × V)) : St :=
  { env := [(0, .asl nl (b.map u8d)), (2, aV 0 acc), (4, .int .i64 (at_ : Int))] ++ ex, hp := aH 0 acc, tl := fun _ => none, base := 0, next := aN acc }
set_option maxRecDepth 10000 in
set_option maxHeartbeats 8000000 in
theorem take_round (b : List Int) (hb : bytesOk b) (nl : Bool) (hbl : b.length ≤ 100000) (acc : List Inst) (hl : acc.length ≤ 100000) (i : Nat) (hi : 1 + 7 * (i + 1) ≤ b.length) :
    run kp (.loop [0, 2, 4] k_code_Take_L0 (takeSt b nl acc (1 + 7 * i) [])) = run kp (.loop [0, 2, 4] k_code_Take_L0 (takeSt b nl (acc ++ [decI (chunk b i)]) (1 + 7 * (i + 1)) [])) := by
  have ci := code_inst (chunk_len hi) (chunk_ok hb i) nl
  obtain ⟨a, ha⟩ : ∃ a : Nat, a = 1 + 7 * i := ⟨_, rfl⟩
  have hc : chunk b i = (b.drop a).take 7 := by unfold chunk; rw [ha]
  rw [hc, ← u8_slice] at ci
  rw [hc]
  have e2 : 1 + 7 * (i + 1) = a + 7 := by omega
  rw [e2, ← ha]
  have w : IntKind.i64.wrap ((a : Int) + 7) = (a : Int) + 7 := wrap_i64 (by omega) (by omega)
  have e : ((a : Int) + 7 - (a : Int)).toNat = 7 := by omega
  have p1 : (a : Int) + 7 ≤ (b.length : Int) := by omega
  have p2 : (a : Int) ≤ (a : Int) + 7 := by omega
  rw [run_round]
  generalize decI ((b.drop a).take 7) = x at *
  cases acc with
  | nil => simp [c_code_Take_L0, k_code_Take_L0b, takeSt, aV, aH, aN, w, e, p1, p2, ci, adopt_I]
  | cons y acc =>
    simp only [List.length_cons] at hl
    have q1 : acc.length ≤ 1073741822 := by omega
    simp [c_code_Take_L0, k_code_Take_L0b, takeSt, aV, aH, aN, w, e, p1, p2, ci, adopt_I, q1, take_map_lenP]
theorem take_loop (b : List Int) (hb : bytesOk b) (nl : Bool) (hbl : b.length ≤ 100000) : ∀ (j i : Nat), i + j = (b.length - 1) / 7 →
    run kp (.loop [0, 2, 4] k_code_Take_L0 (takeSt b nl (decs b i) (1 + 7 * i) [])) = some (.out (.ext 0) (takeSt b nl (decs b ((b.length - 1) / 7)) (1 + 7 * ((b.length - 1) / 7)) [(10, .bool false)]))
  | 0, i, h => by
    obtain rfl : i = (b.length - 1) / 7 := by omega
    generalize hk : (b.length - 1) / 7 = k at *
    have w : IntKind.i64.wrap (((1 + 7 * k : Nat) : Int) + 7) = ((1 + 7 * k : Nat) : Int) + 7 := wrap_i64 (by omega) (by omega)
    have p : ¬ ((1 + 7 * k : Nat) : Int) + 7 ≤ (b.length : Int) := by omega
    generalize 1 + 7 * k = a at *
    rw [run_round]
    generalize decs b k = acc
    cases acc with
    | nil => simp [c_code_Take_L0, k_code_Take_L0b, takeSt, aV, aH, aN, w, p]
    | cons y acc => simp [c_code_Take_L0, k_code_Take_L0b, takeSt, aV, aH, aN, w, p]
  | j + 1, i, h => by
    rw [take_round b hb nl hbl (decs b i) (by rw [decs_len]; omega) i (by omega), ← decs_succ]
    exact take_loop b hb nl hbl j (i + 1) (by omega)
def rowI (l : List Inst) : D := .sl l.isEmpty (l.map Inst.d)
def takeR (b : List Int) : List D := match takeO b with | some l => [rowI l, .bool true] | none => [.sl true [], .bool false]
set_option maxRecDepth 10000 in
set_option maxHeartbeats 8000000 in
theorem code_Take (b : List Int) (hb : bytesOk b) (nl : Bool) (hbl : b.length ≤ 100000) : run kp (.data f_code_Take [.sl nl (b.map u8d)]) = some (.ds (takeR b)) := by
  have lp := take_loop b hb nl hbl ((b.length - 1) / 7) 0 (by omega)
  simp only [takeSt, decs, List.range_zero, List.map_nil, aV, aH, aN, Nat.mul_zero, Nat.add_zero, List.append_nil, List.cons_append, List.nil_append, Int.natCast_one] at lp
  have ed : ((List.range ((b.length - 1) / 7)).map fun i => decI (chunk b i)) = decs b ((b.length - 1) / 7) := rfl
  rw [ed] at lp
  unfold takeR takeO
  generalize decs b ((b.length - 1) / 7) = R at *
  have hp := fun nl => code_Put R nl
  unfold putD at hp
  rw [run_data, run_call, kp_code_Take]
  cases hc : putB R with
  | none =>
    simp only [hc] at hp
    cases R with
    | nil =>
      have : putB [] = some [0] := rfl
      rw [this] at hc; cases hc
    | cons x R =>
      simp only [aV, aH, aN] at lp
      have hp := hp false
      simp only [List.map_cons] at hp
      simp [k_code_Take, lp, hp, take_map_lenP]
  | some c =>
    simp only [hc] at hp
    have co := putB_ok hc
    have hcn : ∃ z r, c = z :: r := by
      obtain ⟨rfl, _⟩ := bytes_of hc
      exact ⟨_, _, rfl⟩
    have eq := bytes_Equal c b co hb false nl
    have tc : List.take c.length (List.map u8d c) = List.map u8d c := List.take_of_length_le (by simp)
    by_cases hcb : c = b
    · have heq : decide (c = b) = true := by simp [hcb]
      rw [heq] at eq
      simp only [if_pos hcb]
      obtain ⟨z, r, rfl⟩ := hcn
      cases R with
      | nil =>
        simp only [aV, aH, aN] at lp
        have hp := hp true
        simp only [List.map_nil, List.map_cons] at hp eq
        simp [k_code_Take, lp, hp, eq, rowI]
      | cons x R =>
        simp only [aV, aH, aN] at lp
        have hp := hp false
        simp only [List.map_cons] at hp eq
        simp [k_code_Take, lp, hp, eq, rowI, take_map_lenP]
    · have heq : decide (c = b) = false := by simp [hcb]
      rw [heq] at eq
      simp only [if_neg hcb]
      obtain ⟨z, r, rfl⟩ := hcn
      cases R with
      | nil =>
        simp only [aV, aH, aN] at lp
        have hp := hp true
        simp only [List.map_nil, List.map_cons] at hp eq
        simp [k_code_Take, lp, hp, eq, rowI]
      | cons x R =>
        simp only [aV, aH, aN] at lp
        have hp := hp false
        simp only [List.map_cons] at hp eq
        simp [k_code_Take, lp, hp, eq, rowI, take_map_lenP]
end Go.Cd
