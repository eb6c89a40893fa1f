/- Bytes and programs: what goes there and back. No conditions. -/
import Derived.Test.YtjoocolnbmpkkaaR7QCodeA
set_option linter.unusedVariables false
set_option linter.unusedSimpArgs false
namespace Go.Cd
open Go Go.Fw
def bytesOk (l : List Int) : Prop := ∀ x ∈ l, 0 ≤ x ∧ x < 256
def decU (c : List Int) : Int := ((c.getD 3 0 * 256 + c.getD 4 0) * 256 + c.getD 5 0) * 256 + c.getD 6 0
def decI (c : List Int) : Inst := ⟨c.getD 0 0, c.getD 1 0, c.getD 2 0, IntKind.i32.wrap (decU c)⟩
def chunk (b : List Int) (i : Nat) : List Int := (b.drop (1 + 7 * i)).take 7
def decs (b : List Int) (k : Nat) : List Inst := (List.range k).map fun i => decI (chunk b i)
theorem decs_succ (b : List Int) (k : Nat) : decs b (k + 1) = decs b k ++ [decI (chunk b k)] := by simp [decs, List.range_succ]
theorem decs_len (b : List Int) (k : Nat) : (decs b k).length = k := by simp [decs]
theorem seven {c : List Int} (h : c.length = 7) : ∃ c0 c1 c2 c3 c4 c5 c6, c = [c0, c1, c2, c3, c4, c5, c6] := by
  match c, h with
  | [c0, c1, c2, c3, c4, c5, c6], _ => exact ⟨_, _, _, _, _, _, _, rfl⟩
theorem u8_id {x : Int} (h : 0 ≤ x ∧ x < 256) : IntKind.u8.wrap x = x := by rw [IntKind.wrap_u8]; omega
theorem nU_dec (u : Int) (h : 0 ≤ u ∧ u < 4294967296) : nU (IntKind.i32.wrap u) = u := by
  unfold nU
  rw [IntKind.wrap_u32, IntKind.wrap_i32, IntKind.wrap_i32]
  omega
/-- Seven bytes come back. -/
theorem inst_dec {c : List Int} (h : c.length = 7) (hb : bytesOk c) : instB (decI c) = c := by
  obtain ⟨c0, c1, c2, c3, c4, c5, c6, rfl⟩ := seven h
  have g0 := hb c0 (by simp)
  have g1 := hb c1 (by simp)
  have g2 := hb c2 (by simp)
  have g3 := hb c3 (by simp)
  have g4 := hb c4 (by simp)
  have g5 := hb c5 (by simp)
  have g6 := hb c6 (by simp)
  have e : decU [c0, c1, c2, c3, c4, c5, c6] = ((c3 * 256 + c4) * 256 + c5) * 256 + c6 := rfl
  have eu := nU_dec (decU [c0, c1, c2, c3, c4, c5, c6]) (by rw [e]; omega)
  unfold decI instB
  simp only [eu]
  rw [e]
  have k3 : IntKind.u8.wrap ((((c3 * 256 + c4) * 256 + c5) * 256 + c6) / 16777216) = c3 := by rw [IntKind.wrap_u8]; omega
  have k4 : IntKind.u8.wrap ((((c3 * 256 + c4) * 256 + c5) * 256 + c6) / 65536) = c4 := by rw [IntKind.wrap_u8]; omega
  have k5 : IntKind.u8.wrap ((((c3 * 256 + c4) * 256 + c5) * 256 + c6) / 256) = c5 := by rw [IntKind.wrap_u8]; omega
  have k6 : IntKind.u8.wrap (((c3 * 256 + c4) * 256 + c5) * 256 + c6) = c6 := by rw [IntKind.wrap_u8]; omega
  rw [k3, k4, k5, k6]
  simp [u8_id g0, u8_id g1, u8_id g2]
/-- An instruction that may be comes back. -/
theorem dec_inst {i : Inst} (h : mayF i = true) : decI (instB i) = i := by
  have key : (0 ≤ i.op ∧ i.op < 256) ∧ (0 ≤ i.a ∧ i.a < 256) ∧ (0 ≤ i.b ∧ i.b < 256) ∧ (-2147483648 ≤ i.n ∧ i.n ≤ 2147483647) := by
    unfold mayF at h
    repeat' split at h
    all_goals simp [memB, withB] at h
    all_goals omega
  obtain ⟨op, a, b, n⟩ := i
  obtain ⟨k0, k1, k2, k3⟩ := key
  simp only at k0 k1 k2 k3
  have r := nU_range n
  have en : IntKind.i32.wrap n = n := by rw [IntKind.wrap_i32]; omega
  have hu : decU (instB ⟨op, a, b, n⟩) = nU n := by
    show ((IntKind.u8.wrap (nU n / 16777216) * 256 + IntKind.u8.wrap (nU n / 65536)) * 256 + IntKind.u8.wrap (nU n / 256)) * 256 + IntKind.u8.wrap (nU n) = nU n
    simp only [IntKind.wrap_u8]
    omega
  unfold decI
  rw [hu]
  have e2 : IntKind.i32.wrap (nU n) = n := by
    unfold nU
    rw [IntKind.wrap_i32, IntKind.wrap_u32, IntKind.wrap_i32]
    omega
  rw [e2]
  simp [instB, u8_id k0, u8_id k1, u8_id k2]
theorem instB_ok (i : Inst) : bytesOk (instB i) := by
  intro x hx
  simp only [instB, List.mem_cons, List.not_mem_nil, or_false] at hx
  have h : ∀ v, 0 ≤ IntKind.u8.wrap v ∧ IntKind.u8.wrap v < 256 := fun v => by rw [IntKind.wrap_u8]; omega
  rcases hx with rfl | rfl | rfl | rfl | rfl | rfl | rfl <;> exact h _
theorem bytesB_ok : ∀ l : List Inst, bytesOk (bytesB l)
  | [], x, hx => by simp [bytesB] at hx
  | i :: l, x, hx => by
    rcases List.mem_append.1 hx with hx | hx
    · exact instB_ok i x hx
    · exact bytesB_ok l x hx
theorem bytesB_append : ∀ (l m : List Inst), bytesB (l ++ m) = bytesB l ++ bytesB m
  | [], m => rfl
  | i :: l, m => by simp [bytesB, bytesB_append l m]
theorem chunk_len {b : List Int} {i : Nat} (h : 1 + 7 * (i + 1) ≤ b.length) : (chunk b i).length = 7 := by
  simp [chunk]; omega
theorem chunk_ok {b : List Int} (hb : bytesOk b) (i : Nat) : bytesOk (chunk b i) := fun x hx => hb x (List.mem_of_mem_drop (List.mem_of_mem_take hx))
/-- All the bytes come back. -/
theorem bytes_decs {b : List Int} (hb : bytesOk b) : ∀ k, 1 + 7 * k ≤ b.length → bytesB (decs b k) = (b.drop 1).take (7 * k)
  | 0, _ => by simp [decs, bytesB]
  | k + 1, h => by
    rw [decs_succ, bytesB_append, bytes_decs hb k (by omega)]
    have e : bytesB [decI (chunk b k)] = chunk b k := by simp [bytesB, inst_dec (chunk_len h) (chunk_ok hb k)]
    rw [e, show 7 * (k + 1) = 7 * k + 7 by omega, List.take_add, List.drop_drop]
    rfl
/-- What bytes say. -/
def takeO (b : List Int) : Option (List Inst) := match putB (decs b ((b.length - 1) / 7)) with | some c => if c = b then some (decs b ((b.length - 1) / 7)) else none | none => none
theorem takeO_iff {b : List Int} (hb : bytesOk b) (l : List Inst) : takeO b = some l ↔ ∃ k : Nat, b.length = 1 + 7 * k ∧ b[0]? = some (k : Int) ∧ k ≤ 24 ∧ (decs b k).all mayF = true ∧ l = decs b k := by
  unfold takeO putB
  rw [decs_len]
  constructor
  · intro h
    by_cases g : (b.length - 1) / 7 ≤ 24 ∧ (decs b ((b.length - 1) / 7)).all mayF = true
    · rw [if_pos g] at h
      simp only at h
      by_cases e : ((((b.length - 1) / 7 : Nat) : Int) :: bytesB (decs b ((b.length - 1) / 7))) = b
      · rw [if_pos e] at h
        injection h with h
        refine ⟨(b.length - 1) / 7, ?_, ?_, g.1, g.2, h.symm⟩
        · have := congrArg List.length e
          simp [bytesB_len, decs_len] at this
          omega
        · conv => lhs; rw [← e]
          rfl
      · rw [if_neg e] at h; cases h
    · rw [if_neg g] at h; cases h
  · rintro ⟨k, h1, h2, h3, h4, rfl⟩
    have ek : (b.length - 1) / 7 = k := by omega
    rw [ek, if_pos ⟨h3, h4⟩]
    have e : ((k : Int) :: bytesB (decs b k)) = b := by
      rw [bytes_decs hb k (by omega)]
      cases b with
      | nil =>
        exfalso
        simp only [List.length_nil] at h1
        omega
      | cons x b =>
        simp only [List.length_cons] at h1
        simp only [List.getElem?_cons_zero] at h2
        injection h2 with h2
        rw [h2, List.drop_succ_cons, List.drop_zero, List.take_of_length_le (by omega)]
    simp only
    rw [if_pos e]
theorem bytes_of {l : List Inst} {c : List Int} (h : putB l = some c) : c = (l.length : Int) :: bytesB l ∧ l.length ≤ 24 ∧ l.all mayF = true := by
  unfold putB at h
  split at h
  · rename_i g
    injection h with h
    exact ⟨h.symm, g⟩
  · cases h
theorem putB_ok {l : List Inst} {c : List Int} (h : putB l = some c) : bytesOk c := by
  obtain ⟨rfl, h1, _⟩ := bytes_of h
  intro x hx
  rcases List.mem_cons.1 hx with rfl | hx
  · omega
  · exact bytesB_ok l x hx
theorem chunk_bytes : ∀ (l : List Inst) (z : Int) (i : Nat) (x : Inst), l[i]? = some x → chunk (z :: bytesB l) i = instB x
  | [], _, _, _, h => by simp at h
  | y :: l, z, 0, x, h => by
    simp at h; subst h
    simp [chunk, bytesB, instB]
  | y :: l, z, i + 1, x, h => by
    have := chunk_bytes l z i x (by simpa using h)
    rw [← this]
    unfold chunk
    simp only [bytesB]
    have e : z :: (instB y ++ bytesB l) = (z :: instB y) ++ bytesB l := rfl
    have e1 : 1 + 7 * (i + 1) = (z :: instB y).length + 7 * i := by simp [instB]; omega
    have e2 : 1 + 7 * i = [z].length + 7 * i := rfl
    rw [e, e1, List.drop_length_add_append, show z :: bytesB l = [z] ++ bytesB l from rfl, e2, List.drop_length_add_append]
/-- A program comes back. -/
theorem take_put {l : List Inst} {c : List Int} (h : putB l = some c) : takeO c = some l := by
  have hb := putB_ok h
  obtain ⟨rfl, h1, h2⟩ := bytes_of h
  have e : decs ((l.length : Int) :: bytesB l) l.length = l := by
    apply List.ext_getElem?
    intro i
    unfold decs
    rw [List.getElem?_map]
    by_cases hi : i < l.length
    · rw [List.getElem?_range hi]
      obtain ⟨x, hx⟩ : ∃ x, l[i]? = some x := ⟨_, List.getElem?_eq_getElem hi⟩
      rw [Option.map_some, chunk_bytes l _ i x hx, hx, dec_inst (List.all_eq_true.1 h2 x (List.mem_of_getElem? hx))]
    · rw [List.getElem?_eq_none (by simpa using hi), List.getElem?_eq_none (by omega)]
      rfl
  rw [takeO_iff hb]
  exact ⟨l.length, by simp [bytesB_len]; omega, rfl, h1, by rw [e]; exact h2, e.symm⟩
theorem putB_inj {l m : List Inst} {c : List Int} (h1 : putB l = some c) (h2 : putB m = some c) : l = m := by
  have := (take_put h1).symm.trans (take_put h2)
  injection this
end Go.Cd
