/- Programs as bytes: what Put makes, the program's and the document's. No conditions. -/
import Derived.Test.YtjoocolnbmpkkaaR7QVmM
set_option linter.unusedVariables false
set_option linter.unusedSimpArgs false
namespace Go.Cd
open Go Go.Fw
def nU (n : Int) : Int := IntKind.u32.wrap (IntKind.i32.wrap n)
def u8d (x : Int) : D := .int .u8 x
def instB (i : Inst) : List Int := [IntKind.u8.wrap i.op, IntKind.u8.wrap i.a, IntKind.u8.wrap i.b, IntKind.u8.wrap (nU i.n / 16777216), IntKind.u8.wrap (nU i.n / 65536), IntKind.u8.wrap (nU i.n / 256), IntKind.u8.wrap (nU i.n)]
def bytesB : List Inst → List Int
  | [] => []
  | i :: l => instB i ++ bytesB l
theorem instB_len (i : Inst) : (instB i).length = 7 := rfl
theorem bytesB_len : ∀ l : List Inst, (bytesB l).length = 7 * l.length
  | [] => rfl
  | i :: l => by simp [bytesB, bytesB_len l, instB_len]; omega
theorem nU_range (n : Int) : 0 ≤ nU n ∧ nU n < 4294967296 := by
  unfold nU
  rw [IntKind.wrap_u32]
  omega
/-- The bytes of a program that may be. -/
def putB (l : List Inst) : Option (List Int) := if l.length ≤ 24 ∧ l.all mayF = true then some ((l.length : Int) :: bytesB l) else none
def putD (l : List Inst) : D := match putB l with | some b => .sl false (b.map u8d) | none => .sl true []
set_option maxRecDepth 10000 in
set_option maxHeartbeats 4000000 in
theorem ref1_PutInst (i : Inst) : run kp (.data f_ref1_PutInst [i.d]) = some (.ds [.sl false ((instB i).map u8d)]) := by
  obtain ⟨op, a, b, n⟩ := i
  rw [run_data, run_call, kp_ref1_PutInst]
  have r := nU_range n
  have e1 : IntKind.u32.wrap ((nU n).tdiv 16777216) = nU n / 16777216 := by rw [Int.tdiv_eq_ediv_of_nonneg r.1, IntKind.wrap_u32]; omega
  have e2 : IntKind.u32.wrap ((nU n).tdiv 65536) = nU n / 65536 := by rw [Int.tdiv_eq_ediv_of_nonneg r.1, IntKind.wrap_u32]; omega
  have e3 : IntKind.u32.wrap ((nU n).tdiv 256) = nU n / 256 := by rw [Int.tdiv_eq_ediv_of_nonneg r.1, IntKind.wrap_u32]; omega
  have e0 : IntKind.u32.wrap (IntKind.i32.wrap n) = nU n := rfl
  simp [k_ref1_PutInst, Inst.d, instB, u8d, e0, e1, e2, e3]
def putSt (L : List Inst) (nl : Bool) (acc : List Int) (i : Nat) (ex : List (Nat × V)) : St :=
  { env := [(3, .sl false 0 0 acc.length), (14, .asl nl (L.map Inst.d)), (15, .int .i64 L.length), (16, .int .i64 (i : Int))] ++ ex, hp := [(0, .row true (acc.map u8d))], tl := fun _ => none, base := 0, next := 1 }
theorem take_u8 (l : List Int) : List.take l.length (List.map u8d l) = List.map u8d l := List.take_of_length_le (by simp)
set_option maxRecDepth 10000 in
set_option maxHeartbeats 8000000 in
theorem put_round (L : List Inst) (nl : Bool) (acc : List Int) (h0 : acc.length ≤ 100000) (i : Nat) (hi : i < L.length) (hL : L.length ≤ 1000) (x : Inst) (hx : L[i]? = some x) :
    (mayF x = true → run kp (.loop [3, 14, 15, 16] k_code_Put_L0 (putSt L nl acc i [])) = run kp (.loop [3, 14, 15, 16] k_code_Put_L0 (putSt L nl (acc ++ instB x) (i + 1) []))) ∧
    (mayF x = false → ∃ s, run kp (.loop [3, 14, 15, 16] k_code_Put_L0 (putSt L nl acc i [])) = some (.out .ret s) ∧ val s.env (.t 2) = .d (.sl true []) ∧ s.base = 0) := by
  have w : IntKind.i64.wrap ((i : Int) + 1) = ((i + 1 : Nat) : Int) := by rw [wrap_i64 (by omega) (by omega)]; omega
  have p : (i : Int) < (L.length : Int) := by omega
  have hx2 : ∀ hh : i < L.length, L[i] = x := fun hh => by rw [List.getElem?_eq_getElem hh] at hx; injection hx
  have my := code_May x
  have q1 : acc.length + 7 ≤ 1073741824 := by omega
  have e0 : IntKind.u32.wrap (IntKind.i32.wrap x.n) = nU x.n := rfl
  have r := nU_range x.n
  obtain ⟨op, a, b, n⟩ := x
  simp only [Inst.d] at my
  generalize i + 1 = i' at *
  refine ⟨fun hm => ?_, fun hm => ?_⟩
  · rw [run_round]
    simp [c_code_Put_L0, k_code_Put_L0b, putSt, hi, p, hx, hx2, Inst.d, my, hm, w, e0, q1, take_u8]
    have b24 : (2 : Int) ^ min 24 IntKind.u32.bits = 16777216 := by decide
    have b16 : (2 : Int) ^ min 16 IntKind.u32.bits = 65536 := by decide
    have b8 : (2 : Int) ^ min 8 IntKind.u32.bits = 256 := by decide
    simp [instB, u8d, b24, b16, b8]
  · rw [run_round]
    simp [c_code_Put_L0, k_code_Put_L0b, putSt, hi, p, hx, hx2, Inst.d, my, hm, w, e0, q1, take_u8]
theorem all_drop {L : List Inst} {i : Nat} {x : Inst} (hx : L[i]? = some x) : (L.drop i).all mayF = (mayF x && (L.drop (i + 1)).all mayF) := by
  have hi : i < L.length := (List.getElem?_eq_some_iff.1 hx).1
  rw [List.drop_eq_getElem_cons hi, List.all_cons]
  rw [List.getElem?_eq_getElem hi] at hx
  injection hx with hx
  rw [hx]
theorem bytesB_drop {L : List Inst} {i : Nat} {x : Inst} (hx : L[i]? = some x) : bytesB (L.drop i) = instB x ++ bytesB (L.drop (i + 1)) := by
  have hi : i < L.length := (List.getElem?_eq_some_iff.1 hx).1
  rw [List.drop_eq_getElem_cons hi, bytesB]
  rw [List.getElem?_eq_getElem hi] at hx
  injection hx with hx
  rw [hx]
theorem put_loop (L : List Inst) (nl : Bool) (hL : L.length ≤ 1000) : ∀ (k i : Nat) (acc : List Int), i + k = L.length → acc.length + 7 * k ≤ 100000 →
    ((L.drop i).all mayF = true → run kp (.loop [3, 14, 15, 16] k_code_Put_L0 (putSt L nl acc i [])) = some (.out (.ext 0) (putSt L nl (acc ++ bytesB (L.drop i)) L.length [(17, .bool false)]))) ∧
    ((L.drop i).all mayF = false → ∃ s, run kp (.loop [3, 14, 15, 16] k_code_Put_L0 (putSt L nl acc i [])) = some (.out .ret s) ∧ val s.env (.t 2) = .d (.sl true []) ∧ s.base = 0)
  | 0, i, acc, h, hl => by
    obtain rfl : i = L.length := by omega
    refine ⟨fun _ => ?_, fun e => by simp at e⟩
    rw [run_round]
    simp [c_code_Put_L0, k_code_Put_L0b, putSt, bytesB]
  | k + 1, i, acc, h, hl => by
    have hi : i < L.length := by omega
    obtain ⟨x, hx⟩ : ∃ x, L[i]? = some x := ⟨_, List.getElem?_eq_getElem hi⟩
    obtain ⟨r1, r2⟩ := put_round L nl acc (by omega) i hi hL x hx
    obtain ⟨p1, p2⟩ := put_loop L nl hL k (i + 1) (acc ++ instB x) (by omega) (by simp [instB_len]; omega)
    rw [all_drop hx, bytesB_drop hx]
    cases hm : mayF x with
    | true =>
      rw [r1 hm, Bool.true_and, ← List.append_assoc]
      exact ⟨p1, p2⟩
    | false => exact ⟨fun e => by simp at e, fun _ => r2 hm⟩
theorem outer_no : ∀ hp : Hp, outer 0 hp = []
  | [] => rfl
  | (h, b) :: l => by
    unfold outer
    simp [outer_no l]
theorem canon_d (s : St) (x : D) (hb : s.base = 0) : ∃ u k, canK (canon [(0, .d x)] s) = some (.val (.d x) u k) := by
  unfold canon
  rw [hb]
  simp only [outer_no]
  have e1 : envHs [(0, V.d x)] = [] := rfl
  have e2 : hpHs [] = [] := rfl
  have e3 : reach s.g 0 4096 [] [] = [] := rfl
  rw [e1, e2]
  simp only [List.append_nil]
  rw [e3]
  exact ⟨_, _, rfl⟩
theorem valK_none (u : Hp) (k : Nat) : valK (some (.val (.d (.sl true [])) u k)) = some (.ds [.sl true []]) := rfl
set_option maxRecDepth 10000 in
set_option maxHeartbeats 4000000 in
theorem code_Put (L : List Inst) (nl : Bool) : run kp (.data f_code_Put [.sl nl (L.map Inst.d)]) = some (.ds [putD L]) := by
  rw [run_data, run_call, kp_code_Put]
  unfold putD putB
  by_cases hl : L.length ≤ 24
  · have g : ¬ (24 : Int) < L.length := by omega
    have w : IntKind.u8.wrap (L.length : Int) = (L.length : Int) := by rw [IntKind.wrap_u8]; omega
    obtain ⟨p1, p2⟩ := put_loop L nl (by omega) L.length 0 [(L.length : Int)] (by omega) (by simp; omega)
    simp only [putSt, List.append_nil, List.length_cons, List.length_nil, List.map_cons, List.map_nil, u8d, List.drop_zero, Nat.zero_add, Int.cast_ofNat_Int] at p1 p2
    cases hm : L.all mayF with
    | true =>
      have p1 := p1 hm
      simp [k_code_Put, hl, hm, g, w, p1, u8d]
    | false =>
      obtain ⟨s, p2, h1, h2⟩ := p2 hm
      obtain ⟨u, k, h3⟩ := canon_d s (.sl true []) h2
      simp only [val] at h1
      simp [k_code_Put, hl, hm, g, w, p2, h1, h3, valK_none]
  · have g : (24 : Int) < L.length := by omega
    simp [k_code_Put, hl, g]
end Go.Cd
