/- Instructions out of bytes. No conditions. -/
import Derived.Test.YtjoocolnbmpkkaaR7QCodeM
set_option linter.unusedVariables false
set_option linter.unusedSimpArgs false
namespace Go.Cd
open Go Go.Fw
theorem or_byte {m c : Int} (hm : 0 ≤ m ∧ m < 16777216) (hc : 0 ≤ c ∧ c < 256) : bits .or .u32 (m * 256) c = m * 256 + c := by
  have key : bits .or .u32 (m * 256) c = IntKind.u32.wrap (((BitVec.ofInt 32 (m * 256) ||| BitVec.ofInt 32 c).toNat : Nat) : Int) := rfl
  obtain ⟨m, rfl⟩ : ∃ k : Nat, m = (k : Int) := ⟨m.toNat, by omega⟩
  obtain ⟨c, rfl⟩ : ∃ k : Nat, c = (k : Int) := ⟨c.toNat, by omega⟩
  have e1 : (BitVec.ofInt 32 ((m : Int) * 256)).toNat = 2 ^ 8 * m := by
    rw [BitVec.toNat_ofInt]
    omega
  have e2 : (BitVec.ofInt 32 (c : Int)).toNat = c := by
    rw [BitVec.toNat_ofInt]
    omega
  have e3 : (BitVec.ofInt 32 ((m : Int) * 256) ||| BitVec.ofInt 32 (c : Int)).toNat = 2 ^ 8 * m + c := by
    rw [BitVec.toNat_or, e1, e2, Nat.two_pow_add_eq_or_of_lt (by omega)]
  rw [key, e3, IntKind.wrap_u32]
  omega
set_option maxRecDepth 10000 in
set_option maxHeartbeats 16000000 in
theorem code_inst {c : List Int} (h : c.length = 7) (hb : bytesOk c) (nl : Bool) : run kp (.data f_code_inst [.sl nl (c.map u8d)]) = some (.ds [(decI c).d]) := by
  obtain ⟨c0, c1, c2, c3, c4, c5, c6, rfl⟩ := seven h
  have g0 := hb c0 (by simp)
  have g1 := hb c1 (by simp)
  have g2 := hb c2 (by simp)
  have g3 := hb c3 (by simp)
  have g4 := hb c4 (by simp)
  have g5 := hb c5 (by simp)
  have g6 := hb c6 (by simp)
  have b8 : (2 : Int) ^ min 8 IntKind.u32.bits = 256 := by decide
  have z0 : IntKind.u32.wrap 0 = 0 := by decide
  have z1 : IntKind.i64.wrap 1 = 1 := by decide
  have z2 : IntKind.i64.wrap 2 = 2 := by decide
  have z3 : IntKind.i64.wrap 3 = 3 := by decide
  have z4 : IntKind.i64.wrap 4 = 4 := by decide
  have u3 : IntKind.u32.wrap c3 = c3 := by rw [IntKind.wrap_u32]; omega
  have u4 : IntKind.u32.wrap c4 = c4 := by rw [IntKind.wrap_u32]; omega
  have u5 : IntKind.u32.wrap c5 = c5 := by rw [IntKind.wrap_u32]; omega
  have u6 : IntKind.u32.wrap c6 = c6 := by rw [IntKind.wrap_u32]; omega
  have i0 : IntKind.i64.wrap c0 = c0 := wrap_i64 (by omega) (by omega)
  have i1 : IntKind.i64.wrap c1 = c1 := wrap_i64 (by omega) (by omega)
  have i2 : IntKind.i64.wrap c2 = c2 := wrap_i64 (by omega) (by omega)
  have o3 : bits .or .u32 0 c3 = c3 := by have := or_byte (m := 0) (by omega) g3; simpa using this
  obtain ⟨m4, hm4⟩ : ∃ m, m = c3 * 256 + c4 := ⟨_, rfl⟩
  obtain ⟨m5, hm5⟩ : ∃ m, m = m4 * 256 + c5 := ⟨_, rfl⟩
  have s4 : IntKind.u32.wrap (c3 * 256) = c3 * 256 := by rw [IntKind.wrap_u32]; omega
  have s5 : IntKind.u32.wrap (m4 * 256) = m4 * 256 := by rw [IntKind.wrap_u32]; omega
  have s6 : IntKind.u32.wrap (m5 * 256) = m5 * 256 := by rw [IntKind.wrap_u32]; omega
  have o4 : bits .or .u32 (c3 * 256) c4 = m4 := by rw [or_byte (by omega) g4, hm4]
  have o5 : bits .or .u32 (m4 * 256) c5 = m5 := by rw [or_byte (by omega) g5, hm5]
  have o6 : bits .or .u32 (m5 * 256) c6 = decU [c0, c1, c2, c3, c4, c5, c6] := by
    rw [or_byte (by omega) g6, hm5, hm4]; rfl
  have iw : IntKind.i64.wrap (IntKind.i32.wrap (decU [c0, c1, c2, c3, c4, c5, c6])) = IntKind.i32.wrap (decU [c0, c1, c2, c3, c4, c5, c6]) := by
    apply wrap_i64 <;> rw [IntKind.wrap_i32] <;> omega
  have ed : decI [c0, c1, c2, c3, c4, c5, c6] = ⟨c0, c1, c2, IntKind.i32.wrap (decU [c0, c1, c2, c3, c4, c5, c6])⟩ := rfl
  rw [ed]
  generalize decU [c0, c1, c2, c3, c4, c5, c6] = U at *
  rw [run_data, run_call, kp_code_inst]
  simp [k_code_inst, u8d]
  rw [run_round]
  simp [c_code_inst_L0, k_code_inst_L0b, b8, z0, u3, o3, z1]
  rw [run_round]
  simp [c_code_inst_L0, k_code_inst_L0b, b8, s4, u4, o4, z2]
  rw [run_round]
  simp [c_code_inst_L0, k_code_inst_L0b, b8, s5, u5, o5, z3]
  rw [run_round]
  simp [c_code_inst_L0, k_code_inst_L0b, b8, s6, u6, o6, z4]
  rw [run_round]
  simp [c_code_inst_L0, k_code_inst_L0b, i0, i1, i2, iw, Inst.d]
theorem eight {c : List Int} (h : 7 ≤ c.length) : ∃ c0 c1 c2 c3 c4 c5 c6 r, c = c0 :: c1 :: c2 :: c3 :: c4 :: c5 :: c6 :: r := by
  match c, h with
  | c0 :: c1 :: c2 :: c3 :: c4 :: c5 :: c6 :: r, _ => exact ⟨_, _, _, _, _, _, _, _, rfl⟩
def zI : Inst := ⟨0, 0, 0, 0⟩
set_option maxRecDepth 10000 in
set_option maxHeartbeats 16000000 in
theorem ref1_TakeInst {c : List Int} (h : 7 ≤ c.length) (hb : bytesOk c) (nl : Bool) : run kp (.data f_ref1_TakeInst [.sl nl (c.map u8d)]) = some (.ds (if mayF (decI (c.take 7)) = true then [(decI (c.take 7)).d, .bool true] else [zI.d, .bool false])) := by
  obtain ⟨c0, c1, c2, c3, c4, c5, c6, r, rfl⟩ := eight h
  have g0 := hb c0 (by simp)
  have g1 := hb c1 (by simp)
  have g2 := hb c2 (by simp)
  have g3 := hb c3 (by simp)
  have g4 := hb c4 (by simp)
  have g5 := hb c5 (by simp)
  have g6 := hb c6 (by simp)
  have u3 : IntKind.u32.wrap c3 = c3 := by rw [IntKind.wrap_u32]; omega
  have u4 : IntKind.u32.wrap c4 = c4 := by rw [IntKind.wrap_u32]; omega
  have u5 : IntKind.u32.wrap c5 = c5 := by rw [IntKind.wrap_u32]; omega
  have u6 : IntKind.u32.wrap c6 = c6 := by rw [IntKind.wrap_u32]; omega
  have i0 : IntKind.i64.wrap c0 = c0 := wrap_i64 (by omega) (by omega)
  have i1 : IntKind.i64.wrap c1 = c1 := wrap_i64 (by omega) (by omega)
  have i2 : IntKind.i64.wrap c2 = c2 := wrap_i64 (by omega) (by omega)
  have p3 : IntKind.u32.wrap (c3 * 16777216) = c3 * 16777216 := by rw [IntKind.wrap_u32]; omega
  have p4 : IntKind.u32.wrap (c4 * 65536) = c4 * 65536 := by rw [IntKind.wrap_u32]; omega
  have p5 : IntKind.u32.wrap (c5 * 256) = c5 * 256 := by rw [IntKind.wrap_u32]; omega
  have q4 : IntKind.u32.wrap (c3 * 16777216 + c4 * 65536) = c3 * 16777216 + c4 * 65536 := by rw [IntKind.wrap_u32]; omega
  have q5 : IntKind.u32.wrap (c3 * 16777216 + c4 * 65536 + c5 * 256) = c3 * 16777216 + c4 * 65536 + c5 * 256 := by rw [IntKind.wrap_u32]; omega
  have ed : decI (List.take 7 (c0 :: c1 :: c2 :: c3 :: c4 :: c5 :: c6 :: r)) = ⟨c0, c1, c2, IntKind.i32.wrap (c3 * 16777216 + c4 * 65536 + c5 * 256 + c6)⟩ := by
    show (⟨c0, c1, c2, IntKind.i32.wrap (((c3 * 256 + c4) * 256 + c5) * 256 + c6)⟩ : Inst) = _
    congr 2
    omega
  have q6 : IntKind.u32.wrap (c3 * 16777216 + c4 * 65536 + c5 * 256 + c6) = c3 * 16777216 + c4 * 65536 + c5 * 256 + c6 := by rw [IntKind.wrap_u32]; omega
  have iw : IntKind.i64.wrap (IntKind.i32.wrap (c3 * 16777216 + c4 * 65536 + c5 * 256 + c6)) = IntKind.i32.wrap (c3 * 16777216 + c4 * 65536 + c5 * 256 + c6) := by
    apply wrap_i64 <;> rw [IntKind.wrap_i32] <;> omega
  have my := ref1_MayInst ⟨c0, c1, c2, IntKind.i32.wrap (c3 * 16777216 + c4 * 65536 + c5 * 256 + c6)⟩
  have hr : ¬ ((r.length : Int) + 1 + 1 + 1 + 1 + 1 + 1 + 1 < 7) := by omega
  have hr2 : ¬ (r.length + 1 + 1 + 1 + 1 + 1 + 1 + 1 < 7) := by omega
  rw [ed]
  rw [run_data, run_call, kp_ref1_TakeInst]
  simp only [Inst.d] at my
  cases hm : mayF ⟨c0, c1, c2, IntKind.i32.wrap (c3 * 16777216 + c4 * 65536 + c5 * 256 + c6)⟩ with
  | true => simp [k_ref1_TakeInst, u8d, hr, hr2, u3, u4, u5, u6, i0, i1, i2, p3, p4, p5, q4, q5, q6, iw, my, hm, Inst.d, zI]
  | false => simp [k_ref1_TakeInst, u8d, hr, hr2, u3, u4, u5, u6, i0, i1, i2, p3, p4, p5, q4, q5, q6, iw, my, hm, Inst.d, zI]
theorem bytesOf_u8 : ∀ l : List Int, bytesOf (l.map u8d) = some (l.map fun n => UInt8.ofNat n.toNat)
  | [] => rfl
  | x :: l => by
    have ih := bytesOf_u8 l
    simp only [List.map_cons]
    show (match bytesOf (List.map u8d l) with | some m => some (UInt8.ofNat x.toNat :: m) | none => none) = _
    rw [ih]
theorem str_inj : ∀ (a b : List Int), bytesOk a → bytesOk b → (a.map (fun n => UInt8.ofNat n.toNat) = b.map (fun n => UInt8.ofNat n.toNat) ↔ a = b)
  | [], [], _, _ => by simp
  | [], y :: b, _, _ => by simp
  | x :: a, [], _, _ => by simp
  | x :: a, y :: b, ha, hb => by
    have h1 := ha x (by simp)
    have h2 := hb y (by simp)
    have ih := str_inj a b (fun z hz => ha z (by simp [hz])) (fun z hz => hb z (by simp [hz]))
    simp only [List.map_cons, List.cons.injEq, ih]
    constructor
    · rintro ⟨h, rfl⟩
      have := congrArg UInt8.toNat h
      simp at this
      exact ⟨by omega, rfl⟩
    · rintro ⟨rfl, rfl⟩
      exact ⟨rfl, rfl⟩
theorem bytes_Equal (a b : List Int) (ha : bytesOk a) (hb : bytesOk b) (n m : Bool) : run kp (.data f_bytes_Equal [.sl n (a.map u8d), .sl m (b.map u8d)]) = some (.ds [.bool (decide (a = b))]) := by
  have e := str_inj a b ha hb
  have e2 : decide (a.map (fun n => UInt8.ofNat n.toNat) = b.map (fun n => UInt8.ofNat n.toNat)) = decide (a = b) := by
    by_cases h : a = b
    · subst h; simp
    · have : ¬ (a.map (fun n => UInt8.ofNat n.toNat) = b.map (fun n => UInt8.ofNat n.toNat)) := fun k => h (e.1 k)
      simp only [h, this, decide_false]
  rw [run_data, run_call, kp_bytes_Equal]
  simp [k_bytes_Equal, bytesOf_u8, e2]
end Go.Cd
