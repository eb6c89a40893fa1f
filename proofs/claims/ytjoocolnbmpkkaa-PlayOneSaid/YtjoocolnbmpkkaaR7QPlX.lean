/- What is made of steps is read back; what is read may be said. Plain. -/
import Derived.Test.YtjoocolnbmpkkaaR7QPlW
set_option linter.unusedVariables false
set_option linter.unusedSimpArgs false
namespace Go.Cd
open Go Go.Fw
theorem wi64 (x : Int) : IntKind.i64.wrap x = (x + 9223372036854775808) % 18446744073709551616 - 9223372036854775808 := by
  have h : IntKind.i64.wrap x = if 9223372036854775808 ≤ x % 18446744073709551616 then x % 18446744073709551616 - 18446744073709551616 else x % 18446744073709551616 := by simp [IntKind.wrap, IntKind.bits, IntKind.signed]
  rw [h]
  split <;> omega
theorem wu32 (x : Int) : IntKind.u32.wrap x = x % 4294967296 := by simp [IntKind.wrap, IntKind.bits, IntKind.signed]
theorem w_n (y : Int) : IntKind.i64.wrap (u64w (IntKind.i64.wrap y) % 18446744073709551616) = IntKind.i64.wrap y := by
  unfold u64w
  simp only [wi64, wrap_u64_mod]
  omega
theorem w_m (y : Int) : IntKind.u32.wrap (u64w (IntKind.u32.wrap y) % 4294967296) = IntKind.u32.wrap y := by
  unfold u64w
  simp only [wu32, wrap_u64_mod]
  omega
theorem w_p {y : Int} (h : 0 ≤ y ∧ y < 4294967296) : IntKind.i64.wrap (u64w (IntKind.i64.wrap y) % 4294967296) = IntKind.i64.wrap y := by
  unfold u64w
  simp only [wi64, wrap_u64_mod]
  omega
theorem w_2 {y : Int} (h : 0 ≤ y ∧ y < 65536) : IntKind.i64.wrap (u64w (IntKind.i64.wrap y) % 65536) = IntKind.i64.wrap y := by
  unfold u64w
  simp only [wi64, wrap_u64_mod]
  omega
theorem w_b {y : Int} (h : 0 ≤ y ∧ y < 256) : u8w y = y := u8_id h
theorem be_two (v : Int) : be (beB 2 v) = v % 65536 := by
  simp [be, beB]
  omega
theorem be_four (v : Int) : be (beB 4 v) = v % 4294967296 := by
  simp [be, beB]
  omega
theorem be_eight (v : Int) : be (beB 8 v) = v % 18446744073709551616 := by
  simp [be, beB]
  omega
theorem rd_app (nl : Bool) (c t : List Int) (n : Nat) (h : c.length = n) : Rd.num ⟨nl, c ++ t, false⟩ n = be c ∧ Rd.drop ⟨nl, c ++ t, false⟩ n = ⟨nl, t, false⟩ := by
  subst h
  have := drop_fine (r := ⟨nl, c ++ t, false⟩) (n := c.length) rfl (by simp)
  rw [this.1, this.2]
  simp
theorem rn1 (nl : Bool) (x : Int) (c : List Int) : Rd.num ⟨nl, x :: c, false⟩ 1 = x := (num1_nl nl (x :: c) (by simp)).1
theorem rd1 (nl : Bool) (x : Int) (c : List Int) : Rd.drop ⟨nl, x :: c, false⟩ 1 = ⟨nl, c, false⟩ := (num1_nl nl (x :: c) (by simp)).2
theorem rn2 (nl : Bool) (v : Int) (c : List Int) : Rd.num ⟨nl, beB 2 v ++ c, false⟩ 2 = v % 65536 := by rw [(rd_app nl _ c 2 (beB_len 2 v)).1, be_two]
theorem rd2 (nl : Bool) (v : Int) (c : List Int) : Rd.drop ⟨nl, beB 2 v ++ c, false⟩ 2 = ⟨nl, c, false⟩ := (rd_app nl _ c 2 (beB_len 2 v)).2
theorem rn4 (nl : Bool) (v : Int) (c : List Int) : Rd.num ⟨nl, beB 4 v ++ c, false⟩ 4 = v % 4294967296 := by rw [(rd_app nl _ c 4 (beB_len 4 v)).1, be_four]
theorem rd4 (nl : Bool) (v : Int) (c : List Int) : Rd.drop ⟨nl, beB 4 v ++ c, false⟩ 4 = ⟨nl, c, false⟩ := (rd_app nl _ c 4 (beB_len 4 v)).2
theorem rn8 (nl : Bool) (v : Int) (c : List Int) : Rd.num ⟨nl, beB 8 v ++ c, false⟩ 8 = v % 18446744073709551616 := by rw [(rd_app nl _ c 8 (beB_len 8 v)).1, be_eight]
theorem rd8 (nl : Bool) (v : Int) (c : List Int) : Rd.drop ⟨nl, beB 8 v ++ c, false⟩ 8 = ⟨nl, c, false⟩ := (rd_app nl _ c 8 (beB_len 8 v)).2
def progOk (l : List Inst) : Prop := l.length < 256 ∧ l.all mayF = true
theorem pProg_put (nl : Bool) (t : List Int) : ∀ (l acc : List Inst), l.all mayF = true → pProg l.length ⟨nl, prTail l ++ t, false⟩ acc = (acc ++ l, ⟨nl, t, false⟩)
  | [], acc, _ => by simp [pProg, prTail]
  | i :: l, acc, h => by
    rw [List.all_cons, Bool.and_eq_true] at h
    have e : prTail (i :: l) ++ t = instB i ++ (prTail l ++ t) := by
      rw [prTail, prInst, if_pos h.1, List.append_assoc]
    have o : Rd.over ⟨nl, instB i ++ (prTail l ++ t), false⟩ 7 = false := by
      unfold Rd.over
      simp [instB_len]
    have tk : (instB i ++ (prTail l ++ t)).take 7 = instB i := by
      rw [List.take_append_of_le_length (by simp [instB_len])]
      exact List.take_of_length_le (by simp [instB_len])
    have dk : (instB i ++ (prTail l ++ t)).drop 7 = prTail l ++ t := by
      rw [← instB_len i, List.drop_left]
    rw [List.length_cons, e, pProg]
    simp only [Bool.false_eq_true, if_false, o, tk, dk, dec_inst h.1, h.1, if_true]
    rw [pProg_put nl t l (acc ++ [i]) h.2]
    simp
theorem pgR_put (nl : Bool) (t : List Int) {l : List Inst} (h : progOk l) : pgR ⟨nl, prB l ++ t, false⟩ = (l, ⟨nl, t, false⟩) := by
  have w : u8w (l.length : Int) = l.length := w_b ⟨by omega, by have := h.1; omega⟩
  unfold pgR
  have e : prB l ++ t = u8w (l.length : Int) :: (prTail l ++ t) := rfl
  rw [e, rn1, rd1, w, Int.toNat_natCast, pProg_put nl t l [] h.2]
  rfl
/-- A call, as it is when it has been made bytes and read. -/
def nCall (c : Cl) : Cl :=
  if c.kind = 1 then ⟨1, u8w c.rank, IntKind.i64.wrap (u64w c.period % 4294967296), IntKind.i64.wrap (u64w c.stop % 4294967296), rr c.main.2, rr c.way.2, rr c.opt.2, 0, 0, 0, 0, 0⟩
  else if c.kind = 6 then { Cl.zero 6 with a := u8w c.a, n := IntKind.i64.wrap (u64w c.n % 18446744073709551616) }
  else if c.kind = 7 then { Cl.zero 7 with at_ := u8w c.at_, gen := u8w c.gen, n := IntKind.i64.wrap (u64w c.n % 18446744073709551616) }
  else if c.kind = 8 then { Cl.zero 8 with at_ := u8w c.at_, gen := u8w c.gen, a := u8w c.a }
  else if c.kind = 9 then { Cl.zero 9 with at_ := u8w c.at_, gen := u8w c.gen, mask := IntKind.u32.wrap (u64w c.mask % 4294967296) }
  else if c.kind = 10 then { Cl.zero 10 with at_ := u8w c.at_, gen := u8w c.gen, a := u8w c.a, mask := IntKind.u32.wrap (u64w c.mask % 4294967296) }
  else if c.kind = 11 then { Cl.zero 11 with at_ := u8w c.at_, gen := u8w c.gen }
  else Cl.zero c.kind
def nStep (s : Sp) : Sp :=
  if s.kind = 4 then ⟨4, Cl.zero 0, u8w s.a, 0⟩
  else if s.kind = 5 then ⟨5, Cl.zero 0, 0, IntKind.i64.wrap (u64w s.n % 65536)⟩
  else if s.kind = 1 then ⟨1, nCall s.cl, 0, 0⟩
  else ⟨s.kind, Cl.zero 0, 0, 0⟩
def CGk (c : Cl) : Prop := 0 ≤ c.kind ∧ c.kind < 256 ∧ (c.kind = 1 → progOk c.main.2 ∧ progOk c.way.2 ∧ progOk c.opt.2)
def SGk (s : Sp) : Prop := 1 ≤ s.kind ∧ s.kind ≤ 5 ∧ (s.kind = 1 → CGk s.cl)
/-- May a step be said? -/
def SG (s : Sp) : Prop := SGk s ∧ skey (nStep s) = skey s
theorem pCall_put (nl : Bool) (t : List Int) {c : Cl} (h : CGk c) : pCall ⟨nl, callB c ++ t, false⟩ = (nCall c, ⟨nl, t, false⟩) := by
  have w : u8w c.kind = c.kind := w_b ⟨h.1, h.2.1⟩
  unfold callB
  rw [List.cons_append, w]
  unfold pCall
  simp only [rn1, rd1]
  unfold restB nCall hanB
  by_cases k1 : c.kind = 1
  · obtain ⟨p1, p2, p3⟩ := h.2.2 k1
    simp only [if_pos k1, List.cons_append, List.append_assoc, rn1, rd1, rn4, rd4, pgR_put nl _ p1, pgR_put nl _ p2, pgR_put nl _ p3]
    rw [k1]
  by_cases k6 : c.kind = 6
  · simp only [if_neg k1, if_pos k6, List.cons_append, List.append_assoc, List.nil_append, rn1, rd1, rn4, rd4, rn8, rd8]
    rw [k6]
  by_cases k7 : c.kind = 7
  · simp only [if_neg k1, if_neg k6, if_pos k7, List.cons_append, List.append_assoc, List.nil_append, rn1, rd1, rn4, rd4, rn8, rd8]
    rw [k7]
  by_cases k8 : c.kind = 8
  · simp only [if_neg k1, if_neg k6, if_neg k7, if_pos k8, List.cons_append, List.append_assoc, List.nil_append, rn1, rd1, rn4, rd4, rn8, rd8]
    rw [k8]
  by_cases k9 : c.kind = 9
  · simp only [if_neg k1, if_neg k6, if_neg k7, if_neg k8, if_pos k9, List.cons_append, List.append_assoc, List.nil_append, rn1, rd1, rn4, rd4, rn8, rd8]
    rw [k9]
  by_cases k10 : c.kind = 10
  · simp only [if_neg k1, if_neg k6, if_neg k7, if_neg k8, if_neg k9, if_pos k10, List.cons_append, List.append_assoc, List.nil_append, rn1, rd1, rn4, rd4, rn8, rd8]
    rw [k10]
  by_cases k11 : c.kind = 11
  · simp only [if_neg k1, if_neg k6, if_neg k7, if_neg k8, if_neg k9, if_neg k10, if_pos k11, List.cons_append, List.append_assoc, List.nil_append, rn1, rd1, rn4, rd4, rn8, rd8]
    rw [k11]
  simp only [if_neg k1, if_neg k6, if_neg k7, if_neg k8, if_neg k9, if_neg k10, if_neg k11, List.nil_append]
theorem pStep_put (nl : Bool) (t : List Int) {s : Sp} (h : SGk s) : pStep ⟨nl, stB s ++ t, false⟩ = (nStep s, ⟨nl, t, false⟩) := by
  obtain ⟨h1, h2, h3⟩ := h
  have w : u8w s.kind = s.kind := w_b ⟨by omega, by omega⟩
  have m : s.kind.tmod 6 = s.kind := by rw [Int.tmod_eq_emod_of_nonneg (by omega)]; omega
  unfold stB
  rw [List.cons_append, w]
  unfold pStep
  simp only [rn1, rd1, m]
  unfold nStep
  by_cases k4 : s.kind = 4
  · simp only [if_pos k4, List.cons_append, List.nil_append, rn1, rd1]
    rw [k4]
  by_cases k5 : s.kind = 5
  · simp only [if_neg k4, if_pos k5, rn2, rd2]
    rw [k5]
  by_cases k1 : s.kind = 1
  · simp only [if_neg k4, if_neg k5, if_pos k1, pCall_put nl t (h3 k1)]
    rw [k1]
  simp only [if_neg k4, if_neg k5, if_neg k1, List.nil_append]
end Go.Cd
