/- Step, the program's and the document's, does the same to any machine. No conditions. -/
import Derived.Test.YtgjeondicdipaaaR9QVmU
import Derived.Test.YtgjeondicdipaaaR9QVmV
import Derived.Test.YtgjeondicdipaaaR9QVmW
set_option linter.unusedVariables false
set_option linter.unusedSimpArgs false
namespace Go.Cd
open Go Go.Fw
def memOk (mem : List Int) : Prop := mem.length = 8 ∧ ∀ x ∈ mem, i64b x
theorem memOk_set {mem : List Int} {k : Nat} {v : Int} (h : memOk mem) (hv : i64b v) : memOk (mem.set k v) := by
  refine ⟨by simpa using h.1, fun x hx => ?_⟩
  rcases List.mem_or_eq_of_mem_set hx with hx | hx
  · exact h.2 x hx
  · subst hx; exact hv
theorem memOk_get {mem : List Int} (h : memOk mem) (a : Int) (ha : 0 ≤ a ∧ a < 8) : ∃ x, mem[a.toNat]? = some x ∧ i64b x := by
  have hl := h.1
  have hk : a.toNat < mem.length := by omega
  exact ⟨mem[a.toNat], List.getElem?_eq_getElem hk, h.2 _ (List.getElem_mem hk)⟩
def repsOk (l : List Rep) : Prop := ∀ x ∈ l, x.left ≤ 9223372036854775807
theorem gN_le (L : List Rep) (pc : Int) : ∀ n, (gN L pc n).2.1 ≤ n
  | 0 => Nat.le_refl _
  | n + 1 => by
    unfold gN
    split
    · split
      · split
        · simp
        · have := gN_le L pc n; omega
      · simp
    · simp
theorem repsN_ok (L : List Rep) (pc : Int) (h : repsOk L) : repsOk (repsN L (gN L pc L.length)) ∧ (repsN L (gN L pc L.length)).length ≤ L.length := by
  have hle := gN_le L pc L.length
  unfold repsN
  generalize gN L pc L.length = g at *
  split
  · split
    · rename_i x hx
      refine ⟨fun y hy => ?_, ?_⟩
      · rcases List.mem_append.1 hy with hy | hy
        · exact h y (List.mem_of_mem_take hy)
        · simp at hy; subst hy
          have := h x (List.mem_of_getElem? hx)
          simp only; omega
      · have hlt : g.2.1 - 1 < L.length := by
          by_cases hh : g.2.1 - 1 < L.length
          · exact hh
          · rw [List.getElem?_eq_none (by omega)] at hx; cases hx
        simp; omega
    · exact ⟨fun y hy => by simp at hy, by simp⟩
  · exact ⟨fun y hy => h y (List.mem_of_mem_take hy), by simp; omega⟩
theorem wrap_add (x y : Int) : IntKind.i64.wrap (IntKind.u64.wrap (IntKind.u64.wrap x + IntKind.u64.wrap y)) = IntKind.i64.wrap (x + y) := by
  rw [wrap_u64_mod, wrap_u64_mod, wrap_u64_mod, IntKind.wrap_i64, IntKind.wrap_i64]; omega
theorem wrap_sub (x y : Int) : IntKind.i64.wrap (IntKind.u64.wrap (IntKind.u64.wrap x - IntKind.u64.wrap y)) = IntKind.i64.wrap (x - y) := by
  rw [wrap_u64_mod, wrap_u64_mod, wrap_u64_mod, IntKind.wrap_i64, IntKind.wrap_i64]; omega
theorem wrap_mul (x y : Int) : IntKind.i64.wrap (IntKind.u64.wrap (IntKind.u64.wrap x * IntKind.u64.wrap y)) = IntKind.i64.wrap (x * y) := by
  rw [wrap_u64_mod, wrap_u64_mod, wrap_u64_mod, ← Int.mul_emod, IntKind.wrap_i64, IntKind.wrap_i64]
  generalize x * y = z
  omega
theorem nwV_b (v n : Int) (hv : i64b v) : i64b (nwV v n) := by
  unfold nwV
  split
  · exact hv
  · have r := nw_range v n.toNat (by omega)
    have p := two_le63 (n.toNat - 1) (by omega)
    unfold i64b; omega
theorem shV_b (v n : Int) (hv : i64b v) : i64b (shV v n) := by
  unfold shV
  split
  · exact hv
  · split
    · have p := two_pos (-n).toNat
      have a : v / 2 ^ (-n).toNat ≤ 9223372036854775807 := by
        rcases Int.le_total 0 v with h | h
        · exact Int.le_trans (Int.ediv_le_self _ h) (by unfold i64b at hv; omega)
        · have : v / 2 ^ (-n).toNat ≤ 0 := by
            have := Int.ediv_le_ediv p h
            simpa using this
          omega
      have b : -9223372036854775808 ≤ v / 2 ^ (-n).toNat := by
        rw [Int.le_ediv_iff_mul_le p]
        have : -9223372036854775808 * 2 ^ (-n).toNat ≤ -9223372036854775808 * 1 := Int.mul_le_mul_of_nonpos_left (by decide) (by omega)
        unfold i64b at hv
        omega
      exact ⟨b, by omega⟩
    · exact i64b_wrap _
/-- Where a machine is next. -/
def NextOk (l : List Inst) (pc : Int) (reps : List Rep) (over : Bool) (pc' : Int) (reps' : List Rep) (ok : Bool) : Prop :=
  (ok = false → noStep l pc over) ∧ (ok = true → ∃ (i : Inst) (P : Int) (L : List Rep), l[pc.toNat]? = some i ∧ 0 ≤ pc ∧ pc < l.length ∧ (P = pc + 1 ∧ i.op ≠ 0 ∨ i.op = 0 ∧ P = pc ∨ i.op = 7 ∧ P = pc + 1 + i.n) ∧ (L = reps ∨ ∃ r : Rep, L = reps ++ [r] ∧ r.first = pc + 1 ∧ i.op = 8) ∧ (pc' = P ∨ ∃ r ∈ L, pc' = r.first) ∧ ∀ r ∈ reps', ∃ r2 ∈ L, r.first = r2.first)
theorem gN_first (L : List Rep) (pc : Int) : ∀ n, (gN L pc n).1 = pc ∨ ∃ r ∈ L, (gN L pc n).1 = r.first
  | 0 => .inl rfl
  | n + 1 => by
    unfold gN
    split
    · rename_i r hr
      split
      · split
        · exact .inr ⟨r, List.mem_of_getElem? hr, rfl⟩
        · exact gN_first L pc n
      · exact .inl rfl
    · exact .inl rfl
theorem repsN_first (L : List Rep) (g : Int × Nat × Bool) : ∀ r ∈ repsN L g, ∃ r2 ∈ L, r.first = r2.first := by
  intro r hr
  unfold repsN at hr
  split at hr
  · split at hr
    · rename_i x hx
      rcases List.mem_append.1 hr with hr | hr
      · exact ⟨r, List.mem_of_mem_take hr, rfl⟩
      · simp at hr; subst hr
        exact ⟨x, List.mem_of_getElem? hx, rfl⟩
    · simp at hr
  · exact ⟨r, List.mem_of_mem_take hr, rfl⟩
def Both (l : List Inst) (nl : Bool) (pc : Int) (mem : List Int) (rn : Bool) (reps : List Rep) (over : Bool) : Prop :=
  ∃ (pc' : Int) (mem' : List Int) (rn' : Bool) (reps' : List Rep) (over' : Bool) (i : Inst) (ok : Bool),
    run kp (.data f_vm_Step [.sl nl (l.map Inst.d), mD pc mem rn reps over]) = some (.ds [mD pc' mem' rn' reps' over', i.d, .bool ok]) ∧
    run kp (.data f_ref1_Step [.sl nl (l.map Inst.d), mD pc mem false reps over]) = some (.ds [mD pc' mem' false reps' over', i.d, .bool ok]) ∧
    run kp (.data f_ref1_Step [.sl nl (l.map Inst.d), mD pc mem rn reps over]) = some (.ds [mD pc' mem' false reps' over', i.d, .bool ok]) ∧
    memOk mem' ∧ repsOk reps' ∧ reps'.length ≤ reps.length + 1 ∧ (rn' = true → reps' = []) ∧ (ok = false → over' = over) ∧ NextOk l pc reps over pc' reps' ok
theorem both_of {l : List Inst} {nl : Bool} {pc : Int} {mem : List Int} {rn : Bool} {reps : List Rep} {over : Bool} (P : Int) (M : List Int) (rn' : Bool) (L : List Rep) (O : Bool) (i : Inst)
    (h1 : run kp (.data f_vm_Step [.sl nl (l.map Inst.d), mD pc mem rn reps over]) = some (.ds [outD P M rn' L O, i.d, .bool true]))
    (h2 : run kp (.data f_ref1_Step [.sl nl (l.map Inst.d), mD pc mem false reps over]) = some (.ds [outD P M false L O, i.d, .bool true]))
    (h3 : run kp (.data f_ref1_Step [.sl nl (l.map Inst.d), mD pc mem rn reps over]) = some (.ds [outD P M false L O, i.d, .bool true]))
    (hM : memOk M) (hL : repsOk L) (hn : L.length ≤ reps.length + 1) (hr : rn' = true → L = []) (hi : l[pc.toNat]? = some i) (h0 : 0 ≤ pc) (hp : pc < l.length) (hP : P = pc + 1 ∧ i.op ≠ 0 ∨ i.op = 0 ∧ P = pc ∨ i.op = 7 ∧ P = pc + 1 + i.n) (hX : L = reps ∨ ∃ r : Rep, L = reps ++ [r] ∧ r.first = pc + 1 ∧ i.op = 8) : Both l nl pc mem rn reps over := by
  have r := repsN_ok L P hL
  refine ⟨_, M, rn', _, O, i, true, h1, h2, h3, hM, r.1, by omega, fun e => ?_, fun e => (by cases e), fun e => (by cases e), fun _ => ⟨i, P, L, hi, h0, hp, hP, hX, gN_first L P L.length, repsN_first L _⟩⟩
  have := hr e
  subst this
  exact List.eq_nil_of_length_eq_zero (by simpa using r.2)
set_option maxHeartbeats 4000000 in
theorem step_both (l : List Inst) (nl : Bool) (hl : l.length ≤ 100000) (pc : Int) (mem : List Int) (hm : memOk mem) (rn : Bool) (reps : List Rep) (hn : rn = true → reps = []) (hLL : reps.length ≤ 90000) (hlf : repsOk reps) (over : Bool) : Both l nl pc mem rn reps over := by
  by_cases hno : noStep l pc over
  · exact ⟨pc, mem, rn, reps, over, ⟨0, 0, 0, 0⟩, false, vm_no l nl pc mem rn reps hn (by omega) over hno, ref1_no l nl pc mem false reps (by simp) (by omega) over hno, ref1_no l nl pc mem rn reps hn (by omega) over hno, hm, hlf, by omega, hn, fun _ => rfl, fun _ => hno, fun e => by cases e⟩
  have ho : over = false := by
    cases over
    · rfl
    · exact absurd (.inl rfl) hno
  subst ho
  have h0 : 0 ≤ pc := by
    by_cases h : 0 ≤ pc
    · exact h
    · exact absurd (.inr (.inl (by omega))) hno
  have hp : pc < l.length := by
    by_cases h : pc < l.length
    · exact h
    · exact absurd (.inr (.inr (.inl (by omega)))) hno
  obtain ⟨i, hi⟩ : ∃ i, l[pc.toNat]? = some i := ⟨_, List.getElem?_eq_getElem (by omega : pc.toNat < l.length)⟩
  have hmay : mayF i = true := by
    cases h : mayF i
    · exact absurd (.inr (.inr (.inr ⟨i, h0, hi, h⟩))) hno
    · rfl
  have hf : (false : Bool) = true → reps = [] := fun e => by cases e
  have hLL2 : reps.length ≤ 100000 := by omega
  have key : (i.op = 0 ∨ i.op = 1 ∨ i.op = 2 ∨ i.op = 3 ∨ i.op = 4 ∨ i.op = 5 ∨ i.op = 6 ∨ i.op = 7 ∨ i.op = 8 ∨ i.op = 9 ∨ i.op = 10 ∨ i.op = 11) := by
    unfold mayF at hmay
    by_cases k : (i.op = 0 ∨ i.op = 1 ∨ i.op = 2 ∨ i.op = 3 ∨ i.op = 4 ∨ i.op = 5 ∨ i.op = 6 ∨ i.op = 7 ∨ i.op = 8 ∨ i.op = 9 ∨ i.op = 10 ∨ i.op = 11)
    · exact k
    · simp only [not_or] at k
      simp [k] at hmay
  have hab : (0 ≤ i.a ∧ i.a < 8) ∧ (0 ≤ i.b ∧ i.b ≤ 24) := by
    unfold mayF at hmay
    rcases key with h | h | h | h | h | h | h | h | h | h | h | h <;> simp [h, memB, withB] at hmay <;> omega
  obtain ⟨ha, hb⟩ := hab
  have eb : i.b.tmod 8 = i.b % 8 := Int.tmod_eq_emod_of_nonneg hb.1
  have hb8 : 0 ≤ i.b.tmod 8 ∧ i.b.tmod 8 < 8 := by rw [eb]; omega
  obtain ⟨x, hx, hxb⟩ := memOk_get hm i.a ha
  obtain ⟨y, hy, hyb⟩ := memOk_get hm (i.b.tmod 8) hb8
  have mk := hm.1
  rcases key with h | h | h | h | h | h | h | h | h | h | h | h
  · exact both_of _ _ _ _ _ i (step_0 l nl hl pc mem rn reps hn hLL2 hlf h0 hp i hi mk hmay x hx y hy ha hb8 h) (rstep_0 l nl hl pc mem false reps hf hLL2 hlf h0 hp i hi mk hmay h) (rstep_0 l nl hl pc mem rn reps hn hLL2 hlf h0 hp i hi mk hmay h) hm hlf (by omega) hn hi h0 hp (by simp [h]) (.inl rfl)
  · have hnb : i64b i.n := by
      unfold mayF at hmay
      simp [h, memB, withB] at hmay
      unfold i64b; omega
    exact both_of _ _ _ _ _ i (step_1 l nl hl pc mem rn reps hn hLL2 hlf h0 hp i hi mk hmay x hx y hy ha hb8 h) (rstep_1 l nl hl pc mem false reps hf hLL2 hlf h0 hp i hi mk hmay h x hx ha) (rstep_1 l nl hl pc mem rn reps hn hLL2 hlf h0 hp i hi mk hmay h x hx ha) (memOk_set hm hnb) hlf (by omega) hn hi h0 hp (by simp [h]) (.inl rfl)
  · have hbm : i.b < 8 := by
      unfold mayF at hmay
      simp [h, memB, withB] at hmay
      omega
    have e8 : i.b.tmod 8 = i.b := by rw [eb]; omega
    have hy' : mem[i.b.toNat]? = some y := by rw [← e8]; exact hy
    have s := step_2 l nl hl pc mem rn reps hn hLL2 hlf h0 hp i hi mk hmay x hx y hy ha hb8 h
    rw [wrap_add] at s
    exact both_of _ _ _ _ _ i s (rstep_2 l nl hl pc mem false reps hf hLL2 hlf h0 hp i hi mk hmay h x hx ha y hy' ⟨hb.1, hbm⟩) (rstep_2 l nl hl pc mem rn reps hn hLL2 hlf h0 hp i hi mk hmay h x hx ha y hy' ⟨hb.1, hbm⟩) (memOk_set hm (i64b_wrap _)) hlf (by omega) hn hi h0 hp (by simp [h]) (.inl rfl)
  · have hbm : i.b < 8 := by
      unfold mayF at hmay
      simp [h, memB, withB] at hmay
      omega
    have e8 : i.b.tmod 8 = i.b := by rw [eb]; omega
    have hy' : mem[i.b.toNat]? = some y := by rw [← e8]; exact hy
    have s := step_3 l nl hl pc mem rn reps hn hLL2 hlf h0 hp i hi mk hmay x hx y hy ha hb8 h
    rw [wrap_sub] at s
    exact both_of _ _ _ _ _ i s (rstep_3 l nl hl pc mem false reps hf hLL2 hlf h0 hp i hi mk hmay h x hx ha y hy' ⟨hb.1, hbm⟩) (rstep_3 l nl hl pc mem rn reps hn hLL2 hlf h0 hp i hi mk hmay h x hx ha y hy' ⟨hb.1, hbm⟩) (memOk_set hm (i64b_wrap _)) hlf (by omega) hn hi h0 hp (by simp [h]) (.inl rfl)
  · have hbm : i.b < 8 := by
      unfold mayF at hmay
      simp [h, memB, withB] at hmay
      omega
    have e8 : i.b.tmod 8 = i.b := by rw [eb]; omega
    have hy' : mem[i.b.toNat]? = some y := by rw [← e8]; exact hy
    have s := step_4 l nl hl pc mem rn reps hn hLL2 hlf h0 hp i hi mk hmay x hx y hy ha hb8 h
    rw [wrap_mul] at s
    exact both_of _ _ _ _ _ i s (rstep_4 l nl hl pc mem false reps hf hLL2 hlf h0 hp i hi mk hmay h x hx ha y hy' ⟨hb.1, hbm⟩) (rstep_4 l nl hl pc mem rn reps hn hLL2 hlf h0 hp i hi mk hmay h x hx ha y hy' ⟨hb.1, hbm⟩) (memOk_set hm (i64b_wrap _)) hlf (by omega) hn hi h0 hp (by simp [h]) (.inl rfl)
  · exact both_of _ _ _ _ _ i (step_5 l nl hl pc mem rn reps hn hLL2 hlf h0 hp i hi mk hmay x hx y hy ha hb8 h _ (vm_ShiftA x i.n hxb)) (rstep_5 l nl hl pc mem false reps hf hLL2 hlf h0 hp i hi mk hmay h x hx ha _ (ref1_ShiftA x i.n hxb)) (rstep_5 l nl hl pc mem rn reps hn hLL2 hlf h0 hp i hi mk hmay h x hx ha _ (ref1_ShiftA x i.n hxb)) (memOk_set hm (shV_b _ _ hxb)) hlf (by omega) hn hi h0 hp (by simp [h]) (.inl rfl)
  · exact both_of _ _ _ _ _ i (step_6 l nl hl pc mem rn reps hn hLL2 hlf h0 hp i hi mk hmay x hx y hy ha hb8 h _ (vm_NarrowA x i.n hxb)) (rstep_6 l nl hl pc mem false reps hf hLL2 hlf h0 hp i hi mk hmay h x hx ha _ (ref1_NarrowA x i.n)) (rstep_6 l nl hl pc mem rn reps hn hLL2 hlf h0 hp i hi mk hmay h x hx ha _ (ref1_NarrowA x i.n)) (memOk_set hm (nwV_b _ _ hxb)) hlf (by omega) hn hi h0 hp (by simp [h]) (.inl rfl)
  · have hn24 : 1 ≤ i.n ∧ i.n ≤ 24 := by
      unfold mayF at hmay
      simp [h, memB, withB] at hmay
      omega
    exact both_of _ _ _ _ _ i (step_7 l nl hl pc mem rn reps hn hLL2 hlf h0 hp i hi mk hmay x hx y hy ha hb8 h hn24) (rstep_7 l nl hl pc mem false reps hf hLL2 hlf h0 hp i hi mk hmay h x hx ha hn24) (rstep_7 l nl hl pc mem rn reps hn hLL2 hlf h0 hp i hi mk hmay h x hx ha hn24) hm hlf (by omega) hn hi h0 hp (by split <;> simp [h]) (.inl rfl)
  · have hbn : (1 ≤ i.b ∧ i.b ≤ 24) ∧ (1 ≤ i.n ∧ i.n ≤ 20) := by
      unfold mayF at hmay
      simp [h, memB, withB] at hmay
      omega
    refine both_of _ _ _ _ _ i (step_8 l nl hl pc mem rn reps hn hLL hlf h0 hp i hi mk hmay x hx y hy ha hb8 h hbn.1 hbn.2) (rstep_8 l nl hl pc mem false reps hf hLL hlf h0 hp i hi mk hmay h hbn.1 hbn.2) (rstep_8 l nl hl pc mem rn reps hn hLL hlf h0 hp i hi mk hmay h hbn.1 hbn.2) hm ?_ (by simp) (by simp) hi h0 hp (by simp [h]) (.inr ⟨_, rfl, rfl, h⟩)
    intro z hz
    rcases List.mem_append.1 hz with hz | hz
    · exact hlf z hz
    · simp at hz; subst hz; simp only; omega
  · exact both_of _ _ _ _ _ i (step_9 l nl hl pc mem rn reps hn hLL2 hlf h0 hp i hi mk hmay x hx y hy ha hb8 h) (rstep_9 l nl hl pc mem false reps hf hLL2 hlf h0 hp i hi mk hmay h) (rstep_9 l nl hl pc mem rn reps hn hLL2 hlf h0 hp i hi mk hmay h) hm hlf (by omega) hn hi h0 hp (by simp [h]) (.inl rfl)
  · exact both_of _ _ _ _ _ i (step_10 l nl hl pc mem rn reps hn hLL2 hlf h0 hp i hi mk hmay x hx y hy ha hb8 h) (rstep_10 l nl hl pc mem false reps hf hLL2 hlf h0 hp i hi mk hmay h) (rstep_10 l nl hl pc mem rn reps hn hLL2 hlf h0 hp i hi mk hmay h) hm hlf (by omega) hn hi h0 hp (by simp [h]) (.inl rfl)
  · exact both_of _ _ _ _ _ i (step_11 l nl hl pc mem rn reps hn hLL2 hlf h0 hp i hi mk hmay x hx y hy ha hb8 h) (rstep_11 l nl hl pc mem false reps hf hLL2 hlf h0 hp i hi mk hmay h) (rstep_11 l nl hl pc mem rn reps hn hLL2 hlf h0 hp i hi mk hmay h) hm hlf (by omega) hn hi h0 hp (by simp [h]) (.inl rfl)
end Go.Cd
