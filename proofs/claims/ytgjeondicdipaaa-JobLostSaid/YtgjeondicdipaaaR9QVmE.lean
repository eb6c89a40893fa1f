/- What a step does to a machine, as a function. No conditions. -/
import Derived.Test.YtgjeondicdipaaaR9QVmX
set_option linter.unusedVariables false
set_option linter.unusedSimpArgs false
namespace Go.Cd
open Go Go.Fw
def aluP (i : Inst) (pc : Int) (mem : List Int) : Int := if i.op = 0 then pc else if i.op = 7 then (if (mem[i.a.toNat]?).getD 0 = 0 then pc + 1 + i.n else pc + 1) else pc + 1
def aluM (i : Inst) (mem : List Int) : List Int :=
  let x := (mem[i.a.toNat]?).getD 0
  let y := (mem[i.b.toNat]?).getD 0
  if i.op = 1 then mem.set i.a.toNat i.n
  else if i.op = 2 then mem.set i.a.toNat (IntKind.i64.wrap (x + y))
  else if i.op = 3 then mem.set i.a.toNat (IntKind.i64.wrap (x - y))
  else if i.op = 4 then mem.set i.a.toNat (IntKind.i64.wrap (x * y))
  else if i.op = 5 then mem.set i.a.toNat (shV x i.n)
  else if i.op = 6 then mem.set i.a.toNat (nwV x i.n)
  else mem
def aluL (i : Inst) (pc : Int) (reps : List Rep) : List Rep := if i.op = 8 then reps ++ [⟨pc + 1, pc + i.b, i.n - 1⟩] else reps
def exP (i : Inst) (pc : Int) (mem : List Int) (reps : List Rep) : Int := (gN (aluL i pc reps) (aluP i pc mem) (aluL i pc reps).length).1
def exR (i : Inst) (pc : Int) (mem : List Int) (reps : List Rep) : List Rep := repsN (aluL i pc reps) (gN (aluL i pc reps) (aluP i pc mem) (aluL i pc reps).length)
structure ExD (l : List Inst) (nl : Bool) (pc : Int) (mem : List Int) (rn : Bool) (reps : List Rep) (i : Inst) (rn' : Bool) : Prop where
  vm : run kp (.data f_vm_Step [.sl nl (l.map Inst.d), mD pc mem rn reps false]) = some (.ds [mD (exP i pc mem reps) (aluM i mem) rn' (exR i pc mem reps) (decide (i.op = 0)), i.d, .bool true])
  rf : run kp (.data f_ref1_Step [.sl nl (l.map Inst.d), mD pc mem rn reps false]) = some (.ds [mD (exP i pc mem reps) (aluM i mem) false (exR i pc mem reps) (decide (i.op = 0)), i.d, .bool true])
  okm : memOk (aluM i mem)
  left : repsOk (exR i pc mem reps)
  len : (exR i pc mem reps).length ≤ reps.length + 1
  nil : rn' = true → exR i pc mem reps = []
theorem ex_of {l : List Inst} {nl : Bool} {pc : Int} {mem : List Int} {rn : Bool} {reps : List Rep} (P : Int) (M : List Int) (rn' : Bool) (L : List Rep) (O : Bool) (i : Inst)
    (h1 : run kp (.data f_vm_Step [.sl nl (l.map Inst.d), mD pc mem rn reps false]) = some (.ds [outD P M rn' L O, i.d, .bool true]))
    (h3 : run kp (.data f_ref1_Step [.sl nl (l.map Inst.d), mD pc mem rn reps false]) = some (.ds [outD P M false L O, i.d, .bool true]))
    (hM : memOk M) (hL : repsOk L) (hn : L.length ≤ reps.length + 1) (hr : rn' = true → L = [])
    (eP : aluP i pc mem = P) (eM : aluM i mem = M) (eL : aluL i pc reps = L) (eO : decide (i.op = 0) = O) : ∃ rn', ExD l nl pc mem rn reps i rn' := by
  have r := repsN_ok L P hL
  subst eP eM eL eO
  refine ⟨rn', h1, h3, hM, r.1, ?_, fun e => ?_⟩
  · have := r.2; unfold exR; omega
  · have := hr e
    refine List.eq_nil_of_length_eq_zero ?_
    have h := r.2
    rw [this] at h
    unfold exR
    rw [this]
    simpa using h
set_option maxHeartbeats 4000000 in
theorem step_ex (l : List Inst) (nl : Bool) (hl : l.length ≤ 100000) (pc : Int) (mem : List Int) (hm : memOk mem) (rn : Bool) (reps : List Rep) (hn : rn = true → reps = []) (hLL : reps.length ≤ 90000) (hlf : repsOk reps) (h0 : 0 ≤ pc) (hp : pc < l.length) (i : Inst) (hi : l[pc.toNat]? = some i) (hmay : mayF i = true) : ∃ rn', ExD l nl pc mem rn reps i rn' := by
  have hf : (false : Bool) = true → reps = [] := fun e => by cases e
  have hLL2 : reps.length ≤ 100000 := by omega
  have key : (i.op = 0 ∨ i.op = 1 ∨ i.op = 2 ∨ i.op = 3 ∨ i.op = 4 ∨ i.op = 5 ∨ i.op = 6 ∨ i.op = 7 ∨ i.op = 8 ∨ i.op = 9 ∨ i.op = 10 ∨ i.op = 11) := by
    unfold mayF at hmay
    by_cases k : (i.op = 0 ∨ i.op = 1 ∨ i.op = 2 ∨ i.op = 3 ∨ i.op = 4 ∨ i.op = 5 ∨ i.op = 6 ∨ i.op = 7 ∨ i.op = 8 ∨ i.op = 9 ∨ i.op = 10 ∨ i.op = 11)
    · exact k
    · simp only [not_or] at k
      simp [k] at hmay
  have hab : (0 ≤ i.a ∧ i.a < 8) ∧ (0 ≤ i.b ∧ i.b ≤ 24) := by
    unfold mayF at hmay
    rcases key with h | h | h | h | h | h | h | h | h | h | h | h <;> simp [h, memB, withB] at hmay <;> omega
  obtain ⟨ha, hb⟩ := hab
  have eb : i.b.tmod 8 = i.b % 8 := Int.tmod_eq_emod_of_nonneg hb.1
  have hb8 : 0 ≤ i.b.tmod 8 ∧ i.b.tmod 8 < 8 := by rw [eb]; omega
  obtain ⟨x, hx, hxb⟩ := memOk_get hm i.a ha
  obtain ⟨y, hy, hyb⟩ := memOk_get hm (i.b.tmod 8) hb8
  have mk := hm.1
  rcases key with h | h | h | h | h | h | h | h | h | h | h | h
  · exact ex_of _ _ _ _ _ i (step_0 l nl hl pc mem rn reps hn hLL2 hlf h0 hp i hi mk hmay x hx y hy ha hb8 h) (rstep_0 l nl hl pc mem rn reps hn hLL2 hlf h0 hp i hi mk hmay h) hm hlf (by omega) hn (by simp [aluP, h, hx]) (by simp [aluM, h, hx, hx]) (by simp [aluL, h]) (by simp [h])
  · have hnb : i64b i.n := by
      unfold mayF at hmay
      simp [h, memB, withB] at hmay
      unfold i64b; omega
    exact ex_of _ _ _ _ _ i (step_1 l nl hl pc mem rn reps hn hLL2 hlf h0 hp i hi mk hmay x hx y hy ha hb8 h) (rstep_1 l nl hl pc mem rn reps hn hLL2 hlf h0 hp i hi mk hmay h x hx ha) (memOk_set hm hnb) hlf (by omega) hn (by simp [aluP, h, hx]) (by simp [aluM, h, hx, hx]) (by simp [aluL, h]) (by simp [h])
  · have hbm : i.b < 8 := by
      unfold mayF at hmay
      simp [h, memB, withB] at hmay
      omega
    have e8 : i.b.tmod 8 = i.b := by rw [eb]; omega
    have hy' : mem[i.b.toNat]? = some y := by rw [← e8]; exact hy
    have s := step_2 l nl hl pc mem rn reps hn hLL2 hlf h0 hp i hi mk hmay x hx y hy ha hb8 h
    rw [wrap_add] at s
    exact ex_of _ _ _ _ _ i s (rstep_2 l nl hl pc mem rn reps hn hLL2 hlf h0 hp i hi mk hmay h x hx ha y hy' ⟨hb.1, hbm⟩) (memOk_set hm (i64b_wrap _)) hlf (by omega) hn (by simp [aluP, h, hx]) (by simp [aluM, h, hx, hy']) (by simp [aluL, h]) (by simp [h])
  · have hbm : i.b < 8 := by
      unfold mayF at hmay
      simp [h, memB, withB] at hmay
      omega
    have e8 : i.b.tmod 8 = i.b := by rw [eb]; omega
    have hy' : mem[i.b.toNat]? = some y := by rw [← e8]; exact hy
    have s := step_3 l nl hl pc mem rn reps hn hLL2 hlf h0 hp i hi mk hmay x hx y hy ha hb8 h
    rw [wrap_sub] at s
    exact ex_of _ _ _ _ _ i s (rstep_3 l nl hl pc mem rn reps hn hLL2 hlf h0 hp i hi mk hmay h x hx ha y hy' ⟨hb.1, hbm⟩) (memOk_set hm (i64b_wrap _)) hlf (by omega) hn (by simp [aluP, h, hx]) (by simp [aluM, h, hx, hy']) (by simp [aluL, h]) (by simp [h])
  · have hbm : i.b < 8 := by
      unfold mayF at hmay
      simp [h, memB, withB] at hmay
      omega
    have e8 : i.b.tmod 8 = i.b := by rw [eb]; omega
    have hy' : mem[i.b.toNat]? = some y := by rw [← e8]; exact hy
    have s := step_4 l nl hl pc mem rn reps hn hLL2 hlf h0 hp i hi mk hmay x hx y hy ha hb8 h
    rw [wrap_mul] at s
    exact ex_of _ _ _ _ _ i s (rstep_4 l nl hl pc mem rn reps hn hLL2 hlf h0 hp i hi mk hmay h x hx ha y hy' ⟨hb.1, hbm⟩) (memOk_set hm (i64b_wrap _)) hlf (by omega) hn (by simp [aluP, h, hx]) (by simp [aluM, h, hx, hy']) (by simp [aluL, h]) (by simp [h])
  · exact ex_of _ _ _ _ _ i (step_5 l nl hl pc mem rn reps hn hLL2 hlf h0 hp i hi mk hmay x hx y hy ha hb8 h _ (vm_ShiftA x i.n hxb)) (rstep_5 l nl hl pc mem rn reps hn hLL2 hlf h0 hp i hi mk hmay h x hx ha _ (ref1_ShiftA x i.n hxb)) (memOk_set hm (shV_b _ _ hxb)) hlf (by omega) hn (by simp [aluP, h, hx]) (by simp [aluM, h, hx, hx]) (by simp [aluL, h]) (by simp [h])
  · exact ex_of _ _ _ _ _ i (step_6 l nl hl pc mem rn reps hn hLL2 hlf h0 hp i hi mk hmay x hx y hy ha hb8 h _ (vm_NarrowA x i.n hxb)) (rstep_6 l nl hl pc mem rn reps hn hLL2 hlf h0 hp i hi mk hmay h x hx ha _ (ref1_NarrowA x i.n)) (memOk_set hm (nwV_b _ _ hxb)) hlf (by omega) hn (by simp [aluP, h, hx]) (by simp [aluM, h, hx, hx]) (by simp [aluL, h]) (by simp [h])
  · have hn24 : 1 ≤ i.n ∧ i.n ≤ 24 := by
      unfold mayF at hmay
      simp [h, memB, withB] at hmay
      omega
    exact ex_of _ _ _ _ _ i (step_7 l nl hl pc mem rn reps hn hLL2 hlf h0 hp i hi mk hmay x hx y hy ha hb8 h hn24) (rstep_7 l nl hl pc mem rn reps hn hLL2 hlf h0 hp i hi mk hmay h x hx ha hn24) hm hlf (by omega) hn (by simp [aluP, h, hx]) (by simp [aluM, h, hx, hx]) (by simp [aluL, h]) (by simp [h])
  · have hbn : (1 ≤ i.b ∧ i.b ≤ 24) ∧ (1 ≤ i.n ∧ i.n ≤ 20) := by
      unfold mayF at hmay
      simp [h, memB, withB] at hmay
      omega
    refine ex_of _ _ _ _ _ i (step_8 l nl hl pc mem rn reps hn hLL hlf h0 hp i hi mk hmay x hx y hy ha hb8 h hbn.1 hbn.2) (rstep_8 l nl hl pc mem rn reps hn hLL hlf h0 hp i hi mk hmay h hbn.1 hbn.2) hm ?_ (by simp) (by simp) (by simp [aluP, h, hx]) (by simp [aluM, h, hx, hx]) (by simp [aluL, h]) (by simp [h])
    intro z hz
    rcases List.mem_append.1 hz with hz | hz
    · exact hlf z hz
    · simp at hz; subst hz; simp only; omega
  · exact ex_of _ _ _ _ _ i (step_9 l nl hl pc mem rn reps hn hLL2 hlf h0 hp i hi mk hmay x hx y hy ha hb8 h) (rstep_9 l nl hl pc mem rn reps hn hLL2 hlf h0 hp i hi mk hmay h) hm hlf (by omega) hn (by simp [aluP, h, hx]) (by simp [aluM, h, hx, hx]) (by simp [aluL, h]) (by simp [h])
  · exact ex_of _ _ _ _ _ i (step_10 l nl hl pc mem rn reps hn hLL2 hlf h0 hp i hi mk hmay x hx y hy ha hb8 h) (rstep_10 l nl hl pc mem rn reps hn hLL2 hlf h0 hp i hi mk hmay h) hm hlf (by omega) hn (by simp [aluP, h, hx]) (by simp [aluM, h, hx, hx]) (by simp [aluL, h]) (by simp [h])
  · exact ex_of _ _ _ _ _ i (step_11 l nl hl pc mem rn reps hn hLL2 hlf h0 hp i hi mk hmay x hx y hy ha hb8 h) (rstep_11 l nl hl pc mem rn reps hn hLL2 hlf h0 hp i hi mk hmay h) hm hlf (by omega) hn (by simp [aluP, h, hx]) (by simp [aluM, h, hx, hx]) (by simp [aluL, h]) (by simp [h])
end Go.Cd
