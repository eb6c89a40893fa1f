/- What Step does with Rep, and with any instruction. No conditions. -/
import Derived.Test.YtgjeondicdipaaaR9QVmT
set_option linter.unusedVariables false
set_option linter.unusedSimpArgs false
namespace Go.Cd
open Go Go.Fw
set_option maxRecDepth 10000 in
set_option maxHeartbeats 16000000 in
theorem step_8 (l : List Inst) (nl : Bool) (hl : l.length ≤ 100000) (pc : Int) (mem : List Int) (rn : Bool) (reps : List Rep) (hn : rn = true → reps = []) (hLL0 : reps.length ≤ 90000) (hlf0 : ∀ x ∈ reps, x.left ≤ 9223372036854775807) (h0 : 0 ≤ pc) (hp : pc < l.length) (i : Inst) (hi : l[pc.toNat]? = some i) (hm : mem.length = 8) (hmay : mayF i = true) (x : Int) (hx : mem[i.a.toNat]? = some x) (y : Int) (hy : mem[(i.b.tmod 8).toNat]? = some y) (ha : 0 ≤ i.a ∧ i.a < 8) (hb : 0 ≤ i.b.tmod 8 ∧ i.b.tmod 8 < 8) (hop : i.op = 8) (hbb : 1 ≤ i.b ∧ i.b ≤ 24) (hnn : 1 ≤ i.n ∧ i.n ≤ 20) :
    run kp (.data f_vm_Step [.sl nl (l.map Inst.d), mD pc mem rn reps false]) = some (.ds [outD (pc + 1) mem false (reps ++ [⟨pc + 1, pc + i.b, i.n - 1⟩]) false, i.d, .bool true]) := by
  obtain ⟨op, a, b, n⟩ := i
  simp only at *
  subst hop
  have hi2 : ∀ hh : pc.toNat < l.length, l[pc.toNat] = ⟨8, a, b, n⟩ := fun hh => by rw [List.getElem?_eq_getElem hh] at hi; injection hi
  have hx2 : ∀ hh : a.toNat < mem.length, mem[a.toNat] = x := fun hh => by rw [List.getElem?_eq_getElem hh] at hx; injection hx
  have hy2 : ∀ hh : (b.tmod 8).toNat < mem.length, mem[(b.tmod 8).toNat] = y := fun hh => by rw [List.getElem?_eq_getElem hh] at hy; injection hy
  have ha2 : a.toNat < 8 := by omega
  have cm := code_May ⟨8, a, b, n⟩
  rw [hmay] at cm
  simp only [Inst.d] at cm
  have tw := vm_twin pc mem rn reps false hn (by omega)
  simp only [mD] at tw
  have hpl : ¬ (l.length : Int) ≤ pc := by omega
  have hp0 : ¬ pc < 0 := by omega
  have hpn : pc.toNat < l.length := by omega
  have wp : IntKind.i64.wrap (pc + 1) = pc + 1 := wrap_i64 (by omega) (by omega)
  have wb : IntKind.i64.wrap (pc + b) = pc + b := wrap_i64 (by omega) (by omega)
  have wn : IntKind.i64.wrap (n - 1) = n - 1 := wrap_i64 (by omega) (by omega)
  have hrl : reps.length ≤ 1073741823 := by omega
  rw [run_data, run_call, kp_vm_Step]
  cases rn with
  | true =>
    have := hn rfl; subst this
    simp only [List.map_nil, List.nil_append] at tw ⊢
    obtain ⟨L, hLe⟩ : ∃ L, L = [(⟨pc + 1, pc + b, n - 1⟩ : Rep)] := ⟨_, rfl⟩
    have hLL : L.length ≤ 100000 := by rw [hLe]; simp
    have hlf : ∀ x ∈ L, x.left ≤ 9223372036854775807 := by rw [hLe]; intro x hx; simp at hx; subst hx; simp only; omega
    have hLm : L.map Rep.d = [D.agg [.int .i64 (pc + 1), .int .i64 (pc + b), .int .i64 (n - 1)]] := by rw [hLe]; rfl
    have hLn : L.length = 1 := by rw [hLe]; rfl
    rw [← hLe]
    simp [k_vm_Step, mD, tw, cm, h0, hp, hi, hi2, hp0, hpl, hpn, Inst.d, wp, wb, wn, hx, hx2, hy, hy2, ha, ha2, hb, hm, ofD_ints]
    rw [← hLm]
    have hL1 : V.sl false 5 0 1 = V.sl false 5 0 L.length := by rw [hLn]
    rw [hL1]
    clear hL1 hLm hLn hLe
    generalize hT : Task.call f_vm_goes _ _ _ = T
    have hG : GoesTo T (.d (.agg (mem.map (.int .i64)))) 5 false 6 L (pc + 1) := by
      rw [← hT]
      exact goesTo (.d (.agg (mem.map (.int .i64)))) mem (pv_d mem) 5 false _ 6 (by decide) L hLL hlf (by simp) (pc + 1)
    clear hT
    unfold outD repsN
    rcases hG with ⟨g1, g2, g3, g4⟩ | ⟨g1, g2, g3, z, g4, g5⟩
    · simp only [g1, Bool.false_eq_true, if_false]
      rw [g3]
      clear g1 g3
      generalize (gN L (pc + 1) (L).length).2.1 = n' at *
      have tg := take_gone L n' g2
      have hg2 := g2
      simp only [mV] at g4
      clear tg
      simp [g4, mD, Inst.d, List.map_take, List.map_set, hg2, ((pv_d mem)).toD]
    · simp only [g1, if_true, g4]
      have tg := take_left L _ g2 g3 ⟨z.first, z.last, z.left - 1⟩
      have hg3 := g3
      clear g1 g4
      generalize (gN L (pc + 1) (L).length).2.1 = n' at *
      generalize (gN L (pc + 1) (L).length).1 = pc' at *
      generalize hc : (L.map Rep.d).set (n' - 1) (Rep.d ⟨z.first, z.last, z.left - 1⟩) = cells at *
      have hcl : cells.length = (L).length := by rw [← hc]; simp
      clear hc
      simp only [mV] at g5
      simp [g5, mD, tg, Inst.d, hcl, hg3, List.map_set, ((pv_d mem)).toD]
  | false =>
    obtain ⟨L, hLe⟩ : ∃ L, L = reps ++ [(⟨pc + 1, pc + b, n - 1⟩ : Rep)] := ⟨_, rfl⟩
    have hLL : L.length ≤ 100000 := by rw [hLe]; simp; omega
    have hlf : ∀ x ∈ L, x.left ≤ 9223372036854775807 := by
      rw [hLe]; intro x hx
      rcases List.mem_append.1 hx with hx | hx
      · exact hlf0 x hx
      · simp at hx; subst hx; simp only; omega
    have hLm : L.map Rep.d = reps.map Rep.d ++ [D.agg [.int .i64 (pc + 1), .int .i64 (pc + b), .int .i64 (n - 1)]] := by rw [hLe]; simp [Rep.d]
    have hLn : L.length = reps.length + 1 := by rw [hLe]; simp
    rw [← hLe]
    simp [k_vm_Step, mD, tw, cm, h0, hp, hi, hi2, hp0, hpl, hpn, Inst.d, wp, wb, wn, hx, hx2, hy, hy2, ha, ha2, hb, hm, ofD_ints, hrl]
    rw [← hLm, ← hLn]
    clear hLm hLn hLe
    generalize hT : Task.call f_vm_goes _ _ _ = T
    have hG : GoesTo T (.d (.agg (mem.map (.int .i64)))) 6 false 7 L (pc + 1) := by
      rw [← hT]
      exact goesTo (.d (.agg (mem.map (.int .i64)))) mem (pv_d mem) 6 false _ 7 (by decide) L hLL hlf (by simp) (pc + 1)
    clear hT
    unfold outD repsN
    rcases hG with ⟨g1, g2, g3, g4⟩ | ⟨g1, g2, g3, z, g4, g5⟩
    · simp only [g1, Bool.false_eq_true, if_false]
      rw [g3]
      clear g1 g3
      generalize (gN L (pc + 1) (L).length).2.1 = n' at *
      have tg := take_gone L n' g2
      have hg2 := g2
      simp only [mV] at g4
      clear tg
      simp [g4, mD, Inst.d, List.map_take, List.map_set, hg2, ((pv_d mem)).toD]
    · simp only [g1, if_true, g4]
      have tg := take_left L _ g2 g3 ⟨z.first, z.last, z.left - 1⟩
      have hg3 := g3
      clear g1 g4
      generalize (gN L (pc + 1) (L).length).2.1 = n' at *
      generalize (gN L (pc + 1) (L).length).1 = pc' at *
      generalize hc : (L.map Rep.d).set (n' - 1) (Rep.d ⟨z.first, z.last, z.left - 1⟩) = cells at *
      have hcl : cells.length = (L).length := by rw [← hc]; simp
      clear hc
      simp only [mV] at g5
      simp [g5, mD, tg, Inst.d, hcl, hg3, List.map_set, ((pv_d mem)).toD]
end Go.Cd
