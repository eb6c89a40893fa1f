/- What the document's Step does, by each instruction. No conditions. -/
import Derived.Test.YtgjeondicdipaaaR9QVmH
import Derived.Test.YtgjeondicdipaaaR9QVmM
import Derived.Test.YtgjeondicdipaaaR9QVmB
set_option linter.unusedVariables false
set_option linter.unusedSimpArgs false
namespace Go.Cd
open Go Go.Fw
@[simp] theorem rens_set (f : Nat → Nat) (mem : List Int) (k : Nat) (v : Int) : V.rens f ((mem.map (V.int .i64)).set k (V.int .i64 v)) = (mem.map (V.int .i64)).set k (V.int .i64 v) := by
  have := pv_rens f (mem.set k v)
  rwa [List.map_set] at this
theorem take_done (L : List Rep) (n : Nat) : List.take n (L.map Rep.d) = (L.take n).map Rep.d := by simp
theorem take_more (L : List Rep) (n : Nat) (h1 : 1 ≤ n) (h : n ≤ L.length) (y : Rep) : List.take n ((L.take (n - 1)).map Rep.d ++ [y.d]) = (L.take (n - 1) ++ [y]).map Rep.d := by
  rw [List.map_append, List.map_cons, List.map_nil, List.take_of_length_le]
  simp; omega
set_option maxRecDepth 10000 in
set_option maxHeartbeats 16000000 in
theorem rstep_0 (l : List Inst) (nl : Bool) (hl : l.length ≤ 100000) (pc : Int) (mem : List Int) (rn : Bool) (reps : List Rep) (hn : rn = true → reps = []) (hLL : reps.length ≤ 100000) (hlf : ∀ x ∈ reps, x.left ≤ 9223372036854775807) (h0 : 0 ≤ pc) (hp : pc < l.length) (i : Inst) (hi : l[pc.toNat]? = some i) (hm : mem.length = 8) (hmay : mayF i = true) (hop : i.op = 0)  :
    run kp (.data f_ref1_Step [.sl nl (l.map Inst.d), mD pc mem rn reps false]) = some (.ds [outD pc mem false reps true, i.d, .bool true]) := by
  obtain ⟨op, a, b, n⟩ := i
  simp only at *
  subst hop
  have hi2 : ∀ hh : pc.toNat < l.length, l[pc.toNat] = ⟨0, a, b, n⟩ := fun hh => by rw [List.getElem?_eq_getElem hh] at hi; injection hi
  have cm := ref1_MayInst ⟨0, a, b, n⟩
  rw [hmay] at cm
  simp only [Inst.d] at cm
  have hpl : ¬ (l.length : Int) ≤ pc := by omega
  have hp0 : ¬ pc < 0 := by omega
  have hpn : pc.toNat < l.length := by omega
  have wp : IntKind.i64.wrap (pc + 1) = pc + 1 := wrap_i64 (by omega) (by omega)
  have hrl : reps.length ≤ 1073741824 := by omega
  have hrl3 : reps.length ≤ 1073741823 := by omega
  rw [run_data, run_call, kp_ref1_Step]
  cases rn with
  | true =>
    have := hn rfl; subst this
    simp [k_ref1_Step, mD, cm, h0, hp, hi, hi2, hp0, hpl, hpn, Inst.d, wp, hm, ofD_ints, hrl, hrl3]
    generalize hT : Task.loop _ _ _ = T
    have hG : RGoesTo T (.d (.agg (mem.map (.int .i64)))) true ⟨0, a, b, n⟩ ([] : List Rep) pc := by
      rw [← hT]
      have := rgoes_loop (.d (.agg (mem.map (.int .i64)))) mem (pv_d mem) true ([] : List Rep) hLL hlf pc ⟨0, a, b, n⟩ ([] : List Rep).length (Nat.le_refl _)
      simpa [RGoesTo, rgSt, mV, zeroMD, mD, Inst.d, Rep.d, List.map_set] using this
    clear hT
    unfold outD repsN
    rcases hG with ⟨g1, g2, g3, gg, g4⟩ | ⟨g1, g2, g3, z, g4, g5, g6⟩
    · simp only [g1, Bool.false_eq_true, if_false]
      rw [g3]
      clear g1 g3
      generalize (gN ([] : List Rep) pc (([] : List Rep)).length).2.1 = n' at *
      have hg2 := g2
      have hn0 : n' = 0 := by simpa using g2
      subst hn0
      simp only [rgSt, mV] at g4
      simp [g4, mD, zeroMD, Inst.d, List.map_take, List.map_set, hg2, ((pv_d mem)).toD, ((pv_d mem)).hs, ((pv_d mem)).ren, ((pv_d mem)).pure]
    · exact absurd (Nat.le_trans g2 g3) (by simp)
  | false =>
    simp [k_ref1_Step, mD, cm, h0, hp, hi, hi2, hp0, hpl, hpn, Inst.d, wp, hm, ofD_ints, hrl, hrl3]
    generalize hT : Task.loop _ _ _ = T
    have hG : RGoesTo T (.d (.agg (mem.map (.int .i64)))) true ⟨0, a, b, n⟩ reps pc := by
      rw [← hT]
      have := rgoes_loop (.d (.agg (mem.map (.int .i64)))) mem (pv_d mem) true reps hLL hlf pc ⟨0, a, b, n⟩ reps.length (Nat.le_refl _)
      simpa [RGoesTo, rgSt, mV, zeroMD, mD, Inst.d, Rep.d, List.map_set] using this
    clear hT
    unfold outD repsN
    rcases hG with ⟨g1, g2, g3, gg, g4⟩ | ⟨g1, g2, g3, z, g4, g5, g6⟩
    · simp only [g1, Bool.false_eq_true, if_false]
      rw [g3]
      clear g1 g3
      generalize (gN reps pc (reps).length).2.1 = n' at *
      have hg2 := g2
      simp only [rgSt, mV] at g4
      simp [g4, mD, zeroMD, Inst.d, List.map_take, List.map_set, hg2, ((pv_d mem)).toD, ((pv_d mem)).hs, ((pv_d mem)).ren, ((pv_d mem)).pure]
    · simp only [g1, if_true, g4]
      rw [← g5]
      have tg := take_more reps _ g2 g3 ⟨z.first, z.last, z.left - 1⟩
      have hg3 := g3
      clear g1 g4 g5
      generalize (gN reps pc (reps).length).2.1 = n' at *
      generalize hc : ((reps).take (n' - 1)).map Rep.d ++ [Rep.d ⟨z.first, z.last, z.left - 1⟩] = cells at *
      have hcl : cells.length = n' := by rw [← hc]; simp; omega
      clear hc
      simp only [rgStR, mV] at g6
      simp [g6, mD, zeroMD, tg, Inst.d, hcl, hg3, List.map_set, ((pv_d mem)).toD, ((pv_d mem)).hs, ((pv_d mem)).ren, ((pv_d mem)).pure]
set_option maxRecDepth 10000 in
set_option maxHeartbeats 16000000 in
theorem rstep_1 (l : List Inst) (nl : Bool) (hl : l.length ≤ 100000) (pc : Int) (mem : List Int) (rn : Bool) (reps : List Rep) (hn : rn = true → reps = []) (hLL : reps.length ≤ 100000) (hlf : ∀ x ∈ reps, x.left ≤ 9223372036854775807) (h0 : 0 ≤ pc) (hp : pc < l.length) (i : Inst) (hi : l[pc.toNat]? = some i) (hm : mem.length = 8) (hmay : mayF i = true) (hop : i.op = 1) (x : Int) (hx : mem[i.a.toNat]? = some x) (ha : 0 ≤ i.a ∧ i.a < 8)  :
    run kp (.data f_ref1_Step [.sl nl (l.map Inst.d), mD pc mem rn reps false]) = some (.ds [outD (pc + 1) (mem.set i.a.toNat i.n) false reps false, i.d, .bool true]) := by
  obtain ⟨op, a, b, n⟩ := i
  simp only at *
  subst hop
  have hi2 : ∀ hh : pc.toNat < l.length, l[pc.toNat] = ⟨1, a, b, n⟩ := fun hh => by rw [List.getElem?_eq_getElem hh] at hi; injection hi
  have hx2 : ∀ hh : a.toNat < mem.length, mem[a.toNat] = x := fun hh => by rw [List.getElem?_eq_getElem hh] at hx; injection hx
  have ha2 : a.toNat < 8 := by omega
  have cm := ref1_MayInst ⟨1, a, b, n⟩
  rw [hmay] at cm
  simp only [Inst.d] at cm
  have hpl : ¬ (l.length : Int) ≤ pc := by omega
  have hp0 : ¬ pc < 0 := by omega
  have hpn : pc.toNat < l.length := by omega
  have wp : IntKind.i64.wrap (pc + 1) = pc + 1 := wrap_i64 (by omega) (by omega)
  have hrl : reps.length ≤ 1073741824 := by omega
  have hrl3 : reps.length ≤ 1073741823 := by omega
  rw [run_data, run_call, kp_ref1_Step]
  cases rn with
  | true =>
    have := hn rfl; subst this
    simp [k_ref1_Step, mD, cm, h0, hp, hi, hi2, hp0, hpl, hpn, Inst.d, wp, hm, ofD_ints, hrl, hrl3, hx, hx2, ha, ha2]
    generalize hT : Task.loop _ _ _ = T
    have hG : RGoesTo T (.agg ((mem.map (V.int .i64)).set a.toNat (V.int .i64 n))) false ⟨1, a, b, n⟩ ([] : List Rep) (pc + 1) := by
      rw [← hT]
      have := rgoes_loop (.agg ((mem.map (V.int .i64)).set a.toNat (V.int .i64 n))) (mem.set a.toNat n) (pv_set mem a.toNat n) false ([] : List Rep) hLL hlf (pc + 1) ⟨1, a, b, n⟩ ([] : List Rep).length (Nat.le_refl _)
      simpa [RGoesTo, rgSt, mV, zeroMD, mD, Inst.d, Rep.d, List.map_set] using this
    clear hT
    unfold outD repsN
    rcases hG with ⟨g1, g2, g3, gg, g4⟩ | ⟨g1, g2, g3, z, g4, g5, g6⟩
    · simp only [g1, Bool.false_eq_true, if_false]
      rw [g3]
      clear g1 g3
      generalize (gN ([] : List Rep) (pc + 1) (([] : List Rep)).length).2.1 = n' at *
      have hg2 := g2
      have hn0 : n' = 0 := by simpa using g2
      subst hn0
      simp only [rgSt, mV] at g4
      simp [g4, mD, zeroMD, Inst.d, List.map_take, List.map_set, hg2, ((pv_set mem a.toNat n)).toD, ((pv_set mem a.toNat n)).hs, ((pv_set mem a.toNat n)).ren, ((pv_set mem a.toNat n)).pure]
    · exact absurd (Nat.le_trans g2 g3) (by simp)
  | false =>
    simp [k_ref1_Step, mD, cm, h0, hp, hi, hi2, hp0, hpl, hpn, Inst.d, wp, hm, ofD_ints, hrl, hrl3, hx, hx2, ha, ha2]
    generalize hT : Task.loop _ _ _ = T
    have hG : RGoesTo T (.agg ((mem.map (V.int .i64)).set a.toNat (V.int .i64 n))) false ⟨1, a, b, n⟩ reps (pc + 1) := by
      rw [← hT]
      have := rgoes_loop (.agg ((mem.map (V.int .i64)).set a.toNat (V.int .i64 n))) (mem.set a.toNat n) (pv_set mem a.toNat n) false reps hLL hlf (pc + 1) ⟨1, a, b, n⟩ reps.length (Nat.le_refl _)
      simpa [RGoesTo, rgSt, mV, zeroMD, mD, Inst.d, Rep.d, List.map_set] using this
    clear hT
    unfold outD repsN
    rcases hG with ⟨g1, g2, g3, gg, g4⟩ | ⟨g1, g2, g3, z, g4, g5, g6⟩
    · simp only [g1, Bool.false_eq_true, if_false]
      rw [g3]
      clear g1 g3
      generalize (gN reps (pc + 1) (reps).length).2.1 = n' at *
      have hg2 := g2
      simp only [rgSt, mV] at g4
      simp [g4, mD, zeroMD, Inst.d, List.map_take, List.map_set, hg2, ((pv_set mem a.toNat n)).toD, ((pv_set mem a.toNat n)).hs, ((pv_set mem a.toNat n)).ren, ((pv_set mem a.toNat n)).pure]
    · simp only [g1, if_true, g4]
      rw [← g5]
      have tg := take_more reps _ g2 g3 ⟨z.first, z.last, z.left - 1⟩
      have hg3 := g3
      clear g1 g4 g5
      generalize (gN reps (pc + 1) (reps).length).2.1 = n' at *
      generalize hc : ((reps).take (n' - 1)).map Rep.d ++ [Rep.d ⟨z.first, z.last, z.left - 1⟩] = cells at *
      have hcl : cells.length = n' := by rw [← hc]; simp; omega
      clear hc
      simp only [rgStR, mV] at g6
      simp [g6, mD, zeroMD, tg, Inst.d, hcl, hg3, List.map_set, ((pv_set mem a.toNat n)).toD, ((pv_set mem a.toNat n)).hs, ((pv_set mem a.toNat n)).ren, ((pv_set mem a.toNat n)).pure]
set_option maxRecDepth 10000 in
set_option maxHeartbeats 16000000 in
theorem rstep_2 (l : List Inst) (nl : Bool) (hl : l.length ≤ 100000) (pc : Int) (mem : List Int) (rn : Bool) (reps : List Rep) (hn : rn = true → reps = []) (hLL : reps.length ≤ 100000) (hlf : ∀ x ∈ reps, x.left ≤ 9223372036854775807) (h0 : 0 ≤ pc) (hp : pc < l.length) (i : Inst) (hi : l[pc.toNat]? = some i) (hm : mem.length = 8) (hmay : mayF i = true) (hop : i.op = 2) (x : Int) (hx : mem[i.a.toNat]? = some x) (ha : 0 ≤ i.a ∧ i.a < 8) (y : Int) (hy : mem[i.b.toNat]? = some y) (hb : 0 ≤ i.b ∧ i.b < 8)  :
    run kp (.data f_ref1_Step [.sl nl (l.map Inst.d), mD pc mem rn reps false]) = some (.ds [outD (pc + 1) (mem.set i.a.toNat (IntKind.i64.wrap (x + y))) false reps false, i.d, .bool true]) := by
  obtain ⟨op, a, b, n⟩ := i
  simp only at *
  subst hop
  have hi2 : ∀ hh : pc.toNat < l.length, l[pc.toNat] = ⟨2, a, b, n⟩ := fun hh => by rw [List.getElem?_eq_getElem hh] at hi; injection hi
  have hx2 : ∀ hh : a.toNat < mem.length, mem[a.toNat] = x := fun hh => by rw [List.getElem?_eq_getElem hh] at hx; injection hx
  have ha2 : a.toNat < 8 := by omega
  have hy2 : ∀ hh : b.toNat < mem.length, mem[b.toNat] = y := fun hh => by rw [List.getElem?_eq_getElem hh] at hy; injection hy
  have hb2 : b.toNat < 8 := by omega
  have cm := ref1_MayInst ⟨2, a, b, n⟩
  rw [hmay] at cm
  simp only [Inst.d] at cm
  have hpl : ¬ (l.length : Int) ≤ pc := by omega
  have hp0 : ¬ pc < 0 := by omega
  have hpn : pc.toNat < l.length := by omega
  have wp : IntKind.i64.wrap (pc + 1) = pc + 1 := wrap_i64 (by omega) (by omega)
  have hrl : reps.length ≤ 1073741824 := by omega
  have hrl3 : reps.length ≤ 1073741823 := by omega
  rw [run_data, run_call, kp_ref1_Step]
  cases rn with
  | true =>
    have := hn rfl; subst this
    simp [k_ref1_Step, mD, cm, h0, hp, hi, hi2, hp0, hpl, hpn, Inst.d, wp, hm, ofD_ints, hrl, hrl3, hx, hx2, ha, ha2, hy, hy2, hb, hb2]
    generalize hT : Task.loop _ _ _ = T
    have hG : RGoesTo T (.agg ((mem.map (V.int .i64)).set a.toNat (V.int .i64 (IntKind.i64.wrap (x + y))))) false ⟨2, a, b, n⟩ ([] : List Rep) (pc + 1) := by
      rw [← hT]
      have := rgoes_loop (.agg ((mem.map (V.int .i64)).set a.toNat (V.int .i64 (IntKind.i64.wrap (x + y))))) (mem.set a.toNat (IntKind.i64.wrap (x + y))) (pv_set mem a.toNat (IntKind.i64.wrap (x + y))) false ([] : List Rep) hLL hlf (pc + 1) ⟨2, a, b, n⟩ ([] : List Rep).length (Nat.le_refl _)
      simpa [RGoesTo, rgSt, mV, zeroMD, mD, Inst.d, Rep.d, List.map_set] using this
    clear hT
    unfold outD repsN
    rcases hG with ⟨g1, g2, g3, gg, g4⟩ | ⟨g1, g2, g3, z, g4, g5, g6⟩
    · simp only [g1, Bool.false_eq_true, if_false]
      rw [g3]
      clear g1 g3
      generalize (gN ([] : List Rep) (pc + 1) (([] : List Rep)).length).2.1 = n' at *
      have hg2 := g2
      have hn0 : n' = 0 := by simpa using g2
      subst hn0
      simp only [rgSt, mV] at g4
      simp [g4, mD, zeroMD, Inst.d, List.map_take, List.map_set, hg2, ((pv_set mem a.toNat (IntKind.i64.wrap (x + y)))).toD, ((pv_set mem a.toNat (IntKind.i64.wrap (x + y)))).hs, ((pv_set mem a.toNat (IntKind.i64.wrap (x + y)))).ren, ((pv_set mem a.toNat (IntKind.i64.wrap (x + y)))).pure]
    · exact absurd (Nat.le_trans g2 g3) (by simp)
  | false =>
    simp [k_ref1_Step, mD, cm, h0, hp, hi, hi2, hp0, hpl, hpn, Inst.d, wp, hm, ofD_ints, hrl, hrl3, hx, hx2, ha, ha2, hy, hy2, hb, hb2]
    generalize hT : Task.loop _ _ _ = T
    have hG : RGoesTo T (.agg ((mem.map (V.int .i64)).set a.toNat (V.int .i64 (IntKind.i64.wrap (x + y))))) false ⟨2, a, b, n⟩ reps (pc + 1) := by
      rw [← hT]
      have := rgoes_loop (.agg ((mem.map (V.int .i64)).set a.toNat (V.int .i64 (IntKind.i64.wrap (x + y))))) (mem.set a.toNat (IntKind.i64.wrap (x + y))) (pv_set mem a.toNat (IntKind.i64.wrap (x + y))) false reps hLL hlf (pc + 1) ⟨2, a, b, n⟩ reps.length (Nat.le_refl _)
      simpa [RGoesTo, rgSt, mV, zeroMD, mD, Inst.d, Rep.d, List.map_set] using this
    clear hT
    unfold outD repsN
    rcases hG with ⟨g1, g2, g3, gg, g4⟩ | ⟨g1, g2, g3, z, g4, g5, g6⟩
    · simp only [g1, Bool.false_eq_true, if_false]
      rw [g3]
      clear g1 g3
      generalize (gN reps (pc + 1) (reps).length).2.1 = n' at *
      have hg2 := g2
      simp only [rgSt, mV] at g4
      simp [g4, mD, zeroMD, Inst.d, List.map_take, List.map_set, hg2, ((pv_set mem a.toNat (IntKind.i64.wrap (x + y)))).toD, ((pv_set mem a.toNat (IntKind.i64.wrap (x + y)))).hs, ((pv_set mem a.toNat (IntKind.i64.wrap (x + y)))).ren, ((pv_set mem a.toNat (IntKind.i64.wrap (x + y)))).pure]
    · simp only [g1, if_true, g4]
      rw [← g5]
      have tg := take_more reps _ g2 g3 ⟨z.first, z.last, z.left - 1⟩
      have hg3 := g3
      clear g1 g4 g5
      generalize (gN reps (pc + 1) (reps).length).2.1 = n' at *
      generalize hc : ((reps).take (n' - 1)).map Rep.d ++ [Rep.d ⟨z.first, z.last, z.left - 1⟩] = cells at *
      have hcl : cells.length = n' := by rw [← hc]; simp; omega
      clear hc
      simp only [rgStR, mV] at g6
      simp [g6, mD, zeroMD, tg, Inst.d, hcl, hg3, List.map_set, ((pv_set mem a.toNat (IntKind.i64.wrap (x + y)))).toD, ((pv_set mem a.toNat (IntKind.i64.wrap (x + y)))).hs, ((pv_set mem a.toNat (IntKind.i64.wrap (x + y)))).ren, ((pv_set mem a.toNat (IntKind.i64.wrap (x + y)))).pure]
set_option maxRecDepth 10000 in
set_option maxHeartbeats 16000000 in
theorem rstep_3 (l : List Inst) (nl : Bool) (hl : l.length ≤ 100000) (pc : Int) (mem : List Int) (rn : Bool) (reps : List Rep) (hn : rn = true → reps = []) (hLL : reps.length ≤ 100000) (hlf : ∀ x ∈ reps, x.left ≤ 9223372036854775807) (h0 : 0 ≤ pc) (hp : pc < l.length) (i : Inst) (hi : l[pc.toNat]? = some i) (hm : mem.length = 8) (hmay : mayF i = true) (hop : i.op = 3) (x : Int) (hx : mem[i.a.toNat]? = some x) (ha : 0 ≤ i.a ∧ i.a < 8) (y : Int) (hy : mem[i.b.toNat]? = some y) (hb : 0 ≤ i.b ∧ i.b < 8)  :
    run kp (.data f_ref1_Step [.sl nl (l.map Inst.d), mD pc mem rn reps false]) = some (.ds [outD (pc + 1) (mem.set i.a.toNat (IntKind.i64.wrap (x - y))) false reps false, i.d, .bool true]) := by
  obtain ⟨op, a, b, n⟩ := i
  simp only at *
  subst hop
  have hi2 : ∀ hh : pc.toNat < l.length, l[pc.toNat] = ⟨3, a, b, n⟩ := fun hh => by rw [List.getElem?_eq_getElem hh] at hi; injection hi
  have hx2 : ∀ hh : a.toNat < mem.length, mem[a.toNat] = x := fun hh => by rw [List.getElem?_eq_getElem hh] at hx; injection hx
  have ha2 : a.toNat < 8 := by omega
  have hy2 : ∀ hh : b.toNat < mem.length, mem[b.toNat] = y := fun hh => by rw [List.getElem?_eq_getElem hh] at hy; injection hy
  have hb2 : b.toNat < 8 := by omega
  have cm := ref1_MayInst ⟨3, a, b, n⟩
  rw [hmay] at cm
  simp only [Inst.d] at cm
  have hpl : ¬ (l.length : Int) ≤ pc := by omega
  have hp0 : ¬ pc < 0 := by omega
  have hpn : pc.toNat < l.length := by omega
  have wp : IntKind.i64.wrap (pc + 1) = pc + 1 := wrap_i64 (by omega) (by omega)
  have hrl : reps.length ≤ 1073741824 := by omega
  have hrl3 : reps.length ≤ 1073741823 := by omega
  rw [run_data, run_call, kp_ref1_Step]
  cases rn with
  | true =>
    have := hn rfl; subst this
    simp [k_ref1_Step, mD, cm, h0, hp, hi, hi2, hp0, hpl, hpn, Inst.d, wp, hm, ofD_ints, hrl, hrl3, hx, hx2, ha, ha2, hy, hy2, hb, hb2]
    generalize hT : Task.loop _ _ _ = T
    have hG : RGoesTo T (.agg ((mem.map (V.int .i64)).set a.toNat (V.int .i64 (IntKind.i64.wrap (x - y))))) false ⟨3, a, b, n⟩ ([] : List Rep) (pc + 1) := by
      rw [← hT]
      have := rgoes_loop (.agg ((mem.map (V.int .i64)).set a.toNat (V.int .i64 (IntKind.i64.wrap (x - y))))) (mem.set a.toNat (IntKind.i64.wrap (x - y))) (pv_set mem a.toNat (IntKind.i64.wrap (x - y))) false ([] : List Rep) hLL hlf (pc + 1) ⟨3, a, b, n⟩ ([] : List Rep).length (Nat.le_refl _)
      simpa [RGoesTo, rgSt, mV, zeroMD, mD, Inst.d, Rep.d, List.map_set] using this
    clear hT
    unfold outD repsN
    rcases hG with ⟨g1, g2, g3, gg, g4⟩ | ⟨g1, g2, g3, z, g4, g5, g6⟩
    · simp only [g1, Bool.false_eq_true, if_false]
      rw [g3]
      clear g1 g3
      generalize (gN ([] : List Rep) (pc + 1) (([] : List Rep)).length).2.1 = n' at *
      have hg2 := g2
      have hn0 : n' = 0 := by simpa using g2
      subst hn0
      simp only [rgSt, mV] at g4
      simp [g4, mD, zeroMD, Inst.d, List.map_take, List.map_set, hg2, ((pv_set mem a.toNat (IntKind.i64.wrap (x - y)))).toD, ((pv_set mem a.toNat (IntKind.i64.wrap (x - y)))).hs, ((pv_set mem a.toNat (IntKind.i64.wrap (x - y)))).ren, ((pv_set mem a.toNat (IntKind.i64.wrap (x - y)))).pure]
    · exact absurd (Nat.le_trans g2 g3) (by simp)
  | false =>
    simp [k_ref1_Step, mD, cm, h0, hp, hi, hi2, hp0, hpl, hpn, Inst.d, wp, hm, ofD_ints, hrl, hrl3, hx, hx2, ha, ha2, hy, hy2, hb, hb2]
    generalize hT : Task.loop _ _ _ = T
    have hG : RGoesTo T (.agg ((mem.map (V.int .i64)).set a.toNat (V.int .i64 (IntKind.i64.wrap (x - y))))) false ⟨3, a, b, n⟩ reps (pc + 1) := by
      rw [← hT]
      have := rgoes_loop (.agg ((mem.map (V.int .i64)).set a.toNat (V.int .i64 (IntKind.i64.wrap (x - y))))) (mem.set a.toNat (IntKind.i64.wrap (x - y))) (pv_set mem a.toNat (IntKind.i64.wrap (x - y))) false reps hLL hlf (pc + 1) ⟨3, a, b, n⟩ reps.length (Nat.le_refl _)
      simpa [RGoesTo, rgSt, mV, zeroMD, mD, Inst.d, Rep.d, List.map_set] using this
    clear hT
    unfold outD repsN
    rcases hG with ⟨g1, g2, g3, gg, g4⟩ | ⟨g1, g2, g3, z, g4, g5, g6⟩
    · simp only [g1, Bool.false_eq_true, if_false]
      rw [g3]
      clear g1 g3
      generalize (gN reps (pc + 1) (reps).length).2.1 = n' at *
      have hg2 := g2
      simp only [rgSt, mV] at g4
      simp [g4, mD, zeroMD, Inst.d, List.map_take, List.map_set, hg2, ((pv_set mem a.toNat (IntKind.i64.wrap (x - y)))).toD, ((pv_set mem a.toNat (IntKind.i64.wrap (x - y)))).hs, ((pv_set mem a.toNat (IntKind.i64.wrap (x - y)))).ren, ((pv_set mem a.toNat (IntKind.i64.wrap (x - y)))).pure]
    · simp only [g1, if_true, g4]
      rw [← g5]
      have tg := take_more reps _ g2 g3 ⟨z.first, z.last, z.left - 1⟩
      have hg3 := g3
      clear g1 g4 g5
      generalize (gN reps (pc + 1) (reps).length).2.1 = n' at *
      generalize hc : ((reps).take (n' - 1)).map Rep.d ++ [Rep.d ⟨z.first, z.last, z.left - 1⟩] = cells at *
      have hcl : cells.length = n' := by rw [← hc]; simp; omega
      clear hc
      simp only [rgStR, mV] at g6
      simp [g6, mD, zeroMD, tg, Inst.d, hcl, hg3, List.map_set, ((pv_set mem a.toNat (IntKind.i64.wrap (x - y)))).toD, ((pv_set mem a.toNat (IntKind.i64.wrap (x - y)))).hs, ((pv_set mem a.toNat (IntKind.i64.wrap (x - y)))).ren, ((pv_set mem a.toNat (IntKind.i64.wrap (x - y)))).pure]
set_option maxRecDepth 10000 in
set_option maxHeartbeats 16000000 in
theorem rstep_4 (l : List Inst) (nl : Bool) (hl : l.length ≤ 100000) (pc : Int) (mem : List Int) (rn : Bool) (reps : List Rep) (hn : rn = true → reps = []) (hLL : reps.length ≤ 100000) (hlf : ∀ x ∈ reps, x.left ≤ 9223372036854775807) (h0 : 0 ≤ pc) (hp : pc < l.length) (i : Inst) (hi : l[pc.toNat]? = some i) (hm : mem.length = 8) (hmay : mayF i = true) (hop : i.op = 4) (x : Int) (hx : mem[i.a.toNat]? = some x) (ha : 0 ≤ i.a ∧ i.a < 8) (y : Int) (hy : mem[i.b.toNat]? = some y) (hb : 0 ≤ i.b ∧ i.b < 8)  :
    run kp (.data f_ref1_Step [.sl nl (l.map Inst.d), mD pc mem rn reps false]) = some (.ds [outD (pc + 1) (mem.set i.a.toNat (IntKind.i64.wrap (x * y))) false reps false, i.d, .bool true]) := by
  obtain ⟨op, a, b, n⟩ := i
  simp only at *
  subst hop
  have hi2 : ∀ hh : pc.toNat < l.length, l[pc.toNat] = ⟨4, a, b, n⟩ := fun hh => by rw [List.getElem?_eq_getElem hh] at hi; injection hi
  have hx2 : ∀ hh : a.toNat < mem.length, mem[a.toNat] = x := fun hh => by rw [List.getElem?_eq_getElem hh] at hx; injection hx
  have ha2 : a.toNat < 8 := by omega
  have hy2 : ∀ hh : b.toNat < mem.length, mem[b.toNat] = y := fun hh => by rw [List.getElem?_eq_getElem hh] at hy; injection hy
  have hb2 : b.toNat < 8 := by omega
  have cm := ref1_MayInst ⟨4, a, b, n⟩
  rw [hmay] at cm
  simp only [Inst.d] at cm
  have hpl : ¬ (l.length : Int) ≤ pc := by omega
  have hp0 : ¬ pc < 0 := by omega
  have hpn : pc.toNat < l.length := by omega
  have wp : IntKind.i64.wrap (pc + 1) = pc + 1 := wrap_i64 (by omega) (by omega)
  have hrl : reps.length ≤ 1073741824 := by omega
  have hrl3 : reps.length ≤ 1073741823 := by omega
  rw [run_data, run_call, kp_ref1_Step]
  cases rn with
  | true =>
    have := hn rfl; subst this
    simp [k_ref1_Step, mD, cm, h0, hp, hi, hi2, hp0, hpl, hpn, Inst.d, wp, hm, ofD_ints, hrl, hrl3, hx, hx2, ha, ha2, hy, hy2, hb, hb2]
    generalize hT : Task.loop _ _ _ = T
    have hG : RGoesTo T (.agg ((mem.map (V.int .i64)).set a.toNat (V.int .i64 (IntKind.i64.wrap (x * y))))) false ⟨4, a, b, n⟩ ([] : List Rep) (pc + 1) := by
      rw [← hT]
      have := rgoes_loop (.agg ((mem.map (V.int .i64)).set a.toNat (V.int .i64 (IntKind.i64.wrap (x * y))))) (mem.set a.toNat (IntKind.i64.wrap (x * y))) (pv_set mem a.toNat (IntKind.i64.wrap (x * y))) false ([] : List Rep) hLL hlf (pc + 1) ⟨4, a, b, n⟩ ([] : List Rep).length (Nat.le_refl _)
      simpa [RGoesTo, rgSt, mV, zeroMD, mD, Inst.d, Rep.d, List.map_set] using this
    clear hT
    unfold outD repsN
    rcases hG with ⟨g1, g2, g3, gg, g4⟩ | ⟨g1, g2, g3, z, g4, g5, g6⟩
    · simp only [g1, Bool.false_eq_true, if_false]
      rw [g3]
      clear g1 g3
      generalize (gN ([] : List Rep) (pc + 1) (([] : List Rep)).length).2.1 = n' at *
      have hg2 := g2
      have hn0 : n' = 0 := by simpa using g2
      subst hn0
      simp only [rgSt, mV] at g4
      simp [g4, mD, zeroMD, Inst.d, List.map_take, List.map_set, hg2, ((pv_set mem a.toNat (IntKind.i64.wrap (x * y)))).toD, ((pv_set mem a.toNat (IntKind.i64.wrap (x * y)))).hs, ((pv_set mem a.toNat (IntKind.i64.wrap (x * y)))).ren, ((pv_set mem a.toNat (IntKind.i64.wrap (x * y)))).pure]
    · exact absurd (Nat.le_trans g2 g3) (by simp)
  | false =>
    simp [k_ref1_Step, mD, cm, h0, hp, hi, hi2, hp0, hpl, hpn, Inst.d, wp, hm, ofD_ints, hrl, hrl3, hx, hx2, ha, ha2, hy, hy2, hb, hb2]
    generalize hT : Task.loop _ _ _ = T
    have hG : RGoesTo T (.agg ((mem.map (V.int .i64)).set a.toNat (V.int .i64 (IntKind.i64.wrap (x * y))))) false ⟨4, a, b, n⟩ reps (pc + 1) := by
      rw [← hT]
      have := rgoes_loop (.agg ((mem.map (V.int .i64)).set a.toNat (V.int .i64 (IntKind.i64.wrap (x * y))))) (mem.set a.toNat (IntKind.i64.wrap (x * y))) (pv_set mem a.toNat (IntKind.i64.wrap (x * y))) false reps hLL hlf (pc + 1) ⟨4, a, b, n⟩ reps.length (Nat.le_refl _)
      simpa [RGoesTo, rgSt, mV, zeroMD, mD, Inst.d, Rep.d, List.map_set] using this
    clear hT
    unfold outD repsN
    rcases hG with ⟨g1, g2, g3, gg, g4⟩ | ⟨g1, g2, g3, z, g4, g5, g6⟩
    · simp only [g1, Bool.false_eq_true, if_false]
      rw [g3]
      clear g1 g3
      generalize (gN reps (pc + 1) (reps).length).2.1 = n' at *
      have hg2 := g2
      simp only [rgSt, mV] at g4
      simp [g4, mD, zeroMD, Inst.d, List.map_take, List.map_set, hg2, ((pv_set mem a.toNat (IntKind.i64.wrap (x * y)))).toD, ((pv_set mem a.toNat (IntKind.i64.wrap (x * y)))).hs, ((pv_set mem a.toNat (IntKind.i64.wrap (x * y)))).ren, ((pv_set mem a.toNat (IntKind.i64.wrap (x * y)))).pure]
    · simp only [g1, if_true, g4]
      rw [← g5]
      have tg := take_more reps _ g2 g3 ⟨z.first, z.last, z.left - 1⟩
      have hg3 := g3
      clear g1 g4 g5
      generalize (gN reps (pc + 1) (reps).length).2.1 = n' at *
      generalize hc : ((reps).take (n' - 1)).map Rep.d ++ [Rep.d ⟨z.first, z.last, z.left - 1⟩] = cells at *
      have hcl : cells.length = n' := by rw [← hc]; simp; omega
      clear hc
      simp only [rgStR, mV] at g6
      simp [g6, mD, zeroMD, tg, Inst.d, hcl, hg3, List.map_set, ((pv_set mem a.toNat (IntKind.i64.wrap (x * y)))).toD, ((pv_set mem a.toNat (IntKind.i64.wrap (x * y)))).hs, ((pv_set mem a.toNat (IntKind.i64.wrap (x * y)))).ren, ((pv_set mem a.toNat (IntKind.i64.wrap (x * y)))).pure]
set_option maxRecDepth 10000 in
set_option maxHeartbeats 16000000 in
theorem rstep_5 (l : List Inst) (nl : Bool) (hl : l.length ≤ 100000) (pc : Int) (mem : List Int) (rn : Bool) (reps : List Rep) (hn : rn = true → reps = []) (hLL : reps.length ≤ 100000) (hlf : ∀ x ∈ reps, x.left ≤ 9223372036854775807) (h0 : 0 ≤ pc) (hp : pc < l.length) (i : Inst) (hi : l[pc.toNat]? = some i) (hm : mem.length = 8) (hmay : mayF i = true) (hop : i.op = 5) (x : Int) (hx : mem[i.a.toNat]? = some x) (ha : 0 ≤ i.a ∧ i.a < 8) (v : Int) (hv : run kp (.data f_ref1_Shift [.int .i64 x, .int .i64 i.n]) = some (.ds [.int .i64 v])) :
    run kp (.data f_ref1_Step [.sl nl (l.map Inst.d), mD pc mem rn reps false]) = some (.ds [outD (pc + 1) (mem.set i.a.toNat v) false reps false, i.d, .bool true]) := by
  obtain ⟨op, a, b, n⟩ := i
  simp only at *
  subst hop
  have hi2 : ∀ hh : pc.toNat < l.length, l[pc.toNat] = ⟨5, a, b, n⟩ := fun hh => by rw [List.getElem?_eq_getElem hh] at hi; injection hi
  have hx2 : ∀ hh : a.toNat < mem.length, mem[a.toNat] = x := fun hh => by rw [List.getElem?_eq_getElem hh] at hx; injection hx
  have ha2 : a.toNat < 8 := by omega
  have cm := ref1_MayInst ⟨5, a, b, n⟩
  rw [hmay] at cm
  simp only [Inst.d] at cm
  have hpl : ¬ (l.length : Int) ≤ pc := by omega
  have hp0 : ¬ pc < 0 := by omega
  have hpn : pc.toNat < l.length := by omega
  have wp : IntKind.i64.wrap (pc + 1) = pc + 1 := wrap_i64 (by omega) (by omega)
  have hrl : reps.length ≤ 1073741824 := by omega
  have hrl3 : reps.length ≤ 1073741823 := by omega
  rw [run_data, run_call, kp_ref1_Step]
  cases rn with
  | true =>
    have := hn rfl; subst this
    simp [k_ref1_Step, mD, cm, h0, hp, hi, hi2, hp0, hpl, hpn, Inst.d, wp, hm, ofD_ints, hrl, hrl3, hx, hx2, ha, ha2, hv]
    generalize hT : Task.loop _ _ _ = T
    have hG : RGoesTo T (.agg ((mem.map (V.int .i64)).set a.toNat (V.int .i64 v))) false ⟨5, a, b, n⟩ ([] : List Rep) (pc + 1) := by
      rw [← hT]
      have := rgoes_loop (.agg ((mem.map (V.int .i64)).set a.toNat (V.int .i64 v))) (mem.set a.toNat v) (pv_set mem a.toNat v) false ([] : List Rep) hLL hlf (pc + 1) ⟨5, a, b, n⟩ ([] : List Rep).length (Nat.le_refl _)
      simpa [RGoesTo, rgSt, mV, zeroMD, mD, Inst.d, Rep.d, List.map_set] using this
    clear hT
    unfold outD repsN
    rcases hG with ⟨g1, g2, g3, gg, g4⟩ | ⟨g1, g2, g3, z, g4, g5, g6⟩
    · simp only [g1, Bool.false_eq_true, if_false]
      rw [g3]
      clear g1 g3
      generalize (gN ([] : List Rep) (pc + 1) (([] : List Rep)).length).2.1 = n' at *
      have hg2 := g2
      have hn0 : n' = 0 := by simpa using g2
      subst hn0
      simp only [rgSt, mV] at g4
      simp [g4, mD, zeroMD, Inst.d, List.map_take, List.map_set, hg2, ((pv_set mem a.toNat v)).toD, ((pv_set mem a.toNat v)).hs, ((pv_set mem a.toNat v)).ren, ((pv_set mem a.toNat v)).pure]
    · exact absurd (Nat.le_trans g2 g3) (by simp)
  | false =>
    simp [k_ref1_Step, mD, cm, h0, hp, hi, hi2, hp0, hpl, hpn, Inst.d, wp, hm, ofD_ints, hrl, hrl3, hx, hx2, ha, ha2, hv]
    generalize hT : Task.loop _ _ _ = T
    have hG : RGoesTo T (.agg ((mem.map (V.int .i64)).set a.toNat (V.int .i64 v))) false ⟨5, a, b, n⟩ reps (pc + 1) := by
      rw [← hT]
      have := rgoes_loop (.agg ((mem.map (V.int .i64)).set a.toNat (V.int .i64 v))) (mem.set a.toNat v) (pv_set mem a.toNat v) false reps hLL hlf (pc + 1) ⟨5, a, b, n⟩ reps.length (Nat.le_refl _)
      simpa [RGoesTo, rgSt, mV, zeroMD, mD, Inst.d, Rep.d, List.map_set] using this
    clear hT
    unfold outD repsN
    rcases hG with ⟨g1, g2, g3, gg, g4⟩ | ⟨g1, g2, g3, z, g4, g5, g6⟩
    · simp only [g1, Bool.false_eq_true, if_false]
      rw [g3]
      clear g1 g3
      generalize (gN reps (pc + 1) (reps).length).2.1 = n' at *
      have hg2 := g2
      simp only [rgSt, mV] at g4
      simp [g4, mD, zeroMD, Inst.d, List.map_take, List.map_set, hg2, ((pv_set mem a.toNat v)).toD, ((pv_set mem a.toNat v)).hs, ((pv_set mem a.toNat v)).ren, ((pv_set mem a.toNat v)).pure]
    · simp only [g1, if_true, g4]
      rw [← g5]
      have tg := take_more reps _ g2 g3 ⟨z.first, z.last, z.left - 1⟩
      have hg3 := g3
      clear g1 g4 g5
      generalize (gN reps (pc + 1) (reps).length).2.1 = n' at *
      generalize hc : ((reps).take (n' - 1)).map Rep.d ++ [Rep.d ⟨z.first, z.last, z.left - 1⟩] = cells at *
      have hcl : cells.length = n' := by rw [← hc]; simp; omega
      clear hc
      simp only [rgStR, mV] at g6
      simp [g6, mD, zeroMD, tg, Inst.d, hcl, hg3, List.map_set, ((pv_set mem a.toNat v)).toD, ((pv_set mem a.toNat v)).hs, ((pv_set mem a.toNat v)).ren, ((pv_set mem a.toNat v)).pure]
set_option maxRecDepth 10000 in
set_option maxHeartbeats 16000000 in
theorem rstep_6 (l : List Inst) (nl : Bool) (hl : l.length ≤ 100000) (pc : Int) (mem : List Int) (rn : Bool) (reps : List Rep) (hn : rn = true → reps = []) (hLL : reps.length ≤ 100000) (hlf : ∀ x ∈ reps, x.left ≤ 9223372036854775807) (h0 : 0 ≤ pc) (hp : pc < l.length) (i : Inst) (hi : l[pc.toNat]? = some i) (hm : mem.length = 8) (hmay : mayF i = true) (hop : i.op = 6) (x : Int) (hx : mem[i.a.toNat]? = some x) (ha : 0 ≤ i.a ∧ i.a < 8) (v : Int) (hv : run kp (.data f_ref1_Narrow [.int .i64 x, .int .i64 i.n]) = some (.ds [.int .i64 v])) :
    run kp (.data f_ref1_Step [.sl nl (l.map Inst.d), mD pc mem rn reps false]) = some (.ds [outD (pc + 1) (mem.set i.a.toNat v) false reps false, i.d, .bool true]) := by
  obtain ⟨op, a, b, n⟩ := i
  simp only at *
  subst hop
  have hi2 : ∀ hh : pc.toNat < l.length, l[pc.toNat] = ⟨6, a, b, n⟩ := fun hh => by rw [List.getElem?_eq_getElem hh] at hi; injection hi
  have hx2 : ∀ hh : a.toNat < mem.length, mem[a.toNat] = x := fun hh => by rw [List.getElem?_eq_getElem hh] at hx; injection hx
  have ha2 : a.toNat < 8 := by omega
  have cm := ref1_MayInst ⟨6, a, b, n⟩
  rw [hmay] at cm
  simp only [Inst.d] at cm
  have hpl : ¬ (l.length : Int) ≤ pc := by omega
  have hp0 : ¬ pc < 0 := by omega
  have hpn : pc.toNat < l.length := by omega
  have wp : IntKind.i64.wrap (pc + 1) = pc + 1 := wrap_i64 (by omega) (by omega)
  have hrl : reps.length ≤ 1073741824 := by omega
  have hrl3 : reps.length ≤ 1073741823 := by omega
  rw [run_data, run_call, kp_ref1_Step]
  cases rn with
  | true =>
    have := hn rfl; subst this
    simp [k_ref1_Step, mD, cm, h0, hp, hi, hi2, hp0, hpl, hpn, Inst.d, wp, hm, ofD_ints, hrl, hrl3, hx, hx2, ha, ha2, hv]
    generalize hT : Task.loop _ _ _ = T
    have hG : RGoesTo T (.agg ((mem.map (V.int .i64)).set a.toNat (V.int .i64 v))) false ⟨6, a, b, n⟩ ([] : List Rep) (pc + 1) := by
      rw [← hT]
      have := rgoes_loop (.agg ((mem.map (V.int .i64)).set a.toNat (V.int .i64 v))) (mem.set a.toNat v) (pv_set mem a.toNat v) false ([] : List Rep) hLL hlf (pc + 1) ⟨6, a, b, n⟩ ([] : List Rep).length (Nat.le_refl _)
      simpa [RGoesTo, rgSt, mV, zeroMD, mD, Inst.d, Rep.d, List.map_set] using this
    clear hT
    unfold outD repsN
    rcases hG with ⟨g1, g2, g3, gg, g4⟩ | ⟨g1, g2, g3, z, g4, g5, g6⟩
    · simp only [g1, Bool.false_eq_true, if_false]
      rw [g3]
      clear g1 g3
      generalize (gN ([] : List Rep) (pc + 1) (([] : List Rep)).length).2.1 = n' at *
      have hg2 := g2
      have hn0 : n' = 0 := by simpa using g2
      subst hn0
      simp only [rgSt, mV] at g4
      simp [g4, mD, zeroMD, Inst.d, List.map_take, List.map_set, hg2, ((pv_set mem a.toNat v)).toD, ((pv_set mem a.toNat v)).hs, ((pv_set mem a.toNat v)).ren, ((pv_set mem a.toNat v)).pure]
    · exact absurd (Nat.le_trans g2 g3) (by simp)
  | false =>
    simp [k_ref1_Step, mD, cm, h0, hp, hi, hi2, hp0, hpl, hpn, Inst.d, wp, hm, ofD_ints, hrl, hrl3, hx, hx2, ha, ha2, hv]
    generalize hT : Task.loop _ _ _ = T
    have hG : RGoesTo T (.agg ((mem.map (V.int .i64)).set a.toNat (V.int .i64 v))) false ⟨6, a, b, n⟩ reps (pc + 1) := by
      rw [← hT]
      have := rgoes_loop (.agg ((mem.map (V.int .i64)).set a.toNat (V.int .i64 v))) (mem.set a.toNat v) (pv_set mem a.toNat v) false reps hLL hlf (pc + 1) ⟨6, a, b, n⟩ reps.length (Nat.le_refl _)
      simpa [RGoesTo, rgSt, mV, zeroMD, mD, Inst.d, Rep.d, List.map_set] using this
    clear hT
    unfold outD repsN
    rcases hG with ⟨g1, g2, g3, gg, g4⟩ | ⟨g1, g2, g3, z, g4, g5, g6⟩
    · simp only [g1, Bool.false_eq_true, if_false]
      rw [g3]
      clear g1 g3
      generalize (gN reps (pc + 1) (reps).length).2.1 = n' at *
      have hg2 := g2
      simp only [rgSt, mV] at g4
      simp [g4, mD, zeroMD, Inst.d, List.map_take, List.map_set, hg2, ((pv_set mem a.toNat v)).toD, ((pv_set mem a.toNat v)).hs, ((pv_set mem a.toNat v)).ren, ((pv_set mem a.toNat v)).pure]
    · simp only [g1, if_true, g4]
      rw [← g5]
      have tg := take_more reps _ g2 g3 ⟨z.first, z.last, z.left - 1⟩
      have hg3 := g3
      clear g1 g4 g5
      generalize (gN reps (pc + 1) (reps).length).2.1 = n' at *
      generalize hc : ((reps).take (n' - 1)).map Rep.d ++ [Rep.d ⟨z.first, z.last, z.left - 1⟩] = cells at *
      have hcl : cells.length = n' := by rw [← hc]; simp; omega
      clear hc
      simp only [rgStR, mV] at g6
      simp [g6, mD, zeroMD, tg, Inst.d, hcl, hg3, List.map_set, ((pv_set mem a.toNat v)).toD, ((pv_set mem a.toNat v)).hs, ((pv_set mem a.toNat v)).ren, ((pv_set mem a.toNat v)).pure]
set_option maxRecDepth 10000 in
set_option maxHeartbeats 16000000 in
theorem rstep_7 (l : List Inst) (nl : Bool) (hl : l.length ≤ 100000) (pc : Int) (mem : List Int) (rn : Bool) (reps : List Rep) (hn : rn = true → reps = []) (hLL : reps.length ≤ 100000) (hlf : ∀ x ∈ reps, x.left ≤ 9223372036854775807) (h0 : 0 ≤ pc) (hp : pc < l.length) (i : Inst) (hi : l[pc.toNat]? = some i) (hm : mem.length = 8) (hmay : mayF i = true) (hop : i.op = 7) (x : Int) (hx : mem[i.a.toNat]? = some x) (ha : 0 ≤ i.a ∧ i.a < 8) (hn24 : 1 ≤ i.n ∧ i.n ≤ 24) :
    run kp (.data f_ref1_Step [.sl nl (l.map Inst.d), mD pc mem rn reps false]) = some (.ds [outD (if x = 0 then pc + 1 + i.n else pc + 1) mem false reps false, i.d, .bool true]) := by
  obtain ⟨op, a, b, n⟩ := i
  simp only at *
  subst hop
  have hi2 : ∀ hh : pc.toNat < l.length, l[pc.toNat] = ⟨7, a, b, n⟩ := fun hh => by rw [List.getElem?_eq_getElem hh] at hi; injection hi
  have hx2 : ∀ hh : a.toNat < mem.length, mem[a.toNat] = x := fun hh => by rw [List.getElem?_eq_getElem hh] at hx; injection hx
  have ha2 : a.toNat < 8 := by omega
  have cm := ref1_MayInst ⟨7, a, b, n⟩
  rw [hmay] at cm
  simp only [Inst.d] at cm
  have hpl : ¬ (l.length : Int) ≤ pc := by omega
  have hp0 : ¬ pc < 0 := by omega
  have hpn : pc.toNat < l.length := by omega
  have wp : IntKind.i64.wrap (pc + 1) = pc + 1 := wrap_i64 (by omega) (by omega)
  have hrl : reps.length ≤ 1073741824 := by omega
  have hrl3 : reps.length ≤ 1073741823 := by omega
  rw [run_data, run_call, kp_ref1_Step]
  have wp2 : IntKind.i64.wrap (pc + 1 + n) = pc + 1 + n := wrap_i64 (by omega) (by omega)
  by_cases hz : x = 0
  · subst hz
    simp only [if_true]
    cases rn with
    | true =>
      have := hn rfl; subst this
      simp [k_ref1_Step, mD, cm, h0, hp, hi, hi2, hp0, hpl, hpn, Inst.d, wp, hm, ofD_ints, hrl, hrl3, hx, hx2, ha, ha2, wp2]
      generalize hT : Task.loop _ _ _ = T
      have hG : RGoesTo T (.d (.agg (mem.map (.int .i64)))) false ⟨7, a, b, n⟩ ([] : List Rep) (pc + 1 + n) := by
        rw [← hT]
        have := rgoes_loop (.d (.agg (mem.map (.int .i64)))) mem (pv_d mem) false ([] : List Rep) hLL hlf (pc + 1 + n) ⟨7, a, b, n⟩ ([] : List Rep).length (Nat.le_refl _)
        simpa [RGoesTo, rgSt, mV, zeroMD, mD, Inst.d, Rep.d, List.map_set] using this
      clear hT
      unfold outD repsN
      rcases hG with ⟨g1, g2, g3, gg, g4⟩ | ⟨g1, g2, g3, z, g4, g5, g6⟩
      · simp only [g1, Bool.false_eq_true, if_false]
        rw [g3]
        clear g1 g3
        generalize (gN ([] : List Rep) (pc + 1 + n) (([] : List Rep)).length).2.1 = n' at *
        have hg2 := g2
        have hn0 : n' = 0 := by simpa using g2
        subst hn0
        simp only [rgSt, mV] at g4
        simp [g4, mD, zeroMD, Inst.d, List.map_take, List.map_set, hg2, ((pv_d mem)).toD, ((pv_d mem)).hs, ((pv_d mem)).ren, ((pv_d mem)).pure]
      · exact absurd (Nat.le_trans g2 g3) (by simp)
    | false =>
      simp [k_ref1_Step, mD, cm, h0, hp, hi, hi2, hp0, hpl, hpn, Inst.d, wp, hm, ofD_ints, hrl, hrl3, hx, hx2, ha, ha2, wp2]
      generalize hT : Task.loop _ _ _ = T
      have hG : RGoesTo T (.d (.agg (mem.map (.int .i64)))) false ⟨7, a, b, n⟩ reps (pc + 1 + n) := by
        rw [← hT]
        have := rgoes_loop (.d (.agg (mem.map (.int .i64)))) mem (pv_d mem) false reps hLL hlf (pc + 1 + n) ⟨7, a, b, n⟩ reps.length (Nat.le_refl _)
        simpa [RGoesTo, rgSt, mV, zeroMD, mD, Inst.d, Rep.d, List.map_set] using this
      clear hT
      unfold outD repsN
      rcases hG with ⟨g1, g2, g3, gg, g4⟩ | ⟨g1, g2, g3, z, g4, g5, g6⟩
      · simp only [g1, Bool.false_eq_true, if_false]
        rw [g3]
        clear g1 g3
        generalize (gN reps (pc + 1 + n) (reps).length).2.1 = n' at *
        have hg2 := g2
        simp only [rgSt, mV] at g4
        simp [g4, mD, zeroMD, Inst.d, List.map_take, List.map_set, hg2, ((pv_d mem)).toD, ((pv_d mem)).hs, ((pv_d mem)).ren, ((pv_d mem)).pure]
      · simp only [g1, if_true, g4]
        rw [← g5]
        have tg := take_more reps _ g2 g3 ⟨z.first, z.last, z.left - 1⟩
        have hg3 := g3
        clear g1 g4 g5
        generalize (gN reps (pc + 1 + n) (reps).length).2.1 = n' at *
        generalize hc : ((reps).take (n' - 1)).map Rep.d ++ [Rep.d ⟨z.first, z.last, z.left - 1⟩] = cells at *
        have hcl : cells.length = n' := by rw [← hc]; simp; omega
        clear hc
        simp only [rgStR, mV] at g6
        simp [g6, mD, zeroMD, tg, Inst.d, hcl, hg3, List.map_set, ((pv_d mem)).toD, ((pv_d mem)).hs, ((pv_d mem)).ren, ((pv_d mem)).pure]
  · simp only [hz, if_false]
    cases rn with
    | true =>
      have := hn rfl; subst this
      simp [k_ref1_Step, mD, cm, h0, hp, hi, hi2, hp0, hpl, hpn, Inst.d, wp, hm, ofD_ints, hrl, hrl3, hx, hx2, ha, ha2, hz]
      generalize hT : Task.loop _ _ _ = T
      have hG : RGoesTo T (.d (.agg (mem.map (.int .i64)))) false ⟨7, a, b, n⟩ ([] : List Rep) (pc + 1) := by
        rw [← hT]
        have := rgoes_loop (.d (.agg (mem.map (.int .i64)))) mem (pv_d mem) false ([] : List Rep) hLL hlf (pc + 1) ⟨7, a, b, n⟩ ([] : List Rep).length (Nat.le_refl _)
        simpa [RGoesTo, rgSt, mV, zeroMD, mD, Inst.d, Rep.d, List.map_set] using this
      clear hT
      unfold outD repsN
      rcases hG with ⟨g1, g2, g3, gg, g4⟩ | ⟨g1, g2, g3, z, g4, g5, g6⟩
      · simp only [g1, Bool.false_eq_true, if_false]
        rw [g3]
        clear g1 g3
        generalize (gN ([] : List Rep) (pc + 1) (([] : List Rep)).length).2.1 = n' at *
        have hg2 := g2
        have hn0 : n' = 0 := by simpa using g2
        subst hn0
        simp only [rgSt, mV] at g4
        simp [g4, mD, zeroMD, Inst.d, List.map_take, List.map_set, hg2, ((pv_d mem)).toD, ((pv_d mem)).hs, ((pv_d mem)).ren, ((pv_d mem)).pure]
      · exact absurd (Nat.le_trans g2 g3) (by simp)
    | false =>
      simp [k_ref1_Step, mD, cm, h0, hp, hi, hi2, hp0, hpl, hpn, Inst.d, wp, hm, ofD_ints, hrl, hrl3, hx, hx2, ha, ha2, hz]
      generalize hT : Task.loop _ _ _ = T
      have hG : RGoesTo T (.d (.agg (mem.map (.int .i64)))) false ⟨7, a, b, n⟩ reps (pc + 1) := by
        rw [← hT]
        have := rgoes_loop (.d (.agg (mem.map (.int .i64)))) mem (pv_d mem) false reps hLL hlf (pc + 1) ⟨7, a, b, n⟩ reps.length (Nat.le_refl _)
        simpa [RGoesTo, rgSt, mV, zeroMD, mD, Inst.d, Rep.d, List.map_set] using this
      clear hT
      unfold outD repsN
      rcases hG with ⟨g1, g2, g3, gg, g4⟩ | ⟨g1, g2, g3, z, g4, g5, g6⟩
      · simp only [g1, Bool.false_eq_true, if_false]
        rw [g3]
        clear g1 g3
        generalize (gN reps (pc + 1) (reps).length).2.1 = n' at *
        have hg2 := g2
        simp only [rgSt, mV] at g4
        simp [g4, mD, zeroMD, Inst.d, List.map_take, List.map_set, hg2, ((pv_d mem)).toD, ((pv_d mem)).hs, ((pv_d mem)).ren, ((pv_d mem)).pure]
      · simp only [g1, if_true, g4]
        rw [← g5]
        have tg := take_more reps _ g2 g3 ⟨z.first, z.last, z.left - 1⟩
        have hg3 := g3
        clear g1 g4 g5
        generalize (gN reps (pc + 1) (reps).length).2.1 = n' at *
        generalize hc : ((reps).take (n' - 1)).map Rep.d ++ [Rep.d ⟨z.first, z.last, z.left - 1⟩] = cells at *
        have hcl : cells.length = n' := by rw [← hc]; simp; omega
        clear hc
        simp only [rgStR, mV] at g6
        simp [g6, mD, zeroMD, tg, Inst.d, hcl, hg3, List.map_set, ((pv_d mem)).toD, ((pv_d mem)).hs, ((pv_d mem)).ren, ((pv_d mem)).pure]
set_option maxRecDepth 10000 in
set_option maxHeartbeats 16000000 in
theorem rstep_8 (l : List Inst) (nl : Bool) (hl : l.length ≤ 100000) (pc : Int) (mem : List Int) (rn : Bool) (reps : List Rep) (hn : rn = true → reps = []) (hLL0 : reps.length ≤ 90000) (hlf0 : ∀ x ∈ reps, x.left ≤ 9223372036854775807) (h0 : 0 ≤ pc) (hp : pc < l.length) (i : Inst) (hi : l[pc.toNat]? = some i) (hm : mem.length = 8) (hmay : mayF i = true) (hop : i.op = 8) (hbb : 1 ≤ i.b ∧ i.b ≤ 24) (hnn : 1 ≤ i.n ∧ i.n ≤ 20) :
    run kp (.data f_ref1_Step [.sl nl (l.map Inst.d), mD pc mem rn reps false]) = some (.ds [outD (pc + 1) mem false (reps ++ [⟨pc + 1, pc + i.b, i.n - 1⟩]) false, i.d, .bool true]) := by
  obtain ⟨op, a, b, n⟩ := i
  simp only at *
  subst hop
  have hi2 : ∀ hh : pc.toNat < l.length, l[pc.toNat] = ⟨8, a, b, n⟩ := fun hh => by rw [List.getElem?_eq_getElem hh] at hi; injection hi
  have cm := ref1_MayInst ⟨8, a, b, n⟩
  rw [hmay] at cm
  simp only [Inst.d] at cm
  have hpl : ¬ (l.length : Int) ≤ pc := by omega
  have hp0 : ¬ pc < 0 := by omega
  have hpn : pc.toNat < l.length := by omega
  have wp : IntKind.i64.wrap (pc + 1) = pc + 1 := wrap_i64 (by omega) (by omega)
  have hrl : reps.length ≤ 1073741824 := by omega
  have hrl3 : reps.length ≤ 1073741823 := by omega
  rw [run_data, run_call, kp_ref1_Step]
  have wb : IntKind.i64.wrap (pc + b) = pc + b := wrap_i64 (by omega) (by omega)
  have wn : IntKind.i64.wrap (n - 1) = n - 1 := wrap_i64 (by omega) (by omega)
  cases rn with
  | true =>
    have := hn rfl; subst this
    simp [k_ref1_Step, mD, cm, h0, hp, hi, hi2, hp0, hpl, hpn, Inst.d, wp, hm, ofD_ints, hrl, hrl3, wb, wn]
    have hLL : [(⟨pc + 1, pc + b, n - 1⟩ : Rep)].length ≤ 100000 := by simp
    have hlf : ∀ x ∈ [(⟨pc + 1, pc + b, n - 1⟩ : Rep)], x.left ≤ 9223372036854775807 := by
      intro x hx
      simp at hx; subst hx; simp only; omega
    generalize hT : Task.loop _ _ _ = T
    have hG : RGoesTo T (.d (.agg (mem.map (.int .i64)))) false ⟨8, a, b, n⟩ [(⟨pc + 1, pc + b, n - 1⟩ : Rep)] (pc + 1) := by
      rw [← hT]
      have := rgoes_loop (.d (.agg (mem.map (.int .i64)))) mem (pv_d mem) false [(⟨pc + 1, pc + b, n - 1⟩ : Rep)] hLL hlf (pc + 1) ⟨8, a, b, n⟩ [(⟨pc + 1, pc + b, n - 1⟩ : Rep)].length (Nat.le_refl _)
      simpa [RGoesTo, rgSt, mV, zeroMD, mD, Inst.d, Rep.d, List.map_set] using this
    clear hT
    unfold outD repsN
    rcases hG with ⟨g1, g2, g3, gg, g4⟩ | ⟨g1, g2, g3, z, g4, g5, g6⟩
    · simp only [g1, Bool.false_eq_true, if_false]
      rw [g3]
      clear g1 g3
      generalize (gN [(⟨pc + 1, pc + b, n - 1⟩ : Rep)] (pc + 1) ([(⟨pc + 1, pc + b, n - 1⟩ : Rep)]).length).2.1 = n' at *
      have hg2 := g2
      have hg2 : n' ≤ 1 := by simpa using g2
      simp only [rgSt, mV] at g4
      simp [g4, mD, zeroMD, Inst.d, List.map_take, List.map_set, hg2, ((pv_d mem)).toD, ((pv_d mem)).hs, ((pv_d mem)).ren, ((pv_d mem)).pure]
    · simp only [g1, if_true, g4]
      rw [← g5]
      have tg := take_more [(⟨pc + 1, pc + b, n - 1⟩ : Rep)] _ g2 g3 ⟨z.first, z.last, z.left - 1⟩
      have hg3 := g3
      clear g1 g4 g5
      generalize (gN [(⟨pc + 1, pc + b, n - 1⟩ : Rep)] (pc + 1) ([(⟨pc + 1, pc + b, n - 1⟩ : Rep)]).length).2.1 = n' at *
      have hg3 : n' ≤ 1 := by simpa using g3
      generalize hc : (([(⟨pc + 1, pc + b, n - 1⟩ : Rep)]).take (n' - 1)).map Rep.d ++ [Rep.d ⟨z.first, z.last, z.left - 1⟩] = cells at *
      have hcl : cells.length = n' := by rw [← hc]; simp; omega
      clear hc
      simp only [rgStR, mV] at g6
      simp [g6, mD, zeroMD, tg, Inst.d, hcl, hg3, List.map_set, ((pv_d mem)).toD, ((pv_d mem)).hs, ((pv_d mem)).ren, ((pv_d mem)).pure]
  | false =>
    simp [k_ref1_Step, mD, cm, h0, hp, hi, hi2, hp0, hpl, hpn, Inst.d, wp, hm, ofD_ints, hrl, hrl3, wb, wn]
    obtain ⟨L, hLe⟩ : ∃ L, L = reps ++ [(⟨pc + 1, pc + b, n - 1⟩ : Rep)] := ⟨_, rfl⟩
    have hLL : L.length ≤ 100000 := by rw [hLe]; simp at *; try omega
    have hlf : ∀ x ∈ L, x.left ≤ 9223372036854775807 := by
      rw [hLe]; intro x hx
      rcases List.mem_append.1 hx with hx | hx
      · exact hlf0 x hx
      · simp at hx; subst hx; simp only; omega
    have hLm : L.map Rep.d = reps.map Rep.d ++ [D.agg [.int .i64 (pc + 1), .int .i64 (pc + b), .int .i64 (n - 1)]] := by rw [hLe]; simp [Rep.d]
    have hLn : L.length = reps.length + 1 := by rw [hLe]; simp
    rw [← hLe, ← hLm, ← hLn]
    clear hLm hLn hLe
    generalize hT : Task.loop _ _ _ = T
    have hG : RGoesTo T (.d (.agg (mem.map (.int .i64)))) false ⟨8, a, b, n⟩ L (pc + 1) := by
      rw [← hT]
      have := rgoes_loop (.d (.agg (mem.map (.int .i64)))) mem (pv_d mem) false L hLL hlf (pc + 1) ⟨8, a, b, n⟩ L.length (Nat.le_refl _)
      simpa [RGoesTo, rgSt, mV, zeroMD, mD, Inst.d, Rep.d, List.map_set] using this
    clear hT
    unfold outD repsN
    rcases hG with ⟨g1, g2, g3, gg, g4⟩ | ⟨g1, g2, g3, z, g4, g5, g6⟩
    · simp only [g1, Bool.false_eq_true, if_false]
      rw [g3]
      clear g1 g3
      generalize (gN L (pc + 1) (L).length).2.1 = n' at *
      have hg2 := g2
      simp only [rgSt, mV] at g4
      simp [g4, mD, zeroMD, Inst.d, List.map_take, List.map_set, hg2, ((pv_d mem)).toD, ((pv_d mem)).hs, ((pv_d mem)).ren, ((pv_d mem)).pure]
    · simp only [g1, if_true, g4]
      rw [← g5]
      have tg := take_more L _ g2 g3 ⟨z.first, z.last, z.left - 1⟩
      have hg3 := g3
      clear g1 g4 g5
      generalize (gN L (pc + 1) (L).length).2.1 = n' at *
      generalize hc : ((L).take (n' - 1)).map Rep.d ++ [Rep.d ⟨z.first, z.last, z.left - 1⟩] = cells at *
      have hcl : cells.length = n' := by rw [← hc]; simp; omega
      clear hc
      simp only [rgStR, mV] at g6
      simp [g6, mD, zeroMD, tg, Inst.d, hcl, hg3, List.map_set, ((pv_d mem)).toD, ((pv_d mem)).hs, ((pv_d mem)).ren, ((pv_d mem)).pure]
set_option maxRecDepth 10000 in
set_option maxHeartbeats 16000000 in
theorem rstep_9 (l : List Inst) (nl : Bool) (hl : l.length ≤ 100000) (pc : Int) (mem : List Int) (rn : Bool) (reps : List Rep) (hn : rn = true → reps = []) (hLL : reps.length ≤ 100000) (hlf : ∀ x ∈ reps, x.left ≤ 9223372036854775807) (h0 : 0 ≤ pc) (hp : pc < l.length) (i : Inst) (hi : l[pc.toNat]? = some i) (hm : mem.length = 8) (hmay : mayF i = true) (hop : i.op = 9)  :
    run kp (.data f_ref1_Step [.sl nl (l.map Inst.d), mD pc mem rn reps false]) = some (.ds [outD (pc + 1) mem false reps false, i.d, .bool true]) := by
  obtain ⟨op, a, b, n⟩ := i
  simp only at *
  subst hop
  have hi2 : ∀ hh : pc.toNat < l.length, l[pc.toNat] = ⟨9, a, b, n⟩ := fun hh => by rw [List.getElem?_eq_getElem hh] at hi; injection hi
  have cm := ref1_MayInst ⟨9, a, b, n⟩
  rw [hmay] at cm
  simp only [Inst.d] at cm
  have hpl : ¬ (l.length : Int) ≤ pc := by omega
  have hp0 : ¬ pc < 0 := by omega
  have hpn : pc.toNat < l.length := by omega
  have wp : IntKind.i64.wrap (pc + 1) = pc + 1 := wrap_i64 (by omega) (by omega)
  have hrl : reps.length ≤ 1073741824 := by omega
  have hrl3 : reps.length ≤ 1073741823 := by omega
  rw [run_data, run_call, kp_ref1_Step]
  cases rn with
  | true =>
    have := hn rfl; subst this
    simp [k_ref1_Step, mD, cm, h0, hp, hi, hi2, hp0, hpl, hpn, Inst.d, wp, hm, ofD_ints, hrl, hrl3]
    generalize hT : Task.loop _ _ _ = T
    have hG : RGoesTo T (.d (.agg (mem.map (.int .i64)))) false ⟨9, a, b, n⟩ ([] : List Rep) (pc + 1) := by
      rw [← hT]
      have := rgoes_loop (.d (.agg (mem.map (.int .i64)))) mem (pv_d mem) false ([] : List Rep) hLL hlf (pc + 1) ⟨9, a, b, n⟩ ([] : List Rep).length (Nat.le_refl _)
      simpa [RGoesTo, rgSt, mV, zeroMD, mD, Inst.d, Rep.d, List.map_set] using this
    clear hT
    unfold outD repsN
    rcases hG with ⟨g1, g2, g3, gg, g4⟩ | ⟨g1, g2, g3, z, g4, g5, g6⟩
    · simp only [g1, Bool.false_eq_true, if_false]
      rw [g3]
      clear g1 g3
      generalize (gN ([] : List Rep) (pc + 1) (([] : List Rep)).length).2.1 = n' at *
      have hg2 := g2
      have hn0 : n' = 0 := by simpa using g2
      subst hn0
      simp only [rgSt, mV] at g4
      simp [g4, mD, zeroMD, Inst.d, List.map_take, List.map_set, hg2, ((pv_d mem)).toD, ((pv_d mem)).hs, ((pv_d mem)).ren, ((pv_d mem)).pure]
    · exact absurd (Nat.le_trans g2 g3) (by simp)
  | false =>
    simp [k_ref1_Step, mD, cm, h0, hp, hi, hi2, hp0, hpl, hpn, Inst.d, wp, hm, ofD_ints, hrl, hrl3]
    generalize hT : Task.loop _ _ _ = T
    have hG : RGoesTo T (.d (.agg (mem.map (.int .i64)))) false ⟨9, a, b, n⟩ reps (pc + 1) := by
      rw [← hT]
      have := rgoes_loop (.d (.agg (mem.map (.int .i64)))) mem (pv_d mem) false reps hLL hlf (pc + 1) ⟨9, a, b, n⟩ reps.length (Nat.le_refl _)
      simpa [RGoesTo, rgSt, mV, zeroMD, mD, Inst.d, Rep.d, List.map_set] using this
    clear hT
    unfold outD repsN
    rcases hG with ⟨g1, g2, g3, gg, g4⟩ | ⟨g1, g2, g3, z, g4, g5, g6⟩
    · simp only [g1, Bool.false_eq_true, if_false]
      rw [g3]
      clear g1 g3
      generalize (gN reps (pc + 1) (reps).length).2.1 = n' at *
      have hg2 := g2
      simp only [rgSt, mV] at g4
      simp [g4, mD, zeroMD, Inst.d, List.map_take, List.map_set, hg2, ((pv_d mem)).toD, ((pv_d mem)).hs, ((pv_d mem)).ren, ((pv_d mem)).pure]
    · simp only [g1, if_true, g4]
      rw [← g5]
      have tg := take_more reps _ g2 g3 ⟨z.first, z.last, z.left - 1⟩
      have hg3 := g3
      clear g1 g4 g5
      generalize (gN reps (pc + 1) (reps).length).2.1 = n' at *
      generalize hc : ((reps).take (n' - 1)).map Rep.d ++ [Rep.d ⟨z.first, z.last, z.left - 1⟩] = cells at *
      have hcl : cells.length = n' := by rw [← hc]; simp; omega
      clear hc
      simp only [rgStR, mV] at g6
      simp [g6, mD, zeroMD, tg, Inst.d, hcl, hg3, List.map_set, ((pv_d mem)).toD, ((pv_d mem)).hs, ((pv_d mem)).ren, ((pv_d mem)).pure]
set_option maxRecDepth 10000 in
set_option maxHeartbeats 16000000 in
theorem rstep_10 (l : List Inst) (nl : Bool) (hl : l.length ≤ 100000) (pc : Int) (mem : List Int) (rn : Bool) (reps : List Rep) (hn : rn = true → reps = []) (hLL : reps.length ≤ 100000) (hlf : ∀ x ∈ reps, x.left ≤ 9223372036854775807) (h0 : 0 ≤ pc) (hp : pc < l.length) (i : Inst) (hi : l[pc.toNat]? = some i) (hm : mem.length = 8) (hmay : mayF i = true) (hop : i.op = 10)  :
    run kp (.data f_ref1_Step [.sl nl (l.map Inst.d), mD pc mem rn reps false]) = some (.ds [outD (pc + 1) mem false reps false, i.d, .bool true]) := by
  obtain ⟨op, a, b, n⟩ := i
  simp only at *
  subst hop
  have hi2 : ∀ hh : pc.toNat < l.length, l[pc.toNat] = ⟨10, a, b, n⟩ := fun hh => by rw [List.getElem?_eq_getElem hh] at hi; injection hi
  have cm := ref1_MayInst ⟨10, a, b, n⟩
  rw [hmay] at cm
  simp only [Inst.d] at cm
  have hpl : ¬ (l.length : Int) ≤ pc := by omega
  have hp0 : ¬ pc < 0 := by omega
  have hpn : pc.toNat < l.length := by omega
  have wp : IntKind.i64.wrap (pc + 1) = pc + 1 := wrap_i64 (by omega) (by omega)
  have hrl : reps.length ≤ 1073741824 := by omega
  have hrl3 : reps.length ≤ 1073741823 := by omega
  rw [run_data, run_call, kp_ref1_Step]
  cases rn with
  | true =>
    have := hn rfl; subst this
    simp [k_ref1_Step, mD, cm, h0, hp, hi, hi2, hp0, hpl, hpn, Inst.d, wp, hm, ofD_ints, hrl, hrl3]
    generalize hT : Task.loop _ _ _ = T
    have hG : RGoesTo T (.d (.agg (mem.map (.int .i64)))) false ⟨10, a, b, n⟩ ([] : List Rep) (pc + 1) := by
      rw [← hT]
      have := rgoes_loop (.d (.agg (mem.map (.int .i64)))) mem (pv_d mem) false ([] : List Rep) hLL hlf (pc + 1) ⟨10, a, b, n⟩ ([] : List Rep).length (Nat.le_refl _)
      simpa [RGoesTo, rgSt, mV, zeroMD, mD, Inst.d, Rep.d, List.map_set] using this
    clear hT
    unfold outD repsN
    rcases hG with ⟨g1, g2, g3, gg, g4⟩ | ⟨g1, g2, g3, z, g4, g5, g6⟩
    · simp only [g1, Bool.false_eq_true, if_false]
      rw [g3]
      clear g1 g3
      generalize (gN ([] : List Rep) (pc + 1) (([] : List Rep)).length).2.1 = n' at *
      have hg2 := g2
      have hn0 : n' = 0 := by simpa using g2
      subst hn0
      simp only [rgSt, mV] at g4
      simp [g4, mD, zeroMD, Inst.d, List.map_take, List.map_set, hg2, ((pv_d mem)).toD, ((pv_d mem)).hs, ((pv_d mem)).ren, ((pv_d mem)).pure]
    · exact absurd (Nat.le_trans g2 g3) (by simp)
  | false =>
    simp [k_ref1_Step, mD, cm, h0, hp, hi, hi2, hp0, hpl, hpn, Inst.d, wp, hm, ofD_ints, hrl, hrl3]
    generalize hT : Task.loop _ _ _ = T
    have hG : RGoesTo T (.d (.agg (mem.map (.int .i64)))) false ⟨10, a, b, n⟩ reps (pc + 1) := by
      rw [← hT]
      have := rgoes_loop (.d (.agg (mem.map (.int .i64)))) mem (pv_d mem) false reps hLL hlf (pc + 1) ⟨10, a, b, n⟩ reps.length (Nat.le_refl _)
      simpa [RGoesTo, rgSt, mV, zeroMD, mD, Inst.d, Rep.d, List.map_set] using this
    clear hT
    unfold outD repsN
    rcases hG with ⟨g1, g2, g3, gg, g4⟩ | ⟨g1, g2, g3, z, g4, g5, g6⟩
    · simp only [g1, Bool.false_eq_true, if_false]
      rw [g3]
      clear g1 g3
      generalize (gN reps (pc + 1) (reps).length).2.1 = n' at *
      have hg2 := g2
      simp only [rgSt, mV] at g4
      simp [g4, mD, zeroMD, Inst.d, List.map_take, List.map_set, hg2, ((pv_d mem)).toD, ((pv_d mem)).hs, ((pv_d mem)).ren, ((pv_d mem)).pure]
    · simp only [g1, if_true, g4]
      rw [← g5]
      have tg := take_more reps _ g2 g3 ⟨z.first, z.last, z.left - 1⟩
      have hg3 := g3
      clear g1 g4 g5
      generalize (gN reps (pc + 1) (reps).length).2.1 = n' at *
      generalize hc : ((reps).take (n' - 1)).map Rep.d ++ [Rep.d ⟨z.first, z.last, z.left - 1⟩] = cells at *
      have hcl : cells.length = n' := by rw [← hc]; simp; omega
      clear hc
      simp only [rgStR, mV] at g6
      simp [g6, mD, zeroMD, tg, Inst.d, hcl, hg3, List.map_set, ((pv_d mem)).toD, ((pv_d mem)).hs, ((pv_d mem)).ren, ((pv_d mem)).pure]
set_option maxRecDepth 10000 in
set_option maxHeartbeats 16000000 in
theorem rstep_11 (l : List Inst) (nl : Bool) (hl : l.length ≤ 100000) (pc : Int) (mem : List Int) (rn : Bool) (reps : List Rep) (hn : rn = true → reps = []) (hLL : reps.length ≤ 100000) (hlf : ∀ x ∈ reps, x.left ≤ 9223372036854775807) (h0 : 0 ≤ pc) (hp : pc < l.length) (i : Inst) (hi : l[pc.toNat]? = some i) (hm : mem.length = 8) (hmay : mayF i = true) (hop : i.op = 11)  :
    run kp (.data f_ref1_Step [.sl nl (l.map Inst.d), mD pc mem rn reps false]) = some (.ds [outD (pc + 1) mem false reps false, i.d, .bool true]) := by
  obtain ⟨op, a, b, n⟩ := i
  simp only at *
  subst hop
  have hi2 : ∀ hh : pc.toNat < l.length, l[pc.toNat] = ⟨11, a, b, n⟩ := fun hh => by rw [List.getElem?_eq_getElem hh] at hi; injection hi
  have cm := ref1_MayInst ⟨11, a, b, n⟩
  rw [hmay] at cm
  simp only [Inst.d] at cm
  have hpl : ¬ (l.length : Int) ≤ pc := by omega
  have hp0 : ¬ pc < 0 := by omega
  have hpn : pc.toNat < l.length := by omega
  have wp : IntKind.i64.wrap (pc + 1) = pc + 1 := wrap_i64 (by omega) (by omega)
  have hrl : reps.length ≤ 1073741824 := by omega
  have hrl3 : reps.length ≤ 1073741823 := by omega
  rw [run_data, run_call, kp_ref1_Step]
  cases rn with
  | true =>
    have := hn rfl; subst this
    simp [k_ref1_Step, mD, cm, h0, hp, hi, hi2, hp0, hpl, hpn, Inst.d, wp, hm, ofD_ints, hrl, hrl3]
    generalize hT : Task.loop _ _ _ = T
    have hG : RGoesTo T (.d (.agg (mem.map (.int .i64)))) false ⟨11, a, b, n⟩ ([] : List Rep) (pc + 1) := by
      rw [← hT]
      have := rgoes_loop (.d (.agg (mem.map (.int .i64)))) mem (pv_d mem) false ([] : List Rep) hLL hlf (pc + 1) ⟨11, a, b, n⟩ ([] : List Rep).length (Nat.le_refl _)
      simpa [RGoesTo, rgSt, mV, zeroMD, mD, Inst.d, Rep.d, List.map_set] using this
    clear hT
    unfold outD repsN
    rcases hG with ⟨g1, g2, g3, gg, g4⟩ | ⟨g1, g2, g3, z, g4, g5, g6⟩
    · simp only [g1, Bool.false_eq_true, if_false]
      rw [g3]
      clear g1 g3
      generalize (gN ([] : List Rep) (pc + 1) (([] : List Rep)).length).2.1 = n' at *
      have hg2 := g2
      have hn0 : n' = 0 := by simpa using g2
      subst hn0
      simp only [rgSt, mV] at g4
      simp [g4, mD, zeroMD, Inst.d, List.map_take, List.map_set, hg2, ((pv_d mem)).toD, ((pv_d mem)).hs, ((pv_d mem)).ren, ((pv_d mem)).pure]
    · exact absurd (Nat.le_trans g2 g3) (by simp)
  | false =>
    simp [k_ref1_Step, mD, cm, h0, hp, hi, hi2, hp0, hpl, hpn, Inst.d, wp, hm, ofD_ints, hrl, hrl3]
    generalize hT : Task.loop _ _ _ = T
    have hG : RGoesTo T (.d (.agg (mem.map (.int .i64)))) false ⟨11, a, b, n⟩ reps (pc + 1) := by
      rw [← hT]
      have := rgoes_loop (.d (.agg (mem.map (.int .i64)))) mem (pv_d mem) false reps hLL hlf (pc + 1) ⟨11, a, b, n⟩ reps.length (Nat.le_refl _)
      simpa [RGoesTo, rgSt, mV, zeroMD, mD, Inst.d, Rep.d, List.map_set] using this
    clear hT
    unfold outD repsN
    rcases hG with ⟨g1, g2, g3, gg, g4⟩ | ⟨g1, g2, g3, z, g4, g5, g6⟩
    · simp only [g1, Bool.false_eq_true, if_false]
      rw [g3]
      clear g1 g3
      generalize (gN reps (pc + 1) (reps).length).2.1 = n' at *
      have hg2 := g2
      simp only [rgSt, mV] at g4
      simp [g4, mD, zeroMD, Inst.d, List.map_take, List.map_set, hg2, ((pv_d mem)).toD, ((pv_d mem)).hs, ((pv_d mem)).ren, ((pv_d mem)).pure]
    · simp only [g1, if_true, g4]
      rw [← g5]
      have tg := take_more reps _ g2 g3 ⟨z.first, z.last, z.left - 1⟩
      have hg3 := g3
      clear g1 g4 g5
      generalize (gN reps (pc + 1) (reps).length).2.1 = n' at *
      generalize hc : ((reps).take (n' - 1)).map Rep.d ++ [Rep.d ⟨z.first, z.last, z.left - 1⟩] = cells at *
      have hcl : cells.length = n' := by rw [← hc]; simp; omega
      clear hc
      simp only [rgStR, mV] at g6
      simp [g6, mD, zeroMD, tg, Inst.d, hcl, hg3, List.map_set, ((pv_d mem)).toD, ((pv_d mem)).hs, ((pv_d mem)).ren, ((pv_d mem)).pure]
end Go.Cd
