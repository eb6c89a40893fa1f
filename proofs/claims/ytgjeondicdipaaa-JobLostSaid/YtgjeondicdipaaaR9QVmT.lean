/- What Step does, by each instruction. No conditions. -/
import Derived.Test.YtgjeondicdipaaaR9QVmG
set_option linter.unusedVariables false
set_option linter.unusedSimpArgs false
namespace Go.Cd
open Go Go.Fw
def GoesTo (T : Task) (mv : V) (r : Nat) (over : Bool) (b : Nat) (L : List Rep) (pc : Int) : Prop :=
    ((gN L pc L.length).2.2 = false ∧ (gN L pc L.length).2.1 ≤ L.length ∧ (gN L pc L.length).1 = pc ∧ run kp T = some (.val (mV pc mv r (gN L pc L.length).2.1 over) [] b)) ∨
    ((gN L pc L.length).2.2 = true ∧ 1 ≤ (gN L pc L.length).2.1 ∧ (gN L pc L.length).2.1 ≤ L.length ∧ ∃ x, L[(gN L pc L.length).2.1 - 1]? = some x ∧
      run kp T = some (.val (mV (gN L pc L.length).1 mv r (gN L pc L.length).2.1 over) [(r, .row true ((L.map Rep.d).set ((gN L pc L.length).2.1 - 1) (Rep.d ⟨x.first, x.last, x.left - 1⟩)))] b))
theorem goesTo (mv : V) (mem : List Int) (hv : Pv mv mem) (r : Nat) (over : Bool) (tl : Nat → Option Blk) (b : Nat) (hrb : (r = 3 ∧ b = 5) ∨ (r = 5 ∧ b = 6) ∨ (r = 6 ∧ b = 7)) (L : List Rep) (hL : L.length ≤ 100000) (hleft : ∀ x ∈ L, x.left ≤ 9223372036854775807) (hrow : tl r = some (.row true (L.map Rep.d))) (pc : Int) :
    GoesTo (.call f_vm_goes [.agg [.int .i64 pc, mv, .sl false r 0 L.length, .bool over]] tl b) mv r over b L pc := vm_goes mv mem hv r over tl b hrb L hL hleft hrow pc
theorem ofD_ints (mem : List Int) : List.map (ofD ∘ D.int .i64) mem = List.map (V.int .i64) mem := rfl
theorem pv_set (mem : List Int) (k : Nat) (v : Int) : Pv (.agg ((mem.map (V.int .i64)).set k (V.int .i64 v))) (mem.set k v) := by
  have := pv_agg (mem.set k v)
  rwa [List.map_set] at this
@[simp] theorem frees_set (mem : List Int) (k : Nat) (v : Int) : D.frees ((mem.map (D.int .i64)).set k (D.int .i64 v)) = true := by
  have := frees_ints .i64 (mem.set k v)
  rwa [List.map_set] at this
@[simp] theorem hss_set (mem : List Int) (k : Nat) (v : Int) : V.hss ((mem.map (V.int .i64)).set k (V.int .i64 v)) = [] := by
  have := pv_hss (mem.set k v)
  rwa [List.map_set] at this
theorem ownAlls_ints (g : Nat → Option Blk) : ∀ mem : List Int, ownAlls g (mem.map (V.int .i64)) = true
  | [] => rfl
  | _ :: l => by simp [ownAlls, ownAll, ownAlls_ints g l]
@[simp] theorem ownAlls_set (g : Nat → Option Blk) (mem : List Int) (k : Nat) (v : Int) : ownAlls g ((mem.map (V.int .i64)).set k (V.int .i64 v)) = true := by
  have := ownAlls_ints g (mem.set k v)
  rwa [List.map_set] at this
@[simp] theorem toDs_set (g : Nat → Option Blk) (mem : List Int) (k : Nat) (v : Int) : toDs g ((mem.map (V.int .i64)).set k (V.int .i64 v)) = some ((mem.map (D.int .i64)).set k (D.int .i64 v)) := by
  have := pv_toDs g (mem.set k v)
  rwa [List.map_set, List.map_set] at this
def outD (pc : Int) (mem : List Int) (rn : Bool) (L : List Rep) (over : Bool) : D := mD (gN L pc L.length).1 mem rn (repsN L (gN L pc L.length)) over
theorem outD_nil (pc : Int) (mem : List Int) (rn over : Bool) : outD pc mem rn [] over = mD pc mem rn [] over := rfl
theorem take_gone (L : List Rep) (n : Nat) (h : n ≤ L.length) : List.take n (L.map Rep.d) = (L.take n).map Rep.d := by simp
theorem take_left (L : List Rep) (n : Nat) (h1 : 1 ≤ n) (h : n ≤ L.length) (y : Rep) : List.take n ((L.map Rep.d).set (n - 1) y.d) = (L.take (n - 1) ++ [y]).map Rep.d := by
  obtain ⟨m, rfl⟩ : ∃ m, n = m + 1 := ⟨n - 1, by omega⟩
  simp only [Nat.add_sub_cancel]
  have hm : m < L.length := by omega
  rw [List.take_add_one, List.take_set_of_le (Nat.le_refl m)]
  simp [hm]
set_option maxRecDepth 10000 in
set_option maxHeartbeats 16000000 in
theorem step_0 (l : List Inst) (nl : Bool) (hl : l.length ≤ 100000) (pc : Int) (mem : List Int) (rn : Bool) (reps : List Rep) (hn : rn = true → reps = []) (hLL : reps.length ≤ 100000) (hlf : ∀ x ∈ reps, x.left ≤ 9223372036854775807) (h0 : 0 ≤ pc) (hp : pc < l.length) (i : Inst) (hi : l[pc.toNat]? = some i) (hm : mem.length = 8) (hmay : mayF i = true) (x : Int) (hx : mem[i.a.toNat]? = some x) (y : Int) (hy : mem[(i.b.tmod 8).toNat]? = some y) (ha : 0 ≤ i.a ∧ i.a < 8) (hb : 0 ≤ i.b.tmod 8 ∧ i.b.tmod 8 < 8) (hop : i.op = 0)  :
    run kp (.data f_vm_Step [.sl nl (l.map Inst.d), mD pc mem rn reps false]) = some (.ds [outD pc mem rn reps true, i.d, .bool true]) := by
  obtain ⟨op, a, b, n⟩ := i
  simp only at *
  subst hop
  have hi2 : ∀ hh : pc.toNat < l.length, l[pc.toNat] = ⟨0, a, b, n⟩ := fun hh => by rw [List.getElem?_eq_getElem hh] at hi; injection hi
  have hx2 : ∀ hh : a.toNat < mem.length, mem[a.toNat] = x := fun hh => by rw [List.getElem?_eq_getElem hh] at hx; injection hx
  have hy2 : ∀ hh : (b.tmod 8).toNat < mem.length, mem[(b.tmod 8).toNat] = y := fun hh => by rw [List.getElem?_eq_getElem hh] at hy; injection hy
  have ha2 : a.toNat < 8 := by omega
  have cm := code_May ⟨0, a, b, n⟩
  rw [hmay] at cm
  simp only [Inst.d] at cm
  have tw := vm_twin pc mem rn reps false hn (by omega)
  simp only [mD] at tw
  have hpl : ¬ (l.length : Int) ≤ pc := by omega
  have hp0 : ¬ pc < 0 := by omega
  have hpn : pc.toNat < l.length := by omega
  have wp : IntKind.i64.wrap (pc + 1) = pc + 1 := wrap_i64 (by omega) (by omega)
  rw [run_data, run_call, kp_vm_Step]
  cases rn with
  | true =>
    have := hn rfl; subst this
    simp only [List.map_nil] at tw
    have gn := vm_goes_nil (.d (.agg (mem.map (.int .i64)))) mem (pv_d mem) true
    simp only [mD, List.map_set] at gn
    simp [k_vm_Step, mD, tw, cm, h0, hp, hi, hi2, hp0, hpl, hpn, Inst.d, wp, hx, hx2, hy, hy2, ha, ha2, hb, hm, ofD_ints, gn, outD_nil, List.map_set]
  | false =>
    simp [k_vm_Step, mD, tw, cm, h0, hp, hi, hi2, hp0, hpl, hpn, Inst.d, wp, hx, hx2, hy, hy2, ha, ha2, hb, hm, ofD_ints]
    generalize hT : Task.call f_vm_goes _ _ _ = T
    have hG : GoesTo T (.d (.agg (mem.map (.int .i64)))) 3 true 5 reps pc := by
      rw [← hT]
      exact goesTo (.d (.agg (mem.map (.int .i64)))) mem (pv_d mem) 3 true _ 5 (by decide) reps hLL hlf (by simp) pc
    clear hT
    unfold outD repsN
    rcases hG with ⟨g1, g2, g3, g4⟩ | ⟨g1, g2, g3, z, g4, g5⟩
    · simp only [g1, Bool.false_eq_true, if_false]
      rw [g3]
      clear g1 g3
      generalize (gN reps pc (reps).length).2.1 = n' at *
      have tg := take_gone reps n' g2
      have hg2 := g2
      simp only [mV] at g4
      clear tg
      simp [g4, mD, Inst.d, List.map_take, List.map_set, hg2, ((pv_d mem)).toD]
    · simp only [g1, if_true, g4]
      have tg := take_left reps _ g2 g3 ⟨z.first, z.last, z.left - 1⟩
      have hg3 := g3
      clear g1 g4
      generalize (gN reps pc (reps).length).2.1 = n' at *
      generalize (gN reps pc (reps).length).1 = pc' at *
      generalize hc : (reps.map Rep.d).set (n' - 1) (Rep.d ⟨z.first, z.last, z.left - 1⟩) = cells at *
      have hcl : cells.length = (reps).length := by rw [← hc]; simp
      clear hc
      simp only [mV] at g5
      simp [g5, mD, tg, Inst.d, hcl, hg3, List.map_set, ((pv_d mem)).toD]
set_option maxRecDepth 10000 in
set_option maxHeartbeats 16000000 in
theorem step_1 (l : List Inst) (nl : Bool) (hl : l.length ≤ 100000) (pc : Int) (mem : List Int) (rn : Bool) (reps : List Rep) (hn : rn = true → reps = []) (hLL : reps.length ≤ 100000) (hlf : ∀ x ∈ reps, x.left ≤ 9223372036854775807) (h0 : 0 ≤ pc) (hp : pc < l.length) (i : Inst) (hi : l[pc.toNat]? = some i) (hm : mem.length = 8) (hmay : mayF i = true) (x : Int) (hx : mem[i.a.toNat]? = some x) (y : Int) (hy : mem[(i.b.tmod 8).toNat]? = some y) (ha : 0 ≤ i.a ∧ i.a < 8) (hb : 0 ≤ i.b.tmod 8 ∧ i.b.tmod 8 < 8) (hop : i.op = 1)  :
    run kp (.data f_vm_Step [.sl nl (l.map Inst.d), mD pc mem rn reps false]) = some (.ds [outD (pc + 1) (mem.set i.a.toNat i.n) rn reps false, i.d, .bool true]) := by
  obtain ⟨op, a, b, n⟩ := i
  simp only at *
  subst hop
  have hi2 : ∀ hh : pc.toNat < l.length, l[pc.toNat] = ⟨1, a, b, n⟩ := fun hh => by rw [List.getElem?_eq_getElem hh] at hi; injection hi
  have hx2 : ∀ hh : a.toNat < mem.length, mem[a.toNat] = x := fun hh => by rw [List.getElem?_eq_getElem hh] at hx; injection hx
  have hy2 : ∀ hh : (b.tmod 8).toNat < mem.length, mem[(b.tmod 8).toNat] = y := fun hh => by rw [List.getElem?_eq_getElem hh] at hy; injection hy
  have ha2 : a.toNat < 8 := by omega
  have cm := code_May ⟨1, a, b, n⟩
  rw [hmay] at cm
  simp only [Inst.d] at cm
  have tw := vm_twin pc mem rn reps false hn (by omega)
  simp only [mD] at tw
  have hpl : ¬ (l.length : Int) ≤ pc := by omega
  have hp0 : ¬ pc < 0 := by omega
  have hpn : pc.toNat < l.length := by omega
  have wp : IntKind.i64.wrap (pc + 1) = pc + 1 := wrap_i64 (by omega) (by omega)
  rw [run_data, run_call, kp_vm_Step]
  cases rn with
  | true =>
    have := hn rfl; subst this
    simp only [List.map_nil] at tw
    have gn := vm_goes_nil (.agg ((mem.map (V.int .i64)).set a.toNat (V.int .i64 n))) (mem.set a.toNat n) (pv_set mem a.toNat n) false
    simp only [mD, List.map_set] at gn
    simp [k_vm_Step, mD, tw, cm, h0, hp, hi, hi2, hp0, hpl, hpn, Inst.d, wp, hx, hx2, hy, hy2, ha, ha2, hb, hm, ofD_ints, gn, outD_nil, List.map_set]
  | false =>
    simp [k_vm_Step, mD, tw, cm, h0, hp, hi, hi2, hp0, hpl, hpn, Inst.d, wp, hx, hx2, hy, hy2, ha, ha2, hb, hm, ofD_ints]
    generalize hT : Task.call f_vm_goes _ _ _ = T
    have hG : GoesTo T (.agg ((mem.map (V.int .i64)).set a.toNat (V.int .i64 n))) 3 false 5 reps (pc + 1) := by
      rw [← hT]
      exact goesTo (.agg ((mem.map (V.int .i64)).set a.toNat (V.int .i64 n))) (mem.set a.toNat n) (pv_set mem a.toNat n) 3 false _ 5 (by decide) reps hLL hlf (by simp) (pc + 1)
    clear hT
    unfold outD repsN
    rcases hG with ⟨g1, g2, g3, g4⟩ | ⟨g1, g2, g3, z, g4, g5⟩
    · simp only [g1, Bool.false_eq_true, if_false]
      rw [g3]
      clear g1 g3
      generalize (gN reps (pc + 1) (reps).length).2.1 = n' at *
      have tg := take_gone reps n' g2
      have hg2 := g2
      simp only [mV] at g4
      clear tg
      simp [g4, mD, Inst.d, List.map_take, List.map_set, hg2, ((pv_set mem a.toNat n)).toD]
    · simp only [g1, if_true, g4]
      have tg := take_left reps _ g2 g3 ⟨z.first, z.last, z.left - 1⟩
      have hg3 := g3
      clear g1 g4
      generalize (gN reps (pc + 1) (reps).length).2.1 = n' at *
      generalize (gN reps (pc + 1) (reps).length).1 = pc' at *
      generalize hc : (reps.map Rep.d).set (n' - 1) (Rep.d ⟨z.first, z.last, z.left - 1⟩) = cells at *
      have hcl : cells.length = (reps).length := by rw [← hc]; simp
      clear hc
      simp only [mV] at g5
      simp [g5, mD, tg, Inst.d, hcl, hg3, List.map_set, ((pv_set mem a.toNat n)).toD]
set_option maxRecDepth 10000 in
set_option maxHeartbeats 16000000 in
theorem step_2 (l : List Inst) (nl : Bool) (hl : l.length ≤ 100000) (pc : Int) (mem : List Int) (rn : Bool) (reps : List Rep) (hn : rn = true → reps = []) (hLL : reps.length ≤ 100000) (hlf : ∀ x ∈ reps, x.left ≤ 9223372036854775807) (h0 : 0 ≤ pc) (hp : pc < l.length) (i : Inst) (hi : l[pc.toNat]? = some i) (hm : mem.length = 8) (hmay : mayF i = true) (x : Int) (hx : mem[i.a.toNat]? = some x) (y : Int) (hy : mem[(i.b.tmod 8).toNat]? = some y) (ha : 0 ≤ i.a ∧ i.a < 8) (hb : 0 ≤ i.b.tmod 8 ∧ i.b.tmod 8 < 8) (hop : i.op = 2)  :
    run kp (.data f_vm_Step [.sl nl (l.map Inst.d), mD pc mem rn reps false]) = some (.ds [outD (pc + 1) (mem.set i.a.toNat (IntKind.i64.wrap (IntKind.u64.wrap (IntKind.u64.wrap x + IntKind.u64.wrap y)))) rn reps false, i.d, .bool true]) := by
  obtain ⟨op, a, b, n⟩ := i
  simp only at *
  subst hop
  have hi2 : ∀ hh : pc.toNat < l.length, l[pc.toNat] = ⟨2, a, b, n⟩ := fun hh => by rw [List.getElem?_eq_getElem hh] at hi; injection hi
  have hx2 : ∀ hh : a.toNat < mem.length, mem[a.toNat] = x := fun hh => by rw [List.getElem?_eq_getElem hh] at hx; injection hx
  have hy2 : ∀ hh : (b.tmod 8).toNat < mem.length, mem[(b.tmod 8).toNat] = y := fun hh => by rw [List.getElem?_eq_getElem hh] at hy; injection hy
  have ha2 : a.toNat < 8 := by omega
  have cm := code_May ⟨2, a, b, n⟩
  rw [hmay] at cm
  simp only [Inst.d] at cm
  have tw := vm_twin pc mem rn reps false hn (by omega)
  simp only [mD] at tw
  have hpl : ¬ (l.length : Int) ≤ pc := by omega
  have hp0 : ¬ pc < 0 := by omega
  have hpn : pc.toNat < l.length := by omega
  have wp : IntKind.i64.wrap (pc + 1) = pc + 1 := wrap_i64 (by omega) (by omega)
  rw [run_data, run_call, kp_vm_Step]
  cases rn with
  | true =>
    have := hn rfl; subst this
    simp only [List.map_nil] at tw
    have gn := vm_goes_nil (.agg ((mem.map (V.int .i64)).set a.toNat (V.int .i64 (IntKind.i64.wrap (IntKind.u64.wrap (IntKind.u64.wrap x + IntKind.u64.wrap y)))))) (mem.set a.toNat (IntKind.i64.wrap (IntKind.u64.wrap (IntKind.u64.wrap x + IntKind.u64.wrap y)))) (pv_set mem a.toNat (IntKind.i64.wrap (IntKind.u64.wrap (IntKind.u64.wrap x + IntKind.u64.wrap y)))) false
    simp only [mD, List.map_set] at gn
    simp [k_vm_Step, mD, tw, cm, h0, hp, hi, hi2, hp0, hpl, hpn, Inst.d, wp, hx, hx2, hy, hy2, ha, ha2, hb, hm, ofD_ints, gn, outD_nil, List.map_set]
  | false =>
    simp [k_vm_Step, mD, tw, cm, h0, hp, hi, hi2, hp0, hpl, hpn, Inst.d, wp, hx, hx2, hy, hy2, ha, ha2, hb, hm, ofD_ints]
    generalize hT : Task.call f_vm_goes _ _ _ = T
    have hG : GoesTo T (.agg ((mem.map (V.int .i64)).set a.toNat (V.int .i64 (IntKind.i64.wrap (IntKind.u64.wrap (IntKind.u64.wrap x + IntKind.u64.wrap y)))))) 3 false 5 reps (pc + 1) := by
      rw [← hT]
      exact goesTo (.agg ((mem.map (V.int .i64)).set a.toNat (V.int .i64 (IntKind.i64.wrap (IntKind.u64.wrap (IntKind.u64.wrap x + IntKind.u64.wrap y)))))) (mem.set a.toNat (IntKind.i64.wrap (IntKind.u64.wrap (IntKind.u64.wrap x + IntKind.u64.wrap y)))) (pv_set mem a.toNat (IntKind.i64.wrap (IntKind.u64.wrap (IntKind.u64.wrap x + IntKind.u64.wrap y)))) 3 false _ 5 (by decide) reps hLL hlf (by simp) (pc + 1)
    clear hT
    unfold outD repsN
    rcases hG with ⟨g1, g2, g3, g4⟩ | ⟨g1, g2, g3, z, g4, g5⟩
    · simp only [g1, Bool.false_eq_true, if_false]
      rw [g3]
      clear g1 g3
      generalize (gN reps (pc + 1) (reps).length).2.1 = n' at *
      have tg := take_gone reps n' g2
      have hg2 := g2
      simp only [mV] at g4
      clear tg
      simp [g4, mD, Inst.d, List.map_take, List.map_set, hg2, ((pv_set mem a.toNat (IntKind.i64.wrap (IntKind.u64.wrap (IntKind.u64.wrap x + IntKind.u64.wrap y))))).toD]
    · simp only [g1, if_true, g4]
      have tg := take_left reps _ g2 g3 ⟨z.first, z.last, z.left - 1⟩
      have hg3 := g3
      clear g1 g4
      generalize (gN reps (pc + 1) (reps).length).2.1 = n' at *
      generalize (gN reps (pc + 1) (reps).length).1 = pc' at *
      generalize hc : (reps.map Rep.d).set (n' - 1) (Rep.d ⟨z.first, z.last, z.left - 1⟩) = cells at *
      have hcl : cells.length = (reps).length := by rw [← hc]; simp
      clear hc
      simp only [mV] at g5
      simp [g5, mD, tg, Inst.d, hcl, hg3, List.map_set, ((pv_set mem a.toNat (IntKind.i64.wrap (IntKind.u64.wrap (IntKind.u64.wrap x + IntKind.u64.wrap y))))).toD]
set_option maxRecDepth 10000 in
set_option maxHeartbeats 16000000 in
theorem step_3 (l : List Inst) (nl : Bool) (hl : l.length ≤ 100000) (pc : Int) (mem : List Int) (rn : Bool) (reps : List Rep) (hn : rn = true → reps = []) (hLL : reps.length ≤ 100000) (hlf : ∀ x ∈ reps, x.left ≤ 9223372036854775807) (h0 : 0 ≤ pc) (hp : pc < l.length) (i : Inst) (hi : l[pc.toNat]? = some i) (hm : mem.length = 8) (hmay : mayF i = true) (x : Int) (hx : mem[i.a.toNat]? = some x) (y : Int) (hy : mem[(i.b.tmod 8).toNat]? = some y) (ha : 0 ≤ i.a ∧ i.a < 8) (hb : 0 ≤ i.b.tmod 8 ∧ i.b.tmod 8 < 8) (hop : i.op = 3)  :
    run kp (.data f_vm_Step [.sl nl (l.map Inst.d), mD pc mem rn reps false]) = some (.ds [outD (pc + 1) (mem.set i.a.toNat (IntKind.i64.wrap (IntKind.u64.wrap (IntKind.u64.wrap x - IntKind.u64.wrap y)))) rn reps false, i.d, .bool true]) := by
  obtain ⟨op, a, b, n⟩ := i
  simp only at *
  subst hop
  have hi2 : ∀ hh : pc.toNat < l.length, l[pc.toNat] = ⟨3, a, b, n⟩ := fun hh => by rw [List.getElem?_eq_getElem hh] at hi; injection hi
  have hx2 : ∀ hh : a.toNat < mem.length, mem[a.toNat] = x := fun hh => by rw [List.getElem?_eq_getElem hh] at hx; injection hx
  have hy2 : ∀ hh : (b.tmod 8).toNat < mem.length, mem[(b.tmod 8).toNat] = y := fun hh => by rw [List.getElem?_eq_getElem hh] at hy; injection hy
  have ha2 : a.toNat < 8 := by omega
  have cm := code_May ⟨3, a, b, n⟩
  rw [hmay] at cm
  simp only [Inst.d] at cm
  have tw := vm_twin pc mem rn reps false hn (by omega)
  simp only [mD] at tw
  have hpl : ¬ (l.length : Int) ≤ pc := by omega
  have hp0 : ¬ pc < 0 := by omega
  have hpn : pc.toNat < l.length := by omega
  have wp : IntKind.i64.wrap (pc + 1) = pc + 1 := wrap_i64 (by omega) (by omega)
  rw [run_data, run_call, kp_vm_Step]
  cases rn with
  | true =>
    have := hn rfl; subst this
    simp only [List.map_nil] at tw
    have gn := vm_goes_nil (.agg ((mem.map (V.int .i64)).set a.toNat (V.int .i64 (IntKind.i64.wrap (IntKind.u64.wrap (IntKind.u64.wrap x - IntKind.u64.wrap y)))))) (mem.set a.toNat (IntKind.i64.wrap (IntKind.u64.wrap (IntKind.u64.wrap x - IntKind.u64.wrap y)))) (pv_set mem a.toNat (IntKind.i64.wrap (IntKind.u64.wrap (IntKind.u64.wrap x - IntKind.u64.wrap y)))) false
    simp only [mD, List.map_set] at gn
    simp [k_vm_Step, mD, tw, cm, h0, hp, hi, hi2, hp0, hpl, hpn, Inst.d, wp, hx, hx2, hy, hy2, ha, ha2, hb, hm, ofD_ints, gn, outD_nil, List.map_set]
  | false =>
    simp [k_vm_Step, mD, tw, cm, h0, hp, hi, hi2, hp0, hpl, hpn, Inst.d, wp, hx, hx2, hy, hy2, ha, ha2, hb, hm, ofD_ints]
    generalize hT : Task.call f_vm_goes _ _ _ = T
    have hG : GoesTo T (.agg ((mem.map (V.int .i64)).set a.toNat (V.int .i64 (IntKind.i64.wrap (IntKind.u64.wrap (IntKind.u64.wrap x - IntKind.u64.wrap y)))))) 3 false 5 reps (pc + 1) := by
      rw [← hT]
      exact goesTo (.agg ((mem.map (V.int .i64)).set a.toNat (V.int .i64 (IntKind.i64.wrap (IntKind.u64.wrap (IntKind.u64.wrap x - IntKind.u64.wrap y)))))) (mem.set a.toNat (IntKind.i64.wrap (IntKind.u64.wrap (IntKind.u64.wrap x - IntKind.u64.wrap y)))) (pv_set mem a.toNat (IntKind.i64.wrap (IntKind.u64.wrap (IntKind.u64.wrap x - IntKind.u64.wrap y)))) 3 false _ 5 (by decide) reps hLL hlf (by simp) (pc + 1)
    clear hT
    unfold outD repsN
    rcases hG with ⟨g1, g2, g3, g4⟩ | ⟨g1, g2, g3, z, g4, g5⟩
    · simp only [g1, Bool.false_eq_true, if_false]
      rw [g3]
      clear g1 g3
      generalize (gN reps (pc + 1) (reps).length).2.1 = n' at *
      have tg := take_gone reps n' g2
      have hg2 := g2
      simp only [mV] at g4
      clear tg
      simp [g4, mD, Inst.d, List.map_take, List.map_set, hg2, ((pv_set mem a.toNat (IntKind.i64.wrap (IntKind.u64.wrap (IntKind.u64.wrap x - IntKind.u64.wrap y))))).toD]
    · simp only [g1, if_true, g4]
      have tg := take_left reps _ g2 g3 ⟨z.first, z.last, z.left - 1⟩
      have hg3 := g3
      clear g1 g4
      generalize (gN reps (pc + 1) (reps).length).2.1 = n' at *
      generalize (gN reps (pc + 1) (reps).length).1 = pc' at *
      generalize hc : (reps.map Rep.d).set (n' - 1) (Rep.d ⟨z.first, z.last, z.left - 1⟩) = cells at *
      have hcl : cells.length = (reps).length := by rw [← hc]; simp
      clear hc
      simp only [mV] at g5
      simp [g5, mD, tg, Inst.d, hcl, hg3, List.map_set, ((pv_set mem a.toNat (IntKind.i64.wrap (IntKind.u64.wrap (IntKind.u64.wrap x - IntKind.u64.wrap y))))).toD]
set_option maxRecDepth 10000 in
set_option maxHeartbeats 16000000 in
theorem step_4 (l : List Inst) (nl : Bool) (hl : l.length ≤ 100000) (pc : Int) (mem : List Int) (rn : Bool) (reps : List Rep) (hn : rn = true → reps = []) (hLL : reps.length ≤ 100000) (hlf : ∀ x ∈ reps, x.left ≤ 9223372036854775807) (h0 : 0 ≤ pc) (hp : pc < l.length) (i : Inst) (hi : l[pc.toNat]? = some i) (hm : mem.length = 8) (hmay : mayF i = true) (x : Int) (hx : mem[i.a.toNat]? = some x) (y : Int) (hy : mem[(i.b.tmod 8).toNat]? = some y) (ha : 0 ≤ i.a ∧ i.a < 8) (hb : 0 ≤ i.b.tmod 8 ∧ i.b.tmod 8 < 8) (hop : i.op = 4)  :
    run kp (.data f_vm_Step [.sl nl (l.map Inst.d), mD pc mem rn reps false]) = some (.ds [outD (pc + 1) (mem.set i.a.toNat (IntKind.i64.wrap (IntKind.u64.wrap (IntKind.u64.wrap x * IntKind.u64.wrap y)))) rn reps false, i.d, .bool true]) := by
  obtain ⟨op, a, b, n⟩ := i
  simp only at *
  subst hop
  have hi2 : ∀ hh : pc.toNat < l.length, l[pc.toNat] = ⟨4, a, b, n⟩ := fun hh => by rw [List.getElem?_eq_getElem hh] at hi; injection hi
  have hx2 : ∀ hh : a.toNat < mem.length, mem[a.toNat] = x := fun hh => by rw [List.getElem?_eq_getElem hh] at hx; injection hx
  have hy2 : ∀ hh : (b.tmod 8).toNat < mem.length, mem[(b.tmod 8).toNat] = y := fun hh => by rw [List.getElem?_eq_getElem hh] at hy; injection hy
  have ha2 : a.toNat < 8 := by omega
  have cm := code_May ⟨4, a, b, n⟩
  rw [hmay] at cm
  simp only [Inst.d] at cm
  have tw := vm_twin pc mem rn reps false hn (by omega)
  simp only [mD] at tw
  have hpl : ¬ (l.length : Int) ≤ pc := by omega
  have hp0 : ¬ pc < 0 := by omega
  have hpn : pc.toNat < l.length := by omega
  have wp : IntKind.i64.wrap (pc + 1) = pc + 1 := wrap_i64 (by omega) (by omega)
  rw [run_data, run_call, kp_vm_Step]
  cases rn with
  | true =>
    have := hn rfl; subst this
    simp only [List.map_nil] at tw
    have gn := vm_goes_nil (.agg ((mem.map (V.int .i64)).set a.toNat (V.int .i64 (IntKind.i64.wrap (IntKind.u64.wrap (IntKind.u64.wrap x * IntKind.u64.wrap y)))))) (mem.set a.toNat (IntKind.i64.wrap (IntKind.u64.wrap (IntKind.u64.wrap x * IntKind.u64.wrap y)))) (pv_set mem a.toNat (IntKind.i64.wrap (IntKind.u64.wrap (IntKind.u64.wrap x * IntKind.u64.wrap y)))) false
    simp only [mD, List.map_set] at gn
    simp [k_vm_Step, mD, tw, cm, h0, hp, hi, hi2, hp0, hpl, hpn, Inst.d, wp, hx, hx2, hy, hy2, ha, ha2, hb, hm, ofD_ints, gn, outD_nil, List.map_set]
  | false =>
    simp [k_vm_Step, mD, tw, cm, h0, hp, hi, hi2, hp0, hpl, hpn, Inst.d, wp, hx, hx2, hy, hy2, ha, ha2, hb, hm, ofD_ints]
    generalize hT : Task.call f_vm_goes _ _ _ = T
    have hG : GoesTo T (.agg ((mem.map (V.int .i64)).set a.toNat (V.int .i64 (IntKind.i64.wrap (IntKind.u64.wrap (IntKind.u64.wrap x * IntKind.u64.wrap y)))))) 3 false 5 reps (pc + 1) := by
      rw [← hT]
      exact goesTo (.agg ((mem.map (V.int .i64)).set a.toNat (V.int .i64 (IntKind.i64.wrap (IntKind.u64.wrap (IntKind.u64.wrap x * IntKind.u64.wrap y)))))) (mem.set a.toNat (IntKind.i64.wrap (IntKind.u64.wrap (IntKind.u64.wrap x * IntKind.u64.wrap y)))) (pv_set mem a.toNat (IntKind.i64.wrap (IntKind.u64.wrap (IntKind.u64.wrap x * IntKind.u64.wrap y)))) 3 false _ 5 (by decide) reps hLL hlf (by simp) (pc + 1)
    clear hT
    unfold outD repsN
    rcases hG with ⟨g1, g2, g3, g4⟩ | ⟨g1, g2, g3, z, g4, g5⟩
    · simp only [g1, Bool.false_eq_true, if_false]
      rw [g3]
      clear g1 g3
      generalize (gN reps (pc + 1) (reps).length).2.1 = n' at *
      have tg := take_gone reps n' g2
      have hg2 := g2
      simp only [mV] at g4
      clear tg
      simp [g4, mD, Inst.d, List.map_take, List.map_set, hg2, ((pv_set mem a.toNat (IntKind.i64.wrap (IntKind.u64.wrap (IntKind.u64.wrap x * IntKind.u64.wrap y))))).toD]
    · simp only [g1, if_true, g4]
      have tg := take_left reps _ g2 g3 ⟨z.first, z.last, z.left - 1⟩
      have hg3 := g3
      clear g1 g4
      generalize (gN reps (pc + 1) (reps).length).2.1 = n' at *
      generalize (gN reps (pc + 1) (reps).length).1 = pc' at *
      generalize hc : (reps.map Rep.d).set (n' - 1) (Rep.d ⟨z.first, z.last, z.left - 1⟩) = cells at *
      have hcl : cells.length = (reps).length := by rw [← hc]; simp
      clear hc
      simp only [mV] at g5
      simp [g5, mD, tg, Inst.d, hcl, hg3, List.map_set, ((pv_set mem a.toNat (IntKind.i64.wrap (IntKind.u64.wrap (IntKind.u64.wrap x * IntKind.u64.wrap y))))).toD]
set_option maxRecDepth 10000 in
set_option maxHeartbeats 16000000 in
theorem step_5 (l : List Inst) (nl : Bool) (hl : l.length ≤ 100000) (pc : Int) (mem : List Int) (rn : Bool) (reps : List Rep) (hn : rn = true → reps = []) (hLL : reps.length ≤ 100000) (hlf : ∀ x ∈ reps, x.left ≤ 9223372036854775807) (h0 : 0 ≤ pc) (hp : pc < l.length) (i : Inst) (hi : l[pc.toNat]? = some i) (hm : mem.length = 8) (hmay : mayF i = true) (x : Int) (hx : mem[i.a.toNat]? = some x) (y : Int) (hy : mem[(i.b.tmod 8).toNat]? = some y) (ha : 0 ≤ i.a ∧ i.a < 8) (hb : 0 ≤ i.b.tmod 8 ∧ i.b.tmod 8 < 8) (hop : i.op = 5) (v : Int) (hv : run kp (.data f_vm_Shift [.int .i64 x, .int .i64 i.n]) = some (.ds [.int .i64 v])) :
    run kp (.data f_vm_Step [.sl nl (l.map Inst.d), mD pc mem rn reps false]) = some (.ds [outD (pc + 1) (mem.set i.a.toNat v) rn reps false, i.d, .bool true]) := by
  obtain ⟨op, a, b, n⟩ := i
  simp only at *
  subst hop
  have hi2 : ∀ hh : pc.toNat < l.length, l[pc.toNat] = ⟨5, a, b, n⟩ := fun hh => by rw [List.getElem?_eq_getElem hh] at hi; injection hi
  have hx2 : ∀ hh : a.toNat < mem.length, mem[a.toNat] = x := fun hh => by rw [List.getElem?_eq_getElem hh] at hx; injection hx
  have hy2 : ∀ hh : (b.tmod 8).toNat < mem.length, mem[(b.tmod 8).toNat] = y := fun hh => by rw [List.getElem?_eq_getElem hh] at hy; injection hy
  have ha2 : a.toNat < 8 := by omega
  have cm := code_May ⟨5, a, b, n⟩
  rw [hmay] at cm
  simp only [Inst.d] at cm
  have tw := vm_twin pc mem rn reps false hn (by omega)
  simp only [mD] at tw
  have hpl : ¬ (l.length : Int) ≤ pc := by omega
  have hp0 : ¬ pc < 0 := by omega
  have hpn : pc.toNat < l.length := by omega
  have wp : IntKind.i64.wrap (pc + 1) = pc + 1 := wrap_i64 (by omega) (by omega)
  rw [run_data, run_call, kp_vm_Step]
  cases rn with
  | true =>
    have := hn rfl; subst this
    simp only [List.map_nil] at tw
    have gn := vm_goes_nil (.agg ((mem.map (V.int .i64)).set a.toNat (V.int .i64 v))) (mem.set a.toNat v) (pv_set mem a.toNat v) false
    simp only [mD, List.map_set] at gn
    simp [k_vm_Step, mD, tw, cm, h0, hp, hi, hi2, hp0, hpl, hpn, Inst.d, wp, hx, hx2, hy, hy2, ha, ha2, hb, hm, ofD_ints, hv, gn, outD_nil, List.map_set]
  | false =>
    simp [k_vm_Step, mD, tw, cm, h0, hp, hi, hi2, hp0, hpl, hpn, Inst.d, wp, hx, hx2, hy, hy2, ha, ha2, hb, hm, ofD_ints, hv]
    generalize hT : Task.call f_vm_goes _ _ _ = T
    have hG : GoesTo T (.agg ((mem.map (V.int .i64)).set a.toNat (V.int .i64 v))) 3 false 5 reps (pc + 1) := by
      rw [← hT]
      exact goesTo (.agg ((mem.map (V.int .i64)).set a.toNat (V.int .i64 v))) (mem.set a.toNat v) (pv_set mem a.toNat v) 3 false _ 5 (by decide) reps hLL hlf (by simp) (pc + 1)
    clear hT
    unfold outD repsN
    rcases hG with ⟨g1, g2, g3, g4⟩ | ⟨g1, g2, g3, z, g4, g5⟩
    · simp only [g1, Bool.false_eq_true, if_false]
      rw [g3]
      clear g1 g3
      generalize (gN reps (pc + 1) (reps).length).2.1 = n' at *
      have tg := take_gone reps n' g2
      have hg2 := g2
      simp only [mV] at g4
      clear tg
      simp [g4, mD, Inst.d, List.map_take, List.map_set, hg2, ((pv_set mem a.toNat v)).toD]
    · simp only [g1, if_true, g4]
      have tg := take_left reps _ g2 g3 ⟨z.first, z.last, z.left - 1⟩
      have hg3 := g3
      clear g1 g4
      generalize (gN reps (pc + 1) (reps).length).2.1 = n' at *
      generalize (gN reps (pc + 1) (reps).length).1 = pc' at *
      generalize hc : (reps.map Rep.d).set (n' - 1) (Rep.d ⟨z.first, z.last, z.left - 1⟩) = cells at *
      have hcl : cells.length = (reps).length := by rw [← hc]; simp
      clear hc
      simp only [mV] at g5
      simp [g5, mD, tg, Inst.d, hcl, hg3, List.map_set, ((pv_set mem a.toNat v)).toD]
set_option maxRecDepth 10000 in
set_option maxHeartbeats 16000000 in
theorem step_6 (l : List Inst) (nl : Bool) (hl : l.length ≤ 100000) (pc : Int) (mem : List Int) (rn : Bool) (reps : List Rep) (hn : rn = true → reps = []) (hLL : reps.length ≤ 100000) (hlf : ∀ x ∈ reps, x.left ≤ 9223372036854775807) (h0 : 0 ≤ pc) (hp : pc < l.length) (i : Inst) (hi : l[pc.toNat]? = some i) (hm : mem.length = 8) (hmay : mayF i = true) (x : Int) (hx : mem[i.a.toNat]? = some x) (y : Int) (hy : mem[(i.b.tmod 8).toNat]? = some y) (ha : 0 ≤ i.a ∧ i.a < 8) (hb : 0 ≤ i.b.tmod 8 ∧ i.b.tmod 8 < 8) (hop : i.op = 6) (v : Int) (hv : run kp (.data f_vm_Narrow [.int .i64 x, .int .i64 i.n]) = some (.ds [.int .i64 v])) :
    run kp (.data f_vm_Step [.sl nl (l.map Inst.d), mD pc mem rn reps false]) = some (.ds [outD (pc + 1) (mem.set i.a.toNat v) rn reps false, i.d, .bool true]) := by
  obtain ⟨op, a, b, n⟩ := i
  simp only at *
  subst hop
  have hi2 : ∀ hh : pc.toNat < l.length, l[pc.toNat] = ⟨6, a, b, n⟩ := fun hh => by rw [List.getElem?_eq_getElem hh] at hi; injection hi
  have hx2 : ∀ hh : a.toNat < mem.length, mem[a.toNat] = x := fun hh => by rw [List.getElem?_eq_getElem hh] at hx; injection hx
  have hy2 : ∀ hh : (b.tmod 8).toNat < mem.length, mem[(b.tmod 8).toNat] = y := fun hh => by rw [List.getElem?_eq_getElem hh] at hy; injection hy
  have ha2 : a.toNat < 8 := by omega
  have cm := code_May ⟨6, a, b, n⟩
  rw [hmay] at cm
  simp only [Inst.d] at cm
  have tw := vm_twin pc mem rn reps false hn (by omega)
  simp only [mD] at tw
  have hpl : ¬ (l.length : Int) ≤ pc := by omega
  have hp0 : ¬ pc < 0 := by omega
  have hpn : pc.toNat < l.length := by omega
  have wp : IntKind.i64.wrap (pc + 1) = pc + 1 := wrap_i64 (by omega) (by omega)
  rw [run_data, run_call, kp_vm_Step]
  cases rn with
  | true =>
    have := hn rfl; subst this
    simp only [List.map_nil] at tw
    have gn := vm_goes_nil (.agg ((mem.map (V.int .i64)).set a.toNat (V.int .i64 v))) (mem.set a.toNat v) (pv_set mem a.toNat v) false
    simp only [mD, List.map_set] at gn
    simp [k_vm_Step, mD, tw, cm, h0, hp, hi, hi2, hp0, hpl, hpn, Inst.d, wp, hx, hx2, hy, hy2, ha, ha2, hb, hm, ofD_ints, hv, gn, outD_nil, List.map_set]
  | false =>
    simp [k_vm_Step, mD, tw, cm, h0, hp, hi, hi2, hp0, hpl, hpn, Inst.d, wp, hx, hx2, hy, hy2, ha, ha2, hb, hm, ofD_ints, hv]
    generalize hT : Task.call f_vm_goes _ _ _ = T
    have hG : GoesTo T (.agg ((mem.map (V.int .i64)).set a.toNat (V.int .i64 v))) 3 false 5 reps (pc + 1) := by
      rw [← hT]
      exact goesTo (.agg ((mem.map (V.int .i64)).set a.toNat (V.int .i64 v))) (mem.set a.toNat v) (pv_set mem a.toNat v) 3 false _ 5 (by decide) reps hLL hlf (by simp) (pc + 1)
    clear hT
    unfold outD repsN
    rcases hG with ⟨g1, g2, g3, g4⟩ | ⟨g1, g2, g3, z, g4, g5⟩
    · simp only [g1, Bool.false_eq_true, if_false]
      rw [g3]
      clear g1 g3
      generalize (gN reps (pc + 1) (reps).length).2.1 = n' at *
      have tg := take_gone reps n' g2
      have hg2 := g2
      simp only [mV] at g4
      clear tg
      simp [g4, mD, Inst.d, List.map_take, List.map_set, hg2, ((pv_set mem a.toNat v)).toD]
    · simp only [g1, if_true, g4]
      have tg := take_left reps _ g2 g3 ⟨z.first, z.last, z.left - 1⟩
      have hg3 := g3
      clear g1 g4
      generalize (gN reps (pc + 1) (reps).length).2.1 = n' at *
      generalize (gN reps (pc + 1) (reps).length).1 = pc' at *
      generalize hc : (reps.map Rep.d).set (n' - 1) (Rep.d ⟨z.first, z.last, z.left - 1⟩) = cells at *
      have hcl : cells.length = (reps).length := by rw [← hc]; simp
      clear hc
      simp only [mV] at g5
      simp [g5, mD, tg, Inst.d, hcl, hg3, List.map_set, ((pv_set mem a.toNat v)).toD]
set_option maxRecDepth 10000 in
set_option maxHeartbeats 16000000 in
theorem step_7 (l : List Inst) (nl : Bool) (hl : l.length ≤ 100000) (pc : Int) (mem : List Int) (rn : Bool) (reps : List Rep) (hn : rn = true → reps = []) (hLL : reps.length ≤ 100000) (hlf : ∀ x ∈ reps, x.left ≤ 9223372036854775807) (h0 : 0 ≤ pc) (hp : pc < l.length) (i : Inst) (hi : l[pc.toNat]? = some i) (hm : mem.length = 8) (hmay : mayF i = true) (x : Int) (hx : mem[i.a.toNat]? = some x) (y : Int) (hy : mem[(i.b.tmod 8).toNat]? = some y) (ha : 0 ≤ i.a ∧ i.a < 8) (hb : 0 ≤ i.b.tmod 8 ∧ i.b.tmod 8 < 8) (hop : i.op = 7) (hn24 : 1 ≤ i.n ∧ i.n ≤ 24) :
    run kp (.data f_vm_Step [.sl nl (l.map Inst.d), mD pc mem rn reps false]) = some (.ds [outD (if x = 0 then pc + 1 + i.n else pc + 1) mem rn reps false, i.d, .bool true]) := by
  obtain ⟨op, a, b, n⟩ := i
  simp only at *
  subst hop
  have hi2 : ∀ hh : pc.toNat < l.length, l[pc.toNat] = ⟨7, a, b, n⟩ := fun hh => by rw [List.getElem?_eq_getElem hh] at hi; injection hi
  have hx2 : ∀ hh : a.toNat < mem.length, mem[a.toNat] = x := fun hh => by rw [List.getElem?_eq_getElem hh] at hx; injection hx
  have hy2 : ∀ hh : (b.tmod 8).toNat < mem.length, mem[(b.tmod 8).toNat] = y := fun hh => by rw [List.getElem?_eq_getElem hh] at hy; injection hy
  have ha2 : a.toNat < 8 := by omega
  have cm := code_May ⟨7, a, b, n⟩
  rw [hmay] at cm
  simp only [Inst.d] at cm
  have tw := vm_twin pc mem rn reps false hn (by omega)
  simp only [mD] at tw
  have hpl : ¬ (l.length : Int) ≤ pc := by omega
  have hp0 : ¬ pc < 0 := by omega
  have hpn : pc.toNat < l.length := by omega
  have wp : IntKind.i64.wrap (pc + 1) = pc + 1 := wrap_i64 (by omega) (by omega)
  rw [run_data, run_call, kp_vm_Step]
  have wp2 : IntKind.i64.wrap (pc + 1 + n) = pc + 1 + n := wrap_i64 (by omega) (by omega)
  by_cases hz : x = 0
  · subst hz
    simp only [if_true]
    cases rn with
    | true =>
      have := hn rfl; subst this
      simp only [List.map_nil] at tw
      have gn := vm_goes_nil (.d (.agg (mem.map (.int .i64)))) mem (pv_d mem) false
      simp only [mD, List.map_set] at gn
      simp [k_vm_Step, mD, tw, cm, h0, hp, hi, hi2, hp0, hpl, hpn, Inst.d, wp, hx, hx2, hy, hy2, ha, ha2, hb, hm, ofD_ints, wp2, gn, outD_nil, List.map_set]
    | false =>
      simp [k_vm_Step, mD, tw, cm, h0, hp, hi, hi2, hp0, hpl, hpn, Inst.d, wp, hx, hx2, hy, hy2, ha, ha2, hb, hm, ofD_ints, wp2]
      generalize hT : Task.call f_vm_goes _ _ _ = T
      have hG : GoesTo T (.d (.agg (mem.map (.int .i64)))) 3 false 5 reps (pc + 1 + n) := by
        rw [← hT]
        exact goesTo (.d (.agg (mem.map (.int .i64)))) mem (pv_d mem) 3 false _ 5 (by decide) reps hLL hlf (by simp) (pc + 1 + n)
      clear hT
      unfold outD repsN
      rcases hG with ⟨g1, g2, g3, g4⟩ | ⟨g1, g2, g3, z, g4, g5⟩
      · simp only [g1, Bool.false_eq_true, if_false]
        rw [g3]
        clear g1 g3
        generalize (gN reps (pc + 1 + n) (reps).length).2.1 = n' at *
        have tg := take_gone reps n' g2
        have hg2 := g2
        simp only [mV] at g4
        clear tg
        simp [g4, mD, Inst.d, List.map_take, List.map_set, hg2, ((pv_d mem)).toD]
      · simp only [g1, if_true, g4]
        have tg := take_left reps _ g2 g3 ⟨z.first, z.last, z.left - 1⟩
        have hg3 := g3
        clear g1 g4
        generalize (gN reps (pc + 1 + n) (reps).length).2.1 = n' at *
        generalize (gN reps (pc + 1 + n) (reps).length).1 = pc' at *
        generalize hc : (reps.map Rep.d).set (n' - 1) (Rep.d ⟨z.first, z.last, z.left - 1⟩) = cells at *
        have hcl : cells.length = (reps).length := by rw [← hc]; simp
        clear hc
        simp only [mV] at g5
        simp [g5, mD, tg, Inst.d, hcl, hg3, List.map_set, ((pv_d mem)).toD]
  · simp only [hz, if_false]
    cases rn with
    | true =>
      have := hn rfl; subst this
      simp only [List.map_nil] at tw
      have gn := vm_goes_nil (.d (.agg (mem.map (.int .i64)))) mem (pv_d mem) false
      simp only [mD, List.map_set] at gn
      simp [k_vm_Step, mD, tw, cm, h0, hp, hi, hi2, hp0, hpl, hpn, Inst.d, wp, hx, hx2, hy, hy2, ha, ha2, hb, hm, ofD_ints, hz, gn, outD_nil, List.map_set]
    | false =>
      simp [k_vm_Step, mD, tw, cm, h0, hp, hi, hi2, hp0, hpl, hpn, Inst.d, wp, hx, hx2, hy, hy2, ha, ha2, hb, hm, ofD_ints, hz]
      generalize hT : Task.call f_vm_goes _ _ _ = T
      have hG : GoesTo T (.d (.agg (mem.map (.int .i64)))) 3 false 5 reps (pc + 1) := by
        rw [← hT]
        exact goesTo (.d (.agg (mem.map (.int .i64)))) mem (pv_d mem) 3 false _ 5 (by decide) reps hLL hlf (by simp) (pc + 1)
      clear hT
      unfold outD repsN
      rcases hG with ⟨g1, g2, g3, g4⟩ | ⟨g1, g2, g3, z, g4, g5⟩
      · simp only [g1, Bool.false_eq_true, if_false]
        rw [g3]
        clear g1 g3
        generalize (gN reps (pc + 1) (reps).length).2.1 = n' at *
        have tg := take_gone reps n' g2
        have hg2 := g2
        simp only [mV] at g4
        clear tg
        simp [g4, mD, Inst.d, List.map_take, List.map_set, hg2, ((pv_d mem)).toD]
      · simp only [g1, if_true, g4]
        have tg := take_left reps _ g2 g3 ⟨z.first, z.last, z.left - 1⟩
        have hg3 := g3
        clear g1 g4
        generalize (gN reps (pc + 1) (reps).length).2.1 = n' at *
        generalize (gN reps (pc + 1) (reps).length).1 = pc' at *
        generalize hc : (reps.map Rep.d).set (n' - 1) (Rep.d ⟨z.first, z.last, z.left - 1⟩) = cells at *
        have hcl : cells.length = (reps).length := by rw [← hc]; simp
        clear hc
        simp only [mV] at g5
        simp [g5, mD, tg, Inst.d, hcl, hg3, List.map_set, ((pv_d mem)).toD]
set_option maxRecDepth 10000 in
set_option maxHeartbeats 16000000 in
theorem step_9 (l : List Inst) (nl : Bool) (hl : l.length ≤ 100000) (pc : Int) (mem : List Int) (rn : Bool) (reps : List Rep) (hn : rn = true → reps = []) (hLL : reps.length ≤ 100000) (hlf : ∀ x ∈ reps, x.left ≤ 9223372036854775807) (h0 : 0 ≤ pc) (hp : pc < l.length) (i : Inst) (hi : l[pc.toNat]? = some i) (hm : mem.length = 8) (hmay : mayF i = true) (x : Int) (hx : mem[i.a.toNat]? = some x) (y : Int) (hy : mem[(i.b.tmod 8).toNat]? = some y) (ha : 0 ≤ i.a ∧ i.a < 8) (hb : 0 ≤ i.b.tmod 8 ∧ i.b.tmod 8 < 8) (hop : i.op = 9)  :
    run kp (.data f_vm_Step [.sl nl (l.map Inst.d), mD pc mem rn reps false]) = some (.ds [outD (pc + 1) mem rn reps false, i.d, .bool true]) := by
  obtain ⟨op, a, b, n⟩ := i
  simp only at *
  subst hop
  have hi2 : ∀ hh : pc.toNat < l.length, l[pc.toNat] = ⟨9, a, b, n⟩ := fun hh => by rw [List.getElem?_eq_getElem hh] at hi; injection hi
  have hx2 : ∀ hh : a.toNat < mem.length, mem[a.toNat] = x := fun hh => by rw [List.getElem?_eq_getElem hh] at hx; injection hx
  have hy2 : ∀ hh : (b.tmod 8).toNat < mem.length, mem[(b.tmod 8).toNat] = y := fun hh => by rw [List.getElem?_eq_getElem hh] at hy; injection hy
  have ha2 : a.toNat < 8 := by omega
  have cm := code_May ⟨9, a, b, n⟩
  rw [hmay] at cm
  simp only [Inst.d] at cm
  have tw := vm_twin pc mem rn reps false hn (by omega)
  simp only [mD] at tw
  have hpl : ¬ (l.length : Int) ≤ pc := by omega
  have hp0 : ¬ pc < 0 := by omega
  have hpn : pc.toNat < l.length := by omega
  have wp : IntKind.i64.wrap (pc + 1) = pc + 1 := wrap_i64 (by omega) (by omega)
  rw [run_data, run_call, kp_vm_Step]
  cases rn with
  | true =>
    have := hn rfl; subst this
    simp only [List.map_nil] at tw
    have gn := vm_goes_nil (.d (.agg (mem.map (.int .i64)))) mem (pv_d mem) false
    simp only [mD, List.map_set] at gn
    simp [k_vm_Step, mD, tw, cm, h0, hp, hi, hi2, hp0, hpl, hpn, Inst.d, wp, hx, hx2, hy, hy2, ha, ha2, hb, hm, ofD_ints, gn, outD_nil, List.map_set]
  | false =>
    simp [k_vm_Step, mD, tw, cm, h0, hp, hi, hi2, hp0, hpl, hpn, Inst.d, wp, hx, hx2, hy, hy2, ha, ha2, hb, hm, ofD_ints]
    generalize hT : Task.call f_vm_goes _ _ _ = T
    have hG : GoesTo T (.d (.agg (mem.map (.int .i64)))) 3 false 5 reps (pc + 1) := by
      rw [← hT]
      exact goesTo (.d (.agg (mem.map (.int .i64)))) mem (pv_d mem) 3 false _ 5 (by decide) reps hLL hlf (by simp) (pc + 1)
    clear hT
    unfold outD repsN
    rcases hG with ⟨g1, g2, g3, g4⟩ | ⟨g1, g2, g3, z, g4, g5⟩
    · simp only [g1, Bool.false_eq_true, if_false]
      rw [g3]
      clear g1 g3
      generalize (gN reps (pc + 1) (reps).length).2.1 = n' at *
      have tg := take_gone reps n' g2
      have hg2 := g2
      simp only [mV] at g4
      clear tg
      simp [g4, mD, Inst.d, List.map_take, List.map_set, hg2, ((pv_d mem)).toD]
    · simp only [g1, if_true, g4]
      have tg := take_left reps _ g2 g3 ⟨z.first, z.last, z.left - 1⟩
      have hg3 := g3
      clear g1 g4
      generalize (gN reps (pc + 1) (reps).length).2.1 = n' at *
      generalize (gN reps (pc + 1) (reps).length).1 = pc' at *
      generalize hc : (reps.map Rep.d).set (n' - 1) (Rep.d ⟨z.first, z.last, z.left - 1⟩) = cells at *
      have hcl : cells.length = (reps).length := by rw [← hc]; simp
      clear hc
      simp only [mV] at g5
      simp [g5, mD, tg, Inst.d, hcl, hg3, List.map_set, ((pv_d mem)).toD]
set_option maxRecDepth 10000 in
set_option maxHeartbeats 16000000 in
theorem step_10 (l : List Inst) (nl : Bool) (hl : l.length ≤ 100000) (pc : Int) (mem : List Int) (rn : Bool) (reps : List Rep) (hn : rn = true → reps = []) (hLL : reps.length ≤ 100000) (hlf : ∀ x ∈ reps, x.left ≤ 9223372036854775807) (h0 : 0 ≤ pc) (hp : pc < l.length) (i : Inst) (hi : l[pc.toNat]? = some i) (hm : mem.length = 8) (hmay : mayF i = true) (x : Int) (hx : mem[i.a.toNat]? = some x) (y : Int) (hy : mem[(i.b.tmod 8).toNat]? = some y) (ha : 0 ≤ i.a ∧ i.a < 8) (hb : 0 ≤ i.b.tmod 8 ∧ i.b.tmod 8 < 8) (hop : i.op = 10)  :
    run kp (.data f_vm_Step [.sl nl (l.map Inst.d), mD pc mem rn reps false]) = some (.ds [outD (pc + 1) mem rn reps false, i.d, .bool true]) := by
  obtain ⟨op, a, b, n⟩ := i
  simp only at *
  subst hop
  have hi2 : ∀ hh : pc.toNat < l.length, l[pc.toNat] = ⟨10, a, b, n⟩ := fun hh => by rw [List.getElem?_eq_getElem hh] at hi; injection hi
  have hx2 : ∀ hh : a.toNat < mem.length, mem[a.toNat] = x := fun hh => by rw [List.getElem?_eq_getElem hh] at hx; injection hx
  have hy2 : ∀ hh : (b.tmod 8).toNat < mem.length, mem[(b.tmod 8).toNat] = y := fun hh => by rw [List.getElem?_eq_getElem hh] at hy; injection hy
  have ha2 : a.toNat < 8 := by omega
  have cm := code_May ⟨10, a, b, n⟩
  rw [hmay] at cm
  simp only [Inst.d] at cm
  have tw := vm_twin pc mem rn reps false hn (by omega)
  simp only [mD] at tw
  have hpl : ¬ (l.length : Int) ≤ pc := by omega
  have hp0 : ¬ pc < 0 := by omega
  have hpn : pc.toNat < l.length := by omega
  have wp : IntKind.i64.wrap (pc + 1) = pc + 1 := wrap_i64 (by omega) (by omega)
  rw [run_data, run_call, kp_vm_Step]
  cases rn with
  | true =>
    have := hn rfl; subst this
    simp only [List.map_nil] at tw
    have gn := vm_goes_nil (.d (.agg (mem.map (.int .i64)))) mem (pv_d mem) false
    simp only [mD, List.map_set] at gn
    simp [k_vm_Step, mD, tw, cm, h0, hp, hi, hi2, hp0, hpl, hpn, Inst.d, wp, hx, hx2, hy, hy2, ha, ha2, hb, hm, ofD_ints, gn, outD_nil, List.map_set]
  | false =>
    simp [k_vm_Step, mD, tw, cm, h0, hp, hi, hi2, hp0, hpl, hpn, Inst.d, wp, hx, hx2, hy, hy2, ha, ha2, hb, hm, ofD_ints]
    generalize hT : Task.call f_vm_goes _ _ _ = T
    have hG : GoesTo T (.d (.agg (mem.map (.int .i64)))) 3 false 5 reps (pc + 1) := by
      rw [← hT]
      exact goesTo (.d (.agg (mem.map (.int .i64)))) mem (pv_d mem) 3 false _ 5 (by decide) reps hLL hlf (by simp) (pc + 1)
    clear hT
    unfold outD repsN
    rcases hG with ⟨g1, g2, g3, g4⟩ | ⟨g1, g2, g3, z, g4, g5⟩
    · simp only [g1, Bool.false_eq_true, if_false]
      rw [g3]
      clear g1 g3
      generalize (gN reps (pc + 1) (reps).length).2.1 = n' at *
      have tg := take_gone reps n' g2
      have hg2 := g2
      simp only [mV] at g4
      clear tg
      simp [g4, mD, Inst.d, List.map_take, List.map_set, hg2, ((pv_d mem)).toD]
    · simp only [g1, if_true, g4]
      have tg := take_left reps _ g2 g3 ⟨z.first, z.last, z.left - 1⟩
      have hg3 := g3
      clear g1 g4
      generalize (gN reps (pc + 1) (reps).length).2.1 = n' at *
      generalize (gN reps (pc + 1) (reps).length).1 = pc' at *
      generalize hc : (reps.map Rep.d).set (n' - 1) (Rep.d ⟨z.first, z.last, z.left - 1⟩) = cells at *
      have hcl : cells.length = (reps).length := by rw [← hc]; simp
      clear hc
      simp only [mV] at g5
      simp [g5, mD, tg, Inst.d, hcl, hg3, List.map_set, ((pv_d mem)).toD]
set_option maxRecDepth 10000 in
set_option maxHeartbeats 16000000 in
theorem step_11 (l : List Inst) (nl : Bool) (hl : l.length ≤ 100000) (pc : Int) (mem : List Int) (rn : Bool) (reps : List Rep) (hn : rn = true → reps = []) (hLL : reps.length ≤ 100000) (hlf : ∀ x ∈ reps, x.left ≤ 9223372036854775807) (h0 : 0 ≤ pc) (hp : pc < l.length) (i : Inst) (hi : l[pc.toNat]? = some i) (hm : mem.length = 8) (hmay : mayF i = true) (x : Int) (hx : mem[i.a.toNat]? = some x) (y : Int) (hy : mem[(i.b.tmod 8).toNat]? = some y) (ha : 0 ≤ i.a ∧ i.a < 8) (hb : 0 ≤ i.b.tmod 8 ∧ i.b.tmod 8 < 8) (hop : i.op = 11)  :
    run kp (.data f_vm_Step [.sl nl (l.map Inst.d), mD pc mem rn reps false]) = some (.ds [outD (pc + 1) mem rn reps false, i.d, .bool true]) := by
  obtain ⟨op, a, b, n⟩ := i
  simp only at *
  subst hop
  have hi2 : ∀ hh : pc.toNat < l.length, l[pc.toNat] = ⟨11, a, b, n⟩ := fun hh => by rw [List.getElem?_eq_getElem hh] at hi; injection hi
  have hx2 : ∀ hh : a.toNat < mem.length, mem[a.toNat] = x := fun hh => by rw [List.getElem?_eq_getElem hh] at hx; injection hx
  have hy2 : ∀ hh : (b.tmod 8).toNat < mem.length, mem[(b.tmod 8).toNat] = y := fun hh => by rw [List.getElem?_eq_getElem hh] at hy; injection hy
  have ha2 : a.toNat < 8 := by omega
  have cm := code_May ⟨11, a, b, n⟩
  rw [hmay] at cm
  simp only [Inst.d] at cm
  have tw := vm_twin pc mem rn reps false hn (by omega)
  simp only [mD] at tw
  have hpl : ¬ (l.length : Int) ≤ pc := by omega
  have hp0 : ¬ pc < 0 := by omega
  have hpn : pc.toNat < l.length := by omega
  have wp : IntKind.i64.wrap (pc + 1) = pc + 1 := wrap_i64 (by omega) (by omega)
  rw [run_data, run_call, kp_vm_Step]
  cases rn with
  | true =>
    have := hn rfl; subst this
    simp only [List.map_nil] at tw
    have gn := vm_goes_nil (.d (.agg (mem.map (.int .i64)))) mem (pv_d mem) false
    simp only [mD, List.map_set] at gn
    simp [k_vm_Step, mD, tw, cm, h0, hp, hi, hi2, hp0, hpl, hpn, Inst.d, wp, hx, hx2, hy, hy2, ha, ha2, hb, hm, ofD_ints, gn, outD_nil, List.map_set]
  | false =>
    simp [k_vm_Step, mD, tw, cm, h0, hp, hi, hi2, hp0, hpl, hpn, Inst.d, wp, hx, hx2, hy, hy2, ha, ha2, hb, hm, ofD_ints]
    generalize hT : Task.call f_vm_goes _ _ _ = T
    have hG : GoesTo T (.d (.agg (mem.map (.int .i64)))) 3 false 5 reps (pc + 1) := by
      rw [← hT]
      exact goesTo (.d (.agg (mem.map (.int .i64)))) mem (pv_d mem) 3 false _ 5 (by decide) reps hLL hlf (by simp) (pc + 1)
    clear hT
    unfold outD repsN
    rcases hG with ⟨g1, g2, g3, g4⟩ | ⟨g1, g2, g3, z, g4, g5⟩
    · simp only [g1, Bool.false_eq_true, if_false]
      rw [g3]
      clear g1 g3
      generalize (gN reps (pc + 1) (reps).length).2.1 = n' at *
      have tg := take_gone reps n' g2
      have hg2 := g2
      simp only [mV] at g4
      clear tg
      simp [g4, mD, Inst.d, List.map_take, List.map_set, hg2, ((pv_d mem)).toD]
    · simp only [g1, if_true, g4]
      have tg := take_left reps _ g2 g3 ⟨z.first, z.last, z.left - 1⟩
      have hg3 := g3
      clear g1 g4
      generalize (gN reps (pc + 1) (reps).length).2.1 = n' at *
      generalize (gN reps (pc + 1) (reps).length).1 = pc' at *
      generalize hc : (reps.map Rep.d).set (n' - 1) (Rep.d ⟨z.first, z.last, z.left - 1⟩) = cells at *
      have hcl : cells.length = (reps).length := by rw [← hc]; simp
      clear hc
      simp only [mV] at g5
      simp [g5, mD, tg, Inst.d, hcl, hg3, List.map_set, ((pv_d mem)).toD]
end Go.Cd
