/- Where repetitions go on. No conditions. -/
import Derived.Test.YtgjeondicdipaaaR9QVmS
set_option linter.unusedVariables false
set_option linter.unusedSimpArgs false
namespace Go.Cd
open Go Go.Fw
def nckV (x : V) : Option V := match x with | .ptr h p => some (.ptr h p) | .rp x => some (.rp x) | .clo f a b => some (.clo f a b) | _ => none
@[simp] theorem nckV_ptr (h : Nat) (p : List Nat) : nckV (.ptr h p) = some (.ptr h p) := rfl
@[simp] theorem o_nck {kp : Nat → Option KF} {r : List GI} {e : Env} {h : Hp} {t : Nat → Option Blk} {b n : Nat} (d : Nat) (x : Opd) : run kp (.ops (⟨none, .nck d x⟩ :: r) ⟨e, h, t, b, n⟩) = opK kp (nckV (val e x)) d r e h t b n := by
  rw [run_cons]
  show effK kp (eff (.nck d x) e _ n) _ r _ = _
  simp only [eff, nckV]
  cases val e x <;> rfl
/-- Where the first n repetitions of L go on: where it stands, how many are left, whether the last one goes again. -/
def gN (L : List Rep) (pc : Int) : Nat → Int × Nat × Bool
  | 0 => (pc, 0, false)
  | n + 1 => match L[n]? with
    | some r => if r.last < pc then (if 0 < r.left then (r.first, n + 1, true) else gN L pc n) else (pc, n + 1, false)
    | none => (pc, n + 1, false)
def zeroMD : D := mD 0 [0, 0, 0, 0, 0, 0, 0, 0] true [] false
/-- A value without memory in it: numbers. -/
structure Pv (mv : V) (mem : List Int) : Prop where
  hs : V.hs mv = []
  ren : ∀ f, V.ren f mv = mv
  pure : V.pure? mv = some (.agg (mem.map (.int .i64)))
  toD : ∀ g, toD g mv = some (.agg (mem.map (.int .i64)))
theorem pv_d (mem : List Int) : Pv (.d (.agg (mem.map (.int .i64)))) mem := ⟨rfl, fun _ => rfl, rfl, fun _ => rfl⟩
theorem pv_hss : ∀ mem : List Int, V.hss (mem.map (V.int .i64)) = []
  | [] => rfl
  | _ :: l => by simp [V.hss, V.hs, pv_hss l]
theorem pv_rens (f : Nat → Nat) : ∀ mem : List Int, V.rens f (mem.map (V.int .i64)) = mem.map (V.int .i64)
  | [] => rfl
  | _ :: l => by simp [V.rens, V.ren, pv_rens f l]
theorem pv_pures : ∀ mem : List Int, V.pures? (mem.map (V.int .i64)) = some (mem.map (.int .i64))
  | [] => rfl
  | _ :: l => by simp [V.pures?, V.pure?, pv_pures l]
theorem pv_toDs (g : Nat → Option Blk) : ∀ mem : List Int, toDs g (mem.map (V.int .i64)) = some (mem.map (.int .i64))
  | [] => rfl
  | _ :: l => by simp [toDs, Fw.toD, pv_toDs g l]
theorem pv_agg (mem : List Int) : Pv (.agg (mem.map (V.int .i64))) mem := by
  refine ⟨?_, fun f => ?_, ?_, fun g => ?_⟩
  · simp [V.hs, pv_hss]
  · simp [V.ren, pv_rens]
  · simp [V.pure?, pv_pures]
  · simp [Fw.toD, pv_toDs]
def mV (pc : Int) (mv : V) (r n : Nat) (over : Bool) : V := .agg [.int .i64 pc, mv, .sl false r 0 n, .bool over]
def goSt (pc : Int) (mv : V) (r : Nat) (over : Bool) (tl : Nat → Option Blk) (b : Nat) (ex : List (Nat × V)) (n : Nat) : St :=
  { env := [(1, .ptr b []), (2, .ptr (b + 1) []), (3, .int .i64 (n : Int))] ++ ex, hp := [(b, .box (mV pc mv r n over)), (b + 1, .box (.d zeroMD))], tl := tl, base := b, next := b + 2 }
set_option maxHeartbeats 4000000 in
theorem goes_step (mv : V) (mem : List Int) (hv : Pv mv mem) (r : Nat) (over : Bool) (tl : Nat → Option Blk) (b : Nat) (hrb : (r = 3 ∧ b = 5) ∨ (r = 5 ∧ b = 6) ∨ (r = 6 ∧ b = 7)) (L : List Rep) (hL : L.length ≤ 100000) (hrow : tl r = some (.row true (L.map Rep.d))) (pc : Int) (n : Nat) (hn : n < L.length) (x : Rep) (hx : L[n]? = some x) (h1 : x.last < pc) (h2 : ¬ 0 < x.left) :
    run kp (.loop [1, 2, 3] k_vm_goes_L0 (goSt pc mv r over tl b [] (n + 1))) = run kp (.loop [1, 2, 3] k_vm_goes_L0 (goSt pc mv r over tl b [] n)) := by
  have w1 : IntKind.i64.wrap (((n + 1 : Nat) : Int) - 1) = (n : Int) := by rw [wrap_i64 (by omega) (by omega)]; omega
  have p1 : (0 : Int) < ((n + 1 : Nat) : Int) := by omega
  have p2 : (n : Int) < ((n + 1 : Nat) : Int) := by omega
  have p3 : n < n + 1 := by omega
  have p5 : 0 < n + 1 := by omega
  have p4 : (n : Int) ≤ ((n + 1 : Nat) : Int) := by omega
  have hg0 : (L.map Rep.d)[n]? = some x.d := by rw [List.getElem?_map, hx]; rfl
  have hg : ∀ hh : n < (L.map Rep.d).length, (L.map Rep.d)[n] = x.d := fun hh => by rw [List.getElem?_eq_getElem hh] at hg0; injection hg0
  have hg2 : ∀ hh : n < L.length, L[n] = x := fun hh => by rw [List.getElem?_eq_getElem hh] at hx; injection hx
  rw [run_round]
  generalize n + 1 = m at *
  rcases hrb with ⟨rfl, rfl⟩ | ⟨rfl, rfl⟩ | ⟨rfl, rfl⟩ <;> simp [hv.hs, hv.ren, hv.pure, hv.toD, c_vm_goes_L0, k_vm_goes_L0b, goSt, mV, zeroMD, mD, w1, p1, p2, p3, p4, p5, hg, hg0, hg2, hx, hrow, h1, h2, Rep.d, hn, gOf, hlook]
/-- What is left of repetitions. -/
def repsN (L : List Rep) (g : Int × Nat × Bool) : List Rep := if g.2.2 then (match L[g.2.1 - 1]? with | some x => L.take (g.2.1 - 1) ++ [⟨x.first, x.last, x.left - 1⟩] | none => []) else L.take g.2.1
def goStR (pc : Int) (mv : V) (r : Nat) (over : Bool) (tl : Nat → Option Blk) (b : Nat) (cells : List D) (n : Nat) : St :=
  { env := [(2, .ptr (b + 1) []), (3, .int .i64 (n : Int)), (21, .bool true), (34, .bool true)], hp := [(b, .box (mV pc mv r n over)), (b + 1, .box (mV pc mv r n over)), (r, .row true cells)], tl := tl, base := b, next := b + 2 }
set_option maxHeartbeats 8000000 in
theorem goes_loop (mv : V) (mem : List Int) (hv : Pv mv mem) (r : Nat) (over : Bool) (tl : Nat → Option Blk) (b : Nat) (hrb : (r = 3 ∧ b = 5) ∨ (r = 5 ∧ b = 6) ∨ (r = 6 ∧ b = 7)) (L : List Rep) (hL : L.length ≤ 100000) (hleft : ∀ x ∈ L, x.left ≤ 9223372036854775807) (hrow : tl r = some (.row true (L.map Rep.d))) (pc : Int) : ∀ (n : Nat), n ≤ L.length →
    ((gN L pc n).2.2 = false ∧ (gN L pc n).2.1 ≤ n ∧ (gN L pc n).1 = pc ∧ run kp (.loop [1, 2, 3] k_vm_goes_L0 (goSt pc mv r over tl b [] n)) = some (.out (.ext 0) (goSt pc mv r over tl b [(21, .bool false)] (gN L pc n).2.1))) ∨
    ((gN L pc n).2.2 = true ∧ 1 ≤ (gN L pc n).2.1 ∧ (gN L pc n).2.1 ≤ n ∧ ∃ x, L[(gN L pc n).2.1 - 1]? = some x ∧ run kp (.loop [1, 2, 3] k_vm_goes_L0 (goSt pc mv r over tl b [] n)) = some (.out .ret (goStR (gN L pc n).1 mv r over tl b ((L.map Rep.d).set ((gN L pc n).2.1 - 1) (Rep.d ⟨x.first, x.last, x.left - 1⟩)) (gN L pc n).2.1)))
  | 0, _ => by
    refine .inl ⟨rfl, Nat.le_refl _, rfl, ?_⟩
    have e0 : gN L pc 0 = (pc, 0, false) := rfl
    rw [e0]
    rw [run_round]
    rcases hrb with ⟨rfl, rfl⟩ | ⟨rfl, rfl⟩ | ⟨rfl, rfl⟩ <;> simp [hv.hs, hv.ren, hv.pure, hv.toD, c_vm_goes_L0, k_vm_goes_L0b, goSt, mV, zeroMD, mD]
  | n + 1, hn => by
    obtain ⟨x, hx⟩ : ∃ x, L[n]? = some x := ⟨_, List.getElem?_eq_getElem (by omega : n < L.length)⟩
    have hx1000 := hleft x (List.mem_of_getElem? hx)
    by_cases h1 : x.last < pc
    · by_cases h2 : 0 < x.left
      · have e : gN L pc (n + 1) = (x.first, n + 1, true) := by simp [gN, hx, h1, h2]
        rw [e]
        refine .inr ⟨rfl, by simp, Nat.le_refl _, x, by simpa using hx, ?_⟩
        have w1 : IntKind.i64.wrap (((n + 1 : Nat) : Int) - 1) = (n : Int) := by rw [wrap_i64 (by omega) (by omega)]; omega
        have w2 : IntKind.i64.wrap (x.left - 1) = x.left - 1 := wrap_i64 (by omega) (by omega)
        have p1 : (0 : Int) < ((n + 1 : Nat) : Int) := by omega
        have p2 : (n : Int) < ((n + 1 : Nat) : Int) := by omega
        have p3 : n < n + 1 := by omega
        have p5 : 0 < n + 1 := by omega
        have hg0 : (L.map Rep.d)[n]? = some x.d := by rw [List.getElem?_map, hx]; rfl
        have hg : ∀ hh : n < (L.map Rep.d).length, (L.map Rep.d)[n] = x.d := fun hh => by rw [List.getElem?_eq_getElem hh] at hg0; injection hg0
        have hg2 : ∀ hh : n < L.length, L[n] = x := fun hh => by rw [List.getElem?_eq_getElem hh] at hx; injection hx
        have hnl : n < L.length := by omega
        simp only [Nat.add_sub_cancel]
        rw [run_round]
        generalize n + 1 = m at *
        rcases hrb with ⟨rfl, rfl⟩ | ⟨rfl, rfl⟩ | ⟨rfl, rfl⟩ <;> simp [hv.hs, hv.ren, hv.pure, hv.toD, c_vm_goes_L0, k_vm_goes_L0b, goSt, goStR, mV, zeroMD, mD, w1, w2, p1, p2, p3, p5, hg, hg0, hg2, hx, hrow, h1, h2, Rep.d, hnl, gOf, hlook]
      · have e : gN L pc (n + 1) = gN L pc n := by simp [gN, hx, h1, h2]
        rw [e, goes_step mv mem hv r over tl b hrb L hL hrow pc n (by omega) x hx h1 h2]
        rcases goes_loop mv mem hv r over tl b hrb L hL hleft hrow pc n (by omega) with ⟨a1, a2, a3, a4⟩ | ⟨a1, a2, a3, a4⟩
        · exact .inl ⟨a1, by omega, a3, a4⟩
        · exact .inr ⟨a1, a2, by omega, a4⟩
    · have e : gN L pc (n + 1) = (pc, n + 1, false) := by simp [gN, hx, h1]
      rw [e]
      refine .inl ⟨rfl, Nat.le_refl _, rfl, ?_⟩
      have w1 : IntKind.i64.wrap (((n + 1 : Nat) : Int) - 1) = (n : Int) := by rw [wrap_i64 (by omega) (by omega)]; omega
      have p1 : (0 : Int) < ((n + 1 : Nat) : Int) := by omega
      have p2 : (n : Int) < ((n + 1 : Nat) : Int) := by omega
      have p3 : n < n + 1 := by omega
      have p5 : 0 < n + 1 := by omega
      have hg0 : (L.map Rep.d)[n]? = some x.d := by rw [List.getElem?_map, hx]; rfl
      have hg : ∀ hh : n < (L.map Rep.d).length, (L.map Rep.d)[n] = x.d := fun hh => by rw [List.getElem?_eq_getElem hh] at hg0; injection hg0
      have hg2 : ∀ hh : n < L.length, L[n] = x := fun hh => by rw [List.getElem?_eq_getElem hh] at hx; injection hx
      have hnl : n < L.length := by omega
      rw [run_round]
      generalize n + 1 = m at *
      rcases hrb with ⟨rfl, rfl⟩ | ⟨rfl, rfl⟩ | ⟨rfl, rfl⟩ <;> simp [hv.hs, hv.ren, hv.pure, hv.toD, c_vm_goes_L0, k_vm_goes_L0b, goSt, mV, zeroMD, mD, w1, p1, p2, p3, p5, hg, hg0, hg2, hx, hrow, h1, Rep.d, hnl, gOf, hlook]
set_option maxHeartbeats 8000000 in
theorem vm_goes (mv : V) (mem : List Int) (hv : Pv mv mem) (r : Nat) (over : Bool) (tl : Nat → Option Blk) (b : Nat) (hrb : (r = 3 ∧ b = 5) ∨ (r = 5 ∧ b = 6) ∨ (r = 6 ∧ b = 7)) (L : List Rep) (hL : L.length ≤ 100000) (hleft : ∀ x ∈ L, x.left ≤ 9223372036854775807) (hrow : tl r = some (.row true (L.map Rep.d))) (pc : Int) :
    ((gN L pc L.length).2.2 = false ∧ (gN L pc L.length).2.1 ≤ L.length ∧ (gN L pc L.length).1 = pc ∧ run kp (.call f_vm_goes [mV pc mv r L.length over] tl b) = some (.val (mV pc mv r (gN L pc L.length).2.1 over) [] b)) ∨
    ((gN L pc L.length).2.2 = true ∧ 1 ≤ (gN L pc L.length).2.1 ∧ (gN L pc L.length).2.1 ≤ L.length ∧ ∃ x, L[(gN L pc L.length).2.1 - 1]? = some x ∧
      run kp (.call f_vm_goes [mV pc mv r L.length over] tl b) = some (.val (mV (gN L pc L.length).1 mv r (gN L pc L.length).2.1 over) [(r, .row true ((L.map Rep.d).set ((gN L pc L.length).2.1 - 1) (Rep.d ⟨x.first, x.last, x.left - 1⟩)))] b)) := by
  rw [run_call, kp_vm_goes]
  rcases goes_loop mv mem hv r over tl b hrb L hL hleft hrow pc L.length (Nat.le_refl _) with ⟨a1, a2, a3, a4⟩ | ⟨a1, a2, a3, x, a4, a5⟩
  · refine .inl ⟨a1, a2, a3, ?_⟩
    generalize (gN L pc L.length).2.1 = n' at *
    clear a1 a3
    rcases hrb with ⟨rfl, rfl⟩ | ⟨rfl, rfl⟩ | ⟨rfl, rfl⟩ <;> simp [goSt, mV, zeroMD, mD] at a4 <;> simp [hv.hs, hv.ren, hv.pure, hv.toD, k_vm_goes, mV, zeroMD, mD, a4, canK_canH, gOf, hlook]
  · refine .inr ⟨a1, a2, a3, x, a4, ?_⟩
    generalize (L.map Rep.d).set ((gN L pc L.length).2.1 - 1) (Rep.d ⟨x.first, x.last, x.left - 1⟩) = cells at *
    generalize (gN L pc L.length).2.1 = n' at *
    generalize (gN L pc L.length).1 = pc' at *
    clear a1 a2 a4
    rcases hrb with ⟨rfl, rfl⟩ | ⟨rfl, rfl⟩ | ⟨rfl, rfl⟩ <;> simp [goSt, goStR, mV, zeroMD, mD] at a5 <;> simp [hv.hs, hv.ren, hv.pure, hv.toD, k_vm_goes, mV, zeroMD, mD, a5, canK_canH, gOf, hlook]
theorem vm_goes_nil (mv : V) (mem : List Int) (hv : Pv mv mem) (over : Bool) (tl : Nat → Option Blk) (b : Nat) (hb : b = 4) (pc : Int) :
    run kp (.call f_vm_goes [.agg [.int .i64 pc, mv, .d (.sl true []), .bool over]] tl b) = some (.val (.d (mD pc mem true [] over)) [] b) := by
  subst hb
  rw [run_call, kp_vm_goes]
  have l : run kp (.loop [1, 2, 3] k_vm_goes_L0 { env := [(1, .ptr 4 []), (2, .ptr 5 []), (3, .int .i64 0)], hp := [(4, .box (.agg [.int .i64 pc, mv, .d (.sl true []), .bool over])), (5, .box (.d zeroMD))], tl := tl, base := 4, next := 6 }) =
      some (.out (.ext 0) { env := [(1, .ptr 4 []), (2, .ptr 5 []), (3, .int .i64 0), (21, .bool false)], hp := [(4, .box (.agg [.int .i64 pc, mv, .d (.sl true []), .bool over])), (5, .box (.d zeroMD))], tl := tl, base := 4, next := 6 }) := by
    rw [run_round]
    simp [hv.hs, hv.ren, hv.pure, hv.toD, c_vm_goes_L0, k_vm_goes_L0b, zeroMD, mD]
  simp [zeroMD, mD] at l
  simp [hv.hs, hv.ren, hv.pure, hv.toD, k_vm_goes, mD, l, canK_canH, gOf, hlook]
end Go.Cd
