/- Where repetitions go on, by the document. No conditions. -/
import Derived.Test.YtgjeondicdipaaaR9QVmT
set_option linter.unusedVariables false
set_option linter.unusedSimpArgs false
namespace Go.Cd
open Go Go.Fw
def rgSt (pc : Int) (mv : V) (cells : List D) (n : Nat) (over : Bool) (iD : D) (ex : List (Nat × V)) : St :=
  { env := [(3, .ptr 0 []), (4, .ptr 2 []), (5, .ptr 3 []), (7, .ptr 4 [])] ++ ex, hp := [(0, .box (mV pc mv 1 n over)), (1, .row true cells), (2, .box (.d zeroMD)), (3, .box (.d (.agg [.int .i64 0, .int .i64 0, .int .i64 0, .int .i64 0]))), (4, .box (.d iD))], tl := fun _ => none, base := 0, next := 5 }
def rgStR (pc : Int) (mv : V) (cells : List D) (n : Nat) (over : Bool) (iD : D) (x : Rep) : St :=
  { env := [(3, .ptr 0 []), (4, .ptr 2 []), (5, .ptr 3 []), (7, .ptr 4 []), (190, .bool true), (209, .bool true)], hp := [(0, .box (mV pc mv 7 n over)), (1, .dead), (2, .box (.d zeroMD)), (3, .box (.d (.agg [.int .i64 0, .int .i64 0, .int .i64 0, .int .i64 0]))), (4, .box (.d iD)), (5, .box (.d x.d)), (6, .row true [x.d]), (7, .row true cells)], tl := fun _ => none, base := 0, next := 8 }
set_option maxRecDepth 10000 in
set_option maxHeartbeats 8000000 in
theorem rgoes_stop (mv : V) (mem : List Int) (hv : Pv mv mem) (over : Bool) (L : List Rep) (hL : L.length ≤ 100000) (pc : Int) (i : Inst) (n : Nat) (hn : n < L.length) (x : Rep) (hx : L[n]? = some x) (h1 : ¬ x.last < pc) :
    run kp (.loop [3, 4, 5, 7] k_ref1_Step_L0 (rgSt pc mv (L.map Rep.d) (n + 1) over i.d [])) = some (.out (.ext 1) (rgSt pc mv (L.map Rep.d) (n + 1) over i.d [(190, .bool false)])) := by
  have w1 : IntKind.i64.wrap (((n + 1 : Nat) : Int) - 1) = (n : Int) := by rw [wrap_i64 (by omega) (by omega)]; omega
  have p1 : (0 : Int) < ((n + 1 : Nat) : Int) := by omega
  have p3 : n < n + 1 := by omega
  have p2 : (n : Int) < ((n + 1 : Nat) : Int) := by omega
  have p5 : 0 < n + 1 := by omega
  have hg0 : (L.map Rep.d)[n]? = some x.d := by rw [List.getElem?_map, hx]; rfl
  have hg : ∀ hh : n < (L.map Rep.d).length, (L.map Rep.d)[n] = x.d := fun hh => by rw [List.getElem?_eq_getElem hh] at hg0; injection hg0
  have hg2 : ∀ hh : n < L.length, L[n] = x := fun hh => by rw [List.getElem?_eq_getElem hh] at hx; injection hx
  have hf : D.free i.d = true := rfl
  rw [run_round]
  generalize n + 1 = m at *
  generalize i.d = iD at *
  simp [hv.hs, hv.ren, hv.pure, hv.toD, c_ref1_Step_L0, k_ref1_Step_L0b, rgSt, mV, zeroMD, mD, w1, p1, p2, p3, p5, hg, hg0, hg2, hx, h1, Rep.d, hn, gOf, hlook]
set_option maxRecDepth 10000 in
set_option maxHeartbeats 8000000 in
theorem rgoes_pop (mv : V) (mem : List Int) (hv : Pv mv mem) (over : Bool) (L : List Rep) (hL : L.length ≤ 100000) (pc : Int) (i : Inst) (n : Nat) (hn : n < L.length) (x : Rep) (hx : L[n]? = some x) (h1 : x.last < pc) (h2 : ¬ 0 < x.left) :
    run kp (.loop [3, 4, 5, 7] k_ref1_Step_L0 (rgSt pc mv (L.map Rep.d) (n + 1) over i.d [])) = run kp (.loop [3, 4, 5, 7] k_ref1_Step_L0 (rgSt pc mv (L.map Rep.d) n over i.d [])) := by
  have w1 : IntKind.i64.wrap (((n + 1 : Nat) : Int) - 1) = (n : Int) := by rw [wrap_i64 (by omega) (by omega)]; omega
  have p1 : (0 : Int) < ((n + 1 : Nat) : Int) := by omega
  have p3 : n < n + 1 := by omega
  have p2 : (n : Int) < ((n + 1 : Nat) : Int) := by omega
  have p4 : (n : Int) ≤ ((n + 1 : Nat) : Int) := by omega
  have p5 : 0 < n + 1 := by omega
  have hg0 : (L.map Rep.d)[n]? = some x.d := by rw [List.getElem?_map, hx]; rfl
  have hg : ∀ hh : n < (L.map Rep.d).length, (L.map Rep.d)[n] = x.d := fun hh => by rw [List.getElem?_eq_getElem hh] at hg0; injection hg0
  have hg2 : ∀ hh : n < L.length, L[n] = x := fun hh => by rw [List.getElem?_eq_getElem hh] at hx; injection hx
  have hf : D.free i.d = true := rfl
  rw [run_round]
  generalize n + 1 = m at *
  generalize i.d = iD at *
  simp [hv.hs, hv.ren, hv.pure, hv.toD, c_ref1_Step_L0, k_ref1_Step_L0b, rgSt, mV, zeroMD, mD, w1, p1, p2, p3, p4, p5, hg, hg0, hg2, hx, h1, h2, Rep.d, hn, gOf, hlook]
set_option maxRecDepth 10000 in
set_option maxHeartbeats 8000000 in
theorem rgoes_go (mv : V) (mem : List Int) (hv : Pv mv mem) (over : Bool) (L : List Rep) (hL : L.length ≤ 100000) (pc : Int) (i : Inst) (n : Nat) (hn : n < L.length) (x : Rep) (hx : L[n]? = some x) (h1 : x.last < pc) (h2 : 0 < x.left) (h3 : x.left ≤ 9223372036854775807) :
    run kp (.loop [3, 4, 5, 7] k_ref1_Step_L0 (rgSt pc mv (L.map Rep.d) (n + 1) over i.d [])) = some (.out (.ext 1) (rgStR x.first mv (L.take n |>.map Rep.d |> (· ++ [Rep.d ⟨x.first, x.last, x.left - 1⟩])) (n + 1) over i.d ⟨x.first, x.last, x.left - 1⟩)) := by
  have w1 : IntKind.i64.wrap (((n + 1 : Nat) : Int) - 1) = (n : Int) := by rw [wrap_i64 (by omega) (by omega)]; omega
  have w2 : IntKind.i64.wrap (x.left - 1) = x.left - 1 := by rw [wrap_i64 (by omega) (by omega)]
  have p1 : (0 : Int) < ((n + 1 : Nat) : Int) := by omega
  have p3 : n < n + 1 := by omega
  have p2 : (n : Int) < ((n + 1 : Nat) : Int) := by omega
  have p4 : (n : Int) ≤ ((n + 1 : Nat) : Int) := by omega
  have p5 : 0 < n + 1 := by omega
  have p6 : n ≤ 1073741823 := by omega
  have p7 : n ≤ L.length := by omega
  have hg0 : (L.map Rep.d)[n]? = some x.d := by rw [List.getElem?_map, hx]; rfl
  have hg : ∀ hh : n < (L.map Rep.d).length, (L.map Rep.d)[n] = x.d := fun hh => by rw [List.getElem?_eq_getElem hh] at hg0; injection hg0
  have hg2 : ∀ hh : n < L.length, L[n] = x := fun hh => by rw [List.getElem?_eq_getElem hh] at hx; injection hx
  have hf : D.free i.d = true := rfl
  rw [run_round]
  generalize hme : n + 1 = m at *
  generalize i.d = iD at *
  simp [hv.hs, hv.ren, hv.pure, hv.toD, c_ref1_Step_L0, k_ref1_Step_L0b, rgSt, mV, zeroMD, mD, w1, w2, p1, p2, p3, p4, p5, p6, p7, hg, hg0, hg2, hx, h1, h2, Rep.d, hn, gOf, hlook]
  subst hme
  simp [rgStR, mV, zeroMD, mD, Rep.d]
set_option maxRecDepth 10000 in
theorem rgoes_loop (mv : V) (mem : List Int) (hv : Pv mv mem) (over : Bool) (L : List Rep) (hL : L.length ≤ 100000) (hleft : ∀ x ∈ L, x.left ≤ 9223372036854775807) (pc : Int) (i : Inst) : ∀ (n : Nat), n ≤ L.length →
    ((gN L pc n).2.2 = false ∧ (gN L pc n).2.1 ≤ n ∧ (gN L pc n).1 = pc ∧ ∃ g, run kp (.loop [3, 4, 5, 7] k_ref1_Step_L0 (rgSt pc mv (L.map Rep.d) n over i.d [])) = some (.out (.ext 1) (rgSt pc mv (L.map Rep.d) (gN L pc n).2.1 over i.d [(190, .bool g)]))) ∨
    ((gN L pc n).2.2 = true ∧ 1 ≤ (gN L pc n).2.1 ∧ (gN L pc n).2.1 ≤ n ∧ ∃ x, L[(gN L pc n).2.1 - 1]? = some x ∧ x.first = (gN L pc n).1 ∧ run kp (.loop [3, 4, 5, 7] k_ref1_Step_L0 (rgSt pc mv (L.map Rep.d) n over i.d [])) = some (.out (.ext 1) (rgStR x.first mv ((L.take ((gN L pc n).2.1 - 1)).map Rep.d ++ [Rep.d ⟨x.first, x.last, x.left - 1⟩]) (gN L pc n).2.1 over i.d ⟨x.first, x.last, x.left - 1⟩)))
  | 0, _ => by
    refine .inl ⟨rfl, Nat.le_refl _, rfl, false, ?_⟩
    have e0 : gN L pc 0 = (pc, 0, false) := rfl
    have hf : D.free i.d = true := rfl
    rw [e0]
    rw [run_round]
    generalize i.d = iD at *
    simp [hv.hs, hv.ren, hv.pure, hv.toD, c_ref1_Step_L0, k_ref1_Step_L0b, rgSt, mV, zeroMD, mD]
  | n + 1, hn => by
    obtain ⟨x, hx⟩ : ∃ x, L[n]? = some x := ⟨_, List.getElem?_eq_getElem (by omega : n < L.length)⟩
    have hxm := hleft x (List.mem_of_getElem? hx)
    by_cases h1 : x.last < pc
    · by_cases h2 : 0 < x.left
      · have e : gN L pc (n + 1) = (x.first, n + 1, true) := by simp [gN, hx, h1, h2]
        refine .inr ?_
        rw [e]
        refine ⟨rfl, by simp, by simp, x, by simpa using hx, rfl, ?_⟩
        rw [rgoes_go mv mem hv over L hL pc i n (by omega) x hx h1 h2 hxm]
        rfl
      · have e : gN L pc (n + 1) = gN L pc n := by simp [gN, hx, h1, h2]
        rw [e, rgoes_pop mv mem hv over L hL pc i n (by omega) x hx h1 h2]
        rcases rgoes_loop mv mem hv over L hL hleft pc i n (by omega) with ⟨a1, a2, a3, a4⟩ | ⟨a1, a2, a3, a4⟩
        · exact .inl ⟨a1, by omega, a3, a4⟩
        · exact .inr ⟨a1, a2, by omega, a4⟩
    · have e : gN L pc (n + 1) = (pc, n + 1, false) := by simp [gN, hx, h1]
      refine .inl ?_
      rw [e]
      exact ⟨rfl, by simp, rfl, false, rgoes_stop mv mem hv over L hL pc i n (by omega) x hx h1⟩
def RGoesTo (T : Task) (mv : V) (over : Bool) (i : Inst) (L : List Rep) (pc : Int) : Prop :=
    ((gN L pc L.length).2.2 = false ∧ (gN L pc L.length).2.1 ≤ L.length ∧ (gN L pc L.length).1 = pc ∧ ∃ g, run kp T = some (.out (.ext 1) (rgSt pc mv (L.map Rep.d) (gN L pc L.length).2.1 over i.d [(190, .bool g)]))) ∨
    ((gN L pc L.length).2.2 = true ∧ 1 ≤ (gN L pc L.length).2.1 ∧ (gN L pc L.length).2.1 ≤ L.length ∧ ∃ x, L[(gN L pc L.length).2.1 - 1]? = some x ∧ x.first = (gN L pc L.length).1 ∧ run kp T = some (.out (.ext 1) (rgStR x.first mv ((L.take ((gN L pc L.length).2.1 - 1)).map Rep.d ++ [Rep.d ⟨x.first, x.last, x.left - 1⟩]) (gN L pc L.length).2.1 over i.d ⟨x.first, x.last, x.left - 1⟩)))
end Go.Cd
