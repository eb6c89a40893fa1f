/- Operations of the library, run. No conditions. -/
import Derived.Test.YtfddchjmpmjcfaaGreatFwD
import Derived.Shelf.RegionOpenPlain
import Derived.WalkKit
import Derived.Deep.LoopGhost
import Derived.Deep.RegionLaw
import Derived.Lib.Walk
import Derived.Lib.SliceRun
import Derived.Lib.AppendZeros
import Derived.Lib.AppendZerosOnto
import Derived.Lib.Overlaps
import Derived.Laws.Externs
import Derived.Laws.IdiomCopy
set_option linter.unusedVariables false
set_option linter.unusedSimpArgs false
namespace Go.Fw
open Go Go.RowKit Go.Lib Go.Shelf
variable {P : Program}
theorem cells_of_row {w : World} {b off n : Nat} {c : Array Value} {te : TypeId} {cs : List Value} (hc : w.heap[b]? = some (.cells c te (0, 0))) (hs : seg c.toList off n = cs) (j : Nat) (v : Value) (hj : cs[j]? = some v) : w.cell? (Addr.add ⟨b, off, none⟩ j) = some v := by
  subst hs
  rw [seg_getElem?] at hj
  split at hj
  · have hadd : (⟨b, off, none⟩ : Addr).add j = ⟨b, off + j, none⟩ := by unfold Addr.add; split <;> simp_all
    have hj' : off + j < c.size := by have := (List.getElem?_eq_some_iff.1 hj).1; simpa using this
    rw [hadd]
    simp only [World.cell?, hc]
    simpa using hj
  · cases hj
theorem splice_eq {c x : List Value} {o : Nat} : c.take (o + 0) ++ x ++ c.drop (o + 0 + x.length) = splice c o x := rfl
theorem run_copy_seg (w : World) (dT sT ty elem : TypeId) (g o dLen dCap : Nat) (a : Addr) (sLen sCap : Nat) (cur : Array Value) (t : TypeId) (cs : List Value) (n sz : Nat)
    (hu : P.underlying dT = some (.slice elem)) (hs : ∀ w, (sizeOf elem).run P w = .ok sz w) (hg : w.heap[g]? = some (.cells cur t (0, 0))) (hm : Nat.min sLen dLen = n) (hn : cs.length = n * sz)
    (hsrc : ∀ j v, cs[j]? = some v → w.cell? (a.add j) = some v) (hfit : o + cs.length ≤ cur.size) (h1 : ∀ v ∈ cs, v.oneCell' = true) :
    (Builtin.copy_ #[dT, sT] ty #[.slice (some ⟨g, o, none⟩) dLen dCap, .slice (some a) sLen sCap]).run P w = .ok (goInt n) (w.setRow g (splice cur.toList o cs).toArray) := by
  have hf := run_firstCells_some (P := P) w sz n a sLen sCap cs hn hsrc
  have hst := run_storeCells_at P g o t cs 0 cur w hg (by simpa using hfit) h1
  rw [splice_eq] at hst
  simp [Builtin.copy_, run_underlying hu, Builtin.lenOf, hs, hm, hf, hst]
theorem run_append_seg (w : World) (dT ty elem : TypeId) (g o n cap : Nat) (a : Addr) (m c : Nat) (cur : Array Value) (t : TypeId) (cs : List Value) (sz : Nat)
    (hu : P.underlying dT = some (.slice elem)) (hs : ∀ w, (sizeOf elem).run P w = .ok sz w) (hg : w.heap[g]? = some (.cells cur t (0, 0))) (hn : cs.length = m * sz)
    (hsrc : ∀ j v, cs[j]? = some v → w.cell? (a.add j) = some v) (hroom : n + m ≤ cap) (hfit : o + n * sz + cs.length ≤ cur.size) (h1 : ∀ v ∈ cs, v.oneCell' = true) :
    (Builtin.append_ #[dT, dT] ty #[.slice (some ⟨g, o, none⟩) n cap, .slice (some a) m c]).run P w = .ok (.slice (some ⟨g, o, none⟩) (n + m) cap) (w.setRow g (splice cur.toList (o + n * sz) cs).toArray) := by
  have hf := run_firstCells_some (P := P) w sz m a m c cs hn hsrc
  have hst := run_storeCells_at P g (o + n * sz) t cs 0 cur w hg (by simpa using hfit) h1
  rw [splice_eq] at hst
  have hadd : (⟨g, o, none⟩ : Addr).add (n * sz) = ⟨g, o + n * sz, none⟩ := by unfold Addr.add; split <;> simp_all
  simp [Builtin.append_, run_underlying hu, hs, Builtin.lenOf, hroom, hf, hadd, hst]
theorem run_clear_seg (w : World) (dT ty elem : TypeId) (g o n cap : Nat) (cur : Array Value) (t : TypeId) (z : Value) (hu : P.underlying dT = some (.slice elem)) (hz : ∀ w, (zeroValue elem).run P w = .ok z w)
    (hg : w.heap[g]? = some (.cells cur t (0, 0))) (hfit : o + n * z.cells.size ≤ cur.size) (h1 : ∀ v ∈ z.cells.toList, v.oneCell' = true) :
    (Builtin.clear_ #[dT] ty #[.slice (some ⟨g, o, none⟩) n cap]).run P w = .ok (.tuple #[]) (w.setRow g (splice cur.toList o (Builtin.zeroCells z.cells n).toList).toArray) := by
  have hl : (Builtin.zeroCells z.cells n).toList.length = n * z.cells.size := by simp [size_zeroCells]
  have hone : ∀ x ∈ (Builtin.zeroCells z.cells n).toList, x.oneCell' = true := by
    refine one_of_parts (n := n) (sz := z.cells.size) hl (fun i hi => ?_)
    rw [zeroCells_seg hi]
    exact h1
  have hst := run_storeCells_at P g o t (Builtin.zeroCells z.cells n).toList 0 cur w hg (by rw [hl]; simpa using hfit) hone
  rw [splice_eq] at hst
  cases n with
  | zero =>
    have e0 : (Builtin.zeroCells z.cells 0).toList = [] := by apply List.eq_nil_of_length_eq_zero; simp [size_zeroCells]
    rw [e0]
    have : (splice cur.toList o []).toArray = cur := by simp [splice]
    rw [this, setRow_self w g cur t (0, 0) hg]
    simp [Builtin.clear_, run_underlying hu, Result.andThen]
  | succ n =>
    simp [Builtin.clear_, run_underlying hu, Result.andThen, hz, hst]
/-- An operation of the library as one step, where its run is known. -/
theorem wpList_builtin_run {ops : Array Oper} {rest : List Oper} {o : Oper} {a : Act} {w : World} {Q : Exit → Act → World → Prop} (hgd : o.guard = none) {v : Value} {w' : World} (hr : (execOp a.eval o).run P w = .ok (.value v) w')
    (h : wpList P ops Q rest (a.put o.dst v) w') : wpList P ops Q (o :: rest) a w :=
  wpList_plain hgd fun _ hK => by
    unfold Oper.wp
    rw [hr]
    exact hK _ _ h
theorem step_builtin_run {ops : Array Oper} {o : Oper} {a : Act} {w : World} {K : Act → World → Prop} {Q : Exit → Act → World → Prop} {E : Prop} (hg : o.guard = none) {v : Value} {w' : World} (hr : (execOp a.eval o).run P w = .ok (.value v) w')
    (hK : K (a.put o.dst v) w') : if Region.wanted o (yielded ops a.tmps) = true then Oper.wp P o a w K Q else E := by
  have hw : Region.wanted o (yielded ops a.tmps) = true := by simp [Region.wanted, hg]
  rw [if_pos hw]
  unfold Oper.wp
  rw [hr]
  exact hK
theorem exec_copy {o : Oper} {a : Act} {w w' : World} {d s : Operand} {t t' : TypeId} {v u x : Value} (ho : o.op = .call { callee := .builtin .copy, args := #[d, s], argTypes := #[t, t'] }) (hd : a.eval d = v) (hs : a.eval s = u)
    (hr : (Builtin.copy_ #[t, t'] o.type #[v, u]).run P w = .ok x w') : (execOp a.eval o).run P w = .ok (.value x) w' := by
  simp [execOp, ho, resolve, invoke, builtin, hd, hs, hr]
theorem exec_append {o : Oper} {a : Act} {w w' : World} {d s : Operand} {t t' : TypeId} {v u x : Value} (ho : o.op = .call { callee := .builtin .append, args := #[d, s], argTypes := #[t, t'] }) (hd : a.eval d = v) (hs : a.eval s = u)
    (hr : (Builtin.append_ #[t, t'] o.type #[v, u]).run P w = .ok x w') : (execOp a.eval o).run P w = .ok (.value x) w' := by
  simp [execOp, ho, resolve, invoke, builtin, hd, hs, hr]
theorem exec_clear {o : Oper} {a : Act} {w w' : World} {d : Operand} {t : TypeId} {v x : Value} (ho : o.op = .call { callee := .builtin .clear, args := #[d], argTypes := #[t] }) (hd : a.eval d = v)
    (hr : (Builtin.clear_ #[t] o.type #[v]).run P w = .ok x w') : (execOp a.eval o).run P w = .ok (.value x) w' := by
  simp [execOp, ho, resolve, invoke, builtin, hd, hr]
end Go.Fw
