/- The library's functions that delete a part of a row, or lay a row into another one, at this seat's types, walked. No conditions. -/
import Derived.Test.YtgjeondicdipaaaFwN
import Derived.Test.YtgjeondicdipaaaTypes
import Derived.Test.YtgjeondicdipaaaProg
import Derived.KernelRfl
set_option linter.unusedVariables false
set_option linter.unusedSimpArgs false
namespace Go.Cd
open Go Go.Fw Go.Proofs Go.RowKit Go.Lib Go.Shelf
theorem row_last {w w' : World} {r r' : Array Value} {e : TypeId} (h : w'.heap = w.heap.push (.cells r e)) : (w'.setRow w.heap.size r').heap = w.heap.push (.cells r' e) := by
  simp only [World.setRow, h]
  apply Array.ext
  · simp
  · intro i h1 h2
    rw [Array.getElem_modify]
    by_cases hi : w.heap.size = i
    · subst hi; simp
    · rw [if_neg hi, Array.getElem_push, Array.getElem_push]
      have : i < w.heap.size := by simp at h2; omega
      simp [this]
/-- Memory at the end. -/
def Ends (w w' : World) (H : Array Obj) : Prop := Same w w' ∧ w'.heap = H
/- slices_Delete_int_int -/
set_option maxHeartbeats 4000000 in
set_option maxRecDepth 1000000 in
theorem del_nil38 (w : World) : Calls Try.prog 38 #[.slice none 0 0, .int .i64 0, .int .i64 0] w fun e w' => e = .returned (.slice none 0 0) ∧ w' = w := by
  go_enter Try.func38, Try.ntmps38
  go_wp2
  all_goals (go_ret; exact ⟨rfl, rfl⟩)
set_option maxHeartbeats 4000000 in
set_option maxRecDepth 1000000 in
theorem del_same38 (ad : Addr) (n cap i : Nat) (w : World) (h1 : n ≤ cap) (h2 : cap ≤ 9223372036854775807) (h3 : i ≤ n) : Calls Try.prog 38 #[.slice (some ad) n cap, .int .i64 i, .int .i64 i] w fun e w' => e = .returned (.slice (some ad) n cap) ∧ w' = w := by
  have h3' : (i : Int) ≤ (n : Int) := by omega
  have h4 : i ≤ cap := by omega
  obtain ⟨ab, ao, asp⟩ := ad
  go_enter Try.func38, Try.ntmps38
  go_wp2
  all_goals (go_ret; exact ⟨rfl, rfl⟩)
set_option maxHeartbeats 4000000 in
set_option maxRecDepth 1000000 in
theorem del_cut38 (b off n cap i j : Nat) (c : Array Value) (te : TypeId) (w : World) (hc : w.heap[b]? = some (.cells c te (0, 0))) (h1 : n ≤ cap) (h2 : cap ≤ 9223372036854775807) (h3 : off + cap * 1 ≤ c.size) (hij : i < j) (hj : j ≤ n) (hone : ∀ x ∈ seg c.toList off (n * 1), x.oneCell' = true) :
    Calls Try.prog 38 #[.slice (some ⟨b, off, none⟩) n cap, .int .i64 i, .int .i64 j] w fun e w' => e = .returned (.slice (some ⟨b, off, none⟩) (i + (n - j)) cap) ∧ ∃ r : Array Value, Same w w' ∧ w'.heap = (w.setRow b r).heap ∧ r.size = c.size ∧
      seg r.toList off (i * 1) = seg c.toList off (i * 1) ∧ seg r.toList (off + i * 1) ((n - j) * 1) = seg c.toList (off + j * 1) ((n - j) * 1) := by
  have hu : Try.prog.underlying 34 = some (.slice 3) := Try.underlying34
  have hsz : ∀ w, (sizeOf 3).run Try.prog w = .ok 1 w := Try.sizeOf3
  obtain ⟨news, hnews⟩ : ∃ news, seg c.toList (off + j * 1) ((n - j) * 1) = news := ⟨_, rfl⟩
  have hlen : news.length = (n - j) * 1 := by rw [← hnews]; exact seg_length (by simp only [Array.length_toList]; omega)
  have h1n : ∀ x ∈ news, x.oneCell' = true := by
    intro x hx
    rw [← hnews, ← show seg (seg c.toList off (n * 1)) (j * 1) ((n - j) * 1) = _ from seg_seg (by omega)] at hx
    exact hone x (List.mem_of_mem_drop (List.mem_of_mem_take hx))
  obtain ⟨A, hA, hsrc⟩ : ∃ A : Addr, (if cap = j then some (⟨b, off, none⟩ : Addr) else some ⟨b, off + j * 1, none⟩) = some A ∧ Hid (∀ t u, news[t]? = some u → w.cell? (A.add t) = some u) := by
    by_cases h : cap = j
    · refine ⟨⟨b, off, none⟩, by simp [h], fun t u hu => ?_⟩
      have h0 : news.length = 0 := by rw [hlen]; omega
      rw [List.length_eq_zero_iff.1 h0] at hu
      simp at hu
    · exact ⟨⟨b, off + j * 1, none⟩, by simp [h], fun t u hu => cells_of_row hc hnews t u hu⟩
  obtain ⟨r1, hr1⟩ : ∃ r1 : Array Value, (splice c.toList (off + i * 1) news).toArray = r1 := ⟨_, rfl⟩
  have ap : Hid (∀ ty, (Builtin.append_ #[34, 34] ty #[.slice (some ⟨b, off, none⟩) i cap, .slice (some A) (n - j) (cap - j)]).run Try.prog w.drew = .ok (.slice (some ⟨b, off, none⟩) (i + (n - j)) cap) (w.drew.setRow b r1)) := fun ty => by
    rw [← hr1]
    exact run_append_seg w.drew 34 ty 3 b off i cap A (n - j) (cap - j) c te news 1 hu hsz hc hlen hsrc.out (by omega) (by rw [hlen]; omega) h1n
  clear hsrc
  have mixed : Try.prog.follows .mixedOrders = true := by kernel_rfl
  have hz : ∀ w, (zeroValue 3).run Try.prog w = .ok (.int .i64 0) w := Try.zeroValue3
  have hzs : (.int .i64 0 : Value).cells.size = 1 := by first | rfl | kernel_rfl
  have hz1 : ∀ x ∈ (.int .i64 0 : Value).cells.toList, x.oneCell' = true := List.all_eq_true.1 (by first | rfl | kernel_rfl)
  have hr1s : r1.size = c.size := by rw [← hr1]; simp only [List.size_toArray]; rw [splice_length (by simp only [Array.length_toList]; omega)]; simp
  obtain ⟨zs, hzs'⟩ : ∃ zs : List Value, (Builtin.zeroCells (.int .i64 0 : Value).cells (n - (i + (n - j)))).toList = zs := ⟨_, rfl⟩
  have zl : zs.length = (n - (i + (n - j))) * 1 := by rw [← hzs']; simp only [Array.length_toList, size_zeroCells, hzs]
  obtain ⟨r2, hr2⟩ : ∃ r2 : Array Value, (splice r1.toList (off + (i + (n - j)) * 1) zs).toArray = r2 := ⟨_, rfl⟩
  obtain ⟨W1, hW1⟩ : ∃ W1, w.drew.setRow b r1 = W1 := ⟨_, rfl⟩
  have hc1 : W1.heap[b]? = some (.cells r1 te (0, 0)) := by rw [← hW1]; exact setRow_heap w.drew b c r1 te (0, 0) hc
  have cl : ∀ (ty : TypeId) (x : Nat), (Builtin.clear_ #[34] ty #[.slice (some ⟨b, off + (i + (n - j)) * 1, none⟩) (n - (i + (n - j))) x]).run Try.prog W1 = .ok (.tuple #[]) (W1.setRow b r2) := fun ty x => by
    rw [← hr2, ← hzs']
    exact run_clear_seg W1 34 ty 3 b (off + (i + (n - j)) * 1) (n - (i + (n - j))) x r1 te _ hu hz hc1 (by rw [hr1s, hzs]; omega) hz1
  have fin : Hid (Same w (W1.setRow b r2) ∧ (W1.setRow b r2).heap = (w.setRow b r2).heap ∧ r2.size = c.size ∧ seg r2.toList off (i * 1) = seg c.toList off (i * 1) ∧ seg r2.toList (off + i * 1) ((n - j) * 1) = seg c.toList (off + j * 1) ((n - j) * 1)) := by
    have e1 : W1.setRow b r2 = w.drew.setRow b r2 := by rw [← hW1, setRow_setRow]
    rw [e1]
    have l1 : (splice c.toList (off + i * 1) news).length = c.toList.length := splice_length (by simp only [Array.length_toList]; omega)
    have l2 : r1.toList.length = c.size := by simpa using hr1s
    have g1 : r1.toList = splice c.toList (off + i * 1) news := by rw [← hr1]
    have g2 : r2.toList = splice r1.toList (off + (i + (n - j)) * 1) zs := by rw [← hr2]
    have hcl : c.toList.length = c.size := Array.length_toList
    refine ⟨⟨rfl, rfl, rfl⟩, rfl, ?_, ?_, ?_⟩
    · rw [← Array.length_toList, g2, splice_length (by rw [l2, zl]; omega), l2]
    · rw [g2, seg_splice_apart (by rw [l2, zl]; omega) (by omega), g1, seg_splice_apart (by omega) (by omega)]
    · rw [g2, seg_splice_apart (by rw [l2, zl]; omega) (by omega), g1, hnews]
      have := seg_splice_same (c := c.toList) (x := news) (o := off + i * 1) (by omega)
      rwa [hlen] at this
  refine Calls.mono (R := fun e w' => e = .returned (.slice (some ⟨b, off, none⟩) (i + (n - j)) cap) ∧ w' = W1.setRow b r2) ?_ (by rintro e w' ⟨rfl, rfl⟩; exact ⟨rfl, r2, fin.out⟩)
  rw [hW1] at ap
  have hic : i ≤ cap := by omega
  have hjc : j ≤ cap := by omega
  have hkc : ¬ (cap = i + (n - j)) := by omega
  try simp only [Nat.mul_one] at cl
  clear hone hnews hlen h1n hr1 hr2 hc1 hW1 hc h3 hr1s fin hzs hz1 hzs' zl hz
  go_enter Try.func38, Try.ntmps38
  go_wp2_with fail
  go_region_law_o (refine step_builtin_run rfl (exec_append (v := .slice (some ⟨b, off, none⟩) i cap) (u := .slice (some A) (n - j) (cap - j)) rfl (by simp [Act.eval, Act.put]) (by first | (simp [Act.eval, Act.put]; done) | simpa [Act.eval, Act.put] using hA) (ap.out _)) ?_)
  go_wp2
  all_goals (go_ret; exact ⟨rfl, rfl⟩)
theorem nat38 : NatSnd Try.prog FT 38 .del := by
  have e : tySize Try.prog (tyOf Try.prog 3) = 1 := by kernel_rfl
  refine ⟨3, rfl, rfl, rfl, ?_⟩
  rw [e]
  exact ⟨del_nil38, del_same38, del_cut38⟩
theorem nats : ∀ p ∈ natl, NatSnd Try.prog FT p.1 p.2 := by
  intro p hp
  simp only [natl, List.mem_cons, List.not_mem_nil, or_false] at hp
  rcases hp with rfl
  · exact nat38
end Go.Cd
