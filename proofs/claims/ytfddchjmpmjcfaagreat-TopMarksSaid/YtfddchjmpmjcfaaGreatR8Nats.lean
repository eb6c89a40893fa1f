/- The library's functions that delete a part of a row, or lay a row into another one, at this seat's types, walked. No conditions. -/
import Derived.Test.YtfddchjmpmjcfaaGreatFwN
import Derived.Test.YtfddchjmpmjcfaaGreatTypes
import Derived.Test.YtfddchjmpmjcfaaGreatProg
import Derived.KernelRfl
set_option linter.unusedVariables false
set_option linter.unusedSimpArgs false
namespace Go.Cd
open Go Go.Fw Go.Proofs Go.RowKit Go.Lib Go.Shelf
theorem row_last {w w' : World} {r r' : Array Value} {e : TypeId} (h : w'.heap = w.heap.push (.cells r e)) : (w'.setRow w.heap.size r').heap = w.heap.push (.cells r' e) := by
  simp only [World.setRow, h]
  apply Array.ext
  · simp
  · intro i h1 h2
    rw [Array.getElem_modify]
    by_cases hi : w.heap.size = i
    · subst hi; simp
    · rw [if_neg hi, Array.getElem_push, Array.getElem_push]
      have : i < w.heap.size := by simp at h2; omega
      simp [this]
/-- Memory at the end. -/
def Ends (w w' : World) (H : Array Obj) : Prop := Same w w' ∧ w'.heap = H
/- slices_Insert_api_Task_api_Task -/
set_option maxHeartbeats 4000000 in
set_option maxRecDepth 1000000 in
theorem ins_end160 (b off n cap i vb voff m vc : Nat) (c : Array Value) (te : TypeId) (cv : Array Value) (tv : TypeId) (w : World) (hc : w.heap[b]? = some (.cells c te (0, 0))) (hv : w.heap[vb]? = some (.cells cv tv (0, 0))) (hvb : vb ≠ b) (hroom : n + m ≤ cap) (h2 : cap ≤ 9223372036854775807) (h3 : off + cap * 6 ≤ c.size) (h4 : voff + m * 6 ≤ cv.size)
    (hm : 0 < m) (hmv : m ≤ vc) (hvc : vc ≤ 9223372036854775807) (hi : i = n) (hone : ∀ x ∈ seg c.toList off (n * 6), x.oneCell' = true) (hone2 : ∀ x ∈ seg cv.toList voff (m * 6), x.oneCell' = true) :
    Calls Tryz.prog 160 #[.slice (some ⟨b, off, none⟩) n cap, .int .i64 i, .slice (some ⟨vb, voff, none⟩) m vc] w fun e w' => e = .returned (.slice (some ⟨b, off, none⟩) (n + m) cap) ∧ ∃ r : Array Value, Same w w' ∧ w'.heap = (w.setRow b r).heap ∧ r.size = c.size ∧
      seg r.toList off (i * 6) = seg c.toList off (i * 6) ∧ seg r.toList (off + i * 6) (m * 6) = seg cv.toList voff (m * 6) ∧ seg r.toList (off + (i + m) * 6) ((n - i) * 6) = seg c.toList (off + i * 6) ((n - i) * 6) := by
  subst hi
  have hu : Tryz.prog.underlying 24 = some (.slice 53) := Tryz.underlying24
  have hsz : ∀ w, (sizeOf 53).run Tryz.prog w = .ok 6 w := Tryz.sizeOf53
  have mixed : Tryz.prog.follows .mixedOrders = true := by kernel_rfl
  obtain ⟨news, hnews⟩ : ∃ news, seg cv.toList voff (m * 6) = news := ⟨_, rfl⟩
  have hlen : news.length = m * 6 := by rw [← hnews]; exact seg_length (by simpa using h4)
  have hz1 : ¬ ((m : Int) = 0) := by omega
  obtain ⟨r1, hr1⟩ : ∃ r1 : Array Value, (splice c.toList (off + i * 6) news).toArray = r1 := ⟨_, rfl⟩
  have ap : Hid (∀ ty, (Builtin.append_ #[24, 24] ty #[.slice (some ⟨b, off, none⟩) i cap, .slice (some ⟨vb, voff, none⟩) m vc]).run Tryz.prog w = .ok (.slice (some ⟨b, off, none⟩) (i + m) cap) (w.setRow b r1)) := fun ty => by
    rw [← hr1]
    exact run_append_seg w 24 ty 53 b off i cap ⟨vb, voff, none⟩ m vc c te news 6 hu hsz hc hlen (cells_of_row hv hnews) hroom (by rw [hlen]; omega) (by rw [← hnews]; exact hone2)
  refine Calls.mono (R := fun e w' => e = .returned (.slice (some ⟨b, off, none⟩) (i + m) cap) ∧ w' = w.setRow b r1) ?_ (by
    rintro e w' ⟨rfl, rfl⟩
    have l1 : (splice c.toList (off + i * 6) news).length = c.toList.length := splice_length (by simp only [Array.length_toList]; omega)
    refine ⟨rfl, r1, ⟨rfl, rfl, rfl⟩, rfl, by rw [← hr1]; simpa using l1, ?_, ?_, by simp [seg]⟩
    · rw [← hr1]
      exact seg_splice_apart (by simp only [Array.length_toList]; omega) (by omega)
    · rw [← hr1, hnews]
      have := seg_splice_same (c := c.toList) (x := news) (o := off + i * 6) (by simp only [Array.length_toList]; omega)
      rwa [hlen] at this)
  clear hone hone2 hnews hlen hr1 hc hv h3 h4
  go_enter Tryz.func160, Tryz.ntmps160
  go_wp2_with (at_builtin; refine wpList_builtin_run rfl (exec_append rfl rfl rfl (ap.out _)) ?_)
  all_goals (go_ret; exact ⟨rfl, rfl⟩)
set_option maxHeartbeats 4000000 in
set_option maxRecDepth 1000000 in
theorem ins_shift160 (b off n cap i vb voff m vc : Nat) (c : Array Value) (te : TypeId) (cv : Array Value) (tv : TypeId) (w : World) (hc : w.heap[b]? = some (.cells c te (0, 0))) (hv : w.heap[vb]? = some (.cells cv tv (0, 0))) (hvb : vb ≠ b) (hroom : n + m ≤ cap) (h2 : cap ≤ 9223372036854775807) (h3 : off + cap * 6 ≤ c.size) (h4 : voff + m * 6 ≤ cv.size)
    (hm : 0 < m) (hmv : m ≤ vc) (hvc : vc ≤ 9223372036854775807) (hi : i < n) (hone : ∀ x ∈ seg c.toList off (n * 6), x.oneCell' = true) (hone2 : ∀ x ∈ seg cv.toList voff (m * 6), x.oneCell' = true) :
    Calls Tryz.prog 160 #[.slice (some ⟨b, off, none⟩) n cap, .int .i64 i, .slice (some ⟨vb, voff, none⟩) m vc] w fun e w' => e = .returned (.slice (some ⟨b, off, none⟩) (n + m) cap) ∧ ∃ r : Array Value, Same w w' ∧ w'.heap = (w.setRow b r).heap ∧ r.size = c.size ∧
      seg r.toList off (i * 6) = seg c.toList off (i * 6) ∧ seg r.toList (off + i * 6) (m * 6) = seg cv.toList voff (m * 6) ∧ seg r.toList (off + (i + m) * 6) ((n - i) * 6) = seg c.toList (off + i * 6) ((n - i) * 6) := by
  have hu : Tryz.prog.underlying 24 = some (.slice 53) := Tryz.underlying24
  have hsz : ∀ w, (sizeOf 53).run Tryz.prog w = .ok 6 w := Tryz.sizeOf53
  have mixed : Tryz.prog.follows .mixedOrders = true := by kernel_rfl
  obtain ⟨news, hnews⟩ : ∃ news, seg cv.toList voff (m * 6) = news := ⟨_, rfl⟩
  have hlen : news.length = m * 6 := by rw [← hnews]; exact seg_length (by simpa using h4)
  have hz1 : ¬ ((m : Int) = 0) := by omega
  have hz2 : ¬ ((i : Int) = (n : Int)) := by omega
  have hcl : c.toList.length = c.size := Array.length_toList
  obtain ⟨olds, holds⟩ : ∃ olds, seg c.toList (off + i * 6) ((n - i) * 6) = olds := ⟨_, rfl⟩
  have hol : olds.length = (n - i) * 6 := by rw [← holds]; exact seg_length (by omega)
  have h1o : ∀ x ∈ olds, x.oneCell' = true := by
    intro x hx
    rw [← holds, ← show seg (seg c.toList off (n * 6)) (i * 6) ((n - i) * 6) = _ from seg_seg (by omega)] at hx
    exact hone x (List.mem_of_mem_drop (List.mem_of_mem_take hx))
  obtain ⟨r1, hr1⟩ : ∃ r1 : Array Value, (splice c.toList (off + (i + m) * 6) olds).toArray = r1 := ⟨_, rfl⟩
  have g1 : r1.toList = splice c.toList (off + (i + m) * 6) olds := by rw [← hr1]
  have l1 : r1.toList.length = c.size := by rw [g1, splice_length (by omega), hcl]
  obtain ⟨r2, hr2⟩ : ∃ r2 : Array Value, (splice r1.toList (off + i * 6) news).toArray = r2 := ⟨_, rfl⟩
  have g2 : r2.toList = splice r1.toList (off + i * 6) news := by rw [← hr2]
  obtain ⟨W1, hW1⟩ : ∃ W1, w.drew.setRow b r1 = W1 := ⟨_, rfl⟩
  have hc1 : W1.heap[b]? = some (.cells r1 te (0, 0)) := by rw [← hW1]; exact setRow_heap w.drew b c r1 te (0, 0) hc
  have hv1 : W1.heap[vb]? = some (.cells cv tv (0, 0)) := by
    rw [← hW1]
    show (w.heap.modify b _)[vb]? = _
    rw [Array.getElem?_modify, if_neg (Ne.symm hvb)]
    exact hv
  have hov : ∀ lb cb, (callFunc 220 #[.slice (some ⟨vb, voff, none⟩) m vc, .slice (some ⟨b, off + (i + m) * 6, none⟩) lb cb]).run Tryz.prog w = .ok (.value (.bool false)) w := fun lb cb => by
    rw [run_callFunc_extern Tryz.func220 (by kernel_rfl) (by kernel_rfl) (by kernel_rfl) (e := Extern.SlicesOverlaps.overlaps #[24, 24] #[4]) (by kernel_rfl),
      Lib.run_overlaps_apart w 24 4 53 hu 6 hsz ⟨vb, voff, none⟩ ⟨b, off + (i + m) * 6, none⟩ m vc lb cb hvb tv te cv.size c.size (by simp [World.shape?, hv]) (by simp [World.shape?, hc]) (by omega) (by simp [World.frozen?, hv]) (by simp [World.frozen?, hv])]
    rfl
  have cpA : Hid (∀ ty dc sc, (Builtin.copy_ #[24, 24] ty #[.slice (some ⟨b, off + (i + m) * 6, none⟩) (n + m - (i + m)) dc, .slice (some ⟨b, off + i * 6, none⟩) (n + m - i) sc]).run Tryz.prog w.drew = .ok (goInt ((n - i : Nat) : Int)) W1) := fun ty dc sc => by
    rw [← hW1, ← hr1]
    exact run_copy_seg w.drew 24 24 ty 53 b (off + (i + m) * 6) (n + m - (i + m)) dc ⟨b, off + i * 6, none⟩ (n + m - i) sc c te olds (n - i) 6 hu hsz hc (by simp only [Nat.min_def]; split <;> omega) hol (cells_of_row hc holds) (by omega) h1o
  have cpB : Hid (∀ (W : World), W.heap = W1.heap → ∀ ty dc, (Builtin.copy_ #[24, 24] ty #[.slice (some ⟨b, off + i * 6, none⟩) (n + m - i) dc, .slice (some ⟨vb, voff, none⟩) m vc]).run Tryz.prog W = .ok (goInt m) (W.setRow b r2)) := fun W hW ty dc => by
    rw [← hr2]
    exact run_copy_seg W 24 24 ty 53 b (off + i * 6) (n + m - i) dc ⟨vb, voff, none⟩ m vc r1 te news m 6 hu hsz (by rw [hW]; exact hc1) (by simp only [Nat.min_def]; split <;> omega) hlen (cells_of_row (by rw [hW]; exact hv1) hnews) (by rw [← Array.length_toList, l1, hlen]; omega) (by rw [← hnews]; exact hone2)
  have fin : Hid (Same w (W1.setRow b r2) ∧ (W1.setRow b r2).heap = (w.setRow b r2).heap ∧ r2.size = c.size ∧ seg r2.toList off (i * 6) = seg c.toList off (i * 6) ∧ seg r2.toList (off + i * 6) (m * 6) = seg cv.toList voff (m * 6) ∧
      seg r2.toList (off + (i + m) * 6) ((n - i) * 6) = seg c.toList (off + i * 6) ((n - i) * 6)) := by
    have e1 : W1.setRow b r2 = w.drew.setRow b r2 := by rw [← hW1, setRow_setRow]
    rw [e1]
    refine ⟨⟨rfl, rfl, rfl⟩, rfl, ?_, ?_, ?_, ?_⟩
    · rw [← Array.length_toList, g2, splice_length (by rw [l1, hlen]; omega), l1]
    · rw [g2, seg_splice_apart (by rw [l1, hlen]; omega) (by omega), g1, seg_splice_apart (by omega) (by omega)]
    · rw [g2, hnews]
      have := seg_splice_same (c := r1.toList) (x := news) (o := off + i * 6) (by rw [l1, hlen]; omega)
      rwa [hlen] at this
    · rw [g2, seg_splice_apart (by rw [l1, hlen]; omega) (by omega), g1, holds]
      have := seg_splice_same (c := c.toList) (x := olds) (o := off + (i + m) * 6) (by omega)
      rwa [hol] at this
  refine Calls.mono (R := fun e w' => e = .returned (.slice (some ⟨b, off, none⟩) (n + m) cap) ∧ w' = W1.setRow b r2) ?_ (by rintro e w' ⟨rfl, rfl⟩; exact ⟨rfl, r2, fin.out⟩)
  have hw1 : IntKind.i64.wrap ((i : Int) + (m : Int)) = (i : Int) + (m : Int) := by rw [IntKind.wrap_i64]; omega
  have hb1 : (0 : Int) ≤ (i : Int) + (m : Int) := by omega
  have hin : i ≤ n := by omega
  have htn : ((i : Int) + (m : Int)).toNat = i + m := by omega
  have hb2 : ¬ (cap = i + m) := by omega
  have hb3 : (i : Int) ≤ (n : Int) + (m : Int) := by omega
  have hb4 : ¬ (cap = i) := by omega
  have cpB' := cpB.out W1 rfl
  try simp only [Nat.mul_one] at hov
  try simp only [Nat.mul_one] at cpB'
  clear hone hone2 hnews hlen holds hol h1o hr1 g1 l1 hr2 g2 hc1 hv1 hcl fin hc hv h3 h4
  go_enter Tryz.func160, Tryz.ntmps160
  go_wp2_with (simp only [hov])
  go_region_law_o (refine step_builtin_run rfl (exec_copy (v := .slice (some ⟨b, off + (i + m) * 6, none⟩) (n + m - (i + m)) (cap - (i + m))) (u := .slice (some ⟨b, off + i * 6, none⟩) (n + m - i) (cap - i)) rfl (by simp [Act.eval, Act.put]) (by simp [Act.eval, Act.put]) (cpA.out _ _ _)) ?_)
  go_wp2
  all_goals (go_ret; exact ⟨rfl, rfl⟩)
set_option maxHeartbeats 4000000 in
set_option maxRecDepth 1000000 in
theorem ins_end_grow160 (base : Option Addr) (n cap i vb voff m vc : Nat) (olds : List Value) (cv : Array Value) (tv : TypeId) (w : World) (hv : w.heap[vb]? = some (.cells cv tv (0, 0))) (hnc : n ≤ cap) (hg : cap < n + m) (hnm : n + m ≤ 1073741824) (hol : olds.length = n * 6) (h4 : voff + m * 6 ≤ cv.size)
    (hm : 0 < m) (hmv : m ≤ vc) (hvc : vc ≤ 9223372036854775807) (hi : i = n) (hb : n = 0 ∨ ∃ b off c te, base = some ⟨b, off, none⟩ ∧ w.heap[b]? = some (.cells c te (0, 0)) ∧ off + n * 6 ≤ c.size ∧ olds = seg c.toList off (n * 6)) (hbn : base = none → n = 0 ∧ cap = 0)
    (hone : ∀ x ∈ olds, x.oneCell' = true) (hone2 : ∀ x ∈ seg cv.toList voff (m * 6), x.oneCell' = true) :
    Calls Tryz.prog 160 #[.slice base n cap, .int .i64 i, .slice (some ⟨vb, voff, none⟩) m vc] w fun e w' => ∃ (cap' : Nat) (r : Array Value), e = .returned (.slice (some ⟨w.heap.size, 0, none⟩) (n + m) cap') ∧ n + m ≤ cap' ∧ cap' ≤ maxLen ∧ Same w w' ∧
      w'.heap = w.heap.push (.cells r 53) ∧ cap' * 6 ≤ r.size ∧ seg r.toList 0 (i * 6) = seg olds 0 (i * 6) ∧ seg r.toList (i * 6) (m * 6) = seg cv.toList voff (m * 6) ∧ seg r.toList ((i + m) * 6) ((n - i) * 6) = seg olds (i * 6) ((n - i) * 6) := by
  subst hi
  have hu : Tryz.prog.underlying 24 = some (.slice 53) := Tryz.underlying24
  have hsz : ∀ w, (sizeOf 53).run Tryz.prog w = .ok 6 w := Tryz.sizeOf53
  have mixed : Tryz.prog.follows .mixedOrders = true := by kernel_rfl
  obtain ⟨news, hnews⟩ : ∃ news, seg cv.toList voff (m * 6) = news := ⟨_, rfl⟩
  have hlen : news.length = m * 6 := by rw [← hnews]; exact seg_length (by simpa using h4)
  have hz1 : ¬ ((m : Int) = 0) := by omega
  have hgd : tyGood Tryz.prog 53 = true := by kernel_rfl
  obtain ⟨ti, hti, hz0, hzs, hzb⟩ : ∃ ti, Tryz.prog.info? 53 = some ti ∧ ti.zero = some (.agg #[.int .i64 0, .int .i64 0, .int .i64 0, .slice none 0 0, .slice none 0 0, .slice none 0 0]) ∧ ti.size = 6 ∧ ti.bytes ≤ 131072 := ⟨Tryz.t53, by kernel_rfl, by kernel_rfl, by kernel_rfl, by decide +kernel⟩
  have hzc : (.agg #[.int .i64 0, .int .i64 0, .int .i64 0, .slice none 0 0, .slice none 0 0, .slice none 0 0] : Value).cells.size = 6 := by first | rfl | kernel_rfl
  have hty : tySize Tryz.prog (tyOf Tryz.prog 53) = 6 := by kernel_rfl
  have hbig : (i + m) * ti.bytes ≤ 140737488355328 := Nat.le_trans (Nat.mul_le_mul hnm hzb) (by decide)
  have hold : (Builtin.firstCells 6 i (.slice base i cap)).run Tryz.prog w.drew = .ok olds.toArray w.drew := by
    rcases hb with h0 | ⟨b, off, c, te, rfl, k1, k2, k3⟩
    · subst h0
      obtain rfl : olds = [] := List.eq_nil_of_length_eq_zero (by simpa using hol)
      cases base with
      | none => exact run_firstCells_none w.drew 6 0 0 cap
      | some a => exact run_firstCells_some w.drew 6 0 a 0 cap [] (by simp) (fun j v hj => by simp at hj)
    · exact run_firstCells_some w.drew 6 i ⟨b, off, none⟩ i cap olds hol (cells_of_row (w := w.drew) k1 k3.symm)
  have hf : (Builtin.firstCells 6 m (.slice (some ⟨vb, voff, none⟩) m vc)).run Tryz.prog w.drew = .ok news.toArray w.drew := run_firstCells_some w.drew 6 m ⟨vb, voff, none⟩ m vc news hlen (cells_of_row (w := w.drew) hv hnews)
  obtain ⟨G, hG⟩ : ∃ G, grownCap w (i + m) cap 53 = G := ⟨_, rfl⟩
  have hG1 : i + m ≤ G := by rw [← hG]; exact grownCap_ge w _ _ _
  have hG2 : G ≤ maxLen := by rw [← hG]; exact grownCap_le_maxLen w _ _ _ (by simp only [maxLen]; omega)
  obtain ⟨r, hr⟩ : ∃ r : Array Value, olds.toArray ++ news.toArray ++ Builtin.zeroCells (.agg #[.int .i64 0, .int .i64 0, .int .i64 0, .slice none 0 0, .slice none 0 0, .slice none 0 0] : Value).cells (G - (i + m)) = r := ⟨_, rfl⟩
  have ap : Hid (∀ ty, (Builtin.append_ #[24, 24] ty #[.slice base i cap, .slice (some ⟨vb, voff, none⟩) m vc]).run Tryz.prog w = .ok (.slice (some ⟨w.heap.size, 0, none⟩) (i + m) G) (w.drew.alloc (.cells r 53))) := fun ty => by
    rw [← hr, ← hG]
    exact append_grow hu hu hgd hti hz0 hzb (by rw [hty]; exact hold) (by rw [hty]; exact hf) hg hnm
  refine Calls.mono (R := fun e w' => e = .returned (.slice (some ⟨w.heap.size, 0, none⟩) (i + m) G) ∧ w' = w.drew.alloc (.cells r 53)) ?_ (by
    rintro e w' ⟨rfl, rfl⟩
    have g : r.toList = olds ++ news ++ (Builtin.zeroCells (.agg #[.int .i64 0, .int .i64 0, .int .i64 0, .slice none 0 0, .slice none 0 0, .slice none 0 0] : Value).cells (G - (i + m))).toList := by rw [← hr]; simp
    refine ⟨G, r, rfl, hG1, hG2, ⟨rfl, rfl, rfl⟩, rfl, ?_, ?_, ?_, by simp [seg]⟩
    · rw [← Array.length_toList, g]
      simp only [List.length_append, hol, hlen, Array.length_toList, size_zeroCells, hzc]
      omega
    · rw [g, List.append_assoc, seg_append_left (by omega)]
    · rw [g, List.append_assoc, show i * 6 = olds.length + 0 by omega, seg_append_right, seg_append_left (by omega), hnews, ← hlen, seg_all])
  clear hone hone2 hnews hlen hr hv h4 hol hold hf hb hG
  go_enter Tryz.func160, Tryz.ntmps160
  cases base with
  | none =>
    obtain ⟨rfl, rfl⟩ := hbn rfl
    clear hbn
    go_wp2_with (at_builtin; refine wpList_builtin_run rfl (exec_append rfl rfl rfl (ap.out _)) ?_)
    all_goals (go_ret; exact ⟨by simp, rfl⟩)
  | some ad =>
    obtain ⟨ab, ao, asp⟩ := ad
    clear hbn
    go_wp2_with (at_builtin; refine wpList_builtin_run rfl (exec_append rfl rfl rfl (ap.out _)) ?_)
    all_goals (go_ret; exact ⟨rfl, rfl⟩)
set_option maxHeartbeats 4000000 in
set_option maxRecDepth 1000000 in
theorem ins_grow160 (base : Option Addr) (n cap i vb voff m vc : Nat) (olds : List Value) (cv : Array Value) (tv : TypeId) (w : World) (hv : w.heap[vb]? = some (.cells cv tv (0, 0))) (hnc : n ≤ cap) (hg : cap < n + m) (hnm : n + m ≤ 1073741824) (hol : olds.length = n * 6) (h4 : voff + m * 6 ≤ cv.size)
    (hm : 0 < m) (hmv : m ≤ vc) (hvc : vc ≤ 9223372036854775807) (hi : i < n) (hb : n = 0 ∨ ∃ b off c te, base = some ⟨b, off, none⟩ ∧ w.heap[b]? = some (.cells c te (0, 0)) ∧ off + n * 6 ≤ c.size ∧ olds = seg c.toList off (n * 6)) (hbn : base = none → n = 0 ∧ cap = 0)
    (hone : ∀ x ∈ olds, x.oneCell' = true) (hone2 : ∀ x ∈ seg cv.toList voff (m * 6), x.oneCell' = true) :
    Calls Tryz.prog 160 #[.slice base n cap, .int .i64 i, .slice (some ⟨vb, voff, none⟩) m vc] w fun e w' => ∃ (cap' : Nat) (r : Array Value), e = .returned (.slice (some ⟨w.heap.size, 0, none⟩) (n + m) cap') ∧ n + m ≤ cap' ∧ cap' ≤ maxLen ∧ Same w w' ∧
      w'.heap = w.heap.push (.cells r 53) ∧ cap' * 6 ≤ r.size ∧ seg r.toList 0 (i * 6) = seg olds 0 (i * 6) ∧ seg r.toList (i * 6) (m * 6) = seg cv.toList voff (m * 6) ∧ seg r.toList ((i + m) * 6) ((n - i) * 6) = seg olds (i * 6) ((n - i) * 6) := by
  rcases hb with h0 | ⟨b, off, c, te, rfl, k1, k2, k3⟩
  · omega
  have hu : Tryz.prog.underlying 24 = some (.slice 53) := Tryz.underlying24
  have hsz : ∀ w, (sizeOf 53).run Tryz.prog w = .ok 6 w := Tryz.sizeOf53
  have mixed : Tryz.prog.follows .mixedOrders = true := by kernel_rfl
  obtain ⟨news, hnews⟩ : ∃ news, seg cv.toList voff (m * 6) = news := ⟨_, rfl⟩
  have hlen : news.length = m * 6 := by rw [← hnews]; exact seg_length (by simpa using h4)
  have hz1 : ¬ ((m : Int) = 0) := by omega
  have hgd : tyGood Tryz.prog 53 = true := by kernel_rfl
  obtain ⟨ti, hti, hz0, hzs, hzb⟩ : ∃ ti, Tryz.prog.info? 53 = some ti ∧ ti.zero = some (.agg #[.int .i64 0, .int .i64 0, .int .i64 0, .slice none 0 0, .slice none 0 0, .slice none 0 0]) ∧ ti.size = 6 ∧ ti.bytes ≤ 131072 := ⟨Tryz.t53, by kernel_rfl, by kernel_rfl, by kernel_rfl, by decide +kernel⟩
  have hzc : (.agg #[.int .i64 0, .int .i64 0, .int .i64 0, .slice none 0 0, .slice none 0 0, .slice none 0 0] : Value).cells.size = 6 := by first | rfl | kernel_rfl
  have hty : tySize Tryz.prog (tyOf Tryz.prog 53) = 6 := by kernel_rfl
  have hbig : (n + m) * ti.bytes ≤ 140737488355328 := Nat.le_trans (Nat.mul_le_mul hnm hzb) (by decide)
  have hz2 : ¬ ((i : Int) = (n : Int)) := by omega
  have hz3 : (cap : Int) < (n : Int) + (m : Int) := by omega
  have hcl : c.toList.length = c.size := Array.length_toList
  have hbw : b < w.heap.size := (Array.getElem?_eq_some_iff.1 k1).1
  have hvw : vb < w.heap.size := (Array.getElem?_eq_some_iff.1 hv).1
  obtain ⟨o1, ho1⟩ : ∃ o1, seg c.toList off (i * 6) = o1 := ⟨_, rfl⟩
  obtain ⟨o2, ho2⟩ : ∃ o2, seg c.toList (off + i * 6) ((n - i) * 6) = o2 := ⟨_, rfl⟩
  have hl1 : o1.length = i * 6 := by rw [← ho1]; exact seg_length (by omega)
  have hl2 : o2.length = (n - i) * 6 := by rw [← ho2]; exact seg_length (by omega)
  have e1 : seg olds 0 (i * 6) = o1 := by rw [k3, seg_seg (by omega), Nat.add_zero, ho1]
  have e2 : seg olds (i * 6) ((n - i) * 6) = o2 := by rw [k3, seg_seg (by omega), ho2]
  have h1o : ∀ x ∈ o2, x.oneCell' = true := fun x hx => hone x (by rw [← e2] at hx; exact List.mem_of_mem_drop (List.mem_of_mem_take hx))
  have hkk : (n : Int) + (m : Int) - (i : Int) = ((n + m - i : Nat) : Int) := by omega
  have hik : i + (n + m - i) = n + m := by omega
  have hold : (Builtin.firstCells ti.size i (.slice (some ⟨b, off, none⟩) i cap)).run Tryz.prog w.drew = .ok o1.toArray w.drew := by
    rw [hzs]
    exact run_firstCells_some w.drew 6 i ⟨b, off, none⟩ i cap o1 hl1 (cells_of_row (w := w.drew) k1 ho1)
  obtain ⟨G, hG⟩ : ∃ G, grownCap w (n + m) cap 53 = G := ⟨_, rfl⟩
  have hG1 : n + m ≤ G := by rw [← hG]; exact grownCap_ge w _ _ _
  have hG2 : G ≤ maxLen := by rw [← hG]; exact grownCap_le_maxLen w _ _ _ (by simp only [maxLen]; omega)
  obtain ⟨r, hr⟩ : ∃ r : Array Value, o1.toArray ++ Builtin.zeroCells (.agg #[.int .i64 0, .int .i64 0, .int .i64 0, .slice none 0 0, .slice none 0 0, .slice none 0 0] : Value).cells (n + m - i) ++ Builtin.zeroCells (.agg #[.int .i64 0, .int .i64 0, .int .i64 0, .slice none 0 0, .slice none 0 0, .slice none 0 0] : Value).cells (G - (n + m)) = r := ⟨_, rfl⟩
  have g0 : r.toList = o1 ++ ((Builtin.zeroCells (.agg #[.int .i64 0, .int .i64 0, .int .i64 0, .slice none 0 0, .slice none 0 0, .slice none 0 0] : Value).cells (n + m - i)).toList ++ (Builtin.zeroCells (.agg #[.int .i64 0, .int .i64 0, .int .i64 0, .slice none 0 0, .slice none 0 0, .slice none 0 0] : Value).cells (G - (n + m))).toList) := by rw [← hr]; simp
  have l0 : r.toList.length = G * 6 := by
    rw [g0]
    simp only [List.length_append, hl1, Array.length_toList, size_zeroCells, hzc]
    omega
  have hr' : o1.toArray ++ Builtin.zeroCells (.agg #[.int .i64 0, .int .i64 0, .int .i64 0, .slice none 0 0, .slice none 0 0, .slice none 0 0] : Value).cells (n + m - i) ++ Builtin.zeroCells (.agg #[.int .i64 0, .int .i64 0, .int .i64 0, .slice none 0 0, .slice none 0 0, .slice none 0 0] : Value).cells (grownCap w (n + m) cap 53 - (n + m)) = r := by rw [hG]; exact hr
  have hrz : Hid (∀ ty, (Builtin.append_ #[24, 3] ty #[.slice (some ⟨b, off, none⟩) i cap, .int .i64 ((n : Int) + (m : Int) - (i : Int))]).run Tryz.prog w = .ok (.slice (some ⟨w.heap.size, 0, none⟩) (n + m) G) (w.drew.alloc (.cells r 53))) := fun ty => by
    have h := Lib.run_append_grow_zeros (P := Tryz.prog) w 24 3 ty 53 ti _ .i64 .i64 hu Tryz.underlying3 hti hz0 (some ⟨b, off, none⟩) i cap o1 hold (n + m - i) (by omega) (by rw [hzs]; omega) (by omega) (by omega) (by
      have : (n + m - i) * ti.bytes ≤ (n + m) * ti.bytes := Nat.mul_le_mul_right _ (by omega)
      omega) (by rw [hik]; exact growslice_fits hg hbig)
    rw [hik, hr', hG] at h
    rw [hkk]
    exact h
  obtain ⟨W1, hW1⟩ : ∃ W1, w.drew.alloc (.cells r 53) = W1 := ⟨_, rfl⟩
  have hWh : W1.heap = w.heap.push (.cells r 53) := by rw [← hW1]; rfl
  have hcN : W1.heap[w.heap.size]? = some (.cells r 53 (0, 0)) := by rw [hWh]; simp
  have hcB : W1.heap[b]? = some (.cells c te (0, 0)) := by rw [hWh, Array.getElem?_push_lt hbw, ← Array.getElem?_eq_getElem hbw]; exact k1
  have hcV : W1.heap[vb]? = some (.cells cv tv (0, 0)) := by rw [hWh, Array.getElem?_push_lt hvw, ← Array.getElem?_eq_getElem hvw]; exact hv
  obtain ⟨r2, hr2⟩ : ∃ r2 : Array Value, (splice r.toList (i * 6) news).toArray = r2 := ⟨_, rfl⟩
  have g2 : r2.toList = splice r.toList (i * 6) news := by rw [← hr2]
  have l2 : r2.toList.length = G * 6 := by rw [g2, splice_length (by rw [l0, hlen]; omega), l0]
  obtain ⟨r3, hr3⟩ : ∃ r3 : Array Value, (splice r2.toList ((i + m) * 6) o2).toArray = r3 := ⟨_, rfl⟩
  have g3 : r3.toList = splice r2.toList ((i + m) * 6) o2 := by rw [← hr3]
  have l3 : r3.toList.length = G * 6 := by rw [g3, splice_length (by rw [l2, hl2]; omega), l2]
  have cpA : Hid (∀ (W : World), W.heap = W1.heap → ∀ ty dc, (Builtin.copy_ #[24, 24] ty #[.slice (some ⟨w.heap.size, i * 6, none⟩) (n + m - i) dc, .slice (some ⟨vb, voff, none⟩) m vc]).run Tryz.prog W = .ok (goInt m) (W.setRow w.heap.size r2)) := fun W hW ty dc => by
    rw [← hr2]
    exact run_copy_seg W 24 24 ty 53 w.heap.size (i * 6) (n + m - i) dc ⟨vb, voff, none⟩ m vc r 53 news m 6 hu hsz (by rw [hW]; exact hcN) (by simp only [Nat.min_def]; split <;> omega) hlen (cells_of_row (by rw [hW]; exact hcV) hnews) (by rw [← Array.length_toList, l0, hlen]; omega) (by rw [← hnews]; exact hone2)
  have cpB : Hid (∀ (W : World), W.heap = (W1.setRow w.heap.size r2).heap → ∀ ty dc sc, (Builtin.copy_ #[24, 24] ty #[.slice (some ⟨w.heap.size, (i + m) * 6, none⟩) (n + m - (i + m)) dc, .slice (some ⟨b, off + i * 6, none⟩) (n - i) sc]).run Tryz.prog W = .ok (goInt ((n - i : Nat) : Int)) (W.setRow w.heap.size r3)) := fun W hW ty dc sc => by
    rw [← hr3]
    refine run_copy_seg W 24 24 ty 53 w.heap.size ((i + m) * 6) (n + m - (i + m)) dc ⟨b, off + i * 6, none⟩ (n - i) sc r2 53 o2 (n - i) 6 hu hsz (by rw [hW]; exact setRow_heap W1 w.heap.size r r2 53 (0, 0) hcN) (by simp only [Nat.min_def]; split <;> omega) hl2 (cells_of_row (te := te) ?_ ho2) (by rw [← Array.length_toList, l2, hl2]; omega) h1o
    rw [hW]
    show (W1.heap.modify w.heap.size _)[b]? = _
    rw [Array.getElem?_modify, if_neg (by omega)]
    exact hcB
  have fin : Hid (∀ w', Ends w w' ((W1.setRow w.heap.size r2).setRow w.heap.size r3).heap → ∃ (cap' : Nat) (r : Array Value), Ending.returned (.slice (some ⟨w.heap.size, 0, none⟩) (n + m) G) = .returned (.slice (some ⟨w.heap.size, 0, none⟩) (n + m) cap') ∧ n + m ≤ cap' ∧ cap' ≤ maxLen ∧ Same w w' ∧
      w'.heap = w.heap.push (.cells r 53) ∧ cap' * 6 ≤ r.size ∧ seg r.toList 0 (i * 6) = seg olds 0 (i * 6) ∧ seg r.toList (i * 6) (m * 6) = seg cv.toList voff (m * 6) ∧ seg r.toList ((i + m) * 6) ((n - i) * 6) = seg olds (i * 6) ((n - i) * 6)) := by
    rintro w' ⟨hs, hh⟩
    refine ⟨G, r3, rfl, hG1, hG2, hs, ?_, by rw [← Array.length_toList, l3]; exact Nat.le_refl _, ?_, ?_, ?_⟩
    · rw [hh, setRow_setRow]
      exact row_last hWh
    · rw [e1, g3, seg_splice_apart (by rw [l2, hl2]; omega) (by omega), g2, seg_splice_apart (by rw [l0, hlen]; omega) (by omega), g0, seg_append_left (by omega), ← hl1, seg_all]
    · rw [g3, seg_splice_apart (by rw [l2, hl2]; omega) (by omega), g2, hnews]
      have := seg_splice_same (c := r.toList) (x := news) (o := i * 6) (by rw [l0, hlen]; omega)
      rwa [hlen] at this
    · rw [g3, e2]
      have := seg_splice_same (c := r2.toList) (x := o2) (o := (i + m) * 6) (by rw [l2, hl2]; omega)
      rwa [hl2] at this
  refine Calls.mono (R := fun e w' => e = .returned (.slice (some ⟨w.heap.size, 0, none⟩) (n + m) G) ∧ Ends w w' ((W1.setRow w.heap.size r2).setRow w.heap.size r3).heap) ?_ (by rintro e w' ⟨rfl, h⟩; exact fin.out w' h)
  have hGi : ¬ (G = i) := by omega
  have hGim : ¬ (G = i + m) := by omega
  have hci : ¬ (cap = i) := by omega
  have hw1 : IntKind.i64.wrap ((i : Int) + (m : Int)) = (i : Int) + (m : Int) := by rw [IntKind.wrap_i64]; omega
  have hb1 : (0 : Int) ≤ (i : Int) + (m : Int) := by omega
  have hin : i ≤ n := by omega
  have htn : ((i : Int) + (m : Int)).toNat = i + m := by omega
  have hb3 : (i : Int) ≤ (n : Int) := by omega
  have hG63 : G ≤ 9223372036854775807 := hG2
  rw [hW1] at hrz
  have cpA' := cpA.out W1 rfl
  try simp only [Nat.mul_one] at cpA'
  have hrest : Hid (W1.os = w.os ∧ W1.tape = w.tape ∧ W1.output = w.output) := by rw [← hW1]; exact ⟨rfl, rfl, rfl⟩
  clear fin hone hone2 hnews hlen hr hr' hv h4 hol hold hG hbn k1 k2 k3 hcl ho1 ho2 hl1 hl2 e1 e2 h1o hkk hik g0 l0 hW1 hWh hcN hcB hcV hr2 g2 l2 hr3 g3 l3 hgd hti hz0 hzs hzb hzc hty hbig hbw hvw hG2
  go_enter Tryz.func160, Tryz.ntmps160
  go_wp2_with (at_builtin; refine wpList_builtin_run rfl (exec_append rfl rfl rfl (hrz.out _)) ?_)
  go_region_law_o (refine step_builtin_run rfl (exec_copy (v := .slice (some ⟨w.heap.size, (i + m) * 6, none⟩) (n + m - (i + m)) (G - (i + m))) (u := .slice (some ⟨b, off + i * 6, none⟩) (n - i) (cap - i)) rfl (by simp [Act.eval, Act.put]) (by simp [Act.eval, Act.put]) (cpB.out (W1.setRow w.heap.size r2).drew rfl _ _ _)) ?_)
  go_wp2
  all_goals (go_ret; exact ⟨rfl, ⟨hrest.out.1, hrest.out.2.1, hrest.out.2.2⟩, rfl⟩)
theorem nat160 : NatSnd Tryz.prog FT 160 .ins := by
  have e : tySize Tryz.prog (tyOf Tryz.prog 53) = 6 := by kernel_rfl
  refine ⟨53, rfl, rfl, rfl, ?_⟩
  rw [e]
  refine ⟨fun b off n cap i vb voff m vc c te cv tv w a1 a2 a3 a4 a5 a6 a7 a8 a9 a10 a11 a12 a13 => ?_, fun base n cap i vb voff m vc olds cv tv w a1 a2 a3 a4 a5 a6 a7 a8 a9 a10 a11 a12 a13 a14 => ?_⟩
  · by_cases h : i = n
    · exact ins_end160 b off n cap i vb voff m vc c te cv tv w a1 a2 a3 a4 a5 a6 a7 a8 a9 a10 h a12 a13
    · exact ins_shift160 b off n cap i vb voff m vc c te cv tv w a1 a2 a3 a4 a5 a6 a7 a8 a9 a10 (by omega) a12 a13
  · by_cases h : i = n
    · exact ins_end_grow160 base n cap i vb voff m vc olds cv tv w a1 a2 a3 a4 a5 a6 a7 a8 a9 h a11 a12 a13 a14
    · exact ins_grow160 base n cap i vb voff m vc olds cv tv w a1 a2 a3 a4 a5 a6 a7 a8 a9 (by omega) a11 a12 a13 a14
/- slices_Delete_api_Job_api_Job -/
set_option maxHeartbeats 4000000 in
set_option maxRecDepth 1000000 in
theorem del_nil67 (w : World) : Calls Tryz.prog 67 #[.slice none 0 0, .int .i64 0, .int .i64 0] w fun e w' => e = .returned (.slice none 0 0) ∧ w' = w := by
  go_enter Tryz.func67, Tryz.ntmps67
  go_wp2
  all_goals (go_ret; exact ⟨rfl, rfl⟩)
set_option maxHeartbeats 4000000 in
set_option maxRecDepth 1000000 in
theorem del_same67 (ad : Addr) (n cap i : Nat) (w : World) (h1 : n ≤ cap) (h2 : cap ≤ 9223372036854775807) (h3 : i ≤ n) : Calls Tryz.prog 67 #[.slice (some ad) n cap, .int .i64 i, .int .i64 i] w fun e w' => e = .returned (.slice (some ad) n cap) ∧ w' = w := by
  have h3' : (i : Int) ≤ (n : Int) := by omega
  have h4 : i ≤ cap := by omega
  obtain ⟨ab, ao, asp⟩ := ad
  go_enter Tryz.func67, Tryz.ntmps67
  go_wp2
  all_goals (go_ret; exact ⟨rfl, rfl⟩)
set_option maxHeartbeats 4000000 in
set_option maxRecDepth 1000000 in
theorem del_cut67 (b off n cap i j : Nat) (c : Array Value) (te : TypeId) (w : World) (hc : w.heap[b]? = some (.cells c te (0, 0))) (h1 : n ≤ cap) (h2 : cap ≤ 9223372036854775807) (h3 : off + cap * 28 ≤ c.size) (hij : i < j) (hj : j ≤ n) (hone : ∀ x ∈ seg c.toList off (n * 28), x.oneCell' = true) :
    Calls Tryz.prog 67 #[.slice (some ⟨b, off, none⟩) n cap, .int .i64 i, .int .i64 j] w fun e w' => e = .returned (.slice (some ⟨b, off, none⟩) (i + (n - j)) cap) ∧ ∃ r : Array Value, Same w w' ∧ w'.heap = (w.setRow b r).heap ∧ r.size = c.size ∧
      seg r.toList off (i * 28) = seg c.toList off (i * 28) ∧ seg r.toList (off + i * 28) ((n - j) * 28) = seg c.toList (off + j * 28) ((n - j) * 28) := by
  have hu : Tryz.prog.underlying 26 = some (.slice 67) := Tryz.underlying26
  have hsz : ∀ w, (sizeOf 67).run Tryz.prog w = .ok 28 w := Tryz.sizeOf67
  obtain ⟨news, hnews⟩ : ∃ news, seg c.toList (off + j * 28) ((n - j) * 28) = news := ⟨_, rfl⟩
  have hlen : news.length = (n - j) * 28 := by rw [← hnews]; exact seg_length (by simp only [Array.length_toList]; omega)
  have h1n : ∀ x ∈ news, x.oneCell' = true := by
    intro x hx
    rw [← hnews, ← show seg (seg c.toList off (n * 28)) (j * 28) ((n - j) * 28) = _ from seg_seg (by omega)] at hx
    exact hone x (List.mem_of_mem_drop (List.mem_of_mem_take hx))
  obtain ⟨A, hA, hsrc⟩ : ∃ A : Addr, (if cap = j then some (⟨b, off, none⟩ : Addr) else some ⟨b, off + j * 28, none⟩) = some A ∧ Hid (∀ t u, news[t]? = some u → w.cell? (A.add t) = some u) := by
    by_cases h : cap = j
    · refine ⟨⟨b, off, none⟩, by simp [h], fun t u hu => ?_⟩
      have h0 : news.length = 0 := by rw [hlen]; omega
      rw [List.length_eq_zero_iff.1 h0] at hu
      simp at hu
    · exact ⟨⟨b, off + j * 28, none⟩, by simp [h], fun t u hu => cells_of_row hc hnews t u hu⟩
  obtain ⟨r1, hr1⟩ : ∃ r1 : Array Value, (splice c.toList (off + i * 28) news).toArray = r1 := ⟨_, rfl⟩
  have ap : Hid (∀ ty, (Builtin.append_ #[26, 26] ty #[.slice (some ⟨b, off, none⟩) i cap, .slice (some A) (n - j) (cap - j)]).run Tryz.prog w.drew = .ok (.slice (some ⟨b, off, none⟩) (i + (n - j)) cap) (w.drew.setRow b r1)) := fun ty => by
    rw [← hr1]
    exact run_append_seg w.drew 26 ty 67 b off i cap A (n - j) (cap - j) c te news 28 hu hsz hc hlen hsrc.out (by omega) (by rw [hlen]; omega) h1n
  clear hsrc
  have mixed : Tryz.prog.follows .mixedOrders = true := by kernel_rfl
  have hz : ∀ w, (zeroValue 67).run Tryz.prog w = .ok (.agg #[.int .i64 0, .int .i64 0, .int .i64 0, .int .i64 0, .int .i64 0, .int .i64 0, .int .i64 0, .int .i64 0, .int .i64 0, .int .i64 0, .int .i64 0, .int .i64 0, .int .i64 0, .slice none 0 0, .bool false, .int .i64 0, .int .i64 0, .int .i64 0, .int .i64 0, .int .i64 0, .int .i64 0, .int .i64 0, .int .i64 0, .int .i64 0, .slice none 0 0, .bool false, .slice none 0 0, .bool false]) w := Tryz.zeroValue67
  have hzs : (.agg #[.int .i64 0, .int .i64 0, .int .i64 0, .int .i64 0, .int .i64 0, .int .i64 0, .int .i64 0, .int .i64 0, .int .i64 0, .int .i64 0, .int .i64 0, .int .i64 0, .int .i64 0, .slice none 0 0, .bool false, .int .i64 0, .int .i64 0, .int .i64 0, .int .i64 0, .int .i64 0, .int .i64 0, .int .i64 0, .int .i64 0, .int .i64 0, .slice none 0 0, .bool false, .slice none 0 0, .bool false] : Value).cells.size = 28 := by first | rfl | kernel_rfl
  have hz1 : ∀ x ∈ (.agg #[.int .i64 0, .int .i64 0, .int .i64 0, .int .i64 0, .int .i64 0, .int .i64 0, .int .i64 0, .int .i64 0, .int .i64 0, .int .i64 0, .int .i64 0, .int .i64 0, .int .i64 0, .slice none 0 0, .bool false, .int .i64 0, .int .i64 0, .int .i64 0, .int .i64 0, .int .i64 0, .int .i64 0, .int .i64 0, .int .i64 0, .int .i64 0, .slice none 0 0, .bool false, .slice none 0 0, .bool false] : Value).cells.toList, x.oneCell' = true := List.all_eq_true.1 (by first | rfl | kernel_rfl)
  have hr1s : r1.size = c.size := by rw [← hr1]; simp only [List.size_toArray]; rw [splice_length (by simp only [Array.length_toList]; omega)]; simp
  obtain ⟨zs, hzs'⟩ : ∃ zs : List Value, (Builtin.zeroCells (.agg #[.int .i64 0, .int .i64 0, .int .i64 0, .int .i64 0, .int .i64 0, .int .i64 0, .int .i64 0, .int .i64 0, .int .i64 0, .int .i64 0, .int .i64 0, .int .i64 0, .int .i64 0, .slice none 0 0, .bool false, .int .i64 0, .int .i64 0, .int .i64 0, .int .i64 0, .int .i64 0, .int .i64 0, .int .i64 0, .int .i64 0, .int .i64 0, .slice none 0 0, .bool false, .slice none 0 0, .bool false] : Value).cells (n - (i + (n - j)))).toList = zs := ⟨_, rfl⟩
  have zl : zs.length = (n - (i + (n - j))) * 28 := by rw [← hzs']; simp only [Array.length_toList, size_zeroCells, hzs]
  obtain ⟨r2, hr2⟩ : ∃ r2 : Array Value, (splice r1.toList (off + (i + (n - j)) * 28) zs).toArray = r2 := ⟨_, rfl⟩
  obtain ⟨W1, hW1⟩ : ∃ W1, w.drew.setRow b r1 = W1 := ⟨_, rfl⟩
  have hc1 : W1.heap[b]? = some (.cells r1 te (0, 0)) := by rw [← hW1]; exact setRow_heap w.drew b c r1 te (0, 0) hc
  have cl : ∀ (ty : TypeId) (x : Nat), (Builtin.clear_ #[26] ty #[.slice (some ⟨b, off + (i + (n - j)) * 28, none⟩) (n - (i + (n - j))) x]).run Tryz.prog W1 = .ok (.tuple #[]) (W1.setRow b r2) := fun ty x => by
    rw [← hr2, ← hzs']
    exact run_clear_seg W1 26 ty 67 b (off + (i + (n - j)) * 28) (n - (i + (n - j))) x r1 te _ hu hz hc1 (by rw [hr1s, hzs]; omega) hz1
  have fin : Hid (Same w (W1.setRow b r2) ∧ (W1.setRow b r2).heap = (w.setRow b r2).heap ∧ r2.size = c.size ∧ seg r2.toList off (i * 28) = seg c.toList off (i * 28) ∧ seg r2.toList (off + i * 28) ((n - j) * 28) = seg c.toList (off + j * 28) ((n - j) * 28)) := by
    have e1 : W1.setRow b r2 = w.drew.setRow b r2 := by rw [← hW1, setRow_setRow]
    rw [e1]
    have l1 : (splice c.toList (off + i * 28) news).length = c.toList.length := splice_length (by simp only [Array.length_toList]; omega)
    have l2 : r1.toList.length = c.size := by simpa using hr1s
    have g1 : r1.toList = splice c.toList (off + i * 28) news := by rw [← hr1]
    have g2 : r2.toList = splice r1.toList (off + (i + (n - j)) * 28) zs := by rw [← hr2]
    have hcl : c.toList.length = c.size := Array.length_toList
    refine ⟨⟨rfl, rfl, rfl⟩, rfl, ?_, ?_, ?_⟩
    · rw [← Array.length_toList, g2, splice_length (by rw [l2, zl]; omega), l2]
    · rw [g2, seg_splice_apart (by rw [l2, zl]; omega) (by omega), g1, seg_splice_apart (by omega) (by omega)]
    · rw [g2, seg_splice_apart (by rw [l2, zl]; omega) (by omega), g1, hnews]
      have := seg_splice_same (c := c.toList) (x := news) (o := off + i * 28) (by omega)
      rwa [hlen] at this
  refine Calls.mono (R := fun e w' => e = .returned (.slice (some ⟨b, off, none⟩) (i + (n - j)) cap) ∧ w' = W1.setRow b r2) ?_ (by rintro e w' ⟨rfl, rfl⟩; exact ⟨rfl, r2, fin.out⟩)
  rw [hW1] at ap
  have hic : i ≤ cap := by omega
  have hjc : j ≤ cap := by omega
  have hkc : ¬ (cap = i + (n - j)) := by omega
  try simp only [Nat.mul_one] at cl
  clear hone hnews hlen h1n hr1 hr2 hc1 hW1 hc h3 hr1s fin hzs hz1 hzs' zl hz
  go_enter Tryz.func67, Tryz.ntmps67
  go_wp2_with fail
  go_region_law_o (refine step_builtin_run rfl (exec_append (v := .slice (some ⟨b, off, none⟩) i cap) (u := .slice (some A) (n - j) (cap - j)) rfl (by simp [Act.eval, Act.put]) (by first | (simp [Act.eval, Act.put]; done) | simpa [Act.eval, Act.put] using hA) (ap.out _)) ?_)
  go_wp2
  all_goals (go_ret; exact ⟨rfl, rfl⟩)
theorem nat67 : NatSnd Tryz.prog FT 67 .del := by
  have e : tySize Tryz.prog (tyOf Tryz.prog 67) = 28 := by kernel_rfl
  refine ⟨67, rfl, rfl, rfl, ?_⟩
  rw [e]
  exact ⟨del_nil67, del_same67, del_cut67⟩
/- slices_Insert_api_Job_api_Job -/
set_option maxHeartbeats 4000000 in
set_option maxRecDepth 1000000 in
theorem ins_end68 (b off n cap i vb voff m vc : Nat) (c : Array Value) (te : TypeId) (cv : Array Value) (tv : TypeId) (w : World) (hc : w.heap[b]? = some (.cells c te (0, 0))) (hv : w.heap[vb]? = some (.cells cv tv (0, 0))) (hvb : vb ≠ b) (hroom : n + m ≤ cap) (h2 : cap ≤ 9223372036854775807) (h3 : off + cap * 28 ≤ c.size) (h4 : voff + m * 28 ≤ cv.size)
    (hm : 0 < m) (hmv : m ≤ vc) (hvc : vc ≤ 9223372036854775807) (hi : i = n) (hone : ∀ x ∈ seg c.toList off (n * 28), x.oneCell' = true) (hone2 : ∀ x ∈ seg cv.toList voff (m * 28), x.oneCell' = true) :
    Calls Tryz.prog 68 #[.slice (some ⟨b, off, none⟩) n cap, .int .i64 i, .slice (some ⟨vb, voff, none⟩) m vc] w fun e w' => e = .returned (.slice (some ⟨b, off, none⟩) (n + m) cap) ∧ ∃ r : Array Value, Same w w' ∧ w'.heap = (w.setRow b r).heap ∧ r.size = c.size ∧
      seg r.toList off (i * 28) = seg c.toList off (i * 28) ∧ seg r.toList (off + i * 28) (m * 28) = seg cv.toList voff (m * 28) ∧ seg r.toList (off + (i + m) * 28) ((n - i) * 28) = seg c.toList (off + i * 28) ((n - i) * 28) := by
  subst hi
  have hu : Tryz.prog.underlying 26 = some (.slice 67) := Tryz.underlying26
  have hsz : ∀ w, (sizeOf 67).run Tryz.prog w = .ok 28 w := Tryz.sizeOf67
  have mixed : Tryz.prog.follows .mixedOrders = true := by kernel_rfl
  obtain ⟨news, hnews⟩ : ∃ news, seg cv.toList voff (m * 28) = news := ⟨_, rfl⟩
  have hlen : news.length = m * 28 := by rw [← hnews]; exact seg_length (by simpa using h4)
  have hz1 : ¬ ((m : Int) = 0) := by omega
  obtain ⟨r1, hr1⟩ : ∃ r1 : Array Value, (splice c.toList (off + i * 28) news).toArray = r1 := ⟨_, rfl⟩
  have ap : Hid (∀ ty, (Builtin.append_ #[26, 26] ty #[.slice (some ⟨b, off, none⟩) i cap, .slice (some ⟨vb, voff, none⟩) m vc]).run Tryz.prog w = .ok (.slice (some ⟨b, off, none⟩) (i + m) cap) (w.setRow b r1)) := fun ty => by
    rw [← hr1]
    exact run_append_seg w 26 ty 67 b off i cap ⟨vb, voff, none⟩ m vc c te news 28 hu hsz hc hlen (cells_of_row hv hnews) hroom (by rw [hlen]; omega) (by rw [← hnews]; exact hone2)
  refine Calls.mono (R := fun e w' => e = .returned (.slice (some ⟨b, off, none⟩) (i + m) cap) ∧ w' = w.setRow b r1) ?_ (by
    rintro e w' ⟨rfl, rfl⟩
    have l1 : (splice c.toList (off + i * 28) news).length = c.toList.length := splice_length (by simp only [Array.length_toList]; omega)
    refine ⟨rfl, r1, ⟨rfl, rfl, rfl⟩, rfl, by rw [← hr1]; simpa using l1, ?_, ?_, by simp [seg]⟩
    · rw [← hr1]
      exact seg_splice_apart (by simp only [Array.length_toList]; omega) (by omega)
    · rw [← hr1, hnews]
      have := seg_splice_same (c := c.toList) (x := news) (o := off + i * 28) (by simp only [Array.length_toList]; omega)
      rwa [hlen] at this)
  clear hone hone2 hnews hlen hr1 hc hv h3 h4
  go_enter Tryz.func68, Tryz.ntmps68
  go_wp2_with (at_builtin; refine wpList_builtin_run rfl (exec_append rfl rfl rfl (ap.out _)) ?_)
  all_goals (go_ret; exact ⟨rfl, rfl⟩)
set_option maxHeartbeats 4000000 in
set_option maxRecDepth 1000000 in
theorem ins_shift68 (b off n cap i vb voff m vc : Nat) (c : Array Value) (te : TypeId) (cv : Array Value) (tv : TypeId) (w : World) (hc : w.heap[b]? = some (.cells c te (0, 0))) (hv : w.heap[vb]? = some (.cells cv tv (0, 0))) (hvb : vb ≠ b) (hroom : n + m ≤ cap) (h2 : cap ≤ 9223372036854775807) (h3 : off + cap * 28 ≤ c.size) (h4 : voff + m * 28 ≤ cv.size)
    (hm : 0 < m) (hmv : m ≤ vc) (hvc : vc ≤ 9223372036854775807) (hi : i < n) (hone : ∀ x ∈ seg c.toList off (n * 28), x.oneCell' = true) (hone2 : ∀ x ∈ seg cv.toList voff (m * 28), x.oneCell' = true) :
    Calls Tryz.prog 68 #[.slice (some ⟨b, off, none⟩) n cap, .int .i64 i, .slice (some ⟨vb, voff, none⟩) m vc] w fun e w' => e = .returned (.slice (some ⟨b, off, none⟩) (n + m) cap) ∧ ∃ r : Array Value, Same w w' ∧ w'.heap = (w.setRow b r).heap ∧ r.size = c.size ∧
      seg r.toList off (i * 28) = seg c.toList off (i * 28) ∧ seg r.toList (off + i * 28) (m * 28) = seg cv.toList voff (m * 28) ∧ seg r.toList (off + (i + m) * 28) ((n - i) * 28) = seg c.toList (off + i * 28) ((n - i) * 28) := by
  have hu : Tryz.prog.underlying 26 = some (.slice 67) := Tryz.underlying26
  have hsz : ∀ w, (sizeOf 67).run Tryz.prog w = .ok 28 w := Tryz.sizeOf67
  have mixed : Tryz.prog.follows .mixedOrders = true := by kernel_rfl
  obtain ⟨news, hnews⟩ : ∃ news, seg cv.toList voff (m * 28) = news := ⟨_, rfl⟩
  have hlen : news.length = m * 28 := by rw [← hnews]; exact seg_length (by simpa using h4)
  have hz1 : ¬ ((m : Int) = 0) := by omega
  have hz2 : ¬ ((i : Int) = (n : Int)) := by omega
  have hcl : c.toList.length = c.size := Array.length_toList
  obtain ⟨olds, holds⟩ : ∃ olds, seg c.toList (off + i * 28) ((n - i) * 28) = olds := ⟨_, rfl⟩
  have hol : olds.length = (n - i) * 28 := by rw [← holds]; exact seg_length (by omega)
  have h1o : ∀ x ∈ olds, x.oneCell' = true := by
    intro x hx
    rw [← holds, ← show seg (seg c.toList off (n * 28)) (i * 28) ((n - i) * 28) = _ from seg_seg (by omega)] at hx
    exact hone x (List.mem_of_mem_drop (List.mem_of_mem_take hx))
  obtain ⟨r1, hr1⟩ : ∃ r1 : Array Value, (splice c.toList (off + (i + m) * 28) olds).toArray = r1 := ⟨_, rfl⟩
  have g1 : r1.toList = splice c.toList (off + (i + m) * 28) olds := by rw [← hr1]
  have l1 : r1.toList.length = c.size := by rw [g1, splice_length (by omega), hcl]
  obtain ⟨r2, hr2⟩ : ∃ r2 : Array Value, (splice r1.toList (off + i * 28) news).toArray = r2 := ⟨_, rfl⟩
  have g2 : r2.toList = splice r1.toList (off + i * 28) news := by rw [← hr2]
  obtain ⟨W1, hW1⟩ : ∃ W1, w.drew.setRow b r1 = W1 := ⟨_, rfl⟩
  have hc1 : W1.heap[b]? = some (.cells r1 te (0, 0)) := by rw [← hW1]; exact setRow_heap w.drew b c r1 te (0, 0) hc
  have hv1 : W1.heap[vb]? = some (.cells cv tv (0, 0)) := by
    rw [← hW1]
    show (w.heap.modify b _)[vb]? = _
    rw [Array.getElem?_modify, if_neg (Ne.symm hvb)]
    exact hv
  have hov : ∀ lb cb, (callFunc 118 #[.slice (some ⟨vb, voff, none⟩) m vc, .slice (some ⟨b, off + (i + m) * 28, none⟩) lb cb]).run Tryz.prog w = .ok (.value (.bool false)) w := fun lb cb => by
    rw [run_callFunc_extern Tryz.func118 (by kernel_rfl) (by kernel_rfl) (by kernel_rfl) (e := Extern.SlicesOverlaps.overlaps #[26, 26] #[4]) (by kernel_rfl),
      Lib.run_overlaps_apart w 26 4 67 hu 28 hsz ⟨vb, voff, none⟩ ⟨b, off + (i + m) * 28, none⟩ m vc lb cb hvb tv te cv.size c.size (by simp [World.shape?, hv]) (by simp [World.shape?, hc]) (by omega) (by simp [World.frozen?, hv]) (by simp [World.frozen?, hv])]
    rfl
  have cpA : Hid (∀ ty dc sc, (Builtin.copy_ #[26, 26] ty #[.slice (some ⟨b, off + (i + m) * 28, none⟩) (n + m - (i + m)) dc, .slice (some ⟨b, off + i * 28, none⟩) (n + m - i) sc]).run Tryz.prog w.drew = .ok (goInt ((n - i : Nat) : Int)) W1) := fun ty dc sc => by
    rw [← hW1, ← hr1]
    exact run_copy_seg w.drew 26 26 ty 67 b (off + (i + m) * 28) (n + m - (i + m)) dc ⟨b, off + i * 28, none⟩ (n + m - i) sc c te olds (n - i) 28 hu hsz hc (by simp only [Nat.min_def]; split <;> omega) hol (cells_of_row hc holds) (by omega) h1o
  have cpB : Hid (∀ (W : World), W.heap = W1.heap → ∀ ty dc, (Builtin.copy_ #[26, 26] ty #[.slice (some ⟨b, off + i * 28, none⟩) (n + m - i) dc, .slice (some ⟨vb, voff, none⟩) m vc]).run Tryz.prog W = .ok (goInt m) (W.setRow b r2)) := fun W hW ty dc => by
    rw [← hr2]
    exact run_copy_seg W 26 26 ty 67 b (off + i * 28) (n + m - i) dc ⟨vb, voff, none⟩ m vc r1 te news m 28 hu hsz (by rw [hW]; exact hc1) (by simp only [Nat.min_def]; split <;> omega) hlen (cells_of_row (by rw [hW]; exact hv1) hnews) (by rw [← Array.length_toList, l1, hlen]; omega) (by rw [← hnews]; exact hone2)
  have fin : Hid (Same w (W1.setRow b r2) ∧ (W1.setRow b r2).heap = (w.setRow b r2).heap ∧ r2.size = c.size ∧ seg r2.toList off (i * 28) = seg c.toList off (i * 28) ∧ seg r2.toList (off + i * 28) (m * 28) = seg cv.toList voff (m * 28) ∧
      seg r2.toList (off + (i + m) * 28) ((n - i) * 28) = seg c.toList (off + i * 28) ((n - i) * 28)) := by
    have e1 : W1.setRow b r2 = w.drew.setRow b r2 := by rw [← hW1, setRow_setRow]
    rw [e1]
    refine ⟨⟨rfl, rfl, rfl⟩, rfl, ?_, ?_, ?_, ?_⟩
    · rw [← Array.length_toList, g2, splice_length (by rw [l1, hlen]; omega), l1]
    · rw [g2, seg_splice_apart (by rw [l1, hlen]; omega) (by omega), g1, seg_splice_apart (by omega) (by omega)]
    · rw [g2, hnews]
      have := seg_splice_same (c := r1.toList) (x := news) (o := off + i * 28) (by rw [l1, hlen]; omega)
      rwa [hlen] at this
    · rw [g2, seg_splice_apart (by rw [l1, hlen]; omega) (by omega), g1, holds]
      have := seg_splice_same (c := c.toList) (x := olds) (o := off + (i + m) * 28) (by omega)
      rwa [hol] at this
  refine Calls.mono (R := fun e w' => e = .returned (.slice (some ⟨b, off, none⟩) (n + m) cap) ∧ w' = W1.setRow b r2) ?_ (by rintro e w' ⟨rfl, rfl⟩; exact ⟨rfl, r2, fin.out⟩)
  have hw1 : IntKind.i64.wrap ((i : Int) + (m : Int)) = (i : Int) + (m : Int) := by rw [IntKind.wrap_i64]; omega
  have hb1 : (0 : Int) ≤ (i : Int) + (m : Int) := by omega
  have hin : i ≤ n := by omega
  have htn : ((i : Int) + (m : Int)).toNat = i + m := by omega
  have hb2 : ¬ (cap = i + m) := by omega
  have hb3 : (i : Int) ≤ (n : Int) + (m : Int) := by omega
  have hb4 : ¬ (cap = i) := by omega
  have cpB' := cpB.out W1 rfl
  try simp only [Nat.mul_one] at hov
  try simp only [Nat.mul_one] at cpB'
  clear hone hone2 hnews hlen holds hol h1o hr1 g1 l1 hr2 g2 hc1 hv1 hcl fin hc hv h3 h4
  go_enter Tryz.func68, Tryz.ntmps68
  go_wp2_with (simp only [hov])
  go_region_law_o (refine step_builtin_run rfl (exec_copy (v := .slice (some ⟨b, off + (i + m) * 28, none⟩) (n + m - (i + m)) (cap - (i + m))) (u := .slice (some ⟨b, off + i * 28, none⟩) (n + m - i) (cap - i)) rfl (by simp [Act.eval, Act.put]) (by simp [Act.eval, Act.put]) (cpA.out _ _ _)) ?_)
  go_wp2
  all_goals (go_ret; exact ⟨rfl, rfl⟩)
set_option maxHeartbeats 4000000 in
set_option maxRecDepth 1000000 in
theorem ins_end_grow68 (base : Option Addr) (n cap i vb voff m vc : Nat) (olds : List Value) (cv : Array Value) (tv : TypeId) (w : World) (hv : w.heap[vb]? = some (.cells cv tv (0, 0))) (hnc : n ≤ cap) (hg : cap < n + m) (hnm : n + m ≤ 1073741824) (hol : olds.length = n * 28) (h4 : voff + m * 28 ≤ cv.size)
    (hm : 0 < m) (hmv : m ≤ vc) (hvc : vc ≤ 9223372036854775807) (hi : i = n) (hb : n = 0 ∨ ∃ b off c te, base = some ⟨b, off, none⟩ ∧ w.heap[b]? = some (.cells c te (0, 0)) ∧ off + n * 28 ≤ c.size ∧ olds = seg c.toList off (n * 28)) (hbn : base = none → n = 0 ∧ cap = 0)
    (hone : ∀ x ∈ olds, x.oneCell' = true) (hone2 : ∀ x ∈ seg cv.toList voff (m * 28), x.oneCell' = true) :
    Calls Tryz.prog 68 #[.slice base n cap, .int .i64 i, .slice (some ⟨vb, voff, none⟩) m vc] w fun e w' => ∃ (cap' : Nat) (r : Array Value), e = .returned (.slice (some ⟨w.heap.size, 0, none⟩) (n + m) cap') ∧ n + m ≤ cap' ∧ cap' ≤ maxLen ∧ Same w w' ∧
      w'.heap = w.heap.push (.cells r 67) ∧ cap' * 28 ≤ r.size ∧ seg r.toList 0 (i * 28) = seg olds 0 (i * 28) ∧ seg r.toList (i * 28) (m * 28) = seg cv.toList voff (m * 28) ∧ seg r.toList ((i + m) * 28) ((n - i) * 28) = seg olds (i * 28) ((n - i) * 28) := by
  subst hi
  have hu : Tryz.prog.underlying 26 = some (.slice 67) := Tryz.underlying26
  have hsz : ∀ w, (sizeOf 67).run Tryz.prog w = .ok 28 w := Tryz.sizeOf67
  have mixed : Tryz.prog.follows .mixedOrders = true := by kernel_rfl
  obtain ⟨news, hnews⟩ : ∃ news, seg cv.toList voff (m * 28) = news := ⟨_, rfl⟩
  have hlen : news.length = m * 28 := by rw [← hnews]; exact seg_length (by simpa using h4)
  have hz1 : ¬ ((m : Int) = 0) := by omega
  have hgd : tyGood Tryz.prog 67 = true := by kernel_rfl
  obtain ⟨ti, hti, hz0, hzs, hzb⟩ : ∃ ti, Tryz.prog.info? 67 = some ti ∧ ti.zero = some (.agg #[.int .i64 0, .int .i64 0, .int .i64 0, .int .i64 0, .int .i64 0, .int .i64 0, .int .i64 0, .int .i64 0, .int .i64 0, .int .i64 0, .int .i64 0, .int .i64 0, .int .i64 0, .slice none 0 0, .bool false, .int .i64 0, .int .i64 0, .int .i64 0, .int .i64 0, .int .i64 0, .int .i64 0, .int .i64 0, .int .i64 0, .int .i64 0, .slice none 0 0, .bool false, .slice none 0 0, .bool false]) ∧ ti.size = 28 ∧ ti.bytes ≤ 131072 := ⟨Tryz.t67, by kernel_rfl, by kernel_rfl, by kernel_rfl, by decide +kernel⟩
  have hzc : (.agg #[.int .i64 0, .int .i64 0, .int .i64 0, .int .i64 0, .int .i64 0, .int .i64 0, .int .i64 0, .int .i64 0, .int .i64 0, .int .i64 0, .int .i64 0, .int .i64 0, .int .i64 0, .slice none 0 0, .bool false, .int .i64 0, .int .i64 0, .int .i64 0, .int .i64 0, .int .i64 0, .int .i64 0, .int .i64 0, .int .i64 0, .int .i64 0, .slice none 0 0, .bool false, .slice none 0 0, .bool false] : Value).cells.size = 28 := by first | rfl | kernel_rfl
  have hty : tySize Tryz.prog (tyOf Tryz.prog 67) = 28 := by kernel_rfl
  have hbig : (i + m) * ti.bytes ≤ 140737488355328 := Nat.le_trans (Nat.mul_le_mul hnm hzb) (by decide)
  have hold : (Builtin.firstCells 28 i (.slice base i cap)).run Tryz.prog w.drew = .ok olds.toArray w.drew := by
    rcases hb with h0 | ⟨b, off, c, te, rfl, k1, k2, k3⟩
    · subst h0
      obtain rfl : olds = [] := List.eq_nil_of_length_eq_zero (by simpa using hol)
      cases base with
      | none => exact run_firstCells_none w.drew 28 0 0 cap
      | some a => exact run_firstCells_some w.drew 28 0 a 0 cap [] (by simp) (fun j v hj => by simp at hj)
    · exact run_firstCells_some w.drew 28 i ⟨b, off, none⟩ i cap olds hol (cells_of_row (w := w.drew) k1 k3.symm)
  have hf : (Builtin.firstCells 28 m (.slice (some ⟨vb, voff, none⟩) m vc)).run Tryz.prog w.drew = .ok news.toArray w.drew := run_firstCells_some w.drew 28 m ⟨vb, voff, none⟩ m vc news hlen (cells_of_row (w := w.drew) hv hnews)
  obtain ⟨G, hG⟩ : ∃ G, grownCap w (i + m) cap 67 = G := ⟨_, rfl⟩
  have hG1 : i + m ≤ G := by rw [← hG]; exact grownCap_ge w _ _ _
  have hG2 : G ≤ maxLen := by rw [← hG]; exact grownCap_le_maxLen w _ _ _ (by simp only [maxLen]; omega)
  obtain ⟨r, hr⟩ : ∃ r : Array Value, olds.toArray ++ news.toArray ++ Builtin.zeroCells (.agg #[.int .i64 0, .int .i64 0, .int .i64 0, .int .i64 0, .int .i64 0, .int .i64 0, .int .i64 0, .int .i64 0, .int .i64 0, .int .i64 0, .int .i64 0, .int .i64 0, .int .i64 0, .slice none 0 0, .bool false, .int .i64 0, .int .i64 0, .int .i64 0, .int .i64 0, .int .i64 0, .int .i64 0, .int .i64 0, .int .i64 0, .int .i64 0, .slice none 0 0, .bool false, .slice none 0 0, .bool false] : Value).cells (G - (i + m)) = r := ⟨_, rfl⟩
  have ap : Hid (∀ ty, (Builtin.append_ #[26, 26] ty #[.slice base i cap, .slice (some ⟨vb, voff, none⟩) m vc]).run Tryz.prog w = .ok (.slice (some ⟨w.heap.size, 0, none⟩) (i + m) G) (w.drew.alloc (.cells r 67))) := fun ty => by
    rw [← hr, ← hG]
    exact append_grow hu hu hgd hti hz0 hzb (by rw [hty]; exact hold) (by rw [hty]; exact hf) hg hnm
  refine Calls.mono (R := fun e w' => e = .returned (.slice (some ⟨w.heap.size, 0, none⟩) (i + m) G) ∧ w' = w.drew.alloc (.cells r 67)) ?_ (by
    rintro e w' ⟨rfl, rfl⟩
    have g : r.toList = olds ++ news ++ (Builtin.zeroCells (.agg #[.int .i64 0, .int .i64 0, .int .i64 0, .int .i64 0, .int .i64 0, .int .i64 0, .int .i64 0, .int .i64 0, .int .i64 0, .int .i64 0, .int .i64 0, .int .i64 0, .int .i64 0, .slice none 0 0, .bool false, .int .i64 0, .int .i64 0, .int .i64 0, .int .i64 0, .int .i64 0, .int .i64 0, .int .i64 0, .int .i64 0, .int .i64 0, .slice none 0 0, .bool false, .slice none 0 0, .bool false] : Value).cells (G - (i + m))).toList := by rw [← hr]; simp
    refine ⟨G, r, rfl, hG1, hG2, ⟨rfl, rfl, rfl⟩, rfl, ?_, ?_, ?_, by simp [seg]⟩
    · rw [← Array.length_toList, g]
      simp only [List.length_append, hol, hlen, Array.length_toList, size_zeroCells, hzc]
      omega
    · rw [g, List.append_assoc, seg_append_left (by omega)]
    · rw [g, List.append_assoc, show i * 28 = olds.length + 0 by omega, seg_append_right, seg_append_left (by omega), hnews, ← hlen, seg_all])
  clear hone hone2 hnews hlen hr hv h4 hol hold hf hb hG
  go_enter Tryz.func68, Tryz.ntmps68
  cases base with
  | none =>
    obtain ⟨rfl, rfl⟩ := hbn rfl
    clear hbn
    go_wp2_with (at_builtin; refine wpList_builtin_run rfl (exec_append rfl rfl rfl (ap.out _)) ?_)
    all_goals (go_ret; exact ⟨by simp, rfl⟩)
  | some ad =>
    obtain ⟨ab, ao, asp⟩ := ad
    clear hbn
    go_wp2_with (at_builtin; refine wpList_builtin_run rfl (exec_append rfl rfl rfl (ap.out _)) ?_)
    all_goals (go_ret; exact ⟨rfl, rfl⟩)
set_option maxHeartbeats 4000000 in
set_option maxRecDepth 1000000 in
theorem ins_grow68 (base : Option Addr) (n cap i vb voff m vc : Nat) (olds : List Value) (cv : Array Value) (tv : TypeId) (w : World) (hv : w.heap[vb]? = some (.cells cv tv (0, 0))) (hnc : n ≤ cap) (hg : cap < n + m) (hnm : n + m ≤ 1073741824) (hol : olds.length = n * 28) (h4 : voff + m * 28 ≤ cv.size)
    (hm : 0 < m) (hmv : m ≤ vc) (hvc : vc ≤ 9223372036854775807) (hi : i < n) (hb : n = 0 ∨ ∃ b off c te, base = some ⟨b, off, none⟩ ∧ w.heap[b]? = some (.cells c te (0, 0)) ∧ off + n * 28 ≤ c.size ∧ olds = seg c.toList off (n * 28)) (hbn : base = none → n = 0 ∧ cap = 0)
    (hone : ∀ x ∈ olds, x.oneCell' = true) (hone2 : ∀ x ∈ seg cv.toList voff (m * 28), x.oneCell' = true) :
    Calls Tryz.prog 68 #[.slice base n cap, .int .i64 i, .slice (some ⟨vb, voff, none⟩) m vc] w fun e w' => ∃ (cap' : Nat) (r : Array Value), e = .returned (.slice (some ⟨w.heap.size, 0, none⟩) (n + m) cap') ∧ n + m ≤ cap' ∧ cap' ≤ maxLen ∧ Same w w' ∧
      w'.heap = w.heap.push (.cells r 67) ∧ cap' * 28 ≤ r.size ∧ seg r.toList 0 (i * 28) = seg olds 0 (i * 28) ∧ seg r.toList (i * 28) (m * 28) = seg cv.toList voff (m * 28) ∧ seg r.toList ((i + m) * 28) ((n - i) * 28) = seg olds (i * 28) ((n - i) * 28) := by
  rcases hb with h0 | ⟨b, off, c, te, rfl, k1, k2, k3⟩
  · omega
  have hu : Tryz.prog.underlying 26 = some (.slice 67) := Tryz.underlying26
  have hsz : ∀ w, (sizeOf 67).run Tryz.prog w = .ok 28 w := Tryz.sizeOf67
  have mixed : Tryz.prog.follows .mixedOrders = true := by kernel_rfl
  obtain ⟨news, hnews⟩ : ∃ news, seg cv.toList voff (m * 28) = news := ⟨_, rfl⟩
  have hlen : news.length = m * 28 := by rw [← hnews]; exact seg_length (by simpa using h4)
  have hz1 : ¬ ((m : Int) = 0) := by omega
  have hgd : tyGood Tryz.prog 67 = true := by kernel_rfl
  obtain ⟨ti, hti, hz0, hzs, hzb⟩ : ∃ ti, Tryz.prog.info? 67 = some ti ∧ ti.zero = some (.agg #[.int .i64 0, .int .i64 0, .int .i64 0, .int .i64 0, .int .i64 0, .int .i64 0, .int .i64 0, .int .i64 0, .int .i64 0, .int .i64 0, .int .i64 0, .int .i64 0, .int .i64 0, .slice none 0 0, .bool false, .int .i64 0, .int .i64 0, .int .i64 0, .int .i64 0, .int .i64 0, .int .i64 0, .int .i64 0, .int .i64 0, .int .i64 0, .slice none 0 0, .bool false, .slice none 0 0, .bool false]) ∧ ti.size = 28 ∧ ti.bytes ≤ 131072 := ⟨Tryz.t67, by kernel_rfl, by kernel_rfl, by kernel_rfl, by decide +kernel⟩
  have hzc : (.agg #[.int .i64 0, .int .i64 0, .int .i64 0, .int .i64 0, .int .i64 0, .int .i64 0, .int .i64 0, .int .i64 0, .int .i64 0, .int .i64 0, .int .i64 0, .int .i64 0, .int .i64 0, .slice none 0 0, .bool false, .int .i64 0, .int .i64 0, .int .i64 0, .int .i64 0, .int .i64 0, .int .i64 0, .int .i64 0, .int .i64 0, .int .i64 0, .slice none 0 0, .bool false, .slice none 0 0, .bool false] : Value).cells.size = 28 := by first | rfl | kernel_rfl
  have hty : tySize Tryz.prog (tyOf Tryz.prog 67) = 28 := by kernel_rfl
  have hbig : (n + m) * ti.bytes ≤ 140737488355328 := Nat.le_trans (Nat.mul_le_mul hnm hzb) (by decide)
  have hz2 : ¬ ((i : Int) = (n : Int)) := by omega
  have hz3 : (cap : Int) < (n : Int) + (m : Int) := by omega
  have hcl : c.toList.length = c.size := Array.length_toList
  have hbw : b < w.heap.size := (Array.getElem?_eq_some_iff.1 k1).1
  have hvw : vb < w.heap.size := (Array.getElem?_eq_some_iff.1 hv).1
  obtain ⟨o1, ho1⟩ : ∃ o1, seg c.toList off (i * 28) = o1 := ⟨_, rfl⟩
  obtain ⟨o2, ho2⟩ : ∃ o2, seg c.toList (off + i * 28) ((n - i) * 28) = o2 := ⟨_, rfl⟩
  have hl1 : o1.length = i * 28 := by rw [← ho1]; exact seg_length (by omega)
  have hl2 : o2.length = (n - i) * 28 := by rw [← ho2]; exact seg_length (by omega)
  have e1 : seg olds 0 (i * 28) = o1 := by rw [k3, seg_seg (by omega), Nat.add_zero, ho1]
  have e2 : seg olds (i * 28) ((n - i) * 28) = o2 := by rw [k3, seg_seg (by omega), ho2]
  have h1o : ∀ x ∈ o2, x.oneCell' = true := fun x hx => hone x (by rw [← e2] at hx; exact List.mem_of_mem_drop (List.mem_of_mem_take hx))
  have hkk : (n : Int) + (m : Int) - (i : Int) = ((n + m - i : Nat) : Int) := by omega
  have hik : i + (n + m - i) = n + m := by omega
  have hold : (Builtin.firstCells ti.size i (.slice (some ⟨b, off, none⟩) i cap)).run Tryz.prog w.drew = .ok o1.toArray w.drew := by
    rw [hzs]
    exact run_firstCells_some w.drew 28 i ⟨b, off, none⟩ i cap o1 hl1 (cells_of_row (w := w.drew) k1 ho1)
  obtain ⟨G, hG⟩ : ∃ G, grownCap w (n + m) cap 67 = G := ⟨_, rfl⟩
  have hG1 : n + m ≤ G := by rw [← hG]; exact grownCap_ge w _ _ _
  have hG2 : G ≤ maxLen := by rw [← hG]; exact grownCap_le_maxLen w _ _ _ (by simp only [maxLen]; omega)
  obtain ⟨r, hr⟩ : ∃ r : Array Value, o1.toArray ++ Builtin.zeroCells (.agg #[.int .i64 0, .int .i64 0, .int .i64 0, .int .i64 0, .int .i64 0, .int .i64 0, .int .i64 0, .int .i64 0, .int .i64 0, .int .i64 0, .int .i64 0, .int .i64 0, .int .i64 0, .slice none 0 0, .bool false, .int .i64 0, .int .i64 0, .int .i64 0, .int .i64 0, .int .i64 0, .int .i64 0, .int .i64 0, .int .i64 0, .int .i64 0, .slice none 0 0, .bool false, .slice none 0 0, .bool false] : Value).cells (n + m - i) ++ Builtin.zeroCells (.agg #[.int .i64 0, .int .i64 0, .int .i64 0, .int .i64 0, .int .i64 0, .int .i64 0, .int .i64 0, .int .i64 0, .int .i64 0, .int .i64 0, .int .i64 0, .int .i64 0, .int .i64 0, .slice none 0 0, .bool false, .int .i64 0, .int .i64 0, .int .i64 0, .int .i64 0, .int .i64 0, .int .i64 0, .int .i64 0, .int .i64 0, .int .i64 0, .slice none 0 0, .bool false, .slice none 0 0, .bool false] : Value).cells (G - (n + m)) = r := ⟨_, rfl⟩
  have g0 : r.toList = o1 ++ ((Builtin.zeroCells (.agg #[.int .i64 0, .int .i64 0, .int .i64 0, .int .i64 0, .int .i64 0, .int .i64 0, .int .i64 0, .int .i64 0, .int .i64 0, .int .i64 0, .int .i64 0, .int .i64 0, .int .i64 0, .slice none 0 0, .bool false, .int .i64 0, .int .i64 0, .int .i64 0, .int .i64 0, .int .i64 0, .int .i64 0, .int .i64 0, .int .i64 0, .int .i64 0, .slice none 0 0, .bool false, .slice none 0 0, .bool false] : Value).cells (n + m - i)).toList ++ (Builtin.zeroCells (.agg #[.int .i64 0, .int .i64 0, .int .i64 0, .int .i64 0, .int .i64 0, .int .i64 0, .int .i64 0, .int .i64 0, .int .i64 0, .int .i64 0, .int .i64 0, .int .i64 0, .int .i64 0, .slice none 0 0, .bool false, .int .i64 0, .int .i64 0, .int .i64 0, .int .i64 0, .int .i64 0, .int .i64 0, .int .i64 0, .int .i64 0, .int .i64 0, .slice none 0 0, .bool false, .slice none 0 0, .bool false] : Value).cells (G - (n + m))).toList) := by rw [← hr]; simp
  have l0 : r.toList.length = G * 28 := by
    rw [g0]
    simp only [List.length_append, hl1, Array.length_toList, size_zeroCells, hzc]
    omega
  have hr' : o1.toArray ++ Builtin.zeroCells (.agg #[.int .i64 0, .int .i64 0, .int .i64 0, .int .i64 0, .int .i64 0, .int .i64 0, .int .i64 0, .int .i64 0, .int .i64 0, .int .i64 0, .int .i64 0, .int .i64 0, .int .i64 0, .slice none 0 0, .bool false, .int .i64 0, .int .i64 0, .int .i64 0, .int .i64 0, .int .i64 0, .int .i64 0, .int .i64 0, .int .i64 0, .int .i64 0, .slice none 0 0, .bool false, .slice none 0 0, .bool false] : Value).cells (n + m - i) ++ Builtin.zeroCells (.agg #[.int .i64 0, .int .i64 0, .int .i64 0, .int .i64 0, .int .i64 0, .int .i64 0, .int .i64 0, .int .i64 0, .int .i64 0, .int .i64 0, .int .i64 0, .int .i64 0, .int .i64 0, .slice none 0 0, .bool false, .int .i64 0, .int .i64 0, .int .i64 0, .int .i64 0, .int .i64 0, .int .i64 0, .int .i64 0, .int .i64 0, .int .i64 0, .slice none 0 0, .bool false, .slice none 0 0, .bool false] : Value).cells (grownCap w (n + m) cap 67 - (n + m)) = r := by rw [hG]; exact hr
  have hrz : Hid (∀ ty, (Builtin.append_ #[26, 3] ty #[.slice (some ⟨b, off, none⟩) i cap, .int .i64 ((n : Int) + (m : Int) - (i : Int))]).run Tryz.prog w = .ok (.slice (some ⟨w.heap.size, 0, none⟩) (n + m) G) (w.drew.alloc (.cells r 67))) := fun ty => by
    have h := Lib.run_append_grow_zeros (P := Tryz.prog) w 26 3 ty 67 ti _ .i64 .i64 hu Tryz.underlying3 hti hz0 (some ⟨b, off, none⟩) i cap o1 hold (n + m - i) (by omega) (by rw [hzs]; omega) (by omega) (by omega) (by
      have : (n + m - i) * ti.bytes ≤ (n + m) * ti.bytes := Nat.mul_le_mul_right _ (by omega)
      omega) (by rw [hik]; exact growslice_fits hg hbig)
    rw [hik, hr', hG] at h
    rw [hkk]
    exact h
  obtain ⟨W1, hW1⟩ : ∃ W1, w.drew.alloc (.cells r 67) = W1 := ⟨_, rfl⟩
  have hWh : W1.heap = w.heap.push (.cells r 67) := by rw [← hW1]; rfl
  have hcN : W1.heap[w.heap.size]? = some (.cells r 67 (0, 0)) := by rw [hWh]; simp
  have hcB : W1.heap[b]? = some (.cells c te (0, 0)) := by rw [hWh, Array.getElem?_push_lt hbw, ← Array.getElem?_eq_getElem hbw]; exact k1
  have hcV : W1.heap[vb]? = some (.cells cv tv (0, 0)) := by rw [hWh, Array.getElem?_push_lt hvw, ← Array.getElem?_eq_getElem hvw]; exact hv
  obtain ⟨r2, hr2⟩ : ∃ r2 : Array Value, (splice r.toList (i * 28) news).toArray = r2 := ⟨_, rfl⟩
  have g2 : r2.toList = splice r.toList (i * 28) news := by rw [← hr2]
  have l2 : r2.toList.length = G * 28 := by rw [g2, splice_length (by rw [l0, hlen]; omega), l0]
  obtain ⟨r3, hr3⟩ : ∃ r3 : Array Value, (splice r2.toList ((i + m) * 28) o2).toArray = r3 := ⟨_, rfl⟩
  have g3 : r3.toList = splice r2.toList ((i + m) * 28) o2 := by rw [← hr3]
  have l3 : r3.toList.length = G * 28 := by rw [g3, splice_length (by rw [l2, hl2]; omega), l2]
  have cpA : Hid (∀ (W : World), W.heap = W1.heap → ∀ ty dc, (Builtin.copy_ #[26, 26] ty #[.slice (some ⟨w.heap.size, i * 28, none⟩) (n + m - i) dc, .slice (some ⟨vb, voff, none⟩) m vc]).run Tryz.prog W = .ok (goInt m) (W.setRow w.heap.size r2)) := fun W hW ty dc => by
    rw [← hr2]
    exact run_copy_seg W 26 26 ty 67 w.heap.size (i * 28) (n + m - i) dc ⟨vb, voff, none⟩ m vc r 67 news m 28 hu hsz (by rw [hW]; exact hcN) (by simp only [Nat.min_def]; split <;> omega) hlen (cells_of_row (by rw [hW]; exact hcV) hnews) (by rw [← Array.length_toList, l0, hlen]; omega) (by rw [← hnews]; exact hone2)
  have cpB : Hid (∀ (W : World), W.heap = (W1.setRow w.heap.size r2).heap → ∀ ty dc sc, (Builtin.copy_ #[26, 26] ty #[.slice (some ⟨w.heap.size, (i + m) * 28, none⟩) (n + m - (i + m)) dc, .slice (some ⟨b, off + i * 28, none⟩) (n - i) sc]).run Tryz.prog W = .ok (goInt ((n - i : Nat) : Int)) (W.setRow w.heap.size r3)) := fun W hW ty dc sc => by
    rw [← hr3]
    refine run_copy_seg W 26 26 ty 67 w.heap.size ((i + m) * 28) (n + m - (i + m)) dc ⟨b, off + i * 28, none⟩ (n - i) sc r2 67 o2 (n - i) 28 hu hsz (by rw [hW]; exact setRow_heap W1 w.heap.size r r2 67 (0, 0) hcN) (by simp only [Nat.min_def]; split <;> omega) hl2 (cells_of_row (te := te) ?_ ho2) (by rw [← Array.length_toList, l2, hl2]; omega) h1o
    rw [hW]
    show (W1.heap.modify w.heap.size _)[b]? = _
    rw [Array.getElem?_modify, if_neg (by omega)]
    exact hcB
  have fin : Hid (∀ w', Ends w w' ((W1.setRow w.heap.size r2).setRow w.heap.size r3).heap → ∃ (cap' : Nat) (r : Array Value), Ending.returned (.slice (some ⟨w.heap.size, 0, none⟩) (n + m) G) = .returned (.slice (some ⟨w.heap.size, 0, none⟩) (n + m) cap') ∧ n + m ≤ cap' ∧ cap' ≤ maxLen ∧ Same w w' ∧
      w'.heap = w.heap.push (.cells r 67) ∧ cap' * 28 ≤ r.size ∧ seg r.toList 0 (i * 28) = seg olds 0 (i * 28) ∧ seg r.toList (i * 28) (m * 28) = seg cv.toList voff (m * 28) ∧ seg r.toList ((i + m) * 28) ((n - i) * 28) = seg olds (i * 28) ((n - i) * 28)) := by
    rintro w' ⟨hs, hh⟩
    refine ⟨G, r3, rfl, hG1, hG2, hs, ?_, by rw [← Array.length_toList, l3]; exact Nat.le_refl _, ?_, ?_, ?_⟩
    · rw [hh, setRow_setRow]
      exact row_last hWh
    · rw [e1, g3, seg_splice_apart (by rw [l2, hl2]; omega) (by omega), g2, seg_splice_apart (by rw [l0, hlen]; omega) (by omega), g0, seg_append_left (by omega), ← hl1, seg_all]
    · rw [g3, seg_splice_apart (by rw [l2, hl2]; omega) (by omega), g2, hnews]
      have := seg_splice_same (c := r.toList) (x := news) (o := i * 28) (by rw [l0, hlen]; omega)
      rwa [hlen] at this
    · rw [g3, e2]
      have := seg_splice_same (c := r2.toList) (x := o2) (o := (i + m) * 28) (by rw [l2, hl2]; omega)
      rwa [hl2] at this
  refine Calls.mono (R := fun e w' => e = .returned (.slice (some ⟨w.heap.size, 0, none⟩) (n + m) G) ∧ Ends w w' ((W1.setRow w.heap.size r2).setRow w.heap.size r3).heap) ?_ (by rintro e w' ⟨rfl, h⟩; exact fin.out w' h)
  have hGi : ¬ (G = i) := by omega
  have hGim : ¬ (G = i + m) := by omega
  have hci : ¬ (cap = i) := by omega
  have hw1 : IntKind.i64.wrap ((i : Int) + (m : Int)) = (i : Int) + (m : Int) := by rw [IntKind.wrap_i64]; omega
  have hb1 : (0 : Int) ≤ (i : Int) + (m : Int) := by omega
  have hin : i ≤ n := by omega
  have htn : ((i : Int) + (m : Int)).toNat = i + m := by omega
  have hb3 : (i : Int) ≤ (n : Int) := by omega
  have hG63 : G ≤ 9223372036854775807 := hG2
  rw [hW1] at hrz
  have cpA' := cpA.out W1 rfl
  try simp only [Nat.mul_one] at cpA'
  have hrest : Hid (W1.os = w.os ∧ W1.tape = w.tape ∧ W1.output = w.output) := by rw [← hW1]; exact ⟨rfl, rfl, rfl⟩
  clear fin hone hone2 hnews hlen hr hr' hv h4 hol hold hG hbn k1 k2 k3 hcl ho1 ho2 hl1 hl2 e1 e2 h1o hkk hik g0 l0 hW1 hWh hcN hcB hcV hr2 g2 l2 hr3 g3 l3 hgd hti hz0 hzs hzb hzc hty hbig hbw hvw hG2
  go_enter Tryz.func68, Tryz.ntmps68
  go_wp2_with (at_builtin; refine wpList_builtin_run rfl (exec_append rfl rfl rfl (hrz.out _)) ?_)
  go_region_law_o (refine step_builtin_run rfl (exec_copy (v := .slice (some ⟨w.heap.size, (i + m) * 28, none⟩) (n + m - (i + m)) (G - (i + m))) (u := .slice (some ⟨b, off + i * 28, none⟩) (n - i) (cap - i)) rfl (by simp [Act.eval, Act.put]) (by simp [Act.eval, Act.put]) (cpB.out (W1.setRow w.heap.size r2).drew rfl _ _ _)) ?_)
  go_wp2
  all_goals (go_ret; exact ⟨rfl, ⟨hrest.out.1, hrest.out.2.1, hrest.out.2.2⟩, rfl⟩)
theorem nat68 : NatSnd Tryz.prog FT 68 .ins := by
  have e : tySize Tryz.prog (tyOf Tryz.prog 67) = 28 := by kernel_rfl
  refine ⟨67, rfl, rfl, rfl, ?_⟩
  rw [e]
  refine ⟨fun b off n cap i vb voff m vc c te cv tv w a1 a2 a3 a4 a5 a6 a7 a8 a9 a10 a11 a12 a13 => ?_, fun base n cap i vb voff m vc olds cv tv w a1 a2 a3 a4 a5 a6 a7 a8 a9 a10 a11 a12 a13 a14 => ?_⟩
  · by_cases h : i = n
    · exact ins_end68 b off n cap i vb voff m vc c te cv tv w a1 a2 a3 a4 a5 a6 a7 a8 a9 a10 h a12 a13
    · exact ins_shift68 b off n cap i vb voff m vc c te cv tv w a1 a2 a3 a4 a5 a6 a7 a8 a9 a10 (by omega) a12 a13
  · by_cases h : i = n
    · exact ins_end_grow68 base n cap i vb voff m vc olds cv tv w a1 a2 a3 a4 a5 a6 a7 a8 a9 h a11 a12 a13 a14
    · exact ins_grow68 base n cap i vb voff m vc olds cv tv w a1 a2 a3 a4 a5 a6 a7 a8 a9 (by omega) a11 a12 a13 a14
/- slices_Delete_int_int -/
set_option maxHeartbeats 4000000 in
set_option maxRecDepth 1000000 in
theorem del_nil246 (w : World) : Calls Tryz.prog 246 #[.slice none 0 0, .int .i64 0, .int .i64 0] w fun e w' => e = .returned (.slice none 0 0) ∧ w' = w := by
  go_enter Tryz.func246, Tryz.ntmps246
  go_wp2
  all_goals (go_ret; exact ⟨rfl, rfl⟩)
set_option maxHeartbeats 4000000 in
set_option maxRecDepth 1000000 in
theorem del_same246 (ad : Addr) (n cap i : Nat) (w : World) (h1 : n ≤ cap) (h2 : cap ≤ 9223372036854775807) (h3 : i ≤ n) : Calls Tryz.prog 246 #[.slice (some ad) n cap, .int .i64 i, .int .i64 i] w fun e w' => e = .returned (.slice (some ad) n cap) ∧ w' = w := by
  have h3' : (i : Int) ≤ (n : Int) := by omega
  have h4 : i ≤ cap := by omega
  obtain ⟨ab, ao, asp⟩ := ad
  go_enter Tryz.func246, Tryz.ntmps246
  go_wp2
  all_goals (go_ret; exact ⟨rfl, rfl⟩)
set_option maxHeartbeats 4000000 in
set_option maxRecDepth 1000000 in
theorem del_cut246 (b off n cap i j : Nat) (c : Array Value) (te : TypeId) (w : World) (hc : w.heap[b]? = some (.cells c te (0, 0))) (h1 : n ≤ cap) (h2 : cap ≤ 9223372036854775807) (h3 : off + cap * 1 ≤ c.size) (hij : i < j) (hj : j ≤ n) (hone : ∀ x ∈ seg c.toList off (n * 1), x.oneCell' = true) :
    Calls Tryz.prog 246 #[.slice (some ⟨b, off, none⟩) n cap, .int .i64 i, .int .i64 j] w fun e w' => e = .returned (.slice (some ⟨b, off, none⟩) (i + (n - j)) cap) ∧ ∃ r : Array Value, Same w w' ∧ w'.heap = (w.setRow b r).heap ∧ r.size = c.size ∧
      seg r.toList off (i * 1) = seg c.toList off (i * 1) ∧ seg r.toList (off + i * 1) ((n - j) * 1) = seg c.toList (off + j * 1) ((n - j) * 1) := by
  have hu : Tryz.prog.underlying 27 = some (.slice 3) := Tryz.underlying27
  have hsz : ∀ w, (sizeOf 3).run Tryz.prog w = .ok 1 w := Tryz.sizeOf3
  obtain ⟨news, hnews⟩ : ∃ news, seg c.toList (off + j * 1) ((n - j) * 1) = news := ⟨_, rfl⟩
  have hlen : news.length = (n - j) * 1 := by rw [← hnews]; exact seg_length (by simp only [Array.length_toList]; omega)
  have h1n : ∀ x ∈ news, x.oneCell' = true := by
    intro x hx
    rw [← hnews, ← show seg (seg c.toList off (n * 1)) (j * 1) ((n - j) * 1) = _ from seg_seg (by omega)] at hx
    exact hone x (List.mem_of_mem_drop (List.mem_of_mem_take hx))
  obtain ⟨A, hA, hsrc⟩ : ∃ A : Addr, (if cap = j then some (⟨b, off, none⟩ : Addr) else some ⟨b, off + j * 1, none⟩) = some A ∧ Hid (∀ t u, news[t]? = some u → w.cell? (A.add t) = some u) := by
    by_cases h : cap = j
    · refine ⟨⟨b, off, none⟩, by simp [h], fun t u hu => ?_⟩
      have h0 : news.length = 0 := by rw [hlen]; omega
      rw [List.length_eq_zero_iff.1 h0] at hu
      simp at hu
    · exact ⟨⟨b, off + j * 1, none⟩, by simp [h], fun t u hu => cells_of_row hc hnews t u hu⟩
  obtain ⟨r1, hr1⟩ : ∃ r1 : Array Value, (splice c.toList (off + i * 1) news).toArray = r1 := ⟨_, rfl⟩
  have ap : Hid (∀ ty, (Builtin.append_ #[27, 27] ty #[.slice (some ⟨b, off, none⟩) i cap, .slice (some A) (n - j) (cap - j)]).run Tryz.prog w.drew = .ok (.slice (some ⟨b, off, none⟩) (i + (n - j)) cap) (w.drew.setRow b r1)) := fun ty => by
    rw [← hr1]
    exact run_append_seg w.drew 27 ty 3 b off i cap A (n - j) (cap - j) c te news 1 hu hsz hc hlen hsrc.out (by omega) (by rw [hlen]; omega) h1n
  clear hsrc
  have mixed : Tryz.prog.follows .mixedOrders = true := by kernel_rfl
  have hz : ∀ w, (zeroValue 3).run Tryz.prog w = .ok (.int .i64 0) w := Tryz.zeroValue3
  have hzs : (.int .i64 0 : Value).cells.size = 1 := by first | rfl | kernel_rfl
  have hz1 : ∀ x ∈ (.int .i64 0 : Value).cells.toList, x.oneCell' = true := List.all_eq_true.1 (by first | rfl | kernel_rfl)
  have hr1s : r1.size = c.size := by rw [← hr1]; simp only [List.size_toArray]; rw [splice_length (by simp only [Array.length_toList]; omega)]; simp
  obtain ⟨zs, hzs'⟩ : ∃ zs : List Value, (Builtin.zeroCells (.int .i64 0 : Value).cells (n - (i + (n - j)))).toList = zs := ⟨_, rfl⟩
  have zl : zs.length = (n - (i + (n - j))) * 1 := by rw [← hzs']; simp only [Array.length_toList, size_zeroCells, hzs]
  obtain ⟨r2, hr2⟩ : ∃ r2 : Array Value, (splice r1.toList (off + (i + (n - j)) * 1) zs).toArray = r2 := ⟨_, rfl⟩
  obtain ⟨W1, hW1⟩ : ∃ W1, w.drew.setRow b r1 = W1 := ⟨_, rfl⟩
  have hc1 : W1.heap[b]? = some (.cells r1 te (0, 0)) := by rw [← hW1]; exact setRow_heap w.drew b c r1 te (0, 0) hc
  have cl : ∀ (ty : TypeId) (x : Nat), (Builtin.clear_ #[27] ty #[.slice (some ⟨b, off + (i + (n - j)) * 1, none⟩) (n - (i + (n - j))) x]).run Tryz.prog W1 = .ok (.tuple #[]) (W1.setRow b r2) := fun ty x => by
    rw [← hr2, ← hzs']
    exact run_clear_seg W1 27 ty 3 b (off + (i + (n - j)) * 1) (n - (i + (n - j))) x r1 te _ hu hz hc1 (by rw [hr1s, hzs]; omega) hz1
  have fin : Hid (Same w (W1.setRow b r2) ∧ (W1.setRow b r2).heap = (w.setRow b r2).heap ∧ r2.size = c.size ∧ seg r2.toList off (i * 1) = seg c.toList off (i * 1) ∧ seg r2.toList (off + i * 1) ((n - j) * 1) = seg c.toList (off + j * 1) ((n - j) * 1)) := by
    have e1 : W1.setRow b r2 = w.drew.setRow b r2 := by rw [← hW1, setRow_setRow]
    rw [e1]
    have l1 : (splice c.toList (off + i * 1) news).length = c.toList.length := splice_length (by simp only [Array.length_toList]; omega)
    have l2 : r1.toList.length = c.size := by simpa using hr1s
    have g1 : r1.toList = splice c.toList (off + i * 1) news := by rw [← hr1]
    have g2 : r2.toList = splice r1.toList (off + (i + (n - j)) * 1) zs := by rw [← hr2]
    have hcl : c.toList.length = c.size := Array.length_toList
    refine ⟨⟨rfl, rfl, rfl⟩, rfl, ?_, ?_, ?_⟩
    · rw [← Array.length_toList, g2, splice_length (by rw [l2, zl]; omega), l2]
    · rw [g2, seg_splice_apart (by rw [l2, zl]; omega) (by omega), g1, seg_splice_apart (by omega) (by omega)]
    · rw [g2, seg_splice_apart (by rw [l2, zl]; omega) (by omega), g1, hnews]
      have := seg_splice_same (c := c.toList) (x := news) (o := off + i * 1) (by omega)
      rwa [hlen] at this
  refine Calls.mono (R := fun e w' => e = .returned (.slice (some ⟨b, off, none⟩) (i + (n - j)) cap) ∧ w' = W1.setRow b r2) ?_ (by rintro e w' ⟨rfl, rfl⟩; exact ⟨rfl, r2, fin.out⟩)
  rw [hW1] at ap
  have hic : i ≤ cap := by omega
  have hjc : j ≤ cap := by omega
  have hkc : ¬ (cap = i + (n - j)) := by omega
  try simp only [Nat.mul_one] at cl
  clear hone hnews hlen h1n hr1 hr2 hc1 hW1 hc h3 hr1s fin hzs hz1 hzs' zl hz
  go_enter Tryz.func246, Tryz.ntmps246
  go_wp2_with fail
  go_region_law_o (refine step_builtin_run rfl (exec_append (v := .slice (some ⟨b, off, none⟩) i cap) (u := .slice (some A) (n - j) (cap - j)) rfl (by simp [Act.eval, Act.put]) (by first | (simp [Act.eval, Act.put]; done) | simpa [Act.eval, Act.put] using hA) (ap.out _)) ?_)
  go_wp2
  all_goals (go_ret; exact ⟨rfl, rfl⟩)
theorem nat246 : NatSnd Tryz.prog FT 246 .del := by
  have e : tySize Tryz.prog (tyOf Tryz.prog 3) = 1 := by kernel_rfl
  refine ⟨3, rfl, rfl, rfl, ?_⟩
  rw [e]
  exact ⟨del_nil246, del_same246, del_cut246⟩
theorem nats : ∀ p ∈ natl, NatSnd Tryz.prog FT p.1 p.2 := by
  intro p hp
  simp only [natl, List.mem_cons, List.not_mem_nil, or_false] at hp
  rcases hp with rfl | rfl | rfl | rfl
  · exact nat160
  · exact nat67
  · exact nat68
  · exact nat246
end Go.Cd
