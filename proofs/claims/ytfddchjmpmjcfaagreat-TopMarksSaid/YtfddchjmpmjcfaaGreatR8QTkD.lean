/- A kernel without things: a kernel of its own. No conditions. -/
import Derived.Test.YtfddchjmpmjcfaaGreatR8QTkC
set_option linter.unusedVariables false
set_option linter.unusedSimpArgs false
namespace Go.Cd
open Go Go.Fw
theorem clone_Task (l : List Ts) (hl : l.length ≤ 1000) : run kp (.data f_slices_Clone_api_Task_api_Task [.sl false (l.map Ts.d)]) = some (.ds [.sl false (l.map Ts.d)]) := by
  rw [run_data, run_call, kp_slices_Clone_api_Task_api_Task]
  simp [k_slices_Clone_api_Task_api_Task]
  omega
theorem clone_Job (nl : Bool) (l : List Sj) (hn : nl = true → l = []) (hl : l.length ≤ 1000) : run kp (.data f_slices_Clone_api_Job_api_Job [.sl nl (l.map Sj.d)]) = some (.ds [.sl nl (l.map Sj.d)]) := by
  rw [run_data, run_call, kp_slices_Clone_api_Job_api_Job]
  cases nl with
  | true => simp [hn rfl, k_slices_Clone_api_Job_api_Job]
  | false =>
    simp [k_slices_Clone_api_Job_api_Job]
    omega
theorem clone_Bounds (l : List D) (hl : l.length ≤ 1000) : run kp (.datk f_slices_Clone_api_Bounds_api_Bounds [.sl false l]) = some (.ds [.sl false l]) := by
  rw [run_datk, run_call, kp_slices_Clone_api_Bounds_api_Bounds]
  simp [k_slices_Clone_api_Bounds_api_Bounds]
  omega
/-- A kernel without things. -/
structure Kn where
  now : Int
  apart : Int
  tasks : List Ts
  bounds : List D
  runs : Bool
  halt : Bool
  hit : Bool
  jn : Bool
  jobs : List Sj
  rows : List D
  off : List D
def Kn.w (k : Kn) : D := .agg [.sl false k.rows, .sl false k.off]
def Kn.d (k : Kn) : D := .agg [.int .i64 k.now, .int .i64 k.apart, .sl false (k.tasks.map Ts.d), .sl false k.bounds, .bool k.runs, .bool k.halt, .bool k.hit, .sl k.jn (k.jobs.map Sj.d), .agg [gS, gL], .agg [.sl false k.rows, .sl false k.off]]
structure Kn.Ok (k : Kn) : Prop where
  tasks : k.tasks.length ≤ 100 ∧ ∀ t ∈ k.tasks, t.Ok
  bounds : k.bounds.length ≤ 100
  jobs : k.jobs.length ≤ 100
  jn : k.jn = true → k.jobs = []
  good : run kp (.datk f_watch_Good [k.w, .int .i64 (-1)]) = some (.ds [k.w])
def jV (h : Nat) : Bool → List Sj → V
  | true, _ => .d (.sl true [])
  | false, l => .sl false h 0 l.length
def jH (h : Nat) : Bool → List Sj → Hp
  | true, _ => []
  | false, l => [(h, .row true (l.map Sj.d))]
def jN : Bool → Nat
  | true => 0
  | false => 1
def zKn : D := .agg [.int .i64 0, .int .i64 0, .sl true [], .sl true [], .bool false, .bool false, .bool false, .sl true [], .agg [.agg [.sl true [], .sl true []], .sl true []], .agg [.sl true [], .sl true []]]
/-- The kernel in a box, its rows from here on. -/
def knV (h : Nat) (k : Kn) : V := .agg [.int .i64 k.now, .int .i64 k.apart, .sl false h 0 k.tasks.length, .d (.sl false k.bounds), .bool k.runs, .bool k.halt, .bool k.hit, jV (h + 1) k.jn k.jobs, .d (.agg [gS, gL]), .d (.agg [.sl false k.rows, .sl false k.off])]
def knH (h : Nat) (k : Kn) : Hp := (h, .row true (k.tasks.map Ts.d)) :: jH (h + 1) k.jn k.jobs
/-- In a call from a frame with two blocks. -/
def twE (k : Kn) (ex : List (Nat × V)) (tl : Nat → Option Blk) : St :=
  { env := [(1, .ptr 2 []), (2, .ptr (4 + jN k.jn) [])] ++ ex, hp := [(2, .box (knV 3 k))] ++ knH 3 k ++ [(4 + jN k.jn, .box (.d zKn))], tl := tl, base := 2, next := 5 + jN k.jn }
theorem set_same {α : Type} {f : α → D} {L : List α} {i : Nat} {x : α} (hx : L[i]? = some x) : (L.map f).set i (f x) = L.map f := by
  apply List.ext_getElem?
  intro k
  rw [List.getElem?_set]
  split
  · rename_i h; subst h
    rw [List.getElem?_map, hx]
    have := (List.getElem?_eq_some_iff.1 hx).1
    simp [this]
  · rfl
theorem get_mapT {α : Type} {f : α → D} {L : List α} {i : Nat} {x : α} (hx : L[i]? = some x) : (L.map f)[i]? = some (f x) := by
  rw [List.getElem?_map, hx]; rfl
theorem get_ofT {α : Type} {L : List α} {i : Nat} {x : α} (hx : L[i]? = some x) : ∀ hh : i < L.length, L[i]'hh = x := fun hh => by
  rw [List.getElem?_eq_getElem hh] at hx; injection hx
theorem getXT {α : Type} {L : List α} {i : Nat} {x : α} (hx : L[i]? = some x) : i < L.length := (List.getElem?_eq_some_iff.1 hx).1
def E0 (k : Kn) (i : Nat) : List (Nat × V) := [(20, .sl false 3 0 k.tasks.length), (21, .int .i64 (k.tasks.length : Int)), (22, .int .i64 (i : Int))]
def E1 (k : Kn) (i : Nat) : List (Nat × V) := [(53, jV 4 k.jn k.jobs), (54, .int .i64 (k.jobs.length : Int)), (55, .int .i64 (i : Int))]
set_option maxRecDepth 10000 in
set_option maxHeartbeats 32000000 in
theorem tw0_round (tl : Nat → Option Blk) (k : Kn) (hk : k.Ok) (i : Nat) (t : Ts) (ht : k.tasks[i]? = some t) :
    run kp (.loop [1, 2, 20, 21, 22] k_kern_twin_L0 (twE k (E0 k i) tl)) = run kp (.loop [1, 2, 20, 21, 22] k_kern_twin_L0 (twE k (E0 k (i + 1)) tl)) := by
  have hi := getXT ht
  have hi2 : (i : Int) < (k.tasks.length : Int) := by omega
  have l1 := hk.tasks.1
  have w : IntKind.i64.wrap ((i : Int) + 1) = ((i + 1 : Nat) : Int) := by rw [wrap_i64 (by omega) (by omega)]; omega
  have tok := hk.tasks.2 t (List.mem_of_getElem? ht)
  have c1 := clone_InsK t.main tok.main
  have c2 := clone_InsK t.way tok.way
  have c3 := clone_InsK t.opt tok.opt
  have g1 := get_mapT (f := Ts.d) ht
  have g2 := get_ofT g1
  have s := set_same (f := Ts.d) ht
  have g3 := get_ofT ht
  generalize i + 1 = i' at *
  obtain ⟨now, apart, tasks, bounds, runs, halt, hit, jn, jobs, rows, off⟩ := k
  obtain ⟨rank, per, stop, main, way, opt⟩ := t
  simp only [Ts.d, Rw.d] at c1 c2 c3 g1 g2 s
  simp only at hi hi2 ht g3
  rw [run_round]
  cases jn <;> simp [c_kern_twin_L0, k_kern_twin_L0b, twE, E0, knV, knH, jV, jH, jN, gOf, hlook, hi, hi2, w, ht, g3, g1, g2, c1, c2, c3, s, Ts.d, Rw.d]
set_option maxRecDepth 10000 in
theorem tw0_stop (tl : Nat → Option Blk) (k : Kn) : run kp (.loop [1, 2, 20, 21, 22] k_kern_twin_L0 (twE k (E0 k k.tasks.length) tl)) = some (.out (.ext 0) (twE k (E0 k k.tasks.length ++ [(23, .bool false)]) tl)) := by
  obtain ⟨now, apart, tasks, bounds, runs, halt, hit, jn, jobs, rows, off⟩ := k
  rw [run_round]
  cases jn <;> simp [c_kern_twin_L0, k_kern_twin_L0b, twE, E0, knV, knH, jV, jH, jN]
theorem tw0_loop (tl : Nat → Option Blk) (k : Kn) (hk : k.Ok) : ∀ (r i : Nat), i + r = k.tasks.length →
    run kp (.loop [1, 2, 20, 21, 22] k_kern_twin_L0 (twE k (E0 k i) tl)) = some (.out (.ext 0) (twE k (E0 k k.tasks.length ++ [(23, .bool false)]) tl))
  | 0, i, h => by
    obtain rfl : i = k.tasks.length := by omega
    exact tw0_stop tl k
  | r + 1, i, h => by
    obtain ⟨t, ht⟩ : ∃ t, k.tasks[i]? = some t := ⟨_, List.getElem?_eq_getElem (by omega)⟩
    rw [tw0_round tl k hk i t ht]
    exact tw0_loop tl k hk r (i + 1) (by omega)
set_option maxRecDepth 10000 in
set_option maxHeartbeats 32000000 in
theorem tw1_round (tl : Nat → Option Blk) (k : Kn) (hk : k.Ok) (i : Nat) (j : Sj) (ht : k.jobs[i]? = some j) :
    run kp (.loop [1, 2, 53, 54, 55] k_kern_twin_L1 (twE k (E1 k i) tl)) = run kp (.loop [1, 2, 53, 54, 55] k_kern_twin_L1 (twE k (E1 k (i + 1)) tl)) := by
  have hi := getXT ht
  have hi2 : (i : Int) < (k.jobs.length : Int) := by omega
  have l1 := hk.jobs
  have jn0 := hk.jn
  have w : IntKind.i64.wrap ((i : Int) + 1) = ((i + 1 : Nat) : Int) := by rw [wrap_i64 (by omega) (by omega)]; omega
  have c1 := loses_K j (-1)
  have g1 := get_mapT (f := Sj.d) ht
  have g2 := get_ofT g1
  have s := set_same (f := Sj.d) ht
  have g3 := get_ofT ht
  generalize i + 1 = i' at *
  obtain ⟨now, apart, tasks, bounds, runs, halt, hit, jn, jobs, rows, off⟩ := k
  simp only at hi hi2 ht g3 jn0
  obtain ⟨task, at_, inn, ph, pc, x, over, kpc, kx, up⟩ := j
  simp only [Sj.d, mz] at c1 g1 g2 s
  rw [run_round]
  cases jn with
  | true =>
    rw [jn0 rfl] at hi
    simp at hi
  | false => simp [c_kern_twin_L1, k_kern_twin_L1b, twE, E1, knV, knH, jV, jH, jN, gOf, hlook, hi, hi2, w, ht, g3, g1, g2, c1, s, Sj.d, mz]
set_option maxRecDepth 10000 in
theorem tw1_stop (tl : Nat → Option Blk) (k : Kn) : run kp (.loop [1, 2, 53, 54, 55] k_kern_twin_L1 (twE k (E1 k k.jobs.length) tl)) = some (.out (.ext 2) (twE k (E1 k k.jobs.length ++ [(56, .bool false)]) tl)) := by
  obtain ⟨now, apart, tasks, bounds, runs, halt, hit, jn, jobs, rows, off⟩ := k
  rw [run_round]
  cases jn <;> simp [c_kern_twin_L1, k_kern_twin_L1b, twE, E1, knV, knH, jV, jH, jN]
theorem tw1_loop (tl : Nat → Option Blk) (k : Kn) (hk : k.Ok) : ∀ (r i : Nat), i + r = k.jobs.length →
    run kp (.loop [1, 2, 53, 54, 55] k_kern_twin_L1 (twE k (E1 k i) tl)) = some (.out (.ext 2) (twE k (E1 k k.jobs.length ++ [(56, .bool false)]) tl))
  | 0, i, h => by
    obtain rfl : i = k.jobs.length := by omega
    exact tw1_stop tl k
  | r + 1, i, h => by
    obtain ⟨t, ht⟩ : ∃ t, k.jobs[i]? = some t := ⟨_, List.getElem?_eq_getElem (by omega)⟩
    rw [tw1_round tl k hk i t ht]
    exact tw1_loop tl k hk r (i + 1) (by omega)
set_option maxRecDepth 10000 in
set_option maxHeartbeats 32000000 in
theorem twin_K (tl : Nat → Option Blk) (k : Kn) (hk : k.Ok) : run kp (.call f_kern_twin [.d k.d] tl 2) = some (.val (knV 2 k) (knH 2 k) (3 + jN k.jn)) := by
  have l0 := tw0_loop tl k hk k.tasks.length 0 (by omega)
  have l1 := tw1_loop tl k hk k.jobs.length 0 (by omega)
  have c1 := clone_Task k.tasks (by have := hk.tasks.1; omega)
  have c2 := clone_Bounds k.bounds (by have := hk.bounds; omega)
  have c3 := clone_Job k.jn k.jobs hk.jn (by have := hk.jobs; omega)
  have g := hk.good
  have jn0 := hk.jn
  have pt := put_T
  simp only [zTh, T0] at pt
  obtain ⟨now, apart, tasks, bounds, runs, halt, hit, jn, jobs, rows, off⟩ := k
  simp only [Kn.w] at c1 c2 c3 g jn0
  rw [run_call, kp_kern_twin]
  cases jn with
  | true =>
    have := jn0 rfl
    subst this
    simp only [List.map_nil] at c3
    simp only [twE, E0, E1, knV, knH, jV, jH, jN, zKn, List.append_nil, List.nil_append, List.cons_append, Int.cast_ofNat_Int, List.length_nil, Nat.add_zero, Nat.reduceAdd] at l0 l1
    simp [k_kern_twin, Kn.d, knV, knH, jV, jH, jN, gOf, hlook, canK_canH, c1, c2, c3, g, pt, l0, l1]
  | false =>
    simp only [twE, E0, E1, knV, knH, jV, jH, jN, zKn, List.append_nil, List.nil_append, List.cons_append, Int.cast_ofNat_Int, Nat.add_zero, Nat.reduceAdd] at l0 l1
    simp [k_kern_twin, Kn.d, knV, knH, jV, jH, jN, gOf, hlook, canK_canH, c1, c2, c3, g, pt, l0, l1]
end Go.Cd
