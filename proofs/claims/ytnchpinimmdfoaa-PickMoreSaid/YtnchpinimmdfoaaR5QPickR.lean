/- The reference's Next, and the jobs that the laws make. No conditions. -/
import Derived.Test.YtnchpinimmdfoaaR5QPickN
import Derived.KernelRfl
set_option linter.unusedVariables false
set_option linter.unusedSimpArgs false
namespace Go.Cd
open Go Go.Fw
theorem rn_loop (n : Int) (nl nj : Bool) (s : List Sema) (l : List Job) (hl : l.length ≤ 60) (hh : ∀ j ∈ l, j.held.length ≤ maxLen ∧ 0 ≤ j.task) : ∀ (rest pre : List Job), l = pre ++ rest → ∀ (i : Nat), i = pre.length → ∀ (b : Nat) (jb : Job), l[b]? = some jb → b < i →
    run kp (.loop [0, 1, 2, 8, 9] k_ref19_Next_L0 { env := [(0, .asl nj (l.map Job.d)), (1, .int .i64 n), (2, .asl nl (s.map Sema.d)), (8, .int .i64 (b : Int)), (9, .int .i64 (i : Int))], hp := [], tl := fun _ => none, base := 0, next := 0 }) =
    some (.out (.ext 0) { env := [(0, .asl nj (l.map Job.d)), (1, .int .i64 n), (2, .asl nl (s.map Sema.d)), (8, .int .i64 ((fmF (plsOf n s rest) i b (plOf n s jb) : Nat) : Int)), (9, .int .i64 l.length), (13, .bool false)], hp := [], tl := fun _ => none, base := 0, next := 0 })
  | [], pre, h, i, hi, b, jb, hb, hlt => by
    simp at h
    subst h hi
    rw [run_round]
    simp [c_ref19_Next_L0, k_ref19_Next_L0b, plsOf, fmF]
  | j :: rest, pre, h, i, hi, b, jb, hb, hlt => by
    have hli : i < l.length := by rw [h, hi]; simp
    have hli2 : (i : Int) < l.length := by omega
    have hbl : b < l.length := by omega
    have hbl2 : (b : Int) < l.length := by omega
    have hget0 : l[i]? = some j := by rw [h, hi]; simp
    have hget : ∀ hh : i < l.length, l[i] = j := fun hh => by rw [List.getElem?_eq_getElem hh] at hget0; injection hget0
    have hgetb : ∀ hh : b < l.length, l[b] = jb := fun hh => by rw [List.getElem?_eq_getElem hh] at hb; injection hb
    have hw : IntKind.i64.wrap ((i : Int) + 1) = ((i + 1 : Nat) : Int) := by rw [wrap_i64 (by omega) (by omega)]; omega
    have ih := rn_loop n nl nj s l hl hh rest (pre ++ [j]) (by simp [h]) (i + 1) (by simp [hi])
    have hj := hh j (by rw [h]; simp)
    have hjb := hh jb (List.mem_of_getElem? hb)
    have ah := ref19_ahead j jb hj.1 hjb.1 hj.2 hjb.2 n nl s
    have hn : ¬ (b : Int) < 0 := by omega
    have he : plsOf n s (j :: rest) = plOf n s j :: plsOf n s rest := rfl
    rw [he]
    simp only [fmF]
    by_cases hc : ltP (plOf n s j) (plOf n s jb)
    · rw [if_pos hc]
      have ih := ih i j hget0 (by omega)
      rw [← ih, run_round]
      generalize i + 1 = k at *
      simp only [hc, decide_true, Job.d] at ah
      simp [-Job.fold, Job.d, c_ref19_Next_L0, k_ref19_Next_L0b, hli, hli2, hbl, hbl2, hget, hgetb, hw, hn, ah]
    · rw [if_neg hc]
      have ih := ih b jb hb (by omega)
      rw [← ih, run_round]
      generalize i + 1 = k at *
      simp only [hc, decide_false, Job.d] at ah
      simp [-Job.fold, Job.d, c_ref19_Next_L0, k_ref19_Next_L0b, hli, hli2, hbl, hbl2, hget, hgetb, hw, hn, ah]
theorem ref19_Next (n : Int) (nl nj : Bool) (s : List Sema) (l : List Job) (hl : l.length ≤ 60) (hh : ∀ j ∈ l, j.held.length ≤ maxLen ∧ 0 ≤ j.task) :
    run kp (.data f_ref19_Next [.sl nj (l.map Job.d), .int .i64 n, .sl nl (s.map Sema.d)]) = some (.ds [.int .i64 (fmL (plsOf n s l) : Nat), .bool (!l.isEmpty)]) := by
  rw [run_data, run_call, kp_ref19_Next]
  cases l with
  | nil =>
    simp [k_ref19_Next]
    rw [run_round]
    simp [c_ref19_Next_L0, k_ref19_Next_L0b, plsOf, fmL]
  | cons j r =>
    have lp := rn_loop n nl nj s (j :: r) hl hh r [j] rfl 1 rfl 0 j rfl (by decide)
    have he : fmL (plsOf n s (j :: r)) = fmF (plsOf n s r) 1 0 (plOf n s j) := rfl
    rw [he]
    generalize fmF (plsOf n s r) 1 0 (plOf n s j) = f at *
    have hp : (0 : Int) < (r.length : Int) + 1 := by omega
    have w1 : IntKind.i64.wrap 1 = 1 := by decide
    have hf : ¬ (f : Int) < 0 := by omega
    have one : run kp (.loop [0, 1, 2, 8, 9] k_ref19_Next_L0 { env := [(0, .asl nj ((j :: r).map Job.d)), (1, .int .i64 n), (2, .asl nl (s.map Sema.d)), (8, .int .i64 (-1)), (9, .int .i64 0)], hp := [], tl := fun _ => none, base := 0, next := 0 }) =
        run kp (.loop [0, 1, 2, 8, 9] k_ref19_Next_L0 { env := [(0, .asl nj ((j :: r).map Job.d)), (1, .int .i64 n), (2, .asl nl (s.map Sema.d)), (8, .int .i64 0), (9, .int .i64 1)], hp := [], tl := fun _ => none, base := 0, next := 0 }) := by
      rw [run_round]
      simp [c_ref19_Next_L0, k_ref19_Next_L0b, hp, w1]
    simp only [Int.cast_ofNat_Int] at lp
    rw [lp] at one
    simp only [List.map_cons] at one
    simp [k_ref19_Next, one, hf]
set_option maxRecDepth 100000 in
theorem pick_begun : run kp (.data f_law21_begun []) = some (.ds [.bool true]) := run_of (n := 4000) (by kernel_rfl)
/-! ### The jobs that the laws make -/
structure T3 where
  a : Int
  b : Int
  c : Int
def T3.d (x : T3) : D := .agg [.int .u8 x.a, .int .u8 x.b, .int .u8 x.c]
structure T2 where
  a : Int
  b : Int
def T2.d (x : T2) : D := .agg [.int .u8 x.a, .int .u8 x.b]
def zMach : Mach := ⟨0, [0, 0, 0, 0, 0, 0, 0, 0], true, [], false⟩
def zMd : D := .agg [.int .i64 0, .agg [.int .i64 0, .int .i64 0, .int .i64 0, .int .i64 0, .int .i64 0, .int .i64 0, .int .i64 0, .int .i64 0], .sl true [], .bool false]
def jobOf (i p : Int) (up : Bool) (held : List Int) : Job := ⟨i, 0, 0, p, zMach, zMach, held.isEmpty, held, up⟩
def rV (k : Nat) : List D → V
  | [] => .d (.sl true [])
  | _ :: l => .sl false k 0 (l.length + 1)
def rH (k : Nat) : List D → Hp
  | [] => []
  | a :: l => [(k, .row true (a :: l))]
def rN : List D → Nat
  | [] => 0
  | _ :: _ => 1
def jbV (k : Nat) (i p : Int) (up : Bool) : List Int → V
  | [] => .d (.agg [.int .i64 i, .int .i64 0, .int .i64 0, .int .i64 p, zMd, zMd, .sl true [], .bool up])
  | _ :: h => .agg [.int .i64 i, .int .i64 0, .int .i64 0, .int .i64 p, .d zMd, .d zMd, .sl false k 0 (h.length + 1), .bool up]
def jbH (k : Nat) : List Int → Hp
  | [] => []
  | a :: h => [(k, .row true (.int .i64 a :: h.map (.int .i64)))]
def jbN : List Int → Nat
  | [] => 0
  | _ :: _ => 1
def mdSt (nl ns : Bool) (l : List T3) (s : List T2) (i : Int) (ex : List (Nat × V)) (js : List D) : St :=
  { env := [(0, .asl nl (l.map T3.d)), (1, .asl ns (s.map T2.d)), (6, rV 0 js), (7, .d (.sl true [])), (8, .int .i64 i)] ++ ex, hp := rH 0 js, tl := fun _ => none, base := 0, next := rN js }
def mdSt1 (nl ns : Bool) (l : List T3) (s : List T2) (i p : Int) (up : Bool) (held : List Int) (ex : List (Nat × V)) (k : Int) (js : List D) : St :=
  { env := [(0, .asl nl (l.map T3.d)), (1, .asl ns (s.map T2.d)), (6, rV 0 js), (7, .d (.sl true [])), (8, .int .i64 i), (9, .ptr (rN js) []), (10, .int .i64 k)] ++ ex, hp := rH 0 js ++ ((rN js, .box (jbV (rN js + 1) i p up held)) :: jbH (rN js + 1) held), tl := fun _ => none, base := 0, next := rN js + 1 + jbN held }
set_option maxHeartbeats 8000000 in
theorem md_step1 (nl ns : Bool) (l : List T3) (s : List T2) (i p : Int) (up : Bool) (h0 : 0 ≤ i) (hli : i < l.length) (t : T3) (hget : ∀ hh : i.toNat < l.length, l[i.toNat] = t) (js : List D) (hjs : js.length ≤ 100) (k : Int) (hk0 : 0 ≤ k) (hk : k < 3) (held : List Int) (hh : held.length ≤ 100) :
    ∃ held', held'.length ≤ held.length + 1 ∧ run kp (.loop [0, 1, 6, 7, 8, 9, 10] k_law21_made_L1 (mdSt1 nl ns l s i p up held [] k js)) = run kp (.loop [0, 1, 6, 7, 8, 9, 10] k_law21_made_L1 (mdSt1 nl ns l s i p up held' [] (k + 1) js)) := by
  have hw : IntKind.i64.wrap (k + 1) = k + 1 := wrap_i64 (by omega) (by omega)
  have hk1 : ¬ k < 0 := by omega
  by_cases hc : bits .and .u8 (t.c / 2 ^ min k.toNat 8) 1 = 1
  · refine ⟨held ++ [k], by simp, ?_⟩
    rw [run_round]
    cases js with
    | nil =>
      cases held with
      | nil => simp [c_law21_made_L1, k_law21_made_L1b, mdSt1, rV, rH, rN, jbV, jbH, jbN, zMd, h0, hli, hget, T3.d, hk, hk1, hw, hc, IntKind.bits]
      | cons a h =>
        simp only [List.length_cons] at hh
        have : h.length ≤ 1073741822 := by omega
        simp [c_law21_made_L1, k_law21_made_L1b, mdSt1, rV, rH, rN, jbV, jbH, jbN, zMd, h0, hli, hget, T3.d, hk, hk1, hw, hc, IntKind.bits, this]
    | cons j js =>
      cases held with
      | nil => simp [c_law21_made_L1, k_law21_made_L1b, mdSt1, rV, rH, rN, jbV, jbH, jbN, zMd, h0, hli, hget, T3.d, hk, hk1, hw, hc, IntKind.bits]
      | cons a h =>
        simp only [List.length_cons] at hh
        have : h.length ≤ 1073741822 := by omega
        simp [c_law21_made_L1, k_law21_made_L1b, mdSt1, rV, rH, rN, jbV, jbH, jbN, zMd, h0, hli, hget, T3.d, hk, hk1, hw, hc, IntKind.bits, this]
  · refine ⟨held, by omega, ?_⟩
    rw [run_round]
    cases js <;> cases held <;> simp [c_law21_made_L1, k_law21_made_L1b, mdSt1, rV, rH, rN, jbV, jbH, jbN, zMd, h0, hli, hget, T3.d, hk, hk1, hw, hc, IntKind.bits]
theorem md_loop1 (nl ns : Bool) (l : List T3) (s : List T2) (i p : Int) (up : Bool) (h0 : 0 ≤ i) (hli : i < l.length) (t : T3) (hget : ∀ hh : i.toNat < l.length, l[i.toNat] = t) (js : List D) (hjs : js.length ≤ 100) :
    ∃ held : List Int, held.length ≤ 3 ∧ run kp (.loop [0, 1, 6, 7, 8, 9, 10] k_law21_made_L1 (mdSt1 nl ns l s i p up [] [] 0 js)) = some (.out (.ext 2) (mdSt1 nl ns l s i p up held [(39, .bool false)] 3 js)) := by
  obtain ⟨a, a1, a2⟩ := md_step1 nl ns l s i p up h0 hli t hget js hjs 0 (by decide) (by decide) [] (by simp)
  obtain ⟨b, b1, b2⟩ := md_step1 nl ns l s i p up h0 hli t hget js hjs (0 + 1) (by decide) (by decide) a (by simp at a1; omega)
  obtain ⟨c, c1, c2⟩ := md_step1 nl ns l s i p up h0 hli t hget js hjs (0 + 1 + 1) (by decide) (by decide) b (by simp at a1; omega)
  refine ⟨c, by simp at a1; omega, ?_⟩
  rw [a2, b2, c2, run_round]
  cases js <;> cases c <;> simp [c_law21_made_L1, k_law21_made_L1b, mdSt1, rV, rH, rN, jbV, jbH, jbN, zMd]
end Go.Cd
