/- Next of pick, and the reference's. No conditions. -/
import Derived.Test.YtnchpinimmdfoaaR5QPick
import Derived.Test.YtnchpinimmdfoaaR5QBandS
set_option linter.unusedVariables false
set_option linter.unusedSimpArgs false
namespace Go.Cd
open Go Go.Fw
@[simp] theorem take_map_lenP {α β : Type} (f : α → β) (l : List α) : List.take l.length (List.map f l) = List.map f l := by
  rw [← List.length_map (f := f), List.take_length]
theorem set_fits {r i : Nat} (hr : r < 2 ^ 64) (hi : i < 64) : run kp (.data f_row_Set [.int .u64 (r : Int), .int .i64 (i : Int)]) = some (.ds [.int .u64 ((setN r i : Nat) : Int)]) := by
  have := row_Set r hr i
  have hb : inB (i : Int) := by unfold inB; omega
  simpa [setB, hb] using this
theorem first_pow (i : Nat) : IsFirst (setN 0 i) i := by
  refine ⟨by rw [tb_set]; simp, fun j hj => ?_⟩
  rw [tb_set]; simp; omega
theorem first_keep {r b i : Nat} (h : IsFirst r b) (hb : b < i) : IsFirst (setN r i) b := by
  refine ⟨by rw [tb_set]; simp [h.1], fun j hj => ?_⟩
  rw [tb_set, h.2 j hj]; simp; omega
def pfSt (nl : Bool) (l : List Pl) (r : Nat) (m : Pl) (ex : List (Nat × V)) (i : Int) : St :=
  { env := [(3, .ptr 0 []), (4, .int .u64 (r : Int)), (13, .asl nl (l.map Pl.d)), (14, .int .i64 l.length), (15, .int .i64 i)] ++ ex, hp := [(0, .box (.d m.d))], tl := fun _ => none, base := 0, next := 1 }
theorem pf_loop (nl : Bool) (l : List Pl) (hl : l.length ≤ 64) : ∀ (rest pre : List Pl), l = pre ++ rest → ∀ (i : Nat), i = pre.length → ∀ (r b : Nat) (m : Pl), r < 2 ^ 64 → IsFirst r b → b < i → ∃ (r' : Nat) (m' : Pl), r' < 2 ^ 64 ∧ IsFirst r' (fmF rest i b m) ∧
    run kp (.loop [3, 4, 13, 14, 15] k_pick_first_L0 (pfSt nl l r m [] (i : Int))) = some (.out (.ext 0) (pfSt nl l r' m' [(16, .bool false)] l.length))
  | [], pre, h, i, hi, r, b, m, hr, hf, hb => by
    simp at h
    subst h hi
    refine ⟨r, m, hr, hf, ?_⟩
    rw [run_round]
    simp [c_pick_first_L0, k_pick_first_L0b, pfSt]
  | p :: rest, pre, h, i, hi, r, b, m, hr, hf, hb => by
    have hli : i < l.length := by rw [h, hi]; simp
    have hli2 : (i : Int) < l.length := by omega
    have hget0 : l[i]? = some p := by rw [h, hi]; simp
    have hget : ∀ hh : i < l.length, l[i] = p := fun hh => by rw [List.getElem?_eq_getElem hh] at hget0; injection hget0
    have hw : IntKind.i64.wrap ((i : Int) + 1) = ((i + 1 : Nat) : Int) := by rw [wrap_i64 (by omega) (by omega)]; omega
    have ih := pf_loop nl l hl rest (pre ++ [p]) (by simp [h]) (i + 1) (by simp [hi])
    have cp := pick_compare p m
    simp only [fmF]
    rcases cmpP_cases p m with ⟨h1, h2⟩ | ⟨h1, h2, h3⟩ | ⟨h1, h2, h3⟩
    · rw [if_pos h1]
      obtain ⟨r', m', k1, k2, k3⟩ := ih (setN 0 i) i p (set_lt (by decide) (by omega)) (first_pow i) (by omega)
      refine ⟨r', m', k1, k2, ?_⟩
      have st := set_fits (r := 0) (i := i) (by decide) (by omega)
      simp only [Int.cast_ofNat_Int] at st
      rw [← k3, run_round]
      generalize setN 0 i = q at *
      generalize i + 1 = j at *
      simp only [Pl.d] at cp
      simp [c_pick_first_L0, k_pick_first_L0b, pfSt, hli, hli2, hget, hw, cp, h2, st, Pl.d]
    · rw [if_neg h1]
      obtain ⟨r', m', k1, k2, k3⟩ := ih r b m hr hf (by omega)
      refine ⟨r', m', k1, k2, ?_⟩
      have n1 : ¬ cmpP p m < 0 := by omega
      have n2 : ¬ cmpP p m = 0 := by omega
      rw [← k3, run_round]
      generalize i + 1 = j at *
      simp only [Pl.d] at cp
      simp [c_pick_first_L0, k_pick_first_L0b, pfSt, hli, hli2, hget, hw, cp, n1, n2, Pl.d]
    · rw [if_neg h1]
      obtain ⟨r', m', k1, k2, k3⟩ := ih (setN r i) b m (set_lt hr (by omega)) (first_keep hf hb) (by omega)
      refine ⟨r', m', k1, k2, ?_⟩
      have st := set_fits (r := r) (i := i) hr (by omega)
      rw [← k3, run_round]
      generalize setN r i = q at *
      generalize i + 1 = j at *
      simp only [Pl.d] at cp
      simp [c_pick_first_L0, k_pick_first_L0b, pfSt, hli, hli2, hget, hw, cp, h3, st, Pl.d]
theorem pick_first (nl : Bool) (p : Pl) (rest : List Pl) (hl : rest.length ≤ 63) : run kp (.data f_pick_first [.sl nl ((p :: rest).map Pl.d)]) = some (.ds [.int .i64 (fmL (p :: rest) : Nat)]) := by
  rw [run_data, run_call, kp_pick_first]
  have f0 : IsFirst (setN 0 0) 0 := first_pow 0
  obtain ⟨r', m', k1, k2, k3⟩ := pf_loop nl (p :: rest) (by simp; omega) rest [p] rfl 1 rfl (setN 0 0) 0 p (by decide) f0 (by decide)
  have fst := row_First r' _ k1 k2
  have cp := pick_compare p p
  have c0 : cmpP p p = 0 := by
    rcases cmpP_cases p p with ⟨h1, _⟩ | ⟨_, h2, _⟩ | ⟨_, _, h3⟩
    · exact absurd h1 (ltP_irrefl p)
    · exact absurd rfl h2
    · exact h3
  have st := set_fits (r := 0) (i := 0) (by decide) (by decide)
  have w1 : IntKind.i64.wrap 1 = 1 := by decide
  have one : run kp (.loop [3, 4, 13, 14, 15] k_pick_first_L0 (pfSt nl (p :: rest) 0 p [] 0)) = run kp (.loop [3, 4, 13, 14, 15] k_pick_first_L0 (pfSt nl (p :: rest) (setN 0 0) p [] 1)) := by
    have hp : (0 : Int) < (rest.length : Int) + 1 := by omega
    rw [run_round]
    generalize setN 0 0 = q at *
    simp only [Int.cast_ofNat_Int] at st
    simp only [Pl.d] at cp
    simp [c_pick_first_L0, k_pick_first_L0b, pfSt, hp, cp, c0, st, w1, Pl.d]
  simp only [Int.cast_ofNat_Int] at k3
  rw [k3] at one
  have fe : fmL (p :: rest) = fmF rest 1 0 p := rfl
  rw [fe]
  generalize fmF rest 1 0 p = x at *
  have hp : (0 : Int) < (rest.length : Int) + 1 := by omega
  simp [pfSt, Pl.d] at one
  simp [k_pick_first, Pl.d, hp, one, fst]
/-- Where jobs stand. -/
def plsOf (n : Int) (s : List Sema) (l : List Job) : List Pl := l.map (plOf n s)
def nxSt (n : Int) (nl nj : Bool) (s : List Sema) (l : List Job) (ex : List (Nat × V)) (i : Int) : List Pl → St
  | [] => { env := [(1, .int .i64 n), (2, .asl nl (s.map Sema.d)), (6, .int .i64 0), (7, .bool false), (8, .d (.sl true [])), (14, .asl nj (l.map Job.d)), (15, .int .i64 l.length), (16, .int .i64 i)] ++ ex, hp := [], tl := fun _ => none, base := 0, next := 0 }
  | p :: r => { env := [(1, .int .i64 n), (2, .asl nl (s.map Sema.d)), (6, .int .i64 0), (7, .bool false), (8, .sl false 0 0 (r.length + 1)), (14, .asl nj (l.map Job.d)), (15, .int .i64 l.length), (16, .int .i64 i)] ++ ex, hp := [(0, .row true (p.d :: r.map Pl.d))], tl := fun _ => none, base := 0, next := 1 }
set_option maxHeartbeats 4000000 in
theorem nx_loop0 (n : Int) (nl nj : Bool) (s : List Sema) (l : List Job) (hl : l.length ≤ 60) (hh : ∀ j ∈ l, j.held.length ≤ maxLen) : ∀ (rest pre : List Job), l = pre ++ rest → ∀ (i : Int), i = pre.length →
    run kp (.loop [1, 2, 6, 7, 8, 14, 15, 16] k_pick_Next_L0 (nxSt n nl nj s l [] i (plsOf n s pre))) = some (.out (.ext 0) (nxSt n nl nj s l [(17, .bool false)] l.length (plsOf n s l)))
  | [], pre, h, i, hi => by
    simp at h
    subst h hi
    rw [run_round]
    cases hp : plsOf n s l <;> simp [c_pick_Next_L0, k_pick_Next_L0b, nxSt]
  | j :: rest, pre, h, i, hi => by
    have hli : i < l.length := by rw [h, hi]; simp; omega
    have h0 : 0 ≤ i := by omega
    have hget0 : l[i.toNat]? = some j := by rw [h, hi]; simp
    have hget : ∀ hh : i.toNat < l.length, l[i.toNat] = j := fun hh => by rw [List.getElem?_eq_getElem hh] at hget0; injection hget0
    have hw : IntKind.i64.wrap (i + 1) = i + 1 := wrap_i64 (by omega) (by omega)
    have ih := nx_loop0 n nl nj s l hl hh rest (pre ++ [j]) (by simp [h]) (i + 1) (by simp [hi])
    have po := pick_of j (hh j (by rw [h]; simp)) n nl s
    have hpl : plsOf n s (pre ++ [j]) = plsOf n s pre ++ [plOf n s j] := by simp [plsOf]
    have hpn : (plsOf n s pre).length ≤ 60 := by simp [plsOf]; omega
    rw [hpl] at ih
    rw [← ih, run_round]
    generalize plOf n s j = q at *
    generalize plsOf n s pre = ps at *
    simp only [Pl.d, Job.d] at po
    cases ps with
    | nil => simp [-Job.fold, c_pick_Next_L0, k_pick_Next_L0b, nxSt, h0, hli, hget, hw, po, Pl.d, Job.d]
    | cons p r =>
      simp only [List.length_cons] at hpn
      have : r.length ≤ 1073741822 := by omega
      simp [-Job.fold, c_pick_Next_L0, k_pick_Next_L0b, nxSt, h0, hli, hget, hw, po, Pl.d, Job.d, this]
set_option maxHeartbeats 4000000 in
theorem pick_Next (n : Int) (nl nj : Bool) (s : List Sema) (l : List Job) (hl : l.length ≤ 60) (hh : ∀ j ∈ l, j.held.length ≤ maxLen) :
    run kp (.data f_pick_Next [.sl nj (l.map Job.d), .int .i64 n, .sl nl (s.map Sema.d)]) = some (.ds [.int .i64 (fmL (plsOf n s l) : Nat), .bool (!l.isEmpty)]) := by
  rw [run_data, run_call, kp_pick_Next]
  have l0 := nx_loop0 n nl nj s l hl hh l [] rfl 0 rfl
  cases l with
  | nil =>
    simp [nxSt, plsOf] at l0
    simp [k_pick_Next, l0, plsOf, fmL]
    rw [run_round]
    simp [c_pick_Next_L1, k_pick_Next_L1b]
  | cons j r =>
    have hp : plsOf n s (j :: r) = plOf n s j :: plsOf n s r := rfl
    have hrl : (plsOf n s r).length ≤ 59 := by simp [plsOf]; simp at hl; omega
    have hrl2 : (plsOf n s r).length = r.length := by simp [plsOf]
    rw [hp] at l0 ⊢
    generalize plOf n s j = p at *
    generalize plsOf n s r = ps at *
    have pf := pick_first false p ps (by omega)
    have hlt : (0 : Int) < (ps.length : Int) + 1 := by omega
    have hmn : ¬ (ps.length : Int) + 1 > 64 := by omega
    have hmn2 : ¬ (64 : Int) < (ps.length : Int) + 1 := by omega
    have hge : ¬ (64 : Int) < (ps.length : Int) + 1 := by omega
    have hge2 : (ps.length : Int) + 1 ≤ 64 := by omega
    have hmn3 : (ps.length : Int) + 1 < 64 := by omega
    have wf : IntKind.i64.wrap ((fmL (p :: ps) : Nat) : Int) = (fmL (p :: ps) : Nat) := by
      obtain ⟨m, a, _, _⟩ := fmL_spec (p :: ps) (by simp)
      have := (List.getElem?_eq_some_iff.1 a).1
      simp only [List.length_cons] at this
      exact wrap_i64 (by omega) (by omega)
    have w64 : IntKind.i64.wrap 64 = 64 := by decide
    generalize fmL (p :: ps) = f at *
    simp only [List.map_cons] at pf
    simp [nxSt, show plsOf n s [] = [] from rfl] at l0
    have l1 : run kp (.loop [6, 7, 8, 11] k_pick_Next_L1 { env := [(6, .int .i64 0), (7, .bool false), (8, .sl false 0 0 (ps.length + 1)), (11, .int .i64 0)], hp := [(0, .row true (p.d :: ps.map Pl.d))], tl := fun _ => none, base := 0, next := 1 }) =
        some (.out (.ext 2) { env := [(6, .int .i64 (f : Int)), (7, .bool true), (8, .sl false 0 0 (ps.length + 1)), (11, .int .i64 64), (31, .bool false)], hp := [(0, .row true (p.d :: ps.map Pl.d))], tl := fun _ => none, base := 0, next := 1 }) := by
      rw [run_round]
      have hz : (0 : Int) ≤ (ps.length : Int) + 1 := by omega
      simp [c_pick_Next_L1, k_pick_Next_L1b, hlt, hmn, hmn2, hmn3, hge2, hz, pf, wf, w64]
      rw [run_round]
      simp [c_pick_Next_L1, k_pick_Next_L1b, hge]
    simp [k_pick_Next, l0, l1]
/-! ### The reference's -/
theorem ref19_ahead (a b : Job) (ha : a.held.length ≤ maxLen) (hb : b.held.length ≤ maxLen) (ta : 0 ≤ a.task) (tb : 0 ≤ b.task) (n : Int) (nl : Bool) (s : List Sema) :
    run kp (.data f_ref19_ahead [a.d, b.d, .int .i64 n, .sl nl (s.map Sema.d)]) = some (.ds [.bool (decide (ltP (plOf n s a) (plOf n s b)))]) := by
  have b1 := ref19_Band a ha n nl s
  have b2 := ref19_Band b hb n nl s
  have l1 := fun nh => ref11_Low nl nh s a.held ha a.task
  have l2 := fun nh => ref11_Low nl nh s b.held hb b.task
  rw [← band_same _ _ _ ta] at b1
  rw [← band_same _ _ _ tb] at b2
  have e1 := low_same s a.task ta a.held [] 0 false (fun h => by cases h) (fun h => absurd rfl h)
  have e2 := low_same s b.task tb b.held [] 0 false (fun h => by cases h) (fun h => absurd rfl h)
  simp only [← e1] at l1
  simp only [← e2] at l2
  unfold plOf ltP
  simp only
  generalize ofF a n s = x at *
  generalize ofF b n s = y at *
  generalize (lowF s a.task a.held [] 0 false).1 = lo1 at *
  generalize (lowF s a.task a.held [] 0 false).2.1 = p at *
  generalize (lowF s b.task b.held [] 0 false).1 = lo2 at *
  generalize (lowF s b.task b.held [] 0 false).2.1 = q at *
  rw [run_data, run_call, kp_ref19_ahead]
  by_cases hx : x = y
  · subst hx
    cases p <;> cases q <;> simp [k_ref19_ahead, Job.argV, b1, b2, l1, l2]
  · cases p <;> cases q <;> simp [k_ref19_ahead, Job.argV, b1, b2, l1, l2, hx]
end Go.Cd
