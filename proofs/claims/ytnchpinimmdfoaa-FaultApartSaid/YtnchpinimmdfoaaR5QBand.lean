/- The functions of band and what the reference has of them. No conditions. -/
import Derived.Test.YtnchpinimmdfoaaR5QSema
set_option linter.unusedVariables false
set_option linter.unusedSimpArgs false
namespace Go.Cd
open Go Go.Fw
structure Rep where
  first : Int
  last : Int
  left : Int
def Rep.d (r : Rep) : D := .agg [.int .i64 r.first, .int .i64 r.last, .int .i64 r.left]
/-- A machine, a job: what stands in them. 'mem' are eight numbers. -/
structure Mach where
  pc : Int
  mem : List Int
  rn : Bool
  reps : List Rep
  over : Bool
def Mach.d (m : Mach) : D := .agg [.int .i64 m.pc, .agg (m.mem.map (.int .i64)), .sl m.rn (m.reps.map Rep.d), .bool m.over]
structure Job where
  task : Int
  at_ : Int
  inp : Int
  phase : Int
  m : Mach
  kept : Mach
  hn : Bool
  held : List Int
  up : Bool
def Job.d (j : Job) : D := .agg [.int .i64 j.task, .int .i64 j.at_, .int .i64 j.inp, .int .i64 j.phase, j.m.d, j.kept.d, .sl j.hn (j.held.map (.int .i64)), .bool j.up]
theorem Job.argV (j : Job) : argV j.d = .agg [.int .i64 j.task, .int .i64 j.at_, .int .i64 j.inp, .int .i64 j.phase, Fw.argV j.m.d, Fw.argV j.kept.d, .asl j.hn (j.held.map (.int .i64)), .bool j.up] := by
  simp [Job.d, D.flats, D.flat]
def baseF (j : Job) (n : Int) : Int := if j.phase = 2 then IntKind.i64.wrap (IntKind.i64.wrap (n + n) + j.task) else if j.up then j.task else IntKind.i64.wrap (n + j.task)
@[simp] theorem Job.fold (t a i p : Int) (m k : Mach) (hn : Bool) (held : List Int) (up : Bool) : D.agg [.int .i64 t, .int .i64 a, .int .i64 i, .int .i64 p, m.d, k.d, .sl hn (held.map (.int .i64)), .bool up] = Job.d ⟨t, a, i, p, m, k, hn, held, up⟩ := rfl
theorem band_Base (j : Job) (n : Int) : run kp (.data f_band_Base [j.d, .int .i64 n]) = some (.ds [.int .i64 (baseF j n)]) := by
  rw [run_data, run_call, kp_band_Base]
  simp [k_band_Base, Job.argV, baseF]
  (repeat' split) <;> rfl
def ofF (j : Job) (n : Int) (l : List Sema) : Int :=
  if (lowF l j.task j.held [] 0 false).2.1 then (if (lowF l j.task j.held [] 0 false).1 < baseF j n then (lowF l j.task j.held [] 0 false).1 else baseF j n) else baseF j n
theorem band_Of (j : Job) (hj : j.held.length ≤ maxLen) (n : Int) (nl : Bool) (l : List Sema) : run kp (.data f_band_Of [j.d, .int .i64 n, .sl nl (l.map Sema.d)]) = some (.ds [.int .i64 (ofF j n l)]) := by
  rw [run_data, run_call, kp_band_Of]
  simp [k_band_Of, Job.argV, ofF, sema_Low, hj, band_Base]
  (repeat' split) <;> rfl
def refBaseF (j : Job) (n : Int) : Int := if j.phase = 2 then IntKind.i64.wrap (IntKind.i64.wrap (2 * n) + j.task) else if j.up then j.task else IntKind.i64.wrap (n + j.task)
theorem ref19_Base (j : Job) (n : Int) : run kp (.data f_ref19_Base [j.d, .int .i64 n]) = some (.ds [.int .i64 (refBaseF j n)]) := by
  rw [run_data, run_call, kp_ref19_Base]
  simp [k_ref19_Base, Job.argV, refBaseF]
  (repeat' split) <;> rfl
/-- The least ceiling, as the reference finds it. -/
def refLowF (l : List Sema) (task : Int) : List Int → Int → Bool → Int × Bool
  | [], low, is => (low, is)
  | s :: r, low, is => match semaAt l s with
    | some x => if x.holder = IntKind.i64.wrap (task + 1) then refLowF l task r (if is = true ∧ low ≤ x.ceil then low else x.ceil) true else refLowF l task r low is
    | none => refLowF l task r low is
theorem ref11_Low_loop (nl nh : Bool) (l : List Sema) (task : Int) (held : List Int) (hlen : held.length ≤ maxLen) : ∀ (rest pre : List Int), held = pre ++ rest → ∀ (i : Int), i = pre.length → ∀ (low : Int) (is : Bool),
    run kp (.loop [0, 1, 2, 8, 9, 10] k_ref11_Low_L0 { env := [(0, V.asl nl (List.map Sema.d l)), (1, V.asl nh (List.map (D.int IntKind.i64) held)), (2, V.int IntKind.i64 task), (8, V.int IntKind.i64 low),
                      (9, V.bool is), (10, V.int IntKind.i64 i)], hp := [], tl := fun _ => none, base := 0, next := 0 }) =
    some (.out (.ext 0) { env := [(0, V.asl nl (List.map Sema.d l)), (1, V.asl nh (List.map (D.int IntKind.i64) held)), (2, V.int IntKind.i64 task), (8, V.int IntKind.i64 (refLowF l task rest low is).1),
                      (9, V.bool (refLowF l task rest low is).2), (10, V.int IntKind.i64 held.length), (15, .bool false)], hp := [], tl := fun _ => none, base := 0, next := 0 })
  | [], pre, h, i, hi, low, is => by
    simp at h
    subst h hi
    rw [run_round]
    simp [c_ref11_Low_L0, k_ref11_Low_L0b, refLowF]
  | s :: rest, pre, h, i, hi, low, is => by
    have hl : i < held.length := by rw [h, hi]; simp; omega
    have h0 : 0 ≤ i := by omega
    have hget0 : held[i.toNat]? = some s := by rw [h, hi]; simp
    have hget : ∀ hh : i.toNat < held.length, held[i.toNat] = s := fun hh => by rw [List.getElem?_eq_getElem hh] at hget0; injection hget0
    have hm := len_i64 hlen
    have hw : IntKind.i64.wrap (i + 1) = i + 1 := wrap_i64 (by omega) (by omega)
    have ih := fun low is => ref11_Low_loop nl nh l task held hlen rest (pre ++ [s]) (by simp [h]) (i + 1) (by simp [hi]) low is
    rw [run_round]
    by_cases hs0 : s < 0
    · have : semaAt l s = none := by simp [semaAt]; omega
      simp [c_ref11_Low_L0, k_ref11_Low_L0b, hl, h0, hget, hs0, refLowF, hw, ih, this]
    · have hs0' : 0 ≤ s := by omega
      by_cases hsl : l.length ≤ s
      · have : semaAt l s = none := by
          simp only [semaAt]
          rw [if_pos hs0', List.getElem?_eq_none (by omega)]
        simp [c_ref11_Low_L0, k_ref11_Low_L0b, hl, h0, hget, hs0, hsl, refLowF, hw, ih, this]
      · have hsn : s.toNat < l.length := by omega
        have hx2 : l[s.toNat]? = some l[s.toNat] := List.getElem?_eq_getElem hsn
        have hat : semaAt l s = some l[s.toNat] := by simp [semaAt, hs0', hx2]
        generalize l[s.toNat] = x at hx2 hat
        by_cases hx : x.holder = IntKind.i64.wrap (task + 1)
        · cases is with
          | false => simp [c_ref11_Low_L0, k_ref11_Low_L0b, hl, h0, hget, hs0, hs0', hsl, refLowF, hw, ih, hat, hx2, hx, Sema.d]
          | true =>
            by_cases hlow : x.ceil < low
            · have : ¬ low ≤ x.ceil := by omega
              simp [c_ref11_Low_L0, k_ref11_Low_L0b, hl, h0, hget, hs0, hs0', hsl, refLowF, hw, ih, hat, hx2, hx, Sema.d, hlow, this]
            · have : low ≤ x.ceil := by omega
              simp [c_ref11_Low_L0, k_ref11_Low_L0b, hl, h0, hget, hs0, hs0', hsl, refLowF, hw, ih, hat, hx2, hx, Sema.d, hlow, this]
        · simp [c_ref11_Low_L0, k_ref11_Low_L0b, hl, h0, hget, hs0, hs0', hsl, refLowF, hw, ih, hat, hx2, hx, Sema.d]
theorem ref11_Low (nl nh : Bool) (l : List Sema) (held : List Int) (hlen : held.length ≤ maxLen) (task : Int) : run kp (.data f_ref11_Low [.sl nl (l.map Sema.d), .sl nh (held.map (.int .i64)), .int .i64 task]) = some (.ds [.int .i64 (refLowF l task held 0 false).1, .bool (refLowF l task held 0 false).2]) := by
  rw [run_data, run_call, kp_ref11_Low]
  have hl := ref11_Low_loop nl nh l task held hlen held [] rfl 0 rfl 0 false
  simp [k_ref11_Low, hl]
def refBandF (j : Job) (n : Int) (l : List Sema) : Int :=
  if (refLowF l j.task j.held 0 false).2 = true ∧ (refLowF l j.task j.held 0 false).1 < refBaseF j n then (refLowF l j.task j.held 0 false).1 else refBaseF j n
theorem ref19_Band (j : Job) (hj : j.held.length ≤ maxLen) (n : Int) (nl : Bool) (l : List Sema) : run kp (.data f_ref19_Band [j.d, .int .i64 n, .sl nl (l.map Sema.d)]) = some (.ds [.int .i64 (refBandF j n l)]) := by
  rw [run_data, run_call, kp_ref19_Band]
  simp [k_ref19_Band, Job.argV, refBandF, ref11_Low, hj, ref19_Base]
  by_cases h1 : (refLowF l j.task j.held 0 false).2 = true <;> simp [h1]
  split <;> rfl
end Go.Cd
