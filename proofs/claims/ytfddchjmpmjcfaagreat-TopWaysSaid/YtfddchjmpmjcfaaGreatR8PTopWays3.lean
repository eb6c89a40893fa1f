/- Texts of this session in one. No conditions. -/
import Derived.Test.YtfddchjmpmjcfaaGreatR8PTopWays1
import Derived.Test.YtfddchjmpmjcfaaGreatR8QTkG
set_option linter.unusedVariables false
set_option linter.unusedSimpArgs false
namespace Go.Cd
open Go Go.Fw
def Kn.l (k : Kn) : List D := match k.d with | .agg l => l | _ => []
theorem Kn.d_l (k : Kn) : k.d = .agg k.l := rfl
def bW (m q : Nat) : Bd := ⟨((m + 1 : Nat) : Int), ((q + 1 : Nat) : Int), 0, ((m + 1 : Nat) : Int) + ((q + 1 : Nat) : Int), 40 - (((m + 1 : Nat) : Int) + ((q + 1 : Nat) : Int))⟩
def kW (m q : Nat) (now : Int) (hit jn : Bool) (jobs : List Sj) : Kn := k1 now 40 (twT m q) (bW m q) hit jn jobs [.int .i64 0] [.bool false]
variable {m q : Nat}
theorem twT_ok (hm : 1 ≤ m ∧ m ≤ 9) (hq : 1 ≤ q ∧ q ≤ m) : (twT m q).Ok := (tw_ok hm hq).ok
theorem tk_none (hm : 1 ≤ m ∧ m ≤ 9) (hq : 1 ≤ q ∧ q ≤ m) (now : Int) (hn : -1000 ≤ now ∧ now ≤ 4611686018427387904) (hit jn : Bool) :
    run kp (.datk f_trial_Do [.agg (kW m q now hit jn []).l, stD 2 zCl 0]) = some (.ds [.agg (kW m q (now + 1) false true []).l, .sl true [], rpD 0]) :=
  step_tick _ _ _ _ (tick_none now 40 hn (twT m q) (twT_ok hm hq) (bW m q) hit jn _ _ good_1)
theorem tk_hits (hm : 1 ≤ m ∧ m ≤ 9) (hq : 1 ≤ q ∧ q ≤ m) (now : Int) (jn : Bool) (jobs : List Sj) (hj : jn = true → jobs = []) (hl : jobs.length ≤ 100) :
    run kp (.datk f_trial_Do [.agg (kW m q now false jn jobs).l, stD 3 zCl 0]) = some (.ds [.agg (kW m q now true jn jobs).l, .sl true [], rpD 0]) :=
  step_hit (kW m q now false jn jobs) (k1_ok (twT_ok hm hq) hj hl good_1) (fun _ => rfl)
/-- The number after so many sums. -/
def xW (inn : Int) (i : Nat) : Int := IntKind.i64.wrap (inn * 2 ^ i)
theorem xW_zero {inn : Int} (h : -9223372036854775808 ≤ inn ∧ inn ≤ 9223372036854775807) : xW inn 0 = inn := by
  have := h.1; have := h.2
  rw [xW, Int.pow_zero, Int.mul_one, wrap_i64 (by omega) (by omega)]
theorem xW_succ (inn : Int) (i : Nat) : IntKind.i64.wrap (xW inn i + xW inn i) = xW inn (i + 1) := by
  have e : inn * 2 ^ (i + 1) = inn * 2 ^ i + inn * 2 ^ i := by rw [Int.pow_succ]; generalize (2 : Int) ^ i = p; rw [← Int.mul_assoc]; omega
  rw [xW, xW, e]
  generalize inn * 2 ^ i = y
  rw [IntKind.wrap_i64 (IntKind.i64.wrap y + IntKind.i64.wrap y), IntKind.wrap_i64 (y + y), IntKind.wrap_i64 y]
  omega
def jA (at_ inn : Int) (i : Nat) (x : Int) (up : Bool) : Sj := ⟨0, at_, inn, 0, (i : Int), x, false, 0, inn, up⟩
def jB (at_ inn : Int) (i : Nat) (x : Int) (up : Bool) : Sj := ⟨0, at_, inn, 1, (i : Int), x, false, 0, inn, up⟩
theorem adds_get (m i : Nat) (h : i < m) : (adds m)[i]? = some addI := by
  rw [adds, List.getElem?_append_left (by simpa using h), List.getElem?_replicate, if_pos h]
theorem adds_end (m : Nat) : (adds m)[m]? = some endJ := by
  rw [adds, List.getElem?_append_right (by simp)]; simp
theorem sets_get (m i : Nat) (h : i < m) : (sets m)[i]? = some setI := by
  rw [sets, List.getElem?_append_left (by simpa using h), List.getElem?_replicate, if_pos h]
theorem sets_end (m : Nat) : (sets m)[m]? = some endJ := by
  rw [sets, List.getElem?_append_right (by simp)]; simp
theorem tk_add (hm : 1 ≤ m ∧ m ≤ 9) (hq : 1 ≤ q ∧ q ≤ m) (at_ inn : Int) (ha : -1000 ≤ at_ ∧ at_ ≤ 1000000) (i : Nat) (hi : i < m) (x : Int) (up : Bool) :
    ∃ up', run kp (.datk f_trial_Do [.agg (kW m q (at_ + i) false false [jA at_ inn i x up]).l, stD 2 zCl 0]) = some (.ds [.agg (kW m q (at_ + i + 1) false false [jA at_ inn (i + 1) (IntKind.i64.wrap (x + x)) up']).l, .sl false [evD (at_ + i) 2 0 0], rpD 0]) := by
  have tg := tick_go (at_ + i) 40 (by omega) (twT m q) (twT_ok hm hq) (bW m q) (jA at_ inn i x up) ⟨rfl, ha.1, by simp only [jA]; omega⟩ (by simp [jA]) (by simp only [jA, twT, tsOf]; omega) _ _ good_1 _ addI
    (job_Go_K (twT m q) (twT_ok hm hq) (upK (jA at_ inn i x up) (at_ + i) (bW m q).p) i rfl rfl addI (adds_get m i hi) (by rw [show (cdOf (twT m q) (upK (jA at_ inn i x up) (at_ + ↑i) (bW m q).p).ph).l = adds m from rfl, adds_len]; omega) ⟨by simp [addI], rfl, rfl⟩ (by decide)) rfl (by decide) (by decide)
  exact ⟨_, step_tick _ _ _ _ tg⟩
theorem tk_freed (hm : 1 ≤ m ∧ m ≤ 9) (hq : 1 ≤ q ∧ q ≤ m) (at_ inn : Int) (ha : -1000 ≤ at_ ∧ at_ ≤ 1000000) (x : Int) (up : Bool) :
    run kp (.datk f_trial_Do [.agg (kW m q (at_ + m) false false [jA at_ inn m x up]).l, stD 2 zCl 0]) = some (.ds [.agg (kW m q (at_ + m + 1) false false []).l, .sl false [evD (at_ + m) 2 0 0, evD (at_ + m) 3 0 x, evD (at_ + m) 8 0 0], rpD 0]) := by
  have tg := tick_donew (at_ + m) 40 (by omega) (twT m q) (twT_ok hm hq) (bW m q) (jA at_ inn m x up) ⟨rfl, ha.1, by simp only [jA]; omega⟩ (by simp [jA]) (by simp only [jA, twT, tsOf]; omega) _ _ good_1 ⟨by simp [twT, tsOf, sets_len], rfl⟩ rfl _ _ good_W10 _ endJ
    (job_Go_K (twT m q) (twT_ok hm hq) (upK (jA at_ inn m x up) (at_ + m) (bW m q).p) m rfl rfl endJ (adds_end m) (by rw [show (cdOf (twT m q) (upK (jA at_ inn m x up) (at_ + ↑m) (bW m q).p).ph).l = adds m from rfl, adds_len]; omega) ⟨by simp [endJ], rfl, rfl⟩ (by decide)) rfl rfl (by decide) (by decide) rfl
  exact step_tick _ _ _ _ tg
theorem tk_turn (hm : 1 ≤ m ∧ m ≤ 9) (hq : 1 ≤ q ∧ q ≤ m) (at_ inn : Int) (ha : -1000 ≤ at_ ∧ at_ ≤ 1000000) (i : Nat) (hi : i < 40) (x : Int) (up : Bool) :
    ∃ up', run kp (.datk f_trial_Do [.agg (kW m q (at_ + i) true false [jA at_ inn i x up]).l, stD 2 zCl 0]) = some (.ds [.agg (kW m q (at_ + i + 1) false false [jB at_ inn 0 inn up']).l, .sl false [evD (at_ + i) 2 0 0, evD (at_ + i) 7 0 0], rpD 0]) := by
  have tg := tick_hit (at_ + i) 40 (by omega) (twT m q) (twT_ok hm hq) (bW m q) (jA at_ inn i x up) ⟨rfl, ha.1, by simp only [jA]; omega⟩ (by simp [jA]) (by simp only [jA, twT, tsOf]; omega) _ _ good_1
  have b : backK (twT m q) (upK (jA at_ inn i x up) (at_ + i) (bW m q).p) = jB at_ inn 0 inn (upK (jA at_ inn i x up) (at_ + i) (bW m q).p).up := by
    simp [backK, upK, jA, jB, twT, tsOf, sets_len]
  rw [b] at tg
  exact ⟨_, step_tick _ _ _ _ tg⟩
theorem tk_set (hm : 1 ≤ m ∧ m ≤ 9) (hq : 1 ≤ q ∧ q ≤ m) (at_ inn : Int) (ha : -1000 ≤ at_ ∧ at_ ≤ 1000000) (n : Nat) (hn : n < 40) (i : Nat) (hi : i < q) (x : Int) (up : Bool) :
    ∃ up', run kp (.datk f_trial_Do [.agg (kW m q (at_ + n) false false [jB at_ inn i x up]).l, stD 2 zCl 0]) = some (.ds [.agg (kW m q (at_ + n + 1) false false [jB at_ inn (i + 1) 7 up']).l, .sl false [evD (at_ + n) 2 0 0], rpD 0]) := by
  have tg := tick_go (at_ + n) 40 (by omega) (twT m q) (twT_ok hm hq) (bW m q) (jB at_ inn i x up) ⟨rfl, ha.1, by simp only [jB]; omega⟩ (by simp [jB]) (by simp only [jB, twT, tsOf]; omega) _ _ good_1 _ setI
    (job_Go_K (twT m q) (twT_ok hm hq) (upK (jB at_ inn i x up) (at_ + n) (bW m q).p) i rfl rfl setI (sets_get q i hi) (by rw [show (cdOf (twT m q) (upK (jB at_ inn i x up) (at_ + ↑n) (bW m q).p).ph).l = sets q from rfl, sets_len]; omega) ⟨by simp [setI], rfl, rfl⟩ (by decide)) rfl (by decide) (by decide)
  exact ⟨_, step_tick _ _ _ _ tg⟩
theorem tk_done (hm : 1 ≤ m ∧ m ≤ 9) (hq : 1 ≤ q ∧ q ≤ m) (at_ inn : Int) (ha : -1000 ≤ at_ ∧ at_ ≤ 1000000) (n : Nat) (hn : n < 40) (x : Int) (up : Bool) :
    run kp (.datk f_trial_Do [.agg (kW m q (at_ + n) false false [jB at_ inn q x up]).l, stD 2 zCl 0]) = some (.ds [.agg (kW m q (at_ + n + 1) false false []).l, .sl false [evD (at_ + n) 2 0 0, evD (at_ + n) 3 0 x], rpD 0]) := by
  have tg := tick_done (at_ + n) 40 (by omega) (twT m q) (twT_ok hm hq) (bW m q) (jB at_ inn q x up) ⟨rfl, ha.1, by simp only [jB]; omega⟩ (by simp [jB]) (by simp only [jB, twT, tsOf]; omega) _ _ good_1 (by simp [jB]) rfl _ _ good_W10 _ endJ
    (job_Go_K (twT m q) (twT_ok hm hq) (upK (jB at_ inn q x up) (at_ + n) (bW m q).p) q rfl rfl endJ (sets_end q) (by rw [show (cdOf (twT m q) (upK (jB at_ inn q x up) (at_ + ↑n) (bW m q).p).ph).l = sets q from rfl, sets_len]; omega) ⟨by simp [endJ], rfl, rfl⟩ (by decide)) rfl rfl (by decide) (by decide) rfl
  exact step_tick _ _ _ _ tg
end Go.Cd
namespace Go.Cd
open Go Go.Fw
structure WOk (m q : Nat) (H : List D) (g : Nat) (u v : Int) : Prop where
  hm : 1 ≤ m ∧ m ≤ 9
  hq : 1 ≤ q ∧ q ≤ m
  hg : g < H.length
  hv : 0 ≤ v ∧ v < 256
  hH : H[g]? = some (.int .u8 v)
  eu : v.tmod 40 = u
  hu : 0 ≤ u ∧ u < 40
variable {m q : Nat} {H : List D} {g : Nat} {u v : Int}
def KL3 : List Nat := [0, 3, 9, 11, 15, 19, 23, 24, 25, 26]
theorem ride (o : WOk m q H g u v) (inn : Int) (hn : Bool) (at_ last : Int) (ha : -1000 ≤ at_ ∧ at_ ≤ 1000000) (fr : Bool) : ∀ (k i : Nat) (jn : Bool), i + k = 40 →
    ∃ jn', run kp (.loop KL3 k_top_TopWays_L3 (w3S inn hn H m q (kW m q (at_ + i) false jn []).l g at_ last fr i [])) = run kp (.loop KL3 k_top_TopWays_L3 (w3S inn hn H m q (kW m q (at_ + 40) false jn' []).l g at_ last fr 40 []))
  | 0, i, jn, h => by
    obtain rfl : i = 40 := by omega
    exact ⟨jn, rfl⟩
  | k + 1, i, jn, h => by
    obtain ⟨jn', ih⟩ := ride o inn hn at_ last ha fr k (i + 1) true (by omega)
    have e : at_ + ((i + 1 : Nat) : Int) = at_ + i + 1 := by omega
    rw [e] at ih
    refine ⟨jn', Eq.trans ?_ ih⟩
    by_cases c : u = (i : Int)
    · exact w3_hitidle inn hn H m q o.hm o.hq g o.hg u v o.hv o.hH o.eu o.hu at_ last fr i (by omega) c _ _ _ (tk_hits o.hm o.hq (at_ + i) jn [] (fun _ => rfl) (by simp)) (tk_none o.hm o.hq (at_ + i) (by omega) true jn)
    · exact w3_idle inn hn H m q o.hm o.hq g o.hg u v o.hv o.hH o.eu o.hu at_ last fr i (by omega) (fun e => c e.symm) _ _ (tk_none o.hm o.hq (at_ + i) (by omega) false jn)
theorem addsPh (o : WOk m q H g u v) (inn : Int) (hn : Bool) (at_ last : Int) (ha : -1000 ≤ at_ ∧ at_ ≤ 1000000) : ∀ (k i : Nat) (up : Bool), i + k ≤ m → (i : Int) + k ≤ u →
    ∃ up', run kp (.loop KL3 k_top_TopWays_L3 (w3S inn hn H m q (kW m q (at_ + i) false false [jA at_ inn i (xW inn i) up]).l g at_ last false i [])) = run kp (.loop KL3 k_top_TopWays_L3 (w3S inn hn H m q (kW m q (at_ + ((i + k : Nat) : Int)) false false [jA at_ inn (i + k) (xW inn (i + k)) up']).l g at_ last false (i + k) []))
  | 0, i, up, _, _ => ⟨up, rfl⟩
  | k + 1, i, up, h, h2 => by
    have hm := o.hm
    obtain ⟨up1, t⟩ := tk_add o.hm o.hq at_ inn ha i (by omega) (xW inn i) up
    rw [xW_succ] at t
    obtain ⟨up', ih⟩ := addsPh o inn hn at_ last ha k (i + 1) up1 (by omega) (by omega)
    have e : at_ + ((i + 1 : Nat) : Int) = at_ + i + 1 := by omega
    rw [e, Nat.add_right_comm i 1 k] at ih
    exact ⟨up', Eq.trans (w3_ran inn hn H m q o.hm o.hq g o.hg u v o.hv o.hH o.eu o.hu at_ last i (by omega) (at_ + i) (by omega) _ _ t) ih⟩
theorem setsPh (o : WOk m q H g u v) (inn : Int) (hn : Bool) (at_ last : Int) (ha : -1000 ≤ at_ ∧ at_ ≤ 1000000) : ∀ (k i n : Nat) (x : Int) (up : Bool), i + k = q → u < (n : Int) → n + k < 40 → (i = 0 ∨ x = 7) →
    ∃ up', run kp (.loop KL3 k_top_TopWays_L3 (w3S inn hn H m q (kW m q (at_ + n) false false [jB at_ inn i x up]).l g at_ last false n [])) = run kp (.loop KL3 k_top_TopWays_L3 (w3S inn hn H m q (kW m q (at_ + ((n + k : Nat) : Int)) false false [jB at_ inn q 7 up']).l g at_ last false (n + k) []))
  | 0, i, n, x, up, h, _, _, hx => by
    have hq := o.hq
    obtain rfl : i = q := by omega
    obtain rfl : x = 7 := by omega
    exact ⟨up, rfl⟩
  | k + 1, i, n, x, up, h, h2, h3, _ => by
    obtain ⟨up1, t⟩ := tk_set o.hm o.hq at_ inn ha n (by omega) i (by omega) x up
    obtain ⟨up', ih⟩ := setsPh o inn hn at_ last ha k (i + 1) (n + 1) 7 up1 (by omega) (by omega) (by omega) (.inr rfl)
    have e : at_ + ((n + 1 : Nat) : Int) = at_ + n + 1 := by omega
    rw [e, Nat.add_right_comm n 1 k] at ih
    exact ⟨up', Eq.trans (w3_ran inn hn H m q o.hm o.hq g o.hg u v o.hv o.hH o.eu o.hu at_ last n (by omega) (at_ + n) (by omega) _ _ t) ih⟩
def lastW (m q : Nat) (u : Int) : Int := if u ≤ m then u + ((q + 1 : Nat) : Int) else (m : Int)
theorem rel_run (o : WOk m q H g u v) (inn : Int) (hi : -9223372036854775808 ≤ inn ∧ inn ≤ 9223372036854775807) (hn : Bool) (at_ : Int) (ha : -1000 ≤ at_ ∧ at_ ≤ 1000000) (up : Bool) :
    ∃ jn', run kp (.loop KL3 k_top_TopWays_L3 (w3S inn hn H m q (kW m q at_ false false [jA at_ inn 0 inn up]).l g at_ (-1) false 0 [])) = run kp (.loop KL3 k_top_TopWays_L3 (w3S inn hn H m q (kW m q (at_ + 40) false jn' []).l g at_ (lastW m q u) (decide ((m : Int) < u)) 40 [])) := by
  have hm := o.hm
  have hq := o.hq
  have hu := o.hu
  have z0 := xW_zero hi
  by_cases c : u ≤ m
  · obtain ⟨uN, rfl⟩ : ∃ n : Nat, u = n := ⟨u.toNat, by omega⟩
    have c' : uN ≤ m := by omega
    obtain ⟨up1, p1⟩ := addsPh o inn hn at_ (-1) ha uN 0 up (by omega) (by omega)
    simp only [Nat.zero_add, Int.natCast_zero, Int.cast_ofNat_Int, Int.add_zero, z0] at p1
    obtain ⟨up2, t2⟩ := tk_turn o.hm o.hq at_ inn ha uN (by omega) (xW inn uN) up1
    have p2 := w3_turn inn hn H m q o.hm o.hq g o.hg uN v o.hv o.hH o.eu o.hu at_ (-1) uN (by omega) (at_ + uN) rfl _ _ _ (tk_hits o.hm o.hq (at_ + uN) false _ (by simp) (by simp)) t2
    obtain ⟨up3, p3⟩ := setsPh o inn hn at_ (-1) ha q 0 (uN + 1) inn up2 (by omega) (by omega) (by omega) (.inl rfl)
    have p4 := w3_done inn hn H m q o.hm o.hq g o.hg uN v o.hv o.hH o.eu o.hu at_ (-1) (uN + 1 + q) (by omega) (at_ + ((uN + 1 + q : Nat) : Int)) (by omega) (by omega) _ _ (tk_done o.hm o.hq at_ inn ha (uN + 1 + q) (by omega) 7 up3)
    obtain ⟨jn', p5⟩ := ride o inn hn at_ ((uN + 1 + q : Nat) : Int) ha false (40 - (uN + 1 + q + 1)) (uN + 1 + q + 1) false (by omega)
    have e1 : at_ + ((uN + 1 : Nat) : Int) = at_ + uN + 1 := by omega
    have e2 : at_ + ((uN + 1 + q + 1 : Nat) : Int) = at_ + ((uN + 1 + q : Nat) : Int) + 1 := by omega
    have e3 : lastW m q uN = ((uN + 1 + q : Nat) : Int) := by simp only [lastW, c, if_true]; omega
    have e4 : decide ((m : Int) < (uN : Int)) = false := by simp; omega
    rw [e1] at p3
    rw [e2] at p5
    rw [e3, e4]
    exact ⟨jn', p1.trans (p2.trans (p3.trans (p4.trans p5)))⟩
  · obtain ⟨up1, p1⟩ := addsPh o inn hn at_ (-1) ha m 0 up (by omega) (by omega)
    simp only [Nat.zero_add, Int.natCast_zero, Int.cast_ofNat_Int, Int.add_zero, z0] at p1
    have p2 := w3_freed inn hn H m q o.hm o.hq g o.hg u v o.hv o.hH o.eu o.hu at_ (-1) m (by omega) (at_ + m) (xW inn m) (by omega) rfl (by omega) _ _ (tk_freed o.hm o.hq at_ inn ha (xW inn m) up1)
    obtain ⟨jn', p5⟩ := ride o inn hn at_ (m : Int) ha true (40 - (m + 1)) (m + 1) false (by omega)
    have e1 : at_ + ((m + 1 : Nat) : Int) = at_ + m + 1 := by omega
    have e3 : lastW m q u = (m : Int) := by simp only [lastW, c, if_false]
    have e4 : decide ((m : Int) < u) = true := by simp; omega
    rw [e1] at p5
    rw [e3, e4]
    exact ⟨jn', p1.trans (p2.trans p5)⟩
set_option maxRecDepth 10000 in
set_option maxHeartbeats 8000000 in
theorem w3_end (inn : Int) (hn : Bool) (H : List D) (m q : Nat) (K : List D) (g : Nat) (at_ last : Int) (fr : Bool) :
    run kp (.loop KL3 k_top_TopWays_L3 (w3S inn hn H m q K g at_ last fr 40 [])) = some (.out (.ext 6) (w3S inn hn H m q K g at_ last fr 40 [(130, .bool false)])) := by
  unfold w3S KL3
  generalize m + 1 = c at *
  generalize q + 1 = w at *
  rw [run_round]
  simp [c_top_TopWays_L3, k_top_TopWays_L3b]
def w2S (inn : Int) (hn : Bool) (H : List D) (m q : Nat) (K : List D) (g : Nat) (ext : Env) : St :=
  ⟨[(0, V.int .i64 inn), (3, V.d (.sl hn H)), (9, V.int .i64 ((m + 1 : Nat) : Int)), (11, V.sl false 0 0 (q + 1)), (15, V.ptr 1 []), (19, V.int .i64 (g : Int))] ++ ext, [(0, Blk.row false ((sets q).map Inst.d)), (1, Blk.box (V.d (.agg K)))], fun _ => none, 0, 2⟩
def KL2 : List Nat := [0, 3, 9, 11, 15, 19]
set_option maxRecDepth 10000 in
set_option maxHeartbeats 8000000 in
theorem w2_round (o : WOk m q H g u v) (inn : Int) (hi : -9223372036854775808 ≤ inn ∧ inn ≤ 9223372036854775807) (hn : Bool) (at_ : Int) (ha : -1000 ≤ at_ ∧ at_ ≤ 1000000) (jn : Bool) (hg2 : g < 1000) :
    ∃ jn', run kp (.loop KL2 k_top_TopWays_L2 (w2S inn hn H m q (kW m q at_ false jn []).l g [])) = run kp (.loop KL2 k_top_TopWays_L2 (w2S inn hn H m q (kW m q (at_ + 40) false jn' []).l (g + 1) [])) := by
  have hm := o.hm
  have hq := o.hq
  have hu := o.hu
  obtain ⟨jn', lp⟩ := rel_run o inn hi hn at_ ha false
  rw [w3_end] at lp
  refine ⟨jn', ?_⟩
  have rl := step_call _ _ _ _ _ _ (do_release at_ 40 (twT m q) (twT_ok hm hq) (bW m q).d false jn inn)
  have pc := play_Call_K 6 (match zT with | .agg l => l | _ => []) 0 inn
  have hg := o.hg
  have hH := o.hH
  have eu := o.eu
  have hH2 : ∀ hh : g < H.length, H[g]'hh = .int .u8 v := fun hh => by rw [List.getElem?_eq_getElem hh] at hH; injection hH
  have w1 : IntKind.i64.wrap u = u := wrap_i64 (by omega) (by omega)
  have w2 : IntKind.i64.wrap ((g : Int) + 1) = ((g + 1 : Nat) : Int) := by rw [wrap_i64 (by omega) (by omega)]; omega
  have w3 : IntKind.i64.wrap ((m + 1 : Nat) - 1 : Int) = (m : Int) := by rw [wrap_i64 (by omega) (by omega)]; omega
  have w4 : IntKind.i64.wrap (u + ((q + 1 : Nat) : Int)) = u + ((q + 1 : Nat) : Int) := wrap_i64 (by omega) (by omega)
  have w5 : IntKind.i64.wrap (at_ + 40) = at_ + 40 := wrap_i64 (by omega) (by omega)
  have es := sets_len q
  have em : ((m + 1 : Nat) : Int) = (m : Int) + 1 := by omega
  by_cases c : u ≤ m
  · have e3 : lastW m q u = u + ((q + 1 : Nat) : Int) := by simp only [lastW, c, if_true]
    have e4 : decide ((m : Int) < u) = false := by simp; omega
    have c1 : u < ((m + 1 : Nat) : Int) := by omega
    have c2 : ¬ ((m + 1 : Nat) : Int) ≤ u := by omega
    rw [e3, e4] at lp
    unfold w2S KL2
    simp only [w3S, KL3, kW, k1, Kn.l, Kn.d, jA, Sj.d, stD, clD, zT, hz, rpD, r1, evD, List.map_cons, List.map_nil, List.nil_append, List.cons_append, Int.cast_ofNat_Int] at lp rl pc ⊢
    generalize (twT m q).d = T at *
    generalize (bW m q).d = B at *
    generalize m + 1 = cc at *
    generalize q + 1 = w at *
    generalize g + 1 = g' at *
    generalize (sets q).map Inst.d = S at *
    rw [run_round]
    simp [c_top_TopWays_L2, k_top_TopWays_L2b, hg, pc, rl, lp, w1, w2, w3, w4, w5, hH, hH2, eu, c1, c2]
  · have e3 : lastW m q u = (m : Int) := by simp only [lastW, c, if_false]
    have e4 : decide ((m : Int) < u) = true := by simp; omega
    have c1 : ¬ u < ((m + 1 : Nat) : Int) := by omega
    have c2 : ((m + 1 : Nat) : Int) ≤ u := by omega
    rw [e3, e4] at lp
    unfold w2S KL2
    simp only [w3S, KL3, kW, k1, Kn.l, Kn.d, jA, Sj.d, stD, clD, zT, hz, rpD, r1, evD, List.map_cons, List.map_nil, List.nil_append, List.cons_append, Int.cast_ofNat_Int] at lp rl pc ⊢
    generalize (twT m q).d = T at *
    generalize (bW m q).d = B at *
    generalize m + 1 = cc at *
    generalize q + 1 = w at *
    generalize g + 1 = g' at *
    generalize (sets q).map Inst.d = S at *
    rw [run_round]
    simp [c_top_TopWays_L2, k_top_TopWays_L2b, hg, pc, rl, lp, w1, w2, w3, w4, w5, hH, hH2, eu, c1, c2]
end Go.Cd
