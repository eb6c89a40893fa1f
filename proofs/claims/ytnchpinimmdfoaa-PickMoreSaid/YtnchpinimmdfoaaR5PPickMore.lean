/- The law PickMore, as the evaluator has it. No conditions. -/
import Derived.Test.YtnchpinimmdfoaaR5PPickAll
set_option linter.unusedVariables false
set_option linter.unusedSimpArgs false
namespace Go.Cd
open Go Go.Fw
theorem of_le_base (j : Job) (n : Int) (s : List Sema) : ofF j n s ≤ baseF j n := by
  unfold ofF
  split
  · split <;> omega
  · omega
theorem base_le (j : Job) (h0 : 0 ≤ j.task) (h7 : j.task ≤ 7) : baseF j 20 ≤ 47 := by
  unfold baseF
  split
  · rw [wrap_i64 (x := 20 + 20) (by decide) (by decide), wrap_i64 (by omega) (by omega)]; omega
  · split
    · omega
    · rw [wrap_i64 (by omega) (by omega)]; omega
def late : Job := jobOf 19 2 false []
theorem late_band (s : List Sema) : ofF late 20 s = 59 := by
  unfold ofF baseF late jobOf
  simp [lowF]
  decide
theorem more_same (js : List Job) (ss : List Sema) (hm : Made js) (h8 : js.length ≤ 8) (hj : js ≠ []) : fmL (plsOf 20 ss (js ++ [late])) = fmL (plsOf 20 ss js) := by
  have : plsOf 20 ss (js ++ [late]) = plsOf 20 ss js ++ [plOf 20 ss late] := by simp [plsOf]
  rw [this]
  refine fmL_snoc _ _ (by simp [plsOf, hj]) (fun k q hq => ?_)
  simp only [plsOf, List.getElem?_map, Option.map_eq_some_iff] at hq
  obtain ⟨j, hk, rfl⟩ := hq
  obtain ⟨t1, _⟩ := hm k j hk
  have hkl := (List.getElem?_eq_some_iff.1 hk).1
  have b1 := of_le_base j 20 ss
  have b2 := base_le j (by omega) (by omega)
  have b3 := late_band ss
  simp only [plOf, ltP]
  omega
def pmSt (jd sd : List D) (last m : Int) (ex : List (Nat × V)) : St :=
  { env := [(5, .sl false 0 0 jd.length), (6, rV 1 sd), (13, .int .i64 last), (14, .int .i64 m)] ++ ex, hp := (0, .row true jd) :: rH 1 sd, tl := fun _ => none, base := 0, next := 1 + rN sd }
set_option maxHeartbeats 8000000 in
theorem pm_loop (ss : List Sema) (hss : ss.length ≤ 4) : ∀ (m : Nat) (js : List Job), js.length = m → m ≤ 8 → (∀ j ∈ js, j.held.length ≤ maxLen ∧ 0 ≤ j.task) → ∀ (last : Int), (∀ j ∈ js, last ≤ ofF j 20 ss) → ∃ last' : Int,
    run kp (.loop [5, 6, 13, 14] k_law21_PickMore_L0 (pmSt (js.map Job.d) (ss.map Sema.d) last (m : Int) [])) = some (.out (.ext 0) (pmSt [] (ss.map Sema.d) last' 0 [(72, .bool false)]))
  | 0, js, hl, h8, hok, last, hlast => by
    obtain rfl := List.length_eq_zero_iff.1 hl
    refine ⟨last, ?_⟩
    rw [run_round]
    generalize ss.map Sema.d = sd at *
    cases sd <;> simp [c_law21_PickMore_L0, k_law21_PickMore_L0b, pmSt, rV, rH, rN]
  | m + 1, js, hl, h8, hok, last, hlast => by
    have hne : js ≠ [] := by intro e; subst e; simp at hl
    have p1 := pick_Next 20 ss.isEmpty false ss js (by omega) (fun j hj => (hok j hj).1)
    obtain ⟨pm, a1, a2, a3⟩ := fmL_spec (plsOf 20 ss js) (by simp [plsOf, hne])
    generalize fmL (plsOf 20 ss js) = i at *
    obtain ⟨j, hji, hjm⟩ : ∃ j, js[i]? = some j ∧ plOf 20 ss j = pm := by
      simp only [plsOf, List.getElem?_map, Option.map_eq_some_iff] at a1
      exact a1
    have hil := (List.getElem?_eq_some_iff.1 hji).1
    have hjm2 := List.mem_of_getElem? hji
    obtain ⟨o1, o2⟩ := hok j hjm2
    have b := ref19_Band j o1 20 ss.isEmpty ss
    rw [← band_same _ _ _ o2] at b
    have hl1 := hlast j hjm2
    have hsub : ∀ q ∈ js.take i ++ js.drop (i + 1), q ∈ js := fun q hq => by
      rcases List.mem_append.1 hq with hq | hq
      · exact List.mem_of_mem_take hq
      · exact List.mem_of_mem_drop hq
    have hlen : (js.take i ++ js.drop (i + 1)).length = m := by simp; omega
    obtain ⟨last', ih⟩ := pm_loop ss hss m (js.take i ++ js.drop (i + 1)) hlen (by omega) (fun q hq => hok q (hsub q hq)) (ofF j 20 ss) (fun q hq => by
      obtain ⟨k, hk⟩ := List.getElem?_of_mem (hsub q hq)
      have := a2 k (plOf 20 ss q) (by simp only [plsOf, List.getElem?_map, hk]; rfl)
      rw [← hjm] at this
      simp only [plOf, ltP] at this
      omega)
    refine ⟨last', ?_⟩
    have hw : IntKind.i64.wrap (((m + 1 : Nat) : Int) - 1) = (m : Int) := by rw [wrap_i64 (by omega) (by omega)]; omega
    have hw2 : IntKind.i64.wrap ((i : Int) + 1) = ((i + 1 : Nat) : Int) := by rw [wrap_i64 (by omega) (by omega)]; omega
    have hm0 : (0 : Int) < ((m + 1 : Nat) : Int) := by omega
    have hlt : ¬ ofF j 20 ss < last := by omega
    generalize ofF j 20 ss = y at *
    have hd0 : (js.map Job.d)[i]? = some j.d := by rw [List.getElem?_map, hji]; rfl
    have hjl : js.length = (js.map Job.d).length := by simp
    have hje : js.isEmpty = false := by simp [hne]
    have hse : ss.isEmpty = (ss.map Sema.d).isEmpty := by simp
    have hmap : (js.take i ++ js.drop (i + 1)).map Job.d = (js.map Job.d).take i ++ (js.map Job.d).drop (i + 1) := by simp
    have hil2 : i < (js.map Job.d).length := by simpa using hil
    have hl2 : (js.map Job.d).length ≤ 8 := by simp; omega
    rw [hmap] at ih
    rw [hje, hse] at p1
    rw [hse] at b
    clear hje hse hmap hok hlast a1 a2 a3 hsub hlen hjl
    rw [← ih, run_round]
    generalize hjd : js.map Job.d = jd at *
    clear hjd
    generalize ss.map Sema.d = sd at *
    have hget : ∀ hh : i < jd.length, jd[i] = j.d := fun hh => by rw [List.getElem?_eq_getElem hh] at hd0; injection hd0
    have hk2 : (i : Int) < (jd.length : Int) := by omega
    have hk3 : ¬ (jd.length : Int) ≤ (i : Int) := by omega
    have hk4 : ¬ (i : Int) < 0 := by omega
    have hk5 : (i : Int) ≤ (jd.length : Int) := by omega
    have hk6 : ((i + 1 : Nat) : Int) ≤ (jd.length : Int) := by omega
    have hk7 : (0 : Int) ≤ ((i + 1 : Nat) : Int) := by omega
    have hk8 : ((jd.length : Int) - ((i + 1 : Nat) : Int)).toNat = jd.length - (i + 1) := by omega
    have hk9 : i ≤ jd.length := by omega
    have hk10 : i + 1 + (jd.length - (i + 1)) ≤ jd.length := by omega
    have hk11 : ((i + 1 : Nat) : Int).toNat = i + 1 := by omega
    have hk12 : i + (jd.length - (i + 1)) ≤ 1073741824 := by omega
    have tk : List.take (jd.length - (i + 1)) (List.drop (i + 1) jd) = List.drop (i + 1) jd := List.take_of_length_le (by simp)
    have tk2 : (List.take i jd).length = i := by simp; omega
    have hk13 : i ≤ 1073741824 := by omega
    have hk14 : i + 1 ≤ jd.length := by omega
    simp only [Job.d] at hd0 hget b
    generalize ((m + 1 : Nat) : Int) = M at *
    generalize hi1 : i + 1 = i1 at *
    generalize ((i1 : Nat) : Int) = I1 at *
    cases sd <;> simp [-Job.fold] at b p1 <;>
      simp [-Job.fold, Job.d, c_law21_PickMore_L0, k_law21_PickMore_L0b, pmSt, rV, rH, rN, p1, hw, hw2, hm0, hlt, hd0, hget, hk2, hk3, hk4, hk5, hk6, hk7, hk8, hk9, hk10, hk11, hk12, hk13, hk14, b, tk, tk2, List.take_take]
set_option maxHeartbeats 8000000 in
theorem md_loop2c (ns : Bool) (s : List T2) (js : List D) (hjs : js.length ≤ 100) (hs0 : ∀ t ∈ s, 0 ≤ t.a ∧ t.a < 256) : ∀ (d : Nat) (i : Int) (ss : List Sema), i + d = 4 → i = ss.length → (∀ x ∈ ss, 0 ≤ x.ceil) → ∃ ss' : List Sema, (ss'.length ≤ 4 ∧ ∀ x ∈ ss', 0 ≤ x.ceil) ∧
    run kp (.loop [1, 6, 7, 11] k_law21_made_L2 (md2St ns s i [] js (ss.map Sema.d))) = some (.out (.ext 4) (md2St ns s ss'.length [(68, .bool false)] js (ss'.map Sema.d)))
  | 0, i, ss, hd, hi, hc0 => by
    have h8 : i = 4 := by omega
    refine ⟨ss, ⟨by omega, hc0⟩, ?_⟩
    rw [hi]
    have h8' : ss.length = 4 := by omega
    rw [h8', run_round]
    cases js <;> cases hj : ss.map Sema.d <;> by_cases hc : (4 : Int) < s.length <;> simp [c_law21_made_L2, k_law21_made_L2b, md2St, rV, rH, rN, hc]
  | d + 1, i, ss, hd, hi, hc0 => by
    have h0 : 0 ≤ i := by omega
    have h8 : i < 4 := by omega
    have hw : IntKind.i64.wrap (i + 1) = i + 1 := wrap_i64 (by omega) (by omega)
    by_cases hli : i < s.length
    · have hlt : i.toNat < s.length := by omega
      obtain ⟨t, ht⟩ : ∃ t, s[i.toNat]? = some t := ⟨_, List.getElem?_eq_getElem hlt⟩
      have hget : ∀ hh : i.toNat < s.length, s[i.toNat] = t := fun hh => by rw [List.getElem?_eq_getElem hh] at ht; injection ht
      have ht2 := hs0 t (List.mem_of_getElem? ht)
      obtain ⟨ss', m2, e2⟩ := md_loop2c ns s js hjs hs0 d (i + 1) (ss ++ [⟨IntKind.i64.wrap (t.a.tmod 9), IntKind.i64.wrap (t.b.tmod 9)⟩]) (by omega) (by simp; omega) (fun x hx => by
        rcases List.mem_append.1 hx with hx | hx
        · exact hc0 x hx
        · simp only [List.mem_singleton] at hx; subst hx
          show 0 ≤ IntKind.i64.wrap (t.a.tmod 9)
          rw [Int.tmod_eq_emod_of_nonneg ht2.1, wrap_i64 (by omega) (by omega)]; omega)
      refine ⟨ss', m2, ?_⟩
      rw [List.map_append] at e2
      rw [← e2, run_round]
      have hsl : (ss.map Sema.d).length ≤ 100 := by simp; omega
      generalize ss.map Sema.d = sd at *
      cases sd with
      | nil => cases js <;> simp [c_law21_made_L2, k_law21_made_L2b, md2St, rV, rH, rN, h0, h8, hli, hget, hw, T2.d, Sema.d]
      | cons x sd =>
        simp only [List.length_cons] at hsl
        have : sd.length ≤ 1073741822 := by omega
        cases js <;> simp [c_law21_made_L2, k_law21_made_L2b, md2St, rV, rH, rN, h0, h8, hli, hget, hw, T2.d, Sema.d, this]
    · refine ⟨ss, ⟨by omega, hc0⟩, ?_⟩
      rw [← hi, run_round]
      cases js <;> cases hj : ss.map Sema.d <;> simp [c_law21_made_L2, k_law21_made_L2b, md2St, rV, rH, rN, hli]
theorem law21_made2 (nl ns : Bool) (l : List T3) (s : List T2) (hs0 : ∀ t ∈ s, 0 ≤ t.a ∧ t.a < 256) : ∃ (js : List Job) (ss : List Sema), Made js ∧ js.length ≤ 8 ∧ (ss.length ≤ 4 ∧ ∀ x ∈ ss, 0 ≤ x.ceil) ∧
    run kp (.data f_law21_made [.sl nl (l.map T3.d), .sl ns (s.map T2.d)]) = some (.ds [.sl js.isEmpty (js.map Job.d), .sl ss.isEmpty (ss.map Sema.d)]) := by
  obtain ⟨js, m1, m2, e1⟩ := md_loop0 nl ns l s 8 0 [] rfl rfl (fun k j h => by simp at h)
  obtain ⟨ss, n1, e2⟩ := md_loop2c ns s (js.map Job.d) (by simp; omega) hs0 4 0 [] rfl rfl (fun x hx => by cases hx)
  refine ⟨js, ss, m1, m2, n1, ?_⟩
  rw [run_data, run_call, kp_law21_made]
  have hj : js.isEmpty = (js.map Job.d).isEmpty := by simp
  have hs : ss.isEmpty = (ss.map Sema.d).isEmpty := by simp
  rw [hj, hs]
  simp only [List.map_nil] at e1 e2
  generalize js.map Job.d = jd at *
  generalize ss.map Sema.d = sd at *
  cases jd <;> cases sd <;> simp [mdSt, md2St, rV, rH, rN] at e1 e2 <;> simp [k_law21_made, e1, e2, rV, rH, rN]
theorem lowF_nonneg (l : List Sema) (t : Int) (hl : ∀ x ∈ l, 0 ≤ x.ceil) : ∀ (rest seen : List Int) (low : Int) (ok : Bool), 0 ≤ low → 0 ≤ (lowF l t rest seen low ok).1
  | [], _, _, _, h => h
  | s :: r, seen, low, ok, h => by
    have hc : 0 ≤ semaCeil l s := by
      unfold semaCeil semaAt
      by_cases h0 : 0 ≤ s
      · rw [if_pos h0]
        cases hx : l[s.toNat]? with
        | none => simp
        | some x => exact hl x (List.mem_of_getElem? hx)
      · rw [if_neg h0]; simp
    simp only [lowF]
    split
    · split
      · exact lowF_nonneg l t hl r _ _ _ h
      · exact lowF_nonneg l t hl r _ _ _ hc
    · exact lowF_nonneg l t hl r _ _ _ h
theorem of_nonneg (j : Job) (s : List Sema) (hl : ∀ x ∈ s, 0 ≤ x.ceil) (h0 : 0 ≤ j.task) (h7 : j.task ≤ 7) : 0 ≤ ofF j 20 s := by
  have h1 := lowF_nonneg s j.task hl j.held [] 0 false (by decide)
  have h2 : 0 ≤ baseF j 20 := by
    unfold baseF
    split
    · rw [wrap_i64 (x := 20 + 20) (by decide) (by decide), wrap_i64 (by omega) (by omega)]; omega
    · split
      · exact h0
      · rw [wrap_i64 (by omega) (by omega)]; omega
  unfold ofF
  split
  · split <;> omega
  · exact h2
theorem has_t2w {x : D} (h : Sh.has (.ar 2 (.i .u8)) x) : ∃ t : T2, x = t.d ∧ (0 ≤ t.a ∧ t.a < 256) := by
  obtain ⟨l, rfl, h1, h2⟩ := has_ar h
  obtain ⟨m, rfl, hm⟩ := all_typed (f := D.int .u8) (fun y hy => has_int hy) l h2
  match m, h1, hm with
  | [a, b], _, hm => exact ⟨⟨a, b⟩, rfl, wf_u8 (hm a (by simp))⟩
set_option maxHeartbeats 8000000 in
theorem law_PickMore (xs : List D) (h : Sh.hasL [.sl (.ar 3 (.i .u8)), .sl (.ar 2 (.i .u8))] xs) : run kp (.data f_law21_PickMore xs) = some (.ds [.bool true]) := by
  obtain ⟨x1, _, rfl, h1, h⟩ := hasL_cons h
  obtain ⟨x2, _, rfl, h2, h⟩ := hasL_cons h
  obtain rfl := hasL_nil h
  obtain ⟨nl, l, rfl, _, _, k1⟩ := has_sl h1
  obtain ⟨l, rfl, _⟩ := all_typed (f := T3.d) (fun y hy => has_t3 hy) l k1
  obtain ⟨ns, s, rfl, _, _, k2⟩ := has_sl h2
  obtain ⟨s, rfl, hs0⟩ := all_typed (f := T2.d) (fun y hy => has_t2w hy) s k2
  obtain ⟨js, ss, m1, m2, ⟨m3, m4⟩, em⟩ := law21_made2 nl ns l s hs0
  have mo := made_ok m1
  rw [run_data, run_call, kp_law21_PickMore]
  by_cases hj : js = []
  · subst hj
    have hse : ss.isEmpty = (ss.map Sema.d).isEmpty := by simp
    rw [hse] at em
    generalize ss.map Sema.d = sd at *
    simp at em
    cases sd <;> simp at em <;> simp [k_law21_PickMore, pick_begun, em]
  · have p1 := pick_Next 20 ss.isEmpty false ss js (by omega) (fun j hj => (mo j hj).1)
    have p2 := pick_Next 20 ss.isEmpty false ss (js ++ [late]) (by simp; omega) (fun j hj => by
      rcases List.mem_append.1 hj with hj | hj
      · exact (mo j hj).1
      · simp at hj; subst hj; exact small_max (by decide))
    rw [more_same js ss m1 m2 hj] at p2
    have p3 := pick_Next 20 ss.isEmpty false ss [] (by simp) (fun j hj => by cases hj)
    obtain ⟨last', lp⟩ := pm_loop ss m3 js.length js rfl m2 mo (-1) (fun j hj => by
      obtain ⟨k, hk⟩ := List.getElem?_of_mem hj
      obtain ⟨t1, t2⟩ := m1 k j hk
      have hkl := (List.getElem?_eq_some_iff.1 hk).1
      have := of_nonneg j ss m4 (by omega) (by omega)
      omega)
    obtain ⟨m, a1, a2, a3⟩ := fmL_spec (plsOf 20 ss js) (by simp [plsOf, hj])
    have hil : fmL (plsOf 20 ss js) < js.length := by
      have := (List.getElem?_eq_some_iff.1 a1).1
      simpa [plsOf] using this
    generalize fmL (plsOf 20 ss js) = i at *
    have hjl : js.length = (js.map Job.d).length := by simp
    have hje : js.isEmpty = (js.map Job.d).isEmpty := by simp
    have hje2 : (js ++ [late]).isEmpty = false := by simp
    have hje3 : js.isEmpty = false := by simp [hj]
    have hse : ss.isEmpty = (ss.map Sema.d).isEmpty := by simp
    have hmap : (js ++ [late]).map Job.d = js.map Job.d ++ [late.d] := by simp
    rw [hje, hse] at em
    rw [hje3, hse] at p1
    rw [hje2, hse, hmap] at p2
    rw [hse] at p3
    rw [hjl] at lp hil m2
    clear hje hse hje2 hje3 hmap m1 m3 m4 mo a1 a2 a3 hjl
    generalize js.map Job.d = jd at *
    generalize ss.map Sema.d = sd at *
    cases jd with
    | nil => simp at hil
    | cons a jd =>
      have hk2 : (i : Int) < (jd.length : Int) + 1 := by simp only [List.length_cons] at hil; omega
      have hk4 : ¬ (jd.length : Int) + 1 ≤ (i : Int) := by omega
      have hk5 : ¬ (i : Int) < 0 := by omega
      have hk6 : ¬ (jd.length : Int) + 1 = 0 := by omega
      have hk7 : jd.length ≤ 1073741822 := by simp at m2; omega
      have hk8 : jd.length + 1 ≤ 1073741824 := by omega
      simp only [late, jobOf, Job.d, zM_d, zMd] at p2
      have tk : ∀ x : D, List.take (jd.length + 1) (jd ++ [x]) = jd ++ [x] := fun x => List.take_of_length_le (by simp)
      cases sd <;> simp [-Job.fold] at em p1 p2 p3 <;> simp [pmSt, rV, rH, rN] at lp <;>
        simp [-Job.fold, k_law21_PickMore, pick_begun, em, p1, p2, p3, hk2, hk4, hk5, hk6, hk7, hk8, lp, tk, rV, rH, rN, pmSt]
end Go.Cd
