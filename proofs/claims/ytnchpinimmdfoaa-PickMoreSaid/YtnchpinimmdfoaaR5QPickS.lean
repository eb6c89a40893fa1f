/- What made gives. No conditions. -/
import Derived.Test.YtnchpinimmdfoaaR5QPickR
set_option linter.unusedVariables false
set_option linter.unusedSimpArgs false
namespace Go.Cd
open Go Go.Fw
theorem zM_d : zMach.d = zMd := rfl
theorem jobOf_d (i p : Int) (up : Bool) (held : List Int) : (jobOf i p up held).d = .agg [.int .i64 i, .int .i64 0, .int .i64 0, .int .i64 p, zMd, zMd, .sl held.isEmpty (held.map (.int .i64)), .bool up] := rfl
set_option maxHeartbeats 8000000 in
theorem md_step0 (nl ns : Bool) (l : List T3) (s : List T2) (i : Int) (h0 : 0 ≤ i) (h8 : i < 8) (hli : i < l.length) (js : List D) (hjs : js.length ≤ 100) :
    ∃ (p : Int) (up : Bool) (held : List Int), held.length ≤ 3 ∧ run kp (.loop [0, 1, 6, 7, 8] k_law21_made_L0 (mdSt nl ns l s i [] js)) = run kp (.loop [0, 1, 6, 7, 8] k_law21_made_L0 (mdSt nl ns l s (i + 1) [] (js ++ [(jobOf i p up held).d]))) := by
  have hw : IntKind.i64.wrap (i + 1) = i + 1 := wrap_i64 (by omega) (by omega)
  have hlt : i.toNat < l.length := by omega
  obtain ⟨t, ht⟩ : ∃ t, l[i.toNat]? = some t := ⟨_, List.getElem?_eq_getElem hlt⟩
  have hget : ∀ hh : i.toNat < l.length, l[i.toNat] = t := fun hh => by rw [List.getElem?_eq_getElem hh] at ht; injection ht
  obtain ⟨held, hh, l1⟩ := md_loop1 nl ns l s i (IntKind.i64.wrap (t.b.tmod 3)) (decide (t.a.tmod 2 = 1)) h0 hli t hget js hjs
  refine ⟨IntKind.i64.wrap (t.b.tmod 3), decide (t.a.tmod 2 = 1), held, hh, ?_⟩
  rw [run_round, jobOf_d]
  generalize hp : IntKind.i64.wrap (t.b.tmod 3) = p at *
  generalize hu : decide (t.a.tmod 2 = 1) = u at *
  cases js with
  | nil =>
    cases held <;> simp [mdSt1, rV, rH, rN, jbV, jbH, jbN, zMd] at l1 <;> simp [c_law21_made_L0, k_law21_made_L0b, mdSt, rV, rH, rN, zMd, h0, h8, hli, hget, T3.d, hw, hp, hu, l1]
  | cons j js =>
    simp only [List.length_cons] at hjs
    have : js.length ≤ 1073741822 := by omega
    cases held <;> simp [mdSt1, rV, rH, rN, jbV, jbH, jbN, zMd] at l1 <;> simp [c_law21_made_L0, k_law21_made_L0b, mdSt, rV, rH, rN, zMd, h0, h8, hli, hget, T3.d, hw, hp, hu, l1, this]
/-- Jobs as they are made: each stands in its place. -/
def Made (js : List Job) : Prop := ∀ (k : Nat) (j : Job), js[k]? = some j → j.task = k ∧ j.held.length ≤ 3
theorem Made.snoc {js : List Job} (h : Made js) (p : Int) (up : Bool) (held : List Int) (hh : held.length ≤ 3) (i : Int) (hi : i = js.length) : Made (js ++ [jobOf i p up held]) := by
  intro k j hk
  by_cases hlt : k < js.length
  · rw [List.getElem?_append_left hlt] at hk; exact h k j hk
  · rw [List.getElem?_append_right (by omega)] at hk
    have h1 := (List.getElem?_eq_some_iff.1 hk).1
    simp at h1
    have : k = js.length := by omega
    subst this
    simp at hk
    subst hk
    exact ⟨hi, hh⟩
theorem md_loop0 (nl ns : Bool) (l : List T3) (s : List T2) : ∀ (d : Nat) (i : Int) (js : List Job), i + d = 8 → i = js.length → Made js → ∃ js' : List Job, Made js' ∧ js'.length ≤ 8 ∧
    run kp (.loop [0, 1, 6, 7, 8] k_law21_made_L0 (mdSt nl ns l s i [] (js.map Job.d))) = some (.out (.ext 0) (mdSt nl ns l s js'.length [(19, .bool false)] (js'.map Job.d)))
  | 0, i, js, hd, hi, hm => by
    have h8 : i = 8 := by omega
    refine ⟨js, hm, by omega, ?_⟩
    rw [hi]
    have h8' : js.length = 8 := by omega
    rw [h8', run_round]
    cases hj : js.map Job.d <;> by_cases hc : (8 : Int) < l.length <;> simp [c_law21_made_L0, k_law21_made_L0b, mdSt, rV, rH, rN, hc]
  | d + 1, i, js, hd, hi, hm => by
    have h0 : 0 ≤ i := by omega
    have h8 : i < 8 := by omega
    by_cases hli : i < l.length
    · obtain ⟨p, up, held, hh, e⟩ := md_step0 nl ns l s i h0 h8 hli (js.map Job.d) (by simp; omega)
      obtain ⟨js', m1, m2, e2⟩ := md_loop0 nl ns l s d (i + 1) (js ++ [jobOf i p up held]) (by omega) (by simp; omega) (hm.snoc p up held hh i hi)
      rw [List.map_append] at e2
      exact ⟨js', m1, m2, by rw [e]; exact e2⟩
    · refine ⟨js, hm, by omega, ?_⟩
      rw [← hi, run_round]
      cases hj : js.map Job.d <;> simp [c_law21_made_L0, k_law21_made_L0b, mdSt, rV, rH, rN, hli]
def md2St (ns : Bool) (s : List T2) (i : Int) (ex : List (Nat × V)) (js ss : List D) : St :=
  { env := [(1, .asl ns (s.map T2.d)), (6, rV 0 js), (7, rV (rN js) ss), (11, .int .i64 i)] ++ ex, hp := rH 0 js ++ rH (rN js) ss, tl := fun _ => none, base := 0, next := rN js + rN ss }
set_option maxHeartbeats 8000000 in
theorem md_loop2 (ns : Bool) (s : List T2) (js : List D) (hjs : js.length ≤ 100) : ∀ (d : Nat) (i : Int) (ss : List Sema), i + d = 4 → i = ss.length → ∃ ss' : List Sema, ss'.length ≤ 4 ∧
    run kp (.loop [1, 6, 7, 11] k_law21_made_L2 (md2St ns s i [] js (ss.map Sema.d))) = some (.out (.ext 4) (md2St ns s ss'.length [(68, .bool false)] js (ss'.map Sema.d)))
  | 0, i, ss, hd, hi => by
    have h8 : i = 4 := by omega
    refine ⟨ss, by omega, ?_⟩
    rw [hi]
    have h8' : ss.length = 4 := by omega
    rw [h8', run_round]
    cases js <;> cases hj : ss.map Sema.d <;> by_cases hc : (4 : Int) < s.length <;> simp [c_law21_made_L2, k_law21_made_L2b, md2St, rV, rH, rN, hc]
  | d + 1, i, ss, hd, hi => by
    have h0 : 0 ≤ i := by omega
    have h8 : i < 4 := by omega
    have hw : IntKind.i64.wrap (i + 1) = i + 1 := wrap_i64 (by omega) (by omega)
    by_cases hli : i < s.length
    · have hlt : i.toNat < s.length := by omega
      obtain ⟨t, ht⟩ : ∃ t, s[i.toNat]? = some t := ⟨_, List.getElem?_eq_getElem hlt⟩
      have hget : ∀ hh : i.toNat < s.length, s[i.toNat] = t := fun hh => by rw [List.getElem?_eq_getElem hh] at ht; injection ht
      obtain ⟨ss', m2, e2⟩ := md_loop2 ns s js hjs d (i + 1) (ss ++ [⟨IntKind.i64.wrap (t.a.tmod 9), IntKind.i64.wrap (t.b.tmod 9)⟩]) (by omega) (by simp; omega)
      refine ⟨ss', m2, ?_⟩
      rw [List.map_append] at e2
      rw [← e2, run_round]
      have hsl : (ss.map Sema.d).length ≤ 100 := by simp; omega
      generalize ss.map Sema.d = sd at *
      cases sd with
      | nil => cases js <;> simp [c_law21_made_L2, k_law21_made_L2b, md2St, rV, rH, rN, h0, h8, hli, hget, hw, T2.d, Sema.d]
      | cons x sd =>
        simp only [List.length_cons] at hsl
        have : sd.length ≤ 1073741822 := by omega
        cases js <;> simp [c_law21_made_L2, k_law21_made_L2b, md2St, rV, rH, rN, h0, h8, hli, hget, hw, T2.d, Sema.d, this]
    · refine ⟨ss, by omega, ?_⟩
      rw [← hi, run_round]
      cases js <;> cases hj : ss.map Sema.d <;> simp [c_law21_made_L2, k_law21_made_L2b, md2St, rV, rH, rN, hli]
theorem law21_made (nl ns : Bool) (l : List T3) (s : List T2) : ∃ (js : List Job) (ss : List Sema), Made js ∧ js.length ≤ 8 ∧ ss.length ≤ 4 ∧
    run kp (.data f_law21_made [.sl nl (l.map T3.d), .sl ns (s.map T2.d)]) = some (.ds [.sl js.isEmpty (js.map Job.d), .sl ss.isEmpty (ss.map Sema.d)]) := by
  obtain ⟨js, m1, m2, e1⟩ := md_loop0 nl ns l s 8 0 [] rfl rfl (fun k j h => by simp at h)
  obtain ⟨ss, n1, e2⟩ := md_loop2 ns s (js.map Job.d) (by simp; omega) 4 0 [] rfl rfl
  refine ⟨js, ss, m1, m2, n1, ?_⟩
  rw [run_data, run_call, kp_law21_made]
  have hj : js.isEmpty = (js.map Job.d).isEmpty := by simp
  have hs : ss.isEmpty = (ss.map Sema.d).isEmpty := by simp
  rw [hj, hs]
  simp only [List.map_nil] at e1 e2
  generalize js.map Job.d = jd at *
  generalize ss.map Sema.d = sd at *
  cases jd <;> cases sd <;> simp [mdSt, md2St, rV, rH, rN] at e1 e2 <;> simp [k_law21_made, e1, e2, rV, rH, rN]
end Go.Cd
