/- One task is let in; a release of nobody. No conditions. -/
import Derived.Test.YtfddchjmpmjcfaaGreatR8QTwC
import Derived.Test.YtfddchjmpmjcfaaGreatR8QTkF
set_option linter.unusedVariables false
set_option linter.unusedSimpArgs false
namespace Go.Cd
open Go Go.Fw
/-- A task with no optional part. -/
def tsOf (rank per stop : Int) (ml : List Inst) (wn : Bool) (wl : List Inst) : Ts := ⟨rank, per, stop, ⟨false, ml⟩, ⟨wn, wl⟩, ⟨true, []⟩⟩
structure TsOk (rank per stop : Int) (ml : List Inst) (wn : Bool) (wl : List Inst) (c p w : Int) (lo : Nat) : Prop where
  tk : TkOk rank per stop (ml.map Inst.d) wn (wl.map Inst.d) c p w (lo : Int)
  hml : ml.length ≤ 1000
  hwl : wl.length ≤ 1000
  hwn : wn = true → wl = []
  hl : 1 ≤ lo ∧ lo < 24
  hc : 1 ≤ c
  hs : c + lo ≤ stop
variable {rank per stop : Int} {ml : List Inst} {wn : Bool} {wl : List Inst} {c p w : Int} {lo : Nat}
theorem TsOk.ok (h : TsOk rank per stop ml wn wl c p w lo) : (tsOf rank per stop ml wn wl).Ok :=
  ⟨⟨by simp [tsOf], h.hml⟩, ⟨h.hwn, h.hwl⟩, ⟨fun _ => rfl, by simp [tsOf]⟩⟩
set_option maxRecDepth 10000 in
set_option maxHeartbeats 8000000 in
theorem mine_T (t : Ts) (ht : t.Ok) : run kp (.datk f_admit_mine [t.d]) = some (.ds [t.d]) := by
  have c0 := clone_InsK t.main ht.main
  have c1 := clone_InsK t.way ht.way
  have c2 := clone_InsK t.opt ht.opt
  obtain ⟨rank, per, stop, main, way, opt⟩ := t
  simp only [Rw.d] at c0 c1 c2
  rw [run_datk, run_call, kp_admit_mine]
  simp [k_admit_mine, Ts.d, Rw.d, c0, c1, c2]
set_option maxRecDepth 10000 in
set_option maxHeartbeats 16000000 in
theorem In_1 (h : TsOk rank per stop ml wn wl c p w lo) (apart : Int) (ha : c + lo ≤ apart ∧ apart ≤ 100000) :
    run kp (.datk f_admit_In [.sl true [], (tsOf rank per stop ml wn wl).d, .int .i64 apart]) = some (.ds [.sl false [(tsOf rank per stop ml wn wl).d], .sl false [bdD c lo stop], .int .i64 0]) := by
  have tm := task_May_K h.tk
  have al := all_1 h.tk apart h.hl h.hc ha h.hs
  have mt := mine_T _ h.ok
  simp only [tsOf, Ts.d, Rw.d, List.map_nil, tkD] at tm al mt
  rw [run_datk, run_call, kp_admit_In]
  simp [k_admit_In, tsOf, Ts.d, Rw.d, run_round, c_admit_In_L0, k_admit_In_L0b, c_admit_In_L1, k_admit_In_L1b, tm, mt, al, run_call, kp_slices_IndexFunc_api_Task_api_Task, k_slices_IndexFunc_api_Task_api_Task, c_slices_IndexFunc_api_Task_api_Task_L0, k_slices_IndexFunc_api_Task_api_Task_L0b, canK_canH, gOf, hlook, kp_slices_Insert_api_Task_api_Task, k_slices_Insert_api_Task_api_Task, bodyK_nat, natV, insV]
set_option maxRecDepth 10000 in
set_option maxHeartbeats 16000000 in
theorem rel_no (k : Kn) (hk : k.Ok) (x : Int) (hr : k.runs = true → k.halt = false) : run kp (.datk f_kern_Release [k.d, .int .i64 (-1), .int .i64 x]) = some (.ds [k.d, .sl true [], .int .i64 (if k.runs then 3 else 8)]) := by
  have tw := fun tl => twin_K tl k hk
  have j0 := hk.jn
  obtain ⟨now, apart, tasks, bounds, runs, halt, hit, jn, jobs, rows, off⟩ := k
  simp only at hr j0
  simp only [Kn.d, knV, knH] at tw
  rw [run_datk, run_call, kp_kern_Release]
  cases jn with
  | true =>
    simp only [jV, jH, jN] at tw
    have := j0 rfl
    subst this
    simp only [List.map_nil] at tw
    cases runs with
    | true =>
      have := hr rfl
      subst this
      simp [k_kern_Release, Kn.d, tw, canK_canH, gOf, hlook]
    | false => simp [k_kern_Release, Kn.d, tw, canK_canH, gOf, hlook]
  | false =>
    simp only [jV, jH, jN] at tw
    cases runs with
    | true =>
      have := hr rfl
      subst this
      simp [k_kern_Release, Kn.d, tw, canK_canH, gOf, hlook]
    | false => simp [k_kern_Release, Kn.d, tw, canK_canH, gOf, hlook]
theorem mine_K (k : Kn) (hk : k.Ok) (hr : k.runs = true → k.halt = false) : run kp (.datk f_call_mine [k.d]) = some (.ds [k.d]) := by
  have r := rel_no k hk 0 hr
  simp only [Kn.d] at r ⊢
  rw [run_datk, run_call, kp_call_mine]
  simp [k_call_mine, r]
end Go.Cd
