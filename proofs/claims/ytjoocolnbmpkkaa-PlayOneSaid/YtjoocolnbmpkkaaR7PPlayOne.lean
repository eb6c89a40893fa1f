/- The law PlayOne, as the evaluator has it. No conditions. -/
import Derived.Test.YtjoocolnbmpkkaaR7QPlO2
set_option linter.unusedVariables false
set_option linter.unusedSimpArgs false
namespace Go.Cd
open Go Go.Fw
set_option maxRecDepth 10000 in
set_option maxHeartbeats 16000000 in
theorem one_c1 (kind call a at_ gen n v mask rank period stop : Int) (hkind : 0 ≤ kind ∧ kind < 256) (hcall : 0 ≤ call ∧ call < 256) (ha : 0 ≤ a ∧ a < 256) (hat : 0 ≤ at_ ∧ at_ < 256) (hgen : 0 ≤ gen ∧ gen < 256) (hn : 0 ≤ n ∧ n < 65536) (hv : -9223372036854775808 ≤ v ∧ v < 9223372036854775808) (hmask : 0 ≤ mask ∧ mask < 4294967296) (hrank : 0 ≤ rank ∧ rank < 256) (hperiod : 0 ≤ period ∧ period < 4294967296) (hstop : 0 ≤ stop ∧ stop < 4294967296) (A : List D) (an : Bool) (hA : NumOk A 0) (hAl : A.length ≤ 60) (hk : kind.tmod 5 = 0) (hc : call.tmod 11 = 0) :
    ∃ u k, run kp (.call f_law27_PlayOne [.int .u8 kind, .int .u8 call, .int .u8 a, .int .u8 at_, .int .u8 gen, .int .u16 n, .int .i64 v, .int .u32 mask, .int .u8 rank, .int .u32 period, .int .u32 stop, .d (.sl an A)] (fun _ => none) 0) = some (.val (.bool true) u k) := by
  have l1 : ¬ (60 : Int) < A.length := by omega
  have wa : IntKind.i64.wrap a = a := wrap_i64 (by omega) (by omega)
  have wat : IntKind.i64.wrap at_ = at_ := wrap_i64 (by omega) (by omega)
  have wgen : IntKind.i64.wrap gen = gen := wrap_i64 (by omega) (by omega)
  have wn : IntKind.i64.wrap n = n := wrap_i64 (by omega) (by omega)
  have wrank : IntKind.i64.wrap rank = rank := wrap_i64 (by omega) (by omega)
  have wper : IntKind.i64.wrap period = period := wrap_i64 (by omega) (by omega)
  have wstop : IntKind.i64.wrap stop = stop := wrap_i64 (by omega) (by omega)
  have k1 := keep_wildNx A 0
  have wl := wildL_len hA
  have wm := wildL_may hA
  have pk : progOk (wildL A 0) := ⟨by omega, wm⟩
  have pw := prTail_full wm
  obtain ⟨y, W, hW⟩ : ∃ y W, wildL A 0 = y :: W := by
    cases h : wildL A 0 with
    | nil => rw [h] at wl; simp at wl
    | cons y W => exact ⟨y, W, rfl⟩
  have we : (wildL A 0).isEmpty = false := by rw [hW]; rfl
  have nk : progOk [] := ⟨by simp, rfl⟩
  obtain ⟨B, hB, f1, f2, f3⟩ := one_fact (s := ⟨1, { Cl.zero 1 with rank := rank, period := period, stop := stop, main := (false, wildL A 0) }, 0, 0⟩) ⟨⟨by simp, by simp, fun _ => ⟨by simp [Cl.zero], by simp [Cl.zero], fun _ => ⟨pk, nk, nk⟩⟩⟩, by simp [nStep, nCall, skey, ckey, tkey, Cl.zero, rr, noRow, w_b' ha, w_b' hat, w_b' hgen, w_b' hrank, w_2' hn, w_n' hv, w_m' hmask, w_p' hperiod, w_p' hstop]⟩ ⟨by simp [Cl.zero, noRow]; omega, by simp [Cl.zero, noRow], by simp [Cl.zero, noRow]⟩ (14 + 7 * (wildL A 0).length) (by
    simp [stB, callB, restB, hanB, beB_len, Cl.zero, pw, noRow, prB, prTail]
    omega)
  have tk := take_u8 B
  simp [nStep, nCall, Sp.d, Cl.d, Cl.zero, rowD, rr, we, noRow, w_b' ha, w_b' hat, w_b' hgen, w_b' hrank, w_2' hn, w_n' hv, w_m' hmask, w_p' hperiod, w_p' hstop] at f1 f2 f3
  refine wlit _ fun wl0 => ⟨[], 0, ?_⟩
  rw [run_call, kp_law27_PlayOne]
  have w7 : IntKind.i64.wrap (7 * ((wildL A 0).length : Int)) = 7 * ((wildL A 0).length : Int) := wrap_i64 (by omega) (by omega)
  have w8 : IntKind.i64.wrap (14 + 7 * ((wildL A 0).length : Int)) = 14 + 7 * ((wildL A 0).length : Int) := wrap_i64 (by omega) (by omega)
  have hBi : (B.length : Int) = 14 + 7 * ((wildL A 0).length : Int) := by omega
  simp [k_law27_PlayOne, canK_canH, play_begun, wl0, made_call, wild_call, wr_in, hputs_append, k1, hA, l1, hk, hc, wa, wat, wgen, wn, wrank, wper, wstop, f1, f2, f3, hBi, tk, w7, w8, take_map_lenP]
set_option maxHeartbeats 8000000 in
theorem law2_PlayOne (xs : List D) (h : Sh.hasL [.i .u8, .i .u8, .i .u8, .i .u8, .i .u8, .i .u16, .i .i64, .i .u32, .i .u8, .i .u32, .i .u32, .sl (.i .u8)] xs) : ∃ u k, run kp (.call f_law27_PlayOne (xs.map ofD) (fun _ => none) 0) = some (.val (.bool true) u k) := by
  obtain ⟨x0, _, rfl, h0, h⟩ := hasL_cons h
  obtain ⟨x1, _, rfl, h1, h⟩ := hasL_cons h
  obtain ⟨x2, _, rfl, h2, h⟩ := hasL_cons h
  obtain ⟨x3, _, rfl, h3, h⟩ := hasL_cons h
  obtain ⟨x4, _, rfl, h4, h⟩ := hasL_cons h
  obtain ⟨x5, _, rfl, h5, h⟩ := hasL_cons h
  obtain ⟨x6, _, rfl, h6, h⟩ := hasL_cons h
  obtain ⟨x7, _, rfl, h7, h⟩ := hasL_cons h
  obtain ⟨x8, _, rfl, h8, h⟩ := hasL_cons h
  obtain ⟨x9, _, rfl, h9, h⟩ := hasL_cons h
  obtain ⟨x10, _, rfl, h10, h⟩ := hasL_cons h
  obtain ⟨xA, _, rfl, hA, h⟩ := hasL_cons h
  obtain rfl := hasL_nil h
  obtain ⟨kind, rfl, r0⟩ := has_int h0
  have r0 := wf_u8 r0
  obtain ⟨call, rfl, r1⟩ := has_int h1
  have r1 := wf_u8 r1
  obtain ⟨a, rfl, r2⟩ := has_int h2
  have r2 := wf_u8 r2
  obtain ⟨at_, rfl, r3⟩ := has_int h3
  have r3 := wf_u8 r3
  obtain ⟨gen, rfl, r4⟩ := has_int h4
  have r4 := wf_u8 r4
  obtain ⟨n, rfl, r5⟩ := has_int h5
  have r5 := wf_u16 r5
  obtain ⟨v, rfl, r6⟩ := has_int h6
  have r6 := wf_i64 r6
  obtain ⟨mask, rfl, r7⟩ := has_int h7
  have r7 := wf_u32 r7
  obtain ⟨rank, rfl, r8⟩ := has_int h8
  have r8 := wf_u8 r8
  obtain ⟨period, rfl, r9⟩ := has_int h9
  have r9 := wf_u32 r9
  obtain ⟨stop, rfl, r10⟩ := has_int h10
  have r10 := wf_u32 r10
  obtain ⟨an, A, rfl, p1, p2⟩ := has_picks hA
  by_cases g : A.length ≤ 60
  · have hN : NumOk A 0 := ⟨by omega, by omega, by omega, p2⟩
    have t1 : kind.tmod 5 = kind % 5 := Int.tmod_eq_emod_of_nonneg r0.1
    have t2 : call.tmod 11 = call % 11 := Int.tmod_eq_emod_of_nonneg r1.1
    have c1 : kind.tmod 5 = 0 ∨ kind.tmod 5 = 1 ∨ kind.tmod 5 = 2 ∨ kind.tmod 5 = 3 ∨ kind.tmod 5 = 4 := by omega
    have c2 : call.tmod 11 = 0 ∨ call.tmod 11 = 1 ∨ call.tmod 11 = 2 ∨ call.tmod 11 = 3 ∨ call.tmod 11 = 4 ∨ call.tmod 11 = 5 ∨ call.tmod 11 = 6 ∨ call.tmod 11 = 7 ∨ call.tmod 11 = 8 ∨ call.tmod 11 = 9 ∨ call.tmod 11 = 10 := by omega
    clear t1 t2
    rcases c1 with c | c | c | c | c
    · rcases c2 with d | d | d | d | d | d | d | d | d | d | d
      · exact one_c1 kind call a at_ gen n v mask rank period stop r0 r1 r2 r3 r4 r5 r6 r7 r8 r9 r10 A an hN g c d
      · exact one_c2 kind call a at_ gen n v mask rank period stop r0 r1 r2 r3 r4 r5 r6 r7 r8 r9 r10 A an hN g c d
      · exact one_c3 kind call a at_ gen n v mask rank period stop r0 r1 r2 r3 r4 r5 r6 r7 r8 r9 r10 A an hN g c d
      · exact one_c4 kind call a at_ gen n v mask rank period stop r0 r1 r2 r3 r4 r5 r6 r7 r8 r9 r10 A an hN g c d
      · exact one_c5 kind call a at_ gen n v mask rank period stop r0 r1 r2 r3 r4 r5 r6 r7 r8 r9 r10 A an hN g c d
      · exact one_c6 kind call a at_ gen n v mask rank period stop r0 r1 r2 r3 r4 r5 r6 r7 r8 r9 r10 A an hN g c d
      · exact one_c7 kind call a at_ gen n v mask rank period stop r0 r1 r2 r3 r4 r5 r6 r7 r8 r9 r10 A an hN g c d
      · exact one_c8 kind call a at_ gen n v mask rank period stop r0 r1 r2 r3 r4 r5 r6 r7 r8 r9 r10 A an hN g c d
      · exact one_c9 kind call a at_ gen n v mask rank period stop r0 r1 r2 r3 r4 r5 r6 r7 r8 r9 r10 A an hN g c d
      · exact one_c10 kind call a at_ gen n v mask rank period stop r0 r1 r2 r3 r4 r5 r6 r7 r8 r9 r10 A an hN g c d
      · exact one_c11 kind call a at_ gen n v mask rank period stop r0 r1 r2 r3 r4 r5 r6 r7 r8 r9 r10 A an hN g c d
    · exact one_tick kind call a at_ gen n v mask rank period stop r0 r1 r2 r3 r4 r5 r6 r7 r8 r9 r10 A an hN g c
    · exact one_hit kind call a at_ gen n v mask rank period stop r0 r1 r2 r3 r4 r5 r6 r7 r8 r9 r10 A an hN g c
    · exact one_turn kind call a at_ gen n v mask rank period stop r0 r1 r2 r3 r4 r5 r6 r7 r8 r9 r10 A an hN g c
    · exact one_run kind call a at_ gen n v mask rank period stop r0 r1 r2 r3 r4 r5 r6 r7 r8 r9 r10 A an hN g c
  · refine ⟨[], 0, ?_⟩
    rw [run_call, kp_law27_PlayOne]
    have g1 : (60 : Int) < A.length := by omega
    simp [k_law27_PlayOne, canK_canH, play_begun, g1]
end Go.Cd
