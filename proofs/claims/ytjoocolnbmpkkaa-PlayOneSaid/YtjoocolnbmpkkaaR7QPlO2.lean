/- Texts of this session in one. No conditions. -/
import Derived.Test.YtjoocolnbmpkkaaR7QPk3
import Derived.Test.YtjoocolnbmpkkaaR7QCodeA
import Derived.Test.YtjoocolnbmpkkaaR7QPlB2
set_option linter.unusedVariables false
set_option linter.unusedSimpArgs false
namespace Go.Cd
open Go Go.Fw
/-! ### What is made may be -/
theorem plain_may {L : List D} {n : Int} (ho : NumOk L n) : mayF (plainI L n) = true := by
  have o1 := nextN_ok ho
  have o2 := nextN_ok o1
  have o3 := nextN_ok o2
  have a := valN_range (m := 3) ho (by omega)
  have b := valN_range (m := 3) o1 (by omega)
  have c := valN_range (m := 9) o3 (by omega)
  have d := valN_range (m := 7) o3 (by omega)
  have e := valN_range (m := 64) o3 (by omega)
  have w1 : IntKind.i64.wrap (valN L (nextN L (nextN L (nextN L n))) 9 - 4) = valN L (nextN L (nextN L (nextN L n))) 9 - 4 := wrap_i64 (by omega) (by omega)
  have w2 : IntKind.i64.wrap (valN L (nextN L (nextN L (nextN L n))) 7 - 3) = valN L (nextN L (nextN L (nextN L n))) 7 - 3 := wrap_i64 (by omega) (by omega)
  have w3 : IntKind.i64.wrap (1 + valN L (nextN L (nextN L (nextN L n))) 64) = 1 + valN L (nextN L (nextN L (nextN L n))) 64 := wrap_i64 (by omega) (by omega)
  unfold plainI
  simp only [w1, w2, w3]
  repeat' split
  all_goals simp [mayF, memB, withB]
  all_goals omega
theorem wildI_may {L : List D} {n : Int} (ho : NumOk L n) : mayF (wildI L n) = true := by
  have o1 := plainN_ok ho
  have o2 := nextN_ok o1
  have o3 := nextN_ok o2
  have a := valN_range (m := 3) o2 (by omega)
  have b := valN_range (m := 5) o2 (by omega)
  have c := valN_range (m := 5) o3 (by omega)
  have d := valN_range (m := 3) o3 (by omega)
  have e := valN_range (m := 2) o2 (by omega)
  have w1 : IntKind.i64.wrap (1 + valN L (nextN L (plainN L n)) 5) = 1 + valN L (nextN L (plainN L n)) 5 := wrap_i64 (by omega) (by omega)
  have w2 : IntKind.i64.wrap (1 + valN L (nextN L (nextN L (plainN L n))) 5) = 1 + valN L (nextN L (nextN L (plainN L n))) 5 := wrap_i64 (by omega) (by omega)
  have w3 : IntKind.i64.wrap (1 + valN L (nextN L (nextN L (plainN L n))) 3) = 1 + valN L (nextN L (nextN L (plainN L n))) 3 := wrap_i64 (by omega) (by omega)
  have p := plain_may ho
  unfold wildI
  simp only [w1, w2, w3]
  repeat' split
  all_goals first | exact p | skip
  all_goals simp [mayF, memB, withB]
  all_goals omega
theorem wildRow_may {L : List D} : ∀ (i : Nat) (n : Int), NumOk L n → (wildRow L i n).all mayF = true
  | 0, _, _ => rfl
  | i + 1, n, ho => by
    simp only [wildRow, List.all_cons, wildI_may ho, Bool.true_and]
    exact wildRow_may i _ (wildN_ok ho)
theorem wildL_may {L : List D} {n : Int} (ho : NumOk L n) : (wildL L n).all mayF = true := by
  unfold wildL
  rw [List.all_append, wildRow_may _ _ (nextN_ok ho)]
  rfl
theorem wildL_len {L : List D} {n : Int} (ho : NumOk L n) : 1 ≤ (wildL L n).length ∧ (wildL L n).length ≤ 12 := by
  have r := valN_range (m := 12) ho (by omega)
  unfold wildL
  rw [List.length_append, wildRow_len]
  simp only [List.length_cons, List.length_nil]
  omega
theorem wildL_put {L : List D} {n : Int} (ho : NumOk L n) : ∃ c, putB (wildL L n) = some c := by
  have l := wildL_len ho
  unfold putB
  rw [if_pos ⟨by omega, wildL_may ho⟩]
  exact ⟨_, rfl⟩
end Go.Cd
namespace Go.Cd
open Go Go.Fw
theorem w_n' {y : Int} (h : -9223372036854775808 ≤ y ∧ y < 9223372036854775808) : IntKind.i64.wrap (IntKind.u64.wrap y % 18446744073709551616) = y := by
  simp only [wi64, wrap_u64_mod]
  omega
theorem w_m' {y : Int} (h : 0 ≤ y ∧ y < 4294967296) : IntKind.u32.wrap (IntKind.u64.wrap y % 4294967296) = y := by
  simp only [wu32, wrap_u64_mod]
  omega
theorem w_p' {y : Int} (h : 0 ≤ y ∧ y < 4294967296) : IntKind.i64.wrap (IntKind.u64.wrap y % 4294967296) = y := by
  simp only [wi64, wrap_u64_mod]
  omega
theorem w_2' {y : Int} (h : 0 ≤ y ∧ y < 65536) : IntKind.i64.wrap (IntKind.u64.wrap y % 65536) = y := by
  simp only [wi64, wrap_u64_mod]
  omega
theorem w_b' {y : Int} (h : 0 ≤ y ∧ y < 256) : IntKind.u8.wrap y = y := u8_id h
theorem wf_u16 {x : Int} (h : (Lit.int .u16 x).wf = true) : 0 ≤ x ∧ x < 65536 := by
  simp [Lit.wf, IntKind.min, IntKind.max, IntKind.bits, IntKind.signed] at h
  omega
theorem wlit (P : Prop) (h : (IntKind.i64.wrap 0 = 0 ∧ IntKind.i64.wrap 1 = 1 ∧ IntKind.i64.wrap 2 = 2 ∧ IntKind.i64.wrap 3 = 3 ∧ IntKind.i64.wrap 4 = 4 ∧ IntKind.i64.wrap 5 = 5 ∧ IntKind.i64.wrap 6 = 6 ∧ IntKind.i64.wrap 7 = 7 ∧ IntKind.i64.wrap 8 = 8 ∧ IntKind.i64.wrap 9 = 9 ∧ IntKind.i64.wrap 10 = 10 ∧ IntKind.i64.wrap 11 = 11) → P) : P := h ⟨rfl, rfl, rfl, rfl, rfl, rfl, rfl, rfl, rfl, rfl, rfl, rfl⟩
theorem one_fact {s : Sp} (hg : SG s) (hc : s.cl.lite) (n : Nat) (hn : (stB s).length = n) : ∃ B : List Int, B.length = n ∧ run kp (.data f_play_Encode [.sl false [s.d]]) = some (.ds [.sl false (B.map u8d)]) ∧ run kp (.dats f_play_Decode [.sl false (B.map u8d)]) = some (.ds [.sl false [(nStep s).d]]) ∧ run kp (.data f_ref27_SameStep [(nStep s).d, s.d]) = some (.ds [.bool true]) := by
  have l := stB_len hc
  refine ⟨stB s, hn, ?_, ?_, ?_⟩
  · have := play_enc (L := [s]) false (by simp) (by simpa using hc) (by simpa using hg)
    rw [List.map_singleton] at this
    rw [this]
    simp only [stBs, List.append_nil, rowU]
    rfl
  · rw [dec_play (stB_ok s) (by omega)]
    have := dec_put hg.1 []
    rw [List.append_nil, show dec [] = [] from rfl] at this
    rw [this]
    rfl
  · rw [ref27_SameStep_eq _ _ (nStep_lite hc).lim, hg.2, eqB_self]
end Go.Cd
namespace Go.Cd
open Go Go.Fw
set_option maxRecDepth 10000 in
set_option maxHeartbeats 16000000 in
theorem one_tick (kind call a at_ gen n v mask rank period stop : Int) (hkind : 0 ≤ kind ∧ kind < 256) (hcall : 0 ≤ call ∧ call < 256) (ha : 0 ≤ a ∧ a < 256) (hat : 0 ≤ at_ ∧ at_ < 256) (hgen : 0 ≤ gen ∧ gen < 256) (hn : 0 ≤ n ∧ n < 65536) (hv : -9223372036854775808 ≤ v ∧ v < 9223372036854775808) (hmask : 0 ≤ mask ∧ mask < 4294967296) (hrank : 0 ≤ rank ∧ rank < 256) (hperiod : 0 ≤ period ∧ period < 4294967296) (hstop : 0 ≤ stop ∧ stop < 4294967296) (A : List D) (an : Bool) (hA : NumOk A 0) (hAl : A.length ≤ 60) (hk : kind.tmod 5 = 1) :
    ∃ u k, run kp (.call f_law27_PlayOne [.int .u8 kind, .int .u8 call, .int .u8 a, .int .u8 at_, .int .u8 gen, .int .u16 n, .int .i64 v, .int .u32 mask, .int .u8 rank, .int .u32 period, .int .u32 stop, .d (.sl an A)] (fun _ => none) 0) = some (.val (.bool true) u k) := by
  have l1 : ¬ (60 : Int) < A.length := by omega
  have wa : IntKind.i64.wrap a = a := wrap_i64 (by omega) (by omega)
  have wat : IntKind.i64.wrap at_ = at_ := wrap_i64 (by omega) (by omega)
  have wgen : IntKind.i64.wrap gen = gen := wrap_i64 (by omega) (by omega)
  have wn : IntKind.i64.wrap n = n := wrap_i64 (by omega) (by omega)
  have wrank : IntKind.i64.wrap rank = rank := wrap_i64 (by omega) (by omega)
  have wper : IntKind.i64.wrap period = period := wrap_i64 (by omega) (by omega)
  have wstop : IntKind.i64.wrap stop = stop := wrap_i64 (by omega) (by omega)
  obtain ⟨B, hB, f1, f2, f3⟩ := one_fact (s := ⟨2, Cl.zero 0, 0, 0⟩) ⟨⟨by simp, by simp, fun h => by simp at h⟩, by simp [nStep, nCall, skey, ckey, tkey, Cl.zero, rr, noRow, w_b' ha, w_b' hat, w_b' hgen, w_b' hrank, w_2' hn, w_n' hv, w_m' hmask, w_p' hperiod, w_p' hstop]⟩ ⟨by simp [Cl.zero, noRow], by simp [Cl.zero, noRow], by simp [Cl.zero, noRow]⟩ 1 (by simp [stB, callB, restB, hanB, beB_len, Cl.zero])
  have tk := take_u8 B
  simp [nStep, nCall, Sp.d, Cl.d, Cl.zero, rowD, noRow, w_b' ha, w_b' hat, w_b' hgen, w_b' hrank, w_2' hn, w_n' hv, w_m' hmask, w_p' hperiod, w_p' hstop] at f1 f2 f3
  refine wlit _ fun wl0 => ⟨[], 0, ?_⟩
  rw [run_call, kp_law27_PlayOne]
  rw [hB] at tk
  simp [k_law27_PlayOne, canK_canH, play_begun, wl0, l1, hk, wa, wat, wgen, wn, wrank, wper, wstop, f1, f2, f3, hB, tk]
set_option maxRecDepth 10000 in
set_option maxHeartbeats 16000000 in
theorem one_hit (kind call a at_ gen n v mask rank period stop : Int) (hkind : 0 ≤ kind ∧ kind < 256) (hcall : 0 ≤ call ∧ call < 256) (ha : 0 ≤ a ∧ a < 256) (hat : 0 ≤ at_ ∧ at_ < 256) (hgen : 0 ≤ gen ∧ gen < 256) (hn : 0 ≤ n ∧ n < 65536) (hv : -9223372036854775808 ≤ v ∧ v < 9223372036854775808) (hmask : 0 ≤ mask ∧ mask < 4294967296) (hrank : 0 ≤ rank ∧ rank < 256) (hperiod : 0 ≤ period ∧ period < 4294967296) (hstop : 0 ≤ stop ∧ stop < 4294967296) (A : List D) (an : Bool) (hA : NumOk A 0) (hAl : A.length ≤ 60) (hk : kind.tmod 5 = 2) :
    ∃ u k, run kp (.call f_law27_PlayOne [.int .u8 kind, .int .u8 call, .int .u8 a, .int .u8 at_, .int .u8 gen, .int .u16 n, .int .i64 v, .int .u32 mask, .int .u8 rank, .int .u32 period, .int .u32 stop, .d (.sl an A)] (fun _ => none) 0) = some (.val (.bool true) u k) := by
  have l1 : ¬ (60 : Int) < A.length := by omega
  have wa : IntKind.i64.wrap a = a := wrap_i64 (by omega) (by omega)
  have wat : IntKind.i64.wrap at_ = at_ := wrap_i64 (by omega) (by omega)
  have wgen : IntKind.i64.wrap gen = gen := wrap_i64 (by omega) (by omega)
  have wn : IntKind.i64.wrap n = n := wrap_i64 (by omega) (by omega)
  have wrank : IntKind.i64.wrap rank = rank := wrap_i64 (by omega) (by omega)
  have wper : IntKind.i64.wrap period = period := wrap_i64 (by omega) (by omega)
  have wstop : IntKind.i64.wrap stop = stop := wrap_i64 (by omega) (by omega)
  obtain ⟨B, hB, f1, f2, f3⟩ := one_fact (s := ⟨3, Cl.zero 0, 0, 0⟩) ⟨⟨by simp, by simp, fun h => by simp at h⟩, by simp [nStep, nCall, skey, ckey, tkey, Cl.zero, rr, noRow, w_b' ha, w_b' hat, w_b' hgen, w_b' hrank, w_2' hn, w_n' hv, w_m' hmask, w_p' hperiod, w_p' hstop]⟩ ⟨by simp [Cl.zero, noRow], by simp [Cl.zero, noRow], by simp [Cl.zero, noRow]⟩ 1 (by simp [stB, callB, restB, hanB, beB_len, Cl.zero])
  have tk := take_u8 B
  simp [nStep, nCall, Sp.d, Cl.d, Cl.zero, rowD, noRow, w_b' ha, w_b' hat, w_b' hgen, w_b' hrank, w_2' hn, w_n' hv, w_m' hmask, w_p' hperiod, w_p' hstop] at f1 f2 f3
  refine wlit _ fun wl0 => ⟨[], 0, ?_⟩
  rw [run_call, kp_law27_PlayOne]
  rw [hB] at tk
  simp [k_law27_PlayOne, canK_canH, play_begun, wl0, l1, hk, wa, wat, wgen, wn, wrank, wper, wstop, f1, f2, f3, hB, tk]
set_option maxRecDepth 10000 in
set_option maxHeartbeats 16000000 in
theorem one_turn (kind call a at_ gen n v mask rank period stop : Int) (hkind : 0 ≤ kind ∧ kind < 256) (hcall : 0 ≤ call ∧ call < 256) (ha : 0 ≤ a ∧ a < 256) (hat : 0 ≤ at_ ∧ at_ < 256) (hgen : 0 ≤ gen ∧ gen < 256) (hn : 0 ≤ n ∧ n < 65536) (hv : -9223372036854775808 ≤ v ∧ v < 9223372036854775808) (hmask : 0 ≤ mask ∧ mask < 4294967296) (hrank : 0 ≤ rank ∧ rank < 256) (hperiod : 0 ≤ period ∧ period < 4294967296) (hstop : 0 ≤ stop ∧ stop < 4294967296) (A : List D) (an : Bool) (hA : NumOk A 0) (hAl : A.length ≤ 60) (hk : kind.tmod 5 = 3) :
    ∃ u k, run kp (.call f_law27_PlayOne [.int .u8 kind, .int .u8 call, .int .u8 a, .int .u8 at_, .int .u8 gen, .int .u16 n, .int .i64 v, .int .u32 mask, .int .u8 rank, .int .u32 period, .int .u32 stop, .d (.sl an A)] (fun _ => none) 0) = some (.val (.bool true) u k) := by
  have l1 : ¬ (60 : Int) < A.length := by omega
  have wa : IntKind.i64.wrap a = a := wrap_i64 (by omega) (by omega)
  have wat : IntKind.i64.wrap at_ = at_ := wrap_i64 (by omega) (by omega)
  have wgen : IntKind.i64.wrap gen = gen := wrap_i64 (by omega) (by omega)
  have wn : IntKind.i64.wrap n = n := wrap_i64 (by omega) (by omega)
  have wrank : IntKind.i64.wrap rank = rank := wrap_i64 (by omega) (by omega)
  have wper : IntKind.i64.wrap period = period := wrap_i64 (by omega) (by omega)
  have wstop : IntKind.i64.wrap stop = stop := wrap_i64 (by omega) (by omega)
  obtain ⟨B, hB, f1, f2, f3⟩ := one_fact (s := ⟨4, Cl.zero 0, a, 0⟩) ⟨⟨by simp, by simp, fun h => by simp at h⟩, by simp [nStep, nCall, skey, ckey, tkey, Cl.zero, rr, noRow, w_b' ha, w_b' hat, w_b' hgen, w_b' hrank, w_2' hn, w_n' hv, w_m' hmask, w_p' hperiod, w_p' hstop]⟩ ⟨by simp [Cl.zero, noRow], by simp [Cl.zero, noRow], by simp [Cl.zero, noRow]⟩ 2 (by simp [stB, callB, restB, hanB, beB_len, Cl.zero])
  have tk := take_u8 B
  simp [nStep, nCall, Sp.d, Cl.d, Cl.zero, rowD, noRow, w_b' ha, w_b' hat, w_b' hgen, w_b' hrank, w_2' hn, w_n' hv, w_m' hmask, w_p' hperiod, w_p' hstop] at f1 f2 f3
  refine wlit _ fun wl0 => ⟨[], 0, ?_⟩
  rw [run_call, kp_law27_PlayOne]
  rw [hB] at tk
  simp [k_law27_PlayOne, canK_canH, play_begun, wl0, l1, hk, wa, wat, wgen, wn, wrank, wper, wstop, f1, f2, f3, hB, tk]
set_option maxRecDepth 10000 in
set_option maxHeartbeats 16000000 in
theorem one_run (kind call a at_ gen n v mask rank period stop : Int) (hkind : 0 ≤ kind ∧ kind < 256) (hcall : 0 ≤ call ∧ call < 256) (ha : 0 ≤ a ∧ a < 256) (hat : 0 ≤ at_ ∧ at_ < 256) (hgen : 0 ≤ gen ∧ gen < 256) (hn : 0 ≤ n ∧ n < 65536) (hv : -9223372036854775808 ≤ v ∧ v < 9223372036854775808) (hmask : 0 ≤ mask ∧ mask < 4294967296) (hrank : 0 ≤ rank ∧ rank < 256) (hperiod : 0 ≤ period ∧ period < 4294967296) (hstop : 0 ≤ stop ∧ stop < 4294967296) (A : List D) (an : Bool) (hA : NumOk A 0) (hAl : A.length ≤ 60) (hk : kind.tmod 5 = 4) :
    ∃ u k, run kp (.call f_law27_PlayOne [.int .u8 kind, .int .u8 call, .int .u8 a, .int .u8 at_, .int .u8 gen, .int .u16 n, .int .i64 v, .int .u32 mask, .int .u8 rank, .int .u32 period, .int .u32 stop, .d (.sl an A)] (fun _ => none) 0) = some (.val (.bool true) u k) := by
  have l1 : ¬ (60 : Int) < A.length := by omega
  have wa : IntKind.i64.wrap a = a := wrap_i64 (by omega) (by omega)
  have wat : IntKind.i64.wrap at_ = at_ := wrap_i64 (by omega) (by omega)
  have wgen : IntKind.i64.wrap gen = gen := wrap_i64 (by omega) (by omega)
  have wn : IntKind.i64.wrap n = n := wrap_i64 (by omega) (by omega)
  have wrank : IntKind.i64.wrap rank = rank := wrap_i64 (by omega) (by omega)
  have wper : IntKind.i64.wrap period = period := wrap_i64 (by omega) (by omega)
  have wstop : IntKind.i64.wrap stop = stop := wrap_i64 (by omega) (by omega)
  obtain ⟨B, hB, f1, f2, f3⟩ := one_fact (s := ⟨5, Cl.zero 0, 0, n⟩) ⟨⟨by simp, by simp, fun h => by simp at h⟩, by simp [nStep, nCall, skey, ckey, tkey, Cl.zero, rr, noRow, w_b' ha, w_b' hat, w_b' hgen, w_b' hrank, w_2' hn, w_n' hv, w_m' hmask, w_p' hperiod, w_p' hstop]⟩ ⟨by simp [Cl.zero, noRow], by simp [Cl.zero, noRow], by simp [Cl.zero, noRow]⟩ 3 (by simp [stB, callB, restB, hanB, beB_len, Cl.zero])
  have tk := take_u8 B
  simp [nStep, nCall, Sp.d, Cl.d, Cl.zero, rowD, noRow, w_b' ha, w_b' hat, w_b' hgen, w_b' hrank, w_2' hn, w_n' hv, w_m' hmask, w_p' hperiod, w_p' hstop] at f1 f2 f3
  refine wlit _ fun wl0 => ⟨[], 0, ?_⟩
  rw [run_call, kp_law27_PlayOne]
  rw [hB] at tk
  simp [k_law27_PlayOne, canK_canH, play_begun, wl0, l1, hk, wa, wat, wgen, wn, wrank, wper, wstop, f1, f2, f3, hB, tk]
end Go.Cd
namespace Go.Cd
open Go Go.Fw
set_option maxRecDepth 10000 in
set_option maxHeartbeats 16000000 in
theorem one_c2 (kind call a at_ gen n v mask rank period stop : Int) (hkind : 0 ≤ kind ∧ kind < 256) (hcall : 0 ≤ call ∧ call < 256) (ha : 0 ≤ a ∧ a < 256) (hat : 0 ≤ at_ ∧ at_ < 256) (hgen : 0 ≤ gen ∧ gen < 256) (hn : 0 ≤ n ∧ n < 65536) (hv : -9223372036854775808 ≤ v ∧ v < 9223372036854775808) (hmask : 0 ≤ mask ∧ mask < 4294967296) (hrank : 0 ≤ rank ∧ rank < 256) (hperiod : 0 ≤ period ∧ period < 4294967296) (hstop : 0 ≤ stop ∧ stop < 4294967296) (A : List D) (an : Bool) (hA : NumOk A 0) (hAl : A.length ≤ 60) (hk : kind.tmod 5 = 0) (hc : call.tmod 11 = 1) :
    ∃ u k, run kp (.call f_law27_PlayOne [.int .u8 kind, .int .u8 call, .int .u8 a, .int .u8 at_, .int .u8 gen, .int .u16 n, .int .i64 v, .int .u32 mask, .int .u8 rank, .int .u32 period, .int .u32 stop, .d (.sl an A)] (fun _ => none) 0) = some (.val (.bool true) u k) := by
  have l1 : ¬ (60 : Int) < A.length := by omega
  have wa : IntKind.i64.wrap a = a := wrap_i64 (by omega) (by omega)
  have wat : IntKind.i64.wrap at_ = at_ := wrap_i64 (by omega) (by omega)
  have wgen : IntKind.i64.wrap gen = gen := wrap_i64 (by omega) (by omega)
  have wn : IntKind.i64.wrap n = n := wrap_i64 (by omega) (by omega)
  have wrank : IntKind.i64.wrap rank = rank := wrap_i64 (by omega) (by omega)
  have wper : IntKind.i64.wrap period = period := wrap_i64 (by omega) (by omega)
  have wstop : IntKind.i64.wrap stop = stop := wrap_i64 (by omega) (by omega)
  obtain ⟨B, hB, f1, f2, f3⟩ := one_fact (s := ⟨1, Cl.zero 2, 0, 0⟩) ⟨⟨by simp, by simp, fun _ => ⟨by simp [Cl.zero], by simp [Cl.zero], fun h => by simp [Cl.zero] at h⟩⟩, by simp [nStep, nCall, skey, ckey, tkey, Cl.zero, rr, noRow, w_b' ha, w_b' hat, w_b' hgen, w_b' hrank, w_2' hn, w_n' hv, w_m' hmask, w_p' hperiod, w_p' hstop]⟩ ⟨by simp [Cl.zero, noRow], by simp [Cl.zero, noRow], by simp [Cl.zero, noRow]⟩ 2 (by simp [stB, callB, restB, hanB, beB_len, Cl.zero])
  have tk := take_u8 B
  simp [nStep, nCall, Sp.d, Cl.d, Cl.zero, rowD, noRow, w_b' ha, w_b' hat, w_b' hgen, w_b' hrank, w_2' hn, w_n' hv, w_m' hmask, w_p' hperiod, w_p' hstop] at f1 f2 f3
  refine wlit _ fun wl0 => ⟨[], 0, ?_⟩
  rw [run_call, kp_law27_PlayOne]
  rw [hB] at tk
  simp [k_law27_PlayOne, canK_canH, play_begun, wl0, l1, hk, hc, wa, wat, wgen, wn, wrank, wper, wstop, f1, f2, f3, hB, tk]
set_option maxRecDepth 10000 in
set_option maxHeartbeats 16000000 in
theorem one_c3 (kind call a at_ gen n v mask rank period stop : Int) (hkind : 0 ≤ kind ∧ kind < 256) (hcall : 0 ≤ call ∧ call < 256) (ha : 0 ≤ a ∧ a < 256) (hat : 0 ≤ at_ ∧ at_ < 256) (hgen : 0 ≤ gen ∧ gen < 256) (hn : 0 ≤ n ∧ n < 65536) (hv : -9223372036854775808 ≤ v ∧ v < 9223372036854775808) (hmask : 0 ≤ mask ∧ mask < 4294967296) (hrank : 0 ≤ rank ∧ rank < 256) (hperiod : 0 ≤ period ∧ period < 4294967296) (hstop : 0 ≤ stop ∧ stop < 4294967296) (A : List D) (an : Bool) (hA : NumOk A 0) (hAl : A.length ≤ 60) (hk : kind.tmod 5 = 0) (hc : call.tmod 11 = 2) :
    ∃ u k, run kp (.call f_law27_PlayOne [.int .u8 kind, .int .u8 call, .int .u8 a, .int .u8 at_, .int .u8 gen, .int .u16 n, .int .i64 v, .int .u32 mask, .int .u8 rank, .int .u32 period, .int .u32 stop, .d (.sl an A)] (fun _ => none) 0) = some (.val (.bool true) u k) := by
  have l1 : ¬ (60 : Int) < A.length := by omega
  have wa : IntKind.i64.wrap a = a := wrap_i64 (by omega) (by omega)
  have wat : IntKind.i64.wrap at_ = at_ := wrap_i64 (by omega) (by omega)
  have wgen : IntKind.i64.wrap gen = gen := wrap_i64 (by omega) (by omega)
  have wn : IntKind.i64.wrap n = n := wrap_i64 (by omega) (by omega)
  have wrank : IntKind.i64.wrap rank = rank := wrap_i64 (by omega) (by omega)
  have wper : IntKind.i64.wrap period = period := wrap_i64 (by omega) (by omega)
  have wstop : IntKind.i64.wrap stop = stop := wrap_i64 (by omega) (by omega)
  obtain ⟨B, hB, f1, f2, f3⟩ := one_fact (s := ⟨1, Cl.zero 3, 0, 0⟩) ⟨⟨by simp, by simp, fun _ => ⟨by simp [Cl.zero], by simp [Cl.zero], fun h => by simp [Cl.zero] at h⟩⟩, by simp [nStep, nCall, skey, ckey, tkey, Cl.zero, rr, noRow, w_b' ha, w_b' hat, w_b' hgen, w_b' hrank, w_2' hn, w_n' hv, w_m' hmask, w_p' hperiod, w_p' hstop]⟩ ⟨by simp [Cl.zero, noRow], by simp [Cl.zero, noRow], by simp [Cl.zero, noRow]⟩ 2 (by simp [stB, callB, restB, hanB, beB_len, Cl.zero])
  have tk := take_u8 B
  simp [nStep, nCall, Sp.d, Cl.d, Cl.zero, rowD, noRow, w_b' ha, w_b' hat, w_b' hgen, w_b' hrank, w_2' hn, w_n' hv, w_m' hmask, w_p' hperiod, w_p' hstop] at f1 f2 f3
  refine wlit _ fun wl0 => ⟨[], 0, ?_⟩
  rw [run_call, kp_law27_PlayOne]
  rw [hB] at tk
  simp [k_law27_PlayOne, canK_canH, play_begun, wl0, l1, hk, hc, wa, wat, wgen, wn, wrank, wper, wstop, f1, f2, f3, hB, tk]
set_option maxRecDepth 10000 in
set_option maxHeartbeats 16000000 in
theorem one_c4 (kind call a at_ gen n v mask rank period stop : Int) (hkind : 0 ≤ kind ∧ kind < 256) (hcall : 0 ≤ call ∧ call < 256) (ha : 0 ≤ a ∧ a < 256) (hat : 0 ≤ at_ ∧ at_ < 256) (hgen : 0 ≤ gen ∧ gen < 256) (hn : 0 ≤ n ∧ n < 65536) (hv : -9223372036854775808 ≤ v ∧ v < 9223372036854775808) (hmask : 0 ≤ mask ∧ mask < 4294967296) (hrank : 0 ≤ rank ∧ rank < 256) (hperiod : 0 ≤ period ∧ period < 4294967296) (hstop : 0 ≤ stop ∧ stop < 4294967296) (A : List D) (an : Bool) (hA : NumOk A 0) (hAl : A.length ≤ 60) (hk : kind.tmod 5 = 0) (hc : call.tmod 11 = 3) :
    ∃ u k, run kp (.call f_law27_PlayOne [.int .u8 kind, .int .u8 call, .int .u8 a, .int .u8 at_, .int .u8 gen, .int .u16 n, .int .i64 v, .int .u32 mask, .int .u8 rank, .int .u32 period, .int .u32 stop, .d (.sl an A)] (fun _ => none) 0) = some (.val (.bool true) u k) := by
  have l1 : ¬ (60 : Int) < A.length := by omega
  have wa : IntKind.i64.wrap a = a := wrap_i64 (by omega) (by omega)
  have wat : IntKind.i64.wrap at_ = at_ := wrap_i64 (by omega) (by omega)
  have wgen : IntKind.i64.wrap gen = gen := wrap_i64 (by omega) (by omega)
  have wn : IntKind.i64.wrap n = n := wrap_i64 (by omega) (by omega)
  have wrank : IntKind.i64.wrap rank = rank := wrap_i64 (by omega) (by omega)
  have wper : IntKind.i64.wrap period = period := wrap_i64 (by omega) (by omega)
  have wstop : IntKind.i64.wrap stop = stop := wrap_i64 (by omega) (by omega)
  obtain ⟨B, hB, f1, f2, f3⟩ := one_fact (s := ⟨1, Cl.zero 4, 0, 0⟩) ⟨⟨by simp, by simp, fun _ => ⟨by simp [Cl.zero], by simp [Cl.zero], fun h => by simp [Cl.zero] at h⟩⟩, by simp [nStep, nCall, skey, ckey, tkey, Cl.zero, rr, noRow, w_b' ha, w_b' hat, w_b' hgen, w_b' hrank, w_2' hn, w_n' hv, w_m' hmask, w_p' hperiod, w_p' hstop]⟩ ⟨by simp [Cl.zero, noRow], by simp [Cl.zero, noRow], by simp [Cl.zero, noRow]⟩ 2 (by simp [stB, callB, restB, hanB, beB_len, Cl.zero])
  have tk := take_u8 B
  simp [nStep, nCall, Sp.d, Cl.d, Cl.zero, rowD, noRow, w_b' ha, w_b' hat, w_b' hgen, w_b' hrank, w_2' hn, w_n' hv, w_m' hmask, w_p' hperiod, w_p' hstop] at f1 f2 f3
  refine wlit _ fun wl0 => ⟨[], 0, ?_⟩
  rw [run_call, kp_law27_PlayOne]
  rw [hB] at tk
  simp [k_law27_PlayOne, canK_canH, play_begun, wl0, l1, hk, hc, wa, wat, wgen, wn, wrank, wper, wstop, f1, f2, f3, hB, tk]
set_option maxRecDepth 10000 in
set_option maxHeartbeats 16000000 in
theorem one_c5 (kind call a at_ gen n v mask rank period stop : Int) (hkind : 0 ≤ kind ∧ kind < 256) (hcall : 0 ≤ call ∧ call < 256) (ha : 0 ≤ a ∧ a < 256) (hat : 0 ≤ at_ ∧ at_ < 256) (hgen : 0 ≤ gen ∧ gen < 256) (hn : 0 ≤ n ∧ n < 65536) (hv : -9223372036854775808 ≤ v ∧ v < 9223372036854775808) (hmask : 0 ≤ mask ∧ mask < 4294967296) (hrank : 0 ≤ rank ∧ rank < 256) (hperiod : 0 ≤ period ∧ period < 4294967296) (hstop : 0 ≤ stop ∧ stop < 4294967296) (A : List D) (an : Bool) (hA : NumOk A 0) (hAl : A.length ≤ 60) (hk : kind.tmod 5 = 0) (hc : call.tmod 11 = 4) :
    ∃ u k, run kp (.call f_law27_PlayOne [.int .u8 kind, .int .u8 call, .int .u8 a, .int .u8 at_, .int .u8 gen, .int .u16 n, .int .i64 v, .int .u32 mask, .int .u8 rank, .int .u32 period, .int .u32 stop, .d (.sl an A)] (fun _ => none) 0) = some (.val (.bool true) u k) := by
  have l1 : ¬ (60 : Int) < A.length := by omega
  have wa : IntKind.i64.wrap a = a := wrap_i64 (by omega) (by omega)
  have wat : IntKind.i64.wrap at_ = at_ := wrap_i64 (by omega) (by omega)
  have wgen : IntKind.i64.wrap gen = gen := wrap_i64 (by omega) (by omega)
  have wn : IntKind.i64.wrap n = n := wrap_i64 (by omega) (by omega)
  have wrank : IntKind.i64.wrap rank = rank := wrap_i64 (by omega) (by omega)
  have wper : IntKind.i64.wrap period = period := wrap_i64 (by omega) (by omega)
  have wstop : IntKind.i64.wrap stop = stop := wrap_i64 (by omega) (by omega)
  obtain ⟨B, hB, f1, f2, f3⟩ := one_fact (s := ⟨1, Cl.zero 5, 0, 0⟩) ⟨⟨by simp, by simp, fun _ => ⟨by simp [Cl.zero], by simp [Cl.zero], fun h => by simp [Cl.zero] at h⟩⟩, by simp [nStep, nCall, skey, ckey, tkey, Cl.zero, rr, noRow, w_b' ha, w_b' hat, w_b' hgen, w_b' hrank, w_2' hn, w_n' hv, w_m' hmask, w_p' hperiod, w_p' hstop]⟩ ⟨by simp [Cl.zero, noRow], by simp [Cl.zero, noRow], by simp [Cl.zero, noRow]⟩ 2 (by simp [stB, callB, restB, hanB, beB_len, Cl.zero])
  have tk := take_u8 B
  simp [nStep, nCall, Sp.d, Cl.d, Cl.zero, rowD, noRow, w_b' ha, w_b' hat, w_b' hgen, w_b' hrank, w_2' hn, w_n' hv, w_m' hmask, w_p' hperiod, w_p' hstop] at f1 f2 f3
  refine wlit _ fun wl0 => ⟨[], 0, ?_⟩
  rw [run_call, kp_law27_PlayOne]
  rw [hB] at tk
  simp [k_law27_PlayOne, canK_canH, play_begun, wl0, l1, hk, hc, wa, wat, wgen, wn, wrank, wper, wstop, f1, f2, f3, hB, tk]
set_option maxRecDepth 10000 in
set_option maxHeartbeats 16000000 in
theorem one_c6 (kind call a at_ gen n v mask rank period stop : Int) (hkind : 0 ≤ kind ∧ kind < 256) (hcall : 0 ≤ call ∧ call < 256) (ha : 0 ≤ a ∧ a < 256) (hat : 0 ≤ at_ ∧ at_ < 256) (hgen : 0 ≤ gen ∧ gen < 256) (hn : 0 ≤ n ∧ n < 65536) (hv : -9223372036854775808 ≤ v ∧ v < 9223372036854775808) (hmask : 0 ≤ mask ∧ mask < 4294967296) (hrank : 0 ≤ rank ∧ rank < 256) (hperiod : 0 ≤ period ∧ period < 4294967296) (hstop : 0 ≤ stop ∧ stop < 4294967296) (A : List D) (an : Bool) (hA : NumOk A 0) (hAl : A.length ≤ 60) (hk : kind.tmod 5 = 0) (hc : call.tmod 11 = 5) :
    ∃ u k, run kp (.call f_law27_PlayOne [.int .u8 kind, .int .u8 call, .int .u8 a, .int .u8 at_, .int .u8 gen, .int .u16 n, .int .i64 v, .int .u32 mask, .int .u8 rank, .int .u32 period, .int .u32 stop, .d (.sl an A)] (fun _ => none) 0) = some (.val (.bool true) u k) := by
  have l1 : ¬ (60 : Int) < A.length := by omega
  have wa : IntKind.i64.wrap a = a := wrap_i64 (by omega) (by omega)
  have wat : IntKind.i64.wrap at_ = at_ := wrap_i64 (by omega) (by omega)
  have wgen : IntKind.i64.wrap gen = gen := wrap_i64 (by omega) (by omega)
  have wn : IntKind.i64.wrap n = n := wrap_i64 (by omega) (by omega)
  have wrank : IntKind.i64.wrap rank = rank := wrap_i64 (by omega) (by omega)
  have wper : IntKind.i64.wrap period = period := wrap_i64 (by omega) (by omega)
  have wstop : IntKind.i64.wrap stop = stop := wrap_i64 (by omega) (by omega)
  obtain ⟨B, hB, f1, f2, f3⟩ := one_fact (s := ⟨1, { Cl.zero 6 with a := a, n := v }, 0, 0⟩) ⟨⟨by simp, by simp, fun _ => ⟨by simp [Cl.zero], by simp [Cl.zero], fun h => by simp [Cl.zero] at h⟩⟩, by simp [nStep, nCall, skey, ckey, tkey, Cl.zero, rr, noRow, w_b' ha, w_b' hat, w_b' hgen, w_b' hrank, w_2' hn, w_n' hv, w_m' hmask, w_p' hperiod, w_p' hstop]⟩ ⟨by simp [Cl.zero, noRow], by simp [Cl.zero, noRow], by simp [Cl.zero, noRow]⟩ 11 (by simp [stB, callB, restB, hanB, beB_len, Cl.zero])
  have tk := take_u8 B
  simp [nStep, nCall, Sp.d, Cl.d, Cl.zero, rowD, noRow, w_b' ha, w_b' hat, w_b' hgen, w_b' hrank, w_2' hn, w_n' hv, w_m' hmask, w_p' hperiod, w_p' hstop] at f1 f2 f3
  refine wlit _ fun wl0 => ⟨[], 0, ?_⟩
  rw [run_call, kp_law27_PlayOne]
  rw [hB] at tk
  simp [k_law27_PlayOne, canK_canH, play_begun, wl0, l1, hk, hc, wa, wat, wgen, wn, wrank, wper, wstop, f1, f2, f3, hB, tk]
set_option maxRecDepth 10000 in
set_option maxHeartbeats 16000000 in
theorem one_c7 (kind call a at_ gen n v mask rank period stop : Int) (hkind : 0 ≤ kind ∧ kind < 256) (hcall : 0 ≤ call ∧ call < 256) (ha : 0 ≤ a ∧ a < 256) (hat : 0 ≤ at_ ∧ at_ < 256) (hgen : 0 ≤ gen ∧ gen < 256) (hn : 0 ≤ n ∧ n < 65536) (hv : -9223372036854775808 ≤ v ∧ v < 9223372036854775808) (hmask : 0 ≤ mask ∧ mask < 4294967296) (hrank : 0 ≤ rank ∧ rank < 256) (hperiod : 0 ≤ period ∧ period < 4294967296) (hstop : 0 ≤ stop ∧ stop < 4294967296) (A : List D) (an : Bool) (hA : NumOk A 0) (hAl : A.length ≤ 60) (hk : kind.tmod 5 = 0) (hc : call.tmod 11 = 6) :
    ∃ u k, run kp (.call f_law27_PlayOne [.int .u8 kind, .int .u8 call, .int .u8 a, .int .u8 at_, .int .u8 gen, .int .u16 n, .int .i64 v, .int .u32 mask, .int .u8 rank, .int .u32 period, .int .u32 stop, .d (.sl an A)] (fun _ => none) 0) = some (.val (.bool true) u k) := by
  have l1 : ¬ (60 : Int) < A.length := by omega
  have wa : IntKind.i64.wrap a = a := wrap_i64 (by omega) (by omega)
  have wat : IntKind.i64.wrap at_ = at_ := wrap_i64 (by omega) (by omega)
  have wgen : IntKind.i64.wrap gen = gen := wrap_i64 (by omega) (by omega)
  have wn : IntKind.i64.wrap n = n := wrap_i64 (by omega) (by omega)
  have wrank : IntKind.i64.wrap rank = rank := wrap_i64 (by omega) (by omega)
  have wper : IntKind.i64.wrap period = period := wrap_i64 (by omega) (by omega)
  have wstop : IntKind.i64.wrap stop = stop := wrap_i64 (by omega) (by omega)
  obtain ⟨B, hB, f1, f2, f3⟩ := one_fact (s := ⟨1, { Cl.zero 7 with at_ := at_, gen := gen, n := v }, 0, 0⟩) ⟨⟨by simp, by simp, fun _ => ⟨by simp [Cl.zero], by simp [Cl.zero], fun h => by simp [Cl.zero] at h⟩⟩, by simp [nStep, nCall, skey, ckey, tkey, Cl.zero, rr, noRow, w_b' ha, w_b' hat, w_b' hgen, w_b' hrank, w_2' hn, w_n' hv, w_m' hmask, w_p' hperiod, w_p' hstop]⟩ ⟨by simp [Cl.zero, noRow], by simp [Cl.zero, noRow], by simp [Cl.zero, noRow]⟩ 12 (by simp [stB, callB, restB, hanB, beB_len, Cl.zero])
  have tk := take_u8 B
  simp [nStep, nCall, Sp.d, Cl.d, Cl.zero, rowD, noRow, w_b' ha, w_b' hat, w_b' hgen, w_b' hrank, w_2' hn, w_n' hv, w_m' hmask, w_p' hperiod, w_p' hstop] at f1 f2 f3
  refine wlit _ fun wl0 => ⟨[], 0, ?_⟩
  rw [run_call, kp_law27_PlayOne]
  rw [hB] at tk
  simp [k_law27_PlayOne, canK_canH, play_begun, wl0, l1, hk, hc, wa, wat, wgen, wn, wrank, wper, wstop, f1, f2, f3, hB, tk]
set_option maxRecDepth 10000 in
set_option maxHeartbeats 16000000 in
theorem one_c8 (kind call a at_ gen n v mask rank period stop : Int) (hkind : 0 ≤ kind ∧ kind < 256) (hcall : 0 ≤ call ∧ call < 256) (ha : 0 ≤ a ∧ a < 256) (hat : 0 ≤ at_ ∧ at_ < 256) (hgen : 0 ≤ gen ∧ gen < 256) (hn : 0 ≤ n ∧ n < 65536) (hv : -9223372036854775808 ≤ v ∧ v < 9223372036854775808) (hmask : 0 ≤ mask ∧ mask < 4294967296) (hrank : 0 ≤ rank ∧ rank < 256) (hperiod : 0 ≤ period ∧ period < 4294967296) (hstop : 0 ≤ stop ∧ stop < 4294967296) (A : List D) (an : Bool) (hA : NumOk A 0) (hAl : A.length ≤ 60) (hk : kind.tmod 5 = 0) (hc : call.tmod 11 = 7) :
    ∃ u k, run kp (.call f_law27_PlayOne [.int .u8 kind, .int .u8 call, .int .u8 a, .int .u8 at_, .int .u8 gen, .int .u16 n, .int .i64 v, .int .u32 mask, .int .u8 rank, .int .u32 period, .int .u32 stop, .d (.sl an A)] (fun _ => none) 0) = some (.val (.bool true) u k) := by
  have l1 : ¬ (60 : Int) < A.length := by omega
  have wa : IntKind.i64.wrap a = a := wrap_i64 (by omega) (by omega)
  have wat : IntKind.i64.wrap at_ = at_ := wrap_i64 (by omega) (by omega)
  have wgen : IntKind.i64.wrap gen = gen := wrap_i64 (by omega) (by omega)
  have wn : IntKind.i64.wrap n = n := wrap_i64 (by omega) (by omega)
  have wrank : IntKind.i64.wrap rank = rank := wrap_i64 (by omega) (by omega)
  have wper : IntKind.i64.wrap period = period := wrap_i64 (by omega) (by omega)
  have wstop : IntKind.i64.wrap stop = stop := wrap_i64 (by omega) (by omega)
  obtain ⟨B, hB, f1, f2, f3⟩ := one_fact (s := ⟨1, { Cl.zero 8 with at_ := at_, gen := gen, a := a }, 0, 0⟩) ⟨⟨by simp, by simp, fun _ => ⟨by simp [Cl.zero], by simp [Cl.zero], fun h => by simp [Cl.zero] at h⟩⟩, by simp [nStep, nCall, skey, ckey, tkey, Cl.zero, rr, noRow, w_b' ha, w_b' hat, w_b' hgen, w_b' hrank, w_2' hn, w_n' hv, w_m' hmask, w_p' hperiod, w_p' hstop]⟩ ⟨by simp [Cl.zero, noRow], by simp [Cl.zero, noRow], by simp [Cl.zero, noRow]⟩ 5 (by simp [stB, callB, restB, hanB, beB_len, Cl.zero])
  have tk := take_u8 B
  simp [nStep, nCall, Sp.d, Cl.d, Cl.zero, rowD, noRow, w_b' ha, w_b' hat, w_b' hgen, w_b' hrank, w_2' hn, w_n' hv, w_m' hmask, w_p' hperiod, w_p' hstop] at f1 f2 f3
  refine wlit _ fun wl0 => ⟨[], 0, ?_⟩
  rw [run_call, kp_law27_PlayOne]
  rw [hB] at tk
  simp [k_law27_PlayOne, canK_canH, play_begun, wl0, l1, hk, hc, wa, wat, wgen, wn, wrank, wper, wstop, f1, f2, f3, hB, tk]
set_option maxRecDepth 10000 in
set_option maxHeartbeats 16000000 in
theorem one_c9 (kind call a at_ gen n v mask rank period stop : Int) (hkind : 0 ≤ kind ∧ kind < 256) (hcall : 0 ≤ call ∧ call < 256) (ha : 0 ≤ a ∧ a < 256) (hat : 0 ≤ at_ ∧ at_ < 256) (hgen : 0 ≤ gen ∧ gen < 256) (hn : 0 ≤ n ∧ n < 65536) (hv : -9223372036854775808 ≤ v ∧ v < 9223372036854775808) (hmask : 0 ≤ mask ∧ mask < 4294967296) (hrank : 0 ≤ rank ∧ rank < 256) (hperiod : 0 ≤ period ∧ period < 4294967296) (hstop : 0 ≤ stop ∧ stop < 4294967296) (A : List D) (an : Bool) (hA : NumOk A 0) (hAl : A.length ≤ 60) (hk : kind.tmod 5 = 0) (hc : call.tmod 11 = 8) :
    ∃ u k, run kp (.call f_law27_PlayOne [.int .u8 kind, .int .u8 call, .int .u8 a, .int .u8 at_, .int .u8 gen, .int .u16 n, .int .i64 v, .int .u32 mask, .int .u8 rank, .int .u32 period, .int .u32 stop, .d (.sl an A)] (fun _ => none) 0) = some (.val (.bool true) u k) := by
  have l1 : ¬ (60 : Int) < A.length := by omega
  have wa : IntKind.i64.wrap a = a := wrap_i64 (by omega) (by omega)
  have wat : IntKind.i64.wrap at_ = at_ := wrap_i64 (by omega) (by omega)
  have wgen : IntKind.i64.wrap gen = gen := wrap_i64 (by omega) (by omega)
  have wn : IntKind.i64.wrap n = n := wrap_i64 (by omega) (by omega)
  have wrank : IntKind.i64.wrap rank = rank := wrap_i64 (by omega) (by omega)
  have wper : IntKind.i64.wrap period = period := wrap_i64 (by omega) (by omega)
  have wstop : IntKind.i64.wrap stop = stop := wrap_i64 (by omega) (by omega)
  obtain ⟨B, hB, f1, f2, f3⟩ := one_fact (s := ⟨1, { Cl.zero 9 with at_ := at_, gen := gen, mask := mask }, 0, 0⟩) ⟨⟨by simp, by simp, fun _ => ⟨by simp [Cl.zero], by simp [Cl.zero], fun h => by simp [Cl.zero] at h⟩⟩, by simp [nStep, nCall, skey, ckey, tkey, Cl.zero, rr, noRow, w_b' ha, w_b' hat, w_b' hgen, w_b' hrank, w_2' hn, w_n' hv, w_m' hmask, w_p' hperiod, w_p' hstop]⟩ ⟨by simp [Cl.zero, noRow], by simp [Cl.zero, noRow], by simp [Cl.zero, noRow]⟩ 8 (by simp [stB, callB, restB, hanB, beB_len, Cl.zero])
  have tk := take_u8 B
  simp [nStep, nCall, Sp.d, Cl.d, Cl.zero, rowD, noRow, w_b' ha, w_b' hat, w_b' hgen, w_b' hrank, w_2' hn, w_n' hv, w_m' hmask, w_p' hperiod, w_p' hstop] at f1 f2 f3
  refine wlit _ fun wl0 => ⟨[], 0, ?_⟩
  rw [run_call, kp_law27_PlayOne]
  rw [hB] at tk
  simp [k_law27_PlayOne, canK_canH, play_begun, wl0, l1, hk, hc, wa, wat, wgen, wn, wrank, wper, wstop, f1, f2, f3, hB, tk]
set_option maxRecDepth 10000 in
set_option maxHeartbeats 16000000 in
theorem one_c10 (kind call a at_ gen n v mask rank period stop : Int) (hkind : 0 ≤ kind ∧ kind < 256) (hcall : 0 ≤ call ∧ call < 256) (ha : 0 ≤ a ∧ a < 256) (hat : 0 ≤ at_ ∧ at_ < 256) (hgen : 0 ≤ gen ∧ gen < 256) (hn : 0 ≤ n ∧ n < 65536) (hv : -9223372036854775808 ≤ v ∧ v < 9223372036854775808) (hmask : 0 ≤ mask ∧ mask < 4294967296) (hrank : 0 ≤ rank ∧ rank < 256) (hperiod : 0 ≤ period ∧ period < 4294967296) (hstop : 0 ≤ stop ∧ stop < 4294967296) (A : List D) (an : Bool) (hA : NumOk A 0) (hAl : A.length ≤ 60) (hk : kind.tmod 5 = 0) (hc : call.tmod 11 = 9) :
    ∃ u k, run kp (.call f_law27_PlayOne [.int .u8 kind, .int .u8 call, .int .u8 a, .int .u8 at_, .int .u8 gen, .int .u16 n, .int .i64 v, .int .u32 mask, .int .u8 rank, .int .u32 period, .int .u32 stop, .d (.sl an A)] (fun _ => none) 0) = some (.val (.bool true) u k) := by
  have l1 : ¬ (60 : Int) < A.length := by omega
  have wa : IntKind.i64.wrap a = a := wrap_i64 (by omega) (by omega)
  have wat : IntKind.i64.wrap at_ = at_ := wrap_i64 (by omega) (by omega)
  have wgen : IntKind.i64.wrap gen = gen := wrap_i64 (by omega) (by omega)
  have wn : IntKind.i64.wrap n = n := wrap_i64 (by omega) (by omega)
  have wrank : IntKind.i64.wrap rank = rank := wrap_i64 (by omega) (by omega)
  have wper : IntKind.i64.wrap period = period := wrap_i64 (by omega) (by omega)
  have wstop : IntKind.i64.wrap stop = stop := wrap_i64 (by omega) (by omega)
  obtain ⟨B, hB, f1, f2, f3⟩ := one_fact (s := ⟨1, { Cl.zero 10 with at_ := at_, gen := gen, a := a, mask := mask }, 0, 0⟩) ⟨⟨by simp, by simp, fun _ => ⟨by simp [Cl.zero], by simp [Cl.zero], fun h => by simp [Cl.zero] at h⟩⟩, by simp [nStep, nCall, skey, ckey, tkey, Cl.zero, rr, noRow, w_b' ha, w_b' hat, w_b' hgen, w_b' hrank, w_2' hn, w_n' hv, w_m' hmask, w_p' hperiod, w_p' hstop]⟩ ⟨by simp [Cl.zero, noRow], by simp [Cl.zero, noRow], by simp [Cl.zero, noRow]⟩ 9 (by simp [stB, callB, restB, hanB, beB_len, Cl.zero])
  have tk := take_u8 B
  simp [nStep, nCall, Sp.d, Cl.d, Cl.zero, rowD, noRow, w_b' ha, w_b' hat, w_b' hgen, w_b' hrank, w_2' hn, w_n' hv, w_m' hmask, w_p' hperiod, w_p' hstop] at f1 f2 f3
  refine wlit _ fun wl0 => ⟨[], 0, ?_⟩
  rw [run_call, kp_law27_PlayOne]
  rw [hB] at tk
  simp [k_law27_PlayOne, canK_canH, play_begun, wl0, l1, hk, hc, wa, wat, wgen, wn, wrank, wper, wstop, f1, f2, f3, hB, tk]
set_option maxRecDepth 10000 in
set_option maxHeartbeats 16000000 in
theorem one_c11 (kind call a at_ gen n v mask rank period stop : Int) (hkind : 0 ≤ kind ∧ kind < 256) (hcall : 0 ≤ call ∧ call < 256) (ha : 0 ≤ a ∧ a < 256) (hat : 0 ≤ at_ ∧ at_ < 256) (hgen : 0 ≤ gen ∧ gen < 256) (hn : 0 ≤ n ∧ n < 65536) (hv : -9223372036854775808 ≤ v ∧ v < 9223372036854775808) (hmask : 0 ≤ mask ∧ mask < 4294967296) (hrank : 0 ≤ rank ∧ rank < 256) (hperiod : 0 ≤ period ∧ period < 4294967296) (hstop : 0 ≤ stop ∧ stop < 4294967296) (A : List D) (an : Bool) (hA : NumOk A 0) (hAl : A.length ≤ 60) (hk : kind.tmod 5 = 0) (hc : call.tmod 11 = 10) :
    ∃ u k, run kp (.call f_law27_PlayOne [.int .u8 kind, .int .u8 call, .int .u8 a, .int .u8 at_, .int .u8 gen, .int .u16 n, .int .i64 v, .int .u32 mask, .int .u8 rank, .int .u32 period, .int .u32 stop, .d (.sl an A)] (fun _ => none) 0) = some (.val (.bool true) u k) := by
  have l1 : ¬ (60 : Int) < A.length := by omega
  have wa : IntKind.i64.wrap a = a := wrap_i64 (by omega) (by omega)
  have wat : IntKind.i64.wrap at_ = at_ := wrap_i64 (by omega) (by omega)
  have wgen : IntKind.i64.wrap gen = gen := wrap_i64 (by omega) (by omega)
  have wn : IntKind.i64.wrap n = n := wrap_i64 (by omega) (by omega)
  have wrank : IntKind.i64.wrap rank = rank := wrap_i64 (by omega) (by omega)
  have wper : IntKind.i64.wrap period = period := wrap_i64 (by omega) (by omega)
  have wstop : IntKind.i64.wrap stop = stop := wrap_i64 (by omega) (by omega)
  obtain ⟨B, hB, f1, f2, f3⟩ := one_fact (s := ⟨1, { Cl.zero 11 with at_ := at_, gen := gen }, 0, 0⟩) ⟨⟨by simp, by simp, fun _ => ⟨by simp [Cl.zero], by simp [Cl.zero], fun h => by simp [Cl.zero] at h⟩⟩, by simp [nStep, nCall, skey, ckey, tkey, Cl.zero, rr, noRow, w_b' ha, w_b' hat, w_b' hgen, w_b' hrank, w_2' hn, w_n' hv, w_m' hmask, w_p' hperiod, w_p' hstop]⟩ ⟨by simp [Cl.zero, noRow], by simp [Cl.zero, noRow], by simp [Cl.zero, noRow]⟩ 4 (by simp [stB, callB, restB, hanB, beB_len, Cl.zero])
  have tk := take_u8 B
  simp [nStep, nCall, Sp.d, Cl.d, Cl.zero, rowD, noRow, w_b' ha, w_b' hat, w_b' hgen, w_b' hrank, w_2' hn, w_n' hv, w_m' hmask, w_p' hperiod, w_p' hstop] at f1 f2 f3
  refine wlit _ fun wl0 => ⟨[], 0, ?_⟩
  rw [run_call, kp_law27_PlayOne]
  rw [hB] at tk
  simp [k_law27_PlayOne, canK_canH, play_begun, wl0, l1, hk, hc, wa, wat, wgen, wn, wrank, wper, wstop, f1, f2, f3, hB, tk]
end Go.Cd
