/- Calls as bytes, the program's. No conditions. -/
import Derived.Test.YtjoocolnbmpkkaaR7QPlQ
set_option linter.unusedVariables false
set_option linter.unusedSimpArgs false
namespace Go.Cd
open Go Go.Fw
abbrev u8w (x : Int) : Int := IntKind.u8.wrap x
abbrev u64w (x : Int) : Int := IntKind.u64.wrap x
def hanB (c : Cl) : List Int := [u8w c.at_, u8w c.gen]
/-- A call as bytes, behind its kind. -/
def restB (c : Cl) : List Int :=
  if c.kind = 1 then u8w c.rank :: (beB 4 (u64w c.period) ++ (beB 4 (u64w c.stop) ++ (prB c.main.2 ++ (prB c.way.2 ++ prB c.opt.2))))
  else if c.kind = 6 then u8w c.a :: beB 8 (u64w c.n)
  else if c.kind = 7 then hanB c ++ beB 8 (u64w c.n)
  else if c.kind = 8 then hanB c ++ [u8w c.a]
  else if c.kind = 9 then hanB c ++ beB 4 (u64w c.mask)
  else if c.kind = 10 then hanB c ++ (u8w c.a :: beB 4 (u64w c.mask))
  else if c.kind = 11 then hanB c
  else []
def callB (c : Cl) : List Int := u8w c.kind :: restB c
theorem play_num2 (v : Int) : run kp (.data f_play_num [.int .u64 v, .int .i64 2]) = some (.ds [.sl false ((beB 2 v).map u8d)]) := play_num v 2 (by omega) (by omega)
theorem play_num4 (v : Int) : run kp (.data f_play_num [.int .u64 v, .int .i64 4]) = some (.ds [.sl false ((beB 4 v).map u8d)]) := play_num v 4 (by omega) (by omega)
theorem play_num8 (v : Int) : run kp (.data f_play_num [.int .u64 v, .int .i64 8]) = some (.ds [.sl false ((beB 8 v).map u8d)]) := play_num v 8 (by omega) (by omega)
theorem tkB (n : Nat) (v : Int) : List.take n (List.map u8d (beB n v)) = List.map u8d (beB n v) := List.take_of_length_le (by simp [beB_len])
theorem play_handle (x y : Int) : run kp (.data f_play_handle [.agg [.int .i64 x, .int .i64 y]]) = some (.ds [.sl false [u8d (u8w x), u8d (u8w y)]]) := by
  rw [run_data, run_call, kp_play_handle]
  simp [k_play_handle, u8d]
def Cl.lite (c : Cl) : Prop := c.main.2.length ≤ 1000 ∧ c.way.2.length ≤ 1000 ∧ c.opt.2.length ≤ 1000
theorem prB_len (l : List Inst) : (prB l).length ≤ 7 * l.length + 1 := by
  have := prTail_len l
  simp [prB]; omega
set_option maxRecDepth 10000 in
set_option maxHeartbeats 16000000 in
theorem play_call (c : Cl) (hc : c.lite) : run kp (.data f_play_call [c.d]) = some (.ds [.sl false ((callB c).map u8d)]) := by
  obtain ⟨kind, rank, period, stop, ⟨mn, m⟩, ⟨wn, w⟩, ⟨on, o⟩, at_, gen, a, n, mask⟩ := c
  obtain ⟨hm, hw, ho⟩ := hc
  simp only at hm hw ho
  have p1 := play_program m mn hm
  have p2 := play_program w wn hw
  have p3 := play_program o on ho
  have l1 := prB_len m
  have l2 := prB_len w
  have l3 := prB_len o
  have t1 := take_u8 (prB m)
  have t2 := take_u8 (prB w)
  have t3 := take_u8 (prB o)
  rw [run_data, run_call, kp_play_call]
  unfold callB restB
  simp only
  generalize prB m = pm at *
  generalize prB w = pw at *
  generalize prB o = po at *
  by_cases h1 : kind = 1
  · subst h1
    have cc := slices_Concat [(false, [u8w 1]), (false, [u8w rank]), (false, beB 4 (u64w period)), (false, beB 4 (u64w stop)), (false, pm), (false, pw), (false, po)] false (by simp) (by simp [cat, beB_len]; omega) (by simp [cat])
    simp [rwD, cat, u8d] at cc
    simp [k_play_call, Cl.d, rowD, play_num4, play_num8, tkB, beB_len, p1, p2, p3, t1, t2, t3, cc, u8d]
    exact List.take_of_length_le (by simp [beB_len])
  by_cases h6 : kind = 6
  · subst h6
    have cc := slices_Concat [(false, [u8w 6]), (false, [u8w a]), (false, beB 8 (u64w n))] false (by simp) (by simp [cat, beB_len]) (by simp [cat])
    simp [rwD, cat, u8d] at cc
    simp [k_play_call, Cl.d, rowD, play_num4, play_num8, tkB, beB_len, cc, u8d]
  by_cases h7 : kind = 7
  · subst h7
    have cc := slices_Concat [(false, [u8w 7]), (false, [u8w at_, u8w gen]), (false, beB 8 (u64w n))] false (by simp) (by simp [cat, beB_len]) (by simp [cat])
    simp [rwD, cat, u8d] at cc
    simp [k_play_call, Cl.d, rowD, play_num4, play_num8, play_handle, hanB, tkB, beB_len, cc, u8d]
  by_cases h8 : kind = 8
  · subst h8
    have cc := slices_Concat [(false, [u8w 8]), (false, [u8w at_, u8w gen]), (false, [u8w a])] false (by simp) (by simp [cat, beB_len]) (by simp [cat])
    simp [rwD, cat, u8d] at cc
    simp [k_play_call, Cl.d, rowD, play_num4, play_num8, play_handle, hanB, tkB, beB_len, cc, u8d]
  by_cases h9 : kind = 9
  · subst h9
    have cc := slices_Concat [(false, [u8w 9]), (false, [u8w at_, u8w gen]), (false, beB 4 (u64w mask))] false (by simp) (by simp [cat, beB_len]) (by simp [cat])
    simp [rwD, cat, u8d] at cc
    simp [k_play_call, Cl.d, rowD, play_num4, play_num8, play_handle, hanB, tkB, beB_len, cc, u8d]
  by_cases h10 : kind = 10
  · subst h10
    have cc := slices_Concat [(false, [u8w 10]), (false, [u8w at_, u8w gen]), (false, [u8w a]), (false, beB 4 (u64w mask))] false (by simp) (by simp [cat, beB_len]) (by simp [cat])
    simp [rwD, cat, u8d] at cc
    simp [k_play_call, Cl.d, rowD, play_num4, play_num8, play_handle, hanB, tkB, beB_len, cc, u8d]
  by_cases h11 : kind = 11
  · subst h11
    have cc := slices_Concat [(false, [u8w 11]), (false, [u8w at_, u8w gen])] false (by simp) (by simp [cat, beB_len]) (by simp [cat])
    simp [rwD, cat, u8d] at cc
    simp [k_play_call, Cl.d, rowD, play_num4, play_num8, play_handle, hanB, tkB, beB_len, cc, u8d]
  simp [k_play_call, Cl.d, rowD, play_num4, play_num8, play_handle, hanB, tkB, beB_len, h1, h6, h7, h8, h9, h10, h11, u8d]
end Go.Cd
