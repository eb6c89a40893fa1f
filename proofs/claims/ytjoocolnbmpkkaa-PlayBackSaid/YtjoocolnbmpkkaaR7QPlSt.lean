/- Steps made out of numbers, one. No conditions. -/
import Derived.Test.YtjoocolnbmpkkaaR7QPlTk
import Derived.Test.YtjoocolnbmpkkaaR7QPlG
import Derived.Test.YtjoocolnbmpkkaaS7
set_option linter.unusedVariables false
set_option linter.unusedSimpArgs false
namespace Go.Cd
open Go Go.Fw
def pkB (nl : Bool) (L : List D) (n : Int) : Blk := .box (.d (.agg [.sl nl L, .int .i64 n]))
theorem play_Call (x : List D) (tl : Nat → Option Blk) (b : Nat) : run kp (.call f_play_Call [.d (.agg x)] tl b) = some (.val (.d (.agg [.int .i64 1, .agg x, .int .i64 0, .int .i64 0])) [] b) := by
  have F : (¬ b = b + 1) ∧ (¬ b + 1 = b) ∧ (¬ b + 1 < b) := by omega
  rw [run_call, kp_play_Call]
  simp [F, gOf, hlook, hputs, k_play_Call, canK_canH]
def emR : RRow := (true, [])
def tkR (t : Tk) : RRow × RRow × RRow := ((false, t.m), match t.w with | none => (true, []) | some j => (false, [wayI, endI].drop j), match t.o with | [] => (true, []) | x :: l => (false, x :: l))
set_option maxRecDepth 10000 in
set_option maxHeartbeats 32000000 in
theorem step_on (nl : Bool) (L : List D) (n : Int) (ho : NumOk L n) (hlt : n < L.length) :
    ∃ (s : Sp) (n' : Int), NumOk L n' ∧ s.cl.main.2.length ≤ 30 ∧ s.cl.way.2.length ≤ 30 ∧ s.cl.opt.2.length ≤ 30 ∧ ∀ (tl : Nat → Option Blk) (b h : Nat), tl h = some (pkB nl L n) → h < b →
      run kp (.call f_play_Picks_Step [.ptr h []] tl b) = some (.val (.d s.d) [(h, pkB nl L n')] b) := by
  have o1 := nextN_ok ho
  have o2 := nextN_ok o1
  have o3 := nextN_ok o2
  have o4 := nextN_ok o3
  have o5 := nextN_ok o4
  have v1 := valN_range (m := 8) ho (by omega)
  have v2 := valN_range (m := 5) o1 (by omega)
  have v3 := valN_range (m := 24) o2 (by omega)
  have k1 := keep_next L (nextN L n)
  have k2 := keep_next L (nextN L (nextN L n))
  have k3 := keep_next L (nextN L (nextN L (nextN L n)))
  have k4 := keep_next L (nextN L (nextN L (nextN L (nextN L n))))
  by_cases c0 : valN L (nextN L (nextN L n)) 24 ≤ 4
  · have v4 := valN_range (m := 6) o3 (by omega)
    have v5 := valN_range (m := 9) o4 (by omega)
    have w1 : IntKind.i64.wrap (valN L (nextN L (nextN L (nextN L (nextN L n)))) 9 - 4) = valN L (nextN L (nextN L (nextN L (nextN L n)))) 9 - 4 := wrap_i64 (by omega) (by omega)
    refine ⟨⟨1, ⟨6, 0, 0, 0, emR, emR, emR, 0, 0, valN L (nextN L (nextN L (nextN L n))) 6, valN L (nextN L (nextN L (nextN L (nextN L n)))) 9 - 4, 0⟩, 0, 0⟩, nextN L (nextN L (nextN L (nextN L (nextN L n)))), o5, by simp [emR], by simp [emR], by simp [emR], ?_⟩
    intro tl b h ht hb
    have F := natF8 h b hb
    have hne1 : ¬ h = b + 1 := by omega
    have hne2 : ¬ b + 1 = h := by omega
    rw [run_call, kp_play_Picks_Step]
    have cs : valN L (nextN L (nextN L n)) 24 = 0 ∨ valN L (nextN L (nextN L n)) 24 = 1 ∨ valN L (nextN L (nextN L n)) 24 = 2 ∨ valN L (nextN L (nextN L n)) 24 = 3 ∨ valN L (nextN L (nextN L n)) 24 = 4 := by omega
    rcases cs with cs | cs | cs | cs | cs
    all_goals simp [-Blk.hs, -Blk.ren, hsB, hsR, hsD, renB, renR, renD, k_play_Picks_Step, canK_canH, num_call, play_Call, hputs, wr_on hlt, wr_in, wr_any, hne1, hne2, pkB, k1, k2, k3, k4, cs, ht, hb, F, gOf_below hb, gOf, hlook, ho, o1, o2, o3, o4, Sp.d, Cl.d, rowD, emR, w1]
  obtain ⟨G, hG⟩ : ∃ G, IntKind.i64.wrap (1 + IntKind.i64.wrap ((valN L (nextN L n) 5).tdiv 4)) = G := ⟨_, rfl⟩
  by_cases c5 : valN L (nextN L (nextN L n)) 24 = 5
  · have cs := c5
    refine ⟨⟨3, ⟨0, 0, 0, 0, emR, emR, emR, 0, 0, 0, 0, 0⟩, 0, 0⟩, (nextN L (nextN L (nextN L n))), o3, by simp [emR], by simp [emR], by simp [emR], ?_⟩
    intro tl b h ht hb
    have F := natF8 h b hb
    have hne1 : ¬ h = b + 1 := by omega
    have hne2 : ¬ b + 1 = h := by omega
    rw [run_call, kp_play_Picks_Step]
    simp [-Blk.hs, -Blk.ren, hsB, hsR, hsD, renB, renR, renD, k_play_Picks_Step, canK_canH, num_call, play_Call, hputs, wr_on hlt, wr_in, wr_any, hne1, hne2, pkB, k1, k2, k3, k4, cs, ht, hb, F, gOf_below hb, gOf, hlook, ho, o1, o2, o3, o4, Sp.d, Cl.d, rowD, emR]
  by_cases c6 : valN L (nextN L (nextN L n)) 24 = 6
  · have cs := c6
    refine ⟨⟨4, ⟨0, 0, 0, 0, emR, emR, emR, 0, 0, 0, 0, 0⟩, valN L (nextN L (nextN L (nextN L n))) 9, 0⟩, (nextN L (nextN L (nextN L (nextN L n)))), o4, by simp [emR], by simp [emR], by simp [emR], ?_⟩
    intro tl b h ht hb
    have F := natF8 h b hb
    have hne1 : ¬ h = b + 1 := by omega
    have hne2 : ¬ b + 1 = h := by omega
    rw [run_call, kp_play_Picks_Step]
    simp [-Blk.hs, -Blk.ren, hsB, hsR, hsD, renB, renR, renD, k_play_Picks_Step, canK_canH, num_call, play_Call, hputs, wr_on hlt, wr_in, wr_any, hne1, hne2, pkB, k1, k2, k3, k4, cs, ht, hb, F, gOf_below hb, gOf, hlook, ho, o1, o2, o3, o4, Sp.d, Cl.d, rowD, emR]
  by_cases c7 : valN L (nextN L (nextN L n)) 24 = 7
  · have cs := c7
    refine ⟨⟨1, ⟨7, 0, 0, 0, emR, emR, emR, valN L n 8, G, 0, valN L (nextN L (nextN L (nextN L n))) 99, 0⟩, 0, 0⟩, (nextN L (nextN L (nextN L (nextN L n)))), o4, by simp [emR], by simp [emR], by simp [emR], ?_⟩
    intro tl b h ht hb
    have F := natF8 h b hb
    have hne1 : ¬ h = b + 1 := by omega
    have hne2 : ¬ b + 1 = h := by omega
    rw [run_call, kp_play_Picks_Step]
    simp [-Blk.hs, -Blk.ren, hsB, hsR, hsD, renB, renR, renD, k_play_Picks_Step, canK_canH, num_call, play_Call, hputs, wr_on hlt, wr_in, wr_any, hne1, hne2, pkB, k1, k2, k3, k4, cs, ht, hb, F, gOf_below hb, gOf, hlook, ho, o1, o2, o3, o4, Sp.d, Cl.d, rowD, emR, hG]
  by_cases c8 : valN L (nextN L (nextN L n)) 24 = 8
  · have cs := c8
    refine ⟨⟨1, ⟨8, 0, 0, 0, emR, emR, emR, valN L n 8, G, valN L (nextN L (nextN L (nextN L n))) 4, 0, 0⟩, 0, 0⟩, (nextN L (nextN L (nextN L (nextN L n)))), o4, by simp [emR], by simp [emR], by simp [emR], ?_⟩
    intro tl b h ht hb
    have F := natF8 h b hb
    have hne1 : ¬ h = b + 1 := by omega
    have hne2 : ¬ b + 1 = h := by omega
    rw [run_call, kp_play_Picks_Step]
    simp [-Blk.hs, -Blk.ren, hsB, hsR, hsD, renB, renR, renD, k_play_Picks_Step, canK_canH, num_call, play_Call, hputs, wr_on hlt, wr_in, wr_any, hne1, hne2, pkB, k1, k2, k3, k4, cs, ht, hb, F, gOf_below hb, gOf, hlook, ho, o1, o2, o3, o4, Sp.d, Cl.d, rowD, emR, hG]
  by_cases c9 : valN L (nextN L (nextN L n)) 24 = 9
  · have cs := c9
    have r := valN_range (m := 16) o3 (by omega)
    have w1 : IntKind.u32.wrap (valN L (nextN L (nextN L (nextN L n))) 16) = valN L (nextN L (nextN L (nextN L n))) 16 := by rw [IntKind.wrap_u32]; omega
    refine ⟨⟨1, ⟨9, 0, 0, 0, emR, emR, emR, valN L n 8, G, 0, 0, valN L (nextN L (nextN L (nextN L n))) 16⟩, 0, 0⟩, (nextN L (nextN L (nextN L (nextN L n)))), o4, by simp [emR], by simp [emR], by simp [emR], ?_⟩
    intro tl b h ht hb
    have F := natF8 h b hb
    have hne1 : ¬ h = b + 1 := by omega
    have hne2 : ¬ b + 1 = h := by omega
    rw [run_call, kp_play_Picks_Step]
    simp [-Blk.hs, -Blk.ren, hsB, hsR, hsD, renB, renR, renD, k_play_Picks_Step, canK_canH, num_call, play_Call, hputs, wr_on hlt, wr_in, wr_any, hne1, hne2, pkB, k1, k2, k3, k4, cs, ht, hb, F, gOf_below hb, gOf, hlook, ho, o1, o2, o3, o4, Sp.d, Cl.d, rowD, emR, hG, w1]
  by_cases c10 : valN L (nextN L (nextN L n)) 24 = 10
  · have cs := c10
    have r := valN_range (m := 16) o4 (by omega)
    have w1 : IntKind.u32.wrap (valN L (nextN L (nextN L (nextN L (nextN L n)))) 16) = valN L (nextN L (nextN L (nextN L (nextN L n)))) 16 := by rw [IntKind.wrap_u32]; omega
    refine ⟨⟨1, ⟨10, 0, 0, 0, emR, emR, emR, valN L n 8, G, valN L (nextN L (nextN L (nextN L n))) 4, 0, valN L (nextN L (nextN L (nextN L (nextN L n)))) 16⟩, 0, 0⟩, (nextN L (nextN L (nextN L (nextN L (nextN L n))))), o5, by simp [emR], by simp [emR], by simp [emR], ?_⟩
    intro tl b h ht hb
    have F := natF8 h b hb
    have hne1 : ¬ h = b + 1 := by omega
    have hne2 : ¬ b + 1 = h := by omega
    rw [run_call, kp_play_Picks_Step]
    simp [-Blk.hs, -Blk.ren, hsB, hsR, hsD, renB, renR, renD, k_play_Picks_Step, canK_canH, num_call, play_Call, hputs, wr_on hlt, wr_in, wr_any, hne1, hne2, pkB, k1, k2, k3, k4, cs, ht, hb, F, gOf_below hb, gOf, hlook, ho, o1, o2, o3, o4, Sp.d, Cl.d, rowD, emR, hG, w1]
  by_cases c11 : valN L (nextN L (nextN L n)) 24 = 11
  · have cs := c11
    have o6 := nextN_ok o5
    have r12 := valN_range (m := 12) o3 (by omega)
    have w1 : IntKind.i64.wrap (1 + valN L (nextN L (nextN L (nextN L n))) 12) = 1 + valN L (nextN L (nextN L (nextN L n))) 12 := wrap_i64 (by omega) (by omega)
    have k5 := keep_next L (nextN L (nextN L (nextN L (nextN L (nextN L n)))))
    obtain ⟨t, n', oT, kT, tok, tk⟩ := task_ex nl L (nextN L (nextN L (nextN L (nextN L (nextN L (nextN L n)))))) (valN L (nextN L (nextN L (nextN L (nextN L (nextN L n))))) 9) 2 o6 (by omega)
    obtain ⟨per, stop, m, w, o⟩ := t
    have t1 := tok.m1
    have t2 := tok.o1
    simp only at t1 t2
    have HW : ∀ (W O : RRow), W.2.length ≤ 30 → O.2.length ≤ 30 → (∀ (tl : Nat → Option Blk) (b h : Nat), tl h = some (pkB nl L n) → h < b →
      run kp (.call f_play_Picks_Step [.ptr h []] tl b) = some (.val (.d (Sp.d ⟨1, ⟨1 + valN L (nextN L (nextN L (nextN L n))) 12, valN L (nextN L (nextN L (nextN L (nextN L (nextN L n))))) 9, per, stop, (false, m), W, O, valN L n 8, G, valN L (nextN L (nextN L (nextN L (nextN L n)))) 6, 0, 0⟩, 0, 0⟩)) [(h, pkB nl L n')] b)) → ∃ (s : Sp) (n' : Int), NumOk L n' ∧ s.cl.main.2.length ≤ 30 ∧ s.cl.way.2.length ≤ 30 ∧ s.cl.opt.2.length ≤ 30 ∧ ∀ (tl : Nat → Option Blk) (b h : Nat), tl h = some (pkB nl L n) → h < b →
      run kp (.call f_play_Picks_Step [.ptr h []] tl b) = some (.val (.d s.d) [(h, pkB nl L n')] b) := fun W O h1 h2 h3 => ⟨_, n', oT, by simp only; omega, h1, h2, h3⟩
    have R : ∀ (W O : RRow), W = (match w with | none => emR | some j => (false, [wayI, endI].drop j)) → O = (match o with | [] => emR | x :: l => (false, x :: l)) → W.2.length ≤ 30 ∧ O.2.length ≤ 30 := by
      intro W O h1 h2
      subst h1 h2
      constructor
      · cases w with
        | none => simp [emR]
        | some j => simp; omega
      · cases o with
        | nil => simp [emR]
        | cons x l => simp only; omega
    have R := R _ _ rfl rfl
    refine HW _ _ R.1 R.2 ?_
    intro tl b h ht hb
    have F := natF8 h b hb
    have hne1 : ¬ h = b + 1 := by omega
    have hne2 : ¬ b + 1 = h := by omega
    rw [run_call, kp_play_Picks_Step]
    cases w with
    | none =>
      cases o with
      | nil => simp [-Blk.hs, -Blk.ren, hsB, hsR, hsD, renB, renR, renD, k_play_Picks_Step, canK_canH, num_call, play_Call, hputs, wr_on hlt, wr_in, wr_any, hne1, hne2, pkB, k1, k2, k3, k4, cs, ht, hb, F, gOf_below hb, gOf, hlook, ho, o1, o2, o3, o4, Sp.d, Cl.d, rowD, emR, hG, w1, k5, kT, tk, o5, o6, tkV, tkH, tkN, wV, wH, wN, aV, aH, aN, wayI, endI, Inst.d, hputs_append]
      | cons x l => simp [-Blk.hs, -Blk.ren, hsB, hsR, hsD, renB, renR, renD, k_play_Picks_Step, canK_canH, num_call, play_Call, hputs, wr_on hlt, wr_in, wr_any, hne1, hne2, pkB, k1, k2, k3, k4, cs, ht, hb, F, gOf_below hb, gOf, hlook, ho, o1, o2, o3, o4, Sp.d, Cl.d, rowD, emR, hG, w1, k5, kT, tk, o5, o6, tkV, tkH, tkN, wV, wH, wN, aV, aH, aN, wayI, endI, Inst.d, hputs_append]
    | some q =>
      have hq := tok.w1 q rfl
      rcases (by omega : q = 0 ∨ q = 1) with hq | hq
      · subst hq
        cases o with
        | nil => simp [-Blk.hs, -Blk.ren, hsB, hsR, hsD, renB, renR, renD, k_play_Picks_Step, canK_canH, num_call, play_Call, hputs, wr_on hlt, wr_in, wr_any, hne1, hne2, pkB, k1, k2, k3, k4, cs, ht, hb, F, gOf_below hb, gOf, hlook, ho, o1, o2, o3, o4, Sp.d, Cl.d, rowD, emR, hG, w1, k5, kT, tk, o5, o6, tkV, tkH, tkN, wV, wH, wN, aV, aH, aN, wayI, endI, Inst.d, hputs_append]
        | cons x l => simp [-Blk.hs, -Blk.ren, hsB, hsR, hsD, renB, renR, renD, k_play_Picks_Step, canK_canH, num_call, play_Call, hputs, wr_on hlt, wr_in, wr_any, hne1, hne2, pkB, k1, k2, k3, k4, cs, ht, hb, F, gOf_below hb, gOf, hlook, ho, o1, o2, o3, o4, Sp.d, Cl.d, rowD, emR, hG, w1, k5, kT, tk, o5, o6, tkV, tkH, tkN, wV, wH, wN, aV, aH, aN, wayI, endI, Inst.d, hputs_append]
      · subst hq
        cases o with
        | nil => simp [-Blk.hs, -Blk.ren, hsB, hsR, hsD, renB, renR, renD, k_play_Picks_Step, canK_canH, num_call, play_Call, hputs, wr_on hlt, wr_in, wr_any, hne1, hne2, pkB, k1, k2, k3, k4, cs, ht, hb, F, gOf_below hb, gOf, hlook, ho, o1, o2, o3, o4, Sp.d, Cl.d, rowD, emR, hG, w1, k5, kT, tk, o5, o6, tkV, tkH, tkN, wV, wH, wN, aV, aH, aN, wayI, endI, Inst.d, hputs_append]
        | cons x l => simp [-Blk.hs, -Blk.ren, hsB, hsR, hsD, renB, renR, renD, k_play_Picks_Step, canK_canH, num_call, play_Call, hputs, wr_on hlt, wr_in, wr_any, hne1, hne2, pkB, k1, k2, k3, k4, cs, ht, hb, F, gOf_below hb, gOf, hlook, ho, o1, o2, o3, o4, Sp.d, Cl.d, rowD, emR, hG, w1, k5, kT, tk, o5, o6, tkV, tkH, tkN, wV, wH, wN, aV, aH, aN, wayI, endI, Inst.d, hputs_append]
  by_cases c12 : valN L (nextN L (nextN L n)) 24 = 12 ∨ valN L (nextN L (nextN L n)) 24 = 13
  · have r := valN_range (m := 30) o3 (by omega)
    have w1 : IntKind.i64.wrap (1 + valN L (nextN L (nextN L (nextN L n))) 30) = 1 + valN L (nextN L (nextN L (nextN L n))) 30 := wrap_i64 (by omega) (by omega)
    refine ⟨⟨5, ⟨0, 0, 0, 0, emR, emR, emR, 0, 0, 0, 0, 0⟩, 0, 1 + valN L (nextN L (nextN L (nextN L n))) 30⟩, (nextN L (nextN L (nextN L (nextN L n)))), o4, by simp [emR], by simp [emR], by simp [emR], ?_⟩
    intro tl b h ht hb
    have F := natF8 h b hb
    have hne1 : ¬ h = b + 1 := by omega
    have hne2 : ¬ b + 1 = h := by omega
    rw [run_call, kp_play_Picks_Step]
    rcases c12 with cs | cs
    all_goals simp [-Blk.hs, -Blk.ren, hsB, hsR, hsD, renB, renR, renD, k_play_Picks_Step, canK_canH, num_call, play_Call, hputs, wr_on hlt, wr_in, wr_any, hne1, hne2, pkB, k1, k2, k3, k4, cs, ht, hb, F, gOf_below hb, gOf, hlook, ho, o1, o2, o3, o4, Sp.d, Cl.d, rowD, emR, w1]
  · have d0 : ¬ valN L (nextN L (nextN L n)) 24 = 0 := by omega
    have d1 : ¬ valN L (nextN L (nextN L n)) 24 = 1 := by omega
    have d2 : ¬ valN L (nextN L (nextN L n)) 24 = 2 := by omega
    have d3 : ¬ valN L (nextN L (nextN L n)) 24 = 3 := by omega
    have d4 : ¬ valN L (nextN L (nextN L n)) 24 = 4 := by omega
    have cs : ¬ valN L (nextN L (nextN L n)) 24 = 12 := fun k => c12 (.inl k)
    have d13 : ¬ valN L (nextN L (nextN L n)) 24 = 13 := fun k => c12 (.inr k)
    refine ⟨⟨2, ⟨0, 0, 0, 0, emR, emR, emR, 0, 0, 0, 0, 0⟩, 0, 0⟩, (nextN L (nextN L (nextN L n))), o3, by simp [emR], by simp [emR], by simp [emR], ?_⟩
    intro tl b h ht hb
    have F := natF8 h b hb
    have hne1 : ¬ h = b + 1 := by omega
    have hne2 : ¬ b + 1 = h := by omega
    rw [run_call, kp_play_Picks_Step]
    simp [-Blk.hs, -Blk.ren, hsB, hsR, hsD, renB, renR, renD, k_play_Picks_Step, canK_canH, num_call, play_Call, hputs, wr_on hlt, wr_in, wr_any, hne1, hne2, pkB, k1, k2, k3, k4, cs, ht, hb, F, gOf_below hb, gOf, hlook, ho, o1, o2, o3, o4, Sp.d, Cl.d, rowD, emR, d0, d1, d2, d3, d4, c5, c6, c7, c8, c9, c10, c11, d13]
end Go.Cd
