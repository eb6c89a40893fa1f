/- Tasks made out of numbers. No conditions. -/
import Derived.Test.YtgjeondicdipaaaR9QHs
set_option linter.unusedVariables false
set_option linter.unusedSimpArgs false
namespace Go.Cd
open Go Go.Fw
def wayI : Inst := ⟨1, 0, 0, 99⟩
def wV (b : Nat) : Option Nat → V
  | none => .d (.sl true [])
  | some j => .sl false b j (2 - j)
def wH (b : Nat) : Option Nat → Hp
  | none => []
  | some _ => [(b, .row true [wayI.d, endI.d])]
def wN : Option Nat → Nat
  | none => 0
  | some _ => 1
structure Tk where
  per : Int
  stop : Int
  m : List Inst
  w : Option Nat
  o : List Inst
structure Tk.Ok (t : Tk) : Prop where
  m0 : t.m ≠ []
  m1 : t.m.length ≤ 23
  o1 : t.o.length ≤ 23
  w1 : ∀ j, t.w = some j → j ≤ 1
def tkV (b : Nat) (rank : Int) (t : Tk) : V := .agg [.int .i64 rank, .int .i64 t.per, .int .i64 t.stop, .sl false b 0 t.m.length, wV (b + 1) t.w, aV (b + 1 + wN t.w) t.o]
def tkH (b : Nat) (t : Tk) : Hp := (b, .row true (t.m.map Inst.d)) :: (wH (b + 1) t.w ++ aH (b + 1 + wN t.w) t.o)
def tkN (t : Tk) : Nat := 1 + wN t.w + aN t.o
theorem wr_any (nl : Bool) (L : List D) (n : Int) (h : Nat) (n' : Int) (f : Nat × Blk → Bool) : (wr nl L n h n').any f = (decide (n < L.length) && f (h, .box (.d (.agg [.sl nl L, .int .i64 n'])))) := by
  unfold wr
  split
  · rename_i k; simp [k]
  · rename_i k; simp [k]
theorem codeL_ne (L : List D) (n lk : Int) : ∃ y l, codeL L n lk = y :: l := by
  unfold codeL
  cases codeRow L lk ((valN L n 4).toNat + 1) (nextN L n) [] with
  | nil => exact ⟨_, _, rfl⟩
  | cons y l => exact ⟨_, _, rfl⟩
set_option maxRecDepth 10000 in
set_option maxHeartbeats 16000000 in
theorem task_on (nl : Bool) (L : List D) (n rank lk : Int) (ho : NumOk L n) (hlk : lk ≤ 1000) (hlt : n < L.length) :
    ∃ (t : Tk) (n' : Int), (NumOk L n' ∧ t.m = codeL L n lk) ∧ t.Ok ∧ ∀ (tl : Nat → Option Blk) (b h : Nat), tl h = some (.box (.d (.agg [.sl nl L, .int .i64 n]))) → h < b →
      run kp (.call f_play_Picks_Task [.ptr h [], .int .i64 rank, .int .i64 lk] tl b) = some (.val (tkV b rank t) ((h, .box (.d (.agg [.sl nl L, .int .i64 n']))) :: tkH b t) (b + tkN t)) := by
  have o1 := codeNx_ok lk ho
  have o2 := nextN_ok o1
  have o3 := nextN_ok o2
  have o4 := nextN_ok o3
  have o5 := nextN_ok o4
  have o6 := nextN_ok o5
  have l1 := codeL_len L n lk
  obtain ⟨y1, m1, e1⟩ := codeL_ne L n lk
  by_cases v3 : valN L (nextN L (nextN L (codeNx L n lk))) 3 = 0
  · have p2 := valN_range (m := 2) o4 (by omega)
    obtain ⟨j, hj⟩ : ∃ j : Nat, valN L (nextN L (nextN L (nextN L (codeNx L n lk)))) 2 = (j : Int) := ⟨(valN L (nextN L (nextN L (nextN L (codeNx L n lk)))) 2).toNat, by omega⟩
    have hj2 : (j : Int) ≤ 2 := by omega
    by_cases v5 : valN L (nextN L (nextN L (nextN L (nextN L (codeNx L n lk))))) 3 = 0
    · have l2 := codeL_len L (nextN L (nextN L (nextN L (nextN L (nextN L (codeNx L n lk)))))) 0
      obtain ⟨y2, m2, e2⟩ := codeL_ne L (nextN L (nextN L (nextN L (nextN L (nextN L (codeNx L n lk)))))) 0
      refine ⟨⟨IntKind.i64.wrap (20 + IntKind.i64.wrap (10 * valN L (codeNx L n lk) 12)), IntKind.i64.wrap (IntKind.i64.wrap (20 + IntKind.i64.wrap (10 * valN L (codeNx L n lk) 12)) - valN L (nextN L (codeNx L n lk)) 10), codeL L n lk, some j, codeL L (nextN L (nextN L (nextN L (nextN L (nextN L (codeNx L n lk)))))) 0⟩, codeNx L (nextN L (nextN L (nextN L (nextN L (nextN L (codeNx L n lk)))))) 0, ⟨codeNx_ok 0 o6, rfl⟩, ⟨by rw [e1]; simp, l1, l2, fun i hi => by injection hi; omega⟩, ?_⟩
      intro tl b h ht hb
      have F := natF8 h b hb
      rw [run_call, kp_play_Picks_Task]
      simp only [tkV, tkH, tkN, wV, wH, wN]
      simp [-Blk.hs, -Blk.ren, hsB, hsR, hsD, renB, renR, renD, k_play_Picks_Task, canK_canH, num_call, code_call, wr_in, wr_on, hputs_append, keep_next, keep_codeNx, wr_any, ht, hb, F, gOf_below hb, gOf, hlook, hlk, ho, o1, o2, o3, o4, o5, o6, hlt, v3, v5, hj]
      rw [e2]
      simp [aV, aH, aN, wayI, endI, Inst.d, hj2]
    · refine ⟨⟨IntKind.i64.wrap (20 + IntKind.i64.wrap (10 * valN L (codeNx L n lk) 12)), IntKind.i64.wrap (IntKind.i64.wrap (20 + IntKind.i64.wrap (10 * valN L (codeNx L n lk) 12)) - valN L (nextN L (codeNx L n lk)) 10), codeL L n lk, some j, []⟩, (nextN L (nextN L (nextN L (nextN L (nextN L (codeNx L n lk)))))), ⟨o6, rfl⟩, ⟨by rw [e1]; simp, l1, by simp, fun i hi => by injection hi; omega⟩, ?_⟩
      intro tl b h ht hb
      have F := natF8 h b hb
      rw [run_call, kp_play_Picks_Task]
      simp only [tkV, tkH, tkN, wV, wH, wN]
      simp [-Blk.hs, -Blk.ren, hsB, hsR, hsD, renB, renR, renD, k_play_Picks_Task, canK_canH, num_call, code_call, wr_in, wr_on, hputs_append, keep_next, keep_codeNx, wr_any, ht, hb, F, gOf_below hb, gOf, hlook, hlk, ho, o1, o2, o3, o4, o5, o6, hlt, v3, v5, hj]
      simp [aV, aH, aN, wayI, endI, Inst.d, hj2]
  · have hj : True := trivial
    have hj2 : True := trivial
    by_cases v5 : valN L (nextN L (nextN L (nextN L (codeNx L n lk)))) 3 = 0
    · have l2 := codeL_len L (nextN L (nextN L (nextN L (nextN L (codeNx L n lk))))) 0
      obtain ⟨y2, m2, e2⟩ := codeL_ne L (nextN L (nextN L (nextN L (nextN L (codeNx L n lk))))) 0
      refine ⟨⟨IntKind.i64.wrap (20 + IntKind.i64.wrap (10 * valN L (codeNx L n lk) 12)), IntKind.i64.wrap (IntKind.i64.wrap (20 + IntKind.i64.wrap (10 * valN L (codeNx L n lk) 12)) - valN L (nextN L (codeNx L n lk)) 10), codeL L n lk, none, codeL L (nextN L (nextN L (nextN L (nextN L (codeNx L n lk))))) 0⟩, codeNx L (nextN L (nextN L (nextN L (nextN L (codeNx L n lk))))) 0, ⟨codeNx_ok 0 o5, rfl⟩, ⟨by rw [e1]; simp, l1, l2, fun i hi => by cases hi⟩, ?_⟩
      intro tl b h ht hb
      have F := natF8 h b hb
      rw [run_call, kp_play_Picks_Task]
      simp only [tkV, tkH, tkN, wV, wH, wN]
      simp [-Blk.hs, -Blk.ren, hsB, hsR, hsD, renB, renR, renD, k_play_Picks_Task, canK_canH, num_call, code_call, wr_in, wr_on, hputs_append, keep_next, keep_codeNx, wr_any, ht, hb, F, gOf_below hb, gOf, hlook, hlk, ho, o1, o2, o3, o4, o5, o6, hlt, v3, v5]
      rw [e2]
      simp [aV, aH, aN, wayI, endI, Inst.d, hj2]
    · refine ⟨⟨IntKind.i64.wrap (20 + IntKind.i64.wrap (10 * valN L (codeNx L n lk) 12)), IntKind.i64.wrap (IntKind.i64.wrap (20 + IntKind.i64.wrap (10 * valN L (codeNx L n lk) 12)) - valN L (nextN L (codeNx L n lk)) 10), codeL L n lk, none, []⟩, (nextN L (nextN L (nextN L (nextN L (codeNx L n lk))))), ⟨o5, rfl⟩, ⟨by rw [e1]; simp, l1, by simp, fun i hi => by cases hi⟩, ?_⟩
      intro tl b h ht hb
      have F := natF8 h b hb
      rw [run_call, kp_play_Picks_Task]
      simp only [tkV, tkH, tkN, wV, wH, wN]
      simp [-Blk.hs, -Blk.ren, hsB, hsR, hsD, renB, renR, renD, k_play_Picks_Task, canK_canH, num_call, code_call, wr_in, wr_on, hputs_append, keep_next, keep_codeNx, wr_any, ht, hb, F, gOf_below hb, gOf, hlook, hlk, ho, o1, o2, o3, o4, o5, o6, hlt, v3, v5, aV, aH, aN]
set_option maxRecDepth 10000 in
set_option maxHeartbeats 16000000 in
theorem task_off (nl : Bool) (L : List D) (n rank lk : Int) (ho : NumOk L n) (hlk : lk ≤ 1000) (hlt : ¬ n < L.length) :
    ∃ (t : Tk), (t.m = codeL L n lk ∧ t.Ok) ∧ ∀ (tl : Nat → Option Blk) (b h : Nat), tl h = some (.box (.d (.agg [.sl nl L, .int .i64 n]))) → h < b →
      run kp (.call f_play_Picks_Task [.ptr h [], .int .i64 rank, .int .i64 lk] tl b) = some (.val (tkV b rank t) (tkH b t) (b + tkN t)) := by
  have n1 := nextN_off hlt
  have n2 := keep_codeNx L n lk hlt
  have v2 := valN_off (m := 2) hlt
  have v3 := valN_off (m := 3) hlt
  have v10 := valN_off (m := 10) hlt
  have v12 := valN_off (m := 12) hlt
  have e0 := fun x => wr_off (nl := nl) (h := x) (n' := n) hlt
  have l1 := codeL_len L n lk
  have l2 := codeL_len L n 0
  obtain ⟨y1, m1, e1⟩ := codeL_ne L n lk
  obtain ⟨y2, m2, e2⟩ := codeL_ne L n 0
  have ea := fun lk => keep_codeNx L n lk hlt
  refine ⟨⟨IntKind.i64.wrap (20 + IntKind.i64.wrap 0), IntKind.i64.wrap (IntKind.i64.wrap (20 + IntKind.i64.wrap 0) - 0), codeL L n lk, some 0, codeL L n 0⟩, ⟨rfl, ⟨by rw [e1]; simp, l1, l2, fun i hi => by injection hi; omega⟩⟩, ?_⟩
  intro tl b h ht hb
  have F := natF8 h b hb
  rw [run_call, kp_play_Picks_Task]
  simp only [tkV, tkH, tkN, wV, wH, wN]
  simp [-Blk.hs, -Blk.ren, hsB, hsR, hsD, renB, renR, renD, k_play_Picks_Task, canK_canH, num_call, code_call, hputs, n1, ea, e0, v2, v3, v10, v12, ht, hb, F, gOf_below hb, gOf, hlook, hlk, ho]
  rw [e2]
  simp [aV, aH, aN, wayI, endI, Inst.d]
theorem task_ex2 (nl : Bool) (L : List D) (n rank lk : Int) (ho : NumOk L n) (hlk : lk ≤ 1000) :
    ∃ (t : Tk) (n' : Int), NumOk L n' ∧ KeepN L n n' ∧ t.Ok ∧ (∀ (tl : Nat → Option Blk) (b h : Nat), tl h = some (.box (.d (.agg [.sl nl L, .int .i64 n]))) → h < b →
      run kp (.call f_play_Picks_Task [.ptr h [], .int .i64 rank, .int .i64 lk] tl b) = some (.val (tkV b rank t) (wr nl L n h n' ++ tkH b t) (b + tkN t))) ∧ t.m = codeL L n lk := by
  by_cases hlt : n < L.length
  · obtain ⟨t, n', ⟨h1, e⟩, h2, h3⟩ := task_on nl L n rank lk ho hlk hlt
    refine ⟨t, n', h1, fun h => absurd hlt h, h2, fun tl b h ht hb => ?_, e⟩
    rw [h3 tl b h ht hb, wr_on hlt]
    rfl
  · obtain ⟨t, ⟨e, h2⟩, h3⟩ := task_off nl L n rank lk ho hlk hlt
    refine ⟨t, n, ho, fun _ => rfl, h2, fun tl b h ht hb => ?_, e⟩
    rw [h3 tl b h ht hb, wr_off hlt]
    rfl
theorem task_ex (nl : Bool) (L : List D) (n rank lk : Int) (ho : NumOk L n) (hlk : lk ≤ 1000) :
    ∃ (t : Tk) (n' : Int), NumOk L n' ∧ KeepN L n n' ∧ t.Ok ∧ ∀ (tl : Nat → Option Blk) (b h : Nat), tl h = some (.box (.d (.agg [.sl nl L, .int .i64 n]))) → h < b →
      run kp (.call f_play_Picks_Task [.ptr h [], .int .i64 rank, .int .i64 lk] tl b) = some (.val (tkV b rank t) (wr nl L n h n' ++ tkH b t) (b + tkN t)) := by
  obtain ⟨t, n', h1, h2, h3, h4, _⟩ := task_ex2 nl L n rank lk ho hlk
  exact ⟨t, n', h1, h2, h3, h4⟩
end Go.Cd
