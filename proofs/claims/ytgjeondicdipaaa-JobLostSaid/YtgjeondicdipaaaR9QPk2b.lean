/- Texts of this session in one. No conditions. -/
import Derived.Test.YtgjeondicdipaaaR9QPk1
import Derived.Test.YtgjeondicdipaaaR9QMay
set_option linter.unusedVariables false
set_option linter.unusedSimpArgs false
namespace Go.Cd
open Go Go.Fw
def Inst.v (i : Inst) : V := .d i.d
def plainI (L : List D) (n : Int) : Inst :=
  let a := valN L n 3
  let b := valN L (nextN L n) 3
  let c := valN L (nextN L (nextN L n)) 6
  let n3 := nextN L (nextN L (nextN L n))
  if c = 0 then ⟨1, a, 0, IntKind.i64.wrap (valN L n3 9 - 4)⟩
  else if c = 1 then ⟨2, a, b, 0⟩
  else if c = 2 then ⟨3, a, b, 0⟩
  else if c = 3 then ⟨4, a, b, 0⟩
  else if c = 4 then ⟨5, a, 0, IntKind.i64.wrap (valN L n3 7 - 3)⟩
  else ⟨6, a, 0, IntKind.i64.wrap (1 + valN L n3 64)⟩
def plainN (L : List D) (n : Int) : Int :=
  let c := valN L (nextN L (nextN L n)) 6
  let n3 := nextN L (nextN L (nextN L n))
  if c = 1 ∨ c = 2 ∨ c = 3 then n3 else nextN L n3
def plainA (o : Option Blk) (h : Nat) (b : Nat) : Option Ans := match o with
  | some (.box (.d (.agg [.sl nl L, .int .i64 n]))) => some (.val (plainI L n).v (wr nl L n h (plainN L n)) b)
  | _ => none
@[simp] theorem plainA_mk (nl : Bool) (L : List D) (n : Int) (h : Nat) (b : Nat) : plainA (some (.box (.d (.agg [.sl nl L, .int .i64 n])))) h b = some (.val (plainI L n).v (wr nl L n h (plainN L n)) b) := rfl
theorem plainN_ok {L : List D} {n : Int} (h : NumOk L n) : NumOk L (plainN L n) := by
  unfold plainN
  simp only
  split
  · exact nextN_ok (nextN_ok (nextN_ok h))
  · exact nextN_ok (nextN_ok (nextN_ok (nextN_ok h)))
theorem keep_plain (L : List D) (n : Int) : KeepN L n (plainN L n) := fun h => by
  unfold plainN
  simp [nextN_off h]
set_option maxHeartbeats 8000000 in
theorem plain_call (tl : Nat → Option Blk) (b h : Nat) (hk : PkOk (tl h)) (hb : h < b) : run kp (.call f_play_Picks_plain [.ptr h []] tl b) = plainA (tl h) h b := by
  obtain ⟨nl, L, n, ht, ho⟩ := hk
  rw [ht, plainA_mk, run_call, kp_play_Picks_plain]
  have o1 := nextN_ok ho
  have o2 := nextN_ok o1
  have o3 := nextN_ok o2
  have hne : ¬ b = h := by omega
  have hne2 : ¬ h = b := by omega
  have hb1 : h < b + 1 := by omega
  by_cases hlt : n < L.length
  · unfold plainI plainN
    rw [wr_on hlt]
    simp only
    have c1 := keep_next L (nextN L n)
    have c2 := keep_next L (nextN L (nextN L n))
    have c3 := keep_next L (nextN L (nextN L (nextN L n)))
    by_cases h0 : valN L (nextN L (nextN L n)) 6 = 0
    · simp [k_play_Picks_plain, canK_canH, num_call, wr_in, wr_on, ht, hb, hb1, hne, hne2, gOf_below hb, gOf, hlook, ho, o1, o2, o3, c1, c2, c3, hlt, Inst.v, Inst.d, h0]
    by_cases h1 : valN L (nextN L (nextN L n)) 6 = 1
    · simp [k_play_Picks_plain, canK_canH, num_call, wr_in, wr_on, ht, hb, hb1, hne, hne2, gOf_below hb, gOf, hlook, ho, o1, o2, o3, c1, c2, c3, hlt, Inst.v, Inst.d, h0, h1]
    by_cases h2 : valN L (nextN L (nextN L n)) 6 = 2
    · simp [k_play_Picks_plain, canK_canH, num_call, wr_in, wr_on, ht, hb, hb1, hne, hne2, gOf_below hb, gOf, hlook, ho, o1, o2, o3, c1, c2, c3, hlt, Inst.v, Inst.d, h0, h1, h2]
    by_cases h3 : valN L (nextN L (nextN L n)) 6 = 3
    · simp [k_play_Picks_plain, canK_canH, num_call, wr_in, wr_on, ht, hb, hb1, hne, hne2, gOf_below hb, gOf, hlook, ho, o1, o2, o3, c1, c2, c3, hlt, Inst.v, Inst.d, h0, h1, h2, h3]
    by_cases h4 : valN L (nextN L (nextN L n)) 6 = 4
    · simp [k_play_Picks_plain, canK_canH, num_call, wr_in, wr_on, ht, hb, hb1, hne, hne2, gOf_below hb, gOf, hlook, ho, o1, o2, o3, c1, c2, c3, hlt, Inst.v, Inst.d, h0, h1, h2, h3, h4]
    simp [k_play_Picks_plain, canK_canH, num_call, wr_in, wr_on, ht, hb, hb1, hne, hne2, gOf_below hb, gOf, hlook, ho, o1, o2, o3, c1, c2, c3, hlt, Inst.v, Inst.d, h0, h1, h2, h3, h4]
  · unfold plainI plainN
    rw [wr_off hlt]
    simp only [nextN_off hlt]
    by_cases h0 : valN L n 6 = 0
    · simp [k_play_Picks_plain, canK_canH, num_call, wr_off hlt, nextN_off hlt, ht, hb, hb1, hne, hne2, gOf_below hb, gOf, hlook, ho, Inst.v, Inst.d, h0]
    by_cases h1 : valN L n 6 = 1
    · simp [k_play_Picks_plain, canK_canH, num_call, wr_off hlt, nextN_off hlt, ht, hb, hb1, hne, hne2, gOf_below hb, gOf, hlook, ho, Inst.v, Inst.d, h0, h1]
    by_cases h2 : valN L n 6 = 2
    · simp [k_play_Picks_plain, canK_canH, num_call, wr_off hlt, nextN_off hlt, ht, hb, hb1, hne, hne2, gOf_below hb, gOf, hlook, ho, Inst.v, Inst.d, h0, h1, h2]
    by_cases h3 : valN L n 6 = 3
    · simp [k_play_Picks_plain, canK_canH, num_call, wr_off hlt, nextN_off hlt, ht, hb, hb1, hne, hne2, gOf_below hb, gOf, hlook, ho, Inst.v, Inst.d, h0, h1, h2, h3]
    by_cases h4 : valN L n 6 = 4
    · simp [k_play_Picks_plain, canK_canH, num_call, wr_off hlt, nextN_off hlt, ht, hb, hb1, hne, hne2, gOf_below hb, gOf, hlook, ho, Inst.v, Inst.d, h0, h1, h2, h3, h4]
    simp [k_play_Picks_plain, canK_canH, num_call, wr_off hlt, nextN_off hlt, ht, hb, hb1, hne, hne2, gOf_below hb, gOf, hlook, ho, Inst.v, Inst.d, h0, h1, h2, h3, h4]
end Go.Cd
namespace Go.Cd
open Go Go.Fw
theorem take_map_lenP {α β : Type} (f : α → β) (l : List α) : List.take l.length (List.map f l) = List.map f l := by
  rw [← List.length_map (f := f), List.take_length]
def aV (b : Nat) : List Inst → V
  | [] => .d (.sl true [])
  | x :: l => .sl false b 0 (x :: l).length
def aH (b : Nat) : List Inst → Hp
  | [] => []
  | x :: l => [(b, .row true ((x :: l).map Inst.d))]
def aN : List Inst → Nat
  | [] => 0
  | _ :: _ => 1
theorem natF (h b : Nat) (hb : h < b) : (¬ b = b + 1) ∧ (¬ b + 1 = b) ∧ (¬ b = b + 1 + 1) ∧ (¬ b + 1 + 1 = b) ∧ (¬ b = b + 1 + 1 + 1) ∧ (¬ b + 1 + 1 + 1 = b) ∧ (¬ b = b + 1 + 1 + 1 + 1) ∧ (¬ b + 1 + 1 + 1 + 1 = b) ∧ (¬ b < h) ∧ (¬ b = h) ∧ (¬ h = b) ∧ (h < b) ∧ (¬ b + 1 = b + 1 + 1) ∧ (¬ b + 1 + 1 = b + 1) ∧ (¬ b + 1 = b + 1 + 1 + 1) ∧ (¬ b + 1 + 1 + 1 = b + 1) ∧ (¬ b + 1 = b + 1 + 1 + 1 + 1) ∧ (¬ b + 1 + 1 + 1 + 1 = b + 1) ∧ (¬ b + 1 < b) ∧ (¬ b + 1 < h) ∧ (¬ b + 1 = h) ∧ (¬ h = b + 1) ∧ (h < b + 1) ∧ (¬ b + 1 + 1 = b + 1 + 1 + 1) ∧ (¬ b + 1 + 1 + 1 = b + 1 + 1) ∧ (¬ b + 1 + 1 = b + 1 + 1 + 1 + 1) ∧ (¬ b + 1 + 1 + 1 + 1 = b + 1 + 1) ∧ (¬ b + 1 + 1 < b) ∧ (¬ b + 1 + 1 < h) ∧ (¬ b + 1 + 1 = h) ∧ (¬ h = b + 1 + 1) ∧ (h < b + 1 + 1) ∧ (¬ b + 1 + 1 + 1 = b + 1 + 1 + 1 + 1) ∧ (¬ b + 1 + 1 + 1 + 1 = b + 1 + 1 + 1) ∧ (¬ b + 1 + 1 + 1 < b) ∧ (¬ b + 1 + 1 + 1 < h) ∧ (¬ b + 1 + 1 + 1 = h) ∧ (¬ h = b + 1 + 1 + 1) ∧ (h < b + 1 + 1 + 1) ∧ (¬ b + 1 + 1 + 1 + 1 < b) ∧ (¬ b + 1 + 1 + 1 + 1 < h) ∧ (¬ b + 1 + 1 + 1 + 1 = h) ∧ (¬ h = b + 1 + 1 + 1 + 1) ∧ (h < b + 1 + 1 + 1 + 1) := by omega
theorem valN_range {L : List D} {n m : Int} (ho : NumOk L n) (hm : 0 < m) : 0 ≤ valN L n m ∧ valN L n m < m := by
  unfold valN
  split
  · exact ⟨Int.emod_nonneg _ (by omega), Int.emod_lt_of_pos _ hm⟩
  · exact ⟨by omega, hm⟩
theorem valN_off {L : List D} {n m : Int} (hl : ¬ n < L.length) : valN L n m = 0 := by
  unfold valN
  rw [List.getElem?_eq_none (by omega)]
def endI : Inst := ⟨0, 0, 0, 0⟩
theorem hputs_append (hp : Hp) : ∀ (a b : Hp), hputs hp (a ++ b) = hputs (hputs hp a) b
  | [], _ => rfl
  | (i, x) :: a, b => hputs_append (hput hp i x) a b
end Go.Cd
