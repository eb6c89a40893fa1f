/- Choices out of numbers: Num and plain of the makers of programs. No conditions. -/
import Derived.Test.YtgjeondicdipaaaCode
import Derived.Test.YtgjeondicdipaaaS6
set_option linter.unusedVariables false
set_option linter.unusedSimpArgs false
namespace Go.Cd
open Go Go.Fw
def nckP (x : V) : Option V := match x with | .ptr h p => some (.ptr h p) | .rp x => some (.rp x) | .clo f a b => some (.clo f a b) | _ => none
@[simp] theorem nckP_ptr (h : Nat) (p : List Nat) : nckP (.ptr h p) = some (.ptr h p) := rfl
@[simp] theorem o_nckP {kp : Nat → Option KF} {r : List GI} {e : Env} {h : Hp} {t : Nat → Option Blk} {b n : Nat} (d : Nat) (x : Opd) : run kp (.ops (⟨none, .nck d x⟩ :: r) ⟨e, h, t, b, n⟩) = opK kp (nckP (val e x)) d r e h t b n := by
  rw [run_cons]
  show effK kp (eff (.nck d x) e _ n) _ r _ = _
  simp only [eff, nckP]
  cases val e x <;> rfl
def NumOk (L : List D) (n : Int) : Prop := 0 ≤ n ∧ n ≤ L.length ∧ L.length ≤ 1000 ∧ ∀ x ∈ L, ∃ v, x = .int .u8 v ∧ 0 ≤ v ∧ v < 256
def valN (L : List D) (n m : Int) : Int := match L[n.toNat]? with | some (.int _ x) => x % m | _ => 0
def nextN (L : List D) (n : Int) : Int := if n < L.length then n + 1 else n
def wr (nl : Bool) (L : List D) (n : Int) (h : Nat) (n' : Int) : Hp := if n < L.length then [(h, .box (.d (.agg [.sl nl L, .int .i64 n'])))] else []
def PkOk (o : Option Blk) : Prop := ∃ nl L n, o = some (.box (.d (.agg [.sl nl L, .int .i64 n]))) ∧ NumOk L n
def numA (o : Option Blk) (h : Nat) (m : Int) (b : Nat) : Option Ans := match o with
  | some (.box (.d (.agg [.sl nl L, .int .i64 n]))) => some (.val (.int .i64 (valN L n m)) (wr nl L n h (nextN L n)) b)
  | _ => none
@[simp] theorem numA_mk (nl : Bool) (L : List D) (n : Int) (h : Nat) (m : Int) (b : Nat) : numA (some (.box (.d (.agg [.sl nl L, .int .i64 n])))) h m b = some (.val (.int .i64 (valN L n m)) (wr nl L n h (nextN L n)) b) := rfl
@[simp] theorem pkOk_mk (nl : Bool) (L : List D) (n : Int) : PkOk (some (.box (.d (.agg [.sl nl L, .int .i64 n])))) ↔ NumOk L n := by
  constructor
  · rintro ⟨nl', L', n', e, h⟩
    injection e with e; injection e with e; injection e with e; injection e with e; injection e with e1 e2; injection e1 with e3 e4; injection e2 with e2 _; injection e2 with e5 e6
    subst e4 e6; exact h
  · exact fun h => ⟨nl, L, n, rfl, h⟩
theorem nextN_ok {L : List D} {n : Int} (h : NumOk L n) : NumOk L (nextN L n) := by
  obtain ⟨a, b, c, d⟩ := h
  unfold nextN
  refine ⟨?_, ?_, c, d⟩ <;> split <;> omega
def KeepN (L : List D) (n n' : Int) : Prop := ¬ n < L.length → n' = n
theorem keep_next (L : List D) (n : Int) : KeepN L n (nextN L n) := fun h => by unfold nextN; rw [if_neg h]
theorem wr_in {hp : Hp} {nl : Bool} {L : List D} {n : Int} {h : Nat} {n' : Int} (hl : hlook hp h = some (.box (.d (.agg [.sl nl L, .int .i64 n])))) (hk : KeepN L n n') : hputs hp (wr nl L n h n') = hput hp h (.box (.d (.agg [.sl nl L, .int .i64 n']))) := by
  unfold wr
  split
  · rfl
  · rw [hk (by assumption)]
    show hp = _
    induction hp with
    | nil => simp [hlook] at hl
    | cons p hp ih =>
      obtain ⟨i, b⟩ := p
      by_cases e : i = h
      · subst e; simp [hlook] at hl; subst hl; simp [hput]
      · simp [hlook, e] at hl; simp [hput, e]; exact ih hl
theorem wr_on {nl : Bool} {L : List D} {n : Int} {h : Nat} {n' : Int} (hl : n < L.length) : wr nl L n h n' = [(h, .box (.d (.agg [.sl nl L, .int .i64 n'])))] := if_pos hl
theorem wr_off {nl : Bool} {L : List D} {n : Int} {h : Nat} {n' : Int} (hl : ¬ n < L.length) : wr nl L n h n' = [] := if_neg hl
theorem nextN_off {L : List D} {n : Int} (hl : ¬ n < L.length) : nextN L n = n := if_neg hl
set_option maxHeartbeats 2000000 in
theorem num_call (tl : Nat → Option Blk) (b h : Nat) (m : Int) (hk : PkOk (tl h)) (hb : h < b) (hm : 0 < m ∧ m ≤ 1000) : run kp (.call f_play_Picks_Num [.ptr h [], .int .i64 m] tl b) = numA (tl h) h m b := by
  obtain ⟨nl, L, n, ht, h0, h1, h2, h3⟩ := hk
  rw [ht, numA_mk, run_call, kp_play_Picks_Num]
  by_cases hlt : n < L.length
  · have hnn : n.toNat < L.length := by omega
    obtain ⟨v, hv, hv0, hv1⟩ := h3 L[n.toNat] (List.getElem_mem hnn)
    have hq : L[n.toNat]? = some (.int .u8 v) := by rw [List.getElem?_eq_getElem hnn, hv]
    have hv2 : ∀ hh : n.toNat < L.length, L[n.toNat] = .int .u8 v := fun _ => hv
    have e1 : valN L n m = v % m := by unfold valN; rw [hq]
    have w1 : IntKind.i64.wrap (n + 1) = n + 1 := wrap_i64 (by omega) (by omega)
    have w2 : IntKind.i64.wrap (n + 1 - 1) = n := by rw [wrap_i64 (by omega) (by omega)]; omega
    have w0 : IntKind.i64.wrap n = n := wrap_i64 (by omega) (by omega)
    have w3 : IntKind.i64.wrap v = v := wrap_i64 (by omega) (by omega)
    have w4 : v.tmod m = v % m := Int.tmod_eq_emod_of_nonneg hv0
    have w5 : 0 ≤ v % m := Int.emod_nonneg _ (by omega)
    have w6 : v % m < m := Int.emod_lt_of_pos _ hm.1
    have w7 : IntKind.i64.wrap (v % m) = v % m := wrap_i64 (by omega) (by omega)
    have hge : ¬ (L.length : Int) ≤ n := by omega
    have hm0 : ¬ m = 0 := by omega
    rw [e1, wr_on hlt]
    unfold nextN
    rw [if_pos hlt]
    simp [k_play_Picks_Num, canK_canH, ht, hb, gOf_below hb, hge, w0, w1, w2, w3, w4, w7, h0, hlt, hnn, hq, hv2, hm0]
  · have hge : (L.length : Int) ≤ n := by omega
    have e1 : valN L n m = 0 := by
      unfold valN
      rw [List.getElem?_eq_none (by omega)]
    rw [e1, wr_off hlt]
    simp [k_play_Picks_Num, canK_canH, ht, hb, gOf_below hb, hge]
theorem made_call (tl : Nat → Option Blk) (b : Nat) (nl : Bool) (L : List D) : run kp (.call f_play_Made [.d (.sl nl L)] tl b) = some (.val (.ptr b []) [(b, .box (.d (.agg [.sl nl L, .int .i64 0])))] (b + 1)) := by
  rw [run_call, kp_play_Made]
  simp [k_play_Made, canK_canH, gOf, hlook]
end Go.Cd
