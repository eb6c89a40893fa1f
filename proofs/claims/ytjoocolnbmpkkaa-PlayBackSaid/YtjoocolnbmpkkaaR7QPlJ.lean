/- Readers, the document's. No conditions. -/
import Derived.Test.YtjoocolnbmpkkaaR7QPlI
set_option linter.unusedVariables false
set_option linter.unusedSimpArgs false
namespace Go.Cd
open Go Go.Fw
def rW (r r' : Rd) (n h : Nat) : Hp := if r.bad = true ∧ ¬ r.b.length < n then [] else [(h, r'.box)]
theorem hput_same : ∀ {hp : Hp} {h : Nat} {x : Blk}, hlook hp h = some x → hput hp h x = hp
  | [], h, x, e => by simp [hlook] at e
  | (i, y) :: hp, h, x, e => by
    unfold hlook at e
    unfold hput
    by_cases hi : i = h
    · rw [if_pos hi] at e ⊢; injection e with e; rw [hi, e]
    · rw [if_neg hi] at e ⊢; rw [hput_same e]
theorem rW_in {hp : Hp} {r r' : Rd} {n h : Nat} (hl : hlook hp h = some r.box) (hs : r.bad = true → r' = r) : hputs hp (rW r r' n h) = hput hp h r'.box := by
  unfold rW
  split
  · rename_i g
    rw [hs g.1, hput_same hl]; rfl
  · rfl
theorem rdrop_bad {r : Rd} (n : Nat) (h : r.bad = true) : r.rdrop n = r := by
  unfold Rd.rdrop Rd.over
  rw [h]
  simp only [Bool.true_or, if_true]
  rw [← h]
theorem rW_in1 {hp : Hp} {r : Rd} {n h : Nat} (hl : hlook hp h = some r.box) : hputs hp (rW r (r.rdrop n) n h) = hput hp h (r.rdrop n).box := rW_in hl (rdrop_bad n)
theorem rW_in2 {hp : Hp} {r : Rd} {h : Nat} (hl : hlook hp h = some r.box) : hputs hp (rW r ((r.rdrop 1).rdrop 1) 1 h) = hput hp h ((r.rdrop 1).rdrop 1).box := rW_in hl (fun e => by rw [rdrop_bad 1 e, rdrop_bad 1 e])
theorem rdrop_ok {r : Rd} (n : Nat) (h : bytesOk r.b ∧ r.b.length ≤ 100000) : bytesOk (r.rdrop n).b ∧ (r.rdrop n).b.length ≤ 100000 := by
  unfold Rd.rdrop
  split
  · exact h
  · exact ⟨fun x hx => h.1 x (List.mem_of_mem_drop hx), by simp; omega⟩
theorem rnum_c (tl : Nat → Option Blk) (b h : Nat) (n : Nat) (hn : n ≤ 8) (hk : RdOk (tl h)) (hb : h < b) : run kp (.call f_ref27_reader_num [.ptr h [], .int .i64 n] tl b) = some (.val (.int .u64 ((rdOf (tl h)).num n)) (rW (rdOf (tl h)) ((rdOf (tl h)).rdrop n) n h) b) := by
  rw [rnum_call tl b h n hn hk hb]
  obtain ⟨r, ht, _, _⟩ := hk
  rw [ht, rnumA_mk, rdOf_mk]
  rfl
theorem rnum_c1 (tl : Nat → Option Blk) (b h : Nat) (hk : RdOk (tl h)) (hb : h < b) : run kp (.call f_ref27_reader_num [.ptr h [], .int .i64 1] tl b) = some (.val (.int .u64 ((rdOf (tl h)).num 1)) (rW (rdOf (tl h)) ((rdOf (tl h)).rdrop 1) 1 h) b) := rnum_c tl b h 1 (by omega) hk hb
theorem rnum_c2 (tl : Nat → Option Blk) (b h : Nat) (hk : RdOk (tl h)) (hb : h < b) : run kp (.call f_ref27_reader_num [.ptr h [], .int .i64 2] tl b) = some (.val (.int .u64 ((rdOf (tl h)).num 2)) (rW (rdOf (tl h)) ((rdOf (tl h)).rdrop 2) 2 h) b) := rnum_c tl b h 2 (by omega) hk hb
theorem rnum_c4 (tl : Nat → Option Blk) (b h : Nat) (hk : RdOk (tl h)) (hb : h < b) : run kp (.call f_ref27_reader_num [.ptr h [], .int .i64 4] tl b) = some (.val (.int .u64 ((rdOf (tl h)).num 4)) (rW (rdOf (tl h)) ((rdOf (tl h)).rdrop 4) 4 h) b) := rnum_c tl b h 4 (by omega) hk hb
theorem rnum_c8 (tl : Nat → Option Blk) (b h : Nat) (hk : RdOk (tl h)) (hb : h < b) : run kp (.call f_ref27_reader_num [.ptr h [], .int .i64 8] tl b) = some (.val (.int .u64 ((rdOf (tl h)).num 8)) (rW (rdOf (tl h)) ((rdOf (tl h)).rdrop 8) 8 h) b) := rnum_c tl b h 8 (by omega) hk hb
theorem num1_wrap {r : Rd} (hr : bytesOk r.b) : IntKind.i64.wrap (r.num 1) = r.num 1 := by
  have := num1_range hr
  exact wrap_i64 (by omega) (by omega)
set_option maxRecDepth 10000 in
set_option maxHeartbeats 8000000 in
theorem rhandle_c (tl : Nat → Option Blk) (b h : Nat) (hk : RdOk (tl h)) (hb : h < b) :
    run kp (.call f_ref27_reader_handle [.ptr h []] tl b) = some (.val (.d (.agg [.int .i64 ((rdOf (tl h)).num 1), .int .i64 (((rdOf (tl h)).rdrop 1).num 1)])) (rW (rdOf (tl h)) (((rdOf (tl h)).rdrop 1).rdrop 1) 1 h) b) := by
  have F := natF8 h b hb
  obtain ⟨r, ht, hr⟩ := hk
  have d1 := rdrop_ok 1 hr
  have w1 := num1_wrap hr.1
  have w2 := num1_wrap d1.1
  rw [ht, rdOf_mk, run_call, kp_ref27_reader_handle]
  cases hbad : r.bad with
  | true =>
    have e := rdrop_bad 1 hbad
    rw [e] at d1 w2 ⊢
    rw [e]
    by_cases g : r.b.length < 1
    · have rw0 : rW r r 1 h = [(h, r.box)] := by unfold rW; rw [if_neg (by simp [g])]
      rw [rw0]
      simp [-Blk.hs, -Blk.ren, rdbox_hs, rdbox_ren, hsB, hsR, hsD, renB, renR, renD, k_ref27_reader_handle, canK_canH, rnum_c1, ht, hb, F, gOf_below hb, gOf, hlook, hr, d1, w1, w2, e, rw0]
    · have rw0 : rW r r 1 h = [] := by unfold rW; rw [if_pos ⟨hbad, g⟩]
      rw [rw0]
      simp [-Blk.hs, -Blk.ren, rdbox_hs, rdbox_ren, hsB, hsR, hsD, renB, renR, renD, k_ref27_reader_handle, canK_canH, rnum_c1, ht, hb, F, gOf_below hb, gOf, hlook, hr, d1, w1, w2, e, rw0]
  | false =>
    have rw0 : ∀ r' n, rW r r' n h = [(h, r'.box)] := fun r' n => by unfold rW; rw [if_neg (by simp [hbad])]
    simp [-Blk.hs, -Blk.ren, rdbox_hs, rdbox_ren, hsB, hsR, hsD, renB, renR, renD, k_ref27_reader_handle, canK_canH, rnum_c1, ht, hb, F, gOf_below hb, gOf, hlook, hr, d1, w1, w2, rw0, rW_in1]
set_option maxRecDepth 10000 in
theorem take_short {c : List Int} (h : c.length < 7) (nl : Bool) : run kp (.data f_ref1_TakeInst [.sl nl (c.map u8d)]) = some (.ds [zI.d, .bool false]) := by
  have g : (c.length : Int) < 7 := by omega
  rw [run_data, run_call, kp_ref1_TakeInst]
  simp [k_ref1_TakeInst, g, zI, Inst.d]
end Go.Cd
