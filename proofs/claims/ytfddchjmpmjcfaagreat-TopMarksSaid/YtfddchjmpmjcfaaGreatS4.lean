/- Numbers that fit; handles at a loop's head. No conditions. -/
import Derived.Test.YtfddchjmpmjcfaaGreatS3
set_option linter.unusedVariables false
set_option linter.unusedSimpArgs false
namespace Go.Fw
open Go
/-- At a loop's head, and at the end of a call of one's own. -/
def canonH (e : Env) (s : St) : Option St := canon e s
variable {kp : Nat → Option KF}
theorem run_loopH (keep : List Nat) (a : K) (s : St) : run kp (.code (.loop keep a) s) = headK kp (canonH (kept s.env keep) s) keep a := run_loop keep a s
theorem roundK_nrmH (s : St) (keep : List Nat) (a : K) : roundK kp (some (.out .nrm s)) keep a = headK kp (canonH (kept s.env keep) s) keep a := rfl
theorem calK_canH (e : Env) (s : St) (d : Nat) (r : List GI) (s0 : St) : calK kp (canK (canon e s)) d r s0 = calK kp (canK (canonH e s)) d r s0 := rfl
theorem canonH_def (e : Env) (s : St) : canonH e s =
    if (envHs e ++ hpHs (outer s.base s.hp) ++ hpHs (gathered s.g id s.base (reach s.g s.base 4096 (envHs e ++ hpHs (outer s.base s.hp)) []))).all (fun h => decide (h < s.base) || (reach s.g s.base 4096 (envHs e ++ hpHs (outer s.base s.hp)) []).contains h) then
      some { env := envRen (renOf s.base (reach s.g s.base 4096 (envHs e ++ hpHs (outer s.base s.hp)) [])) e, hp := hpRen (renOf s.base (reach s.g s.base 4096 (envHs e ++ hpHs (outer s.base s.hp)) [])) (outer s.base s.hp) ++ gathered s.g (renOf s.base (reach s.g s.base 4096 (envHs e ++ hpHs (outer s.base s.hp)) [])) s.base (reach s.g s.base 4096 (envHs e ++ hpHs (outer s.base s.hp)) []), tl := s.tl, base := s.base, next := s.base + (reach s.g s.base 4096 (envHs e ++ hpHs (outer s.base s.hp)) []).length }
    else none := rfl
theorem calN_canH (e : Env) (s : St) (nt : List Nat) (d : Nat) (r : List GI) (s0 : St) : calN kp (canK (canon e s)) nt d r s0 = calN kp (canK (canonH e s)) nt d r s0 := rfl
attribute [simp] calN_canH
attribute [simp] run_loopH roundK_nrmH calK_canH canonH_def
attribute [simp] fin ownAlls ownAll apartHs D.free D.frees
attribute [simp] reach kept envHs hpHs envRen hpRen renOf idx gathered outer V.hs V.hss V.ren V.rens Blk.hs Blk.ren mapRen St.g_mk
theorem flats_pure {g : Nat → Option Blk} : True := trivial
mutual
theorem toD_argV {g : Nat → Option Blk} : ∀ (d : D), toD g (Fw.argV d) = some d
  | .int _ _ => rfl
  | .bool _ => rfl
  | .sl _ _ => rfl
  | .str _ => rfl
  | .agg l => by
    simp only [Fw.argV]
    split
    · rfl
    · simp only [toD, toDs_argVs l]
theorem toDs_argVs {g : Nat → Option Blk} : ∀ (l : List D), toDs g (Fw.argVs l) = some l
  | [] => rfl
  | d :: l => by simp only [Fw.argVs, toDs, toD_argV d, toDs_argVs l]
end
mutual
theorem argV_hs : ∀ (d : D), (Fw.argV d).hs = []
  | .int _ _ => rfl
  | .bool _ => rfl
  | .sl _ _ => rfl
  | .str _ => rfl
  | .agg l => by
    simp only [Fw.argV]
    split
    · rfl
    · simp only [V.hs, argVs_hss l]
theorem argVs_hss : ∀ (l : List D), V.hss (Fw.argVs l) = []
  | [] => rfl
  | d :: l => by simp only [Fw.argVs, V.hss, argV_hs d, argVs_hss l]; rfl
end
mutual
theorem argV_ren {r : Nat → Nat} : ∀ (d : D), (Fw.argV d).ren r = Fw.argV d
  | .int _ _ => rfl
  | .bool _ => rfl
  | .sl _ _ => rfl
  | .str _ => rfl
  | .agg l => by
    simp only [Fw.argV]
    split
    · rfl
    · simp only [V.ren, argVs_rens l]
theorem argVs_rens {r : Nat → Nat} : ∀ (l : List D), V.rens r (Fw.argVs l) = Fw.argVs l
  | [] => rfl
  | d :: l => by simp only [Fw.argVs, V.rens, argV_ren d, argVs_rens l]
end
theorem argV_isUnd (d : D) : (Fw.argV d).isUnd = false := by
  cases d <;> first | rfl | skip
  simp only [Fw.argV]
  split <;> rfl
attribute [simp] toD_argV toDs_argVs argV_hs argVs_hss argV_ren argVs_rens argV_isUnd mostLen
theorem wrap_i64 {x : Int} (h1 : -9223372036854775808 ≤ x) (h2 : x < 9223372036854775808) : IntKind.i64.wrap x = x := by
  simp only [IntKind.wrap, IntKind.bits, IntKind.signed]
  simp
  omega
theorem wrap_i32 {x : Int} (h1 : -2147483648 ≤ x) (h2 : x < 2147483648) : IntKind.i32.wrap x = x := by
  simp only [IntKind.wrap, IntKind.bits, IntKind.signed]
  simp
  omega
theorem wrap_u64 {x : Int} (h1 : 0 ≤ x) (h2 : x < 18446744073709551616) : IntKind.u64.wrap x = x := by
  simp only [IntKind.wrap, IntKind.bits, IntKind.signed]
  simp
  omega
theorem wrap_u32 {x : Int} (h1 : 0 ≤ x) (h2 : x < 4294967296) : IntKind.u32.wrap x = x := by
  simp only [IntKind.wrap, IntKind.bits, IntKind.signed]
  simp
  omega
theorem wrap_u8 {x : Int} (h1 : 0 ≤ x) (h2 : x < 256) : IntKind.u8.wrap x = x := by
  simp only [IntKind.wrap, IntKind.bits, IntKind.signed]
  simp
  omega
theorem wrap_u64_mod (x : Int) : IntKind.u64.wrap x = x % 18446744073709551616 := by simp [IntKind.wrap, IntKind.bits, IntKind.signed]
theorem wrap_u32_mod (x : Int) : IntKind.u32.wrap x = x % 4294967296 := by simp [IntKind.wrap, IntKind.bits, IntKind.signed]
theorem wrap_u8_mod (x : Int) : IntKind.u8.wrap x = x % 256 := by simp [IntKind.wrap, IntKind.bits, IntKind.signed]
theorem wf_i64 {x : Int} (h : (Lit.int .i64 x).wf = true) : -9223372036854775808 ≤ x ∧ x < 9223372036854775808 := by
  simp [Lit.wf, IntKind.min, IntKind.max, IntKind.bits, IntKind.signed] at h
  omega
theorem wf_i32 {x : Int} (h : (Lit.int .i32 x).wf = true) : -2147483648 ≤ x ∧ x < 2147483648 := by
  simp [Lit.wf, IntKind.min, IntKind.max, IntKind.bits, IntKind.signed] at h
  omega
theorem wf_u64 {x : Int} (h : (Lit.int .u64 x).wf = true) : 0 ≤ x ∧ x < 18446744073709551616 := by
  simp [Lit.wf, IntKind.min, IntKind.max, IntKind.bits, IntKind.signed] at h
  omega
theorem wf_u32 {x : Int} (h : (Lit.int .u32 x).wf = true) : 0 ≤ x ∧ x < 4294967296 := by
  simp [Lit.wf, IntKind.min, IntKind.max, IntKind.bits, IntKind.signed] at h
  omega
theorem wf_u8 {x : Int} (h : (Lit.int .u8 x).wf = true) : 0 ≤ x ∧ x < 256 := by
  simp [Lit.wf, IntKind.min, IntKind.max, IntKind.bits, IntKind.signed] at h
  omega
theorem len_i64 {n : Nat} (h : n ≤ maxLen) : (n : Int) < 9223372036854775808 := by simp [maxLen] at h; omega
end Go.Fw
