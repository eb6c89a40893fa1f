/- What simp takes of the evaluator's equations. No conditions. -/
import Derived.Test.YtfddchjmpmjcfaaGreatS2
set_option linter.unusedVariables false
set_option linter.unusedSimpArgs false
namespace Go.Fw
open Go
theorem opt_look {e : Env} : optV e none = some none := rfl
theorem optV_some {e : Env} {x : Opd} : optV e (some x) = match val e x with | .int _ n => some (some n) | _ => none := rfl
/-- A value chosen, then loaded. -/
theorem after_mk (e : Env) (h : Hp) (t : Nat → Option Blk) (b n0 : Nat) (d : Option Nat) (v : V) (u : Hp) (n : Nat) : St.after ⟨e, h, t, b, n0⟩ d v u n = ⟨putO e d v, hputs h u, t, b, n⟩ := rfl
theorem gOf_hlook (h : Hp) (x : Nat) : gOf h (fun _ => none) x = hlook h x := by
  simp only [gOf]
  cases hlook h x <;> rfl
theorem gOf_fun (h : Hp) : gOf h (fun _ => none) = hlook h := funext (gOf_hlook h)
attribute [simp] run_skip run_ret run_ext run_seq run_cond run_blk run_reg run_nil
attribute [simp] thenK_nrm thenK_ret thenK_ext thenK_none blkK_nrm blkK_ret blkK_ext blkK_none headK_some headK_none roundK_ret roundK_ext roundK_none regK_st regK_none condK_bool calK_val calK_none resK_mk datK_ds datK_none datK0_some dafK_ds dafK_none dafK0_some resKu_mk cavK_clo canK_some canK_none retK_some outK_nrm outK_ret outK_none bodyK_some dsK_some valK_none
attribute [simp] calN_nil calN_val calN_ite clash unspared
attribute [simp] thenK_ite blkK_ite roundK_ite regK_ite calK_ite datK_ite dafK_ite outK_ite valK_ite
attribute [simp] binV_add binV_sub binV_mul binV_quo binV_rem binV_and binV_or binV_xor binV_andNot binV_shl binV_shr binV_lss binV_leq binV_gtr binV_geq binV_eql_int binV_neq_int binV_eql_bool binV_neq_bool binV_eql_nil binV_neq_nil unV_not unV_neg unV_xor
attribute [simp] o_mv o_bin o_un o_pick o_cv o_len o_ld o_fa o_fd o_ia o_ix o_slc o_ex o_bld o_mx o_mn o_box o_alc o_mkm o_st o_mu o_lk o_app o_tos tosV o_tob tobV o_cap capV0 o_apz apzV isNil0 o_bsl o_mks o_dat o_daf o_cal o_cav o_mkf o_clr o_gu opK_some opK_none opK_ite stK_some stK_none stK_ite nwK_some nwK_none nwK_ite guK_bool guK_tup pickV_bool pickV_bb pickV_ii cvV_int iaV_int ixV_int slcV_some exV_tup mksV_int
attribute [simp] params Fw.look put putO Fw.hputs hput hlook val forget resOf resV vsOf V.isUnd argV KI.dst after_mk gOf_fun fin_int fin_bool
attribute [simp] toDs toD loadV saveV storeV fieldA partV V.at D.at V.set D.set ofD V.pure? V.pures? lenOf lenV indexA elemsOf sliceV isNil anyUnd bldV lkV muV mapFind mapPut appendV bslV freeze freezes optV maxV mostV V.count pieceOf clearV adopt adopts argVs D.flat D.flats
end Go.Fw
