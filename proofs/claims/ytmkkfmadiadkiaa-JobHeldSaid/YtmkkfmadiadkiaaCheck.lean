/- Each function's code was read as it stands. No conditions. -/
import Derived.Test.YtmkkfmadiadkiaaTypes
import Derived.Test.YtmkkfmadiadkiaaChecked
import Derived.KernelRfl
import Derived.Test.YtmkkfmadiadkiaaFwD
import Derived.Test.YtmkkfmadiadkiaaR6Nats
namespace Go.Cd
open Go Go.Fw Go.Proofs
theorem and2 {a b : Bool} (h : a = true) (k : b = true) : (a && b) = true := by rw [h, k]; rfl
set_option maxRecDepth 100000 in
theorem ok3 : ((fun x : Nat × KF => x.2.nat.isSome || fnOk Try.prog FT x.1 x.2) (3, k_law19_JobAll)) = true := by kernel_rfl
set_option maxRecDepth 100000 in
theorem ok12 : ((fun x : Nat × KF => x.2.nat.isSome || fnOk Try.prog FT x.1 x.2) (12, k_law19_begun)) = true := by kernel_rfl
set_option maxRecDepth 100000 in
theorem ok27 : ((fun x : Nat × KF => x.2.nat.isSome || fnOk Try.prog FT x.1 x.2) (27, k_job_New)) = true := by kernel_rfl
set_option maxRecDepth 100000 in
theorem ok49 : ((fun x : Nat × KF => x.2.nat.isSome || fnOk Try.prog FT x.1 x.2) (49, k_vm_New)) = true := by kernel_rfl
set_option maxRecDepth 100000 in
theorem ok17 : ((fun x : Nat × KF => x.2.nat.isSome || fnOk Try.prog FT x.1 x.2) (17, k_job_Go)) = true := by kernel_rfl
set_option maxRecDepth 100000 in
theorem ok43 : ((fun x : Nat × KF => x.2.nat.isSome || fnOk Try.prog FT x.1 x.2) (43, k_job_twin)) = true := by kernel_rfl
set_option maxRecDepth 100000 in
theorem ok45 : ((fun x : Nat × KF => x.2.nat.isSome || fnOk Try.prog FT x.1 x.2) (45, k_job_machine)) = true := by kernel_rfl
set_option maxRecDepth 100000 in
theorem ok68 : ((fun x : Nat × KF => x.2.nat.isSome || fnOk Try.prog FT x.1 x.2) (68, k_slices_Clone_api_Rep2_api_Rep2)) = true := by kernel_rfl
set_option maxRecDepth 100000 in
theorem ok62 : ((fun x : Nat × KF => x.2.nat.isSome || fnOk Try.prog FT x.1 x.2) (62, k_slices_Clone_int_int)) = true := by kernel_rfl
set_option maxRecDepth 100000 in
theorem ok25 : ((fun x : Nat × KF => x.2.nat.isSome || fnOk Try.prog FT x.1 x.2) (25, k_job_Code)) = true := by kernel_rfl
set_option maxRecDepth 100000 in
theorem ok50 : ((fun x : Nat × KF => x.2.nat.isSome || fnOk Try.prog FT x.1 x.2) (50, k_slices_Clone_api_Inst_api_Inst)) = true := by kernel_rfl
set_option maxRecDepth 100000 in
theorem ok44 : ((fun x : Nat × KF => x.2.nat.isSome || fnOk Try.prog FT x.1 x.2) (44, k_vm_Step)) = true := by kernel_rfl
set_option maxRecDepth 100000 in
theorem ok63 : ((fun x : Nat × KF => x.2.nat.isSome || fnOk Try.prog FT x.1 x.2) (63, k_code_May)) = true := by kernel_rfl
set_option maxRecDepth 100000 in
theorem ok80 : ((fun x : Nat × KF => x.2.nat.isSome || fnOk Try.prog FT x.1 x.2) (80, k_code_memory)) = true := by kernel_rfl
set_option maxRecDepth 100000 in
theorem ok81 : ((fun x : Nat × KF => x.2.nat.isSome || fnOk Try.prog FT x.1 x.2) (81, k_code_within)) = true := by kernel_rfl
set_option maxRecDepth 100000 in
theorem ok64 : ((fun x : Nat × KF => x.2.nat.isSome || fnOk Try.prog FT x.1 x.2) (64, k_vm_twin)) = true := by kernel_rfl
set_option maxRecDepth 100000 in
theorem ok65 : ((fun x : Nat × KF => x.2.nat.isSome || fnOk Try.prog FT x.1 x.2) (65, k_vm_Shift)) = true := by kernel_rfl
set_option maxRecDepth 100000 in
theorem ok66 : ((fun x : Nat × KF => x.2.nat.isSome || fnOk Try.prog FT x.1 x.2) (66, k_vm_Narrow)) = true := by kernel_rfl
set_option maxRecDepth 100000 in
theorem ok67 : ((fun x : Nat × KF => x.2.nat.isSome || fnOk Try.prog FT x.1 x.2) (67, k_vm_goes)) = true := by kernel_rfl
set_option maxRecDepth 100000 in
theorem ok46 : ((fun x : Nat × KF => x.2.nat.isSome || fnOk Try.prog FT x.1 x.2) (46, k_slices_Delete_int_int)) = true := by kernel_rfl
set_option maxRecDepth 100000 in
theorem ok20 : ((fun x : Nat × KF => x.2.nat.isSome || fnOk Try.prog FT x.1 x.2) (20, k_job_Back)) = true := by kernel_rfl
set_option maxRecDepth 100000 in
theorem ok22 : ((fun x : Nat × KF => x.2.nat.isSome || fnOk Try.prog FT x.1 x.2) (22, k_job_Opt)) = true := by kernel_rfl
set_option maxRecDepth 100000 in
theorem ok13 : ((fun x : Nat × KF => x.2.nat.isSome || fnOk Try.prog FT x.1 x.2) (13, k_law19_Light)) = true := by kernel_rfl
set_option maxRecDepth 100000 in
theorem ok14 : ((fun x : Nat × KF => x.2.nat.isSome || fnOk Try.prog FT x.1 x.2) (14, k_play_Made)) = true := by kernel_rfl
set_option maxRecDepth 100000 in
theorem ok15 : ((fun x : Nat × KF => x.2.nat.isSome || fnOk Try.prog FT x.1 x.2) (15, k_play_Picks_Task)) = true := by kernel_rfl
set_option maxRecDepth 100000 in
theorem ok41 : ((fun x : Nat × KF => x.2.nat.isSome || fnOk Try.prog FT x.1 x.2) (41, k_play_Picks_Code)) = true := by kernel_rfl
set_option maxRecDepth 100000 in
theorem ok42 : ((fun x : Nat × KF => x.2.nat.isSome || fnOk Try.prog FT x.1 x.2) (42, k_play_Picks_Num)) = true := by kernel_rfl
set_option maxRecDepth 100000 in
theorem ok61 : ((fun x : Nat × KF => x.2.nat.isSome || fnOk Try.prog FT x.1 x.2) (61, k_play_Picks_some)) = true := by kernel_rfl
set_option maxRecDepth 100000 in
theorem ok79 : ((fun x : Nat × KF => x.2.nat.isSome || fnOk Try.prog FT x.1 x.2) (79, k_play_Picks_plain)) = true := by kernel_rfl
set_option maxRecDepth 100000 in
theorem ok16 : ((fun x : Nat × KF => x.2.nat.isSome || fnOk Try.prog FT x.1 x.2) (16, k_ref19_NewJob)) = true := by kernel_rfl
set_option maxRecDepth 100000 in
theorem ok31 : ((fun x : Nat × KF => x.2.nat.isSome || fnOk Try.prog FT x.1 x.2) (31, k_ref1_NewMachine)) = true := by kernel_rfl
set_option maxRecDepth 100000 in
theorem ok18 : ((fun x : Nat × KF => x.2.nat.isSome || fnOk Try.prog FT x.1 x.2) (18, k_ref19_Go)) = true := by kernel_rfl
set_option maxRecDepth 100000 in
theorem ok26 : ((fun x : Nat × KF => x.2.nat.isSome || fnOk Try.prog FT x.1 x.2) (26, k_ref19_Code)) = true := by kernel_rfl
set_option maxRecDepth 100000 in
theorem ok47 : ((fun x : Nat × KF => x.2.nat.isSome || fnOk Try.prog FT x.1 x.2) (47, k_ref1_Step)) = true := by kernel_rfl
set_option maxRecDepth 100000 in
theorem ok69 : ((fun x : Nat × KF => x.2.nat.isSome || fnOk Try.prog FT x.1 x.2) (69, k_ref1_MayInst)) = true := by kernel_rfl
set_option maxRecDepth 100000 in
theorem ok82 : ((fun x : Nat × KF => x.2.nat.isSome || fnOk Try.prog FT x.1 x.2) (82, k_ref1_places_has)) = true := by kernel_rfl
set_option maxRecDepth 100000 in
theorem ok70 : ((fun x : Nat × KF => x.2.nat.isSome || fnOk Try.prog FT x.1 x.2) (70, k_ref1_Shift)) = true := by kernel_rfl
set_option maxRecDepth 100000 in
theorem ok71 : ((fun x : Nat × KF => x.2.nat.isSome || fnOk Try.prog FT x.1 x.2) (71, k_ref1_Narrow)) = true := by kernel_rfl
set_option maxRecDepth 100000 in
theorem ok83 : ((fun x : Nat × KF => x.2.nat.isSome || fnOk Try.prog FT x.1 x.2) (83, k_ref1_bit)) = true := by kernel_rfl
set_option maxRecDepth 100000 in
theorem ok19 : ((fun x : Nat × KF => x.2.nat.isSome || fnOk Try.prog FT x.1 x.2) (19, k_ref19_SameJob)) = true := by kernel_rfl
set_option maxRecDepth 100000 in
theorem ok30 : ((fun x : Nat × KF => x.2.nat.isSome || fnOk Try.prog FT x.1 x.2) (30, k_ref1_SameMachine)) = true := by kernel_rfl
set_option maxRecDepth 100000 in
theorem ok48 : ((fun x : Nat × KF => x.2.nat.isSome || fnOk Try.prog FT x.1 x.2) (48, k_ref11_SameInts)) = true := by kernel_rfl
set_option maxRecDepth 100000 in
theorem ok21 : ((fun x : Nat × KF => x.2.nat.isSome || fnOk Try.prog FT x.1 x.2) (21, k_ref19_Back)) = true := by kernel_rfl
set_option maxRecDepth 100000 in
theorem ok23 : ((fun x : Nat × KF => x.2.nat.isSome || fnOk Try.prog FT x.1 x.2) (23, k_ref19_OptOf)) = true := by kernel_rfl
set_option maxRecDepth 100000 in
theorem ok24 : ((fun x : Nat × KF => x.2.nat.isSome || fnOk Try.prog FT x.1 x.2) (24, k_ref1_SameCode)) = true := by kernel_rfl
set_option maxRecDepth 100000 in
theorem ok6 : ((fun x : Nat × KF => x.2.nat.isSome || fnOk Try.prog FT x.1 x.2) (6, k_law19_JobHeld)) = true := by kernel_rfl
set_option maxRecDepth 100000 in
theorem allOk : kl.all (fun x => x.2.nat.isSome || fnOk Try.prog FT x.1 x.2) = true := and2 ok3 (and2 ok12 (and2 ok27 (and2 ok49 (and2 ok17 (and2 ok43 (and2 ok45 (and2 ok68 (and2 ok62 (and2 ok25 (and2 ok50 (and2 ok44 (and2 ok63 (and2 ok80 (and2 ok81 (and2 ok64 (and2 ok65 (and2 ok66 (and2 ok67 (and2 ok46 (and2 ok20 (and2 ok22 (and2 ok13 (and2 ok14 (and2 ok15 (and2 ok41 (and2 ok42 (and2 ok61 (and2 ok79 (and2 ok16 (and2 ok31 (and2 ok18 (and2 ok26 (and2 ok47 (and2 ok69 (and2 ok82 (and2 ok70 (and2 ok71 (and2 ok83 (and2 ok19 (and2 ok30 (and2 ok48 (and2 ok21 (and2 ok23 (and2 ok24 (and2 ok6 (rfl))))))))))))))))))))))))))))))))))))))))))))))
set_option maxRecDepth 100000 in
theorem allSgs : tl.all (fun x => sgsOk Try.prog FT x.1) = true := by kernel_rfl
set_option maxRecDepth 100000 in
theorem natIn : kl.all (fun x => match x.2.nat with | none => true | some k => natl.contains (x.1, k)) = true := by kernel_rfl
theorem okOne (f : Nat) (kf : KF) (h1 : (kf.nat.isSome || fnOk Try.prog FT f kf) = true) (h2 : (match kf.nat with | none => true | some k => natl.contains (f, k)) = true) : FnOk Try.prog FT f kf := by
  cases hn : kf.nat with
  | none =>
    rw [hn] at h1
    exact .inl ⟨hn, h1⟩
  | some k =>
    rw [hn] at h2
    exact .inr ⟨k, hn, nats (f, k) (List.contains_iff_mem.1 h2)⟩
set_option maxRecDepth 100000 in
theorem okAll : ∀ f kf, kp f = some kf → FnOk Try.prog FT f kf := fun f kf h =>
  okOne f kf (lookup_all (p := fun x => x.2.nat.isSome || fnOk Try.prog FT x.1 x.2) (f := f) (a := kf) allOk h) (lookup_all (p := fun x => match x.2.nat with | none => true | some k => natl.contains (x.1, k)) (f := f) (a := kf) natIn h)
theorem sgsAll : ∀ f, sgsOk Try.prog FT f = true := fun f => sgs_all allSgs f
end Go.Cd
