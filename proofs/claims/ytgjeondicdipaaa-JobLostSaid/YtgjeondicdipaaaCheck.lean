/- Each function's code was read as it stands. No conditions. -/
import Derived.Test.YtgjeondicdipaaaTypes
import Derived.Test.YtgjeondicdipaaaChecked
import Derived.KernelRfl
import Derived.Test.YtgjeondicdipaaaFwD
import Derived.Test.YtgjeondicdipaaaR9Nats
namespace Go.Cd
open Go Go.Fw Go.Proofs
theorem and2 {a b : Bool} (h : a = true) (k : b = true) : (a && b) = true := by rw [h, k]; rfl
set_option maxRecDepth 100000 in
theorem ok3 : ((fun x : Nat × KF => x.2.nat.isSome || fnOk Try.prog FT x.1 x.2) (3, k_law22_FaultTwice)) = true := by kernel_rfl
set_option maxRecDepth 100000 in
theorem ok6 : ((fun x : Nat × KF => x.2.nat.isSome || fnOk Try.prog FT x.1 x.2) (6, k_law22_begun)) = true := by kernel_rfl
set_option maxRecDepth 100000 in
theorem ok9 : ((fun x : Nat × KF => x.2.nat.isSome || fnOk Try.prog FT x.1 x.2) (9, k_ref19_NewJob)) = true := by kernel_rfl
set_option maxRecDepth 100000 in
theorem ok24 : ((fun x : Nat × KF => x.2.nat.isSome || fnOk Try.prog FT x.1 x.2) (24, k_ref1_NewMachine)) = true := by kernel_rfl
set_option maxRecDepth 100000 in
theorem ok11 : ((fun x : Nat × KF => x.2.nat.isSome || fnOk Try.prog FT x.1 x.2) (11, k_fault_Hit)) = true := by kernel_rfl
set_option maxRecDepth 100000 in
theorem ok17 : ((fun x : Nat × KF => x.2.nat.isSome || fnOk Try.prog FT x.1 x.2) (17, k_job_Back)) = true := by kernel_rfl
set_option maxRecDepth 100000 in
theorem ok35 : ((fun x : Nat × KF => x.2.nat.isSome || fnOk Try.prog FT x.1 x.2) (35, k_job_twin)) = true := by kernel_rfl
set_option maxRecDepth 100000 in
theorem ok36 : ((fun x : Nat × KF => x.2.nat.isSome || fnOk Try.prog FT x.1 x.2) (36, k_job_machine)) = true := by kernel_rfl
set_option maxRecDepth 100000 in
theorem ok39 : ((fun x : Nat × KF => x.2.nat.isSome || fnOk Try.prog FT x.1 x.2) (39, k_slices_Clone_api_Rep2_api_Rep2)) = true := by kernel_rfl
set_option maxRecDepth 100000 in
theorem ok41 : ((fun x : Nat × KF => x.2.nat.isSome || fnOk Try.prog FT x.1 x.2) (41, k_slices_Clone_int_int)) = true := by kernel_rfl
set_option maxRecDepth 100000 in
theorem ok34 : ((fun x : Nat × KF => x.2.nat.isSome || fnOk Try.prog FT x.1 x.2) (34, k_vm_New)) = true := by kernel_rfl
set_option maxRecDepth 100000 in
theorem ok27 : ((fun x : Nat × KF => x.2.nat.isSome || fnOk Try.prog FT x.1 x.2) (27, k_sema_All)) = true := by kernel_rfl
set_option maxRecDepth 100000 in
theorem ok47 : ((fun x : Nat × KF => x.2.nat.isSome || fnOk Try.prog FT x.1 x.2) (47, k_slices_Clone_api_Sema_api_Sema)) = true := by kernel_rfl
set_option maxRecDepth 100000 in
theorem ok48 : ((fun x : Nat × KF => x.2.nat.isSome || fnOk Try.prog FT x.1 x.2) (48, k_sema_holds)) = true := by kernel_rfl
set_option maxRecDepth 100000 in
theorem ok62 : ((fun x : Nat × KF => x.2.nat.isSome || fnOk Try.prog FT x.1 x.2) (62, k_sema_has)) = true := by kernel_rfl
set_option maxRecDepth 100000 in
theorem ok21 : ((fun x : Nat × KF => x.2.nat.isSome || fnOk Try.prog FT x.1 x.2) (21, k_fault_Loses)) = true := by kernel_rfl
set_option maxRecDepth 100000 in
theorem ok42 : ((fun x : Nat × KF => x.2.nat.isSome || fnOk Try.prog FT x.1 x.2) (42, k_fault_Loses_1)) = true := by kernel_rfl
set_option maxRecDepth 100000 in
theorem ok40 : ((fun x : Nat × KF => x.2.nat.isSome || fnOk Try.prog FT x.1 x.2) (40, k_slices_DeleteFunc_int_int)) = true := by kernel_rfl
set_option maxRecDepth 100000 in
theorem ok58 : ((fun x : Nat × KF => x.2.nat.isSome || fnOk Try.prog FT x.1 x.2) (58, k_slices_IndexFunc_int_int)) = true := by kernel_rfl
set_option maxRecDepth 100000 in
theorem ok7 : ((fun x : Nat × KF => x.2.nat.isSome || fnOk Try.prog FT x.1 x.2) (7, k_play_Made)) = true := by kernel_rfl
set_option maxRecDepth 100000 in
theorem ok8 : ((fun x : Nat × KF => x.2.nat.isSome || fnOk Try.prog FT x.1 x.2) (8, k_play_Picks_Task)) = true := by kernel_rfl
set_option maxRecDepth 100000 in
theorem ok22 : ((fun x : Nat × KF => x.2.nat.isSome || fnOk Try.prog FT x.1 x.2) (22, k_play_Picks_Code)) = true := by kernel_rfl
set_option maxRecDepth 100000 in
theorem ok23 : ((fun x : Nat × KF => x.2.nat.isSome || fnOk Try.prog FT x.1 x.2) (23, k_play_Picks_Num)) = true := by kernel_rfl
set_option maxRecDepth 100000 in
theorem ok43 : ((fun x : Nat × KF => x.2.nat.isSome || fnOk Try.prog FT x.1 x.2) (43, k_play_Picks_some)) = true := by kernel_rfl
set_option maxRecDepth 100000 in
theorem ok59 : ((fun x : Nat × KF => x.2.nat.isSome || fnOk Try.prog FT x.1 x.2) (59, k_play_Picks_plain)) = true := by kernel_rfl
set_option maxRecDepth 100000 in
theorem ok10 : ((fun x : Nat × KF => x.2.nat.isSome || fnOk Try.prog FT x.1 x.2) (10, k_ref19_Go)) = true := by kernel_rfl
set_option maxRecDepth 100000 in
theorem ok26 : ((fun x : Nat × KF => x.2.nat.isSome || fnOk Try.prog FT x.1 x.2) (26, k_ref19_Code)) = true := by kernel_rfl
set_option maxRecDepth 100000 in
theorem ok25 : ((fun x : Nat × KF => x.2.nat.isSome || fnOk Try.prog FT x.1 x.2) (25, k_ref1_Step)) = true := by kernel_rfl
set_option maxRecDepth 100000 in
theorem ok44 : ((fun x : Nat × KF => x.2.nat.isSome || fnOk Try.prog FT x.1 x.2) (44, k_ref1_MayInst)) = true := by kernel_rfl
set_option maxRecDepth 100000 in
theorem ok60 : ((fun x : Nat × KF => x.2.nat.isSome || fnOk Try.prog FT x.1 x.2) (60, k_ref1_places_has)) = true := by kernel_rfl
set_option maxRecDepth 100000 in
theorem ok45 : ((fun x : Nat × KF => x.2.nat.isSome || fnOk Try.prog FT x.1 x.2) (45, k_ref1_Shift)) = true := by kernel_rfl
set_option maxRecDepth 100000 in
theorem ok46 : ((fun x : Nat × KF => x.2.nat.isSome || fnOk Try.prog FT x.1 x.2) (46, k_ref1_Narrow)) = true := by kernel_rfl
set_option maxRecDepth 100000 in
theorem ok61 : ((fun x : Nat × KF => x.2.nat.isSome || fnOk Try.prog FT x.1 x.2) (61, k_ref1_bit)) = true := by kernel_rfl
set_option maxRecDepth 100000 in
theorem ok12 : ((fun x : Nat × KF => x.2.nat.isSome || fnOk Try.prog FT x.1 x.2) (12, k_ref11_SameSemas)) = true := by kernel_rfl
set_option maxRecDepth 100000 in
theorem ok13 : ((fun x : Nat × KF => x.2.nat.isSome || fnOk Try.prog FT x.1 x.2) (13, k_ref19_SameJob)) = true := by kernel_rfl
set_option maxRecDepth 100000 in
theorem ok20 : ((fun x : Nat × KF => x.2.nat.isSome || fnOk Try.prog FT x.1 x.2) (20, k_ref1_SameMachine)) = true := by kernel_rfl
set_option maxRecDepth 100000 in
theorem ok28 : ((fun x : Nat × KF => x.2.nat.isSome || fnOk Try.prog FT x.1 x.2) (28, k_ref11_SameInts)) = true := by kernel_rfl
set_option maxRecDepth 100000 in
theorem ok4 : ((fun x : Nat × KF => x.2.nat.isSome || fnOk Try.prog FT x.1 x.2) (4, k_law19_JobLost)) = true := by kernel_rfl
set_option maxRecDepth 100000 in
theorem ok14 : ((fun x : Nat × KF => x.2.nat.isSome || fnOk Try.prog FT x.1 x.2) (14, k_law19_begun)) = true := by kernel_rfl
set_option maxRecDepth 100000 in
theorem ok16 : ((fun x : Nat × KF => x.2.nat.isSome || fnOk Try.prog FT x.1 x.2) (16, k_job_New)) = true := by kernel_rfl
set_option maxRecDepth 100000 in
theorem ok18 : ((fun x : Nat × KF => x.2.nat.isSome || fnOk Try.prog FT x.1 x.2) (18, k_job_Go)) = true := by kernel_rfl
set_option maxRecDepth 100000 in
theorem ok30 : ((fun x : Nat × KF => x.2.nat.isSome || fnOk Try.prog FT x.1 x.2) (30, k_job_Code)) = true := by kernel_rfl
set_option maxRecDepth 100000 in
theorem ok49 : ((fun x : Nat × KF => x.2.nat.isSome || fnOk Try.prog FT x.1 x.2) (49, k_slices_Clone_api_Inst_api_Inst)) = true := by kernel_rfl
set_option maxRecDepth 100000 in
theorem ok37 : ((fun x : Nat × KF => x.2.nat.isSome || fnOk Try.prog FT x.1 x.2) (37, k_vm_Step)) = true := by kernel_rfl
set_option maxRecDepth 100000 in
theorem ok53 : ((fun x : Nat × KF => x.2.nat.isSome || fnOk Try.prog FT x.1 x.2) (53, k_code_May)) = true := by kernel_rfl
set_option maxRecDepth 100000 in
theorem ok63 : ((fun x : Nat × KF => x.2.nat.isSome || fnOk Try.prog FT x.1 x.2) (63, k_code_memory)) = true := by kernel_rfl
set_option maxRecDepth 100000 in
theorem ok64 : ((fun x : Nat × KF => x.2.nat.isSome || fnOk Try.prog FT x.1 x.2) (64, k_code_within)) = true := by kernel_rfl
set_option maxRecDepth 100000 in
theorem ok54 : ((fun x : Nat × KF => x.2.nat.isSome || fnOk Try.prog FT x.1 x.2) (54, k_vm_twin)) = true := by kernel_rfl
set_option maxRecDepth 100000 in
theorem ok55 : ((fun x : Nat × KF => x.2.nat.isSome || fnOk Try.prog FT x.1 x.2) (55, k_vm_Shift)) = true := by kernel_rfl
set_option maxRecDepth 100000 in
theorem ok56 : ((fun x : Nat × KF => x.2.nat.isSome || fnOk Try.prog FT x.1 x.2) (56, k_vm_Narrow)) = true := by kernel_rfl
set_option maxRecDepth 100000 in
theorem ok57 : ((fun x : Nat × KF => x.2.nat.isSome || fnOk Try.prog FT x.1 x.2) (57, k_vm_goes)) = true := by kernel_rfl
set_option maxRecDepth 100000 in
theorem ok38 : ((fun x : Nat × KF => x.2.nat.isSome || fnOk Try.prog FT x.1 x.2) (38, k_slices_Delete_int_int)) = true := by kernel_rfl
set_option maxRecDepth 100000 in
theorem ok29 : ((fun x : Nat × KF => x.2.nat.isSome || fnOk Try.prog FT x.1 x.2) (29, k_job_Opt)) = true := by kernel_rfl
set_option maxRecDepth 100000 in
theorem ok15 : ((fun x : Nat × KF => x.2.nat.isSome || fnOk Try.prog FT x.1 x.2) (15, k_ref1_Cost)) = true := by kernel_rfl
set_option maxRecDepth 100000 in
theorem ok31 : ((fun x : Nat × KF => x.2.nat.isSome || fnOk Try.prog FT x.1 x.2) (31, k_ref1_MayCode)) = true := by kernel_rfl
set_option maxRecDepth 100000 in
theorem ok50 : ((fun x : Nat × KF => x.2.nat.isSome || fnOk Try.prog FT x.1 x.2) (50, k_ref1_areas)) = true := by kernel_rfl
set_option maxRecDepth 100000 in
theorem ok51 : ((fun x : Nat × KF => x.2.nat.isSome || fnOk Try.prog FT x.1 x.2) (51, k_ref1_area_has)) = true := by kernel_rfl
set_option maxRecDepth 100000 in
theorem ok33 : ((fun x : Nat × KF => x.2.nat.isSome || fnOk Try.prog FT x.1 x.2) (33, k_ref1_Pairs)) = true := by kernel_rfl
set_option maxRecDepth 100000 in
theorem ok52 : ((fun x : Nat × KF => x.2.nat.isSome || fnOk Try.prog FT x.1 x.2) (52, k_ref1_held)) = true := by kernel_rfl
set_option maxRecDepth 100000 in
theorem ok32 : ((fun x : Nat × KF => x.2.nat.isSome || fnOk Try.prog FT x.1 x.2) (32, k_ref1_times)) = true := by kernel_rfl
set_option maxRecDepth 100000 in
theorem ok19 : ((fun x : Nat × KF => x.2.nat.isSome || fnOk Try.prog FT x.1 x.2) (19, k_ref1_Run)) = true := by kernel_rfl
set_option maxRecDepth 100000 in
theorem ok5 : ((fun x : Nat × KF => x.2.nat.isSome || fnOk Try.prog FT x.1 x.2) (5, k_law19_JobHeld)) = true := by kernel_rfl
set_option maxRecDepth 100000 in
theorem allOk : kl.all (fun x => x.2.nat.isSome || fnOk Try.prog FT x.1 x.2) = true := and2 ok3 (and2 ok6 (and2 ok9 (and2 ok24 (and2 ok11 (and2 ok17 (and2 ok35 (and2 ok36 (and2 ok39 (and2 ok41 (and2 ok34 (and2 ok27 (and2 ok47 (and2 ok48 (and2 ok62 (and2 ok21 (and2 ok42 (and2 ok40 (and2 ok58 (and2 ok7 (and2 ok8 (and2 ok22 (and2 ok23 (and2 ok43 (and2 ok59 (and2 ok10 (and2 ok26 (and2 ok25 (and2 ok44 (and2 ok60 (and2 ok45 (and2 ok46 (and2 ok61 (and2 ok12 (and2 ok13 (and2 ok20 (and2 ok28 (and2 ok4 (and2 ok14 (and2 ok16 (and2 ok18 (and2 ok30 (and2 ok49 (and2 ok37 (and2 ok53 (and2 ok63 (and2 ok64 (and2 ok54 (and2 ok55 (and2 ok56 (and2 ok57 (and2 ok38 (and2 ok29 (and2 ok15 (and2 ok31 (and2 ok50 (and2 ok51 (and2 ok33 (and2 ok52 (and2 ok32 (and2 ok19 (and2 ok5 (rfl))))))))))))))))))))))))))))))))))))))))))))))))))))))))))))))
set_option maxRecDepth 100000 in
theorem allSgs : tl.all (fun x => sgsOk Try.prog FT x.1) = true := by kernel_rfl
set_option maxRecDepth 100000 in
theorem natIn : kl.all (fun x => match x.2.nat with | none => true | some k => natl.contains (x.1, k)) = true := by kernel_rfl
theorem okOne (f : Nat) (kf : KF) (h1 : (kf.nat.isSome || fnOk Try.prog FT f kf) = true) (h2 : (match kf.nat with | none => true | some k => natl.contains (f, k)) = true) : FnOk Try.prog FT f kf := by
  cases hn : kf.nat with
  | none =>
    rw [hn] at h1
    exact .inl ⟨hn, h1⟩
  | some k =>
    rw [hn] at h2
    exact .inr ⟨k, hn, nats (f, k) (List.contains_iff_mem.1 h2)⟩
set_option maxRecDepth 100000 in
theorem okAll : ∀ f kf, kp f = some kf → FnOk Try.prog FT f kf := fun f kf h =>
  okOne f kf (lookup_all (p := fun x => x.2.nat.isSome || fnOk Try.prog FT x.1 x.2) (f := f) (a := kf) allOk h) (lookup_all (p := fun x => match x.2.nat with | none => true | some k => natl.contains (x.1, k)) (f := f) (a := kf) natIn h)
theorem sgsAll : ∀ f, sgsOk Try.prog FT f = true := fun f => sgs_all allSgs f
end Go.Cd
