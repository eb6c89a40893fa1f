/- Each function's code was read as it stands. No conditions. -/
import Derived.Test.YtjoocolnbmpkkaaTypes
import Derived.Test.YtjoocolnbmpkkaaChecked
import Derived.KernelRfl
import Derived.Test.YtjoocolnbmpkkaaFwD
namespace Go.Cd
open Go Go.Fw Go.Proofs
theorem and2 {a b : Bool} (h : a = true) (k : b = true) : (a && b) = true := by rw [h, k]; rfl
set_option maxRecDepth 100000 in
theorem ok3 : ((fun x : Nat × KF => x.2.nat.isNone && fnOk Try.prog FT x.1 x.2) (3, k_law27_PlayBytes)) = true := by kernel_rfl
set_option maxRecDepth 100000 in
theorem ok9 : ((fun x : Nat × KF => x.2.nat.isNone && fnOk Try.prog FT x.1 x.2) (9, k_law27_begun)) = true := by kernel_rfl
set_option maxRecDepth 100000 in
theorem ok14 : ((fun x : Nat × KF => x.2.nat.isNone && fnOk Try.prog FT x.1 x.2) (14, k_play_Decode)) = true := by kernel_rfl
set_option maxRecDepth 100000 in
theorem ok23 : ((fun x : Nat × KF => x.2.nat.isNone && fnOk Try.prog FT x.1 x.2) (23, k_play_reader_one)) = true := by kernel_rfl
set_option maxRecDepth 100000 in
theorem ok24 : ((fun x : Nat × KF => x.2.nat.isNone && fnOk Try.prog FT x.1 x.2) (24, k_play_reader_num)) = true := by kernel_rfl
set_option maxRecDepth 100000 in
theorem ok37 : ((fun x : Nat × KF => x.2.nat.isNone && fnOk Try.prog FT x.1 x.2) (37, k_play_reader_take)) = true := by kernel_rfl
set_option maxRecDepth 100000 in
theorem ok25 : ((fun x : Nat × KF => x.2.nat.isNone && fnOk Try.prog FT x.1 x.2) (25, k_play_reader_call)) = true := by kernel_rfl
set_option maxRecDepth 100000 in
theorem ok38 : ((fun x : Nat × KF => x.2.nat.isNone && fnOk Try.prog FT x.1 x.2) (38, k_play_reader_program)) = true := by kernel_rfl
set_option maxRecDepth 100000 in
theorem ok42 : ((fun x : Nat × KF => x.2.nat.isNone && fnOk Try.prog FT x.1 x.2) (42, k_slices_Concat_byte_byte)) = true := by kernel_rfl
set_option maxRecDepth 100000 in
theorem ok52 : ((fun x : Nat × KF => x.2.nat.isNone && fnOk Try.prog FT x.1 x.2) (52, k_slices_Grow_byte_byte)) = true := by kernel_rfl
set_option maxRecDepth 100000 in
theorem ok50 : ((fun x : Nat × KF => x.2.nat.isNone && fnOk Try.prog FT x.1 x.2) (50, k_code_Take)) = true := by kernel_rfl
set_option maxRecDepth 100000 in
theorem ok58 : ((fun x : Nat × KF => x.2.nat.isNone && fnOk Try.prog FT x.1 x.2) (58, k_code_inst)) = true := by kernel_rfl
set_option maxRecDepth 100000 in
theorem ok53 : ((fun x : Nat × KF => x.2.nat.isNone && fnOk Try.prog FT x.1 x.2) (53, k_code_Put)) = true := by kernel_rfl
set_option maxRecDepth 100000 in
theorem ok60 : ((fun x : Nat × KF => x.2.nat.isNone && fnOk Try.prog FT x.1 x.2) (60, k_code_May)) = true := by kernel_rfl
set_option maxRecDepth 100000 in
theorem ok62 : ((fun x : Nat × KF => x.2.nat.isNone && fnOk Try.prog FT x.1 x.2) (62, k_code_memory)) = true := by kernel_rfl
set_option maxRecDepth 100000 in
theorem ok63 : ((fun x : Nat × KF => x.2.nat.isNone && fnOk Try.prog FT x.1 x.2) (63, k_code_within)) = true := by kernel_rfl
set_option maxRecDepth 100000 in
theorem ok59 : ((fun x : Nat × KF => x.2.nat.isNone && fnOk Try.prog FT x.1 x.2) (59, k_bytes_Equal)) = true := by kernel_rfl
set_option maxRecDepth 100000 in
theorem ok39 : ((fun x : Nat × KF => x.2.nat.isNone && fnOk Try.prog FT x.1 x.2) (39, k_play_reader_handle)) = true := by kernel_rfl
set_option maxRecDepth 100000 in
theorem ok16 : ((fun x : Nat × KF => x.2.nat.isNone && fnOk Try.prog FT x.1 x.2) (16, k_play_Encode)) = true := by kernel_rfl
set_option maxRecDepth 100000 in
theorem ok28 : ((fun x : Nat × KF => x.2.nat.isNone && fnOk Try.prog FT x.1 x.2) (28, k_play_num)) = true := by kernel_rfl
set_option maxRecDepth 100000 in
theorem ok29 : ((fun x : Nat × KF => x.2.nat.isNone && fnOk Try.prog FT x.1 x.2) (29, k_play_call)) = true := by kernel_rfl
set_option maxRecDepth 100000 in
theorem ok43 : ((fun x : Nat × KF => x.2.nat.isNone && fnOk Try.prog FT x.1 x.2) (43, k_play_program)) = true := by kernel_rfl
set_option maxRecDepth 100000 in
theorem ok44 : ((fun x : Nat × KF => x.2.nat.isNone && fnOk Try.prog FT x.1 x.2) (44, k_play_handle)) = true := by kernel_rfl
set_option maxRecDepth 100000 in
theorem ok30 : ((fun x : Nat × KF => x.2.nat.isNone && fnOk Try.prog FT x.1 x.2) (30, k_play_same)) = true := by kernel_rfl
set_option maxRecDepth 100000 in
theorem ok45 : ((fun x : Nat × KF => x.2.nat.isNone && fnOk Try.prog FT x.1 x.2) (45, k_play_task)) = true := by kernel_rfl
set_option maxRecDepth 100000 in
theorem ok54 : ((fun x : Nat × KF => x.2.nat.isNone && fnOk Try.prog FT x.1 x.2) (54, k_slices_Equal_api_Inst_api_Inst)) = true := by kernel_rfl
set_option maxRecDepth 100000 in
theorem ok10 : ((fun x : Nat × KF => x.2.nat.isNone && fnOk Try.prog FT x.1 x.2) (10, k_law27_light)) = true := by kernel_rfl
set_option maxRecDepth 100000 in
theorem ok11 : ((fun x : Nat × KF => x.2.nat.isNone && fnOk Try.prog FT x.1 x.2) (11, k_play_Made)) = true := by kernel_rfl
set_option maxRecDepth 100000 in
theorem ok12 : ((fun x : Nat × KF => x.2.nat.isNone && fnOk Try.prog FT x.1 x.2) (12, k_play_Picks_Steps)) = true := by kernel_rfl
set_option maxRecDepth 100000 in
theorem ok20 : ((fun x : Nat × KF => x.2.nat.isNone && fnOk Try.prog FT x.1 x.2) (20, k_play_Picks_Begin)) = true := by kernel_rfl
set_option maxRecDepth 100000 in
theorem ok32 : ((fun x : Nat × KF => x.2.nat.isNone && fnOk Try.prog FT x.1 x.2) (32, k_play_Picks_Num)) = true := by kernel_rfl
set_option maxRecDepth 100000 in
theorem ok35 : ((fun x : Nat × KF => x.2.nat.isNone && fnOk Try.prog FT x.1 x.2) (35, k_play_Call)) = true := by kernel_rfl
set_option maxRecDepth 100000 in
theorem ok36 : ((fun x : Nat × KF => x.2.nat.isNone && fnOk Try.prog FT x.1 x.2) (36, k_play_Picks_Task)) = true := by kernel_rfl
set_option maxRecDepth 100000 in
theorem ok49 : ((fun x : Nat × KF => x.2.nat.isNone && fnOk Try.prog FT x.1 x.2) (49, k_play_Picks_Code)) = true := by kernel_rfl
set_option maxRecDepth 100000 in
theorem ok57 : ((fun x : Nat × KF => x.2.nat.isNone && fnOk Try.prog FT x.1 x.2) (57, k_play_Picks_some)) = true := by kernel_rfl
set_option maxRecDepth 100000 in
theorem ok33 : ((fun x : Nat × KF => x.2.nat.isNone && fnOk Try.prog FT x.1 x.2) (33, k_play_Picks_plain)) = true := by kernel_rfl
set_option maxRecDepth 100000 in
theorem ok21 : ((fun x : Nat × KF => x.2.nat.isNone && fnOk Try.prog FT x.1 x.2) (21, k_play_Picks_Over)) = true := by kernel_rfl
set_option maxRecDepth 100000 in
theorem ok22 : ((fun x : Nat × KF => x.2.nat.isNone && fnOk Try.prog FT x.1 x.2) (22, k_play_Picks_Step)) = true := by kernel_rfl
set_option maxRecDepth 100000 in
theorem ok15 : ((fun x : Nat × KF => x.2.nat.isNone && fnOk Try.prog FT x.1 x.2) (15, k_ref27_Decode)) = true := by kernel_rfl
set_option maxRecDepth 100000 in
theorem ok26 : ((fun x : Nat × KF => x.2.nat.isNone && fnOk Try.prog FT x.1 x.2) (26, k_ref27_reader_num)) = true := by kernel_rfl
set_option maxRecDepth 100000 in
theorem ok27 : ((fun x : Nat × KF => x.2.nat.isNone && fnOk Try.prog FT x.1 x.2) (27, k_ref27_call)) = true := by kernel_rfl
set_option maxRecDepth 100000 in
theorem ok40 : ((fun x : Nat × KF => x.2.nat.isNone && fnOk Try.prog FT x.1 x.2) (40, k_ref27_reader_code)) = true := by kernel_rfl
set_option maxRecDepth 100000 in
theorem ok51 : ((fun x : Nat × KF => x.2.nat.isNone && fnOk Try.prog FT x.1 x.2) (51, k_ref1_TakeInst)) = true := by kernel_rfl
set_option maxRecDepth 100000 in
theorem ok55 : ((fun x : Nat × KF => x.2.nat.isNone && fnOk Try.prog FT x.1 x.2) (55, k_ref1_MayInst)) = true := by kernel_rfl
set_option maxRecDepth 100000 in
theorem ok61 : ((fun x : Nat × KF => x.2.nat.isNone && fnOk Try.prog FT x.1 x.2) (61, k_ref1_places_has)) = true := by kernel_rfl
set_option maxRecDepth 100000 in
theorem ok41 : ((fun x : Nat × KF => x.2.nat.isNone && fnOk Try.prog FT x.1 x.2) (41, k_ref27_reader_handle)) = true := by kernel_rfl
set_option maxRecDepth 100000 in
theorem ok13 : ((fun x : Nat × KF => x.2.nat.isNone && fnOk Try.prog FT x.1 x.2) (13, k_ref27_SameSteps)) = true := by kernel_rfl
set_option maxRecDepth 100000 in
theorem ok19 : ((fun x : Nat × KF => x.2.nat.isNone && fnOk Try.prog FT x.1 x.2) (19, k_ref27_SameStep)) = true := by kernel_rfl
set_option maxRecDepth 100000 in
theorem ok34 : ((fun x : Nat × KF => x.2.nat.isNone && fnOk Try.prog FT x.1 x.2) (34, k_ref15_SameTask)) = true := by kernel_rfl
set_option maxRecDepth 100000 in
theorem ok48 : ((fun x : Nat × KF => x.2.nat.isNone && fnOk Try.prog FT x.1 x.2) (48, k_ref1_SameCode)) = true := by kernel_rfl
set_option maxRecDepth 100000 in
theorem ok17 : ((fun x : Nat × KF => x.2.nat.isNone && fnOk Try.prog FT x.1 x.2) (17, k_ref27_Encode)) = true := by kernel_rfl
set_option maxRecDepth 100000 in
theorem ok31 : ((fun x : Nat × KF => x.2.nat.isNone && fnOk Try.prog FT x.1 x.2) (31, k_ref27_put)) = true := by kernel_rfl
set_option maxRecDepth 100000 in
theorem ok46 : ((fun x : Nat × KF => x.2.nat.isNone && fnOk Try.prog FT x.1 x.2) (46, k_ref27_high)) = true := by kernel_rfl
set_option maxRecDepth 100000 in
theorem ok47 : ((fun x : Nat × KF => x.2.nat.isNone && fnOk Try.prog FT x.1 x.2) (47, k_ref27_code)) = true := by kernel_rfl
set_option maxRecDepth 100000 in
theorem ok56 : ((fun x : Nat × KF => x.2.nat.isNone && fnOk Try.prog FT x.1 x.2) (56, k_ref1_PutInst)) = true := by kernel_rfl
set_option maxRecDepth 100000 in
theorem ok4 : ((fun x : Nat × KF => x.2.nat.isNone && fnOk Try.prog FT x.1 x.2) (4, k_law27_PlayBack)) = true := by kernel_rfl
set_option maxRecDepth 100000 in
theorem ok7 : ((fun x : Nat × KF => x.2.nat.isNone && fnOk Try.prog FT x.1 x.2) (7, k_law27_PlayOne)) = true := by kernel_rfl
set_option maxRecDepth 100000 in
theorem ok18 : ((fun x : Nat × KF => x.2.nat.isNone && fnOk Try.prog FT x.1 x.2) (18, k_play_Picks_Wild)) = true := by kernel_rfl
set_option maxRecDepth 100000 in
theorem allOk : kl.all (fun x => x.2.nat.isNone && fnOk Try.prog FT x.1 x.2) = true := and2 ok3 (and2 ok9 (and2 ok14 (and2 ok23 (and2 ok24 (and2 ok37 (and2 ok25 (and2 ok38 (and2 ok42 (and2 ok52 (and2 ok50 (and2 ok58 (and2 ok53 (and2 ok60 (and2 ok62 (and2 ok63 (and2 ok59 (and2 ok39 (and2 ok16 (and2 ok28 (and2 ok29 (and2 ok43 (and2 ok44 (and2 ok30 (and2 ok45 (and2 ok54 (and2 ok10 (and2 ok11 (and2 ok12 (and2 ok20 (and2 ok32 (and2 ok35 (and2 ok36 (and2 ok49 (and2 ok57 (and2 ok33 (and2 ok21 (and2 ok22 (and2 ok15 (and2 ok26 (and2 ok27 (and2 ok40 (and2 ok51 (and2 ok55 (and2 ok61 (and2 ok41 (and2 ok13 (and2 ok19 (and2 ok34 (and2 ok48 (and2 ok17 (and2 ok31 (and2 ok46 (and2 ok47 (and2 ok56 (and2 ok4 (and2 ok7 (and2 ok18 (rfl))))))))))))))))))))))))))))))))))))))))))))))))))))))))))
set_option maxRecDepth 100000 in
theorem allSgs : tl.all (fun x => sgsOk Try.prog FT x.1) = true := by kernel_rfl
theorem okOne (f : Nat) (kf : KF) (h : (kf.nat.isNone && fnOk Try.prog FT f kf) = true) : FnOk Try.prog FT f kf := by
  rw [Bool.and_eq_true, Option.isNone_iff_eq_none] at h
  exact .inl h
set_option maxRecDepth 100000 in
theorem okAll : ∀ f kf, kp f = some kf → FnOk Try.prog FT f kf := fun f kf h => okOne f kf (lookup_all (p := fun x => x.2.nat.isNone && fnOk Try.prog FT x.1 x.2) (f := f) (a := kf) allOk h)
theorem sgsAll : ∀ f, sgsOk Try.prog FT f = true := fun f => sgs_all allSgs f
end Go.Cd
