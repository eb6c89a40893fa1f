/- Each function's code was read as it stands. No conditions. -/
import Derived.Test.YtfddchjmpmjcfaaGreatTypes
import Derived.Test.YtfddchjmpmjcfaaGreatChecked
import Derived.KernelRfl
import Derived.Test.YtfddchjmpmjcfaaGreatFwD
import Derived.Test.YtfddchjmpmjcfaaGreatR8Nats
namespace Go.Cd
open Go Go.Fw Go.Proofs
theorem and2 {a b : Bool} (h : a = true) (k : b = true) : (a && b) = true := by rw [h, k]; rfl
set_option maxRecDepth 100000 in
theorem ok8 : ((fun x : Nat × KF => x.2.nat.isSome || fnOk Tryz.prog FT x.1 x.2) (8, k_top_TopMarks)) = true := by kernel_rfl
set_option maxRecDepth 100000 in
theorem ok13 : ((fun x : Nat × KF => x.2.nat.isSome || fnOk Tryz.prog FT x.1 x.2) (13, k_top_begun)) = true := by kernel_rfl
set_option maxRecDepth 100000 in
theorem ok18 : ((fun x : Nat × KF => x.2.nat.isSome || fnOk Tryz.prog FT x.1 x.2) (18, k_play_Call)) = true := by kernel_rfl
set_option maxRecDepth 100000 in
theorem ok23 : ((fun x : Nat × KF => x.2.nat.isSome || fnOk Tryz.prog FT x.1 x.2) (23, k_trial_All)) = true := by kernel_rfl
set_option maxRecDepth 100000 in
theorem ok40 : ((fun x : Nat × KF => x.2.nat.isSome || fnOk Tryz.prog FT x.1 x.2) (40, k_kern_New)) = true := by kernel_rfl
set_option maxRecDepth 100000 in
theorem ok72 : ((fun x : Nat × KF => x.2.nat.isSome || fnOk Tryz.prog FT x.1 x.2) (72, k_obj_New)) = true := by kernel_rfl
set_option maxRecDepth 100000 in
theorem ok125 : ((fun x : Nat × KF => x.2.nat.isSome || fnOk Tryz.prog FT x.1 x.2) (125, k_slots_New)) = true := by kernel_rfl
set_option maxRecDepth 100000 in
theorem ok73 : ((fun x : Nat × KF => x.2.nat.isSome || fnOk Tryz.prog FT x.1 x.2) (73, k_watch_New)) = true := by kernel_rfl
set_option maxRecDepth 100000 in
theorem ok17 : ((fun x : Nat × KF => x.2.nat.isSome || fnOk Tryz.prog FT x.1 x.2) (17, k_trial_Do)) = true := by kernel_rfl
set_option maxRecDepth 100000 in
theorem ok31 : ((fun x : Nat × KF => x.2.nat.isSome || fnOk Tryz.prog FT x.1 x.2) (31, k_call_Do)) = true := by kernel_rfl
set_option maxRecDepth 100000 in
theorem ok48 : ((fun x : Nat × KF => x.2.nat.isSome || fnOk Tryz.prog FT x.1 x.2) (48, k_call_asked_admit)) = true := by kernel_rfl
set_option maxRecDepth 100000 in
theorem ok89 : ((fun x : Nat × KF => x.2.nat.isSome || fnOk Tryz.prog FT x.1 x.2) (89, k_admit_In)) = true := by kernel_rfl
set_option maxRecDepth 100000 in
theorem ok84 : ((fun x : Nat × KF => x.2.nat.isSome || fnOk Tryz.prog FT x.1 x.2) (84, k_task_May)) = true := by kernel_rfl
set_option maxRecDepth 100000 in
theorem ok145 : ((fun x : Nat × KF => x.2.nat.isSome || fnOk Tryz.prog FT x.1 x.2) (145, k_shape_May)) = true := by kernel_rfl
set_option maxRecDepth 100000 in
theorem ok155 : ((fun x : Nat × KF => x.2.nat.isSome || fnOk Tryz.prog FT x.1 x.2) (155, k_slices_ContainsFunc_api_Inst_api_Inst)) = true := by kernel_rfl
set_option maxRecDepth 100000 in
theorem ok211 : ((fun x : Nat × KF => x.2.nat.isSome || fnOk Tryz.prog FT x.1 x.2) (211, k_slices_IndexFunc_api_Inst_api_Inst)) = true := by kernel_rfl
set_option maxRecDepth 100000 in
theorem ok209 : ((fun x : Nat × KF => x.2.nat.isSome || fnOk Tryz.prog FT x.1 x.2) (209, k_shape_May_1)) = true := by kernel_rfl
set_option maxRecDepth 100000 in
theorem ok210 : ((fun x : Nat × KF => x.2.nat.isSome || fnOk Tryz.prog FT x.1 x.2) (210, k_code_May)) = true := by kernel_rfl
set_option maxRecDepth 100000 in
theorem ok260 : ((fun x : Nat × KF => x.2.nat.isSome || fnOk Tryz.prog FT x.1 x.2) (260, k_code_memory)) = true := by kernel_rfl
set_option maxRecDepth 100000 in
theorem ok261 : ((fun x : Nat × KF => x.2.nat.isSome || fnOk Tryz.prog FT x.1 x.2) (261, k_code_within)) = true := by kernel_rfl
set_option maxRecDepth 100000 in
theorem ok212 : ((fun x : Nat × KF => x.2.nat.isSome || fnOk Tryz.prog FT x.1 x.2) (212, k_shape_May_2)) = true := by kernel_rfl
set_option maxRecDepth 100000 in
theorem ok213 : ((fun x : Nat × KF => x.2.nat.isSome || fnOk Tryz.prog FT x.1 x.2) (213, k_shape_nested)) = true := by kernel_rfl
set_option maxRecDepth 100000 in
theorem ok262 : ((fun x : Nat × KF => x.2.nat.isSome || fnOk Tryz.prog FT x.1 x.2) (262, k_shape_pieces)) = true := by kernel_rfl
set_option maxRecDepth 100000 in
theorem ok263 : ((fun x : Nat × KF => x.2.nat.isSome || fnOk Tryz.prog FT x.1 x.2) (263, k_shape_piece_has)) = true := by kernel_rfl
set_option maxRecDepth 100000 in
theorem ok264 : ((fun x : Nat × KF => x.2.nat.isSome || fnOk Tryz.prog FT x.1 x.2) (264, k_shape_piece_within)) = true := by kernel_rfl
set_option maxRecDepth 100000 in
theorem ok265 : ((fun x : Nat × KF => x.2.nat.isSome || fnOk Tryz.prog FT x.1 x.2) (265, k_shape_piece_apart)) = true := by kernel_rfl
set_option maxRecDepth 100000 in
theorem ok215 : ((fun x : Nat × KF => x.2.nat.isSome || fnOk Tryz.prog FT x.1 x.2) (215, k_slices_ContainsFunc_int_int)) = true := by kernel_rfl
set_option maxRecDepth 100000 in
theorem ok231 : ((fun x : Nat × KF => x.2.nat.isSome || fnOk Tryz.prog FT x.1 x.2) (231, k_slices_IndexFunc_int_int)) = true := by kernel_rfl
set_option maxRecDepth 100000 in
theorem ok266 : ((fun x : Nat × KF => x.2.nat.isSome || fnOk Tryz.prog FT x.1 x.2) (266, k_shape_nested_1)) = true := by kernel_rfl
set_option maxRecDepth 100000 in
theorem ok150 : ((fun x : Nat × KF => x.2.nat.isSome || fnOk Tryz.prog FT x.1 x.2) (150, k_shape_Pairs)) = true := by kernel_rfl
set_option maxRecDepth 100000 in
theorem ok214 : ((fun x : Nat × KF => x.2.nat.isSome || fnOk Tryz.prog FT x.1 x.2) (214, k_shape_ins)) = true := by kernel_rfl
set_option maxRecDepth 100000 in
theorem ok218 : ((fun x : Nat × KF => x.2.nat.isSome || fnOk Tryz.prog FT x.1 x.2) (218, k_shape_Pairs_1)) = true := by kernel_rfl
set_option maxRecDepth 100000 in
theorem ok216 : ((fun x : Nat × KF => x.2.nat.isSome || fnOk Tryz.prog FT x.1 x.2) (216, k_shape_May_3)) = true := by kernel_rfl
set_option maxRecDepth 100000 in
theorem ok146 : ((fun x : Nat × KF => x.2.nat.isSome || fnOk Tryz.prog FT x.1 x.2) (146, k_task_may)) = true := by kernel_rfl
set_option maxRecDepth 100000 in
theorem ok147 : ((fun x : Nat × KF => x.2.nat.isSome || fnOk Tryz.prog FT x.1 x.2) (147, k_task_locks)) = true := by kernel_rfl
set_option maxRecDepth 100000 in
theorem ok217 : ((fun x : Nat × KF => x.2.nat.isSome || fnOk Tryz.prog FT x.1 x.2) (217, k_task_locks_1)) = true := by kernel_rfl
set_option maxRecDepth 100000 in
theorem ok148 : ((fun x : Nat × KF => x.2.nat.isSome || fnOk Tryz.prog FT x.1 x.2) (148, k_task_long)) = true := by kernel_rfl
set_option maxRecDepth 100000 in
theorem ok85 : ((fun x : Nat × KF => x.2.nat.isSome || fnOk Tryz.prog FT x.1 x.2) (85, k_cost_Of)) = true := by kernel_rfl
set_option maxRecDepth 100000 in
theorem ok149 : ((fun x : Nat × KF => x.2.nat.isSome || fnOk Tryz.prog FT x.1 x.2) (149, k_cost_times)) = true := by kernel_rfl
set_option maxRecDepth 100000 in
theorem ok142 : ((fun x : Nat × KF => x.2.nat.isSome || fnOk Tryz.prog FT x.1 x.2) (142, k_sat_Mul)) = true := by kernel_rfl
set_option maxRecDepth 100000 in
theorem ok207 : ((fun x : Nat × KF => x.2.nat.isSome || fnOk Tryz.prog FT x.1 x.2) (207, k_sat_size)) = true := by kernel_rfl
set_option maxRecDepth 100000 in
theorem ok206 : ((fun x : Nat × KF => x.2.nat.isSome || fnOk Tryz.prog FT x.1 x.2) (206, k_sat_times)) = true := by kernel_rfl
set_option maxRecDepth 100000 in
theorem ok208 : ((fun x : Nat × KF => x.2.nat.isSome || fnOk Tryz.prog FT x.1 x.2) (208, k_sat_end)) = true := by kernel_rfl
set_option maxRecDepth 100000 in
theorem ok151 : ((fun x : Nat × KF => x.2.nat.isSome || fnOk Tryz.prog FT x.1 x.2) (151, k_cost_sum)) = true := by kernel_rfl
set_option maxRecDepth 100000 in
theorem ok143 : ((fun x : Nat × KF => x.2.nat.isSome || fnOk Tryz.prog FT x.1 x.2) (143, k_sat_Add)) = true := by kernel_rfl
set_option maxRecDepth 100000 in
theorem ok158 : ((fun x : Nat × KF => x.2.nat.isSome || fnOk Tryz.prog FT x.1 x.2) (158, k_admit_mine)) = true := by kernel_rfl
set_option maxRecDepth 100000 in
theorem ok103 : ((fun x : Nat × KF => x.2.nat.isSome || fnOk Tryz.prog FT x.1 x.2) (103, k_slices_Clone_api_Inst_api_Inst)) = true := by kernel_rfl
set_option maxRecDepth 100000 in
theorem ok159 : ((fun x : Nat × KF => x.2.nat.isSome || fnOk Tryz.prog FT x.1 x.2) (159, k_admit_In_1)) = true := by kernel_rfl
set_option maxRecDepth 100000 in
theorem ok153 : ((fun x : Nat × KF => x.2.nat.isSome || fnOk Tryz.prog FT x.1 x.2) (153, k_slices_IndexFunc_api_Task_api_Task)) = true := by kernel_rfl
set_option maxRecDepth 100000 in
theorem ok160 : ((fun x : Nat × KF => x.2.nat.isSome || fnOk Tryz.prog FT x.1 x.2) (160, k_slices_Insert_api_Task_api_Task)) = true := by kernel_rfl
set_option maxRecDepth 100000 in
theorem ok28 : ((fun x : Nat × KF => x.2.nat.isSome || fnOk Tryz.prog FT x.1 x.2) (28, k_admit_All)) = true := by kernel_rfl
set_option maxRecDepth 100000 in
theorem ok44 : ((fun x : Nat × KF => x.2.nat.isSome || fnOk Tryz.prog FT x.1 x.2) (44, k_bound_Resp)) = true := by kernel_rfl
set_option maxRecDepth 100000 in
theorem ok81 : ((fun x : Nat × KF => x.2.nat.isSome || fnOk Tryz.prog FT x.1 x.2) (81, k_bound_row)) = true := by kernel_rfl
set_option maxRecDepth 100000 in
theorem ok45 : ((fun x : Nat × KF => x.2.nat.isSome || fnOk Tryz.prog FT x.1 x.2) (45, k_task_Costs)) = true := by kernel_rfl
set_option maxRecDepth 100000 in
theorem ok86 : ((fun x : Nat × KF => x.2.nat.isSome || fnOk Tryz.prog FT x.1 x.2) (86, k_slices_Concat_api_Span_api_Span)) = true := by kernel_rfl
set_option maxRecDepth 100000 in
theorem ok152 : ((fun x : Nat × KF => x.2.nat.isSome || fnOk Tryz.prog FT x.1 x.2) (152, k_slices_Grow_api_Span_api_Span)) = true := by kernel_rfl
set_option maxRecDepth 100000 in
theorem ok46 : ((fun x : Nat × KF => x.2.nat.isSome || fnOk Tryz.prog FT x.1 x.2) (46, k_block_By)) = true := by kernel_rfl
set_option maxRecDepth 100000 in
theorem ok87 : ((fun x : Nat × KF => x.2.nat.isSome || fnOk Tryz.prog FT x.1 x.2) (87, k_block_Ceil)) = true := by kernel_rfl
set_option maxRecDepth 100000 in
theorem ok154 : ((fun x : Nat × KF => x.2.nat.isSome || fnOk Tryz.prog FT x.1 x.2) (154, k_block_Ceil_1)) = true := by kernel_rfl
set_option maxRecDepth 100000 in
theorem ok156 : ((fun x : Nat × KF => x.2.nat.isSome || fnOk Tryz.prog FT x.1 x.2) (156, k_slices_Concat_api_Inst_api_Inst)) = true := by kernel_rfl
set_option maxRecDepth 100000 in
theorem ok219 : ((fun x : Nat × KF => x.2.nat.isSome || fnOk Tryz.prog FT x.1 x.2) (219, k_slices_Grow_api_Inst_api_Inst)) = true := by kernel_rfl
set_option maxRecDepth 100000 in
theorem ok157 : ((fun x : Nat × KF => x.2.nat.isSome || fnOk Tryz.prog FT x.1 x.2) (157, k_block_Ceil_1_1)) = true := by kernel_rfl
set_option maxRecDepth 100000 in
theorem ok82 : ((fun x : Nat × KF => x.2.nat.isSome || fnOk Tryz.prog FT x.1 x.2) (82, k_bound_sum_add)) = true := by kernel_rfl
set_option maxRecDepth 100000 in
theorem ok83 : ((fun x : Nat × KF => x.2.nat.isSome || fnOk Tryz.prog FT x.1 x.2) (83, k_bound_often)) = true := by kernel_rfl
set_option maxRecDepth 100000 in
theorem ok144 : ((fun x : Nat × KF => x.2.nat.isSome || fnOk Tryz.prog FT x.1 x.2) (144, k_sat_Up)) = true := by kernel_rfl
set_option maxRecDepth 100000 in
theorem ok49 : ((fun x : Nat × KF => x.2.nat.isSome || fnOk Tryz.prog FT x.1 x.2) (49, k_call_asked_makes)) = true := by kernel_rfl
set_option maxRecDepth 100000 in
theorem ok90 : ((fun x : Nat × KF => x.2.nat.isSome || fnOk Tryz.prog FT x.1 x.2) (90, k_obj_Make)) = true := by kernel_rfl
set_option maxRecDepth 100000 in
theorem ok64 : ((fun x : Nat × KF => x.2.nat.isSome || fnOk Tryz.prog FT x.1 x.2) (64, k_obj_twin)) = true := by kernel_rfl
set_option maxRecDepth 100000 in
theorem ok113 : ((fun x : Nat × KF => x.2.nat.isSome || fnOk Tryz.prog FT x.1 x.2) (113, k_slices_Clone_int_int)) = true := by kernel_rfl
set_option maxRecDepth 100000 in
theorem ok114 : ((fun x : Nat × KF => x.2.nat.isSome || fnOk Tryz.prog FT x.1 x.2) (114, k_slices_Clone_bool_bool)) = true := by kernel_rfl
set_option maxRecDepth 100000 in
theorem ok115 : ((fun x : Nat × KF => x.2.nat.isSome || fnOk Tryz.prog FT x.1 x.2) (115, k_obj_mine)) = true := by kernel_rfl
set_option maxRecDepth 100000 in
theorem ok189 : ((fun x : Nat × KF => x.2.nat.isSome || fnOk Tryz.prog FT x.1 x.2) (189, k_slices_Clone_int64_int64)) = true := by kernel_rfl
set_option maxRecDepth 100000 in
theorem ok170 : ((fun x : Nat × KF => x.2.nat.isSome || fnOk Tryz.prog FT x.1 x.2) (170, k_slices_Clone_api_Waiter_api_Waiter)) = true := by kernel_rfl
set_option maxRecDepth 100000 in
theorem ok161 : ((fun x : Nat × KF => x.2.nat.isSome || fnOk Tryz.prog FT x.1 x.2) (161, k_slots_Take)) = true := by kernel_rfl
set_option maxRecDepth 100000 in
theorem ok222 : ((fun x : Nat × KF => x.2.nat.isSome || fnOk Tryz.prog FT x.1 x.2) (222, k_slots_twin)) = true := by kernel_rfl
set_option maxRecDepth 100000 in
theorem ok224 : ((fun x : Nat × KF => x.2.nat.isSome || fnOk Tryz.prog FT x.1 x.2) (224, k_slots_places)) = true := by kernel_rfl
set_option maxRecDepth 100000 in
theorem ok223 : ((fun x : Nat × KF => x.2.nat.isSome || fnOk Tryz.prog FT x.1 x.2) (223, k_slices_Index_bool_bool)) = true := by kernel_rfl
set_option maxRecDepth 100000 in
theorem ok163 : ((fun x : Nat × KF => x.2.nat.isSome || fnOk Tryz.prog FT x.1 x.2) (163, k_obj_fresh)) = true := by kernel_rfl
set_option maxRecDepth 100000 in
theorem ok162 : ((fun x : Nat × KF => x.2.nat.isSome || fnOk Tryz.prog FT x.1 x.2) (162, k_obj_sealed)) = true := by kernel_rfl
set_option maxRecDepth 100000 in
theorem ok168 : ((fun x : Nat × KF => x.2.nat.isSome || fnOk Tryz.prog FT x.1 x.2) (168, k_obj_sum)) = true := by kernel_rfl
set_option maxRecDepth 100000 in
theorem ok226 : ((fun x : Nat × KF => x.2.nat.isSome || fnOk Tryz.prog FT x.1 x.2) (226, k_seal_Sum)) = true := by kernel_rfl
set_option maxRecDepth 100000 in
theorem ok50 : ((fun x : Nat × KF => x.2.nat.isSome || fnOk Tryz.prog FT x.1 x.2) (50, k_call_asked_start)) = true := by kernel_rfl
set_option maxRecDepth 100000 in
theorem ok91 : ((fun x : Nat × KF => x.2.nat.isSome || fnOk Tryz.prog FT x.1 x.2) (91, k_kern_Start)) = true := by kernel_rfl
set_option maxRecDepth 100000 in
theorem ok59 : ((fun x : Nat × KF => x.2.nat.isSome || fnOk Tryz.prog FT x.1 x.2) (59, k_kern_twin)) = true := by kernel_rfl
set_option maxRecDepth 100000 in
theorem ok100 : ((fun x : Nat × KF => x.2.nat.isSome || fnOk Tryz.prog FT x.1 x.2) (100, k_slices_Clone_api_Task_api_Task)) = true := by kernel_rfl
set_option maxRecDepth 100000 in
theorem ok101 : ((fun x : Nat × KF => x.2.nat.isSome || fnOk Tryz.prog FT x.1 x.2) (101, k_slices_Clone_api_Bounds_api_Bounds)) = true := by kernel_rfl
set_option maxRecDepth 100000 in
theorem ok102 : ((fun x : Nat × KF => x.2.nat.isSome || fnOk Tryz.prog FT x.1 x.2) (102, k_slices_Clone_api_Job_api_Job)) = true := by kernel_rfl
set_option maxRecDepth 100000 in
theorem ok104 : ((fun x : Nat × KF => x.2.nat.isSome || fnOk Tryz.prog FT x.1 x.2) (104, k_fault_Loses)) = true := by kernel_rfl
set_option maxRecDepth 100000 in
theorem ok175 : ((fun x : Nat × KF => x.2.nat.isSome || fnOk Tryz.prog FT x.1 x.2) (175, k_slices_Clone_api_Rep2_api_Rep2)) = true := by kernel_rfl
set_option maxRecDepth 100000 in
theorem ok177 : ((fun x : Nat × KF => x.2.nat.isSome || fnOk Tryz.prog FT x.1 x.2) (177, k_fault_Loses_1)) = true := by kernel_rfl
set_option maxRecDepth 100000 in
theorem ok176 : ((fun x : Nat × KF => x.2.nat.isSome || fnOk Tryz.prog FT x.1 x.2) (176, k_slices_DeleteFunc_int_int)) = true := by kernel_rfl
set_option maxRecDepth 100000 in
theorem ok95 : ((fun x : Nat × KF => x.2.nat.isSome || fnOk Tryz.prog FT x.1 x.2) (95, k_obj_Put)) = true := by kernel_rfl
set_option maxRecDepth 100000 in
theorem ok65 : ((fun x : Nat × KF => x.2.nat.isSome || fnOk Tryz.prog FT x.1 x.2) (65, k_obj_there)) = true := by kernel_rfl
set_option maxRecDepth 100000 in
theorem ok105 : ((fun x : Nat × KF => x.2.nat.isSome || fnOk Tryz.prog FT x.1 x.2) (105, k_watch_Good)) = true := by kernel_rfl
set_option maxRecDepth 100000 in
theorem ok178 : ((fun x : Nat × KF => x.2.nat.isSome || fnOk Tryz.prog FT x.1 x.2) (178, k_watch_twin)) = true := by kernel_rfl
set_option maxRecDepth 100000 in
theorem ok19 : ((fun x : Nat × KF => x.2.nat.isSome || fnOk Tryz.prog FT x.1 x.2) (19, k_kern_Locks)) = true := by kernel_rfl
set_option maxRecDepth 100000 in
theorem ok35 : ((fun x : Nat × KF => x.2.nat.isSome || fnOk Tryz.prog FT x.1 x.2) (35, k_obj_Semas)) = true := by kernel_rfl
set_option maxRecDepth 100000 in
theorem ok164 : ((fun x : Nat × KF => x.2.nat.isSome || fnOk Tryz.prog FT x.1 x.2) (164, k_kern_Start_1)) = true := by kernel_rfl
set_option maxRecDepth 100000 in
theorem ok165 : ((fun x : Nat × KF => x.2.nat.isSome || fnOk Tryz.prog FT x.1 x.2) (165, k_kern_Kernel_lock)) = true := by kernel_rfl
set_option maxRecDepth 100000 in
theorem ok51 : ((fun x : Nat × KF => x.2.nat.isSome || fnOk Tryz.prog FT x.1 x.2) (51, k_call_asked_release)) = true := by kernel_rfl
set_option maxRecDepth 100000 in
theorem ok34 : ((fun x : Nat × KF => x.2.nat.isSome || fnOk Tryz.prog FT x.1 x.2) (34, k_kern_Release)) = true := by kernel_rfl
set_option maxRecDepth 100000 in
theorem ok66 : ((fun x : Nat × KF => x.2.nat.isSome || fnOk Tryz.prog FT x.1 x.2) (66, k_kern_Kernel_find)) = true := by kernel_rfl
set_option maxRecDepth 100000 in
theorem ok116 : ((fun x : Nat × KF => x.2.nat.isSome || fnOk Tryz.prog FT x.1 x.2) (116, k_slices_BinarySearchFunc_api_Job_api_Job_int)) = true := by kernel_rfl
set_option maxRecDepth 100000 in
theorem ok117 : ((fun x : Nat × KF => x.2.nat.isSome || fnOk Tryz.prog FT x.1 x.2) (117, k_kern_Kernel_find_1)) = true := by kernel_rfl
set_option maxRecDepth 100000 in
theorem ok67 : ((fun x : Nat × KF => x.2.nat.isSome || fnOk Tryz.prog FT x.1 x.2) (67, k_slices_Delete_api_Job_api_Job)) = true := by kernel_rfl
set_option maxRecDepth 100000 in
theorem ok69 : ((fun x : Nat × KF => x.2.nat.isSome || fnOk Tryz.prog FT x.1 x.2) (69, k_job_New)) = true := by kernel_rfl
set_option maxRecDepth 100000 in
theorem ok120 : ((fun x : Nat × KF => x.2.nat.isSome || fnOk Tryz.prog FT x.1 x.2) (120, k_vm_New)) = true := by kernel_rfl
set_option maxRecDepth 100000 in
theorem ok68 : ((fun x : Nat × KF => x.2.nat.isSome || fnOk Tryz.prog FT x.1 x.2) (68, k_slices_Insert_api_Job_api_Job)) = true := by kernel_rfl
set_option maxRecDepth 100000 in
theorem ok52 : ((fun x : Nat × KF => x.2.nat.isSome || fnOk Tryz.prog FT x.1 x.2) (52, k_call_asked_post)) = true := by kernel_rfl
set_option maxRecDepth 100000 in
theorem ok92 : ((fun x : Nat × KF => x.2.nat.isSome || fnOk Tryz.prog FT x.1 x.2) (92, k_call_asked_thing)) = true := by kernel_rfl
set_option maxRecDepth 100000 in
theorem ok166 : ((fun x : Nat × KF => x.2.nat.isSome || fnOk Tryz.prog FT x.1 x.2) (166, k_obj_Find)) = true := by kernel_rfl
set_option maxRecDepth 100000 in
theorem ok225 : ((fun x : Nat × KF => x.2.nat.isSome || fnOk Tryz.prog FT x.1 x.2) (225, k_slots_Has)) = true := by kernel_rfl
set_option maxRecDepth 100000 in
theorem ok268 : ((fun x : Nat × KF => x.2.nat.isSome || fnOk Tryz.prog FT x.1 x.2) (268, k_slots_handles)) = true := by kernel_rfl
set_option maxRecDepth 100000 in
theorem ok93 : ((fun x : Nat × KF => x.2.nat.isSome || fnOk Tryz.prog FT x.1 x.2) (93, k_mbox_Post)) = true := by kernel_rfl
set_option maxRecDepth 100000 in
theorem ok167 : ((fun x : Nat × KF => x.2.nat.isSome || fnOk Tryz.prog FT x.1 x.2) (167, k_mbox_twin)) = true := by kernel_rfl
set_option maxRecDepth 100000 in
theorem ok94 : ((fun x : Nat × KF => x.2.nat.isSome || fnOk Tryz.prog FT x.1 x.2) (94, k_call_asked_told)) = true := by kernel_rfl
set_option maxRecDepth 100000 in
theorem ok53 : ((fun x : Nat × KF => x.2.nat.isSome || fnOk Tryz.prog FT x.1 x.2) (53, k_call_asked_take)) = true := by kernel_rfl
set_option maxRecDepth 100000 in
theorem ok96 : ((fun x : Nat × KF => x.2.nat.isSome || fnOk Tryz.prog FT x.1 x.2) (96, k_mbox_Take)) = true := by kernel_rfl
set_option maxRecDepth 100000 in
theorem ok169 : ((fun x : Nat × KF => x.2.nat.isSome || fnOk Tryz.prog FT x.1 x.2) (169, k_slices_Contains_int_int)) = true := by kernel_rfl
set_option maxRecDepth 100000 in
theorem ok109 : ((fun x : Nat × KF => x.2.nat.isSome || fnOk Tryz.prog FT x.1 x.2) (109, k_slices_Index_int_int)) = true := by kernel_rfl
set_option maxRecDepth 100000 in
theorem ok54 : ((fun x : Nat × KF => x.2.nat.isSome || fnOk Tryz.prog FT x.1 x.2) (54, k_call_asked_raise)) = true := by kernel_rfl
set_option maxRecDepth 100000 in
theorem ok97 : ((fun x : Nat × KF => x.2.nat.isSome || fnOk Tryz.prog FT x.1 x.2) (97, k_flag_Raise)) = true := by kernel_rfl
set_option maxRecDepth 100000 in
theorem ok55 : ((fun x : Nat × KF => x.2.nat.isSome || fnOk Tryz.prog FT x.1 x.2) (55, k_call_asked_await)) = true := by kernel_rfl
set_option maxRecDepth 100000 in
theorem ok98 : ((fun x : Nat × KF => x.2.nat.isSome || fnOk Tryz.prog FT x.1 x.2) (98, k_flag_Await)) = true := by kernel_rfl
set_option maxRecDepth 100000 in
theorem ok172 : ((fun x : Nat × KF => x.2.nat.isSome || fnOk Tryz.prog FT x.1 x.2) (172, k_flag_Await_1)) = true := by kernel_rfl
set_option maxRecDepth 100000 in
theorem ok171 : ((fun x : Nat × KF => x.2.nat.isSome || fnOk Tryz.prog FT x.1 x.2) (171, k_slices_ContainsFunc_api_Waiter_api_Waiter)) = true := by kernel_rfl
set_option maxRecDepth 100000 in
theorem ok227 : ((fun x : Nat × KF => x.2.nat.isSome || fnOk Tryz.prog FT x.1 x.2) (227, k_slices_IndexFunc_api_Waiter_api_Waiter)) = true := by kernel_rfl
set_option maxRecDepth 100000 in
theorem ok56 : ((fun x : Nat × KF => x.2.nat.isSome || fnOk Tryz.prog FT x.1 x.2) (56, k_call_asked_free)) = true := by kernel_rfl
set_option maxRecDepth 100000 in
theorem ok99 : ((fun x : Nat × KF => x.2.nat.isSome || fnOk Tryz.prog FT x.1 x.2) (99, k_obj_Drop)) = true := by kernel_rfl
set_option maxRecDepth 100000 in
theorem ok173 : ((fun x : Nat × KF => x.2.nat.isSome || fnOk Tryz.prog FT x.1 x.2) (173, k_slots_Free)) = true := by kernel_rfl
set_option maxRecDepth 100000 in
theorem ok174 : ((fun x : Nat × KF => x.2.nat.isSome || fnOk Tryz.prog FT x.1 x.2) (174, k_obj_waits)) = true := by kernel_rfl
set_option maxRecDepth 100000 in
theorem ok228 : ((fun x : Nat × KF => x.2.nat.isSome || fnOk Tryz.prog FT x.1 x.2) (228, k_mbox_Reset)) = true := by kernel_rfl
set_option maxRecDepth 100000 in
theorem ok229 : ((fun x : Nat × KF => x.2.nat.isSome || fnOk Tryz.prog FT x.1 x.2) (229, k_flag_Reset)) = true := by kernel_rfl
set_option maxRecDepth 100000 in
theorem ok230 : ((fun x : Nat × KF => x.2.nat.isSome || fnOk Tryz.prog FT x.1 x.2) (230, k_slices_Concat_int_int)) = true := by kernel_rfl
set_option maxRecDepth 100000 in
theorem ok269 : ((fun x : Nat × KF => x.2.nat.isSome || fnOk Tryz.prog FT x.1 x.2) (269, k_slices_Grow_int_int)) = true := by kernel_rfl
set_option maxRecDepth 100000 in
theorem ok57 : ((fun x : Nat × KF => x.2.nat.isSome || fnOk Tryz.prog FT x.1 x.2) (57, k_call_asked_wrong)) = true := by kernel_rfl
set_option maxRecDepth 100000 in
theorem ok58 : ((fun x : Nat × KF => x.2.nat.isSome || fnOk Tryz.prog FT x.1 x.2) (58, k_call_mine)) = true := by kernel_rfl
set_option maxRecDepth 100000 in
theorem ok32 : ((fun x : Nat × KF => x.2.nat.isSome || fnOk Tryz.prog FT x.1 x.2) (32, k_kern_Tick)) = true := by kernel_rfl
set_option maxRecDepth 100000 in
theorem ok60 : ((fun x : Nat × KF => x.2.nat.isSome || fnOk Tryz.prog FT x.1 x.2) (60, k_kern_turn_ends)) = true := by kernel_rfl
set_option maxRecDepth 100000 in
theorem ok106 : ((fun x : Nat × KF => x.2.nat.isSome || fnOk Tryz.prog FT x.1 x.2) (106, k_kern_turn_tells)) = true := by kernel_rfl
set_option maxRecDepth 100000 in
theorem ok107 : ((fun x : Nat × KF => x.2.nat.isSome || fnOk Tryz.prog FT x.1 x.2) (107, k_kern_turn_misses)) = true := by kernel_rfl
set_option maxRecDepth 100000 in
theorem ok179 : ((fun x : Nat × KF => x.2.nat.isSome || fnOk Tryz.prog FT x.1 x.2) (179, k_sema_All)) = true := by kernel_rfl
set_option maxRecDepth 100000 in
theorem ok232 : ((fun x : Nat × KF => x.2.nat.isSome || fnOk Tryz.prog FT x.1 x.2) (232, k_slices_Clone_api_Sema_api_Sema)) = true := by kernel_rfl
set_option maxRecDepth 100000 in
theorem ok233 : ((fun x : Nat × KF => x.2.nat.isSome || fnOk Tryz.prog FT x.1 x.2) (233, k_sema_holds)) = true := by kernel_rfl
set_option maxRecDepth 100000 in
theorem ok247 : ((fun x : Nat × KF => x.2.nat.isSome || fnOk Tryz.prog FT x.1 x.2) (247, k_sema_has)) = true := by kernel_rfl
set_option maxRecDepth 100000 in
theorem ok180 : ((fun x : Nat × KF => x.2.nat.isSome || fnOk Tryz.prog FT x.1 x.2) (180, k_watch_Miss)) = true := by kernel_rfl
set_option maxRecDepth 100000 in
theorem ok234 : ((fun x : Nat × KF => x.2.nat.isSome || fnOk Tryz.prog FT x.1 x.2) (234, k_watch_has)) = true := by kernel_rfl
set_option maxRecDepth 100000 in
theorem ok235 : ((fun x : Nat × KF => x.2.nat.isSome || fnOk Tryz.prog FT x.1 x.2) (235, k_slices_Contains_bool_bool)) = true := by kernel_rfl
set_option maxRecDepth 100000 in
theorem ok61 : ((fun x : Nat × KF => x.2.nat.isSome || fnOk Tryz.prog FT x.1 x.2) (61, k_kern_turn_promotes)) = true := by kernel_rfl
set_option maxRecDepth 100000 in
theorem ok62 : ((fun x : Nat × KF => x.2.nat.isSome || fnOk Tryz.prog FT x.1 x.2) (62, k_kern_turn_audits)) = true := by kernel_rfl
set_option maxRecDepth 100000 in
theorem ok108 : ((fun x : Nat × KF => x.2.nat.isSome || fnOk Tryz.prog FT x.1 x.2) (108, k_obj_Audit)) = true := by kernel_rfl
set_option maxRecDepth 100000 in
theorem ok63 : ((fun x : Nat × KF => x.2.nat.isSome || fnOk Tryz.prog FT x.1 x.2) (63, k_kern_turn_runs)) = true := by kernel_rfl
set_option maxRecDepth 100000 in
theorem ok110 : ((fun x : Nat × KF => x.2.nat.isSome || fnOk Tryz.prog FT x.1 x.2) (110, k_pick_Next)) = true := by kernel_rfl
set_option maxRecDepth 100000 in
theorem ok181 : ((fun x : Nat × KF => x.2.nat.isSome || fnOk Tryz.prog FT x.1 x.2) (181, k_pick_of)) = true := by kernel_rfl
set_option maxRecDepth 100000 in
theorem ok236 : ((fun x : Nat × KF => x.2.nat.isSome || fnOk Tryz.prog FT x.1 x.2) (236, k_band_Of)) = true := by kernel_rfl
set_option maxRecDepth 100000 in
theorem ok237 : ((fun x : Nat × KF => x.2.nat.isSome || fnOk Tryz.prog FT x.1 x.2) (237, k_sema_Low)) = true := by kernel_rfl
set_option maxRecDepth 100000 in
theorem ok270 : ((fun x : Nat × KF => x.2.nat.isSome || fnOk Tryz.prog FT x.1 x.2) (270, k_band_Base)) = true := by kernel_rfl
set_option maxRecDepth 100000 in
theorem ok182 : ((fun x : Nat × KF => x.2.nat.isSome || fnOk Tryz.prog FT x.1 x.2) (182, k_pick_first)) = true := by kernel_rfl
set_option maxRecDepth 100000 in
theorem ok183 : ((fun x : Nat × KF => x.2.nat.isSome || fnOk Tryz.prog FT x.1 x.2) (183, k_pick_compare)) = true := by kernel_rfl
set_option maxRecDepth 100000 in
theorem ok241 : ((fun x : Nat × KF => x.2.nat.isSome || fnOk Tryz.prog FT x.1 x.2) (241, k_cmp_Compare_int)) = true := by kernel_rfl
set_option maxRecDepth 100000 in
theorem ok272 : ((fun x : Nat × KF => x.2.nat.isSome || fnOk Tryz.prog FT x.1 x.2) (272, k_cmp_isNaN_int)) = true := by kernel_rfl
set_option maxRecDepth 100000 in
theorem ok240 : ((fun x : Nat × KF => x.2.nat.isSome || fnOk Tryz.prog FT x.1 x.2) (240, k_cmp_Or_int)) = true := by kernel_rfl
set_option maxRecDepth 100000 in
theorem ok238 : ((fun x : Nat × KF => x.2.nat.isSome || fnOk Tryz.prog FT x.1 x.2) (238, k_row_Set)) = true := by kernel_rfl
set_option maxRecDepth 100000 in
theorem ok271 : ((fun x : Nat × KF => x.2.nat.isSome || fnOk Tryz.prog FT x.1 x.2) (271, k_row_bit)) = true := by kernel_rfl
set_option maxRecDepth 100000 in
theorem ok239 : ((fun x : Nat × KF => x.2.nat.isSome || fnOk Tryz.prog FT x.1 x.2) (239, k_row_First)) = true := by kernel_rfl
set_option maxRecDepth 100000 in
theorem ok111 : ((fun x : Nat × KF => x.2.nat.isSome || fnOk Tryz.prog FT x.1 x.2) (111, k_kern_turn_goes)) = true := by kernel_rfl
set_option maxRecDepth 100000 in
theorem ok184 : ((fun x : Nat × KF => x.2.nat.isSome || fnOk Tryz.prog FT x.1 x.2) (184, k_job_Go)) = true := by kernel_rfl
set_option maxRecDepth 100000 in
theorem ok242 : ((fun x : Nat × KF => x.2.nat.isSome || fnOk Tryz.prog FT x.1 x.2) (242, k_job_twin)) = true := by kernel_rfl
set_option maxRecDepth 100000 in
theorem ok245 : ((fun x : Nat × KF => x.2.nat.isSome || fnOk Tryz.prog FT x.1 x.2) (245, k_job_machine)) = true := by kernel_rfl
set_option maxRecDepth 100000 in
theorem ok244 : ((fun x : Nat × KF => x.2.nat.isSome || fnOk Tryz.prog FT x.1 x.2) (244, k_job_Code)) = true := by kernel_rfl
set_option maxRecDepth 100000 in
theorem ok243 : ((fun x : Nat × KF => x.2.nat.isSome || fnOk Tryz.prog FT x.1 x.2) (243, k_vm_Step)) = true := by kernel_rfl
set_option maxRecDepth 100000 in
theorem ok273 : ((fun x : Nat × KF => x.2.nat.isSome || fnOk Tryz.prog FT x.1 x.2) (273, k_vm_twin)) = true := by kernel_rfl
set_option maxRecDepth 100000 in
theorem ok274 : ((fun x : Nat × KF => x.2.nat.isSome || fnOk Tryz.prog FT x.1 x.2) (274, k_vm_Shift)) = true := by kernel_rfl
set_option maxRecDepth 100000 in
theorem ok275 : ((fun x : Nat × KF => x.2.nat.isSome || fnOk Tryz.prog FT x.1 x.2) (275, k_vm_Narrow)) = true := by kernel_rfl
set_option maxRecDepth 100000 in
theorem ok276 : ((fun x : Nat × KF => x.2.nat.isSome || fnOk Tryz.prog FT x.1 x.2) (276, k_vm_goes)) = true := by kernel_rfl
set_option maxRecDepth 100000 in
theorem ok246 : ((fun x : Nat × KF => x.2.nat.isSome || fnOk Tryz.prog FT x.1 x.2) (246, k_slices_Delete_int_int)) = true := by kernel_rfl
set_option maxRecDepth 100000 in
theorem ok185 : ((fun x : Nat × KF => x.2.nat.isSome || fnOk Tryz.prog FT x.1 x.2) (185, k_sema_Take)) = true := by kernel_rfl
set_option maxRecDepth 100000 in
theorem ok186 : ((fun x : Nat × KF => x.2.nat.isSome || fnOk Tryz.prog FT x.1 x.2) (186, k_sema_Let)) = true := by kernel_rfl
set_option maxRecDepth 100000 in
theorem ok187 : ((fun x : Nat × KF => x.2.nat.isSome || fnOk Tryz.prog FT x.1 x.2) (187, k_kern_turn_done)) = true := by kernel_rfl
set_option maxRecDepth 100000 in
theorem ok248 : ((fun x : Nat × KF => x.2.nat.isSome || fnOk Tryz.prog FT x.1 x.2) (248, k_job_Opt)) = true := by kernel_rfl
set_option maxRecDepth 100000 in
theorem ok112 : ((fun x : Nat × KF => x.2.nat.isSome || fnOk Tryz.prog FT x.1 x.2) (112, k_kern_turn_hits)) = true := by kernel_rfl
set_option maxRecDepth 100000 in
theorem ok188 : ((fun x : Nat × KF => x.2.nat.isSome || fnOk Tryz.prog FT x.1 x.2) (188, k_fault_Hit)) = true := by kernel_rfl
set_option maxRecDepth 100000 in
theorem ok249 : ((fun x : Nat × KF => x.2.nat.isSome || fnOk Tryz.prog FT x.1 x.2) (249, k_job_Back)) = true := by kernel_rfl
set_option maxRecDepth 100000 in
theorem ok33 : ((fun x : Nat × KF => x.2.nat.isSome || fnOk Tryz.prog FT x.1 x.2) (33, k_obj_Turn)) = true := by kernel_rfl
set_option maxRecDepth 100000 in
theorem allOk : kl.all (fun x => x.2.nat.isSome || fnOk Tryz.prog FT x.1 x.2) = true := and2 ok8 (and2 ok13 (and2 ok18 (and2 ok23 (and2 ok40 (and2 ok72 (and2 ok125 (and2 ok73 (and2 ok17 (and2 ok31 (and2 ok48 (and2 ok89 (and2 ok84 (and2 ok145 (and2 ok155 (and2 ok211 (and2 ok209 (and2 ok210 (and2 ok260 (and2 ok261 (and2 ok212 (and2 ok213 (and2 ok262 (and2 ok263 (and2 ok264 (and2 ok265 (and2 ok215 (and2 ok231 (and2 ok266 (and2 ok150 (and2 ok214 (and2 ok218 (and2 ok216 (and2 ok146 (and2 ok147 (and2 ok217 (and2 ok148 (and2 ok85 (and2 ok149 (and2 ok142 (and2 ok207 (and2 ok206 (and2 ok208 (and2 ok151 (and2 ok143 (and2 ok158 (and2 ok103 (and2 ok159 (and2 ok153 (and2 ok160 (and2 ok28 (and2 ok44 (and2 ok81 (and2 ok45 (and2 ok86 (and2 ok152 (and2 ok46 (and2 ok87 (and2 ok154 (and2 ok156 (and2 ok219 (and2 ok157 (and2 ok82 (and2 ok83 (and2 ok144 (and2 ok49 (and2 ok90 (and2 ok64 (and2 ok113 (and2 ok114 (and2 ok115 (and2 ok189 (and2 ok170 (and2 ok161 (and2 ok222 (and2 ok224 (and2 ok223 (and2 ok163 (and2 ok162 (and2 ok168 (and2 ok226 (and2 ok50 (and2 ok91 (and2 ok59 (and2 ok100 (and2 ok101 (and2 ok102 (and2 ok104 (and2 ok175 (and2 ok177 (and2 ok176 (and2 ok95 (and2 ok65 (and2 ok105 (and2 ok178 (and2 ok19 (and2 ok35 (and2 ok164 (and2 ok165 (and2 ok51 (and2 ok34 (and2 ok66 (and2 ok116 (and2 ok117 (and2 ok67 (and2 ok69 (and2 ok120 (and2 ok68 (and2 ok52 (and2 ok92 (and2 ok166 (and2 ok225 (and2 ok268 (and2 ok93 (and2 ok167 (and2 ok94 (and2 ok53 (and2 ok96 (and2 ok169 (and2 ok109 (and2 ok54 (and2 ok97 (and2 ok55 (and2 ok98 (and2 ok172 (and2 ok171 (and2 ok227 (and2 ok56 (and2 ok99 (and2 ok173 (and2 ok174 (and2 ok228 (and2 ok229 (and2 ok230 (and2 ok269 (and2 ok57 (and2 ok58 (and2 ok32 (and2 ok60 (and2 ok106 (and2 ok107 (and2 ok179 (and2 ok232 (and2 ok233 (and2 ok247 (and2 ok180 (and2 ok234 (and2 ok235 (and2 ok61 (and2 ok62 (and2 ok108 (and2 ok63 (and2 ok110 (and2 ok181 (and2 ok236 (and2 ok237 (and2 ok270 (and2 ok182 (and2 ok183 (and2 ok241 (and2 ok272 (and2 ok240 (and2 ok238 (and2 ok271 (and2 ok239 (and2 ok111 (and2 ok184 (and2 ok242 (and2 ok245 (and2 ok244 (and2 ok243 (and2 ok273 (and2 ok274 (and2 ok275 (and2 ok276 (and2 ok246 (and2 ok185 (and2 ok186 (and2 ok187 (and2 ok248 (and2 ok112 (and2 ok188 (and2 ok249 (and2 ok33 (rfl))))))))))))))))))))))))))))))))))))))))))))))))))))))))))))))))))))))))))))))))))))))))))))))))))))))))))))))))))))))))))))))))))))))))))))))))))))))))))))))))))))))))))))))))))))))))
set_option maxRecDepth 100000 in
theorem allSgs : tl.all (fun x => sgsOk Tryz.prog FT x.1) = true := by kernel_rfl
set_option maxRecDepth 100000 in
theorem natIn : kl.all (fun x => match x.2.nat with | none => true | some k => natl.contains (x.1, k)) = true := by kernel_rfl
theorem okOne (f : Nat) (kf : KF) (h1 : (kf.nat.isSome || fnOk Tryz.prog FT f kf) = true) (h2 : (match kf.nat with | none => true | some k => natl.contains (f, k)) = true) : FnOk Tryz.prog FT f kf := by
  cases hn : kf.nat with
  | none =>
    rw [hn, Option.isSome_none, Bool.false_or] at h1
    exact .inl ⟨hn, h1⟩
  | some k =>
    rw [hn] at h2
    exact .inr ⟨k, hn, nats (f, k) (List.contains_iff_mem.1 h2)⟩
set_option maxRecDepth 100000 in
theorem okAll : ∀ f kf, kp f = some kf → FnOk Tryz.prog FT f kf := fun f kf h =>
  okOne f kf (lookup_all (p := fun x => x.2.nat.isSome || fnOk Tryz.prog FT x.1 x.2) (f := f) (a := kf) allOk h) (lookup_all (p := fun x => match x.2.nat with | none => true | some k => natl.contains (x.1, k)) (f := f) (a := kf) natIn h)
theorem sgsAll : ∀ f, sgsOk Tryz.prog FT f = true := fun f => sgs_all allSgs f
end Go.Cd
