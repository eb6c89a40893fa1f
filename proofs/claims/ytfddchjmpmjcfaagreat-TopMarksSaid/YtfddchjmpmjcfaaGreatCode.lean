/- The code of the functions, as the evaluator reads it; printed by a program of this session. No conditions. -/
import Derived.Test.YtfddchjmpmjcfaaGreatFwA
set_option linter.unusedVariables false
set_option linter.unusedSimpArgs false
set_option maxRecDepth 100000
namespace Go.Cd
open Go.Fw
abbrev gm (d x : Nat) : GI := ⟨none, .mv d (.t x)⟩
abbrev gl (d x : Nat) : GI := ⟨none, .ld d (.t x)⟩
abbrev gk (d x : Nat) : GI := ⟨none, .len d (.t x)⟩
abbrev gc (d x : Nat) : GI := ⟨none, .nck d (.t x)⟩
abbrev gf (d x i : Nat) : GI := ⟨none, .fa d (.t x) i⟩
abbrev ge (d x i : Nat) : GI := ⟨none, .ex d (.t x) i⟩
abbrev ga (d x y : Nat) : GI := ⟨none, .ia d (.t x) (.t y)⟩
abbrev gs (x y : Nat) : GI := ⟨none, .st (.t x) (.t y)⟩
abbrev gp (d x y : Nat) : GI := ⟨none, .app d (.t x) (.t y)⟩
abbrev gn (i : KI) : GI := ⟨none, i⟩
abbrev hm (b d x : Nat) : GI := ⟨some (b, true), .mv d (.t x)⟩
abbrev jm (b d x : Nat) : GI := ⟨some (b, false), .mv d (.t x)⟩
abbrev gh (b : Nat) (i : KI) : GI := ⟨some (b, true), i⟩
abbrev gj (b : Nat) (i : KI) : GI := ⟨some (b, false), i⟩
abbrev ci (n : Int) : Opd := .c (.int .i64 n)
attribute [simp] gm gl gk gc gf ge ga gs gp gn hm jm gh gj ci
def f_top_TopMarks : Nat := 8
def f_top_begun : Nat := 13
def f_play_Call : Nat := 18
def f_trial_All : Nat := 23
def f_kern_New : Nat := 40
def f_obj_New : Nat := 72
def f_slots_New : Nat := 125
def f_watch_New : Nat := 73
def f_trial_Do : Nat := 17
def f_call_Do : Nat := 31
def f_call_asked_admit : Nat := 48
def f_admit_In : Nat := 89
def f_task_May : Nat := 84
def f_shape_May : Nat := 145
def f_slices_ContainsFunc_api_Inst_api_Inst : Nat := 155
def f_slices_IndexFunc_api_Inst_api_Inst : Nat := 211
def f_shape_May_1 : Nat := 209
def f_code_May : Nat := 210
def f_code_memory : Nat := 260
def f_code_within : Nat := 261
def f_shape_May_2 : Nat := 212
def f_shape_nested : Nat := 213
def f_shape_pieces : Nat := 262
def f_shape_piece_has : Nat := 263
def f_shape_piece_within : Nat := 264
def f_shape_piece_apart : Nat := 265
def f_slices_ContainsFunc_int_int : Nat := 215
def f_slices_IndexFunc_int_int : Nat := 231
def f_shape_nested_1 : Nat := 266
def f_shape_Pairs : Nat := 150
def f_shape_ins : Nat := 214
def f_shape_Pairs_1 : Nat := 218
def f_shape_May_3 : Nat := 216
def f_task_may : Nat := 146
def f_task_locks : Nat := 147
def f_task_locks_1 : Nat := 217
def f_task_long : Nat := 148
def f_cost_Of : Nat := 85
def f_cost_times : Nat := 149
def f_sat_Mul : Nat := 142
def f_sat_size : Nat := 207
def f_sat_times : Nat := 206
def f_sat_end : Nat := 208
def f_cost_sum : Nat := 151
def f_sat_Add : Nat := 143
def f_admit_mine : Nat := 158
def f_slices_Clone_api_Inst_api_Inst : Nat := 103
def f_admit_In_1 : Nat := 159
def f_slices_IndexFunc_api_Task_api_Task : Nat := 153
def f_slices_Insert_api_Task_api_Task : Nat := 160
def f_admit_All : Nat := 28
def f_bound_Resp : Nat := 44
def f_bound_row : Nat := 81
def f_task_Costs : Nat := 45
def f_slices_Concat_api_Span_api_Span : Nat := 86
def f_slices_Grow_api_Span_api_Span : Nat := 152
def f_block_By : Nat := 46
def f_block_Ceil : Nat := 87
def f_block_Ceil_1 : Nat := 154
def f_slices_Concat_api_Inst_api_Inst : Nat := 156
def f_slices_Grow_api_Inst_api_Inst : Nat := 219
def f_block_Ceil_1_1 : Nat := 157
def f_bound_sum_add : Nat := 82
def f_bound_often : Nat := 83
def f_sat_Up : Nat := 144
def f_call_asked_makes : Nat := 49
def f_obj_Make : Nat := 90
def f_obj_twin : Nat := 64
def f_slices_Clone_int_int : Nat := 113
def f_slices_Clone_bool_bool : Nat := 114
def f_obj_mine : Nat := 115
def f_slices_Clone_int64_int64 : Nat := 189
def f_slices_Clone_api_Waiter_api_Waiter : Nat := 170
def f_slots_Take : Nat := 161
def f_slots_twin : Nat := 222
def f_slots_places : Nat := 224
def f_slices_Index_bool_bool : Nat := 223
def f_obj_fresh : Nat := 163
def f_obj_sealed : Nat := 162
def f_obj_sum : Nat := 168
def f_seal_Sum : Nat := 226
def f_call_asked_start : Nat := 50
def f_kern_Start : Nat := 91
def f_kern_twin : Nat := 59
def f_slices_Clone_api_Task_api_Task : Nat := 100
def f_slices_Clone_api_Bounds_api_Bounds : Nat := 101
def f_slices_Clone_api_Job_api_Job : Nat := 102
def f_fault_Loses : Nat := 104
def f_slices_Clone_api_Rep2_api_Rep2 : Nat := 175
def f_fault_Loses_1 : Nat := 177
def f_slices_DeleteFunc_int_int : Nat := 176
def f_obj_Put : Nat := 95
def f_obj_there : Nat := 65
def f_watch_Good : Nat := 105
def f_watch_twin : Nat := 178
def f_kern_Locks : Nat := 19
def f_obj_Semas : Nat := 35
def f_kern_Start_1 : Nat := 164
def f_kern_Kernel_lock : Nat := 165
def f_call_asked_release : Nat := 51
def f_kern_Release : Nat := 34
def f_kern_Kernel_find : Nat := 66
def f_slices_BinarySearchFunc_api_Job_api_Job_int : Nat := 116
def f_kern_Kernel_find_1 : Nat := 117
def f_slices_Delete_api_Job_api_Job : Nat := 67
def f_job_New : Nat := 69
def f_vm_New : Nat := 120
def f_slices_Insert_api_Job_api_Job : Nat := 68
def f_call_asked_post : Nat := 52
def f_call_asked_thing : Nat := 92
def f_obj_Find : Nat := 166
def f_slots_Has : Nat := 225
def f_slots_handles : Nat := 268
def f_mbox_Post : Nat := 93
def f_mbox_twin : Nat := 167
def f_call_asked_told : Nat := 94
def f_call_asked_take : Nat := 53
def f_mbox_Take : Nat := 96
def f_slices_Contains_int_int : Nat := 169
def f_slices_Index_int_int : Nat := 109
def f_call_asked_raise : Nat := 54
def f_flag_Raise : Nat := 97
def f_call_asked_await : Nat := 55
def f_flag_Await : Nat := 98
def f_flag_Await_1 : Nat := 172
def f_slices_ContainsFunc_api_Waiter_api_Waiter : Nat := 171
def f_slices_IndexFunc_api_Waiter_api_Waiter : Nat := 227
def f_call_asked_free : Nat := 56
def f_obj_Drop : Nat := 99
def f_slots_Free : Nat := 173
def f_obj_waits : Nat := 174
def f_mbox_Reset : Nat := 228
def f_flag_Reset : Nat := 229
def f_slices_Concat_int_int : Nat := 230
def f_slices_Grow_int_int : Nat := 269
def f_call_asked_wrong : Nat := 57
def f_call_mine : Nat := 58
def f_kern_Tick : Nat := 32
def f_kern_turn_ends : Nat := 60
def f_kern_turn_tells : Nat := 106
def f_kern_turn_misses : Nat := 107
def f_sema_All : Nat := 179
def f_slices_Clone_api_Sema_api_Sema : Nat := 232
def f_sema_holds : Nat := 233
def f_sema_has : Nat := 247
def f_watch_Miss : Nat := 180
def f_watch_has : Nat := 234
def f_slices_Contains_bool_bool : Nat := 235
def f_kern_turn_promotes : Nat := 61
def f_kern_turn_audits : Nat := 62
def f_obj_Audit : Nat := 108
def f_kern_turn_runs : Nat := 63
def f_pick_Next : Nat := 110
def f_pick_of : Nat := 181
def f_band_Of : Nat := 236
def f_sema_Low : Nat := 237
def f_band_Base : Nat := 270
def f_pick_first : Nat := 182
def f_pick_compare : Nat := 183
def f_cmp_Compare_int : Nat := 241
def f_cmp_isNaN_int : Nat := 272
def f_cmp_Or_int : Nat := 240
def f_row_Set : Nat := 238
def f_row_bit : Nat := 271
def f_row_First : Nat := 239
def f_kern_turn_goes : Nat := 111
def f_job_Go : Nat := 184
def f_job_twin : Nat := 242
def f_job_machine : Nat := 245
def f_job_Code : Nat := 244
def f_vm_Step : Nat := 243
def f_vm_twin : Nat := 273
def f_vm_Shift : Nat := 274
def f_vm_Narrow : Nat := 275
def f_vm_goes : Nat := 276
def f_slices_Delete_int_int : Nat := 246
def f_sema_Take : Nat := 185
def f_sema_Let : Nat := 186
def f_kern_turn_done : Nat := 187
def f_job_Opt : Nat := 248
def f_kern_turn_hits : Nat := 112
def f_fault_Hit : Nat := 188
def f_job_Back : Nat := 249
def f_obj_Turn : Nat := 33
/- foliot/foliottop.TopMarks -/
def k_top_TopMarks_L1b : K := (.seq (.seq (.reg [] [gm 35 8, gm 36 0, gm 37 7, ga 38 36 37, gl 39 38, gn (.bin 40 .rem (.t 39) (.c (.int .u8 4))), gn (.cv 41 .i64 (.t 40)), gn (.bin 42 .lss (.t 35) (.t 41))] [35,36,37,38,39,40,41])
 (.cond (.t 42) .skip
 (.ext 2)))
 (.seq (.blk 3 (.reg [] [gm 45 5, gn (.bld 46 [(ci 2), (ci 0), (ci 0), (ci 0)]), gn (.bsl 47 [(.t 46)]), gp 48 45 47, gm 5 48] [45,46,47,48]))
 (.reg [] [gm 43 8, gn (.bin 44 .add (.t 43) (ci 1)), gm 8 44] [43,44])))
def k_top_TopMarks_L1 : K := k_top_TopMarks_L1b
def k_top_TopMarks_L0b : K := (.seq (.seq (.reg [] [gm 29 7, gm 30 0, gk 31 30, gn (.bin 32 .lss (.t 29) (.t 31))] [29,30,31])
 (.cond (.t 32) .skip
 (.ext 0)))
 (.seq (.blk 1 (.seq (.seq (.reg [] [gn (.mv 8 (ci 0))] [])
 (.blk 2 (.loop [0,1,5,6,7,8] k_top_TopMarks_L1)))
 (.seq (.reg [] [gm 49 5, gn (.bld 50 [(ci 11), (ci 0), (ci 0), (ci 0)]), gn (.bsl 51 [(.t 50)]), gp 52 49 51, gm 5 52] [49,50,51,52])
 (.reg [] [gm 53 6, gm 54 5, gk 55 54, gn (.bsl 56 [(.t 55)]), gp 57 53 56, gm 6 57] [53,54,55,56,57]))))
 (.reg [] [gm 33 7, gn (.bin 34 .add (.t 33) (ci 1)), gm 7 34] [33,34])))
def k_top_TopMarks_L0 : K := k_top_TopMarks_L0b
def k_top_TopMarks_L2b : K := (.seq (.seq (.reg [] [gm 132 21, gm 133 6, gk 134 133, gn (.bin 135 .lss (.t 132) (.t 134))] [132,133,134])
 (.cond (.t 135) .skip
 (.ext 4)))
 (.seq (.blk 5 (.seq (.reg [] [gm 138 6, gm 139 21, ga 140 138 139, gl 141 140, gm 142 10, gn (.bin 143 .leq (.t 141) (.t 142))] [138,139,140,141,142])
 (.cond (.t 143) (.reg [] [gm 144 6, gm 145 21, ga 146 144 145, gl 147 146, gm 20 147] [144,145,146,147])
 .skip)))
 (.reg [] [gm 136 21, gn (.bin 137 .add (.t 136) (ci 1)), gm 21 137] [136,137])))
def k_top_TopMarks_L2 : K := k_top_TopMarks_L2b
def k_top_TopMarks_L3b : K := (.seq (.seq (.reg [] [gm 159 23, gm 160 17, gk 161 160, gn (.bin 162 .lss (.t 159) (.t 161))] [159,160,161])
 (.cond (.t 162) .skip
 (.ext 6)))
 (.seq (.blk 7 (.seq (.reg [] [gm 165 17, gm 166 23, ga 167 165 166, gf 168 167 1, gl 169 168, gn (.bin 170 .eql (.t 169) (ci 3))] [165,166,167,168,169])
 (.cond (.t 170) (.seq (.reg [] [gm 171 17, gm 172 23, ga 173 171 172, gf 174 173 0, gl 175 174, gm 176 22, gn (.bin 177 .eql (.t 175) (.t 176)), gm 4 177] [17,22,23,171,172,173,174,175,176,177])
 .ret)
 .skip)))
 (.reg [] [gm 163 23, gn (.bin 164 .add (.t 163) (ci 1)), gm 23 164] [163,164])))
def k_top_TopMarks_L3 : K := k_top_TopMarks_L3b
def k_top_TopMarks : KF := ⟨(.seq (.reg [] [gn (.mv 4 (.c (.bool false)))] [4])
 (.seq (.seq (.reg [] [gn (.dat 24 f_top_begun []), gn (.un 25 .not (.t 24))] [24])
 (.cond (.t 25) (.seq (.reg [] [gn (.mv 4 (.c (.bool false)))] [])
 .ret)
 .skip))
 (.seq (.seq (.reg [] [gm 26 0, gk 27 26, gn (.bin 28 .gtr (.t 27) (ci 4))] [26,27])
 (.cond (.t 28) (.seq (.reg [] [gn (.mv 4 (.c (.bool true)))] [])
 .ret)
 .skip))
 (.seq (.reg [] [gn (.mv 5 (.c (.d (.sl true []))))] [])
 (.seq (.reg [] [gn (.mv 6 (.c (.d (.sl true []))))] [])
 (.seq (.seq (.reg [] [gn (.mv 7 (ci 0))] [])
 (.blk 0 (.loop [0,1,5,6,7] k_top_TopMarks_L0)))
 (.seq (.reg [] [gm 58 5, gn (.bld 59 [(ci 0), (ci 0), (ci 0), (ci 0)]), gn (.bsl 60 [(.t 59)]), gp 61 58 60, gm 5 61] [58,59,60,61])
 (.seq (.reg [] [gm 62 5, gk 63 62, gm 9 63] [62,63])
 (.seq (.reg [] [gm 64 1, gn (.cv 65 .i64 (.t 64)), gm 66 9, gn (.bin 67 .add (.t 66) (ci 3)), gn (.bin 68 .rem (.t 65) (.t 67)), gm 10 68] [1,64,65,66,67,68])
 (.seq (.reg [] [gm 69 5, gn (.bld 70 [(ci 1), (ci 200), (ci 200), (.t 69), (.c (.d (.sl true []))), (.c (.d (.sl true [])))]), gn (.alc 11 (.d (.agg [(.int .i64 0), (.int .i64 0), (.int .i64 0), (.sl true []), (.sl true []), (.sl true [])]))), gs 11 70] [5,69,70])
 (.seq (.reg [] [gl 72 11, gn (.bld 73 [(ci 1), (.t 72), (.c (.d (.agg [(.int .i64 0), (.int .i64 0)]))), (ci 0), (ci 0), (.c (.int .u32 0))]), gn (.das 74 f_play_Call [(.t 73)]), gn (.bld 75 [(ci 5), (.c (.d (.agg [(.int .i64 0), (.int .i64 0), (.int .i64 0), (.sl true []), (.sl true []), (.sl true [])]))), (.c (.d (.agg [(.int .i64 0), (.int .i64 0)]))), (ci 0), (ci 0), (.c (.int .u32 0))]), gn (.das 76 f_play_Call [(.t 75)]), gn (.bld 77 [(ci 6), (.c (.d (.agg [(.int .i64 0), (.int .i64 0), (.int .i64 0), (.sl true []), (.sl true []), (.sl true [])]))), (.c (.d (.agg [(.int .i64 0), (.int .i64 0)]))), (ci 0), (ci 3), (.c (.int .u32 0))]), gn (.das 78 f_play_Call [(.t 77)]), gm 79 10, gn (.bld 80 [(ci 5), (.c (.d (.agg [(.int .i64 0), (.agg [(.int .i64 0), (.int .i64 0), (.int .i64 0), (.sl true []), (.sl true []), (.sl true [])]), (.agg [(.int .i64 0), (.int .i64 0)]), (.int .i64 0), (.int .i64 0), (.int .u32 0)]))), (ci 0), (.t 79)]), gn (.bld 81 [(ci 3), (.c (.d (.agg [(.int .i64 0), (.agg [(.int .i64 0), (.int .i64 0), (.int .i64 0), (.sl true []), (.sl true []), (.sl true [])]), (.agg [(.int .i64 0), (.int .i64 0)]), (.int .i64 0), (.int .i64 0), (.int .u32 0)]))), (ci 0), (ci 0)]), gn (.bld 82 [(ci 5), (.c (.d (.agg [(.int .i64 0), (.agg [(.int .i64 0), (.int .i64 0), (.int .i64 0), (.sl true []), (.sl true []), (.sl true [])]), (.agg [(.int .i64 0), (.int .i64 0)]), (.int .i64 0), (.int .i64 0), (.int .u32 0)]))), (ci 0), (ci 100)]), gn (.bsl 83 [(.t 74), (.t 76), (.t 78), (.t 80), (.t 81), (.t 82)]), gn (.das 84 f_trial_All [(ci 500), (.t 83)]), gm 71 84, ge 85 71 0, ge 86 71 1, ge 87 71 2, ge 88 71 3, gn (.alc 12 (.d (.agg [(.int .i64 0), (.int .i64 0), (.sl true []), (.sl true []), (.bool false), (.bool false), (.bool false), (.sl true []), (.agg [(.agg [(.sl true []), (.sl true [])]), (.sl true [])]), (.agg [(.sl true []), (.sl true [])])]))), gs 12 85, gm 13 86, gm 14 87, gm 15 88] [13,71,72,73,74,75,76,77,78,79,80,81,82,83,84,85,86,87,88])
 (.seq (.reg [] [gl 90 11, gn (.bld 91 [(ci 1), (.t 90), (.c (.d (.agg [(.int .i64 0), (.int .i64 0)]))), (ci 0), (ci 0), (.c (.int .u32 0))]), gn (.das 92 f_play_Call [(.t 91)]), gn (.bld 93 [(ci 5), (.c (.d (.agg [(.int .i64 0), (.int .i64 0), (.int .i64 0), (.sl true []), (.sl true []), (.sl true [])]))), (.c (.d (.agg [(.int .i64 0), (.int .i64 0)]))), (ci 0), (ci 0), (.c (.int .u32 0))]), gn (.das 94 f_play_Call [(.t 93)]), gn (.bld 95 [(ci 6), (.c (.d (.agg [(.int .i64 0), (.int .i64 0), (.int .i64 0), (.sl true []), (.sl true []), (.sl true [])]))), (.c (.d (.agg [(.int .i64 0), (.int .i64 0)]))), (ci 0), (ci 3), (.c (.int .u32 0))]), gn (.das 96 f_play_Call [(.t 95)]), gm 97 10, gn (.bld 98 [(ci 5), (.c (.d (.agg [(.int .i64 0), (.agg [(.int .i64 0), (.int .i64 0), (.int .i64 0), (.sl true []), (.sl true []), (.sl true [])]), (.agg [(.int .i64 0), (.int .i64 0)]), (.int .i64 0), (.int .i64 0), (.int .u32 0)]))), (ci 0), (.t 97)]), gn (.bld 99 [(ci 3), (.c (.d (.agg [(.int .i64 0), (.agg [(.int .i64 0), (.int .i64 0), (.int .i64 0), (.sl true []), (.sl true []), (.sl true [])]), (.agg [(.int .i64 0), (.int .i64 0)]), (.int .i64 0), (.int .i64 0), (.int .u32 0)]))), (ci 0), (ci 0)]), gn (.bld 100 [(ci 5), (.c (.d (.agg [(.int .i64 0), (.agg [(.int .i64 0), (.int .i64 0), (.int .i64 0), (.sl true []), (.sl true []), (.sl true [])]), (.agg [(.int .i64 0), (.int .i64 0)]), (.int .i64 0), (.int .i64 0), (.int .u32 0)]))), (ci 0), (ci 100)]), gn (.bsl 101 [(.t 92), (.t 94), (.t 96), (.t 98), (.t 99), (.t 100)]), gn (.das 102 f_trial_All [(ci 500), (.t 101)]), gm 89 102, ge 103 89 0, ge 104 89 1, ge 105 89 2, ge 106 89 3, gn (.alc 16 (.d (.agg [(.int .i64 0), (.int .i64 0), (.sl true []), (.sl true []), (.bool false), (.bool false), (.bool false), (.sl true []), (.agg [(.agg [(.sl true []), (.sl true [])]), (.sl true [])]), (.agg [(.sl true []), (.sl true [])])]))), gs 16 103, gm 17 104, gm 18 105, gm 19 106] [11,16,18,89,90,91,92,93,94,95,96,97,98,99,100,101,102,103,104,105,106])
 (.seq (.seq (.reg [] [gm 107 15, gn (.un 108 .not (.t 107)), gm 109 108, jm 109 110 19, gj 109 (.un 111 .not (.t 110)), gn (.pick 112 (.t 109) (.c (.bool true)) (.t 111)), gm 113 112, jm 113 114 14, gj 113 (.len 115 (.t 114)), gj 113 (.bin 116 .neq (.t 115) (ci 6)), gn (.pick 117 (.t 113) (.c (.bool true)) (.t 116)), gm 118 117, jm 118 119 14, gj 118 (.ia 120 (.t 119) (ci 2)), gj 118 (.fa 121 (.t 120) 0), gj 118 (.ld 122 (.t 121)), gj 118 (.bin 123 .neq (.t 122) (ci 0)), gn (.pick 124 (.t 118) (.c (.bool true)) (.t 123)), gm 125 124, gj 125 (.fa 126 (.t 12) 0), gj 125 (.ld 127 (.t 126)), jm 125 128 10, gj 125 (.bin 129 .add (.t 128) (ci 100)), gj 125 (.bin 130 .neq (.t 127) (.t 129)), gn (.pick 131 (.t 125) (.c (.bool true)) (.t 130))] [12,14,15,19,107,108,109,110,111,112,113,114,115,116,117,118,119,120,121,122,123,124,125,126,127,128,129,130])
 (.cond (.t 131) (.seq (.reg [] [gn (.mv 4 (.c (.bool false)))] [])
 .ret)
 .skip))
 (.seq (.reg [] [gn (.mv 20 (ci 0))] [])
 (.seq (.seq (.reg [] [gn (.mv 21 (ci 0))] [])
 (.blk 4 (.loop [6,9,10,17,20,21] k_top_TopMarks_L2)))
 (.seq (.reg [] [gm 148 9, gn (.bin 149 .sub (.t 148) (ci 1)), gm 22 149] [148,149])
 (.seq (.seq (.reg [] [gm 150 10, gm 151 9, gn (.bin 152 .lss (.t 150) (.t 151))] [9,150,151])
 (.cond (.t 152) (.reg [] [gm 153 22, gm 154 10, gm 155 20, gn (.bin 156 .sub (.t 154) (.t 155)), gn (.bin 157 .add (.t 153) (.t 156)), gn (.bin 158 .add (.t 157) (ci 1)), gm 22 158] [10,20,153,154,155,156,157,158])
 .skip))
 (.seq (.seq (.reg [] [gn (.mv 23 (ci 0))] [])
 (.blk 6 (.loop [17,22,23] k_top_TopMarks_L3)))
 (.seq (.reg [] [gn (.mv 4 (.c (.bool false)))] [])
 .ret))))))))))))))))))), [.t 4], none⟩
/- foliot/foliottop.begun -/
def k_top_begun : KF := ⟨(.seq (.reg [] [gn (.mv 0 (.c (.bool false)))] [0])
 (.seq (.reg [] [gn (.bld 7 [(ci 0), (ci 0), (ci 0), (ci 0)]), gn (.bsl 8 [(.t 7)]), gn (.bld 9 [(ci 1), (ci 20), (ci 20), (.t 8), (.c (.d (.sl true []))), (.c (.d (.sl true [])))]), gn (.alc 1 (.d (.agg [(.int .i64 0), (.int .i64 0), (.int .i64 0), (.sl true []), (.sl true []), (.sl true [])]))), gs 1 9] [7,8,9])
 (.seq (.reg [] [gl 10 1, gn (.bld 11 [(ci 1), (.t 10), (.c (.d (.agg [(.int .i64 0), (.int .i64 0)]))), (ci 0), (ci 0), (.c (.int .u32 0))]), gn (.das 12 f_play_Call [(.t 11)]), gn (.bld 13 [(ci 5), (.c (.d (.agg [(.int .i64 0), (.int .i64 0), (.int .i64 0), (.sl true []), (.sl true []), (.sl true [])]))), (.c (.d (.agg [(.int .i64 0), (.int .i64 0)]))), (ci 0), (ci 0), (.c (.int .u32 0))]), gn (.das 14 f_play_Call [(.t 13)]), gn (.bld 15 [(ci 6), (.c (.d (.agg [(.int .i64 0), (.int .i64 0), (.int .i64 0), (.sl true []), (.sl true []), (.sl true [])]))), (.c (.d (.agg [(.int .i64 0), (.int .i64 0)]))), (ci 0), (ci 7), (.c (.int .u32 0))]), gn (.das 16 f_play_Call [(.t 15)]), gn (.bld 17 [(ci 2), (.c (.d (.agg [(.int .i64 0), (.agg [(.int .i64 0), (.int .i64 0), (.int .i64 0), (.sl true []), (.sl true []), (.sl true [])]), (.agg [(.int .i64 0), (.int .i64 0)]), (.int .i64 0), (.int .i64 0), (.int .u32 0)]))), (ci 0), (ci 0)]), gn (.bsl 18 [(.t 12), (.t 14), (.t 16), (.t 17)]), gm 2 18] [1,10,11,12,13,14,15,16,17,18])
 (.seq (.reg [] [gm 20 2, gn (.das 21 f_trial_All [(ci 30), (.t 20)]), gm 19 21, ge 22 19 0, ge 23 19 1, ge 24 19 2, ge 25 19 3, gn (.alc 3 (.d (.agg [(.int .i64 0), (.int .i64 0), (.sl true []), (.sl true []), (.bool false), (.bool false), (.bool false), (.sl true []), (.agg [(.agg [(.sl true []), (.sl true [])]), (.sl true [])]), (.agg [(.sl true []), (.sl true [])])]))), gs 3 22, gm 4 23, gm 5 24, gm 6 25] [2,19,20,21,22,23,24,25])
 (.seq (.reg [] [gm 26 6, gm 27 26, gh 27 (.fa 28 (.t 3) 0), gh 27 (.ld 29 (.t 28)), gh 27 (.bin 30 .eql (.t 29) (ci 1)), gn (.pick 31 (.t 27) (.t 30) (.c (.bool false))), gm 32 31, hm 32 33 4, gh 32 (.len 34 (.t 33)), gh 32 (.bin 35 .eql (.t 34) (ci 3)), gn (.pick 36 (.t 32) (.t 35) (.c (.bool false))), gm 37 36, hm 37 38 4, gh 37 (.ia 39 (.t 38) (ci 2)), gh 37 (.fa 40 (.t 39) 1), gh 37 (.ld 41 (.t 40)), gh 37 (.bin 42 .eql (.t 41) (ci 3)), gn (.pick 43 (.t 37) (.t 42) (.c (.bool false))), gm 44 43, hm 44 45 4, gh 44 (.ia 46 (.t 45) (ci 2)), gh 44 (.fa 47 (.t 46) 4), gh 44 (.ld 48 (.t 47)), gh 44 (.bin 49 .eql (.t 48) (ci 7)), gn (.pick 50 (.t 44) (.t 49) (.c (.bool false))), gm 51 50, hm 51 52 5, gh 51 (.len 53 (.t 52)), gh 51 (.bin 54 .eql (.t 53) (ci 4)), gn (.pick 55 (.t 51) (.t 54) (.c (.bool false))), gm 56 55, hm 56 57 5, gh 56 (.ia 58 (.t 57) (ci 0)), gh 56 (.fa 59 (.t 58) 0), gh 56 (.ld 60 (.t 59)), gh 56 (.bin 61 .eql (.t 60) (ci 0)), gn (.pick 62 (.t 56) (.t 61) (.c (.bool false))), gm 0 62] [3,4,5,6,26,27,28,29,30,31,32,33,34,35,36,37,38,39,40,41,42,43,44,45,46,47,48,49,50,51,52,53,54,55,56,57,58,59,60,61,62])
 .ret))))), [.t 0], none⟩
/- foliot/foliotplay.Call -/
def k_play_Call : KF := ⟨(.seq (.reg [] [gn (.box 1 (.t 0)), gn (.alc 2 (.d (.agg [(.int .i64 0), (.agg [(.int .i64 0), (.agg [(.int .i64 0), (.int .i64 0), (.int .i64 0), (.sl true []), (.sl true []), (.sl true [])]), (.agg [(.int .i64 0), (.int .i64 0)]), (.int .i64 0), (.int .i64 0), (.int .u32 0)]), (.int .i64 0), (.int .i64 0)])))] [0])
 (.seq (.reg [] [gl 3 1, gn (.bld 4 [(ci 1), (.t 3), (ci 0), (ci 0)]), gs 2 4] [1,3,4])
 .ret)), [.cell 2], none⟩
/- foliot/trial.All -/
def k_trial_All_L0b : K := (.seq (.reg [] [gn (.bin 24 .lss (.t 23) (.t 22))] [])
 (.seq (.cond (.t 24) .skip
 (.ext 0))
 (.seq (.blk 1 (.seq (.reg [] [ga 25 21 23, gl 26 25, gn (.alc 9 (.d (.agg [(.int .i64 0), (.agg [(.int .i64 0), (.agg [(.int .i64 0), (.int .i64 0), (.int .i64 0), (.sl true []), (.sl true []), (.sl true [])]), (.agg [(.int .i64 0), (.int .i64 0)]), (.int .i64 0), (.int .i64 0), (.int .u32 0)]), (.int .i64 0), (.int .i64 0)]))), gs 9 26] [25,26])
 (.seq (.reg [] [gl 28 4, gl 29 9, gn (.das 30 f_trial_Do [(.t 28), (.t 29)]), gm 27 30, ge 31 27 0, ge 32 27 1, ge 33 27 2, gn (.alc 10 (.d (.agg [(.int .i64 0), (.int .i64 0), (.sl true []), (.sl true []), (.bool false), (.bool false), (.bool false), (.sl true []), (.agg [(.agg [(.sl true []), (.sl true [])]), (.sl true [])]), (.agg [(.sl true []), (.sl true [])])]))), gn (.alc 12 (.d (.agg [(.int .i64 0), (.agg [(.int .i64 0), (.int .i64 0)]), (.int .i64 0)]))), gs 10 31, gm 11 32, gs 12 33] [9,27,28,29,30,31,32,33])
 (.reg [(0,3), (3,5), (0,6), (3,6), (0,7)] [gl 34 10, gm 35 5, gm 36 11, gp 37 35 36, gm 38 6, gl 39 12, gn (.bsl 40 [(.t 39)]), gp 41 38 40, gs 4 34, gm 5 37, gm 6 41] [10,11,12,34,35,36,37,38,39,40,41]))))
 (.reg [] [gn (.bin 42 .add (.t 23) (ci 1)), gm 23 42] [42]))))
def k_trial_All_L0 : K := k_trial_All_L0b
def k_trial_All : KF := ⟨(.seq (.reg [] [gn (.alc 4 (.d (.agg [(.int .i64 0), (.int .i64 0), (.sl true []), (.sl true []), (.bool false), (.bool false), (.bool false), (.sl true []), (.agg [(.agg [(.sl true []), (.sl true [])]), (.sl true [])]), (.agg [(.sl true []), (.sl true [])])]))), gn (.mv 5 (.c (.d (.sl true [])))), gn (.mv 6 (.c (.d (.sl true [])))), gn (.mv 7 (.c (.bool false)))] [7])
 (.seq (.reg [] [gm 14 0, gn (.das 15 f_kern_New [(.t 14)]), gm 13 15, ge 16 13 0, ge 17 13 1, gs 4 16, gm 7 17] [0,13,14,15,16,17])
 (.seq (.seq (.reg [] [gm 18 7, gn (.un 19 .not (.t 18))] [7,18])
 (.cond (.t 19) (.seq (.reg [] [gn (.bld 20 [(ci 0), (ci 0), (.c (.d (.sl true []))), (.c (.d (.sl true []))), (.c (.bool false)), (.c (.bool false)), (.c (.bool false)), (.c (.d (.sl true []))), (.c (.d (.agg [(.agg [(.sl true []), (.sl true [])]), (.sl true [])]))), (.c (.d (.agg [(.sl true []), (.sl true [])])))]), gs 4 20, gn (.mv 5 (.c (.d (.sl true [])))), gn (.mv 6 (.c (.d (.sl true [])))), gn (.mv 7 (.c (.bool false)))] [20])
 .ret)
 .skip))
 (.seq (.seq (.reg [] [gm 21 1, gk 22 21, gn (.mv 23 (ci 0))] [1])
 (.blk 0 (.loop [4,5,6,21,22,23] k_trial_All_L0)))
 (.seq (.reg [] [gl 43 4, gm 44 5, gm 45 6, gs 4 43, gm 5 44, gm 6 45, gn (.mv 7 (.c (.bool true)))] [43,44,45])
 .ret))))), [.cell 4, .t 5, .t 6, .t 7], none⟩
/- foliot/kern.New -/
def k_kern_New : KF := ⟨(.seq (.reg [] [gn (.alc 2 (.d (.agg [(.int .i64 0), (.int .i64 0), (.sl true []), (.sl true []), (.bool false), (.bool false), (.bool false), (.sl true []), (.agg [(.agg [(.sl true []), (.sl true [])]), (.sl true [])]), (.agg [(.sl true []), (.sl true [])])]))), gn (.mv 3 (.c (.bool false)))] [3])
 (.seq (.seq (.reg [] [gm 4 0, gn (.bin 5 .lss (.t 4) (ci 1)), gm 6 5, jm 6 7 0, gj 6 (.bin 8 .gtr (.t 7) (ci 4611686018427387904)), gn (.pick 9 (.t 6) (.c (.bool true)) (.t 8))] [4,5,6,7,8])
 (.cond (.t 9) (.seq (.reg [] [gn (.bld 10 [(ci 0), (ci 0), (.c (.d (.sl true []))), (.c (.d (.sl true []))), (.c (.bool false)), (.c (.bool false)), (.c (.bool false)), (.c (.d (.sl true []))), (.c (.d (.agg [(.agg [(.sl true []), (.sl true [])]), (.sl true [])]))), (.c (.d (.agg [(.sl true []), (.sl true [])])))]), gs 2 10, gn (.mv 3 (.c (.bool false)))] [10])
 .ret)
 .skip))
 (.seq (.reg [] [gm 11 0, gn (.das 12 f_obj_New []), gn (.das 13 f_watch_New [(ci 0)]), gn (.bld 14 [(ci 0), (.t 11), (.c (.d (.sl true []))), (.c (.d (.sl true []))), (.c (.bool false)), (.c (.bool false)), (.c (.bool false)), (.c (.d (.sl true []))), (.t 12), (.t 13)]), gs 2 14, gn (.mv 3 (.c (.bool true)))] [0,11,12,13,14])
 .ret))), [.cell 2, .t 3], none⟩
/- foliot/obj.New -/
def k_obj_New : KF := ⟨(.seq (.reg [] [gn (.alc 0 (.d (.agg [(.agg [(.sl true []), (.sl true [])]), (.sl true [])])))] [])
 (.seq (.reg [(0,1)] [gn (.dat 1 f_slots_New [(ci 12)]), gn (.mks 2 (.agg [(.int .i64 0), (.agg [(.int .i64 0), (.int .i64 0)]), (.agg [(.int .i64 0), (.int .i64 0)]), (.agg [(.sl true []), (.sl true [])]), (.agg [(.int .u32 0), (.sl true [])]), (.int .u32 0)]) (ci 12) (ci 12)), gn (.bld 3 [(.t 1), (.t 2)]), gs 0 3] [1,2,3])
 .ret)), [.cell 0], none⟩
/- foliot/slots.New -/
def k_slots_New : KF := ⟨(.seq (.reg [] [gn (.alc 2 (.d (.agg [(.sl true []), (.sl true [])])))] [])
 (.seq (.reg [] [gm 3 0, gn (.mx 4 [(.t 3), (ci 0)]), gn (.mn 5 [(.t 4), (ci 64)]), gm 0 5] [3,4,5])
 (.seq (.reg [] [gm 6 0, gn (.mks 7 (.int .i64 0) (.t 6) (.t 6)), gm 8 0, gn (.mks 9 (.bool false) (.t 8) (.t 8)), gn (.bld 10 [(.t 7), (.t 9)]), gs 2 10] [0,6,7,8,9,10])
 .ret))), [.cell 2], none⟩
/- foliot/watch.New -/
def k_watch_New : KF := ⟨(.seq (.reg [] [gn (.alc 2 (.d (.agg [(.sl true []), (.sl true [])])))] [])
 (.seq (.reg [] [gm 3 0, gn (.mx 4 [(.t 3), (ci 0)]), gn (.mn 5 [(.t 4), (ci 65536)]), gm 0 5] [3,4,5])
 (.seq (.reg [] [gm 6 0, gn (.mks 7 (.int .i64 0) (.t 6) (.t 6)), gm 8 0, gn (.mks 9 (.bool false) (.t 8) (.t 8)), gn (.bld 10 [(.t 7), (.t 9)]), gs 2 10] [0,6,7,8,9,10])
 .ret))), [.cell 2], none⟩
/- foliot/trial.Do -/
def k_trial_Do_L0b : K := (.seq (.reg [] [gn (.bin 67 .lss (.t 66) (.t 65))] [])
 (.seq (.cond (.t 67) .skip
 (.ext 1))
 (.seq (.blk 2 (.seq (.reg [] [gl 69 2, gn (.das 70 f_kern_Tick [(.t 69)]), gm 68 70, ge 71 68 0, ge 72 68 1, gn (.alc 11 (.d (.agg [(.int .i64 0), (.int .i64 0), (.sl true []), (.sl true []), (.bool false), (.bool false), (.bool false), (.sl true []), (.agg [(.agg [(.sl true []), (.sl true [])]), (.sl true [])]), (.agg [(.sl true []), (.sl true [])])]))), gs 11 71, gm 12 72] [68,69,70,71,72])
 (.reg [(0,3)] [gl 73 11, gm 74 8, gm 75 12, gp 76 74 75, gs 2 73, gm 8 76] [11,12,73,74,75,76])))
 (.reg [] [gn (.bin 77 .add (.t 66) (ci 1)), gm 66 77] [77]))))
def k_trial_Do_L0 : K := k_trial_Do_L0b
def k_trial_Do : KF := ⟨(.seq (.reg [] [gn (.box 2 (.t 0)), gn (.box 3 (.t 1)), gn (.alc 4 (.d (.agg [(.int .i64 0), (.int .i64 0), (.sl true []), (.sl true []), (.bool false), (.bool false), (.bool false), (.sl true []), (.agg [(.agg [(.sl true []), (.sl true [])]), (.sl true [])]), (.agg [(.sl true []), (.sl true [])])]))), gn (.mv 5 (.c (.d (.sl true [])))), gn (.alc 6 (.d (.agg [(.int .i64 0), (.agg [(.int .i64 0), (.int .i64 0)]), (.int .i64 0)])))] [0,1,5])
 (.seq (.reg [] [gn (.alc 7 (.d (.agg [(.int .i64 0), (.agg [(.int .i64 0), (.int .i64 0)]), (.int .i64 0)])))] [])
 (.seq (.reg [] [gn (.mv 8 (.c (.d (.sl true []))))] [])
 (.seq (.seq (.reg [] [gf 13 3 0, gl 14 13] [13])
 (.blk 0 (.seq (.reg [] [gn (.bin 17 .eql (.t 14) (ci 1)), gm 16 17] [17])
 (.cond (.t 16) (.seq (.reg [] [gl 18 2, gf 19 3 1, gl 20 19, gn (.das 21 f_call_Do [(.t 18), (.t 20)]), ge 22 21 0, ge 23 21 1, ge 24 21 2, gs 4 22, gm 5 23, gs 6 24] [2,3,18,19,20,21,22,23,24])
 .ret)
 (.seq (.reg [] [gn (.bin 26 .eql (.t 14) (ci 2)), gm 25 26] [26])
 (.cond (.t 25) (.seq (.reg [] [gl 28 2, gn (.das 29 f_kern_Tick [(.t 28)]), gm 27 29, ge 30 27 0, ge 31 27 1, gs 2 30, gm 8 31] [27,28,29,30,31])
 (.seq (.reg [(2,3)] [gl 32 2, gm 33 8, gl 34 7, gs 4 32, gm 5 33, gs 6 34] [2,7,8,32,33,34])
 .ret))
 (.seq (.reg [] [gn (.bin 36 .eql (.t 14) (ci 3)), gm 35 36] [36])
 (.cond (.t 35) (.reg [] [gf 37 2 6, gn (.st (.t 37) (.c (.bool true)))] [37])
 (.seq (.reg [] [gn (.bin 39 .eql (.t 14) (ci 4)), gm 38 39] [39])
 (.cond (.t 38) (.seq (.reg [] [gf 41 2 8, gl 42 41, gf 43 3 2, gl 44 43, gn (.das 45 f_obj_Turn [(.t 42), (.t 44)]), gm 40 45, ge 46 40 0, ge 47 40 1, gn (.alc 9 (.d (.agg [(.agg [(.sl true []), (.sl true [])]), (.sl true [])]))), gs 9 46, gm 10 47] [3,40,41,42,43,44,45,46,47])
 (.seq (.seq (.reg [] [gm 48 10, gn (.un 49 .not (.t 48))] [10,48])
 (.cond (.t 49) (.seq (.reg [] [gf 50 7 0, gn (.st (.t 50) (ci 3))] [50])
 (.ext 0))
 .skip))
 (.reg [] [gl 51 9, gf 52 2 8, gs 52 51] [9,51,52])))
 (.seq (.reg [] [gn (.bin 54 .eql (.t 14) (ci 5)), gm 53 54] [14,54])
 (.cond (.t 53) (.seq (.seq (.reg [] [gf 55 3 3, gl 56 55, gn (.bin 57 .lss (.t 56) (ci 0)), gm 58 57, gj 58 (.fa 59 (.t 3) 3), gj 58 (.ld 60 (.t 59)), gj 58 (.bin 61 .gtr (.t 60) (ci 10000)), gn (.pick 62 (.t 58) (.c (.bool true)) (.t 61))] [55,56,57,58,59,60,61])
 (.cond (.t 62) (.seq (.reg [] [gf 63 7 0, gn (.st (.t 63) (ci 1))] [63])
 (.ext 0))
 .skip))
 (.seq (.reg [] [gf 64 3 3, gl 65 64, gn (.mv 66 (ci 0))] [3,64])
 (.blk 1 (.loop [2,4,6,7,8,65,66] k_trial_Do_L0))))
 (.reg [] [gf 15 7 0, gn (.st (.t 15) (ci 1))] [15])))))))))))))
 (.seq (.reg [] [gl 79 2, gn (.das 80 f_kern_Release [(.t 79), (ci (-1)), (ci 0)]), gm 78 80, ge 81 78 0, ge 82 78 1, ge 83 78 2, gs 2 81] [78,79,80,81,82,83])
 (.seq (.reg [(2,3)] [gl 84 2, gm 85 8, gl 86 7, gs 4 84, gm 5 85, gs 6 86] [2,7,8,84,85,86])
 .ret)))))), [.cell 4, .t 5, .cell 6], none⟩
/- foliot/call.Do -/
def k_call_Do : KF := ⟨(.seq (.reg [] [gn (.box 2 (.t 0)), gn (.box 3 (.t 1)), gn (.alc 4 (.d (.agg [(.int .i64 0), (.int .i64 0), (.sl true []), (.sl true []), (.bool false), (.bool false), (.bool false), (.sl true []), (.agg [(.agg [(.sl true []), (.sl true [])]), (.sl true [])]), (.agg [(.sl true []), (.sl true [])])]))), gn (.mv 5 (.c (.d (.sl true [])))), gn (.alc 6 (.d (.agg [(.int .i64 0), (.agg [(.int .i64 0), (.int .i64 0)]), (.int .i64 0)])))] [0,1,5])
 (.seq (.reg [] [gl 11 2, gl 12 3, gn (.bld 13 [(.t 11), (.t 12), (.c (.d (.sl true []))), (.c (.d (.agg [(.int .i64 0), (.agg [(.int .i64 0), (.int .i64 0)]), (.int .i64 0)])))]), gn (.box 14 (.t 13)), gm 7 14] [2,11,12,13,14])
 (.seq (.reg [] [gn (.mkm 15), gm 16 7, gn (.mkf 17 f_call_asked_admit [(.t 16)] []), gn (.mu (.t 15) (ci 1) (.t 17)), gm 18 7, gn (.mkf 19 f_call_asked_makes [(.t 18)] []), gn (.mu (.t 15) (ci 2) (.t 19)), gm 20 7, gn (.mkf 21 f_call_asked_makes [(.t 20)] []), gn (.mu (.t 15) (ci 3) (.t 21)), gm 22 7, gn (.mkf 23 f_call_asked_makes [(.t 22)] []), gn (.mu (.t 15) (ci 4) (.t 23)), gm 24 7, gn (.mkf 25 f_call_asked_start [(.t 24)] []), gn (.mu (.t 15) (ci 5) (.t 25)), gm 26 7, gn (.mkf 27 f_call_asked_release [(.t 26)] []), gn (.mu (.t 15) (ci 6) (.t 27)), gm 28 7, gn (.mkf 29 f_call_asked_post [(.t 28)] []), gn (.mu (.t 15) (ci 7) (.t 29)), gm 30 7, gn (.mkf 31 f_call_asked_take [(.t 30)] []), gn (.mu (.t 15) (ci 8) (.t 31)), gm 32 7, gn (.mkf 33 f_call_asked_raise [(.t 32)] []), gn (.mu (.t 15) (ci 9) (.t 33)), gm 34 7, gn (.mkf 35 f_call_asked_await [(.t 34)] []), gn (.mu (.t 15) (ci 10) (.t 35)), gm 36 7, gn (.mkf 37 f_call_asked_free [(.t 36)] []), gn (.mu (.t 15) (ci 11) (.t 37)), gm 38 15, gm 8 38] [15,16,17,18,19,20,21,22,23,24,25,26,27,28,29,30,31,32,33,34,35,36,37,38])
 (.seq (.reg [] [gm 40 8, gf 41 3 0, gl 42 41, gn (.lk 43 (.t 40) (.t 42) .und true), gm 39 43, ge 44 39 0, ge 45 39 1, gm 9 44, gm 10 45] [3,8,39,40,41,42,43,44,45])
 (.seq (.seq (.reg [] [gm 46 10, gn (.un 47 .not (.t 46))] [10,46])
 (.cond (.t 47) (.reg [] [gm 48 7, gn (.mkf 49 f_call_asked_wrong [(.t 48)] []), gm 9 49] [48,49])
 .skip))
 (.seq (.reg [] [gm 50 9, gn (.cav 51 (.t 50) [])] [9,50,51])
 (.seq (.reg [(4,8), (4,12), (8,13), (12,13)] [gm 52 7, gc 53 52, gf 54 53 0, gl 55 54, gn (.das 56 f_call_mine [(.t 55)]), gm 57 7, gc 58 57, gf 59 58 2, gl 60 59, gm 61 7, gc 62 61, gf 63 62 3, gl 64 63, gs 4 56, gm 5 60, gs 6 64] [7,52,53,54,55,56,57,58,59,60,61,62,63,64])
 .ret))))))), [.cell 4, .t 5, .cell 6], none⟩
/- (*foliot/call.asked).admit -/
def k_call_asked_admit : KF := ⟨(.seq (.seq (.reg [] [gm 5 0, gc 6 5, gf 7 6 0, gf 8 7 4, gl 9 8] [5,6,7,8])
 (.cond (.t 9) (.seq (.reg [] [gm 10 0, gc 11 10, gf 12 11 3, gf 13 12 0, gn (.st (.t 13) (ci 7))] [0,10,11,12,13])
 .ret)
 .skip))
 (.seq (.reg [] [gm 15 0, gc 16 15, gf 17 16 0, gf 18 17 2, gl 19 18, gm 20 0, gc 21 20, gf 22 21 1, gf 23 22 1, gl 24 23, gm 25 0, gc 26 25, gf 27 26 0, gf 28 27 1, gl 29 28, gn (.das 30 f_admit_In [(.t 19), (.t 24), (.t 29)]), gm 14 30, ge 31 14 0, ge 32 14 1, ge 33 14 2, gm 2 31, gm 3 32, gm 4 33] [14,15,16,17,18,19,20,21,22,23,24,25,26,27,28,29,30,31,32,33])
 (.seq (.reg [] [gm 34 0, gm 35 4, gc 36 34, gf 37 36 3, gf 38 37 0, gs 38 35] [34,35,36,37,38])
 (.seq (.reg [] [gm 39 4, gn (.bin 40 .eql (.t 39) (ci 0))] [4,39])
 (.cond (.t 40) (.reg [] [gm 41 0, gm 42 0, gm 43 2, gm 44 3, gc 45 41, gf 46 45 0, gf 47 46 2, gs 47 43, gc 48 42, gf 49 48 0, gf 50 49 3, gs 50 44] [0,2,3,41,42,43,44,45,46,47,48,49,50])
 .skip))))), [], none⟩
/- foliot/admit.In -/
def k_admit_In_L0b : K := (.seq (.reg [] [gn (.bin 23 .lss (.t 22) (.t 21))] [])
 (.seq (.cond (.t 23) .skip
 (.ext 0))
 (.seq (.blk 1 (.seq (.reg [] [ga 24 20 22, gl 25 24, gn (.alc 11 (.d (.agg [(.int .i64 0), (.int .i64 0), (.int .i64 0), (.sl true []), (.sl true []), (.sl true [])]))), gs 11 25] [24,25])
 (.reg [] [gm 26 9, gf 27 11 0, gl 28 27, gn (.bld 29 [(.t 28)]), gn (.mu (.t 26) (.t 29) (.c (.bool true)))] [11,26,27,28,29])))
 (.reg [] [gn (.bin 30 .add (.t 22) (ci 1)), gm 22 30] [30]))))
def k_admit_In_L0 : K := k_admit_In_L0b
def k_admit_In_L1b : K := (.seq (.reg [] [gn (.bin 49 .lss (.t 48) (.t 47))] [])
 (.seq (.cond (.t 49) .skip
 (.ext 3))
 (.seq (.blk 4 (.seq (.reg [] [ga 50 46 48, gl 51 50, gn (.alc 15 (.d (.agg [(.int .i64 0), (.int .i64 0), (.int .i64 0), (.sl true []), (.sl true []), (.sl true [])]))), gs 15 51] [50,51])
 (.reg [] [gm 52 13, gl 53 15, gn (.das 54 f_admit_mine [(.t 53)]), gn (.bsl 55 [(.t 54)]), gp 56 52 55, gm 13 56] [15,52,53,54,55,56])))
 (.reg [] [gn (.bin 57 .add (.t 48) (ci 1)), gm 48 57] [57]))))
def k_admit_In_L1 : K := k_admit_In_L1b
def k_admit_In : KF := ⟨(.seq (.reg [] [gn (.box 4 (.t 1)), gn (.mv 6 (.c (.d (.sl true [])))), gn (.mv 7 (.c (.d (.sl true [])))), gn (.mv 8 (ci 0))] [1,6,7,8])
 (.seq (.reg [] [gn (.mkm 19), gm 9 19] [19])
 (.seq (.seq (.reg [] [gm 20 0, gk 21 20, gn (.mv 22 (ci 0))] [])
 (.blk 0 (.loop [0,2,4,9,20,21,22] k_admit_In_L0)))
 (.seq (.seq (.reg [] [gl 31 4, gn (.dat 32 f_task_May [(.t 31)]), gm 12 32] [31,32])
 (.seq (.reg [] [gm 33 12, gn (.bin 34 .neq (.t 33) (ci 0))] [33])
 (.cond (.t 34) (.seq (.reg [] [gm 35 12, gn (.mv 6 (.c (.d (.sl true [])))), gn (.mv 7 (.c (.d (.sl true [])))), gm 8 35] [12,35])
 .ret)
 .skip)))
 (.seq (.blk 2 (.seq (.reg [] [gm 37 9, gf 38 4 0, gl 39 38, gn (.bld 40 [(.t 39)]), gn (.lk 41 (.t 37) (.t 40) (.bool false) false), gm 36 41] [9,37,38,39,40,41])
 (.cond (.t 36) (.seq (.reg [] [gn (.mv 6 (.c (.d (.sl true [])))), gn (.mv 7 (.c (.d (.sl true [])))), gn (.mv 8 (ci 11))] [])
 .ret)
 (.seq (.reg [] [gm 43 0, gk 44 43, gn (.bin 45 .geq (.t 44) (ci 8)), gm 42 45] [43,44,45])
 (.cond (.t 42) (.seq (.reg [] [gn (.mv 6 (.c (.d (.sl true [])))), gn (.mv 7 (.c (.d (.sl true [])))), gn (.mv 8 (ci 4))] [])
 .ret)
 .skip)))))
 (.seq (.reg [] [gn (.mv 13 (.c (.d (.sl true []))))] [])
 (.seq (.seq (.reg [] [gm 46 0, gk 47 46, gn (.mv 48 (ci 0))] [0])
 (.blk 3 (.loop [2,4,13,46,47,48] k_admit_In_L1)))
 (.seq (.reg [] [gm 58 13, gn (.mkf 59 f_admit_In_1 [] [(.t 4)]), gn (.cal 60 f_slices_IndexFunc_api_Task_api_Task [(.t 58), (.t 59)] []), gm 16 60] [58,59,60])
 (.seq (.seq (.reg [] [gm 61 16, gn (.bin 62 .lss (.t 61) (ci 0))] [61])
 (.cond (.t 62) (.reg [] [gm 63 13, gk 64 63, gm 16 64] [63,64])
 .skip))
 (.seq (.reg [] [gm 65 13, gm 66 16, gl 67 4, gn (.das 68 f_admit_mine [(.t 67)]), gn (.bsl 69 [(.t 68)]), gn (.cal 70 f_slices_Insert_api_Task_api_Task [(.t 65), (.t 66), (.t 69)] []), gm 13 70] [4,16,65,66,67,68,69,70])
 (.seq (.reg [] [gm 72 13, gm 73 2, gn (.das 74 f_admit_All [(.t 72), (.t 73)]), gm 71 74, ge 75 71 0, ge 76 71 1, gm 17 75, gm 18 76] [2,71,72,73,74,75,76])
 (.seq (.seq (.reg [] [gm 77 18, gn (.bin 78 .neq (.t 77) (ci 0))] [77])
 (.cond (.t 78) (.seq (.reg [] [gm 79 18, gn (.mv 6 (.c (.d (.sl true [])))), gn (.mv 7 (.c (.d (.sl true [])))), gm 8 79] [18,79])
 .ret)
 .skip))
 (.seq (.reg [] [gm 80 13, gm 81 17, gm 6 80, gm 7 81, gn (.mv 8 (ci 0))] [13,17,80,81])
 .ret))))))))))))), [.t 6, .t 7, .t 8], none⟩
/- foliot/task.May -/
def k_task_May : KF := ⟨(.seq (.reg [] [gn (.box 1 (.t 0)), gn (.mv 2 (ci 0))] [0,2])
 (.seq (.blk 0 (.seq (.reg [] [gf 4 1 0, gl 5 4, gn (.bin 6 .lss (.t 5) (ci 0)), gm 7 6, gj 7 (.fa 8 (.t 1) 0), gj 7 (.ld 9 (.t 8)), gj 7 (.bin 10 .gtr (.t 9) (ci 63)), gn (.pick 11 (.t 7) (.c (.bool true)) (.t 10)), gm 3 11] [4,5,6,7,8,9,10,11])
 (.cond (.t 3) (.seq (.reg [] [gn (.mv 2 (ci 1))] [])
 .ret)
 (.seq (.reg [] [gf 13 1 1, gl 14 13, gn (.bin 15 .lss (.t 14) (ci 1)), gm 16 15, gj 16 (.fa 17 (.t 1) 1), gj 16 (.ld 18 (.t 17)), gj 16 (.bin 19 .gtr (.t 18) (ci 16384)), gn (.pick 20 (.t 16) (.c (.bool true)) (.t 19)), gm 21 20, gj 21 (.fa 22 (.t 1) 2), gj 21 (.ld 23 (.t 22)), gj 21 (.bin 24 .lss (.t 23) (ci 1)), gn (.pick 25 (.t 21) (.c (.bool true)) (.t 24)), gm 26 25, gj 26 (.fa 27 (.t 1) 2), gj 26 (.ld 28 (.t 27)), gj 26 (.fa 29 (.t 1) 1), gj 26 (.ld 30 (.t 29)), gj 26 (.bin 31 .gtr (.t 28) (.t 30)), gn (.pick 32 (.t 26) (.c (.bool true)) (.t 31)), gm 12 32] [13,14,15,16,17,18,19,20,21,22,23,24,25,26,27,28,29,30,31,32])
 (.cond (.t 12) (.seq (.reg [] [gn (.mv 2 (ci 9))] [])
 .ret)
 (.seq (.reg [] [gf 34 1 3, gl 35 34, gn (.dat 36 f_shape_May [(.t 35)]), gn (.un 37 .not (.t 36)), gm 38 37, gj 38 (.fa 39 (.t 1) 4), gj 38 (.ld 40 (.t 39)), gj 38 (.dat 41 f_task_may [(.t 40)]), gj 38 (.un 42 .not (.t 41)), gn (.pick 43 (.t 38) (.c (.bool true)) (.t 42)), gm 44 43, gj 44 (.fa 45 (.t 1) 5), gj 44 (.ld 46 (.t 45)), gj 44 (.dat 47 f_task_may [(.t 46)]), gj 44 (.un 48 .not (.t 47)), gn (.pick 49 (.t 44) (.c (.bool true)) (.t 48)), gm 50 49, gj 50 (.fa 51 (.t 1) 5), gj 50 (.ld 52 (.t 51)), gj 50 (.dat 53 f_task_locks [(.t 52)]), gn (.pick 54 (.t 50) (.c (.bool true)) (.t 53)), gm 33 54] [34,35,36,37,38,39,40,41,42,43,44,45,46,47,48,49,50,51,52,53,54])
 (.cond (.t 33) (.seq (.reg [] [gn (.mv 2 (ci 2))] [])
 .ret)
 (.seq (.reg [(2,4)] [gf 56 1 3, gl 57 56, gn (.dat 58 f_task_long [(.t 57)]), gf 59 1 2, gl 60 59, gn (.bin 61 .gtr (.t 58) (.t 60)), gm 55 61] [56,57,58,59,60,61])
 (.cond (.t 55) (.seq (.reg [] [gn (.mv 2 (ci 10))] [])
 .ret)
 (.seq (.reg [(2,4)] [gf 63 1 4, gl 64 63, gn (.dat 65 f_task_long [(.t 64)]), gf 66 1 3, gl 67 66, gn (.dat 68 f_task_long [(.t 67)]), gn (.bin 69 .gtr (.t 65) (.t 68)), gm 62 69] [1,63,64,65,66,67,68,69])
 (.cond (.t 62) (.seq (.reg [] [gn (.mv 2 (ci 12))] [])
 .ret)
 .skip)))))))))))
 (.seq (.reg [] [gn (.mv 2 (ci 0))] [])
 .ret))), [.t 2], none⟩
/- foliot/shape.May -/
def k_shape_May_L0b : K := (.seq (.reg [] [gn (.bin 45 .lss (.t 44) (.t 43))] [])
 (.seq (.cond (.t 45) .skip
 (.ext 0))
 (.seq (.blk 1 (.seq (.reg [] [gm 46 44, ga 47 42 44, gl 48 47, gn (.alc 7 (.int .i64 0)), gn (.alc 8 (.d (.agg [(.int .i64 0), (.int .i64 0), (.int .i64 0), (.int .i64 0)]))), gs 7 46, gs 8 48] [46,47,48])
 (.seq (.seq (.reg [] [gf 49 8 0, gl 50 49, gn (.bin 51 .neq (.t 50) (ci 11))] [8,49,50])
 (.cond (.t 51) (.ext 1)
 .skip))
 (.seq (.reg [] [gm 52 6, gl 53 7, ga 54 52 53, gl 55 54, gn (.bld 56 [(.c (.bool false)), (.c (.bool false)), (.c (.bool false)), (.c (.bool false)), (.c (.bool false)), (.c (.bool false)), (.c (.bool false)), (.c (.bool false)), (.c (.bool false)), (.c (.bool false)), (.c (.bool false)), (.c (.bool false)), (.c (.bool false)), (.c (.bool false)), (.c (.bool false)), (.c (.bool false)), (.c (.bool false)), (.c (.bool false)), (.c (.bool false)), (.c (.bool false)), (.c (.bool false)), (.c (.bool false)), (.c (.bool false)), (.c (.bool false))]), gn (.bin 57 .neq (.t 55) (.t 56)), gm 58 57, jm 58 59 4, gj 58 (.ld 60 (.t 7)), gj 58 (.slc 61 (.t 59) none (some (.t 60))), gj 58 (.mkf 62 f_shape_May_3 [] [(.t 7)]), gj 58 (.cal 63 f_slices_ContainsFunc_int_int [(.t 61), (.t 62)] []), gn (.pick 64 (.t 58) (.c (.bool true)) (.t 63))] [7,52,53,54,55,56,57,58,59,60,61,62,63])
 (.cond (.t 64) (.seq (.reg [] [gn (.mv 2 (.c (.bool false)))] [])
 .ret)
 .skip)))))
 (.reg [] [gn (.bin 65 .add (.t 44) (ci 1)), gm 44 65] [65]))))
def k_shape_May_L0 : K := k_shape_May_L0b
def k_shape_May : KF := ⟨(.seq (.reg [] [gn (.mv 2 (.c (.bool false)))] [2])
 (.seq (.seq (.reg [] [gm 9 0, gk 10 9, gn (.bin 11 .lss (.t 10) (ci 1)), gm 12 11, jm 12 13 0, gj 12 (.len 14 (.t 13)), gj 12 (.bin 15 .gtr (.t 14) (ci 24)), gn (.pick 16 (.t 12) (.c (.bool true)) (.t 15)), gm 17 16, jm 17 18 0, gj 17 (.cal 19 f_slices_ContainsFunc_api_Inst_api_Inst [(.t 18), (.c (.clo f_shape_May_1 [] []))] []), gn (.pick 20 (.t 17) (.c (.bool true)) (.t 19))] [9,10,11,12,13,14,15,16,17,18,19])
 (.cond (.t 20) (.seq (.reg [] [gn (.mv 2 (.c (.bool false)))] [])
 .ret)
 .skip))
 (.seq (.reg [] [gm 21 0, gn (.cal 22 f_slices_IndexFunc_api_Inst_api_Inst [(.t 21), (.c (.clo f_shape_May_2 [] []))] []), gm 3 22] [21,22])
 (.seq (.seq (.reg [] [gm 23 3, gm 24 0, gk 25 24, gn (.bin 26 .sub (.t 25) (ci 1)), gn (.bin 27 .neq (.t 23) (.t 26)), gm 28 27, jm 28 29 0, gj 28 (.dat 30 f_shape_nested [(.t 29)]), gj 28 (.un 31 .not (.t 30)), gn (.pick 32 (.t 28) (.c (.bool true)) (.t 31))] [3,23,24,25,26,27,28,29,30,31])
 (.cond (.t 32) (.seq (.reg [] [gn (.mv 2 (.c (.bool false)))] [])
 .ret)
 .skip))
 (.seq (.reg [] [gm 34 0, gn (.dat 35 f_shape_Pairs [(.t 34)]), gm 33 35, ge 36 33 0, ge 37 33 1, gm 4 36, gm 5 37] [33,34,35,36,37])
 (.seq (.seq (.reg [] [gm 38 5, gn (.un 39 .not (.t 38))] [5,38])
 (.cond (.t 39) (.seq (.reg [] [gn (.mv 2 (.c (.bool false)))] [])
 .ret)
 .skip))
 (.seq (.reg [] [gm 40 0, gn (.dat 41 f_shape_ins [(.t 40)]), gm 6 41] [40,41])
 (.seq (.seq (.reg [] [gm 42 0, gk 43 42, gn (.mv 44 (ci 0))] [0])
 (.blk 0 (.loop [4,6,42,43,44] k_shape_May_L0)))
 (.seq (.reg [] [gn (.mv 2 (.c (.bool true)))] [])
 .ret))))))))), [.t 2], none⟩
/- slices.ContainsFunc[[]foliot/api.Inst,foliot/api.Inst] -/
def k_slices_ContainsFunc_api_Inst_api_Inst : KF := ⟨(.seq (.reg [] [gn (.mv 4 (.c (.bool false)))] [4])
 (.seq (.reg [] [gm 5 0, gm 6 1, gn (.cal 7 f_slices_IndexFunc_api_Inst_api_Inst [(.t 5), (.t 6)] []), gn (.bin 8 .geq (.t 7) (ci 0)), gm 4 8] [0,1,5,6,7,8])
 .ret)), [.t 4], none⟩
/- slices.IndexFunc[[]foliot/api.Inst,foliot/api.Inst] -/
def k_slices_IndexFunc_api_Inst_api_Inst_L0b : K := (.seq (.reg [] [gn (.bin 9 .lss (.t 8) (.t 7))] [])
 (.seq (.cond (.t 9) .skip
 (.ext 0))
 (.seq (.blk 1 (.seq (.reg [] [gm 10 8, gm 5 10] [10])
 (.seq (.reg [] [gm 11 1, gm 12 0, gm 13 5, ga 14 12 13, gl 15 14, gn (.cav 16 (.t 11) [(.t 15)])] [11,12,13,14,15])
 (.cond (.t 16) (.seq (.reg [] [gm 17 5, gm 4 17] [5,17])
 .ret)
 .skip))))
 (.reg [] [gn (.bin 18 .add (.t 8) (ci 1)), gm 8 18] [18]))))
def k_slices_IndexFunc_api_Inst_api_Inst_L0 : K := k_slices_IndexFunc_api_Inst_api_Inst_L0b
def k_slices_IndexFunc_api_Inst_api_Inst : KF := ⟨(.seq (.reg [] [gn (.mv 4 (ci 0))] [4])
 (.seq (.seq (.reg [] [gm 6 0, gk 7 6, gn (.mv 8 (ci 0))] [6])
 (.blk 0 (.loop [0,1,7,8] k_slices_IndexFunc_api_Inst_api_Inst_L0)))
 (.seq (.reg [] [gn (.mv 4 (ci (-1)))] [])
 .ret))), [.t 4], none⟩
/- foliot/shape.May$1 -/
def k_shape_May_1 : KF := ⟨(.seq (.reg [] [gn (.box 1 (.t 0)), gn (.mv 2 (.c (.bool false)))] [0,2])
 (.seq (.reg [] [gl 3 1, gn (.dat 4 f_code_May [(.t 3)]), gn (.un 5 .not (.t 4)), gm 2 5] [1,3,4,5])
 .ret)), [.t 2], none⟩
/- foliot/code.May -/
def k_code_May : KF := ⟨(.seq (.reg [] [gn (.box 1 (.t 0)), gn (.mv 2 (.c (.bool false)))] [0,2])
 (.seq (.seq (.reg [] [gf 3 1 0, gl 4 3] [3])
 (.blk 0 (.seq (.seq (.reg [] [gn (.bin 6 .eql (.t 4) (ci 0)), gm 5 6] [6])
 (.cond (.t 5) .skip
 (.reg [] [gn (.bin 7 .eql (.t 4) (ci 11)), gm 5 7] [7])))
 (.cond (.t 5) (.seq (.reg [] [gf 8 1 1, gl 9 8, gn (.bin 10 .eql (.t 9) (ci 0)), gm 11 10, gh 11 (.fa 12 (.t 1) 2), gh 11 (.ld 13 (.t 12)), gh 11 (.bin 14 .eql (.t 13) (ci 0)), gn (.pick 15 (.t 11) (.t 14) (.c (.bool false))), gm 16 15, gh 16 (.fa 17 (.t 1) 3), gh 16 (.ld 18 (.t 17)), gh 16 (.bin 19 .eql (.t 18) (ci 0)), gn (.pick 20 (.t 16) (.t 19) (.c (.bool false))), gm 2 20] [1,8,9,10,11,12,13,14,15,16,17,18,19,20])
 .ret)
 (.seq (.reg [] [gn (.bin 22 .eql (.t 4) (ci 1)), gm 21 22] [22])
 (.cond (.t 21) (.seq (.reg [] [gf 23 1 1, gl 24 23, gn (.dat 25 f_code_memory [(.t 24)]), gm 26 25, gh 26 (.fa 27 (.t 1) 2), gh 26 (.ld 28 (.t 27)), gh 26 (.bin 29 .eql (.t 28) (ci 0)), gn (.pick 30 (.t 26) (.t 29) (.c (.bool false))), gm 31 30, gh 31 (.fa 32 (.t 1) 3), gh 31 (.ld 33 (.t 32)), gh 31 (.dat 34 f_code_within [(.t 33), (ci (-2147483648)), (ci 2147483647)]), gn (.pick 35 (.t 31) (.t 34) (.c (.bool false))), gm 2 35] [1,23,24,25,26,27,28,29,30,31,32,33,34,35])
 .ret)
 (.seq (.seq (.reg [] [gn (.bin 37 .eql (.t 4) (ci 2)), gm 36 37] [37])
 (.cond (.t 36) .skip
 (.seq (.reg [] [gn (.bin 38 .eql (.t 4) (ci 3)), gm 36 38] [38])
 (.cond (.t 36) .skip
 (.reg [] [gn (.bin 39 .eql (.t 4) (ci 4)), gm 36 39] [39])))))
 (.cond (.t 36) (.seq (.reg [] [gf 40 1 1, gl 41 40, gn (.dat 42 f_code_memory [(.t 41)]), gm 43 42, gh 43 (.fa 44 (.t 1) 2), gh 43 (.ld 45 (.t 44)), gh 43 (.dat 46 f_code_memory [(.t 45)]), gn (.pick 47 (.t 43) (.t 46) (.c (.bool false))), gm 48 47, gh 48 (.fa 49 (.t 1) 3), gh 48 (.ld 50 (.t 49)), gh 48 (.bin 51 .eql (.t 50) (ci 0)), gn (.pick 52 (.t 48) (.t 51) (.c (.bool false))), gm 2 52] [1,40,41,42,43,44,45,46,47,48,49,50,51,52])
 .ret)
 (.seq (.reg [] [gn (.bin 54 .eql (.t 4) (ci 5)), gm 53 54] [54])
 (.cond (.t 53) (.seq (.reg [] [gf 55 1 1, gl 56 55, gn (.dat 57 f_code_memory [(.t 56)]), gm 58 57, gh 58 (.fa 59 (.t 1) 2), gh 58 (.ld 60 (.t 59)), gh 58 (.bin 61 .eql (.t 60) (ci 0)), gn (.pick 62 (.t 58) (.t 61) (.c (.bool false))), gm 63 62, gh 63 (.fa 64 (.t 1) 3), gh 63 (.ld 65 (.t 64)), gh 63 (.dat 66 f_code_within [(.t 65), (ci (-63)), (ci 63)]), gn (.pick 67 (.t 63) (.t 66) (.c (.bool false))), gm 2 67] [1,55,56,57,58,59,60,61,62,63,64,65,66,67])
 .ret)
 (.seq (.reg [] [gn (.bin 69 .eql (.t 4) (ci 6)), gm 68 69] [69])
 (.cond (.t 68) (.seq (.reg [] [gf 70 1 1, gl 71 70, gn (.dat 72 f_code_memory [(.t 71)]), gm 73 72, gh 73 (.fa 74 (.t 1) 2), gh 73 (.ld 75 (.t 74)), gh 73 (.bin 76 .eql (.t 75) (ci 0)), gn (.pick 77 (.t 73) (.t 76) (.c (.bool false))), gm 78 77, gh 78 (.fa 79 (.t 1) 3), gh 78 (.ld 80 (.t 79)), gh 78 (.dat 81 f_code_within [(.t 80), (ci 1), (ci 64)]), gn (.pick 82 (.t 78) (.t 81) (.c (.bool false))), gm 2 82] [1,70,71,72,73,74,75,76,77,78,79,80,81,82])
 .ret)
 (.seq (.reg [] [gn (.bin 84 .eql (.t 4) (ci 7)), gm 83 84] [84])
 (.cond (.t 83) (.seq (.reg [] [gf 85 1 1, gl 86 85, gn (.dat 87 f_code_memory [(.t 86)]), gm 88 87, gh 88 (.fa 89 (.t 1) 2), gh 88 (.ld 90 (.t 89)), gh 88 (.bin 91 .eql (.t 90) (ci 0)), gn (.pick 92 (.t 88) (.t 91) (.c (.bool false))), gm 93 92, gh 93 (.fa 94 (.t 1) 3), gh 93 (.ld 95 (.t 94)), gh 93 (.dat 96 f_code_within [(.t 95), (ci 1), (ci 24)]), gn (.pick 97 (.t 93) (.t 96) (.c (.bool false))), gm 2 97] [1,85,86,87,88,89,90,91,92,93,94,95,96,97])
 .ret)
 (.seq (.reg [] [gn (.bin 99 .eql (.t 4) (ci 8)), gm 98 99] [99])
 (.cond (.t 98) (.seq (.reg [] [gf 100 1 1, gl 101 100, gn (.bin 102 .eql (.t 101) (ci 0)), gm 103 102, gh 103 (.fa 104 (.t 1) 2), gh 103 (.ld 105 (.t 104)), gh 103 (.dat 106 f_code_within [(.t 105), (ci 1), (ci 24)]), gn (.pick 107 (.t 103) (.t 106) (.c (.bool false))), gm 108 107, gh 108 (.fa 109 (.t 1) 3), gh 108 (.ld 110 (.t 109)), gh 108 (.dat 111 f_code_within [(.t 110), (ci 1), (ci 20)]), gn (.pick 112 (.t 108) (.t 111) (.c (.bool false))), gm 2 112] [1,100,101,102,103,104,105,106,107,108,109,110,111,112])
 .ret)
 (.seq (.seq (.reg [] [gn (.bin 114 .eql (.t 4) (ci 9)), gm 113 114] [114])
 (.cond (.t 113) .skip
 (.reg [] [gn (.bin 115 .eql (.t 4) (ci 10)), gm 113 115] [4,115])))
 (.cond (.t 113) (.seq (.reg [] [gf 116 1 1, gl 117 116, gn (.dat 118 f_code_within [(.t 117), (ci 0), (ci 3)]), gm 119 118, gh 119 (.fa 120 (.t 1) 2), gh 119 (.ld 121 (.t 120)), gh 119 (.bin 122 .eql (.t 121) (ci 0)), gn (.pick 123 (.t 119) (.t 122) (.c (.bool false))), gm 124 123, gh 124 (.fa 125 (.t 1) 3), gh 124 (.ld 126 (.t 125)), gh 124 (.bin 127 .eql (.t 126) (ci 0)), gn (.pick 128 (.t 124) (.t 127) (.c (.bool false))), gm 2 128] [1,116,117,118,119,120,121,122,123,124,125,126,127,128])
 .ret)
 .skip))))))))))))))))))
 (.seq (.reg [] [gn (.mv 2 (.c (.bool false)))] [])
 .ret))), [.t 2], none⟩
/- foliot/code.memory -/
def k_code_memory : KF := ⟨(.seq (.reg [] [gn (.mv 2 (.c (.bool false)))] [2])
 (.seq (.reg [] [gm 3 0, gn (.bin 4 .geq (.t 3) (ci 0)), gm 5 4, hm 5 6 0, gh 5 (.bin 7 .lss (.t 6) (ci 8)), gn (.pick 8 (.t 5) (.t 7) (.c (.bool false))), gm 2 8] [0,3,4,5,6,7,8])
 .ret)), [.t 2], none⟩
/- foliot/code.within -/
def k_code_within : KF := ⟨(.seq (.reg [] [gn (.mv 6 (.c (.bool false)))] [6])
 (.seq (.reg [] [gm 7 0, gm 8 1, gn (.bin 9 .geq (.t 7) (.t 8)), gm 10 9, hm 10 11 0, hm 10 12 2, gh 10 (.bin 13 .leq (.t 11) (.t 12)), gn (.pick 14 (.t 10) (.t 13) (.c (.bool false))), gm 6 14] [0,1,2,7,8,9,10,11,12,13,14])
 .ret)), [.t 6], none⟩
/- foliot/shape.May$2 -/
def k_shape_May_2 : KF := ⟨(.seq (.reg [] [gn (.box 1 (.t 0)), gn (.mv 2 (.c (.bool false)))] [0,2])
 (.seq (.reg [] [gf 3 1 0, gl 4 3, gn (.bin 5 .eql (.t 4) (ci 0)), gm 2 5] [1,3,4,5])
 .ret)), [.t 2], none⟩
/- foliot/shape.nested -/
def k_shape_nested_L1b : K := (.seq (.reg [] [gn (.bin 30 .lss (.t 29) (.t 28))] [])
 (.seq (.cond (.t 30) .skip
 (.ext 2))
 (.seq (.blk 3 (.seq (.reg [] [ga 31 27 29, gl 32 31, gn (.alc 8 (.d (.agg [(.int .i64 0), (.int .i64 0), (.int .i64 0), (.bool false)]))), gs 8 32] [31,32])
 (.seq (.reg [] [gl 33 8, gf 34 6 2, gl 35 34, gn (.dat 36 f_shape_piece_has [(.t 33), (.t 35)]), gm 37 36, gh 37 (.ld 38 (.t 6)), gh 37 (.ld 39 (.t 8)), gh 37 (.dat 40 f_shape_piece_within [(.t 38), (.t 39)]), gh 37 (.un 41 .not (.t 40)), gn (.pick 42 (.t 37) (.t 41) (.c (.bool false))), gm 43 42, gj 43 (.ld 44 (.t 6)), gj 43 (.ld 45 (.t 8)), gj 43 (.dat 46 f_shape_piece_apart [(.t 44), (.t 45)]), gj 43 (.un 47 .not (.t 46)), jm 43 48 47, gh 48 (.ld 49 (.t 6)), gh 48 (.ld 50 (.t 8)), gh 48 (.dat 51 f_shape_piece_within [(.t 49), (.t 50)]), gh 48 (.un 52 .not (.t 51)), gj 43 (.pick 53 (.t 48) (.t 52) (.c (.bool false))), jm 43 54 53, gh 54 (.ld 55 (.t 8)), gh 54 (.ld 56 (.t 6)), gh 54 (.dat 57 f_shape_piece_within [(.t 55), (.t 56)]), gh 54 (.un 58 .not (.t 57)), gj 43 (.pick 59 (.t 54) (.t 58) (.c (.bool false))), gn (.pick 60 (.t 43) (.c (.bool true)) (.t 59))] [8,33,34,35,36,37,38,39,40,41,42,43,44,45,46,47,48,49,50,51,52,53,54,55,56,57,58,59])
 (.cond (.t 60) (.seq (.reg [] [gn (.mv 2 (.c (.bool false)))] [])
 .ret)
 .skip))))
 (.reg [] [gn (.bin 61 .add (.t 29) (ci 1)), gm 29 61] [61]))))
def k_shape_nested_L1 : K := k_shape_nested_L1b
def k_shape_nested_L2b : K := (.seq (.seq (.reg [] [gf 64 6 3, gl 65 64, gm 66 65, hm 66 67 9, gh 66 (.fa 68 (.t 6) 1), gh 66 (.ld 69 (.t 68)), gh 66 (.bin 70 .leq (.t 67) (.t 69)), gn (.pick 71 (.t 66) (.t 70) (.c (.bool false)))] [64,65,66,67,68,69,70])
 (.cond (.t 71) .skip
 (.ext 4)))
 (.seq (.blk 5 (.reg [] [gm 74 4, gm 75 9, ga 76 74 75, gl 77 76, gn (.bin 78 .add (.t 77) (ci 1)), ga 79 74 75, gs 79 78] [74,75,76,77,78,79]))
 (.reg [] [gm 72 9, gn (.bin 73 .add (.t 72) (ci 1)), gm 9 73] [72,73])))
def k_shape_nested_L2 : K := k_shape_nested_L2b
def k_shape_nested_L0b : K := (.seq (.reg [] [gn (.bin 18 .lss (.t 17) (.t 16))] [])
 (.seq (.cond (.t 18) .skip
 (.ext 0))
 (.seq (.blk 1 (.seq (.reg [] [ga 19 15 17, gl 20 19, gn (.alc 6 (.d (.agg [(.int .i64 0), (.int .i64 0), (.int .i64 0), (.bool false)]))), gs 6 20] [19,20])
 (.seq (.seq (.reg [] [gf 21 6 1, gl 22 21, gm 23 0, gk 24 23, gn (.bin 25 .sub (.t 24) (ci 1)), gn (.bin 26 .geq (.t 22) (.t 25))] [21,22,23,24,25])
 (.cond (.t 26) (.seq (.reg [] [gn (.mv 2 (.c (.bool false)))] [])
 .ret)
 .skip))
 (.seq (.seq (.reg [] [gm 27 3, gk 28 27, gn (.mv 29 (ci 0))] [])
 (.blk 2 (.loop [0,3,4,6,15,16,17,27,28,29] k_shape_nested_L1)))
 (.seq (.reg [] [gf 62 6 0, gl 63 62, gm 9 63] [62,63])
 (.blk 4 (.loop [0,3,4,6,9,15,16,17] k_shape_nested_L2)))))))
 (.reg [] [gn (.bin 80 .add (.t 17) (ci 1)), gm 17 80] [80]))))
def k_shape_nested_L0 : K := k_shape_nested_L0b
def k_shape_nested : KF := ⟨(.seq (.reg [] [gn (.mv 2 (.c (.bool false)))] [2])
 (.seq (.reg [] [gm 10 0, gn (.dat 11 f_shape_pieces [(.t 10)]), gm 3 11] [10,11])
 (.seq (.reg [] [gm 12 0, gk 13 12, gn (.mks 14 (.int .i64 0) (.t 13) (.t 13)), gm 4 14] [12,13,14])
 (.seq (.seq (.reg [] [gm 15 3, gk 16 15, gn (.mv 17 (ci 0))] [])
 (.blk 0 (.loop [0,3,4,15,16,17] k_shape_nested_L0)))
 (.seq (.reg [] [gm 81 4, gn (.cal 82 f_slices_ContainsFunc_int_int [(.t 81), (.c (.clo f_shape_nested_1 [] []))] []), gn (.un 83 .not (.t 82)), gm 2 83] [4,81,82,83])
 .ret))))), [.t 2], none⟩
/- foliot/shape.pieces -/
def k_shape_pieces_L0b : K := (.seq (.reg [] [gn (.bin 8 .lss (.t 7) (.t 6))] [])
 (.seq (.cond (.t 8) .skip
 (.ext 0))
 (.seq (.blk 1 (.seq (.reg [] [gm 9 7, ga 10 5 7, gl 11 10, gn (.alc 4 (.d (.agg [(.int .i64 0), (.int .i64 0), (.int .i64 0), (.int .i64 0)]))), gm 3 9, gs 4 11] [9,10,11])
 (.seq (.reg [] [gf 12 4 0, gl 13 12] [12])
 (.blk 2 (.seq (.reg [] [gn (.bin 15 .eql (.t 13) (ci 8)), gm 14 15] [15])
 (.cond (.t 14) (.reg [] [gm 16 2, gm 17 3, gn (.bin 18 .add (.t 17) (ci 1)), gm 19 3, gf 20 4 2, gl 21 20, gn (.bin 22 .add (.t 19) (.t 21)), gm 23 3, gn (.bld 24 [(.t 18), (.t 22), (.t 23), (.c (.bool true))]), gn (.bsl 25 [(.t 24)]), gp 26 16 25, gm 2 26] [3,4,16,17,18,19,20,21,22,23,24,25,26])
 (.seq (.reg [] [gn (.bin 28 .eql (.t 13) (ci 7)), gm 27 28] [13,28])
 (.cond (.t 27) (.reg [] [gm 29 2, gm 30 3, gn (.bin 31 .add (.t 30) (ci 1)), gm 32 3, gf 33 4 3, gl 34 33, gn (.bin 35 .add (.t 32) (.t 34)), gm 36 3, gn (.bld 37 [(.t 31), (.t 35), (.t 36), (.c (.bool false))]), gn (.bsl 38 [(.t 37)]), gp 39 29 38, gm 2 39] [3,4,29,30,31,32,33,34,35,36,37,38,39])
 .skip))))))))
 (.reg [] [gn (.bin 40 .add (.t 7) (ci 1)), gm 7 40] [40]))))
def k_shape_pieces_L0 : K := k_shape_pieces_L0b
def k_shape_pieces : KF := ⟨(.seq (.reg [] [gn (.mv 2 (.c (.d (.sl true []))))] [])
 (.seq (.seq (.reg [] [gm 5 0, gk 6 5, gn (.mv 7 (ci 0))] [0])
 (.blk 0 (.loop [2,5,6,7] k_shape_pieces_L0)))
 (.seq (.reg [] [gm 41 2, gm 2 41] [41])
 .ret))), [.t 2], none⟩
/- (foliot/shape.piece).has -/
def k_shape_piece_has : KF := ⟨(.seq (.reg [] [gn (.box 2 (.t 0)), gn (.mv 4 (.c (.bool false)))] [0,4])
 (.seq (.reg [] [gm 5 1, gf 6 2 0, gl 7 6, gn (.bin 8 .geq (.t 5) (.t 7)), gm 9 8, hm 9 10 1, gh 9 (.fa 11 (.t 2) 1), gh 9 (.ld 12 (.t 11)), gh 9 (.bin 13 .leq (.t 10) (.t 12)), gn (.pick 14 (.t 9) (.t 13) (.c (.bool false))), gm 4 14] [1,2,5,6,7,8,9,10,11,12,13,14])
 .ret)), [.t 4], none⟩
/- (foliot/shape.piece).within -/
def k_shape_piece_within : KF := ⟨(.seq (.reg [] [gn (.box 2 (.t 0)), gn (.box 3 (.t 1)), gn (.mv 4 (.c (.bool false)))] [0,1,4])
 (.seq (.reg [] [gl 5 3, gf 6 2 0, gl 7 6, gn (.dat 8 f_shape_piece_has [(.t 5), (.t 7)]), gm 9 8, gh 9 (.ld 10 (.t 3)), gh 9 (.fa 11 (.t 2) 1), gh 9 (.ld 12 (.t 11)), gh 9 (.dat 13 f_shape_piece_has [(.t 10), (.t 12)]), gn (.pick 14 (.t 9) (.t 13) (.c (.bool false))), gm 4 14] [2,3,5,6,7,8,9,10,11,12,13,14])
 .ret)), [.t 4], none⟩
/- (foliot/shape.piece).apart -/
def k_shape_piece_apart : KF := ⟨(.seq (.reg [] [gn (.box 2 (.t 0)), gn (.box 3 (.t 1)), gn (.mv 4 (.c (.bool false)))] [0,1,4])
 (.seq (.reg [] [gf 5 2 1, gl 6 5, gf 7 3 0, gl 8 7, gn (.bin 9 .lss (.t 6) (.t 8)), gm 10 9, gj 10 (.fa 11 (.t 3) 1), gj 10 (.ld 12 (.t 11)), gj 10 (.fa 13 (.t 2) 0), gj 10 (.ld 14 (.t 13)), gj 10 (.bin 15 .lss (.t 12) (.t 14)), gn (.pick 16 (.t 10) (.c (.bool true)) (.t 15)), gm 4 16] [2,3,5,6,7,8,9,10,11,12,13,14,15,16])
 .ret)), [.t 4], none⟩
/- slices.ContainsFunc[[]int,int] -/
def k_slices_ContainsFunc_int_int : KF := ⟨(.seq (.reg [] [gn (.mv 4 (.c (.bool false)))] [4])
 (.seq (.reg [] [gm 5 0, gm 6 1, gn (.cal 7 f_slices_IndexFunc_int_int [(.t 5), (.t 6)] []), gn (.bin 8 .geq (.t 7) (ci 0)), gm 4 8] [0,1,5,6,7,8])
 .ret)), [.t 4], none⟩
/- slices.IndexFunc[[]int,int] -/
def k_slices_IndexFunc_int_int_L0b : K := (.seq (.reg [] [gn (.bin 9 .lss (.t 8) (.t 7))] [])
 (.seq (.cond (.t 9) .skip
 (.ext 0))
 (.seq (.blk 1 (.seq (.reg [] [gm 10 8, gm 5 10] [10])
 (.seq (.reg [] [gm 11 1, gm 12 0, gm 13 5, ga 14 12 13, gl 15 14, gn (.cav 16 (.t 11) [(.t 15)])] [11,12,13,14,15])
 (.cond (.t 16) (.seq (.reg [] [gm 17 5, gm 4 17] [5,17])
 .ret)
 .skip))))
 (.reg [] [gn (.bin 18 .add (.t 8) (ci 1)), gm 8 18] [18]))))
def k_slices_IndexFunc_int_int_L0 : K := k_slices_IndexFunc_int_int_L0b
def k_slices_IndexFunc_int_int : KF := ⟨(.seq (.reg [] [gn (.mv 4 (ci 0))] [4])
 (.seq (.seq (.reg [] [gm 6 0, gk 7 6, gn (.mv 8 (ci 0))] [6])
 (.blk 0 (.loop [0,1,7,8] k_slices_IndexFunc_int_int_L0)))
 (.seq (.reg [] [gn (.mv 4 (ci (-1)))] [])
 .ret))), [.t 4], none⟩
/- foliot/shape.nested$1 -/
def k_shape_nested_1 : KF := ⟨(.seq (.reg [] [gn (.mv 2 (.c (.bool false)))] [2])
 (.seq (.reg [] [gm 3 0, gn (.bin 4 .gtr (.t 3) (ci 2)), gm 2 4] [0,3,4])
 .ret)), [.t 2], none⟩
/- foliot/shape.Pairs -/
def k_shape_Pairs_L0b : K := (.seq (.reg [] [gn (.bin 23 .lss (.t 22) (.t 21))] [])
 (.seq (.cond (.t 23) .skip
 (.ext 0))
 (.seq (.blk 1 (.seq (.reg [] [gm 24 22, ga 25 20 22, gl 26 25, gn (.alc 8 (.int .i64 0)), gn (.alc 9 (.d (.agg [(.bool false), (.bool false), (.bool false), (.bool false), (.bool false), (.bool false), (.bool false), (.bool false), (.bool false), (.bool false), (.bool false), (.bool false), (.bool false), (.bool false), (.bool false), (.bool false), (.bool false), (.bool false), (.bool false), (.bool false), (.bool false), (.bool false), (.bool false), (.bool false)]))), gs 8 24, gs 9 26] [24,25,26])
 (.seq (.seq (.reg [] [gm 28 6, gl 29 9, gn (.lk 30 (.t 28) (.t 29) (.int .i64 0) true), gm 27 30, ge 31 27 0, ge 32 27 1, gm 10 31, gm 11 32] [10,27,28,29,30,31,32])
 (.seq (.reg [] [gm 33 11, gn (.un 34 .not (.t 33))] [11,33])
 (.cond (.t 34) (.reg [] [gm 35 6, gl 36 9, gl 37 8, gn (.mu (.t 35) (.t 36) (.t 37))] [35,36,37])
 .skip)))
 (.seq (.reg [] [gl 38 1, gl 39 8, ga 40 38 39, gf 41 40 0, gl 42 41] [38,39,40,41])
 (.blk 2 (.seq (.reg [] [gn (.bin 44 .eql (.t 42) (ci 9)), gm 43 44] [44])
 (.cond (.t 43) (.seq (.seq (.reg [] [gm 45 5, gk 46 45, gn (.bin 47 .geq (.t 46) (ci 2)), gm 48 47, jm 48 49 5, gj 48 (.mkf 50 f_shape_Pairs_1 [] [(.t 1), (.t 8)]), gj 48 (.cal 51 f_slices_ContainsFunc_int_int [(.t 49), (.t 50)] []), gn (.pick 52 (.t 48) (.c (.bool true)) (.t 51))] [45,46,47,48,49,50,51])
 (.cond (.t 52) (.seq (.reg [] [gn (.mv 2 (.c (.d (.sl true [])))), gn (.mv 3 (.c (.bool false)))] [])
 .ret)
 .skip))
 (.reg [] [gm 53 5, gl 54 8, gn (.bsl 55 [(.t 54)]), gp 56 53 55, gm 5 56] [8,53,54,55,56]))
 (.seq (.reg [] [gn (.bin 58 .eql (.t 42) (ci 10)), gm 57 58] [42,58])
 (.cond (.t 57) (.seq (.reg [] [gm 59 5, gk 60 59, gn (.bin 61 .sub (.t 60) (ci 1)), gm 12 61] [59,60,61])
 (.seq (.seq (.reg [] [gm 62 12, gn (.bin 63 .lss (.t 62) (ci 0)), gm 64 63, gj 64 (.ld 65 (.t 1)), jm 64 66 5, jm 64 67 12, gj 64 (.ia 68 (.t 66) (.t 67)), gj 64 (.ld 69 (.t 68)), gj 64 (.ia 70 (.t 65) (.t 69)), gj 64 (.fa 71 (.t 70) 1), gj 64 (.ld 72 (.t 71)), gj 64 (.ld 73 (.t 1)), gj 64 (.ld 74 (.t 8)), gj 64 (.ia 75 (.t 73) (.t 74)), gj 64 (.fa 76 (.t 75) 1), gj 64 (.ld 77 (.t 76)), gj 64 (.bin 78 .neq (.t 72) (.t 77)), gn (.pick 79 (.t 64) (.c (.bool true)) (.t 78)), gm 80 79, jm 80 81 6, jm 80 82 7, jm 80 83 5, jm 80 84 12, gj 80 (.ia 85 (.t 83) (.t 84)), gj 80 (.ld 86 (.t 85)), gj 80 (.ia 87 (.t 82) (.t 86)), gj 80 (.ld 88 (.t 87)), gj 80 (.lk 89 (.t 81) (.t 88) (.int .i64 0) false), jm 80 90 6, gj 80 (.ld 91 (.t 9)), gj 80 (.lk 92 (.t 90) (.t 91) (.int .i64 0) false), gj 80 (.bin 93 .neq (.t 89) (.t 92)), gn (.pick 94 (.t 80) (.c (.bool true)) (.t 93))] [9,62,63,64,65,66,67,68,69,70,71,72,73,74,75,76,77,78,79,80,81,82,83,84,85,86,87,88,89,90,91,92,93])
 (.cond (.t 94) (.seq (.reg [] [gn (.mv 2 (.c (.d (.sl true [])))), gn (.mv 3 (.c (.bool false)))] [])
 .ret)
 .skip))
 (.seq (.reg [] [gm 95 4, gm 96 5, gm 97 12, ga 98 96 97, gl 99 98, gl 100 8, ga 101 95 99, gs 101 100] [8,95,96,97,98,99,100,101])
 (.reg [] [gm 102 5, gm 103 12, gn (.slc 104 (.t 102) none (some (.t 103))), gm 5 104] [12,102,103,104]))))
 .skip)))))))))
 (.reg [] [gn (.bin 105 .add (.t 22) (ci 1)), gm 22 105] [105]))))
def k_shape_Pairs_L0 : K := k_shape_Pairs_L0b
def k_shape_Pairs : KF := ⟨(.seq (.reg [] [gn (.box 1 (.t 0)), gn (.mv 2 (.c (.d (.sl true [])))), gn (.mv 3 (.c (.bool false)))] [0,2,3])
 (.seq (.reg [(0,3), (2,3), (0,4), (3,4), (2,5), (3,5), (4,5), (0,6), (2,6), (3,6), (4,6)] [gl 13 1, gk 14 13, gn (.mks 15 (.int .i64 0) (.t 14) (.t 14)), gn (.bsl 16 []), gn (.mkm 17), gl 18 1, gn (.dat 19 f_shape_ins [(.t 18)]), gm 4 15, gm 5 16, gm 6 17, gm 7 19] [13,14,15,16,17,18,19])
 (.seq (.seq (.reg [] [gm 20 7, gk 21 20, gn (.mv 22 (ci 0))] [])
 (.blk 0 (.loop [1,4,5,6,7,20,21,22] k_shape_Pairs_L0)))
 (.seq (.seq (.reg [] [gm 106 5, gk 107 106, gn (.bin 108 .gtr (.t 107) (ci 0))] [5,106,107])
 (.cond (.t 108) (.seq (.reg [] [gn (.mv 2 (.c (.d (.sl true [])))), gn (.mv 3 (.c (.bool false)))] [])
 .ret)
 .skip))
 (.seq (.reg [] [gm 109 4, gm 2 109, gn (.mv 3 (.c (.bool true)))] [4,109])
 .ret))))), [.t 2, .t 3], none⟩
/- foliot/shape.ins -/
def k_shape_ins_L1b : K := (.seq (.reg [] [gn (.bin 21 .lss (.t 20) (.t 19))] [])
 (.seq (.cond (.t 21) .skip
 (.ext 2))
 (.seq (.blk 3 (.seq (.reg [] [gm 22 20, gm 6 22] [22])
 (.seq (.reg [] [gm 23 4, gn (.bin 24 .lss (.t 23) (ci 24)), gm 25 24, gh 25 (.ld 26 (.t 5)), hm 25 27 6, gh 25 (.dat 28 f_shape_piece_has [(.t 26), (.t 27)]), gn (.pick 29 (.t 25) (.t 28) (.c (.bool false)))] [23,24,25,26,27,28])
 (.cond (.t 29) (.reg [] [gm 30 3, gm 31 6, gm 32 4, ga 33 30 31, ga 34 33 32, gn (.st (.t 34) (.c (.bool true)))] [6,30,31,32,33,34])
 .skip))))
 (.reg [] [gn (.bin 35 .add (.t 20) (ci 1)), gm 20 35] [35]))))
def k_shape_ins_L1 : K := k_shape_ins_L1b
def k_shape_ins_L0b : K := (.seq (.reg [] [gn (.bin 14 .lss (.t 13) (.t 12))] [])
 (.seq (.cond (.t 14) .skip
 (.ext 0))
 (.seq (.blk 1 (.seq (.reg [] [gm 15 13, ga 16 11 13, gl 17 16, gn (.alc 5 (.d (.agg [(.int .i64 0), (.int .i64 0), (.int .i64 0), (.bool false)]))), gm 4 15, gs 5 17] [15,16,17])
 (.seq (.reg [] [gm 18 0, gk 19 18, gn (.mv 20 (ci 0))] [18])
 (.blk 2 (.loop [0,3,4,5,11,12,13,19,20] k_shape_ins_L1)))))
 (.reg [] [gn (.bin 36 .add (.t 13) (ci 1)), gm 13 36] [36]))))
def k_shape_ins_L0 : K := k_shape_ins_L0b
def k_shape_ins : KF := ⟨(.seq (.reg [] [gn (.mv 2 (.c (.d (.sl true []))))] [2])
 (.seq (.reg [] [gm 7 0, gk 8 7, gn (.mks 9 (.agg [(.bool false), (.bool false), (.bool false), (.bool false), (.bool false), (.bool false), (.bool false), (.bool false), (.bool false), (.bool false), (.bool false), (.bool false), (.bool false), (.bool false), (.bool false), (.bool false), (.bool false), (.bool false), (.bool false), (.bool false), (.bool false), (.bool false), (.bool false), (.bool false)]) (.t 8) (.t 8)), gm 3 9] [7,8,9])
 (.seq (.seq (.reg [] [gm 10 0, gn (.dat 11 f_shape_pieces [(.t 10)]), gk 12 11, gn (.mv 13 (ci 0))] [10])
 (.blk 0 (.loop [0,3,11,12,13] k_shape_ins_L0)))
 (.seq (.reg [] [gm 37 3, gm 2 37] [3,37])
 .ret)))), [.t 2], none⟩
/- foliot/shape.Pairs$1 -/
def k_shape_Pairs_1 : KF := ⟨(.seq (.reg [] [gn (.mv 4 (.c (.bool false)))] [4])
 (.seq (.reg [] [gl 5 1, gm 6 0, ga 7 5 6, gf 8 7 1, gl 9 8, gl 10 1, gl 11 2, ga 12 10 11, gf 13 12 1, gl 14 13, gn (.bin 15 .eql (.t 9) (.t 14)), gm 4 15] [0,1,2,5,6,7,8,9,10,11,12,13,14,15])
 .ret)), [.t 4], none⟩
/- foliot/shape.May$3 -/
def k_shape_May_3 : KF := ⟨(.seq (.reg [] [gn (.mv 3 (.c (.bool false)))] [3])
 (.seq (.reg [] [gm 4 0, gl 5 1, gn (.bin 6 .gtr (.t 4) (.t 5)), gm 3 6] [0,1,4,5,6])
 .ret)), [.t 3], none⟩
/- foliot/task.may -/
def k_task_may : KF := ⟨(.seq (.reg [] [gn (.mv 2 (.c (.bool false)))] [2])
 (.seq (.reg [] [gm 3 0, gk 4 3, gn (.bin 5 .eql (.t 4) (ci 0)), gm 6 5, jm 6 7 0, gj 6 (.dat 8 f_shape_May [(.t 7)]), gn (.pick 9 (.t 6) (.c (.bool true)) (.t 8)), gm 2 9] [0,3,4,5,6,7,8,9])
 .ret)), [.t 2], none⟩
/- foliot/task.locks -/
def k_task_locks : KF := ⟨(.seq (.reg [] [gn (.mv 2 (.c (.bool false)))] [2])
 (.seq (.reg [] [gm 3 0, gn (.cal 4 f_slices_ContainsFunc_api_Inst_api_Inst [(.t 3), (.c (.clo f_task_locks_1 [] []))] []), gm 2 4] [0,3,4])
 .ret)), [.t 2], none⟩
/- foliot/task.locks$1 -/
def k_task_locks_1 : KF := ⟨(.seq (.reg [] [gn (.box 1 (.t 0)), gn (.mv 2 (.c (.bool false)))] [0,2])
 (.seq (.reg [] [gf 3 1 0, gl 4 3, gn (.bin 5 .eql (.t 4) (ci 9)), gm 2 5] [1,3,4,5])
 .ret)), [.t 2], none⟩
/- foliot/task.long -/
def k_task_long : KF := ⟨(.seq (.reg [] [gn (.mv 2 (ci 0))] [2])
 (.seq (.reg [] [gm 6 0, gn (.dat 7 f_cost_Of [(.t 6)]), gm 5 7, ge 8 5 0, ge 9 5 1, gn (.alc 3 (.d (.agg [(.int .i64 0), (.int .i64 0), (.sl true [])]))), gs 3 8, gm 4 9] [0,4,5,6,7,8,9])
 (.seq (.reg [] [gf 10 3 0, gl 11 10, gm 2 11] [3,10,11])
 .ret))), [.t 2], none⟩
/- foliot/cost.Of -/
def k_cost_Of_L0b : K := (.seq (.reg [] [gn (.bin 27 .lss (.t 26) (.t 25))] [])
 (.seq (.cond (.t 27) .skip
 (.ext 0))
 (.seq (.blk 1 (.seq (.reg [] [gm 28 26, ga 29 24 26, gl 30 29, gn (.alc 9 (.d (.agg [(.int .i64 0), (.int .i64 0), (.int .i64 0), (.int .i64 0)]))), gm 8 28, gs 9 30] [28,29,30])
 (.seq (.reg [] [gf 31 9 0, gl 32 31] [31])
 (.blk 2 (.seq (.seq (.reg [] [gn (.bin 34 .eql (.t 32) (ci 11)), gm 33 34] [34])
 (.cond (.t 33) .skip
 (.reg [] [gn (.bin 35 .eql (.t 32) (ci 0)), gm 33 35] [35])))
 (.cond (.t 33) (.seq (.reg [(1,7)] [gf 36 2 1, gl 37 36, gm 38 4, gm 39 5, gm 40 8, gn (.bin 41 .add (.t 40) (ci 1)), gn (.slc 42 (.t 38) (some (.t 39)) (some (.t 41))), gn (.dat 43 f_cost_sum [(.t 42)]), gn (.mx 44 [(.t 37), (.t 43)]), gf 45 2 1, gs 45 44] [5,36,37,38,39,40,41,42,43,44,45])
 (.reg [] [gm 46 8, gn (.bin 47 .add (.t 46) (ci 1)), gm 5 47] [8,46,47]))
 (.seq (.reg [] [gn (.bin 49 .eql (.t 32) (ci 9)), gm 48 49] [32,49])
 (.cond (.t 48) (.reg [(1,13), (3,13), (13,16), (13,17), (1,20)] [gf 50 2 2, gl 51 50, gf 52 9 1, gl 53 52, gm 54 4, gm 55 8, gn (.bin 56 .add (.t 55) (ci 1)), gm 57 6, gm 58 8, ga 59 57 58, gl 60 59, gn (.bin 61 .add (.t 60) (ci 1)), gn (.slc 62 (.t 54) (some (.t 56)) (some (.t 61))), gn (.dat 63 f_cost_sum [(.t 62)]), gm 64 4, gm 65 8, ga 66 64 65, gl 67 66, gn (.bin 68 .quo (.t 63) (.t 67)), gn (.bld 69 [(.t 53), (.t 68)]), gn (.bsl 70 [(.t 69)]), gp 71 51 70, gf 72 2 2, gs 72 71] [8,9,50,51,52,53,54,55,56,57,58,59,60,61,62,63,64,65,66,67,68,69,70,71,72])
 .skip))))))))
 (.reg [] [gn (.bin 73 .add (.t 26) (ci 1)), gm 26 73] [73]))))
def k_cost_Of_L0 : K := k_cost_Of_L0b
def k_cost_Of : KF := ⟨(.seq (.reg [] [gn (.alc 2 (.d (.agg [(.int .i64 0), (.int .i64 0), (.sl true [])]))), gn (.mv 3 (.c (.bool false)))] [3])
 (.seq (.seq (.reg [] [gm 10 0, gn (.dat 11 f_shape_May [(.t 10)]), gn (.un 12 .not (.t 11))] [10,11])
 (.cond (.t 12) (.seq (.reg [] [gn (.bld 13 [(ci 0), (ci 0), (.c (.d (.sl true [])))]), gs 2 13, gn (.mv 3 (.c (.bool false)))] [13])
 .ret)
 .skip))
 (.seq (.reg [] [gm 14 0, gn (.dat 15 f_cost_times [(.t 14)]), gm 4 15, gn (.mv 5 (ci 0))] [14,15])
 (.seq (.reg [] [gm 17 0, gn (.dat 18 f_shape_Pairs [(.t 17)]), gm 16 18, ge 19 16 0, ge 20 16 1, gm 6 19, gm 7 20] [7,16,17,18,19,20])
 (.seq (.reg [] [gm 21 4, gn (.dat 22 f_cost_sum [(.t 21)]), gf 23 2 0, gs 23 22] [21,22,23])
 (.seq (.seq (.reg [] [gm 24 0, gk 25 24, gn (.mv 26 (ci 0))] [0])
 (.blk 0 (.loop [2,4,5,6,24,25,26] k_cost_Of_L0)))
 (.seq (.reg [] [gl 74 2, gs 2 74, gn (.mv 3 (.c (.bool true)))] [74])
 .ret))))))), [.cell 2, .t 3], none⟩
/- foliot/cost.times -/
def k_cost_times_L0b : K := (.seq (.reg [] [gn (.bin 14 .lss (.t 13) (.t 12))] [])
 (.seq (.cond (.t 14) .skip
 (.ext 0))
 (.seq (.blk 1 (.seq (.reg [] [gm 15 13, gm 4 15] [15])
 (.reg [] [gm 16 3, gm 17 4, ga 18 16 17, gn (.st (.t 18) (ci 1))] [4,16,17,18])))
 (.reg [] [gn (.bin 19 .add (.t 13) (ci 1)), gm 13 19] [19]))))
def k_cost_times_L0 : K := k_cost_times_L0b
def k_cost_times_L2b : K := (.seq (.seq (.reg [] [gm 32 7, gm 33 5, gf 34 6 2, gl 35 34, gn (.bin 36 .add (.t 33) (.t 35)), gn (.bin 37 .leq (.t 32) (.t 36))] [32,33,34,35,36])
 (.cond (.t 37) .skip
 (.ext 4)))
 (.seq (.blk 5 (.reg [] [gm 41 3, gm 42 7, gm 43 3, gm 44 7, ga 45 43 44, gl 46 45, gf 47 6 3, gl 48 47, gn (.dat 49 f_sat_Mul [(.t 46), (.t 48)]), gm 40 49, ge 50 40 0, ge 51 40 1, ga 52 41 42, gs 52 50] [40,41,42,43,44,45,46,47,48,49,50,51,52]))
 (.reg [] [gm 38 7, gn (.bin 39 .add (.t 38) (ci 1)), gm 7 39] [38,39])))
def k_cost_times_L2 : K := k_cost_times_L2b
def k_cost_times_L1b : K := (.seq (.reg [] [gn (.bin 23 .lss (.t 22) (.t 21))] [])
 (.seq (.cond (.t 23) .skip
 (.ext 2))
 (.seq (.blk 3 (.seq (.reg [] [gm 24 22, ga 25 20 22, gl 26 25, gn (.alc 6 (.d (.agg [(.int .i64 0), (.int .i64 0), (.int .i64 0), (.int .i64 0)]))), gm 5 24, gs 6 26] [24,25,26])
 (.seq (.seq (.reg [] [gf 27 6 0, gl 28 27, gn (.bin 29 .neq (.t 28) (ci 8))] [27,28])
 (.cond (.t 29) (.ext 3)
 .skip))
 (.seq (.reg [] [gm 30 5, gn (.bin 31 .add (.t 30) (ci 1)), gm 7 31] [30,31])
 (.blk 4 (.loop [3,5,6,7,20,21,22] k_cost_times_L2))))))
 (.reg [] [gn (.bin 53 .add (.t 22) (ci 1)), gm 22 53] [53]))))
def k_cost_times_L1 : K := k_cost_times_L1b
def k_cost_times : KF := ⟨(.seq (.reg [] [gn (.mv 2 (.c (.d (.sl true []))))] [2])
 (.seq (.reg [] [gm 8 0, gk 9 8, gn (.mks 10 (.int .i64 0) (.t 9) (.t 9)), gm 3 10] [8,9,10])
 (.seq (.seq (.reg [] [gm 11 3, gk 12 11, gn (.mv 13 (ci 0))] [11])
 (.blk 0 (.loop [0,3,12,13] k_cost_times_L0)))
 (.seq (.seq (.reg [] [gm 20 0, gk 21 20, gn (.mv 22 (ci 0))] [0])
 (.blk 2 (.loop [3,20,21,22] k_cost_times_L1)))
 (.seq (.reg [] [gm 54 3, gm 2 54] [3,54])
 .ret))))), [.t 2], none⟩
/- foliot/sat.Mul -/
def k_sat_Mul : KF := ⟨(.seq (.reg [] [gn (.mv 4 (ci 0)), gn (.mv 5 (.c (.bool false)))] [4,5])
 (.seq (.reg [] [gm 10 0, gn (.bin 11 .lss (.t 10) (ci 0)), gm 12 1, gn (.bin 13 .lss (.t 12) (ci 0)), gn (.bin 14 .neq (.t 11) (.t 13)), gm 6 14] [10,11,12,13,14])
 (.seq (.reg [] [gn (.mv 7 (.c (.int .u64 9223372036854775807)))] [])
 (.seq (.seq (.reg [] [gm 15 6] [])
 (.cond (.t 15) (.reg [] [gm 16 7, gn (.bin 17 .add (.t 16) (.c (.int .u64 1))), gm 7 17] [16,17])
 .skip))
 (.seq (.reg [] [gm 19 0, gn (.dat 20 f_sat_size [(.t 19)]), gm 21 1, gn (.dat 22 f_sat_size [(.t 21)]), gn (.dat 23 f_sat_times [(.t 20), (.t 22)]), gm 18 23, ge 24 18 0, ge 25 18 1, gm 8 24, gm 9 25] [0,1,18,19,20,21,22,23,24,25])
 (.seq (.blk 0 (.seq (.reg [] [gm 27 9, gn (.un 28 .not (.t 27)), gm 29 28, jm 29 30 8, jm 29 31 7, gj 29 (.bin 32 .gtr (.t 30) (.t 31)), gn (.pick 33 (.t 29) (.c (.bool true)) (.t 32)), gm 26 33] [7,9,27,28,29,30,31,32,33])
 (.cond (.t 26) (.seq (.reg [] [gm 34 6, gn (.dat 35 f_sat_end [(.t 34)]), ge 36 35 0, ge 37 35 1, gm 4 36, gm 5 37] [6,34,35,36,37])
 .ret)
 (.seq (.reg [] [gm 39 6, gm 38 39] [6,39])
 (.cond (.t 38) (.seq (.reg [] [gm 40 8, gn (.un 41 .neg (.t 40)), gn (.cv 42 .i64 (.t 41)), gm 4 42, gn (.mv 5 (.c (.bool true)))] [8,40,41,42])
 .ret)
 .skip)))))
 (.seq (.reg [] [gm 43 8, gn (.cv 44 .i64 (.t 43)), gm 4 44, gn (.mv 5 (.c (.bool true)))] [8,43,44])
 .ret))))))), [.t 4, .t 5], none⟩
/- foliot/sat.size -/
def k_sat_size : KF := ⟨(.seq (.reg [] [gn (.mv 2 (.c (.int .u64 0)))] [2])
 (.seq (.seq (.reg [] [gm 3 0, gn (.bin 4 .lss (.t 3) (ci 0))] [3])
 (.cond (.t 4) (.seq (.reg [] [gm 5 0, gn (.cv 6 .u64 (.t 5)), gn (.un 7 .neg (.t 6)), gm 2 7] [0,5,6,7])
 .ret)
 .skip))
 (.seq (.reg [] [gm 8 0, gn (.cv 9 .u64 (.t 8)), gm 2 9] [0,8,9])
 .ret))), [.t 2], none⟩
/- foliot/sat.times -/
def k_sat_times : KF := ⟨(.seq (.reg [] [gn (.mv 4 (.c (.int .u64 0))), gn (.mv 5 (.c (.bool false)))] [4,5])
 (.seq (.reg [] [gm 13 0, gn (.bin 14 .shr (.t 13) (.c (.int .u64 32))), gm 15 0, gn (.cv 16 .u32 (.t 15)), gn (.cv 17 .u64 (.t 16)), gm 6 14, gm 7 17] [0,13,14,15,16,17])
 (.seq (.reg [] [gm 18 1, gn (.bin 19 .shr (.t 18) (.c (.int .u64 32))), gm 20 1, gn (.cv 21 .u32 (.t 20)), gn (.cv 22 .u64 (.t 21)), gm 8 19, gm 9 22] [1,18,19,20,21,22])
 (.seq (.reg [] [gm 23 6, gm 24 9, gn (.bin 25 .mul (.t 23) (.t 24)), gm 26 7, gm 27 8, gn (.bin 28 .mul (.t 26) (.t 27)), gn (.bin 29 .or (.t 25) (.t 28)), gm 10 29] [23,24,25,26,27,28,29])
 (.seq (.seq (.reg [] [gm 30 6, gn (.bin 31 .gtr (.t 30) (.c (.int .u64 0))), gm 32 31, hm 32 33 8, gh 32 (.bin 34 .gtr (.t 33) (.c (.int .u64 0))), gn (.pick 35 (.t 32) (.t 34) (.c (.bool false))), gm 36 35, jm 36 37 10, gj 36 (.bin 38 .shr (.t 37) (.c (.int .u64 32))), gj 36 (.bin 39 .gtr (.t 38) (.c (.int .u64 0))), gn (.pick 40 (.t 36) (.c (.bool true)) (.t 39))] [6,8,30,31,32,33,34,35,36,37,38,39])
 (.cond (.t 40) (.seq (.reg [] [gn (.mv 4 (.c (.int .u64 0))), gn (.mv 5 (.c (.bool false)))] [])
 .ret)
 .skip))
 (.seq (.reg [] [gm 41 7, gm 42 9, gn (.bin 43 .mul (.t 41) (.t 42)), gm 11 43] [7,9,41,42,43])
 (.seq (.reg [] [gm 44 11, gm 45 10, gn (.bin 46 .shl (.t 45) (.c (.int .u64 32))), gn (.bin 47 .add (.t 44) (.t 46)), gm 12 47] [10,44,45,46,47])
 (.seq (.reg [] [gm 48 12, gm 49 12, gm 50 11, gn (.bin 51 .geq (.t 49) (.t 50)), gm 4 48, gm 5 51] [11,12,48,49,50,51])
 .ret)))))))), [.t 4, .t 5], none⟩
/- foliot/sat.end -/
def k_sat_end : KF := ⟨(.seq (.reg [] [gn (.mv 2 (ci 0)), gn (.mv 3 (.c (.bool false)))] [2,3])
 (.seq (.seq (.reg [] [gm 4 0] [0])
 (.cond (.t 4) (.seq (.reg [] [gn (.mv 2 (ci (-9223372036854775808))), gn (.mv 3 (.c (.bool false)))] [])
 .ret)
 .skip))
 (.seq (.reg [] [gn (.mv 2 (ci 9223372036854775807)), gn (.mv 3 (.c (.bool false)))] [])
 .ret))), [.t 2, .t 3], none⟩
/- foliot/cost.sum -/
def k_cost_sum_L0b : K := (.seq (.reg [] [gn (.bin 8 .lss (.t 7) (.t 6))] [])
 (.seq (.cond (.t 8) .skip
 (.ext 0))
 (.seq (.blk 1 (.seq (.reg [] [ga 9 5 7, gl 10 9, gm 4 10] [9,10])
 (.reg [] [gm 12 2, gm 13 4, gn (.dat 14 f_sat_Add [(.t 12), (.t 13)]), gm 11 14, ge 15 11 0, ge 16 11 1, gm 2 15] [4,11,12,13,14,15,16])))
 (.reg [] [gn (.bin 17 .add (.t 7) (ci 1)), gm 7 17] [17]))))
def k_cost_sum_L0 : K := k_cost_sum_L0b
def k_cost_sum : KF := ⟨(.seq (.reg [] [gn (.mv 2 (ci 0))] [])
 (.seq (.seq (.reg [] [gm 5 0, gk 6 5, gn (.mv 7 (ci 0))] [0])
 (.blk 0 (.loop [2,5,6,7] k_cost_sum_L0)))
 (.seq (.reg [] [gm 18 2, gm 2 18] [18])
 .ret))), [.t 2], none⟩
/- foliot/sat.Add -/
def k_sat_Add : KF := ⟨(.seq (.reg [] [gn (.mv 4 (ci 0)), gn (.mv 5 (.c (.bool false)))] [4,5])
 (.seq (.reg [] [gm 7 0, gn (.cv 8 .u64 (.t 7)), gm 9 1, gn (.cv 10 .u64 (.t 9)), gn (.bin 11 .add (.t 8) (.t 10)), gn (.cv 12 .i64 (.t 11)), gm 6 12] [7,8,9,10,11,12])
 (.seq (.seq (.reg [] [gm 13 0, gm 14 6, gn (.bin 15 .xor (.t 13) (.t 14)), gm 16 1, gm 17 6, gn (.bin 18 .xor (.t 16) (.t 17)), gn (.bin 19 .and (.t 15) (.t 18)), gn (.bin 20 .lss (.t 19) (ci 0))] [1,13,14,15,16,17,18,19])
 (.cond (.t 20) (.seq (.reg [] [gm 21 0, gn (.bin 22 .lss (.t 21) (ci 0)), gn (.dat 23 f_sat_end [(.t 22)]), ge 24 23 0, ge 25 23 1, gm 4 24, gm 5 25] [0,21,22,23,24,25])
 .ret)
 .skip))
 (.seq (.reg [] [gm 26 6, gm 4 26, gn (.mv 5 (.c (.bool true)))] [6,26])
 .ret)))), [.t 4, .t 5], none⟩
/- foliot/admit.mine -/
def k_admit_mine : KF := ⟨(.seq (.reg [] [gn (.box 1 (.t 0)), gn (.alc 2 (.d (.agg [(.int .i64 0), (.int .i64 0), (.int .i64 0), (.sl true []), (.sl true []), (.sl true [])])))] [0])
 (.seq (.reg [(2,4), (2,7), (5,7)] [gf 3 1 3, gl 4 3, gn (.das 5 f_slices_Clone_api_Inst_api_Inst [(.t 4)]), gf 6 1 4, gl 7 6, gn (.das 8 f_slices_Clone_api_Inst_api_Inst [(.t 7)]), gf 9 1 5, gl 10 9, gn (.das 11 f_slices_Clone_api_Inst_api_Inst [(.t 10)]), gf 12 1 3, gs 12 5, gf 13 1 4, gs 13 8, gf 14 1 5, gs 14 11] [3,4,5,6,7,8,9,10,11,12,13,14])
 (.seq (.reg [] [gl 15 1, gs 2 15] [1,15])
 .ret))), [.cell 2], none⟩
/- slices.Clone[[]foliot/api.Inst,foliot/api.Inst] -/
def k_slices_Clone_api_Inst_api_Inst : KF := ⟨(.seq (.reg [] [gn (.mv 2 (.c (.d (.sl true []))))] [2])
 (.seq (.seq (.reg [] [gm 3 0, gn (.bin 4 .eql (.t 3) (.c (.d (.sl true []))))] [3])
 (.cond (.t 4) (.seq (.reg [] [gn (.mv 2 (.c (.d (.sl true []))))] [])
 .ret)
 .skip))
 (.seq (.reg [] [gn (.bsl 5 []), gm 6 0, gp 7 5 6, gm 2 7] [0,5,6,7])
 .ret))), [.t 2], none⟩
/- foliot/admit.In$1 -/
def k_admit_In_1 : KF := ⟨(.seq (.reg [] [gn (.box 2 (.t 0)), gn (.mv 3 (.c (.bool false)))] [0,3])
 (.seq (.reg [] [gf 4 2 0, gl 5 4, gf 6 1 0, gl 7 6, gn (.bin 8 .gtr (.t 5) (.t 7)), gm 3 8] [1,2,4,5,6,7,8])
 .ret)), [.t 3], none⟩
/- slices.IndexFunc[[]foliot/api.Task,foliot/api.Task] -/
def k_slices_IndexFunc_api_Task_api_Task_L0b : K := (.seq (.reg [] [gn (.bin 9 .lss (.t 8) (.t 7))] [])
 (.seq (.cond (.t 9) .skip
 (.ext 0))
 (.seq (.blk 1 (.seq (.reg [] [gm 10 8, gm 5 10] [10])
 (.seq (.reg [] [gm 11 1, gm 12 0, gm 13 5, ga 14 12 13, gl 15 14, gn (.cav 16 (.t 11) [(.t 15)])] [11,12,13,14,15])
 (.cond (.t 16) (.seq (.reg [] [gm 17 5, gm 4 17] [5,17])
 .ret)
 .skip))))
 (.reg [] [gn (.bin 18 .add (.t 8) (ci 1)), gm 8 18] [18]))))
def k_slices_IndexFunc_api_Task_api_Task_L0 : K := k_slices_IndexFunc_api_Task_api_Task_L0b
def k_slices_IndexFunc_api_Task_api_Task : KF := ⟨(.seq (.reg [] [gn (.mv 4 (ci 0))] [4])
 (.seq (.seq (.reg [] [gm 6 0, gk 7 6, gn (.mv 8 (ci 0))] [6])
 (.blk 0 (.loop [0,1,7,8] k_slices_IndexFunc_api_Task_api_Task_L0)))
 (.seq (.reg [] [gn (.mv 4 (ci (-1)))] [])
 .ret))), [.t 4], none⟩
/- slices.Insert[[]foliot/api.Task,foliot/api.Task] -/
def k_slices_Insert_api_Task_api_Task : KF := ⟨.skip, [], some .ins⟩
/- foliot/admit.All -/
def k_admit_All_L0b : K := (.seq (.reg [] [gn (.bin 19 .lss (.t 18) (.t 17))] [])
 (.seq (.cond (.t 19) .skip
 (.ext 0))
 (.seq (.blk 1 (.seq (.reg [] [gm 20 18, ga 21 16 18, gl 22 21, gn (.alc 7 (.d (.agg [(.int .i64 0), (.int .i64 0), (.int .i64 0), (.sl true []), (.sl true []), (.sl true [])]))), gm 6 20, gs 7 22] [20,21,22])
 (.seq (.reg [] [gm 24 0, gm 25 6, gm 26 1, gn (.dat 27 f_bound_Resp [(.t 24), (.t 25), (.t 26)]), gm 23 27, ge 28 23 0, ge 29 23 1, ge 30 23 2, gm 8 28, gm 9 29, gm 10 30] [9,23,24,25,26,27,28,29,30])
 (.seq (.seq (.reg [] [gm 31 10, gn (.bin 32 .neq (.t 31) (ci 0))] [31])
 (.cond (.t 32) (.seq (.reg [] [gm 33 10, gn (.mv 4 (.c (.d (.sl true [])))), gm 5 33] [10,33])
 .ret)
 .skip))
 (.seq (.reg [] [gl 35 7, gn (.dat 36 f_task_Costs [(.t 35)]), gm 34 36, ge 37 34 0, ge 38 34 1, ge 39 34 2, gm 11 37, gm 12 38, gm 13 39] [13,34,35,36,37,38,39])
 (.reg [(5,8)] [gm 40 4, gm 41 11, gm 42 12, gm 43 0, gm 44 6, gn (.dat 45 f_block_By [(.t 43), (.t 44)]), gm 46 8, gf 47 7 2, gl 48 47, gm 49 8, gn (.bin 50 .sub (.t 48) (.t 49)), gn (.bld 51 [(.t 41), (.t 42), (.t 45), (.t 46), (.t 50)]), gn (.bsl 52 [(.t 51)]), gp 53 40 52, gm 4 53] [6,7,8,11,12,40,41,42,43,44,45,46,47,48,49,50,51,52,53]))))))
 (.reg [] [gn (.bin 54 .add (.t 18) (ci 1)), gm 18 54] [54]))))
def k_admit_All_L0 : K := k_admit_All_L0b
def k_admit_All : KF := ⟨(.seq (.reg [] [gn (.mv 4 (.c (.d (.sl true [])))), gn (.mv 5 (ci 0))] [5])
 (.seq (.seq (.reg [] [gm 14 1, gn (.bin 15 .lss (.t 14) (ci 1))] [14])
 (.cond (.t 15) (.seq (.reg [] [gn (.mv 4 (.c (.d (.sl true [])))), gn (.mv 5 (ci 1))] [])
 .ret)
 .skip))
 (.seq (.seq (.reg [] [gm 16 0, gk 17 16, gn (.mv 18 (ci 0))] [])
 (.blk 0 (.loop [0,1,4,16,17,18] k_admit_All_L0)))
 (.seq (.reg [] [gm 55 4, gm 4 55, gn (.mv 5 (ci 0))] [55])
 .ret)))), [.t 4, .t 5], none⟩
/- foliot/bound.Resp -/
def k_bound_Resp_L0b : K := (.seq (.reg [] [gn (.bin 57 .lss (.t 56) (.t 55))] [])
 (.seq (.cond (.t 57) .skip
 (.ext 0))
 (.seq (.blk 1 (.seq (.reg [] [ga 58 54 56, gl 59 58, gn (.alc 14 (.d (.agg [(.int .i64 0), (.int .i64 0), (.int .i64 0), (.sl true []), (.sl true []), (.sl true [])]))), gs 14 59] [58,59])
 (.seq (.reg [] [gl 61 14, gn (.dat 62 f_task_Costs [(.t 61)]), gm 60 62, ge 63 60 0, ge 64 60 1, ge 65 60 2, gm 15 63, gm 16 64, gm 17 65] [14,15,17,60,61,62,63,64,65])
 (.reg [] [gm 66 12, gm 67 16, gn (.mx 68 [(.t 66), (.t 67)]), gm 12 68] [16,66,67,68]))))
 (.reg [] [gn (.bin 69 .add (.t 56) (ci 1)), gm 56 69] [69]))))
def k_bound_Resp_L0 : K := k_bound_Resp_L0b
def k_bound_Resp_L2b : K := (.seq (.reg [] [gn (.bin 91 .lss (.t 90) (.t 89))] [])
 (.seq (.cond (.t 91) .skip
 (.ext 4))
 (.seq (.blk 5 (.seq (.reg [] [ga 92 88 90, gl 93 92, gn (.alc 21 (.d (.agg [(.int .i64 0), (.int .i64 0), (.int .i64 0), (.sl true []), (.sl true []), (.sl true [])]))), gs 21 93] [92,93])
 (.seq (.reg [] [gl 95 21, gn (.dat 96 f_task_Costs [(.t 95)]), gm 94 96, ge 97 94 0, ge 98 94 1, ge 99 94 2, gm 22 97, gm 23 98, gm 24 99] [23,24,94,95,96,97,98,99])
 (.reg [] [gm 100 6, gf 101 21 1, gl 102 101, gn (.dat 103 f_bound_often [(.t 100), (.t 102)]), gm 104 22, gn (.cal 105 f_bound_sum_add [(.t 19), (.t 103), (.t 104)] [])] [21,22,100,101,102,103,104,105]))))
 (.reg [] [gn (.bin 106 .add (.t 90) (ci 1)), gm 90 106] [106]))))
def k_bound_Resp_L2 : K := k_bound_Resp_L2b
def k_bound_Resp_L1b : K := (.blk 3 (.seq (.reg [] [gm 78 7, gn (.bin 79 .add (.t 78) (ci 1)), gm 7 79] [78,79])
 (.seq (.reg [] [gl 80 18, gn (.alc 19 (.d (.agg [(.int .i64 0), (.bool false)]))), gs 19 80] [80])
 (.seq (.reg [] [gm 81 6, gm 82 2, gn (.dat 83 f_bound_often [(.t 81), (.t 82)]), gm 84 12, gn (.cal 85 f_bound_sum_add [(.t 19), (.t 83), (.t 84)] [])] [81,82,83,84,85])
 (.seq (.seq (.reg [] [gm 86 0, gm 87 1, gn (.slc 88 (.t 86) none (some (.t 87))), gk 89 88, gn (.mv 90 (ci 0))] [86,87])
 (.blk 4 (.loop [0,1,2,6,7,12,18,19,88,89,90] k_bound_Resp_L2)))
 (.seq (.blk 6 (.seq (.reg [] [gf 108 19 1, gl 109 108, gm 107 109] [108,109])
 (.cond (.t 107) (.seq (.reg [] [gn (.mv 6 (ci 0)), gn (.mv 7 (ci 0)), gn (.mv 8 (ci 13))] [])
 .ret)
 (.seq (.reg [] [gf 111 19 0, gl 112 111, gm 113 0, gm 114 1, ga 115 113 114, gf 116 115 2, gl 117 116, gn (.bin 118 .gtr (.t 112) (.t 117)), gm 110 118] [111,112,113,114,115,116,117,118])
 (.cond (.t 110) (.seq (.reg [] [gn (.mv 6 (ci 0)), gn (.mv 7 (ci 0)), gn (.mv 8 (ci 14))] [])
 .ret)
 (.seq (.reg [] [gf 120 19 0, gl 121 120, gm 122 6, gn (.bin 123 .eql (.t 121) (.t 122)), gm 119 123] [120,121,122,123])
 (.cond (.t 119) (.seq (.reg [] [gm 124 6, gm 125 7, gm 6 124, gm 7 125, gn (.mv 8 (ci 0))] [124,125])
 .ret)
 .skip)))))))
 (.reg [] [gf 126 19 0, gl 127 126, gm 6 127] [19,126,127])))))))
def k_bound_Resp_L1 : K := k_bound_Resp_L1b
def k_bound_Resp : KF := ⟨(.seq (.reg [] [gn (.mv 6 (ci 0)), gn (.mv 7 (ci 0)), gn (.mv 8 (ci 0))] [6,8])
 (.seq (.seq (.reg [] [gm 25 0, gn (.dat 26 f_bound_row [(.t 25)]), gn (.un 27 .not (.t 26)), gm 28 27, jm 28 29 1, gj 28 (.bin 30 .lss (.t 29) (ci 0)), gn (.pick 31 (.t 28) (.c (.bool true)) (.t 30)), gm 32 31, jm 32 33 1, jm 32 34 0, gj 32 (.len 35 (.t 34)), gj 32 (.bin 36 .geq (.t 33) (.t 35)), gn (.pick 37 (.t 32) (.c (.bool true)) (.t 36)), gm 38 37, jm 38 39 2, gj 38 (.bin 40 .lss (.t 39) (ci 1)), gn (.pick 41 (.t 38) (.c (.bool true)) (.t 40))] [25,26,27,28,29,30,31,32,33,34,35,36,37,38,39,40])
 (.cond (.t 41) (.seq (.reg [] [gn (.mv 6 (ci 0)), gn (.mv 7 (ci 0)), gn (.mv 8 (ci 1))] [])
 .ret)
 .skip))
 (.seq (.reg [] [gm 43 0, gm 44 1, ga 45 43 44, gl 46 45, gn (.dat 47 f_task_Costs [(.t 46)]), gm 42 47, ge 48 42 0, ge 49 42 1, ge 50 42 2, gm 9 48, gm 10 49, gm 11 50] [10,11,42,43,44,45,46,47,48,49,50])
 (.seq (.reg [] [gn (.mv 12 (ci 0))] [])
 (.seq (.seq (.reg [] [gm 51 0, gm 52 1, gn (.bin 53 .add (.t 52) (ci 1)), gn (.slc 54 (.t 51) none (some (.t 53))), gk 55 54, gn (.mv 56 (ci 0))] [51,52,53])
 (.blk 0 (.loop [0,1,2,7,9,12,54,55,56] k_bound_Resp_L0)))
 (.seq (.reg [] [gm 70 9, gn (.bld 71 [(.t 70), (.c (.bool false))]), gn (.alc 18 (.d (.agg [(.int .i64 0), (.bool false)]))), gs 18 71] [9,70,71])
 (.seq (.reg [] [gm 72 0, gm 73 1, gn (.dat 74 f_block_By [(.t 72), (.t 73)]), gn (.cal 75 f_bound_sum_add [(.t 18), (ci 1), (.t 74)] [])] [72,73,74,75])
 (.seq (.reg [] [gf 76 18 0, gl 77 76, gm 6 77] [76,77])
 (.blk 2 (.loop [0,1,2,6,7,12,18] k_bound_Resp_L1)))))))))), [.t 6, .t 7, .t 8], none⟩
/- foliot/bound.row -/
def k_bound_row_L0b : K := (.seq (.reg [] [gn (.bin 8 .lss (.t 7) (.t 6))] [])
 (.seq (.cond (.t 8) .skip
 (.ext 0))
 (.seq (.blk 1 (.seq (.reg [] [gm 9 7, ga 10 5 7, gl 11 10, gn (.alc 4 (.d (.agg [(.int .i64 0), (.int .i64 0), (.int .i64 0), (.sl true []), (.sl true []), (.sl true [])]))), gm 3 9, gs 4 11] [9,10,11])
 (.seq (.reg [] [gl 12 4, gn (.dat 13 f_task_May [(.t 12)]), gn (.bin 14 .neq (.t 13) (ci 0)), gm 15 14, jm 15 16 3, gj 15 (.bin 17 .gtr (.t 16) (ci 0)), jm 15 18 17, hm 18 19 0, hm 18 20 3, gh 18 (.bin 21 .sub (.t 20) (ci 1)), gh 18 (.ia 22 (.t 19) (.t 21)), gh 18 (.fa 23 (.t 22) 0), gh 18 (.ld 24 (.t 23)), gh 18 (.fa 25 (.t 4) 0), gh 18 (.ld 26 (.t 25)), gh 18 (.bin 27 .geq (.t 24) (.t 26)), gj 15 (.pick 28 (.t 18) (.t 27) (.c (.bool false))), gn (.pick 29 (.t 15) (.c (.bool true)) (.t 28))] [3,4,12,13,14,15,16,17,18,19,20,21,22,23,24,25,26,27,28])
 (.cond (.t 29) (.seq (.reg [] [gn (.mv 2 (.c (.bool false)))] [])
 .ret)
 .skip))))
 (.reg [] [gn (.bin 30 .add (.t 7) (ci 1)), gm 7 30] [30]))))
def k_bound_row_L0 : K := k_bound_row_L0b
def k_bound_row : KF := ⟨(.seq (.reg [] [gn (.mv 2 (.c (.bool false)))] [2])
 (.seq (.seq (.reg [] [gm 5 0, gk 6 5, gn (.mv 7 (ci 0))] [])
 (.blk 0 (.loop [0,5,6,7] k_bound_row_L0)))
 (.seq (.reg [] [gn (.mv 2 (.c (.bool true)))] [])
 .ret))), [.t 2], none⟩
/- foliot/task.Costs -/
def k_task_Costs : KF := ⟨(.seq (.reg [] [gn (.box 1 (.t 0)), gn (.mv 2 (ci 0)), gn (.mv 3 (ci 0)), gn (.mv 4 (.c (.d (.sl true []))))] [0,2,3,4])
 (.seq (.seq (.reg [] [gl 9 1, gn (.dat 10 f_task_May [(.t 9)]), gn (.bin 11 .neq (.t 10) (ci 0))] [9,10])
 (.cond (.t 11) (.seq (.reg [] [gn (.mv 2 (ci 0)), gn (.mv 3 (ci 0)), gn (.mv 4 (.c (.d (.sl true []))))] [])
 .ret)
 .skip))
 (.seq (.reg [] [gf 13 1 3, gl 14 13, gn (.dat 15 f_cost_Of [(.t 14)]), gm 12 15, ge 16 12 0, ge 17 12 1, gn (.alc 5 (.d (.agg [(.int .i64 0), (.int .i64 0), (.sl true [])]))), gs 5 16, gm 6 17] [6,12,13,14,15,16,17])
 (.seq (.reg [] [gf 19 1 4, gl 20 19, gn (.dat 21 f_cost_Of [(.t 20)]), gm 18 21, ge 22 18 0, ge 23 18 1, gn (.alc 7 (.d (.agg [(.int .i64 0), (.int .i64 0), (.sl true [])]))), gs 7 22, gm 8 23] [1,18,19,20,21,22,23])
 (.seq (.reg [] [gf 24 5 1, gl 25 24, gm 3 25] [24,25])
 (.seq (.seq (.reg [] [gm 26 8] [8])
 (.cond (.t 26) (.reg [] [gf 27 7 0, gl 28 27, gm 3 28] [27,28])
 .skip))
 (.seq (.reg [(1,7), (1,8)] [gf 29 5 0, gl 30 29, gm 31 3, gf 32 5 2, gl 33 32, gf 34 7 2, gl 35 34, gn (.bsl 36 [(.t 33), (.t 35)]), gn (.dat 37 f_slices_Concat_api_Span_api_Span [(.t 36)]), gm 2 30, gm 3 31, gm 4 37] [5,7,29,30,31,32,33,34,35,36,37])
 .ret))))))), [.t 2, .t 3, .t 4], none⟩
/- slices.Concat[[]foliot/api.Span,foliot/api.Span] -/
def k_slices_Concat_api_Span_api_Span_L0b : K := (.seq (.reg [] [gn (.bin 12 .lss (.t 11) (.t 10))] [])
 (.seq (.cond (.t 12) .skip
 (.ext 0))
 (.seq (.blk 1 (.seq (.reg [] [ga 13 9 11, gl 14 13, gm 5 14] [13,14])
 (.seq (.reg [] [gm 15 3, gm 16 5, gk 17 16, gn (.bin 18 .add (.t 15) (.t 17)), gm 3 18] [5,15,16,17,18])
 (.seq (.reg [] [gm 19 3, gn (.bin 20 .lss (.t 19) (ci 0))] [19])
 (.cond (.t 20) (.reg [] [gn (.bad (some 21)), gn (.bad none)] [21])
 .skip)))))
 (.reg [] [gn (.bin 22 .add (.t 11) (ci 1)), gm 11 22] [22]))))
def k_slices_Concat_api_Span_api_Span_L0 : K := k_slices_Concat_api_Span_api_Span_L0b
def k_slices_Concat_api_Span_api_Span_L1b : K := (.seq (.reg [] [gn (.bin 28 .lss (.t 27) (.t 26))] [])
 (.seq (.cond (.t 28) .skip
 (.ext 2))
 (.seq (.blk 3 (.seq (.reg [] [ga 29 25 27, gl 30 29, gm 8 30] [29,30])
 (.reg [] [gm 31 6, gm 32 8, gp 33 31 32, gm 6 33] [8,31,32,33])))
 (.reg [] [gn (.bin 34 .add (.t 27) (ci 1)), gm 27 34] [34]))))
def k_slices_Concat_api_Span_api_Span_L1 : K := k_slices_Concat_api_Span_api_Span_L1b
def k_slices_Concat_api_Span_api_Span : KF := ⟨(.seq (.reg [] [gn (.mv 2 (.c (.d (.sl true []))))] [2])
 (.seq (.reg [] [gn (.mv 3 (ci 0))] [])
 (.seq (.seq (.reg [] [gm 9 0, gk 10 9, gn (.mv 11 (ci 0))] [])
 (.blk 0 (.loop [0,3,9,10,11] k_slices_Concat_api_Span_api_Span_L0)))
 (.seq (.reg [] [gm 23 3, gn (.cal 24 f_slices_Grow_api_Span_api_Span [(.c (.d (.sl true []))), (.t 23)] []), gm 6 24] [3,23,24])
 (.seq (.seq (.reg [] [gm 25 0, gk 26 25, gn (.mv 27 (ci 0))] [0])
 (.blk 2 (.loop [6,25,26,27] k_slices_Concat_api_Span_api_Span_L1)))
 (.seq (.reg [] [gm 35 6, gm 2 35] [6,35])
 .ret)))))), [.t 2], none⟩
/- slices.Grow[[]foliot/api.Span,foliot/api.Span] -/
def k_slices_Grow_api_Span_api_Span : KF := ⟨(.seq (.reg [] [gn (.mv 4 (.c (.d (.sl true []))))] [4])
 (.seq (.seq (.reg [] [gm 5 1, gn (.bin 6 .lss (.t 5) (ci 0))] [5])
 (.cond (.t 6) (.reg [] [gn (.bad (some 7)), gn (.bad none)] [7])
 .skip))
 (.seq (.seq (.reg [] [gm 8 1, gm 9 0, gn (.cap 10 (.t 9)), gm 11 0, gk 12 11, gn (.bin 13 .sub (.t 10) (.t 12)), gn (.bin 14 .sub (.t 8) (.t 13)), gm 1 14] [8,9,10,11,12,13,14])
 (.seq (.reg [] [gm 15 1, gn (.bin 16 .gtr (.t 15) (ci 0))] [15])
 (.cond (.t 16) (.reg [] [gm 17 0, gm 18 0, gn (.cap 19 (.t 18)), gn (.slc 20 (.t 17) none (some (.t 19))), gm 21 1, gn (.apz 22 (.t 20) (.agg [(.int .i64 0), (.int .i64 0)]) (.t 21)), gm 23 0, gk 24 23, gn (.slc 25 (.t 22) none (some (.t 24))), gm 0 25] [1,17,18,19,20,21,22,23,24,25])
 .skip)))
 (.seq (.reg [] [gm 26 0, gm 4 26] [0,26])
 .ret)))), [.t 4], none⟩
/- foliot/block.By -/
def k_block_By_L1b : K := (.seq (.reg [] [gn (.bin 35 .lss (.t 34) (.t 33))] [])
 (.seq (.cond (.t 35) .skip
 (.ext 2))
 (.seq (.blk 3 (.seq (.reg [] [ga 36 32 34, gl 37 36, gn (.alc 12 (.d (.agg [(.int .i64 0), (.int .i64 0)]))), gs 12 37] [36,37])
 (.seq (.seq (.reg [] [gm 39 5, gf 40 12 0, gl 41 40, gn (.bld 42 [(.t 41)]), gn (.lk 43 (.t 39) (.t 42) (.int .i64 0) true), gm 38 43, ge 44 38 0, ge 45 38 1, gm 13 44, gm 14 45] [13,38,39,40,41,42,43,44,45])
 (.seq (.reg [] [gm 46 14, gn (.un 47 .not (.t 46))] [14,46])
 (.cond (.t 47) (.reg [(2,7)] [gm 48 5, gf 49 12 0, gl 50 49, gn (.bld 51 [(.t 50)]), gm 52 0, gf 53 12 0, gl 54 53, gn (.dat 55 f_block_Ceil [(.t 52), (.t 54)]), gn (.mu (.t 48) (.t 51) (.t 55))] [48,49,50,51,52,53,54,55])
 .skip)))
 (.seq (.reg [] [gm 56 5, gf 57 12 0, gl 58 57, gn (.bld 59 [(.t 58)]), gn (.lk 60 (.t 56) (.t 59) (.int .i64 0) false), gm 61 1, gn (.bin 62 .leq (.t 60) (.t 61))] [56,57,58,59,60,61])
 (.cond (.t 62) (.reg [] [gm 63 4, gf 64 12 1, gl 65 64, gn (.mx 66 [(.t 63), (.t 65)]), gm 4 66] [12,63,64,65,66])
 .skip)))))
 (.reg [] [gn (.bin 67 .add (.t 34) (ci 1)), gm 34 67] [67]))))
def k_block_By_L1 : K := k_block_By_L1b
def k_block_By_L0b : K := (.seq (.reg [] [gn (.bin 19 .lss (.t 18) (.t 17))] [])
 (.seq (.cond (.t 19) .skip
 (.ext 0))
 (.seq (.blk 1 (.seq (.reg [] [gm 20 18, ga 21 16 18, gl 22 21, gn (.alc 7 (.d (.agg [(.int .i64 0), (.int .i64 0), (.int .i64 0), (.sl true []), (.sl true []), (.sl true [])]))), gm 6 20, gs 7 22] [20,21,22])
 (.seq (.seq (.reg [] [gm 23 6, gm 24 1, gn (.bin 25 .eql (.t 23) (.t 24))] [6,23,24])
 (.cond (.t 25) (.ext 1)
 .skip))
 (.seq (.reg [] [gl 27 7, gn (.dat 28 f_task_Costs [(.t 27)]), gm 26 28, ge 29 26 0, ge 30 26 1, ge 31 26 2, gm 8 29, gm 9 30, gm 10 31] [7,8,9,26,27,28,29,30,31])
 (.seq (.reg [] [gm 32 10, gk 33 32, gn (.mv 34 (ci 0))] [10])
 (.blk 2 (.loop [0,1,4,5,16,17,18,32,33,34] k_block_By_L1)))))))
 (.reg [] [gn (.bin 68 .add (.t 18) (ci 1)), gm 18 68] [68]))))
def k_block_By_L0 : K := k_block_By_L0b
def k_block_By : KF := ⟨(.seq (.reg [] [gn (.mv 4 (ci 0))] [])
 (.seq (.reg [] [gn (.mkm 15), gm 5 15] [15])
 (.seq (.seq (.reg [] [gm 16 0, gk 17 16, gn (.mv 18 (ci 0))] [])
 (.blk 0 (.loop [0,1,4,5,16,17,18] k_block_By_L0)))
 (.seq (.reg [] [gm 69 4, gm 4 69] [69])
 .ret)))), [.t 4], none⟩
/- foliot/block.Ceil -/
def k_block_Ceil : KF := ⟨(.seq (.reg [] [gn (.box 3 (.t 1)), gn (.mv 4 (ci 0))] [1,4])
 (.seq (.reg [] [gm 6 0, gn (.mkf 7 f_block_Ceil_1 [] [(.t 3)]), gn (.cal 8 f_slices_IndexFunc_api_Task_api_Task [(.t 6), (.t 7)] []), gm 5 8] [0,3,6,7,8])
 (.seq (.seq (.reg [] [gm 9 5, gn (.bin 10 .lss (.t 9) (ci 0))] [9])
 (.cond (.t 10) (.seq (.reg [] [gn (.mv 4 (ci 8))] [])
 .ret)
 .skip))
 (.seq (.reg [] [gm 11 5, gm 4 11] [5,11])
 .ret)))), [.t 4], none⟩
/- foliot/block.Ceil$1 -/
def k_block_Ceil_1 : KF := ⟨(.seq (.reg [] [gn (.box 2 (.t 0)), gn (.mv 3 (.c (.bool false)))] [0,3])
 (.seq (.reg [] [gf 4 2 3, gl 5 4, gf 6 2 4, gl 7 6, gn (.bsl 8 [(.t 5), (.t 7)]), gn (.dat 9 f_slices_Concat_api_Inst_api_Inst [(.t 8)]), gn (.mkf 10 f_block_Ceil_1_1 [] [(.t 1)]), gn (.cal 11 f_slices_ContainsFunc_api_Inst_api_Inst [(.t 9), (.t 10)] []), gm 3 11] [1,2,4,5,6,7,8,9,10,11])
 .ret)), [.t 3], none⟩
/- slices.Concat[[]foliot/api.Inst,foliot/api.Inst] -/
def k_slices_Concat_api_Inst_api_Inst_L0b : K := (.seq (.reg [] [gn (.bin 12 .lss (.t 11) (.t 10))] [])
 (.seq (.cond (.t 12) .skip
 (.ext 0))
 (.seq (.blk 1 (.seq (.reg [] [ga 13 9 11, gl 14 13, gm 5 14] [13,14])
 (.seq (.reg [] [gm 15 3, gm 16 5, gk 17 16, gn (.bin 18 .add (.t 15) (.t 17)), gm 3 18] [5,15,16,17,18])
 (.seq (.reg [] [gm 19 3, gn (.bin 20 .lss (.t 19) (ci 0))] [19])
 (.cond (.t 20) (.reg [] [gn (.bad (some 21)), gn (.bad none)] [21])
 .skip)))))
 (.reg [] [gn (.bin 22 .add (.t 11) (ci 1)), gm 11 22] [22]))))
def k_slices_Concat_api_Inst_api_Inst_L0 : K := k_slices_Concat_api_Inst_api_Inst_L0b
def k_slices_Concat_api_Inst_api_Inst_L1b : K := (.seq (.reg [] [gn (.bin 28 .lss (.t 27) (.t 26))] [])
 (.seq (.cond (.t 28) .skip
 (.ext 2))
 (.seq (.blk 3 (.seq (.reg [] [ga 29 25 27, gl 30 29, gm 8 30] [29,30])
 (.reg [] [gm 31 6, gm 32 8, gp 33 31 32, gm 6 33] [8,31,32,33])))
 (.reg [] [gn (.bin 34 .add (.t 27) (ci 1)), gm 27 34] [34]))))
def k_slices_Concat_api_Inst_api_Inst_L1 : K := k_slices_Concat_api_Inst_api_Inst_L1b
def k_slices_Concat_api_Inst_api_Inst : KF := ⟨(.seq (.reg [] [gn (.mv 2 (.c (.d (.sl true []))))] [2])
 (.seq (.reg [] [gn (.mv 3 (ci 0))] [])
 (.seq (.seq (.reg [] [gm 9 0, gk 10 9, gn (.mv 11 (ci 0))] [])
 (.blk 0 (.loop [0,3,9,10,11] k_slices_Concat_api_Inst_api_Inst_L0)))
 (.seq (.reg [] [gm 23 3, gn (.cal 24 f_slices_Grow_api_Inst_api_Inst [(.c (.d (.sl true []))), (.t 23)] []), gm 6 24] [3,23,24])
 (.seq (.seq (.reg [] [gm 25 0, gk 26 25, gn (.mv 27 (ci 0))] [0])
 (.blk 2 (.loop [6,25,26,27] k_slices_Concat_api_Inst_api_Inst_L1)))
 (.seq (.reg [] [gm 35 6, gm 2 35] [6,35])
 .ret)))))), [.t 2], none⟩
/- slices.Grow[[]foliot/api.Inst,foliot/api.Inst] -/
def k_slices_Grow_api_Inst_api_Inst : KF := ⟨(.seq (.reg [] [gn (.mv 4 (.c (.d (.sl true []))))] [4])
 (.seq (.seq (.reg [] [gm 5 1, gn (.bin 6 .lss (.t 5) (ci 0))] [5])
 (.cond (.t 6) (.reg [] [gn (.bad (some 7)), gn (.bad none)] [7])
 .skip))
 (.seq (.seq (.reg [] [gm 8 1, gm 9 0, gn (.cap 10 (.t 9)), gm 11 0, gk 12 11, gn (.bin 13 .sub (.t 10) (.t 12)), gn (.bin 14 .sub (.t 8) (.t 13)), gm 1 14] [8,9,10,11,12,13,14])
 (.seq (.reg [] [gm 15 1, gn (.bin 16 .gtr (.t 15) (ci 0))] [15])
 (.cond (.t 16) (.reg [] [gm 17 0, gm 18 0, gn (.cap 19 (.t 18)), gn (.slc 20 (.t 17) none (some (.t 19))), gm 21 1, gn (.apz 22 (.t 20) (.agg [(.int .i64 0), (.int .i64 0), (.int .i64 0), (.int .i64 0)]) (.t 21)), gm 23 0, gk 24 23, gn (.slc 25 (.t 22) none (some (.t 24))), gm 0 25] [1,17,18,19,20,21,22,23,24,25])
 .skip)))
 (.seq (.reg [] [gm 26 0, gm 4 26] [0,26])
 .ret)))), [.t 4], none⟩
/- foliot/block.Ceil$1$1 -/
def k_block_Ceil_1_1 : KF := ⟨(.seq (.reg [] [gn (.box 2 (.t 0)), gn (.mv 3 (.c (.bool false)))] [0,3])
 (.seq (.reg [] [gf 4 2 0, gl 5 4, gn (.bin 6 .eql (.t 5) (ci 9)), gm 7 6, gh 7 (.fa 8 (.t 2) 1), gh 7 (.ld 9 (.t 8)), gh 7 (.ld 10 (.t 1)), gh 7 (.bin 11 .eql (.t 9) (.t 10)), gn (.pick 12 (.t 7) (.t 11) (.c (.bool false))), gm 3 12] [1,2,4,5,6,7,8,9,10,11,12])
 .ret)), [.t 3], none⟩
/- (*foliot/bound.sum).add -/
def k_bound_sum_add : KF := ⟨(.seq (.reg [] [gm 11 1, gm 12 2, gn (.dat 13 f_sat_Mul [(.t 11), (.t 12)]), gm 10 13, ge 14 10 0, ge 15 10 1, gm 6 14, gm 7 15] [1,2,10,11,12,13,14,15])
 (.seq (.reg [] [gm 17 0, gc 18 17, gf 19 18 0, gl 20 19, gm 21 6, gn (.dat 22 f_sat_Add [(.t 20), (.t 21)]), gm 16 22, ge 23 16 0, ge 24 16 1, gm 8 23, gm 9 24] [6,16,17,18,19,20,21,22,23,24])
 (.reg [] [gm 25 0, gm 26 0, gm 27 8, gm 28 0, gc 29 28, gf 30 29 1, gl 31 30, gm 32 31, jm 32 33 7, gj 32 (.un 34 .not (.t 33)), gn (.pick 35 (.t 32) (.c (.bool true)) (.t 34)), gm 36 35, jm 36 37 9, gj 36 (.un 38 .not (.t 37)), gn (.pick 39 (.t 36) (.c (.bool true)) (.t 38)), gc 40 25, gf 41 40 0, gs 41 27, gc 42 26, gf 43 42 1, gs 43 39] [0,7,8,9,25,26,27,28,29,30,31,32,33,34,35,36,37,38,39,40,41,42,43]))), [], none⟩
/- foliot/bound.often -/
def k_bound_often : KF := ⟨(.seq (.reg [] [gn (.mv 4 (ci 0))] [4])
 (.seq (.reg [] [gm 8 0, gm 9 1, gn (.dat 10 f_sat_Up [(.t 8), (.t 9)]), gm 7 10, ge 11 7 0, ge 12 7 1, gm 5 11, gm 6 12] [0,1,6,7,8,9,10,11,12])
 (.seq (.reg [] [gm 13 5, gm 4 13] [5,13])
 .ret))), [.t 4], none⟩
/- foliot/sat.Up -/
def k_sat_Up : KF := ⟨(.seq (.reg [] [gn (.mv 4 (ci 0)), gn (.mv 5 (.c (.bool false)))] [4,5])
 (.seq (.seq (.reg [] [gm 7 1, gn (.bin 8 .lss (.t 7) (ci 1)), gm 9 8, jm 9 10 0, gj 9 (.bin 11 .lss (.t 10) (ci 0)), gn (.pick 12 (.t 9) (.c (.bool true)) (.t 11))] [7,8,9,10,11])
 (.cond (.t 12) (.seq (.reg [] [gn (.mv 4 (ci 0)), gn (.mv 5 (.c (.bool false)))] [])
 .ret)
 .skip))
 (.seq (.reg [] [gm 13 0, gm 14 1, gn (.bin 15 .quo (.t 13) (.t 14)), gm 6 15] [13,14,15])
 (.seq (.seq (.reg [] [gm 16 0, gm 17 1, gn (.bin 18 .rem (.t 16) (.t 17)), gn (.bin 19 .gtr (.t 18) (ci 0))] [0,1,16,17,18])
 (.cond (.t 19) (.reg [] [gm 20 6, gn (.bin 21 .add (.t 20) (ci 1)), gm 6 21] [20,21])
 .skip))
 (.seq (.reg [] [gm 22 6, gm 4 22, gn (.mv 5 (.c (.bool true)))] [6,22])
 .ret))))), [.t 4, .t 5], none⟩
/- (*foliot/call.asked).makes -/
def k_call_asked_makes : KF := ⟨(.seq (.reg [] [gn (.mkm 6), gn (.mu (.t 6) (ci 2) (ci 1)), gn (.mu (.t 6) (ci 3) (ci 2)), gn (.mu (.t 6) (ci 4) (ci 3)), gm 7 6, gm 2 7] [6,7])
 (.seq (.seq (.reg [] [gm 8 0, gc 9 8, gf 10 9 1, gf 11 10 0, gl 12 11, gn (.bin 13 .eql (.t 12) (ci 2)), gm 14 13, hm 14 15 0, gh 14 (.nck 16 (.t 15)), gh 14 (.fa 17 (.t 16) 0), gh 14 (.fa 18 (.t 17) 4), gh 14 (.ld 19 (.t 18)), gn (.pick 20 (.t 14) (.t 19) (.c (.bool false)))] [8,9,10,11,12,13,14,15,16,17,18,19])
 (.cond (.t 20) (.seq (.reg [] [gm 21 0, gc 22 21, gf 23 22 3, gf 24 23 0, gn (.st (.t 24) (ci 7))] [0,21,22,23,24])
 .ret)
 .skip))
 (.seq (.reg [(4,17), (10,17), (11,17), (12,17), (4,18), (10,18), (11,18), (12,18)] [gm 26 0, gc 27 26, gf 28 27 0, gf 29 28 8, gl 30 29, gm 31 2, gm 32 0, gc 33 32, gf 34 33 1, gf 35 34 0, gl 36 35, gn (.lk 37 (.t 31) (.t 36) (.int .i64 0) false), gn (.das 38 f_obj_Make [(.t 30), (.t 37)]), gm 25 38, ge 39 25 0, ge 40 25 1, ge 41 25 2, gn (.alc 3 (.d (.agg [(.agg [(.sl true []), (.sl true [])]), (.sl true [])]))), gn (.alc 4 (.d (.agg [(.int .i64 0), (.int .i64 0)]))), gs 3 39, gs 4 40, gm 5 41] [2,25,26,27,28,29,30,31,32,33,34,35,36,37,38,39,40,41])
 (.seq (.seq (.reg [] [gm 42 5, gn (.un 43 .not (.t 42))] [5,42])
 (.cond (.t 43) (.seq (.reg [] [gm 44 0, gc 45 44, gf 46 45 3, gf 47 46 0, gn (.st (.t 47) (ci 4))] [0,44,45,46,47])
 .ret)
 .skip))
 (.reg [(3,7)] [gm 48 0, gm 49 0, gl 50 3, gl 51 4, gc 52 48, gf 53 52 0, gf 54 53 8, gs 54 50, gc 55 49, gf 56 55 3, gf 57 56 1, gs 57 51] [0,3,4,48,49,50,51,52,53,54,55,56,57]))))), [], none⟩
/- foliot/obj.Make -/
def k_obj_Make_L0b : K := (.seq (.reg [] [gn (.bin 23 .lss (.t 22) (.t 21))] [])
 (.seq (.cond (.t 23) .skip
 (.ext 0))
 (.seq (.blk 1 (.seq (.reg [] [ga 24 20 22, gl 25 24, gn (.alc 11 (.d (.agg [(.int .i64 0), (.agg [(.int .i64 0), (.int .i64 0)]), (.agg [(.int .i64 0), (.int .i64 0)]), (.agg [(.sl true []), (.sl true [])]), (.agg [(.int .u32 0), (.sl true [])]), (.int .u32 0)]))), gs 11 25] [24,25])
 (.seq (.reg [] [gf 26 11 0, gl 27 26, gm 28 1, gn (.bin 29 .eql (.t 27) (.t 28))] [11,26,27,28])
 (.cond (.t 29) (.reg [] [gm 30 9, gn (.bin 31 .add (.t 30) (ci 1)), gm 9 31] [30,31])
 .skip))))
 (.reg [] [gn (.bin 32 .add (.t 22) (ci 1)), gm 22 32] [32]))))
def k_obj_Make_L0 : K := k_obj_Make_L0b
def k_obj_Make : KF := ⟨(.seq (.reg [] [gn (.box 2 (.t 0)), gn (.alc 4 (.d (.agg [(.agg [(.sl true []), (.sl true [])]), (.sl true [])]))), gn (.alc 5 (.d (.agg [(.int .i64 0), (.int .i64 0)]))), gn (.mv 6 (.c (.bool false)))] [0,6])
 (.seq (.reg [] [gn (.mkm 15), gn (.mu (.t 15) (ci 1) (ci 4)), gn (.mu (.t 15) (ci 2) (ci 4)), gn (.mu (.t 15) (ci 3) (ci 4)), gm 16 15, gm 7 16] [15,16])
 (.seq (.reg [] [gl 17 2, gn (.dat 18 f_obj_twin [(.t 17)]), gn (.alc 8 (.d (.agg [(.agg [(.sl true []), (.sl true [])]), (.sl true [])]))), gs 8 18, gn (.mv 9 (ci 0))] [17,18])
 (.seq (.seq (.reg [] [gf 19 2 1, gl 20 19, gk 21 20, gn (.mv 22 (ci 0))] [2,19])
 (.blk 0 (.loop [1,4,5,7,8,9,20,21,22] k_obj_Make_L0)))
 (.seq (.reg [] [gf 34 8 0, gl 35 34, gn (.dat 36 f_slots_Take [(.t 35)]), gm 33 36, ge 37 33 0, ge 38 33 1, ge 39 33 2, gn (.alc 12 (.d (.agg [(.sl true []), (.sl true [])]))), gn (.alc 13 (.d (.agg [(.int .i64 0), (.int .i64 0)]))), gs 12 37, gs 13 38, gm 14 39] [33,34,35,36,37,38,39])
 (.seq (.seq (.reg [] [gm 40 9, gm 41 7, gm 42 1, gn (.lk 43 (.t 41) (.t 42) (.int .i64 0) false), gn (.bin 44 .geq (.t 40) (.t 43)), gm 45 44, jm 45 46 14, gj 45 (.un 47 .not (.t 46)), gn (.pick 48 (.t 45) (.c (.bool true)) (.t 47)), gm 49 48, gj 49 (.fa 50 (.t 13) 0), gj 49 (.ld 51 (.t 50)), gj 49 (.fa 52 (.t 8) 1), gj 49 (.ld 53 (.t 52)), gj 49 (.len 54 (.t 53)), gj 49 (.bin 55 .geq (.t 51) (.t 54)), gn (.pick 56 (.t 49) (.c (.bool true)) (.t 55))] [7,9,14,40,41,42,43,44,45,46,47,48,49,50,51,52,53,54,55])
 (.cond (.t 56) (.seq (.reg [] [gl 57 8, gn (.bld 58 [(ci 0), (ci 0)]), gs 4 57, gs 5 58, gn (.mv 6 (.c (.bool false)))] [8,57,58])
 .ret)
 .skip))
 (.seq (.reg [] [gl 59 12, gf 60 8 0, gs 60 59] [12,59,60])
 (.seq (.reg [(1,6), (3,6), (1,7), (3,7)] [gf 61 8 1, gl 62 61, gf 63 13 0, gl 64 63, gm 65 1, gl 66 13, gn (.dat 67 f_obj_fresh [(.t 65), (.t 66)]), gn (.dat 68 f_obj_sealed [(.t 67)]), ga 69 62 64, gs 69 68] [1,61,62,63,64,65,66,67,68,69])
 (.seq (.reg [(1,2)] [gl 70 8, gl 71 13, gs 4 70, gs 5 71, gn (.mv 6 (.c (.bool true)))] [8,13,70,71])
 .ret))))))))), [.cell 4, .cell 5, .t 6], none⟩
/- foliot/obj.twin -/
def k_obj_twin_L0b : K := (.seq (.reg [] [gn (.bin 20 .lss (.t 19) (.t 18))] [])
 (.seq (.cond (.t 20) .skip
 (.ext 0))
 (.seq (.blk 1 (.seq (.reg [] [ga 21 17 19, gl 22 21, gn (.alc 5 (.d (.agg [(.int .i64 0), (.agg [(.int .i64 0), (.int .i64 0)]), (.agg [(.int .i64 0), (.int .i64 0)]), (.agg [(.sl true []), (.sl true [])]), (.agg [(.int .u32 0), (.sl true [])]), (.int .u32 0)]))), gs 5 22] [21,22])
 (.reg [(1,3), (1,4)] [gf 23 3 1, gl 24 23, gl 25 5, gn (.dat 26 f_obj_mine [(.t 25)]), gn (.bsl 27 [(.t 26)]), gp 28 24 27, gf 29 3 1, gs 29 28] [5,23,24,25,26,27,28,29])))
 (.reg [] [gn (.bin 30 .add (.t 19) (ci 1)), gm 19 30] [30]))))
def k_obj_twin_L0 : K := k_obj_twin_L0b
def k_obj_twin : KF := ⟨(.seq (.reg [] [gn (.box 1 (.t 0)), gn (.alc 2 (.d (.agg [(.agg [(.sl true []), (.sl true [])]), (.sl true [])])))] [0])
 (.seq (.reg [(3,6), (2,10), (3,10), (6,10), (7,10)] [gf 6 1 0, gf 7 6 0, gl 8 7, gn (.dat 9 f_slices_Clone_int_int [(.t 8)]), gf 10 1 0, gf 11 10 1, gl 12 11, gn (.dat 13 f_slices_Clone_bool_bool [(.t 12)]), gn (.bld 14 [(.t 9), (.t 13)]), gn (.bld 15 [(.t 14), (.c (.d (.sl true [])))]), gn (.alc 3 (.d (.agg [(.agg [(.sl true []), (.sl true [])]), (.sl true [])]))), gs 3 15] [6,7,8,9,10,11,12,13,14,15])
 (.seq (.seq (.reg [] [gf 16 1 1, gl 17 16, gk 18 17, gn (.mv 19 (ci 0))] [1,16])
 (.blk 0 (.loop [2,3,17,18,19] k_obj_twin_L0)))
 (.seq (.reg [] [gl 31 3, gs 2 31] [3,31])
 .ret)))), [.cell 2], none⟩
/- slices.Clone[[]int,int] -/
def k_slices_Clone_int_int : KF := ⟨(.seq (.reg [] [gn (.mv 2 (.c (.d (.sl true []))))] [2])
 (.seq (.seq (.reg [] [gm 3 0, gn (.bin 4 .eql (.t 3) (.c (.d (.sl true []))))] [3])
 (.cond (.t 4) (.seq (.reg [] [gn (.mv 2 (.c (.d (.sl true []))))] [])
 .ret)
 .skip))
 (.seq (.reg [] [gn (.bsl 5 []), gm 6 0, gp 7 5 6, gm 2 7] [0,5,6,7])
 .ret))), [.t 2], none⟩
/- slices.Clone[[]bool,bool] -/
def k_slices_Clone_bool_bool : KF := ⟨(.seq (.reg [] [gn (.mv 2 (.c (.d (.sl true []))))] [2])
 (.seq (.seq (.reg [] [gm 3 0, gn (.bin 4 .eql (.t 3) (.c (.d (.sl true []))))] [3])
 (.cond (.t 4) (.seq (.reg [] [gn (.mv 2 (.c (.d (.sl true []))))] [])
 .ret)
 .skip))
 (.seq (.reg [] [gn (.bsl 5 []), gm 6 0, gp 7 5 6, gm 2 7] [0,5,6,7])
 .ret))), [.t 2], none⟩
/- foliot/obj.mine -/
def k_obj_mine : KF := ⟨(.seq (.reg [] [gn (.box 1 (.t 0)), gn (.alc 2 (.d (.agg [(.int .i64 0), (.agg [(.int .i64 0), (.int .i64 0)]), (.agg [(.int .i64 0), (.int .i64 0)]), (.agg [(.sl true []), (.sl true [])]), (.agg [(.int .u32 0), (.sl true [])]), (.int .u32 0)])))] [0])
 (.seq (.reg [(3,6)] [gf 3 1 3, gf 4 3 0, gl 5 4, gn (.dat 6 f_slices_Clone_int64_int64 [(.t 5)]), gf 7 1 3, gf 8 7 1, gl 9 8, gn (.dat 10 f_slices_Clone_int_int [(.t 9)]), gn (.bld 11 [(.t 6), (.t 10)]), gf 12 1 3, gs 12 11] [3,4,5,6,7,8,9,10,11,12])
 (.seq (.reg [] [gf 13 1 4, gf 14 13 1, gl 15 14, gn (.dat 16 f_slices_Clone_api_Waiter_api_Waiter [(.t 15)]), gf 17 1 4, gf 18 17 1, gs 18 16] [13,14,15,16,17,18])
 (.seq (.reg [] [gl 19 1, gs 2 19] [1,19])
 .ret)))), [.cell 2], none⟩
/- slices.Clone[[]int64,int64] -/
def k_slices_Clone_int64_int64 : KF := ⟨(.seq (.reg [] [gn (.mv 2 (.c (.d (.sl true []))))] [2])
 (.seq (.seq (.reg [] [gm 3 0, gn (.bin 4 .eql (.t 3) (.c (.d (.sl true []))))] [3])
 (.cond (.t 4) (.seq (.reg [] [gn (.mv 2 (.c (.d (.sl true []))))] [])
 .ret)
 .skip))
 (.seq (.reg [] [gn (.bsl 5 []), gm 6 0, gp 7 5 6, gm 2 7] [0,5,6,7])
 .ret))), [.t 2], none⟩
/- slices.Clone[[]foliot/api.Waiter,foliot/api.Waiter] -/
def k_slices_Clone_api_Waiter_api_Waiter : KF := ⟨(.seq (.reg [] [gn (.mv 2 (.c (.d (.sl true []))))] [2])
 (.seq (.seq (.reg [] [gm 3 0, gn (.bin 4 .eql (.t 3) (.c (.d (.sl true []))))] [3])
 (.cond (.t 4) (.seq (.reg [] [gn (.mv 2 (.c (.d (.sl true []))))] [])
 .ret)
 .skip))
 (.seq (.reg [] [gn (.bsl 5 []), gm 6 0, gp 7 5 6, gm 2 7] [0,5,6,7])
 .ret))), [.t 2], none⟩
/- foliot/slots.Take -/
def k_slots_Take : KF := ⟨(.seq (.reg [] [gn (.box 1 (.t 0)), gn (.alc 2 (.d (.agg [(.sl true []), (.sl true [])]))), gn (.alc 3 (.d (.agg [(.int .i64 0), (.int .i64 0)]))), gn (.mv 4 (.c (.bool false)))] [0,4])
 (.seq (.reg [] [gl 6 1, gn (.dat 7 f_slots_twin [(.t 6)]), gs 1 7] [6,7])
 (.seq (.reg [(1,3)] [gf 8 1 1, gl 9 8, gl 10 1, gn (.dat 11 f_slots_places [(.t 10)]), gn (.slc 12 (.t 9) none (some (.t 11))), gn (.dat 13 f_slices_Index_bool_bool [(.t 12), (.c (.bool false))]), gm 5 13] [8,9,10,11,12,13])
 (.seq (.seq (.reg [] [gm 14 5, gn (.bin 15 .lss (.t 14) (ci 0))] [14])
 (.cond (.t 15) (.seq (.reg [] [gl 16 1, gn (.bld 17 [(ci 0), (ci 0)]), gs 2 16, gs 3 17, gn (.mv 4 (.c (.bool false)))] [1,16,17])
 .ret)
 .skip))
 (.seq (.reg [] [gf 18 1 0, gl 19 18, gm 20 5, ga 21 19 20, gl 22 21, gn (.bin 23 .add (.t 22) (ci 1)), ga 24 19 20, gs 24 23] [18,19,20,21,22,23,24])
 (.seq (.reg [] [gf 25 1 1, gl 26 25, gm 27 5, ga 28 26 27, gn (.st (.t 28) (.c (.bool true)))] [25,26,27,28])
 (.seq (.reg [(3,8), (5,8), (6,8)] [gl 29 1, gm 30 5, gf 31 1 0, gl 32 31, gm 33 5, ga 34 32 33, gl 35 34, gn (.bld 36 [(.t 30), (.t 35)]), gs 2 29, gs 3 36, gn (.mv 4 (.c (.bool true)))] [1,5,29,30,31,32,33,34,35,36])
 .ret))))))), [.cell 2, .cell 3, .t 4], none⟩
/- foliot/slots.twin -/
def k_slots_twin : KF := ⟨(.seq (.reg [] [gn (.box 1 (.t 0)), gn (.alc 2 (.d (.agg [(.sl true []), (.sl true [])])))] [0])
 (.seq (.reg [(2,4)] [gf 3 1 0, gl 4 3, gn (.dat 5 f_slices_Clone_int_int [(.t 4)]), gf 6 1 1, gl 7 6, gn (.dat 8 f_slices_Clone_bool_bool [(.t 7)]), gn (.bld 9 [(.t 5), (.t 8)]), gs 2 9] [1,3,4,5,6,7,8,9])
 .ret)), [.cell 2], none⟩
/- foliot/slots.places -/
def k_slots_places : KF := ⟨(.seq (.reg [] [gn (.box 1 (.t 0)), gn (.mv 2 (ci 0))] [0,2])
 (.seq (.reg [] [gf 3 1 0, gl 4 3, gk 5 4, gf 6 1 1, gl 7 6, gk 8 7, gn (.mn 9 [(.t 5), (.t 8)]), gm 2 9] [1,3,4,5,6,7,8,9])
 .ret)), [.t 2], none⟩
/- slices.Index[[]bool,bool] -/
def k_slices_Index_bool_bool_L0b : K := (.seq (.reg [] [gn (.bin 9 .lss (.t 8) (.t 7))] [])
 (.seq (.cond (.t 9) .skip
 (.ext 0))
 (.seq (.blk 1 (.seq (.reg [] [gm 10 8, gm 5 10] [10])
 (.seq (.reg [] [gm 11 1, gm 12 0, gm 13 5, ga 14 12 13, gl 15 14, gn (.bin 16 .eql (.t 11) (.t 15))] [11,12,13,14,15])
 (.cond (.t 16) (.seq (.reg [] [gm 17 5, gm 4 17] [5,17])
 .ret)
 .skip))))
 (.reg [] [gn (.bin 18 .add (.t 8) (ci 1)), gm 8 18] [18]))))
def k_slices_Index_bool_bool_L0 : K := k_slices_Index_bool_bool_L0b
def k_slices_Index_bool_bool : KF := ⟨(.seq (.reg [] [gn (.mv 4 (ci 0))] [4])
 (.seq (.seq (.reg [] [gm 6 0, gk 7 6, gn (.mv 8 (ci 0))] [6])
 (.blk 0 (.loop [0,1,7,8] k_slices_Index_bool_bool_L0)))
 (.seq (.reg [] [gn (.mv 4 (ci (-1)))] [])
 .ret))), [.t 4], none⟩
/- foliot/obj.fresh -/
def k_obj_fresh : KF := ⟨(.seq (.reg [] [gn (.box 3 (.t 1)), gn (.alc 4 (.d (.agg [(.int .i64 0), (.agg [(.int .i64 0), (.int .i64 0)]), (.agg [(.int .i64 0), (.int .i64 0)]), (.agg [(.sl true []), (.sl true [])]), (.agg [(.int .u32 0), (.sl true [])]), (.int .u32 0)])))] [1])
 (.seq (.reg [] [gm 6 0, gl 7 3, gn (.bld 8 [(.t 6), (.t 7), (.c (.d (.agg [(.int .i64 0), (.int .i64 0)]))), (.c (.d (.agg [(.sl true []), (.sl true [])]))), (.c (.d (.agg [(.int .u32 0), (.sl true [])]))), (.c (.int .u32 0))]), gn (.alc 5 (.d (.agg [(.int .i64 0), (.agg [(.int .i64 0), (.int .i64 0)]), (.agg [(.int .i64 0), (.int .i64 0)]), (.agg [(.sl true []), (.sl true [])]), (.agg [(.int .u32 0), (.sl true [])]), (.int .u32 0)]))), gs 5 8] [3,6,7,8])
 (.seq (.seq (.reg [] [gm 9 0, gn (.bin 10 .eql (.t 9) (ci 1))] [0,9])
 (.cond (.t 10) (.reg [] [gf 11 5 2, gf 12 11 0, gn (.st (.t 12) (ci 8))] [11,12])
 .skip))
 (.seq (.reg [] [gl 13 5, gs 4 13] [5,13])
 .ret)))), [.cell 4], none⟩
/- foliot/obj.sealed -/
def k_obj_sealed : KF := ⟨(.seq (.reg [] [gn (.box 1 (.t 0)), gn (.alc 2 (.d (.agg [(.int .i64 0), (.agg [(.int .i64 0), (.int .i64 0)]), (.agg [(.int .i64 0), (.int .i64 0)]), (.agg [(.sl true []), (.sl true [])]), (.agg [(.int .u32 0), (.sl true [])]), (.int .u32 0)])))] [0])
 (.seq (.reg [] [gl 3 1, gn (.dat 4 f_obj_sum [(.t 3)]), gf 5 1 5, gs 5 4] [3,4,5])
 (.seq (.reg [] [gl 6 1, gs 2 6] [1,6])
 .ret))), [.cell 2], none⟩
/- foliot/obj.sum -/
def k_obj_sum_L0b : K := (.seq (.reg [] [gn (.bin 44 .lss (.t 43) (.t 42))] [])
 (.seq (.cond (.t 44) .skip
 (.ext 0))
 (.seq (.blk 1 (.seq (.reg [] [ga 45 41 43, gl 46 45, gm 5 46] [45,46])
 (.reg [] [gm 47 3, gm 48 5, gn (.bsl 49 [(.t 48)]), gp 50 47 49, gm 3 50] [5,47,48,49,50])))
 (.reg [] [gn (.bin 51 .add (.t 43) (ci 1)), gm 43 51] [51]))))
def k_obj_sum_L0 : K := k_obj_sum_L0b
def k_obj_sum_L1b : K := (.seq (.reg [] [gn (.bin 64 .lss (.t 63) (.t 62))] [])
 (.seq (.cond (.t 64) .skip
 (.ext 2))
 (.seq (.blk 3 (.seq (.reg [] [ga 65 61 63, gl 66 65, gn (.alc 7 (.d (.agg [(.int .i64 0), (.int .u32 0)]))), gs 7 66] [65,66])
 (.reg [] [gm 67 3, gf 68 7 0, gl 69 68, gf 70 7 1, gl 71 70, gn (.cv 72 .i64 (.t 71)), gn (.bsl 73 [(.t 69), (.t 72)]), gp 74 67 73, gm 3 74] [7,67,68,69,70,71,72,73,74])))
 (.reg [] [gn (.bin 75 .add (.t 63) (ci 1)), gm 63 75] [75]))))
def k_obj_sum_L1 : K := k_obj_sum_L1b
def k_obj_sum : KF := ⟨(.seq (.reg [] [gn (.box 1 (.t 0)), gn (.mv 2 (.c (.int .u32 0)))] [0,2])
 (.seq (.reg [] [gf 8 1 0, gl 9 8, gf 10 1 1, gf 11 10 0, gl 12 11, gf 13 1 1, gf 14 13 1, gl 15 14, gf 16 1 2, gf 17 16 0, gl 18 17, gf 19 1 2, gf 20 19 1, gl 21 20, gf 22 1 3, gf 23 22 0, gl 24 23, gk 25 24, gn (.bsl 26 [(.t 9), (.t 12), (.t 15), (.t 18), (.t 21), (.t 25)]), gm 3 26] [8,9,10,11,12,13,14,15,16,17,18,19,20,21,22,23,24,25,26])
 (.seq (.reg [] [gm 27 3, gf 28 1 3, gf 29 28 0, gl 30 29, gp 31 27 30, gm 3 31] [27,28,29,30,31])
 (.seq (.reg [] [gm 32 3, gf 33 1 3, gf 34 33 1, gl 35 34, gk 36 35, gn (.bsl 37 [(.t 36)]), gp 38 32 37, gm 3 38] [32,33,34,35,36,37,38])
 (.seq (.seq (.reg [] [gf 39 1 3, gf 40 39 1, gl 41 40, gk 42 41, gn (.mv 43 (ci 0))] [39,40])
 (.blk 0 (.loop [1,3,41,42,43] k_obj_sum_L0)))
 (.seq (.reg [] [gm 52 3, gf 53 1 4, gf 54 53 0, gl 55 54, gn (.cv 56 .i64 (.t 55)), gn (.bsl 57 [(.t 56)]), gp 58 52 57, gm 3 58] [52,53,54,55,56,57,58])
 (.seq (.seq (.reg [] [gf 59 1 4, gf 60 59 1, gl 61 60, gk 62 61, gn (.mv 63 (ci 0))] [1,59,60])
 (.blk 2 (.loop [3,61,62,63] k_obj_sum_L1)))
 (.seq (.reg [] [gm 76 3, gn (.dat 77 f_seal_Sum [(.t 76)]), gm 2 77] [3,76,77])
 .ret)))))))), [.t 2], none⟩
/- foliot/seal.Sum -/
def k_seal_Sum_L1b : K := (.seq (.seq (.reg [] [gm 16 7, gn (.bin 17 .lss (.t 16) (ci 8))] [16])
 (.cond (.t 17) .skip
 (.ext 2)))
 (.seq (.blk 3 (.seq (.reg [] [gm 20 3, gn (.bin 21 .shl (.t 20) (.c (.int .u64 5))), gm 22 3, gn (.bin 23 .shr (.t 22) (.c (.int .u64 27))), gn (.bin 24 .or (.t 21) (.t 23)), gm 3 24] [20,21,22,23,24])
 (.seq (.reg [] [gm 25 3, gm 26 6, gn (.cv 27 .u8 (.t 26)), gn (.cv 28 .u32 (.t 27)), gn (.bin 29 .xor (.t 25) (.t 28)), gm 3 29] [25,26,27,28,29])
 (.reg [] [gm 30 6, gn (.bin 31 .shr (.t 30) (.c (.int .u64 8))), gm 6 31] [30,31]))))
 (.reg [] [gm 18 7, gn (.bin 19 .add (.t 18) (ci 1)), gm 7 19] [18,19])))
def k_seal_Sum_L1 : K := k_seal_Sum_L1b
def k_seal_Sum_L0b : K := (.seq (.reg [] [gn (.bin 11 .lss (.t 10) (.t 9))] [])
 (.seq (.cond (.t 11) .skip
 (.ext 0))
 (.seq (.blk 1 (.seq (.reg [] [ga 12 8 10, gl 13 12, gm 5 13] [12,13])
 (.seq (.reg [] [gm 14 5, gn (.cv 15 .u64 (.t 14)), gm 6 15, gn (.mv 7 (ci 0))] [5,14,15])
 (.blk 2 (.loop [3,6,7,8,9,10] k_seal_Sum_L1)))))
 (.reg [] [gn (.bin 32 .add (.t 10) (ci 1)), gm 10 32] [32]))))
def k_seal_Sum_L0 : K := k_seal_Sum_L0b
def k_seal_Sum : KF := ⟨(.seq (.reg [] [gn (.mv 2 (.c (.int .u32 0)))] [2])
 (.seq (.reg [] [gn (.mv 3 (.c (.int .u32 2166136261)))] [])
 (.seq (.seq (.reg [] [gm 8 0, gk 9 8, gn (.mv 10 (ci 0))] [0])
 (.blk 0 (.loop [3,8,9,10] k_seal_Sum_L0)))
 (.seq (.reg [] [gm 33 3, gm 2 33] [3,33])
 .ret)))), [.t 2], none⟩
/- (*foliot/call.asked).start -/
def k_call_asked_start : KF := ⟨(.seq (.reg [] [gm 5 0, gc 6 5, gf 7 6 0, gl 8 7, gn (.das 9 f_kern_Start [(.t 8)]), gm 4 9, ge 10 4 0, ge 11 4 1, gn (.alc 2 (.d (.agg [(.int .i64 0), (.int .i64 0), (.sl true []), (.sl true []), (.bool false), (.bool false), (.bool false), (.sl true []), (.agg [(.agg [(.sl true []), (.sl true [])]), (.sl true [])]), (.agg [(.sl true []), (.sl true [])])]))), gs 2 10, gm 3 11] [4,5,6,7,8,9,10,11])
 (.seq (.reg [] [gm 12 0, gm 13 3, gc 14 12, gf 15 14 3, gf 16 15 0, gs 16 13] [12,13,14,15,16])
 (.seq (.reg [] [gm 17 3, gn (.bin 18 .eql (.t 17) (ci 0))] [3,17])
 (.cond (.t 18) (.seq (.reg [] [gm 19 0, gl 20 2, gc 21 19, gf 22 21 0, gs 22 20] [19,20,21,22])
 (.reg [] [gm 23 0, gf 24 2 2, gl 25 24, gk 26 25, gn (.das 27 f_watch_New [(.t 26)]), gc 28 23, gf 29 28 0, gf 30 29 9, gs 30 27] [0,2,23,24,25,26,27,28,29,30]))
 .skip)))), [], none⟩
/- foliot/kern.Start -/
def k_kern_Start_L0b : K := (.seq (.reg [] [gn (.bin 19 .lss (.t 18) (.t 17))] [])
 (.seq (.cond (.t 19) .skip
 (.ext 0))
 (.seq (.blk 1 (.seq (.reg [] [ga 20 16 18, gl 21 20, gn (.alc 6 (.d (.agg [(.int .i64 0), (.int .i64 0), (.int .i64 0), (.sl true []), (.sl true []), (.sl true [])]))), gs 6 21] [20,21])
 (.seq (.reg [] [gf 22 6 3, gl 23 22, gf 24 6 4, gl 25 24, gn (.bsl 26 [(.t 23), (.t 25)]), gn (.dat 27 f_slices_Concat_api_Inst_api_Inst [(.t 26)]), gn (.mkf 28 f_kern_Start_1 [] [(.t 4)]), gn (.cal 29 f_slices_ContainsFunc_api_Inst_api_Inst [(.t 27), (.t 28)] [])] [6,22,23,24,25,26,27,28])
 (.cond (.t 29) (.seq (.reg [] [gl 30 1, gs 2 30, gn (.mv 3 (ci 4))] [1,30])
 .ret)
 .skip))))
 (.reg [] [gn (.bin 31 .add (.t 18) (ci 1)), gm 18 31] [31]))))
def k_kern_Start_L0 : K := k_kern_Start_L0b
def k_kern_Start_L1b : K := (.seq (.reg [] [gn (.bin 35 .lss (.t 34) (.t 33))] [])
 (.seq (.cond (.t 35) .skip
 (.ext 2))
 (.seq (.blk 3 (.seq (.reg [] [gm 36 34, gm 7 36] [36])
 (.reg [(0,5)] [gl 37 4, gm 38 7, gf 39 1 2, gl 40 39, gm 41 7, gn (.dat 42 f_block_Ceil [(.t 40), (.t 41)]), ga 43 37 38, gf 44 43 0, gs 44 42] [7,37,38,39,40,41,42,43,44])))
 (.reg [] [gn (.bin 45 .add (.t 34) (ci 1)), gm 34 45] [45]))))
def k_kern_Start_L1 : K := k_kern_Start_L1b
def k_kern_Start : KF := ⟨(.seq (.reg [] [gn (.box 1 (.t 0)), gn (.alc 2 (.d (.agg [(.int .i64 0), (.int .i64 0), (.sl true []), (.sl true []), (.bool false), (.bool false), (.bool false), (.sl true []), (.agg [(.agg [(.sl true []), (.sl true [])]), (.sl true [])]), (.agg [(.sl true []), (.sl true [])])]))), gn (.mv 3 (ci 0))] [0,3])
 (.seq (.reg [] [gl 8 1, gn (.cal 9 f_kern_twin [(.t 8)] []), gs 1 9] [8,9])
 (.seq (.seq (.reg [] [gf 10 1 4, gl 11 10] [10])
 (.cond (.t 11) (.seq (.reg [] [gl 12 1, gs 2 12, gn (.mv 3 (ci 7))] [1,12])
 .ret)
 .skip))
 (.seq (.reg [] [gl 13 1, gn (.dat 14 f_kern_Locks [(.t 13)]), gn (.alc 4 (.d (.sl true []))), gs 4 14] [13,14])
 (.seq (.seq (.reg [] [gf 15 1 2, gl 16 15, gk 17 16, gn (.mv 18 (ci 0))] [15])
 (.blk 0 (.loop [1,2,4,16,17,18] k_kern_Start_L0)))
 (.seq (.seq (.reg [] [gl 32 4, gk 33 32, gn (.mv 34 (ci 0))] [32])
 (.blk 2 (.loop [1,2,4,33,34] k_kern_Start_L1)))
 (.seq (.reg [] [gl 46 4, gn (.cal 47 f_kern_Kernel_lock [(.t 1), (.t 46)] [])] [4,46,47])
 (.seq (.reg [] [gf 48 1 4, gn (.st (.t 48) (.c (.bool true)))] [48])
 (.seq (.reg [] [gl 49 1, gs 2 49, gn (.mv 3 (ci 0))] [1,49])
 .ret))))))))), [.cell 2, .t 3], none⟩
/- foliot/kern.twin -/
def k_kern_twin_L0b : K := (.seq (.reg [] [gn (.bin 23 .lss (.t 22) (.t 21))] [])
 (.seq (.cond (.t 23) .skip
 (.ext 0))
 (.seq (.blk 1 (.seq (.reg [] [gm 24 22, ga 25 20 22, gl 26 25, gn (.alc 4 (.d (.agg [(.int .i64 0), (.int .i64 0), (.int .i64 0), (.sl true []), (.sl true []), (.sl true [])]))), gm 3 24, gs 4 26] [24,25,26])
 (.reg [(1,11), (4,11), (7,11), (11,13), (1,14), (4,14), (7,14), (11,16), (14,16), (1,17), (4,17), (7,17), (4,20), (7,20), (7,23)] [gf 27 1 2, gl 28 27, gm 29 3, gf 30 1 2, gl 31 30, gm 32 3, gf 33 1 2, gl 34 33, gm 35 3, gf 36 4 3, gl 37 36, gn (.das 38 f_slices_Clone_api_Inst_api_Inst [(.t 37)]), gf 39 4 4, gl 40 39, gn (.das 41 f_slices_Clone_api_Inst_api_Inst [(.t 40)]), gf 42 4 5, gl 43 42, gn (.das 44 f_slices_Clone_api_Inst_api_Inst [(.t 43)]), ga 45 28 29, gf 46 45 3, gs 46 38, ga 47 31 32, gf 48 47 4, gs 48 41, ga 49 34 35, gf 50 49 5, gs 50 44] [3,4,27,28,29,30,31,32,33,34,35,36,37,38,39,40,41,42,43,44,45,46,47,48,49,50])))
 (.reg [] [gn (.bin 51 .add (.t 22) (ci 1)), gm 22 51] [51]))))
def k_kern_twin_L0 : K := k_kern_twin_L0b
def k_kern_twin_L1b : K := (.seq (.reg [] [gn (.bin 56 .lss (.t 55) (.t 54))] [])
 (.seq (.cond (.t 56) .skip
 (.ext 2))
 (.seq (.blk 3 (.seq (.reg [] [gm 57 55, ga 58 53 55, gl 59 58, gn (.alc 6 (.d (.agg [(.int .i64 0), (.int .i64 0), (.int .i64 0), (.int .i64 0), (.agg [(.int .i64 0), (.agg [(.int .i64 0), (.int .i64 0), (.int .i64 0), (.int .i64 0), (.int .i64 0), (.int .i64 0), (.int .i64 0), (.int .i64 0)]), (.sl true []), (.bool false)]), (.agg [(.int .i64 0), (.agg [(.int .i64 0), (.int .i64 0), (.int .i64 0), (.int .i64 0), (.int .i64 0), (.int .i64 0), (.int .i64 0), (.int .i64 0)]), (.sl true []), (.bool false)]), (.sl true []), (.bool false)]))), gm 5 57, gs 6 59] [57,58,59])
 (.reg [(1,4)] [gf 60 1 7, gl 61 60, gm 62 5, gl 63 6, gn (.das 64 f_fault_Loses [(.t 63), (ci (-1))]), ga 65 61 62, gs 65 64] [5,6,60,61,62,63,64,65])))
 (.reg [] [gn (.bin 66 .add (.t 55) (ci 1)), gm 55 66] [66]))))
def k_kern_twin_L1 : K := k_kern_twin_L1b
def k_kern_twin : KF := ⟨(.seq (.reg [] [gn (.box 1 (.t 0)), gn (.alc 2 (.d (.agg [(.int .i64 0), (.int .i64 0), (.sl true []), (.sl true []), (.bool false), (.bool false), (.bool false), (.sl true []), (.agg [(.agg [(.sl true []), (.sl true [])]), (.sl true [])]), (.agg [(.sl true []), (.sl true [])])])))] [0])
 (.seq (.reg [(2,4), (2,7), (5,7)] [gf 7 1 2, gl 8 7, gn (.dat 9 f_slices_Clone_api_Task_api_Task [(.t 8)]), gf 10 1 3, gl 11 10, gn (.das 12 f_slices_Clone_api_Bounds_api_Bounds [(.t 11)]), gf 13 1 7, gl 14 13, gn (.dat 15 f_slices_Clone_api_Job_api_Job [(.t 14)]), gf 16 1 2, gs 16 9, gf 17 1 3, gs 17 12, gf 18 1 7, gs 18 15] [7,8,9,10,11,12,13,14,15,16,17,18])
 (.seq (.seq (.reg [] [gf 19 1 2, gl 20 19, gk 21 20, gn (.mv 22 (ci 0))] [19])
 (.blk 0 (.loop [1,2,20,21,22] k_kern_twin_L0)))
 (.seq (.seq (.reg [] [gf 52 1 7, gl 53 52, gk 54 53, gn (.mv 55 (ci 0))] [52])
 (.blk 2 (.loop [1,2,53,54,55] k_kern_twin_L1)))
 (.seq (.reg [] [gf 67 1 8, gl 68 67, gn (.bld 69 [(ci 0), (.c (.d (.agg [(.int .i64 0), (.int .i64 0)]))), (.c (.d (.agg [(.int .i64 0), (.int .i64 0)]))), (.c (.d (.agg [(.sl true []), (.sl true [])]))), (.c (.d (.agg [(.int .u32 0), (.sl true [])]))), (.c (.int .u32 0))]), gn (.das 70 f_obj_Put [(.t 68), (ci (-1)), (.t 69)]), gf 71 1 8, gs 71 70] [67,68,69,70,71])
 (.seq (.reg [] [gf 72 1 9, gl 73 72, gn (.das 74 f_watch_Good [(.t 73), (ci (-1))]), gf 75 1 9, gs 75 74] [72,73,74,75])
 (.seq (.reg [] [gl 76 1, gs 2 76] [1,76])
 .ret))))))), [.cell 2], none⟩
/- slices.Clone[[]foliot/api.Task,foliot/api.Task] -/
def k_slices_Clone_api_Task_api_Task : KF := ⟨(.seq (.reg [] [gn (.mv 2 (.c (.d (.sl true []))))] [2])
 (.seq (.seq (.reg [] [gm 3 0, gn (.bin 4 .eql (.t 3) (.c (.d (.sl true []))))] [3])
 (.cond (.t 4) (.seq (.reg [] [gn (.mv 2 (.c (.d (.sl true []))))] [])
 .ret)
 .skip))
 (.seq (.reg [] [gn (.bsl 5 []), gm 6 0, gp 7 5 6, gm 2 7] [0,5,6,7])
 .ret))), [.t 2], none⟩
/- slices.Clone[[]foliot/api.Bounds,foliot/api.Bounds] -/
def k_slices_Clone_api_Bounds_api_Bounds : KF := ⟨(.seq (.reg [] [gn (.mv 2 (.c (.d (.sl true []))))] [2])
 (.seq (.seq (.reg [] [gm 3 0, gn (.bin 4 .eql (.t 3) (.c (.d (.sl true []))))] [3])
 (.cond (.t 4) (.seq (.reg [] [gn (.mv 2 (.c (.d (.sl true []))))] [])
 .ret)
 .skip))
 (.seq (.reg [] [gn (.bsl 5 []), gm 6 0, gp 7 5 6, gm 2 7] [0,5,6,7])
 .ret))), [.t 2], none⟩
/- slices.Clone[[]foliot/api.Job,foliot/api.Job] -/
def k_slices_Clone_api_Job_api_Job : KF := ⟨(.seq (.reg [] [gn (.mv 2 (.c (.d (.sl true []))))] [2])
 (.seq (.seq (.reg [] [gm 3 0, gn (.bin 4 .eql (.t 3) (.c (.d (.sl true []))))] [3])
 (.cond (.t 4) (.seq (.reg [] [gn (.mv 2 (.c (.d (.sl true []))))] [])
 .ret)
 .skip))
 (.seq (.reg [] [gn (.bsl 5 []), gm 6 0, gp 7 5 6, gm 2 7] [0,5,6,7])
 .ret))), [.t 2], none⟩
/- foliot/fault.Loses -/
def k_fault_Loses : KF := ⟨(.seq (.reg [] [gn (.box 2 (.t 0)), gn (.box 3 (.t 1)), gn (.alc 4 (.d (.agg [(.int .i64 0), (.int .i64 0), (.int .i64 0), (.int .i64 0), (.agg [(.int .i64 0), (.agg [(.int .i64 0), (.int .i64 0), (.int .i64 0), (.int .i64 0), (.int .i64 0), (.int .i64 0), (.int .i64 0), (.int .i64 0)]), (.sl true []), (.bool false)]), (.agg [(.int .i64 0), (.agg [(.int .i64 0), (.int .i64 0), (.int .i64 0), (.int .i64 0), (.int .i64 0), (.int .i64 0), (.int .i64 0), (.int .i64 0)]), (.sl true []), (.bool false)]), (.sl true []), (.bool false)])))] [0,1])
 (.seq (.reg [(3,6)] [gf 5 2 4, gf 6 5 2, gl 7 6, gn (.dat 8 f_slices_Clone_api_Rep2_api_Rep2 [(.t 7)]), gf 9 2 5, gf 10 9 2, gl 11 10, gn (.dat 12 f_slices_Clone_api_Rep2_api_Rep2 [(.t 11)]), gf 13 2 4, gf 14 13 2, gs 14 8, gf 15 2 5, gf 16 15 2, gs 16 12] [5,6,7,8,9,10,11,12,13,14,15,16])
 (.seq (.reg [] [gf 17 2 6, gl 18 17, gn (.dat 19 f_slices_Clone_int_int [(.t 18)]), gn (.mkf 20 f_fault_Loses_1 [] [(.t 3)]), gn (.cal 21 f_slices_DeleteFunc_int_int [(.t 19), (.t 20)] []), gf 22 2 6, gs 22 21] [3,17,18,19,20,21,22])
 (.seq (.reg [] [gl 23 2, gs 4 23] [2,23])
 .ret)))), [.cell 4], none⟩
/- slices.Clone[[]foliot/api.Rep2,foliot/api.Rep2] -/
def k_slices_Clone_api_Rep2_api_Rep2 : KF := ⟨(.seq (.reg [] [gn (.mv 2 (.c (.d (.sl true []))))] [2])
 (.seq (.seq (.reg [] [gm 3 0, gn (.bin 4 .eql (.t 3) (.c (.d (.sl true []))))] [3])
 (.cond (.t 4) (.seq (.reg [] [gn (.mv 2 (.c (.d (.sl true []))))] [])
 .ret)
 .skip))
 (.seq (.reg [] [gn (.bsl 5 []), gm 6 0, gp 7 5 6, gm 2 7] [0,5,6,7])
 .ret))), [.t 2], none⟩
/- foliot/fault.Loses$1 -/
def k_fault_Loses_1 : KF := ⟨(.seq (.reg [] [gn (.mv 3 (.c (.bool false)))] [3])
 (.seq (.reg [] [gm 4 0, gl 5 1, gn (.bin 6 .eql (.t 4) (.t 5)), gm 3 6] [0,1,4,5,6])
 .ret)), [.t 3], none⟩
/- slices.DeleteFunc[[]int,int] -/
def k_slices_DeleteFunc_int_int_L0b : K := (.seq (.seq (.reg [] [gm 16 6, gm 17 0, gk 18 17, gn (.bin 19 .lss (.t 16) (.t 18))] [16,17,18])
 (.cond (.t 19) .skip
 (.ext 0)))
 (.seq (.blk 1 (.seq (.reg [] [gm 22 0, gm 23 6, ga 24 22 23, gl 25 24, gm 7 25] [22,23,24,25])
 (.seq (.reg [] [gm 26 1, gm 27 7, gn (.cav 28 (.t 26) [(.t 27)]), gn (.un 29 .not (.t 28))] [26,27,28])
 (.cond (.t 29) (.seq (.reg [] [gm 30 0, gm 31 5, gm 32 7, ga 33 30 31, gs 33 32] [7,30,31,32,33])
 (.reg [] [gm 34 5, gn (.bin 35 .add (.t 34) (ci 1)), gm 5 35] [34,35]))
 .skip))))
 (.reg [] [gm 20 6, gn (.bin 21 .add (.t 20) (ci 1)), gm 6 21] [20,21])))
def k_slices_DeleteFunc_int_int_L0 : K := k_slices_DeleteFunc_int_int_L0b
def k_slices_DeleteFunc_int_int : KF := ⟨(.seq (.reg [] [gn (.mv 4 (.c (.d (.sl true []))))] [4])
 (.seq (.reg [] [gm 8 0, gm 9 1, gn (.cal 10 f_slices_IndexFunc_int_int [(.t 8), (.t 9)] []), gm 5 10] [8,9,10])
 (.seq (.seq (.reg [] [gm 11 5, gn (.bin 12 .eql (.t 11) (ci (-1)))] [11])
 (.cond (.t 12) (.seq (.reg [] [gm 13 0, gm 4 13] [0,13])
 .ret)
 .skip))
 (.seq (.seq (.reg [] [gm 14 5, gn (.bin 15 .add (.t 14) (ci 1)), gm 6 15] [14,15])
 (.blk 0 (.loop [0,1,5,6] k_slices_DeleteFunc_int_int_L0)))
 (.seq (.reg [] [gm 36 0, gm 37 5, gn (.slc 38 (.t 36) (some (.t 37)) none), gn (.clr (.int .i64 0) (.t 38))] [36,37,38])
 (.seq (.reg [] [gm 39 0, gm 40 5, gn (.slc 41 (.t 39) none (some (.t 40))), gm 4 41] [0,5,39,40,41])
 .ret)))))), [.t 4], none⟩
/- foliot/obj.Put -/
def k_obj_Put : KF := ⟨(.seq (.reg [] [gn (.box 3 (.t 0)), gn (.box 5 (.t 2)), gn (.alc 6 (.d (.agg [(.agg [(.sl true []), (.sl true [])]), (.sl true [])])))] [0,2])
 (.seq (.reg [] [gl 9 3, gn (.dat 10 f_obj_twin [(.t 9)]), gn (.alc 7 (.d (.agg [(.agg [(.sl true []), (.sl true [])]), (.sl true [])]))), gs 7 10] [9,10])
 (.seq (.seq (.reg [] [gl 11 3, gm 12 1, gn (.dat 13 f_obj_there [(.t 11), (.t 12)]), gn (.un 14 .not (.t 13))] [11,12,13])
 (.cond (.t 14) (.seq (.reg [] [gl 15 7, gs 6 15] [7,15])
 .ret)
 .skip))
 (.seq (.reg [] [gf 16 3 1, gl 17 16, gm 18 1, ga 19 17 18, gl 20 19, gn (.alc 8 (.d (.agg [(.int .i64 0), (.agg [(.int .i64 0), (.int .i64 0)]), (.agg [(.int .i64 0), (.int .i64 0)]), (.agg [(.sl true []), (.sl true [])]), (.agg [(.int .u32 0), (.sl true [])]), (.int .u32 0)]))), gs 8 20] [3,16,17,18,19,20])
 (.seq (.reg [(3,5)] [gf 21 8 0, gl 22 21, gf 23 8 1, gl 24 23, gf 25 5 0, gs 25 22, gf 26 5 1, gs 26 24] [21,22,23,24,25,26])
 (.seq (.reg [] [gl 27 5, gn (.dat 28 f_obj_mine [(.t 27)]), gn (.dat 29 f_obj_sealed [(.t 28)]), gs 5 29] [27,28,29])
 (.seq (.seq (.reg [(1,3)] [gf 30 8 5, gl 31 30, gl 32 8, gn (.dat 33 f_obj_sum [(.t 32)]), gn (.bin 34 .neq (.t 31) (.t 33))] [8,30,31,32,33])
 (.cond (.t 34) (.reg [] [gf 35 5 5, gl 36 35, gn (.un 37 .xor (.t 36)), gf 38 5 5, gs 38 37] [35,36,37,38])
 .skip))
 (.seq (.reg [] [gf 39 7 1, gl 40 39, gm 41 1, gl 42 5, ga 43 40 41, gs 43 42] [1,5,39,40,41,42,43])
 (.seq (.reg [] [gl 44 7, gs 6 44] [7,44])
 .ret))))))))), [.cell 6], none⟩
/- foliot/obj.there -/
def k_obj_there : KF := ⟨(.seq (.reg [] [gn (.box 2 (.t 0)), gn (.mv 4 (.c (.bool false)))] [0,4])
 (.seq (.reg [] [gm 5 1, gn (.bin 6 .geq (.t 5) (ci 0)), gm 7 6, hm 7 8 1, gh 7 (.fa 9 (.t 2) 1), gh 7 (.ld 10 (.t 9)), gh 7 (.len 11 (.t 10)), gh 7 (.bin 12 .lss (.t 8) (.t 11)), gn (.pick 13 (.t 7) (.t 12) (.c (.bool false))), gm 14 13, gh 14 (.fa 15 (.t 2) 1), gh 14 (.ld 16 (.t 15)), hm 14 17 1, gh 14 (.ia 18 (.t 16) (.t 17)), gh 14 (.fa 19 (.t 18) 0), gh 14 (.ld 20 (.t 19)), gh 14 (.bin 21 .neq (.t 20) (ci 0)), gn (.pick 22 (.t 14) (.t 21) (.c (.bool false))), gm 4 22] [1,2,5,6,7,8,9,10,11,12,13,14,15,16,17,18,19,20,21,22])
 .ret)), [.t 4], none⟩
/- foliot/watch.Good -/
def k_watch_Good : KF := ⟨(.seq (.reg [] [gn (.box 2 (.t 0)), gn (.alc 4 (.d (.agg [(.sl true []), (.sl true [])])))] [0])
 (.seq (.reg [] [gl 6 2, gn (.dat 7 f_watch_twin [(.t 6)]), gn (.alc 5 (.d (.agg [(.sl true []), (.sl true [])]))), gs 5 7] [2,6,7])
 (.seq (.seq (.reg [] [gm 8 1, gn (.bin 9 .geq (.t 8) (ci 0)), gm 10 9, hm 10 11 1, gh 10 (.fa 12 (.t 5) 0), gh 10 (.ld 13 (.t 12)), gh 10 (.len 14 (.t 13)), gh 10 (.bin 15 .lss (.t 11) (.t 14)), gn (.pick 16 (.t 10) (.t 15) (.c (.bool false)))] [8,9,10,11,12,13,14,15])
 (.cond (.t 16) (.reg [] [gf 17 5 0, gl 18 17, gm 19 1, ga 20 18 19, gn (.st (.t 20) (ci 0))] [1,17,18,19,20])
 .skip))
 (.seq (.reg [] [gl 21 5, gs 4 21] [5,21])
 .ret)))), [.cell 4], none⟩
/- foliot/watch.twin -/
def k_watch_twin : KF := ⟨(.seq (.reg [] [gn (.box 1 (.t 0)), gn (.alc 2 (.d (.agg [(.sl true []), (.sl true [])])))] [0])
 (.seq (.reg [(2,4)] [gf 3 1 0, gl 4 3, gn (.dat 5 f_slices_Clone_int_int [(.t 4)]), gf 6 1 1, gl 7 6, gn (.dat 8 f_slices_Clone_bool_bool [(.t 7)]), gn (.bld 9 [(.t 5), (.t 8)]), gs 2 9] [1,3,4,5,6,7,8,9])
 .ret)), [.cell 2], none⟩
/- foliot/kern.Locks -/
def k_kern_Locks_L0b : K := (.seq (.reg [] [gn (.bin 10 .lss (.t 9) (.t 8))] [])
 (.seq (.cond (.t 10) .skip
 (.ext 0))
 (.seq (.blk 1 (.seq (.reg [] [ga 11 7 9, gl 12 11, gm 4 12] [11,12])
 (.reg [] [gm 13 2, gf 14 1 8, gf 15 14 1, gl 16 15, gm 17 4, ga 18 16 17, gf 19 18 2, gl 20 19, gn (.bsl 21 [(.t 20)]), gp 22 13 21, gm 2 22] [4,13,14,15,16,17,18,19,20,21,22])))
 (.reg [] [gn (.bin 23 .add (.t 9) (ci 1)), gm 9 23] [23]))))
def k_kern_Locks_L0 : K := k_kern_Locks_L0b
def k_kern_Locks : KF := ⟨(.seq (.reg [] [gn (.box 1 (.t 0)), gn (.mv 2 (.c (.d (.sl true []))))] [0])
 (.seq (.seq (.reg [] [gf 5 1 8, gl 6 5, gn (.dat 7 f_obj_Semas [(.t 6)]), gk 8 7, gn (.mv 9 (ci 0))] [5,6])
 (.blk 0 (.loop [1,2,7,8,9] k_kern_Locks_L0)))
 (.seq (.reg [] [gm 24 2, gm 2 24] [24])
 .ret))), [.t 2], none⟩
/- foliot/obj.Semas -/
def k_obj_Semas_L0b : K := (.seq (.reg [] [gn (.bin 9 .lss (.t 8) (.t 7))] [])
 (.seq (.cond (.t 9) .skip
 (.ext 0))
 (.seq (.blk 1 (.seq (.reg [] [gm 10 8, ga 11 6 8, gl 12 11, gn (.alc 4 (.d (.agg [(.int .i64 0), (.agg [(.int .i64 0), (.int .i64 0)]), (.agg [(.int .i64 0), (.int .i64 0)]), (.agg [(.sl true []), (.sl true [])]), (.agg [(.int .u32 0), (.sl true [])]), (.int .u32 0)]))), gm 3 10, gs 4 12] [10,11,12])
 (.seq (.reg [] [gf 13 4 0, gl 14 13, gn (.bin 15 .eql (.t 14) (ci 1))] [4,13,14])
 (.cond (.t 15) (.reg [] [gm 16 2, gm 17 3, gn (.bsl 18 [(.t 17)]), gp 19 16 18, gm 2 19] [3,16,17,18,19])
 .skip))))
 (.reg [] [gn (.bin 20 .add (.t 8) (ci 1)), gm 8 20] [20]))))
def k_obj_Semas_L0 : K := k_obj_Semas_L0b
def k_obj_Semas : KF := ⟨(.seq (.reg [] [gn (.box 1 (.t 0)), gn (.mv 2 (.c (.d (.sl true []))))] [0])
 (.seq (.seq (.reg [] [gf 5 1 1, gl 6 5, gk 7 6, gn (.mv 8 (ci 0))] [1,5])
 (.blk 0 (.loop [2,6,7,8] k_obj_Semas_L0)))
 (.seq (.reg [] [gm 21 2, gm 2 21] [21])
 .ret))), [.t 2], none⟩
/- foliot/kern.Start$1 -/
def k_kern_Start_1 : KF := ⟨(.seq (.reg [] [gn (.box 2 (.t 0)), gn (.mv 3 (.c (.bool false)))] [0,3])
 (.seq (.reg [] [gf 4 2 0, gl 5 4, gn (.bin 6 .eql (.t 5) (ci 9)), gm 7 6, gh 7 (.fa 8 (.t 2) 1), gh 7 (.ld 9 (.t 8)), gh 7 (.ld 10 (.t 1)), gh 7 (.len 11 (.t 10)), gh 7 (.bin 12 .geq (.t 9) (.t 11)), gn (.pick 13 (.t 7) (.t 12) (.c (.bool false))), gm 3 13] [1,2,4,5,6,7,8,9,10,11,12,13])
 .ret)), [.t 3], none⟩
/- (*foliot/kern.Kernel).lock -/
def k_kern_Kernel_lock_L0b : K := (.seq (.reg [] [gn (.bin 14 .lss (.t 13) (.t 12))] [])
 (.seq (.cond (.t 14) .skip
 (.ext 0))
 (.seq (.blk 1 (.seq (.reg [] [gm 15 13, ga 16 11 13, gl 17 16, gm 4 15, gm 5 17] [15,16,17])
 (.seq (.reg [] [gm 18 0, gc 19 18, gf 20 19 8, gf 21 20 1, gl 22 21, gm 23 5, ga 24 22 23, gl 25 24, gn (.alc 6 (.d (.agg [(.int .i64 0), (.agg [(.int .i64 0), (.int .i64 0)]), (.agg [(.int .i64 0), (.int .i64 0)]), (.agg [(.sl true []), (.sl true [])]), (.agg [(.int .u32 0), (.sl true [])]), (.int .u32 0)]))), gs 6 25] [18,19,20,21,22,23,24,25])
 (.seq (.reg [] [gm 26 4, gm 27 1, gk 28 27, gn (.bin 29 .lss (.t 26) (.t 28)), gm 30 29, gh 30 (.fa 31 (.t 6) 2), gh 30 (.ld 32 (.t 31)), hm 30 33 1, hm 30 34 4, gh 30 (.ia 35 (.t 33) (.t 34)), gh 30 (.ld 36 (.t 35)), gh 30 (.bin 37 .neq (.t 32) (.t 36)), gn (.pick 38 (.t 30) (.t 37) (.c (.bool false)))] [26,27,28,29,30,31,32,33,34,35,36,37])
 (.cond (.t 38) (.seq (.reg [] [gm 39 1, gm 40 4, ga 41 39 40, gl 42 41, gf 43 6 2, gs 43 42] [4,39,40,41,42,43])
 (.reg [] [gm 44 0, gm 45 0, gc 46 45, gf 47 46 8, gl 48 47, gm 49 5, gl 50 6, gn (.das 51 f_obj_Put [(.t 48), (.t 49), (.t 50)]), gc 52 44, gf 53 52 8, gs 53 51] [5,6,44,45,46,47,48,49,50,51,52,53]))
 .skip)))))
 (.reg [] [gn (.bin 54 .add (.t 13) (ci 1)), gm 13 54] [54]))))
def k_kern_Kernel_lock_L0 : K := k_kern_Kernel_lock_L0b
def k_kern_Kernel_lock : KF := ⟨(.seq (.reg [] [gm 7 0, gc 8 7, gf 9 8 8, gl 10 9, gn (.dat 11 f_obj_Semas [(.t 10)]), gk 12 11, gn (.mv 13 (ci 0))] [7,8,9,10])
 (.blk 0 (.loop [0,1,11,12,13] k_kern_Kernel_lock_L0))), [], none⟩
/- (*foliot/call.asked).release -/
def k_call_asked_release : KF := ⟨(.reg [] [gm 3 0, gm 4 0, gm 5 0, gm 6 0, gc 7 6, gf 8 7 0, gl 9 8, gm 10 0, gc 11 10, gf 12 11 1, gf 13 12 3, gl 14 13, gm 15 0, gc 16 15, gf 17 16 1, gf 18 17 4, gl 19 18, gn (.das 20 f_kern_Release [(.t 9), (.t 14), (.t 19)]), gm 2 20, ge 21 2 0, ge 22 2 1, ge 23 2 2, gc 24 3, gf 25 24 0, gs 25 21, gc 26 4, gf 27 26 2, gs 27 22, gc 28 5, gf 29 28 3, gf 30 29 0, gs 30 23] [0,2,3,4,5,6,7,8,9,10,11,12,13,14,15,16,17,18,19,20,21,22,23,24,25,26,27,28,29,30]), [], none⟩
/- foliot/kern.Release -/
def k_kern_Release : KF := ⟨(.seq (.reg [] [gn (.box 3 (.t 0)), gn (.alc 6 (.d (.agg [(.int .i64 0), (.int .i64 0), (.sl true []), (.sl true []), (.bool false), (.bool false), (.bool false), (.sl true []), (.agg [(.agg [(.sl true []), (.sl true [])]), (.sl true [])]), (.agg [(.sl true []), (.sl true [])])]))), gn (.mv 7 (.c (.d (.sl true [])))), gn (.mv 8 (ci 0))] [0,7,8])
 (.seq (.reg [] [gl 12 3, gn (.cal 13 f_kern_twin [(.t 12)] []), gs 3 13] [12,13])
 (.seq (.blk 0 (.seq (.reg [] [gf 15 3 4, gl 16 15, gn (.un 17 .not (.t 16)), gm 14 17] [15,16,17])
 (.cond (.t 14) (.seq (.reg [] [gl 18 3, gs 6 18, gn (.mv 7 (.c (.d (.sl true [])))), gn (.mv 8 (ci 8))] [3,18])
 .ret)
 (.seq (.reg [] [gf 20 3 5, gl 21 20, gm 19 21] [20,21])
 (.cond (.t 19) (.seq (.reg [] [gl 22 3, gs 6 22, gn (.mv 7 (.c (.d (.sl true [])))), gn (.mv 8 (ci 17))] [3,22])
 .ret)
 (.seq (.reg [] [gm 24 1, gn (.bin 25 .lss (.t 24) (ci 0)), gm 26 25, jm 26 27 1, gj 26 (.fa 28 (.t 3) 2), gj 26 (.ld 29 (.t 28)), gj 26 (.len 30 (.t 29)), gj 26 (.bin 31 .geq (.t 27) (.t 30)), gn (.pick 32 (.t 26) (.c (.bool true)) (.t 31)), gm 23 32] [24,25,26,27,28,29,30,31,32])
 (.cond (.t 23) (.seq (.reg [] [gl 33 3, gs 6 33, gn (.mv 7 (.c (.d (.sl true [])))), gn (.mv 8 (ci 3))] [3,33])
 .ret)
 (.seq (.reg [] [gm 35 1, gf 36 3 9, gf 37 36 1, gl 38 37, gk 39 38, gn (.bin 40 .lss (.t 35) (.t 39)), gm 41 40, gh 41 (.fa 42 (.t 3) 9), gh 41 (.fa 43 (.t 42) 1), gh 41 (.ld 44 (.t 43)), hm 41 45 1, gh 41 (.ia 46 (.t 44) (.t 45)), gh 41 (.ld 47 (.t 46)), gn (.pick 48 (.t 41) (.t 47) (.c (.bool false))), gm 34 48] [35,36,37,38,39,40,41,42,43,44,45,46,47,48])
 (.cond (.t 34) (.seq (.reg [] [gl 49 3, gs 6 49, gn (.mv 7 (.c (.d (.sl true [])))), gn (.mv 8 (ci 6))] [3,49])
 .ret)
 .skip)))))))))
 (.seq (.reg [] [gn (.mv 9 (.c (.d (.sl true []))))] [])
 (.seq (.reg [] [gm 51 1, gn (.cal 52 f_kern_Kernel_find [(.t 3), (.t 51)] []), gm 50 52, ge 53 50 0, ge 54 50 1, gm 10 53, gm 11 54] [50,51,52,53,54])
 (.seq (.seq (.reg [] [gm 55 11] [11])
 (.cond (.t 55) (.seq (.seq (.reg [] [gf 56 3 7, gl 57 56, gm 58 10, ga 59 57 58, gf 60 59 3, gl 61 60, gn (.bin 62 .neq (.t 61) (ci 2))] [56,57,58,59,60,61])
 (.cond (.t 62) (.seq (.reg [] [gl 63 3, gs 6 63, gn (.mv 7 (.c (.d (.sl true [])))), gn (.mv 8 (ci 5))] [3,63])
 .ret)
 .skip))
 (.seq (.reg [] [gm 64 9, gf 65 3 0, gl 66 65, gm 67 1, gn (.bld 68 [(.t 66), (ci 13), (.t 67), (ci 0), (ci 0), (ci 0)]), gn (.bsl 69 [(.t 68)]), gp 70 64 69, gm 9 70] [64,65,66,67,68,69,70])
 (.reg [] [gf 71 3 7, gl 72 71, gm 73 10, gm 74 10, gn (.bin 75 .add (.t 74) (ci 1)), gn (.cal 76 f_slices_Delete_api_Job_api_Job [(.t 72), (.t 73), (.t 75)] []), gf 77 3 7, gs 77 76] [71,72,73,74,75,76,77])))
 .skip))
 (.seq (.reg [(1,7), (1,8)] [gf 78 3 7, gl 79 78, gm 80 10, gm 81 1, gf 82 3 0, gl 83 82, gm 84 2, gn (.das 85 f_job_New [(.t 81), (.t 83), (.t 84)]), gn (.bsl 86 [(.t 85)]), gn (.cal 87 f_slices_Insert_api_Job_api_Job [(.t 79), (.t 80), (.t 86)] []), gf 88 3 7, gs 88 87] [10,78,79,80,81,82,83,84,85,86,87,88])
 (.seq (.reg [(0,7), (0,8)] [gl 89 3, gm 90 9, gf 91 3 0, gl 92 91, gm 93 1, gm 94 2, gn (.bld 95 [(.t 92), (ci 1), (.t 93), (ci 0), (.t 94), (ci 0)]), gn (.bsl 96 [(.t 95)]), gp 97 90 96, gs 6 89, gm 7 97, gn (.mv 8 (ci 0))] [1,2,3,9,89,90,91,92,93,94,95,96,97])
 .ret)))))))), [.cell 6, .t 7, .t 8], none⟩
/- (*foliot/kern.Kernel).find -/
def k_kern_Kernel_find : KF := ⟨(.seq (.reg [] [gn (.mv 4 (ci 0)), gn (.mv 5 (.c (.bool false)))] [4,5])
 (.seq (.reg [] [gm 6 0, gc 7 6, gf 8 7 7, gl 9 8, gm 10 1, gn (.cal 11 f_slices_BinarySearchFunc_api_Job_api_Job_int [(.t 9), (.t 10), (.c (.clo f_kern_Kernel_find_1 [] []))] []), ge 12 11 0, ge 13 11 1, gm 4 12, gm 5 13] [0,1,6,7,8,9,10,11,12,13])
 .ret)), [.t 4, .t 5], none⟩
/- slices.BinarySearchFunc[[]foliot/api.Job,foliot/api.Job,int] -/
def k_slices_BinarySearchFunc_api_Job_api_Job_int_L0b : K := (.seq (.seq (.reg [] [gm 15 9, gm 16 10, gn (.bin 17 .lss (.t 15) (.t 16))] [15,16])
 (.cond (.t 17) .skip
 (.ext 0)))
 (.blk 1 (.seq (.reg [] [gm 18 9, gm 19 10, gn (.bin 20 .add (.t 18) (.t 19)), gn (.cv 21 .u64 (.t 20)), gn (.bin 22 .shr (.t 21) (.c (.int .u64 1))), gn (.cv 23 .i64 (.t 22)), gm 11 23] [18,19,20,21,22,23])
 (.seq (.reg [] [gm 24 2, gm 25 0, gm 26 11, ga 27 25 26, gl 28 27, gm 29 1, gn (.cav 30 (.t 24) [(.t 28), (.t 29)]), gn (.bin 31 .lss (.t 30) (ci 0))] [24,25,26,27,28,29,30])
 (.cond (.t 31) (.reg [] [gm 32 11, gn (.bin 33 .add (.t 32) (ci 1)), gm 9 33] [11,32,33])
 (.reg [] [gm 34 11, gm 10 34] [11,34]))))))
def k_slices_BinarySearchFunc_api_Job_api_Job_int_L0 : K := k_slices_BinarySearchFunc_api_Job_api_Job_int_L0b
def k_slices_BinarySearchFunc_api_Job_api_Job_int : KF := ⟨(.seq (.reg [] [gn (.mv 6 (ci 0)), gn (.mv 7 (.c (.bool false)))] [6,7])
 (.seq (.reg [] [gm 12 0, gk 13 12, gm 8 13] [12,13])
 (.seq (.reg [] [gm 14 8, gn (.mv 9 (ci 0)), gm 10 14] [14])
 (.seq (.blk 0 (.loop [0,1,2,8,9,10] k_slices_BinarySearchFunc_api_Job_api_Job_int_L0))
 (.seq (.reg [] [gm 35 9, gm 36 9, gm 37 8, gn (.bin 38 .lss (.t 36) (.t 37)), gm 39 38, hm 39 40 2, hm 39 41 0, hm 39 42 9, gh 39 (.ia 43 (.t 41) (.t 42)), gh 39 (.ld 44 (.t 43)), hm 39 45 1, gh 39 (.cav 46 (.t 40) [(.t 44), (.t 45)]), gh 39 (.bin 47 .eql (.t 46) (ci 0)), gn (.pick 48 (.t 39) (.t 47) (.c (.bool false))), gm 6 35, gm 7 48] [0,1,2,8,9,35,36,37,38,39,40,41,42,43,44,45,46,47,48])
 .ret))))), [.t 6, .t 7], none⟩
/- (*foliot/kern.Kernel).find$1 -/
def k_kern_Kernel_find_1 : KF := ⟨(.seq (.reg [] [gn (.box 2 (.t 0)), gn (.mv 4 (ci 0))] [0,4])
 (.seq (.reg [] [gf 5 2 0, gl 6 5, gm 7 1, gn (.bin 8 .sub (.t 6) (.t 7)), gm 4 8] [1,2,5,6,7,8])
 .ret)), [.t 4], none⟩
/- slices.Delete[[]foliot/api.Job,foliot/api.Job] -/
def k_slices_Delete_api_Job_api_Job : KF := ⟨.skip, [], some .del⟩
/- foliot/job.New -/
def k_job_New : KF := ⟨(.seq (.reg [] [gn (.alc 6 (.d (.agg [(.int .i64 0), (.int .i64 0), (.int .i64 0), (.int .i64 0), (.agg [(.int .i64 0), (.agg [(.int .i64 0), (.int .i64 0), (.int .i64 0), (.int .i64 0), (.int .i64 0), (.int .i64 0), (.int .i64 0), (.int .i64 0)]), (.sl true []), (.bool false)]), (.agg [(.int .i64 0), (.agg [(.int .i64 0), (.int .i64 0), (.int .i64 0), (.int .i64 0), (.int .i64 0), (.int .i64 0), (.int .i64 0), (.int .i64 0)]), (.sl true []), (.bool false)]), (.sl true []), (.bool false)])))] [])
 (.seq (.reg [] [gm 7 0, gm 8 1, gm 9 2, gm 10 2, gn (.dat 11 f_vm_New [(.t 10)]), gm 12 2, gn (.dat 13 f_vm_New [(.t 12)]), gn (.bld 14 [(.t 7), (.t 8), (.t 9), (ci 0), (.t 11), (.t 13), (.c (.d (.sl true []))), (.c (.bool false))]), gs 6 14] [0,1,2,7,8,9,10,11,12,13,14])
 .ret)), [.cell 6], none⟩
/- foliot/vm.New -/
def k_vm_New : KF := ⟨(.seq (.reg [] [gn (.alc 2 (.d (.agg [(.int .i64 0), (.agg [(.int .i64 0), (.int .i64 0), (.int .i64 0), (.int .i64 0), (.int .i64 0), (.int .i64 0), (.int .i64 0), (.int .i64 0)]), (.sl true []), (.bool false)])))] [])
 (.seq (.reg [] [gm 3 0, gf 4 2 1, gn (.ia 5 (.t 4) (ci 0)), gs 5 3] [0,3,4,5])
 (.seq (.reg [] [gl 6 2, gs 2 6] [6])
 .ret))), [.cell 2], none⟩
/- slices.Insert[[]foliot/api.Job,foliot/api.Job] -/
def k_slices_Insert_api_Job_api_Job : KF := ⟨.skip, [], some .ins⟩
/- (*foliot/call.asked).post -/
def k_call_asked_post : KF := ⟨(.seq (.reg [] [gm 8 0, gn (.cal 9 f_call_asked_thing [(.t 8), (ci 2)] []), gm 7 9, ge 10 7 0, ge 11 7 1, ge 12 7 2, gn (.alc 3 (.d (.agg [(.int .i64 0), (.agg [(.int .i64 0), (.int .i64 0)]), (.agg [(.int .i64 0), (.int .i64 0)]), (.agg [(.sl true []), (.sl true [])]), (.agg [(.int .u32 0), (.sl true [])]), (.int .u32 0)]))), gm 2 10, gs 3 11, gm 4 12] [7,8,9,10,11,12])
 (.seq (.seq (.reg [] [gm 13 4, gn (.un 14 .not (.t 13))] [4,13])
 (.cond (.t 14) .ret
 .skip))
 (.seq (.reg [(1,12), (6,12), (7,12)] [gf 16 3 3, gl 17 16, gm 18 0, gc 19 18, gf 20 19 1, gf 21 20 4, gl 22 21, gn (.das 23 f_mbox_Post [(.t 17), (.t 22)]), gm 15 23, ge 24 15 0, ge 25 15 1, ge 26 15 2, gn (.alc 5 (.d (.agg [(.sl true []), (.sl true [])]))), gs 5 24, gm 6 25, gm 4 26] [15,16,17,18,19,20,21,22,23,24,25,26])
 (.seq (.seq (.reg [] [gm 27 4, gn (.un 28 .not (.t 27))] [4,27])
 (.cond (.t 28) (.seq (.reg [] [gm 29 0, gc 30 29, gf 31 30 3, gf 32 31 0, gn (.st (.t 32) (ci 4))] [0,29,30,31,32])
 .ret)
 .skip))
 (.seq (.seq (.reg [] [gm 33 6, gn (.bin 34 .gtr (.t 33) (ci 0))] [33])
 (.cond (.t 34) (.reg [] [gm 35 0, gm 36 6, gm 37 0, gc 38 37, gf 39 38 1, gf 40 39 4, gl 41 40, gn (.cal 42 f_call_asked_told [(.t 35), (.t 36), (.t 41), (ci 0)] [])] [6,35,36,37,38,39,40,41,42])
 .skip))
 (.seq (.reg [] [gl 43 5, gf 44 3 3, gs 44 43] [5,43,44])
 (.reg [] [gm 45 0, gm 46 0, gc 47 46, gf 48 47 0, gf 49 48 8, gl 50 49, gm 51 2, gl 52 3, gn (.das 53 f_obj_Put [(.t 50), (.t 51), (.t 52)]), gc 54 45, gf 55 54 0, gf 56 55 8, gs 56 53] [0,2,3,45,46,47,48,49,50,51,52,53,54,55,56]))))))), [], none⟩
/- (*foliot/call.asked).thing -/
def k_call_asked_thing : KF := ⟨(.seq (.reg [] [gn (.mv 4 (ci 0)), gn (.alc 5 (.d (.agg [(.int .i64 0), (.agg [(.int .i64 0), (.int .i64 0)]), (.agg [(.int .i64 0), (.int .i64 0)]), (.agg [(.sl true []), (.sl true [])]), (.agg [(.int .u32 0), (.sl true [])]), (.int .u32 0)]))), gn (.mv 6 (.c (.bool false)))] [4,6])
 (.seq (.reg [] [gm 8 0, gc 9 8, gf 10 9 0, gf 11 10 8, gl 12 11, gm 13 0, gc 14 13, gf 15 14 1, gf 16 15 2, gl 17 16, gn (.dat 18 f_obj_Find [(.t 12), (.t 17)]), gm 7 18, ge 19 7 0, ge 20 7 1, gm 4 19, gm 6 20] [7,8,9,10,11,12,13,14,15,16,17,18,19,20])
 (.seq (.seq (.reg [] [gm 21 6, gn (.un 22 .not (.t 21)), gm 23 22, jm 23 24 0, gj 23 (.nck 25 (.t 24)), gj 23 (.fa 26 (.t 25) 0), gj 23 (.fa 27 (.t 26) 8), gj 23 (.fa 28 (.t 27) 1), gj 23 (.ld 29 (.t 28)), jm 23 30 4, gj 23 (.ia 31 (.t 29) (.t 30)), gj 23 (.fa 32 (.t 31) 0), gj 23 (.ld 33 (.t 32)), jm 23 34 1, gj 23 (.bin 35 .neq (.t 33) (.t 34)), gn (.pick 36 (.t 23) (.c (.bool true)) (.t 35))] [1,6,21,22,23,24,25,26,27,28,29,30,31,32,33,34,35])
 (.cond (.t 36) (.seq (.reg [] [gm 37 0, gc 38 37, gf 39 38 3, gf 40 39 0, gn (.st (.t 40) (ci 3))] [0,37,38,39,40])
 (.seq (.reg [] [gn (.bld 41 [(ci 0), (.c (.d (.agg [(.int .i64 0), (.int .i64 0)]))), (.c (.d (.agg [(.int .i64 0), (.int .i64 0)]))), (.c (.d (.agg [(.sl true []), (.sl true [])]))), (.c (.d (.agg [(.int .u32 0), (.sl true [])]))), (.c (.int .u32 0))]), gn (.mv 4 (ci 0)), gs 5 41, gn (.mv 6 (.c (.bool false)))] [41])
 .ret))
 .skip))
 (.seq (.reg [] [gm 42 4, gm 43 0, gc 44 43, gf 45 44 0, gf 46 45 8, gf 47 46 1, gl 48 47, gm 49 4, ga 50 48 49, gl 51 50, gm 4 42, gs 5 51, gn (.mv 6 (.c (.bool true)))] [0,42,43,44,45,46,47,48,49,50,51])
 .ret)))), [.t 4, .cell 5, .t 6], none⟩
/- foliot/obj.Find -/
def k_obj_Find : KF := ⟨(.seq (.reg [] [gn (.box 2 (.t 0)), gn (.box 3 (.t 1)), gn (.mv 4 (ci 0)), gn (.mv 5 (.c (.bool false)))] [0,1,4,5])
 (.seq (.seq (.reg [] [gf 6 2 0, gl 7 6, gl 8 3, gn (.dat 9 f_slots_Has [(.t 7), (.t 8)]), gn (.un 10 .not (.t 9)), gm 11 10, gj 11 (.ld 12 (.t 2)), gj 11 (.fa 13 (.t 3) 0), gj 11 (.ld 14 (.t 13)), gj 11 (.dat 15 f_obj_there [(.t 12), (.t 14)]), gj 11 (.un 16 .not (.t 15)), gn (.pick 17 (.t 11) (.c (.bool true)) (.t 16))] [2,6,7,8,9,10,11,12,13,14,15,16])
 (.cond (.t 17) (.seq (.reg [] [gn (.mv 4 (ci 0)), gn (.mv 5 (.c (.bool false)))] [])
 .ret)
 .skip))
 (.seq (.reg [] [gf 18 3 0, gl 19 18, gm 4 19, gn (.mv 5 (.c (.bool true)))] [3,18,19])
 .ret))), [.t 4, .t 5], none⟩
/- foliot/slots.Has -/
def k_slots_Has : KF := ⟨(.seq (.reg [] [gn (.box 2 (.t 0)), gn (.box 3 (.t 1)), gn (.mv 4 (.c (.bool false)))] [0,1,4])
 (.seq (.reg [(1,2)] [gl 5 2, gn (.cal 6 f_slots_handles [(.t 5)] [3]), gl 7 3, gn (.lk 8 (.t 6) (.t 7) (.bool false) false), gm 4 8] [2,3,5,6,7,8])
 .ret)), [.t 4], none⟩
/- foliot/slots.handles -/
def k_slots_handles_L0b : K := (.seq (.reg [] [gn (.bin 9 .lss (.t 8) (.t 7))] [])
 (.seq (.cond (.t 9) .skip
 (.ext 0))
 (.seq (.blk 1 (.seq (.reg [] [gm 10 8, gm 4 10] [10])
 (.seq (.reg [] [gf 11 1 1, gl 12 11, gm 13 4, ga 14 12 13, gl 15 14] [11,12,13,14])
 (.cond (.t 15) (.reg [] [gm 16 3, gm 17 4, gf 18 1 0, gl 19 18, gm 20 4, ga 21 19 20, gl 22 21, gn (.bld 23 [(.t 17), (.t 22)]), gn (.mu (.t 16) (.t 23) (.c (.bool true)))] [4,16,17,18,19,20,21,22,23])
 .skip))))
 (.reg [] [gn (.bin 24 .add (.t 8) (ci 1)), gm 8 24] [24]))))
def k_slots_handles_L0 : K := k_slots_handles_L0b
def k_slots_handles : KF := ⟨(.seq (.reg [] [gn (.box 1 (.t 0)), gn (.mv 2 (.c .und))] [0,2])
 (.seq (.reg [] [gn (.mkm 5), gm 3 5] [5])
 (.seq (.seq (.reg [] [gl 6 1, gn (.dat 7 f_slots_places [(.t 6)]), gn (.mv 8 (ci 0))] [6])
 (.blk 0 (.loop [1,3,7,8] k_slots_handles_L0)))
 (.seq (.reg [] [gm 25 3, gm 2 25] [3,25])
 .ret)))), [.t 2], none⟩
/- foliot/mbox.Post -/
def k_mbox_Post : KF := ⟨(.seq (.reg [] [gn (.box 2 (.t 0)), gn (.alc 4 (.d (.agg [(.sl true []), (.sl true [])]))), gn (.mv 5 (ci 0)), gn (.mv 6 (.c (.bool false)))] [0,5,6])
 (.seq (.reg [] [gl 9 2, gn (.dat 10 f_mbox_twin [(.t 9)]), gn (.alc 7 (.d (.agg [(.sl true []), (.sl true [])]))), gs 7 10] [2,9,10])
 (.seq (.blk 0 (.seq (.reg [] [gf 12 7 1, gl 13 12, gk 14 13, gn (.bin 15 .gtr (.t 14) (ci 0)), gm 11 15] [12,13,14,15])
 (.cond (.t 11) (.seq (.reg [] [gf 16 7 1, gl 17 16, gn (.ia 18 (.t 17) (ci 0)), gl 19 18, gm 8 19] [16,17,18,19])
 (.seq (.reg [] [gf 20 7 1, gl 21 20, gn (.slc 22 (.t 21) (some (ci 1)) none), gf 23 7 1, gs 23 22] [20,21,22,23])
 (.seq (.reg [] [gl 24 7, gm 25 8, gs 4 24, gm 5 25, gn (.mv 6 (.c (.bool true)))] [7,8,24,25])
 .ret)))
 (.seq (.reg [] [gf 27 7 0, gl 28 27, gk 29 28, gn (.bin 30 .geq (.t 29) (ci 4)), gm 26 30] [27,28,29,30])
 (.cond (.t 26) (.seq (.reg [] [gl 31 7, gs 4 31, gn (.mv 5 (ci 0)), gn (.mv 6 (.c (.bool false)))] [7,31])
 .ret)
 .skip)))))
 (.seq (.reg [] [gf 32 7 0, gl 33 32, gm 34 1, gn (.bsl 35 [(.t 34)]), gp 36 33 35, gf 37 7 0, gs 37 36] [1,32,33,34,35,36,37])
 (.seq (.reg [] [gl 38 7, gs 4 38, gn (.mv 5 (ci 0)), gn (.mv 6 (.c (.bool true)))] [7,38])
 .ret))))), [.cell 4, .t 5, .t 6], none⟩
/- foliot/mbox.twin -/
def k_mbox_twin : KF := ⟨(.seq (.reg [] [gn (.box 1 (.t 0)), gn (.alc 2 (.d (.agg [(.sl true []), (.sl true [])])))] [0])
 (.seq (.reg [(2,4)] [gf 3 1 0, gl 4 3, gn (.dat 5 f_slices_Clone_int64_int64 [(.t 4)]), gf 6 1 1, gl 7 6, gn (.dat 8 f_slices_Clone_int_int [(.t 7)]), gn (.bld 9 [(.t 5), (.t 8)]), gs 2 9] [1,3,4,5,6,7,8,9])
 .ret)), [.cell 2], none⟩
/- (*foliot/call.asked).told -/
def k_call_asked_told : KF := ⟨(.reg [(4,14)] [gm 8 0, gm 9 0, gc 10 9, gf 11 10 2, gl 12 11, gm 13 0, gc 14 13, gf 15 14 0, gf 16 15 0, gl 17 16, gm 18 1, gm 19 2, gm 20 3, gn (.bld 21 [(.t 17), (ci 12), (ci 0), (.t 18), (.t 19), (.t 20)]), gn (.bsl 22 [(.t 21)]), gp 23 12 22, gc 24 8, gf 25 24 2, gs 25 23] [0,1,2,3,8,9,10,11,12,13,14,15,16,17,18,19,20,21,22,23,24,25]), [], none⟩
/- (*foliot/call.asked).take -/
def k_call_asked_take : KF := ⟨(.seq (.reg [] [gm 9 0, gn (.cal 10 f_call_asked_thing [(.t 9), (ci 2)] []), gm 8 10, ge 11 8 0, ge 12 8 1, ge 13 8 2, gn (.alc 3 (.d (.agg [(.int .i64 0), (.agg [(.int .i64 0), (.int .i64 0)]), (.agg [(.int .i64 0), (.int .i64 0)]), (.agg [(.sl true []), (.sl true [])]), (.agg [(.int .u32 0), (.sl true [])]), (.int .u32 0)]))), gm 2 11, gs 3 12, gm 4 13] [8,9,10,11,12,13])
 (.seq (.seq (.reg [] [gm 14 4, gn (.un 15 .not (.t 14))] [4,14])
 (.cond (.t 15) .ret
 .skip))
 (.seq (.reg [(1,13), (6,13), (7,13)] [gf 17 3 3, gl 18 17, gm 19 0, gc 20 19, gf 21 20 1, gf 22 21 3, gl 23 22, gn (.das 24 f_mbox_Take [(.t 18), (.t 23)]), gm 16 24, ge 25 16 0, ge 26 16 1, ge 27 16 2, ge 28 16 3, gn (.alc 5 (.d (.agg [(.sl true []), (.sl true [])]))), gs 5 25, gm 6 26, gm 7 27, gm 4 28] [16,17,18,19,20,21,22,23,24,25,26,27,28])
 (.seq (.blk 0 (.seq (.reg [] [gm 34 4, gn (.un 35 .not (.t 34)), gm 33 35] [4,34,35])
 (.cond (.t 33) (.seq (.reg [] [gm 36 0, gc 37 36, gf 38 37 3, gf 39 38 0, gn (.st (.t 39) (ci 1))] [0,36,37,38,39])
 .ret)
 (.seq (.reg [] [gm 41 7, gm 40 41] [7,41])
 (.cond (.t 40) (.reg [] [gm 42 0, gm 43 6, gc 44 42, gf 45 44 3, gf 46 45 2, gs 46 43] [6,42,43,44,45,46])
 (.reg [] [gm 29 0, gc 30 29, gf 31 30 3, gf 32 31 0, gn (.st (.t 32) (ci 16))] [29,30,31,32]))))))
 (.seq (.reg [] [gl 47 5, gf 48 3 3, gs 48 47] [5,47,48])
 (.reg [] [gm 49 0, gm 50 0, gc 51 50, gf 52 51 0, gf 53 52 8, gl 54 53, gm 55 2, gl 56 3, gn (.das 57 f_obj_Put [(.t 54), (.t 55), (.t 56)]), gc 58 49, gf 59 58 0, gf 60 59 8, gs 60 57] [0,2,3,49,50,51,52,53,54,55,56,57,58,59,60])))))), [], none⟩
/- foliot/mbox.Take -/
def k_mbox_Take : KF := ⟨(.seq (.reg [] [gn (.box 2 (.t 0)), gn (.alc 4 (.d (.agg [(.sl true []), (.sl true [])]))), gn (.mv 5 (ci 0)), gn (.mv 6 (.c (.bool false))), gn (.mv 7 (.c (.bool false)))] [0,5,6,7])
 (.seq (.reg [] [gl 8 2, gn (.dat 9 f_mbox_twin [(.t 8)]), gs 4 9] [2,8,9])
 (.seq (.blk 0 (.seq (.reg [] [gm 11 1, gn (.bin 12 .lss (.t 11) (ci 1)), gm 10 12] [11,12])
 (.cond (.t 10) (.seq (.reg [] [gl 13 4, gs 4 13, gn (.mv 5 (ci 0)), gn (.mv 6 (.c (.bool false))), gn (.mv 7 (.c (.bool false)))] [13])
 .ret)
 (.seq (.reg [] [gf 15 4 0, gl 16 15, gk 17 16, gn (.bin 18 .gtr (.t 17) (ci 0)), gm 14 18] [15,16,17,18])
 (.cond (.t 14) (.seq (.reg [] [gf 19 4 0, gl 20 19, gn (.ia 21 (.t 20) (ci 0)), gl 22 21, gm 5 22] [19,20,21,22])
 (.seq (.reg [] [gf 23 4 0, gl 24 23, gn (.slc 25 (.t 24) (some (ci 1)) none), gf 26 4 0, gs 26 25] [23,24,25,26])
 (.seq (.reg [] [gl 27 4, gm 28 5, gs 4 27, gm 5 28, gn (.mv 6 (.c (.bool true))), gn (.mv 7 (.c (.bool true)))] [27,28])
 .ret)))
 (.seq (.reg [] [gf 30 4 1, gl 31 30, gm 32 1, gn (.dat 33 f_slices_Contains_int_int [(.t 31), (.t 32)]), gm 34 33, gj 34 (.fa 35 (.t 4) 1), gj 34 (.ld 36 (.t 35)), gj 34 (.len 37 (.t 36)), gj 34 (.bin 38 .geq (.t 37) (ci 4)), gn (.pick 39 (.t 34) (.c (.bool true)) (.t 38)), gm 29 39] [30,31,32,33,34,35,36,37,38,39])
 (.cond (.t 29) (.seq (.reg [] [gl 40 4, gs 4 40, gn (.mv 5 (ci 0)), gn (.mv 6 (.c (.bool false))), gn (.mv 7 (.c (.bool false)))] [40])
 .ret)
 .skip)))))))
 (.seq (.reg [] [gf 41 4 1, gl 42 41, gm 43 1, gn (.bsl 44 [(.t 43)]), gp 45 42 44, gf 46 4 1, gs 46 45] [1,41,42,43,44,45,46])
 (.seq (.reg [] [gl 47 4, gs 4 47, gn (.mv 5 (ci 0)), gn (.mv 6 (.c (.bool false))), gn (.mv 7 (.c (.bool true)))] [47])
 .ret))))), [.cell 4, .t 5, .t 6, .t 7], none⟩
/- slices.Contains[[]int,int] -/
def k_slices_Contains_int_int : KF := ⟨(.seq (.reg [] [gn (.mv 4 (.c (.bool false)))] [4])
 (.seq (.reg [] [gm 5 0, gm 6 1, gn (.dat 7 f_slices_Index_int_int [(.t 5), (.t 6)]), gn (.bin 8 .geq (.t 7) (ci 0)), gm 4 8] [0,1,5,6,7,8])
 .ret)), [.t 4], none⟩
/- slices.Index[[]int,int] -/
def k_slices_Index_int_int_L0b : K := (.seq (.reg [] [gn (.bin 9 .lss (.t 8) (.t 7))] [])
 (.seq (.cond (.t 9) .skip
 (.ext 0))
 (.seq (.blk 1 (.seq (.reg [] [gm 10 8, gm 5 10] [10])
 (.seq (.reg [] [gm 11 1, gm 12 0, gm 13 5, ga 14 12 13, gl 15 14, gn (.bin 16 .eql (.t 11) (.t 15))] [11,12,13,14,15])
 (.cond (.t 16) (.seq (.reg [] [gm 17 5, gm 4 17] [5,17])
 .ret)
 .skip))))
 (.reg [] [gn (.bin 18 .add (.t 8) (ci 1)), gm 8 18] [18]))))
def k_slices_Index_int_int_L0 : K := k_slices_Index_int_int_L0b
def k_slices_Index_int_int : KF := ⟨(.seq (.reg [] [gn (.mv 4 (ci 0))] [4])
 (.seq (.seq (.reg [] [gm 6 0, gk 7 6, gn (.mv 8 (ci 0))] [6])
 (.blk 0 (.loop [0,1,7,8] k_slices_Index_int_int_L0)))
 (.seq (.reg [] [gn (.mv 4 (ci (-1)))] [])
 .ret))), [.t 4], none⟩
/- (*foliot/call.asked).raise -/
def k_call_asked_raise_L0b : K := (.seq (.reg [] [gn (.bin 31 .lss (.t 30) (.t 29))] [])
 (.seq (.cond (.t 31) .skip
 (.ext 0))
 (.seq (.blk 1 (.seq (.reg [] [ga 32 28 30, gl 33 32, gn (.alc 8 (.d (.agg [(.int .i64 0), (.int .u32 0)]))), gs 8 33] [32,33])
 (.reg [] [gm 34 0, gf 35 8 0, gl 36 35, gf 37 8 1, gl 38 37, gn (.cv 39 .i64 (.t 38)), gn (.cal 40 f_call_asked_told [(.t 34), (.t 36), (.t 39), (ci 0)] [])] [8,34,35,36,37,38,39,40])))
 (.reg [] [gn (.bin 41 .add (.t 30) (ci 1)), gm 30 41] [41]))))
def k_call_asked_raise_L0 : K := k_call_asked_raise_L0b
def k_call_asked_raise : KF := ⟨(.seq (.reg [] [gm 10 0, gn (.cal 11 f_call_asked_thing [(.t 10), (ci 3)] []), gm 9 11, ge 12 9 0, ge 13 9 1, ge 14 9 2, gn (.alc 3 (.d (.agg [(.int .i64 0), (.agg [(.int .i64 0), (.int .i64 0)]), (.agg [(.int .i64 0), (.int .i64 0)]), (.agg [(.sl true []), (.sl true [])]), (.agg [(.int .u32 0), (.sl true [])]), (.int .u32 0)]))), gm 2 12, gs 3 13, gm 4 14] [9,10,11,12,13,14])
 (.seq (.seq (.reg [] [gm 15 4, gn (.un 16 .not (.t 15))] [4,15])
 (.cond (.t 16) .ret
 .skip))
 (.seq (.reg [(1,11), (6,11), (7,11)] [gf 18 3 4, gl 19 18, gm 20 0, gc 21 20, gf 22 21 1, gf 23 22 5, gl 24 23, gn (.das 25 f_flag_Raise [(.t 19), (.t 24)]), gm 17 25, ge 26 17 0, ge 27 17 1, gn (.alc 5 (.d (.agg [(.int .u32 0), (.sl true [])]))), gs 5 26, gm 6 27] [17,18,19,20,21,22,23,24,25,26,27])
 (.seq (.seq (.reg [] [gm 28 6, gk 29 28, gn (.mv 30 (ci 0))] [6])
 (.blk 0 (.loop [0,2,3,5,28,29,30] k_call_asked_raise_L0)))
 (.seq (.reg [] [gl 42 5, gf 43 3 4, gs 43 42] [5,42,43])
 (.reg [] [gm 44 0, gm 45 0, gc 46 45, gf 47 46 0, gf 48 47 8, gl 49 48, gm 50 2, gl 51 3, gn (.das 52 f_obj_Put [(.t 49), (.t 50), (.t 51)]), gc 53 44, gf 54 53 0, gf 55 54 8, gs 55 52] [0,2,3,44,45,46,47,48,49,50,51,52,53,54,55])))))), [], none⟩
/- foliot/flag.Raise -/
def k_flag_Raise_L0b : K := (.seq (.reg [] [gn (.bin 18 .lss (.t 17) (.t 16))] [])
 (.seq (.cond (.t 18) .skip
 (.ext 0))
 (.seq (.blk 1 (.seq (.reg [] [ga 19 15 17, gl 20 19, gn (.alc 7 (.d (.agg [(.int .i64 0), (.int .u32 0)]))), gs 7 20] [19,20])
 (.seq (.reg [] [gf 21 4 0, gl 22 21, gf 23 7 1, gl 24 23, gn (.bin 25 .and (.t 22) (.t 24)), gm 8 25] [21,22,23,24,25])
 (.seq (.seq (.reg [] [gm 26 8, gn (.bin 27 .eql (.t 26) (.c (.int .u32 0)))] [26])
 (.cond (.t 27) (.seq (.reg [] [gf 28 4 1, gl 29 28, gl 30 7, gn (.bsl 31 [(.t 30)]), gp 32 29 31, gf 33 4 1, gs 33 32] [7,28,29,30,31,32,33])
 (.ext 1))
 .skip))
 (.seq (.reg [] [gf 34 4 0, gl 35 34, gm 36 8, gn (.bin 37 .andNot (.t 35) (.t 36)), gf 38 4 0, gs 38 37] [34,35,36,37,38])
 (.reg [] [gm 39 5, gf 40 7 0, gl 41 40, gm 42 8, gn (.bld 43 [(.t 41), (.t 42)]), gn (.bsl 44 [(.t 43)]), gp 45 39 44, gm 5 45] [7,8,39,40,41,42,43,44,45]))))))
 (.reg [] [gn (.bin 46 .add (.t 17) (ci 1)), gm 17 46] [46]))))
def k_flag_Raise_L0 : K := k_flag_Raise_L0b
def k_flag_Raise : KF := ⟨(.seq (.reg [] [gn (.box 2 (.t 0)), gn (.alc 4 (.d (.agg [(.int .u32 0), (.sl true [])]))), gn (.mv 5 (.c (.d (.sl true []))))] [0])
 (.seq (.reg [] [gf 9 2 0, gl 10 9, gm 11 1, gn (.bin 12 .or (.t 10) (.t 11)), gf 13 4 0, gs 13 12] [1,9,10,11,12,13])
 (.seq (.seq (.reg [] [gf 14 2 1, gl 15 14, gk 16 15, gn (.mv 17 (ci 0))] [2,14])
 (.blk 0 (.loop [4,5,15,16,17] k_flag_Raise_L0)))
 (.seq (.reg [] [gl 47 4, gm 48 5, gs 4 47, gm 5 48] [47,48])
 .ret)))), [.cell 4, .t 5], none⟩
/- (*foliot/call.asked).await -/
def k_call_asked_await : KF := ⟨(.seq (.reg [] [gm 8 0, gn (.cal 9 f_call_asked_thing [(.t 8), (ci 3)] []), gm 7 9, ge 10 7 0, ge 11 7 1, ge 12 7 2, gn (.alc 3 (.d (.agg [(.int .i64 0), (.agg [(.int .i64 0), (.int .i64 0)]), (.agg [(.int .i64 0), (.int .i64 0)]), (.agg [(.sl true []), (.sl true [])]), (.agg [(.int .u32 0), (.sl true [])]), (.int .u32 0)]))), gm 2 10, gs 3 11, gm 4 12] [7,8,9,10,11,12])
 (.seq (.seq (.reg [] [gm 13 4, gn (.un 14 .not (.t 13))] [4,13])
 (.cond (.t 14) .ret
 .skip))
 (.seq (.reg [(1,17), (6,17), (11,17), (12,17)] [gf 16 3 4, gl 17 16, gm 18 0, gc 19 18, gf 20 19 1, gf 21 20 3, gl 22 21, gm 23 0, gc 24 23, gf 25 24 1, gf 26 25 5, gl 27 26, gn (.das 28 f_flag_Await [(.t 17), (.t 22), (.t 27)]), gm 15 28, ge 29 15 0, ge 30 15 1, ge 31 15 2, gn (.alc 5 (.d (.agg [(.int .u32 0), (.sl true [])]))), gs 5 29, gm 6 30, gm 4 31] [15,16,17,18,19,20,21,22,23,24,25,26,27,28,29,30,31])
 (.seq (.seq (.reg [] [gm 32 4, gn (.un 33 .not (.t 32))] [4,32])
 (.cond (.t 33) (.seq (.reg [] [gm 34 0, gc 35 34, gf 36 35 3, gf 37 36 0, gn (.st (.t 37) (ci 1))] [0,34,35,36,37])
 .ret)
 .skip))
 (.seq (.seq (.reg [] [gm 38 0, gm 39 6, gn (.cv 40 .i64 (.t 39)), gc 41 38, gf 42 41 3, gf 43 42 2, gs 43 40] [38,39,40,41,42,43])
 (.seq (.reg [] [gm 44 6, gn (.bin 45 .eql (.t 44) (.c (.int .u32 0)))] [6,44])
 (.cond (.t 45) (.reg [] [gm 46 0, gc 47 46, gf 48 47 3, gf 49 48 0, gn (.st (.t 49) (ci 16))] [46,47,48,49])
 .skip)))
 (.seq (.reg [] [gl 50 5, gf 51 3 4, gs 51 50] [5,50,51])
 (.reg [] [gm 52 0, gm 53 0, gc 54 53, gf 55 54 0, gf 56 55 8, gl 57 56, gm 58 2, gl 59 3, gn (.das 60 f_obj_Put [(.t 57), (.t 58), (.t 59)]), gc 61 52, gf 62 61 0, gf 63 62 8, gs 63 60] [0,2,3,52,53,54,55,56,57,58,59,60,61,62,63]))))))), [], none⟩
/- foliot/flag.Await -/
def k_flag_Await : KF := ⟨(.seq (.reg [] [gn (.box 3 (.t 0)), gn (.box 4 (.t 1)), gn (.alc 6 (.d (.agg [(.int .u32 0), (.sl true [])]))), gn (.mv 7 (.c (.int .u32 0))), gn (.mv 8 (.c (.bool false)))] [0,1,7,8])
 (.seq (.reg [(1,4)] [gf 9 3 0, gl 10 9, gf 11 3 1, gl 12 11, gn (.dat 13 f_slices_Clone_api_Waiter_api_Waiter [(.t 12)]), gn (.bld 14 [(.t 10), (.t 13)]), gs 6 14] [9,10,11,12,13,14])
 (.seq (.seq (.reg [] [gl 15 4, gn (.bin 16 .lss (.t 15) (ci 1)), gm 17 16, jm 17 18 2, gj 17 (.bin 19 .eql (.t 18) (.c (.int .u32 0))), gn (.pick 20 (.t 17) (.c (.bool true)) (.t 19))] [15,16,17,18,19])
 (.cond (.t 20) (.seq (.reg [] [gl 21 6, gs 6 21, gn (.mv 7 (.c (.int .u32 0))), gn (.mv 8 (.c (.bool false)))] [21])
 .ret)
 .skip))
 (.seq (.seq (.reg [] [gf 22 3 0, gl 23 22, gm 24 2, gn (.bin 25 .and (.t 23) (.t 24)), gm 7 25] [22,23,24,25])
 (.seq (.reg [] [gm 26 7, gn (.bin 27 .neq (.t 26) (.c (.int .u32 0)))] [26])
 (.cond (.t 27) (.seq (.reg [] [gf 28 6 0, gl 29 28, gm 30 7, gn (.bin 31 .andNot (.t 29) (.t 30)), gf 32 6 0, gs 32 31] [28,29,30,31,32])
 (.seq (.reg [] [gl 33 6, gm 34 7, gs 6 33, gm 7 34, gn (.mv 8 (.c (.bool true)))] [33,34])
 .ret))
 .skip)))
 (.seq (.seq (.reg [] [gf 35 3 1, gl 36 35, gk 37 36, gn (.bin 38 .geq (.t 37) (ci 4)), gm 39 38, gj 39 (.fa 40 (.t 3) 1), gj 39 (.ld 41 (.t 40)), gj 39 (.mkf 42 f_flag_Await_1 [] [(.t 4)]), gj 39 (.cal 43 f_slices_ContainsFunc_api_Waiter_api_Waiter [(.t 41), (.t 42)] []), gn (.pick 44 (.t 39) (.c (.bool true)) (.t 43))] [3,35,36,37,38,39,40,41,42,43])
 (.cond (.t 44) (.seq (.reg [] [gl 45 6, gs 6 45, gn (.mv 7 (.c (.int .u32 0))), gn (.mv 8 (.c (.bool false)))] [45])
 .ret)
 .skip))
 (.seq (.reg [] [gf 46 6 1, gl 47 46, gl 48 4, gm 49 2, gn (.bld 50 [(.t 48), (.t 49)]), gn (.bsl 51 [(.t 50)]), gp 52 47 51, gf 53 6 1, gs 53 52] [2,4,46,47,48,49,50,51,52,53])
 (.seq (.reg [] [gl 54 6, gs 6 54, gn (.mv 7 (.c (.int .u32 0))), gn (.mv 8 (.c (.bool true)))] [54])
 .ret))))))), [.cell 6, .t 7, .t 8], none⟩
/- foliot/flag.Await$1 -/
def k_flag_Await_1 : KF := ⟨(.seq (.reg [] [gn (.box 2 (.t 0)), gn (.mv 3 (.c (.bool false)))] [0,3])
 (.seq (.reg [] [gf 4 2 0, gl 5 4, gl 6 1, gn (.bin 7 .eql (.t 5) (.t 6)), gm 3 7] [1,2,4,5,6,7])
 .ret)), [.t 3], none⟩
/- slices.ContainsFunc[[]foliot/api.Waiter,foliot/api.Waiter] -/
def k_slices_ContainsFunc_api_Waiter_api_Waiter : KF := ⟨(.seq (.reg [] [gn (.mv 4 (.c (.bool false)))] [4])
 (.seq (.reg [] [gm 5 0, gm 6 1, gn (.cal 7 f_slices_IndexFunc_api_Waiter_api_Waiter [(.t 5), (.t 6)] []), gn (.bin 8 .geq (.t 7) (ci 0)), gm 4 8] [0,1,5,6,7,8])
 .ret)), [.t 4], none⟩
/- slices.IndexFunc[[]foliot/api.Waiter,foliot/api.Waiter] -/
def k_slices_IndexFunc_api_Waiter_api_Waiter_L0b : K := (.seq (.reg [] [gn (.bin 9 .lss (.t 8) (.t 7))] [])
 (.seq (.cond (.t 9) .skip
 (.ext 0))
 (.seq (.blk 1 (.seq (.reg [] [gm 10 8, gm 5 10] [10])
 (.seq (.reg [] [gm 11 1, gm 12 0, gm 13 5, ga 14 12 13, gl 15 14, gn (.cav 16 (.t 11) [(.t 15)])] [11,12,13,14,15])
 (.cond (.t 16) (.seq (.reg [] [gm 17 5, gm 4 17] [5,17])
 .ret)
 .skip))))
 (.reg [] [gn (.bin 18 .add (.t 8) (ci 1)), gm 8 18] [18]))))
def k_slices_IndexFunc_api_Waiter_api_Waiter_L0 : K := k_slices_IndexFunc_api_Waiter_api_Waiter_L0b
def k_slices_IndexFunc_api_Waiter_api_Waiter : KF := ⟨(.seq (.reg [] [gn (.mv 4 (ci 0))] [4])
 (.seq (.seq (.reg [] [gm 6 0, gk 7 6, gn (.mv 8 (ci 0))] [6])
 (.blk 0 (.loop [0,1,7,8] k_slices_IndexFunc_api_Waiter_api_Waiter_L0)))
 (.seq (.reg [] [gn (.mv 4 (ci (-1)))] [])
 .ret))), [.t 4], none⟩
/- (*foliot/call.asked).free -/
def k_call_asked_free_L0b : K := (.seq (.reg [] [gn (.bin 36 .lss (.t 35) (.t 34))] [])
 (.seq (.cond (.t 36) .skip
 (.ext 0))
 (.seq (.blk 1 (.seq (.reg [] [ga 37 33 35, gl 38 37, gm 6 38] [37,38])
 (.reg [] [gm 39 0, gm 40 6, gn (.cal 41 f_call_asked_told [(.t 39), (.t 40), (ci 0), (ci 15)] [])] [6,39,40,41])))
 (.reg [] [gn (.bin 42 .add (.t 35) (ci 1)), gm 35 42] [42]))))
def k_call_asked_free_L0 : K := k_call_asked_free_L0b
def k_call_asked_free : KF := ⟨(.seq (.reg [(4,15), (9,15), (10,15)] [gm 8 0, gc 9 8, gf 10 9 0, gf 11 10 8, gl 12 11, gm 13 0, gc 14 13, gf 15 14 1, gf 16 15 2, gl 17 16, gn (.das 18 f_obj_Drop [(.t 12), (.t 17)]), gm 7 18, ge 19 7 0, ge 20 7 1, ge 21 7 2, gn (.alc 2 (.d (.agg [(.agg [(.sl true []), (.sl true [])]), (.sl true [])]))), gs 2 19, gm 3 20, gm 4 21] [7,8,9,10,11,12,13,14,15,16,17,18,19,20,21])
 (.seq (.seq (.reg [] [gm 22 4, gn (.un 23 .not (.t 22))] [4,22])
 (.cond (.t 23) (.seq (.reg [] [gm 24 0, gc 25 24, gf 26 25 3, gf 27 26 0, gn (.st (.t 27) (ci 3))] [0,24,25,26,27])
 .ret)
 .skip))
 (.seq (.reg [] [gm 28 0, gl 29 2, gc 30 28, gf 31 30 0, gf 32 31 8, gs 32 29] [2,28,29,30,31,32])
 (.seq (.reg [] [gm 33 3, gk 34 33, gn (.mv 35 (ci 0))] [3])
 (.blk 0 (.loop [0,33,34,35] k_call_asked_free_L0)))))), [], none⟩
/- foliot/obj.Drop -/
def k_obj_Drop : KF := ⟨(.seq (.reg [] [gn (.box 2 (.t 0)), gn (.box 3 (.t 1)), gn (.alc 4 (.d (.agg [(.agg [(.sl true []), (.sl true [])]), (.sl true [])]))), gn (.mv 5 (.c (.d (.sl true [])))), gn (.mv 6 (.c (.bool false)))] [0,1,5,6])
 (.seq (.reg [] [gl 10 2, gn (.dat 11 f_obj_twin [(.t 10)]), gn (.alc 7 (.d (.agg [(.agg [(.sl true []), (.sl true [])]), (.sl true [])]))), gs 7 11] [10,11])
 (.seq (.reg [] [gl 13 2, gl 14 3, gn (.dat 15 f_obj_Find [(.t 13), (.t 14)]), gm 12 15, ge 16 12 0, ge 17 12 1, gm 8 16, gm 9 17] [12,13,14,15,16,17])
 (.seq (.seq (.reg [] [gm 18 9, gn (.un 19 .not (.t 18)), gm 20 19, gj 20 (.fa 21 (.t 2) 1), gj 20 (.ld 22 (.t 21)), jm 20 23 8, gj 20 (.ia 24 (.t 22) (.t 23)), gj 20 (.fa 25 (.t 24) 0), gj 20 (.ld 26 (.t 25)), gj 20 (.bin 27 .eql (.t 26) (ci 1)), gn (.pick 28 (.t 20) (.c (.bool true)) (.t 27))] [9,18,19,20,21,22,23,24,25,26,27])
 (.cond (.t 28) (.seq (.reg [] [gl 29 7, gs 4 29, gn (.mv 5 (.c (.d (.sl true [])))), gn (.mv 6 (.c (.bool false)))] [7,29])
 .ret)
 .skip))
 (.seq (.reg [] [gf 31 7 0, gl 32 31, gl 33 3, gn (.dat 34 f_slots_Free [(.t 32), (.t 33)]), gm 30 34, ge 35 30 0, ge 36 30 1, gf 37 7 0, gs 37 35] [3,30,31,32,33,34,35,36,37])
 (.seq (.reg [] [gf 38 7 1, gl 39 38, gm 40 8, gn (.bld 41 [(ci 0), (.c (.d (.agg [(.int .i64 0), (.int .i64 0)]))), (.c (.d (.agg [(.int .i64 0), (.int .i64 0)]))), (.c (.d (.agg [(.sl true []), (.sl true [])]))), (.c (.d (.agg [(.int .u32 0), (.sl true [])]))), (.c (.int .u32 0))]), ga 42 39 40, gs 42 41] [38,39,40,41,42])
 (.seq (.reg [(0,6)] [gl 43 7, gf 44 2 1, gl 45 44, gm 46 8, ga 47 45 46, gl 48 47, gn (.dat 49 f_obj_waits [(.t 48)]), gs 4 43, gm 5 49, gn (.mv 6 (.c (.bool true)))] [2,7,8,43,44,45,46,47,48,49])
 .ret))))))), [.cell 4, .t 5, .t 6], none⟩
/- foliot/slots.Free -/
def k_slots_Free : KF := ⟨(.seq (.reg [] [gn (.box 2 (.t 0)), gn (.box 3 (.t 1)), gn (.alc 4 (.d (.agg [(.sl true []), (.sl true [])]))), gn (.mv 5 (.c (.bool false)))] [0,1,5])
 (.seq (.reg [] [gl 6 2, gn (.dat 7 f_slots_twin [(.t 6)]), gs 2 7] [6,7])
 (.seq (.seq (.reg [] [gl 8 2, gl 9 3, gn (.dat 10 f_slots_Has [(.t 8), (.t 9)]), gn (.un 11 .not (.t 10))] [8,9,10])
 (.cond (.t 11) (.seq (.reg [] [gl 12 2, gs 4 12, gn (.mv 5 (.c (.bool false)))] [2,12])
 .ret)
 .skip))
 (.seq (.reg [] [gf 13 2 1, gl 14 13, gf 15 3 0, gl 16 15, ga 17 14 16, gn (.st (.t 17) (.c (.bool false)))] [3,13,14,15,16,17])
 (.seq (.reg [] [gl 18 2, gs 4 18, gn (.mv 5 (.c (.bool true)))] [2,18])
 .ret))))), [.cell 4, .t 5], none⟩
/- foliot/obj.waits -/
def k_obj_waits : KF := ⟨(.seq (.reg [] [gn (.box 1 (.t 0)), gn (.mv 2 (.c (.d (.sl true []))))] [0,2])
 (.seq (.reg [] [gf 8 1 3, gl 9 8, gn (.das 10 f_mbox_Reset [(.t 9)]), gm 7 10, ge 11 7 0, ge 12 7 1, gn (.alc 3 (.d (.agg [(.sl true []), (.sl true [])]))), gs 3 11, gm 4 12] [3,7,8,9,10,11,12])
 (.seq (.reg [] [gf 14 1 4, gl 15 14, gn (.das 16 f_flag_Reset [(.t 15)]), gm 13 16, ge 17 13 0, ge 18 13 1, gn (.alc 5 (.d (.agg [(.int .u32 0), (.sl true [])]))), gs 5 17, gm 6 18] [1,5,13,14,15,16,17,18])
 (.seq (.reg [] [gm 19 4, gm 20 6, gn (.bsl 21 [(.t 19), (.t 20)]), gn (.dat 22 f_slices_Concat_int_int [(.t 21)]), gm 2 22] [4,6,19,20,21,22])
 .ret)))), [.t 2], none⟩
/- foliot/mbox.Reset -/
def k_mbox_Reset : KF := ⟨(.seq (.reg [] [gn (.box 1 (.t 0)), gn (.alc 2 (.d (.agg [(.sl true []), (.sl true [])]))), gn (.mv 3 (.c (.d (.sl true []))))] [0,3])
 (.seq (.reg [] [gn (.bld 4 [(.c (.d (.sl true []))), (.c (.d (.sl true [])))]), gf 5 1 1, gl 6 5, gn (.dat 7 f_slices_Clone_int_int [(.t 6)]), gs 2 4, gm 3 7] [1,4,5,6,7])
 .ret)), [.cell 2, .t 3], none⟩
/- foliot/flag.Reset -/
def k_flag_Reset_L0b : K := (.seq (.reg [] [gn (.bin 10 .lss (.t 9) (.t 8))] [])
 (.seq (.cond (.t 10) .skip
 (.ext 0))
 (.seq (.blk 1 (.seq (.reg [] [ga 11 7 9, gl 12 11, gn (.alc 5 (.d (.agg [(.int .i64 0), (.int .u32 0)]))), gs 5 12] [11,12])
 (.reg [] [gm 13 3, gf 14 5 0, gl 15 14, gn (.bsl 16 [(.t 15)]), gp 17 13 16, gm 3 17] [5,13,14,15,16,17])))
 (.reg [] [gn (.bin 18 .add (.t 9) (ci 1)), gm 9 18] [18]))))
def k_flag_Reset_L0 : K := k_flag_Reset_L0b
def k_flag_Reset : KF := ⟨(.seq (.reg [] [gn (.box 1 (.t 0)), gn (.alc 2 (.d (.agg [(.int .u32 0), (.sl true [])]))), gn (.mv 3 (.c (.d (.sl true []))))] [0])
 (.seq (.seq (.reg [] [gf 6 1 1, gl 7 6, gk 8 7, gn (.mv 9 (ci 0))] [1,6])
 (.blk 0 (.loop [2,3,7,8,9] k_flag_Reset_L0)))
 (.seq (.reg [] [gl 19 2, gm 20 3, gs 2 19, gm 3 20] [19,20])
 .ret))), [.cell 2, .t 3], none⟩
/- slices.Concat[[]int,int] -/
def k_slices_Concat_int_int_L0b : K := (.seq (.reg [] [gn (.bin 12 .lss (.t 11) (.t 10))] [])
 (.seq (.cond (.t 12) .skip
 (.ext 0))
 (.seq (.blk 1 (.seq (.reg [] [ga 13 9 11, gl 14 13, gm 5 14] [13,14])
 (.seq (.reg [] [gm 15 3, gm 16 5, gk 17 16, gn (.bin 18 .add (.t 15) (.t 17)), gm 3 18] [5,15,16,17,18])
 (.seq (.reg [] [gm 19 3, gn (.bin 20 .lss (.t 19) (ci 0))] [19])
 (.cond (.t 20) (.reg [] [gn (.bad (some 21)), gn (.bad none)] [21])
 .skip)))))
 (.reg [] [gn (.bin 22 .add (.t 11) (ci 1)), gm 11 22] [22]))))
def k_slices_Concat_int_int_L0 : K := k_slices_Concat_int_int_L0b
def k_slices_Concat_int_int_L1b : K := (.seq (.reg [] [gn (.bin 28 .lss (.t 27) (.t 26))] [])
 (.seq (.cond (.t 28) .skip
 (.ext 2))
 (.seq (.blk 3 (.seq (.reg [] [ga 29 25 27, gl 30 29, gm 8 30] [29,30])
 (.reg [] [gm 31 6, gm 32 8, gp 33 31 32, gm 6 33] [8,31,32,33])))
 (.reg [] [gn (.bin 34 .add (.t 27) (ci 1)), gm 27 34] [34]))))
def k_slices_Concat_int_int_L1 : K := k_slices_Concat_int_int_L1b
def k_slices_Concat_int_int : KF := ⟨(.seq (.reg [] [gn (.mv 2 (.c (.d (.sl true []))))] [2])
 (.seq (.reg [] [gn (.mv 3 (ci 0))] [])
 (.seq (.seq (.reg [] [gm 9 0, gk 10 9, gn (.mv 11 (ci 0))] [])
 (.blk 0 (.loop [0,3,9,10,11] k_slices_Concat_int_int_L0)))
 (.seq (.reg [] [gm 23 3, gn (.cal 24 f_slices_Grow_int_int [(.c (.d (.sl true []))), (.t 23)] []), gm 6 24] [3,23,24])
 (.seq (.seq (.reg [] [gm 25 0, gk 26 25, gn (.mv 27 (ci 0))] [0])
 (.blk 2 (.loop [6,25,26,27] k_slices_Concat_int_int_L1)))
 (.seq (.reg [] [gm 35 6, gm 2 35] [6,35])
 .ret)))))), [.t 2], none⟩
/- slices.Grow[[]int,int] -/
def k_slices_Grow_int_int : KF := ⟨(.seq (.reg [] [gn (.mv 4 (.c (.d (.sl true []))))] [4])
 (.seq (.seq (.reg [] [gm 5 1, gn (.bin 6 .lss (.t 5) (ci 0))] [5])
 (.cond (.t 6) (.reg [] [gn (.bad (some 7)), gn (.bad none)] [7])
 .skip))
 (.seq (.seq (.reg [] [gm 8 1, gm 9 0, gn (.cap 10 (.t 9)), gm 11 0, gk 12 11, gn (.bin 13 .sub (.t 10) (.t 12)), gn (.bin 14 .sub (.t 8) (.t 13)), gm 1 14] [8,9,10,11,12,13,14])
 (.seq (.reg [] [gm 15 1, gn (.bin 16 .gtr (.t 15) (ci 0))] [15])
 (.cond (.t 16) (.reg [] [gm 17 0, gm 18 0, gn (.cap 19 (.t 18)), gn (.slc 20 (.t 17) none (some (.t 19))), gm 21 1, gn (.apz 22 (.t 20) (.int .i64 0) (.t 21)), gm 23 0, gk 24 23, gn (.slc 25 (.t 22) none (some (.t 24))), gm 0 25] [1,17,18,19,20,21,22,23,24,25])
 .skip)))
 (.seq (.reg [] [gm 26 0, gm 4 26] [0,26])
 .ret)))), [.t 4], none⟩
/- (*foliot/call.asked).wrong -/
def k_call_asked_wrong : KF := ⟨(.reg [] [gm 2 0, gc 3 2, gf 4 3 3, gf 5 4 0, gn (.st (.t 5) (ci 1))] [0,2,3,4,5]), [], none⟩
/- foliot/call.mine -/
def k_call_mine : KF := ⟨(.seq (.reg [] [gn (.box 1 (.t 0)), gn (.alc 2 (.d (.agg [(.int .i64 0), (.int .i64 0), (.sl true []), (.sl true []), (.bool false), (.bool false), (.bool false), (.sl true []), (.agg [(.agg [(.sl true []), (.sl true [])]), (.sl true [])]), (.agg [(.sl true []), (.sl true [])])])))] [0])
 (.seq (.reg [] [gl 4 1, gn (.das 5 f_kern_Release [(.t 4), (ci (-1)), (ci 0)]), gm 3 5, ge 6 3 0, ge 7 3 1, ge 8 3 2, gs 1 6] [3,4,5,6,7,8])
 (.seq (.reg [] [gl 9 1, gs 2 9] [1,9])
 .ret))), [.cell 2], none⟩
/- foliot/kern.Tick -/
def k_kern_Tick : KF := ⟨(.seq (.reg [] [gn (.box 1 (.t 0)), gn (.alc 2 (.d (.agg [(.int .i64 0), (.int .i64 0), (.sl true []), (.sl true []), (.bool false), (.bool false), (.bool false), (.sl true []), (.agg [(.agg [(.sl true []), (.sl true [])]), (.sl true [])]), (.agg [(.sl true []), (.sl true [])])]))), gn (.mv 3 (.c (.d (.sl true []))))] [0,3])
 (.seq (.reg [] [gl 5 1, gn (.cal 6 f_kern_twin [(.t 5)] []), gn (.bld 7 [(.t 6), (.c (.d (.sl true [])))]), gn (.box 8 (.t 7)), gm 4 8] [1,5,6,7,8])
 (.seq (.seq (.reg [] [gm 9 4, gc 10 9, gf 11 10 0, gf 12 11 4, gl 13 12, gm 14 13, hm 14 15 4, gh 14 (.nck 16 (.t 15)), gh 14 (.fa 17 (.t 16) 0), gh 14 (.fa 18 (.t 17) 5), gh 14 (.ld 19 (.t 18)), gh 14 (.un 20 .not (.t 19)), gn (.pick 21 (.t 14) (.t 20) (.c (.bool false)))] [9,10,11,12,13,14,15,16,17,18,19,20])
 (.cond (.t 21) (.seq (.reg [] [gm 22 4, gn (.cal 23 f_kern_turn_ends [(.t 22)] [])] [22,23])
 (.seq (.reg [] [gm 24 4, gn (.cal 25 f_kern_turn_promotes [(.t 24)] [])] [24,25])
 (.seq (.reg [] [gm 26 4, gn (.cal 27 f_kern_turn_audits [(.t 26)] [])] [26,27])
 (.reg [] [gm 28 4, gn (.cal 29 f_kern_turn_runs [(.t 28)] [])] [28,29]))))
 .skip))
 (.seq (.reg [] [gm 30 4, gc 31 30, gf 32 31 0, gf 33 32 6, gn (.st (.t 33) (.c (.bool false)))] [30,31,32,33])
 (.seq (.reg [] [gm 34 4, gc 35 34, gf 36 35 0, gf 37 36 0, gl 38 37, gn (.bin 39 .add (.t 38) (ci 1)), gc 40 34, gf 41 40 0, gf 42 41 0, gs 42 39] [34,35,36,37,38,39,40,41,42])
 (.seq (.reg [(7,8)] [gm 43 4, gc 44 43, gf 45 44 0, gl 46 45, gm 47 4, gc 48 47, gf 49 48 1, gl 50 49, gs 2 46, gm 3 50] [4,43,44,45,46,47,48,49,50])
 .ret)))))), [.cell 2, .t 3], none⟩
/- (*foliot/kern.turn).ends -/
def k_kern_turn_ends_L0b : K := (.seq (.reg [] [gn (.bin 12 .lss (.t 11) (.t 10))] [])
 (.seq (.cond (.t 12) .skip
 (.ext 0))
 (.seq (.blk 1 (.seq (.reg [] [ga 13 9 11, gl 14 13, gn (.alc 4 (.d (.agg [(.int .i64 0), (.int .i64 0), (.int .i64 0), (.int .i64 0), (.agg [(.int .i64 0), (.agg [(.int .i64 0), (.int .i64 0), (.int .i64 0), (.int .i64 0), (.int .i64 0), (.int .i64 0), (.int .i64 0), (.int .i64 0)]), (.sl true []), (.bool false)]), (.agg [(.int .i64 0), (.agg [(.int .i64 0), (.int .i64 0), (.int .i64 0), (.int .i64 0), (.int .i64 0), (.int .i64 0), (.int .i64 0), (.int .i64 0)]), (.sl true []), (.bool false)]), (.sl true []), (.bool false)]))), gs 4 14] [13,14])
 (.blk 2 (.seq (.reg [] [gm 19 0, gc 20 19, gf 21 20 0, gf 22 21 0, gl 23 22, gf 24 4 1, gl 25 24, gn (.bin 26 .sub (.t 23) (.t 25)), gm 27 0, gc 28 27, gf 29 28 0, gf 30 29 2, gl 31 30, gf 32 4 0, gl 33 32, ga 34 31 33, gf 35 34 2, gl 36 35, gn (.bin 37 .neq (.t 26) (.t 36)), gm 18 37] [19,20,21,22,23,24,25,26,27,28,29,30,31,32,33,34,35,36,37])
 (.cond (.t 18) (.reg [] [gm 38 2, gl 39 4, gn (.bsl 40 [(.t 39)]), gp 41 38 40, gm 2 41] [4,38,39,40,41])
 (.seq (.reg [] [gf 43 4 3, gl 44 43, gn (.bin 45 .eql (.t 44) (ci 2)), gm 42 45] [43,44,45])
 (.cond (.t 42) (.reg [] [gm 46 0, gf 47 4 0, gl 48 47, gn (.bld 49 [(ci 0), (ci 13), (.t 48), (ci 0), (ci 0), (ci 0)]), gn (.cal 50 f_kern_turn_tells [(.t 46), (.t 49)] [])] [4,46,47,48,49,50])
 (.reg [] [gm 15 0, gl 16 4, gn (.cal 17 f_kern_turn_misses [(.t 15), (.t 16)] [])] [4,15,16,17]))))))))
 (.reg [] [gn (.bin 51 .add (.t 11) (ci 1)), gm 11 51] [51]))))
def k_kern_turn_ends_L0 : K := k_kern_turn_ends_L0b
def k_kern_turn_ends : KF := ⟨(.seq (.reg [] [gn (.mv 2 (.c (.d (.sl true []))))] [])
 (.seq (.seq (.reg [] [gm 5 0, gc 6 5, gf 7 6 0, gf 8 7 7, gl 9 8, gk 10 9, gn (.mv 11 (ci 0))] [5,6,7,8])
 (.blk 0 (.loop [0,2,9,10,11] k_kern_turn_ends_L0)))
 (.reg [] [gm 52 0, gm 53 2, gc 54 52, gf 55 54 0, gf 56 55 7, gs 56 53] [0,2,52,53,54,55,56]))), [], none⟩
/- (*foliot/kern.turn).tells -/
def k_kern_turn_tells : KF := ⟨(.seq (.reg [] [gn (.box 3 (.t 1))] [1])
 (.seq (.reg [] [gm 4 0, gc 5 4, gf 6 5 0, gf 7 6 0, gl 8 7, gf 9 3 0, gs 9 8] [4,5,6,7,8,9])
 (.reg [(4,6)] [gm 10 0, gm 11 0, gc 12 11, gf 13 12 1, gl 14 13, gl 15 3, gn (.bsl 16 [(.t 15)]), gp 17 14 16, gc 18 10, gf 19 18 1, gs 19 17] [0,3,10,11,12,13,14,15,16,17,18,19]))), [], none⟩
/- (*foliot/kern.turn).misses -/
def k_kern_turn_misses : KF := ⟨(.seq (.reg [] [gn (.box 3 (.t 1))] [1])
 (.seq (.reg [] [gm 7 0, gf 8 3 0, gl 9 8, gn (.bld 10 [(ci 0), (ci 5), (.t 9), (ci 0), (ci 0), (ci 0)]), gn (.cal 11 f_kern_turn_tells [(.t 7), (.t 10)] [])] [7,8,9,10,11])
 (.seq (.reg [(7,9)] [gm 12 0, gc 13 12, gf 14 13 0, gm 15 0, gc 16 15, gf 17 16 0, gl 18 17, gn (.dat 19 f_kern_Locks [(.t 18)]), gf 20 3 0, gl 21 20, gn (.das 22 f_sema_All [(.t 19), (.t 21)]), gn (.cal 23 f_kern_Kernel_lock [(.t 14), (.t 22)] [])] [12,13,14,15,16,17,18,19,20,21,22,23])
 (.seq (.reg [(4,12), (6,12), (7,12)] [gm 25 0, gc 26 25, gf 27 26 0, gf 28 27 9, gl 29 28, gf 30 3 0, gl 31 30, gn (.das 32 f_watch_Miss [(.t 29), (.t 31)]), gm 24 32, ge 33 24 0, ge 34 24 1, ge 35 24 2, gn (.alc 4 (.d (.agg [(.sl true []), (.sl true [])]))), gs 4 33, gm 5 34, gm 6 35] [24,25,26,27,28,29,30,31,32,33,34,35])
 (.seq (.reg [] [gm 36 0, gl 37 4, gc 38 36, gf 39 38 0, gf 40 39 9, gs 40 37] [4,36,37,38,39,40])
 (.seq (.seq (.reg [] [gm 41 5] [5])
 (.cond (.t 41) (.reg [] [gm 42 0, gf 43 3 0, gl 44 43, gn (.bld 45 [(ci 0), (ci 9), (.t 44), (ci 0), (ci 0), (ci 0)]), gn (.cal 46 f_kern_turn_tells [(.t 42), (.t 45)] [])] [3,42,43,44,45,46])
 .skip))
 (.seq (.reg [] [gm 47 6] [6])
 (.cond (.t 47) (.seq (.reg [] [gm 48 0, gn (.bld 49 [(ci 0), (ci 10), (ci 0), (ci 0), (ci 0), (ci 0)]), gn (.cal 50 f_kern_turn_tells [(.t 48), (.t 49)] [])] [48,49,50])
 (.reg [] [gm 51 0, gc 52 51, gf 53 52 0, gf 54 53 5, gn (.st (.t 54) (.c (.bool true)))] [0,51,52,53,54]))
 .skip)))))))), [], none⟩
/- foliot/sema.All -/
def k_sema_All_L0b : K := (.seq (.reg [] [gn (.bin 12 .lss (.t 11) (.t 10))] [])
 (.seq (.cond (.t 12) .skip
 (.ext 0))
 (.seq (.blk 1 (.seq (.reg [] [gm 13 11, gm 6 13] [13])
 (.seq (.reg [] [gm 14 0, gm 15 6, gm 16 1, gn (.dat 17 f_sema_holds [(.t 14), (.t 15), (.t 16)])] [14,15,16])
 (.cond (.t 17) (.reg [] [gm 18 5, gm 19 6, ga 20 18 19, gf 21 20 1, gn (.st (.t 21) (ci 0))] [6,18,19,20,21])
 .skip))))
 (.reg [] [gn (.bin 22 .add (.t 11) (ci 1)), gm 11 22] [22]))))
def k_sema_All_L0 : K := k_sema_All_L0b
def k_sema_All : KF := ⟨(.seq (.reg [] [gn (.mv 4 (.c (.d (.sl true []))))] [4])
 (.seq (.reg [] [gm 7 0, gn (.dat 8 f_slices_Clone_api_Sema_api_Sema [(.t 7)]), gm 5 8] [7,8])
 (.seq (.seq (.reg [] [gm 9 5, gk 10 9, gn (.mv 11 (ci 0))] [9])
 (.blk 0 (.loop [0,1,5,10,11] k_sema_All_L0)))
 (.seq (.reg [] [gm 23 5, gm 4 23] [5,23])
 .ret)))), [.t 4], none⟩
/- slices.Clone[[]foliot/api.Sema,foliot/api.Sema] -/
def k_slices_Clone_api_Sema_api_Sema : KF := ⟨(.seq (.reg [] [gn (.mv 2 (.c (.d (.sl true []))))] [2])
 (.seq (.seq (.reg [] [gm 3 0, gn (.bin 4 .eql (.t 3) (.c (.d (.sl true []))))] [3])
 (.cond (.t 4) (.seq (.reg [] [gn (.mv 2 (.c (.d (.sl true []))))] [])
 .ret)
 .skip))
 (.seq (.reg [] [gn (.bsl 5 []), gm 6 0, gp 7 5 6, gm 2 7] [0,5,6,7])
 .ret))), [.t 2], none⟩
/- foliot/sema.holds -/
def k_sema_holds : KF := ⟨(.seq (.reg [] [gn (.mv 6 (.c (.bool false)))] [6])
 (.seq (.reg [] [gm 7 0, gm 8 1, gn (.dat 9 f_sema_has [(.t 7), (.t 8)]), gm 10 9, hm 10 11 2, gh 10 (.bin 12 .geq (.t 11) (ci 0)), gn (.pick 13 (.t 10) (.t 12) (.c (.bool false))), gm 14 13, hm 14 15 0, hm 14 16 1, gh 14 (.ia 17 (.t 15) (.t 16)), gh 14 (.fa 18 (.t 17) 1), gh 14 (.ld 19 (.t 18)), hm 14 20 2, gh 14 (.bin 21 .add (.t 20) (ci 1)), gh 14 (.bin 22 .eql (.t 19) (.t 21)), gn (.pick 23 (.t 14) (.t 22) (.c (.bool false))), gm 6 23] [0,1,2,7,8,9,10,11,12,13,14,15,16,17,18,19,20,21,22,23])
 .ret)), [.t 6], none⟩
/- foliot/sema.has -/
def k_sema_has : KF := ⟨(.seq (.reg [] [gn (.mv 4 (.c (.bool false)))] [4])
 (.seq (.reg [] [gm 5 1, gn (.bin 6 .geq (.t 5) (ci 0)), gm 7 6, hm 7 8 1, hm 7 9 0, gh 7 (.len 10 (.t 9)), gh 7 (.bin 11 .lss (.t 8) (.t 10)), gn (.pick 12 (.t 7) (.t 11) (.c (.bool false))), gm 4 12] [0,1,5,6,7,8,9,10,11,12])
 .ret)), [.t 4], none⟩
/- foliot/watch.Miss -/
def k_watch_Miss : KF := ⟨(.seq (.reg [] [gn (.box 2 (.t 0)), gn (.alc 4 (.d (.agg [(.sl true []), (.sl true [])]))), gn (.mv 5 (.c (.bool false))), gn (.mv 6 (.c (.bool false)))] [0,5,6])
 (.seq (.reg [] [gl 7 2, gn (.dat 8 f_watch_twin [(.t 7)]), gs 4 8] [7,8])
 (.seq (.seq (.reg [] [gl 9 2, gm 10 1, gn (.dat 11 f_watch_has [(.t 9), (.t 10)]), gn (.un 12 .not (.t 11))] [2,9,10,11])
 (.cond (.t 12) (.seq (.reg [] [gl 13 4, gs 4 13, gn (.mv 5 (.c (.bool false))), gn (.mv 6 (.c (.bool false)))] [13])
 .ret)
 .skip))
 (.seq (.reg [] [gf 14 4 0, gl 15 14, gm 16 1, ga 17 15 16, gl 18 17, gn (.bin 19 .add (.t 18) (ci 1)), ga 20 15 16, gs 20 19] [14,15,16,17,18,19,20])
 (.seq (.seq (.reg [] [gf 21 4 0, gl 22 21, gm 23 1, ga 24 22 23, gl 25 24, gn (.bin 26 .neq (.t 25) (ci 2)), gm 27 26, gj 27 (.fa 28 (.t 4) 1), gj 27 (.ld 29 (.t 28)), jm 27 30 1, gj 27 (.ia 31 (.t 29) (.t 30)), gj 27 (.ld 32 (.t 31)), gn (.pick 33 (.t 27) (.c (.bool true)) (.t 32))] [21,22,23,24,25,26,27,28,29,30,31,32])
 (.cond (.t 33) (.seq (.reg [] [gl 34 4, gs 4 34, gn (.mv 5 (.c (.bool false))), gn (.mv 6 (.c (.bool false)))] [34])
 .ret)
 .skip))
 (.seq (.reg [] [gf 35 4 1, gl 36 35, gm 37 1, ga 38 36 37, gn (.st (.t 38) (.c (.bool true)))] [1,35,36,37,38])
 (.seq (.reg [(0,3)] [gl 39 4, gf 40 4 1, gl 41 40, gn (.dat 42 f_slices_Contains_bool_bool [(.t 41), (.c (.bool false))]), gn (.un 43 .not (.t 42)), gs 4 39, gn (.mv 5 (.c (.bool true))), gm 6 43] [39,40,41,42,43])
 .ret))))))), [.cell 4, .t 5, .t 6], none⟩
/- foliot/watch.has -/
def k_watch_has : KF := ⟨(.seq (.reg [] [gn (.box 2 (.t 0)), gn (.mv 4 (.c (.bool false)))] [0,4])
 (.seq (.reg [] [gm 5 1, gn (.bin 6 .geq (.t 5) (ci 0)), gm 7 6, hm 7 8 1, gh 7 (.fa 9 (.t 2) 0), gh 7 (.ld 10 (.t 9)), gh 7 (.len 11 (.t 10)), gh 7 (.fa 12 (.t 2) 1), gh 7 (.ld 13 (.t 12)), gh 7 (.len 14 (.t 13)), gh 7 (.mn 15 [(.t 11), (.t 14)]), gh 7 (.bin 16 .lss (.t 8) (.t 15)), gn (.pick 17 (.t 7) (.t 16) (.c (.bool false))), gm 4 17] [1,2,5,6,7,8,9,10,11,12,13,14,15,16,17])
 .ret)), [.t 4], none⟩
/- slices.Contains[[]bool,bool] -/
def k_slices_Contains_bool_bool : KF := ⟨(.seq (.reg [] [gn (.mv 4 (.c (.bool false)))] [4])
 (.seq (.reg [] [gm 5 0, gm 6 1, gn (.dat 7 f_slices_Index_bool_bool [(.t 5), (.t 6)]), gn (.bin 8 .geq (.t 7) (ci 0)), gm 4 8] [0,1,5,6,7,8])
 .ret)), [.t 4], none⟩
/- (*foliot/kern.turn).promotes -/
def k_kern_turn_promotes_L0b : K := (.seq (.reg [] [gn (.bin 11 .lss (.t 10) (.t 9))] [])
 (.seq (.cond (.t 11) .skip
 (.ext 0))
 (.seq (.blk 1 (.seq (.reg [] [gm 12 10, ga 13 8 10, gl 14 13, gn (.alc 3 (.d (.agg [(.int .i64 0), (.int .i64 0), (.int .i64 0), (.int .i64 0), (.agg [(.int .i64 0), (.agg [(.int .i64 0), (.int .i64 0), (.int .i64 0), (.int .i64 0), (.int .i64 0), (.int .i64 0), (.int .i64 0), (.int .i64 0)]), (.sl true []), (.bool false)]), (.agg [(.int .i64 0), (.agg [(.int .i64 0), (.int .i64 0), (.int .i64 0), (.int .i64 0), (.int .i64 0), (.int .i64 0), (.int .i64 0), (.int .i64 0)]), (.sl true []), (.bool false)]), (.sl true []), (.bool false)]))), gm 2 12, gs 3 14] [12,13,14])
 (.seq (.reg [] [gf 15 3 3, gl 16 15, gn (.bin 17 .neq (.t 16) (ci 2)), gm 18 17, hm 18 19 0, gh 18 (.nck 20 (.t 19)), gh 18 (.fa 21 (.t 20) 0), gh 18 (.fa 22 (.t 21) 0), gh 18 (.ld 23 (.t 22)), gh 18 (.fa 24 (.t 3) 1), gh 18 (.ld 25 (.t 24)), gh 18 (.bin 26 .sub (.t 23) (.t 25)), hm 18 27 0, gh 18 (.nck 28 (.t 27)), gh 18 (.fa 29 (.t 28) 0), gh 18 (.fa 30 (.t 29) 3), gh 18 (.ld 31 (.t 30)), gh 18 (.fa 32 (.t 3) 0), gh 18 (.ld 33 (.t 32)), gh 18 (.ia 34 (.t 31) (.t 33)), gh 18 (.fa 35 (.t 34) 4), gh 18 (.ld 36 (.t 35)), gh 18 (.bin 37 .geq (.t 26) (.t 36)), gn (.pick 38 (.t 18) (.t 37) (.c (.bool false)))] [3,15,16,17,18,19,20,21,22,23,24,25,26,27,28,29,30,31,32,33,34,35,36,37])
 (.cond (.t 38) (.reg [] [gm 39 0, gc 40 39, gf 41 40 0, gf 42 41 7, gl 43 42, gm 44 2, ga 45 43 44, gf 46 45 7, gn (.st (.t 46) (.c (.bool true)))] [2,39,40,41,42,43,44,45,46])
 .skip))))
 (.reg [] [gn (.bin 47 .add (.t 10) (ci 1)), gm 10 47] [47]))))
def k_kern_turn_promotes_L0 : K := k_kern_turn_promotes_L0b
def k_kern_turn_promotes : KF := ⟨(.seq (.reg [] [gm 4 0, gc 5 4, gf 6 5 0, gf 7 6 7, gl 8 7, gk 9 8, gn (.mv 10 (ci 0))] [4,5,6,7])
 (.blk 0 (.loop [0,8,9,10] k_kern_turn_promotes_L0))), [], none⟩
/- (*foliot/kern.turn).audits -/
def k_kern_turn_audits_L1b : K := (.seq (.reg [] [gn (.bin 44 .lss (.t 43) (.t 42))] [])
 (.seq (.cond (.t 44) .skip
 (.ext 2))
 (.seq (.blk 3 (.seq (.reg [] [ga 45 41 43, gl 46 45, gm 8 46] [45,46])
 (.reg [] [gm 47 0, gm 48 8, gn (.bld 49 [(ci 0), (ci 12), (ci 0), (.t 48), (ci 0), (ci 15)]), gn (.cal 50 f_kern_turn_tells [(.t 47), (.t 49)] [])] [8,47,48,49,50])))
 (.reg [] [gn (.bin 51 .add (.t 43) (ci 1)), gm 43 51] [51]))))
def k_kern_turn_audits_L1 : K := k_kern_turn_audits_L1b
def k_kern_turn_audits_L2b : K := (.seq (.reg [] [gn (.bin 69 .lss (.t 68) (.t 67))] [])
 (.seq (.cond (.t 69) .skip
 (.ext 4))
 (.seq (.blk 5 (.seq (.reg [] [gm 70 68, ga 71 66 68, gl 72 71, gn (.alc 11 (.d (.agg [(.int .i64 0), (.int .i64 0), (.int .i64 0), (.int .i64 0), (.agg [(.int .i64 0), (.agg [(.int .i64 0), (.int .i64 0), (.int .i64 0), (.int .i64 0), (.int .i64 0), (.int .i64 0), (.int .i64 0), (.int .i64 0)]), (.sl true []), (.bool false)]), (.agg [(.int .i64 0), (.agg [(.int .i64 0), (.int .i64 0), (.int .i64 0), (.int .i64 0), (.int .i64 0), (.int .i64 0), (.int .i64 0), (.int .i64 0)]), (.sl true []), (.bool false)]), (.sl true []), (.bool false)]))), gm 10 70, gs 11 72] [70,71,72])
 (.reg [(4,8)] [gm 73 0, gc 74 73, gf 75 74 0, gf 76 75 7, gl 77 76, gm 78 10, gl 79 11, gm 80 9, gn (.das 81 f_fault_Loses [(.t 79), (.t 80)]), ga 82 77 78, gs 82 81] [10,11,73,74,75,76,77,78,79,80,81,82])))
 (.reg [] [gn (.bin 83 .add (.t 68) (ci 1)), gm 68 83] [83]))))
def k_kern_turn_audits_L2 : K := k_kern_turn_audits_L2b
def k_kern_turn_audits_L0b : K := (.seq (.reg [] [gn (.bin 30 .lss (.t 29) (.t 28))] [])
 (.seq (.cond (.t 30) .skip
 (.ext 0))
 (.seq (.blk 1 (.seq (.reg [] [gm 31 29, ga 32 27 29, gl 33 32, gm 5 31, gm 6 33] [31,32,33])
 (.seq (.reg [] [gm 34 0, gm 35 6, gn (.bld 36 [(ci 0), (ci 11), (ci 0), (.t 35), (ci 0), (ci 0)]), gn (.cal 37 f_kern_turn_tells [(.t 34), (.t 36)] [])] [34,35,36,37])
 (.seq (.seq (.reg [] [gm 38 4, gm 39 5, ga 40 38 39, gl 41 40, gk 42 41, gn (.mv 43 (ci 0))] [5,38,39,40])
 (.blk 2 (.loop [0,4,6,27,28,29,41,42,43] k_kern_turn_audits_L1)))
 (.seq (.reg [] [gm 52 0, gc 53 52, gf 54 53 0, gf 55 54 8, gl 56 55, gn (.dat 57 f_obj_Semas [(.t 56)]), gm 58 6, gn (.dat 59 f_slices_Index_int_int [(.t 57), (.t 58)]), gm 9 59] [6,52,53,54,55,56,57,58,59])
 (.seq (.reg [] [gm 60 9, gn (.bin 61 .geq (.t 60) (ci 0))] [60])
 (.cond (.t 61) (.seq (.reg [] [gm 62 0, gc 63 62, gf 64 63 0, gf 65 64 7, gl 66 65, gk 67 66, gn (.mv 68 (ci 0))] [62,63,64,65])
 (.blk 4 (.loop [0,4,9,27,28,29,66,67,68] k_kern_turn_audits_L2)))
 .skip)))))))
 (.reg [] [gn (.bin 84 .add (.t 29) (ci 1)), gm 29 84] [84]))))
def k_kern_turn_audits_L0 : K := k_kern_turn_audits_L0b
def k_kern_turn_audits : KF := ⟨(.seq (.reg [] [gm 13 0, gc 14 13, gf 15 14 0, gf 16 15 8, gl 17 16, gn (.das 18 f_obj_Audit [(.t 17)]), gm 12 18, ge 19 12 0, ge 20 12 1, ge 21 12 2, gn (.alc 2 (.d (.agg [(.agg [(.sl true []), (.sl true [])]), (.sl true [])]))), gs 2 19, gm 3 20, gm 4 21] [12,13,14,15,16,17,18,19,20,21])
 (.seq (.reg [] [gm 22 0, gl 23 2, gc 24 22, gf 25 24 0, gf 26 25 8, gs 26 23] [2,22,23,24,25,26])
 (.seq (.reg [] [gm 27 3, gk 28 27, gn (.mv 29 (ci 0))] [3])
 (.blk 0 (.loop [0,4,27,28,29] k_kern_turn_audits_L0))))), [], none⟩
/- foliot/obj.Audit -/
def k_obj_Audit_L0b : K := (.seq (.reg [] [gn (.bin 14 .lss (.t 13) (.t 12))] [])
 (.seq (.cond (.t 14) .skip
 (.ext 0))
 (.seq (.blk 1 (.seq (.reg [] [gm 15 13, ga 16 11 13, gl 17 16, gn (.alc 6 (.d (.agg [(.int .i64 0), (.agg [(.int .i64 0), (.int .i64 0)]), (.agg [(.int .i64 0), (.int .i64 0)]), (.agg [(.sl true []), (.sl true [])]), (.agg [(.int .u32 0), (.sl true [])]), (.int .u32 0)]))), gm 5 15, gs 6 17] [15,16,17])
 (.seq (.seq (.reg [(6,8)] [gl 18 1, gm 19 5, gn (.dat 20 f_obj_there [(.t 18), (.t 19)]), gn (.un 21 .not (.t 20)), gm 22 21, gj 22 (.fa 23 (.t 6) 5), gj 22 (.ld 24 (.t 23)), gj 22 (.ld 25 (.t 6)), gj 22 (.dat 26 f_obj_sum [(.t 25)]), gj 22 (.bin 27 .eql (.t 24) (.t 26)), gn (.pick 28 (.t 22) (.c (.bool true)) (.t 27))] [18,19,20,21,22,23,24,25,26,27])
 (.cond (.t 28) (.ext 1)
 .skip))
 (.seq (.reg [] [gf 29 6 0, gl 30 29, gf 31 6 1, gl 32 31, gn (.dat 33 f_obj_fresh [(.t 30), (.t 32)]), gn (.alc 7 (.d (.agg [(.int .i64 0), (.agg [(.int .i64 0), (.int .i64 0)]), (.agg [(.int .i64 0), (.int .i64 0)]), (.agg [(.sl true []), (.sl true [])]), (.agg [(.int .u32 0), (.sl true [])]), (.int .u32 0)]))), gs 7 33] [29,30,31,32,33])
 (.seq (.seq (.reg [] [gf 34 6 0, gl 35 34, gn (.bin 36 .eql (.t 35) (ci 1))] [34,35])
 (.cond (.t 36) (.reg [] [gf 37 6 2, gf 38 37 0, gl 39 38, gf 40 7 2, gf 41 40 0, gs 41 39] [37,38,39,40,41])
 .skip))
 (.seq (.reg [(1,4)] [gf 42 2 1, gl 43 42, gm 44 5, gl 45 7, gn (.dat 46 f_obj_sealed [(.t 45)]), ga 47 43 44, gs 47 46] [7,42,43,44,45,46,47])
 (.reg [(2,5), (3,5)] [gm 48 3, gm 49 5, gn (.bsl 50 [(.t 49)]), gp 51 48 50, gm 52 4, gl 53 6, gn (.dat 54 f_obj_waits [(.t 53)]), gn (.bsl 55 [(.t 54)]), gp 56 52 55, gm 3 51, gm 4 56] [5,6,48,49,50,51,52,53,54,55,56])))))))
 (.reg [] [gn (.bin 57 .add (.t 13) (ci 1)), gm 13 57] [57]))))
def k_obj_Audit_L0 : K := k_obj_Audit_L0b
def k_obj_Audit : KF := ⟨(.seq (.reg [] [gn (.box 1 (.t 0)), gn (.alc 2 (.d (.agg [(.agg [(.sl true []), (.sl true [])]), (.sl true [])]))), gn (.mv 3 (.c (.d (.sl true [])))), gn (.mv 4 (.c (.d (.sl true []))))] [0])
 (.seq (.reg [] [gl 8 1, gn (.dat 9 f_obj_twin [(.t 8)]), gs 2 9] [8,9])
 (.seq (.seq (.reg [] [gf 10 1 1, gl 11 10, gk 12 11, gn (.mv 13 (ci 0))] [10])
 (.blk 0 (.loop [1,2,3,4,11,12,13] k_obj_Audit_L0)))
 (.seq (.reg [] [gl 58 2, gm 59 3, gm 60 4, gs 2 58, gm 3 59, gm 4 60] [58,59,60])
 .ret)))), [.cell 2, .t 3, .t 4], none⟩
/- (*foliot/kern.turn).runs -/
def k_kern_turn_runs : KF := ⟨(.seq (.reg [(4,15), (9,15)] [gm 8 0, gc 9 8, gf 10 9 0, gf 11 10 7, gl 12 11, gm 13 0, gc 14 13, gf 15 14 0, gf 16 15 2, gl 17 16, gk 18 17, gm 19 0, gc 20 19, gf 21 20 0, gl 22 21, gn (.dat 23 f_kern_Locks [(.t 22)]), gn (.dat 24 f_pick_Next [(.t 12), (.t 18), (.t 23)]), gm 7 24, ge 25 7 0, ge 26 7 1, gm 2 25, gm 3 26] [7,8,9,10,11,12,13,14,15,16,17,18,19,20,21,22,23,24,25,26])
 (.seq (.seq (.reg [] [gm 27 0, gc 28 27, gf 29 28 0, gf 30 29 5, gl 31 30, gm 32 31, jm 32 33 3, gj 32 (.un 34 .not (.t 33)), gn (.pick 35 (.t 32) (.c (.bool true)) (.t 34))] [3,27,28,29,30,31,32,33,34])
 (.cond (.t 35) .ret
 .skip))
 (.seq (.reg [] [gm 36 0, gc 37 36, gf 38 37 0, gf 39 38 7, gl 40 39, gm 41 2, ga 42 40 41, gl 43 42, gm 44 0, gn (.mkf 45 f_kern_turn_goes [(.t 44)] []), gn (.alc 4 (.d (.agg [(.int .i64 0), (.int .i64 0), (.int .i64 0), (.int .i64 0), (.agg [(.int .i64 0), (.agg [(.int .i64 0), (.int .i64 0), (.int .i64 0), (.int .i64 0), (.int .i64 0), (.int .i64 0), (.int .i64 0), (.int .i64 0)]), (.sl true []), (.bool false)]), (.agg [(.int .i64 0), (.agg [(.int .i64 0), (.int .i64 0), (.int .i64 0), (.int .i64 0), (.int .i64 0), (.int .i64 0), (.int .i64 0), (.int .i64 0)]), (.sl true []), (.bool false)]), (.sl true []), (.bool false)]))), gs 4 43, gm 5 45] [36,37,38,39,40,41,42,43,44,45])
 (.seq (.reg [] [gm 46 0, gf 47 4 0, gl 48 47, gn (.bld 49 [(ci 0), (ci 2), (.t 48), (ci 0), (ci 0), (ci 0)]), gn (.cal 50 f_kern_turn_tells [(.t 46), (.t 49)] [])] [46,47,48,49,50])
 (.seq (.seq (.reg [] [gm 51 0, gc 52 51, gf 53 52 0, gf 54 53 6, gl 55 54] [51,52,53,54])
 (.cond (.t 55) (.reg [] [gm 56 0, gn (.mkf 57 f_kern_turn_hits [(.t 56)] []), gm 5 57] [56,57])
 .skip))
 (.seq (.reg [] [gm 58 5, gn (.cav 59 (.t 58) [(.t 4)]), gm 6 59] [5,58,59])
 (.seq (.reg [] [gm 60 0, gc 61 60, gf 62 61 0, gf 63 62 7, gl 64 63, gm 65 2, gl 66 4, ga 67 64 65, gs 67 66] [4,60,61,62,63,64,65,66,67])
 (.seq (.reg [] [gm 68 6] [6])
 (.cond (.t 68) (.reg [] [gm 69 0, gm 70 0, gc 71 70, gf 72 71 0, gf 73 72 7, gl 74 73, gm 75 2, gm 76 2, gn (.bin 77 .add (.t 76) (ci 1)), gn (.cal 78 f_slices_Delete_api_Job_api_Job [(.t 74), (.t 75), (.t 77)] []), gc 79 69, gf 80 79 0, gf 81 80 7, gs 81 78] [0,2,69,70,71,72,73,74,75,76,77,78,79,80,81])
 .skip))))))))), [], none⟩
/- foliot/pick.Next -/
def k_pick_Next_L0b : K := (.seq (.reg [] [gn (.bin 17 .lss (.t 16) (.t 15))] [])
 (.seq (.cond (.t 17) .skip
 (.ext 0))
 (.seq (.blk 1 (.seq (.reg [] [ga 18 14 16, gl 19 18, gn (.alc 10 (.d (.agg [(.int .i64 0), (.int .i64 0), (.int .i64 0), (.int .i64 0), (.agg [(.int .i64 0), (.agg [(.int .i64 0), (.int .i64 0), (.int .i64 0), (.int .i64 0), (.int .i64 0), (.int .i64 0), (.int .i64 0), (.int .i64 0)]), (.sl true []), (.bool false)]), (.agg [(.int .i64 0), (.agg [(.int .i64 0), (.int .i64 0), (.int .i64 0), (.int .i64 0), (.int .i64 0), (.int .i64 0), (.int .i64 0), (.int .i64 0)]), (.sl true []), (.bool false)]), (.sl true []), (.bool false)]))), gs 10 19] [18,19])
 (.reg [] [gm 20 8, gl 21 10, gm 22 1, gm 23 2, gn (.dat 24 f_pick_of [(.t 21), (.t 22), (.t 23)]), gn (.bsl 25 [(.t 24)]), gp 26 20 25, gm 8 26] [10,20,21,22,23,24,25,26])))
 (.reg [] [gn (.bin 27 .add (.t 16) (ci 1)), gm 16 27] [27]))))
def k_pick_Next_L0 : K := k_pick_Next_L0b
def k_pick_Next_L1b : K := (.seq (.seq (.reg [] [gm 28 11, gm 29 8, gk 30 29, gn (.bin 31 .lss (.t 28) (.t 30))] [28,29,30])
 (.cond (.t 31) .skip
 (.ext 2)))
 (.seq (.blk 3 (.seq (.reg [] [gm 34 8, gm 35 11, gm 36 11, gn (.bin 37 .add (.t 36) (ci 64)), gm 38 8, gk 39 38, gn (.mn 40 [(.t 37), (.t 39)]), gn (.slc 41 (.t 34) (some (.t 35)) (some (.t 40))), gm 12 41] [34,35,36,37,38,39,40,41])
 (.seq (.reg [] [gm 42 11, gm 43 12, gn (.dat 44 f_pick_first [(.t 43)]), gn (.bin 45 .add (.t 42) (.t 44)), gm 13 45] [12,42,43,44,45])
 (.seq (.reg [] [gm 46 7, gn (.un 47 .not (.t 46)), gm 48 47, jm 48 49 8, jm 48 50 13, gj 48 (.ia 51 (.t 49) (.t 50)), gj 48 (.ld 52 (.t 51)), jm 48 53 8, jm 48 54 6, gj 48 (.ia 55 (.t 53) (.t 54)), gj 48 (.ld 56 (.t 55)), gj 48 (.dat 57 f_pick_compare [(.t 52), (.t 56)]), gj 48 (.bin 58 .lss (.t 57) (ci 0)), gn (.pick 59 (.t 48) (.c (.bool true)) (.t 58))] [46,47,48,49,50,51,52,53,54,55,56,57,58])
 (.cond (.t 59) (.reg [] [gm 60 13, gm 6 60, gn (.mv 7 (.c (.bool true)))] [13,60])
 .skip)))))
 (.reg [] [gm 32 11, gn (.bin 33 .add (.t 32) (ci 64)), gm 11 33] [32,33])))
def k_pick_Next_L1 : K := k_pick_Next_L1b
def k_pick_Next : KF := ⟨(.seq (.reg [] [gn (.mv 6 (ci 0)), gn (.mv 7 (.c (.bool false)))] [])
 (.seq (.reg [] [gn (.mv 8 (.c (.d (.sl true []))))] [])
 (.seq (.seq (.reg [] [gm 14 0, gk 15 14, gn (.mv 16 (ci 0))] [0])
 (.blk 0 (.loop [1,2,6,7,8,14,15,16] k_pick_Next_L0)))
 (.seq (.seq (.reg [] [gn (.mv 11 (ci 0))] [])
 (.blk 2 (.loop [6,7,8,11] k_pick_Next_L1)))
 (.seq (.reg [] [gm 61 6, gm 62 7, gm 6 61, gm 7 62] [61,62])
 .ret))))), [.t 6, .t 7], none⟩
/- foliot/pick.of -/
def k_pick_of : KF := ⟨(.seq (.reg [] [gn (.box 3 (.t 0)), gn (.alc 6 (.d (.agg [(.int .i64 0), (.int .i64 0), (.int .i64 0)])))] [0])
 (.seq (.reg [(3,5), (0,7), (3,7), (5,7)] [gl 10 3, gm 11 1, gm 12 2, gn (.dat 13 f_band_Of [(.t 10), (.t 11), (.t 12)]), gf 14 3 0, gl 15 14, gn (.bld 16 [(.t 13), (ci 1), (.t 15)]), gn (.alc 7 (.d (.agg [(.int .i64 0), (.int .i64 0), (.int .i64 0)]))), gs 7 16] [1,10,11,12,13,14,15,16])
 (.seq (.seq (.reg [] [gm 18 2, gf 19 3 6, gl 20 19, gf 21 3 0, gl 22 21, gn (.dat 23 f_sema_Low [(.t 18), (.t 20), (.t 22)]), gm 17 23, ge 24 17 0, ge 25 17 1, gm 8 24, gm 9 25] [2,3,8,17,18,19,20,21,22,23,24,25])
 (.seq (.reg [] [gm 26 9] [9])
 (.cond (.t 26) (.reg [] [gf 27 7 1, gn (.st (.t 27) (ci 0))] [27])
 .skip)))
 (.seq (.reg [] [gl 28 7, gs 6 28] [7,28])
 .ret)))), [.cell 6], none⟩
/- foliot/band.Of -/
def k_band_Of : KF := ⟨(.seq (.reg [] [gn (.box 3 (.t 0)), gn (.mv 6 (ci 0))] [0,6])
 (.seq (.seq (.reg [] [gm 10 2, gf 11 3 6, gl 12 11, gf 13 3 0, gl 14 13, gn (.dat 15 f_sema_Low [(.t 10), (.t 12), (.t 14)]), gm 9 15, ge 16 9 0, ge 17 9 1, gm 7 16, gm 8 17] [2,9,10,11,12,13,14,15,16,17])
 (.seq (.reg [] [gm 18 8] [8])
 (.cond (.t 18) (.seq (.reg [] [gl 19 3, gm 20 1, gn (.dat 21 f_band_Base [(.t 19), (.t 20)]), gm 22 7, gn (.mn 23 [(.t 21), (.t 22)]), gm 6 23] [1,3,7,19,20,21,22,23])
 .ret)
 .skip)))
 (.seq (.reg [] [gl 24 3, gm 25 1, gn (.dat 26 f_band_Base [(.t 24), (.t 25)]), gm 6 26] [1,3,24,25,26])
 .ret))), [.t 6], none⟩
/- foliot/sema.Low -/
def k_sema_Low_L0b : K := (.seq (.reg [] [gn (.bin 15 .lss (.t 14) (.t 13))] [])
 (.seq (.cond (.t 15) .skip
 (.ext 0))
 (.seq (.blk 1 (.seq (.reg [] [ga 16 12 14, gl 17 16, gm 10 17] [16,17])
 (.seq (.seq (.reg [] [gm 18 0, gm 19 10, gm 20 2, gn (.dat 21 f_sema_holds [(.t 18), (.t 19), (.t 20)]), gn (.un 22 .not (.t 21)), gm 23 22, jm 23 24 8, jm 23 25 10, gj 23 (.bld 26 [(.t 25)]), gj 23 (.lk 27 (.t 24) (.t 26) (.bool false) false), gn (.pick 28 (.t 23) (.c (.bool true)) (.t 27))] [18,19,20,21,22,23,24,25,26,27])
 (.cond (.t 28) (.ext 1)
 .skip))
 (.seq (.reg [] [gm 29 8, gm 30 10, gn (.bld 31 [(.t 30)]), gn (.mu (.t 29) (.t 31) (.c (.bool true)))] [29,30,31])
 (.seq (.reg [] [gm 32 7, gn (.un 33 .not (.t 32)), gm 34 33, jm 34 35 0, jm 34 36 10, gj 34 (.ia 37 (.t 35) (.t 36)), gj 34 (.fa 38 (.t 37) 0), gj 34 (.ld 39 (.t 38)), jm 34 40 6, gj 34 (.bin 41 .lss (.t 39) (.t 40)), gn (.pick 42 (.t 34) (.c (.bool true)) (.t 41))] [32,33,34,35,36,37,38,39,40,41])
 (.cond (.t 42) (.reg [] [gm 43 0, gm 44 10, ga 45 43 44, gf 46 45 0, gl 47 46, gm 6 47, gn (.mv 7 (.c (.bool true)))] [10,43,44,45,46,47])
 .skip))))))
 (.reg [] [gn (.bin 48 .add (.t 14) (ci 1)), gm 14 48] [48]))))
def k_sema_Low_L0 : K := k_sema_Low_L0b
def k_sema_Low : KF := ⟨(.seq (.reg [] [gn (.mv 6 (ci 0)), gn (.mv 7 (.c (.bool false)))] [])
 (.seq (.reg [] [gn (.mkm 11), gm 8 11] [11])
 (.seq (.seq (.reg [] [gm 12 1, gk 13 12, gn (.mv 14 (ci 0))] [1])
 (.blk 0 (.loop [0,2,6,7,8,12,13,14] k_sema_Low_L0)))
 (.seq (.reg [] [gm 49 6, gm 50 7, gm 6 49, gm 7 50] [49,50])
 .ret)))), [.t 6, .t 7], none⟩
/- foliot/band.Base -/
def k_band_Base : KF := ⟨(.seq (.reg [] [gn (.box 2 (.t 0)), gn (.mv 4 (ci 0))] [0,4])
 (.seq (.blk 0 (.seq (.reg [] [gf 6 2 3, gl 7 6, gn (.bin 8 .eql (.t 7) (ci 2)), gm 5 8] [6,7,8])
 (.cond (.t 5) (.seq (.reg [] [gm 9 1, gm 10 1, gn (.bin 11 .add (.t 9) (.t 10)), gf 12 2 0, gl 13 12, gn (.bin 14 .add (.t 11) (.t 13)), gm 4 14] [1,2,9,10,11,12,13,14])
 .ret)
 (.seq (.reg [] [gf 16 2 7, gl 17 16, gm 15 17] [16,17])
 (.cond (.t 15) (.seq (.reg [] [gf 18 2 0, gl 19 18, gm 4 19] [2,18,19])
 .ret)
 .skip)))))
 (.seq (.reg [] [gm 20 1, gf 21 2 0, gl 22 21, gn (.bin 23 .add (.t 20) (.t 22)), gm 4 23] [1,2,20,21,22,23])
 .ret))), [.t 4], none⟩
/- foliot/pick.first -/
def k_pick_first_L0b : K := (.seq (.reg [] [gn (.bin 16 .lss (.t 15) (.t 14))] [])
 (.seq (.cond (.t 16) .skip
 (.ext 0))
 (.seq (.blk 1 (.seq (.reg [] [gm 17 15, ga 18 13 15, gl 19 18, gn (.alc 6 (.d (.agg [(.int .i64 0), (.int .i64 0), (.int .i64 0)]))), gm 5 17, gs 6 19] [17,18,19])
 (.seq (.reg [] [gl 20 6, gl 21 3, gn (.dat 22 f_pick_compare [(.t 20), (.t 21)]), gm 7 22] [20,21,22])
 (.blk 2 (.seq (.reg [] [gm 24 7, gn (.bin 25 .lss (.t 24) (ci 0)), gm 23 25] [24,25])
 (.cond (.t 23) (.reg [(0,2)] [gl 26 6, gm 27 5, gn (.dat 28 f_row_Set [(.c (.int .u64 0)), (.t 27)]), gs 3 26, gm 4 28] [5,6,26,27,28])
 (.seq (.reg [] [gm 30 7, gn (.bin 31 .eql (.t 30) (ci 0)), gm 29 31] [7,30,31])
 (.cond (.t 29) (.reg [] [gm 32 4, gm 33 5, gn (.dat 34 f_row_Set [(.t 32), (.t 33)]), gm 4 34] [5,32,33,34])
 .skip))))))))
 (.reg [] [gn (.bin 35 .add (.t 15) (ci 1)), gm 15 35] [35]))))
def k_pick_first_L0 : K := k_pick_first_L0b
def k_pick_first : KF := ⟨(.seq (.reg [] [gn (.mv 2 (ci 0))] [2])
 (.seq (.reg [] [gm 10 0, gn (.ia 11 (.t 10) (ci 0)), gl 12 11, gn (.alc 3 (.d (.agg [(.int .i64 0), (.int .i64 0), (.int .i64 0)]))), gs 3 12, gn (.mv 4 (.c (.int .u64 0)))] [10,11,12])
 (.seq (.seq (.reg [] [gm 13 0, gk 14 13, gn (.mv 15 (ci 0))] [0])
 (.blk 0 (.loop [3,4,13,14,15] k_pick_first_L0)))
 (.seq (.reg [] [gm 37 4, gn (.dat 38 f_row_First [(.t 37)]), gm 36 38, ge 39 36 0, ge 40 36 1, gm 8 39, gm 9 40] [4,9,36,37,38,39,40])
 (.seq (.reg [] [gm 41 8, gm 2 41] [8,41])
 .ret))))), [.t 2], none⟩
/- foliot/pick.compare -/
def k_pick_compare : KF := ⟨(.seq (.reg [] [gn (.box 2 (.t 0)), gn (.box 3 (.t 1)), gn (.mv 4 (ci 0))] [0,1,4])
 (.seq (.reg [(4,6), (4,8), (4,11), (9,11), (4,13), (9,13)] [gf 5 2 0, gl 6 5, gf 7 3 0, gl 8 7, gn (.dat 9 f_cmp_Compare_int [(.t 6), (.t 8)]), gf 10 2 1, gl 11 10, gf 12 3 1, gl 13 12, gn (.dat 14 f_cmp_Compare_int [(.t 11), (.t 13)]), gf 15 2 2, gl 16 15, gf 17 3 2, gl 18 17, gn (.dat 19 f_cmp_Compare_int [(.t 16), (.t 18)]), gn (.bsl 20 [(.t 9), (.t 14), (.t 19)]), gn (.dat 21 f_cmp_Or_int [(.t 20)]), gm 4 21] [2,3,5,6,7,8,9,10,11,12,13,14,15,16,17,18,19,20,21])
 .ret)), [.t 4], none⟩
/- cmp.Compare[int] -/
def k_cmp_Compare_int : KF := ⟨(.seq (.reg [] [gn (.mv 4 (ci 0))] [4])
 (.seq (.reg [] [gm 7 0, gn (.dat 8 f_cmp_isNaN_int [(.t 7)]), gm 5 8] [7,8])
 (.seq (.reg [] [gm 9 1, gn (.dat 10 f_cmp_isNaN_int [(.t 9)]), gm 6 10] [9,10])
 (.seq (.seq (.reg [] [gm 11 5] [5])
 (.cond (.t 11) (.seq (.seq (.reg [] [gm 12 6] [6])
 (.cond (.t 12) (.seq (.reg [] [gn (.mv 4 (ci 0))] [])
 .ret)
 .skip))
 (.seq (.reg [] [gn (.mv 4 (ci (-1)))] [])
 .ret))
 .skip))
 (.seq (.seq (.reg [] [gm 13 6] [6])
 (.cond (.t 13) (.seq (.reg [] [gn (.mv 4 (ci 1))] [])
 .ret)
 .skip))
 (.seq (.seq (.reg [] [gm 14 0, gm 15 1, gn (.bin 16 .lss (.t 14) (.t 15))] [14,15])
 (.cond (.t 16) (.seq (.reg [] [gn (.mv 4 (ci (-1)))] [])
 .ret)
 .skip))
 (.seq (.seq (.reg [] [gm 17 0, gm 18 1, gn (.bin 19 .gtr (.t 17) (.t 18))] [0,1,17,18])
 (.cond (.t 19) (.seq (.reg [] [gn (.mv 4 (ci 1))] [])
 .ret)
 .skip))
 (.seq (.reg [] [gn (.mv 4 (ci 0))] [])
 .ret)))))))), [.t 4], none⟩
/- cmp.isNaN[int] -/
def k_cmp_isNaN_int : KF := ⟨(.seq (.reg [] [gn (.mv 2 (.c (.bool false)))] [2])
 (.seq (.reg [] [gm 3 0, gm 4 0, gn (.bin 5 .neq (.t 3) (.t 4)), gm 2 5] [0,3,4,5])
 .ret)), [.t 2], none⟩
/- cmp.Or[int] -/
def k_cmp_Or_int_L0b : K := (.seq (.reg [] [gn (.bin 9 .lss (.t 8) (.t 7))] [])
 (.seq (.cond (.t 9) .skip
 (.ext 0))
 (.seq (.blk 1 (.seq (.reg [] [ga 10 6 8, gl 11 10, gm 5 11] [10,11])
 (.seq (.reg [] [gm 12 5, gm 13 3, gn (.bin 14 .neq (.t 12) (.t 13))] [12,13])
 (.cond (.t 14) (.seq (.reg [] [gm 15 5, gm 2 15] [5,15])
 .ret)
 .skip))))
 (.reg [] [gn (.bin 16 .add (.t 8) (ci 1)), gm 8 16] [16]))))
def k_cmp_Or_int_L0 : K := k_cmp_Or_int_L0b
def k_cmp_Or_int : KF := ⟨(.seq (.reg [] [gn (.mv 2 (ci 0))] [2])
 (.seq (.reg [] [gn (.mv 3 (ci 0))] [])
 (.seq (.seq (.reg [] [gm 6 0, gk 7 6, gn (.mv 8 (ci 0))] [0])
 (.blk 0 (.loop [3,6,7,8] k_cmp_Or_int_L0)))
 (.seq (.reg [] [gm 17 3, gm 2 17] [3,17])
 .ret)))), [.t 2], none⟩
/- foliot/row.Set -/
def k_row_Set : KF := ⟨(.seq (.reg [] [gn (.mv 4 (.c (.int .u64 0)))] [4])
 (.seq (.reg [] [gm 5 0, gm 6 1, gn (.dat 7 f_row_bit [(.t 6)]), gn (.bin 8 .or (.t 5) (.t 7)), gm 4 8] [0,1,5,6,7,8])
 .ret)), [.t 4], none⟩
/- foliot/row.bit -/
def k_row_bit : KF := ⟨(.seq (.reg [] [gn (.mv 2 (.c (.int .u64 0)))] [2])
 (.seq (.seq (.reg [] [gm 3 0, gn (.bin 4 .lss (.t 3) (ci 0)), gm 5 4, jm 5 6 0, gj 5 (.bin 7 .geq (.t 6) (ci 64)), gn (.pick 8 (.t 5) (.c (.bool true)) (.t 7))] [3,4,5,6,7])
 (.cond (.t 8) (.seq (.reg [] [gn (.mv 2 (.c (.int .u64 0)))] [])
 .ret)
 .skip))
 (.seq (.reg [] [gm 9 0, gn (.bin 10 .shl (.c (.int .u64 1)) (.t 9)), gm 2 10] [0,9,10])
 .ret))), [.t 2], none⟩
/- foliot/row.First -/
def k_row_First_L0b : K := (.seq (.seq (.reg [] [gm 7 4, gn (.bin 8 .gtr (.t 7) (ci 0))] [7])
 (.cond (.t 8) .skip
 (.ext 0)))
 (.seq (.blk 1 (.seq (.reg [] [gm 11 0, gm 12 4, gn (.bin 13 .sub (ci 64) (.t 12)), gn (.bin 14 .shl (.t 11) (.t 13)), gn (.bin 15 .eql (.t 14) (.c (.int .u64 0)))] [11,12,13,14])
 (.cond (.t 15) (.seq (.reg [] [gm 16 0, gm 17 4, gn (.bin 18 .shr (.t 16) (.t 17)), gm 0 18] [16,17,18])
 (.reg [] [gm 19 2, gm 20 4, gn (.bin 21 .add (.t 19) (.t 20)), gm 2 21] [19,20,21]))
 .skip)))
 (.reg [] [gm 9 4, gn (.bin 10 .quo (.t 9) (ci 2)), gm 4 10] [9,10])))
def k_row_First_L0 : K := k_row_First_L0b
def k_row_First : KF := ⟨(.seq (.reg [] [gn (.mv 2 (ci 0)), gn (.mv 3 (.c (.bool false)))] [3])
 (.seq (.seq (.reg [] [gm 5 0, gn (.bin 6 .eql (.t 5) (.c (.int .u64 0)))] [5])
 (.cond (.t 6) (.seq (.reg [] [gn (.mv 2 (ci 0)), gn (.mv 3 (.c (.bool false)))] [])
 .ret)
 .skip))
 (.seq (.seq (.reg [] [gn (.mv 4 (ci 32))] [])
 (.blk 0 (.loop [0,2,4] k_row_First_L0)))
 (.seq (.reg [] [gm 22 2, gm 2 22, gn (.mv 3 (.c (.bool true)))] [22])
 .ret)))), [.t 2, .t 3], none⟩
/- (*foliot/kern.turn).goes -/
def k_kern_turn_goes : KF := ⟨(.seq (.reg [] [gn (.mv 4 (.c (.bool false)))] [4])
 (.seq (.reg [(4,19), (8,19), (9,19), (10,19), (13,19), (14,19), (4,20), (8,20), (9,20), (10,20), (13,20), (14,20)] [gm 13 0, gc 14 13, gf 15 14 0, gf 16 15 2, gl 17 16, gm 18 1, gc 19 18, gf 20 19 0, gl 21 20, ga 22 17 21, gl 23 22, gm 24 1, gc 25 24, gl 26 25, gn (.das 27 f_job_Go [(.t 23), (.t 26)]), gm 12 27, ge 28 12 0, ge 29 12 1, ge 30 12 2, gn (.alc 5 (.d (.agg [(.int .i64 0), (.int .i64 0), (.int .i64 0), (.int .i64 0), (.agg [(.int .i64 0), (.agg [(.int .i64 0), (.int .i64 0), (.int .i64 0), (.int .i64 0), (.int .i64 0), (.int .i64 0), (.int .i64 0), (.int .i64 0)]), (.sl true []), (.bool false)]), (.agg [(.int .i64 0), (.agg [(.int .i64 0), (.int .i64 0), (.int .i64 0), (.int .i64 0), (.int .i64 0), (.int .i64 0), (.int .i64 0), (.int .i64 0)]), (.sl true []), (.bool false)]), (.sl true []), (.bool false)]))), gn (.alc 6 (.d (.agg [(.int .i64 0), (.int .i64 0), (.int .i64 0), (.int .i64 0)]))), gs 5 28, gs 6 29, gm 7 30] [12,13,14,15,16,17,18,19,20,21,22,23,24,25,26,27,28,29,30])
 (.seq (.seq (.reg [] [gm 31 7, gn (.un 32 .not (.t 31))] [7,31])
 (.cond (.t 32) (.seq (.reg [] [gn (.mv 4 (.c (.bool false)))] [])
 .ret)
 .skip))
 (.seq (.reg [] [gm 33 1, gl 34 5, gc 35 33, gs 35 34] [5,33,34,35])
 (.seq (.seq (.reg [] [gf 36 6 0, gl 37 36] [36])
 (.blk 0 (.seq (.reg [] [gn (.bin 39 .eql (.t 37) (ci 9)), gm 38 39] [39])
 (.cond (.t 38) (.seq (.reg [(4,6), (4,10)] [gm 41 0, gc 42 41, gf 43 42 0, gl 44 43, gn (.dat 45 f_kern_Locks [(.t 44)]), gf 46 6 1, gl 47 46, gm 48 1, gc 49 48, gf 50 49 0, gl 51 50, gn (.das 52 f_sema_Take [(.t 45), (.t 47), (.t 51)]), gm 40 52, ge 53 40 0, ge 54 40 1, gm 8 53, gm 9 54] [6,9,40,41,42,43,44,45,46,47,48,49,50,51,52,53,54])
 (.reg [] [gm 55 0, gc 56 55, gf 57 56 0, gm 58 8, gn (.cal 59 f_kern_Kernel_lock [(.t 57), (.t 58)] [])] [8,55,56,57,58,59]))
 (.seq (.reg [] [gn (.bin 61 .eql (.t 37) (ci 10)), gm 60 61] [37,61])
 (.cond (.t 60) (.seq (.reg [(4,6), (4,10)] [gm 63 0, gc 64 63, gf 65 64 0, gl 66 65, gn (.dat 67 f_kern_Locks [(.t 66)]), gf 68 6 1, gl 69 68, gm 70 1, gc 71 70, gf 72 71 0, gl 73 72, gn (.das 74 f_sema_Let [(.t 67), (.t 69), (.t 73)]), gm 62 74, ge 75 62 0, ge 76 62 1, gm 10 75, gm 11 76] [6,11,62,63,64,65,66,67,68,69,70,71,72,73,74,75,76])
 (.reg [] [gm 77 0, gc 78 77, gf 79 78 0, gm 80 10, gn (.cal 81 f_kern_Kernel_lock [(.t 79), (.t 80)] [])] [10,77,78,79,80,81]))
 .skip))))))
 (.seq (.reg [] [gm 82 1, gc 83 82, gf 84 83 4, gf 85 84 3, gl 86 85, gm 87 86, hm 87 88 0, hm 87 89 1, gh 87 (.cal 90 f_kern_turn_done [(.t 88), (.t 89)] []), gn (.pick 91 (.t 87) (.t 90) (.c (.bool false))), gm 4 91] [0,1,82,83,84,85,86,87,88,89,90,91])
 .ret)))))), [.t 4], none⟩
/- foliot/job.Go -/
def k_job_Go_L0b : K := (.seq (.seq (.reg [] [gm 49 8, gn (.bin 50 .geq (.t 49) (ci 0))] [49])
 (.cond (.t 50) .skip
 (.ext 1)))
 (.seq (.blk 2 (.seq (.reg [] [gf 53 4 6, gl 54 53, gm 55 8, ga 56 54 55, gl 57 56, gf 58 5 1, gl 59 58, gn (.bin 60 .eql (.t 57) (.t 59))] [53,54,55,56,57,58,59])
 (.cond (.t 60) (.seq (.reg [] [gf 61 4 6, gl 62 61, gm 63 8, gm 64 8, gn (.bin 65 .add (.t 64) (ci 1)), gn (.cal 66 f_slices_Delete_int_int [(.t 62), (.t 63), (.t 65)] []), gf 67 4 6, gs 67 66] [8,61,62,63,64,65,66,67])
 (.ext 1))
 .skip)))
 (.reg [] [gm 51 8, gn (.bin 52 .sub (.t 51) (ci 1)), gm 8 52] [51,52])))
def k_job_Go_L0 : K := k_job_Go_L0b
def k_job_Go : KF := ⟨(.seq (.reg [] [gn (.box 2 (.t 0)), gn (.box 3 (.t 1)), gn (.alc 4 (.d (.agg [(.int .i64 0), (.int .i64 0), (.int .i64 0), (.int .i64 0), (.agg [(.int .i64 0), (.agg [(.int .i64 0), (.int .i64 0), (.int .i64 0), (.int .i64 0), (.int .i64 0), (.int .i64 0), (.int .i64 0), (.int .i64 0)]), (.sl true []), (.bool false)]), (.agg [(.int .i64 0), (.agg [(.int .i64 0), (.int .i64 0), (.int .i64 0), (.int .i64 0), (.int .i64 0), (.int .i64 0), (.int .i64 0), (.int .i64 0)]), (.sl true []), (.bool false)]), (.sl true []), (.bool false)]))), gn (.alc 5 (.d (.agg [(.int .i64 0), (.int .i64 0), (.int .i64 0), (.int .i64 0)]))), gn (.mv 6 (.c (.bool false)))] [0,1,6])
 (.seq (.reg [] [gl 9 3, gn (.cal 10 f_job_twin [(.t 9)] []), gs 4 10] [9,10])
 (.seq (.reg [(2,4), (0,10), (1,10), (2,10), (4,10), (5,10)] [gl 12 2, gl 13 3, gn (.das 14 f_job_Code [(.t 12), (.t 13)]), gf 15 3 4, gl 16 15, gn (.dat 17 f_vm_Step [(.t 14), (.t 16)]), gm 11 17, ge 18 11 0, ge 19 11 1, ge 20 11 2, gn (.alc 7 (.d (.agg [(.int .i64 0), (.agg [(.int .i64 0), (.int .i64 0), (.int .i64 0), (.int .i64 0), (.int .i64 0), (.int .i64 0), (.int .i64 0), (.int .i64 0)]), (.sl true []), (.bool false)]))), gs 7 18, gs 5 19, gm 6 20] [2,3,11,12,13,14,15,16,17,18,19,20])
 (.seq (.seq (.reg [] [gm 21 6, gn (.un 22 .not (.t 21))] [6,21])
 (.cond (.t 22) (.seq (.reg [] [gl 23 4, gn (.bld 24 [(ci 0), (ci 0), (ci 0), (ci 0)]), gs 4 23, gs 5 24, gn (.mv 6 (.c (.bool false)))] [23,24])
 .ret)
 .skip))
 (.seq (.reg [] [gl 25 7, gf 26 4 4, gs 26 25] [25,26])
 (.seq (.seq (.reg [] [gf 27 5 0, gl 28 27] [27])
 (.blk 0 (.seq (.reg [] [gn (.bin 30 .eql (.t 28) (ci 11)), gm 29 30] [30])
 (.cond (.t 29) (.reg [] [gl 31 7, gn (.das 32 f_job_machine [(.t 31)]), gf 33 4 5, gs 33 32] [7,31,32,33])
 (.seq (.reg [] [gn (.bin 35 .eql (.t 28) (ci 9)), gm 34 35] [35])
 (.cond (.t 34) (.reg [] [gf 36 4 6, gl 37 36, gf 38 5 1, gl 39 38, gn (.bsl 40 [(.t 39)]), gp 41 37 40, gf 42 4 6, gs 42 41] [36,37,38,39,40,41,42])
 (.seq (.reg [] [gn (.bin 44 .eql (.t 28) (ci 10)), gm 43 44] [28,44])
 (.cond (.t 43) (.seq (.reg [] [gf 45 4 6, gl 46 45, gk 47 46, gn (.bin 48 .sub (.t 47) (ci 1)), gm 8 48] [45,46,47,48])
 (.blk 1 (.loop [4,5,8] k_job_Go_L0)))
 .skip))))))))
 (.seq (.reg [(1,2)] [gl 68 4, gl 69 5, gs 4 68, gs 5 69, gn (.mv 6 (.c (.bool true)))] [68,69])
 .ret))))))), [.cell 4, .cell 5, .t 6], none⟩
/- foliot/job.twin -/
def k_job_twin : KF := ⟨(.seq (.reg [] [gn (.box 1 (.t 0)), gn (.alc 2 (.d (.agg [(.int .i64 0), (.int .i64 0), (.int .i64 0), (.int .i64 0), (.agg [(.int .i64 0), (.agg [(.int .i64 0), (.int .i64 0), (.int .i64 0), (.int .i64 0), (.int .i64 0), (.int .i64 0), (.int .i64 0), (.int .i64 0)]), (.sl true []), (.bool false)]), (.agg [(.int .i64 0), (.agg [(.int .i64 0), (.int .i64 0), (.int .i64 0), (.int .i64 0), (.int .i64 0), (.int .i64 0), (.int .i64 0), (.int .i64 0)]), (.sl true []), (.bool false)]), (.sl true []), (.bool false)])))] [0])
 (.seq (.reg [(2,4), (2,7), (5,7)] [gf 3 1 4, gl 4 3, gn (.das 5 f_job_machine [(.t 4)]), gf 6 1 5, gl 7 6, gn (.das 8 f_job_machine [(.t 7)]), gf 9 1 6, gl 10 9, gn (.dat 11 f_slices_Clone_int_int [(.t 10)]), gf 12 1 4, gs 12 5, gf 13 1 5, gs 13 8, gf 14 1 6, gs 14 11] [3,4,5,6,7,8,9,10,11,12,13,14])
 (.seq (.reg [] [gl 15 1, gs 2 15] [1,15])
 .ret))), [.cell 2], none⟩
/- foliot/job.machine -/
def k_job_machine : KF := ⟨(.seq (.reg [] [gn (.box 1 (.t 0)), gn (.alc 2 (.d (.agg [(.int .i64 0), (.agg [(.int .i64 0), (.int .i64 0), (.int .i64 0), (.int .i64 0), (.int .i64 0), (.int .i64 0), (.int .i64 0), (.int .i64 0)]), (.sl true []), (.bool false)])))] [0])
 (.seq (.reg [] [gf 3 1 2, gl 4 3, gn (.dat 5 f_slices_Clone_api_Rep2_api_Rep2 [(.t 4)]), gf 6 1 2, gs 6 5] [3,4,5,6])
 (.seq (.reg [] [gl 7 1, gs 2 7] [1,7])
 .ret))), [.cell 2], none⟩
/- foliot/job.Code -/
def k_job_Code : KF := ⟨(.seq (.reg [] [gn (.box 2 (.t 0)), gn (.box 3 (.t 1)), gn (.mv 4 (.c (.d (.sl true []))))] [0,1,4])
 (.seq (.reg [] [gn (.mkm 6), gf 7 2 3, gl 8 7, gn (.mu (.t 6) (ci 0) (.t 8)), gf 9 2 4, gl 10 9, gn (.mu (.t 6) (ci 1) (.t 10)), gf 11 2 5, gl 12 11, gn (.mu (.t 6) (ci 2) (.t 12)), gm 13 6, gm 5 13] [2,6,7,8,9,10,11,12,13])
 (.seq (.reg [] [gm 14 5, gf 15 3 3, gl 16 15, gn (.lk 17 (.t 14) (.t 16) (.d (.sl true [])) false), gn (.das 18 f_slices_Clone_api_Inst_api_Inst [(.t 17)]), gm 4 18] [3,5,14,15,16,17,18])
 .ret))), [.t 4], none⟩
/- foliot/vm.Step -/
def k_vm_Step : KF := ⟨(.seq (.reg [] [gn (.box 3 (.t 1)), gn (.alc 4 (.d (.agg [(.int .i64 0), (.agg [(.int .i64 0), (.int .i64 0), (.int .i64 0), (.int .i64 0), (.int .i64 0), (.int .i64 0), (.int .i64 0), (.int .i64 0)]), (.sl true []), (.bool false)]))), gn (.alc 5 (.d (.agg [(.int .i64 0), (.int .i64 0), (.int .i64 0), (.int .i64 0)]))), gn (.mv 6 (.c (.bool false)))] [1,6])
 (.seq (.seq (.reg [] [gf 11 3 3, gl 12 11, gm 13 12, gj 13 (.fa 14 (.t 3) 0), gj 13 (.ld 15 (.t 14)), gj 13 (.bin 16 .lss (.t 15) (ci 0)), gn (.pick 17 (.t 13) (.c (.bool true)) (.t 16)), gm 18 17, gj 18 (.fa 19 (.t 3) 0), gj 18 (.ld 20 (.t 19)), jm 18 21 0, gj 18 (.len 22 (.t 21)), gj 18 (.bin 23 .geq (.t 20) (.t 22)), gn (.pick 24 (.t 18) (.c (.bool true)) (.t 23)), gm 25 24, jm 25 26 0, gj 25 (.fa 27 (.t 3) 0), gj 25 (.ld 28 (.t 27)), gj 25 (.ia 29 (.t 26) (.t 28)), gj 25 (.ld 30 (.t 29)), gj 25 (.dat 31 f_code_May [(.t 30)]), gj 25 (.un 32 .not (.t 31)), gn (.pick 33 (.t 25) (.c (.bool true)) (.t 32))] [11,12,13,14,15,16,17,18,19,20,21,22,23,24,25,26,27,28,29,30,31,32])
 (.cond (.t 33) (.seq (.reg [] [gl 34 3, gn (.dat 35 f_vm_twin [(.t 34)]), gn (.bld 36 [(ci 0), (ci 0), (ci 0), (ci 0)]), gs 4 35, gs 5 36, gn (.mv 6 (.c (.bool false)))] [3,34,35,36])
 .ret)
 .skip))
 (.seq (.reg [] [gl 37 3, gn (.dat 38 f_vm_twin [(.t 37)]), gs 3 38] [37,38])
 (.seq (.reg [] [gm 39 0, gf 40 3 0, gl 41 40, ga 42 39 41, gl 43 42, gn (.alc 7 (.d (.agg [(.int .i64 0), (.int .i64 0), (.int .i64 0), (.int .i64 0)]))), gs 7 43] [0,39,40,41,42,43])
 (.seq (.reg [] [gf 44 3 0, gl 45 44, gn (.bin 46 .add (.t 45) (ci 1)), gm 8 46] [44,45,46])
 (.seq (.seq (.reg [] [gf 47 7 1, gl 48 47, gf 49 3 1, ga 50 49 48, gf 51 7 2, gl 52 51, gn (.bin 53 .rem (.t 52) (ci 8)), gf 54 3 1, ga 55 54 53, gl 56 55, gm 9 50, gm 10 56] [47,48,49,50,51,52,53,54,55,56])
 (.seq (.reg [] [gf 57 7 0, gl 58 57] [57])
 (.blk 0 (.seq (.reg [] [gn (.bin 60 .eql (.t 58) (ci 0)), gm 59 60] [60])
 (.cond (.t 59) (.reg [] [gf 61 3 0, gl 62 61, gm 8 62, gf 63 3 3, gn (.st (.t 63) (.c (.bool true)))] [61,62,63])
 (.seq (.reg [] [gn (.bin 65 .eql (.t 58) (ci 1)), gm 64 65] [65])
 (.cond (.t 64) (.reg [] [gm 66 9, gf 67 7 3, gl 68 67, gc 69 66, gs 69 68] [9,66,67,68,69])
 (.seq (.reg [] [gn (.bin 71 .eql (.t 58) (ci 2)), gm 70 71] [71])
 (.cond (.t 70) (.reg [] [gm 72 9, gm 73 9, gc 74 73, gl 75 74, gn (.cv 76 .u64 (.t 75)), gm 77 10, gn (.cv 78 .u64 (.t 77)), gn (.bin 79 .add (.t 76) (.t 78)), gn (.cv 80 .i64 (.t 79)), gc 81 72, gs 81 80] [9,10,72,73,74,75,76,77,78,79,80,81])
 (.seq (.reg [] [gn (.bin 83 .eql (.t 58) (ci 3)), gm 82 83] [83])
 (.cond (.t 82) (.reg [] [gm 84 9, gm 85 9, gc 86 85, gl 87 86, gn (.cv 88 .u64 (.t 87)), gm 89 10, gn (.cv 90 .u64 (.t 89)), gn (.bin 91 .sub (.t 88) (.t 90)), gn (.cv 92 .i64 (.t 91)), gc 93 84, gs 93 92] [9,10,84,85,86,87,88,89,90,91,92,93])
 (.seq (.reg [] [gn (.bin 95 .eql (.t 58) (ci 4)), gm 94 95] [95])
 (.cond (.t 94) (.reg [] [gm 96 9, gm 97 9, gc 98 97, gl 99 98, gn (.cv 100 .u64 (.t 99)), gm 101 10, gn (.cv 102 .u64 (.t 101)), gn (.bin 103 .mul (.t 100) (.t 102)), gn (.cv 104 .i64 (.t 103)), gc 105 96, gs 105 104] [9,10,96,97,98,99,100,101,102,103,104,105])
 (.seq (.reg [] [gn (.bin 107 .eql (.t 58) (ci 5)), gm 106 107] [107])
 (.cond (.t 106) (.reg [] [gm 108 9, gm 109 9, gc 110 109, gl 111 110, gf 112 7 3, gl 113 112, gn (.dat 114 f_vm_Shift [(.t 111), (.t 113)]), gc 115 108, gs 115 114] [9,108,109,110,111,112,113,114,115])
 (.seq (.reg [] [gn (.bin 117 .eql (.t 58) (ci 6)), gm 116 117] [117])
 (.cond (.t 116) (.reg [] [gm 118 9, gm 119 9, gc 120 119, gl 121 120, gf 122 7 3, gl 123 122, gn (.dat 124 f_vm_Narrow [(.t 121), (.t 123)]), gc 125 118, gs 125 124] [9,118,119,120,121,122,123,124,125])
 (.seq (.reg [] [gn (.bin 127 .eql (.t 58) (ci 7)), gm 126 127] [127])
 (.cond (.t 126) (.seq (.reg [] [gm 128 9, gc 129 128, gl 130 129, gn (.bin 131 .eql (.t 130) (ci 0))] [9,128,129,130])
 (.cond (.t 131) (.reg [] [gm 132 8, gf 133 7 3, gl 134 133, gn (.bin 135 .add (.t 132) (.t 134)), gm 8 135] [132,133,134,135])
 .skip))
 (.seq (.reg [] [gn (.bin 137 .eql (.t 58) (ci 8)), gm 136 137] [58,137])
 (.cond (.t 136) (.reg [] [gf 138 3 2, gl 139 138, gf 140 3 0, gl 141 140, gn (.bin 142 .add (.t 141) (ci 1)), gf 143 3 0, gl 144 143, gf 145 7 2, gl 146 145, gn (.bin 147 .add (.t 144) (.t 146)), gf 148 7 3, gl 149 148, gn (.bin 150 .sub (.t 149) (ci 1)), gn (.bld 151 [(.t 142), (.t 147), (.t 150)]), gn (.bsl 152 [(.t 151)]), gp 153 139 152, gf 154 3 2, gs 154 153] [138,139,140,141,142,143,144,145,146,147,148,149,150,151,152,153,154])
 .skip)))))))))))))))))))))
 (.seq (.reg [] [gm 155 8, gf 156 3 0, gs 156 155] [8,155,156])
 (.seq (.reg [(1,2), (2,3)] [gl 157 3, gn (.cal 158 f_vm_goes [(.t 157)] [7]), gl 159 7, gs 4 158, gs 5 159, gn (.mv 6 (.c (.bool true)))] [3,7,157,158,159])
 .ret)))))))), [.cell 4, .cell 5, .t 6], none⟩
/- foliot/vm.twin -/
def k_vm_twin : KF := ⟨(.seq (.reg [] [gn (.box 1 (.t 0)), gn (.alc 2 (.d (.agg [(.int .i64 0), (.agg [(.int .i64 0), (.int .i64 0), (.int .i64 0), (.int .i64 0), (.int .i64 0), (.int .i64 0), (.int .i64 0), (.int .i64 0)]), (.sl true []), (.bool false)])))] [0])
 (.seq (.reg [] [gf 3 1 2, gl 4 3, gn (.dat 5 f_slices_Clone_api_Rep2_api_Rep2 [(.t 4)]), gf 6 1 2, gs 6 5] [3,4,5,6])
 (.seq (.reg [] [gl 7 1, gs 2 7] [1,7])
 .ret))), [.cell 2], none⟩
/- foliot/vm.Shift -/
def k_vm_Shift : KF := ⟨(.seq (.reg [] [gn (.mv 4 (ci 0))] [4])
 (.seq (.blk 0 (.seq (.reg [] [gm 6 1, gn (.bin 7 .leq (.t 6) (ci (-64))), gm 8 7, jm 8 9 1, gj 8 (.bin 10 .geq (.t 9) (ci 64)), gn (.pick 11 (.t 8) (.c (.bool true)) (.t 10)), gm 5 11] [6,7,8,9,10,11])
 (.cond (.t 5) (.seq (.reg [] [gm 12 0, gm 4 12] [0,12])
 .ret)
 (.seq (.reg [] [gm 14 1, gn (.bin 15 .lss (.t 14) (ci 0)), gm 13 15] [14,15])
 (.cond (.t 13) (.seq (.reg [] [gm 16 0, gm 17 1, gn (.un 18 .neg (.t 17)), gn (.bin 19 .shr (.t 16) (.t 18)), gm 4 19] [0,1,16,17,18,19])
 .ret)
 .skip)))))
 (.seq (.reg [] [gm 20 0, gn (.cv 21 .u64 (.t 20)), gm 22 1, gn (.bin 23 .shl (.t 21) (.t 22)), gn (.cv 24 .i64 (.t 23)), gm 4 24] [0,1,20,21,22,23,24])
 .ret))), [.t 4], none⟩
/- foliot/vm.Narrow -/
def k_vm_Narrow : KF := ⟨(.seq (.reg [] [gn (.mv 4 (ci 0))] [4])
 (.seq (.seq (.reg [] [gm 5 1, gn (.bin 6 .lss (.t 5) (ci 1)), gm 7 6, jm 7 8 1, gj 7 (.bin 9 .gtr (.t 8) (ci 64)), gn (.pick 10 (.t 7) (.c (.bool true)) (.t 9))] [5,6,7,8,9])
 (.cond (.t 10) (.seq (.reg [] [gm 11 0, gm 4 11] [0,11])
 .ret)
 .skip))
 (.seq (.reg [] [gm 12 0, gm 13 1, gn (.bin 14 .sub (ci 64) (.t 13)), gn (.bin 15 .shl (.t 12) (.t 14)), gm 16 1, gn (.bin 17 .sub (ci 64) (.t 16)), gn (.bin 18 .shr (.t 15) (.t 17)), gm 4 18] [0,1,12,13,14,15,16,17,18])
 .ret))), [.t 4], none⟩
/- foliot/vm.goes -/
def k_vm_goes_L0b : K := (.seq (.seq (.reg [] [gm 8 3, gn (.bin 9 .gtr (.t 8) (ci 0)), gm 10 9, gh 10 (.fa 11 (.t 1) 2), gh 10 (.ld 12 (.t 11)), hm 10 13 3, gh 10 (.bin 14 .sub (.t 13) (ci 1)), gh 10 (.ia 15 (.t 12) (.t 14)), gh 10 (.fa 16 (.t 15) 1), gh 10 (.ld 17 (.t 16)), gh 10 (.fa 18 (.t 1) 0), gh 10 (.ld 19 (.t 18)), gh 10 (.bin 20 .lss (.t 17) (.t 19)), gn (.pick 21 (.t 10) (.t 20) (.c (.bool false)))] [8,9,10,11,12,13,14,15,16,17,18,19,20])
 (.cond (.t 21) .skip
 (.ext 0)))
 (.seq (.blk 1 (.seq (.seq (.reg [] [gf 25 1 2, gl 26 25, gm 27 3, gn (.bin 28 .sub (.t 27) (ci 1)), ga 29 26 28, gm 4 29] [25,26,27,28,29])
 (.seq (.reg [] [gm 30 4, gc 31 30, gf 32 31 2, gl 33 32, gn (.bin 34 .gtr (.t 33) (ci 0))] [30,31,32,33])
 (.cond (.t 34) (.seq (.reg [] [gm 35 4, gc 36 35, gf 37 36 0, gl 38 37, gf 39 1 0, gs 39 38] [35,36,37,38,39])
 (.seq (.reg [] [gm 40 4, gc 41 40, gf 42 41 2, gl 43 42, gn (.bin 44 .sub (.t 43) (ci 1)), gc 45 40, gf 46 45 2, gs 46 44] [4,40,41,42,43,44,45,46])
 (.seq (.reg [] [gl 47 1, gs 2 47] [1,47])
 .ret)))
 .skip)))
 (.reg [] [gf 48 1 2, gl 49 48, gm 50 3, gn (.bin 51 .sub (.t 50) (ci 1)), gn (.slc 52 (.t 49) none (some (.t 51))), gf 53 1 2, gs 53 52] [3,48,49,50,51,52,53])))
 (.reg [] [gf 22 1 2, gl 23 22, gk 24 23, gm 3 24] [22,23,24])))
def k_vm_goes_L0 : K := k_vm_goes_L0b
def k_vm_goes : KF := ⟨(.seq (.reg [] [gn (.box 1 (.t 0)), gn (.alc 2 (.d (.agg [(.int .i64 0), (.agg [(.int .i64 0), (.int .i64 0), (.int .i64 0), (.int .i64 0), (.int .i64 0), (.int .i64 0), (.int .i64 0), (.int .i64 0)]), (.sl true []), (.bool false)])))] [0])
 (.seq (.seq (.reg [] [gf 5 1 2, gl 6 5, gk 7 6, gm 3 7] [5,6,7])
 (.blk 0 (.loop [1,2,3] k_vm_goes_L0)))
 (.seq (.reg [] [gl 54 1, gs 2 54] [1,54])
 .ret))), [.cell 2], none⟩
/- slices.Delete[[]int,int] -/
def k_slices_Delete_int_int : KF := ⟨.skip, [], some .del⟩
/- foliot/sema.Take -/
def k_sema_Take : KF := ⟨(.seq (.reg [] [gn (.mv 6 (.c (.d (.sl true [])))), gn (.mv 7 (.c (.bool false)))] [6,7])
 (.seq (.reg [] [gm 9 0, gn (.dat 10 f_slices_Clone_api_Sema_api_Sema [(.t 9)]), gm 8 10] [9,10])
 (.seq (.seq (.reg [] [gm 11 0, gm 12 1, gn (.dat 13 f_sema_has [(.t 11), (.t 12)]), gn (.un 14 .not (.t 13)), gm 15 14, jm 15 16 0, jm 15 17 1, gj 15 (.ia 18 (.t 16) (.t 17)), gj 15 (.fa 19 (.t 18) 1), gj 15 (.ld 20 (.t 19)), gj 15 (.bin 21 .neq (.t 20) (ci 0)), gn (.pick 22 (.t 15) (.c (.bool true)) (.t 21))] [0,11,12,13,14,15,16,17,18,19,20,21])
 (.cond (.t 22) (.seq (.reg [] [gm 23 8, gm 6 23, gn (.mv 7 (.c (.bool false)))] [8,23])
 .ret)
 .skip))
 (.seq (.reg [] [gm 24 8, gm 25 1, gm 26 2, gn (.bin 27 .add (.t 26) (ci 1)), ga 28 24 25, gf 29 28 1, gs 29 27] [1,2,24,25,26,27,28,29])
 (.seq (.reg [] [gm 30 8, gm 6 30, gn (.mv 7 (.c (.bool true)))] [8,30])
 .ret))))), [.t 6, .t 7], none⟩
/- foliot/sema.Let -/
def k_sema_Let : KF := ⟨(.seq (.reg [] [gn (.mv 6 (.c (.d (.sl true [])))), gn (.mv 7 (.c (.bool false)))] [6,7])
 (.seq (.reg [] [gm 9 0, gn (.dat 10 f_slices_Clone_api_Sema_api_Sema [(.t 9)]), gm 8 10] [9,10])
 (.seq (.seq (.reg [] [gm 11 0, gm 12 1, gm 13 2, gn (.dat 14 f_sema_holds [(.t 11), (.t 12), (.t 13)]), gn (.un 15 .not (.t 14))] [0,2,11,12,13,14])
 (.cond (.t 15) (.seq (.reg [] [gm 16 8, gm 6 16, gn (.mv 7 (.c (.bool false)))] [8,16])
 .ret)
 .skip))
 (.seq (.reg [] [gm 17 8, gm 18 1, ga 19 17 18, gf 20 19 1, gn (.st (.t 20) (ci 0))] [1,17,18,19,20])
 (.seq (.reg [] [gm 21 8, gm 6 21, gn (.mv 7 (.c (.bool true)))] [8,21])
 .ret))))), [.t 6, .t 7], none⟩
/- (*foliot/kern.turn).done -/
def k_kern_turn_done : KF := ⟨(.seq (.reg [] [gn (.mv 4 (.c (.bool false)))] [4])
 (.seq (.reg [] [gm 6 1, gc 7 6, gf 8 7 4, gf 9 8 1, gn (.ia 10 (.t 9) (ci 0)), gl 11 10, gm 5 11] [6,7,8,9,10,11])
 (.seq (.seq (.reg [] [gm 12 1, gc 13 12, gf 14 13 3, gl 15 14, gn (.bin 16 .eql (.t 15) (ci 2))] [12,13,14,15])
 (.cond (.t 16) (.seq (.reg [] [gm 17 0, gm 18 1, gc 19 18, gf 20 19 0, gl 21 20, gm 22 5, gn (.bld 23 [(ci 0), (ci 4), (.t 21), (ci 0), (.t 22), (ci 0)]), gn (.cal 24 f_kern_turn_tells [(.t 17), (.t 23)] [])] [0,1,5,17,18,19,20,21,22,23,24])
 (.seq (.reg [] [gn (.mv 4 (.c (.bool true)))] [])
 .ret))
 .skip))
 (.seq (.reg [] [gm 25 0, gm 26 1, gc 27 26, gf 28 27 0, gl 29 28, gm 30 5, gn (.bld 31 [(ci 0), (ci 3), (.t 29), (ci 0), (.t 30), (ci 0)]), gn (.cal 32 f_kern_turn_tells [(.t 25), (.t 31)] [])] [5,25,26,27,28,29,30,31,32])
 (.seq (.seq (.reg [] [gm 33 1, gc 34 33, gf 35 34 3, gl 36 35, gn (.bin 37 .eql (.t 36) (ci 0)), gm 38 37, hm 38 39 0, gh 38 (.nck 40 (.t 39)), gh 38 (.fa 41 (.t 40) 0), gh 38 (.fa 42 (.t 41) 2), gh 38 (.ld 43 (.t 42)), hm 38 44 1, gh 38 (.nck 45 (.t 44)), gh 38 (.fa 46 (.t 45) 0), gh 38 (.ld 47 (.t 46)), gh 38 (.ia 48 (.t 43) (.t 47)), gh 38 (.fa 49 (.t 48) 4), gh 38 (.ld 50 (.t 49)), gh 38 (.len 51 (.t 50)), gh 38 (.bin 52 .gtr (.t 51) (ci 0)), gn (.pick 53 (.t 38) (.t 52) (.c (.bool false)))] [33,34,35,36,37,38,39,40,41,42,43,44,45,46,47,48,49,50,51,52])
 (.cond (.t 53) (.reg [] [gm 54 0, gm 55 1, gc 56 55, gf 57 56 0, gl 58 57, gn (.bld 59 [(ci 0), (ci 8), (.t 58), (ci 0), (ci 0), (ci 0)]), gn (.cal 60 f_kern_turn_tells [(.t 54), (.t 59)] [])] [54,55,56,57,58,59,60])
 .skip))
 (.seq (.reg [] [gm 61 0, gm 62 0, gc 63 62, gf 64 63 0, gf 65 64 9, gl 66 65, gm 67 1, gc 68 67, gf 69 68 0, gl 70 69, gn (.das 71 f_watch_Good [(.t 66), (.t 70)]), gc 72 61, gf 73 72 0, gf 74 73 9, gs 74 71] [61,62,63,64,65,66,67,68,69,70,71,72,73,74])
 (.seq (.reg [] [gm 75 1, gm 76 1, gc 77 76, gl 78 77, gn (.das 79 f_job_Opt [(.t 78)]), gc 80 75, gs 80 79] [75,76,77,78,79,80])
 (.seq (.reg [] [gm 81 0, gc 82 81, gf 83 82 0, gf 84 83 2, gl 85 84, gm 86 1, gc 87 86, gf 88 87 0, gl 89 88, ga 90 85 89, gf 91 90 5, gl 92 91, gk 93 92, gn (.bin 94 .eql (.t 93) (ci 0)), gm 4 94] [0,1,81,82,83,84,85,86,87,88,89,90,91,92,93,94])
 .ret)))))))), [.t 4], none⟩
/- foliot/job.Opt -/
def k_job_Opt : KF := ⟨(.seq (.reg [] [gn (.box 1 (.t 0)), gn (.alc 2 (.d (.agg [(.int .i64 0), (.int .i64 0), (.int .i64 0), (.int .i64 0), (.agg [(.int .i64 0), (.agg [(.int .i64 0), (.int .i64 0), (.int .i64 0), (.int .i64 0), (.int .i64 0), (.int .i64 0), (.int .i64 0), (.int .i64 0)]), (.sl true []), (.bool false)]), (.agg [(.int .i64 0), (.agg [(.int .i64 0), (.int .i64 0), (.int .i64 0), (.int .i64 0), (.int .i64 0), (.int .i64 0), (.int .i64 0), (.int .i64 0)]), (.sl true []), (.bool false)]), (.sl true []), (.bool false)])))] [0])
 (.seq (.reg [] [gl 4 1, gn (.cal 5 f_job_twin [(.t 4)] []), gn (.alc 3 (.d (.agg [(.int .i64 0), (.int .i64 0), (.int .i64 0), (.int .i64 0), (.agg [(.int .i64 0), (.agg [(.int .i64 0), (.int .i64 0), (.int .i64 0), (.int .i64 0), (.int .i64 0), (.int .i64 0), (.int .i64 0), (.int .i64 0)]), (.sl true []), (.bool false)]), (.agg [(.int .i64 0), (.agg [(.int .i64 0), (.int .i64 0), (.int .i64 0), (.int .i64 0), (.int .i64 0), (.int .i64 0), (.int .i64 0), (.int .i64 0)]), (.sl true []), (.bool false)]), (.sl true []), (.bool false)]))), gs 3 5] [4,5])
 (.seq (.reg [(4,7), (4,8)] [gf 6 1 4, gf 7 6 1, gn (.ia 8 (.t 7) (ci 0)), gl 9 8, gn (.dat 10 f_vm_New [(.t 9)]), gf 11 1 4, gf 12 11 1, gn (.ia 13 (.t 12) (ci 0)), gl 14 13, gn (.dat 15 f_vm_New [(.t 14)]), gf 16 3 3, gn (.st (.t 16) (ci 2)), gf 17 3 4, gs 17 10, gf 18 3 5, gs 18 15, gf 19 3 6, gn (.st (.t 19) (.c (.d (.sl true [])))), gf 20 3 7, gn (.st (.t 20) (.c (.bool false)))] [1,6,7,8,9,10,11,12,13,14,15,16,17,18,19,20])
 (.seq (.reg [] [gl 21 3, gs 2 21] [3,21])
 .ret)))), [.cell 2], none⟩
/- (*foliot/kern.turn).hits -/
def k_kern_turn_hits : KF := ⟨(.seq (.reg [] [gn (.mv 4 (.c (.bool false)))] [4])
 (.seq (.reg [(4,18), (8,18), (9,18), (10,18), (13,18), (4,24), (8,24), (9,24), (10,24), (13,24), (17,24), (18,24), (19,24)] [gm 9 0, gc 10 9, gf 11 10 0, gf 12 11 2, gl 13 12, gm 14 1, gc 15 14, gf 16 15 0, gl 17 16, ga 18 13 17, gl 19 18, gm 20 1, gc 21 20, gl 22 21, gm 23 0, gc 24 23, gf 25 24 0, gl 26 25, gn (.dat 27 f_kern_Locks [(.t 26)]), gn (.das 28 f_fault_Hit [(.t 19), (.t 22), (.t 27)]), gm 8 28, ge 29 8 0, ge 30 8 1, ge 31 8 2, gn (.alc 5 (.d (.agg [(.int .i64 0), (.int .i64 0), (.int .i64 0), (.int .i64 0), (.agg [(.int .i64 0), (.agg [(.int .i64 0), (.int .i64 0), (.int .i64 0), (.int .i64 0), (.int .i64 0), (.int .i64 0), (.int .i64 0), (.int .i64 0)]), (.sl true []), (.bool false)]), (.agg [(.int .i64 0), (.agg [(.int .i64 0), (.int .i64 0), (.int .i64 0), (.int .i64 0), (.int .i64 0), (.int .i64 0), (.int .i64 0), (.int .i64 0)]), (.sl true []), (.bool false)]), (.sl true []), (.bool false)]))), gs 5 29, gm 6 30, gm 7 31] [8,9,10,11,12,13,14,15,16,17,18,19,20,21,22,23,24,25,26,27,28,29,30,31])
 (.seq (.reg [] [gm 32 1, gl 33 5, gc 34 32, gs 34 33] [5,32,33,34])
 (.seq (.reg [] [gm 35 0, gc 36 35, gf 37 36 0, gm 38 6, gn (.cal 39 f_kern_Kernel_lock [(.t 37), (.t 38)] [])] [6,35,36,37,38,39])
 (.seq (.reg [] [gm 40 0, gm 41 7, gm 42 1, gc 43 42, gf 44 43 0, gl 45 44, gn (.bld 46 [(ci 0), (.t 41), (.t 45), (ci 0), (ci 0), (ci 0)]), gn (.cal 47 f_kern_turn_tells [(.t 40), (.t 46)] [])] [0,1,40,41,42,43,44,45,46,47])
 (.seq (.reg [] [gm 48 7, gn (.bin 49 .eql (.t 48) (ci 13)), gm 4 49] [7,48,49])
 .ret)))))), [.t 4], none⟩
/- foliot/fault.Hit -/
def k_fault_Hit : KF := ⟨(.seq (.reg [] [gn (.box 3 (.t 0)), gn (.box 4 (.t 1)), gn (.alc 6 (.d (.agg [(.int .i64 0), (.int .i64 0), (.int .i64 0), (.int .i64 0), (.agg [(.int .i64 0), (.agg [(.int .i64 0), (.int .i64 0), (.int .i64 0), (.int .i64 0), (.int .i64 0), (.int .i64 0), (.int .i64 0), (.int .i64 0)]), (.sl true []), (.bool false)]), (.agg [(.int .i64 0), (.agg [(.int .i64 0), (.int .i64 0), (.int .i64 0), (.int .i64 0), (.int .i64 0), (.int .i64 0), (.int .i64 0), (.int .i64 0)]), (.sl true []), (.bool false)]), (.sl true []), (.bool false)]))), gn (.mv 7 (.c (.d (.sl true [])))), gn (.mv 8 (ci 0))] [0,1,7,8])
 (.seq (.reg [(2,5)] [gl 9 3, gl 10 4, gn (.das 11 f_job_Back [(.t 9), (.t 10)]), gm 12 2, gf 13 4 0, gl 14 13, gn (.das 15 f_sema_All [(.t 12), (.t 14)]), gs 6 11, gm 7 15, gn (.mv 8 (ci 6))] [2,3,9,10,11,12,13,14,15])
 (.seq (.blk 0 (.seq (.reg [] [gf 17 4 3, gl 18 17, gn (.bin 19 .eql (.t 18) (ci 2)), gm 16 19] [17,18,19])
 (.cond (.t 16) (.reg [] [gl 20 4, gn (.das 21 f_fault_Loses [(.t 20), (ci (-1))]), gs 6 21, gn (.mv 8 (ci 13))] [4,20,21])
 (.seq (.reg [] [gf 23 6 3, gl 24 23, gf 25 4 3, gl 26 25, gn (.bin 27 .neq (.t 24) (.t 26)), gm 22 27] [4,23,24,25,26,27])
 (.cond (.t 22) (.reg [] [gn (.mv 8 (ci 7))] [])
 .skip)))))
 (.seq (.reg [] [gl 28 6, gm 29 7, gm 30 8, gs 6 28, gm 7 29, gm 8 30] [28,29,30])
 .ret)))), [.cell 6, .t 7, .t 8], none⟩
/- foliot/job.Back -/
def k_job_Back : KF := ⟨(.seq (.reg [] [gn (.box 2 (.t 0)), gn (.box 3 (.t 1)), gn (.alc 4 (.d (.agg [(.int .i64 0), (.int .i64 0), (.int .i64 0), (.int .i64 0), (.agg [(.int .i64 0), (.agg [(.int .i64 0), (.int .i64 0), (.int .i64 0), (.int .i64 0), (.int .i64 0), (.int .i64 0), (.int .i64 0), (.int .i64 0)]), (.sl true []), (.bool false)]), (.agg [(.int .i64 0), (.agg [(.int .i64 0), (.int .i64 0), (.int .i64 0), (.int .i64 0), (.int .i64 0), (.int .i64 0), (.int .i64 0), (.int .i64 0)]), (.sl true []), (.bool false)]), (.sl true []), (.bool false)])))] [0,1])
 (.seq (.reg [] [gl 6 3, gn (.cal 7 f_job_twin [(.t 6)] []), gn (.alc 5 (.d (.agg [(.int .i64 0), (.int .i64 0), (.int .i64 0), (.int .i64 0), (.agg [(.int .i64 0), (.agg [(.int .i64 0), (.int .i64 0), (.int .i64 0), (.int .i64 0), (.int .i64 0), (.int .i64 0), (.int .i64 0), (.int .i64 0)]), (.sl true []), (.bool false)]), (.agg [(.int .i64 0), (.agg [(.int .i64 0), (.int .i64 0), (.int .i64 0), (.int .i64 0), (.int .i64 0), (.int .i64 0), (.int .i64 0), (.int .i64 0)]), (.sl true []), (.bool false)]), (.sl true []), (.bool false)]))), gs 5 7] [6,7])
 (.seq (.reg [] [gf 8 5 6, gn (.st (.t 8) (.c (.d (.sl true []))))] [8])
 (.seq (.seq (.reg [] [gf 9 3 3, gl 10 9, gn (.bin 11 .eql (.t 10) (ci 0)), gm 12 11, gh 12 (.fa 13 (.t 2) 4), gh 12 (.ld 14 (.t 13)), gh 12 (.len 15 (.t 14)), gh 12 (.bin 16 .gtr (.t 15) (ci 0)), gn (.pick 17 (.t 12) (.t 16) (.c (.bool false)))] [2,9,10,11,12,13,14,15,16])
 (.cond (.t 17) (.seq (.reg [(2,4)] [gf 18 3 2, gl 19 18, gn (.dat 20 f_vm_New [(.t 19)]), gf 21 3 2, gl 22 21, gn (.dat 23 f_vm_New [(.t 22)]), gf 24 5 3, gn (.st (.t 24) (ci 1)), gf 25 5 4, gs 25 20, gf 26 5 5, gs 26 23] [3,18,19,20,21,22,23,24,25,26])
 (.seq (.reg [] [gl 27 5, gs 4 27] [5,27])
 .ret))
 .skip))
 (.seq (.reg [] [gf 28 3 5, gl 29 28, gn (.das 30 f_job_machine [(.t 29)]), gf 31 5 4, gs 31 30] [3,28,29,30,31])
 (.seq (.reg [] [gl 32 5, gs 4 32] [5,32])
 .ret)))))), [.cell 4], none⟩
/- foliot/obj.Turn -/
def k_obj_Turn : KF := ⟨(.seq (.reg [] [gn (.box 2 (.t 0)), gn (.alc 4 (.d (.agg [(.agg [(.sl true []), (.sl true [])]), (.sl true [])]))), gn (.mv 5 (.c (.bool false)))] [0,5])
 (.seq (.reg [] [gl 7 2, gn (.dat 8 f_obj_twin [(.t 7)]), gn (.alc 6 (.d (.agg [(.agg [(.sl true []), (.sl true [])]), (.sl true [])]))), gs 6 8] [7,8])
 (.seq (.seq (.reg [] [gl 9 2, gm 10 1, gn (.dat 11 f_obj_there [(.t 9), (.t 10)]), gn (.un 12 .not (.t 11))] [2,9,10,11])
 (.cond (.t 12) (.seq (.reg [] [gl 13 6, gs 4 13, gn (.mv 5 (.c (.bool false)))] [6,13])
 .ret)
 .skip))
 (.seq (.reg [] [gf 14 6 1, gl 15 14, gm 16 1, gf 17 6 1, gl 18 17, gm 19 1, ga 20 18 19, gf 21 20 5, gl 22 21, gn (.un 23 .xor (.t 22)), ga 24 15 16, gf 25 24 5, gs 25 23] [1,14,15,16,17,18,19,20,21,22,23,24,25])
 (.seq (.reg [] [gl 26 6, gs 4 26, gn (.mv 5 (.c (.bool true)))] [6,26])
 .ret))))), [.cell 4, .t 5], none⟩
def kl : List (Nat × KF) := [(8, k_top_TopMarks), (13, k_top_begun), (18, k_play_Call), (23, k_trial_All), (40, k_kern_New), (72, k_obj_New), (125, k_slots_New), (73, k_watch_New), (17, k_trial_Do), (31, k_call_Do), (48, k_call_asked_admit), (89, k_admit_In), (84, k_task_May), (145, k_shape_May), (155, k_slices_ContainsFunc_api_Inst_api_Inst), (211, k_slices_IndexFunc_api_Inst_api_Inst), (209, k_shape_May_1), (210, k_code_May), (260, k_code_memory), (261, k_code_within), (212, k_shape_May_2), (213, k_shape_nested), (262, k_shape_pieces), (263, k_shape_piece_has), (264, k_shape_piece_within), (265, k_shape_piece_apart), (215, k_slices_ContainsFunc_int_int), (231, k_slices_IndexFunc_int_int), (266, k_shape_nested_1), (150, k_shape_Pairs), (214, k_shape_ins), (218, k_shape_Pairs_1), (216, k_shape_May_3), (146, k_task_may), (147, k_task_locks), (217, k_task_locks_1), (148, k_task_long), (85, k_cost_Of), (149, k_cost_times), (142, k_sat_Mul), (207, k_sat_size), (206, k_sat_times), (208, k_sat_end), (151, k_cost_sum), (143, k_sat_Add), (158, k_admit_mine), (103, k_slices_Clone_api_Inst_api_Inst), (159, k_admit_In_1), (153, k_slices_IndexFunc_api_Task_api_Task), (160, k_slices_Insert_api_Task_api_Task), (28, k_admit_All), (44, k_bound_Resp), (81, k_bound_row), (45, k_task_Costs), (86, k_slices_Concat_api_Span_api_Span), (152, k_slices_Grow_api_Span_api_Span), (46, k_block_By), (87, k_block_Ceil), (154, k_block_Ceil_1), (156, k_slices_Concat_api_Inst_api_Inst), (219, k_slices_Grow_api_Inst_api_Inst), (157, k_block_Ceil_1_1), (82, k_bound_sum_add), (83, k_bound_often), (144, k_sat_Up), (49, k_call_asked_makes), (90, k_obj_Make), (64, k_obj_twin), (113, k_slices_Clone_int_int), (114, k_slices_Clone_bool_bool), (115, k_obj_mine), (189, k_slices_Clone_int64_int64), (170, k_slices_Clone_api_Waiter_api_Waiter), (161, k_slots_Take), (222, k_slots_twin), (224, k_slots_places), (223, k_slices_Index_bool_bool), (163, k_obj_fresh), (162, k_obj_sealed), (168, k_obj_sum), (226, k_seal_Sum), (50, k_call_asked_start), (91, k_kern_Start), (59, k_kern_twin), (100, k_slices_Clone_api_Task_api_Task), (101, k_slices_Clone_api_Bounds_api_Bounds), (102, k_slices_Clone_api_Job_api_Job), (104, k_fault_Loses), (175, k_slices_Clone_api_Rep2_api_Rep2), (177, k_fault_Loses_1), (176, k_slices_DeleteFunc_int_int), (95, k_obj_Put), (65, k_obj_there), (105, k_watch_Good), (178, k_watch_twin), (19, k_kern_Locks), (35, k_obj_Semas), (164, k_kern_Start_1), (165, k_kern_Kernel_lock), (51, k_call_asked_release), (34, k_kern_Release), (66, k_kern_Kernel_find), (116, k_slices_BinarySearchFunc_api_Job_api_Job_int), (117, k_kern_Kernel_find_1), (67, k_slices_Delete_api_Job_api_Job), (69, k_job_New), (120, k_vm_New), (68, k_slices_Insert_api_Job_api_Job), (52, k_call_asked_post), (92, k_call_asked_thing), (166, k_obj_Find), (225, k_slots_Has), (268, k_slots_handles), (93, k_mbox_Post), (167, k_mbox_twin), (94, k_call_asked_told), (53, k_call_asked_take), (96, k_mbox_Take), (169, k_slices_Contains_int_int), (109, k_slices_Index_int_int), (54, k_call_asked_raise), (97, k_flag_Raise), (55, k_call_asked_await), (98, k_flag_Await), (172, k_flag_Await_1), (171, k_slices_ContainsFunc_api_Waiter_api_Waiter), (227, k_slices_IndexFunc_api_Waiter_api_Waiter), (56, k_call_asked_free), (99, k_obj_Drop), (173, k_slots_Free), (174, k_obj_waits), (228, k_mbox_Reset), (229, k_flag_Reset), (230, k_slices_Concat_int_int), (269, k_slices_Grow_int_int), (57, k_call_asked_wrong), (58, k_call_mine), (32, k_kern_Tick), (60, k_kern_turn_ends), (106, k_kern_turn_tells), (107, k_kern_turn_misses), (179, k_sema_All), (232, k_slices_Clone_api_Sema_api_Sema), (233, k_sema_holds), (247, k_sema_has), (180, k_watch_Miss), (234, k_watch_has), (235, k_slices_Contains_bool_bool), (61, k_kern_turn_promotes), (62, k_kern_turn_audits), (108, k_obj_Audit), (63, k_kern_turn_runs), (110, k_pick_Next), (181, k_pick_of), (236, k_band_Of), (237, k_sema_Low), (270, k_band_Base), (182, k_pick_first), (183, k_pick_compare), (241, k_cmp_Compare_int), (272, k_cmp_isNaN_int), (240, k_cmp_Or_int), (238, k_row_Set), (271, k_row_bit), (239, k_row_First), (111, k_kern_turn_goes), (184, k_job_Go), (242, k_job_twin), (245, k_job_machine), (244, k_job_Code), (243, k_vm_Step), (273, k_vm_twin), (274, k_vm_Shift), (275, k_vm_Narrow), (276, k_vm_goes), (246, k_slices_Delete_int_int), (185, k_sema_Take), (186, k_sema_Let), (187, k_kern_turn_done), (248, k_job_Opt), (112, k_kern_turn_hits), (188, k_fault_Hit), (249, k_job_Back), (33, k_obj_Turn)]
def kp : Nat → Option KF := fun n => List.lookup n kl
theorem kp_top_TopMarks : kp f_top_TopMarks = some k_top_TopMarks := rfl
theorem kp_top_begun : kp f_top_begun = some k_top_begun := rfl
theorem kp_play_Call : kp f_play_Call = some k_play_Call := rfl
theorem kp_trial_All : kp f_trial_All = some k_trial_All := rfl
theorem kp_kern_New : kp f_kern_New = some k_kern_New := rfl
theorem kp_obj_New : kp f_obj_New = some k_obj_New := rfl
theorem kp_slots_New : kp f_slots_New = some k_slots_New := rfl
theorem kp_watch_New : kp f_watch_New = some k_watch_New := rfl
theorem kp_trial_Do : kp f_trial_Do = some k_trial_Do := rfl
theorem kp_call_Do : kp f_call_Do = some k_call_Do := rfl
theorem kp_call_asked_admit : kp f_call_asked_admit = some k_call_asked_admit := rfl
theorem kp_admit_In : kp f_admit_In = some k_admit_In := rfl
theorem kp_task_May : kp f_task_May = some k_task_May := rfl
theorem kp_shape_May : kp f_shape_May = some k_shape_May := rfl
theorem kp_slices_ContainsFunc_api_Inst_api_Inst : kp f_slices_ContainsFunc_api_Inst_api_Inst = some k_slices_ContainsFunc_api_Inst_api_Inst := rfl
theorem kp_slices_IndexFunc_api_Inst_api_Inst : kp f_slices_IndexFunc_api_Inst_api_Inst = some k_slices_IndexFunc_api_Inst_api_Inst := rfl
theorem kp_shape_May_1 : kp f_shape_May_1 = some k_shape_May_1 := rfl
theorem kp_code_May : kp f_code_May = some k_code_May := rfl
theorem kp_code_memory : kp f_code_memory = some k_code_memory := rfl
theorem kp_code_within : kp f_code_within = some k_code_within := rfl
theorem kp_shape_May_2 : kp f_shape_May_2 = some k_shape_May_2 := rfl
theorem kp_shape_nested : kp f_shape_nested = some k_shape_nested := rfl
theorem kp_shape_pieces : kp f_shape_pieces = some k_shape_pieces := rfl
theorem kp_shape_piece_has : kp f_shape_piece_has = some k_shape_piece_has := rfl
theorem kp_shape_piece_within : kp f_shape_piece_within = some k_shape_piece_within := rfl
theorem kp_shape_piece_apart : kp f_shape_piece_apart = some k_shape_piece_apart := rfl
theorem kp_slices_ContainsFunc_int_int : kp f_slices_ContainsFunc_int_int = some k_slices_ContainsFunc_int_int := rfl
theorem kp_slices_IndexFunc_int_int : kp f_slices_IndexFunc_int_int = some k_slices_IndexFunc_int_int := rfl
theorem kp_shape_nested_1 : kp f_shape_nested_1 = some k_shape_nested_1 := rfl
theorem kp_shape_Pairs : kp f_shape_Pairs = some k_shape_Pairs := rfl
theorem kp_shape_ins : kp f_shape_ins = some k_shape_ins := rfl
theorem kp_shape_Pairs_1 : kp f_shape_Pairs_1 = some k_shape_Pairs_1 := rfl
theorem kp_shape_May_3 : kp f_shape_May_3 = some k_shape_May_3 := rfl
theorem kp_task_may : kp f_task_may = some k_task_may := rfl
theorem kp_task_locks : kp f_task_locks = some k_task_locks := rfl
theorem kp_task_locks_1 : kp f_task_locks_1 = some k_task_locks_1 := rfl
theorem kp_task_long : kp f_task_long = some k_task_long := rfl
theorem kp_cost_Of : kp f_cost_Of = some k_cost_Of := rfl
theorem kp_cost_times : kp f_cost_times = some k_cost_times := rfl
theorem kp_sat_Mul : kp f_sat_Mul = some k_sat_Mul := rfl
theorem kp_sat_size : kp f_sat_size = some k_sat_size := rfl
theorem kp_sat_times : kp f_sat_times = some k_sat_times := rfl
theorem kp_sat_end : kp f_sat_end = some k_sat_end := rfl
theorem kp_cost_sum : kp f_cost_sum = some k_cost_sum := rfl
theorem kp_sat_Add : kp f_sat_Add = some k_sat_Add := rfl
theorem kp_admit_mine : kp f_admit_mine = some k_admit_mine := rfl
theorem kp_slices_Clone_api_Inst_api_Inst : kp f_slices_Clone_api_Inst_api_Inst = some k_slices_Clone_api_Inst_api_Inst := rfl
theorem kp_admit_In_1 : kp f_admit_In_1 = some k_admit_In_1 := rfl
theorem kp_slices_IndexFunc_api_Task_api_Task : kp f_slices_IndexFunc_api_Task_api_Task = some k_slices_IndexFunc_api_Task_api_Task := rfl
theorem kp_slices_Insert_api_Task_api_Task : kp f_slices_Insert_api_Task_api_Task = some k_slices_Insert_api_Task_api_Task := rfl
theorem kp_admit_All : kp f_admit_All = some k_admit_All := rfl
theorem kp_bound_Resp : kp f_bound_Resp = some k_bound_Resp := rfl
theorem kp_bound_row : kp f_bound_row = some k_bound_row := rfl
theorem kp_task_Costs : kp f_task_Costs = some k_task_Costs := rfl
theorem kp_slices_Concat_api_Span_api_Span : kp f_slices_Concat_api_Span_api_Span = some k_slices_Concat_api_Span_api_Span := rfl
theorem kp_slices_Grow_api_Span_api_Span : kp f_slices_Grow_api_Span_api_Span = some k_slices_Grow_api_Span_api_Span := rfl
theorem kp_block_By : kp f_block_By = some k_block_By := rfl
theorem kp_block_Ceil : kp f_block_Ceil = some k_block_Ceil := rfl
theorem kp_block_Ceil_1 : kp f_block_Ceil_1 = some k_block_Ceil_1 := rfl
theorem kp_slices_Concat_api_Inst_api_Inst : kp f_slices_Concat_api_Inst_api_Inst = some k_slices_Concat_api_Inst_api_Inst := rfl
theorem kp_slices_Grow_api_Inst_api_Inst : kp f_slices_Grow_api_Inst_api_Inst = some k_slices_Grow_api_Inst_api_Inst := rfl
theorem kp_block_Ceil_1_1 : kp f_block_Ceil_1_1 = some k_block_Ceil_1_1 := rfl
theorem kp_bound_sum_add : kp f_bound_sum_add = some k_bound_sum_add := rfl
theorem kp_bound_often : kp f_bound_often = some k_bound_often := rfl
theorem kp_sat_Up : kp f_sat_Up = some k_sat_Up := rfl
theorem kp_call_asked_makes : kp f_call_asked_makes = some k_call_asked_makes := rfl
theorem kp_obj_Make : kp f_obj_Make = some k_obj_Make := rfl
theorem kp_obj_twin : kp f_obj_twin = some k_obj_twin := rfl
theorem kp_slices_Clone_int_int : kp f_slices_Clone_int_int = some k_slices_Clone_int_int := rfl
theorem kp_slices_Clone_bool_bool : kp f_slices_Clone_bool_bool = some k_slices_Clone_bool_bool := rfl
theorem kp_obj_mine : kp f_obj_mine = some k_obj_mine := rfl
theorem kp_slices_Clone_int64_int64 : kp f_slices_Clone_int64_int64 = some k_slices_Clone_int64_int64 := rfl
theorem kp_slices_Clone_api_Waiter_api_Waiter : kp f_slices_Clone_api_Waiter_api_Waiter = some k_slices_Clone_api_Waiter_api_Waiter := rfl
theorem kp_slots_Take : kp f_slots_Take = some k_slots_Take := rfl
theorem kp_slots_twin : kp f_slots_twin = some k_slots_twin := rfl
theorem kp_slots_places : kp f_slots_places = some k_slots_places := rfl
theorem kp_slices_Index_bool_bool : kp f_slices_Index_bool_bool = some k_slices_Index_bool_bool := rfl
theorem kp_obj_fresh : kp f_obj_fresh = some k_obj_fresh := rfl
theorem kp_obj_sealed : kp f_obj_sealed = some k_obj_sealed := rfl
theorem kp_obj_sum : kp f_obj_sum = some k_obj_sum := rfl
theorem kp_seal_Sum : kp f_seal_Sum = some k_seal_Sum := rfl
theorem kp_call_asked_start : kp f_call_asked_start = some k_call_asked_start := rfl
theorem kp_kern_Start : kp f_kern_Start = some k_kern_Start := rfl
theorem kp_kern_twin : kp f_kern_twin = some k_kern_twin := rfl
theorem kp_slices_Clone_api_Task_api_Task : kp f_slices_Clone_api_Task_api_Task = some k_slices_Clone_api_Task_api_Task := rfl
theorem kp_slices_Clone_api_Bounds_api_Bounds : kp f_slices_Clone_api_Bounds_api_Bounds = some k_slices_Clone_api_Bounds_api_Bounds := rfl
theorem kp_slices_Clone_api_Job_api_Job : kp f_slices_Clone_api_Job_api_Job = some k_slices_Clone_api_Job_api_Job := rfl
theorem kp_fault_Loses : kp f_fault_Loses = some k_fault_Loses := rfl
theorem kp_slices_Clone_api_Rep2_api_Rep2 : kp f_slices_Clone_api_Rep2_api_Rep2 = some k_slices_Clone_api_Rep2_api_Rep2 := rfl
theorem kp_fault_Loses_1 : kp f_fault_Loses_1 = some k_fault_Loses_1 := rfl
theorem kp_slices_DeleteFunc_int_int : kp f_slices_DeleteFunc_int_int = some k_slices_DeleteFunc_int_int := rfl
theorem kp_obj_Put : kp f_obj_Put = some k_obj_Put := rfl
theorem kp_obj_there : kp f_obj_there = some k_obj_there := rfl
theorem kp_watch_Good : kp f_watch_Good = some k_watch_Good := rfl
theorem kp_watch_twin : kp f_watch_twin = some k_watch_twin := rfl
theorem kp_kern_Locks : kp f_kern_Locks = some k_kern_Locks := rfl
theorem kp_obj_Semas : kp f_obj_Semas = some k_obj_Semas := rfl
theorem kp_kern_Start_1 : kp f_kern_Start_1 = some k_kern_Start_1 := rfl
theorem kp_kern_Kernel_lock : kp f_kern_Kernel_lock = some k_kern_Kernel_lock := rfl
theorem kp_call_asked_release : kp f_call_asked_release = some k_call_asked_release := rfl
theorem kp_kern_Release : kp f_kern_Release = some k_kern_Release := rfl
theorem kp_kern_Kernel_find : kp f_kern_Kernel_find = some k_kern_Kernel_find := rfl
theorem kp_slices_BinarySearchFunc_api_Job_api_Job_int : kp f_slices_BinarySearchFunc_api_Job_api_Job_int = some k_slices_BinarySearchFunc_api_Job_api_Job_int := rfl
theorem kp_kern_Kernel_find_1 : kp f_kern_Kernel_find_1 = some k_kern_Kernel_find_1 := rfl
theorem kp_slices_Delete_api_Job_api_Job : kp f_slices_Delete_api_Job_api_Job = some k_slices_Delete_api_Job_api_Job := rfl
theorem kp_job_New : kp f_job_New = some k_job_New := rfl
theorem kp_vm_New : kp f_vm_New = some k_vm_New := rfl
theorem kp_slices_Insert_api_Job_api_Job : kp f_slices_Insert_api_Job_api_Job = some k_slices_Insert_api_Job_api_Job := rfl
theorem kp_call_asked_post : kp f_call_asked_post = some k_call_asked_post := rfl
theorem kp_call_asked_thing : kp f_call_asked_thing = some k_call_asked_thing := rfl
theorem kp_obj_Find : kp f_obj_Find = some k_obj_Find := rfl
theorem kp_slots_Has : kp f_slots_Has = some k_slots_Has := rfl
theorem kp_slots_handles : kp f_slots_handles = some k_slots_handles := rfl
theorem kp_mbox_Post : kp f_mbox_Post = some k_mbox_Post := rfl
theorem kp_mbox_twin : kp f_mbox_twin = some k_mbox_twin := rfl
theorem kp_call_asked_told : kp f_call_asked_told = some k_call_asked_told := rfl
theorem kp_call_asked_take : kp f_call_asked_take = some k_call_asked_take := rfl
theorem kp_mbox_Take : kp f_mbox_Take = some k_mbox_Take := rfl
theorem kp_slices_Contains_int_int : kp f_slices_Contains_int_int = some k_slices_Contains_int_int := rfl
theorem kp_slices_Index_int_int : kp f_slices_Index_int_int = some k_slices_Index_int_int := rfl
theorem kp_call_asked_raise : kp f_call_asked_raise = some k_call_asked_raise := rfl
theorem kp_flag_Raise : kp f_flag_Raise = some k_flag_Raise := rfl
theorem kp_call_asked_await : kp f_call_asked_await = some k_call_asked_await := rfl
theorem kp_flag_Await : kp f_flag_Await = some k_flag_Await := rfl
theorem kp_flag_Await_1 : kp f_flag_Await_1 = some k_flag_Await_1 := rfl
theorem kp_slices_ContainsFunc_api_Waiter_api_Waiter : kp f_slices_ContainsFunc_api_Waiter_api_Waiter = some k_slices_ContainsFunc_api_Waiter_api_Waiter := rfl
theorem kp_slices_IndexFunc_api_Waiter_api_Waiter : kp f_slices_IndexFunc_api_Waiter_api_Waiter = some k_slices_IndexFunc_api_Waiter_api_Waiter := rfl
theorem kp_call_asked_free : kp f_call_asked_free = some k_call_asked_free := rfl
theorem kp_obj_Drop : kp f_obj_Drop = some k_obj_Drop := rfl
theorem kp_slots_Free : kp f_slots_Free = some k_slots_Free := rfl
theorem kp_obj_waits : kp f_obj_waits = some k_obj_waits := rfl
theorem kp_mbox_Reset : kp f_mbox_Reset = some k_mbox_Reset := rfl
theorem kp_flag_Reset : kp f_flag_Reset = some k_flag_Reset := rfl
theorem kp_slices_Concat_int_int : kp f_slices_Concat_int_int = some k_slices_Concat_int_int := rfl
theorem kp_slices_Grow_int_int : kp f_slices_Grow_int_int = some k_slices_Grow_int_int := rfl
theorem kp_call_asked_wrong : kp f_call_asked_wrong = some k_call_asked_wrong := rfl
theorem kp_call_mine : kp f_call_mine = some k_call_mine := rfl
theorem kp_kern_Tick : kp f_kern_Tick = some k_kern_Tick := rfl
theorem kp_kern_turn_ends : kp f_kern_turn_ends = some k_kern_turn_ends := rfl
theorem kp_kern_turn_tells : kp f_kern_turn_tells = some k_kern_turn_tells := rfl
theorem kp_kern_turn_misses : kp f_kern_turn_misses = some k_kern_turn_misses := rfl
theorem kp_sema_All : kp f_sema_All = some k_sema_All := rfl
theorem kp_slices_Clone_api_Sema_api_Sema : kp f_slices_Clone_api_Sema_api_Sema = some k_slices_Clone_api_Sema_api_Sema := rfl
theorem kp_sema_holds : kp f_sema_holds = some k_sema_holds := rfl
theorem kp_sema_has : kp f_sema_has = some k_sema_has := rfl
theorem kp_watch_Miss : kp f_watch_Miss = some k_watch_Miss := rfl
theorem kp_watch_has : kp f_watch_has = some k_watch_has := rfl
theorem kp_slices_Contains_bool_bool : kp f_slices_Contains_bool_bool = some k_slices_Contains_bool_bool := rfl
theorem kp_kern_turn_promotes : kp f_kern_turn_promotes = some k_kern_turn_promotes := rfl
theorem kp_kern_turn_audits : kp f_kern_turn_audits = some k_kern_turn_audits := rfl
theorem kp_obj_Audit : kp f_obj_Audit = some k_obj_Audit := rfl
theorem kp_kern_turn_runs : kp f_kern_turn_runs = some k_kern_turn_runs := rfl
theorem kp_pick_Next : kp f_pick_Next = some k_pick_Next := rfl
theorem kp_pick_of : kp f_pick_of = some k_pick_of := rfl
theorem kp_band_Of : kp f_band_Of = some k_band_Of := rfl
theorem kp_sema_Low : kp f_sema_Low = some k_sema_Low := rfl
theorem kp_band_Base : kp f_band_Base = some k_band_Base := rfl
theorem kp_pick_first : kp f_pick_first = some k_pick_first := rfl
theorem kp_pick_compare : kp f_pick_compare = some k_pick_compare := rfl
theorem kp_cmp_Compare_int : kp f_cmp_Compare_int = some k_cmp_Compare_int := rfl
theorem kp_cmp_isNaN_int : kp f_cmp_isNaN_int = some k_cmp_isNaN_int := rfl
theorem kp_cmp_Or_int : kp f_cmp_Or_int = some k_cmp_Or_int := rfl
theorem kp_row_Set : kp f_row_Set = some k_row_Set := rfl
theorem kp_row_bit : kp f_row_bit = some k_row_bit := rfl
theorem kp_row_First : kp f_row_First = some k_row_First := rfl
theorem kp_kern_turn_goes : kp f_kern_turn_goes = some k_kern_turn_goes := rfl
theorem kp_job_Go : kp f_job_Go = some k_job_Go := rfl
theorem kp_job_twin : kp f_job_twin = some k_job_twin := rfl
theorem kp_job_machine : kp f_job_machine = some k_job_machine := rfl
theorem kp_job_Code : kp f_job_Code = some k_job_Code := rfl
theorem kp_vm_Step : kp f_vm_Step = some k_vm_Step := rfl
theorem kp_vm_twin : kp f_vm_twin = some k_vm_twin := rfl
theorem kp_vm_Shift : kp f_vm_Shift = some k_vm_Shift := rfl
theorem kp_vm_Narrow : kp f_vm_Narrow = some k_vm_Narrow := rfl
theorem kp_vm_goes : kp f_vm_goes = some k_vm_goes := rfl
theorem kp_slices_Delete_int_int : kp f_slices_Delete_int_int = some k_slices_Delete_int_int := rfl
theorem kp_sema_Take : kp f_sema_Take = some k_sema_Take := rfl
theorem kp_sema_Let : kp f_sema_Let = some k_sema_Let := rfl
theorem kp_kern_turn_done : kp f_kern_turn_done = some k_kern_turn_done := rfl
theorem kp_job_Opt : kp f_job_Opt = some k_job_Opt := rfl
theorem kp_kern_turn_hits : kp f_kern_turn_hits = some k_kern_turn_hits := rfl
theorem kp_fault_Hit : kp f_fault_Hit = some k_fault_Hit := rfl
theorem kp_job_Back : kp f_job_Back = some k_job_Back := rfl
theorem kp_obj_Turn : kp f_obj_Turn = some k_obj_Turn := rfl
def natl : List (Nat × NK) := [(160, .ins), (67, .del), (68, .ins), (246, .del)]
theorem c_top_TopMarks_L0 (s : St) : run kp (.code k_top_TopMarks_L0 s) = run kp (.code k_top_TopMarks_L0b s) := rfl
theorem c_top_TopMarks_L1 (s : St) : run kp (.code k_top_TopMarks_L1 s) = run kp (.code k_top_TopMarks_L1b s) := rfl
theorem c_top_TopMarks_L2 (s : St) : run kp (.code k_top_TopMarks_L2 s) = run kp (.code k_top_TopMarks_L2b s) := rfl
theorem c_top_TopMarks_L3 (s : St) : run kp (.code k_top_TopMarks_L3 s) = run kp (.code k_top_TopMarks_L3b s) := rfl
theorem c_trial_All_L0 (s : St) : run kp (.code k_trial_All_L0 s) = run kp (.code k_trial_All_L0b s) := rfl
theorem c_trial_Do_L0 (s : St) : run kp (.code k_trial_Do_L0 s) = run kp (.code k_trial_Do_L0b s) := rfl
theorem c_admit_In_L0 (s : St) : run kp (.code k_admit_In_L0 s) = run kp (.code k_admit_In_L0b s) := rfl
theorem c_admit_In_L1 (s : St) : run kp (.code k_admit_In_L1 s) = run kp (.code k_admit_In_L1b s) := rfl
theorem c_shape_May_L0 (s : St) : run kp (.code k_shape_May_L0 s) = run kp (.code k_shape_May_L0b s) := rfl
theorem c_slices_IndexFunc_api_Inst_api_Inst_L0 (s : St) : run kp (.code k_slices_IndexFunc_api_Inst_api_Inst_L0 s) = run kp (.code k_slices_IndexFunc_api_Inst_api_Inst_L0b s) := rfl
theorem c_shape_nested_L0 (s : St) : run kp (.code k_shape_nested_L0 s) = run kp (.code k_shape_nested_L0b s) := rfl
theorem c_shape_nested_L1 (s : St) : run kp (.code k_shape_nested_L1 s) = run kp (.code k_shape_nested_L1b s) := rfl
theorem c_shape_nested_L2 (s : St) : run kp (.code k_shape_nested_L2 s) = run kp (.code k_shape_nested_L2b s) := rfl
theorem c_shape_pieces_L0 (s : St) : run kp (.code k_shape_pieces_L0 s) = run kp (.code k_shape_pieces_L0b s) := rfl
theorem c_slices_IndexFunc_int_int_L0 (s : St) : run kp (.code k_slices_IndexFunc_int_int_L0 s) = run kp (.code k_slices_IndexFunc_int_int_L0b s) := rfl
theorem c_shape_Pairs_L0 (s : St) : run kp (.code k_shape_Pairs_L0 s) = run kp (.code k_shape_Pairs_L0b s) := rfl
theorem c_shape_ins_L0 (s : St) : run kp (.code k_shape_ins_L0 s) = run kp (.code k_shape_ins_L0b s) := rfl
theorem c_shape_ins_L1 (s : St) : run kp (.code k_shape_ins_L1 s) = run kp (.code k_shape_ins_L1b s) := rfl
theorem c_cost_Of_L0 (s : St) : run kp (.code k_cost_Of_L0 s) = run kp (.code k_cost_Of_L0b s) := rfl
theorem c_cost_times_L0 (s : St) : run kp (.code k_cost_times_L0 s) = run kp (.code k_cost_times_L0b s) := rfl
theorem c_cost_times_L1 (s : St) : run kp (.code k_cost_times_L1 s) = run kp (.code k_cost_times_L1b s) := rfl
theorem c_cost_times_L2 (s : St) : run kp (.code k_cost_times_L2 s) = run kp (.code k_cost_times_L2b s) := rfl
theorem c_cost_sum_L0 (s : St) : run kp (.code k_cost_sum_L0 s) = run kp (.code k_cost_sum_L0b s) := rfl
theorem c_slices_IndexFunc_api_Task_api_Task_L0 (s : St) : run kp (.code k_slices_IndexFunc_api_Task_api_Task_L0 s) = run kp (.code k_slices_IndexFunc_api_Task_api_Task_L0b s) := rfl
theorem c_admit_All_L0 (s : St) : run kp (.code k_admit_All_L0 s) = run kp (.code k_admit_All_L0b s) := rfl
theorem c_bound_Resp_L0 (s : St) : run kp (.code k_bound_Resp_L0 s) = run kp (.code k_bound_Resp_L0b s) := rfl
theorem c_bound_Resp_L1 (s : St) : run kp (.code k_bound_Resp_L1 s) = run kp (.code k_bound_Resp_L1b s) := rfl
theorem c_bound_Resp_L2 (s : St) : run kp (.code k_bound_Resp_L2 s) = run kp (.code k_bound_Resp_L2b s) := rfl
theorem c_bound_row_L0 (s : St) : run kp (.code k_bound_row_L0 s) = run kp (.code k_bound_row_L0b s) := rfl
theorem c_slices_Concat_api_Span_api_Span_L0 (s : St) : run kp (.code k_slices_Concat_api_Span_api_Span_L0 s) = run kp (.code k_slices_Concat_api_Span_api_Span_L0b s) := rfl
theorem c_slices_Concat_api_Span_api_Span_L1 (s : St) : run kp (.code k_slices_Concat_api_Span_api_Span_L1 s) = run kp (.code k_slices_Concat_api_Span_api_Span_L1b s) := rfl
theorem c_block_By_L0 (s : St) : run kp (.code k_block_By_L0 s) = run kp (.code k_block_By_L0b s) := rfl
theorem c_block_By_L1 (s : St) : run kp (.code k_block_By_L1 s) = run kp (.code k_block_By_L1b s) := rfl
theorem c_slices_Concat_api_Inst_api_Inst_L0 (s : St) : run kp (.code k_slices_Concat_api_Inst_api_Inst_L0 s) = run kp (.code k_slices_Concat_api_Inst_api_Inst_L0b s) := rfl
theorem c_slices_Concat_api_Inst_api_Inst_L1 (s : St) : run kp (.code k_slices_Concat_api_Inst_api_Inst_L1 s) = run kp (.code k_slices_Concat_api_Inst_api_Inst_L1b s) := rfl
theorem c_obj_Make_L0 (s : St) : run kp (.code k_obj_Make_L0 s) = run kp (.code k_obj_Make_L0b s) := rfl
theorem c_obj_twin_L0 (s : St) : run kp (.code k_obj_twin_L0 s) = run kp (.code k_obj_twin_L0b s) := rfl
theorem c_slices_Index_bool_bool_L0 (s : St) : run kp (.code k_slices_Index_bool_bool_L0 s) = run kp (.code k_slices_Index_bool_bool_L0b s) := rfl
theorem c_obj_sum_L0 (s : St) : run kp (.code k_obj_sum_L0 s) = run kp (.code k_obj_sum_L0b s) := rfl
theorem c_obj_sum_L1 (s : St) : run kp (.code k_obj_sum_L1 s) = run kp (.code k_obj_sum_L1b s) := rfl
theorem c_seal_Sum_L0 (s : St) : run kp (.code k_seal_Sum_L0 s) = run kp (.code k_seal_Sum_L0b s) := rfl
theorem c_seal_Sum_L1 (s : St) : run kp (.code k_seal_Sum_L1 s) = run kp (.code k_seal_Sum_L1b s) := rfl
theorem c_kern_Start_L0 (s : St) : run kp (.code k_kern_Start_L0 s) = run kp (.code k_kern_Start_L0b s) := rfl
theorem c_kern_Start_L1 (s : St) : run kp (.code k_kern_Start_L1 s) = run kp (.code k_kern_Start_L1b s) := rfl
theorem c_kern_twin_L0 (s : St) : run kp (.code k_kern_twin_L0 s) = run kp (.code k_kern_twin_L0b s) := rfl
theorem c_kern_twin_L1 (s : St) : run kp (.code k_kern_twin_L1 s) = run kp (.code k_kern_twin_L1b s) := rfl
theorem c_slices_DeleteFunc_int_int_L0 (s : St) : run kp (.code k_slices_DeleteFunc_int_int_L0 s) = run kp (.code k_slices_DeleteFunc_int_int_L0b s) := rfl
theorem c_kern_Locks_L0 (s : St) : run kp (.code k_kern_Locks_L0 s) = run kp (.code k_kern_Locks_L0b s) := rfl
theorem c_obj_Semas_L0 (s : St) : run kp (.code k_obj_Semas_L0 s) = run kp (.code k_obj_Semas_L0b s) := rfl
theorem c_kern_Kernel_lock_L0 (s : St) : run kp (.code k_kern_Kernel_lock_L0 s) = run kp (.code k_kern_Kernel_lock_L0b s) := rfl
theorem c_slices_BinarySearchFunc_api_Job_api_Job_int_L0 (s : St) : run kp (.code k_slices_BinarySearchFunc_api_Job_api_Job_int_L0 s) = run kp (.code k_slices_BinarySearchFunc_api_Job_api_Job_int_L0b s) := rfl
theorem c_slots_handles_L0 (s : St) : run kp (.code k_slots_handles_L0 s) = run kp (.code k_slots_handles_L0b s) := rfl
theorem c_slices_Index_int_int_L0 (s : St) : run kp (.code k_slices_Index_int_int_L0 s) = run kp (.code k_slices_Index_int_int_L0b s) := rfl
theorem c_call_asked_raise_L0 (s : St) : run kp (.code k_call_asked_raise_L0 s) = run kp (.code k_call_asked_raise_L0b s) := rfl
theorem c_flag_Raise_L0 (s : St) : run kp (.code k_flag_Raise_L0 s) = run kp (.code k_flag_Raise_L0b s) := rfl
theorem c_slices_IndexFunc_api_Waiter_api_Waiter_L0 (s : St) : run kp (.code k_slices_IndexFunc_api_Waiter_api_Waiter_L0 s) = run kp (.code k_slices_IndexFunc_api_Waiter_api_Waiter_L0b s) := rfl
theorem c_call_asked_free_L0 (s : St) : run kp (.code k_call_asked_free_L0 s) = run kp (.code k_call_asked_free_L0b s) := rfl
theorem c_flag_Reset_L0 (s : St) : run kp (.code k_flag_Reset_L0 s) = run kp (.code k_flag_Reset_L0b s) := rfl
theorem c_slices_Concat_int_int_L0 (s : St) : run kp (.code k_slices_Concat_int_int_L0 s) = run kp (.code k_slices_Concat_int_int_L0b s) := rfl
theorem c_slices_Concat_int_int_L1 (s : St) : run kp (.code k_slices_Concat_int_int_L1 s) = run kp (.code k_slices_Concat_int_int_L1b s) := rfl
theorem c_kern_turn_ends_L0 (s : St) : run kp (.code k_kern_turn_ends_L0 s) = run kp (.code k_kern_turn_ends_L0b s) := rfl
theorem c_sema_All_L0 (s : St) : run kp (.code k_sema_All_L0 s) = run kp (.code k_sema_All_L0b s) := rfl
theorem c_kern_turn_promotes_L0 (s : St) : run kp (.code k_kern_turn_promotes_L0 s) = run kp (.code k_kern_turn_promotes_L0b s) := rfl
theorem c_kern_turn_audits_L0 (s : St) : run kp (.code k_kern_turn_audits_L0 s) = run kp (.code k_kern_turn_audits_L0b s) := rfl
theorem c_kern_turn_audits_L1 (s : St) : run kp (.code k_kern_turn_audits_L1 s) = run kp (.code k_kern_turn_audits_L1b s) := rfl
theorem c_kern_turn_audits_L2 (s : St) : run kp (.code k_kern_turn_audits_L2 s) = run kp (.code k_kern_turn_audits_L2b s) := rfl
theorem c_obj_Audit_L0 (s : St) : run kp (.code k_obj_Audit_L0 s) = run kp (.code k_obj_Audit_L0b s) := rfl
theorem c_pick_Next_L0 (s : St) : run kp (.code k_pick_Next_L0 s) = run kp (.code k_pick_Next_L0b s) := rfl
theorem c_pick_Next_L1 (s : St) : run kp (.code k_pick_Next_L1 s) = run kp (.code k_pick_Next_L1b s) := rfl
theorem c_sema_Low_L0 (s : St) : run kp (.code k_sema_Low_L0 s) = run kp (.code k_sema_Low_L0b s) := rfl
theorem c_pick_first_L0 (s : St) : run kp (.code k_pick_first_L0 s) = run kp (.code k_pick_first_L0b s) := rfl
theorem c_cmp_Or_int_L0 (s : St) : run kp (.code k_cmp_Or_int_L0 s) = run kp (.code k_cmp_Or_int_L0b s) := rfl
theorem c_row_First_L0 (s : St) : run kp (.code k_row_First_L0 s) = run kp (.code k_row_First_L0b s) := rfl
theorem c_job_Go_L0 (s : St) : run kp (.code k_job_Go_L0 s) = run kp (.code k_job_Go_L0b s) := rfl
theorem c_vm_goes_L0 (s : St) : run kp (.code k_vm_goes_L0 s) = run kp (.code k_vm_goes_L0b s) := rfl
end Go.Cd
