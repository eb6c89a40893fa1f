/- The code of the functions, as the evaluator reads it; printed by a program of this session. No conditions. -/
import Derived.Test.YtjoocolnbmpkkaaFwA
set_option linter.unusedVariables false
set_option linter.unusedSimpArgs false
set_option maxRecDepth 100000
namespace Go.Cd
open Go.Fw
def f_law27_PlayBytes : Nat := 3
def f_law27_begun : Nat := 9
def f_play_Decode : Nat := 14
def f_play_reader_one : Nat := 23
def f_play_reader_num : Nat := 24
def f_play_reader_take : Nat := 37
def f_play_reader_call : Nat := 25
def f_play_reader_program : Nat := 38
def f_slices_Concat_byte_byte : Nat := 42
def f_slices_Grow_byte_byte : Nat := 52
def f_code_Take : Nat := 50
def f_code_inst : Nat := 58
def f_code_Put : Nat := 53
def f_code_May : Nat := 60
def f_code_memory : Nat := 62
def f_code_within : Nat := 63
def f_bytes_Equal : Nat := 59
def f_play_reader_handle : Nat := 39
def f_play_Encode : Nat := 16
def f_play_num : Nat := 28
def f_play_call : Nat := 29
def f_play_program : Nat := 43
def f_play_handle : Nat := 44
def f_play_same : Nat := 30
def f_play_task : Nat := 45
def f_slices_Equal_api_Inst_api_Inst : Nat := 54
def f_law27_light : Nat := 10
def f_play_Made : Nat := 11
def f_play_Picks_Steps : Nat := 12
def f_play_Picks_Begin : Nat := 20
def f_play_Picks_Num : Nat := 32
def f_play_Call : Nat := 35
def f_play_Picks_Task : Nat := 36
def f_play_Picks_Code : Nat := 49
def f_play_Picks_some : Nat := 57
def f_play_Picks_plain : Nat := 33
def f_play_Picks_Over : Nat := 21
def f_play_Picks_Step : Nat := 22
def f_ref27_Decode : Nat := 15
def f_ref27_reader_num : Nat := 26
def f_ref27_call : Nat := 27
def f_ref27_reader_code : Nat := 40
def f_ref1_TakeInst : Nat := 51
def f_ref1_MayInst : Nat := 55
def f_ref1_places_has : Nat := 61
def f_ref27_reader_handle : Nat := 41
def f_ref27_SameSteps : Nat := 13
def f_ref27_SameStep : Nat := 19
def f_ref15_SameTask : Nat := 34
def f_ref1_SameCode : Nat := 48
def f_ref27_Encode : Nat := 17
def f_ref27_put : Nat := 31
def f_ref27_high : Nat := 46
def f_ref27_code : Nat := 47
def f_ref1_PutInst : Nat := 56
def f_law27_PlayBack : Nat := 4
def f_law27_PlayOne : Nat := 7
def f_play_Picks_Wild : Nat := 18
/- foliot/foliotlaw27.PlayBytes -/
def k_law27_PlayBytes : KF := ⟨(.seq (.reg [] [⟨none, .mv 6 (.c (.bool false))⟩] [6])
 (.seq (.seq (.reg [] [⟨none, .dat 8 f_law27_begun []⟩, ⟨none, .un 9 .not (.t 8)⟩] [8])
 (.cond (.t 9) (.seq (.reg [] [⟨none, .mv 6 (.c (.bool false))⟩] [])
 .ret)
 .skip))
 (.seq (.seq (.reg [] [⟨none, .mv 10 (.t 0)⟩, ⟨none, .len 11 (.t 10)⟩, ⟨none, .bin 12 .gtr (.t 11) (.c (.int .i64 200))⟩, ⟨none, .mv 13 (.t 12)⟩, ⟨some (13, false), .mv 14 (.t 1)⟩, ⟨some (13, false), .dat 15 f_law27_light [(.t 14)]⟩, ⟨some (13, false), .un 16 .not (.t 15)⟩, ⟨none, .pick 17 (.t 13) (.c (.bool true)) (.t 16)⟩, ⟨none, .mv 18 (.t 17)⟩, ⟨some (18, false), .mv 19 (.t 2)⟩, ⟨some (18, false), .len 20 (.t 19)⟩, ⟨some (18, false), .bin 21 .gtr (.t 20) (.c (.int .i64 200))⟩, ⟨none, .pick 22 (.t 18) (.c (.bool true)) (.t 21)⟩] [10, 11, 12, 13, 14, 15, 16, 17, 18, 19, 20, 21])
 (.cond (.t 22) (.seq (.reg [] [⟨none, .mv 6 (.c (.bool true))⟩] [])
 .ret)
 .skip))
 (.seq (.reg [] [⟨none, .mv 23 (.t 2)⟩, ⟨none, .cal 24 f_play_Made [(.t 23)] []⟩, ⟨none, .cad 25 f_play_Picks_Steps [(.t 24), (.c (.int .i64 20))] []⟩, ⟨none, .mv 7 (.t 25)⟩] [2, 23, 24, 25])
 (.seq (.reg [(8, 10), (17, 19)] [⟨none, .mv 26 (.t 0)⟩, ⟨none, .daf 27 f_play_Decode [(.t 26)]⟩, ⟨none, .mv 28 (.t 0)⟩, ⟨none, .daf 29 f_ref27_Decode [(.t 28)]⟩, ⟨none, .dat 30 f_ref27_SameSteps [(.t 27), (.t 29)]⟩, ⟨none, .mv 31 (.t 30)⟩, ⟨some (31, true), .mv 32 (.t 1)⟩, ⟨some (31, true), .dat 33 f_play_Encode [(.t 32)]⟩, ⟨some (31, true), .tos 34 (.t 33)⟩, ⟨some (31, true), .mv 35 (.t 1)⟩, ⟨some (31, true), .dat 36 f_ref27_Encode [(.t 35)]⟩, ⟨some (31, true), .tos 37 (.t 36)⟩, ⟨some (31, true), .bin 38 .eql (.t 34) (.t 37)⟩, ⟨none, .pick 39 (.t 31) (.t 38) (.c (.bool false))⟩, ⟨none, .mv 40 (.t 39)⟩, ⟨some (40, true), .mv 41 (.t 7)⟩, ⟨some (40, true), .dat 42 f_play_Encode [(.t 41)]⟩, ⟨some (40, true), .tos 43 (.t 42)⟩, ⟨some (40, true), .mv 44 (.t 7)⟩, ⟨some (40, true), .dat 45 f_ref27_Encode [(.t 44)]⟩, ⟨some (40, true), .tos 46 (.t 45)⟩, ⟨some (40, true), .bin 47 .eql (.t 43) (.t 46)⟩, ⟨none, .pick 48 (.t 40) (.t 47) (.c (.bool false))⟩, ⟨none, .mv 6 (.t 48)⟩] [0, 1, 7, 26, 27, 28, 29, 30, 31, 32, 33, 34, 35, 36, 37, 38, 39, 40, 41, 42, 43, 44, 45, 46, 47, 48])
 .ret))))), [.t 6], none⟩
/- foliot/foliotlaw27.begun -/
def k_law27_begun : KF := ⟨(.seq (.reg [] [⟨none, .mv 0 (.c (.bool false))⟩] [0])
 (.seq (.reg [] [⟨none, .bsl 2 [(.c (.int .u8 2))]⟩, ⟨none, .daf 3 f_play_Decode [(.t 2)]⟩, ⟨none, .mv 1 (.t 3)⟩] [2, 3])
 (.seq (.reg [] [⟨none, .mv 4 (.t 1)⟩, ⟨none, .len 5 (.t 4)⟩, ⟨none, .bin 6 .eql (.t 5) (.c (.int .i64 1))⟩, ⟨none, .mv 7 (.t 6)⟩, ⟨some (7, true), .mv 8 (.t 1)⟩, ⟨some (7, true), .ia 9 (.t 8) (.c (.int .i64 0))⟩, ⟨some (7, true), .fa 10 (.t 9) 0⟩, ⟨some (7, true), .ld 11 (.t 10)⟩, ⟨some (7, true), .bin 12 .eql (.t 11) (.c (.int .i64 2))⟩, ⟨none, .pick 13 (.t 7) (.t 12) (.c (.bool false))⟩, ⟨none, .mv 14 (.t 13)⟩, ⟨some (14, true), .mv 15 (.t 1)⟩, ⟨some (14, true), .dat 16 f_play_Encode [(.t 15)]⟩, ⟨some (14, true), .tos 17 (.t 16)⟩, ⟨some (14, true), .bin 18 .eql (.t 17) (.c (.d (.str [2])))⟩, ⟨none, .pick 19 (.t 14) (.t 18) (.c (.bool false))⟩, ⟨none, .mv 20 (.t 19)⟩, ⟨some (20, true), .bld 21 [(.c (.int .i64 6)), (.c (.d (.agg [(.int .i64 0), (.agg [(.int .i64 0), (.int .i64 0), (.int .i64 0), (.sl true []), (.sl true []), (.sl true [])]), (.agg [(.int .i64 0), (.int .i64 0)]), (.int .i64 0), (.int .i64 0), (.int .u32 0)]))), (.c (.int .i64 0)), (.c (.int .i64 0))]⟩, ⟨some (20, true), .bsl 22 [(.t 21)]⟩, ⟨some (20, true), .dat 23 f_play_Encode [(.t 22)]⟩, ⟨some (20, true), .len 24 (.t 23)⟩, ⟨some (20, true), .bin 25 .eql (.t 24) (.c (.int .i64 0))⟩, ⟨none, .pick 26 (.t 20) (.t 25) (.c (.bool false))⟩, ⟨none, .mv 0 (.t 26)⟩] [1, 4, 5, 6, 7, 8, 9, 10, 11, 12, 13, 14, 15, 16, 17, 18, 19, 20, 21, 22, 23, 24, 25, 26])
 .ret))), [.t 0], none⟩
/- foliot/play.Decode -/
def k_play_Decode_L0b : K := (.seq (.seq (.reg [] [⟨none, .mv 8 (.t 3)⟩, ⟨none, .nck 9 (.t 8)⟩, ⟨none, .fa 10 (.t 9) 0⟩, ⟨none, .ld 11 (.t 10)⟩, ⟨none, .len 12 (.t 11)⟩, ⟨none, .bin 13 .gtr (.t 12) (.c (.int .i64 0))⟩] [8, 9, 10, 11, 12])
 (.cond (.t 13) .skip
 (.ext 0)))
 (.blk 1 (.seq (.reg [] [⟨none, .mv 14 (.t 3)⟩, ⟨none, .cal 15 f_play_reader_one [(.t 14)] []⟩, ⟨none, .bin 16 .rem (.t 15) (.c (.int .i64 6))⟩, ⟨none, .bld 17 [(.t 16), (.c (.d (.agg [(.int .i64 0), (.agg [(.int .i64 0), (.int .i64 0), (.int .i64 0), (.sl true []), (.sl true []), (.sl true [])]), (.agg [(.int .i64 0), (.int .i64 0)]), (.int .i64 0), (.int .i64 0), (.int .u32 0)]))), (.c (.int .i64 0)), (.c (.int .i64 0))]⟩, ⟨none, .alc 4 (.d (.agg [(.int .i64 0), (.agg [(.int .i64 0), (.agg [(.int .i64 0), (.int .i64 0), (.int .i64 0), (.sl true []), (.sl true []), (.sl true [])]), (.agg [(.int .i64 0), (.int .i64 0)]), (.int .i64 0), (.int .i64 0), (.int .u32 0)]), (.int .i64 0), (.int .i64 0)]))⟩, ⟨none, .st (.t 4) (.t 17)⟩] [14, 15, 16, 17])
 (.seq (.seq (.reg [] [⟨none, .fa 18 (.t 4) 0⟩, ⟨none, .ld 19 (.t 18)⟩] [18])
 (.blk 2 (.seq (.reg [] [⟨none, .bin 21 .eql (.t 19) (.c (.int .i64 0))⟩, ⟨none, .mv 20 (.t 21)⟩] [21])
 (.cond (.t 20) (.ext 1)
 (.seq (.reg [] [⟨none, .bin 23 .eql (.t 19) (.c (.int .i64 4))⟩, ⟨none, .mv 22 (.t 23)⟩] [23])
 (.cond (.t 22) (.reg [] [⟨none, .mv 24 (.t 3)⟩, ⟨none, .cal 25 f_play_reader_one [(.t 24)] []⟩, ⟨none, .fa 26 (.t 4) 2⟩, ⟨none, .st (.t 26) (.t 25)⟩] [24, 25, 26])
 (.seq (.reg [] [⟨none, .bin 28 .eql (.t 19) (.c (.int .i64 5))⟩, ⟨none, .mv 27 (.t 28)⟩] [28])
 (.cond (.t 27) (.reg [] [⟨none, .mv 29 (.t 3)⟩, ⟨none, .cal 30 f_play_reader_num [(.t 29), (.c (.int .i64 2))] []⟩, ⟨none, .cv 31 .i64 (.t 30)⟩, ⟨none, .fa 32 (.t 4) 3⟩, ⟨none, .st (.t 32) (.t 31)⟩] [29, 30, 31, 32])
 (.seq (.reg [] [⟨none, .bin 34 .eql (.t 19) (.c (.int .i64 1))⟩, ⟨none, .mv 33 (.t 34)⟩] [19, 34])
 (.cond (.t 33) (.reg [] [⟨none, .mv 35 (.t 3)⟩, ⟨none, .cal 36 f_play_reader_call [(.t 35)] []⟩, ⟨none, .fa 37 (.t 4) 1⟩, ⟨none, .st (.t 37) (.t 36)⟩] [35, 36, 37])
 .skip))))))))))
 (.seq (.seq (.reg [] [⟨none, .mv 38 (.t 3)⟩, ⟨none, .nck 39 (.t 38)⟩, ⟨none, .fa 40 (.t 39) 1⟩, ⟨none, .ld 41 (.t 40)⟩] [38, 39, 40])
 (.cond (.t 41) (.ext 0)
 .skip))
 (.reg [] [⟨none, .mv 42 (.t 2)⟩, ⟨none, .ld 43 (.t 4)⟩, ⟨none, .bsl 44 [(.t 43)]⟩, ⟨none, .app 45 (.t 42) (.t 44)⟩, ⟨none, .mv 2 (.t 45)⟩] [4, 42, 43, 44, 45]))))))
def k_play_Decode_L0 : K := k_play_Decode_L0b
def k_play_Decode : KF := ⟨(.seq (.reg [] [⟨none, .mv 2 (.c (.d (.sl true [])))⟩] [])
 (.seq (.reg [] [⟨none, .mv 5 (.t 0)⟩, ⟨none, .bld 6 [(.t 5), (.c (.bool false))]⟩, ⟨none, .box 7 (.t 6)⟩, ⟨none, .mv 3 (.t 7)⟩] [0, 5, 6, 7])
 (.seq (.blk 0 (.loop [2, 3] k_play_Decode_L0))
 (.seq (.reg [] [⟨none, .mv 46 (.t 2)⟩, ⟨none, .mv 2 (.t 46)⟩] [46])
 .ret)))), [.t 2], none⟩
/- (*foliot/play.reader).one -/
def k_play_reader_one : KF := ⟨(.seq (.reg [] [⟨none, .mv 2 (.c (.int .i64 0))⟩] [2])
 (.seq (.reg [] [⟨none, .mv 3 (.t 0)⟩, ⟨none, .cal 4 f_play_reader_num [(.t 3), (.c (.int .i64 1))] []⟩, ⟨none, .cv 5 .i64 (.t 4)⟩, ⟨none, .mv 2 (.t 5)⟩] [0, 3, 4, 5])
 .ret)), [.t 2], none⟩
/- (*foliot/play.reader).num -/
def k_play_reader_num_L0b : K := (.seq (.reg [] [⟨none, .bin 12 .lss (.t 11) (.t 10)⟩] [])
 (.seq (.cond (.t 12) .skip
 (.ext 0))
 (.seq (.blk 1 (.seq (.reg [] [⟨none, .ia 13 (.t 9) (.t 11)⟩, ⟨none, .ld 14 (.t 13)⟩, ⟨none, .mv 6 (.t 14)⟩] [13, 14])
 (.reg [] [⟨none, .mv 15 (.t 4)⟩, ⟨none, .bin 16 .shl (.t 15) (.c (.int .u64 8))⟩, ⟨none, .mv 17 (.t 6)⟩, ⟨none, .cv 18 .u64 (.t 17)⟩, ⟨none, .bin 19 .or (.t 16) (.t 18)⟩, ⟨none, .mv 4 (.t 19)⟩] [6, 15, 16, 17, 18, 19])))
 (.reg [] [⟨none, .bin 20 .add (.t 11) (.c (.int .i64 1))⟩, ⟨none, .mv 11 (.t 20)⟩] [20]))))
def k_play_reader_num_L0 : K := k_play_reader_num_L0b
def k_play_reader_num : KF := ⟨(.seq (.reg [] [⟨none, .mv 4 (.c (.int .u64 0))⟩] [])
 (.seq (.seq (.reg [] [⟨none, .mv 7 (.t 0)⟩, ⟨none, .mv 8 (.t 1)⟩, ⟨none, .cal 9 f_play_reader_take [(.t 7), (.t 8)] []⟩, ⟨none, .len 10 (.t 9)⟩, ⟨none, .mv 11 (.c (.int .i64 0))⟩] [0, 1, 7, 8])
 (.blk 0 (.loop [4, 9, 10, 11] k_play_reader_num_L0)))
 (.seq (.reg [] [⟨none, .mv 21 (.t 4)⟩, ⟨none, .mv 4 (.t 21)⟩] [21])
 .ret))), [.t 4], none⟩
/- (*foliot/play.reader).take -/
def k_play_reader_take : KF := ⟨(.seq (.reg [] [⟨none, .mv 4 (.c (.d (.sl true [])))⟩] [4])
 (.seq (.seq (.reg [] [⟨none, .mv 6 (.t 0)⟩, ⟨none, .nck 7 (.t 6)⟩, ⟨none, .fa 8 (.t 7) 1⟩, ⟨none, .ld 9 (.t 8)⟩, ⟨none, .mv 10 (.t 9)⟩, ⟨some (10, false), .mv 11 (.t 1)⟩, ⟨some (10, false), .mv 12 (.t 0)⟩, ⟨some (10, false), .nck 13 (.t 12)⟩, ⟨some (10, false), .fa 14 (.t 13) 0⟩, ⟨some (10, false), .ld 15 (.t 14)⟩, ⟨some (10, false), .len 16 (.t 15)⟩, ⟨some (10, false), .bin 17 .gtr (.t 11) (.t 16)⟩, ⟨none, .pick 18 (.t 10) (.c (.bool true)) (.t 17)⟩] [6, 7, 8, 9, 10, 11, 12, 13, 14, 15, 16, 17])
 (.cond (.t 18) (.seq (.reg [] [⟨none, .mv 19 (.t 0)⟩, ⟨none, .mv 20 (.t 0)⟩, ⟨none, .nck 21 (.t 19)⟩, ⟨none, .fa 22 (.t 21) 0⟩, ⟨none, .st (.t 22) (.c (.d (.sl true [])))⟩, ⟨none, .nck 23 (.t 20)⟩, ⟨none, .fa 24 (.t 23) 1⟩, ⟨none, .st (.t 24) (.c (.bool true))⟩] [0, 19, 20, 21, 22, 23, 24])
 (.seq (.reg [] [⟨none, .mv 25 (.t 1)⟩, ⟨none, .mks 26 (.int .u8 0) (.t 25) (.t 25)⟩, ⟨none, .mv 4 (.t 26)⟩] [1, 25, 26])
 .ret))
 .skip))
 (.seq (.reg [] [⟨none, .mv 27 (.t 0)⟩, ⟨none, .nck 28 (.t 27)⟩, ⟨none, .fa 29 (.t 28) 0⟩, ⟨none, .ld 30 (.t 29)⟩, ⟨none, .mv 31 (.t 1)⟩, ⟨none, .slc 32 (.t 30) none (some (.t 31))⟩, ⟨none, .mv 5 (.t 32)⟩] [27, 28, 29, 30, 31, 32])
 (.seq (.reg [] [⟨none, .mv 33 (.t 0)⟩, ⟨none, .mv 34 (.t 0)⟩, ⟨none, .nck 35 (.t 34)⟩, ⟨none, .fa 36 (.t 35) 0⟩, ⟨none, .ld 37 (.t 36)⟩, ⟨none, .mv 38 (.t 1)⟩, ⟨none, .slc 39 (.t 37) (some (.t 38)) none⟩, ⟨none, .nck 40 (.t 33)⟩, ⟨none, .fa 41 (.t 40) 0⟩, ⟨none, .st (.t 41) (.t 39)⟩] [0, 1, 33, 34, 35, 36, 37, 38, 39, 40, 41])
 (.seq (.reg [] [⟨none, .mv 42 (.t 5)⟩, ⟨none, .mv 4 (.t 42)⟩] [5, 42])
 .ret))))), [.t 4], none⟩
/- (*foliot/play.reader).call -/
def k_play_reader_call : KF := ⟨(.seq (.reg [] [⟨none, .alc 2 (.d (.agg [(.int .i64 0), (.agg [(.int .i64 0), (.int .i64 0), (.int .i64 0), (.sl true []), (.sl true []), (.sl true [])]), (.agg [(.int .i64 0), (.int .i64 0)]), (.int .i64 0), (.int .i64 0), (.int .u32 0)]))⟩] [])
 (.seq (.reg [] [⟨none, .mv 4 (.t 0)⟩, ⟨none, .cal 5 f_play_reader_one [(.t 4)] []⟩, ⟨none, .bld 6 [(.t 5), (.c (.d (.agg [(.int .i64 0), (.int .i64 0), (.int .i64 0), (.sl true []), (.sl true []), (.sl true [])]))), (.c (.d (.agg [(.int .i64 0), (.int .i64 0)]))), (.c (.int .i64 0)), (.c (.int .i64 0)), (.c (.int .u32 0))]⟩, ⟨none, .alc 3 (.d (.agg [(.int .i64 0), (.agg [(.int .i64 0), (.int .i64 0), (.int .i64 0), (.sl true []), (.sl true []), (.sl true [])]), (.agg [(.int .i64 0), (.int .i64 0)]), (.int .i64 0), (.int .i64 0), (.int .u32 0)]))⟩, ⟨none, .st (.t 3) (.t 6)⟩] [4, 5, 6])
 (.seq (.seq (.reg [] [⟨none, .fa 7 (.t 3) 0⟩, ⟨none, .ld 8 (.t 7)⟩] [7])
 (.blk 0 (.seq (.reg [] [⟨none, .bin 10 .eql (.t 8) (.c (.int .i64 1))⟩, ⟨none, .mv 9 (.t 10)⟩] [10])
 (.cond (.t 9) (.seq (.reg [] [⟨none, .mv 11 (.t 0)⟩, ⟨none, .cal 12 f_play_reader_one [(.t 11)] []⟩, ⟨none, .mv 13 (.t 0)⟩, ⟨none, .cal 14 f_play_reader_num [(.t 13), (.c (.int .i64 4))] []⟩, ⟨none, .cv 15 .i64 (.t 14)⟩, ⟨none, .mv 16 (.t 0)⟩, ⟨none, .cal 17 f_play_reader_num [(.t 16), (.c (.int .i64 4))] []⟩, ⟨none, .cv 18 .i64 (.t 17)⟩, ⟨none, .bld 19 [(.t 12), (.t 15), (.t 18), (.c (.d (.sl true []))), (.c (.d (.sl true []))), (.c (.d (.sl true [])))]⟩, ⟨none, .fa 20 (.t 3) 1⟩, ⟨none, .st (.t 20) (.t 19)⟩] [11, 12, 13, 14, 15, 16, 17, 18, 19, 20])
 (.reg [] [⟨none, .mv 21 (.t 0)⟩, ⟨none, .cal 22 f_play_reader_program [(.t 21)] []⟩, ⟨none, .mv 23 (.t 0)⟩, ⟨none, .cal 24 f_play_reader_program [(.t 23)] []⟩, ⟨none, .mv 25 (.t 0)⟩, ⟨none, .cal 26 f_play_reader_program [(.t 25)] []⟩, ⟨none, .fa 27 (.t 3) 1⟩, ⟨none, .fa 28 (.t 27) 3⟩, ⟨none, .st (.t 28) (.t 22)⟩, ⟨none, .fa 29 (.t 3) 1⟩, ⟨none, .fa 30 (.t 29) 4⟩, ⟨none, .st (.t 30) (.t 24)⟩, ⟨none, .fa 31 (.t 3) 1⟩, ⟨none, .fa 32 (.t 31) 5⟩, ⟨none, .st (.t 32) (.t 26)⟩] [0, 21, 22, 23, 24, 25, 26, 27, 28, 29, 30, 31, 32]))
 (.seq (.reg [] [⟨none, .bin 34 .eql (.t 8) (.c (.int .i64 6))⟩, ⟨none, .mv 33 (.t 34)⟩] [34])
 (.cond (.t 33) (.reg [] [⟨none, .mv 35 (.t 0)⟩, ⟨none, .cal 36 f_play_reader_one [(.t 35)] []⟩, ⟨none, .mv 37 (.t 0)⟩, ⟨none, .cal 38 f_play_reader_num [(.t 37), (.c (.int .i64 8))] []⟩, ⟨none, .cv 39 .i64 (.t 38)⟩, ⟨none, .fa 40 (.t 3) 3⟩, ⟨none, .st (.t 40) (.t 36)⟩, ⟨none, .fa 41 (.t 3) 4⟩, ⟨none, .st (.t 41) (.t 39)⟩] [0, 35, 36, 37, 38, 39, 40, 41])
 (.seq (.reg [] [⟨none, .bin 43 .eql (.t 8) (.c (.int .i64 7))⟩, ⟨none, .mv 42 (.t 43)⟩] [43])
 (.cond (.t 42) (.reg [] [⟨none, .mv 44 (.t 0)⟩, ⟨none, .cal 45 f_play_reader_handle [(.t 44)] []⟩, ⟨none, .mv 46 (.t 0)⟩, ⟨none, .cal 47 f_play_reader_num [(.t 46), (.c (.int .i64 8))] []⟩, ⟨none, .cv 48 .i64 (.t 47)⟩, ⟨none, .fa 49 (.t 3) 2⟩, ⟨none, .st (.t 49) (.t 45)⟩, ⟨none, .fa 50 (.t 3) 4⟩, ⟨none, .st (.t 50) (.t 48)⟩] [0, 44, 45, 46, 47, 48, 49, 50])
 (.seq (.reg [] [⟨none, .bin 52 .eql (.t 8) (.c (.int .i64 8))⟩, ⟨none, .mv 51 (.t 52)⟩] [52])
 (.cond (.t 51) (.reg [] [⟨none, .mv 53 (.t 0)⟩, ⟨none, .cal 54 f_play_reader_handle [(.t 53)] []⟩, ⟨none, .mv 55 (.t 0)⟩, ⟨none, .cal 56 f_play_reader_one [(.t 55)] []⟩, ⟨none, .fa 57 (.t 3) 2⟩, ⟨none, .st (.t 57) (.t 54)⟩, ⟨none, .fa 58 (.t 3) 3⟩, ⟨none, .st (.t 58) (.t 56)⟩] [0, 53, 54, 55, 56, 57, 58])
 (.seq (.reg [] [⟨none, .bin 60 .eql (.t 8) (.c (.int .i64 9))⟩, ⟨none, .mv 59 (.t 60)⟩] [60])
 (.cond (.t 59) (.reg [] [⟨none, .mv 61 (.t 0)⟩, ⟨none, .cal 62 f_play_reader_handle [(.t 61)] []⟩, ⟨none, .mv 63 (.t 0)⟩, ⟨none, .cal 64 f_play_reader_num [(.t 63), (.c (.int .i64 4))] []⟩, ⟨none, .cv 65 .u32 (.t 64)⟩, ⟨none, .fa 66 (.t 3) 2⟩, ⟨none, .st (.t 66) (.t 62)⟩, ⟨none, .fa 67 (.t 3) 5⟩, ⟨none, .st (.t 67) (.t 65)⟩] [0, 61, 62, 63, 64, 65, 66, 67])
 (.seq (.reg [] [⟨none, .bin 69 .eql (.t 8) (.c (.int .i64 10))⟩, ⟨none, .mv 68 (.t 69)⟩] [69])
 (.cond (.t 68) (.reg [] [⟨none, .mv 70 (.t 0)⟩, ⟨none, .cal 71 f_play_reader_handle [(.t 70)] []⟩, ⟨none, .mv 72 (.t 0)⟩, ⟨none, .cal 73 f_play_reader_one [(.t 72)] []⟩, ⟨none, .mv 74 (.t 0)⟩, ⟨none, .cal 75 f_play_reader_num [(.t 74), (.c (.int .i64 4))] []⟩, ⟨none, .cv 76 .u32 (.t 75)⟩, ⟨none, .fa 77 (.t 3) 2⟩, ⟨none, .st (.t 77) (.t 71)⟩, ⟨none, .fa 78 (.t 3) 3⟩, ⟨none, .st (.t 78) (.t 73)⟩, ⟨none, .fa 79 (.t 3) 5⟩, ⟨none, .st (.t 79) (.t 76)⟩] [0, 70, 71, 72, 73, 74, 75, 76, 77, 78, 79])
 (.seq (.reg [] [⟨none, .bin 81 .eql (.t 8) (.c (.int .i64 11))⟩, ⟨none, .mv 80 (.t 81)⟩] [8, 81])
 (.cond (.t 80) (.reg [] [⟨none, .mv 82 (.t 0)⟩, ⟨none, .cal 83 f_play_reader_handle [(.t 82)] []⟩, ⟨none, .fa 84 (.t 3) 2⟩, ⟨none, .st (.t 84) (.t 83)⟩] [0, 82, 83, 84])
 .skip))))))))))))))))
 (.seq (.reg [] [⟨none, .ld 85 (.t 3)⟩, ⟨none, .st (.t 2) (.t 85)⟩] [3, 85])
 .ret)))), [.cell 2], none⟩
/- (*foliot/play.reader).program -/
def k_play_reader_program_L0b : K := (.seq (.seq (.reg [] [⟨none, .mv 8 (.t 3)⟩, ⟨none, .bin 9 .gtr (.t 8) (.c (.int .i64 0))⟩, ⟨none, .mv 10 (.t 9)⟩, ⟨some (10, true), .mv 11 (.t 0)⟩, ⟨some (10, true), .nck 12 (.t 11)⟩, ⟨some (10, true), .fa 13 (.t 12) 1⟩, ⟨some (10, true), .ld 14 (.t 13)⟩, ⟨some (10, true), .un 15 .not (.t 14)⟩, ⟨none, .pick 16 (.t 10) (.t 15) (.c (.bool false))⟩] [8, 9, 10, 11, 12, 13, 14, 15])
 (.cond (.t 16) .skip
 (.ext 0)))
 (.seq (.blk 1 (.seq (.reg [] [⟨none, .bsl 20 [(.c (.int .u8 1))]⟩, ⟨none, .mv 21 (.t 0)⟩, ⟨none, .cal 22 f_play_reader_take [(.t 21), (.c (.int .i64 7))] []⟩, ⟨none, .bsl 23 [(.t 20), (.t 22)]⟩, ⟨none, .dat 24 f_slices_Concat_byte_byte [(.t 23)]⟩, ⟨none, .dat 25 f_code_Take [(.t 24)]⟩, ⟨none, .mv 19 (.t 25)⟩, ⟨none, .ex 26 (.t 19) 0⟩, ⟨none, .ex 27 (.t 19) 1⟩, ⟨none, .mv 4 (.t 26)⟩, ⟨none, .mv 5 (.t 27)⟩] [19, 20, 21, 22, 23, 24, 25, 26, 27])
 (.seq (.seq (.reg [] [⟨none, .mv 28 (.t 5)⟩, ⟨none, .un 29 .not (.t 28)⟩] [5, 28])
 (.cond (.t 29) (.seq (.reg [] [⟨none, .mv 30 (.t 0)⟩, ⟨none, .mv 31 (.t 0)⟩, ⟨none, .nck 32 (.t 30)⟩, ⟨none, .fa 33 (.t 32) 0⟩, ⟨none, .st (.t 33) (.c (.d (.sl true [])))⟩, ⟨none, .nck 34 (.t 31)⟩, ⟨none, .fa 35 (.t 34) 1⟩, ⟨none, .st (.t 35) (.c (.bool true))⟩] [0, 30, 31, 32, 33, 34, 35])
 (.ext 0))
 .skip))
 (.reg [] [⟨none, .mv 36 (.t 2)⟩, ⟨none, .mv 37 (.t 4)⟩, ⟨none, .app 38 (.t 36) (.t 37)⟩, ⟨none, .mv 2 (.t 38)⟩] [4, 36, 37, 38]))))
 (.reg [] [⟨none, .mv 17 (.t 3)⟩, ⟨none, .bin 18 .sub (.t 17) (.c (.int .i64 1))⟩, ⟨none, .mv 3 (.t 18)⟩] [17, 18])))
def k_play_reader_program_L0 : K := k_play_reader_program_L0b
def k_play_reader_program : KF := ⟨(.seq (.reg [] [⟨none, .mv 2 (.c (.d (.sl true [])))⟩] [])
 (.seq (.seq (.reg [] [⟨none, .mv 6 (.t 0)⟩, ⟨none, .cal 7 f_play_reader_one [(.t 6)] []⟩, ⟨none, .mv 3 (.t 7)⟩] [6, 7])
 (.blk 0 (.loop [0, 2, 3] k_play_reader_program_L0)))
 (.seq (.reg [] [⟨none, .mv 39 (.t 2)⟩, ⟨none, .mv 2 (.t 39)⟩] [39])
 .ret))), [.t 2], none⟩
/- slices.Concat[[]byte,byte] -/
def k_slices_Concat_byte_byte_L0b : K := (.seq (.reg [] [⟨none, .bin 12 .lss (.t 11) (.t 10)⟩] [])
 (.seq (.cond (.t 12) .skip
 (.ext 0))
 (.seq (.blk 1 (.seq (.reg [] [⟨none, .ia 13 (.t 9) (.t 11)⟩, ⟨none, .ld 14 (.t 13)⟩, ⟨none, .mv 5 (.t 14)⟩] [13, 14])
 (.seq (.reg [] [⟨none, .mv 15 (.t 3)⟩, ⟨none, .mv 16 (.t 5)⟩, ⟨none, .len 17 (.t 16)⟩, ⟨none, .bin 18 .add (.t 15) (.t 17)⟩, ⟨none, .mv 3 (.t 18)⟩] [5, 15, 16, 17, 18])
 (.seq (.reg [] [⟨none, .mv 19 (.t 3)⟩, ⟨none, .bin 20 .lss (.t 19) (.c (.int .i64 0))⟩] [19])
 (.cond (.t 20) (.reg [] [⟨none, .bad (some 21)⟩, ⟨none, .bad none⟩] [21])
 .skip)))))
 (.reg [] [⟨none, .bin 22 .add (.t 11) (.c (.int .i64 1))⟩, ⟨none, .mv 11 (.t 22)⟩] [22]))))
def k_slices_Concat_byte_byte_L0 : K := k_slices_Concat_byte_byte_L0b
def k_slices_Concat_byte_byte_L1b : K := (.seq (.reg [] [⟨none, .bin 28 .lss (.t 27) (.t 26)⟩] [])
 (.seq (.cond (.t 28) .skip
 (.ext 2))
 (.seq (.blk 3 (.seq (.reg [] [⟨none, .ia 29 (.t 25) (.t 27)⟩, ⟨none, .ld 30 (.t 29)⟩, ⟨none, .mv 8 (.t 30)⟩] [29, 30])
 (.reg [] [⟨none, .mv 31 (.t 6)⟩, ⟨none, .mv 32 (.t 8)⟩, ⟨none, .app 33 (.t 31) (.t 32)⟩, ⟨none, .mv 6 (.t 33)⟩] [8, 31, 32, 33])))
 (.reg [] [⟨none, .bin 34 .add (.t 27) (.c (.int .i64 1))⟩, ⟨none, .mv 27 (.t 34)⟩] [34]))))
def k_slices_Concat_byte_byte_L1 : K := k_slices_Concat_byte_byte_L1b
def k_slices_Concat_byte_byte : KF := ⟨(.seq (.reg [] [⟨none, .mv 2 (.c (.d (.sl true [])))⟩] [2])
 (.seq (.reg [] [⟨none, .mv 3 (.c (.int .i64 0))⟩] [])
 (.seq (.seq (.reg [] [⟨none, .mv 9 (.t 0)⟩, ⟨none, .len 10 (.t 9)⟩, ⟨none, .mv 11 (.c (.int .i64 0))⟩] [])
 (.blk 0 (.loop [0, 3, 9, 10, 11] k_slices_Concat_byte_byte_L0)))
 (.seq (.reg [] [⟨none, .mv 23 (.t 3)⟩, ⟨none, .cal 24 f_slices_Grow_byte_byte [(.c (.d (.sl true []))), (.t 23)] []⟩, ⟨none, .mv 6 (.t 24)⟩] [3, 23, 24])
 (.seq (.seq (.reg [] [⟨none, .mv 25 (.t 0)⟩, ⟨none, .len 26 (.t 25)⟩, ⟨none, .mv 27 (.c (.int .i64 0))⟩] [0])
 (.blk 2 (.loop [6, 25, 26, 27] k_slices_Concat_byte_byte_L1)))
 (.seq (.reg [] [⟨none, .mv 35 (.t 6)⟩, ⟨none, .mv 2 (.t 35)⟩] [6, 35])
 .ret)))))), [.t 2], none⟩
/- slices.Grow[[]byte,byte] -/
def k_slices_Grow_byte_byte : KF := ⟨(.seq (.reg [] [⟨none, .mv 4 (.c (.d (.sl true [])))⟩] [4])
 (.seq (.seq (.reg [] [⟨none, .mv 5 (.t 1)⟩, ⟨none, .bin 6 .lss (.t 5) (.c (.int .i64 0))⟩] [5])
 (.cond (.t 6) (.reg [] [⟨none, .bad (some 7)⟩, ⟨none, .bad none⟩] [7])
 .skip))
 (.seq (.seq (.reg [] [⟨none, .mv 8 (.t 1)⟩, ⟨none, .mv 9 (.t 0)⟩, ⟨none, .cap 10 (.t 9)⟩, ⟨none, .mv 11 (.t 0)⟩, ⟨none, .len 12 (.t 11)⟩, ⟨none, .bin 13 .sub (.t 10) (.t 12)⟩, ⟨none, .bin 14 .sub (.t 8) (.t 13)⟩, ⟨none, .mv 1 (.t 14)⟩] [8, 9, 10, 11, 12, 13, 14])
 (.seq (.reg [] [⟨none, .mv 15 (.t 1)⟩, ⟨none, .bin 16 .gtr (.t 15) (.c (.int .i64 0))⟩] [15])
 (.cond (.t 16) (.reg [] [⟨none, .mv 17 (.t 0)⟩, ⟨none, .mv 18 (.t 0)⟩, ⟨none, .cap 19 (.t 18)⟩, ⟨none, .slc 20 (.t 17) none (some (.t 19))⟩, ⟨none, .mv 21 (.t 1)⟩, ⟨none, .apz 22 (.t 20) (.int .u8 0) (.t 21)⟩, ⟨none, .mv 23 (.t 0)⟩, ⟨none, .len 24 (.t 23)⟩, ⟨none, .slc 25 (.t 22) none (some (.t 24))⟩, ⟨none, .mv 0 (.t 25)⟩] [1, 17, 18, 19, 20, 21, 22, 23, 24, 25])
 .skip)))
 (.seq (.reg [] [⟨none, .mv 26 (.t 0)⟩, ⟨none, .mv 4 (.t 26)⟩] [0, 26])
 .ret)))), [.t 4], none⟩
/- foliot/code.Take -/
def k_code_Take_L0b : K := (.seq (.seq (.reg [] [⟨none, .mv 6 (.t 4)⟩, ⟨none, .bin 7 .add (.t 6) (.c (.int .i64 7))⟩, ⟨none, .mv 8 (.t 0)⟩, ⟨none, .len 9 (.t 8)⟩, ⟨none, .bin 10 .leq (.t 7) (.t 9)⟩] [6, 7, 8, 9])
 (.cond (.t 10) .skip
 (.ext 0)))
 (.seq (.blk 1 (.reg [] [⟨none, .mv 13 (.t 2)⟩, ⟨none, .mv 14 (.t 0)⟩, ⟨none, .mv 15 (.t 4)⟩, ⟨none, .mv 16 (.t 4)⟩, ⟨none, .bin 17 .add (.t 16) (.c (.int .i64 7))⟩, ⟨none, .slc 18 (.t 14) (some (.t 15)) (some (.t 17))⟩, ⟨none, .dat 19 f_code_inst [(.t 18)]⟩, ⟨none, .bsl 20 [(.t 19)]⟩, ⟨none, .app 21 (.t 13) (.t 20)⟩, ⟨none, .mv 2 (.t 21)⟩] [13, 14, 15, 16, 17, 18, 19, 20, 21]))
 (.reg [] [⟨none, .mv 11 (.t 4)⟩, ⟨none, .bin 12 .add (.t 11) (.c (.int .i64 7))⟩, ⟨none, .mv 4 (.t 12)⟩] [11, 12])))
def k_code_Take_L0 : K := k_code_Take_L0b
def k_code_Take : KF := ⟨(.seq (.reg [] [⟨none, .mv 2 (.c (.d (.sl true [])))⟩, ⟨none, .mv 3 (.c (.bool false))⟩] [3])
 (.seq (.seq (.reg [] [⟨none, .mv 4 (.c (.int .i64 1))⟩] [])
 (.blk 0 (.loop [0, 2, 4] k_code_Take_L0)))
 (.seq (.seq (.reg [] [⟨none, .mv 22 (.t 2)⟩, ⟨none, .dat 23 f_code_Put [(.t 22)]⟩, ⟨none, .mv 5 (.t 23)⟩] [22, 23])
 (.seq (.reg [] [⟨none, .mv 24 (.t 5)⟩, ⟨none, .bin 25 .eql (.t 24) (.c (.d (.sl true [])))⟩, ⟨none, .mv 26 (.t 25)⟩, ⟨some (26, false), .mv 27 (.t 5)⟩, ⟨some (26, false), .mv 28 (.t 0)⟩, ⟨some (26, false), .dat 29 f_bytes_Equal [(.t 27), (.t 28)]⟩, ⟨some (26, false), .un 30 .not (.t 29)⟩, ⟨none, .pick 31 (.t 26) (.c (.bool true)) (.t 30)⟩] [0, 5, 24, 25, 26, 27, 28, 29, 30])
 (.cond (.t 31) (.seq (.reg [] [⟨none, .mv 2 (.c (.d (.sl true [])))⟩, ⟨none, .mv 3 (.c (.bool false))⟩] [])
 .ret)
 .skip)))
 (.seq (.reg [] [⟨none, .mv 32 (.t 2)⟩, ⟨none, .mv 2 (.t 32)⟩, ⟨none, .mv 3 (.c (.bool true))⟩] [32])
 .ret)))), [.t 2, .t 3], none⟩
/- foliot/code.inst -/
def k_code_inst_L0b : K := (.seq (.reg [] [⟨none, .bin 10 .lss (.t 9) (.t 8)⟩] [])
 (.seq (.cond (.t 10) .skip
 (.ext 0))
 (.seq (.blk 1 (.seq (.reg [] [⟨none, .ia 11 (.t 7) (.t 9)⟩, ⟨none, .ld 12 (.t 11)⟩, ⟨none, .mv 5 (.t 12)⟩] [11, 12])
 (.reg [] [⟨none, .mv 13 (.t 3)⟩, ⟨none, .bin 14 .shl (.t 13) (.c (.int .u64 8))⟩, ⟨none, .mv 15 (.t 5)⟩, ⟨none, .cv 16 .u32 (.t 15)⟩, ⟨none, .bin 17 .or (.t 14) (.t 16)⟩, ⟨none, .mv 3 (.t 17)⟩] [5, 13, 14, 15, 16, 17])))
 (.reg [] [⟨none, .bin 18 .add (.t 9) (.c (.int .i64 1))⟩, ⟨none, .mv 9 (.t 18)⟩] [18]))))
def k_code_inst_L0 : K := k_code_inst_L0b
def k_code_inst : KF := ⟨(.seq (.reg [] [⟨none, .alc 2 (.d (.agg [(.int .i64 0), (.int .i64 0), (.int .i64 0), (.int .i64 0)]))⟩] [])
 (.seq (.reg [] [⟨none, .mv 3 (.c (.int .u32 0))⟩] [])
 (.seq (.seq (.reg [] [⟨none, .mv 6 (.t 0)⟩, ⟨none, .slc 7 (.t 6) (some (.c (.int .i64 3))) (some (.c (.int .i64 7)))⟩, ⟨none, .len 8 (.t 7)⟩, ⟨none, .mv 9 (.c (.int .i64 0))⟩] [6])
 (.blk 0 (.loop [0, 2, 3, 7, 8, 9] k_code_inst_L0)))
 (.seq (.reg [] [⟨none, .mv 19 (.t 0)⟩, ⟨none, .ia 20 (.t 19) (.c (.int .i64 0))⟩, ⟨none, .ld 21 (.t 20)⟩, ⟨none, .cv 22 .i64 (.t 21)⟩, ⟨none, .mv 23 (.t 0)⟩, ⟨none, .ia 24 (.t 23) (.c (.int .i64 1))⟩, ⟨none, .ld 25 (.t 24)⟩, ⟨none, .cv 26 .i64 (.t 25)⟩, ⟨none, .mv 27 (.t 0)⟩, ⟨none, .ia 28 (.t 27) (.c (.int .i64 2))⟩, ⟨none, .ld 29 (.t 28)⟩, ⟨none, .cv 30 .i64 (.t 29)⟩, ⟨none, .mv 31 (.t 3)⟩, ⟨none, .cv 32 .i32 (.t 31)⟩, ⟨none, .cv 33 .i64 (.t 32)⟩, ⟨none, .bld 34 [(.t 22), (.t 26), (.t 30), (.t 33)]⟩, ⟨none, .st (.t 2) (.t 34)⟩] [0, 3, 19, 20, 21, 22, 23, 24, 25, 26, 27, 28, 29, 30, 31, 32, 33, 34])
 .ret)))), [.cell 2], none⟩
/- foliot/code.Put -/
def k_code_Put_L0b : K := (.seq (.reg [] [⟨none, .bin 17 .lss (.t 16) (.t 15)⟩] [])
 (.seq (.cond (.t 17) .skip
 (.ext 0))
 (.seq (.blk 1 (.seq (.reg [] [⟨none, .ia 18 (.t 14) (.t 16)⟩, ⟨none, .ld 19 (.t 18)⟩, ⟨none, .alc 5 (.d (.agg [(.int .i64 0), (.int .i64 0), (.int .i64 0), (.int .i64 0)]))⟩, ⟨none, .st (.t 5) (.t 19)⟩] [18, 19])
 (.seq (.seq (.reg [] [⟨none, .ld 20 (.t 5)⟩, ⟨none, .dat 21 f_code_May [(.t 20)]⟩, ⟨none, .un 22 .not (.t 21)⟩] [20, 21])
 (.cond (.t 22) (.seq (.reg [] [⟨none, .mv 2 (.c (.d (.sl true [])))⟩] [])
 .ret)
 .skip))
 (.seq (.reg [] [⟨none, .fa 23 (.t 5) 3⟩, ⟨none, .ld 24 (.t 23)⟩, ⟨none, .cv 25 .i32 (.t 24)⟩, ⟨none, .cv 26 .u32 (.t 25)⟩, ⟨none, .mv 6 (.t 26)⟩] [23, 24, 25, 26])
 (.reg [] [⟨none, .mv 27 (.t 3)⟩, ⟨none, .fa 28 (.t 5) 0⟩, ⟨none, .ld 29 (.t 28)⟩, ⟨none, .cv 30 .u8 (.t 29)⟩, ⟨none, .fa 31 (.t 5) 1⟩, ⟨none, .ld 32 (.t 31)⟩, ⟨none, .cv 33 .u8 (.t 32)⟩, ⟨none, .fa 34 (.t 5) 2⟩, ⟨none, .ld 35 (.t 34)⟩, ⟨none, .cv 36 .u8 (.t 35)⟩, ⟨none, .mv 37 (.t 6)⟩, ⟨none, .bin 38 .shr (.t 37) (.c (.int .u64 24))⟩, ⟨none, .cv 39 .u8 (.t 38)⟩, ⟨none, .mv 40 (.t 6)⟩, ⟨none, .bin 41 .shr (.t 40) (.c (.int .u64 16))⟩, ⟨none, .cv 42 .u8 (.t 41)⟩, ⟨none, .mv 43 (.t 6)⟩, ⟨none, .bin 44 .shr (.t 43) (.c (.int .u64 8))⟩, ⟨none, .cv 45 .u8 (.t 44)⟩, ⟨none, .mv 46 (.t 6)⟩, ⟨none, .cv 47 .u8 (.t 46)⟩, ⟨none, .bsl 48 [(.t 30), (.t 33), (.t 36), (.t 39), (.t 42), (.t 45), (.t 47)]⟩, ⟨none, .app 49 (.t 27) (.t 48)⟩, ⟨none, .mv 3 (.t 49)⟩] [5, 6, 27, 28, 29, 30, 31, 32, 33, 34, 35, 36, 37, 38, 39, 40, 41, 42, 43, 44, 45, 46, 47, 48, 49])))))
 (.reg [] [⟨none, .bin 50 .add (.t 16) (.c (.int .i64 1))⟩, ⟨none, .mv 16 (.t 50)⟩] [50]))))
def k_code_Put_L0 : K := k_code_Put_L0b
def k_code_Put : KF := ⟨(.seq (.reg [] [⟨none, .mv 2 (.c (.d (.sl true [])))⟩] [2])
 (.seq (.seq (.reg [] [⟨none, .mv 7 (.t 0)⟩, ⟨none, .len 8 (.t 7)⟩, ⟨none, .bin 9 .gtr (.t 8) (.c (.int .i64 24))⟩] [7, 8])
 (.cond (.t 9) (.seq (.reg [] [⟨none, .mv 2 (.c (.d (.sl true [])))⟩] [])
 .ret)
 .skip))
 (.seq (.reg [] [⟨none, .mv 10 (.t 0)⟩, ⟨none, .len 11 (.t 10)⟩, ⟨none, .cv 12 .u8 (.t 11)⟩, ⟨none, .bsl 13 [(.t 12)]⟩, ⟨none, .mv 3 (.t 13)⟩] [10, 11, 12, 13])
 (.seq (.seq (.reg [] [⟨none, .mv 14 (.t 0)⟩, ⟨none, .len 15 (.t 14)⟩, ⟨none, .mv 16 (.c (.int .i64 0))⟩] [0])
 (.blk 0 (.loop [3, 14, 15, 16] k_code_Put_L0)))
 (.seq (.reg [] [⟨none, .mv 51 (.t 3)⟩, ⟨none, .mv 2 (.t 51)⟩] [3, 51])
 .ret))))), [.t 2], none⟩
/- foliot/code.May -/
def k_code_May : KF := ⟨(.seq (.reg [] [⟨none, .box 1 (.t 0)⟩, ⟨none, .mv 2 (.c (.bool false))⟩] [0, 2])
 (.seq (.seq (.reg [] [⟨none, .fa 3 (.t 1) 0⟩, ⟨none, .ld 4 (.t 3)⟩] [3])
 (.blk 0 (.seq (.seq (.reg [] [⟨none, .bin 6 .eql (.t 4) (.c (.int .i64 0))⟩, ⟨none, .mv 5 (.t 6)⟩] [6])
 (.cond (.t 5) .skip
 (.reg [] [⟨none, .bin 7 .eql (.t 4) (.c (.int .i64 11))⟩, ⟨none, .mv 5 (.t 7)⟩] [7])))
 (.cond (.t 5) (.seq (.reg [] [⟨none, .fa 8 (.t 1) 1⟩, ⟨none, .ld 9 (.t 8)⟩, ⟨none, .bin 10 .eql (.t 9) (.c (.int .i64 0))⟩, ⟨none, .mv 11 (.t 10)⟩, ⟨some (11, true), .fa 12 (.t 1) 2⟩, ⟨some (11, true), .ld 13 (.t 12)⟩, ⟨some (11, true), .bin 14 .eql (.t 13) (.c (.int .i64 0))⟩, ⟨none, .pick 15 (.t 11) (.t 14) (.c (.bool false))⟩, ⟨none, .mv 16 (.t 15)⟩, ⟨some (16, true), .fa 17 (.t 1) 3⟩, ⟨some (16, true), .ld 18 (.t 17)⟩, ⟨some (16, true), .bin 19 .eql (.t 18) (.c (.int .i64 0))⟩, ⟨none, .pick 20 (.t 16) (.t 19) (.c (.bool false))⟩, ⟨none, .mv 2 (.t 20)⟩] [1, 8, 9, 10, 11, 12, 13, 14, 15, 16, 17, 18, 19, 20])
 .ret)
 (.seq (.reg [] [⟨none, .bin 22 .eql (.t 4) (.c (.int .i64 1))⟩, ⟨none, .mv 21 (.t 22)⟩] [22])
 (.cond (.t 21) (.seq (.reg [] [⟨none, .fa 23 (.t 1) 1⟩, ⟨none, .ld 24 (.t 23)⟩, ⟨none, .dat 25 f_code_memory [(.t 24)]⟩, ⟨none, .mv 26 (.t 25)⟩, ⟨some (26, true), .fa 27 (.t 1) 2⟩, ⟨some (26, true), .ld 28 (.t 27)⟩, ⟨some (26, true), .bin 29 .eql (.t 28) (.c (.int .i64 0))⟩, ⟨none, .pick 30 (.t 26) (.t 29) (.c (.bool false))⟩, ⟨none, .mv 31 (.t 30)⟩, ⟨some (31, true), .fa 32 (.t 1) 3⟩, ⟨some (31, true), .ld 33 (.t 32)⟩, ⟨some (31, true), .dat 34 f_code_within [(.t 33), (.c (.int .i64 (-2147483648))), (.c (.int .i64 2147483647))]⟩, ⟨none, .pick 35 (.t 31) (.t 34) (.c (.bool false))⟩, ⟨none, .mv 2 (.t 35)⟩] [1, 23, 24, 25, 26, 27, 28, 29, 30, 31, 32, 33, 34, 35])
 .ret)
 (.seq (.seq (.reg [] [⟨none, .bin 37 .eql (.t 4) (.c (.int .i64 2))⟩, ⟨none, .mv 36 (.t 37)⟩] [37])
 (.cond (.t 36) .skip
 (.seq (.reg [] [⟨none, .bin 38 .eql (.t 4) (.c (.int .i64 3))⟩, ⟨none, .mv 36 (.t 38)⟩] [38])
 (.cond (.t 36) .skip
 (.reg [] [⟨none, .bin 39 .eql (.t 4) (.c (.int .i64 4))⟩, ⟨none, .mv 36 (.t 39)⟩] [39])))))
 (.cond (.t 36) (.seq (.reg [] [⟨none, .fa 40 (.t 1) 1⟩, ⟨none, .ld 41 (.t 40)⟩, ⟨none, .dat 42 f_code_memory [(.t 41)]⟩, ⟨none, .mv 43 (.t 42)⟩, ⟨some (43, true), .fa 44 (.t 1) 2⟩, ⟨some (43, true), .ld 45 (.t 44)⟩, ⟨some (43, true), .dat 46 f_code_memory [(.t 45)]⟩, ⟨none, .pick 47 (.t 43) (.t 46) (.c (.bool false))⟩, ⟨none, .mv 48 (.t 47)⟩, ⟨some (48, true), .fa 49 (.t 1) 3⟩, ⟨some (48, true), .ld 50 (.t 49)⟩, ⟨some (48, true), .bin 51 .eql (.t 50) (.c (.int .i64 0))⟩, ⟨none, .pick 52 (.t 48) (.t 51) (.c (.bool false))⟩, ⟨none, .mv 2 (.t 52)⟩] [1, 40, 41, 42, 43, 44, 45, 46, 47, 48, 49, 50, 51, 52])
 .ret)
 (.seq (.reg [] [⟨none, .bin 54 .eql (.t 4) (.c (.int .i64 5))⟩, ⟨none, .mv 53 (.t 54)⟩] [54])
 (.cond (.t 53) (.seq (.reg [] [⟨none, .fa 55 (.t 1) 1⟩, ⟨none, .ld 56 (.t 55)⟩, ⟨none, .dat 57 f_code_memory [(.t 56)]⟩, ⟨none, .mv 58 (.t 57)⟩, ⟨some (58, true), .fa 59 (.t 1) 2⟩, ⟨some (58, true), .ld 60 (.t 59)⟩, ⟨some (58, true), .bin 61 .eql (.t 60) (.c (.int .i64 0))⟩, ⟨none, .pick 62 (.t 58) (.t 61) (.c (.bool false))⟩, ⟨none, .mv 63 (.t 62)⟩, ⟨some (63, true), .fa 64 (.t 1) 3⟩, ⟨some (63, true), .ld 65 (.t 64)⟩, ⟨some (63, true), .dat 66 f_code_within [(.t 65), (.c (.int .i64 (-63))), (.c (.int .i64 63))]⟩, ⟨none, .pick 67 (.t 63) (.t 66) (.c (.bool false))⟩, ⟨none, .mv 2 (.t 67)⟩] [1, 55, 56, 57, 58, 59, 60, 61, 62, 63, 64, 65, 66, 67])
 .ret)
 (.seq (.reg [] [⟨none, .bin 69 .eql (.t 4) (.c (.int .i64 6))⟩, ⟨none, .mv 68 (.t 69)⟩] [69])
 (.cond (.t 68) (.seq (.reg [] [⟨none, .fa 70 (.t 1) 1⟩, ⟨none, .ld 71 (.t 70)⟩, ⟨none, .dat 72 f_code_memory [(.t 71)]⟩, ⟨none, .mv 73 (.t 72)⟩, ⟨some (73, true), .fa 74 (.t 1) 2⟩, ⟨some (73, true), .ld 75 (.t 74)⟩, ⟨some (73, true), .bin 76 .eql (.t 75) (.c (.int .i64 0))⟩, ⟨none, .pick 77 (.t 73) (.t 76) (.c (.bool false))⟩, ⟨none, .mv 78 (.t 77)⟩, ⟨some (78, true), .fa 79 (.t 1) 3⟩, ⟨some (78, true), .ld 80 (.t 79)⟩, ⟨some (78, true), .dat 81 f_code_within [(.t 80), (.c (.int .i64 1)), (.c (.int .i64 64))]⟩, ⟨none, .pick 82 (.t 78) (.t 81) (.c (.bool false))⟩, ⟨none, .mv 2 (.t 82)⟩] [1, 70, 71, 72, 73, 74, 75, 76, 77, 78, 79, 80, 81, 82])
 .ret)
 (.seq (.reg [] [⟨none, .bin 84 .eql (.t 4) (.c (.int .i64 7))⟩, ⟨none, .mv 83 (.t 84)⟩] [84])
 (.cond (.t 83) (.seq (.reg [] [⟨none, .fa 85 (.t 1) 1⟩, ⟨none, .ld 86 (.t 85)⟩, ⟨none, .dat 87 f_code_memory [(.t 86)]⟩, ⟨none, .mv 88 (.t 87)⟩, ⟨some (88, true), .fa 89 (.t 1) 2⟩, ⟨some (88, true), .ld 90 (.t 89)⟩, ⟨some (88, true), .bin 91 .eql (.t 90) (.c (.int .i64 0))⟩, ⟨none, .pick 92 (.t 88) (.t 91) (.c (.bool false))⟩, ⟨none, .mv 93 (.t 92)⟩, ⟨some (93, true), .fa 94 (.t 1) 3⟩, ⟨some (93, true), .ld 95 (.t 94)⟩, ⟨some (93, true), .dat 96 f_code_within [(.t 95), (.c (.int .i64 1)), (.c (.int .i64 24))]⟩, ⟨none, .pick 97 (.t 93) (.t 96) (.c (.bool false))⟩, ⟨none, .mv 2 (.t 97)⟩] [1, 85, 86, 87, 88, 89, 90, 91, 92, 93, 94, 95, 96, 97])
 .ret)
 (.seq (.reg [] [⟨none, .bin 99 .eql (.t 4) (.c (.int .i64 8))⟩, ⟨none, .mv 98 (.t 99)⟩] [99])
 (.cond (.t 98) (.seq (.reg [] [⟨none, .fa 100 (.t 1) 1⟩, ⟨none, .ld 101 (.t 100)⟩, ⟨none, .bin 102 .eql (.t 101) (.c (.int .i64 0))⟩, ⟨none, .mv 103 (.t 102)⟩, ⟨some (103, true), .fa 104 (.t 1) 2⟩, ⟨some (103, true), .ld 105 (.t 104)⟩, ⟨some (103, true), .dat 106 f_code_within [(.t 105), (.c (.int .i64 1)), (.c (.int .i64 24))]⟩, ⟨none, .pick 107 (.t 103) (.t 106) (.c (.bool false))⟩, ⟨none, .mv 108 (.t 107)⟩, ⟨some (108, true), .fa 109 (.t 1) 3⟩, ⟨some (108, true), .ld 110 (.t 109)⟩, ⟨some (108, true), .dat 111 f_code_within [(.t 110), (.c (.int .i64 1)), (.c (.int .i64 20))]⟩, ⟨none, .pick 112 (.t 108) (.t 111) (.c (.bool false))⟩, ⟨none, .mv 2 (.t 112)⟩] [1, 100, 101, 102, 103, 104, 105, 106, 107, 108, 109, 110, 111, 112])
 .ret)
 (.seq (.seq (.reg [] [⟨none, .bin 114 .eql (.t 4) (.c (.int .i64 9))⟩, ⟨none, .mv 113 (.t 114)⟩] [114])
 (.cond (.t 113) .skip
 (.reg [] [⟨none, .bin 115 .eql (.t 4) (.c (.int .i64 10))⟩, ⟨none, .mv 113 (.t 115)⟩] [4, 115])))
 (.cond (.t 113) (.seq (.reg [] [⟨none, .fa 116 (.t 1) 1⟩, ⟨none, .ld 117 (.t 116)⟩, ⟨none, .dat 118 f_code_within [(.t 117), (.c (.int .i64 0)), (.c (.int .i64 3))]⟩, ⟨none, .mv 119 (.t 118)⟩, ⟨some (119, true), .fa 120 (.t 1) 2⟩, ⟨some (119, true), .ld 121 (.t 120)⟩, ⟨some (119, true), .bin 122 .eql (.t 121) (.c (.int .i64 0))⟩, ⟨none, .pick 123 (.t 119) (.t 122) (.c (.bool false))⟩, ⟨none, .mv 124 (.t 123)⟩, ⟨some (124, true), .fa 125 (.t 1) 3⟩, ⟨some (124, true), .ld 126 (.t 125)⟩, ⟨some (124, true), .bin 127 .eql (.t 126) (.c (.int .i64 0))⟩, ⟨none, .pick 128 (.t 124) (.t 127) (.c (.bool false))⟩, ⟨none, .mv 2 (.t 128)⟩] [1, 116, 117, 118, 119, 120, 121, 122, 123, 124, 125, 126, 127, 128])
 .ret)
 .skip))))))))))))))))))
 (.seq (.reg [] [⟨none, .mv 2 (.c (.bool false))⟩] [])
 .ret))), [.t 2], none⟩
/- foliot/code.memory -/
def k_code_memory : KF := ⟨(.seq (.reg [] [⟨none, .mv 2 (.c (.bool false))⟩] [2])
 (.seq (.reg [] [⟨none, .mv 3 (.t 0)⟩, ⟨none, .bin 4 .geq (.t 3) (.c (.int .i64 0))⟩, ⟨none, .mv 5 (.t 4)⟩, ⟨some (5, true), .mv 6 (.t 0)⟩, ⟨some (5, true), .bin 7 .lss (.t 6) (.c (.int .i64 8))⟩, ⟨none, .pick 8 (.t 5) (.t 7) (.c (.bool false))⟩, ⟨none, .mv 2 (.t 8)⟩] [0, 3, 4, 5, 6, 7, 8])
 .ret)), [.t 2], none⟩
/- foliot/code.within -/
def k_code_within : KF := ⟨(.seq (.reg [] [⟨none, .mv 6 (.c (.bool false))⟩] [6])
 (.seq (.reg [] [⟨none, .mv 7 (.t 0)⟩, ⟨none, .mv 8 (.t 1)⟩, ⟨none, .bin 9 .geq (.t 7) (.t 8)⟩, ⟨none, .mv 10 (.t 9)⟩, ⟨some (10, true), .mv 11 (.t 0)⟩, ⟨some (10, true), .mv 12 (.t 2)⟩, ⟨some (10, true), .bin 13 .leq (.t 11) (.t 12)⟩, ⟨none, .pick 14 (.t 10) (.t 13) (.c (.bool false))⟩, ⟨none, .mv 6 (.t 14)⟩] [0, 1, 2, 7, 8, 9, 10, 11, 12, 13, 14])
 .ret)), [.t 6], none⟩
/- bytes.Equal -/
def k_bytes_Equal : KF := ⟨(.seq (.reg [] [⟨none, .mv 4 (.c (.bool false))⟩] [4])
 (.seq (.reg [] [⟨none, .mv 5 (.t 0)⟩, ⟨none, .tos 6 (.t 5)⟩, ⟨none, .mv 7 (.t 1)⟩, ⟨none, .tos 8 (.t 7)⟩, ⟨none, .bin 9 .eql (.t 6) (.t 8)⟩, ⟨none, .mv 4 (.t 9)⟩] [0, 1, 5, 6, 7, 8, 9])
 .ret)), [.t 4], none⟩
/- (*foliot/play.reader).handle -/
def k_play_reader_handle : KF := ⟨(.seq (.reg [] [⟨none, .alc 2 (.d (.agg [(.int .i64 0), (.int .i64 0)]))⟩] [])
 (.seq (.reg [] [⟨none, .mv 3 (.t 0)⟩, ⟨none, .cal 4 f_play_reader_one [(.t 3)] []⟩, ⟨none, .mv 5 (.t 0)⟩, ⟨none, .cal 6 f_play_reader_one [(.t 5)] []⟩, ⟨none, .bld 7 [(.t 4), (.t 6)]⟩, ⟨none, .st (.t 2) (.t 7)⟩] [0, 3, 4, 5, 6, 7])
 .ret)), [.cell 2], none⟩
/- foliot/play.Encode -/
def k_play_Encode_L0b : K := (.seq (.reg [] [⟨none, .bin 10 .lss (.t 9) (.t 8)⟩] [])
 (.seq (.cond (.t 10) .skip
 (.ext 0))
 (.seq (.blk 1 (.seq (.reg [] [⟨none, .ia 11 (.t 7) (.t 9)⟩, ⟨none, .ld 12 (.t 11)⟩, ⟨none, .alc 4 (.d (.agg [(.int .i64 0), (.agg [(.int .i64 0), (.agg [(.int .i64 0), (.int .i64 0), (.int .i64 0), (.sl true []), (.sl true []), (.sl true [])]), (.agg [(.int .i64 0), (.int .i64 0)]), (.int .i64 0), (.int .i64 0), (.int .u32 0)]), (.int .i64 0), (.int .i64 0)]))⟩, ⟨none, .st (.t 4) (.t 12)⟩] [11, 12])
 (.seq (.reg [] [⟨none, .fa 13 (.t 4) 0⟩, ⟨none, .ld 14 (.t 13)⟩, ⟨none, .cv 15 .u8 (.t 14)⟩, ⟨none, .bsl 16 [(.t 15)]⟩, ⟨none, .mv 5 (.t 16)⟩] [13, 14, 15, 16])
 (.seq (.seq (.reg [] [⟨none, .fa 17 (.t 4) 0⟩, ⟨none, .ld 18 (.t 17)⟩] [17])
 (.blk 2 (.seq (.reg [] [⟨none, .bin 20 .eql (.t 18) (.c (.int .i64 4))⟩, ⟨none, .mv 19 (.t 20)⟩] [20])
 (.cond (.t 19) (.reg [] [⟨none, .mv 21 (.t 5)⟩, ⟨none, .fa 22 (.t 4) 2⟩, ⟨none, .ld 23 (.t 22)⟩, ⟨none, .cv 24 .u8 (.t 23)⟩, ⟨none, .bsl 25 [(.t 24)]⟩, ⟨none, .app 26 (.t 21) (.t 25)⟩, ⟨none, .mv 5 (.t 26)⟩] [21, 22, 23, 24, 25, 26])
 (.seq (.reg [] [⟨none, .bin 28 .eql (.t 18) (.c (.int .i64 5))⟩, ⟨none, .mv 27 (.t 28)⟩] [28])
 (.cond (.t 27) (.reg [] [⟨none, .mv 29 (.t 5)⟩, ⟨none, .fa 30 (.t 4) 3⟩, ⟨none, .ld 31 (.t 30)⟩, ⟨none, .cv 32 .u64 (.t 31)⟩, ⟨none, .dat 33 f_play_num [(.t 32), (.c (.int .i64 2))]⟩, ⟨none, .app 34 (.t 29) (.t 33)⟩, ⟨none, .mv 5 (.t 34)⟩] [29, 30, 31, 32, 33, 34])
 (.seq (.reg [] [⟨none, .bin 36 .eql (.t 18) (.c (.int .i64 1))⟩, ⟨none, .mv 35 (.t 36)⟩] [18, 36])
 (.cond (.t 35) (.reg [] [⟨none, .mv 37 (.t 5)⟩, ⟨none, .fa 38 (.t 4) 1⟩, ⟨none, .ld 39 (.t 38)⟩, ⟨none, .dat 40 f_play_call [(.t 39)]⟩, ⟨none, .app 41 (.t 37) (.t 40)⟩, ⟨none, .mv 5 (.t 41)⟩] [37, 38, 39, 40, 41])
 .skip))))))))
 (.seq (.reg [] [⟨none, .mv 42 (.t 5)⟩, ⟨none, .daf 43 f_play_Decode [(.t 42)]⟩, ⟨none, .mv 6 (.t 43)⟩] [42, 43])
 (.seq (.reg [] [⟨none, .mv 44 (.t 6)⟩, ⟨none, .len 45 (.t 44)⟩, ⟨none, .bin 46 .eql (.t 45) (.c (.int .i64 1))⟩, ⟨none, .mv 47 (.t 46)⟩, ⟨some (47, true), .mv 48 (.t 6)⟩, ⟨some (47, true), .ia 49 (.t 48) (.c (.int .i64 0))⟩, ⟨some (47, true), .ld 50 (.t 49)⟩, ⟨some (47, true), .ld 51 (.t 4)⟩, ⟨some (47, true), .dat 52 f_play_same [(.t 50), (.t 51)]⟩, ⟨none, .pick 53 (.t 47) (.t 52) (.c (.bool false))⟩] [4, 6, 44, 45, 46, 47, 48, 49, 50, 51, 52])
 (.cond (.t 53) (.reg [] [⟨none, .mv 54 (.t 2)⟩, ⟨none, .mv 55 (.t 5)⟩, ⟨none, .app 56 (.t 54) (.t 55)⟩, ⟨none, .mv 2 (.t 56)⟩] [5, 54, 55, 56])
 .skip)))))))
 (.reg [] [⟨none, .bin 57 .add (.t 9) (.c (.int .i64 1))⟩, ⟨none, .mv 9 (.t 57)⟩] [57]))))
def k_play_Encode_L0 : K := k_play_Encode_L0b
def k_play_Encode : KF := ⟨(.seq (.reg [] [⟨none, .mv 2 (.c (.d (.sl true [])))⟩] [])
 (.seq (.seq (.reg [] [⟨none, .mv 7 (.t 0)⟩, ⟨none, .len 8 (.t 7)⟩, ⟨none, .mv 9 (.c (.int .i64 0))⟩] [0])
 (.blk 0 (.loop [2, 7, 8, 9] k_play_Encode_L0)))
 (.seq (.reg [] [⟨none, .mv 58 (.t 2)⟩, ⟨none, .mv 2 (.t 58)⟩] [58])
 .ret))), [.t 2], none⟩
/- foliot/play.num -/
def k_play_num_L0b : K := (.seq (.seq (.reg [] [⟨none, .mv 8 (.t 5)⟩, ⟨none, .bin 9 .geq (.t 8) (.c (.int .i64 0))⟩] [8])
 (.cond (.t 9) .skip
 (.ext 0)))
 (.seq (.blk 1 (.reg [] [⟨none, .mv 12 (.t 4)⟩, ⟨none, .mv 13 (.t 0)⟩, ⟨none, .mv 14 (.t 5)⟩, ⟨none, .bin 15 .mul (.c (.int .i64 8)) (.t 14)⟩, ⟨none, .bin 16 .shr (.t 13) (.t 15)⟩, ⟨none, .cv 17 .u8 (.t 16)⟩, ⟨none, .bsl 18 [(.t 17)]⟩, ⟨none, .app 19 (.t 12) (.t 18)⟩, ⟨none, .mv 4 (.t 19)⟩] [12, 13, 14, 15, 16, 17, 18, 19]))
 (.reg [] [⟨none, .mv 10 (.t 5)⟩, ⟨none, .bin 11 .sub (.t 10) (.c (.int .i64 1))⟩, ⟨none, .mv 5 (.t 11)⟩] [10, 11])))
def k_play_num_L0 : K := k_play_num_L0b
def k_play_num : KF := ⟨(.seq (.reg [] [⟨none, .mv 4 (.c (.d (.sl true [])))⟩] [])
 (.seq (.seq (.reg [] [⟨none, .mv 6 (.t 1)⟩, ⟨none, .bin 7 .sub (.t 6) (.c (.int .i64 1))⟩, ⟨none, .mv 5 (.t 7)⟩] [1, 6, 7])
 (.blk 0 (.loop [0, 4, 5] k_play_num_L0)))
 (.seq (.reg [] [⟨none, .mv 20 (.t 4)⟩, ⟨none, .mv 4 (.t 20)⟩] [20])
 .ret))), [.t 4], none⟩
/- foliot/play.call -/
def k_play_call : KF := ⟨(.seq (.reg [] [⟨none, .box 1 (.t 0)⟩, ⟨none, .mv 2 (.c (.d (.sl true [])))⟩] [0, 2])
 (.seq (.reg [(3, 5), (1, 7), (3, 7), (3, 9), (7, 9), (1, 11), (3, 11), (5, 11), (7, 11), (3, 13), (7, 13), (11, 13), (1, 15), (3, 15), (9, 15), (11, 15)] [⟨none, .fa 7 (.t 1) 0⟩, ⟨none, .ld 8 (.t 7)⟩, ⟨none, .cv 9 .u8 (.t 8)⟩, ⟨none, .bsl 10 [(.t 9)]⟩, ⟨none, .fa 11 (.t 1) 4⟩, ⟨none, .ld 12 (.t 11)⟩, ⟨none, .cv 13 .u64 (.t 12)⟩, ⟨none, .dat 14 f_play_num [(.t 13), (.c (.int .i64 8))]⟩, ⟨none, .fa 15 (.t 1) 3⟩, ⟨none, .ld 16 (.t 15)⟩, ⟨none, .cv 17 .u8 (.t 16)⟩, ⟨none, .bsl 18 [(.t 17)]⟩, ⟨none, .fa 19 (.t 1) 5⟩, ⟨none, .ld 20 (.t 19)⟩, ⟨none, .cv 21 .u64 (.t 20)⟩, ⟨none, .dat 22 f_play_num [(.t 21), (.c (.int .i64 4))]⟩, ⟨none, .mv 3 (.t 10)⟩, ⟨none, .mv 4 (.t 14)⟩, ⟨none, .mv 5 (.t 18)⟩, ⟨none, .mv 6 (.t 22)⟩] [7, 8, 9, 10, 11, 12, 13, 14, 15, 16, 17, 18, 19, 20, 21, 22])
 (.seq (.seq (.reg [] [⟨none, .fa 23 (.t 1) 0⟩, ⟨none, .ld 24 (.t 23)⟩] [23])
 (.blk 0 (.seq (.reg [] [⟨none, .bin 26 .eql (.t 24) (.c (.int .i64 1))⟩, ⟨none, .mv 25 (.t 26)⟩] [26])
 (.cond (.t 25) (.seq (.reg [(5, 8), (3, 10), (5, 10), (5, 13), (10, 13), (3, 15), (5, 15), (5, 18), (10, 18), (15, 18), (3, 19), (5, 19), (5, 22), (10, 22), (15, 22), (19, 22), (3, 23), (5, 23), (5, 26), (10, 26), (15, 26), (19, 26), (23, 26), (3, 27), (5, 27)] [⟨none, .mv 27 (.t 3)⟩, ⟨none, .fa 28 (.t 1) 1⟩, ⟨none, .fa 29 (.t 28) 0⟩, ⟨none, .ld 30 (.t 29)⟩, ⟨none, .cv 31 .u8 (.t 30)⟩, ⟨none, .bsl 32 [(.t 31)]⟩, ⟨none, .fa 33 (.t 1) 1⟩, ⟨none, .fa 34 (.t 33) 1⟩, ⟨none, .ld 35 (.t 34)⟩, ⟨none, .cv 36 .u64 (.t 35)⟩, ⟨none, .dat 37 f_play_num [(.t 36), (.c (.int .i64 4))]⟩, ⟨none, .fa 38 (.t 1) 1⟩, ⟨none, .fa 39 (.t 38) 2⟩, ⟨none, .ld 40 (.t 39)⟩, ⟨none, .cv 41 .u64 (.t 40)⟩, ⟨none, .dat 42 f_play_num [(.t 41), (.c (.int .i64 4))]⟩, ⟨none, .fa 43 (.t 1) 1⟩, ⟨none, .fa 44 (.t 43) 3⟩, ⟨none, .ld 45 (.t 44)⟩, ⟨none, .dat 46 f_play_program [(.t 45)]⟩, ⟨none, .fa 47 (.t 1) 1⟩, ⟨none, .fa 48 (.t 47) 4⟩, ⟨none, .ld 49 (.t 48)⟩, ⟨none, .dat 50 f_play_program [(.t 49)]⟩, ⟨none, .fa 51 (.t 1) 1⟩, ⟨none, .fa 52 (.t 51) 5⟩, ⟨none, .ld 53 (.t 52)⟩, ⟨none, .dat 54 f_play_program [(.t 53)]⟩, ⟨none, .bsl 55 [(.t 27), (.t 32), (.t 37), (.t 42), (.t 46), (.t 50), (.t 54)]⟩, ⟨none, .dat 56 f_slices_Concat_byte_byte [(.t 55)]⟩, ⟨none, .mv 2 (.t 56)⟩] [1, 3, 27, 28, 29, 30, 31, 32, 33, 34, 35, 36, 37, 38, 39, 40, 41, 42, 43, 44, 45, 46, 47, 48, 49, 50, 51, 52, 53, 54, 55, 56])
 .ret)
 (.seq (.reg [] [⟨none, .bin 58 .eql (.t 24) (.c (.int .i64 6))⟩, ⟨none, .mv 57 (.t 58)⟩] [58])
 (.cond (.t 57) (.seq (.reg [] [⟨none, .mv 59 (.t 3)⟩, ⟨none, .mv 60 (.t 5)⟩, ⟨none, .mv 61 (.t 4)⟩, ⟨none, .bsl 62 [(.t 59), (.t 60), (.t 61)]⟩, ⟨none, .dat 63 f_slices_Concat_byte_byte [(.t 62)]⟩, ⟨none, .mv 2 (.t 63)⟩] [3, 4, 5, 59, 60, 61, 62, 63])
 .ret)
 (.seq (.reg [] [⟨none, .bin 65 .eql (.t 24) (.c (.int .i64 7))⟩, ⟨none, .mv 64 (.t 65)⟩] [65])
 (.cond (.t 64) (.seq (.reg [] [⟨none, .mv 66 (.t 3)⟩, ⟨none, .fa 67 (.t 1) 2⟩, ⟨none, .ld 68 (.t 67)⟩, ⟨none, .dat 69 f_play_handle [(.t 68)]⟩, ⟨none, .mv 70 (.t 4)⟩, ⟨none, .bsl 71 [(.t 66), (.t 69), (.t 70)]⟩, ⟨none, .dat 72 f_slices_Concat_byte_byte [(.t 71)]⟩, ⟨none, .mv 2 (.t 72)⟩] [1, 3, 4, 66, 67, 68, 69, 70, 71, 72])
 .ret)
 (.seq (.reg [] [⟨none, .bin 74 .eql (.t 24) (.c (.int .i64 8))⟩, ⟨none, .mv 73 (.t 74)⟩] [74])
 (.cond (.t 73) (.seq (.reg [] [⟨none, .mv 75 (.t 3)⟩, ⟨none, .fa 76 (.t 1) 2⟩, ⟨none, .ld 77 (.t 76)⟩, ⟨none, .dat 78 f_play_handle [(.t 77)]⟩, ⟨none, .mv 79 (.t 5)⟩, ⟨none, .bsl 80 [(.t 75), (.t 78), (.t 79)]⟩, ⟨none, .dat 81 f_slices_Concat_byte_byte [(.t 80)]⟩, ⟨none, .mv 2 (.t 81)⟩] [1, 3, 5, 75, 76, 77, 78, 79, 80, 81])
 .ret)
 (.seq (.reg [] [⟨none, .bin 83 .eql (.t 24) (.c (.int .i64 9))⟩, ⟨none, .mv 82 (.t 83)⟩] [83])
 (.cond (.t 82) (.seq (.reg [] [⟨none, .mv 84 (.t 3)⟩, ⟨none, .fa 85 (.t 1) 2⟩, ⟨none, .ld 86 (.t 85)⟩, ⟨none, .dat 87 f_play_handle [(.t 86)]⟩, ⟨none, .mv 88 (.t 6)⟩, ⟨none, .bsl 89 [(.t 84), (.t 87), (.t 88)]⟩, ⟨none, .dat 90 f_slices_Concat_byte_byte [(.t 89)]⟩, ⟨none, .mv 2 (.t 90)⟩] [1, 3, 6, 84, 85, 86, 87, 88, 89, 90])
 .ret)
 (.seq (.reg [] [⟨none, .bin 92 .eql (.t 24) (.c (.int .i64 10))⟩, ⟨none, .mv 91 (.t 92)⟩] [92])
 (.cond (.t 91) (.seq (.reg [] [⟨none, .mv 93 (.t 3)⟩, ⟨none, .fa 94 (.t 1) 2⟩, ⟨none, .ld 95 (.t 94)⟩, ⟨none, .dat 96 f_play_handle [(.t 95)]⟩, ⟨none, .mv 97 (.t 5)⟩, ⟨none, .mv 98 (.t 6)⟩, ⟨none, .bsl 99 [(.t 93), (.t 96), (.t 97), (.t 98)]⟩, ⟨none, .dat 100 f_slices_Concat_byte_byte [(.t 99)]⟩, ⟨none, .mv 2 (.t 100)⟩] [1, 3, 5, 6, 93, 94, 95, 96, 97, 98, 99, 100])
 .ret)
 (.seq (.reg [] [⟨none, .bin 102 .eql (.t 24) (.c (.int .i64 11))⟩, ⟨none, .mv 101 (.t 102)⟩] [24, 102])
 (.cond (.t 101) (.seq (.reg [] [⟨none, .mv 103 (.t 3)⟩, ⟨none, .fa 104 (.t 1) 2⟩, ⟨none, .ld 105 (.t 104)⟩, ⟨none, .dat 106 f_play_handle [(.t 105)]⟩, ⟨none, .bsl 107 [(.t 103), (.t 106)]⟩, ⟨none, .dat 108 f_slices_Concat_byte_byte [(.t 107)]⟩, ⟨none, .mv 2 (.t 108)⟩] [1, 3, 103, 104, 105, 106, 107, 108])
 .ret)
 .skip))))))))))))))))
 (.seq (.reg [] [⟨none, .mv 109 (.t 3)⟩, ⟨none, .mv 2 (.t 109)⟩] [3, 109])
 .ret)))), [.t 2], none⟩
/- foliot/play.program -/
def k_play_program_L0b : K := (.seq (.reg [] [⟨none, .bin 14 .lss (.t 13) (.t 12)⟩] [])
 (.seq (.cond (.t 14) .skip
 (.ext 0))
 (.seq (.blk 1 (.seq (.reg [] [⟨none, .ia 15 (.t 11) (.t 13)⟩, ⟨none, .ld 16 (.t 15)⟩, ⟨none, .alc 5 (.d (.agg [(.int .i64 0), (.int .i64 0), (.int .i64 0), (.int .i64 0)]))⟩, ⟨none, .st (.t 5) (.t 16)⟩] [15, 16])
 (.seq (.reg [] [⟨none, .ld 17 (.t 5)⟩, ⟨none, .bsl 18 [(.t 17)]⟩, ⟨none, .dat 19 f_code_Put [(.t 18)]⟩, ⟨none, .mv 6 (.t 19)⟩] [5, 17, 18, 19])
 (.seq (.reg [] [⟨none, .mv 20 (.t 6)⟩, ⟨none, .len 21 (.t 20)⟩, ⟨none, .bin 22 .gtr (.t 21) (.c (.int .i64 0))⟩] [20, 21])
 (.cond (.t 22) (.reg [] [⟨none, .mv 23 (.t 3)⟩, ⟨none, .mv 24 (.t 6)⟩, ⟨none, .slc 25 (.t 24) (some (.c (.int .i64 1))) none⟩, ⟨none, .app 26 (.t 23) (.t 25)⟩, ⟨none, .mv 3 (.t 26)⟩] [6, 23, 24, 25, 26])
 .skip)))))
 (.reg [] [⟨none, .bin 27 .add (.t 13) (.c (.int .i64 1))⟩, ⟨none, .mv 13 (.t 27)⟩] [27]))))
def k_play_program_L0 : K := k_play_program_L0b
def k_play_program : KF := ⟨(.seq (.reg [] [⟨none, .mv 2 (.c (.d (.sl true [])))⟩] [2])
 (.seq (.reg [] [⟨none, .mv 7 (.t 0)⟩, ⟨none, .len 8 (.t 7)⟩, ⟨none, .cv 9 .u8 (.t 8)⟩, ⟨none, .bsl 10 [(.t 9)]⟩, ⟨none, .mv 3 (.t 10)⟩] [7, 8, 9, 10])
 (.seq (.seq (.reg [] [⟨none, .mv 11 (.t 0)⟩, ⟨none, .len 12 (.t 11)⟩, ⟨none, .mv 13 (.c (.int .i64 0))⟩] [0])
 (.blk 0 (.loop [3, 11, 12, 13] k_play_program_L0)))
 (.seq (.reg [] [⟨none, .mv 28 (.t 3)⟩, ⟨none, .mv 2 (.t 28)⟩] [3, 28])
 .ret)))), [.t 2], none⟩
/- foliot/play.handle -/
def k_play_handle : KF := ⟨(.seq (.reg [] [⟨none, .box 1 (.t 0)⟩, ⟨none, .mv 2 (.c (.d (.sl true [])))⟩] [0, 2])
 (.seq (.reg [] [⟨none, .fa 3 (.t 1) 0⟩, ⟨none, .ld 4 (.t 3)⟩, ⟨none, .cv 5 .u8 (.t 4)⟩, ⟨none, .fa 6 (.t 1) 1⟩, ⟨none, .ld 7 (.t 6)⟩, ⟨none, .cv 8 .u8 (.t 7)⟩, ⟨none, .bsl 9 [(.t 5), (.t 8)]⟩, ⟨none, .mv 2 (.t 9)⟩] [1, 3, 4, 5, 6, 7, 8, 9])
 .ret)), [.t 2], none⟩
/- foliot/play.same -/
def k_play_same : KF := ⟨(.seq (.reg [] [⟨none, .box 2 (.t 0)⟩, ⟨none, .box 3 (.t 1)⟩, ⟨none, .mv 4 (.c (.bool false))⟩] [0, 1, 4])
 (.seq (.reg [(1, 4), (3, 4), (1, 5), (3, 5), (3, 6)] [⟨none, .fa 7 (.t 2) 1⟩, ⟨none, .ld 8 (.t 7)⟩, ⟨none, .fa 9 (.t 3) 1⟩, ⟨none, .ld 10 (.t 9)⟩, ⟨none, .alc 5 (.d (.agg [(.int .i64 0), (.agg [(.int .i64 0), (.int .i64 0), (.int .i64 0), (.sl true []), (.sl true []), (.sl true [])]), (.agg [(.int .i64 0), (.int .i64 0)]), (.int .i64 0), (.int .i64 0), (.int .u32 0)]))⟩, ⟨none, .alc 6 (.d (.agg [(.int .i64 0), (.agg [(.int .i64 0), (.int .i64 0), (.int .i64 0), (.sl true []), (.sl true []), (.sl true [])]), (.agg [(.int .i64 0), (.int .i64 0)]), (.int .i64 0), (.int .i64 0), (.int .u32 0)]))⟩, ⟨none, .st (.t 5) (.t 8)⟩, ⟨none, .st (.t 6) (.t 10)⟩] [7, 8, 9, 10])
 (.seq (.reg [] [⟨none, .fa 11 (.t 2) 0⟩, ⟨none, .ld 12 (.t 11)⟩, ⟨none, .fa 13 (.t 3) 0⟩, ⟨none, .ld 14 (.t 13)⟩, ⟨none, .bin 15 .eql (.t 12) (.t 14)⟩, ⟨none, .mv 16 (.t 15)⟩, ⟨some (16, true), .fa 17 (.t 2) 2⟩, ⟨some (16, true), .ld 18 (.t 17)⟩, ⟨some (16, true), .fa 19 (.t 3) 2⟩, ⟨some (16, true), .ld 20 (.t 19)⟩, ⟨some (16, true), .bin 21 .eql (.t 18) (.t 20)⟩, ⟨none, .pick 22 (.t 16) (.t 21) (.c (.bool false))⟩, ⟨none, .mv 23 (.t 22)⟩, ⟨some (23, true), .fa 24 (.t 2) 3⟩, ⟨some (23, true), .ld 25 (.t 24)⟩, ⟨some (23, true), .fa 26 (.t 3) 3⟩, ⟨some (23, true), .ld 27 (.t 26)⟩, ⟨some (23, true), .bin 28 .eql (.t 25) (.t 27)⟩, ⟨none, .pick 29 (.t 23) (.t 28) (.c (.bool false))⟩, ⟨none, .mv 30 (.t 29)⟩, ⟨some (30, true), .fa 31 (.t 5) 0⟩, ⟨some (30, true), .ld 32 (.t 31)⟩, ⟨some (30, true), .fa 33 (.t 6) 0⟩, ⟨some (30, true), .ld 34 (.t 33)⟩, ⟨some (30, true), .bin 35 .eql (.t 32) (.t 34)⟩, ⟨none, .pick 36 (.t 30) (.t 35) (.c (.bool false))⟩, ⟨none, .mv 37 (.t 36)⟩, ⟨some (37, true), .fa 38 (.t 5) 2⟩, ⟨some (37, true), .ld 39 (.t 38)⟩, ⟨some (37, true), .fa 40 (.t 6) 2⟩, ⟨some (37, true), .ld 41 (.t 40)⟩, ⟨some (37, true), .bin 42 .eql (.t 39) (.t 41)⟩, ⟨none, .pick 43 (.t 37) (.t 42) (.c (.bool false))⟩, ⟨none, .mv 44 (.t 43)⟩, ⟨some (44, true), .fa 45 (.t 5) 3⟩, ⟨some (44, true), .ld 46 (.t 45)⟩, ⟨some (44, true), .fa 47 (.t 6) 3⟩, ⟨some (44, true), .ld 48 (.t 47)⟩, ⟨some (44, true), .bin 49 .eql (.t 46) (.t 48)⟩, ⟨none, .pick 50 (.t 44) (.t 49) (.c (.bool false))⟩, ⟨none, .mv 51 (.t 50)⟩, ⟨some (51, true), .fa 52 (.t 5) 4⟩, ⟨some (51, true), .ld 53 (.t 52)⟩, ⟨some (51, true), .fa 54 (.t 6) 4⟩, ⟨some (51, true), .ld 55 (.t 54)⟩, ⟨some (51, true), .bin 56 .eql (.t 53) (.t 55)⟩, ⟨none, .pick 57 (.t 51) (.t 56) (.c (.bool false))⟩, ⟨none, .mv 58 (.t 57)⟩, ⟨some (58, true), .fa 59 (.t 5) 5⟩, ⟨some (58, true), .ld 60 (.t 59)⟩, ⟨some (58, true), .fa 61 (.t 6) 5⟩, ⟨some (58, true), .ld 62 (.t 61)⟩, ⟨some (58, true), .bin 63 .eql (.t 60) (.t 62)⟩, ⟨none, .pick 64 (.t 58) (.t 63) (.c (.bool false))⟩, ⟨none, .mv 65 (.t 64)⟩, ⟨some (65, true), .fa 66 (.t 5) 1⟩, ⟨some (65, true), .ld 67 (.t 66)⟩, ⟨some (65, true), .fa 68 (.t 6) 1⟩, ⟨some (65, true), .ld 69 (.t 68)⟩, ⟨some (65, true), .dat 70 f_play_task [(.t 67), (.t 69)]⟩, ⟨none, .pick 71 (.t 65) (.t 70) (.c (.bool false))⟩, ⟨none, .mv 4 (.t 71)⟩] [2, 3, 5, 6, 11, 12, 13, 14, 15, 16, 17, 18, 19, 20, 21, 22, 23, 24, 25, 26, 27, 28, 29, 30, 31, 32, 33, 34, 35, 36, 37, 38, 39, 40, 41, 42, 43, 44, 45, 46, 47, 48, 49, 50, 51, 52, 53, 54, 55, 56, 57, 58, 59, 60, 61, 62, 63, 64, 65, 66, 67, 68, 69, 70, 71])
 .ret))), [.t 4], none⟩
/- foliot/play.task -/
def k_play_task : KF := ⟨(.seq (.reg [] [⟨none, .box 2 (.t 0)⟩, ⟨none, .box 3 (.t 1)⟩, ⟨none, .mv 4 (.c (.bool false))⟩] [0, 1, 4])
 (.seq (.reg [] [⟨none, .fa 5 (.t 2) 0⟩, ⟨none, .ld 6 (.t 5)⟩, ⟨none, .fa 7 (.t 3) 0⟩, ⟨none, .ld 8 (.t 7)⟩, ⟨none, .bin 9 .eql (.t 6) (.t 8)⟩, ⟨none, .mv 10 (.t 9)⟩, ⟨some (10, true), .fa 11 (.t 2) 1⟩, ⟨some (10, true), .ld 12 (.t 11)⟩, ⟨some (10, true), .fa 13 (.t 3) 1⟩, ⟨some (10, true), .ld 14 (.t 13)⟩, ⟨some (10, true), .bin 15 .eql (.t 12) (.t 14)⟩, ⟨none, .pick 16 (.t 10) (.t 15) (.c (.bool false))⟩, ⟨none, .mv 17 (.t 16)⟩, ⟨some (17, true), .fa 18 (.t 2) 2⟩, ⟨some (17, true), .ld 19 (.t 18)⟩, ⟨some (17, true), .fa 20 (.t 3) 2⟩, ⟨some (17, true), .ld 21 (.t 20)⟩, ⟨some (17, true), .bin 22 .eql (.t 19) (.t 21)⟩, ⟨none, .pick 23 (.t 17) (.t 22) (.c (.bool false))⟩, ⟨none, .mv 24 (.t 23)⟩, ⟨some (24, true), .fa 25 (.t 2) 3⟩, ⟨some (24, true), .ld 26 (.t 25)⟩, ⟨some (24, true), .fa 27 (.t 3) 3⟩, ⟨some (24, true), .ld 28 (.t 27)⟩, ⟨some (24, true), .dat 29 f_slices_Equal_api_Inst_api_Inst [(.t 26), (.t 28)]⟩, ⟨none, .pick 30 (.t 24) (.t 29) (.c (.bool false))⟩, ⟨none, .mv 31 (.t 30)⟩, ⟨some (31, true), .fa 32 (.t 2) 4⟩, ⟨some (31, true), .ld 33 (.t 32)⟩, ⟨some (31, true), .fa 34 (.t 3) 4⟩, ⟨some (31, true), .ld 35 (.t 34)⟩, ⟨some (31, true), .dat 36 f_slices_Equal_api_Inst_api_Inst [(.t 33), (.t 35)]⟩, ⟨none, .pick 37 (.t 31) (.t 36) (.c (.bool false))⟩, ⟨none, .mv 38 (.t 37)⟩, ⟨some (38, true), .fa 39 (.t 2) 5⟩, ⟨some (38, true), .ld 40 (.t 39)⟩, ⟨some (38, true), .fa 41 (.t 3) 5⟩, ⟨some (38, true), .ld 42 (.t 41)⟩, ⟨some (38, true), .dat 43 f_slices_Equal_api_Inst_api_Inst [(.t 40), (.t 42)]⟩, ⟨none, .pick 44 (.t 38) (.t 43) (.c (.bool false))⟩, ⟨none, .mv 4 (.t 44)⟩] [2, 3, 5, 6, 7, 8, 9, 10, 11, 12, 13, 14, 15, 16, 17, 18, 19, 20, 21, 22, 23, 24, 25, 26, 27, 28, 29, 30, 31, 32, 33, 34, 35, 36, 37, 38, 39, 40, 41, 42, 43, 44])
 .ret)), [.t 4], none⟩
/- slices.Equal[[]foliot/api.Inst,foliot/api.Inst] -/
def k_slices_Equal_api_Inst_api_Inst_L0b : K := (.seq (.reg [] [⟨none, .bin 14 .lss (.t 13) (.t 12)⟩] [])
 (.seq (.cond (.t 14) .skip
 (.ext 0))
 (.seq (.blk 1 (.seq (.reg [] [⟨none, .mv 15 (.t 13)⟩, ⟨none, .mv 5 (.t 15)⟩] [15])
 (.seq (.reg [] [⟨none, .mv 16 (.t 0)⟩, ⟨none, .mv 17 (.t 5)⟩, ⟨none, .ia 18 (.t 16) (.t 17)⟩, ⟨none, .ld 19 (.t 18)⟩, ⟨none, .mv 20 (.t 1)⟩, ⟨none, .mv 21 (.t 5)⟩, ⟨none, .ia 22 (.t 20) (.t 21)⟩, ⟨none, .ld 23 (.t 22)⟩, ⟨none, .bin 24 .neq (.t 19) (.t 23)⟩] [5, 16, 17, 18, 19, 20, 21, 22, 23])
 (.cond (.t 24) (.seq (.reg [] [⟨none, .mv 4 (.c (.bool false))⟩] [])
 .ret)
 .skip))))
 (.reg [] [⟨none, .bin 25 .add (.t 13) (.c (.int .i64 1))⟩, ⟨none, .mv 13 (.t 25)⟩] [25]))))
def k_slices_Equal_api_Inst_api_Inst_L0 : K := k_slices_Equal_api_Inst_api_Inst_L0b
def k_slices_Equal_api_Inst_api_Inst : KF := ⟨(.seq (.reg [] [⟨none, .mv 4 (.c (.bool false))⟩] [4])
 (.seq (.seq (.reg [] [⟨none, .mv 6 (.t 0)⟩, ⟨none, .len 7 (.t 6)⟩, ⟨none, .mv 8 (.t 1)⟩, ⟨none, .len 9 (.t 8)⟩, ⟨none, .bin 10 .neq (.t 7) (.t 9)⟩] [6, 7, 8, 9])
 (.cond (.t 10) (.seq (.reg [] [⟨none, .mv 4 (.c (.bool false))⟩] [])
 .ret)
 .skip))
 (.seq (.seq (.reg [] [⟨none, .mv 11 (.t 0)⟩, ⟨none, .len 12 (.t 11)⟩, ⟨none, .mv 13 (.c (.int .i64 0))⟩] [11])
 (.blk 0 (.loop [0, 1, 12, 13] k_slices_Equal_api_Inst_api_Inst_L0)))
 (.seq (.reg [] [⟨none, .mv 4 (.c (.bool true))⟩] [])
 .ret)))), [.t 4], none⟩
/- foliot/foliotlaw27.light -/
def k_law27_light_L0b : K := (.seq (.seq (.reg [] [⟨none, .mv 4 (.t 3)⟩, ⟨none, .mv 5 (.t 0)⟩, ⟨none, .len 6 (.t 5)⟩, ⟨none, .bin 7 .lss (.t 4) (.t 6)⟩] [4, 5, 6])
 (.cond (.t 7) .skip
 (.ext 0)))
 (.seq (.blk 1 (.seq (.reg [] [⟨none, .mv 10 (.t 0)⟩, ⟨none, .mv 11 (.t 3)⟩, ⟨none, .ia 12 (.t 10) (.t 11)⟩, ⟨none, .fa 13 (.t 12) 1⟩, ⟨none, .fa 14 (.t 13) 1⟩, ⟨none, .fa 15 (.t 14) 3⟩, ⟨none, .ld 16 (.t 15)⟩, ⟨none, .len 17 (.t 16)⟩, ⟨none, .bin 18 .gtr (.t 17) (.c (.int .i64 30))⟩, ⟨none, .mv 19 (.t 18)⟩, ⟨some (19, false), .mv 20 (.t 0)⟩, ⟨some (19, false), .mv 21 (.t 3)⟩, ⟨some (19, false), .ia 22 (.t 20) (.t 21)⟩, ⟨some (19, false), .fa 23 (.t 22) 1⟩, ⟨some (19, false), .fa 24 (.t 23) 1⟩, ⟨some (19, false), .fa 25 (.t 24) 4⟩, ⟨some (19, false), .ld 26 (.t 25)⟩, ⟨some (19, false), .len 27 (.t 26)⟩, ⟨some (19, false), .bin 28 .gtr (.t 27) (.c (.int .i64 30))⟩, ⟨none, .pick 29 (.t 19) (.c (.bool true)) (.t 28)⟩, ⟨none, .mv 30 (.t 29)⟩, ⟨some (30, false), .mv 31 (.t 0)⟩, ⟨some (30, false), .mv 32 (.t 3)⟩, ⟨some (30, false), .ia 33 (.t 31) (.t 32)⟩, ⟨some (30, false), .fa 34 (.t 33) 1⟩, ⟨some (30, false), .fa 35 (.t 34) 1⟩, ⟨some (30, false), .fa 36 (.t 35) 5⟩, ⟨some (30, false), .ld 37 (.t 36)⟩, ⟨some (30, false), .len 38 (.t 37)⟩, ⟨some (30, false), .bin 39 .gtr (.t 38) (.c (.int .i64 30))⟩, ⟨none, .pick 40 (.t 30) (.c (.bool true)) (.t 39)⟩] [10, 11, 12, 13, 14, 15, 16, 17, 18, 19, 20, 21, 22, 23, 24, 25, 26, 27, 28, 29, 30, 31, 32, 33, 34, 35, 36, 37, 38, 39])
 (.cond (.t 40) (.seq (.reg [] [⟨none, .mv 2 (.c (.bool false))⟩] [])
 .ret)
 .skip)))
 (.reg [] [⟨none, .mv 8 (.t 3)⟩, ⟨none, .bin 9 .add (.t 8) (.c (.int .i64 1))⟩, ⟨none, .mv 3 (.t 9)⟩] [8, 9])))
def k_law27_light_L0 : K := k_law27_light_L0b
def k_law27_light : KF := ⟨(.seq (.reg [] [⟨none, .mv 2 (.c (.bool false))⟩] [2])
 (.seq (.seq (.reg [] [⟨none, .mv 3 (.c (.int .i64 0))⟩] [])
 (.blk 0 (.loop [0, 3] k_law27_light_L0)))
 (.seq (.reg [] [⟨none, .mv 41 (.t 0)⟩, ⟨none, .len 42 (.t 41)⟩, ⟨none, .bin 43 .leq (.t 42) (.c (.int .i64 10))⟩, ⟨none, .mv 2 (.t 43)⟩] [0, 41, 42, 43])
 .ret))), [.t 2], none⟩
/- foliot/foliotplay.Made -/
def k_play_Made : KF := ⟨(.seq (.reg [] [⟨none, .mv 2 (.c .und)⟩] [2])
 (.seq (.reg [] [⟨none, .mv 3 (.t 0)⟩, ⟨none, .bld 4 [(.t 3), (.c (.int .i64 0))]⟩, ⟨none, .box 5 (.t 4)⟩, ⟨none, .mv 2 (.t 5)⟩] [0, 3, 4, 5])
 .ret)), [.t 2], none⟩
/- (*foliot/foliotplay.Picks).Steps -/
def k_play_Picks_Steps_L0b : K := (.seq (.seq (.reg [] [⟨none, .mv 9 (.t 6)⟩, ⟨none, .mv 10 (.t 1)⟩, ⟨none, .bin 11 .lss (.t 9) (.t 10)⟩, ⟨none, .mv 12 (.t 11)⟩, ⟨some (12, true), .mv 13 (.t 0)⟩, ⟨some (12, true), .cal 14 f_play_Picks_Over [(.t 13)] []⟩, ⟨some (12, true), .un 15 .not (.t 14)⟩, ⟨none, .pick 16 (.t 12) (.t 15) (.c (.bool false))⟩] [9, 10, 11, 12, 13, 14, 15])
 (.cond (.t 16) .skip
 (.ext 0)))
 (.seq (.blk 1 (.reg [] [⟨none, .mv 19 (.t 5)⟩, ⟨none, .mv 20 (.t 0)⟩, ⟨none, .cal 21 f_play_Picks_Step [(.t 20)] []⟩, ⟨none, .bsl 22 [(.t 21)]⟩, ⟨none, .app 23 (.t 19) (.t 22)⟩, ⟨none, .mv 5 (.t 23)⟩] [19, 20, 21, 22, 23]))
 (.reg [] [⟨none, .mv 17 (.t 6)⟩, ⟨none, .bin 18 .add (.t 17) (.c (.int .i64 1))⟩, ⟨none, .mv 6 (.t 18)⟩] [17, 18])))
def k_play_Picks_Steps_L0 : K := k_play_Picks_Steps_L0b
def k_play_Picks_Steps : KF := ⟨(.seq (.reg [] [⟨none, .mv 4 (.c (.d (.sl true [])))⟩] [4])
 (.seq (.reg [] [⟨none, .mv 7 (.t 0)⟩, ⟨none, .cal 8 f_play_Picks_Begin [(.t 7)] []⟩, ⟨none, .mv 5 (.t 8)⟩] [7, 8])
 (.seq (.seq (.reg [] [⟨none, .mv 6 (.c (.int .i64 0))⟩] [])
 (.blk 0 (.loop [0, 1, 5, 6] k_play_Picks_Steps_L0)))
 (.seq (.reg [] [⟨none, .mv 24 (.t 5)⟩, ⟨none, .mv 4 (.t 24)⟩] [5, 24])
 .ret)))), [.t 4], none⟩
/- (*foliot/foliotplay.Picks).Begin -/
def k_play_Picks_Begin_L0b : K := (.seq (.seq (.reg [] [⟨none, .mv 9 (.t 5)⟩, ⟨none, .mv 10 (.t 4)⟩, ⟨none, .bin 11 .lss (.t 9) (.t 10)⟩] [9, 10])
 (.cond (.t 11) .skip
 (.ext 0)))
 (.seq (.blk 1 (.reg [] [⟨none, .mv 14 (.t 3)⟩, ⟨none, .bld 15 [(.c (.int .i64 2)), (.c (.d (.agg [(.int .i64 0), (.int .i64 0), (.int .i64 0), (.sl true []), (.sl true []), (.sl true [])]))), (.c (.d (.agg [(.int .i64 0), (.int .i64 0)]))), (.c (.int .i64 0)), (.c (.int .i64 0)), (.c (.int .u32 0))]⟩, ⟨none, .cal 16 f_play_Call [(.t 15)] []⟩, ⟨none, .bsl 17 [(.t 16)]⟩, ⟨none, .app 18 (.t 14) (.t 17)⟩, ⟨none, .mv 3 (.t 18)⟩] [14, 15, 16, 17, 18]))
 (.reg [] [⟨none, .mv 12 (.t 5)⟩, ⟨none, .bin 13 .add (.t 12) (.c (.int .i64 1))⟩, ⟨none, .mv 5 (.t 13)⟩] [12, 13])))
def k_play_Picks_Begin_L0 : K := k_play_Picks_Begin_L0b
def k_play_Picks_Begin_L1b : K := (.seq (.seq (.reg [] [⟨none, .mv 22 (.t 6)⟩, ⟨none, .bin 23 .gtr (.t 22) (.c (.int .i64 0))⟩] [22])
 (.cond (.t 23) .skip
 (.ext 2)))
 (.seq (.blk 3 (.reg [] [⟨none, .mv 26 (.t 3)⟩, ⟨none, .mv 27 (.t 0)⟩, ⟨none, .mv 28 (.t 6)⟩, ⟨none, .bin 29 .mul (.c (.int .i64 3)) (.t 28)⟩, ⟨none, .mv 30 (.t 0)⟩, ⟨none, .cal 31 f_play_Picks_Num [(.t 30), (.c (.int .i64 3))] []⟩, ⟨none, .bin 32 .add (.t 29) (.t 31)⟩, ⟨none, .mv 33 (.t 4)⟩, ⟨none, .cad 34 f_play_Picks_Task [(.t 27), (.t 32), (.t 33)] []⟩, ⟨none, .bld 35 [(.c (.int .i64 1)), (.t 34), (.c (.d (.agg [(.int .i64 0), (.int .i64 0)]))), (.c (.int .i64 0)), (.c (.int .i64 0)), (.c (.int .u32 0))]⟩, ⟨none, .cal 36 f_play_Call [(.t 35)] []⟩, ⟨none, .bsl 37 [(.t 36)]⟩, ⟨none, .app 38 (.t 26) (.t 37)⟩, ⟨none, .mv 3 (.t 38)⟩] [26, 27, 28, 29, 30, 31, 32, 33, 34, 35, 36, 37, 38]))
 (.reg [] [⟨none, .mv 24 (.t 6)⟩, ⟨none, .bin 25 .sub (.t 24) (.c (.int .i64 1))⟩, ⟨none, .mv 6 (.t 25)⟩] [24, 25])))
def k_play_Picks_Begin_L1 : K := k_play_Picks_Begin_L1b
def k_play_Picks_Begin : KF := ⟨(.seq (.reg [] [⟨none, .mv 2 (.c (.d (.sl true [])))⟩] [2])
 (.seq (.reg [] [⟨none, .mv 3 (.c (.d (.sl true [])))⟩] [])
 (.seq (.reg [] [⟨none, .mv 7 (.t 0)⟩, ⟨none, .cal 8 f_play_Picks_Num [(.t 7), (.c (.int .i64 4))] []⟩, ⟨none, .mv 4 (.t 8)⟩] [7, 8])
 (.seq (.seq (.reg [] [⟨none, .mv 5 (.c (.int .i64 0))⟩] [])
 (.blk 0 (.loop [0, 3, 4, 5] k_play_Picks_Begin_L0)))
 (.seq (.seq (.reg [] [⟨none, .mv 19 (.t 0)⟩, ⟨none, .cal 20 f_play_Picks_Num [(.t 19), (.c (.int .i64 4))] []⟩, ⟨none, .bin 21 .add (.t 20) (.c (.int .i64 1))⟩, ⟨none, .mv 6 (.t 21)⟩] [19, 20, 21])
 (.blk 2 (.loop [0, 3, 4, 6] k_play_Picks_Begin_L1)))
 (.seq (.seq (.reg [] [⟨none, .mv 39 (.t 0)⟩, ⟨none, .cal 40 f_play_Picks_Num [(.t 39), (.c (.int .i64 3))] []⟩, ⟨none, .bin 41 .eql (.t 40) (.c (.int .i64 0))⟩] [39, 40])
 (.cond (.t 41) (.reg [] [⟨none, .mv 42 (.t 3)⟩, ⟨none, .bld 43 [(.c (.int .i64 3)), (.c (.d (.agg [(.int .i64 0), (.int .i64 0), (.int .i64 0), (.sl true []), (.sl true []), (.sl true [])]))), (.c (.d (.agg [(.int .i64 0), (.int .i64 0)]))), (.c (.int .i64 0)), (.c (.int .i64 0)), (.c (.int .u32 0))]⟩, ⟨none, .cal 44 f_play_Call [(.t 43)] []⟩, ⟨none, .bsl 45 [(.t 44)]⟩, ⟨none, .app 46 (.t 42) (.t 45)⟩, ⟨none, .mv 3 (.t 46)⟩] [42, 43, 44, 45, 46])
 .skip))
 (.seq (.seq (.reg [] [⟨none, .mv 47 (.t 0)⟩, ⟨none, .cal 48 f_play_Picks_Num [(.t 47), (.c (.int .i64 3))] []⟩, ⟨none, .bin 49 .eql (.t 48) (.c (.int .i64 0))⟩] [0, 47, 48])
 (.cond (.t 49) (.reg [] [⟨none, .mv 50 (.t 3)⟩, ⟨none, .bld 51 [(.c (.int .i64 4)), (.c (.d (.agg [(.int .i64 0), (.int .i64 0), (.int .i64 0), (.sl true []), (.sl true []), (.sl true [])]))), (.c (.d (.agg [(.int .i64 0), (.int .i64 0)]))), (.c (.int .i64 0)), (.c (.int .i64 0)), (.c (.int .u32 0))]⟩, ⟨none, .cal 52 f_play_Call [(.t 51)] []⟩, ⟨none, .bsl 53 [(.t 52)]⟩, ⟨none, .app 54 (.t 50) (.t 53)⟩, ⟨none, .mv 3 (.t 54)⟩] [50, 51, 52, 53, 54])
 .skip))
 (.seq (.reg [] [⟨none, .mv 55 (.t 3)⟩, ⟨none, .bld 56 [(.c (.int .i64 5)), (.c (.d (.agg [(.int .i64 0), (.int .i64 0), (.int .i64 0), (.sl true []), (.sl true []), (.sl true [])]))), (.c (.d (.agg [(.int .i64 0), (.int .i64 0)]))), (.c (.int .i64 0)), (.c (.int .i64 0)), (.c (.int .u32 0))]⟩, ⟨none, .cal 57 f_play_Call [(.t 56)] []⟩, ⟨none, .bsl 58 [(.t 57)]⟩, ⟨none, .app 59 (.t 55) (.t 58)⟩, ⟨none, .mv 2 (.t 59)⟩] [3, 55, 56, 57, 58, 59])
 .ret)))))))), [.t 2], none⟩
/- (*foliot/foliotplay.Picks).Num -/
def k_play_Picks_Num : KF := ⟨(.seq (.reg [] [⟨none, .mv 4 (.c (.int .i64 0))⟩] [4])
 (.seq (.seq (.reg [] [⟨none, .mv 5 (.t 0)⟩, ⟨none, .nck 6 (.t 5)⟩, ⟨none, .fa 7 (.t 6) 1⟩, ⟨none, .ld 8 (.t 7)⟩, ⟨none, .mv 9 (.t 0)⟩, ⟨none, .nck 10 (.t 9)⟩, ⟨none, .fa 11 (.t 10) 0⟩, ⟨none, .ld 12 (.t 11)⟩, ⟨none, .len 13 (.t 12)⟩, ⟨none, .bin 14 .geq (.t 8) (.t 13)⟩] [5, 6, 7, 8, 9, 10, 11, 12, 13])
 (.cond (.t 14) (.seq (.reg [] [⟨none, .mv 4 (.c (.int .i64 0))⟩] [])
 .ret)
 .skip))
 (.seq (.reg [] [⟨none, .mv 15 (.t 0)⟩, ⟨none, .nck 16 (.t 15)⟩, ⟨none, .fa 17 (.t 16) 1⟩, ⟨none, .ld 18 (.t 17)⟩, ⟨none, .bin 19 .add (.t 18) (.c (.int .i64 1))⟩, ⟨none, .nck 20 (.t 15)⟩, ⟨none, .fa 21 (.t 20) 1⟩, ⟨none, .st (.t 21) (.t 19)⟩] [15, 16, 17, 18, 19, 20, 21])
 (.seq (.reg [] [⟨none, .mv 22 (.t 0)⟩, ⟨none, .nck 23 (.t 22)⟩, ⟨none, .fa 24 (.t 23) 0⟩, ⟨none, .ld 25 (.t 24)⟩, ⟨none, .mv 26 (.t 0)⟩, ⟨none, .nck 27 (.t 26)⟩, ⟨none, .fa 28 (.t 27) 1⟩, ⟨none, .ld 29 (.t 28)⟩, ⟨none, .bin 30 .sub (.t 29) (.c (.int .i64 1))⟩, ⟨none, .ia 31 (.t 25) (.t 30)⟩, ⟨none, .ld 32 (.t 31)⟩, ⟨none, .cv 33 .i64 (.t 32)⟩, ⟨none, .mv 34 (.t 1)⟩, ⟨none, .bin 35 .rem (.t 33) (.t 34)⟩, ⟨none, .mv 4 (.t 35)⟩] [0, 1, 22, 23, 24, 25, 26, 27, 28, 29, 30, 31, 32, 33, 34, 35])
 .ret)))), [.t 4], none⟩
/- foliot/foliotplay.Call -/
def k_play_Call : KF := ⟨(.seq (.reg [] [⟨none, .box 1 (.t 0)⟩, ⟨none, .alc 2 (.d (.agg [(.int .i64 0), (.agg [(.int .i64 0), (.agg [(.int .i64 0), (.int .i64 0), (.int .i64 0), (.sl true []), (.sl true []), (.sl true [])]), (.agg [(.int .i64 0), (.int .i64 0)]), (.int .i64 0), (.int .i64 0), (.int .u32 0)]), (.int .i64 0), (.int .i64 0)]))⟩] [0])
 (.seq (.reg [] [⟨none, .ld 3 (.t 1)⟩, ⟨none, .bld 4 [(.c (.int .i64 1)), (.t 3), (.c (.int .i64 0)), (.c (.int .i64 0))]⟩, ⟨none, .st (.t 2) (.t 4)⟩] [1, 3, 4])
 .ret)), [.cell 2], none⟩
/- (*foliot/foliotplay.Picks).Task -/
def k_play_Picks_Task : KF := ⟨(.seq (.reg [] [⟨none, .alc 6 (.d (.agg [(.int .i64 0), (.int .i64 0), (.int .i64 0), (.sl true []), (.sl true []), (.sl true [])]))⟩] [])
 (.seq (.reg [] [⟨none, .mv 8 (.t 1)⟩, ⟨none, .mv 9 (.t 0)⟩, ⟨none, .mv 10 (.t 2)⟩, ⟨none, .cal 11 f_play_Picks_Code [(.t 9), (.t 10)] []⟩, ⟨none, .bld 12 [(.t 8), (.c (.int .i64 0)), (.c (.int .i64 0)), (.t 11), (.c (.d (.sl true []))), (.c (.d (.sl true [])))]⟩, ⟨none, .alc 7 (.d (.agg [(.int .i64 0), (.int .i64 0), (.int .i64 0), (.sl true []), (.sl true []), (.sl true [])]))⟩, ⟨none, .st (.t 7) (.t 12)⟩] [1, 2, 8, 9, 10, 11, 12])
 (.seq (.reg [] [⟨none, .mv 13 (.t 0)⟩, ⟨none, .cal 14 f_play_Picks_Num [(.t 13), (.c (.int .i64 12))] []⟩, ⟨none, .bin 15 .mul (.c (.int .i64 10)) (.t 14)⟩, ⟨none, .bin 16 .add (.c (.int .i64 20)) (.t 15)⟩, ⟨none, .fa 17 (.t 7) 1⟩, ⟨none, .st (.t 17) (.t 16)⟩] [13, 14, 15, 16, 17])
 (.seq (.reg [(1, 3)] [⟨none, .fa 18 (.t 7) 1⟩, ⟨none, .ld 19 (.t 18)⟩, ⟨none, .mv 20 (.t 0)⟩, ⟨none, .cal 21 f_play_Picks_Num [(.t 20), (.c (.int .i64 10))] [7]⟩, ⟨none, .bin 22 .sub (.t 19) (.t 21)⟩, ⟨none, .fa 23 (.t 7) 2⟩, ⟨none, .st (.t 23) (.t 22)⟩] [18, 19, 20, 21, 22, 23])
 (.seq (.seq (.reg [] [⟨none, .mv 24 (.t 0)⟩, ⟨none, .cal 25 f_play_Picks_Num [(.t 24), (.c (.int .i64 3))] []⟩, ⟨none, .bin 26 .eql (.t 25) (.c (.int .i64 0))⟩] [24, 25])
 (.cond (.t 26) (.reg [] [⟨none, .bld 27 [(.c (.int .i64 1)), (.c (.int .i64 0)), (.c (.int .i64 0)), (.c (.int .i64 99))]⟩, ⟨none, .bld 28 [(.c (.int .i64 0)), (.c (.int .i64 0)), (.c (.int .i64 0)), (.c (.int .i64 0))]⟩, ⟨none, .bsl 29 [(.t 27), (.t 28)]⟩, ⟨none, .mv 30 (.t 0)⟩, ⟨none, .cal 31 f_play_Picks_Num [(.t 30), (.c (.int .i64 2))] []⟩, ⟨none, .slc 32 (.t 29) (some (.t 31)) none⟩, ⟨none, .fa 33 (.t 7) 4⟩, ⟨none, .st (.t 33) (.t 32)⟩] [27, 28, 29, 30, 31, 32, 33])
 .skip))
 (.seq (.seq (.reg [] [⟨none, .mv 34 (.t 0)⟩, ⟨none, .cal 35 f_play_Picks_Num [(.t 34), (.c (.int .i64 3))] []⟩, ⟨none, .bin 36 .eql (.t 35) (.c (.int .i64 0))⟩] [34, 35])
 (.cond (.t 36) (.reg [] [⟨none, .mv 37 (.t 0)⟩, ⟨none, .cal 38 f_play_Picks_Code [(.t 37), (.c (.int .i64 0))] []⟩, ⟨none, .fa 39 (.t 7) 5⟩, ⟨none, .st (.t 39) (.t 38)⟩] [0, 37, 38, 39])
 .skip))
 (.seq (.reg [] [⟨none, .ld 40 (.t 7)⟩, ⟨none, .st (.t 6) (.t 40)⟩] [7, 40])
 .ret))))))), [.cell 6], none⟩
/- (*foliot/foliotplay.Picks).Code -/
def k_play_Picks_Code_L0b : K := (.seq (.seq (.reg [] [⟨none, .mv 13 (.t 6)⟩, ⟨none, .bin 14 .gtr (.t 13) (.c (.int .i64 0))⟩] [13])
 (.cond (.t 14) .skip
 (.ext 0)))
 (.seq (.blk 1 (.seq (.reg [] [⟨none, .mv 7 (.c (.d (.sl true [])))⟩] [7])
 (.seq (.seq (.reg [] [⟨none, .mv 17 (.t 0)⟩, ⟨none, .cal 18 f_play_Picks_Num [(.t 17), (.c (.int .i64 5))] []⟩] [17])
 (.blk 2 (.seq (.reg [] [⟨none, .bin 23 .eql (.t 18) (.c (.int .i64 0))⟩, ⟨none, .mv 22 (.t 23)⟩] [23])
 (.cond (.t 22) (.seq (.reg [] [⟨none, .mv 24 (.t 0)⟩, ⟨none, .mv 25 (.t 1)⟩, ⟨none, .cal 26 f_play_Picks_some [(.t 24), (.c (.int .i64 2)), (.t 25)] []⟩, ⟨none, .mv 8 (.t 26)⟩] [24, 25, 26])
 (.reg [] [⟨none, .mv 27 (.t 8)⟩, ⟨none, .len 28 (.t 27)⟩, ⟨none, .mv 29 (.t 0)⟩, ⟨none, .cal 30 f_play_Picks_Num [(.t 29), (.c (.int .i64 3))] []⟩, ⟨none, .bin 31 .add (.c (.int .i64 1)) (.t 30)⟩, ⟨none, .bld 32 [(.c (.int .i64 8)), (.c (.int .i64 0)), (.t 28), (.t 31)]⟩, ⟨none, .bsl 33 [(.t 32)]⟩, ⟨none, .mv 34 (.t 8)⟩, ⟨none, .app 35 (.t 33) (.t 34)⟩, ⟨none, .mv 7 (.t 35)⟩] [8, 27, 28, 29, 30, 31, 32, 33, 34, 35]))
 (.seq (.reg [] [⟨none, .bin 37 .eql (.t 18) (.c (.int .i64 1))⟩, ⟨none, .mv 36 (.t 37)⟩] [37])
 (.cond (.t 36) (.seq (.reg [] [⟨none, .mv 38 (.t 0)⟩, ⟨none, .mv 39 (.t 1)⟩, ⟨none, .cal 40 f_play_Picks_some [(.t 38), (.c (.int .i64 2)), (.t 39)] []⟩, ⟨none, .mv 9 (.t 40)⟩] [38, 39, 40])
 (.reg [] [⟨none, .mv 41 (.t 0)⟩, ⟨none, .cal 42 f_play_Picks_Num [(.t 41), (.c (.int .i64 3))] []⟩, ⟨none, .mv 43 (.t 9)⟩, ⟨none, .len 44 (.t 43)⟩, ⟨none, .bld 45 [(.c (.int .i64 7)), (.t 42), (.c (.int .i64 0)), (.t 44)]⟩, ⟨none, .bsl 46 [(.t 45)]⟩, ⟨none, .mv 47 (.t 9)⟩, ⟨none, .app 48 (.t 46) (.t 47)⟩, ⟨none, .mv 7 (.t 48)⟩] [9, 41, 42, 43, 44, 45, 46, 47, 48]))
 (.seq (.reg [] [⟨none, .bin 50 .eql (.t 18) (.c (.int .i64 2))⟩, ⟨none, .mv 49 (.t 50)⟩] [18, 50])
 (.cond (.t 49) (.reg [] [⟨none, .bld 51 [(.c (.int .i64 11)), (.c (.int .i64 0)), (.c (.int .i64 0)), (.c (.int .i64 0))]⟩, ⟨none, .bsl 52 [(.t 51)]⟩, ⟨none, .mv 7 (.t 52)⟩] [51, 52])
 (.reg [] [⟨none, .mv 19 (.t 0)⟩, ⟨none, .mv 20 (.t 1)⟩, ⟨none, .cal 21 f_play_Picks_some [(.t 19), (.c (.int .i64 2)), (.t 20)] []⟩, ⟨none, .mv 7 (.t 21)⟩] [19, 20, 21])))))))))
 (.seq (.reg [] [⟨none, .mv 53 (.t 5)⟩, ⟨none, .len 54 (.t 53)⟩, ⟨none, .mv 55 (.t 7)⟩, ⟨none, .len 56 (.t 55)⟩, ⟨none, .bin 57 .add (.t 54) (.t 56)⟩, ⟨none, .bin 58 .lss (.t 57) (.c (.int .i64 23))⟩] [53, 54, 55, 56, 57])
 (.cond (.t 58) (.reg [] [⟨none, .mv 59 (.t 5)⟩, ⟨none, .mv 60 (.t 7)⟩, ⟨none, .app 61 (.t 59) (.t 60)⟩, ⟨none, .mv 5 (.t 61)⟩] [7, 59, 60, 61])
 .skip)))))
 (.reg [] [⟨none, .mv 15 (.t 6)⟩, ⟨none, .bin 16 .sub (.t 15) (.c (.int .i64 1))⟩, ⟨none, .mv 6 (.t 16)⟩] [15, 16])))
def k_play_Picks_Code_L0 : K := k_play_Picks_Code_L0b
def k_play_Picks_Code : KF := ⟨(.seq (.reg [] [⟨none, .mv 4 (.c (.d (.sl true [])))⟩] [4])
 (.seq (.reg [] [⟨none, .mv 5 (.c (.d (.sl true [])))⟩] [])
 (.seq (.seq (.reg [] [⟨none, .mv 10 (.t 0)⟩, ⟨none, .cal 11 f_play_Picks_Num [(.t 10), (.c (.int .i64 4))] []⟩, ⟨none, .bin 12 .add (.t 11) (.c (.int .i64 1))⟩, ⟨none, .mv 6 (.t 12)⟩] [10, 11, 12])
 (.blk 0 (.loop [0, 1, 5, 6] k_play_Picks_Code_L0)))
 (.seq (.reg [] [⟨none, .mv 62 (.t 5)⟩, ⟨none, .bld 63 [(.c (.int .i64 0)), (.c (.int .i64 0)), (.c (.int .i64 0)), (.c (.int .i64 0))]⟩, ⟨none, .bsl 64 [(.t 63)]⟩, ⟨none, .app 65 (.t 62) (.t 64)⟩, ⟨none, .mv 4 (.t 65)⟩] [5, 62, 63, 64, 65])
 .ret)))), [.t 4], none⟩
/- (*foliot/foliotplay.Picks).some -/
def k_play_Picks_some_L0b : K := (.seq (.seq (.reg [] [⟨none, .mv 14 (.t 8)⟩, ⟨none, .bin 15 .gtr (.t 14) (.c (.int .i64 0))⟩] [14])
 (.cond (.t 15) .skip
 (.ext 0)))
 (.seq (.blk 1 (.seq (.reg [] [⟨none, .mv 18 (.t 2)⟩, ⟨none, .bin 19 .gtr (.t 18) (.c (.int .i64 0))⟩, ⟨none, .mv 20 (.t 19)⟩, ⟨some (20, true), .mv 21 (.t 0)⟩, ⟨some (20, true), .cal 22 f_play_Picks_Num [(.t 21), (.c (.int .i64 4))] []⟩, ⟨some (20, true), .bin 23 .eql (.t 22) (.c (.int .i64 0))⟩, ⟨none, .pick 24 (.t 20) (.t 23) (.c (.bool false))⟩] [18, 19, 20, 21, 22, 23])
 (.cond (.t 24) (.seq (.reg [] [⟨none, .mv 25 (.t 0)⟩, ⟨none, .mv 26 (.t 2)⟩, ⟨none, .cal 27 f_play_Picks_Num [(.t 25), (.t 26)] []⟩, ⟨none, .mv 9 (.t 27)⟩] [25, 26, 27])
 (.reg [] [⟨none, .mv 28 (.t 7)⟩, ⟨none, .mv 29 (.t 9)⟩, ⟨none, .bld 30 [(.c (.int .i64 9)), (.t 29), (.c (.int .i64 0)), (.c (.int .i64 0))]⟩, ⟨none, .bsl 31 [(.t 30)]⟩, ⟨none, .app 32 (.t 28) (.t 31)⟩, ⟨none, .mv 33 (.t 0)⟩, ⟨none, .cal 34 f_play_Picks_plain [(.t 33)] []⟩, ⟨none, .bsl 35 [(.t 34)]⟩, ⟨none, .app 36 (.t 32) (.t 35)⟩, ⟨none, .mv 37 (.t 9)⟩, ⟨none, .bld 38 [(.c (.int .i64 10)), (.t 37), (.c (.int .i64 0)), (.c (.int .i64 0))]⟩, ⟨none, .bsl 39 [(.t 38)]⟩, ⟨none, .app 40 (.t 36) (.t 39)⟩, ⟨none, .mv 7 (.t 40)⟩] [9, 28, 29, 30, 31, 32, 33, 34, 35, 36, 37, 38, 39, 40]))
 (.reg [] [⟨none, .mv 41 (.t 7)⟩, ⟨none, .mv 42 (.t 0)⟩, ⟨none, .cal 43 f_play_Picks_plain [(.t 42)] []⟩, ⟨none, .bsl 44 [(.t 43)]⟩, ⟨none, .app 45 (.t 41) (.t 44)⟩, ⟨none, .mv 7 (.t 45)⟩] [41, 42, 43, 44, 45]))))
 (.reg [] [⟨none, .mv 16 (.t 8)⟩, ⟨none, .bin 17 .sub (.t 16) (.c (.int .i64 1))⟩, ⟨none, .mv 8 (.t 17)⟩] [16, 17])))
def k_play_Picks_some_L0 : K := k_play_Picks_some_L0b
def k_play_Picks_some : KF := ⟨(.seq (.reg [] [⟨none, .mv 6 (.c (.d (.sl true [])))⟩] [6])
 (.seq (.reg [] [⟨none, .mv 7 (.c (.d (.sl true [])))⟩] [])
 (.seq (.seq (.reg [] [⟨none, .mv 10 (.t 0)⟩, ⟨none, .mv 11 (.t 1)⟩, ⟨none, .cal 12 f_play_Picks_Num [(.t 10), (.t 11)] []⟩, ⟨none, .bin 13 .add (.t 12) (.c (.int .i64 1))⟩, ⟨none, .mv 8 (.t 13)⟩] [1, 10, 11, 12, 13])
 (.blk 0 (.loop [0, 2, 7, 8] k_play_Picks_some_L0)))
 (.seq (.reg [] [⟨none, .mv 46 (.t 7)⟩, ⟨none, .mv 6 (.t 46)⟩] [7, 46])
 .ret)))), [.t 6], none⟩
/- (*foliot/foliotplay.Picks).plain -/
def k_play_Picks_plain : KF := ⟨(.seq (.reg [] [⟨none, .alc 2 (.d (.agg [(.int .i64 0), (.int .i64 0), (.int .i64 0), (.int .i64 0)]))⟩] [])
 (.seq (.reg [] [⟨none, .mv 5 (.t 0)⟩, ⟨none, .cal 6 f_play_Picks_Num [(.t 5), (.c (.int .i64 3))] []⟩, ⟨none, .mv 7 (.t 0)⟩, ⟨none, .cal 8 f_play_Picks_Num [(.t 7), (.c (.int .i64 3))] []⟩, ⟨none, .mv 3 (.t 6)⟩, ⟨none, .mv 4 (.t 8)⟩] [5, 6, 7, 8])
 (.seq (.seq (.reg [] [⟨none, .mv 9 (.t 0)⟩, ⟨none, .cal 10 f_play_Picks_Num [(.t 9), (.c (.int .i64 6))] []⟩] [9])
 (.blk 0 (.seq (.reg [] [⟨none, .bin 12 .eql (.t 10) (.c (.int .i64 0))⟩, ⟨none, .mv 11 (.t 12)⟩] [12])
 (.cond (.t 11) (.seq (.reg [] [⟨none, .mv 13 (.t 3)⟩, ⟨none, .mv 14 (.t 0)⟩, ⟨none, .cal 15 f_play_Picks_Num [(.t 14), (.c (.int .i64 9))] []⟩, ⟨none, .bin 16 .sub (.t 15) (.c (.int .i64 4))⟩, ⟨none, .bld 17 [(.c (.int .i64 1)), (.t 13), (.c (.int .i64 0)), (.t 16)]⟩, ⟨none, .st (.t 2) (.t 17)⟩] [0, 3, 13, 14, 15, 16, 17])
 .ret)
 (.seq (.reg [] [⟨none, .bin 19 .eql (.t 10) (.c (.int .i64 1))⟩, ⟨none, .mv 18 (.t 19)⟩] [19])
 (.cond (.t 18) (.seq (.reg [] [⟨none, .mv 20 (.t 3)⟩, ⟨none, .mv 21 (.t 4)⟩, ⟨none, .bld 22 [(.c (.int .i64 2)), (.t 20), (.t 21), (.c (.int .i64 0))]⟩, ⟨none, .st (.t 2) (.t 22)⟩] [3, 4, 20, 21, 22])
 .ret)
 (.seq (.reg [] [⟨none, .bin 24 .eql (.t 10) (.c (.int .i64 2))⟩, ⟨none, .mv 23 (.t 24)⟩] [24])
 (.cond (.t 23) (.seq (.reg [] [⟨none, .mv 25 (.t 3)⟩, ⟨none, .mv 26 (.t 4)⟩, ⟨none, .bld 27 [(.c (.int .i64 3)), (.t 25), (.t 26), (.c (.int .i64 0))]⟩, ⟨none, .st (.t 2) (.t 27)⟩] [3, 4, 25, 26, 27])
 .ret)
 (.seq (.reg [] [⟨none, .bin 29 .eql (.t 10) (.c (.int .i64 3))⟩, ⟨none, .mv 28 (.t 29)⟩] [29])
 (.cond (.t 28) (.seq (.reg [] [⟨none, .mv 30 (.t 3)⟩, ⟨none, .mv 31 (.t 4)⟩, ⟨none, .bld 32 [(.c (.int .i64 4)), (.t 30), (.t 31), (.c (.int .i64 0))]⟩, ⟨none, .st (.t 2) (.t 32)⟩] [3, 4, 30, 31, 32])
 .ret)
 (.seq (.reg [] [⟨none, .bin 34 .eql (.t 10) (.c (.int .i64 4))⟩, ⟨none, .mv 33 (.t 34)⟩] [10, 34])
 (.cond (.t 33) (.seq (.reg [] [⟨none, .mv 35 (.t 3)⟩, ⟨none, .mv 36 (.t 0)⟩, ⟨none, .cal 37 f_play_Picks_Num [(.t 36), (.c (.int .i64 7))] []⟩, ⟨none, .bin 38 .sub (.t 37) (.c (.int .i64 3))⟩, ⟨none, .bld 39 [(.c (.int .i64 5)), (.t 35), (.c (.int .i64 0)), (.t 38)]⟩, ⟨none, .st (.t 2) (.t 39)⟩] [0, 3, 35, 36, 37, 38, 39])
 .ret)
 .skip))))))))))))
 (.seq (.reg [] [⟨none, .mv 40 (.t 3)⟩, ⟨none, .mv 41 (.t 0)⟩, ⟨none, .cal 42 f_play_Picks_Num [(.t 41), (.c (.int .i64 64))] []⟩, ⟨none, .bin 43 .add (.c (.int .i64 1)) (.t 42)⟩, ⟨none, .bld 44 [(.c (.int .i64 6)), (.t 40), (.c (.int .i64 0)), (.t 43)]⟩, ⟨none, .st (.t 2) (.t 44)⟩] [0, 3, 40, 41, 42, 43, 44])
 .ret)))), [.cell 2], none⟩
/- (*foliot/foliotplay.Picks).Over -/
def k_play_Picks_Over : KF := ⟨(.seq (.reg [] [⟨none, .mv 2 (.c (.bool false))⟩] [2])
 (.seq (.reg [] [⟨none, .mv 3 (.t 0)⟩, ⟨none, .nck 4 (.t 3)⟩, ⟨none, .fa 5 (.t 4) 1⟩, ⟨none, .ld 6 (.t 5)⟩, ⟨none, .mv 7 (.t 0)⟩, ⟨none, .nck 8 (.t 7)⟩, ⟨none, .fa 9 (.t 8) 0⟩, ⟨none, .ld 10 (.t 9)⟩, ⟨none, .len 11 (.t 10)⟩, ⟨none, .bin 12 .geq (.t 6) (.t 11)⟩, ⟨none, .mv 2 (.t 12)⟩] [0, 3, 4, 5, 6, 7, 8, 9, 10, 11, 12])
 .ret)), [.t 2], none⟩
/- (*foliot/foliotplay.Picks).Step -/
def k_play_Picks_Step : KF := ⟨(.seq (.reg [] [⟨none, .alc 2 (.d (.agg [(.int .i64 0), (.agg [(.int .i64 0), (.agg [(.int .i64 0), (.int .i64 0), (.int .i64 0), (.sl true []), (.sl true []), (.sl true [])]), (.agg [(.int .i64 0), (.int .i64 0)]), (.int .i64 0), (.int .i64 0), (.int .u32 0)]), (.int .i64 0), (.int .i64 0)]))⟩] [])
 (.seq (.reg [] [⟨none, .mv 4 (.t 0)⟩, ⟨none, .cal 5 f_play_Picks_Num [(.t 4), (.c (.int .i64 8))] []⟩, ⟨none, .mv 6 (.t 0)⟩, ⟨none, .cal 7 f_play_Picks_Num [(.t 6), (.c (.int .i64 5))] []⟩, ⟨none, .bin 8 .quo (.t 7) (.c (.int .i64 4))⟩, ⟨none, .bin 9 .add (.c (.int .i64 1)) (.t 8)⟩, ⟨none, .bld 10 [(.t 5), (.t 9)]⟩, ⟨none, .alc 3 (.d (.agg [(.int .i64 0), (.int .i64 0)]))⟩, ⟨none, .st (.t 3) (.t 10)⟩] [4, 5, 6, 7, 8, 9, 10])
 (.seq (.seq (.reg [] [⟨none, .mv 11 (.t 0)⟩, ⟨none, .cal 12 f_play_Picks_Num [(.t 11), (.c (.int .i64 24))] []⟩] [11])
 (.blk 0 (.seq (.seq (.reg [] [⟨none, .bin 14 .eql (.t 12) (.c (.int .i64 0))⟩, ⟨none, .mv 13 (.t 14)⟩] [14])
 (.cond (.t 13) .skip
 (.seq (.reg [] [⟨none, .bin 15 .eql (.t 12) (.c (.int .i64 1))⟩, ⟨none, .mv 13 (.t 15)⟩] [15])
 (.cond (.t 13) .skip
 (.seq (.reg [] [⟨none, .bin 16 .eql (.t 12) (.c (.int .i64 2))⟩, ⟨none, .mv 13 (.t 16)⟩] [16])
 (.cond (.t 13) .skip
 (.seq (.reg [] [⟨none, .bin 17 .eql (.t 12) (.c (.int .i64 3))⟩, ⟨none, .mv 13 (.t 17)⟩] [17])
 (.cond (.t 13) .skip
 (.reg [] [⟨none, .bin 18 .eql (.t 12) (.c (.int .i64 4))⟩, ⟨none, .mv 13 (.t 18)⟩] [18])))))))))
 (.cond (.t 13) (.seq (.reg [] [⟨none, .mv 19 (.t 0)⟩, ⟨none, .cal 20 f_play_Picks_Num [(.t 19), (.c (.int .i64 6))] []⟩, ⟨none, .mv 21 (.t 0)⟩, ⟨none, .cal 22 f_play_Picks_Num [(.t 21), (.c (.int .i64 9))] []⟩, ⟨none, .bin 23 .sub (.t 22) (.c (.int .i64 4))⟩, ⟨none, .bld 24 [(.c (.int .i64 6)), (.c (.d (.agg [(.int .i64 0), (.int .i64 0), (.int .i64 0), (.sl true []), (.sl true []), (.sl true [])]))), (.c (.d (.agg [(.int .i64 0), (.int .i64 0)]))), (.t 20), (.t 23), (.c (.int .u32 0))]⟩, ⟨none, .cal 25 f_play_Call [(.t 24)] []⟩, ⟨none, .st (.t 2) (.t 25)⟩] [0, 19, 20, 21, 22, 23, 24, 25])
 .ret)
 (.seq (.reg [] [⟨none, .bin 27 .eql (.t 12) (.c (.int .i64 5))⟩, ⟨none, .mv 26 (.t 27)⟩] [27])
 (.cond (.t 26) (.seq (.reg [] [⟨none, .bld 28 [(.c (.int .i64 3)), (.c (.d (.agg [(.int .i64 0), (.agg [(.int .i64 0), (.int .i64 0), (.int .i64 0), (.sl true []), (.sl true []), (.sl true [])]), (.agg [(.int .i64 0), (.int .i64 0)]), (.int .i64 0), (.int .i64 0), (.int .u32 0)]))), (.c (.int .i64 0)), (.c (.int .i64 0))]⟩, ⟨none, .st (.t 2) (.t 28)⟩] [28])
 .ret)
 (.seq (.reg [] [⟨none, .bin 30 .eql (.t 12) (.c (.int .i64 6))⟩, ⟨none, .mv 29 (.t 30)⟩] [30])
 (.cond (.t 29) (.seq (.reg [] [⟨none, .mv 31 (.t 0)⟩, ⟨none, .cal 32 f_play_Picks_Num [(.t 31), (.c (.int .i64 9))] []⟩, ⟨none, .bld 33 [(.c (.int .i64 4)), (.c (.d (.agg [(.int .i64 0), (.agg [(.int .i64 0), (.int .i64 0), (.int .i64 0), (.sl true []), (.sl true []), (.sl true [])]), (.agg [(.int .i64 0), (.int .i64 0)]), (.int .i64 0), (.int .i64 0), (.int .u32 0)]))), (.t 32), (.c (.int .i64 0))]⟩, ⟨none, .st (.t 2) (.t 33)⟩] [0, 31, 32, 33])
 .ret)
 (.seq (.reg [] [⟨none, .bin 35 .eql (.t 12) (.c (.int .i64 7))⟩, ⟨none, .mv 34 (.t 35)⟩] [35])
 (.cond (.t 34) (.seq (.reg [(0, 2)] [⟨none, .ld 36 (.t 3)⟩, ⟨none, .mv 37 (.t 0)⟩, ⟨none, .cal 38 f_play_Picks_Num [(.t 37), (.c (.int .i64 99))] [3]⟩, ⟨none, .bld 39 [(.c (.int .i64 7)), (.c (.d (.agg [(.int .i64 0), (.int .i64 0), (.int .i64 0), (.sl true []), (.sl true []), (.sl true [])]))), (.t 36), (.c (.int .i64 0)), (.t 38), (.c (.int .u32 0))]⟩, ⟨none, .cal 40 f_play_Call [(.t 39)] []⟩, ⟨none, .st (.t 2) (.t 40)⟩] [0, 3, 36, 37, 38, 39, 40])
 .ret)
 (.seq (.reg [] [⟨none, .bin 42 .eql (.t 12) (.c (.int .i64 8))⟩, ⟨none, .mv 41 (.t 42)⟩] [42])
 (.cond (.t 41) (.seq (.reg [(0, 2)] [⟨none, .ld 43 (.t 3)⟩, ⟨none, .mv 44 (.t 0)⟩, ⟨none, .cal 45 f_play_Picks_Num [(.t 44), (.c (.int .i64 4))] [3]⟩, ⟨none, .bld 46 [(.c (.int .i64 8)), (.c (.d (.agg [(.int .i64 0), (.int .i64 0), (.int .i64 0), (.sl true []), (.sl true []), (.sl true [])]))), (.t 43), (.t 45), (.c (.int .i64 0)), (.c (.int .u32 0))]⟩, ⟨none, .cal 47 f_play_Call [(.t 46)] []⟩, ⟨none, .st (.t 2) (.t 47)⟩] [0, 3, 43, 44, 45, 46, 47])
 .ret)
 (.seq (.reg [] [⟨none, .bin 49 .eql (.t 12) (.c (.int .i64 9))⟩, ⟨none, .mv 48 (.t 49)⟩] [49])
 (.cond (.t 48) (.seq (.reg [(0, 2)] [⟨none, .ld 50 (.t 3)⟩, ⟨none, .mv 51 (.t 0)⟩, ⟨none, .cal 52 f_play_Picks_Num [(.t 51), (.c (.int .i64 16))] [3]⟩, ⟨none, .cv 53 .u32 (.t 52)⟩, ⟨none, .bld 54 [(.c (.int .i64 9)), (.c (.d (.agg [(.int .i64 0), (.int .i64 0), (.int .i64 0), (.sl true []), (.sl true []), (.sl true [])]))), (.t 50), (.c (.int .i64 0)), (.c (.int .i64 0)), (.t 53)]⟩, ⟨none, .cal 55 f_play_Call [(.t 54)] []⟩, ⟨none, .st (.t 2) (.t 55)⟩] [0, 3, 50, 51, 52, 53, 54, 55])
 .ret)
 (.seq (.reg [] [⟨none, .bin 57 .eql (.t 12) (.c (.int .i64 10))⟩, ⟨none, .mv 56 (.t 57)⟩] [57])
 (.cond (.t 56) (.seq (.reg [(0, 2), (0, 4)] [⟨none, .ld 58 (.t 3)⟩, ⟨none, .mv 59 (.t 0)⟩, ⟨none, .cal 60 f_play_Picks_Num [(.t 59), (.c (.int .i64 4))] [3]⟩, ⟨none, .mv 61 (.t 0)⟩, ⟨none, .cal 62 f_play_Picks_Num [(.t 61), (.c (.int .i64 16))] [3]⟩, ⟨none, .cv 63 .u32 (.t 62)⟩, ⟨none, .bld 64 [(.c (.int .i64 10)), (.c (.d (.agg [(.int .i64 0), (.int .i64 0), (.int .i64 0), (.sl true []), (.sl true []), (.sl true [])]))), (.t 58), (.t 60), (.c (.int .i64 0)), (.t 63)]⟩, ⟨none, .cal 65 f_play_Call [(.t 64)] []⟩, ⟨none, .st (.t 2) (.t 65)⟩] [0, 3, 58, 59, 60, 61, 62, 63, 64, 65])
 .ret)
 (.seq (.reg [] [⟨none, .bin 67 .eql (.t 12) (.c (.int .i64 11))⟩, ⟨none, .mv 66 (.t 67)⟩] [67])
 (.cond (.t 66) (.seq (.reg [(1, 3), (3, 5), (3, 8), (3, 9)] [⟨none, .mv 68 (.t 0)⟩, ⟨none, .cal 69 f_play_Picks_Num [(.t 68), (.c (.int .i64 12))] [3]⟩, ⟨none, .bin 70 .add (.c (.int .i64 1)) (.t 69)⟩, ⟨none, .ld 71 (.t 3)⟩, ⟨none, .mv 72 (.t 0)⟩, ⟨none, .cal 73 f_play_Picks_Num [(.t 72), (.c (.int .i64 6))] [3]⟩, ⟨none, .mv 74 (.t 0)⟩, ⟨none, .mv 75 (.t 0)⟩, ⟨none, .cal 76 f_play_Picks_Num [(.t 75), (.c (.int .i64 9))] [3]⟩, ⟨none, .cad 77 f_play_Picks_Task [(.t 74), (.t 76), (.c (.int .i64 2))] [3]⟩, ⟨none, .bld 78 [(.t 70), (.t 77), (.t 71), (.t 73), (.c (.int .i64 0)), (.c (.int .u32 0))]⟩, ⟨none, .cal 79 f_play_Call [(.t 78)] []⟩, ⟨none, .st (.t 2) (.t 79)⟩] [0, 3, 68, 69, 70, 71, 72, 73, 74, 75, 76, 77, 78, 79])
 .ret)
 (.seq (.seq (.reg [] [⟨none, .bin 81 .eql (.t 12) (.c (.int .i64 12))⟩, ⟨none, .mv 80 (.t 81)⟩] [81])
 (.cond (.t 80) .skip
 (.reg [] [⟨none, .bin 82 .eql (.t 12) (.c (.int .i64 13))⟩, ⟨none, .mv 80 (.t 82)⟩] [12, 82])))
 (.cond (.t 80) (.seq (.reg [] [⟨none, .mv 83 (.t 0)⟩, ⟨none, .cal 84 f_play_Picks_Num [(.t 83), (.c (.int .i64 30))] []⟩, ⟨none, .bin 85 .add (.c (.int .i64 1)) (.t 84)⟩, ⟨none, .bld 86 [(.c (.int .i64 5)), (.c (.d (.agg [(.int .i64 0), (.agg [(.int .i64 0), (.int .i64 0), (.int .i64 0), (.sl true []), (.sl true []), (.sl true [])]), (.agg [(.int .i64 0), (.int .i64 0)]), (.int .i64 0), (.int .i64 0), (.int .u32 0)]))), (.c (.int .i64 0)), (.t 85)]⟩, ⟨none, .st (.t 2) (.t 86)⟩] [0, 83, 84, 85, 86])
 .ret)
 .skip))))))))))))))))))))
 (.seq (.reg [] [⟨none, .bld 87 [(.c (.int .i64 2)), (.c (.d (.agg [(.int .i64 0), (.agg [(.int .i64 0), (.int .i64 0), (.int .i64 0), (.sl true []), (.sl true []), (.sl true [])]), (.agg [(.int .i64 0), (.int .i64 0)]), (.int .i64 0), (.int .i64 0), (.int .u32 0)]))), (.c (.int .i64 0)), (.c (.int .i64 0))]⟩, ⟨none, .st (.t 2) (.t 87)⟩] [87])
 .ret)))), [.cell 2], none⟩
/- foliot/foliotref27.Decode -/
def k_ref27_Decode_L0b : K := (.seq (.seq (.reg [] [⟨none, .mv 9 (.t 3)⟩, ⟨none, .nck 10 (.t 9)⟩, ⟨none, .fa 11 (.t 10) 0⟩, ⟨none, .ld 12 (.t 11)⟩, ⟨none, .len 13 (.t 12)⟩, ⟨none, .bin 14 .gtr (.t 13) (.c (.int .i64 0))⟩] [9, 10, 11, 12, 13])
 (.cond (.t 14) .skip
 (.ext 0)))
 (.blk 1 (.seq (.reg [] [⟨none, .mv 15 (.t 3)⟩, ⟨none, .cal 16 f_ref27_reader_num [(.t 15), (.c (.int .i64 1))] []⟩, ⟨none, .bin 17 .rem (.t 16) (.c (.int .u64 6))⟩, ⟨none, .cv 18 .i64 (.t 17)⟩, ⟨none, .bld 19 [(.t 18), (.c (.d (.agg [(.int .i64 0), (.agg [(.int .i64 0), (.int .i64 0), (.int .i64 0), (.sl true []), (.sl true []), (.sl true [])]), (.agg [(.int .i64 0), (.int .i64 0)]), (.int .i64 0), (.int .i64 0), (.int .u32 0)]))), (.c (.int .i64 0)), (.c (.int .i64 0))]⟩, ⟨none, .alc 5 (.d (.agg [(.int .i64 0), (.agg [(.int .i64 0), (.agg [(.int .i64 0), (.int .i64 0), (.int .i64 0), (.sl true []), (.sl true []), (.sl true [])]), (.agg [(.int .i64 0), (.int .i64 0)]), (.int .i64 0), (.int .i64 0), (.int .u32 0)]), (.int .i64 0), (.int .i64 0)]))⟩, ⟨none, .st (.t 5) (.t 19)⟩] [15, 16, 17, 18, 19])
 (.seq (.seq (.reg [] [⟨none, .fa 20 (.t 5) 0⟩, ⟨none, .ld 21 (.t 20)⟩] [20])
 (.blk 2 (.seq (.reg [] [⟨none, .bin 23 .eql (.t 21) (.c (.int .i64 0))⟩, ⟨none, .mv 22 (.t 23)⟩] [23])
 (.cond (.t 22) (.ext 1)
 (.seq (.reg [] [⟨none, .bin 25 .eql (.t 21) (.c (.int .i64 4))⟩, ⟨none, .mv 24 (.t 25)⟩] [25])
 (.cond (.t 24) (.reg [] [⟨none, .mv 26 (.t 3)⟩, ⟨none, .cal 27 f_ref27_reader_num [(.t 26), (.c (.int .i64 1))] []⟩, ⟨none, .cv 28 .i64 (.t 27)⟩, ⟨none, .fa 29 (.t 5) 2⟩, ⟨none, .st (.t 29) (.t 28)⟩] [26, 27, 28, 29])
 (.seq (.reg [] [⟨none, .bin 31 .eql (.t 21) (.c (.int .i64 5))⟩, ⟨none, .mv 30 (.t 31)⟩] [31])
 (.cond (.t 30) (.reg [] [⟨none, .mv 32 (.t 3)⟩, ⟨none, .cal 33 f_ref27_reader_num [(.t 32), (.c (.int .i64 2))] []⟩, ⟨none, .cv 34 .i64 (.t 33)⟩, ⟨none, .fa 35 (.t 5) 3⟩, ⟨none, .st (.t 35) (.t 34)⟩] [32, 33, 34, 35])
 (.seq (.reg [] [⟨none, .bin 37 .eql (.t 21) (.c (.int .i64 1))⟩, ⟨none, .mv 36 (.t 37)⟩] [21, 37])
 (.cond (.t 36) (.reg [] [⟨none, .mv 38 (.t 3)⟩, ⟨none, .cal 39 f_ref27_call [(.t 38)] []⟩, ⟨none, .fa 40 (.t 5) 1⟩, ⟨none, .st (.t 40) (.t 39)⟩] [38, 39, 40])
 .skip))))))))))
 (.seq (.seq (.reg [] [⟨none, .mv 41 (.t 3)⟩, ⟨none, .nck 42 (.t 41)⟩, ⟨none, .fa 43 (.t 42) 1⟩, ⟨none, .ld 44 (.t 43)⟩] [41, 42, 43])
 (.cond (.t 44) (.seq (.reg [] [⟨none, .mv 45 (.t 4)⟩, ⟨none, .mv 2 (.t 45)⟩] [4, 45])
 .ret)
 .skip))
 (.reg [] [⟨none, .mv 46 (.t 4)⟩, ⟨none, .ld 47 (.t 5)⟩, ⟨none, .bsl 48 [(.t 47)]⟩, ⟨none, .app 49 (.t 46) (.t 48)⟩, ⟨none, .mv 4 (.t 49)⟩] [5, 46, 47, 48, 49]))))))
def k_ref27_Decode_L0 : K := k_ref27_Decode_L0b
def k_ref27_Decode : KF := ⟨(.seq (.reg [] [⟨none, .mv 2 (.c (.d (.sl true [])))⟩] [2])
 (.seq (.reg [] [⟨none, .mv 6 (.t 0)⟩, ⟨none, .bld 7 [(.t 6), (.c (.bool false))]⟩, ⟨none, .box 8 (.t 7)⟩, ⟨none, .mv 3 (.t 8)⟩] [0, 6, 7, 8])
 (.seq (.reg [] [⟨none, .mv 4 (.c (.d (.sl true [])))⟩] [])
 (.seq (.blk 0 (.loop [3, 4] k_ref27_Decode_L0))
 (.seq (.reg [] [⟨none, .mv 50 (.t 4)⟩, ⟨none, .mv 2 (.t 50)⟩] [4, 50])
 .ret))))), [.t 2], none⟩
/- (*foliot/foliotref27.reader).num -/
def k_ref27_reader_num_L0b : K := (.seq (.seq (.reg [] [⟨none, .mv 21 (.t 6)⟩, ⟨none, .mv 22 (.t 1)⟩, ⟨none, .bin 23 .lss (.t 21) (.t 22)⟩] [21, 22])
 (.cond (.t 23) .skip
 (.ext 0)))
 (.seq (.blk 1 (.reg [] [⟨none, .mv 26 (.t 5)⟩, ⟨none, .bin 27 .mul (.t 26) (.c (.int .u64 256))⟩, ⟨none, .mv 28 (.t 0)⟩, ⟨none, .nck 29 (.t 28)⟩, ⟨none, .fa 30 (.t 29) 0⟩, ⟨none, .ld 31 (.t 30)⟩, ⟨none, .mv 32 (.t 6)⟩, ⟨none, .ia 33 (.t 31) (.t 32)⟩, ⟨none, .ld 34 (.t 33)⟩, ⟨none, .cv 35 .u64 (.t 34)⟩, ⟨none, .bin 36 .add (.t 27) (.t 35)⟩, ⟨none, .mv 5 (.t 36)⟩] [26, 27, 28, 29, 30, 31, 32, 33, 34, 35, 36]))
 (.reg [] [⟨none, .mv 24 (.t 6)⟩, ⟨none, .bin 25 .add (.t 24) (.c (.int .i64 1))⟩, ⟨none, .mv 6 (.t 25)⟩] [24, 25])))
def k_ref27_reader_num_L0 : K := k_ref27_reader_num_L0b
def k_ref27_reader_num : KF := ⟨(.seq (.reg [] [⟨none, .mv 4 (.c (.int .u64 0))⟩] [4])
 (.seq (.seq (.reg [] [⟨none, .mv 7 (.t 1)⟩, ⟨none, .mv 8 (.t 0)⟩, ⟨none, .nck 9 (.t 8)⟩, ⟨none, .fa 10 (.t 9) 0⟩, ⟨none, .ld 11 (.t 10)⟩, ⟨none, .len 12 (.t 11)⟩, ⟨none, .bin 13 .gtr (.t 7) (.t 12)⟩] [7, 8, 9, 10, 11, 12])
 (.cond (.t 13) (.reg [] [⟨none, .mv 14 (.t 0)⟩, ⟨none, .nck 15 (.t 14)⟩, ⟨none, .fa 16 (.t 15) 1⟩, ⟨none, .st (.t 16) (.c (.bool true))⟩] [14, 15, 16])
 .skip))
 (.seq (.seq (.reg [] [⟨none, .mv 17 (.t 0)⟩, ⟨none, .nck 18 (.t 17)⟩, ⟨none, .fa 19 (.t 18) 1⟩, ⟨none, .ld 20 (.t 19)⟩] [17, 18, 19])
 (.cond (.t 20) (.seq (.reg [] [⟨none, .mv 4 (.c (.int .u64 0))⟩] [])
 .ret)
 .skip))
 (.seq (.reg [] [⟨none, .mv 5 (.c (.int .u64 0))⟩] [])
 (.seq (.seq (.reg [] [⟨none, .mv 6 (.c (.int .i64 0))⟩] [])
 (.blk 0 (.loop [0, 1, 5, 6] k_ref27_reader_num_L0)))
 (.seq (.reg [] [⟨none, .mv 37 (.t 0)⟩, ⟨none, .mv 38 (.t 0)⟩, ⟨none, .nck 39 (.t 38)⟩, ⟨none, .fa 40 (.t 39) 0⟩, ⟨none, .ld 41 (.t 40)⟩, ⟨none, .mv 42 (.t 1)⟩, ⟨none, .slc 43 (.t 41) (some (.t 42)) none⟩, ⟨none, .nck 44 (.t 37)⟩, ⟨none, .fa 45 (.t 44) 0⟩, ⟨none, .st (.t 45) (.t 43)⟩] [0, 1, 37, 38, 39, 40, 41, 42, 43, 44, 45])
 (.seq (.reg [] [⟨none, .mv 46 (.t 5)⟩, ⟨none, .mv 4 (.t 46)⟩] [5, 46])
 .ret))))))), [.t 4], none⟩
/- foliot/foliotref27.call -/
def k_ref27_call : KF := ⟨(.seq (.reg [] [⟨none, .alc 2 (.d (.agg [(.int .i64 0), (.agg [(.int .i64 0), (.int .i64 0), (.int .i64 0), (.sl true []), (.sl true []), (.sl true [])]), (.agg [(.int .i64 0), (.int .i64 0)]), (.int .i64 0), (.int .i64 0), (.int .u32 0)]))⟩] [])
 (.seq (.reg [] [⟨none, .mv 4 (.t 0)⟩, ⟨none, .cal 5 f_ref27_reader_num [(.t 4), (.c (.int .i64 1))] []⟩, ⟨none, .cv 6 .i64 (.t 5)⟩, ⟨none, .bld 7 [(.t 6), (.c (.d (.agg [(.int .i64 0), (.int .i64 0), (.int .i64 0), (.sl true []), (.sl true []), (.sl true [])]))), (.c (.d (.agg [(.int .i64 0), (.int .i64 0)]))), (.c (.int .i64 0)), (.c (.int .i64 0)), (.c (.int .u32 0))]⟩, ⟨none, .alc 3 (.d (.agg [(.int .i64 0), (.agg [(.int .i64 0), (.int .i64 0), (.int .i64 0), (.sl true []), (.sl true []), (.sl true [])]), (.agg [(.int .i64 0), (.int .i64 0)]), (.int .i64 0), (.int .i64 0), (.int .u32 0)]))⟩, ⟨none, .st (.t 3) (.t 7)⟩] [4, 5, 6, 7])
 (.seq (.seq (.reg [] [⟨none, .fa 8 (.t 3) 0⟩, ⟨none, .ld 9 (.t 8)⟩] [8])
 (.blk 0 (.seq (.reg [] [⟨none, .bin 11 .eql (.t 9) (.c (.int .i64 1))⟩, ⟨none, .mv 10 (.t 11)⟩] [11])
 (.cond (.t 10) (.seq (.reg [] [⟨none, .mv 12 (.t 0)⟩, ⟨none, .cal 13 f_ref27_reader_num [(.t 12), (.c (.int .i64 1))] []⟩, ⟨none, .cv 14 .i64 (.t 13)⟩, ⟨none, .fa 15 (.t 3) 1⟩, ⟨none, .fa 16 (.t 15) 0⟩, ⟨none, .st (.t 16) (.t 14)⟩] [12, 13, 14, 15, 16])
 (.seq (.reg [] [⟨none, .mv 17 (.t 0)⟩, ⟨none, .cal 18 f_ref27_reader_num [(.t 17), (.c (.int .i64 4))] []⟩, ⟨none, .cv 19 .i64 (.t 18)⟩, ⟨none, .fa 20 (.t 3) 1⟩, ⟨none, .fa 21 (.t 20) 1⟩, ⟨none, .st (.t 21) (.t 19)⟩] [17, 18, 19, 20, 21])
 (.seq (.reg [] [⟨none, .mv 22 (.t 0)⟩, ⟨none, .cal 23 f_ref27_reader_num [(.t 22), (.c (.int .i64 4))] []⟩, ⟨none, .cv 24 .i64 (.t 23)⟩, ⟨none, .fa 25 (.t 3) 1⟩, ⟨none, .fa 26 (.t 25) 2⟩, ⟨none, .st (.t 26) (.t 24)⟩] [22, 23, 24, 25, 26])
 (.seq (.reg [] [⟨none, .mv 27 (.t 0)⟩, ⟨none, .cal 28 f_ref27_reader_code [(.t 27)] []⟩, ⟨none, .fa 29 (.t 3) 1⟩, ⟨none, .fa 30 (.t 29) 3⟩, ⟨none, .st (.t 30) (.t 28)⟩] [27, 28, 29, 30])
 (.seq (.reg [] [⟨none, .mv 31 (.t 0)⟩, ⟨none, .cal 32 f_ref27_reader_code [(.t 31)] []⟩, ⟨none, .fa 33 (.t 3) 1⟩, ⟨none, .fa 34 (.t 33) 4⟩, ⟨none, .st (.t 34) (.t 32)⟩] [31, 32, 33, 34])
 (.reg [] [⟨none, .mv 35 (.t 0)⟩, ⟨none, .cal 36 f_ref27_reader_code [(.t 35)] []⟩, ⟨none, .fa 37 (.t 3) 1⟩, ⟨none, .fa 38 (.t 37) 5⟩, ⟨none, .st (.t 38) (.t 36)⟩] [0, 35, 36, 37, 38]))))))
 (.seq (.reg [] [⟨none, .bin 40 .eql (.t 9) (.c (.int .i64 6))⟩, ⟨none, .mv 39 (.t 40)⟩] [40])
 (.cond (.t 39) (.seq (.reg [] [⟨none, .mv 41 (.t 0)⟩, ⟨none, .cal 42 f_ref27_reader_num [(.t 41), (.c (.int .i64 1))] []⟩, ⟨none, .cv 43 .i64 (.t 42)⟩, ⟨none, .fa 44 (.t 3) 3⟩, ⟨none, .st (.t 44) (.t 43)⟩] [41, 42, 43, 44])
 (.reg [] [⟨none, .mv 45 (.t 0)⟩, ⟨none, .cal 46 f_ref27_reader_num [(.t 45), (.c (.int .i64 8))] []⟩, ⟨none, .cv 47 .i64 (.t 46)⟩, ⟨none, .fa 48 (.t 3) 4⟩, ⟨none, .st (.t 48) (.t 47)⟩] [0, 45, 46, 47, 48]))
 (.seq (.reg [] [⟨none, .bin 50 .eql (.t 9) (.c (.int .i64 7))⟩, ⟨none, .mv 49 (.t 50)⟩] [50])
 (.cond (.t 49) (.seq (.reg [] [⟨none, .mv 51 (.t 0)⟩, ⟨none, .cal 52 f_ref27_reader_handle [(.t 51)] []⟩, ⟨none, .fa 53 (.t 3) 2⟩, ⟨none, .st (.t 53) (.t 52)⟩] [51, 52, 53])
 (.reg [] [⟨none, .mv 54 (.t 0)⟩, ⟨none, .cal 55 f_ref27_reader_num [(.t 54), (.c (.int .i64 8))] []⟩, ⟨none, .cv 56 .i64 (.t 55)⟩, ⟨none, .fa 57 (.t 3) 4⟩, ⟨none, .st (.t 57) (.t 56)⟩] [0, 54, 55, 56, 57]))
 (.seq (.reg [] [⟨none, .bin 59 .eql (.t 9) (.c (.int .i64 8))⟩, ⟨none, .mv 58 (.t 59)⟩] [59])
 (.cond (.t 58) (.seq (.reg [] [⟨none, .mv 60 (.t 0)⟩, ⟨none, .cal 61 f_ref27_reader_handle [(.t 60)] []⟩, ⟨none, .fa 62 (.t 3) 2⟩, ⟨none, .st (.t 62) (.t 61)⟩] [60, 61, 62])
 (.reg [] [⟨none, .mv 63 (.t 0)⟩, ⟨none, .cal 64 f_ref27_reader_num [(.t 63), (.c (.int .i64 1))] []⟩, ⟨none, .cv 65 .i64 (.t 64)⟩, ⟨none, .fa 66 (.t 3) 3⟩, ⟨none, .st (.t 66) (.t 65)⟩] [0, 63, 64, 65, 66]))
 (.seq (.reg [] [⟨none, .bin 68 .eql (.t 9) (.c (.int .i64 9))⟩, ⟨none, .mv 67 (.t 68)⟩] [68])
 (.cond (.t 67) (.seq (.reg [] [⟨none, .mv 69 (.t 0)⟩, ⟨none, .cal 70 f_ref27_reader_handle [(.t 69)] []⟩, ⟨none, .fa 71 (.t 3) 2⟩, ⟨none, .st (.t 71) (.t 70)⟩] [69, 70, 71])
 (.reg [] [⟨none, .mv 72 (.t 0)⟩, ⟨none, .cal 73 f_ref27_reader_num [(.t 72), (.c (.int .i64 4))] []⟩, ⟨none, .cv 74 .u32 (.t 73)⟩, ⟨none, .fa 75 (.t 3) 5⟩, ⟨none, .st (.t 75) (.t 74)⟩] [0, 72, 73, 74, 75]))
 (.seq (.reg [] [⟨none, .bin 77 .eql (.t 9) (.c (.int .i64 10))⟩, ⟨none, .mv 76 (.t 77)⟩] [77])
 (.cond (.t 76) (.seq (.reg [] [⟨none, .mv 78 (.t 0)⟩, ⟨none, .cal 79 f_ref27_reader_handle [(.t 78)] []⟩, ⟨none, .fa 80 (.t 3) 2⟩, ⟨none, .st (.t 80) (.t 79)⟩] [78, 79, 80])
 (.seq (.reg [] [⟨none, .mv 81 (.t 0)⟩, ⟨none, .cal 82 f_ref27_reader_num [(.t 81), (.c (.int .i64 1))] []⟩, ⟨none, .cv 83 .i64 (.t 82)⟩, ⟨none, .fa 84 (.t 3) 3⟩, ⟨none, .st (.t 84) (.t 83)⟩] [81, 82, 83, 84])
 (.reg [] [⟨none, .mv 85 (.t 0)⟩, ⟨none, .cal 86 f_ref27_reader_num [(.t 85), (.c (.int .i64 4))] []⟩, ⟨none, .cv 87 .u32 (.t 86)⟩, ⟨none, .fa 88 (.t 3) 5⟩, ⟨none, .st (.t 88) (.t 87)⟩] [0, 85, 86, 87, 88])))
 (.seq (.reg [] [⟨none, .bin 90 .eql (.t 9) (.c (.int .i64 11))⟩, ⟨none, .mv 89 (.t 90)⟩] [9, 90])
 (.cond (.t 89) (.reg [] [⟨none, .mv 91 (.t 0)⟩, ⟨none, .cal 92 f_ref27_reader_handle [(.t 91)] []⟩, ⟨none, .fa 93 (.t 3) 2⟩, ⟨none, .st (.t 93) (.t 92)⟩] [0, 91, 92, 93])
 .skip))))))))))))))))
 (.seq (.reg [] [⟨none, .ld 94 (.t 3)⟩, ⟨none, .st (.t 2) (.t 94)⟩] [3, 94])
 .ret)))), [.cell 2], none⟩
/- (*foliot/foliotref27.reader).code -/
def k_ref27_reader_code_L0b : K := (.seq (.seq (.reg [] [⟨none, .mv 9 (.t 4)⟩, ⟨none, .bin 10 .gtr (.t 9) (.c (.int .u64 0))⟩, ⟨none, .mv 11 (.t 10)⟩, ⟨some (11, true), .mv 12 (.t 0)⟩, ⟨some (11, true), .nck 13 (.t 12)⟩, ⟨some (11, true), .fa 14 (.t 13) 1⟩, ⟨some (11, true), .ld 15 (.t 14)⟩, ⟨some (11, true), .un 16 .not (.t 15)⟩, ⟨none, .pick 17 (.t 11) (.t 16) (.c (.bool false))⟩] [9, 10, 11, 12, 13, 14, 15, 16])
 (.cond (.t 17) .skip
 (.ext 0)))
 (.seq (.blk 1 (.seq (.reg [] [⟨none, .mv 21 (.t 0)⟩, ⟨none, .nck 22 (.t 21)⟩, ⟨none, .fa 23 (.t 22) 0⟩, ⟨none, .ld 24 (.t 23)⟩, ⟨none, .dat 25 f_ref1_TakeInst [(.t 24)]⟩, ⟨none, .mv 20 (.t 25)⟩, ⟨none, .ex 26 (.t 20) 0⟩, ⟨none, .ex 27 (.t 20) 1⟩, ⟨none, .alc 5 (.d (.agg [(.int .i64 0), (.int .i64 0), (.int .i64 0), (.int .i64 0)]))⟩, ⟨none, .st (.t 5) (.t 26)⟩, ⟨none, .mv 6 (.t 27)⟩] [20, 21, 22, 23, 24, 25, 26, 27])
 (.seq (.seq (.reg [] [⟨none, .mv 28 (.t 6)⟩, ⟨none, .un 29 .not (.t 28)⟩] [6, 28])
 (.cond (.t 29) (.seq (.reg [] [⟨none, .mv 30 (.t 0)⟩, ⟨none, .nck 31 (.t 30)⟩, ⟨none, .fa 32 (.t 31) 1⟩, ⟨none, .st (.t 32) (.c (.bool true))⟩] [0, 30, 31, 32])
 (.seq (.reg [] [⟨none, .mv 2 (.c (.d (.sl true [])))⟩] [])
 .ret))
 .skip))
 (.reg [(3, 8), (4, 8)] [⟨none, .mv 33 (.t 0)⟩, ⟨none, .mv 34 (.t 3)⟩, ⟨none, .ld 35 (.t 5)⟩, ⟨none, .bsl 36 [(.t 35)]⟩, ⟨none, .app 37 (.t 34) (.t 36)⟩, ⟨none, .mv 38 (.t 0)⟩, ⟨none, .nck 39 (.t 38)⟩, ⟨none, .fa 40 (.t 39) 0⟩, ⟨none, .ld 41 (.t 40)⟩, ⟨none, .slc 42 (.t 41) (some (.c (.int .i64 7))) none⟩, ⟨none, .mv 3 (.t 37)⟩, ⟨none, .nck 43 (.t 33)⟩, ⟨none, .fa 44 (.t 43) 0⟩, ⟨none, .st (.t 44) (.t 42)⟩] [5, 33, 34, 35, 36, 37, 38, 39, 40, 41, 42, 43, 44]))))
 (.reg [] [⟨none, .mv 18 (.t 4)⟩, ⟨none, .bin 19 .sub (.t 18) (.c (.int .u64 1))⟩, ⟨none, .mv 4 (.t 19)⟩] [18, 19])))
def k_ref27_reader_code_L0 : K := k_ref27_reader_code_L0b
def k_ref27_reader_code : KF := ⟨(.seq (.reg [] [⟨none, .mv 2 (.c (.d (.sl true [])))⟩] [2])
 (.seq (.reg [] [⟨none, .mv 3 (.c (.d (.sl true [])))⟩] [])
 (.seq (.seq (.reg [] [⟨none, .mv 7 (.t 0)⟩, ⟨none, .cal 8 f_ref27_reader_num [(.t 7), (.c (.int .i64 1))] []⟩, ⟨none, .mv 4 (.t 8)⟩] [7, 8])
 (.blk 0 (.loop [0, 3, 4] k_ref27_reader_code_L0)))
 (.seq (.reg [] [⟨none, .mv 45 (.t 3)⟩, ⟨none, .mv 2 (.t 45)⟩] [3, 45])
 .ret)))), [.t 2], none⟩
/- foliot/foliotref1.TakeInst -/
def k_ref1_TakeInst : KF := ⟨(.seq (.reg [] [⟨none, .alc 2 (.d (.agg [(.int .i64 0), (.int .i64 0), (.int .i64 0), (.int .i64 0)]))⟩, ⟨none, .mv 3 (.c (.bool false))⟩] [3])
 (.seq (.seq (.reg [] [⟨none, .mv 6 (.t 0)⟩, ⟨none, .len 7 (.t 6)⟩, ⟨none, .bin 8 .lss (.t 7) (.c (.int .i64 7))⟩] [6, 7])
 (.cond (.t 8) (.seq (.reg [] [⟨none, .bld 9 [(.c (.int .i64 0)), (.c (.int .i64 0)), (.c (.int .i64 0)), (.c (.int .i64 0))]⟩, ⟨none, .st (.t 2) (.t 9)⟩, ⟨none, .mv 3 (.c (.bool false))⟩] [9])
 .ret)
 .skip))
 (.seq (.reg [] [⟨none, .mv 10 (.t 0)⟩, ⟨none, .ia 11 (.t 10) (.c (.int .i64 3))⟩, ⟨none, .ld 12 (.t 11)⟩, ⟨none, .cv 13 .u32 (.t 12)⟩, ⟨none, .bin 14 .mul (.t 13) (.c (.int .u32 16777216))⟩, ⟨none, .mv 15 (.t 0)⟩, ⟨none, .ia 16 (.t 15) (.c (.int .i64 4))⟩, ⟨none, .ld 17 (.t 16)⟩, ⟨none, .cv 18 .u32 (.t 17)⟩, ⟨none, .bin 19 .mul (.t 18) (.c (.int .u32 65536))⟩, ⟨none, .bin 20 .add (.t 14) (.t 19)⟩, ⟨none, .mv 21 (.t 0)⟩, ⟨none, .ia 22 (.t 21) (.c (.int .i64 5))⟩, ⟨none, .ld 23 (.t 22)⟩, ⟨none, .cv 24 .u32 (.t 23)⟩, ⟨none, .bin 25 .mul (.t 24) (.c (.int .u32 256))⟩, ⟨none, .bin 26 .add (.t 20) (.t 25)⟩, ⟨none, .mv 27 (.t 0)⟩, ⟨none, .ia 28 (.t 27) (.c (.int .i64 6))⟩, ⟨none, .ld 29 (.t 28)⟩, ⟨none, .cv 30 .u32 (.t 29)⟩, ⟨none, .bin 31 .add (.t 26) (.t 30)⟩, ⟨none, .mv 4 (.t 31)⟩] [10, 11, 12, 13, 14, 15, 16, 17, 18, 19, 20, 21, 22, 23, 24, 25, 26, 27, 28, 29, 30, 31])
 (.seq (.reg [(1, 16), (2, 16), (5, 16), (6, 16), (9, 16), (10, 16)] [⟨none, .mv 32 (.t 0)⟩, ⟨none, .ia 33 (.t 32) (.c (.int .i64 0))⟩, ⟨none, .ld 34 (.t 33)⟩, ⟨none, .cv 35 .i64 (.t 34)⟩, ⟨none, .mv 36 (.t 0)⟩, ⟨none, .ia 37 (.t 36) (.c (.int .i64 1))⟩, ⟨none, .ld 38 (.t 37)⟩, ⟨none, .cv 39 .i64 (.t 38)⟩, ⟨none, .mv 40 (.t 0)⟩, ⟨none, .ia 41 (.t 40) (.c (.int .i64 2))⟩, ⟨none, .ld 42 (.t 41)⟩, ⟨none, .cv 43 .i64 (.t 42)⟩, ⟨none, .mv 44 (.t 4)⟩, ⟨none, .cv 45 .i32 (.t 44)⟩, ⟨none, .cv 46 .i64 (.t 45)⟩, ⟨none, .bld 47 [(.t 35), (.t 39), (.t 43), (.t 46)]⟩, ⟨none, .alc 5 (.d (.agg [(.int .i64 0), (.int .i64 0), (.int .i64 0), (.int .i64 0)]))⟩, ⟨none, .st (.t 5) (.t 47)⟩] [0, 4, 32, 33, 34, 35, 36, 37, 38, 39, 40, 41, 42, 43, 44, 45, 46, 47])
 (.seq (.seq (.reg [] [⟨none, .ld 48 (.t 5)⟩, ⟨none, .dat 49 f_ref1_MayInst [(.t 48)]⟩, ⟨none, .un 50 .not (.t 49)⟩] [48, 49])
 (.cond (.t 50) (.seq (.reg [] [⟨none, .bld 51 [(.c (.int .i64 0)), (.c (.int .i64 0)), (.c (.int .i64 0)), (.c (.int .i64 0))]⟩, ⟨none, .st (.t 2) (.t 51)⟩, ⟨none, .mv 3 (.c (.bool false))⟩] [51])
 .ret)
 .skip))
 (.seq (.reg [] [⟨none, .ld 52 (.t 5)⟩, ⟨none, .st (.t 2) (.t 52)⟩, ⟨none, .mv 3 (.c (.bool true))⟩] [5, 52])
 .ret)))))), [.cell 2, .t 3], none⟩
/- foliot/foliotref1.MayInst -/
def k_ref1_MayInst : KF := ⟨(.seq (.reg [] [⟨none, .box 1 (.t 0)⟩, ⟨none, .mv 2 (.c (.bool false))⟩] [0, 2])
 (.seq (.reg [] [⟨none, .bld 4 [(.c (.int .i64 8))]⟩, ⟨none, .alc 3 (.d (.agg [(.int .i64 0)]))⟩, ⟨none, .st (.t 3) (.t 4)⟩] [4])
 (.seq (.seq (.reg [] [⟨none, .fa 5 (.t 1) 0⟩, ⟨none, .ld 6 (.t 5)⟩] [5])
 (.blk 0 (.seq (.seq (.reg [] [⟨none, .bin 8 .eql (.t 6) (.c (.int .i64 0))⟩, ⟨none, .mv 7 (.t 8)⟩] [8])
 (.cond (.t 7) .skip
 (.reg [] [⟨none, .bin 9 .eql (.t 6) (.c (.int .i64 11))⟩, ⟨none, .mv 7 (.t 9)⟩] [9])))
 (.cond (.t 7) (.seq (.reg [] [⟨none, .fa 10 (.t 1) 1⟩, ⟨none, .ld 11 (.t 10)⟩, ⟨none, .bin 12 .eql (.t 11) (.c (.int .i64 0))⟩, ⟨none, .mv 13 (.t 12)⟩, ⟨some (13, true), .fa 14 (.t 1) 2⟩, ⟨some (13, true), .ld 15 (.t 14)⟩, ⟨some (13, true), .bin 16 .eql (.t 15) (.c (.int .i64 0))⟩, ⟨none, .pick 17 (.t 13) (.t 16) (.c (.bool false))⟩, ⟨none, .mv 18 (.t 17)⟩, ⟨some (18, true), .fa 19 (.t 1) 3⟩, ⟨some (18, true), .ld 20 (.t 19)⟩, ⟨some (18, true), .bin 21 .eql (.t 20) (.c (.int .i64 0))⟩, ⟨none, .pick 22 (.t 18) (.t 21) (.c (.bool false))⟩, ⟨none, .mv 2 (.t 22)⟩] [1, 10, 11, 12, 13, 14, 15, 16, 17, 18, 19, 20, 21, 22])
 .ret)
 (.seq (.reg [] [⟨none, .bin 24 .eql (.t 6) (.c (.int .i64 1))⟩, ⟨none, .mv 23 (.t 24)⟩] [24])
 (.cond (.t 23) (.seq (.reg [] [⟨none, .ld 25 (.t 3)⟩, ⟨none, .fa 26 (.t 1) 1⟩, ⟨none, .ld 27 (.t 26)⟩, ⟨none, .dat 28 f_ref1_places_has [(.t 25), (.t 27)]⟩, ⟨none, .mv 29 (.t 28)⟩, ⟨some (29, true), .fa 30 (.t 1) 2⟩, ⟨some (29, true), .ld 31 (.t 30)⟩, ⟨some (29, true), .bin 32 .eql (.t 31) (.c (.int .i64 0))⟩, ⟨none, .pick 33 (.t 29) (.t 32) (.c (.bool false))⟩, ⟨none, .mv 34 (.t 33)⟩, ⟨some (34, true), .fa 35 (.t 1) 3⟩, ⟨some (34, true), .ld 36 (.t 35)⟩, ⟨some (34, true), .bin 37 .geq (.t 36) (.c (.int .i64 (-2147483648)))⟩, ⟨none, .pick 38 (.t 34) (.t 37) (.c (.bool false))⟩, ⟨none, .mv 39 (.t 38)⟩, ⟨some (39, true), .fa 40 (.t 1) 3⟩, ⟨some (39, true), .ld 41 (.t 40)⟩, ⟨some (39, true), .bin 42 .lss (.t 41) (.c (.int .i64 2147483648))⟩, ⟨none, .pick 43 (.t 39) (.t 42) (.c (.bool false))⟩, ⟨none, .mv 2 (.t 43)⟩] [1, 3, 25, 26, 27, 28, 29, 30, 31, 32, 33, 34, 35, 36, 37, 38, 39, 40, 41, 42, 43])
 .ret)
 (.seq (.seq (.reg [] [⟨none, .bin 45 .eql (.t 6) (.c (.int .i64 2))⟩, ⟨none, .mv 44 (.t 45)⟩] [45])
 (.cond (.t 44) .skip
 (.seq (.reg [] [⟨none, .bin 46 .eql (.t 6) (.c (.int .i64 3))⟩, ⟨none, .mv 44 (.t 46)⟩] [46])
 (.cond (.t 44) .skip
 (.reg [] [⟨none, .bin 47 .eql (.t 6) (.c (.int .i64 4))⟩, ⟨none, .mv 44 (.t 47)⟩] [47])))))
 (.cond (.t 44) (.seq (.reg [] [⟨none, .ld 48 (.t 3)⟩, ⟨none, .fa 49 (.t 1) 1⟩, ⟨none, .ld 50 (.t 49)⟩, ⟨none, .dat 51 f_ref1_places_has [(.t 48), (.t 50)]⟩, ⟨none, .mv 52 (.t 51)⟩, ⟨some (52, true), .ld 53 (.t 3)⟩, ⟨some (52, true), .fa 54 (.t 1) 2⟩, ⟨some (52, true), .ld 55 (.t 54)⟩, ⟨some (52, true), .dat 56 f_ref1_places_has [(.t 53), (.t 55)]⟩, ⟨none, .pick 57 (.t 52) (.t 56) (.c (.bool false))⟩, ⟨none, .mv 58 (.t 57)⟩, ⟨some (58, true), .fa 59 (.t 1) 3⟩, ⟨some (58, true), .ld 60 (.t 59)⟩, ⟨some (58, true), .bin 61 .eql (.t 60) (.c (.int .i64 0))⟩, ⟨none, .pick 62 (.t 58) (.t 61) (.c (.bool false))⟩, ⟨none, .mv 2 (.t 62)⟩] [1, 3, 48, 49, 50, 51, 52, 53, 54, 55, 56, 57, 58, 59, 60, 61, 62])
 .ret)
 (.seq (.reg [] [⟨none, .bin 64 .eql (.t 6) (.c (.int .i64 5))⟩, ⟨none, .mv 63 (.t 64)⟩] [64])
 (.cond (.t 63) (.seq (.reg [] [⟨none, .ld 65 (.t 3)⟩, ⟨none, .fa 66 (.t 1) 1⟩, ⟨none, .ld 67 (.t 66)⟩, ⟨none, .dat 68 f_ref1_places_has [(.t 65), (.t 67)]⟩, ⟨none, .mv 69 (.t 68)⟩, ⟨some (69, true), .fa 70 (.t 1) 2⟩, ⟨some (69, true), .ld 71 (.t 70)⟩, ⟨some (69, true), .bin 72 .eql (.t 71) (.c (.int .i64 0))⟩, ⟨none, .pick 73 (.t 69) (.t 72) (.c (.bool false))⟩, ⟨none, .mv 74 (.t 73)⟩, ⟨some (74, true), .fa 75 (.t 1) 3⟩, ⟨some (74, true), .ld 76 (.t 75)⟩, ⟨some (74, true), .bin 77 .geq (.t 76) (.c (.int .i64 (-63)))⟩, ⟨none, .pick 78 (.t 74) (.t 77) (.c (.bool false))⟩, ⟨none, .mv 79 (.t 78)⟩, ⟨some (79, true), .fa 80 (.t 1) 3⟩, ⟨some (79, true), .ld 81 (.t 80)⟩, ⟨some (79, true), .bin 82 .leq (.t 81) (.c (.int .i64 63))⟩, ⟨none, .pick 83 (.t 79) (.t 82) (.c (.bool false))⟩, ⟨none, .mv 2 (.t 83)⟩] [1, 3, 65, 66, 67, 68, 69, 70, 71, 72, 73, 74, 75, 76, 77, 78, 79, 80, 81, 82, 83])
 .ret)
 (.seq (.reg [] [⟨none, .bin 85 .eql (.t 6) (.c (.int .i64 6))⟩, ⟨none, .mv 84 (.t 85)⟩] [85])
 (.cond (.t 84) (.seq (.reg [] [⟨none, .ld 86 (.t 3)⟩, ⟨none, .fa 87 (.t 1) 1⟩, ⟨none, .ld 88 (.t 87)⟩, ⟨none, .dat 89 f_ref1_places_has [(.t 86), (.t 88)]⟩, ⟨none, .mv 90 (.t 89)⟩, ⟨some (90, true), .fa 91 (.t 1) 2⟩, ⟨some (90, true), .ld 92 (.t 91)⟩, ⟨some (90, true), .bin 93 .eql (.t 92) (.c (.int .i64 0))⟩, ⟨none, .pick 94 (.t 90) (.t 93) (.c (.bool false))⟩, ⟨none, .mv 95 (.t 94)⟩, ⟨some (95, true), .fa 96 (.t 1) 3⟩, ⟨some (95, true), .ld 97 (.t 96)⟩, ⟨some (95, true), .bin 98 .geq (.t 97) (.c (.int .i64 1))⟩, ⟨none, .pick 99 (.t 95) (.t 98) (.c (.bool false))⟩, ⟨none, .mv 100 (.t 99)⟩, ⟨some (100, true), .fa 101 (.t 1) 3⟩, ⟨some (100, true), .ld 102 (.t 101)⟩, ⟨some (100, true), .bin 103 .leq (.t 102) (.c (.int .i64 64))⟩, ⟨none, .pick 104 (.t 100) (.t 103) (.c (.bool false))⟩, ⟨none, .mv 2 (.t 104)⟩] [1, 3, 86, 87, 88, 89, 90, 91, 92, 93, 94, 95, 96, 97, 98, 99, 100, 101, 102, 103, 104])
 .ret)
 (.seq (.reg [] [⟨none, .bin 106 .eql (.t 6) (.c (.int .i64 7))⟩, ⟨none, .mv 105 (.t 106)⟩] [106])
 (.cond (.t 105) (.seq (.reg [] [⟨none, .ld 107 (.t 3)⟩, ⟨none, .fa 108 (.t 1) 1⟩, ⟨none, .ld 109 (.t 108)⟩, ⟨none, .dat 110 f_ref1_places_has [(.t 107), (.t 109)]⟩, ⟨none, .mv 111 (.t 110)⟩, ⟨some (111, true), .fa 112 (.t 1) 2⟩, ⟨some (111, true), .ld 113 (.t 112)⟩, ⟨some (111, true), .bin 114 .eql (.t 113) (.c (.int .i64 0))⟩, ⟨none, .pick 115 (.t 111) (.t 114) (.c (.bool false))⟩, ⟨none, .mv 116 (.t 115)⟩, ⟨some (116, true), .fa 117 (.t 1) 3⟩, ⟨some (116, true), .ld 118 (.t 117)⟩, ⟨some (116, true), .bin 119 .geq (.t 118) (.c (.int .i64 1))⟩, ⟨none, .pick 120 (.t 116) (.t 119) (.c (.bool false))⟩, ⟨none, .mv 121 (.t 120)⟩, ⟨some (121, true), .fa 122 (.t 1) 3⟩, ⟨some (121, true), .ld 123 (.t 122)⟩, ⟨some (121, true), .bin 124 .leq (.t 123) (.c (.int .i64 24))⟩, ⟨none, .pick 125 (.t 121) (.t 124) (.c (.bool false))⟩, ⟨none, .mv 2 (.t 125)⟩] [1, 3, 107, 108, 109, 110, 111, 112, 113, 114, 115, 116, 117, 118, 119, 120, 121, 122, 123, 124, 125])
 .ret)
 (.seq (.reg [] [⟨none, .bin 127 .eql (.t 6) (.c (.int .i64 8))⟩, ⟨none, .mv 126 (.t 127)⟩] [127])
 (.cond (.t 126) (.seq (.reg [] [⟨none, .fa 128 (.t 1) 1⟩, ⟨none, .ld 129 (.t 128)⟩, ⟨none, .bin 130 .eql (.t 129) (.c (.int .i64 0))⟩, ⟨none, .mv 131 (.t 130)⟩, ⟨some (131, true), .fa 132 (.t 1) 2⟩, ⟨some (131, true), .ld 133 (.t 132)⟩, ⟨some (131, true), .bin 134 .geq (.t 133) (.c (.int .i64 1))⟩, ⟨none, .pick 135 (.t 131) (.t 134) (.c (.bool false))⟩, ⟨none, .mv 136 (.t 135)⟩, ⟨some (136, true), .fa 137 (.t 1) 2⟩, ⟨some (136, true), .ld 138 (.t 137)⟩, ⟨some (136, true), .bin 139 .leq (.t 138) (.c (.int .i64 24))⟩, ⟨none, .pick 140 (.t 136) (.t 139) (.c (.bool false))⟩, ⟨none, .mv 141 (.t 140)⟩, ⟨some (141, true), .fa 142 (.t 1) 3⟩, ⟨some (141, true), .ld 143 (.t 142)⟩, ⟨some (141, true), .bin 144 .geq (.t 143) (.c (.int .i64 1))⟩, ⟨none, .pick 145 (.t 141) (.t 144) (.c (.bool false))⟩, ⟨none, .mv 146 (.t 145)⟩, ⟨some (146, true), .fa 147 (.t 1) 3⟩, ⟨some (146, true), .ld 148 (.t 147)⟩, ⟨some (146, true), .bin 149 .leq (.t 148) (.c (.int .i64 20))⟩, ⟨none, .pick 150 (.t 146) (.t 149) (.c (.bool false))⟩, ⟨none, .mv 2 (.t 150)⟩] [1, 128, 129, 130, 131, 132, 133, 134, 135, 136, 137, 138, 139, 140, 141, 142, 143, 144, 145, 146, 147, 148, 149, 150])
 .ret)
 (.seq (.seq (.reg [] [⟨none, .bin 152 .eql (.t 6) (.c (.int .i64 9))⟩, ⟨none, .mv 151 (.t 152)⟩] [152])
 (.cond (.t 151) .skip
 (.reg [] [⟨none, .bin 153 .eql (.t 6) (.c (.int .i64 10))⟩, ⟨none, .mv 151 (.t 153)⟩] [6, 153])))
 (.cond (.t 151) (.seq (.reg [] [⟨none, .fa 154 (.t 1) 1⟩, ⟨none, .ld 155 (.t 154)⟩, ⟨none, .bin 156 .geq (.t 155) (.c (.int .i64 0))⟩, ⟨none, .mv 157 (.t 156)⟩, ⟨some (157, true), .fa 158 (.t 1) 1⟩, ⟨some (157, true), .ld 159 (.t 158)⟩, ⟨some (157, true), .bin 160 .lss (.t 159) (.c (.int .i64 4))⟩, ⟨none, .pick 161 (.t 157) (.t 160) (.c (.bool false))⟩, ⟨none, .mv 162 (.t 161)⟩, ⟨some (162, true), .fa 163 (.t 1) 2⟩, ⟨some (162, true), .ld 164 (.t 163)⟩, ⟨some (162, true), .bin 165 .eql (.t 164) (.c (.int .i64 0))⟩, ⟨none, .pick 166 (.t 162) (.t 165) (.c (.bool false))⟩, ⟨none, .mv 167 (.t 166)⟩, ⟨some (167, true), .fa 168 (.t 1) 3⟩, ⟨some (167, true), .ld 169 (.t 168)⟩, ⟨some (167, true), .bin 170 .eql (.t 169) (.c (.int .i64 0))⟩, ⟨none, .pick 171 (.t 167) (.t 170) (.c (.bool false))⟩, ⟨none, .mv 2 (.t 171)⟩] [1, 154, 155, 156, 157, 158, 159, 160, 161, 162, 163, 164, 165, 166, 167, 168, 169, 170, 171])
 .ret)
 .skip))))))))))))))))))
 (.seq (.reg [] [⟨none, .mv 2 (.c (.bool false))⟩] [])
 .ret)))), [.t 2], none⟩
/- (foliot/foliotref1.places).has -/
def k_ref1_places_has : KF := ⟨(.seq (.reg [] [⟨none, .box 2 (.t 0)⟩, ⟨none, .mv 4 (.c (.bool false))⟩] [0, 4])
 (.seq (.reg [] [⟨none, .mv 5 (.t 1)⟩, ⟨none, .bin 6 .geq (.t 5) (.c (.int .i64 0))⟩, ⟨none, .mv 7 (.t 6)⟩, ⟨some (7, true), .mv 8 (.t 1)⟩, ⟨some (7, true), .fa 9 (.t 2) 0⟩, ⟨some (7, true), .ld 10 (.t 9)⟩, ⟨some (7, true), .bin 11 .lss (.t 8) (.t 10)⟩, ⟨none, .pick 12 (.t 7) (.t 11) (.c (.bool false))⟩, ⟨none, .mv 4 (.t 12)⟩] [1, 2, 5, 6, 7, 8, 9, 10, 11, 12])
 .ret)), [.t 4], none⟩
/- (*foliot/foliotref27.reader).handle -/
def k_ref27_reader_handle : KF := ⟨(.seq (.reg [] [⟨none, .alc 2 (.d (.agg [(.int .i64 0), (.int .i64 0)]))⟩] [])
 (.seq (.reg [] [⟨none, .mv 4 (.t 0)⟩, ⟨none, .cal 5 f_ref27_reader_num [(.t 4), (.c (.int .i64 1))] []⟩, ⟨none, .cv 6 .i64 (.t 5)⟩, ⟨none, .bld 7 [(.t 6), (.c (.int .i64 0))]⟩, ⟨none, .alc 3 (.d (.agg [(.int .i64 0), (.int .i64 0)]))⟩, ⟨none, .st (.t 3) (.t 7)⟩] [4, 5, 6, 7])
 (.seq (.reg [] [⟨none, .mv 8 (.t 0)⟩, ⟨none, .cal 9 f_ref27_reader_num [(.t 8), (.c (.int .i64 1))] []⟩, ⟨none, .cv 10 .i64 (.t 9)⟩, ⟨none, .fa 11 (.t 3) 1⟩, ⟨none, .st (.t 11) (.t 10)⟩] [0, 8, 9, 10, 11])
 (.seq (.reg [] [⟨none, .ld 12 (.t 3)⟩, ⟨none, .st (.t 2) (.t 12)⟩] [3, 12])
 .ret)))), [.cell 2], none⟩
/- foliot/foliotref27.SameSteps -/
def k_ref27_SameSteps_L0b : K := (.seq (.seq (.reg [] [⟨none, .mv 11 (.t 5)⟩, ⟨none, .mv 12 (.t 0)⟩, ⟨none, .len 13 (.t 12)⟩, ⟨none, .bin 14 .lss (.t 11) (.t 13)⟩] [11, 12, 13])
 (.cond (.t 14) .skip
 (.ext 0)))
 (.seq (.blk 1 (.seq (.reg [] [⟨none, .mv 17 (.t 0)⟩, ⟨none, .mv 18 (.t 5)⟩, ⟨none, .ia 19 (.t 17) (.t 18)⟩, ⟨none, .ld 20 (.t 19)⟩, ⟨none, .mv 21 (.t 1)⟩, ⟨none, .mv 22 (.t 5)⟩, ⟨none, .ia 23 (.t 21) (.t 22)⟩, ⟨none, .ld 24 (.t 23)⟩, ⟨none, .dat 25 f_ref27_SameStep [(.t 20), (.t 24)]⟩, ⟨none, .un 26 .not (.t 25)⟩] [17, 18, 19, 20, 21, 22, 23, 24, 25])
 (.cond (.t 26) (.seq (.reg [] [⟨none, .mv 4 (.c (.bool false))⟩] [])
 .ret)
 .skip)))
 (.reg [] [⟨none, .mv 15 (.t 5)⟩, ⟨none, .bin 16 .add (.t 15) (.c (.int .i64 1))⟩, ⟨none, .mv 5 (.t 16)⟩] [15, 16])))
def k_ref27_SameSteps_L0 : K := k_ref27_SameSteps_L0b
def k_ref27_SameSteps : KF := ⟨(.seq (.reg [] [⟨none, .mv 4 (.c (.bool false))⟩] [4])
 (.seq (.seq (.reg [] [⟨none, .mv 6 (.t 0)⟩, ⟨none, .len 7 (.t 6)⟩, ⟨none, .mv 8 (.t 1)⟩, ⟨none, .len 9 (.t 8)⟩, ⟨none, .bin 10 .neq (.t 7) (.t 9)⟩] [6, 7, 8, 9])
 (.cond (.t 10) (.seq (.reg [] [⟨none, .mv 4 (.c (.bool false))⟩] [])
 .ret)
 .skip))
 (.seq (.seq (.reg [] [⟨none, .mv 5 (.c (.int .i64 0))⟩] [])
 (.blk 0 (.loop [0, 1, 5] k_ref27_SameSteps_L0)))
 (.seq (.reg [] [⟨none, .mv 4 (.c (.bool true))⟩] [])
 .ret)))), [.t 4], none⟩
/- foliot/foliotref27.SameStep -/
def k_ref27_SameStep : KF := ⟨(.seq (.reg [] [⟨none, .box 2 (.t 0)⟩, ⟨none, .box 3 (.t 1)⟩, ⟨none, .mv 4 (.c (.bool false))⟩] [0, 1, 4])
 (.seq (.reg [(1, 4), (3, 4), (1, 5), (3, 5), (3, 6)] [⟨none, .fa 7 (.t 2) 1⟩, ⟨none, .ld 8 (.t 7)⟩, ⟨none, .fa 9 (.t 3) 1⟩, ⟨none, .ld 10 (.t 9)⟩, ⟨none, .alc 5 (.d (.agg [(.int .i64 0), (.agg [(.int .i64 0), (.int .i64 0), (.int .i64 0), (.sl true []), (.sl true []), (.sl true [])]), (.agg [(.int .i64 0), (.int .i64 0)]), (.int .i64 0), (.int .i64 0), (.int .u32 0)]))⟩, ⟨none, .alc 6 (.d (.agg [(.int .i64 0), (.agg [(.int .i64 0), (.int .i64 0), (.int .i64 0), (.sl true []), (.sl true []), (.sl true [])]), (.agg [(.int .i64 0), (.int .i64 0)]), (.int .i64 0), (.int .i64 0), (.int .u32 0)]))⟩, ⟨none, .st (.t 5) (.t 8)⟩, ⟨none, .st (.t 6) (.t 10)⟩] [7, 8, 9, 10])
 (.seq (.reg [] [⟨none, .fa 11 (.t 2) 0⟩, ⟨none, .ld 12 (.t 11)⟩, ⟨none, .fa 13 (.t 3) 0⟩, ⟨none, .ld 14 (.t 13)⟩, ⟨none, .bin 15 .eql (.t 12) (.t 14)⟩, ⟨none, .mv 16 (.t 15)⟩, ⟨some (16, true), .fa 17 (.t 2) 2⟩, ⟨some (16, true), .ld 18 (.t 17)⟩, ⟨some (16, true), .fa 19 (.t 3) 2⟩, ⟨some (16, true), .ld 20 (.t 19)⟩, ⟨some (16, true), .bin 21 .eql (.t 18) (.t 20)⟩, ⟨none, .pick 22 (.t 16) (.t 21) (.c (.bool false))⟩, ⟨none, .mv 23 (.t 22)⟩, ⟨some (23, true), .fa 24 (.t 2) 3⟩, ⟨some (23, true), .ld 25 (.t 24)⟩, ⟨some (23, true), .fa 26 (.t 3) 3⟩, ⟨some (23, true), .ld 27 (.t 26)⟩, ⟨some (23, true), .bin 28 .eql (.t 25) (.t 27)⟩, ⟨none, .pick 29 (.t 23) (.t 28) (.c (.bool false))⟩, ⟨none, .mv 30 (.t 29)⟩, ⟨some (30, true), .fa 31 (.t 5) 0⟩, ⟨some (30, true), .ld 32 (.t 31)⟩, ⟨some (30, true), .fa 33 (.t 6) 0⟩, ⟨some (30, true), .ld 34 (.t 33)⟩, ⟨some (30, true), .bin 35 .eql (.t 32) (.t 34)⟩, ⟨none, .pick 36 (.t 30) (.t 35) (.c (.bool false))⟩, ⟨none, .mv 37 (.t 36)⟩, ⟨some (37, true), .fa 38 (.t 5) 2⟩, ⟨some (37, true), .ld 39 (.t 38)⟩, ⟨some (37, true), .fa 40 (.t 6) 2⟩, ⟨some (37, true), .ld 41 (.t 40)⟩, ⟨some (37, true), .bin 42 .eql (.t 39) (.t 41)⟩, ⟨none, .pick 43 (.t 37) (.t 42) (.c (.bool false))⟩, ⟨none, .mv 44 (.t 43)⟩, ⟨some (44, true), .fa 45 (.t 5) 3⟩, ⟨some (44, true), .ld 46 (.t 45)⟩, ⟨some (44, true), .fa 47 (.t 6) 3⟩, ⟨some (44, true), .ld 48 (.t 47)⟩, ⟨some (44, true), .bin 49 .eql (.t 46) (.t 48)⟩, ⟨none, .pick 50 (.t 44) (.t 49) (.c (.bool false))⟩, ⟨none, .mv 51 (.t 50)⟩, ⟨some (51, true), .fa 52 (.t 5) 4⟩, ⟨some (51, true), .ld 53 (.t 52)⟩, ⟨some (51, true), .fa 54 (.t 6) 4⟩, ⟨some (51, true), .ld 55 (.t 54)⟩, ⟨some (51, true), .bin 56 .eql (.t 53) (.t 55)⟩, ⟨none, .pick 57 (.t 51) (.t 56) (.c (.bool false))⟩, ⟨none, .mv 58 (.t 57)⟩, ⟨some (58, true), .fa 59 (.t 5) 5⟩, ⟨some (58, true), .ld 60 (.t 59)⟩, ⟨some (58, true), .fa 61 (.t 6) 5⟩, ⟨some (58, true), .ld 62 (.t 61)⟩, ⟨some (58, true), .bin 63 .eql (.t 60) (.t 62)⟩, ⟨none, .pick 64 (.t 58) (.t 63) (.c (.bool false))⟩, ⟨none, .mv 65 (.t 64)⟩, ⟨some (65, true), .fa 66 (.t 5) 1⟩, ⟨some (65, true), .ld 67 (.t 66)⟩, ⟨some (65, true), .fa 68 (.t 6) 1⟩, ⟨some (65, true), .ld 69 (.t 68)⟩, ⟨some (65, true), .dat 70 f_ref15_SameTask [(.t 67), (.t 69)]⟩, ⟨none, .pick 71 (.t 65) (.t 70) (.c (.bool false))⟩, ⟨none, .mv 4 (.t 71)⟩] [2, 3, 5, 6, 11, 12, 13, 14, 15, 16, 17, 18, 19, 20, 21, 22, 23, 24, 25, 26, 27, 28, 29, 30, 31, 32, 33, 34, 35, 36, 37, 38, 39, 40, 41, 42, 43, 44, 45, 46, 47, 48, 49, 50, 51, 52, 53, 54, 55, 56, 57, 58, 59, 60, 61, 62, 63, 64, 65, 66, 67, 68, 69, 70, 71])
 .ret))), [.t 4], none⟩
/- foliot/foliotref15.SameTask -/
def k_ref15_SameTask : KF := ⟨(.seq (.reg [] [⟨none, .box 2 (.t 0)⟩, ⟨none, .box 3 (.t 1)⟩, ⟨none, .mv 4 (.c (.bool false))⟩] [0, 1, 4])
 (.seq (.reg [] [⟨none, .fa 5 (.t 2) 0⟩, ⟨none, .ld 6 (.t 5)⟩, ⟨none, .fa 7 (.t 3) 0⟩, ⟨none, .ld 8 (.t 7)⟩, ⟨none, .bin 9 .eql (.t 6) (.t 8)⟩, ⟨none, .mv 10 (.t 9)⟩, ⟨some (10, true), .fa 11 (.t 2) 1⟩, ⟨some (10, true), .ld 12 (.t 11)⟩, ⟨some (10, true), .fa 13 (.t 3) 1⟩, ⟨some (10, true), .ld 14 (.t 13)⟩, ⟨some (10, true), .bin 15 .eql (.t 12) (.t 14)⟩, ⟨none, .pick 16 (.t 10) (.t 15) (.c (.bool false))⟩, ⟨none, .mv 17 (.t 16)⟩, ⟨some (17, true), .fa 18 (.t 2) 2⟩, ⟨some (17, true), .ld 19 (.t 18)⟩, ⟨some (17, true), .fa 20 (.t 3) 2⟩, ⟨some (17, true), .ld 21 (.t 20)⟩, ⟨some (17, true), .bin 22 .eql (.t 19) (.t 21)⟩, ⟨none, .pick 23 (.t 17) (.t 22) (.c (.bool false))⟩, ⟨none, .mv 24 (.t 23)⟩, ⟨some (24, true), .fa 25 (.t 2) 3⟩, ⟨some (24, true), .ld 26 (.t 25)⟩, ⟨some (24, true), .fa 27 (.t 3) 3⟩, ⟨some (24, true), .ld 28 (.t 27)⟩, ⟨some (24, true), .dat 29 f_ref1_SameCode [(.t 26), (.t 28)]⟩, ⟨none, .pick 30 (.t 24) (.t 29) (.c (.bool false))⟩, ⟨none, .mv 31 (.t 30)⟩, ⟨some (31, true), .fa 32 (.t 2) 4⟩, ⟨some (31, true), .ld 33 (.t 32)⟩, ⟨some (31, true), .fa 34 (.t 3) 4⟩, ⟨some (31, true), .ld 35 (.t 34)⟩, ⟨some (31, true), .dat 36 f_ref1_SameCode [(.t 33), (.t 35)]⟩, ⟨none, .pick 37 (.t 31) (.t 36) (.c (.bool false))⟩, ⟨none, .mv 38 (.t 37)⟩, ⟨some (38, true), .fa 39 (.t 2) 5⟩, ⟨some (38, true), .ld 40 (.t 39)⟩, ⟨some (38, true), .fa 41 (.t 3) 5⟩, ⟨some (38, true), .ld 42 (.t 41)⟩, ⟨some (38, true), .dat 43 f_ref1_SameCode [(.t 40), (.t 42)]⟩, ⟨none, .pick 44 (.t 38) (.t 43) (.c (.bool false))⟩, ⟨none, .mv 4 (.t 44)⟩] [2, 3, 5, 6, 7, 8, 9, 10, 11, 12, 13, 14, 15, 16, 17, 18, 19, 20, 21, 22, 23, 24, 25, 26, 27, 28, 29, 30, 31, 32, 33, 34, 35, 36, 37, 38, 39, 40, 41, 42, 43, 44])
 .ret)), [.t 4], none⟩
/- foliot/foliotref1.SameCode -/
def k_ref1_SameCode_L0b : K := (.seq (.seq (.reg [] [⟨none, .mv 11 (.t 5)⟩, ⟨none, .mv 12 (.t 0)⟩, ⟨none, .len 13 (.t 12)⟩, ⟨none, .bin 14 .lss (.t 11) (.t 13)⟩] [11, 12, 13])
 (.cond (.t 14) .skip
 (.ext 0)))
 (.seq (.blk 1 (.seq (.reg [] [⟨none, .mv 17 (.t 0)⟩, ⟨none, .mv 18 (.t 5)⟩, ⟨none, .ia 19 (.t 17) (.t 18)⟩, ⟨none, .ld 20 (.t 19)⟩, ⟨none, .mv 21 (.t 1)⟩, ⟨none, .mv 22 (.t 5)⟩, ⟨none, .ia 23 (.t 21) (.t 22)⟩, ⟨none, .ld 24 (.t 23)⟩, ⟨none, .bin 25 .neq (.t 20) (.t 24)⟩] [17, 18, 19, 20, 21, 22, 23, 24])
 (.cond (.t 25) (.seq (.reg [] [⟨none, .mv 4 (.c (.bool false))⟩] [])
 .ret)
 .skip)))
 (.reg [] [⟨none, .mv 15 (.t 5)⟩, ⟨none, .bin 16 .add (.t 15) (.c (.int .i64 1))⟩, ⟨none, .mv 5 (.t 16)⟩] [15, 16])))
def k_ref1_SameCode_L0 : K := k_ref1_SameCode_L0b
def k_ref1_SameCode : KF := ⟨(.seq (.reg [] [⟨none, .mv 4 (.c (.bool false))⟩] [4])
 (.seq (.seq (.reg [] [⟨none, .mv 6 (.t 0)⟩, ⟨none, .len 7 (.t 6)⟩, ⟨none, .mv 8 (.t 1)⟩, ⟨none, .len 9 (.t 8)⟩, ⟨none, .bin 10 .neq (.t 7) (.t 9)⟩] [6, 7, 8, 9])
 (.cond (.t 10) (.seq (.reg [] [⟨none, .mv 4 (.c (.bool false))⟩] [])
 .ret)
 .skip))
 (.seq (.seq (.reg [] [⟨none, .mv 5 (.c (.int .i64 0))⟩] [])
 (.blk 0 (.loop [0, 1, 5] k_ref1_SameCode_L0)))
 (.seq (.reg [] [⟨none, .mv 4 (.c (.bool true))⟩] [])
 .ret)))), [.t 4], none⟩
/- foliot/foliotref27.Encode -/
def k_ref27_Encode_L0b : K := (.seq (.seq (.reg [] [⟨none, .mv 7 (.t 4)⟩, ⟨none, .mv 8 (.t 0)⟩, ⟨none, .len 9 (.t 8)⟩, ⟨none, .bin 10 .lss (.t 7) (.t 9)⟩] [7, 8, 9])
 (.cond (.t 10) .skip
 (.ext 0)))
 (.seq (.blk 1 (.seq (.reg [] [⟨none, .mv 13 (.t 0)⟩, ⟨none, .mv 14 (.t 4)⟩, ⟨none, .ia 15 (.t 13) (.t 14)⟩, ⟨none, .ld 16 (.t 15)⟩, ⟨none, .dat 17 f_ref27_put [(.t 16)]⟩, ⟨none, .mv 5 (.t 17)⟩] [13, 14, 15, 16, 17])
 (.seq (.reg [] [⟨none, .mv 18 (.t 5)⟩, ⟨none, .daf 19 f_ref27_Decode [(.t 18)]⟩, ⟨none, .mv 6 (.t 19)⟩] [18, 19])
 (.seq (.reg [] [⟨none, .mv 20 (.t 6)⟩, ⟨none, .len 21 (.t 20)⟩, ⟨none, .bin 22 .eql (.t 21) (.c (.int .i64 1))⟩, ⟨none, .mv 23 (.t 22)⟩, ⟨some (23, true), .mv 24 (.t 6)⟩, ⟨some (23, true), .ia 25 (.t 24) (.c (.int .i64 0))⟩, ⟨some (23, true), .ld 26 (.t 25)⟩, ⟨some (23, true), .mv 27 (.t 0)⟩, ⟨some (23, true), .mv 28 (.t 4)⟩, ⟨some (23, true), .ia 29 (.t 27) (.t 28)⟩, ⟨some (23, true), .ld 30 (.t 29)⟩, ⟨some (23, true), .dat 31 f_ref27_SameStep [(.t 26), (.t 30)]⟩, ⟨none, .pick 32 (.t 23) (.t 31) (.c (.bool false))⟩] [6, 20, 21, 22, 23, 24, 25, 26, 27, 28, 29, 30, 31])
 (.cond (.t 32) (.reg [] [⟨none, .mv 33 (.t 3)⟩, ⟨none, .mv 34 (.t 5)⟩, ⟨none, .app 35 (.t 33) (.t 34)⟩, ⟨none, .mv 3 (.t 35)⟩] [5, 33, 34, 35])
 .skip)))))
 (.reg [] [⟨none, .mv 11 (.t 4)⟩, ⟨none, .bin 12 .add (.t 11) (.c (.int .i64 1))⟩, ⟨none, .mv 4 (.t 12)⟩] [11, 12])))
def k_ref27_Encode_L0 : K := k_ref27_Encode_L0b
def k_ref27_Encode : KF := ⟨(.seq (.reg [] [⟨none, .mv 2 (.c (.d (.sl true [])))⟩] [2])
 (.seq (.reg [] [⟨none, .mv 3 (.c (.d (.sl true [])))⟩] [])
 (.seq (.seq (.reg [] [⟨none, .mv 4 (.c (.int .i64 0))⟩] [])
 (.blk 0 (.loop [0, 3, 4] k_ref27_Encode_L0)))
 (.seq (.reg [] [⟨none, .mv 36 (.t 3)⟩, ⟨none, .mv 2 (.t 36)⟩] [3, 36])
 .ret)))), [.t 2], none⟩
/- foliot/foliotref27.put -/
def k_ref27_put : KF := ⟨(.seq (.reg [] [⟨none, .box 1 (.t 0)⟩, ⟨none, .mv 2 (.c (.d (.sl true [])))⟩] [0, 2])
 (.seq (.reg [] [⟨none, .fa 6 (.t 1) 0⟩, ⟨none, .ld 7 (.t 6)⟩, ⟨none, .cv 8 .u8 (.t 7)⟩, ⟨none, .bsl 9 [(.t 8)]⟩, ⟨none, .mv 3 (.t 9)⟩] [6, 7, 8, 9])
 (.seq (.reg [] [⟨none, .fa 10 (.t 1) 1⟩, ⟨none, .ld 11 (.t 10)⟩, ⟨none, .alc 4 (.d (.agg [(.int .i64 0), (.agg [(.int .i64 0), (.int .i64 0), (.int .i64 0), (.sl true []), (.sl true []), (.sl true [])]), (.agg [(.int .i64 0), (.int .i64 0)]), (.int .i64 0), (.int .i64 0), (.int .u32 0)]))⟩, ⟨none, .st (.t 4) (.t 11)⟩] [10, 11])
 (.seq (.seq (.reg [] [⟨none, .fa 12 (.t 1) 0⟩, ⟨none, .ld 13 (.t 12)⟩] [12])
 (.blk 0 (.seq (.reg [] [⟨none, .bin 16 .eql (.t 13) (.c (.int .i64 4))⟩, ⟨none, .mv 15 (.t 16)⟩] [16])
 (.cond (.t 15) (.seq (.reg [] [⟨none, .mv 17 (.t 3)⟩, ⟨none, .fa 18 (.t 1) 2⟩, ⟨none, .ld 19 (.t 18)⟩, ⟨none, .cv 20 .u8 (.t 19)⟩, ⟨none, .bsl 21 [(.t 20)]⟩, ⟨none, .app 22 (.t 17) (.t 21)⟩, ⟨none, .mv 2 (.t 22)⟩] [1, 3, 17, 18, 19, 20, 21, 22])
 .ret)
 (.seq (.reg [] [⟨none, .bin 24 .eql (.t 13) (.c (.int .i64 5))⟩, ⟨none, .mv 23 (.t 24)⟩] [24])
 (.cond (.t 23) (.seq (.reg [] [⟨none, .mv 25 (.t 3)⟩, ⟨none, .fa 26 (.t 1) 3⟩, ⟨none, .ld 27 (.t 26)⟩, ⟨none, .cv 28 .u64 (.t 27)⟩, ⟨none, .cal 29 f_ref27_high [(.t 25), (.t 28), (.c (.int .i64 2))] []⟩, ⟨none, .mv 2 (.t 29)⟩] [1, 3, 25, 26, 27, 28, 29])
 .ret)
 (.seq (.reg [] [⟨none, .bin 31 .eql (.t 13) (.c (.int .i64 1))⟩, ⟨none, .mv 30 (.t 31)⟩] [13, 31])
 (.cond (.t 30) (.reg [] [⟨none, .mv 32 (.t 3)⟩, ⟨none, .fa 33 (.t 4) 0⟩, ⟨none, .ld 34 (.t 33)⟩, ⟨none, .cv 35 .u8 (.t 34)⟩, ⟨none, .bsl 36 [(.t 35)]⟩, ⟨none, .app 37 (.t 32) (.t 36)⟩, ⟨none, .mv 3 (.t 37)⟩] [32, 33, 34, 35, 36, 37])
 (.seq (.reg [] [⟨none, .mv 14 (.t 3)⟩, ⟨none, .mv 2 (.t 14)⟩] [3, 14])
 .ret)))))))))
 (.seq (.reg [] [⟨none, .fa 38 (.t 4) 2⟩, ⟨none, .fa 39 (.t 38) 0⟩, ⟨none, .ld 40 (.t 39)⟩, ⟨none, .cv 41 .u8 (.t 40)⟩, ⟨none, .fa 42 (.t 4) 2⟩, ⟨none, .fa 43 (.t 42) 1⟩, ⟨none, .ld 44 (.t 43)⟩, ⟨none, .cv 45 .u8 (.t 44)⟩, ⟨none, .bsl 46 [(.t 41), (.t 45)]⟩, ⟨none, .mv 5 (.t 46)⟩] [38, 39, 40, 41, 42, 43, 44, 45, 46])
 (.seq (.seq (.reg [] [⟨none, .fa 47 (.t 4) 0⟩, ⟨none, .ld 48 (.t 47)⟩] [47])
 (.blk 1 (.seq (.reg [] [⟨none, .bin 50 .eql (.t 48) (.c (.int .i64 1))⟩, ⟨none, .mv 49 (.t 50)⟩] [50])
 (.cond (.t 49) (.seq (.reg [(5, 9), (6, 9), (5, 14), (6, 14), (11, 14)] [⟨none, .mv 51 (.t 3)⟩, ⟨none, .fa 52 (.t 4) 1⟩, ⟨none, .fa 53 (.t 52) 0⟩, ⟨none, .ld 54 (.t 53)⟩, ⟨none, .cv 55 .u8 (.t 54)⟩, ⟨none, .bsl 56 [(.t 55)]⟩, ⟨none, .app 57 (.t 51) (.t 56)⟩, ⟨none, .fa 58 (.t 4) 1⟩, ⟨none, .fa 59 (.t 58) 1⟩, ⟨none, .ld 60 (.t 59)⟩, ⟨none, .cv 61 .u64 (.t 60)⟩, ⟨none, .cal 62 f_ref27_high [(.t 57), (.t 61), (.c (.int .i64 4))] [4]⟩, ⟨none, .fa 63 (.t 4) 1⟩, ⟨none, .fa 64 (.t 63) 2⟩, ⟨none, .ld 65 (.t 64)⟩, ⟨none, .cv 66 .u64 (.t 65)⟩, ⟨none, .cal 67 f_ref27_high [(.t 62), (.t 66), (.c (.int .i64 4))] []⟩, ⟨none, .mv 3 (.t 67)⟩] [51, 52, 53, 54, 55, 56, 57, 58, 59, 60, 61, 62, 63, 64, 65, 66, 67])
 (.seq (.reg [(4, 7), (4, 11), (8, 11)] [⟨none, .mv 68 (.t 3)⟩, ⟨none, .fa 69 (.t 4) 1⟩, ⟨none, .fa 70 (.t 69) 3⟩, ⟨none, .ld 71 (.t 70)⟩, ⟨none, .cal 72 f_ref27_code [(.t 68), (.t 71)] [4]⟩, ⟨none, .fa 73 (.t 4) 1⟩, ⟨none, .fa 74 (.t 73) 4⟩, ⟨none, .ld 75 (.t 74)⟩, ⟨none, .cal 76 f_ref27_code [(.t 72), (.t 75)] [4]⟩, ⟨none, .fa 77 (.t 4) 1⟩, ⟨none, .fa 78 (.t 77) 5⟩, ⟨none, .ld 79 (.t 78)⟩, ⟨none, .cal 80 f_ref27_code [(.t 76), (.t 79)] []⟩, ⟨none, .mv 2 (.t 80)⟩] [3, 4, 68, 69, 70, 71, 72, 73, 74, 75, 76, 77, 78, 79, 80])
 .ret))
 (.seq (.reg [] [⟨none, .bin 82 .eql (.t 48) (.c (.int .i64 6))⟩, ⟨none, .mv 81 (.t 82)⟩] [82])
 (.cond (.t 81) (.seq (.reg [(4, 7), (5, 7)] [⟨none, .mv 83 (.t 3)⟩, ⟨none, .fa 84 (.t 4) 3⟩, ⟨none, .ld 85 (.t 84)⟩, ⟨none, .cv 86 .u8 (.t 85)⟩, ⟨none, .bsl 87 [(.t 86)]⟩, ⟨none, .app 88 (.t 83) (.t 87)⟩, ⟨none, .fa 89 (.t 4) 4⟩, ⟨none, .ld 90 (.t 89)⟩, ⟨none, .cv 91 .u64 (.t 90)⟩, ⟨none, .cal 92 f_ref27_high [(.t 88), (.t 91), (.c (.int .i64 8))] []⟩, ⟨none, .mv 2 (.t 92)⟩] [3, 4, 83, 84, 85, 86, 87, 88, 89, 90, 91, 92])
 .ret)
 (.seq (.reg [] [⟨none, .bin 94 .eql (.t 48) (.c (.int .i64 7))⟩, ⟨none, .mv 93 (.t 94)⟩] [94])
 (.cond (.t 93) (.seq (.reg [(2, 4)] [⟨none, .mv 95 (.t 3)⟩, ⟨none, .mv 96 (.t 5)⟩, ⟨none, .app 97 (.t 95) (.t 96)⟩, ⟨none, .fa 98 (.t 4) 4⟩, ⟨none, .ld 99 (.t 98)⟩, ⟨none, .cv 100 .u64 (.t 99)⟩, ⟨none, .cal 101 f_ref27_high [(.t 97), (.t 100), (.c (.int .i64 8))] []⟩, ⟨none, .mv 2 (.t 101)⟩] [3, 4, 5, 95, 96, 97, 98, 99, 100, 101])
 .ret)
 (.seq (.reg [] [⟨none, .bin 103 .eql (.t 48) (.c (.int .i64 8))⟩, ⟨none, .mv 102 (.t 103)⟩] [103])
 (.cond (.t 102) (.seq (.reg [(2, 4), (2, 6)] [⟨none, .mv 104 (.t 3)⟩, ⟨none, .mv 105 (.t 5)⟩, ⟨none, .app 106 (.t 104) (.t 105)⟩, ⟨none, .fa 107 (.t 4) 3⟩, ⟨none, .ld 108 (.t 107)⟩, ⟨none, .cv 109 .u8 (.t 108)⟩, ⟨none, .bsl 110 [(.t 109)]⟩, ⟨none, .app 111 (.t 106) (.t 110)⟩, ⟨none, .mv 2 (.t 111)⟩] [3, 4, 5, 104, 105, 106, 107, 108, 109, 110, 111])
 .ret)
 (.seq (.reg [] [⟨none, .bin 113 .eql (.t 48) (.c (.int .i64 9))⟩, ⟨none, .mv 112 (.t 113)⟩] [113])
 (.cond (.t 112) (.seq (.reg [(2, 4)] [⟨none, .mv 114 (.t 3)⟩, ⟨none, .mv 115 (.t 5)⟩, ⟨none, .app 116 (.t 114) (.t 115)⟩, ⟨none, .fa 117 (.t 4) 5⟩, ⟨none, .ld 118 (.t 117)⟩, ⟨none, .cv 119 .u64 (.t 118)⟩, ⟨none, .cal 120 f_ref27_high [(.t 116), (.t 119), (.c (.int .i64 4))] []⟩, ⟨none, .mv 2 (.t 120)⟩] [3, 4, 5, 114, 115, 116, 117, 118, 119, 120])
 .ret)
 (.seq (.reg [] [⟨none, .bin 122 .eql (.t 48) (.c (.int .i64 10))⟩, ⟨none, .mv 121 (.t 122)⟩] [122])
 (.cond (.t 121) (.seq (.reg [(2, 4), (2, 6), (2, 9), (6, 9), (7, 9)] [⟨none, .mv 123 (.t 3)⟩, ⟨none, .mv 124 (.t 5)⟩, ⟨none, .app 125 (.t 123) (.t 124)⟩, ⟨none, .fa 126 (.t 4) 3⟩, ⟨none, .ld 127 (.t 126)⟩, ⟨none, .cv 128 .u8 (.t 127)⟩, ⟨none, .bsl 129 [(.t 128)]⟩, ⟨none, .app 130 (.t 125) (.t 129)⟩, ⟨none, .fa 131 (.t 4) 5⟩, ⟨none, .ld 132 (.t 131)⟩, ⟨none, .cv 133 .u64 (.t 132)⟩, ⟨none, .cal 134 f_ref27_high [(.t 130), (.t 133), (.c (.int .i64 4))] []⟩, ⟨none, .mv 2 (.t 134)⟩] [3, 4, 5, 123, 124, 125, 126, 127, 128, 129, 130, 131, 132, 133, 134])
 .ret)
 (.seq (.reg [] [⟨none, .bin 136 .eql (.t 48) (.c (.int .i64 11))⟩, ⟨none, .mv 135 (.t 136)⟩] [48, 136])
 (.cond (.t 135) (.seq (.reg [] [⟨none, .mv 137 (.t 3)⟩, ⟨none, .mv 138 (.t 5)⟩, ⟨none, .app 139 (.t 137) (.t 138)⟩, ⟨none, .mv 2 (.t 139)⟩] [3, 5, 137, 138, 139])
 .ret)
 .skip))))))))))))))))
 (.seq (.reg [] [⟨none, .mv 140 (.t 3)⟩, ⟨none, .mv 2 (.t 140)⟩] [3, 140])
 .ret))))))), [.t 2], none⟩
/- foliot/foliotref27.high -/
def k_ref27_high_L0b : K := (.seq (.seq (.reg [] [⟨none, .mv 13 (.t 8)⟩, ⟨none, .bin 14 .geq (.t 13) (.c (.int .i64 0))⟩] [13])
 (.cond (.t 14) .skip
 (.ext 0)))
 (.seq (.blk 1 (.seq (.reg [] [⟨none, .mv 17 (.t 7)⟩, ⟨none, .mv 18 (.t 8)⟩, ⟨none, .mv 19 (.t 1)⟩, ⟨none, .bin 20 .rem (.t 19) (.c (.int .u64 256))⟩, ⟨none, .cv 21 .u8 (.t 20)⟩, ⟨none, .ia 22 (.t 17) (.t 18)⟩, ⟨none, .st (.t 22) (.t 21)⟩] [17, 18, 19, 20, 21, 22])
 (.reg [] [⟨none, .mv 23 (.t 1)⟩, ⟨none, .bin 24 .quo (.t 23) (.c (.int .u64 256))⟩, ⟨none, .mv 1 (.t 24)⟩] [23, 24])))
 (.reg [] [⟨none, .mv 15 (.t 8)⟩, ⟨none, .bin 16 .sub (.t 15) (.c (.int .i64 1))⟩, ⟨none, .mv 8 (.t 16)⟩] [15, 16])))
def k_ref27_high_L0 : K := k_ref27_high_L0b
def k_ref27_high : KF := ⟨(.seq (.reg [] [⟨none, .mv 6 (.c (.d (.sl true [])))⟩] [6])
 (.seq (.reg [] [⟨none, .mv 9 (.t 2)⟩, ⟨none, .mks 10 (.int .u8 0) (.t 9) (.t 9)⟩, ⟨none, .mv 7 (.t 10)⟩] [9, 10])
 (.seq (.seq (.reg [] [⟨none, .mv 11 (.t 2)⟩, ⟨none, .bin 12 .sub (.t 11) (.c (.int .i64 1))⟩, ⟨none, .mv 8 (.t 12)⟩] [2, 11, 12])
 (.blk 0 (.loop [0, 1, 7, 8] k_ref27_high_L0)))
 (.seq (.reg [] [⟨none, .mv 25 (.t 0)⟩, ⟨none, .mv 26 (.t 7)⟩, ⟨none, .app 27 (.t 25) (.t 26)⟩, ⟨none, .mv 6 (.t 27)⟩] [0, 7, 25, 26, 27])
 .ret)))), [.t 6], none⟩
/- foliot/foliotref27.code -/
def k_ref27_code_L0b : K := (.seq (.seq (.reg [] [⟨none, .mv 12 (.t 5)⟩, ⟨none, .mv 13 (.t 1)⟩, ⟨none, .len 14 (.t 13)⟩, ⟨none, .bin 15 .lss (.t 12) (.t 14)⟩] [12, 13, 14])
 (.cond (.t 15) .skip
 (.ext 0)))
 (.seq (.blk 1 (.seq (.reg [] [⟨none, .mv 18 (.t 1)⟩, ⟨none, .mv 19 (.t 5)⟩, ⟨none, .ia 20 (.t 18) (.t 19)⟩, ⟨none, .ld 21 (.t 20)⟩, ⟨none, .dat 22 f_ref1_MayInst [(.t 21)]⟩] [18, 19, 20, 21])
 (.cond (.t 22) (.reg [] [⟨none, .mv 23 (.t 0)⟩, ⟨none, .mv 24 (.t 1)⟩, ⟨none, .mv 25 (.t 5)⟩, ⟨none, .ia 26 (.t 24) (.t 25)⟩, ⟨none, .ld 27 (.t 26)⟩, ⟨none, .dat 28 f_ref1_PutInst [(.t 27)]⟩, ⟨none, .app 29 (.t 23) (.t 28)⟩, ⟨none, .mv 0 (.t 29)⟩] [23, 24, 25, 26, 27, 28, 29])
 .skip)))
 (.reg [] [⟨none, .mv 16 (.t 5)⟩, ⟨none, .bin 17 .add (.t 16) (.c (.int .i64 1))⟩, ⟨none, .mv 5 (.t 17)⟩] [16, 17])))
def k_ref27_code_L0 : K := k_ref27_code_L0b
def k_ref27_code : KF := ⟨(.seq (.reg [] [⟨none, .mv 4 (.c (.d (.sl true [])))⟩] [4])
 (.seq (.reg [] [⟨none, .mv 6 (.t 0)⟩, ⟨none, .mv 7 (.t 1)⟩, ⟨none, .len 8 (.t 7)⟩, ⟨none, .cv 9 .u8 (.t 8)⟩, ⟨none, .bsl 10 [(.t 9)]⟩, ⟨none, .app 11 (.t 6) (.t 10)⟩, ⟨none, .mv 0 (.t 11)⟩] [6, 7, 8, 9, 10, 11])
 (.seq (.seq (.reg [] [⟨none, .mv 5 (.c (.int .i64 0))⟩] [])
 (.blk 0 (.loop [0, 1, 5] k_ref27_code_L0)))
 (.seq (.reg [] [⟨none, .mv 30 (.t 0)⟩, ⟨none, .mv 4 (.t 30)⟩] [0, 30])
 .ret)))), [.t 4], none⟩
/- foliot/foliotref1.PutInst -/
def k_ref1_PutInst : KF := ⟨(.seq (.reg [] [⟨none, .box 1 (.t 0)⟩, ⟨none, .mv 2 (.c (.d (.sl true [])))⟩] [0, 2])
 (.seq (.reg [] [⟨none, .fa 4 (.t 1) 3⟩, ⟨none, .ld 5 (.t 4)⟩, ⟨none, .cv 6 .i32 (.t 5)⟩, ⟨none, .cv 7 .u32 (.t 6)⟩, ⟨none, .mv 3 (.t 7)⟩] [4, 5, 6, 7])
 (.seq (.reg [] [⟨none, .fa 8 (.t 1) 0⟩, ⟨none, .ld 9 (.t 8)⟩, ⟨none, .cv 10 .u8 (.t 9)⟩, ⟨none, .fa 11 (.t 1) 1⟩, ⟨none, .ld 12 (.t 11)⟩, ⟨none, .cv 13 .u8 (.t 12)⟩, ⟨none, .fa 14 (.t 1) 2⟩, ⟨none, .ld 15 (.t 14)⟩, ⟨none, .cv 16 .u8 (.t 15)⟩, ⟨none, .mv 17 (.t 3)⟩, ⟨none, .bin 18 .quo (.t 17) (.c (.int .u32 16777216))⟩, ⟨none, .cv 19 .u8 (.t 18)⟩, ⟨none, .mv 20 (.t 3)⟩, ⟨none, .bin 21 .quo (.t 20) (.c (.int .u32 65536))⟩, ⟨none, .cv 22 .u8 (.t 21)⟩, ⟨none, .mv 23 (.t 3)⟩, ⟨none, .bin 24 .quo (.t 23) (.c (.int .u32 256))⟩, ⟨none, .cv 25 .u8 (.t 24)⟩, ⟨none, .mv 26 (.t 3)⟩, ⟨none, .cv 27 .u8 (.t 26)⟩, ⟨none, .bsl 28 [(.t 10), (.t 13), (.t 16), (.t 19), (.t 22), (.t 25), (.t 27)]⟩, ⟨none, .mv 2 (.t 28)⟩] [1, 3, 8, 9, 10, 11, 12, 13, 14, 15, 16, 17, 18, 19, 20, 21, 22, 23, 24, 25, 26, 27, 28])
 .ret))), [.t 2], none⟩
/- foliot/foliotlaw27.PlayBack -/
def k_law27_PlayBack_L0b : K := (.seq (.seq (.reg [] [⟨none, .mv 28 (.t 9)⟩, ⟨none, .mv 29 (.t 10)⟩, ⟨none, .len 30 (.t 29)⟩, ⟨none, .bin 31 .lss (.t 28) (.t 30)⟩] [28, 29, 30])
 (.cond (.t 31) .skip
 (.ext 0)))
 (.seq (.blk 1 (.seq (.reg [] [⟨none, .mv 34 (.t 10)⟩, ⟨none, .mv 35 (.t 9)⟩, ⟨none, .ia 36 (.t 34) (.t 35)⟩, ⟨none, .ld 37 (.t 36)⟩, ⟨none, .bsl 38 [(.t 37)]⟩, ⟨none, .dat 39 f_ref27_Encode [(.t 38)]⟩, ⟨none, .len 40 (.t 39)⟩, ⟨none, .bin 41 .gtr (.t 40) (.c (.int .i64 0))⟩] [34, 35, 36, 37, 38, 39, 40])
 (.cond (.t 41) (.reg [] [⟨none, .mv 42 (.t 8)⟩, ⟨none, .mv 43 (.t 10)⟩, ⟨none, .mv 44 (.t 9)⟩, ⟨none, .ia 45 (.t 43) (.t 44)⟩, ⟨none, .ld 46 (.t 45)⟩, ⟨none, .bsl 47 [(.t 46)]⟩, ⟨none, .app 48 (.t 42) (.t 47)⟩, ⟨none, .mv 8 (.t 48)⟩] [42, 43, 44, 45, 46, 47, 48])
 .skip)))
 (.reg [] [⟨none, .mv 32 (.t 9)⟩, ⟨none, .bin 33 .add (.t 32) (.c (.int .i64 1))⟩, ⟨none, .mv 9 (.t 33)⟩] [32, 33])))
def k_law27_PlayBack_L0 : K := k_law27_PlayBack_L0b
def k_law27_PlayBack : KF := ⟨(.seq (.reg [] [⟨none, .mv 6 (.c (.bool false))⟩] [6])
 (.seq (.seq (.reg [] [⟨none, .dat 13 f_law27_begun []⟩, ⟨none, .un 14 .not (.t 13)⟩] [13])
 (.cond (.t 14) (.seq (.reg [] [⟨none, .mv 6 (.c (.bool false))⟩] [])
 .ret)
 .skip))
 (.seq (.seq (.reg [] [⟨none, .mv 15 (.t 0)⟩, ⟨none, .len 16 (.t 15)⟩, ⟨none, .bin 17 .gtr (.t 16) (.c (.int .i64 200))⟩, ⟨none, .mv 18 (.t 17)⟩, ⟨some (18, false), .mv 19 (.t 1)⟩, ⟨some (18, false), .len 20 (.t 19)⟩, ⟨some (18, false), .bin 21 .gtr (.t 20) (.c (.int .i64 200))⟩, ⟨none, .pick 22 (.t 18) (.c (.bool true)) (.t 21)⟩] [15, 16, 17, 18, 19, 20, 21])
 (.cond (.t 22) (.seq (.reg [] [⟨none, .mv 6 (.c (.bool true))⟩] [])
 .ret)
 .skip))
 (.seq (.reg [] [⟨none, .mv 23 (.t 0)⟩, ⟨none, .daf 24 f_play_Decode [(.t 23)]⟩, ⟨none, .mv 7 (.t 24)⟩] [0, 23, 24])
 (.seq (.reg [] [⟨none, .mv 8 (.c (.d (.sl true [])))⟩] [])
 (.seq (.seq (.reg [] [⟨none, .mv 25 (.t 1)⟩, ⟨none, .cal 26 f_play_Made [(.t 25)] []⟩, ⟨none, .cad 27 f_play_Picks_Steps [(.t 26), (.c (.int .i64 20))] []⟩, ⟨none, .mv 9 (.c (.int .i64 0))⟩, ⟨none, .mv 10 (.t 27)⟩] [1, 25, 26, 27])
 (.blk 0 (.loop [2, 7, 8, 9, 10] k_law27_PlayBack_L0)))
 (.seq (.reg [] [⟨none, .mv 49 (.t 8)⟩, ⟨none, .dat 50 f_play_Encode [(.t 49)]⟩, ⟨none, .mv 11 (.t 50)⟩] [49, 50])
 (.seq (.seq (.reg [] [⟨none, .mv 51 (.t 7)⟩, ⟨none, .dat 52 f_play_Encode [(.t 51)]⟩, ⟨none, .daf 53 f_play_Decode [(.t 52)]⟩, ⟨none, .mv 54 (.t 7)⟩, ⟨none, .dat 55 f_ref27_SameSteps [(.t 53), (.t 54)]⟩, ⟨none, .un 56 .not (.t 55)⟩, ⟨none, .mv 57 (.t 56)⟩, ⟨some (57, false), .mv 58 (.t 11)⟩, ⟨some (57, false), .daf 59 f_play_Decode [(.t 58)]⟩, ⟨some (57, false), .mv 60 (.t 8)⟩, ⟨some (57, false), .dat 61 f_ref27_SameSteps [(.t 59), (.t 60)]⟩, ⟨some (57, false), .un 62 .not (.t 61)⟩, ⟨none, .pick 63 (.t 57) (.c (.bool true)) (.t 62)⟩] [7, 51, 52, 53, 54, 55, 56, 57, 58, 59, 60, 61, 62])
 (.cond (.t 63) (.seq (.reg [] [⟨none, .mv 6 (.c (.bool false))⟩] [])
 .ret)
 .skip))
 (.seq (.seq (.reg [] [⟨none, .mv 64 (.t 11)⟩, ⟨none, .len 65 (.t 64)⟩, ⟨none, .bin 66 .eql (.t 65) (.c (.int .i64 0))⟩] [64, 65])
 (.cond (.t 66) (.seq (.reg [] [⟨none, .mv 67 (.t 8)⟩, ⟨none, .len 68 (.t 67)⟩, ⟨none, .bin 69 .eql (.t 68) (.c (.int .i64 0))⟩, ⟨none, .mv 6 (.t 69)⟩] [8, 67, 68, 69])
 .ret)
 .skip))
 (.seq (.reg [] [⟨none, .mv 70 (.t 11)⟩, ⟨none, .mv 71 (.t 2)⟩, ⟨none, .cv 72 .i64 (.t 71)⟩, ⟨none, .mv 73 (.t 11)⟩, ⟨none, .len 74 (.t 73)⟩, ⟨none, .bin 75 .rem (.t 72) (.t 74)⟩, ⟨none, .slc 76 (.t 70) none (some (.t 75))⟩, ⟨none, .daf 77 f_play_Decode [(.t 76)]⟩, ⟨none, .mv 12 (.t 77)⟩] [2, 11, 70, 71, 72, 73, 74, 75, 76, 77])
 (.seq (.reg [] [⟨none, .mv 78 (.t 12)⟩, ⟨none, .len 79 (.t 78)⟩, ⟨none, .mv 80 (.t 8)⟩, ⟨none, .len 81 (.t 80)⟩, ⟨none, .bin 82 .lss (.t 79) (.t 81)⟩, ⟨none, .mv 83 (.t 82)⟩, ⟨some (83, true), .mv 84 (.t 12)⟩, ⟨some (83, true), .mv 85 (.t 8)⟩, ⟨some (83, true), .mv 86 (.t 12)⟩, ⟨some (83, true), .len 87 (.t 86)⟩, ⟨some (83, true), .slc 88 (.t 85) none (some (.t 87))⟩, ⟨some (83, true), .dat 89 f_ref27_SameSteps [(.t 84), (.t 88)]⟩, ⟨none, .pick 90 (.t 83) (.t 89) (.c (.bool false))⟩, ⟨none, .mv 6 (.t 90)⟩] [8, 12, 78, 79, 80, 81, 82, 83, 84, 85, 86, 87, 88, 89, 90])
 .ret))))))))))), [.t 6], none⟩
/- foliot/foliotlaw27.PlayOne -/
def k_law27_PlayOne : KF := ⟨(.seq (.reg [] [⟨none, .mv 24 (.c (.bool false))⟩] [24])
 (.seq (.seq (.reg [] [⟨none, .dat 32 f_law27_begun []⟩, ⟨none, .un 33 .not (.t 32)⟩] [32])
 (.cond (.t 33) (.seq (.reg [] [⟨none, .mv 24 (.c (.bool false))⟩] [])
 .ret)
 .skip))
 (.seq (.seq (.reg [] [⟨none, .mv 34 (.t 11)⟩, ⟨none, .len 35 (.t 34)⟩, ⟨none, .bin 36 .gtr (.t 35) (.c (.int .i64 60))⟩] [34, 35])
 (.cond (.t 36) (.seq (.reg [] [⟨none, .mv 24 (.c (.bool true))⟩] [])
 .ret)
 .skip))
 (.seq (.reg [] [⟨none, .mv 37 (.t 0)⟩, ⟨none, .bin 38 .rem (.t 37) (.c (.int .u8 5))⟩, ⟨none, .cv 39 .i64 (.t 38)⟩, ⟨none, .bin 40 .add (.c (.int .i64 1)) (.t 39)⟩, ⟨none, .bld 41 [(.t 40), (.c (.d (.agg [(.int .i64 0), (.agg [(.int .i64 0), (.int .i64 0), (.int .i64 0), (.sl true []), (.sl true []), (.sl true [])]), (.agg [(.int .i64 0), (.int .i64 0)]), (.int .i64 0), (.int .i64 0), (.int .u32 0)]))), (.c (.int .i64 0)), (.c (.int .i64 0))]⟩, ⟨none, .alc 25 (.d (.agg [(.int .i64 0), (.agg [(.int .i64 0), (.agg [(.int .i64 0), (.int .i64 0), (.int .i64 0), (.sl true []), (.sl true []), (.sl true [])]), (.agg [(.int .i64 0), (.int .i64 0)]), (.int .i64 0), (.int .i64 0), (.int .u32 0)]), (.int .i64 0), (.int .i64 0)]))⟩, ⟨none, .st (.t 25) (.t 41)⟩] [0, 37, 38, 39, 40, 41])
 (.seq (.reg [] [⟨none, .mv 26 (.c (.int .i64 1))⟩] [])
 (.seq (.seq (.reg [] [⟨none, .fa 42 (.t 25) 0⟩, ⟨none, .ld 43 (.t 42)⟩] [42])
 (.blk 0 (.seq (.reg [] [⟨none, .bin 45 .eql (.t 43) (.c (.int .i64 4))⟩, ⟨none, .mv 44 (.t 45)⟩] [45])
 (.cond (.t 44) (.reg [] [⟨none, .mv 46 (.t 2)⟩, ⟨none, .cv 47 .i64 (.t 46)⟩, ⟨none, .fa 48 (.t 25) 2⟩, ⟨none, .st (.t 48) (.t 47)⟩, ⟨none, .mv 26 (.c (.int .i64 2))⟩] [2, 46, 47, 48])
 (.seq (.reg [] [⟨none, .bin 50 .eql (.t 43) (.c (.int .i64 5))⟩, ⟨none, .mv 49 (.t 50)⟩] [50])
 (.cond (.t 49) (.reg [] [⟨none, .mv 51 (.t 5)⟩, ⟨none, .cv 52 .i64 (.t 51)⟩, ⟨none, .fa 53 (.t 25) 3⟩, ⟨none, .st (.t 53) (.t 52)⟩, ⟨none, .mv 26 (.c (.int .i64 3))⟩] [5, 51, 52, 53])
 (.seq (.reg [] [⟨none, .bin 55 .eql (.t 43) (.c (.int .i64 1))⟩, ⟨none, .mv 54 (.t 55)⟩] [43, 55])
 (.cond (.t 54) (.seq (.reg [] [⟨none, .mv 56 (.t 1)⟩, ⟨none, .bin 57 .rem (.t 56) (.c (.int .u8 11))⟩, ⟨none, .cv 58 .i64 (.t 57)⟩, ⟨none, .bin 59 .add (.c (.int .i64 1)) (.t 58)⟩, ⟨none, .bld 60 [(.t 59), (.c (.d (.agg [(.int .i64 0), (.int .i64 0), (.int .i64 0), (.sl true []), (.sl true []), (.sl true [])]))), (.c (.d (.agg [(.int .i64 0), (.int .i64 0)]))), (.c (.int .i64 0)), (.c (.int .i64 0)), (.c (.int .u32 0))]⟩, ⟨none, .alc 27 (.d (.agg [(.int .i64 0), (.agg [(.int .i64 0), (.int .i64 0), (.int .i64 0), (.sl true []), (.sl true []), (.sl true [])]), (.agg [(.int .i64 0), (.int .i64 0)]), (.int .i64 0), (.int .i64 0), (.int .u32 0)]))⟩, ⟨none, .st (.t 27) (.t 60)⟩] [1, 56, 57, 58, 59, 60])
 (.seq (.reg [] [⟨none, .mv 61 (.t 3)⟩, ⟨none, .cv 62 .i64 (.t 61)⟩, ⟨none, .mv 63 (.t 4)⟩, ⟨none, .cv 64 .i64 (.t 63)⟩, ⟨none, .bld 65 [(.t 62), (.t 64)]⟩, ⟨none, .alc 28 (.d (.agg [(.int .i64 0), (.int .i64 0)]))⟩, ⟨none, .st (.t 28) (.t 65)⟩] [3, 4, 61, 62, 63, 64, 65])
 (.seq (.reg [] [⟨none, .mv 26 (.c (.int .i64 2))⟩] [])
 (.seq (.seq (.reg [] [⟨none, .fa 66 (.t 27) 0⟩, ⟨none, .ld 67 (.t 66)⟩] [66])
 (.blk 1 (.seq (.reg [] [⟨none, .bin 69 .eql (.t 67) (.c (.int .i64 1))⟩, ⟨none, .mv 68 (.t 69)⟩] [69])
 (.cond (.t 68) (.seq (.reg [] [⟨none, .mv 70 (.t 11)⟩, ⟨none, .cal 71 f_play_Made [(.t 70)] []⟩, ⟨none, .cal 72 f_play_Picks_Wild [(.t 71)] []⟩, ⟨none, .mv 29 (.t 72)⟩] [11, 70, 71, 72])
 (.reg [] [⟨none, .mv 73 (.t 8)⟩, ⟨none, .cv 74 .i64 (.t 73)⟩, ⟨none, .mv 75 (.t 9)⟩, ⟨none, .cv 76 .i64 (.t 75)⟩, ⟨none, .mv 77 (.t 10)⟩, ⟨none, .cv 78 .i64 (.t 77)⟩, ⟨none, .mv 79 (.t 29)⟩, ⟨none, .bld 80 [(.t 74), (.t 76), (.t 78), (.t 79), (.c (.d (.sl true []))), (.c (.d (.sl true [])))]⟩, ⟨none, .mv 81 (.t 29)⟩, ⟨none, .len 82 (.t 81)⟩, ⟨none, .bin 83 .mul (.c (.int .i64 7)) (.t 82)⟩, ⟨none, .bin 84 .add (.c (.int .i64 14)) (.t 83)⟩, ⟨none, .fa 85 (.t 27) 1⟩, ⟨none, .st (.t 85) (.t 80)⟩, ⟨none, .mv 26 (.t 84)⟩] [8, 9, 10, 29, 73, 74, 75, 76, 77, 78, 79, 80, 81, 82, 83, 84, 85]))
 (.seq (.reg [] [⟨none, .bin 87 .eql (.t 67) (.c (.int .i64 6))⟩, ⟨none, .mv 86 (.t 87)⟩] [87])
 (.cond (.t 86) (.reg [] [⟨none, .mv 88 (.t 2)⟩, ⟨none, .cv 89 .i64 (.t 88)⟩, ⟨none, .mv 90 (.t 6)⟩, ⟨none, .fa 91 (.t 27) 3⟩, ⟨none, .st (.t 91) (.t 89)⟩, ⟨none, .fa 92 (.t 27) 4⟩, ⟨none, .st (.t 92) (.t 90)⟩, ⟨none, .mv 26 (.c (.int .i64 11))⟩] [2, 6, 88, 89, 90, 91, 92])
 (.seq (.reg [] [⟨none, .bin 94 .eql (.t 67) (.c (.int .i64 7))⟩, ⟨none, .mv 93 (.t 94)⟩] [94])
 (.cond (.t 93) (.reg [] [⟨none, .ld 95 (.t 28)⟩, ⟨none, .mv 96 (.t 6)⟩, ⟨none, .fa 97 (.t 27) 2⟩, ⟨none, .st (.t 97) (.t 95)⟩, ⟨none, .fa 98 (.t 27) 4⟩, ⟨none, .st (.t 98) (.t 96)⟩, ⟨none, .mv 26 (.c (.int .i64 12))⟩] [6, 28, 95, 96, 97, 98])
 (.seq (.reg [] [⟨none, .bin 100 .eql (.t 67) (.c (.int .i64 8))⟩, ⟨none, .mv 99 (.t 100)⟩] [100])
 (.cond (.t 99) (.reg [] [⟨none, .ld 101 (.t 28)⟩, ⟨none, .mv 102 (.t 2)⟩, ⟨none, .cv 103 .i64 (.t 102)⟩, ⟨none, .fa 104 (.t 27) 2⟩, ⟨none, .st (.t 104) (.t 101)⟩, ⟨none, .fa 105 (.t 27) 3⟩, ⟨none, .st (.t 105) (.t 103)⟩, ⟨none, .mv 26 (.c (.int .i64 5))⟩] [2, 28, 101, 102, 103, 104, 105])
 (.seq (.reg [] [⟨none, .bin 107 .eql (.t 67) (.c (.int .i64 9))⟩, ⟨none, .mv 106 (.t 107)⟩] [107])
 (.cond (.t 106) (.reg [] [⟨none, .ld 108 (.t 28)⟩, ⟨none, .mv 109 (.t 7)⟩, ⟨none, .fa 110 (.t 27) 2⟩, ⟨none, .st (.t 110) (.t 108)⟩, ⟨none, .fa 111 (.t 27) 5⟩, ⟨none, .st (.t 111) (.t 109)⟩, ⟨none, .mv 26 (.c (.int .i64 8))⟩] [7, 28, 108, 109, 110, 111])
 (.seq (.reg [] [⟨none, .bin 113 .eql (.t 67) (.c (.int .i64 10))⟩, ⟨none, .mv 112 (.t 113)⟩] [113])
 (.cond (.t 112) (.reg [] [⟨none, .ld 114 (.t 28)⟩, ⟨none, .mv 115 (.t 2)⟩, ⟨none, .cv 116 .i64 (.t 115)⟩, ⟨none, .mv 117 (.t 7)⟩, ⟨none, .fa 118 (.t 27) 2⟩, ⟨none, .st (.t 118) (.t 114)⟩, ⟨none, .fa 119 (.t 27) 3⟩, ⟨none, .st (.t 119) (.t 116)⟩, ⟨none, .fa 120 (.t 27) 5⟩, ⟨none, .st (.t 120) (.t 117)⟩, ⟨none, .mv 26 (.c (.int .i64 9))⟩] [2, 7, 28, 114, 115, 116, 117, 118, 119, 120])
 (.seq (.reg [] [⟨none, .bin 122 .eql (.t 67) (.c (.int .i64 11))⟩, ⟨none, .mv 121 (.t 122)⟩] [67, 122])
 (.cond (.t 121) (.reg [] [⟨none, .ld 123 (.t 28)⟩, ⟨none, .fa 124 (.t 27) 2⟩, ⟨none, .st (.t 124) (.t 123)⟩, ⟨none, .mv 26 (.c (.int .i64 4))⟩] [28, 123, 124])
 .skip))))))))))))))))
 (.reg [] [⟨none, .ld 125 (.t 27)⟩, ⟨none, .fa 126 (.t 25) 1⟩, ⟨none, .st (.t 126) (.t 125)⟩] [27, 125, 126])))))
 .skip))))))))
 (.seq (.reg [] [⟨none, .ld 127 (.t 25)⟩, ⟨none, .bsl 128 [(.t 127)]⟩, ⟨none, .dat 129 f_play_Encode [(.t 128)]⟩, ⟨none, .mv 30 (.t 129)⟩] [127, 128, 129])
 (.seq (.reg [] [⟨none, .mv 130 (.t 30)⟩, ⟨none, .daf 131 f_play_Decode [(.t 130)]⟩, ⟨none, .mv 31 (.t 131)⟩] [130, 131])
 (.seq (.reg [] [⟨none, .mv 132 (.t 30)⟩, ⟨none, .len 133 (.t 132)⟩, ⟨none, .mv 134 (.t 26)⟩, ⟨none, .bin 135 .eql (.t 133) (.t 134)⟩, ⟨none, .mv 136 (.t 135)⟩, ⟨some (136, true), .mv 137 (.t 31)⟩, ⟨some (136, true), .len 138 (.t 137)⟩, ⟨some (136, true), .bin 139 .eql (.t 138) (.c (.int .i64 1))⟩, ⟨none, .pick 140 (.t 136) (.t 139) (.c (.bool false))⟩, ⟨none, .mv 141 (.t 140)⟩, ⟨some (141, true), .mv 142 (.t 31)⟩, ⟨some (141, true), .ia 143 (.t 142) (.c (.int .i64 0))⟩, ⟨some (141, true), .ld 144 (.t 143)⟩, ⟨some (141, true), .ld 145 (.t 25)⟩, ⟨some (141, true), .dat 146 f_ref27_SameStep [(.t 144), (.t 145)]⟩, ⟨none, .pick 147 (.t 141) (.t 146) (.c (.bool false))⟩, ⟨none, .mv 24 (.t 147)⟩] [25, 26, 30, 31, 132, 133, 134, 135, 136, 137, 138, 139, 140, 141, 142, 143, 144, 145, 146, 147])
 .ret))))))))), [.t 24], none⟩
/- (*foliot/foliotplay.Picks).Wild -/
def k_play_Picks_Wild_L0b : K := (.seq (.seq (.reg [] [⟨none, .mv 8 (.t 4)⟩, ⟨none, .bin 9 .gtr (.t 8) (.c (.int .i64 0))⟩] [8])
 (.cond (.t 9) .skip
 (.ext 0)))
 (.seq (.blk 1 (.seq (.reg [] [⟨none, .mv 12 (.t 0)⟩, ⟨none, .cal 13 f_play_Picks_plain [(.t 12)] []⟩, ⟨none, .alc 5 (.d (.agg [(.int .i64 0), (.int .i64 0), (.int .i64 0), (.int .i64 0)]))⟩, ⟨none, .st (.t 5) (.t 13)⟩] [12, 13])
 (.seq (.seq (.reg [] [⟨none, .mv 14 (.t 0)⟩, ⟨none, .cal 15 f_play_Picks_Num [(.t 14), (.c (.int .i64 9))] []⟩] [14])
 (.blk 2 (.seq (.reg [] [⟨none, .bin 17 .eql (.t 15) (.c (.int .i64 0))⟩, ⟨none, .mv 16 (.t 17)⟩] [17])
 (.cond (.t 16) (.reg [] [⟨none, .mv 18 (.t 0)⟩, ⟨none, .cal 19 f_play_Picks_Num [(.t 18), (.c (.int .i64 3))] []⟩, ⟨none, .mv 20 (.t 0)⟩, ⟨none, .cal 21 f_play_Picks_Num [(.t 20), (.c (.int .i64 5))] []⟩, ⟨none, .bin 22 .add (.c (.int .i64 1)) (.t 21)⟩, ⟨none, .bld 23 [(.c (.int .i64 7)), (.t 19), (.c (.int .i64 0)), (.t 22)]⟩, ⟨none, .st (.t 5) (.t 23)⟩] [18, 19, 20, 21, 22, 23])
 (.seq (.reg [] [⟨none, .bin 25 .eql (.t 15) (.c (.int .i64 1))⟩, ⟨none, .mv 24 (.t 25)⟩] [25])
 (.cond (.t 24) (.reg [] [⟨none, .mv 26 (.t 0)⟩, ⟨none, .cal 27 f_play_Picks_Num [(.t 26), (.c (.int .i64 5))] []⟩, ⟨none, .bin 28 .add (.c (.int .i64 1)) (.t 27)⟩, ⟨none, .mv 29 (.t 0)⟩, ⟨none, .cal 30 f_play_Picks_Num [(.t 29), (.c (.int .i64 3))] []⟩, ⟨none, .bin 31 .add (.c (.int .i64 1)) (.t 30)⟩, ⟨none, .bld 32 [(.c (.int .i64 8)), (.c (.int .i64 0)), (.t 28), (.t 31)]⟩, ⟨none, .st (.t 5) (.t 32)⟩] [26, 27, 28, 29, 30, 31, 32])
 (.seq (.seq (.reg [] [⟨none, .bin 34 .eql (.t 15) (.c (.int .i64 2))⟩, ⟨none, .mv 33 (.t 34)⟩] [34])
 (.cond (.t 33) .skip
 (.reg [] [⟨none, .bin 35 .eql (.t 15) (.c (.int .i64 3))⟩, ⟨none, .mv 33 (.t 35)⟩] [35])))
 (.cond (.t 33) (.reg [] [⟨none, .mv 36 (.t 0)⟩, ⟨none, .cal 37 f_play_Picks_Num [(.t 36), (.c (.int .i64 2))] []⟩, ⟨none, .bld 38 [(.c (.int .i64 9)), (.t 37), (.c (.int .i64 0)), (.c (.int .i64 0))]⟩, ⟨none, .st (.t 5) (.t 38)⟩] [36, 37, 38])
 (.seq (.seq (.reg [] [⟨none, .bin 40 .eql (.t 15) (.c (.int .i64 4))⟩, ⟨none, .mv 39 (.t 40)⟩] [40])
 (.cond (.t 39) .skip
 (.reg [] [⟨none, .bin 41 .eql (.t 15) (.c (.int .i64 5))⟩, ⟨none, .mv 39 (.t 41)⟩] [41])))
 (.cond (.t 39) (.reg [] [⟨none, .mv 42 (.t 0)⟩, ⟨none, .cal 43 f_play_Picks_Num [(.t 42), (.c (.int .i64 2))] []⟩, ⟨none, .bld 44 [(.c (.int .i64 10)), (.t 43), (.c (.int .i64 0)), (.c (.int .i64 0))]⟩, ⟨none, .st (.t 5) (.t 44)⟩] [42, 43, 44])
 (.seq (.reg [] [⟨none, .bin 46 .eql (.t 15) (.c (.int .i64 6))⟩, ⟨none, .mv 45 (.t 46)⟩] [15, 46])
 (.cond (.t 45) (.reg [] [⟨none, .bld 47 [(.c (.int .i64 11)), (.c (.int .i64 0)), (.c (.int .i64 0)), (.c (.int .i64 0))]⟩, ⟨none, .st (.t 5) (.t 47)⟩] [47])
 .skip))))))))))))
 (.reg [] [⟨none, .mv 48 (.t 3)⟩, ⟨none, .ld 49 (.t 5)⟩, ⟨none, .bsl 50 [(.t 49)]⟩, ⟨none, .app 51 (.t 48) (.t 50)⟩, ⟨none, .mv 3 (.t 51)⟩] [5, 48, 49, 50, 51]))))
 (.reg [] [⟨none, .mv 10 (.t 4)⟩, ⟨none, .bin 11 .sub (.t 10) (.c (.int .i64 1))⟩, ⟨none, .mv 4 (.t 11)⟩] [10, 11])))
def k_play_Picks_Wild_L0 : K := k_play_Picks_Wild_L0b
def k_play_Picks_Wild : KF := ⟨(.seq (.reg [] [⟨none, .mv 2 (.c (.d (.sl true [])))⟩] [2])
 (.seq (.reg [] [⟨none, .mv 3 (.c (.d (.sl true [])))⟩] [])
 (.seq (.seq (.reg [] [⟨none, .mv 6 (.t 0)⟩, ⟨none, .cal 7 f_play_Picks_Num [(.t 6), (.c (.int .i64 12))] []⟩, ⟨none, .mv 4 (.t 7)⟩] [6, 7])
 (.blk 0 (.loop [0, 3, 4] k_play_Picks_Wild_L0)))
 (.seq (.reg [] [⟨none, .mv 52 (.t 3)⟩, ⟨none, .bld 53 [(.c (.int .i64 0)), (.c (.int .i64 0)), (.c (.int .i64 0)), (.c (.int .i64 0))]⟩, ⟨none, .bsl 54 [(.t 53)]⟩, ⟨none, .app 55 (.t 52) (.t 54)⟩, ⟨none, .mv 2 (.t 55)⟩] [3, 52, 53, 54, 55])
 .ret)))), [.t 2], none⟩
def kl : List (Nat × KF) := [(3, k_law27_PlayBytes), (9, k_law27_begun), (14, k_play_Decode), (23, k_play_reader_one), (24, k_play_reader_num), (37, k_play_reader_take), (25, k_play_reader_call), (38, k_play_reader_program), (42, k_slices_Concat_byte_byte), (52, k_slices_Grow_byte_byte), (50, k_code_Take), (58, k_code_inst), (53, k_code_Put), (60, k_code_May), (62, k_code_memory), (63, k_code_within), (59, k_bytes_Equal), (39, k_play_reader_handle), (16, k_play_Encode), (28, k_play_num), (29, k_play_call), (43, k_play_program), (44, k_play_handle), (30, k_play_same), (45, k_play_task), (54, k_slices_Equal_api_Inst_api_Inst), (10, k_law27_light), (11, k_play_Made), (12, k_play_Picks_Steps), (20, k_play_Picks_Begin), (32, k_play_Picks_Num), (35, k_play_Call), (36, k_play_Picks_Task), (49, k_play_Picks_Code), (57, k_play_Picks_some), (33, k_play_Picks_plain), (21, k_play_Picks_Over), (22, k_play_Picks_Step), (15, k_ref27_Decode), (26, k_ref27_reader_num), (27, k_ref27_call), (40, k_ref27_reader_code), (51, k_ref1_TakeInst), (55, k_ref1_MayInst), (61, k_ref1_places_has), (41, k_ref27_reader_handle), (13, k_ref27_SameSteps), (19, k_ref27_SameStep), (34, k_ref15_SameTask), (48, k_ref1_SameCode), (17, k_ref27_Encode), (31, k_ref27_put), (46, k_ref27_high), (47, k_ref27_code), (56, k_ref1_PutInst), (4, k_law27_PlayBack), (7, k_law27_PlayOne), (18, k_play_Picks_Wild)]
def kp : Nat → Option KF := fun n => List.lookup n kl
theorem kp_law27_PlayBytes : kp f_law27_PlayBytes = some k_law27_PlayBytes := rfl
theorem kp_law27_begun : kp f_law27_begun = some k_law27_begun := rfl
theorem kp_play_Decode : kp f_play_Decode = some k_play_Decode := rfl
theorem kp_play_reader_one : kp f_play_reader_one = some k_play_reader_one := rfl
theorem kp_play_reader_num : kp f_play_reader_num = some k_play_reader_num := rfl
theorem kp_play_reader_take : kp f_play_reader_take = some k_play_reader_take := rfl
theorem kp_play_reader_call : kp f_play_reader_call = some k_play_reader_call := rfl
theorem kp_play_reader_program : kp f_play_reader_program = some k_play_reader_program := rfl
theorem kp_slices_Concat_byte_byte : kp f_slices_Concat_byte_byte = some k_slices_Concat_byte_byte := rfl
theorem kp_slices_Grow_byte_byte : kp f_slices_Grow_byte_byte = some k_slices_Grow_byte_byte := rfl
theorem kp_code_Take : kp f_code_Take = some k_code_Take := rfl
theorem kp_code_inst : kp f_code_inst = some k_code_inst := rfl
theorem kp_code_Put : kp f_code_Put = some k_code_Put := rfl
theorem kp_code_May : kp f_code_May = some k_code_May := rfl
theorem kp_code_memory : kp f_code_memory = some k_code_memory := rfl
theorem kp_code_within : kp f_code_within = some k_code_within := rfl
theorem kp_bytes_Equal : kp f_bytes_Equal = some k_bytes_Equal := rfl
theorem kp_play_reader_handle : kp f_play_reader_handle = some k_play_reader_handle := rfl
theorem kp_play_Encode : kp f_play_Encode = some k_play_Encode := rfl
theorem kp_play_num : kp f_play_num = some k_play_num := rfl
theorem kp_play_call : kp f_play_call = some k_play_call := rfl
theorem kp_play_program : kp f_play_program = some k_play_program := rfl
theorem kp_play_handle : kp f_play_handle = some k_play_handle := rfl
theorem kp_play_same : kp f_play_same = some k_play_same := rfl
theorem kp_play_task : kp f_play_task = some k_play_task := rfl
theorem kp_slices_Equal_api_Inst_api_Inst : kp f_slices_Equal_api_Inst_api_Inst = some k_slices_Equal_api_Inst_api_Inst := rfl
theorem kp_law27_light : kp f_law27_light = some k_law27_light := rfl
theorem kp_play_Made : kp f_play_Made = some k_play_Made := rfl
theorem kp_play_Picks_Steps : kp f_play_Picks_Steps = some k_play_Picks_Steps := rfl
theorem kp_play_Picks_Begin : kp f_play_Picks_Begin = some k_play_Picks_Begin := rfl
theorem kp_play_Picks_Num : kp f_play_Picks_Num = some k_play_Picks_Num := rfl
theorem kp_play_Call : kp f_play_Call = some k_play_Call := rfl
theorem kp_play_Picks_Task : kp f_play_Picks_Task = some k_play_Picks_Task := rfl
theorem kp_play_Picks_Code : kp f_play_Picks_Code = some k_play_Picks_Code := rfl
theorem kp_play_Picks_some : kp f_play_Picks_some = some k_play_Picks_some := rfl
theorem kp_play_Picks_plain : kp f_play_Picks_plain = some k_play_Picks_plain := rfl
theorem kp_play_Picks_Over : kp f_play_Picks_Over = some k_play_Picks_Over := rfl
theorem kp_play_Picks_Step : kp f_play_Picks_Step = some k_play_Picks_Step := rfl
theorem kp_ref27_Decode : kp f_ref27_Decode = some k_ref27_Decode := rfl
theorem kp_ref27_reader_num : kp f_ref27_reader_num = some k_ref27_reader_num := rfl
theorem kp_ref27_call : kp f_ref27_call = some k_ref27_call := rfl
theorem kp_ref27_reader_code : kp f_ref27_reader_code = some k_ref27_reader_code := rfl
theorem kp_ref1_TakeInst : kp f_ref1_TakeInst = some k_ref1_TakeInst := rfl
theorem kp_ref1_MayInst : kp f_ref1_MayInst = some k_ref1_MayInst := rfl
theorem kp_ref1_places_has : kp f_ref1_places_has = some k_ref1_places_has := rfl
theorem kp_ref27_reader_handle : kp f_ref27_reader_handle = some k_ref27_reader_handle := rfl
theorem kp_ref27_SameSteps : kp f_ref27_SameSteps = some k_ref27_SameSteps := rfl
theorem kp_ref27_SameStep : kp f_ref27_SameStep = some k_ref27_SameStep := rfl
theorem kp_ref15_SameTask : kp f_ref15_SameTask = some k_ref15_SameTask := rfl
theorem kp_ref1_SameCode : kp f_ref1_SameCode = some k_ref1_SameCode := rfl
theorem kp_ref27_Encode : kp f_ref27_Encode = some k_ref27_Encode := rfl
theorem kp_ref27_put : kp f_ref27_put = some k_ref27_put := rfl
theorem kp_ref27_high : kp f_ref27_high = some k_ref27_high := rfl
theorem kp_ref27_code : kp f_ref27_code = some k_ref27_code := rfl
theorem kp_ref1_PutInst : kp f_ref1_PutInst = some k_ref1_PutInst := rfl
theorem kp_law27_PlayBack : kp f_law27_PlayBack = some k_law27_PlayBack := rfl
theorem kp_law27_PlayOne : kp f_law27_PlayOne = some k_law27_PlayOne := rfl
theorem kp_play_Picks_Wild : kp f_play_Picks_Wild = some k_play_Picks_Wild := rfl
def natl : List (Nat × NK) := []
theorem c_play_Decode_L0 (s : St) : run kp (.code k_play_Decode_L0 s) = run kp (.code k_play_Decode_L0b s) := rfl
theorem c_play_reader_num_L0 (s : St) : run kp (.code k_play_reader_num_L0 s) = run kp (.code k_play_reader_num_L0b s) := rfl
theorem c_play_reader_program_L0 (s : St) : run kp (.code k_play_reader_program_L0 s) = run kp (.code k_play_reader_program_L0b s) := rfl
theorem c_slices_Concat_byte_byte_L0 (s : St) : run kp (.code k_slices_Concat_byte_byte_L0 s) = run kp (.code k_slices_Concat_byte_byte_L0b s) := rfl
theorem c_slices_Concat_byte_byte_L1 (s : St) : run kp (.code k_slices_Concat_byte_byte_L1 s) = run kp (.code k_slices_Concat_byte_byte_L1b s) := rfl
theorem c_code_Take_L0 (s : St) : run kp (.code k_code_Take_L0 s) = run kp (.code k_code_Take_L0b s) := rfl
theorem c_code_inst_L0 (s : St) : run kp (.code k_code_inst_L0 s) = run kp (.code k_code_inst_L0b s) := rfl
theorem c_code_Put_L0 (s : St) : run kp (.code k_code_Put_L0 s) = run kp (.code k_code_Put_L0b s) := rfl
theorem c_play_Encode_L0 (s : St) : run kp (.code k_play_Encode_L0 s) = run kp (.code k_play_Encode_L0b s) := rfl
theorem c_play_num_L0 (s : St) : run kp (.code k_play_num_L0 s) = run kp (.code k_play_num_L0b s) := rfl
theorem c_play_program_L0 (s : St) : run kp (.code k_play_program_L0 s) = run kp (.code k_play_program_L0b s) := rfl
theorem c_slices_Equal_api_Inst_api_Inst_L0 (s : St) : run kp (.code k_slices_Equal_api_Inst_api_Inst_L0 s) = run kp (.code k_slices_Equal_api_Inst_api_Inst_L0b s) := rfl
theorem c_law27_light_L0 (s : St) : run kp (.code k_law27_light_L0 s) = run kp (.code k_law27_light_L0b s) := rfl
theorem c_play_Picks_Steps_L0 (s : St) : run kp (.code k_play_Picks_Steps_L0 s) = run kp (.code k_play_Picks_Steps_L0b s) := rfl
theorem c_play_Picks_Begin_L0 (s : St) : run kp (.code k_play_Picks_Begin_L0 s) = run kp (.code k_play_Picks_Begin_L0b s) := rfl
theorem c_play_Picks_Begin_L1 (s : St) : run kp (.code k_play_Picks_Begin_L1 s) = run kp (.code k_play_Picks_Begin_L1b s) := rfl
theorem c_play_Picks_Code_L0 (s : St) : run kp (.code k_play_Picks_Code_L0 s) = run kp (.code k_play_Picks_Code_L0b s) := rfl
theorem c_play_Picks_some_L0 (s : St) : run kp (.code k_play_Picks_some_L0 s) = run kp (.code k_play_Picks_some_L0b s) := rfl
theorem c_ref27_Decode_L0 (s : St) : run kp (.code k_ref27_Decode_L0 s) = run kp (.code k_ref27_Decode_L0b s) := rfl
theorem c_ref27_reader_num_L0 (s : St) : run kp (.code k_ref27_reader_num_L0 s) = run kp (.code k_ref27_reader_num_L0b s) := rfl
theorem c_ref27_reader_code_L0 (s : St) : run kp (.code k_ref27_reader_code_L0 s) = run kp (.code k_ref27_reader_code_L0b s) := rfl
theorem c_ref27_SameSteps_L0 (s : St) : run kp (.code k_ref27_SameSteps_L0 s) = run kp (.code k_ref27_SameSteps_L0b s) := rfl
theorem c_ref1_SameCode_L0 (s : St) : run kp (.code k_ref1_SameCode_L0 s) = run kp (.code k_ref1_SameCode_L0b s) := rfl
theorem c_ref27_Encode_L0 (s : St) : run kp (.code k_ref27_Encode_L0 s) = run kp (.code k_ref27_Encode_L0b s) := rfl
theorem c_ref27_high_L0 (s : St) : run kp (.code k_ref27_high_L0 s) = run kp (.code k_ref27_high_L0b s) := rfl
theorem c_ref27_code_L0 (s : St) : run kp (.code k_ref27_code_L0 s) = run kp (.code k_ref27_code_L0b s) := rfl
theorem c_law27_PlayBack_L0 (s : St) : run kp (.code k_law27_PlayBack_L0 s) = run kp (.code k_law27_PlayBack_L0b s) := rfl
theorem c_play_Picks_Wild_L0 (s : St) : run kp (.code k_play_Picks_Wild_L0 s) = run kp (.code k_play_Picks_Wild_L0b s) := rfl
end Go.Cd
