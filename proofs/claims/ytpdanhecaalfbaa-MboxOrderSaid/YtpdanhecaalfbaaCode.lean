/- The code of the functions, as the evaluator reads it; printed by a program of this session. No conditions. -/
import Derived.Test.YtpdanhecaalfbaaFwA
set_option linter.unusedVariables false
set_option linter.unusedSimpArgs false
namespace Go.Cd
open Go.Fw
def f_law23_WatchAll : Nat := 3
def f_law23_begun : Nat := 14
def f_watch_New : Nat := 15
def f_watch_Miss : Nat := 19
def f_watch_twin : Nat := 40
def f_slices_Clone_int_int : Nat := 49
def f_slices_Clone_bool_bool : Nat := 50
def f_watch_has : Nat := 41
def f_slices_Contains_bool_bool : Nat := 42
def f_slices_Index_bool_bool : Nat := 51
def f_watch_Good : Nat := 17
def f_ref19_NewWatch : Nat := 16
def f_ref19_Good : Nat := 18
def f_ref19_Miss : Nat := 20
def f_law23_same : Nat := 21
def f_ref19_SameWatch : Nat := 43
def f_ref11_SameInts : Nat := 39
def f_law23_WatchStops : Nat := 4
def f_law23_WatchForms : Nat := 5
def f_law11_SemaAll : Nat := 6
def f_law11_begun : Nat := 22
def f_sema_Take : Nat := 23
def f_slices_Clone_api_Sema_api_Sema : Nat := 44
def f_sema_has : Nat := 45
def f_sema_Low : Nat := 28
def f_sema_holds : Nat := 46
def f_sema_Let : Nat := 25
def f_sema_All : Nat := 30
def f_ref11_TakeSema : Nat := 24
def f_ref11_LetSema : Nat := 26
def f_ref11_SameSemas : Nat := 27
def f_ref11_Low : Nat := 29
def f_ref11_AllSemas : Nat := 31
def f_law11_SemaOne : Nat := 7
def f_law11_SemaForms : Nat := 8
def f_law11_SemaLow : Nat := 9
def f_law12_MboxAll : Nat := 10
def f_law12_begun : Nat := 32
def f_mbox_Post : Nat := 33
def f_mbox_twin : Nat := 47
def f_slices_Clone_int64_int64 : Nat := 52
def f_mbox_Take : Nat := 36
def f_slices_Contains_int_int : Nat := 48
def f_slices_Index_int_int : Nat := 53
def f_mbox_Reset : Nat := 38
def f_ref11_Post : Nat := 34
def f_ref11_SameBox : Nat := 35
def f_ref11_Take : Nat := 37
def f_law12_MboxOrder : Nat := 11
def f_law12_MboxForms : Nat := 12
def f_law12_MboxWaits : Nat := 13
/- foliot/foliotlaw23.WatchAll -/
def k_law23_WatchAll_L0b : K := (.seq (.seq (.reg [] [⟨none, .mv 36 (.t 9)⟩, ⟨none, .mv 37 (.t 1)⟩, ⟨none, .len 38 (.t 37)⟩, ⟨none, .bin 39 .lss (.t 36) (.t 38)⟩] [36, 37, 38])
 (.cond (.t 39) .skip
 (.ext 0)))
 (.seq (.blk 1 (.seq (.reg [] [⟨none, .mv 42 (.t 1)⟩, ⟨none, .mv 43 (.t 9)⟩, ⟨none, .ia 44 (.t 42) (.t 43)⟩, ⟨none, .ia 45 (.t 44) (.c (.int .i64 1))⟩, ⟨none, .ld 46 (.t 45)⟩, ⟨none, .bin 47 .rem (.t 46) (.c (.int .u8 11))⟩, ⟨none, .cv 48 .i64 (.t 47)⟩, ⟨none, .mv 10 (.t 48)⟩] [42, 43, 44, 45, 46, 47, 48])
 (.seq (.seq (.reg [] [⟨none, .mv 49 (.t 1)⟩, ⟨none, .mv 50 (.t 9)⟩, ⟨none, .ia 51 (.t 49) (.t 50)⟩, ⟨none, .ia 52 (.t 51) (.c (.int .i64 0))⟩, ⟨none, .ld 53 (.t 52)⟩, ⟨none, .bin 54 .rem (.t 53) (.c (.int .u8 3))⟩, ⟨none, .bin 55 .eql (.t 54) (.c (.int .u8 0))⟩] [49, 50, 51, 52, 53, 54])
 (.cond (.t 55) (.reg [(2, 3)] [⟨none, .ld 56 (.t 7)⟩, ⟨none, .mv 57 (.t 10)⟩, ⟨none, .dat 58 f_watch_Good [(.t 56), (.t 57)]⟩, ⟨none, .ld 59 (.t 8)⟩, ⟨none, .mv 60 (.t 10)⟩, ⟨none, .dat 61 f_ref19_Good [(.t 59), (.t 60)]⟩, ⟨none, .st (.t 7) (.t 58)⟩, ⟨none, .st (.t 8) (.t 61)⟩] [10, 56, 57, 58, 59, 60, 61])
 (.seq (.reg [] [⟨none, .ld 63 (.t 7)⟩, ⟨none, .mv 64 (.t 10)⟩, ⟨none, .dat 65 f_watch_Miss [(.t 63), (.t 64)]⟩, ⟨none, .mv 62 (.t 65)⟩, ⟨none, .ex 66 (.t 62) 0⟩, ⟨none, .ex 67 (.t 62) 1⟩, ⟨none, .ex 68 (.t 62) 2⟩, ⟨none, .alc 11 (.d (.agg [(.sl true []), (.sl true [])]))⟩, ⟨none, .st (.t 11) (.t 66)⟩, ⟨none, .mv 12 (.t 67)⟩, ⟨none, .mv 13 (.t 68)⟩] [62, 63, 64, 65, 66, 67, 68])
 (.seq (.reg [] [⟨none, .ld 70 (.t 8)⟩, ⟨none, .mv 71 (.t 10)⟩, ⟨none, .dat 72 f_ref19_Miss [(.t 70), (.t 71)]⟩, ⟨none, .mv 69 (.t 72)⟩, ⟨none, .ex 73 (.t 69) 0⟩, ⟨none, .ex 74 (.t 69) 1⟩, ⟨none, .ex 75 (.t 69) 2⟩, ⟨none, .alc 14 (.d (.agg [(.sl true []), (.sl true [])]))⟩, ⟨none, .st (.t 14) (.t 73)⟩, ⟨none, .mv 15 (.t 74)⟩, ⟨none, .mv 16 (.t 75)⟩] [10, 69, 70, 71, 72, 73, 74, 75])
 (.seq (.seq (.reg [] [⟨none, .mv 76 (.t 12)⟩, ⟨none, .mv 77 (.t 15)⟩, ⟨none, .bin 78 .neq (.t 76) (.t 77)⟩, ⟨none, .mv 79 (.t 78)⟩, ⟨some (79, false), .mv 80 (.t 13)⟩, ⟨some (79, false), .mv 81 (.t 16)⟩, ⟨some (79, false), .bin 82 .neq (.t 80) (.t 81)⟩, ⟨none, .pick 83 (.t 79) (.c (.bool true)) (.t 82)⟩] [12, 13, 15, 16, 76, 77, 78, 79, 80, 81, 82])
 (.cond (.t 83) (.seq (.reg [] [⟨none, .mv 6 (.c (.bool false))⟩] [])
 .ret)
 .skip))
 (.reg [(1, 2)] [⟨none, .ld 84 (.t 11)⟩, ⟨none, .ld 85 (.t 14)⟩, ⟨none, .st (.t 7) (.t 84)⟩, ⟨none, .st (.t 8) (.t 85)⟩] [11, 14, 84, 85]))))))
 (.seq (.reg [] [⟨none, .ld 86 (.t 7)⟩, ⟨none, .ld 87 (.t 8)⟩, ⟨none, .dat 88 f_law23_same [(.t 86), (.t 87)]⟩, ⟨none, .un 89 .not (.t 88)⟩] [86, 87, 88])
 (.cond (.t 89) (.seq (.reg [] [⟨none, .mv 6 (.c (.bool false))⟩] [])
 .ret)
 .skip)))))
 (.reg [] [⟨none, .mv 40 (.t 9)⟩, ⟨none, .bin 41 .add (.t 40) (.c (.int .i64 1))⟩, ⟨none, .mv 9 (.t 41)⟩] [40, 41])))
def k_law23_WatchAll_L0 : K := k_law23_WatchAll_L0b
def k_law23_WatchAll : KF := ⟨(.seq (.reg [] [⟨none, .mv 6 (.c (.bool false))⟩] [6])
 (.seq (.seq (.reg [] [⟨none, .dat 23 f_law23_begun []⟩, ⟨none, .un 24 .not (.t 23)⟩] [23])
 (.cond (.t 24) (.seq (.reg [] [⟨none, .mv 6 (.c (.bool false))⟩] [])
 .ret)
 .skip))
 (.seq (.seq (.reg [] [⟨none, .mv 25 (.t 1)⟩, ⟨none, .len 26 (.t 25)⟩, ⟨none, .bin 27 .gtr (.t 26) (.c (.int .i64 60))⟩] [25, 26])
 (.cond (.t 27) (.seq (.reg [] [⟨none, .mv 6 (.c (.bool true))⟩] [])
 .ret)
 .skip))
 (.seq (.reg [] [⟨none, .mv 28 (.t 0)⟩, ⟨none, .bin 29 .rem (.t 28) (.c (.int .u8 10))⟩, ⟨none, .cv 30 .i64 (.t 29)⟩, ⟨none, .dat 31 f_watch_New [(.t 30)]⟩, ⟨none, .mv 32 (.t 0)⟩, ⟨none, .bin 33 .rem (.t 32) (.c (.int .u8 10))⟩, ⟨none, .cv 34 .i64 (.t 33)⟩, ⟨none, .dat 35 f_ref19_NewWatch [(.t 34)]⟩, ⟨none, .alc 7 (.d (.agg [(.sl true []), (.sl true [])]))⟩, ⟨none, .alc 8 (.d (.agg [(.sl true []), (.sl true [])]))⟩, ⟨none, .st (.t 7) (.t 31)⟩, ⟨none, .st (.t 8) (.t 35)⟩] [0, 28, 29, 30, 31, 32, 33, 34, 35])
 (.seq (.seq (.reg [] [⟨none, .mv 9 (.c (.int .i64 0))⟩] [])
 (.blk 0 (.loop [1, 2, 7, 8, 9] k_law23_WatchAll_L0)))
 (.seq (.reg [] [⟨none, .ld 91 (.t 7)⟩, ⟨none, .mv 92 (.t 2)⟩, ⟨none, .dat 93 f_watch_Miss [(.t 91), (.t 92)]⟩, ⟨none, .mv 90 (.t 93)⟩, ⟨none, .ex 94 (.t 90) 0⟩, ⟨none, .ex 95 (.t 90) 1⟩, ⟨none, .ex 96 (.t 90) 2⟩, ⟨none, .alc 17 (.d (.agg [(.sl true []), (.sl true [])]))⟩, ⟨none, .st (.t 17) (.t 94)⟩, ⟨none, .mv 18 (.t 95)⟩, ⟨none, .mv 19 (.t 96)⟩] [90, 91, 92, 93, 94, 95, 96])
 (.seq (.reg [] [⟨none, .ld 98 (.t 8)⟩, ⟨none, .mv 99 (.t 2)⟩, ⟨none, .dat 100 f_ref19_Miss [(.t 98), (.t 99)]⟩, ⟨none, .mv 97 (.t 100)⟩, ⟨none, .ex 101 (.t 97) 0⟩, ⟨none, .ex 102 (.t 97) 1⟩, ⟨none, .ex 103 (.t 97) 2⟩, ⟨none, .alc 20 (.d (.agg [(.sl true []), (.sl true [])]))⟩, ⟨none, .st (.t 20) (.t 101)⟩, ⟨none, .mv 21 (.t 102)⟩, ⟨none, .mv 22 (.t 103)⟩] [97, 98, 99, 100, 101, 102, 103])
 (.seq (.reg [(16, 17)] [⟨none, .ld 104 (.t 17)⟩, ⟨none, .ld 105 (.t 20)⟩, ⟨none, .dat 106 f_law23_same [(.t 104), (.t 105)]⟩, ⟨none, .mv 107 (.t 106)⟩, ⟨some (107, true), .mv 108 (.t 18)⟩, ⟨some (107, true), .mv 109 (.t 21)⟩, ⟨some (107, true), .bin 110 .eql (.t 108) (.t 109)⟩, ⟨none, .pick 111 (.t 107) (.t 110) (.c (.bool false))⟩, ⟨none, .mv 112 (.t 111)⟩, ⟨some (112, true), .mv 113 (.t 19)⟩, ⟨some (112, true), .mv 114 (.t 22)⟩, ⟨some (112, true), .bin 115 .eql (.t 113) (.t 114)⟩, ⟨none, .pick 116 (.t 112) (.t 115) (.c (.bool false))⟩, ⟨none, .mv 117 (.t 116)⟩, ⟨some (117, true), .ld 118 (.t 7)⟩, ⟨some (117, true), .mv 119 (.t 2)⟩, ⟨some (117, true), .dat 120 f_watch_Good [(.t 118), (.t 119)]⟩, ⟨some (117, true), .ld 121 (.t 8)⟩, ⟨some (117, true), .mv 122 (.t 2)⟩, ⟨some (117, true), .dat 123 f_ref19_Good [(.t 121), (.t 122)]⟩, ⟨some (117, true), .dat 124 f_law23_same [(.t 120), (.t 123)]⟩, ⟨none, .pick 125 (.t 117) (.t 124) (.c (.bool false))⟩, ⟨none, .mv 126 (.t 125)⟩, ⟨some (126, true), .dat 127 f_watch_New [(.c (.int .i64 (-3)))]⟩, ⟨some (126, true), .fd 128 (.t 127) 0⟩, ⟨some (126, true), .len 129 (.t 128)⟩, ⟨some (126, true), .bin 130 .eql (.t 129) (.c (.int .i64 0))⟩, ⟨none, .pick 131 (.t 126) (.t 130) (.c (.bool false))⟩, ⟨none, .mv 6 (.t 131)⟩] [2, 7, 8, 17, 18, 19, 20, 21, 22, 104, 105, 106, 107, 108, 109, 110, 111, 112, 113, 114, 115, 116, 117, 118, 119, 120, 121, 122, 123, 124, 125, 126, 127, 128, 129, 130, 131])
 .ret)))))))), [.t 6]⟩
/- foliot/foliotlaw23.begun -/
def k_law23_begun : KF := ⟨(.seq (.reg [] [⟨none, .mv 0 (.c (.bool false))⟩] [0])
 (.seq (.reg [] [⟨none, .dat 11 f_watch_New [(.c (.int .i64 2))]⟩, ⟨none, .alc 1 (.d (.agg [(.sl true []), (.sl true [])]))⟩, ⟨none, .st (.t 1) (.t 11)⟩] [11])
 (.seq (.reg [] [⟨none, .ld 13 (.t 1)⟩, ⟨none, .dat 14 f_watch_Miss [(.t 13), (.c (.int .i64 0))]⟩, ⟨none, .mv 12 (.t 14)⟩, ⟨none, .ex 15 (.t 12) 0⟩, ⟨none, .ex 16 (.t 12) 1⟩, ⟨none, .ex 17 (.t 12) 2⟩, ⟨none, .alc 2 (.d (.agg [(.sl true []), (.sl true [])]))⟩, ⟨none, .st (.t 2) (.t 15)⟩, ⟨none, .mv 3 (.t 16)⟩, ⟨none, .mv 4 (.t 17)⟩] [1, 12, 13, 14, 15, 16, 17])
 (.seq (.reg [] [⟨none, .ld 19 (.t 2)⟩, ⟨none, .dat 20 f_watch_Miss [(.t 19), (.c (.int .i64 0))]⟩, ⟨none, .mv 18 (.t 20)⟩, ⟨none, .ex 21 (.t 18) 0⟩, ⟨none, .ex 22 (.t 18) 1⟩, ⟨none, .ex 23 (.t 18) 2⟩, ⟨none, .alc 5 (.d (.agg [(.sl true []), (.sl true [])]))⟩, ⟨none, .st (.t 5) (.t 21)⟩, ⟨none, .mv 6 (.t 22)⟩, ⟨none, .mv 7 (.t 23)⟩] [18, 19, 20, 21, 22, 23])
 (.seq (.reg [] [⟨none, .ld 25 (.t 2)⟩, ⟨none, .dat 26 f_watch_Good [(.t 25), (.c (.int .i64 0))]⟩, ⟨none, .dat 27 f_watch_Miss [(.t 26), (.c (.int .i64 0))]⟩, ⟨none, .mv 24 (.t 27)⟩, ⟨none, .ex 28 (.t 24) 0⟩, ⟨none, .ex 29 (.t 24) 1⟩, ⟨none, .ex 30 (.t 24) 2⟩, ⟨none, .alc 8 (.d (.agg [(.sl true []), (.sl true [])]))⟩, ⟨none, .st (.t 8) (.t 28)⟩, ⟨none, .mv 9 (.t 29)⟩, ⟨none, .mv 10 (.t 30)⟩] [2, 9, 10, 24, 25, 26, 27, 28, 29, 30])
 (.seq (.reg [] [⟨none, .mv 31 (.t 3)⟩, ⟨none, .un 32 .not (.t 31)⟩, ⟨none, .mv 33 (.t 32)⟩, ⟨some (33, true), .mv 34 (.t 4)⟩, ⟨some (33, true), .un 35 .not (.t 34)⟩, ⟨none, .pick 36 (.t 33) (.t 35) (.c (.bool false))⟩, ⟨none, .mv 37 (.t 36)⟩, ⟨some (37, true), .mv 38 (.t 6)⟩, ⟨none, .pick 39 (.t 37) (.t 38) (.c (.bool false))⟩, ⟨none, .mv 40 (.t 39)⟩, ⟨some (40, true), .mv 41 (.t 7)⟩, ⟨some (40, true), .un 42 .not (.t 41)⟩, ⟨none, .pick 43 (.t 40) (.t 42) (.c (.bool false))⟩, ⟨none, .mv 44 (.t 43)⟩, ⟨some (44, true), .fa 45 (.t 5) 1⟩, ⟨some (44, true), .ld 46 (.t 45)⟩, ⟨some (44, true), .len 47 (.t 46)⟩, ⟨some (44, true), .bin 48 .eql (.t 47) (.c (.int .i64 2))⟩, ⟨none, .pick 49 (.t 44) (.t 48) (.c (.bool false))⟩, ⟨none, .mv 50 (.t 49)⟩, ⟨some (50, true), .fa 51 (.t 5) 1⟩, ⟨some (50, true), .ld 52 (.t 51)⟩, ⟨some (50, true), .ia 53 (.t 52) (.c (.int .i64 0))⟩, ⟨some (50, true), .ld 54 (.t 53)⟩, ⟨none, .pick 55 (.t 50) (.t 54) (.c (.bool false))⟩, ⟨none, .mv 56 (.t 55)⟩, ⟨some (56, true), .fa 57 (.t 8) 1⟩, ⟨some (56, true), .ld 58 (.t 57)⟩, ⟨some (56, true), .len 59 (.t 58)⟩, ⟨some (56, true), .bin 60 .eql (.t 59) (.c (.int .i64 2))⟩, ⟨none, .pick 61 (.t 56) (.t 60) (.c (.bool false))⟩, ⟨none, .mv 62 (.t 61)⟩, ⟨some (62, true), .fa 63 (.t 8) 0⟩, ⟨some (62, true), .ld 64 (.t 63)⟩, ⟨some (62, true), .len 65 (.t 64)⟩, ⟨some (62, true), .bin 66 .eql (.t 65) (.c (.int .i64 2))⟩, ⟨none, .pick 67 (.t 62) (.t 66) (.c (.bool false))⟩, ⟨none, .mv 68 (.t 67)⟩, ⟨some (68, true), .fa 69 (.t 8) 1⟩, ⟨some (68, true), .ld 70 (.t 69)⟩, ⟨some (68, true), .ia 71 (.t 70) (.c (.int .i64 0))⟩, ⟨some (68, true), .ld 72 (.t 71)⟩, ⟨some (68, true), .un 73 .not (.t 72)⟩, ⟨none, .pick 74 (.t 68) (.t 73) (.c (.bool false))⟩, ⟨none, .mv 75 (.t 74)⟩, ⟨some (75, true), .fa 76 (.t 8) 0⟩, ⟨some (75, true), .ld 77 (.t 76)⟩, ⟨some (75, true), .ia 78 (.t 77) (.c (.int .i64 0))⟩, ⟨some (75, true), .ld 79 (.t 78)⟩, ⟨some (75, true), .bin 80 .eql (.t 79) (.c (.int .i64 1))⟩, ⟨none, .pick 81 (.t 75) (.t 80) (.c (.bool false))⟩, ⟨none, .mv 0 (.t 81)⟩] [3, 4, 5, 6, 7, 8, 31, 32, 33, 34, 35, 36, 37, 38, 39, 40, 41, 42, 43, 44, 45, 46, 47, 48, 49, 50, 51, 52, 53, 54, 55, 56, 57, 58, 59, 60, 61, 62, 63, 64, 65, 66, 67, 68, 69, 70, 71, 72, 73, 74, 75, 76, 77, 78, 79, 80, 81])
 .ret)))))), [.t 0]⟩
/- foliot/watch.New -/
def k_watch_New : KF := ⟨(.seq (.reg [] [⟨none, .alc 2 (.d (.agg [(.sl true []), (.sl true [])]))⟩] [])
 (.seq (.reg [] [⟨none, .mv 3 (.t 0)⟩, ⟨none, .mx 4 [(.t 3), (.c (.int .i64 0))]⟩, ⟨none, .mn 5 [(.t 4), (.c (.int .i64 65536))]⟩, ⟨none, .mv 0 (.t 5)⟩] [3, 4, 5])
 (.seq (.reg [] [⟨none, .mv 6 (.t 0)⟩, ⟨none, .mks 7 (.int .i64 0) (.t 6) (.t 6)⟩, ⟨none, .mv 8 (.t 0)⟩, ⟨none, .mks 9 (.bool false) (.t 8) (.t 8)⟩, ⟨none, .bld 10 [(.t 7), (.t 9)]⟩, ⟨none, .st (.t 2) (.t 10)⟩] [0, 6, 7, 8, 9, 10])
 .ret))), [.cell 2]⟩
/- foliot/watch.Miss -/
def k_watch_Miss : KF := ⟨(.seq (.reg [] [⟨none, .box 2 (.t 0)⟩, ⟨none, .alc 4 (.d (.agg [(.sl true []), (.sl true [])]))⟩, ⟨none, .mv 5 (.c (.bool false))⟩, ⟨none, .mv 6 (.c (.bool false))⟩] [0, 5, 6])
 (.seq (.reg [] [⟨none, .ld 7 (.t 2)⟩, ⟨none, .dat 8 f_watch_twin [(.t 7)]⟩, ⟨none, .st (.t 4) (.t 8)⟩] [7, 8])
 (.seq (.seq (.reg [] [⟨none, .ld 9 (.t 2)⟩, ⟨none, .mv 10 (.t 1)⟩, ⟨none, .dat 11 f_watch_has [(.t 9), (.t 10)]⟩, ⟨none, .un 12 .not (.t 11)⟩] [2, 9, 10, 11])
 (.cond (.t 12) (.seq (.reg [] [⟨none, .ld 13 (.t 4)⟩, ⟨none, .st (.t 4) (.t 13)⟩, ⟨none, .mv 5 (.c (.bool false))⟩, ⟨none, .mv 6 (.c (.bool false))⟩] [13])
 .ret)
 .skip))
 (.seq (.reg [] [⟨none, .fa 14 (.t 4) 0⟩, ⟨none, .ld 15 (.t 14)⟩, ⟨none, .mv 16 (.t 1)⟩, ⟨none, .ia 17 (.t 15) (.t 16)⟩, ⟨none, .ld 18 (.t 17)⟩, ⟨none, .bin 19 .add (.t 18) (.c (.int .i64 1))⟩, ⟨none, .ia 20 (.t 15) (.t 16)⟩, ⟨none, .st (.t 20) (.t 19)⟩] [14, 15, 16, 17, 18, 19, 20])
 (.seq (.seq (.reg [] [⟨none, .fa 21 (.t 4) 0⟩, ⟨none, .ld 22 (.t 21)⟩, ⟨none, .mv 23 (.t 1)⟩, ⟨none, .ia 24 (.t 22) (.t 23)⟩, ⟨none, .ld 25 (.t 24)⟩, ⟨none, .bin 26 .neq (.t 25) (.c (.int .i64 2))⟩, ⟨none, .mv 27 (.t 26)⟩, ⟨some (27, false), .fa 28 (.t 4) 1⟩, ⟨some (27, false), .ld 29 (.t 28)⟩, ⟨some (27, false), .mv 30 (.t 1)⟩, ⟨some (27, false), .ia 31 (.t 29) (.t 30)⟩, ⟨some (27, false), .ld 32 (.t 31)⟩, ⟨none, .pick 33 (.t 27) (.c (.bool true)) (.t 32)⟩] [21, 22, 23, 24, 25, 26, 27, 28, 29, 30, 31, 32])
 (.cond (.t 33) (.seq (.reg [] [⟨none, .ld 34 (.t 4)⟩, ⟨none, .st (.t 4) (.t 34)⟩, ⟨none, .mv 5 (.c (.bool false))⟩, ⟨none, .mv 6 (.c (.bool false))⟩] [34])
 .ret)
 .skip))
 (.seq (.reg [] [⟨none, .fa 35 (.t 4) 1⟩, ⟨none, .ld 36 (.t 35)⟩, ⟨none, .mv 37 (.t 1)⟩, ⟨none, .ia 38 (.t 36) (.t 37)⟩, ⟨none, .st (.t 38) (.c (.bool true))⟩] [1, 35, 36, 37, 38])
 (.seq (.reg [(0, 3)] [⟨none, .ld 39 (.t 4)⟩, ⟨none, .fa 40 (.t 4) 1⟩, ⟨none, .ld 41 (.t 40)⟩, ⟨none, .dat 42 f_slices_Contains_bool_bool [(.t 41), (.c (.bool false))]⟩, ⟨none, .un 43 .not (.t 42)⟩, ⟨none, .st (.t 4) (.t 39)⟩, ⟨none, .mv 5 (.c (.bool true))⟩, ⟨none, .mv 6 (.t 43)⟩] [39, 40, 41, 42, 43])
 .ret))))))), [.cell 4, .t 5, .t 6]⟩
/- foliot/watch.twin -/
def k_watch_twin : KF := ⟨(.seq (.reg [] [⟨none, .box 1 (.t 0)⟩, ⟨none, .alc 2 (.d (.agg [(.sl true []), (.sl true [])]))⟩] [0])
 (.seq (.reg [(2, 4)] [⟨none, .fa 3 (.t 1) 0⟩, ⟨none, .ld 4 (.t 3)⟩, ⟨none, .dat 5 f_slices_Clone_int_int [(.t 4)]⟩, ⟨none, .fa 6 (.t 1) 1⟩, ⟨none, .ld 7 (.t 6)⟩, ⟨none, .dat 8 f_slices_Clone_bool_bool [(.t 7)]⟩, ⟨none, .bld 9 [(.t 5), (.t 8)]⟩, ⟨none, .st (.t 2) (.t 9)⟩] [1, 3, 4, 5, 6, 7, 8, 9])
 .ret)), [.cell 2]⟩
/- slices.Clone[[]int,int] -/
def k_slices_Clone_int_int : KF := ⟨(.seq (.reg [] [⟨none, .mv 2 (.c (.d (.sl true [])))⟩] [2])
 (.seq (.seq (.reg [] [⟨none, .mv 3 (.t 0)⟩, ⟨none, .bin 4 .eql (.t 3) (.c (.d (.sl true [])))⟩] [3])
 (.cond (.t 4) (.seq (.reg [] [⟨none, .mv 2 (.c (.d (.sl true [])))⟩] [])
 .ret)
 .skip))
 (.seq (.reg [] [⟨none, .bsl 5 []⟩, ⟨none, .mv 6 (.t 0)⟩, ⟨none, .app 7 (.t 5) (.t 6)⟩, ⟨none, .mv 2 (.t 7)⟩] [0, 5, 6, 7])
 .ret))), [.t 2]⟩
/- slices.Clone[[]bool,bool] -/
def k_slices_Clone_bool_bool : KF := ⟨(.seq (.reg [] [⟨none, .mv 2 (.c (.d (.sl true [])))⟩] [2])
 (.seq (.seq (.reg [] [⟨none, .mv 3 (.t 0)⟩, ⟨none, .bin 4 .eql (.t 3) (.c (.d (.sl true [])))⟩] [3])
 (.cond (.t 4) (.seq (.reg [] [⟨none, .mv 2 (.c (.d (.sl true [])))⟩] [])
 .ret)
 .skip))
 (.seq (.reg [] [⟨none, .bsl 5 []⟩, ⟨none, .mv 6 (.t 0)⟩, ⟨none, .app 7 (.t 5) (.t 6)⟩, ⟨none, .mv 2 (.t 7)⟩] [0, 5, 6, 7])
 .ret))), [.t 2]⟩
/- foliot/watch.has -/
def k_watch_has : KF := ⟨(.seq (.reg [] [⟨none, .box 2 (.t 0)⟩, ⟨none, .mv 4 (.c (.bool false))⟩] [0, 4])
 (.seq (.reg [] [⟨none, .mv 5 (.t 1)⟩, ⟨none, .bin 6 .geq (.t 5) (.c (.int .i64 0))⟩, ⟨none, .mv 7 (.t 6)⟩, ⟨some (7, true), .mv 8 (.t 1)⟩, ⟨some (7, true), .fa 9 (.t 2) 0⟩, ⟨some (7, true), .ld 10 (.t 9)⟩, ⟨some (7, true), .len 11 (.t 10)⟩, ⟨some (7, true), .fa 12 (.t 2) 1⟩, ⟨some (7, true), .ld 13 (.t 12)⟩, ⟨some (7, true), .len 14 (.t 13)⟩, ⟨some (7, true), .mn 15 [(.t 11), (.t 14)]⟩, ⟨some (7, true), .bin 16 .lss (.t 8) (.t 15)⟩, ⟨none, .pick 17 (.t 7) (.t 16) (.c (.bool false))⟩, ⟨none, .mv 4 (.t 17)⟩] [1, 2, 5, 6, 7, 8, 9, 10, 11, 12, 13, 14, 15, 16, 17])
 .ret)), [.t 4]⟩
/- slices.Contains[[]bool,bool] -/
def k_slices_Contains_bool_bool : KF := ⟨(.seq (.reg [] [⟨none, .mv 4 (.c (.bool false))⟩] [4])
 (.seq (.reg [] [⟨none, .mv 5 (.t 0)⟩, ⟨none, .mv 6 (.t 1)⟩, ⟨none, .dat 7 f_slices_Index_bool_bool [(.t 5), (.t 6)]⟩, ⟨none, .bin 8 .geq (.t 7) (.c (.int .i64 0))⟩, ⟨none, .mv 4 (.t 8)⟩] [0, 1, 5, 6, 7, 8])
 .ret)), [.t 4]⟩
/- slices.Index[[]bool,bool] -/
def k_slices_Index_bool_bool_L0b : K := (.seq (.reg [] [⟨none, .bin 9 .lss (.t 8) (.t 7)⟩] [])
 (.seq (.cond (.t 9) .skip
 (.ext 0))
 (.seq (.blk 1 (.seq (.reg [] [⟨none, .mv 10 (.t 8)⟩, ⟨none, .mv 5 (.t 10)⟩] [10])
 (.seq (.reg [] [⟨none, .mv 11 (.t 1)⟩, ⟨none, .mv 12 (.t 0)⟩, ⟨none, .mv 13 (.t 5)⟩, ⟨none, .ia 14 (.t 12) (.t 13)⟩, ⟨none, .ld 15 (.t 14)⟩, ⟨none, .bin 16 .eql (.t 11) (.t 15)⟩] [11, 12, 13, 14, 15])
 (.cond (.t 16) (.seq (.reg [] [⟨none, .mv 17 (.t 5)⟩, ⟨none, .mv 4 (.t 17)⟩] [5, 17])
 .ret)
 .skip))))
 (.reg [] [⟨none, .bin 18 .add (.t 8) (.c (.int .i64 1))⟩, ⟨none, .mv 8 (.t 18)⟩] [18]))))
def k_slices_Index_bool_bool_L0 : K := k_slices_Index_bool_bool_L0b
def k_slices_Index_bool_bool : KF := ⟨(.seq (.reg [] [⟨none, .mv 4 (.c (.int .i64 0))⟩] [4])
 (.seq (.seq (.reg [] [⟨none, .mv 6 (.t 0)⟩, ⟨none, .len 7 (.t 6)⟩, ⟨none, .mv 8 (.c (.int .i64 0))⟩] [6])
 (.blk 0 (.loop [0, 1, 7, 8] k_slices_Index_bool_bool_L0)))
 (.seq (.reg [] [⟨none, .mv 4 (.c (.int .i64 (-1)))⟩] [])
 .ret))), [.t 4]⟩
/- foliot/watch.Good -/
def k_watch_Good : KF := ⟨(.seq (.reg [] [⟨none, .box 2 (.t 0)⟩, ⟨none, .alc 4 (.d (.agg [(.sl true []), (.sl true [])]))⟩] [0])
 (.seq (.reg [] [⟨none, .ld 6 (.t 2)⟩, ⟨none, .dat 7 f_watch_twin [(.t 6)]⟩, ⟨none, .alc 5 (.d (.agg [(.sl true []), (.sl true [])]))⟩, ⟨none, .st (.t 5) (.t 7)⟩] [2, 6, 7])
 (.seq (.seq (.reg [] [⟨none, .mv 8 (.t 1)⟩, ⟨none, .bin 9 .geq (.t 8) (.c (.int .i64 0))⟩, ⟨none, .mv 10 (.t 9)⟩, ⟨some (10, true), .mv 11 (.t 1)⟩, ⟨some (10, true), .fa 12 (.t 5) 0⟩, ⟨some (10, true), .ld 13 (.t 12)⟩, ⟨some (10, true), .len 14 (.t 13)⟩, ⟨some (10, true), .bin 15 .lss (.t 11) (.t 14)⟩, ⟨none, .pick 16 (.t 10) (.t 15) (.c (.bool false))⟩] [8, 9, 10, 11, 12, 13, 14, 15])
 (.cond (.t 16) (.reg [] [⟨none, .fa 17 (.t 5) 0⟩, ⟨none, .ld 18 (.t 17)⟩, ⟨none, .mv 19 (.t 1)⟩, ⟨none, .ia 20 (.t 18) (.t 19)⟩, ⟨none, .st (.t 20) (.c (.int .i64 0))⟩] [1, 17, 18, 19, 20])
 .skip))
 (.seq (.reg [] [⟨none, .ld 21 (.t 5)⟩, ⟨none, .st (.t 4) (.t 21)⟩] [5, 21])
 .ret)))), [.cell 4]⟩
/- foliot/foliotref19.NewWatch -/
def k_ref19_NewWatch : KF := ⟨(.seq (.reg [] [⟨none, .alc 2 (.d (.agg [(.sl true []), (.sl true [])]))⟩] [])
 (.seq (.reg [] [⟨none, .mv 3 (.t 0)⟩, ⟨none, .mx 4 [(.t 3), (.c (.int .i64 0))]⟩, ⟨none, .mks 5 (.int .i64 0) (.t 4) (.t 4)⟩, ⟨none, .mv 6 (.t 0)⟩, ⟨none, .mx 7 [(.t 6), (.c (.int .i64 0))]⟩, ⟨none, .mks 8 (.bool false) (.t 7) (.t 7)⟩, ⟨none, .bld 9 [(.t 5), (.t 8)]⟩, ⟨none, .st (.t 2) (.t 9)⟩] [0, 3, 4, 5, 6, 7, 8, 9])
 .ret)), [.cell 2]⟩
/- foliot/foliotref19.Good -/
def k_ref19_Good : KF := ⟨(.seq (.reg [] [⟨none, .box 2 (.t 0)⟩, ⟨none, .alc 4 (.d (.agg [(.sl true []), (.sl true [])]))⟩] [0])
 (.seq (.reg [(0, 2), (0, 4), (2, 4), (3, 4), (0, 6), (3, 6), (4, 6), (0, 9), (2, 9), (3, 9), (4, 9), (6, 9), (7, 9)] [⟨none, .bsl 6 []⟩, ⟨none, .fa 7 (.t 2) 0⟩, ⟨none, .ld 8 (.t 7)⟩, ⟨none, .app 9 (.t 6) (.t 8)⟩, ⟨none, .bsl 10 []⟩, ⟨none, .fa 11 (.t 2) 1⟩, ⟨none, .ld 12 (.t 11)⟩, ⟨none, .app 13 (.t 10) (.t 12)⟩, ⟨none, .bld 14 [(.t 9), (.t 13)]⟩, ⟨none, .alc 5 (.d (.agg [(.sl true []), (.sl true [])]))⟩, ⟨none, .st (.t 5) (.t 14)⟩] [2, 6, 7, 8, 9, 10, 11, 12, 13, 14])
 (.seq (.seq (.reg [] [⟨none, .mv 15 (.t 1)⟩, ⟨none, .bin 16 .geq (.t 15) (.c (.int .i64 0))⟩, ⟨none, .mv 17 (.t 16)⟩, ⟨some (17, true), .mv 18 (.t 1)⟩, ⟨some (17, true), .fa 19 (.t 5) 0⟩, ⟨some (17, true), .ld 20 (.t 19)⟩, ⟨some (17, true), .len 21 (.t 20)⟩, ⟨some (17, true), .bin 22 .lss (.t 18) (.t 21)⟩, ⟨none, .pick 23 (.t 17) (.t 22) (.c (.bool false))⟩] [15, 16, 17, 18, 19, 20, 21, 22])
 (.cond (.t 23) (.reg [] [⟨none, .fa 24 (.t 5) 0⟩, ⟨none, .ld 25 (.t 24)⟩, ⟨none, .mv 26 (.t 1)⟩, ⟨none, .ia 27 (.t 25) (.t 26)⟩, ⟨none, .st (.t 27) (.c (.int .i64 0))⟩] [1, 24, 25, 26, 27])
 .skip))
 (.seq (.reg [] [⟨none, .ld 28 (.t 5)⟩, ⟨none, .st (.t 4) (.t 28)⟩] [5, 28])
 .ret)))), [.cell 4]⟩
/- foliot/foliotref19.Miss -/
def k_ref19_Miss_L0b : K := (.seq (.seq (.reg [] [⟨none, .mv 60 (.t 8)⟩, ⟨none, .fa 61 (.t 7) 1⟩, ⟨none, .ld 62 (.t 61)⟩, ⟨none, .len 63 (.t 62)⟩, ⟨none, .bin 64 .lss (.t 60) (.t 63)⟩] [60, 61, 62, 63])
 (.cond (.t 64) .skip
 (.ext 0)))
 (.seq (.blk 1 (.seq (.reg [] [⟨none, .fa 67 (.t 7) 1⟩, ⟨none, .ld 68 (.t 67)⟩, ⟨none, .mv 69 (.t 8)⟩, ⟨none, .ia 70 (.t 68) (.t 69)⟩, ⟨none, .ld 71 (.t 70)⟩, ⟨none, .un 72 .not (.t 71)⟩] [67, 68, 69, 70, 71])
 (.cond (.t 72) (.seq (.reg [] [⟨none, .ld 73 (.t 7)⟩, ⟨none, .st (.t 4) (.t 73)⟩, ⟨none, .mv 5 (.c (.bool true))⟩, ⟨none, .mv 6 (.c (.bool false))⟩] [7, 73])
 .ret)
 .skip)))
 (.reg [] [⟨none, .mv 65 (.t 8)⟩, ⟨none, .bin 66 .add (.t 65) (.c (.int .i64 1))⟩, ⟨none, .mv 8 (.t 66)⟩] [65, 66])))
def k_ref19_Miss_L0 : K := k_ref19_Miss_L0b
def k_ref19_Miss : KF := ⟨(.seq (.reg [] [⟨none, .box 2 (.t 0)⟩, ⟨none, .alc 4 (.d (.agg [(.sl true []), (.sl true [])]))⟩, ⟨none, .mv 5 (.c (.bool false))⟩, ⟨none, .mv 6 (.c (.bool false))⟩] [0, 5, 6])
 (.seq (.reg [(0, 2), (0, 4), (2, 4), (3, 4), (0, 6), (3, 6), (4, 6), (0, 9), (2, 9), (3, 9), (4, 9), (6, 9), (7, 9)] [⟨none, .bsl 9 []⟩, ⟨none, .fa 10 (.t 2) 0⟩, ⟨none, .ld 11 (.t 10)⟩, ⟨none, .app 12 (.t 9) (.t 11)⟩, ⟨none, .bsl 13 []⟩, ⟨none, .fa 14 (.t 2) 1⟩, ⟨none, .ld 15 (.t 14)⟩, ⟨none, .app 16 (.t 13) (.t 15)⟩, ⟨none, .bld 17 [(.t 12), (.t 16)]⟩, ⟨none, .alc 7 (.d (.agg [(.sl true []), (.sl true [])]))⟩, ⟨none, .st (.t 7) (.t 17)⟩] [2, 9, 10, 11, 12, 13, 14, 15, 16, 17])
 (.seq (.seq (.reg [] [⟨none, .mv 18 (.t 1)⟩, ⟨none, .bin 19 .lss (.t 18) (.c (.int .i64 0))⟩, ⟨none, .mv 20 (.t 19)⟩, ⟨some (20, false), .mv 21 (.t 1)⟩, ⟨some (20, false), .fa 22 (.t 7) 0⟩, ⟨some (20, false), .ld 23 (.t 22)⟩, ⟨some (20, false), .len 24 (.t 23)⟩, ⟨some (20, false), .bin 25 .geq (.t 21) (.t 24)⟩, ⟨none, .pick 26 (.t 20) (.c (.bool true)) (.t 25)⟩, ⟨none, .mv 27 (.t 26)⟩, ⟨some (27, false), .mv 28 (.t 1)⟩, ⟨some (27, false), .fa 29 (.t 7) 1⟩, ⟨some (27, false), .ld 30 (.t 29)⟩, ⟨some (27, false), .len 31 (.t 30)⟩, ⟨some (27, false), .bin 32 .geq (.t 28) (.t 31)⟩, ⟨none, .pick 33 (.t 27) (.c (.bool true)) (.t 32)⟩] [18, 19, 20, 21, 22, 23, 24, 25, 26, 27, 28, 29, 30, 31, 32])
 (.cond (.t 33) (.seq (.reg [] [⟨none, .ld 34 (.t 7)⟩, ⟨none, .st (.t 4) (.t 34)⟩, ⟨none, .mv 5 (.c (.bool false))⟩, ⟨none, .mv 6 (.c (.bool false))⟩] [7, 34])
 .ret)
 .skip))
 (.seq (.reg [] [⟨none, .fa 35 (.t 7) 0⟩, ⟨none, .ld 36 (.t 35)⟩, ⟨none, .mv 37 (.t 1)⟩, ⟨none, .ia 38 (.t 36) (.t 37)⟩, ⟨none, .ld 39 (.t 38)⟩, ⟨none, .bin 40 .add (.t 39) (.c (.int .i64 1))⟩, ⟨none, .ia 41 (.t 36) (.t 37)⟩, ⟨none, .st (.t 41) (.t 40)⟩] [35, 36, 37, 38, 39, 40, 41])
 (.seq (.seq (.reg [] [⟨none, .fa 42 (.t 7) 0⟩, ⟨none, .ld 43 (.t 42)⟩, ⟨none, .mv 44 (.t 1)⟩, ⟨none, .ia 45 (.t 43) (.t 44)⟩, ⟨none, .ld 46 (.t 45)⟩, ⟨none, .bin 47 .neq (.t 46) (.c (.int .i64 2))⟩, ⟨none, .mv 48 (.t 47)⟩, ⟨some (48, false), .fa 49 (.t 7) 1⟩, ⟨some (48, false), .ld 50 (.t 49)⟩, ⟨some (48, false), .mv 51 (.t 1)⟩, ⟨some (48, false), .ia 52 (.t 50) (.t 51)⟩, ⟨some (48, false), .ld 53 (.t 52)⟩, ⟨none, .pick 54 (.t 48) (.c (.bool true)) (.t 53)⟩] [42, 43, 44, 45, 46, 47, 48, 49, 50, 51, 52, 53])
 (.cond (.t 54) (.seq (.reg [] [⟨none, .ld 55 (.t 7)⟩, ⟨none, .st (.t 4) (.t 55)⟩, ⟨none, .mv 5 (.c (.bool false))⟩, ⟨none, .mv 6 (.c (.bool false))⟩] [7, 55])
 .ret)
 .skip))
 (.seq (.reg [] [⟨none, .fa 56 (.t 7) 1⟩, ⟨none, .ld 57 (.t 56)⟩, ⟨none, .mv 58 (.t 1)⟩, ⟨none, .ia 59 (.t 57) (.t 58)⟩, ⟨none, .st (.t 59) (.c (.bool true))⟩] [1, 56, 57, 58, 59])
 (.seq (.seq (.reg [] [⟨none, .mv 8 (.c (.int .i64 0))⟩] [])
 (.blk 0 (.loop [4, 7, 8] k_ref19_Miss_L0)))
 (.seq (.reg [] [⟨none, .ld 74 (.t 7)⟩, ⟨none, .st (.t 4) (.t 74)⟩, ⟨none, .mv 5 (.c (.bool true))⟩, ⟨none, .mv 6 (.c (.bool true))⟩] [7, 74])
 .ret)))))))), [.cell 4, .t 5, .t 6]⟩
/- foliot/foliotlaw23.same -/
def k_law23_same : KF := ⟨(.seq (.reg [] [⟨none, .box 2 (.t 0)⟩, ⟨none, .box 3 (.t 1)⟩, ⟨none, .mv 4 (.c (.bool false))⟩] [0, 1, 4])
 (.seq (.reg [] [⟨none, .fa 5 (.t 2) 0⟩, ⟨none, .ld 6 (.t 5)⟩, ⟨none, .fa 7 (.t 2) 1⟩, ⟨none, .ld 8 (.t 7)⟩, ⟨none, .bld 9 [(.t 6), (.t 8)]⟩, ⟨none, .ld 10 (.t 3)⟩, ⟨none, .dat 11 f_ref19_SameWatch [(.t 9), (.t 10)]⟩, ⟨none, .mv 4 (.t 11)⟩] [2, 3, 5, 6, 7, 8, 9, 10, 11])
 .ret)), [.t 4]⟩
/- foliot/foliotref19.SameWatch -/
def k_ref19_SameWatch_L0b : K := (.seq (.seq (.reg [] [⟨none, .mv 21 (.t 5)⟩, ⟨none, .fa 22 (.t 2) 1⟩, ⟨none, .ld 23 (.t 22)⟩, ⟨none, .len 24 (.t 23)⟩, ⟨none, .bin 25 .lss (.t 21) (.t 24)⟩] [21, 22, 23, 24])
 (.cond (.t 25) .skip
 (.ext 0)))
 (.seq (.blk 1 (.seq (.reg [] [⟨none, .fa 28 (.t 2) 1⟩, ⟨none, .ld 29 (.t 28)⟩, ⟨none, .mv 30 (.t 5)⟩, ⟨none, .ia 31 (.t 29) (.t 30)⟩, ⟨none, .ld 32 (.t 31)⟩, ⟨none, .fa 33 (.t 3) 1⟩, ⟨none, .ld 34 (.t 33)⟩, ⟨none, .mv 35 (.t 5)⟩, ⟨none, .ia 36 (.t 34) (.t 35)⟩, ⟨none, .ld 37 (.t 36)⟩, ⟨none, .bin 38 .neq (.t 32) (.t 37)⟩] [28, 29, 30, 31, 32, 33, 34, 35, 36, 37])
 (.cond (.t 38) (.seq (.reg [] [⟨none, .mv 4 (.c (.bool false))⟩] [])
 .ret)
 .skip)))
 (.reg [] [⟨none, .mv 26 (.t 5)⟩, ⟨none, .bin 27 .add (.t 26) (.c (.int .i64 1))⟩, ⟨none, .mv 5 (.t 27)⟩] [26, 27])))
def k_ref19_SameWatch_L0 : K := k_ref19_SameWatch_L0b
def k_ref19_SameWatch : KF := ⟨(.seq (.reg [] [⟨none, .box 2 (.t 0)⟩, ⟨none, .box 3 (.t 1)⟩, ⟨none, .mv 4 (.c (.bool false))⟩] [0, 1, 4])
 (.seq (.seq (.reg [] [⟨none, .fa 6 (.t 2) 1⟩, ⟨none, .ld 7 (.t 6)⟩, ⟨none, .len 8 (.t 7)⟩, ⟨none, .fa 9 (.t 3) 1⟩, ⟨none, .ld 10 (.t 9)⟩, ⟨none, .len 11 (.t 10)⟩, ⟨none, .bin 12 .neq (.t 8) (.t 11)⟩, ⟨none, .mv 13 (.t 12)⟩, ⟨some (13, false), .fa 14 (.t 2) 0⟩, ⟨some (13, false), .ld 15 (.t 14)⟩, ⟨some (13, false), .fa 16 (.t 3) 0⟩, ⟨some (13, false), .ld 17 (.t 16)⟩, ⟨some (13, false), .dat 18 f_ref11_SameInts [(.t 15), (.t 17)]⟩, ⟨some (13, false), .un 19 .not (.t 18)⟩, ⟨none, .pick 20 (.t 13) (.c (.bool true)) (.t 19)⟩] [6, 7, 8, 9, 10, 11, 12, 13, 14, 15, 16, 17, 18, 19])
 (.cond (.t 20) (.seq (.reg [] [⟨none, .mv 4 (.c (.bool false))⟩] [])
 .ret)
 .skip))
 (.seq (.seq (.reg [] [⟨none, .mv 5 (.c (.int .i64 0))⟩] [])
 (.blk 0 (.loop [2, 3, 5] k_ref19_SameWatch_L0)))
 (.seq (.reg [] [⟨none, .mv 4 (.c (.bool true))⟩] [])
 .ret)))), [.t 4]⟩
/- foliot/foliotref11.SameInts -/
def k_ref11_SameInts_L0b : K := (.seq (.seq (.reg [] [⟨none, .mv 11 (.t 5)⟩, ⟨none, .mv 12 (.t 0)⟩, ⟨none, .len 13 (.t 12)⟩, ⟨none, .bin 14 .lss (.t 11) (.t 13)⟩] [11, 12, 13])
 (.cond (.t 14) .skip
 (.ext 0)))
 (.seq (.blk 1 (.seq (.reg [] [⟨none, .mv 17 (.t 0)⟩, ⟨none, .mv 18 (.t 5)⟩, ⟨none, .ia 19 (.t 17) (.t 18)⟩, ⟨none, .ld 20 (.t 19)⟩, ⟨none, .mv 21 (.t 1)⟩, ⟨none, .mv 22 (.t 5)⟩, ⟨none, .ia 23 (.t 21) (.t 22)⟩, ⟨none, .ld 24 (.t 23)⟩, ⟨none, .bin 25 .neq (.t 20) (.t 24)⟩] [17, 18, 19, 20, 21, 22, 23, 24])
 (.cond (.t 25) (.seq (.reg [] [⟨none, .mv 4 (.c (.bool false))⟩] [])
 .ret)
 .skip)))
 (.reg [] [⟨none, .mv 15 (.t 5)⟩, ⟨none, .bin 16 .add (.t 15) (.c (.int .i64 1))⟩, ⟨none, .mv 5 (.t 16)⟩] [15, 16])))
def k_ref11_SameInts_L0 : K := k_ref11_SameInts_L0b
def k_ref11_SameInts : KF := ⟨(.seq (.reg [] [⟨none, .mv 4 (.c (.bool false))⟩] [4])
 (.seq (.seq (.reg [] [⟨none, .mv 6 (.t 0)⟩, ⟨none, .len 7 (.t 6)⟩, ⟨none, .mv 8 (.t 1)⟩, ⟨none, .len 9 (.t 8)⟩, ⟨none, .bin 10 .neq (.t 7) (.t 9)⟩] [6, 7, 8, 9])
 (.cond (.t 10) (.seq (.reg [] [⟨none, .mv 4 (.c (.bool false))⟩] [])
 .ret)
 .skip))
 (.seq (.seq (.reg [] [⟨none, .mv 5 (.c (.int .i64 0))⟩] [])
 (.blk 0 (.loop [0, 1, 5] k_ref11_SameInts_L0)))
 (.seq (.reg [] [⟨none, .mv 4 (.c (.bool true))⟩] [])
 .ret)))), [.t 4]⟩
/- foliot/foliotlaw23.WatchStops -/
def k_law23_WatchStops_L0b : K := (.seq (.seq (.reg [] [⟨none, .mv 28 (.t 10)⟩, ⟨none, .mv 29 (.t 1)⟩, ⟨none, .len 30 (.t 29)⟩, ⟨none, .bin 31 .lss (.t 28) (.t 30)⟩] [28, 29, 30])
 (.cond (.t 31) .skip
 (.ext 0)))
 (.seq (.blk 1 (.seq (.reg [] [⟨none, .mv 34 (.t 1)⟩, ⟨none, .mv 35 (.t 10)⟩, ⟨none, .ia 36 (.t 34) (.t 35)⟩, ⟨none, .ia 37 (.t 36) (.c (.int .i64 1))⟩, ⟨none, .ld 38 (.t 37)⟩, ⟨none, .cv 39 .i64 (.t 38)⟩, ⟨none, .mv 40 (.t 5)⟩, ⟨none, .bin 41 .rem (.t 39) (.t 40)⟩, ⟨none, .mv 11 (.t 41)⟩] [34, 35, 36, 37, 38, 39, 40, 41])
 (.seq (.seq (.reg [] [⟨none, .mv 42 (.t 1)⟩, ⟨none, .mv 43 (.t 10)⟩, ⟨none, .ia 44 (.t 42) (.t 43)⟩, ⟨none, .ia 45 (.t 44) (.c (.int .i64 0))⟩, ⟨none, .ld 46 (.t 45)⟩, ⟨none, .bin 47 .rem (.t 46) (.c (.int .u8 3))⟩, ⟨none, .bin 48 .eql (.t 47) (.c (.int .u8 0))⟩] [42, 43, 44, 45, 46, 47])
 (.cond (.t 48) (.seq (.reg [] [⟨none, .ld 49 (.t 6)⟩, ⟨none, .mv 50 (.t 11)⟩, ⟨none, .dat 51 f_watch_Good [(.t 49), (.t 50)]⟩, ⟨none, .st (.t 6) (.t 51)⟩] [49, 50, 51])
 (.seq (.reg [] [⟨none, .mv 52 (.t 11)⟩, ⟨none, .ia 53 (.t 7) (.t 52)⟩, ⟨none, .st (.t 53) (.c (.int .i64 0))⟩] [11, 52, 53])
 (.ext 1)))
 .skip))
 (.seq (.reg [] [⟨none, .ld 55 (.t 6)⟩, ⟨none, .mv 56 (.t 11)⟩, ⟨none, .dat 57 f_watch_Miss [(.t 55), (.t 56)]⟩, ⟨none, .mv 54 (.t 57)⟩, ⟨none, .ex 58 (.t 54) 0⟩, ⟨none, .ex 59 (.t 54) 1⟩, ⟨none, .ex 60 (.t 54) 2⟩, ⟨none, .alc 12 (.d (.agg [(.sl true []), (.sl true [])]))⟩, ⟨none, .st (.t 12) (.t 58)⟩, ⟨none, .mv 13 (.t 59)⟩, ⟨none, .mv 14 (.t 60)⟩] [54, 55, 56, 57, 58, 59, 60])
 (.seq (.reg [] [⟨none, .mv 61 (.t 11)⟩, ⟨none, .ia 62 (.t 7) (.t 61)⟩, ⟨none, .ld 63 (.t 62)⟩, ⟨none, .bin 64 .add (.t 63) (.c (.int .i64 1))⟩, ⟨none, .ia 65 (.t 7) (.t 61)⟩, ⟨none, .st (.t 65) (.t 64)⟩] [61, 62, 63, 64, 65])
 (.seq (.reg [] [⟨none, .mv 66 (.t 11)⟩, ⟨none, .ia 67 (.t 7) (.t 66)⟩, ⟨none, .ld 68 (.t 67)⟩, ⟨none, .bin 69 .eql (.t 68) (.c (.int .i64 2))⟩, ⟨none, .mv 70 (.t 69)⟩, ⟨some (70, true), .mv 71 (.t 11)⟩, ⟨some (70, true), .ia 72 (.t 8) (.t 71)⟩, ⟨some (70, true), .ld 73 (.t 72)⟩, ⟨some (70, true), .un 74 .not (.t 73)⟩, ⟨none, .pick 75 (.t 70) (.t 74) (.c (.bool false))⟩, ⟨none, .mv 15 (.t 75)⟩] [66, 67, 68, 69, 70, 71, 72, 73, 74, 75])
 (.seq (.seq (.reg [] [⟨none, .mv 76 (.t 15)⟩] [])
 (.cond (.t 76) (.seq (.reg [] [⟨none, .mv 77 (.t 11)⟩, ⟨none, .ia 78 (.t 8) (.t 77)⟩, ⟨none, .st (.t 78) (.c (.bool true))⟩] [77, 78])
 (.reg [] [⟨none, .mv 79 (.t 9)⟩, ⟨none, .bin 80 .sub (.t 79) (.c (.int .i64 1))⟩, ⟨none, .mv 9 (.t 80)⟩] [79, 80]))
 .skip))
 (.seq (.seq (.reg [] [⟨none, .mv 81 (.t 13)⟩, ⟨none, .mv 82 (.t 15)⟩, ⟨none, .bin 83 .neq (.t 81) (.t 82)⟩, ⟨none, .mv 84 (.t 83)⟩, ⟨some (84, false), .mv 85 (.t 14)⟩, ⟨some (84, false), .mv 86 (.t 15)⟩, ⟨some (84, false), .mv 87 (.t 86)⟩, ⟨some (87, true), .mv 88 (.t 9)⟩, ⟨some (87, true), .bin 89 .eql (.t 88) (.c (.int .i64 0))⟩, ⟨some (84, false), .pick 90 (.t 87) (.t 89) (.c (.bool false))⟩, ⟨some (84, false), .bin 91 .neq (.t 85) (.t 90)⟩, ⟨none, .pick 92 (.t 84) (.c (.bool true)) (.t 91)⟩, ⟨none, .mv 93 (.t 92)⟩, ⟨some (93, false), .fa 94 (.t 12) 1⟩, ⟨some (93, false), .ld 95 (.t 94)⟩, ⟨some (93, false), .len 96 (.t 95)⟩, ⟨some (93, false), .mv 97 (.t 5)⟩, ⟨some (93, false), .bin 98 .neq (.t 96) (.t 97)⟩, ⟨none, .pick 99 (.t 93) (.c (.bool true)) (.t 98)⟩, ⟨none, .mv 100 (.t 99)⟩, ⟨some (100, false), .fa 101 (.t 12) 1⟩, ⟨some (100, false), .ld 102 (.t 101)⟩, ⟨some (100, false), .mv 103 (.t 11)⟩, ⟨some (100, false), .ia 104 (.t 102) (.t 103)⟩, ⟨some (100, false), .ld 105 (.t 104)⟩, ⟨some (100, false), .mv 106 (.t 11)⟩, ⟨some (100, false), .ia 107 (.t 8) (.t 106)⟩, ⟨some (100, false), .ld 108 (.t 107)⟩, ⟨some (100, false), .bin 109 .neq (.t 105) (.t 108)⟩, ⟨none, .pick 110 (.t 100) (.c (.bool true)) (.t 109)⟩] [11, 13, 14, 15, 81, 82, 83, 84, 85, 86, 87, 88, 89, 90, 91, 92, 93, 94, 95, 96, 97, 98, 99, 100, 101, 102, 103, 104, 105, 106, 107, 108, 109])
 (.cond (.t 110) (.seq (.reg [] [⟨none, .mv 4 (.c (.bool false))⟩] [])
 .ret)
 .skip))
 (.reg [] [⟨none, .ld 111 (.t 12)⟩, ⟨none, .st (.t 6) (.t 111)⟩] [12, 111])))))))))
 (.reg [] [⟨none, .mv 32 (.t 10)⟩, ⟨none, .bin 33 .add (.t 32) (.c (.int .i64 1))⟩, ⟨none, .mv 10 (.t 33)⟩] [32, 33])))
def k_law23_WatchStops_L0 : K := k_law23_WatchStops_L0b
def k_law23_WatchStops : KF := ⟨(.seq (.reg [] [⟨none, .mv 4 (.c (.bool false))⟩] [4])
 (.seq (.seq (.reg [] [⟨none, .dat 16 f_law23_begun []⟩, ⟨none, .un 17 .not (.t 16)⟩] [16])
 (.cond (.t 17) (.seq (.reg [] [⟨none, .mv 4 (.c (.bool false))⟩] [])
 .ret)
 .skip))
 (.seq (.seq (.reg [] [⟨none, .mv 18 (.t 1)⟩, ⟨none, .len 19 (.t 18)⟩, ⟨none, .bin 20 .gtr (.t 19) (.c (.int .i64 80))⟩] [18, 19])
 (.cond (.t 20) (.seq (.reg [] [⟨none, .mv 4 (.c (.bool true))⟩] [])
 .ret)
 .skip))
 (.seq (.reg [] [⟨none, .mv 21 (.t 0)⟩, ⟨none, .bin 22 .rem (.t 21) (.c (.int .u8 5))⟩, ⟨none, .cv 23 .i64 (.t 22)⟩, ⟨none, .bin 24 .add (.c (.int .i64 1)) (.t 23)⟩, ⟨none, .mv 5 (.t 24)⟩] [0, 21, 22, 23, 24])
 (.seq (.reg [] [⟨none, .mv 25 (.t 5)⟩, ⟨none, .dat 26 f_watch_New [(.t 25)]⟩, ⟨none, .alc 6 (.d (.agg [(.sl true []), (.sl true [])]))⟩, ⟨none, .st (.t 6) (.t 26)⟩] [25, 26])
 (.seq (.reg [] [⟨none, .alc 7 (.d (.agg [(.int .i64 0), (.int .i64 0), (.int .i64 0), (.int .i64 0), (.int .i64 0), (.int .i64 0)]))⟩] [])
 (.seq (.reg [] [⟨none, .alc 8 (.d (.agg [(.bool false), (.bool false), (.bool false), (.bool false), (.bool false), (.bool false)]))⟩] [])
 (.seq (.reg [] [⟨none, .mv 27 (.t 5)⟩, ⟨none, .mv 9 (.t 27)⟩] [27])
 (.seq (.seq (.reg [] [⟨none, .mv 10 (.c (.int .i64 0))⟩] [])
 (.blk 0 (.loop [1, 5, 6, 7, 8, 9, 10] k_law23_WatchStops_L0)))
 (.seq (.reg [] [⟨none, .mv 4 (.c (.bool true))⟩] [])
 .ret)))))))))), [.t 4]⟩
/- foliot/foliotlaw23.WatchForms -/
def k_law23_WatchForms_L0b : K := (.seq (.seq (.reg [] [⟨none, .mv 16 (.t 4)⟩, ⟨none, .mv 17 (.t 2)⟩, ⟨none, .len 18 (.t 17)⟩, ⟨none, .bin 19 .lss (.t 16) (.t 18)⟩] [16, 17, 18])
 (.cond (.t 19) .skip
 (.ext 0)))
 (.seq (.blk 1 (.seq (.seq (.reg [] [⟨none, .mv 22 (.t 2)⟩, ⟨none, .mv 23 (.t 4)⟩, ⟨none, .ia 24 (.t 22) (.t 23)⟩, ⟨none, .ld 25 (.t 24)⟩, ⟨none, .bin 26 .lss (.t 25) (.c (.int .i64 0))⟩] [22, 23, 24, 25])
 (.cond (.t 26) (.seq (.reg [] [⟨none, .ld 27 (.t 1)⟩, ⟨none, .mv 28 (.t 2)⟩, ⟨none, .mv 29 (.t 4)⟩, ⟨none, .ia 30 (.t 28) (.t 29)⟩, ⟨none, .ld 31 (.t 30)⟩, ⟨none, .bin 32 .sub (.c (.int .i64 (-1))) (.t 31)⟩, ⟨none, .dat 33 f_watch_Good [(.t 27), (.t 32)]⟩, ⟨none, .st (.t 1) (.t 33)⟩] [27, 28, 29, 30, 31, 32, 33])
 (.ext 1))
 .skip))
 (.seq (.reg [(0, 10), (3, 10), (4, 10), (5, 10)] [⟨none, .ld 35 (.t 1)⟩, ⟨none, .mv 36 (.t 2)⟩, ⟨none, .mv 37 (.t 4)⟩, ⟨none, .ia 38 (.t 36) (.t 37)⟩, ⟨none, .ld 39 (.t 38)⟩, ⟨none, .dat 40 f_watch_Miss [(.t 35), (.t 39)]⟩, ⟨none, .mv 34 (.t 40)⟩, ⟨none, .ex 41 (.t 34) 0⟩, ⟨none, .ex 42 (.t 34) 1⟩, ⟨none, .ex 43 (.t 34) 2⟩, ⟨none, .alc 5 (.d (.agg [(.sl true []), (.sl true [])]))⟩, ⟨none, .st (.t 5) (.t 41)⟩, ⟨none, .mv 6 (.t 42)⟩, ⟨none, .mv 7 (.t 43)⟩] [34, 35, 36, 37, 38, 39, 40, 41, 42, 43])
 (.seq (.seq (.reg [] [⟨none, .mv 44 (.t 6)⟩, ⟨none, .mv 45 (.t 3)⟩, ⟨none, .mv 46 (.t 4)⟩, ⟨none, .ia 47 (.t 45) (.t 46)⟩, ⟨none, .ld 48 (.t 47)⟩, ⟨none, .bin 49 .neq (.t 44) (.t 48)⟩, ⟨none, .mv 50 (.t 49)⟩, ⟨some (50, false), .mv 51 (.t 7)⟩, ⟨some (50, false), .mv 52 (.t 4)⟩, ⟨some (50, false), .bin 53 .eql (.t 52) (.c (.int .i64 8))⟩, ⟨some (50, false), .bin 54 .neq (.t 51) (.t 53)⟩, ⟨none, .pick 55 (.t 50) (.c (.bool true)) (.t 54)⟩] [6, 7, 44, 45, 46, 47, 48, 49, 50, 51, 52, 53, 54])
 (.cond (.t 55) (.seq (.reg [] [⟨none, .mv 0 (.c (.bool false))⟩] [])
 .ret)
 .skip))
 (.reg [] [⟨none, .ld 56 (.t 5)⟩, ⟨none, .st (.t 1) (.t 56)⟩] [5, 56])))))
 (.reg [] [⟨none, .mv 20 (.t 4)⟩, ⟨none, .bin 21 .add (.t 20) (.c (.int .i64 1))⟩, ⟨none, .mv 4 (.t 21)⟩] [20, 21])))
def k_law23_WatchForms_L0 : K := k_law23_WatchForms_L0b
def k_law23_WatchForms : KF := ⟨(.seq (.reg [] [⟨none, .mv 0 (.c (.bool false))⟩] [0])
 (.seq (.seq (.reg [] [⟨none, .dat 11 f_law23_begun []⟩, ⟨none, .un 12 .not (.t 11)⟩] [11])
 (.cond (.t 12) (.seq (.reg [] [⟨none, .mv 0 (.c (.bool false))⟩] [])
 .ret)
 .skip))
 (.seq (.reg [] [⟨none, .dat 13 f_watch_New [(.c (.int .i64 2))]⟩, ⟨none, .alc 1 (.d (.agg [(.sl true []), (.sl true [])]))⟩, ⟨none, .st (.t 1) (.t 13)⟩] [13])
 (.seq (.reg [] [⟨none, .bsl 14 [(.c (.int .i64 0)), (.c (.int .i64 (-1))), (.c (.int .i64 0)), (.c (.int .i64 0)), (.c (.int .i64 0)), (.c (.int .i64 1)), (.c (.int .i64 (-2))), (.c (.int .i64 1)), (.c (.int .i64 1)), (.c (.int .i64 1))]⟩, ⟨none, .mv 2 (.t 14)⟩] [14])
 (.seq (.reg [] [⟨none, .bsl 15 [(.c (.bool false)), (.c (.bool false)), (.c (.bool false)), (.c (.bool true)), (.c (.bool false)), (.c (.bool false)), (.c (.bool false)), (.c (.bool false)), (.c (.bool true)), (.c (.bool false))]⟩, ⟨none, .mv 3 (.t 15)⟩] [15])
 (.seq (.seq (.reg [] [⟨none, .mv 4 (.c (.int .i64 0))⟩] [])
 (.blk 0 (.loop [1, 2, 3, 4] k_law23_WatchForms_L0)))
 (.seq (.reg [] [⟨none, .ld 58 (.t 1)⟩, ⟨none, .dat 59 f_watch_Miss [(.t 58), (.c (.int .i64 2))]⟩, ⟨none, .mv 57 (.t 59)⟩, ⟨none, .ex 60 (.t 57) 0⟩, ⟨none, .ex 61 (.t 57) 1⟩, ⟨none, .ex 62 (.t 57) 2⟩, ⟨none, .alc 8 (.d (.agg [(.sl true []), (.sl true [])]))⟩, ⟨none, .st (.t 8) (.t 60)⟩, ⟨none, .mv 9 (.t 61)⟩, ⟨none, .mv 10 (.t 62)⟩] [1, 57, 58, 59, 60, 61, 62])
 (.seq (.reg [] [⟨none, .mv 63 (.t 9)⟩, ⟨none, .un 64 .not (.t 63)⟩, ⟨none, .mv 65 (.t 64)⟩, ⟨some (65, true), .mv 66 (.t 10)⟩, ⟨some (65, true), .un 67 .not (.t 66)⟩, ⟨none, .pick 68 (.t 65) (.t 67) (.c (.bool false))⟩, ⟨none, .mv 69 (.t 68)⟩, ⟨some (69, true), .fa 70 (.t 8) 1⟩, ⟨some (69, true), .ld 71 (.t 70)⟩, ⟨some (69, true), .len 72 (.t 71)⟩, ⟨some (69, true), .bin 73 .eql (.t 72) (.c (.int .i64 2))⟩, ⟨none, .pick 74 (.t 69) (.t 73) (.c (.bool false))⟩, ⟨none, .mv 75 (.t 74)⟩, ⟨some (75, true), .fa 76 (.t 8) 1⟩, ⟨some (75, true), .ld 77 (.t 76)⟩, ⟨some (75, true), .ia 78 (.t 77) (.c (.int .i64 0))⟩, ⟨some (75, true), .ld 79 (.t 78)⟩, ⟨none, .pick 80 (.t 75) (.t 79) (.c (.bool false))⟩, ⟨none, .mv 81 (.t 80)⟩, ⟨some (81, true), .fa 82 (.t 8) 1⟩, ⟨some (81, true), .ld 83 (.t 82)⟩, ⟨some (81, true), .ia 84 (.t 83) (.c (.int .i64 1))⟩, ⟨some (81, true), .ld 85 (.t 84)⟩, ⟨none, .pick 86 (.t 81) (.t 85) (.c (.bool false))⟩, ⟨none, .mv 87 (.t 86)⟩, ⟨some (87, true), .dat 88 f_watch_New [(.c (.int .i64 0))]⟩, ⟨some (87, true), .fd 89 (.t 88) 1⟩, ⟨some (87, true), .len 90 (.t 89)⟩, ⟨some (87, true), .bin 91 .eql (.t 90) (.c (.int .i64 0))⟩, ⟨none, .pick 92 (.t 87) (.t 91) (.c (.bool false))⟩, ⟨none, .mv 0 (.t 92)⟩] [8, 9, 10, 63, 64, 65, 66, 67, 68, 69, 70, 71, 72, 73, 74, 75, 76, 77, 78, 79, 80, 81, 82, 83, 84, 85, 86, 87, 88, 89, 90, 91, 92])
 .ret)))))))), [.t 0]⟩
/- foliot/foliotlaw11.SemaAll -/
def k_law11_SemaAll_L1b : K := (.seq (.seq (.reg [] [⟨none, .mv 51 (.t 12)⟩, ⟨none, .bin 52 .lss (.t 51) (.c (.int .i64 4))⟩] [51])
 (.cond (.t 52) .skip
 (.ext 2)))
 (.seq (.blk 3 (.seq (.reg [] [⟨none, .mv 56 (.t 0)⟩, ⟨none, .mv 57 (.t 10)⟩, ⟨none, .mv 58 (.t 12)⟩, ⟨none, .ia 59 (.t 57) (.t 58)⟩, ⟨none, .ld 60 (.t 59)⟩, ⟨none, .mv 61 (.t 9)⟩, ⟨none, .mv 62 (.t 11)⟩, ⟨none, .ia 63 (.t 61) (.t 62)⟩, ⟨none, .ld 64 (.t 63)⟩, ⟨none, .dat 65 f_sema_Take [(.t 56), (.t 60), (.t 64)]⟩, ⟨none, .mv 55 (.t 65)⟩, ⟨none, .ex 66 (.t 55) 0⟩, ⟨none, .ex 67 (.t 55) 1⟩, ⟨none, .mv 13 (.t 66)⟩, ⟨none, .mv 14 (.t 67)⟩] [55, 56, 57, 58, 59, 60, 61, 62, 63, 64, 65, 66, 67])
 (.seq (.reg [] [⟨none, .mv 69 (.t 0)⟩, ⟨none, .mv 70 (.t 10)⟩, ⟨none, .mv 71 (.t 12)⟩, ⟨none, .ia 72 (.t 70) (.t 71)⟩, ⟨none, .ld 73 (.t 72)⟩, ⟨none, .mv 74 (.t 9)⟩, ⟨none, .mv 75 (.t 11)⟩, ⟨none, .ia 76 (.t 74) (.t 75)⟩, ⟨none, .ld 77 (.t 76)⟩, ⟨none, .dat 78 f_ref11_TakeSema [(.t 69), (.t 73), (.t 77)]⟩, ⟨none, .mv 68 (.t 78)⟩, ⟨none, .ex 79 (.t 68) 0⟩, ⟨none, .ex 80 (.t 68) 1⟩, ⟨none, .mv 15 (.t 79)⟩, ⟨none, .mv 16 (.t 80)⟩] [68, 69, 70, 71, 72, 73, 74, 75, 76, 77, 78, 79, 80])
 (.seq (.reg [] [⟨none, .mv 82 (.t 0)⟩, ⟨none, .mv 83 (.t 10)⟩, ⟨none, .mv 84 (.t 12)⟩, ⟨none, .ia 85 (.t 83) (.t 84)⟩, ⟨none, .ld 86 (.t 85)⟩, ⟨none, .mv 87 (.t 9)⟩, ⟨none, .mv 88 (.t 11)⟩, ⟨none, .ia 89 (.t 87) (.t 88)⟩, ⟨none, .ld 90 (.t 89)⟩, ⟨none, .dat 91 f_sema_Let [(.t 82), (.t 86), (.t 90)]⟩, ⟨none, .mv 81 (.t 91)⟩, ⟨none, .ex 92 (.t 81) 0⟩, ⟨none, .ex 93 (.t 81) 1⟩, ⟨none, .mv 17 (.t 92)⟩, ⟨none, .mv 18 (.t 93)⟩] [81, 82, 83, 84, 85, 86, 87, 88, 89, 90, 91, 92, 93])
 (.seq (.reg [] [⟨none, .mv 95 (.t 0)⟩, ⟨none, .mv 96 (.t 10)⟩, ⟨none, .mv 97 (.t 12)⟩, ⟨none, .ia 98 (.t 96) (.t 97)⟩, ⟨none, .ld 99 (.t 98)⟩, ⟨none, .mv 100 (.t 9)⟩, ⟨none, .mv 101 (.t 11)⟩, ⟨none, .ia 102 (.t 100) (.t 101)⟩, ⟨none, .ld 103 (.t 102)⟩, ⟨none, .dat 104 f_ref11_LetSema [(.t 95), (.t 99), (.t 103)]⟩, ⟨none, .mv 94 (.t 104)⟩, ⟨none, .ex 105 (.t 94) 0⟩, ⟨none, .ex 106 (.t 94) 1⟩, ⟨none, .mv 19 (.t 105)⟩, ⟨none, .mv 20 (.t 106)⟩] [94, 95, 96, 97, 98, 99, 100, 101, 102, 103, 104, 105, 106])
 (.seq (.reg [] [⟨none, .mv 107 (.t 14)⟩, ⟨none, .mv 108 (.t 16)⟩, ⟨none, .bin 109 .neq (.t 107) (.t 108)⟩, ⟨none, .mv 110 (.t 109)⟩, ⟨some (110, false), .mv 111 (.t 13)⟩, ⟨some (110, false), .mv 112 (.t 15)⟩, ⟨some (110, false), .dat 113 f_ref11_SameSemas [(.t 111), (.t 112)]⟩, ⟨some (110, false), .un 114 .not (.t 113)⟩, ⟨none, .pick 115 (.t 110) (.c (.bool true)) (.t 114)⟩, ⟨none, .mv 116 (.t 115)⟩, ⟨some (116, false), .mv 117 (.t 18)⟩, ⟨some (116, false), .mv 118 (.t 20)⟩, ⟨some (116, false), .bin 119 .neq (.t 117) (.t 118)⟩, ⟨none, .pick 120 (.t 116) (.c (.bool true)) (.t 119)⟩, ⟨none, .mv 121 (.t 120)⟩, ⟨some (121, false), .mv 122 (.t 17)⟩, ⟨some (121, false), .mv 123 (.t 19)⟩, ⟨some (121, false), .dat 124 f_ref11_SameSemas [(.t 122), (.t 123)]⟩, ⟨some (121, false), .un 125 .not (.t 124)⟩, ⟨none, .pick 126 (.t 121) (.c (.bool true)) (.t 125)⟩] [13, 14, 15, 16, 17, 18, 19, 20, 107, 108, 109, 110, 111, 112, 113, 114, 115, 116, 117, 118, 119, 120, 121, 122, 123, 124, 125])
 (.cond (.t 126) (.seq (.reg [] [⟨none, .mv 8 (.c (.bool false))⟩] [])
 .ret)
 .skip)))))))
 (.reg [] [⟨none, .mv 53 (.t 12)⟩, ⟨none, .bin 54 .add (.t 53) (.c (.int .i64 1))⟩, ⟨none, .mv 12 (.t 54)⟩] [53, 54])))
def k_law11_SemaAll_L1 : K := k_law11_SemaAll_L1b
def k_law11_SemaAll_L0b : K := (.seq (.seq (.reg [] [⟨none, .mv 47 (.t 11)⟩, ⟨none, .bin 48 .lss (.t 47) (.c (.int .i64 4))⟩] [47])
 (.cond (.t 48) .skip
 (.ext 0)))
 (.seq (.blk 1 (.seq (.seq (.reg [] [⟨none, .mv 12 (.c (.int .i64 0))⟩] [])
 (.blk 2 (.loop [0, 1, 9, 10, 11, 12] k_law11_SemaAll_L1)))
 (.seq (.reg [] [⟨none, .mv 128 (.t 0)⟩, ⟨none, .mv 129 (.t 1)⟩, ⟨none, .mv 130 (.t 9)⟩, ⟨none, .mv 131 (.t 11)⟩, ⟨none, .ia 132 (.t 130) (.t 131)⟩, ⟨none, .ld 133 (.t 132)⟩, ⟨none, .dat 134 f_sema_Low [(.t 128), (.t 129), (.t 133)]⟩, ⟨none, .mv 127 (.t 134)⟩, ⟨none, .ex 135 (.t 127) 0⟩, ⟨none, .ex 136 (.t 127) 1⟩, ⟨none, .mv 21 (.t 135)⟩, ⟨none, .mv 22 (.t 136)⟩] [127, 128, 129, 130, 131, 132, 133, 134, 135, 136])
 (.seq (.reg [] [⟨none, .mv 138 (.t 0)⟩, ⟨none, .mv 139 (.t 1)⟩, ⟨none, .mv 140 (.t 9)⟩, ⟨none, .mv 141 (.t 11)⟩, ⟨none, .ia 142 (.t 140) (.t 141)⟩, ⟨none, .ld 143 (.t 142)⟩, ⟨none, .dat 144 f_ref11_Low [(.t 138), (.t 139), (.t 143)]⟩, ⟨none, .mv 137 (.t 144)⟩, ⟨none, .ex 145 (.t 137) 0⟩, ⟨none, .ex 146 (.t 137) 1⟩, ⟨none, .mv 23 (.t 145)⟩, ⟨none, .mv 24 (.t 146)⟩] [137, 138, 139, 140, 141, 142, 143, 144, 145, 146])
 (.seq (.reg [(14, 18), (14, 19)] [⟨none, .mv 147 (.t 21)⟩, ⟨none, .mv 148 (.t 23)⟩, ⟨none, .bin 149 .neq (.t 147) (.t 148)⟩, ⟨none, .mv 150 (.t 149)⟩, ⟨some (150, false), .mv 151 (.t 22)⟩, ⟨some (150, false), .mv 152 (.t 24)⟩, ⟨some (150, false), .bin 153 .neq (.t 151) (.t 152)⟩, ⟨none, .pick 154 (.t 150) (.c (.bool true)) (.t 153)⟩, ⟨none, .mv 155 (.t 154)⟩, ⟨some (155, false), .mv 156 (.t 0)⟩, ⟨some (155, false), .mv 157 (.t 9)⟩, ⟨some (155, false), .mv 158 (.t 11)⟩, ⟨some (155, false), .ia 159 (.t 157) (.t 158)⟩, ⟨some (155, false), .ld 160 (.t 159)⟩, ⟨some (155, false), .dat 161 f_sema_All [(.t 156), (.t 160)]⟩, ⟨some (155, false), .mv 162 (.t 0)⟩, ⟨some (155, false), .mv 163 (.t 9)⟩, ⟨some (155, false), .mv 164 (.t 11)⟩, ⟨some (155, false), .ia 165 (.t 163) (.t 164)⟩, ⟨some (155, false), .ld 166 (.t 165)⟩, ⟨some (155, false), .dat 167 f_ref11_AllSemas [(.t 162), (.t 166)]⟩, ⟨some (155, false), .dat 168 f_ref11_SameSemas [(.t 161), (.t 167)]⟩, ⟨some (155, false), .un 169 .not (.t 168)⟩, ⟨none, .pick 170 (.t 155) (.c (.bool true)) (.t 169)⟩] [21, 22, 23, 24, 147, 148, 149, 150, 151, 152, 153, 154, 155, 156, 157, 158, 159, 160, 161, 162, 163, 164, 165, 166, 167, 168, 169])
 (.cond (.t 170) (.seq (.reg [] [⟨none, .mv 8 (.c (.bool false))⟩] [])
 .ret)
 .skip))))))
 (.reg [] [⟨none, .mv 49 (.t 11)⟩, ⟨none, .bin 50 .add (.t 49) (.c (.int .i64 1))⟩, ⟨none, .mv 11 (.t 50)⟩] [49, 50])))
def k_law11_SemaAll_L0 : K := k_law11_SemaAll_L0b
def k_law11_SemaAll : KF := ⟨(.seq (.reg [] [⟨none, .mv 8 (.c (.bool false))⟩] [8])
 (.seq (.seq (.reg [] [⟨none, .dat 25 f_law11_begun []⟩, ⟨none, .un 26 .not (.t 25)⟩] [25])
 (.cond (.t 26) (.seq (.reg [] [⟨none, .mv 8 (.c (.bool false))⟩] [])
 .ret)
 .skip))
 (.seq (.seq (.reg [] [⟨none, .mv 27 (.t 0)⟩, ⟨none, .len 28 (.t 27)⟩, ⟨none, .bin 29 .gtr (.t 28) (.c (.int .i64 6))⟩, ⟨none, .mv 30 (.t 29)⟩, ⟨some (30, false), .mv 31 (.t 1)⟩, ⟨some (30, false), .len 32 (.t 31)⟩, ⟨some (30, false), .bin 33 .gtr (.t 32) (.c (.int .i64 6))⟩, ⟨none, .pick 34 (.t 30) (.c (.bool true)) (.t 33)⟩, ⟨none, .mv 35 (.t 34)⟩, ⟨some (35, false), .mv 36 (.t 3)⟩, ⟨some (35, false), .bin 37 .lss (.t 36) (.c (.int .i64 0))⟩, ⟨none, .pick 38 (.t 35) (.c (.bool true)) (.t 37)⟩, ⟨none, .mv 39 (.t 38)⟩, ⟨some (39, false), .mv 40 (.t 3)⟩, ⟨some (39, false), .bin 41 .gtr (.t 40) (.c (.int .i64 1099511627776))⟩, ⟨none, .pick 42 (.t 39) (.c (.bool true)) (.t 41)⟩] [27, 28, 29, 30, 31, 32, 33, 34, 35, 36, 37, 38, 39, 40, 41])
 (.cond (.t 42) (.seq (.reg [] [⟨none, .mv 8 (.c (.bool true))⟩] [])
 .ret)
 .skip))
 (.seq (.reg [] [⟨none, .mv 43 (.t 3)⟩, ⟨none, .bsl 44 [(.t 43), (.c (.int .i64 0)), (.c (.int .i64 1)), (.c (.int .i64 2))]⟩, ⟨none, .mv 45 (.t 2)⟩, ⟨none, .bsl 46 [(.t 45), (.c (.int .i64 0)), (.c (.int .i64 1)), (.c (.int .i64 3))]⟩, ⟨none, .mv 9 (.t 44)⟩, ⟨none, .mv 10 (.t 46)⟩] [2, 3, 43, 44, 45, 46])
 (.seq (.seq (.reg [] [⟨none, .mv 11 (.c (.int .i64 0))⟩] [])
 (.blk 0 (.loop [0, 1, 9, 10, 11] k_law11_SemaAll_L0)))
 (.seq (.reg [] [⟨none, .mv 8 (.c (.bool true))⟩] [])
 .ret)))))), [.t 8]⟩
/- foliot/foliotlaw11.begun -/
def k_law11_begun : KF := ⟨(.seq (.reg [] [⟨none, .mv 0 (.c (.bool false))⟩] [0])
 (.seq (.reg [] [⟨none, .bld 10 [(.c (.int .i64 2)), (.c (.int .i64 0))]⟩, ⟨none, .bsl 11 [(.t 10)]⟩, ⟨none, .dat 12 f_sema_Take [(.t 11), (.c (.int .i64 0)), (.c (.int .i64 3))]⟩, ⟨none, .mv 9 (.t 12)⟩, ⟨none, .ex 13 (.t 9) 0⟩, ⟨none, .ex 14 (.t 9) 1⟩, ⟨none, .mv 1 (.t 13)⟩, ⟨none, .mv 2 (.t 14)⟩] [9, 10, 11, 12, 13, 14])
 (.seq (.reg [] [⟨none, .mv 16 (.t 1)⟩, ⟨none, .dat 17 f_sema_Take [(.t 16), (.c (.int .i64 0)), (.c (.int .i64 4))]⟩, ⟨none, .mv 15 (.t 17)⟩, ⟨none, .ex 18 (.t 15) 0⟩, ⟨none, .ex 19 (.t 15) 1⟩, ⟨none, .mv 3 (.t 18)⟩, ⟨none, .mv 4 (.t 19)⟩] [3, 15, 16, 17, 18, 19])
 (.seq (.reg [] [⟨none, .mv 21 (.t 1)⟩, ⟨none, .bsl 22 [(.c (.int .i64 0))]⟩, ⟨none, .dat 23 f_sema_Low [(.t 21), (.t 22), (.c (.int .i64 3))]⟩, ⟨none, .mv 20 (.t 23)⟩, ⟨none, .ex 24 (.t 20) 0⟩, ⟨none, .ex 25 (.t 20) 1⟩, ⟨none, .mv 5 (.t 24)⟩, ⟨none, .mv 6 (.t 25)⟩] [20, 21, 22, 23, 24, 25])
 (.seq (.reg [] [⟨none, .mv 27 (.t 1)⟩, ⟨none, .dat 28 f_sema_Let [(.t 27), (.c (.int .i64 0)), (.c (.int .i64 3))]⟩, ⟨none, .mv 26 (.t 28)⟩, ⟨none, .ex 29 (.t 26) 0⟩, ⟨none, .ex 30 (.t 26) 1⟩, ⟨none, .mv 7 (.t 29)⟩, ⟨none, .mv 8 (.t 30)⟩] [26, 27, 28, 29, 30])
 (.seq (.reg [] [⟨none, .mv 31 (.t 2)⟩, ⟨none, .mv 32 (.t 31)⟩, ⟨some (32, true), .mv 33 (.t 1)⟩, ⟨some (32, true), .len 34 (.t 33)⟩, ⟨some (32, true), .bin 35 .eql (.t 34) (.c (.int .i64 1))⟩, ⟨none, .pick 36 (.t 32) (.t 35) (.c (.bool false))⟩, ⟨none, .mv 37 (.t 36)⟩, ⟨some (37, true), .mv 38 (.t 1)⟩, ⟨some (37, true), .ia 39 (.t 38) (.c (.int .i64 0))⟩, ⟨some (37, true), .fa 40 (.t 39) 1⟩, ⟨some (37, true), .ld 41 (.t 40)⟩, ⟨some (37, true), .bin 42 .eql (.t 41) (.c (.int .i64 4))⟩, ⟨none, .pick 43 (.t 37) (.t 42) (.c (.bool false))⟩, ⟨none, .mv 44 (.t 43)⟩, ⟨some (44, true), .mv 45 (.t 4)⟩, ⟨some (44, true), .un 46 .not (.t 45)⟩, ⟨none, .pick 47 (.t 44) (.t 46) (.c (.bool false))⟩, ⟨none, .mv 48 (.t 47)⟩, ⟨some (48, true), .mv 49 (.t 6)⟩, ⟨none, .pick 50 (.t 48) (.t 49) (.c (.bool false))⟩, ⟨none, .mv 51 (.t 50)⟩, ⟨some (51, true), .mv 52 (.t 5)⟩, ⟨some (51, true), .bin 53 .eql (.t 52) (.c (.int .i64 2))⟩, ⟨none, .pick 54 (.t 51) (.t 53) (.c (.bool false))⟩, ⟨none, .mv 55 (.t 54)⟩, ⟨some (55, true), .mv 56 (.t 8)⟩, ⟨none, .pick 57 (.t 55) (.t 56) (.c (.bool false))⟩, ⟨none, .mv 58 (.t 57)⟩, ⟨some (58, true), .mv 59 (.t 7)⟩, ⟨some (58, true), .len 60 (.t 59)⟩, ⟨some (58, true), .bin 61 .eql (.t 60) (.c (.int .i64 1))⟩, ⟨none, .pick 62 (.t 58) (.t 61) (.c (.bool false))⟩, ⟨none, .mv 63 (.t 62)⟩, ⟨some (63, true), .mv 64 (.t 7)⟩, ⟨some (63, true), .ia 65 (.t 64) (.c (.int .i64 0))⟩, ⟨some (63, true), .fa 66 (.t 65) 1⟩, ⟨some (63, true), .ld 67 (.t 66)⟩, ⟨some (63, true), .bin 68 .eql (.t 67) (.c (.int .i64 0))⟩, ⟨none, .pick 69 (.t 63) (.t 68) (.c (.bool false))⟩, ⟨none, .mv 70 (.t 69)⟩, ⟨some (70, true), .mv 71 (.t 1)⟩, ⟨some (70, true), .dat 72 f_sema_All [(.t 71), (.c (.int .i64 3))]⟩, ⟨some (70, true), .len 73 (.t 72)⟩, ⟨some (70, true), .bin 74 .eql (.t 73) (.c (.int .i64 1))⟩, ⟨none, .pick 75 (.t 70) (.t 74) (.c (.bool false))⟩, ⟨none, .mv 0 (.t 75)⟩] [1, 2, 4, 5, 6, 7, 8, 31, 32, 33, 34, 35, 36, 37, 38, 39, 40, 41, 42, 43, 44, 45, 46, 47, 48, 49, 50, 51, 52, 53, 54, 55, 56, 57, 58, 59, 60, 61, 62, 63, 64, 65, 66, 67, 68, 69, 70, 71, 72, 73, 74, 75])
 .ret)))))), [.t 0]⟩
/- foliot/sema.Take -/
def k_sema_Take : KF := ⟨(.seq (.reg [] [⟨none, .mv 6 (.c (.d (.sl true [])))⟩, ⟨none, .mv 7 (.c (.bool false))⟩] [6, 7])
 (.seq (.reg [] [⟨none, .mv 9 (.t 0)⟩, ⟨none, .dat 10 f_slices_Clone_api_Sema_api_Sema [(.t 9)]⟩, ⟨none, .mv 8 (.t 10)⟩] [9, 10])
 (.seq (.seq (.reg [] [⟨none, .mv 11 (.t 0)⟩, ⟨none, .mv 12 (.t 1)⟩, ⟨none, .dat 13 f_sema_has [(.t 11), (.t 12)]⟩, ⟨none, .un 14 .not (.t 13)⟩, ⟨none, .mv 15 (.t 14)⟩, ⟨some (15, false), .mv 16 (.t 0)⟩, ⟨some (15, false), .mv 17 (.t 1)⟩, ⟨some (15, false), .ia 18 (.t 16) (.t 17)⟩, ⟨some (15, false), .fa 19 (.t 18) 1⟩, ⟨some (15, false), .ld 20 (.t 19)⟩, ⟨some (15, false), .bin 21 .neq (.t 20) (.c (.int .i64 0))⟩, ⟨none, .pick 22 (.t 15) (.c (.bool true)) (.t 21)⟩] [0, 11, 12, 13, 14, 15, 16, 17, 18, 19, 20, 21])
 (.cond (.t 22) (.seq (.reg [] [⟨none, .mv 23 (.t 8)⟩, ⟨none, .mv 6 (.t 23)⟩, ⟨none, .mv 7 (.c (.bool false))⟩] [8, 23])
 .ret)
 .skip))
 (.seq (.reg [] [⟨none, .mv 24 (.t 8)⟩, ⟨none, .mv 25 (.t 1)⟩, ⟨none, .mv 26 (.t 2)⟩, ⟨none, .bin 27 .add (.t 26) (.c (.int .i64 1))⟩, ⟨none, .ia 28 (.t 24) (.t 25)⟩, ⟨none, .fa 29 (.t 28) 1⟩, ⟨none, .st (.t 29) (.t 27)⟩] [1, 2, 24, 25, 26, 27, 28, 29])
 (.seq (.reg [] [⟨none, .mv 30 (.t 8)⟩, ⟨none, .mv 6 (.t 30)⟩, ⟨none, .mv 7 (.c (.bool true))⟩] [8, 30])
 .ret))))), [.t 6, .t 7]⟩
/- slices.Clone[[]foliot/api.Sema,foliot/api.Sema] -/
def k_slices_Clone_api_Sema_api_Sema : KF := ⟨(.seq (.reg [] [⟨none, .mv 2 (.c (.d (.sl true [])))⟩] [2])
 (.seq (.seq (.reg [] [⟨none, .mv 3 (.t 0)⟩, ⟨none, .bin 4 .eql (.t 3) (.c (.d (.sl true [])))⟩] [3])
 (.cond (.t 4) (.seq (.reg [] [⟨none, .mv 2 (.c (.d (.sl true [])))⟩] [])
 .ret)
 .skip))
 (.seq (.reg [] [⟨none, .bsl 5 []⟩, ⟨none, .mv 6 (.t 0)⟩, ⟨none, .app 7 (.t 5) (.t 6)⟩, ⟨none, .mv 2 (.t 7)⟩] [0, 5, 6, 7])
 .ret))), [.t 2]⟩
/- foliot/sema.has -/
def k_sema_has : KF := ⟨(.seq (.reg [] [⟨none, .mv 4 (.c (.bool false))⟩] [4])
 (.seq (.reg [] [⟨none, .mv 5 (.t 1)⟩, ⟨none, .bin 6 .geq (.t 5) (.c (.int .i64 0))⟩, ⟨none, .mv 7 (.t 6)⟩, ⟨some (7, true), .mv 8 (.t 1)⟩, ⟨some (7, true), .mv 9 (.t 0)⟩, ⟨some (7, true), .len 10 (.t 9)⟩, ⟨some (7, true), .bin 11 .lss (.t 8) (.t 10)⟩, ⟨none, .pick 12 (.t 7) (.t 11) (.c (.bool false))⟩, ⟨none, .mv 4 (.t 12)⟩] [0, 1, 5, 6, 7, 8, 9, 10, 11, 12])
 .ret)), [.t 4]⟩
/- foliot/sema.Low -/
def k_sema_Low_L0b : K := (.seq (.reg [] [⟨none, .bin 15 .lss (.t 14) (.t 13)⟩] [])
 (.seq (.cond (.t 15) .skip
 (.ext 0))
 (.seq (.blk 1 (.seq (.reg [] [⟨none, .ia 16 (.t 12) (.t 14)⟩, ⟨none, .ld 17 (.t 16)⟩, ⟨none, .mv 10 (.t 17)⟩] [16, 17])
 (.seq (.seq (.reg [] [⟨none, .mv 18 (.t 0)⟩, ⟨none, .mv 19 (.t 10)⟩, ⟨none, .mv 20 (.t 2)⟩, ⟨none, .dat 21 f_sema_holds [(.t 18), (.t 19), (.t 20)]⟩, ⟨none, .un 22 .not (.t 21)⟩, ⟨none, .mv 23 (.t 22)⟩, ⟨some (23, false), .mv 24 (.t 8)⟩, ⟨some (23, false), .mv 25 (.t 10)⟩, ⟨some (23, false), .bld 26 [(.t 25)]⟩, ⟨some (23, false), .lk 27 (.t 24) (.t 26) (.bool false) false⟩, ⟨none, .pick 28 (.t 23) (.c (.bool true)) (.t 27)⟩] [18, 19, 20, 21, 22, 23, 24, 25, 26, 27])
 (.cond (.t 28) (.ext 1)
 .skip))
 (.seq (.reg [] [⟨none, .mv 29 (.t 8)⟩, ⟨none, .mv 30 (.t 10)⟩, ⟨none, .bld 31 [(.t 30)]⟩, ⟨none, .mu (.t 29) (.t 31) (.c (.bool true))⟩] [29, 30, 31])
 (.seq (.reg [] [⟨none, .mv 32 (.t 7)⟩, ⟨none, .un 33 .not (.t 32)⟩, ⟨none, .mv 34 (.t 33)⟩, ⟨some (34, false), .mv 35 (.t 0)⟩, ⟨some (34, false), .mv 36 (.t 10)⟩, ⟨some (34, false), .ia 37 (.t 35) (.t 36)⟩, ⟨some (34, false), .fa 38 (.t 37) 0⟩, ⟨some (34, false), .ld 39 (.t 38)⟩, ⟨some (34, false), .mv 40 (.t 6)⟩, ⟨some (34, false), .bin 41 .lss (.t 39) (.t 40)⟩, ⟨none, .pick 42 (.t 34) (.c (.bool true)) (.t 41)⟩] [32, 33, 34, 35, 36, 37, 38, 39, 40, 41])
 (.cond (.t 42) (.reg [] [⟨none, .mv 43 (.t 0)⟩, ⟨none, .mv 44 (.t 10)⟩, ⟨none, .ia 45 (.t 43) (.t 44)⟩, ⟨none, .fa 46 (.t 45) 0⟩, ⟨none, .ld 47 (.t 46)⟩, ⟨none, .mv 6 (.t 47)⟩, ⟨none, .mv 7 (.c (.bool true))⟩] [10, 43, 44, 45, 46, 47])
 .skip))))))
 (.reg [] [⟨none, .bin 48 .add (.t 14) (.c (.int .i64 1))⟩, ⟨none, .mv 14 (.t 48)⟩] [48]))))
def k_sema_Low_L0 : K := k_sema_Low_L0b
def k_sema_Low : KF := ⟨(.seq (.reg [] [⟨none, .mv 6 (.c (.int .i64 0))⟩, ⟨none, .mv 7 (.c (.bool false))⟩] [])
 (.seq (.reg [] [⟨none, .mkm 11⟩, ⟨none, .mv 8 (.t 11)⟩] [11])
 (.seq (.seq (.reg [] [⟨none, .mv 12 (.t 1)⟩, ⟨none, .len 13 (.t 12)⟩, ⟨none, .mv 14 (.c (.int .i64 0))⟩] [1])
 (.blk 0 (.loop [0, 2, 6, 7, 8, 12, 13, 14] k_sema_Low_L0)))
 (.seq (.reg [] [⟨none, .mv 49 (.t 6)⟩, ⟨none, .mv 50 (.t 7)⟩, ⟨none, .mv 6 (.t 49)⟩, ⟨none, .mv 7 (.t 50)⟩] [49, 50])
 .ret)))), [.t 6, .t 7]⟩
/- foliot/sema.holds -/
def k_sema_holds : KF := ⟨(.seq (.reg [] [⟨none, .mv 6 (.c (.bool false))⟩] [6])
 (.seq (.reg [] [⟨none, .mv 7 (.t 0)⟩, ⟨none, .mv 8 (.t 1)⟩, ⟨none, .dat 9 f_sema_has [(.t 7), (.t 8)]⟩, ⟨none, .mv 10 (.t 9)⟩, ⟨some (10, true), .mv 11 (.t 2)⟩, ⟨some (10, true), .bin 12 .geq (.t 11) (.c (.int .i64 0))⟩, ⟨none, .pick 13 (.t 10) (.t 12) (.c (.bool false))⟩, ⟨none, .mv 14 (.t 13)⟩, ⟨some (14, true), .mv 15 (.t 0)⟩, ⟨some (14, true), .mv 16 (.t 1)⟩, ⟨some (14, true), .ia 17 (.t 15) (.t 16)⟩, ⟨some (14, true), .fa 18 (.t 17) 1⟩, ⟨some (14, true), .ld 19 (.t 18)⟩, ⟨some (14, true), .mv 20 (.t 2)⟩, ⟨some (14, true), .bin 21 .add (.t 20) (.c (.int .i64 1))⟩, ⟨some (14, true), .bin 22 .eql (.t 19) (.t 21)⟩, ⟨none, .pick 23 (.t 14) (.t 22) (.c (.bool false))⟩, ⟨none, .mv 6 (.t 23)⟩] [0, 1, 2, 7, 8, 9, 10, 11, 12, 13, 14, 15, 16, 17, 18, 19, 20, 21, 22, 23])
 .ret)), [.t 6]⟩
/- foliot/sema.Let -/
def k_sema_Let : KF := ⟨(.seq (.reg [] [⟨none, .mv 6 (.c (.d (.sl true [])))⟩, ⟨none, .mv 7 (.c (.bool false))⟩] [6, 7])
 (.seq (.reg [] [⟨none, .mv 9 (.t 0)⟩, ⟨none, .dat 10 f_slices_Clone_api_Sema_api_Sema [(.t 9)]⟩, ⟨none, .mv 8 (.t 10)⟩] [9, 10])
 (.seq (.seq (.reg [] [⟨none, .mv 11 (.t 0)⟩, ⟨none, .mv 12 (.t 1)⟩, ⟨none, .mv 13 (.t 2)⟩, ⟨none, .dat 14 f_sema_holds [(.t 11), (.t 12), (.t 13)]⟩, ⟨none, .un 15 .not (.t 14)⟩] [0, 2, 11, 12, 13, 14])
 (.cond (.t 15) (.seq (.reg [] [⟨none, .mv 16 (.t 8)⟩, ⟨none, .mv 6 (.t 16)⟩, ⟨none, .mv 7 (.c (.bool false))⟩] [8, 16])
 .ret)
 .skip))
 (.seq (.reg [] [⟨none, .mv 17 (.t 8)⟩, ⟨none, .mv 18 (.t 1)⟩, ⟨none, .ia 19 (.t 17) (.t 18)⟩, ⟨none, .fa 20 (.t 19) 1⟩, ⟨none, .st (.t 20) (.c (.int .i64 0))⟩] [1, 17, 18, 19, 20])
 (.seq (.reg [] [⟨none, .mv 21 (.t 8)⟩, ⟨none, .mv 6 (.t 21)⟩, ⟨none, .mv 7 (.c (.bool true))⟩] [8, 21])
 .ret))))), [.t 6, .t 7]⟩
/- foliot/sema.All -/
def k_sema_All_L0b : K := (.seq (.reg [] [⟨none, .bin 12 .lss (.t 11) (.t 10)⟩] [])
 (.seq (.cond (.t 12) .skip
 (.ext 0))
 (.seq (.blk 1 (.seq (.reg [] [⟨none, .mv 13 (.t 11)⟩, ⟨none, .mv 6 (.t 13)⟩] [13])
 (.seq (.reg [] [⟨none, .mv 14 (.t 0)⟩, ⟨none, .mv 15 (.t 6)⟩, ⟨none, .mv 16 (.t 1)⟩, ⟨none, .dat 17 f_sema_holds [(.t 14), (.t 15), (.t 16)]⟩] [14, 15, 16])
 (.cond (.t 17) (.reg [] [⟨none, .mv 18 (.t 5)⟩, ⟨none, .mv 19 (.t 6)⟩, ⟨none, .ia 20 (.t 18) (.t 19)⟩, ⟨none, .fa 21 (.t 20) 1⟩, ⟨none, .st (.t 21) (.c (.int .i64 0))⟩] [6, 18, 19, 20, 21])
 .skip))))
 (.reg [] [⟨none, .bin 22 .add (.t 11) (.c (.int .i64 1))⟩, ⟨none, .mv 11 (.t 22)⟩] [22]))))
def k_sema_All_L0 : K := k_sema_All_L0b
def k_sema_All : KF := ⟨(.seq (.reg [] [⟨none, .mv 4 (.c (.d (.sl true [])))⟩] [4])
 (.seq (.reg [] [⟨none, .mv 7 (.t 0)⟩, ⟨none, .dat 8 f_slices_Clone_api_Sema_api_Sema [(.t 7)]⟩, ⟨none, .mv 5 (.t 8)⟩] [7, 8])
 (.seq (.seq (.reg [] [⟨none, .mv 9 (.t 5)⟩, ⟨none, .len 10 (.t 9)⟩, ⟨none, .mv 11 (.c (.int .i64 0))⟩] [9])
 (.blk 0 (.loop [0, 1, 5, 10, 11] k_sema_All_L0)))
 (.seq (.reg [] [⟨none, .mv 23 (.t 5)⟩, ⟨none, .mv 4 (.t 23)⟩] [5, 23])
 .ret)))), [.t 4]⟩
/- foliot/foliotref11.TakeSema -/
def k_ref11_TakeSema : KF := ⟨(.seq (.reg [] [⟨none, .mv 6 (.c (.d (.sl true [])))⟩, ⟨none, .mv 7 (.c (.bool false))⟩] [6, 7])
 (.seq (.reg [] [⟨none, .bsl 9 []⟩, ⟨none, .mv 10 (.t 0)⟩, ⟨none, .app 11 (.t 9) (.t 10)⟩, ⟨none, .mv 8 (.t 11)⟩] [9, 10, 11])
 (.seq (.seq (.reg [] [⟨none, .mv 12 (.t 1)⟩, ⟨none, .bin 13 .lss (.t 12) (.c (.int .i64 0))⟩, ⟨none, .mv 14 (.t 13)⟩, ⟨some (14, false), .mv 15 (.t 1)⟩, ⟨some (14, false), .mv 16 (.t 0)⟩, ⟨some (14, false), .len 17 (.t 16)⟩, ⟨some (14, false), .bin 18 .geq (.t 15) (.t 17)⟩, ⟨none, .pick 19 (.t 14) (.c (.bool true)) (.t 18)⟩, ⟨none, .mv 20 (.t 19)⟩, ⟨some (20, false), .mv 21 (.t 0)⟩, ⟨some (20, false), .mv 22 (.t 1)⟩, ⟨some (20, false), .ia 23 (.t 21) (.t 22)⟩, ⟨some (20, false), .fa 24 (.t 23) 1⟩, ⟨some (20, false), .ld 25 (.t 24)⟩, ⟨some (20, false), .bin 26 .neq (.t 25) (.c (.int .i64 0))⟩, ⟨none, .pick 27 (.t 20) (.c (.bool true)) (.t 26)⟩] [0, 12, 13, 14, 15, 16, 17, 18, 19, 20, 21, 22, 23, 24, 25, 26])
 (.cond (.t 27) (.seq (.reg [] [⟨none, .mv 28 (.t 8)⟩, ⟨none, .mv 6 (.t 28)⟩, ⟨none, .mv 7 (.c (.bool false))⟩] [8, 28])
 .ret)
 .skip))
 (.seq (.reg [] [⟨none, .mv 29 (.t 8)⟩, ⟨none, .mv 30 (.t 1)⟩, ⟨none, .mv 31 (.t 2)⟩, ⟨none, .bin 32 .add (.t 31) (.c (.int .i64 1))⟩, ⟨none, .ia 33 (.t 29) (.t 30)⟩, ⟨none, .fa 34 (.t 33) 1⟩, ⟨none, .st (.t 34) (.t 32)⟩] [1, 2, 29, 30, 31, 32, 33, 34])
 (.seq (.reg [] [⟨none, .mv 35 (.t 8)⟩, ⟨none, .mv 6 (.t 35)⟩, ⟨none, .mv 7 (.c (.bool true))⟩] [8, 35])
 .ret))))), [.t 6, .t 7]⟩
/- foliot/foliotref11.LetSema -/
def k_ref11_LetSema : KF := ⟨(.seq (.reg [] [⟨none, .mv 6 (.c (.d (.sl true [])))⟩, ⟨none, .mv 7 (.c (.bool false))⟩] [6, 7])
 (.seq (.reg [] [⟨none, .bsl 9 []⟩, ⟨none, .mv 10 (.t 0)⟩, ⟨none, .app 11 (.t 9) (.t 10)⟩, ⟨none, .mv 8 (.t 11)⟩] [9, 10, 11])
 (.seq (.seq (.reg [] [⟨none, .mv 12 (.t 1)⟩, ⟨none, .bin 13 .lss (.t 12) (.c (.int .i64 0))⟩, ⟨none, .mv 14 (.t 13)⟩, ⟨some (14, false), .mv 15 (.t 1)⟩, ⟨some (14, false), .mv 16 (.t 0)⟩, ⟨some (14, false), .len 17 (.t 16)⟩, ⟨some (14, false), .bin 18 .geq (.t 15) (.t 17)⟩, ⟨none, .pick 19 (.t 14) (.c (.bool true)) (.t 18)⟩, ⟨none, .mv 20 (.t 19)⟩, ⟨some (20, false), .mv 21 (.t 0)⟩, ⟨some (20, false), .mv 22 (.t 1)⟩, ⟨some (20, false), .ia 23 (.t 21) (.t 22)⟩, ⟨some (20, false), .fa 24 (.t 23) 1⟩, ⟨some (20, false), .ld 25 (.t 24)⟩, ⟨some (20, false), .mv 26 (.t 2)⟩, ⟨some (20, false), .bin 27 .add (.t 26) (.c (.int .i64 1))⟩, ⟨some (20, false), .bin 28 .neq (.t 25) (.t 27)⟩, ⟨none, .pick 29 (.t 20) (.c (.bool true)) (.t 28)⟩] [0, 2, 12, 13, 14, 15, 16, 17, 18, 19, 20, 21, 22, 23, 24, 25, 26, 27, 28])
 (.cond (.t 29) (.seq (.reg [] [⟨none, .mv 30 (.t 8)⟩, ⟨none, .mv 6 (.t 30)⟩, ⟨none, .mv 7 (.c (.bool false))⟩] [8, 30])
 .ret)
 .skip))
 (.seq (.reg [] [⟨none, .mv 31 (.t 8)⟩, ⟨none, .mv 32 (.t 1)⟩, ⟨none, .ia 33 (.t 31) (.t 32)⟩, ⟨none, .fa 34 (.t 33) 1⟩, ⟨none, .st (.t 34) (.c (.int .i64 0))⟩] [1, 31, 32, 33, 34])
 (.seq (.reg [] [⟨none, .mv 35 (.t 8)⟩, ⟨none, .mv 6 (.t 35)⟩, ⟨none, .mv 7 (.c (.bool true))⟩] [8, 35])
 .ret))))), [.t 6, .t 7]⟩
/- foliot/foliotref11.SameSemas -/
def k_ref11_SameSemas_L0b : K := (.seq (.seq (.reg [] [⟨none, .mv 11 (.t 5)⟩, ⟨none, .mv 12 (.t 0)⟩, ⟨none, .len 13 (.t 12)⟩, ⟨none, .bin 14 .lss (.t 11) (.t 13)⟩] [11, 12, 13])
 (.cond (.t 14) .skip
 (.ext 0)))
 (.seq (.blk 1 (.seq (.reg [] [⟨none, .mv 17 (.t 0)⟩, ⟨none, .mv 18 (.t 5)⟩, ⟨none, .ia 19 (.t 17) (.t 18)⟩, ⟨none, .ld 20 (.t 19)⟩, ⟨none, .mv 21 (.t 1)⟩, ⟨none, .mv 22 (.t 5)⟩, ⟨none, .ia 23 (.t 21) (.t 22)⟩, ⟨none, .ld 24 (.t 23)⟩, ⟨none, .bin 25 .neq (.t 20) (.t 24)⟩] [17, 18, 19, 20, 21, 22, 23, 24])
 (.cond (.t 25) (.seq (.reg [] [⟨none, .mv 4 (.c (.bool false))⟩] [])
 .ret)
 .skip)))
 (.reg [] [⟨none, .mv 15 (.t 5)⟩, ⟨none, .bin 16 .add (.t 15) (.c (.int .i64 1))⟩, ⟨none, .mv 5 (.t 16)⟩] [15, 16])))
def k_ref11_SameSemas_L0 : K := k_ref11_SameSemas_L0b
def k_ref11_SameSemas : KF := ⟨(.seq (.reg [] [⟨none, .mv 4 (.c (.bool false))⟩] [4])
 (.seq (.seq (.reg [] [⟨none, .mv 6 (.t 0)⟩, ⟨none, .len 7 (.t 6)⟩, ⟨none, .mv 8 (.t 1)⟩, ⟨none, .len 9 (.t 8)⟩, ⟨none, .bin 10 .neq (.t 7) (.t 9)⟩] [6, 7, 8, 9])
 (.cond (.t 10) (.seq (.reg [] [⟨none, .mv 4 (.c (.bool false))⟩] [])
 .ret)
 .skip))
 (.seq (.seq (.reg [] [⟨none, .mv 5 (.c (.int .i64 0))⟩] [])
 (.blk 0 (.loop [0, 1, 5] k_ref11_SameSemas_L0)))
 (.seq (.reg [] [⟨none, .mv 4 (.c (.bool true))⟩] [])
 .ret)))), [.t 4]⟩
/- foliot/foliotref11.Low -/
def k_ref11_Low_L0b : K := (.seq (.seq (.reg [] [⟨none, .mv 12 (.t 10)⟩, ⟨none, .mv 13 (.t 1)⟩, ⟨none, .len 14 (.t 13)⟩, ⟨none, .bin 15 .lss (.t 12) (.t 14)⟩] [12, 13, 14])
 (.cond (.t 15) .skip
 (.ext 0)))
 (.seq (.blk 1 (.seq (.reg [] [⟨none, .mv 18 (.t 1)⟩, ⟨none, .mv 19 (.t 10)⟩, ⟨none, .ia 20 (.t 18) (.t 19)⟩, ⟨none, .ld 21 (.t 20)⟩, ⟨none, .mv 11 (.t 21)⟩] [18, 19, 20, 21])
 (.seq (.seq (.reg [] [⟨none, .mv 22 (.t 11)⟩, ⟨none, .bin 23 .lss (.t 22) (.c (.int .i64 0))⟩, ⟨none, .mv 24 (.t 23)⟩, ⟨some (24, false), .mv 25 (.t 11)⟩, ⟨some (24, false), .mv 26 (.t 0)⟩, ⟨some (24, false), .len 27 (.t 26)⟩, ⟨some (24, false), .bin 28 .geq (.t 25) (.t 27)⟩, ⟨none, .pick 29 (.t 24) (.c (.bool true)) (.t 28)⟩, ⟨none, .mv 30 (.t 29)⟩, ⟨some (30, false), .mv 31 (.t 0)⟩, ⟨some (30, false), .mv 32 (.t 11)⟩, ⟨some (30, false), .ia 33 (.t 31) (.t 32)⟩, ⟨some (30, false), .fa 34 (.t 33) 1⟩, ⟨some (30, false), .ld 35 (.t 34)⟩, ⟨some (30, false), .mv 36 (.t 2)⟩, ⟨some (30, false), .bin 37 .add (.t 36) (.c (.int .i64 1))⟩, ⟨some (30, false), .bin 38 .neq (.t 35) (.t 37)⟩, ⟨none, .pick 39 (.t 30) (.c (.bool true)) (.t 38)⟩] [22, 23, 24, 25, 26, 27, 28, 29, 30, 31, 32, 33, 34, 35, 36, 37, 38])
 (.cond (.t 39) (.ext 1)
 .skip))
 (.seq (.seq (.reg [] [⟨none, .mv 40 (.t 9)⟩, ⟨none, .un 41 .not (.t 40)⟩, ⟨none, .mv 42 (.t 41)⟩, ⟨some (42, false), .mv 43 (.t 0)⟩, ⟨some (42, false), .mv 44 (.t 11)⟩, ⟨some (42, false), .ia 45 (.t 43) (.t 44)⟩, ⟨some (42, false), .fa 46 (.t 45) 0⟩, ⟨some (42, false), .ld 47 (.t 46)⟩, ⟨some (42, false), .mv 48 (.t 8)⟩, ⟨some (42, false), .bin 49 .lss (.t 47) (.t 48)⟩, ⟨none, .pick 50 (.t 42) (.c (.bool true)) (.t 49)⟩] [9, 40, 41, 42, 43, 44, 45, 46, 47, 48, 49])
 (.cond (.t 50) (.reg [] [⟨none, .mv 51 (.t 0)⟩, ⟨none, .mv 52 (.t 11)⟩, ⟨none, .ia 53 (.t 51) (.t 52)⟩, ⟨none, .fa 54 (.t 53) 0⟩, ⟨none, .ld 55 (.t 54)⟩, ⟨none, .mv 8 (.t 55)⟩] [11, 51, 52, 53, 54, 55])
 .skip))
 (.reg [] [⟨none, .mv 9 (.c (.bool true))⟩] [])))))
 (.reg [] [⟨none, .mv 16 (.t 10)⟩, ⟨none, .bin 17 .add (.t 16) (.c (.int .i64 1))⟩, ⟨none, .mv 10 (.t 17)⟩] [16, 17])))
def k_ref11_Low_L0 : K := k_ref11_Low_L0b
def k_ref11_Low : KF := ⟨(.seq (.reg [] [⟨none, .mv 6 (.c (.int .i64 0))⟩, ⟨none, .mv 7 (.c (.bool false))⟩] [6, 7])
 (.seq (.reg [] [⟨none, .mv 8 (.c (.int .i64 0))⟩, ⟨none, .mv 9 (.c (.bool false))⟩] [])
 (.seq (.seq (.reg [] [⟨none, .mv 10 (.c (.int .i64 0))⟩] [])
 (.blk 0 (.loop [0, 1, 2, 8, 9, 10] k_ref11_Low_L0)))
 (.seq (.reg [] [⟨none, .mv 56 (.t 8)⟩, ⟨none, .mv 57 (.t 9)⟩, ⟨none, .mv 6 (.t 56)⟩, ⟨none, .mv 7 (.t 57)⟩] [8, 9, 56, 57])
 .ret)))), [.t 6, .t 7]⟩
/- foliot/foliotref11.AllSemas -/
def k_ref11_AllSemas_L0b : K := (.seq (.seq (.reg [] [⟨none, .mv 10 (.t 6)⟩, ⟨none, .mv 11 (.t 5)⟩, ⟨none, .len 12 (.t 11)⟩, ⟨none, .bin 13 .lss (.t 10) (.t 12)⟩] [10, 11, 12])
 (.cond (.t 13) .skip
 (.ext 0)))
 (.seq (.blk 1 (.seq (.reg [] [⟨none, .mv 16 (.t 5)⟩, ⟨none, .mv 17 (.t 6)⟩, ⟨none, .ia 18 (.t 16) (.t 17)⟩, ⟨none, .fa 19 (.t 18) 1⟩, ⟨none, .ld 20 (.t 19)⟩, ⟨none, .mv 21 (.t 1)⟩, ⟨none, .bin 22 .add (.t 21) (.c (.int .i64 1))⟩, ⟨none, .bin 23 .eql (.t 20) (.t 22)⟩] [16, 17, 18, 19, 20, 21, 22])
 (.cond (.t 23) (.reg [] [⟨none, .mv 24 (.t 5)⟩, ⟨none, .mv 25 (.t 6)⟩, ⟨none, .ia 26 (.t 24) (.t 25)⟩, ⟨none, .fa 27 (.t 26) 1⟩, ⟨none, .st (.t 27) (.c (.int .i64 0))⟩] [24, 25, 26, 27])
 .skip)))
 (.reg [] [⟨none, .mv 14 (.t 6)⟩, ⟨none, .bin 15 .add (.t 14) (.c (.int .i64 1))⟩, ⟨none, .mv 6 (.t 15)⟩] [14, 15])))
def k_ref11_AllSemas_L0 : K := k_ref11_AllSemas_L0b
def k_ref11_AllSemas : KF := ⟨(.seq (.reg [] [⟨none, .mv 4 (.c (.d (.sl true [])))⟩] [4])
 (.seq (.reg [] [⟨none, .bsl 7 []⟩, ⟨none, .mv 8 (.t 0)⟩, ⟨none, .app 9 (.t 7) (.t 8)⟩, ⟨none, .mv 5 (.t 9)⟩] [0, 7, 8, 9])
 (.seq (.seq (.reg [] [⟨none, .mv 6 (.c (.int .i64 0))⟩] [])
 (.blk 0 (.loop [1, 5, 6] k_ref11_AllSemas_L0)))
 (.seq (.reg [] [⟨none, .mv 28 (.t 5)⟩, ⟨none, .mv 4 (.t 28)⟩] [5, 28])
 .ret)))), [.t 4]⟩
/- foliot/foliotlaw11.SemaOne -/
def k_law11_SemaOne_L1b : K := (.seq (.seq (.reg [] [⟨none, .mv 49 (.t 12)⟩, ⟨none, .bin 50 .lss (.t 49) (.c (.int .i64 4))⟩] [49])
 (.cond (.t 50) .skip
 (.ext 3)))
 (.seq (.blk 4 (.seq (.reg [] [⟨none, .mv 53 (.t 12)⟩, ⟨none, .ia 54 (.t 4) (.t 53)⟩, ⟨none, .ld 55 (.t 54)⟩, ⟨none, .mv 56 (.t 7)⟩, ⟨none, .bin 57 .add (.t 56) (.c (.int .i64 1))⟩, ⟨none, .bin 58 .eql (.t 55) (.t 57)⟩] [53, 54, 55, 56, 57])
 (.cond (.t 58) (.reg [] [⟨none, .mv 59 (.t 12)⟩, ⟨none, .ia 60 (.t 4) (.t 59)⟩, ⟨none, .st (.t 60) (.c (.int .i64 0))⟩] [59, 60])
 .skip)))
 (.reg [] [⟨none, .mv 51 (.t 12)⟩, ⟨none, .bin 52 .add (.t 51) (.c (.int .i64 1))⟩, ⟨none, .mv 12 (.t 52)⟩] [51, 52])))
def k_law11_SemaOne_L1 : K := k_law11_SemaOne_L1b
def k_law11_SemaOne_L2b : K := (.seq (.seq (.reg [] [⟨none, .mv 117 (.t 13)⟩, ⟨none, .bin 118 .lss (.t 117) (.c (.int .i64 4))⟩] [117])
 (.cond (.t 118) .skip
 (.ext 5)))
 (.seq (.blk 6 (.seq (.reg [] [⟨none, .mv 121 (.t 3)⟩, ⟨none, .mv 122 (.t 13)⟩, ⟨none, .ia 123 (.t 121) (.t 122)⟩, ⟨none, .fa 124 (.t 123) 1⟩, ⟨none, .ld 125 (.t 124)⟩, ⟨none, .mv 126 (.t 13)⟩, ⟨none, .ia 127 (.t 4) (.t 126)⟩, ⟨none, .ld 128 (.t 127)⟩, ⟨none, .bin 129 .neq (.t 125) (.t 128)⟩] [121, 122, 123, 124, 125, 126, 127, 128])
 (.cond (.t 129) (.seq (.reg [] [⟨none, .mv 2 (.c (.bool false))⟩] [])
 .ret)
 .skip)))
 (.reg [] [⟨none, .mv 119 (.t 13)⟩, ⟨none, .bin 120 .add (.t 119) (.c (.int .i64 1))⟩, ⟨none, .mv 13 (.t 120)⟩] [119, 120])))
def k_law11_SemaOne_L2 : K := k_law11_SemaOne_L2b
def k_law11_SemaOne_L0b : K := (.seq (.seq (.reg [] [⟨none, .mv 20 (.t 5)⟩, ⟨none, .mv 21 (.t 0)⟩, ⟨none, .len 22 (.t 21)⟩, ⟨none, .bin 23 .lss (.t 20) (.t 22)⟩] [20, 21, 22])
 (.cond (.t 23) .skip
 (.ext 0)))
 (.seq (.blk 1 (.seq (.reg [] [⟨none, .mv 26 (.t 0)⟩, ⟨none, .mv 27 (.t 5)⟩, ⟨none, .ia 28 (.t 26) (.t 27)⟩, ⟨none, .ia 29 (.t 28) (.c (.int .i64 1))⟩, ⟨none, .ld 30 (.t 29)⟩, ⟨none, .bin 31 .rem (.t 30) (.c (.int .u8 5))⟩, ⟨none, .cv 32 .i64 (.t 31)⟩, ⟨none, .mv 33 (.t 0)⟩, ⟨none, .mv 34 (.t 5)⟩, ⟨none, .ia 35 (.t 33) (.t 34)⟩, ⟨none, .ia 36 (.t 35) (.c (.int .i64 2))⟩, ⟨none, .ld 37 (.t 36)⟩, ⟨none, .bin 38 .rem (.t 37) (.c (.int .u8 3))⟩, ⟨none, .cv 39 .i64 (.t 38)⟩, ⟨none, .mv 6 (.t 32)⟩, ⟨none, .mv 7 (.t 39)⟩] [26, 27, 28, 29, 30, 31, 32, 33, 34, 35, 36, 37, 38, 39])
 (.seq (.seq (.reg [] [⟨none, .mv 40 (.t 0)⟩, ⟨none, .mv 41 (.t 5)⟩, ⟨none, .ia 42 (.t 40) (.t 41)⟩, ⟨none, .ia 43 (.t 42) (.c (.int .i64 0))⟩, ⟨none, .ld 44 (.t 43)⟩, ⟨none, .bin 45 .rem (.t 44) (.c (.int .u8 4))⟩] [40, 41, 42, 43, 44])
 (.blk 2 (.seq (.seq (.reg [] [⟨none, .bin 62 .eql (.t 45) (.c (.int .u8 0))⟩, ⟨none, .mv 61 (.t 62)⟩] [62])
 (.cond (.t 61) .skip
 (.reg [] [⟨none, .bin 63 .eql (.t 45) (.c (.int .u8 1))⟩, ⟨none, .mv 61 (.t 63)⟩] [63])))
 (.cond (.t 61) (.seq (.reg [] [⟨none, .mv 65 (.t 3)⟩, ⟨none, .mv 66 (.t 6)⟩, ⟨none, .mv 67 (.t 7)⟩, ⟨none, .dat 68 f_sema_Take [(.t 65), (.t 66), (.t 67)]⟩, ⟨none, .mv 64 (.t 68)⟩, ⟨none, .ex 69 (.t 64) 0⟩, ⟨none, .ex 70 (.t 64) 1⟩, ⟨none, .mv 8 (.t 69)⟩, ⟨none, .mv 9 (.t 70)⟩] [3, 64, 65, 66, 67, 68, 69, 70])
 (.seq (.seq (.reg [] [⟨none, .mv 71 (.t 9)⟩, ⟨none, .mv 72 (.t 6)⟩, ⟨none, .bin 73 .lss (.t 72) (.c (.int .i64 4))⟩, ⟨none, .mv 74 (.t 73)⟩, ⟨some (74, true), .mv 75 (.t 6)⟩, ⟨some (74, true), .bin 76 .rem (.t 75) (.c (.int .i64 4))⟩, ⟨some (74, true), .ia 77 (.t 4) (.t 76)⟩, ⟨some (74, true), .ld 78 (.t 77)⟩, ⟨some (74, true), .bin 79 .eql (.t 78) (.c (.int .i64 0))⟩, ⟨none, .pick 80 (.t 74) (.t 79) (.c (.bool false))⟩, ⟨none, .bin 81 .neq (.t 71) (.t 80)⟩] [71, 72, 73, 74, 75, 76, 77, 78, 79, 80])
 (.cond (.t 81) (.seq (.reg [] [⟨none, .mv 2 (.c (.bool false))⟩] [])
 .ret)
 .skip))
 (.seq (.seq (.reg [] [⟨none, .mv 82 (.t 9)⟩] [9])
 (.cond (.t 82) (.reg [] [⟨none, .mv 83 (.t 6)⟩, ⟨none, .mv 84 (.t 7)⟩, ⟨none, .bin 85 .add (.t 84) (.c (.int .i64 1))⟩, ⟨none, .ia 86 (.t 4) (.t 83)⟩, ⟨none, .st (.t 86) (.t 85)⟩] [6, 7, 83, 84, 85, 86])
 .skip))
 (.reg [] [⟨none, .mv 87 (.t 8)⟩, ⟨none, .mv 3 (.t 87)⟩] [8, 87]))))
 (.seq (.reg [] [⟨none, .bin 89 .eql (.t 45) (.c (.int .u8 2))⟩, ⟨none, .mv 88 (.t 89)⟩] [45, 89])
 (.cond (.t 88) (.seq (.reg [] [⟨none, .mv 91 (.t 3)⟩, ⟨none, .mv 92 (.t 6)⟩, ⟨none, .mv 93 (.t 7)⟩, ⟨none, .dat 94 f_sema_Let [(.t 91), (.t 92), (.t 93)]⟩, ⟨none, .mv 90 (.t 94)⟩, ⟨none, .ex 95 (.t 90) 0⟩, ⟨none, .ex 96 (.t 90) 1⟩, ⟨none, .mv 10 (.t 95)⟩, ⟨none, .mv 11 (.t 96)⟩] [3, 90, 91, 92, 93, 94, 95, 96])
 (.seq (.seq (.reg [] [⟨none, .mv 97 (.t 11)⟩, ⟨none, .mv 98 (.t 6)⟩, ⟨none, .bin 99 .lss (.t 98) (.c (.int .i64 4))⟩, ⟨none, .mv 100 (.t 99)⟩, ⟨some (100, true), .mv 101 (.t 6)⟩, ⟨some (100, true), .bin 102 .rem (.t 101) (.c (.int .i64 4))⟩, ⟨some (100, true), .ia 103 (.t 4) (.t 102)⟩, ⟨some (100, true), .ld 104 (.t 103)⟩, ⟨some (100, true), .mv 105 (.t 7)⟩, ⟨some (100, true), .bin 106 .add (.t 105) (.c (.int .i64 1))⟩, ⟨some (100, true), .bin 107 .eql (.t 104) (.t 106)⟩, ⟨none, .pick 108 (.t 100) (.t 107) (.c (.bool false))⟩, ⟨none, .bin 109 .neq (.t 97) (.t 108)⟩] [7, 97, 98, 99, 100, 101, 102, 103, 104, 105, 106, 107, 108])
 (.cond (.t 109) (.seq (.reg [] [⟨none, .mv 2 (.c (.bool false))⟩] [])
 .ret)
 .skip))
 (.seq (.seq (.reg [] [⟨none, .mv 110 (.t 11)⟩] [11])
 (.cond (.t 110) (.reg [] [⟨none, .mv 111 (.t 6)⟩, ⟨none, .ia 112 (.t 4) (.t 111)⟩, ⟨none, .st (.t 112) (.c (.int .i64 0))⟩] [6, 111, 112])
 .skip))
 (.reg [] [⟨none, .mv 113 (.t 10)⟩, ⟨none, .mv 3 (.t 113)⟩] [10, 113]))))
 (.seq (.reg [] [⟨none, .mv 46 (.t 3)⟩, ⟨none, .mv 47 (.t 7)⟩, ⟨none, .dat 48 f_sema_All [(.t 46), (.t 47)]⟩, ⟨none, .mv 3 (.t 48)⟩] [46, 47, 48])
 (.seq (.reg [] [⟨none, .mv 12 (.c (.int .i64 0))⟩] [])
 (.blk 3 (.loop [0, 3, 4, 5, 7, 12] k_law11_SemaOne_L1))))))))))
 (.seq (.seq (.reg [] [⟨none, .mv 114 (.t 3)⟩, ⟨none, .len 115 (.t 114)⟩, ⟨none, .bin 116 .neq (.t 115) (.c (.int .i64 4))⟩] [114, 115])
 (.cond (.t 116) (.seq (.reg [] [⟨none, .mv 2 (.c (.bool false))⟩] [])
 .ret)
 .skip))
 (.seq (.reg [] [⟨none, .mv 13 (.c (.int .i64 0))⟩] [])
 (.blk 5 (.loop [0, 3, 4, 5, 13] k_law11_SemaOne_L2)))))))
 (.reg [] [⟨none, .mv 24 (.t 5)⟩, ⟨none, .bin 25 .add (.t 24) (.c (.int .i64 1))⟩, ⟨none, .mv 5 (.t 25)⟩] [24, 25])))
def k_law11_SemaOne_L0 : K := k_law11_SemaOne_L0b
def k_law11_SemaOne : KF := ⟨(.seq (.reg [] [⟨none, .mv 2 (.c (.bool false))⟩] [2])
 (.seq (.seq (.reg [] [⟨none, .dat 14 f_law11_begun []⟩, ⟨none, .un 15 .not (.t 14)⟩] [14])
 (.cond (.t 15) (.seq (.reg [] [⟨none, .mv 2 (.c (.bool false))⟩] [])
 .ret)
 .skip))
 (.seq (.seq (.reg [] [⟨none, .mv 16 (.t 0)⟩, ⟨none, .len 17 (.t 16)⟩, ⟨none, .bin 18 .gtr (.t 17) (.c (.int .i64 40))⟩] [16, 17])
 (.cond (.t 18) (.seq (.reg [] [⟨none, .mv 2 (.c (.bool true))⟩] [])
 .ret)
 .skip))
 (.seq (.reg [] [⟨none, .mks 19 (.agg [(.int .i64 0), (.int .i64 0)]) (.c (.int .i64 4)) (.c (.int .i64 4))⟩, ⟨none, .mv 3 (.t 19)⟩] [19])
 (.seq (.reg [] [⟨none, .alc 4 (.d (.agg [(.int .i64 0), (.int .i64 0), (.int .i64 0), (.int .i64 0)]))⟩] [])
 (.seq (.seq (.reg [] [⟨none, .mv 5 (.c (.int .i64 0))⟩] [])
 (.blk 0 (.loop [0, 3, 4, 5] k_law11_SemaOne_L0)))
 (.seq (.reg [] [⟨none, .mv 2 (.c (.bool true))⟩] [])
 .ret))))))), [.t 2]⟩
/- foliot/foliotlaw11.SemaForms -/
def k_law11_SemaForms : KF := ⟨(.seq (.reg [] [⟨none, .mv 0 (.c (.bool false))⟩] [0])
 (.seq (.seq (.reg [] [⟨none, .dat 22 f_law11_begun []⟩, ⟨none, .un 23 .not (.t 22)⟩] [22])
 (.cond (.t 23) (.seq (.reg [] [⟨none, .mv 0 (.c (.bool false))⟩] [])
 .ret)
 .skip))
 (.seq (.reg [] [⟨none, .bld 24 [(.c (.int .i64 4)), (.c (.int .i64 0))]⟩, ⟨none, .bld 25 [(.c (.int .i64 2)), (.c (.int .i64 0))]⟩, ⟨none, .bld 26 [(.c (.int .i64 7)), (.c (.int .i64 0))]⟩, ⟨none, .bsl 27 [(.t 24), (.t 25), (.t 26)]⟩, ⟨none, .mv 1 (.t 27)⟩] [24, 25, 26, 27])
 (.seq (.reg [] [⟨none, .mv 29 (.t 1)⟩, ⟨none, .dat 30 f_sema_Take [(.t 29), (.c (.int .i64 0)), (.c (.int .i64 0))]⟩, ⟨none, .mv 28 (.t 30)⟩, ⟨none, .ex 31 (.t 28) 0⟩, ⟨none, .ex 32 (.t 28) 1⟩, ⟨none, .mv 2 (.t 31)⟩, ⟨none, .mv 3 (.t 32)⟩] [1, 28, 29, 30, 31, 32])
 (.seq (.reg [] [⟨none, .mv 34 (.t 2)⟩, ⟨none, .dat 35 f_sema_Take [(.t 34), (.c (.int .i64 1)), (.c (.int .i64 0))]⟩, ⟨none, .mv 33 (.t 35)⟩, ⟨none, .ex 36 (.t 33) 0⟩, ⟨none, .ex 37 (.t 33) 1⟩, ⟨none, .mv 2 (.t 36)⟩, ⟨none, .mv 4 (.t 37)⟩] [33, 34, 35, 36, 37])
 (.seq (.reg [] [⟨none, .mv 39 (.t 2)⟩, ⟨none, .dat 40 f_sema_Take [(.t 39), (.c (.int .i64 2)), (.c (.int .i64 5))]⟩, ⟨none, .mv 38 (.t 40)⟩, ⟨none, .ex 41 (.t 38) 0⟩, ⟨none, .ex 42 (.t 38) 1⟩, ⟨none, .mv 5 (.t 41)⟩, ⟨none, .mv 6 (.t 42)⟩] [2, 38, 39, 40, 41, 42])
 (.seq (.reg [] [⟨none, .mv 44 (.t 5)⟩, ⟨none, .dat 45 f_sema_Take [(.t 44), (.c (.int .i64 3)), (.c (.int .i64 0))]⟩, ⟨none, .mv 43 (.t 45)⟩, ⟨none, .ex 46 (.t 43) 0⟩, ⟨none, .ex 47 (.t 43) 1⟩, ⟨none, .mv 7 (.t 46)⟩, ⟨none, .mv 8 (.t 47)⟩] [7, 43, 44, 45, 46, 47])
 (.seq (.reg [] [⟨none, .mv 49 (.t 5)⟩, ⟨none, .dat 50 f_sema_Take [(.t 49), (.c (.int .i64 (-1))), (.c (.int .i64 0))]⟩, ⟨none, .mv 48 (.t 50)⟩, ⟨none, .ex 51 (.t 48) 0⟩, ⟨none, .ex 52 (.t 48) 1⟩, ⟨none, .mv 9 (.t 51)⟩, ⟨none, .mv 10 (.t 52)⟩] [9, 48, 49, 50, 51, 52])
 (.seq (.reg [] [⟨none, .mv 54 (.t 5)⟩, ⟨none, .dat 55 f_sema_Let [(.t 54), (.c (.int .i64 2)), (.c (.int .i64 0))]⟩, ⟨none, .mv 53 (.t 55)⟩, ⟨none, .ex 56 (.t 53) 0⟩, ⟨none, .ex 57 (.t 53) 1⟩, ⟨none, .mv 11 (.t 56)⟩, ⟨none, .mv 12 (.t 57)⟩] [11, 53, 54, 55, 56, 57])
 (.seq (.reg [] [⟨none, .mv 59 (.t 5)⟩, ⟨none, .bsl 60 [(.c (.int .i64 0)), (.c (.int .i64 2))]⟩, ⟨none, .dat 61 f_sema_Low [(.t 59), (.t 60), (.c (.int .i64 0))]⟩, ⟨none, .mv 58 (.t 61)⟩, ⟨none, .ex 62 (.t 58) 0⟩, ⟨none, .ex 63 (.t 58) 1⟩, ⟨none, .mv 13 (.t 62)⟩, ⟨none, .mv 14 (.t 63)⟩] [58, 59, 60, 61, 62, 63])
 (.seq (.reg [] [⟨none, .mv 65 (.t 5)⟩, ⟨none, .bsl 66 [(.c (.int .i64 1)), (.c (.int .i64 0))]⟩, ⟨none, .dat 67 f_sema_Low [(.t 65), (.t 66), (.c (.int .i64 0))]⟩, ⟨none, .mv 64 (.t 67)⟩, ⟨none, .ex 68 (.t 64) 0⟩, ⟨none, .ex 69 (.t 64) 1⟩, ⟨none, .mv 15 (.t 68)⟩, ⟨none, .mv 16 (.t 69)⟩] [64, 65, 66, 67, 68, 69])
 (.seq (.reg [] [⟨none, .mv 71 (.t 5)⟩, ⟨none, .dat 72 f_sema_Low [(.t 71), (.c (.d (.sl true []))), (.c (.int .i64 0))]⟩, ⟨none, .mv 70 (.t 72)⟩, ⟨none, .ex 73 (.t 70) 0⟩, ⟨none, .ex 74 (.t 70) 1⟩, ⟨none, .mv 17 (.t 73)⟩, ⟨none, .mv 18 (.t 74)⟩] [17, 70, 71, 72, 73, 74])
 (.seq (.reg [] [⟨none, .mv 76 (.t 5)⟩, ⟨none, .bsl 77 [(.c (.int .i64 0)), (.c (.int .i64 1)), (.c (.int .i64 9))]⟩, ⟨none, .dat 78 f_sema_Low [(.t 76), (.t 77), (.c (.int .i64 5))]⟩, ⟨none, .mv 75 (.t 78)⟩, ⟨none, .ex 79 (.t 75) 0⟩, ⟨none, .ex 80 (.t 75) 1⟩, ⟨none, .mv 19 (.t 79)⟩, ⟨none, .mv 20 (.t 80)⟩] [19, 75, 76, 77, 78, 79, 80])
 (.seq (.reg [] [⟨none, .mv 81 (.t 5)⟩, ⟨none, .dat 82 f_sema_All [(.t 81), (.c (.int .i64 0))]⟩, ⟨none, .mv 21 (.t 82)⟩] [5, 81, 82])
 (.seq (.reg [] [⟨none, .mv 83 (.t 3)⟩, ⟨none, .mv 84 (.t 83)⟩, ⟨some (84, true), .mv 85 (.t 4)⟩, ⟨none, .pick 86 (.t 84) (.t 85) (.c (.bool false))⟩, ⟨none, .mv 87 (.t 86)⟩, ⟨some (87, true), .mv 88 (.t 6)⟩, ⟨none, .pick 89 (.t 87) (.t 88) (.c (.bool false))⟩, ⟨none, .mv 90 (.t 89)⟩, ⟨some (90, true), .mv 91 (.t 8)⟩, ⟨some (90, true), .un 92 .not (.t 91)⟩, ⟨none, .pick 93 (.t 90) (.t 92) (.c (.bool false))⟩, ⟨none, .mv 94 (.t 93)⟩, ⟨some (94, true), .mv 95 (.t 10)⟩, ⟨some (94, true), .un 96 .not (.t 95)⟩, ⟨none, .pick 97 (.t 94) (.t 96) (.c (.bool false))⟩, ⟨none, .mv 98 (.t 97)⟩, ⟨some (98, true), .mv 99 (.t 12)⟩, ⟨some (98, true), .un 100 .not (.t 99)⟩, ⟨none, .pick 101 (.t 98) (.t 100) (.c (.bool false))⟩, ⟨none, .mv 102 (.t 101)⟩, ⟨some (102, true), .mv 103 (.t 14)⟩, ⟨none, .pick 104 (.t 102) (.t 103) (.c (.bool false))⟩, ⟨none, .mv 105 (.t 104)⟩, ⟨some (105, true), .mv 106 (.t 13)⟩, ⟨some (105, true), .bin 107 .eql (.t 106) (.c (.int .i64 4))⟩, ⟨none, .pick 108 (.t 105) (.t 107) (.c (.bool false))⟩, ⟨none, .mv 109 (.t 108)⟩, ⟨some (109, true), .mv 110 (.t 16)⟩, ⟨none, .pick 111 (.t 109) (.t 110) (.c (.bool false))⟩, ⟨none, .mv 112 (.t 111)⟩, ⟨some (112, true), .mv 113 (.t 15)⟩, ⟨some (112, true), .bin 114 .eql (.t 113) (.c (.int .i64 2))⟩, ⟨none, .pick 115 (.t 112) (.t 114) (.c (.bool false))⟩, ⟨none, .mv 116 (.t 115)⟩, ⟨some (116, true), .mv 117 (.t 18)⟩, ⟨some (116, true), .un 118 .not (.t 117)⟩, ⟨none, .pick 119 (.t 116) (.t 118) (.c (.bool false))⟩, ⟨none, .mv 120 (.t 119)⟩, ⟨some (120, true), .mv 121 (.t 20)⟩, ⟨some (120, true), .un 122 .not (.t 121)⟩, ⟨none, .pick 123 (.t 120) (.t 122) (.c (.bool false))⟩, ⟨none, .mv 124 (.t 123)⟩, ⟨some (124, true), .mv 125 (.t 21)⟩, ⟨some (124, true), .len 126 (.t 125)⟩, ⟨some (124, true), .bin 127 .eql (.t 126) (.c (.int .i64 3))⟩, ⟨none, .pick 128 (.t 124) (.t 127) (.c (.bool false))⟩, ⟨none, .mv 129 (.t 128)⟩, ⟨some (129, true), .mv 130 (.t 21)⟩, ⟨some (129, true), .ia 131 (.t 130) (.c (.int .i64 0))⟩, ⟨some (129, true), .fa 132 (.t 131) 1⟩, ⟨some (129, true), .ld 133 (.t 132)⟩, ⟨some (129, true), .bin 134 .eql (.t 133) (.c (.int .i64 0))⟩, ⟨none, .pick 135 (.t 129) (.t 134) (.c (.bool false))⟩, ⟨none, .mv 136 (.t 135)⟩, ⟨some (136, true), .mv 137 (.t 21)⟩, ⟨some (136, true), .ia 138 (.t 137) (.c (.int .i64 1))⟩, ⟨some (136, true), .fa 139 (.t 138) 1⟩, ⟨some (136, true), .ld 140 (.t 139)⟩, ⟨some (136, true), .bin 141 .eql (.t 140) (.c (.int .i64 0))⟩, ⟨none, .pick 142 (.t 136) (.t 141) (.c (.bool false))⟩, ⟨none, .mv 143 (.t 142)⟩, ⟨some (143, true), .mv 144 (.t 21)⟩, ⟨some (143, true), .ia 145 (.t 144) (.c (.int .i64 2))⟩, ⟨some (143, true), .fa 146 (.t 145) 1⟩, ⟨some (143, true), .ld 147 (.t 146)⟩, ⟨some (143, true), .bin 148 .eql (.t 147) (.c (.int .i64 6))⟩, ⟨none, .pick 149 (.t 143) (.t 148) (.c (.bool false))⟩, ⟨none, .mv 150 (.t 149)⟩, ⟨some (150, true), .mv 151 (.t 21)⟩, ⟨some (150, true), .ia 152 (.t 151) (.c (.int .i64 1))⟩, ⟨some (150, true), .fa 153 (.t 152) 0⟩, ⟨some (150, true), .ld 154 (.t 153)⟩, ⟨some (150, true), .bin 155 .eql (.t 154) (.c (.int .i64 2))⟩, ⟨none, .pick 156 (.t 150) (.t 155) (.c (.bool false))⟩, ⟨none, .mv 0 (.t 156)⟩] [3, 4, 6, 8, 10, 12, 13, 14, 15, 16, 18, 20, 21, 83, 84, 85, 86, 87, 88, 89, 90, 91, 92, 93, 94, 95, 96, 97, 98, 99, 100, 101, 102, 103, 104, 105, 106, 107, 108, 109, 110, 111, 112, 113, 114, 115, 116, 117, 118, 119, 120, 121, 122, 123, 124, 125, 126, 127, 128, 129, 130, 131, 132, 133, 134, 135, 136, 137, 138, 139, 140, 141, 142, 143, 144, 145, 146, 147, 148, 149, 150, 151, 152, 153, 154, 155, 156])
 .ret))))))))))))))), [.t 0]⟩
/- foliot/foliotlaw11.SemaLow -/
def k_law11_SemaLow_L0b : K := (.seq (.seq (.reg [] [⟨none, .mv 27 (.t 11)⟩, ⟨none, .bin 28 .lss (.t 27) (.c (.int .i64 4))⟩] [27])
 (.cond (.t 28) .skip
 (.ext 0)))
 (.seq (.blk 1 (.reg [] [⟨none, .mv 31 (.t 10)⟩, ⟨none, .mv 32 (.t 11)⟩, ⟨none, .ia 33 (.t 4) (.t 32)⟩, ⟨none, .ld 34 (.t 33)⟩, ⟨none, .bin 35 .rem (.t 34) (.c (.int .u8 9))⟩, ⟨none, .cv 36 .i64 (.t 35)⟩, ⟨none, .mv 37 (.t 11)⟩, ⟨none, .ia 38 (.t 5) (.t 37)⟩, ⟨none, .ld 39 (.t 38)⟩, ⟨none, .bin 40 .rem (.t 39) (.c (.int .u8 5))⟩, ⟨none, .cv 41 .i64 (.t 40)⟩, ⟨none, .bld 42 [(.t 36), (.t 41)]⟩, ⟨none, .bsl 43 [(.t 42)]⟩, ⟨none, .app 44 (.t 31) (.t 43)⟩, ⟨none, .mv 10 (.t 44)⟩] [31, 32, 33, 34, 35, 36, 37, 38, 39, 40, 41, 42, 43, 44]))
 (.reg [] [⟨none, .mv 29 (.t 11)⟩, ⟨none, .bin 30 .add (.t 29) (.c (.int .i64 1))⟩, ⟨none, .mv 11 (.t 30)⟩] [29, 30])))
def k_law11_SemaLow_L0 : K := k_law11_SemaLow_L0b
def k_law11_SemaLow_L1b : K := (.seq (.seq (.reg [] [⟨none, .mv 45 (.t 13)⟩, ⟨none, .mv 46 (.t 2)⟩, ⟨none, .len 47 (.t 46)⟩, ⟨none, .bin 48 .lss (.t 45) (.t 47)⟩] [45, 46, 47])
 (.cond (.t 48) .skip
 (.ext 2)))
 (.seq (.blk 3 (.reg [] [⟨none, .mv 51 (.t 12)⟩, ⟨none, .mv 52 (.t 2)⟩, ⟨none, .mv 53 (.t 13)⟩, ⟨none, .ia 54 (.t 52) (.t 53)⟩, ⟨none, .ld 55 (.t 54)⟩, ⟨none, .bin 56 .rem (.t 55) (.c (.int .u8 5))⟩, ⟨none, .cv 57 .i64 (.t 56)⟩, ⟨none, .bsl 58 [(.t 57)]⟩, ⟨none, .app 59 (.t 51) (.t 58)⟩, ⟨none, .mv 12 (.t 59)⟩] [51, 52, 53, 54, 55, 56, 57, 58, 59]))
 (.reg [] [⟨none, .mv 49 (.t 13)⟩, ⟨none, .bin 50 .add (.t 49) (.c (.int .i64 1))⟩, ⟨none, .mv 13 (.t 50)⟩] [49, 50])))
def k_law11_SemaLow_L1 : K := k_law11_SemaLow_L1b
def k_law11_SemaLow_L2b : K := (.seq (.seq (.reg [] [⟨none, .mv 67 (.t 18)⟩, ⟨none, .mv 68 (.t 12)⟩, ⟨none, .len 69 (.t 68)⟩, ⟨none, .bin 70 .lss (.t 67) (.t 69)⟩] [67, 68, 69])
 (.cond (.t 70) .skip
 (.ext 4)))
 (.seq (.blk 5 (.seq (.seq (.reg [] [⟨none, .mv 73 (.t 12)⟩, ⟨none, .mv 74 (.t 18)⟩, ⟨none, .ia 75 (.t 73) (.t 74)⟩, ⟨none, .ld 76 (.t 75)⟩, ⟨none, .bin 77 .gtr (.t 76) (.c (.int .i64 3))⟩, ⟨none, .mv 78 (.t 77)⟩, ⟨some (78, false), .mv 79 (.t 10)⟩, ⟨some (78, false), .mv 80 (.t 12)⟩, ⟨some (78, false), .mv 81 (.t 18)⟩, ⟨some (78, false), .ia 82 (.t 80) (.t 81)⟩, ⟨some (78, false), .ld 83 (.t 82)⟩, ⟨some (78, false), .ia 84 (.t 79) (.t 83)⟩, ⟨some (78, false), .fa 85 (.t 84) 1⟩, ⟨some (78, false), .ld 86 (.t 85)⟩, ⟨some (78, false), .mv 87 (.t 9)⟩, ⟨some (78, false), .bin 88 .add (.t 87) (.c (.int .i64 1))⟩, ⟨some (78, false), .bin 89 .neq (.t 86) (.t 88)⟩, ⟨none, .pick 90 (.t 78) (.c (.bool true)) (.t 89)⟩] [73, 74, 75, 76, 77, 78, 79, 80, 81, 82, 83, 84, 85, 86, 87, 88, 89])
 (.cond (.t 90) (.ext 5)
 .skip))
 (.seq (.reg [] [⟨none, .mv 16 (.c (.bool true))⟩] [])
 (.seq (.reg [] [⟨none, .mv 91 (.t 17)⟩, ⟨none, .mv 92 (.t 91)⟩, ⟨some (92, false), .mv 93 (.t 10)⟩, ⟨some (92, false), .mv 94 (.t 12)⟩, ⟨some (92, false), .mv 95 (.t 18)⟩, ⟨some (92, false), .ia 96 (.t 94) (.t 95)⟩, ⟨some (92, false), .ld 97 (.t 96)⟩, ⟨some (92, false), .ia 98 (.t 93) (.t 97)⟩, ⟨some (92, false), .fa 99 (.t 98) 0⟩, ⟨some (92, false), .ld 100 (.t 99)⟩, ⟨some (92, false), .mv 101 (.t 14)⟩, ⟨some (92, false), .bin 102 .eql (.t 100) (.t 101)⟩, ⟨none, .pick 103 (.t 92) (.c (.bool true)) (.t 102)⟩, ⟨none, .mv 17 (.t 103)⟩] [91, 92, 93, 94, 95, 96, 97, 98, 99, 100, 101, 102, 103])
 (.seq (.reg [] [⟨none, .mv 104 (.t 10)⟩, ⟨none, .mv 105 (.t 12)⟩, ⟨none, .mv 106 (.t 18)⟩, ⟨none, .ia 107 (.t 105) (.t 106)⟩, ⟨none, .ld 108 (.t 107)⟩, ⟨none, .ia 109 (.t 104) (.t 108)⟩, ⟨none, .fa 110 (.t 109) 0⟩, ⟨none, .ld 111 (.t 110)⟩, ⟨none, .mv 112 (.t 14)⟩, ⟨none, .bin 113 .lss (.t 111) (.t 112)⟩] [104, 105, 106, 107, 108, 109, 110, 111, 112])
 (.cond (.t 113) (.seq (.reg [] [⟨none, .mv 8 (.c (.bool false))⟩] [])
 .ret)
 .skip))))))
 (.reg [] [⟨none, .mv 71 (.t 18)⟩, ⟨none, .bin 72 .add (.t 71) (.c (.int .i64 1))⟩, ⟨none, .mv 18 (.t 72)⟩] [71, 72])))
def k_law11_SemaLow_L2 : K := k_law11_SemaLow_L2b
def k_law11_SemaLow : KF := ⟨(.seq (.reg [] [⟨none, .box 4 (.t 0)⟩, ⟨none, .box 5 (.t 1)⟩, ⟨none, .mv 8 (.c (.bool false))⟩] [0, 1, 8])
 (.seq (.seq (.reg [] [⟨none, .dat 19 f_law11_begun []⟩, ⟨none, .un 20 .not (.t 19)⟩] [19])
 (.cond (.t 20) (.seq (.reg [] [⟨none, .mv 8 (.c (.bool false))⟩] [])
 .ret)
 .skip))
 (.seq (.seq (.reg [] [⟨none, .mv 21 (.t 2)⟩, ⟨none, .len 22 (.t 21)⟩, ⟨none, .bin 23 .gtr (.t 22) (.c (.int .i64 6))⟩] [21, 22])
 (.cond (.t 23) (.seq (.reg [] [⟨none, .mv 8 (.c (.bool true))⟩] [])
 .ret)
 .skip))
 (.seq (.reg [] [⟨none, .mv 24 (.t 3)⟩, ⟨none, .bin 25 .rem (.t 24) (.c (.int .u8 4))⟩, ⟨none, .cv 26 .i64 (.t 25)⟩, ⟨none, .mv 9 (.t 26)⟩] [3, 24, 25, 26])
 (.seq (.reg [] [⟨none, .mv 10 (.c (.d (.sl true [])))⟩] [])
 (.seq (.seq (.reg [] [⟨none, .mv 11 (.c (.int .i64 0))⟩] [])
 (.blk 0 (.loop [2, 4, 5, 9, 10, 11] k_law11_SemaLow_L0)))
 (.seq (.reg [] [⟨none, .mv 12 (.c (.d (.sl true [])))⟩] [])
 (.seq (.seq (.reg [] [⟨none, .mv 13 (.c (.int .i64 0))⟩] [])
 (.blk 2 (.loop [2, 9, 10, 12, 13] k_law11_SemaLow_L1)))
 (.seq (.reg [] [⟨none, .mv 61 (.t 10)⟩, ⟨none, .mv 62 (.t 12)⟩, ⟨none, .mv 63 (.t 9)⟩, ⟨none, .dat 64 f_sema_Low [(.t 61), (.t 62), (.t 63)]⟩, ⟨none, .mv 60 (.t 64)⟩, ⟨none, .ex 65 (.t 60) 0⟩, ⟨none, .ex 66 (.t 60) 1⟩, ⟨none, .mv 14 (.t 65)⟩, ⟨none, .mv 15 (.t 66)⟩] [60, 61, 62, 63, 64, 65, 66])
 (.seq (.reg [] [⟨none, .mv 16 (.c (.bool false))⟩, ⟨none, .mv 17 (.c (.bool false))⟩] [])
 (.seq (.seq (.reg [] [⟨none, .mv 18 (.c (.int .i64 0))⟩] [])
 (.blk 4 (.loop [9, 10, 12, 14, 15, 16, 17, 18] k_law11_SemaLow_L2)))
 (.seq (.reg [] [⟨none, .mv 114 (.t 15)⟩, ⟨none, .mv 115 (.t 16)⟩, ⟨none, .bin 116 .eql (.t 114) (.t 115)⟩, ⟨none, .mv 117 (.t 116)⟩, ⟨some (117, true), .mv 118 (.t 16)⟩, ⟨some (117, true), .un 119 .not (.t 118)⟩, ⟨some (117, true), .mv 120 (.t 119)⟩, ⟨some (120, false), .mv 121 (.t 17)⟩, ⟨some (117, true), .pick 122 (.t 120) (.c (.bool true)) (.t 121)⟩, ⟨none, .pick 123 (.t 117) (.t 122) (.c (.bool false))⟩, ⟨none, .mv 124 (.t 123)⟩, ⟨some (124, true), .mv 125 (.t 16)⟩, ⟨some (124, true), .mv 126 (.t 125)⟩, ⟨some (126, false), .mv 127 (.t 14)⟩, ⟨some (126, false), .bin 128 .eql (.t 127) (.c (.int .i64 0))⟩, ⟨some (124, true), .pick 129 (.t 126) (.c (.bool true)) (.t 128)⟩, ⟨none, .pick 130 (.t 124) (.t 129) (.c (.bool false))⟩, ⟨none, .mv 8 (.t 130)⟩] [14, 15, 16, 17, 114, 115, 116, 117, 118, 119, 120, 121, 122, 123, 124, 125, 126, 127, 128, 129, 130])
 .ret)))))))))))), [.t 8]⟩
/- foliot/foliotlaw12.MboxAll -/
def k_law12_MboxAll_L0b : K := (.seq (.seq (.reg [] [⟨none, .mv 67 (.t 14)⟩, ⟨none, .bin 68 .lss (.t 67) (.c (.int .i64 3))⟩] [67])
 (.cond (.t 68) .skip
 (.ext 0)))
 (.seq (.blk 1 (.seq (.reg [(0, 11), (3, 11), (4, 11), (5, 11)] [⟨none, .ld 72 (.t 3)⟩, ⟨none, .mv 73 (.t 13)⟩, ⟨none, .mv 74 (.t 14)⟩, ⟨none, .ia 75 (.t 73) (.t 74)⟩, ⟨none, .ld 76 (.t 75)⟩, ⟨none, .dat 77 f_mbox_Take [(.t 72), (.t 76)]⟩, ⟨none, .mv 71 (.t 77)⟩, ⟨none, .ex 78 (.t 71) 0⟩, ⟨none, .ex 79 (.t 71) 1⟩, ⟨none, .ex 80 (.t 71) 2⟩, ⟨none, .ex 81 (.t 71) 3⟩, ⟨none, .alc 15 (.d (.agg [(.sl true []), (.sl true [])]))⟩, ⟨none, .st (.t 15) (.t 78)⟩, ⟨none, .mv 16 (.t 79)⟩, ⟨none, .mv 17 (.t 80)⟩, ⟨none, .mv 18 (.t 81)⟩] [71, 72, 73, 74, 75, 76, 77, 78, 79, 80, 81])
 (.seq (.reg [(0, 11), (3, 11), (4, 11), (5, 11)] [⟨none, .ld 83 (.t 3)⟩, ⟨none, .mv 84 (.t 13)⟩, ⟨none, .mv 85 (.t 14)⟩, ⟨none, .ia 86 (.t 84) (.t 85)⟩, ⟨none, .ld 87 (.t 86)⟩, ⟨none, .dat 88 f_ref11_Take [(.t 83), (.t 87)]⟩, ⟨none, .mv 82 (.t 88)⟩, ⟨none, .ex 89 (.t 82) 0⟩, ⟨none, .ex 90 (.t 82) 1⟩, ⟨none, .ex 91 (.t 82) 2⟩, ⟨none, .ex 92 (.t 82) 3⟩, ⟨none, .alc 19 (.d (.agg [(.sl true []), (.sl true [])]))⟩, ⟨none, .st (.t 19) (.t 89)⟩, ⟨none, .mv 20 (.t 90)⟩, ⟨none, .mv 21 (.t 91)⟩, ⟨none, .mv 22 (.t 92)⟩] [82, 83, 84, 85, 86, 87, 88, 89, 90, 91, 92])
 (.seq (.reg [] [⟨none, .mv 93 (.t 16)⟩, ⟨none, .mv 94 (.t 20)⟩, ⟨none, .bin 95 .neq (.t 93) (.t 94)⟩, ⟨none, .mv 96 (.t 95)⟩, ⟨some (96, false), .mv 97 (.t 17)⟩, ⟨some (96, false), .mv 98 (.t 21)⟩, ⟨some (96, false), .bin 99 .neq (.t 97) (.t 98)⟩, ⟨none, .pick 100 (.t 96) (.c (.bool true)) (.t 99)⟩, ⟨none, .mv 101 (.t 100)⟩, ⟨some (101, false), .mv 102 (.t 18)⟩, ⟨some (101, false), .mv 103 (.t 22)⟩, ⟨some (101, false), .bin 104 .neq (.t 102) (.t 103)⟩, ⟨none, .pick 105 (.t 101) (.c (.bool true)) (.t 104)⟩, ⟨none, .mv 106 (.t 105)⟩, ⟨some (106, false), .ld 107 (.t 15)⟩, ⟨some (106, false), .ld 108 (.t 19)⟩, ⟨some (106, false), .dat 109 f_ref11_SameBox [(.t 107), (.t 108)]⟩, ⟨some (106, false), .un 110 .not (.t 109)⟩, ⟨none, .pick 111 (.t 106) (.c (.bool true)) (.t 110)⟩] [15, 16, 17, 18, 19, 20, 21, 22, 93, 94, 95, 96, 97, 98, 99, 100, 101, 102, 103, 104, 105, 106, 107, 108, 109, 110])
 (.cond (.t 111) (.seq (.reg [] [⟨none, .mv 6 (.c (.bool false))⟩] [])
 .ret)
 .skip)))))
 (.reg [] [⟨none, .mv 69 (.t 14)⟩, ⟨none, .bin 70 .add (.t 69) (.c (.int .i64 1))⟩, ⟨none, .mv 14 (.t 70)⟩] [69, 70])))
def k_law12_MboxAll_L0 : K := k_law12_MboxAll_L0b
def k_law12_MboxAll : KF := ⟨(.seq (.reg [] [⟨none, .box 3 (.t 0)⟩, ⟨none, .mv 6 (.c (.bool false))⟩] [0, 6])
 (.seq (.seq (.reg [] [⟨none, .dat 25 f_law12_begun []⟩, ⟨none, .un 26 .not (.t 25)⟩] [25])
 (.cond (.t 26) (.seq (.reg [] [⟨none, .mv 6 (.c (.bool false))⟩] [])
 .ret)
 .skip))
 (.seq (.seq (.reg [] [⟨none, .fa 27 (.t 3) 0⟩, ⟨none, .ld 28 (.t 27)⟩, ⟨none, .len 29 (.t 28)⟩, ⟨none, .bin 30 .gtr (.t 29) (.c (.int .i64 8))⟩, ⟨none, .mv 31 (.t 30)⟩, ⟨some (31, false), .fa 32 (.t 3) 1⟩, ⟨some (31, false), .ld 33 (.t 32)⟩, ⟨some (31, false), .len 34 (.t 33)⟩, ⟨some (31, false), .bin 35 .gtr (.t 34) (.c (.int .i64 8))⟩, ⟨none, .pick 36 (.t 31) (.c (.bool true)) (.t 35)⟩] [27, 28, 29, 30, 31, 32, 33, 34, 35])
 (.cond (.t 36) (.seq (.reg [] [⟨none, .mv 6 (.c (.bool true))⟩] [])
 .ret)
 .skip))
 (.seq (.reg [] [⟨none, .ld 38 (.t 3)⟩, ⟨none, .mv 39 (.t 1)⟩, ⟨none, .dat 40 f_mbox_Post [(.t 38), (.t 39)]⟩, ⟨none, .mv 37 (.t 40)⟩, ⟨none, .ex 41 (.t 37) 0⟩, ⟨none, .ex 42 (.t 37) 1⟩, ⟨none, .ex 43 (.t 37) 2⟩, ⟨none, .alc 7 (.d (.agg [(.sl true []), (.sl true [])]))⟩, ⟨none, .st (.t 7) (.t 41)⟩, ⟨none, .mv 8 (.t 42)⟩, ⟨none, .mv 9 (.t 43)⟩] [37, 38, 39, 40, 41, 42, 43])
 (.seq (.reg [] [⟨none, .ld 45 (.t 3)⟩, ⟨none, .mv 46 (.t 1)⟩, ⟨none, .dat 47 f_ref11_Post [(.t 45), (.t 46)]⟩, ⟨none, .mv 44 (.t 47)⟩, ⟨none, .ex 48 (.t 44) 0⟩, ⟨none, .ex 49 (.t 44) 1⟩, ⟨none, .ex 50 (.t 44) 2⟩, ⟨none, .alc 10 (.d (.agg [(.sl true []), (.sl true [])]))⟩, ⟨none, .st (.t 10) (.t 48)⟩, ⟨none, .mv 11 (.t 49)⟩, ⟨none, .mv 12 (.t 50)⟩] [1, 44, 45, 46, 47, 48, 49, 50])
 (.seq (.seq (.reg [] [⟨none, .mv 51 (.t 8)⟩, ⟨none, .mv 52 (.t 11)⟩, ⟨none, .bin 53 .neq (.t 51) (.t 52)⟩, ⟨none, .mv 54 (.t 53)⟩, ⟨some (54, false), .mv 55 (.t 9)⟩, ⟨some (54, false), .mv 56 (.t 12)⟩, ⟨some (54, false), .bin 57 .neq (.t 55) (.t 56)⟩, ⟨none, .pick 58 (.t 54) (.c (.bool true)) (.t 57)⟩, ⟨none, .mv 59 (.t 58)⟩, ⟨some (59, false), .ld 60 (.t 7)⟩, ⟨some (59, false), .ld 61 (.t 10)⟩, ⟨some (59, false), .dat 62 f_ref11_SameBox [(.t 60), (.t 61)]⟩, ⟨some (59, false), .un 63 .not (.t 62)⟩, ⟨none, .pick 64 (.t 59) (.c (.bool true)) (.t 63)⟩] [7, 8, 9, 10, 11, 12, 51, 52, 53, 54, 55, 56, 57, 58, 59, 60, 61, 62, 63])
 (.cond (.t 64) (.seq (.reg [] [⟨none, .mv 6 (.c (.bool false))⟩] [])
 .ret)
 .skip))
 (.seq (.reg [] [⟨none, .mv 65 (.t 2)⟩, ⟨none, .bsl 66 [(.t 65), (.c (.int .i64 1)), (.c (.int .i64 2))]⟩, ⟨none, .mv 13 (.t 66)⟩] [2, 65, 66])
 (.seq (.seq (.reg [] [⟨none, .mv 14 (.c (.int .i64 0))⟩] [])
 (.blk 0 (.loop [3, 13, 14] k_law12_MboxAll_L0)))
 (.seq (.reg [] [⟨none, .ld 113 (.t 3)⟩, ⟨none, .dat 114 f_mbox_Reset [(.t 113)]⟩, ⟨none, .mv 112 (.t 114)⟩, ⟨none, .ex 115 (.t 112) 0⟩, ⟨none, .ex 116 (.t 112) 1⟩, ⟨none, .alc 23 (.d (.agg [(.sl true []), (.sl true [])]))⟩, ⟨none, .st (.t 23) (.t 115)⟩, ⟨none, .mv 24 (.t 116)⟩] [112, 113, 114, 115, 116])
 (.seq (.reg [] [⟨none, .ld 117 (.t 23)⟩, ⟨none, .bld 118 [(.c (.d (.sl true []))), (.c (.d (.sl true [])))]⟩, ⟨none, .dat 119 f_ref11_SameBox [(.t 117), (.t 118)]⟩, ⟨none, .mv 120 (.t 119)⟩, ⟨some (120, true), .mv 121 (.t 24)⟩, ⟨some (120, true), .fa 122 (.t 3) 1⟩, ⟨some (120, true), .ld 123 (.t 122)⟩, ⟨some (120, true), .dat 124 f_ref11_SameInts [(.t 121), (.t 123)]⟩, ⟨none, .pick 125 (.t 120) (.t 124) (.c (.bool false))⟩, ⟨none, .mv 6 (.t 125)⟩] [3, 23, 24, 117, 118, 119, 120, 121, 122, 123, 124, 125])
 .ret)))))))))), [.t 6]⟩
/- foliot/foliotlaw12.begun -/
def k_law12_begun : KF := ⟨(.seq (.reg [] [⟨none, .mv 0 (.c (.bool false))⟩] [0])
 (.seq (.reg [] [⟨none, .bld 18 [(.c (.d (.sl true []))), (.c (.d (.sl true [])))]⟩, ⟨none, .dat 19 f_mbox_Post [(.t 18), (.c (.int .i64 7))]⟩, ⟨none, .mv 17 (.t 19)⟩, ⟨none, .ex 20 (.t 17) 0⟩, ⟨none, .ex 21 (.t 17) 1⟩, ⟨none, .ex 22 (.t 17) 2⟩, ⟨none, .alc 1 (.d (.agg [(.sl true []), (.sl true [])]))⟩, ⟨none, .st (.t 1) (.t 20)⟩, ⟨none, .mv 2 (.t 21)⟩, ⟨none, .mv 3 (.t 22)⟩] [17, 18, 19, 20, 21, 22])
 (.seq (.reg [] [⟨none, .ld 24 (.t 1)⟩, ⟨none, .dat 25 f_mbox_Take [(.t 24), (.c (.int .i64 1))]⟩, ⟨none, .mv 23 (.t 25)⟩, ⟨none, .ex 26 (.t 23) 0⟩, ⟨none, .ex 27 (.t 23) 1⟩, ⟨none, .ex 28 (.t 23) 2⟩, ⟨none, .ex 29 (.t 23) 3⟩, ⟨none, .alc 4 (.d (.agg [(.sl true []), (.sl true [])]))⟩, ⟨none, .st (.t 4) (.t 26)⟩, ⟨none, .mv 5 (.t 27)⟩, ⟨none, .mv 6 (.t 28)⟩, ⟨none, .mv 7 (.t 29)⟩] [1, 23, 24, 25, 26, 27, 28, 29])
 (.seq (.reg [] [⟨none, .ld 31 (.t 4)⟩, ⟨none, .dat 32 f_mbox_Take [(.t 31), (.c (.int .i64 1))]⟩, ⟨none, .mv 30 (.t 32)⟩, ⟨none, .ex 33 (.t 30) 0⟩, ⟨none, .ex 34 (.t 30) 1⟩, ⟨none, .ex 35 (.t 30) 2⟩, ⟨none, .ex 36 (.t 30) 3⟩, ⟨none, .alc 8 (.d (.agg [(.sl true []), (.sl true [])]))⟩, ⟨none, .st (.t 8) (.t 33)⟩, ⟨none, .mv 9 (.t 34)⟩, ⟨none, .mv 10 (.t 35)⟩, ⟨none, .mv 11 (.t 36)⟩] [4, 9, 30, 31, 32, 33, 34, 35, 36])
 (.seq (.reg [] [⟨none, .ld 38 (.t 8)⟩, ⟨none, .dat 39 f_mbox_Post [(.t 38), (.c (.int .i64 8))]⟩, ⟨none, .mv 37 (.t 39)⟩, ⟨none, .ex 40 (.t 37) 0⟩, ⟨none, .ex 41 (.t 37) 1⟩, ⟨none, .ex 42 (.t 37) 2⟩, ⟨none, .alc 12 (.d (.agg [(.sl true []), (.sl true [])]))⟩, ⟨none, .st (.t 12) (.t 40)⟩, ⟨none, .mv 13 (.t 41)⟩, ⟨none, .mv 14 (.t 42)⟩] [37, 38, 39, 40, 41, 42])
 (.seq (.reg [] [⟨none, .ld 44 (.t 8)⟩, ⟨none, .dat 45 f_mbox_Reset [(.t 44)]⟩, ⟨none, .mv 43 (.t 45)⟩, ⟨none, .ex 46 (.t 43) 0⟩, ⟨none, .ex 47 (.t 43) 1⟩, ⟨none, .alc 15 (.d (.agg [(.sl true []), (.sl true [])]))⟩, ⟨none, .st (.t 15) (.t 46)⟩, ⟨none, .mv 16 (.t 47)⟩] [8, 15, 43, 44, 45, 46, 47])
 (.seq (.reg [] [⟨none, .mv 48 (.t 3)⟩, ⟨none, .mv 49 (.t 48)⟩, ⟨some (49, true), .mv 50 (.t 2)⟩, ⟨some (49, true), .bin 51 .eql (.t 50) (.c (.int .i64 0))⟩, ⟨none, .pick 52 (.t 49) (.t 51) (.c (.bool false))⟩, ⟨none, .mv 53 (.t 52)⟩, ⟨some (53, true), .mv 54 (.t 6)⟩, ⟨none, .pick 55 (.t 53) (.t 54) (.c (.bool false))⟩, ⟨none, .mv 56 (.t 55)⟩, ⟨some (56, true), .mv 57 (.t 7)⟩, ⟨none, .pick 58 (.t 56) (.t 57) (.c (.bool false))⟩, ⟨none, .mv 59 (.t 58)⟩, ⟨some (59, true), .mv 60 (.t 5)⟩, ⟨some (59, true), .bin 61 .eql (.t 60) (.c (.int .i64 7))⟩, ⟨none, .pick 62 (.t 59) (.t 61) (.c (.bool false))⟩, ⟨none, .mv 63 (.t 62)⟩, ⟨some (63, true), .mv 64 (.t 10)⟩, ⟨some (63, true), .un 65 .not (.t 64)⟩, ⟨none, .pick 66 (.t 63) (.t 65) (.c (.bool false))⟩, ⟨none, .mv 67 (.t 66)⟩, ⟨some (67, true), .mv 68 (.t 11)⟩, ⟨none, .pick 69 (.t 67) (.t 68) (.c (.bool false))⟩, ⟨none, .mv 70 (.t 69)⟩, ⟨some (70, true), .mv 71 (.t 14)⟩, ⟨none, .pick 72 (.t 70) (.t 71) (.c (.bool false))⟩, ⟨none, .mv 73 (.t 72)⟩, ⟨some (73, true), .mv 74 (.t 13)⟩, ⟨some (73, true), .bin 75 .eql (.t 74) (.c (.int .i64 1))⟩, ⟨none, .pick 76 (.t 73) (.t 75) (.c (.bool false))⟩, ⟨none, .mv 77 (.t 76)⟩, ⟨some (77, true), .fa 78 (.t 12) 0⟩, ⟨some (77, true), .ld 79 (.t 78)⟩, ⟨some (77, true), .len 80 (.t 79)⟩, ⟨some (77, true), .bin 81 .eql (.t 80) (.c (.int .i64 0))⟩, ⟨none, .pick 82 (.t 77) (.t 81) (.c (.bool false))⟩, ⟨none, .mv 83 (.t 82)⟩, ⟨some (83, true), .mv 84 (.t 16)⟩, ⟨some (83, true), .len 85 (.t 84)⟩, ⟨some (83, true), .bin 86 .eql (.t 85) (.c (.int .i64 1))⟩, ⟨none, .pick 87 (.t 83) (.t 86) (.c (.bool false))⟩, ⟨none, .mv 0 (.t 87)⟩] [2, 3, 5, 6, 7, 10, 11, 12, 13, 14, 16, 48, 49, 50, 51, 52, 53, 54, 55, 56, 57, 58, 59, 60, 61, 62, 63, 64, 65, 66, 67, 68, 69, 70, 71, 72, 73, 74, 75, 76, 77, 78, 79, 80, 81, 82, 83, 84, 85, 86, 87])
 .ret))))))), [.t 0]⟩
/- foliot/mbox.Post -/
def k_mbox_Post : KF := ⟨(.seq (.reg [] [⟨none, .box 2 (.t 0)⟩, ⟨none, .alc 4 (.d (.agg [(.sl true []), (.sl true [])]))⟩, ⟨none, .mv 5 (.c (.int .i64 0))⟩, ⟨none, .mv 6 (.c (.bool false))⟩] [0, 5, 6])
 (.seq (.reg [] [⟨none, .ld 9 (.t 2)⟩, ⟨none, .dat 10 f_mbox_twin [(.t 9)]⟩, ⟨none, .alc 7 (.d (.agg [(.sl true []), (.sl true [])]))⟩, ⟨none, .st (.t 7) (.t 10)⟩] [2, 9, 10])
 (.seq (.blk 0 (.seq (.reg [] [⟨none, .fa 12 (.t 7) 1⟩, ⟨none, .ld 13 (.t 12)⟩, ⟨none, .len 14 (.t 13)⟩, ⟨none, .bin 15 .gtr (.t 14) (.c (.int .i64 0))⟩, ⟨none, .mv 11 (.t 15)⟩] [12, 13, 14, 15])
 (.cond (.t 11) (.seq (.reg [] [⟨none, .fa 16 (.t 7) 1⟩, ⟨none, .ld 17 (.t 16)⟩, ⟨none, .ia 18 (.t 17) (.c (.int .i64 0))⟩, ⟨none, .ld 19 (.t 18)⟩, ⟨none, .mv 8 (.t 19)⟩] [16, 17, 18, 19])
 (.seq (.reg [] [⟨none, .fa 20 (.t 7) 1⟩, ⟨none, .ld 21 (.t 20)⟩, ⟨none, .slc 22 (.t 21) (some (.c (.int .i64 1))) none⟩, ⟨none, .fa 23 (.t 7) 1⟩, ⟨none, .st (.t 23) (.t 22)⟩] [20, 21, 22, 23])
 (.seq (.reg [] [⟨none, .ld 24 (.t 7)⟩, ⟨none, .mv 25 (.t 8)⟩, ⟨none, .st (.t 4) (.t 24)⟩, ⟨none, .mv 5 (.t 25)⟩, ⟨none, .mv 6 (.c (.bool true))⟩] [7, 8, 24, 25])
 .ret)))
 (.seq (.reg [] [⟨none, .fa 27 (.t 7) 0⟩, ⟨none, .ld 28 (.t 27)⟩, ⟨none, .len 29 (.t 28)⟩, ⟨none, .bin 30 .geq (.t 29) (.c (.int .i64 4))⟩, ⟨none, .mv 26 (.t 30)⟩] [27, 28, 29, 30])
 (.cond (.t 26) (.seq (.reg [] [⟨none, .ld 31 (.t 7)⟩, ⟨none, .st (.t 4) (.t 31)⟩, ⟨none, .mv 5 (.c (.int .i64 0))⟩, ⟨none, .mv 6 (.c (.bool false))⟩] [7, 31])
 .ret)
 .skip)))))
 (.seq (.reg [] [⟨none, .fa 32 (.t 7) 0⟩, ⟨none, .ld 33 (.t 32)⟩, ⟨none, .mv 34 (.t 1)⟩, ⟨none, .bsl 35 [(.t 34)]⟩, ⟨none, .app 36 (.t 33) (.t 35)⟩, ⟨none, .fa 37 (.t 7) 0⟩, ⟨none, .st (.t 37) (.t 36)⟩] [1, 32, 33, 34, 35, 36, 37])
 (.seq (.reg [] [⟨none, .ld 38 (.t 7)⟩, ⟨none, .st (.t 4) (.t 38)⟩, ⟨none, .mv 5 (.c (.int .i64 0))⟩, ⟨none, .mv 6 (.c (.bool true))⟩] [7, 38])
 .ret))))), [.cell 4, .t 5, .t 6]⟩
/- foliot/mbox.twin -/
def k_mbox_twin : KF := ⟨(.seq (.reg [] [⟨none, .box 1 (.t 0)⟩, ⟨none, .alc 2 (.d (.agg [(.sl true []), (.sl true [])]))⟩] [0])
 (.seq (.reg [(2, 4)] [⟨none, .fa 3 (.t 1) 0⟩, ⟨none, .ld 4 (.t 3)⟩, ⟨none, .dat 5 f_slices_Clone_int64_int64 [(.t 4)]⟩, ⟨none, .fa 6 (.t 1) 1⟩, ⟨none, .ld 7 (.t 6)⟩, ⟨none, .dat 8 f_slices_Clone_int_int [(.t 7)]⟩, ⟨none, .bld 9 [(.t 5), (.t 8)]⟩, ⟨none, .st (.t 2) (.t 9)⟩] [1, 3, 4, 5, 6, 7, 8, 9])
 .ret)), [.cell 2]⟩
/- slices.Clone[[]int64,int64] -/
def k_slices_Clone_int64_int64 : KF := ⟨(.seq (.reg [] [⟨none, .mv 2 (.c (.d (.sl true [])))⟩] [2])
 (.seq (.seq (.reg [] [⟨none, .mv 3 (.t 0)⟩, ⟨none, .bin 4 .eql (.t 3) (.c (.d (.sl true [])))⟩] [3])
 (.cond (.t 4) (.seq (.reg [] [⟨none, .mv 2 (.c (.d (.sl true [])))⟩] [])
 .ret)
 .skip))
 (.seq (.reg [] [⟨none, .bsl 5 []⟩, ⟨none, .mv 6 (.t 0)⟩, ⟨none, .app 7 (.t 5) (.t 6)⟩, ⟨none, .mv 2 (.t 7)⟩] [0, 5, 6, 7])
 .ret))), [.t 2]⟩
/- foliot/mbox.Take -/
def k_mbox_Take : KF := ⟨(.seq (.reg [] [⟨none, .box 2 (.t 0)⟩, ⟨none, .alc 4 (.d (.agg [(.sl true []), (.sl true [])]))⟩, ⟨none, .mv 5 (.c (.int .i64 0))⟩, ⟨none, .mv 6 (.c (.bool false))⟩, ⟨none, .mv 7 (.c (.bool false))⟩] [0, 5, 6, 7])
 (.seq (.reg [] [⟨none, .ld 8 (.t 2)⟩, ⟨none, .dat 9 f_mbox_twin [(.t 8)]⟩, ⟨none, .st (.t 4) (.t 9)⟩] [2, 8, 9])
 (.seq (.blk 0 (.seq (.reg [] [⟨none, .mv 11 (.t 1)⟩, ⟨none, .bin 12 .lss (.t 11) (.c (.int .i64 1))⟩, ⟨none, .mv 10 (.t 12)⟩] [11, 12])
 (.cond (.t 10) (.seq (.reg [] [⟨none, .ld 13 (.t 4)⟩, ⟨none, .st (.t 4) (.t 13)⟩, ⟨none, .mv 5 (.c (.int .i64 0))⟩, ⟨none, .mv 6 (.c (.bool false))⟩, ⟨none, .mv 7 (.c (.bool false))⟩] [13])
 .ret)
 (.seq (.reg [] [⟨none, .fa 15 (.t 4) 0⟩, ⟨none, .ld 16 (.t 15)⟩, ⟨none, .len 17 (.t 16)⟩, ⟨none, .bin 18 .gtr (.t 17) (.c (.int .i64 0))⟩, ⟨none, .mv 14 (.t 18)⟩] [15, 16, 17, 18])
 (.cond (.t 14) (.seq (.reg [] [⟨none, .fa 19 (.t 4) 0⟩, ⟨none, .ld 20 (.t 19)⟩, ⟨none, .ia 21 (.t 20) (.c (.int .i64 0))⟩, ⟨none, .ld 22 (.t 21)⟩, ⟨none, .mv 5 (.t 22)⟩] [19, 20, 21, 22])
 (.seq (.reg [] [⟨none, .fa 23 (.t 4) 0⟩, ⟨none, .ld 24 (.t 23)⟩, ⟨none, .slc 25 (.t 24) (some (.c (.int .i64 1))) none⟩, ⟨none, .fa 26 (.t 4) 0⟩, ⟨none, .st (.t 26) (.t 25)⟩] [23, 24, 25, 26])
 (.seq (.reg [] [⟨none, .ld 27 (.t 4)⟩, ⟨none, .mv 28 (.t 5)⟩, ⟨none, .st (.t 4) (.t 27)⟩, ⟨none, .mv 5 (.t 28)⟩, ⟨none, .mv 6 (.c (.bool true))⟩, ⟨none, .mv 7 (.c (.bool true))⟩] [27, 28])
 .ret)))
 (.seq (.reg [] [⟨none, .fa 30 (.t 4) 1⟩, ⟨none, .ld 31 (.t 30)⟩, ⟨none, .mv 32 (.t 1)⟩, ⟨none, .dat 33 f_slices_Contains_int_int [(.t 31), (.t 32)]⟩, ⟨none, .mv 34 (.t 33)⟩, ⟨some (34, false), .fa 35 (.t 4) 1⟩, ⟨some (34, false), .ld 36 (.t 35)⟩, ⟨some (34, false), .len 37 (.t 36)⟩, ⟨some (34, false), .bin 38 .geq (.t 37) (.c (.int .i64 4))⟩, ⟨none, .pick 39 (.t 34) (.c (.bool true)) (.t 38)⟩, ⟨none, .mv 29 (.t 39)⟩] [30, 31, 32, 33, 34, 35, 36, 37, 38, 39])
 (.cond (.t 29) (.seq (.reg [] [⟨none, .ld 40 (.t 4)⟩, ⟨none, .st (.t 4) (.t 40)⟩, ⟨none, .mv 5 (.c (.int .i64 0))⟩, ⟨none, .mv 6 (.c (.bool false))⟩, ⟨none, .mv 7 (.c (.bool false))⟩] [40])
 .ret)
 .skip)))))))
 (.seq (.reg [] [⟨none, .fa 41 (.t 4) 1⟩, ⟨none, .ld 42 (.t 41)⟩, ⟨none, .mv 43 (.t 1)⟩, ⟨none, .bsl 44 [(.t 43)]⟩, ⟨none, .app 45 (.t 42) (.t 44)⟩, ⟨none, .fa 46 (.t 4) 1⟩, ⟨none, .st (.t 46) (.t 45)⟩] [1, 41, 42, 43, 44, 45, 46])
 (.seq (.reg [] [⟨none, .ld 47 (.t 4)⟩, ⟨none, .st (.t 4) (.t 47)⟩, ⟨none, .mv 5 (.c (.int .i64 0))⟩, ⟨none, .mv 6 (.c (.bool false))⟩, ⟨none, .mv 7 (.c (.bool true))⟩] [47])
 .ret))))), [.cell 4, .t 5, .t 6, .t 7]⟩
/- slices.Contains[[]int,int] -/
def k_slices_Contains_int_int : KF := ⟨(.seq (.reg [] [⟨none, .mv 4 (.c (.bool false))⟩] [4])
 (.seq (.reg [] [⟨none, .mv 5 (.t 0)⟩, ⟨none, .mv 6 (.t 1)⟩, ⟨none, .dat 7 f_slices_Index_int_int [(.t 5), (.t 6)]⟩, ⟨none, .bin 8 .geq (.t 7) (.c (.int .i64 0))⟩, ⟨none, .mv 4 (.t 8)⟩] [0, 1, 5, 6, 7, 8])
 .ret)), [.t 4]⟩
/- slices.Index[[]int,int] -/
def k_slices_Index_int_int_L0b : K := (.seq (.reg [] [⟨none, .bin 9 .lss (.t 8) (.t 7)⟩] [])
 (.seq (.cond (.t 9) .skip
 (.ext 0))
 (.seq (.blk 1 (.seq (.reg [] [⟨none, .mv 10 (.t 8)⟩, ⟨none, .mv 5 (.t 10)⟩] [10])
 (.seq (.reg [] [⟨none, .mv 11 (.t 1)⟩, ⟨none, .mv 12 (.t 0)⟩, ⟨none, .mv 13 (.t 5)⟩, ⟨none, .ia 14 (.t 12) (.t 13)⟩, ⟨none, .ld 15 (.t 14)⟩, ⟨none, .bin 16 .eql (.t 11) (.t 15)⟩] [11, 12, 13, 14, 15])
 (.cond (.t 16) (.seq (.reg [] [⟨none, .mv 17 (.t 5)⟩, ⟨none, .mv 4 (.t 17)⟩] [5, 17])
 .ret)
 .skip))))
 (.reg [] [⟨none, .bin 18 .add (.t 8) (.c (.int .i64 1))⟩, ⟨none, .mv 8 (.t 18)⟩] [18]))))
def k_slices_Index_int_int_L0 : K := k_slices_Index_int_int_L0b
def k_slices_Index_int_int : KF := ⟨(.seq (.reg [] [⟨none, .mv 4 (.c (.int .i64 0))⟩] [4])
 (.seq (.seq (.reg [] [⟨none, .mv 6 (.t 0)⟩, ⟨none, .len 7 (.t 6)⟩, ⟨none, .mv 8 (.c (.int .i64 0))⟩] [6])
 (.blk 0 (.loop [0, 1, 7, 8] k_slices_Index_int_int_L0)))
 (.seq (.reg [] [⟨none, .mv 4 (.c (.int .i64 (-1)))⟩] [])
 .ret))), [.t 4]⟩
/- foliot/mbox.Reset -/
def k_mbox_Reset : KF := ⟨(.seq (.reg [] [⟨none, .box 1 (.t 0)⟩, ⟨none, .alc 2 (.d (.agg [(.sl true []), (.sl true [])]))⟩, ⟨none, .mv 3 (.c (.d (.sl true [])))⟩] [0, 3])
 (.seq (.reg [] [⟨none, .bld 4 [(.c (.d (.sl true []))), (.c (.d (.sl true [])))]⟩, ⟨none, .fa 5 (.t 1) 1⟩, ⟨none, .ld 6 (.t 5)⟩, ⟨none, .dat 7 f_slices_Clone_int_int [(.t 6)]⟩, ⟨none, .st (.t 2) (.t 4)⟩, ⟨none, .mv 3 (.t 7)⟩] [1, 4, 5, 6, 7])
 .ret)), [.cell 2, .t 3]⟩
/- foliot/foliotref11.Post -/
def k_ref11_Post : KF := ⟨(.seq (.reg [] [⟨none, .box 2 (.t 0)⟩, ⟨none, .alc 4 (.d (.agg [(.sl true []), (.sl true [])]))⟩, ⟨none, .mv 5 (.c (.int .i64 0))⟩, ⟨none, .mv 6 (.c (.bool false))⟩] [0, 5, 6])
 (.seq (.reg [(0, 2), (0, 4), (2, 4), (3, 4), (0, 6), (3, 6), (4, 6), (0, 9), (2, 9), (3, 9), (4, 9), (6, 9), (7, 9)] [⟨none, .bsl 8 []⟩, ⟨none, .fa 9 (.t 2) 0⟩, ⟨none, .ld 10 (.t 9)⟩, ⟨none, .app 11 (.t 8) (.t 10)⟩, ⟨none, .bsl 12 []⟩, ⟨none, .fa 13 (.t 2) 1⟩, ⟨none, .ld 14 (.t 13)⟩, ⟨none, .app 15 (.t 12) (.t 14)⟩, ⟨none, .bld 16 [(.t 11), (.t 15)]⟩, ⟨none, .alc 7 (.d (.agg [(.sl true []), (.sl true [])]))⟩, ⟨none, .st (.t 7) (.t 16)⟩] [8, 9, 10, 11, 12, 13, 14, 15, 16])
 (.seq (.seq (.reg [] [⟨none, .fa 17 (.t 2) 1⟩, ⟨none, .ld 18 (.t 17)⟩, ⟨none, .len 19 (.t 18)⟩, ⟨none, .bin 20 .gtr (.t 19) (.c (.int .i64 0))⟩] [17, 18, 19])
 (.cond (.t 20) (.seq (.reg [] [⟨none, .fa 21 (.t 7) 1⟩, ⟨none, .ld 22 (.t 21)⟩, ⟨none, .slc 23 (.t 22) (some (.c (.int .i64 1))) none⟩, ⟨none, .fa 24 (.t 7) 1⟩, ⟨none, .st (.t 24) (.t 23)⟩] [21, 22, 23, 24])
 (.seq (.reg [(2, 5), (3, 5), (4, 5)] [⟨none, .ld 25 (.t 7)⟩, ⟨none, .fa 26 (.t 2) 1⟩, ⟨none, .ld 27 (.t 26)⟩, ⟨none, .ia 28 (.t 27) (.c (.int .i64 0))⟩, ⟨none, .ld 29 (.t 28)⟩, ⟨none, .st (.t 4) (.t 25)⟩, ⟨none, .mv 5 (.t 29)⟩, ⟨none, .mv 6 (.c (.bool true))⟩] [2, 7, 25, 26, 27, 28, 29])
 .ret))
 .skip))
 (.seq (.seq (.reg [] [⟨none, .fa 30 (.t 2) 0⟩, ⟨none, .ld 31 (.t 30)⟩, ⟨none, .len 32 (.t 31)⟩, ⟨none, .bin 33 .geq (.t 32) (.c (.int .i64 4))⟩] [2, 30, 31, 32])
 (.cond (.t 33) (.seq (.reg [] [⟨none, .ld 34 (.t 7)⟩, ⟨none, .st (.t 4) (.t 34)⟩, ⟨none, .mv 5 (.c (.int .i64 0))⟩, ⟨none, .mv 6 (.c (.bool false))⟩] [7, 34])
 .ret)
 .skip))
 (.seq (.reg [] [⟨none, .fa 35 (.t 7) 0⟩, ⟨none, .ld 36 (.t 35)⟩, ⟨none, .mv 37 (.t 1)⟩, ⟨none, .bsl 38 [(.t 37)]⟩, ⟨none, .app 39 (.t 36) (.t 38)⟩, ⟨none, .fa 40 (.t 7) 0⟩, ⟨none, .st (.t 40) (.t 39)⟩] [1, 35, 36, 37, 38, 39, 40])
 (.seq (.reg [] [⟨none, .ld 41 (.t 7)⟩, ⟨none, .st (.t 4) (.t 41)⟩, ⟨none, .mv 5 (.c (.int .i64 0))⟩, ⟨none, .mv 6 (.c (.bool true))⟩] [7, 41])
 .ret)))))), [.cell 4, .t 5, .t 6]⟩
/- foliot/foliotref11.SameBox -/
def k_ref11_SameBox_L0b : K := (.seq (.seq (.reg [] [⟨none, .mv 23 (.t 5)⟩, ⟨none, .fa 24 (.t 2) 0⟩, ⟨none, .ld 25 (.t 24)⟩, ⟨none, .len 26 (.t 25)⟩, ⟨none, .bin 27 .lss (.t 23) (.t 26)⟩] [23, 24, 25, 26])
 (.cond (.t 27) .skip
 (.ext 0)))
 (.seq (.blk 1 (.seq (.reg [] [⟨none, .fa 30 (.t 2) 0⟩, ⟨none, .ld 31 (.t 30)⟩, ⟨none, .mv 32 (.t 5)⟩, ⟨none, .ia 33 (.t 31) (.t 32)⟩, ⟨none, .ld 34 (.t 33)⟩, ⟨none, .fa 35 (.t 3) 0⟩, ⟨none, .ld 36 (.t 35)⟩, ⟨none, .mv 37 (.t 5)⟩, ⟨none, .ia 38 (.t 36) (.t 37)⟩, ⟨none, .ld 39 (.t 38)⟩, ⟨none, .bin 40 .neq (.t 34) (.t 39)⟩] [30, 31, 32, 33, 34, 35, 36, 37, 38, 39])
 (.cond (.t 40) (.seq (.reg [] [⟨none, .mv 4 (.c (.bool false))⟩] [])
 .ret)
 .skip)))
 (.reg [] [⟨none, .mv 28 (.t 5)⟩, ⟨none, .bin 29 .add (.t 28) (.c (.int .i64 1))⟩, ⟨none, .mv 5 (.t 29)⟩] [28, 29])))
def k_ref11_SameBox_L0 : K := k_ref11_SameBox_L0b
def k_ref11_SameBox_L1b : K := (.seq (.seq (.reg [] [⟨none, .mv 41 (.t 6)⟩, ⟨none, .fa 42 (.t 2) 1⟩, ⟨none, .ld 43 (.t 42)⟩, ⟨none, .len 44 (.t 43)⟩, ⟨none, .bin 45 .lss (.t 41) (.t 44)⟩] [41, 42, 43, 44])
 (.cond (.t 45) .skip
 (.ext 2)))
 (.seq (.blk 3 (.seq (.reg [] [⟨none, .fa 48 (.t 2) 1⟩, ⟨none, .ld 49 (.t 48)⟩, ⟨none, .mv 50 (.t 6)⟩, ⟨none, .ia 51 (.t 49) (.t 50)⟩, ⟨none, .ld 52 (.t 51)⟩, ⟨none, .fa 53 (.t 3) 1⟩, ⟨none, .ld 54 (.t 53)⟩, ⟨none, .mv 55 (.t 6)⟩, ⟨none, .ia 56 (.t 54) (.t 55)⟩, ⟨none, .ld 57 (.t 56)⟩, ⟨none, .bin 58 .neq (.t 52) (.t 57)⟩] [48, 49, 50, 51, 52, 53, 54, 55, 56, 57])
 (.cond (.t 58) (.seq (.reg [] [⟨none, .mv 4 (.c (.bool false))⟩] [])
 .ret)
 .skip)))
 (.reg [] [⟨none, .mv 46 (.t 6)⟩, ⟨none, .bin 47 .add (.t 46) (.c (.int .i64 1))⟩, ⟨none, .mv 6 (.t 47)⟩] [46, 47])))
def k_ref11_SameBox_L1 : K := k_ref11_SameBox_L1b
def k_ref11_SameBox : KF := ⟨(.seq (.reg [] [⟨none, .box 2 (.t 0)⟩, ⟨none, .box 3 (.t 1)⟩, ⟨none, .mv 4 (.c (.bool false))⟩] [0, 1, 4])
 (.seq (.seq (.reg [] [⟨none, .fa 7 (.t 2) 0⟩, ⟨none, .ld 8 (.t 7)⟩, ⟨none, .len 9 (.t 8)⟩, ⟨none, .fa 10 (.t 3) 0⟩, ⟨none, .ld 11 (.t 10)⟩, ⟨none, .len 12 (.t 11)⟩, ⟨none, .bin 13 .neq (.t 9) (.t 12)⟩, ⟨none, .mv 14 (.t 13)⟩, ⟨some (14, false), .fa 15 (.t 2) 1⟩, ⟨some (14, false), .ld 16 (.t 15)⟩, ⟨some (14, false), .len 17 (.t 16)⟩, ⟨some (14, false), .fa 18 (.t 3) 1⟩, ⟨some (14, false), .ld 19 (.t 18)⟩, ⟨some (14, false), .len 20 (.t 19)⟩, ⟨some (14, false), .bin 21 .neq (.t 17) (.t 20)⟩, ⟨none, .pick 22 (.t 14) (.c (.bool true)) (.t 21)⟩] [7, 8, 9, 10, 11, 12, 13, 14, 15, 16, 17, 18, 19, 20, 21])
 (.cond (.t 22) (.seq (.reg [] [⟨none, .mv 4 (.c (.bool false))⟩] [])
 .ret)
 .skip))
 (.seq (.seq (.reg [] [⟨none, .mv 5 (.c (.int .i64 0))⟩] [])
 (.blk 0 (.loop [2, 3, 5] k_ref11_SameBox_L0)))
 (.seq (.seq (.reg [] [⟨none, .mv 6 (.c (.int .i64 0))⟩] [])
 (.blk 2 (.loop [2, 3, 6] k_ref11_SameBox_L1)))
 (.seq (.reg [] [⟨none, .mv 4 (.c (.bool true))⟩] [])
 .ret))))), [.t 4]⟩
/- foliot/foliotref11.Take -/
def k_ref11_Take_L0b : K := (.seq (.seq (.reg [] [⟨none, .mv 35 (.t 9)⟩, ⟨none, .fa 36 (.t 2) 1⟩, ⟨none, .ld 37 (.t 36)⟩, ⟨none, .len 38 (.t 37)⟩, ⟨none, .bin 39 .lss (.t 35) (.t 38)⟩] [35, 36, 37, 38])
 (.cond (.t 39) .skip
 (.ext 0)))
 (.seq (.blk 1 (.seq (.reg [] [⟨none, .fa 42 (.t 2) 1⟩, ⟨none, .ld 43 (.t 42)⟩, ⟨none, .mv 44 (.t 9)⟩, ⟨none, .ia 45 (.t 43) (.t 44)⟩, ⟨none, .ld 46 (.t 45)⟩, ⟨none, .mv 47 (.t 1)⟩, ⟨none, .bin 48 .eql (.t 46) (.t 47)⟩] [42, 43, 44, 45, 46, 47])
 (.cond (.t 48) (.seq (.reg [] [⟨none, .ld 49 (.t 8)⟩, ⟨none, .st (.t 4) (.t 49)⟩, ⟨none, .mv 5 (.c (.int .i64 0))⟩, ⟨none, .mv 6 (.c (.bool false))⟩, ⟨none, .mv 7 (.c (.bool false))⟩] [8, 49])
 .ret)
 .skip)))
 (.reg [] [⟨none, .mv 40 (.t 9)⟩, ⟨none, .bin 41 .add (.t 40) (.c (.int .i64 1))⟩, ⟨none, .mv 9 (.t 41)⟩] [40, 41])))
def k_ref11_Take_L0 : K := k_ref11_Take_L0b
def k_ref11_Take : KF := ⟨(.seq (.reg [] [⟨none, .box 2 (.t 0)⟩, ⟨none, .alc 4 (.d (.agg [(.sl true []), (.sl true [])]))⟩, ⟨none, .mv 5 (.c (.int .i64 0))⟩, ⟨none, .mv 6 (.c (.bool false))⟩, ⟨none, .mv 7 (.c (.bool false))⟩] [0, 5, 6, 7])
 (.seq (.reg [(0, 2), (0, 4), (2, 4), (3, 4), (0, 6), (3, 6), (4, 6), (0, 9), (2, 9), (3, 9), (4, 9), (6, 9), (7, 9)] [⟨none, .bsl 10 []⟩, ⟨none, .fa 11 (.t 2) 0⟩, ⟨none, .ld 12 (.t 11)⟩, ⟨none, .app 13 (.t 10) (.t 12)⟩, ⟨none, .bsl 14 []⟩, ⟨none, .fa 15 (.t 2) 1⟩, ⟨none, .ld 16 (.t 15)⟩, ⟨none, .app 17 (.t 14) (.t 16)⟩, ⟨none, .bld 18 [(.t 13), (.t 17)]⟩, ⟨none, .alc 8 (.d (.agg [(.sl true []), (.sl true [])]))⟩, ⟨none, .st (.t 8) (.t 18)⟩] [10, 11, 12, 13, 14, 15, 16, 17, 18])
 (.seq (.seq (.reg [] [⟨none, .mv 19 (.t 1)⟩, ⟨none, .bin 20 .lss (.t 19) (.c (.int .i64 1))⟩] [19])
 (.cond (.t 20) (.seq (.reg [] [⟨none, .ld 21 (.t 8)⟩, ⟨none, .st (.t 4) (.t 21)⟩, ⟨none, .mv 5 (.c (.int .i64 0))⟩, ⟨none, .mv 6 (.c (.bool false))⟩, ⟨none, .mv 7 (.c (.bool false))⟩] [8, 21])
 .ret)
 .skip))
 (.seq (.seq (.reg [] [⟨none, .fa 22 (.t 2) 0⟩, ⟨none, .ld 23 (.t 22)⟩, ⟨none, .len 24 (.t 23)⟩, ⟨none, .bin 25 .gtr (.t 24) (.c (.int .i64 0))⟩] [22, 23, 24])
 (.cond (.t 25) (.seq (.reg [] [⟨none, .fa 26 (.t 8) 0⟩, ⟨none, .ld 27 (.t 26)⟩, ⟨none, .slc 28 (.t 27) (some (.c (.int .i64 1))) none⟩, ⟨none, .fa 29 (.t 8) 0⟩, ⟨none, .st (.t 29) (.t 28)⟩] [26, 27, 28, 29])
 (.seq (.reg [(2, 5), (3, 5), (4, 5)] [⟨none, .ld 30 (.t 8)⟩, ⟨none, .fa 31 (.t 2) 0⟩, ⟨none, .ld 32 (.t 31)⟩, ⟨none, .ia 33 (.t 32) (.c (.int .i64 0))⟩, ⟨none, .ld 34 (.t 33)⟩, ⟨none, .st (.t 4) (.t 30)⟩, ⟨none, .mv 5 (.t 34)⟩, ⟨none, .mv 6 (.c (.bool true))⟩, ⟨none, .mv 7 (.c (.bool true))⟩] [2, 8, 30, 31, 32, 33, 34])
 .ret))
 .skip))
 (.seq (.seq (.reg [] [⟨none, .mv 9 (.c (.int .i64 0))⟩] [])
 (.blk 0 (.loop [1, 2, 4, 8, 9] k_ref11_Take_L0)))
 (.seq (.seq (.reg [] [⟨none, .fa 50 (.t 2) 1⟩, ⟨none, .ld 51 (.t 50)⟩, ⟨none, .len 52 (.t 51)⟩, ⟨none, .bin 53 .geq (.t 52) (.c (.int .i64 4))⟩] [2, 50, 51, 52])
 (.cond (.t 53) (.seq (.reg [] [⟨none, .ld 54 (.t 8)⟩, ⟨none, .st (.t 4) (.t 54)⟩, ⟨none, .mv 5 (.c (.int .i64 0))⟩, ⟨none, .mv 6 (.c (.bool false))⟩, ⟨none, .mv 7 (.c (.bool false))⟩] [8, 54])
 .ret)
 .skip))
 (.seq (.reg [] [⟨none, .fa 55 (.t 8) 1⟩, ⟨none, .ld 56 (.t 55)⟩, ⟨none, .mv 57 (.t 1)⟩, ⟨none, .bsl 58 [(.t 57)]⟩, ⟨none, .app 59 (.t 56) (.t 58)⟩, ⟨none, .fa 60 (.t 8) 1⟩, ⟨none, .st (.t 60) (.t 59)⟩] [1, 55, 56, 57, 58, 59, 60])
 (.seq (.reg [] [⟨none, .ld 61 (.t 8)⟩, ⟨none, .st (.t 4) (.t 61)⟩, ⟨none, .mv 5 (.c (.int .i64 0))⟩, ⟨none, .mv 6 (.c (.bool false))⟩, ⟨none, .mv 7 (.c (.bool true))⟩] [8, 61])
 .ret)))))))), [.cell 4, .t 5, .t 6, .t 7]⟩
/- foliot/foliotlaw12.MboxOrder -/
def k_law12_MboxOrder_L1b : K := (.seq (.seq (.reg [] [⟨none, .mv 116 (.t 18)⟩, ⟨none, .mv 117 (.t 6)⟩, ⟨none, .len 118 (.t 117)⟩, ⟨none, .bin 119 .lss (.t 116) (.t 118)⟩] [116, 117, 118])
 (.cond (.t 119) .skip
 (.ext 2)))
 (.seq (.blk 3 (.reg [] [⟨none, .mv 122 (.t 17)⟩, ⟨none, .mv 123 (.t 122)⟩, ⟨some (123, false), .mv 124 (.t 6)⟩, ⟨some (123, false), .mv 125 (.t 18)⟩, ⟨some (123, false), .ia 126 (.t 124) (.t 125)⟩, ⟨some (123, false), .ld 127 (.t 126)⟩, ⟨some (123, false), .mv 128 (.t 12)⟩, ⟨some (123, false), .bin 129 .eql (.t 127) (.t 128)⟩, ⟨none, .pick 130 (.t 123) (.c (.bool true)) (.t 129)⟩, ⟨none, .mv 17 (.t 130)⟩] [122, 123, 124, 125, 126, 127, 128, 129, 130]))
 (.reg [] [⟨none, .mv 120 (.t 18)⟩, ⟨none, .bin 121 .add (.t 120) (.c (.int .i64 1))⟩, ⟨none, .mv 18 (.t 121)⟩] [120, 121])))
def k_law12_MboxOrder_L1 : K := k_law12_MboxOrder_L1b
def k_law12_MboxOrder_L0b : K := (.seq (.seq (.reg [] [⟨none, .mv 25 (.t 7)⟩, ⟨none, .mv 26 (.t 0)⟩, ⟨none, .len 27 (.t 26)⟩, ⟨none, .bin 28 .lss (.t 25) (.t 27)⟩] [25, 26, 27])
 (.cond (.t 28) .skip
 (.ext 0)))
 (.seq (.blk 1 (.seq (.seq (.reg [] [⟨none, .mv 31 (.t 0)⟩, ⟨none, .mv 32 (.t 7)⟩, ⟨none, .ia 33 (.t 31) (.t 32)⟩, ⟨none, .ld 34 (.t 33)⟩, ⟨none, .bin 35 .rem (.t 34) (.c (.int .u8 2))⟩, ⟨none, .bin 36 .eql (.t 35) (.c (.int .u8 0))⟩] [31, 32, 33, 34, 35])
 (.cond (.t 36) (.seq (.reg [] [⟨none, .ld 38 (.t 3)⟩, ⟨none, .mv 39 (.t 4)⟩, ⟨none, .bin 40 .add (.t 39) (.c (.int .i64 1))⟩, ⟨none, .dat 41 f_mbox_Post [(.t 38), (.t 40)]⟩, ⟨none, .mv 37 (.t 41)⟩, ⟨none, .ex 42 (.t 37) 0⟩, ⟨none, .ex 43 (.t 37) 1⟩, ⟨none, .ex 44 (.t 37) 2⟩, ⟨none, .alc 8 (.d (.agg [(.sl true []), (.sl true [])]))⟩, ⟨none, .st (.t 8) (.t 42)⟩, ⟨none, .mv 9 (.t 43)⟩, ⟨none, .mv 10 (.t 44)⟩] [37, 38, 39, 40, 41, 42, 43, 44])
 (.seq (.reg [] [⟨none, .mv 45 (.t 4)⟩, ⟨none, .mv 46 (.t 5)⟩, ⟨none, .bin 47 .sub (.t 45) (.t 46)⟩, ⟨none, .bin 48 .geq (.t 47) (.c (.int .i64 4))⟩, ⟨none, .mv 49 (.t 48)⟩, ⟨some (49, true), .mv 50 (.t 6)⟩, ⟨some (49, true), .len 51 (.t 50)⟩, ⟨some (49, true), .bin 52 .eql (.t 51) (.c (.int .i64 0))⟩, ⟨none, .pick 53 (.t 49) (.t 52) (.c (.bool false))⟩, ⟨none, .mv 11 (.t 53)⟩] [45, 46, 47, 48, 49, 50, 51, 52, 53])
 (.seq (.seq (.reg [] [⟨none, .mv 54 (.t 10)⟩, ⟨none, .mv 55 (.t 11)⟩, ⟨none, .bin 56 .eql (.t 54) (.t 55)⟩] [11, 54, 55])
 (.cond (.t 56) (.seq (.reg [] [⟨none, .mv 2 (.c (.bool false))⟩] [])
 .ret)
 .skip))
 (.seq (.seq (.reg [] [⟨none, .mv 57 (.t 10)⟩, ⟨none, .un 58 .not (.t 57)⟩] [10, 57])
 (.cond (.t 58) (.ext 1)
 .skip))
 (.seq (.reg [] [⟨none, .mv 59 (.t 4)⟩, ⟨none, .bin 60 .add (.t 59) (.c (.int .i64 1))⟩, ⟨none, .mv 4 (.t 60)⟩] [59, 60])
 (.seq (.reg [] [⟨none, .ld 61 (.t 8)⟩, ⟨none, .st (.t 3) (.t 61)⟩] [8, 61])
 (.seq (.seq (.reg [] [⟨none, .mv 62 (.t 6)⟩, ⟨none, .len 63 (.t 62)⟩, ⟨none, .bin 64 .eql (.t 63) (.c (.int .i64 0))⟩] [62, 63])
 (.cond (.t 64) (.seq (.seq (.reg [] [⟨none, .mv 65 (.t 9)⟩, ⟨none, .bin 66 .neq (.t 65) (.c (.int .i64 0))⟩] [9, 65])
 (.cond (.t 66) (.seq (.reg [] [⟨none, .mv 2 (.c (.bool false))⟩] [])
 .ret)
 .skip))
 (.ext 1))
 .skip))
 (.seq (.seq (.reg [] [⟨none, .mv 67 (.t 9)⟩, ⟨none, .mv 68 (.t 6)⟩, ⟨none, .ia 69 (.t 68) (.c (.int .i64 0))⟩, ⟨none, .ld 70 (.t 69)⟩, ⟨none, .bin 71 .neq (.t 67) (.t 70)⟩, ⟨none, .mv 72 (.t 71)⟩, ⟨some (72, false), .mv 73 (.t 4)⟩, ⟨some (72, false), .mv 74 (.t 5)⟩, ⟨some (72, false), .bin 75 .add (.t 74) (.c (.int .i64 1))⟩, ⟨some (72, false), .bin 76 .neq (.t 73) (.t 75)⟩, ⟨none, .pick 77 (.t 72) (.c (.bool true)) (.t 76)⟩] [9, 67, 68, 69, 70, 71, 72, 73, 74, 75, 76])
 (.cond (.t 77) (.seq (.reg [] [⟨none, .mv 2 (.c (.bool false))⟩] [])
 .ret)
 .skip))
 (.seq (.reg [] [⟨none, .mv 78 (.t 6)⟩, ⟨none, .slc 79 (.t 78) (some (.c (.int .i64 1))) none⟩, ⟨none, .mv 80 (.t 5)⟩, ⟨none, .bin 81 .add (.t 80) (.c (.int .i64 1))⟩, ⟨none, .mv 6 (.t 79)⟩, ⟨none, .mv 5 (.t 81)⟩] [78, 79, 80, 81])
 (.ext 1))))))))))
 .skip))
 (.seq (.reg [] [⟨none, .mv 82 (.t 0)⟩, ⟨none, .mv 83 (.t 7)⟩, ⟨none, .ia 84 (.t 82) (.t 83)⟩, ⟨none, .ld 85 (.t 84)⟩, ⟨none, .bin 86 .quo (.t 85) (.c (.int .u8 2))⟩, ⟨none, .bin 87 .rem (.t 86) (.c (.int .u8 6))⟩, ⟨none, .cv 88 .i64 (.t 87)⟩, ⟨none, .bin 89 .add (.c (.int .i64 1)) (.t 88)⟩, ⟨none, .mv 12 (.t 89)⟩] [82, 83, 84, 85, 86, 87, 88, 89])
 (.seq (.reg [] [⟨none, .ld 91 (.t 3)⟩, ⟨none, .mv 92 (.t 12)⟩, ⟨none, .dat 93 f_mbox_Take [(.t 91), (.t 92)]⟩, ⟨none, .mv 90 (.t 93)⟩, ⟨none, .ex 94 (.t 90) 0⟩, ⟨none, .ex 95 (.t 90) 1⟩, ⟨none, .ex 96 (.t 90) 2⟩, ⟨none, .ex 97 (.t 90) 3⟩, ⟨none, .alc 13 (.d (.agg [(.sl true []), (.sl true [])]))⟩, ⟨none, .st (.t 13) (.t 94)⟩, ⟨none, .mv 14 (.t 95)⟩, ⟨none, .mv 15 (.t 96)⟩, ⟨none, .mv 16 (.t 97)⟩] [90, 91, 92, 93, 94, 95, 96, 97])
 (.seq (.seq (.reg [] [⟨none, .mv 98 (.t 4)⟩, ⟨none, .mv 99 (.t 5)⟩, ⟨none, .bin 100 .gtr (.t 98) (.t 99)⟩] [98, 99])
 (.cond (.t 100) (.seq (.seq (.reg [] [⟨none, .mv 101 (.t 16)⟩, ⟨none, .un 102 .not (.t 101)⟩, ⟨none, .mv 103 (.t 102)⟩, ⟨some (103, false), .mv 104 (.t 15)⟩, ⟨some (103, false), .un 105 .not (.t 104)⟩, ⟨none, .pick 106 (.t 103) (.c (.bool true)) (.t 105)⟩, ⟨none, .mv 107 (.t 106)⟩, ⟨some (107, false), .mv 108 (.t 14)⟩, ⟨some (107, false), .mv 109 (.t 5)⟩, ⟨some (107, false), .bin 110 .add (.t 109) (.c (.int .i64 1))⟩, ⟨some (107, false), .bin 111 .neq (.t 108) (.t 110)⟩, ⟨none, .pick 112 (.t 107) (.c (.bool true)) (.t 111)⟩] [14, 15, 16, 101, 102, 103, 104, 105, 106, 107, 108, 109, 110, 111])
 (.cond (.t 112) (.seq (.reg [] [⟨none, .mv 2 (.c (.bool false))⟩] [])
 .ret)
 .skip))
 (.seq (.reg [] [⟨none, .mv 113 (.t 5)⟩, ⟨none, .bin 114 .add (.t 113) (.c (.int .i64 1))⟩, ⟨none, .mv 5 (.t 114)⟩] [113, 114])
 (.seq (.reg [] [⟨none, .ld 115 (.t 13)⟩, ⟨none, .st (.t 3) (.t 115)⟩] [13, 115])
 (.ext 1))))
 .skip))
 (.seq (.reg [] [⟨none, .mv 17 (.c (.bool false))⟩] [])
 (.seq (.seq (.reg [] [⟨none, .mv 18 (.c (.int .i64 0))⟩] [])
 (.blk 2 (.loop [0, 3, 4, 5, 6, 7, 12, 13, 15, 16, 17, 18] k_law12_MboxOrder_L1)))
 (.seq (.seq (.reg [] [⟨none, .mv 131 (.t 15)⟩, ⟨none, .mv 132 (.t 131)⟩, ⟨some (132, false), .mv 133 (.t 16)⟩, ⟨some (132, false), .mv 134 (.t 17)⟩, ⟨some (132, false), .un 135 .not (.t 134)⟩, ⟨some (132, false), .mv 136 (.t 135)⟩, ⟨some (136, true), .mv 137 (.t 6)⟩, ⟨some (136, true), .len 138 (.t 137)⟩, ⟨some (136, true), .bin 139 .lss (.t 138) (.c (.int .i64 4))⟩, ⟨some (132, false), .pick 140 (.t 136) (.t 139) (.c (.bool false))⟩, ⟨some (132, false), .bin 141 .neq (.t 133) (.t 140)⟩, ⟨none, .pick 142 (.t 132) (.c (.bool true)) (.t 141)⟩] [15, 17, 131, 132, 133, 134, 135, 136, 137, 138, 139, 140, 141])
 (.cond (.t 142) (.seq (.reg [] [⟨none, .mv 2 (.c (.bool false))⟩] [])
 .ret)
 .skip))
 (.seq (.reg [] [⟨none, .mv 143 (.t 16)⟩] [16])
 (.cond (.t 143) (.reg [(2, 4), (3, 4)] [⟨none, .mv 144 (.t 6)⟩, ⟨none, .mv 145 (.t 12)⟩, ⟨none, .bsl 146 [(.t 145)]⟩, ⟨none, .app 147 (.t 144) (.t 146)⟩, ⟨none, .ld 148 (.t 13)⟩, ⟨none, .mv 6 (.t 147)⟩, ⟨none, .st (.t 3) (.t 148)⟩] [12, 13, 144, 145, 146, 147, 148])
 .skip))))))))))
 (.reg [] [⟨none, .mv 29 (.t 7)⟩, ⟨none, .bin 30 .add (.t 29) (.c (.int .i64 1))⟩, ⟨none, .mv 7 (.t 30)⟩] [29, 30])))
def k_law12_MboxOrder_L0 : K := k_law12_MboxOrder_L0b
def k_law12_MboxOrder : KF := ⟨(.seq (.reg [] [⟨none, .mv 2 (.c (.bool false))⟩] [2])
 (.seq (.seq (.reg [] [⟨none, .dat 19 f_law12_begun []⟩, ⟨none, .un 20 .not (.t 19)⟩] [19])
 (.cond (.t 20) (.seq (.reg [] [⟨none, .mv 2 (.c (.bool false))⟩] [])
 .ret)
 .skip))
 (.seq (.seq (.reg [] [⟨none, .mv 21 (.t 0)⟩, ⟨none, .len 22 (.t 21)⟩, ⟨none, .bin 23 .gtr (.t 22) (.c (.int .i64 60))⟩] [21, 22])
 (.cond (.t 23) (.seq (.reg [] [⟨none, .mv 2 (.c (.bool true))⟩] [])
 .ret)
 .skip))
 (.seq (.reg [] [⟨none, .bld 24 [(.c (.d (.sl true []))), (.c (.d (.sl true [])))]⟩, ⟨none, .alc 3 (.d (.agg [(.sl true []), (.sl true [])]))⟩, ⟨none, .st (.t 3) (.t 24)⟩] [24])
 (.seq (.reg [] [⟨none, .mv 4 (.c (.int .i64 0))⟩, ⟨none, .mv 5 (.c (.int .i64 0))⟩] [])
 (.seq (.reg [] [⟨none, .mv 6 (.c (.d (.sl true [])))⟩] [])
 (.seq (.seq (.reg [] [⟨none, .mv 7 (.c (.int .i64 0))⟩] [])
 (.blk 0 (.loop [0, 3, 4, 5, 6, 7] k_law12_MboxOrder_L0)))
 (.seq (.reg [] [⟨none, .fa 149 (.t 3) 0⟩, ⟨none, .ld 150 (.t 149)⟩, ⟨none, .len 151 (.t 150)⟩, ⟨none, .mv 152 (.t 4)⟩, ⟨none, .mv 153 (.t 5)⟩, ⟨none, .bin 154 .sub (.t 152) (.t 153)⟩, ⟨none, .bin 155 .eql (.t 151) (.t 154)⟩, ⟨none, .mv 156 (.t 155)⟩, ⟨some (156, true), .fa 157 (.t 3) 1⟩, ⟨some (156, true), .ld 158 (.t 157)⟩, ⟨some (156, true), .len 159 (.t 158)⟩, ⟨some (156, true), .mv 160 (.t 6)⟩, ⟨some (156, true), .len 161 (.t 160)⟩, ⟨some (156, true), .bin 162 .eql (.t 159) (.t 161)⟩, ⟨none, .pick 163 (.t 156) (.t 162) (.c (.bool false))⟩, ⟨none, .mv 2 (.t 163)⟩] [3, 4, 5, 6, 149, 150, 151, 152, 153, 154, 155, 156, 157, 158, 159, 160, 161, 162, 163])
 .ret)))))))), [.t 2]⟩
/- foliot/foliotlaw12.MboxForms -/
def k_law12_MboxForms_L0b : K := (.seq (.seq (.reg [] [⟨none, .mv 41 (.t 2)⟩, ⟨none, .bin 42 .lss (.t 41) (.c (.int .i64 4))⟩] [41])
 (.cond (.t 42) .skip
 (.ext 0)))
 (.seq (.blk 1 (.seq (.reg [] [⟨none, .ld 46 (.t 1)⟩, ⟨none, .mv 47 (.t 2)⟩, ⟨none, .dat 48 f_mbox_Post [(.t 46), (.t 47)]⟩, ⟨none, .mv 45 (.t 48)⟩, ⟨none, .ex 49 (.t 45) 0⟩, ⟨none, .ex 50 (.t 45) 1⟩, ⟨none, .ex 51 (.t 45) 2⟩, ⟨none, .alc 3 (.d (.agg [(.sl true []), (.sl true [])]))⟩, ⟨none, .st (.t 3) (.t 49)⟩, ⟨none, .mv 4 (.t 50)⟩, ⟨none, .mv 5 (.t 51)⟩] [4, 45, 46, 47, 48, 49, 50, 51])
 (.seq (.seq (.reg [] [⟨none, .mv 52 (.t 5)⟩, ⟨none, .un 53 .not (.t 52)⟩] [5, 52])
 (.cond (.t 53) (.seq (.reg [] [⟨none, .mv 0 (.c (.bool false))⟩] [])
 .ret)
 .skip))
 (.reg [] [⟨none, .ld 54 (.t 3)⟩, ⟨none, .st (.t 1) (.t 54)⟩] [3, 54]))))
 (.reg [] [⟨none, .mv 43 (.t 2)⟩, ⟨none, .bin 44 .add (.t 43) (.c (.int .i64 1))⟩, ⟨none, .mv 2 (.t 44)⟩] [43, 44])))
def k_law12_MboxForms_L0 : K := k_law12_MboxForms_L0b
def k_law12_MboxForms_L1b : K := (.seq (.seq (.reg [] [⟨none, .mv 62 (.t 10)⟩, ⟨none, .bin 63 .leq (.t 62) (.c (.int .i64 4))⟩] [62])
 (.cond (.t 63) .skip
 (.ext 2)))
 (.seq (.blk 3 (.seq (.reg [] [⟨none, .ld 67 (.t 9)⟩, ⟨none, .mv 68 (.t 10)⟩, ⟨none, .dat 69 f_mbox_Take [(.t 67), (.t 68)]⟩, ⟨none, .mv 66 (.t 69)⟩, ⟨none, .ex 70 (.t 66) 0⟩, ⟨none, .ex 71 (.t 66) 1⟩, ⟨none, .ex 72 (.t 66) 2⟩, ⟨none, .ex 73 (.t 66) 3⟩, ⟨none, .alc 11 (.d (.agg [(.sl true []), (.sl true [])]))⟩, ⟨none, .st (.t 11) (.t 70)⟩, ⟨none, .mv 12 (.t 71)⟩, ⟨none, .mv 13 (.t 72)⟩, ⟨none, .mv 14 (.t 73)⟩] [12, 66, 67, 68, 69, 70, 71, 72, 73])
 (.seq (.seq (.reg [] [⟨none, .mv 74 (.t 14)⟩, ⟨none, .un 75 .not (.t 74)⟩, ⟨none, .mv 76 (.t 75)⟩, ⟨some (76, false), .mv 77 (.t 13)⟩, ⟨none, .pick 78 (.t 76) (.c (.bool true)) (.t 77)⟩] [13, 14, 74, 75, 76, 77])
 (.cond (.t 78) (.seq (.reg [] [⟨none, .mv 0 (.c (.bool false))⟩] [])
 .ret)
 .skip))
 (.reg [] [⟨none, .ld 79 (.t 11)⟩, ⟨none, .st (.t 9) (.t 79)⟩] [11, 79]))))
 (.reg [] [⟨none, .mv 64 (.t 10)⟩, ⟨none, .bin 65 .add (.t 64) (.c (.int .i64 1))⟩, ⟨none, .mv 10 (.t 65)⟩] [64, 65])))
def k_law12_MboxForms_L1 : K := k_law12_MboxForms_L1b
def k_law12_MboxForms : KF := ⟨(.seq (.reg [] [⟨none, .mv 0 (.c (.bool false))⟩] [0])
 (.seq (.seq (.reg [] [⟨none, .dat 38 f_law12_begun []⟩, ⟨none, .un 39 .not (.t 38)⟩] [38])
 (.cond (.t 39) (.seq (.reg [] [⟨none, .mv 0 (.c (.bool false))⟩] [])
 .ret)
 .skip))
 (.seq (.reg [] [⟨none, .bld 40 [(.c (.d (.sl true []))), (.c (.d (.sl true [])))]⟩, ⟨none, .alc 1 (.d (.agg [(.sl true []), (.sl true [])]))⟩, ⟨none, .st (.t 1) (.t 40)⟩] [40])
 (.seq (.seq (.reg [] [⟨none, .mv 2 (.c (.int .i64 0))⟩] [])
 (.blk 0 (.loop [1, 2] k_law12_MboxForms_L0)))
 (.seq (.reg [] [⟨none, .ld 56 (.t 1)⟩, ⟨none, .dat 57 f_mbox_Post [(.t 56), (.c (.int .i64 9))]⟩, ⟨none, .mv 55 (.t 57)⟩, ⟨none, .ex 58 (.t 55) 0⟩, ⟨none, .ex 59 (.t 55) 1⟩, ⟨none, .ex 60 (.t 55) 2⟩, ⟨none, .alc 6 (.d (.agg [(.sl true []), (.sl true [])]))⟩, ⟨none, .st (.t 6) (.t 58)⟩, ⟨none, .mv 7 (.t 59)⟩, ⟨none, .mv 8 (.t 60)⟩] [7, 55, 56, 57, 58, 59, 60])
 (.seq (.reg [] [⟨none, .bld 61 [(.c (.d (.sl true []))), (.c (.d (.sl true [])))]⟩, ⟨none, .alc 9 (.d (.agg [(.sl true []), (.sl true [])]))⟩, ⟨none, .st (.t 9) (.t 61)⟩] [61])
 (.seq (.seq (.reg [] [⟨none, .mv 10 (.c (.int .i64 1))⟩] [])
 (.blk 2 (.loop [1, 6, 8, 9, 10] k_law12_MboxForms_L1)))
 (.seq (.reg [] [⟨none, .ld 81 (.t 9)⟩, ⟨none, .dat 82 f_mbox_Take [(.t 81), (.c (.int .i64 9))]⟩, ⟨none, .mv 80 (.t 82)⟩, ⟨none, .ex 83 (.t 80) 0⟩, ⟨none, .ex 84 (.t 80) 1⟩, ⟨none, .ex 85 (.t 80) 2⟩, ⟨none, .ex 86 (.t 80) 3⟩, ⟨none, .alc 15 (.d (.agg [(.sl true []), (.sl true [])]))⟩, ⟨none, .st (.t 15) (.t 83)⟩, ⟨none, .mv 16 (.t 84)⟩, ⟨none, .mv 17 (.t 85)⟩, ⟨none, .mv 18 (.t 86)⟩] [15, 16, 17, 80, 81, 82, 83, 84, 85, 86])
 (.seq (.reg [] [⟨none, .ld 88 (.t 9)⟩, ⟨none, .dat 89 f_mbox_Take [(.t 88), (.c (.int .i64 2))]⟩, ⟨none, .mv 87 (.t 89)⟩, ⟨none, .ex 90 (.t 87) 0⟩, ⟨none, .ex 91 (.t 87) 1⟩, ⟨none, .ex 92 (.t 87) 2⟩, ⟨none, .ex 93 (.t 87) 3⟩, ⟨none, .alc 19 (.d (.agg [(.sl true []), (.sl true [])]))⟩, ⟨none, .st (.t 19) (.t 90)⟩, ⟨none, .mv 20 (.t 91)⟩, ⟨none, .mv 21 (.t 92)⟩, ⟨none, .mv 22 (.t 93)⟩] [19, 20, 21, 87, 88, 89, 90, 91, 92, 93])
 (.seq (.reg [] [⟨none, .ld 95 (.t 1)⟩, ⟨none, .dat 96 f_mbox_Take [(.t 95), (.c (.int .i64 0))]⟩, ⟨none, .mv 94 (.t 96)⟩, ⟨none, .ex 97 (.t 94) 0⟩, ⟨none, .ex 98 (.t 94) 1⟩, ⟨none, .ex 99 (.t 94) 2⟩, ⟨none, .ex 100 (.t 94) 3⟩, ⟨none, .alc 23 (.d (.agg [(.sl true []), (.sl true [])]))⟩, ⟨none, .st (.t 23) (.t 97)⟩, ⟨none, .mv 24 (.t 98)⟩, ⟨none, .mv 25 (.t 99)⟩, ⟨none, .mv 26 (.t 100)⟩] [23, 24, 25, 94, 95, 96, 97, 98, 99, 100])
 (.seq (.reg [] [⟨none, .ld 102 (.t 1)⟩, ⟨none, .dat 103 f_mbox_Take [(.t 102), (.c (.int .i64 (-1)))]⟩, ⟨none, .mv 101 (.t 103)⟩, ⟨none, .ex 104 (.t 101) 0⟩, ⟨none, .ex 105 (.t 101) 1⟩, ⟨none, .ex 106 (.t 101) 2⟩, ⟨none, .ex 107 (.t 101) 3⟩, ⟨none, .alc 27 (.d (.agg [(.sl true []), (.sl true [])]))⟩, ⟨none, .st (.t 27) (.t 104)⟩, ⟨none, .mv 28 (.t 105)⟩, ⟨none, .mv 29 (.t 106)⟩, ⟨none, .mv 30 (.t 107)⟩] [27, 28, 29, 101, 102, 103, 104, 105, 106, 107])
 (.seq (.reg [] [⟨none, .ld 109 (.t 9)⟩, ⟨none, .dat 110 f_mbox_Post [(.t 109), (.c (.int .i64 5))]⟩, ⟨none, .mv 108 (.t 110)⟩, ⟨none, .ex 111 (.t 108) 0⟩, ⟨none, .ex 112 (.t 108) 1⟩, ⟨none, .ex 113 (.t 108) 2⟩, ⟨none, .alc 31 (.d (.agg [(.sl true []), (.sl true [])]))⟩, ⟨none, .st (.t 31) (.t 111)⟩, ⟨none, .mv 32 (.t 112)⟩, ⟨none, .mv 33 (.t 113)⟩] [108, 109, 110, 111, 112, 113])
 (.seq (.reg [] [⟨none, .ld 115 (.t 9)⟩, ⟨none, .dat 116 f_mbox_Reset [(.t 115)]⟩, ⟨none, .mv 114 (.t 116)⟩, ⟨none, .ex 117 (.t 114) 0⟩, ⟨none, .ex 118 (.t 114) 1⟩, ⟨none, .alc 34 (.d (.agg [(.sl true []), (.sl true [])]))⟩, ⟨none, .st (.t 34) (.t 117)⟩, ⟨none, .mv 35 (.t 118)⟩] [9, 114, 115, 116, 117, 118])
 (.seq (.reg [] [⟨none, .ld 120 (.t 1)⟩, ⟨none, .dat 121 f_mbox_Reset [(.t 120)]⟩, ⟨none, .mv 119 (.t 121)⟩, ⟨none, .ex 122 (.t 119) 0⟩, ⟨none, .ex 123 (.t 119) 1⟩, ⟨none, .alc 36 (.d (.agg [(.sl true []), (.sl true [])]))⟩, ⟨none, .st (.t 36) (.t 122)⟩, ⟨none, .mv 37 (.t 123)⟩] [1, 36, 119, 120, 121, 122, 123])
 (.seq (.reg [] [⟨none, .mv 124 (.t 8)⟩, ⟨none, .un 125 .not (.t 124)⟩, ⟨none, .mv 126 (.t 125)⟩, ⟨some (126, true), .fa 127 (.t 6) 0⟩, ⟨some (126, true), .ld 128 (.t 127)⟩, ⟨some (126, true), .len 129 (.t 128)⟩, ⟨some (126, true), .bin 130 .eql (.t 129) (.c (.int .i64 4))⟩, ⟨none, .pick 131 (.t 126) (.t 130) (.c (.bool false))⟩, ⟨none, .mv 132 (.t 131)⟩, ⟨some (132, true), .mv 133 (.t 18)⟩, ⟨some (132, true), .un 134 .not (.t 133)⟩, ⟨none, .pick 135 (.t 132) (.t 134) (.c (.bool false))⟩, ⟨none, .mv 136 (.t 135)⟩, ⟨some (136, true), .mv 137 (.t 22)⟩, ⟨some (136, true), .un 138 .not (.t 137)⟩, ⟨none, .pick 139 (.t 136) (.t 138) (.c (.bool false))⟩, ⟨none, .mv 140 (.t 139)⟩, ⟨some (140, true), .mv 141 (.t 26)⟩, ⟨some (140, true), .un 142 .not (.t 141)⟩, ⟨none, .pick 143 (.t 140) (.t 142) (.c (.bool false))⟩, ⟨none, .mv 144 (.t 143)⟩, ⟨some (144, true), .mv 145 (.t 30)⟩, ⟨some (144, true), .un 146 .not (.t 145)⟩, ⟨none, .pick 147 (.t 144) (.t 146) (.c (.bool false))⟩, ⟨none, .mv 148 (.t 147)⟩, ⟨some (148, true), .mv 149 (.t 33)⟩, ⟨none, .pick 150 (.t 148) (.t 149) (.c (.bool false))⟩, ⟨none, .mv 151 (.t 150)⟩, ⟨some (151, true), .mv 152 (.t 32)⟩, ⟨some (151, true), .bin 153 .eql (.t 152) (.c (.int .i64 1))⟩, ⟨none, .pick 154 (.t 151) (.t 153) (.c (.bool false))⟩, ⟨none, .mv 155 (.t 154)⟩, ⟨some (155, true), .fa 156 (.t 31) 1⟩, ⟨some (155, true), .ld 157 (.t 156)⟩, ⟨some (155, true), .len 158 (.t 157)⟩, ⟨some (155, true), .bin 159 .eql (.t 158) (.c (.int .i64 3))⟩, ⟨none, .pick 160 (.t 155) (.t 159) (.c (.bool false))⟩, ⟨none, .mv 161 (.t 160)⟩, ⟨some (161, true), .fa 162 (.t 34) 1⟩, ⟨some (161, true), .ld 163 (.t 162)⟩, ⟨some (161, true), .len 164 (.t 163)⟩, ⟨some (161, true), .bin 165 .eql (.t 164) (.c (.int .i64 0))⟩, ⟨none, .pick 166 (.t 161) (.t 165) (.c (.bool false))⟩, ⟨none, .mv 167 (.t 166)⟩, ⟨some (167, true), .mv 168 (.t 35)⟩, ⟨some (167, true), .len 169 (.t 168)⟩, ⟨some (167, true), .bin 170 .eql (.t 169) (.c (.int .i64 4))⟩, ⟨none, .pick 171 (.t 167) (.t 170) (.c (.bool false))⟩, ⟨none, .mv 172 (.t 171)⟩, ⟨some (172, true), .mv 173 (.t 35)⟩, ⟨some (172, true), .ia 174 (.t 173) (.c (.int .i64 3))⟩, ⟨some (172, true), .ld 175 (.t 174)⟩, ⟨some (172, true), .bin 176 .eql (.t 175) (.c (.int .i64 4))⟩, ⟨none, .pick 177 (.t 172) (.t 176) (.c (.bool false))⟩, ⟨none, .mv 178 (.t 177)⟩, ⟨some (178, true), .mv 179 (.t 37)⟩, ⟨some (178, true), .len 180 (.t 179)⟩, ⟨some (178, true), .bin 181 .eql (.t 180) (.c (.int .i64 0))⟩, ⟨none, .pick 182 (.t 178) (.t 181) (.c (.bool false))⟩, ⟨none, .mv 0 (.t 182)⟩] [6, 8, 18, 22, 26, 30, 31, 32, 33, 34, 35, 37, 124, 125, 126, 127, 128, 129, 130, 131, 132, 133, 134, 135, 136, 137, 138, 139, 140, 141, 142, 143, 144, 145, 146, 147, 148, 149, 150, 151, 152, 153, 154, 155, 156, 157, 158, 159, 160, 161, 162, 163, 164, 165, 166, 167, 168, 169, 170, 171, 172, 173, 174, 175, 176, 177, 178, 179, 180, 181, 182])
 .ret))))))))))))))), [.t 0]⟩
/- foliot/foliotlaw12.MboxWaits -/
def k_law12_MboxWaits_L1b : K := (.seq (.seq (.reg [] [⟨none, .mv 38 (.t 10)⟩, ⟨none, .mv 39 (.t 6)⟩, ⟨none, .len 40 (.t 39)⟩, ⟨none, .bin 41 .lss (.t 38) (.t 40)⟩] [38, 39, 40])
 (.cond (.t 41) .skip
 (.ext 2)))
 (.seq (.blk 3 (.reg [] [⟨none, .mv 44 (.t 9)⟩, ⟨none, .mv 45 (.t 44)⟩, ⟨some (45, false), .mv 46 (.t 6)⟩, ⟨some (45, false), .mv 47 (.t 10)⟩, ⟨some (45, false), .ia 48 (.t 46) (.t 47)⟩, ⟨some (45, false), .ld 49 (.t 48)⟩, ⟨some (45, false), .mv 50 (.t 8)⟩, ⟨some (45, false), .bin 51 .eql (.t 49) (.t 50)⟩, ⟨none, .pick 52 (.t 45) (.c (.bool true)) (.t 51)⟩, ⟨none, .mv 9 (.t 52)⟩] [44, 45, 46, 47, 48, 49, 50, 51, 52]))
 (.reg [] [⟨none, .mv 42 (.t 10)⟩, ⟨none, .bin 43 .add (.t 42) (.c (.int .i64 1))⟩, ⟨none, .mv 10 (.t 43)⟩] [42, 43])))
def k_law12_MboxWaits_L1 : K := k_law12_MboxWaits_L1b
def k_law12_MboxWaits_L0b : K := (.seq (.seq (.reg [] [⟨none, .mv 25 (.t 7)⟩, ⟨none, .mv 26 (.t 0)⟩, ⟨none, .len 27 (.t 26)⟩, ⟨none, .bin 28 .lss (.t 25) (.t 27)⟩] [25, 26, 27])
 (.cond (.t 28) .skip
 (.ext 0)))
 (.seq (.blk 1 (.seq (.reg [] [⟨none, .mv 31 (.t 0)⟩, ⟨none, .mv 32 (.t 7)⟩, ⟨none, .ia 33 (.t 31) (.t 32)⟩, ⟨none, .ld 34 (.t 33)⟩, ⟨none, .bin 35 .rem (.t 34) (.c (.int .u8 7))⟩, ⟨none, .cv 36 .i64 (.t 35)⟩, ⟨none, .bin 37 .add (.c (.int .i64 1)) (.t 36)⟩, ⟨none, .mv 8 (.t 37)⟩] [31, 32, 33, 34, 35, 36, 37])
 (.seq (.reg [] [⟨none, .mv 9 (.c (.bool false))⟩] [])
 (.seq (.seq (.reg [] [⟨none, .mv 10 (.c (.int .i64 0))⟩] [])
 (.blk 2 (.loop [0, 1, 5, 6, 7, 8, 9, 10] k_law12_MboxWaits_L1)))
 (.seq (.reg [] [⟨none, .ld 54 (.t 5)⟩, ⟨none, .mv 55 (.t 8)⟩, ⟨none, .dat 56 f_mbox_Take [(.t 54), (.t 55)]⟩, ⟨none, .mv 53 (.t 56)⟩, ⟨none, .ex 57 (.t 53) 0⟩, ⟨none, .ex 58 (.t 53) 1⟩, ⟨none, .ex 59 (.t 53) 2⟩, ⟨none, .ex 60 (.t 53) 3⟩, ⟨none, .alc 11 (.d (.agg [(.sl true []), (.sl true [])]))⟩, ⟨none, .st (.t 11) (.t 57)⟩, ⟨none, .mv 12 (.t 58)⟩, ⟨none, .mv 13 (.t 59)⟩, ⟨none, .mv 14 (.t 60)⟩] [12, 53, 54, 55, 56, 57, 58, 59, 60])
 (.seq (.seq (.reg [] [⟨none, .mv 61 (.t 13)⟩, ⟨none, .mv 62 (.t 61)⟩, ⟨some (62, false), .mv 63 (.t 14)⟩, ⟨some (62, false), .mv 64 (.t 9)⟩, ⟨some (62, false), .un 65 .not (.t 64)⟩, ⟨some (62, false), .mv 66 (.t 65)⟩, ⟨some (66, true), .mv 67 (.t 6)⟩, ⟨some (66, true), .len 68 (.t 67)⟩, ⟨some (66, true), .bin 69 .lss (.t 68) (.c (.int .i64 4))⟩, ⟨some (62, false), .pick 70 (.t 66) (.t 69) (.c (.bool false))⟩, ⟨some (62, false), .bin 71 .neq (.t 63) (.t 70)⟩, ⟨none, .pick 72 (.t 62) (.c (.bool true)) (.t 71)⟩] [9, 13, 61, 62, 63, 64, 65, 66, 67, 68, 69, 70, 71])
 (.cond (.t 72) (.seq (.reg [] [⟨none, .mv 4 (.c (.bool false))⟩] [])
 .ret)
 .skip))
 (.seq (.reg [] [⟨none, .mv 73 (.t 14)⟩] [14])
 (.cond (.t 73) (.reg [(2, 4), (3, 4)] [⟨none, .mv 74 (.t 6)⟩, ⟨none, .mv 75 (.t 8)⟩, ⟨none, .bsl 76 [(.t 75)]⟩, ⟨none, .app 77 (.t 74) (.t 76)⟩, ⟨none, .ld 78 (.t 11)⟩, ⟨none, .mv 6 (.t 77)⟩, ⟨none, .st (.t 5) (.t 78)⟩] [8, 11, 74, 75, 76, 77, 78])
 .skip))))))))
 (.reg [] [⟨none, .mv 29 (.t 7)⟩, ⟨none, .bin 30 .add (.t 29) (.c (.int .i64 1))⟩, ⟨none, .mv 7 (.t 30)⟩] [29, 30])))
def k_law12_MboxWaits_L0 : K := k_law12_MboxWaits_L0b
def k_law12_MboxWaits_L2b : K := (.seq (.seq (.reg [] [⟨none, .mv 79 (.t 15)⟩, ⟨none, .mv 80 (.t 1)⟩, ⟨none, .bin 81 .rem (.t 80) (.c (.int .u8 9))⟩, ⟨none, .cv 82 .i64 (.t 81)⟩, ⟨none, .bin 83 .lss (.t 79) (.t 82)⟩] [79, 80, 81, 82])
 (.cond (.t 83) .skip
 (.ext 4)))
 (.seq (.blk 5 (.seq (.reg [] [⟨none, .ld 87 (.t 5)⟩, ⟨none, .mv 88 (.t 15)⟩, ⟨none, .dat 89 f_mbox_Post [(.t 87), (.t 88)]⟩, ⟨none, .mv 86 (.t 89)⟩, ⟨none, .ex 90 (.t 86) 0⟩, ⟨none, .ex 91 (.t 86) 1⟩, ⟨none, .ex 92 (.t 86) 2⟩, ⟨none, .alc 16 (.d (.agg [(.sl true []), (.sl true [])]))⟩, ⟨none, .st (.t 16) (.t 90)⟩, ⟨none, .mv 17 (.t 91)⟩, ⟨none, .mv 18 (.t 92)⟩] [86, 87, 88, 89, 90, 91, 92])
 (.seq (.seq (.reg [] [⟨none, .mv 93 (.t 15)⟩, ⟨none, .mv 94 (.t 6)⟩, ⟨none, .len 95 (.t 94)⟩, ⟨none, .bin 96 .lss (.t 93) (.t 95)⟩] [93, 94, 95])
 (.cond (.t 96) (.seq (.reg [] [⟨none, .mv 97 (.t 18)⟩, ⟨none, .un 98 .not (.t 97)⟩, ⟨none, .mv 99 (.t 98)⟩, ⟨some (99, false), .mv 100 (.t 17)⟩, ⟨some (99, false), .mv 101 (.t 6)⟩, ⟨some (99, false), .mv 102 (.t 15)⟩, ⟨some (99, false), .ia 103 (.t 101) (.t 102)⟩, ⟨some (99, false), .ld 104 (.t 103)⟩, ⟨some (99, false), .bin 105 .neq (.t 100) (.t 104)⟩, ⟨none, .pick 106 (.t 99) (.c (.bool true)) (.t 105)⟩, ⟨none, .mv 107 (.t 106)⟩, ⟨some (107, false), .fa 108 (.t 16) 0⟩, ⟨some (107, false), .ld 109 (.t 108)⟩, ⟨some (107, false), .len 110 (.t 109)⟩, ⟨some (107, false), .bin 111 .neq (.t 110) (.c (.int .i64 0))⟩, ⟨none, .pick 112 (.t 107) (.c (.bool true)) (.t 111)⟩] [17, 18, 97, 98, 99, 100, 101, 102, 103, 104, 105, 106, 107, 108, 109, 110, 111])
 (.cond (.t 112) (.seq (.reg [] [⟨none, .mv 4 (.c (.bool false))⟩] [])
 .ret)
 .skip))
 (.seq (.reg [] [⟨none, .mv 113 (.t 17)⟩, ⟨none, .bin 114 .neq (.t 113) (.c (.int .i64 0))⟩, ⟨none, .mv 115 (.t 114)⟩, ⟨some (115, false), .mv 116 (.t 18)⟩, ⟨some (115, false), .mv 117 (.t 15)⟩, ⟨some (115, false), .mv 118 (.t 6)⟩, ⟨some (115, false), .len 119 (.t 118)⟩, ⟨some (115, false), .bin 120 .sub (.t 117) (.t 119)⟩, ⟨some (115, false), .bin 121 .lss (.t 120) (.c (.int .i64 4))⟩, ⟨some (115, false), .bin 122 .neq (.t 116) (.t 121)⟩, ⟨none, .pick 123 (.t 115) (.c (.bool true)) (.t 122)⟩] [17, 18, 113, 114, 115, 116, 117, 118, 119, 120, 121, 122])
 (.cond (.t 123) (.seq (.reg [] [⟨none, .mv 4 (.c (.bool false))⟩] [])
 .ret)
 .skip))))
 (.reg [] [⟨none, .ld 124 (.t 16)⟩, ⟨none, .st (.t 5) (.t 124)⟩] [16, 124]))))
 (.reg [] [⟨none, .mv 84 (.t 15)⟩, ⟨none, .bin 85 .add (.t 84) (.c (.int .i64 1))⟩, ⟨none, .mv 15 (.t 85)⟩] [84, 85])))
def k_law12_MboxWaits_L2 : K := k_law12_MboxWaits_L2b
def k_law12_MboxWaits : KF := ⟨(.seq (.reg [] [⟨none, .mv 4 (.c (.bool false))⟩] [4])
 (.seq (.seq (.reg [] [⟨none, .dat 19 f_law12_begun []⟩, ⟨none, .un 20 .not (.t 19)⟩] [19])
 (.cond (.t 20) (.seq (.reg [] [⟨none, .mv 4 (.c (.bool false))⟩] [])
 .ret)
 .skip))
 (.seq (.seq (.reg [] [⟨none, .mv 21 (.t 0)⟩, ⟨none, .len 22 (.t 21)⟩, ⟨none, .bin 23 .gtr (.t 22) (.c (.int .i64 10))⟩] [21, 22])
 (.cond (.t 23) (.seq (.reg [] [⟨none, .mv 4 (.c (.bool true))⟩] [])
 .ret)
 .skip))
 (.seq (.reg [] [⟨none, .bld 24 [(.c (.d (.sl true []))), (.c (.d (.sl true [])))]⟩, ⟨none, .alc 5 (.d (.agg [(.sl true []), (.sl true [])]))⟩, ⟨none, .st (.t 5) (.t 24)⟩] [24])
 (.seq (.reg [] [⟨none, .mv 6 (.c (.d (.sl true [])))⟩] [])
 (.seq (.seq (.reg [] [⟨none, .mv 7 (.c (.int .i64 0))⟩] [])
 (.blk 0 (.loop [0, 1, 5, 6, 7] k_law12_MboxWaits_L0)))
 (.seq (.seq (.reg [] [⟨none, .mv 15 (.c (.int .i64 0))⟩] [])
 (.blk 4 (.loop [1, 5, 6, 15] k_law12_MboxWaits_L2)))
 (.seq (.reg [] [⟨none, .mv 4 (.c (.bool true))⟩] [])
 .ret)))))))), [.t 4]⟩
def kl : List (Nat × KF) := [(3, k_law23_WatchAll), (14, k_law23_begun), (15, k_watch_New), (19, k_watch_Miss), (40, k_watch_twin), (49, k_slices_Clone_int_int), (50, k_slices_Clone_bool_bool), (41, k_watch_has), (42, k_slices_Contains_bool_bool), (51, k_slices_Index_bool_bool), (17, k_watch_Good), (16, k_ref19_NewWatch), (18, k_ref19_Good), (20, k_ref19_Miss), (21, k_law23_same), (43, k_ref19_SameWatch), (39, k_ref11_SameInts), (4, k_law23_WatchStops), (5, k_law23_WatchForms), (6, k_law11_SemaAll), (22, k_law11_begun), (23, k_sema_Take), (44, k_slices_Clone_api_Sema_api_Sema), (45, k_sema_has), (28, k_sema_Low), (46, k_sema_holds), (25, k_sema_Let), (30, k_sema_All), (24, k_ref11_TakeSema), (26, k_ref11_LetSema), (27, k_ref11_SameSemas), (29, k_ref11_Low), (31, k_ref11_AllSemas), (7, k_law11_SemaOne), (8, k_law11_SemaForms), (9, k_law11_SemaLow), (10, k_law12_MboxAll), (32, k_law12_begun), (33, k_mbox_Post), (47, k_mbox_twin), (52, k_slices_Clone_int64_int64), (36, k_mbox_Take), (48, k_slices_Contains_int_int), (53, k_slices_Index_int_int), (38, k_mbox_Reset), (34, k_ref11_Post), (35, k_ref11_SameBox), (37, k_ref11_Take), (11, k_law12_MboxOrder), (12, k_law12_MboxForms), (13, k_law12_MboxWaits)]
def kp : Nat → Option KF := fun n => List.lookup n kl
theorem kp_law23_WatchAll : kp f_law23_WatchAll = some k_law23_WatchAll := rfl
theorem kp_law23_begun : kp f_law23_begun = some k_law23_begun := rfl
theorem kp_watch_New : kp f_watch_New = some k_watch_New := rfl
theorem kp_watch_Miss : kp f_watch_Miss = some k_watch_Miss := rfl
theorem kp_watch_twin : kp f_watch_twin = some k_watch_twin := rfl
theorem kp_slices_Clone_int_int : kp f_slices_Clone_int_int = some k_slices_Clone_int_int := rfl
theorem kp_slices_Clone_bool_bool : kp f_slices_Clone_bool_bool = some k_slices_Clone_bool_bool := rfl
theorem kp_watch_has : kp f_watch_has = some k_watch_has := rfl
theorem kp_slices_Contains_bool_bool : kp f_slices_Contains_bool_bool = some k_slices_Contains_bool_bool := rfl
theorem kp_slices_Index_bool_bool : kp f_slices_Index_bool_bool = some k_slices_Index_bool_bool := rfl
theorem kp_watch_Good : kp f_watch_Good = some k_watch_Good := rfl
theorem kp_ref19_NewWatch : kp f_ref19_NewWatch = some k_ref19_NewWatch := rfl
theorem kp_ref19_Good : kp f_ref19_Good = some k_ref19_Good := rfl
theorem kp_ref19_Miss : kp f_ref19_Miss = some k_ref19_Miss := rfl
theorem kp_law23_same : kp f_law23_same = some k_law23_same := rfl
theorem kp_ref19_SameWatch : kp f_ref19_SameWatch = some k_ref19_SameWatch := rfl
theorem kp_ref11_SameInts : kp f_ref11_SameInts = some k_ref11_SameInts := rfl
theorem kp_law23_WatchStops : kp f_law23_WatchStops = some k_law23_WatchStops := rfl
theorem kp_law23_WatchForms : kp f_law23_WatchForms = some k_law23_WatchForms := rfl
theorem kp_law11_SemaAll : kp f_law11_SemaAll = some k_law11_SemaAll := rfl
theorem kp_law11_begun : kp f_law11_begun = some k_law11_begun := rfl
theorem kp_sema_Take : kp f_sema_Take = some k_sema_Take := rfl
theorem kp_slices_Clone_api_Sema_api_Sema : kp f_slices_Clone_api_Sema_api_Sema = some k_slices_Clone_api_Sema_api_Sema := rfl
theorem kp_sema_has : kp f_sema_has = some k_sema_has := rfl
theorem kp_sema_Low : kp f_sema_Low = some k_sema_Low := rfl
theorem kp_sema_holds : kp f_sema_holds = some k_sema_holds := rfl
theorem kp_sema_Let : kp f_sema_Let = some k_sema_Let := rfl
theorem kp_sema_All : kp f_sema_All = some k_sema_All := rfl
theorem kp_ref11_TakeSema : kp f_ref11_TakeSema = some k_ref11_TakeSema := rfl
theorem kp_ref11_LetSema : kp f_ref11_LetSema = some k_ref11_LetSema := rfl
theorem kp_ref11_SameSemas : kp f_ref11_SameSemas = some k_ref11_SameSemas := rfl
theorem kp_ref11_Low : kp f_ref11_Low = some k_ref11_Low := rfl
theorem kp_ref11_AllSemas : kp f_ref11_AllSemas = some k_ref11_AllSemas := rfl
theorem kp_law11_SemaOne : kp f_law11_SemaOne = some k_law11_SemaOne := rfl
theorem kp_law11_SemaForms : kp f_law11_SemaForms = some k_law11_SemaForms := rfl
theorem kp_law11_SemaLow : kp f_law11_SemaLow = some k_law11_SemaLow := rfl
theorem kp_law12_MboxAll : kp f_law12_MboxAll = some k_law12_MboxAll := rfl
theorem kp_law12_begun : kp f_law12_begun = some k_law12_begun := rfl
theorem kp_mbox_Post : kp f_mbox_Post = some k_mbox_Post := rfl
theorem kp_mbox_twin : kp f_mbox_twin = some k_mbox_twin := rfl
theorem kp_slices_Clone_int64_int64 : kp f_slices_Clone_int64_int64 = some k_slices_Clone_int64_int64 := rfl
theorem kp_mbox_Take : kp f_mbox_Take = some k_mbox_Take := rfl
theorem kp_slices_Contains_int_int : kp f_slices_Contains_int_int = some k_slices_Contains_int_int := rfl
theorem kp_slices_Index_int_int : kp f_slices_Index_int_int = some k_slices_Index_int_int := rfl
theorem kp_mbox_Reset : kp f_mbox_Reset = some k_mbox_Reset := rfl
theorem kp_ref11_Post : kp f_ref11_Post = some k_ref11_Post := rfl
theorem kp_ref11_SameBox : kp f_ref11_SameBox = some k_ref11_SameBox := rfl
theorem kp_ref11_Take : kp f_ref11_Take = some k_ref11_Take := rfl
theorem kp_law12_MboxOrder : kp f_law12_MboxOrder = some k_law12_MboxOrder := rfl
theorem kp_law12_MboxForms : kp f_law12_MboxForms = some k_law12_MboxForms := rfl
theorem kp_law12_MboxWaits : kp f_law12_MboxWaits = some k_law12_MboxWaits := rfl
theorem c_law23_WatchAll_L0 (s : St) : run kp (.code k_law23_WatchAll_L0 s) = run kp (.code k_law23_WatchAll_L0b s) := rfl
theorem c_slices_Index_bool_bool_L0 (s : St) : run kp (.code k_slices_Index_bool_bool_L0 s) = run kp (.code k_slices_Index_bool_bool_L0b s) := rfl
theorem c_ref19_Miss_L0 (s : St) : run kp (.code k_ref19_Miss_L0 s) = run kp (.code k_ref19_Miss_L0b s) := rfl
theorem c_ref19_SameWatch_L0 (s : St) : run kp (.code k_ref19_SameWatch_L0 s) = run kp (.code k_ref19_SameWatch_L0b s) := rfl
theorem c_ref11_SameInts_L0 (s : St) : run kp (.code k_ref11_SameInts_L0 s) = run kp (.code k_ref11_SameInts_L0b s) := rfl
theorem c_law23_WatchStops_L0 (s : St) : run kp (.code k_law23_WatchStops_L0 s) = run kp (.code k_law23_WatchStops_L0b s) := rfl
theorem c_law23_WatchForms_L0 (s : St) : run kp (.code k_law23_WatchForms_L0 s) = run kp (.code k_law23_WatchForms_L0b s) := rfl
theorem c_law11_SemaAll_L0 (s : St) : run kp (.code k_law11_SemaAll_L0 s) = run kp (.code k_law11_SemaAll_L0b s) := rfl
theorem c_law11_SemaAll_L1 (s : St) : run kp (.code k_law11_SemaAll_L1 s) = run kp (.code k_law11_SemaAll_L1b s) := rfl
theorem c_sema_Low_L0 (s : St) : run kp (.code k_sema_Low_L0 s) = run kp (.code k_sema_Low_L0b s) := rfl
theorem c_sema_All_L0 (s : St) : run kp (.code k_sema_All_L0 s) = run kp (.code k_sema_All_L0b s) := rfl
theorem c_ref11_SameSemas_L0 (s : St) : run kp (.code k_ref11_SameSemas_L0 s) = run kp (.code k_ref11_SameSemas_L0b s) := rfl
theorem c_ref11_Low_L0 (s : St) : run kp (.code k_ref11_Low_L0 s) = run kp (.code k_ref11_Low_L0b s) := rfl
theorem c_ref11_AllSemas_L0 (s : St) : run kp (.code k_ref11_AllSemas_L0 s) = run kp (.code k_ref11_AllSemas_L0b s) := rfl
theorem c_law11_SemaOne_L0 (s : St) : run kp (.code k_law11_SemaOne_L0 s) = run kp (.code k_law11_SemaOne_L0b s) := rfl
theorem c_law11_SemaOne_L1 (s : St) : run kp (.code k_law11_SemaOne_L1 s) = run kp (.code k_law11_SemaOne_L1b s) := rfl
theorem c_law11_SemaOne_L2 (s : St) : run kp (.code k_law11_SemaOne_L2 s) = run kp (.code k_law11_SemaOne_L2b s) := rfl
theorem c_law11_SemaLow_L0 (s : St) : run kp (.code k_law11_SemaLow_L0 s) = run kp (.code k_law11_SemaLow_L0b s) := rfl
theorem c_law11_SemaLow_L1 (s : St) : run kp (.code k_law11_SemaLow_L1 s) = run kp (.code k_law11_SemaLow_L1b s) := rfl
theorem c_law11_SemaLow_L2 (s : St) : run kp (.code k_law11_SemaLow_L2 s) = run kp (.code k_law11_SemaLow_L2b s) := rfl
theorem c_law12_MboxAll_L0 (s : St) : run kp (.code k_law12_MboxAll_L0 s) = run kp (.code k_law12_MboxAll_L0b s) := rfl
theorem c_slices_Index_int_int_L0 (s : St) : run kp (.code k_slices_Index_int_int_L0 s) = run kp (.code k_slices_Index_int_int_L0b s) := rfl
theorem c_ref11_SameBox_L0 (s : St) : run kp (.code k_ref11_SameBox_L0 s) = run kp (.code k_ref11_SameBox_L0b s) := rfl
theorem c_ref11_SameBox_L1 (s : St) : run kp (.code k_ref11_SameBox_L1 s) = run kp (.code k_ref11_SameBox_L1b s) := rfl
theorem c_ref11_Take_L0 (s : St) : run kp (.code k_ref11_Take_L0 s) = run kp (.code k_ref11_Take_L0b s) := rfl
theorem c_law12_MboxOrder_L0 (s : St) : run kp (.code k_law12_MboxOrder_L0 s) = run kp (.code k_law12_MboxOrder_L0b s) := rfl
theorem c_law12_MboxOrder_L1 (s : St) : run kp (.code k_law12_MboxOrder_L1 s) = run kp (.code k_law12_MboxOrder_L1b s) := rfl
theorem c_law12_MboxForms_L0 (s : St) : run kp (.code k_law12_MboxForms_L0 s) = run kp (.code k_law12_MboxForms_L0b s) := rfl
theorem c_law12_MboxForms_L1 (s : St) : run kp (.code k_law12_MboxForms_L1 s) = run kp (.code k_law12_MboxForms_L1b s) := rfl
theorem c_law12_MboxWaits_L0 (s : St) : run kp (.code k_law12_MboxWaits_L0 s) = run kp (.code k_law12_MboxWaits_L0b s) := rfl
theorem c_law12_MboxWaits_L1 (s : St) : run kp (.code k_law12_MboxWaits_L1 s) = run kp (.code k_law12_MboxWaits_L1b s) := rfl
theorem c_law12_MboxWaits_L2 (s : St) : run kp (.code k_law12_MboxWaits_L2 s) = run kp (.code k_law12_MboxWaits_L2b s) := rfl
end Go.Cd
