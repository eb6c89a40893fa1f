/- The code of the functions, as the evaluator reads it; printed by a program of this session. No conditions. -/
import Derived.Test.YtjedomkpjidmbaaFwA
set_option linter.unusedVariables false
set_option linter.unusedSimpArgs false
namespace Go.Cd
open Go.Fw
def f_law13_FlagAll : Nat := 3
def f_law13_begun : Nat := 14
def f_flag_Await : Nat := 19
def f_slices_Clone_api_Waiter_api_Waiter : Nat := 33
def f_flag_Await_1 : Nat := 35
def f_slices_ContainsFunc_api_Waiter_api_Waiter : Nat := 34
def f_slices_IndexFunc_api_Waiter_api_Waiter : Nat := 39
def f_flag_Raise : Nat := 15
def f_flag_Reset : Nat := 21
def f_ref11_Raise : Nat := 16
def f_ref11_SameFlag : Nat := 17
def f_ref11_SameWaiters : Nat := 18
def f_ref11_Await : Nat := 20
def f_ref11_Clients : Nat := 23
def f_ref11_SameInts : Nat := 22
def f_law13_FlagOnce : Nat := 4
def f_law13_FlagForms : Nat := 5
def f_law13_FlagBits : Nat := 6
def f_law1_SatAll : Nat := 7
def f_law1_begun : Nat := 24
def f_sat_Add : Nat := 25
def f_sat_end : Nat := 36
def f_sat_Mul : Nat := 29
def f_sat_size : Nat := 38
def f_sat_times : Nat := 37
def f_sat_Up : Nat := 31
def f_sat_Sub : Nat := 27
def f_ref1_Add : Nat := 26
def f_ref1_Sub : Nat := 28
def f_ref1_Mul : Nat := 30
def f_ref1_Up : Nat := 32
def f_law1_SatUp : Nat := 8
def f_law1_SatBack : Nat := 9
def f_law1_SatForms : Nat := 10
def f_law1_SatOrder : Nat := 11
def f_law1_SatHalves : Nat := 12
def f_law1_SatSteps : Nat := 13
/- foliot/foliotlaw13.FlagAll -/
def k_law13_FlagAll_L0b : K := (.seq (.seq (.reg [] [⟨none, .mv 51 (.t 12)⟩, ⟨none, .bin 52 .lss (.t 51) (.c (.int .i64 3))⟩] [51])
 (.cond (.t 52) .skip
 (.ext 0)))
 (.seq (.blk 1 (.seq (.reg [(0, 11), (3, 11), (4, 11), (6, 11)] [⟨none, .ld 56 (.t 3)⟩, ⟨none, .mv 57 (.t 11)⟩, ⟨none, .mv 58 (.t 12)⟩, ⟨none, .ia 59 (.t 57) (.t 58)⟩, ⟨none, .ld 60 (.t 59)⟩, ⟨none, .mv 61 (.t 1)⟩, ⟨none, .dat 62 f_flag_Await [(.t 56), (.t 60), (.t 61)]⟩, ⟨none, .mv 55 (.t 62)⟩, ⟨none, .ex 63 (.t 55) 0⟩, ⟨none, .ex 64 (.t 55) 1⟩, ⟨none, .ex 65 (.t 55) 2⟩, ⟨none, .alc 13 (.d (.agg [(.int .u32 0), (.sl true [])]))⟩, ⟨none, .st (.t 13) (.t 63)⟩, ⟨none, .mv 14 (.t 64)⟩, ⟨none, .mv 15 (.t 65)⟩] [55, 56, 57, 58, 59, 60, 61, 62, 63, 64, 65])
 (.seq (.reg [(0, 11), (3, 11), (4, 11), (6, 11)] [⟨none, .ld 67 (.t 3)⟩, ⟨none, .mv 68 (.t 11)⟩, ⟨none, .mv 69 (.t 12)⟩, ⟨none, .ia 70 (.t 68) (.t 69)⟩, ⟨none, .ld 71 (.t 70)⟩, ⟨none, .mv 72 (.t 1)⟩, ⟨none, .dat 73 f_ref11_Await [(.t 67), (.t 71), (.t 72)]⟩, ⟨none, .mv 66 (.t 73)⟩, ⟨none, .ex 74 (.t 66) 0⟩, ⟨none, .ex 75 (.t 66) 1⟩, ⟨none, .ex 76 (.t 66) 2⟩, ⟨none, .alc 16 (.d (.agg [(.int .u32 0), (.sl true [])]))⟩, ⟨none, .st (.t 16) (.t 74)⟩, ⟨none, .mv 17 (.t 75)⟩, ⟨none, .mv 18 (.t 76)⟩] [66, 67, 68, 69, 70, 71, 72, 73, 74, 75, 76])
 (.seq (.reg [] [⟨none, .mv 77 (.t 14)⟩, ⟨none, .mv 78 (.t 17)⟩, ⟨none, .bin 79 .neq (.t 77) (.t 78)⟩, ⟨none, .mv 80 (.t 79)⟩, ⟨some (80, false), .mv 81 (.t 15)⟩, ⟨some (80, false), .mv 82 (.t 18)⟩, ⟨some (80, false), .bin 83 .neq (.t 81) (.t 82)⟩, ⟨none, .pick 84 (.t 80) (.c (.bool true)) (.t 83)⟩, ⟨none, .mv 85 (.t 84)⟩, ⟨some (85, false), .ld 86 (.t 13)⟩, ⟨some (85, false), .ld 87 (.t 16)⟩, ⟨some (85, false), .dat 88 f_ref11_SameFlag [(.t 86), (.t 87)]⟩, ⟨some (85, false), .un 89 .not (.t 88)⟩, ⟨none, .pick 90 (.t 85) (.c (.bool true)) (.t 89)⟩] [13, 14, 15, 16, 17, 18, 77, 78, 79, 80, 81, 82, 83, 84, 85, 86, 87, 88, 89])
 (.cond (.t 90) (.seq (.reg [] [⟨none, .mv 6 (.c (.bool false))⟩] [])
 .ret)
 .skip)))))
 (.reg [] [⟨none, .mv 53 (.t 12)⟩, ⟨none, .bin 54 .add (.t 53) (.c (.int .i64 1))⟩, ⟨none, .mv 12 (.t 54)⟩] [53, 54])))
def k_law13_FlagAll_L0 : K := k_law13_FlagAll_L0b
def k_law13_FlagAll : KF := ⟨(.seq (.reg [] [⟨none, .box 3 (.t 0)⟩, ⟨none, .mv 6 (.c (.bool false))⟩] [0, 6])
 (.seq (.seq (.reg [] [⟨none, .dat 21 f_law13_begun []⟩, ⟨none, .un 22 .not (.t 21)⟩] [21])
 (.cond (.t 22) (.seq (.reg [] [⟨none, .mv 6 (.c (.bool false))⟩] [])
 .ret)
 .skip))
 (.seq (.seq (.reg [] [⟨none, .fa 23 (.t 3) 1⟩, ⟨none, .ld 24 (.t 23)⟩, ⟨none, .len 25 (.t 24)⟩, ⟨none, .bin 26 .gtr (.t 25) (.c (.int .i64 8))⟩] [23, 24, 25])
 (.cond (.t 26) (.seq (.reg [] [⟨none, .mv 6 (.c (.bool true))⟩] [])
 .ret)
 .skip))
 (.seq (.reg [] [⟨none, .ld 28 (.t 3)⟩, ⟨none, .mv 29 (.t 1)⟩, ⟨none, .dat 30 f_flag_Raise [(.t 28), (.t 29)]⟩, ⟨none, .mv 27 (.t 30)⟩, ⟨none, .ex 31 (.t 27) 0⟩, ⟨none, .ex 32 (.t 27) 1⟩, ⟨none, .alc 7 (.d (.agg [(.int .u32 0), (.sl true [])]))⟩, ⟨none, .st (.t 7) (.t 31)⟩, ⟨none, .mv 8 (.t 32)⟩] [27, 28, 29, 30, 31, 32])
 (.seq (.reg [] [⟨none, .ld 34 (.t 3)⟩, ⟨none, .mv 35 (.t 1)⟩, ⟨none, .dat 36 f_ref11_Raise [(.t 34), (.t 35)]⟩, ⟨none, .mv 33 (.t 36)⟩, ⟨none, .ex 37 (.t 33) 0⟩, ⟨none, .ex 38 (.t 33) 1⟩, ⟨none, .alc 9 (.d (.agg [(.int .u32 0), (.sl true [])]))⟩, ⟨none, .st (.t 9) (.t 37)⟩, ⟨none, .mv 10 (.t 38)⟩] [33, 34, 35, 36, 37, 38])
 (.seq (.seq (.reg [] [⟨none, .ld 39 (.t 7)⟩, ⟨none, .ld 40 (.t 9)⟩, ⟨none, .dat 41 f_ref11_SameFlag [(.t 39), (.t 40)]⟩, ⟨none, .un 42 .not (.t 41)⟩, ⟨none, .mv 43 (.t 42)⟩, ⟨some (43, false), .mv 44 (.t 8)⟩, ⟨some (43, false), .mv 45 (.t 10)⟩, ⟨some (43, false), .dat 46 f_ref11_SameWaiters [(.t 44), (.t 45)]⟩, ⟨some (43, false), .un 47 .not (.t 46)⟩, ⟨none, .pick 48 (.t 43) (.c (.bool true)) (.t 47)⟩] [7, 8, 9, 10, 39, 40, 41, 42, 43, 44, 45, 46, 47])
 (.cond (.t 48) (.seq (.reg [] [⟨none, .mv 6 (.c (.bool false))⟩] [])
 .ret)
 .skip))
 (.seq (.reg [] [⟨none, .mv 49 (.t 2)⟩, ⟨none, .bsl 50 [(.t 49), (.c (.int .i64 1)), (.c (.int .i64 2))]⟩, ⟨none, .mv 11 (.t 50)⟩] [2, 49, 50])
 (.seq (.seq (.reg [] [⟨none, .mv 12 (.c (.int .i64 0))⟩] [])
 (.blk 0 (.loop [1, 3, 11, 12] k_law13_FlagAll_L0)))
 (.seq (.reg [] [⟨none, .ld 92 (.t 3)⟩, ⟨none, .dat 93 f_flag_Reset [(.t 92)]⟩, ⟨none, .mv 91 (.t 93)⟩, ⟨none, .ex 94 (.t 91) 0⟩, ⟨none, .ex 95 (.t 91) 1⟩, ⟨none, .alc 19 (.d (.agg [(.int .u32 0), (.sl true [])]))⟩, ⟨none, .st (.t 19) (.t 94)⟩, ⟨none, .mv 20 (.t 95)⟩] [91, 92, 93, 94, 95])
 (.seq (.reg [] [⟨none, .ld 96 (.t 19)⟩, ⟨none, .bld 97 [(.c (.int .u32 0)), (.c (.d (.sl true [])))]⟩, ⟨none, .dat 98 f_ref11_SameFlag [(.t 96), (.t 97)]⟩, ⟨none, .mv 99 (.t 98)⟩, ⟨some (99, true), .mv 100 (.t 20)⟩, ⟨some (99, true), .ld 101 (.t 3)⟩, ⟨some (99, true), .dat 102 f_ref11_Clients [(.t 101)]⟩, ⟨some (99, true), .dat 103 f_ref11_SameInts [(.t 100), (.t 102)]⟩, ⟨none, .pick 104 (.t 99) (.t 103) (.c (.bool false))⟩, ⟨none, .mv 6 (.t 104)⟩] [3, 19, 20, 96, 97, 98, 99, 100, 101, 102, 103, 104])
 .ret)))))))))), [.t 6]⟩
/- foliot/foliotlaw13.begun -/
def k_law13_begun : KF := ⟨(.seq (.reg [] [⟨none, .mv 0 (.c (.bool false))⟩] [0])
 (.seq (.reg [] [⟨none, .bld 12 [(.c (.int .u32 0)), (.c (.d (.sl true [])))]⟩, ⟨none, .dat 13 f_flag_Await [(.t 12), (.c (.int .i64 1)), (.c (.int .u32 6))]⟩, ⟨none, .mv 11 (.t 13)⟩, ⟨none, .ex 14 (.t 11) 0⟩, ⟨none, .ex 15 (.t 11) 1⟩, ⟨none, .ex 16 (.t 11) 2⟩, ⟨none, .alc 1 (.d (.agg [(.int .u32 0), (.sl true [])]))⟩, ⟨none, .st (.t 1) (.t 14)⟩, ⟨none, .mv 2 (.t 15)⟩, ⟨none, .mv 3 (.t 16)⟩] [11, 12, 13, 14, 15, 16])
 (.seq (.reg [] [⟨none, .ld 18 (.t 1)⟩, ⟨none, .dat 19 f_flag_Raise [(.t 18), (.c (.int .u32 3))]⟩, ⟨none, .mv 17 (.t 19)⟩, ⟨none, .ex 20 (.t 17) 0⟩, ⟨none, .ex 21 (.t 17) 1⟩, ⟨none, .alc 4 (.d (.agg [(.int .u32 0), (.sl true [])]))⟩, ⟨none, .st (.t 4) (.t 20)⟩, ⟨none, .mv 5 (.t 21)⟩] [17, 18, 19, 20, 21])
 (.seq (.reg [] [⟨none, .ld 23 (.t 4)⟩, ⟨none, .dat 24 f_flag_Await [(.t 23), (.c (.int .i64 2)), (.c (.int .u32 1))]⟩, ⟨none, .mv 22 (.t 24)⟩, ⟨none, .ex 25 (.t 22) 0⟩, ⟨none, .ex 26 (.t 22) 1⟩, ⟨none, .ex 27 (.t 22) 2⟩, ⟨none, .alc 6 (.d (.agg [(.int .u32 0), (.sl true [])]))⟩, ⟨none, .st (.t 6) (.t 25)⟩, ⟨none, .mv 7 (.t 26)⟩, ⟨none, .mv 8 (.t 27)⟩] [22, 23, 24, 25, 26, 27])
 (.seq (.reg [] [⟨none, .ld 29 (.t 1)⟩, ⟨none, .dat 30 f_flag_Reset [(.t 29)]⟩, ⟨none, .mv 28 (.t 30)⟩, ⟨none, .ex 31 (.t 28) 0⟩, ⟨none, .ex 32 (.t 28) 1⟩, ⟨none, .alc 9 (.d (.agg [(.int .u32 0), (.sl true [])]))⟩, ⟨none, .st (.t 9) (.t 31)⟩, ⟨none, .mv 10 (.t 32)⟩] [1, 9, 28, 29, 30, 31, 32])
 (.seq (.reg [] [⟨none, .mv 33 (.t 2)⟩, ⟨none, .bin 34 .eql (.t 33) (.c (.int .u32 0))⟩, ⟨none, .mv 35 (.t 34)⟩, ⟨some (35, true), .mv 36 (.t 3)⟩, ⟨none, .pick 37 (.t 35) (.t 36) (.c (.bool false))⟩, ⟨none, .mv 38 (.t 37)⟩, ⟨some (38, true), .mv 39 (.t 5)⟩, ⟨some (38, true), .len 40 (.t 39)⟩, ⟨some (38, true), .bin 41 .eql (.t 40) (.c (.int .i64 1))⟩, ⟨none, .pick 42 (.t 38) (.t 41) (.c (.bool false))⟩, ⟨none, .mv 43 (.t 42)⟩, ⟨some (43, true), .mv 44 (.t 5)⟩, ⟨some (43, true), .ia 45 (.t 44) (.c (.int .i64 0))⟩, ⟨some (43, true), .ld 46 (.t 45)⟩, ⟨some (43, true), .bld 47 [(.c (.int .i64 1)), (.c (.int .u32 2))]⟩, ⟨some (43, true), .bin 48 .eql (.t 46) (.t 47)⟩, ⟨none, .pick 49 (.t 43) (.t 48) (.c (.bool false))⟩, ⟨none, .mv 50 (.t 49)⟩, ⟨some (50, true), .fa 51 (.t 4) 0⟩, ⟨some (50, true), .ld 52 (.t 51)⟩, ⟨some (50, true), .bin 53 .eql (.t 52) (.c (.int .u32 1))⟩, ⟨none, .pick 54 (.t 50) (.t 53) (.c (.bool false))⟩, ⟨none, .mv 55 (.t 54)⟩, ⟨some (55, true), .mv 56 (.t 8)⟩, ⟨none, .pick 57 (.t 55) (.t 56) (.c (.bool false))⟩, ⟨none, .mv 58 (.t 57)⟩, ⟨some (58, true), .mv 59 (.t 7)⟩, ⟨some (58, true), .bin 60 .eql (.t 59) (.c (.int .u32 1))⟩, ⟨none, .pick 61 (.t 58) (.t 60) (.c (.bool false))⟩, ⟨none, .mv 62 (.t 61)⟩, ⟨some (62, true), .fa 63 (.t 6) 0⟩, ⟨some (62, true), .ld 64 (.t 63)⟩, ⟨some (62, true), .bin 65 .eql (.t 64) (.c (.int .u32 0))⟩, ⟨none, .pick 66 (.t 62) (.t 65) (.c (.bool false))⟩, ⟨none, .mv 67 (.t 66)⟩, ⟨some (67, true), .mv 68 (.t 10)⟩, ⟨some (67, true), .len 69 (.t 68)⟩, ⟨some (67, true), .bin 70 .eql (.t 69) (.c (.int .i64 1))⟩, ⟨none, .pick 71 (.t 67) (.t 70) (.c (.bool false))⟩, ⟨none, .mv 72 (.t 71)⟩, ⟨some (72, true), .mv 73 (.t 10)⟩, ⟨some (72, true), .ia 74 (.t 73) (.c (.int .i64 0))⟩, ⟨some (72, true), .ld 75 (.t 74)⟩, ⟨some (72, true), .bin 76 .eql (.t 75) (.c (.int .i64 1))⟩, ⟨none, .pick 77 (.t 72) (.t 76) (.c (.bool false))⟩, ⟨none, .mv 0 (.t 77)⟩] [2, 3, 4, 5, 6, 7, 8, 10, 33, 34, 35, 36, 37, 38, 39, 40, 41, 42, 43, 44, 45, 46, 47, 48, 49, 50, 51, 52, 53, 54, 55, 56, 57, 58, 59, 60, 61, 62, 63, 64, 65, 66, 67, 68, 69, 70, 71, 72, 73, 74, 75, 76, 77])
 .ret)))))), [.t 0]⟩
/- foliot/flag.Await -/
def k_flag_Await : KF := ⟨(.seq (.reg [] [⟨none, .box 3 (.t 0)⟩, ⟨none, .box 4 (.t 1)⟩, ⟨none, .alc 6 (.d (.agg [(.int .u32 0), (.sl true [])]))⟩, ⟨none, .mv 7 (.c (.int .u32 0))⟩, ⟨none, .mv 8 (.c (.bool false))⟩] [0, 1, 7, 8])
 (.seq (.reg [(1, 4)] [⟨none, .fa 9 (.t 3) 0⟩, ⟨none, .ld 10 (.t 9)⟩, ⟨none, .fa 11 (.t 3) 1⟩, ⟨none, .ld 12 (.t 11)⟩, ⟨none, .dat 13 f_slices_Clone_api_Waiter_api_Waiter [(.t 12)]⟩, ⟨none, .bld 14 [(.t 10), (.t 13)]⟩, ⟨none, .st (.t 6) (.t 14)⟩] [9, 10, 11, 12, 13, 14])
 (.seq (.seq (.reg [] [⟨none, .ld 15 (.t 4)⟩, ⟨none, .bin 16 .lss (.t 15) (.c (.int .i64 1))⟩, ⟨none, .mv 17 (.t 16)⟩, ⟨some (17, false), .mv 18 (.t 2)⟩, ⟨some (17, false), .bin 19 .eql (.t 18) (.c (.int .u32 0))⟩, ⟨none, .pick 20 (.t 17) (.c (.bool true)) (.t 19)⟩] [15, 16, 17, 18, 19])
 (.cond (.t 20) (.seq (.reg [] [⟨none, .ld 21 (.t 6)⟩, ⟨none, .st (.t 6) (.t 21)⟩, ⟨none, .mv 7 (.c (.int .u32 0))⟩, ⟨none, .mv 8 (.c (.bool false))⟩] [21])
 .ret)
 .skip))
 (.seq (.seq (.reg [] [⟨none, .fa 22 (.t 3) 0⟩, ⟨none, .ld 23 (.t 22)⟩, ⟨none, .mv 24 (.t 2)⟩, ⟨none, .bin 25 .and (.t 23) (.t 24)⟩, ⟨none, .mv 7 (.t 25)⟩] [22, 23, 24, 25])
 (.seq (.reg [] [⟨none, .mv 26 (.t 7)⟩, ⟨none, .bin 27 .neq (.t 26) (.c (.int .u32 0))⟩] [26])
 (.cond (.t 27) (.seq (.reg [] [⟨none, .fa 28 (.t 6) 0⟩, ⟨none, .ld 29 (.t 28)⟩, ⟨none, .mv 30 (.t 7)⟩, ⟨none, .bin 31 .andNot (.t 29) (.t 30)⟩, ⟨none, .fa 32 (.t 6) 0⟩, ⟨none, .st (.t 32) (.t 31)⟩] [28, 29, 30, 31, 32])
 (.seq (.reg [] [⟨none, .ld 33 (.t 6)⟩, ⟨none, .mv 34 (.t 7)⟩, ⟨none, .st (.t 6) (.t 33)⟩, ⟨none, .mv 7 (.t 34)⟩, ⟨none, .mv 8 (.c (.bool true))⟩] [33, 34])
 .ret))
 .skip)))
 (.seq (.seq (.reg [] [⟨none, .fa 35 (.t 3) 1⟩, ⟨none, .ld 36 (.t 35)⟩, ⟨none, .len 37 (.t 36)⟩, ⟨none, .bin 38 .geq (.t 37) (.c (.int .i64 4))⟩, ⟨none, .mv 39 (.t 38)⟩, ⟨some (39, false), .fa 40 (.t 3) 1⟩, ⟨some (39, false), .ld 41 (.t 40)⟩, ⟨some (39, false), .mkf 42 f_flag_Await_1 [] [(.t 4)]⟩, ⟨some (39, false), .cal 43 f_slices_ContainsFunc_api_Waiter_api_Waiter [(.t 41), (.t 42)]⟩, ⟨none, .pick 44 (.t 39) (.c (.bool true)) (.t 43)⟩] [3, 35, 36, 37, 38, 39, 40, 41, 42, 43])
 (.cond (.t 44) (.seq (.reg [] [⟨none, .ld 45 (.t 6)⟩, ⟨none, .st (.t 6) (.t 45)⟩, ⟨none, .mv 7 (.c (.int .u32 0))⟩, ⟨none, .mv 8 (.c (.bool false))⟩] [45])
 .ret)
 .skip))
 (.seq (.reg [] [⟨none, .fa 46 (.t 6) 1⟩, ⟨none, .ld 47 (.t 46)⟩, ⟨none, .ld 48 (.t 4)⟩, ⟨none, .mv 49 (.t 2)⟩, ⟨none, .bld 50 [(.t 48), (.t 49)]⟩, ⟨none, .bsl 51 [(.t 50)]⟩, ⟨none, .app 52 (.t 47) (.t 51)⟩, ⟨none, .fa 53 (.t 6) 1⟩, ⟨none, .st (.t 53) (.t 52)⟩] [2, 4, 46, 47, 48, 49, 50, 51, 52, 53])
 (.seq (.reg [] [⟨none, .ld 54 (.t 6)⟩, ⟨none, .st (.t 6) (.t 54)⟩, ⟨none, .mv 7 (.c (.int .u32 0))⟩, ⟨none, .mv 8 (.c (.bool true))⟩] [54])
 .ret))))))), [.cell 6, .t 7, .t 8]⟩
/- slices.Clone[[]foliot/api.Waiter,foliot/api.Waiter] -/
def k_slices_Clone_api_Waiter_api_Waiter : KF := ⟨(.seq (.reg [] [⟨none, .mv 2 (.c (.d (.sl true [])))⟩] [2])
 (.seq (.seq (.reg [] [⟨none, .mv 3 (.t 0)⟩, ⟨none, .bin 4 .eql (.t 3) (.c (.d (.sl true [])))⟩] [3])
 (.cond (.t 4) (.seq (.reg [] [⟨none, .mv 2 (.c (.d (.sl true [])))⟩] [])
 .ret)
 .skip))
 (.seq (.reg [] [⟨none, .bsl 5 []⟩, ⟨none, .mv 6 (.t 0)⟩, ⟨none, .app 7 (.t 5) (.t 6)⟩, ⟨none, .mv 2 (.t 7)⟩] [0, 5, 6, 7])
 .ret))), [.t 2]⟩
/- foliot/flag.Await$1 -/
def k_flag_Await_1 : KF := ⟨(.seq (.reg [] [⟨none, .box 2 (.t 0)⟩, ⟨none, .mv 3 (.c (.bool false))⟩] [0, 3])
 (.seq (.reg [] [⟨none, .fa 4 (.t 2) 0⟩, ⟨none, .ld 5 (.t 4)⟩, ⟨none, .ld 6 (.t 1)⟩, ⟨none, .bin 7 .eql (.t 5) (.t 6)⟩, ⟨none, .mv 3 (.t 7)⟩] [1, 2, 4, 5, 6, 7])
 .ret)), [.t 3]⟩
/- slices.ContainsFunc[[]foliot/api.Waiter,foliot/api.Waiter] -/
def k_slices_ContainsFunc_api_Waiter_api_Waiter : KF := ⟨(.seq (.reg [] [⟨none, .mv 4 (.c (.bool false))⟩] [4])
 (.seq (.reg [] [⟨none, .mv 5 (.t 0)⟩, ⟨none, .mv 6 (.t 1)⟩, ⟨none, .cal 7 f_slices_IndexFunc_api_Waiter_api_Waiter [(.t 5), (.t 6)]⟩, ⟨none, .bin 8 .geq (.t 7) (.c (.int .i64 0))⟩, ⟨none, .mv 4 (.t 8)⟩] [0, 1, 5, 6, 7, 8])
 .ret)), [.t 4]⟩
/- slices.IndexFunc[[]foliot/api.Waiter,foliot/api.Waiter] -/
def k_slices_IndexFunc_api_Waiter_api_Waiter_L0b : K := (.seq (.reg [] [⟨none, .bin 9 .lss (.t 8) (.t 7)⟩] [])
 (.seq (.cond (.t 9) .skip
 (.ext 0))
 (.seq (.blk 1 (.seq (.reg [] [⟨none, .mv 10 (.t 8)⟩, ⟨none, .mv 5 (.t 10)⟩] [10])
 (.seq (.reg [] [⟨none, .mv 11 (.t 1)⟩, ⟨none, .mv 12 (.t 0)⟩, ⟨none, .mv 13 (.t 5)⟩, ⟨none, .ia 14 (.t 12) (.t 13)⟩, ⟨none, .ld 15 (.t 14)⟩, ⟨none, .cav 16 (.t 11) [(.t 15)]⟩] [11, 12, 13, 14, 15])
 (.cond (.t 16) (.seq (.reg [] [⟨none, .mv 17 (.t 5)⟩, ⟨none, .mv 4 (.t 17)⟩] [5, 17])
 .ret)
 .skip))))
 (.reg [] [⟨none, .bin 18 .add (.t 8) (.c (.int .i64 1))⟩, ⟨none, .mv 8 (.t 18)⟩] [18]))))
def k_slices_IndexFunc_api_Waiter_api_Waiter_L0 : K := k_slices_IndexFunc_api_Waiter_api_Waiter_L0b
def k_slices_IndexFunc_api_Waiter_api_Waiter : KF := ⟨(.seq (.reg [] [⟨none, .mv 4 (.c (.int .i64 0))⟩] [4])
 (.seq (.seq (.reg [] [⟨none, .mv 6 (.t 0)⟩, ⟨none, .len 7 (.t 6)⟩, ⟨none, .mv 8 (.c (.int .i64 0))⟩] [6])
 (.blk 0 (.loop [0, 1, 7, 8] k_slices_IndexFunc_api_Waiter_api_Waiter_L0)))
 (.seq (.reg [] [⟨none, .mv 4 (.c (.int .i64 (-1)))⟩] [])
 .ret))), [.t 4]⟩
/- foliot/flag.Raise -/
def k_flag_Raise_L0b : K := (.seq (.reg [] [⟨none, .bin 18 .lss (.t 17) (.t 16)⟩] [])
 (.seq (.cond (.t 18) .skip
 (.ext 0))
 (.seq (.blk 1 (.seq (.reg [] [⟨none, .ia 19 (.t 15) (.t 17)⟩, ⟨none, .ld 20 (.t 19)⟩, ⟨none, .alc 7 (.d (.agg [(.int .i64 0), (.int .u32 0)]))⟩, ⟨none, .st (.t 7) (.t 20)⟩] [19, 20])
 (.seq (.reg [] [⟨none, .fa 21 (.t 4) 0⟩, ⟨none, .ld 22 (.t 21)⟩, ⟨none, .fa 23 (.t 7) 1⟩, ⟨none, .ld 24 (.t 23)⟩, ⟨none, .bin 25 .and (.t 22) (.t 24)⟩, ⟨none, .mv 8 (.t 25)⟩] [21, 22, 23, 24, 25])
 (.seq (.seq (.reg [] [⟨none, .mv 26 (.t 8)⟩, ⟨none, .bin 27 .eql (.t 26) (.c (.int .u32 0))⟩] [26])
 (.cond (.t 27) (.seq (.reg [] [⟨none, .fa 28 (.t 4) 1⟩, ⟨none, .ld 29 (.t 28)⟩, ⟨none, .ld 30 (.t 7)⟩, ⟨none, .bsl 31 [(.t 30)]⟩, ⟨none, .app 32 (.t 29) (.t 31)⟩, ⟨none, .fa 33 (.t 4) 1⟩, ⟨none, .st (.t 33) (.t 32)⟩] [7, 28, 29, 30, 31, 32, 33])
 (.ext 1))
 .skip))
 (.seq (.reg [] [⟨none, .fa 34 (.t 4) 0⟩, ⟨none, .ld 35 (.t 34)⟩, ⟨none, .mv 36 (.t 8)⟩, ⟨none, .bin 37 .andNot (.t 35) (.t 36)⟩, ⟨none, .fa 38 (.t 4) 0⟩, ⟨none, .st (.t 38) (.t 37)⟩] [34, 35, 36, 37, 38])
 (.reg [] [⟨none, .mv 39 (.t 5)⟩, ⟨none, .fa 40 (.t 7) 0⟩, ⟨none, .ld 41 (.t 40)⟩, ⟨none, .mv 42 (.t 8)⟩, ⟨none, .bld 43 [(.t 41), (.t 42)]⟩, ⟨none, .bsl 44 [(.t 43)]⟩, ⟨none, .app 45 (.t 39) (.t 44)⟩, ⟨none, .mv 5 (.t 45)⟩] [7, 8, 39, 40, 41, 42, 43, 44, 45]))))))
 (.reg [] [⟨none, .bin 46 .add (.t 17) (.c (.int .i64 1))⟩, ⟨none, .mv 17 (.t 46)⟩] [46]))))
def k_flag_Raise_L0 : K := k_flag_Raise_L0b
def k_flag_Raise : KF := ⟨(.seq (.reg [] [⟨none, .box 2 (.t 0)⟩, ⟨none, .alc 4 (.d (.agg [(.int .u32 0), (.sl true [])]))⟩, ⟨none, .mv 5 (.c (.d (.sl true [])))⟩] [0])
 (.seq (.reg [] [⟨none, .fa 9 (.t 2) 0⟩, ⟨none, .ld 10 (.t 9)⟩, ⟨none, .mv 11 (.t 1)⟩, ⟨none, .bin 12 .or (.t 10) (.t 11)⟩, ⟨none, .fa 13 (.t 4) 0⟩, ⟨none, .st (.t 13) (.t 12)⟩] [1, 9, 10, 11, 12, 13])
 (.seq (.seq (.reg [] [⟨none, .fa 14 (.t 2) 1⟩, ⟨none, .ld 15 (.t 14)⟩, ⟨none, .len 16 (.t 15)⟩, ⟨none, .mv 17 (.c (.int .i64 0))⟩] [2, 14])
 (.blk 0 (.loop [4, 5, 15, 16, 17] k_flag_Raise_L0)))
 (.seq (.reg [] [⟨none, .ld 47 (.t 4)⟩, ⟨none, .mv 48 (.t 5)⟩, ⟨none, .st (.t 4) (.t 47)⟩, ⟨none, .mv 5 (.t 48)⟩] [47, 48])
 .ret)))), [.cell 4, .t 5]⟩
/- foliot/flag.Reset -/
def k_flag_Reset_L0b : K := (.seq (.reg [] [⟨none, .bin 10 .lss (.t 9) (.t 8)⟩] [])
 (.seq (.cond (.t 10) .skip
 (.ext 0))
 (.seq (.blk 1 (.seq (.reg [] [⟨none, .ia 11 (.t 7) (.t 9)⟩, ⟨none, .ld 12 (.t 11)⟩, ⟨none, .alc 5 (.d (.agg [(.int .i64 0), (.int .u32 0)]))⟩, ⟨none, .st (.t 5) (.t 12)⟩] [11, 12])
 (.reg [] [⟨none, .mv 13 (.t 3)⟩, ⟨none, .fa 14 (.t 5) 0⟩, ⟨none, .ld 15 (.t 14)⟩, ⟨none, .bsl 16 [(.t 15)]⟩, ⟨none, .app 17 (.t 13) (.t 16)⟩, ⟨none, .mv 3 (.t 17)⟩] [5, 13, 14, 15, 16, 17])))
 (.reg [] [⟨none, .bin 18 .add (.t 9) (.c (.int .i64 1))⟩, ⟨none, .mv 9 (.t 18)⟩] [18]))))
def k_flag_Reset_L0 : K := k_flag_Reset_L0b
def k_flag_Reset : KF := ⟨(.seq (.reg [] [⟨none, .box 1 (.t 0)⟩, ⟨none, .alc 2 (.d (.agg [(.int .u32 0), (.sl true [])]))⟩, ⟨none, .mv 3 (.c (.d (.sl true [])))⟩] [0])
 (.seq (.seq (.reg [] [⟨none, .fa 6 (.t 1) 1⟩, ⟨none, .ld 7 (.t 6)⟩, ⟨none, .len 8 (.t 7)⟩, ⟨none, .mv 9 (.c (.int .i64 0))⟩] [1, 6])
 (.blk 0 (.loop [2, 3, 7, 8, 9] k_flag_Reset_L0)))
 (.seq (.reg [] [⟨none, .ld 19 (.t 2)⟩, ⟨none, .mv 20 (.t 3)⟩, ⟨none, .st (.t 2) (.t 19)⟩, ⟨none, .mv 3 (.t 20)⟩] [19, 20])
 .ret))), [.cell 2, .t 3]⟩
/- foliot/foliotref11.Raise -/
def k_ref11_Raise_L0b : K := (.seq (.seq (.reg [] [⟨none, .mv 15 (.t 8)⟩, ⟨none, .fa 16 (.t 2) 1⟩, ⟨none, .ld 17 (.t 16)⟩, ⟨none, .len 18 (.t 17)⟩, ⟨none, .bin 19 .lss (.t 15) (.t 18)⟩] [15, 16, 17, 18])
 (.cond (.t 19) .skip
 (.ext 0)))
 (.seq (.blk 1 (.seq (.reg [] [⟨none, .fa 22 (.t 2) 1⟩, ⟨none, .ld 23 (.t 22)⟩, ⟨none, .mv 24 (.t 8)⟩, ⟨none, .ia 25 (.t 23) (.t 24)⟩, ⟨none, .fa 26 (.t 25) 1⟩, ⟨none, .ld 27 (.t 26)⟩, ⟨none, .fa 28 (.t 6) 0⟩, ⟨none, .ld 29 (.t 28)⟩, ⟨none, .bin 30 .and (.t 27) (.t 29)⟩, ⟨none, .mv 9 (.t 30)⟩] [22, 23, 24, 25, 26, 27, 28, 29, 30])
 (.seq (.seq (.reg [] [⟨none, .mv 31 (.t 9)⟩, ⟨none, .bin 32 .eql (.t 31) (.c (.int .u32 0))⟩] [31])
 (.cond (.t 32) (.seq (.reg [(1, 7)] [⟨none, .fa 33 (.t 6) 1⟩, ⟨none, .ld 34 (.t 33)⟩, ⟨none, .fa 35 (.t 2) 1⟩, ⟨none, .ld 36 (.t 35)⟩, ⟨none, .mv 37 (.t 8)⟩, ⟨none, .ia 38 (.t 36) (.t 37)⟩, ⟨none, .ld 39 (.t 38)⟩, ⟨none, .bsl 40 [(.t 39)]⟩, ⟨none, .app 41 (.t 34) (.t 40)⟩, ⟨none, .fa 42 (.t 6) 1⟩, ⟨none, .st (.t 42) (.t 41)⟩] [33, 34, 35, 36, 37, 38, 39, 40, 41, 42])
 (.ext 1))
 .skip))
 (.seq (.reg [] [⟨none, .mv 43 (.t 7)⟩, ⟨none, .fa 44 (.t 2) 1⟩, ⟨none, .ld 45 (.t 44)⟩, ⟨none, .mv 46 (.t 8)⟩, ⟨none, .ia 47 (.t 45) (.t 46)⟩, ⟨none, .fa 48 (.t 47) 0⟩, ⟨none, .ld 49 (.t 48)⟩, ⟨none, .mv 50 (.t 9)⟩, ⟨none, .bld 51 [(.t 49), (.t 50)]⟩, ⟨none, .bsl 52 [(.t 51)]⟩, ⟨none, .app 53 (.t 43) (.t 52)⟩, ⟨none, .mv 7 (.t 53)⟩] [43, 44, 45, 46, 47, 48, 49, 50, 51, 52, 53])
 (.reg [] [⟨none, .fa 54 (.t 6) 0⟩, ⟨none, .ld 55 (.t 54)⟩, ⟨none, .mv 56 (.t 9)⟩, ⟨none, .bin 57 .sub (.t 55) (.t 56)⟩, ⟨none, .fa 58 (.t 6) 0⟩, ⟨none, .st (.t 58) (.t 57)⟩] [9, 54, 55, 56, 57, 58])))))
 (.reg [] [⟨none, .mv 20 (.t 8)⟩, ⟨none, .bin 21 .add (.t 20) (.c (.int .i64 1))⟩, ⟨none, .mv 8 (.t 21)⟩] [20, 21])))
def k_ref11_Raise_L0 : K := k_ref11_Raise_L0b
def k_ref11_Raise : KF := ⟨(.seq (.reg [] [⟨none, .box 2 (.t 0)⟩, ⟨none, .alc 4 (.d (.agg [(.int .u32 0), (.sl true [])]))⟩, ⟨none, .mv 5 (.c (.d (.sl true [])))⟩] [0, 5])
 (.seq (.reg [] [⟨none, .fa 10 (.t 2) 0⟩, ⟨none, .ld 11 (.t 10)⟩, ⟨none, .mv 12 (.t 1)⟩, ⟨none, .bin 13 .or (.t 11) (.t 12)⟩, ⟨none, .bld 14 [(.t 13), (.c (.d (.sl true [])))]⟩, ⟨none, .alc 6 (.d (.agg [(.int .u32 0), (.sl true [])]))⟩, ⟨none, .st (.t 6) (.t 14)⟩] [1, 10, 11, 12, 13, 14])
 (.seq (.reg [] [⟨none, .mv 7 (.c (.d (.sl true [])))⟩] [])
 (.seq (.seq (.reg [] [⟨none, .mv 8 (.c (.int .i64 0))⟩] [])
 (.blk 0 (.loop [2, 4, 6, 7, 8] k_ref11_Raise_L0)))
 (.seq (.reg [] [⟨none, .ld 59 (.t 6)⟩, ⟨none, .mv 60 (.t 7)⟩, ⟨none, .st (.t 4) (.t 59)⟩, ⟨none, .mv 5 (.t 60)⟩] [6, 7, 59, 60])
 .ret))))), [.cell 4, .t 5]⟩
/- foliot/foliotref11.SameFlag -/
def k_ref11_SameFlag : KF := ⟨(.seq (.reg [] [⟨none, .box 2 (.t 0)⟩, ⟨none, .box 3 (.t 1)⟩, ⟨none, .mv 4 (.c (.bool false))⟩] [0, 1, 4])
 (.seq (.reg [] [⟨none, .fa 5 (.t 2) 0⟩, ⟨none, .ld 6 (.t 5)⟩, ⟨none, .fa 7 (.t 3) 0⟩, ⟨none, .ld 8 (.t 7)⟩, ⟨none, .bin 9 .eql (.t 6) (.t 8)⟩, ⟨none, .mv 10 (.t 9)⟩, ⟨some (10, true), .fa 11 (.t 2) 1⟩, ⟨some (10, true), .ld 12 (.t 11)⟩, ⟨some (10, true), .fa 13 (.t 3) 1⟩, ⟨some (10, true), .ld 14 (.t 13)⟩, ⟨some (10, true), .dat 15 f_ref11_SameWaiters [(.t 12), (.t 14)]⟩, ⟨none, .pick 16 (.t 10) (.t 15) (.c (.bool false))⟩, ⟨none, .mv 4 (.t 16)⟩] [2, 3, 5, 6, 7, 8, 9, 10, 11, 12, 13, 14, 15, 16])
 .ret)), [.t 4]⟩
/- foliot/foliotref11.SameWaiters -/
def k_ref11_SameWaiters_L0b : K := (.seq (.seq (.reg [] [⟨none, .mv 11 (.t 5)⟩, ⟨none, .mv 12 (.t 0)⟩, ⟨none, .len 13 (.t 12)⟩, ⟨none, .bin 14 .lss (.t 11) (.t 13)⟩] [11, 12, 13])
 (.cond (.t 14) .skip
 (.ext 0)))
 (.seq (.blk 1 (.seq (.reg [] [⟨none, .mv 17 (.t 0)⟩, ⟨none, .mv 18 (.t 5)⟩, ⟨none, .ia 19 (.t 17) (.t 18)⟩, ⟨none, .ld 20 (.t 19)⟩, ⟨none, .mv 21 (.t 1)⟩, ⟨none, .mv 22 (.t 5)⟩, ⟨none, .ia 23 (.t 21) (.t 22)⟩, ⟨none, .ld 24 (.t 23)⟩, ⟨none, .bin 25 .neq (.t 20) (.t 24)⟩] [17, 18, 19, 20, 21, 22, 23, 24])
 (.cond (.t 25) (.seq (.reg [] [⟨none, .mv 4 (.c (.bool false))⟩] [])
 .ret)
 .skip)))
 (.reg [] [⟨none, .mv 15 (.t 5)⟩, ⟨none, .bin 16 .add (.t 15) (.c (.int .i64 1))⟩, ⟨none, .mv 5 (.t 16)⟩] [15, 16])))
def k_ref11_SameWaiters_L0 : K := k_ref11_SameWaiters_L0b
def k_ref11_SameWaiters : KF := ⟨(.seq (.reg [] [⟨none, .mv 4 (.c (.bool false))⟩] [4])
 (.seq (.seq (.reg [] [⟨none, .mv 6 (.t 0)⟩, ⟨none, .len 7 (.t 6)⟩, ⟨none, .mv 8 (.t 1)⟩, ⟨none, .len 9 (.t 8)⟩, ⟨none, .bin 10 .neq (.t 7) (.t 9)⟩] [6, 7, 8, 9])
 (.cond (.t 10) (.seq (.reg [] [⟨none, .mv 4 (.c (.bool false))⟩] [])
 .ret)
 .skip))
 (.seq (.seq (.reg [] [⟨none, .mv 5 (.c (.int .i64 0))⟩] [])
 (.blk 0 (.loop [0, 1, 5] k_ref11_SameWaiters_L0)))
 (.seq (.reg [] [⟨none, .mv 4 (.c (.bool true))⟩] [])
 .ret)))), [.t 4]⟩
/- foliot/foliotref11.Await -/
def k_ref11_Await_L0b : K := (.seq (.seq (.reg [] [⟨none, .mv 39 (.t 11)⟩, ⟨none, .fa 40 (.t 3) 1⟩, ⟨none, .ld 41 (.t 40)⟩, ⟨none, .len 42 (.t 41)⟩, ⟨none, .bin 43 .lss (.t 39) (.t 42)⟩] [39, 40, 41, 42])
 (.cond (.t 43) .skip
 (.ext 0)))
 (.seq (.blk 1 (.seq (.reg [] [⟨none, .fa 46 (.t 3) 1⟩, ⟨none, .ld 47 (.t 46)⟩, ⟨none, .mv 48 (.t 11)⟩, ⟨none, .ia 49 (.t 47) (.t 48)⟩, ⟨none, .fa 50 (.t 49) 0⟩, ⟨none, .ld 51 (.t 50)⟩, ⟨none, .mv 52 (.t 1)⟩, ⟨none, .bin 53 .eql (.t 51) (.t 52)⟩] [46, 47, 48, 49, 50, 51, 52])
 (.cond (.t 53) (.seq (.reg [] [⟨none, .ld 54 (.t 9)⟩, ⟨none, .st (.t 6) (.t 54)⟩, ⟨none, .mv 7 (.c (.int .u32 0))⟩, ⟨none, .mv 8 (.c (.bool false))⟩] [9, 54])
 .ret)
 .skip)))
 (.reg [] [⟨none, .mv 44 (.t 11)⟩, ⟨none, .bin 45 .add (.t 44) (.c (.int .i64 1))⟩, ⟨none, .mv 11 (.t 45)⟩] [44, 45])))
def k_ref11_Await_L0 : K := k_ref11_Await_L0b
def k_ref11_Await : KF := ⟨(.seq (.reg [] [⟨none, .box 3 (.t 0)⟩, ⟨none, .alc 6 (.d (.agg [(.int .u32 0), (.sl true [])]))⟩, ⟨none, .mv 7 (.c (.int .u32 0))⟩, ⟨none, .mv 8 (.c (.bool false))⟩] [0, 7, 8])
 (.seq (.reg [(1, 2), (2, 4), (1, 5), (1, 7), (2, 7), (4, 7), (5, 7)] [⟨none, .fa 12 (.t 3) 0⟩, ⟨none, .ld 13 (.t 12)⟩, ⟨none, .bsl 14 []⟩, ⟨none, .fa 15 (.t 3) 1⟩, ⟨none, .ld 16 (.t 15)⟩, ⟨none, .app 17 (.t 14) (.t 16)⟩, ⟨none, .bld 18 [(.t 13), (.t 17)]⟩, ⟨none, .alc 9 (.d (.agg [(.int .u32 0), (.sl true [])]))⟩, ⟨none, .st (.t 9) (.t 18)⟩] [12, 13, 14, 15, 16, 17, 18])
 (.seq (.seq (.reg [] [⟨none, .mv 19 (.t 1)⟩, ⟨none, .bin 20 .lss (.t 19) (.c (.int .i64 1))⟩, ⟨none, .mv 21 (.t 20)⟩, ⟨some (21, false), .mv 22 (.t 2)⟩, ⟨some (21, false), .bin 23 .eql (.t 22) (.c (.int .u32 0))⟩, ⟨none, .pick 24 (.t 21) (.c (.bool true)) (.t 23)⟩] [19, 20, 21, 22, 23])
 (.cond (.t 24) (.seq (.reg [] [⟨none, .ld 25 (.t 9)⟩, ⟨none, .st (.t 6) (.t 25)⟩, ⟨none, .mv 7 (.c (.int .u32 0))⟩, ⟨none, .mv 8 (.c (.bool false))⟩] [9, 25])
 .ret)
 .skip))
 (.seq (.reg [] [⟨none, .fa 26 (.t 3) 0⟩, ⟨none, .ld 27 (.t 26)⟩, ⟨none, .mv 28 (.t 2)⟩, ⟨none, .bin 29 .and (.t 27) (.t 28)⟩, ⟨none, .mv 10 (.t 29)⟩] [26, 27, 28, 29])
 (.seq (.seq (.reg [] [⟨none, .mv 30 (.t 10)⟩, ⟨none, .bin 31 .neq (.t 30) (.c (.int .u32 0))⟩] [30])
 (.cond (.t 31) (.seq (.reg [] [⟨none, .fa 32 (.t 9) 0⟩, ⟨none, .ld 33 (.t 32)⟩, ⟨none, .mv 34 (.t 10)⟩, ⟨none, .bin 35 .sub (.t 33) (.t 34)⟩, ⟨none, .fa 36 (.t 9) 0⟩, ⟨none, .st (.t 36) (.t 35)⟩] [32, 33, 34, 35, 36])
 (.seq (.reg [] [⟨none, .ld 37 (.t 9)⟩, ⟨none, .mv 38 (.t 10)⟩, ⟨none, .st (.t 6) (.t 37)⟩, ⟨none, .mv 7 (.t 38)⟩, ⟨none, .mv 8 (.c (.bool true))⟩] [9, 10, 37, 38])
 .ret))
 .skip))
 (.seq (.seq (.reg [] [⟨none, .mv 11 (.c (.int .i64 0))⟩] [])
 (.blk 0 (.loop [1, 2, 3, 6, 9, 11] k_ref11_Await_L0)))
 (.seq (.seq (.reg [] [⟨none, .fa 55 (.t 3) 1⟩, ⟨none, .ld 56 (.t 55)⟩, ⟨none, .len 57 (.t 56)⟩, ⟨none, .bin 58 .geq (.t 57) (.c (.int .i64 4))⟩] [3, 55, 56, 57])
 (.cond (.t 58) (.seq (.reg [] [⟨none, .ld 59 (.t 9)⟩, ⟨none, .st (.t 6) (.t 59)⟩, ⟨none, .mv 7 (.c (.int .u32 0))⟩, ⟨none, .mv 8 (.c (.bool false))⟩] [9, 59])
 .ret)
 .skip))
 (.seq (.reg [] [⟨none, .fa 60 (.t 9) 1⟩, ⟨none, .ld 61 (.t 60)⟩, ⟨none, .mv 62 (.t 1)⟩, ⟨none, .mv 63 (.t 2)⟩, ⟨none, .bld 64 [(.t 62), (.t 63)]⟩, ⟨none, .bsl 65 [(.t 64)]⟩, ⟨none, .app 66 (.t 61) (.t 65)⟩, ⟨none, .fa 67 (.t 9) 1⟩, ⟨none, .st (.t 67) (.t 66)⟩] [1, 2, 60, 61, 62, 63, 64, 65, 66, 67])
 (.seq (.reg [] [⟨none, .ld 68 (.t 9)⟩, ⟨none, .st (.t 6) (.t 68)⟩, ⟨none, .mv 7 (.c (.int .u32 0))⟩, ⟨none, .mv 8 (.c (.bool true))⟩] [9, 68])
 .ret))))))))), [.cell 6, .t 7, .t 8]⟩
/- foliot/foliotref11.Clients -/
def k_ref11_Clients_L0b : K := (.seq (.seq (.reg [] [⟨none, .mv 5 (.t 4)⟩, ⟨none, .fa 6 (.t 1) 1⟩, ⟨none, .ld 7 (.t 6)⟩, ⟨none, .len 8 (.t 7)⟩, ⟨none, .bin 9 .lss (.t 5) (.t 8)⟩] [5, 6, 7, 8])
 (.cond (.t 9) .skip
 (.ext 0)))
 (.seq (.blk 1 (.reg [] [⟨none, .mv 12 (.t 3)⟩, ⟨none, .fa 13 (.t 1) 1⟩, ⟨none, .ld 14 (.t 13)⟩, ⟨none, .mv 15 (.t 4)⟩, ⟨none, .ia 16 (.t 14) (.t 15)⟩, ⟨none, .fa 17 (.t 16) 0⟩, ⟨none, .ld 18 (.t 17)⟩, ⟨none, .bsl 19 [(.t 18)]⟩, ⟨none, .app 20 (.t 12) (.t 19)⟩, ⟨none, .mv 3 (.t 20)⟩] [12, 13, 14, 15, 16, 17, 18, 19, 20]))
 (.reg [] [⟨none, .mv 10 (.t 4)⟩, ⟨none, .bin 11 .add (.t 10) (.c (.int .i64 1))⟩, ⟨none, .mv 4 (.t 11)⟩] [10, 11])))
def k_ref11_Clients_L0 : K := k_ref11_Clients_L0b
def k_ref11_Clients : KF := ⟨(.seq (.reg [] [⟨none, .box 1 (.t 0)⟩, ⟨none, .mv 2 (.c (.d (.sl true [])))⟩] [0, 2])
 (.seq (.reg [] [⟨none, .mv 3 (.c (.d (.sl true [])))⟩] [])
 (.seq (.seq (.reg [] [⟨none, .mv 4 (.c (.int .i64 0))⟩] [])
 (.blk 0 (.loop [1, 3, 4] k_ref11_Clients_L0)))
 (.seq (.reg [] [⟨none, .mv 21 (.t 3)⟩, ⟨none, .mv 2 (.t 21)⟩] [3, 21])
 .ret)))), [.t 2]⟩
/- foliot/foliotref11.SameInts -/
def k_ref11_SameInts_L0b : K := (.seq (.seq (.reg [] [⟨none, .mv 11 (.t 5)⟩, ⟨none, .mv 12 (.t 0)⟩, ⟨none, .len 13 (.t 12)⟩, ⟨none, .bin 14 .lss (.t 11) (.t 13)⟩] [11, 12, 13])
 (.cond (.t 14) .skip
 (.ext 0)))
 (.seq (.blk 1 (.seq (.reg [] [⟨none, .mv 17 (.t 0)⟩, ⟨none, .mv 18 (.t 5)⟩, ⟨none, .ia 19 (.t 17) (.t 18)⟩, ⟨none, .ld 20 (.t 19)⟩, ⟨none, .mv 21 (.t 1)⟩, ⟨none, .mv 22 (.t 5)⟩, ⟨none, .ia 23 (.t 21) (.t 22)⟩, ⟨none, .ld 24 (.t 23)⟩, ⟨none, .bin 25 .neq (.t 20) (.t 24)⟩] [17, 18, 19, 20, 21, 22, 23, 24])
 (.cond (.t 25) (.seq (.reg [] [⟨none, .mv 4 (.c (.bool false))⟩] [])
 .ret)
 .skip)))
 (.reg [] [⟨none, .mv 15 (.t 5)⟩, ⟨none, .bin 16 .add (.t 15) (.c (.int .i64 1))⟩, ⟨none, .mv 5 (.t 16)⟩] [15, 16])))
def k_ref11_SameInts_L0 : K := k_ref11_SameInts_L0b
def k_ref11_SameInts : KF := ⟨(.seq (.reg [] [⟨none, .mv 4 (.c (.bool false))⟩] [4])
 (.seq (.seq (.reg [] [⟨none, .mv 6 (.t 0)⟩, ⟨none, .len 7 (.t 6)⟩, ⟨none, .mv 8 (.t 1)⟩, ⟨none, .len 9 (.t 8)⟩, ⟨none, .bin 10 .neq (.t 7) (.t 9)⟩] [6, 7, 8, 9])
 (.cond (.t 10) (.seq (.reg [] [⟨none, .mv 4 (.c (.bool false))⟩] [])
 .ret)
 .skip))
 (.seq (.seq (.reg [] [⟨none, .mv 5 (.c (.int .i64 0))⟩] [])
 (.blk 0 (.loop [0, 1, 5] k_ref11_SameInts_L0)))
 (.seq (.reg [] [⟨none, .mv 4 (.c (.bool true))⟩] [])
 .ret)))), [.t 4]⟩
/- foliot/foliotlaw13.FlagOnce -/
def k_law13_FlagOnce_L1b : K := (.seq (.seq (.reg [] [⟨none, .mv 60 (.t 11)⟩, ⟨none, .mv 61 (.t 9)⟩, ⟨none, .len 62 (.t 61)⟩, ⟨none, .bin 63 .lss (.t 60) (.t 62)⟩] [60, 61, 62])
 (.cond (.t 63) .skip
 (.ext 2)))
 (.seq (.blk 3 (.seq (.reg [] [⟨none, .mv 66 (.t 9)⟩, ⟨none, .mv 67 (.t 11)⟩, ⟨none, .ia 68 (.t 66) (.t 67)⟩, ⟨none, .ld 69 (.t 68)⟩, ⟨none, .alc 12 (.d (.agg [(.int .i64 0), (.int .u32 0)]))⟩, ⟨none, .st (.t 12) (.t 69)⟩] [66, 67, 68, 69])
 (.seq (.seq (.reg [] [⟨none, .fa 70 (.t 12) 0⟩, ⟨none, .ld 71 (.t 70)⟩, ⟨none, .bin 72 .lss (.t 71) (.c (.int .i64 1))⟩, ⟨none, .mv 73 (.t 72)⟩, ⟨some (73, false), .fa 74 (.t 12) 0⟩, ⟨some (73, false), .ld 75 (.t 74)⟩, ⟨some (73, false), .bin 76 .gtr (.t 75) (.c (.int .i64 6))⟩, ⟨none, .pick 77 (.t 73) (.c (.bool true)) (.t 76)⟩, ⟨none, .mv 78 (.t 77)⟩, ⟨some (78, false), .fa 79 (.t 12) 1⟩, ⟨some (78, false), .ld 80 (.t 79)⟩, ⟨some (78, false), .bin 81 .eql (.t 80) (.c (.int .u32 0))⟩, ⟨none, .pick 82 (.t 78) (.c (.bool true)) (.t 81)⟩, ⟨none, .mv 83 (.t 82)⟩, ⟨some (83, false), .fa 84 (.t 12) 1⟩, ⟨some (83, false), .ld 85 (.t 84)⟩, ⟨some (83, false), .mv 86 (.t 10)⟩, ⟨some (83, false), .bin 87 .and (.t 85) (.t 86)⟩, ⟨some (83, false), .fa 88 (.t 12) 1⟩, ⟨some (83, false), .ld 89 (.t 88)⟩, ⟨some (83, false), .bin 90 .neq (.t 87) (.t 89)⟩, ⟨none, .pick 91 (.t 83) (.c (.bool true)) (.t 90)⟩, ⟨none, .mv 92 (.t 91)⟩, ⟨some (92, false), .fa 93 (.t 12) 0⟩, ⟨some (92, false), .ld 94 (.t 93)⟩, ⟨some (92, false), .ia 95 (.t 4) (.t 94)⟩, ⟨some (92, false), .ld 96 (.t 95)⟩, ⟨some (92, false), .fa 97 (.t 12) 1⟩, ⟨some (92, false), .ld 98 (.t 97)⟩, ⟨some (92, false), .bin 99 .and (.t 96) (.t 98)⟩, ⟨some (92, false), .fa 100 (.t 12) 1⟩, ⟨some (92, false), .ld 101 (.t 100)⟩, ⟨some (92, false), .bin 102 .neq (.t 99) (.t 101)⟩, ⟨none, .pick 103 (.t 92) (.c (.bool true)) (.t 102)⟩] [70, 71, 72, 73, 74, 75, 76, 77, 78, 79, 80, 81, 82, 83, 84, 85, 86, 87, 88, 89, 90, 91, 92, 93, 94, 95, 96, 97, 98, 99, 100, 101, 102])
 (.cond (.t 103) (.seq (.reg [] [⟨none, .mv 2 (.c (.bool false))⟩] [])
 .ret)
 .skip))
 (.reg [] [⟨none, .fa 104 (.t 12) 0⟩, ⟨none, .ld 105 (.t 104)⟩, ⟨none, .mv 106 (.t 10)⟩, ⟨none, .fa 107 (.t 12) 1⟩, ⟨none, .ld 108 (.t 107)⟩, ⟨none, .bin 109 .andNot (.t 106) (.t 108)⟩, ⟨none, .mv 10 (.t 109)⟩, ⟨none, .ia 110 (.t 4) (.t 105)⟩, ⟨none, .st (.t 110) (.c (.int .u32 0))⟩] [12, 104, 105, 106, 107, 108, 109, 110]))))
 (.reg [] [⟨none, .mv 64 (.t 11)⟩, ⟨none, .bin 65 .add (.t 64) (.c (.int .i64 1))⟩, ⟨none, .mv 11 (.t 65)⟩] [64, 65])))
def k_law13_FlagOnce_L1 : K := k_law13_FlagOnce_L1b
def k_law13_FlagOnce_L2b : K := (.seq (.seq (.reg [] [⟨none, .mv 164 (.t 16)⟩, ⟨none, .bin 165 .lss (.t 164) (.c (.int .i64 7))⟩] [164])
 (.cond (.t 165) .skip
 (.ext 4)))
 (.seq (.blk 5 (.seq (.reg [] [⟨none, .mv 168 (.t 16)⟩, ⟨none, .ia 169 (.t 4) (.t 168)⟩, ⟨none, .ld 170 (.t 169)⟩, ⟨none, .fa 171 (.t 3) 0⟩, ⟨none, .ld 172 (.t 171)⟩, ⟨none, .bin 173 .and (.t 170) (.t 172)⟩, ⟨none, .bin 174 .neq (.t 173) (.c (.int .u32 0))⟩] [168, 169, 170, 171, 172, 173])
 (.cond (.t 174) (.seq (.reg [] [⟨none, .mv 2 (.c (.bool false))⟩] [])
 .ret)
 .skip)))
 (.reg [] [⟨none, .mv 166 (.t 16)⟩, ⟨none, .bin 167 .add (.t 166) (.c (.int .i64 1))⟩, ⟨none, .mv 16 (.t 167)⟩] [166, 167])))
def k_law13_FlagOnce_L2 : K := k_law13_FlagOnce_L2b
def k_law13_FlagOnce_L0b : K := (.seq (.seq (.reg [] [⟨none, .mv 23 (.t 5)⟩, ⟨none, .mv 24 (.t 0)⟩, ⟨none, .len 25 (.t 24)⟩, ⟨none, .bin 26 .lss (.t 23) (.t 25)⟩] [23, 24, 25])
 (.cond (.t 26) .skip
 (.ext 0)))
 (.seq (.blk 1 (.seq (.reg [] [⟨none, .mv 29 (.t 0)⟩, ⟨none, .mv 30 (.t 5)⟩, ⟨none, .ia 31 (.t 29) (.t 30)⟩, ⟨none, .ia 32 (.t 31) (.c (.int .i64 1))⟩, ⟨none, .ld 33 (.t 32)⟩, ⟨none, .cv 34 .u32 (.t 33)⟩, ⟨none, .mv 35 (.t 0)⟩, ⟨none, .mv 36 (.t 5)⟩, ⟨none, .ia 37 (.t 35) (.t 36)⟩, ⟨none, .ia 38 (.t 37) (.c (.int .i64 2))⟩, ⟨none, .ld 39 (.t 38)⟩, ⟨none, .bin 40 .rem (.t 39) (.c (.int .u8 6))⟩, ⟨none, .cv 41 .i64 (.t 40)⟩, ⟨none, .bin 42 .add (.c (.int .i64 1)) (.t 41)⟩, ⟨none, .mv 6 (.t 34)⟩, ⟨none, .mv 7 (.t 42)⟩] [29, 30, 31, 32, 33, 34, 35, 36, 37, 38, 39, 40, 41, 42])
 (.seq (.seq (.reg [] [⟨none, .mv 43 (.t 0)⟩, ⟨none, .mv 44 (.t 5)⟩, ⟨none, .ia 45 (.t 43) (.t 44)⟩, ⟨none, .ia 46 (.t 45) (.c (.int .i64 0))⟩, ⟨none, .ld 47 (.t 46)⟩, ⟨none, .bin 48 .rem (.t 47) (.c (.int .u8 2))⟩, ⟨none, .bin 49 .eql (.t 48) (.c (.int .u8 0))⟩] [43, 44, 45, 46, 47, 48])
 (.cond (.t 49) (.seq (.reg [] [⟨none, .ld 51 (.t 3)⟩, ⟨none, .mv 52 (.t 6)⟩, ⟨none, .dat 53 f_flag_Raise [(.t 51), (.t 52)]⟩, ⟨none, .mv 50 (.t 53)⟩, ⟨none, .ex 54 (.t 50) 0⟩, ⟨none, .ex 55 (.t 50) 1⟩, ⟨none, .alc 8 (.d (.agg [(.int .u32 0), (.sl true [])]))⟩, ⟨none, .st (.t 8) (.t 54)⟩, ⟨none, .mv 9 (.t 55)⟩] [50, 51, 52, 53, 54, 55])
 (.seq (.reg [] [⟨none, .fa 56 (.t 3) 0⟩, ⟨none, .ld 57 (.t 56)⟩, ⟨none, .mv 58 (.t 6)⟩, ⟨none, .bin 59 .or (.t 57) (.t 58)⟩, ⟨none, .mv 10 (.t 59)⟩] [6, 56, 57, 58, 59])
 (.seq (.seq (.reg [] [⟨none, .mv 11 (.c (.int .i64 0))⟩] [])
 (.blk 2 (.loop [0, 3, 4, 5, 8, 9, 10, 11] k_law13_FlagOnce_L1)))
 (.seq (.seq (.reg [] [⟨none, .fa 111 (.t 8) 0⟩, ⟨none, .ld 112 (.t 111)⟩, ⟨none, .mv 113 (.t 10)⟩, ⟨none, .bin 114 .neq (.t 112) (.t 113)⟩] [10, 111, 112, 113])
 (.cond (.t 114) (.seq (.reg [] [⟨none, .mv 2 (.c (.bool false))⟩] [])
 .ret)
 .skip))
 (.reg [] [⟨none, .ld 115 (.t 8)⟩, ⟨none, .st (.t 3) (.t 115)⟩] [8, 115])))))
 (.seq (.reg [] [⟨none, .ld 117 (.t 3)⟩, ⟨none, .mv 118 (.t 7)⟩, ⟨none, .mv 119 (.t 6)⟩, ⟨none, .dat 120 f_flag_Await [(.t 117), (.t 118), (.t 119)]⟩, ⟨none, .mv 116 (.t 120)⟩, ⟨none, .ex 121 (.t 116) 0⟩, ⟨none, .ex 122 (.t 116) 1⟩, ⟨none, .ex 123 (.t 116) 2⟩, ⟨none, .alc 13 (.d (.agg [(.int .u32 0), (.sl true [])]))⟩, ⟨none, .st (.t 13) (.t 121)⟩, ⟨none, .mv 14 (.t 122)⟩, ⟨none, .mv 15 (.t 123)⟩] [116, 117, 118, 119, 120, 121, 122, 123])
 (.seq (.seq (.reg [] [⟨none, .mv 124 (.t 15)⟩, ⟨none, .mv 125 (.t 124)⟩, ⟨some (125, true), .mv 126 (.t 14)⟩, ⟨some (125, true), .bin 127 .eql (.t 126) (.c (.int .u32 0))⟩, ⟨none, .pick 128 (.t 125) (.t 127) (.c (.bool false))⟩] [124, 125, 126, 127])
 (.cond (.t 128) (.seq (.seq (.reg [] [⟨none, .mv 129 (.t 7)⟩, ⟨none, .ia 130 (.t 4) (.t 129)⟩, ⟨none, .ld 131 (.t 130)⟩, ⟨none, .bin 132 .neq (.t 131) (.c (.int .u32 0))⟩] [129, 130, 131])
 (.cond (.t 132) (.seq (.reg [] [⟨none, .mv 2 (.c (.bool false))⟩] [])
 .ret)
 .skip))
 (.reg [] [⟨none, .mv 133 (.t 7)⟩, ⟨none, .mv 134 (.t 6)⟩, ⟨none, .ia 135 (.t 4) (.t 133)⟩, ⟨none, .st (.t 135) (.t 134)⟩] [7, 133, 134, 135]))
 .skip))
 (.seq (.seq (.reg [] [⟨none, .mv 136 (.t 15)⟩, ⟨none, .mv 137 (.t 136)⟩, ⟨some (137, true), .mv 138 (.t 14)⟩, ⟨some (137, true), .fa 139 (.t 3) 0⟩, ⟨some (137, true), .ld 140 (.t 139)⟩, ⟨some (137, true), .mv 141 (.t 6)⟩, ⟨some (137, true), .bin 142 .and (.t 140) (.t 141)⟩, ⟨some (137, true), .bin 143 .neq (.t 138) (.t 142)⟩, ⟨some (137, true), .mv 144 (.t 143)⟩, ⟨some (144, false), .fa 145 (.t 13) 0⟩, ⟨some (144, false), .ld 146 (.t 145)⟩, ⟨some (144, false), .fa 147 (.t 3) 0⟩, ⟨some (144, false), .ld 148 (.t 147)⟩, ⟨some (144, false), .mv 149 (.t 14)⟩, ⟨some (144, false), .bin 150 .andNot (.t 148) (.t 149)⟩, ⟨some (144, false), .bin 151 .neq (.t 146) (.t 150)⟩, ⟨some (137, true), .pick 152 (.t 144) (.c (.bool true)) (.t 151)⟩, ⟨none, .pick 153 (.t 137) (.t 152) (.c (.bool false))⟩, ⟨none, .mv 154 (.t 153)⟩, ⟨some (154, false), .mv 155 (.t 15)⟩, ⟨some (154, false), .un 156 .not (.t 155)⟩, ⟨some (154, false), .mv 157 (.t 156)⟩, ⟨some (157, true), .mv 158 (.t 14)⟩, ⟨some (157, true), .bin 159 .neq (.t 158) (.c (.int .u32 0))⟩, ⟨some (154, false), .pick 160 (.t 157) (.t 159) (.c (.bool false))⟩, ⟨none, .pick 161 (.t 154) (.c (.bool true)) (.t 160)⟩] [6, 14, 136, 137, 138, 139, 140, 141, 142, 143, 144, 145, 146, 147, 148, 149, 150, 151, 152, 153, 154, 155, 156, 157, 158, 159, 160])
 (.cond (.t 161) (.seq (.reg [] [⟨none, .mv 2 (.c (.bool false))⟩] [])
 .ret)
 .skip))
 (.seq (.reg [] [⟨none, .mv 162 (.t 15)⟩] [15])
 (.cond (.t 162) (.reg [] [⟨none, .ld 163 (.t 13)⟩, ⟨none, .st (.t 3) (.t 163)⟩] [13, 163])
 .skip)))))))
 (.seq (.reg [] [⟨none, .mv 16 (.c (.int .i64 1))⟩] [])
 (.blk 4 (.loop [0, 3, 4, 5, 16] k_law13_FlagOnce_L2))))))
 (.reg [] [⟨none, .mv 27 (.t 5)⟩, ⟨none, .bin 28 .add (.t 27) (.c (.int .i64 1))⟩, ⟨none, .mv 5 (.t 28)⟩] [27, 28])))
def k_law13_FlagOnce_L0 : K := k_law13_FlagOnce_L0b
def k_law13_FlagOnce : KF := ⟨(.seq (.reg [] [⟨none, .mv 2 (.c (.bool false))⟩] [2])
 (.seq (.seq (.reg [] [⟨none, .dat 17 f_law13_begun []⟩, ⟨none, .un 18 .not (.t 17)⟩] [17])
 (.cond (.t 18) (.seq (.reg [] [⟨none, .mv 2 (.c (.bool false))⟩] [])
 .ret)
 .skip))
 (.seq (.seq (.reg [] [⟨none, .mv 19 (.t 0)⟩, ⟨none, .len 20 (.t 19)⟩, ⟨none, .bin 21 .gtr (.t 20) (.c (.int .i64 40))⟩] [19, 20])
 (.cond (.t 21) (.seq (.reg [] [⟨none, .mv 2 (.c (.bool true))⟩] [])
 .ret)
 .skip))
 (.seq (.reg [] [⟨none, .bld 22 [(.c (.int .u32 0)), (.c (.d (.sl true [])))]⟩, ⟨none, .alc 3 (.d (.agg [(.int .u32 0), (.sl true [])]))⟩, ⟨none, .st (.t 3) (.t 22)⟩] [22])
 (.seq (.reg [] [⟨none, .alc 4 (.d (.agg [(.int .u32 0), (.int .u32 0), (.int .u32 0), (.int .u32 0), (.int .u32 0), (.int .u32 0), (.int .u32 0)]))⟩] [])
 (.seq (.seq (.reg [] [⟨none, .mv 5 (.c (.int .i64 0))⟩] [])
 (.blk 0 (.loop [0, 3, 4, 5] k_law13_FlagOnce_L0)))
 (.seq (.reg [] [⟨none, .mv 2 (.c (.bool true))⟩] [])
 .ret))))))), [.t 2]⟩
/- foliot/foliotlaw13.FlagForms -/
def k_law13_FlagForms_L0b : K := (.seq (.seq (.reg [] [⟨none, .mv 30 (.t 3)⟩, ⟨none, .bin 31 .lss (.t 30) (.c (.int .i64 4))⟩] [30])
 (.cond (.t 31) .skip
 (.ext 0)))
 (.seq (.blk 1 (.seq (.reg [(0, 12), (5, 12), (6, 12), (7, 12)] [⟨none, .ld 35 (.t 1)⟩, ⟨none, .mv 36 (.t 3)⟩, ⟨none, .bin 37 .add (.t 36) (.c (.int .i64 1))⟩, ⟨none, .mv 38 (.t 2)⟩, ⟨none, .mv 39 (.t 3)⟩, ⟨none, .ia 40 (.t 38) (.t 39)⟩, ⟨none, .ld 41 (.t 40)⟩, ⟨none, .dat 42 f_flag_Await [(.t 35), (.t 37), (.t 41)]⟩, ⟨none, .mv 34 (.t 42)⟩, ⟨none, .ex 43 (.t 34) 0⟩, ⟨none, .ex 44 (.t 34) 1⟩, ⟨none, .ex 45 (.t 34) 2⟩, ⟨none, .alc 4 (.d (.agg [(.int .u32 0), (.sl true [])]))⟩, ⟨none, .st (.t 4) (.t 43)⟩, ⟨none, .mv 5 (.t 44)⟩, ⟨none, .mv 6 (.t 45)⟩] [34, 35, 36, 37, 38, 39, 40, 41, 42, 43, 44, 45])
 (.seq (.seq (.reg [] [⟨none, .mv 46 (.t 6)⟩, ⟨none, .un 47 .not (.t 46)⟩, ⟨none, .mv 48 (.t 47)⟩, ⟨some (48, false), .mv 49 (.t 5)⟩, ⟨some (48, false), .bin 50 .neq (.t 49) (.c (.int .u32 0))⟩, ⟨none, .pick 51 (.t 48) (.c (.bool true)) (.t 50)⟩] [5, 6, 46, 47, 48, 49, 50])
 (.cond (.t 51) (.seq (.reg [] [⟨none, .mv 0 (.c (.bool false))⟩] [])
 .ret)
 .skip))
 (.reg [] [⟨none, .ld 52 (.t 4)⟩, ⟨none, .st (.t 1) (.t 52)⟩] [4, 52]))))
 (.reg [] [⟨none, .mv 32 (.t 3)⟩, ⟨none, .bin 33 .add (.t 32) (.c (.int .i64 1))⟩, ⟨none, .mv 3 (.t 33)⟩] [32, 33])))
def k_law13_FlagForms_L0 : K := k_law13_FlagForms_L0b
def k_law13_FlagForms : KF := ⟨(.seq (.reg [] [⟨none, .mv 0 (.c (.bool false))⟩] [0])
 (.seq (.seq (.reg [] [⟨none, .dat 26 f_law13_begun []⟩, ⟨none, .un 27 .not (.t 26)⟩] [26])
 (.cond (.t 27) (.seq (.reg [] [⟨none, .mv 0 (.c (.bool false))⟩] [])
 .ret)
 .skip))
 (.seq (.reg [] [⟨none, .bld 28 [(.c (.int .u32 0)), (.c (.d (.sl true [])))]⟩, ⟨none, .alc 1 (.d (.agg [(.int .u32 0), (.sl true [])]))⟩, ⟨none, .st (.t 1) (.t 28)⟩] [28])
 (.seq (.reg [] [⟨none, .bsl 29 [(.c (.int .u32 1)), (.c (.int .u32 3)), (.c (.int .u32 6)), (.c (.int .u32 8))]⟩, ⟨none, .mv 2 (.t 29)⟩] [29])
 (.seq (.seq (.reg [] [⟨none, .mv 3 (.c (.int .i64 0))⟩] [])
 (.blk 0 (.loop [1, 2, 3] k_law13_FlagForms_L0)))
 (.seq (.reg [] [⟨none, .ld 54 (.t 1)⟩, ⟨none, .dat 55 f_flag_Await [(.t 54), (.c (.int .i64 9)), (.c (.int .u32 1))]⟩, ⟨none, .mv 53 (.t 55)⟩, ⟨none, .ex 56 (.t 53) 0⟩, ⟨none, .ex 57 (.t 53) 1⟩, ⟨none, .ex 58 (.t 53) 2⟩, ⟨none, .alc 7 (.d (.agg [(.int .u32 0), (.sl true [])]))⟩, ⟨none, .st (.t 7) (.t 56)⟩, ⟨none, .mv 8 (.t 57)⟩, ⟨none, .mv 9 (.t 58)⟩] [7, 8, 53, 54, 55, 56, 57, 58])
 (.seq (.reg [] [⟨none, .ld 60 (.t 1)⟩, ⟨none, .dat 61 f_flag_Await [(.t 60), (.c (.int .i64 2)), (.c (.int .u32 1))]⟩, ⟨none, .mv 59 (.t 61)⟩, ⟨none, .ex 62 (.t 59) 0⟩, ⟨none, .ex 63 (.t 59) 1⟩, ⟨none, .ex 64 (.t 59) 2⟩, ⟨none, .alc 10 (.d (.agg [(.int .u32 0), (.sl true [])]))⟩, ⟨none, .st (.t 10) (.t 62)⟩, ⟨none, .mv 11 (.t 63)⟩, ⟨none, .mv 12 (.t 64)⟩] [10, 11, 59, 60, 61, 62, 63, 64])
 (.seq (.reg [] [⟨none, .ld 66 (.t 1)⟩, ⟨none, .dat 67 f_flag_Await [(.t 66), (.c (.int .i64 0)), (.c (.int .u32 1))]⟩, ⟨none, .mv 65 (.t 67)⟩, ⟨none, .ex 68 (.t 65) 0⟩, ⟨none, .ex 69 (.t 65) 1⟩, ⟨none, .ex 70 (.t 65) 2⟩, ⟨none, .alc 13 (.d (.agg [(.int .u32 0), (.sl true [])]))⟩, ⟨none, .st (.t 13) (.t 68)⟩, ⟨none, .mv 14 (.t 69)⟩, ⟨none, .mv 15 (.t 70)⟩] [13, 14, 65, 66, 67, 68, 69, 70])
 (.seq (.reg [] [⟨none, .bld 72 [(.c (.int .u32 1)), (.c (.d (.sl true [])))]⟩, ⟨none, .dat 73 f_flag_Await [(.t 72), (.c (.int .i64 1)), (.c (.int .u32 0))]⟩, ⟨none, .mv 71 (.t 73)⟩, ⟨none, .ex 74 (.t 71) 0⟩, ⟨none, .ex 75 (.t 71) 1⟩, ⟨none, .ex 76 (.t 71) 2⟩, ⟨none, .alc 16 (.d (.agg [(.int .u32 0), (.sl true [])]))⟩, ⟨none, .st (.t 16) (.t 74)⟩, ⟨none, .mv 17 (.t 75)⟩, ⟨none, .mv 18 (.t 76)⟩] [16, 17, 71, 72, 73, 74, 75, 76])
 (.seq (.reg [] [⟨none, .ld 78 (.t 1)⟩, ⟨none, .dat 79 f_flag_Raise [(.t 78), (.c (.int .u32 19))]⟩, ⟨none, .mv 77 (.t 79)⟩, ⟨none, .ex 80 (.t 77) 0⟩, ⟨none, .ex 81 (.t 77) 1⟩, ⟨none, .alc 19 (.d (.agg [(.int .u32 0), (.sl true [])]))⟩, ⟨none, .st (.t 19) (.t 80)⟩, ⟨none, .mv 20 (.t 81)⟩] [77, 78, 79, 80, 81])
 (.seq (.reg [] [⟨none, .ld 83 (.t 19)⟩, ⟨none, .dat 84 f_flag_Await [(.t 83), (.c (.int .i64 8)), (.c (.int .u32 48))]⟩, ⟨none, .mv 82 (.t 84)⟩, ⟨none, .ex 85 (.t 82) 0⟩, ⟨none, .ex 86 (.t 82) 1⟩, ⟨none, .ex 87 (.t 82) 2⟩, ⟨none, .alc 21 (.d (.agg [(.int .u32 0), (.sl true [])]))⟩, ⟨none, .st (.t 21) (.t 85)⟩, ⟨none, .mv 22 (.t 86)⟩, ⟨none, .mv 23 (.t 87)⟩] [82, 83, 84, 85, 86, 87])
 (.seq (.reg [] [⟨none, .ld 89 (.t 1)⟩, ⟨none, .dat 90 f_flag_Reset [(.t 89)]⟩, ⟨none, .mv 88 (.t 90)⟩, ⟨none, .ex 91 (.t 88) 0⟩, ⟨none, .ex 92 (.t 88) 1⟩, ⟨none, .alc 24 (.d (.agg [(.int .u32 0), (.sl true [])]))⟩, ⟨none, .st (.t 24) (.t 91)⟩, ⟨none, .mv 25 (.t 92)⟩] [1, 24, 88, 89, 90, 91, 92])
 (.seq (.reg [] [⟨none, .mv 93 (.t 9)⟩, ⟨none, .un 94 .not (.t 93)⟩, ⟨none, .mv 95 (.t 94)⟩, ⟨some (95, true), .mv 96 (.t 12)⟩, ⟨some (95, true), .un 97 .not (.t 96)⟩, ⟨none, .pick 98 (.t 95) (.t 97) (.c (.bool false))⟩, ⟨none, .mv 99 (.t 98)⟩, ⟨some (99, true), .mv 100 (.t 15)⟩, ⟨some (99, true), .un 101 .not (.t 100)⟩, ⟨none, .pick 102 (.t 99) (.t 101) (.c (.bool false))⟩, ⟨none, .mv 103 (.t 102)⟩, ⟨some (103, true), .mv 104 (.t 18)⟩, ⟨some (103, true), .un 105 .not (.t 104)⟩, ⟨none, .pick 106 (.t 103) (.t 105) (.c (.bool false))⟩, ⟨none, .mv 107 (.t 106)⟩, ⟨some (107, true), .mv 108 (.t 20)⟩, ⟨some (107, true), .len 109 (.t 108)⟩, ⟨some (107, true), .bin 110 .eql (.t 109) (.c (.int .i64 2))⟩, ⟨none, .pick 111 (.t 107) (.t 110) (.c (.bool false))⟩, ⟨none, .mv 112 (.t 111)⟩, ⟨some (112, true), .mv 113 (.t 20)⟩, ⟨some (112, true), .ia 114 (.t 113) (.c (.int .i64 0))⟩, ⟨some (112, true), .ld 115 (.t 114)⟩, ⟨some (112, true), .bld 116 [(.c (.int .i64 1)), (.c (.int .u32 1))]⟩, ⟨some (112, true), .bin 117 .eql (.t 115) (.t 116)⟩, ⟨none, .pick 118 (.t 112) (.t 117) (.c (.bool false))⟩, ⟨none, .mv 119 (.t 118)⟩, ⟨some (119, true), .mv 120 (.t 20)⟩, ⟨some (119, true), .ia 121 (.t 120) (.c (.int .i64 1))⟩, ⟨some (119, true), .ld 122 (.t 121)⟩, ⟨some (119, true), .bld 123 [(.c (.int .i64 2)), (.c (.int .u32 2))]⟩, ⟨some (119, true), .bin 124 .eql (.t 122) (.t 123)⟩, ⟨none, .pick 125 (.t 119) (.t 124) (.c (.bool false))⟩, ⟨none, .mv 126 (.t 125)⟩, ⟨some (126, true), .fa 127 (.t 19) 0⟩, ⟨some (126, true), .ld 128 (.t 127)⟩, ⟨some (126, true), .bin 129 .eql (.t 128) (.c (.int .u32 16))⟩, ⟨none, .pick 130 (.t 126) (.t 129) (.c (.bool false))⟩, ⟨none, .mv 131 (.t 130)⟩, ⟨some (131, true), .fa 132 (.t 19) 1⟩, ⟨some (131, true), .ld 133 (.t 132)⟩, ⟨some (131, true), .len 134 (.t 133)⟩, ⟨some (131, true), .bin 135 .eql (.t 134) (.c (.int .i64 2))⟩, ⟨none, .pick 136 (.t 131) (.t 135) (.c (.bool false))⟩, ⟨none, .mv 137 (.t 136)⟩, ⟨some (137, true), .fa 138 (.t 19) 1⟩, ⟨some (137, true), .ld 139 (.t 138)⟩, ⟨some (137, true), .ia 140 (.t 139) (.c (.int .i64 0))⟩, ⟨some (137, true), .fa 141 (.t 140) 0⟩, ⟨some (137, true), .ld 142 (.t 141)⟩, ⟨some (137, true), .bin 143 .eql (.t 142) (.c (.int .i64 3))⟩, ⟨none, .pick 144 (.t 137) (.t 143) (.c (.bool false))⟩, ⟨none, .mv 145 (.t 144)⟩, ⟨some (145, true), .mv 146 (.t 23)⟩, ⟨none, .pick 147 (.t 145) (.t 146) (.c (.bool false))⟩, ⟨none, .mv 148 (.t 147)⟩, ⟨some (148, true), .mv 149 (.t 22)⟩, ⟨some (148, true), .bin 150 .eql (.t 149) (.c (.int .u32 16))⟩, ⟨none, .pick 151 (.t 148) (.t 150) (.c (.bool false))⟩, ⟨none, .mv 152 (.t 151)⟩, ⟨some (152, true), .fa 153 (.t 21) 0⟩, ⟨some (152, true), .ld 154 (.t 153)⟩, ⟨some (152, true), .bin 155 .eql (.t 154) (.c (.int .u32 0))⟩, ⟨none, .pick 156 (.t 152) (.t 155) (.c (.bool false))⟩, ⟨none, .mv 157 (.t 156)⟩, ⟨some (157, true), .mv 158 (.t 25)⟩, ⟨some (157, true), .len 159 (.t 158)⟩, ⟨some (157, true), .bin 160 .eql (.t 159) (.c (.int .i64 4))⟩, ⟨none, .pick 161 (.t 157) (.t 160) (.c (.bool false))⟩, ⟨none, .mv 162 (.t 161)⟩, ⟨some (162, true), .mv 163 (.t 25)⟩, ⟨some (162, true), .ia 164 (.t 163) (.c (.int .i64 2))⟩, ⟨some (162, true), .ld 165 (.t 164)⟩, ⟨some (162, true), .bin 166 .eql (.t 165) (.c (.int .i64 3))⟩, ⟨none, .pick 167 (.t 162) (.t 166) (.c (.bool false))⟩, ⟨none, .mv 0 (.t 167)⟩] [9, 12, 15, 18, 19, 20, 21, 22, 23, 25, 93, 94, 95, 96, 97, 98, 99, 100, 101, 102, 103, 104, 105, 106, 107, 108, 109, 110, 111, 112, 113, 114, 115, 116, 117, 118, 119, 120, 121, 122, 123, 124, 125, 126, 127, 128, 129, 130, 131, 132, 133, 134, 135, 136, 137, 138, 139, 140, 141, 142, 143, 144, 145, 146, 147, 148, 149, 150, 151, 152, 153, 154, 155, 156, 157, 158, 159, 160, 161, 162, 163, 164, 165, 166, 167])
 .ret))))))))))))), [.t 0]⟩
/- foliot/foliotlaw13.FlagBits -/
def k_law13_FlagBits_L0b : K := (.seq (.seq (.reg [] [⟨none, .mv 21 (.t 8)⟩, ⟨none, .mv 22 (.t 0)⟩, ⟨none, .len 23 (.t 22)⟩, ⟨none, .bin 24 .lss (.t 21) (.t 23)⟩] [21, 22, 23])
 (.cond (.t 24) .skip
 (.ext 0)))
 (.seq (.blk 1 (.reg [(1, 9)] [⟨none, .fa 27 (.t 7) 1⟩, ⟨none, .ld 28 (.t 27)⟩, ⟨none, .mv 29 (.t 8)⟩, ⟨none, .bin 30 .add (.t 29) (.c (.int .i64 1))⟩, ⟨none, .mv 31 (.t 0)⟩, ⟨none, .mv 32 (.t 8)⟩, ⟨none, .ia 33 (.t 31) (.t 32)⟩, ⟨none, .ld 34 (.t 33)⟩, ⟨none, .bld 35 [(.t 30), (.t 34)]⟩, ⟨none, .bsl 36 [(.t 35)]⟩, ⟨none, .app 37 (.t 28) (.t 36)⟩, ⟨none, .fa 38 (.t 7) 1⟩, ⟨none, .st (.t 38) (.t 37)⟩] [27, 28, 29, 30, 31, 32, 33, 34, 35, 36, 37, 38]))
 (.reg [] [⟨none, .mv 25 (.t 8)⟩, ⟨none, .bin 26 .add (.t 25) (.c (.int .i64 1))⟩, ⟨none, .mv 8 (.t 26)⟩] [25, 26])))
def k_law13_FlagBits_L0 : K := k_law13_FlagBits_L0b
def k_law13_FlagBits_L1b : K := (.seq (.seq (.reg [] [⟨none, .mv 47 (.t 12)⟩, ⟨none, .mv 48 (.t 10)⟩, ⟨none, .len 49 (.t 48)⟩, ⟨none, .bin 50 .lss (.t 47) (.t 49)⟩] [47, 48, 49])
 (.cond (.t 50) .skip
 (.ext 2)))
 (.seq (.blk 3 (.seq (.reg [] [⟨none, .mv 53 (.t 10)⟩, ⟨none, .mv 54 (.t 12)⟩, ⟨none, .ia 55 (.t 53) (.t 54)⟩, ⟨none, .fa 56 (.t 55) 0⟩, ⟨none, .ld 57 (.t 56)⟩, ⟨none, .mv 13 (.t 57)⟩] [53, 54, 55, 56, 57])
 (.seq (.seq (.reg [] [⟨none, .mv 58 (.t 13)⟩, ⟨none, .bin 59 .lss (.t 58) (.c (.int .i64 1))⟩, ⟨none, .mv 60 (.t 59)⟩, ⟨some (60, false), .mv 61 (.t 13)⟩, ⟨some (60, false), .mv 62 (.t 0)⟩, ⟨some (60, false), .len 63 (.t 62)⟩, ⟨some (60, false), .bin 64 .gtr (.t 61) (.t 63)⟩, ⟨none, .pick 65 (.t 60) (.c (.bool true)) (.t 64)⟩, ⟨none, .mv 66 (.t 65)⟩, ⟨some (66, false), .mv 67 (.t 10)⟩, ⟨some (66, false), .mv 68 (.t 12)⟩, ⟨some (66, false), .ia 69 (.t 67) (.t 68)⟩, ⟨some (66, false), .fa 70 (.t 69) 1⟩, ⟨some (66, false), .ld 71 (.t 70)⟩, ⟨some (66, false), .bin 72 .eql (.t 71) (.c (.int .u32 0))⟩, ⟨none, .pick 73 (.t 66) (.c (.bool true)) (.t 72)⟩, ⟨none, .mv 74 (.t 73)⟩, ⟨some (74, false), .mv 75 (.t 10)⟩, ⟨some (74, false), .mv 76 (.t 12)⟩, ⟨some (74, false), .ia 77 (.t 75) (.t 76)⟩, ⟨some (74, false), .fa 78 (.t 77) 1⟩, ⟨some (74, false), .ld 79 (.t 78)⟩, ⟨some (74, false), .mv 80 (.t 0)⟩, ⟨some (74, false), .mv 81 (.t 13)⟩, ⟨some (74, false), .bin 82 .sub (.t 81) (.c (.int .i64 1))⟩, ⟨some (74, false), .ia 83 (.t 80) (.t 82)⟩, ⟨some (74, false), .ld 84 (.t 83)⟩, ⟨some (74, false), .bin 85 .andNot (.t 79) (.t 84)⟩, ⟨some (74, false), .bin 86 .neq (.t 85) (.c (.int .u32 0))⟩, ⟨none, .pick 87 (.t 74) (.c (.bool true)) (.t 86)⟩, ⟨none, .mv 88 (.t 87)⟩, ⟨some (88, false), .mv 89 (.t 11)⟩, ⟨some (88, false), .mv 90 (.t 10)⟩, ⟨some (88, false), .mv 91 (.t 12)⟩, ⟨some (88, false), .ia 92 (.t 90) (.t 91)⟩, ⟨some (88, false), .fa 93 (.t 92) 1⟩, ⟨some (88, false), .ld 94 (.t 93)⟩, ⟨some (88, false), .bin 95 .and (.t 89) (.t 94)⟩, ⟨some (88, false), .bin 96 .neq (.t 95) (.c (.int .u32 0))⟩, ⟨none, .pick 97 (.t 88) (.c (.bool true)) (.t 96)⟩] [13, 58, 59, 60, 61, 62, 63, 64, 65, 66, 67, 68, 69, 70, 71, 72, 73, 74, 75, 76, 77, 78, 79, 80, 81, 82, 83, 84, 85, 86, 87, 88, 89, 90, 91, 92, 93, 94, 95, 96])
 (.cond (.t 97) (.seq (.reg [] [⟨none, .mv 6 (.c (.bool false))⟩] [])
 .ret)
 .skip))
 (.reg [] [⟨none, .mv 98 (.t 11)⟩, ⟨none, .mv 99 (.t 10)⟩, ⟨none, .mv 100 (.t 12)⟩, ⟨none, .ia 101 (.t 99) (.t 100)⟩, ⟨none, .fa 102 (.t 101) 1⟩, ⟨none, .ld 103 (.t 102)⟩, ⟨none, .bin 104 .or (.t 98) (.t 103)⟩, ⟨none, .mv 11 (.t 104)⟩] [98, 99, 100, 101, 102, 103, 104]))))
 (.reg [] [⟨none, .mv 51 (.t 12)⟩, ⟨none, .bin 52 .add (.t 51) (.c (.int .i64 1))⟩, ⟨none, .mv 12 (.t 52)⟩] [51, 52])))
def k_law13_FlagBits_L1 : K := k_law13_FlagBits_L1b
def k_law13_FlagBits : KF := ⟨(.seq (.reg [] [⟨none, .mv 6 (.c (.bool false))⟩] [6])
 (.seq (.seq (.reg [] [⟨none, .dat 14 f_law13_begun []⟩, ⟨none, .un 15 .not (.t 14)⟩] [14])
 (.cond (.t 15) (.seq (.reg [] [⟨none, .mv 6 (.c (.bool false))⟩] [])
 .ret)
 .skip))
 (.seq (.seq (.reg [] [⟨none, .mv 16 (.t 0)⟩, ⟨none, .len 17 (.t 16)⟩, ⟨none, .bin 18 .gtr (.t 17) (.c (.int .i64 4))⟩] [16, 17])
 (.cond (.t 18) (.seq (.reg [] [⟨none, .mv 6 (.c (.bool true))⟩] [])
 .ret)
 .skip))
 (.seq (.reg [] [⟨none, .mv 19 (.t 1)⟩, ⟨none, .bld 20 [(.t 19), (.c (.d (.sl true [])))]⟩, ⟨none, .alc 7 (.d (.agg [(.int .u32 0), (.sl true [])]))⟩, ⟨none, .st (.t 7) (.t 20)⟩] [19, 20])
 (.seq (.seq (.reg [] [⟨none, .mv 8 (.c (.int .i64 0))⟩] [])
 (.blk 0 (.loop [0, 1, 2, 7, 8] k_law13_FlagBits_L0)))
 (.seq (.reg [] [⟨none, .ld 40 (.t 7)⟩, ⟨none, .mv 41 (.t 2)⟩, ⟨none, .dat 42 f_flag_Raise [(.t 40), (.t 41)]⟩, ⟨none, .mv 39 (.t 42)⟩, ⟨none, .ex 43 (.t 39) 0⟩, ⟨none, .ex 44 (.t 39) 1⟩, ⟨none, .alc 9 (.d (.agg [(.int .u32 0), (.sl true [])]))⟩, ⟨none, .st (.t 9) (.t 43)⟩, ⟨none, .mv 10 (.t 44)⟩] [7, 39, 40, 41, 42, 43, 44])
 (.seq (.reg [] [⟨none, .fa 45 (.t 9) 0⟩, ⟨none, .ld 46 (.t 45)⟩, ⟨none, .mv 11 (.t 46)⟩] [45, 46])
 (.seq (.seq (.reg [] [⟨none, .mv 12 (.c (.int .i64 0))⟩] [])
 (.blk 2 (.loop [0, 1, 2, 9, 10, 11, 12] k_law13_FlagBits_L1)))
 (.seq (.reg [] [⟨none, .mv 105 (.t 11)⟩, ⟨none, .mv 106 (.t 1)⟩, ⟨none, .mv 107 (.t 2)⟩, ⟨none, .bin 108 .or (.t 106) (.t 107)⟩, ⟨none, .bin 109 .eql (.t 105) (.t 108)⟩, ⟨none, .mv 110 (.t 109)⟩, ⟨some (110, true), .mv 111 (.t 10)⟩, ⟨some (110, true), .len 112 (.t 111)⟩, ⟨some (110, true), .fa 113 (.t 9) 1⟩, ⟨some (110, true), .ld 114 (.t 113)⟩, ⟨some (110, true), .len 115 (.t 114)⟩, ⟨some (110, true), .bin 116 .add (.t 112) (.t 115)⟩, ⟨some (110, true), .mv 117 (.t 0)⟩, ⟨some (110, true), .len 118 (.t 117)⟩, ⟨some (110, true), .bin 119 .eql (.t 116) (.t 118)⟩, ⟨none, .pick 120 (.t 110) (.t 119) (.c (.bool false))⟩, ⟨none, .mv 6 (.t 120)⟩] [0, 1, 2, 9, 10, 11, 105, 106, 107, 108, 109, 110, 111, 112, 113, 114, 115, 116, 117, 118, 119, 120])
 .ret))))))))), [.t 6]⟩
/- foliot/foliotlaw1.SatAll -/
def k_law1_SatAll : KF := ⟨(.seq (.reg [] [⟨none, .mv 4 (.c (.bool false))⟩] [4])
 (.seq (.seq (.reg [] [⟨none, .dat 21 f_law1_begun []⟩, ⟨none, .un 22 .not (.t 21)⟩] [21])
 (.cond (.t 22) (.seq (.reg [] [⟨none, .mv 4 (.c (.bool false))⟩] [])
 .ret)
 .skip))
 (.seq (.reg [] [⟨none, .mv 24 (.t 0)⟩, ⟨none, .mv 25 (.t 1)⟩, ⟨none, .dat 26 f_sat_Add [(.t 24), (.t 25)]⟩, ⟨none, .mv 23 (.t 26)⟩, ⟨none, .ex 27 (.t 23) 0⟩, ⟨none, .ex 28 (.t 23) 1⟩, ⟨none, .mv 5 (.t 27)⟩, ⟨none, .mv 6 (.t 28)⟩] [23, 24, 25, 26, 27, 28])
 (.seq (.reg [] [⟨none, .mv 30 (.t 0)⟩, ⟨none, .mv 31 (.t 1)⟩, ⟨none, .dat 32 f_ref1_Add [(.t 30), (.t 31)]⟩, ⟨none, .mv 29 (.t 32)⟩, ⟨none, .ex 33 (.t 29) 0⟩, ⟨none, .ex 34 (.t 29) 1⟩, ⟨none, .mv 7 (.t 33)⟩, ⟨none, .mv 8 (.t 34)⟩] [29, 30, 31, 32, 33, 34])
 (.seq (.reg [] [⟨none, .mv 36 (.t 0)⟩, ⟨none, .mv 37 (.t 1)⟩, ⟨none, .dat 38 f_sat_Sub [(.t 36), (.t 37)]⟩, ⟨none, .mv 35 (.t 38)⟩, ⟨none, .ex 39 (.t 35) 0⟩, ⟨none, .ex 40 (.t 35) 1⟩, ⟨none, .mv 9 (.t 39)⟩, ⟨none, .mv 10 (.t 40)⟩] [35, 36, 37, 38, 39, 40])
 (.seq (.reg [] [⟨none, .mv 42 (.t 0)⟩, ⟨none, .mv 43 (.t 1)⟩, ⟨none, .dat 44 f_ref1_Sub [(.t 42), (.t 43)]⟩, ⟨none, .mv 41 (.t 44)⟩, ⟨none, .ex 45 (.t 41) 0⟩, ⟨none, .ex 46 (.t 41) 1⟩, ⟨none, .mv 11 (.t 45)⟩, ⟨none, .mv 12 (.t 46)⟩] [41, 42, 43, 44, 45, 46])
 (.seq (.reg [] [⟨none, .mv 48 (.t 0)⟩, ⟨none, .mv 49 (.t 1)⟩, ⟨none, .dat 50 f_sat_Mul [(.t 48), (.t 49)]⟩, ⟨none, .mv 47 (.t 50)⟩, ⟨none, .ex 51 (.t 47) 0⟩, ⟨none, .ex 52 (.t 47) 1⟩, ⟨none, .mv 13 (.t 51)⟩, ⟨none, .mv 14 (.t 52)⟩] [47, 48, 49, 50, 51, 52])
 (.seq (.reg [] [⟨none, .mv 54 (.t 0)⟩, ⟨none, .mv 55 (.t 1)⟩, ⟨none, .dat 56 f_ref1_Mul [(.t 54), (.t 55)]⟩, ⟨none, .mv 53 (.t 56)⟩, ⟨none, .ex 57 (.t 53) 0⟩, ⟨none, .ex 58 (.t 53) 1⟩, ⟨none, .mv 15 (.t 57)⟩, ⟨none, .mv 16 (.t 58)⟩] [53, 54, 55, 56, 57, 58])
 (.seq (.reg [] [⟨none, .mv 60 (.t 0)⟩, ⟨none, .mv 61 (.t 1)⟩, ⟨none, .dat 62 f_sat_Up [(.t 60), (.t 61)]⟩, ⟨none, .mv 59 (.t 62)⟩, ⟨none, .ex 63 (.t 59) 0⟩, ⟨none, .ex 64 (.t 59) 1⟩, ⟨none, .mv 17 (.t 63)⟩, ⟨none, .mv 18 (.t 64)⟩] [59, 60, 61, 62, 63, 64])
 (.seq (.reg [] [⟨none, .mv 66 (.t 0)⟩, ⟨none, .mv 67 (.t 1)⟩, ⟨none, .dat 68 f_ref1_Up [(.t 66), (.t 67)]⟩, ⟨none, .mv 65 (.t 68)⟩, ⟨none, .ex 69 (.t 65) 0⟩, ⟨none, .ex 70 (.t 65) 1⟩, ⟨none, .mv 19 (.t 69)⟩, ⟨none, .mv 20 (.t 70)⟩] [0, 1, 65, 66, 67, 68, 69, 70])
 (.seq (.reg [] [⟨none, .mv 71 (.t 5)⟩, ⟨none, .mv 72 (.t 7)⟩, ⟨none, .bin 73 .eql (.t 71) (.t 72)⟩, ⟨none, .mv 74 (.t 73)⟩, ⟨some (74, true), .mv 75 (.t 6)⟩, ⟨some (74, true), .mv 76 (.t 8)⟩, ⟨some (74, true), .bin 77 .eql (.t 75) (.t 76)⟩, ⟨none, .pick 78 (.t 74) (.t 77) (.c (.bool false))⟩, ⟨none, .mv 79 (.t 78)⟩, ⟨some (79, true), .mv 80 (.t 9)⟩, ⟨some (79, true), .mv 81 (.t 11)⟩, ⟨some (79, true), .bin 82 .eql (.t 80) (.t 81)⟩, ⟨none, .pick 83 (.t 79) (.t 82) (.c (.bool false))⟩, ⟨none, .mv 84 (.t 83)⟩, ⟨some (84, true), .mv 85 (.t 10)⟩, ⟨some (84, true), .mv 86 (.t 12)⟩, ⟨some (84, true), .bin 87 .eql (.t 85) (.t 86)⟩, ⟨none, .pick 88 (.t 84) (.t 87) (.c (.bool false))⟩, ⟨none, .mv 89 (.t 88)⟩, ⟨some (89, true), .mv 90 (.t 13)⟩, ⟨some (89, true), .mv 91 (.t 15)⟩, ⟨some (89, true), .bin 92 .eql (.t 90) (.t 91)⟩, ⟨none, .pick 93 (.t 89) (.t 92) (.c (.bool false))⟩, ⟨none, .mv 94 (.t 93)⟩, ⟨some (94, true), .mv 95 (.t 14)⟩, ⟨some (94, true), .mv 96 (.t 16)⟩, ⟨some (94, true), .bin 97 .eql (.t 95) (.t 96)⟩, ⟨none, .pick 98 (.t 94) (.t 97) (.c (.bool false))⟩, ⟨none, .mv 99 (.t 98)⟩, ⟨some (99, true), .mv 100 (.t 17)⟩, ⟨some (99, true), .mv 101 (.t 19)⟩, ⟨some (99, true), .bin 102 .eql (.t 100) (.t 101)⟩, ⟨none, .pick 103 (.t 99) (.t 102) (.c (.bool false))⟩, ⟨none, .mv 104 (.t 103)⟩, ⟨some (104, true), .mv 105 (.t 18)⟩, ⟨some (104, true), .mv 106 (.t 20)⟩, ⟨some (104, true), .bin 107 .eql (.t 105) (.t 106)⟩, ⟨none, .pick 108 (.t 104) (.t 107) (.c (.bool false))⟩, ⟨none, .mv 4 (.t 108)⟩] [5, 6, 7, 8, 9, 10, 11, 12, 13, 14, 15, 16, 17, 18, 19, 20, 71, 72, 73, 74, 75, 76, 77, 78, 79, 80, 81, 82, 83, 84, 85, 86, 87, 88, 89, 90, 91, 92, 93, 94, 95, 96, 97, 98, 99, 100, 101, 102, 103, 104, 105, 106, 107, 108])
 .ret))))))))))), [.t 4]⟩
/- foliot/foliotlaw1.begun -/
def k_law1_begun : KF := ⟨(.seq (.reg [] [⟨none, .mv 0 (.c (.bool false))⟩] [0])
 (.seq (.reg [] [⟨none, .dat 10 f_sat_Add [(.c (.int .i64 4611686018427387904)), (.c (.int .i64 4611686018427387904))]⟩, ⟨none, .mv 9 (.t 10)⟩, ⟨none, .ex 11 (.t 9) 0⟩, ⟨none, .ex 12 (.t 9) 1⟩, ⟨none, .mv 1 (.t 11)⟩, ⟨none, .mv 2 (.t 12)⟩] [9, 10, 11, 12])
 (.seq (.reg [] [⟨none, .dat 14 f_sat_Mul [(.c (.int .i64 3)), (.c (.int .i64 (-4)))]⟩, ⟨none, .mv 13 (.t 14)⟩, ⟨none, .ex 15 (.t 13) 0⟩, ⟨none, .ex 16 (.t 13) 1⟩, ⟨none, .mv 3 (.t 15)⟩, ⟨none, .mv 4 (.t 16)⟩] [13, 14, 15, 16])
 (.seq (.reg [] [⟨none, .dat 18 f_sat_Up [(.c (.int .i64 7)), (.c (.int .i64 3))]⟩, ⟨none, .mv 17 (.t 18)⟩, ⟨none, .ex 19 (.t 17) 0⟩, ⟨none, .ex 20 (.t 17) 1⟩, ⟨none, .mv 5 (.t 19)⟩, ⟨none, .mv 6 (.t 20)⟩] [17, 18, 19, 20])
 (.seq (.reg [] [⟨none, .dat 22 f_sat_Sub [(.c (.int .i64 5)), (.c (.int .i64 7))]⟩, ⟨none, .mv 21 (.t 22)⟩, ⟨none, .ex 23 (.t 21) 0⟩, ⟨none, .ex 24 (.t 21) 1⟩, ⟨none, .mv 7 (.t 23)⟩, ⟨none, .mv 8 (.t 24)⟩] [21, 22, 23, 24])
 (.seq (.reg [] [⟨none, .mv 25 (.t 1)⟩, ⟨none, .bin 26 .eql (.t 25) (.c (.int .i64 9223372036854775807))⟩, ⟨none, .mv 27 (.t 26)⟩, ⟨some (27, true), .mv 28 (.t 2)⟩, ⟨some (27, true), .un 29 .not (.t 28)⟩, ⟨none, .pick 30 (.t 27) (.t 29) (.c (.bool false))⟩, ⟨none, .mv 31 (.t 30)⟩, ⟨some (31, true), .mv 32 (.t 3)⟩, ⟨some (31, true), .bin 33 .eql (.t 32) (.c (.int .i64 (-12)))⟩, ⟨none, .pick 34 (.t 31) (.t 33) (.c (.bool false))⟩, ⟨none, .mv 35 (.t 34)⟩, ⟨some (35, true), .mv 36 (.t 4)⟩, ⟨none, .pick 37 (.t 35) (.t 36) (.c (.bool false))⟩, ⟨none, .mv 38 (.t 37)⟩, ⟨some (38, true), .mv 39 (.t 5)⟩, ⟨some (38, true), .bin 40 .eql (.t 39) (.c (.int .i64 3))⟩, ⟨none, .pick 41 (.t 38) (.t 40) (.c (.bool false))⟩, ⟨none, .mv 42 (.t 41)⟩, ⟨some (42, true), .mv 43 (.t 6)⟩, ⟨none, .pick 44 (.t 42) (.t 43) (.c (.bool false))⟩, ⟨none, .mv 45 (.t 44)⟩, ⟨some (45, true), .mv 46 (.t 7)⟩, ⟨some (45, true), .bin 47 .eql (.t 46) (.c (.int .i64 (-2)))⟩, ⟨none, .pick 48 (.t 45) (.t 47) (.c (.bool false))⟩, ⟨none, .mv 49 (.t 48)⟩, ⟨some (49, true), .mv 50 (.t 8)⟩, ⟨none, .pick 51 (.t 49) (.t 50) (.c (.bool false))⟩, ⟨none, .mv 0 (.t 51)⟩] [1, 2, 3, 4, 5, 6, 7, 8, 25, 26, 27, 28, 29, 30, 31, 32, 33, 34, 35, 36, 37, 38, 39, 40, 41, 42, 43, 44, 45, 46, 47, 48, 49, 50, 51])
 .ret)))))), [.t 0]⟩
/- foliot/sat.Add -/
def k_sat_Add : KF := ⟨(.seq (.reg [] [⟨none, .mv 4 (.c (.int .i64 0))⟩, ⟨none, .mv 5 (.c (.bool false))⟩] [4, 5])
 (.seq (.reg [] [⟨none, .mv 7 (.t 0)⟩, ⟨none, .cv 8 .u64 (.t 7)⟩, ⟨none, .mv 9 (.t 1)⟩, ⟨none, .cv 10 .u64 (.t 9)⟩, ⟨none, .bin 11 .add (.t 8) (.t 10)⟩, ⟨none, .cv 12 .i64 (.t 11)⟩, ⟨none, .mv 6 (.t 12)⟩] [7, 8, 9, 10, 11, 12])
 (.seq (.seq (.reg [] [⟨none, .mv 13 (.t 0)⟩, ⟨none, .mv 14 (.t 6)⟩, ⟨none, .bin 15 .xor (.t 13) (.t 14)⟩, ⟨none, .mv 16 (.t 1)⟩, ⟨none, .mv 17 (.t 6)⟩, ⟨none, .bin 18 .xor (.t 16) (.t 17)⟩, ⟨none, .bin 19 .and (.t 15) (.t 18)⟩, ⟨none, .bin 20 .lss (.t 19) (.c (.int .i64 0))⟩] [1, 13, 14, 15, 16, 17, 18, 19])
 (.cond (.t 20) (.seq (.reg [] [⟨none, .mv 21 (.t 0)⟩, ⟨none, .bin 22 .lss (.t 21) (.c (.int .i64 0))⟩, ⟨none, .dat 23 f_sat_end [(.t 22)]⟩, ⟨none, .ex 24 (.t 23) 0⟩, ⟨none, .ex 25 (.t 23) 1⟩, ⟨none, .mv 4 (.t 24)⟩, ⟨none, .mv 5 (.t 25)⟩] [0, 21, 22, 23, 24, 25])
 .ret)
 .skip))
 (.seq (.reg [] [⟨none, .mv 26 (.t 6)⟩, ⟨none, .mv 4 (.t 26)⟩, ⟨none, .mv 5 (.c (.bool true))⟩] [6, 26])
 .ret)))), [.t 4, .t 5]⟩
/- foliot/sat.end -/
def k_sat_end : KF := ⟨(.seq (.reg [] [⟨none, .mv 2 (.c (.int .i64 0))⟩, ⟨none, .mv 3 (.c (.bool false))⟩] [2, 3])
 (.seq (.seq (.reg [] [⟨none, .mv 4 (.t 0)⟩] [0])
 (.cond (.t 4) (.seq (.reg [] [⟨none, .mv 2 (.c (.int .i64 (-9223372036854775808)))⟩, ⟨none, .mv 3 (.c (.bool false))⟩] [])
 .ret)
 .skip))
 (.seq (.reg [] [⟨none, .mv 2 (.c (.int .i64 9223372036854775807))⟩, ⟨none, .mv 3 (.c (.bool false))⟩] [])
 .ret))), [.t 2, .t 3]⟩
/- foliot/sat.Mul -/
def k_sat_Mul : KF := ⟨(.seq (.reg [] [⟨none, .mv 4 (.c (.int .i64 0))⟩, ⟨none, .mv 5 (.c (.bool false))⟩] [4, 5])
 (.seq (.reg [] [⟨none, .mv 10 (.t 0)⟩, ⟨none, .bin 11 .lss (.t 10) (.c (.int .i64 0))⟩, ⟨none, .mv 12 (.t 1)⟩, ⟨none, .bin 13 .lss (.t 12) (.c (.int .i64 0))⟩, ⟨none, .bin 14 .neq (.t 11) (.t 13)⟩, ⟨none, .mv 6 (.t 14)⟩] [10, 11, 12, 13, 14])
 (.seq (.reg [] [⟨none, .mv 7 (.c (.int .u64 9223372036854775807))⟩] [])
 (.seq (.seq (.reg [] [⟨none, .mv 15 (.t 6)⟩] [])
 (.cond (.t 15) (.reg [] [⟨none, .mv 16 (.t 7)⟩, ⟨none, .bin 17 .add (.t 16) (.c (.int .u64 1))⟩, ⟨none, .mv 7 (.t 17)⟩] [16, 17])
 .skip))
 (.seq (.reg [] [⟨none, .mv 19 (.t 0)⟩, ⟨none, .dat 20 f_sat_size [(.t 19)]⟩, ⟨none, .mv 21 (.t 1)⟩, ⟨none, .dat 22 f_sat_size [(.t 21)]⟩, ⟨none, .dat 23 f_sat_times [(.t 20), (.t 22)]⟩, ⟨none, .mv 18 (.t 23)⟩, ⟨none, .ex 24 (.t 18) 0⟩, ⟨none, .ex 25 (.t 18) 1⟩, ⟨none, .mv 8 (.t 24)⟩, ⟨none, .mv 9 (.t 25)⟩] [0, 1, 18, 19, 20, 21, 22, 23, 24, 25])
 (.seq (.blk 0 (.seq (.reg [] [⟨none, .mv 27 (.t 9)⟩, ⟨none, .un 28 .not (.t 27)⟩, ⟨none, .mv 29 (.t 28)⟩, ⟨some (29, false), .mv 30 (.t 8)⟩, ⟨some (29, false), .mv 31 (.t 7)⟩, ⟨some (29, false), .bin 32 .gtr (.t 30) (.t 31)⟩, ⟨none, .pick 33 (.t 29) (.c (.bool true)) (.t 32)⟩, ⟨none, .mv 26 (.t 33)⟩] [7, 9, 27, 28, 29, 30, 31, 32, 33])
 (.cond (.t 26) (.seq (.reg [] [⟨none, .mv 34 (.t 6)⟩, ⟨none, .dat 35 f_sat_end [(.t 34)]⟩, ⟨none, .ex 36 (.t 35) 0⟩, ⟨none, .ex 37 (.t 35) 1⟩, ⟨none, .mv 4 (.t 36)⟩, ⟨none, .mv 5 (.t 37)⟩] [6, 34, 35, 36, 37])
 .ret)
 (.seq (.reg [] [⟨none, .mv 39 (.t 6)⟩, ⟨none, .mv 38 (.t 39)⟩] [6, 39])
 (.cond (.t 38) (.seq (.reg [] [⟨none, .mv 40 (.t 8)⟩, ⟨none, .un 41 .neg (.t 40)⟩, ⟨none, .cv 42 .i64 (.t 41)⟩, ⟨none, .mv 4 (.t 42)⟩, ⟨none, .mv 5 (.c (.bool true))⟩] [8, 40, 41, 42])
 .ret)
 .skip)))))
 (.seq (.reg [] [⟨none, .mv 43 (.t 8)⟩, ⟨none, .cv 44 .i64 (.t 43)⟩, ⟨none, .mv 4 (.t 44)⟩, ⟨none, .mv 5 (.c (.bool true))⟩] [8, 43, 44])
 .ret))))))), [.t 4, .t 5]⟩
/- foliot/sat.size -/
def k_sat_size : KF := ⟨(.seq (.reg [] [⟨none, .mv 2 (.c (.int .u64 0))⟩] [2])
 (.seq (.seq (.reg [] [⟨none, .mv 3 (.t 0)⟩, ⟨none, .bin 4 .lss (.t 3) (.c (.int .i64 0))⟩] [3])
 (.cond (.t 4) (.seq (.reg [] [⟨none, .mv 5 (.t 0)⟩, ⟨none, .cv 6 .u64 (.t 5)⟩, ⟨none, .un 7 .neg (.t 6)⟩, ⟨none, .mv 2 (.t 7)⟩] [0, 5, 6, 7])
 .ret)
 .skip))
 (.seq (.reg [] [⟨none, .mv 8 (.t 0)⟩, ⟨none, .cv 9 .u64 (.t 8)⟩, ⟨none, .mv 2 (.t 9)⟩] [0, 8, 9])
 .ret))), [.t 2]⟩
/- foliot/sat.times -/
def k_sat_times : KF := ⟨(.seq (.reg [] [⟨none, .mv 4 (.c (.int .u64 0))⟩, ⟨none, .mv 5 (.c (.bool false))⟩] [4, 5])
 (.seq (.reg [] [⟨none, .mv 13 (.t 0)⟩, ⟨none, .bin 14 .shr (.t 13) (.c (.int .u64 32))⟩, ⟨none, .mv 15 (.t 0)⟩, ⟨none, .cv 16 .u32 (.t 15)⟩, ⟨none, .cv 17 .u64 (.t 16)⟩, ⟨none, .mv 6 (.t 14)⟩, ⟨none, .mv 7 (.t 17)⟩] [0, 13, 14, 15, 16, 17])
 (.seq (.reg [] [⟨none, .mv 18 (.t 1)⟩, ⟨none, .bin 19 .shr (.t 18) (.c (.int .u64 32))⟩, ⟨none, .mv 20 (.t 1)⟩, ⟨none, .cv 21 .u32 (.t 20)⟩, ⟨none, .cv 22 .u64 (.t 21)⟩, ⟨none, .mv 8 (.t 19)⟩, ⟨none, .mv 9 (.t 22)⟩] [1, 18, 19, 20, 21, 22])
 (.seq (.reg [] [⟨none, .mv 23 (.t 6)⟩, ⟨none, .mv 24 (.t 9)⟩, ⟨none, .bin 25 .mul (.t 23) (.t 24)⟩, ⟨none, .mv 26 (.t 7)⟩, ⟨none, .mv 27 (.t 8)⟩, ⟨none, .bin 28 .mul (.t 26) (.t 27)⟩, ⟨none, .bin 29 .or (.t 25) (.t 28)⟩, ⟨none, .mv 10 (.t 29)⟩] [23, 24, 25, 26, 27, 28, 29])
 (.seq (.seq (.reg [] [⟨none, .mv 30 (.t 6)⟩, ⟨none, .bin 31 .gtr (.t 30) (.c (.int .u64 0))⟩, ⟨none, .mv 32 (.t 31)⟩, ⟨some (32, true), .mv 33 (.t 8)⟩, ⟨some (32, true), .bin 34 .gtr (.t 33) (.c (.int .u64 0))⟩, ⟨none, .pick 35 (.t 32) (.t 34) (.c (.bool false))⟩, ⟨none, .mv 36 (.t 35)⟩, ⟨some (36, false), .mv 37 (.t 10)⟩, ⟨some (36, false), .bin 38 .shr (.t 37) (.c (.int .u64 32))⟩, ⟨some (36, false), .bin 39 .gtr (.t 38) (.c (.int .u64 0))⟩, ⟨none, .pick 40 (.t 36) (.c (.bool true)) (.t 39)⟩] [6, 8, 30, 31, 32, 33, 34, 35, 36, 37, 38, 39])
 (.cond (.t 40) (.seq (.reg [] [⟨none, .mv 4 (.c (.int .u64 0))⟩, ⟨none, .mv 5 (.c (.bool false))⟩] [])
 .ret)
 .skip))
 (.seq (.reg [] [⟨none, .mv 41 (.t 7)⟩, ⟨none, .mv 42 (.t 9)⟩, ⟨none, .bin 43 .mul (.t 41) (.t 42)⟩, ⟨none, .mv 11 (.t 43)⟩] [7, 9, 41, 42, 43])
 (.seq (.reg [] [⟨none, .mv 44 (.t 11)⟩, ⟨none, .mv 45 (.t 10)⟩, ⟨none, .bin 46 .shl (.t 45) (.c (.int .u64 32))⟩, ⟨none, .bin 47 .add (.t 44) (.t 46)⟩, ⟨none, .mv 12 (.t 47)⟩] [10, 44, 45, 46, 47])
 (.seq (.reg [] [⟨none, .mv 48 (.t 12)⟩, ⟨none, .mv 49 (.t 12)⟩, ⟨none, .mv 50 (.t 11)⟩, ⟨none, .bin 51 .geq (.t 49) (.t 50)⟩, ⟨none, .mv 4 (.t 48)⟩, ⟨none, .mv 5 (.t 51)⟩] [11, 12, 48, 49, 50, 51])
 .ret)))))))), [.t 4, .t 5]⟩
/- foliot/sat.Up -/
def k_sat_Up : KF := ⟨(.seq (.reg [] [⟨none, .mv 4 (.c (.int .i64 0))⟩, ⟨none, .mv 5 (.c (.bool false))⟩] [4, 5])
 (.seq (.seq (.reg [] [⟨none, .mv 7 (.t 1)⟩, ⟨none, .bin 8 .lss (.t 7) (.c (.int .i64 1))⟩, ⟨none, .mv 9 (.t 8)⟩, ⟨some (9, false), .mv 10 (.t 0)⟩, ⟨some (9, false), .bin 11 .lss (.t 10) (.c (.int .i64 0))⟩, ⟨none, .pick 12 (.t 9) (.c (.bool true)) (.t 11)⟩] [7, 8, 9, 10, 11])
 (.cond (.t 12) (.seq (.reg [] [⟨none, .mv 4 (.c (.int .i64 0))⟩, ⟨none, .mv 5 (.c (.bool false))⟩] [])
 .ret)
 .skip))
 (.seq (.reg [] [⟨none, .mv 13 (.t 0)⟩, ⟨none, .mv 14 (.t 1)⟩, ⟨none, .bin 15 .quo (.t 13) (.t 14)⟩, ⟨none, .mv 6 (.t 15)⟩] [13, 14, 15])
 (.seq (.seq (.reg [] [⟨none, .mv 16 (.t 0)⟩, ⟨none, .mv 17 (.t 1)⟩, ⟨none, .bin 18 .rem (.t 16) (.t 17)⟩, ⟨none, .bin 19 .gtr (.t 18) (.c (.int .i64 0))⟩] [0, 1, 16, 17, 18])
 (.cond (.t 19) (.reg [] [⟨none, .mv 20 (.t 6)⟩, ⟨none, .bin 21 .add (.t 20) (.c (.int .i64 1))⟩, ⟨none, .mv 6 (.t 21)⟩] [20, 21])
 .skip))
 (.seq (.reg [] [⟨none, .mv 22 (.t 6)⟩, ⟨none, .mv 4 (.t 22)⟩, ⟨none, .mv 5 (.c (.bool true))⟩] [6, 22])
 .ret))))), [.t 4, .t 5]⟩
/- foliot/sat.Sub -/
def k_sat_Sub : KF := ⟨(.seq (.reg [] [⟨none, .mv 4 (.c (.int .i64 0))⟩, ⟨none, .mv 5 (.c (.bool false))⟩] [4, 5])
 (.seq (.reg [] [⟨none, .mv 7 (.t 0)⟩, ⟨none, .cv 8 .u64 (.t 7)⟩, ⟨none, .mv 9 (.t 1)⟩, ⟨none, .cv 10 .u64 (.t 9)⟩, ⟨none, .bin 11 .sub (.t 8) (.t 10)⟩, ⟨none, .cv 12 .i64 (.t 11)⟩, ⟨none, .mv 6 (.t 12)⟩] [7, 8, 9, 10, 11, 12])
 (.seq (.seq (.reg [] [⟨none, .mv 13 (.t 0)⟩, ⟨none, .mv 14 (.t 1)⟩, ⟨none, .bin 15 .xor (.t 13) (.t 14)⟩, ⟨none, .mv 16 (.t 0)⟩, ⟨none, .mv 17 (.t 6)⟩, ⟨none, .bin 18 .xor (.t 16) (.t 17)⟩, ⟨none, .bin 19 .and (.t 15) (.t 18)⟩, ⟨none, .bin 20 .lss (.t 19) (.c (.int .i64 0))⟩] [1, 13, 14, 15, 16, 17, 18, 19])
 (.cond (.t 20) (.seq (.reg [] [⟨none, .mv 21 (.t 0)⟩, ⟨none, .bin 22 .lss (.t 21) (.c (.int .i64 0))⟩, ⟨none, .dat 23 f_sat_end [(.t 22)]⟩, ⟨none, .ex 24 (.t 23) 0⟩, ⟨none, .ex 25 (.t 23) 1⟩, ⟨none, .mv 4 (.t 24)⟩, ⟨none, .mv 5 (.t 25)⟩] [0, 21, 22, 23, 24, 25])
 .ret)
 .skip))
 (.seq (.reg [] [⟨none, .mv 26 (.t 6)⟩, ⟨none, .mv 4 (.t 26)⟩, ⟨none, .mv 5 (.c (.bool true))⟩] [6, 26])
 .ret)))), [.t 4, .t 5]⟩
/- foliot/foliotref1.Add -/
def k_ref1_Add : KF := ⟨(.seq (.reg [] [⟨none, .mv 4 (.c (.int .i64 0))⟩, ⟨none, .mv 5 (.c (.bool false))⟩] [4, 5])
 (.seq (.seq (.reg [] [⟨none, .mv 6 (.t 1)⟩, ⟨none, .bin 7 .gtr (.t 6) (.c (.int .i64 0))⟩, ⟨none, .mv 8 (.t 7)⟩, ⟨some (8, true), .mv 9 (.t 0)⟩, ⟨some (8, true), .mv 10 (.t 1)⟩, ⟨some (8, true), .bin 11 .sub (.c (.int .i64 9223372036854775807)) (.t 10)⟩, ⟨some (8, true), .bin 12 .gtr (.t 9) (.t 11)⟩, ⟨none, .pick 13 (.t 8) (.t 12) (.c (.bool false))⟩] [6, 7, 8, 9, 10, 11, 12])
 (.cond (.t 13) (.seq (.reg [] [⟨none, .mv 4 (.c (.int .i64 9223372036854775807))⟩, ⟨none, .mv 5 (.c (.bool false))⟩] [])
 .ret)
 .skip))
 (.seq (.seq (.reg [] [⟨none, .mv 14 (.t 1)⟩, ⟨none, .bin 15 .lss (.t 14) (.c (.int .i64 0))⟩, ⟨none, .mv 16 (.t 15)⟩, ⟨some (16, true), .mv 17 (.t 0)⟩, ⟨some (16, true), .mv 18 (.t 1)⟩, ⟨some (16, true), .bin 19 .sub (.c (.int .i64 (-9223372036854775808))) (.t 18)⟩, ⟨some (16, true), .bin 20 .lss (.t 17) (.t 19)⟩, ⟨none, .pick 21 (.t 16) (.t 20) (.c (.bool false))⟩] [14, 15, 16, 17, 18, 19, 20])
 (.cond (.t 21) (.seq (.reg [] [⟨none, .mv 4 (.c (.int .i64 (-9223372036854775808)))⟩, ⟨none, .mv 5 (.c (.bool false))⟩] [])
 .ret)
 .skip))
 (.seq (.reg [] [⟨none, .mv 22 (.t 0)⟩, ⟨none, .mv 23 (.t 1)⟩, ⟨none, .bin 24 .add (.t 22) (.t 23)⟩, ⟨none, .mv 4 (.t 24)⟩, ⟨none, .mv 5 (.c (.bool true))⟩] [0, 1, 22, 23, 24])
 .ret)))), [.t 4, .t 5]⟩
/- foliot/foliotref1.Sub -/
def k_ref1_Sub : KF := ⟨(.seq (.reg [] [⟨none, .mv 4 (.c (.int .i64 0))⟩, ⟨none, .mv 5 (.c (.bool false))⟩] [4, 5])
 (.seq (.seq (.reg [] [⟨none, .mv 6 (.t 1)⟩, ⟨none, .bin 7 .lss (.t 6) (.c (.int .i64 0))⟩, ⟨none, .mv 8 (.t 7)⟩, ⟨some (8, true), .mv 9 (.t 0)⟩, ⟨some (8, true), .mv 10 (.t 1)⟩, ⟨some (8, true), .bin 11 .add (.c (.int .i64 9223372036854775807)) (.t 10)⟩, ⟨some (8, true), .bin 12 .gtr (.t 9) (.t 11)⟩, ⟨none, .pick 13 (.t 8) (.t 12) (.c (.bool false))⟩] [6, 7, 8, 9, 10, 11, 12])
 (.cond (.t 13) (.seq (.reg [] [⟨none, .mv 4 (.c (.int .i64 9223372036854775807))⟩, ⟨none, .mv 5 (.c (.bool false))⟩] [])
 .ret)
 .skip))
 (.seq (.seq (.reg [] [⟨none, .mv 14 (.t 1)⟩, ⟨none, .bin 15 .gtr (.t 14) (.c (.int .i64 0))⟩, ⟨none, .mv 16 (.t 15)⟩, ⟨some (16, true), .mv 17 (.t 0)⟩, ⟨some (16, true), .mv 18 (.t 1)⟩, ⟨some (16, true), .bin 19 .add (.c (.int .i64 (-9223372036854775808))) (.t 18)⟩, ⟨some (16, true), .bin 20 .lss (.t 17) (.t 19)⟩, ⟨none, .pick 21 (.t 16) (.t 20) (.c (.bool false))⟩] [14, 15, 16, 17, 18, 19, 20])
 (.cond (.t 21) (.seq (.reg [] [⟨none, .mv 4 (.c (.int .i64 (-9223372036854775808)))⟩, ⟨none, .mv 5 (.c (.bool false))⟩] [])
 .ret)
 .skip))
 (.seq (.reg [] [⟨none, .mv 22 (.t 0)⟩, ⟨none, .mv 23 (.t 1)⟩, ⟨none, .bin 24 .sub (.t 22) (.t 23)⟩, ⟨none, .mv 4 (.t 24)⟩, ⟨none, .mv 5 (.c (.bool true))⟩] [0, 1, 22, 23, 24])
 .ret)))), [.t 4, .t 5]⟩
/- foliot/foliotref1.Mul -/
def k_ref1_Mul : KF := ⟨(.seq (.reg [] [⟨none, .mv 4 (.c (.int .i64 0))⟩, ⟨none, .mv 5 (.c (.bool false))⟩] [4, 5])
 (.seq (.seq (.reg [] [⟨none, .mv 7 (.t 0)⟩, ⟨none, .bin 8 .eql (.t 7) (.c (.int .i64 0))⟩, ⟨none, .mv 9 (.t 8)⟩, ⟨some (9, false), .mv 10 (.t 1)⟩, ⟨some (9, false), .bin 11 .eql (.t 10) (.c (.int .i64 0))⟩, ⟨none, .pick 12 (.t 9) (.c (.bool true)) (.t 11)⟩] [7, 8, 9, 10, 11])
 (.cond (.t 12) (.seq (.reg [] [⟨none, .mv 4 (.c (.int .i64 0))⟩, ⟨none, .mv 5 (.c (.bool true))⟩] [])
 .ret)
 .skip))
 (.seq (.reg [] [⟨none, .mv 13 (.t 0)⟩, ⟨none, .mv 14 (.t 1)⟩, ⟨none, .bin 15 .mul (.t 13) (.t 14)⟩, ⟨none, .mv 6 (.t 15)⟩] [13, 14, 15])
 (.seq (.seq (.reg [] [⟨none, .mv 16 (.t 0)⟩, ⟨none, .bin 17 .eql (.t 16) (.c (.int .i64 (-1)))⟩, ⟨none, .mv 18 (.t 17)⟩, ⟨some (18, true), .mv 19 (.t 1)⟩, ⟨some (18, true), .bin 20 .eql (.t 19) (.c (.int .i64 (-9223372036854775808)))⟩, ⟨none, .pick 21 (.t 18) (.t 20) (.c (.bool false))⟩, ⟨none, .mv 22 (.t 21)⟩, ⟨some (22, false), .mv 23 (.t 1)⟩, ⟨some (22, false), .bin 24 .eql (.t 23) (.c (.int .i64 (-1)))⟩, ⟨some (22, false), .mv 25 (.t 24)⟩, ⟨some (25, true), .mv 26 (.t 0)⟩, ⟨some (25, true), .bin 27 .eql (.t 26) (.c (.int .i64 (-9223372036854775808)))⟩, ⟨some (22, false), .pick 28 (.t 25) (.t 27) (.c (.bool false))⟩, ⟨none, .pick 29 (.t 22) (.c (.bool true)) (.t 28)⟩, ⟨none, .mv 30 (.t 29)⟩, ⟨some (30, false), .mv 31 (.t 0)⟩, ⟨some (30, false), .bin 32 .neq (.t 31) (.c (.int .i64 (-1)))⟩, ⟨some (30, false), .mv 33 (.t 32)⟩, ⟨some (33, true), .mv 34 (.t 6)⟩, ⟨some (33, true), .mv 35 (.t 0)⟩, ⟨some (33, true), .bin 36 .quo (.t 34) (.t 35)⟩, ⟨some (33, true), .mv 37 (.t 1)⟩, ⟨some (33, true), .bin 38 .neq (.t 36) (.t 37)⟩, ⟨some (30, false), .pick 39 (.t 33) (.t 38) (.c (.bool false))⟩, ⟨none, .pick 40 (.t 30) (.c (.bool true)) (.t 39)⟩, ⟨none, .mv 41 (.t 40)⟩, ⟨some (41, false), .mv 42 (.t 0)⟩, ⟨some (41, false), .bin 43 .eql (.t 42) (.c (.int .i64 (-1)))⟩, ⟨some (41, false), .mv 44 (.t 43)⟩, ⟨some (44, true), .mv 45 (.t 6)⟩, ⟨some (44, true), .mv 46 (.t 1)⟩, ⟨some (44, true), .un 47 .neg (.t 46)⟩, ⟨some (44, true), .bin 48 .neq (.t 45) (.t 47)⟩, ⟨some (41, false), .pick 49 (.t 44) (.t 48) (.c (.bool false))⟩, ⟨none, .pick 50 (.t 41) (.c (.bool true)) (.t 49)⟩] [16, 17, 18, 19, 20, 21, 22, 23, 24, 25, 26, 27, 28, 29, 30, 31, 32, 33, 34, 35, 36, 37, 38, 39, 40, 41, 42, 43, 44, 45, 46, 47, 48, 49])
 (.cond (.t 50) (.seq (.seq (.reg [] [⟨none, .mv 51 (.t 0)⟩, ⟨none, .bin 52 .lss (.t 51) (.c (.int .i64 0))⟩, ⟨none, .mv 53 (.t 1)⟩, ⟨none, .bin 54 .lss (.t 53) (.c (.int .i64 0))⟩, ⟨none, .bin 55 .eql (.t 52) (.t 54)⟩] [0, 1, 51, 52, 53, 54])
 (.cond (.t 55) (.seq (.reg [] [⟨none, .mv 4 (.c (.int .i64 9223372036854775807))⟩, ⟨none, .mv 5 (.c (.bool false))⟩] [])
 .ret)
 .skip))
 (.seq (.reg [] [⟨none, .mv 4 (.c (.int .i64 (-9223372036854775808)))⟩, ⟨none, .mv 5 (.c (.bool false))⟩] [])
 .ret))
 .skip))
 (.seq (.reg [] [⟨none, .mv 56 (.t 6)⟩, ⟨none, .mv 4 (.t 56)⟩, ⟨none, .mv 5 (.c (.bool true))⟩] [6, 56])
 .ret))))), [.t 4, .t 5]⟩
/- foliot/foliotref1.Up -/
def k_ref1_Up : KF := ⟨(.seq (.reg [] [⟨none, .mv 4 (.c (.int .i64 0))⟩, ⟨none, .mv 5 (.c (.bool false))⟩] [4, 5])
 (.seq (.seq (.reg [] [⟨none, .mv 7 (.t 1)⟩, ⟨none, .bin 8 .lss (.t 7) (.c (.int .i64 1))⟩, ⟨none, .mv 9 (.t 8)⟩, ⟨some (9, false), .mv 10 (.t 0)⟩, ⟨some (9, false), .bin 11 .lss (.t 10) (.c (.int .i64 0))⟩, ⟨none, .pick 12 (.t 9) (.c (.bool true)) (.t 11)⟩] [7, 8, 9, 10, 11])
 (.cond (.t 12) (.seq (.reg [] [⟨none, .mv 4 (.c (.int .i64 0))⟩, ⟨none, .mv 5 (.c (.bool false))⟩] [])
 .ret)
 .skip))
 (.seq (.reg [] [⟨none, .mv 13 (.t 0)⟩, ⟨none, .mv 14 (.t 1)⟩, ⟨none, .bin 15 .quo (.t 13) (.t 14)⟩, ⟨none, .mv 6 (.t 15)⟩] [13, 14, 15])
 (.seq (.seq (.reg [] [⟨none, .mv 16 (.t 0)⟩, ⟨none, .mv 17 (.t 1)⟩, ⟨none, .bin 18 .rem (.t 16) (.t 17)⟩, ⟨none, .bin 19 .gtr (.t 18) (.c (.int .i64 0))⟩] [0, 1, 16, 17, 18])
 (.cond (.t 19) (.reg [] [⟨none, .mv 20 (.t 6)⟩, ⟨none, .bin 21 .add (.t 20) (.c (.int .i64 1))⟩, ⟨none, .mv 6 (.t 21)⟩] [20, 21])
 .skip))
 (.seq (.reg [] [⟨none, .mv 22 (.t 6)⟩, ⟨none, .mv 4 (.t 22)⟩, ⟨none, .mv 5 (.c (.bool true))⟩] [6, 22])
 .ret))))), [.t 4, .t 5]⟩
/- foliot/foliotlaw1.SatUp -/
def k_law1_SatUp : KF := ⟨(.seq (.reg [] [⟨none, .mv 4 (.c (.bool false))⟩] [4])
 (.seq (.seq (.reg [] [⟨none, .dat 10 f_law1_begun []⟩, ⟨none, .un 11 .not (.t 10)⟩] [10])
 (.cond (.t 11) (.seq (.reg [] [⟨none, .mv 4 (.c (.bool false))⟩] [])
 .ret)
 .skip))
 (.seq (.seq (.reg [] [⟨none, .mv 12 (.t 0)⟩, ⟨none, .bin 13 .lss (.t 12) (.c (.int .i64 0))⟩, ⟨none, .mv 14 (.t 13)⟩, ⟨some (14, false), .mv 15 (.t 1)⟩, ⟨some (14, false), .bin 16 .lss (.t 15) (.c (.int .i64 1))⟩, ⟨none, .pick 17 (.t 14) (.c (.bool true)) (.t 16)⟩] [12, 13, 14, 15, 16])
 (.cond (.t 17) (.seq (.reg [] [⟨none, .mv 19 (.t 0)⟩, ⟨none, .mv 20 (.t 1)⟩, ⟨none, .dat 21 f_sat_Up [(.t 19), (.t 20)]⟩, ⟨none, .mv 18 (.t 21)⟩, ⟨none, .ex 22 (.t 18) 0⟩, ⟨none, .ex 23 (.t 18) 1⟩, ⟨none, .mv 5 (.t 22)⟩, ⟨none, .mv 6 (.t 23)⟩] [0, 1, 18, 19, 20, 21, 22, 23])
 (.seq (.reg [] [⟨none, .mv 24 (.t 6)⟩, ⟨none, .un 25 .not (.t 24)⟩, ⟨none, .mv 26 (.t 25)⟩, ⟨some (26, true), .mv 27 (.t 5)⟩, ⟨some (26, true), .bin 28 .eql (.t 27) (.c (.int .i64 0))⟩, ⟨none, .pick 29 (.t 26) (.t 28) (.c (.bool false))⟩, ⟨none, .mv 4 (.t 29)⟩] [5, 6, 24, 25, 26, 27, 28, 29])
 .ret))
 .skip))
 (.seq (.reg [] [⟨none, .mv 31 (.t 0)⟩, ⟨none, .mv 32 (.t 1)⟩, ⟨none, .dat 33 f_sat_Up [(.t 31), (.t 32)]⟩, ⟨none, .mv 30 (.t 33)⟩, ⟨none, .ex 34 (.t 30) 0⟩, ⟨none, .ex 35 (.t 30) 1⟩, ⟨none, .mv 7 (.t 34)⟩, ⟨none, .mv 8 (.t 35)⟩] [30, 31, 32, 33, 34, 35])
 (.seq (.seq (.reg [] [⟨none, .mv 36 (.t 8)⟩, ⟨none, .un 37 .not (.t 36)⟩, ⟨none, .mv 38 (.t 37)⟩, ⟨some (38, false), .mv 39 (.t 7)⟩, ⟨some (38, false), .bin 40 .lss (.t 39) (.c (.int .i64 0))⟩, ⟨none, .pick 41 (.t 38) (.c (.bool true)) (.t 40)⟩, ⟨none, .mv 42 (.t 41)⟩, ⟨some (42, false), .mv 43 (.t 7)⟩, ⟨some (42, false), .mv 44 (.t 0)⟩, ⟨some (42, false), .bin 45 .gtr (.t 43) (.t 44)⟩, ⟨none, .pick 46 (.t 42) (.c (.bool true)) (.t 45)⟩] [8, 36, 37, 38, 39, 40, 41, 42, 43, 44, 45])
 (.cond (.t 46) (.seq (.reg [] [⟨none, .mv 4 (.c (.bool false))⟩] [])
 .ret)
 .skip))
 (.seq (.reg [] [⟨none, .mv 47 (.t 0)⟩, ⟨none, .mv 48 (.t 7)⟩, ⟨none, .bin 49 .sub (.t 48) (.c (.int .i64 1))⟩, ⟨none, .mv 50 (.t 1)⟩, ⟨none, .bin 51 .mul (.t 49) (.t 50)⟩, ⟨none, .bin 52 .sub (.t 47) (.t 51)⟩, ⟨none, .mv 9 (.t 52)⟩] [47, 48, 49, 50, 51, 52])
 (.seq (.reg [] [⟨none, .mv 53 (.t 7)⟩, ⟨none, .bin 54 .eql (.t 53) (.c (.int .i64 0))⟩, ⟨none, .mv 55 (.t 54)⟩, ⟨some (55, true), .mv 56 (.t 0)⟩, ⟨some (55, true), .bin 57 .eql (.t 56) (.c (.int .i64 0))⟩, ⟨none, .pick 58 (.t 55) (.t 57) (.c (.bool false))⟩, ⟨none, .mv 59 (.t 58)⟩, ⟨some (59, false), .mv 60 (.t 7)⟩, ⟨some (59, false), .bin 61 .gtr (.t 60) (.c (.int .i64 0))⟩, ⟨some (59, false), .mv 62 (.t 61)⟩, ⟨some (62, true), .mv 63 (.t 9)⟩, ⟨some (62, true), .bin 64 .gtr (.t 63) (.c (.int .i64 0))⟩, ⟨some (59, false), .pick 65 (.t 62) (.t 64) (.c (.bool false))⟩, ⟨some (59, false), .mv 66 (.t 65)⟩, ⟨some (66, true), .mv 67 (.t 9)⟩, ⟨some (66, true), .mv 68 (.t 1)⟩, ⟨some (66, true), .bin 69 .leq (.t 67) (.t 68)⟩, ⟨some (59, false), .pick 70 (.t 66) (.t 69) (.c (.bool false))⟩, ⟨none, .pick 71 (.t 59) (.c (.bool true)) (.t 70)⟩, ⟨none, .mv 4 (.t 71)⟩] [0, 1, 7, 9, 53, 54, 55, 56, 57, 58, 59, 60, 61, 62, 63, 64, 65, 66, 67, 68, 69, 70, 71])
 .ret))))))), [.t 4]⟩
/- foliot/foliotlaw1.SatBack -/
def k_law1_SatBack : KF := ⟨(.seq (.reg [] [⟨none, .mv 4 (.c (.bool false))⟩] [4])
 (.seq (.seq (.reg [] [⟨none, .dat 15 f_law1_begun []⟩, ⟨none, .un 16 .not (.t 15)⟩] [15])
 (.cond (.t 16) (.seq (.reg [] [⟨none, .mv 4 (.c (.bool false))⟩] [])
 .ret)
 .skip))
 (.seq (.reg [] [⟨none, .mv 18 (.t 0)⟩, ⟨none, .mv 19 (.t 1)⟩, ⟨none, .dat 20 f_sat_Add [(.t 18), (.t 19)]⟩, ⟨none, .mv 17 (.t 20)⟩, ⟨none, .ex 21 (.t 17) 0⟩, ⟨none, .ex 22 (.t 17) 1⟩, ⟨none, .mv 5 (.t 21)⟩, ⟨none, .mv 6 (.t 22)⟩] [17, 18, 19, 20, 21, 22])
 (.seq (.reg [] [⟨none, .mv 24 (.t 1)⟩, ⟨none, .mv 25 (.t 0)⟩, ⟨none, .dat 26 f_sat_Add [(.t 24), (.t 25)]⟩, ⟨none, .mv 23 (.t 26)⟩, ⟨none, .ex 27 (.t 23) 0⟩, ⟨none, .ex 28 (.t 23) 1⟩, ⟨none, .mv 7 (.t 27)⟩, ⟨none, .mv 8 (.t 28)⟩] [23, 24, 25, 26, 27, 28])
 (.seq (.reg [] [⟨none, .mv 30 (.t 0)⟩, ⟨none, .mv 31 (.t 1)⟩, ⟨none, .dat 32 f_sat_Mul [(.t 30), (.t 31)]⟩, ⟨none, .mv 29 (.t 32)⟩, ⟨none, .ex 33 (.t 29) 0⟩, ⟨none, .ex 34 (.t 29) 1⟩, ⟨none, .mv 9 (.t 33)⟩, ⟨none, .mv 10 (.t 34)⟩] [29, 30, 31, 32, 33, 34])
 (.seq (.reg [] [⟨none, .mv 36 (.t 1)⟩, ⟨none, .mv 37 (.t 0)⟩, ⟨none, .dat 38 f_sat_Mul [(.t 36), (.t 37)]⟩, ⟨none, .mv 35 (.t 38)⟩, ⟨none, .ex 39 (.t 35) 0⟩, ⟨none, .ex 40 (.t 35) 1⟩, ⟨none, .mv 11 (.t 39)⟩, ⟨none, .mv 12 (.t 40)⟩] [35, 36, 37, 38, 39, 40])
 (.seq (.seq (.reg [] [⟨none, .mv 41 (.t 5)⟩, ⟨none, .mv 42 (.t 7)⟩, ⟨none, .bin 43 .neq (.t 41) (.t 42)⟩, ⟨none, .mv 44 (.t 43)⟩, ⟨some (44, false), .mv 45 (.t 6)⟩, ⟨some (44, false), .mv 46 (.t 8)⟩, ⟨some (44, false), .bin 47 .neq (.t 45) (.t 46)⟩, ⟨none, .pick 48 (.t 44) (.c (.bool true)) (.t 47)⟩, ⟨none, .mv 49 (.t 48)⟩, ⟨some (49, false), .mv 50 (.t 9)⟩, ⟨some (49, false), .mv 51 (.t 11)⟩, ⟨some (49, false), .bin 52 .neq (.t 50) (.t 51)⟩, ⟨none, .pick 53 (.t 49) (.c (.bool true)) (.t 52)⟩, ⟨none, .mv 54 (.t 53)⟩, ⟨some (54, false), .mv 55 (.t 10)⟩, ⟨some (54, false), .mv 56 (.t 12)⟩, ⟨some (54, false), .bin 57 .neq (.t 55) (.t 56)⟩, ⟨none, .pick 58 (.t 54) (.c (.bool true)) (.t 57)⟩] [7, 8, 11, 12, 41, 42, 43, 44, 45, 46, 47, 48, 49, 50, 51, 52, 53, 54, 55, 56, 57])
 (.cond (.t 58) (.seq (.reg [] [⟨none, .mv 4 (.c (.bool false))⟩] [])
 .ret)
 .skip))
 (.seq (.seq (.reg [] [⟨none, .mv 59 (.t 6)⟩, ⟨none, .un 60 .not (.t 59)⟩] [6, 59])
 (.cond (.t 60) (.seq (.reg [] [⟨none, .mv 61 (.t 0)⟩, ⟨none, .bin 62 .gtr (.t 61) (.c (.int .i64 0))⟩, ⟨none, .mv 63 (.t 1)⟩, ⟨none, .bin 64 .gtr (.t 63) (.c (.int .i64 0))⟩, ⟨none, .bin 65 .eql (.t 62) (.t 64)⟩, ⟨none, .mv 66 (.t 65)⟩, ⟨some (66, true), .mv 67 (.t 5)⟩, ⟨some (66, true), .bin 68 .eql (.t 67) (.c (.int .i64 9223372036854775807))⟩, ⟨some (66, true), .mv 69 (.t 68)⟩, ⟨some (69, true), .mv 70 (.t 0)⟩, ⟨some (69, true), .bin 71 .gtr (.t 70) (.c (.int .i64 0))⟩, ⟨some (66, true), .pick 72 (.t 69) (.t 71) (.c (.bool false))⟩, ⟨some (66, true), .mv 73 (.t 72)⟩, ⟨some (73, false), .mv 74 (.t 5)⟩, ⟨some (73, false), .bin 75 .eql (.t 74) (.c (.int .i64 (-9223372036854775808)))⟩, ⟨some (73, false), .mv 76 (.t 75)⟩, ⟨some (76, true), .mv 77 (.t 0)⟩, ⟨some (76, true), .bin 78 .lss (.t 77) (.c (.int .i64 0))⟩, ⟨some (73, false), .pick 79 (.t 76) (.t 78) (.c (.bool false))⟩, ⟨some (66, true), .pick 80 (.t 73) (.c (.bool true)) (.t 79)⟩, ⟨none, .pick 81 (.t 66) (.t 80) (.c (.bool false))⟩, ⟨none, .mv 4 (.t 81)⟩] [0, 1, 5, 61, 62, 63, 64, 65, 66, 67, 68, 69, 70, 71, 72, 73, 74, 75, 76, 77, 78, 79, 80, 81])
 .ret)
 .skip))
 (.seq (.reg [] [⟨none, .mv 83 (.t 5)⟩, ⟨none, .mv 84 (.t 1)⟩, ⟨none, .dat 85 f_sat_Sub [(.t 83), (.t 84)]⟩, ⟨none, .mv 82 (.t 85)⟩, ⟨none, .ex 86 (.t 82) 0⟩, ⟨none, .ex 87 (.t 82) 1⟩, ⟨none, .mv 13 (.t 86)⟩, ⟨none, .mv 14 (.t 87)⟩] [5, 82, 83, 84, 85, 86, 87])
 (.seq (.reg [] [⟨none, .mv 88 (.t 14)⟩, ⟨none, .mv 89 (.t 88)⟩, ⟨some (89, true), .mv 90 (.t 13)⟩, ⟨some (89, true), .mv 91 (.t 0)⟩, ⟨some (89, true), .bin 92 .eql (.t 90) (.t 91)⟩, ⟨none, .pick 93 (.t 89) (.t 92) (.c (.bool false))⟩, ⟨none, .mv 94 (.t 93)⟩, ⟨some (94, true), .mv 95 (.t 10)⟩, ⟨some (94, true), .un 96 .not (.t 95)⟩, ⟨some (94, true), .mv 97 (.t 96)⟩, ⟨some (97, false), .mv 98 (.t 1)⟩, ⟨some (97, false), .bin 99 .eql (.t 98) (.c (.int .i64 0))⟩, ⟨some (94, true), .pick 100 (.t 97) (.c (.bool true)) (.t 99)⟩, ⟨some (94, true), .mv 101 (.t 100)⟩, ⟨some (101, false), .mv 102 (.t 9)⟩, ⟨some (101, false), .mv 103 (.t 1)⟩, ⟨some (101, false), .bin 104 .rem (.t 102) (.t 103)⟩, ⟨some (101, false), .bin 105 .eql (.t 104) (.c (.int .i64 0))⟩, ⟨some (101, false), .mv 106 (.t 105)⟩, ⟨some (106, true), .mv 107 (.t 9)⟩, ⟨some (106, true), .mv 108 (.t 1)⟩, ⟨some (106, true), .bin 109 .quo (.t 107) (.t 108)⟩, ⟨some (106, true), .mv 110 (.t 0)⟩, ⟨some (106, true), .bin 111 .eql (.t 109) (.t 110)⟩, ⟨some (101, false), .pick 112 (.t 106) (.t 111) (.c (.bool false))⟩, ⟨some (94, true), .pick 113 (.t 101) (.c (.bool true)) (.t 112)⟩, ⟨some (94, true), .mv 114 (.t 113)⟩, ⟨some (114, false), .mv 115 (.t 0)⟩, ⟨some (114, false), .bin 116 .eql (.t 115) (.c (.int .i64 (-9223372036854775808)))⟩, ⟨some (114, false), .mv 117 (.t 116)⟩, ⟨some (117, true), .mv 118 (.t 1)⟩, ⟨some (117, true), .bin 119 .eql (.t 118) (.c (.int .i64 (-1)))⟩, ⟨some (114, false), .pick 120 (.t 117) (.t 119) (.c (.bool false))⟩, ⟨some (94, true), .pick 121 (.t 114) (.c (.bool true)) (.t 120)⟩, ⟨none, .pick 122 (.t 94) (.t 121) (.c (.bool false))⟩, ⟨none, .mv 123 (.t 122)⟩, ⟨some (123, true), .mv 124 (.t 10)⟩, ⟨some (123, true), .mv 125 (.t 124)⟩, ⟨some (125, false), .mv 126 (.t 9)⟩, ⟨some (125, false), .bin 127 .eql (.t 126) (.c (.int .i64 9223372036854775807))⟩, ⟨some (125, false), .mv 128 (.t 127)⟩, ⟨some (128, true), .mv 129 (.t 0)⟩, ⟨some (128, true), .bin 130 .gtr (.t 129) (.c (.int .i64 0))⟩, ⟨some (128, true), .mv 131 (.t 1)⟩, ⟨some (128, true), .bin 132 .gtr (.t 131) (.c (.int .i64 0))⟩, ⟨some (128, true), .bin 133 .eql (.t 130) (.t 132)⟩, ⟨some (125, false), .pick 134 (.t 128) (.t 133) (.c (.bool false))⟩, ⟨some (123, true), .pick 135 (.t 125) (.c (.bool true)) (.t 134)⟩, ⟨some (123, true), .mv 136 (.t 135)⟩, ⟨some (136, false), .mv 137 (.t 9)⟩, ⟨some (136, false), .bin 138 .eql (.t 137) (.c (.int .i64 (-9223372036854775808)))⟩, ⟨some (136, false), .mv 139 (.t 138)⟩, ⟨some (139, true), .mv 140 (.t 0)⟩, ⟨some (139, true), .bin 141 .gtr (.t 140) (.c (.int .i64 0))⟩, ⟨some (139, true), .mv 142 (.t 1)⟩, ⟨some (139, true), .bin 143 .gtr (.t 142) (.c (.int .i64 0))⟩, ⟨some (139, true), .bin 144 .neq (.t 141) (.t 143)⟩, ⟨some (136, false), .pick 145 (.t 139) (.t 144) (.c (.bool false))⟩, ⟨some (123, true), .pick 146 (.t 136) (.c (.bool true)) (.t 145)⟩, ⟨none, .pick 147 (.t 123) (.t 146) (.c (.bool false))⟩, ⟨none, .mv 4 (.t 147)⟩] [0, 1, 9, 10, 13, 14, 88, 89, 90, 91, 92, 93, 94, 95, 96, 97, 98, 99, 100, 101, 102, 103, 104, 105, 106, 107, 108, 109, 110, 111, 112, 113, 114, 115, 116, 117, 118, 119, 120, 121, 122, 123, 124, 125, 126, 127, 128, 129, 130, 131, 132, 133, 134, 135, 136, 137, 138, 139, 140, 141, 142, 143, 144, 145, 146, 147])
 .ret)))))))))), [.t 4]⟩
/- foliot/foliotlaw1.SatForms -/
def k_law1_SatForms_L0b : K := (.seq (.seq (.reg [] [⟨none, .mv 24 (.t 5)⟩, ⟨none, .mv 25 (.t 1)⟩, ⟨none, .len 26 (.t 25)⟩, ⟨none, .bin 27 .lss (.t 24) (.t 26)⟩] [24, 25, 26])
 (.cond (.t 27) .skip
 (.ext 0)))
 (.seq (.blk 1 (.seq (.reg [] [⟨none, .mv 31 (.t 1)⟩, ⟨none, .mv 32 (.t 5)⟩, ⟨none, .ia 33 (.t 31) (.t 32)⟩, ⟨none, .ld 34 (.t 33)⟩, ⟨none, .mv 35 (.t 2)⟩, ⟨none, .mv 36 (.t 5)⟩, ⟨none, .ia 37 (.t 35) (.t 36)⟩, ⟨none, .ld 38 (.t 37)⟩, ⟨none, .dat 39 f_sat_Mul [(.t 34), (.t 38)]⟩, ⟨none, .mv 30 (.t 39)⟩, ⟨none, .ex 40 (.t 30) 0⟩, ⟨none, .ex 41 (.t 30) 1⟩, ⟨none, .mv 6 (.t 40)⟩, ⟨none, .mv 7 (.t 41)⟩] [30, 31, 32, 33, 34, 35, 36, 37, 38, 39, 40, 41])
 (.seq (.reg [] [⟨none, .mv 42 (.t 6)⟩, ⟨none, .mv 43 (.t 3)⟩, ⟨none, .mv 44 (.t 5)⟩, ⟨none, .ia 45 (.t 43) (.t 44)⟩, ⟨none, .ld 46 (.t 45)⟩, ⟨none, .bin 47 .neq (.t 42) (.t 46)⟩, ⟨none, .mv 48 (.t 47)⟩, ⟨some (48, false), .mv 49 (.t 7)⟩, ⟨some (48, false), .mv 50 (.t 4)⟩, ⟨some (48, false), .mv 51 (.t 5)⟩, ⟨some (48, false), .ia 52 (.t 50) (.t 51)⟩, ⟨some (48, false), .ld 53 (.t 52)⟩, ⟨some (48, false), .bin 54 .neq (.t 49) (.t 53)⟩, ⟨none, .pick 55 (.t 48) (.c (.bool true)) (.t 54)⟩] [6, 7, 42, 43, 44, 45, 46, 47, 48, 49, 50, 51, 52, 53, 54])
 (.cond (.t 55) (.seq (.reg [] [⟨none, .mv 0 (.c (.bool false))⟩] [])
 .ret)
 .skip))))
 (.reg [] [⟨none, .mv 28 (.t 5)⟩, ⟨none, .bin 29 .add (.t 28) (.c (.int .i64 1))⟩, ⟨none, .mv 5 (.t 29)⟩] [28, 29])))
def k_law1_SatForms_L0 : K := k_law1_SatForms_L0b
def k_law1_SatForms : KF := ⟨(.seq (.reg [] [⟨none, .mv 0 (.c (.bool false))⟩] [0])
 (.seq (.seq (.reg [] [⟨none, .dat 18 f_law1_begun []⟩, ⟨none, .un 19 .not (.t 18)⟩] [18])
 (.cond (.t 19) (.seq (.reg [] [⟨none, .mv 0 (.c (.bool false))⟩] [])
 .ret)
 .skip))
 (.seq (.reg [] [⟨none, .bsl 20 [(.c (.int .i64 (-9223372036854775808))), (.c (.int .i64 (-9223372036854775808))), (.c (.int .i64 (-1))), (.c (.int .i64 9223372036854775807)), (.c (.int .i64 9223372036854775807)), (.c (.int .i64 4294967296)), (.c (.int .i64 2147483648)), (.c (.int .i64 0)), (.c (.int .i64 (-9223372036854775808)))]⟩, ⟨none, .bsl 21 [(.c (.int .i64 (-1))), (.c (.int .i64 1)), (.c (.int .i64 (-9223372036854775808))), (.c (.int .i64 2)), (.c (.int .i64 1)), (.c (.int .i64 2147483648)), (.c (.int .i64 4294967296)), (.c (.int .i64 (-9223372036854775808))), (.c (.int .i64 (-9223372036854775808)))]⟩, ⟨none, .mv 1 (.t 20)⟩, ⟨none, .mv 2 (.t 21)⟩] [20, 21])
 (.seq (.reg [] [⟨none, .bsl 22 [(.c (.int .i64 9223372036854775807)), (.c (.int .i64 (-9223372036854775808))), (.c (.int .i64 9223372036854775807)), (.c (.int .i64 9223372036854775807)), (.c (.int .i64 9223372036854775807)), (.c (.int .i64 9223372036854775807)), (.c (.int .i64 9223372036854775807)), (.c (.int .i64 0)), (.c (.int .i64 9223372036854775807))]⟩, ⟨none, .bsl 23 [(.c (.bool false)), (.c (.bool true)), (.c (.bool false)), (.c (.bool false)), (.c (.bool true)), (.c (.bool false)), (.c (.bool false)), (.c (.bool true)), (.c (.bool false))]⟩, ⟨none, .mv 3 (.t 22)⟩, ⟨none, .mv 4 (.t 23)⟩] [22, 23])
 (.seq (.seq (.reg [] [⟨none, .mv 5 (.c (.int .i64 0))⟩] [])
 (.blk 0 (.loop [1, 2, 3, 4, 5] k_law1_SatForms_L0)))
 (.seq (.reg [] [⟨none, .dat 57 f_sat_Sub [(.c (.int .i64 0)), (.c (.int .i64 (-9223372036854775808)))]⟩, ⟨none, .mv 56 (.t 57)⟩, ⟨none, .ex 58 (.t 56) 0⟩, ⟨none, .ex 59 (.t 56) 1⟩, ⟨none, .mv 8 (.t 58)⟩, ⟨none, .mv 9 (.t 59)⟩] [56, 57, 58, 59])
 (.seq (.reg [] [⟨none, .dat 61 f_sat_Sub [(.c (.int .i64 (-1))), (.c (.int .i64 (-9223372036854775808)))]⟩, ⟨none, .mv 60 (.t 61)⟩, ⟨none, .ex 62 (.t 60) 0⟩, ⟨none, .ex 63 (.t 60) 1⟩, ⟨none, .mv 10 (.t 62)⟩, ⟨none, .mv 11 (.t 63)⟩] [60, 61, 62, 63])
 (.seq (.reg [] [⟨none, .dat 65 f_sat_Add [(.c (.int .i64 (-9223372036854775808))), (.c (.int .i64 (-1)))]⟩, ⟨none, .mv 64 (.t 65)⟩, ⟨none, .ex 66 (.t 64) 0⟩, ⟨none, .ex 67 (.t 64) 1⟩, ⟨none, .mv 12 (.t 66)⟩, ⟨none, .mv 13 (.t 67)⟩] [64, 65, 66, 67])
 (.seq (.reg [] [⟨none, .dat 69 f_sat_Up [(.c (.int .i64 9223372036854775807)), (.c (.int .i64 2))]⟩, ⟨none, .mv 68 (.t 69)⟩, ⟨none, .ex 70 (.t 68) 0⟩, ⟨none, .ex 71 (.t 68) 1⟩, ⟨none, .mv 14 (.t 70)⟩, ⟨none, .mv 15 (.t 71)⟩] [68, 69, 70, 71])
 (.seq (.reg [] [⟨none, .dat 73 f_sat_Up [(.c (.int .i64 1)), (.c (.int .i64 0))]⟩, ⟨none, .mv 72 (.t 73)⟩, ⟨none, .ex 74 (.t 72) 0⟩, ⟨none, .ex 75 (.t 72) 1⟩, ⟨none, .mv 16 (.t 74)⟩, ⟨none, .mv 17 (.t 75)⟩] [16, 72, 73, 74, 75])
 (.seq (.reg [] [⟨none, .mv 76 (.t 8)⟩, ⟨none, .bin 77 .eql (.t 76) (.c (.int .i64 9223372036854775807))⟩, ⟨none, .mv 78 (.t 77)⟩, ⟨some (78, true), .mv 79 (.t 9)⟩, ⟨some (78, true), .un 80 .not (.t 79)⟩, ⟨none, .pick 81 (.t 78) (.t 80) (.c (.bool false))⟩, ⟨none, .mv 82 (.t 81)⟩, ⟨some (82, true), .mv 83 (.t 10)⟩, ⟨some (82, true), .bin 84 .eql (.t 83) (.c (.int .i64 9223372036854775807))⟩, ⟨none, .pick 85 (.t 82) (.t 84) (.c (.bool false))⟩, ⟨none, .mv 86 (.t 85)⟩, ⟨some (86, true), .mv 87 (.t 11)⟩, ⟨none, .pick 88 (.t 86) (.t 87) (.c (.bool false))⟩, ⟨none, .mv 89 (.t 88)⟩, ⟨some (89, true), .mv 90 (.t 12)⟩, ⟨some (89, true), .bin 91 .eql (.t 90) (.c (.int .i64 (-9223372036854775808)))⟩, ⟨none, .pick 92 (.t 89) (.t 91) (.c (.bool false))⟩, ⟨none, .mv 93 (.t 92)⟩, ⟨some (93, true), .mv 94 (.t 13)⟩, ⟨some (93, true), .un 95 .not (.t 94)⟩, ⟨none, .pick 96 (.t 93) (.t 95) (.c (.bool false))⟩, ⟨none, .mv 97 (.t 96)⟩, ⟨some (97, true), .mv 98 (.t 14)⟩, ⟨some (97, true), .bin 99 .eql (.t 98) (.c (.int .i64 4611686018427387904))⟩, ⟨none, .pick 100 (.t 97) (.t 99) (.c (.bool false))⟩, ⟨none, .mv 101 (.t 100)⟩, ⟨some (101, true), .mv 102 (.t 15)⟩, ⟨none, .pick 103 (.t 101) (.t 102) (.c (.bool false))⟩, ⟨none, .mv 104 (.t 103)⟩, ⟨some (104, true), .mv 105 (.t 17)⟩, ⟨some (104, true), .un 106 .not (.t 105)⟩, ⟨none, .pick 107 (.t 104) (.t 106) (.c (.bool false))⟩, ⟨none, .mv 0 (.t 107)⟩] [8, 9, 10, 11, 12, 13, 14, 15, 17, 76, 77, 78, 79, 80, 81, 82, 83, 84, 85, 86, 87, 88, 89, 90, 91, 92, 93, 94, 95, 96, 97, 98, 99, 100, 101, 102, 103, 104, 105, 106, 107])
 .ret))))))))))), [.t 0]⟩
/- foliot/foliotlaw1.SatOrder -/
def k_law1_SatOrder : KF := ⟨(.seq (.reg [] [⟨none, .mv 6 (.c (.bool false))⟩] [6])
 (.seq (.seq (.reg [] [⟨none, .dat 21 f_law1_begun []⟩, ⟨none, .un 22 .not (.t 21)⟩] [21])
 (.cond (.t 22) (.seq (.reg [] [⟨none, .mv 6 (.c (.bool false))⟩] [])
 .ret)
 .skip))
 (.seq (.reg [] [⟨none, .mv 23 (.t 0)⟩, ⟨none, .mv 24 (.t 1)⟩, ⟨none, .mn 25 [(.t 23), (.t 24)]⟩, ⟨none, .mv 26 (.t 0)⟩, ⟨none, .mv 27 (.t 1)⟩, ⟨none, .mx 28 [(.t 26), (.t 27)]⟩, ⟨none, .mv 7 (.t 25)⟩, ⟨none, .mv 8 (.t 28)⟩] [0, 1, 23, 24, 25, 26, 27, 28])
 (.seq (.reg [] [⟨none, .mv 30 (.t 7)⟩, ⟨none, .mv 31 (.t 2)⟩, ⟨none, .dat 32 f_sat_Add [(.t 30), (.t 31)]⟩, ⟨none, .mv 29 (.t 32)⟩, ⟨none, .ex 33 (.t 29) 0⟩, ⟨none, .ex 34 (.t 29) 1⟩, ⟨none, .mv 9 (.t 33)⟩, ⟨none, .mv 10 (.t 34)⟩] [10, 29, 30, 31, 32, 33, 34])
 (.seq (.reg [] [⟨none, .mv 36 (.t 8)⟩, ⟨none, .mv 37 (.t 2)⟩, ⟨none, .dat 38 f_sat_Add [(.t 36), (.t 37)]⟩, ⟨none, .mv 35 (.t 38)⟩, ⟨none, .ex 39 (.t 35) 0⟩, ⟨none, .ex 40 (.t 35) 1⟩, ⟨none, .mv 11 (.t 39)⟩, ⟨none, .mv 12 (.t 40)⟩] [12, 35, 36, 37, 38, 39, 40])
 (.seq (.reg [] [⟨none, .mv 42 (.t 7)⟩, ⟨none, .mv 43 (.t 2)⟩, ⟨none, .dat 44 f_sat_Sub [(.t 42), (.t 43)]⟩, ⟨none, .mv 41 (.t 44)⟩, ⟨none, .ex 45 (.t 41) 0⟩, ⟨none, .ex 46 (.t 41) 1⟩, ⟨none, .mv 13 (.t 45)⟩, ⟨none, .mv 14 (.t 46)⟩] [14, 41, 42, 43, 44, 45, 46])
 (.seq (.reg [] [⟨none, .mv 48 (.t 8)⟩, ⟨none, .mv 49 (.t 2)⟩, ⟨none, .dat 50 f_sat_Sub [(.t 48), (.t 49)]⟩, ⟨none, .mv 47 (.t 50)⟩, ⟨none, .ex 51 (.t 47) 0⟩, ⟨none, .ex 52 (.t 47) 1⟩, ⟨none, .mv 15 (.t 51)⟩, ⟨none, .mv 16 (.t 52)⟩] [16, 47, 48, 49, 50, 51, 52])
 (.seq (.reg [] [⟨none, .mv 54 (.t 7)⟩, ⟨none, .mv 55 (.t 2)⟩, ⟨none, .dat 56 f_sat_Mul [(.t 54), (.t 55)]⟩, ⟨none, .mv 53 (.t 56)⟩, ⟨none, .ex 57 (.t 53) 0⟩, ⟨none, .ex 58 (.t 53) 1⟩, ⟨none, .mv 17 (.t 57)⟩, ⟨none, .mv 18 (.t 58)⟩] [7, 18, 53, 54, 55, 56, 57, 58])
 (.seq (.reg [] [⟨none, .mv 60 (.t 8)⟩, ⟨none, .mv 61 (.t 2)⟩, ⟨none, .dat 62 f_sat_Mul [(.t 60), (.t 61)]⟩, ⟨none, .mv 59 (.t 62)⟩, ⟨none, .ex 63 (.t 59) 0⟩, ⟨none, .ex 64 (.t 59) 1⟩, ⟨none, .mv 19 (.t 63)⟩, ⟨none, .mv 20 (.t 64)⟩] [8, 20, 59, 60, 61, 62, 63, 64])
 (.seq (.reg [] [⟨none, .mv 65 (.t 9)⟩, ⟨none, .mv 66 (.t 11)⟩, ⟨none, .bin 67 .leq (.t 65) (.t 66)⟩, ⟨none, .mv 68 (.t 67)⟩, ⟨some (68, true), .mv 69 (.t 13)⟩, ⟨some (68, true), .mv 70 (.t 15)⟩, ⟨some (68, true), .bin 71 .leq (.t 69) (.t 70)⟩, ⟨none, .pick 72 (.t 68) (.t 71) (.c (.bool false))⟩, ⟨none, .mv 73 (.t 72)⟩, ⟨some (73, true), .mv 74 (.t 2)⟩, ⟨some (73, true), .bin 75 .geq (.t 74) (.c (.int .i64 0))⟩, ⟨some (73, true), .mv 76 (.t 75)⟩, ⟨some (76, true), .mv 77 (.t 17)⟩, ⟨some (76, true), .mv 78 (.t 19)⟩, ⟨some (76, true), .bin 79 .leq (.t 77) (.t 78)⟩, ⟨some (73, true), .pick 80 (.t 76) (.t 79) (.c (.bool false))⟩, ⟨some (73, true), .mv 81 (.t 80)⟩, ⟨some (81, false), .mv 82 (.t 2)⟩, ⟨some (81, false), .bin 83 .lss (.t 82) (.c (.int .i64 0))⟩, ⟨some (81, false), .mv 84 (.t 83)⟩, ⟨some (84, true), .mv 85 (.t 17)⟩, ⟨some (84, true), .mv 86 (.t 19)⟩, ⟨some (84, true), .bin 87 .geq (.t 85) (.t 86)⟩, ⟨some (81, false), .pick 88 (.t 84) (.t 87) (.c (.bool false))⟩, ⟨some (73, true), .pick 89 (.t 81) (.c (.bool true)) (.t 88)⟩, ⟨none, .pick 90 (.t 73) (.t 89) (.c (.bool false))⟩, ⟨none, .mv 6 (.t 90)⟩] [2, 9, 11, 13, 15, 17, 19, 65, 66, 67, 68, 69, 70, 71, 72, 73, 74, 75, 76, 77, 78, 79, 80, 81, 82, 83, 84, 85, 86, 87, 88, 89, 90])
 .ret)))))))))), [.t 6]⟩
/- foliot/foliotlaw1.SatHalves -/
def k_law1_SatHalves : KF := ⟨(.seq (.reg [] [⟨none, .mv 6 (.c (.bool false))⟩] [6])
 (.seq (.seq (.reg [] [⟨none, .dat 13 f_law1_begun []⟩, ⟨none, .un 14 .not (.t 13)⟩] [13])
 (.cond (.t 14) (.seq (.reg [] [⟨none, .mv 6 (.c (.bool false))⟩] [])
 .ret)
 .skip))
 (.seq (.reg [] [⟨none, .mv 16 (.t 0)⟩, ⟨none, .cv 17 .i64 (.t 16)⟩, ⟨none, .mv 18 (.t 1)⟩, ⟨none, .cv 19 .i64 (.t 18)⟩, ⟨none, .dat 20 f_sat_Mul [(.t 17), (.t 19)]⟩, ⟨none, .mv 15 (.t 20)⟩, ⟨none, .ex 21 (.t 15) 0⟩, ⟨none, .ex 22 (.t 15) 1⟩, ⟨none, .mv 7 (.t 21)⟩, ⟨none, .mv 8 (.t 22)⟩] [15, 16, 17, 18, 19, 20, 21, 22])
 (.seq (.seq (.reg [] [⟨none, .mv 23 (.t 8)⟩, ⟨none, .un 24 .not (.t 23)⟩, ⟨none, .mv 25 (.t 24)⟩, ⟨some (25, false), .mv 26 (.t 7)⟩, ⟨some (25, false), .mv 27 (.t 0)⟩, ⟨some (25, false), .cv 28 .i64 (.t 27)⟩, ⟨some (25, false), .mv 29 (.t 1)⟩, ⟨some (25, false), .cv 30 .i64 (.t 29)⟩, ⟨some (25, false), .bin 31 .mul (.t 28) (.t 30)⟩, ⟨some (25, false), .bin 32 .neq (.t 26) (.t 31)⟩, ⟨none, .pick 33 (.t 25) (.c (.bool true)) (.t 32)⟩] [8, 23, 24, 25, 26, 27, 28, 29, 30, 31, 32])
 (.cond (.t 33) (.seq (.reg [] [⟨none, .mv 6 (.c (.bool false))⟩] [])
 .ret)
 .skip))
 (.seq (.reg [] [⟨none, .mv 34 (.t 2)⟩, ⟨none, .bin 35 .rem (.t 34) (.c (.int .u8 32))⟩, ⟨none, .cv 36 .i64 (.t 35)⟩, ⟨none, .mv 9 (.t 36)⟩] [2, 34, 35, 36])
 (.seq (.reg [] [⟨none, .mv 38 (.t 0)⟩, ⟨none, .cv 39 .i64 (.t 38)⟩, ⟨none, .mv 40 (.t 9)⟩, ⟨none, .bin 41 .shl (.t 39) (.t 40)⟩, ⟨none, .mv 42 (.t 1)⟩, ⟨none, .cv 43 .i64 (.t 42)⟩, ⟨none, .dat 44 f_sat_Mul [(.t 41), (.t 43)]⟩, ⟨none, .mv 37 (.t 44)⟩, ⟨none, .ex 45 (.t 37) 0⟩, ⟨none, .ex 46 (.t 37) 1⟩, ⟨none, .mv 10 (.t 45)⟩, ⟨none, .mv 11 (.t 46)⟩] [0, 1, 37, 38, 39, 40, 41, 42, 43, 44, 45, 46])
 (.seq (.reg [] [⟨none, .mv 47 (.t 7)⟩, ⟨none, .mv 48 (.t 9)⟩, ⟨none, .bin 49 .shl (.t 47) (.t 48)⟩, ⟨none, .mv 50 (.t 9)⟩, ⟨none, .bin 51 .shr (.t 49) (.t 50)⟩, ⟨none, .mv 52 (.t 7)⟩, ⟨none, .bin 53 .eql (.t 51) (.t 52)⟩, ⟨none, .mv 12 (.t 53)⟩] [47, 48, 49, 50, 51, 52, 53])
 (.seq (.reg [] [⟨none, .mv 54 (.t 11)⟩, ⟨none, .mv 55 (.t 12)⟩, ⟨none, .bin 56 .eql (.t 54) (.t 55)⟩, ⟨none, .mv 57 (.t 56)⟩, ⟨some (57, true), .mv 58 (.t 12)⟩, ⟨some (57, true), .un 59 .not (.t 58)⟩, ⟨some (57, true), .mv 60 (.t 59)⟩, ⟨some (60, false), .mv 61 (.t 10)⟩, ⟨some (60, false), .mv 62 (.t 7)⟩, ⟨some (60, false), .mv 63 (.t 9)⟩, ⟨some (60, false), .bin 64 .shl (.t 62) (.t 63)⟩, ⟨some (60, false), .bin 65 .eql (.t 61) (.t 64)⟩, ⟨some (57, true), .pick 66 (.t 60) (.c (.bool true)) (.t 65)⟩, ⟨none, .pick 67 (.t 57) (.t 66) (.c (.bool false))⟩, ⟨none, .mv 6 (.t 67)⟩] [7, 9, 10, 11, 12, 54, 55, 56, 57, 58, 59, 60, 61, 62, 63, 64, 65, 66, 67])
 .ret)))))))), [.t 6]⟩
/- foliot/foliotlaw1.SatSteps -/
def k_law1_SatSteps : KF := ⟨(.seq (.reg [] [⟨none, .mv 4 (.c (.bool false))⟩] [4])
 (.seq (.seq (.reg [] [⟨none, .dat 13 f_law1_begun []⟩, ⟨none, .un 14 .not (.t 13)⟩] [13])
 (.cond (.t 14) (.seq (.reg [] [⟨none, .mv 4 (.c (.bool false))⟩] [])
 .ret)
 .skip))
 (.seq (.seq (.reg [] [⟨none, .mv 15 (.t 0)⟩, ⟨none, .bin 16 .lss (.t 15) (.c (.int .i64 0))⟩, ⟨none, .mv 17 (.t 16)⟩, ⟨some (17, false), .mv 18 (.t 1)⟩, ⟨some (17, false), .bin 19 .lss (.t 18) (.c (.int .i64 1))⟩, ⟨none, .pick 20 (.t 17) (.c (.bool true)) (.t 19)⟩, ⟨none, .mv 21 (.t 20)⟩, ⟨some (21, false), .mv 22 (.t 0)⟩, ⟨some (21, false), .bin 23 .gtr (.t 22) (.c (.int .i64 4611686018427387904))⟩, ⟨none, .pick 24 (.t 21) (.c (.bool true)) (.t 23)⟩, ⟨none, .mv 25 (.t 24)⟩, ⟨some (25, false), .mv 26 (.t 1)⟩, ⟨some (25, false), .bin 27 .gtr (.t 26) (.c (.int .i64 4611686018427387903))⟩, ⟨none, .pick 28 (.t 25) (.c (.bool true)) (.t 27)⟩] [15, 16, 17, 18, 19, 20, 21, 22, 23, 24, 25, 26, 27])
 (.cond (.t 28) (.seq (.reg [] [⟨none, .mv 4 (.c (.bool true))⟩] [])
 .ret)
 .skip))
 (.seq (.reg [] [⟨none, .mv 30 (.t 0)⟩, ⟨none, .mv 31 (.t 1)⟩, ⟨none, .dat 32 f_sat_Up [(.t 30), (.t 31)]⟩, ⟨none, .mv 29 (.t 32)⟩, ⟨none, .ex 33 (.t 29) 0⟩, ⟨none, .ex 34 (.t 29) 1⟩, ⟨none, .mv 5 (.t 33)⟩, ⟨none, .mv 6 (.t 34)⟩] [29, 30, 31, 32, 33, 34])
 (.seq (.reg [] [⟨none, .mv 36 (.t 0)⟩, ⟨none, .mv 37 (.t 1)⟩, ⟨none, .bin 38 .add (.t 36) (.t 37)⟩, ⟨none, .mv 39 (.t 1)⟩, ⟨none, .dat 40 f_sat_Up [(.t 38), (.t 39)]⟩, ⟨none, .mv 35 (.t 40)⟩, ⟨none, .ex 41 (.t 35) 0⟩, ⟨none, .ex 42 (.t 35) 1⟩, ⟨none, .mv 7 (.t 41)⟩, ⟨none, .mv 8 (.t 42)⟩] [35, 36, 37, 38, 39, 40, 41, 42])
 (.seq (.reg [] [⟨none, .mv 44 (.t 1)⟩, ⟨none, .dat 45 f_sat_Up [(.c (.int .i64 0)), (.t 44)]⟩, ⟨none, .mv 43 (.t 45)⟩, ⟨none, .ex 46 (.t 43) 0⟩, ⟨none, .ex 47 (.t 43) 1⟩, ⟨none, .mv 9 (.t 46)⟩, ⟨none, .mv 10 (.t 47)⟩] [1, 43, 44, 45, 46, 47])
 (.seq (.reg [] [⟨none, .mv 49 (.t 0)⟩, ⟨none, .dat 50 f_sat_Up [(.t 49), (.c (.int .i64 1))]⟩, ⟨none, .mv 48 (.t 50)⟩, ⟨none, .ex 51 (.t 48) 0⟩, ⟨none, .ex 52 (.t 48) 1⟩, ⟨none, .mv 11 (.t 51)⟩, ⟨none, .mv 12 (.t 52)⟩] [48, 49, 50, 51, 52])
 (.seq (.reg [] [⟨none, .mv 53 (.t 6)⟩, ⟨none, .mv 54 (.t 53)⟩, ⟨some (54, true), .mv 55 (.t 8)⟩, ⟨none, .pick 56 (.t 54) (.t 55) (.c (.bool false))⟩, ⟨none, .mv 57 (.t 56)⟩, ⟨some (57, true), .mv 58 (.t 10)⟩, ⟨none, .pick 59 (.t 57) (.t 58) (.c (.bool false))⟩, ⟨none, .mv 60 (.t 59)⟩, ⟨some (60, true), .mv 61 (.t 12)⟩, ⟨none, .pick 62 (.t 60) (.t 61) (.c (.bool false))⟩, ⟨none, .mv 63 (.t 62)⟩, ⟨some (63, true), .mv 64 (.t 7)⟩, ⟨some (63, true), .mv 65 (.t 5)⟩, ⟨some (63, true), .bin 66 .add (.t 65) (.c (.int .i64 1))⟩, ⟨some (63, true), .bin 67 .eql (.t 64) (.t 66)⟩, ⟨none, .pick 68 (.t 63) (.t 67) (.c (.bool false))⟩, ⟨none, .mv 69 (.t 68)⟩, ⟨some (69, true), .mv 70 (.t 9)⟩, ⟨some (69, true), .bin 71 .eql (.t 70) (.c (.int .i64 0))⟩, ⟨none, .pick 72 (.t 69) (.t 71) (.c (.bool false))⟩, ⟨none, .mv 73 (.t 72)⟩, ⟨some (73, true), .mv 74 (.t 11)⟩, ⟨some (73, true), .mv 75 (.t 0)⟩, ⟨some (73, true), .bin 76 .eql (.t 74) (.t 75)⟩, ⟨none, .pick 77 (.t 73) (.t 76) (.c (.bool false))⟩, ⟨none, .mv 4 (.t 77)⟩] [0, 5, 6, 7, 8, 9, 10, 11, 12, 53, 54, 55, 56, 57, 58, 59, 60, 61, 62, 63, 64, 65, 66, 67, 68, 69, 70, 71, 72, 73, 74, 75, 76, 77])
 .ret)))))))), [.t 4]⟩
def kl : List (Nat × KF) := [(3, k_law13_FlagAll), (14, k_law13_begun), (19, k_flag_Await), (33, k_slices_Clone_api_Waiter_api_Waiter), (35, k_flag_Await_1), (34, k_slices_ContainsFunc_api_Waiter_api_Waiter), (39, k_slices_IndexFunc_api_Waiter_api_Waiter), (15, k_flag_Raise), (21, k_flag_Reset), (16, k_ref11_Raise), (17, k_ref11_SameFlag), (18, k_ref11_SameWaiters), (20, k_ref11_Await), (23, k_ref11_Clients), (22, k_ref11_SameInts), (4, k_law13_FlagOnce), (5, k_law13_FlagForms), (6, k_law13_FlagBits), (7, k_law1_SatAll), (24, k_law1_begun), (25, k_sat_Add), (36, k_sat_end), (29, k_sat_Mul), (38, k_sat_size), (37, k_sat_times), (31, k_sat_Up), (27, k_sat_Sub), (26, k_ref1_Add), (28, k_ref1_Sub), (30, k_ref1_Mul), (32, k_ref1_Up), (8, k_law1_SatUp), (9, k_law1_SatBack), (10, k_law1_SatForms), (11, k_law1_SatOrder), (12, k_law1_SatHalves), (13, k_law1_SatSteps)]
def kp : Nat → Option KF := fun n => List.lookup n kl
theorem kp_law13_FlagAll : kp f_law13_FlagAll = some k_law13_FlagAll := rfl
theorem kp_law13_begun : kp f_law13_begun = some k_law13_begun := rfl
theorem kp_flag_Await : kp f_flag_Await = some k_flag_Await := rfl
theorem kp_slices_Clone_api_Waiter_api_Waiter : kp f_slices_Clone_api_Waiter_api_Waiter = some k_slices_Clone_api_Waiter_api_Waiter := rfl
theorem kp_flag_Await_1 : kp f_flag_Await_1 = some k_flag_Await_1 := rfl
theorem kp_slices_ContainsFunc_api_Waiter_api_Waiter : kp f_slices_ContainsFunc_api_Waiter_api_Waiter = some k_slices_ContainsFunc_api_Waiter_api_Waiter := rfl
theorem kp_slices_IndexFunc_api_Waiter_api_Waiter : kp f_slices_IndexFunc_api_Waiter_api_Waiter = some k_slices_IndexFunc_api_Waiter_api_Waiter := rfl
theorem kp_flag_Raise : kp f_flag_Raise = some k_flag_Raise := rfl
theorem kp_flag_Reset : kp f_flag_Reset = some k_flag_Reset := rfl
theorem kp_ref11_Raise : kp f_ref11_Raise = some k_ref11_Raise := rfl
theorem kp_ref11_SameFlag : kp f_ref11_SameFlag = some k_ref11_SameFlag := rfl
theorem kp_ref11_SameWaiters : kp f_ref11_SameWaiters = some k_ref11_SameWaiters := rfl
theorem kp_ref11_Await : kp f_ref11_Await = some k_ref11_Await := rfl
theorem kp_ref11_Clients : kp f_ref11_Clients = some k_ref11_Clients := rfl
theorem kp_ref11_SameInts : kp f_ref11_SameInts = some k_ref11_SameInts := rfl
theorem kp_law13_FlagOnce : kp f_law13_FlagOnce = some k_law13_FlagOnce := rfl
theorem kp_law13_FlagForms : kp f_law13_FlagForms = some k_law13_FlagForms := rfl
theorem kp_law13_FlagBits : kp f_law13_FlagBits = some k_law13_FlagBits := rfl
theorem kp_law1_SatAll : kp f_law1_SatAll = some k_law1_SatAll := rfl
theorem kp_law1_begun : kp f_law1_begun = some k_law1_begun := rfl
theorem kp_sat_Add : kp f_sat_Add = some k_sat_Add := rfl
theorem kp_sat_end : kp f_sat_end = some k_sat_end := rfl
theorem kp_sat_Mul : kp f_sat_Mul = some k_sat_Mul := rfl
theorem kp_sat_size : kp f_sat_size = some k_sat_size := rfl
theorem kp_sat_times : kp f_sat_times = some k_sat_times := rfl
theorem kp_sat_Up : kp f_sat_Up = some k_sat_Up := rfl
theorem kp_sat_Sub : kp f_sat_Sub = some k_sat_Sub := rfl
theorem kp_ref1_Add : kp f_ref1_Add = some k_ref1_Add := rfl
theorem kp_ref1_Sub : kp f_ref1_Sub = some k_ref1_Sub := rfl
theorem kp_ref1_Mul : kp f_ref1_Mul = some k_ref1_Mul := rfl
theorem kp_ref1_Up : kp f_ref1_Up = some k_ref1_Up := rfl
theorem kp_law1_SatUp : kp f_law1_SatUp = some k_law1_SatUp := rfl
theorem kp_law1_SatBack : kp f_law1_SatBack = some k_law1_SatBack := rfl
theorem kp_law1_SatForms : kp f_law1_SatForms = some k_law1_SatForms := rfl
theorem kp_law1_SatOrder : kp f_law1_SatOrder = some k_law1_SatOrder := rfl
theorem kp_law1_SatHalves : kp f_law1_SatHalves = some k_law1_SatHalves := rfl
theorem kp_law1_SatSteps : kp f_law1_SatSteps = some k_law1_SatSteps := rfl
theorem c_law13_FlagAll_L0 (s : St) : run kp (.code k_law13_FlagAll_L0 s) = run kp (.code k_law13_FlagAll_L0b s) := rfl
theorem c_slices_IndexFunc_api_Waiter_api_Waiter_L0 (s : St) : run kp (.code k_slices_IndexFunc_api_Waiter_api_Waiter_L0 s) = run kp (.code k_slices_IndexFunc_api_Waiter_api_Waiter_L0b s) := rfl
theorem c_flag_Raise_L0 (s : St) : run kp (.code k_flag_Raise_L0 s) = run kp (.code k_flag_Raise_L0b s) := rfl
theorem c_flag_Reset_L0 (s : St) : run kp (.code k_flag_Reset_L0 s) = run kp (.code k_flag_Reset_L0b s) := rfl
theorem c_ref11_Raise_L0 (s : St) : run kp (.code k_ref11_Raise_L0 s) = run kp (.code k_ref11_Raise_L0b s) := rfl
theorem c_ref11_SameWaiters_L0 (s : St) : run kp (.code k_ref11_SameWaiters_L0 s) = run kp (.code k_ref11_SameWaiters_L0b s) := rfl
theorem c_ref11_Await_L0 (s : St) : run kp (.code k_ref11_Await_L0 s) = run kp (.code k_ref11_Await_L0b s) := rfl
theorem c_ref11_Clients_L0 (s : St) : run kp (.code k_ref11_Clients_L0 s) = run kp (.code k_ref11_Clients_L0b s) := rfl
theorem c_ref11_SameInts_L0 (s : St) : run kp (.code k_ref11_SameInts_L0 s) = run kp (.code k_ref11_SameInts_L0b s) := rfl
theorem c_law13_FlagOnce_L0 (s : St) : run kp (.code k_law13_FlagOnce_L0 s) = run kp (.code k_law13_FlagOnce_L0b s) := rfl
theorem c_law13_FlagOnce_L1 (s : St) : run kp (.code k_law13_FlagOnce_L1 s) = run kp (.code k_law13_FlagOnce_L1b s) := rfl
theorem c_law13_FlagOnce_L2 (s : St) : run kp (.code k_law13_FlagOnce_L2 s) = run kp (.code k_law13_FlagOnce_L2b s) := rfl
theorem c_law13_FlagForms_L0 (s : St) : run kp (.code k_law13_FlagForms_L0 s) = run kp (.code k_law13_FlagForms_L0b s) := rfl
theorem c_law13_FlagBits_L0 (s : St) : run kp (.code k_law13_FlagBits_L0 s) = run kp (.code k_law13_FlagBits_L0b s) := rfl
theorem c_law13_FlagBits_L1 (s : St) : run kp (.code k_law13_FlagBits_L1 s) = run kp (.code k_law13_FlagBits_L1b s) := rfl
theorem c_law1_SatForms_L0 (s : St) : run kp (.code k_law1_SatForms_L0 s) = run kp (.code k_law1_SatForms_L0b s) := rfl
end Go.Cd
