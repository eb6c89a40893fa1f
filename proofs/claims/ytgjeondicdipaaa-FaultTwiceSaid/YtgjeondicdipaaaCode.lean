/- The code of the functions, as the evaluator reads it; printed by a program of this session. No conditions. -/
import Derived.Test.YtgjeondicdipaaaFwA
set_option linter.unusedVariables false
set_option linter.unusedSimpArgs false
namespace Go.Cd
open Go.Fw
def f_law22_FaultTwice : Nat := 3
def f_law22_begun : Nat := 6
def f_ref19_NewJob : Nat := 9
def f_ref1_NewMachine : Nat := 24
def f_fault_Hit : Nat := 11
def f_job_Back : Nat := 17
def f_job_twin : Nat := 35
def f_job_machine : Nat := 36
def f_slices_Clone_api_Rep2_api_Rep2 : Nat := 39
def f_slices_Clone_int_int : Nat := 41
def f_vm_New : Nat := 34
def f_sema_All : Nat := 27
def f_slices_Clone_api_Sema_api_Sema : Nat := 47
def f_sema_holds : Nat := 48
def f_sema_has : Nat := 62
def f_fault_Loses : Nat := 21
def f_fault_Loses_1 : Nat := 42
def f_slices_DeleteFunc_int_int : Nat := 40
def f_slices_IndexFunc_int_int : Nat := 58
def f_play_Made : Nat := 7
def f_play_Picks_Task : Nat := 8
def f_play_Picks_Code : Nat := 22
def f_play_Picks_Num : Nat := 23
def f_play_Picks_some : Nat := 43
def f_play_Picks_plain : Nat := 59
def f_ref19_Go : Nat := 10
def f_ref19_Code : Nat := 26
def f_ref1_Step : Nat := 25
def f_ref1_MayInst : Nat := 44
def f_ref1_places_has : Nat := 60
def f_ref1_Shift : Nat := 45
def f_ref1_Narrow : Nat := 46
def f_ref1_bit : Nat := 61
def f_ref11_SameSemas : Nat := 12
def f_ref19_SameJob : Nat := 13
def f_ref1_SameMachine : Nat := 20
def f_ref11_SameInts : Nat := 28
def f_law19_JobHeld : Nat := 5
def f_law19_begun : Nat := 14
def f_job_New : Nat := 16
def f_job_Go : Nat := 18
def f_job_Code : Nat := 30
def f_slices_Clone_api_Inst_api_Inst : Nat := 49
def f_vm_Step : Nat := 37
def f_code_May : Nat := 53
def f_code_memory : Nat := 63
def f_code_within : Nat := 64
def f_vm_twin : Nat := 54
def f_vm_Shift : Nat := 55
def f_vm_Narrow : Nat := 56
def f_vm_goes : Nat := 57
def f_slices_Delete_int_int : Nat := 38
def f_job_Opt : Nat := 29
/- foliot/foliotlaw22.FaultTwice -/
def k_law22_FaultTwice_L0b : K := (.seq (.seq (.reg [] [⟨none, .mv 26 (.t 9)⟩, ⟨none, .mv 27 (.t 2)⟩, ⟨none, .bin 28 .rem (.t 27) (.c (.int .u8 40))⟩, ⟨none, .cv 29 .i64 (.t 28)⟩, ⟨none, .bin 30 .lss (.t 26) (.t 29)⟩, ⟨none, .mv 31 (.t 30)⟩, ⟨some (31, true), .fa 32 (.t 8) 4⟩, ⟨some (31, true), .fa 33 (.t 32) 3⟩, ⟨some (31, true), .ld 34 (.t 33)⟩, ⟨some (31, true), .un 35 .not (.t 34)⟩, ⟨none, .pick 36 (.t 31) (.t 35) (.c (.bool false))⟩] [26, 27, 28, 29, 30, 31, 32, 33, 34, 35])
 (.cond (.t 36) .skip
 (.ext 0)))
 (.seq (.blk 1 (.reg [] [⟨none, .ld 40 (.t 7)⟩, ⟨none, .ld 41 (.t 8)⟩, ⟨none, .das 42 f_ref19_Go [(.t 40), (.t 41)]⟩, ⟨none, .mv 39 (.t 42)⟩, ⟨none, .ex 43 (.t 39) 0⟩, ⟨none, .ex 44 (.t 39) 1⟩, ⟨none, .ex 45 (.t 39) 2⟩, ⟨none, .st (.t 8) (.t 43)⟩] [39, 40, 41, 42, 43, 44, 45]))
 (.reg [] [⟨none, .mv 37 (.t 9)⟩, ⟨none, .bin 38 .add (.t 37) (.c (.int .i64 1))⟩, ⟨none, .mv 9 (.t 38)⟩] [37, 38])))
def k_law22_FaultTwice_L0 : K := k_law22_FaultTwice_L0b
def k_law22_FaultTwice : KF := ⟨(.seq (.reg [] [⟨none, .mv 6 (.c (.bool false))⟩] [6])
 (.seq (.seq (.reg [] [⟨none, .dat 16 f_law22_begun []⟩, ⟨none, .un 17 .not (.t 16)⟩] [16])
 (.cond (.t 17) (.seq (.reg [] [⟨none, .mv 6 (.c (.bool false))⟩] [])
 .ret)
 .skip))
 (.seq (.seq (.reg [] [⟨none, .mv 18 (.t 0)⟩, ⟨none, .len 19 (.t 18)⟩, ⟨none, .bin 20 .gtr (.t 19) (.c (.int .i64 150))⟩] [18, 19])
 (.cond (.t 20) (.seq (.reg [] [⟨none, .mv 6 (.c (.bool true))⟩] [])
 .ret)
 .skip))
 (.seq (.reg [] [⟨none, .mv 21 (.t 0)⟩, ⟨none, .cal 22 f_play_Made [(.t 21)] []⟩, ⟨none, .cad 23 f_play_Picks_Task [(.t 22), (.c (.int .i64 1)), (.c (.int .i64 3))]⟩, ⟨none, .alc 7 (.d (.agg [(.int .i64 0), (.int .i64 0), (.int .i64 0), (.sl true []), (.sl true []), (.sl true [])]))⟩, ⟨none, .st (.t 7) (.t 23)⟩] [0, 21, 22, 23])
 (.seq (.reg [] [⟨none, .mv 24 (.t 1)⟩, ⟨none, .das 25 f_ref19_NewJob [(.c (.int .i64 1)), (.c (.int .i64 2)), (.t 24)]⟩, ⟨none, .alc 8 (.d (.agg [(.int .i64 0), (.int .i64 0), (.int .i64 0), (.int .i64 0), (.agg [(.int .i64 0), (.agg [(.int .i64 0), (.int .i64 0), (.int .i64 0), (.int .i64 0), (.int .i64 0), (.int .i64 0), (.int .i64 0), (.int .i64 0)]), (.sl true []), (.bool false)]), (.agg [(.int .i64 0), (.agg [(.int .i64 0), (.int .i64 0), (.int .i64 0), (.int .i64 0), (.int .i64 0), (.int .i64 0), (.int .i64 0), (.int .i64 0)]), (.sl true []), (.bool false)]), (.sl true []), (.bool false)]))⟩, ⟨none, .st (.t 8) (.t 25)⟩] [1, 24, 25])
 (.seq (.seq (.reg [] [⟨none, .mv 9 (.c (.int .i64 0))⟩] [])
 (.blk 0 (.loop [2, 7, 8, 9] k_law22_FaultTwice_L0)))
 (.seq (.reg [] [⟨none, .ld 47 (.t 7)⟩, ⟨none, .ld 48 (.t 8)⟩, ⟨none, .bld 49 [(.c (.int .i64 0)), (.c (.int .i64 2))]⟩, ⟨none, .bld 50 [(.c (.int .i64 0)), (.c (.int .i64 1))]⟩, ⟨none, .bsl 51 [(.t 49), (.t 50)]⟩, ⟨none, .das 52 f_fault_Hit [(.t 47), (.t 48), (.t 51)]⟩, ⟨none, .mv 46 (.t 52)⟩, ⟨none, .ex 53 (.t 46) 0⟩, ⟨none, .ex 54 (.t 46) 1⟩, ⟨none, .ex 55 (.t 46) 2⟩, ⟨none, .alc 10 (.d (.agg [(.int .i64 0), (.int .i64 0), (.int .i64 0), (.int .i64 0), (.agg [(.int .i64 0), (.agg [(.int .i64 0), (.int .i64 0), (.int .i64 0), (.int .i64 0), (.int .i64 0), (.int .i64 0), (.int .i64 0), (.int .i64 0)]), (.sl true []), (.bool false)]), (.agg [(.int .i64 0), (.agg [(.int .i64 0), (.int .i64 0), (.int .i64 0), (.int .i64 0), (.int .i64 0), (.int .i64 0), (.int .i64 0), (.int .i64 0)]), (.sl true []), (.bool false)]), (.sl true []), (.bool false)]))⟩, ⟨none, .st (.t 10) (.t 53)⟩, ⟨none, .mv 11 (.t 54)⟩, ⟨none, .mv 12 (.t 55)⟩] [8, 46, 47, 48, 49, 50, 51, 52, 53, 54, 55])
 (.seq (.reg [] [⟨none, .ld 57 (.t 7)⟩, ⟨none, .ld 58 (.t 10)⟩, ⟨none, .mv 59 (.t 11)⟩, ⟨none, .das 60 f_fault_Hit [(.t 57), (.t 58), (.t 59)]⟩, ⟨none, .mv 56 (.t 60)⟩, ⟨none, .ex 61 (.t 56) 0⟩, ⟨none, .ex 62 (.t 56) 1⟩, ⟨none, .ex 63 (.t 56) 2⟩, ⟨none, .alc 13 (.d (.agg [(.int .i64 0), (.int .i64 0), (.int .i64 0), (.int .i64 0), (.agg [(.int .i64 0), (.agg [(.int .i64 0), (.int .i64 0), (.int .i64 0), (.int .i64 0), (.int .i64 0), (.int .i64 0), (.int .i64 0), (.int .i64 0)]), (.sl true []), (.bool false)]), (.agg [(.int .i64 0), (.agg [(.int .i64 0), (.int .i64 0), (.int .i64 0), (.int .i64 0), (.int .i64 0), (.int .i64 0), (.int .i64 0), (.int .i64 0)]), (.sl true []), (.bool false)]), (.sl true []), (.bool false)]))⟩, ⟨none, .st (.t 13) (.t 61)⟩, ⟨none, .mv 14 (.t 62)⟩, ⟨none, .mv 15 (.t 63)⟩] [56, 57, 58, 59, 60, 61, 62, 63])
 (.seq (.seq (.reg [] [⟨none, .mv 64 (.t 11)⟩, ⟨none, .len 65 (.t 64)⟩, ⟨none, .bin 66 .neq (.t 65) (.c (.int .i64 2))⟩, ⟨none, .mv 67 (.t 66)⟩, ⟨some (67, false), .mv 68 (.t 11)⟩, ⟨some (67, false), .ia 69 (.t 68) (.c (.int .i64 0))⟩, ⟨some (67, false), .fa 70 (.t 69) 1⟩, ⟨some (67, false), .ld 71 (.t 70)⟩, ⟨some (67, false), .bin 72 .neq (.t 71) (.c (.int .i64 0))⟩, ⟨none, .pick 73 (.t 67) (.c (.bool true)) (.t 72)⟩, ⟨none, .mv 74 (.t 73)⟩, ⟨some (74, false), .mv 75 (.t 11)⟩, ⟨some (74, false), .ia 76 (.t 75) (.c (.int .i64 1))⟩, ⟨some (74, false), .fa 77 (.t 76) 1⟩, ⟨some (74, false), .ld 78 (.t 77)⟩, ⟨some (74, false), .bin 79 .neq (.t 78) (.c (.int .i64 1))⟩, ⟨none, .pick 80 (.t 74) (.c (.bool true)) (.t 79)⟩, ⟨none, .mv 81 (.t 80)⟩, ⟨some (81, false), .mv 82 (.t 11)⟩, ⟨some (81, false), .mv 83 (.t 14)⟩, ⟨some (81, false), .dat 84 f_ref11_SameSemas [(.t 82), (.t 83)]⟩, ⟨some (81, false), .un 85 .not (.t 84)⟩, ⟨none, .pick 86 (.t 81) (.c (.bool true)) (.t 85)⟩] [11, 14, 64, 65, 66, 67, 68, 69, 70, 71, 72, 73, 74, 75, 76, 77, 78, 79, 80, 81, 82, 83, 84, 85])
 (.cond (.t 86) (.seq (.reg [] [⟨none, .mv 6 (.c (.bool false))⟩] [])
 .ret)
 .skip))
 (.seq (.reg [] [⟨none, .mv 87 (.t 15)⟩, ⟨none, .bin 88 .eql (.t 87) (.c (.int .i64 6))⟩, ⟨none, .mv 89 (.t 88)⟩, ⟨some (89, true), .ld 90 (.t 10)⟩, ⟨some (89, true), .ld 91 (.t 13)⟩, ⟨some (89, true), .dat 92 f_ref19_SameJob [(.t 90), (.t 91)]⟩, ⟨none, .pick 93 (.t 89) (.t 92) (.c (.bool false))⟩, ⟨none, .mv 94 (.t 93)⟩, ⟨some (94, true), .mv 95 (.t 12)⟩, ⟨some (94, true), .bin 96 .eql (.t 95) (.c (.int .i64 7))⟩, ⟨some (94, true), .fa 97 (.t 7) 4⟩, ⟨some (94, true), .ld 98 (.t 97)⟩, ⟨some (94, true), .len 99 (.t 98)⟩, ⟨some (94, true), .bin 100 .gtr (.t 99) (.c (.int .i64 0))⟩, ⟨some (94, true), .bin 101 .eql (.t 96) (.t 100)⟩, ⟨none, .pick 102 (.t 94) (.t 101) (.c (.bool false))⟩, ⟨none, .mv 103 (.t 102)⟩, ⟨some (103, true), .mv 104 (.t 12)⟩, ⟨some (103, true), .bin 105 .eql (.t 104) (.c (.int .i64 7))⟩, ⟨some (103, true), .mv 106 (.t 105)⟩, ⟨some (106, false), .mv 107 (.t 12)⟩, ⟨some (106, false), .bin 108 .eql (.t 107) (.c (.int .i64 6))⟩, ⟨some (103, true), .pick 109 (.t 106) (.c (.bool true)) (.t 108)⟩, ⟨none, .pick 110 (.t 103) (.t 109) (.c (.bool false))⟩, ⟨none, .mv 6 (.t 110)⟩] [7, 10, 12, 13, 15, 87, 88, 89, 90, 91, 92, 93, 94, 95, 96, 97, 98, 99, 100, 101, 102, 103, 104, 105, 106, 107, 108, 109, 110])
 .ret)))))))))), [.t 6], none⟩
/- foliot/foliotlaw22.begun -/
def k_law22_begun : KF := ⟨(.seq (.reg [] [⟨none, .mv 0 (.c (.bool false))⟩] [0])
 (.seq (.reg [] [⟨none, .bld 9 [(.c (.int .i64 0)), (.c (.int .i64 0)), (.c (.int .i64 0)), (.c (.int .i64 0))]⟩, ⟨none, .bsl 10 [(.t 9)]⟩, ⟨none, .bld 11 [(.c (.int .i64 0)), (.c (.int .i64 0)), (.c (.int .i64 0)), (.c (.int .i64 0))]⟩, ⟨none, .bsl 12 [(.t 11)]⟩, ⟨none, .bld 13 [(.c (.int .i64 0)), (.c (.int .i64 0)), (.c (.int .i64 0)), (.t 10), (.t 12), (.c (.d (.sl true [])))]⟩, ⟨none, .alc 1 (.d (.agg [(.int .i64 0), (.int .i64 0), (.int .i64 0), (.sl true []), (.sl true []), (.sl true [])]))⟩, ⟨none, .st (.t 1) (.t 13)⟩] [9, 10, 11, 12, 13])
 (.seq (.reg [] [⟨none, .das 14 f_ref19_NewJob [(.c (.int .i64 1)), (.c (.int .i64 0)), (.c (.int .i64 7))]⟩, ⟨none, .alc 2 (.d (.agg [(.int .i64 0), (.int .i64 0), (.int .i64 0), (.int .i64 0), (.agg [(.int .i64 0), (.agg [(.int .i64 0), (.int .i64 0), (.int .i64 0), (.int .i64 0), (.int .i64 0), (.int .i64 0), (.int .i64 0), (.int .i64 0)]), (.sl true []), (.bool false)]), (.agg [(.int .i64 0), (.agg [(.int .i64 0), (.int .i64 0), (.int .i64 0), (.int .i64 0), (.int .i64 0), (.int .i64 0), (.int .i64 0), (.int .i64 0)]), (.sl true []), (.bool false)]), (.sl true []), (.bool false)]))⟩, ⟨none, .st (.t 2) (.t 14)⟩] [14])
 (.seq (.reg [] [⟨none, .bsl 15 [(.c (.int .i64 0))]⟩, ⟨none, .fa 16 (.t 2) 6⟩, ⟨none, .st (.t 16) (.t 15)⟩] [15, 16])
 (.seq (.reg [] [⟨none, .ld 18 (.t 1)⟩, ⟨none, .ld 19 (.t 2)⟩, ⟨none, .bld 20 [(.c (.int .i64 0)), (.c (.int .i64 2))]⟩, ⟨none, .bsl 21 [(.t 20)]⟩, ⟨none, .das 22 f_fault_Hit [(.t 18), (.t 19), (.t 21)]⟩, ⟨none, .mv 17 (.t 22)⟩, ⟨none, .ex 23 (.t 17) 0⟩, ⟨none, .ex 24 (.t 17) 1⟩, ⟨none, .ex 25 (.t 17) 2⟩, ⟨none, .alc 3 (.d (.agg [(.int .i64 0), (.int .i64 0), (.int .i64 0), (.int .i64 0), (.agg [(.int .i64 0), (.agg [(.int .i64 0), (.int .i64 0), (.int .i64 0), (.int .i64 0), (.int .i64 0), (.int .i64 0), (.int .i64 0), (.int .i64 0)]), (.sl true []), (.bool false)]), (.agg [(.int .i64 0), (.agg [(.int .i64 0), (.int .i64 0), (.int .i64 0), (.int .i64 0), (.int .i64 0), (.int .i64 0), (.int .i64 0), (.int .i64 0)]), (.sl true []), (.bool false)]), (.sl true []), (.bool false)]))⟩, ⟨none, .st (.t 3) (.t 23)⟩, ⟨none, .mv 4 (.t 24)⟩, ⟨none, .mv 5 (.t 25)⟩] [17, 18, 19, 20, 21, 22, 23, 24, 25])
 (.seq (.reg [] [⟨none, .ld 27 (.t 1)⟩, ⟨none, .ld 28 (.t 3)⟩, ⟨none, .das 29 f_fault_Hit [(.t 27), (.t 28), (.c (.d (.sl true [])))]⟩, ⟨none, .mv 26 (.t 29)⟩, ⟨none, .ex 30 (.t 26) 0⟩, ⟨none, .ex 31 (.t 26) 1⟩, ⟨none, .ex 32 (.t 26) 2⟩, ⟨none, .alc 6 (.d (.agg [(.int .i64 0), (.int .i64 0), (.int .i64 0), (.int .i64 0), (.agg [(.int .i64 0), (.agg [(.int .i64 0), (.int .i64 0), (.int .i64 0), (.int .i64 0), (.int .i64 0), (.int .i64 0), (.int .i64 0), (.int .i64 0)]), (.sl true []), (.bool false)]), (.agg [(.int .i64 0), (.agg [(.int .i64 0), (.int .i64 0), (.int .i64 0), (.int .i64 0), (.int .i64 0), (.int .i64 0), (.int .i64 0), (.int .i64 0)]), (.sl true []), (.bool false)]), (.sl true []), (.bool false)]))⟩, ⟨none, .st (.t 6) (.t 30)⟩, ⟨none, .mv 7 (.t 31)⟩, ⟨none, .mv 8 (.t 32)⟩] [1, 6, 7, 26, 27, 28, 29, 30, 31, 32])
 (.seq (.reg [] [⟨none, .mv 33 (.t 5)⟩, ⟨none, .bin 34 .eql (.t 33) (.c (.int .i64 7))⟩, ⟨none, .mv 35 (.t 34)⟩, ⟨some (35, true), .fa 36 (.t 3) 3⟩, ⟨some (35, true), .ld 37 (.t 36)⟩, ⟨some (35, true), .bin 38 .eql (.t 37) (.c (.int .i64 1))⟩, ⟨none, .pick 39 (.t 35) (.t 38) (.c (.bool false))⟩, ⟨none, .mv 40 (.t 39)⟩, ⟨some (40, true), .fa 41 (.t 3) 6⟩, ⟨some (40, true), .ld 42 (.t 41)⟩, ⟨some (40, true), .len 43 (.t 42)⟩, ⟨some (40, true), .bin 44 .eql (.t 43) (.c (.int .i64 0))⟩, ⟨none, .pick 45 (.t 40) (.t 44) (.c (.bool false))⟩, ⟨none, .mv 46 (.t 45)⟩, ⟨some (46, true), .mv 47 (.t 4)⟩, ⟨some (46, true), .len 48 (.t 47)⟩, ⟨some (46, true), .bin 49 .eql (.t 48) (.c (.int .i64 1))⟩, ⟨none, .pick 50 (.t 46) (.t 49) (.c (.bool false))⟩, ⟨none, .mv 51 (.t 50)⟩, ⟨some (51, true), .mv 52 (.t 4)⟩, ⟨some (51, true), .ia 53 (.t 52) (.c (.int .i64 0))⟩, ⟨some (51, true), .fa 54 (.t 53) 1⟩, ⟨some (51, true), .ld 55 (.t 54)⟩, ⟨some (51, true), .bin 56 .eql (.t 55) (.c (.int .i64 0))⟩, ⟨none, .pick 57 (.t 51) (.t 56) (.c (.bool false))⟩, ⟨none, .mv 58 (.t 57)⟩, ⟨some (58, true), .mv 59 (.t 8)⟩, ⟨some (58, true), .bin 60 .eql (.t 59) (.c (.int .i64 6))⟩, ⟨none, .pick 61 (.t 58) (.t 60) (.c (.bool false))⟩, ⟨none, .mv 62 (.t 61)⟩, ⟨some (62, true), .ld 63 (.t 2)⟩, ⟨some (62, true), .dat 64 f_fault_Loses [(.t 63), (.c (.int .i64 0))]⟩, ⟨some (62, true), .fd 65 (.t 64) 6⟩, ⟨some (62, true), .len 66 (.t 65)⟩, ⟨some (62, true), .bin 67 .eql (.t 66) (.c (.int .i64 0))⟩, ⟨none, .pick 68 (.t 62) (.t 67) (.c (.bool false))⟩, ⟨none, .mv 0 (.t 68)⟩] [2, 3, 4, 5, 8, 33, 34, 35, 36, 37, 38, 39, 40, 41, 42, 43, 44, 45, 46, 47, 48, 49, 50, 51, 52, 53, 54, 55, 56, 57, 58, 59, 60, 61, 62, 63, 64, 65, 66, 67, 68])
 .ret))))))), [.t 0], none⟩
/- foliot/foliotref19.NewJob -/
def k_ref19_NewJob : KF := ⟨(.seq (.reg [] [⟨none, .alc 6 (.d (.agg [(.int .i64 0), (.int .i64 0), (.int .i64 0), (.int .i64 0), (.agg [(.int .i64 0), (.agg [(.int .i64 0), (.int .i64 0), (.int .i64 0), (.int .i64 0), (.int .i64 0), (.int .i64 0), (.int .i64 0), (.int .i64 0)]), (.sl true []), (.bool false)]), (.agg [(.int .i64 0), (.agg [(.int .i64 0), (.int .i64 0), (.int .i64 0), (.int .i64 0), (.int .i64 0), (.int .i64 0), (.int .i64 0), (.int .i64 0)]), (.sl true []), (.bool false)]), (.sl true []), (.bool false)]))⟩] [])
 (.seq (.reg [] [⟨none, .mv 8 (.t 2)⟩, ⟨none, .dat 9 f_ref1_NewMachine [(.t 8)]⟩, ⟨none, .alc 7 (.d (.agg [(.int .i64 0), (.agg [(.int .i64 0), (.int .i64 0), (.int .i64 0), (.int .i64 0), (.int .i64 0), (.int .i64 0), (.int .i64 0), (.int .i64 0)]), (.sl true []), (.bool false)]))⟩, ⟨none, .st (.t 7) (.t 9)⟩] [8, 9])
 (.seq (.reg [] [⟨none, .mv 10 (.t 0)⟩, ⟨none, .mv 11 (.t 1)⟩, ⟨none, .mv 12 (.t 2)⟩, ⟨none, .ld 13 (.t 7)⟩, ⟨none, .ld 14 (.t 7)⟩, ⟨none, .bld 15 [(.t 10), (.t 11), (.t 12), (.c (.int .i64 0)), (.t 13), (.t 14), (.c (.d (.sl true []))), (.c (.bool false))]⟩, ⟨none, .st (.t 6) (.t 15)⟩] [0, 1, 2, 7, 10, 11, 12, 13, 14, 15])
 .ret))), [.cell 6], none⟩
/- foliot/foliotref1.NewMachine -/
def k_ref1_NewMachine : KF := ⟨(.seq (.reg [] [⟨none, .alc 2 (.d (.agg [(.int .i64 0), (.agg [(.int .i64 0), (.int .i64 0), (.int .i64 0), (.int .i64 0), (.int .i64 0), (.int .i64 0), (.int .i64 0), (.int .i64 0)]), (.sl true []), (.bool false)]))⟩] [])
 (.seq (.reg [] [⟨none, .bld 4 [(.c (.int .i64 0)), (.c (.d (.agg [(.int .i64 0), (.int .i64 0), (.int .i64 0), (.int .i64 0), (.int .i64 0), (.int .i64 0), (.int .i64 0), (.int .i64 0)]))), (.c (.d (.sl true []))), (.c (.bool false))]⟩, ⟨none, .alc 3 (.d (.agg [(.int .i64 0), (.agg [(.int .i64 0), (.int .i64 0), (.int .i64 0), (.int .i64 0), (.int .i64 0), (.int .i64 0), (.int .i64 0), (.int .i64 0)]), (.sl true []), (.bool false)]))⟩, ⟨none, .st (.t 3) (.t 4)⟩] [4])
 (.seq (.reg [] [⟨none, .mv 5 (.t 0)⟩, ⟨none, .fa 6 (.t 3) 1⟩, ⟨none, .ia 7 (.t 6) (.c (.int .i64 0))⟩, ⟨none, .st (.t 7) (.t 5)⟩] [0, 5, 6, 7])
 (.seq (.reg [] [⟨none, .ld 8 (.t 3)⟩, ⟨none, .st (.t 2) (.t 8)⟩] [3, 8])
 .ret)))), [.cell 2], none⟩
/- foliot/fault.Hit -/
def k_fault_Hit : KF := ⟨(.seq (.reg [] [⟨none, .box 3 (.t 0)⟩, ⟨none, .box 4 (.t 1)⟩, ⟨none, .alc 6 (.d (.agg [(.int .i64 0), (.int .i64 0), (.int .i64 0), (.int .i64 0), (.agg [(.int .i64 0), (.agg [(.int .i64 0), (.int .i64 0), (.int .i64 0), (.int .i64 0), (.int .i64 0), (.int .i64 0), (.int .i64 0), (.int .i64 0)]), (.sl true []), (.bool false)]), (.agg [(.int .i64 0), (.agg [(.int .i64 0), (.int .i64 0), (.int .i64 0), (.int .i64 0), (.int .i64 0), (.int .i64 0), (.int .i64 0), (.int .i64 0)]), (.sl true []), (.bool false)]), (.sl true []), (.bool false)]))⟩, ⟨none, .mv 7 (.c (.d (.sl true [])))⟩, ⟨none, .mv 8 (.c (.int .i64 0))⟩] [0, 1, 7, 8])
 (.seq (.reg [(2, 5)] [⟨none, .ld 9 (.t 3)⟩, ⟨none, .ld 10 (.t 4)⟩, ⟨none, .das 11 f_job_Back [(.t 9), (.t 10)]⟩, ⟨none, .mv 12 (.t 2)⟩, ⟨none, .fa 13 (.t 4) 0⟩, ⟨none, .ld 14 (.t 13)⟩, ⟨none, .dat 15 f_sema_All [(.t 12), (.t 14)]⟩, ⟨none, .st (.t 6) (.t 11)⟩, ⟨none, .mv 7 (.t 15)⟩, ⟨none, .mv 8 (.c (.int .i64 6))⟩] [2, 3, 9, 10, 11, 12, 13, 14, 15])
 (.seq (.blk 0 (.seq (.reg [] [⟨none, .fa 17 (.t 4) 3⟩, ⟨none, .ld 18 (.t 17)⟩, ⟨none, .bin 19 .eql (.t 18) (.c (.int .i64 2))⟩, ⟨none, .mv 16 (.t 19)⟩] [17, 18, 19])
 (.cond (.t 16) (.reg [] [⟨none, .ld 20 (.t 4)⟩, ⟨none, .dat 21 f_fault_Loses [(.t 20), (.c (.int .i64 (-1)))]⟩, ⟨none, .st (.t 6) (.t 21)⟩, ⟨none, .mv 8 (.c (.int .i64 13))⟩] [4, 20, 21])
 (.seq (.reg [] [⟨none, .fa 23 (.t 6) 3⟩, ⟨none, .ld 24 (.t 23)⟩, ⟨none, .fa 25 (.t 4) 3⟩, ⟨none, .ld 26 (.t 25)⟩, ⟨none, .bin 27 .neq (.t 24) (.t 26)⟩, ⟨none, .mv 22 (.t 27)⟩] [4, 23, 24, 25, 26, 27])
 (.cond (.t 22) (.reg [] [⟨none, .mv 8 (.c (.int .i64 7))⟩] [])
 .skip)))))
 (.seq (.reg [] [⟨none, .ld 28 (.t 6)⟩, ⟨none, .mv 29 (.t 7)⟩, ⟨none, .mv 30 (.t 8)⟩, ⟨none, .st (.t 6) (.t 28)⟩, ⟨none, .mv 7 (.t 29)⟩, ⟨none, .mv 8 (.t 30)⟩] [28, 29, 30])
 .ret)))), [.cell 6, .t 7, .t 8], none⟩
/- foliot/job.Back -/
def k_job_Back : KF := ⟨(.seq (.reg [] [⟨none, .box 2 (.t 0)⟩, ⟨none, .box 3 (.t 1)⟩, ⟨none, .alc 4 (.d (.agg [(.int .i64 0), (.int .i64 0), (.int .i64 0), (.int .i64 0), (.agg [(.int .i64 0), (.agg [(.int .i64 0), (.int .i64 0), (.int .i64 0), (.int .i64 0), (.int .i64 0), (.int .i64 0), (.int .i64 0), (.int .i64 0)]), (.sl true []), (.bool false)]), (.agg [(.int .i64 0), (.agg [(.int .i64 0), (.int .i64 0), (.int .i64 0), (.int .i64 0), (.int .i64 0), (.int .i64 0), (.int .i64 0), (.int .i64 0)]), (.sl true []), (.bool false)]), (.sl true []), (.bool false)]))⟩] [0, 1])
 (.seq (.reg [] [⟨none, .ld 6 (.t 3)⟩, ⟨none, .cal 7 f_job_twin [(.t 6)] []⟩, ⟨none, .alc 5 (.d (.agg [(.int .i64 0), (.int .i64 0), (.int .i64 0), (.int .i64 0), (.agg [(.int .i64 0), (.agg [(.int .i64 0), (.int .i64 0), (.int .i64 0), (.int .i64 0), (.int .i64 0), (.int .i64 0), (.int .i64 0), (.int .i64 0)]), (.sl true []), (.bool false)]), (.agg [(.int .i64 0), (.agg [(.int .i64 0), (.int .i64 0), (.int .i64 0), (.int .i64 0), (.int .i64 0), (.int .i64 0), (.int .i64 0), (.int .i64 0)]), (.sl true []), (.bool false)]), (.sl true []), (.bool false)]))⟩, ⟨none, .st (.t 5) (.t 7)⟩] [6, 7])
 (.seq (.reg [] [⟨none, .fa 8 (.t 5) 6⟩, ⟨none, .st (.t 8) (.c (.d (.sl true [])))⟩] [8])
 (.seq (.seq (.reg [] [⟨none, .fa 9 (.t 3) 3⟩, ⟨none, .ld 10 (.t 9)⟩, ⟨none, .bin 11 .eql (.t 10) (.c (.int .i64 0))⟩, ⟨none, .mv 12 (.t 11)⟩, ⟨some (12, true), .fa 13 (.t 2) 4⟩, ⟨some (12, true), .ld 14 (.t 13)⟩, ⟨some (12, true), .len 15 (.t 14)⟩, ⟨some (12, true), .bin 16 .gtr (.t 15) (.c (.int .i64 0))⟩, ⟨none, .pick 17 (.t 12) (.t 16) (.c (.bool false))⟩] [2, 9, 10, 11, 12, 13, 14, 15, 16])
 (.cond (.t 17) (.seq (.reg [(2, 4)] [⟨none, .fa 18 (.t 3) 2⟩, ⟨none, .ld 19 (.t 18)⟩, ⟨none, .dat 20 f_vm_New [(.t 19)]⟩, ⟨none, .fa 21 (.t 3) 2⟩, ⟨none, .ld 22 (.t 21)⟩, ⟨none, .dat 23 f_vm_New [(.t 22)]⟩, ⟨none, .fa 24 (.t 5) 3⟩, ⟨none, .st (.t 24) (.c (.int .i64 1))⟩, ⟨none, .fa 25 (.t 5) 4⟩, ⟨none, .st (.t 25) (.t 20)⟩, ⟨none, .fa 26 (.t 5) 5⟩, ⟨none, .st (.t 26) (.t 23)⟩] [3, 18, 19, 20, 21, 22, 23, 24, 25, 26])
 (.seq (.reg [] [⟨none, .ld 27 (.t 5)⟩, ⟨none, .st (.t 4) (.t 27)⟩] [5, 27])
 .ret))
 .skip))
 (.seq (.reg [] [⟨none, .fa 28 (.t 3) 5⟩, ⟨none, .ld 29 (.t 28)⟩, ⟨none, .das 30 f_job_machine [(.t 29)]⟩, ⟨none, .fa 31 (.t 5) 4⟩, ⟨none, .st (.t 31) (.t 30)⟩] [3, 28, 29, 30, 31])
 (.seq (.reg [] [⟨none, .ld 32 (.t 5)⟩, ⟨none, .st (.t 4) (.t 32)⟩] [5, 32])
 .ret)))))), [.cell 4], none⟩
/- foliot/job.twin -/
def k_job_twin : KF := ⟨(.seq (.reg [] [⟨none, .box 1 (.t 0)⟩, ⟨none, .alc 2 (.d (.agg [(.int .i64 0), (.int .i64 0), (.int .i64 0), (.int .i64 0), (.agg [(.int .i64 0), (.agg [(.int .i64 0), (.int .i64 0), (.int .i64 0), (.int .i64 0), (.int .i64 0), (.int .i64 0), (.int .i64 0), (.int .i64 0)]), (.sl true []), (.bool false)]), (.agg [(.int .i64 0), (.agg [(.int .i64 0), (.int .i64 0), (.int .i64 0), (.int .i64 0), (.int .i64 0), (.int .i64 0), (.int .i64 0), (.int .i64 0)]), (.sl true []), (.bool false)]), (.sl true []), (.bool false)]))⟩] [0])
 (.seq (.reg [(2, 4), (2, 7), (5, 7)] [⟨none, .fa 3 (.t 1) 4⟩, ⟨none, .ld 4 (.t 3)⟩, ⟨none, .das 5 f_job_machine [(.t 4)]⟩, ⟨none, .fa 6 (.t 1) 5⟩, ⟨none, .ld 7 (.t 6)⟩, ⟨none, .das 8 f_job_machine [(.t 7)]⟩, ⟨none, .fa 9 (.t 1) 6⟩, ⟨none, .ld 10 (.t 9)⟩, ⟨none, .dat 11 f_slices_Clone_int_int [(.t 10)]⟩, ⟨none, .fa 12 (.t 1) 4⟩, ⟨none, .st (.t 12) (.t 5)⟩, ⟨none, .fa 13 (.t 1) 5⟩, ⟨none, .st (.t 13) (.t 8)⟩, ⟨none, .fa 14 (.t 1) 6⟩, ⟨none, .st (.t 14) (.t 11)⟩] [3, 4, 5, 6, 7, 8, 9, 10, 11, 12, 13, 14])
 (.seq (.reg [] [⟨none, .ld 15 (.t 1)⟩, ⟨none, .st (.t 2) (.t 15)⟩] [1, 15])
 .ret))), [.cell 2], none⟩
/- foliot/job.machine -/
def k_job_machine : KF := ⟨(.seq (.reg [] [⟨none, .box 1 (.t 0)⟩, ⟨none, .alc 2 (.d (.agg [(.int .i64 0), (.agg [(.int .i64 0), (.int .i64 0), (.int .i64 0), (.int .i64 0), (.int .i64 0), (.int .i64 0), (.int .i64 0), (.int .i64 0)]), (.sl true []), (.bool false)]))⟩] [0])
 (.seq (.reg [] [⟨none, .fa 3 (.t 1) 2⟩, ⟨none, .ld 4 (.t 3)⟩, ⟨none, .dat 5 f_slices_Clone_api_Rep2_api_Rep2 [(.t 4)]⟩, ⟨none, .fa 6 (.t 1) 2⟩, ⟨none, .st (.t 6) (.t 5)⟩] [3, 4, 5, 6])
 (.seq (.reg [] [⟨none, .ld 7 (.t 1)⟩, ⟨none, .st (.t 2) (.t 7)⟩] [1, 7])
 .ret))), [.cell 2], none⟩
/- slices.Clone[[]foliot/api.Rep2,foliot/api.Rep2] -/
def k_slices_Clone_api_Rep2_api_Rep2 : KF := ⟨(.seq (.reg [] [⟨none, .mv 2 (.c (.d (.sl true [])))⟩] [2])
 (.seq (.seq (.reg [] [⟨none, .mv 3 (.t 0)⟩, ⟨none, .bin 4 .eql (.t 3) (.c (.d (.sl true [])))⟩] [3])
 (.cond (.t 4) (.seq (.reg [] [⟨none, .mv 2 (.c (.d (.sl true [])))⟩] [])
 .ret)
 .skip))
 (.seq (.reg [] [⟨none, .bsl 5 []⟩, ⟨none, .mv 6 (.t 0)⟩, ⟨none, .app 7 (.t 5) (.t 6)⟩, ⟨none, .mv 2 (.t 7)⟩] [0, 5, 6, 7])
 .ret))), [.t 2], none⟩
/- slices.Clone[[]int,int] -/
def k_slices_Clone_int_int : KF := ⟨(.seq (.reg [] [⟨none, .mv 2 (.c (.d (.sl true [])))⟩] [2])
 (.seq (.seq (.reg [] [⟨none, .mv 3 (.t 0)⟩, ⟨none, .bin 4 .eql (.t 3) (.c (.d (.sl true [])))⟩] [3])
 (.cond (.t 4) (.seq (.reg [] [⟨none, .mv 2 (.c (.d (.sl true [])))⟩] [])
 .ret)
 .skip))
 (.seq (.reg [] [⟨none, .bsl 5 []⟩, ⟨none, .mv 6 (.t 0)⟩, ⟨none, .app 7 (.t 5) (.t 6)⟩, ⟨none, .mv 2 (.t 7)⟩] [0, 5, 6, 7])
 .ret))), [.t 2], none⟩
/- foliot/vm.New -/
def k_vm_New : KF := ⟨(.seq (.reg [] [⟨none, .alc 2 (.d (.agg [(.int .i64 0), (.agg [(.int .i64 0), (.int .i64 0), (.int .i64 0), (.int .i64 0), (.int .i64 0), (.int .i64 0), (.int .i64 0), (.int .i64 0)]), (.sl true []), (.bool false)]))⟩] [])
 (.seq (.reg [] [⟨none, .mv 3 (.t 0)⟩, ⟨none, .fa 4 (.t 2) 1⟩, ⟨none, .ia 5 (.t 4) (.c (.int .i64 0))⟩, ⟨none, .st (.t 5) (.t 3)⟩] [0, 3, 4, 5])
 (.seq (.reg [] [⟨none, .ld 6 (.t 2)⟩, ⟨none, .st (.t 2) (.t 6)⟩] [6])
 .ret))), [.cell 2], none⟩
/- foliot/sema.All -/
def k_sema_All_L0b : K := (.seq (.reg [] [⟨none, .bin 12 .lss (.t 11) (.t 10)⟩] [])
 (.seq (.cond (.t 12) .skip
 (.ext 0))
 (.seq (.blk 1 (.seq (.reg [] [⟨none, .mv 13 (.t 11)⟩, ⟨none, .mv 6 (.t 13)⟩] [13])
 (.seq (.reg [] [⟨none, .mv 14 (.t 0)⟩, ⟨none, .mv 15 (.t 6)⟩, ⟨none, .mv 16 (.t 1)⟩, ⟨none, .dat 17 f_sema_holds [(.t 14), (.t 15), (.t 16)]⟩] [14, 15, 16])
 (.cond (.t 17) (.reg [] [⟨none, .mv 18 (.t 5)⟩, ⟨none, .mv 19 (.t 6)⟩, ⟨none, .ia 20 (.t 18) (.t 19)⟩, ⟨none, .fa 21 (.t 20) 1⟩, ⟨none, .st (.t 21) (.c (.int .i64 0))⟩] [6, 18, 19, 20, 21])
 .skip))))
 (.reg [] [⟨none, .bin 22 .add (.t 11) (.c (.int .i64 1))⟩, ⟨none, .mv 11 (.t 22)⟩] [22]))))
def k_sema_All_L0 : K := k_sema_All_L0b
def k_sema_All : KF := ⟨(.seq (.reg [] [⟨none, .mv 4 (.c (.d (.sl true [])))⟩] [4])
 (.seq (.reg [] [⟨none, .mv 7 (.t 0)⟩, ⟨none, .dat 8 f_slices_Clone_api_Sema_api_Sema [(.t 7)]⟩, ⟨none, .mv 5 (.t 8)⟩] [7, 8])
 (.seq (.seq (.reg [] [⟨none, .mv 9 (.t 5)⟩, ⟨none, .len 10 (.t 9)⟩, ⟨none, .mv 11 (.c (.int .i64 0))⟩] [9])
 (.blk 0 (.loop [0, 1, 5, 10, 11] k_sema_All_L0)))
 (.seq (.reg [] [⟨none, .mv 23 (.t 5)⟩, ⟨none, .mv 4 (.t 23)⟩] [5, 23])
 .ret)))), [.t 4], none⟩
/- slices.Clone[[]foliot/api.Sema,foliot/api.Sema] -/
def k_slices_Clone_api_Sema_api_Sema : KF := ⟨(.seq (.reg [] [⟨none, .mv 2 (.c (.d (.sl true [])))⟩] [2])
 (.seq (.seq (.reg [] [⟨none, .mv 3 (.t 0)⟩, ⟨none, .bin 4 .eql (.t 3) (.c (.d (.sl true [])))⟩] [3])
 (.cond (.t 4) (.seq (.reg [] [⟨none, .mv 2 (.c (.d (.sl true [])))⟩] [])
 .ret)
 .skip))
 (.seq (.reg [] [⟨none, .bsl 5 []⟩, ⟨none, .mv 6 (.t 0)⟩, ⟨none, .app 7 (.t 5) (.t 6)⟩, ⟨none, .mv 2 (.t 7)⟩] [0, 5, 6, 7])
 .ret))), [.t 2], none⟩
/- foliot/sema.holds -/
def k_sema_holds : KF := ⟨(.seq (.reg [] [⟨none, .mv 6 (.c (.bool false))⟩] [6])
 (.seq (.reg [] [⟨none, .mv 7 (.t 0)⟩, ⟨none, .mv 8 (.t 1)⟩, ⟨none, .dat 9 f_sema_has [(.t 7), (.t 8)]⟩, ⟨none, .mv 10 (.t 9)⟩, ⟨some (10, true), .mv 11 (.t 2)⟩, ⟨some (10, true), .bin 12 .geq (.t 11) (.c (.int .i64 0))⟩, ⟨none, .pick 13 (.t 10) (.t 12) (.c (.bool false))⟩, ⟨none, .mv 14 (.t 13)⟩, ⟨some (14, true), .mv 15 (.t 0)⟩, ⟨some (14, true), .mv 16 (.t 1)⟩, ⟨some (14, true), .ia 17 (.t 15) (.t 16)⟩, ⟨some (14, true), .fa 18 (.t 17) 1⟩, ⟨some (14, true), .ld 19 (.t 18)⟩, ⟨some (14, true), .mv 20 (.t 2)⟩, ⟨some (14, true), .bin 21 .add (.t 20) (.c (.int .i64 1))⟩, ⟨some (14, true), .bin 22 .eql (.t 19) (.t 21)⟩, ⟨none, .pick 23 (.t 14) (.t 22) (.c (.bool false))⟩, ⟨none, .mv 6 (.t 23)⟩] [0, 1, 2, 7, 8, 9, 10, 11, 12, 13, 14, 15, 16, 17, 18, 19, 20, 21, 22, 23])
 .ret)), [.t 6], none⟩
/- foliot/sema.has -/
def k_sema_has : KF := ⟨(.seq (.reg [] [⟨none, .mv 4 (.c (.bool false))⟩] [4])
 (.seq (.reg [] [⟨none, .mv 5 (.t 1)⟩, ⟨none, .bin 6 .geq (.t 5) (.c (.int .i64 0))⟩, ⟨none, .mv 7 (.t 6)⟩, ⟨some (7, true), .mv 8 (.t 1)⟩, ⟨some (7, true), .mv 9 (.t 0)⟩, ⟨some (7, true), .len 10 (.t 9)⟩, ⟨some (7, true), .bin 11 .lss (.t 8) (.t 10)⟩, ⟨none, .pick 12 (.t 7) (.t 11) (.c (.bool false))⟩, ⟨none, .mv 4 (.t 12)⟩] [0, 1, 5, 6, 7, 8, 9, 10, 11, 12])
 .ret)), [.t 4], none⟩
/- foliot/fault.Loses -/
def k_fault_Loses : KF := ⟨(.seq (.reg [] [⟨none, .box 2 (.t 0)⟩, ⟨none, .box 3 (.t 1)⟩, ⟨none, .alc 4 (.d (.agg [(.int .i64 0), (.int .i64 0), (.int .i64 0), (.int .i64 0), (.agg [(.int .i64 0), (.agg [(.int .i64 0), (.int .i64 0), (.int .i64 0), (.int .i64 0), (.int .i64 0), (.int .i64 0), (.int .i64 0), (.int .i64 0)]), (.sl true []), (.bool false)]), (.agg [(.int .i64 0), (.agg [(.int .i64 0), (.int .i64 0), (.int .i64 0), (.int .i64 0), (.int .i64 0), (.int .i64 0), (.int .i64 0), (.int .i64 0)]), (.sl true []), (.bool false)]), (.sl true []), (.bool false)]))⟩] [0, 1])
 (.seq (.reg [(3, 6)] [⟨none, .fa 5 (.t 2) 4⟩, ⟨none, .fa 6 (.t 5) 2⟩, ⟨none, .ld 7 (.t 6)⟩, ⟨none, .dat 8 f_slices_Clone_api_Rep2_api_Rep2 [(.t 7)]⟩, ⟨none, .fa 9 (.t 2) 5⟩, ⟨none, .fa 10 (.t 9) 2⟩, ⟨none, .ld 11 (.t 10)⟩, ⟨none, .dat 12 f_slices_Clone_api_Rep2_api_Rep2 [(.t 11)]⟩, ⟨none, .fa 13 (.t 2) 4⟩, ⟨none, .fa 14 (.t 13) 2⟩, ⟨none, .st (.t 14) (.t 8)⟩, ⟨none, .fa 15 (.t 2) 5⟩, ⟨none, .fa 16 (.t 15) 2⟩, ⟨none, .st (.t 16) (.t 12)⟩] [5, 6, 7, 8, 9, 10, 11, 12, 13, 14, 15, 16])
 (.seq (.reg [] [⟨none, .fa 17 (.t 2) 6⟩, ⟨none, .ld 18 (.t 17)⟩, ⟨none, .dat 19 f_slices_Clone_int_int [(.t 18)]⟩, ⟨none, .mkf 20 f_fault_Loses_1 [] [(.t 3)]⟩, ⟨none, .cal 21 f_slices_DeleteFunc_int_int [(.t 19), (.t 20)] []⟩, ⟨none, .fa 22 (.t 2) 6⟩, ⟨none, .st (.t 22) (.t 21)⟩] [3, 17, 18, 19, 20, 21, 22])
 (.seq (.reg [] [⟨none, .ld 23 (.t 2)⟩, ⟨none, .st (.t 4) (.t 23)⟩] [2, 23])
 .ret)))), [.cell 4], none⟩
/- foliot/fault.Loses$1 -/
def k_fault_Loses_1 : KF := ⟨(.seq (.reg [] [⟨none, .mv 3 (.c (.bool false))⟩] [3])
 (.seq (.reg [] [⟨none, .mv 4 (.t 0)⟩, ⟨none, .ld 5 (.t 1)⟩, ⟨none, .bin 6 .eql (.t 4) (.t 5)⟩, ⟨none, .mv 3 (.t 6)⟩] [0, 1, 4, 5, 6])
 .ret)), [.t 3], none⟩
/- slices.DeleteFunc[[]int,int] -/
def k_slices_DeleteFunc_int_int_L0b : K := (.seq (.seq (.reg [] [⟨none, .mv 16 (.t 6)⟩, ⟨none, .mv 17 (.t 0)⟩, ⟨none, .len 18 (.t 17)⟩, ⟨none, .bin 19 .lss (.t 16) (.t 18)⟩] [16, 17, 18])
 (.cond (.t 19) .skip
 (.ext 0)))
 (.seq (.blk 1 (.seq (.reg [] [⟨none, .mv 22 (.t 0)⟩, ⟨none, .mv 23 (.t 6)⟩, ⟨none, .ia 24 (.t 22) (.t 23)⟩, ⟨none, .ld 25 (.t 24)⟩, ⟨none, .mv 7 (.t 25)⟩] [22, 23, 24, 25])
 (.seq (.reg [] [⟨none, .mv 26 (.t 1)⟩, ⟨none, .mv 27 (.t 7)⟩, ⟨none, .cav 28 (.t 26) [(.t 27)]⟩, ⟨none, .un 29 .not (.t 28)⟩] [26, 27, 28])
 (.cond (.t 29) (.seq (.reg [] [⟨none, .mv 30 (.t 0)⟩, ⟨none, .mv 31 (.t 5)⟩, ⟨none, .mv 32 (.t 7)⟩, ⟨none, .ia 33 (.t 30) (.t 31)⟩, ⟨none, .st (.t 33) (.t 32)⟩] [7, 30, 31, 32, 33])
 (.reg [] [⟨none, .mv 34 (.t 5)⟩, ⟨none, .bin 35 .add (.t 34) (.c (.int .i64 1))⟩, ⟨none, .mv 5 (.t 35)⟩] [34, 35]))
 .skip))))
 (.reg [] [⟨none, .mv 20 (.t 6)⟩, ⟨none, .bin 21 .add (.t 20) (.c (.int .i64 1))⟩, ⟨none, .mv 6 (.t 21)⟩] [20, 21])))
def k_slices_DeleteFunc_int_int_L0 : K := k_slices_DeleteFunc_int_int_L0b
def k_slices_DeleteFunc_int_int : KF := ⟨(.seq (.reg [] [⟨none, .mv 4 (.c (.d (.sl true [])))⟩] [4])
 (.seq (.reg [] [⟨none, .mv 8 (.t 0)⟩, ⟨none, .mv 9 (.t 1)⟩, ⟨none, .cal 10 f_slices_IndexFunc_int_int [(.t 8), (.t 9)] []⟩, ⟨none, .mv 5 (.t 10)⟩] [8, 9, 10])
 (.seq (.seq (.reg [] [⟨none, .mv 11 (.t 5)⟩, ⟨none, .bin 12 .eql (.t 11) (.c (.int .i64 (-1)))⟩] [11])
 (.cond (.t 12) (.seq (.reg [] [⟨none, .mv 13 (.t 0)⟩, ⟨none, .mv 4 (.t 13)⟩] [0, 13])
 .ret)
 .skip))
 (.seq (.seq (.reg [] [⟨none, .mv 14 (.t 5)⟩, ⟨none, .bin 15 .add (.t 14) (.c (.int .i64 1))⟩, ⟨none, .mv 6 (.t 15)⟩] [14, 15])
 (.blk 0 (.loop [0, 1, 5, 6] k_slices_DeleteFunc_int_int_L0)))
 (.seq (.reg [] [⟨none, .mv 36 (.t 0)⟩, ⟨none, .mv 37 (.t 5)⟩, ⟨none, .slc 38 (.t 36) (some (.t 37)) none⟩, ⟨none, .clr (.int .i64 0) (.t 38)⟩] [36, 37, 38])
 (.seq (.reg [] [⟨none, .mv 39 (.t 0)⟩, ⟨none, .mv 40 (.t 5)⟩, ⟨none, .slc 41 (.t 39) none (some (.t 40))⟩, ⟨none, .mv 4 (.t 41)⟩] [0, 5, 39, 40, 41])
 .ret)))))), [.t 4], none⟩
/- slices.IndexFunc[[]int,int] -/
def k_slices_IndexFunc_int_int_L0b : K := (.seq (.reg [] [⟨none, .bin 9 .lss (.t 8) (.t 7)⟩] [])
 (.seq (.cond (.t 9) .skip
 (.ext 0))
 (.seq (.blk 1 (.seq (.reg [] [⟨none, .mv 10 (.t 8)⟩, ⟨none, .mv 5 (.t 10)⟩] [10])
 (.seq (.reg [] [⟨none, .mv 11 (.t 1)⟩, ⟨none, .mv 12 (.t 0)⟩, ⟨none, .mv 13 (.t 5)⟩, ⟨none, .ia 14 (.t 12) (.t 13)⟩, ⟨none, .ld 15 (.t 14)⟩, ⟨none, .cav 16 (.t 11) [(.t 15)]⟩] [11, 12, 13, 14, 15])
 (.cond (.t 16) (.seq (.reg [] [⟨none, .mv 17 (.t 5)⟩, ⟨none, .mv 4 (.t 17)⟩] [5, 17])
 .ret)
 .skip))))
 (.reg [] [⟨none, .bin 18 .add (.t 8) (.c (.int .i64 1))⟩, ⟨none, .mv 8 (.t 18)⟩] [18]))))
def k_slices_IndexFunc_int_int_L0 : K := k_slices_IndexFunc_int_int_L0b
def k_slices_IndexFunc_int_int : KF := ⟨(.seq (.reg [] [⟨none, .mv 4 (.c (.int .i64 0))⟩] [4])
 (.seq (.seq (.reg [] [⟨none, .mv 6 (.t 0)⟩, ⟨none, .len 7 (.t 6)⟩, ⟨none, .mv 8 (.c (.int .i64 0))⟩] [6])
 (.blk 0 (.loop [0, 1, 7, 8] k_slices_IndexFunc_int_int_L0)))
 (.seq (.reg [] [⟨none, .mv 4 (.c (.int .i64 (-1)))⟩] [])
 .ret))), [.t 4], none⟩
/- foliot/foliotplay.Made -/
def k_play_Made : KF := ⟨(.seq (.reg [] [⟨none, .mv 2 (.c .und)⟩] [2])
 (.seq (.reg [] [⟨none, .mv 3 (.t 0)⟩, ⟨none, .bld 4 [(.t 3), (.c (.int .i64 0))]⟩, ⟨none, .box 5 (.t 4)⟩, ⟨none, .mv 2 (.t 5)⟩] [0, 3, 4, 5])
 .ret)), [.t 2], none⟩
/- (*foliot/foliotplay.Picks).Task -/
def k_play_Picks_Task : KF := ⟨(.seq (.reg [] [⟨none, .alc 6 (.d (.agg [(.int .i64 0), (.int .i64 0), (.int .i64 0), (.sl true []), (.sl true []), (.sl true [])]))⟩] [])
 (.seq (.reg [] [⟨none, .mv 8 (.t 1)⟩, ⟨none, .mv 9 (.t 0)⟩, ⟨none, .mv 10 (.t 2)⟩, ⟨none, .cal 11 f_play_Picks_Code [(.t 9), (.t 10)] []⟩, ⟨none, .bld 12 [(.t 8), (.c (.int .i64 0)), (.c (.int .i64 0)), (.t 11), (.c (.d (.sl true []))), (.c (.d (.sl true [])))]⟩, ⟨none, .alc 7 (.d (.agg [(.int .i64 0), (.int .i64 0), (.int .i64 0), (.sl true []), (.sl true []), (.sl true [])]))⟩, ⟨none, .st (.t 7) (.t 12)⟩] [1, 2, 8, 9, 10, 11, 12])
 (.seq (.reg [] [⟨none, .mv 13 (.t 0)⟩, ⟨none, .cal 14 f_play_Picks_Num [(.t 13), (.c (.int .i64 12))] []⟩, ⟨none, .bin 15 .mul (.c (.int .i64 10)) (.t 14)⟩, ⟨none, .bin 16 .add (.c (.int .i64 20)) (.t 15)⟩, ⟨none, .fa 17 (.t 7) 1⟩, ⟨none, .st (.t 17) (.t 16)⟩] [13, 14, 15, 16, 17])
 (.seq (.reg [(1, 3)] [⟨none, .fa 18 (.t 7) 1⟩, ⟨none, .ld 19 (.t 18)⟩, ⟨none, .mv 20 (.t 0)⟩, ⟨none, .cal 21 f_play_Picks_Num [(.t 20), (.c (.int .i64 10))] [7]⟩, ⟨none, .bin 22 .sub (.t 19) (.t 21)⟩, ⟨none, .fa 23 (.t 7) 2⟩, ⟨none, .st (.t 23) (.t 22)⟩] [18, 19, 20, 21, 22, 23])
 (.seq (.seq (.reg [] [⟨none, .mv 24 (.t 0)⟩, ⟨none, .cal 25 f_play_Picks_Num [(.t 24), (.c (.int .i64 3))] []⟩, ⟨none, .bin 26 .eql (.t 25) (.c (.int .i64 0))⟩] [24, 25])
 (.cond (.t 26) (.reg [] [⟨none, .bld 27 [(.c (.int .i64 1)), (.c (.int .i64 0)), (.c (.int .i64 0)), (.c (.int .i64 99))]⟩, ⟨none, .bld 28 [(.c (.int .i64 0)), (.c (.int .i64 0)), (.c (.int .i64 0)), (.c (.int .i64 0))]⟩, ⟨none, .bsl 29 [(.t 27), (.t 28)]⟩, ⟨none, .mv 30 (.t 0)⟩, ⟨none, .cal 31 f_play_Picks_Num [(.t 30), (.c (.int .i64 2))] []⟩, ⟨none, .slc 32 (.t 29) (some (.t 31)) none⟩, ⟨none, .fa 33 (.t 7) 4⟩, ⟨none, .st (.t 33) (.t 32)⟩] [27, 28, 29, 30, 31, 32, 33])
 .skip))
 (.seq (.seq (.reg [] [⟨none, .mv 34 (.t 0)⟩, ⟨none, .cal 35 f_play_Picks_Num [(.t 34), (.c (.int .i64 3))] []⟩, ⟨none, .bin 36 .eql (.t 35) (.c (.int .i64 0))⟩] [34, 35])
 (.cond (.t 36) (.reg [] [⟨none, .mv 37 (.t 0)⟩, ⟨none, .cal 38 f_play_Picks_Code [(.t 37), (.c (.int .i64 0))] []⟩, ⟨none, .fa 39 (.t 7) 5⟩, ⟨none, .st (.t 39) (.t 38)⟩] [0, 37, 38, 39])
 .skip))
 (.seq (.reg [] [⟨none, .ld 40 (.t 7)⟩, ⟨none, .st (.t 6) (.t 40)⟩] [7, 40])
 .ret))))))), [.cell 6], none⟩
/- (*foliot/foliotplay.Picks).Code -/
def k_play_Picks_Code_L0b : K := (.seq (.seq (.reg [] [⟨none, .mv 13 (.t 6)⟩, ⟨none, .bin 14 .gtr (.t 13) (.c (.int .i64 0))⟩] [13])
 (.cond (.t 14) .skip
 (.ext 0)))
 (.seq (.blk 1 (.seq (.reg [] [⟨none, .mv 7 (.c (.d (.sl true [])))⟩] [7])
 (.seq (.seq (.reg [] [⟨none, .mv 17 (.t 0)⟩, ⟨none, .cal 18 f_play_Picks_Num [(.t 17), (.c (.int .i64 5))] []⟩] [17])
 (.blk 2 (.seq (.reg [] [⟨none, .bin 23 .eql (.t 18) (.c (.int .i64 0))⟩, ⟨none, .mv 22 (.t 23)⟩] [23])
 (.cond (.t 22) (.seq (.reg [] [⟨none, .mv 24 (.t 0)⟩, ⟨none, .mv 25 (.t 1)⟩, ⟨none, .cal 26 f_play_Picks_some [(.t 24), (.c (.int .i64 2)), (.t 25)] []⟩, ⟨none, .mv 8 (.t 26)⟩] [24, 25, 26])
 (.reg [] [⟨none, .mv 27 (.t 8)⟩, ⟨none, .len 28 (.t 27)⟩, ⟨none, .mv 29 (.t 0)⟩, ⟨none, .cal 30 f_play_Picks_Num [(.t 29), (.c (.int .i64 3))] []⟩, ⟨none, .bin 31 .add (.c (.int .i64 1)) (.t 30)⟩, ⟨none, .bld 32 [(.c (.int .i64 8)), (.c (.int .i64 0)), (.t 28), (.t 31)]⟩, ⟨none, .bsl 33 [(.t 32)]⟩, ⟨none, .mv 34 (.t 8)⟩, ⟨none, .app 35 (.t 33) (.t 34)⟩, ⟨none, .mv 7 (.t 35)⟩] [8, 27, 28, 29, 30, 31, 32, 33, 34, 35]))
 (.seq (.reg [] [⟨none, .bin 37 .eql (.t 18) (.c (.int .i64 1))⟩, ⟨none, .mv 36 (.t 37)⟩] [37])
 (.cond (.t 36) (.seq (.reg [] [⟨none, .mv 38 (.t 0)⟩, ⟨none, .mv 39 (.t 1)⟩, ⟨none, .cal 40 f_play_Picks_some [(.t 38), (.c (.int .i64 2)), (.t 39)] []⟩, ⟨none, .mv 9 (.t 40)⟩] [38, 39, 40])
 (.reg [] [⟨none, .mv 41 (.t 0)⟩, ⟨none, .cal 42 f_play_Picks_Num [(.t 41), (.c (.int .i64 3))] []⟩, ⟨none, .mv 43 (.t 9)⟩, ⟨none, .len 44 (.t 43)⟩, ⟨none, .bld 45 [(.c (.int .i64 7)), (.t 42), (.c (.int .i64 0)), (.t 44)]⟩, ⟨none, .bsl 46 [(.t 45)]⟩, ⟨none, .mv 47 (.t 9)⟩, ⟨none, .app 48 (.t 46) (.t 47)⟩, ⟨none, .mv 7 (.t 48)⟩] [9, 41, 42, 43, 44, 45, 46, 47, 48]))
 (.seq (.reg [] [⟨none, .bin 50 .eql (.t 18) (.c (.int .i64 2))⟩, ⟨none, .mv 49 (.t 50)⟩] [18, 50])
 (.cond (.t 49) (.reg [] [⟨none, .bld 51 [(.c (.int .i64 11)), (.c (.int .i64 0)), (.c (.int .i64 0)), (.c (.int .i64 0))]⟩, ⟨none, .bsl 52 [(.t 51)]⟩, ⟨none, .mv 7 (.t 52)⟩] [51, 52])
 (.reg [] [⟨none, .mv 19 (.t 0)⟩, ⟨none, .mv 20 (.t 1)⟩, ⟨none, .cal 21 f_play_Picks_some [(.t 19), (.c (.int .i64 2)), (.t 20)] []⟩, ⟨none, .mv 7 (.t 21)⟩] [19, 20, 21])))))))))
 (.seq (.reg [] [⟨none, .mv 53 (.t 5)⟩, ⟨none, .len 54 (.t 53)⟩, ⟨none, .mv 55 (.t 7)⟩, ⟨none, .len 56 (.t 55)⟩, ⟨none, .bin 57 .add (.t 54) (.t 56)⟩, ⟨none, .bin 58 .lss (.t 57) (.c (.int .i64 23))⟩] [53, 54, 55, 56, 57])
 (.cond (.t 58) (.reg [] [⟨none, .mv 59 (.t 5)⟩, ⟨none, .mv 60 (.t 7)⟩, ⟨none, .app 61 (.t 59) (.t 60)⟩, ⟨none, .mv 5 (.t 61)⟩] [7, 59, 60, 61])
 .skip)))))
 (.reg [] [⟨none, .mv 15 (.t 6)⟩, ⟨none, .bin 16 .sub (.t 15) (.c (.int .i64 1))⟩, ⟨none, .mv 6 (.t 16)⟩] [15, 16])))
def k_play_Picks_Code_L0 : K := k_play_Picks_Code_L0b
def k_play_Picks_Code : KF := ⟨(.seq (.reg [] [⟨none, .mv 4 (.c (.d (.sl true [])))⟩] [4])
 (.seq (.reg [] [⟨none, .mv 5 (.c (.d (.sl true [])))⟩] [])
 (.seq (.seq (.reg [] [⟨none, .mv 10 (.t 0)⟩, ⟨none, .cal 11 f_play_Picks_Num [(.t 10), (.c (.int .i64 4))] []⟩, ⟨none, .bin 12 .add (.t 11) (.c (.int .i64 1))⟩, ⟨none, .mv 6 (.t 12)⟩] [10, 11, 12])
 (.blk 0 (.loop [0, 1, 5, 6] k_play_Picks_Code_L0)))
 (.seq (.reg [] [⟨none, .mv 62 (.t 5)⟩, ⟨none, .bld 63 [(.c (.int .i64 0)), (.c (.int .i64 0)), (.c (.int .i64 0)), (.c (.int .i64 0))]⟩, ⟨none, .bsl 64 [(.t 63)]⟩, ⟨none, .app 65 (.t 62) (.t 64)⟩, ⟨none, .mv 4 (.t 65)⟩] [5, 62, 63, 64, 65])
 .ret)))), [.t 4], none⟩
/- (*foliot/foliotplay.Picks).Num -/
def k_play_Picks_Num : KF := ⟨(.seq (.reg [] [⟨none, .mv 4 (.c (.int .i64 0))⟩] [4])
 (.seq (.seq (.reg [] [⟨none, .mv 5 (.t 0)⟩, ⟨none, .nck 6 (.t 5)⟩, ⟨none, .fa 7 (.t 6) 1⟩, ⟨none, .ld 8 (.t 7)⟩, ⟨none, .mv 9 (.t 0)⟩, ⟨none, .nck 10 (.t 9)⟩, ⟨none, .fa 11 (.t 10) 0⟩, ⟨none, .ld 12 (.t 11)⟩, ⟨none, .len 13 (.t 12)⟩, ⟨none, .bin 14 .geq (.t 8) (.t 13)⟩] [5, 6, 7, 8, 9, 10, 11, 12, 13])
 (.cond (.t 14) (.seq (.reg [] [⟨none, .mv 4 (.c (.int .i64 0))⟩] [])
 .ret)
 .skip))
 (.seq (.reg [] [⟨none, .mv 15 (.t 0)⟩, ⟨none, .nck 16 (.t 15)⟩, ⟨none, .fa 17 (.t 16) 1⟩, ⟨none, .ld 18 (.t 17)⟩, ⟨none, .bin 19 .add (.t 18) (.c (.int .i64 1))⟩, ⟨none, .nck 20 (.t 15)⟩, ⟨none, .fa 21 (.t 20) 1⟩, ⟨none, .st (.t 21) (.t 19)⟩] [15, 16, 17, 18, 19, 20, 21])
 (.seq (.reg [] [⟨none, .mv 22 (.t 0)⟩, ⟨none, .nck 23 (.t 22)⟩, ⟨none, .fa 24 (.t 23) 0⟩, ⟨none, .ld 25 (.t 24)⟩, ⟨none, .mv 26 (.t 0)⟩, ⟨none, .nck 27 (.t 26)⟩, ⟨none, .fa 28 (.t 27) 1⟩, ⟨none, .ld 29 (.t 28)⟩, ⟨none, .bin 30 .sub (.t 29) (.c (.int .i64 1))⟩, ⟨none, .ia 31 (.t 25) (.t 30)⟩, ⟨none, .ld 32 (.t 31)⟩, ⟨none, .cv 33 .i64 (.t 32)⟩, ⟨none, .mv 34 (.t 1)⟩, ⟨none, .bin 35 .rem (.t 33) (.t 34)⟩, ⟨none, .mv 4 (.t 35)⟩] [0, 1, 22, 23, 24, 25, 26, 27, 28, 29, 30, 31, 32, 33, 34, 35])
 .ret)))), [.t 4], none⟩
/- (*foliot/foliotplay.Picks).some -/
def k_play_Picks_some_L0b : K := (.seq (.seq (.reg [] [⟨none, .mv 14 (.t 8)⟩, ⟨none, .bin 15 .gtr (.t 14) (.c (.int .i64 0))⟩] [14])
 (.cond (.t 15) .skip
 (.ext 0)))
 (.seq (.blk 1 (.seq (.reg [] [⟨none, .mv 18 (.t 2)⟩, ⟨none, .bin 19 .gtr (.t 18) (.c (.int .i64 0))⟩, ⟨none, .mv 20 (.t 19)⟩, ⟨some (20, true), .mv 21 (.t 0)⟩, ⟨some (20, true), .cal 22 f_play_Picks_Num [(.t 21), (.c (.int .i64 4))] []⟩, ⟨some (20, true), .bin 23 .eql (.t 22) (.c (.int .i64 0))⟩, ⟨none, .pick 24 (.t 20) (.t 23) (.c (.bool false))⟩] [18, 19, 20, 21, 22, 23])
 (.cond (.t 24) (.seq (.reg [] [⟨none, .mv 25 (.t 0)⟩, ⟨none, .mv 26 (.t 2)⟩, ⟨none, .cal 27 f_play_Picks_Num [(.t 25), (.t 26)] []⟩, ⟨none, .mv 9 (.t 27)⟩] [25, 26, 27])
 (.reg [] [⟨none, .mv 28 (.t 7)⟩, ⟨none, .mv 29 (.t 9)⟩, ⟨none, .bld 30 [(.c (.int .i64 9)), (.t 29), (.c (.int .i64 0)), (.c (.int .i64 0))]⟩, ⟨none, .bsl 31 [(.t 30)]⟩, ⟨none, .app 32 (.t 28) (.t 31)⟩, ⟨none, .mv 33 (.t 0)⟩, ⟨none, .cal 34 f_play_Picks_plain [(.t 33)] []⟩, ⟨none, .bsl 35 [(.t 34)]⟩, ⟨none, .app 36 (.t 32) (.t 35)⟩, ⟨none, .mv 37 (.t 9)⟩, ⟨none, .bld 38 [(.c (.int .i64 10)), (.t 37), (.c (.int .i64 0)), (.c (.int .i64 0))]⟩, ⟨none, .bsl 39 [(.t 38)]⟩, ⟨none, .app 40 (.t 36) (.t 39)⟩, ⟨none, .mv 7 (.t 40)⟩] [9, 28, 29, 30, 31, 32, 33, 34, 35, 36, 37, 38, 39, 40]))
 (.reg [] [⟨none, .mv 41 (.t 7)⟩, ⟨none, .mv 42 (.t 0)⟩, ⟨none, .cal 43 f_play_Picks_plain [(.t 42)] []⟩, ⟨none, .bsl 44 [(.t 43)]⟩, ⟨none, .app 45 (.t 41) (.t 44)⟩, ⟨none, .mv 7 (.t 45)⟩] [41, 42, 43, 44, 45]))))
 (.reg [] [⟨none, .mv 16 (.t 8)⟩, ⟨none, .bin 17 .sub (.t 16) (.c (.int .i64 1))⟩, ⟨none, .mv 8 (.t 17)⟩] [16, 17])))
def k_play_Picks_some_L0 : K := k_play_Picks_some_L0b
def k_play_Picks_some : KF := ⟨(.seq (.reg [] [⟨none, .mv 6 (.c (.d (.sl true [])))⟩] [6])
 (.seq (.reg [] [⟨none, .mv 7 (.c (.d (.sl true [])))⟩] [])
 (.seq (.seq (.reg [] [⟨none, .mv 10 (.t 0)⟩, ⟨none, .mv 11 (.t 1)⟩, ⟨none, .cal 12 f_play_Picks_Num [(.t 10), (.t 11)] []⟩, ⟨none, .bin 13 .add (.t 12) (.c (.int .i64 1))⟩, ⟨none, .mv 8 (.t 13)⟩] [1, 10, 11, 12, 13])
 (.blk 0 (.loop [0, 2, 7, 8] k_play_Picks_some_L0)))
 (.seq (.reg [] [⟨none, .mv 46 (.t 7)⟩, ⟨none, .mv 6 (.t 46)⟩] [7, 46])
 .ret)))), [.t 6], none⟩
/- (*foliot/foliotplay.Picks).plain -/
def k_play_Picks_plain : KF := ⟨(.seq (.reg [] [⟨none, .alc 2 (.d (.agg [(.int .i64 0), (.int .i64 0), (.int .i64 0), (.int .i64 0)]))⟩] [])
 (.seq (.reg [] [⟨none, .mv 5 (.t 0)⟩, ⟨none, .cal 6 f_play_Picks_Num [(.t 5), (.c (.int .i64 3))] []⟩, ⟨none, .mv 7 (.t 0)⟩, ⟨none, .cal 8 f_play_Picks_Num [(.t 7), (.c (.int .i64 3))] []⟩, ⟨none, .mv 3 (.t 6)⟩, ⟨none, .mv 4 (.t 8)⟩] [5, 6, 7, 8])
 (.seq (.seq (.reg [] [⟨none, .mv 9 (.t 0)⟩, ⟨none, .cal 10 f_play_Picks_Num [(.t 9), (.c (.int .i64 6))] []⟩] [9])
 (.blk 0 (.seq (.reg [] [⟨none, .bin 12 .eql (.t 10) (.c (.int .i64 0))⟩, ⟨none, .mv 11 (.t 12)⟩] [12])
 (.cond (.t 11) (.seq (.reg [] [⟨none, .mv 13 (.t 3)⟩, ⟨none, .mv 14 (.t 0)⟩, ⟨none, .cal 15 f_play_Picks_Num [(.t 14), (.c (.int .i64 9))] []⟩, ⟨none, .bin 16 .sub (.t 15) (.c (.int .i64 4))⟩, ⟨none, .bld 17 [(.c (.int .i64 1)), (.t 13), (.c (.int .i64 0)), (.t 16)]⟩, ⟨none, .st (.t 2) (.t 17)⟩] [0, 3, 13, 14, 15, 16, 17])
 .ret)
 (.seq (.reg [] [⟨none, .bin 19 .eql (.t 10) (.c (.int .i64 1))⟩, ⟨none, .mv 18 (.t 19)⟩] [19])
 (.cond (.t 18) (.seq (.reg [] [⟨none, .mv 20 (.t 3)⟩, ⟨none, .mv 21 (.t 4)⟩, ⟨none, .bld 22 [(.c (.int .i64 2)), (.t 20), (.t 21), (.c (.int .i64 0))]⟩, ⟨none, .st (.t 2) (.t 22)⟩] [3, 4, 20, 21, 22])
 .ret)
 (.seq (.reg [] [⟨none, .bin 24 .eql (.t 10) (.c (.int .i64 2))⟩, ⟨none, .mv 23 (.t 24)⟩] [24])
 (.cond (.t 23) (.seq (.reg [] [⟨none, .mv 25 (.t 3)⟩, ⟨none, .mv 26 (.t 4)⟩, ⟨none, .bld 27 [(.c (.int .i64 3)), (.t 25), (.t 26), (.c (.int .i64 0))]⟩, ⟨none, .st (.t 2) (.t 27)⟩] [3, 4, 25, 26, 27])
 .ret)
 (.seq (.reg [] [⟨none, .bin 29 .eql (.t 10) (.c (.int .i64 3))⟩, ⟨none, .mv 28 (.t 29)⟩] [29])
 (.cond (.t 28) (.seq (.reg [] [⟨none, .mv 30 (.t 3)⟩, ⟨none, .mv 31 (.t 4)⟩, ⟨none, .bld 32 [(.c (.int .i64 4)), (.t 30), (.t 31), (.c (.int .i64 0))]⟩, ⟨none, .st (.t 2) (.t 32)⟩] [3, 4, 30, 31, 32])
 .ret)
 (.seq (.reg [] [⟨none, .bin 34 .eql (.t 10) (.c (.int .i64 4))⟩, ⟨none, .mv 33 (.t 34)⟩] [10, 34])
 (.cond (.t 33) (.seq (.reg [] [⟨none, .mv 35 (.t 3)⟩, ⟨none, .mv 36 (.t 0)⟩, ⟨none, .cal 37 f_play_Picks_Num [(.t 36), (.c (.int .i64 7))] []⟩, ⟨none, .bin 38 .sub (.t 37) (.c (.int .i64 3))⟩, ⟨none, .bld 39 [(.c (.int .i64 5)), (.t 35), (.c (.int .i64 0)), (.t 38)]⟩, ⟨none, .st (.t 2) (.t 39)⟩] [0, 3, 35, 36, 37, 38, 39])
 .ret)
 .skip))))))))))))
 (.seq (.reg [] [⟨none, .mv 40 (.t 3)⟩, ⟨none, .mv 41 (.t 0)⟩, ⟨none, .cal 42 f_play_Picks_Num [(.t 41), (.c (.int .i64 64))] []⟩, ⟨none, .bin 43 .add (.c (.int .i64 1)) (.t 42)⟩, ⟨none, .bld 44 [(.c (.int .i64 6)), (.t 40), (.c (.int .i64 0)), (.t 43)]⟩, ⟨none, .st (.t 2) (.t 44)⟩] [0, 3, 40, 41, 42, 43, 44])
 .ret)))), [.cell 2], none⟩
/- foliot/foliotref19.Go -/
def k_ref19_Go_L0b : K := (.seq (.seq (.reg [] [⟨none, .mv 55 (.t 11)⟩, ⟨none, .bin 56 .geq (.t 55) (.c (.int .i64 0))⟩] [55])
 (.cond (.t 56) .skip
 (.ext 1)))
 (.seq (.blk 2 (.seq (.reg [] [⟨none, .fa 59 (.t 10) 6⟩, ⟨none, .ld 60 (.t 59)⟩, ⟨none, .mv 61 (.t 11)⟩, ⟨none, .ia 62 (.t 60) (.t 61)⟩, ⟨none, .ld 63 (.t 62)⟩, ⟨none, .fa 64 (.t 8) 1⟩, ⟨none, .ld 65 (.t 64)⟩, ⟨none, .bin 66 .eql (.t 63) (.t 65)⟩] [59, 60, 61, 62, 63, 64, 65])
 (.cond (.t 66) (.seq (.reg [(0, 2), (0, 7), (5, 7)] [⟨none, .bsl 67 []⟩, ⟨none, .fa 68 (.t 10) 6⟩, ⟨none, .ld 69 (.t 68)⟩, ⟨none, .mv 70 (.t 11)⟩, ⟨none, .slc 71 (.t 69) none (some (.t 70))⟩, ⟨none, .app 72 (.t 67) (.t 71)⟩, ⟨none, .fa 73 (.t 10) 6⟩, ⟨none, .ld 74 (.t 73)⟩, ⟨none, .mv 75 (.t 11)⟩, ⟨none, .bin 76 .add (.t 75) (.c (.int .i64 1))⟩, ⟨none, .slc 77 (.t 74) (some (.t 76)) none⟩, ⟨none, .app 78 (.t 72) (.t 77)⟩, ⟨none, .fa 79 (.t 10) 6⟩, ⟨none, .st (.t 79) (.t 78)⟩] [11, 67, 68, 69, 70, 71, 72, 73, 74, 75, 76, 77, 78, 79])
 (.ext 1))
 .skip)))
 (.reg [] [⟨none, .mv 57 (.t 11)⟩, ⟨none, .bin 58 .sub (.t 57) (.c (.int .i64 1))⟩, ⟨none, .mv 11 (.t 58)⟩] [57, 58])))
def k_ref19_Go_L0 : K := k_ref19_Go_L0b
def k_ref19_Go : KF := ⟨(.seq (.reg [] [⟨none, .box 2 (.t 0)⟩, ⟨none, .box 3 (.t 1)⟩, ⟨none, .alc 4 (.d (.agg [(.int .i64 0), (.int .i64 0), (.int .i64 0), (.int .i64 0), (.agg [(.int .i64 0), (.agg [(.int .i64 0), (.int .i64 0), (.int .i64 0), (.int .i64 0), (.int .i64 0), (.int .i64 0), (.int .i64 0), (.int .i64 0)]), (.sl true []), (.bool false)]), (.agg [(.int .i64 0), (.agg [(.int .i64 0), (.int .i64 0), (.int .i64 0), (.int .i64 0), (.int .i64 0), (.int .i64 0), (.int .i64 0), (.int .i64 0)]), (.sl true []), (.bool false)]), (.sl true []), (.bool false)]))⟩, ⟨none, .alc 5 (.d (.agg [(.int .i64 0), (.int .i64 0), (.int .i64 0), (.int .i64 0)]))⟩, ⟨none, .mv 6 (.c (.bool false))⟩] [0, 1, 6])
 (.seq (.reg [(2, 4), (0, 10), (1, 10), (2, 10), (4, 10), (5, 10), (0, 11), (1, 11), (2, 11), (4, 11), (5, 11)] [⟨none, .ld 13 (.t 2)⟩, ⟨none, .ld 14 (.t 3)⟩, ⟨none, .das 15 f_ref19_Code [(.t 13), (.t 14)]⟩, ⟨none, .fa 16 (.t 3) 4⟩, ⟨none, .ld 17 (.t 16)⟩, ⟨none, .dat 18 f_ref1_Step [(.t 15), (.t 17)]⟩, ⟨none, .mv 12 (.t 18)⟩, ⟨none, .ex 19 (.t 12) 0⟩, ⟨none, .ex 20 (.t 12) 1⟩, ⟨none, .ex 21 (.t 12) 2⟩, ⟨none, .alc 7 (.d (.agg [(.int .i64 0), (.agg [(.int .i64 0), (.int .i64 0), (.int .i64 0), (.int .i64 0), (.int .i64 0), (.int .i64 0), (.int .i64 0), (.int .i64 0)]), (.sl true []), (.bool false)]))⟩, ⟨none, .alc 8 (.d (.agg [(.int .i64 0), (.int .i64 0), (.int .i64 0), (.int .i64 0)]))⟩, ⟨none, .st (.t 7) (.t 19)⟩, ⟨none, .st (.t 8) (.t 20)⟩, ⟨none, .mv 9 (.t 21)⟩] [2, 12, 13, 14, 15, 16, 17, 18, 19, 20, 21])
 (.seq (.seq (.reg [] [⟨none, .mv 22 (.t 9)⟩, ⟨none, .un 23 .not (.t 22)⟩] [9, 22])
 (.cond (.t 23) (.seq (.reg [] [⟨none, .ld 24 (.t 3)⟩, ⟨none, .bld 25 [(.c (.int .i64 0)), (.c (.int .i64 0)), (.c (.int .i64 0)), (.c (.int .i64 0))]⟩, ⟨none, .st (.t 4) (.t 24)⟩, ⟨none, .st (.t 5) (.t 25)⟩, ⟨none, .mv 6 (.c (.bool false))⟩] [3, 24, 25])
 .ret)
 .skip))
 (.seq (.reg [] [⟨none, .ld 26 (.t 3)⟩, ⟨none, .alc 10 (.d (.agg [(.int .i64 0), (.int .i64 0), (.int .i64 0), (.int .i64 0), (.agg [(.int .i64 0), (.agg [(.int .i64 0), (.int .i64 0), (.int .i64 0), (.int .i64 0), (.int .i64 0), (.int .i64 0), (.int .i64 0), (.int .i64 0)]), (.sl true []), (.bool false)]), (.agg [(.int .i64 0), (.agg [(.int .i64 0), (.int .i64 0), (.int .i64 0), (.int .i64 0), (.int .i64 0), (.int .i64 0), (.int .i64 0), (.int .i64 0)]), (.sl true []), (.bool false)]), (.sl true []), (.bool false)]))⟩, ⟨none, .st (.t 10) (.t 26)⟩] [26])
 (.seq (.reg [] [⟨none, .ld 27 (.t 7)⟩, ⟨none, .fa 28 (.t 10) 4⟩, ⟨none, .st (.t 28) (.t 27)⟩] [27, 28])
 (.seq (.reg [] [⟨none, .bsl 29 []⟩, ⟨none, .fa 30 (.t 3) 6⟩, ⟨none, .ld 31 (.t 30)⟩, ⟨none, .app 32 (.t 29) (.t 31)⟩, ⟨none, .fa 33 (.t 10) 6⟩, ⟨none, .st (.t 33) (.t 32)⟩] [3, 29, 30, 31, 32, 33])
 (.seq (.seq (.reg [] [⟨none, .fa 34 (.t 8) 0⟩, ⟨none, .ld 35 (.t 34)⟩] [34])
 (.blk 0 (.seq (.reg [] [⟨none, .bin 37 .eql (.t 35) (.c (.int .i64 11))⟩, ⟨none, .mv 36 (.t 37)⟩] [37])
 (.cond (.t 36) (.reg [] [⟨none, .ld 38 (.t 7)⟩, ⟨none, .fa 39 (.t 10) 5⟩, ⟨none, .st (.t 39) (.t 38)⟩] [7, 38, 39])
 (.seq (.reg [] [⟨none, .bin 41 .eql (.t 35) (.c (.int .i64 9))⟩, ⟨none, .mv 40 (.t 41)⟩] [41])
 (.cond (.t 40) (.reg [] [⟨none, .fa 42 (.t 10) 6⟩, ⟨none, .ld 43 (.t 42)⟩, ⟨none, .fa 44 (.t 8) 1⟩, ⟨none, .ld 45 (.t 44)⟩, ⟨none, .bsl 46 [(.t 45)]⟩, ⟨none, .app 47 (.t 43) (.t 46)⟩, ⟨none, .fa 48 (.t 10) 6⟩, ⟨none, .st (.t 48) (.t 47)⟩] [42, 43, 44, 45, 46, 47, 48])
 (.seq (.reg [] [⟨none, .bin 50 .eql (.t 35) (.c (.int .i64 10))⟩, ⟨none, .mv 49 (.t 50)⟩] [35, 50])
 (.cond (.t 49) (.seq (.reg [] [⟨none, .fa 51 (.t 10) 6⟩, ⟨none, .ld 52 (.t 51)⟩, ⟨none, .len 53 (.t 52)⟩, ⟨none, .bin 54 .sub (.t 53) (.c (.int .i64 1))⟩, ⟨none, .mv 11 (.t 54)⟩] [51, 52, 53, 54])
 (.blk 1 (.loop [4, 5, 8, 10, 11] k_ref19_Go_L0)))
 .skip))))))))
 (.seq (.reg [(1, 2)] [⟨none, .ld 80 (.t 10)⟩, ⟨none, .ld 81 (.t 8)⟩, ⟨none, .st (.t 4) (.t 80)⟩, ⟨none, .st (.t 5) (.t 81)⟩, ⟨none, .mv 6 (.c (.bool true))⟩] [8, 10, 80, 81])
 .ret)))))))), [.cell 4, .cell 5, .t 6], none⟩
/- foliot/foliotref19.Code -/
def k_ref19_Code : KF := ⟨(.seq (.reg [] [⟨none, .box 2 (.t 0)⟩, ⟨none, .box 3 (.t 1)⟩, ⟨none, .mv 4 (.c (.d (.sl true [])))⟩] [0, 1, 4])
 (.seq (.seq (.reg [] [⟨none, .fa 5 (.t 3) 3⟩, ⟨none, .ld 6 (.t 5)⟩] [3, 5])
 (.blk 0 (.seq (.reg [] [⟨none, .bin 8 .eql (.t 6) (.c (.int .i64 0))⟩, ⟨none, .mv 7 (.t 8)⟩] [8])
 (.cond (.t 7) (.seq (.reg [] [⟨none, .fa 9 (.t 2) 3⟩, ⟨none, .ld 10 (.t 9)⟩, ⟨none, .mv 4 (.t 10)⟩] [2, 9, 10])
 .ret)
 (.seq (.reg [] [⟨none, .bin 12 .eql (.t 6) (.c (.int .i64 1))⟩, ⟨none, .mv 11 (.t 12)⟩] [12])
 (.cond (.t 11) (.seq (.reg [] [⟨none, .fa 13 (.t 2) 4⟩, ⟨none, .ld 14 (.t 13)⟩, ⟨none, .mv 4 (.t 14)⟩] [2, 13, 14])
 .ret)
 (.seq (.reg [] [⟨none, .bin 16 .eql (.t 6) (.c (.int .i64 2))⟩, ⟨none, .mv 15 (.t 16)⟩] [6, 16])
 (.cond (.t 15) (.seq (.reg [] [⟨none, .fa 17 (.t 2) 5⟩, ⟨none, .ld 18 (.t 17)⟩, ⟨none, .mv 4 (.t 18)⟩] [2, 17, 18])
 .ret)
 .skip))))))))
 (.seq (.reg [] [⟨none, .mv 4 (.c (.d (.sl true [])))⟩] [])
 .ret))), [.t 4], none⟩
/- foliot/foliotref1.Step -/
def k_ref1_Step_L0b : K := (.seq (.seq (.reg [] [⟨none, .fa 173 (.t 3) 2⟩, ⟨none, .ld 174 (.t 173)⟩, ⟨none, .len 175 (.t 174)⟩, ⟨none, .bin 176 .gtr (.t 175) (.c (.int .i64 0))⟩, ⟨none, .mv 177 (.t 176)⟩, ⟨some (177, true), .fa 178 (.t 3) 2⟩, ⟨some (177, true), .ld 179 (.t 178)⟩, ⟨some (177, true), .fa 180 (.t 3) 2⟩, ⟨some (177, true), .ld 181 (.t 180)⟩, ⟨some (177, true), .len 182 (.t 181)⟩, ⟨some (177, true), .bin 183 .sub (.t 182) (.c (.int .i64 1))⟩, ⟨some (177, true), .ia 184 (.t 179) (.t 183)⟩, ⟨some (177, true), .fa 185 (.t 184) 1⟩, ⟨some (177, true), .ld 186 (.t 185)⟩, ⟨some (177, true), .fa 187 (.t 3) 0⟩, ⟨some (177, true), .ld 188 (.t 187)⟩, ⟨some (177, true), .bin 189 .lss (.t 186) (.t 188)⟩, ⟨none, .pick 190 (.t 177) (.t 189) (.c (.bool false))⟩] [173, 174, 175, 176, 177, 178, 179, 180, 181, 182, 183, 184, 185, 186, 187, 188, 189])
 (.cond (.t 190) .skip
 (.ext 1)))
 (.blk 2 (.seq (.reg [] [⟨none, .fa 191 (.t 3) 2⟩, ⟨none, .ld 192 (.t 191)⟩, ⟨none, .fa 193 (.t 3) 2⟩, ⟨none, .ld 194 (.t 193)⟩, ⟨none, .len 195 (.t 194)⟩, ⟨none, .bin 196 .sub (.t 195) (.c (.int .i64 1))⟩, ⟨none, .ia 197 (.t 192) (.t 196)⟩, ⟨none, .ld 198 (.t 197)⟩, ⟨none, .alc 9 (.d (.agg [(.int .i64 0), (.int .i64 0), (.int .i64 0)]))⟩, ⟨none, .st (.t 9) (.t 198)⟩] [191, 192, 193, 194, 195, 196, 197, 198])
 (.seq (.reg [] [⟨none, .fa 199 (.t 3) 2⟩, ⟨none, .ld 200 (.t 199)⟩, ⟨none, .fa 201 (.t 3) 2⟩, ⟨none, .ld 202 (.t 201)⟩, ⟨none, .len 203 (.t 202)⟩, ⟨none, .bin 204 .sub (.t 203) (.c (.int .i64 1))⟩, ⟨none, .slc 205 (.t 200) none (some (.t 204))⟩, ⟨none, .fa 206 (.t 3) 2⟩, ⟨none, .st (.t 206) (.t 205)⟩] [199, 200, 201, 202, 203, 204, 205, 206])
 (.seq (.reg [] [⟨none, .fa 207 (.t 9) 2⟩, ⟨none, .ld 208 (.t 207)⟩, ⟨none, .bin 209 .gtr (.t 208) (.c (.int .i64 0))⟩] [207, 208])
 (.cond (.t 209) (.seq (.reg [] [⟨none, .fa 210 (.t 9) 2⟩, ⟨none, .ld 211 (.t 210)⟩, ⟨none, .bin 212 .sub (.t 211) (.c (.int .i64 1))⟩, ⟨none, .fa 213 (.t 9) 2⟩, ⟨none, .st (.t 213) (.t 212)⟩] [210, 211, 212, 213])
 (.seq (.reg [] [⟨none, .fa 214 (.t 3) 2⟩, ⟨none, .ld 215 (.t 214)⟩, ⟨none, .ld 216 (.t 9)⟩, ⟨none, .bsl 217 [(.t 216)]⟩, ⟨none, .app 218 (.t 215) (.t 217)⟩, ⟨none, .fa 219 (.t 3) 2⟩, ⟨none, .st (.t 219) (.t 218)⟩] [214, 215, 216, 217, 218, 219])
 (.seq (.reg [] [⟨none, .fa 220 (.t 9) 0⟩, ⟨none, .ld 221 (.t 220)⟩, ⟨none, .fa 222 (.t 3) 0⟩, ⟨none, .st (.t 222) (.t 221)⟩] [9, 220, 221, 222])
 (.ext 1))))
 .skip))))))
def k_ref1_Step_L0 : K := k_ref1_Step_L0b
def k_ref1_Step : KF := ⟨(.seq (.reg [] [⟨none, .box 3 (.t 1)⟩, ⟨none, .alc 4 (.d (.agg [(.int .i64 0), (.agg [(.int .i64 0), (.int .i64 0), (.int .i64 0), (.int .i64 0), (.int .i64 0), (.int .i64 0), (.int .i64 0), (.int .i64 0)]), (.sl true []), (.bool false)]))⟩, ⟨none, .alc 5 (.d (.agg [(.int .i64 0), (.int .i64 0), (.int .i64 0), (.int .i64 0)]))⟩, ⟨none, .mv 6 (.c (.bool false))⟩] [1, 6])
 (.seq (.reg [] [⟨none, .bsl 10 []⟩, ⟨none, .fa 11 (.t 3) 2⟩, ⟨none, .ld 12 (.t 11)⟩, ⟨none, .app 13 (.t 10) (.t 12)⟩, ⟨none, .fa 14 (.t 3) 2⟩, ⟨none, .st (.t 14) (.t 13)⟩] [10, 11, 12, 13, 14])
 (.seq (.seq (.reg [] [⟨none, .fa 15 (.t 3) 3⟩, ⟨none, .ld 16 (.t 15)⟩, ⟨none, .mv 17 (.t 16)⟩, ⟨some (17, false), .fa 18 (.t 3) 0⟩, ⟨some (17, false), .ld 19 (.t 18)⟩, ⟨some (17, false), .bin 20 .lss (.t 19) (.c (.int .i64 0))⟩, ⟨none, .pick 21 (.t 17) (.c (.bool true)) (.t 20)⟩, ⟨none, .mv 22 (.t 21)⟩, ⟨some (22, false), .fa 23 (.t 3) 0⟩, ⟨some (22, false), .ld 24 (.t 23)⟩, ⟨some (22, false), .mv 25 (.t 0)⟩, ⟨some (22, false), .len 26 (.t 25)⟩, ⟨some (22, false), .bin 27 .geq (.t 24) (.t 26)⟩, ⟨none, .pick 28 (.t 22) (.c (.bool true)) (.t 27)⟩, ⟨none, .mv 29 (.t 28)⟩, ⟨some (29, false), .mv 30 (.t 0)⟩, ⟨some (29, false), .fa 31 (.t 3) 0⟩, ⟨some (29, false), .ld 32 (.t 31)⟩, ⟨some (29, false), .ia 33 (.t 30) (.t 32)⟩, ⟨some (29, false), .ld 34 (.t 33)⟩, ⟨some (29, false), .dat 35 f_ref1_MayInst [(.t 34)]⟩, ⟨some (29, false), .un 36 .not (.t 35)⟩, ⟨none, .pick 37 (.t 29) (.c (.bool true)) (.t 36)⟩] [15, 16, 17, 18, 19, 20, 21, 22, 23, 24, 25, 26, 27, 28, 29, 30, 31, 32, 33, 34, 35, 36])
 (.cond (.t 37) (.seq (.reg [] [⟨none, .ld 38 (.t 3)⟩, ⟨none, .bld 39 [(.c (.int .i64 0)), (.c (.int .i64 0)), (.c (.int .i64 0)), (.c (.int .i64 0))]⟩, ⟨none, .st (.t 4) (.t 38)⟩, ⟨none, .st (.t 5) (.t 39)⟩, ⟨none, .mv 6 (.c (.bool false))⟩] [3, 38, 39])
 .ret)
 .skip))
 (.seq (.reg [] [⟨none, .mv 40 (.t 0)⟩, ⟨none, .fa 41 (.t 3) 0⟩, ⟨none, .ld 42 (.t 41)⟩, ⟨none, .ia 43 (.t 40) (.t 42)⟩, ⟨none, .ld 44 (.t 43)⟩, ⟨none, .alc 7 (.d (.agg [(.int .i64 0), (.int .i64 0), (.int .i64 0), (.int .i64 0)]))⟩, ⟨none, .st (.t 7) (.t 44)⟩] [0, 40, 41, 42, 43, 44])
 (.seq (.reg [] [⟨none, .fa 45 (.t 3) 0⟩, ⟨none, .ld 46 (.t 45)⟩, ⟨none, .bin 47 .add (.t 46) (.c (.int .i64 1))⟩, ⟨none, .mv 8 (.t 47)⟩] [45, 46, 47])
 (.seq (.seq (.reg [] [⟨none, .fa 48 (.t 7) 0⟩, ⟨none, .ld 49 (.t 48)⟩] [48])
 (.blk 0 (.seq (.reg [] [⟨none, .bin 51 .eql (.t 49) (.c (.int .i64 0))⟩, ⟨none, .mv 50 (.t 51)⟩] [51])
 (.cond (.t 50) (.seq (.reg [] [⟨none, .fa 52 (.t 3) 3⟩, ⟨none, .st (.t 52) (.c (.bool true))⟩] [52])
 (.reg [] [⟨none, .fa 53 (.t 3) 0⟩, ⟨none, .ld 54 (.t 53)⟩, ⟨none, .mv 8 (.t 54)⟩] [53, 54]))
 (.seq (.reg [] [⟨none, .bin 56 .eql (.t 49) (.c (.int .i64 1))⟩, ⟨none, .mv 55 (.t 56)⟩] [56])
 (.cond (.t 55) (.reg [] [⟨none, .fa 57 (.t 7) 1⟩, ⟨none, .ld 58 (.t 57)⟩, ⟨none, .fa 59 (.t 7) 3⟩, ⟨none, .ld 60 (.t 59)⟩, ⟨none, .fa 61 (.t 3) 1⟩, ⟨none, .ia 62 (.t 61) (.t 58)⟩, ⟨none, .st (.t 62) (.t 60)⟩] [57, 58, 59, 60, 61, 62])
 (.seq (.reg [] [⟨none, .bin 64 .eql (.t 49) (.c (.int .i64 2))⟩, ⟨none, .mv 63 (.t 64)⟩] [64])
 (.cond (.t 63) (.reg [] [⟨none, .fa 65 (.t 7) 1⟩, ⟨none, .ld 66 (.t 65)⟩, ⟨none, .fa 67 (.t 7) 1⟩, ⟨none, .ld 68 (.t 67)⟩, ⟨none, .fa 69 (.t 3) 1⟩, ⟨none, .ia 70 (.t 69) (.t 68)⟩, ⟨none, .ld 71 (.t 70)⟩, ⟨none, .fa 72 (.t 7) 2⟩, ⟨none, .ld 73 (.t 72)⟩, ⟨none, .fa 74 (.t 3) 1⟩, ⟨none, .ia 75 (.t 74) (.t 73)⟩, ⟨none, .ld 76 (.t 75)⟩, ⟨none, .bin 77 .add (.t 71) (.t 76)⟩, ⟨none, .fa 78 (.t 3) 1⟩, ⟨none, .ia 79 (.t 78) (.t 66)⟩, ⟨none, .st (.t 79) (.t 77)⟩] [65, 66, 67, 68, 69, 70, 71, 72, 73, 74, 75, 76, 77, 78, 79])
 (.seq (.reg [] [⟨none, .bin 81 .eql (.t 49) (.c (.int .i64 3))⟩, ⟨none, .mv 80 (.t 81)⟩] [81])
 (.cond (.t 80) (.reg [] [⟨none, .fa 82 (.t 7) 1⟩, ⟨none, .ld 83 (.t 82)⟩, ⟨none, .fa 84 (.t 7) 1⟩, ⟨none, .ld 85 (.t 84)⟩, ⟨none, .fa 86 (.t 3) 1⟩, ⟨none, .ia 87 (.t 86) (.t 85)⟩, ⟨none, .ld 88 (.t 87)⟩, ⟨none, .fa 89 (.t 7) 2⟩, ⟨none, .ld 90 (.t 89)⟩, ⟨none, .fa 91 (.t 3) 1⟩, ⟨none, .ia 92 (.t 91) (.t 90)⟩, ⟨none, .ld 93 (.t 92)⟩, ⟨none, .bin 94 .sub (.t 88) (.t 93)⟩, ⟨none, .fa 95 (.t 3) 1⟩, ⟨none, .ia 96 (.t 95) (.t 83)⟩, ⟨none, .st (.t 96) (.t 94)⟩] [82, 83, 84, 85, 86, 87, 88, 89, 90, 91, 92, 93, 94, 95, 96])
 (.seq (.reg [] [⟨none, .bin 98 .eql (.t 49) (.c (.int .i64 4))⟩, ⟨none, .mv 97 (.t 98)⟩] [98])
 (.cond (.t 97) (.reg [] [⟨none, .fa 99 (.t 7) 1⟩, ⟨none, .ld 100 (.t 99)⟩, ⟨none, .fa 101 (.t 7) 1⟩, ⟨none, .ld 102 (.t 101)⟩, ⟨none, .fa 103 (.t 3) 1⟩, ⟨none, .ia 104 (.t 103) (.t 102)⟩, ⟨none, .ld 105 (.t 104)⟩, ⟨none, .fa 106 (.t 7) 2⟩, ⟨none, .ld 107 (.t 106)⟩, ⟨none, .fa 108 (.t 3) 1⟩, ⟨none, .ia 109 (.t 108) (.t 107)⟩, ⟨none, .ld 110 (.t 109)⟩, ⟨none, .bin 111 .mul (.t 105) (.t 110)⟩, ⟨none, .fa 112 (.t 3) 1⟩, ⟨none, .ia 113 (.t 112) (.t 100)⟩, ⟨none, .st (.t 113) (.t 111)⟩] [99, 100, 101, 102, 103, 104, 105, 106, 107, 108, 109, 110, 111, 112, 113])
 (.seq (.reg [] [⟨none, .bin 115 .eql (.t 49) (.c (.int .i64 5))⟩, ⟨none, .mv 114 (.t 115)⟩] [115])
 (.cond (.t 114) (.reg [(1, 9)] [⟨none, .fa 116 (.t 7) 1⟩, ⟨none, .ld 117 (.t 116)⟩, ⟨none, .fa 118 (.t 7) 1⟩, ⟨none, .ld 119 (.t 118)⟩, ⟨none, .fa 120 (.t 3) 1⟩, ⟨none, .ia 121 (.t 120) (.t 119)⟩, ⟨none, .ld 122 (.t 121)⟩, ⟨none, .fa 123 (.t 7) 3⟩, ⟨none, .ld 124 (.t 123)⟩, ⟨none, .dat 125 f_ref1_Shift [(.t 122), (.t 124)]⟩, ⟨none, .fa 126 (.t 3) 1⟩, ⟨none, .ia 127 (.t 126) (.t 117)⟩, ⟨none, .st (.t 127) (.t 125)⟩] [116, 117, 118, 119, 120, 121, 122, 123, 124, 125, 126, 127])
 (.seq (.reg [] [⟨none, .bin 129 .eql (.t 49) (.c (.int .i64 6))⟩, ⟨none, .mv 128 (.t 129)⟩] [129])
 (.cond (.t 128) (.reg [(1, 9)] [⟨none, .fa 130 (.t 7) 1⟩, ⟨none, .ld 131 (.t 130)⟩, ⟨none, .fa 132 (.t 7) 1⟩, ⟨none, .ld 133 (.t 132)⟩, ⟨none, .fa 134 (.t 3) 1⟩, ⟨none, .ia 135 (.t 134) (.t 133)⟩, ⟨none, .ld 136 (.t 135)⟩, ⟨none, .fa 137 (.t 7) 3⟩, ⟨none, .ld 138 (.t 137)⟩, ⟨none, .dat 139 f_ref1_Narrow [(.t 136), (.t 138)]⟩, ⟨none, .fa 140 (.t 3) 1⟩, ⟨none, .ia 141 (.t 140) (.t 131)⟩, ⟨none, .st (.t 141) (.t 139)⟩] [130, 131, 132, 133, 134, 135, 136, 137, 138, 139, 140, 141])
 (.seq (.reg [] [⟨none, .bin 143 .eql (.t 49) (.c (.int .i64 7))⟩, ⟨none, .mv 142 (.t 143)⟩] [143])
 (.cond (.t 142) (.seq (.reg [] [⟨none, .fa 144 (.t 7) 1⟩, ⟨none, .ld 145 (.t 144)⟩, ⟨none, .fa 146 (.t 3) 1⟩, ⟨none, .ia 147 (.t 146) (.t 145)⟩, ⟨none, .ld 148 (.t 147)⟩, ⟨none, .bin 149 .eql (.t 148) (.c (.int .i64 0))⟩] [144, 145, 146, 147, 148])
 (.cond (.t 149) (.reg [] [⟨none, .mv 150 (.t 8)⟩, ⟨none, .fa 151 (.t 7) 3⟩, ⟨none, .ld 152 (.t 151)⟩, ⟨none, .bin 153 .add (.t 150) (.t 152)⟩, ⟨none, .mv 8 (.t 153)⟩] [150, 151, 152, 153])
 .skip))
 (.seq (.reg [] [⟨none, .bin 155 .eql (.t 49) (.c (.int .i64 8))⟩, ⟨none, .mv 154 (.t 155)⟩] [49, 155])
 (.cond (.t 154) (.reg [] [⟨none, .fa 156 (.t 3) 2⟩, ⟨none, .ld 157 (.t 156)⟩, ⟨none, .mv 158 (.t 8)⟩, ⟨none, .fa 159 (.t 3) 0⟩, ⟨none, .ld 160 (.t 159)⟩, ⟨none, .fa 161 (.t 7) 2⟩, ⟨none, .ld 162 (.t 161)⟩, ⟨none, .bin 163 .add (.t 160) (.t 162)⟩, ⟨none, .fa 164 (.t 7) 3⟩, ⟨none, .ld 165 (.t 164)⟩, ⟨none, .bin 166 .sub (.t 165) (.c (.int .i64 1))⟩, ⟨none, .bld 167 [(.t 158), (.t 163), (.t 166)]⟩, ⟨none, .bsl 168 [(.t 167)]⟩, ⟨none, .app 169 (.t 157) (.t 168)⟩, ⟨none, .fa 170 (.t 3) 2⟩, ⟨none, .st (.t 170) (.t 169)⟩] [156, 157, 158, 159, 160, 161, 162, 163, 164, 165, 166, 167, 168, 169, 170])
 .skip))))))))))))))))))))
 (.seq (.reg [] [⟨none, .mv 171 (.t 8)⟩, ⟨none, .fa 172 (.t 3) 0⟩, ⟨none, .st (.t 172) (.t 171)⟩] [8, 171, 172])
 (.seq (.blk 1 (.loop [3, 4, 5, 7] k_ref1_Step_L0))
 (.seq (.reg [(1, 2)] [⟨none, .ld 223 (.t 3)⟩, ⟨none, .ld 224 (.t 7)⟩, ⟨none, .st (.t 4) (.t 223)⟩, ⟨none, .st (.t 5) (.t 224)⟩, ⟨none, .mv 6 (.c (.bool true))⟩] [3, 7, 223, 224])
 .ret))))))))), [.cell 4, .cell 5, .t 6], none⟩
/- foliot/foliotref1.MayInst -/
def k_ref1_MayInst : KF := ⟨(.seq (.reg [] [⟨none, .box 1 (.t 0)⟩, ⟨none, .mv 2 (.c (.bool false))⟩] [0, 2])
 (.seq (.reg [] [⟨none, .bld 4 [(.c (.int .i64 8))]⟩, ⟨none, .alc 3 (.d (.agg [(.int .i64 0)]))⟩, ⟨none, .st (.t 3) (.t 4)⟩] [4])
 (.seq (.seq (.reg [] [⟨none, .fa 5 (.t 1) 0⟩, ⟨none, .ld 6 (.t 5)⟩] [5])
 (.blk 0 (.seq (.seq (.reg [] [⟨none, .bin 8 .eql (.t 6) (.c (.int .i64 0))⟩, ⟨none, .mv 7 (.t 8)⟩] [8])
 (.cond (.t 7) .skip
 (.reg [] [⟨none, .bin 9 .eql (.t 6) (.c (.int .i64 11))⟩, ⟨none, .mv 7 (.t 9)⟩] [9])))
 (.cond (.t 7) (.seq (.reg [] [⟨none, .fa 10 (.t 1) 1⟩, ⟨none, .ld 11 (.t 10)⟩, ⟨none, .bin 12 .eql (.t 11) (.c (.int .i64 0))⟩, ⟨none, .mv 13 (.t 12)⟩, ⟨some (13, true), .fa 14 (.t 1) 2⟩, ⟨some (13, true), .ld 15 (.t 14)⟩, ⟨some (13, true), .bin 16 .eql (.t 15) (.c (.int .i64 0))⟩, ⟨none, .pick 17 (.t 13) (.t 16) (.c (.bool false))⟩, ⟨none, .mv 18 (.t 17)⟩, ⟨some (18, true), .fa 19 (.t 1) 3⟩, ⟨some (18, true), .ld 20 (.t 19)⟩, ⟨some (18, true), .bin 21 .eql (.t 20) (.c (.int .i64 0))⟩, ⟨none, .pick 22 (.t 18) (.t 21) (.c (.bool false))⟩, ⟨none, .mv 2 (.t 22)⟩] [1, 10, 11, 12, 13, 14, 15, 16, 17, 18, 19, 20, 21, 22])
 .ret)
 (.seq (.reg [] [⟨none, .bin 24 .eql (.t 6) (.c (.int .i64 1))⟩, ⟨none, .mv 23 (.t 24)⟩] [24])
 (.cond (.t 23) (.seq (.reg [] [⟨none, .ld 25 (.t 3)⟩, ⟨none, .fa 26 (.t 1) 1⟩, ⟨none, .ld 27 (.t 26)⟩, ⟨none, .dat 28 f_ref1_places_has [(.t 25), (.t 27)]⟩, ⟨none, .mv 29 (.t 28)⟩, ⟨some (29, true), .fa 30 (.t 1) 2⟩, ⟨some (29, true), .ld 31 (.t 30)⟩, ⟨some (29, true), .bin 32 .eql (.t 31) (.c (.int .i64 0))⟩, ⟨none, .pick 33 (.t 29) (.t 32) (.c (.bool false))⟩, ⟨none, .mv 34 (.t 33)⟩, ⟨some (34, true), .fa 35 (.t 1) 3⟩, ⟨some (34, true), .ld 36 (.t 35)⟩, ⟨some (34, true), .bin 37 .geq (.t 36) (.c (.int .i64 (-2147483648)))⟩, ⟨none, .pick 38 (.t 34) (.t 37) (.c (.bool false))⟩, ⟨none, .mv 39 (.t 38)⟩, ⟨some (39, true), .fa 40 (.t 1) 3⟩, ⟨some (39, true), .ld 41 (.t 40)⟩, ⟨some (39, true), .bin 42 .lss (.t 41) (.c (.int .i64 2147483648))⟩, ⟨none, .pick 43 (.t 39) (.t 42) (.c (.bool false))⟩, ⟨none, .mv 2 (.t 43)⟩] [1, 3, 25, 26, 27, 28, 29, 30, 31, 32, 33, 34, 35, 36, 37, 38, 39, 40, 41, 42, 43])
 .ret)
 (.seq (.seq (.reg [] [⟨none, .bin 45 .eql (.t 6) (.c (.int .i64 2))⟩, ⟨none, .mv 44 (.t 45)⟩] [45])
 (.cond (.t 44) .skip
 (.seq (.reg [] [⟨none, .bin 46 .eql (.t 6) (.c (.int .i64 3))⟩, ⟨none, .mv 44 (.t 46)⟩] [46])
 (.cond (.t 44) .skip
 (.reg [] [⟨none, .bin 47 .eql (.t 6) (.c (.int .i64 4))⟩, ⟨none, .mv 44 (.t 47)⟩] [47])))))
 (.cond (.t 44) (.seq (.reg [] [⟨none, .ld 48 (.t 3)⟩, ⟨none, .fa 49 (.t 1) 1⟩, ⟨none, .ld 50 (.t 49)⟩, ⟨none, .dat 51 f_ref1_places_has [(.t 48), (.t 50)]⟩, ⟨none, .mv 52 (.t 51)⟩, ⟨some (52, true), .ld 53 (.t 3)⟩, ⟨some (52, true), .fa 54 (.t 1) 2⟩, ⟨some (52, true), .ld 55 (.t 54)⟩, ⟨some (52, true), .dat 56 f_ref1_places_has [(.t 53), (.t 55)]⟩, ⟨none, .pick 57 (.t 52) (.t 56) (.c (.bool false))⟩, ⟨none, .mv 58 (.t 57)⟩, ⟨some (58, true), .fa 59 (.t 1) 3⟩, ⟨some (58, true), .ld 60 (.t 59)⟩, ⟨some (58, true), .bin 61 .eql (.t 60) (.c (.int .i64 0))⟩, ⟨none, .pick 62 (.t 58) (.t 61) (.c (.bool false))⟩, ⟨none, .mv 2 (.t 62)⟩] [1, 3, 48, 49, 50, 51, 52, 53, 54, 55, 56, 57, 58, 59, 60, 61, 62])
 .ret)
 (.seq (.reg [] [⟨none, .bin 64 .eql (.t 6) (.c (.int .i64 5))⟩, ⟨none, .mv 63 (.t 64)⟩] [64])
 (.cond (.t 63) (.seq (.reg [] [⟨none, .ld 65 (.t 3)⟩, ⟨none, .fa 66 (.t 1) 1⟩, ⟨none, .ld 67 (.t 66)⟩, ⟨none, .dat 68 f_ref1_places_has [(.t 65), (.t 67)]⟩, ⟨none, .mv 69 (.t 68)⟩, ⟨some (69, true), .fa 70 (.t 1) 2⟩, ⟨some (69, true), .ld 71 (.t 70)⟩, ⟨some (69, true), .bin 72 .eql (.t 71) (.c (.int .i64 0))⟩, ⟨none, .pick 73 (.t 69) (.t 72) (.c (.bool false))⟩, ⟨none, .mv 74 (.t 73)⟩, ⟨some (74, true), .fa 75 (.t 1) 3⟩, ⟨some (74, true), .ld 76 (.t 75)⟩, ⟨some (74, true), .bin 77 .geq (.t 76) (.c (.int .i64 (-63)))⟩, ⟨none, .pick 78 (.t 74) (.t 77) (.c (.bool false))⟩, ⟨none, .mv 79 (.t 78)⟩, ⟨some (79, true), .fa 80 (.t 1) 3⟩, ⟨some (79, true), .ld 81 (.t 80)⟩, ⟨some (79, true), .bin 82 .leq (.t 81) (.c (.int .i64 63))⟩, ⟨none, .pick 83 (.t 79) (.t 82) (.c (.bool false))⟩, ⟨none, .mv 2 (.t 83)⟩] [1, 3, 65, 66, 67, 68, 69, 70, 71, 72, 73, 74, 75, 76, 77, 78, 79, 80, 81, 82, 83])
 .ret)
 (.seq (.reg [] [⟨none, .bin 85 .eql (.t 6) (.c (.int .i64 6))⟩, ⟨none, .mv 84 (.t 85)⟩] [85])
 (.cond (.t 84) (.seq (.reg [] [⟨none, .ld 86 (.t 3)⟩, ⟨none, .fa 87 (.t 1) 1⟩, ⟨none, .ld 88 (.t 87)⟩, ⟨none, .dat 89 f_ref1_places_has [(.t 86), (.t 88)]⟩, ⟨none, .mv 90 (.t 89)⟩, ⟨some (90, true), .fa 91 (.t 1) 2⟩, ⟨some (90, true), .ld 92 (.t 91)⟩, ⟨some (90, true), .bin 93 .eql (.t 92) (.c (.int .i64 0))⟩, ⟨none, .pick 94 (.t 90) (.t 93) (.c (.bool false))⟩, ⟨none, .mv 95 (.t 94)⟩, ⟨some (95, true), .fa 96 (.t 1) 3⟩, ⟨some (95, true), .ld 97 (.t 96)⟩, ⟨some (95, true), .bin 98 .geq (.t 97) (.c (.int .i64 1))⟩, ⟨none, .pick 99 (.t 95) (.t 98) (.c (.bool false))⟩, ⟨none, .mv 100 (.t 99)⟩, ⟨some (100, true), .fa 101 (.t 1) 3⟩, ⟨some (100, true), .ld 102 (.t 101)⟩, ⟨some (100, true), .bin 103 .leq (.t 102) (.c (.int .i64 64))⟩, ⟨none, .pick 104 (.t 100) (.t 103) (.c (.bool false))⟩, ⟨none, .mv 2 (.t 104)⟩] [1, 3, 86, 87, 88, 89, 90, 91, 92, 93, 94, 95, 96, 97, 98, 99, 100, 101, 102, 103, 104])
 .ret)
 (.seq (.reg [] [⟨none, .bin 106 .eql (.t 6) (.c (.int .i64 7))⟩, ⟨none, .mv 105 (.t 106)⟩] [106])
 (.cond (.t 105) (.seq (.reg [] [⟨none, .ld 107 (.t 3)⟩, ⟨none, .fa 108 (.t 1) 1⟩, ⟨none, .ld 109 (.t 108)⟩, ⟨none, .dat 110 f_ref1_places_has [(.t 107), (.t 109)]⟩, ⟨none, .mv 111 (.t 110)⟩, ⟨some (111, true), .fa 112 (.t 1) 2⟩, ⟨some (111, true), .ld 113 (.t 112)⟩, ⟨some (111, true), .bin 114 .eql (.t 113) (.c (.int .i64 0))⟩, ⟨none, .pick 115 (.t 111) (.t 114) (.c (.bool false))⟩, ⟨none, .mv 116 (.t 115)⟩, ⟨some (116, true), .fa 117 (.t 1) 3⟩, ⟨some (116, true), .ld 118 (.t 117)⟩, ⟨some (116, true), .bin 119 .geq (.t 118) (.c (.int .i64 1))⟩, ⟨none, .pick 120 (.t 116) (.t 119) (.c (.bool false))⟩, ⟨none, .mv 121 (.t 120)⟩, ⟨some (121, true), .fa 122 (.t 1) 3⟩, ⟨some (121, true), .ld 123 (.t 122)⟩, ⟨some (121, true), .bin 124 .leq (.t 123) (.c (.int .i64 24))⟩, ⟨none, .pick 125 (.t 121) (.t 124) (.c (.bool false))⟩, ⟨none, .mv 2 (.t 125)⟩] [1, 3, 107, 108, 109, 110, 111, 112, 113, 114, 115, 116, 117, 118, 119, 120, 121, 122, 123, 124, 125])
 .ret)
 (.seq (.reg [] [⟨none, .bin 127 .eql (.t 6) (.c (.int .i64 8))⟩, ⟨none, .mv 126 (.t 127)⟩] [127])
 (.cond (.t 126) (.seq (.reg [] [⟨none, .fa 128 (.t 1) 1⟩, ⟨none, .ld 129 (.t 128)⟩, ⟨none, .bin 130 .eql (.t 129) (.c (.int .i64 0))⟩, ⟨none, .mv 131 (.t 130)⟩, ⟨some (131, true), .fa 132 (.t 1) 2⟩, ⟨some (131, true), .ld 133 (.t 132)⟩, ⟨some (131, true), .bin 134 .geq (.t 133) (.c (.int .i64 1))⟩, ⟨none, .pick 135 (.t 131) (.t 134) (.c (.bool false))⟩, ⟨none, .mv 136 (.t 135)⟩, ⟨some (136, true), .fa 137 (.t 1) 2⟩, ⟨some (136, true), .ld 138 (.t 137)⟩, ⟨some (136, true), .bin 139 .leq (.t 138) (.c (.int .i64 24))⟩, ⟨none, .pick 140 (.t 136) (.t 139) (.c (.bool false))⟩, ⟨none, .mv 141 (.t 140)⟩, ⟨some (141, true), .fa 142 (.t 1) 3⟩, ⟨some (141, true), .ld 143 (.t 142)⟩, ⟨some (141, true), .bin 144 .geq (.t 143) (.c (.int .i64 1))⟩, ⟨none, .pick 145 (.t 141) (.t 144) (.c (.bool false))⟩, ⟨none, .mv 146 (.t 145)⟩, ⟨some (146, true), .fa 147 (.t 1) 3⟩, ⟨some (146, true), .ld 148 (.t 147)⟩, ⟨some (146, true), .bin 149 .leq (.t 148) (.c (.int .i64 20))⟩, ⟨none, .pick 150 (.t 146) (.t 149) (.c (.bool false))⟩, ⟨none, .mv 2 (.t 150)⟩] [1, 128, 129, 130, 131, 132, 133, 134, 135, 136, 137, 138, 139, 140, 141, 142, 143, 144, 145, 146, 147, 148, 149, 150])
 .ret)
 (.seq (.seq (.reg [] [⟨none, .bin 152 .eql (.t 6) (.c (.int .i64 9))⟩, ⟨none, .mv 151 (.t 152)⟩] [152])
 (.cond (.t 151) .skip
 (.reg [] [⟨none, .bin 153 .eql (.t 6) (.c (.int .i64 10))⟩, ⟨none, .mv 151 (.t 153)⟩] [6, 153])))
 (.cond (.t 151) (.seq (.reg [] [⟨none, .fa 154 (.t 1) 1⟩, ⟨none, .ld 155 (.t 154)⟩, ⟨none, .bin 156 .geq (.t 155) (.c (.int .i64 0))⟩, ⟨none, .mv 157 (.t 156)⟩, ⟨some (157, true), .fa 158 (.t 1) 1⟩, ⟨some (157, true), .ld 159 (.t 158)⟩, ⟨some (157, true), .bin 160 .lss (.t 159) (.c (.int .i64 4))⟩, ⟨none, .pick 161 (.t 157) (.t 160) (.c (.bool false))⟩, ⟨none, .mv 162 (.t 161)⟩, ⟨some (162, true), .fa 163 (.t 1) 2⟩, ⟨some (162, true), .ld 164 (.t 163)⟩, ⟨some (162, true), .bin 165 .eql (.t 164) (.c (.int .i64 0))⟩, ⟨none, .pick 166 (.t 162) (.t 165) (.c (.bool false))⟩, ⟨none, .mv 167 (.t 166)⟩, ⟨some (167, true), .fa 168 (.t 1) 3⟩, ⟨some (167, true), .ld 169 (.t 168)⟩, ⟨some (167, true), .bin 170 .eql (.t 169) (.c (.int .i64 0))⟩, ⟨none, .pick 171 (.t 167) (.t 170) (.c (.bool false))⟩, ⟨none, .mv 2 (.t 171)⟩] [1, 154, 155, 156, 157, 158, 159, 160, 161, 162, 163, 164, 165, 166, 167, 168, 169, 170, 171])
 .ret)
 .skip))))))))))))))))))
 (.seq (.reg [] [⟨none, .mv 2 (.c (.bool false))⟩] [])
 .ret)))), [.t 2], none⟩
/- (foliot/foliotref1.places).has -/
def k_ref1_places_has : KF := ⟨(.seq (.reg [] [⟨none, .box 2 (.t 0)⟩, ⟨none, .mv 4 (.c (.bool false))⟩] [0, 4])
 (.seq (.reg [] [⟨none, .mv 5 (.t 1)⟩, ⟨none, .bin 6 .geq (.t 5) (.c (.int .i64 0))⟩, ⟨none, .mv 7 (.t 6)⟩, ⟨some (7, true), .mv 8 (.t 1)⟩, ⟨some (7, true), .fa 9 (.t 2) 0⟩, ⟨some (7, true), .ld 10 (.t 9)⟩, ⟨some (7, true), .bin 11 .lss (.t 8) (.t 10)⟩, ⟨none, .pick 12 (.t 7) (.t 11) (.c (.bool false))⟩, ⟨none, .mv 4 (.t 12)⟩] [1, 2, 5, 6, 7, 8, 9, 10, 11, 12])
 .ret)), [.t 4], none⟩
/- foliot/foliotref1.Shift -/
def k_ref1_Shift_L0b : K := (.seq (.seq (.reg [] [⟨none, .mv 12 (.t 1)⟩, ⟨none, .bin 13 .gtr (.t 12) (.c (.int .i64 0))⟩] [12])
 (.cond (.t 13) .skip
 (.ext 0)))
 (.seq (.blk 1 (.reg [] [⟨none, .mv 16 (.t 0)⟩, ⟨none, .bin 17 .mul (.t 16) (.c (.int .i64 2))⟩, ⟨none, .mv 0 (.t 17)⟩] [16, 17]))
 (.reg [] [⟨none, .mv 14 (.t 1)⟩, ⟨none, .bin 15 .sub (.t 14) (.c (.int .i64 1))⟩, ⟨none, .mv 1 (.t 15)⟩] [14, 15])))
def k_ref1_Shift_L0 : K := k_ref1_Shift_L0b
def k_ref1_Shift_L1b : K := (.seq (.seq (.reg [] [⟨none, .mv 18 (.t 1)⟩, ⟨none, .bin 19 .lss (.t 18) (.c (.int .i64 0))⟩] [18])
 (.cond (.t 19) .skip
 (.ext 2)))
 (.seq (.blk 3 (.seq (.reg [] [⟨none, .mv 22 (.t 0)⟩, ⟨none, .bin 23 .lss (.t 22) (.c (.int .i64 0))⟩, ⟨none, .mv 24 (.t 23)⟩, ⟨some (24, true), .mv 25 (.t 0)⟩, ⟨some (24, true), .bin 26 .rem (.t 25) (.c (.int .i64 2))⟩, ⟨some (24, true), .bin 27 .neq (.t 26) (.c (.int .i64 0))⟩, ⟨none, .pick 28 (.t 24) (.t 27) (.c (.bool false))⟩] [22, 23, 24, 25, 26, 27])
 (.cond (.t 28) (.reg [] [⟨none, .mv 29 (.t 0)⟩, ⟨none, .bin 30 .quo (.t 29) (.c (.int .i64 2))⟩, ⟨none, .bin 31 .sub (.t 30) (.c (.int .i64 1))⟩, ⟨none, .mv 0 (.t 31)⟩] [29, 30, 31])
 (.reg [] [⟨none, .mv 32 (.t 0)⟩, ⟨none, .bin 33 .quo (.t 32) (.c (.int .i64 2))⟩, ⟨none, .mv 0 (.t 33)⟩] [32, 33]))))
 (.reg [] [⟨none, .mv 20 (.t 1)⟩, ⟨none, .bin 21 .add (.t 20) (.c (.int .i64 1))⟩, ⟨none, .mv 1 (.t 21)⟩] [20, 21])))
def k_ref1_Shift_L1 : K := k_ref1_Shift_L1b
def k_ref1_Shift : KF := ⟨(.seq (.reg [] [⟨none, .mv 4 (.c (.int .i64 0))⟩] [4])
 (.seq (.seq (.reg [] [⟨none, .mv 5 (.t 1)⟩, ⟨none, .bin 6 .lss (.t 5) (.c (.int .i64 (-63)))⟩, ⟨none, .mv 7 (.t 6)⟩, ⟨some (7, false), .mv 8 (.t 1)⟩, ⟨some (7, false), .bin 9 .gtr (.t 8) (.c (.int .i64 63))⟩, ⟨none, .pick 10 (.t 7) (.c (.bool true)) (.t 9)⟩] [5, 6, 7, 8, 9])
 (.cond (.t 10) (.seq (.reg [] [⟨none, .mv 11 (.t 0)⟩, ⟨none, .mv 4 (.t 11)⟩] [0, 11])
 .ret)
 .skip))
 (.seq (.blk 0 (.loop [0, 1] k_ref1_Shift_L0))
 (.seq (.blk 2 (.loop [0, 1] k_ref1_Shift_L1))
 (.seq (.reg [] [⟨none, .mv 34 (.t 0)⟩, ⟨none, .mv 4 (.t 34)⟩] [0, 34])
 .ret))))), [.t 4], none⟩
/- foliot/foliotref1.Narrow -/
def k_ref1_Narrow : KF := ⟨(.seq (.reg [] [⟨none, .mv 4 (.c (.int .i64 0))⟩] [4])
 (.seq (.seq (.reg [] [⟨none, .mv 6 (.t 1)⟩, ⟨none, .bin 7 .lss (.t 6) (.c (.int .i64 1))⟩, ⟨none, .mv 8 (.t 7)⟩, ⟨some (8, false), .mv 9 (.t 1)⟩, ⟨some (8, false), .bin 10 .gtr (.t 9) (.c (.int .i64 63))⟩, ⟨none, .pick 11 (.t 8) (.c (.bool true)) (.t 10)⟩] [6, 7, 8, 9, 10])
 (.cond (.t 11) (.seq (.reg [] [⟨none, .mv 12 (.t 0)⟩, ⟨none, .mv 4 (.t 12)⟩] [0, 12])
 .ret)
 .skip))
 (.seq (.reg [] [⟨none, .mv 13 (.t 0)⟩, ⟨none, .cv 14 .u64 (.t 13)⟩, ⟨none, .mv 15 (.t 1)⟩, ⟨none, .dat 16 f_ref1_bit [(.t 15)]⟩, ⟨none, .bin 17 .rem (.t 14) (.t 16)⟩, ⟨none, .mv 5 (.t 17)⟩] [0, 13, 14, 15, 16, 17])
 (.seq (.seq (.reg [] [⟨none, .mv 18 (.t 5)⟩, ⟨none, .mv 19 (.t 1)⟩, ⟨none, .bin 20 .sub (.t 19) (.c (.int .i64 1))⟩, ⟨none, .dat 21 f_ref1_bit [(.t 20)]⟩, ⟨none, .bin 22 .geq (.t 18) (.t 21)⟩] [18, 19, 20, 21])
 (.cond (.t 22) (.seq (.reg [] [⟨none, .mv 23 (.t 1)⟩, ⟨none, .dat 24 f_ref1_bit [(.t 23)]⟩, ⟨none, .mv 25 (.t 5)⟩, ⟨none, .bin 26 .sub (.t 24) (.t 25)⟩, ⟨none, .cv 27 .i64 (.t 26)⟩, ⟨none, .un 28 .neg (.t 27)⟩, ⟨none, .mv 4 (.t 28)⟩] [1, 5, 23, 24, 25, 26, 27, 28])
 .ret)
 .skip))
 (.seq (.reg [] [⟨none, .mv 29 (.t 5)⟩, ⟨none, .cv 30 .i64 (.t 29)⟩, ⟨none, .mv 4 (.t 30)⟩] [5, 29, 30])
 .ret))))), [.t 4], none⟩
/- foliot/foliotref1.bit -/
def k_ref1_bit_L0b : K := (.seq (.seq (.reg [] [⟨none, .mv 4 (.t 0)⟩, ⟨none, .bin 5 .gtr (.t 4) (.c (.int .i64 0))⟩] [4])
 (.cond (.t 5) .skip
 (.ext 0)))
 (.seq (.blk 1 (.reg [] [⟨none, .mv 8 (.t 3)⟩, ⟨none, .bin 9 .mul (.c (.int .u64 2)) (.t 8)⟩, ⟨none, .mv 3 (.t 9)⟩] [8, 9]))
 (.reg [] [⟨none, .mv 6 (.t 0)⟩, ⟨none, .bin 7 .sub (.t 6) (.c (.int .i64 1))⟩, ⟨none, .mv 0 (.t 7)⟩] [6, 7])))
def k_ref1_bit_L0 : K := k_ref1_bit_L0b
def k_ref1_bit : KF := ⟨(.seq (.reg [] [⟨none, .mv 2 (.c (.int .u64 0))⟩] [2])
 (.seq (.reg [] [⟨none, .mv 3 (.c (.int .u64 1))⟩] [])
 (.seq (.blk 0 (.loop [0, 3] k_ref1_bit_L0))
 (.seq (.reg [] [⟨none, .mv 10 (.t 3)⟩, ⟨none, .mv 2 (.t 10)⟩] [3, 10])
 .ret)))), [.t 2], none⟩
/- foliot/foliotref11.SameSemas -/
def k_ref11_SameSemas_L0b : K := (.seq (.seq (.reg [] [⟨none, .mv 11 (.t 5)⟩, ⟨none, .mv 12 (.t 0)⟩, ⟨none, .len 13 (.t 12)⟩, ⟨none, .bin 14 .lss (.t 11) (.t 13)⟩] [11, 12, 13])
 (.cond (.t 14) .skip
 (.ext 0)))
 (.seq (.blk 1 (.seq (.reg [] [⟨none, .mv 17 (.t 0)⟩, ⟨none, .mv 18 (.t 5)⟩, ⟨none, .ia 19 (.t 17) (.t 18)⟩, ⟨none, .ld 20 (.t 19)⟩, ⟨none, .mv 21 (.t 1)⟩, ⟨none, .mv 22 (.t 5)⟩, ⟨none, .ia 23 (.t 21) (.t 22)⟩, ⟨none, .ld 24 (.t 23)⟩, ⟨none, .bin 25 .neq (.t 20) (.t 24)⟩] [17, 18, 19, 20, 21, 22, 23, 24])
 (.cond (.t 25) (.seq (.reg [] [⟨none, .mv 4 (.c (.bool false))⟩] [])
 .ret)
 .skip)))
 (.reg [] [⟨none, .mv 15 (.t 5)⟩, ⟨none, .bin 16 .add (.t 15) (.c (.int .i64 1))⟩, ⟨none, .mv 5 (.t 16)⟩] [15, 16])))
def k_ref11_SameSemas_L0 : K := k_ref11_SameSemas_L0b
def k_ref11_SameSemas : KF := ⟨(.seq (.reg [] [⟨none, .mv 4 (.c (.bool false))⟩] [4])
 (.seq (.seq (.reg [] [⟨none, .mv 6 (.t 0)⟩, ⟨none, .len 7 (.t 6)⟩, ⟨none, .mv 8 (.t 1)⟩, ⟨none, .len 9 (.t 8)⟩, ⟨none, .bin 10 .neq (.t 7) (.t 9)⟩] [6, 7, 8, 9])
 (.cond (.t 10) (.seq (.reg [] [⟨none, .mv 4 (.c (.bool false))⟩] [])
 .ret)
 .skip))
 (.seq (.seq (.reg [] [⟨none, .mv 5 (.c (.int .i64 0))⟩] [])
 (.blk 0 (.loop [0, 1, 5] k_ref11_SameSemas_L0)))
 (.seq (.reg [] [⟨none, .mv 4 (.c (.bool true))⟩] [])
 .ret)))), [.t 4], none⟩
/- foliot/foliotref19.SameJob -/
def k_ref19_SameJob : KF := ⟨(.seq (.reg [] [⟨none, .box 2 (.t 0)⟩, ⟨none, .box 3 (.t 1)⟩, ⟨none, .mv 4 (.c (.bool false))⟩] [0, 1, 4])
 (.seq (.reg [] [⟨none, .fa 5 (.t 2) 0⟩, ⟨none, .ld 6 (.t 5)⟩, ⟨none, .fa 7 (.t 3) 0⟩, ⟨none, .ld 8 (.t 7)⟩, ⟨none, .bin 9 .eql (.t 6) (.t 8)⟩, ⟨none, .mv 10 (.t 9)⟩, ⟨some (10, true), .fa 11 (.t 2) 1⟩, ⟨some (10, true), .ld 12 (.t 11)⟩, ⟨some (10, true), .fa 13 (.t 3) 1⟩, ⟨some (10, true), .ld 14 (.t 13)⟩, ⟨some (10, true), .bin 15 .eql (.t 12) (.t 14)⟩, ⟨none, .pick 16 (.t 10) (.t 15) (.c (.bool false))⟩, ⟨none, .mv 17 (.t 16)⟩, ⟨some (17, true), .fa 18 (.t 2) 2⟩, ⟨some (17, true), .ld 19 (.t 18)⟩, ⟨some (17, true), .fa 20 (.t 3) 2⟩, ⟨some (17, true), .ld 21 (.t 20)⟩, ⟨some (17, true), .bin 22 .eql (.t 19) (.t 21)⟩, ⟨none, .pick 23 (.t 17) (.t 22) (.c (.bool false))⟩, ⟨none, .mv 24 (.t 23)⟩, ⟨some (24, true), .fa 25 (.t 2) 3⟩, ⟨some (24, true), .ld 26 (.t 25)⟩, ⟨some (24, true), .fa 27 (.t 3) 3⟩, ⟨some (24, true), .ld 28 (.t 27)⟩, ⟨some (24, true), .bin 29 .eql (.t 26) (.t 28)⟩, ⟨none, .pick 30 (.t 24) (.t 29) (.c (.bool false))⟩, ⟨none, .mv 31 (.t 30)⟩, ⟨some (31, true), .fa 32 (.t 2) 7⟩, ⟨some (31, true), .ld 33 (.t 32)⟩, ⟨some (31, true), .fa 34 (.t 3) 7⟩, ⟨some (31, true), .ld 35 (.t 34)⟩, ⟨some (31, true), .bin 36 .eql (.t 33) (.t 35)⟩, ⟨none, .pick 37 (.t 31) (.t 36) (.c (.bool false))⟩, ⟨none, .mv 38 (.t 37)⟩, ⟨some (38, true), .fa 39 (.t 2) 4⟩, ⟨some (38, true), .ld 40 (.t 39)⟩, ⟨some (38, true), .fa 41 (.t 3) 4⟩, ⟨some (38, true), .ld 42 (.t 41)⟩, ⟨some (38, true), .dat 43 f_ref1_SameMachine [(.t 40), (.t 42)]⟩, ⟨none, .pick 44 (.t 38) (.t 43) (.c (.bool false))⟩, ⟨none, .mv 45 (.t 44)⟩, ⟨some (45, true), .fa 46 (.t 2) 5⟩, ⟨some (45, true), .ld 47 (.t 46)⟩, ⟨some (45, true), .fa 48 (.t 3) 5⟩, ⟨some (45, true), .ld 49 (.t 48)⟩, ⟨some (45, true), .dat 50 f_ref1_SameMachine [(.t 47), (.t 49)]⟩, ⟨none, .pick 51 (.t 45) (.t 50) (.c (.bool false))⟩, ⟨none, .mv 52 (.t 51)⟩, ⟨some (52, true), .fa 53 (.t 2) 6⟩, ⟨some (52, true), .ld 54 (.t 53)⟩, ⟨some (52, true), .fa 55 (.t 3) 6⟩, ⟨some (52, true), .ld 56 (.t 55)⟩, ⟨some (52, true), .dat 57 f_ref11_SameInts [(.t 54), (.t 56)]⟩, ⟨none, .pick 58 (.t 52) (.t 57) (.c (.bool false))⟩, ⟨none, .mv 4 (.t 58)⟩] [2, 3, 5, 6, 7, 8, 9, 10, 11, 12, 13, 14, 15, 16, 17, 18, 19, 20, 21, 22, 23, 24, 25, 26, 27, 28, 29, 30, 31, 32, 33, 34, 35, 36, 37, 38, 39, 40, 41, 42, 43, 44, 45, 46, 47, 48, 49, 50, 51, 52, 53, 54, 55, 56, 57, 58])
 .ret)), [.t 4], none⟩
/- foliot/foliotref1.SameMachine -/
def k_ref1_SameMachine_L0b : K := (.seq (.seq (.reg [] [⟨none, .mv 34 (.t 5)⟩, ⟨none, .fa 35 (.t 2) 2⟩, ⟨none, .ld 36 (.t 35)⟩, ⟨none, .len 37 (.t 36)⟩, ⟨none, .bin 38 .lss (.t 34) (.t 37)⟩] [34, 35, 36, 37])
 (.cond (.t 38) .skip
 (.ext 0)))
 (.seq (.blk 1 (.seq (.reg [] [⟨none, .fa 41 (.t 2) 2⟩, ⟨none, .ld 42 (.t 41)⟩, ⟨none, .mv 43 (.t 5)⟩, ⟨none, .ia 44 (.t 42) (.t 43)⟩, ⟨none, .ld 45 (.t 44)⟩, ⟨none, .fa 46 (.t 3) 2⟩, ⟨none, .ld 47 (.t 46)⟩, ⟨none, .mv 48 (.t 5)⟩, ⟨none, .ia 49 (.t 47) (.t 48)⟩, ⟨none, .ld 50 (.t 49)⟩, ⟨none, .bin 51 .neq (.t 45) (.t 50)⟩] [41, 42, 43, 44, 45, 46, 47, 48, 49, 50])
 (.cond (.t 51) (.seq (.reg [] [⟨none, .mv 4 (.c (.bool false))⟩] [])
 .ret)
 .skip)))
 (.reg [] [⟨none, .mv 39 (.t 5)⟩, ⟨none, .bin 40 .add (.t 39) (.c (.int .i64 1))⟩, ⟨none, .mv 5 (.t 40)⟩] [39, 40])))
def k_ref1_SameMachine_L0 : K := k_ref1_SameMachine_L0b
def k_ref1_SameMachine : KF := ⟨(.seq (.reg [] [⟨none, .box 2 (.t 0)⟩, ⟨none, .box 3 (.t 1)⟩, ⟨none, .mv 4 (.c (.bool false))⟩] [0, 1, 4])
 (.seq (.seq (.reg [] [⟨none, .fa 6 (.t 2) 0⟩, ⟨none, .ld 7 (.t 6)⟩, ⟨none, .fa 8 (.t 3) 0⟩, ⟨none, .ld 9 (.t 8)⟩, ⟨none, .bin 10 .neq (.t 7) (.t 9)⟩, ⟨none, .mv 11 (.t 10)⟩, ⟨some (11, false), .fa 12 (.t 2) 1⟩, ⟨some (11, false), .ld 13 (.t 12)⟩, ⟨some (11, false), .fa 14 (.t 3) 1⟩, ⟨some (11, false), .ld 15 (.t 14)⟩, ⟨some (11, false), .bin 16 .neq (.t 13) (.t 15)⟩, ⟨none, .pick 17 (.t 11) (.c (.bool true)) (.t 16)⟩, ⟨none, .mv 18 (.t 17)⟩, ⟨some (18, false), .fa 19 (.t 2) 3⟩, ⟨some (18, false), .ld 20 (.t 19)⟩, ⟨some (18, false), .fa 21 (.t 3) 3⟩, ⟨some (18, false), .ld 22 (.t 21)⟩, ⟨some (18, false), .bin 23 .neq (.t 20) (.t 22)⟩, ⟨none, .pick 24 (.t 18) (.c (.bool true)) (.t 23)⟩, ⟨none, .mv 25 (.t 24)⟩, ⟨some (25, false), .fa 26 (.t 2) 2⟩, ⟨some (25, false), .ld 27 (.t 26)⟩, ⟨some (25, false), .len 28 (.t 27)⟩, ⟨some (25, false), .fa 29 (.t 3) 2⟩, ⟨some (25, false), .ld 30 (.t 29)⟩, ⟨some (25, false), .len 31 (.t 30)⟩, ⟨some (25, false), .bin 32 .neq (.t 28) (.t 31)⟩, ⟨none, .pick 33 (.t 25) (.c (.bool true)) (.t 32)⟩] [6, 7, 8, 9, 10, 11, 12, 13, 14, 15, 16, 17, 18, 19, 20, 21, 22, 23, 24, 25, 26, 27, 28, 29, 30, 31, 32])
 (.cond (.t 33) (.seq (.reg [] [⟨none, .mv 4 (.c (.bool false))⟩] [])
 .ret)
 .skip))
 (.seq (.seq (.reg [] [⟨none, .mv 5 (.c (.int .i64 0))⟩] [])
 (.blk 0 (.loop [2, 3, 5] k_ref1_SameMachine_L0)))
 (.seq (.reg [] [⟨none, .mv 4 (.c (.bool true))⟩] [])
 .ret)))), [.t 4], none⟩
/- foliot/foliotref11.SameInts -/
def k_ref11_SameInts_L0b : K := (.seq (.seq (.reg [] [⟨none, .mv 11 (.t 5)⟩, ⟨none, .mv 12 (.t 0)⟩, ⟨none, .len 13 (.t 12)⟩, ⟨none, .bin 14 .lss (.t 11) (.t 13)⟩] [11, 12, 13])
 (.cond (.t 14) .skip
 (.ext 0)))
 (.seq (.blk 1 (.seq (.reg [] [⟨none, .mv 17 (.t 0)⟩, ⟨none, .mv 18 (.t 5)⟩, ⟨none, .ia 19 (.t 17) (.t 18)⟩, ⟨none, .ld 20 (.t 19)⟩, ⟨none, .mv 21 (.t 1)⟩, ⟨none, .mv 22 (.t 5)⟩, ⟨none, .ia 23 (.t 21) (.t 22)⟩, ⟨none, .ld 24 (.t 23)⟩, ⟨none, .bin 25 .neq (.t 20) (.t 24)⟩] [17, 18, 19, 20, 21, 22, 23, 24])
 (.cond (.t 25) (.seq (.reg [] [⟨none, .mv 4 (.c (.bool false))⟩] [])
 .ret)
 .skip)))
 (.reg [] [⟨none, .mv 15 (.t 5)⟩, ⟨none, .bin 16 .add (.t 15) (.c (.int .i64 1))⟩, ⟨none, .mv 5 (.t 16)⟩] [15, 16])))
def k_ref11_SameInts_L0 : K := k_ref11_SameInts_L0b
def k_ref11_SameInts : KF := ⟨(.seq (.reg [] [⟨none, .mv 4 (.c (.bool false))⟩] [4])
 (.seq (.seq (.reg [] [⟨none, .mv 6 (.t 0)⟩, ⟨none, .len 7 (.t 6)⟩, ⟨none, .mv 8 (.t 1)⟩, ⟨none, .len 9 (.t 8)⟩, ⟨none, .bin 10 .neq (.t 7) (.t 9)⟩] [6, 7, 8, 9])
 (.cond (.t 10) (.seq (.reg [] [⟨none, .mv 4 (.c (.bool false))⟩] [])
 .ret)
 .skip))
 (.seq (.seq (.reg [] [⟨none, .mv 5 (.c (.int .i64 0))⟩] [])
 (.blk 0 (.loop [0, 1, 5] k_ref11_SameInts_L0)))
 (.seq (.reg [] [⟨none, .mv 4 (.c (.bool true))⟩] [])
 .ret)))), [.t 4], none⟩
/- foliot/foliotlaw19.JobHeld -/
def k_law19_JobHeld_L1b : K := (.seq (.seq (.reg [] [⟨none, .mv 67 (.t 12)⟩, ⟨none, .mv 68 (.t 7)⟩, ⟨none, .len 69 (.t 68)⟩, ⟨none, .bin 70 .lss (.t 67) (.t 69)⟩] [67, 68, 69])
 (.cond (.t 70) .skip
 (.ext 2)))
 (.seq (.blk 3 (.seq (.reg [] [⟨none, .fa 73 (.t 9) 6⟩, ⟨none, .ld 74 (.t 73)⟩, ⟨none, .mv 75 (.t 12)⟩, ⟨none, .ia 76 (.t 74) (.t 75)⟩, ⟨none, .ld 77 (.t 76)⟩, ⟨none, .mv 78 (.t 7)⟩, ⟨none, .mv 79 (.t 12)⟩, ⟨none, .ia 80 (.t 78) (.t 79)⟩, ⟨none, .ld 81 (.t 80)⟩, ⟨none, .bin 82 .neq (.t 77) (.t 81)⟩] [73, 74, 75, 76, 77, 78, 79, 80, 81])
 (.cond (.t 82) (.seq (.reg [] [⟨none, .mv 4 (.c (.bool false))⟩] [])
 .ret)
 .skip)))
 (.reg [] [⟨none, .mv 71 (.t 12)⟩, ⟨none, .bin 72 .add (.t 71) (.c (.int .i64 1))⟩, ⟨none, .mv 12 (.t 72)⟩] [71, 72])))
def k_law19_JobHeld_L1 : K := k_law19_JobHeld_L1b
def k_law19_JobHeld_L0b : K := (.seq (.seq (.reg [] [⟨none, .mv 23 (.t 8)⟩, ⟨none, .bin 24 .lss (.t 23) (.c (.int .i64 2000))⟩, ⟨none, .mv 25 (.t 24)⟩, ⟨some (25, true), .fa 26 (.t 6) 4⟩, ⟨some (25, true), .fa 27 (.t 26) 3⟩, ⟨some (25, true), .ld 28 (.t 27)⟩, ⟨some (25, true), .un 29 .not (.t 28)⟩, ⟨none, .pick 30 (.t 25) (.t 29) (.c (.bool false))⟩] [23, 24, 25, 26, 27, 28, 29])
 (.cond (.t 30) .skip
 (.ext 0)))
 (.seq (.blk 1 (.seq (.reg [] [⟨none, .ld 34 (.t 5)⟩, ⟨none, .ld 35 (.t 6)⟩, ⟨none, .das 36 f_job_Go [(.t 34), (.t 35)]⟩, ⟨none, .mv 33 (.t 36)⟩, ⟨none, .ex 37 (.t 33) 0⟩, ⟨none, .ex 38 (.t 33) 1⟩, ⟨none, .ex 39 (.t 33) 2⟩, ⟨none, .alc 9 (.d (.agg [(.int .i64 0), (.int .i64 0), (.int .i64 0), (.int .i64 0), (.agg [(.int .i64 0), (.agg [(.int .i64 0), (.int .i64 0), (.int .i64 0), (.int .i64 0), (.int .i64 0), (.int .i64 0), (.int .i64 0), (.int .i64 0)]), (.sl true []), (.bool false)]), (.agg [(.int .i64 0), (.agg [(.int .i64 0), (.int .i64 0), (.int .i64 0), (.int .i64 0), (.int .i64 0), (.int .i64 0), (.int .i64 0), (.int .i64 0)]), (.sl true []), (.bool false)]), (.sl true []), (.bool false)]))⟩, ⟨none, .alc 10 (.d (.agg [(.int .i64 0), (.int .i64 0), (.int .i64 0), (.int .i64 0)]))⟩, ⟨none, .st (.t 9) (.t 37)⟩, ⟨none, .st (.t 10) (.t 38)⟩, ⟨none, .mv 11 (.t 39)⟩] [33, 34, 35, 36, 37, 38, 39])
 (.seq (.seq (.reg [] [⟨none, .mv 40 (.t 11)⟩, ⟨none, .un 41 .not (.t 40)⟩] [11, 40])
 (.cond (.t 41) (.seq (.reg [] [⟨none, .mv 4 (.c (.bool false))⟩] [])
 .ret)
 .skip))
 (.seq (.seq (.reg [] [⟨none, .fa 42 (.t 10) 0⟩, ⟨none, .ld 43 (.t 42)⟩, ⟨none, .bin 44 .eql (.t 43) (.c (.int .i64 9))⟩] [42, 43])
 (.cond (.t 44) (.reg [] [⟨none, .mv 45 (.t 7)⟩, ⟨none, .fa 46 (.t 10) 1⟩, ⟨none, .ld 47 (.t 46)⟩, ⟨none, .bsl 48 [(.t 47)]⟩, ⟨none, .app 49 (.t 45) (.t 48)⟩, ⟨none, .mv 7 (.t 49)⟩] [45, 46, 47, 48, 49])
 .skip))
 (.seq (.seq (.reg [] [⟨none, .fa 50 (.t 10) 0⟩, ⟨none, .ld 51 (.t 50)⟩, ⟨none, .bin 52 .eql (.t 51) (.c (.int .i64 10))⟩] [50, 51])
 (.cond (.t 52) (.seq (.seq (.reg [] [⟨none, .mv 53 (.t 7)⟩, ⟨none, .len 54 (.t 53)⟩, ⟨none, .bin 55 .eql (.t 54) (.c (.int .i64 0))⟩] [53, 54])
 (.cond (.t 55) (.seq (.reg [] [⟨none, .mv 4 (.c (.bool false))⟩] [])
 .ret)
 .skip))
 (.reg [] [⟨none, .mv 56 (.t 7)⟩, ⟨none, .mv 57 (.t 7)⟩, ⟨none, .len 58 (.t 57)⟩, ⟨none, .bin 59 .sub (.t 58) (.c (.int .i64 1))⟩, ⟨none, .slc 60 (.t 56) none (some (.t 59))⟩, ⟨none, .mv 7 (.t 60)⟩] [56, 57, 58, 59, 60]))
 .skip))
 (.seq (.seq (.reg [] [⟨none, .fa 61 (.t 9) 6⟩, ⟨none, .ld 62 (.t 61)⟩, ⟨none, .len 63 (.t 62)⟩, ⟨none, .mv 64 (.t 7)⟩, ⟨none, .len 65 (.t 64)⟩, ⟨none, .bin 66 .neq (.t 63) (.t 65)⟩] [61, 62, 63, 64, 65])
 (.cond (.t 66) (.seq (.reg [] [⟨none, .mv 4 (.c (.bool false))⟩] [])
 .ret)
 .skip))
 (.seq (.seq (.reg [] [⟨none, .mv 12 (.c (.int .i64 0))⟩] [])
 (.blk 2 (.loop [5, 6, 7, 8, 9, 10, 12] k_law19_JobHeld_L1)))
 (.seq (.seq (.reg [] [⟨none, .fa 83 (.t 10) 0⟩, ⟨none, .ld 84 (.t 83)⟩, ⟨none, .bin 85 .eql (.t 84) (.c (.int .i64 11))⟩, ⟨none, .mv 86 (.t 85)⟩, ⟨some (86, true), .fa 87 (.t 9) 5⟩, ⟨some (86, true), .ld 88 (.t 87)⟩, ⟨some (86, true), .fa 89 (.t 9) 4⟩, ⟨some (86, true), .ld 90 (.t 89)⟩, ⟨some (86, true), .dat 91 f_ref1_SameMachine [(.t 88), (.t 90)]⟩, ⟨some (86, true), .un 92 .not (.t 91)⟩, ⟨none, .pick 93 (.t 86) (.t 92) (.c (.bool false))⟩, ⟨none, .mv 94 (.t 93)⟩, ⟨some (94, false), .fa 95 (.t 10) 0⟩, ⟨some (94, false), .ld 96 (.t 95)⟩, ⟨some (94, false), .bin 97 .neq (.t 96) (.c (.int .i64 11))⟩, ⟨some (94, false), .mv 98 (.t 97)⟩, ⟨some (98, true), .fa 99 (.t 9) 5⟩, ⟨some (98, true), .ld 100 (.t 99)⟩, ⟨some (98, true), .fa 101 (.t 6) 5⟩, ⟨some (98, true), .ld 102 (.t 101)⟩, ⟨some (98, true), .dat 103 f_ref1_SameMachine [(.t 100), (.t 102)]⟩, ⟨some (98, true), .un 104 .not (.t 103)⟩, ⟨some (94, false), .pick 105 (.t 98) (.t 104) (.c (.bool false))⟩, ⟨none, .pick 106 (.t 94) (.c (.bool true)) (.t 105)⟩] [10, 83, 84, 85, 86, 87, 88, 89, 90, 91, 92, 93, 94, 95, 96, 97, 98, 99, 100, 101, 102, 103, 104, 105])
 (.cond (.t 106) (.seq (.reg [] [⟨none, .mv 4 (.c (.bool false))⟩] [])
 .ret)
 .skip))
 (.reg [] [⟨none, .ld 107 (.t 9)⟩, ⟨none, .st (.t 6) (.t 107)⟩] [9, 107])))))))))
 (.reg [] [⟨none, .mv 31 (.t 8)⟩, ⟨none, .bin 32 .add (.t 31) (.c (.int .i64 1))⟩, ⟨none, .mv 8 (.t 32)⟩] [31, 32])))
def k_law19_JobHeld_L0 : K := k_law19_JobHeld_L0b
def k_law19_JobHeld : KF := ⟨(.seq (.reg [] [⟨none, .mv 4 (.c (.bool false))⟩] [4])
 (.seq (.seq (.reg [] [⟨none, .dat 13 f_law19_begun []⟩, ⟨none, .un 14 .not (.t 13)⟩] [13])
 (.cond (.t 14) (.seq (.reg [] [⟨none, .mv 4 (.c (.bool false))⟩] [])
 .ret)
 .skip))
 (.seq (.seq (.reg [] [⟨none, .mv 15 (.t 0)⟩, ⟨none, .len 16 (.t 15)⟩, ⟨none, .bin 17 .gtr (.t 16) (.c (.int .i64 150))⟩] [15, 16])
 (.cond (.t 17) (.seq (.reg [] [⟨none, .mv 4 (.c (.bool true))⟩] [])
 .ret)
 .skip))
 (.seq (.reg [] [⟨none, .mv 18 (.t 0)⟩, ⟨none, .cal 19 f_play_Made [(.t 18)] []⟩, ⟨none, .cad 20 f_play_Picks_Task [(.t 19), (.c (.int .i64 1)), (.c (.int .i64 3))]⟩, ⟨none, .alc 5 (.d (.agg [(.int .i64 0), (.int .i64 0), (.int .i64 0), (.sl true []), (.sl true []), (.sl true [])]))⟩, ⟨none, .st (.t 5) (.t 20)⟩] [0, 18, 19, 20])
 (.seq (.reg [] [⟨none, .mv 21 (.t 1)⟩, ⟨none, .das 22 f_job_New [(.c (.int .i64 0)), (.c (.int .i64 0)), (.t 21)]⟩, ⟨none, .alc 6 (.d (.agg [(.int .i64 0), (.int .i64 0), (.int .i64 0), (.int .i64 0), (.agg [(.int .i64 0), (.agg [(.int .i64 0), (.int .i64 0), (.int .i64 0), (.int .i64 0), (.int .i64 0), (.int .i64 0), (.int .i64 0), (.int .i64 0)]), (.sl true []), (.bool false)]), (.agg [(.int .i64 0), (.agg [(.int .i64 0), (.int .i64 0), (.int .i64 0), (.int .i64 0), (.int .i64 0), (.int .i64 0), (.int .i64 0), (.int .i64 0)]), (.sl true []), (.bool false)]), (.sl true []), (.bool false)]))⟩, ⟨none, .st (.t 6) (.t 22)⟩] [1, 21, 22])
 (.seq (.reg [] [⟨none, .mv 7 (.c (.d (.sl true [])))⟩] [])
 (.seq (.seq (.reg [] [⟨none, .mv 8 (.c (.int .i64 0))⟩] [])
 (.blk 0 (.loop [5, 6, 7, 8] k_law19_JobHeld_L0)))
 (.seq (.reg [] [⟨none, .fa 108 (.t 6) 4⟩, ⟨none, .fa 109 (.t 108) 3⟩, ⟨none, .ld 110 (.t 109)⟩, ⟨none, .mv 111 (.t 110)⟩, ⟨some (111, true), .mv 112 (.t 7)⟩, ⟨some (111, true), .len 113 (.t 112)⟩, ⟨some (111, true), .bin 114 .eql (.t 113) (.c (.int .i64 0))⟩, ⟨none, .pick 115 (.t 111) (.t 114) (.c (.bool false))⟩, ⟨none, .mv 4 (.t 115)⟩] [6, 7, 108, 109, 110, 111, 112, 113, 114, 115])
 .ret)))))))), [.t 4], none⟩
/- foliot/foliotlaw19.begun -/
def k_law19_begun : KF := ⟨(.seq (.reg [] [⟨none, .mv 0 (.c (.bool false))⟩] [0])
 (.seq (.reg [] [⟨none, .bld 11 [(.c (.int .i64 11)), (.c (.int .i64 0)), (.c (.int .i64 0)), (.c (.int .i64 0))]⟩, ⟨none, .bld 12 [(.c (.int .i64 9)), (.c (.int .i64 2)), (.c (.int .i64 0)), (.c (.int .i64 0))]⟩, ⟨none, .bld 13 [(.c (.int .i64 10)), (.c (.int .i64 2)), (.c (.int .i64 0)), (.c (.int .i64 0))]⟩, ⟨none, .bld 14 [(.c (.int .i64 0)), (.c (.int .i64 0)), (.c (.int .i64 0)), (.c (.int .i64 0))]⟩, ⟨none, .bsl 15 [(.t 11), (.t 12), (.t 13), (.t 14)]⟩, ⟨none, .bld 16 [(.c (.int .i64 0)), (.c (.int .i64 0)), (.c (.int .i64 0)), (.t 15), (.c (.d (.sl true []))), (.c (.d (.sl true [])))]⟩, ⟨none, .alc 1 (.d (.agg [(.int .i64 0), (.int .i64 0), (.int .i64 0), (.sl true []), (.sl true []), (.sl true [])]))⟩, ⟨none, .st (.t 1) (.t 16)⟩] [11, 12, 13, 14, 15, 16])
 (.seq (.reg [] [⟨none, .das 17 f_job_New [(.c (.int .i64 1)), (.c (.int .i64 5)), (.c (.int .i64 7))]⟩, ⟨none, .alc 2 (.d (.agg [(.int .i64 0), (.int .i64 0), (.int .i64 0), (.int .i64 0), (.agg [(.int .i64 0), (.agg [(.int .i64 0), (.int .i64 0), (.int .i64 0), (.int .i64 0), (.int .i64 0), (.int .i64 0), (.int .i64 0), (.int .i64 0)]), (.sl true []), (.bool false)]), (.agg [(.int .i64 0), (.agg [(.int .i64 0), (.int .i64 0), (.int .i64 0), (.int .i64 0), (.int .i64 0), (.int .i64 0), (.int .i64 0), (.int .i64 0)]), (.sl true []), (.bool false)]), (.sl true []), (.bool false)]))⟩, ⟨none, .st (.t 2) (.t 17)⟩] [17])
 (.seq (.reg [] [⟨none, .ld 19 (.t 1)⟩, ⟨none, .ld 20 (.t 2)⟩, ⟨none, .das 21 f_job_Go [(.t 19), (.t 20)]⟩, ⟨none, .mv 18 (.t 21)⟩, ⟨none, .ex 22 (.t 18) 0⟩, ⟨none, .ex 23 (.t 18) 1⟩, ⟨none, .ex 24 (.t 18) 2⟩, ⟨none, .alc 3 (.d (.agg [(.int .i64 0), (.int .i64 0), (.int .i64 0), (.int .i64 0), (.agg [(.int .i64 0), (.agg [(.int .i64 0), (.int .i64 0), (.int .i64 0), (.int .i64 0), (.int .i64 0), (.int .i64 0), (.int .i64 0), (.int .i64 0)]), (.sl true []), (.bool false)]), (.agg [(.int .i64 0), (.agg [(.int .i64 0), (.int .i64 0), (.int .i64 0), (.int .i64 0), (.int .i64 0), (.int .i64 0), (.int .i64 0), (.int .i64 0)]), (.sl true []), (.bool false)]), (.sl true []), (.bool false)]))⟩, ⟨none, .alc 4 (.d (.agg [(.int .i64 0), (.int .i64 0), (.int .i64 0), (.int .i64 0)]))⟩, ⟨none, .st (.t 3) (.t 22)⟩, ⟨none, .st (.t 4) (.t 23)⟩, ⟨none, .mv 5 (.t 24)⟩] [18, 19, 20, 21, 22, 23, 24])
 (.seq (.reg [] [⟨none, .ld 26 (.t 1)⟩, ⟨none, .ld 27 (.t 3)⟩, ⟨none, .das 28 f_job_Go [(.t 26), (.t 27)]⟩, ⟨none, .mv 25 (.t 28)⟩, ⟨none, .ex 29 (.t 25) 0⟩, ⟨none, .ex 30 (.t 25) 1⟩, ⟨none, .ex 31 (.t 25) 2⟩, ⟨none, .alc 6 (.d (.agg [(.int .i64 0), (.int .i64 0), (.int .i64 0), (.int .i64 0), (.agg [(.int .i64 0), (.agg [(.int .i64 0), (.int .i64 0), (.int .i64 0), (.int .i64 0), (.int .i64 0), (.int .i64 0), (.int .i64 0), (.int .i64 0)]), (.sl true []), (.bool false)]), (.agg [(.int .i64 0), (.agg [(.int .i64 0), (.int .i64 0), (.int .i64 0), (.int .i64 0), (.int .i64 0), (.int .i64 0), (.int .i64 0), (.int .i64 0)]), (.sl true []), (.bool false)]), (.sl true []), (.bool false)]))⟩, ⟨none, .alc 7 (.d (.agg [(.int .i64 0), (.int .i64 0), (.int .i64 0), (.int .i64 0)]))⟩, ⟨none, .st (.t 6) (.t 29)⟩, ⟨none, .st (.t 7) (.t 30)⟩, ⟨none, .mv 8 (.t 31)⟩] [7, 25, 26, 27, 28, 29, 30, 31])
 (.seq (.reg [] [⟨none, .ld 32 (.t 1)⟩, ⟨none, .ld 33 (.t 6)⟩, ⟨none, .das 34 f_job_Back [(.t 32), (.t 33)]⟩, ⟨none, .alc 9 (.d (.agg [(.int .i64 0), (.int .i64 0), (.int .i64 0), (.int .i64 0), (.agg [(.int .i64 0), (.agg [(.int .i64 0), (.int .i64 0), (.int .i64 0), (.int .i64 0), (.int .i64 0), (.int .i64 0), (.int .i64 0), (.int .i64 0)]), (.sl true []), (.bool false)]), (.agg [(.int .i64 0), (.agg [(.int .i64 0), (.int .i64 0), (.int .i64 0), (.int .i64 0), (.int .i64 0), (.int .i64 0), (.int .i64 0), (.int .i64 0)]), (.sl true []), (.bool false)]), (.sl true []), (.bool false)]))⟩, ⟨none, .st (.t 9) (.t 34)⟩] [32, 33, 34])
 (.seq (.reg [] [⟨none, .ld 35 (.t 6)⟩, ⟨none, .das 36 f_job_Opt [(.t 35)]⟩, ⟨none, .alc 10 (.d (.agg [(.int .i64 0), (.int .i64 0), (.int .i64 0), (.int .i64 0), (.agg [(.int .i64 0), (.agg [(.int .i64 0), (.int .i64 0), (.int .i64 0), (.int .i64 0), (.int .i64 0), (.int .i64 0), (.int .i64 0), (.int .i64 0)]), (.sl true []), (.bool false)]), (.agg [(.int .i64 0), (.agg [(.int .i64 0), (.int .i64 0), (.int .i64 0), (.int .i64 0), (.int .i64 0), (.int .i64 0), (.int .i64 0), (.int .i64 0)]), (.sl true []), (.bool false)]), (.sl true []), (.bool false)]))⟩, ⟨none, .st (.t 10) (.t 36)⟩] [35, 36])
 (.seq (.reg [] [⟨none, .fa 37 (.t 2) 0⟩, ⟨none, .ld 38 (.t 37)⟩, ⟨none, .bin 39 .eql (.t 38) (.c (.int .i64 1))⟩, ⟨none, .mv 40 (.t 39)⟩, ⟨some (40, true), .fa 41 (.t 2) 1⟩, ⟨some (40, true), .ld 42 (.t 41)⟩, ⟨some (40, true), .bin 43 .eql (.t 42) (.c (.int .i64 5))⟩, ⟨none, .pick 44 (.t 40) (.t 43) (.c (.bool false))⟩, ⟨none, .mv 45 (.t 44)⟩, ⟨some (45, true), .fa 46 (.t 2) 4⟩, ⟨some (45, true), .fa 47 (.t 46) 1⟩, ⟨some (45, true), .ia 48 (.t 47) (.c (.int .i64 0))⟩, ⟨some (45, true), .ld 49 (.t 48)⟩, ⟨some (45, true), .bin 50 .eql (.t 49) (.c (.int .i64 7))⟩, ⟨none, .pick 51 (.t 45) (.t 50) (.c (.bool false))⟩, ⟨none, .mv 52 (.t 51)⟩, ⟨some (52, true), .mv 53 (.t 5)⟩, ⟨none, .pick 54 (.t 52) (.t 53) (.c (.bool false))⟩, ⟨none, .mv 55 (.t 54)⟩, ⟨some (55, true), .fa 56 (.t 4) 0⟩, ⟨some (55, true), .ld 57 (.t 56)⟩, ⟨some (55, true), .bin 58 .eql (.t 57) (.c (.int .i64 11))⟩, ⟨none, .pick 59 (.t 55) (.t 58) (.c (.bool false))⟩, ⟨none, .mv 60 (.t 59)⟩, ⟨some (60, true), .fa 61 (.t 3) 5⟩, ⟨some (60, true), .fa 62 (.t 61) 0⟩, ⟨some (60, true), .ld 63 (.t 62)⟩, ⟨some (60, true), .bin 64 .eql (.t 63) (.c (.int .i64 1))⟩, ⟨none, .pick 65 (.t 60) (.t 64) (.c (.bool false))⟩, ⟨none, .mv 66 (.t 65)⟩, ⟨some (66, true), .mv 67 (.t 8)⟩, ⟨none, .pick 68 (.t 66) (.t 67) (.c (.bool false))⟩, ⟨none, .mv 69 (.t 68)⟩, ⟨some (69, true), .fa 70 (.t 6) 6⟩, ⟨some (69, true), .ld 71 (.t 70)⟩, ⟨some (69, true), .len 72 (.t 71)⟩, ⟨some (69, true), .bin 73 .eql (.t 72) (.c (.int .i64 1))⟩, ⟨none, .pick 74 (.t 69) (.t 73) (.c (.bool false))⟩, ⟨none, .mv 75 (.t 74)⟩, ⟨some (75, true), .fa 76 (.t 6) 6⟩, ⟨some (75, true), .ld 77 (.t 76)⟩, ⟨some (75, true), .ia 78 (.t 77) (.c (.int .i64 0))⟩, ⟨some (75, true), .ld 79 (.t 78)⟩, ⟨some (75, true), .bin 80 .eql (.t 79) (.c (.int .i64 2))⟩, ⟨none, .pick 81 (.t 75) (.t 80) (.c (.bool false))⟩, ⟨none, .mv 82 (.t 81)⟩, ⟨some (82, true), .fa 83 (.t 9) 4⟩, ⟨some (82, true), .fa 84 (.t 83) 0⟩, ⟨some (82, true), .ld 85 (.t 84)⟩, ⟨some (82, true), .bin 86 .eql (.t 85) (.c (.int .i64 1))⟩, ⟨none, .pick 87 (.t 82) (.t 86) (.c (.bool false))⟩, ⟨none, .mv 88 (.t 87)⟩, ⟨some (88, true), .fa 89 (.t 9) 6⟩, ⟨some (88, true), .ld 90 (.t 89)⟩, ⟨some (88, true), .len 91 (.t 90)⟩, ⟨some (88, true), .bin 92 .eql (.t 91) (.c (.int .i64 0))⟩, ⟨none, .pick 93 (.t 88) (.t 92) (.c (.bool false))⟩, ⟨none, .mv 94 (.t 93)⟩, ⟨some (94, true), .fa 95 (.t 10) 3⟩, ⟨some (94, true), .ld 96 (.t 95)⟩, ⟨some (94, true), .bin 97 .eql (.t 96) (.c (.int .i64 2))⟩, ⟨none, .pick 98 (.t 94) (.t 97) (.c (.bool false))⟩, ⟨none, .mv 99 (.t 98)⟩, ⟨some (99, true), .fa 100 (.t 10) 4⟩, ⟨some (99, true), .fa 101 (.t 100) 1⟩, ⟨some (99, true), .ia 102 (.t 101) (.c (.int .i64 0))⟩, ⟨some (99, true), .ld 103 (.t 102)⟩, ⟨some (99, true), .bin 104 .eql (.t 103) (.c (.int .i64 7))⟩, ⟨none, .pick 105 (.t 99) (.t 104) (.c (.bool false))⟩, ⟨none, .mv 106 (.t 105)⟩, ⟨some (106, true), .ld 107 (.t 1)⟩, ⟨some (106, true), .ld 108 (.t 2)⟩, ⟨some (106, true), .das 109 f_job_Code [(.t 107), (.t 108)]⟩, ⟨some (106, true), .len 110 (.t 109)⟩, ⟨some (106, true), .bin 111 .eql (.t 110) (.c (.int .i64 4))⟩, ⟨none, .pick 112 (.t 106) (.t 111) (.c (.bool false))⟩, ⟨none, .mv 113 (.t 112)⟩, ⟨some (113, true), .ld 114 (.t 1)⟩, ⟨some (113, true), .ld 115 (.t 10)⟩, ⟨some (113, true), .das 116 f_job_Code [(.t 114), (.t 115)]⟩, ⟨some (113, true), .len 117 (.t 116)⟩, ⟨some (113, true), .bin 118 .eql (.t 117) (.c (.int .i64 0))⟩, ⟨none, .pick 119 (.t 113) (.t 118) (.c (.bool false))⟩, ⟨none, .mv 0 (.t 119)⟩] [1, 2, 3, 4, 5, 6, 8, 9, 10, 37, 38, 39, 40, 41, 42, 43, 44, 45, 46, 47, 48, 49, 50, 51, 52, 53, 54, 55, 56, 57, 58, 59, 60, 61, 62, 63, 64, 65, 66, 67, 68, 69, 70, 71, 72, 73, 74, 75, 76, 77, 78, 79, 80, 81, 82, 83, 84, 85, 86, 87, 88, 89, 90, 91, 92, 93, 94, 95, 96, 97, 98, 99, 100, 101, 102, 103, 104, 105, 106, 107, 108, 109, 110, 111, 112, 113, 114, 115, 116, 117, 118, 119])
 .ret)))))))), [.t 0], none⟩
/- foliot/job.New -/
def k_job_New : KF := ⟨(.seq (.reg [] [⟨none, .alc 6 (.d (.agg [(.int .i64 0), (.int .i64 0), (.int .i64 0), (.int .i64 0), (.agg [(.int .i64 0), (.agg [(.int .i64 0), (.int .i64 0), (.int .i64 0), (.int .i64 0), (.int .i64 0), (.int .i64 0), (.int .i64 0), (.int .i64 0)]), (.sl true []), (.bool false)]), (.agg [(.int .i64 0), (.agg [(.int .i64 0), (.int .i64 0), (.int .i64 0), (.int .i64 0), (.int .i64 0), (.int .i64 0), (.int .i64 0), (.int .i64 0)]), (.sl true []), (.bool false)]), (.sl true []), (.bool false)]))⟩] [])
 (.seq (.reg [] [⟨none, .mv 7 (.t 0)⟩, ⟨none, .mv 8 (.t 1)⟩, ⟨none, .mv 9 (.t 2)⟩, ⟨none, .mv 10 (.t 2)⟩, ⟨none, .dat 11 f_vm_New [(.t 10)]⟩, ⟨none, .mv 12 (.t 2)⟩, ⟨none, .dat 13 f_vm_New [(.t 12)]⟩, ⟨none, .bld 14 [(.t 7), (.t 8), (.t 9), (.c (.int .i64 0)), (.t 11), (.t 13), (.c (.d (.sl true []))), (.c (.bool false))]⟩, ⟨none, .st (.t 6) (.t 14)⟩] [0, 1, 2, 7, 8, 9, 10, 11, 12, 13, 14])
 .ret)), [.cell 6], none⟩
/- foliot/job.Go -/
def k_job_Go_L0b : K := (.seq (.seq (.reg [] [⟨none, .mv 49 (.t 8)⟩, ⟨none, .bin 50 .geq (.t 49) (.c (.int .i64 0))⟩] [49])
 (.cond (.t 50) .skip
 (.ext 1)))
 (.seq (.blk 2 (.seq (.reg [] [⟨none, .fa 53 (.t 4) 6⟩, ⟨none, .ld 54 (.t 53)⟩, ⟨none, .mv 55 (.t 8)⟩, ⟨none, .ia 56 (.t 54) (.t 55)⟩, ⟨none, .ld 57 (.t 56)⟩, ⟨none, .fa 58 (.t 5) 1⟩, ⟨none, .ld 59 (.t 58)⟩, ⟨none, .bin 60 .eql (.t 57) (.t 59)⟩] [53, 54, 55, 56, 57, 58, 59])
 (.cond (.t 60) (.seq (.reg [] [⟨none, .fa 61 (.t 4) 6⟩, ⟨none, .ld 62 (.t 61)⟩, ⟨none, .mv 63 (.t 8)⟩, ⟨none, .mv 64 (.t 8)⟩, ⟨none, .bin 65 .add (.t 64) (.c (.int .i64 1))⟩, ⟨none, .cal 66 f_slices_Delete_int_int [(.t 62), (.t 63), (.t 65)] []⟩, ⟨none, .fa 67 (.t 4) 6⟩, ⟨none, .st (.t 67) (.t 66)⟩] [8, 61, 62, 63, 64, 65, 66, 67])
 (.ext 1))
 .skip)))
 (.reg [] [⟨none, .mv 51 (.t 8)⟩, ⟨none, .bin 52 .sub (.t 51) (.c (.int .i64 1))⟩, ⟨none, .mv 8 (.t 52)⟩] [51, 52])))
def k_job_Go_L0 : K := k_job_Go_L0b
def k_job_Go : KF := ⟨(.seq (.reg [] [⟨none, .box 2 (.t 0)⟩, ⟨none, .box 3 (.t 1)⟩, ⟨none, .alc 4 (.d (.agg [(.int .i64 0), (.int .i64 0), (.int .i64 0), (.int .i64 0), (.agg [(.int .i64 0), (.agg [(.int .i64 0), (.int .i64 0), (.int .i64 0), (.int .i64 0), (.int .i64 0), (.int .i64 0), (.int .i64 0), (.int .i64 0)]), (.sl true []), (.bool false)]), (.agg [(.int .i64 0), (.agg [(.int .i64 0), (.int .i64 0), (.int .i64 0), (.int .i64 0), (.int .i64 0), (.int .i64 0), (.int .i64 0), (.int .i64 0)]), (.sl true []), (.bool false)]), (.sl true []), (.bool false)]))⟩, ⟨none, .alc 5 (.d (.agg [(.int .i64 0), (.int .i64 0), (.int .i64 0), (.int .i64 0)]))⟩, ⟨none, .mv 6 (.c (.bool false))⟩] [0, 1, 6])
 (.seq (.reg [] [⟨none, .ld 9 (.t 3)⟩, ⟨none, .cal 10 f_job_twin [(.t 9)] []⟩, ⟨none, .st (.t 4) (.t 10)⟩] [9, 10])
 (.seq (.reg [(2, 4), (0, 10), (1, 10), (2, 10), (4, 10), (5, 10)] [⟨none, .ld 12 (.t 2)⟩, ⟨none, .ld 13 (.t 3)⟩, ⟨none, .das 14 f_job_Code [(.t 12), (.t 13)]⟩, ⟨none, .fa 15 (.t 3) 4⟩, ⟨none, .ld 16 (.t 15)⟩, ⟨none, .dat 17 f_vm_Step [(.t 14), (.t 16)]⟩, ⟨none, .mv 11 (.t 17)⟩, ⟨none, .ex 18 (.t 11) 0⟩, ⟨none, .ex 19 (.t 11) 1⟩, ⟨none, .ex 20 (.t 11) 2⟩, ⟨none, .alc 7 (.d (.agg [(.int .i64 0), (.agg [(.int .i64 0), (.int .i64 0), (.int .i64 0), (.int .i64 0), (.int .i64 0), (.int .i64 0), (.int .i64 0), (.int .i64 0)]), (.sl true []), (.bool false)]))⟩, ⟨none, .st (.t 7) (.t 18)⟩, ⟨none, .st (.t 5) (.t 19)⟩, ⟨none, .mv 6 (.t 20)⟩] [2, 3, 11, 12, 13, 14, 15, 16, 17, 18, 19, 20])
 (.seq (.seq (.reg [] [⟨none, .mv 21 (.t 6)⟩, ⟨none, .un 22 .not (.t 21)⟩] [6, 21])
 (.cond (.t 22) (.seq (.reg [] [⟨none, .ld 23 (.t 4)⟩, ⟨none, .bld 24 [(.c (.int .i64 0)), (.c (.int .i64 0)), (.c (.int .i64 0)), (.c (.int .i64 0))]⟩, ⟨none, .st (.t 4) (.t 23)⟩, ⟨none, .st (.t 5) (.t 24)⟩, ⟨none, .mv 6 (.c (.bool false))⟩] [23, 24])
 .ret)
 .skip))
 (.seq (.reg [] [⟨none, .ld 25 (.t 7)⟩, ⟨none, .fa 26 (.t 4) 4⟩, ⟨none, .st (.t 26) (.t 25)⟩] [25, 26])
 (.seq (.seq (.reg [] [⟨none, .fa 27 (.t 5) 0⟩, ⟨none, .ld 28 (.t 27)⟩] [27])
 (.blk 0 (.seq (.reg [] [⟨none, .bin 30 .eql (.t 28) (.c (.int .i64 11))⟩, ⟨none, .mv 29 (.t 30)⟩] [30])
 (.cond (.t 29) (.reg [] [⟨none, .ld 31 (.t 7)⟩, ⟨none, .das 32 f_job_machine [(.t 31)]⟩, ⟨none, .fa 33 (.t 4) 5⟩, ⟨none, .st (.t 33) (.t 32)⟩] [7, 31, 32, 33])
 (.seq (.reg [] [⟨none, .bin 35 .eql (.t 28) (.c (.int .i64 9))⟩, ⟨none, .mv 34 (.t 35)⟩] [35])
 (.cond (.t 34) (.reg [] [⟨none, .fa 36 (.t 4) 6⟩, ⟨none, .ld 37 (.t 36)⟩, ⟨none, .fa 38 (.t 5) 1⟩, ⟨none, .ld 39 (.t 38)⟩, ⟨none, .bsl 40 [(.t 39)]⟩, ⟨none, .app 41 (.t 37) (.t 40)⟩, ⟨none, .fa 42 (.t 4) 6⟩, ⟨none, .st (.t 42) (.t 41)⟩] [36, 37, 38, 39, 40, 41, 42])
 (.seq (.reg [] [⟨none, .bin 44 .eql (.t 28) (.c (.int .i64 10))⟩, ⟨none, .mv 43 (.t 44)⟩] [28, 44])
 (.cond (.t 43) (.seq (.reg [] [⟨none, .fa 45 (.t 4) 6⟩, ⟨none, .ld 46 (.t 45)⟩, ⟨none, .len 47 (.t 46)⟩, ⟨none, .bin 48 .sub (.t 47) (.c (.int .i64 1))⟩, ⟨none, .mv 8 (.t 48)⟩] [45, 46, 47, 48])
 (.blk 1 (.loop [4, 5, 8] k_job_Go_L0)))
 .skip))))))))
 (.seq (.reg [(1, 2)] [⟨none, .ld 68 (.t 4)⟩, ⟨none, .ld 69 (.t 5)⟩, ⟨none, .st (.t 4) (.t 68)⟩, ⟨none, .st (.t 5) (.t 69)⟩, ⟨none, .mv 6 (.c (.bool true))⟩] [68, 69])
 .ret))))))), [.cell 4, .cell 5, .t 6], none⟩
/- foliot/job.Code -/
def k_job_Code : KF := ⟨(.seq (.reg [] [⟨none, .box 2 (.t 0)⟩, ⟨none, .box 3 (.t 1)⟩, ⟨none, .mv 4 (.c (.d (.sl true [])))⟩] [0, 1, 4])
 (.seq (.reg [] [⟨none, .mkm 6⟩, ⟨none, .fa 7 (.t 2) 3⟩, ⟨none, .ld 8 (.t 7)⟩, ⟨none, .mu (.t 6) (.c (.int .i64 0)) (.t 8)⟩, ⟨none, .fa 9 (.t 2) 4⟩, ⟨none, .ld 10 (.t 9)⟩, ⟨none, .mu (.t 6) (.c (.int .i64 1)) (.t 10)⟩, ⟨none, .fa 11 (.t 2) 5⟩, ⟨none, .ld 12 (.t 11)⟩, ⟨none, .mu (.t 6) (.c (.int .i64 2)) (.t 12)⟩, ⟨none, .mv 13 (.t 6)⟩, ⟨none, .mv 5 (.t 13)⟩] [2, 6, 7, 8, 9, 10, 11, 12, 13])
 (.seq (.reg [] [⟨none, .mv 14 (.t 5)⟩, ⟨none, .fa 15 (.t 3) 3⟩, ⟨none, .ld 16 (.t 15)⟩, ⟨none, .lk 17 (.t 14) (.t 16) (.d (.sl true [])) false⟩, ⟨none, .dat 18 f_slices_Clone_api_Inst_api_Inst [(.t 17)]⟩, ⟨none, .mv 4 (.t 18)⟩] [3, 5, 14, 15, 16, 17, 18])
 .ret))), [.t 4], none⟩
/- slices.Clone[[]foliot/api.Inst,foliot/api.Inst] -/
def k_slices_Clone_api_Inst_api_Inst : KF := ⟨(.seq (.reg [] [⟨none, .mv 2 (.c (.d (.sl true [])))⟩] [2])
 (.seq (.seq (.reg [] [⟨none, .mv 3 (.t 0)⟩, ⟨none, .bin 4 .eql (.t 3) (.c (.d (.sl true [])))⟩] [3])
 (.cond (.t 4) (.seq (.reg [] [⟨none, .mv 2 (.c (.d (.sl true [])))⟩] [])
 .ret)
 .skip))
 (.seq (.reg [] [⟨none, .bsl 5 []⟩, ⟨none, .mv 6 (.t 0)⟩, ⟨none, .app 7 (.t 5) (.t 6)⟩, ⟨none, .mv 2 (.t 7)⟩] [0, 5, 6, 7])
 .ret))), [.t 2], none⟩
/- foliot/vm.Step -/
def k_vm_Step : KF := ⟨(.seq (.reg [] [⟨none, .box 3 (.t 1)⟩, ⟨none, .alc 4 (.d (.agg [(.int .i64 0), (.agg [(.int .i64 0), (.int .i64 0), (.int .i64 0), (.int .i64 0), (.int .i64 0), (.int .i64 0), (.int .i64 0), (.int .i64 0)]), (.sl true []), (.bool false)]))⟩, ⟨none, .alc 5 (.d (.agg [(.int .i64 0), (.int .i64 0), (.int .i64 0), (.int .i64 0)]))⟩, ⟨none, .mv 6 (.c (.bool false))⟩] [1, 6])
 (.seq (.seq (.reg [] [⟨none, .fa 11 (.t 3) 3⟩, ⟨none, .ld 12 (.t 11)⟩, ⟨none, .mv 13 (.t 12)⟩, ⟨some (13, false), .fa 14 (.t 3) 0⟩, ⟨some (13, false), .ld 15 (.t 14)⟩, ⟨some (13, false), .bin 16 .lss (.t 15) (.c (.int .i64 0))⟩, ⟨none, .pick 17 (.t 13) (.c (.bool true)) (.t 16)⟩, ⟨none, .mv 18 (.t 17)⟩, ⟨some (18, false), .fa 19 (.t 3) 0⟩, ⟨some (18, false), .ld 20 (.t 19)⟩, ⟨some (18, false), .mv 21 (.t 0)⟩, ⟨some (18, false), .len 22 (.t 21)⟩, ⟨some (18, false), .bin 23 .geq (.t 20) (.t 22)⟩, ⟨none, .pick 24 (.t 18) (.c (.bool true)) (.t 23)⟩, ⟨none, .mv 25 (.t 24)⟩, ⟨some (25, false), .mv 26 (.t 0)⟩, ⟨some (25, false), .fa 27 (.t 3) 0⟩, ⟨some (25, false), .ld 28 (.t 27)⟩, ⟨some (25, false), .ia 29 (.t 26) (.t 28)⟩, ⟨some (25, false), .ld 30 (.t 29)⟩, ⟨some (25, false), .dat 31 f_code_May [(.t 30)]⟩, ⟨some (25, false), .un 32 .not (.t 31)⟩, ⟨none, .pick 33 (.t 25) (.c (.bool true)) (.t 32)⟩] [11, 12, 13, 14, 15, 16, 17, 18, 19, 20, 21, 22, 23, 24, 25, 26, 27, 28, 29, 30, 31, 32])
 (.cond (.t 33) (.seq (.reg [] [⟨none, .ld 34 (.t 3)⟩, ⟨none, .dat 35 f_vm_twin [(.t 34)]⟩, ⟨none, .bld 36 [(.c (.int .i64 0)), (.c (.int .i64 0)), (.c (.int .i64 0)), (.c (.int .i64 0))]⟩, ⟨none, .st (.t 4) (.t 35)⟩, ⟨none, .st (.t 5) (.t 36)⟩, ⟨none, .mv 6 (.c (.bool false))⟩] [3, 34, 35, 36])
 .ret)
 .skip))
 (.seq (.reg [] [⟨none, .ld 37 (.t 3)⟩, ⟨none, .dat 38 f_vm_twin [(.t 37)]⟩, ⟨none, .st (.t 3) (.t 38)⟩] [37, 38])
 (.seq (.reg [] [⟨none, .mv 39 (.t 0)⟩, ⟨none, .fa 40 (.t 3) 0⟩, ⟨none, .ld 41 (.t 40)⟩, ⟨none, .ia 42 (.t 39) (.t 41)⟩, ⟨none, .ld 43 (.t 42)⟩, ⟨none, .alc 7 (.d (.agg [(.int .i64 0), (.int .i64 0), (.int .i64 0), (.int .i64 0)]))⟩, ⟨none, .st (.t 7) (.t 43)⟩] [0, 39, 40, 41, 42, 43])
 (.seq (.reg [] [⟨none, .fa 44 (.t 3) 0⟩, ⟨none, .ld 45 (.t 44)⟩, ⟨none, .bin 46 .add (.t 45) (.c (.int .i64 1))⟩, ⟨none, .mv 8 (.t 46)⟩] [44, 45, 46])
 (.seq (.seq (.reg [] [⟨none, .fa 47 (.t 7) 1⟩, ⟨none, .ld 48 (.t 47)⟩, ⟨none, .fa 49 (.t 3) 1⟩, ⟨none, .ia 50 (.t 49) (.t 48)⟩, ⟨none, .fa 51 (.t 7) 2⟩, ⟨none, .ld 52 (.t 51)⟩, ⟨none, .bin 53 .rem (.t 52) (.c (.int .i64 8))⟩, ⟨none, .fa 54 (.t 3) 1⟩, ⟨none, .ia 55 (.t 54) (.t 53)⟩, ⟨none, .ld 56 (.t 55)⟩, ⟨none, .mv 9 (.t 50)⟩, ⟨none, .mv 10 (.t 56)⟩] [47, 48, 49, 50, 51, 52, 53, 54, 55, 56])
 (.seq (.reg [] [⟨none, .fa 57 (.t 7) 0⟩, ⟨none, .ld 58 (.t 57)⟩] [57])
 (.blk 0 (.seq (.reg [] [⟨none, .bin 60 .eql (.t 58) (.c (.int .i64 0))⟩, ⟨none, .mv 59 (.t 60)⟩] [60])
 (.cond (.t 59) (.reg [] [⟨none, .fa 61 (.t 3) 0⟩, ⟨none, .ld 62 (.t 61)⟩, ⟨none, .mv 8 (.t 62)⟩, ⟨none, .fa 63 (.t 3) 3⟩, ⟨none, .st (.t 63) (.c (.bool true))⟩] [61, 62, 63])
 (.seq (.reg [] [⟨none, .bin 65 .eql (.t 58) (.c (.int .i64 1))⟩, ⟨none, .mv 64 (.t 65)⟩] [65])
 (.cond (.t 64) (.reg [] [⟨none, .mv 66 (.t 9)⟩, ⟨none, .fa 67 (.t 7) 3⟩, ⟨none, .ld 68 (.t 67)⟩, ⟨none, .nck 69 (.t 66)⟩, ⟨none, .st (.t 69) (.t 68)⟩] [9, 66, 67, 68, 69])
 (.seq (.reg [] [⟨none, .bin 71 .eql (.t 58) (.c (.int .i64 2))⟩, ⟨none, .mv 70 (.t 71)⟩] [71])
 (.cond (.t 70) (.reg [] [⟨none, .mv 72 (.t 9)⟩, ⟨none, .mv 73 (.t 9)⟩, ⟨none, .nck 74 (.t 73)⟩, ⟨none, .ld 75 (.t 74)⟩, ⟨none, .cv 76 .u64 (.t 75)⟩, ⟨none, .mv 77 (.t 10)⟩, ⟨none, .cv 78 .u64 (.t 77)⟩, ⟨none, .bin 79 .add (.t 76) (.t 78)⟩, ⟨none, .cv 80 .i64 (.t 79)⟩, ⟨none, .nck 81 (.t 72)⟩, ⟨none, .st (.t 81) (.t 80)⟩] [9, 10, 72, 73, 74, 75, 76, 77, 78, 79, 80, 81])
 (.seq (.reg [] [⟨none, .bin 83 .eql (.t 58) (.c (.int .i64 3))⟩, ⟨none, .mv 82 (.t 83)⟩] [83])
 (.cond (.t 82) (.reg [] [⟨none, .mv 84 (.t 9)⟩, ⟨none, .mv 85 (.t 9)⟩, ⟨none, .nck 86 (.t 85)⟩, ⟨none, .ld 87 (.t 86)⟩, ⟨none, .cv 88 .u64 (.t 87)⟩, ⟨none, .mv 89 (.t 10)⟩, ⟨none, .cv 90 .u64 (.t 89)⟩, ⟨none, .bin 91 .sub (.t 88) (.t 90)⟩, ⟨none, .cv 92 .i64 (.t 91)⟩, ⟨none, .nck 93 (.t 84)⟩, ⟨none, .st (.t 93) (.t 92)⟩] [9, 10, 84, 85, 86, 87, 88, 89, 90, 91, 92, 93])
 (.seq (.reg [] [⟨none, .bin 95 .eql (.t 58) (.c (.int .i64 4))⟩, ⟨none, .mv 94 (.t 95)⟩] [95])
 (.cond (.t 94) (.reg [] [⟨none, .mv 96 (.t 9)⟩, ⟨none, .mv 97 (.t 9)⟩, ⟨none, .nck 98 (.t 97)⟩, ⟨none, .ld 99 (.t 98)⟩, ⟨none, .cv 100 .u64 (.t 99)⟩, ⟨none, .mv 101 (.t 10)⟩, ⟨none, .cv 102 .u64 (.t 101)⟩, ⟨none, .bin 103 .mul (.t 100) (.t 102)⟩, ⟨none, .cv 104 .i64 (.t 103)⟩, ⟨none, .nck 105 (.t 96)⟩, ⟨none, .st (.t 105) (.t 104)⟩] [9, 10, 96, 97, 98, 99, 100, 101, 102, 103, 104, 105])
 (.seq (.reg [] [⟨none, .bin 107 .eql (.t 58) (.c (.int .i64 5))⟩, ⟨none, .mv 106 (.t 107)⟩] [107])
 (.cond (.t 106) (.reg [] [⟨none, .mv 108 (.t 9)⟩, ⟨none, .mv 109 (.t 9)⟩, ⟨none, .nck 110 (.t 109)⟩, ⟨none, .ld 111 (.t 110)⟩, ⟨none, .fa 112 (.t 7) 3⟩, ⟨none, .ld 113 (.t 112)⟩, ⟨none, .dat 114 f_vm_Shift [(.t 111), (.t 113)]⟩, ⟨none, .nck 115 (.t 108)⟩, ⟨none, .st (.t 115) (.t 114)⟩] [9, 108, 109, 110, 111, 112, 113, 114, 115])
 (.seq (.reg [] [⟨none, .bin 117 .eql (.t 58) (.c (.int .i64 6))⟩, ⟨none, .mv 116 (.t 117)⟩] [117])
 (.cond (.t 116) (.reg [] [⟨none, .mv 118 (.t 9)⟩, ⟨none, .mv 119 (.t 9)⟩, ⟨none, .nck 120 (.t 119)⟩, ⟨none, .ld 121 (.t 120)⟩, ⟨none, .fa 122 (.t 7) 3⟩, ⟨none, .ld 123 (.t 122)⟩, ⟨none, .dat 124 f_vm_Narrow [(.t 121), (.t 123)]⟩, ⟨none, .nck 125 (.t 118)⟩, ⟨none, .st (.t 125) (.t 124)⟩] [9, 118, 119, 120, 121, 122, 123, 124, 125])
 (.seq (.reg [] [⟨none, .bin 127 .eql (.t 58) (.c (.int .i64 7))⟩, ⟨none, .mv 126 (.t 127)⟩] [127])
 (.cond (.t 126) (.seq (.reg [] [⟨none, .mv 128 (.t 9)⟩, ⟨none, .nck 129 (.t 128)⟩, ⟨none, .ld 130 (.t 129)⟩, ⟨none, .bin 131 .eql (.t 130) (.c (.int .i64 0))⟩] [9, 128, 129, 130])
 (.cond (.t 131) (.reg [] [⟨none, .mv 132 (.t 8)⟩, ⟨none, .fa 133 (.t 7) 3⟩, ⟨none, .ld 134 (.t 133)⟩, ⟨none, .bin 135 .add (.t 132) (.t 134)⟩, ⟨none, .mv 8 (.t 135)⟩] [132, 133, 134, 135])
 .skip))
 (.seq (.reg [] [⟨none, .bin 137 .eql (.t 58) (.c (.int .i64 8))⟩, ⟨none, .mv 136 (.t 137)⟩] [58, 137])
 (.cond (.t 136) (.reg [] [⟨none, .fa 138 (.t 3) 2⟩, ⟨none, .ld 139 (.t 138)⟩, ⟨none, .fa 140 (.t 3) 0⟩, ⟨none, .ld 141 (.t 140)⟩, ⟨none, .bin 142 .add (.t 141) (.c (.int .i64 1))⟩, ⟨none, .fa 143 (.t 3) 0⟩, ⟨none, .ld 144 (.t 143)⟩, ⟨none, .fa 145 (.t 7) 2⟩, ⟨none, .ld 146 (.t 145)⟩, ⟨none, .bin 147 .add (.t 144) (.t 146)⟩, ⟨none, .fa 148 (.t 7) 3⟩, ⟨none, .ld 149 (.t 148)⟩, ⟨none, .bin 150 .sub (.t 149) (.c (.int .i64 1))⟩, ⟨none, .bld 151 [(.t 142), (.t 147), (.t 150)]⟩, ⟨none, .bsl 152 [(.t 151)]⟩, ⟨none, .app 153 (.t 139) (.t 152)⟩, ⟨none, .fa 154 (.t 3) 2⟩, ⟨none, .st (.t 154) (.t 153)⟩] [138, 139, 140, 141, 142, 143, 144, 145, 146, 147, 148, 149, 150, 151, 152, 153, 154])
 .skip)))))))))))))))))))))
 (.seq (.reg [] [⟨none, .mv 155 (.t 8)⟩, ⟨none, .fa 156 (.t 3) 0⟩, ⟨none, .st (.t 156) (.t 155)⟩] [8, 155, 156])
 (.seq (.reg [(1, 2), (2, 3)] [⟨none, .ld 157 (.t 3)⟩, ⟨none, .cal 158 f_vm_goes [(.t 157)] [7]⟩, ⟨none, .ld 159 (.t 7)⟩, ⟨none, .st (.t 4) (.t 158)⟩, ⟨none, .st (.t 5) (.t 159)⟩, ⟨none, .mv 6 (.c (.bool true))⟩] [3, 7, 157, 158, 159])
 .ret)))))))), [.cell 4, .cell 5, .t 6], none⟩
/- foliot/code.May -/
def k_code_May : KF := ⟨(.seq (.reg [] [⟨none, .box 1 (.t 0)⟩, ⟨none, .mv 2 (.c (.bool false))⟩] [0, 2])
 (.seq (.seq (.reg [] [⟨none, .fa 3 (.t 1) 0⟩, ⟨none, .ld 4 (.t 3)⟩] [3])
 (.blk 0 (.seq (.seq (.reg [] [⟨none, .bin 6 .eql (.t 4) (.c (.int .i64 0))⟩, ⟨none, .mv 5 (.t 6)⟩] [6])
 (.cond (.t 5) .skip
 (.reg [] [⟨none, .bin 7 .eql (.t 4) (.c (.int .i64 11))⟩, ⟨none, .mv 5 (.t 7)⟩] [7])))
 (.cond (.t 5) (.seq (.reg [] [⟨none, .fa 8 (.t 1) 1⟩, ⟨none, .ld 9 (.t 8)⟩, ⟨none, .bin 10 .eql (.t 9) (.c (.int .i64 0))⟩, ⟨none, .mv 11 (.t 10)⟩, ⟨some (11, true), .fa 12 (.t 1) 2⟩, ⟨some (11, true), .ld 13 (.t 12)⟩, ⟨some (11, true), .bin 14 .eql (.t 13) (.c (.int .i64 0))⟩, ⟨none, .pick 15 (.t 11) (.t 14) (.c (.bool false))⟩, ⟨none, .mv 16 (.t 15)⟩, ⟨some (16, true), .fa 17 (.t 1) 3⟩, ⟨some (16, true), .ld 18 (.t 17)⟩, ⟨some (16, true), .bin 19 .eql (.t 18) (.c (.int .i64 0))⟩, ⟨none, .pick 20 (.t 16) (.t 19) (.c (.bool false))⟩, ⟨none, .mv 2 (.t 20)⟩] [1, 8, 9, 10, 11, 12, 13, 14, 15, 16, 17, 18, 19, 20])
 .ret)
 (.seq (.reg [] [⟨none, .bin 22 .eql (.t 4) (.c (.int .i64 1))⟩, ⟨none, .mv 21 (.t 22)⟩] [22])
 (.cond (.t 21) (.seq (.reg [] [⟨none, .fa 23 (.t 1) 1⟩, ⟨none, .ld 24 (.t 23)⟩, ⟨none, .dat 25 f_code_memory [(.t 24)]⟩, ⟨none, .mv 26 (.t 25)⟩, ⟨some (26, true), .fa 27 (.t 1) 2⟩, ⟨some (26, true), .ld 28 (.t 27)⟩, ⟨some (26, true), .bin 29 .eql (.t 28) (.c (.int .i64 0))⟩, ⟨none, .pick 30 (.t 26) (.t 29) (.c (.bool false))⟩, ⟨none, .mv 31 (.t 30)⟩, ⟨some (31, true), .fa 32 (.t 1) 3⟩, ⟨some (31, true), .ld 33 (.t 32)⟩, ⟨some (31, true), .dat 34 f_code_within [(.t 33), (.c (.int .i64 (-2147483648))), (.c (.int .i64 2147483647))]⟩, ⟨none, .pick 35 (.t 31) (.t 34) (.c (.bool false))⟩, ⟨none, .mv 2 (.t 35)⟩] [1, 23, 24, 25, 26, 27, 28, 29, 30, 31, 32, 33, 34, 35])
 .ret)
 (.seq (.seq (.reg [] [⟨none, .bin 37 .eql (.t 4) (.c (.int .i64 2))⟩, ⟨none, .mv 36 (.t 37)⟩] [37])
 (.cond (.t 36) .skip
 (.seq (.reg [] [⟨none, .bin 38 .eql (.t 4) (.c (.int .i64 3))⟩, ⟨none, .mv 36 (.t 38)⟩] [38])
 (.cond (.t 36) .skip
 (.reg [] [⟨none, .bin 39 .eql (.t 4) (.c (.int .i64 4))⟩, ⟨none, .mv 36 (.t 39)⟩] [39])))))
 (.cond (.t 36) (.seq (.reg [] [⟨none, .fa 40 (.t 1) 1⟩, ⟨none, .ld 41 (.t 40)⟩, ⟨none, .dat 42 f_code_memory [(.t 41)]⟩, ⟨none, .mv 43 (.t 42)⟩, ⟨some (43, true), .fa 44 (.t 1) 2⟩, ⟨some (43, true), .ld 45 (.t 44)⟩, ⟨some (43, true), .dat 46 f_code_memory [(.t 45)]⟩, ⟨none, .pick 47 (.t 43) (.t 46) (.c (.bool false))⟩, ⟨none, .mv 48 (.t 47)⟩, ⟨some (48, true), .fa 49 (.t 1) 3⟩, ⟨some (48, true), .ld 50 (.t 49)⟩, ⟨some (48, true), .bin 51 .eql (.t 50) (.c (.int .i64 0))⟩, ⟨none, .pick 52 (.t 48) (.t 51) (.c (.bool false))⟩, ⟨none, .mv 2 (.t 52)⟩] [1, 40, 41, 42, 43, 44, 45, 46, 47, 48, 49, 50, 51, 52])
 .ret)
 (.seq (.reg [] [⟨none, .bin 54 .eql (.t 4) (.c (.int .i64 5))⟩, ⟨none, .mv 53 (.t 54)⟩] [54])
 (.cond (.t 53) (.seq (.reg [] [⟨none, .fa 55 (.t 1) 1⟩, ⟨none, .ld 56 (.t 55)⟩, ⟨none, .dat 57 f_code_memory [(.t 56)]⟩, ⟨none, .mv 58 (.t 57)⟩, ⟨some (58, true), .fa 59 (.t 1) 2⟩, ⟨some (58, true), .ld 60 (.t 59)⟩, ⟨some (58, true), .bin 61 .eql (.t 60) (.c (.int .i64 0))⟩, ⟨none, .pick 62 (.t 58) (.t 61) (.c (.bool false))⟩, ⟨none, .mv 63 (.t 62)⟩, ⟨some (63, true), .fa 64 (.t 1) 3⟩, ⟨some (63, true), .ld 65 (.t 64)⟩, ⟨some (63, true), .dat 66 f_code_within [(.t 65), (.c (.int .i64 (-63))), (.c (.int .i64 63))]⟩, ⟨none, .pick 67 (.t 63) (.t 66) (.c (.bool false))⟩, ⟨none, .mv 2 (.t 67)⟩] [1, 55, 56, 57, 58, 59, 60, 61, 62, 63, 64, 65, 66, 67])
 .ret)
 (.seq (.reg [] [⟨none, .bin 69 .eql (.t 4) (.c (.int .i64 6))⟩, ⟨none, .mv 68 (.t 69)⟩] [69])
 (.cond (.t 68) (.seq (.reg [] [⟨none, .fa 70 (.t 1) 1⟩, ⟨none, .ld 71 (.t 70)⟩, ⟨none, .dat 72 f_code_memory [(.t 71)]⟩, ⟨none, .mv 73 (.t 72)⟩, ⟨some (73, true), .fa 74 (.t 1) 2⟩, ⟨some (73, true), .ld 75 (.t 74)⟩, ⟨some (73, true), .bin 76 .eql (.t 75) (.c (.int .i64 0))⟩, ⟨none, .pick 77 (.t 73) (.t 76) (.c (.bool false))⟩, ⟨none, .mv 78 (.t 77)⟩, ⟨some (78, true), .fa 79 (.t 1) 3⟩, ⟨some (78, true), .ld 80 (.t 79)⟩, ⟨some (78, true), .dat 81 f_code_within [(.t 80), (.c (.int .i64 1)), (.c (.int .i64 64))]⟩, ⟨none, .pick 82 (.t 78) (.t 81) (.c (.bool false))⟩, ⟨none, .mv 2 (.t 82)⟩] [1, 70, 71, 72, 73, 74, 75, 76, 77, 78, 79, 80, 81, 82])
 .ret)
 (.seq (.reg [] [⟨none, .bin 84 .eql (.t 4) (.c (.int .i64 7))⟩, ⟨none, .mv 83 (.t 84)⟩] [84])
 (.cond (.t 83) (.seq (.reg [] [⟨none, .fa 85 (.t 1) 1⟩, ⟨none, .ld 86 (.t 85)⟩, ⟨none, .dat 87 f_code_memory [(.t 86)]⟩, ⟨none, .mv 88 (.t 87)⟩, ⟨some (88, true), .fa 89 (.t 1) 2⟩, ⟨some (88, true), .ld 90 (.t 89)⟩, ⟨some (88, true), .bin 91 .eql (.t 90) (.c (.int .i64 0))⟩, ⟨none, .pick 92 (.t 88) (.t 91) (.c (.bool false))⟩, ⟨none, .mv 93 (.t 92)⟩, ⟨some (93, true), .fa 94 (.t 1) 3⟩, ⟨some (93, true), .ld 95 (.t 94)⟩, ⟨some (93, true), .dat 96 f_code_within [(.t 95), (.c (.int .i64 1)), (.c (.int .i64 24))]⟩, ⟨none, .pick 97 (.t 93) (.t 96) (.c (.bool false))⟩, ⟨none, .mv 2 (.t 97)⟩] [1, 85, 86, 87, 88, 89, 90, 91, 92, 93, 94, 95, 96, 97])
 .ret)
 (.seq (.reg [] [⟨none, .bin 99 .eql (.t 4) (.c (.int .i64 8))⟩, ⟨none, .mv 98 (.t 99)⟩] [99])
 (.cond (.t 98) (.seq (.reg [] [⟨none, .fa 100 (.t 1) 1⟩, ⟨none, .ld 101 (.t 100)⟩, ⟨none, .bin 102 .eql (.t 101) (.c (.int .i64 0))⟩, ⟨none, .mv 103 (.t 102)⟩, ⟨some (103, true), .fa 104 (.t 1) 2⟩, ⟨some (103, true), .ld 105 (.t 104)⟩, ⟨some (103, true), .dat 106 f_code_within [(.t 105), (.c (.int .i64 1)), (.c (.int .i64 24))]⟩, ⟨none, .pick 107 (.t 103) (.t 106) (.c (.bool false))⟩, ⟨none, .mv 108 (.t 107)⟩, ⟨some (108, true), .fa 109 (.t 1) 3⟩, ⟨some (108, true), .ld 110 (.t 109)⟩, ⟨some (108, true), .dat 111 f_code_within [(.t 110), (.c (.int .i64 1)), (.c (.int .i64 20))]⟩, ⟨none, .pick 112 (.t 108) (.t 111) (.c (.bool false))⟩, ⟨none, .mv 2 (.t 112)⟩] [1, 100, 101, 102, 103, 104, 105, 106, 107, 108, 109, 110, 111, 112])
 .ret)
 (.seq (.seq (.reg [] [⟨none, .bin 114 .eql (.t 4) (.c (.int .i64 9))⟩, ⟨none, .mv 113 (.t 114)⟩] [114])
 (.cond (.t 113) .skip
 (.reg [] [⟨none, .bin 115 .eql (.t 4) (.c (.int .i64 10))⟩, ⟨none, .mv 113 (.t 115)⟩] [4, 115])))
 (.cond (.t 113) (.seq (.reg [] [⟨none, .fa 116 (.t 1) 1⟩, ⟨none, .ld 117 (.t 116)⟩, ⟨none, .dat 118 f_code_within [(.t 117), (.c (.int .i64 0)), (.c (.int .i64 3))]⟩, ⟨none, .mv 119 (.t 118)⟩, ⟨some (119, true), .fa 120 (.t 1) 2⟩, ⟨some (119, true), .ld 121 (.t 120)⟩, ⟨some (119, true), .bin 122 .eql (.t 121) (.c (.int .i64 0))⟩, ⟨none, .pick 123 (.t 119) (.t 122) (.c (.bool false))⟩, ⟨none, .mv 124 (.t 123)⟩, ⟨some (124, true), .fa 125 (.t 1) 3⟩, ⟨some (124, true), .ld 126 (.t 125)⟩, ⟨some (124, true), .bin 127 .eql (.t 126) (.c (.int .i64 0))⟩, ⟨none, .pick 128 (.t 124) (.t 127) (.c (.bool false))⟩, ⟨none, .mv 2 (.t 128)⟩] [1, 116, 117, 118, 119, 120, 121, 122, 123, 124, 125, 126, 127, 128])
 .ret)
 .skip))))))))))))))))))
 (.seq (.reg [] [⟨none, .mv 2 (.c (.bool false))⟩] [])
 .ret))), [.t 2], none⟩
/- foliot/code.memory -/
def k_code_memory : KF := ⟨(.seq (.reg [] [⟨none, .mv 2 (.c (.bool false))⟩] [2])
 (.seq (.reg [] [⟨none, .mv 3 (.t 0)⟩, ⟨none, .bin 4 .geq (.t 3) (.c (.int .i64 0))⟩, ⟨none, .mv 5 (.t 4)⟩, ⟨some (5, true), .mv 6 (.t 0)⟩, ⟨some (5, true), .bin 7 .lss (.t 6) (.c (.int .i64 8))⟩, ⟨none, .pick 8 (.t 5) (.t 7) (.c (.bool false))⟩, ⟨none, .mv 2 (.t 8)⟩] [0, 3, 4, 5, 6, 7, 8])
 .ret)), [.t 2], none⟩
/- foliot/code.within -/
def k_code_within : KF := ⟨(.seq (.reg [] [⟨none, .mv 6 (.c (.bool false))⟩] [6])
 (.seq (.reg [] [⟨none, .mv 7 (.t 0)⟩, ⟨none, .mv 8 (.t 1)⟩, ⟨none, .bin 9 .geq (.t 7) (.t 8)⟩, ⟨none, .mv 10 (.t 9)⟩, ⟨some (10, true), .mv 11 (.t 0)⟩, ⟨some (10, true), .mv 12 (.t 2)⟩, ⟨some (10, true), .bin 13 .leq (.t 11) (.t 12)⟩, ⟨none, .pick 14 (.t 10) (.t 13) (.c (.bool false))⟩, ⟨none, .mv 6 (.t 14)⟩] [0, 1, 2, 7, 8, 9, 10, 11, 12, 13, 14])
 .ret)), [.t 6], none⟩
/- foliot/vm.twin -/
def k_vm_twin : KF := ⟨(.seq (.reg [] [⟨none, .box 1 (.t 0)⟩, ⟨none, .alc 2 (.d (.agg [(.int .i64 0), (.agg [(.int .i64 0), (.int .i64 0), (.int .i64 0), (.int .i64 0), (.int .i64 0), (.int .i64 0), (.int .i64 0), (.int .i64 0)]), (.sl true []), (.bool false)]))⟩] [0])
 (.seq (.reg [] [⟨none, .fa 3 (.t 1) 2⟩, ⟨none, .ld 4 (.t 3)⟩, ⟨none, .dat 5 f_slices_Clone_api_Rep2_api_Rep2 [(.t 4)]⟩, ⟨none, .fa 6 (.t 1) 2⟩, ⟨none, .st (.t 6) (.t 5)⟩] [3, 4, 5, 6])
 (.seq (.reg [] [⟨none, .ld 7 (.t 1)⟩, ⟨none, .st (.t 2) (.t 7)⟩] [1, 7])
 .ret))), [.cell 2], none⟩
/- foliot/vm.Shift -/
def k_vm_Shift : KF := ⟨(.seq (.reg [] [⟨none, .mv 4 (.c (.int .i64 0))⟩] [4])
 (.seq (.blk 0 (.seq (.reg [] [⟨none, .mv 6 (.t 1)⟩, ⟨none, .bin 7 .leq (.t 6) (.c (.int .i64 (-64)))⟩, ⟨none, .mv 8 (.t 7)⟩, ⟨some (8, false), .mv 9 (.t 1)⟩, ⟨some (8, false), .bin 10 .geq (.t 9) (.c (.int .i64 64))⟩, ⟨none, .pick 11 (.t 8) (.c (.bool true)) (.t 10)⟩, ⟨none, .mv 5 (.t 11)⟩] [6, 7, 8, 9, 10, 11])
 (.cond (.t 5) (.seq (.reg [] [⟨none, .mv 12 (.t 0)⟩, ⟨none, .mv 4 (.t 12)⟩] [0, 12])
 .ret)
 (.seq (.reg [] [⟨none, .mv 14 (.t 1)⟩, ⟨none, .bin 15 .lss (.t 14) (.c (.int .i64 0))⟩, ⟨none, .mv 13 (.t 15)⟩] [14, 15])
 (.cond (.t 13) (.seq (.reg [] [⟨none, .mv 16 (.t 0)⟩, ⟨none, .mv 17 (.t 1)⟩, ⟨none, .un 18 .neg (.t 17)⟩, ⟨none, .bin 19 .shr (.t 16) (.t 18)⟩, ⟨none, .mv 4 (.t 19)⟩] [0, 1, 16, 17, 18, 19])
 .ret)
 .skip)))))
 (.seq (.reg [] [⟨none, .mv 20 (.t 0)⟩, ⟨none, .cv 21 .u64 (.t 20)⟩, ⟨none, .mv 22 (.t 1)⟩, ⟨none, .bin 23 .shl (.t 21) (.t 22)⟩, ⟨none, .cv 24 .i64 (.t 23)⟩, ⟨none, .mv 4 (.t 24)⟩] [0, 1, 20, 21, 22, 23, 24])
 .ret))), [.t 4], none⟩
/- foliot/vm.Narrow -/
def k_vm_Narrow : KF := ⟨(.seq (.reg [] [⟨none, .mv 4 (.c (.int .i64 0))⟩] [4])
 (.seq (.seq (.reg [] [⟨none, .mv 5 (.t 1)⟩, ⟨none, .bin 6 .lss (.t 5) (.c (.int .i64 1))⟩, ⟨none, .mv 7 (.t 6)⟩, ⟨some (7, false), .mv 8 (.t 1)⟩, ⟨some (7, false), .bin 9 .gtr (.t 8) (.c (.int .i64 64))⟩, ⟨none, .pick 10 (.t 7) (.c (.bool true)) (.t 9)⟩] [5, 6, 7, 8, 9])
 (.cond (.t 10) (.seq (.reg [] [⟨none, .mv 11 (.t 0)⟩, ⟨none, .mv 4 (.t 11)⟩] [0, 11])
 .ret)
 .skip))
 (.seq (.reg [] [⟨none, .mv 12 (.t 0)⟩, ⟨none, .mv 13 (.t 1)⟩, ⟨none, .bin 14 .sub (.c (.int .i64 64)) (.t 13)⟩, ⟨none, .bin 15 .shl (.t 12) (.t 14)⟩, ⟨none, .mv 16 (.t 1)⟩, ⟨none, .bin 17 .sub (.c (.int .i64 64)) (.t 16)⟩, ⟨none, .bin 18 .shr (.t 15) (.t 17)⟩, ⟨none, .mv 4 (.t 18)⟩] [0, 1, 12, 13, 14, 15, 16, 17, 18])
 .ret))), [.t 4], none⟩
/- foliot/vm.goes -/
def k_vm_goes_L0b : K := (.seq (.seq (.reg [] [⟨none, .mv 8 (.t 3)⟩, ⟨none, .bin 9 .gtr (.t 8) (.c (.int .i64 0))⟩, ⟨none, .mv 10 (.t 9)⟩, ⟨some (10, true), .fa 11 (.t 1) 2⟩, ⟨some (10, true), .ld 12 (.t 11)⟩, ⟨some (10, true), .mv 13 (.t 3)⟩, ⟨some (10, true), .bin 14 .sub (.t 13) (.c (.int .i64 1))⟩, ⟨some (10, true), .ia 15 (.t 12) (.t 14)⟩, ⟨some (10, true), .fa 16 (.t 15) 1⟩, ⟨some (10, true), .ld 17 (.t 16)⟩, ⟨some (10, true), .fa 18 (.t 1) 0⟩, ⟨some (10, true), .ld 19 (.t 18)⟩, ⟨some (10, true), .bin 20 .lss (.t 17) (.t 19)⟩, ⟨none, .pick 21 (.t 10) (.t 20) (.c (.bool false))⟩] [8, 9, 10, 11, 12, 13, 14, 15, 16, 17, 18, 19, 20])
 (.cond (.t 21) .skip
 (.ext 0)))
 (.seq (.blk 1 (.seq (.seq (.reg [] [⟨none, .fa 25 (.t 1) 2⟩, ⟨none, .ld 26 (.t 25)⟩, ⟨none, .mv 27 (.t 3)⟩, ⟨none, .bin 28 .sub (.t 27) (.c (.int .i64 1))⟩, ⟨none, .ia 29 (.t 26) (.t 28)⟩, ⟨none, .mv 4 (.t 29)⟩] [25, 26, 27, 28, 29])
 (.seq (.reg [] [⟨none, .mv 30 (.t 4)⟩, ⟨none, .nck 31 (.t 30)⟩, ⟨none, .fa 32 (.t 31) 2⟩, ⟨none, .ld 33 (.t 32)⟩, ⟨none, .bin 34 .gtr (.t 33) (.c (.int .i64 0))⟩] [30, 31, 32, 33])
 (.cond (.t 34) (.seq (.reg [] [⟨none, .mv 35 (.t 4)⟩, ⟨none, .nck 36 (.t 35)⟩, ⟨none, .fa 37 (.t 36) 0⟩, ⟨none, .ld 38 (.t 37)⟩, ⟨none, .fa 39 (.t 1) 0⟩, ⟨none, .st (.t 39) (.t 38)⟩] [35, 36, 37, 38, 39])
 (.seq (.reg [] [⟨none, .mv 40 (.t 4)⟩, ⟨none, .nck 41 (.t 40)⟩, ⟨none, .fa 42 (.t 41) 2⟩, ⟨none, .ld 43 (.t 42)⟩, ⟨none, .bin 44 .sub (.t 43) (.c (.int .i64 1))⟩, ⟨none, .nck 45 (.t 40)⟩, ⟨none, .fa 46 (.t 45) 2⟩, ⟨none, .st (.t 46) (.t 44)⟩] [4, 40, 41, 42, 43, 44, 45, 46])
 (.seq (.reg [] [⟨none, .ld 47 (.t 1)⟩, ⟨none, .st (.t 2) (.t 47)⟩] [1, 47])
 .ret)))
 .skip)))
 (.reg [] [⟨none, .fa 48 (.t 1) 2⟩, ⟨none, .ld 49 (.t 48)⟩, ⟨none, .mv 50 (.t 3)⟩, ⟨none, .bin 51 .sub (.t 50) (.c (.int .i64 1))⟩, ⟨none, .slc 52 (.t 49) none (some (.t 51))⟩, ⟨none, .fa 53 (.t 1) 2⟩, ⟨none, .st (.t 53) (.t 52)⟩] [3, 48, 49, 50, 51, 52, 53])))
 (.reg [] [⟨none, .fa 22 (.t 1) 2⟩, ⟨none, .ld 23 (.t 22)⟩, ⟨none, .len 24 (.t 23)⟩, ⟨none, .mv 3 (.t 24)⟩] [22, 23, 24])))
def k_vm_goes_L0 : K := k_vm_goes_L0b
def k_vm_goes : KF := ⟨(.seq (.reg [] [⟨none, .box 1 (.t 0)⟩, ⟨none, .alc 2 (.d (.agg [(.int .i64 0), (.agg [(.int .i64 0), (.int .i64 0), (.int .i64 0), (.int .i64 0), (.int .i64 0), (.int .i64 0), (.int .i64 0), (.int .i64 0)]), (.sl true []), (.bool false)]))⟩] [0])
 (.seq (.seq (.reg [] [⟨none, .fa 5 (.t 1) 2⟩, ⟨none, .ld 6 (.t 5)⟩, ⟨none, .len 7 (.t 6)⟩, ⟨none, .mv 3 (.t 7)⟩] [5, 6, 7])
 (.blk 0 (.loop [1, 2, 3] k_vm_goes_L0)))
 (.seq (.reg [] [⟨none, .ld 54 (.t 1)⟩, ⟨none, .st (.t 2) (.t 54)⟩] [1, 54])
 .ret))), [.cell 2], none⟩
/- slices.Delete[[]int,int] -/
def k_slices_Delete_int_int : KF := ⟨.skip, [], some .del⟩
/- foliot/job.Opt -/
def k_job_Opt : KF := ⟨(.seq (.reg [] [⟨none, .box 1 (.t 0)⟩, ⟨none, .alc 2 (.d (.agg [(.int .i64 0), (.int .i64 0), (.int .i64 0), (.int .i64 0), (.agg [(.int .i64 0), (.agg [(.int .i64 0), (.int .i64 0), (.int .i64 0), (.int .i64 0), (.int .i64 0), (.int .i64 0), (.int .i64 0), (.int .i64 0)]), (.sl true []), (.bool false)]), (.agg [(.int .i64 0), (.agg [(.int .i64 0), (.int .i64 0), (.int .i64 0), (.int .i64 0), (.int .i64 0), (.int .i64 0), (.int .i64 0), (.int .i64 0)]), (.sl true []), (.bool false)]), (.sl true []), (.bool false)]))⟩] [0])
 (.seq (.reg [] [⟨none, .ld 4 (.t 1)⟩, ⟨none, .cal 5 f_job_twin [(.t 4)] []⟩, ⟨none, .alc 3 (.d (.agg [(.int .i64 0), (.int .i64 0), (.int .i64 0), (.int .i64 0), (.agg [(.int .i64 0), (.agg [(.int .i64 0), (.int .i64 0), (.int .i64 0), (.int .i64 0), (.int .i64 0), (.int .i64 0), (.int .i64 0), (.int .i64 0)]), (.sl true []), (.bool false)]), (.agg [(.int .i64 0), (.agg [(.int .i64 0), (.int .i64 0), (.int .i64 0), (.int .i64 0), (.int .i64 0), (.int .i64 0), (.int .i64 0), (.int .i64 0)]), (.sl true []), (.bool false)]), (.sl true []), (.bool false)]))⟩, ⟨none, .st (.t 3) (.t 5)⟩] [4, 5])
 (.seq (.reg [(4, 7), (4, 8)] [⟨none, .fa 6 (.t 1) 4⟩, ⟨none, .fa 7 (.t 6) 1⟩, ⟨none, .ia 8 (.t 7) (.c (.int .i64 0))⟩, ⟨none, .ld 9 (.t 8)⟩, ⟨none, .dat 10 f_vm_New [(.t 9)]⟩, ⟨none, .fa 11 (.t 1) 4⟩, ⟨none, .fa 12 (.t 11) 1⟩, ⟨none, .ia 13 (.t 12) (.c (.int .i64 0))⟩, ⟨none, .ld 14 (.t 13)⟩, ⟨none, .dat 15 f_vm_New [(.t 14)]⟩, ⟨none, .fa 16 (.t 3) 3⟩, ⟨none, .st (.t 16) (.c (.int .i64 2))⟩, ⟨none, .fa 17 (.t 3) 4⟩, ⟨none, .st (.t 17) (.t 10)⟩, ⟨none, .fa 18 (.t 3) 5⟩, ⟨none, .st (.t 18) (.t 15)⟩, ⟨none, .fa 19 (.t 3) 6⟩, ⟨none, .st (.t 19) (.c (.d (.sl true [])))⟩, ⟨none, .fa 20 (.t 3) 7⟩, ⟨none, .st (.t 20) (.c (.bool false))⟩] [1, 6, 7, 8, 9, 10, 11, 12, 13, 14, 15, 16, 17, 18, 19, 20])
 (.seq (.reg [] [⟨none, .ld 21 (.t 3)⟩, ⟨none, .st (.t 2) (.t 21)⟩] [3, 21])
 .ret)))), [.cell 2], none⟩
def kl : List (Nat × KF) := [(3, k_law22_FaultTwice), (6, k_law22_begun), (9, k_ref19_NewJob), (24, k_ref1_NewMachine), (11, k_fault_Hit), (17, k_job_Back), (35, k_job_twin), (36, k_job_machine), (39, k_slices_Clone_api_Rep2_api_Rep2), (41, k_slices_Clone_int_int), (34, k_vm_New), (27, k_sema_All), (47, k_slices_Clone_api_Sema_api_Sema), (48, k_sema_holds), (62, k_sema_has), (21, k_fault_Loses), (42, k_fault_Loses_1), (40, k_slices_DeleteFunc_int_int), (58, k_slices_IndexFunc_int_int), (7, k_play_Made), (8, k_play_Picks_Task), (22, k_play_Picks_Code), (23, k_play_Picks_Num), (43, k_play_Picks_some), (59, k_play_Picks_plain), (10, k_ref19_Go), (26, k_ref19_Code), (25, k_ref1_Step), (44, k_ref1_MayInst), (60, k_ref1_places_has), (45, k_ref1_Shift), (46, k_ref1_Narrow), (61, k_ref1_bit), (12, k_ref11_SameSemas), (13, k_ref19_SameJob), (20, k_ref1_SameMachine), (28, k_ref11_SameInts), (5, k_law19_JobHeld), (14, k_law19_begun), (16, k_job_New), (18, k_job_Go), (30, k_job_Code), (49, k_slices_Clone_api_Inst_api_Inst), (37, k_vm_Step), (53, k_code_May), (63, k_code_memory), (64, k_code_within), (54, k_vm_twin), (55, k_vm_Shift), (56, k_vm_Narrow), (57, k_vm_goes), (38, k_slices_Delete_int_int), (29, k_job_Opt)]
def kp : Nat → Option KF := fun n => List.lookup n kl
theorem kp_law22_FaultTwice : kp f_law22_FaultTwice = some k_law22_FaultTwice := rfl
theorem kp_law22_begun : kp f_law22_begun = some k_law22_begun := rfl
theorem kp_ref19_NewJob : kp f_ref19_NewJob = some k_ref19_NewJob := rfl
theorem kp_ref1_NewMachine : kp f_ref1_NewMachine = some k_ref1_NewMachine := rfl
theorem kp_fault_Hit : kp f_fault_Hit = some k_fault_Hit := rfl
theorem kp_job_Back : kp f_job_Back = some k_job_Back := rfl
theorem kp_job_twin : kp f_job_twin = some k_job_twin := rfl
theorem kp_job_machine : kp f_job_machine = some k_job_machine := rfl
theorem kp_slices_Clone_api_Rep2_api_Rep2 : kp f_slices_Clone_api_Rep2_api_Rep2 = some k_slices_Clone_api_Rep2_api_Rep2 := rfl
theorem kp_slices_Clone_int_int : kp f_slices_Clone_int_int = some k_slices_Clone_int_int := rfl
theorem kp_vm_New : kp f_vm_New = some k_vm_New := rfl
theorem kp_sema_All : kp f_sema_All = some k_sema_All := rfl
theorem kp_slices_Clone_api_Sema_api_Sema : kp f_slices_Clone_api_Sema_api_Sema = some k_slices_Clone_api_Sema_api_Sema := rfl
theorem kp_sema_holds : kp f_sema_holds = some k_sema_holds := rfl
theorem kp_sema_has : kp f_sema_has = some k_sema_has := rfl
theorem kp_fault_Loses : kp f_fault_Loses = some k_fault_Loses := rfl
theorem kp_fault_Loses_1 : kp f_fault_Loses_1 = some k_fault_Loses_1 := rfl
theorem kp_slices_DeleteFunc_int_int : kp f_slices_DeleteFunc_int_int = some k_slices_DeleteFunc_int_int := rfl
theorem kp_slices_IndexFunc_int_int : kp f_slices_IndexFunc_int_int = some k_slices_IndexFunc_int_int := rfl
theorem kp_play_Made : kp f_play_Made = some k_play_Made := rfl
theorem kp_play_Picks_Task : kp f_play_Picks_Task = some k_play_Picks_Task := rfl
theorem kp_play_Picks_Code : kp f_play_Picks_Code = some k_play_Picks_Code := rfl
theorem kp_play_Picks_Num : kp f_play_Picks_Num = some k_play_Picks_Num := rfl
theorem kp_play_Picks_some : kp f_play_Picks_some = some k_play_Picks_some := rfl
theorem kp_play_Picks_plain : kp f_play_Picks_plain = some k_play_Picks_plain := rfl
theorem kp_ref19_Go : kp f_ref19_Go = some k_ref19_Go := rfl
theorem kp_ref19_Code : kp f_ref19_Code = some k_ref19_Code := rfl
theorem kp_ref1_Step : kp f_ref1_Step = some k_ref1_Step := rfl
theorem kp_ref1_MayInst : kp f_ref1_MayInst = some k_ref1_MayInst := rfl
theorem kp_ref1_places_has : kp f_ref1_places_has = some k_ref1_places_has := rfl
theorem kp_ref1_Shift : kp f_ref1_Shift = some k_ref1_Shift := rfl
theorem kp_ref1_Narrow : kp f_ref1_Narrow = some k_ref1_Narrow := rfl
theorem kp_ref1_bit : kp f_ref1_bit = some k_ref1_bit := rfl
theorem kp_ref11_SameSemas : kp f_ref11_SameSemas = some k_ref11_SameSemas := rfl
theorem kp_ref19_SameJob : kp f_ref19_SameJob = some k_ref19_SameJob := rfl
theorem kp_ref1_SameMachine : kp f_ref1_SameMachine = some k_ref1_SameMachine := rfl
theorem kp_ref11_SameInts : kp f_ref11_SameInts = some k_ref11_SameInts := rfl
theorem kp_law19_JobHeld : kp f_law19_JobHeld = some k_law19_JobHeld := rfl
theorem kp_law19_begun : kp f_law19_begun = some k_law19_begun := rfl
theorem kp_job_New : kp f_job_New = some k_job_New := rfl
theorem kp_job_Go : kp f_job_Go = some k_job_Go := rfl
theorem kp_job_Code : kp f_job_Code = some k_job_Code := rfl
theorem kp_slices_Clone_api_Inst_api_Inst : kp f_slices_Clone_api_Inst_api_Inst = some k_slices_Clone_api_Inst_api_Inst := rfl
theorem kp_vm_Step : kp f_vm_Step = some k_vm_Step := rfl
theorem kp_code_May : kp f_code_May = some k_code_May := rfl
theorem kp_code_memory : kp f_code_memory = some k_code_memory := rfl
theorem kp_code_within : kp f_code_within = some k_code_within := rfl
theorem kp_vm_twin : kp f_vm_twin = some k_vm_twin := rfl
theorem kp_vm_Shift : kp f_vm_Shift = some k_vm_Shift := rfl
theorem kp_vm_Narrow : kp f_vm_Narrow = some k_vm_Narrow := rfl
theorem kp_vm_goes : kp f_vm_goes = some k_vm_goes := rfl
theorem kp_slices_Delete_int_int : kp f_slices_Delete_int_int = some k_slices_Delete_int_int := rfl
theorem kp_job_Opt : kp f_job_Opt = some k_job_Opt := rfl
def natl : List (Nat × NK) := [(38, .del)]
theorem c_law22_FaultTwice_L0 (s : St) : run kp (.code k_law22_FaultTwice_L0 s) = run kp (.code k_law22_FaultTwice_L0b s) := rfl
theorem c_sema_All_L0 (s : St) : run kp (.code k_sema_All_L0 s) = run kp (.code k_sema_All_L0b s) := rfl
theorem c_slices_DeleteFunc_int_int_L0 (s : St) : run kp (.code k_slices_DeleteFunc_int_int_L0 s) = run kp (.code k_slices_DeleteFunc_int_int_L0b s) := rfl
theorem c_slices_IndexFunc_int_int_L0 (s : St) : run kp (.code k_slices_IndexFunc_int_int_L0 s) = run kp (.code k_slices_IndexFunc_int_int_L0b s) := rfl
theorem c_play_Picks_Code_L0 (s : St) : run kp (.code k_play_Picks_Code_L0 s) = run kp (.code k_play_Picks_Code_L0b s) := rfl
theorem c_play_Picks_some_L0 (s : St) : run kp (.code k_play_Picks_some_L0 s) = run kp (.code k_play_Picks_some_L0b s) := rfl
theorem c_ref19_Go_L0 (s : St) : run kp (.code k_ref19_Go_L0 s) = run kp (.code k_ref19_Go_L0b s) := rfl
theorem c_ref1_Step_L0 (s : St) : run kp (.code k_ref1_Step_L0 s) = run kp (.code k_ref1_Step_L0b s) := rfl
theorem c_ref1_Shift_L0 (s : St) : run kp (.code k_ref1_Shift_L0 s) = run kp (.code k_ref1_Shift_L0b s) := rfl
theorem c_ref1_Shift_L1 (s : St) : run kp (.code k_ref1_Shift_L1 s) = run kp (.code k_ref1_Shift_L1b s) := rfl
theorem c_ref1_bit_L0 (s : St) : run kp (.code k_ref1_bit_L0 s) = run kp (.code k_ref1_bit_L0b s) := rfl
theorem c_ref11_SameSemas_L0 (s : St) : run kp (.code k_ref11_SameSemas_L0 s) = run kp (.code k_ref11_SameSemas_L0b s) := rfl
theorem c_ref1_SameMachine_L0 (s : St) : run kp (.code k_ref1_SameMachine_L0 s) = run kp (.code k_ref1_SameMachine_L0b s) := rfl
theorem c_ref11_SameInts_L0 (s : St) : run kp (.code k_ref11_SameInts_L0 s) = run kp (.code k_ref11_SameInts_L0b s) := rfl
theorem c_law19_JobHeld_L0 (s : St) : run kp (.code k_law19_JobHeld_L0 s) = run kp (.code k_law19_JobHeld_L0b s) := rfl
theorem c_law19_JobHeld_L1 (s : St) : run kp (.code k_law19_JobHeld_L1 s) = run kp (.code k_law19_JobHeld_L1b s) := rfl
theorem c_job_Go_L0 (s : St) : run kp (.code k_job_Go_L0 s) = run kp (.code k_job_Go_L0b s) := rfl
theorem c_vm_goes_L0 (s : St) : run kp (.code k_vm_goes_L0 s) = run kp (.code k_vm_goes_L0b s) := rfl
end Go.Cd
