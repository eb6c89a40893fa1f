/- The code of the functions, as the evaluator reads it; printed by a program of this session. No conditions. -/
import Derived.Test.YtgjeondicdipaaaFwA
set_option linter.unusedVariables false
set_option linter.unusedSimpArgs false
set_option maxRecDepth 100000
namespace Go.Cd
open Go.Fw
abbrev gm (d x : Nat) : GI := ⟨none, .mv d (.t x)⟩
abbrev gl (d x : Nat) : GI := ⟨none, .ld d (.t x)⟩
abbrev gk (d x : Nat) : GI := ⟨none, .len d (.t x)⟩
abbrev gc (d x : Nat) : GI := ⟨none, .nck d (.t x)⟩
abbrev gf (d x i : Nat) : GI := ⟨none, .fa d (.t x) i⟩
abbrev ge (d x i : Nat) : GI := ⟨none, .ex d (.t x) i⟩
abbrev ga (d x y : Nat) : GI := ⟨none, .ia d (.t x) (.t y)⟩
abbrev gs (x y : Nat) : GI := ⟨none, .st (.t x) (.t y)⟩
abbrev gp (d x y : Nat) : GI := ⟨none, .app d (.t x) (.t y)⟩
abbrev gn (i : KI) : GI := ⟨none, i⟩
abbrev hm (b d x : Nat) : GI := ⟨some (b, true), .mv d (.t x)⟩
abbrev jm (b d x : Nat) : GI := ⟨some (b, false), .mv d (.t x)⟩
abbrev gh (b : Nat) (i : KI) : GI := ⟨some (b, true), i⟩
abbrev gj (b : Nat) (i : KI) : GI := ⟨some (b, false), i⟩
abbrev ci (n : Int) : Opd := .c (.int .i64 n)
attribute [simp] gm gl gk gc gf ge ga gs gp gn hm jm gh gj ci
def f_law22_FaultTwice : Nat := 3
def f_law22_begun : Nat := 6
def f_ref19_NewJob : Nat := 9
def f_ref1_NewMachine : Nat := 24
def f_fault_Hit : Nat := 11
def f_job_Back : Nat := 17
def f_job_twin : Nat := 35
def f_job_machine : Nat := 36
def f_slices_Clone_api_Rep2_api_Rep2 : Nat := 39
def f_slices_Clone_int_int : Nat := 41
def f_vm_New : Nat := 34
def f_sema_All : Nat := 27
def f_slices_Clone_api_Sema_api_Sema : Nat := 47
def f_sema_holds : Nat := 48
def f_sema_has : Nat := 62
def f_fault_Loses : Nat := 21
def f_fault_Loses_1 : Nat := 42
def f_slices_DeleteFunc_int_int : Nat := 40
def f_slices_IndexFunc_int_int : Nat := 58
def f_play_Made : Nat := 7
def f_play_Picks_Task : Nat := 8
def f_play_Picks_Code : Nat := 22
def f_play_Picks_Num : Nat := 23
def f_play_Picks_some : Nat := 43
def f_play_Picks_plain : Nat := 59
def f_ref19_Go : Nat := 10
def f_ref19_Code : Nat := 26
def f_ref1_Step : Nat := 25
def f_ref1_MayInst : Nat := 44
def f_ref1_places_has : Nat := 60
def f_ref1_Shift : Nat := 45
def f_ref1_Narrow : Nat := 46
def f_ref1_bit : Nat := 61
def f_ref11_SameSemas : Nat := 12
def f_ref19_SameJob : Nat := 13
def f_ref1_SameMachine : Nat := 20
def f_ref11_SameInts : Nat := 28
def f_law19_JobLost : Nat := 4
def f_law19_begun : Nat := 14
def f_job_New : Nat := 16
def f_job_Go : Nat := 18
def f_job_Code : Nat := 30
def f_slices_Clone_api_Inst_api_Inst : Nat := 49
def f_vm_Step : Nat := 37
def f_code_May : Nat := 53
def f_code_memory : Nat := 63
def f_code_within : Nat := 64
def f_vm_twin : Nat := 54
def f_vm_Shift : Nat := 55
def f_vm_Narrow : Nat := 56
def f_vm_goes : Nat := 57
def f_slices_Delete_int_int : Nat := 38
def f_job_Opt : Nat := 29
def f_ref1_Cost : Nat := 15
def f_ref1_MayCode : Nat := 31
def f_ref1_areas : Nat := 50
def f_ref1_area_has : Nat := 51
def f_ref1_Pairs : Nat := 33
def f_ref1_held : Nat := 52
def f_ref1_times : Nat := 32
def f_ref1_Run : Nat := 19
def f_law19_JobHeld : Nat := 5
/- foliot/foliotlaw22.FaultTwice -/
def k_law22_FaultTwice_L0b : K := (.seq (.seq (.reg [] [gm 26 9, gm 27 2, gn (.bin 28 .rem (.t 27) (.c (.int .u8 40))), gn (.cv 29 .i64 (.t 28)), gn (.bin 30 .lss (.t 26) (.t 29)), gm 31 30, gh 31 (.fa 32 (.t 8) 4), gh 31 (.fa 33 (.t 32) 3), gh 31 (.ld 34 (.t 33)), gh 31 (.un 35 .not (.t 34)), gn (.pick 36 (.t 31) (.t 35) (.c (.bool false)))] [26,27,28,29,30,31,32,33,34,35])
 (.cond (.t 36) .skip
 (.ext 0)))
 (.seq (.blk 1 (.reg [] [gl 40 7, gl 41 8, gn (.das 42 f_ref19_Go [(.t 40), (.t 41)]), gm 39 42, ge 43 39 0, ge 44 39 1, ge 45 39 2, gs 8 43] [39,40,41,42,43,44,45]))
 (.reg [] [gm 37 9, gn (.bin 38 .add (.t 37) (ci 1)), gm 9 38] [37,38])))
def k_law22_FaultTwice_L0 : K := k_law22_FaultTwice_L0b
def k_law22_FaultTwice : KF := ⟨(.seq (.reg [] [gn (.mv 6 (.c (.bool false)))] [6])
 (.seq (.seq (.reg [] [gn (.dat 16 f_law22_begun []), gn (.un 17 .not (.t 16))] [16])
 (.cond (.t 17) (.seq (.reg [] [gn (.mv 6 (.c (.bool false)))] [])
 .ret)
 .skip))
 (.seq (.seq (.reg [] [gm 18 0, gk 19 18, gn (.bin 20 .gtr (.t 19) (ci 150))] [18,19])
 (.cond (.t 20) (.seq (.reg [] [gn (.mv 6 (.c (.bool true)))] [])
 .ret)
 .skip))
 (.seq (.reg [] [gm 21 0, gn (.cal 22 f_play_Made [(.t 21)] []), gn (.cad 23 f_play_Picks_Task [(.t 22), (ci 1), (ci 3)] []), gn (.alc 7 (.d (.agg [(.int .i64 0), (.int .i64 0), (.int .i64 0), (.sl true []), (.sl true []), (.sl true [])]))), gs 7 23] [0,21,22,23])
 (.seq (.reg [] [gm 24 1, gn (.das 25 f_ref19_NewJob [(ci 1), (ci 2), (.t 24)]), gn (.alc 8 (.d (.agg [(.int .i64 0), (.int .i64 0), (.int .i64 0), (.int .i64 0), (.agg [(.int .i64 0), (.agg [(.int .i64 0), (.int .i64 0), (.int .i64 0), (.int .i64 0), (.int .i64 0), (.int .i64 0), (.int .i64 0), (.int .i64 0)]), (.sl true []), (.bool false)]), (.agg [(.int .i64 0), (.agg [(.int .i64 0), (.int .i64 0), (.int .i64 0), (.int .i64 0), (.int .i64 0), (.int .i64 0), (.int .i64 0), (.int .i64 0)]), (.sl true []), (.bool false)]), (.sl true []), (.bool false)]))), gs 8 25] [1,24,25])
 (.seq (.seq (.reg [] [gn (.mv 9 (ci 0))] [])
 (.blk 0 (.loop [2,7,8,9] k_law22_FaultTwice_L0)))
 (.seq (.reg [] [gl 47 7, gl 48 8, gn (.bld 49 [(ci 0), (ci 2)]), gn (.bld 50 [(ci 0), (ci 1)]), gn (.bsl 51 [(.t 49), (.t 50)]), gn (.das 52 f_fault_Hit [(.t 47), (.t 48), (.t 51)]), gm 46 52, ge 53 46 0, ge 54 46 1, ge 55 46 2, gn (.alc 10 (.d (.agg [(.int .i64 0), (.int .i64 0), (.int .i64 0), (.int .i64 0), (.agg [(.int .i64 0), (.agg [(.int .i64 0), (.int .i64 0), (.int .i64 0), (.int .i64 0), (.int .i64 0), (.int .i64 0), (.int .i64 0), (.int .i64 0)]), (.sl true []), (.bool false)]), (.agg [(.int .i64 0), (.agg [(.int .i64 0), (.int .i64 0), (.int .i64 0), (.int .i64 0), (.int .i64 0), (.int .i64 0), (.int .i64 0), (.int .i64 0)]), (.sl true []), (.bool false)]), (.sl true []), (.bool false)]))), gs 10 53, gm 11 54, gm 12 55] [8,46,47,48,49,50,51,52,53,54,55])
 (.seq (.reg [] [gl 57 7, gl 58 10, gm 59 11, gn (.das 60 f_fault_Hit [(.t 57), (.t 58), (.t 59)]), gm 56 60, ge 61 56 0, ge 62 56 1, ge 63 56 2, gn (.alc 13 (.d (.agg [(.int .i64 0), (.int .i64 0), (.int .i64 0), (.int .i64 0), (.agg [(.int .i64 0), (.agg [(.int .i64 0), (.int .i64 0), (.int .i64 0), (.int .i64 0), (.int .i64 0), (.int .i64 0), (.int .i64 0), (.int .i64 0)]), (.sl true []), (.bool false)]), (.agg [(.int .i64 0), (.agg [(.int .i64 0), (.int .i64 0), (.int .i64 0), (.int .i64 0), (.int .i64 0), (.int .i64 0), (.int .i64 0), (.int .i64 0)]), (.sl true []), (.bool false)]), (.sl true []), (.bool false)]))), gs 13 61, gm 14 62, gm 15 63] [56,57,58,59,60,61,62,63])
 (.seq (.seq (.reg [] [gm 64 11, gk 65 64, gn (.bin 66 .neq (.t 65) (ci 2)), gm 67 66, jm 67 68 11, gj 67 (.ia 69 (.t 68) (ci 0)), gj 67 (.fa 70 (.t 69) 1), gj 67 (.ld 71 (.t 70)), gj 67 (.bin 72 .neq (.t 71) (ci 0)), gn (.pick 73 (.t 67) (.c (.bool true)) (.t 72)), gm 74 73, jm 74 75 11, gj 74 (.ia 76 (.t 75) (ci 1)), gj 74 (.fa 77 (.t 76) 1), gj 74 (.ld 78 (.t 77)), gj 74 (.bin 79 .neq (.t 78) (ci 1)), gn (.pick 80 (.t 74) (.c (.bool true)) (.t 79)), gm 81 80, jm 81 82 11, jm 81 83 14, gj 81 (.dat 84 f_ref11_SameSemas [(.t 82), (.t 83)]), gj 81 (.un 85 .not (.t 84)), gn (.pick 86 (.t 81) (.c (.bool true)) (.t 85))] [11,14,64,65,66,67,68,69,70,71,72,73,74,75,76,77,78,79,80,81,82,83,84,85])
 (.cond (.t 86) (.seq (.reg [] [gn (.mv 6 (.c (.bool false)))] [])
 .ret)
 .skip))
 (.seq (.reg [] [gm 87 15, gn (.bin 88 .eql (.t 87) (ci 6)), gm 89 88, gh 89 (.ld 90 (.t 10)), gh 89 (.ld 91 (.t 13)), gh 89 (.dat 92 f_ref19_SameJob [(.t 90), (.t 91)]), gn (.pick 93 (.t 89) (.t 92) (.c (.bool false))), gm 94 93, hm 94 95 12, gh 94 (.bin 96 .eql (.t 95) (ci 7)), gh 94 (.fa 97 (.t 7) 4), gh 94 (.ld 98 (.t 97)), gh 94 (.len 99 (.t 98)), gh 94 (.bin 100 .gtr (.t 99) (ci 0)), gh 94 (.bin 101 .eql (.t 96) (.t 100)), gn (.pick 102 (.t 94) (.t 101) (.c (.bool false))), gm 103 102, hm 103 104 12, gh 103 (.bin 105 .eql (.t 104) (ci 7)), hm 103 106 105, jm 106 107 12, gj 106 (.bin 108 .eql (.t 107) (ci 6)), gh 103 (.pick 109 (.t 106) (.c (.bool true)) (.t 108)), gn (.pick 110 (.t 103) (.t 109) (.c (.bool false))), gm 6 110] [7,10,12,13,15,87,88,89,90,91,92,93,94,95,96,97,98,99,100,101,102,103,104,105,106,107,108,109,110])
 .ret)))))))))), [.t 6], none⟩
/- foliot/foliotlaw22.begun -/
def k_law22_begun : KF := ⟨(.seq (.reg [] [gn (.mv 0 (.c (.bool false)))] [0])
 (.seq (.reg [] [gn (.bld 9 [(ci 0), (ci 0), (ci 0), (ci 0)]), gn (.bsl 10 [(.t 9)]), gn (.bld 11 [(ci 0), (ci 0), (ci 0), (ci 0)]), gn (.bsl 12 [(.t 11)]), gn (.bld 13 [(ci 0), (ci 0), (ci 0), (.t 10), (.t 12), (.c (.d (.sl true [])))]), gn (.alc 1 (.d (.agg [(.int .i64 0), (.int .i64 0), (.int .i64 0), (.sl true []), (.sl true []), (.sl true [])]))), gs 1 13] [9,10,11,12,13])
 (.seq (.reg [] [gn (.das 14 f_ref19_NewJob [(ci 1), (ci 0), (ci 7)]), gn (.alc 2 (.d (.agg [(.int .i64 0), (.int .i64 0), (.int .i64 0), (.int .i64 0), (.agg [(.int .i64 0), (.agg [(.int .i64 0), (.int .i64 0), (.int .i64 0), (.int .i64 0), (.int .i64 0), (.int .i64 0), (.int .i64 0), (.int .i64 0)]), (.sl true []), (.bool false)]), (.agg [(.int .i64 0), (.agg [(.int .i64 0), (.int .i64 0), (.int .i64 0), (.int .i64 0), (.int .i64 0), (.int .i64 0), (.int .i64 0), (.int .i64 0)]), (.sl true []), (.bool false)]), (.sl true []), (.bool false)]))), gs 2 14] [14])
 (.seq (.reg [] [gn (.bsl 15 [(ci 0)]), gf 16 2 6, gs 16 15] [15,16])
 (.seq (.reg [] [gl 18 1, gl 19 2, gn (.bld 20 [(ci 0), (ci 2)]), gn (.bsl 21 [(.t 20)]), gn (.das 22 f_fault_Hit [(.t 18), (.t 19), (.t 21)]), gm 17 22, ge 23 17 0, ge 24 17 1, ge 25 17 2, gn (.alc 3 (.d (.agg [(.int .i64 0), (.int .i64 0), (.int .i64 0), (.int .i64 0), (.agg [(.int .i64 0), (.agg [(.int .i64 0), (.int .i64 0), (.int .i64 0), (.int .i64 0), (.int .i64 0), (.int .i64 0), (.int .i64 0), (.int .i64 0)]), (.sl true []), (.bool false)]), (.agg [(.int .i64 0), (.agg [(.int .i64 0), (.int .i64 0), (.int .i64 0), (.int .i64 0), (.int .i64 0), (.int .i64 0), (.int .i64 0), (.int .i64 0)]), (.sl true []), (.bool false)]), (.sl true []), (.bool false)]))), gs 3 23, gm 4 24, gm 5 25] [17,18,19,20,21,22,23,24,25])
 (.seq (.reg [] [gl 27 1, gl 28 3, gn (.das 29 f_fault_Hit [(.t 27), (.t 28), (.c (.d (.sl true [])))]), gm 26 29, ge 30 26 0, ge 31 26 1, ge 32 26 2, gn (.alc 6 (.d (.agg [(.int .i64 0), (.int .i64 0), (.int .i64 0), (.int .i64 0), (.agg [(.int .i64 0), (.agg [(.int .i64 0), (.int .i64 0), (.int .i64 0), (.int .i64 0), (.int .i64 0), (.int .i64 0), (.int .i64 0), (.int .i64 0)]), (.sl true []), (.bool false)]), (.agg [(.int .i64 0), (.agg [(.int .i64 0), (.int .i64 0), (.int .i64 0), (.int .i64 0), (.int .i64 0), (.int .i64 0), (.int .i64 0), (.int .i64 0)]), (.sl true []), (.bool false)]), (.sl true []), (.bool false)]))), gs 6 30, gm 7 31, gm 8 32] [1,6,7,26,27,28,29,30,31,32])
 (.seq (.reg [] [gm 33 5, gn (.bin 34 .eql (.t 33) (ci 7)), gm 35 34, gh 35 (.fa 36 (.t 3) 3), gh 35 (.ld 37 (.t 36)), gh 35 (.bin 38 .eql (.t 37) (ci 1)), gn (.pick 39 (.t 35) (.t 38) (.c (.bool false))), gm 40 39, gh 40 (.fa 41 (.t 3) 6), gh 40 (.ld 42 (.t 41)), gh 40 (.len 43 (.t 42)), gh 40 (.bin 44 .eql (.t 43) (ci 0)), gn (.pick 45 (.t 40) (.t 44) (.c (.bool false))), gm 46 45, hm 46 47 4, gh 46 (.len 48 (.t 47)), gh 46 (.bin 49 .eql (.t 48) (ci 1)), gn (.pick 50 (.t 46) (.t 49) (.c (.bool false))), gm 51 50, hm 51 52 4, gh 51 (.ia 53 (.t 52) (ci 0)), gh 51 (.fa 54 (.t 53) 1), gh 51 (.ld 55 (.t 54)), gh 51 (.bin 56 .eql (.t 55) (ci 0)), gn (.pick 57 (.t 51) (.t 56) (.c (.bool false))), gm 58 57, hm 58 59 8, gh 58 (.bin 60 .eql (.t 59) (ci 6)), gn (.pick 61 (.t 58) (.t 60) (.c (.bool false))), gm 62 61, gh 62 (.ld 63 (.t 2)), gh 62 (.dat 64 f_fault_Loses [(.t 63), (ci 0)]), gh 62 (.fd 65 (.t 64) 6), gh 62 (.len 66 (.t 65)), gh 62 (.bin 67 .eql (.t 66) (ci 0)), gn (.pick 68 (.t 62) (.t 67) (.c (.bool false))), gm 0 68] [2,3,4,5,8,33,34,35,36,37,38,39,40,41,42,43,44,45,46,47,48,49,50,51,52,53,54,55,56,57,58,59,60,61,62,63,64,65,66,67,68])
 .ret))))))), [.t 0], none⟩
/- foliot/foliotref19.NewJob -/
def k_ref19_NewJob : KF := ⟨(.seq (.reg [] [gn (.alc 6 (.d (.agg [(.int .i64 0), (.int .i64 0), (.int .i64 0), (.int .i64 0), (.agg [(.int .i64 0), (.agg [(.int .i64 0), (.int .i64 0), (.int .i64 0), (.int .i64 0), (.int .i64 0), (.int .i64 0), (.int .i64 0), (.int .i64 0)]), (.sl true []), (.bool false)]), (.agg [(.int .i64 0), (.agg [(.int .i64 0), (.int .i64 0), (.int .i64 0), (.int .i64 0), (.int .i64 0), (.int .i64 0), (.int .i64 0), (.int .i64 0)]), (.sl true []), (.bool false)]), (.sl true []), (.bool false)])))] [])
 (.seq (.reg [] [gm 8 2, gn (.dat 9 f_ref1_NewMachine [(.t 8)]), gn (.alc 7 (.d (.agg [(.int .i64 0), (.agg [(.int .i64 0), (.int .i64 0), (.int .i64 0), (.int .i64 0), (.int .i64 0), (.int .i64 0), (.int .i64 0), (.int .i64 0)]), (.sl true []), (.bool false)]))), gs 7 9] [8,9])
 (.seq (.reg [] [gm 10 0, gm 11 1, gm 12 2, gl 13 7, gl 14 7, gn (.bld 15 [(.t 10), (.t 11), (.t 12), (ci 0), (.t 13), (.t 14), (.c (.d (.sl true []))), (.c (.bool false))]), gs 6 15] [0,1,2,7,10,11,12,13,14,15])
 .ret))), [.cell 6], none⟩
/- foliot/foliotref1.NewMachine -/
def k_ref1_NewMachine : KF := ⟨(.seq (.reg [] [gn (.alc 2 (.d (.agg [(.int .i64 0), (.agg [(.int .i64 0), (.int .i64 0), (.int .i64 0), (.int .i64 0), (.int .i64 0), (.int .i64 0), (.int .i64 0), (.int .i64 0)]), (.sl true []), (.bool false)])))] [])
 (.seq (.reg [] [gn (.bld 4 [(ci 0), (.c (.d (.agg [(.int .i64 0), (.int .i64 0), (.int .i64 0), (.int .i64 0), (.int .i64 0), (.int .i64 0), (.int .i64 0), (.int .i64 0)]))), (.c (.d (.sl true []))), (.c (.bool false))]), gn (.alc 3 (.d (.agg [(.int .i64 0), (.agg [(.int .i64 0), (.int .i64 0), (.int .i64 0), (.int .i64 0), (.int .i64 0), (.int .i64 0), (.int .i64 0), (.int .i64 0)]), (.sl true []), (.bool false)]))), gs 3 4] [4])
 (.seq (.reg [] [gm 5 0, gf 6 3 1, gn (.ia 7 (.t 6) (ci 0)), gs 7 5] [0,5,6,7])
 (.seq (.reg [] [gl 8 3, gs 2 8] [3,8])
 .ret)))), [.cell 2], none⟩
/- foliot/fault.Hit -/
def k_fault_Hit : KF := ⟨(.seq (.reg [] [gn (.box 3 (.t 0)), gn (.box 4 (.t 1)), gn (.alc 6 (.d (.agg [(.int .i64 0), (.int .i64 0), (.int .i64 0), (.int .i64 0), (.agg [(.int .i64 0), (.agg [(.int .i64 0), (.int .i64 0), (.int .i64 0), (.int .i64 0), (.int .i64 0), (.int .i64 0), (.int .i64 0), (.int .i64 0)]), (.sl true []), (.bool false)]), (.agg [(.int .i64 0), (.agg [(.int .i64 0), (.int .i64 0), (.int .i64 0), (.int .i64 0), (.int .i64 0), (.int .i64 0), (.int .i64 0), (.int .i64 0)]), (.sl true []), (.bool false)]), (.sl true []), (.bool false)]))), gn (.mv 7 (.c (.d (.sl true [])))), gn (.mv 8 (ci 0))] [0,1,7,8])
 (.seq (.reg [(2,5)] [gl 9 3, gl 10 4, gn (.das 11 f_job_Back [(.t 9), (.t 10)]), gm 12 2, gf 13 4 0, gl 14 13, gn (.dat 15 f_sema_All [(.t 12), (.t 14)]), gs 6 11, gm 7 15, gn (.mv 8 (ci 6))] [2,3,9,10,11,12,13,14,15])
 (.seq (.blk 0 (.seq (.reg [] [gf 17 4 3, gl 18 17, gn (.bin 19 .eql (.t 18) (ci 2)), gm 16 19] [17,18,19])
 (.cond (.t 16) (.reg [] [gl 20 4, gn (.dat 21 f_fault_Loses [(.t 20), (ci (-1))]), gs 6 21, gn (.mv 8 (ci 13))] [4,20,21])
 (.seq (.reg [] [gf 23 6 3, gl 24 23, gf 25 4 3, gl 26 25, gn (.bin 27 .neq (.t 24) (.t 26)), gm 22 27] [4,23,24,25,26,27])
 (.cond (.t 22) (.reg [] [gn (.mv 8 (ci 7))] [])
 .skip)))))
 (.seq (.reg [] [gl 28 6, gm 29 7, gm 30 8, gs 6 28, gm 7 29, gm 8 30] [28,29,30])
 .ret)))), [.cell 6, .t 7, .t 8], none⟩
/- foliot/job.Back -/
def k_job_Back : KF := ⟨(.seq (.reg [] [gn (.box 2 (.t 0)), gn (.box 3 (.t 1)), gn (.alc 4 (.d (.agg [(.int .i64 0), (.int .i64 0), (.int .i64 0), (.int .i64 0), (.agg [(.int .i64 0), (.agg [(.int .i64 0), (.int .i64 0), (.int .i64 0), (.int .i64 0), (.int .i64 0), (.int .i64 0), (.int .i64 0), (.int .i64 0)]), (.sl true []), (.bool false)]), (.agg [(.int .i64 0), (.agg [(.int .i64 0), (.int .i64 0), (.int .i64 0), (.int .i64 0), (.int .i64 0), (.int .i64 0), (.int .i64 0), (.int .i64 0)]), (.sl true []), (.bool false)]), (.sl true []), (.bool false)])))] [0,1])
 (.seq (.reg [] [gl 6 3, gn (.cal 7 f_job_twin [(.t 6)] []), gn (.alc 5 (.d (.agg [(.int .i64 0), (.int .i64 0), (.int .i64 0), (.int .i64 0), (.agg [(.int .i64 0), (.agg [(.int .i64 0), (.int .i64 0), (.int .i64 0), (.int .i64 0), (.int .i64 0), (.int .i64 0), (.int .i64 0), (.int .i64 0)]), (.sl true []), (.bool false)]), (.agg [(.int .i64 0), (.agg [(.int .i64 0), (.int .i64 0), (.int .i64 0), (.int .i64 0), (.int .i64 0), (.int .i64 0), (.int .i64 0), (.int .i64 0)]), (.sl true []), (.bool false)]), (.sl true []), (.bool false)]))), gs 5 7] [6,7])
 (.seq (.reg [] [gf 8 5 6, gn (.st (.t 8) (.c (.d (.sl true []))))] [8])
 (.seq (.seq (.reg [] [gf 9 3 3, gl 10 9, gn (.bin 11 .eql (.t 10) (ci 0)), gm 12 11, gh 12 (.fa 13 (.t 2) 4), gh 12 (.ld 14 (.t 13)), gh 12 (.len 15 (.t 14)), gh 12 (.bin 16 .gtr (.t 15) (ci 0)), gn (.pick 17 (.t 12) (.t 16) (.c (.bool false)))] [2,9,10,11,12,13,14,15,16])
 (.cond (.t 17) (.seq (.reg [(2,4)] [gf 18 3 2, gl 19 18, gn (.dat 20 f_vm_New [(.t 19)]), gf 21 3 2, gl 22 21, gn (.dat 23 f_vm_New [(.t 22)]), gf 24 5 3, gn (.st (.t 24) (ci 1)), gf 25 5 4, gs 25 20, gf 26 5 5, gs 26 23] [3,18,19,20,21,22,23,24,25,26])
 (.seq (.reg [] [gl 27 5, gs 4 27] [5,27])
 .ret))
 .skip))
 (.seq (.reg [] [gf 28 3 5, gl 29 28, gn (.das 30 f_job_machine [(.t 29)]), gf 31 5 4, gs 31 30] [3,28,29,30,31])
 (.seq (.reg [] [gl 32 5, gs 4 32] [5,32])
 .ret)))))), [.cell 4], none⟩
/- foliot/job.twin -/
def k_job_twin : KF := ⟨(.seq (.reg [] [gn (.box 1 (.t 0)), gn (.alc 2 (.d (.agg [(.int .i64 0), (.int .i64 0), (.int .i64 0), (.int .i64 0), (.agg [(.int .i64 0), (.agg [(.int .i64 0), (.int .i64 0), (.int .i64 0), (.int .i64 0), (.int .i64 0), (.int .i64 0), (.int .i64 0), (.int .i64 0)]), (.sl true []), (.bool false)]), (.agg [(.int .i64 0), (.agg [(.int .i64 0), (.int .i64 0), (.int .i64 0), (.int .i64 0), (.int .i64 0), (.int .i64 0), (.int .i64 0), (.int .i64 0)]), (.sl true []), (.bool false)]), (.sl true []), (.bool false)])))] [0])
 (.seq (.reg [(2,4), (2,7), (5,7)] [gf 3 1 4, gl 4 3, gn (.das 5 f_job_machine [(.t 4)]), gf 6 1 5, gl 7 6, gn (.das 8 f_job_machine [(.t 7)]), gf 9 1 6, gl 10 9, gn (.dat 11 f_slices_Clone_int_int [(.t 10)]), gf 12 1 4, gs 12 5, gf 13 1 5, gs 13 8, gf 14 1 6, gs 14 11] [3,4,5,6,7,8,9,10,11,12,13,14])
 (.seq (.reg [] [gl 15 1, gs 2 15] [1,15])
 .ret))), [.cell 2], none⟩
/- foliot/job.machine -/
def k_job_machine : KF := ⟨(.seq (.reg [] [gn (.box 1 (.t 0)), gn (.alc 2 (.d (.agg [(.int .i64 0), (.agg [(.int .i64 0), (.int .i64 0), (.int .i64 0), (.int .i64 0), (.int .i64 0), (.int .i64 0), (.int .i64 0), (.int .i64 0)]), (.sl true []), (.bool false)])))] [0])
 (.seq (.reg [] [gf 3 1 2, gl 4 3, gn (.dat 5 f_slices_Clone_api_Rep2_api_Rep2 [(.t 4)]), gf 6 1 2, gs 6 5] [3,4,5,6])
 (.seq (.reg [] [gl 7 1, gs 2 7] [1,7])
 .ret))), [.cell 2], none⟩
/- slices.Clone[[]foliot/api.Rep2,foliot/api.Rep2] -/
def k_slices_Clone_api_Rep2_api_Rep2 : KF := ⟨(.seq (.reg [] [gn (.mv 2 (.c (.d (.sl true []))))] [2])
 (.seq (.seq (.reg [] [gm 3 0, gn (.bin 4 .eql (.t 3) (.c (.d (.sl true []))))] [3])
 (.cond (.t 4) (.seq (.reg [] [gn (.mv 2 (.c (.d (.sl true []))))] [])
 .ret)
 .skip))
 (.seq (.reg [] [gn (.bsl 5 []), gm 6 0, gp 7 5 6, gm 2 7] [0,5,6,7])
 .ret))), [.t 2], none⟩
/- slices.Clone[[]int,int] -/
def k_slices_Clone_int_int : KF := ⟨(.seq (.reg [] [gn (.mv 2 (.c (.d (.sl true []))))] [2])
 (.seq (.seq (.reg [] [gm 3 0, gn (.bin 4 .eql (.t 3) (.c (.d (.sl true []))))] [3])
 (.cond (.t 4) (.seq (.reg [] [gn (.mv 2 (.c (.d (.sl true []))))] [])
 .ret)
 .skip))
 (.seq (.reg [] [gn (.bsl 5 []), gm 6 0, gp 7 5 6, gm 2 7] [0,5,6,7])
 .ret))), [.t 2], none⟩
/- foliot/vm.New -/
def k_vm_New : KF := ⟨(.seq (.reg [] [gn (.alc 2 (.d (.agg [(.int .i64 0), (.agg [(.int .i64 0), (.int .i64 0), (.int .i64 0), (.int .i64 0), (.int .i64 0), (.int .i64 0), (.int .i64 0), (.int .i64 0)]), (.sl true []), (.bool false)])))] [])
 (.seq (.reg [] [gm 3 0, gf 4 2 1, gn (.ia 5 (.t 4) (ci 0)), gs 5 3] [0,3,4,5])
 (.seq (.reg [] [gl 6 2, gs 2 6] [6])
 .ret))), [.cell 2], none⟩
/- foliot/sema.All -/
def k_sema_All_L0b : K := (.seq (.reg [] [gn (.bin 12 .lss (.t 11) (.t 10))] [])
 (.seq (.cond (.t 12) .skip
 (.ext 0))
 (.seq (.blk 1 (.seq (.reg [] [gm 13 11, gm 6 13] [13])
 (.seq (.reg [] [gm 14 0, gm 15 6, gm 16 1, gn (.dat 17 f_sema_holds [(.t 14), (.t 15), (.t 16)])] [14,15,16])
 (.cond (.t 17) (.reg [] [gm 18 5, gm 19 6, ga 20 18 19, gf 21 20 1, gn (.st (.t 21) (ci 0))] [6,18,19,20,21])
 .skip))))
 (.reg [] [gn (.bin 22 .add (.t 11) (ci 1)), gm 11 22] [22]))))
def k_sema_All_L0 : K := k_sema_All_L0b
def k_sema_All : KF := ⟨(.seq (.reg [] [gn (.mv 4 (.c (.d (.sl true []))))] [4])
 (.seq (.reg [] [gm 7 0, gn (.dat 8 f_slices_Clone_api_Sema_api_Sema [(.t 7)]), gm 5 8] [7,8])
 (.seq (.seq (.reg [] [gm 9 5, gk 10 9, gn (.mv 11 (ci 0))] [9])
 (.blk 0 (.loop [0,1,5,10,11] k_sema_All_L0)))
 (.seq (.reg [] [gm 23 5, gm 4 23] [5,23])
 .ret)))), [.t 4], none⟩
/- slices.Clone[[]foliot/api.Sema,foliot/api.Sema] -/
def k_slices_Clone_api_Sema_api_Sema : KF := ⟨(.seq (.reg [] [gn (.mv 2 (.c (.d (.sl true []))))] [2])
 (.seq (.seq (.reg [] [gm 3 0, gn (.bin 4 .eql (.t 3) (.c (.d (.sl true []))))] [3])
 (.cond (.t 4) (.seq (.reg [] [gn (.mv 2 (.c (.d (.sl true []))))] [])
 .ret)
 .skip))
 (.seq (.reg [] [gn (.bsl 5 []), gm 6 0, gp 7 5 6, gm 2 7] [0,5,6,7])
 .ret))), [.t 2], none⟩
/- foliot/sema.holds -/
def k_sema_holds : KF := ⟨(.seq (.reg [] [gn (.mv 6 (.c (.bool false)))] [6])
 (.seq (.reg [] [gm 7 0, gm 8 1, gn (.dat 9 f_sema_has [(.t 7), (.t 8)]), gm 10 9, hm 10 11 2, gh 10 (.bin 12 .geq (.t 11) (ci 0)), gn (.pick 13 (.t 10) (.t 12) (.c (.bool false))), gm 14 13, hm 14 15 0, hm 14 16 1, gh 14 (.ia 17 (.t 15) (.t 16)), gh 14 (.fa 18 (.t 17) 1), gh 14 (.ld 19 (.t 18)), hm 14 20 2, gh 14 (.bin 21 .add (.t 20) (ci 1)), gh 14 (.bin 22 .eql (.t 19) (.t 21)), gn (.pick 23 (.t 14) (.t 22) (.c (.bool false))), gm 6 23] [0,1,2,7,8,9,10,11,12,13,14,15,16,17,18,19,20,21,22,23])
 .ret)), [.t 6], none⟩
/- foliot/sema.has -/
def k_sema_has : KF := ⟨(.seq (.reg [] [gn (.mv 4 (.c (.bool false)))] [4])
 (.seq (.reg [] [gm 5 1, gn (.bin 6 .geq (.t 5) (ci 0)), gm 7 6, hm 7 8 1, hm 7 9 0, gh 7 (.len 10 (.t 9)), gh 7 (.bin 11 .lss (.t 8) (.t 10)), gn (.pick 12 (.t 7) (.t 11) (.c (.bool false))), gm 4 12] [0,1,5,6,7,8,9,10,11,12])
 .ret)), [.t 4], none⟩
/- foliot/fault.Loses -/
def k_fault_Loses : KF := ⟨(.seq (.reg [] [gn (.box 2 (.t 0)), gn (.box 3 (.t 1)), gn (.alc 4 (.d (.agg [(.int .i64 0), (.int .i64 0), (.int .i64 0), (.int .i64 0), (.agg [(.int .i64 0), (.agg [(.int .i64 0), (.int .i64 0), (.int .i64 0), (.int .i64 0), (.int .i64 0), (.int .i64 0), (.int .i64 0), (.int .i64 0)]), (.sl true []), (.bool false)]), (.agg [(.int .i64 0), (.agg [(.int .i64 0), (.int .i64 0), (.int .i64 0), (.int .i64 0), (.int .i64 0), (.int .i64 0), (.int .i64 0), (.int .i64 0)]), (.sl true []), (.bool false)]), (.sl true []), (.bool false)])))] [0,1])
 (.seq (.reg [(3,6)] [gf 5 2 4, gf 6 5 2, gl 7 6, gn (.dat 8 f_slices_Clone_api_Rep2_api_Rep2 [(.t 7)]), gf 9 2 5, gf 10 9 2, gl 11 10, gn (.dat 12 f_slices_Clone_api_Rep2_api_Rep2 [(.t 11)]), gf 13 2 4, gf 14 13 2, gs 14 8, gf 15 2 5, gf 16 15 2, gs 16 12] [5,6,7,8,9,10,11,12,13,14,15,16])
 (.seq (.reg [] [gf 17 2 6, gl 18 17, gn (.dat 19 f_slices_Clone_int_int [(.t 18)]), gn (.mkf 20 f_fault_Loses_1 [] [(.t 3)]), gn (.cal 21 f_slices_DeleteFunc_int_int [(.t 19), (.t 20)] []), gf 22 2 6, gs 22 21] [3,17,18,19,20,21,22])
 (.seq (.reg [] [gl 23 2, gs 4 23] [2,23])
 .ret)))), [.cell 4], none⟩
/- foliot/fault.Loses$1 -/
def k_fault_Loses_1 : KF := ⟨(.seq (.reg [] [gn (.mv 3 (.c (.bool false)))] [3])
 (.seq (.reg [] [gm 4 0, gl 5 1, gn (.bin 6 .eql (.t 4) (.t 5)), gm 3 6] [0,1,4,5,6])
 .ret)), [.t 3], none⟩
/- slices.DeleteFunc[[]int,int] -/
def k_slices_DeleteFunc_int_int_L0b : K := (.seq (.seq (.reg [] [gm 16 6, gm 17 0, gk 18 17, gn (.bin 19 .lss (.t 16) (.t 18))] [16,17,18])
 (.cond (.t 19) .skip
 (.ext 0)))
 (.seq (.blk 1 (.seq (.reg [] [gm 22 0, gm 23 6, ga 24 22 23, gl 25 24, gm 7 25] [22,23,24,25])
 (.seq (.reg [] [gm 26 1, gm 27 7, gn (.cav 28 (.t 26) [(.t 27)]), gn (.un 29 .not (.t 28))] [26,27,28])
 (.cond (.t 29) (.seq (.reg [] [gm 30 0, gm 31 5, gm 32 7, ga 33 30 31, gs 33 32] [7,30,31,32,33])
 (.reg [] [gm 34 5, gn (.bin 35 .add (.t 34) (ci 1)), gm 5 35] [34,35]))
 .skip))))
 (.reg [] [gm 20 6, gn (.bin 21 .add (.t 20) (ci 1)), gm 6 21] [20,21])))
def k_slices_DeleteFunc_int_int_L0 : K := k_slices_DeleteFunc_int_int_L0b
def k_slices_DeleteFunc_int_int : KF := ⟨(.seq (.reg [] [gn (.mv 4 (.c (.d (.sl true []))))] [4])
 (.seq (.reg [] [gm 8 0, gm 9 1, gn (.cal 10 f_slices_IndexFunc_int_int [(.t 8), (.t 9)] []), gm 5 10] [8,9,10])
 (.seq (.seq (.reg [] [gm 11 5, gn (.bin 12 .eql (.t 11) (ci (-1)))] [11])
 (.cond (.t 12) (.seq (.reg [] [gm 13 0, gm 4 13] [0,13])
 .ret)
 .skip))
 (.seq (.seq (.reg [] [gm 14 5, gn (.bin 15 .add (.t 14) (ci 1)), gm 6 15] [14,15])
 (.blk 0 (.loop [0,1,5,6] k_slices_DeleteFunc_int_int_L0)))
 (.seq (.reg [] [gm 36 0, gm 37 5, gn (.slc 38 (.t 36) (some (.t 37)) none), gn (.clr (.int .i64 0) (.t 38))] [36,37,38])
 (.seq (.reg [] [gm 39 0, gm 40 5, gn (.slc 41 (.t 39) none (some (.t 40))), gm 4 41] [0,5,39,40,41])
 .ret)))))), [.t 4], none⟩
/- slices.IndexFunc[[]int,int] -/
def k_slices_IndexFunc_int_int_L0b : K := (.seq (.reg [] [gn (.bin 9 .lss (.t 8) (.t 7))] [])
 (.seq (.cond (.t 9) .skip
 (.ext 0))
 (.seq (.blk 1 (.seq (.reg [] [gm 10 8, gm 5 10] [10])
 (.seq (.reg [] [gm 11 1, gm 12 0, gm 13 5, ga 14 12 13, gl 15 14, gn (.cav 16 (.t 11) [(.t 15)])] [11,12,13,14,15])
 (.cond (.t 16) (.seq (.reg [] [gm 17 5, gm 4 17] [5,17])
 .ret)
 .skip))))
 (.reg [] [gn (.bin 18 .add (.t 8) (ci 1)), gm 8 18] [18]))))
def k_slices_IndexFunc_int_int_L0 : K := k_slices_IndexFunc_int_int_L0b
def k_slices_IndexFunc_int_int : KF := ⟨(.seq (.reg [] [gn (.mv 4 (ci 0))] [4])
 (.seq (.seq (.reg [] [gm 6 0, gk 7 6, gn (.mv 8 (ci 0))] [6])
 (.blk 0 (.loop [0,1,7,8] k_slices_IndexFunc_int_int_L0)))
 (.seq (.reg [] [gn (.mv 4 (ci (-1)))] [])
 .ret))), [.t 4], none⟩
/- foliot/foliotplay.Made -/
def k_play_Made : KF := ⟨(.seq (.reg [] [gn (.mv 2 (.c .und))] [2])
 (.seq (.reg [] [gm 3 0, gn (.bld 4 [(.t 3), (ci 0)]), gn (.box 5 (.t 4)), gm 2 5] [0,3,4,5])
 .ret)), [.t 2], none⟩
/- (*foliot/foliotplay.Picks).Task -/
def k_play_Picks_Task : KF := ⟨(.seq (.reg [] [gn (.alc 6 (.d (.agg [(.int .i64 0), (.int .i64 0), (.int .i64 0), (.sl true []), (.sl true []), (.sl true [])])))] [])
 (.seq (.reg [] [gm 8 1, gm 9 0, gm 10 2, gn (.cal 11 f_play_Picks_Code [(.t 9), (.t 10)] []), gn (.bld 12 [(.t 8), (ci 0), (ci 0), (.t 11), (.c (.d (.sl true []))), (.c (.d (.sl true [])))]), gn (.alc 7 (.d (.agg [(.int .i64 0), (.int .i64 0), (.int .i64 0), (.sl true []), (.sl true []), (.sl true [])]))), gs 7 12] [1,2,8,9,10,11,12])
 (.seq (.reg [] [gm 13 0, gn (.cal 14 f_play_Picks_Num [(.t 13), (ci 12)] []), gn (.bin 15 .mul (ci 10) (.t 14)), gn (.bin 16 .add (ci 20) (.t 15)), gf 17 7 1, gs 17 16] [13,14,15,16,17])
 (.seq (.reg [(1,3)] [gf 18 7 1, gl 19 18, gm 20 0, gn (.cal 21 f_play_Picks_Num [(.t 20), (ci 10)] [7]), gn (.bin 22 .sub (.t 19) (.t 21)), gf 23 7 2, gs 23 22] [18,19,20,21,22,23])
 (.seq (.seq (.reg [] [gm 24 0, gn (.cal 25 f_play_Picks_Num [(.t 24), (ci 3)] []), gn (.bin 26 .eql (.t 25) (ci 0))] [24,25])
 (.cond (.t 26) (.reg [] [gn (.bld 27 [(ci 1), (ci 0), (ci 0), (ci 99)]), gn (.bld 28 [(ci 0), (ci 0), (ci 0), (ci 0)]), gn (.bsl 29 [(.t 27), (.t 28)]), gm 30 0, gn (.cal 31 f_play_Picks_Num [(.t 30), (ci 2)] []), gn (.slc 32 (.t 29) (some (.t 31)) none), gf 33 7 4, gs 33 32] [27,28,29,30,31,32,33])
 .skip))
 (.seq (.seq (.reg [] [gm 34 0, gn (.cal 35 f_play_Picks_Num [(.t 34), (ci 3)] []), gn (.bin 36 .eql (.t 35) (ci 0))] [34,35])
 (.cond (.t 36) (.reg [] [gm 37 0, gn (.cal 38 f_play_Picks_Code [(.t 37), (ci 0)] []), gf 39 7 5, gs 39 38] [0,37,38,39])
 .skip))
 (.seq (.reg [] [gl 40 7, gs 6 40] [7,40])
 .ret))))))), [.cell 6], none⟩
/- (*foliot/foliotplay.Picks).Code -/
def k_play_Picks_Code_L0b : K := (.seq (.seq (.reg [] [gm 13 6, gn (.bin 14 .gtr (.t 13) (ci 0))] [13])
 (.cond (.t 14) .skip
 (.ext 0)))
 (.seq (.blk 1 (.seq (.reg [] [gn (.mv 7 (.c (.d (.sl true []))))] [7])
 (.seq (.seq (.reg [] [gm 17 0, gn (.cal 18 f_play_Picks_Num [(.t 17), (ci 5)] [])] [17])
 (.blk 2 (.seq (.reg [] [gn (.bin 23 .eql (.t 18) (ci 0)), gm 22 23] [23])
 (.cond (.t 22) (.seq (.reg [] [gm 24 0, gm 25 1, gn (.cal 26 f_play_Picks_some [(.t 24), (ci 2), (.t 25)] []), gm 8 26] [24,25,26])
 (.reg [] [gm 27 8, gk 28 27, gm 29 0, gn (.cal 30 f_play_Picks_Num [(.t 29), (ci 3)] []), gn (.bin 31 .add (ci 1) (.t 30)), gn (.bld 32 [(ci 8), (ci 0), (.t 28), (.t 31)]), gn (.bsl 33 [(.t 32)]), gm 34 8, gp 35 33 34, gm 7 35] [8,27,28,29,30,31,32,33,34,35]))
 (.seq (.reg [] [gn (.bin 37 .eql (.t 18) (ci 1)), gm 36 37] [37])
 (.cond (.t 36) (.seq (.reg [] [gm 38 0, gm 39 1, gn (.cal 40 f_play_Picks_some [(.t 38), (ci 2), (.t 39)] []), gm 9 40] [38,39,40])
 (.reg [] [gm 41 0, gn (.cal 42 f_play_Picks_Num [(.t 41), (ci 3)] []), gm 43 9, gk 44 43, gn (.bld 45 [(ci 7), (.t 42), (ci 0), (.t 44)]), gn (.bsl 46 [(.t 45)]), gm 47 9, gp 48 46 47, gm 7 48] [9,41,42,43,44,45,46,47,48]))
 (.seq (.reg [] [gn (.bin 50 .eql (.t 18) (ci 2)), gm 49 50] [18,50])
 (.cond (.t 49) (.reg [] [gn (.bld 51 [(ci 11), (ci 0), (ci 0), (ci 0)]), gn (.bsl 52 [(.t 51)]), gm 7 52] [51,52])
 (.reg [] [gm 19 0, gm 20 1, gn (.cal 21 f_play_Picks_some [(.t 19), (ci 2), (.t 20)] []), gm 7 21] [19,20,21])))))))))
 (.seq (.reg [] [gm 53 5, gk 54 53, gm 55 7, gk 56 55, gn (.bin 57 .add (.t 54) (.t 56)), gn (.bin 58 .lss (.t 57) (ci 23))] [53,54,55,56,57])
 (.cond (.t 58) (.reg [] [gm 59 5, gm 60 7, gp 61 59 60, gm 5 61] [7,59,60,61])
 .skip)))))
 (.reg [] [gm 15 6, gn (.bin 16 .sub (.t 15) (ci 1)), gm 6 16] [15,16])))
def k_play_Picks_Code_L0 : K := k_play_Picks_Code_L0b
def k_play_Picks_Code : KF := ⟨(.seq (.reg [] [gn (.mv 4 (.c (.d (.sl true []))))] [4])
 (.seq (.reg [] [gn (.mv 5 (.c (.d (.sl true []))))] [])
 (.seq (.seq (.reg [] [gm 10 0, gn (.cal 11 f_play_Picks_Num [(.t 10), (ci 4)] []), gn (.bin 12 .add (.t 11) (ci 1)), gm 6 12] [10,11,12])
 (.blk 0 (.loop [0,1,5,6] k_play_Picks_Code_L0)))
 (.seq (.reg [] [gm 62 5, gn (.bld 63 [(ci 0), (ci 0), (ci 0), (ci 0)]), gn (.bsl 64 [(.t 63)]), gp 65 62 64, gm 4 65] [5,62,63,64,65])
 .ret)))), [.t 4], none⟩
/- (*foliot/foliotplay.Picks).Num -/
def k_play_Picks_Num : KF := ⟨(.seq (.reg [] [gn (.mv 4 (ci 0))] [4])
 (.seq (.seq (.reg [] [gm 5 0, gc 6 5, gf 7 6 1, gl 8 7, gm 9 0, gc 10 9, gf 11 10 0, gl 12 11, gk 13 12, gn (.bin 14 .geq (.t 8) (.t 13))] [5,6,7,8,9,10,11,12,13])
 (.cond (.t 14) (.seq (.reg [] [gn (.mv 4 (ci 0))] [])
 .ret)
 .skip))
 (.seq (.reg [] [gm 15 0, gc 16 15, gf 17 16 1, gl 18 17, gn (.bin 19 .add (.t 18) (ci 1)), gc 20 15, gf 21 20 1, gs 21 19] [15,16,17,18,19,20,21])
 (.seq (.reg [] [gm 22 0, gc 23 22, gf 24 23 0, gl 25 24, gm 26 0, gc 27 26, gf 28 27 1, gl 29 28, gn (.bin 30 .sub (.t 29) (ci 1)), ga 31 25 30, gl 32 31, gn (.cv 33 .i64 (.t 32)), gm 34 1, gn (.bin 35 .rem (.t 33) (.t 34)), gm 4 35] [0,1,22,23,24,25,26,27,28,29,30,31,32,33,34,35])
 .ret)))), [.t 4], none⟩
/- (*foliot/foliotplay.Picks).some -/
def k_play_Picks_some_L0b : K := (.seq (.seq (.reg [] [gm 14 8, gn (.bin 15 .gtr (.t 14) (ci 0))] [14])
 (.cond (.t 15) .skip
 (.ext 0)))
 (.seq (.blk 1 (.seq (.reg [] [gm 18 2, gn (.bin 19 .gtr (.t 18) (ci 0)), gm 20 19, hm 20 21 0, gh 20 (.cal 22 f_play_Picks_Num [(.t 21), (ci 4)] []), gh 20 (.bin 23 .eql (.t 22) (ci 0)), gn (.pick 24 (.t 20) (.t 23) (.c (.bool false)))] [18,19,20,21,22,23])
 (.cond (.t 24) (.seq (.reg [] [gm 25 0, gm 26 2, gn (.cal 27 f_play_Picks_Num [(.t 25), (.t 26)] []), gm 9 27] [25,26,27])
 (.reg [] [gm 28 7, gm 29 9, gn (.bld 30 [(ci 9), (.t 29), (ci 0), (ci 0)]), gn (.bsl 31 [(.t 30)]), gp 32 28 31, gm 33 0, gn (.cal 34 f_play_Picks_plain [(.t 33)] []), gn (.bsl 35 [(.t 34)]), gp 36 32 35, gm 37 9, gn (.bld 38 [(ci 10), (.t 37), (ci 0), (ci 0)]), gn (.bsl 39 [(.t 38)]), gp 40 36 39, gm 7 40] [9,28,29,30,31,32,33,34,35,36,37,38,39,40]))
 (.reg [] [gm 41 7, gm 42 0, gn (.cal 43 f_play_Picks_plain [(.t 42)] []), gn (.bsl 44 [(.t 43)]), gp 45 41 44, gm 7 45] [41,42,43,44,45]))))
 (.reg [] [gm 16 8, gn (.bin 17 .sub (.t 16) (ci 1)), gm 8 17] [16,17])))
def k_play_Picks_some_L0 : K := k_play_Picks_some_L0b
def k_play_Picks_some : KF := ⟨(.seq (.reg [] [gn (.mv 6 (.c (.d (.sl true []))))] [6])
 (.seq (.reg [] [gn (.mv 7 (.c (.d (.sl true []))))] [])
 (.seq (.seq (.reg [] [gm 10 0, gm 11 1, gn (.cal 12 f_play_Picks_Num [(.t 10), (.t 11)] []), gn (.bin 13 .add (.t 12) (ci 1)), gm 8 13] [1,10,11,12,13])
 (.blk 0 (.loop [0,2,7,8] k_play_Picks_some_L0)))
 (.seq (.reg [] [gm 46 7, gm 6 46] [7,46])
 .ret)))), [.t 6], none⟩
/- (*foliot/foliotplay.Picks).plain -/
def k_play_Picks_plain : KF := ⟨(.seq (.reg [] [gn (.alc 2 (.d (.agg [(.int .i64 0), (.int .i64 0), (.int .i64 0), (.int .i64 0)])))] [])
 (.seq (.reg [] [gm 5 0, gn (.cal 6 f_play_Picks_Num [(.t 5), (ci 3)] []), gm 7 0, gn (.cal 8 f_play_Picks_Num [(.t 7), (ci 3)] []), gm 3 6, gm 4 8] [5,6,7,8])
 (.seq (.seq (.reg [] [gm 9 0, gn (.cal 10 f_play_Picks_Num [(.t 9), (ci 6)] [])] [9])
 (.blk 0 (.seq (.reg [] [gn (.bin 12 .eql (.t 10) (ci 0)), gm 11 12] [12])
 (.cond (.t 11) (.seq (.reg [] [gm 13 3, gm 14 0, gn (.cal 15 f_play_Picks_Num [(.t 14), (ci 9)] []), gn (.bin 16 .sub (.t 15) (ci 4)), gn (.bld 17 [(ci 1), (.t 13), (ci 0), (.t 16)]), gs 2 17] [0,3,13,14,15,16,17])
 .ret)
 (.seq (.reg [] [gn (.bin 19 .eql (.t 10) (ci 1)), gm 18 19] [19])
 (.cond (.t 18) (.seq (.reg [] [gm 20 3, gm 21 4, gn (.bld 22 [(ci 2), (.t 20), (.t 21), (ci 0)]), gs 2 22] [3,4,20,21,22])
 .ret)
 (.seq (.reg [] [gn (.bin 24 .eql (.t 10) (ci 2)), gm 23 24] [24])
 (.cond (.t 23) (.seq (.reg [] [gm 25 3, gm 26 4, gn (.bld 27 [(ci 3), (.t 25), (.t 26), (ci 0)]), gs 2 27] [3,4,25,26,27])
 .ret)
 (.seq (.reg [] [gn (.bin 29 .eql (.t 10) (ci 3)), gm 28 29] [29])
 (.cond (.t 28) (.seq (.reg [] [gm 30 3, gm 31 4, gn (.bld 32 [(ci 4), (.t 30), (.t 31), (ci 0)]), gs 2 32] [3,4,30,31,32])
 .ret)
 (.seq (.reg [] [gn (.bin 34 .eql (.t 10) (ci 4)), gm 33 34] [10,34])
 (.cond (.t 33) (.seq (.reg [] [gm 35 3, gm 36 0, gn (.cal 37 f_play_Picks_Num [(.t 36), (ci 7)] []), gn (.bin 38 .sub (.t 37) (ci 3)), gn (.bld 39 [(ci 5), (.t 35), (ci 0), (.t 38)]), gs 2 39] [0,3,35,36,37,38,39])
 .ret)
 .skip))))))))))))
 (.seq (.reg [] [gm 40 3, gm 41 0, gn (.cal 42 f_play_Picks_Num [(.t 41), (ci 64)] []), gn (.bin 43 .add (ci 1) (.t 42)), gn (.bld 44 [(ci 6), (.t 40), (ci 0), (.t 43)]), gs 2 44] [0,3,40,41,42,43,44])
 .ret)))), [.cell 2], none⟩
/- foliot/foliotref19.Go -/
def k_ref19_Go_L0b : K := (.seq (.seq (.reg [] [gm 55 11, gn (.bin 56 .geq (.t 55) (ci 0))] [55])
 (.cond (.t 56) .skip
 (.ext 1)))
 (.seq (.blk 2 (.seq (.reg [] [gf 59 10 6, gl 60 59, gm 61 11, ga 62 60 61, gl 63 62, gf 64 8 1, gl 65 64, gn (.bin 66 .eql (.t 63) (.t 65))] [59,60,61,62,63,64,65])
 (.cond (.t 66) (.seq (.reg [(0,2), (0,7), (5,7)] [gn (.bsl 67 []), gf 68 10 6, gl 69 68, gm 70 11, gn (.slc 71 (.t 69) none (some (.t 70))), gp 72 67 71, gf 73 10 6, gl 74 73, gm 75 11, gn (.bin 76 .add (.t 75) (ci 1)), gn (.slc 77 (.t 74) (some (.t 76)) none), gp 78 72 77, gf 79 10 6, gs 79 78] [11,67,68,69,70,71,72,73,74,75,76,77,78,79])
 (.ext 1))
 .skip)))
 (.reg [] [gm 57 11, gn (.bin 58 .sub (.t 57) (ci 1)), gm 11 58] [57,58])))
def k_ref19_Go_L0 : K := k_ref19_Go_L0b
def k_ref19_Go : KF := ⟨(.seq (.reg [] [gn (.box 2 (.t 0)), gn (.box 3 (.t 1)), gn (.alc 4 (.d (.agg [(.int .i64 0), (.int .i64 0), (.int .i64 0), (.int .i64 0), (.agg [(.int .i64 0), (.agg [(.int .i64 0), (.int .i64 0), (.int .i64 0), (.int .i64 0), (.int .i64 0), (.int .i64 0), (.int .i64 0), (.int .i64 0)]), (.sl true []), (.bool false)]), (.agg [(.int .i64 0), (.agg [(.int .i64 0), (.int .i64 0), (.int .i64 0), (.int .i64 0), (.int .i64 0), (.int .i64 0), (.int .i64 0), (.int .i64 0)]), (.sl true []), (.bool false)]), (.sl true []), (.bool false)]))), gn (.alc 5 (.d (.agg [(.int .i64 0), (.int .i64 0), (.int .i64 0), (.int .i64 0)]))), gn (.mv 6 (.c (.bool false)))] [0,1,6])
 (.seq (.reg [(2,4), (0,10), (1,10), (2,10), (4,10), (5,10), (0,11), (1,11), (2,11), (4,11), (5,11)] [gl 13 2, gl 14 3, gn (.das 15 f_ref19_Code [(.t 13), (.t 14)]), gf 16 3 4, gl 17 16, gn (.dat 18 f_ref1_Step [(.t 15), (.t 17)]), gm 12 18, ge 19 12 0, ge 20 12 1, ge 21 12 2, gn (.alc 7 (.d (.agg [(.int .i64 0), (.agg [(.int .i64 0), (.int .i64 0), (.int .i64 0), (.int .i64 0), (.int .i64 0), (.int .i64 0), (.int .i64 0), (.int .i64 0)]), (.sl true []), (.bool false)]))), gn (.alc 8 (.d (.agg [(.int .i64 0), (.int .i64 0), (.int .i64 0), (.int .i64 0)]))), gs 7 19, gs 8 20, gm 9 21] [2,12,13,14,15,16,17,18,19,20,21])
 (.seq (.seq (.reg [] [gm 22 9, gn (.un 23 .not (.t 22))] [9,22])
 (.cond (.t 23) (.seq (.reg [] [gl 24 3, gn (.bld 25 [(ci 0), (ci 0), (ci 0), (ci 0)]), gs 4 24, gs 5 25, gn (.mv 6 (.c (.bool false)))] [3,24,25])
 .ret)
 .skip))
 (.seq (.reg [] [gl 26 3, gn (.alc 10 (.d (.agg [(.int .i64 0), (.int .i64 0), (.int .i64 0), (.int .i64 0), (.agg [(.int .i64 0), (.agg [(.int .i64 0), (.int .i64 0), (.int .i64 0), (.int .i64 0), (.int .i64 0), (.int .i64 0), (.int .i64 0), (.int .i64 0)]), (.sl true []), (.bool false)]), (.agg [(.int .i64 0), (.agg [(.int .i64 0), (.int .i64 0), (.int .i64 0), (.int .i64 0), (.int .i64 0), (.int .i64 0), (.int .i64 0), (.int .i64 0)]), (.sl true []), (.bool false)]), (.sl true []), (.bool false)]))), gs 10 26] [26])
 (.seq (.reg [] [gl 27 7, gf 28 10 4, gs 28 27] [27,28])
 (.seq (.reg [] [gn (.bsl 29 []), gf 30 3 6, gl 31 30, gp 32 29 31, gf 33 10 6, gs 33 32] [3,29,30,31,32,33])
 (.seq (.seq (.reg [] [gf 34 8 0, gl 35 34] [34])
 (.blk 0 (.seq (.reg [] [gn (.bin 37 .eql (.t 35) (ci 11)), gm 36 37] [37])
 (.cond (.t 36) (.reg [] [gl 38 7, gf 39 10 5, gs 39 38] [7,38,39])
 (.seq (.reg [] [gn (.bin 41 .eql (.t 35) (ci 9)), gm 40 41] [41])
 (.cond (.t 40) (.reg [] [gf 42 10 6, gl 43 42, gf 44 8 1, gl 45 44, gn (.bsl 46 [(.t 45)]), gp 47 43 46, gf 48 10 6, gs 48 47] [42,43,44,45,46,47,48])
 (.seq (.reg [] [gn (.bin 50 .eql (.t 35) (ci 10)), gm 49 50] [35,50])
 (.cond (.t 49) (.seq (.reg [] [gf 51 10 6, gl 52 51, gk 53 52, gn (.bin 54 .sub (.t 53) (ci 1)), gm 11 54] [51,52,53,54])
 (.blk 1 (.loop [4,5,8,10,11] k_ref19_Go_L0)))
 .skip))))))))
 (.seq (.reg [(1,2)] [gl 80 10, gl 81 8, gs 4 80, gs 5 81, gn (.mv 6 (.c (.bool true)))] [8,10,80,81])
 .ret)))))))), [.cell 4, .cell 5, .t 6], none⟩
/- foliot/foliotref19.Code -/
def k_ref19_Code : KF := ⟨(.seq (.reg [] [gn (.box 2 (.t 0)), gn (.box 3 (.t 1)), gn (.mv 4 (.c (.d (.sl true []))))] [0,1,4])
 (.seq (.seq (.reg [] [gf 5 3 3, gl 6 5] [3,5])
 (.blk 0 (.seq (.reg [] [gn (.bin 8 .eql (.t 6) (ci 0)), gm 7 8] [8])
 (.cond (.t 7) (.seq (.reg [] [gf 9 2 3, gl 10 9, gm 4 10] [2,9,10])
 .ret)
 (.seq (.reg [] [gn (.bin 12 .eql (.t 6) (ci 1)), gm 11 12] [12])
 (.cond (.t 11) (.seq (.reg [] [gf 13 2 4, gl 14 13, gm 4 14] [2,13,14])
 .ret)
 (.seq (.reg [] [gn (.bin 16 .eql (.t 6) (ci 2)), gm 15 16] [6,16])
 (.cond (.t 15) (.seq (.reg [] [gf 17 2 5, gl 18 17, gm 4 18] [2,17,18])
 .ret)
 .skip))))))))
 (.seq (.reg [] [gn (.mv 4 (.c (.d (.sl true []))))] [])
 .ret))), [.t 4], none⟩
/- foliot/foliotref1.Step -/
def k_ref1_Step_L0b : K := (.seq (.seq (.reg [] [gf 173 3 2, gl 174 173, gk 175 174, gn (.bin 176 .gtr (.t 175) (ci 0)), gm 177 176, gh 177 (.fa 178 (.t 3) 2), gh 177 (.ld 179 (.t 178)), gh 177 (.fa 180 (.t 3) 2), gh 177 (.ld 181 (.t 180)), gh 177 (.len 182 (.t 181)), gh 177 (.bin 183 .sub (.t 182) (ci 1)), gh 177 (.ia 184 (.t 179) (.t 183)), gh 177 (.fa 185 (.t 184) 1), gh 177 (.ld 186 (.t 185)), gh 177 (.fa 187 (.t 3) 0), gh 177 (.ld 188 (.t 187)), gh 177 (.bin 189 .lss (.t 186) (.t 188)), gn (.pick 190 (.t 177) (.t 189) (.c (.bool false)))] [173,174,175,176,177,178,179,180,181,182,183,184,185,186,187,188,189])
 (.cond (.t 190) .skip
 (.ext 1)))
 (.blk 2 (.seq (.reg [] [gf 191 3 2, gl 192 191, gf 193 3 2, gl 194 193, gk 195 194, gn (.bin 196 .sub (.t 195) (ci 1)), ga 197 192 196, gl 198 197, gn (.alc 9 (.d (.agg [(.int .i64 0), (.int .i64 0), (.int .i64 0)]))), gs 9 198] [191,192,193,194,195,196,197,198])
 (.seq (.reg [] [gf 199 3 2, gl 200 199, gf 201 3 2, gl 202 201, gk 203 202, gn (.bin 204 .sub (.t 203) (ci 1)), gn (.slc 205 (.t 200) none (some (.t 204))), gf 206 3 2, gs 206 205] [199,200,201,202,203,204,205,206])
 (.seq (.reg [] [gf 207 9 2, gl 208 207, gn (.bin 209 .gtr (.t 208) (ci 0))] [207,208])
 (.cond (.t 209) (.seq (.reg [] [gf 210 9 2, gl 211 210, gn (.bin 212 .sub (.t 211) (ci 1)), gf 213 9 2, gs 213 212] [210,211,212,213])
 (.seq (.reg [] [gf 214 3 2, gl 215 214, gl 216 9, gn (.bsl 217 [(.t 216)]), gp 218 215 217, gf 219 3 2, gs 219 218] [214,215,216,217,218,219])
 (.seq (.reg [] [gf 220 9 0, gl 221 220, gf 222 3 0, gs 222 221] [9,220,221,222])
 (.ext 1))))
 .skip))))))
def k_ref1_Step_L0 : K := k_ref1_Step_L0b
def k_ref1_Step : KF := ⟨(.seq (.reg [] [gn (.box 3 (.t 1)), gn (.alc 4 (.d (.agg [(.int .i64 0), (.agg [(.int .i64 0), (.int .i64 0), (.int .i64 0), (.int .i64 0), (.int .i64 0), (.int .i64 0), (.int .i64 0), (.int .i64 0)]), (.sl true []), (.bool false)]))), gn (.alc 5 (.d (.agg [(.int .i64 0), (.int .i64 0), (.int .i64 0), (.int .i64 0)]))), gn (.mv 6 (.c (.bool false)))] [1,6])
 (.seq (.reg [] [gn (.bsl 10 []), gf 11 3 2, gl 12 11, gp 13 10 12, gf 14 3 2, gs 14 13] [10,11,12,13,14])
 (.seq (.seq (.reg [] [gf 15 3 3, gl 16 15, gm 17 16, gj 17 (.fa 18 (.t 3) 0), gj 17 (.ld 19 (.t 18)), gj 17 (.bin 20 .lss (.t 19) (ci 0)), gn (.pick 21 (.t 17) (.c (.bool true)) (.t 20)), gm 22 21, gj 22 (.fa 23 (.t 3) 0), gj 22 (.ld 24 (.t 23)), jm 22 25 0, gj 22 (.len 26 (.t 25)), gj 22 (.bin 27 .geq (.t 24) (.t 26)), gn (.pick 28 (.t 22) (.c (.bool true)) (.t 27)), gm 29 28, jm 29 30 0, gj 29 (.fa 31 (.t 3) 0), gj 29 (.ld 32 (.t 31)), gj 29 (.ia 33 (.t 30) (.t 32)), gj 29 (.ld 34 (.t 33)), gj 29 (.dat 35 f_ref1_MayInst [(.t 34)]), gj 29 (.un 36 .not (.t 35)), gn (.pick 37 (.t 29) (.c (.bool true)) (.t 36))] [15,16,17,18,19,20,21,22,23,24,25,26,27,28,29,30,31,32,33,34,35,36])
 (.cond (.t 37) (.seq (.reg [] [gl 38 3, gn (.bld 39 [(ci 0), (ci 0), (ci 0), (ci 0)]), gs 4 38, gs 5 39, gn (.mv 6 (.c (.bool false)))] [3,38,39])
 .ret)
 .skip))
 (.seq (.reg [] [gm 40 0, gf 41 3 0, gl 42 41, ga 43 40 42, gl 44 43, gn (.alc 7 (.d (.agg [(.int .i64 0), (.int .i64 0), (.int .i64 0), (.int .i64 0)]))), gs 7 44] [0,40,41,42,43,44])
 (.seq (.reg [] [gf 45 3 0, gl 46 45, gn (.bin 47 .add (.t 46) (ci 1)), gm 8 47] [45,46,47])
 (.seq (.seq (.reg [] [gf 48 7 0, gl 49 48] [48])
 (.blk 0 (.seq (.reg [] [gn (.bin 51 .eql (.t 49) (ci 0)), gm 50 51] [51])
 (.cond (.t 50) (.seq (.reg [] [gf 52 3 3, gn (.st (.t 52) (.c (.bool true)))] [52])
 (.reg [] [gf 53 3 0, gl 54 53, gm 8 54] [53,54]))
 (.seq (.reg [] [gn (.bin 56 .eql (.t 49) (ci 1)), gm 55 56] [56])
 (.cond (.t 55) (.reg [] [gf 57 7 1, gl 58 57, gf 59 7 3, gl 60 59, gf 61 3 1, ga 62 61 58, gs 62 60] [57,58,59,60,61,62])
 (.seq (.reg [] [gn (.bin 64 .eql (.t 49) (ci 2)), gm 63 64] [64])
 (.cond (.t 63) (.reg [] [gf 65 7 1, gl 66 65, gf 67 7 1, gl 68 67, gf 69 3 1, ga 70 69 68, gl 71 70, gf 72 7 2, gl 73 72, gf 74 3 1, ga 75 74 73, gl 76 75, gn (.bin 77 .add (.t 71) (.t 76)), gf 78 3 1, ga 79 78 66, gs 79 77] [65,66,67,68,69,70,71,72,73,74,75,76,77,78,79])
 (.seq (.reg [] [gn (.bin 81 .eql (.t 49) (ci 3)), gm 80 81] [81])
 (.cond (.t 80) (.reg [] [gf 82 7 1, gl 83 82, gf 84 7 1, gl 85 84, gf 86 3 1, ga 87 86 85, gl 88 87, gf 89 7 2, gl 90 89, gf 91 3 1, ga 92 91 90, gl 93 92, gn (.bin 94 .sub (.t 88) (.t 93)), gf 95 3 1, ga 96 95 83, gs 96 94] [82,83,84,85,86,87,88,89,90,91,92,93,94,95,96])
 (.seq (.reg [] [gn (.bin 98 .eql (.t 49) (ci 4)), gm 97 98] [98])
 (.cond (.t 97) (.reg [] [gf 99 7 1, gl 100 99, gf 101 7 1, gl 102 101, gf 103 3 1, ga 104 103 102, gl 105 104, gf 106 7 2, gl 107 106, gf 108 3 1, ga 109 108 107, gl 110 109, gn (.bin 111 .mul (.t 105) (.t 110)), gf 112 3 1, ga 113 112 100, gs 113 111] [99,100,101,102,103,104,105,106,107,108,109,110,111,112,113])
 (.seq (.reg [] [gn (.bin 115 .eql (.t 49) (ci 5)), gm 114 115] [115])
 (.cond (.t 114) (.reg [(1,9)] [gf 116 7 1, gl 117 116, gf 118 7 1, gl 119 118, gf 120 3 1, ga 121 120 119, gl 122 121, gf 123 7 3, gl 124 123, gn (.dat 125 f_ref1_Shift [(.t 122), (.t 124)]), gf 126 3 1, ga 127 126 117, gs 127 125] [116,117,118,119,120,121,122,123,124,125,126,127])
 (.seq (.reg [] [gn (.bin 129 .eql (.t 49) (ci 6)), gm 128 129] [129])
 (.cond (.t 128) (.reg [(1,9)] [gf 130 7 1, gl 131 130, gf 132 7 1, gl 133 132, gf 134 3 1, ga 135 134 133, gl 136 135, gf 137 7 3, gl 138 137, gn (.dat 139 f_ref1_Narrow [(.t 136), (.t 138)]), gf 140 3 1, ga 141 140 131, gs 141 139] [130,131,132,133,134,135,136,137,138,139,140,141])
 (.seq (.reg [] [gn (.bin 143 .eql (.t 49) (ci 7)), gm 142 143] [143])
 (.cond (.t 142) (.seq (.reg [] [gf 144 7 1, gl 145 144, gf 146 3 1, ga 147 146 145, gl 148 147, gn (.bin 149 .eql (.t 148) (ci 0))] [144,145,146,147,148])
 (.cond (.t 149) (.reg [] [gm 150 8, gf 151 7 3, gl 152 151, gn (.bin 153 .add (.t 150) (.t 152)), gm 8 153] [150,151,152,153])
 .skip))
 (.seq (.reg [] [gn (.bin 155 .eql (.t 49) (ci 8)), gm 154 155] [49,155])
 (.cond (.t 154) (.reg [] [gf 156 3 2, gl 157 156, gm 158 8, gf 159 3 0, gl 160 159, gf 161 7 2, gl 162 161, gn (.bin 163 .add (.t 160) (.t 162)), gf 164 7 3, gl 165 164, gn (.bin 166 .sub (.t 165) (ci 1)), gn (.bld 167 [(.t 158), (.t 163), (.t 166)]), gn (.bsl 168 [(.t 167)]), gp 169 157 168, gf 170 3 2, gs 170 169] [156,157,158,159,160,161,162,163,164,165,166,167,168,169,170])
 .skip))))))))))))))))))))
 (.seq (.reg [] [gm 171 8, gf 172 3 0, gs 172 171] [8,171,172])
 (.seq (.blk 1 (.loop [3,4,5,7] k_ref1_Step_L0))
 (.seq (.reg [(1,2)] [gl 223 3, gl 224 7, gs 4 223, gs 5 224, gn (.mv 6 (.c (.bool true)))] [3,7,223,224])
 .ret))))))))), [.cell 4, .cell 5, .t 6], none⟩
/- foliot/foliotref1.MayInst -/
def k_ref1_MayInst : KF := ⟨(.seq (.reg [] [gn (.box 1 (.t 0)), gn (.mv 2 (.c (.bool false)))] [0,2])
 (.seq (.reg [] [gn (.bld 4 [(ci 8)]), gn (.alc 3 (.d (.agg [(.int .i64 0)]))), gs 3 4] [4])
 (.seq (.seq (.reg [] [gf 5 1 0, gl 6 5] [5])
 (.blk 0 (.seq (.seq (.reg [] [gn (.bin 8 .eql (.t 6) (ci 0)), gm 7 8] [8])
 (.cond (.t 7) .skip
 (.reg [] [gn (.bin 9 .eql (.t 6) (ci 11)), gm 7 9] [9])))
 (.cond (.t 7) (.seq (.reg [] [gf 10 1 1, gl 11 10, gn (.bin 12 .eql (.t 11) (ci 0)), gm 13 12, gh 13 (.fa 14 (.t 1) 2), gh 13 (.ld 15 (.t 14)), gh 13 (.bin 16 .eql (.t 15) (ci 0)), gn (.pick 17 (.t 13) (.t 16) (.c (.bool false))), gm 18 17, gh 18 (.fa 19 (.t 1) 3), gh 18 (.ld 20 (.t 19)), gh 18 (.bin 21 .eql (.t 20) (ci 0)), gn (.pick 22 (.t 18) (.t 21) (.c (.bool false))), gm 2 22] [1,10,11,12,13,14,15,16,17,18,19,20,21,22])
 .ret)
 (.seq (.reg [] [gn (.bin 24 .eql (.t 6) (ci 1)), gm 23 24] [24])
 (.cond (.t 23) (.seq (.reg [] [gl 25 3, gf 26 1 1, gl 27 26, gn (.dat 28 f_ref1_places_has [(.t 25), (.t 27)]), gm 29 28, gh 29 (.fa 30 (.t 1) 2), gh 29 (.ld 31 (.t 30)), gh 29 (.bin 32 .eql (.t 31) (ci 0)), gn (.pick 33 (.t 29) (.t 32) (.c (.bool false))), gm 34 33, gh 34 (.fa 35 (.t 1) 3), gh 34 (.ld 36 (.t 35)), gh 34 (.bin 37 .geq (.t 36) (ci (-2147483648))), gn (.pick 38 (.t 34) (.t 37) (.c (.bool false))), gm 39 38, gh 39 (.fa 40 (.t 1) 3), gh 39 (.ld 41 (.t 40)), gh 39 (.bin 42 .lss (.t 41) (ci 2147483648)), gn (.pick 43 (.t 39) (.t 42) (.c (.bool false))), gm 2 43] [1,3,25,26,27,28,29,30,31,32,33,34,35,36,37,38,39,40,41,42,43])
 .ret)
 (.seq (.seq (.reg [] [gn (.bin 45 .eql (.t 6) (ci 2)), gm 44 45] [45])
 (.cond (.t 44) .skip
 (.seq (.reg [] [gn (.bin 46 .eql (.t 6) (ci 3)), gm 44 46] [46])
 (.cond (.t 44) .skip
 (.reg [] [gn (.bin 47 .eql (.t 6) (ci 4)), gm 44 47] [47])))))
 (.cond (.t 44) (.seq (.reg [] [gl 48 3, gf 49 1 1, gl 50 49, gn (.dat 51 f_ref1_places_has [(.t 48), (.t 50)]), gm 52 51, gh 52 (.ld 53 (.t 3)), gh 52 (.fa 54 (.t 1) 2), gh 52 (.ld 55 (.t 54)), gh 52 (.dat 56 f_ref1_places_has [(.t 53), (.t 55)]), gn (.pick 57 (.t 52) (.t 56) (.c (.bool false))), gm 58 57, gh 58 (.fa 59 (.t 1) 3), gh 58 (.ld 60 (.t 59)), gh 58 (.bin 61 .eql (.t 60) (ci 0)), gn (.pick 62 (.t 58) (.t 61) (.c (.bool false))), gm 2 62] [1,3,48,49,50,51,52,53,54,55,56,57,58,59,60,61,62])
 .ret)
 (.seq (.reg [] [gn (.bin 64 .eql (.t 6) (ci 5)), gm 63 64] [64])
 (.cond (.t 63) (.seq (.reg [] [gl 65 3, gf 66 1 1, gl 67 66, gn (.dat 68 f_ref1_places_has [(.t 65), (.t 67)]), gm 69 68, gh 69 (.fa 70 (.t 1) 2), gh 69 (.ld 71 (.t 70)), gh 69 (.bin 72 .eql (.t 71) (ci 0)), gn (.pick 73 (.t 69) (.t 72) (.c (.bool false))), gm 74 73, gh 74 (.fa 75 (.t 1) 3), gh 74 (.ld 76 (.t 75)), gh 74 (.bin 77 .geq (.t 76) (ci (-63))), gn (.pick 78 (.t 74) (.t 77) (.c (.bool false))), gm 79 78, gh 79 (.fa 80 (.t 1) 3), gh 79 (.ld 81 (.t 80)), gh 79 (.bin 82 .leq (.t 81) (ci 63)), gn (.pick 83 (.t 79) (.t 82) (.c (.bool false))), gm 2 83] [1,3,65,66,67,68,69,70,71,72,73,74,75,76,77,78,79,80,81,82,83])
 .ret)
 (.seq (.reg [] [gn (.bin 85 .eql (.t 6) (ci 6)), gm 84 85] [85])
 (.cond (.t 84) (.seq (.reg [] [gl 86 3, gf 87 1 1, gl 88 87, gn (.dat 89 f_ref1_places_has [(.t 86), (.t 88)]), gm 90 89, gh 90 (.fa 91 (.t 1) 2), gh 90 (.ld 92 (.t 91)), gh 90 (.bin 93 .eql (.t 92) (ci 0)), gn (.pick 94 (.t 90) (.t 93) (.c (.bool false))), gm 95 94, gh 95 (.fa 96 (.t 1) 3), gh 95 (.ld 97 (.t 96)), gh 95 (.bin 98 .geq (.t 97) (ci 1)), gn (.pick 99 (.t 95) (.t 98) (.c (.bool false))), gm 100 99, gh 100 (.fa 101 (.t 1) 3), gh 100 (.ld 102 (.t 101)), gh 100 (.bin 103 .leq (.t 102) (ci 64)), gn (.pick 104 (.t 100) (.t 103) (.c (.bool false))), gm 2 104] [1,3,86,87,88,89,90,91,92,93,94,95,96,97,98,99,100,101,102,103,104])
 .ret)
 (.seq (.reg [] [gn (.bin 106 .eql (.t 6) (ci 7)), gm 105 106] [106])
 (.cond (.t 105) (.seq (.reg [] [gl 107 3, gf 108 1 1, gl 109 108, gn (.dat 110 f_ref1_places_has [(.t 107), (.t 109)]), gm 111 110, gh 111 (.fa 112 (.t 1) 2), gh 111 (.ld 113 (.t 112)), gh 111 (.bin 114 .eql (.t 113) (ci 0)), gn (.pick 115 (.t 111) (.t 114) (.c (.bool false))), gm 116 115, gh 116 (.fa 117 (.t 1) 3), gh 116 (.ld 118 (.t 117)), gh 116 (.bin 119 .geq (.t 118) (ci 1)), gn (.pick 120 (.t 116) (.t 119) (.c (.bool false))), gm 121 120, gh 121 (.fa 122 (.t 1) 3), gh 121 (.ld 123 (.t 122)), gh 121 (.bin 124 .leq (.t 123) (ci 24)), gn (.pick 125 (.t 121) (.t 124) (.c (.bool false))), gm 2 125] [1,3,107,108,109,110,111,112,113,114,115,116,117,118,119,120,121,122,123,124,125])
 .ret)
 (.seq (.reg [] [gn (.bin 127 .eql (.t 6) (ci 8)), gm 126 127] [127])
 (.cond (.t 126) (.seq (.reg [] [gf 128 1 1, gl 129 128, gn (.bin 130 .eql (.t 129) (ci 0)), gm 131 130, gh 131 (.fa 132 (.t 1) 2), gh 131 (.ld 133 (.t 132)), gh 131 (.bin 134 .geq (.t 133) (ci 1)), gn (.pick 135 (.t 131) (.t 134) (.c (.bool false))), gm 136 135, gh 136 (.fa 137 (.t 1) 2), gh 136 (.ld 138 (.t 137)), gh 136 (.bin 139 .leq (.t 138) (ci 24)), gn (.pick 140 (.t 136) (.t 139) (.c (.bool false))), gm 141 140, gh 141 (.fa 142 (.t 1) 3), gh 141 (.ld 143 (.t 142)), gh 141 (.bin 144 .geq (.t 143) (ci 1)), gn (.pick 145 (.t 141) (.t 144) (.c (.bool false))), gm 146 145, gh 146 (.fa 147 (.t 1) 3), gh 146 (.ld 148 (.t 147)), gh 146 (.bin 149 .leq (.t 148) (ci 20)), gn (.pick 150 (.t 146) (.t 149) (.c (.bool false))), gm 2 150] [1,128,129,130,131,132,133,134,135,136,137,138,139,140,141,142,143,144,145,146,147,148,149,150])
 .ret)
 (.seq (.seq (.reg [] [gn (.bin 152 .eql (.t 6) (ci 9)), gm 151 152] [152])
 (.cond (.t 151) .skip
 (.reg [] [gn (.bin 153 .eql (.t 6) (ci 10)), gm 151 153] [6,153])))
 (.cond (.t 151) (.seq (.reg [] [gf 154 1 1, gl 155 154, gn (.bin 156 .geq (.t 155) (ci 0)), gm 157 156, gh 157 (.fa 158 (.t 1) 1), gh 157 (.ld 159 (.t 158)), gh 157 (.bin 160 .lss (.t 159) (ci 4)), gn (.pick 161 (.t 157) (.t 160) (.c (.bool false))), gm 162 161, gh 162 (.fa 163 (.t 1) 2), gh 162 (.ld 164 (.t 163)), gh 162 (.bin 165 .eql (.t 164) (ci 0)), gn (.pick 166 (.t 162) (.t 165) (.c (.bool false))), gm 167 166, gh 167 (.fa 168 (.t 1) 3), gh 167 (.ld 169 (.t 168)), gh 167 (.bin 170 .eql (.t 169) (ci 0)), gn (.pick 171 (.t 167) (.t 170) (.c (.bool false))), gm 2 171] [1,154,155,156,157,158,159,160,161,162,163,164,165,166,167,168,169,170,171])
 .ret)
 .skip))))))))))))))))))
 (.seq (.reg [] [gn (.mv 2 (.c (.bool false)))] [])
 .ret)))), [.t 2], none⟩
/- (foliot/foliotref1.places).has -/
def k_ref1_places_has : KF := ⟨(.seq (.reg [] [gn (.box 2 (.t 0)), gn (.mv 4 (.c (.bool false)))] [0,4])
 (.seq (.reg [] [gm 5 1, gn (.bin 6 .geq (.t 5) (ci 0)), gm 7 6, hm 7 8 1, gh 7 (.fa 9 (.t 2) 0), gh 7 (.ld 10 (.t 9)), gh 7 (.bin 11 .lss (.t 8) (.t 10)), gn (.pick 12 (.t 7) (.t 11) (.c (.bool false))), gm 4 12] [1,2,5,6,7,8,9,10,11,12])
 .ret)), [.t 4], none⟩
/- foliot/foliotref1.Shift -/
def k_ref1_Shift_L0b : K := (.seq (.seq (.reg [] [gm 12 1, gn (.bin 13 .gtr (.t 12) (ci 0))] [12])
 (.cond (.t 13) .skip
 (.ext 0)))
 (.seq (.blk 1 (.reg [] [gm 16 0, gn (.bin 17 .mul (.t 16) (ci 2)), gm 0 17] [16,17]))
 (.reg [] [gm 14 1, gn (.bin 15 .sub (.t 14) (ci 1)), gm 1 15] [14,15])))
def k_ref1_Shift_L0 : K := k_ref1_Shift_L0b
def k_ref1_Shift_L1b : K := (.seq (.seq (.reg [] [gm 18 1, gn (.bin 19 .lss (.t 18) (ci 0))] [18])
 (.cond (.t 19) .skip
 (.ext 2)))
 (.seq (.blk 3 (.seq (.reg [] [gm 22 0, gn (.bin 23 .lss (.t 22) (ci 0)), gm 24 23, hm 24 25 0, gh 24 (.bin 26 .rem (.t 25) (ci 2)), gh 24 (.bin 27 .neq (.t 26) (ci 0)), gn (.pick 28 (.t 24) (.t 27) (.c (.bool false)))] [22,23,24,25,26,27])
 (.cond (.t 28) (.reg [] [gm 29 0, gn (.bin 30 .quo (.t 29) (ci 2)), gn (.bin 31 .sub (.t 30) (ci 1)), gm 0 31] [29,30,31])
 (.reg [] [gm 32 0, gn (.bin 33 .quo (.t 32) (ci 2)), gm 0 33] [32,33]))))
 (.reg [] [gm 20 1, gn (.bin 21 .add (.t 20) (ci 1)), gm 1 21] [20,21])))
def k_ref1_Shift_L1 : K := k_ref1_Shift_L1b
def k_ref1_Shift : KF := ⟨(.seq (.reg [] [gn (.mv 4 (ci 0))] [4])
 (.seq (.seq (.reg [] [gm 5 1, gn (.bin 6 .lss (.t 5) (ci (-63))), gm 7 6, jm 7 8 1, gj 7 (.bin 9 .gtr (.t 8) (ci 63)), gn (.pick 10 (.t 7) (.c (.bool true)) (.t 9))] [5,6,7,8,9])
 (.cond (.t 10) (.seq (.reg [] [gm 11 0, gm 4 11] [0,11])
 .ret)
 .skip))
 (.seq (.blk 0 (.loop [0,1] k_ref1_Shift_L0))
 (.seq (.blk 2 (.loop [0,1] k_ref1_Shift_L1))
 (.seq (.reg [] [gm 34 0, gm 4 34] [0,34])
 .ret))))), [.t 4], none⟩
/- foliot/foliotref1.Narrow -/
def k_ref1_Narrow : KF := ⟨(.seq (.reg [] [gn (.mv 4 (ci 0))] [4])
 (.seq (.seq (.reg [] [gm 6 1, gn (.bin 7 .lss (.t 6) (ci 1)), gm 8 7, jm 8 9 1, gj 8 (.bin 10 .gtr (.t 9) (ci 63)), gn (.pick 11 (.t 8) (.c (.bool true)) (.t 10))] [6,7,8,9,10])
 (.cond (.t 11) (.seq (.reg [] [gm 12 0, gm 4 12] [0,12])
 .ret)
 .skip))
 (.seq (.reg [] [gm 13 0, gn (.cv 14 .u64 (.t 13)), gm 15 1, gn (.dat 16 f_ref1_bit [(.t 15)]), gn (.bin 17 .rem (.t 14) (.t 16)), gm 5 17] [0,13,14,15,16,17])
 (.seq (.seq (.reg [] [gm 18 5, gm 19 1, gn (.bin 20 .sub (.t 19) (ci 1)), gn (.dat 21 f_ref1_bit [(.t 20)]), gn (.bin 22 .geq (.t 18) (.t 21))] [18,19,20,21])
 (.cond (.t 22) (.seq (.reg [] [gm 23 1, gn (.dat 24 f_ref1_bit [(.t 23)]), gm 25 5, gn (.bin 26 .sub (.t 24) (.t 25)), gn (.cv 27 .i64 (.t 26)), gn (.un 28 .neg (.t 27)), gm 4 28] [1,5,23,24,25,26,27,28])
 .ret)
 .skip))
 (.seq (.reg [] [gm 29 5, gn (.cv 30 .i64 (.t 29)), gm 4 30] [5,29,30])
 .ret))))), [.t 4], none⟩
/- foliot/foliotref1.bit -/
def k_ref1_bit_L0b : K := (.seq (.seq (.reg [] [gm 4 0, gn (.bin 5 .gtr (.t 4) (ci 0))] [4])
 (.cond (.t 5) .skip
 (.ext 0)))
 (.seq (.blk 1 (.reg [] [gm 8 3, gn (.bin 9 .mul (.c (.int .u64 2)) (.t 8)), gm 3 9] [8,9]))
 (.reg [] [gm 6 0, gn (.bin 7 .sub (.t 6) (ci 1)), gm 0 7] [6,7])))
def k_ref1_bit_L0 : K := k_ref1_bit_L0b
def k_ref1_bit : KF := ⟨(.seq (.reg [] [gn (.mv 2 (.c (.int .u64 0)))] [2])
 (.seq (.reg [] [gn (.mv 3 (.c (.int .u64 1)))] [])
 (.seq (.blk 0 (.loop [0,3] k_ref1_bit_L0))
 (.seq (.reg [] [gm 10 3, gm 2 10] [3,10])
 .ret)))), [.t 2], none⟩
/- foliot/foliotref11.SameSemas -/
def k_ref11_SameSemas_L0b : K := (.seq (.seq (.reg [] [gm 11 5, gm 12 0, gk 13 12, gn (.bin 14 .lss (.t 11) (.t 13))] [11,12,13])
 (.cond (.t 14) .skip
 (.ext 0)))
 (.seq (.blk 1 (.seq (.reg [] [gm 17 0, gm 18 5, ga 19 17 18, gl 20 19, gm 21 1, gm 22 5, ga 23 21 22, gl 24 23, gn (.bin 25 .neq (.t 20) (.t 24))] [17,18,19,20,21,22,23,24])
 (.cond (.t 25) (.seq (.reg [] [gn (.mv 4 (.c (.bool false)))] [])
 .ret)
 .skip)))
 (.reg [] [gm 15 5, gn (.bin 16 .add (.t 15) (ci 1)), gm 5 16] [15,16])))
def k_ref11_SameSemas_L0 : K := k_ref11_SameSemas_L0b
def k_ref11_SameSemas : KF := ⟨(.seq (.reg [] [gn (.mv 4 (.c (.bool false)))] [4])
 (.seq (.seq (.reg [] [gm 6 0, gk 7 6, gm 8 1, gk 9 8, gn (.bin 10 .neq (.t 7) (.t 9))] [6,7,8,9])
 (.cond (.t 10) (.seq (.reg [] [gn (.mv 4 (.c (.bool false)))] [])
 .ret)
 .skip))
 (.seq (.seq (.reg [] [gn (.mv 5 (ci 0))] [])
 (.blk 0 (.loop [0,1,5] k_ref11_SameSemas_L0)))
 (.seq (.reg [] [gn (.mv 4 (.c (.bool true)))] [])
 .ret)))), [.t 4], none⟩
/- foliot/foliotref19.SameJob -/
def k_ref19_SameJob : KF := ⟨(.seq (.reg [] [gn (.box 2 (.t 0)), gn (.box 3 (.t 1)), gn (.mv 4 (.c (.bool false)))] [0,1,4])
 (.seq (.reg [] [gf 5 2 0, gl 6 5, gf 7 3 0, gl 8 7, gn (.bin 9 .eql (.t 6) (.t 8)), gm 10 9, gh 10 (.fa 11 (.t 2) 1), gh 10 (.ld 12 (.t 11)), gh 10 (.fa 13 (.t 3) 1), gh 10 (.ld 14 (.t 13)), gh 10 (.bin 15 .eql (.t 12) (.t 14)), gn (.pick 16 (.t 10) (.t 15) (.c (.bool false))), gm 17 16, gh 17 (.fa 18 (.t 2) 2), gh 17 (.ld 19 (.t 18)), gh 17 (.fa 20 (.t 3) 2), gh 17 (.ld 21 (.t 20)), gh 17 (.bin 22 .eql (.t 19) (.t 21)), gn (.pick 23 (.t 17) (.t 22) (.c (.bool false))), gm 24 23, gh 24 (.fa 25 (.t 2) 3), gh 24 (.ld 26 (.t 25)), gh 24 (.fa 27 (.t 3) 3), gh 24 (.ld 28 (.t 27)), gh 24 (.bin 29 .eql (.t 26) (.t 28)), gn (.pick 30 (.t 24) (.t 29) (.c (.bool false))), gm 31 30, gh 31 (.fa 32 (.t 2) 7), gh 31 (.ld 33 (.t 32)), gh 31 (.fa 34 (.t 3) 7), gh 31 (.ld 35 (.t 34)), gh 31 (.bin 36 .eql (.t 33) (.t 35)), gn (.pick 37 (.t 31) (.t 36) (.c (.bool false))), gm 38 37, gh 38 (.fa 39 (.t 2) 4), gh 38 (.ld 40 (.t 39)), gh 38 (.fa 41 (.t 3) 4), gh 38 (.ld 42 (.t 41)), gh 38 (.dat 43 f_ref1_SameMachine [(.t 40), (.t 42)]), gn (.pick 44 (.t 38) (.t 43) (.c (.bool false))), gm 45 44, gh 45 (.fa 46 (.t 2) 5), gh 45 (.ld 47 (.t 46)), gh 45 (.fa 48 (.t 3) 5), gh 45 (.ld 49 (.t 48)), gh 45 (.dat 50 f_ref1_SameMachine [(.t 47), (.t 49)]), gn (.pick 51 (.t 45) (.t 50) (.c (.bool false))), gm 52 51, gh 52 (.fa 53 (.t 2) 6), gh 52 (.ld 54 (.t 53)), gh 52 (.fa 55 (.t 3) 6), gh 52 (.ld 56 (.t 55)), gh 52 (.dat 57 f_ref11_SameInts [(.t 54), (.t 56)]), gn (.pick 58 (.t 52) (.t 57) (.c (.bool false))), gm 4 58] [2,3,5,6,7,8,9,10,11,12,13,14,15,16,17,18,19,20,21,22,23,24,25,26,27,28,29,30,31,32,33,34,35,36,37,38,39,40,41,42,43,44,45,46,47,48,49,50,51,52,53,54,55,56,57,58])
 .ret)), [.t 4], none⟩
/- foliot/foliotref1.SameMachine -/
def k_ref1_SameMachine_L0b : K := (.seq (.seq (.reg [] [gm 34 5, gf 35 2 2, gl 36 35, gk 37 36, gn (.bin 38 .lss (.t 34) (.t 37))] [34,35,36,37])
 (.cond (.t 38) .skip
 (.ext 0)))
 (.seq (.blk 1 (.seq (.reg [] [gf 41 2 2, gl 42 41, gm 43 5, ga 44 42 43, gl 45 44, gf 46 3 2, gl 47 46, gm 48 5, ga 49 47 48, gl 50 49, gn (.bin 51 .neq (.t 45) (.t 50))] [41,42,43,44,45,46,47,48,49,50])
 (.cond (.t 51) (.seq (.reg [] [gn (.mv 4 (.c (.bool false)))] [])
 .ret)
 .skip)))
 (.reg [] [gm 39 5, gn (.bin 40 .add (.t 39) (ci 1)), gm 5 40] [39,40])))
def k_ref1_SameMachine_L0 : K := k_ref1_SameMachine_L0b
def k_ref1_SameMachine : KF := ⟨(.seq (.reg [] [gn (.box 2 (.t 0)), gn (.box 3 (.t 1)), gn (.mv 4 (.c (.bool false)))] [0,1,4])
 (.seq (.seq (.reg [] [gf 6 2 0, gl 7 6, gf 8 3 0, gl 9 8, gn (.bin 10 .neq (.t 7) (.t 9)), gm 11 10, gj 11 (.fa 12 (.t 2) 1), gj 11 (.ld 13 (.t 12)), gj 11 (.fa 14 (.t 3) 1), gj 11 (.ld 15 (.t 14)), gj 11 (.bin 16 .neq (.t 13) (.t 15)), gn (.pick 17 (.t 11) (.c (.bool true)) (.t 16)), gm 18 17, gj 18 (.fa 19 (.t 2) 3), gj 18 (.ld 20 (.t 19)), gj 18 (.fa 21 (.t 3) 3), gj 18 (.ld 22 (.t 21)), gj 18 (.bin 23 .neq (.t 20) (.t 22)), gn (.pick 24 (.t 18) (.c (.bool true)) (.t 23)), gm 25 24, gj 25 (.fa 26 (.t 2) 2), gj 25 (.ld 27 (.t 26)), gj 25 (.len 28 (.t 27)), gj 25 (.fa 29 (.t 3) 2), gj 25 (.ld 30 (.t 29)), gj 25 (.len 31 (.t 30)), gj 25 (.bin 32 .neq (.t 28) (.t 31)), gn (.pick 33 (.t 25) (.c (.bool true)) (.t 32))] [6,7,8,9,10,11,12,13,14,15,16,17,18,19,20,21,22,23,24,25,26,27,28,29,30,31,32])
 (.cond (.t 33) (.seq (.reg [] [gn (.mv 4 (.c (.bool false)))] [])
 .ret)
 .skip))
 (.seq (.seq (.reg [] [gn (.mv 5 (ci 0))] [])
 (.blk 0 (.loop [2,3,5] k_ref1_SameMachine_L0)))
 (.seq (.reg [] [gn (.mv 4 (.c (.bool true)))] [])
 .ret)))), [.t 4], none⟩
/- foliot/foliotref11.SameInts -/
def k_ref11_SameInts_L0b : K := (.seq (.seq (.reg [] [gm 11 5, gm 12 0, gk 13 12, gn (.bin 14 .lss (.t 11) (.t 13))] [11,12,13])
 (.cond (.t 14) .skip
 (.ext 0)))
 (.seq (.blk 1 (.seq (.reg [] [gm 17 0, gm 18 5, ga 19 17 18, gl 20 19, gm 21 1, gm 22 5, ga 23 21 22, gl 24 23, gn (.bin 25 .neq (.t 20) (.t 24))] [17,18,19,20,21,22,23,24])
 (.cond (.t 25) (.seq (.reg [] [gn (.mv 4 (.c (.bool false)))] [])
 .ret)
 .skip)))
 (.reg [] [gm 15 5, gn (.bin 16 .add (.t 15) (ci 1)), gm 5 16] [15,16])))
def k_ref11_SameInts_L0 : K := k_ref11_SameInts_L0b
def k_ref11_SameInts : KF := ⟨(.seq (.reg [] [gn (.mv 4 (.c (.bool false)))] [4])
 (.seq (.seq (.reg [] [gm 6 0, gk 7 6, gm 8 1, gk 9 8, gn (.bin 10 .neq (.t 7) (.t 9))] [6,7,8,9])
 (.cond (.t 10) (.seq (.reg [] [gn (.mv 4 (.c (.bool false)))] [])
 .ret)
 .skip))
 (.seq (.seq (.reg [] [gn (.mv 5 (ci 0))] [])
 (.blk 0 (.loop [0,1,5] k_ref11_SameInts_L0)))
 (.seq (.reg [] [gn (.mv 4 (.c (.bool true)))] [])
 .ret)))), [.t 4], none⟩
/- foliot/foliotlaw19.JobLost -/
def k_law19_JobLost_L0b : K := (.seq (.seq (.reg [] [gf 61 13 4, gf 62 61 3, gl 63 62, gn (.un 64 .not (.t 63))] [61,62,63])
 (.cond (.t 64) .skip
 (.ext 0)))
 (.blk 1 (.seq (.reg [] [gm 65 14, gn (.bin 66 .add (.t 65) (ci 1)), gm 14 66] [65,66])
 (.seq (.reg [] [gm 67 16, gn (.bin 68 .add (.t 67) (ci 1)), gm 16 68] [67,68])
 (.seq (.seq (.reg [] [gm 69 14, gf 70 8 0, gl 71 70, gm 72 15, gm 73 12, gf 74 8 0, gl 75 74, gn (.mx 76 [(.t 73), (.t 75)]), gn (.bin 77 .mul (.t 72) (.t 76)), gn (.bin 78 .add (.t 71) (.t 77)), gm 79 15, gn (.bin 80 .add (.t 78) (.t 79)), gn (.bin 81 .add (.t 80) (ci 1)), gn (.bin 82 .gtr (.t 69) (.t 81))] [69,70,71,72,73,74,75,76,77,78,79,80,81])
 (.cond (.t 82) (.seq (.reg [] [gn (.mv 6 (.c (.bool false)))] [])
 .ret)
 .skip))
 (.seq (.seq (.reg [] [gm 83 15, gm 84 2, gk 85 84, gn (.bin 86 .lss (.t 83) (.t 85)), gm 87 86, hm 87 88 16, hm 87 89 2, hm 87 90 15, gh 87 (.ia 91 (.t 89) (.t 90)), gh 87 (.ld 92 (.t 91)), gh 87 (.bin 93 .rem (.t 92) (.c (.int .u8 30))), gh 87 (.cv 94 .i64 (.t 93)), gh 87 (.bin 95 .gtr (.t 88) (.t 94)), gn (.pick 96 (.t 87) (.t 95) (.c (.bool false)))] [83,84,85,86,87,88,89,90,91,92,93,94,95])
 (.cond (.t 96) (.seq (.reg [] [gl 97 7, gl 98 13, gn (.das 99 f_job_Back [(.t 97), (.t 98)]), gs 13 99] [97,98,99])
 (.seq (.reg [] [gm 100 15, gn (.bin 101 .add (.t 100) (ci 1)), gm 15 101, gn (.mv 16 (ci 0))] [100,101])
 (.ext 1)))
 .skip))
 (.seq (.reg [] [gl 103 7, gl 104 13, gn (.das 105 f_job_Go [(.t 103), (.t 104)]), gm 102 105, ge 106 102 0, ge 107 102 1, ge 108 102 2, gn (.alc 17 (.d (.agg [(.int .i64 0), (.int .i64 0), (.int .i64 0), (.int .i64 0), (.agg [(.int .i64 0), (.agg [(.int .i64 0), (.int .i64 0), (.int .i64 0), (.int .i64 0), (.int .i64 0), (.int .i64 0), (.int .i64 0), (.int .i64 0)]), (.sl true []), (.bool false)]), (.agg [(.int .i64 0), (.agg [(.int .i64 0), (.int .i64 0), (.int .i64 0), (.int .i64 0), (.int .i64 0), (.int .i64 0), (.int .i64 0), (.int .i64 0)]), (.sl true []), (.bool false)]), (.sl true []), (.bool false)]))), gn (.alc 18 (.d (.agg [(.int .i64 0), (.int .i64 0), (.int .i64 0), (.int .i64 0)]))), gs 17 106, gs 18 107, gm 19 108] [18,102,103,104,105,106,107,108])
 (.seq (.seq (.reg [] [gm 109 19, gn (.un 110 .not (.t 109))] [19,109])
 (.cond (.t 110) (.seq (.reg [] [gn (.mv 6 (.c (.bool false)))] [])
 .ret)
 .skip))
 (.reg [] [gl 111 17, gs 13 111] [17,111])))))))))
def k_law19_JobLost_L0 : K := k_law19_JobLost_L0b
def k_law19_JobLost : KF := ⟨(.seq (.reg [] [gn (.mv 6 (.c (.bool false)))] [6])
 (.seq (.seq (.reg [] [gn (.dat 24 f_law19_begun []), gn (.un 25 .not (.t 24))] [24])
 (.cond (.t 25) (.seq (.reg [] [gn (.mv 6 (.c (.bool false)))] [])
 .ret)
 .skip))
 (.seq (.seq (.reg [] [gm 26 0, gk 27 26, gn (.bin 28 .gtr (.t 27) (ci 150)), gm 29 28, jm 29 30 2, gj 29 (.len 31 (.t 30)), gj 29 (.bin 32 .gtr (.t 31) (ci 20)), gn (.pick 33 (.t 29) (.c (.bool true)) (.t 32))] [26,27,28,29,30,31,32])
 (.cond (.t 33) (.seq (.reg [] [gn (.mv 6 (.c (.bool true)))] [])
 .ret)
 .skip))
 (.seq (.reg [] [gm 34 0, gn (.cal 35 f_play_Made [(.t 34)] []), gn (.cad 36 f_play_Picks_Task [(.t 35), (ci 1), (ci 3)] []), gn (.alc 7 (.d (.agg [(.int .i64 0), (.int .i64 0), (.int .i64 0), (.sl true []), (.sl true []), (.sl true [])]))), gs 7 36] [0,34,35,36])
 (.seq (.reg [] [gf 38 7 3, gl 39 38, gn (.dat 40 f_ref1_Cost [(.t 39)]), gm 37 40, ge 41 37 0, ge 42 37 1, gn (.alc 8 (.d (.agg [(.int .i64 0), (.int .i64 0), (.sl true [])]))), gs 8 41, gm 9 42] [37,38,39,40,41,42])
 (.seq (.seq (.reg [] [gm 43 9, gn (.un 44 .not (.t 43))] [9,43])
 (.cond (.t 44) (.seq (.reg [] [gn (.mv 6 (.c (.bool false)))] [])
 .ret)
 .skip))
 (.seq (.reg [] [gf 46 7 4, gl 47 46, gn (.dat 48 f_ref1_Cost [(.t 47)]), gm 45 48, ge 49 45 0, ge 50 45 1, gn (.alc 10 (.d (.agg [(.int .i64 0), (.int .i64 0), (.sl true [])]))), gs 10 49, gm 11 50] [11,45,46,47,48,49,50])
 (.seq (.reg [] [gf 51 8 1, gl 52 51, gm 12 52] [51,52])
 (.seq (.seq (.reg [] [gf 53 7 4, gl 54 53, gk 55 54, gn (.bin 56 .gtr (.t 55) (ci 0))] [53,54,55])
 (.cond (.t 56) (.reg [] [gf 57 10 0, gl 58 57, gm 12 58] [57,58])
 .skip))
 (.seq (.reg [] [gm 59 1, gn (.das 60 f_job_New [(ci 0), (ci 0), (.t 59)]), gn (.alc 13 (.d (.agg [(.int .i64 0), (.int .i64 0), (.int .i64 0), (.int .i64 0), (.agg [(.int .i64 0), (.agg [(.int .i64 0), (.int .i64 0), (.int .i64 0), (.int .i64 0), (.int .i64 0), (.int .i64 0), (.int .i64 0), (.int .i64 0)]), (.sl true []), (.bool false)]), (.agg [(.int .i64 0), (.agg [(.int .i64 0), (.int .i64 0), (.int .i64 0), (.int .i64 0), (.int .i64 0), (.int .i64 0), (.int .i64 0), (.int .i64 0)]), (.sl true []), (.bool false)]), (.sl true []), (.bool false)]))), gs 13 60] [59,60])
 (.seq (.reg [] [gn (.mv 14 (ci 0)), gn (.mv 15 (ci 0))] [])
 (.seq (.reg [] [gn (.mv 16 (ci 0))] [])
 (.seq (.blk 0 (.loop [1,2,7,8,10,12,13,14,15,16] k_law19_JobLost_L0))
 (.seq (.reg [] [gf 113 7 3, gl 114 113, gm 115 1, gn (.dat 116 f_ref1_Run [(.t 114), (.t 115)]), gm 112 116, ge 117 112 0, ge 118 112 1, ge 119 112 2, gm 20 117, gm 21 118, gm 22 119] [21,22,112,113,114,115,116,117,118,119])
 (.seq (.seq (.reg [] [gf 120 13 3, gl 121 120, gn (.bin 122 .eql (.t 121) (ci 1))] [120,121])
 (.cond (.t 122) (.reg [] [gf 124 7 4, gl 125 124, gm 126 1, gn (.dat 127 f_ref1_Run [(.t 125), (.t 126)]), gm 123 127, ge 128 123 0, ge 129 123 1, ge 130 123 2, gm 20 128] [1,123,124,125,126,127,128,129,130])
 .skip))
 (.seq (.reg [] [gf 131 8 0, gl 132 131, gm 133 15, gm 134 12, gn (.bin 135 .mul (.t 133) (.t 134)), gn (.bin 136 .add (.t 132) (.t 135)), gm 23 136] [12,131,132,133,134,135,136])
 (.seq (.seq (.reg [] [gf 137 10 0, gl 138 137, gf 139 8 0, gl 140 139, gn (.bin 141 .gtr (.t 138) (.t 140))] [8,10,137,138,139,140])
 (.cond (.t 141) (.seq (.reg [] [gn (.mv 6 (.c (.bool true)))] [])
 .ret)
 .skip))
 (.seq (.reg [] [gf 142 13 4, gf 143 142 1, gn (.ia 144 (.t 143) (ci 0)), gl 145 144, gm 146 20, gn (.bin 147 .eql (.t 145) (.t 146)), gm 148 147, gh 148 (.fa 149 (.t 13) 6), gh 148 (.ld 150 (.t 149)), gh 148 (.len 151 (.t 150)), gh 148 (.bin 152 .eql (.t 151) (ci 0)), gn (.pick 153 (.t 148) (.t 152) (.c (.bool false))), gm 154 153, hm 154 155 14, hm 154 156 23, gh 154 (.bin 157 .leq (.t 155) (.t 156)), gn (.pick 158 (.t 154) (.t 157) (.c (.bool false))), gm 159 158, gh 159 (.fa 160 (.t 13) 3), gh 159 (.ld 161 (.t 160)), gh 159 (.bin 162 .eql (.t 161) (ci 1)), hm 159 163 15, gh 159 (.bin 164 .gtr (.t 163) (ci 0)), hm 159 165 164, gh 165 (.fa 166 (.t 7) 4), gh 165 (.ld 167 (.t 166)), gh 165 (.len 168 (.t 167)), gh 165 (.bin 169 .gtr (.t 168) (ci 0)), gh 159 (.pick 170 (.t 165) (.t 169) (.c (.bool false))), gh 159 (.bin 171 .eql (.t 162) (.t 170)), gn (.pick 172 (.t 159) (.t 171) (.c (.bool false))), gm 6 172] [7,13,14,15,20,23,142,143,144,145,146,147,148,149,150,151,152,153,154,155,156,157,158,159,160,161,162,163,164,165,166,167,168,169,170,171,172])
 .ret)))))))))))))))))), [.t 6], none⟩
/- foliot/foliotlaw19.begun -/
def k_law19_begun : KF := ⟨(.seq (.reg [] [gn (.mv 0 (.c (.bool false)))] [0])
 (.seq (.reg [] [gn (.bld 11 [(ci 11), (ci 0), (ci 0), (ci 0)]), gn (.bld 12 [(ci 9), (ci 2), (ci 0), (ci 0)]), gn (.bld 13 [(ci 10), (ci 2), (ci 0), (ci 0)]), gn (.bld 14 [(ci 0), (ci 0), (ci 0), (ci 0)]), gn (.bsl 15 [(.t 11), (.t 12), (.t 13), (.t 14)]), gn (.bld 16 [(ci 0), (ci 0), (ci 0), (.t 15), (.c (.d (.sl true []))), (.c (.d (.sl true [])))]), gn (.alc 1 (.d (.agg [(.int .i64 0), (.int .i64 0), (.int .i64 0), (.sl true []), (.sl true []), (.sl true [])]))), gs 1 16] [11,12,13,14,15,16])
 (.seq (.reg [] [gn (.das 17 f_job_New [(ci 1), (ci 5), (ci 7)]), gn (.alc 2 (.d (.agg [(.int .i64 0), (.int .i64 0), (.int .i64 0), (.int .i64 0), (.agg [(.int .i64 0), (.agg [(.int .i64 0), (.int .i64 0), (.int .i64 0), (.int .i64 0), (.int .i64 0), (.int .i64 0), (.int .i64 0), (.int .i64 0)]), (.sl true []), (.bool false)]), (.agg [(.int .i64 0), (.agg [(.int .i64 0), (.int .i64 0), (.int .i64 0), (.int .i64 0), (.int .i64 0), (.int .i64 0), (.int .i64 0), (.int .i64 0)]), (.sl true []), (.bool false)]), (.sl true []), (.bool false)]))), gs 2 17] [17])
 (.seq (.reg [] [gl 19 1, gl 20 2, gn (.das 21 f_job_Go [(.t 19), (.t 20)]), gm 18 21, ge 22 18 0, ge 23 18 1, ge 24 18 2, gn (.alc 3 (.d (.agg [(.int .i64 0), (.int .i64 0), (.int .i64 0), (.int .i64 0), (.agg [(.int .i64 0), (.agg [(.int .i64 0), (.int .i64 0), (.int .i64 0), (.int .i64 0), (.int .i64 0), (.int .i64 0), (.int .i64 0), (.int .i64 0)]), (.sl true []), (.bool false)]), (.agg [(.int .i64 0), (.agg [(.int .i64 0), (.int .i64 0), (.int .i64 0), (.int .i64 0), (.int .i64 0), (.int .i64 0), (.int .i64 0), (.int .i64 0)]), (.sl true []), (.bool false)]), (.sl true []), (.bool false)]))), gn (.alc 4 (.d (.agg [(.int .i64 0), (.int .i64 0), (.int .i64 0), (.int .i64 0)]))), gs 3 22, gs 4 23, gm 5 24] [18,19,20,21,22,23,24])
 (.seq (.reg [] [gl 26 1, gl 27 3, gn (.das 28 f_job_Go [(.t 26), (.t 27)]), gm 25 28, ge 29 25 0, ge 30 25 1, ge 31 25 2, gn (.alc 6 (.d (.agg [(.int .i64 0), (.int .i64 0), (.int .i64 0), (.int .i64 0), (.agg [(.int .i64 0), (.agg [(.int .i64 0), (.int .i64 0), (.int .i64 0), (.int .i64 0), (.int .i64 0), (.int .i64 0), (.int .i64 0), (.int .i64 0)]), (.sl true []), (.bool false)]), (.agg [(.int .i64 0), (.agg [(.int .i64 0), (.int .i64 0), (.int .i64 0), (.int .i64 0), (.int .i64 0), (.int .i64 0), (.int .i64 0), (.int .i64 0)]), (.sl true []), (.bool false)]), (.sl true []), (.bool false)]))), gn (.alc 7 (.d (.agg [(.int .i64 0), (.int .i64 0), (.int .i64 0), (.int .i64 0)]))), gs 6 29, gs 7 30, gm 8 31] [7,25,26,27,28,29,30,31])
 (.seq (.reg [] [gl 32 1, gl 33 6, gn (.das 34 f_job_Back [(.t 32), (.t 33)]), gn (.alc 9 (.d (.agg [(.int .i64 0), (.int .i64 0), (.int .i64 0), (.int .i64 0), (.agg [(.int .i64 0), (.agg [(.int .i64 0), (.int .i64 0), (.int .i64 0), (.int .i64 0), (.int .i64 0), (.int .i64 0), (.int .i64 0), (.int .i64 0)]), (.sl true []), (.bool false)]), (.agg [(.int .i64 0), (.agg [(.int .i64 0), (.int .i64 0), (.int .i64 0), (.int .i64 0), (.int .i64 0), (.int .i64 0), (.int .i64 0), (.int .i64 0)]), (.sl true []), (.bool false)]), (.sl true []), (.bool false)]))), gs 9 34] [32,33,34])
 (.seq (.reg [] [gl 35 6, gn (.das 36 f_job_Opt [(.t 35)]), gn (.alc 10 (.d (.agg [(.int .i64 0), (.int .i64 0), (.int .i64 0), (.int .i64 0), (.agg [(.int .i64 0), (.agg [(.int .i64 0), (.int .i64 0), (.int .i64 0), (.int .i64 0), (.int .i64 0), (.int .i64 0), (.int .i64 0), (.int .i64 0)]), (.sl true []), (.bool false)]), (.agg [(.int .i64 0), (.agg [(.int .i64 0), (.int .i64 0), (.int .i64 0), (.int .i64 0), (.int .i64 0), (.int .i64 0), (.int .i64 0), (.int .i64 0)]), (.sl true []), (.bool false)]), (.sl true []), (.bool false)]))), gs 10 36] [35,36])
 (.seq (.reg [] [gf 37 2 0, gl 38 37, gn (.bin 39 .eql (.t 38) (ci 1)), gm 40 39, gh 40 (.fa 41 (.t 2) 1), gh 40 (.ld 42 (.t 41)), gh 40 (.bin 43 .eql (.t 42) (ci 5)), gn (.pick 44 (.t 40) (.t 43) (.c (.bool false))), gm 45 44, gh 45 (.fa 46 (.t 2) 4), gh 45 (.fa 47 (.t 46) 1), gh 45 (.ia 48 (.t 47) (ci 0)), gh 45 (.ld 49 (.t 48)), gh 45 (.bin 50 .eql (.t 49) (ci 7)), gn (.pick 51 (.t 45) (.t 50) (.c (.bool false))), gm 52 51, hm 52 53 5, gn (.pick 54 (.t 52) (.t 53) (.c (.bool false))), gm 55 54, gh 55 (.fa 56 (.t 4) 0), gh 55 (.ld 57 (.t 56)), gh 55 (.bin 58 .eql (.t 57) (ci 11)), gn (.pick 59 (.t 55) (.t 58) (.c (.bool false))), gm 60 59, gh 60 (.fa 61 (.t 3) 5), gh 60 (.fa 62 (.t 61) 0), gh 60 (.ld 63 (.t 62)), gh 60 (.bin 64 .eql (.t 63) (ci 1)), gn (.pick 65 (.t 60) (.t 64) (.c (.bool false))), gm 66 65, hm 66 67 8, gn (.pick 68 (.t 66) (.t 67) (.c (.bool false))), gm 69 68, gh 69 (.fa 70 (.t 6) 6), gh 69 (.ld 71 (.t 70)), gh 69 (.len 72 (.t 71)), gh 69 (.bin 73 .eql (.t 72) (ci 1)), gn (.pick 74 (.t 69) (.t 73) (.c (.bool false))), gm 75 74, gh 75 (.fa 76 (.t 6) 6), gh 75 (.ld 77 (.t 76)), gh 75 (.ia 78 (.t 77) (ci 0)), gh 75 (.ld 79 (.t 78)), gh 75 (.bin 80 .eql (.t 79) (ci 2)), gn (.pick 81 (.t 75) (.t 80) (.c (.bool false))), gm 82 81, gh 82 (.fa 83 (.t 9) 4), gh 82 (.fa 84 (.t 83) 0), gh 82 (.ld 85 (.t 84)), gh 82 (.bin 86 .eql (.t 85) (ci 1)), gn (.pick 87 (.t 82) (.t 86) (.c (.bool false))), gm 88 87, gh 88 (.fa 89 (.t 9) 6), gh 88 (.ld 90 (.t 89)), gh 88 (.len 91 (.t 90)), gh 88 (.bin 92 .eql (.t 91) (ci 0)), gn (.pick 93 (.t 88) (.t 92) (.c (.bool false))), gm 94 93, gh 94 (.fa 95 (.t 10) 3), gh 94 (.ld 96 (.t 95)), gh 94 (.bin 97 .eql (.t 96) (ci 2)), gn (.pick 98 (.t 94) (.t 97) (.c (.bool false))), gm 99 98, gh 99 (.fa 100 (.t 10) 4), gh 99 (.fa 101 (.t 100) 1), gh 99 (.ia 102 (.t 101) (ci 0)), gh 99 (.ld 103 (.t 102)), gh 99 (.bin 104 .eql (.t 103) (ci 7)), gn (.pick 105 (.t 99) (.t 104) (.c (.bool false))), gm 106 105, gh 106 (.ld 107 (.t 1)), gh 106 (.ld 108 (.t 2)), gh 106 (.das 109 f_job_Code [(.t 107), (.t 108)]), gh 106 (.len 110 (.t 109)), gh 106 (.bin 111 .eql (.t 110) (ci 4)), gn (.pick 112 (.t 106) (.t 111) (.c (.bool false))), gm 113 112, gh 113 (.ld 114 (.t 1)), gh 113 (.ld 115 (.t 10)), gh 113 (.das 116 f_job_Code [(.t 114), (.t 115)]), gh 113 (.len 117 (.t 116)), gh 113 (.bin 118 .eql (.t 117) (ci 0)), gn (.pick 119 (.t 113) (.t 118) (.c (.bool false))), gm 0 119] [1,2,3,4,5,6,8,9,10,37,38,39,40,41,42,43,44,45,46,47,48,49,50,51,52,53,54,55,56,57,58,59,60,61,62,63,64,65,66,67,68,69,70,71,72,73,74,75,76,77,78,79,80,81,82,83,84,85,86,87,88,89,90,91,92,93,94,95,96,97,98,99,100,101,102,103,104,105,106,107,108,109,110,111,112,113,114,115,116,117,118,119])
 .ret)))))))), [.t 0], none⟩
/- foliot/job.New -/
def k_job_New : KF := ⟨(.seq (.reg [] [gn (.alc 6 (.d (.agg [(.int .i64 0), (.int .i64 0), (.int .i64 0), (.int .i64 0), (.agg [(.int .i64 0), (.agg [(.int .i64 0), (.int .i64 0), (.int .i64 0), (.int .i64 0), (.int .i64 0), (.int .i64 0), (.int .i64 0), (.int .i64 0)]), (.sl true []), (.bool false)]), (.agg [(.int .i64 0), (.agg [(.int .i64 0), (.int .i64 0), (.int .i64 0), (.int .i64 0), (.int .i64 0), (.int .i64 0), (.int .i64 0), (.int .i64 0)]), (.sl true []), (.bool false)]), (.sl true []), (.bool false)])))] [])
 (.seq (.reg [] [gm 7 0, gm 8 1, gm 9 2, gm 10 2, gn (.dat 11 f_vm_New [(.t 10)]), gm 12 2, gn (.dat 13 f_vm_New [(.t 12)]), gn (.bld 14 [(.t 7), (.t 8), (.t 9), (ci 0), (.t 11), (.t 13), (.c (.d (.sl true []))), (.c (.bool false))]), gs 6 14] [0,1,2,7,8,9,10,11,12,13,14])
 .ret)), [.cell 6], none⟩
/- foliot/job.Go -/
def k_job_Go_L0b : K := (.seq (.seq (.reg [] [gm 49 8, gn (.bin 50 .geq (.t 49) (ci 0))] [49])
 (.cond (.t 50) .skip
 (.ext 1)))
 (.seq (.blk 2 (.seq (.reg [] [gf 53 4 6, gl 54 53, gm 55 8, ga 56 54 55, gl 57 56, gf 58 5 1, gl 59 58, gn (.bin 60 .eql (.t 57) (.t 59))] [53,54,55,56,57,58,59])
 (.cond (.t 60) (.seq (.reg [] [gf 61 4 6, gl 62 61, gm 63 8, gm 64 8, gn (.bin 65 .add (.t 64) (ci 1)), gn (.cal 66 f_slices_Delete_int_int [(.t 62), (.t 63), (.t 65)] []), gf 67 4 6, gs 67 66] [8,61,62,63,64,65,66,67])
 (.ext 1))
 .skip)))
 (.reg [] [gm 51 8, gn (.bin 52 .sub (.t 51) (ci 1)), gm 8 52] [51,52])))
def k_job_Go_L0 : K := k_job_Go_L0b
def k_job_Go : KF := ⟨(.seq (.reg [] [gn (.box 2 (.t 0)), gn (.box 3 (.t 1)), gn (.alc 4 (.d (.agg [(.int .i64 0), (.int .i64 0), (.int .i64 0), (.int .i64 0), (.agg [(.int .i64 0), (.agg [(.int .i64 0), (.int .i64 0), (.int .i64 0), (.int .i64 0), (.int .i64 0), (.int .i64 0), (.int .i64 0), (.int .i64 0)]), (.sl true []), (.bool false)]), (.agg [(.int .i64 0), (.agg [(.int .i64 0), (.int .i64 0), (.int .i64 0), (.int .i64 0), (.int .i64 0), (.int .i64 0), (.int .i64 0), (.int .i64 0)]), (.sl true []), (.bool false)]), (.sl true []), (.bool false)]))), gn (.alc 5 (.d (.agg [(.int .i64 0), (.int .i64 0), (.int .i64 0), (.int .i64 0)]))), gn (.mv 6 (.c (.bool false)))] [0,1,6])
 (.seq (.reg [] [gl 9 3, gn (.cal 10 f_job_twin [(.t 9)] []), gs 4 10] [9,10])
 (.seq (.reg [(2,4), (0,10), (1,10), (2,10), (4,10), (5,10)] [gl 12 2, gl 13 3, gn (.das 14 f_job_Code [(.t 12), (.t 13)]), gf 15 3 4, gl 16 15, gn (.dat 17 f_vm_Step [(.t 14), (.t 16)]), gm 11 17, ge 18 11 0, ge 19 11 1, ge 20 11 2, gn (.alc 7 (.d (.agg [(.int .i64 0), (.agg [(.int .i64 0), (.int .i64 0), (.int .i64 0), (.int .i64 0), (.int .i64 0), (.int .i64 0), (.int .i64 0), (.int .i64 0)]), (.sl true []), (.bool false)]))), gs 7 18, gs 5 19, gm 6 20] [2,3,11,12,13,14,15,16,17,18,19,20])
 (.seq (.seq (.reg [] [gm 21 6, gn (.un 22 .not (.t 21))] [6,21])
 (.cond (.t 22) (.seq (.reg [] [gl 23 4, gn (.bld 24 [(ci 0), (ci 0), (ci 0), (ci 0)]), gs 4 23, gs 5 24, gn (.mv 6 (.c (.bool false)))] [23,24])
 .ret)
 .skip))
 (.seq (.reg [] [gl 25 7, gf 26 4 4, gs 26 25] [25,26])
 (.seq (.seq (.reg [] [gf 27 5 0, gl 28 27] [27])
 (.blk 0 (.seq (.reg [] [gn (.bin 30 .eql (.t 28) (ci 11)), gm 29 30] [30])
 (.cond (.t 29) (.reg [] [gl 31 7, gn (.das 32 f_job_machine [(.t 31)]), gf 33 4 5, gs 33 32] [7,31,32,33])
 (.seq (.reg [] [gn (.bin 35 .eql (.t 28) (ci 9)), gm 34 35] [35])
 (.cond (.t 34) (.reg [] [gf 36 4 6, gl 37 36, gf 38 5 1, gl 39 38, gn (.bsl 40 [(.t 39)]), gp 41 37 40, gf 42 4 6, gs 42 41] [36,37,38,39,40,41,42])
 (.seq (.reg [] [gn (.bin 44 .eql (.t 28) (ci 10)), gm 43 44] [28,44])
 (.cond (.t 43) (.seq (.reg [] [gf 45 4 6, gl 46 45, gk 47 46, gn (.bin 48 .sub (.t 47) (ci 1)), gm 8 48] [45,46,47,48])
 (.blk 1 (.loop [4,5,8] k_job_Go_L0)))
 .skip))))))))
 (.seq (.reg [(1,2)] [gl 68 4, gl 69 5, gs 4 68, gs 5 69, gn (.mv 6 (.c (.bool true)))] [68,69])
 .ret))))))), [.cell 4, .cell 5, .t 6], none⟩
/- foliot/job.Code -/
def k_job_Code : KF := ⟨(.seq (.reg [] [gn (.box 2 (.t 0)), gn (.box 3 (.t 1)), gn (.mv 4 (.c (.d (.sl true []))))] [0,1,4])
 (.seq (.reg [] [gn (.mkm 6), gf 7 2 3, gl 8 7, gn (.mu (.t 6) (ci 0) (.t 8)), gf 9 2 4, gl 10 9, gn (.mu (.t 6) (ci 1) (.t 10)), gf 11 2 5, gl 12 11, gn (.mu (.t 6) (ci 2) (.t 12)), gm 13 6, gm 5 13] [2,6,7,8,9,10,11,12,13])
 (.seq (.reg [] [gm 14 5, gf 15 3 3, gl 16 15, gn (.lk 17 (.t 14) (.t 16) (.d (.sl true [])) false), gn (.dat 18 f_slices_Clone_api_Inst_api_Inst [(.t 17)]), gm 4 18] [3,5,14,15,16,17,18])
 .ret))), [.t 4], none⟩
/- slices.Clone[[]foliot/api.Inst,foliot/api.Inst] -/
def k_slices_Clone_api_Inst_api_Inst : KF := ⟨(.seq (.reg [] [gn (.mv 2 (.c (.d (.sl true []))))] [2])
 (.seq (.seq (.reg [] [gm 3 0, gn (.bin 4 .eql (.t 3) (.c (.d (.sl true []))))] [3])
 (.cond (.t 4) (.seq (.reg [] [gn (.mv 2 (.c (.d (.sl true []))))] [])
 .ret)
 .skip))
 (.seq (.reg [] [gn (.bsl 5 []), gm 6 0, gp 7 5 6, gm 2 7] [0,5,6,7])
 .ret))), [.t 2], none⟩
/- foliot/vm.Step -/
def k_vm_Step : KF := ⟨(.seq (.reg [] [gn (.box 3 (.t 1)), gn (.alc 4 (.d (.agg [(.int .i64 0), (.agg [(.int .i64 0), (.int .i64 0), (.int .i64 0), (.int .i64 0), (.int .i64 0), (.int .i64 0), (.int .i64 0), (.int .i64 0)]), (.sl true []), (.bool false)]))), gn (.alc 5 (.d (.agg [(.int .i64 0), (.int .i64 0), (.int .i64 0), (.int .i64 0)]))), gn (.mv 6 (.c (.bool false)))] [1,6])
 (.seq (.seq (.reg [] [gf 11 3 3, gl 12 11, gm 13 12, gj 13 (.fa 14 (.t 3) 0), gj 13 (.ld 15 (.t 14)), gj 13 (.bin 16 .lss (.t 15) (ci 0)), gn (.pick 17 (.t 13) (.c (.bool true)) (.t 16)), gm 18 17, gj 18 (.fa 19 (.t 3) 0), gj 18 (.ld 20 (.t 19)), jm 18 21 0, gj 18 (.len 22 (.t 21)), gj 18 (.bin 23 .geq (.t 20) (.t 22)), gn (.pick 24 (.t 18) (.c (.bool true)) (.t 23)), gm 25 24, jm 25 26 0, gj 25 (.fa 27 (.t 3) 0), gj 25 (.ld 28 (.t 27)), gj 25 (.ia 29 (.t 26) (.t 28)), gj 25 (.ld 30 (.t 29)), gj 25 (.dat 31 f_code_May [(.t 30)]), gj 25 (.un 32 .not (.t 31)), gn (.pick 33 (.t 25) (.c (.bool true)) (.t 32))] [11,12,13,14,15,16,17,18,19,20,21,22,23,24,25,26,27,28,29,30,31,32])
 (.cond (.t 33) (.seq (.reg [] [gl 34 3, gn (.dat 35 f_vm_twin [(.t 34)]), gn (.bld 36 [(ci 0), (ci 0), (ci 0), (ci 0)]), gs 4 35, gs 5 36, gn (.mv 6 (.c (.bool false)))] [3,34,35,36])
 .ret)
 .skip))
 (.seq (.reg [] [gl 37 3, gn (.dat 38 f_vm_twin [(.t 37)]), gs 3 38] [37,38])
 (.seq (.reg [] [gm 39 0, gf 40 3 0, gl 41 40, ga 42 39 41, gl 43 42, gn (.alc 7 (.d (.agg [(.int .i64 0), (.int .i64 0), (.int .i64 0), (.int .i64 0)]))), gs 7 43] [0,39,40,41,42,43])
 (.seq (.reg [] [gf 44 3 0, gl 45 44, gn (.bin 46 .add (.t 45) (ci 1)), gm 8 46] [44,45,46])
 (.seq (.seq (.reg [] [gf 47 7 1, gl 48 47, gf 49 3 1, ga 50 49 48, gf 51 7 2, gl 52 51, gn (.bin 53 .rem (.t 52) (ci 8)), gf 54 3 1, ga 55 54 53, gl 56 55, gm 9 50, gm 10 56] [47,48,49,50,51,52,53,54,55,56])
 (.seq (.reg [] [gf 57 7 0, gl 58 57] [57])
 (.blk 0 (.seq (.reg [] [gn (.bin 60 .eql (.t 58) (ci 0)), gm 59 60] [60])
 (.cond (.t 59) (.reg [] [gf 61 3 0, gl 62 61, gm 8 62, gf 63 3 3, gn (.st (.t 63) (.c (.bool true)))] [61,62,63])
 (.seq (.reg [] [gn (.bin 65 .eql (.t 58) (ci 1)), gm 64 65] [65])
 (.cond (.t 64) (.reg [] [gm 66 9, gf 67 7 3, gl 68 67, gc 69 66, gs 69 68] [9,66,67,68,69])
 (.seq (.reg [] [gn (.bin 71 .eql (.t 58) (ci 2)), gm 70 71] [71])
 (.cond (.t 70) (.reg [] [gm 72 9, gm 73 9, gc 74 73, gl 75 74, gn (.cv 76 .u64 (.t 75)), gm 77 10, gn (.cv 78 .u64 (.t 77)), gn (.bin 79 .add (.t 76) (.t 78)), gn (.cv 80 .i64 (.t 79)), gc 81 72, gs 81 80] [9,10,72,73,74,75,76,77,78,79,80,81])
 (.seq (.reg [] [gn (.bin 83 .eql (.t 58) (ci 3)), gm 82 83] [83])
 (.cond (.t 82) (.reg [] [gm 84 9, gm 85 9, gc 86 85, gl 87 86, gn (.cv 88 .u64 (.t 87)), gm 89 10, gn (.cv 90 .u64 (.t 89)), gn (.bin 91 .sub (.t 88) (.t 90)), gn (.cv 92 .i64 (.t 91)), gc 93 84, gs 93 92] [9,10,84,85,86,87,88,89,90,91,92,93])
 (.seq (.reg [] [gn (.bin 95 .eql (.t 58) (ci 4)), gm 94 95] [95])
 (.cond (.t 94) (.reg [] [gm 96 9, gm 97 9, gc 98 97, gl 99 98, gn (.cv 100 .u64 (.t 99)), gm 101 10, gn (.cv 102 .u64 (.t 101)), gn (.bin 103 .mul (.t 100) (.t 102)), gn (.cv 104 .i64 (.t 103)), gc 105 96, gs 105 104] [9,10,96,97,98,99,100,101,102,103,104,105])
 (.seq (.reg [] [gn (.bin 107 .eql (.t 58) (ci 5)), gm 106 107] [107])
 (.cond (.t 106) (.reg [] [gm 108 9, gm 109 9, gc 110 109, gl 111 110, gf 112 7 3, gl 113 112, gn (.dat 114 f_vm_Shift [(.t 111), (.t 113)]), gc 115 108, gs 115 114] [9,108,109,110,111,112,113,114,115])
 (.seq (.reg [] [gn (.bin 117 .eql (.t 58) (ci 6)), gm 116 117] [117])
 (.cond (.t 116) (.reg [] [gm 118 9, gm 119 9, gc 120 119, gl 121 120, gf 122 7 3, gl 123 122, gn (.dat 124 f_vm_Narrow [(.t 121), (.t 123)]), gc 125 118, gs 125 124] [9,118,119,120,121,122,123,124,125])
 (.seq (.reg [] [gn (.bin 127 .eql (.t 58) (ci 7)), gm 126 127] [127])
 (.cond (.t 126) (.seq (.reg [] [gm 128 9, gc 129 128, gl 130 129, gn (.bin 131 .eql (.t 130) (ci 0))] [9,128,129,130])
 (.cond (.t 131) (.reg [] [gm 132 8, gf 133 7 3, gl 134 133, gn (.bin 135 .add (.t 132) (.t 134)), gm 8 135] [132,133,134,135])
 .skip))
 (.seq (.reg [] [gn (.bin 137 .eql (.t 58) (ci 8)), gm 136 137] [58,137])
 (.cond (.t 136) (.reg [] [gf 138 3 2, gl 139 138, gf 140 3 0, gl 141 140, gn (.bin 142 .add (.t 141) (ci 1)), gf 143 3 0, gl 144 143, gf 145 7 2, gl 146 145, gn (.bin 147 .add (.t 144) (.t 146)), gf 148 7 3, gl 149 148, gn (.bin 150 .sub (.t 149) (ci 1)), gn (.bld 151 [(.t 142), (.t 147), (.t 150)]), gn (.bsl 152 [(.t 151)]), gp 153 139 152, gf 154 3 2, gs 154 153] [138,139,140,141,142,143,144,145,146,147,148,149,150,151,152,153,154])
 .skip)))))))))))))))))))))
 (.seq (.reg [] [gm 155 8, gf 156 3 0, gs 156 155] [8,155,156])
 (.seq (.reg [(1,2), (2,3)] [gl 157 3, gn (.cal 158 f_vm_goes [(.t 157)] [7]), gl 159 7, gs 4 158, gs 5 159, gn (.mv 6 (.c (.bool true)))] [3,7,157,158,159])
 .ret)))))))), [.cell 4, .cell 5, .t 6], none⟩
/- foliot/code.May -/
def k_code_May : KF := ⟨(.seq (.reg [] [gn (.box 1 (.t 0)), gn (.mv 2 (.c (.bool false)))] [0,2])
 (.seq (.seq (.reg [] [gf 3 1 0, gl 4 3] [3])
 (.blk 0 (.seq (.seq (.reg [] [gn (.bin 6 .eql (.t 4) (ci 0)), gm 5 6] [6])
 (.cond (.t 5) .skip
 (.reg [] [gn (.bin 7 .eql (.t 4) (ci 11)), gm 5 7] [7])))
 (.cond (.t 5) (.seq (.reg [] [gf 8 1 1, gl 9 8, gn (.bin 10 .eql (.t 9) (ci 0)), gm 11 10, gh 11 (.fa 12 (.t 1) 2), gh 11 (.ld 13 (.t 12)), gh 11 (.bin 14 .eql (.t 13) (ci 0)), gn (.pick 15 (.t 11) (.t 14) (.c (.bool false))), gm 16 15, gh 16 (.fa 17 (.t 1) 3), gh 16 (.ld 18 (.t 17)), gh 16 (.bin 19 .eql (.t 18) (ci 0)), gn (.pick 20 (.t 16) (.t 19) (.c (.bool false))), gm 2 20] [1,8,9,10,11,12,13,14,15,16,17,18,19,20])
 .ret)
 (.seq (.reg [] [gn (.bin 22 .eql (.t 4) (ci 1)), gm 21 22] [22])
 (.cond (.t 21) (.seq (.reg [] [gf 23 1 1, gl 24 23, gn (.dat 25 f_code_memory [(.t 24)]), gm 26 25, gh 26 (.fa 27 (.t 1) 2), gh 26 (.ld 28 (.t 27)), gh 26 (.bin 29 .eql (.t 28) (ci 0)), gn (.pick 30 (.t 26) (.t 29) (.c (.bool false))), gm 31 30, gh 31 (.fa 32 (.t 1) 3), gh 31 (.ld 33 (.t 32)), gh 31 (.dat 34 f_code_within [(.t 33), (ci (-2147483648)), (ci 2147483647)]), gn (.pick 35 (.t 31) (.t 34) (.c (.bool false))), gm 2 35] [1,23,24,25,26,27,28,29,30,31,32,33,34,35])
 .ret)
 (.seq (.seq (.reg [] [gn (.bin 37 .eql (.t 4) (ci 2)), gm 36 37] [37])
 (.cond (.t 36) .skip
 (.seq (.reg [] [gn (.bin 38 .eql (.t 4) (ci 3)), gm 36 38] [38])
 (.cond (.t 36) .skip
 (.reg [] [gn (.bin 39 .eql (.t 4) (ci 4)), gm 36 39] [39])))))
 (.cond (.t 36) (.seq (.reg [] [gf 40 1 1, gl 41 40, gn (.dat 42 f_code_memory [(.t 41)]), gm 43 42, gh 43 (.fa 44 (.t 1) 2), gh 43 (.ld 45 (.t 44)), gh 43 (.dat 46 f_code_memory [(.t 45)]), gn (.pick 47 (.t 43) (.t 46) (.c (.bool false))), gm 48 47, gh 48 (.fa 49 (.t 1) 3), gh 48 (.ld 50 (.t 49)), gh 48 (.bin 51 .eql (.t 50) (ci 0)), gn (.pick 52 (.t 48) (.t 51) (.c (.bool false))), gm 2 52] [1,40,41,42,43,44,45,46,47,48,49,50,51,52])
 .ret)
 (.seq (.reg [] [gn (.bin 54 .eql (.t 4) (ci 5)), gm 53 54] [54])
 (.cond (.t 53) (.seq (.reg [] [gf 55 1 1, gl 56 55, gn (.dat 57 f_code_memory [(.t 56)]), gm 58 57, gh 58 (.fa 59 (.t 1) 2), gh 58 (.ld 60 (.t 59)), gh 58 (.bin 61 .eql (.t 60) (ci 0)), gn (.pick 62 (.t 58) (.t 61) (.c (.bool false))), gm 63 62, gh 63 (.fa 64 (.t 1) 3), gh 63 (.ld 65 (.t 64)), gh 63 (.dat 66 f_code_within [(.t 65), (ci (-63)), (ci 63)]), gn (.pick 67 (.t 63) (.t 66) (.c (.bool false))), gm 2 67] [1,55,56,57,58,59,60,61,62,63,64,65,66,67])
 .ret)
 (.seq (.reg [] [gn (.bin 69 .eql (.t 4) (ci 6)), gm 68 69] [69])
 (.cond (.t 68) (.seq (.reg [] [gf 70 1 1, gl 71 70, gn (.dat 72 f_code_memory [(.t 71)]), gm 73 72, gh 73 (.fa 74 (.t 1) 2), gh 73 (.ld 75 (.t 74)), gh 73 (.bin 76 .eql (.t 75) (ci 0)), gn (.pick 77 (.t 73) (.t 76) (.c (.bool false))), gm 78 77, gh 78 (.fa 79 (.t 1) 3), gh 78 (.ld 80 (.t 79)), gh 78 (.dat 81 f_code_within [(.t 80), (ci 1), (ci 64)]), gn (.pick 82 (.t 78) (.t 81) (.c (.bool false))), gm 2 82] [1,70,71,72,73,74,75,76,77,78,79,80,81,82])
 .ret)
 (.seq (.reg [] [gn (.bin 84 .eql (.t 4) (ci 7)), gm 83 84] [84])
 (.cond (.t 83) (.seq (.reg [] [gf 85 1 1, gl 86 85, gn (.dat 87 f_code_memory [(.t 86)]), gm 88 87, gh 88 (.fa 89 (.t 1) 2), gh 88 (.ld 90 (.t 89)), gh 88 (.bin 91 .eql (.t 90) (ci 0)), gn (.pick 92 (.t 88) (.t 91) (.c (.bool false))), gm 93 92, gh 93 (.fa 94 (.t 1) 3), gh 93 (.ld 95 (.t 94)), gh 93 (.dat 96 f_code_within [(.t 95), (ci 1), (ci 24)]), gn (.pick 97 (.t 93) (.t 96) (.c (.bool false))), gm 2 97] [1,85,86,87,88,89,90,91,92,93,94,95,96,97])
 .ret)
 (.seq (.reg [] [gn (.bin 99 .eql (.t 4) (ci 8)), gm 98 99] [99])
 (.cond (.t 98) (.seq (.reg [] [gf 100 1 1, gl 101 100, gn (.bin 102 .eql (.t 101) (ci 0)), gm 103 102, gh 103 (.fa 104 (.t 1) 2), gh 103 (.ld 105 (.t 104)), gh 103 (.dat 106 f_code_within [(.t 105), (ci 1), (ci 24)]), gn (.pick 107 (.t 103) (.t 106) (.c (.bool false))), gm 108 107, gh 108 (.fa 109 (.t 1) 3), gh 108 (.ld 110 (.t 109)), gh 108 (.dat 111 f_code_within [(.t 110), (ci 1), (ci 20)]), gn (.pick 112 (.t 108) (.t 111) (.c (.bool false))), gm 2 112] [1,100,101,102,103,104,105,106,107,108,109,110,111,112])
 .ret)
 (.seq (.seq (.reg [] [gn (.bin 114 .eql (.t 4) (ci 9)), gm 113 114] [114])
 (.cond (.t 113) .skip
 (.reg [] [gn (.bin 115 .eql (.t 4) (ci 10)), gm 113 115] [4,115])))
 (.cond (.t 113) (.seq (.reg [] [gf 116 1 1, gl 117 116, gn (.dat 118 f_code_within [(.t 117), (ci 0), (ci 3)]), gm 119 118, gh 119 (.fa 120 (.t 1) 2), gh 119 (.ld 121 (.t 120)), gh 119 (.bin 122 .eql (.t 121) (ci 0)), gn (.pick 123 (.t 119) (.t 122) (.c (.bool false))), gm 124 123, gh 124 (.fa 125 (.t 1) 3), gh 124 (.ld 126 (.t 125)), gh 124 (.bin 127 .eql (.t 126) (ci 0)), gn (.pick 128 (.t 124) (.t 127) (.c (.bool false))), gm 2 128] [1,116,117,118,119,120,121,122,123,124,125,126,127,128])
 .ret)
 .skip))))))))))))))))))
 (.seq (.reg [] [gn (.mv 2 (.c (.bool false)))] [])
 .ret))), [.t 2], none⟩
/- foliot/code.memory -/
def k_code_memory : KF := ⟨(.seq (.reg [] [gn (.mv 2 (.c (.bool false)))] [2])
 (.seq (.reg [] [gm 3 0, gn (.bin 4 .geq (.t 3) (ci 0)), gm 5 4, hm 5 6 0, gh 5 (.bin 7 .lss (.t 6) (ci 8)), gn (.pick 8 (.t 5) (.t 7) (.c (.bool false))), gm 2 8] [0,3,4,5,6,7,8])
 .ret)), [.t 2], none⟩
/- foliot/code.within -/
def k_code_within : KF := ⟨(.seq (.reg [] [gn (.mv 6 (.c (.bool false)))] [6])
 (.seq (.reg [] [gm 7 0, gm 8 1, gn (.bin 9 .geq (.t 7) (.t 8)), gm 10 9, hm 10 11 0, hm 10 12 2, gh 10 (.bin 13 .leq (.t 11) (.t 12)), gn (.pick 14 (.t 10) (.t 13) (.c (.bool false))), gm 6 14] [0,1,2,7,8,9,10,11,12,13,14])
 .ret)), [.t 6], none⟩
/- foliot/vm.twin -/
def k_vm_twin : KF := ⟨(.seq (.reg [] [gn (.box 1 (.t 0)), gn (.alc 2 (.d (.agg [(.int .i64 0), (.agg [(.int .i64 0), (.int .i64 0), (.int .i64 0), (.int .i64 0), (.int .i64 0), (.int .i64 0), (.int .i64 0), (.int .i64 0)]), (.sl true []), (.bool false)])))] [0])
 (.seq (.reg [] [gf 3 1 2, gl 4 3, gn (.dat 5 f_slices_Clone_api_Rep2_api_Rep2 [(.t 4)]), gf 6 1 2, gs 6 5] [3,4,5,6])
 (.seq (.reg [] [gl 7 1, gs 2 7] [1,7])
 .ret))), [.cell 2], none⟩
/- foliot/vm.Shift -/
def k_vm_Shift : KF := ⟨(.seq (.reg [] [gn (.mv 4 (ci 0))] [4])
 (.seq (.blk 0 (.seq (.reg [] [gm 6 1, gn (.bin 7 .leq (.t 6) (ci (-64))), gm 8 7, jm 8 9 1, gj 8 (.bin 10 .geq (.t 9) (ci 64)), gn (.pick 11 (.t 8) (.c (.bool true)) (.t 10)), gm 5 11] [6,7,8,9,10,11])
 (.cond (.t 5) (.seq (.reg [] [gm 12 0, gm 4 12] [0,12])
 .ret)
 (.seq (.reg [] [gm 14 1, gn (.bin 15 .lss (.t 14) (ci 0)), gm 13 15] [14,15])
 (.cond (.t 13) (.seq (.reg [] [gm 16 0, gm 17 1, gn (.un 18 .neg (.t 17)), gn (.bin 19 .shr (.t 16) (.t 18)), gm 4 19] [0,1,16,17,18,19])
 .ret)
 .skip)))))
 (.seq (.reg [] [gm 20 0, gn (.cv 21 .u64 (.t 20)), gm 22 1, gn (.bin 23 .shl (.t 21) (.t 22)), gn (.cv 24 .i64 (.t 23)), gm 4 24] [0,1,20,21,22,23,24])
 .ret))), [.t 4], none⟩
/- foliot/vm.Narrow -/
def k_vm_Narrow : KF := ⟨(.seq (.reg [] [gn (.mv 4 (ci 0))] [4])
 (.seq (.seq (.reg [] [gm 5 1, gn (.bin 6 .lss (.t 5) (ci 1)), gm 7 6, jm 7 8 1, gj 7 (.bin 9 .gtr (.t 8) (ci 64)), gn (.pick 10 (.t 7) (.c (.bool true)) (.t 9))] [5,6,7,8,9])
 (.cond (.t 10) (.seq (.reg [] [gm 11 0, gm 4 11] [0,11])
 .ret)
 .skip))
 (.seq (.reg [] [gm 12 0, gm 13 1, gn (.bin 14 .sub (ci 64) (.t 13)), gn (.bin 15 .shl (.t 12) (.t 14)), gm 16 1, gn (.bin 17 .sub (ci 64) (.t 16)), gn (.bin 18 .shr (.t 15) (.t 17)), gm 4 18] [0,1,12,13,14,15,16,17,18])
 .ret))), [.t 4], none⟩
/- foliot/vm.goes -/
def k_vm_goes_L0b : K := (.seq (.seq (.reg [] [gm 8 3, gn (.bin 9 .gtr (.t 8) (ci 0)), gm 10 9, gh 10 (.fa 11 (.t 1) 2), gh 10 (.ld 12 (.t 11)), hm 10 13 3, gh 10 (.bin 14 .sub (.t 13) (ci 1)), gh 10 (.ia 15 (.t 12) (.t 14)), gh 10 (.fa 16 (.t 15) 1), gh 10 (.ld 17 (.t 16)), gh 10 (.fa 18 (.t 1) 0), gh 10 (.ld 19 (.t 18)), gh 10 (.bin 20 .lss (.t 17) (.t 19)), gn (.pick 21 (.t 10) (.t 20) (.c (.bool false)))] [8,9,10,11,12,13,14,15,16,17,18,19,20])
 (.cond (.t 21) .skip
 (.ext 0)))
 (.seq (.blk 1 (.seq (.seq (.reg [] [gf 25 1 2, gl 26 25, gm 27 3, gn (.bin 28 .sub (.t 27) (ci 1)), ga 29 26 28, gm 4 29] [25,26,27,28,29])
 (.seq (.reg [] [gm 30 4, gc 31 30, gf 32 31 2, gl 33 32, gn (.bin 34 .gtr (.t 33) (ci 0))] [30,31,32,33])
 (.cond (.t 34) (.seq (.reg [] [gm 35 4, gc 36 35, gf 37 36 0, gl 38 37, gf 39 1 0, gs 39 38] [35,36,37,38,39])
 (.seq (.reg [] [gm 40 4, gc 41 40, gf 42 41 2, gl 43 42, gn (.bin 44 .sub (.t 43) (ci 1)), gc 45 40, gf 46 45 2, gs 46 44] [4,40,41,42,43,44,45,46])
 (.seq (.reg [] [gl 47 1, gs 2 47] [1,47])
 .ret)))
 .skip)))
 (.reg [] [gf 48 1 2, gl 49 48, gm 50 3, gn (.bin 51 .sub (.t 50) (ci 1)), gn (.slc 52 (.t 49) none (some (.t 51))), gf 53 1 2, gs 53 52] [3,48,49,50,51,52,53])))
 (.reg [] [gf 22 1 2, gl 23 22, gk 24 23, gm 3 24] [22,23,24])))
def k_vm_goes_L0 : K := k_vm_goes_L0b
def k_vm_goes : KF := ⟨(.seq (.reg [] [gn (.box 1 (.t 0)), gn (.alc 2 (.d (.agg [(.int .i64 0), (.agg [(.int .i64 0), (.int .i64 0), (.int .i64 0), (.int .i64 0), (.int .i64 0), (.int .i64 0), (.int .i64 0), (.int .i64 0)]), (.sl true []), (.bool false)])))] [0])
 (.seq (.seq (.reg [] [gf 5 1 2, gl 6 5, gk 7 6, gm 3 7] [5,6,7])
 (.blk 0 (.loop [1,2,3] k_vm_goes_L0)))
 (.seq (.reg [] [gl 54 1, gs 2 54] [1,54])
 .ret))), [.cell 2], none⟩
/- slices.Delete[[]int,int] -/
def k_slices_Delete_int_int : KF := ⟨.skip, [], some .del⟩
/- foliot/job.Opt -/
def k_job_Opt : KF := ⟨(.seq (.reg [] [gn (.box 1 (.t 0)), gn (.alc 2 (.d (.agg [(.int .i64 0), (.int .i64 0), (.int .i64 0), (.int .i64 0), (.agg [(.int .i64 0), (.agg [(.int .i64 0), (.int .i64 0), (.int .i64 0), (.int .i64 0), (.int .i64 0), (.int .i64 0), (.int .i64 0), (.int .i64 0)]), (.sl true []), (.bool false)]), (.agg [(.int .i64 0), (.agg [(.int .i64 0), (.int .i64 0), (.int .i64 0), (.int .i64 0), (.int .i64 0), (.int .i64 0), (.int .i64 0), (.int .i64 0)]), (.sl true []), (.bool false)]), (.sl true []), (.bool false)])))] [0])
 (.seq (.reg [] [gl 4 1, gn (.cal 5 f_job_twin [(.t 4)] []), gn (.alc 3 (.d (.agg [(.int .i64 0), (.int .i64 0), (.int .i64 0), (.int .i64 0), (.agg [(.int .i64 0), (.agg [(.int .i64 0), (.int .i64 0), (.int .i64 0), (.int .i64 0), (.int .i64 0), (.int .i64 0), (.int .i64 0), (.int .i64 0)]), (.sl true []), (.bool false)]), (.agg [(.int .i64 0), (.agg [(.int .i64 0), (.int .i64 0), (.int .i64 0), (.int .i64 0), (.int .i64 0), (.int .i64 0), (.int .i64 0), (.int .i64 0)]), (.sl true []), (.bool false)]), (.sl true []), (.bool false)]))), gs 3 5] [4,5])
 (.seq (.reg [(4,7), (4,8)] [gf 6 1 4, gf 7 6 1, gn (.ia 8 (.t 7) (ci 0)), gl 9 8, gn (.dat 10 f_vm_New [(.t 9)]), gf 11 1 4, gf 12 11 1, gn (.ia 13 (.t 12) (ci 0)), gl 14 13, gn (.dat 15 f_vm_New [(.t 14)]), gf 16 3 3, gn (.st (.t 16) (ci 2)), gf 17 3 4, gs 17 10, gf 18 3 5, gs 18 15, gf 19 3 6, gn (.st (.t 19) (.c (.d (.sl true [])))), gf 20 3 7, gn (.st (.t 20) (.c (.bool false)))] [1,6,7,8,9,10,11,12,13,14,15,16,17,18,19,20])
 (.seq (.reg [] [gl 21 3, gs 2 21] [3,21])
 .ret)))), [.cell 2], none⟩
/- foliot/foliotref1.Cost -/
def k_ref1_Cost_L1b : K := (.seq (.seq (.reg [] [gm 71 11, gm 72 6, gm 73 9, ga 74 72 73, gl 75 74, gn (.bin 76 .leq (.t 71) (.t 75))] [71,72,73,74,75])
 (.cond (.t 76) .skip
 (.ext 2)))
 (.seq (.blk 3 (.reg [] [gm 79 10, gm 80 5, gm 81 11, ga 82 80 81, gl 83 82, gn (.bin 84 .add (.t 79) (.t 83)), gm 10 84] [79,80,81,82,83,84]))
 (.reg [] [gm 77 11, gn (.bin 78 .add (.t 77) (ci 1)), gm 11 78] [77,78])))
def k_ref1_Cost_L1 : K := k_ref1_Cost_L1b
def k_ref1_Cost_L0b : K := (.seq (.seq (.reg [] [gm 24 9, gm 25 0, gk 26 25, gn (.bin 27 .lss (.t 24) (.t 26))] [24,25,26])
 (.cond (.t 27) .skip
 (.ext 0)))
 (.seq (.blk 1 (.seq (.reg [(10,14), (11,14)] [gf 30 4 0, gl 31 30, gm 32 5, gm 33 9, ga 34 32 33, gl 35 34, gn (.bin 36 .add (.t 31) (.t 35)), gm 37 8, gm 38 5, gm 39 9, ga 40 38 39, gl 41 40, gn (.bin 42 .add (.t 37) (.t 41)), gf 43 4 0, gs 43 36, gm 8 42] [30,31,32,33,34,35,36,37,38,39,40,41,42,43])
 (.seq (.seq (.reg [] [gm 44 0, gm 45 9, ga 46 44 45, gf 47 46 0, gl 48 47, gn (.bin 49 .eql (.t 48) (ci 11)), gm 50 49, jm 50 51 0, jm 50 52 9, gj 50 (.ia 53 (.t 51) (.t 52)), gj 50 (.fa 54 (.t 53) 0), gj 50 (.ld 55 (.t 54)), gj 50 (.bin 56 .eql (.t 55) (ci 0)), gn (.pick 57 (.t 50) (.c (.bool true)) (.t 56))] [44,45,46,47,48,49,50,51,52,53,54,55,56])
 (.cond (.t 57) (.reg [] [gf 58 4 1, gl 59 58, gm 60 8, gn (.mx 61 [(.t 59), (.t 60)]), gf 62 4 1, gs 62 61, gn (.mv 8 (ci 0))] [58,59,60,61,62])
 .skip))
 (.seq (.reg [] [gm 63 0, gm 64 9, ga 65 63 64, gf 66 65 0, gl 67 66, gn (.bin 68 .eql (.t 67) (ci 9))] [63,64,65,66,67])
 (.cond (.t 68) (.seq (.reg [] [gn (.mv 10 (ci 0))] [])
 (.seq (.seq (.reg [] [gm 69 9, gn (.bin 70 .add (.t 69) (ci 1)), gm 11 70] [69,70])
 (.blk 2 (.loop [0,2,4,5,6,8,9,10,11] k_ref1_Cost_L1)))
 (.reg [(1,14)] [gf 85 4 2, gl 86 85, gm 87 0, gm 88 9, ga 89 87 88, gf 90 89 1, gl 91 90, gm 92 10, gm 93 5, gm 94 9, ga 95 93 94, gl 96 95, gn (.bin 97 .quo (.t 92) (.t 96)), gn (.bld 98 [(.t 91), (.t 97)]), gn (.bsl 99 [(.t 98)]), gp 100 86 99, gf 101 4 2, gs 101 100] [10,85,86,87,88,89,90,91,92,93,94,95,96,97,98,99,100,101])))
 .skip)))))
 (.reg [] [gm 28 9, gn (.bin 29 .add (.t 28) (ci 1)), gm 9 29] [28,29])))
def k_ref1_Cost_L0 : K := k_ref1_Cost_L0b
def k_ref1_Cost : KF := ⟨(.seq (.reg [] [gn (.alc 2 (.d (.agg [(.int .i64 0), (.int .i64 0), (.sl true [])]))), gn (.mv 3 (.c (.bool false)))] [3])
 (.seq (.seq (.reg [] [gm 12 0, gn (.dat 13 f_ref1_MayCode [(.t 12)]), gn (.un 14 .not (.t 13))] [12,13])
 (.cond (.t 14) (.seq (.reg [] [gn (.bld 15 [(ci 0), (ci 0), (.c (.d (.sl true [])))]), gs 2 15, gn (.mv 3 (.c (.bool false)))] [15])
 .ret)
 .skip))
 (.seq (.reg [] [gn (.bld 16 [(ci 0), (ci 0), (.c (.d (.sl true [])))]), gn (.alc 4 (.d (.agg [(.int .i64 0), (.int .i64 0), (.sl true [])]))), gs 4 16] [16])
 (.seq (.reg [] [gm 17 0, gn (.dat 18 f_ref1_times [(.t 17)]), gm 5 18] [17,18])
 (.seq (.reg [] [gm 20 0, gn (.dat 21 f_ref1_Pairs [(.t 20)]), gm 19 21, ge 22 19 0, ge 23 19 1, gm 6 22, gm 7 23] [7,19,20,21,22,23])
 (.seq (.reg [] [gn (.mv 8 (ci 0))] [])
 (.seq (.seq (.reg [] [gn (.mv 9 (ci 0))] [])
 (.blk 0 (.loop [0,2,4,5,6,8,9] k_ref1_Cost_L0)))
 (.seq (.reg [] [gl 102 4, gs 2 102, gn (.mv 3 (.c (.bool true)))] [4,102])
 .ret)))))))), [.cell 2, .t 3], none⟩
/- foliot/foliotref1.MayCode -/
def k_ref1_MayCode_L0b : K := (.seq (.seq (.reg [] [gm 23 3, gm 24 0, gk 25 24, gn (.bin 26 .lss (.t 23) (.t 25))] [23,24,25])
 (.cond (.t 26) .skip
 (.ext 0)))
 (.seq (.blk 1 (.seq (.reg [] [gm 29 0, gm 30 3, ga 31 29 30, gl 32 31, gn (.dat 33 f_ref1_MayInst [(.t 32)]), gn (.un 34 .not (.t 33)), gm 35 34, jm 35 36 0, jm 35 37 3, gj 35 (.ia 38 (.t 36) (.t 37)), gj 35 (.fa 39 (.t 38) 0), gj 35 (.ld 40 (.t 39)), gj 35 (.bin 41 .eql (.t 40) (ci 0)), jm 35 42 3, jm 35 43 0, gj 35 (.len 44 (.t 43)), gj 35 (.bin 45 .sub (.t 44) (ci 1)), gj 35 (.bin 46 .eql (.t 42) (.t 45)), gj 35 (.bin 47 .neq (.t 41) (.t 46)), gn (.pick 48 (.t 35) (.c (.bool true)) (.t 47))] [29,30,31,32,33,34,35,36,37,38,39,40,41,42,43,44,45,46,47])
 (.cond (.t 48) (.seq (.reg [] [gn (.mv 2 (.c (.bool false)))] [])
 .ret)
 .skip)))
 (.reg [] [gm 27 3, gn (.bin 28 .add (.t 27) (ci 1)), gm 3 28] [27,28])))
def k_ref1_MayCode_L0 : K := k_ref1_MayCode_L0b
def k_ref1_MayCode_L2b : K := (.seq (.seq (.reg [] [gm 66 6, gm 67 4, gk 68 67, gn (.bin 69 .lss (.t 66) (.t 68))] [66,67,68])
 (.cond (.t 69) .skip
 (.ext 4)))
 (.seq (.blk 5 (.seq (.seq (.reg [] [gm 72 5, gm 73 6, gn (.bin 74 .eql (.t 72) (.t 73))] [72,73])
 (.cond (.t 74) (.ext 5)
 .skip))
 (.seq (.reg [] [gm 75 4, gm 76 5, ga 77 75 76, gf 78 77 1, gl 79 78, gm 80 4, gm 81 6, ga 82 80 81, gf 83 82 0, gl 84 83, gn (.bin 85 .lss (.t 79) (.t 84)), gm 86 85, jm 86 87 4, jm 86 88 6, gj 86 (.ia 89 (.t 87) (.t 88)), gj 86 (.fa 90 (.t 89) 1), gj 86 (.ld 91 (.t 90)), jm 86 92 4, jm 86 93 5, gj 86 (.ia 94 (.t 92) (.t 93)), gj 86 (.fa 95 (.t 94) 0), gj 86 (.ld 96 (.t 95)), gj 86 (.bin 97 .lss (.t 91) (.t 96)), gn (.pick 98 (.t 86) (.c (.bool true)) (.t 97)), gm 7 98] [75,76,77,78,79,80,81,82,83,84,85,86,87,88,89,90,91,92,93,94,95,96,97,98])
 (.seq (.reg [] [gm 99 4, gm 100 5, ga 101 99 100, gf 102 101 0, gl 103 102, gm 104 4, gm 105 6, ga 106 104 105, gf 107 106 0, gl 108 107, gn (.bin 109 .leq (.t 103) (.t 108)), gm 110 109, hm 110 111 4, hm 110 112 6, gh 110 (.ia 113 (.t 111) (.t 112)), gh 110 (.fa 114 (.t 113) 1), gh 110 (.ld 115 (.t 114)), hm 110 116 4, hm 110 117 5, gh 110 (.ia 118 (.t 116) (.t 117)), gh 110 (.fa 119 (.t 118) 1), gh 110 (.ld 120 (.t 119)), gh 110 (.bin 121 .leq (.t 115) (.t 120)), gn (.pick 122 (.t 110) (.t 121) (.c (.bool false))), gm 123 122, jm 123 124 4, jm 123 125 6, gj 123 (.ia 126 (.t 124) (.t 125)), gj 123 (.fa 127 (.t 126) 0), gj 123 (.ld 128 (.t 127)), jm 123 129 4, jm 123 130 5, gj 123 (.ia 131 (.t 129) (.t 130)), gj 123 (.fa 132 (.t 131) 0), gj 123 (.ld 133 (.t 132)), gj 123 (.bin 134 .leq (.t 128) (.t 133)), jm 123 135 134, hm 135 136 4, hm 135 137 5, gh 135 (.ia 138 (.t 136) (.t 137)), gh 135 (.fa 139 (.t 138) 1), gh 135 (.ld 140 (.t 139)), hm 135 141 4, hm 135 142 6, gh 135 (.ia 143 (.t 141) (.t 142)), gh 135 (.fa 144 (.t 143) 1), gh 135 (.ld 145 (.t 144)), gh 135 (.bin 146 .leq (.t 140) (.t 145)), gj 123 (.pick 147 (.t 135) (.t 146) (.c (.bool false))), gn (.pick 148 (.t 123) (.c (.bool true)) (.t 147)), gm 8 148] [99,100,101,102,103,104,105,106,107,108,109,110,111,112,113,114,115,116,117,118,119,120,121,122,123,124,125,126,127,128,129,130,131,132,133,134,135,136,137,138,139,140,141,142,143,144,145,146,147,148])
 (.seq (.reg [] [gm 149 7, gn (.un 150 .not (.t 149)), gm 151 150, hm 151 152 8, gh 151 (.un 153 .not (.t 152)), gn (.pick 154 (.t 151) (.t 153) (.c (.bool false))), gm 155 154, jm 155 156 4, jm 155 157 5, gj 155 (.ia 158 (.t 156) (.t 157)), gj 155 (.ld 159 (.t 158)), jm 155 160 4, jm 155 161 6, gj 155 (.ia 162 (.t 160) (.t 161)), gj 155 (.fa 163 (.t 162) 2), gj 155 (.ld 164 (.t 163)), gj 155 (.dat 165 f_ref1_area_has [(.t 159), (.t 164)]), jm 155 166 165, hm 166 167 4, hm 166 168 6, gh 166 (.ia 169 (.t 167) (.t 168)), gh 166 (.fa 170 (.t 169) 1), gh 166 (.ld 171 (.t 170)), hm 166 172 4, hm 166 173 5, gh 166 (.ia 174 (.t 172) (.t 173)), gh 166 (.fa 175 (.t 174) 1), gh 166 (.ld 176 (.t 175)), gh 166 (.bin 177 .gtr (.t 171) (.t 176)), gj 155 (.pick 178 (.t 166) (.t 177) (.c (.bool false))), gn (.pick 179 (.t 155) (.c (.bool true)) (.t 178))] [7,8,149,150,151,152,153,154,155,156,157,158,159,160,161,162,163,164,165,166,167,168,169,170,171,172,173,174,175,176,177,178])
 (.cond (.t 179) (.seq (.reg [] [gn (.mv 2 (.c (.bool false)))] [])
 .ret)
 .skip))))))
 (.reg [] [gm 70 6, gn (.bin 71 .add (.t 70) (ci 1)), gm 6 71] [70,71])))
def k_ref1_MayCode_L2 : K := k_ref1_MayCode_L2b
def k_ref1_MayCode_L1b : K := (.seq (.seq (.reg [] [gm 51 5, gm 52 4, gk 53 52, gn (.bin 54 .lss (.t 51) (.t 53))] [51,52,53])
 (.cond (.t 54) .skip
 (.ext 2)))
 (.seq (.blk 3 (.seq (.seq (.reg [] [gm 57 4, gm 58 5, ga 59 57 58, gf 60 59 1, gl 61 60, gm 62 0, gk 63 62, gn (.bin 64 .sub (.t 63) (ci 1)), gn (.bin 65 .geq (.t 61) (.t 64))] [57,58,59,60,61,62,63,64])
 (.cond (.t 65) (.seq (.reg [] [gn (.mv 2 (.c (.bool false)))] [])
 .ret)
 .skip))
 (.seq (.reg [] [gn (.mv 6 (ci 0))] [])
 (.blk 4 (.loop [0,4,5,6] k_ref1_MayCode_L2)))))
 (.reg [] [gm 55 5, gn (.bin 56 .add (.t 55) (ci 1)), gm 5 56] [55,56])))
def k_ref1_MayCode_L1 : K := k_ref1_MayCode_L1b
def k_ref1_MayCode_L4b : K := (.seq (.seq (.reg [] [gm 193 14, gm 194 4, gk 195 194, gn (.bin 196 .lss (.t 193) (.t 195))] [193,194,195])
 (.cond (.t 196) .skip
 (.ext 8)))
 (.seq (.blk 9 (.seq (.reg [] [gm 199 4, gm 200 14, ga 201 199 200, gl 202 201, gm 203 11, gn (.dat 204 f_ref1_area_has [(.t 202), (.t 203)])] [199,200,201,202,203])
 (.cond (.t 204) (.seq (.reg [] [gm 205 13, gn (.bin 206 .add (.t 205) (ci 1)), gm 13 206] [205,206])
 (.seq (.reg [] [gm 207 4, gm 208 14, ga 209 207 208, gf 210 209 3, gl 211 210] [207,208,209,210])
 (.cond (.t 211) (.reg [] [gm 212 12, gn (.bin 213 .add (.t 212) (ci 1)), gm 12 213] [212,213])
 .skip)))
 .skip)))
 (.reg [] [gm 197 14, gn (.bin 198 .add (.t 197) (ci 1)), gm 14 198] [197,198])))
def k_ref1_MayCode_L4 : K := k_ref1_MayCode_L4b
def k_ref1_MayCode_L3b : K := (.seq (.seq (.reg [] [gm 187 11, gm 188 0, gk 189 188, gn (.bin 190 .lss (.t 187) (.t 189))] [187,188,189])
 (.cond (.t 190) .skip
 (.ext 6)))
 (.seq (.blk 7 (.seq (.reg [] [gn (.mv 12 (ci 0)), gn (.mv 13 (ci 0))] [])
 (.seq (.seq (.reg [] [gn (.mv 14 (ci 0))] [])
 (.blk 8 (.loop [0,4,9,11,12,13,14] k_ref1_MayCode_L4)))
 (.seq (.reg [] [gm 214 12, gn (.bin 215 .gtr (.t 214) (ci 2)), gm 216 215, jm 216 217 0, jm 216 218 11, gj 216 (.ia 219 (.t 217) (.t 218)), gj 216 (.fa 220 (.t 219) 0), gj 216 (.ld 221 (.t 220)), gj 216 (.bin 222 .eql (.t 221) (ci 11)), jm 216 223 222, hm 223 224 13, gh 223 (.bin 225 .gtr (.t 224) (ci 0)), hm 223 226 225, jm 226 227 0, jm 226 228 9, jm 226 229 11, gj 226 (.dat 230 f_ref1_held [(.t 227), (.t 228), (.t 229)]), gj 226 (.bin 231 .gtr (.t 230) (ci 0)), gh 223 (.pick 232 (.t 226) (.c (.bool true)) (.t 231)), gj 216 (.pick 233 (.t 223) (.t 232) (.c (.bool false))), gn (.pick 234 (.t 216) (.c (.bool true)) (.t 233))] [12,13,214,215,216,217,218,219,220,221,222,223,224,225,226,227,228,229,230,231,232,233])
 (.cond (.t 234) (.seq (.reg [] [gn (.mv 2 (.c (.bool false)))] [])
 .ret)
 .skip)))))
 (.reg [] [gm 191 11, gn (.bin 192 .add (.t 191) (ci 1)), gm 11 192] [191,192])))
def k_ref1_MayCode_L3 : K := k_ref1_MayCode_L3b
def k_ref1_MayCode : KF := ⟨(.seq (.reg [] [gn (.mv 2 (.c (.bool false)))] [2])
 (.seq (.seq (.reg [] [gm 15 0, gk 16 15, gn (.bin 17 .lss (.t 16) (ci 1)), gm 18 17, jm 18 19 0, gj 18 (.len 20 (.t 19)), gj 18 (.bin 21 .gtr (.t 20) (ci 24)), gn (.pick 22 (.t 18) (.c (.bool true)) (.t 21))] [15,16,17,18,19,20,21])
 (.cond (.t 22) (.seq (.reg [] [gn (.mv 2 (.c (.bool false)))] [])
 .ret)
 .skip))
 (.seq (.seq (.reg [] [gn (.mv 3 (ci 0))] [])
 (.blk 0 (.loop [0,3] k_ref1_MayCode_L0)))
 (.seq (.reg [] [gm 49 0, gn (.dat 50 f_ref1_areas [(.t 49)]), gm 4 50] [49,50])
 (.seq (.seq (.reg [] [gn (.mv 5 (ci 0))] [])
 (.blk 2 (.loop [0,4,5] k_ref1_MayCode_L1)))
 (.seq (.reg [] [gm 181 0, gn (.dat 182 f_ref1_Pairs [(.t 181)]), gm 180 182, ge 183 180 0, ge 184 180 1, gm 9 183, gm 10 184] [180,181,182,183,184])
 (.seq (.seq (.reg [] [gm 185 10, gn (.un 186 .not (.t 185))] [10,185])
 (.cond (.t 186) (.seq (.reg [] [gn (.mv 2 (.c (.bool false)))] [])
 .ret)
 .skip))
 (.seq (.seq (.reg [] [gn (.mv 11 (ci 0))] [])
 (.blk 6 (.loop [0,4,9,11] k_ref1_MayCode_L3)))
 (.seq (.reg [] [gn (.mv 2 (.c (.bool true)))] [])
 .ret))))))))), [.t 2], none⟩
/- foliot/foliotref1.areas -/
def k_ref1_areas_L0b : K := (.seq (.seq (.reg [] [gm 5 4, gm 6 0, gk 7 6, gn (.bin 8 .lss (.t 5) (.t 7))] [5,6,7])
 (.cond (.t 8) .skip
 (.ext 0)))
 (.seq (.blk 1 (.seq (.reg [] [gm 11 0, gm 12 4, ga 13 11 12, gf 14 13 0, gl 15 14] [11,12,13,14])
 (.blk 2 (.seq (.reg [] [gn (.bin 17 .eql (.t 15) (ci 7)), gm 16 17] [17])
 (.cond (.t 16) (.reg [] [gm 18 3, gm 19 4, gn (.bin 20 .add (.t 19) (ci 1)), gm 21 4, gm 22 0, gm 23 4, ga 24 22 23, gf 25 24 3, gl 26 25, gn (.bin 27 .add (.t 21) (.t 26)), gm 28 4, gn (.bld 29 [(.t 20), (.t 27), (.t 28), (.c (.bool false))]), gn (.bsl 30 [(.t 29)]), gp 31 18 30, gm 3 31] [18,19,20,21,22,23,24,25,26,27,28,29,30,31])
 (.seq (.reg [] [gn (.bin 33 .eql (.t 15) (ci 8)), gm 32 33] [15,33])
 (.cond (.t 32) (.reg [] [gm 34 3, gm 35 4, gn (.bin 36 .add (.t 35) (ci 1)), gm 37 4, gm 38 0, gm 39 4, ga 40 38 39, gf 41 40 2, gl 42 41, gn (.bin 43 .add (.t 37) (.t 42)), gm 44 4, gn (.bld 45 [(.t 36), (.t 43), (.t 44), (.c (.bool true))]), gn (.bsl 46 [(.t 45)]), gp 47 34 46, gm 3 47] [34,35,36,37,38,39,40,41,42,43,44,45,46,47])
 .skip)))))))
 (.reg [] [gm 9 4, gn (.bin 10 .add (.t 9) (ci 1)), gm 4 10] [9,10])))
def k_ref1_areas_L0 : K := k_ref1_areas_L0b
def k_ref1_areas : KF := ⟨(.seq (.reg [] [gn (.mv 2 (.c (.d (.sl true []))))] [2])
 (.seq (.reg [] [gn (.mv 3 (.c (.d (.sl true []))))] [])
 (.seq (.seq (.reg [] [gn (.mv 4 (ci 0))] [])
 (.blk 0 (.loop [0,3,4] k_ref1_areas_L0)))
 (.seq (.reg [] [gm 48 3, gm 2 48] [3,48])
 .ret)))), [.t 2], none⟩
/- (foliot/foliotref1.area).has -/
def k_ref1_area_has : KF := ⟨(.seq (.reg [] [gn (.box 2 (.t 0)), gn (.mv 4 (.c (.bool false)))] [0,4])
 (.seq (.reg [] [gf 5 2 0, gl 6 5, gm 7 1, gn (.bin 8 .leq (.t 6) (.t 7)), gm 9 8, hm 9 10 1, gh 9 (.fa 11 (.t 2) 1), gh 9 (.ld 12 (.t 11)), gh 9 (.bin 13 .leq (.t 10) (.t 12)), gn (.pick 14 (.t 9) (.t 13) (.c (.bool false))), gm 4 14] [1,2,5,6,7,8,9,10,11,12,13,14])
 .ret)), [.t 4], none⟩
/- foliot/foliotref1.Pairs -/
def k_ref1_Pairs_L1b : K := (.seq (.seq (.reg [] [gm 29 8, gm 30 5, gk 31 30, gn (.bin 32 .lss (.t 29) (.t 31))] [29,30,31])
 (.cond (.t 32) .skip
 (.ext 3)))
 (.seq (.blk 4 (.seq (.reg [] [gm 35 0, gm 36 5, gm 37 8, ga 38 36 37, gl 39 38, ga 40 35 39, gf 41 40 1, gl 42 41, gm 43 0, gm 44 7, ga 45 43 44, gf 46 45 1, gl 47 46, gn (.bin 48 .eql (.t 42) (.t 47))] [35,36,37,38,39,40,41,42,43,44,45,46,47])
 (.cond (.t 48) (.seq (.reg [] [gn (.mv 2 (.c (.d (.sl true [])))), gn (.mv 3 (.c (.bool false)))] [])
 .ret)
 .skip)))
 (.reg [] [gm 33 8, gn (.bin 34 .add (.t 33) (ci 1)), gm 8 34] [33,34])))
def k_ref1_Pairs_L1 : K := k_ref1_Pairs_L1b
def k_ref1_Pairs_L2b : K := (.seq (.seq (.reg [] [gm 90 10, gm 91 6, gk 92 91, gn (.bin 93 .lss (.t 90) (.t 92))] [90,91,92])
 (.cond (.t 93) .skip
 (.ext 5)))
 (.seq (.blk 6 (.seq (.reg [(5,8), (5,9)] [gm 96 6, gm 97 10, ga 98 96 97, gl 99 98, gm 100 9, gn (.dat 101 f_ref1_area_has [(.t 99), (.t 100)]), gm 102 6, gm 103 10, ga 104 102 103, gl 105 104, gm 106 7, gn (.dat 107 f_ref1_area_has [(.t 105), (.t 106)]), gn (.bin 108 .neq (.t 101) (.t 107))] [96,97,98,99,100,101,102,103,104,105,106,107])
 (.cond (.t 108) (.seq (.reg [] [gn (.mv 2 (.c (.d (.sl true [])))), gn (.mv 3 (.c (.bool false)))] [])
 .ret)
 .skip)))
 (.reg [] [gm 94 10, gn (.bin 95 .add (.t 94) (ci 1)), gm 10 95] [94,95])))
def k_ref1_Pairs_L2 : K := k_ref1_Pairs_L2b
def k_ref1_Pairs_L0b : K := (.seq (.seq (.reg [] [gm 16 7, gm 17 0, gk 18 17, gn (.bin 19 .lss (.t 16) (.t 18))] [16,17,18])
 (.cond (.t 19) .skip
 (.ext 0)))
 (.seq (.blk 1 (.seq (.reg [] [gm 22 0, gm 23 7, ga 24 22 23, gf 25 24 0, gl 26 25] [22,23,24,25])
 (.blk 2 (.seq (.reg [] [gn (.bin 28 .eql (.t 26) (ci 9)), gm 27 28] [28])
 (.cond (.t 27) (.seq (.seq (.reg [] [gn (.mv 8 (ci 0))] [])
 (.blk 3 (.loop [0,4,5,6,7,8] k_ref1_Pairs_L1)))
 (.seq (.reg [] [gm 49 5, gm 50 7, gn (.bsl 51 [(.t 50)]), gp 52 49 51, gm 5 52] [49,50,51,52])
 (.seq (.reg [] [gm 53 5, gk 54 53, gn (.bin 55 .gtr (.t 54) (ci 2))] [53,54])
 (.cond (.t 55) (.seq (.reg [] [gn (.mv 2 (.c (.d (.sl true [])))), gn (.mv 3 (.c (.bool false)))] [])
 .ret)
 .skip))))
 (.seq (.reg [] [gn (.bin 57 .eql (.t 26) (ci 10)), gm 56 57] [26,57])
 (.cond (.t 56) (.seq (.seq (.reg [] [gm 58 5, gk 59 58, gn (.bin 60 .eql (.t 59) (ci 0)), gm 61 60, jm 61 62 0, jm 61 63 5, jm 61 64 5, gj 61 (.len 65 (.t 64)), gj 61 (.bin 66 .sub (.t 65) (ci 1)), gj 61 (.ia 67 (.t 63) (.t 66)), gj 61 (.ld 68 (.t 67)), gj 61 (.ia 69 (.t 62) (.t 68)), gj 61 (.fa 70 (.t 69) 1), gj 61 (.ld 71 (.t 70)), jm 61 72 0, jm 61 73 7, gj 61 (.ia 74 (.t 72) (.t 73)), gj 61 (.fa 75 (.t 74) 1), gj 61 (.ld 76 (.t 75)), gj 61 (.bin 77 .neq (.t 71) (.t 76)), gn (.pick 78 (.t 61) (.c (.bool true)) (.t 77))] [58,59,60,61,62,63,64,65,66,67,68,69,70,71,72,73,74,75,76,77])
 (.cond (.t 78) (.seq (.reg [] [gn (.mv 2 (.c (.d (.sl true [])))), gn (.mv 3 (.c (.bool false)))] [])
 .ret)
 .skip))
 (.seq (.reg [] [gm 79 5, gm 80 5, gk 81 80, gn (.bin 82 .sub (.t 81) (ci 1)), ga 83 79 82, gl 84 83, gm 9 84] [79,80,81,82,83,84])
 (.seq (.reg [] [gm 85 5, gm 86 5, gk 87 86, gn (.bin 88 .sub (.t 87) (ci 1)), gn (.slc 89 (.t 85) none (some (.t 88))), gm 5 89] [85,86,87,88,89])
 (.seq (.seq (.reg [] [gn (.mv 10 (ci 0))] [])
 (.blk 5 (.loop [0,4,5,6,7,9,10] k_ref1_Pairs_L2)))
 (.reg [] [gm 109 4, gm 110 9, gm 111 7, ga 112 109 110, gs 112 111] [9,109,110,111,112])))))
 .skip)))))))
 (.reg [] [gm 20 7, gn (.bin 21 .add (.t 20) (ci 1)), gm 7 21] [20,21])))
def k_ref1_Pairs_L0 : K := k_ref1_Pairs_L0b
def k_ref1_Pairs : KF := ⟨(.seq (.reg [] [gn (.mv 2 (.c (.d (.sl true [])))), gn (.mv 3 (.c (.bool false)))] [2,3])
 (.seq (.reg [] [gm 11 0, gk 12 11, gn (.mks 13 (.int .i64 0) (.t 12) (.t 12)), gm 4 13] [11,12,13])
 (.seq (.reg [] [gn (.mv 5 (.c (.d (.sl true []))))] [])
 (.seq (.reg [] [gm 14 0, gn (.dat 15 f_ref1_areas [(.t 14)]), gm 6 15] [14,15])
 (.seq (.seq (.reg [] [gn (.mv 7 (ci 0))] [])
 (.blk 0 (.loop [0,4,5,6,7] k_ref1_Pairs_L0)))
 (.seq (.seq (.reg [] [gm 113 5, gk 114 113, gn (.bin 115 .gtr (.t 114) (ci 0))] [5,113,114])
 (.cond (.t 115) (.seq (.reg [] [gn (.mv 2 (.c (.d (.sl true [])))), gn (.mv 3 (.c (.bool false)))] [])
 .ret)
 .skip))
 (.seq (.reg [] [gm 116 4, gm 2 116, gn (.mv 3 (.c (.bool true)))] [4,116])
 .ret))))))), [.t 2, .t 3], none⟩
/- foliot/foliotref1.held -/
def k_ref1_held_L0b : K := (.seq (.seq (.reg [] [gm 9 8, gm 10 0, gk 11 10, gn (.bin 12 .lss (.t 9) (.t 11))] [9,10,11])
 (.cond (.t 12) .skip
 (.ext 0)))
 (.seq (.blk 1 (.seq (.reg [] [gm 15 0, gm 16 8, ga 17 15 16, gf 18 17 0, gl 19 18, gn (.bin 20 .eql (.t 19) (ci 9)), gm 21 20, hm 21 22 8, hm 21 23 2, gh 21 (.bin 24 .lss (.t 22) (.t 23)), gn (.pick 25 (.t 21) (.t 24) (.c (.bool false))), gm 26 25, hm 26 27 2, hm 26 28 1, hm 26 29 8, gh 26 (.ia 30 (.t 28) (.t 29)), gh 26 (.ld 31 (.t 30)), gh 26 (.bin 32 .lss (.t 27) (.t 31)), gn (.pick 33 (.t 26) (.t 32) (.c (.bool false)))] [15,16,17,18,19,20,21,22,23,24,25,26,27,28,29,30,31,32])
 (.cond (.t 33) (.reg [] [gm 34 7, gn (.bin 35 .add (.t 34) (ci 1)), gm 7 35] [34,35])
 .skip)))
 (.reg [] [gm 13 8, gn (.bin 14 .add (.t 13) (ci 1)), gm 8 14] [13,14])))
def k_ref1_held_L0 : K := k_ref1_held_L0b
def k_ref1_held : KF := ⟨(.seq (.reg [] [gn (.mv 6 (ci 0))] [6])
 (.seq (.reg [] [gn (.mv 7 (ci 0))] [])
 (.seq (.seq (.reg [] [gn (.mv 8 (ci 0))] [])
 (.blk 0 (.loop [0,1,2,7,8] k_ref1_held_L0)))
 (.seq (.reg [] [gm 36 7, gm 6 36] [7,36])
 .ret)))), [.t 6], none⟩
/- foliot/foliotref1.times -/
def k_ref1_times_L1b : K := (.seq (.seq (.reg [] [gm 21 6, gm 22 4, gk 23 22, gn (.bin 24 .lss (.t 21) (.t 23))] [21,22,23])
 (.cond (.t 24) .skip
 (.ext 2)))
 (.seq (.blk 3 (.seq (.reg [] [gm 27 4, gm 28 6, ga 29 27 28, gf 30 29 3, gl 31 30, gm 32 31, hm 32 33 4, hm 32 34 6, gh 32 (.ia 35 (.t 33) (.t 34)), gh 32 (.ld 36 (.t 35)), hm 32 37 5, gh 32 (.dat 38 f_ref1_area_has [(.t 36), (.t 37)]), gn (.pick 39 (.t 32) (.t 38) (.c (.bool false)))] [27,28,29,30,31,32,33,34,35,36,37,38])
 (.cond (.t 39) (.reg [] [gm 40 3, gm 41 5, gm 42 3, gm 43 5, ga 44 42 43, gl 45 44, gm 46 0, gm 47 4, gm 48 6, ga 49 47 48, gf 50 49 2, gl 51 50, ga 52 46 51, gf 53 52 3, gl 54 53, gn (.bin 55 .mul (.t 45) (.t 54)), ga 56 40 41, gs 56 55] [40,41,42,43,44,45,46,47,48,49,50,51,52,53,54,55,56])
 .skip)))
 (.reg [] [gm 25 6, gn (.bin 26 .add (.t 25) (ci 1)), gm 6 26] [25,26])))
def k_ref1_times_L1 : K := k_ref1_times_L1b
def k_ref1_times_L0b : K := (.seq (.seq (.reg [] [gm 12 5, gm 13 0, gk 14 13, gn (.bin 15 .lss (.t 12) (.t 14))] [12,13,14])
 (.cond (.t 15) .skip
 (.ext 0)))
 (.seq (.blk 1 (.seq (.reg [] [gm 18 3, gm 19 5, ga 20 18 19, gn (.st (.t 20) (ci 1))] [18,19,20])
 (.seq (.reg [] [gn (.mv 6 (ci 0))] [])
 (.blk 2 (.loop [0,3,4,5,6] k_ref1_times_L1)))))
 (.reg [] [gm 16 5, gn (.bin 17 .add (.t 16) (ci 1)), gm 5 17] [16,17])))
def k_ref1_times_L0 : K := k_ref1_times_L0b
def k_ref1_times : KF := ⟨(.seq (.reg [] [gn (.mv 2 (.c (.d (.sl true []))))] [2])
 (.seq (.reg [] [gm 7 0, gk 8 7, gn (.mks 9 (.int .i64 0) (.t 8) (.t 8)), gm 3 9] [7,8,9])
 (.seq (.reg [] [gm 10 0, gn (.dat 11 f_ref1_areas [(.t 10)]), gm 4 11] [10,11])
 (.seq (.seq (.reg [] [gn (.mv 5 (ci 0))] [])
 (.blk 0 (.loop [0,3,4,5] k_ref1_times_L0)))
 (.seq (.reg [] [gm 57 3, gm 2 57] [3,57])
 .ret))))), [.t 2], none⟩
/- foliot/foliotref1.Run -/
def k_ref1_Run_L0b : K := (.seq (.seq (.reg [] [gf 20 9 3, gl 21 20, gn (.un 22 .not (.t 21)), gm 23 22, hm 23 24 10, gh 23 (.fa 25 (.t 7) 0), gh 23 (.ld 26 (.t 25)), gh 23 (.bin 27 .leq (.t 24) (.t 26)), gn (.pick 28 (.t 23) (.t 27) (.c (.bool false)))] [20,21,22,23,24,25,26,27])
 (.cond (.t 28) .skip
 (.ext 0)))
 (.blk 1 (.seq (.reg [] [gm 30 0, gl 31 9, gn (.dat 32 f_ref1_Step [(.t 30), (.t 31)]), gm 29 32, ge 33 29 0, ge 34 29 1, ge 35 29 2, gs 9 33] [29,30,31,32,33,34,35])
 (.reg [] [gm 36 10, gn (.bin 37 .add (.t 36) (ci 1)), gm 10 37] [36,37]))))
def k_ref1_Run_L0 : K := k_ref1_Run_L0b
def k_ref1_Run : KF := ⟨(.seq (.reg [] [gn (.mv 4 (ci 0)), gn (.mv 5 (ci 0)), gn (.mv 6 (.c (.bool false)))] [4,5,6])
 (.seq (.reg [] [gm 12 0, gn (.dat 13 f_ref1_Cost [(.t 12)]), gm 11 13, ge 14 11 0, ge 15 11 1, gn (.alc 7 (.d (.agg [(.int .i64 0), (.int .i64 0), (.sl true [])]))), gs 7 14, gm 8 15] [11,12,13,14,15])
 (.seq (.seq (.reg [] [gm 16 8, gn (.un 17 .not (.t 16))] [8,16])
 (.cond (.t 17) (.seq (.reg [] [gn (.mv 4 (ci 0)), gn (.mv 5 (ci 0)), gn (.mv 6 (.c (.bool false)))] [])
 .ret)
 .skip))
 (.seq (.reg [] [gm 18 1, gn (.dat 19 f_ref1_NewMachine [(.t 18)]), gn (.alc 9 (.d (.agg [(.int .i64 0), (.agg [(.int .i64 0), (.int .i64 0), (.int .i64 0), (.int .i64 0), (.int .i64 0), (.int .i64 0), (.int .i64 0), (.int .i64 0)]), (.sl true []), (.bool false)]))), gs 9 19] [1,18,19])
 (.seq (.reg [] [gn (.mv 10 (ci 0))] [])
 (.seq (.blk 0 (.loop [0,7,9,10] k_ref1_Run_L0))
 (.seq (.reg [] [gf 38 9 1, gn (.ia 39 (.t 38) (ci 0)), gl 40 39, gm 41 10, gm 4 40, gm 5 41, gn (.mv 6 (.c (.bool true)))] [9,10,38,39,40,41])
 .ret))))))), [.t 4, .t 5, .t 6], none⟩
/- foliot/foliotlaw19.JobHeld -/
def k_law19_JobHeld_L1b : K := (.seq (.seq (.reg [] [gm 67 12, gm 68 7, gk 69 68, gn (.bin 70 .lss (.t 67) (.t 69))] [67,68,69])
 (.cond (.t 70) .skip
 (.ext 2)))
 (.seq (.blk 3 (.seq (.reg [] [gf 73 9 6, gl 74 73, gm 75 12, ga 76 74 75, gl 77 76, gm 78 7, gm 79 12, ga 80 78 79, gl 81 80, gn (.bin 82 .neq (.t 77) (.t 81))] [73,74,75,76,77,78,79,80,81])
 (.cond (.t 82) (.seq (.reg [] [gn (.mv 4 (.c (.bool false)))] [])
 .ret)
 .skip)))
 (.reg [] [gm 71 12, gn (.bin 72 .add (.t 71) (ci 1)), gm 12 72] [71,72])))
def k_law19_JobHeld_L1 : K := k_law19_JobHeld_L1b
def k_law19_JobHeld_L0b : K := (.seq (.seq (.reg [] [gm 23 8, gn (.bin 24 .lss (.t 23) (ci 2000)), gm 25 24, gh 25 (.fa 26 (.t 6) 4), gh 25 (.fa 27 (.t 26) 3), gh 25 (.ld 28 (.t 27)), gh 25 (.un 29 .not (.t 28)), gn (.pick 30 (.t 25) (.t 29) (.c (.bool false)))] [23,24,25,26,27,28,29])
 (.cond (.t 30) .skip
 (.ext 0)))
 (.seq (.blk 1 (.seq (.reg [] [gl 34 5, gl 35 6, gn (.das 36 f_job_Go [(.t 34), (.t 35)]), gm 33 36, ge 37 33 0, ge 38 33 1, ge 39 33 2, gn (.alc 9 (.d (.agg [(.int .i64 0), (.int .i64 0), (.int .i64 0), (.int .i64 0), (.agg [(.int .i64 0), (.agg [(.int .i64 0), (.int .i64 0), (.int .i64 0), (.int .i64 0), (.int .i64 0), (.int .i64 0), (.int .i64 0), (.int .i64 0)]), (.sl true []), (.bool false)]), (.agg [(.int .i64 0), (.agg [(.int .i64 0), (.int .i64 0), (.int .i64 0), (.int .i64 0), (.int .i64 0), (.int .i64 0), (.int .i64 0), (.int .i64 0)]), (.sl true []), (.bool false)]), (.sl true []), (.bool false)]))), gn (.alc 10 (.d (.agg [(.int .i64 0), (.int .i64 0), (.int .i64 0), (.int .i64 0)]))), gs 9 37, gs 10 38, gm 11 39] [33,34,35,36,37,38,39])
 (.seq (.seq (.reg [] [gm 40 11, gn (.un 41 .not (.t 40))] [11,40])
 (.cond (.t 41) (.seq (.reg [] [gn (.mv 4 (.c (.bool false)))] [])
 .ret)
 .skip))
 (.seq (.seq (.reg [] [gf 42 10 0, gl 43 42, gn (.bin 44 .eql (.t 43) (ci 9))] [42,43])
 (.cond (.t 44) (.reg [] [gm 45 7, gf 46 10 1, gl 47 46, gn (.bsl 48 [(.t 47)]), gp 49 45 48, gm 7 49] [45,46,47,48,49])
 .skip))
 (.seq (.seq (.reg [] [gf 50 10 0, gl 51 50, gn (.bin 52 .eql (.t 51) (ci 10))] [50,51])
 (.cond (.t 52) (.seq (.seq (.reg [] [gm 53 7, gk 54 53, gn (.bin 55 .eql (.t 54) (ci 0))] [53,54])
 (.cond (.t 55) (.seq (.reg [] [gn (.mv 4 (.c (.bool false)))] [])
 .ret)
 .skip))
 (.reg [] [gm 56 7, gm 57 7, gk 58 57, gn (.bin 59 .sub (.t 58) (ci 1)), gn (.slc 60 (.t 56) none (some (.t 59))), gm 7 60] [56,57,58,59,60]))
 .skip))
 (.seq (.seq (.reg [] [gf 61 9 6, gl 62 61, gk 63 62, gm 64 7, gk 65 64, gn (.bin 66 .neq (.t 63) (.t 65))] [61,62,63,64,65])
 (.cond (.t 66) (.seq (.reg [] [gn (.mv 4 (.c (.bool false)))] [])
 .ret)
 .skip))
 (.seq (.seq (.reg [] [gn (.mv 12 (ci 0))] [])
 (.blk 2 (.loop [5,6,7,8,9,10,12] k_law19_JobHeld_L1)))
 (.seq (.seq (.reg [] [gf 83 10 0, gl 84 83, gn (.bin 85 .eql (.t 84) (ci 11)), gm 86 85, gh 86 (.fa 87 (.t 9) 5), gh 86 (.ld 88 (.t 87)), gh 86 (.fa 89 (.t 9) 4), gh 86 (.ld 90 (.t 89)), gh 86 (.dat 91 f_ref1_SameMachine [(.t 88), (.t 90)]), gh 86 (.un 92 .not (.t 91)), gn (.pick 93 (.t 86) (.t 92) (.c (.bool false))), gm 94 93, gj 94 (.fa 95 (.t 10) 0), gj 94 (.ld 96 (.t 95)), gj 94 (.bin 97 .neq (.t 96) (ci 11)), jm 94 98 97, gh 98 (.fa 99 (.t 9) 5), gh 98 (.ld 100 (.t 99)), gh 98 (.fa 101 (.t 6) 5), gh 98 (.ld 102 (.t 101)), gh 98 (.dat 103 f_ref1_SameMachine [(.t 100), (.t 102)]), gh 98 (.un 104 .not (.t 103)), gj 94 (.pick 105 (.t 98) (.t 104) (.c (.bool false))), gn (.pick 106 (.t 94) (.c (.bool true)) (.t 105))] [10,83,84,85,86,87,88,89,90,91,92,93,94,95,96,97,98,99,100,101,102,103,104,105])
 (.cond (.t 106) (.seq (.reg [] [gn (.mv 4 (.c (.bool false)))] [])
 .ret)
 .skip))
 (.reg [] [gl 107 9, gs 6 107] [9,107])))))))))
 (.reg [] [gm 31 8, gn (.bin 32 .add (.t 31) (ci 1)), gm 8 32] [31,32])))
def k_law19_JobHeld_L0 : K := k_law19_JobHeld_L0b
def k_law19_JobHeld : KF := ⟨(.seq (.reg [] [gn (.mv 4 (.c (.bool false)))] [4])
 (.seq (.seq (.reg [] [gn (.dat 13 f_law19_begun []), gn (.un 14 .not (.t 13))] [13])
 (.cond (.t 14) (.seq (.reg [] [gn (.mv 4 (.c (.bool false)))] [])
 .ret)
 .skip))
 (.seq (.seq (.reg [] [gm 15 0, gk 16 15, gn (.bin 17 .gtr (.t 16) (ci 150))] [15,16])
 (.cond (.t 17) (.seq (.reg [] [gn (.mv 4 (.c (.bool true)))] [])
 .ret)
 .skip))
 (.seq (.reg [] [gm 18 0, gn (.cal 19 f_play_Made [(.t 18)] []), gn (.cad 20 f_play_Picks_Task [(.t 19), (ci 1), (ci 3)] []), gn (.alc 5 (.d (.agg [(.int .i64 0), (.int .i64 0), (.int .i64 0), (.sl true []), (.sl true []), (.sl true [])]))), gs 5 20] [0,18,19,20])
 (.seq (.reg [] [gm 21 1, gn (.das 22 f_job_New [(ci 0), (ci 0), (.t 21)]), gn (.alc 6 (.d (.agg [(.int .i64 0), (.int .i64 0), (.int .i64 0), (.int .i64 0), (.agg [(.int .i64 0), (.agg [(.int .i64 0), (.int .i64 0), (.int .i64 0), (.int .i64 0), (.int .i64 0), (.int .i64 0), (.int .i64 0), (.int .i64 0)]), (.sl true []), (.bool false)]), (.agg [(.int .i64 0), (.agg [(.int .i64 0), (.int .i64 0), (.int .i64 0), (.int .i64 0), (.int .i64 0), (.int .i64 0), (.int .i64 0), (.int .i64 0)]), (.sl true []), (.bool false)]), (.sl true []), (.bool false)]))), gs 6 22] [1,21,22])
 (.seq (.reg [] [gn (.mv 7 (.c (.d (.sl true []))))] [])
 (.seq (.seq (.reg [] [gn (.mv 8 (ci 0))] [])
 (.blk 0 (.loop [5,6,7,8] k_law19_JobHeld_L0)))
 (.seq (.reg [] [gf 108 6 4, gf 109 108 3, gl 110 109, gm 111 110, hm 111 112 7, gh 111 (.len 113 (.t 112)), gh 111 (.bin 114 .eql (.t 113) (ci 0)), gn (.pick 115 (.t 111) (.t 114) (.c (.bool false))), gm 4 115] [6,7,108,109,110,111,112,113,114,115])
 .ret)))))))), [.t 4], none⟩
def kl : List (Nat × KF) := [(3, k_law22_FaultTwice), (6, k_law22_begun), (9, k_ref19_NewJob), (24, k_ref1_NewMachine), (11, k_fault_Hit), (17, k_job_Back), (35, k_job_twin), (36, k_job_machine), (39, k_slices_Clone_api_Rep2_api_Rep2), (41, k_slices_Clone_int_int), (34, k_vm_New), (27, k_sema_All), (47, k_slices_Clone_api_Sema_api_Sema), (48, k_sema_holds), (62, k_sema_has), (21, k_fault_Loses), (42, k_fault_Loses_1), (40, k_slices_DeleteFunc_int_int), (58, k_slices_IndexFunc_int_int), (7, k_play_Made), (8, k_play_Picks_Task), (22, k_play_Picks_Code), (23, k_play_Picks_Num), (43, k_play_Picks_some), (59, k_play_Picks_plain), (10, k_ref19_Go), (26, k_ref19_Code), (25, k_ref1_Step), (44, k_ref1_MayInst), (60, k_ref1_places_has), (45, k_ref1_Shift), (46, k_ref1_Narrow), (61, k_ref1_bit), (12, k_ref11_SameSemas), (13, k_ref19_SameJob), (20, k_ref1_SameMachine), (28, k_ref11_SameInts), (4, k_law19_JobLost), (14, k_law19_begun), (16, k_job_New), (18, k_job_Go), (30, k_job_Code), (49, k_slices_Clone_api_Inst_api_Inst), (37, k_vm_Step), (53, k_code_May), (63, k_code_memory), (64, k_code_within), (54, k_vm_twin), (55, k_vm_Shift), (56, k_vm_Narrow), (57, k_vm_goes), (38, k_slices_Delete_int_int), (29, k_job_Opt), (15, k_ref1_Cost), (31, k_ref1_MayCode), (50, k_ref1_areas), (51, k_ref1_area_has), (33, k_ref1_Pairs), (52, k_ref1_held), (32, k_ref1_times), (19, k_ref1_Run), (5, k_law19_JobHeld)]
def kp : Nat → Option KF := fun n => List.lookup n kl
theorem kp_law22_FaultTwice : kp f_law22_FaultTwice = some k_law22_FaultTwice := rfl
theorem kp_law22_begun : kp f_law22_begun = some k_law22_begun := rfl
theorem kp_ref19_NewJob : kp f_ref19_NewJob = some k_ref19_NewJob := rfl
theorem kp_ref1_NewMachine : kp f_ref1_NewMachine = some k_ref1_NewMachine := rfl
theorem kp_fault_Hit : kp f_fault_Hit = some k_fault_Hit := rfl
theorem kp_job_Back : kp f_job_Back = some k_job_Back := rfl
theorem kp_job_twin : kp f_job_twin = some k_job_twin := rfl
theorem kp_job_machine : kp f_job_machine = some k_job_machine := rfl
theorem kp_slices_Clone_api_Rep2_api_Rep2 : kp f_slices_Clone_api_Rep2_api_Rep2 = some k_slices_Clone_api_Rep2_api_Rep2 := rfl
theorem kp_slices_Clone_int_int : kp f_slices_Clone_int_int = some k_slices_Clone_int_int := rfl
theorem kp_vm_New : kp f_vm_New = some k_vm_New := rfl
theorem kp_sema_All : kp f_sema_All = some k_sema_All := rfl
theorem kp_slices_Clone_api_Sema_api_Sema : kp f_slices_Clone_api_Sema_api_Sema = some k_slices_Clone_api_Sema_api_Sema := rfl
theorem kp_sema_holds : kp f_sema_holds = some k_sema_holds := rfl
theorem kp_sema_has : kp f_sema_has = some k_sema_has := rfl
theorem kp_fault_Loses : kp f_fault_Loses = some k_fault_Loses := rfl
theorem kp_fault_Loses_1 : kp f_fault_Loses_1 = some k_fault_Loses_1 := rfl
theorem kp_slices_DeleteFunc_int_int : kp f_slices_DeleteFunc_int_int = some k_slices_DeleteFunc_int_int := rfl
theorem kp_slices_IndexFunc_int_int : kp f_slices_IndexFunc_int_int = some k_slices_IndexFunc_int_int := rfl
theorem kp_play_Made : kp f_play_Made = some k_play_Made := rfl
theorem kp_play_Picks_Task : kp f_play_Picks_Task = some k_play_Picks_Task := rfl
theorem kp_play_Picks_Code : kp f_play_Picks_Code = some k_play_Picks_Code := rfl
theorem kp_play_Picks_Num : kp f_play_Picks_Num = some k_play_Picks_Num := rfl
theorem kp_play_Picks_some : kp f_play_Picks_some = some k_play_Picks_some := rfl
theorem kp_play_Picks_plain : kp f_play_Picks_plain = some k_play_Picks_plain := rfl
theorem kp_ref19_Go : kp f_ref19_Go = some k_ref19_Go := rfl
theorem kp_ref19_Code : kp f_ref19_Code = some k_ref19_Code := rfl
theorem kp_ref1_Step : kp f_ref1_Step = some k_ref1_Step := rfl
theorem kp_ref1_MayInst : kp f_ref1_MayInst = some k_ref1_MayInst := rfl
theorem kp_ref1_places_has : kp f_ref1_places_has = some k_ref1_places_has := rfl
theorem kp_ref1_Shift : kp f_ref1_Shift = some k_ref1_Shift := rfl
theorem kp_ref1_Narrow : kp f_ref1_Narrow = some k_ref1_Narrow := rfl
theorem kp_ref1_bit : kp f_ref1_bit = some k_ref1_bit := rfl
theorem kp_ref11_SameSemas : kp f_ref11_SameSemas = some k_ref11_SameSemas := rfl
theorem kp_ref19_SameJob : kp f_ref19_SameJob = some k_ref19_SameJob := rfl
theorem kp_ref1_SameMachine : kp f_ref1_SameMachine = some k_ref1_SameMachine := rfl
theorem kp_ref11_SameInts : kp f_ref11_SameInts = some k_ref11_SameInts := rfl
theorem kp_law19_JobLost : kp f_law19_JobLost = some k_law19_JobLost := rfl
theorem kp_law19_begun : kp f_law19_begun = some k_law19_begun := rfl
theorem kp_job_New : kp f_job_New = some k_job_New := rfl
theorem kp_job_Go : kp f_job_Go = some k_job_Go := rfl
theorem kp_job_Code : kp f_job_Code = some k_job_Code := rfl
theorem kp_slices_Clone_api_Inst_api_Inst : kp f_slices_Clone_api_Inst_api_Inst = some k_slices_Clone_api_Inst_api_Inst := rfl
theorem kp_vm_Step : kp f_vm_Step = some k_vm_Step := rfl
theorem kp_code_May : kp f_code_May = some k_code_May := rfl
theorem kp_code_memory : kp f_code_memory = some k_code_memory := rfl
theorem kp_code_within : kp f_code_within = some k_code_within := rfl
theorem kp_vm_twin : kp f_vm_twin = some k_vm_twin := rfl
theorem kp_vm_Shift : kp f_vm_Shift = some k_vm_Shift := rfl
theorem kp_vm_Narrow : kp f_vm_Narrow = some k_vm_Narrow := rfl
theorem kp_vm_goes : kp f_vm_goes = some k_vm_goes := rfl
theorem kp_slices_Delete_int_int : kp f_slices_Delete_int_int = some k_slices_Delete_int_int := rfl
theorem kp_job_Opt : kp f_job_Opt = some k_job_Opt := rfl
theorem kp_ref1_Cost : kp f_ref1_Cost = some k_ref1_Cost := rfl
theorem kp_ref1_MayCode : kp f_ref1_MayCode = some k_ref1_MayCode := rfl
theorem kp_ref1_areas : kp f_ref1_areas = some k_ref1_areas := rfl
theorem kp_ref1_area_has : kp f_ref1_area_has = some k_ref1_area_has := rfl
theorem kp_ref1_Pairs : kp f_ref1_Pairs = some k_ref1_Pairs := rfl
theorem kp_ref1_held : kp f_ref1_held = some k_ref1_held := rfl
theorem kp_ref1_times : kp f_ref1_times = some k_ref1_times := rfl
theorem kp_ref1_Run : kp f_ref1_Run = some k_ref1_Run := rfl
theorem kp_law19_JobHeld : kp f_law19_JobHeld = some k_law19_JobHeld := rfl
def natl : List (Nat × NK) := [(38, .del)]
theorem c_law22_FaultTwice_L0 (s : St) : run kp (.code k_law22_FaultTwice_L0 s) = run kp (.code k_law22_FaultTwice_L0b s) := rfl
theorem c_sema_All_L0 (s : St) : run kp (.code k_sema_All_L0 s) = run kp (.code k_sema_All_L0b s) := rfl
theorem c_slices_DeleteFunc_int_int_L0 (s : St) : run kp (.code k_slices_DeleteFunc_int_int_L0 s) = run kp (.code k_slices_DeleteFunc_int_int_L0b s) := rfl
theorem c_slices_IndexFunc_int_int_L0 (s : St) : run kp (.code k_slices_IndexFunc_int_int_L0 s) = run kp (.code k_slices_IndexFunc_int_int_L0b s) := rfl
theorem c_play_Picks_Code_L0 (s : St) : run kp (.code k_play_Picks_Code_L0 s) = run kp (.code k_play_Picks_Code_L0b s) := rfl
theorem c_play_Picks_some_L0 (s : St) : run kp (.code k_play_Picks_some_L0 s) = run kp (.code k_play_Picks_some_L0b s) := rfl
theorem c_ref19_Go_L0 (s : St) : run kp (.code k_ref19_Go_L0 s) = run kp (.code k_ref19_Go_L0b s) := rfl
theorem c_ref1_Step_L0 (s : St) : run kp (.code k_ref1_Step_L0 s) = run kp (.code k_ref1_Step_L0b s) := rfl
theorem c_ref1_Shift_L0 (s : St) : run kp (.code k_ref1_Shift_L0 s) = run kp (.code k_ref1_Shift_L0b s) := rfl
theorem c_ref1_Shift_L1 (s : St) : run kp (.code k_ref1_Shift_L1 s) = run kp (.code k_ref1_Shift_L1b s) := rfl
theorem c_ref1_bit_L0 (s : St) : run kp (.code k_ref1_bit_L0 s) = run kp (.code k_ref1_bit_L0b s) := rfl
theorem c_ref11_SameSemas_L0 (s : St) : run kp (.code k_ref11_SameSemas_L0 s) = run kp (.code k_ref11_SameSemas_L0b s) := rfl
theorem c_ref1_SameMachine_L0 (s : St) : run kp (.code k_ref1_SameMachine_L0 s) = run kp (.code k_ref1_SameMachine_L0b s) := rfl
theorem c_ref11_SameInts_L0 (s : St) : run kp (.code k_ref11_SameInts_L0 s) = run kp (.code k_ref11_SameInts_L0b s) := rfl
theorem c_law19_JobLost_L0 (s : St) : run kp (.code k_law19_JobLost_L0 s) = run kp (.code k_law19_JobLost_L0b s) := rfl
theorem c_job_Go_L0 (s : St) : run kp (.code k_job_Go_L0 s) = run kp (.code k_job_Go_L0b s) := rfl
theorem c_vm_goes_L0 (s : St) : run kp (.code k_vm_goes_L0 s) = run kp (.code k_vm_goes_L0b s) := rfl
theorem c_ref1_Cost_L0 (s : St) : run kp (.code k_ref1_Cost_L0 s) = run kp (.code k_ref1_Cost_L0b s) := rfl
theorem c_ref1_Cost_L1 (s : St) : run kp (.code k_ref1_Cost_L1 s) = run kp (.code k_ref1_Cost_L1b s) := rfl
theorem c_ref1_MayCode_L0 (s : St) : run kp (.code k_ref1_MayCode_L0 s) = run kp (.code k_ref1_MayCode_L0b s) := rfl
theorem c_ref1_MayCode_L1 (s : St) : run kp (.code k_ref1_MayCode_L1 s) = run kp (.code k_ref1_MayCode_L1b s) := rfl
theorem c_ref1_MayCode_L2 (s : St) : run kp (.code k_ref1_MayCode_L2 s) = run kp (.code k_ref1_MayCode_L2b s) := rfl
theorem c_ref1_MayCode_L3 (s : St) : run kp (.code k_ref1_MayCode_L3 s) = run kp (.code k_ref1_MayCode_L3b s) := rfl
theorem c_ref1_MayCode_L4 (s : St) : run kp (.code k_ref1_MayCode_L4 s) = run kp (.code k_ref1_MayCode_L4b s) := rfl
theorem c_ref1_areas_L0 (s : St) : run kp (.code k_ref1_areas_L0 s) = run kp (.code k_ref1_areas_L0b s) := rfl
theorem c_ref1_Pairs_L0 (s : St) : run kp (.code k_ref1_Pairs_L0 s) = run kp (.code k_ref1_Pairs_L0b s) := rfl
theorem c_ref1_Pairs_L1 (s : St) : run kp (.code k_ref1_Pairs_L1 s) = run kp (.code k_ref1_Pairs_L1b s) := rfl
theorem c_ref1_Pairs_L2 (s : St) : run kp (.code k_ref1_Pairs_L2 s) = run kp (.code k_ref1_Pairs_L2b s) := rfl
theorem c_ref1_held_L0 (s : St) : run kp (.code k_ref1_held_L0 s) = run kp (.code k_ref1_held_L0b s) := rfl
theorem c_ref1_times_L0 (s : St) : run kp (.code k_ref1_times_L0 s) = run kp (.code k_ref1_times_L0b s) := rfl
theorem c_ref1_times_L1 (s : St) : run kp (.code k_ref1_times_L1 s) = run kp (.code k_ref1_times_L1b s) := rfl
theorem c_ref1_Run_L0 (s : St) : run kp (.code k_ref1_Run_L0 s) = run kp (.code k_ref1_Run_L0b s) := rfl
theorem c_law19_JobHeld_L0 (s : St) : run kp (.code k_law19_JobHeld_L0 s) = run kp (.code k_law19_JobHeld_L0b s) := rfl
theorem c_law19_JobHeld_L1 (s : St) : run kp (.code k_law19_JobHeld_L1 s) = run kp (.code k_law19_JobHeld_L1b s) := rfl
end Go.Cd
