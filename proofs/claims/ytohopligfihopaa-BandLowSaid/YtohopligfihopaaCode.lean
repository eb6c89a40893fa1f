/- The code of the functions, as the evaluator reads it; printed by a program of this session. No conditions. -/
import Derived.Test.YtohopligfihopaaFwA
set_option linter.unusedVariables false
set_option linter.unusedSimpArgs false
namespace Go.Cd
open Go.Fw
def f_law10_SealAll : Nat := 3
def f_law10_begun : Nat := 15
def f_seal_Sum : Nat := 16
def f_ref1_Sum : Nat := 17
def f_law10_SealTurned : Nat := 4
def f_law10_SealForms : Nat := 5
def f_law10_SealRow : Nat := 6
def f_law20_BandAll : Nat := 7
def f_law20_begun : Nat := 18
def f_band_Base : Nat := 19
def f_band_Of : Nat := 21
def f_sema_Low : Nat := 34
def f_sema_holds : Nat := 38
def f_sema_has : Nat := 39
def f_ref19_Base : Nat := 20
def f_ref19_Band : Nat := 22
def f_ref11_Low : Nat := 35
def f_law20_BandThree : Nat := 8
def f_law20_BandLow : Nat := 9
def f_law20_BandForms : Nat := 10
def f_law3_RowAll : Nat := 11
def f_law3_begun : Nat := 23
def f_row_Set : Nat := 26
def f_row_bit : Nat := 36
def f_row_First : Nat := 24
def f_row_Is : Nat := 30
def f_row_Count : Nat := 32
def f_row_Clear : Nat := 28
def f_ref1_FirstBit : Nat := 25
def f_ref1_IsBit : Nat := 31
def f_ref1_bit : Nat := 37
def f_ref1_SetBit : Nat := 27
def f_ref1_ClearBit : Nat := 29
def f_ref1_Bits : Nat := 33
def f_law3_RowFirst : Nat := 12
def f_law3_RowSets : Nat := 13
def f_law3_RowForms : Nat := 14
/- foliot/foliotlaw10.SealAll -/
def k_law10_SealAll : KF := ⟨(.seq (.reg [] [⟨none, .mv 2 (.c (.bool false))⟩] [2])
 (.seq (.seq (.reg [] [⟨none, .dat 3 f_law10_begun []⟩, ⟨none, .un 4 .not (.t 3)⟩] [3])
 (.cond (.t 4) (.seq (.reg [] [⟨none, .mv 2 (.c (.bool false))⟩] [])
 .ret)
 .skip))
 (.seq (.reg [] [⟨none, .mv 5 (.t 0)⟩, ⟨none, .len 6 (.t 5)⟩, ⟨none, .bin 7 .gtr (.t 6) (.c (.int .i64 30))⟩, ⟨none, .mv 8 (.t 7)⟩, ⟨some (8, false), .mv 9 (.t 0)⟩, ⟨some (8, false), .dat 10 f_seal_Sum [(.t 9)]⟩, ⟨some (8, false), .mv 11 (.t 0)⟩, ⟨some (8, false), .dat 12 f_ref1_Sum [(.t 11)]⟩, ⟨some (8, false), .bin 13 .eql (.t 10) (.t 12)⟩, ⟨none, .pick 14 (.t 8) (.c (.bool true)) (.t 13)⟩, ⟨none, .mv 2 (.t 14)⟩] [0, 5, 6, 7, 8, 9, 10, 11, 12, 13, 14])
 .ret))), [.t 2]⟩
/- foliot/foliotlaw10.begun -/
def k_law10_begun : KF := ⟨(.seq (.reg [] [⟨none, .mv 0 (.c (.bool false))⟩] [0])
 (.seq (.reg [] [⟨none, .dat 1 f_seal_Sum [(.c (.d (.sl true [])))]⟩, ⟨none, .bin 2 .eql (.t 1) (.c (.int .u32 2166136261))⟩, ⟨none, .mv 3 (.t 2)⟩, ⟨some (3, true), .bsl 4 [(.c (.int .i64 1))]⟩, ⟨some (3, true), .dat 5 f_seal_Sum [(.t 4)]⟩, ⟨some (3, true), .bsl 6 [(.c (.int .i64 1))]⟩, ⟨some (3, true), .dat 7 f_ref1_Sum [(.t 6)]⟩, ⟨some (3, true), .bin 8 .eql (.t 5) (.t 7)⟩, ⟨none, .pick 9 (.t 3) (.t 8) (.c (.bool false))⟩, ⟨none, .mv 10 (.t 9)⟩, ⟨some (10, true), .bsl 11 [(.c (.int .i64 1))]⟩, ⟨some (10, true), .dat 12 f_seal_Sum [(.t 11)]⟩, ⟨some (10, true), .bsl 13 [(.c (.int .i64 2))]⟩, ⟨some (10, true), .dat 14 f_seal_Sum [(.t 13)]⟩, ⟨some (10, true), .bin 15 .neq (.t 12) (.t 14)⟩, ⟨none, .pick 16 (.t 10) (.t 15) (.c (.bool false))⟩, ⟨none, .mv 0 (.t 16)⟩] [1, 2, 3, 4, 5, 6, 7, 8, 9, 10, 11, 12, 13, 14, 15, 16])
 .ret)), [.t 0]⟩
/- foliot/seal.Sum -/
def k_seal_Sum_L1b : K := (.seq (.seq (.reg [] [⟨none, .mv 16 (.t 7)⟩, ⟨none, .bin 17 .lss (.t 16) (.c (.int .i64 8))⟩] [16])
 (.cond (.t 17) .skip
 (.ext 2)))
 (.seq (.blk 3 (.seq (.reg [] [⟨none, .mv 20 (.t 3)⟩, ⟨none, .bin 21 .shl (.t 20) (.c (.int .u64 5))⟩, ⟨none, .mv 22 (.t 3)⟩, ⟨none, .bin 23 .shr (.t 22) (.c (.int .u64 27))⟩, ⟨none, .bin 24 .or (.t 21) (.t 23)⟩, ⟨none, .mv 3 (.t 24)⟩] [20, 21, 22, 23, 24])
 (.seq (.reg [] [⟨none, .mv 25 (.t 3)⟩, ⟨none, .mv 26 (.t 6)⟩, ⟨none, .cv 27 .u8 (.t 26)⟩, ⟨none, .cv 28 .u32 (.t 27)⟩, ⟨none, .bin 29 .xor (.t 25) (.t 28)⟩, ⟨none, .mv 3 (.t 29)⟩] [25, 26, 27, 28, 29])
 (.reg [] [⟨none, .mv 30 (.t 6)⟩, ⟨none, .bin 31 .shr (.t 30) (.c (.int .u64 8))⟩, ⟨none, .mv 6 (.t 31)⟩] [30, 31]))))
 (.reg [] [⟨none, .mv 18 (.t 7)⟩, ⟨none, .bin 19 .add (.t 18) (.c (.int .i64 1))⟩, ⟨none, .mv 7 (.t 19)⟩] [18, 19])))
def k_seal_Sum_L1 : K := k_seal_Sum_L1b
def k_seal_Sum_L0b : K := (.seq (.reg [] [⟨none, .bin 11 .lss (.t 10) (.t 9)⟩] [])
 (.seq (.cond (.t 11) .skip
 (.ext 0))
 (.seq (.blk 1 (.seq (.reg [] [⟨none, .ia 12 (.t 8) (.t 10)⟩, ⟨none, .ld 13 (.t 12)⟩, ⟨none, .mv 5 (.t 13)⟩] [12, 13])
 (.seq (.reg [] [⟨none, .mv 14 (.t 5)⟩, ⟨none, .cv 15 .u64 (.t 14)⟩, ⟨none, .mv 6 (.t 15)⟩, ⟨none, .mv 7 (.c (.int .i64 0))⟩] [5, 14, 15])
 (.blk 2 (.loop [3, 6, 7, 8, 9, 10] k_seal_Sum_L1)))))
 (.reg [] [⟨none, .bin 32 .add (.t 10) (.c (.int .i64 1))⟩, ⟨none, .mv 10 (.t 32)⟩] [32]))))
def k_seal_Sum_L0 : K := k_seal_Sum_L0b
def k_seal_Sum : KF := ⟨(.seq (.reg [] [⟨none, .mv 2 (.c (.int .u32 0))⟩] [2])
 (.seq (.reg [] [⟨none, .mv 3 (.c (.int .u32 2166136261))⟩] [])
 (.seq (.seq (.reg [] [⟨none, .mv 8 (.t 0)⟩, ⟨none, .len 9 (.t 8)⟩, ⟨none, .mv 10 (.c (.int .i64 0))⟩] [0])
 (.blk 0 (.loop [3, 8, 9, 10] k_seal_Sum_L0)))
 (.seq (.reg [] [⟨none, .mv 33 (.t 3)⟩, ⟨none, .mv 2 (.t 33)⟩] [3, 33])
 .ret)))), [.t 2]⟩
/- foliot/foliotref1.Sum -/
def k_ref1_Sum_L1b : K := (.seq (.seq (.reg [] [⟨none, .mv 18 (.t 6)⟩, ⟨none, .bin 19 .lss (.t 18) (.c (.int .i64 8))⟩] [18])
 (.cond (.t 19) .skip
 (.ext 2)))
 (.seq (.blk 3 (.seq (.reg [] [⟨none, .mv 22 (.t 3)⟩, ⟨none, .bin 23 .mul (.t 22) (.c (.int .u32 32))⟩, ⟨none, .mv 24 (.t 3)⟩, ⟨none, .bin 25 .quo (.t 24) (.c (.int .u32 134217728))⟩, ⟨none, .bin 26 .add (.t 23) (.t 25)⟩, ⟨none, .mv 27 (.t 5)⟩, ⟨none, .bin 28 .rem (.t 27) (.c (.int .u64 256))⟩, ⟨none, .cv 29 .u32 (.t 28)⟩, ⟨none, .bin 30 .xor (.t 26) (.t 29)⟩, ⟨none, .mv 3 (.t 30)⟩] [22, 23, 24, 25, 26, 27, 28, 29, 30])
 (.reg [] [⟨none, .mv 31 (.t 5)⟩, ⟨none, .bin 32 .quo (.t 31) (.c (.int .u64 256))⟩, ⟨none, .mv 5 (.t 32)⟩] [31, 32])))
 (.reg [] [⟨none, .mv 20 (.t 6)⟩, ⟨none, .bin 21 .add (.t 20) (.c (.int .i64 1))⟩, ⟨none, .mv 6 (.t 21)⟩] [20, 21])))
def k_ref1_Sum_L1 : K := k_ref1_Sum_L1b
def k_ref1_Sum_L0b : K := (.seq (.seq (.reg [] [⟨none, .mv 7 (.t 4)⟩, ⟨none, .mv 8 (.t 0)⟩, ⟨none, .len 9 (.t 8)⟩, ⟨none, .bin 10 .lss (.t 7) (.t 9)⟩] [7, 8, 9])
 (.cond (.t 10) .skip
 (.ext 0)))
 (.seq (.blk 1 (.seq (.reg [] [⟨none, .mv 13 (.t 0)⟩, ⟨none, .mv 14 (.t 4)⟩, ⟨none, .ia 15 (.t 13) (.t 14)⟩, ⟨none, .ld 16 (.t 15)⟩, ⟨none, .cv 17 .u64 (.t 16)⟩, ⟨none, .mv 5 (.t 17)⟩] [13, 14, 15, 16, 17])
 (.seq (.reg [] [⟨none, .mv 6 (.c (.int .i64 0))⟩] [])
 (.blk 2 (.loop [0, 3, 4, 5, 6] k_ref1_Sum_L1)))))
 (.reg [] [⟨none, .mv 11 (.t 4)⟩, ⟨none, .bin 12 .add (.t 11) (.c (.int .i64 1))⟩, ⟨none, .mv 4 (.t 12)⟩] [11, 12])))
def k_ref1_Sum_L0 : K := k_ref1_Sum_L0b
def k_ref1_Sum : KF := ⟨(.seq (.reg [] [⟨none, .mv 2 (.c (.int .u32 0))⟩] [2])
 (.seq (.reg [] [⟨none, .mv 3 (.c (.int .u32 2166136261))⟩] [])
 (.seq (.seq (.reg [] [⟨none, .mv 4 (.c (.int .i64 0))⟩] [])
 (.blk 0 (.loop [0, 3, 4] k_ref1_Sum_L0)))
 (.seq (.reg [] [⟨none, .mv 33 (.t 3)⟩, ⟨none, .mv 2 (.t 33)⟩] [3, 33])
 .ret)))), [.t 2]⟩
/- foliot/foliotlaw10.SealTurned -/
def k_law10_SealTurned : KF := ⟨(.seq (.reg [] [⟨none, .mv 8 (.c (.bool false))⟩] [8])
 (.seq (.seq (.reg [] [⟨none, .dat 10 f_law10_begun []⟩, ⟨none, .un 11 .not (.t 10)⟩] [10])
 (.cond (.t 11) (.seq (.reg [] [⟨none, .mv 8 (.c (.bool false))⟩] [])
 .ret)
 .skip))
 (.seq (.seq (.reg [] [⟨none, .mv 12 (.t 0)⟩, ⟨none, .len 13 (.t 12)⟩, ⟨none, .bin 14 .gtr (.t 13) (.c (.int .i64 30))⟩, ⟨none, .mv 15 (.t 14)⟩, ⟨some (15, false), .mv 16 (.t 0)⟩, ⟨some (15, false), .len 17 (.t 16)⟩, ⟨some (15, false), .bin 18 .eql (.t 17) (.c (.int .i64 0))⟩, ⟨none, .pick 19 (.t 15) (.c (.bool true)) (.t 18)⟩, ⟨none, .mv 20 (.t 19)⟩, ⟨some (20, false), .mv 21 (.t 3)⟩, ⟨some (20, false), .bin 22 .eql (.t 21) (.c (.int .u8 0))⟩, ⟨none, .pick 23 (.t 20) (.c (.bool true)) (.t 22)⟩] [12, 13, 14, 15, 16, 17, 18, 19, 20, 21, 22])
 (.cond (.t 23) (.seq (.reg [] [⟨none, .mv 8 (.c (.bool true))⟩] [])
 .ret)
 .skip))
 (.seq (.reg [] [⟨none, .bsl 24 []⟩, ⟨none, .mv 25 (.t 0)⟩, ⟨none, .app 26 (.t 24) (.t 25)⟩, ⟨none, .mv 9 (.t 26)⟩] [24, 25, 26])
 (.seq (.reg [] [⟨none, .mv 27 (.t 9)⟩, ⟨none, .mv 28 (.t 1)⟩, ⟨none, .cv 29 .i64 (.t 28)⟩, ⟨none, .mv 30 (.t 0)⟩, ⟨none, .len 31 (.t 30)⟩, ⟨none, .bin 32 .rem (.t 29) (.t 31)⟩, ⟨none, .ia 33 (.t 27) (.t 32)⟩, ⟨none, .ld 34 (.t 33)⟩, ⟨none, .mv 35 (.t 3)⟩, ⟨none, .cv 36 .i64 (.t 35)⟩, ⟨none, .mv 37 (.t 2)⟩, ⟨none, .bin 38 .rem (.t 37) (.c (.int .u8 8))⟩, ⟨none, .bin 39 .mul (.c (.int .u8 8)) (.t 38)⟩, ⟨none, .bin 40 .shl (.t 36) (.t 39)⟩, ⟨none, .bin 41 .xor (.t 34) (.t 40)⟩, ⟨none, .ia 42 (.t 27) (.t 32)⟩, ⟨none, .st (.t 42) (.t 41)⟩] [1, 2, 3, 27, 28, 29, 30, 31, 32, 33, 34, 35, 36, 37, 38, 39, 40, 41, 42])
 (.seq (.reg [] [⟨none, .mv 43 (.t 9)⟩, ⟨none, .dat 44 f_seal_Sum [(.t 43)]⟩, ⟨none, .mv 45 (.t 0)⟩, ⟨none, .dat 46 f_seal_Sum [(.t 45)]⟩, ⟨none, .bin 47 .neq (.t 44) (.t 46)⟩, ⟨none, .mv 8 (.t 47)⟩] [0, 9, 43, 44, 45, 46, 47])
 .ret)))))), [.t 8]⟩
/- foliot/foliotlaw10.SealForms -/
def k_law10_SealForms : KF := ⟨(.seq (.reg [] [⟨none, .mv 0 (.c (.bool false))⟩] [0])
 (.seq (.seq (.reg [] [⟨none, .dat 1 f_law10_begun []⟩, ⟨none, .un 2 .not (.t 1)⟩] [1])
 (.cond (.t 2) (.seq (.reg [] [⟨none, .mv 0 (.c (.bool false))⟩] [])
 .ret)
 .skip))
 (.seq (.reg [] [⟨none, .bsl 3 [(.c (.int .i64 0))]⟩, ⟨none, .dat 4 f_seal_Sum [(.t 3)]⟩, ⟨none, .bin 5 .eql (.t 4) (.c (.int .u32 480101761))⟩, ⟨none, .mv 6 (.t 5)⟩, ⟨some (6, true), .bsl 7 [(.c (.int .i64 0)), (.c (.int .i64 0))]⟩, ⟨some (6, true), .dat 8 f_seal_Sum [(.t 7)]⟩, ⟨some (6, true), .bin 9 .eql (.t 8) (.c (.int .u32 2646966556))⟩, ⟨none, .pick 10 (.t 6) (.t 9) (.c (.bool false))⟩, ⟨none, .mv 11 (.t 10)⟩, ⟨some (11, true), .bsl 12 [(.c (.int .i64 0)), (.c (.int .i64 0)), (.c (.int .i64 0)), (.c (.int .i64 0))]⟩, ⟨some (11, true), .dat 13 f_seal_Sum [(.t 12)]⟩, ⟨some (11, true), .bin 14 .eql (.t 13) (.c (.int .u32 2166136261))⟩, ⟨none, .pick 15 (.t 11) (.t 14) (.c (.bool false))⟩, ⟨none, .mv 16 (.t 15)⟩, ⟨some (16, true), .bsl 17 [(.c (.int .i64 72057594037927936))]⟩, ⟨some (16, true), .dat 18 f_seal_Sum [(.t 17)]⟩, ⟨some (16, true), .bin 19 .eql (.t 18) (.c (.int .u32 480101760))⟩, ⟨none, .pick 20 (.t 16) (.t 19) (.c (.bool false))⟩, ⟨none, .mv 21 (.t 20)⟩, ⟨some (21, true), .bsl 22 [(.c (.int .i64 (-9223372036854775808)))]⟩, ⟨some (21, true), .dat 23 f_seal_Sum [(.t 22)]⟩, ⟨some (21, true), .bin 24 .eql (.t 23) (.c (.int .u32 480101633))⟩, ⟨none, .pick 25 (.t 21) (.t 24) (.c (.bool false))⟩, ⟨none, .mv 0 (.t 25)⟩] [3, 4, 5, 6, 7, 8, 9, 10, 11, 12, 13, 14, 15, 16, 17, 18, 19, 20, 21, 22, 23, 24, 25])
 .ret))), [.t 0]⟩
/- foliot/foliotlaw10.SealRow -/
def k_law10_SealRow_L0b : K := (.seq (.seq (.reg [] [⟨none, .mv 18 (.t 6)⟩, ⟨none, .mv 19 (.t 1)⟩, ⟨none, .bin 20 .rem (.t 19) (.c (.int .u8 9))⟩, ⟨none, .cv 21 .i64 (.t 20)⟩, ⟨none, .bin 22 .lss (.t 18) (.t 21)⟩] [18, 19, 20, 21])
 (.cond (.t 22) .skip
 (.ext 0)))
 (.seq (.blk 1 (.reg [] [⟨none, .mv 25 (.t 5)⟩, ⟨none, .bsl 26 [(.c (.int .i64 0))]⟩, ⟨none, .app 27 (.t 25) (.t 26)⟩, ⟨none, .mv 5 (.t 27)⟩] [25, 26, 27]))
 (.reg [] [⟨none, .mv 23 (.t 6)⟩, ⟨none, .bin 24 .add (.t 23) (.c (.int .i64 1))⟩, ⟨none, .mv 6 (.t 24)⟩] [23, 24])))
def k_law10_SealRow_L0 : K := k_law10_SealRow_L0b
def k_law10_SealRow : KF := ⟨(.seq (.reg [] [⟨none, .mv 4 (.c (.bool false))⟩] [4])
 (.seq (.seq (.reg [] [⟨none, .dat 10 f_law10_begun []⟩, ⟨none, .un 11 .not (.t 10)⟩] [10])
 (.cond (.t 11) (.seq (.reg [] [⟨none, .mv 4 (.c (.bool false))⟩] [])
 .ret)
 .skip))
 (.seq (.seq (.reg [] [⟨none, .mv 12 (.t 0)⟩, ⟨none, .len 13 (.t 12)⟩, ⟨none, .bin 14 .gtr (.t 13) (.c (.int .i64 30))⟩] [12, 13])
 (.cond (.t 14) (.seq (.reg [] [⟨none, .mv 4 (.c (.bool true))⟩] [])
 .ret)
 .skip))
 (.seq (.reg [] [⟨none, .bsl 15 []⟩, ⟨none, .mv 16 (.t 0)⟩, ⟨none, .app 17 (.t 15) (.t 16)⟩, ⟨none, .mv 5 (.t 17)⟩] [15, 16, 17])
 (.seq (.seq (.reg [] [⟨none, .mv 6 (.c (.int .i64 0))⟩] [])
 (.blk 0 (.loop [0, 1, 5, 6] k_law10_SealRow_L0)))
 (.seq (.reg [] [⟨none, .mv 28 (.t 0)⟩, ⟨none, .dat 29 f_seal_Sum [(.t 28)]⟩, ⟨none, .mv 30 (.t 5)⟩, ⟨none, .dat 31 f_seal_Sum [(.t 30)]⟩, ⟨none, .mv 7 (.t 29)⟩, ⟨none, .mv 8 (.t 31)⟩] [0, 5, 28, 29, 30, 31])
 (.seq (.reg [] [⟨none, .mv 32 (.t 1)⟩, ⟨none, .bin 33 .rem (.t 32) (.c (.int .u8 9))⟩, ⟨none, .cv 34 .i64 (.t 33)⟩, ⟨none, .bin 35 .mul (.c (.int .i64 8)) (.t 34)⟩, ⟨none, .bin 36 .rem (.t 35) (.c (.int .i64 32))⟩, ⟨none, .mv 9 (.t 36)⟩] [1, 32, 33, 34, 35, 36])
 (.seq (.reg [] [⟨none, .mv 37 (.t 8)⟩, ⟨none, .mv 38 (.t 7)⟩, ⟨none, .mv 39 (.t 9)⟩, ⟨none, .bin 40 .shl (.t 38) (.t 39)⟩, ⟨none, .mv 41 (.t 7)⟩, ⟨none, .mv 42 (.t 9)⟩, ⟨none, .bin 43 .sub (.c (.int .i64 32)) (.t 42)⟩, ⟨none, .bin 44 .shr (.t 41) (.t 43)⟩, ⟨none, .bin 45 .or (.t 40) (.t 44)⟩, ⟨none, .bin 46 .eql (.t 37) (.t 45)⟩, ⟨none, .mv 4 (.t 46)⟩] [7, 8, 9, 37, 38, 39, 40, 41, 42, 43, 44, 45, 46])
 .ret)))))))), [.t 4]⟩
/- foliot/foliotlaw20.BandAll -/
def k_law20_BandAll_L0b : K := (.seq (.seq (.reg [] [⟨none, .mv 51 (.t 9)⟩, ⟨none, .mv 52 (.t 8)⟩, ⟨none, .len 53 (.t 52)⟩, ⟨none, .bin 54 .lss (.t 51) (.t 53)⟩] [51, 52, 53])
 (.cond (.t 54) .skip
 (.ext 0)))
 (.seq (.blk 1 (.reg [] [⟨none, .mv 57 (.t 8)⟩, ⟨none, .mv 58 (.t 9)⟩, ⟨none, .fa 59 (.t 7) 0⟩, ⟨none, .ld 60 (.t 59)⟩, ⟨none, .bin 61 .add (.t 60) (.c (.int .i64 1))⟩, ⟨none, .mv 62 (.t 9)⟩, ⟨none, .bin 63 .rem (.t 62) (.c (.int .i64 2))⟩, ⟨none, .bin 64 .sub (.t 61) (.t 63)⟩, ⟨none, .ia 65 (.t 57) (.t 58)⟩, ⟨none, .fa 66 (.t 65) 1⟩, ⟨none, .st (.t 66) (.t 64)⟩] [57, 58, 59, 60, 61, 62, 63, 64, 65, 66]))
 (.reg [] [⟨none, .mv 55 (.t 9)⟩, ⟨none, .bin 56 .add (.t 55) (.c (.int .i64 1))⟩, ⟨none, .mv 9 (.t 56)⟩] [55, 56])))
def k_law20_BandAll_L0 : K := k_law20_BandAll_L0b
def k_law20_BandAll : KF := ⟨(.seq (.reg [] [⟨none, .box 3 (.t 0)⟩, ⟨none, .mv 6 (.c (.bool false))⟩] [0, 6])
 (.seq (.seq (.reg [] [⟨none, .dat 10 f_law20_begun []⟩, ⟨none, .un 11 .not (.t 10)⟩] [10])
 (.cond (.t 11) (.seq (.reg [] [⟨none, .mv 6 (.c (.bool false))⟩] [])
 .ret)
 .skip))
 (.seq (.seq (.reg [] [⟨none, .fa 12 (.t 3) 6⟩, ⟨none, .ld 13 (.t 12)⟩, ⟨none, .len 14 (.t 13)⟩, ⟨none, .bin 15 .gtr (.t 14) (.c (.int .i64 6))⟩, ⟨none, .mv 16 (.t 15)⟩, ⟨some (16, false), .mv 17 (.t 2)⟩, ⟨some (16, false), .len 18 (.t 17)⟩, ⟨some (16, false), .bin 19 .gtr (.t 18) (.c (.int .i64 6))⟩, ⟨none, .pick 20 (.t 16) (.c (.bool true)) (.t 19)⟩, ⟨none, .mv 21 (.t 20)⟩, ⟨some (21, false), .mv 22 (.t 1)⟩, ⟨some (21, false), .bin 23 .lss (.t 22) (.c (.int .i64 (-1099511627776)))⟩, ⟨none, .pick 24 (.t 21) (.c (.bool true)) (.t 23)⟩, ⟨none, .mv 25 (.t 24)⟩, ⟨some (25, false), .mv 26 (.t 1)⟩, ⟨some (25, false), .bin 27 .gtr (.t 26) (.c (.int .i64 1099511627776))⟩, ⟨none, .pick 28 (.t 25) (.c (.bool true)) (.t 27)⟩, ⟨none, .mv 29 (.t 28)⟩, ⟨some (29, false), .fa 30 (.t 3) 0⟩, ⟨some (29, false), .ld 31 (.t 30)⟩, ⟨some (29, false), .bin 32 .gtr (.t 31) (.c (.int .i64 1099511627776))⟩, ⟨none, .pick 33 (.t 29) (.c (.bool true)) (.t 32)⟩, ⟨none, .mv 34 (.t 33)⟩, ⟨some (34, false), .fa 35 (.t 3) 0⟩, ⟨some (34, false), .ld 36 (.t 35)⟩, ⟨some (34, false), .bin 37 .lss (.t 36) (.c (.int .i64 0))⟩, ⟨none, .pick 38 (.t 34) (.c (.bool true)) (.t 37)⟩] [12, 13, 14, 15, 16, 17, 18, 19, 20, 21, 22, 23, 24, 25, 26, 27, 28, 29, 30, 31, 32, 33, 34, 35, 36, 37])
 (.cond (.t 38) (.seq (.reg [] [⟨none, .mv 6 (.c (.bool true))⟩] [])
 .ret)
 .skip))
 (.seq (.reg [] [⟨none, .ld 39 (.t 3)⟩, ⟨none, .alc 7 (.d (.agg [(.int .i64 0), (.int .i64 0), (.int .i64 0), (.int .i64 0), (.agg [(.int .i64 0), (.agg [(.int .i64 0), (.int .i64 0), (.int .i64 0), (.int .i64 0), (.int .i64 0), (.int .i64 0), (.int .i64 0), (.int .i64 0)]), (.sl true []), (.bool false)]), (.agg [(.int .i64 0), (.agg [(.int .i64 0), (.int .i64 0), (.int .i64 0), (.int .i64 0), (.int .i64 0), (.int .i64 0), (.int .i64 0), (.int .i64 0)]), (.sl true []), (.bool false)]), (.sl true []), (.bool false)]))⟩, ⟨none, .st (.t 7) (.t 39)⟩] [39])
 (.seq (.reg [] [⟨none, .bsl 40 [(.c (.int .i64 0)), (.c (.int .i64 1))]⟩, ⟨none, .fa 41 (.t 7) 6⟩, ⟨none, .st (.t 41) (.t 40)⟩] [40, 41])
 (.seq (.reg [] [⟨none, .fa 42 (.t 3) 0⟩, ⟨none, .ld 43 (.t 42)⟩, ⟨none, .cv 44 .u64 (.t 43)⟩, ⟨none, .bin 45 .rem (.t 44) (.c (.int .u64 4))⟩, ⟨none, .cv 46 .i64 (.t 45)⟩, ⟨none, .fa 47 (.t 7) 0⟩, ⟨none, .st (.t 47) (.t 46)⟩] [42, 43, 44, 45, 46, 47])
 (.seq (.reg [] [⟨none, .bsl 48 []⟩, ⟨none, .mv 49 (.t 2)⟩, ⟨none, .app 50 (.t 48) (.t 49)⟩, ⟨none, .mv 8 (.t 50)⟩] [48, 49, 50])
 (.seq (.seq (.reg [] [⟨none, .mv 9 (.c (.int .i64 0))⟩] [])
 (.blk 0 (.loop [1, 2, 3, 7, 8, 9] k_law20_BandAll_L0)))
 (.seq (.reg [(2, 3), (11, 12), (22, 23)] [⟨none, .ld 67 (.t 3)⟩, ⟨none, .mv 68 (.t 1)⟩, ⟨none, .dat 69 f_band_Base [(.t 67), (.t 68)]⟩, ⟨none, .ld 70 (.t 3)⟩, ⟨none, .mv 71 (.t 1)⟩, ⟨none, .dat 72 f_ref19_Base [(.t 70), (.t 71)]⟩, ⟨none, .bin 73 .eql (.t 69) (.t 72)⟩, ⟨none, .mv 74 (.t 73)⟩, ⟨some (74, true), .ld 75 (.t 3)⟩, ⟨some (74, true), .mv 76 (.t 1)⟩, ⟨some (74, true), .mv 77 (.t 2)⟩, ⟨some (74, true), .dat 78 f_band_Of [(.t 75), (.t 76), (.t 77)]⟩, ⟨some (74, true), .ld 79 (.t 3)⟩, ⟨some (74, true), .mv 80 (.t 1)⟩, ⟨some (74, true), .mv 81 (.t 2)⟩, ⟨some (74, true), .dat 82 f_ref19_Band [(.t 79), (.t 80), (.t 81)]⟩, ⟨some (74, true), .bin 83 .eql (.t 78) (.t 82)⟩, ⟨none, .pick 84 (.t 74) (.t 83) (.c (.bool false))⟩, ⟨none, .mv 85 (.t 84)⟩, ⟨some (85, true), .ld 86 (.t 7)⟩, ⟨some (85, true), .mv 87 (.t 1)⟩, ⟨some (85, true), .mv 88 (.t 8)⟩, ⟨some (85, true), .dat 89 f_band_Of [(.t 86), (.t 87), (.t 88)]⟩, ⟨some (85, true), .ld 90 (.t 7)⟩, ⟨some (85, true), .mv 91 (.t 1)⟩, ⟨some (85, true), .mv 92 (.t 8)⟩, ⟨some (85, true), .dat 93 f_ref19_Band [(.t 90), (.t 91), (.t 92)]⟩, ⟨some (85, true), .bin 94 .eql (.t 89) (.t 93)⟩, ⟨none, .pick 95 (.t 85) (.t 94) (.c (.bool false))⟩, ⟨none, .mv 6 (.t 95)⟩] [1, 2, 3, 7, 8, 67, 68, 69, 70, 71, 72, 73, 74, 75, 76, 77, 78, 79, 80, 81, 82, 83, 84, 85, 86, 87, 88, 89, 90, 91, 92, 93, 94, 95])
 .ret))))))))), [.t 6]⟩
/- foliot/foliotlaw20.begun -/
def k_law20_begun : KF := ⟨(.seq (.reg [] [⟨none, .mv 0 (.c (.bool false))⟩] [0])
 (.seq (.reg [] [⟨none, .bsl 5 [(.c (.int .i64 0))]⟩, ⟨none, .bld 6 [(.c (.int .i64 1)), (.c (.int .i64 0)), (.c (.int .i64 0)), (.c (.int .i64 0)), (.c (.d (.agg [(.int .i64 0), (.agg [(.int .i64 0), (.int .i64 0), (.int .i64 0), (.int .i64 0), (.int .i64 0), (.int .i64 0), (.int .i64 0), (.int .i64 0)]), (.sl true []), (.bool false)]))), (.c (.d (.agg [(.int .i64 0), (.agg [(.int .i64 0), (.int .i64 0), (.int .i64 0), (.int .i64 0), (.int .i64 0), (.int .i64 0), (.int .i64 0), (.int .i64 0)]), (.sl true []), (.bool false)]))), (.t 5), (.c (.bool false))]⟩, ⟨none, .alc 1 (.d (.agg [(.int .i64 0), (.int .i64 0), (.int .i64 0), (.int .i64 0), (.agg [(.int .i64 0), (.agg [(.int .i64 0), (.int .i64 0), (.int .i64 0), (.int .i64 0), (.int .i64 0), (.int .i64 0), (.int .i64 0), (.int .i64 0)]), (.sl true []), (.bool false)]), (.agg [(.int .i64 0), (.agg [(.int .i64 0), (.int .i64 0), (.int .i64 0), (.int .i64 0), (.int .i64 0), (.int .i64 0), (.int .i64 0), (.int .i64 0)]), (.sl true []), (.bool false)]), (.sl true []), (.bool false)]))⟩, ⟨none, .st (.t 1) (.t 6)⟩] [5, 6])
 (.seq (.reg [] [⟨none, .bld 7 [(.c (.int .i64 0)), (.c (.int .i64 2))]⟩, ⟨none, .bsl 8 [(.t 7)]⟩, ⟨none, .mv 2 (.t 8)⟩] [7, 8])
 (.seq (.reg [] [⟨none, .ld 9 (.t 1)⟩, ⟨none, .alc 3 (.d (.agg [(.int .i64 0), (.int .i64 0), (.int .i64 0), (.int .i64 0), (.agg [(.int .i64 0), (.agg [(.int .i64 0), (.int .i64 0), (.int .i64 0), (.int .i64 0), (.int .i64 0), (.int .i64 0), (.int .i64 0), (.int .i64 0)]), (.sl true []), (.bool false)]), (.agg [(.int .i64 0), (.agg [(.int .i64 0), (.int .i64 0), (.int .i64 0), (.int .i64 0), (.int .i64 0), (.int .i64 0), (.int .i64 0), (.int .i64 0)]), (.sl true []), (.bool false)]), (.sl true []), (.bool false)]))⟩, ⟨none, .st (.t 3) (.t 9)⟩] [9])
 (.seq (.reg [] [⟨none, .fa 10 (.t 3) 7⟩, ⟨none, .st (.t 10) (.c (.bool true))⟩] [10])
 (.seq (.reg [] [⟨none, .ld 11 (.t 1)⟩, ⟨none, .alc 4 (.d (.agg [(.int .i64 0), (.int .i64 0), (.int .i64 0), (.int .i64 0), (.agg [(.int .i64 0), (.agg [(.int .i64 0), (.int .i64 0), (.int .i64 0), (.int .i64 0), (.int .i64 0), (.int .i64 0), (.int .i64 0), (.int .i64 0)]), (.sl true []), (.bool false)]), (.agg [(.int .i64 0), (.agg [(.int .i64 0), (.int .i64 0), (.int .i64 0), (.int .i64 0), (.int .i64 0), (.int .i64 0), (.int .i64 0), (.int .i64 0)]), (.sl true []), (.bool false)]), (.sl true []), (.bool false)]))⟩, ⟨none, .st (.t 4) (.t 11)⟩] [11])
 (.seq (.reg [] [⟨none, .fa 12 (.t 4) 3⟩, ⟨none, .st (.t 12) (.c (.int .i64 2))⟩, ⟨none, .fa 13 (.t 4) 6⟩, ⟨none, .st (.t 13) (.c (.d (.sl true [])))⟩] [12, 13])
 (.seq (.reg [] [⟨none, .ld 14 (.t 1)⟩, ⟨none, .dat 15 f_band_Base [(.t 14), (.c (.int .i64 3))]⟩, ⟨none, .bin 16 .eql (.t 15) (.c (.int .i64 4))⟩, ⟨none, .mv 17 (.t 16)⟩, ⟨some (17, true), .ld 18 (.t 3)⟩, ⟨some (17, true), .dat 19 f_band_Base [(.t 18), (.c (.int .i64 3))]⟩, ⟨some (17, true), .bin 20 .eql (.t 19) (.c (.int .i64 1))⟩, ⟨none, .pick 21 (.t 17) (.t 20) (.c (.bool false))⟩, ⟨none, .mv 22 (.t 21)⟩, ⟨some (22, true), .ld 23 (.t 4)⟩, ⟨some (22, true), .dat 24 f_band_Base [(.t 23), (.c (.int .i64 3))]⟩, ⟨some (22, true), .bin 25 .eql (.t 24) (.c (.int .i64 7))⟩, ⟨none, .pick 26 (.t 22) (.t 25) (.c (.bool false))⟩, ⟨none, .mv 27 (.t 26)⟩, ⟨some (27, true), .ld 28 (.t 1)⟩, ⟨some (27, true), .mv 29 (.t 2)⟩, ⟨some (27, true), .dat 30 f_band_Of [(.t 28), (.c (.int .i64 3)), (.t 29)]⟩, ⟨some (27, true), .bin 31 .eql (.t 30) (.c (.int .i64 0))⟩, ⟨none, .pick 32 (.t 27) (.t 31) (.c (.bool false))⟩, ⟨none, .mv 33 (.t 32)⟩, ⟨some (33, true), .ld 34 (.t 1)⟩, ⟨some (33, true), .dat 35 f_band_Of [(.t 34), (.c (.int .i64 3)), (.c (.d (.sl true [])))]⟩, ⟨some (33, true), .bin 36 .eql (.t 35) (.c (.int .i64 4))⟩, ⟨none, .pick 37 (.t 33) (.t 36) (.c (.bool false))⟩, ⟨none, .mv 0 (.t 37)⟩] [1, 2, 3, 4, 14, 15, 16, 17, 18, 19, 20, 21, 22, 23, 24, 25, 26, 27, 28, 29, 30, 31, 32, 33, 34, 35, 36, 37])
 .ret)))))))), [.t 0]⟩
/- foliot/band.Base -/
def k_band_Base : KF := ⟨(.seq (.reg [] [⟨none, .box 2 (.t 0)⟩, ⟨none, .mv 4 (.c (.int .i64 0))⟩] [0, 4])
 (.seq (.blk 0 (.seq (.reg [] [⟨none, .fa 6 (.t 2) 3⟩, ⟨none, .ld 7 (.t 6)⟩, ⟨none, .bin 8 .eql (.t 7) (.c (.int .i64 2))⟩, ⟨none, .mv 5 (.t 8)⟩] [6, 7, 8])
 (.cond (.t 5) (.seq (.reg [] [⟨none, .mv 9 (.t 1)⟩, ⟨none, .mv 10 (.t 1)⟩, ⟨none, .bin 11 .add (.t 9) (.t 10)⟩, ⟨none, .fa 12 (.t 2) 0⟩, ⟨none, .ld 13 (.t 12)⟩, ⟨none, .bin 14 .add (.t 11) (.t 13)⟩, ⟨none, .mv 4 (.t 14)⟩] [1, 2, 9, 10, 11, 12, 13, 14])
 .ret)
 (.seq (.reg [] [⟨none, .fa 16 (.t 2) 7⟩, ⟨none, .ld 17 (.t 16)⟩, ⟨none, .mv 15 (.t 17)⟩] [16, 17])
 (.cond (.t 15) (.seq (.reg [] [⟨none, .fa 18 (.t 2) 0⟩, ⟨none, .ld 19 (.t 18)⟩, ⟨none, .mv 4 (.t 19)⟩] [2, 18, 19])
 .ret)
 .skip)))))
 (.seq (.reg [] [⟨none, .mv 20 (.t 1)⟩, ⟨none, .fa 21 (.t 2) 0⟩, ⟨none, .ld 22 (.t 21)⟩, ⟨none, .bin 23 .add (.t 20) (.t 22)⟩, ⟨none, .mv 4 (.t 23)⟩] [1, 2, 20, 21, 22, 23])
 .ret))), [.t 4]⟩
/- foliot/band.Of -/
def k_band_Of : KF := ⟨(.seq (.reg [] [⟨none, .box 3 (.t 0)⟩, ⟨none, .mv 6 (.c (.int .i64 0))⟩] [0, 6])
 (.seq (.seq (.reg [] [⟨none, .mv 10 (.t 2)⟩, ⟨none, .fa 11 (.t 3) 6⟩, ⟨none, .ld 12 (.t 11)⟩, ⟨none, .fa 13 (.t 3) 0⟩, ⟨none, .ld 14 (.t 13)⟩, ⟨none, .dat 15 f_sema_Low [(.t 10), (.t 12), (.t 14)]⟩, ⟨none, .mv 9 (.t 15)⟩, ⟨none, .ex 16 (.t 9) 0⟩, ⟨none, .ex 17 (.t 9) 1⟩, ⟨none, .mv 7 (.t 16)⟩, ⟨none, .mv 8 (.t 17)⟩] [2, 9, 10, 11, 12, 13, 14, 15, 16, 17])
 (.seq (.reg [] [⟨none, .mv 18 (.t 8)⟩] [8])
 (.cond (.t 18) (.seq (.reg [] [⟨none, .ld 19 (.t 3)⟩, ⟨none, .mv 20 (.t 1)⟩, ⟨none, .dat 21 f_band_Base [(.t 19), (.t 20)]⟩, ⟨none, .mv 22 (.t 7)⟩, ⟨none, .mn 23 [(.t 21), (.t 22)]⟩, ⟨none, .mv 6 (.t 23)⟩] [1, 3, 7, 19, 20, 21, 22, 23])
 .ret)
 .skip)))
 (.seq (.reg [] [⟨none, .ld 24 (.t 3)⟩, ⟨none, .mv 25 (.t 1)⟩, ⟨none, .dat 26 f_band_Base [(.t 24), (.t 25)]⟩, ⟨none, .mv 6 (.t 26)⟩] [1, 3, 24, 25, 26])
 .ret))), [.t 6]⟩
/- foliot/sema.Low -/
def k_sema_Low_L0b : K := (.seq (.reg [] [⟨none, .bin 15 .lss (.t 14) (.t 13)⟩] [])
 (.seq (.cond (.t 15) .skip
 (.ext 0))
 (.seq (.blk 1 (.seq (.reg [] [⟨none, .ia 16 (.t 12) (.t 14)⟩, ⟨none, .ld 17 (.t 16)⟩, ⟨none, .mv 10 (.t 17)⟩] [16, 17])
 (.seq (.seq (.reg [] [⟨none, .mv 18 (.t 0)⟩, ⟨none, .mv 19 (.t 10)⟩, ⟨none, .mv 20 (.t 2)⟩, ⟨none, .dat 21 f_sema_holds [(.t 18), (.t 19), (.t 20)]⟩, ⟨none, .un 22 .not (.t 21)⟩, ⟨none, .mv 23 (.t 22)⟩, ⟨some (23, false), .mv 24 (.t 8)⟩, ⟨some (23, false), .mv 25 (.t 10)⟩, ⟨some (23, false), .bld 26 [(.t 25)]⟩, ⟨some (23, false), .lk 27 (.t 24) (.t 26) (.bool false) false⟩, ⟨none, .pick 28 (.t 23) (.c (.bool true)) (.t 27)⟩] [18, 19, 20, 21, 22, 23, 24, 25, 26, 27])
 (.cond (.t 28) (.ext 1)
 .skip))
 (.seq (.reg [] [⟨none, .mv 29 (.t 8)⟩, ⟨none, .mv 30 (.t 10)⟩, ⟨none, .bld 31 [(.t 30)]⟩, ⟨none, .mu (.t 29) (.t 31) (.c (.bool true))⟩] [29, 30, 31])
 (.seq (.reg [] [⟨none, .mv 32 (.t 7)⟩, ⟨none, .un 33 .not (.t 32)⟩, ⟨none, .mv 34 (.t 33)⟩, ⟨some (34, false), .mv 35 (.t 0)⟩, ⟨some (34, false), .mv 36 (.t 10)⟩, ⟨some (34, false), .ia 37 (.t 35) (.t 36)⟩, ⟨some (34, false), .fa 38 (.t 37) 0⟩, ⟨some (34, false), .ld 39 (.t 38)⟩, ⟨some (34, false), .mv 40 (.t 6)⟩, ⟨some (34, false), .bin 41 .lss (.t 39) (.t 40)⟩, ⟨none, .pick 42 (.t 34) (.c (.bool true)) (.t 41)⟩] [32, 33, 34, 35, 36, 37, 38, 39, 40, 41])
 (.cond (.t 42) (.reg [] [⟨none, .mv 43 (.t 0)⟩, ⟨none, .mv 44 (.t 10)⟩, ⟨none, .ia 45 (.t 43) (.t 44)⟩, ⟨none, .fa 46 (.t 45) 0⟩, ⟨none, .ld 47 (.t 46)⟩, ⟨none, .mv 6 (.t 47)⟩, ⟨none, .mv 7 (.c (.bool true))⟩] [10, 43, 44, 45, 46, 47])
 .skip))))))
 (.reg [] [⟨none, .bin 48 .add (.t 14) (.c (.int .i64 1))⟩, ⟨none, .mv 14 (.t 48)⟩] [48]))))
def k_sema_Low_L0 : K := k_sema_Low_L0b
def k_sema_Low : KF := ⟨(.seq (.reg [] [⟨none, .mv 6 (.c (.int .i64 0))⟩, ⟨none, .mv 7 (.c (.bool false))⟩] [])
 (.seq (.reg [] [⟨none, .mkm 11⟩, ⟨none, .mv 8 (.t 11)⟩] [11])
 (.seq (.seq (.reg [] [⟨none, .mv 12 (.t 1)⟩, ⟨none, .len 13 (.t 12)⟩, ⟨none, .mv 14 (.c (.int .i64 0))⟩] [1])
 (.blk 0 (.loop [0, 2, 6, 7, 8, 12, 13, 14] k_sema_Low_L0)))
 (.seq (.reg [] [⟨none, .mv 49 (.t 6)⟩, ⟨none, .mv 50 (.t 7)⟩, ⟨none, .mv 6 (.t 49)⟩, ⟨none, .mv 7 (.t 50)⟩] [49, 50])
 .ret)))), [.t 6, .t 7]⟩
/- foliot/sema.holds -/
def k_sema_holds : KF := ⟨(.seq (.reg [] [⟨none, .mv 6 (.c (.bool false))⟩] [6])
 (.seq (.reg [] [⟨none, .mv 7 (.t 0)⟩, ⟨none, .mv 8 (.t 1)⟩, ⟨none, .dat 9 f_sema_has [(.t 7), (.t 8)]⟩, ⟨none, .mv 10 (.t 9)⟩, ⟨some (10, true), .mv 11 (.t 2)⟩, ⟨some (10, true), .bin 12 .geq (.t 11) (.c (.int .i64 0))⟩, ⟨none, .pick 13 (.t 10) (.t 12) (.c (.bool false))⟩, ⟨none, .mv 14 (.t 13)⟩, ⟨some (14, true), .mv 15 (.t 0)⟩, ⟨some (14, true), .mv 16 (.t 1)⟩, ⟨some (14, true), .ia 17 (.t 15) (.t 16)⟩, ⟨some (14, true), .fa 18 (.t 17) 1⟩, ⟨some (14, true), .ld 19 (.t 18)⟩, ⟨some (14, true), .mv 20 (.t 2)⟩, ⟨some (14, true), .bin 21 .add (.t 20) (.c (.int .i64 1))⟩, ⟨some (14, true), .bin 22 .eql (.t 19) (.t 21)⟩, ⟨none, .pick 23 (.t 14) (.t 22) (.c (.bool false))⟩, ⟨none, .mv 6 (.t 23)⟩] [0, 1, 2, 7, 8, 9, 10, 11, 12, 13, 14, 15, 16, 17, 18, 19, 20, 21, 22, 23])
 .ret)), [.t 6]⟩
/- foliot/sema.has -/
def k_sema_has : KF := ⟨(.seq (.reg [] [⟨none, .mv 4 (.c (.bool false))⟩] [4])
 (.seq (.reg [] [⟨none, .mv 5 (.t 1)⟩, ⟨none, .bin 6 .geq (.t 5) (.c (.int .i64 0))⟩, ⟨none, .mv 7 (.t 6)⟩, ⟨some (7, true), .mv 8 (.t 1)⟩, ⟨some (7, true), .mv 9 (.t 0)⟩, ⟨some (7, true), .len 10 (.t 9)⟩, ⟨some (7, true), .bin 11 .lss (.t 8) (.t 10)⟩, ⟨none, .pick 12 (.t 7) (.t 11) (.c (.bool false))⟩, ⟨none, .mv 4 (.t 12)⟩] [0, 1, 5, 6, 7, 8, 9, 10, 11, 12])
 .ret)), [.t 4]⟩
/- foliot/foliotref19.Base -/
def k_ref19_Base : KF := ⟨(.seq (.reg [] [⟨none, .box 2 (.t 0)⟩, ⟨none, .mv 4 (.c (.int .i64 0))⟩] [0, 4])
 (.seq (.seq (.reg [] [⟨none, .fa 5 (.t 2) 3⟩, ⟨none, .ld 6 (.t 5)⟩, ⟨none, .bin 7 .eql (.t 6) (.c (.int .i64 2))⟩] [5, 6])
 (.cond (.t 7) (.seq (.reg [] [⟨none, .mv 8 (.t 1)⟩, ⟨none, .bin 9 .mul (.c (.int .i64 2)) (.t 8)⟩, ⟨none, .fa 10 (.t 2) 0⟩, ⟨none, .ld 11 (.t 10)⟩, ⟨none, .bin 12 .add (.t 9) (.t 11)⟩, ⟨none, .mv 4 (.t 12)⟩] [1, 2, 8, 9, 10, 11, 12])
 .ret)
 .skip))
 (.seq (.seq (.reg [] [⟨none, .fa 13 (.t 2) 7⟩, ⟨none, .ld 14 (.t 13)⟩] [13])
 (.cond (.t 14) (.seq (.reg [] [⟨none, .fa 15 (.t 2) 0⟩, ⟨none, .ld 16 (.t 15)⟩, ⟨none, .mv 4 (.t 16)⟩] [2, 15, 16])
 .ret)
 .skip))
 (.seq (.reg [] [⟨none, .mv 17 (.t 1)⟩, ⟨none, .fa 18 (.t 2) 0⟩, ⟨none, .ld 19 (.t 18)⟩, ⟨none, .bin 20 .add (.t 17) (.t 19)⟩, ⟨none, .mv 4 (.t 20)⟩] [1, 2, 17, 18, 19, 20])
 .ret)))), [.t 4]⟩
/- foliot/foliotref19.Band -/
def k_ref19_Band : KF := ⟨(.seq (.reg [] [⟨none, .box 3 (.t 0)⟩, ⟨none, .mv 6 (.c (.int .i64 0))⟩] [0, 6])
 (.seq (.reg [] [⟨none, .mv 10 (.t 2)⟩, ⟨none, .fa 11 (.t 3) 6⟩, ⟨none, .ld 12 (.t 11)⟩, ⟨none, .fa 13 (.t 3) 0⟩, ⟨none, .ld 14 (.t 13)⟩, ⟨none, .dat 15 f_ref11_Low [(.t 10), (.t 12), (.t 14)]⟩, ⟨none, .mv 9 (.t 15)⟩, ⟨none, .ex 16 (.t 9) 0⟩, ⟨none, .ex 17 (.t 9) 1⟩, ⟨none, .mv 7 (.t 16)⟩, ⟨none, .mv 8 (.t 17)⟩] [2, 9, 10, 11, 12, 13, 14, 15, 16, 17])
 (.seq (.seq (.reg [] [⟨none, .mv 18 (.t 8)⟩, ⟨none, .mv 19 (.t 18)⟩, ⟨some (19, true), .mv 20 (.t 7)⟩, ⟨some (19, true), .ld 21 (.t 3)⟩, ⟨some (19, true), .mv 22 (.t 1)⟩, ⟨some (19, true), .dat 23 f_ref19_Base [(.t 21), (.t 22)]⟩, ⟨some (19, true), .bin 24 .lss (.t 20) (.t 23)⟩, ⟨none, .pick 25 (.t 19) (.t 24) (.c (.bool false))⟩] [8, 18, 19, 20, 21, 22, 23, 24])
 (.cond (.t 25) (.seq (.reg [] [⟨none, .mv 26 (.t 7)⟩, ⟨none, .mv 6 (.t 26)⟩] [7, 26])
 .ret)
 .skip))
 (.seq (.reg [] [⟨none, .ld 27 (.t 3)⟩, ⟨none, .mv 28 (.t 1)⟩, ⟨none, .dat 29 f_ref19_Base [(.t 27), (.t 28)]⟩, ⟨none, .mv 6 (.t 29)⟩] [1, 3, 27, 28, 29])
 .ret)))), [.t 6]⟩
/- foliot/foliotref11.Low -/
def k_ref11_Low_L0b : K := (.seq (.seq (.reg [] [⟨none, .mv 12 (.t 10)⟩, ⟨none, .mv 13 (.t 1)⟩, ⟨none, .len 14 (.t 13)⟩, ⟨none, .bin 15 .lss (.t 12) (.t 14)⟩] [12, 13, 14])
 (.cond (.t 15) .skip
 (.ext 0)))
 (.seq (.blk 1 (.seq (.reg [] [⟨none, .mv 18 (.t 1)⟩, ⟨none, .mv 19 (.t 10)⟩, ⟨none, .ia 20 (.t 18) (.t 19)⟩, ⟨none, .ld 21 (.t 20)⟩, ⟨none, .mv 11 (.t 21)⟩] [18, 19, 20, 21])
 (.seq (.seq (.reg [] [⟨none, .mv 22 (.t 11)⟩, ⟨none, .bin 23 .lss (.t 22) (.c (.int .i64 0))⟩, ⟨none, .mv 24 (.t 23)⟩, ⟨some (24, false), .mv 25 (.t 11)⟩, ⟨some (24, false), .mv 26 (.t 0)⟩, ⟨some (24, false), .len 27 (.t 26)⟩, ⟨some (24, false), .bin 28 .geq (.t 25) (.t 27)⟩, ⟨none, .pick 29 (.t 24) (.c (.bool true)) (.t 28)⟩, ⟨none, .mv 30 (.t 29)⟩, ⟨some (30, false), .mv 31 (.t 0)⟩, ⟨some (30, false), .mv 32 (.t 11)⟩, ⟨some (30, false), .ia 33 (.t 31) (.t 32)⟩, ⟨some (30, false), .fa 34 (.t 33) 1⟩, ⟨some (30, false), .ld 35 (.t 34)⟩, ⟨some (30, false), .mv 36 (.t 2)⟩, ⟨some (30, false), .bin 37 .add (.t 36) (.c (.int .i64 1))⟩, ⟨some (30, false), .bin 38 .neq (.t 35) (.t 37)⟩, ⟨none, .pick 39 (.t 30) (.c (.bool true)) (.t 38)⟩] [22, 23, 24, 25, 26, 27, 28, 29, 30, 31, 32, 33, 34, 35, 36, 37, 38])
 (.cond (.t 39) (.ext 1)
 .skip))
 (.seq (.seq (.reg [] [⟨none, .mv 40 (.t 9)⟩, ⟨none, .un 41 .not (.t 40)⟩, ⟨none, .mv 42 (.t 41)⟩, ⟨some (42, false), .mv 43 (.t 0)⟩, ⟨some (42, false), .mv 44 (.t 11)⟩, ⟨some (42, false), .ia 45 (.t 43) (.t 44)⟩, ⟨some (42, false), .fa 46 (.t 45) 0⟩, ⟨some (42, false), .ld 47 (.t 46)⟩, ⟨some (42, false), .mv 48 (.t 8)⟩, ⟨some (42, false), .bin 49 .lss (.t 47) (.t 48)⟩, ⟨none, .pick 50 (.t 42) (.c (.bool true)) (.t 49)⟩] [9, 40, 41, 42, 43, 44, 45, 46, 47, 48, 49])
 (.cond (.t 50) (.reg [] [⟨none, .mv 51 (.t 0)⟩, ⟨none, .mv 52 (.t 11)⟩, ⟨none, .ia 53 (.t 51) (.t 52)⟩, ⟨none, .fa 54 (.t 53) 0⟩, ⟨none, .ld 55 (.t 54)⟩, ⟨none, .mv 8 (.t 55)⟩] [11, 51, 52, 53, 54, 55])
 .skip))
 (.reg [] [⟨none, .mv 9 (.c (.bool true))⟩] [])))))
 (.reg [] [⟨none, .mv 16 (.t 10)⟩, ⟨none, .bin 17 .add (.t 16) (.c (.int .i64 1))⟩, ⟨none, .mv 10 (.t 17)⟩] [16, 17])))
def k_ref11_Low_L0 : K := k_ref11_Low_L0b
def k_ref11_Low : KF := ⟨(.seq (.reg [] [⟨none, .mv 6 (.c (.int .i64 0))⟩, ⟨none, .mv 7 (.c (.bool false))⟩] [6, 7])
 (.seq (.reg [] [⟨none, .mv 8 (.c (.int .i64 0))⟩, ⟨none, .mv 9 (.c (.bool false))⟩] [])
 (.seq (.seq (.reg [] [⟨none, .mv 10 (.c (.int .i64 0))⟩] [])
 (.blk 0 (.loop [0, 1, 2, 8, 9, 10] k_ref11_Low_L0)))
 (.seq (.reg [] [⟨none, .mv 56 (.t 8)⟩, ⟨none, .mv 57 (.t 9)⟩, ⟨none, .mv 6 (.t 56)⟩, ⟨none, .mv 7 (.t 57)⟩] [8, 9, 56, 57])
 .ret)))), [.t 6, .t 7]⟩
/- foliot/foliotlaw20.BandThree -/
def k_law20_BandThree : KF := ⟨(.seq (.reg [] [⟨none, .box 3 (.t 0)⟩, ⟨none, .box 4 (.t 1)⟩, ⟨none, .mv 6 (.c (.bool false))⟩] [0, 1, 6])
 (.seq (.seq (.reg [] [⟨none, .dat 12 f_law20_begun []⟩, ⟨none, .un 13 .not (.t 12)⟩] [12])
 (.cond (.t 13) (.seq (.reg [] [⟨none, .mv 6 (.c (.bool false))⟩] [])
 .ret)
 .skip))
 (.seq (.reg [] [⟨none, .mv 14 (.t 2)⟩, ⟨none, .bin 15 .rem (.t 14) (.c (.int .u8 8))⟩, ⟨none, .cv 16 .i64 (.t 15)⟩, ⟨none, .bin 17 .add (.c (.int .i64 1)) (.t 16)⟩, ⟨none, .mv 7 (.t 17)⟩] [2, 14, 15, 16, 17])
 (.seq (.reg [(0, 10), (1, 10), (5, 10), (6, 10)] [⟨none, .ia 18 (.t 3) (.c (.int .i64 0))⟩, ⟨none, .ld 19 (.t 18)⟩, ⟨none, .cv 20 .i64 (.t 19)⟩, ⟨none, .mv 21 (.t 7)⟩, ⟨none, .bin 22 .rem (.t 20) (.t 21)⟩, ⟨none, .ia 23 (.t 3) (.c (.int .i64 1))⟩, ⟨none, .ld 24 (.t 23)⟩, ⟨none, .bin 25 .rem (.t 24) (.c (.int .u8 3))⟩, ⟨none, .bin 26 .eql (.t 25) (.c (.int .u8 0))⟩, ⟨none, .bld 27 [(.t 22), (.c (.int .i64 0)), (.c (.int .i64 0)), (.c (.int .i64 0)), (.c (.d (.agg [(.int .i64 0), (.agg [(.int .i64 0), (.int .i64 0), (.int .i64 0), (.int .i64 0), (.int .i64 0), (.int .i64 0), (.int .i64 0), (.int .i64 0)]), (.sl true []), (.bool false)]))), (.c (.d (.agg [(.int .i64 0), (.agg [(.int .i64 0), (.int .i64 0), (.int .i64 0), (.int .i64 0), (.int .i64 0), (.int .i64 0), (.int .i64 0), (.int .i64 0)]), (.sl true []), (.bool false)]))), (.c (.d (.sl true []))), (.t 26)]⟩, ⟨none, .alc 8 (.d (.agg [(.int .i64 0), (.int .i64 0), (.int .i64 0), (.int .i64 0), (.agg [(.int .i64 0), (.agg [(.int .i64 0), (.int .i64 0), (.int .i64 0), (.int .i64 0), (.int .i64 0), (.int .i64 0), (.int .i64 0), (.int .i64 0)]), (.sl true []), (.bool false)]), (.agg [(.int .i64 0), (.agg [(.int .i64 0), (.int .i64 0), (.int .i64 0), (.int .i64 0), (.int .i64 0), (.int .i64 0), (.int .i64 0), (.int .i64 0)]), (.sl true []), (.bool false)]), (.sl true []), (.bool false)]))⟩, ⟨none, .st (.t 8) (.t 27)⟩] [18, 19, 20, 21, 22, 23, 24, 25, 26, 27])
 (.seq (.reg [(0, 10), (1, 10), (5, 10), (6, 10)] [⟨none, .ia 28 (.t 4) (.c (.int .i64 0))⟩, ⟨none, .ld 29 (.t 28)⟩, ⟨none, .cv 30 .i64 (.t 29)⟩, ⟨none, .mv 31 (.t 7)⟩, ⟨none, .bin 32 .rem (.t 30) (.t 31)⟩, ⟨none, .ia 33 (.t 4) (.c (.int .i64 1))⟩, ⟨none, .ld 34 (.t 33)⟩, ⟨none, .bin 35 .rem (.t 34) (.c (.int .u8 3))⟩, ⟨none, .bin 36 .eql (.t 35) (.c (.int .u8 0))⟩, ⟨none, .bld 37 [(.t 32), (.c (.int .i64 0)), (.c (.int .i64 0)), (.c (.int .i64 0)), (.c (.d (.agg [(.int .i64 0), (.agg [(.int .i64 0), (.int .i64 0), (.int .i64 0), (.int .i64 0), (.int .i64 0), (.int .i64 0), (.int .i64 0), (.int .i64 0)]), (.sl true []), (.bool false)]))), (.c (.d (.agg [(.int .i64 0), (.agg [(.int .i64 0), (.int .i64 0), (.int .i64 0), (.int .i64 0), (.int .i64 0), (.int .i64 0), (.int .i64 0), (.int .i64 0)]), (.sl true []), (.bool false)]))), (.c (.d (.sl true []))), (.t 36)]⟩, ⟨none, .alc 9 (.d (.agg [(.int .i64 0), (.int .i64 0), (.int .i64 0), (.int .i64 0), (.agg [(.int .i64 0), (.agg [(.int .i64 0), (.int .i64 0), (.int .i64 0), (.int .i64 0), (.int .i64 0), (.int .i64 0), (.int .i64 0), (.int .i64 0)]), (.sl true []), (.bool false)]), (.agg [(.int .i64 0), (.agg [(.int .i64 0), (.int .i64 0), (.int .i64 0), (.int .i64 0), (.int .i64 0), (.int .i64 0), (.int .i64 0), (.int .i64 0)]), (.sl true []), (.bool false)]), (.sl true []), (.bool false)]))⟩, ⟨none, .st (.t 9) (.t 37)⟩] [28, 29, 30, 31, 32, 33, 34, 35, 36, 37])
 (.seq (.seq (.reg [] [⟨none, .ia 38 (.t 3) (.c (.int .i64 1))⟩, ⟨none, .ld 39 (.t 38)⟩, ⟨none, .bin 40 .rem (.t 39) (.c (.int .u8 3))⟩, ⟨none, .bin 41 .eql (.t 40) (.c (.int .u8 2))⟩] [38, 39, 40])
 (.cond (.t 41) (.reg [] [⟨none, .fa 42 (.t 8) 3⟩, ⟨none, .st (.t 42) (.c (.int .i64 2))⟩] [42])
 .skip))
 (.seq (.seq (.reg [] [⟨none, .ia 43 (.t 4) (.c (.int .i64 1))⟩, ⟨none, .ld 44 (.t 43)⟩, ⟨none, .bin 45 .rem (.t 44) (.c (.int .u8 3))⟩, ⟨none, .bin 46 .eql (.t 45) (.c (.int .u8 2))⟩] [43, 44, 45])
 (.cond (.t 46) (.reg [] [⟨none, .fa 47 (.t 9) 3⟩, ⟨none, .st (.t 47) (.c (.int .i64 2))⟩] [47])
 .skip))
 (.seq (.reg [] [⟨none, .ia 48 (.t 3) (.c (.int .i64 1))⟩, ⟨none, .ld 49 (.t 48)⟩, ⟨none, .bin 50 .rem (.t 49) (.c (.int .u8 3))⟩, ⟨none, .cv 51 .i64 (.t 50)⟩, ⟨none, .ia 52 (.t 4) (.c (.int .i64 1))⟩, ⟨none, .ld 53 (.t 52)⟩, ⟨none, .bin 54 .rem (.t 53) (.c (.int .u8 3))⟩, ⟨none, .cv 55 .i64 (.t 54)⟩, ⟨none, .mv 10 (.t 51)⟩, ⟨none, .mv 11 (.t 55)⟩] [3, 4, 48, 49, 50, 51, 52, 53, 54, 55])
 (.seq (.reg [(2, 3)] [⟨none, .ld 56 (.t 8)⟩, ⟨none, .mv 57 (.t 7)⟩, ⟨none, .dat 58 f_band_Base [(.t 56), (.t 57)]⟩, ⟨none, .ld 59 (.t 9)⟩, ⟨none, .mv 60 (.t 7)⟩, ⟨none, .dat 61 f_band_Base [(.t 59), (.t 60)]⟩, ⟨none, .bin 62 .lss (.t 58) (.t 61)⟩, ⟨none, .mv 63 (.t 10)⟩, ⟨none, .mv 64 (.t 11)⟩, ⟨none, .bin 65 .lss (.t 63) (.t 64)⟩, ⟨none, .mv 66 (.t 65)⟩, ⟨some (66, false), .mv 67 (.t 10)⟩, ⟨some (66, false), .mv 68 (.t 11)⟩, ⟨some (66, false), .bin 69 .eql (.t 67) (.t 68)⟩, ⟨some (66, false), .mv 70 (.t 69)⟩, ⟨some (70, true), .fa 71 (.t 8) 0⟩, ⟨some (70, true), .ld 72 (.t 71)⟩, ⟨some (70, true), .fa 73 (.t 9) 0⟩, ⟨some (70, true), .ld 74 (.t 73)⟩, ⟨some (70, true), .bin 75 .lss (.t 72) (.t 74)⟩, ⟨some (66, false), .pick 76 (.t 70) (.t 75) (.c (.bool false))⟩, ⟨none, .pick 77 (.t 66) (.c (.bool true)) (.t 76)⟩, ⟨none, .bin 78 .eql (.t 62) (.t 77)⟩, ⟨none, .mv 6 (.t 78)⟩] [7, 8, 9, 10, 11, 56, 57, 58, 59, 60, 61, 62, 63, 64, 65, 66, 67, 68, 69, 70, 71, 72, 73, 74, 75, 76, 77, 78])
 .ret))))))))), [.t 6]⟩
/- foliot/foliotlaw20.BandLow -/
def k_law20_BandLow_L0b : K := (.seq (.seq (.reg [] [⟨none, .mv 36 (.t 15)⟩, ⟨none, .bin 37 .lss (.t 36) (.c (.int .i64 4))⟩] [36])
 (.cond (.t 37) .skip
 (.ext 0)))
 (.seq (.blk 1 (.reg [] [⟨none, .mv 40 (.t 14)⟩, ⟨none, .mv 41 (.t 15)⟩, ⟨none, .ia 42 (.t 10) (.t 41)⟩, ⟨none, .ld 43 (.t 42)⟩, ⟨none, .bin 44 .rem (.t 43) (.c (.int .u8 9))⟩, ⟨none, .cv 45 .i64 (.t 44)⟩, ⟨none, .mv 46 (.t 15)⟩, ⟨none, .ia 47 (.t 11) (.t 46)⟩, ⟨none, .ld 48 (.t 47)⟩, ⟨none, .bin 49 .rem (.t 48) (.c (.int .u8 9))⟩, ⟨none, .cv 50 .i64 (.t 49)⟩, ⟨none, .bld 51 [(.t 45), (.t 50)]⟩, ⟨none, .bsl 52 [(.t 51)]⟩, ⟨none, .app 53 (.t 40) (.t 52)⟩, ⟨none, .mv 14 (.t 53)⟩] [40, 41, 42, 43, 44, 45, 46, 47, 48, 49, 50, 51, 52, 53]))
 (.reg [] [⟨none, .mv 38 (.t 15)⟩, ⟨none, .bin 39 .add (.t 38) (.c (.int .i64 1))⟩, ⟨none, .mv 15 (.t 39)⟩] [38, 39])))
def k_law20_BandLow_L0 : K := k_law20_BandLow_L0b
def k_law20_BandLow_L1b : K := (.seq (.seq (.reg [] [⟨none, .mv 54 (.t 16)⟩, ⟨none, .mv 55 (.t 3)⟩, ⟨none, .len 56 (.t 55)⟩, ⟨none, .bin 57 .lss (.t 54) (.t 56)⟩] [54, 55, 56])
 (.cond (.t 57) .skip
 (.ext 2)))
 (.seq (.blk 3 (.reg [(1, 8)] [⟨none, .fa 60 (.t 13) 6⟩, ⟨none, .ld 61 (.t 60)⟩, ⟨none, .mv 62 (.t 3)⟩, ⟨none, .mv 63 (.t 16)⟩, ⟨none, .ia 64 (.t 62) (.t 63)⟩, ⟨none, .ld 65 (.t 64)⟩, ⟨none, .bin 66 .rem (.t 65) (.c (.int .u8 4))⟩, ⟨none, .cv 67 .i64 (.t 66)⟩, ⟨none, .bsl 68 [(.t 67)]⟩, ⟨none, .app 69 (.t 61) (.t 68)⟩, ⟨none, .fa 70 (.t 13) 6⟩, ⟨none, .st (.t 70) (.t 69)⟩] [60, 61, 62, 63, 64, 65, 66, 67, 68, 69, 70]))
 (.reg [] [⟨none, .mv 58 (.t 16)⟩, ⟨none, .bin 59 .add (.t 58) (.c (.int .i64 1))⟩, ⟨none, .mv 16 (.t 59)⟩] [58, 59])))
def k_law20_BandLow_L1 : K := k_law20_BandLow_L1b
def k_law20_BandLow_L2b : K := (.seq (.seq (.reg [] [⟨none, .mv 76 (.t 20)⟩, ⟨none, .fa 77 (.t 13) 6⟩, ⟨none, .ld 78 (.t 77)⟩, ⟨none, .len 79 (.t 78)⟩, ⟨none, .bin 80 .lss (.t 76) (.t 79)⟩] [76, 77, 78, 79])
 (.cond (.t 80) .skip
 (.ext 4)))
 (.seq (.blk 5 (.seq (.reg [] [⟨none, .mv 83 (.t 14)⟩, ⟨none, .fa 84 (.t 13) 6⟩, ⟨none, .ld 85 (.t 84)⟩, ⟨none, .mv 86 (.t 20)⟩, ⟨none, .ia 87 (.t 85) (.t 86)⟩, ⟨none, .ld 88 (.t 87)⟩, ⟨none, .ia 89 (.t 83) (.t 88)⟩, ⟨none, .fa 90 (.t 89) 1⟩, ⟨none, .ld 91 (.t 90)⟩, ⟨none, .fa 92 (.t 13) 0⟩, ⟨none, .ld 93 (.t 92)⟩, ⟨none, .bin 94 .add (.t 93) (.c (.int .i64 1))⟩, ⟨none, .bin 95 .eql (.t 91) (.t 94)⟩] [83, 84, 85, 86, 87, 88, 89, 90, 91, 92, 93, 94])
 (.cond (.t 95) (.seq (.seq (.reg [] [⟨none, .mv 96 (.t 17)⟩, ⟨none, .mv 97 (.t 14)⟩, ⟨none, .fa 98 (.t 13) 6⟩, ⟨none, .ld 99 (.t 98)⟩, ⟨none, .mv 100 (.t 20)⟩, ⟨none, .ia 101 (.t 99) (.t 100)⟩, ⟨none, .ld 102 (.t 101)⟩, ⟨none, .ia 103 (.t 97) (.t 102)⟩, ⟨none, .fa 104 (.t 103) 0⟩, ⟨none, .ld 105 (.t 104)⟩, ⟨none, .bin 106 .gtr (.t 96) (.t 105)⟩] [96, 97, 98, 99, 100, 101, 102, 103, 104, 105])
 (.cond (.t 106) (.seq (.reg [] [⟨none, .mv 12 (.c (.bool false))⟩] [])
 .ret)
 .skip))
 (.reg [] [⟨none, .mv 107 (.t 19)⟩, ⟨none, .mv 108 (.t 107)⟩, ⟨some (108, false), .mv 109 (.t 17)⟩, ⟨some (108, false), .mv 110 (.t 14)⟩, ⟨some (108, false), .fa 111 (.t 13) 6⟩, ⟨some (108, false), .ld 112 (.t 111)⟩, ⟨some (108, false), .mv 113 (.t 20)⟩, ⟨some (108, false), .ia 114 (.t 112) (.t 113)⟩, ⟨some (108, false), .ld 115 (.t 114)⟩, ⟨some (108, false), .ia 116 (.t 110) (.t 115)⟩, ⟨some (108, false), .fa 117 (.t 116) 0⟩, ⟨some (108, false), .ld 118 (.t 117)⟩, ⟨some (108, false), .bin 119 .eql (.t 109) (.t 118)⟩, ⟨none, .pick 120 (.t 108) (.c (.bool true)) (.t 119)⟩, ⟨none, .mv 19 (.t 120)⟩] [107, 108, 109, 110, 111, 112, 113, 114, 115, 116, 117, 118, 119, 120]))
 .skip)))
 (.reg [] [⟨none, .mv 81 (.t 20)⟩, ⟨none, .bin 82 .add (.t 81) (.c (.int .i64 1))⟩, ⟨none, .mv 20 (.t 82)⟩] [81, 82])))
def k_law20_BandLow_L2 : K := k_law20_BandLow_L2b
def k_law20_BandLow : KF := ⟨(.seq (.reg [] [⟨none, .box 10 (.t 4)⟩, ⟨none, .box 11 (.t 5)⟩, ⟨none, .mv 12 (.c (.bool false))⟩] [4, 5, 12])
 (.seq (.seq (.reg [] [⟨none, .dat 21 f_law20_begun []⟩, ⟨none, .un 22 .not (.t 21)⟩] [21])
 (.cond (.t 22) (.seq (.reg [] [⟨none, .mv 12 (.c (.bool false))⟩] [])
 .ret)
 .skip))
 (.seq (.seq (.reg [] [⟨none, .mv 23 (.t 3)⟩, ⟨none, .len 24 (.t 23)⟩, ⟨none, .bin 25 .gtr (.t 24) (.c (.int .i64 6))⟩] [23, 24])
 (.cond (.t 25) (.seq (.reg [] [⟨none, .mv 12 (.c (.bool true))⟩] [])
 .ret)
 .skip))
 (.seq (.reg [] [⟨none, .mv 26 (.t 0)⟩, ⟨none, .bin 27 .rem (.t 26) (.c (.int .u8 8))⟩, ⟨none, .cv 28 .i64 (.t 27)⟩, ⟨none, .mv 29 (.t 1)⟩, ⟨none, .bin 30 .rem (.t 29) (.c (.int .u8 3))⟩, ⟨none, .cv 31 .i64 (.t 30)⟩, ⟨none, .mv 32 (.t 2)⟩, ⟨none, .bin 33 .rem (.t 32) (.c (.int .u8 2))⟩, ⟨none, .bin 34 .eql (.t 33) (.c (.int .u8 1))⟩, ⟨none, .bld 35 [(.t 28), (.c (.int .i64 0)), (.c (.int .i64 0)), (.t 31), (.c (.d (.agg [(.int .i64 0), (.agg [(.int .i64 0), (.int .i64 0), (.int .i64 0), (.int .i64 0), (.int .i64 0), (.int .i64 0), (.int .i64 0), (.int .i64 0)]), (.sl true []), (.bool false)]))), (.c (.d (.agg [(.int .i64 0), (.agg [(.int .i64 0), (.int .i64 0), (.int .i64 0), (.int .i64 0), (.int .i64 0), (.int .i64 0), (.int .i64 0), (.int .i64 0)]), (.sl true []), (.bool false)]))), (.c (.d (.sl true []))), (.t 34)]⟩, ⟨none, .alc 13 (.d (.agg [(.int .i64 0), (.int .i64 0), (.int .i64 0), (.int .i64 0), (.agg [(.int .i64 0), (.agg [(.int .i64 0), (.int .i64 0), (.int .i64 0), (.int .i64 0), (.int .i64 0), (.int .i64 0), (.int .i64 0), (.int .i64 0)]), (.sl true []), (.bool false)]), (.agg [(.int .i64 0), (.agg [(.int .i64 0), (.int .i64 0), (.int .i64 0), (.int .i64 0), (.int .i64 0), (.int .i64 0), (.int .i64 0), (.int .i64 0)]), (.sl true []), (.bool false)]), (.sl true []), (.bool false)]))⟩, ⟨none, .st (.t 13) (.t 35)⟩] [0, 1, 2, 26, 27, 28, 29, 30, 31, 32, 33, 34, 35])
 (.seq (.reg [] [⟨none, .mv 14 (.c (.d (.sl true [])))⟩] [])
 (.seq (.seq (.reg [] [⟨none, .mv 15 (.c (.int .i64 0))⟩] [])
 (.blk 0 (.loop [3, 10, 11, 13, 14, 15] k_law20_BandLow_L0)))
 (.seq (.seq (.reg [] [⟨none, .mv 16 (.c (.int .i64 0))⟩] [])
 (.blk 2 (.loop [3, 13, 14, 16] k_law20_BandLow_L1)))
 (.seq (.reg [(2, 3)] [⟨none, .ld 71 (.t 13)⟩, ⟨none, .mv 72 (.t 14)⟩, ⟨none, .dat 73 f_band_Of [(.t 71), (.c (.int .i64 8)), (.t 72)]⟩, ⟨none, .ld 74 (.t 13)⟩, ⟨none, .dat 75 f_band_Base [(.t 74), (.c (.int .i64 8))]⟩, ⟨none, .mv 17 (.t 73)⟩, ⟨none, .mv 18 (.t 75)⟩] [71, 72, 73, 74, 75])
 (.seq (.reg [] [⟨none, .mv 19 (.c (.bool false))⟩] [])
 (.seq (.seq (.reg [] [⟨none, .mv 20 (.c (.int .i64 0))⟩] [])
 (.blk 4 (.loop [13, 14, 17, 18, 19, 20] k_law20_BandLow_L2)))
 (.seq (.reg [] [⟨none, .mv 121 (.t 17)⟩, ⟨none, .mv 122 (.t 18)⟩, ⟨none, .bin 123 .leq (.t 121) (.t 122)⟩, ⟨none, .mv 124 (.t 123)⟩, ⟨some (124, true), .mv 125 (.t 17)⟩, ⟨some (124, true), .mv 126 (.t 18)⟩, ⟨some (124, true), .bin 127 .eql (.t 125) (.t 126)⟩, ⟨some (124, true), .mv 128 (.t 127)⟩, ⟨some (128, false), .mv 129 (.t 19)⟩, ⟨some (124, true), .pick 130 (.t 128) (.c (.bool true)) (.t 129)⟩, ⟨none, .pick 131 (.t 124) (.t 130) (.c (.bool false))⟩, ⟨none, .mv 12 (.t 131)⟩] [17, 18, 19, 121, 122, 123, 124, 125, 126, 127, 128, 129, 130, 131])
 .ret))))))))))), [.t 12]⟩
/- foliot/foliotlaw20.BandForms -/
def k_law20_BandForms_L0b : K := (.seq (.seq (.reg [] [⟨none, .mv 41 (.t 6)⟩, ⟨none, .bin 42 .lss (.t 41) (.c (.int .i64 6))⟩] [41])
 (.cond (.t 42) .skip
 (.ext 0)))
 (.seq (.blk 1 (.seq (.reg [(4, 7), (4, 8), (16, 19), (16, 20)] [⟨none, .mv 45 (.t 3)⟩, ⟨none, .mv 46 (.t 6)⟩, ⟨none, .ia 47 (.t 45) (.t 46)⟩, ⟨none, .ld 48 (.t 47)⟩, ⟨none, .dat 49 f_band_Base [(.t 48), (.c (.int .i64 5))]⟩, ⟨none, .mv 50 (.t 4)⟩, ⟨none, .mv 51 (.t 6)⟩, ⟨none, .ia 52 (.t 50) (.t 51)⟩, ⟨none, .ld 53 (.t 52)⟩, ⟨none, .bin 54 .neq (.t 49) (.t 53)⟩, ⟨none, .mv 55 (.t 54)⟩, ⟨some (55, false), .mv 56 (.t 3)⟩, ⟨some (55, false), .mv 57 (.t 6)⟩, ⟨some (55, false), .ia 58 (.t 56) (.t 57)⟩, ⟨some (55, false), .ld 59 (.t 58)⟩, ⟨some (55, false), .mv 60 (.t 1)⟩, ⟨some (55, false), .dat 61 f_band_Of [(.t 59), (.c (.int .i64 5)), (.t 60)]⟩, ⟨some (55, false), .mv 62 (.t 5)⟩, ⟨some (55, false), .mv 63 (.t 6)⟩, ⟨some (55, false), .ia 64 (.t 62) (.t 63)⟩, ⟨some (55, false), .ld 65 (.t 64)⟩, ⟨some (55, false), .bin 66 .neq (.t 61) (.t 65)⟩, ⟨none, .pick 67 (.t 55) (.c (.bool true)) (.t 66)⟩] [45, 46, 47, 48, 49, 50, 51, 52, 53, 54, 55, 56, 57, 58, 59, 60, 61, 62, 63, 64, 65, 66])
 (.cond (.t 67) (.seq (.reg [] [⟨none, .mv 0 (.c (.bool false))⟩] [])
 .ret)
 .skip)))
 (.reg [] [⟨none, .mv 43 (.t 6)⟩, ⟨none, .bin 44 .add (.t 43) (.c (.int .i64 1))⟩, ⟨none, .mv 6 (.t 44)⟩] [43, 44])))
def k_law20_BandForms_L0 : K := k_law20_BandForms_L0b
def k_law20_BandForms : KF := ⟨(.seq (.reg [] [⟨none, .mv 0 (.c (.bool false))⟩] [0])
 (.seq (.seq (.reg [] [⟨none, .dat 7 f_law20_begun []⟩, ⟨none, .un 8 .not (.t 7)⟩] [7])
 (.cond (.t 8) (.seq (.reg [] [⟨none, .mv 0 (.c (.bool false))⟩] [])
 .ret)
 .skip))
 (.seq (.reg [] [⟨none, .bld 9 [(.c (.int .i64 2)), (.c (.int .i64 4))]⟩, ⟨none, .bld 10 [(.c (.int .i64 0)), (.c (.int .i64 4))]⟩, ⟨none, .bld 11 [(.c (.int .i64 1)), (.c (.int .i64 3))]⟩, ⟨none, .bsl 12 [(.t 9), (.t 10), (.t 11)]⟩, ⟨none, .mv 1 (.t 12)⟩] [9, 10, 11, 12])
 (.seq (.reg [] [⟨none, .bld 13 [(.c (.int .i64 3)), (.c (.int .i64 0)), (.c (.int .i64 0)), (.c (.int .i64 0)), (.c (.d (.agg [(.int .i64 0), (.agg [(.int .i64 0), (.int .i64 0), (.int .i64 0), (.int .i64 0), (.int .i64 0), (.int .i64 0), (.int .i64 0), (.int .i64 0)]), (.sl true []), (.bool false)]))), (.c (.d (.agg [(.int .i64 0), (.agg [(.int .i64 0), (.int .i64 0), (.int .i64 0), (.int .i64 0), (.int .i64 0), (.int .i64 0), (.int .i64 0), (.int .i64 0)]), (.sl true []), (.bool false)]))), (.c (.d (.sl true []))), (.c (.bool false))]⟩, ⟨none, .alc 2 (.d (.agg [(.int .i64 0), (.int .i64 0), (.int .i64 0), (.int .i64 0), (.agg [(.int .i64 0), (.agg [(.int .i64 0), (.int .i64 0), (.int .i64 0), (.int .i64 0), (.int .i64 0), (.int .i64 0), (.int .i64 0), (.int .i64 0)]), (.sl true []), (.bool false)]), (.agg [(.int .i64 0), (.agg [(.int .i64 0), (.int .i64 0), (.int .i64 0), (.int .i64 0), (.int .i64 0), (.int .i64 0), (.int .i64 0), (.int .i64 0)]), (.sl true []), (.bool false)]), (.sl true []), (.bool false)]))⟩, ⟨none, .st (.t 2) (.t 13)⟩] [13])
 (.seq (.reg [] [⟨none, .ld 14 (.t 2)⟩, ⟨none, .ld 15 (.t 2)⟩, ⟨none, .ld 16 (.t 2)⟩, ⟨none, .ld 17 (.t 2)⟩, ⟨none, .ld 18 (.t 2)⟩, ⟨none, .ld 19 (.t 2)⟩, ⟨none, .bsl 20 [(.t 14), (.t 15), (.t 16), (.t 17), (.t 18), (.t 19)]⟩, ⟨none, .mv 3 (.t 20)⟩] [2, 14, 15, 16, 17, 18, 19, 20])
 (.seq (.reg [] [⟨none, .mv 21 (.t 3)⟩, ⟨none, .mv 22 (.t 3)⟩, ⟨none, .mv 23 (.t 3)⟩, ⟨none, .mv 24 (.t 3)⟩, ⟨none, .mv 25 (.t 3)⟩, ⟨none, .bsl 26 [(.c (.int .i64 0))]⟩, ⟨none, .bsl 27 [(.c (.int .i64 0)), (.c (.int .i64 1))]⟩, ⟨none, .bsl 28 [(.c (.int .i64 2)), (.c (.int .i64 9))]⟩, ⟨none, .ia 29 (.t 21) (.c (.int .i64 1))⟩, ⟨none, .fa 30 (.t 29) 7⟩, ⟨none, .st (.t 30) (.c (.bool true))⟩, ⟨none, .ia 31 (.t 22) (.c (.int .i64 2))⟩, ⟨none, .fa 32 (.t 31) 3⟩, ⟨none, .st (.t 32) (.c (.int .i64 2))⟩, ⟨none, .ia 33 (.t 23) (.c (.int .i64 3))⟩, ⟨none, .fa 34 (.t 33) 6⟩, ⟨none, .st (.t 34) (.t 26)⟩, ⟨none, .ia 35 (.t 24) (.c (.int .i64 4))⟩, ⟨none, .fa 36 (.t 35) 6⟩, ⟨none, .st (.t 36) (.t 27)⟩, ⟨none, .ia 37 (.t 25) (.c (.int .i64 5))⟩, ⟨none, .fa 38 (.t 37) 6⟩, ⟨none, .st (.t 38) (.t 28)⟩] [21, 22, 23, 24, 25, 26, 27, 28, 29, 30, 31, 32, 33, 34, 35, 36, 37, 38])
 (.seq (.reg [] [⟨none, .bsl 39 [(.c (.int .i64 8)), (.c (.int .i64 3)), (.c (.int .i64 13)), (.c (.int .i64 8)), (.c (.int .i64 8)), (.c (.int .i64 8))]⟩, ⟨none, .bsl 40 [(.c (.int .i64 8)), (.c (.int .i64 3)), (.c (.int .i64 13)), (.c (.int .i64 2)), (.c (.int .i64 0)), (.c (.int .i64 8))]⟩, ⟨none, .mv 4 (.t 39)⟩, ⟨none, .mv 5 (.t 40)⟩] [39, 40])
 (.seq (.seq (.reg [] [⟨none, .mv 6 (.c (.int .i64 0))⟩] [])
 (.blk 0 (.loop [1, 3, 4, 5, 6] k_law20_BandForms_L0)))
 (.seq (.reg [] [⟨none, .mv 68 (.t 3)⟩, ⟨none, .ia 69 (.t 68) (.c (.int .i64 3))⟩, ⟨none, .fa 70 (.t 69) 7⟩, ⟨none, .st (.t 70) (.c (.bool true))⟩] [68, 69, 70])
 (.seq (.reg [] [⟨none, .mv 71 (.t 3)⟩, ⟨none, .ia 72 (.t 71) (.c (.int .i64 3))⟩, ⟨none, .ld 73 (.t 72)⟩, ⟨none, .mv 74 (.t 1)⟩, ⟨none, .dat 75 f_band_Of [(.t 73), (.c (.int .i64 5)), (.t 74)]⟩, ⟨none, .bin 76 .eql (.t 75) (.c (.int .i64 2))⟩, ⟨none, .mv 77 (.t 76)⟩, ⟨some (77, true), .mv 78 (.t 3)⟩, ⟨some (77, true), .ia 79 (.t 78) (.c (.int .i64 3))⟩, ⟨some (77, true), .ld 80 (.t 79)⟩, ⟨some (77, true), .dat 81 f_band_Of [(.t 80), (.c (.int .i64 5)), (.c (.d (.sl true [])))]⟩, ⟨some (77, true), .bin 82 .eql (.t 81) (.c (.int .i64 3))⟩, ⟨none, .pick 83 (.t 77) (.t 82) (.c (.bool false))⟩, ⟨none, .mv 0 (.t 83)⟩] [1, 3, 71, 72, 73, 74, 75, 76, 77, 78, 79, 80, 81, 82, 83])
 .ret)))))))))), [.t 0]⟩
/- foliot/foliotlaw3.RowAll -/
def k_law3_RowAll : KF := ⟨(.seq (.reg [] [⟨none, .mv 4 (.c (.bool false))⟩] [4])
 (.seq (.seq (.reg [] [⟨none, .dat 9 f_law3_begun []⟩, ⟨none, .un 10 .not (.t 9)⟩] [9])
 (.cond (.t 10) (.seq (.reg [] [⟨none, .mv 4 (.c (.bool false))⟩] [])
 .ret)
 .skip))
 (.seq (.reg [] [⟨none, .mv 12 (.t 0)⟩, ⟨none, .dat 13 f_row_First [(.t 12)]⟩, ⟨none, .mv 11 (.t 13)⟩, ⟨none, .ex 14 (.t 11) 0⟩, ⟨none, .ex 15 (.t 11) 1⟩, ⟨none, .mv 5 (.t 14)⟩, ⟨none, .mv 6 (.t 15)⟩] [11, 12, 13, 14, 15])
 (.seq (.reg [] [⟨none, .mv 17 (.t 0)⟩, ⟨none, .dat 18 f_ref1_FirstBit [(.t 17)]⟩, ⟨none, .mv 16 (.t 18)⟩, ⟨none, .ex 19 (.t 16) 0⟩, ⟨none, .ex 20 (.t 16) 1⟩, ⟨none, .mv 7 (.t 19)⟩, ⟨none, .mv 8 (.t 20)⟩] [16, 17, 18, 19, 20])
 (.seq (.reg [] [⟨none, .mv 21 (.t 0)⟩, ⟨none, .mv 22 (.t 1)⟩, ⟨none, .dat 23 f_row_Set [(.t 21), (.t 22)]⟩, ⟨none, .mv 24 (.t 0)⟩, ⟨none, .mv 25 (.t 1)⟩, ⟨none, .dat 26 f_ref1_SetBit [(.t 24), (.t 25)]⟩, ⟨none, .bin 27 .eql (.t 23) (.t 26)⟩, ⟨none, .mv 28 (.t 27)⟩, ⟨some (28, true), .mv 29 (.t 0)⟩, ⟨some (28, true), .mv 30 (.t 1)⟩, ⟨some (28, true), .dat 31 f_row_Clear [(.t 29), (.t 30)]⟩, ⟨some (28, true), .mv 32 (.t 0)⟩, ⟨some (28, true), .mv 33 (.t 1)⟩, ⟨some (28, true), .dat 34 f_ref1_ClearBit [(.t 32), (.t 33)]⟩, ⟨some (28, true), .bin 35 .eql (.t 31) (.t 34)⟩, ⟨none, .pick 36 (.t 28) (.t 35) (.c (.bool false))⟩, ⟨none, .mv 37 (.t 36)⟩, ⟨some (37, true), .mv 38 (.t 0)⟩, ⟨some (37, true), .mv 39 (.t 1)⟩, ⟨some (37, true), .dat 40 f_row_Is [(.t 38), (.t 39)]⟩, ⟨some (37, true), .mv 41 (.t 0)⟩, ⟨some (37, true), .mv 42 (.t 1)⟩, ⟨some (37, true), .dat 43 f_ref1_IsBit [(.t 41), (.t 42)]⟩, ⟨some (37, true), .bin 44 .eql (.t 40) (.t 43)⟩, ⟨none, .pick 45 (.t 37) (.t 44) (.c (.bool false))⟩, ⟨none, .mv 46 (.t 45)⟩, ⟨some (46, true), .mv 47 (.t 5)⟩, ⟨some (46, true), .mv 48 (.t 7)⟩, ⟨some (46, true), .bin 49 .eql (.t 47) (.t 48)⟩, ⟨none, .pick 50 (.t 46) (.t 49) (.c (.bool false))⟩, ⟨none, .mv 51 (.t 50)⟩, ⟨some (51, true), .mv 52 (.t 6)⟩, ⟨some (51, true), .mv 53 (.t 8)⟩, ⟨some (51, true), .bin 54 .eql (.t 52) (.t 53)⟩, ⟨none, .pick 55 (.t 51) (.t 54) (.c (.bool false))⟩, ⟨none, .mv 56 (.t 55)⟩, ⟨some (56, true), .mv 57 (.t 0)⟩, ⟨some (56, true), .dat 58 f_row_Count [(.t 57)]⟩, ⟨some (56, true), .mv 59 (.t 0)⟩, ⟨some (56, true), .dat 60 f_ref1_Bits [(.t 59)]⟩, ⟨some (56, true), .bin 61 .eql (.t 58) (.t 60)⟩, ⟨none, .pick 62 (.t 56) (.t 61) (.c (.bool false))⟩, ⟨none, .mv 4 (.t 62)⟩] [0, 1, 5, 6, 7, 8, 21, 22, 23, 24, 25, 26, 27, 28, 29, 30, 31, 32, 33, 34, 35, 36, 37, 38, 39, 40, 41, 42, 43, 44, 45, 46, 47, 48, 49, 50, 51, 52, 53, 54, 55, 56, 57, 58, 59, 60, 61, 62])
 .ret))))), [.t 4]⟩
/- foliot/foliotlaw3.begun -/
def k_law3_begun : KF := ⟨(.seq (.reg [] [⟨none, .mv 0 (.c (.bool false))⟩] [0])
 (.seq (.reg [] [⟨none, .dat 6 f_row_Set [(.c (.int .u64 0)), (.c (.int .i64 3))]⟩, ⟨none, .dat 7 f_row_Set [(.t 6), (.c (.int .i64 2))]⟩, ⟨none, .mv 1 (.t 7)⟩] [6, 7])
 (.seq (.reg [] [⟨none, .mv 9 (.t 1)⟩, ⟨none, .dat 10 f_row_First [(.t 9)]⟩, ⟨none, .mv 8 (.t 10)⟩, ⟨none, .ex 11 (.t 8) 0⟩, ⟨none, .ex 12 (.t 8) 1⟩, ⟨none, .mv 2 (.t 11)⟩, ⟨none, .mv 3 (.t 12)⟩] [8, 9, 10, 11, 12])
 (.seq (.reg [] [⟨none, .dat 14 f_row_First [(.c (.int .u64 0))]⟩, ⟨none, .mv 13 (.t 14)⟩, ⟨none, .ex 15 (.t 13) 0⟩, ⟨none, .ex 16 (.t 13) 1⟩, ⟨none, .mv 4 (.t 15)⟩, ⟨none, .mv 5 (.t 16)⟩] [4, 13, 14, 15, 16])
 (.seq (.reg [] [⟨none, .mv 17 (.t 1)⟩, ⟨none, .bin 18 .eql (.t 17) (.c (.int .u64 12))⟩, ⟨none, .mv 19 (.t 18)⟩, ⟨some (19, true), .mv 20 (.t 3)⟩, ⟨none, .pick 21 (.t 19) (.t 20) (.c (.bool false))⟩, ⟨none, .mv 22 (.t 21)⟩, ⟨some (22, true), .mv 23 (.t 2)⟩, ⟨some (22, true), .bin 24 .eql (.t 23) (.c (.int .i64 2))⟩, ⟨none, .pick 25 (.t 22) (.t 24) (.c (.bool false))⟩, ⟨none, .mv 26 (.t 25)⟩, ⟨some (26, true), .mv 27 (.t 5)⟩, ⟨some (26, true), .un 28 .not (.t 27)⟩, ⟨none, .pick 29 (.t 26) (.t 28) (.c (.bool false))⟩, ⟨none, .mv 30 (.t 29)⟩, ⟨some (30, true), .mv 31 (.t 1)⟩, ⟨some (30, true), .dat 32 f_row_Is [(.t 31), (.c (.int .i64 3))]⟩, ⟨none, .pick 33 (.t 30) (.t 32) (.c (.bool false))⟩, ⟨none, .mv 34 (.t 33)⟩, ⟨some (34, true), .mv 35 (.t 1)⟩, ⟨some (34, true), .dat 36 f_row_Is [(.t 35), (.c (.int .i64 1))]⟩, ⟨some (34, true), .un 37 .not (.t 36)⟩, ⟨none, .pick 38 (.t 34) (.t 37) (.c (.bool false))⟩, ⟨none, .mv 39 (.t 38)⟩, ⟨some (39, true), .mv 40 (.t 1)⟩, ⟨some (39, true), .dat 41 f_row_Count [(.t 40)]⟩, ⟨some (39, true), .bin 42 .eql (.t 41) (.c (.int .i64 2))⟩, ⟨none, .pick 43 (.t 39) (.t 42) (.c (.bool false))⟩, ⟨none, .mv 44 (.t 43)⟩, ⟨some (44, true), .mv 45 (.t 1)⟩, ⟨some (44, true), .dat 46 f_row_Clear [(.t 45), (.c (.int .i64 2))]⟩, ⟨some (44, true), .bin 47 .eql (.t 46) (.c (.int .u64 8))⟩, ⟨none, .pick 48 (.t 44) (.t 47) (.c (.bool false))⟩, ⟨none, .mv 0 (.t 48)⟩] [1, 2, 3, 5, 17, 18, 19, 20, 21, 22, 23, 24, 25, 26, 27, 28, 29, 30, 31, 32, 33, 34, 35, 36, 37, 38, 39, 40, 41, 42, 43, 44, 45, 46, 47, 48])
 .ret))))), [.t 0]⟩
/- foliot/row.Set -/
def k_row_Set : KF := ⟨(.seq (.reg [] [⟨none, .mv 4 (.c (.int .u64 0))⟩] [4])
 (.seq (.reg [] [⟨none, .mv 5 (.t 0)⟩, ⟨none, .mv 6 (.t 1)⟩, ⟨none, .dat 7 f_row_bit [(.t 6)]⟩, ⟨none, .bin 8 .or (.t 5) (.t 7)⟩, ⟨none, .mv 4 (.t 8)⟩] [0, 1, 5, 6, 7, 8])
 .ret)), [.t 4]⟩
/- foliot/row.bit -/
def k_row_bit : KF := ⟨(.seq (.reg [] [⟨none, .mv 2 (.c (.int .u64 0))⟩] [2])
 (.seq (.seq (.reg [] [⟨none, .mv 3 (.t 0)⟩, ⟨none, .bin 4 .lss (.t 3) (.c (.int .i64 0))⟩, ⟨none, .mv 5 (.t 4)⟩, ⟨some (5, false), .mv 6 (.t 0)⟩, ⟨some (5, false), .bin 7 .geq (.t 6) (.c (.int .i64 64))⟩, ⟨none, .pick 8 (.t 5) (.c (.bool true)) (.t 7)⟩] [3, 4, 5, 6, 7])
 (.cond (.t 8) (.seq (.reg [] [⟨none, .mv 2 (.c (.int .u64 0))⟩] [])
 .ret)
 .skip))
 (.seq (.reg [] [⟨none, .mv 9 (.t 0)⟩, ⟨none, .bin 10 .shl (.c (.int .u64 1)) (.t 9)⟩, ⟨none, .mv 2 (.t 10)⟩] [0, 9, 10])
 .ret))), [.t 2]⟩
/- foliot/row.First -/
def k_row_First_L0b : K := (.seq (.seq (.reg [] [⟨none, .mv 7 (.t 4)⟩, ⟨none, .bin 8 .gtr (.t 7) (.c (.int .i64 0))⟩] [7])
 (.cond (.t 8) .skip
 (.ext 0)))
 (.seq (.blk 1 (.seq (.reg [] [⟨none, .mv 11 (.t 0)⟩, ⟨none, .mv 12 (.t 4)⟩, ⟨none, .bin 13 .sub (.c (.int .i64 64)) (.t 12)⟩, ⟨none, .bin 14 .shl (.t 11) (.t 13)⟩, ⟨none, .bin 15 .eql (.t 14) (.c (.int .u64 0))⟩] [11, 12, 13, 14])
 (.cond (.t 15) (.seq (.reg [] [⟨none, .mv 16 (.t 0)⟩, ⟨none, .mv 17 (.t 4)⟩, ⟨none, .bin 18 .shr (.t 16) (.t 17)⟩, ⟨none, .mv 0 (.t 18)⟩] [16, 17, 18])
 (.reg [] [⟨none, .mv 19 (.t 2)⟩, ⟨none, .mv 20 (.t 4)⟩, ⟨none, .bin 21 .add (.t 19) (.t 20)⟩, ⟨none, .mv 2 (.t 21)⟩] [19, 20, 21]))
 .skip)))
 (.reg [] [⟨none, .mv 9 (.t 4)⟩, ⟨none, .bin 10 .quo (.t 9) (.c (.int .i64 2))⟩, ⟨none, .mv 4 (.t 10)⟩] [9, 10])))
def k_row_First_L0 : K := k_row_First_L0b
def k_row_First : KF := ⟨(.seq (.reg [] [⟨none, .mv 2 (.c (.int .i64 0))⟩, ⟨none, .mv 3 (.c (.bool false))⟩] [3])
 (.seq (.seq (.reg [] [⟨none, .mv 5 (.t 0)⟩, ⟨none, .bin 6 .eql (.t 5) (.c (.int .u64 0))⟩] [5])
 (.cond (.t 6) (.seq (.reg [] [⟨none, .mv 2 (.c (.int .i64 0))⟩, ⟨none, .mv 3 (.c (.bool false))⟩] [])
 .ret)
 .skip))
 (.seq (.seq (.reg [] [⟨none, .mv 4 (.c (.int .i64 32))⟩] [])
 (.blk 0 (.loop [0, 2, 4] k_row_First_L0)))
 (.seq (.reg [] [⟨none, .mv 22 (.t 2)⟩, ⟨none, .mv 2 (.t 22)⟩, ⟨none, .mv 3 (.c (.bool true))⟩] [22])
 .ret)))), [.t 2, .t 3]⟩
/- foliot/row.Is -/
def k_row_Is : KF := ⟨(.seq (.reg [] [⟨none, .mv 4 (.c (.bool false))⟩] [4])
 (.seq (.reg [] [⟨none, .mv 5 (.t 0)⟩, ⟨none, .mv 6 (.t 1)⟩, ⟨none, .dat 7 f_row_bit [(.t 6)]⟩, ⟨none, .bin 8 .and (.t 5) (.t 7)⟩, ⟨none, .bin 9 .neq (.t 8) (.c (.int .u64 0))⟩, ⟨none, .mv 4 (.t 9)⟩] [0, 1, 5, 6, 7, 8, 9])
 .ret)), [.t 4]⟩
/- foliot/row.Count -/
def k_row_Count_L0b : K := (.seq (.seq (.reg [] [⟨none, .mv 8 (.t 0)⟩, ⟨none, .mv 9 (.t 3)⟩, ⟨none, .bin 10 .shr (.t 8) (.t 9)⟩, ⟨none, .bin 11 .eql (.t 10) (.c (.int .u64 0))⟩] [8, 9, 10])
 (.cond (.t 11) .skip
 (.ext 0)))
 (.blk 1 (.reg [] [⟨none, .mv 12 (.t 3)⟩, ⟨none, .bin 13 .quo (.t 12) (.c (.int .i64 2))⟩, ⟨none, .mv 3 (.t 13)⟩] [12, 13])))
def k_row_Count_L0 : K := k_row_Count_L0b
def k_row_Count : KF := ⟨(.seq (.reg [] [⟨none, .mv 2 (.c (.int .i64 0))⟩] [2])
 (.seq (.seq (.reg [] [⟨none, .mv 4 (.t 0)⟩, ⟨none, .bin 5 .leq (.t 4) (.c (.int .u64 1))⟩] [4])
 (.cond (.t 5) (.seq (.reg [] [⟨none, .mv 6 (.t 0)⟩, ⟨none, .cv 7 .i64 (.t 6)⟩, ⟨none, .mv 2 (.t 7)⟩] [0, 6, 7])
 .ret)
 .skip))
 (.seq (.reg [] [⟨none, .mv 3 (.c (.int .i64 32))⟩] [])
 (.seq (.blk 0 (.loop [0, 3] k_row_Count_L0))
 (.seq (.reg [] [⟨none, .mv 14 (.t 0)⟩, ⟨none, .mv 15 (.t 3)⟩, ⟨none, .bin 16 .shr (.t 14) (.t 15)⟩, ⟨none, .dat 17 f_row_Count [(.t 16)]⟩, ⟨none, .mv 18 (.t 0)⟩, ⟨none, .mv 19 (.t 3)⟩, ⟨none, .bin 20 .sub (.c (.int .i64 64)) (.t 19)⟩, ⟨none, .bin 21 .shl (.t 18) (.t 20)⟩, ⟨none, .mv 22 (.t 3)⟩, ⟨none, .bin 23 .sub (.c (.int .i64 64)) (.t 22)⟩, ⟨none, .bin 24 .shr (.t 21) (.t 23)⟩, ⟨none, .dat 25 f_row_Count [(.t 24)]⟩, ⟨none, .bin 26 .add (.t 17) (.t 25)⟩, ⟨none, .mv 2 (.t 26)⟩] [0, 3, 14, 15, 16, 17, 18, 19, 20, 21, 22, 23, 24, 25, 26])
 .ret))))), [.t 2]⟩
/- foliot/row.Clear -/
def k_row_Clear : KF := ⟨(.seq (.reg [] [⟨none, .mv 4 (.c (.int .u64 0))⟩] [4])
 (.seq (.reg [] [⟨none, .mv 5 (.t 0)⟩, ⟨none, .mv 6 (.t 1)⟩, ⟨none, .dat 7 f_row_bit [(.t 6)]⟩, ⟨none, .bin 8 .andNot (.t 5) (.t 7)⟩, ⟨none, .mv 4 (.t 8)⟩] [0, 1, 5, 6, 7, 8])
 .ret)), [.t 4]⟩
/- foliot/foliotref1.FirstBit -/
def k_ref1_FirstBit_L0b : K := (.seq (.seq (.reg [] [⟨none, .mv 5 (.t 4)⟩, ⟨none, .bin 6 .lss (.t 5) (.c (.int .i64 64))⟩] [5])
 (.cond (.t 6) .skip
 (.ext 0)))
 (.seq (.blk 1 (.seq (.reg [] [⟨none, .mv 9 (.t 0)⟩, ⟨none, .mv 10 (.t 4)⟩, ⟨none, .dat 11 f_ref1_IsBit [(.t 9), (.t 10)]⟩] [9, 10])
 (.cond (.t 11) (.seq (.reg [] [⟨none, .mv 12 (.t 4)⟩, ⟨none, .mv 2 (.t 12)⟩, ⟨none, .mv 3 (.c (.bool true))⟩] [4, 12])
 .ret)
 .skip)))
 (.reg [] [⟨none, .mv 7 (.t 4)⟩, ⟨none, .bin 8 .add (.t 7) (.c (.int .i64 1))⟩, ⟨none, .mv 4 (.t 8)⟩] [7, 8])))
def k_ref1_FirstBit_L0 : K := k_ref1_FirstBit_L0b
def k_ref1_FirstBit : KF := ⟨(.seq (.reg [] [⟨none, .mv 2 (.c (.int .i64 0))⟩, ⟨none, .mv 3 (.c (.bool false))⟩] [2, 3])
 (.seq (.seq (.reg [] [⟨none, .mv 4 (.c (.int .i64 0))⟩] [])
 (.blk 0 (.loop [0, 4] k_ref1_FirstBit_L0)))
 (.seq (.reg [] [⟨none, .mv 2 (.c (.int .i64 0))⟩, ⟨none, .mv 3 (.c (.bool false))⟩] [])
 .ret))), [.t 2, .t 3]⟩
/- foliot/foliotref1.IsBit -/
def k_ref1_IsBit : KF := ⟨(.seq (.reg [] [⟨none, .mv 4 (.c (.bool false))⟩] [4])
 (.seq (.reg [] [⟨none, .mv 5 (.t 1)⟩, ⟨none, .bin 6 .geq (.t 5) (.c (.int .i64 0))⟩, ⟨none, .mv 7 (.t 6)⟩, ⟨some (7, true), .mv 8 (.t 1)⟩, ⟨some (7, true), .bin 9 .leq (.t 8) (.c (.int .i64 63))⟩, ⟨none, .pick 10 (.t 7) (.t 9) (.c (.bool false))⟩, ⟨none, .mv 11 (.t 10)⟩, ⟨some (11, true), .mv 12 (.t 0)⟩, ⟨some (11, true), .mv 13 (.t 1)⟩, ⟨some (11, true), .dat 14 f_ref1_bit [(.t 13)]⟩, ⟨some (11, true), .bin 15 .quo (.t 12) (.t 14)⟩, ⟨some (11, true), .bin 16 .rem (.t 15) (.c (.int .u64 2))⟩, ⟨some (11, true), .bin 17 .eql (.t 16) (.c (.int .u64 1))⟩, ⟨none, .pick 18 (.t 11) (.t 17) (.c (.bool false))⟩, ⟨none, .mv 4 (.t 18)⟩] [0, 1, 5, 6, 7, 8, 9, 10, 11, 12, 13, 14, 15, 16, 17, 18])
 .ret)), [.t 4]⟩
/- foliot/foliotref1.bit -/
def k_ref1_bit_L0b : K := (.seq (.seq (.reg [] [⟨none, .mv 4 (.t 0)⟩, ⟨none, .bin 5 .gtr (.t 4) (.c (.int .i64 0))⟩] [4])
 (.cond (.t 5) .skip
 (.ext 0)))
 (.seq (.blk 1 (.reg [] [⟨none, .mv 8 (.t 3)⟩, ⟨none, .bin 9 .mul (.c (.int .u64 2)) (.t 8)⟩, ⟨none, .mv 3 (.t 9)⟩] [8, 9]))
 (.reg [] [⟨none, .mv 6 (.t 0)⟩, ⟨none, .bin 7 .sub (.t 6) (.c (.int .i64 1))⟩, ⟨none, .mv 0 (.t 7)⟩] [6, 7])))
def k_ref1_bit_L0 : K := k_ref1_bit_L0b
def k_ref1_bit : KF := ⟨(.seq (.reg [] [⟨none, .mv 2 (.c (.int .u64 0))⟩] [2])
 (.seq (.reg [] [⟨none, .mv 3 (.c (.int .u64 1))⟩] [])
 (.seq (.blk 0 (.loop [0, 3] k_ref1_bit_L0))
 (.seq (.reg [] [⟨none, .mv 10 (.t 3)⟩, ⟨none, .mv 2 (.t 10)⟩] [3, 10])
 .ret)))), [.t 2]⟩
/- foliot/foliotref1.SetBit -/
def k_ref1_SetBit : KF := ⟨(.seq (.reg [] [⟨none, .mv 4 (.c (.int .u64 0))⟩] [4])
 (.seq (.seq (.reg [] [⟨none, .mv 5 (.t 1)⟩, ⟨none, .bin 6 .lss (.t 5) (.c (.int .i64 0))⟩, ⟨none, .mv 7 (.t 6)⟩, ⟨some (7, false), .mv 8 (.t 1)⟩, ⟨some (7, false), .bin 9 .gtr (.t 8) (.c (.int .i64 63))⟩, ⟨none, .pick 10 (.t 7) (.c (.bool true)) (.t 9)⟩, ⟨none, .mv 11 (.t 10)⟩, ⟨some (11, false), .mv 12 (.t 0)⟩, ⟨some (11, false), .mv 13 (.t 1)⟩, ⟨some (11, false), .dat 14 f_ref1_IsBit [(.t 12), (.t 13)]⟩, ⟨none, .pick 15 (.t 11) (.c (.bool true)) (.t 14)⟩] [5, 6, 7, 8, 9, 10, 11, 12, 13, 14])
 (.cond (.t 15) (.seq (.reg [] [⟨none, .mv 16 (.t 0)⟩, ⟨none, .mv 4 (.t 16)⟩] [0, 16])
 .ret)
 .skip))
 (.seq (.reg [] [⟨none, .mv 17 (.t 0)⟩, ⟨none, .mv 18 (.t 1)⟩, ⟨none, .dat 19 f_ref1_bit [(.t 18)]⟩, ⟨none, .bin 20 .add (.t 17) (.t 19)⟩, ⟨none, .mv 4 (.t 20)⟩] [0, 1, 17, 18, 19, 20])
 .ret))), [.t 4]⟩
/- foliot/foliotref1.ClearBit -/
def k_ref1_ClearBit : KF := ⟨(.seq (.reg [] [⟨none, .mv 4 (.c (.int .u64 0))⟩] [4])
 (.seq (.seq (.reg [] [⟨none, .mv 5 (.t 0)⟩, ⟨none, .mv 6 (.t 1)⟩, ⟨none, .dat 7 f_ref1_IsBit [(.t 5), (.t 6)]⟩, ⟨none, .un 8 .not (.t 7)⟩] [5, 6, 7])
 (.cond (.t 8) (.seq (.reg [] [⟨none, .mv 9 (.t 0)⟩, ⟨none, .mv 4 (.t 9)⟩] [0, 9])
 .ret)
 .skip))
 (.seq (.reg [] [⟨none, .mv 10 (.t 0)⟩, ⟨none, .mv 11 (.t 1)⟩, ⟨none, .dat 12 f_ref1_bit [(.t 11)]⟩, ⟨none, .bin 13 .sub (.t 10) (.t 12)⟩, ⟨none, .mv 4 (.t 13)⟩] [0, 1, 10, 11, 12, 13])
 .ret))), [.t 4]⟩
/- foliot/foliotref1.Bits -/
def k_ref1_Bits_L0b : K := (.seq (.seq (.reg [] [⟨none, .mv 5 (.t 4)⟩, ⟨none, .bin 6 .lss (.t 5) (.c (.int .i64 64))⟩] [5])
 (.cond (.t 6) .skip
 (.ext 0)))
 (.seq (.blk 1 (.seq (.reg [] [⟨none, .mv 9 (.t 0)⟩, ⟨none, .mv 10 (.t 4)⟩, ⟨none, .dat 11 f_ref1_IsBit [(.t 9), (.t 10)]⟩] [9, 10])
 (.cond (.t 11) (.reg [] [⟨none, .mv 12 (.t 3)⟩, ⟨none, .bin 13 .add (.t 12) (.c (.int .i64 1))⟩, ⟨none, .mv 3 (.t 13)⟩] [12, 13])
 .skip)))
 (.reg [] [⟨none, .mv 7 (.t 4)⟩, ⟨none, .bin 8 .add (.t 7) (.c (.int .i64 1))⟩, ⟨none, .mv 4 (.t 8)⟩] [7, 8])))
def k_ref1_Bits_L0 : K := k_ref1_Bits_L0b
def k_ref1_Bits : KF := ⟨(.seq (.reg [] [⟨none, .mv 2 (.c (.int .i64 0))⟩] [2])
 (.seq (.reg [] [⟨none, .mv 3 (.c (.int .i64 0))⟩] [])
 (.seq (.seq (.reg [] [⟨none, .mv 4 (.c (.int .i64 0))⟩] [])
 (.blk 0 (.loop [0, 3, 4] k_ref1_Bits_L0)))
 (.seq (.reg [] [⟨none, .mv 14 (.t 3)⟩, ⟨none, .mv 2 (.t 14)⟩] [3, 14])
 .ret)))), [.t 2]⟩
/- foliot/foliotlaw3.RowFirst -/
def k_law3_RowFirst_L1b : K := (.seq (.seq (.reg [] [⟨none, .mv 45 (.t 8)⟩, ⟨none, .mv 46 (.t 6)⟩, ⟨none, .bin 47 .lss (.t 45) (.t 46)⟩] [45, 46])
 (.cond (.t 47) .skip
 (.ext 2)))
 (.seq (.blk 3 (.seq (.reg [] [⟨none, .mv 50 (.t 0)⟩, ⟨none, .mv 51 (.t 8)⟩, ⟨none, .dat 52 f_row_Is [(.t 50), (.t 51)]⟩] [50, 51])
 (.cond (.t 52) (.seq (.reg [] [⟨none, .mv 2 (.c (.bool false))⟩] [])
 .ret)
 .skip)))
 (.reg [] [⟨none, .mv 48 (.t 8)⟩, ⟨none, .bin 49 .add (.t 48) (.c (.int .i64 1))⟩, ⟨none, .mv 8 (.t 49)⟩] [48, 49])))
def k_law3_RowFirst_L1 : K := k_law3_RowFirst_L1b
def k_law3_RowFirst_L0b : K := (.seq (.seq (.reg [] [⟨none, .mv 13 (.t 5)⟩, ⟨none, .bin 14 .neq (.t 13) (.c (.int .u64 0))⟩, ⟨none, .mv 15 (.t 14)⟩, ⟨some (15, true), .mv 16 (.t 3)⟩, ⟨some (15, true), .bin 17 .leq (.t 16) (.c (.int .i64 64))⟩, ⟨none, .pick 18 (.t 15) (.t 17) (.c (.bool false))⟩] [13, 14, 15, 16, 17])
 (.cond (.t 18) .skip
 (.ext 0)))
 (.seq (.blk 1 (.seq (.reg [] [⟨none, .mv 22 (.t 5)⟩, ⟨none, .dat 23 f_row_First [(.t 22)]⟩, ⟨none, .mv 21 (.t 23)⟩, ⟨none, .ex 24 (.t 21) 0⟩, ⟨none, .ex 25 (.t 21) 1⟩, ⟨none, .mv 6 (.t 24)⟩, ⟨none, .mv 7 (.t 25)⟩] [21, 22, 23, 24, 25])
 (.seq (.seq (.reg [] [⟨none, .mv 26 (.t 7)⟩, ⟨none, .un 27 .not (.t 26)⟩, ⟨none, .mv 28 (.t 27)⟩, ⟨some (28, false), .mv 29 (.t 6)⟩, ⟨some (28, false), .mv 30 (.t 4)⟩, ⟨some (28, false), .bin 31 .leq (.t 29) (.t 30)⟩, ⟨none, .pick 32 (.t 28) (.c (.bool true)) (.t 31)⟩, ⟨none, .mv 33 (.t 32)⟩, ⟨some (33, false), .mv 34 (.t 6)⟩, ⟨some (33, false), .bin 35 .gtr (.t 34) (.c (.int .i64 63))⟩, ⟨none, .pick 36 (.t 33) (.c (.bool true)) (.t 35)⟩, ⟨none, .mv 37 (.t 36)⟩, ⟨some (37, false), .mv 38 (.t 0)⟩, ⟨some (37, false), .mv 39 (.t 6)⟩, ⟨some (37, false), .dat 40 f_row_Is [(.t 38), (.t 39)]⟩, ⟨some (37, false), .un 41 .not (.t 40)⟩, ⟨none, .pick 42 (.t 37) (.c (.bool true)) (.t 41)⟩] [7, 26, 27, 28, 29, 30, 31, 32, 33, 34, 35, 36, 37, 38, 39, 40, 41])
 (.cond (.t 42) (.seq (.reg [] [⟨none, .mv 2 (.c (.bool false))⟩] [])
 .ret)
 .skip))
 (.seq (.seq (.reg [] [⟨none, .mv 43 (.t 4)⟩, ⟨none, .bin 44 .add (.t 43) (.c (.int .i64 1))⟩, ⟨none, .mv 8 (.t 44)⟩] [4, 43, 44])
 (.blk 2 (.loop [0, 3, 5, 6, 8] k_law3_RowFirst_L1)))
 (.seq (.reg [] [⟨none, .mv 53 (.t 5)⟩, ⟨none, .mv 54 (.t 6)⟩, ⟨none, .dat 55 f_row_Clear [(.t 53), (.t 54)]⟩, ⟨none, .mv 9 (.t 55)⟩] [53, 54, 55])
 (.seq (.seq (.reg [] [⟨none, .mv 56 (.t 9)⟩, ⟨none, .mv 57 (.t 6)⟩, ⟨none, .dat 58 f_row_Set [(.t 56), (.t 57)]⟩, ⟨none, .mv 59 (.t 5)⟩, ⟨none, .bin 60 .neq (.t 58) (.t 59)⟩, ⟨none, .mv 61 (.t 60)⟩, ⟨some (61, false), .mv 62 (.t 9)⟩, ⟨some (61, false), .mv 63 (.t 5)⟩, ⟨some (61, false), .bin 64 .geq (.t 62) (.t 63)⟩, ⟨none, .pick 65 (.t 61) (.c (.bool true)) (.t 64)⟩] [5, 56, 57, 58, 59, 60, 61, 62, 63, 64])
 (.cond (.t 65) (.seq (.reg [] [⟨none, .mv 2 (.c (.bool false))⟩] [])
 .ret)
 .skip))
 (.reg [] [⟨none, .mv 66 (.t 9)⟩, ⟨none, .mv 67 (.t 6)⟩, ⟨none, .mv 5 (.t 66)⟩, ⟨none, .mv 4 (.t 67)⟩] [6, 9, 66, 67])))))))
 (.reg [] [⟨none, .mv 19 (.t 3)⟩, ⟨none, .bin 20 .add (.t 19) (.c (.int .i64 1))⟩, ⟨none, .mv 3 (.t 20)⟩] [19, 20])))
def k_law3_RowFirst_L0 : K := k_law3_RowFirst_L0b
def k_law3_RowFirst : KF := ⟨(.seq (.reg [] [⟨none, .mv 2 (.c (.bool false))⟩] [2])
 (.seq (.seq (.reg [] [⟨none, .dat 10 f_law3_begun []⟩, ⟨none, .un 11 .not (.t 10)⟩] [10])
 (.cond (.t 11) (.seq (.reg [] [⟨none, .mv 2 (.c (.bool false))⟩] [])
 .ret)
 .skip))
 (.seq (.reg [] [⟨none, .mv 3 (.c (.int .i64 0))⟩, ⟨none, .mv 4 (.c (.int .i64 (-1)))⟩] [])
 (.seq (.seq (.reg [] [⟨none, .mv 12 (.t 0)⟩, ⟨none, .mv 5 (.t 12)⟩] [12])
 (.blk 0 (.loop [0, 3, 4, 5] k_law3_RowFirst_L0)))
 (.seq (.reg [] [⟨none, .mv 68 (.t 3)⟩, ⟨none, .mv 69 (.t 0)⟩, ⟨none, .dat 70 f_row_Count [(.t 69)]⟩, ⟨none, .bin 71 .eql (.t 68) (.t 70)⟩, ⟨none, .mv 2 (.t 71)⟩] [0, 3, 68, 69, 70, 71])
 .ret))))), [.t 2]⟩
/- foliot/foliotlaw3.RowSets -/
def k_law3_RowSets : KF := ⟨(.seq (.reg [] [⟨none, .mv 6 (.c (.bool false))⟩] [6])
 (.seq (.seq (.reg [] [⟨none, .dat 11 f_law3_begun []⟩, ⟨none, .un 12 .not (.t 11)⟩] [11])
 (.cond (.t 12) (.seq (.reg [] [⟨none, .mv 6 (.c (.bool false))⟩] [])
 .ret)
 .skip))
 (.seq (.reg [] [⟨none, .mv 13 (.t 1)⟩, ⟨none, .bin 14 .rem (.t 13) (.c (.int .u8 64))⟩, ⟨none, .cv 15 .i64 (.t 14)⟩, ⟨none, .mv 16 (.t 2)⟩, ⟨none, .bin 17 .rem (.t 16) (.c (.int .u8 64))⟩, ⟨none, .cv 18 .i64 (.t 17)⟩, ⟨none, .mv 7 (.t 15)⟩, ⟨none, .mv 8 (.t 18)⟩] [1, 2, 13, 14, 15, 16, 17, 18])
 (.seq (.reg [] [⟨none, .mv 19 (.t 0)⟩, ⟨none, .mv 20 (.t 7)⟩, ⟨none, .dat 21 f_row_Set [(.t 19), (.t 20)]⟩, ⟨none, .mv 22 (.t 0)⟩, ⟨none, .mv 23 (.t 7)⟩, ⟨none, .dat 24 f_row_Clear [(.t 22), (.t 23)]⟩, ⟨none, .mv 9 (.t 21)⟩, ⟨none, .mv 10 (.t 24)⟩] [19, 20, 21, 22, 23, 24])
 (.seq (.reg [] [⟨none, .mv 25 (.t 9)⟩, ⟨none, .mv 26 (.t 7)⟩, ⟨none, .dat 27 f_row_Is [(.t 25), (.t 26)]⟩, ⟨none, .mv 28 (.t 27)⟩, ⟨some (28, true), .mv 29 (.t 10)⟩, ⟨some (28, true), .mv 30 (.t 7)⟩, ⟨some (28, true), .dat 31 f_row_Is [(.t 29), (.t 30)]⟩, ⟨some (28, true), .un 32 .not (.t 31)⟩, ⟨none, .pick 33 (.t 28) (.t 32) (.c (.bool false))⟩, ⟨none, .mv 34 (.t 33)⟩, ⟨some (34, true), .mv 35 (.t 7)⟩, ⟨some (34, true), .mv 36 (.t 8)⟩, ⟨some (34, true), .bin 37 .eql (.t 35) (.t 36)⟩, ⟨some (34, true), .mv 38 (.t 37)⟩, ⟨some (38, false), .mv 39 (.t 9)⟩, ⟨some (38, false), .mv 40 (.t 8)⟩, ⟨some (38, false), .dat 41 f_row_Is [(.t 39), (.t 40)]⟩, ⟨some (38, false), .mv 42 (.t 0)⟩, ⟨some (38, false), .mv 43 (.t 8)⟩, ⟨some (38, false), .dat 44 f_row_Is [(.t 42), (.t 43)]⟩, ⟨some (38, false), .bin 45 .eql (.t 41) (.t 44)⟩, ⟨some (38, false), .mv 46 (.t 45)⟩, ⟨some (46, true), .mv 47 (.t 10)⟩, ⟨some (46, true), .mv 48 (.t 8)⟩, ⟨some (46, true), .dat 49 f_row_Is [(.t 47), (.t 48)]⟩, ⟨some (46, true), .mv 50 (.t 0)⟩, ⟨some (46, true), .mv 51 (.t 8)⟩, ⟨some (46, true), .dat 52 f_row_Is [(.t 50), (.t 51)]⟩, ⟨some (46, true), .bin 53 .eql (.t 49) (.t 52)⟩, ⟨some (38, false), .pick 54 (.t 46) (.t 53) (.c (.bool false))⟩, ⟨some (34, true), .pick 55 (.t 38) (.c (.bool true)) (.t 54)⟩, ⟨none, .pick 56 (.t 34) (.t 55) (.c (.bool false))⟩, ⟨none, .mv 57 (.t 56)⟩, ⟨some (57, true), .mv 58 (.t 9)⟩, ⟨some (57, true), .dat 59 f_row_Count [(.t 58)]⟩, ⟨some (57, true), .mv 60 (.t 10)⟩, ⟨some (57, true), .dat 61 f_row_Count [(.t 60)]⟩, ⟨some (57, true), .bin 62 .add (.t 61) (.c (.int .i64 1))⟩, ⟨some (57, true), .bin 63 .eql (.t 59) (.t 62)⟩, ⟨none, .pick 64 (.t 57) (.t 63) (.c (.bool false))⟩, ⟨none, .mv 65 (.t 64)⟩, ⟨some (65, true), .mv 66 (.t 10)⟩, ⟨some (65, true), .mv 67 (.t 7)⟩, ⟨some (65, true), .dat 68 f_row_Set [(.t 66), (.t 67)]⟩, ⟨some (65, true), .mv 69 (.t 9)⟩, ⟨some (65, true), .bin 70 .eql (.t 68) (.t 69)⟩, ⟨none, .pick 71 (.t 65) (.t 70) (.c (.bool false))⟩, ⟨none, .mv 72 (.t 71)⟩, ⟨some (72, true), .mv 73 (.t 9)⟩, ⟨some (72, true), .mv 74 (.t 7)⟩, ⟨some (72, true), .dat 75 f_row_Clear [(.t 73), (.t 74)]⟩, ⟨some (72, true), .mv 76 (.t 10)⟩, ⟨some (72, true), .bin 77 .eql (.t 75) (.t 76)⟩, ⟨none, .pick 78 (.t 72) (.t 77) (.c (.bool false))⟩, ⟨none, .mv 79 (.t 78)⟩, ⟨some (79, true), .mv 80 (.t 0)⟩, ⟨some (79, true), .dat 81 f_row_Set [(.t 80), (.c (.int .i64 64))]⟩, ⟨some (79, true), .mv 82 (.t 0)⟩, ⟨some (79, true), .bin 83 .eql (.t 81) (.t 82)⟩, ⟨none, .pick 84 (.t 79) (.t 83) (.c (.bool false))⟩, ⟨none, .mv 85 (.t 84)⟩, ⟨some (85, true), .mv 86 (.t 0)⟩, ⟨some (85, true), .dat 87 f_row_Clear [(.t 86), (.c (.int .i64 (-1)))]⟩, ⟨some (85, true), .mv 88 (.t 0)⟩, ⟨some (85, true), .bin 89 .eql (.t 87) (.t 88)⟩, ⟨none, .pick 90 (.t 85) (.t 89) (.c (.bool false))⟩, ⟨none, .mv 91 (.t 90)⟩, ⟨some (91, true), .mv 92 (.t 0)⟩, ⟨some (91, true), .dat 93 f_row_Is [(.t 92), (.c (.int .i64 64))]⟩, ⟨some (91, true), .un 94 .not (.t 93)⟩, ⟨none, .pick 95 (.t 91) (.t 94) (.c (.bool false))⟩, ⟨none, .mv 96 (.t 95)⟩, ⟨some (96, true), .mv 97 (.t 0)⟩, ⟨some (96, true), .dat 98 f_row_Is [(.t 97), (.c (.int .i64 (-1)))]⟩, ⟨some (96, true), .un 99 .not (.t 98)⟩, ⟨none, .pick 100 (.t 96) (.t 99) (.c (.bool false))⟩, ⟨none, .mv 6 (.t 100)⟩] [0, 7, 8, 9, 10, 25, 26, 27, 28, 29, 30, 31, 32, 33, 34, 35, 36, 37, 38, 39, 40, 41, 42, 43, 44, 45, 46, 47, 48, 49, 50, 51, 52, 53, 54, 55, 56, 57, 58, 59, 60, 61, 62, 63, 64, 65, 66, 67, 68, 69, 70, 71, 72, 73, 74, 75, 76, 77, 78, 79, 80, 81, 82, 83, 84, 85, 86, 87, 88, 89, 90, 91, 92, 93, 94, 95, 96, 97, 98, 99, 100])
 .ret))))), [.t 6]⟩
/- foliot/foliotlaw3.RowForms -/
def k_law3_RowForms_L0b : K := (.seq (.seq (.reg [] [⟨none, .mv 9 (.t 1)⟩, ⟨none, .bin 10 .lss (.t 9) (.c (.int .i64 64))⟩] [9])
 (.cond (.t 10) .skip
 (.ext 0)))
 (.seq (.blk 1 (.seq (.reg [] [⟨none, .mv 13 (.t 1)⟩, ⟨none, .dat 14 f_row_Set [(.c (.int .u64 0)), (.t 13)]⟩, ⟨none, .mv 2 (.t 14)⟩] [13, 14])
 (.seq (.reg [] [⟨none, .mv 16 (.t 2)⟩, ⟨none, .dat 17 f_row_First [(.t 16)]⟩, ⟨none, .mv 15 (.t 17)⟩, ⟨none, .ex 18 (.t 15) 0⟩, ⟨none, .ex 19 (.t 15) 1⟩, ⟨none, .mv 3 (.t 18)⟩, ⟨none, .mv 4 (.t 19)⟩] [15, 16, 17, 18, 19])
 (.seq (.reg [] [⟨none, .mv 20 (.t 4)⟩, ⟨none, .un 21 .not (.t 20)⟩, ⟨none, .mv 22 (.t 21)⟩, ⟨some (22, false), .mv 23 (.t 3)⟩, ⟨some (22, false), .mv 24 (.t 1)⟩, ⟨some (22, false), .bin 25 .neq (.t 23) (.t 24)⟩, ⟨none, .pick 26 (.t 22) (.c (.bool true)) (.t 25)⟩, ⟨none, .mv 27 (.t 26)⟩, ⟨some (27, false), .mv 28 (.t 2)⟩, ⟨some (27, false), .dat 29 f_row_Count [(.t 28)]⟩, ⟨some (27, false), .bin 30 .neq (.t 29) (.c (.int .i64 1))⟩, ⟨none, .pick 31 (.t 27) (.c (.bool true)) (.t 30)⟩, ⟨none, .mv 32 (.t 31)⟩, ⟨some (32, false), .mv 33 (.t 2)⟩, ⟨some (32, false), .mv 34 (.t 1)⟩, ⟨some (32, false), .dat 35 f_row_Clear [(.t 33), (.t 34)]⟩, ⟨some (32, false), .bin 36 .neq (.t 35) (.c (.int .u64 0))⟩, ⟨none, .pick 37 (.t 32) (.c (.bool true)) (.t 36)⟩, ⟨none, .mv 38 (.t 37)⟩, ⟨some (38, false), .mv 39 (.t 2)⟩, ⟨some (38, false), .mv 40 (.t 1)⟩, ⟨some (38, false), .bin 41 .shl (.c (.int .u64 1)) (.t 40)⟩, ⟨some (38, false), .bin 42 .neq (.t 39) (.t 41)⟩, ⟨none, .pick 43 (.t 38) (.c (.bool true)) (.t 42)⟩] [2, 3, 4, 20, 21, 22, 23, 24, 25, 26, 27, 28, 29, 30, 31, 32, 33, 34, 35, 36, 37, 38, 39, 40, 41, 42])
 (.cond (.t 43) (.seq (.reg [] [⟨none, .mv 0 (.c (.bool false))⟩] [])
 .ret)
 .skip)))))
 (.reg [] [⟨none, .mv 11 (.t 1)⟩, ⟨none, .bin 12 .add (.t 11) (.c (.int .i64 1))⟩, ⟨none, .mv 1 (.t 12)⟩] [11, 12])))
def k_law3_RowForms_L0 : K := k_law3_RowForms_L0b
def k_law3_RowForms : KF := ⟨(.seq (.reg [] [⟨none, .mv 0 (.c (.bool false))⟩] [0])
 (.seq (.seq (.reg [] [⟨none, .dat 7 f_law3_begun []⟩, ⟨none, .un 8 .not (.t 7)⟩] [7])
 (.cond (.t 8) (.seq (.reg [] [⟨none, .mv 0 (.c (.bool false))⟩] [])
 .ret)
 .skip))
 (.seq (.seq (.reg [] [⟨none, .mv 1 (.c (.int .i64 0))⟩] [])
 (.blk 0 (.loop [1] k_law3_RowForms_L0)))
 (.seq (.reg [] [⟨none, .dat 45 f_row_First [(.c (.int .u64 18446744073709551615))]⟩, ⟨none, .mv 44 (.t 45)⟩, ⟨none, .ex 46 (.t 44) 0⟩, ⟨none, .ex 47 (.t 44) 1⟩, ⟨none, .mv 5 (.t 46)⟩, ⟨none, .mv 6 (.t 47)⟩] [44, 45, 46, 47])
 (.seq (.reg [] [⟨none, .mv 48 (.t 6)⟩, ⟨none, .mv 49 (.t 48)⟩, ⟨some (49, true), .mv 50 (.t 5)⟩, ⟨some (49, true), .bin 51 .eql (.t 50) (.c (.int .i64 0))⟩, ⟨none, .pick 52 (.t 49) (.t 51) (.c (.bool false))⟩, ⟨none, .mv 53 (.t 52)⟩, ⟨some (53, true), .dat 54 f_row_Count [(.c (.int .u64 18446744073709551615))]⟩, ⟨some (53, true), .bin 55 .eql (.t 54) (.c (.int .i64 64))⟩, ⟨none, .pick 56 (.t 53) (.t 55) (.c (.bool false))⟩, ⟨none, .mv 57 (.t 56)⟩, ⟨some (57, true), .dat 58 f_row_Count [(.c (.int .u64 0))]⟩, ⟨some (57, true), .bin 59 .eql (.t 58) (.c (.int .i64 0))⟩, ⟨none, .pick 60 (.t 57) (.t 59) (.c (.bool false))⟩, ⟨none, .mv 61 (.t 60)⟩, ⟨some (61, true), .dat 62 f_row_Set [(.c (.int .u64 5)), (.c (.int .i64 1099511627776))]⟩, ⟨some (61, true), .bin 63 .eql (.t 62) (.c (.int .u64 5))⟩, ⟨none, .pick 64 (.t 61) (.t 63) (.c (.bool false))⟩, ⟨none, .mv 65 (.t 64)⟩, ⟨some (65, true), .dat 66 f_row_Clear [(.c (.int .u64 5)), (.c (.int .i64 (-1099511627776)))]⟩, ⟨some (65, true), .bin 67 .eql (.t 66) (.c (.int .u64 5))⟩, ⟨none, .pick 68 (.t 65) (.t 67) (.c (.bool false))⟩, ⟨none, .mv 0 (.t 68)⟩] [5, 6, 48, 49, 50, 51, 52, 53, 54, 55, 56, 57, 58, 59, 60, 61, 62, 63, 64, 65, 66, 67, 68])
 .ret))))), [.t 0]⟩
def kl : List (Nat × KF) := [(3, k_law10_SealAll), (15, k_law10_begun), (16, k_seal_Sum), (17, k_ref1_Sum), (4, k_law10_SealTurned), (5, k_law10_SealForms), (6, k_law10_SealRow), (7, k_law20_BandAll), (18, k_law20_begun), (19, k_band_Base), (21, k_band_Of), (34, k_sema_Low), (38, k_sema_holds), (39, k_sema_has), (20, k_ref19_Base), (22, k_ref19_Band), (35, k_ref11_Low), (8, k_law20_BandThree), (9, k_law20_BandLow), (10, k_law20_BandForms), (11, k_law3_RowAll), (23, k_law3_begun), (26, k_row_Set), (36, k_row_bit), (24, k_row_First), (30, k_row_Is), (32, k_row_Count), (28, k_row_Clear), (25, k_ref1_FirstBit), (31, k_ref1_IsBit), (37, k_ref1_bit), (27, k_ref1_SetBit), (29, k_ref1_ClearBit), (33, k_ref1_Bits), (12, k_law3_RowFirst), (13, k_law3_RowSets), (14, k_law3_RowForms)]
def kp : Nat → Option KF := fun n => List.lookup n kl
theorem kp_law10_SealAll : kp f_law10_SealAll = some k_law10_SealAll := rfl
theorem kp_law10_begun : kp f_law10_begun = some k_law10_begun := rfl
theorem kp_seal_Sum : kp f_seal_Sum = some k_seal_Sum := rfl
theorem kp_ref1_Sum : kp f_ref1_Sum = some k_ref1_Sum := rfl
theorem kp_law10_SealTurned : kp f_law10_SealTurned = some k_law10_SealTurned := rfl
theorem kp_law10_SealForms : kp f_law10_SealForms = some k_law10_SealForms := rfl
theorem kp_law10_SealRow : kp f_law10_SealRow = some k_law10_SealRow := rfl
theorem kp_law20_BandAll : kp f_law20_BandAll = some k_law20_BandAll := rfl
theorem kp_law20_begun : kp f_law20_begun = some k_law20_begun := rfl
theorem kp_band_Base : kp f_band_Base = some k_band_Base := rfl
theorem kp_band_Of : kp f_band_Of = some k_band_Of := rfl
theorem kp_sema_Low : kp f_sema_Low = some k_sema_Low := rfl
theorem kp_sema_holds : kp f_sema_holds = some k_sema_holds := rfl
theorem kp_sema_has : kp f_sema_has = some k_sema_has := rfl
theorem kp_ref19_Base : kp f_ref19_Base = some k_ref19_Base := rfl
theorem kp_ref19_Band : kp f_ref19_Band = some k_ref19_Band := rfl
theorem kp_ref11_Low : kp f_ref11_Low = some k_ref11_Low := rfl
theorem kp_law20_BandThree : kp f_law20_BandThree = some k_law20_BandThree := rfl
theorem kp_law20_BandLow : kp f_law20_BandLow = some k_law20_BandLow := rfl
theorem kp_law20_BandForms : kp f_law20_BandForms = some k_law20_BandForms := rfl
theorem kp_law3_RowAll : kp f_law3_RowAll = some k_law3_RowAll := rfl
theorem kp_law3_begun : kp f_law3_begun = some k_law3_begun := rfl
theorem kp_row_Set : kp f_row_Set = some k_row_Set := rfl
theorem kp_row_bit : kp f_row_bit = some k_row_bit := rfl
theorem kp_row_First : kp f_row_First = some k_row_First := rfl
theorem kp_row_Is : kp f_row_Is = some k_row_Is := rfl
theorem kp_row_Count : kp f_row_Count = some k_row_Count := rfl
theorem kp_row_Clear : kp f_row_Clear = some k_row_Clear := rfl
theorem kp_ref1_FirstBit : kp f_ref1_FirstBit = some k_ref1_FirstBit := rfl
theorem kp_ref1_IsBit : kp f_ref1_IsBit = some k_ref1_IsBit := rfl
theorem kp_ref1_bit : kp f_ref1_bit = some k_ref1_bit := rfl
theorem kp_ref1_SetBit : kp f_ref1_SetBit = some k_ref1_SetBit := rfl
theorem kp_ref1_ClearBit : kp f_ref1_ClearBit = some k_ref1_ClearBit := rfl
theorem kp_ref1_Bits : kp f_ref1_Bits = some k_ref1_Bits := rfl
theorem kp_law3_RowFirst : kp f_law3_RowFirst = some k_law3_RowFirst := rfl
theorem kp_law3_RowSets : kp f_law3_RowSets = some k_law3_RowSets := rfl
theorem kp_law3_RowForms : kp f_law3_RowForms = some k_law3_RowForms := rfl
theorem c_seal_Sum_L0 (s : St) : run kp (.code k_seal_Sum_L0 s) = run kp (.code k_seal_Sum_L0b s) := rfl
theorem c_seal_Sum_L1 (s : St) : run kp (.code k_seal_Sum_L1 s) = run kp (.code k_seal_Sum_L1b s) := rfl
theorem c_ref1_Sum_L0 (s : St) : run kp (.code k_ref1_Sum_L0 s) = run kp (.code k_ref1_Sum_L0b s) := rfl
theorem c_ref1_Sum_L1 (s : St) : run kp (.code k_ref1_Sum_L1 s) = run kp (.code k_ref1_Sum_L1b s) := rfl
theorem c_law10_SealRow_L0 (s : St) : run kp (.code k_law10_SealRow_L0 s) = run kp (.code k_law10_SealRow_L0b s) := rfl
theorem c_law20_BandAll_L0 (s : St) : run kp (.code k_law20_BandAll_L0 s) = run kp (.code k_law20_BandAll_L0b s) := rfl
theorem c_sema_Low_L0 (s : St) : run kp (.code k_sema_Low_L0 s) = run kp (.code k_sema_Low_L0b s) := rfl
theorem c_ref11_Low_L0 (s : St) : run kp (.code k_ref11_Low_L0 s) = run kp (.code k_ref11_Low_L0b s) := rfl
theorem c_law20_BandLow_L0 (s : St) : run kp (.code k_law20_BandLow_L0 s) = run kp (.code k_law20_BandLow_L0b s) := rfl
theorem c_law20_BandLow_L1 (s : St) : run kp (.code k_law20_BandLow_L1 s) = run kp (.code k_law20_BandLow_L1b s) := rfl
theorem c_law20_BandLow_L2 (s : St) : run kp (.code k_law20_BandLow_L2 s) = run kp (.code k_law20_BandLow_L2b s) := rfl
theorem c_law20_BandForms_L0 (s : St) : run kp (.code k_law20_BandForms_L0 s) = run kp (.code k_law20_BandForms_L0b s) := rfl
theorem c_row_First_L0 (s : St) : run kp (.code k_row_First_L0 s) = run kp (.code k_row_First_L0b s) := rfl
theorem c_row_Count_L0 (s : St) : run kp (.code k_row_Count_L0 s) = run kp (.code k_row_Count_L0b s) := rfl
theorem c_ref1_FirstBit_L0 (s : St) : run kp (.code k_ref1_FirstBit_L0 s) = run kp (.code k_ref1_FirstBit_L0b s) := rfl
theorem c_ref1_bit_L0 (s : St) : run kp (.code k_ref1_bit_L0 s) = run kp (.code k_ref1_bit_L0b s) := rfl
theorem c_ref1_Bits_L0 (s : St) : run kp (.code k_ref1_Bits_L0 s) = run kp (.code k_ref1_Bits_L0b s) := rfl
theorem c_law3_RowFirst_L0 (s : St) : run kp (.code k_law3_RowFirst_L0 s) = run kp (.code k_law3_RowFirst_L0b s) := rfl
theorem c_law3_RowFirst_L1 (s : St) : run kp (.code k_law3_RowFirst_L1 s) = run kp (.code k_law3_RowFirst_L1b s) := rfl
theorem c_law3_RowForms_L0 (s : St) : run kp (.code k_law3_RowForms_L0 s) = run kp (.code k_law3_RowForms_L0b s) := rfl
end Go.Cd
