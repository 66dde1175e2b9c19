/- The functions of this seat, as the abstract machine has them; each is what its translation out of the program gives. Made by program. -/
import Derived.Test.YtkmbepgofajfkaaDoorAgLv
import Derived.Test.YtkmbepgofajfkaaDoorAgShelf
namespace Go.Proofs.YtkmbepgofajfkaaDoor
open AG
noncomputable section
set_option maxRecDepth 100000
set_option maxHeartbeats 4000000
def h8 : Hints := ⟨[3], [(0, [0, 1, 2], []), (1, [1, 2, 3], [3]), (2, [], []), (3, [1, 2, 3], [3]), (4, [1, 2, 3], [3]), (5, [1, 3], [3]), (6, [1, 2, 3], [3]), (7, [1, 2, 3], [3]), (8, [1, 2, 3, 7], [3]), (9, [2, 7], []), (10, [1, 2, 3, 7], [3]), (11, [1, 2, 3, 7, 8], [3]), (12, [1, 2, 3, 7, 8, 9], [3]), (14, [1, 2, 3, 7, 8, 9], [3]), (15, [1, 2, 3, 7, 8, 9, 10], [3]), (16, [], []), (17, [1, 2, 3, 7, 8, 9, 10], [3]), (18, [1, 2, 3, 7, 8, 9, 10, 11], [3]), (20, [1, 2, 3, 7, 8, 9, 10, 11], [3]), (21, [1, 2, 3, 7, 8, 9, 10, 11, 12], [3]), (22, [1, 2, 3, 7, 8, 9, 10, 11, 12, 13], [3]), (23, [1, 2, 3, 7, 8, 9, 10, 11, 12, 13, 14], [3]), (25, [1, 2, 3, 7, 8, 9, 10, 11, 12, 13, 14], [3]), (24, [1, 2, 3, 7, 8, 9, 10, 11, 12, 13, 14], [3]), (26, [1, 2, 3, 7, 8, 9, 10, 11, 12], [3]), (27, [], []), (19, [1, 2, 3, 7, 8, 9, 10, 11], [3]), (28, [1, 2, 3, 7, 8, 9, 10], [3]), (29, [1, 2, 3, 7, 8, 9, 10], [3]), (30, [1, 2, 3, 7, 8, 9, 10], [3]), (31, [], []), (13, [1, 2, 3, 7, 8, 9], [3]), (32, [7, 8], [])], []⟩
def a8_R1 : AC := .keep [1, 2, 3] [3] (.reg [⟨(some 19), .load (some 8) (.tmp 3), none⟩, ⟨(some 20), .call 13 [(.tmp 19), (.val (.int .i64 30))], none⟩, ⟨(some 21), .un .not (.tmp 20), none⟩, ⟨(some 22), .mov (.tmp 21), none⟩, ⟨(some 23), .load (some 8) (.tmp 3), (some (22, false))⟩, ⟨(some 24), .call 37 [(.tmp 23)], (some (22, false))⟩, ⟨(some 25), .bin .neq (.tmp 24) (.val (.int .i64 0)), (some (22, false))⟩, ⟨(some 26), .pick (.tmp 22) (.val (.bool true)) (.tmp 25), none⟩])
def a8_R2 : AC := .keep [2, 7] [] (.reg [⟨(some 48), .mov (.tmp 2), none⟩, ⟨(some 49), .bin .eql (.tmp 48) (.val (.int .i64 0)), none⟩, ⟨(some 50), .mov (.tmp 49), none⟩, ⟨(some 51), .mov (.tmp 7), (some (50, true))⟩, ⟨(some 52), .lenL (.tmp 51), (some (50, true))⟩, ⟨(some 53), .bin .eql (.tmp 52) (.val (.int .i64 0)), (some (50, true))⟩, ⟨(some 54), .pick (.tmp 50) (.tmp 53) (.val (.bool false)), none⟩, ⟨(some 6), .mov (.tmp 54), none⟩])
def a8_R3 : AC := .keep [1, 2, 3, 7, 8, 9, 10] [3] (.dreg [(false, ⟨(some 65), .mov (.tmp 10), none⟩, false), (false, ⟨(some 66), .lenL (.tmp 65), none⟩, false), (false, ⟨(some 67), .bin .eql (.tmp 66) (.val (.int .i64 0)), none⟩, false), (false, ⟨(some 68), .mov (.tmp 67), none⟩, false), (false, ⟨(some 69), .mov (.tmp 10), (some (68, false))⟩, false), (false, ⟨(some 70), .lenL (.tmp 69), (some (68, false))⟩, false), (false, ⟨(some 71), .mov (.tmp 2), (some (68, false))⟩, false), (false, ⟨(some 72), .bin .gtr (.tmp 70) (.tmp 71), (some (68, false))⟩, false), (false, ⟨(some 73), .pick (.tmp 68) (.val (.bool true)) (.tmp 72), none⟩, false), (false, ⟨(some 74), .mov (.tmp 73), none⟩, false), (false, ⟨(some 75), .mov (.tmp 10), (some (74, false))⟩, false), (false, ⟨(some 76), .iaddrL 1 (.tmp 75) (.val (.int .i64 0)), (some (74, false))⟩, false), (false, ⟨(some 77), .load none (.tmp 76), (some (74, false))⟩, false), (false, ⟨(some 78), .faddr 1 (.tmp 3), (some (74, false))⟩, false), (false, ⟨(some 79), .load none (.tmp 78), (some (74, false))⟩, false), (false, ⟨(some 80), .mov (.tmp 1), (some (74, false))⟩, false), (false, ⟨(some 81), .iaddrL 3 (.tmp 79) (.tmp 80), (some (74, false))⟩, false), (false, ⟨(some 82), .faddr 0 (.tmp 81), (some (74, false))⟩, false), (false, ⟨(some 83), .load none (.tmp 82), (some (74, false))⟩, false), (false, ⟨(some 84), .bin .neq (.tmp 77) (.tmp 83), (some (74, false))⟩, false), (false, ⟨(some 85), .pick (.tmp 74) (.val (.bool true)) (.tmp 84), none⟩, false)])
def a8_R4 : AC := .keep [1, 2, 3, 7, 8, 9, 10, 11, 12] [3] (.dreg [(false, ⟨(some 92), .load (some 8) (.tmp 3), none⟩, false), (false, ⟨(some 93), .mov (.tmp 10), none⟩, false), (false, ⟨(some 94), .mov (.tmp 11), none⟩, false), (false, ⟨(some 95), .bin .sub (.tmp 94) (.val (.int .i64 1)), none⟩, false), (false, ⟨(some 96), .iaddrL 1 (.tmp 93) (.tmp 95), none⟩, false), (false, ⟨(some 97), .load none (.tmp 96), none⟩, false), (false, ⟨(some 98), .call 45 [(.tmp 92), (.tmp 97)], none⟩, false), (false, ⟨(some 13), .mov (.tmp 98), none⟩, false)])
def a8_R5 : AC := .keep [1, 2, 3, 7, 8, 9, 10, 11, 12, 13, 14] [3] (.dreg [(false, ⟨(some 105), .mov (.tmp 12), none⟩, false), (false, ⟨(some 106), .mov (.tmp 105), none⟩, false), (false, ⟨(some 107), .mov (.tmp 13), (some (106, false))⟩, false), (false, ⟨(some 108), .mov (.tmp 14), (some (106, false))⟩, false), (false, ⟨(some 109), .iaddrL 1 (.tmp 107) (.tmp 108), (some (106, false))⟩, false), (false, ⟨(some 110), .load none (.tmp 109), (some (106, false))⟩, false), (false, ⟨(some 111), .mov (.tmp 10), (some (106, false))⟩, false), (false, ⟨(some 112), .mov (.tmp 11), (some (106, false))⟩, false), (false, ⟨(some 113), .iaddrL 1 (.tmp 111) (.tmp 112), (some (106, false))⟩, false), (false, ⟨(some 114), .load none (.tmp 113), (some (106, false))⟩, false), (false, ⟨(some 115), .bin .eql (.tmp 110) (.tmp 114), (some (106, false))⟩, false), (false, ⟨(some 116), .pick (.tmp 106) (.val (.bool true)) (.tmp 115), none⟩, false), (false, ⟨(some 12), .mov (.tmp 116), none⟩, false)])
def a8_R6 : AC := .keep [1, 2, 3, 7, 8, 9, 10] [3] (.dreg [(false, ⟨(some 123), .mov (.tmp 8), none⟩, false), (false, ⟨(some 124), .load (some 8) (.tmp 3), none⟩, false), (false, ⟨(some 125), .mov (.tmp 10), none⟩, false), (false, ⟨(some 126), .mov (.tmp 10), none⟩, false), (false, ⟨(some 127), .lenL (.tmp 126), none⟩, false), (false, ⟨(some 128), .bin .sub (.tmp 127) (.val (.int .i64 1)), none⟩, false), (false, ⟨(some 129), .iaddrL 1 (.tmp 125) (.tmp 128), none⟩, false), (false, ⟨(some 130), .load none (.tmp 129), none⟩, false), (false, ⟨(some 131), .call 45 [(.tmp 124), (.tmp 130)], none⟩, false), (false, ⟨(some 132), .lenL (.tmp 131), none⟩, false), (false, ⟨(some 133), .bin .add (.tmp 123) (.tmp 132), none⟩, false), (false, ⟨(some 8), .mov (.tmp 133), none⟩, false)])
def a8_R7 : AC := .keep [1, 2, 3, 7, 8, 9, 10] [3] (.reg [⟨(some 134), .mov (.tmp 9), none⟩, ⟨(some 135), .bin .gtr (.tmp 134) (.val (.int .i64 0)), none⟩, ⟨(some 136), .mov (.tmp 135), none⟩, ⟨(some 137), .mov (.tmp 7), (some (136, true))⟩, ⟨(some 138), .mov (.tmp 9), (some (136, true))⟩, ⟨(some 139), .bin .sub (.tmp 138) (.val (.int .i64 1)), (some (136, true))⟩, ⟨(some 140), .iaddrL 1 (.tmp 137) (.tmp 139), (some (136, true))⟩, ⟨(some 141), .load none (.tmp 140), (some (136, true))⟩, ⟨(some 142), .mov (.tmp 10), (some (136, true))⟩, ⟨(some 143), .call 46 [(.tmp 141), (.tmp 142)], (some (136, true))⟩, ⟨(some 144), .un .not (.tmp 143), (some (136, true))⟩, ⟨(some 145), .pick (.tmp 136) (.tmp 144) (.val (.bool false)), none⟩])
def a8_B1 : AC := (.seq (.seq (.keep [1, 2, 3, 7, 8, 9, 10, 11, 12, 13, 14] [3] (.reg [⟨(some 99), .mov (.tmp 14), none⟩, ⟨(some 100), .mov (.tmp 13), none⟩, ⟨(some 101), .lenL (.tmp 100), none⟩, ⟨(some 102), .bin .lss (.tmp 99) (.tmp 101), none⟩]))
 (.cond (.tmp 102) .skip (.exit 4)))
 (.seq (.block 5 a8_R5)
 (.keep [1, 2, 3, 7, 8, 9, 10, 11, 12, 13, 14] [3] (.reg [⟨(some 103), .mov (.tmp 14), none⟩, ⟨(some 104), .bin .add (.tmp 103) (.val (.int .i64 1)), none⟩, ⟨(some 14), .mov (.tmp 104), none⟩]))))
def a8_L1 : AC := .loop a8_B1
theorem a8_L1_step (call : Caller) (again : AC → St → Option (Ex × St)) (s : St) : codeEv call again a8_L1 s = match codeEv call again a8_B1 s with | some (.norm, s1) => again a8_L1 s1 | r => r := rfl
def a8_B2 : AC := (.seq (.seq (.keep [1, 2, 3, 7, 8, 9, 10, 11] [3] (.reg [⟨(some 86), .mov (.tmp 11), none⟩, ⟨(some 87), .mov (.tmp 10), none⟩, ⟨(some 88), .lenL (.tmp 87), none⟩, ⟨(some 89), .bin .lss (.tmp 86) (.tmp 88), none⟩]))
 (.cond (.tmp 89) .skip (.exit 2)))
 (.seq (.block 3 (.seq (.keep [1, 2, 3, 7, 8, 9, 10, 11] [3] (.reg [⟨(some 12), .mov (.val (.bool false)), none⟩]))
 (.seq a8_R4
 (.seq (.seq (.keep [1, 2, 3, 7, 8, 9, 10, 11, 12, 13] [3] (.reg [⟨(some 14), .mov (.val (.int .i64 0)), none⟩]))
 (.block 4 a8_L1))
 (.seq (.keep [1, 2, 3, 7, 8, 9, 10, 11, 12] [3] (.reg [⟨(some 117), .mov (.tmp 12), none⟩, ⟨(some 118), .un .not (.tmp 117), none⟩]))
 (.cond (.tmp 118) (.seq (.keep [] [] (.reg [⟨(some 6), .mov (.val (.bool false)), none⟩]))
 .ret) .skip))))))
 (.keep [1, 2, 3, 7, 8, 9, 10, 11] [3] (.reg [⟨(some 90), .mov (.tmp 11), none⟩, ⟨(some 91), .bin .add (.tmp 90) (.val (.int .i64 1)), none⟩, ⟨(some 11), .mov (.tmp 91), none⟩]))))
def a8_L2 : AC := .loop a8_B2
theorem a8_L2_step (call : Caller) (again : AC → St → Option (Ex × St)) (s : St) : codeEv call again a8_L2 s = match codeEv call again a8_B2 s with | some (.norm, s1) => again a8_L2 s1 | r => r := rfl
def a8_B3 : AC := (.seq (.seq (.keep [1, 2, 3, 7, 8, 9] [3] (.reg [⟨(some 55), .mov (.tmp 9), none⟩, ⟨(some 56), .mov (.tmp 7), none⟩, ⟨(some 57), .lenL (.tmp 56), none⟩, ⟨(some 58), .bin .lss (.tmp 55) (.tmp 57), none⟩]))
 (.cond (.tmp 58) .skip (.exit 0)))
 (.seq (.block 1 (.seq (.keep [1, 2, 3, 7, 8, 9] [3] (.reg [⟨(some 61), .mov (.tmp 7), none⟩, ⟨(some 62), .mov (.tmp 9), none⟩, ⟨(some 63), .iaddrL 1 (.tmp 61) (.tmp 62), none⟩, ⟨(some 64), .load none (.tmp 63), none⟩, ⟨(some 10), .mov (.tmp 64), none⟩]))
 (.seq (.seq a8_R3
 (.cond (.tmp 85) (.seq (.keep [] [] (.reg [⟨(some 6), .mov (.val (.bool false)), none⟩]))
 .ret) .skip))
 (.seq (.seq (.keep [1, 2, 3, 7, 8, 9, 10] [3] (.reg [⟨(some 11), .mov (.val (.int .i64 1)), none⟩]))
 (.block 2 a8_L2))
 (.seq (.seq (.keep [1, 2, 3, 7, 8, 9, 10] [3] (.reg [⟨(some 119), .mov (.tmp 10), none⟩, ⟨(some 120), .lenL (.tmp 119), none⟩, ⟨(some 121), .mov (.tmp 2), none⟩, ⟨(some 122), .bin .lss (.tmp 120) (.tmp 121), none⟩]))
 (.cond (.tmp 122) a8_R6 .skip))
 (.seq a8_R7
 (.cond (.tmp 145) (.seq (.keep [] [] (.reg [⟨(some 6), .mov (.val (.bool false)), none⟩]))
 .ret) .skip)))))))
 (.keep [1, 2, 3, 7, 8, 9] [3] (.reg [⟨(some 59), .mov (.tmp 9), none⟩, ⟨(some 60), .bin .add (.tmp 59) (.val (.int .i64 1)), none⟩, ⟨(some 9), .mov (.tmp 60), none⟩]))))
def a8_L3 : AC := .loop a8_B3
theorem a8_L3_step (call : Caller) (again : AC → St → Option (Ex × St)) (s : St) : codeEv call again a8_L3 s = match codeEv call again a8_B3 s with | some (.norm, s1) => again a8_L3 s1 | r => r := rfl
def a8 : AFn := { n := 150, np := 3, res := [.tmp 6], body :=
 (.seq (.keep [0, 1, 2] [] (.reg [⟨(some 3), .box (some 3) (.tmp 0), none⟩, ⟨(some 6), .mov (.val (.bool false)), none⟩]))
 (.seq (.seq (.keep [1, 2, 3] [3] (.reg [⟨(some 15), .call 36 [], none⟩, ⟨(some 16), .un .not (.tmp 15), none⟩]))
 (.cond (.tmp 16) (.seq (.keep [] [] (.reg [⟨(some 6), .mov (.val (.bool false)), none⟩]))
 .ret) .skip))
 (.seq (.keep [1, 2, 3] [3] (.reg [⟨(some 17), .mov (.tmp 2), none⟩, ⟨(some 18), .call 38 [(.tmp 17), (.val (.int .i64 9))], none⟩, ⟨(some 2), .mov (.tmp 18), none⟩]))
 (.seq (.seq a8_R1
 (.cond (.tmp 26) (.seq (.keep [1, 3] [3] (.reg [⟨(some 27), .load (some 8) (.tmp 3), none⟩, ⟨(some 28), .mov (.tmp 1), none⟩, ⟨(some 29), .call 44 [(.tmp 27), (.tmp 28), (.val (.int .i64 0))], none⟩, ⟨(some 30), .lenL (.tmp 29), none⟩, ⟨(some 31), .bin .eql (.tmp 30) (.val (.int .i64 0)), none⟩, ⟨(some 6), .mov (.tmp 31), none⟩]))
 .ret) .skip))
 (.seq (.keep [1, 2, 3] [3] (.reg [⟨(some 32), .mov (.tmp 1), none⟩, ⟨(some 33), .faddr 1 (.tmp 3), none⟩, ⟨(some 34), .load none (.tmp 33), none⟩, ⟨(some 35), .lenL (.tmp 34), none⟩, ⟨(some 36), .call 38 [(.tmp 32), (.tmp 35)], none⟩, ⟨(some 1), .mov (.tmp 36), none⟩]))
 (.seq (.keep [1, 2, 3] [3] (.reg [⟨(some 37), .load (some 8) (.tmp 3), none⟩, ⟨(some 38), .mov (.tmp 1), none⟩, ⟨(some 39), .mov (.tmp 2), none⟩, ⟨(some 40), .call 44 [(.tmp 37), (.tmp 38), (.tmp 39)], none⟩, ⟨(some 7), .mov (.tmp 40), none⟩]))
 (.seq (.seq (.keep [1, 2, 3, 7] [3] (.reg [⟨(some 41), .mov (.tmp 2), none⟩, ⟨(some 42), .bin .eql (.tmp 41) (.val (.int .i64 0)), none⟩, ⟨(some 43), .mov (.tmp 42), none⟩, ⟨(some 44), .mov (.tmp 7), (some (43, false))⟩, ⟨(some 45), .lenL (.tmp 44), (some (43, false))⟩, ⟨(some 46), .bin .eql (.tmp 45) (.val (.int .i64 0)), (some (43, false))⟩, ⟨(some 47), .pick (.tmp 43) (.val (.bool true)) (.tmp 46), none⟩]))
 (.cond (.tmp 47) (.seq a8_R2
 .ret) .skip))
 (.seq (.keep [1, 2, 3, 7] [3] (.reg [⟨(some 8), .mov (.val (.int .i64 1)), none⟩]))
 (.seq (.seq (.keep [1, 2, 3, 7, 8] [3] (.reg [⟨(some 9), .mov (.val (.int .i64 0)), none⟩]))
 (.block 0 a8_L3))
 (.seq (.keep [7, 8] [] (.reg [⟨(some 146), .mov (.tmp 8), none⟩, ⟨(some 147), .mov (.tmp 7), none⟩, ⟨(some 148), .lenL (.tmp 147), none⟩, ⟨(some 149), .bin .eql (.tmp 146) (.tmp 148), none⟩, ⟨(some 6), .mov (.tmp 149), none⟩]))
 .ret)))))))))) }
def h13 : Hints := ⟨[2], [(0, [0, 1], []), (1, [1, 2], [2]), (2, [], []), (3, [1, 2], [2]), (4, [1, 2, 5], [2]), (6, [1, 2, 5], [2]), (7, [], []), (5, [1, 2, 5], [2]), (8, [], [])], []⟩
def a13_R1 : AC := .keep [1, 2] [2] (.reg [⟨(some 6), .faddr 0 (.tmp 2), none⟩, ⟨(some 7), .load none (.tmp 6), none⟩, ⟨(some 8), .lenL (.tmp 7), none⟩, ⟨(some 9), .mov (.tmp 1), none⟩, ⟨(some 10), .bin .gtr (.tmp 8) (.tmp 9), none⟩, ⟨(some 11), .mov (.tmp 10), none⟩, ⟨(some 12), .faddr 1 (.tmp 2), (some (11, false))⟩, ⟨(some 13), .load none (.tmp 12), (some (11, false))⟩, ⟨(some 14), .lenL (.tmp 13), (some (11, false))⟩, ⟨(some 15), .bin .gtr (.tmp 14) (.val (.int .i64 80)), (some (11, false))⟩, ⟨(some 16), .pick (.tmp 11) (.val (.bool true)) (.tmp 15), none⟩, ⟨(some 17), .mov (.tmp 16), none⟩, ⟨(some 18), .faddr 2 (.tmp 2), (some (17, false))⟩, ⟨(some 19), .load none (.tmp 18), (some (17, false))⟩, ⟨(some 20), .lenL (.tmp 19), (some (17, false))⟩, ⟨(some 21), .bin .gtr (.tmp 20) (.val (.int .i64 40)), (some (17, false))⟩, ⟨(some 22), .pick (.tmp 17) (.val (.bool true)) (.tmp 21), none⟩, ⟨(some 23), .mov (.tmp 22), none⟩, ⟨(some 24), .faddr 4 (.tmp 2), (some (23, false))⟩, ⟨(some 25), .load none (.tmp 24), (some (23, false))⟩, ⟨(some 26), .lenL (.tmp 25), (some (23, false))⟩, ⟨(some 27), .mov (.tmp 1), (some (23, false))⟩, ⟨(some 28), .bin .gtr (.tmp 26) (.tmp 27), (some (23, false))⟩, ⟨(some 29), .pick (.tmp 23) (.val (.bool true)) (.tmp 28), none⟩, ⟨(some 30), .mov (.tmp 29), none⟩, ⟨(some 31), .faddr 5 (.tmp 2), (some (30, false))⟩, ⟨(some 32), .load none (.tmp 31), (some (30, false))⟩, ⟨(some 33), .lenL (.tmp 32), (some (30, false))⟩, ⟨(some 34), .bin .gtr (.tmp 33) (.val (.int .i64 40)), (some (30, false))⟩, ⟨(some 35), .pick (.tmp 30) (.val (.bool true)) (.tmp 34), none⟩, ⟨(some 36), .mov (.tmp 35), none⟩, ⟨(some 37), .faddr 7 (.tmp 2), (some (36, false))⟩, ⟨(some 38), .load none (.tmp 37), (some (36, false))⟩, ⟨(some 39), .lenL (.tmp 38), (some (36, false))⟩, ⟨(some 40), .bin .gtr (.tmp 39) (.val (.int .i64 80)), (some (36, false))⟩, ⟨(some 41), .pick (.tmp 36) (.val (.bool true)) (.tmp 40), none⟩])
def a13_R2 : AC := .keep [1, 2, 5] [2] (.reg [⟨(some 49), .faddr 7 (.tmp 2), none⟩, ⟨(some 50), .load none (.tmp 49), none⟩, ⟨(some 51), .mov (.tmp 5), none⟩, ⟨(some 52), .iaddrL 1 (.tmp 50) (.tmp 51), none⟩, ⟨(some 53), .load none (.tmp 52), none⟩, ⟨(some 54), .lenL (.tmp 53), none⟩, ⟨(some 55), .mov (.tmp 1), none⟩, ⟨(some 56), .bin .gtr (.tmp 54) (.tmp 55), none⟩])
def a13_B1 : AC := (.seq (.seq (.keep [1, 2, 5] [2] (.reg [⟨(some 42), .mov (.tmp 5), none⟩, ⟨(some 43), .faddr 7 (.tmp 2), none⟩, ⟨(some 44), .load none (.tmp 43), none⟩, ⟨(some 45), .lenL (.tmp 44), none⟩, ⟨(some 46), .bin .lss (.tmp 42) (.tmp 45), none⟩]))
 (.cond (.tmp 46) .skip (.exit 0)))
 (.seq (.block 1 (.seq a13_R2
 (.cond (.tmp 56) (.seq (.keep [] [] (.reg [⟨(some 4), .mov (.val (.bool false)), none⟩]))
 .ret) .skip)))
 (.keep [1, 2, 5] [2] (.reg [⟨(some 47), .mov (.tmp 5), none⟩, ⟨(some 48), .bin .add (.tmp 47) (.val (.int .i64 1)), none⟩, ⟨(some 5), .mov (.tmp 48), none⟩]))))
def a13_L1 : AC := .loop a13_B1
theorem a13_L1_step (call : Caller) (again : AC → St → Option (Ex × St)) (s : St) : codeEv call again a13_L1 s = match codeEv call again a13_B1 s with | some (.norm, s1) => again a13_L1 s1 | r => r := rfl
def a13 : AFn := { n := 57, np := 2, res := [.tmp 4], body :=
 (.seq (.keep [0, 1] [] (.reg [⟨(some 2), .box (some 2) (.tmp 0), none⟩, ⟨(some 4), .mov (.val (.bool false)), none⟩]))
 (.seq (.seq a13_R1
 (.cond (.tmp 41) (.seq (.keep [] [] (.reg [⟨(some 4), .mov (.val (.bool false)), none⟩]))
 .ret) .skip))
 (.seq (.seq (.keep [1, 2] [2] (.reg [⟨(some 5), .mov (.val (.int .i64 0)), none⟩]))
 (.block 0 a13_L1))
 (.seq (.keep [] [] (.reg [⟨(some 4), .mov (.val (.bool true)), none⟩]))
 .ret)))) }
def h37 : Hints := ⟨[1], [(0, [0], []), (1, [1], [1]), (2, [], []), (3, [1], [1]), (4, [], []), (5, [1], [1]), (6, [], []), (7, [], [])], []⟩
def a37 : AFn := { n := 15, np := 1, res := [.tmp 2], body :=
 (.seq (.keep [0] [] (.reg [⟨(some 1), .box (some 1) (.tmp 0), none⟩, ⟨(some 2), .mov (.val (.int .i64 0)), none⟩]))
 (.seq (.seq (.keep [1] [1] (.reg [⟨(some 3), .load (some 8) (.tmp 1), none⟩, ⟨(some 4), .call 75 [(.tmp 3)], none⟩]))
 (.cond (.tmp 4) (.seq (.keep [] [] (.reg [⟨(some 2), .mov (.val (.int .i64 3)), none⟩]))
 .ret) .skip))
 (.seq (.seq (.keep [1] [1] (.reg [⟨(some 5), .load (some 8) (.tmp 1), none⟩, ⟨(some 6), .call 76 [(.tmp 5)], none⟩, ⟨(some 7), .un .not (.tmp 6), none⟩]))
 (.cond (.tmp 7) (.seq (.keep [] [] (.reg [⟨(some 2), .mov (.val (.int .i64 2)), none⟩]))
 .ret) .skip))
 (.seq (.seq (.keep [1] [1] (.dreg [(false, ⟨(some 8), .load (some 8) (.tmp 1), none⟩, false), (true, ⟨(some 9), .call 77 [(.tmp 8)], none⟩, false), (false, ⟨(some 10), .lenL (.tmp 9), none⟩, false), (false, ⟨(some 11), .faddr 1 (.tmp 1), none⟩, false), (true, ⟨(some 12), .load none (.tmp 11), none⟩, false), (false, ⟨(some 13), .lenL (.tmp 12), none⟩, false), (false, ⟨(some 14), .bin .lss (.tmp 10) (.tmp 13), none⟩, false)]))
 (.cond (.tmp 14) (.seq (.keep [] [] (.reg [⟨(some 2), .mov (.val (.int .i64 13)), none⟩]))
 .ret) .skip))
 (.seq (.keep [] [] (.reg [⟨(some 2), .mov (.val (.int .i64 0)), none⟩]))
 .ret))))) }
def h38 : Hints := ⟨[], [(0, [0, 1], []), (1, [0, 1], []), (2, [], []), (3, [0, 1], []), (4, [0, 1], []), (5, [0, 1], []), (6, [0], [])], []⟩
def a38 : AFn := { n := 16, np := 2, res := [.tmp 4], body :=
 (.seq (.keep [0, 1] [] (.reg [⟨(some 4), .mov (.val (.int .i64 0)), none⟩]))
 (.seq (.seq (.keep [0, 1] [] (.reg [⟨(some 5), .mov (.tmp 1), none⟩, ⟨(some 6), .bin .lss (.tmp 5) (.val (.int .i64 1)), none⟩]))
 (.cond (.tmp 6) (.seq (.keep [] [] (.reg [⟨(some 4), .mov (.val (.int .i64 0)), none⟩]))
 .ret) .skip))
 (.seq (.keep [0, 1] [] (.reg [⟨(some 7), .mov (.tmp 0), none⟩, ⟨(some 8), .mov (.tmp 1), none⟩, ⟨(some 9), .bin .rem (.tmp 7) (.tmp 8), none⟩, ⟨(some 0), .mov (.tmp 9), none⟩]))
 (.seq (.seq (.keep [0, 1] [] (.reg [⟨(some 10), .mov (.tmp 0), none⟩, ⟨(some 11), .bin .lss (.tmp 10) (.val (.int .i64 0)), none⟩]))
 (.cond (.tmp 11) (.keep [0, 1] [] (.reg [⟨(some 12), .mov (.tmp 0), none⟩, ⟨(some 13), .mov (.tmp 1), none⟩, ⟨(some 14), .bin .add (.tmp 12) (.tmp 13), none⟩, ⟨(some 0), .mov (.tmp 14), none⟩])) .skip))
 (.seq (.keep [0] [] (.reg [⟨(some 15), .mov (.tmp 0), none⟩, ⟨(some 4), .mov (.tmp 15), none⟩]))
 .ret))))) }
def h44 : Hints := ⟨[], [(0, [0, 1, 2], []), (1, [1, 3, 5], []), (2, [1, 3, 5], []), (3, [], []), (4, [1, 3, 5], []), (5, [1, 3, 5, 7], []), (6, [1, 3, 5, 7, 8], []), (7, [1, 3, 7, 8], []), (8, [7], [])], []⟩
def a44 : AFn := { n := 40, np := 3, res := [.tmp 6], body :=
 (.seq (.keep [0, 1, 2] [] (.reg [⟨(some 3), .box none (.tmp 0), none⟩, ⟨(some 5), .box none (.tmp 2), none⟩, ⟨(some 6), .mov (.val .nils), none⟩]))
 (.seq (.keep [1, 3, 5] [] (.reg [⟨(some 9), .load none (.tmp 5), none⟩, ⟨(some 10), .min [(.tmp 9), (.val (.int .i64 12))], none⟩, ⟨none, .store 1 (.tmp 5) (.tmp 10), none⟩]))
 (.seq (.seq (.keep [1, 3, 5] [] (.reg [⟨(some 11), .mov (.tmp 1), none⟩, ⟨(some 12), .bin .lss (.tmp 11) (.val (.int .i64 0)), none⟩, ⟨(some 13), .mov (.tmp 12), none⟩, ⟨(some 14), .mov (.tmp 1), (some (13, false))⟩, ⟨(some 15), .faddr 1 (.tmp 3), (some (13, false))⟩, ⟨(some 16), .load none (.tmp 15), (some (13, false))⟩, ⟨(some 17), .lenL (.tmp 16), (some (13, false))⟩, ⟨(some 18), .bin .geq (.tmp 14) (.tmp 17), (some (13, false))⟩, ⟨(some 19), .pick (.tmp 13) (.val (.bool true)) (.tmp 18), none⟩, ⟨(some 20), .mov (.tmp 19), none⟩, ⟨(some 21), .load none (.tmp 5), (some (20, false))⟩, ⟨(some 22), .bin .lss (.tmp 21) (.val (.int .i64 1)), (some (20, false))⟩, ⟨(some 23), .pick (.tmp 20) (.val (.bool true)) (.tmp 22), none⟩, ⟨(some 24), .mov (.tmp 23), none⟩, ⟨(some 25), .load (some 8) (.tmp 3), (some (24, false))⟩, ⟨(some 26), .call 54 [(.tmp 25)], (some (24, false))⟩, ⟨(some 27), .bin .neq (.tmp 26) (.val (.int .i64 0)), (some (24, false))⟩, ⟨(some 28), .pick (.tmp 24) (.val (.bool true)) (.tmp 27), none⟩]))
 (.cond (.tmp 28) (.seq (.keep [] [] (.reg [⟨(some 6), .mov (.val .nils), none⟩]))
 .ret) .skip))
 (.seq (.keep [1, 3, 5] [] (.reg [⟨(some 7), .alloc none [.nils], none⟩]))
 (.seq (.keep [1, 3, 5, 7] [] (.reg [⟨(some 8), .alloc none [.nilf], none⟩]))
 (.seq (.keep [1, 3, 5, 7, 8] [] (.reg [⟨(some 29), .mkfn 85 [(.tmp 7), (.tmp 5), (.tmp 3), (.tmp 8)], none⟩, ⟨none, .store 1 (.tmp 8) (.tmp 29), none⟩]))
 (.seq (.keep [1, 3, 7, 8] [] (.dreg [(false, ⟨(some 30), .load none (.tmp 8), none⟩, false), (false, ⟨(some 31), .faddr 1 (.tmp 3), none⟩, false), (false, ⟨(some 32), .load none (.tmp 31), none⟩, false), (false, ⟨(some 33), .mov (.tmp 1), none⟩, false), (false, ⟨(some 34), .iaddrL 3 (.tmp 32) (.tmp 33), none⟩, false), (false, ⟨(some 35), .faddr 0 (.tmp 34), none⟩, false), (false, ⟨(some 36), .load none (.tmp 35), none⟩, false), (false, ⟨(some 37), .mkslc 1 1 [(.int .i64 0)] [(0, (.tmp 36))], none⟩, false), (false, ⟨(some 38), .callv (.tmp 30) [(.tmp 37)], none⟩, false)]))
 (.seq (.keep [7] [] (.reg [⟨(some 39), .load none (.tmp 7), none⟩, ⟨(some 6), .mov (.tmp 39), none⟩]))
 .ret)))))))) }
def h46 : Hints := ⟨[], [(0, [0, 1], []), (1, [0, 1], []), (2, [0, 1, 5], []), (4, [0, 1, 5], []), (5, [0, 1, 5], []), (3, [0, 1, 5], []), (6, [0, 1], [])], []⟩
def a46_B1 : AC := (.seq (.seq (.keep [0, 1, 5] [] (.reg [⟨(some 6), .mov (.tmp 5), none⟩, ⟨(some 7), .mov (.tmp 0), none⟩, ⟨(some 8), .lenL (.tmp 7), none⟩, ⟨(some 9), .bin .lss (.tmp 6) (.tmp 8), none⟩, ⟨(some 10), .mov (.tmp 9), none⟩, ⟨(some 11), .mov (.tmp 5), (some (10, true))⟩, ⟨(some 12), .mov (.tmp 1), (some (10, true))⟩, ⟨(some 13), .lenL (.tmp 12), (some (10, true))⟩, ⟨(some 14), .bin .lss (.tmp 11) (.tmp 13), (some (10, true))⟩, ⟨(some 15), .pick (.tmp 10) (.tmp 14) (.val (.bool false)), none⟩]))
 (.cond (.tmp 15) .skip (.exit 0)))
 (.seq (.block 1 (.seq (.keep [0, 1, 5] [] (.dreg [(false, ⟨(some 18), .mov (.tmp 0), none⟩, false), (false, ⟨(some 19), .mov (.tmp 5), none⟩, false), (false, ⟨(some 20), .iaddrL 1 (.tmp 18) (.tmp 19), none⟩, false), (false, ⟨(some 21), .load none (.tmp 20), none⟩, false), (false, ⟨(some 22), .mov (.tmp 1), none⟩, false), (false, ⟨(some 23), .mov (.tmp 5), none⟩, false), (false, ⟨(some 24), .iaddrL 1 (.tmp 22) (.tmp 23), none⟩, false), (false, ⟨(some 25), .load none (.tmp 24), none⟩, false), (false, ⟨(some 26), .bin .neq (.tmp 21) (.tmp 25), none⟩, false)]))
 (.cond (.tmp 26) (.seq (.keep [0, 1, 5] [] (.dreg [(false, ⟨(some 27), .mov (.tmp 0), none⟩, false), (false, ⟨(some 28), .mov (.tmp 5), none⟩, false), (false, ⟨(some 29), .iaddrL 1 (.tmp 27) (.tmp 28), none⟩, false), (false, ⟨(some 30), .load none (.tmp 29), none⟩, false), (false, ⟨(some 31), .mov (.tmp 1), none⟩, false), (false, ⟨(some 32), .mov (.tmp 5), none⟩, false), (false, ⟨(some 33), .iaddrL 1 (.tmp 31) (.tmp 32), none⟩, false), (false, ⟨(some 34), .load none (.tmp 33), none⟩, false), (false, ⟨(some 35), .bin .lss (.tmp 30) (.tmp 34), none⟩, false), (false, ⟨(some 4), .mov (.tmp 35), none⟩, false)]))
 .ret) .skip)))
 (.keep [0, 1, 5] [] (.reg [⟨(some 16), .mov (.tmp 5), none⟩, ⟨(some 17), .bin .add (.tmp 16) (.val (.int .i64 1)), none⟩, ⟨(some 5), .mov (.tmp 17), none⟩]))))
def a46_L1 : AC := .loop a46_B1
theorem a46_L1_step (call : Caller) (again : AC → St → Option (Ex × St)) (s : St) : codeEv call again a46_L1 s = match codeEv call again a46_B1 s with | some (.norm, s1) => again a46_L1 s1 | r => r := rfl
def a46 : AFn := { n := 41, np := 2, res := [.tmp 4], body :=
 (.seq (.keep [0, 1] [] (.reg [⟨(some 4), .mov (.val (.bool false)), none⟩]))
 (.seq (.seq (.keep [0, 1] [] (.reg [⟨(some 5), .mov (.val (.int .i64 0)), none⟩]))
 (.block 0 a46_L1))
 (.seq (.keep [0, 1] [] (.reg [⟨(some 36), .mov (.tmp 0), none⟩, ⟨(some 37), .lenL (.tmp 36), none⟩, ⟨(some 38), .mov (.tmp 1), none⟩, ⟨(some 39), .lenL (.tmp 38), none⟩, ⟨(some 40), .bin .lss (.tmp 37) (.tmp 39), none⟩, ⟨(some 4), .mov (.tmp 40), none⟩]))
 .ret))) }
def h63 : Hints := ⟨[1, 3], [(0, [0], []), (1, [1], [1]), (2, [1, 3], [1, 3]), (3, [], []), (4, [], [])], []⟩
def a63 : AFn := { n := 39, np := 1, res := [.tmp 2], body :=
 (.seq (.keep [0] [] (.reg [⟨(some 1), .box (some 1) (.tmp 0), none⟩, ⟨(some 2), .mov (.val (.int .i64 0)), none⟩]))
 (.seq (.keep [1] [1] (.reg [⟨(some 4), .faddr 0 (.tmp 1), none⟩, ⟨(some 5), .load none (.tmp 4), none⟩, ⟨(some 6), .call 106 [(.tmp 5)], none⟩, ⟨(some 3), .alloc (some 3) [(.int .i64 0), (.int .i64 0), (.int .i64 0)], none⟩, ⟨none, .store 3 (.tmp 3) (.tmp 6), none⟩]))
 (.seq (.seq (.keep [1, 3] [1, 3] (.reg [⟨(some 7), .faddr 0 (.tmp 1), none⟩, ⟨(some 8), .load none (.tmp 7), none⟩, ⟨(some 9), .bin .lss (.tmp 8) (.val (.int .i64 1)), none⟩, ⟨(some 10), .mov (.tmp 9), none⟩, ⟨(some 11), .faddr 0 (.tmp 1), (some (10, false))⟩, ⟨(some 12), .load none (.tmp 11), (some (10, false))⟩, ⟨(some 13), .bin .gtr (.tmp 12) (.val (.int .i64 24)), (some (10, false))⟩, ⟨(some 14), .pick (.tmp 10) (.val (.bool true)) (.tmp 13), none⟩, ⟨(some 15), .mov (.tmp 14), none⟩, ⟨(some 16), .iaddrA 3 1 (.tmp 3) (.val (.int .i64 0)), (some (15, false))⟩, ⟨(some 17), .load none (.tmp 16), (some (15, false))⟩, ⟨(some 18), .faddr 1 (.tmp 1), (some (15, false))⟩, ⟨(some 19), .load none (.tmp 18), (some (15, false))⟩, ⟨(some 20), .call 107 [(.tmp 17), (.tmp 19)], (some (15, false))⟩, ⟨(some 21), .un .not (.tmp 20), (some (15, false))⟩, ⟨(some 22), .pick (.tmp 15) (.val (.bool true)) (.tmp 21), none⟩, ⟨(some 23), .mov (.tmp 22), none⟩, ⟨(some 24), .iaddrA 3 1 (.tmp 3) (.val (.int .i64 1)), (some (23, false))⟩, ⟨(some 25), .load none (.tmp 24), (some (23, false))⟩, ⟨(some 26), .faddr 2 (.tmp 1), (some (23, false))⟩, ⟨(some 27), .load none (.tmp 26), (some (23, false))⟩, ⟨(some 28), .call 107 [(.tmp 25), (.tmp 27)], (some (23, false))⟩, ⟨(some 29), .un .not (.tmp 28), (some (23, false))⟩, ⟨(some 30), .pick (.tmp 23) (.val (.bool true)) (.tmp 29), none⟩, ⟨(some 31), .mov (.tmp 30), none⟩, ⟨(some 32), .iaddrA 3 1 (.tmp 3) (.val (.int .i64 2)), (some (31, false))⟩, ⟨(some 33), .load none (.tmp 32), (some (31, false))⟩, ⟨(some 34), .faddr 3 (.tmp 1), (some (31, false))⟩, ⟨(some 35), .load none (.tmp 34), (some (31, false))⟩, ⟨(some 36), .call 107 [(.tmp 33), (.tmp 35)], (some (31, false))⟩, ⟨(some 37), .un .not (.tmp 36), (some (31, false))⟩, ⟨(some 38), .pick (.tmp 31) (.val (.bool true)) (.tmp 37), none⟩]))
 (.cond (.tmp 38) (.seq (.keep [] [] (.reg [⟨(some 2), .mov (.val (.int .i64 2)), none⟩]))
 .ret) .skip))
 (.seq (.keep [] [] (.reg [⟨(some 2), .mov (.val (.int .i64 0)), none⟩]))
 .ret)))) }
def h65 : Hints := ⟨[2], [(0, [0, 1], []), (1, [1, 2], [2]), (2, [], []), (3, [1, 2], [2]), (4, [1, 2, 6], [2]), (5, [1, 2], [2]), (6, [1, 2, 6], [2])], []⟩
def a65 : AFn := { n := 39, np := 2, res := [.tmp 4, .tmp 5], body :=
 (.seq (.keep [0, 1] [] (.reg [⟨(some 2), .box (some 2) (.tmp 0), none⟩, ⟨(some 4), .mov (.val (.int .i64 0)), none⟩, ⟨(some 5), .mov (.val (.int .i64 0)), none⟩]))
 (.seq (.seq (.keep [1, 2] [2] (.reg [⟨(some 7), .mov (.tmp 1), none⟩, ⟨(some 8), .bin .lss (.tmp 7) (.val (.int .i64 0)), none⟩, ⟨(some 9), .mov (.tmp 8), none⟩, ⟨(some 10), .mov (.tmp 1), (some (9, false))⟩, ⟨(some 11), .faddr 1 (.tmp 2), (some (9, false))⟩, ⟨(some 12), .load none (.tmp 11), (some (9, false))⟩, ⟨(some 13), .lenL (.tmp 12), (some (9, false))⟩, ⟨(some 14), .bin .geq (.tmp 10) (.tmp 13), (some (9, false))⟩, ⟨(some 15), .pick (.tmp 9) (.val (.bool true)) (.tmp 14), none⟩]))
 (.cond (.tmp 15) (.seq (.keep [] [] (.reg [⟨(some 4), .mov (.val (.int .i64 0)), none⟩, ⟨(some 5), .mov (.val (.int .i64 0)), none⟩]))
 .ret) .skip))
 (.seq (.keep [1, 2] [2] (.reg [⟨(some 16), .faddr 0 (.tmp 2), none⟩, ⟨(some 17), .load none (.tmp 16), none⟩, ⟨(some 18), .lenL (.tmp 17), none⟩, ⟨(some 6), .mov (.tmp 18), none⟩]))
 (.seq (.seq (.keep [1, 2, 6] [2] (.reg [⟨(some 19), .mov (.tmp 1), none⟩, ⟨(some 20), .bin .add (.tmp 19) (.val (.int .i64 1)), none⟩, ⟨(some 21), .faddr 1 (.tmp 2), none⟩, ⟨(some 22), .load none (.tmp 21), none⟩, ⟨(some 23), .lenL (.tmp 22), none⟩, ⟨(some 24), .bin .lss (.tmp 20) (.tmp 23), none⟩]))
 (.cond (.tmp 24) (.keep [1, 2] [2] (.reg [⟨(some 25), .faddr 1 (.tmp 2), none⟩, ⟨(some 26), .load none (.tmp 25), none⟩, ⟨(some 27), .mov (.tmp 1), none⟩, ⟨(some 28), .bin .add (.tmp 27) (.val (.int .i64 1)), none⟩, ⟨(some 29), .iaddrL 3 (.tmp 26) (.tmp 28), none⟩, ⟨(some 30), .faddr 0 (.tmp 29), none⟩, ⟨(some 31), .load none (.tmp 30), none⟩, ⟨(some 6), .mov (.tmp 31), none⟩])) .skip))
 (.seq (.keep [1, 2, 6] [2] (.reg [⟨(some 32), .faddr 1 (.tmp 2), none⟩, ⟨(some 33), .load none (.tmp 32), none⟩, ⟨(some 34), .mov (.tmp 1), none⟩, ⟨(some 35), .iaddrL 3 (.tmp 33) (.tmp 34), none⟩, ⟨(some 36), .faddr 0 (.tmp 35), none⟩, ⟨(some 37), .load none (.tmp 36), none⟩, ⟨(some 38), .mov (.tmp 6), none⟩, ⟨(some 4), .mov (.tmp 37), none⟩, ⟨(some 5), .mov (.tmp 38), none⟩]))
 .ret))))) }
def h75 : Hints := ⟨[1], [(0, [0], []), (1, [1], [1]), (2, [1, 3], [1]), (4, [1, 3], [1]), (5, [], []), (3, [1, 3], [1]), (6, [1], [1])], []⟩
def a75_B1 : AC := (.seq (.seq (.keep [1, 3] [1] (.reg [⟨(some 4), .mov (.tmp 3), none⟩, ⟨(some 5), .faddr 7 (.tmp 1), none⟩, ⟨(some 6), .load none (.tmp 5), none⟩, ⟨(some 7), .lenL (.tmp 6), none⟩, ⟨(some 8), .bin .lss (.tmp 4) (.tmp 7), none⟩]))
 (.cond (.tmp 8) .skip (.exit 0)))
 (.seq (.block 1 (.seq (.keep [1, 3] [1] (.reg [⟨(some 11), .faddr 7 (.tmp 1), none⟩, ⟨(some 12), .load none (.tmp 11), none⟩, ⟨(some 13), .mov (.tmp 3), none⟩, ⟨(some 14), .iaddrL 1 (.tmp 12) (.tmp 13), none⟩, ⟨(some 15), .load none (.tmp 14), none⟩, ⟨(some 16), .lenL (.tmp 15), none⟩, ⟨(some 17), .bin .gtr (.tmp 16) (.val (.int .i64 4096)), none⟩]))
 (.cond (.tmp 17) (.seq (.keep [] [] (.reg [⟨(some 2), .mov (.val (.bool true)), none⟩]))
 .ret) .skip)))
 (.keep [1, 3] [1] (.reg [⟨(some 9), .mov (.tmp 3), none⟩, ⟨(some 10), .bin .add (.tmp 9) (.val (.int .i64 1)), none⟩, ⟨(some 3), .mov (.tmp 10), none⟩]))))
def a75_L1 : AC := .loop a75_B1
theorem a75_L1_step (call : Caller) (again : AC → St → Option (Ex × St)) (s : St) : codeEv call again a75_L1 s = match codeEv call again a75_B1 s with | some (.norm, s1) => again a75_L1 s1 | r => r := rfl
def a75 : AFn := { n := 52, np := 1, res := [.tmp 2], body :=
 (.seq (.keep [0] [] (.reg [⟨(some 1), .box (some 1) (.tmp 0), none⟩, ⟨(some 2), .mov (.val (.bool false)), none⟩]))
 (.seq (.seq (.keep [1] [1] (.reg [⟨(some 3), .mov (.val (.int .i64 0)), none⟩]))
 (.block 0 a75_L1))
 (.seq (.keep [1] [1] (.reg [⟨(some 18), .faddr 0 (.tmp 1), none⟩, ⟨(some 19), .load none (.tmp 18), none⟩, ⟨(some 20), .lenL (.tmp 19), none⟩, ⟨(some 21), .bin .gtr (.tmp 20) (.val (.int .i64 16384)), none⟩, ⟨(some 22), .mov (.tmp 21), none⟩, ⟨(some 23), .faddr 1 (.tmp 1), (some (22, false))⟩, ⟨(some 24), .load none (.tmp 23), (some (22, false))⟩, ⟨(some 25), .lenL (.tmp 24), (some (22, false))⟩, ⟨(some 26), .bin .gtr (.tmp 25) (.val (.int .i64 64)), (some (22, false))⟩, ⟨(some 27), .pick (.tmp 22) (.val (.bool true)) (.tmp 26), none⟩, ⟨(some 28), .mov (.tmp 27), none⟩, ⟨(some 29), .faddr 2 (.tmp 1), (some (28, false))⟩, ⟨(some 30), .load none (.tmp 29), (some (28, false))⟩, ⟨(some 31), .lenL (.tmp 30), (some (28, false))⟩, ⟨(some 32), .bin .gtr (.tmp 31) (.val (.int .i64 32)), (some (28, false))⟩, ⟨(some 33), .pick (.tmp 28) (.val (.bool true)) (.tmp 32), none⟩, ⟨(some 34), .mov (.tmp 33), none⟩, ⟨(some 35), .faddr 4 (.tmp 1), (some (34, false))⟩, ⟨(some 36), .load none (.tmp 35), (some (34, false))⟩, ⟨(some 37), .lenL (.tmp 36), (some (34, false))⟩, ⟨(some 38), .bin .gtr (.tmp 37) (.val (.int .i64 4096)), (some (34, false))⟩, ⟨(some 39), .pick (.tmp 34) (.val (.bool true)) (.tmp 38), none⟩, ⟨(some 40), .mov (.tmp 39), none⟩, ⟨(some 41), .faddr 5 (.tmp 1), (some (40, false))⟩, ⟨(some 42), .load none (.tmp 41), (some (40, false))⟩, ⟨(some 43), .lenL (.tmp 42), (some (40, false))⟩, ⟨(some 44), .bin .gtr (.tmp 43) (.val (.int .i64 32)), (some (40, false))⟩, ⟨(some 45), .pick (.tmp 40) (.val (.bool true)) (.tmp 44), none⟩, ⟨(some 46), .mov (.tmp 45), none⟩, ⟨(some 47), .faddr 7 (.tmp 1), (some (46, false))⟩, ⟨(some 48), .load none (.tmp 47), (some (46, false))⟩, ⟨(some 49), .lenL (.tmp 48), (some (46, false))⟩, ⟨(some 50), .bin .gtr (.tmp 49) (.val (.int .i64 64)), (some (46, false))⟩, ⟨(some 51), .pick (.tmp 46) (.val (.bool true)) (.tmp 50), none⟩, ⟨(some 2), .mov (.tmp 51), none⟩]))
 .ret))) }
def h76 : Hints := ⟨[1], [(0, [0], []), (1, [1], [1]), (2, [], []), (3, [1], [1]), (4, [1, 3], [1]), (6, [1, 3], [1]), (7, [], []), (5, [1, 3], [1]), (8, [1], [1]), (9, [1, 4], [1]), (11, [1, 4], [1]), (12, [1, 4, 5], [1]), (14, [1, 4, 5], [1]), (15, [], []), (13, [1, 4, 5], [1]), (10, [1, 4], [1]), (16, [1], [1]), (17, [1, 6], [1]), (19, [1, 6], [1]), (20, [], []), (18, [1, 6], [1]), (21, [], [])], []⟩
def a76_R1 : AC := .keep [1] [1] (.reg [⟨(some 7), .faddr 1 (.tmp 1), none⟩, ⟨(some 8), .load none (.tmp 7), none⟩, ⟨(some 9), .lenL (.tmp 8), none⟩, ⟨(some 10), .bin .eql (.tmp 9) (.val (.int .i64 0)), none⟩, ⟨(some 11), .mov (.tmp 10), none⟩, ⟨(some 12), .faddr 6 (.tmp 1), (some (11, false))⟩, ⟨(some 13), .load none (.tmp 12), (some (11, false))⟩, ⟨(some 14), .bin .lss (.tmp 13) (.val (.int .i64 1)), (some (11, false))⟩, ⟨(some 15), .pick (.tmp 11) (.val (.bool true)) (.tmp 14), none⟩, ⟨(some 16), .mov (.tmp 15), none⟩, ⟨(some 17), .faddr 6 (.tmp 1), (some (16, false))⟩, ⟨(some 18), .load none (.tmp 17), (some (16, false))⟩, ⟨(some 19), .bin .gtr (.tmp 18) (.val (.int .i64 65536)), (some (16, false))⟩, ⟨(some 20), .pick (.tmp 16) (.val (.bool true)) (.tmp 19), none⟩, ⟨(some 21), .mov (.tmp 20), none⟩, ⟨(some 22), .faddr 1 (.tmp 1), (some (21, false))⟩, ⟨(some 23), .load none (.tmp 22), (some (21, false))⟩, ⟨(some 24), .iaddrL 3 (.tmp 23) (.val (.int .i64 0)), (some (21, false))⟩, ⟨(some 25), .faddr 0 (.tmp 24), (some (21, false))⟩, ⟨(some 26), .load none (.tmp 25), (some (21, false))⟩, ⟨(some 27), .bin .neq (.tmp 26) (.val (.int .i64 0)), (some (21, false))⟩, ⟨(some 28), .pick (.tmp 21) (.val (.bool true)) (.tmp 27), none⟩, ⟨(some 29), .mov (.tmp 28), none⟩, ⟨(some 30), .load (some 8) (.tmp 1), (some (29, false))⟩, ⟨(some 31), .faddr 3 (.tmp 1), (some (29, false))⟩, ⟨(some 32), .load none (.tmp 31), (some (29, false))⟩, ⟨(some 33), .call 110 [(.tmp 30), (.tmp 32)], (some (29, false))⟩, ⟨(some 34), .un .not (.tmp 33), (some (29, false))⟩, ⟨(some 35), .pick (.tmp 29) (.val (.bool true)) (.tmp 34), none⟩, ⟨(some 36), .mov (.tmp 35), none⟩, ⟨(some 37), .faddr 2 (.tmp 1), (some (36, false))⟩, ⟨(some 38), .load none (.tmp 37), (some (36, false))⟩, ⟨(some 39), .call 93 [(.tmp 38)], (some (36, false))⟩, ⟨(some 40), .bin .neq (.tmp 39) (.val (.int .i64 0)), (some (36, false))⟩, ⟨(some 41), .pick (.tmp 36) (.val (.bool true)) (.tmp 40), none⟩])
def a76_R2 : AC := .keep [1, 3] [1] (.dreg [(false, ⟨(some 49), .load (some 8) (.tmp 1), none⟩, false), (false, ⟨(some 50), .faddr 2 (.tmp 1), none⟩, false), (false, ⟨(some 51), .load none (.tmp 50), none⟩, false), (false, ⟨(some 52), .mov (.tmp 3), none⟩, false), (false, ⟨(some 53), .iaddrL 3 (.tmp 51) (.tmp 52), none⟩, false), (false, ⟨(some 54), .faddr 2 (.tmp 53), none⟩, false), (false, ⟨(some 55), .load none (.tmp 54), none⟩, false), (false, ⟨(some 56), .call 110 [(.tmp 49), (.tmp 55)], none⟩, false), (false, ⟨(some 57), .un .not (.tmp 56), none⟩, false), (false, ⟨(some 58), .mov (.tmp 57), none⟩, false), (false, ⟨(some 59), .faddr 2 (.tmp 1), (some (58, false))⟩, false), (false, ⟨(some 60), .load none (.tmp 59), (some (58, false))⟩, false), (false, ⟨(some 61), .mov (.tmp 3), (some (58, false))⟩, false), (false, ⟨(some 62), .iaddrL 3 (.tmp 60) (.tmp 61), (some (58, false))⟩, false), (false, ⟨(some 63), .faddr 2 (.tmp 62), (some (58, false))⟩, false), (false, ⟨(some 64), .load none (.tmp 63), (some (58, false))⟩, false), (false, ⟨(some 65), .faddr 3 (.tmp 1), (some (58, false))⟩, false), (false, ⟨(some 66), .load none (.tmp 65), (some (58, false))⟩, false), (false, ⟨(some 67), .bin .eql (.tmp 64) (.tmp 66), (some (58, false))⟩, false), (false, ⟨(some 68), .pick (.tmp 58) (.val (.bool true)) (.tmp 67), none⟩, false)])
def a76_R3 : AC := .keep [1, 4, 5] [1] (.reg [⟨(some 76), .mov (.tmp 5), none⟩, ⟨(some 77), .faddr 7 (.tmp 1), none⟩, ⟨(some 78), .load none (.tmp 77), none⟩, ⟨(some 79), .mov (.tmp 4), none⟩, ⟨(some 80), .iaddrL 1 (.tmp 78) (.tmp 79), none⟩, ⟨(some 81), .load none (.tmp 80), none⟩, ⟨(some 82), .lenL (.tmp 81), none⟩, ⟨(some 83), .bin .lss (.tmp 76) (.tmp 82), none⟩])
def a76_R4 : AC := .keep [1, 4, 5] [1] (.dreg [(false, ⟨(some 86), .faddr 7 (.tmp 1), none⟩, false), (false, ⟨(some 87), .load none (.tmp 86), none⟩, false), (false, ⟨(some 88), .mov (.tmp 4), none⟩, false), (false, ⟨(some 89), .iaddrL 1 (.tmp 87) (.tmp 88), none⟩, false), (false, ⟨(some 90), .load none (.tmp 89), none⟩, false), (false, ⟨(some 91), .mov (.tmp 5), none⟩, false), (false, ⟨(some 92), .iaddrL 1 (.tmp 90) (.tmp 91), none⟩, false), (false, ⟨(some 93), .load none (.tmp 92), none⟩, false), (false, ⟨(some 94), .bin .lss (.tmp 93) (.val (.int .i64 0)), none⟩, false), (false, ⟨(some 95), .mov (.tmp 94), none⟩, false), (false, ⟨(some 96), .faddr 7 (.tmp 1), (some (95, false))⟩, false), (false, ⟨(some 97), .load none (.tmp 96), (some (95, false))⟩, false), (false, ⟨(some 98), .mov (.tmp 4), (some (95, false))⟩, false), (false, ⟨(some 99), .iaddrL 1 (.tmp 97) (.tmp 98), (some (95, false))⟩, false), (false, ⟨(some 100), .load none (.tmp 99), (some (95, false))⟩, false), (false, ⟨(some 101), .mov (.tmp 5), (some (95, false))⟩, false), (false, ⟨(some 102), .iaddrL 1 (.tmp 100) (.tmp 101), (some (95, false))⟩, false), (false, ⟨(some 103), .load none (.tmp 102), (some (95, false))⟩, false), (false, ⟨(some 104), .faddr 4 (.tmp 1), (some (95, false))⟩, false), (false, ⟨(some 105), .load none (.tmp 104), (some (95, false))⟩, false), (false, ⟨(some 106), .lenL (.tmp 105), (some (95, false))⟩, false), (false, ⟨(some 107), .bin .geq (.tmp 103) (.tmp 106), (some (95, false))⟩, false), (false, ⟨(some 108), .pick (.tmp 95) (.val (.bool true)) (.tmp 107), none⟩, false), (false, ⟨(some 109), .mov (.tmp 108), none⟩, false), (false, ⟨(some 110), .mov (.tmp 5), (some (109, false))⟩, false), (false, ⟨(some 111), .bin .gtr (.tmp 110) (.val (.int .i64 0)), (some (109, false))⟩, false), (false, ⟨(some 112), .mov (.tmp 111), (some (109, false))⟩, false), (false, ⟨(some 113), .faddr 7 (.tmp 1), (some (112, true))⟩, false), (false, ⟨(some 114), .load none (.tmp 113), (some (112, true))⟩, false), (false, ⟨(some 115), .mov (.tmp 4), (some (112, true))⟩, false), (false, ⟨(some 116), .iaddrL 1 (.tmp 114) (.tmp 115), (some (112, true))⟩, false), (false, ⟨(some 117), .load none (.tmp 116), (some (112, true))⟩, false), (false, ⟨(some 118), .mov (.tmp 5), (some (112, true))⟩, false), (false, ⟨(some 119), .bin .sub (.tmp 118) (.val (.int .i64 1)), (some (112, true))⟩, false), (false, ⟨(some 120), .iaddrL 1 (.tmp 117) (.tmp 119), (some (112, true))⟩, false), (false, ⟨(some 121), .load none (.tmp 120), (some (112, true))⟩, false), (false, ⟨(some 122), .faddr 7 (.tmp 1), (some (112, true))⟩, false), (false, ⟨(some 123), .load none (.tmp 122), (some (112, true))⟩, false), (false, ⟨(some 124), .mov (.tmp 4), (some (112, true))⟩, false), (false, ⟨(some 125), .iaddrL 1 (.tmp 123) (.tmp 124), (some (112, true))⟩, false), (false, ⟨(some 126), .load none (.tmp 125), (some (112, true))⟩, false), (false, ⟨(some 127), .mov (.tmp 5), (some (112, true))⟩, false), (false, ⟨(some 128), .iaddrL 1 (.tmp 126) (.tmp 127), (some (112, true))⟩, false), (false, ⟨(some 129), .load none (.tmp 128), (some (112, true))⟩, false), (false, ⟨(some 130), .bin .geq (.tmp 121) (.tmp 129), (some (112, true))⟩, false), (false, ⟨(some 131), .pick (.tmp 112) (.tmp 130) (.val (.bool false)), (some (109, false))⟩, false), (false, ⟨(some 132), .pick (.tmp 109) (.val (.bool true)) (.tmp 131), none⟩, false)])
def a76_B1 : AC := (.seq (.seq (.keep [1, 6] [1] (.reg [⟨(some 133), .mov (.tmp 6), none⟩, ⟨(some 134), .faddr 1 (.tmp 1), none⟩, ⟨(some 135), .load none (.tmp 134), none⟩, ⟨(some 136), .lenL (.tmp 135), none⟩, ⟨(some 137), .bin .lss (.tmp 133) (.tmp 136), none⟩]))
 (.cond (.tmp 137) .skip (.exit 6)))
 (.seq (.block 7 (.seq (.keep [1, 6] [1] (.reg [⟨(some 140), .load (some 8) (.tmp 1), none⟩, ⟨(some 141), .mov (.tmp 6), none⟩, ⟨(some 142), .call 111 [(.tmp 140), (.tmp 141)], none⟩, ⟨(some 143), .un .not (.tmp 142), none⟩]))
 (.cond (.tmp 143) (.seq (.keep [] [] (.reg [⟨(some 2), .mov (.val (.bool false)), none⟩]))
 .ret) .skip)))
 (.keep [1, 6] [1] (.reg [⟨(some 138), .mov (.tmp 6), none⟩, ⟨(some 139), .bin .add (.tmp 138) (.val (.int .i64 1)), none⟩, ⟨(some 6), .mov (.tmp 139), none⟩]))))
def a76_L1 : AC := .loop a76_B1
theorem a76_L1_step (call : Caller) (again : AC → St → Option (Ex × St)) (s : St) : codeEv call again a76_L1 s = match codeEv call again a76_B1 s with | some (.norm, s1) => again a76_L1 s1 | r => r := rfl
def a76_B2 : AC := (.seq (.seq a76_R3
 (.cond (.tmp 83) .skip (.exit 4)))
 (.seq (.block 5 (.seq a76_R4
 (.cond (.tmp 132) (.seq (.keep [] [] (.reg [⟨(some 2), .mov (.val (.bool false)), none⟩]))
 .ret) .skip)))
 (.keep [1, 4, 5] [1] (.reg [⟨(some 84), .mov (.tmp 5), none⟩, ⟨(some 85), .bin .add (.tmp 84) (.val (.int .i64 1)), none⟩, ⟨(some 5), .mov (.tmp 85), none⟩]))))
def a76_L2 : AC := .loop a76_B2
theorem a76_L2_step (call : Caller) (again : AC → St → Option (Ex × St)) (s : St) : codeEv call again a76_L2 s = match codeEv call again a76_B2 s with | some (.norm, s1) => again a76_L2 s1 | r => r := rfl
def a76_B3 : AC := (.seq (.seq (.keep [1, 4] [1] (.reg [⟨(some 69), .mov (.tmp 4), none⟩, ⟨(some 70), .faddr 7 (.tmp 1), none⟩, ⟨(some 71), .load none (.tmp 70), none⟩, ⟨(some 72), .lenL (.tmp 71), none⟩, ⟨(some 73), .bin .lss (.tmp 69) (.tmp 72), none⟩]))
 (.cond (.tmp 73) .skip (.exit 2)))
 (.seq (.block 3 (.seq (.keep [1, 4] [1] (.reg [⟨(some 5), .mov (.val (.int .i64 0)), none⟩]))
 (.block 4 a76_L2)))
 (.keep [1, 4] [1] (.reg [⟨(some 74), .mov (.tmp 4), none⟩, ⟨(some 75), .bin .add (.tmp 74) (.val (.int .i64 1)), none⟩, ⟨(some 4), .mov (.tmp 75), none⟩]))))
def a76_L3 : AC := .loop a76_B3
theorem a76_L3_step (call : Caller) (again : AC → St → Option (Ex × St)) (s : St) : codeEv call again a76_L3 s = match codeEv call again a76_B3 s with | some (.norm, s1) => again a76_L3 s1 | r => r := rfl
def a76_B4 : AC := (.seq (.seq (.keep [1, 3] [1] (.reg [⟨(some 42), .mov (.tmp 3), none⟩, ⟨(some 43), .faddr 2 (.tmp 1), none⟩, ⟨(some 44), .load none (.tmp 43), none⟩, ⟨(some 45), .lenL (.tmp 44), none⟩, ⟨(some 46), .bin .lss (.tmp 42) (.tmp 45), none⟩]))
 (.cond (.tmp 46) .skip (.exit 0)))
 (.seq (.block 1 (.seq a76_R2
 (.cond (.tmp 68) (.seq (.keep [] [] (.reg [⟨(some 2), .mov (.val (.bool false)), none⟩]))
 .ret) .skip)))
 (.keep [1, 3] [1] (.reg [⟨(some 47), .mov (.tmp 3), none⟩, ⟨(some 48), .bin .add (.tmp 47) (.val (.int .i64 1)), none⟩, ⟨(some 3), .mov (.tmp 48), none⟩]))))
def a76_L4 : AC := .loop a76_B4
theorem a76_L4_step (call : Caller) (again : AC → St → Option (Ex × St)) (s : St) : codeEv call again a76_L4 s = match codeEv call again a76_B4 s with | some (.norm, s1) => again a76_L4 s1 | r => r := rfl
def a76 : AFn := { n := 144, np := 1, res := [.tmp 2], body :=
 (.seq (.keep [0] [] (.reg [⟨(some 1), .box (some 1) (.tmp 0), none⟩, ⟨(some 2), .mov (.val (.bool false)), none⟩]))
 (.seq (.seq a76_R1
 (.cond (.tmp 41) (.seq (.keep [] [] (.reg [⟨(some 2), .mov (.val (.bool false)), none⟩]))
 .ret) .skip))
 (.seq (.seq (.keep [1] [1] (.reg [⟨(some 3), .mov (.val (.int .i64 0)), none⟩]))
 (.block 0 a76_L4))
 (.seq (.seq (.keep [1] [1] (.reg [⟨(some 4), .mov (.val (.int .i64 0)), none⟩]))
 (.block 2 a76_L3))
 (.seq (.seq (.keep [1] [1] (.reg [⟨(some 6), .mov (.val (.int .i64 0)), none⟩]))
 (.block 6 a76_L1))
 (.seq (.keep [] [] (.reg [⟨(some 2), .mov (.val (.bool true)), none⟩]))
 .ret)))))) }
def h77 : Hints := ⟨[1], [(0, [0], []), (1, [1], [1]), (2, [1, 3], [1]), (3, [1, 3, 4], [1]), (4, [1, 3, 4, 5], [1]), (6, [1, 3, 4, 5], [1]), (5, [1, 3, 4, 5], [1]), (7, [1, 3, 4], [1]), (8, [1, 3, 4, 6], [1]), (9, [1, 3, 4, 6], [1]), (10, [1, 3, 4, 6, 7], [1]), (11, [1, 3, 4, 6, 7, 8], [1]), (13, [1, 3, 4, 6, 7, 8], [1]), (14, [1, 3, 4, 6, 7, 8, 9], [1]), (15, [1, 3, 4, 6, 7, 8, 9, 10], [1]), (17, [1, 3, 4, 6, 7, 8, 9, 10], [1]), (16, [1, 3, 4, 6, 7, 8, 9, 10], [1]), (18, [1, 3, 4, 6, 7, 8, 9], [1]), (19, [1, 3, 4, 6, 8], [1]), (12, [1, 3, 4, 6, 7, 8], [1]), (20, [1, 3, 4, 6, 7], [1]), (21, [3], []), (22, [1, 3, 4, 6, 7], [1]), (23, [3], [])], []⟩
def a77_R1 : AC := .keep [1, 3, 4, 6, 7, 8, 9, 10] [1] (.reg [⟨(some 52), .mov (.tmp 9), none⟩, ⟨(some 53), .mov (.tmp 52), none⟩, ⟨(some 54), .mov (.tmp 6), (some (53, true))⟩, ⟨(some 55), .mov (.tmp 4), (some (53, true))⟩, ⟨(some 56), .mov (.tmp 8), (some (53, true))⟩, ⟨(some 57), .iaddrL 1 (.tmp 55) (.tmp 56), (some (53, true))⟩, ⟨(some 58), .load none (.tmp 57), (some (53, true))⟩, ⟨(some 59), .mov (.tmp 10), (some (53, true))⟩, ⟨(some 60), .iaddrL 1 (.tmp 58) (.tmp 59), (some (53, true))⟩, ⟨(some 61), .load none (.tmp 60), (some (53, true))⟩, ⟨(some 62), .xm (.mlk .int ((.bool false)) false) [(.tmp 54), (.tmp 61)], (some (53, true))⟩, ⟨(some 63), .pick (.tmp 53) (.tmp 62) (.val (.bool false)), none⟩, ⟨(some 9), .mov (.tmp 63), none⟩])
def a77_R2 : AC := .keep [1, 3, 4, 6, 7] [1] (.reg [⟨(some 69), .mov (.tmp 6), none⟩, ⟨(some 70), .mov (.tmp 7), none⟩, ⟨(some 71), .mov (.tmp 3), none⟩, ⟨(some 72), .mov (.tmp 7), none⟩, ⟨(some 73), .mkslc 1 1 [(.int .i64 0)] [(0, (.tmp 72))], none⟩, ⟨(some 74), .app none 1 8 (.tmp 71) (.tmp 73), none⟩, ⟨(some 3), .mov (.tmp 74), none⟩, ⟨none, .xm (.mup .int) [(.tmp 69), (.tmp 70), (.val (.bool true))], none⟩])
def a77_B1 : AC := (.seq (.seq (.keep [1, 3, 4, 6, 7, 8, 9, 10] [1] (.reg [⟨(some 43), .mov (.tmp 10), none⟩, ⟨(some 44), .mov (.tmp 4), none⟩, ⟨(some 45), .mov (.tmp 8), none⟩, ⟨(some 46), .iaddrL 1 (.tmp 44) (.tmp 45), none⟩, ⟨(some 47), .load none (.tmp 46), none⟩, ⟨(some 48), .lenL (.tmp 47), none⟩, ⟨(some 49), .bin .lss (.tmp 43) (.tmp 48), none⟩]))
 (.cond (.tmp 49) .skip (.exit 6)))
 (.seq (.block 7 a77_R1)
 (.keep [1, 3, 4, 6, 7, 8, 9, 10] [1] (.reg [⟨(some 50), .mov (.tmp 10), none⟩, ⟨(some 51), .bin .add (.tmp 50) (.val (.int .i64 1)), none⟩, ⟨(some 10), .mov (.tmp 51), none⟩]))))
def a77_L1 : AC := .loop a77_B1
theorem a77_L1_step (call : Caller) (again : AC → St → Option (Ex × St)) (s : St) : codeEv call again a77_L1 s = match codeEv call again a77_B1 s with | some (.norm, s1) => again a77_L1 s1 | r => r := rfl
def a77_B2 : AC := (.seq (.seq (.keep [1, 3, 4, 6, 7, 8] [1] (.reg [⟨(some 35), .mov (.tmp 8), none⟩, ⟨(some 36), .bin .geq (.tmp 35) (.val (.int .i64 0)), none⟩]))
 (.cond (.tmp 36) .skip (.exit 4)))
 (.seq (.block 5 (.seq (.keep [1, 3, 4, 6, 7, 8] [1] (.reg [⟨(some 39), .mov (.tmp 6), none⟩, ⟨(some 40), .mov (.tmp 8), none⟩, ⟨(some 41), .xm (.mlk .int ((.bool false)) false) [(.tmp 39), (.tmp 40)], none⟩, ⟨(some 42), .un .not (.tmp 41), none⟩, ⟨(some 9), .mov (.tmp 42), none⟩]))
 (.seq (.seq (.keep [1, 3, 4, 6, 7, 8, 9] [1] (.reg [⟨(some 10), .mov (.val (.int .i64 0)), none⟩]))
 (.block 6 a77_L1))
 (.seq (.keep [1, 3, 4, 6, 7, 8, 9] [1] (.reg [⟨(some 64), .mov (.tmp 9), none⟩]))
 (.cond (.tmp 64) (.keep [1, 3, 4, 6, 8] [1] (.reg [⟨(some 65), .mov (.tmp 8), none⟩, ⟨(some 7), .mov (.tmp 65), none⟩])) .skip)))))
 (.keep [1, 3, 4, 6, 7, 8] [1] (.reg [⟨(some 37), .mov (.tmp 8), none⟩, ⟨(some 38), .bin .sub (.tmp 37) (.val (.int .i64 1)), none⟩, ⟨(some 8), .mov (.tmp 38), none⟩]))))
def a77_L2 : AC := .loop a77_B2
theorem a77_L2_step (call : Caller) (again : AC → St → Option (Ex × St)) (s : St) : codeEv call again a77_L2 s = match codeEv call again a77_B2 s with | some (.norm, s1) => again a77_L2 s1 | r => r := rfl
def a77_B3 : AC := (.seq (.seq (.keep [1, 3, 4, 6] [1] (.reg [⟨(some 25), .mov (.tmp 3), none⟩, ⟨(some 26), .lenL (.tmp 25), none⟩, ⟨(some 27), .faddr 1 (.tmp 1), none⟩, ⟨(some 28), .load none (.tmp 27), none⟩, ⟨(some 29), .lenL (.tmp 28), none⟩, ⟨(some 30), .bin .lss (.tmp 26) (.tmp 29), none⟩]))
 (.cond (.tmp 30) .skip (.exit 2)))
 (.block 3 (.seq (.keep [1, 3, 4, 6] [1] (.reg [⟨(some 7), .mov (.val (.int .i64 (-1))), none⟩]))
 (.seq (.seq (.keep [1, 3, 4, 6, 7] [1] (.reg [⟨(some 31), .faddr 1 (.tmp 1), none⟩, ⟨(some 32), .load none (.tmp 31), none⟩, ⟨(some 33), .lenL (.tmp 32), none⟩, ⟨(some 34), .bin .sub (.tmp 33) (.val (.int .i64 1)), none⟩, ⟨(some 8), .mov (.tmp 34), none⟩]))
 (.block 4 a77_L2))
 (.seq (.seq (.keep [1, 3, 4, 6, 7] [1] (.reg [⟨(some 66), .mov (.tmp 7), none⟩, ⟨(some 67), .bin .lss (.tmp 66) (.val (.int .i64 0)), none⟩]))
 (.cond (.tmp 67) (.seq (.keep [3] [] (.reg [⟨(some 68), .mov (.tmp 3), none⟩, ⟨(some 2), .mov (.tmp 68), none⟩]))
 .ret) .skip))
 a77_R2)))))
def a77_L3 : AC := .loop a77_B3
theorem a77_L3_step (call : Caller) (again : AC → St → Option (Ex × St)) (s : St) : codeEv call again a77_L3 s = match codeEv call again a77_B3 s with | some (.norm, s1) => again a77_L3 s1 | r => r := rfl
def a77_B4 : AC := (.seq (.seq (.keep [1, 3, 4, 5] [1] (.reg [⟨(some 11), .mov (.tmp 5), none⟩, ⟨(some 12), .faddr 1 (.tmp 1), none⟩, ⟨(some 13), .load none (.tmp 12), none⟩, ⟨(some 14), .lenL (.tmp 13), none⟩, ⟨(some 15), .bin .lss (.tmp 11) (.tmp 14), none⟩]))
 (.cond (.tmp 15) .skip (.exit 0)))
 (.seq (.block 1 (.keep [1, 3, 4, 5] [1] (.reg [⟨(some 18), .mov (.tmp 4), none⟩, ⟨(some 19), .load (some 8) (.tmp 1), none⟩, ⟨(some 20), .mov (.tmp 5), none⟩, ⟨(some 21), .call 112 [(.tmp 19), (.tmp 20)], none⟩, ⟨(some 22), .mkslc 1 1 [.nils] [(0, (.tmp 21))], none⟩, ⟨(some 23), .app none 1 24 (.tmp 18) (.tmp 22), none⟩, ⟨(some 4), .mov (.tmp 23), none⟩])))
 (.keep [1, 3, 4, 5] [1] (.reg [⟨(some 16), .mov (.tmp 5), none⟩, ⟨(some 17), .bin .add (.tmp 16) (.val (.int .i64 1)), none⟩, ⟨(some 5), .mov (.tmp 17), none⟩]))))
def a77_L4 : AC := .loop a77_B4
theorem a77_L4_step (call : Caller) (again : AC → St → Option (Ex × St)) (s : St) : codeEv call again a77_L4 s = match codeEv call again a77_B4 s with | some (.norm, s1) => again a77_L4 s1 | r => r := rfl
def a77 : AFn := { n := 76, np := 1, res := [.tmp 2], body :=
 (.seq (.keep [0] [] (.reg [⟨(some 1), .box (some 1) (.tmp 0), none⟩, ⟨(some 2), .mov (.val .nils), none⟩]))
 (.seq (.keep [1] [1] (.reg [⟨(some 3), .mov (.val .nils), none⟩]))
 (.seq (.keep [1, 3] [1] (.reg [⟨(some 4), .mov (.val .nils), none⟩]))
 (.seq (.seq (.keep [1, 3, 4] [1] (.reg [⟨(some 5), .mov (.val (.int .i64 0)), none⟩]))
 (.block 0 a77_L4))
 (.seq (.keep [1, 3, 4] [1] (.reg [⟨(some 24), .xm (.mkmap) [], none⟩, ⟨(some 6), .mov (.tmp 24), none⟩]))
 (.seq (.block 2 a77_L3)
 (.seq (.keep [3] [] (.reg [⟨(some 75), .mov (.tmp 3), none⟩, ⟨(some 2), .mov (.tmp 75), none⟩]))
 .ret))))))) }
def h85 : Hints := ⟨[], [(0, [0, 1, 2, 3, 4], []), (1, [0, 2, 3, 4], []), (2, [0, 3, 4], []), (3, [0, 4, 24, 25, 26], []), (4, [0, 4, 24, 25, 26], []), (5, [0, 4, 7, 24, 25, 26], []), (6, [0, 4, 24, 25, 26], [])], []⟩
def a85_B1 : AC := (.seq (.keep [0, 4, 24, 25, 26] [] (.reg [⟨(some 27), .bin .lss (.tmp 26) (.tmp 25), none⟩]))
 (.seq (.cond (.tmp 27) .skip (.exit 0))
 (.seq (.block 1 (.seq (.keep [0, 4, 24, 25, 26] [] (.reg [⟨(some 28), .iaddrL 1 (.tmp 24) (.tmp 26), none⟩, ⟨(some 29), .load none (.tmp 28), none⟩, ⟨(some 7), .mov (.tmp 29), none⟩]))
 (.keep [0, 4, 7, 24, 25, 26] [] (.dreg [(true, ⟨(some 30), .load none (.tmp 4), none⟩, false), (false, ⟨(some 31), .mov (.tmp 0), none⟩, false), (false, ⟨(some 32), .mov (.tmp 0), none⟩, false), (false, ⟨(some 33), .lenL (.tmp 32), none⟩, false), (false, ⟨(some 34), .mov (.tmp 0), none⟩, false), (false, ⟨(some 35), .lenL (.tmp 34), none⟩, false), (false, ⟨(some 36), .slcL 1 (.tmp 31) none (some (.tmp 33)) (some (.tmp 35)), none⟩, false), (false, ⟨(some 37), .mov (.tmp 7), none⟩, false), (false, ⟨(some 38), .mkslc 1 1 [(.int .i64 0)] [(0, (.tmp 37))], none⟩, false), (true, ⟨(some 39), .app none 1 8 (.tmp 36) (.tmp 38), none⟩, false), (false, ⟨(some 40), .callv (.tmp 30) [(.tmp 39)], none⟩, false)]))))
 (.keep [0, 4, 24, 25, 26] [] (.reg [⟨(some 41), .bin .add (.tmp 26) (.val (.int .i64 1)), none⟩, ⟨(some 26), .mov (.tmp 41), none⟩])))))
def a85_L1 : AC := .loop a85_B1
theorem a85_L1_step (call : Caller) (again : AC → St → Option (Ex × St)) (s : St) : codeEv call again a85_L1 s = match codeEv call again a85_B1 s with | some (.norm, s1) => again a85_L1 s1 | r => r := rfl
def a85 : AFn := { n := 42, np := 5, res := [], body :=
 (.seq (.keep [0, 1, 2, 3, 4] [] (.dreg [(true, ⟨(some 8), .load none (.tmp 1), none⟩, false), (false, ⟨(some 9), .mov (.tmp 0), none⟩, false), (true, ⟨(some 10), .call 86 [(.tmp 9)], none⟩, false), (false, ⟨(some 11), .mkslc 1 1 [.nils] [(0, (.tmp 10))], none⟩, false), (false, ⟨(some 12), .app none 1 24 (.tmp 8) (.tmp 11), none⟩, false), (false, ⟨none, .store 1 (.tmp 1) (.tmp 12), none⟩, false)]))
 (.seq (.seq (.keep [0, 2, 3, 4] [] (.reg [⟨(some 13), .mov (.tmp 0), none⟩, ⟨(some 14), .lenL (.tmp 13), none⟩, ⟨(some 15), .load none (.tmp 2), none⟩, ⟨(some 16), .bin .eql (.tmp 14) (.tmp 15), none⟩]))
 (.cond (.tmp 16) .ret .skip))
 (.seq (.keep [0, 3, 4] [] (.dreg [(false, ⟨(some 17), .load (some 8) (.tmp 3), none⟩, false), (false, ⟨(some 18), .mov (.tmp 0), none⟩, false), (false, ⟨(some 19), .mov (.tmp 0), none⟩, false), (false, ⟨(some 20), .lenL (.tmp 19), none⟩, false), (false, ⟨(some 21), .bin .sub (.tmp 20) (.val (.int .i64 1)), none⟩, false), (false, ⟨(some 22), .iaddrL 1 (.tmp 18) (.tmp 21), none⟩, false), (false, ⟨(some 23), .load none (.tmp 22), none⟩, false), (false, ⟨(some 24), .call 87 [(.tmp 17), (.tmp 23)], none⟩, false), (false, ⟨(some 25), .lenL (.tmp 24), none⟩, false), (false, ⟨(some 26), .mov (.val (.int .i64 0)), none⟩, false)]))
 (.block 0 a85_L1)))) }
def h86 : Hints := ⟨[], [(0, [0], []), (1, [0], []), (2, [], []), (3, [0], [])], []⟩
def a86 : AFn := { n := 8, np := 1, res := [.tmp 2], body :=
 (.seq (.keep [0] [] (.reg [⟨(some 2), .mov (.val .nils), none⟩]))
 (.seq (.seq (.keep [0] [] (.reg [⟨(some 3), .mov (.tmp 0), none⟩, ⟨(some 4), .eq false .nilS (.tmp 3) (.val .nils), none⟩]))
 (.cond (.tmp 4) (.seq (.keep [] [] (.reg [⟨(some 2), .mov (.val .nils), none⟩]))
 .ret) .skip))
 (.seq (.keep [0] [] (.reg [⟨(some 5), .mkslc 1 0 [(.int .i64 0)] [], none⟩, ⟨(some 6), .mov (.tmp 0), none⟩, ⟨(some 7), .app none 1 8 (.tmp 5) (.tmp 6), none⟩, ⟨(some 2), .mov (.tmp 7), none⟩]))
 .ret))) }
def h93 : Hints := ⟨[], [(0, [0], []), (1, [0], []), (2, [], []), (3, [0], []), (4, [0, 3], []), (6, [0, 3], []), (7, [], []), (8, [0, 3], []), (9, [0, 3, 4], []), (11, [0, 3, 4], []), (12, [], []), (10, [0, 3, 4], []), (5, [0, 3], []), (13, [], [])], []⟩
def a93_B1 : AC := (.seq (.seq (.keep [0, 3, 4] [] (.reg [⟨(some 52), .mov (.tmp 4), none⟩, ⟨(some 53), .mov (.tmp 3), none⟩, ⟨(some 54), .bin .lss (.tmp 52) (.tmp 53), none⟩]))
 (.cond (.tmp 54) .skip (.exit 2)))
 (.seq (.block 3 (.seq (.keep [0, 3, 4] [] (.dreg [(false, ⟨(some 57), .mov (.tmp 0), none⟩, false), (false, ⟨(some 58), .mov (.tmp 4), none⟩, false), (false, ⟨(some 59), .iaddrL 3 (.tmp 57) (.tmp 58), none⟩, false), (false, ⟨(some 60), .faddr 0 (.tmp 59), none⟩, false), (false, ⟨(some 61), .load none (.tmp 60), none⟩, false), (false, ⟨(some 62), .mov (.tmp 0), none⟩, false), (false, ⟨(some 63), .mov (.tmp 3), none⟩, false), (false, ⟨(some 64), .iaddrL 3 (.tmp 62) (.tmp 63), none⟩, false), (false, ⟨(some 65), .faddr 0 (.tmp 64), none⟩, false), (false, ⟨(some 66), .load none (.tmp 65), none⟩, false), (false, ⟨(some 67), .bin .eql (.tmp 61) (.tmp 66), none⟩, false)]))
 (.cond (.tmp 67) (.seq (.keep [] [] (.reg [⟨(some 2), .mov (.val (.int .i64 2)), none⟩]))
 .ret) .skip)))
 (.keep [0, 3, 4] [] (.reg [⟨(some 55), .mov (.tmp 4), none⟩, ⟨(some 56), .bin .add (.tmp 55) (.val (.int .i64 1)), none⟩, ⟨(some 4), .mov (.tmp 56), none⟩]))))
def a93_L1 : AC := .loop a93_B1
theorem a93_L1_step (call : Caller) (again : AC → St → Option (Ex × St)) (s : St) : codeEv call again a93_L1 s = match codeEv call again a93_B1 s with | some (.norm, s1) => again a93_L1 s1 | r => r := rfl
def a93_B2 : AC := (.seq (.seq (.keep [0, 3] [] (.reg [⟨(some 8), .mov (.tmp 3), none⟩, ⟨(some 9), .mov (.tmp 0), none⟩, ⟨(some 10), .lenL (.tmp 9), none⟩, ⟨(some 11), .bin .lss (.tmp 8) (.tmp 10), none⟩]))
 (.cond (.tmp 11) .skip (.exit 0)))
 (.seq (.block 1 (.seq (.seq (.keep [0, 3] [] (.reg [⟨(some 14), .mov (.tmp 0), none⟩, ⟨(some 15), .mov (.tmp 3), none⟩, ⟨(some 16), .iaddrL 3 (.tmp 14) (.tmp 15), none⟩, ⟨(some 17), .faddr 0 (.tmp 16), none⟩, ⟨(some 18), .load none (.tmp 17), none⟩, ⟨(some 19), .bin .lss (.tmp 18) (.val (.int .i64 0)), none⟩, ⟨(some 20), .mov (.tmp 19), none⟩, ⟨(some 21), .mov (.tmp 0), (some (20, false))⟩, ⟨(some 22), .mov (.tmp 3), (some (20, false))⟩, ⟨(some 23), .iaddrL 3 (.tmp 21) (.tmp 22), (some (20, false))⟩, ⟨(some 24), .faddr 0 (.tmp 23), (some (20, false))⟩, ⟨(some 25), .load none (.tmp 24), (some (20, false))⟩, ⟨(some 26), .bin .gtr (.tmp 25) (.val (.int .i64 31)), (some (20, false))⟩, ⟨(some 27), .pick (.tmp 20) (.val (.bool true)) (.tmp 26), none⟩, ⟨(some 28), .mov (.tmp 27), none⟩, ⟨(some 29), .mov (.tmp 0), (some (28, false))⟩, ⟨(some 30), .mov (.tmp 3), (some (28, false))⟩, ⟨(some 31), .iaddrL 3 (.tmp 29) (.tmp 30), (some (28, false))⟩, ⟨(some 32), .faddr 1 (.tmp 31), (some (28, false))⟩, ⟨(some 33), .load none (.tmp 32), (some (28, false))⟩, ⟨(some 34), .bin .lss (.tmp 33) (.val (.int .i64 1)), (some (28, false))⟩, ⟨(some 35), .pick (.tmp 28) (.val (.bool true)) (.tmp 34), none⟩, ⟨(some 36), .mov (.tmp 35), none⟩, ⟨(some 37), .mov (.tmp 0), (some (36, false))⟩, ⟨(some 38), .mov (.tmp 3), (some (36, false))⟩, ⟨(some 39), .iaddrL 3 (.tmp 37) (.tmp 38), (some (36, false))⟩, ⟨(some 40), .faddr 1 (.tmp 39), (some (36, false))⟩, ⟨(some 41), .load none (.tmp 40), (some (36, false))⟩, ⟨(some 42), .bin .gtr (.tmp 41) (.val (.int .i64 15)), (some (36, false))⟩, ⟨(some 43), .pick (.tmp 36) (.val (.bool true)) (.tmp 42), none⟩, ⟨(some 44), .mov (.tmp 43), none⟩, ⟨(some 45), .mov (.tmp 0), (some (44, false))⟩, ⟨(some 46), .mov (.tmp 3), (some (44, false))⟩, ⟨(some 47), .iaddrL 3 (.tmp 45) (.tmp 46), (some (44, false))⟩, ⟨(some 48), .faddr 2 (.tmp 47), (some (44, false))⟩, ⟨(some 49), .load none (.tmp 48), (some (44, false))⟩, ⟨(some 50), .bin .lss (.tmp 49) (.val (.int .i64 0)), (some (44, false))⟩, ⟨(some 51), .pick (.tmp 44) (.val (.bool true)) (.tmp 50), none⟩]))
 (.cond (.tmp 51) (.seq (.keep [] [] (.reg [⟨(some 2), .mov (.val (.int .i64 2)), none⟩]))
 .ret) .skip))
 (.seq (.keep [0, 3] [] (.reg [⟨(some 4), .mov (.val (.int .i64 0)), none⟩]))
 (.block 2 a93_L1))))
 (.keep [0, 3] [] (.reg [⟨(some 12), .mov (.tmp 3), none⟩, ⟨(some 13), .bin .add (.tmp 12) (.val (.int .i64 1)), none⟩, ⟨(some 3), .mov (.tmp 13), none⟩]))))
def a93_L2 : AC := .loop a93_B2
theorem a93_L2_step (call : Caller) (again : AC → St → Option (Ex × St)) (s : St) : codeEv call again a93_L2 s = match codeEv call again a93_B2 s with | some (.norm, s1) => again a93_L2 s1 | r => r := rfl
def a93 : AFn := { n := 68, np := 1, res := [.tmp 2], body :=
 (.seq (.keep [0] [] (.reg [⟨(some 2), .mov (.val (.int .i64 0)), none⟩]))
 (.seq (.seq (.keep [0] [] (.reg [⟨(some 5), .mov (.tmp 0), none⟩, ⟨(some 6), .lenL (.tmp 5), none⟩, ⟨(some 7), .bin .gtr (.tmp 6) (.val (.int .i64 32)), none⟩]))
 (.cond (.tmp 7) (.seq (.keep [] [] (.reg [⟨(some 2), .mov (.val (.int .i64 3)), none⟩]))
 .ret) .skip))
 (.seq (.seq (.keep [0] [] (.reg [⟨(some 3), .mov (.val (.int .i64 0)), none⟩]))
 (.block 0 a93_L2))
 (.seq (.keep [] [] (.reg [⟨(some 2), .mov (.val (.int .i64 0)), none⟩]))
 .ret)))) }
def h106 : Hints := ⟨[2], [(0, [0], []), (1, [0, 2], [2]), (2, [2, 3], [2]), (3, [2], [2]), (4, [2, 3], [2]), (5, [2, 3], [2]), (6, [2, 3], [2]), (7, [2, 3], [2]), (8, [2, 3], [2]), (9, [2, 3], [2]), (10, [2, 3], [2]), (11, [2, 3], [2]), (12, [2, 3], [2]), (13, [2], [2]), (14, [2, 3], [2]), (15, [2, 3], [2]), (16, [2], [2]), (17, [2, 3], [2]), (18, [2], [2]), (19, [2, 3], [2]), (20, [2], [2]), (21, [2, 3], [2]), (22, [2], [2]), (23, [2, 3], [2]), (24, [2], [2]), (25, [2, 3], [2]), (26, [2], [2]), (27, [2, 3], [2]), (28, [2, 3], [2]), (29, [2], [2]), (30, [2, 3], [2]), (31, [2], [2]), (32, [2], [2])], []⟩
def a106 : AFn := { n := 45, np := 1, res := [.cell 2 (some 3)], body :=
 (.seq (.keep [0] [] (.reg [⟨(some 2), .alloc (some 2) [(.int .i64 0), (.int .i64 0), (.int .i64 0)], none⟩]))
 (.seq (.seq (.keep [0, 2] [2] (.reg [⟨(some 3), .mov (.tmp 0), none⟩]))
 (.block 0 (.seq (.keep [2, 3] [2] (.reg [⟨(some 5), .bin .eql (.tmp 3) (.val (.int .i64 2)), none⟩, ⟨(some 4), .mov (.tmp 5), none⟩]))
 (.cond (.tmp 4) (.seq (.keep [2] [2] (.reg [⟨(some 6), .build [(.int .i64 0), (.int .i64 0), (.int .i64 0)] [(0, 1, (.val (.int .i64 1)))], none⟩, ⟨none, .store 3 (.tmp 2) (.tmp 6), none⟩]))
 .ret) (.seq (.seq (.keep [2, 3] [2] (.reg [⟨(some 8), .bin .eql (.tmp 3) (.val (.int .i64 4)), none⟩, ⟨(some 7), .mov (.tmp 8), none⟩]))
 (.cond (.tmp 7) .skip (.seq (.keep [2, 3] [2] (.reg [⟨(some 9), .bin .eql (.tmp 3) (.val (.int .i64 8)), none⟩, ⟨(some 7), .mov (.tmp 9), none⟩]))
 (.cond (.tmp 7) .skip (.seq (.keep [2, 3] [2] (.reg [⟨(some 10), .bin .eql (.tmp 3) (.val (.int .i64 10)), none⟩, ⟨(some 7), .mov (.tmp 10), none⟩]))
 (.cond (.tmp 7) .skip (.seq (.keep [2, 3] [2] (.reg [⟨(some 11), .bin .eql (.tmp 3) (.val (.int .i64 11)), none⟩, ⟨(some 7), .mov (.tmp 11), none⟩]))
 (.cond (.tmp 7) .skip (.seq (.keep [2, 3] [2] (.reg [⟨(some 12), .bin .eql (.tmp 3) (.val (.int .i64 15)), none⟩, ⟨(some 7), .mov (.tmp 12), none⟩]))
 (.cond (.tmp 7) .skip (.seq (.keep [2, 3] [2] (.reg [⟨(some 13), .bin .eql (.tmp 3) (.val (.int .i64 16)), none⟩, ⟨(some 7), .mov (.tmp 13), none⟩]))
 (.cond (.tmp 7) .skip (.seq (.keep [2, 3] [2] (.reg [⟨(some 14), .bin .eql (.tmp 3) (.val (.int .i64 17)), none⟩, ⟨(some 7), .mov (.tmp 14), none⟩]))
 (.cond (.tmp 7) .skip (.seq (.keep [2, 3] [2] (.reg [⟨(some 15), .bin .eql (.tmp 3) (.val (.int .i64 23)), none⟩, ⟨(some 7), .mov (.tmp 15), none⟩]))
 (.cond (.tmp 7) .skip (.keep [2, 3] [2] (.reg [⟨(some 16), .bin .eql (.tmp 3) (.val (.int .i64 24)), none⟩, ⟨(some 7), .mov (.tmp 16), none⟩]))))))))))))))))))
 (.cond (.tmp 7) (.seq (.keep [2] [2] (.reg [⟨(some 17), .build [(.int .i64 0), (.int .i64 0), (.int .i64 0)] [(0, 1, (.val (.int .i64 2)))], none⟩, ⟨none, .store 3 (.tmp 2) (.tmp 17), none⟩]))
 .ret) (.seq (.seq (.keep [2, 3] [2] (.reg [⟨(some 19), .bin .eql (.tmp 3) (.val (.int .i64 5)), none⟩, ⟨(some 18), .mov (.tmp 19), none⟩]))
 (.cond (.tmp 18) .skip (.keep [2, 3] [2] (.reg [⟨(some 20), .bin .eql (.tmp 3) (.val (.int .i64 9)), none⟩, ⟨(some 18), .mov (.tmp 20), none⟩]))))
 (.cond (.tmp 18) (.seq (.keep [2] [2] (.reg [⟨(some 21), .build [(.int .i64 0), (.int .i64 0), (.int .i64 0)] [(0, 1, (.val (.int .i64 2))), (1, 1, (.val (.int .i64 4)))], none⟩, ⟨none, .store 3 (.tmp 2) (.tmp 21), none⟩]))
 .ret) (.seq (.keep [2, 3] [2] (.reg [⟨(some 23), .bin .eql (.tmp 3) (.val (.int .i64 6)), none⟩, ⟨(some 22), .mov (.tmp 23), none⟩]))
 (.cond (.tmp 22) (.seq (.keep [2] [2] (.reg [⟨(some 24), .build [(.int .i64 0), (.int .i64 0), (.int .i64 0)] [(0, 1, (.val (.int .i64 2))), (1, 1, (.val (.int .i64 3)))], none⟩, ⟨none, .store 3 (.tmp 2) (.tmp 24), none⟩]))
 .ret) (.seq (.keep [2, 3] [2] (.reg [⟨(some 26), .bin .eql (.tmp 3) (.val (.int .i64 7)), none⟩, ⟨(some 25), .mov (.tmp 26), none⟩]))
 (.cond (.tmp 25) (.seq (.keep [2] [2] (.reg [⟨(some 27), .build [(.int .i64 0), (.int .i64 0), (.int .i64 0)] [(0, 1, (.val (.int .i64 2))), (1, 1, (.val (.int .i64 3))), (2, 1, (.val (.int .i64 4)))], none⟩, ⟨none, .store 3 (.tmp 2) (.tmp 27), none⟩]))
 .ret) (.seq (.keep [2, 3] [2] (.reg [⟨(some 29), .bin .eql (.tmp 3) (.val (.int .i64 12)), none⟩, ⟨(some 28), .mov (.tmp 29), none⟩]))
 (.cond (.tmp 28) (.seq (.keep [2] [2] (.reg [⟨(some 30), .build [(.int .i64 0), (.int .i64 0), (.int .i64 0)] [(0, 1, (.val (.int .i64 5)))], none⟩, ⟨none, .store 3 (.tmp 2) (.tmp 30), none⟩]))
 .ret) (.seq (.keep [2, 3] [2] (.reg [⟨(some 32), .bin .eql (.tmp 3) (.val (.int .i64 13)), none⟩, ⟨(some 31), .mov (.tmp 32), none⟩]))
 (.cond (.tmp 31) (.seq (.keep [2] [2] (.reg [⟨(some 33), .build [(.int .i64 0), (.int .i64 0), (.int .i64 0)] [(0, 1, (.val (.int .i64 6)))], none⟩, ⟨none, .store 3 (.tmp 2) (.tmp 33), none⟩]))
 .ret) (.seq (.keep [2, 3] [2] (.reg [⟨(some 35), .bin .eql (.tmp 3) (.val (.int .i64 14)), none⟩, ⟨(some 34), .mov (.tmp 35), none⟩]))
 (.cond (.tmp 34) (.seq (.keep [2] [2] (.reg [⟨(some 36), .build [(.int .i64 0), (.int .i64 0), (.int .i64 0)] [(0, 1, (.val (.int .i64 4)))], none⟩, ⟨none, .store 3 (.tmp 2) (.tmp 36), none⟩]))
 .ret) (.seq (.seq (.keep [2, 3] [2] (.reg [⟨(some 38), .bin .eql (.tmp 3) (.val (.int .i64 19)), none⟩, ⟨(some 37), .mov (.tmp 38), none⟩]))
 (.cond (.tmp 37) .skip (.keep [2, 3] [2] (.reg [⟨(some 39), .bin .eql (.tmp 3) (.val (.int .i64 20)), none⟩, ⟨(some 37), .mov (.tmp 39), none⟩]))))
 (.cond (.tmp 37) (.seq (.keep [2] [2] (.reg [⟨(some 40), .build [(.int .i64 0), (.int .i64 0), (.int .i64 0)] [(0, 1, (.val (.int .i64 7)))], none⟩, ⟨none, .store 3 (.tmp 2) (.tmp 40), none⟩]))
 .ret) (.seq (.keep [2, 3] [2] (.reg [⟨(some 42), .bin .eql (.tmp 3) (.val (.int .i64 21)), none⟩, ⟨(some 41), .mov (.tmp 42), none⟩]))
 (.cond (.tmp 41) (.seq (.keep [2] [2] (.reg [⟨(some 43), .build [(.int .i64 0), (.int .i64 0), (.int .i64 0)] [(0, 1, (.val (.int .i64 8)))], none⟩, ⟨none, .store 3 (.tmp 2) (.tmp 43), none⟩]))
 .ret) .skip))))))))))))))))))))))
 (.seq (.keep [2] [2] (.reg [⟨(some 44), .build [(.int .i64 0), (.int .i64 0), (.int .i64 0)] [], none⟩, ⟨none, .store 3 (.tmp 2) (.tmp 44), none⟩]))
 .ret))) }
def h107 : Hints := ⟨[], [(0, [0, 1], []), (1, [0, 1], []), (2, [1, 5], []), (3, [1], []), (4, [1, 5], []), (5, [1], []), (6, [1, 5], []), (7, [1], []), (8, [1, 5], []), (9, [1], []), (10, [1, 5], []), (11, [1], []), (12, [1, 5], []), (13, [1], []), (14, [1, 5], []), (15, [1], []), (16, [1, 5], []), (17, [1], []), (18, [1], [])], []⟩
def a107 : AFn := { n := 70, np := 2, res := [.tmp 4], body :=
 (.seq (.keep [0, 1] [] (.reg [⟨(some 4), .mov (.val (.bool false)), none⟩]))
 (.seq (.seq (.keep [0, 1] [] (.reg [⟨(some 5), .mov (.tmp 0), none⟩]))
 (.block 0 (.seq (.keep [1, 5] [] (.reg [⟨(some 7), .bin .eql (.tmp 5) (.val (.int .i64 1)), none⟩, ⟨(some 6), .mov (.tmp 7), none⟩]))
 (.cond (.tmp 6) (.seq (.keep [1] [] (.reg [⟨(some 8), .mov (.tmp 1), none⟩, ⟨(some 9), .bin .geq (.tmp 8) (.val (.int .i64 0)), none⟩, ⟨(some 10), .mov (.tmp 9), none⟩, ⟨(some 11), .mov (.tmp 1), (some (10, true))⟩, ⟨(some 12), .bin .lss (.tmp 11) (.val (.int .i64 4294967296)), (some (10, true))⟩, ⟨(some 13), .pick (.tmp 10) (.tmp 12) (.val (.bool false)), none⟩, ⟨(some 4), .mov (.tmp 13), none⟩]))
 .ret) (.seq (.keep [1, 5] [] (.reg [⟨(some 15), .bin .eql (.tmp 5) (.val (.int .i64 2)), none⟩, ⟨(some 14), .mov (.tmp 15), none⟩]))
 (.cond (.tmp 14) (.seq (.keep [1] [] (.reg [⟨(some 16), .mov (.tmp 1), none⟩, ⟨(some 17), .bin .geq (.tmp 16) (.val (.int .i64 0)), none⟩, ⟨(some 18), .mov (.tmp 17), none⟩, ⟨(some 19), .mov (.tmp 1), (some (18, true))⟩, ⟨(some 20), .bin .leq (.tmp 19) (.val (.int .i64 1048576)), (some (18, true))⟩, ⟨(some 21), .pick (.tmp 18) (.tmp 20) (.val (.bool false)), none⟩, ⟨(some 4), .mov (.tmp 21), none⟩]))
 .ret) (.seq (.keep [1, 5] [] (.reg [⟨(some 23), .bin .eql (.tmp 5) (.val (.int .i64 3)), none⟩, ⟨(some 22), .mov (.tmp 23), none⟩]))
 (.cond (.tmp 22) (.seq (.keep [1] [] (.reg [⟨(some 24), .mov (.tmp 1), none⟩, ⟨(some 25), .bin .geq (.tmp 24) (.val (.int .i64 1)), none⟩, ⟨(some 26), .mov (.tmp 25), none⟩, ⟨(some 27), .mov (.tmp 1), (some (26, true))⟩, ⟨(some 28), .bin .leq (.tmp 27) (.val (.int .i64 1048576)), (some (26, true))⟩, ⟨(some 29), .pick (.tmp 26) (.tmp 28) (.val (.bool false)), none⟩, ⟨(some 4), .mov (.tmp 29), none⟩]))
 .ret) (.seq (.keep [1, 5] [] (.reg [⟨(some 31), .bin .eql (.tmp 5) (.val (.int .i64 4)), none⟩, ⟨(some 30), .mov (.tmp 31), none⟩]))
 (.cond (.tmp 30) (.seq (.keep [1] [] (.reg [⟨(some 32), .mov (.tmp 1), none⟩, ⟨(some 33), .bin .eql (.tmp 32) (.val (.int .i64 8)), none⟩, ⟨(some 34), .mov (.tmp 33), none⟩, ⟨(some 35), .mov (.tmp 1), (some (34, false))⟩, ⟨(some 36), .bin .eql (.tmp 35) (.val (.int .i64 16)), (some (34, false))⟩, ⟨(some 37), .pick (.tmp 34) (.val (.bool true)) (.tmp 36), none⟩, ⟨(some 38), .mov (.tmp 37), none⟩, ⟨(some 39), .mov (.tmp 1), (some (38, false))⟩, ⟨(some 40), .bin .eql (.tmp 39) (.val (.int .i64 32)), (some (38, false))⟩, ⟨(some 41), .pick (.tmp 38) (.val (.bool true)) (.tmp 40), none⟩, ⟨(some 4), .mov (.tmp 41), none⟩]))
 .ret) (.seq (.keep [1, 5] [] (.reg [⟨(some 43), .bin .eql (.tmp 5) (.val (.int .i64 5)), none⟩, ⟨(some 42), .mov (.tmp 43), none⟩]))
 (.cond (.tmp 42) (.seq (.keep [1] [] (.reg [⟨(some 44), .mov (.tmp 1), none⟩, ⟨(some 45), .call 126 [(.tmp 44)], none⟩, ⟨(some 46), .bin .neq (.tmp 45) (.val (.str ⟨#[]⟩)), none⟩, ⟨(some 4), .mov (.tmp 46), none⟩]))
 .ret) (.seq (.keep [1, 5] [] (.reg [⟨(some 48), .bin .eql (.tmp 5) (.val (.int .i64 6)), none⟩, ⟨(some 47), .mov (.tmp 48), none⟩]))
 (.cond (.tmp 47) (.seq (.keep [1] [] (.reg [⟨(some 49), .mov (.tmp 1), none⟩, ⟨(some 50), .call 127 [(.tmp 49)], none⟩, ⟨(some 51), .bin .neq (.tmp 50) (.val (.str ⟨#[]⟩)), none⟩, ⟨(some 4), .mov (.tmp 51), none⟩]))
 .ret) (.seq (.keep [1, 5] [] (.reg [⟨(some 53), .bin .eql (.tmp 5) (.val (.int .i64 7)), none⟩, ⟨(some 52), .mov (.tmp 53), none⟩]))
 (.cond (.tmp 52) (.seq (.keep [1] [] (.reg [⟨(some 54), .mov (.tmp 1), none⟩, ⟨(some 55), .bin .geq (.tmp 54) (.val (.int .i64 0)), none⟩, ⟨(some 56), .mov (.tmp 55), none⟩, ⟨(some 57), .mov (.tmp 1), (some (56, true))⟩, ⟨(some 58), .bin .leq (.tmp 57) (.val (.int .i64 31)), (some (56, true))⟩, ⟨(some 59), .pick (.tmp 56) (.tmp 58) (.val (.bool false)), none⟩, ⟨(some 4), .mov (.tmp 59), none⟩]))
 .ret) (.seq (.keep [1, 5] [] (.reg [⟨(some 61), .bin .eql (.tmp 5) (.val (.int .i64 8)), none⟩, ⟨(some 60), .mov (.tmp 61), none⟩]))
 (.cond (.tmp 60) (.seq (.keep [1] [] (.reg [⟨(some 62), .mov (.tmp 1), none⟩, ⟨(some 63), .bin .geq (.tmp 62) (.val (.int .i64 0)), none⟩, ⟨(some 64), .mov (.tmp 63), none⟩, ⟨(some 65), .mov (.tmp 1), (some (64, true))⟩, ⟨(some 66), .bin .leq (.tmp 65) (.val (.int .i64 15)), (some (64, true))⟩, ⟨(some 67), .pick (.tmp 64) (.tmp 66) (.val (.bool false)), none⟩, ⟨(some 4), .mov (.tmp 67), none⟩]))
 .ret) .skip))))))))))))))))))
 (.seq (.keep [1] [] (.reg [⟨(some 68), .mov (.tmp 1), none⟩, ⟨(some 69), .bin .eql (.tmp 68) (.val (.int .i64 0)), none⟩, ⟨(some 4), .mov (.tmp 69), none⟩]))
 .ret))) }
def h110 : Hints := ⟨[2], [(0, [0, 1], []), (1, [1, 2], [2])], []⟩
def a110 : AFn := { n := 23, np := 2, res := [.tmp 4], body :=
 (.seq (.keep [0, 1] [] (.reg [⟨(some 2), .box (some 2) (.tmp 0), none⟩, ⟨(some 4), .mov (.val (.bool false)), none⟩]))
 (.seq (.keep [1, 2] [2] (.reg [⟨(some 5), .mov (.tmp 1), none⟩, ⟨(some 6), .bin .geq (.tmp 5) (.val (.int .i64 0)), none⟩, ⟨(some 7), .mov (.tmp 6), none⟩, ⟨(some 8), .mov (.tmp 1), (some (7, true))⟩, ⟨(some 9), .faddr 1 (.tmp 2), (some (7, true))⟩, ⟨(some 10), .load none (.tmp 9), (some (7, true))⟩, ⟨(some 11), .lenL (.tmp 10), (some (7, true))⟩, ⟨(some 12), .bin .lss (.tmp 8) (.tmp 11), (some (7, true))⟩, ⟨(some 13), .pick (.tmp 7) (.tmp 12) (.val (.bool false)), none⟩, ⟨(some 14), .mov (.tmp 13), none⟩, ⟨(some 15), .faddr 1 (.tmp 2), (some (14, true))⟩, ⟨(some 16), .load none (.tmp 15), (some (14, true))⟩, ⟨(some 17), .mov (.tmp 1), (some (14, true))⟩, ⟨(some 18), .iaddrL 3 (.tmp 16) (.tmp 17), (some (14, true))⟩, ⟨(some 19), .faddr 1 (.tmp 18), (some (14, true))⟩, ⟨(some 20), .load none (.tmp 19), (some (14, true))⟩, ⟨(some 21), .bin .eql (.tmp 20) (.val (.int .i64 0)), (some (14, true))⟩, ⟨(some 22), .pick (.tmp 14) (.tmp 21) (.val (.bool false)), none⟩, ⟨(some 4), .mov (.tmp 22), none⟩]))
 .ret)) }
def h111 : Hints := ⟨[2, 5], [(0, [0, 1], []), (1, [1, 2], [2]), (2, [1, 2, 5], [2, 5]), (3, [1, 2, 5, 6, 7], [2, 5]), (4, [], []), (5, [1, 2, 6, 7], [2]), (6, [1, 2, 7, 8], [2]), (8, [1, 2, 7, 8], [2]), (9, [], []), (7, [1, 2, 7, 8], [2]), (10, [2, 7], [2]), (11, [9], [])], []⟩
def a111_R1 : AC := .keep [1, 2, 5] [2, 5] (.reg [⟨(some 16), .load (some 8) (.tmp 2), none⟩, ⟨(some 17), .mov (.tmp 1), none⟩, ⟨(some 18), .call 65 [(.tmp 16), (.tmp 17)], none⟩, ⟨(some 15), .mov (.tmp 18), none⟩, ⟨(some 19), .ext (.tmp 15) 0, none⟩, ⟨(some 20), .ext (.tmp 15) 1, none⟩, ⟨(some 6), .mov (.tmp 19), none⟩, ⟨(some 7), .mov (.tmp 20), none⟩])
def a111_R2 : AC := .keep [1, 2, 5, 6, 7] [2, 5] (.reg [⟨(some 21), .mov (.tmp 6), none⟩, ⟨(some 22), .bin .lss (.tmp 21) (.val (.int .i64 0)), none⟩, ⟨(some 23), .mov (.tmp 22), none⟩, ⟨(some 24), .mov (.tmp 6), (some (23, false))⟩, ⟨(some 25), .mov (.tmp 7), (some (23, false))⟩, ⟨(some 26), .bin .geq (.tmp 24) (.tmp 25), (some (23, false))⟩, ⟨(some 27), .pick (.tmp 23) (.val (.bool true)) (.tmp 26), none⟩, ⟨(some 28), .mov (.tmp 27), none⟩, ⟨(some 29), .mov (.tmp 7), (some (28, false))⟩, ⟨(some 30), .faddr 0 (.tmp 2), (some (28, false))⟩, ⟨(some 31), .load none (.tmp 30), (some (28, false))⟩, ⟨(some 32), .lenL (.tmp 31), (some (28, false))⟩, ⟨(some 33), .bin .gtr (.tmp 29) (.tmp 32), (some (28, false))⟩, ⟨(some 34), .pick (.tmp 28) (.val (.bool true)) (.tmp 33), none⟩, ⟨(some 35), .mov (.tmp 34), none⟩, ⟨(some 36), .faddr 1 (.tmp 5), (some (35, false))⟩, ⟨(some 37), .load none (.tmp 36), (some (35, false))⟩, ⟨(some 38), .bin .lss (.tmp 37) (.val (.int .i64 0)), (some (35, false))⟩, ⟨(some 39), .pick (.tmp 35) (.val (.bool true)) (.tmp 38), none⟩, ⟨(some 40), .mov (.tmp 39), none⟩, ⟨(some 41), .faddr 1 (.tmp 5), (some (40, false))⟩, ⟨(some 42), .load none (.tmp 41), (some (40, false))⟩, ⟨(some 43), .faddr 2 (.tmp 5), (some (40, false))⟩, ⟨(some 44), .load none (.tmp 43), (some (40, false))⟩, ⟨(some 45), .bin .gtr (.tmp 42) (.tmp 44), (some (40, false))⟩, ⟨(some 46), .pick (.tmp 40) (.val (.bool true)) (.tmp 45), none⟩, ⟨(some 47), .mov (.tmp 46), none⟩, ⟨(some 48), .faddr 2 (.tmp 5), (some (47, false))⟩, ⟨(some 49), .load none (.tmp 48), (some (47, false))⟩, ⟨(some 50), .bin .gtr (.tmp 49) (.val (.int .i64 64)), (some (47, false))⟩, ⟨(some 51), .pick (.tmp 47) (.val (.bool true)) (.tmp 50), none⟩])
def a111_R3 : AC := .keep [1, 2, 7, 8] [2] (.dreg [(false, ⟨(some 58), .faddr 0 (.tmp 2), none⟩, false), (false, ⟨(some 59), .load none (.tmp 58), none⟩, false), (false, ⟨(some 60), .mov (.tmp 8), none⟩, false), (false, ⟨(some 61), .iaddrL 4 (.tmp 59) (.tmp 60), none⟩, false), (false, ⟨(some 62), .load (some 4) (.tmp 61), none⟩, false), (false, ⟨(some 63), .call 63 [(.tmp 62)], none⟩, false), (false, ⟨(some 64), .bin .neq (.tmp 63) (.val (.int .i64 0)), none⟩, false), (false, ⟨(some 65), .mov (.tmp 64), none⟩, false), (false, ⟨(some 66), .load (some 8) (.tmp 2), (some (65, false))⟩, false), (false, ⟨(some 67), .mov (.tmp 1), (some (65, false))⟩, false), (false, ⟨(some 68), .faddr 0 (.tmp 2), (some (65, false))⟩, false), (false, ⟨(some 69), .load none (.tmp 68), (some (65, false))⟩, false), (false, ⟨(some 70), .mov (.tmp 8), (some (65, false))⟩, false), (false, ⟨(some 71), .iaddrL 4 (.tmp 69) (.tmp 70), (some (65, false))⟩, false), (false, ⟨(some 72), .load (some 4) (.tmp 71), (some (65, false))⟩, false), (false, ⟨(some 73), .call 128 [(.tmp 66), (.tmp 67), (.tmp 72)], (some (65, false))⟩, false), (false, ⟨(some 74), .un .not (.tmp 73), (some (65, false))⟩, false), (false, ⟨(some 75), .pick (.tmp 65) (.val (.bool true)) (.tmp 74), none⟩, false)])
def a111_R4 : AC := .keep [2, 7] [2] (.reg [⟨(some 76), .faddr 0 (.tmp 2), none⟩, ⟨(some 77), .load none (.tmp 76), none⟩, ⟨(some 78), .mov (.tmp 7), none⟩, ⟨(some 79), .bin .sub (.tmp 78) (.val (.int .i64 1)), none⟩, ⟨(some 80), .iaddrL 4 (.tmp 77) (.tmp 79), none⟩, ⟨(some 81), .faddr 0 (.tmp 80), none⟩, ⟨(some 82), .load none (.tmp 81), none⟩, ⟨(some 9), .mov (.tmp 82), none⟩])
def a111_R5 : AC := .keep [9] [] (.reg [⟨(some 83), .mov (.tmp 9), none⟩, ⟨(some 84), .bin .eql (.tmp 83) (.val (.int .i64 1)), none⟩, ⟨(some 85), .mov (.tmp 84), none⟩, ⟨(some 86), .mov (.tmp 9), (some (85, false))⟩, ⟨(some 87), .bin .eql (.tmp 86) (.val (.int .i64 15)), (some (85, false))⟩, ⟨(some 88), .pick (.tmp 85) (.val (.bool true)) (.tmp 87), none⟩, ⟨(some 89), .mov (.tmp 88), none⟩, ⟨(some 90), .mov (.tmp 9), (some (89, false))⟩, ⟨(some 91), .bin .eql (.tmp 90) (.val (.int .i64 18)), (some (89, false))⟩, ⟨(some 92), .pick (.tmp 89) (.val (.bool true)) (.tmp 91), none⟩, ⟨(some 4), .mov (.tmp 92), none⟩])
def a111_B1 : AC := (.seq (.seq (.keep [1, 2, 7, 8] [2] (.reg [⟨(some 53), .mov (.tmp 8), none⟩, ⟨(some 54), .mov (.tmp 7), none⟩, ⟨(some 55), .bin .lss (.tmp 53) (.tmp 54), none⟩]))
 (.cond (.tmp 55) .skip (.exit 0)))
 (.seq (.block 1 (.seq a111_R3
 (.cond (.tmp 75) (.seq (.keep [] [] (.reg [⟨(some 4), .mov (.val (.bool false)), none⟩]))
 .ret) .skip)))
 (.keep [1, 2, 7, 8] [2] (.reg [⟨(some 56), .mov (.tmp 8), none⟩, ⟨(some 57), .bin .add (.tmp 56) (.val (.int .i64 1)), none⟩, ⟨(some 8), .mov (.tmp 57), none⟩]))))
def a111_L1 : AC := .loop a111_B1
theorem a111_L1_step (call : Caller) (again : AC → St → Option (Ex × St)) (s : St) : codeEv call again a111_L1 s = match codeEv call again a111_B1 s with | some (.norm, s1) => again a111_L1 s1 | r => r := rfl
def a111 : AFn := { n := 93, np := 2, res := [.tmp 4], body :=
 (.seq (.keep [0, 1] [] (.reg [⟨(some 2), .box (some 2) (.tmp 0), none⟩, ⟨(some 4), .mov (.val (.bool false)), none⟩]))
 (.seq (.keep [1, 2] [2] (.reg [⟨(some 10), .faddr 1 (.tmp 2), none⟩, ⟨(some 11), .load none (.tmp 10), none⟩, ⟨(some 12), .mov (.tmp 1), none⟩, ⟨(some 13), .iaddrL 3 (.tmp 11) (.tmp 12), none⟩, ⟨(some 14), .load (some 3) (.tmp 13), none⟩, ⟨(some 5), .alloc (some 5) [(.int .i64 0), (.int .i64 0), (.int .i64 0)], none⟩, ⟨none, .store 3 (.tmp 5) (.tmp 14), none⟩]))
 (.seq a111_R1
 (.seq (.seq a111_R2
 (.cond (.tmp 51) (.seq (.keep [] [] (.reg [⟨(some 4), .mov (.val (.bool false)), none⟩]))
 .ret) .skip))
 (.seq (.seq (.keep [1, 2, 6, 7] [2] (.reg [⟨(some 52), .mov (.tmp 6), none⟩, ⟨(some 8), .mov (.tmp 52), none⟩]))
 (.block 0 a111_L1))
 (.seq a111_R4
 (.seq a111_R5
 .ret))))))) }
def h112 : Hints := ⟨[2], [(0, [0, 1], []), (1, [1, 2], [2]), (2, [1, 2, 5], [2]), (3, [2, 5, 6, 7], [2]), (4, [2, 5, 6, 7, 8], [2]), (6, [2, 5, 6, 7, 8], [2]), (7, [2, 5, 6, 7, 8, 9], [2]), (8, [2, 5, 6, 7, 8, 9, 10], [2]), (10, [2, 5, 6, 7, 8, 9, 10], [2]), (9, [2, 5, 6, 7, 8, 9, 10], [2]), (11, [2, 5, 6, 7, 8, 9], [2]), (12, [2, 5, 6, 7, 8], [2]), (5, [2, 5, 6, 7, 8], [2]), (13, [5], [])], []⟩
def a112_R1 : AC := .keep [1, 2, 5] [2] (.reg [⟨(some 12), .load (some 8) (.tmp 2), none⟩, ⟨(some 13), .mov (.tmp 1), none⟩, ⟨(some 14), .call 65 [(.tmp 12), (.tmp 13)], none⟩, ⟨(some 11), .mov (.tmp 14), none⟩, ⟨(some 15), .ext (.tmp 11) 0, none⟩, ⟨(some 16), .ext (.tmp 11) 1, none⟩, ⟨(some 6), .mov (.tmp 15), none⟩, ⟨(some 7), .mov (.tmp 16), none⟩])
def a112_R2 : AC := .keep [2, 5, 6, 7, 8, 9, 10] [2] (.reg [⟨(some 30), .mov (.tmp 9), none⟩, ⟨(some 31), .mov (.tmp 30), none⟩, ⟨(some 32), .faddr 0 (.tmp 2), (some (31, false))⟩, ⟨(some 33), .load none (.tmp 32), (some (31, false))⟩, ⟨(some 34), .mov (.tmp 10), (some (31, false))⟩, ⟨(some 35), .iaddrL 4 (.tmp 33) (.tmp 34), (some (31, false))⟩, ⟨(some 36), .faddr 0 (.tmp 35), (some (31, false))⟩, ⟨(some 37), .load none (.tmp 36), (some (31, false))⟩, ⟨(some 38), .bin .eql (.tmp 37) (.val (.int .i64 17)), (some (31, false))⟩, ⟨(some 39), .mov (.tmp 38), (some (31, false))⟩, ⟨(some 40), .faddr 0 (.tmp 2), (some (39, true))⟩, ⟨(some 41), .load none (.tmp 40), (some (39, true))⟩, ⟨(some 42), .mov (.tmp 10), (some (39, true))⟩, ⟨(some 43), .iaddrL 4 (.tmp 41) (.tmp 42), (some (39, true))⟩, ⟨(some 44), .faddr 1 (.tmp 43), (some (39, true))⟩, ⟨(some 45), .load none (.tmp 44), (some (39, true))⟩, ⟨(some 46), .mov (.tmp 8), (some (39, true))⟩, ⟨(some 47), .bin .eql (.tmp 45) (.tmp 46), (some (39, true))⟩, ⟨(some 48), .pick (.tmp 39) (.tmp 47) (.val (.bool false)), (some (31, false))⟩, ⟨(some 49), .pick (.tmp 31) (.val (.bool true)) (.tmp 48), none⟩, ⟨(some 9), .mov (.tmp 49), none⟩])
def a112_B1 : AC := (.seq (.seq (.keep [2, 5, 6, 7, 8, 9, 10] [2] (.reg [⟨(some 25), .mov (.tmp 10), none⟩, ⟨(some 26), .mov (.tmp 7), none⟩, ⟨(some 27), .bin .lss (.tmp 25) (.tmp 26), none⟩]))
 (.cond (.tmp 27) .skip (.exit 2)))
 (.seq (.block 3 a112_R2)
 (.keep [2, 5, 6, 7, 8, 9, 10] [2] (.reg [⟨(some 28), .mov (.tmp 10), none⟩, ⟨(some 29), .bin .add (.tmp 28) (.val (.int .i64 1)), none⟩, ⟨(some 10), .mov (.tmp 29), none⟩]))))
def a112_L1 : AC := .loop a112_B1
theorem a112_L1_step (call : Caller) (again : AC → St → Option (Ex × St)) (s : St) : codeEv call again a112_L1 s = match codeEv call again a112_B1 s with | some (.norm, s1) => again a112_L1 s1 | r => r := rfl
def a112_B2 : AC := (.seq (.seq (.keep [2, 5, 6, 7, 8] [2] (.reg [⟨(some 17), .mov (.tmp 8), none⟩, ⟨(some 18), .faddr 1 (.tmp 2), none⟩, ⟨(some 19), .load none (.tmp 18), none⟩, ⟨(some 20), .lenL (.tmp 19), none⟩, ⟨(some 21), .bin .lss (.tmp 17) (.tmp 20), none⟩]))
 (.cond (.tmp 21) .skip (.exit 0)))
 (.seq (.block 1 (.seq (.keep [2, 5, 6, 7, 8] [2] (.reg [⟨(some 9), .mov (.val (.bool false)), none⟩]))
 (.seq (.seq (.keep [2, 5, 6, 7, 8, 9] [2] (.reg [⟨(some 24), .mov (.tmp 6), none⟩, ⟨(some 10), .mov (.tmp 24), none⟩]))
 (.block 2 a112_L1))
 (.seq (.keep [2, 5, 6, 7, 8, 9] [2] (.reg [⟨(some 50), .mov (.tmp 9), none⟩]))
 (.cond (.tmp 50) (.keep [2, 5, 6, 7, 8] [2] (.reg [⟨(some 51), .mov (.tmp 5), none⟩, ⟨(some 52), .mov (.tmp 8), none⟩, ⟨(some 53), .mkslc 1 1 [(.int .i64 0)] [(0, (.tmp 52))], none⟩, ⟨(some 54), .app none 1 8 (.tmp 51) (.tmp 53), none⟩, ⟨(some 5), .mov (.tmp 54), none⟩])) .skip)))))
 (.keep [2, 5, 6, 7, 8] [2] (.reg [⟨(some 22), .mov (.tmp 8), none⟩, ⟨(some 23), .bin .add (.tmp 22) (.val (.int .i64 1)), none⟩, ⟨(some 8), .mov (.tmp 23), none⟩]))))
def a112_L2 : AC := .loop a112_B2
theorem a112_L2_step (call : Caller) (again : AC → St → Option (Ex × St)) (s : St) : codeEv call again a112_L2 s = match codeEv call again a112_B2 s with | some (.norm, s1) => again a112_L2 s1 | r => r := rfl
def a112 : AFn := { n := 56, np := 2, res := [.tmp 4], body :=
 (.seq (.keep [0, 1] [] (.reg [⟨(some 2), .box (some 2) (.tmp 0), none⟩, ⟨(some 4), .mov (.val .nils), none⟩]))
 (.seq (.keep [1, 2] [2] (.reg [⟨(some 5), .mov (.val .nils), none⟩]))
 (.seq a112_R1
 (.seq (.seq (.keep [2, 5, 6, 7] [2] (.reg [⟨(some 8), .mov (.val (.int .i64 0)), none⟩]))
 (.block 0 a112_L2))
 (.seq (.keep [5] [] (.reg [⟨(some 55), .mov (.tmp 5), none⟩, ⟨(some 4), .mov (.tmp 55), none⟩]))
 .ret))))) }
def h126 : Hints := ⟨[], [(0, [0], []), (1, [0], []), (2, [0, 3], []), (3, [], []), (4, [0, 3], [])], []⟩
def a126 : AFn := { n := 17, np := 1, res := [.tmp 2], body :=
 (.seq (.keep [0] [] (.reg [⟨(some 2), .mov (.val (.str ⟨#[]⟩)), none⟩]))
 (.seq (.keep [0] [] (.reg [⟨(some 4), .mkslc 1 20 [(.str ⟨#[]⟩)] [(0, (.val (.str ⟨#[]⟩))), (1, (.val (.str ⟨#[43]⟩))), (2, (.val (.str ⟨#[45]⟩))), (3, (.val (.str ⟨#[42]⟩))), (4, (.val (.str ⟨#[47]⟩))), (5, (.val (.str ⟨#[37]⟩))), (6, (.val (.str ⟨#[115, 47]⟩))), (7, (.val (.str ⟨#[115, 37]⟩))), (8, (.val (.str ⟨#[38]⟩))), (9, (.val (.str ⟨#[124]⟩))), (10, (.val (.str ⟨#[94]⟩))), (11, (.val (.str ⟨#[60, 60]⟩))), (12, (.val (.str ⟨#[62, 62]⟩))), (13, (.val (.str ⟨#[115, 62, 62]⟩))), (14, (.val (.str ⟨#[61, 61]⟩))), (15, (.val (.str ⟨#[33, 61]⟩))), (16, (.val (.str ⟨#[60]⟩))), (17, (.val (.str ⟨#[60, 61]⟩))), (18, (.val (.str ⟨#[115, 60]⟩))), (19, (.val (.str ⟨#[115, 60, 61]⟩)))], none⟩, ⟨(some 3), .mov (.tmp 4), none⟩]))
 (.seq (.seq (.keep [0, 3] [] (.reg [⟨(some 5), .mov (.tmp 0), none⟩, ⟨(some 6), .bin .lss (.tmp 5) (.val (.int .i64 1)), none⟩, ⟨(some 7), .mov (.tmp 6), none⟩, ⟨(some 8), .mov (.tmp 0), (some (7, false))⟩, ⟨(some 9), .mov (.tmp 3), (some (7, false))⟩, ⟨(some 10), .lenL (.tmp 9), (some (7, false))⟩, ⟨(some 11), .bin .geq (.tmp 8) (.tmp 10), (some (7, false))⟩, ⟨(some 12), .pick (.tmp 7) (.val (.bool true)) (.tmp 11), none⟩]))
 (.cond (.tmp 12) (.seq (.keep [] [] (.reg [⟨(some 2), .mov (.val (.str ⟨#[]⟩)), none⟩]))
 .ret) .skip))
 (.seq (.keep [0, 3] [] (.reg [⟨(some 13), .mov (.tmp 3), none⟩, ⟨(some 14), .mov (.tmp 0), none⟩, ⟨(some 15), .iaddrL 1 (.tmp 13) (.tmp 14), none⟩, ⟨(some 16), .load none (.tmp 15), none⟩, ⟨(some 2), .mov (.tmp 16), none⟩]))
 .ret)))) }
def h127 : Hints := ⟨[], [(0, [0], []), (1, [0], []), (2, [0, 3], []), (3, [], []), (4, [0, 3], [])], []⟩
def a127 : AFn := { n := 17, np := 1, res := [.tmp 2], body :=
 (.seq (.keep [0] [] (.reg [⟨(some 2), .mov (.val (.str ⟨#[]⟩)), none⟩]))
 (.seq (.keep [0] [] (.reg [⟨(some 4), .mkslc 1 4 [(.str ⟨#[]⟩)] [(0, (.val (.str ⟨#[]⟩))), (1, (.val (.str ⟨#[110, 101, 103]⟩))), (2, (.val (.str ⟨#[110, 111, 116]⟩))), (3, (.val (.str ⟨#[122, 101, 114, 111]⟩)))], none⟩, ⟨(some 3), .mov (.tmp 4), none⟩]))
 (.seq (.seq (.keep [0, 3] [] (.reg [⟨(some 5), .mov (.tmp 0), none⟩, ⟨(some 6), .bin .lss (.tmp 5) (.val (.int .i64 1)), none⟩, ⟨(some 7), .mov (.tmp 6), none⟩, ⟨(some 8), .mov (.tmp 0), (some (7, false))⟩, ⟨(some 9), .mov (.tmp 3), (some (7, false))⟩, ⟨(some 10), .lenL (.tmp 9), (some (7, false))⟩, ⟨(some 11), .bin .geq (.tmp 8) (.tmp 10), (some (7, false))⟩, ⟨(some 12), .pick (.tmp 7) (.val (.bool true)) (.tmp 11), none⟩]))
 (.cond (.tmp 12) (.seq (.keep [] [] (.reg [⟨(some 2), .mov (.val (.str ⟨#[]⟩)), none⟩]))
 .ret) .skip))
 (.seq (.keep [0, 3] [] (.reg [⟨(some 13), .mov (.tmp 3), none⟩, ⟨(some 14), .mov (.tmp 0), none⟩, ⟨(some 15), .iaddrL 1 (.tmp 13) (.tmp 14), none⟩, ⟨(some 16), .load none (.tmp 15), none⟩, ⟨(some 2), .mov (.tmp 16), none⟩]))
 .ret)))) }
def h128 : Hints := ⟨[3, 5], [(0, [0, 1, 2], []), (1, [1, 3, 5], [3, 5]), (2, [1, 3, 5, 7, 8], [3, 5]), (3, [1, 3, 5, 7, 8, 16], [3, 5]), (4, [1, 3, 5, 7, 8, 16], [3, 5]), (5, [3, 5], [3, 5]), (6, [1, 3, 5, 7, 8, 16], [3, 5]), (7, [1, 3, 5, 7, 8, 16], [3, 5]), (8, [3, 5], [3, 5]), (9, [1, 3, 5, 7, 8, 16], [3, 5]), (10, [1, 3, 5, 7, 8, 16], [3, 5]), (11, [1, 3, 5], [3, 5]), (12, [1, 3, 5, 7, 8, 16], [3, 5]), (13, [1, 3, 5, 7, 8, 16], [3, 5]), (14, [3, 5], [3, 5]), (15, [1, 3, 5, 7, 8, 16], [3, 5]), (16, [1, 3, 5, 7, 8, 16], [3, 5]), (17, [5, 7, 8], [5]), (18, [1, 3, 5, 16], [3, 5]), (19, [3, 5], [3, 5]), (20, [1, 3, 5, 16], [3, 5]), (21, [1, 3, 5, 16], [3, 5]), (22, [3, 5], [3, 5]), (23, [1, 3, 16], [3]), (24, [1, 3], [3]), (25, [], [])], []⟩
def a128_R1 : AC := .keep [1, 3, 5] [3, 5] (.reg [⟨(some 10), .load (some 8) (.tmp 3), none⟩, ⟨(some 11), .mov (.tmp 1), none⟩, ⟨(some 12), .call 65 [(.tmp 10), (.tmp 11)], none⟩, ⟨(some 9), .mov (.tmp 12), none⟩, ⟨(some 13), .ext (.tmp 9) 0, none⟩, ⟨(some 14), .ext (.tmp 9) 1, none⟩, ⟨(some 7), .mov (.tmp 13), none⟩, ⟨(some 8), .mov (.tmp 14), none⟩])
def a128_R2 : AC := .keep [3, 5] [3, 5] (.reg [⟨(some 29), .faddr 1 (.tmp 5), none⟩, ⟨(some 30), .load none (.tmp 29), none⟩, ⟨(some 31), .faddr 2 (.tmp 5), none⟩, ⟨(some 32), .load none (.tmp 31), none⟩, ⟨(some 33), .bin .add (.tmp 30) (.tmp 32), none⟩, ⟨(some 34), .faddr 4 (.tmp 3), none⟩, ⟨(some 35), .load none (.tmp 34), none⟩, ⟨(some 36), .lenL (.tmp 35), none⟩, ⟨(some 37), .bin .leq (.tmp 33) (.tmp 36), none⟩, ⟨(some 6), .mov (.tmp 37), none⟩])
def a128_R3 : AC := .keep [1, 3, 5] [3, 5] (.dreg [(false, ⟨(some 41), .faddr 1 (.tmp 5), none⟩, false), (false, ⟨(some 42), .load none (.tmp 41), none⟩, false), (false, ⟨(some 43), .faddr 1 (.tmp 3), none⟩, false), (false, ⟨(some 44), .load none (.tmp 43), none⟩, false), (false, ⟨(some 45), .mov (.tmp 1), none⟩, false), (false, ⟨(some 46), .iaddrL 3 (.tmp 44) (.tmp 45), none⟩, false), (false, ⟨(some 47), .faddr 2 (.tmp 46), none⟩, false), (false, ⟨(some 48), .load none (.tmp 47), none⟩, false), (false, ⟨(some 49), .bin .lss (.tmp 42) (.tmp 48), none⟩, false), (false, ⟨(some 6), .mov (.tmp 49), none⟩, false)])
def a128_R4 : AC := .keep [5, 7, 8] [5] (.reg [⟨(some 62), .faddr 1 (.tmp 5), none⟩, ⟨(some 63), .load none (.tmp 62), none⟩, ⟨(some 64), .mov (.tmp 7), none⟩, ⟨(some 65), .bin .geq (.tmp 63) (.tmp 64), none⟩, ⟨(some 66), .mov (.tmp 65), none⟩, ⟨(some 67), .faddr 1 (.tmp 5), (some (66, true))⟩, ⟨(some 68), .load none (.tmp 67), (some (66, true))⟩, ⟨(some 69), .mov (.tmp 8), (some (66, true))⟩, ⟨(some 70), .bin .lss (.tmp 68) (.tmp 69), (some (66, true))⟩, ⟨(some 71), .pick (.tmp 66) (.tmp 70) (.val (.bool false)), none⟩, ⟨(some 6), .mov (.tmp 71), none⟩])
def a128 : AFn := { n := 95, np := 3, res := [.tmp 6], body :=
 (.seq (.keep [0, 1, 2] [] (.reg [⟨(some 3), .box (some 3) (.tmp 0), none⟩, ⟨(some 5), .box (some 5) (.tmp 2), none⟩, ⟨(some 6), .mov (.val (.bool false)), none⟩]))
 (.seq a128_R1
 (.seq (.seq (.keep [1, 3, 5, 7, 8] [3, 5] (.reg [⟨(some 15), .faddr 0 (.tmp 5), none⟩, ⟨(some 16), .load none (.tmp 15), none⟩]))
 (.block 0 (.seq (.seq (.keep [1, 3, 5, 7, 8, 16] [3, 5] (.reg [⟨(some 18), .bin .eql (.tmp 16) (.val (.int .i64 4)), none⟩, ⟨(some 17), .mov (.tmp 18), none⟩]))
 (.cond (.tmp 17) .skip (.keep [1, 3, 5, 7, 8, 16] [3, 5] (.reg [⟨(some 19), .bin .eql (.tmp 16) (.val (.int .i64 5)), none⟩, ⟨(some 17), .mov (.tmp 19), none⟩]))))
 (.cond (.tmp 17) (.seq (.keep [3, 5] [3, 5] (.reg [⟨(some 20), .faddr 1 (.tmp 5), none⟩, ⟨(some 21), .load none (.tmp 20), none⟩, ⟨(some 22), .faddr 4 (.tmp 3), none⟩, ⟨(some 23), .load none (.tmp 22), none⟩, ⟨(some 24), .lenL (.tmp 23), none⟩, ⟨(some 25), .bin .lss (.tmp 21) (.tmp 24), none⟩, ⟨(some 6), .mov (.tmp 25), none⟩]))
 .ret) (.seq (.seq (.keep [1, 3, 5, 7, 8, 16] [3, 5] (.reg [⟨(some 27), .bin .eql (.tmp 16) (.val (.int .i64 6)), none⟩, ⟨(some 26), .mov (.tmp 27), none⟩]))
 (.cond (.tmp 26) .skip (.keep [1, 3, 5, 7, 8, 16] [3, 5] (.reg [⟨(some 28), .bin .eql (.tmp 16) (.val (.int .i64 7)), none⟩, ⟨(some 26), .mov (.tmp 28), none⟩]))))
 (.cond (.tmp 26) (.seq a128_R2
 .ret) (.seq (.seq (.keep [1, 3, 5, 7, 8, 16] [3, 5] (.reg [⟨(some 39), .bin .eql (.tmp 16) (.val (.int .i64 8)), none⟩, ⟨(some 38), .mov (.tmp 39), none⟩]))
 (.cond (.tmp 38) .skip (.keep [1, 3, 5, 7, 8, 16] [3, 5] (.reg [⟨(some 40), .bin .eql (.tmp 16) (.val (.int .i64 9)), none⟩, ⟨(some 38), .mov (.tmp 40), none⟩]))))
 (.cond (.tmp 38) (.seq a128_R3
 .ret) (.seq (.seq (.keep [1, 3, 5, 7, 8, 16] [3, 5] (.reg [⟨(some 51), .bin .eql (.tmp 16) (.val (.int .i64 10)), none⟩, ⟨(some 50), .mov (.tmp 51), none⟩]))
 (.cond (.tmp 50) .skip (.keep [1, 3, 5, 7, 8, 16] [3, 5] (.reg [⟨(some 52), .bin .eql (.tmp 16) (.val (.int .i64 11)), none⟩, ⟨(some 50), .mov (.tmp 52), none⟩]))))
 (.cond (.tmp 50) (.seq (.keep [3, 5] [3, 5] (.reg [⟨(some 53), .faddr 1 (.tmp 5), none⟩, ⟨(some 54), .load none (.tmp 53), none⟩, ⟨(some 55), .faddr 5 (.tmp 3), none⟩, ⟨(some 56), .load none (.tmp 55), none⟩, ⟨(some 57), .lenL (.tmp 56), none⟩, ⟨(some 58), .bin .lss (.tmp 54) (.tmp 57), none⟩, ⟨(some 6), .mov (.tmp 58), none⟩]))
 .ret) (.seq (.seq (.keep [1, 3, 5, 7, 8, 16] [3, 5] (.reg [⟨(some 60), .bin .eql (.tmp 16) (.val (.int .i64 15)), none⟩, ⟨(some 59), .mov (.tmp 60), none⟩]))
 (.cond (.tmp 59) .skip (.keep [1, 3, 5, 7, 8, 16] [3, 5] (.reg [⟨(some 61), .bin .eql (.tmp 16) (.val (.int .i64 16)), none⟩, ⟨(some 59), .mov (.tmp 61), none⟩]))))
 (.cond (.tmp 59) (.seq a128_R4
 .ret) (.seq (.keep [1, 3, 5, 16] [3, 5] (.reg [⟨(some 73), .bin .eql (.tmp 16) (.val (.int .i64 17)), none⟩, ⟨(some 72), .mov (.tmp 73), none⟩]))
 (.cond (.tmp 72) (.seq (.keep [3, 5] [3, 5] (.reg [⟨(some 74), .faddr 1 (.tmp 5), none⟩, ⟨(some 75), .load none (.tmp 74), none⟩, ⟨(some 76), .faddr 1 (.tmp 3), none⟩, ⟨(some 77), .load none (.tmp 76), none⟩, ⟨(some 78), .lenL (.tmp 77), none⟩, ⟨(some 79), .bin .lss (.tmp 75) (.tmp 78), none⟩, ⟨(some 6), .mov (.tmp 79), none⟩]))
 .ret) (.seq (.seq (.keep [1, 3, 5, 16] [3, 5] (.reg [⟨(some 81), .bin .eql (.tmp 16) (.val (.int .i64 23)), none⟩, ⟨(some 80), .mov (.tmp 81), none⟩]))
 (.cond (.tmp 80) .skip (.keep [1, 3, 5, 16] [3, 5] (.reg [⟨(some 82), .bin .eql (.tmp 16) (.val (.int .i64 24)), none⟩, ⟨(some 80), .mov (.tmp 82), none⟩]))))
 (.cond (.tmp 80) (.seq (.keep [3, 5] [3, 5] (.reg [⟨(some 83), .faddr 1 (.tmp 5), none⟩, ⟨(some 84), .load none (.tmp 83), none⟩, ⟨(some 85), .faddr 7 (.tmp 3), none⟩, ⟨(some 86), .load none (.tmp 85), none⟩, ⟨(some 87), .lenL (.tmp 86), none⟩, ⟨(some 88), .bin .lss (.tmp 84) (.tmp 87), none⟩, ⟨(some 6), .mov (.tmp 88), none⟩]))
 .ret) (.seq (.keep [1, 3, 16] [3] (.reg [⟨(some 90), .bin .eql (.tmp 16) (.val (.int .i64 1)), none⟩, ⟨(some 89), .mov (.tmp 90), none⟩]))
 (.cond (.tmp 89) (.seq (.keep [1, 3] [3] (.reg [⟨(some 91), .mov (.tmp 1), none⟩, ⟨(some 92), .faddr 3 (.tmp 3), none⟩, ⟨(some 93), .load none (.tmp 92), none⟩, ⟨(some 94), .bin .eql (.tmp 91) (.tmp 93), none⟩, ⟨(some 6), .mov (.tmp 94), none⟩]))
 .ret) .skip))))))))))))))))))
 (.seq (.keep [] [] (.reg [⟨(some 6), .mov (.val (.bool true)), none⟩]))
 .ret)))) }
theorem t8 : trFn Tryd.prog h8 Tryd.f8 = some a8 := by kernel_rfl
theorem t13 : trFn Tryd.prog h13 Tryd.f13 = some a13 := by kernel_rfl
theorem t37 : trFn Tryd.prog h37 Tryd.f37 = some a37 := by kernel_rfl
theorem t38 : trFn Tryd.prog h38 Tryd.f38 = some a38 := by kernel_rfl
theorem t44 : trFn Tryd.prog h44 Tryd.f44 = some a44 := by kernel_rfl
theorem t46 : trFn Tryd.prog h46 Tryd.f46 = some a46 := by kernel_rfl
theorem t63 : trFn Tryd.prog h63 Tryd.f63 = some a63 := by kernel_rfl
theorem t65 : trFn Tryd.prog h65 Tryd.f65 = some a65 := by kernel_rfl
theorem t75 : trFn Tryd.prog h75 Tryd.f75 = some a75 := by kernel_rfl
theorem t76 : trFn Tryd.prog h76 Tryd.f76 = some a76 := by kernel_rfl
theorem t77 : trFn Tryd.prog h77 Tryd.f77 = some a77 := by kernel_rfl
theorem t85 : trFn Tryd.prog h85 Tryd.f85 = some a85 := by kernel_rfl
theorem t86 : trFn Tryd.prog h86 Tryd.f86 = some a86 := by kernel_rfl
theorem t93 : trFn Tryd.prog h93 Tryd.f93 = some a93 := by kernel_rfl
theorem t106 : trFn Tryd.prog h106 Tryd.f106 = some a106 := by kernel_rfl
theorem t107 : trFn Tryd.prog h107 Tryd.f107 = some a107 := by kernel_rfl
theorem t110 : trFn Tryd.prog h110 Tryd.f110 = some a110 := by kernel_rfl
theorem t111 : trFn Tryd.prog h111 Tryd.f111 = some a111 := by kernel_rfl
theorem t112 : trFn Tryd.prog h112 Tryd.f112 = some a112 := by kernel_rfl
theorem t126 : trFn Tryd.prog h126 Tryd.f126 = some a126 := by kernel_rfl
theorem t127 : trFn Tryd.prog h127 Tryd.f127 = some a127 := by kernel_rfl
theorem t128 : trFn Tryd.prog h128 Tryd.f128 = some a128 := by kernel_rfl
def a79 : AFn := primFn sortEv
def a120 : AFn := primFn compactEv
def a36 : AFn := primFn (closedEv blocks (.bool true))
def A : Nat → Option AFn := lkF [(8, a8), (13, a13), (36, a36), (37, a37), (38, a38), (44, a44), (45, a45), (46, a46), (54, a54), (63, a63), (65, a65), (67, a67), (75, a75), (76, a76), (77, a77), (79, a79), (85, a85), (86, a86), (87, a87), (93, a93), (106, a106), (107, a107), (109, a109), (110, a110), (111, a111), (112, a112), (119, a119), (120, a120), (122, a122), (126, a126), (127, a127), (128, a128), (150, a150), (159, a159), (160, a160), (163, a163), (180, a180), (181, a181), (182, a182), (183, a183), (184, a184), (185, a185), (186, a186), (187, a187), (188, a188), (189, a189), (190, a190)]
theorem A_ok : AOk Tryd.prog A := lkF_ok ⟨.inl ⟨h8, Tryd.f8, Tryd.func8, t8⟩,
  .inl ⟨h13, Tryd.f13, Tryd.func13, t13⟩,
  .inr ⟨_, rfl, lives36⟩,
  .inl ⟨h37, Tryd.f37, Tryd.func37, t37⟩,
  .inl ⟨h38, Tryd.f38, Tryd.func38, t38⟩,
  .inl ⟨h44, Tryd.f44, Tryd.func44, t44⟩,
  .inl ⟨h45, Tryd.f45, Tryd.func45, t45⟩,
  .inl ⟨h46, Tryd.f46, Tryd.func46, t46⟩,
  .inl ⟨h54, Tryd.f54, Tryd.func54, t54⟩,
  .inl ⟨h63, Tryd.f63, Tryd.func63, t63⟩,
  .inl ⟨h65, Tryd.f65, Tryd.func65, t65⟩,
  .inl ⟨h67, Tryd.f67, Tryd.func67, t67⟩,
  .inl ⟨h75, Tryd.f75, Tryd.func75, t75⟩,
  .inl ⟨h76, Tryd.f76, Tryd.func76, t76⟩,
  .inl ⟨h77, Tryd.f77, Tryd.func77, t77⟩,
  .inr ⟨_, rfl, sort79⟩,
  .inl ⟨h85, Tryd.f85, Tryd.func85, t85⟩,
  .inl ⟨h86, Tryd.f86, Tryd.func86, t86⟩,
  .inl ⟨h87, Tryd.f87, Tryd.func87, t87⟩,
  .inl ⟨h93, Tryd.f93, Tryd.func93, t93⟩,
  .inl ⟨h106, Tryd.f106, Tryd.func106, t106⟩,
  .inl ⟨h107, Tryd.f107, Tryd.func107, t107⟩,
  .inl ⟨h109, Tryd.f109, Tryd.func109, t109⟩,
  .inl ⟨h110, Tryd.f110, Tryd.func110, t110⟩,
  .inl ⟨h111, Tryd.f111, Tryd.func111, t111⟩,
  .inl ⟨h112, Tryd.f112, Tryd.func112, t112⟩,
  .inl ⟨h119, Tryd.f119, Tryd.func119, t119⟩,
  .inr ⟨_, rfl, compact120⟩,
  .inl ⟨h122, Tryd.f122, Tryd.func122, t122⟩,
  .inl ⟨h126, Tryd.f126, Tryd.func126, t126⟩,
  .inl ⟨h127, Tryd.f127, Tryd.func127, t127⟩,
  .inl ⟨h128, Tryd.f128, Tryd.func128, t128⟩,
  .inl ⟨h150, Tryd.f150, Tryd.func150, t150⟩,
  .inl ⟨h159, Tryd.f159, Tryd.func159, t159⟩,
  .inl ⟨h160, Tryd.f160, Tryd.func160, t160⟩,
  .inl ⟨h163, Tryd.f163, Tryd.func163, t163⟩,
  .inl ⟨h180, Tryd.f180, Tryd.func180, t180⟩,
  .inl ⟨h181, Tryd.f181, Tryd.func181, t181⟩,
  .inl ⟨h182, Tryd.f182, Tryd.func182, t182⟩,
  .inl ⟨h183, Tryd.f183, Tryd.func183, t183⟩,
  .inl ⟨h184, Tryd.f184, Tryd.func184, t184⟩,
  .inl ⟨h185, Tryd.f185, Tryd.func185, t185⟩,
  .inl ⟨h186, Tryd.f186, Tryd.func186, t186⟩,
  .inl ⟨h187, Tryd.f187, Tryd.func187, t187⟩,
  .inl ⟨h188, Tryd.f188, Tryd.func188, t188⟩,
  .inl ⟨h189, Tryd.f189, Tryd.func189, t189⟩,
  .inl ⟨h190, Tryd.f190, Tryd.func190, t190⟩, trivial⟩
theorem run_8 (n : Nat) (args : List AV) (m : Mem) : run A (n + 1) 8 args m = fnEv (run A n) (ev A n).2 a8 args m := run_of rfl n args m
theorem run_13 (n : Nat) (args : List AV) (m : Mem) : run A (n + 1) 13 args m = fnEv (run A n) (ev A n).2 a13 args m := run_of rfl n args m
theorem run_36 (n : Nat) (args : List AV) (m : Mem) : run A (n + 1) 36 args m = fnEv (run A n) (ev A n).2 a36 args m := run_of rfl n args m
theorem run_37 (n : Nat) (args : List AV) (m : Mem) : run A (n + 1) 37 args m = fnEv (run A n) (ev A n).2 a37 args m := run_of rfl n args m
theorem run_38 (n : Nat) (args : List AV) (m : Mem) : run A (n + 1) 38 args m = fnEv (run A n) (ev A n).2 a38 args m := run_of rfl n args m
theorem run_44 (n : Nat) (args : List AV) (m : Mem) : run A (n + 1) 44 args m = fnEv (run A n) (ev A n).2 a44 args m := run_of rfl n args m
theorem run_45 (n : Nat) (args : List AV) (m : Mem) : run A (n + 1) 45 args m = fnEv (run A n) (ev A n).2 a45 args m := run_of rfl n args m
theorem run_46 (n : Nat) (args : List AV) (m : Mem) : run A (n + 1) 46 args m = fnEv (run A n) (ev A n).2 a46 args m := run_of rfl n args m
theorem run_54 (n : Nat) (args : List AV) (m : Mem) : run A (n + 1) 54 args m = fnEv (run A n) (ev A n).2 a54 args m := run_of rfl n args m
theorem run_63 (n : Nat) (args : List AV) (m : Mem) : run A (n + 1) 63 args m = fnEv (run A n) (ev A n).2 a63 args m := run_of rfl n args m
theorem run_65 (n : Nat) (args : List AV) (m : Mem) : run A (n + 1) 65 args m = fnEv (run A n) (ev A n).2 a65 args m := run_of rfl n args m
theorem run_67 (n : Nat) (args : List AV) (m : Mem) : run A (n + 1) 67 args m = fnEv (run A n) (ev A n).2 a67 args m := run_of rfl n args m
theorem run_75 (n : Nat) (args : List AV) (m : Mem) : run A (n + 1) 75 args m = fnEv (run A n) (ev A n).2 a75 args m := run_of rfl n args m
theorem run_76 (n : Nat) (args : List AV) (m : Mem) : run A (n + 1) 76 args m = fnEv (run A n) (ev A n).2 a76 args m := run_of rfl n args m
theorem run_77 (n : Nat) (args : List AV) (m : Mem) : run A (n + 1) 77 args m = fnEv (run A n) (ev A n).2 a77 args m := run_of rfl n args m
theorem run_79 (n : Nat) (args : List AV) (m : Mem) : run A (n + 1) 79 args m = fnEv (run A n) (ev A n).2 a79 args m := run_of rfl n args m
theorem run_85 (n : Nat) (args : List AV) (m : Mem) : run A (n + 1) 85 args m = fnEv (run A n) (ev A n).2 a85 args m := run_of rfl n args m
theorem run_86 (n : Nat) (args : List AV) (m : Mem) : run A (n + 1) 86 args m = fnEv (run A n) (ev A n).2 a86 args m := run_of rfl n args m
theorem run_87 (n : Nat) (args : List AV) (m : Mem) : run A (n + 1) 87 args m = fnEv (run A n) (ev A n).2 a87 args m := run_of rfl n args m
theorem run_93 (n : Nat) (args : List AV) (m : Mem) : run A (n + 1) 93 args m = fnEv (run A n) (ev A n).2 a93 args m := run_of rfl n args m
theorem run_106 (n : Nat) (args : List AV) (m : Mem) : run A (n + 1) 106 args m = fnEv (run A n) (ev A n).2 a106 args m := run_of rfl n args m
theorem run_107 (n : Nat) (args : List AV) (m : Mem) : run A (n + 1) 107 args m = fnEv (run A n) (ev A n).2 a107 args m := run_of rfl n args m
theorem run_109 (n : Nat) (args : List AV) (m : Mem) : run A (n + 1) 109 args m = fnEv (run A n) (ev A n).2 a109 args m := run_of rfl n args m
theorem run_110 (n : Nat) (args : List AV) (m : Mem) : run A (n + 1) 110 args m = fnEv (run A n) (ev A n).2 a110 args m := run_of rfl n args m
theorem run_111 (n : Nat) (args : List AV) (m : Mem) : run A (n + 1) 111 args m = fnEv (run A n) (ev A n).2 a111 args m := run_of rfl n args m
theorem run_112 (n : Nat) (args : List AV) (m : Mem) : run A (n + 1) 112 args m = fnEv (run A n) (ev A n).2 a112 args m := run_of rfl n args m
theorem run_119 (n : Nat) (args : List AV) (m : Mem) : run A (n + 1) 119 args m = fnEv (run A n) (ev A n).2 a119 args m := run_of rfl n args m
theorem run_120 (n : Nat) (args : List AV) (m : Mem) : run A (n + 1) 120 args m = fnEv (run A n) (ev A n).2 a120 args m := run_of rfl n args m
theorem run_122 (n : Nat) (args : List AV) (m : Mem) : run A (n + 1) 122 args m = fnEv (run A n) (ev A n).2 a122 args m := run_of rfl n args m
theorem run_126 (n : Nat) (args : List AV) (m : Mem) : run A (n + 1) 126 args m = fnEv (run A n) (ev A n).2 a126 args m := run_of rfl n args m
theorem run_127 (n : Nat) (args : List AV) (m : Mem) : run A (n + 1) 127 args m = fnEv (run A n) (ev A n).2 a127 args m := run_of rfl n args m
theorem run_128 (n : Nat) (args : List AV) (m : Mem) : run A (n + 1) 128 args m = fnEv (run A n) (ev A n).2 a128 args m := run_of rfl n args m
theorem run_150 (n : Nat) (args : List AV) (m : Mem) : run A (n + 1) 150 args m = fnEv (run A n) (ev A n).2 a150 args m := run_of rfl n args m
theorem run_159 (n : Nat) (args : List AV) (m : Mem) : run A (n + 1) 159 args m = fnEv (run A n) (ev A n).2 a159 args m := run_of rfl n args m
theorem run_160 (n : Nat) (args : List AV) (m : Mem) : run A (n + 1) 160 args m = fnEv (run A n) (ev A n).2 a160 args m := run_of rfl n args m
theorem run_163 (n : Nat) (args : List AV) (m : Mem) : run A (n + 1) 163 args m = fnEv (run A n) (ev A n).2 a163 args m := run_of rfl n args m
theorem run_180 (n : Nat) (args : List AV) (m : Mem) : run A (n + 1) 180 args m = fnEv (run A n) (ev A n).2 a180 args m := run_of rfl n args m
theorem run_181 (n : Nat) (args : List AV) (m : Mem) : run A (n + 1) 181 args m = fnEv (run A n) (ev A n).2 a181 args m := run_of rfl n args m
theorem run_182 (n : Nat) (args : List AV) (m : Mem) : run A (n + 1) 182 args m = fnEv (run A n) (ev A n).2 a182 args m := run_of rfl n args m
theorem run_183 (n : Nat) (args : List AV) (m : Mem) : run A (n + 1) 183 args m = fnEv (run A n) (ev A n).2 a183 args m := run_of rfl n args m
theorem run_184 (n : Nat) (args : List AV) (m : Mem) : run A (n + 1) 184 args m = fnEv (run A n) (ev A n).2 a184 args m := run_of rfl n args m
theorem run_185 (n : Nat) (args : List AV) (m : Mem) : run A (n + 1) 185 args m = fnEv (run A n) (ev A n).2 a185 args m := run_of rfl n args m
theorem run_186 (n : Nat) (args : List AV) (m : Mem) : run A (n + 1) 186 args m = fnEv (run A n) (ev A n).2 a186 args m := run_of rfl n args m
theorem run_187 (n : Nat) (args : List AV) (m : Mem) : run A (n + 1) 187 args m = fnEv (run A n) (ev A n).2 a187 args m := run_of rfl n args m
theorem run_188 (n : Nat) (args : List AV) (m : Mem) : run A (n + 1) 188 args m = fnEv (run A n) (ev A n).2 a188 args m := run_of rfl n args m
theorem run_189 (n : Nat) (args : List AV) (m : Mem) : run A (n + 1) 189 args m = fnEv (run A n) (ev A n).2 a189 args m := run_of rfl n args m
theorem run_190 (n : Nat) (args : List AV) (m : Mem) : run A (n + 1) 190 args m = fnEv (run A n) (ev A n).2 a190 args m := run_of rfl n args m
end
end Go.Proofs.YtkmbepgofajfkaaDoor
