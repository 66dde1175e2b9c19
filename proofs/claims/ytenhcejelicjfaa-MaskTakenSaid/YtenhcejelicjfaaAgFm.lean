/- The functions of this seat, as the abstract machine has them; each is what its translation out of the program gives. Made by program. -/
import Derived.Test.YtenhcejelicjfaaProg
import Derived.Test.YtenhcejelicjfaaAgSym
namespace Go.Proofs.Ytenhcejelicjfaa
open AG
set_option maxRecDepth 100000
set_option maxHeartbeats 4000000
def h3 : Hints := ⟨[], [(0, [0, 1, 2], []), (1, [0, 1, 2], []), (2, [], []), (3, [0, 1, 2], []), (4, [], []), (5, [0, 1, 2], []), (6, [0, 1, 2, 7], []), (7, [], []), (8, [0, 2, 7], []), (9, [2, 7, 8], []), (10, [2, 7, 8, 9], []), (12, [2, 7, 8, 9], []), (13, [2, 7, 8, 9, 10], []), (15, [2, 7, 8, 9, 10], []), (16, [], []), (17, [2, 7, 8, 9, 10], []), (18, [2, 7, 8, 9, 10], []), (14, [2, 7, 8, 9, 10], []), (11, [2, 7, 8, 9], []), (19, [7, 8], [])]⟩
def a3_R1 : AC := .keep [0, 1, 2, 7] [] (.reg [⟨(some 20), .mov (.tmp 0), none⟩, ⟨(some 21), .mov (.tmp 7), none⟩, ⟨(some 22), .bin .andNot (.tmp 20) (.tmp 21), none⟩, ⟨(some 23), .bin .neq (.tmp 22) (.val (.int .u32 0)), none⟩, ⟨(some 24), .mov (.tmp 23), none⟩, ⟨(some 25), .mov (.tmp 7), (some (24, false))⟩, ⟨(some 26), .mov (.tmp 2), (some (24, false))⟩, ⟨(some 27), .call 6 [(.tmp 25), (.tmp 26)], (some (24, false))⟩, ⟨(some 28), .mov (.tmp 7), (some (24, false))⟩, ⟨(some 29), .bin .neq (.tmp 27) (.tmp 28), (some (24, false))⟩, ⟨(some 30), .pick (.tmp 24) (.val (.bool true)) (.tmp 29), none⟩, ⟨(some 31), .mov (.tmp 30), none⟩, ⟨(some 32), .mov (.tmp 7), (some (31, false))⟩, ⟨(some 33), .mov (.tmp 0), (some (31, false))⟩, ⟨(some 34), .mov (.tmp 1), (some (31, false))⟩, ⟨(some 35), .bin .or (.tmp 33) (.tmp 34), (some (31, false))⟩, ⟨(some 36), .mov (.tmp 2), (some (31, false))⟩, ⟨(some 37), .call 6 [(.tmp 35), (.tmp 36)], (some (31, false))⟩, ⟨(some 38), .bin .andNot (.tmp 32) (.tmp 37), (some (31, false))⟩, ⟨(some 39), .bin .neq (.tmp 38) (.val (.int .u32 0)), (some (31, false))⟩, ⟨(some 40), .pick (.tmp 31) (.val (.bool true)) (.tmp 39), none⟩])
def a3_R2 : AC := .keep [2, 7, 8, 9, 10] [] (.reg [⟨(some 46), .mov (.tmp 10), none⟩, ⟨(some 47), .bin .lss (.tmp 46) (.val (.int .i64 32)), none⟩, ⟨(some 48), .mov (.tmp 47), none⟩, ⟨(some 49), .mov (.tmp 10), (some (48, true))⟩, ⟨(some 50), .mov (.tmp 2), (some (48, true))⟩, ⟨(some 51), .lenL (.tmp 50), (some (48, true))⟩, ⟨(some 52), .bin .lss (.tmp 49) (.tmp 51), (some (48, true))⟩, ⟨(some 53), .pick (.tmp 48) (.tmp 52) (.val (.bool false)), none⟩])
def a3_R3 : AC := .keep [2, 7, 8, 9, 10] [] (.reg [⟨(some 56), .mov (.tmp 7), none⟩, ⟨(some 57), .mov (.tmp 10), none⟩, ⟨(some 58), .conv .u64 (.tmp 57), none⟩, ⟨(some 59), .bin .shr (.tmp 56) (.tmp 58), none⟩, ⟨(some 60), .bin .and (.tmp 59) (.val (.int .u32 1)), none⟩, ⟨(some 61), .bin .eql (.tmp 60) (.val (.int .u32 1)), none⟩, ⟨(some 62), .mov (.tmp 61), none⟩, ⟨(some 63), .mov (.tmp 2), (some (62, true))⟩, ⟨(some 64), .mov (.tmp 10), (some (62, true))⟩, ⟨(some 65), .iaddrL 1 (.tmp 63) (.tmp 64), (some (62, true))⟩, ⟨(some 66), .load none (.tmp 65), (some (62, true))⟩, ⟨(some 67), .mov (.tmp 7), (some (62, true))⟩, ⟨(some 68), .bin .andNot (.tmp 66) (.tmp 67), (some (62, true))⟩, ⟨(some 69), .bin .neq (.tmp 68) (.val (.int .u32 0)), (some (62, true))⟩, ⟨(some 70), .pick (.tmp 62) (.tmp 69) (.val (.bool false)), none⟩])
def a3_B1 : AC := (.seq (.seq a3_R2
 (.cond (.tmp 53) .skip (.exit 2)))
 (.seq (.block 3 (.seq (.seq a3_R3
 (.cond (.tmp 70) (.seq (.keep [] [] (.reg [⟨(some 6), .mov (.val (.bool false)), none⟩]))
 .ret) .skip))
 (.seq (.keep [2, 7, 8, 9, 10] [] (.reg [⟨(some 71), .mov (.tmp 8), none⟩, ⟨(some 72), .mov (.tmp 10), none⟩, ⟨(some 73), .conv .u64 (.tmp 72), none⟩, ⟨(some 74), .bin .shr (.tmp 71) (.tmp 73), none⟩, ⟨(some 75), .bin .and (.tmp 74) (.val (.int .u32 1)), none⟩, ⟨(some 76), .bin .eql (.tmp 75) (.val (.int .u32 1)), none⟩]))
 (.cond (.tmp 76) (.keep [2, 7, 8, 9, 10] [] (.reg [⟨(some 77), .mov (.tmp 8), none⟩, ⟨(some 78), .mov (.tmp 2), none⟩, ⟨(some 79), .mov (.tmp 10), none⟩, ⟨(some 80), .iaddrL 1 (.tmp 78) (.tmp 79), none⟩, ⟨(some 81), .load none (.tmp 80), none⟩, ⟨(some 82), .bin .or (.tmp 77) (.tmp 81), none⟩, ⟨(some 8), .mov (.tmp 82), none⟩])) .skip))))
 (.keep [2, 7, 8, 9, 10] [] (.reg [⟨(some 54), .mov (.tmp 10), none⟩, ⟨(some 55), .bin .add (.tmp 54) (.val (.int .i64 1)), none⟩, ⟨(some 10), .mov (.tmp 55), none⟩]))))
def a3_L1 : AC := .loop a3_B1
theorem a3_L1_step (call : Caller) (again : AC → St → Option (Ex × St)) (s : St) : codeEv call again a3_L1 s = match codeEv call again a3_B1 s with | some (.norm, s1) => again a3_L1 s1 | r => r := rfl
def a3_B2 : AC := (.seq (.seq (.keep [2, 7, 8, 9] [] (.reg [⟨(some 42), .mov (.tmp 9), none⟩, ⟨(some 43), .bin .lss (.tmp 42) (.val (.int .i64 33)), none⟩]))
 (.cond (.tmp 43) .skip (.exit 0)))
 (.seq (.block 1 (.seq (.keep [2, 7, 8, 9] [] (.reg [⟨(some 10), .mov (.val (.int .i64 0)), none⟩]))
 (.block 2 a3_L1)))
 (.keep [2, 7, 8, 9] [] (.reg [⟨(some 44), .mov (.tmp 9), none⟩, ⟨(some 45), .bin .add (.tmp 44) (.val (.int .i64 1)), none⟩, ⟨(some 9), .mov (.tmp 45), none⟩]))))
def a3_L2 : AC := .loop a3_B2
theorem a3_L2_step (call : Caller) (again : AC → St → Option (Ex × St)) (s : St) : codeEv call again a3_L2 s = match codeEv call again a3_B2 s with | some (.norm, s1) => again a3_L2 s1 | r => r := rfl
def a3 : AFn := { n := 86, np := 3, res := [.tmp 6], body :=
 (.seq (.keep [0, 1, 2] [] (.reg [⟨(some 6), .mov (.val (.bool false)), none⟩]))
 (.seq (.seq (.keep [0, 1, 2] [] (.reg [⟨(some 11), .call 5 [], none⟩, ⟨(some 12), .un .not (.tmp 11), none⟩]))
 (.cond (.tmp 12) (.seq (.keep [] [] (.reg [⟨(some 6), .mov (.val (.bool false)), none⟩]))
 .ret) .skip))
 (.seq (.seq (.keep [0, 1, 2] [] (.reg [⟨(some 13), .mov (.tmp 2), none⟩, ⟨(some 14), .lenL (.tmp 13), none⟩, ⟨(some 15), .bin .gtr (.tmp 14) (.val (.int .i64 40)), none⟩]))
 (.cond (.tmp 15) (.seq (.keep [] [] (.reg [⟨(some 6), .mov (.val (.bool true)), none⟩]))
 .ret) .skip))
 (.seq (.keep [0, 1, 2] [] (.reg [⟨(some 16), .mov (.tmp 0), none⟩, ⟨(some 17), .mov (.tmp 2), none⟩, ⟨(some 18), .call 7 [(.tmp 17)], none⟩, ⟨(some 19), .call 6 [(.tmp 16), (.tmp 18)], none⟩, ⟨(some 7), .mov (.tmp 19), none⟩]))
 (.seq (.seq a3_R1
 (.cond (.tmp 40) (.seq (.keep [] [] (.reg [⟨(some 6), .mov (.val (.bool false)), none⟩]))
 .ret) .skip))
 (.seq (.keep [0, 2, 7] [] (.reg [⟨(some 41), .mov (.tmp 0), none⟩, ⟨(some 8), .mov (.tmp 41), none⟩]))
 (.seq (.seq (.keep [2, 7, 8] [] (.reg [⟨(some 9), .mov (.val (.int .i64 0)), none⟩]))
 (.block 0 a3_L2))
 (.seq (.keep [7, 8] [] (.reg [⟨(some 83), .mov (.tmp 7), none⟩, ⟨(some 84), .mov (.tmp 8), none⟩, ⟨(some 85), .bin .eql (.tmp 83) (.tmp 84), none⟩, ⟨(some 6), .mov (.tmp 85), none⟩]))
 .ret)))))))) }
def h4 : Hints := ⟨[7, 8, 22], [(0, [0, 1, 2, 3, 4, 5, 6], []), (1, [2, 3, 4, 5, 6, 7, 8], [7, 8]), (2, [], []), (3, [2, 3, 4, 5, 6, 7, 8], [7, 8]), (4, [], []), (5, [2, 3, 4, 5, 6, 7, 8], [7, 8]), (6, [2, 3, 4, 5, 6, 7, 8], [7, 8]), (7, [2, 3, 4, 5, 6, 7, 8], [7, 8]), (8, [2, 3, 4, 5, 6, 7, 8], [7, 8]), (9, [2, 3, 4, 5, 6, 7, 8, 15, 16], [7, 8]), (10, [], []), (11, [2, 3, 4, 5, 6, 7, 8, 15, 16], [7, 8]), (12, [2, 4, 5, 6, 7, 8, 15, 16, 17, 18], [7, 8]), (13, [], []), (14, [2, 4, 5, 6, 7, 8, 15, 16], [7, 8]), (15, [2, 4, 5, 6, 7, 8, 15, 16, 19], [7, 8]), (17, [2, 4, 5, 6, 7, 8, 15, 16, 19], [7, 8]), (18, [2, 4, 5, 6, 7, 8, 15, 16, 19, 20, 21], [7, 8]), (19, [], []), (16, [2, 4, 5, 6, 7, 8, 15, 16, 19], [7, 8]), (20, [5, 6, 7, 8, 15, 16], [7, 8]), (21, [5, 6, 7, 8, 15, 16, 22], [7, 8, 22])]⟩
def a4_R1 : AC := .keep [2, 3, 4, 5, 6, 7, 8] [7, 8] (.reg [⟨(some 25), .load (some 4) (.tmp 7), none⟩, ⟨(some 26), .call 8 [(.tmp 25)], none⟩, ⟨(some 27), .bin .neq (.tmp 26) (.val (.int .i64 0)), none⟩, ⟨(some 28), .mov (.tmp 27), none⟩, ⟨(some 29), .load (some 4) (.tmp 8), (some (28, false))⟩, ⟨(some 30), .call 8 [(.tmp 29)], (some (28, false))⟩, ⟨(some 31), .bin .neq (.tmp 30) (.val (.int .i64 0)), (some (28, false))⟩, ⟨(some 32), .pick (.tmp 28) (.val (.bool true)) (.tmp 31), none⟩, ⟨(some 33), .mov (.tmp 32), none⟩, ⟨(some 34), .mov (.tmp 6), (some (33, false))⟩, ⟨(some 35), .lenL (.tmp 34), (some (33, false))⟩, ⟨(some 36), .bin .gtr (.tmp 35) (.val (.int .i64 40)), (some (33, false))⟩, ⟨(some 37), .pick (.tmp 33) (.val (.bool true)) (.tmp 36), none⟩, ⟨(some 38), .mov (.tmp 37), none⟩, ⟨(some 39), .mov (.tmp 6), (some (38, false))⟩, ⟨(some 40), .call 9 [(.tmp 39)], (some (38, false))⟩, ⟨(some 41), .bin .neq (.tmp 40) (.val (.int .i64 0)), (some (38, false))⟩, ⟨(some 42), .pick (.tmp 38) (.val (.bool true)) (.tmp 41), none⟩])
def a4_R2 : AC := .keep [2, 3, 4, 5, 6, 7, 8] [7, 8] (.dreg [(false, ⟨(some 45), .faddr 2 (.tmp 7), none⟩, false), (false, ⟨(some 46), .load none (.tmp 45), none⟩, true), (false, ⟨(some 47), .mov (.tmp 4), none⟩, false), (false, ⟨(some 48), .faddr 3 (.tmp 7), none⟩, false), (false, ⟨(some 49), .load none (.tmp 48), none⟩, false), (false, ⟨(some 50), .faddr 2 (.tmp 7), none⟩, false), (false, ⟨(some 51), .load none (.tmp 50), none⟩, false), (false, ⟨(some 52), .bin .sub (.tmp 49) (.tmp 51), none⟩, false), (false, ⟨(some 53), .bin .add (.tmp 52) (.val (.int .i64 1)), none⟩, false), (false, ⟨(some 54), .call 10 [(.tmp 47), (.tmp 53)], none⟩, false), (false, ⟨(some 55), .bin .add (.tmp 46) (.tmp 54), none⟩, false), (false, ⟨(some 4), .mov (.tmp 55), none⟩, false)])
def a4_R3 : AC := .keep [2, 3, 4, 5, 6, 7, 8] [7, 8] (.reg [⟨(some 56), .faddr 1 (.tmp 7), none⟩, ⟨(some 57), .load none (.tmp 56), none⟩, ⟨(some 58), .mov (.tmp 2), none⟩, ⟨(some 59), .faddr 0 (.tmp 7), none⟩, ⟨(some 60), .load none (.tmp 59), none⟩, ⟨(some 61), .bin .and (.tmp 58) (.tmp 60), none⟩, ⟨(some 62), .bin .or (.tmp 57) (.tmp 61), none⟩, ⟨(some 2), .mov (.tmp 62), none⟩])
def a4_R4 : AC := .keep [2, 3, 4, 5, 6, 7, 8] [7, 8] (.dreg [(false, ⟨(some 63), .load (some 4) (.tmp 7), none⟩, false), (false, ⟨(some 64), .mov (.tmp 5), none⟩, false), (false, ⟨(some 65), .mov (.tmp 6), none⟩, false), (false, ⟨(some 66), .call 11 [(.tmp 63), (.tmp 64), (.tmp 65)], none⟩, false), (false, ⟨(some 67), .load (some 4) (.tmp 7), none⟩, true), (false, ⟨(some 68), .mov (.tmp 5), none⟩, false), (false, ⟨(some 69), .mov (.tmp 6), none⟩, false), (false, ⟨(some 70), .call 12 [(.tmp 67), (.tmp 68), (.tmp 69)], none⟩, false), (false, ⟨(some 15), .mov (.tmp 66), none⟩, false), (false, ⟨(some 16), .mov (.tmp 70), none⟩, false)])
def a4_R5 : AC := .keep [2, 3, 4, 5, 6, 7, 8, 15, 16] [7, 8] (.reg [⟨(some 71), .load (some 4) (.tmp 7), none⟩, ⟨(some 72), .mov (.tmp 2), none⟩, ⟨(some 73), .mov (.tmp 4), none⟩, ⟨(some 74), .call 13 [(.tmp 71), (.tmp 72), (.tmp 73)], none⟩, ⟨(some 75), .un .not (.tmp 74), none⟩, ⟨(some 76), .mov (.tmp 75), none⟩, ⟨(some 77), .mov (.tmp 16), (some (76, false))⟩, ⟨(some 78), .mov (.tmp 15), (some (76, false))⟩, ⟨(some 79), .bin .andNot (.tmp 77) (.tmp 78), (some (76, false))⟩, ⟨(some 80), .bin .neq (.tmp 79) (.val (.int .u32 0)), (some (76, false))⟩, ⟨(some 81), .pick (.tmp 76) (.val (.bool true)) (.tmp 80), none⟩])
def a4_R6 : AC := .keep [2, 3, 4, 5, 6, 7, 8, 15, 16] [7, 8] (.reg [⟨(some 83), .mov (.tmp 3), none⟩, ⟨(some 84), .mov (.tmp 2), none⟩, ⟨(some 85), .mov (.tmp 4), none⟩, ⟨(some 86), .mov (.tmp 5), none⟩, ⟨(some 87), .mov (.tmp 6), none⟩, ⟨(some 88), .call 14 [(.tmp 83), (.tmp 84), (.tmp 85), (.tmp 86), (.tmp 87)], none⟩, ⟨(some 82), .mov (.tmp 88), none⟩, ⟨(some 89), .ext (.tmp 82) 0, none⟩, ⟨(some 90), .ext (.tmp 82) 1, none⟩, ⟨(some 17), .mov (.tmp 89), none⟩, ⟨(some 18), .mov (.tmp 90), none⟩])
def a4_R7 : AC := .keep [2, 4, 5, 6, 7, 8, 15, 16, 17, 18] [7, 8] (.reg [⟨(some 91), .mov (.tmp 18), none⟩, ⟨(some 92), .mov (.tmp 91), none⟩, ⟨(some 93), .mov (.tmp 15), (some (92, true))⟩, ⟨(some 94), .mov (.tmp 17), (some (92, true))⟩, ⟨(some 95), .conv .u64 (.tmp 94), (some (92, true))⟩, ⟨(some 96), .bin .shr (.tmp 93) (.tmp 95), (some (92, true))⟩, ⟨(some 97), .bin .and (.tmp 96) (.val (.int .u32 1)), (some (92, true))⟩, ⟨(some 98), .bin .eql (.tmp 97) (.val (.int .u32 0)), (some (92, true))⟩, ⟨(some 99), .pick (.tmp 92) (.tmp 98) (.val (.bool false)), none⟩])
def a4_R8 : AC := .keep [2, 4, 5, 6, 7, 8, 15, 16, 19] [7, 8] (.reg [⟨(some 107), .mov (.tmp 6), none⟩, ⟨(some 108), .mov (.tmp 19), none⟩, ⟨(some 109), .iaddrL 3 (.tmp 107) (.tmp 108), none⟩, ⟨(some 110), .faddr 0 (.tmp 109), none⟩, ⟨(some 111), .load none (.tmp 110), none⟩, ⟨(some 112), .conv .u64 (.tmp 111), none⟩, ⟨(some 113), .bin .shl (.val (.int .u32 1)) (.tmp 112), none⟩, ⟨(some 114), .mov (.tmp 2), none⟩, ⟨(some 115), .mov (.tmp 4), none⟩, ⟨(some 116), .mov (.tmp 5), none⟩, ⟨(some 117), .mov (.tmp 6), none⟩, ⟨(some 118), .call 14 [(.tmp 113), (.tmp 114), (.tmp 115), (.tmp 116), (.tmp 117)], none⟩, ⟨(some 106), .mov (.tmp 118), none⟩, ⟨(some 119), .ext (.tmp 106) 0, none⟩, ⟨(some 120), .ext (.tmp 106) 1, none⟩, ⟨(some 20), .mov (.tmp 119), none⟩, ⟨(some 21), .mov (.tmp 120), none⟩])
def a4_R9 : AC := .keep [2, 4, 5, 6, 7, 8, 15, 16, 19, 20, 21] [7, 8] (.reg [⟨(some 121), .mov (.tmp 16), none⟩, ⟨(some 122), .mov (.tmp 19), none⟩, ⟨(some 123), .conv .u64 (.tmp 122), none⟩, ⟨(some 124), .bin .shr (.tmp 121) (.tmp 123), none⟩, ⟨(some 125), .bin .and (.tmp 124) (.val (.int .u32 1)), none⟩, ⟨(some 126), .bin .eql (.tmp 125) (.val (.int .u32 1)), none⟩, ⟨(some 127), .mov (.tmp 126), none⟩, ⟨(some 128), .mov (.tmp 21), (some (127, true))⟩, ⟨(some 129), .un .not (.tmp 128), (some (127, true))⟩, ⟨(some 130), .mov (.tmp 129), (some (127, true))⟩, ⟨(some 131), .mov (.tmp 20), (some (130, false))⟩, ⟨(some 132), .mov (.tmp 19), (some (130, false))⟩, ⟨(some 133), .bin .neq (.tmp 131) (.tmp 132), (some (130, false))⟩, ⟨(some 134), .pick (.tmp 130) (.val (.bool true)) (.tmp 133), (some (127, true))⟩, ⟨(some 135), .pick (.tmp 127) (.tmp 134) (.val (.bool false)), none⟩])
def a4_R10 : AC := .keep [5, 6, 7, 8, 15, 16, 22] [7, 8, 22] (.reg [⟨(some 139), .load (some 4) (.tmp 7), none⟩, ⟨(some 140), .load (some 4) (.tmp 22), none⟩, ⟨(some 141), .call 16 [(.tmp 139), (.tmp 140)], none⟩, ⟨(some 142), .mov (.tmp 141), none⟩, ⟨(some 143), .load (some 4) (.tmp 8), (some (142, true))⟩, ⟨(some 144), .load (some 4) (.tmp 22), (some (142, true))⟩, ⟨(some 145), .call 16 [(.tmp 143), (.tmp 144)], (some (142, true))⟩, ⟨(some 146), .pick (.tmp 142) (.tmp 145) (.val (.bool false)), none⟩, ⟨(some 147), .mov (.tmp 146), none⟩, ⟨(some 148), .mov (.tmp 15), (some (147, true))⟩, ⟨(some 149), .load (some 4) (.tmp 22), (some (147, true))⟩, ⟨(some 150), .mov (.tmp 5), (some (147, true))⟩, ⟨(some 151), .mov (.tmp 6), (some (147, true))⟩, ⟨(some 152), .call 11 [(.tmp 149), (.tmp 150), (.tmp 151)], (some (147, true))⟩, ⟨(some 153), .bin .andNot (.tmp 148) (.tmp 152), (some (147, true))⟩, ⟨(some 154), .bin .eql (.tmp 153) (.val (.int .u32 0)), (some (147, true))⟩, ⟨(some 155), .pick (.tmp 147) (.tmp 154) (.val (.bool false)), none⟩, ⟨(some 156), .mov (.tmp 155), none⟩, ⟨(some 157), .load (some 4) (.tmp 22), (some (156, true))⟩, ⟨(some 158), .mov (.tmp 5), (some (156, true))⟩, ⟨(some 159), .mov (.tmp 6), (some (156, true))⟩, ⟨(some 160), .call 12 [(.tmp 157), (.tmp 158), (.tmp 159)], (some (156, true))⟩, ⟨(some 161), .mov (.tmp 16), (some (156, true))⟩, ⟨(some 162), .bin .andNot (.tmp 160) (.tmp 161), (some (156, true))⟩, ⟨(some 163), .bin .eql (.tmp 162) (.val (.int .u32 0)), (some (156, true))⟩, ⟨(some 164), .pick (.tmp 156) (.tmp 163) (.val (.bool false)), none⟩, ⟨(some 165), .mov (.tmp 164), none⟩, ⟨(some 166), .load (some 4) (.tmp 7), (some (165, true))⟩, ⟨(some 167), .mov (.tmp 5), (some (165, true))⟩, ⟨(some 168), .bin .add (.tmp 167) (.val (.int .i64 1)), (some (165, true))⟩, ⟨(some 169), .mov (.tmp 6), (some (165, true))⟩, ⟨(some 170), .call 11 [(.tmp 166), (.tmp 168), (.tmp 169)], (some (165, true))⟩, ⟨(some 171), .mov (.tmp 15), (some (165, true))⟩, ⟨(some 172), .bin .andNot (.tmp 170) (.tmp 171), (some (165, true))⟩, ⟨(some 173), .bin .eql (.tmp 172) (.val (.int .u32 0)), (some (165, true))⟩, ⟨(some 174), .pick (.tmp 165) (.tmp 173) (.val (.bool false)), none⟩, ⟨(some 14), .mov (.tmp 174), none⟩])
def a4_B1 : AC := (.seq (.seq (.keep [2, 4, 5, 6, 7, 8, 15, 16, 19] [7, 8] (.reg [⟨(some 100), .mov (.tmp 19), none⟩, ⟨(some 101), .mov (.tmp 6), none⟩, ⟨(some 102), .lenL (.tmp 101), none⟩, ⟨(some 103), .bin .lss (.tmp 100) (.tmp 102), none⟩]))
 (.cond (.tmp 103) .skip (.exit 0)))
 (.seq (.block 1 (.seq a4_R8
 (.seq a4_R9
 (.cond (.tmp 135) (.seq (.keep [] [] (.reg [⟨(some 14), .mov (.val (.bool false)), none⟩]))
 .ret) .skip))))
 (.keep [2, 4, 5, 6, 7, 8, 15, 16, 19] [7, 8] (.reg [⟨(some 104), .mov (.tmp 19), none⟩, ⟨(some 105), .bin .add (.tmp 104) (.val (.int .i64 1)), none⟩, ⟨(some 19), .mov (.tmp 105), none⟩]))))
def a4_L1 : AC := .loop a4_B1
theorem a4_L1_step (call : Caller) (again : AC → St → Option (Ex × St)) (s : St) : codeEv call again a4_L1 s = match codeEv call again a4_B1 s with | some (.norm, s1) => again a4_L1 s1 | r => r := rfl
def a4 : AFn := { n := 175, np := 7, res := [.tmp 14], body :=
 (.seq (.keep [0, 1, 2, 3, 4, 5, 6] [] (.reg [⟨(some 7), .box (some 7) (.tmp 0), none⟩, ⟨(some 8), .box (some 8) (.tmp 1), none⟩, ⟨(some 14), .mov (.val (.bool false)), none⟩]))
 (.seq (.seq (.keep [2, 3, 4, 5, 6, 7, 8] [7, 8] (.reg [⟨(some 23), .call 5 [], none⟩, ⟨(some 24), .un .not (.tmp 23), none⟩]))
 (.cond (.tmp 24) (.seq (.keep [] [] (.reg [⟨(some 14), .mov (.val (.bool false)), none⟩]))
 .ret) .skip))
 (.seq (.seq a4_R1
 (.cond (.tmp 42) (.seq (.keep [] [] (.reg [⟨(some 14), .mov (.val (.bool true)), none⟩]))
 .ret) .skip))
 (.seq (.keep [2, 3, 4, 5, 6, 7, 8] [7, 8] (.reg [⟨(some 43), .mov (.tmp 5), none⟩, ⟨(some 44), .call 10 [(.tmp 43), (.val (.int .i64 16))], none⟩, ⟨(some 5), .mov (.tmp 44), none⟩]))
 (.seq a4_R2
 (.seq a4_R3
 (.seq a4_R4
 (.seq (.seq a4_R5
 (.cond (.tmp 81) (.seq (.keep [] [] (.reg [⟨(some 14), .mov (.val (.bool false)), none⟩]))
 .ret) .skip))
 (.seq a4_R6
 (.seq (.seq a4_R7
 (.cond (.tmp 99) (.seq (.keep [] [] (.reg [⟨(some 14), .mov (.val (.bool false)), none⟩]))
 .ret) .skip))
 (.seq (.seq (.keep [2, 4, 5, 6, 7, 8, 15, 16] [7, 8] (.reg [⟨(some 19), .mov (.val (.int .i64 0)), none⟩]))
 (.block 0 a4_L1))
 (.seq (.keep [5, 6, 7, 8, 15, 16] [7, 8] (.reg [⟨(some 136), .load (some 4) (.tmp 7), none⟩, ⟨(some 137), .load (some 4) (.tmp 8), none⟩, ⟨(some 138), .call 15 [(.tmp 136), (.tmp 137)], none⟩, ⟨(some 22), .alloc (some 22) [(.int .u32 0), (.int .u32 0), (.int .i64 0), (.int .i64 0)], none⟩, ⟨none, .store 4 (.tmp 22) (.tmp 138), none⟩]))
 (.seq a4_R10
 .ret))))))))))))) }
def h5 : Hints := ⟨[1], [(0, [], []), (1, [], []), (2, [1], [1])]⟩
def a5 : AFn := { n := 24, np := 0, res := [.tmp 0], body :=
 (.seq (.keep [] [] (.reg [⟨(some 0), .mov (.val (.bool false)), none⟩]))
 (.seq (.keep [] [] (.reg [⟨(some 2), .build [(.int .u32 0), (.int .u32 0), (.int .i64 0), (.int .i64 0)] [(0, 1, (.val (.int .u32 3))), (1, 1, (.val (.int .u32 1))), (3, 1, (.val (.int .i64 4)))], none⟩, ⟨(some 1), .alloc (some 1) [(.int .u32 0), (.int .u32 0), (.int .i64 0), (.int .i64 0)], none⟩, ⟨none, .store 4 (.tmp 1) (.tmp 2), none⟩]))
 (.seq (.keep [1] [1] (.dreg [(false, ⟨(some 3), .load (some 4) (.tmp 1), none⟩, true), (false, ⟨(some 4), .call 17 [], none⟩, false), (false, ⟨(some 5), .call 11 [(.tmp 3), (.val (.int .i64 0)), (.tmp 4)], none⟩, false), (false, ⟨(some 6), .bin .eql (.tmp 5) (.val (.int .u32 3)), none⟩, false), (false, ⟨(some 7), .mov (.tmp 6), none⟩, false), (false, ⟨(some 8), .load (some 4) (.tmp 1), (some (7, true))⟩, true), (false, ⟨(some 9), .call 17 [], (some (7, true))⟩, false), (false, ⟨(some 10), .call 12 [(.tmp 8), (.val (.int .i64 0)), (.tmp 9)], (some (7, true))⟩, false), (false, ⟨(some 11), .bin .eql (.tmp 10) (.val (.int .u32 0)), (some (7, true))⟩, false), (false, ⟨(some 12), .pick (.tmp 7) (.tmp 11) (.val (.bool false)), none⟩, false), (false, ⟨(some 13), .mov (.tmp 12), none⟩, false), (false, ⟨(some 14), .load (some 4) (.tmp 1), (some (13, true))⟩, true), (false, ⟨(some 15), .call 17 [], (some (13, true))⟩, false), (false, ⟨(some 16), .call 11 [(.tmp 14), (.val (.int .i64 1)), (.tmp 15)], (some (13, true))⟩, false), (false, ⟨(some 17), .bin .eql (.tmp 16) (.val (.int .u32 2)), (some (13, true))⟩, false), (false, ⟨(some 18), .pick (.tmp 13) (.tmp 17) (.val (.bool false)), none⟩, false), (false, ⟨(some 19), .mov (.tmp 18), none⟩, false), (false, ⟨(some 20), .mkslc 1 2 [(.int .u32 0)] [(0, (.val (.int .u32 2))), (1, (.val (.int .u32 0)))], (some (19, true))⟩, false), (false, ⟨(some 21), .call 6 [(.val (.int .u32 1)), (.tmp 20)], (some (19, true))⟩, false), (false, ⟨(some 22), .bin .eql (.tmp 21) (.val (.int .u32 3)), (some (19, true))⟩, false), (false, ⟨(some 23), .pick (.tmp 19) (.tmp 22) (.val (.bool false)), none⟩, false), (false, ⟨(some 0), .mov (.tmp 23), none⟩, false)]))
 .ret))) }
def h6 : Hints := ⟨[], [(0, [0, 1], []), (1, [0, 1], []), (2, [0, 1, 5], []), (3, [0, 1, 5, 10, 11], []), (4, [0, 1, 5, 10, 11], []), (5, [0, 1, 5, 6, 10, 11], []), (6, [0, 1, 5, 6, 10, 11], []), (7, [0, 1, 5, 10, 11], []), (8, [0, 1, 5], []), (9, [0], [])]⟩
def a6_B1 : AC := (.seq (.keep [0, 1, 5, 10, 11] [] (.reg [⟨(some 12), .bin .lss (.tmp 11) (.tmp 10), none⟩]))
 (.seq (.cond (.tmp 12) .skip (.exit 2))
 (.seq (.block 3 (.seq (.keep [0, 1, 5, 10, 11] [] (.reg [⟨(some 13), .mov (.tmp 11), none⟩, ⟨(some 6), .mov (.tmp 13), none⟩]))
 (.seq (.keep [0, 1, 5, 6, 10, 11] [] (.reg [⟨(some 14), .mov (.tmp 5), none⟩, ⟨(some 15), .mov (.tmp 6), none⟩, ⟨(some 16), .bin .shr (.tmp 14) (.tmp 15), none⟩, ⟨(some 17), .bin .and (.tmp 16) (.val (.int .u32 1)), none⟩, ⟨(some 18), .bin .eql (.tmp 17) (.val (.int .u32 1)), none⟩]))
 (.cond (.tmp 18) (.keep [0, 1, 5, 6, 10, 11] [] (.reg [⟨(some 19), .mov (.tmp 0), none⟩, ⟨(some 20), .mov (.tmp 1), none⟩, ⟨(some 21), .mov (.tmp 6), none⟩, ⟨(some 22), .iaddrL 1 (.tmp 20) (.tmp 21), none⟩, ⟨(some 23), .load none (.tmp 22), none⟩, ⟨(some 24), .bin .or (.tmp 19) (.tmp 23), none⟩, ⟨(some 0), .mov (.tmp 24), none⟩])) .skip))))
 (.keep [0, 1, 5, 10, 11] [] (.reg [⟨(some 25), .bin .add (.tmp 11) (.val (.int .i64 1)), none⟩, ⟨(some 11), .mov (.tmp 25), none⟩])))))
def a6_L1 : AC := .loop a6_B1
theorem a6_L1_step (call : Caller) (again : AC → St → Option (Ex × St)) (s : St) : codeEv call again a6_L1 s = match codeEv call again a6_B1 s with | some (.norm, s1) => again a6_L1 s1 | r => r := rfl
def a6_B2 : AC := (.block 1 (.seq (.keep [0, 1] [] (.reg [⟨(some 7), .mov (.tmp 0), none⟩, ⟨(some 5), .mov (.tmp 7), none⟩]))
 (.seq (.seq (.keep [0, 1, 5] [] (.reg [⟨(some 8), .mov (.tmp 1), none⟩, ⟨(some 9), .lenL (.tmp 8), none⟩, ⟨(some 10), .min [(.tmp 9), (.val (.int .i64 32))], none⟩, ⟨(some 11), .mov (.val (.int .i64 0)), none⟩]))
 (.block 2 a6_L1))
 (.seq (.keep [0, 1, 5] [] (.reg [⟨(some 26), .mov (.tmp 0), none⟩, ⟨(some 27), .mov (.tmp 5), none⟩, ⟨(some 28), .bin .eql (.tmp 26) (.tmp 27), none⟩]))
 (.cond (.tmp 28) (.seq (.keep [0] [] (.reg [⟨(some 29), .mov (.tmp 0), none⟩, ⟨(some 4), .mov (.tmp 29), none⟩]))
 .ret) .skip)))))
def a6_L2 : AC := .loop a6_B2
theorem a6_L2_step (call : Caller) (again : AC → St → Option (Ex × St)) (s : St) : codeEv call again a6_L2 s = match codeEv call again a6_B2 s with | some (.norm, s1) => again a6_L2 s1 | r => r := rfl
def a6 : AFn := { n := 30, np := 2, res := [.tmp 4], body :=
 (.seq (.keep [0, 1] [] (.reg [⟨(some 4), .mov (.val (.int .u32 0)), none⟩]))
 (.block 0 a6_L2)) }
def h7 : Hints := ⟨[], [(0, [0], []), (1, [0], [])]⟩
def a7 : AFn := { n := 6, np := 1, res := [.tmp 2], body :=
 (.seq (.keep [0] [] (.reg [⟨(some 2), .mov (.val .nils), none⟩]))
 (.seq (.keep [0] [] (.reg [⟨(some 3), .mkslc 1 0 [(.int .u32 0)] [], none⟩, ⟨(some 4), .mov (.tmp 0), none⟩, ⟨(some 5), .app 1 4 (.tmp 3) (.tmp 4), none⟩, ⟨(some 2), .mov (.tmp 5), none⟩]))
 .ret)) }
def h8 : Hints := ⟨[1], [(0, [0], []), (1, [1], [1]), (2, [], []), (3, [], [])]⟩
def a8 : AFn := { n := 26, np := 1, res := [.tmp 2], body :=
 (.seq (.keep [0] [] (.reg [⟨(some 1), .box (some 1) (.tmp 0), none⟩, ⟨(some 2), .mov (.val (.int .i64 0)), none⟩]))
 (.seq (.seq (.keep [1] [1] (.reg [⟨(some 3), .faddr 1 (.tmp 1), none⟩, ⟨(some 4), .load none (.tmp 3), none⟩, ⟨(some 5), .faddr 0 (.tmp 1), none⟩, ⟨(some 6), .load none (.tmp 5), none⟩, ⟨(some 7), .bin .andNot (.tmp 4) (.tmp 6), none⟩, ⟨(some 8), .bin .neq (.tmp 7) (.val (.int .u32 0)), none⟩, ⟨(some 9), .mov (.tmp 8), none⟩, ⟨(some 10), .faddr 2 (.tmp 1), (some (9, false))⟩, ⟨(some 11), .load none (.tmp 10), (some (9, false))⟩, ⟨(some 12), .bin .lss (.tmp 11) (.val (.int .i64 0)), (some (9, false))⟩, ⟨(some 13), .pick (.tmp 9) (.val (.bool true)) (.tmp 12), none⟩, ⟨(some 14), .mov (.tmp 13), none⟩, ⟨(some 15), .faddr 3 (.tmp 1), (some (14, false))⟩, ⟨(some 16), .load none (.tmp 15), (some (14, false))⟩, ⟨(some 17), .bin .gtr (.tmp 16) (.val (.int .i64 15)), (some (14, false))⟩, ⟨(some 18), .pick (.tmp 14) (.val (.bool true)) (.tmp 17), none⟩, ⟨(some 19), .mov (.tmp 18), none⟩, ⟨(some 20), .faddr 2 (.tmp 1), (some (19, false))⟩, ⟨(some 21), .load none (.tmp 20), (some (19, false))⟩, ⟨(some 22), .faddr 3 (.tmp 1), (some (19, false))⟩, ⟨(some 23), .load none (.tmp 22), (some (19, false))⟩, ⟨(some 24), .bin .gtr (.tmp 21) (.tmp 23), (some (19, false))⟩, ⟨(some 25), .pick (.tmp 19) (.val (.bool true)) (.tmp 24), none⟩]))
 (.cond (.tmp 25) (.seq (.keep [] [] (.reg [⟨(some 2), .mov (.val (.int .i64 2)), none⟩]))
 .ret) .skip))
 (.seq (.keep [] [] (.reg [⟨(some 2), .mov (.val (.int .i64 0)), none⟩]))
 .ret))) }
def h9 : Hints := ⟨[], [(0, [0], []), (1, [0], []), (2, [], []), (3, [0], []), (4, [0, 3], []), (6, [0, 3], []), (7, [], []), (8, [0, 3], []), (9, [0, 3, 4], []), (11, [0, 3, 4], []), (12, [], []), (10, [0, 3, 4], []), (5, [0, 3], []), (13, [], [])]⟩
def a9_B1 : AC := (.seq (.seq (.keep [0, 3, 4] [] (.reg [⟨(some 52), .mov (.tmp 4), none⟩, ⟨(some 53), .mov (.tmp 3), none⟩, ⟨(some 54), .bin .lss (.tmp 52) (.tmp 53), none⟩]))
 (.cond (.tmp 54) .skip (.exit 2)))
 (.seq (.block 3 (.seq (.keep [0, 3, 4] [] (.dreg [(false, ⟨(some 57), .mov (.tmp 0), none⟩, false), (false, ⟨(some 58), .mov (.tmp 4), none⟩, false), (false, ⟨(some 59), .iaddrL 3 (.tmp 57) (.tmp 58), none⟩, false), (false, ⟨(some 60), .faddr 0 (.tmp 59), none⟩, false), (false, ⟨(some 61), .load none (.tmp 60), none⟩, false), (false, ⟨(some 62), .mov (.tmp 0), none⟩, false), (false, ⟨(some 63), .mov (.tmp 3), none⟩, false), (false, ⟨(some 64), .iaddrL 3 (.tmp 62) (.tmp 63), none⟩, false), (false, ⟨(some 65), .faddr 0 (.tmp 64), none⟩, false), (false, ⟨(some 66), .load none (.tmp 65), none⟩, false), (false, ⟨(some 67), .bin .eql (.tmp 61) (.tmp 66), none⟩, false)]))
 (.cond (.tmp 67) (.seq (.keep [] [] (.reg [⟨(some 2), .mov (.val (.int .i64 2)), none⟩]))
 .ret) .skip)))
 (.keep [0, 3, 4] [] (.reg [⟨(some 55), .mov (.tmp 4), none⟩, ⟨(some 56), .bin .add (.tmp 55) (.val (.int .i64 1)), none⟩, ⟨(some 4), .mov (.tmp 56), none⟩]))))
def a9_L1 : AC := .loop a9_B1
theorem a9_L1_step (call : Caller) (again : AC → St → Option (Ex × St)) (s : St) : codeEv call again a9_L1 s = match codeEv call again a9_B1 s with | some (.norm, s1) => again a9_L1 s1 | r => r := rfl
def a9_B2 : AC := (.seq (.seq (.keep [0, 3] [] (.reg [⟨(some 8), .mov (.tmp 3), none⟩, ⟨(some 9), .mov (.tmp 0), none⟩, ⟨(some 10), .lenL (.tmp 9), none⟩, ⟨(some 11), .bin .lss (.tmp 8) (.tmp 10), none⟩]))
 (.cond (.tmp 11) .skip (.exit 0)))
 (.seq (.block 1 (.seq (.seq (.keep [0, 3] [] (.reg [⟨(some 14), .mov (.tmp 0), none⟩, ⟨(some 15), .mov (.tmp 3), none⟩, ⟨(some 16), .iaddrL 3 (.tmp 14) (.tmp 15), none⟩, ⟨(some 17), .faddr 0 (.tmp 16), none⟩, ⟨(some 18), .load none (.tmp 17), none⟩, ⟨(some 19), .bin .lss (.tmp 18) (.val (.int .i64 0)), none⟩, ⟨(some 20), .mov (.tmp 19), none⟩, ⟨(some 21), .mov (.tmp 0), (some (20, false))⟩, ⟨(some 22), .mov (.tmp 3), (some (20, false))⟩, ⟨(some 23), .iaddrL 3 (.tmp 21) (.tmp 22), (some (20, false))⟩, ⟨(some 24), .faddr 0 (.tmp 23), (some (20, false))⟩, ⟨(some 25), .load none (.tmp 24), (some (20, false))⟩, ⟨(some 26), .bin .gtr (.tmp 25) (.val (.int .i64 31)), (some (20, false))⟩, ⟨(some 27), .pick (.tmp 20) (.val (.bool true)) (.tmp 26), none⟩, ⟨(some 28), .mov (.tmp 27), none⟩, ⟨(some 29), .mov (.tmp 0), (some (28, false))⟩, ⟨(some 30), .mov (.tmp 3), (some (28, false))⟩, ⟨(some 31), .iaddrL 3 (.tmp 29) (.tmp 30), (some (28, false))⟩, ⟨(some 32), .faddr 1 (.tmp 31), (some (28, false))⟩, ⟨(some 33), .load none (.tmp 32), (some (28, false))⟩, ⟨(some 34), .bin .lss (.tmp 33) (.val (.int .i64 1)), (some (28, false))⟩, ⟨(some 35), .pick (.tmp 28) (.val (.bool true)) (.tmp 34), none⟩, ⟨(some 36), .mov (.tmp 35), none⟩, ⟨(some 37), .mov (.tmp 0), (some (36, false))⟩, ⟨(some 38), .mov (.tmp 3), (some (36, false))⟩, ⟨(some 39), .iaddrL 3 (.tmp 37) (.tmp 38), (some (36, false))⟩, ⟨(some 40), .faddr 1 (.tmp 39), (some (36, false))⟩, ⟨(some 41), .load none (.tmp 40), (some (36, false))⟩, ⟨(some 42), .bin .gtr (.tmp 41) (.val (.int .i64 15)), (some (36, false))⟩, ⟨(some 43), .pick (.tmp 36) (.val (.bool true)) (.tmp 42), none⟩, ⟨(some 44), .mov (.tmp 43), none⟩, ⟨(some 45), .mov (.tmp 0), (some (44, false))⟩, ⟨(some 46), .mov (.tmp 3), (some (44, false))⟩, ⟨(some 47), .iaddrL 3 (.tmp 45) (.tmp 46), (some (44, false))⟩, ⟨(some 48), .faddr 2 (.tmp 47), (some (44, false))⟩, ⟨(some 49), .load none (.tmp 48), (some (44, false))⟩, ⟨(some 50), .bin .lss (.tmp 49) (.val (.int .i64 0)), (some (44, false))⟩, ⟨(some 51), .pick (.tmp 44) (.val (.bool true)) (.tmp 50), none⟩]))
 (.cond (.tmp 51) (.seq (.keep [] [] (.reg [⟨(some 2), .mov (.val (.int .i64 2)), none⟩]))
 .ret) .skip))
 (.seq (.keep [0, 3] [] (.reg [⟨(some 4), .mov (.val (.int .i64 0)), none⟩]))
 (.block 2 a9_L1))))
 (.keep [0, 3] [] (.reg [⟨(some 12), .mov (.tmp 3), none⟩, ⟨(some 13), .bin .add (.tmp 12) (.val (.int .i64 1)), none⟩, ⟨(some 3), .mov (.tmp 13), none⟩]))))
def a9_L2 : AC := .loop a9_B2
theorem a9_L2_step (call : Caller) (again : AC → St → Option (Ex × St)) (s : St) : codeEv call again a9_L2 s = match codeEv call again a9_B2 s with | some (.norm, s1) => again a9_L2 s1 | r => r := rfl
def a9 : AFn := { n := 68, np := 1, res := [.tmp 2], body :=
 (.seq (.keep [0] [] (.reg [⟨(some 2), .mov (.val (.int .i64 0)), none⟩]))
 (.seq (.seq (.keep [0] [] (.reg [⟨(some 5), .mov (.tmp 0), none⟩, ⟨(some 6), .lenL (.tmp 5), none⟩, ⟨(some 7), .bin .gtr (.tmp 6) (.val (.int .i64 32)), none⟩]))
 (.cond (.tmp 7) (.seq (.keep [] [] (.reg [⟨(some 2), .mov (.val (.int .i64 3)), none⟩]))
 .ret) .skip))
 (.seq (.seq (.keep [0] [] (.reg [⟨(some 3), .mov (.val (.int .i64 0)), none⟩]))
 (.block 0 a9_L2))
 (.seq (.keep [] [] (.reg [⟨(some 2), .mov (.val (.int .i64 0)), none⟩]))
 .ret)))) }
def h10 : Hints := ⟨[], [(0, [0, 1], []), (1, [0, 1], []), (2, [], []), (3, [0, 1], []), (4, [0, 1], []), (5, [0, 1], []), (6, [0], [])]⟩
def a10 : AFn := { n := 16, np := 2, res := [.tmp 4], body :=
 (.seq (.keep [0, 1] [] (.reg [⟨(some 4), .mov (.val (.int .i64 0)), none⟩]))
 (.seq (.seq (.keep [0, 1] [] (.reg [⟨(some 5), .mov (.tmp 1), none⟩, ⟨(some 6), .bin .lss (.tmp 5) (.val (.int .i64 1)), none⟩]))
 (.cond (.tmp 6) (.seq (.keep [] [] (.reg [⟨(some 4), .mov (.val (.int .i64 0)), none⟩]))
 .ret) .skip))
 (.seq (.keep [0, 1] [] (.reg [⟨(some 7), .mov (.tmp 0), none⟩, ⟨(some 8), .mov (.tmp 1), none⟩, ⟨(some 9), .bin .rem (.tmp 7) (.tmp 8), none⟩, ⟨(some 0), .mov (.tmp 9), none⟩]))
 (.seq (.seq (.keep [0, 1] [] (.reg [⟨(some 10), .mov (.tmp 0), none⟩, ⟨(some 11), .bin .lss (.tmp 10) (.val (.int .i64 0)), none⟩]))
 (.cond (.tmp 11) (.keep [0, 1] [] (.reg [⟨(some 12), .mov (.tmp 0), none⟩, ⟨(some 13), .mov (.tmp 1), none⟩, ⟨(some 14), .bin .add (.tmp 12) (.tmp 13), none⟩, ⟨(some 0), .mov (.tmp 14), none⟩])) .skip))
 (.seq (.keep [0] [] (.reg [⟨(some 15), .mov (.tmp 0), none⟩, ⟨(some 4), .mov (.tmp 15), none⟩]))
 .ret))))) }
def h11 : Hints := ⟨[3], [(0, [0, 1, 2], []), (1, [1, 2, 3], [3]), (2, [], []), (3, [1, 2, 3], [3])]⟩
def a11 : AFn := { n := 17, np := 3, res := [.tmp 6], body :=
 (.seq (.keep [0, 1, 2] [] (.reg [⟨(some 3), .box (some 3) (.tmp 0), none⟩, ⟨(some 6), .mov (.val (.int .u32 0)), none⟩]))
 (.seq (.seq (.keep [1, 2, 3] [3] (.reg [⟨(some 7), .load (some 4) (.tmp 3), none⟩, ⟨(some 8), .call 8 [(.tmp 7)], none⟩, ⟨(some 9), .bin .neq (.tmp 8) (.val (.int .i64 0)), none⟩]))
 (.cond (.tmp 9) (.seq (.keep [] [] (.reg [⟨(some 6), .mov (.val (.int .u32 0)), none⟩]))
 .ret) .skip))
 (.seq (.keep [1, 2, 3] [3] (.reg [⟨(some 10), .faddr 0 (.tmp 3), none⟩, ⟨(some 11), .load none (.tmp 10), none⟩, ⟨(some 12), .faddr 2 (.tmp 3), none⟩, ⟨(some 13), .load none (.tmp 12), none⟩, ⟨(some 14), .mov (.tmp 1), none⟩, ⟨(some 15), .mov (.tmp 2), none⟩, ⟨(some 16), .call 18 [(.tmp 11), (.tmp 13), (.tmp 14), (.tmp 15)], none⟩, ⟨(some 6), .mov (.tmp 16), none⟩]))
 .ret))) }
def h12 : Hints := ⟨[3], [(0, [0, 1, 2], []), (1, [1, 2, 3], [3]), (2, [], []), (3, [1, 2, 3], [3])]⟩
def a12 : AFn := { n := 17, np := 3, res := [.tmp 6], body :=
 (.seq (.keep [0, 1, 2] [] (.reg [⟨(some 3), .box (some 3) (.tmp 0), none⟩, ⟨(some 6), .mov (.val (.int .u32 0)), none⟩]))
 (.seq (.seq (.keep [1, 2, 3] [3] (.reg [⟨(some 7), .load (some 4) (.tmp 3), none⟩, ⟨(some 8), .call 8 [(.tmp 7)], none⟩, ⟨(some 9), .bin .neq (.tmp 8) (.val (.int .i64 0)), none⟩]))
 (.cond (.tmp 9) (.seq (.keep [] [] (.reg [⟨(some 6), .mov (.val (.int .u32 0)), none⟩]))
 .ret) .skip))
 (.seq (.keep [1, 2, 3] [3] (.reg [⟨(some 10), .faddr 1 (.tmp 3), none⟩, ⟨(some 11), .load none (.tmp 10), none⟩, ⟨(some 12), .faddr 3 (.tmp 3), none⟩, ⟨(some 13), .load none (.tmp 12), none⟩, ⟨(some 14), .mov (.tmp 1), none⟩, ⟨(some 15), .mov (.tmp 2), none⟩, ⟨(some 16), .call 18 [(.tmp 11), (.tmp 13), (.tmp 14), (.tmp 15)], none⟩, ⟨(some 6), .mov (.tmp 16), none⟩]))
 .ret))) }
def h13 : Hints := ⟨[3], [(0, [0, 1, 2], []), (1, [1, 2, 3], [3])]⟩
def a13 : AFn := { n := 36, np := 3, res := [.tmp 6], body :=
 (.seq (.keep [0, 1, 2] [] (.reg [⟨(some 3), .box (some 3) (.tmp 0), none⟩, ⟨(some 6), .mov (.val (.bool false)), none⟩]))
 (.seq (.keep [1, 2, 3] [3] (.reg [⟨(some 7), .load (some 4) (.tmp 3), none⟩, ⟨(some 8), .call 8 [(.tmp 7)], none⟩, ⟨(some 9), .bin .eql (.tmp 8) (.val (.int .i64 0)), none⟩, ⟨(some 10), .mov (.tmp 9), none⟩, ⟨(some 11), .faddr 1 (.tmp 3), (some (10, true))⟩, ⟨(some 12), .load none (.tmp 11), (some (10, true))⟩, ⟨(some 13), .mov (.tmp 1), (some (10, true))⟩, ⟨(some 14), .bin .andNot (.tmp 12) (.tmp 13), (some (10, true))⟩, ⟨(some 15), .bin .eql (.tmp 14) (.val (.int .u32 0)), (some (10, true))⟩, ⟨(some 16), .pick (.tmp 10) (.tmp 15) (.val (.bool false)), none⟩, ⟨(some 17), .mov (.tmp 16), none⟩, ⟨(some 18), .mov (.tmp 1), (some (17, true))⟩, ⟨(some 19), .faddr 0 (.tmp 3), (some (17, true))⟩, ⟨(some 20), .load none (.tmp 19), (some (17, true))⟩, ⟨(some 21), .bin .andNot (.tmp 18) (.tmp 20), (some (17, true))⟩, ⟨(some 22), .bin .eql (.tmp 21) (.val (.int .u32 0)), (some (17, true))⟩, ⟨(some 23), .pick (.tmp 17) (.tmp 22) (.val (.bool false)), none⟩, ⟨(some 24), .mov (.tmp 23), none⟩, ⟨(some 25), .mov (.tmp 2), (some (24, true))⟩, ⟨(some 26), .faddr 2 (.tmp 3), (some (24, true))⟩, ⟨(some 27), .load none (.tmp 26), (some (24, true))⟩, ⟨(some 28), .bin .geq (.tmp 25) (.tmp 27), (some (24, true))⟩, ⟨(some 29), .pick (.tmp 24) (.tmp 28) (.val (.bool false)), none⟩, ⟨(some 30), .mov (.tmp 29), none⟩, ⟨(some 31), .mov (.tmp 2), (some (30, true))⟩, ⟨(some 32), .faddr 3 (.tmp 3), (some (30, true))⟩, ⟨(some 33), .load none (.tmp 32), (some (30, true))⟩, ⟨(some 34), .bin .leq (.tmp 31) (.tmp 33), (some (30, true))⟩, ⟨(some 35), .pick (.tmp 30) (.tmp 34) (.val (.bool false)), none⟩, ⟨(some 6), .mov (.tmp 35), none⟩]))
 .ret)) }
def h14 : Hints := ⟨[14], [(0, [0, 1, 2, 3, 4], []), (1, [0, 1, 2, 3, 4], []), (2, [0, 1, 2, 3, 4, 12], []), (3, [0, 1, 2, 3, 4, 12, 13], []), (5, [0, 1, 2, 3, 4, 12, 13], []), (6, [0, 1, 2, 3, 4, 12, 13, 14], [14]), (7, [0, 1, 2, 3, 4, 12, 13, 14], [14]), (8, [0, 1, 2, 3, 4, 13], []), (4, [0, 1, 2, 3, 4, 12, 13], []), (9, [12], [])]⟩
def a14_B1 : AC := (.seq (.seq (.keep [0, 1, 2, 3, 4, 12, 13] [] (.reg [⟨(some 15), .mov (.tmp 13), none⟩, ⟨(some 16), .mov (.tmp 4), none⟩, ⟨(some 17), .lenL (.tmp 16), none⟩, ⟨(some 18), .bin .lss (.tmp 15) (.tmp 17), none⟩, ⟨(some 19), .mov (.tmp 18), none⟩, ⟨(some 20), .mov (.tmp 4), (some (19, true))⟩, ⟨(some 21), .call 9 [(.tmp 20)], (some (19, true))⟩, ⟨(some 22), .bin .eql (.tmp 21) (.val (.int .i64 0)), (some (19, true))⟩, ⟨(some 23), .pick (.tmp 19) (.tmp 22) (.val (.bool false)), none⟩]))
 (.cond (.tmp 23) .skip (.exit 0)))
 (.seq (.block 1 (.seq (.keep [0, 1, 2, 3, 4, 12, 13] [] (.reg [⟨(some 26), .mov (.tmp 4), none⟩, ⟨(some 27), .mov (.tmp 13), none⟩, ⟨(some 28), .iaddrL 3 (.tmp 26) (.tmp 27), none⟩, ⟨(some 29), .load (some 3) (.tmp 28), none⟩, ⟨(some 14), .alloc (some 14) [(.int .i64 0), (.int .i64 0), (.int .i64 0)], none⟩, ⟨none, .store 3 (.tmp 14) (.tmp 29), none⟩]))
 (.seq (.seq (.keep [0, 1, 2, 3, 4, 12, 13, 14] [14] (.reg [⟨(some 30), .mov (.tmp 0), none⟩, ⟨(some 31), .faddr 0 (.tmp 14), none⟩, ⟨(some 32), .load none (.tmp 31), none⟩, ⟨(some 33), .call 19 [(.tmp 30), (.tmp 32)], none⟩, ⟨(some 34), .un .not (.tmp 33), none⟩, ⟨(some 35), .mov (.tmp 34), none⟩, ⟨(some 36), .mov (.tmp 1), (some (35, false))⟩, ⟨(some 37), .faddr 0 (.tmp 14), (some (35, false))⟩, ⟨(some 38), .load none (.tmp 37), (some (35, false))⟩, ⟨(some 39), .call 19 [(.tmp 36), (.tmp 38)], (some (35, false))⟩, ⟨(some 40), .un .not (.tmp 39), (some (35, false))⟩, ⟨(some 41), .pick (.tmp 35) (.val (.bool true)) (.tmp 40), none⟩, ⟨(some 42), .mov (.tmp 41), none⟩, ⟨(some 43), .faddr 1 (.tmp 14), (some (42, false))⟩, ⟨(some 44), .load none (.tmp 43), (some (42, false))⟩, ⟨(some 45), .mov (.tmp 2), (some (42, false))⟩, ⟨(some 46), .bin .leq (.tmp 44) (.tmp 45), (some (42, false))⟩, ⟨(some 47), .pick (.tmp 42) (.val (.bool true)) (.tmp 46), none⟩, ⟨(some 48), .mov (.tmp 47), none⟩, ⟨(some 49), .faddr 1 (.tmp 14), (some (48, false))⟩, ⟨(some 50), .load none (.tmp 49), (some (48, false))⟩, ⟨(some 51), .mov (.tmp 3), (some (48, false))⟩, ⟨(some 52), .bin .leq (.tmp 50) (.tmp 51), (some (48, false))⟩, ⟨(some 53), .pick (.tmp 48) (.val (.bool true)) (.tmp 52), none⟩]))
 (.cond (.tmp 53) (.exit 1) .skip))
 (.seq (.keep [0, 1, 2, 3, 4, 12, 13, 14] [14] (.dreg [(false, ⟨(some 54), .mov (.tmp 12), none⟩, false), (false, ⟨(some 55), .bin .lss (.tmp 54) (.val (.int .i64 0)), none⟩, false), (false, ⟨(some 56), .mov (.tmp 55), none⟩, false), (false, ⟨(some 57), .mov (.tmp 4), (some (56, false))⟩, false), (false, ⟨(some 58), .mov (.tmp 12), (some (56, false))⟩, false), (false, ⟨(some 59), .iaddrL 3 (.tmp 57) (.tmp 58), (some (56, false))⟩, false), (false, ⟨(some 60), .faddr 1 (.tmp 59), (some (56, false))⟩, false), (false, ⟨(some 61), .load none (.tmp 60), (some (56, false))⟩, false), (false, ⟨(some 62), .faddr 1 (.tmp 14), (some (56, false))⟩, false), (false, ⟨(some 63), .load none (.tmp 62), (some (56, false))⟩, false), (false, ⟨(some 64), .bin .lss (.tmp 61) (.tmp 63), (some (56, false))⟩, false), (false, ⟨(some 65), .pick (.tmp 56) (.val (.bool true)) (.tmp 64), none⟩, false), (false, ⟨(some 66), .mov (.tmp 65), none⟩, false), (false, ⟨(some 67), .mov (.tmp 4), (some (66, false))⟩, false), (false, ⟨(some 68), .mov (.tmp 12), (some (66, false))⟩, false), (false, ⟨(some 69), .iaddrL 3 (.tmp 67) (.tmp 68), (some (66, false))⟩, false), (false, ⟨(some 70), .faddr 1 (.tmp 69), (some (66, false))⟩, false), (false, ⟨(some 71), .load none (.tmp 70), (some (66, false))⟩, false), (false, ⟨(some 72), .faddr 1 (.tmp 14), (some (66, false))⟩, false), (false, ⟨(some 73), .load none (.tmp 72), (some (66, false))⟩, false), (false, ⟨(some 74), .bin .eql (.tmp 71) (.tmp 73), (some (66, false))⟩, false), (false, ⟨(some 75), .mov (.tmp 74), (some (66, false))⟩, false), (false, ⟨(some 76), .mov (.tmp 4), (some (75, true))⟩, false), (false, ⟨(some 77), .mov (.tmp 12), (some (75, true))⟩, false), (false, ⟨(some 78), .iaddrL 3 (.tmp 76) (.tmp 77), (some (75, true))⟩, false), (false, ⟨(some 79), .faddr 0 (.tmp 78), (some (75, true))⟩, false), (false, ⟨(some 80), .load none (.tmp 79), (some (75, true))⟩, false), (false, ⟨(some 81), .faddr 0 (.tmp 14), (some (75, true))⟩, false), (false, ⟨(some 82), .load none (.tmp 81), (some (75, true))⟩, false), (false, ⟨(some 83), .bin .gtr (.tmp 80) (.tmp 82), (some (75, true))⟩, false), (false, ⟨(some 84), .pick (.tmp 75) (.tmp 83) (.val (.bool false)), (some (66, false))⟩, false), (false, ⟨(some 85), .pick (.tmp 66) (.val (.bool true)) (.tmp 84), none⟩, false)]))
 (.cond (.tmp 85) (.keep [0, 1, 2, 3, 4, 13] [] (.reg [⟨(some 86), .mov (.tmp 13), none⟩, ⟨(some 12), .mov (.tmp 86), none⟩])) .skip)))))
 (.keep [0, 1, 2, 3, 4, 12, 13] [] (.reg [⟨(some 24), .mov (.tmp 13), none⟩, ⟨(some 25), .bin .add (.tmp 24) (.val (.int .i64 1)), none⟩, ⟨(some 13), .mov (.tmp 25), none⟩]))))
def a14_L1 : AC := .loop a14_B1
theorem a14_L1_step (call : Caller) (again : AC → St → Option (Ex × St)) (s : St) : codeEv call again a14_L1 s = match codeEv call again a14_B1 s with | some (.norm, s1) => again a14_L1 s1 | r => r := rfl
def a14 : AFn := { n := 91, np := 5, res := [.tmp 10, .tmp 11], body :=
 (.seq (.keep [0, 1, 2, 3, 4] [] (.reg [⟨(some 10), .mov (.val (.int .i64 0)), none⟩, ⟨(some 11), .mov (.val (.bool false)), none⟩]))
 (.seq (.keep [0, 1, 2, 3, 4] [] (.reg [⟨(some 12), .mov (.val (.int .i64 (-1))), none⟩]))
 (.seq (.seq (.keep [0, 1, 2, 3, 4, 12] [] (.reg [⟨(some 13), .mov (.val (.int .i64 0)), none⟩]))
 (.block 0 a14_L1))
 (.seq (.keep [12] [] (.reg [⟨(some 87), .mov (.tmp 12), none⟩, ⟨(some 88), .max [(.val (.int .i64 0)), (.tmp 87)], none⟩, ⟨(some 89), .mov (.tmp 12), none⟩, ⟨(some 90), .bin .geq (.tmp 89) (.val (.int .i64 0)), none⟩, ⟨(some 10), .mov (.tmp 88), none⟩, ⟨(some 11), .mov (.tmp 90), none⟩]))
 .ret)))) }
def h15 : Hints := ⟨[2, 3, 4], [(0, [0, 1], []), (1, [2, 3, 4], [2, 3, 4]), (2, [4], [4]), (3, [2, 3, 4], [2, 3, 4])]⟩
def a15 : AFn := { n := 35, np := 2, res := [.cell 4 (some 4)], body :=
 (.seq (.keep [0, 1] [] (.reg [⟨(some 2), .box (some 2) (.tmp 0), none⟩, ⟨(some 3), .box (some 3) (.tmp 1), none⟩, ⟨(some 4), .alloc (some 4) [(.int .u32 0), (.int .u32 0), (.int .i64 0), (.int .i64 0)], none⟩]))
 (.seq (.seq (.keep [2, 3, 4] [2, 3, 4] (.reg [⟨(some 5), .load (some 4) (.tmp 2), none⟩, ⟨(some 6), .call 8 [(.tmp 5)], none⟩, ⟨(some 7), .bin .neq (.tmp 6) (.val (.int .i64 0)), none⟩, ⟨(some 8), .mov (.tmp 7), none⟩, ⟨(some 9), .load (some 4) (.tmp 3), (some (8, false))⟩, ⟨(some 10), .call 8 [(.tmp 9)], (some (8, false))⟩, ⟨(some 11), .bin .neq (.tmp 10) (.val (.int .i64 0)), (some (8, false))⟩, ⟨(some 12), .pick (.tmp 8) (.val (.bool true)) (.tmp 11), none⟩]))
 (.cond (.tmp 12) (.seq (.keep [4] [4] (.reg [⟨(some 13), .call 20 [], none⟩, ⟨none, .store 4 (.tmp 4) (.tmp 13), none⟩]))
 .ret) .skip))
 (.seq (.keep [2, 3, 4] [2, 3, 4] (.reg [⟨(some 14), .faddr 0 (.tmp 2), none⟩, ⟨(some 15), .load none (.tmp 14), none⟩, ⟨(some 16), .faddr 0 (.tmp 3), none⟩, ⟨(some 17), .load none (.tmp 16), none⟩, ⟨(some 18), .bin .or (.tmp 15) (.tmp 17), none⟩, ⟨(some 19), .faddr 1 (.tmp 2), none⟩, ⟨(some 20), .load none (.tmp 19), none⟩, ⟨(some 21), .faddr 1 (.tmp 3), none⟩, ⟨(some 22), .load none (.tmp 21), none⟩, ⟨(some 23), .bin .and (.tmp 20) (.tmp 22), none⟩, ⟨(some 24), .faddr 2 (.tmp 2), none⟩, ⟨(some 25), .load none (.tmp 24), none⟩, ⟨(some 26), .faddr 2 (.tmp 3), none⟩, ⟨(some 27), .load none (.tmp 26), none⟩, ⟨(some 28), .min [(.tmp 25), (.tmp 27)], none⟩, ⟨(some 29), .faddr 3 (.tmp 2), none⟩, ⟨(some 30), .load none (.tmp 29), none⟩, ⟨(some 31), .faddr 3 (.tmp 3), none⟩, ⟨(some 32), .load none (.tmp 31), none⟩, ⟨(some 33), .max [(.tmp 30), (.tmp 32)], none⟩, ⟨(some 34), .build [(.int .u32 0), (.int .u32 0), (.int .i64 0), (.int .i64 0)] [(0, 1, (.tmp 18)), (1, 1, (.tmp 23)), (2, 1, (.tmp 28)), (3, 1, (.tmp 33))], none⟩, ⟨none, .store 4 (.tmp 4) (.tmp 34), none⟩]))
 .ret))) }
def h16 : Hints := ⟨[2, 3], [(0, [0, 1], []), (1, [2, 3], [2, 3])]⟩
def a16 : AFn := { n := 20, np := 2, res := [.tmp 4], body :=
 (.seq (.keep [0, 1] [] (.reg [⟨(some 2), .box (some 2) (.tmp 0), none⟩, ⟨(some 3), .box (some 3) (.tmp 1), none⟩, ⟨(some 4), .mov (.val (.bool false)), none⟩]))
 (.seq (.keep [2, 3] [2, 3] (.dreg [(false, ⟨(some 5), .load (some 4) (.tmp 2), none⟩, false), (false, ⟨(some 6), .call 8 [(.tmp 5)], none⟩, false), (false, ⟨(some 7), .bin .eql (.tmp 6) (.val (.int .i64 0)), none⟩, false), (false, ⟨(some 8), .mov (.tmp 7), none⟩, false), (false, ⟨(some 9), .load (some 4) (.tmp 3), (some (8, true))⟩, false), (false, ⟨(some 10), .call 8 [(.tmp 9)], (some (8, true))⟩, false), (false, ⟨(some 11), .bin .eql (.tmp 10) (.val (.int .i64 0)), (some (8, true))⟩, false), (false, ⟨(some 12), .pick (.tmp 8) (.tmp 11) (.val (.bool false)), none⟩, false), (false, ⟨(some 13), .mov (.tmp 12), none⟩, false), (false, ⟨(some 14), .load (some 4) (.tmp 2), (some (13, true))⟩, false), (false, ⟨(some 15), .load (some 4) (.tmp 3), (some (13, true))⟩, false), (false, ⟨(some 16), .call 15 [(.tmp 14), (.tmp 15)], (some (13, true))⟩, false), (false, ⟨(some 17), .load (some 4) (.tmp 3), (some (13, true))⟩, true), (false, ⟨(some 18), .eq false (.agg [(0, 0), (1, 0), (2, 0), (3, 0)]) (.tmp 16) (.tmp 17), (some (13, true))⟩, false), (false, ⟨(some 19), .pick (.tmp 13) (.tmp 18) (.val (.bool false)), none⟩, false), (false, ⟨(some 4), .mov (.tmp 19), none⟩, false)]))
 .ret)) }
def h17 : Hints := ⟨[], [(0, [], []), (1, [], [])]⟩
def a17 : AFn := { n := 4, np := 0, res := [.tmp 0], body :=
 (.seq (.keep [] [] (.reg [⟨(some 0), .mov (.val .nils), none⟩]))
 (.seq (.keep [] [] (.reg [⟨(some 1), .build [(.int .i64 0), (.int .i64 0), (.int .i64 0)] [(0, 1, (.val (.int .i64 0))), (1, 1, (.val (.int .i64 1)))], none⟩, ⟨(some 2), .build [(.int .i64 0), (.int .i64 0), (.int .i64 0)] [(0, 1, (.val (.int .i64 1))), (1, 1, (.val (.int .i64 5)))], none⟩, ⟨(some 3), .mkslc 3 2 [(.int .i64 0), (.int .i64 0), (.int .i64 0)] [(0, (.tmp 1)), (1, (.tmp 2))], none⟩, ⟨(some 0), .mov (.tmp 3), none⟩]))
 .ret)) }
def h18 : Hints := ⟨[11], [(0, [0, 1, 2, 3], []), (1, [0, 1, 2, 3], []), (2, [], []), (3, [0, 1, 2, 3], []), (4, [0, 1, 2, 3, 9], []), (5, [0, 1, 2, 9, 15, 16, 17], []), (6, [0, 1, 2, 9, 15, 16, 17], []), (7, [0, 1, 2, 9, 10, 11, 15, 16, 17], [11]), (8, [0, 1, 2, 9, 10, 15, 16, 17], []), (9, [0, 1, 2, 9, 15, 16, 17], []), (10, [9], [])]⟩
def a18_B1 : AC := (.seq (.keep [0, 1, 2, 9, 15, 16, 17] [] (.reg [⟨(some 18), .bin .lss (.tmp 17) (.tmp 16), none⟩]))
 (.seq (.cond (.tmp 18) .skip (.exit 0))
 (.seq (.block 1 (.seq (.keep [0, 1, 2, 9, 15, 16, 17] [] (.reg [⟨(some 19), .mov (.tmp 17), none⟩, ⟨(some 20), .iaddrL 3 (.tmp 15) (.tmp 17), none⟩, ⟨(some 21), .load (some 3) (.tmp 20), none⟩, ⟨(some 11), .alloc (some 11) [(.int .i64 0), (.int .i64 0), (.int .i64 0)], none⟩, ⟨(some 10), .mov (.tmp 19), none⟩, ⟨none, .store 3 (.tmp 11) (.tmp 21), none⟩]))
 (.seq (.keep [0, 1, 2, 9, 10, 11, 15, 16, 17] [11] (.reg [⟨(some 22), .mov (.tmp 0), none⟩, ⟨(some 23), .faddr 0 (.tmp 11), none⟩, ⟨(some 24), .load none (.tmp 23), none⟩, ⟨(some 25), .call 22 [(.tmp 22), (.tmp 24)], none⟩, ⟨(some 26), .mov (.tmp 25), none⟩, ⟨(some 27), .faddr 1 (.tmp 11), (some (26, true))⟩, ⟨(some 28), .load none (.tmp 27), (some (26, true))⟩, ⟨(some 29), .mov (.tmp 1), (some (26, true))⟩, ⟨(some 30), .bin .gtr (.tmp 28) (.tmp 29), (some (26, true))⟩, ⟨(some 31), .pick (.tmp 26) (.tmp 30) (.val (.bool false)), none⟩, ⟨(some 32), .mov (.tmp 31), none⟩, ⟨(some 33), .faddr 1 (.tmp 11), (some (32, true))⟩, ⟨(some 34), .load none (.tmp 33), (some (32, true))⟩, ⟨(some 35), .mov (.tmp 2), (some (32, true))⟩, ⟨(some 36), .bin .gtr (.tmp 34) (.tmp 35), (some (32, true))⟩, ⟨(some 37), .pick (.tmp 32) (.tmp 36) (.val (.bool false)), none⟩]))
 (.cond (.tmp 37) (.keep [0, 1, 2, 9, 10, 15, 16, 17] [] (.reg [⟨(some 38), .mov (.tmp 9), none⟩, ⟨(some 39), .mov (.tmp 10), none⟩, ⟨(some 40), .bin .shl (.val (.int .u32 1)) (.tmp 39), none⟩, ⟨(some 41), .bin .or (.tmp 38) (.tmp 40), none⟩, ⟨(some 9), .mov (.tmp 41), none⟩])) .skip))))
 (.keep [0, 1, 2, 9, 15, 16, 17] [] (.reg [⟨(some 42), .bin .add (.tmp 17) (.val (.int .i64 1)), none⟩, ⟨(some 17), .mov (.tmp 42), none⟩])))))
def a18_L1 : AC := .loop a18_B1
theorem a18_L1_step (call : Caller) (again : AC → St → Option (Ex × St)) (s : St) : codeEv call again a18_L1 s = match codeEv call again a18_B1 s with | some (.norm, s1) => again a18_L1 s1 | r => r := rfl
def a18 : AFn := { n := 44, np := 4, res := [.tmp 8], body :=
 (.seq (.keep [0, 1, 2, 3] [] (.reg [⟨(some 8), .mov (.val (.int .u32 0)), none⟩]))
 (.seq (.seq (.keep [0, 1, 2, 3] [] (.reg [⟨(some 12), .mov (.tmp 3), none⟩, ⟨(some 13), .call 21 [(.tmp 12)], none⟩, ⟨(some 14), .bin .neq (.tmp 13) (.val (.int .i64 0)), none⟩]))
 (.cond (.tmp 14) (.seq (.keep [] [] (.reg [⟨(some 8), .mov (.val (.int .u32 0)), none⟩]))
 .ret) .skip))
 (.seq (.keep [0, 1, 2, 3] [] (.reg [⟨(some 9), .mov (.val (.int .u32 0)), none⟩]))
 (.seq (.seq (.keep [0, 1, 2, 3, 9] [] (.reg [⟨(some 15), .mov (.tmp 3), none⟩, ⟨(some 16), .lenL (.tmp 15), none⟩, ⟨(some 17), .mov (.val (.int .i64 0)), none⟩]))
 (.block 0 a18_L1))
 (.seq (.keep [9] [] (.reg [⟨(some 43), .mov (.tmp 9), none⟩, ⟨(some 8), .mov (.tmp 43), none⟩]))
 .ret))))) }
def h19 : Hints := ⟨[], [(0, [0, 1], []), (1, [0, 1], [])]⟩
def a19 : AFn := { n := 19, np := 2, res := [.tmp 4], body :=
 (.seq (.keep [0, 1] [] (.reg [⟨(some 4), .mov (.val (.bool false)), none⟩]))
 (.seq (.keep [0, 1] [] (.reg [⟨(some 5), .mov (.tmp 1), none⟩, ⟨(some 6), .bin .geq (.tmp 5) (.val (.int .i64 0)), none⟩, ⟨(some 7), .mov (.tmp 6), none⟩, ⟨(some 8), .mov (.tmp 1), (some (7, true))⟩, ⟨(some 9), .bin .lss (.tmp 8) (.val (.int .i64 32)), (some (7, true))⟩, ⟨(some 10), .pick (.tmp 7) (.tmp 9) (.val (.bool false)), none⟩, ⟨(some 11), .mov (.tmp 10), none⟩, ⟨(some 12), .mov (.tmp 0), (some (11, true))⟩, ⟨(some 13), .mov (.tmp 1), (some (11, true))⟩, ⟨(some 14), .conv .u64 (.tmp 13), (some (11, true))⟩, ⟨(some 15), .bin .shr (.tmp 12) (.tmp 14), (some (11, true))⟩, ⟨(some 16), .bin .rem (.tmp 15) (.val (.int .u32 2)), (some (11, true))⟩, ⟨(some 17), .bin .eql (.tmp 16) (.val (.int .u32 1)), (some (11, true))⟩, ⟨(some 18), .pick (.tmp 11) (.tmp 17) (.val (.bool false)), none⟩, ⟨(some 4), .mov (.tmp 18), none⟩]))
 .ret)) }
def h20 : Hints := ⟨[0], [(0, [], []), (1, [0], [0])]⟩
def a20 : AFn := { n := 2, np := 0, res := [.cell 0 (some 4)], body :=
 (.seq (.keep [] [] (.reg [⟨(some 0), .alloc (some 0) [(.int .u32 0), (.int .u32 0), (.int .i64 0), (.int .i64 0)], none⟩]))
 (.seq (.keep [0] [0] (.reg [⟨(some 1), .build [(.int .u32 0), (.int .u32 0), (.int .i64 0), (.int .i64 0)] [], none⟩, ⟨none, .store 4 (.tmp 0) (.tmp 1), none⟩]))
 .ret)) }
def h21 : Hints := ⟨[5], [(0, [0], []), (1, [0], []), (2, [], []), (3, [0], []), (4, [0, 3], []), (5, [3, 9, 10, 11], []), (6, [3, 9, 10, 11], []), (7, [3, 5, 9, 10, 11], [5]), (8, [], []), (9, [3, 5, 9, 10, 11], [5]), (10, [3, 9, 10, 11], []), (11, [], [])]⟩
def a21_B1 : AC := (.seq (.keep [3, 9, 10, 11] [] (.reg [⟨(some 12), .bin .lss (.tmp 11) (.tmp 10), none⟩]))
 (.seq (.cond (.tmp 12) .skip (.exit 0))
 (.seq (.block 1 (.seq (.keep [3, 9, 10, 11] [] (.reg [⟨(some 13), .iaddrL 3 (.tmp 9) (.tmp 11), none⟩, ⟨(some 14), .load (some 3) (.tmp 13), none⟩, ⟨(some 5), .alloc (some 5) [(.int .i64 0), (.int .i64 0), (.int .i64 0)], none⟩, ⟨none, .store 3 (.tmp 5) (.tmp 14), none⟩]))
 (.seq (.seq (.keep [3, 5, 9, 10, 11] [5] (.reg [⟨(some 15), .faddr 0 (.tmp 5), none⟩, ⟨(some 16), .load none (.tmp 15), none⟩, ⟨(some 17), .bin .lss (.tmp 16) (.val (.int .i64 0)), none⟩, ⟨(some 18), .mov (.tmp 17), none⟩, ⟨(some 19), .faddr 0 (.tmp 5), (some (18, false))⟩, ⟨(some 20), .load none (.tmp 19), (some (18, false))⟩, ⟨(some 21), .bin .gtr (.tmp 20) (.val (.int .i64 31)), (some (18, false))⟩, ⟨(some 22), .pick (.tmp 18) (.val (.bool true)) (.tmp 21), none⟩, ⟨(some 23), .mov (.tmp 22), none⟩, ⟨(some 24), .faddr 1 (.tmp 5), (some (23, false))⟩, ⟨(some 25), .load none (.tmp 24), (some (23, false))⟩, ⟨(some 26), .bin .lss (.tmp 25) (.val (.int .i64 1)), (some (23, false))⟩, ⟨(some 27), .pick (.tmp 23) (.val (.bool true)) (.tmp 26), none⟩, ⟨(some 28), .mov (.tmp 27), none⟩, ⟨(some 29), .faddr 1 (.tmp 5), (some (28, false))⟩, ⟨(some 30), .load none (.tmp 29), (some (28, false))⟩, ⟨(some 31), .bin .gtr (.tmp 30) (.val (.int .i64 15)), (some (28, false))⟩, ⟨(some 32), .pick (.tmp 28) (.val (.bool true)) (.tmp 31), none⟩, ⟨(some 33), .mov (.tmp 32), none⟩, ⟨(some 34), .faddr 2 (.tmp 5), (some (33, false))⟩, ⟨(some 35), .load none (.tmp 34), (some (33, false))⟩, ⟨(some 36), .bin .lss (.tmp 35) (.val (.int .i64 0)), (some (33, false))⟩, ⟨(some 37), .pick (.tmp 33) (.val (.bool true)) (.tmp 36), none⟩, ⟨(some 38), .mov (.tmp 37), none⟩, ⟨(some 39), .mov (.tmp 3), (some (38, false))⟩, ⟨(some 40), .faddr 0 (.tmp 5), (some (38, false))⟩, ⟨(some 41), .load none (.tmp 40), (some (38, false))⟩, ⟨(some 42), .call 22 [(.tmp 39), (.tmp 41)], (some (38, false))⟩, ⟨(some 43), .pick (.tmp 38) (.val (.bool true)) (.tmp 42), none⟩]))
 (.cond (.tmp 43) (.seq (.keep [] [] (.reg [⟨(some 2), .mov (.val (.int .i64 2)), none⟩]))
 .ret) .skip))
 (.keep [3, 5, 9, 10, 11] [5] (.reg [⟨(some 44), .mov (.tmp 3), none⟩, ⟨(some 45), .faddr 0 (.tmp 5), none⟩, ⟨(some 46), .load none (.tmp 45), none⟩, ⟨(some 47), .bin .shl (.val (.int .u32 1)) (.tmp 46), none⟩, ⟨(some 48), .bin .or (.tmp 44) (.tmp 47), none⟩, ⟨(some 3), .mov (.tmp 48), none⟩])))))
 (.keep [3, 9, 10, 11] [] (.reg [⟨(some 49), .bin .add (.tmp 11) (.val (.int .i64 1)), none⟩, ⟨(some 11), .mov (.tmp 49), none⟩])))))
def a21_L1 : AC := .loop a21_B1
theorem a21_L1_step (call : Caller) (again : AC → St → Option (Ex × St)) (s : St) : codeEv call again a21_L1 s = match codeEv call again a21_B1 s with | some (.norm, s1) => again a21_L1 s1 | r => r := rfl
def a21 : AFn := { n := 50, np := 1, res := [.tmp 2], body :=
 (.seq (.keep [0] [] (.reg [⟨(some 2), .mov (.val (.int .i64 0)), none⟩]))
 (.seq (.seq (.keep [0] [] (.reg [⟨(some 6), .mov (.tmp 0), none⟩, ⟨(some 7), .lenL (.tmp 6), none⟩, ⟨(some 8), .bin .gtr (.tmp 7) (.val (.int .i64 32)), none⟩]))
 (.cond (.tmp 8) (.seq (.keep [] [] (.reg [⟨(some 2), .mov (.val (.int .i64 3)), none⟩]))
 .ret) .skip))
 (.seq (.keep [0] [] (.reg [⟨(some 3), .mov (.val (.int .u32 0)), none⟩]))
 (.seq (.seq (.keep [0, 3] [] (.reg [⟨(some 9), .mov (.tmp 0), none⟩, ⟨(some 10), .lenL (.tmp 9), none⟩, ⟨(some 11), .mov (.val (.int .i64 0)), none⟩]))
 (.block 0 a21_L1))
 (.seq (.keep [] [] (.reg [⟨(some 2), .mov (.val (.int .i64 0)), none⟩]))
 .ret))))) }
def h22 : Hints := ⟨[], [(0, [0, 1], []), (1, [0, 1], [])]⟩
def a22 : AFn := { n := 18, np := 2, res := [.tmp 4], body :=
 (.seq (.keep [0, 1] [] (.reg [⟨(some 4), .mov (.val (.bool false)), none⟩]))
 (.seq (.keep [0, 1] [] (.reg [⟨(some 5), .mov (.tmp 1), none⟩, ⟨(some 6), .bin .geq (.tmp 5) (.val (.int .i64 0)), none⟩, ⟨(some 7), .mov (.tmp 6), none⟩, ⟨(some 8), .mov (.tmp 1), (some (7, true))⟩, ⟨(some 9), .bin .lss (.tmp 8) (.val (.int .i64 32)), (some (7, true))⟩, ⟨(some 10), .pick (.tmp 7) (.tmp 9) (.val (.bool false)), none⟩, ⟨(some 11), .mov (.tmp 10), none⟩, ⟨(some 12), .mov (.tmp 0), (some (11, true))⟩, ⟨(some 13), .mov (.tmp 1), (some (11, true))⟩, ⟨(some 14), .bin .shr (.tmp 12) (.tmp 13), (some (11, true))⟩, ⟨(some 15), .bin .and (.tmp 14) (.val (.int .u32 1)), (some (11, true))⟩, ⟨(some 16), .bin .eql (.tmp 15) (.val (.int .u32 1)), (some (11, true))⟩, ⟨(some 17), .pick (.tmp 11) (.tmp 16) (.val (.bool false)), none⟩, ⟨(some 4), .mov (.tmp 17), none⟩]))
 .ret)) }
theorem t3 : trFn Try.prog h3 Try.f3 = some a3 := by kernel_rfl
theorem t4 : trFn Try.prog h4 Try.f4 = some a4 := by kernel_rfl
theorem t5 : trFn Try.prog h5 Try.f5 = some a5 := by kernel_rfl
theorem t6 : trFn Try.prog h6 Try.f6 = some a6 := by kernel_rfl
theorem t7 : trFn Try.prog h7 Try.f7 = some a7 := by kernel_rfl
theorem t8 : trFn Try.prog h8 Try.f8 = some a8 := by kernel_rfl
theorem t9 : trFn Try.prog h9 Try.f9 = some a9 := by kernel_rfl
theorem t10 : trFn Try.prog h10 Try.f10 = some a10 := by kernel_rfl
theorem t11 : trFn Try.prog h11 Try.f11 = some a11 := by kernel_rfl
theorem t12 : trFn Try.prog h12 Try.f12 = some a12 := by kernel_rfl
theorem t13 : trFn Try.prog h13 Try.f13 = some a13 := by kernel_rfl
theorem t14 : trFn Try.prog h14 Try.f14 = some a14 := by kernel_rfl
theorem t15 : trFn Try.prog h15 Try.f15 = some a15 := by kernel_rfl
theorem t16 : trFn Try.prog h16 Try.f16 = some a16 := by kernel_rfl
theorem t17 : trFn Try.prog h17 Try.f17 = some a17 := by kernel_rfl
theorem t18 : trFn Try.prog h18 Try.f18 = some a18 := by kernel_rfl
theorem t19 : trFn Try.prog h19 Try.f19 = some a19 := by kernel_rfl
theorem t20 : trFn Try.prog h20 Try.f20 = some a20 := by kernel_rfl
theorem t21 : trFn Try.prog h21 Try.f21 = some a21 := by kernel_rfl
theorem t22 : trFn Try.prog h22 Try.f22 = some a22 := by kernel_rfl
def A : Nat → Option AFn
  | 3 => some a3
  | 4 => some a4
  | 5 => some a5
  | 6 => some a6
  | 7 => some a7
  | 8 => some a8
  | 9 => some a9
  | 10 => some a10
  | 11 => some a11
  | 12 => some a12
  | 13 => some a13
  | 14 => some a14
  | 15 => some a15
  | 16 => some a16
  | 17 => some a17
  | 18 => some a18
  | 19 => some a19
  | 20 => some a20
  | 21 => some a21
  | 22 => some a22
  | _ => none
theorem A_ok : AOk Try.prog A := by
  intro f af h
  unfold A at h
  split at h
  · cases h; exact ⟨h3, Try.f3, Try.func3, t3⟩
  · cases h; exact ⟨h4, Try.f4, Try.func4, t4⟩
  · cases h; exact ⟨h5, Try.f5, Try.func5, t5⟩
  · cases h; exact ⟨h6, Try.f6, Try.func6, t6⟩
  · cases h; exact ⟨h7, Try.f7, Try.func7, t7⟩
  · cases h; exact ⟨h8, Try.f8, Try.func8, t8⟩
  · cases h; exact ⟨h9, Try.f9, Try.func9, t9⟩
  · cases h; exact ⟨h10, Try.f10, Try.func10, t10⟩
  · cases h; exact ⟨h11, Try.f11, Try.func11, t11⟩
  · cases h; exact ⟨h12, Try.f12, Try.func12, t12⟩
  · cases h; exact ⟨h13, Try.f13, Try.func13, t13⟩
  · cases h; exact ⟨h14, Try.f14, Try.func14, t14⟩
  · cases h; exact ⟨h15, Try.f15, Try.func15, t15⟩
  · cases h; exact ⟨h16, Try.f16, Try.func16, t16⟩
  · cases h; exact ⟨h17, Try.f17, Try.func17, t17⟩
  · cases h; exact ⟨h18, Try.f18, Try.func18, t18⟩
  · cases h; exact ⟨h19, Try.f19, Try.func19, t19⟩
  · cases h; exact ⟨h20, Try.f20, Try.func20, t20⟩
  · cases h; exact ⟨h21, Try.f21, Try.func21, t21⟩
  · cases h; exact ⟨h22, Try.f22, Try.func22, t22⟩
  · cases h
theorem run_3 (n : Nat) (args : List AV) (m : Mem) : run A (n + 1) 3 args m = fnEv (run A n) (ev A n).2 a3 args m := run_of rfl n args m
theorem run_4 (n : Nat) (args : List AV) (m : Mem) : run A (n + 1) 4 args m = fnEv (run A n) (ev A n).2 a4 args m := run_of rfl n args m
theorem run_5 (n : Nat) (args : List AV) (m : Mem) : run A (n + 1) 5 args m = fnEv (run A n) (ev A n).2 a5 args m := run_of rfl n args m
theorem run_6 (n : Nat) (args : List AV) (m : Mem) : run A (n + 1) 6 args m = fnEv (run A n) (ev A n).2 a6 args m := run_of rfl n args m
theorem run_7 (n : Nat) (args : List AV) (m : Mem) : run A (n + 1) 7 args m = fnEv (run A n) (ev A n).2 a7 args m := run_of rfl n args m
theorem run_8 (n : Nat) (args : List AV) (m : Mem) : run A (n + 1) 8 args m = fnEv (run A n) (ev A n).2 a8 args m := run_of rfl n args m
theorem run_9 (n : Nat) (args : List AV) (m : Mem) : run A (n + 1) 9 args m = fnEv (run A n) (ev A n).2 a9 args m := run_of rfl n args m
theorem run_10 (n : Nat) (args : List AV) (m : Mem) : run A (n + 1) 10 args m = fnEv (run A n) (ev A n).2 a10 args m := run_of rfl n args m
theorem run_11 (n : Nat) (args : List AV) (m : Mem) : run A (n + 1) 11 args m = fnEv (run A n) (ev A n).2 a11 args m := run_of rfl n args m
theorem run_12 (n : Nat) (args : List AV) (m : Mem) : run A (n + 1) 12 args m = fnEv (run A n) (ev A n).2 a12 args m := run_of rfl n args m
theorem run_13 (n : Nat) (args : List AV) (m : Mem) : run A (n + 1) 13 args m = fnEv (run A n) (ev A n).2 a13 args m := run_of rfl n args m
theorem run_14 (n : Nat) (args : List AV) (m : Mem) : run A (n + 1) 14 args m = fnEv (run A n) (ev A n).2 a14 args m := run_of rfl n args m
theorem run_15 (n : Nat) (args : List AV) (m : Mem) : run A (n + 1) 15 args m = fnEv (run A n) (ev A n).2 a15 args m := run_of rfl n args m
theorem run_16 (n : Nat) (args : List AV) (m : Mem) : run A (n + 1) 16 args m = fnEv (run A n) (ev A n).2 a16 args m := run_of rfl n args m
theorem run_17 (n : Nat) (args : List AV) (m : Mem) : run A (n + 1) 17 args m = fnEv (run A n) (ev A n).2 a17 args m := run_of rfl n args m
theorem run_18 (n : Nat) (args : List AV) (m : Mem) : run A (n + 1) 18 args m = fnEv (run A n) (ev A n).2 a18 args m := run_of rfl n args m
theorem run_19 (n : Nat) (args : List AV) (m : Mem) : run A (n + 1) 19 args m = fnEv (run A n) (ev A n).2 a19 args m := run_of rfl n args m
theorem run_20 (n : Nat) (args : List AV) (m : Mem) : run A (n + 1) 20 args m = fnEv (run A n) (ev A n).2 a20 args m := run_of rfl n args m
theorem run_21 (n : Nat) (args : List AV) (m : Mem) : run A (n + 1) 21 args m = fnEv (run A n) (ev A n).2 a21 args m := run_of rfl n args m
theorem run_22 (n : Nat) (args : List AV) (m : Mem) : run A (n + 1) 22 args m = fnEv (run A n) (ev A n).2 a22 args m := run_of rfl n args m
end Go.Proofs.Ytenhcejelicjfaa
