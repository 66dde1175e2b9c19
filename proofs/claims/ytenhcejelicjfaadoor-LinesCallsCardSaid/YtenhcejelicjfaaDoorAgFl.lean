/- The functions of this seat, as the abstract machine has them; each is what its translation out of the program gives. Made by program. -/
import Derived.Test.YtenhcejelicjfaaDoorProg
import Derived.Test.YtenhcejelicjfaaDoorAgSym
namespace Go.Proofs.YtenhcejelicjfaaDoor
open AG
set_option maxRecDepth 100000
set_option maxHeartbeats 4000000
def h3 : Hints := ⟨[], [(0, [0, 1, 2, 3, 4, 5, 6], []), (1, [0, 1, 2, 3, 4, 5, 6], []), (2, [], []), (3, [0, 1, 2, 3, 4, 5, 6], []), (4, [], []), (5, [0, 1, 2, 3, 4, 5, 6], []), (6, [0, 1, 2, 3, 4, 5, 6, 15, 16], []), (7, [0, 1, 2, 3, 4, 5, 6, 15, 16, 17], []), (9, [0, 1, 2, 3, 4, 5, 6, 15, 16, 17], []), (10, [0, 1, 2, 3, 4, 5, 6, 15, 16, 17, 18], []), (11, [], []), (12, [0, 1, 2, 3, 4, 5, 6, 15, 16, 17, 18], []), (13, [], []), (8, [0, 1, 2, 3, 4, 5, 6, 15, 16, 17], []), (14, [0, 1, 2, 3, 4, 5, 6, 15, 16], []), (15, [0, 1, 3, 4, 5, 6, 15, 16, 19, 20], []), (16, [], []), (17, [0, 1, 3, 4, 5, 6, 15, 16], []), (18, [], []), (19, [0, 1, 3, 4, 5, 6, 15, 16], []), (20, [0, 1, 3, 4, 5, 6, 15, 16], []), (21, [0, 1, 3, 4, 5, 6, 15, 16], []), (22, [3, 5, 6, 15, 16, 21, 22], [])]⟩
def a3_R1 : AC := .keep [0, 1, 2, 3, 4, 5, 6] [] (.reg [⟨(some 25), .mov (.tmp 6), none⟩, ⟨(some 26), .lenL (.tmp 25), none⟩, ⟨(some 27), .bin .gtr (.tmp 26) (.val (.int .i64 40)), none⟩, ⟨(some 28), .mov (.tmp 27), none⟩, ⟨(some 29), .mov (.tmp 6), (some (28, false))⟩, ⟨(some 30), .call 12 [(.tmp 29)], (some (28, false))⟩, ⟨(some 31), .bin .neq (.tmp 30) (.val (.int .i64 0)), (some (28, false))⟩, ⟨(some 32), .pick (.tmp 28) (.val (.bool true)) (.tmp 31), none⟩])
def a3_R2 : AC := .keep [0, 1, 2, 3, 4, 5, 6] [] (.reg [⟨(some 34), .mov (.tmp 0), none⟩, ⟨(some 35), .mov (.tmp 1), none⟩, ⟨(some 36), .mov (.tmp 3), none⟩, ⟨(some 37), .mov (.tmp 4), none⟩, ⟨(some 38), .mov (.tmp 6), none⟩, ⟨(some 39), .call 13 [(.tmp 34), (.tmp 35), (.tmp 36), (.tmp 37), (.tmp 38)], none⟩, ⟨(some 33), .mov (.tmp 39), none⟩, ⟨(some 40), .ext (.tmp 33) 0, none⟩, ⟨(some 41), .ext (.tmp 33) 1, none⟩, ⟨(some 15), .mov (.tmp 40), none⟩, ⟨(some 16), .mov (.tmp 41), none⟩])
def a3_R3 : AC := .keep [0, 1, 2, 3, 4, 5, 6, 15, 16, 17] [] (.reg [⟨(some 48), .mov (.tmp 0), none⟩, ⟨(some 49), .mov (.tmp 6), none⟩, ⟨(some 50), .mov (.tmp 17), none⟩, ⟨(some 51), .iaddrL 3 (.tmp 49) (.tmp 50), none⟩, ⟨(some 52), .faddr 0 (.tmp 51), none⟩, ⟨(some 53), .load none (.tmp 52), none⟩, ⟨(some 54), .call 14 [(.tmp 48), (.tmp 53)], none⟩, ⟨(some 55), .mov (.tmp 54), none⟩, ⟨(some 56), .mov (.tmp 1), (some (55, true))⟩, ⟨(some 57), .mov (.tmp 6), (some (55, true))⟩, ⟨(some 58), .mov (.tmp 17), (some (55, true))⟩, ⟨(some 59), .iaddrL 3 (.tmp 57) (.tmp 58), (some (55, true))⟩, ⟨(some 60), .faddr 0 (.tmp 59), (some (55, true))⟩, ⟨(some 61), .load none (.tmp 60), (some (55, true))⟩, ⟨(some 62), .call 14 [(.tmp 56), (.tmp 61)], (some (55, true))⟩, ⟨(some 63), .pick (.tmp 55) (.tmp 62) (.val (.bool false)), none⟩, ⟨(some 64), .mov (.tmp 63), none⟩, ⟨(some 65), .mov (.tmp 6), (some (64, true))⟩, ⟨(some 66), .mov (.tmp 17), (some (64, true))⟩, ⟨(some 67), .iaddrL 3 (.tmp 65) (.tmp 66), (some (64, true))⟩, ⟨(some 68), .faddr 1 (.tmp 67), (some (64, true))⟩, ⟨(some 69), .load none (.tmp 68), (some (64, true))⟩, ⟨(some 70), .mov (.tmp 3), (some (64, true))⟩, ⟨(some 71), .bin .gtr (.tmp 69) (.tmp 70), (some (64, true))⟩, ⟨(some 72), .pick (.tmp 64) (.tmp 71) (.val (.bool false)), none⟩, ⟨(some 73), .mov (.tmp 72), none⟩, ⟨(some 74), .mov (.tmp 6), (some (73, true))⟩, ⟨(some 75), .mov (.tmp 17), (some (73, true))⟩, ⟨(some 76), .iaddrL 3 (.tmp 74) (.tmp 75), (some (73, true))⟩, ⟨(some 77), .faddr 1 (.tmp 76), (some (73, true))⟩, ⟨(some 78), .load none (.tmp 77), (some (73, true))⟩, ⟨(some 79), .mov (.tmp 4), (some (73, true))⟩, ⟨(some 80), .bin .gtr (.tmp 78) (.tmp 79), (some (73, true))⟩, ⟨(some 81), .pick (.tmp 73) (.tmp 80) (.val (.bool false)), none⟩, ⟨(some 18), .mov (.tmp 81), none⟩])
def a3_R4 : AC := .keep [0, 1, 2, 3, 4, 5, 6, 15, 16, 17, 18] [] (.reg [⟨(some 82), .mov (.tmp 18), none⟩, ⟨(some 83), .mov (.tmp 82), none⟩, ⟨(some 84), .mov (.tmp 16), (some (83, true))⟩, ⟨(some 85), .un .not (.tmp 84), (some (83, true))⟩, ⟨(some 86), .pick (.tmp 83) (.tmp 85) (.val (.bool false)), none⟩, ⟨(some 87), .mov (.tmp 86), none⟩, ⟨(some 88), .mov (.tmp 16), (some (87, false))⟩, ⟨(some 89), .mov (.tmp 88), (some (87, false))⟩, ⟨(some 90), .mov (.tmp 17), (some (89, true))⟩, ⟨(some 91), .mov (.tmp 15), (some (89, true))⟩, ⟨(some 92), .bin .eql (.tmp 90) (.tmp 91), (some (89, true))⟩, ⟨(some 93), .pick (.tmp 89) (.tmp 92) (.val (.bool false)), (some (87, false))⟩, ⟨(some 94), .mov (.tmp 93), (some (87, false))⟩, ⟨(some 95), .mov (.tmp 18), (some (94, true))⟩, ⟨(some 96), .un .not (.tmp 95), (some (94, true))⟩, ⟨(some 97), .pick (.tmp 94) (.tmp 96) (.val (.bool false)), (some (87, false))⟩, ⟨(some 98), .pick (.tmp 87) (.val (.bool true)) (.tmp 97), none⟩])
def a3_R5 : AC := .keep [0, 1, 2, 3, 4, 5, 6, 15, 16, 17, 18] [] (.dreg [(false, ⟨(some 99), .mov (.tmp 18), none⟩, false), (false, ⟨(some 100), .mov (.tmp 99), none⟩, false), (false, ⟨(some 101), .mov (.tmp 17), (some (100, true))⟩, false), (false, ⟨(some 102), .mov (.tmp 15), (some (100, true))⟩, false), (false, ⟨(some 103), .bin .neq (.tmp 101) (.tmp 102), (some (100, true))⟩, false), (false, ⟨(some 104), .pick (.tmp 100) (.tmp 103) (.val (.bool false)), none⟩, false), (false, ⟨(some 105), .mov (.tmp 104), none⟩, false), (false, ⟨(some 106), .mov (.tmp 6), (some (105, true))⟩, false), (false, ⟨(some 107), .mov (.tmp 17), (some (105, true))⟩, false), (false, ⟨(some 108), .iaddrL 3 (.tmp 106) (.tmp 107), (some (105, true))⟩, false), (false, ⟨(some 109), .faddr 1 (.tmp 108), (some (105, true))⟩, false), (false, ⟨(some 110), .load none (.tmp 109), (some (105, true))⟩, false), (false, ⟨(some 111), .mov (.tmp 6), (some (105, true))⟩, false), (false, ⟨(some 112), .mov (.tmp 15), (some (105, true))⟩, false), (false, ⟨(some 113), .iaddrL 3 (.tmp 111) (.tmp 112), (some (105, true))⟩, false), (false, ⟨(some 114), .faddr 1 (.tmp 113), (some (105, true))⟩, false), (false, ⟨(some 115), .load none (.tmp 114), (some (105, true))⟩, false), (false, ⟨(some 116), .bin .gtr (.tmp 110) (.tmp 115), (some (105, true))⟩, false), (false, ⟨(some 117), .mov (.tmp 116), (some (105, true))⟩, false), (false, ⟨(some 118), .mov (.tmp 6), (some (117, false))⟩, false), (false, ⟨(some 119), .mov (.tmp 17), (some (117, false))⟩, false), (false, ⟨(some 120), .iaddrL 3 (.tmp 118) (.tmp 119), (some (117, false))⟩, false), (false, ⟨(some 121), .faddr 1 (.tmp 120), (some (117, false))⟩, false), (false, ⟨(some 122), .load none (.tmp 121), (some (117, false))⟩, false), (false, ⟨(some 123), .mov (.tmp 6), (some (117, false))⟩, false), (false, ⟨(some 124), .mov (.tmp 15), (some (117, false))⟩, false), (false, ⟨(some 125), .iaddrL 3 (.tmp 123) (.tmp 124), (some (117, false))⟩, false), (false, ⟨(some 126), .faddr 1 (.tmp 125), (some (117, false))⟩, false), (false, ⟨(some 127), .load none (.tmp 126), (some (117, false))⟩, false), (false, ⟨(some 128), .bin .eql (.tmp 122) (.tmp 127), (some (117, false))⟩, false), (false, ⟨(some 129), .mov (.tmp 128), (some (117, false))⟩, false), (false, ⟨(some 130), .mov (.tmp 6), (some (129, true))⟩, false), (false, ⟨(some 131), .mov (.tmp 17), (some (129, true))⟩, false), (false, ⟨(some 132), .iaddrL 3 (.tmp 130) (.tmp 131), (some (129, true))⟩, false), (false, ⟨(some 133), .faddr 0 (.tmp 132), (some (129, true))⟩, false), (false, ⟨(some 134), .load none (.tmp 133), (some (129, true))⟩, false), (false, ⟨(some 135), .mov (.tmp 6), (some (129, true))⟩, false), (false, ⟨(some 136), .mov (.tmp 15), (some (129, true))⟩, false), (false, ⟨(some 137), .iaddrL 3 (.tmp 135) (.tmp 136), (some (129, true))⟩, false), (false, ⟨(some 138), .faddr 0 (.tmp 137), (some (129, true))⟩, false), (false, ⟨(some 139), .load none (.tmp 138), (some (129, true))⟩, false), (false, ⟨(some 140), .bin .lss (.tmp 134) (.tmp 139), (some (129, true))⟩, false), (false, ⟨(some 141), .pick (.tmp 129) (.tmp 140) (.val (.bool false)), (some (117, false))⟩, false), (false, ⟨(some 142), .pick (.tmp 117) (.val (.bool true)) (.tmp 141), (some (105, true))⟩, false), (false, ⟨(some 143), .pick (.tmp 105) (.tmp 142) (.val (.bool false)), none⟩, false)])
def a3_R6 : AC := .keep [0, 1, 2, 3, 4, 5, 6, 15, 16] [] (.reg [⟨(some 145), .mov (.tmp 0), none⟩, ⟨(some 146), .mov (.tmp 2), none⟩, ⟨(some 147), .bin .or (.tmp 145) (.tmp 146), none⟩, ⟨(some 148), .mov (.tmp 1), none⟩, ⟨(some 149), .mov (.tmp 2), none⟩, ⟨(some 150), .bin .or (.tmp 148) (.tmp 149), none⟩, ⟨(some 151), .mov (.tmp 3), none⟩, ⟨(some 152), .mov (.tmp 4), none⟩, ⟨(some 153), .mov (.tmp 6), none⟩, ⟨(some 154), .call 13 [(.tmp 147), (.tmp 150), (.tmp 151), (.tmp 152), (.tmp 153)], none⟩, ⟨(some 144), .mov (.tmp 154), none⟩, ⟨(some 155), .ext (.tmp 144) 0, none⟩, ⟨(some 156), .ext (.tmp 144) 1, none⟩, ⟨(some 19), .mov (.tmp 155), none⟩, ⟨(some 20), .mov (.tmp 156), none⟩])
def a3_R7 : AC := .keep [0, 1, 3, 4, 5, 6, 15, 16, 19, 20] [] (.dreg [(false, ⟨(some 157), .mov (.tmp 16), none⟩, false), (false, ⟨(some 158), .mov (.tmp 157), none⟩, false), (false, ⟨(some 159), .mov (.tmp 20), (some (158, true))⟩, false), (false, ⟨(some 160), .un .not (.tmp 159), (some (158, true))⟩, false), (false, ⟨(some 161), .mov (.tmp 160), (some (158, true))⟩, false), (false, ⟨(some 162), .mov (.tmp 6), (some (161, false))⟩, false), (false, ⟨(some 163), .mov (.tmp 19), (some (161, false))⟩, false), (false, ⟨(some 164), .iaddrL 3 (.tmp 162) (.tmp 163), (some (161, false))⟩, false), (false, ⟨(some 165), .faddr 1 (.tmp 164), (some (161, false))⟩, false), (false, ⟨(some 166), .load none (.tmp 165), (some (161, false))⟩, false), (false, ⟨(some 167), .mov (.tmp 6), (some (161, false))⟩, false), (false, ⟨(some 168), .mov (.tmp 15), (some (161, false))⟩, false), (false, ⟨(some 169), .iaddrL 3 (.tmp 167) (.tmp 168), (some (161, false))⟩, false), (false, ⟨(some 170), .faddr 1 (.tmp 169), (some (161, false))⟩, false), (false, ⟨(some 171), .load none (.tmp 170), (some (161, false))⟩, false), (false, ⟨(some 172), .bin .lss (.tmp 166) (.tmp 171), (some (161, false))⟩, false), (false, ⟨(some 173), .pick (.tmp 161) (.val (.bool true)) (.tmp 172), (some (158, true))⟩, false), (false, ⟨(some 174), .pick (.tmp 158) (.tmp 173) (.val (.bool false)), none⟩, false)])
def a3_R8 : AC := .keep [0, 1, 3, 4, 5, 6, 15, 16] [] (.reg [⟨(some 182), .mov (.tmp 0), none⟩, ⟨(some 183), .mov (.tmp 1), none⟩, ⟨(some 184), .mov (.tmp 3), none⟩, ⟨(some 185), .mov (.tmp 5), none⟩, ⟨(some 186), .bin .add (.tmp 184) (.tmp 185), none⟩, ⟨(some 187), .mov (.tmp 4), none⟩, ⟨(some 188), .mov (.tmp 6), none⟩, ⟨(some 189), .call 13 [(.tmp 182), (.tmp 183), (.tmp 186), (.tmp 187), (.tmp 188)], none⟩, ⟨(some 181), .mov (.tmp 189), none⟩, ⟨(some 190), .ext (.tmp 181) 0, none⟩, ⟨(some 191), .ext (.tmp 181) 1, none⟩, ⟨(some 21), .mov (.tmp 190), none⟩, ⟨(some 22), .mov (.tmp 191), none⟩])
def a3_R9 : AC := .keep [3, 5, 6, 15, 16, 21, 22] [] (.reg [⟨(some 192), .mov (.tmp 22), none⟩, ⟨(some 193), .un .not (.tmp 192), none⟩, ⟨(some 194), .mov (.tmp 193), none⟩, ⟨(some 195), .mov (.tmp 16), (some (194, false))⟩, ⟨(some 196), .mov (.tmp 195), (some (194, false))⟩, ⟨(some 197), .mov (.tmp 21), (some (196, true))⟩, ⟨(some 198), .mov (.tmp 15), (some (196, true))⟩, ⟨(some 199), .bin .eql (.tmp 197) (.tmp 198), (some (196, true))⟩, ⟨(some 200), .pick (.tmp 196) (.tmp 199) (.val (.bool false)), (some (194, false))⟩, ⟨(some 201), .mov (.tmp 200), (some (194, false))⟩, ⟨(some 202), .mov (.tmp 6), (some (201, true))⟩, ⟨(some 203), .mov (.tmp 21), (some (201, true))⟩, ⟨(some 204), .iaddrL 3 (.tmp 202) (.tmp 203), (some (201, true))⟩, ⟨(some 205), .faddr 1 (.tmp 204), (some (201, true))⟩, ⟨(some 206), .load none (.tmp 205), (some (201, true))⟩, ⟨(some 207), .mov (.tmp 3), (some (201, true))⟩, ⟨(some 208), .mov (.tmp 5), (some (201, true))⟩, ⟨(some 209), .bin .add (.tmp 207) (.tmp 208), (some (201, true))⟩, ⟨(some 210), .bin .gtr (.tmp 206) (.tmp 209), (some (201, true))⟩, ⟨(some 211), .pick (.tmp 201) (.tmp 210) (.val (.bool false)), (some (194, false))⟩, ⟨(some 212), .pick (.tmp 194) (.val (.bool true)) (.tmp 211), none⟩, ⟨(some 14), .mov (.tmp 212), none⟩])
def a3_B1 : AC := (.seq (.seq (.keep [0, 1, 2, 3, 4, 5, 6, 15, 16, 17] [] (.reg [⟨(some 42), .mov (.tmp 17), none⟩, ⟨(some 43), .mov (.tmp 6), none⟩, ⟨(some 44), .lenL (.tmp 43), none⟩, ⟨(some 45), .bin .lss (.tmp 42) (.tmp 44), none⟩]))
 (.cond (.tmp 45) .skip (.exit 0)))
 (.seq (.block 1 (.seq a3_R3
 (.seq (.seq a3_R4
 (.cond (.tmp 98) (.seq (.keep [] [] (.reg [⟨(some 14), .mov (.val (.bool false)), none⟩]))
 .ret) .skip))
 (.seq a3_R5
 (.cond (.tmp 143) (.seq (.keep [] [] (.reg [⟨(some 14), .mov (.val (.bool false)), none⟩]))
 .ret) .skip)))))
 (.keep [0, 1, 2, 3, 4, 5, 6, 15, 16, 17] [] (.reg [⟨(some 46), .mov (.tmp 17), none⟩, ⟨(some 47), .bin .add (.tmp 46) (.val (.int .i64 1)), none⟩, ⟨(some 17), .mov (.tmp 47), none⟩]))))
def a3_L1 : AC := .loop a3_B1
theorem a3_L1_step (call : Caller) (again : AC → St → Option (Ex × St)) (s : St) : codeEv call again a3_L1 s = match codeEv call again a3_B1 s with | some (.norm, s1) => again a3_L1 s1 | r => r := rfl
def a3 : AFn := { n := 213, np := 7, res := [.tmp 14], body :=
 (.seq (.keep [0, 1, 2, 3, 4, 5, 6] [] (.reg [⟨(some 14), .mov (.val (.bool false)), none⟩]))
 (.seq (.seq (.keep [0, 1, 2, 3, 4, 5, 6] [] (.reg [⟨(some 23), .call 11 [], none⟩, ⟨(some 24), .un .not (.tmp 23), none⟩]))
 (.cond (.tmp 24) (.seq (.keep [] [] (.reg [⟨(some 14), .mov (.val (.bool false)), none⟩]))
 .ret) .skip))
 (.seq (.seq a3_R1
 (.cond (.tmp 32) (.seq (.keep [] [] (.reg [⟨(some 14), .mov (.val (.bool true)), none⟩]))
 .ret) .skip))
 (.seq a3_R2
 (.seq (.seq (.keep [0, 1, 2, 3, 4, 5, 6, 15, 16] [] (.reg [⟨(some 17), .mov (.val (.int .i64 0)), none⟩]))
 (.block 0 a3_L1))
 (.seq a3_R6
 (.seq (.seq a3_R7
 (.cond (.tmp 174) (.seq (.keep [] [] (.reg [⟨(some 14), .mov (.val (.bool false)), none⟩]))
 .ret) .skip))
 (.seq (.seq (.keep [0, 1, 3, 4, 5, 6, 15, 16] [] (.reg [⟨(some 175), .mov (.tmp 5), none⟩, ⟨(some 176), .bin .lss (.tmp 175) (.val (.int .i64 0)), none⟩]))
 (.cond (.tmp 176) (.seq (.keep [] [] (.reg [⟨(some 14), .mov (.val (.bool true)), none⟩]))
 .ret) .skip))
 (.seq (.keep [0, 1, 3, 4, 5, 6, 15, 16] [] (.reg [⟨(some 177), .mov (.tmp 5), none⟩, ⟨(some 178), .min [(.tmp 177), (.val (.int .i64 20))], none⟩, ⟨(some 5), .mov (.tmp 178), none⟩]))
 (.seq (.keep [0, 1, 3, 4, 5, 6, 15, 16] [] (.reg [⟨(some 179), .mov (.tmp 3), none⟩, ⟨(some 180), .min [(.tmp 179), (.val (.int .i64 1000))], none⟩, ⟨(some 3), .mov (.tmp 180), none⟩]))
 (.seq a3_R8
 (.seq a3_R9
 .ret)))))))))))) }
def h4 : Hints := ⟨[], [(0, [0, 1], []), (1, [0, 1], []), (2, [], []), (3, [0, 1], []), (4, [], []), (5, [0, 1], []), (6, [0, 1, 5], []), (7, [0, 1, 5, 6, 7], []), (8, [], []), (9, [0, 1, 5], []), (10, [0, 1, 5, 8], []), (12, [0, 1, 5, 8], []), (13, [], []), (11, [0, 1, 5, 8], []), (14, [1], []), (15, [1, 7, 9], []), (16, [1, 7, 9, 10], []), (17, [1, 7, 9, 10, 11], []), (19, [1, 7, 9, 10, 11], []), (20, [1, 7, 9, 10, 11], []), (21, [], []), (18, [1, 7, 9, 10, 11], []), (22, [1, 7, 9, 10], [])]⟩
def a4_R1 : AC := .keep [0, 1, 5, 6, 7] [] (.reg [⟨(some 24), .mov (.tmp 7), none⟩, ⟨(some 25), .bin .neq (.tmp 24) (.val (.int .i64 0)), none⟩, ⟨(some 26), .mov (.tmp 25), none⟩, ⟨(some 27), .mov (.tmp 6), (some (26, false))⟩, ⟨(some 28), .mov (.tmp 0), (some (26, false))⟩, ⟨(some 29), .bin .neq (.tmp 27) (.tmp 28), (some (26, false))⟩, ⟨(some 30), .pick (.tmp 26) (.val (.bool true)) (.tmp 29), none⟩, ⟨(some 31), .mov (.tmp 30), none⟩, ⟨(some 32), .mov (.tmp 0), (some (31, false))⟩, ⟨(some 33), .call 17 [(.tmp 32)], (some (31, false))⟩, ⟨(some 34), .mov (.tmp 5), (some (31, false))⟩, ⟨(some 35), .lenL (.tmp 34), (some (31, false))⟩, ⟨(some 36), .bin .neq (.tmp 33) (.tmp 35), (some (31, false))⟩, ⟨(some 37), .pick (.tmp 31) (.val (.bool true)) (.tmp 36), none⟩])
def a4_R2 : AC := .keep [0, 1, 5, 8] [] (.dreg [(false, ⟨(some 44), .mov (.tmp 0), none⟩, false), (false, ⟨(some 45), .mov (.tmp 5), none⟩, false), (false, ⟨(some 46), .mov (.tmp 8), none⟩, false), (false, ⟨(some 47), .iaddrL 1 (.tmp 45) (.tmp 46), none⟩, false), (false, ⟨(some 48), .load none (.tmp 47), none⟩, false), (false, ⟨(some 49), .call 14 [(.tmp 44), (.tmp 48)], none⟩, false), (false, ⟨(some 50), .un .not (.tmp 49), none⟩, false), (false, ⟨(some 51), .mov (.tmp 50), none⟩, false), (false, ⟨(some 52), .mov (.tmp 8), (some (51, false))⟩, false), (false, ⟨(some 53), .bin .gtr (.tmp 52) (.val (.int .i64 0)), (some (51, false))⟩, false), (false, ⟨(some 54), .mov (.tmp 53), (some (51, false))⟩, false), (false, ⟨(some 55), .mov (.tmp 5), (some (54, true))⟩, false), (false, ⟨(some 56), .mov (.tmp 8), (some (54, true))⟩, false), (false, ⟨(some 57), .bin .sub (.tmp 56) (.val (.int .i64 1)), (some (54, true))⟩, false), (false, ⟨(some 58), .iaddrL 1 (.tmp 55) (.tmp 57), (some (54, true))⟩, false), (false, ⟨(some 59), .load none (.tmp 58), (some (54, true))⟩, false), (false, ⟨(some 60), .mov (.tmp 5), (some (54, true))⟩, false), (false, ⟨(some 61), .mov (.tmp 8), (some (54, true))⟩, false), (false, ⟨(some 62), .iaddrL 1 (.tmp 60) (.tmp 61), (some (54, true))⟩, false), (false, ⟨(some 63), .load none (.tmp 62), (some (54, true))⟩, false), (false, ⟨(some 64), .bin .geq (.tmp 59) (.tmp 63), (some (54, true))⟩, false), (false, ⟨(some 65), .pick (.tmp 54) (.tmp 64) (.val (.bool false)), (some (51, false))⟩, false), (false, ⟨(some 66), .pick (.tmp 51) (.val (.bool true)) (.tmp 65), none⟩, false)])
def a4_R3 : AC := .keep [1, 7, 9, 10, 11] [] (.reg [⟨(some 78), .mov (.tmp 10), none⟩, ⟨(some 79), .mov (.tmp 78), none⟩, ⟨(some 80), .mov (.tmp 1), (some (79, false))⟩, ⟨(some 81), .mov (.tmp 11), (some (79, false))⟩, ⟨(some 82), .iaddrL 1 (.tmp 80) (.tmp 81), (some (79, false))⟩, ⟨(some 83), .load none (.tmp 82), (some (79, false))⟩, ⟨(some 84), .bin .lss (.tmp 83) (.val (.int .i64 0)), (some (79, false))⟩, ⟨(some 85), .pick (.tmp 79) (.val (.bool true)) (.tmp 84), none⟩, ⟨(some 86), .mov (.tmp 85), none⟩, ⟨(some 87), .mov (.tmp 1), (some (86, false))⟩, ⟨(some 88), .mov (.tmp 11), (some (86, false))⟩, ⟨(some 89), .iaddrL 1 (.tmp 87) (.tmp 88), (some (86, false))⟩, ⟨(some 90), .load none (.tmp 89), (some (86, false))⟩, ⟨(some 91), .bin .gtr (.tmp 90) (.val (.int .i64 31)), (some (86, false))⟩, ⟨(some 92), .pick (.tmp 86) (.val (.bool true)) (.tmp 91), none⟩, ⟨(some 10), .mov (.tmp 92), none⟩])
def a4_R4 : AC := .keep [1, 7, 9, 10, 11] [] (.reg [⟨(some 93), .mov (.tmp 7), none⟩, ⟨(some 94), .bin .eql (.tmp 93) (.val (.int .i64 0)), none⟩, ⟨(some 95), .mov (.tmp 94), none⟩, ⟨(some 96), .mov (.tmp 9), (some (95, true))⟩, ⟨(some 97), .mov (.tmp 1), (some (95, true))⟩, ⟨(some 98), .mov (.tmp 11), (some (95, true))⟩, ⟨(some 99), .iaddrL 1 (.tmp 97) (.tmp 98), (some (95, true))⟩, ⟨(some 100), .load none (.tmp 99), (some (95, true))⟩, ⟨(some 101), .call 14 [(.tmp 96), (.tmp 100)], (some (95, true))⟩, ⟨(some 102), .un .not (.tmp 101), (some (95, true))⟩, ⟨(some 103), .pick (.tmp 95) (.tmp 102) (.val (.bool false)), none⟩])
def a4_R5 : AC := .keep [1, 7, 9, 10] [] (.reg [⟨(some 104), .mov (.tmp 7), none⟩, ⟨(some 105), .bin .neq (.tmp 104) (.val (.int .i64 0)), none⟩, ⟨(some 106), .mov (.tmp 10), none⟩, ⟨(some 107), .eq false .bool (.tmp 105) (.tmp 106), none⟩, ⟨(some 108), .mov (.tmp 107), none⟩, ⟨(some 109), .mov (.tmp 9), (some (108, true))⟩, ⟨(some 110), .call 17 [(.tmp 109)], (some (108, true))⟩, ⟨(some 111), .mov (.tmp 1), (some (108, true))⟩, ⟨(some 112), .lenL (.tmp 111), (some (108, true))⟩, ⟨(some 113), .bin .leq (.tmp 110) (.tmp 112), (some (108, true))⟩, ⟨(some 114), .pick (.tmp 108) (.tmp 113) (.val (.bool false)), none⟩, ⟨(some 4), .mov (.tmp 114), none⟩])
def a4_B1 : AC := (.seq (.seq (.keep [1, 7, 9, 10, 11] [] (.reg [⟨(some 72), .mov (.tmp 11), none⟩, ⟨(some 73), .mov (.tmp 1), none⟩, ⟨(some 74), .lenL (.tmp 73), none⟩, ⟨(some 75), .bin .lss (.tmp 72) (.tmp 74), none⟩]))
 (.cond (.tmp 75) .skip (.exit 2)))
 (.seq (.block 3 (.seq a4_R3
 (.seq a4_R4
 (.cond (.tmp 103) (.seq (.keep [] [] (.reg [⟨(some 4), .mov (.val (.bool false)), none⟩]))
 .ret) .skip))))
 (.keep [1, 7, 9, 10, 11] [] (.reg [⟨(some 76), .mov (.tmp 11), none⟩, ⟨(some 77), .bin .add (.tmp 76) (.val (.int .i64 1)), none⟩, ⟨(some 11), .mov (.tmp 77), none⟩]))))
def a4_L1 : AC := .loop a4_B1
theorem a4_L1_step (call : Caller) (again : AC → St → Option (Ex × St)) (s : St) : codeEv call again a4_L1 s = match codeEv call again a4_B1 s with | some (.norm, s1) => again a4_L1 s1 | r => r := rfl
def a4_B2 : AC := (.seq (.seq (.keep [0, 1, 5, 8] [] (.reg [⟨(some 38), .mov (.tmp 8), none⟩, ⟨(some 39), .mov (.tmp 5), none⟩, ⟨(some 40), .lenL (.tmp 39), none⟩, ⟨(some 41), .bin .lss (.tmp 38) (.tmp 40), none⟩]))
 (.cond (.tmp 41) .skip (.exit 0)))
 (.seq (.block 1 (.seq a4_R2
 (.cond (.tmp 66) (.seq (.keep [] [] (.reg [⟨(some 4), .mov (.val (.bool false)), none⟩]))
 .ret) .skip)))
 (.keep [0, 1, 5, 8] [] (.reg [⟨(some 42), .mov (.tmp 8), none⟩, ⟨(some 43), .bin .add (.tmp 42) (.val (.int .i64 1)), none⟩, ⟨(some 8), .mov (.tmp 43), none⟩]))))
def a4_L2 : AC := .loop a4_B2
theorem a4_L2_step (call : Caller) (again : AC → St → Option (Ex × St)) (s : St) : codeEv call again a4_L2 s = match codeEv call again a4_B2 s with | some (.norm, s1) => again a4_L2 s1 | r => r := rfl
def a4 : AFn := { n := 115, np := 2, res := [.tmp 4], body :=
 (.seq (.keep [0, 1] [] (.reg [⟨(some 4), .mov (.val (.bool false)), none⟩]))
 (.seq (.seq (.keep [0, 1] [] (.reg [⟨(some 12), .call 11 [], none⟩, ⟨(some 13), .un .not (.tmp 12), none⟩]))
 (.cond (.tmp 13) (.seq (.keep [] [] (.reg [⟨(some 4), .mov (.val (.bool false)), none⟩]))
 .ret) .skip))
 (.seq (.seq (.keep [0, 1] [] (.reg [⟨(some 14), .mov (.tmp 1), none⟩, ⟨(some 15), .lenL (.tmp 14), none⟩, ⟨(some 16), .bin .gtr (.tmp 15) (.val (.int .i64 40)), none⟩]))
 (.cond (.tmp 16) (.seq (.keep [] [] (.reg [⟨(some 4), .mov (.val (.bool true)), none⟩]))
 .ret) .skip))
 (.seq (.keep [0, 1] [] (.reg [⟨(some 17), .mov (.tmp 0), none⟩, ⟨(some 18), .call 15 [(.tmp 17)], none⟩, ⟨(some 5), .mov (.tmp 18), none⟩]))
 (.seq (.keep [0, 1, 5] [] (.reg [⟨(some 20), .mov (.tmp 5), none⟩, ⟨(some 21), .call 16 [(.tmp 20)], none⟩, ⟨(some 19), .mov (.tmp 21), none⟩, ⟨(some 22), .ext (.tmp 19) 0, none⟩, ⟨(some 23), .ext (.tmp 19) 1, none⟩, ⟨(some 6), .mov (.tmp 22), none⟩, ⟨(some 7), .mov (.tmp 23), none⟩]))
 (.seq (.seq a4_R1
 (.cond (.tmp 37) (.seq (.keep [] [] (.reg [⟨(some 4), .mov (.val (.bool false)), none⟩]))
 .ret) .skip))
 (.seq (.seq (.keep [0, 1, 5] [] (.reg [⟨(some 8), .mov (.val (.int .i64 0)), none⟩]))
 (.block 0 a4_L2))
 (.seq (.keep [1] [] (.reg [⟨(some 68), .mov (.tmp 1), none⟩, ⟨(some 69), .call 16 [(.tmp 68)], none⟩, ⟨(some 67), .mov (.tmp 69), none⟩, ⟨(some 70), .ext (.tmp 67) 0, none⟩, ⟨(some 71), .ext (.tmp 67) 1, none⟩, ⟨(some 9), .mov (.tmp 70), none⟩, ⟨(some 7), .mov (.tmp 71), none⟩]))
 (.seq (.keep [1, 7, 9] [] (.reg [⟨(some 10), .mov (.val (.bool false)), none⟩]))
 (.seq (.seq (.keep [1, 7, 9, 10] [] (.reg [⟨(some 11), .mov (.val (.int .i64 0)), none⟩]))
 (.block 2 a4_L1))
 (.seq a4_R5
 .ret))))))))))) }
def h5 : Hints := ⟨[], [(0, [0, 1, 2, 3, 4], []), (1, [0, 1, 2, 3, 4], []), (2, [], []), (3, [0, 1, 2, 3, 4], []), (4, [], []), (5, [0, 1, 2, 3, 4], []), (6, [0, 1, 2, 3, 4, 11], []), (7, [0, 1, 2, 3, 4, 11, 12], []), (9, [0, 1, 2, 3, 4, 11, 12], []), (8, [0, 1, 2, 3, 4, 11, 12], []), (10, [0, 1, 2, 3, 4, 11], []), (11, [0, 1, 2, 3, 4, 11, 13, 14], []), (12, [0, 1, 2, 3, 4, 11, 13, 14, 15, 16], []), (13, [], []), (14, [0, 1, 2, 3, 4, 11, 13, 14, 15], []), (15, [13, 15], []), (16, [0, 1, 2, 3, 4, 11, 13, 15], []), (17, [0, 1, 2, 3, 4, 11, 13, 15, 17, 18], []), (18, [0, 1, 2, 3, 4, 11, 13, 15, 17, 18, 19, 20], []), (19, [4, 11, 13, 15, 18, 19, 20, 21, 22], [])]⟩
def a5_R1 : AC := .keep [0, 1, 2, 3, 4] [] (.reg [⟨(some 25), .mov (.tmp 4), none⟩, ⟨(some 26), .lenL (.tmp 25), none⟩, ⟨(some 27), .bin .gtr (.tmp 26) (.val (.int .i64 40)), none⟩, ⟨(some 28), .mov (.tmp 27), none⟩, ⟨(some 29), .mov (.tmp 4), (some (28, false))⟩, ⟨(some 30), .call 12 [(.tmp 29)], (some (28, false))⟩, ⟨(some 31), .bin .neq (.tmp 30) (.val (.int .i64 0)), (some (28, false))⟩, ⟨(some 32), .pick (.tmp 28) (.val (.bool true)) (.tmp 31), none⟩])
def a5_R2 : AC := .keep [0, 1, 2, 3, 4, 11, 12] [] (.reg [⟨(some 40), .mov (.tmp 11), none⟩, ⟨(some 41), .mov (.tmp 4), none⟩, ⟨(some 42), .mov (.tmp 12), none⟩, ⟨(some 43), .iaddrL 3 (.tmp 41) (.tmp 42), none⟩, ⟨(some 44), .load (some 3) (.tmp 43), none⟩, ⟨(some 45), .mkslc 3 1 [(.int .i64 0), (.int .i64 0), (.int .i64 0)] [(0, (.tmp 44))], none⟩, ⟨(some 46), .app 3 24 (.tmp 40) (.tmp 45), none⟩, ⟨(some 11), .mov (.tmp 46), none⟩])
def a5_R3 : AC := .keep [0, 1, 2, 3, 4, 11] [] (.reg [⟨(some 48), .mov (.tmp 0), none⟩, ⟨(some 49), .mov (.tmp 1), none⟩, ⟨(some 50), .mov (.tmp 2), none⟩, ⟨(some 51), .mov (.tmp 3), none⟩, ⟨(some 52), .mov (.tmp 4), none⟩, ⟨(some 53), .call 13 [(.tmp 48), (.tmp 49), (.tmp 50), (.tmp 51), (.tmp 52)], none⟩, ⟨(some 47), .mov (.tmp 53), none⟩, ⟨(some 54), .ext (.tmp 47) 0, none⟩, ⟨(some 55), .ext (.tmp 47) 1, none⟩, ⟨(some 13), .mov (.tmp 54), none⟩, ⟨(some 14), .mov (.tmp 55), none⟩])
def a5_R4 : AC := .keep [0, 1, 2, 3, 4, 11, 13, 14] [] (.reg [⟨(some 57), .mov (.tmp 0), none⟩, ⟨(some 58), .mov (.tmp 1), none⟩, ⟨(some 59), .mov (.tmp 2), none⟩, ⟨(some 60), .mov (.tmp 3), none⟩, ⟨(some 61), .mov (.tmp 11), none⟩, ⟨(some 62), .call 13 [(.tmp 57), (.tmp 58), (.tmp 59), (.tmp 60), (.tmp 61)], none⟩, ⟨(some 56), .mov (.tmp 62), none⟩, ⟨(some 63), .ext (.tmp 56) 0, none⟩, ⟨(some 64), .ext (.tmp 56) 1, none⟩, ⟨(some 15), .mov (.tmp 63), none⟩, ⟨(some 16), .mov (.tmp 64), none⟩])
def a5_R5 : AC := .keep [0, 1, 2, 3, 4, 11, 13, 14, 15, 16] [] (.reg [⟨(some 65), .mov (.tmp 14), none⟩, ⟨(some 66), .mov (.tmp 16), none⟩, ⟨(some 67), .eq true .bool (.tmp 65) (.tmp 66), none⟩, ⟨(some 68), .mov (.tmp 67), none⟩, ⟨(some 69), .mov (.tmp 11), (some (68, false))⟩, ⟨(some 70), .call 12 [(.tmp 69)], (some (68, false))⟩, ⟨(some 71), .bin .neq (.tmp 70) (.val (.int .i64 0)), (some (68, false))⟩, ⟨(some 72), .pick (.tmp 68) (.val (.bool true)) (.tmp 71), none⟩])
def a5_R6 : AC := .keep [0, 1, 2, 3, 4, 11, 13, 15] [] (.reg [⟨(some 82), .mov (.tmp 4), none⟩, ⟨(some 83), .mov (.tmp 13), none⟩, ⟨(some 84), .iaddrL 3 (.tmp 82) (.tmp 83), none⟩, ⟨(some 85), .faddr 0 (.tmp 84), none⟩, ⟨(some 86), .load none (.tmp 85), none⟩, ⟨(some 87), .mkslc 1 1 [(.int .i64 0)] [(0, (.tmp 86))], none⟩, ⟨(some 88), .call 16 [(.tmp 87)], none⟩, ⟨(some 81), .mov (.tmp 88), none⟩, ⟨(some 89), .ext (.tmp 81) 0, none⟩, ⟨(some 90), .ext (.tmp 81) 1, none⟩, ⟨(some 17), .mov (.tmp 89), none⟩, ⟨(some 18), .mov (.tmp 90), none⟩])
def a5_R7 : AC := .keep [0, 1, 2, 3, 4, 11, 13, 15, 17, 18] [] (.reg [⟨(some 92), .mov (.tmp 4), none⟩, ⟨(some 93), .mov (.tmp 4), none⟩, ⟨(some 94), .mov (.tmp 13), none⟩, ⟨(some 95), .iaddrL 3 (.tmp 93) (.tmp 94), none⟩, ⟨(some 96), .faddr 0 (.tmp 95), none⟩, ⟨(some 97), .load none (.tmp 96), none⟩, ⟨(some 98), .call 18 [(.tmp 92), (.tmp 97)], none⟩, ⟨(some 91), .mov (.tmp 98), none⟩, ⟨(some 99), .ext (.tmp 91) 0, none⟩, ⟨(some 100), .ext (.tmp 91) 1, none⟩, ⟨(some 19), .mov (.tmp 99), none⟩, ⟨(some 20), .mov (.tmp 100), none⟩])
def a5_R8 : AC := .keep [0, 1, 2, 3, 4, 11, 13, 15, 17, 18, 19, 20] [] (.reg [⟨(some 102), .mov (.tmp 0), none⟩, ⟨(some 103), .mov (.tmp 17), none⟩, ⟨(some 104), .bin .andNot (.tmp 102) (.tmp 103), none⟩, ⟨(some 105), .mov (.tmp 1), none⟩, ⟨(some 106), .mov (.tmp 2), none⟩, ⟨(some 107), .mov (.tmp 3), none⟩, ⟨(some 108), .mov (.tmp 4), none⟩, ⟨(some 109), .call 13 [(.tmp 104), (.tmp 105), (.tmp 106), (.tmp 107), (.tmp 108)], none⟩, ⟨(some 101), .mov (.tmp 109), none⟩, ⟨(some 110), .ext (.tmp 101) 0, none⟩, ⟨(some 111), .ext (.tmp 101) 1, none⟩, ⟨(some 21), .mov (.tmp 110), none⟩, ⟨(some 22), .mov (.tmp 111), none⟩])
def a5_R9 : AC := .keep [4, 11, 13, 15, 18, 19, 20, 21, 22] [] (.dreg [(false, ⟨(some 112), .mov (.tmp 11), none⟩, false), (false, ⟨(some 113), .mov (.tmp 15), none⟩, false), (false, ⟨(some 114), .iaddrL 3 (.tmp 112) (.tmp 113), none⟩, false), (false, ⟨(some 115), .load (some 3) (.tmp 114), none⟩, false), (false, ⟨(some 116), .mov (.tmp 4), none⟩, false), (false, ⟨(some 117), .mov (.tmp 13), none⟩, false), (false, ⟨(some 118), .iaddrL 3 (.tmp 116) (.tmp 117), none⟩, false), (false, ⟨(some 119), .load (some 3) (.tmp 118), none⟩, false), (false, ⟨(some 120), .eq false (.agg [(0, 0), (1, 0), (2, 0)]) (.tmp 115) (.tmp 119), none⟩, false), (false, ⟨(some 121), .mov (.tmp 120), none⟩, false), (false, ⟨(some 122), .mov (.tmp 18), (some (121, true))⟩, false), (false, ⟨(some 123), .bin .eql (.tmp 122) (.val (.int .i64 0)), (some (121, true))⟩, false), (false, ⟨(some 124), .pick (.tmp 121) (.tmp 123) (.val (.bool false)), none⟩, false), (false, ⟨(some 125), .mov (.tmp 124), none⟩, false), (false, ⟨(some 126), .mov (.tmp 20), (some (125, true))⟩, false), (false, ⟨(some 127), .pick (.tmp 125) (.tmp 126) (.val (.bool false)), none⟩, false), (false, ⟨(some 128), .mov (.tmp 127), none⟩, false), (false, ⟨(some 129), .mov (.tmp 19), (some (128, true))⟩, false), (false, ⟨(some 130), .mov (.tmp 13), (some (128, true))⟩, false), (false, ⟨(some 131), .bin .eql (.tmp 129) (.tmp 130), (some (128, true))⟩, false), (false, ⟨(some 132), .pick (.tmp 128) (.tmp 131) (.val (.bool false)), none⟩, false), (false, ⟨(some 133), .mov (.tmp 132), none⟩, false), (false, ⟨(some 134), .mov (.tmp 22), (some (133, true))⟩, false), (false, ⟨(some 135), .un .not (.tmp 134), (some (133, true))⟩, false), (false, ⟨(some 136), .mov (.tmp 135), (some (133, true))⟩, false), (false, ⟨(some 137), .mov (.tmp 21), (some (136, false))⟩, false), (false, ⟨(some 138), .mov (.tmp 13), (some (136, false))⟩, false), (false, ⟨(some 139), .bin .neq (.tmp 137) (.tmp 138), (some (136, false))⟩, false), (false, ⟨(some 140), .mov (.tmp 139), (some (136, false))⟩, false), (false, ⟨(some 141), .mov (.tmp 4), (some (140, true))⟩, false), (false, ⟨(some 142), .mov (.tmp 21), (some (140, true))⟩, false), (false, ⟨(some 143), .iaddrL 3 (.tmp 141) (.tmp 142), (some (140, true))⟩, false), (false, ⟨(some 144), .faddr 1 (.tmp 143), (some (140, true))⟩, false), (false, ⟨(some 145), .load none (.tmp 144), (some (140, true))⟩, false), (false, ⟨(some 146), .mov (.tmp 4), (some (140, true))⟩, false), (false, ⟨(some 147), .mov (.tmp 13), (some (140, true))⟩, false), (false, ⟨(some 148), .iaddrL 3 (.tmp 146) (.tmp 147), (some (140, true))⟩, false), (false, ⟨(some 149), .faddr 1 (.tmp 148), (some (140, true))⟩, false), (false, ⟨(some 150), .load none (.tmp 149), (some (140, true))⟩, false), (false, ⟨(some 151), .bin .leq (.tmp 145) (.tmp 150), (some (140, true))⟩, false), (false, ⟨(some 152), .pick (.tmp 140) (.tmp 151) (.val (.bool false)), (some (136, false))⟩, false), (false, ⟨(some 153), .pick (.tmp 136) (.val (.bool true)) (.tmp 152), (some (133, true))⟩, false), (false, ⟨(some 154), .pick (.tmp 133) (.tmp 153) (.val (.bool false)), none⟩, false), (false, ⟨(some 10), .mov (.tmp 154), none⟩, false)])
def a5_B1 : AC := (.seq (.seq (.keep [0, 1, 2, 3, 4, 11, 12] [] (.reg [⟨(some 36), .mov (.tmp 12), none⟩, ⟨(some 37), .bin .geq (.tmp 36) (.val (.int .i64 0)), none⟩]))
 (.cond (.tmp 37) .skip (.exit 0)))
 (.seq (.block 1 a5_R2)
 (.keep [0, 1, 2, 3, 4, 11, 12] [] (.reg [⟨(some 38), .mov (.tmp 12), none⟩, ⟨(some 39), .bin .sub (.tmp 38) (.val (.int .i64 1)), none⟩, ⟨(some 12), .mov (.tmp 39), none⟩]))))
def a5_L1 : AC := .loop a5_B1
theorem a5_L1_step (call : Caller) (again : AC → St → Option (Ex × St)) (s : St) : codeEv call again a5_L1 s = match codeEv call again a5_B1 s with | some (.norm, s1) => again a5_L1 s1 | r => r := rfl
def a5 : AFn := { n := 155, np := 5, res := [.tmp 10], body :=
 (.seq (.keep [0, 1, 2, 3, 4] [] (.reg [⟨(some 10), .mov (.val (.bool false)), none⟩]))
 (.seq (.seq (.keep [0, 1, 2, 3, 4] [] (.reg [⟨(some 23), .call 11 [], none⟩, ⟨(some 24), .un .not (.tmp 23), none⟩]))
 (.cond (.tmp 24) (.seq (.keep [] [] (.reg [⟨(some 10), .mov (.val (.bool false)), none⟩]))
 .ret) .skip))
 (.seq (.seq a5_R1
 (.cond (.tmp 32) (.seq (.keep [] [] (.reg [⟨(some 10), .mov (.val (.bool true)), none⟩]))
 .ret) .skip))
 (.seq (.keep [0, 1, 2, 3, 4] [] (.reg [⟨(some 11), .mov (.val .nils), none⟩]))
 (.seq (.seq (.keep [0, 1, 2, 3, 4, 11] [] (.reg [⟨(some 33), .mov (.tmp 4), none⟩, ⟨(some 34), .lenL (.tmp 33), none⟩, ⟨(some 35), .bin .sub (.tmp 34) (.val (.int .i64 1)), none⟩, ⟨(some 12), .mov (.tmp 35), none⟩]))
 (.block 0 a5_L1))
 (.seq a5_R3
 (.seq a5_R4
 (.seq (.seq a5_R5
 (.cond (.tmp 72) (.seq (.keep [] [] (.reg [⟨(some 10), .mov (.val (.bool false)), none⟩]))
 .ret) .skip))
 (.seq (.seq (.keep [0, 1, 2, 3, 4, 11, 13, 14, 15] [] (.reg [⟨(some 73), .mov (.tmp 14), none⟩, ⟨(some 74), .un .not (.tmp 73), none⟩]))
 (.cond (.tmp 74) (.seq (.keep [13, 15] [] (.reg [⟨(some 75), .mov (.tmp 13), none⟩, ⟨(some 76), .bin .eql (.tmp 75) (.val (.int .i64 0)), none⟩, ⟨(some 77), .mov (.tmp 76), none⟩, ⟨(some 78), .mov (.tmp 15), (some (77, true))⟩, ⟨(some 79), .bin .eql (.tmp 78) (.val (.int .i64 0)), (some (77, true))⟩, ⟨(some 80), .pick (.tmp 77) (.tmp 79) (.val (.bool false)), none⟩, ⟨(some 10), .mov (.tmp 80), none⟩]))
 .ret) .skip))
 (.seq a5_R6
 (.seq a5_R7
 (.seq a5_R8
 (.seq a5_R9
 .ret))))))))))))) }
def h7 : Hints := ⟨[], [(0, [0, 1, 2, 3, 4, 5, 6], []), (1, [0, 1, 2, 3, 4, 5, 6], []), (2, [], []), (3, [0, 1, 2, 3, 4, 5, 6], []), (4, [], []), (5, [0, 1, 2, 3, 4, 5, 6], []), (6, [0, 1, 2, 3, 4, 5, 6, 15, 16], []), (7, [0, 1, 4, 5, 6, 15, 16, 17, 18], []), (8, [0, 1, 4, 5, 6, 15, 16, 17, 18, 19, 20], []), (9, [0, 1, 4, 5, 6, 15, 16, 17, 18, 19, 20, 21, 22], []), (10, [0, 1, 4, 5, 6, 15, 16, 17, 18, 19, 20, 21, 22, 23, 24], []), (11, [0, 1, 4, 5, 15, 16, 17, 18, 19, 20, 21, 22, 23, 24, 25, 26], [])]⟩
def a7_R1 : AC := .keep [0, 1, 2, 3, 4, 5, 6] [] (.reg [⟨(some 29), .mov (.tmp 4), none⟩, ⟨(some 30), .lenL (.tmp 29), none⟩, ⟨(some 31), .bin .gtr (.tmp 30) (.val (.int .i64 40)), none⟩, ⟨(some 32), .mov (.tmp 31), none⟩, ⟨(some 33), .mov (.tmp 6), (some (32, false))⟩, ⟨(some 34), .lenL (.tmp 33), (some (32, false))⟩, ⟨(some 35), .bin .gtr (.tmp 34) (.val (.int .i64 40)), (some (32, false))⟩, ⟨(some 36), .pick (.tmp 32) (.val (.bool true)) (.tmp 35), none⟩])
def a7_R2 : AC := .keep [0, 1, 2, 3, 4, 5, 6] [] (.reg [⟨(some 38), .mov (.tmp 0), none⟩, ⟨(some 39), .mov (.tmp 1), none⟩, ⟨(some 40), .mov (.tmp 2), none⟩, ⟨(some 41), .mov (.tmp 3), none⟩, ⟨(some 42), .mov (.tmp 4), none⟩, ⟨(some 43), .call 13 [(.tmp 38), (.tmp 39), (.tmp 40), (.tmp 41), (.tmp 42)], none⟩, ⟨(some 37), .mov (.tmp 43), none⟩, ⟨(some 44), .ext (.tmp 37) 0, none⟩, ⟨(some 45), .ext (.tmp 37) 1, none⟩, ⟨(some 15), .mov (.tmp 44), none⟩, ⟨(some 16), .mov (.tmp 45), none⟩])
def a7_R3 : AC := .keep [0, 1, 2, 3, 4, 5, 6, 15, 16] [] (.reg [⟨(some 47), .mov (.tmp 0), none⟩, ⟨(some 48), .mov (.tmp 1), none⟩, ⟨(some 49), .mov (.tmp 2), none⟩, ⟨(some 50), .mov (.tmp 3), none⟩, ⟨(some 51), .mov (.tmp 4), none⟩, ⟨(some 52), .call 20 [(.tmp 47), (.tmp 48), (.tmp 49), (.tmp 50), (.tmp 51)], none⟩, ⟨(some 46), .mov (.tmp 52), none⟩, ⟨(some 53), .ext (.tmp 46) 0, none⟩, ⟨(some 54), .ext (.tmp 46) 1, none⟩, ⟨(some 17), .mov (.tmp 53), none⟩, ⟨(some 18), .mov (.tmp 54), none⟩])
def a7_R4 : AC := .keep [0, 1, 4, 5, 6, 15, 16, 17, 18] [] (.reg [⟨(some 56), .mov (.tmp 4), none⟩, ⟨(some 57), .mov (.tmp 5), none⟩, ⟨(some 58), .call 18 [(.tmp 56), (.tmp 57)], none⟩, ⟨(some 55), .mov (.tmp 58), none⟩, ⟨(some 59), .ext (.tmp 55) 0, none⟩, ⟨(some 60), .ext (.tmp 55) 1, none⟩, ⟨(some 19), .mov (.tmp 59), none⟩, ⟨(some 20), .mov (.tmp 60), none⟩])
def a7_R5 : AC := .keep [0, 1, 4, 5, 6, 15, 16, 17, 18, 19, 20] [] (.reg [⟨(some 62), .mov (.tmp 4), none⟩, ⟨(some 63), .mov (.tmp 5), none⟩, ⟨(some 64), .call 21 [(.tmp 62), (.tmp 63)], none⟩, ⟨(some 61), .mov (.tmp 64), none⟩, ⟨(some 65), .ext (.tmp 61) 0, none⟩, ⟨(some 66), .ext (.tmp 61) 1, none⟩, ⟨(some 21), .mov (.tmp 65), none⟩, ⟨(some 22), .mov (.tmp 66), none⟩])
def a7_R6 : AC := .keep [0, 1, 4, 5, 15, 16, 17, 18, 19, 20, 21, 22, 23, 24, 25, 26] [] (.reg [⟨(some 77), .mov (.tmp 15), none⟩, ⟨(some 78), .mov (.tmp 17), none⟩, ⟨(some 79), .bin .eql (.tmp 77) (.tmp 78), none⟩, ⟨(some 80), .mov (.tmp 79), none⟩, ⟨(some 81), .mov (.tmp 16), (some (80, true))⟩, ⟨(some 82), .mov (.tmp 18), (some (80, true))⟩, ⟨(some 83), .eq false .bool (.tmp 81) (.tmp 82), (some (80, true))⟩, ⟨(some 84), .pick (.tmp 80) (.tmp 83) (.val (.bool false)), none⟩, ⟨(some 85), .mov (.tmp 84), none⟩, ⟨(some 86), .mov (.tmp 19), (some (85, true))⟩, ⟨(some 87), .mov (.tmp 21), (some (85, true))⟩, ⟨(some 88), .bin .eql (.tmp 86) (.tmp 87), (some (85, true))⟩, ⟨(some 89), .pick (.tmp 85) (.tmp 88) (.val (.bool false)), none⟩, ⟨(some 90), .mov (.tmp 89), none⟩, ⟨(some 91), .mov (.tmp 20), (some (90, true))⟩, ⟨(some 92), .mov (.tmp 22), (some (90, true))⟩, ⟨(some 93), .eq false .bool (.tmp 91) (.tmp 92), (some (90, true))⟩, ⟨(some 94), .pick (.tmp 90) (.tmp 93) (.val (.bool false)), none⟩, ⟨(some 95), .mov (.tmp 94), none⟩, ⟨(some 96), .mov (.tmp 23), (some (95, true))⟩, ⟨(some 97), .mov (.tmp 25), (some (95, true))⟩, ⟨(some 98), .bin .eql (.tmp 96) (.tmp 97), (some (95, true))⟩, ⟨(some 99), .pick (.tmp 95) (.tmp 98) (.val (.bool false)), none⟩, ⟨(some 100), .mov (.tmp 99), none⟩, ⟨(some 101), .mov (.tmp 24), (some (100, true))⟩, ⟨(some 102), .mov (.tmp 26), (some (100, true))⟩, ⟨(some 103), .bin .eql (.tmp 101) (.tmp 102), (some (100, true))⟩, ⟨(some 104), .pick (.tmp 100) (.tmp 103) (.val (.bool false)), none⟩, ⟨(some 105), .mov (.tmp 104), none⟩, ⟨(some 106), .mov (.tmp 4), (some (105, true))⟩, ⟨(some 107), .call 12 [(.tmp 106)], (some (105, true))⟩, ⟨(some 108), .mov (.tmp 4), (some (105, true))⟩, ⟨(some 109), .call 23 [(.tmp 108)], (some (105, true))⟩, ⟨(some 110), .bin .eql (.tmp 107) (.tmp 109), (some (105, true))⟩, ⟨(some 111), .pick (.tmp 105) (.tmp 110) (.val (.bool false)), none⟩, ⟨(some 112), .mov (.tmp 111), none⟩, ⟨(some 113), .mov (.tmp 0), (some (112, true))⟩, ⟨(some 114), .call 15 [(.tmp 113)], (some (112, true))⟩, ⟨(some 115), .mov (.tmp 0), (some (112, true))⟩, ⟨(some 116), .call 25 [(.tmp 115)], (some (112, true))⟩, ⟨(some 117), .call 24 [(.tmp 114), (.tmp 116)], (some (112, true))⟩, ⟨(some 118), .pick (.tmp 112) (.tmp 117) (.val (.bool false)), none⟩, ⟨(some 119), .mov (.tmp 118), none⟩, ⟨(some 120), .mov (.tmp 0), (some (119, true))⟩, ⟨(some 121), .mov (.tmp 5), (some (119, true))⟩, ⟨(some 122), .call 14 [(.tmp 120), (.tmp 121)], (some (119, true))⟩, ⟨(some 123), .mov (.tmp 0), (some (119, true))⟩, ⟨(some 124), .mov (.tmp 5), (some (119, true))⟩, ⟨(some 125), .call 26 [(.tmp 123), (.tmp 124)], (some (119, true))⟩, ⟨(some 126), .eq false .bool (.tmp 122) (.tmp 125), (some (119, true))⟩, ⟨(some 127), .pick (.tmp 119) (.tmp 126) (.val (.bool false)), none⟩, ⟨(some 128), .mov (.tmp 127), none⟩, ⟨(some 129), .mov (.tmp 1), (some (128, true))⟩, ⟨(some 130), .call 17 [(.tmp 129)], (some (128, true))⟩, ⟨(some 131), .mov (.tmp 1), (some (128, true))⟩, ⟨(some 132), .call 25 [(.tmp 131)], (some (128, true))⟩, ⟨(some 133), .lenL (.tmp 132), (some (128, true))⟩, ⟨(some 134), .bin .eql (.tmp 130) (.tmp 133), (some (128, true))⟩, ⟨(some 135), .pick (.tmp 128) (.tmp 134) (.val (.bool false)), none⟩, ⟨(some 14), .mov (.tmp 135), none⟩])
def a7 : AFn := { n := 136, np := 7, res := [.tmp 14], body :=
 (.seq (.keep [0, 1, 2, 3, 4, 5, 6] [] (.reg [⟨(some 14), .mov (.val (.bool false)), none⟩]))
 (.seq (.seq (.keep [0, 1, 2, 3, 4, 5, 6] [] (.reg [⟨(some 27), .call 11 [], none⟩, ⟨(some 28), .un .not (.tmp 27), none⟩]))
 (.cond (.tmp 28) (.seq (.keep [] [] (.reg [⟨(some 14), .mov (.val (.bool false)), none⟩]))
 .ret) .skip))
 (.seq (.seq a7_R1
 (.cond (.tmp 36) (.seq (.keep [] [] (.reg [⟨(some 14), .mov (.val (.bool true)), none⟩]))
 .ret) .skip))
 (.seq a7_R2
 (.seq a7_R3
 (.seq a7_R4
 (.seq a7_R5
 (.seq (.keep [0, 1, 4, 5, 6, 15, 16, 17, 18, 19, 20, 21, 22] [] (.reg [⟨(some 68), .mov (.tmp 6), none⟩, ⟨(some 69), .call 16 [(.tmp 68)], none⟩, ⟨(some 67), .mov (.tmp 69), none⟩, ⟨(some 70), .ext (.tmp 67) 0, none⟩, ⟨(some 71), .ext (.tmp 67) 1, none⟩, ⟨(some 23), .mov (.tmp 70), none⟩, ⟨(some 24), .mov (.tmp 71), none⟩]))
 (.seq (.keep [0, 1, 4, 5, 6, 15, 16, 17, 18, 19, 20, 21, 22, 23, 24] [] (.reg [⟨(some 73), .mov (.tmp 6), none⟩, ⟨(some 74), .call 22 [(.tmp 73)], none⟩, ⟨(some 72), .mov (.tmp 74), none⟩, ⟨(some 75), .ext (.tmp 72) 0, none⟩, ⟨(some 76), .ext (.tmp 72) 1, none⟩, ⟨(some 25), .mov (.tmp 75), none⟩, ⟨(some 26), .mov (.tmp 76), none⟩]))
 (.seq a7_R6
 .ret)))))))))) }
def h11 : Hints := ⟨[], [(0, [], []), (1, [], []), (2, [1, 2], []), (3, [1, 2, 4], []), (4, [1, 2, 4, 5, 6], [])]⟩
def a11 : AFn := { n := 43, np := 0, res := [.tmp 0], body :=
 (.seq (.keep [] [] (.reg [⟨(some 0), .mov (.val (.bool false)), none⟩]))
 (.seq (.keep [] [] (.reg [⟨(some 8), .call 19 [], none⟩, ⟨(some 9), .call 13 [(.val (.int .u32 42)), (.val (.int .u32 42)), (.val (.int .i64 0)), (.val (.int .i64 0)), (.tmp 8)], none⟩, ⟨(some 7), .mov (.tmp 9), none⟩, ⟨(some 10), .ext (.tmp 7) 0, none⟩, ⟨(some 11), .ext (.tmp 7) 1, none⟩, ⟨(some 1), .mov (.tmp 10), none⟩, ⟨(some 2), .mov (.tmp 11), none⟩]))
 (.seq (.keep [1, 2] [] (.reg [⟨(some 13), .call 19 [], none⟩, ⟨(some 14), .call 13 [(.val (.int .u32 42)), (.val (.int .u32 42)), (.val (.int .i64 0)), (.val (.int .i64 4)), (.tmp 13)], none⟩, ⟨(some 12), .mov (.tmp 14), none⟩, ⟨(some 15), .ext (.tmp 12) 0, none⟩, ⟨(some 16), .ext (.tmp 12) 1, none⟩, ⟨(some 3), .mov (.tmp 15), none⟩, ⟨(some 4), .mov (.tmp 16), none⟩]))
 (.seq (.keep [1, 2, 4] [] (.reg [⟨(some 18), .call 19 [], none⟩, ⟨(some 19), .call 13 [(.val (.int .u32 42)), (.val (.int .u32 42)), (.val (.int .i64 3)), (.val (.int .i64 2)), (.tmp 18)], none⟩, ⟨(some 17), .mov (.tmp 19), none⟩, ⟨(some 20), .ext (.tmp 17) 0, none⟩, ⟨(some 21), .ext (.tmp 17) 1, none⟩, ⟨(some 5), .mov (.tmp 20), none⟩, ⟨(some 6), .mov (.tmp 21), none⟩]))
 (.seq (.keep [1, 2, 4, 5, 6] [] (.reg [⟨(some 22), .mov (.tmp 1), none⟩, ⟨(some 23), .bin .eql (.tmp 22) (.val (.int .i64 2)), none⟩, ⟨(some 24), .mov (.tmp 23), none⟩, ⟨(some 25), .mov (.tmp 2), (some (24, true))⟩, ⟨(some 26), .pick (.tmp 24) (.tmp 25) (.val (.bool false)), none⟩, ⟨(some 27), .mov (.tmp 26), none⟩, ⟨(some 28), .mov (.tmp 4), (some (27, true))⟩, ⟨(some 29), .un .not (.tmp 28), (some (27, true))⟩, ⟨(some 30), .pick (.tmp 27) (.tmp 29) (.val (.bool false)), none⟩, ⟨(some 31), .mov (.tmp 30), none⟩, ⟨(some 32), .mov (.tmp 5), (some (31, true))⟩, ⟨(some 33), .bin .eql (.tmp 32) (.val (.int .i64 2)), (some (31, true))⟩, ⟨(some 34), .pick (.tmp 31) (.tmp 33) (.val (.bool false)), none⟩, ⟨(some 35), .mov (.tmp 34), none⟩, ⟨(some 36), .mov (.tmp 6), (some (35, true))⟩, ⟨(some 37), .pick (.tmp 35) (.tmp 36) (.val (.bool false)), none⟩, ⟨(some 38), .mov (.tmp 37), none⟩, ⟨(some 39), .call 15 [(.val (.int .u32 42))], (some (38, true))⟩, ⟨(some 40), .mkslc 1 3 [(.int .i64 0)] [(0, (.val (.int .i64 1))), (1, (.val (.int .i64 3))), (2, (.val (.int .i64 5)))], (some (38, true))⟩, ⟨(some 41), .call 24 [(.tmp 39), (.tmp 40)], (some (38, true))⟩, ⟨(some 42), .pick (.tmp 38) (.tmp 41) (.val (.bool false)), none⟩, ⟨(some 0), .mov (.tmp 42), none⟩]))
 .ret))))) }
def h12 : Hints := ⟨[5], [(0, [0], []), (1, [0], []), (2, [], []), (3, [0], []), (4, [0, 3], []), (5, [3, 9, 10, 11], []), (6, [3, 9, 10, 11], []), (7, [3, 5, 9, 10, 11], [5]), (8, [], []), (9, [3, 5, 9, 10, 11], [5]), (10, [3, 9, 10, 11], []), (11, [], [])]⟩
def a12_B1 : AC := (.seq (.keep [3, 9, 10, 11] [] (.reg [⟨(some 12), .bin .lss (.tmp 11) (.tmp 10), none⟩]))
 (.seq (.cond (.tmp 12) .skip (.exit 0))
 (.seq (.block 1 (.seq (.keep [3, 9, 10, 11] [] (.reg [⟨(some 13), .iaddrL 3 (.tmp 9) (.tmp 11), none⟩, ⟨(some 14), .load (some 3) (.tmp 13), none⟩, ⟨(some 5), .alloc (some 5) [(.int .i64 0), (.int .i64 0), (.int .i64 0)], none⟩, ⟨none, .store 3 (.tmp 5) (.tmp 14), none⟩]))
 (.seq (.seq (.keep [3, 5, 9, 10, 11] [5] (.reg [⟨(some 15), .faddr 0 (.tmp 5), none⟩, ⟨(some 16), .load none (.tmp 15), none⟩, ⟨(some 17), .bin .lss (.tmp 16) (.val (.int .i64 0)), none⟩, ⟨(some 18), .mov (.tmp 17), none⟩, ⟨(some 19), .faddr 0 (.tmp 5), (some (18, false))⟩, ⟨(some 20), .load none (.tmp 19), (some (18, false))⟩, ⟨(some 21), .bin .gtr (.tmp 20) (.val (.int .i64 31)), (some (18, false))⟩, ⟨(some 22), .pick (.tmp 18) (.val (.bool true)) (.tmp 21), none⟩, ⟨(some 23), .mov (.tmp 22), none⟩, ⟨(some 24), .faddr 1 (.tmp 5), (some (23, false))⟩, ⟨(some 25), .load none (.tmp 24), (some (23, false))⟩, ⟨(some 26), .bin .lss (.tmp 25) (.val (.int .i64 1)), (some (23, false))⟩, ⟨(some 27), .pick (.tmp 23) (.val (.bool true)) (.tmp 26), none⟩, ⟨(some 28), .mov (.tmp 27), none⟩, ⟨(some 29), .faddr 1 (.tmp 5), (some (28, false))⟩, ⟨(some 30), .load none (.tmp 29), (some (28, false))⟩, ⟨(some 31), .bin .gtr (.tmp 30) (.val (.int .i64 15)), (some (28, false))⟩, ⟨(some 32), .pick (.tmp 28) (.val (.bool true)) (.tmp 31), none⟩, ⟨(some 33), .mov (.tmp 32), none⟩, ⟨(some 34), .faddr 2 (.tmp 5), (some (33, false))⟩, ⟨(some 35), .load none (.tmp 34), (some (33, false))⟩, ⟨(some 36), .bin .lss (.tmp 35) (.val (.int .i64 0)), (some (33, false))⟩, ⟨(some 37), .pick (.tmp 33) (.val (.bool true)) (.tmp 36), none⟩, ⟨(some 38), .mov (.tmp 37), none⟩, ⟨(some 39), .mov (.tmp 3), (some (38, false))⟩, ⟨(some 40), .faddr 0 (.tmp 5), (some (38, false))⟩, ⟨(some 41), .load none (.tmp 40), (some (38, false))⟩, ⟨(some 42), .call 14 [(.tmp 39), (.tmp 41)], (some (38, false))⟩, ⟨(some 43), .pick (.tmp 38) (.val (.bool true)) (.tmp 42), none⟩]))
 (.cond (.tmp 43) (.seq (.keep [] [] (.reg [⟨(some 2), .mov (.val (.int .i64 2)), none⟩]))
 .ret) .skip))
 (.keep [3, 5, 9, 10, 11] [5] (.reg [⟨(some 44), .mov (.tmp 3), none⟩, ⟨(some 45), .faddr 0 (.tmp 5), none⟩, ⟨(some 46), .load none (.tmp 45), none⟩, ⟨(some 47), .bin .shl (.val (.int .u32 1)) (.tmp 46), none⟩, ⟨(some 48), .bin .or (.tmp 44) (.tmp 47), none⟩, ⟨(some 3), .mov (.tmp 48), none⟩])))))
 (.keep [3, 9, 10, 11] [] (.reg [⟨(some 49), .bin .add (.tmp 11) (.val (.int .i64 1)), none⟩, ⟨(some 11), .mov (.tmp 49), none⟩])))))
def a12_L1 : AC := .loop a12_B1
theorem a12_L1_step (call : Caller) (again : AC → St → Option (Ex × St)) (s : St) : codeEv call again a12_L1 s = match codeEv call again a12_B1 s with | some (.norm, s1) => again a12_L1 s1 | r => r := rfl
def a12 : AFn := { n := 50, np := 1, res := [.tmp 2], body :=
 (.seq (.keep [0] [] (.reg [⟨(some 2), .mov (.val (.int .i64 0)), none⟩]))
 (.seq (.seq (.keep [0] [] (.reg [⟨(some 6), .mov (.tmp 0), none⟩, ⟨(some 7), .lenL (.tmp 6), none⟩, ⟨(some 8), .bin .gtr (.tmp 7) (.val (.int .i64 32)), none⟩]))
 (.cond (.tmp 8) (.seq (.keep [] [] (.reg [⟨(some 2), .mov (.val (.int .i64 3)), none⟩]))
 .ret) .skip))
 (.seq (.keep [0] [] (.reg [⟨(some 3), .mov (.val (.int .u32 0)), none⟩]))
 (.seq (.seq (.keep [0, 3] [] (.reg [⟨(some 9), .mov (.tmp 0), none⟩, ⟨(some 10), .lenL (.tmp 9), none⟩, ⟨(some 11), .mov (.val (.int .i64 0)), none⟩]))
 (.block 0 a12_L1))
 (.seq (.keep [] [] (.reg [⟨(some 2), .mov (.val (.int .i64 0)), none⟩]))
 .ret))))) }
def h13 : Hints := ⟨[15], [(0, [0, 1, 2, 3, 4], []), (1, [0, 1, 2, 3, 9], []), (2, [], []), (3, [0, 1, 2, 3, 9], []), (4, [0, 1, 2, 3, 9, 12], []), (5, [0, 1, 2, 3, 9, 12, 13], []), (6, [0, 1, 2, 3, 12, 13, 20, 21, 22], []), (7, [0, 1, 2, 3, 12, 13, 20, 21, 22], []), (8, [0, 1, 2, 3, 12, 13, 14, 15, 20, 21, 22], [15]), (9, [0, 1, 2, 3, 12, 13, 14, 20, 21, 22], []), (10, [0, 1, 2, 3, 12, 13, 20, 21, 22], []), (11, [12], [])]⟩
def a13_B1 : AC := (.seq (.keep [0, 1, 2, 3, 12, 13, 20, 21, 22] [] (.reg [⟨(some 23), .bin .lss (.tmp 22) (.tmp 21), none⟩]))
 (.seq (.cond (.tmp 23) .skip (.exit 0))
 (.seq (.block 1 (.seq (.keep [0, 1, 2, 3, 12, 13, 20, 21, 22] [] (.reg [⟨(some 24), .mov (.tmp 22), none⟩, ⟨(some 25), .iaddrL 3 (.tmp 20) (.tmp 22), none⟩, ⟨(some 26), .load (some 3) (.tmp 25), none⟩, ⟨(some 15), .alloc (some 15) [(.int .i64 0), (.int .i64 0), (.int .i64 0)], none⟩, ⟨(some 14), .mov (.tmp 24), none⟩, ⟨none, .store 3 (.tmp 15) (.tmp 26), none⟩]))
 (.seq (.keep [0, 1, 2, 3, 12, 13, 14, 15, 20, 21, 22] [15] (.reg [⟨(some 27), .mov (.tmp 0), none⟩, ⟨(some 28), .mov (.tmp 1), none⟩, ⟨(some 29), .bin .and (.tmp 27) (.tmp 28), none⟩, ⟨(some 30), .faddr 0 (.tmp 15), none⟩, ⟨(some 31), .load none (.tmp 30), none⟩, ⟨(some 32), .call 14 [(.tmp 29), (.tmp 31)], none⟩, ⟨(some 33), .mov (.tmp 32), none⟩, ⟨(some 34), .faddr 1 (.tmp 15), (some (33, true))⟩, ⟨(some 35), .load none (.tmp 34), (some (33, true))⟩, ⟨(some 36), .mov (.tmp 2), (some (33, true))⟩, ⟨(some 37), .mov (.tmp 3), (some (33, true))⟩, ⟨(some 38), .max [(.tmp 36), (.tmp 37)], (some (33, true))⟩, ⟨(some 39), .bin .gtr (.tmp 35) (.tmp 38), (some (33, true))⟩, ⟨(some 40), .pick (.tmp 33) (.tmp 39) (.val (.bool false)), none⟩, ⟨(some 41), .mov (.tmp 40), none⟩, ⟨(some 42), .mov (.tmp 13), (some (41, true))⟩, ⟨(some 43), .mov (.tmp 14), (some (41, true))⟩, ⟨(some 44), .callv (.tmp 42) [(.tmp 43)], (some (41, true))⟩, ⟨(some 45), .pick (.tmp 41) (.tmp 44) (.val (.bool false)), none⟩]))
 (.cond (.tmp 45) (.keep [0, 1, 2, 3, 12, 13, 14, 20, 21, 22] [] (.reg [⟨(some 46), .mov (.tmp 14), none⟩, ⟨none, .store 1 (.tmp 12) (.tmp 46), none⟩])) .skip))))
 (.keep [0, 1, 2, 3, 12, 13, 20, 21, 22] [] (.reg [⟨(some 47), .bin .add (.tmp 22) (.val (.int .i64 1)), none⟩, ⟨(some 22), .mov (.tmp 47), none⟩])))))
def a13_L1 : AC := .loop a13_B1
theorem a13_L1_step (call : Caller) (again : AC → St → Option (Ex × St)) (s : St) : codeEv call again a13_L1 s = match codeEv call again a13_B1 s with | some (.norm, s1) => again a13_L1 s1 | r => r := rfl
def a13 : AFn := { n := 52, np := 5, res := [.tmp 10, .tmp 11], body :=
 (.seq (.keep [0, 1, 2, 3, 4] [] (.reg [⟨(some 9), .box none (.tmp 4), none⟩, ⟨(some 10), .mov (.val (.int .i64 0)), none⟩, ⟨(some 11), .mov (.val (.bool false)), none⟩]))
 (.seq (.seq (.keep [0, 1, 2, 3, 9] [] (.reg [⟨(some 16), .load none (.tmp 9), none⟩, ⟨(some 17), .call 12 [(.tmp 16)], none⟩, ⟨(some 18), .bin .neq (.tmp 17) (.val (.int .i64 0)), none⟩]))
 (.cond (.tmp 18) (.seq (.keep [] [] (.reg [⟨(some 10), .mov (.val (.int .i64 0)), none⟩, ⟨(some 11), .mov (.val (.bool false)), none⟩]))
 .ret) .skip))
 (.seq (.keep [0, 1, 2, 3, 9] [] (.reg [⟨(some 12), .alloc none [(.int .i64 0)], none⟩, ⟨none, .store 1 (.tmp 12) (.val (.int .i64 (-1))), none⟩]))
 (.seq (.keep [0, 1, 2, 3, 9, 12] [] (.reg [⟨(some 19), .mkfn 47 [(.tmp 12), (.tmp 9)], none⟩, ⟨(some 13), .mov (.tmp 19), none⟩]))
 (.seq (.seq (.keep [0, 1, 2, 3, 9, 12, 13] [] (.reg [⟨(some 20), .load none (.tmp 9), none⟩, ⟨(some 21), .lenL (.tmp 20), none⟩, ⟨(some 22), .mov (.val (.int .i64 0)), none⟩]))
 (.block 0 a13_L1))
 (.seq (.keep [12] [] (.dreg [(false, ⟨(some 48), .load none (.tmp 12), none⟩, false), (false, ⟨(some 49), .max [(.val (.int .i64 0)), (.tmp 48)], none⟩, false), (false, ⟨(some 50), .load none (.tmp 12), none⟩, false), (false, ⟨(some 51), .bin .geq (.tmp 50) (.val (.int .i64 0)), none⟩, false), (false, ⟨(some 10), .mov (.tmp 49), none⟩, false), (false, ⟨(some 11), .mov (.tmp 51), none⟩, false)]))
 .ret)))))) }
def h14 : Hints := ⟨[], [(0, [0, 1], []), (1, [0, 1], [])]⟩
def a14 : AFn := { n := 18, np := 2, res := [.tmp 4], body :=
 (.seq (.keep [0, 1] [] (.reg [⟨(some 4), .mov (.val (.bool false)), none⟩]))
 (.seq (.keep [0, 1] [] (.reg [⟨(some 5), .mov (.tmp 1), none⟩, ⟨(some 6), .bin .geq (.tmp 5) (.val (.int .i64 0)), none⟩, ⟨(some 7), .mov (.tmp 6), none⟩, ⟨(some 8), .mov (.tmp 1), (some (7, true))⟩, ⟨(some 9), .bin .lss (.tmp 8) (.val (.int .i64 32)), (some (7, true))⟩, ⟨(some 10), .pick (.tmp 7) (.tmp 9) (.val (.bool false)), none⟩, ⟨(some 11), .mov (.tmp 10), none⟩, ⟨(some 12), .mov (.tmp 0), (some (11, true))⟩, ⟨(some 13), .mov (.tmp 1), (some (11, true))⟩, ⟨(some 14), .bin .shr (.tmp 12) (.tmp 13), (some (11, true))⟩, ⟨(some 15), .bin .and (.tmp 14) (.val (.int .u32 1)), (some (11, true))⟩, ⟨(some 16), .bin .eql (.tmp 15) (.val (.int .u32 1)), (some (11, true))⟩, ⟨(some 17), .pick (.tmp 11) (.tmp 16) (.val (.bool false)), none⟩, ⟨(some 4), .mov (.tmp 17), none⟩]))
 .ret)) }
def h15 : Hints := ⟨[], [(0, [0], []), (1, [0, 2], []), (3, [0, 2], []), (2, [0, 2], []), (4, [2], [])]⟩
def a15_B1 : AC := (.seq (.seq (.keep [0, 2] [] (.reg [⟨(some 3), .mov (.tmp 0), none⟩, ⟨(some 4), .bin .neq (.tmp 3) (.val (.int .u32 0)), none⟩]))
 (.cond (.tmp 4) .skip (.exit 0)))
 (.seq (.block 1 (.keep [0, 2] [] (.reg [⟨(some 9), .mov (.tmp 2), none⟩, ⟨(some 10), .mov (.tmp 0), none⟩, ⟨(some 11), .call 48 [(.tmp 10)], none⟩, ⟨(some 12), .mkslc 1 1 [(.int .i64 0)] [(0, (.tmp 11))], none⟩, ⟨(some 13), .app 1 8 (.tmp 9) (.tmp 12), none⟩, ⟨(some 2), .mov (.tmp 13), none⟩])))
 (.keep [0, 2] [] (.reg [⟨(some 5), .mov (.tmp 0), none⟩, ⟨(some 6), .mov (.tmp 0), none⟩, ⟨(some 7), .bin .sub (.tmp 6) (.val (.int .u32 1)), none⟩, ⟨(some 8), .bin .and (.tmp 5) (.tmp 7), none⟩, ⟨(some 0), .mov (.tmp 8), none⟩]))))
def a15_L1 : AC := .loop a15_B1
theorem a15_L1_step (call : Caller) (again : AC → St → Option (Ex × St)) (s : St) : codeEv call again a15_L1 s = match codeEv call again a15_B1 s with | some (.norm, s1) => again a15_L1 s1 | r => r := rfl
def a15 : AFn := { n := 15, np := 1, res := [.tmp 2], body :=
 (.seq (.keep [0] [] (.reg [⟨(some 2), .mov (.val .nils), none⟩]))
 (.seq (.block 0 a15_L1)
 (.seq (.keep [2] [] (.reg [⟨(some 14), .mov (.tmp 2), none⟩, ⟨(some 2), .mov (.tmp 14), none⟩]))
 .ret))) }
def h16 : Hints := ⟨[], [(0, [0], []), (1, [0, 2], []), (2, [2, 6, 7, 8], []), (3, [2, 6, 7, 8], []), (4, [2, 5, 6, 7, 8], []), (5, [], []), (6, [2, 5, 6, 7, 8], []), (7, [2, 6, 7, 8], []), (8, [2], [])]⟩
def a16_B1 : AC := (.seq (.keep [2, 6, 7, 8] [] (.reg [⟨(some 9), .bin .lss (.tmp 8) (.tmp 7), none⟩]))
 (.seq (.cond (.tmp 9) .skip (.exit 0))
 (.seq (.block 1 (.seq (.keep [2, 6, 7, 8] [] (.reg [⟨(some 10), .iaddrL 1 (.tmp 6) (.tmp 8), none⟩, ⟨(some 11), .load none (.tmp 10), none⟩, ⟨(some 5), .mov (.tmp 11), none⟩]))
 (.seq (.seq (.keep [2, 5, 6, 7, 8] [] (.reg [⟨(some 12), .mov (.tmp 5), none⟩, ⟨(some 13), .bin .lss (.tmp 12) (.val (.int .i64 0)), none⟩, ⟨(some 14), .mov (.tmp 13), none⟩, ⟨(some 15), .mov (.tmp 5), (some (14, false))⟩, ⟨(some 16), .bin .gtr (.tmp 15) (.val (.int .i64 31)), (some (14, false))⟩, ⟨(some 17), .pick (.tmp 14) (.val (.bool true)) (.tmp 16), none⟩]))
 (.cond (.tmp 17) (.seq (.keep [] [] (.reg [⟨(some 2), .mov (.val (.int .u32 0)), none⟩, ⟨(some 3), .mov (.val (.int .i64 2)), none⟩]))
 .ret) .skip))
 (.keep [2, 5, 6, 7, 8] [] (.reg [⟨(some 18), .mov (.tmp 2), none⟩, ⟨(some 19), .mov (.tmp 5), none⟩, ⟨(some 20), .bin .shl (.val (.int .u32 1)) (.tmp 19), none⟩, ⟨(some 21), .bin .or (.tmp 18) (.tmp 20), none⟩, ⟨(some 2), .mov (.tmp 21), none⟩])))))
 (.keep [2, 6, 7, 8] [] (.reg [⟨(some 22), .bin .add (.tmp 8) (.val (.int .i64 1)), none⟩, ⟨(some 8), .mov (.tmp 22), none⟩])))))
def a16_L1 : AC := .loop a16_B1
theorem a16_L1_step (call : Caller) (again : AC → St → Option (Ex × St)) (s : St) : codeEv call again a16_L1 s = match codeEv call again a16_B1 s with | some (.norm, s1) => again a16_L1 s1 | r => r := rfl
def a16 : AFn := { n := 24, np := 1, res := [.tmp 2, .tmp 3], body :=
 (.seq (.keep [0] [] (.reg [⟨(some 2), .mov (.val (.int .u32 0)), none⟩, ⟨(some 3), .mov (.val (.int .i64 0)), none⟩]))
 (.seq (.seq (.keep [0, 2] [] (.reg [⟨(some 6), .mov (.tmp 0), none⟩, ⟨(some 7), .lenL (.tmp 6), none⟩, ⟨(some 8), .mov (.val (.int .i64 0)), none⟩]))
 (.block 0 a16_L1))
 (.seq (.keep [2] [] (.reg [⟨(some 23), .mov (.tmp 2), none⟩, ⟨(some 2), .mov (.tmp 23), none⟩, ⟨(some 3), .mov (.val (.int .i64 0)), none⟩]))
 .ret))) }
def h17 : Hints := ⟨[], [(0, [0], []), (1, [0], [])]⟩
def a17 : AFn := { n := 5, np := 1, res := [.tmp 2], body :=
 (.seq (.keep [0] [] (.reg [⟨(some 2), .mov (.val (.int .i64 0)), none⟩]))
 (.seq (.keep [0] [] (.reg [⟨(some 3), .mov (.tmp 0), none⟩, ⟨(some 4), .call 49 [(.tmp 3)], none⟩, ⟨(some 2), .mov (.tmp 4), none⟩]))
 .ret)) }
def h18 : Hints := ⟨[7], [(0, [0, 1], []), (1, [0, 1], []), (2, [1, 8, 9, 10], []), (3, [1, 8, 9, 10], []), (4, [1, 6, 7, 8, 9, 10], [7]), (5, [6], []), (6, [1, 8, 9, 10], []), (7, [], [])]⟩
def a18_B1 : AC := (.seq (.keep [1, 8, 9, 10] [] (.reg [⟨(some 11), .bin .lss (.tmp 10) (.tmp 9), none⟩]))
 (.seq (.cond (.tmp 11) .skip (.exit 0))
 (.seq (.block 1 (.seq (.keep [1, 8, 9, 10] [] (.reg [⟨(some 12), .mov (.tmp 10), none⟩, ⟨(some 13), .iaddrL 3 (.tmp 8) (.tmp 10), none⟩, ⟨(some 14), .load (some 3) (.tmp 13), none⟩, ⟨(some 7), .alloc (some 7) [(.int .i64 0), (.int .i64 0), (.int .i64 0)], none⟩, ⟨(some 6), .mov (.tmp 12), none⟩, ⟨none, .store 3 (.tmp 7) (.tmp 14), none⟩]))
 (.seq (.keep [1, 6, 7, 8, 9, 10] [7] (.reg [⟨(some 15), .faddr 0 (.tmp 7), none⟩, ⟨(some 16), .load none (.tmp 15), none⟩, ⟨(some 17), .mov (.tmp 1), none⟩, ⟨(some 18), .bin .eql (.tmp 16) (.tmp 17), none⟩]))
 (.cond (.tmp 18) (.seq (.keep [6] [] (.reg [⟨(some 19), .mov (.tmp 6), none⟩, ⟨(some 4), .mov (.tmp 19), none⟩, ⟨(some 5), .mov (.val (.bool true)), none⟩]))
 .ret) .skip))))
 (.keep [1, 8, 9, 10] [] (.reg [⟨(some 20), .bin .add (.tmp 10) (.val (.int .i64 1)), none⟩, ⟨(some 10), .mov (.tmp 20), none⟩])))))
def a18_L1 : AC := .loop a18_B1
theorem a18_L1_step (call : Caller) (again : AC → St → Option (Ex × St)) (s : St) : codeEv call again a18_L1 s = match codeEv call again a18_B1 s with | some (.norm, s1) => again a18_L1 s1 | r => r := rfl
def a18 : AFn := { n := 21, np := 2, res := [.tmp 4, .tmp 5], body :=
 (.seq (.keep [0, 1] [] (.reg [⟨(some 4), .mov (.val (.int .i64 0)), none⟩, ⟨(some 5), .mov (.val (.bool false)), none⟩]))
 (.seq (.seq (.keep [0, 1] [] (.reg [⟨(some 8), .mov (.tmp 0), none⟩, ⟨(some 9), .lenL (.tmp 8), none⟩, ⟨(some 10), .mov (.val (.int .i64 0)), none⟩]))
 (.block 0 a18_L1))
 (.seq (.keep [] [] (.reg [⟨(some 4), .mov (.val (.int .i64 0)), none⟩, ⟨(some 5), .mov (.val (.bool false)), none⟩]))
 .ret))) }
def h19 : Hints := ⟨[], [(0, [], []), (1, [], [])]⟩
def a19 : AFn := { n := 5, np := 0, res := [.tmp 0], body :=
 (.seq (.keep [] [] (.reg [⟨(some 0), .mov (.val .nils), none⟩]))
 (.seq (.keep [] [] (.reg [⟨(some 1), .build [(.int .i64 0), (.int .i64 0), (.int .i64 0)] [(0, 1, (.val (.int .i64 3))), (1, 1, (.val (.int .i64 2)))], none⟩, ⟨(some 2), .build [(.int .i64 0), (.int .i64 0), (.int .i64 0)] [(0, 1, (.val (.int .i64 5))), (1, 1, (.val (.int .i64 4)))], none⟩, ⟨(some 3), .build [(.int .i64 0), (.int .i64 0), (.int .i64 0)] [(0, 1, (.val (.int .i64 1))), (1, 1, (.val (.int .i64 4)))], none⟩, ⟨(some 4), .mkslc 3 3 [(.int .i64 0), (.int .i64 0), (.int .i64 0)] [(0, (.tmp 1)), (1, (.tmp 2)), (2, (.tmp 3))], none⟩, ⟨(some 0), .mov (.tmp 4), none⟩]))
 .ret)) }
def h20 : Hints := ⟨[14], [(0, [0, 1, 2, 3, 4], []), (1, [0, 1, 2, 3, 4], []), (2, [0, 1, 2, 3, 4, 12], []), (3, [0, 1, 2, 3, 4, 12, 13], []), (5, [0, 1, 2, 3, 4, 12, 13], []), (6, [0, 1, 2, 3, 4, 12, 13, 14], [14]), (7, [0, 1, 2, 3, 4, 12, 13, 14], [14]), (8, [0, 1, 2, 3, 4, 13], []), (4, [0, 1, 2, 3, 4, 12, 13], []), (9, [12], [])]⟩
def a20_B1 : AC := (.seq (.seq (.keep [0, 1, 2, 3, 4, 12, 13] [] (.reg [⟨(some 15), .mov (.tmp 13), none⟩, ⟨(some 16), .mov (.tmp 4), none⟩, ⟨(some 17), .lenL (.tmp 16), none⟩, ⟨(some 18), .bin .lss (.tmp 15) (.tmp 17), none⟩, ⟨(some 19), .mov (.tmp 18), none⟩, ⟨(some 20), .mov (.tmp 4), (some (19, true))⟩, ⟨(some 21), .call 23 [(.tmp 20)], (some (19, true))⟩, ⟨(some 22), .bin .eql (.tmp 21) (.val (.int .i64 0)), (some (19, true))⟩, ⟨(some 23), .pick (.tmp 19) (.tmp 22) (.val (.bool false)), none⟩]))
 (.cond (.tmp 23) .skip (.exit 0)))
 (.seq (.block 1 (.seq (.keep [0, 1, 2, 3, 4, 12, 13] [] (.reg [⟨(some 26), .mov (.tmp 4), none⟩, ⟨(some 27), .mov (.tmp 13), none⟩, ⟨(some 28), .iaddrL 3 (.tmp 26) (.tmp 27), none⟩, ⟨(some 29), .load (some 3) (.tmp 28), none⟩, ⟨(some 14), .alloc (some 14) [(.int .i64 0), (.int .i64 0), (.int .i64 0)], none⟩, ⟨none, .store 3 (.tmp 14) (.tmp 29), none⟩]))
 (.seq (.seq (.keep [0, 1, 2, 3, 4, 12, 13, 14] [14] (.reg [⟨(some 30), .mov (.tmp 0), none⟩, ⟨(some 31), .faddr 0 (.tmp 14), none⟩, ⟨(some 32), .load none (.tmp 31), none⟩, ⟨(some 33), .call 26 [(.tmp 30), (.tmp 32)], none⟩, ⟨(some 34), .un .not (.tmp 33), none⟩, ⟨(some 35), .mov (.tmp 34), none⟩, ⟨(some 36), .mov (.tmp 1), (some (35, false))⟩, ⟨(some 37), .faddr 0 (.tmp 14), (some (35, false))⟩, ⟨(some 38), .load none (.tmp 37), (some (35, false))⟩, ⟨(some 39), .call 26 [(.tmp 36), (.tmp 38)], (some (35, false))⟩, ⟨(some 40), .un .not (.tmp 39), (some (35, false))⟩, ⟨(some 41), .pick (.tmp 35) (.val (.bool true)) (.tmp 40), none⟩, ⟨(some 42), .mov (.tmp 41), none⟩, ⟨(some 43), .faddr 1 (.tmp 14), (some (42, false))⟩, ⟨(some 44), .load none (.tmp 43), (some (42, false))⟩, ⟨(some 45), .mov (.tmp 2), (some (42, false))⟩, ⟨(some 46), .bin .leq (.tmp 44) (.tmp 45), (some (42, false))⟩, ⟨(some 47), .pick (.tmp 42) (.val (.bool true)) (.tmp 46), none⟩, ⟨(some 48), .mov (.tmp 47), none⟩, ⟨(some 49), .faddr 1 (.tmp 14), (some (48, false))⟩, ⟨(some 50), .load none (.tmp 49), (some (48, false))⟩, ⟨(some 51), .mov (.tmp 3), (some (48, false))⟩, ⟨(some 52), .bin .leq (.tmp 50) (.tmp 51), (some (48, false))⟩, ⟨(some 53), .pick (.tmp 48) (.val (.bool true)) (.tmp 52), none⟩]))
 (.cond (.tmp 53) (.exit 1) .skip))
 (.seq (.keep [0, 1, 2, 3, 4, 12, 13, 14] [14] (.dreg [(false, ⟨(some 54), .mov (.tmp 12), none⟩, false), (false, ⟨(some 55), .bin .lss (.tmp 54) (.val (.int .i64 0)), none⟩, false), (false, ⟨(some 56), .mov (.tmp 55), none⟩, false), (false, ⟨(some 57), .mov (.tmp 4), (some (56, false))⟩, false), (false, ⟨(some 58), .mov (.tmp 12), (some (56, false))⟩, false), (false, ⟨(some 59), .iaddrL 3 (.tmp 57) (.tmp 58), (some (56, false))⟩, false), (false, ⟨(some 60), .faddr 1 (.tmp 59), (some (56, false))⟩, false), (false, ⟨(some 61), .load none (.tmp 60), (some (56, false))⟩, false), (false, ⟨(some 62), .faddr 1 (.tmp 14), (some (56, false))⟩, false), (false, ⟨(some 63), .load none (.tmp 62), (some (56, false))⟩, false), (false, ⟨(some 64), .bin .lss (.tmp 61) (.tmp 63), (some (56, false))⟩, false), (false, ⟨(some 65), .pick (.tmp 56) (.val (.bool true)) (.tmp 64), none⟩, false), (false, ⟨(some 66), .mov (.tmp 65), none⟩, false), (false, ⟨(some 67), .mov (.tmp 4), (some (66, false))⟩, false), (false, ⟨(some 68), .mov (.tmp 12), (some (66, false))⟩, false), (false, ⟨(some 69), .iaddrL 3 (.tmp 67) (.tmp 68), (some (66, false))⟩, false), (false, ⟨(some 70), .faddr 1 (.tmp 69), (some (66, false))⟩, false), (false, ⟨(some 71), .load none (.tmp 70), (some (66, false))⟩, false), (false, ⟨(some 72), .faddr 1 (.tmp 14), (some (66, false))⟩, false), (false, ⟨(some 73), .load none (.tmp 72), (some (66, false))⟩, false), (false, ⟨(some 74), .bin .eql (.tmp 71) (.tmp 73), (some (66, false))⟩, false), (false, ⟨(some 75), .mov (.tmp 74), (some (66, false))⟩, false), (false, ⟨(some 76), .mov (.tmp 4), (some (75, true))⟩, false), (false, ⟨(some 77), .mov (.tmp 12), (some (75, true))⟩, false), (false, ⟨(some 78), .iaddrL 3 (.tmp 76) (.tmp 77), (some (75, true))⟩, false), (false, ⟨(some 79), .faddr 0 (.tmp 78), (some (75, true))⟩, false), (false, ⟨(some 80), .load none (.tmp 79), (some (75, true))⟩, false), (false, ⟨(some 81), .faddr 0 (.tmp 14), (some (75, true))⟩, false), (false, ⟨(some 82), .load none (.tmp 81), (some (75, true))⟩, false), (false, ⟨(some 83), .bin .gtr (.tmp 80) (.tmp 82), (some (75, true))⟩, false), (false, ⟨(some 84), .pick (.tmp 75) (.tmp 83) (.val (.bool false)), (some (66, false))⟩, false), (false, ⟨(some 85), .pick (.tmp 66) (.val (.bool true)) (.tmp 84), none⟩, false)]))
 (.cond (.tmp 85) (.keep [0, 1, 2, 3, 4, 13] [] (.reg [⟨(some 86), .mov (.tmp 13), none⟩, ⟨(some 12), .mov (.tmp 86), none⟩])) .skip)))))
 (.keep [0, 1, 2, 3, 4, 12, 13] [] (.reg [⟨(some 24), .mov (.tmp 13), none⟩, ⟨(some 25), .bin .add (.tmp 24) (.val (.int .i64 1)), none⟩, ⟨(some 13), .mov (.tmp 25), none⟩]))))
def a20_L1 : AC := .loop a20_B1
theorem a20_L1_step (call : Caller) (again : AC → St → Option (Ex × St)) (s : St) : codeEv call again a20_L1 s = match codeEv call again a20_B1 s with | some (.norm, s1) => again a20_L1 s1 | r => r := rfl
def a20 : AFn := { n := 91, np := 5, res := [.tmp 10, .tmp 11], body :=
 (.seq (.keep [0, 1, 2, 3, 4] [] (.reg [⟨(some 10), .mov (.val (.int .i64 0)), none⟩, ⟨(some 11), .mov (.val (.bool false)), none⟩]))
 (.seq (.keep [0, 1, 2, 3, 4] [] (.reg [⟨(some 12), .mov (.val (.int .i64 (-1))), none⟩]))
 (.seq (.seq (.keep [0, 1, 2, 3, 4, 12] [] (.reg [⟨(some 13), .mov (.val (.int .i64 0)), none⟩]))
 (.block 0 a20_L1))
 (.seq (.keep [12] [] (.reg [⟨(some 87), .mov (.tmp 12), none⟩, ⟨(some 88), .max [(.val (.int .i64 0)), (.tmp 87)], none⟩, ⟨(some 89), .mov (.tmp 12), none⟩, ⟨(some 90), .bin .geq (.tmp 89) (.val (.int .i64 0)), none⟩, ⟨(some 10), .mov (.tmp 88), none⟩, ⟨(some 11), .mov (.tmp 90), none⟩]))
 .ret)))) }
def h21 : Hints := ⟨[], [(0, [0, 1], []), (1, [0, 1], []), (2, [0, 1, 6], []), (4, [0, 1, 6], []), (5, [6], []), (3, [0, 1, 6], []), (6, [], [])]⟩
def a21_B1 : AC := (.seq (.seq (.keep [0, 1, 6] [] (.reg [⟨(some 7), .mov (.tmp 6), none⟩, ⟨(some 8), .mov (.tmp 0), none⟩, ⟨(some 9), .lenL (.tmp 8), none⟩, ⟨(some 10), .bin .lss (.tmp 7) (.tmp 9), none⟩]))
 (.cond (.tmp 10) .skip (.exit 0)))
 (.seq (.block 1 (.seq (.keep [0, 1, 6] [] (.reg [⟨(some 13), .mov (.tmp 0), none⟩, ⟨(some 14), .mov (.tmp 6), none⟩, ⟨(some 15), .iaddrL 3 (.tmp 13) (.tmp 14), none⟩, ⟨(some 16), .faddr 0 (.tmp 15), none⟩, ⟨(some 17), .load none (.tmp 16), none⟩, ⟨(some 18), .mov (.tmp 1), none⟩, ⟨(some 19), .bin .eql (.tmp 17) (.tmp 18), none⟩]))
 (.cond (.tmp 19) (.seq (.keep [6] [] (.reg [⟨(some 20), .mov (.tmp 6), none⟩, ⟨(some 4), .mov (.tmp 20), none⟩, ⟨(some 5), .mov (.val (.bool true)), none⟩]))
 .ret) .skip)))
 (.keep [0, 1, 6] [] (.reg [⟨(some 11), .mov (.tmp 6), none⟩, ⟨(some 12), .bin .add (.tmp 11) (.val (.int .i64 1)), none⟩, ⟨(some 6), .mov (.tmp 12), none⟩]))))
def a21_L1 : AC := .loop a21_B1
theorem a21_L1_step (call : Caller) (again : AC → St → Option (Ex × St)) (s : St) : codeEv call again a21_L1 s = match codeEv call again a21_B1 s with | some (.norm, s1) => again a21_L1 s1 | r => r := rfl
def a21 : AFn := { n := 21, np := 2, res := [.tmp 4, .tmp 5], body :=
 (.seq (.keep [0, 1] [] (.reg [⟨(some 4), .mov (.val (.int .i64 0)), none⟩, ⟨(some 5), .mov (.val (.bool false)), none⟩]))
 (.seq (.seq (.keep [0, 1] [] (.reg [⟨(some 6), .mov (.val (.int .i64 0)), none⟩]))
 (.block 0 a21_L1))
 (.seq (.keep [] [] (.reg [⟨(some 4), .mov (.val (.int .i64 0)), none⟩, ⟨(some 5), .mov (.val (.bool false)), none⟩]))
 .ret))) }
def h22 : Hints := ⟨[], [(0, [0], []), (1, [0], []), (2, [0, 4], []), (3, [0, 4, 5], []), (5, [0, 4, 5], []), (6, [], []), (7, [0, 4, 5], []), (4, [0, 4, 5], []), (8, [4], [])]⟩
def a22_B1 : AC := (.seq (.seq (.keep [0, 4, 5] [] (.reg [⟨(some 6), .mov (.tmp 5), none⟩, ⟨(some 7), .mov (.tmp 0), none⟩, ⟨(some 8), .lenL (.tmp 7), none⟩, ⟨(some 9), .bin .lss (.tmp 6) (.tmp 8), none⟩]))
 (.cond (.tmp 9) .skip (.exit 0)))
 (.seq (.block 1 (.seq (.seq (.keep [0, 4, 5] [] (.reg [⟨(some 12), .mov (.tmp 0), none⟩, ⟨(some 13), .mov (.tmp 5), none⟩, ⟨(some 14), .iaddrL 1 (.tmp 12) (.tmp 13), none⟩, ⟨(some 15), .load none (.tmp 14), none⟩, ⟨(some 16), .bin .lss (.tmp 15) (.val (.int .i64 0)), none⟩, ⟨(some 17), .mov (.tmp 16), none⟩, ⟨(some 18), .mov (.tmp 0), (some (17, false))⟩, ⟨(some 19), .mov (.tmp 5), (some (17, false))⟩, ⟨(some 20), .iaddrL 1 (.tmp 18) (.tmp 19), (some (17, false))⟩, ⟨(some 21), .load none (.tmp 20), (some (17, false))⟩, ⟨(some 22), .bin .gtr (.tmp 21) (.val (.int .i64 31)), (some (17, false))⟩, ⟨(some 23), .pick (.tmp 17) (.val (.bool true)) (.tmp 22), none⟩]))
 (.cond (.tmp 23) (.seq (.keep [] [] (.reg [⟨(some 2), .mov (.val (.int .u32 0)), none⟩, ⟨(some 3), .mov (.val (.int .i64 2)), none⟩]))
 .ret) .skip))
 (.keep [0, 4, 5] [] (.reg [⟨(some 24), .mov (.tmp 4), none⟩, ⟨(some 25), .mov (.tmp 0), none⟩, ⟨(some 26), .mov (.tmp 5), none⟩, ⟨(some 27), .iaddrL 1 (.tmp 25) (.tmp 26), none⟩, ⟨(some 28), .load none (.tmp 27), none⟩, ⟨(some 29), .conv .u64 (.tmp 28), none⟩, ⟨(some 30), .bin .shl (.val (.int .u32 1)) (.tmp 29), none⟩, ⟨(some 31), .bin .or (.tmp 24) (.tmp 30), none⟩, ⟨(some 4), .mov (.tmp 31), none⟩]))))
 (.keep [0, 4, 5] [] (.reg [⟨(some 10), .mov (.tmp 5), none⟩, ⟨(some 11), .bin .add (.tmp 10) (.val (.int .i64 1)), none⟩, ⟨(some 5), .mov (.tmp 11), none⟩]))))
def a22_L1 : AC := .loop a22_B1
theorem a22_L1_step (call : Caller) (again : AC → St → Option (Ex × St)) (s : St) : codeEv call again a22_L1 s = match codeEv call again a22_B1 s with | some (.norm, s1) => again a22_L1 s1 | r => r := rfl
def a22 : AFn := { n := 33, np := 1, res := [.tmp 2, .tmp 3], body :=
 (.seq (.keep [0] [] (.reg [⟨(some 2), .mov (.val (.int .u32 0)), none⟩, ⟨(some 3), .mov (.val (.int .i64 0)), none⟩]))
 (.seq (.keep [0] [] (.reg [⟨(some 4), .mov (.val (.int .u32 0)), none⟩]))
 (.seq (.seq (.keep [0, 4] [] (.reg [⟨(some 5), .mov (.val (.int .i64 0)), none⟩]))
 (.block 0 a22_L1))
 (.seq (.keep [4] [] (.reg [⟨(some 32), .mov (.tmp 4), none⟩, ⟨(some 2), .mov (.tmp 32), none⟩, ⟨(some 3), .mov (.val (.int .i64 0)), none⟩]))
 .ret)))) }
def h23 : Hints := ⟨[], [(0, [0], []), (1, [0], []), (2, [], []), (3, [0], []), (4, [0, 3], []), (6, [0, 3], []), (7, [], []), (8, [0, 3], []), (9, [0, 3, 4], []), (11, [0, 3, 4], []), (12, [], []), (10, [0, 3, 4], []), (5, [0, 3], []), (13, [], [])]⟩
def a23_B1 : AC := (.seq (.seq (.keep [0, 3, 4] [] (.reg [⟨(some 52), .mov (.tmp 4), none⟩, ⟨(some 53), .mov (.tmp 3), none⟩, ⟨(some 54), .bin .lss (.tmp 52) (.tmp 53), none⟩]))
 (.cond (.tmp 54) .skip (.exit 2)))
 (.seq (.block 3 (.seq (.keep [0, 3, 4] [] (.dreg [(false, ⟨(some 57), .mov (.tmp 0), none⟩, false), (false, ⟨(some 58), .mov (.tmp 4), none⟩, false), (false, ⟨(some 59), .iaddrL 3 (.tmp 57) (.tmp 58), none⟩, false), (false, ⟨(some 60), .faddr 0 (.tmp 59), none⟩, false), (false, ⟨(some 61), .load none (.tmp 60), none⟩, false), (false, ⟨(some 62), .mov (.tmp 0), none⟩, false), (false, ⟨(some 63), .mov (.tmp 3), none⟩, false), (false, ⟨(some 64), .iaddrL 3 (.tmp 62) (.tmp 63), none⟩, false), (false, ⟨(some 65), .faddr 0 (.tmp 64), none⟩, false), (false, ⟨(some 66), .load none (.tmp 65), none⟩, false), (false, ⟨(some 67), .bin .eql (.tmp 61) (.tmp 66), none⟩, false)]))
 (.cond (.tmp 67) (.seq (.keep [] [] (.reg [⟨(some 2), .mov (.val (.int .i64 2)), none⟩]))
 .ret) .skip)))
 (.keep [0, 3, 4] [] (.reg [⟨(some 55), .mov (.tmp 4), none⟩, ⟨(some 56), .bin .add (.tmp 55) (.val (.int .i64 1)), none⟩, ⟨(some 4), .mov (.tmp 56), none⟩]))))
def a23_L1 : AC := .loop a23_B1
theorem a23_L1_step (call : Caller) (again : AC → St → Option (Ex × St)) (s : St) : codeEv call again a23_L1 s = match codeEv call again a23_B1 s with | some (.norm, s1) => again a23_L1 s1 | r => r := rfl
def a23_B2 : AC := (.seq (.seq (.keep [0, 3] [] (.reg [⟨(some 8), .mov (.tmp 3), none⟩, ⟨(some 9), .mov (.tmp 0), none⟩, ⟨(some 10), .lenL (.tmp 9), none⟩, ⟨(some 11), .bin .lss (.tmp 8) (.tmp 10), none⟩]))
 (.cond (.tmp 11) .skip (.exit 0)))
 (.seq (.block 1 (.seq (.seq (.keep [0, 3] [] (.reg [⟨(some 14), .mov (.tmp 0), none⟩, ⟨(some 15), .mov (.tmp 3), none⟩, ⟨(some 16), .iaddrL 3 (.tmp 14) (.tmp 15), none⟩, ⟨(some 17), .faddr 0 (.tmp 16), none⟩, ⟨(some 18), .load none (.tmp 17), none⟩, ⟨(some 19), .bin .lss (.tmp 18) (.val (.int .i64 0)), none⟩, ⟨(some 20), .mov (.tmp 19), none⟩, ⟨(some 21), .mov (.tmp 0), (some (20, false))⟩, ⟨(some 22), .mov (.tmp 3), (some (20, false))⟩, ⟨(some 23), .iaddrL 3 (.tmp 21) (.tmp 22), (some (20, false))⟩, ⟨(some 24), .faddr 0 (.tmp 23), (some (20, false))⟩, ⟨(some 25), .load none (.tmp 24), (some (20, false))⟩, ⟨(some 26), .bin .gtr (.tmp 25) (.val (.int .i64 31)), (some (20, false))⟩, ⟨(some 27), .pick (.tmp 20) (.val (.bool true)) (.tmp 26), none⟩, ⟨(some 28), .mov (.tmp 27), none⟩, ⟨(some 29), .mov (.tmp 0), (some (28, false))⟩, ⟨(some 30), .mov (.tmp 3), (some (28, false))⟩, ⟨(some 31), .iaddrL 3 (.tmp 29) (.tmp 30), (some (28, false))⟩, ⟨(some 32), .faddr 1 (.tmp 31), (some (28, false))⟩, ⟨(some 33), .load none (.tmp 32), (some (28, false))⟩, ⟨(some 34), .bin .lss (.tmp 33) (.val (.int .i64 1)), (some (28, false))⟩, ⟨(some 35), .pick (.tmp 28) (.val (.bool true)) (.tmp 34), none⟩, ⟨(some 36), .mov (.tmp 35), none⟩, ⟨(some 37), .mov (.tmp 0), (some (36, false))⟩, ⟨(some 38), .mov (.tmp 3), (some (36, false))⟩, ⟨(some 39), .iaddrL 3 (.tmp 37) (.tmp 38), (some (36, false))⟩, ⟨(some 40), .faddr 1 (.tmp 39), (some (36, false))⟩, ⟨(some 41), .load none (.tmp 40), (some (36, false))⟩, ⟨(some 42), .bin .gtr (.tmp 41) (.val (.int .i64 15)), (some (36, false))⟩, ⟨(some 43), .pick (.tmp 36) (.val (.bool true)) (.tmp 42), none⟩, ⟨(some 44), .mov (.tmp 43), none⟩, ⟨(some 45), .mov (.tmp 0), (some (44, false))⟩, ⟨(some 46), .mov (.tmp 3), (some (44, false))⟩, ⟨(some 47), .iaddrL 3 (.tmp 45) (.tmp 46), (some (44, false))⟩, ⟨(some 48), .faddr 2 (.tmp 47), (some (44, false))⟩, ⟨(some 49), .load none (.tmp 48), (some (44, false))⟩, ⟨(some 50), .bin .lss (.tmp 49) (.val (.int .i64 0)), (some (44, false))⟩, ⟨(some 51), .pick (.tmp 44) (.val (.bool true)) (.tmp 50), none⟩]))
 (.cond (.tmp 51) (.seq (.keep [] [] (.reg [⟨(some 2), .mov (.val (.int .i64 2)), none⟩]))
 .ret) .skip))
 (.seq (.keep [0, 3] [] (.reg [⟨(some 4), .mov (.val (.int .i64 0)), none⟩]))
 (.block 2 a23_L1))))
 (.keep [0, 3] [] (.reg [⟨(some 12), .mov (.tmp 3), none⟩, ⟨(some 13), .bin .add (.tmp 12) (.val (.int .i64 1)), none⟩, ⟨(some 3), .mov (.tmp 13), none⟩]))))
def a23_L2 : AC := .loop a23_B2
theorem a23_L2_step (call : Caller) (again : AC → St → Option (Ex × St)) (s : St) : codeEv call again a23_L2 s = match codeEv call again a23_B2 s with | some (.norm, s1) => again a23_L2 s1 | r => r := rfl
def a23 : AFn := { n := 68, np := 1, res := [.tmp 2], body :=
 (.seq (.keep [0] [] (.reg [⟨(some 2), .mov (.val (.int .i64 0)), none⟩]))
 (.seq (.seq (.keep [0] [] (.reg [⟨(some 5), .mov (.tmp 0), none⟩, ⟨(some 6), .lenL (.tmp 5), none⟩, ⟨(some 7), .bin .gtr (.tmp 6) (.val (.int .i64 32)), none⟩]))
 (.cond (.tmp 7) (.seq (.keep [] [] (.reg [⟨(some 2), .mov (.val (.int .i64 3)), none⟩]))
 .ret) .skip))
 (.seq (.seq (.keep [0] [] (.reg [⟨(some 3), .mov (.val (.int .i64 0)), none⟩]))
 (.block 0 a23_L2))
 (.seq (.keep [] [] (.reg [⟨(some 2), .mov (.val (.int .i64 0)), none⟩]))
 .ret)))) }
def h24 : Hints := ⟨[], [(0, [0, 1], []), (1, [0, 1], []), (2, [], []), (3, [0, 1], []), (4, [0, 1, 5], []), (6, [0, 1, 5], []), (7, [], []), (5, [0, 1, 5], []), (8, [], [])]⟩
def a24_B1 : AC := (.seq (.seq (.keep [0, 1, 5] [] (.reg [⟨(some 11), .mov (.tmp 5), none⟩, ⟨(some 12), .mov (.tmp 0), none⟩, ⟨(some 13), .lenL (.tmp 12), none⟩, ⟨(some 14), .bin .lss (.tmp 11) (.tmp 13), none⟩]))
 (.cond (.tmp 14) .skip (.exit 0)))
 (.seq (.block 1 (.seq (.keep [0, 1, 5] [] (.dreg [(false, ⟨(some 17), .mov (.tmp 0), none⟩, false), (false, ⟨(some 18), .mov (.tmp 5), none⟩, false), (false, ⟨(some 19), .iaddrL 1 (.tmp 17) (.tmp 18), none⟩, false), (false, ⟨(some 20), .load none (.tmp 19), none⟩, false), (false, ⟨(some 21), .mov (.tmp 1), none⟩, false), (false, ⟨(some 22), .mov (.tmp 5), none⟩, false), (false, ⟨(some 23), .iaddrL 1 (.tmp 21) (.tmp 22), none⟩, false), (false, ⟨(some 24), .load none (.tmp 23), none⟩, false), (false, ⟨(some 25), .bin .neq (.tmp 20) (.tmp 24), none⟩, false)]))
 (.cond (.tmp 25) (.seq (.keep [] [] (.reg [⟨(some 4), .mov (.val (.bool false)), none⟩]))
 .ret) .skip)))
 (.keep [0, 1, 5] [] (.reg [⟨(some 15), .mov (.tmp 5), none⟩, ⟨(some 16), .bin .add (.tmp 15) (.val (.int .i64 1)), none⟩, ⟨(some 5), .mov (.tmp 16), none⟩]))))
def a24_L1 : AC := .loop a24_B1
theorem a24_L1_step (call : Caller) (again : AC → St → Option (Ex × St)) (s : St) : codeEv call again a24_L1 s = match codeEv call again a24_B1 s with | some (.norm, s1) => again a24_L1 s1 | r => r := rfl
def a24 : AFn := { n := 26, np := 2, res := [.tmp 4], body :=
 (.seq (.keep [0, 1] [] (.reg [⟨(some 4), .mov (.val (.bool false)), none⟩]))
 (.seq (.seq (.keep [0, 1] [] (.reg [⟨(some 6), .mov (.tmp 0), none⟩, ⟨(some 7), .lenL (.tmp 6), none⟩, ⟨(some 8), .mov (.tmp 1), none⟩, ⟨(some 9), .lenL (.tmp 8), none⟩, ⟨(some 10), .bin .neq (.tmp 7) (.tmp 9), none⟩]))
 (.cond (.tmp 10) (.seq (.keep [] [] (.reg [⟨(some 4), .mov (.val (.bool false)), none⟩]))
 .ret) .skip))
 (.seq (.seq (.keep [0, 1] [] (.reg [⟨(some 5), .mov (.val (.int .i64 0)), none⟩]))
 (.block 0 a24_L1))
 (.seq (.keep [] [] (.reg [⟨(some 4), .mov (.val (.bool true)), none⟩]))
 .ret)))) }
def h25 : Hints := ⟨[], [(0, [0], []), (1, [0], []), (2, [0, 3], []), (3, [0, 3, 4], []), (5, [0, 3, 4], []), (6, [0, 3, 4], []), (4, [0, 3, 4], []), (7, [3], [])]⟩
def a25_B1 : AC := (.seq (.seq (.keep [0, 3, 4] [] (.reg [⟨(some 5), .mov (.tmp 4), none⟩, ⟨(some 6), .bin .lss (.tmp 5) (.val (.int .i64 32)), none⟩]))
 (.cond (.tmp 6) .skip (.exit 0)))
 (.seq (.block 1 (.seq (.keep [0, 3, 4] [] (.reg [⟨(some 9), .mov (.tmp 0), none⟩, ⟨(some 10), .mov (.tmp 4), none⟩, ⟨(some 11), .call 26 [(.tmp 9), (.tmp 10)], none⟩]))
 (.cond (.tmp 11) (.keep [0, 3, 4] [] (.reg [⟨(some 12), .mov (.tmp 3), none⟩, ⟨(some 13), .mov (.tmp 4), none⟩, ⟨(some 14), .mkslc 1 1 [(.int .i64 0)] [(0, (.tmp 13))], none⟩, ⟨(some 15), .app 1 8 (.tmp 12) (.tmp 14), none⟩, ⟨(some 3), .mov (.tmp 15), none⟩])) .skip)))
 (.keep [0, 3, 4] [] (.reg [⟨(some 7), .mov (.tmp 4), none⟩, ⟨(some 8), .bin .add (.tmp 7) (.val (.int .i64 1)), none⟩, ⟨(some 4), .mov (.tmp 8), none⟩]))))
def a25_L1 : AC := .loop a25_B1
theorem a25_L1_step (call : Caller) (again : AC → St → Option (Ex × St)) (s : St) : codeEv call again a25_L1 s = match codeEv call again a25_B1 s with | some (.norm, s1) => again a25_L1 s1 | r => r := rfl
def a25 : AFn := { n := 17, np := 1, res := [.tmp 2], body :=
 (.seq (.keep [0] [] (.reg [⟨(some 2), .mov (.val .nils), none⟩]))
 (.seq (.keep [0] [] (.reg [⟨(some 3), .mov (.val .nils), none⟩]))
 (.seq (.seq (.keep [0, 3] [] (.reg [⟨(some 4), .mov (.val (.int .i64 0)), none⟩]))
 (.block 0 a25_L1))
 (.seq (.keep [3] [] (.reg [⟨(some 16), .mov (.tmp 3), none⟩, ⟨(some 2), .mov (.tmp 16), none⟩]))
 .ret)))) }
def h26 : Hints := ⟨[], [(0, [0, 1], []), (1, [0, 1], [])]⟩
def a26 : AFn := { n := 19, np := 2, res := [.tmp 4], body :=
 (.seq (.keep [0, 1] [] (.reg [⟨(some 4), .mov (.val (.bool false)), none⟩]))
 (.seq (.keep [0, 1] [] (.reg [⟨(some 5), .mov (.tmp 1), none⟩, ⟨(some 6), .bin .geq (.tmp 5) (.val (.int .i64 0)), none⟩, ⟨(some 7), .mov (.tmp 6), none⟩, ⟨(some 8), .mov (.tmp 1), (some (7, true))⟩, ⟨(some 9), .bin .lss (.tmp 8) (.val (.int .i64 32)), (some (7, true))⟩, ⟨(some 10), .pick (.tmp 7) (.tmp 9) (.val (.bool false)), none⟩, ⟨(some 11), .mov (.tmp 10), none⟩, ⟨(some 12), .mov (.tmp 0), (some (11, true))⟩, ⟨(some 13), .mov (.tmp 1), (some (11, true))⟩, ⟨(some 14), .conv .u64 (.tmp 13), (some (11, true))⟩, ⟨(some 15), .bin .shr (.tmp 12) (.tmp 14), (some (11, true))⟩, ⟨(some 16), .bin .rem (.tmp 15) (.val (.int .u32 2)), (some (11, true))⟩, ⟨(some 17), .bin .eql (.tmp 16) (.val (.int .u32 1)), (some (11, true))⟩, ⟨(some 18), .pick (.tmp 11) (.tmp 17) (.val (.bool false)), none⟩, ⟨(some 4), .mov (.tmp 18), none⟩]))
 .ret)) }
def h47 : Hints := ⟨[5, 6], [(0, [0, 1, 2], []), (1, [0, 1, 2], []), (2, [], []), (3, [0, 1, 2], []), (4, [5, 6], [5, 6])]⟩
def a47 : AFn := { n := 36, np := 3, res := [.tmp 4], body :=
 (.seq (.keep [0, 1, 2] [] (.reg [⟨(some 4), .mov (.val (.bool false)), none⟩]))
 (.seq (.seq (.keep [0, 1, 2] [] (.reg [⟨(some 7), .load none (.tmp 1), none⟩, ⟨(some 8), .bin .lss (.tmp 7) (.val (.int .i64 0)), none⟩]))
 (.cond (.tmp 8) (.seq (.keep [] [] (.reg [⟨(some 4), .mov (.val (.bool true)), none⟩]))
 .ret) .skip))
 (.seq (.keep [0, 1, 2] [] (.dreg [(false, ⟨(some 9), .load none (.tmp 2), none⟩, false), (false, ⟨(some 10), .mov (.tmp 0), none⟩, false), (false, ⟨(some 11), .iaddrL 3 (.tmp 9) (.tmp 10), none⟩, false), (false, ⟨(some 12), .load (some 3) (.tmp 11), none⟩, false), (true, ⟨(some 13), .load none (.tmp 2), none⟩, false), (true, ⟨(some 14), .load none (.tmp 1), none⟩, false), (false, ⟨(some 15), .iaddrL 3 (.tmp 13) (.tmp 14), none⟩, false), (true, ⟨(some 16), .load (some 3) (.tmp 15), none⟩, false), (false, ⟨(some 5), .alloc (some 5) [(.int .i64 0), (.int .i64 0), (.int .i64 0)], none⟩, true), (false, ⟨(some 6), .alloc (some 6) [(.int .i64 0), (.int .i64 0), (.int .i64 0)], none⟩, true), (true, ⟨none, .store 3 (.tmp 5) (.tmp 12), none⟩, false), (false, ⟨none, .store 3 (.tmp 6) (.tmp 16), none⟩, false)]))
 (.seq (.keep [5, 6] [5, 6] (.reg [⟨(some 17), .faddr 1 (.tmp 5), none⟩, ⟨(some 18), .load none (.tmp 17), none⟩, ⟨(some 19), .faddr 1 (.tmp 6), none⟩, ⟨(some 20), .load none (.tmp 19), none⟩, ⟨(some 21), .bin .gtr (.tmp 18) (.tmp 20), none⟩, ⟨(some 22), .mov (.tmp 21), none⟩, ⟨(some 23), .faddr 1 (.tmp 5), (some (22, false))⟩, ⟨(some 24), .load none (.tmp 23), (some (22, false))⟩, ⟨(some 25), .faddr 1 (.tmp 6), (some (22, false))⟩, ⟨(some 26), .load none (.tmp 25), (some (22, false))⟩, ⟨(some 27), .bin .eql (.tmp 24) (.tmp 26), (some (22, false))⟩, ⟨(some 28), .mov (.tmp 27), (some (22, false))⟩, ⟨(some 29), .faddr 0 (.tmp 5), (some (28, true))⟩, ⟨(some 30), .load none (.tmp 29), (some (28, true))⟩, ⟨(some 31), .faddr 0 (.tmp 6), (some (28, true))⟩, ⟨(some 32), .load none (.tmp 31), (some (28, true))⟩, ⟨(some 33), .bin .lss (.tmp 30) (.tmp 32), (some (28, true))⟩, ⟨(some 34), .pick (.tmp 28) (.tmp 33) (.val (.bool false)), (some (22, false))⟩, ⟨(some 35), .pick (.tmp 22) (.val (.bool true)) (.tmp 34), none⟩, ⟨(some 4), .mov (.tmp 35), none⟩]))
 .ret)))) }
def h48 : Hints := ⟨[], [(0, [0], []), (1, [0], []), (2, [], []), (3, [0], [])]⟩
def a48 : AFn := { n := 14, np := 1, res := [.tmp 2], body :=
 (.seq (.keep [0] [] (.reg [⟨(some 2), .mov (.val (.int .i64 0)), none⟩]))
 (.seq (.seq (.keep [0] [] (.reg [⟨(some 3), .mov (.tmp 0), none⟩, ⟨(some 4), .bin .eql (.tmp 3) (.val (.int .u32 0)), none⟩]))
 (.cond (.tmp 4) (.seq (.keep [] [] (.reg [⟨(some 2), .mov (.val (.int .i64 32)), none⟩]))
 .ret) .skip))
 (.seq (.keep [0] [] (.reg [⟨(some 5), .mov (.tmp 0), none⟩, ⟨(some 6), .mov (.tmp 0), none⟩, ⟨(some 7), .un .neg (.tmp 6), none⟩, ⟨(some 8), .bin .and (.tmp 5) (.tmp 7), none⟩, ⟨(some 9), .bin .mul (.tmp 8) (.val (.int .u32 125613361)), none⟩, ⟨(some 10), .bin .shr (.tmp 9) (.val (.int .u64 27)), none⟩, ⟨(some 11), .iaddrA 32 1 (.val (.ptr 0 0)) (.tmp 10), none⟩, ⟨(some 12), .load none (.tmp 11), none⟩, ⟨(some 13), .conv .i64 (.tmp 12), none⟩, ⟨(some 2), .mov (.tmp 13), none⟩]))
 .ret))) }
def h49 : Hints := ⟨[], [(0, [0], []), (1, [0], [])]⟩
def a49 : AFn := { n := 21, np := 1, res := [.tmp 2], body :=
 (.seq (.keep [0] [] (.reg [⟨(some 2), .mov (.val (.int .i64 0)), none⟩]))
 (.seq (.keep [0] [] (.dreg [(false, ⟨(some 3), .mov (.tmp 0), none⟩, false), (false, ⟨(some 4), .bin .shr (.tmp 3) (.val (.int .u64 24)), none⟩, false), (false, ⟨(some 5), .idxS (.val (.str ⟨#[0, 1, 1, 2, 1, 2, 2, 3, 1, 2, 2, 3, 2, 3, 3, 4, 1, 2, 2, 3, 2, 3, 3, 4, 2, 3, 3, 4, 3, 4, 4, 5, 1, 2, 2, 3, 2, 3, 3, 4, 2, 3, 3, 4, 3, 4, 4, 5, 2, 3, 3, 4, 3, 4, 4, 5, 3, 4, 4, 5, 4, 5, 5, 6, 1, 2, 2, 3, 2, 3, 3, 4, 2, 3, 3, 4, 3, 4, 4, 5, 2, 3, 3, 4, 3, 4, 4, 5, 3, 4, 4, 5, 4, 5, 5, 6, 2, 3, 3, 4, 3, 4, 4, 5, 3, 4, 4, 5, 4, 5, 5, 6, 3, 4, 4, 5, 4, 5, 5, 6, 4, 5, 5, 6, 5, 6, 6, 7, 1, 2, 2, 3, 2, 3, 3, 4, 2, 3, 3, 4, 3, 4, 4, 5, 2, 3, 3, 4, 3, 4, 4, 5, 3, 4, 4, 5, 4, 5, 5, 6, 2, 3, 3, 4, 3, 4, 4, 5, 3, 4, 4, 5, 4, 5, 5, 6, 3, 4, 4, 5, 4, 5, 5, 6, 4, 5, 5, 6, 5, 6, 6, 7, 2, 3, 3, 4, 3, 4, 4, 5, 3, 4, 4, 5, 4, 5, 5, 6, 3, 4, 4, 5, 4, 5, 5, 6, 4, 5, 5, 6, 5, 6, 6, 7, 3, 4, 4, 5, 4, 5, 5, 6, 4, 5, 5, 6, 5, 6, 6, 7, 4, 5, 5, 6, 5, 6, 6, 7, 5, 6, 6, 7, 6, 7, 7, 8]⟩)) (.tmp 4), none⟩, false), (false, ⟨(some 6), .mov (.tmp 0), none⟩, false), (false, ⟨(some 7), .bin .shr (.tmp 6) (.val (.int .u64 16)), none⟩, false), (false, ⟨(some 8), .bin .and (.tmp 7) (.val (.int .u32 255)), none⟩, false), (false, ⟨(some 9), .idxS (.val (.str ⟨#[0, 1, 1, 2, 1, 2, 2, 3, 1, 2, 2, 3, 2, 3, 3, 4, 1, 2, 2, 3, 2, 3, 3, 4, 2, 3, 3, 4, 3, 4, 4, 5, 1, 2, 2, 3, 2, 3, 3, 4, 2, 3, 3, 4, 3, 4, 4, 5, 2, 3, 3, 4, 3, 4, 4, 5, 3, 4, 4, 5, 4, 5, 5, 6, 1, 2, 2, 3, 2, 3, 3, 4, 2, 3, 3, 4, 3, 4, 4, 5, 2, 3, 3, 4, 3, 4, 4, 5, 3, 4, 4, 5, 4, 5, 5, 6, 2, 3, 3, 4, 3, 4, 4, 5, 3, 4, 4, 5, 4, 5, 5, 6, 3, 4, 4, 5, 4, 5, 5, 6, 4, 5, 5, 6, 5, 6, 6, 7, 1, 2, 2, 3, 2, 3, 3, 4, 2, 3, 3, 4, 3, 4, 4, 5, 2, 3, 3, 4, 3, 4, 4, 5, 3, 4, 4, 5, 4, 5, 5, 6, 2, 3, 3, 4, 3, 4, 4, 5, 3, 4, 4, 5, 4, 5, 5, 6, 3, 4, 4, 5, 4, 5, 5, 6, 4, 5, 5, 6, 5, 6, 6, 7, 2, 3, 3, 4, 3, 4, 4, 5, 3, 4, 4, 5, 4, 5, 5, 6, 3, 4, 4, 5, 4, 5, 5, 6, 4, 5, 5, 6, 5, 6, 6, 7, 3, 4, 4, 5, 4, 5, 5, 6, 4, 5, 5, 6, 5, 6, 6, 7, 4, 5, 5, 6, 5, 6, 6, 7, 5, 6, 6, 7, 6, 7, 7, 8]⟩)) (.tmp 8), none⟩, false), (false, ⟨(some 10), .bin .add (.tmp 5) (.tmp 9), none⟩, false), (false, ⟨(some 11), .mov (.tmp 0), none⟩, false), (false, ⟨(some 12), .bin .shr (.tmp 11) (.val (.int .u64 8)), none⟩, false), (false, ⟨(some 13), .bin .and (.tmp 12) (.val (.int .u32 255)), none⟩, false), (false, ⟨(some 14), .idxS (.val (.str ⟨#[0, 1, 1, 2, 1, 2, 2, 3, 1, 2, 2, 3, 2, 3, 3, 4, 1, 2, 2, 3, 2, 3, 3, 4, 2, 3, 3, 4, 3, 4, 4, 5, 1, 2, 2, 3, 2, 3, 3, 4, 2, 3, 3, 4, 3, 4, 4, 5, 2, 3, 3, 4, 3, 4, 4, 5, 3, 4, 4, 5, 4, 5, 5, 6, 1, 2, 2, 3, 2, 3, 3, 4, 2, 3, 3, 4, 3, 4, 4, 5, 2, 3, 3, 4, 3, 4, 4, 5, 3, 4, 4, 5, 4, 5, 5, 6, 2, 3, 3, 4, 3, 4, 4, 5, 3, 4, 4, 5, 4, 5, 5, 6, 3, 4, 4, 5, 4, 5, 5, 6, 4, 5, 5, 6, 5, 6, 6, 7, 1, 2, 2, 3, 2, 3, 3, 4, 2, 3, 3, 4, 3, 4, 4, 5, 2, 3, 3, 4, 3, 4, 4, 5, 3, 4, 4, 5, 4, 5, 5, 6, 2, 3, 3, 4, 3, 4, 4, 5, 3, 4, 4, 5, 4, 5, 5, 6, 3, 4, 4, 5, 4, 5, 5, 6, 4, 5, 5, 6, 5, 6, 6, 7, 2, 3, 3, 4, 3, 4, 4, 5, 3, 4, 4, 5, 4, 5, 5, 6, 3, 4, 4, 5, 4, 5, 5, 6, 4, 5, 5, 6, 5, 6, 6, 7, 3, 4, 4, 5, 4, 5, 5, 6, 4, 5, 5, 6, 5, 6, 6, 7, 4, 5, 5, 6, 5, 6, 6, 7, 5, 6, 6, 7, 6, 7, 7, 8]⟩)) (.tmp 13), none⟩, false), (false, ⟨(some 15), .bin .add (.tmp 10) (.tmp 14), none⟩, false), (false, ⟨(some 16), .mov (.tmp 0), none⟩, false), (false, ⟨(some 17), .bin .and (.tmp 16) (.val (.int .u32 255)), none⟩, false), (false, ⟨(some 18), .idxS (.val (.str ⟨#[0, 1, 1, 2, 1, 2, 2, 3, 1, 2, 2, 3, 2, 3, 3, 4, 1, 2, 2, 3, 2, 3, 3, 4, 2, 3, 3, 4, 3, 4, 4, 5, 1, 2, 2, 3, 2, 3, 3, 4, 2, 3, 3, 4, 3, 4, 4, 5, 2, 3, 3, 4, 3, 4, 4, 5, 3, 4, 4, 5, 4, 5, 5, 6, 1, 2, 2, 3, 2, 3, 3, 4, 2, 3, 3, 4, 3, 4, 4, 5, 2, 3, 3, 4, 3, 4, 4, 5, 3, 4, 4, 5, 4, 5, 5, 6, 2, 3, 3, 4, 3, 4, 4, 5, 3, 4, 4, 5, 4, 5, 5, 6, 3, 4, 4, 5, 4, 5, 5, 6, 4, 5, 5, 6, 5, 6, 6, 7, 1, 2, 2, 3, 2, 3, 3, 4, 2, 3, 3, 4, 3, 4, 4, 5, 2, 3, 3, 4, 3, 4, 4, 5, 3, 4, 4, 5, 4, 5, 5, 6, 2, 3, 3, 4, 3, 4, 4, 5, 3, 4, 4, 5, 4, 5, 5, 6, 3, 4, 4, 5, 4, 5, 5, 6, 4, 5, 5, 6, 5, 6, 6, 7, 2, 3, 3, 4, 3, 4, 4, 5, 3, 4, 4, 5, 4, 5, 5, 6, 3, 4, 4, 5, 4, 5, 5, 6, 4, 5, 5, 6, 5, 6, 6, 7, 3, 4, 4, 5, 4, 5, 5, 6, 4, 5, 5, 6, 5, 6, 6, 7, 4, 5, 5, 6, 5, 6, 6, 7, 5, 6, 6, 7, 6, 7, 7, 8]⟩)) (.tmp 17), none⟩, false), (false, ⟨(some 19), .bin .add (.tmp 15) (.tmp 18), none⟩, false), (false, ⟨(some 20), .conv .i64 (.tmp 19), none⟩, false), (false, ⟨(some 2), .mov (.tmp 20), none⟩, false)]))
 .ret)) }
theorem t3 : trFn Tryd.prog h3 Tryd.f3 = some a3 := by kernel_rfl
theorem t4 : trFn Tryd.prog h4 Tryd.f4 = some a4 := by kernel_rfl
theorem t5 : trFn Tryd.prog h5 Tryd.f5 = some a5 := by kernel_rfl
theorem t7 : trFn Tryd.prog h7 Tryd.f7 = some a7 := by kernel_rfl
theorem t11 : trFn Tryd.prog h11 Tryd.f11 = some a11 := by kernel_rfl
theorem t12 : trFn Tryd.prog h12 Tryd.f12 = some a12 := by kernel_rfl
theorem t13 : trFn Tryd.prog h13 Tryd.f13 = some a13 := by kernel_rfl
theorem t14 : trFn Tryd.prog h14 Tryd.f14 = some a14 := by kernel_rfl
theorem t15 : trFn Tryd.prog h15 Tryd.f15 = some a15 := by kernel_rfl
theorem t16 : trFn Tryd.prog h16 Tryd.f16 = some a16 := by kernel_rfl
theorem t17 : trFn Tryd.prog h17 Tryd.f17 = some a17 := by kernel_rfl
theorem t18 : trFn Tryd.prog h18 Tryd.f18 = some a18 := by kernel_rfl
theorem t19 : trFn Tryd.prog h19 Tryd.f19 = some a19 := by kernel_rfl
theorem t20 : trFn Tryd.prog h20 Tryd.f20 = some a20 := by kernel_rfl
theorem t21 : trFn Tryd.prog h21 Tryd.f21 = some a21 := by kernel_rfl
theorem t22 : trFn Tryd.prog h22 Tryd.f22 = some a22 := by kernel_rfl
theorem t23 : trFn Tryd.prog h23 Tryd.f23 = some a23 := by kernel_rfl
theorem t24 : trFn Tryd.prog h24 Tryd.f24 = some a24 := by kernel_rfl
theorem t25 : trFn Tryd.prog h25 Tryd.f25 = some a25 := by kernel_rfl
theorem t26 : trFn Tryd.prog h26 Tryd.f26 = some a26 := by kernel_rfl
theorem t47 : trFn Tryd.prog h47 Tryd.f47 = some a47 := by kernel_rfl
theorem t48 : trFn Tryd.prog h48 Tryd.f48 = some a48 := by kernel_rfl
theorem t49 : trFn Tryd.prog h49 Tryd.f49 = some a49 := by kernel_rfl
def A : Nat → Option AFn
  | 3 => some a3
  | 4 => some a4
  | 5 => some a5
  | 7 => some a7
  | 11 => some a11
  | 12 => some a12
  | 13 => some a13
  | 14 => some a14
  | 15 => some a15
  | 16 => some a16
  | 17 => some a17
  | 18 => some a18
  | 19 => some a19
  | 20 => some a20
  | 21 => some a21
  | 22 => some a22
  | 23 => some a23
  | 24 => some a24
  | 25 => some a25
  | 26 => some a26
  | 47 => some a47
  | 48 => some a48
  | 49 => some a49
  | _ => none
theorem A_ok : AOk Tryd.prog A := by
  intro f af h
  unfold A at h
  split at h
  · cases h; exact ⟨h3, Tryd.f3, Tryd.func3, t3⟩
  · cases h; exact ⟨h4, Tryd.f4, Tryd.func4, t4⟩
  · cases h; exact ⟨h5, Tryd.f5, Tryd.func5, t5⟩
  · cases h; exact ⟨h7, Tryd.f7, Tryd.func7, t7⟩
  · cases h; exact ⟨h11, Tryd.f11, Tryd.func11, t11⟩
  · cases h; exact ⟨h12, Tryd.f12, Tryd.func12, t12⟩
  · cases h; exact ⟨h13, Tryd.f13, Tryd.func13, t13⟩
  · cases h; exact ⟨h14, Tryd.f14, Tryd.func14, t14⟩
  · cases h; exact ⟨h15, Tryd.f15, Tryd.func15, t15⟩
  · cases h; exact ⟨h16, Tryd.f16, Tryd.func16, t16⟩
  · cases h; exact ⟨h17, Tryd.f17, Tryd.func17, t17⟩
  · cases h; exact ⟨h18, Tryd.f18, Tryd.func18, t18⟩
  · cases h; exact ⟨h19, Tryd.f19, Tryd.func19, t19⟩
  · cases h; exact ⟨h20, Tryd.f20, Tryd.func20, t20⟩
  · cases h; exact ⟨h21, Tryd.f21, Tryd.func21, t21⟩
  · cases h; exact ⟨h22, Tryd.f22, Tryd.func22, t22⟩
  · cases h; exact ⟨h23, Tryd.f23, Tryd.func23, t23⟩
  · cases h; exact ⟨h24, Tryd.f24, Tryd.func24, t24⟩
  · cases h; exact ⟨h25, Tryd.f25, Tryd.func25, t25⟩
  · cases h; exact ⟨h26, Tryd.f26, Tryd.func26, t26⟩
  · cases h; exact ⟨h47, Tryd.f47, Tryd.func47, t47⟩
  · cases h; exact ⟨h48, Tryd.f48, Tryd.func48, t48⟩
  · cases h; exact ⟨h49, Tryd.f49, Tryd.func49, t49⟩
  · cases h
theorem run_3 (n : Nat) (args : List AV) (m : Mem) : run A (n + 1) 3 args m = fnEv (run A n) (ev A n).2 a3 args m := run_of rfl n args m
theorem run_4 (n : Nat) (args : List AV) (m : Mem) : run A (n + 1) 4 args m = fnEv (run A n) (ev A n).2 a4 args m := run_of rfl n args m
theorem run_5 (n : Nat) (args : List AV) (m : Mem) : run A (n + 1) 5 args m = fnEv (run A n) (ev A n).2 a5 args m := run_of rfl n args m
theorem run_7 (n : Nat) (args : List AV) (m : Mem) : run A (n + 1) 7 args m = fnEv (run A n) (ev A n).2 a7 args m := run_of rfl n args m
theorem run_11 (n : Nat) (args : List AV) (m : Mem) : run A (n + 1) 11 args m = fnEv (run A n) (ev A n).2 a11 args m := run_of rfl n args m
theorem run_12 (n : Nat) (args : List AV) (m : Mem) : run A (n + 1) 12 args m = fnEv (run A n) (ev A n).2 a12 args m := run_of rfl n args m
theorem run_13 (n : Nat) (args : List AV) (m : Mem) : run A (n + 1) 13 args m = fnEv (run A n) (ev A n).2 a13 args m := run_of rfl n args m
theorem run_14 (n : Nat) (args : List AV) (m : Mem) : run A (n + 1) 14 args m = fnEv (run A n) (ev A n).2 a14 args m := run_of rfl n args m
theorem run_15 (n : Nat) (args : List AV) (m : Mem) : run A (n + 1) 15 args m = fnEv (run A n) (ev A n).2 a15 args m := run_of rfl n args m
theorem run_16 (n : Nat) (args : List AV) (m : Mem) : run A (n + 1) 16 args m = fnEv (run A n) (ev A n).2 a16 args m := run_of rfl n args m
theorem run_17 (n : Nat) (args : List AV) (m : Mem) : run A (n + 1) 17 args m = fnEv (run A n) (ev A n).2 a17 args m := run_of rfl n args m
theorem run_18 (n : Nat) (args : List AV) (m : Mem) : run A (n + 1) 18 args m = fnEv (run A n) (ev A n).2 a18 args m := run_of rfl n args m
theorem run_19 (n : Nat) (args : List AV) (m : Mem) : run A (n + 1) 19 args m = fnEv (run A n) (ev A n).2 a19 args m := run_of rfl n args m
theorem run_20 (n : Nat) (args : List AV) (m : Mem) : run A (n + 1) 20 args m = fnEv (run A n) (ev A n).2 a20 args m := run_of rfl n args m
theorem run_21 (n : Nat) (args : List AV) (m : Mem) : run A (n + 1) 21 args m = fnEv (run A n) (ev A n).2 a21 args m := run_of rfl n args m
theorem run_22 (n : Nat) (args : List AV) (m : Mem) : run A (n + 1) 22 args m = fnEv (run A n) (ev A n).2 a22 args m := run_of rfl n args m
theorem run_23 (n : Nat) (args : List AV) (m : Mem) : run A (n + 1) 23 args m = fnEv (run A n) (ev A n).2 a23 args m := run_of rfl n args m
theorem run_24 (n : Nat) (args : List AV) (m : Mem) : run A (n + 1) 24 args m = fnEv (run A n) (ev A n).2 a24 args m := run_of rfl n args m
theorem run_25 (n : Nat) (args : List AV) (m : Mem) : run A (n + 1) 25 args m = fnEv (run A n) (ev A n).2 a25 args m := run_of rfl n args m
theorem run_26 (n : Nat) (args : List AV) (m : Mem) : run A (n + 1) 26 args m = fnEv (run A n) (ev A n).2 a26 args m := run_of rfl n args m
theorem run_47 (n : Nat) (args : List AV) (m : Mem) : run A (n + 1) 47 args m = fnEv (run A n) (ev A n).2 a47 args m := run_of rfl n args m
theorem run_48 (n : Nat) (args : List AV) (m : Mem) : run A (n + 1) 48 args m = fnEv (run A n) (ev A n).2 a48 args m := run_of rfl n args m
theorem run_49 (n : Nat) (args : List AV) (m : Mem) : run A (n + 1) 49 args m = fnEv (run A n) (ev A n).2 a49 args m := run_of rfl n args m
end Go.Proofs.YtenhcejelicjfaaDoor
