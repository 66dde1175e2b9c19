/- The functions of this seat, as the abstract machine has them; each is what its translation out of the program gives. Made by program. -/
import Derived.Test.YtekljfhfjncmjaaDoorProg
import Derived.Test.YtekljfhfjncmjaaDoorAgFast
import Derived.Test.YtekljfhfjncmjaaDoorAgSym


import Derived.Test.YtekljfhfjncmjaaDoorAgShelf
namespace Go.Proofs.YtekljfhfjncmjaaDoor
open AG
noncomputable section
set_option maxRecDepth 100000
set_option maxHeartbeats 4000000
def h3 : Hints := ⟨[2, 3], [(0, [0, 1], []), (1, [2, 3], [2, 3]), (2, [], []), (3, [2, 3], [2, 3]), (4, [2], [2]), (5, [2, 3], [2, 3])], []⟩
def a3_R1 : AC := .keep [2, 3] [2, 3] (.reg [⟨(some 7), .load (some 4) (.tmp 2), none⟩, ⟨(some 8), .call 12 [(.tmp 7)], none⟩, ⟨(some 9), .bin .neq (.tmp 8) (.val (.int .i64 0)), none⟩, ⟨(some 10), .mov (.tmp 9), none⟩, ⟨(some 11), .load (some 4) (.tmp 3), (some (10, false))⟩, ⟨(some 12), .call 12 [(.tmp 11)], (some (10, false))⟩, ⟨(some 13), .bin .neq (.tmp 12) (.val (.int .i64 0)), (some (10, false))⟩, ⟨(some 14), .pick (.tmp 10) (.val (.bool true)) (.tmp 13), none⟩])
def a3_R2 : AC := .keep [2] [2] (.reg [⟨(some 15), .load (some 4) (.tmp 2), none⟩, ⟨(some 16), .call 12 [(.tmp 15)], none⟩, ⟨(some 17), .bin .eql (.tmp 16) (.val (.int .i64 0)), none⟩, ⟨(some 18), .mov (.tmp 17), none⟩, ⟨(some 19), .load (some 4) (.tmp 2), (some (18, false))⟩, ⟨(some 20), .call 13 [(.tmp 19)], (some (18, false))⟩, ⟨(some 21), .bin .eql (.tmp 20) (.val (.str ⟨#[]⟩)), (some (18, false))⟩, ⟨(some 22), .pick (.tmp 18) (.val (.bool true)) (.tmp 21), none⟩, ⟨(some 4), .mov (.tmp 22), none⟩])
def a3_R3 : AC := .keep [2, 3] [2, 3] (.dreg [(false, ⟨(some 23), .load (some 4) (.tmp 2), none⟩, false), (true, ⟨(some 24), .call 13 [(.tmp 23)], none⟩, false), (true, ⟨(some 25), .load (some 4) (.tmp 3), none⟩, false), (true, ⟨(some 26), .call 13 [(.tmp 25)], none⟩, false), (false, ⟨(some 27), .bin .eql (.tmp 24) (.tmp 26), none⟩, false), (true, ⟨(some 28), .load (some 4) (.tmp 2), none⟩, false), (true, ⟨(some 29), .load (some 4) (.tmp 3), none⟩, false), (false, ⟨(some 30), .eq false (.agg [(0, 0), (1, 0), (2, 0), (3, 0)]) (.tmp 28) (.tmp 29), none⟩, false), (false, ⟨(some 31), .eq false .bool (.tmp 27) (.tmp 30), none⟩, false), (false, ⟨(some 4), .mov (.tmp 31), none⟩, false)])
def a3 : AFn := { n := 32, np := 2, res := [.tmp 4], body :=
 (.seq (.keep [0, 1] [] (.reg [⟨(some 2), .box (some 2) (.tmp 0), none⟩, ⟨(some 3), .box (some 3) (.tmp 1), none⟩, ⟨(some 4), .mov (.val (.bool false)), none⟩]))
 (.seq (.seq (.keep [2, 3] [2, 3] (.reg [⟨(some 5), .call 11 [], none⟩, ⟨(some 6), .un .not (.tmp 5), none⟩]))
 (.cond (.tmp 6) (.seq (.keep [] [] (.reg [⟨(some 4), .mov (.val (.bool false)), none⟩]))
 .ret) .skip))
 (.seq (.seq a3_R1
 (.cond (.tmp 14) (.seq a3_R2
 .ret) .skip))
 (.seq a3_R3
 .ret)))) }
def h4 : Hints := ⟨[1, 8, 9, 10, 14], [(0, [0], []), (1, [1], [1]), (2, [], []), (3, [1], [1]), (4, [], []), (5, [1], [1]), (6, [1, 3], [1]), (7, [1, 3, 4], [1]), (8, [1, 3, 4, 5], [1]), (10, [1, 3, 4, 5], [1]), (11, [1, 3, 4, 5], [1]), (9, [1, 3, 4, 5], [1]), (12, [1, 4], [1]), (13, [1, 4, 6], [1]), (14, [1, 4, 6, 7], [1]), (16, [1, 4, 6, 7], [1]), (17, [1, 4, 6, 7, 8], [1, 8]), (19, [1, 4, 6, 7, 8, 42], [1, 8]), (20, [1, 4, 6, 7, 8], [1, 8]), (21, [1, 4, 6, 7, 8, 42], [1, 8]), (22, [1, 4, 6, 7, 8], [1, 8]), (18, [1, 4, 6, 7, 8], [1, 8]), (23, [1, 4, 6, 7, 8], [1, 8]), (24, [], []), (15, [1, 4, 6, 7], [1]), (25, [1, 4, 6], [1]), (26, [1, 4, 6, 9], [1, 9]), (27, [1, 4, 6, 9], [1, 9]), (28, [1, 4, 6, 9, 10], [1, 9, 10]), (29, [1, 4, 6, 9, 10], [1, 9, 10]), (30, [1, 4, 9], [1, 9]), (31, [1, 4, 6, 9], [1, 9]), (32, [1, 4, 6, 9], [1, 9]), (33, [1, 4, 6, 9], [1, 9]), (34, [1, 4, 9], [1, 9]), (35, [1, 4, 6, 9], [1, 9]), (36, [1, 4, 6, 9], [1, 9]), (37, [1, 4, 6, 9], [1, 9]), (38, [1, 4], [1]), (39, [1, 4, 6], [1]), (40, [1, 4, 6, 11, 12, 13], [1]), (41, [1, 4, 6, 11, 12, 13, 14], [1, 14]), (42, [4, 6, 11, 12, 13, 14], [14]), (43, [4, 6, 11, 12, 13, 15, 16, 17], [])], []⟩
def a4_R1 : AC := .keep [1, 4, 6, 7, 8] [1, 8] (.reg [⟨(some 50), .load (some 4) (.tmp 8), none⟩, ⟨(some 51), .call 12 [(.tmp 50)], none⟩, ⟨(some 52), .bin .neq (.tmp 51) (.val (.int .i64 2)), none⟩, ⟨(some 53), .mov (.tmp 52), none⟩, ⟨(some 54), .load (some 4) (.tmp 8), (some (53, false))⟩, ⟨(some 55), .call 13 [(.tmp 54)], (some (53, false))⟩, ⟨(some 56), .bin .neq (.tmp 55) (.val (.str ⟨#[]⟩)), (some (53, false))⟩, ⟨(some 57), .pick (.tmp 53) (.val (.bool true)) (.tmp 56), none⟩])
def a4_R2 : AC := .keep [1, 4, 6, 9, 10] [1, 9, 10] (.reg [⟨(some 62), .load (some 4) (.tmp 9), none⟩, ⟨(some 63), .call 12 [(.tmp 62)], none⟩, ⟨(some 64), .bin .eql (.tmp 63) (.val (.int .i64 0)), none⟩, ⟨(some 65), .mov (.tmp 64), none⟩, ⟨(some 66), .load (some 4) (.tmp 10), (some (65, false))⟩, ⟨(some 67), .call 12 [(.tmp 66)], (some (65, false))⟩, ⟨(some 68), .bin .neq (.tmp 67) (.val (.int .i64 0)), (some (65, false))⟩, ⟨(some 69), .pick (.tmp 65) (.val (.bool true)) (.tmp 68), none⟩])
def a4_R3 : AC := .keep [1, 4, 6] [1] (.reg [⟨(some 81), .load (some 4) (.tmp 1), none⟩, ⟨(some 82), .mkslc 1 8 [(.int .i64 0)] [(0, (.val (.int .i64 1))), (1, (.val (.int .i64 1))), (2, (.val (.int .i64 1))), (3, (.val (.int .i64 1))), (4, (.val (.int .i64 1))), (5, (.val (.int .i64 1))), (6, (.val (.int .i64 1))), (7, (.val (.int .i64 1)))], none⟩, ⟨(some 83), .call 14 [(.tmp 81), (.tmp 82)], none⟩, ⟨(some 80), .mov (.tmp 83), none⟩, ⟨(some 84), .ext (.tmp 80) 0, none⟩, ⟨(some 85), .ext (.tmp 80) 1, none⟩, ⟨(some 86), .ext (.tmp 80) 2, none⟩, ⟨(some 11), .mov (.tmp 84), none⟩, ⟨(some 12), .mov (.tmp 85), none⟩, ⟨(some 13), .mov (.tmp 86), none⟩])
def a4_R4 : AC := .keep [4, 6, 11, 12, 13, 14] [14] (.reg [⟨(some 93), .load (some 4) (.tmp 14), none⟩, ⟨(some 94), .mkslc 1 8 [(.int .i64 0)] [(0, (.val (.int .i64 1))), (1, (.val (.int .i64 1))), (2, (.val (.int .i64 1))), (3, (.val (.int .i64 1))), (4, (.val (.int .i64 1))), (5, (.val (.int .i64 1))), (6, (.val (.int .i64 1))), (7, (.val (.int .i64 1)))], none⟩, ⟨(some 95), .call 14 [(.tmp 93), (.tmp 94)], none⟩, ⟨(some 92), .mov (.tmp 95), none⟩, ⟨(some 96), .ext (.tmp 92) 0, none⟩, ⟨(some 97), .ext (.tmp 92) 1, none⟩, ⟨(some 98), .ext (.tmp 92) 2, none⟩, ⟨(some 15), .mov (.tmp 96), none⟩, ⟨(some 16), .mov (.tmp 97), none⟩, ⟨(some 17), .mov (.tmp 98), none⟩])
def a4_R5 : AC := .keep [4, 6, 11, 12, 13, 15, 16, 17] [] (.reg [⟨(some 99), .mov (.tmp 4), none⟩, ⟨(some 100), .mov (.tmp 6), none⟩, ⟨(some 101), .bin .add (.tmp 100) (.val (.int .i64 1)), none⟩, ⟨(some 102), .bin .eql (.tmp 99) (.tmp 101), none⟩, ⟨(some 103), .mov (.tmp 102), none⟩, ⟨(some 104), .mov (.tmp 13), (some (103, true))⟩, ⟨(some 105), .un .not (.tmp 104), (some (103, true))⟩, ⟨(some 106), .mov (.tmp 105), (some (103, true))⟩, ⟨(some 107), .mov (.tmp 17), (some (106, false))⟩, ⟨(some 108), .un .not (.tmp 107), (some (106, false))⟩, ⟨(some 109), .pick (.tmp 106) (.val (.bool true)) (.tmp 108), (some (103, true))⟩, ⟨(some 110), .mov (.tmp 109), (some (103, true))⟩, ⟨(some 111), .mov (.tmp 11), (some (110, false))⟩, ⟨(some 112), .mov (.tmp 15), (some (110, false))⟩, ⟨(some 113), .bin .eql (.tmp 111) (.tmp 112), (some (110, false))⟩, ⟨(some 114), .mov (.tmp 113), (some (110, false))⟩, ⟨(some 115), .mov (.tmp 12), (some (114, true))⟩, ⟨(some 116), .mov (.tmp 16), (some (114, true))⟩, ⟨(some 117), .bin .eql (.tmp 115) (.tmp 116), (some (114, true))⟩, ⟨(some 118), .pick (.tmp 114) (.tmp 117) (.val (.bool false)), (some (110, false))⟩, ⟨(some 119), .pick (.tmp 110) (.val (.bool true)) (.tmp 118), (some (103, true))⟩, ⟨(some 120), .pick (.tmp 103) (.tmp 119) (.val (.bool false)), none⟩, ⟨(some 2), .mov (.tmp 120), none⟩])
def a4_B1 : AC := (.seq (.seq (.keep [1, 4, 6, 7] [1] (.reg [⟨(some 37), .mov (.tmp 7), none⟩, ⟨(some 38), .bin .lss (.tmp 37) (.val (.int .i64 3)), none⟩]))
 (.cond (.tmp 38) .skip (.exit 2)))
 (.seq (.block 3 (.seq (.keep [1, 4, 6, 7] [1] (.reg [⟨(some 41), .load (some 4) (.tmp 1), none⟩, ⟨(some 8), .alloc (some 8) [(.int .i64 0), (.int .i64 0), (.int .i64 0), (.int .i64 0)], none⟩, ⟨none, .store 4 (.tmp 8) (.tmp 41), none⟩]))
 (.seq (.seq (.keep [1, 4, 6, 7, 8] [1, 8] (.reg [⟨(some 42), .mov (.tmp 7), none⟩]))
 (.block 4 (.seq (.keep [1, 4, 6, 7, 8, 42] [1, 8] (.reg [⟨(some 45), .bin .eql (.tmp 42) (.val (.int .i64 0)), none⟩, ⟨(some 44), .mov (.tmp 45), none⟩]))
 (.cond (.tmp 44) (.keep [1, 4, 6, 7, 8] [1, 8] (.reg [⟨(some 46), .faddr 1 (.tmp 8), none⟩, ⟨none, .store 1 (.tmp 46) (.val (.int .i64 (-1))), none⟩])) (.seq (.keep [1, 4, 6, 7, 8, 42] [1, 8] (.reg [⟨(some 48), .bin .eql (.tmp 42) (.val (.int .i64 1)), none⟩, ⟨(some 47), .mov (.tmp 48), none⟩]))
 (.cond (.tmp 47) (.keep [1, 4, 6, 7, 8] [1, 8] (.reg [⟨(some 49), .faddr 2 (.tmp 8), none⟩, ⟨none, .store 1 (.tmp 49) (.val (.int .i64 (-1))), none⟩])) (.keep [1, 4, 6, 7, 8] [1, 8] (.reg [⟨(some 43), .faddr 3 (.tmp 8), none⟩, ⟨none, .store 1 (.tmp 43) (.val (.int .i64 (-1))), none⟩]))))))))
 (.seq a4_R1
 (.cond (.tmp 57) (.seq (.keep [] [] (.reg [⟨(some 2), .mov (.val (.bool false)), none⟩]))
 .ret) .skip)))))
 (.keep [1, 4, 6, 7] [1] (.reg [⟨(some 39), .mov (.tmp 7), none⟩, ⟨(some 40), .bin .add (.tmp 39) (.val (.int .i64 1)), none⟩, ⟨(some 7), .mov (.tmp 40), none⟩]))))
def a4_L1 : AC := .loop a4_B1
theorem a4_L1_step (call : Caller) (again : AC → St → Option (Ex × St)) (s : St) : codeEv call again a4_L1 s = match codeEv call again a4_B1 s with | some (.norm, s1) => again a4_L1 s1 | r => r := rfl
def a4_B2 : AC := (.seq (.seq (.keep [1, 3, 4, 5] [1] (.reg [⟨(some 25), .mov (.tmp 5), none⟩, ⟨(some 26), .mov (.tmp 3), none⟩, ⟨(some 27), .lenS (.tmp 26), none⟩, ⟨(some 28), .bin .lss (.tmp 25) (.tmp 27), none⟩]))
 (.cond (.tmp 28) .skip (.exit 0)))
 (.seq (.block 1 (.seq (.keep [1, 3, 4, 5] [1] (.reg [⟨(some 31), .mov (.tmp 3), none⟩, ⟨(some 32), .mov (.tmp 5), none⟩, ⟨(some 33), .idxS (.tmp 31) (.tmp 32), none⟩, ⟨(some 34), .bin .eql (.tmp 33) (.val (.int .u8 32)), none⟩]))
 (.cond (.tmp 34) (.keep [1, 3, 4, 5] [1] (.reg [⟨(some 35), .mov (.tmp 4), none⟩, ⟨(some 36), .bin .add (.tmp 35) (.val (.int .i64 1)), none⟩, ⟨(some 4), .mov (.tmp 36), none⟩])) .skip)))
 (.keep [1, 3, 4, 5] [1] (.reg [⟨(some 29), .mov (.tmp 5), none⟩, ⟨(some 30), .bin .add (.tmp 29) (.val (.int .i64 1)), none⟩, ⟨(some 5), .mov (.tmp 30), none⟩]))))
def a4_L2 : AC := .loop a4_B2
theorem a4_L2_step (call : Caller) (again : AC → St → Option (Ex × St)) (s : St) : codeEv call again a4_L2 s = match codeEv call again a4_B2 s with | some (.norm, s1) => again a4_L2 s1 | r => r := rfl
def a4 : AFn := { n := 121, np := 1, res := [.tmp 2], body :=
 (.seq (.keep [0] [] (.reg [⟨(some 1), .box (some 1) (.tmp 0), none⟩, ⟨(some 2), .mov (.val (.bool false)), none⟩]))
 (.seq (.seq (.keep [1] [1] (.reg [⟨(some 18), .call 11 [], none⟩, ⟨(some 19), .un .not (.tmp 18), none⟩]))
 (.cond (.tmp 19) (.seq (.keep [] [] (.reg [⟨(some 2), .mov (.val (.bool false)), none⟩]))
 .ret) .skip))
 (.seq (.seq (.keep [1] [1] (.reg [⟨(some 20), .load (some 4) (.tmp 1), none⟩, ⟨(some 21), .call 12 [(.tmp 20)], none⟩, ⟨(some 22), .bin .neq (.tmp 21) (.val (.int .i64 0)), none⟩]))
 (.cond (.tmp 22) (.seq (.keep [] [] (.reg [⟨(some 2), .mov (.val (.bool true)), none⟩]))
 .ret) .skip))
 (.seq (.keep [1] [1] (.reg [⟨(some 23), .load (some 4) (.tmp 1), none⟩, ⟨(some 24), .call 13 [(.tmp 23)], none⟩, ⟨(some 3), .mov (.tmp 24), none⟩]))
 (.seq (.keep [1, 3] [1] (.reg [⟨(some 4), .mov (.val (.int .i64 1)), none⟩]))
 (.seq (.seq (.keep [1, 3, 4] [1] (.reg [⟨(some 5), .mov (.val (.int .i64 0)), none⟩]))
 (.block 0 a4_L2))
 (.seq (.keep [1, 4] [1] (.reg [⟨(some 6), .mov (.val (.int .i64 0)), none⟩]))
 (.seq (.seq (.keep [1, 4, 6] [1] (.reg [⟨(some 7), .mov (.val (.int .i64 0)), none⟩]))
 (.block 2 a4_L1))
 (.seq (.keep [1, 4, 6] [1] (.reg [⟨(some 58), .load (some 4) (.tmp 1), none⟩, ⟨(some 9), .alloc (some 9) [(.int .i64 0), (.int .i64 0), (.int .i64 0), (.int .i64 0)], none⟩, ⟨none, .store 4 (.tmp 9) (.tmp 58), none⟩]))
 (.seq (.keep [1, 4, 6, 9] [1, 9] (.reg [⟨(some 59), .faddr 1 (.tmp 9), none⟩, ⟨none, .store 1 (.tmp 59) (.val (.int .i64 1)), none⟩]))
 (.seq (.keep [1, 4, 6, 9] [1, 9] (.reg [⟨(some 60), .load (some 4) (.tmp 9), none⟩, ⟨(some 10), .alloc (some 10) [(.int .i64 0), (.int .i64 0), (.int .i64 0), (.int .i64 0)], none⟩, ⟨none, .store 4 (.tmp 10) (.tmp 60), none⟩]))
 (.seq (.keep [1, 4, 6, 9, 10] [1, 9, 10] (.reg [⟨(some 61), .faddr 1 (.tmp 10), none⟩, ⟨none, .store 1 (.tmp 61) (.val (.int .i64 0)), none⟩]))
 (.seq (.seq a4_R2
 (.cond (.tmp 69) (.keep [1, 4, 9] [1, 9] (.reg [⟨(some 6), .mov (.val (.int .i64 1)), none⟩])) .skip))
 (.seq (.keep [1, 4, 6, 9] [1, 9] (.reg [⟨(some 70), .load (some 4) (.tmp 1), none⟩, ⟨none, .store 4 (.tmp 9) (.tmp 70), none⟩]))
 (.seq (.keep [1, 4, 6, 9] [1, 9] (.reg [⟨(some 71), .faddr 2 (.tmp 9), none⟩, ⟨none, .store 1 (.tmp 71) (.val (.int .i64 8)), none⟩]))
 (.seq (.seq (.keep [1, 4, 6, 9] [1, 9] (.reg [⟨(some 72), .load (some 4) (.tmp 9), none⟩, ⟨(some 73), .call 12 [(.tmp 72)], none⟩, ⟨(some 74), .bin .eql (.tmp 73) (.val (.int .i64 0)), none⟩]))
 (.cond (.tmp 74) (.keep [1, 4, 9] [1, 9] (.reg [⟨(some 6), .mov (.val (.int .i64 2)), none⟩])) .skip))
 (.seq (.keep [1, 4, 6, 9] [1, 9] (.reg [⟨(some 75), .load (some 4) (.tmp 1), none⟩, ⟨none, .store 4 (.tmp 9) (.tmp 75), none⟩]))
 (.seq (.keep [1, 4, 6, 9] [1, 9] (.reg [⟨(some 76), .faddr 3 (.tmp 9), none⟩, ⟨none, .store 1 (.tmp 76) (.val (.int .i64 8)), none⟩]))
 (.seq (.seq (.keep [1, 4, 6, 9] [1, 9] (.reg [⟨(some 77), .load (some 4) (.tmp 9), none⟩, ⟨(some 78), .call 12 [(.tmp 77)], none⟩, ⟨(some 79), .bin .eql (.tmp 78) (.val (.int .i64 0)), none⟩]))
 (.cond (.tmp 79) (.keep [1, 4] [1] (.reg [⟨(some 6), .mov (.val (.int .i64 3)), none⟩])) .skip))
 (.seq a4_R3
 (.seq (.keep [1, 4, 6, 11, 12, 13] [1] (.reg [⟨(some 87), .load (some 4) (.tmp 1), none⟩, ⟨(some 14), .alloc (some 14) [(.int .i64 0), (.int .i64 0), (.int .i64 0), (.int .i64 0)], none⟩, ⟨none, .store 4 (.tmp 14) (.tmp 87), none⟩]))
 (.seq (.keep [1, 4, 6, 11, 12, 13, 14] [1, 14] (.reg [⟨(some 88), .faddr 1 (.tmp 1), none⟩, ⟨(some 89), .load none (.tmp 88), none⟩, ⟨(some 90), .bin .xor (.tmp 89) (.val (.int .i64 1)), none⟩, ⟨(some 91), .faddr 1 (.tmp 14), none⟩, ⟨none, .store 1 (.tmp 91) (.tmp 90), none⟩]))
 (.seq a4_R4
 (.seq a4_R5
 .ret)))))))))))))))))))))))) }
def h11 : Hints := ⟨[1, 3], [], []⟩
def a11 : AFn := { n := 75, np := 0, res := [.tmp 0], body :=
 (.seq (.reg [⟨(some 0), .mov (.val (.bool false)), none⟩])
 (.seq (.reg [⟨(some 12), .call 15 [(.val (.str ⟨#[106, 122, 32, 57]⟩))], none⟩, ⟨(some 11), .mov (.tmp 12), none⟩, ⟨(some 13), .ext (.tmp 11) 0, none⟩, ⟨(some 14), .ext (.tmp 11) 1, none⟩, ⟨(some 1), .alloc (some 1) [(.int .i64 0), (.int .i64 0), (.int .i64 0), (.int .i64 0)], none⟩, ⟨none, .store 4 (.tmp 1) (.tmp 13), none⟩, ⟨(some 2), .mov (.tmp 14), none⟩])
 (.seq (.reg [⟨(some 16), .call 15 [(.val (.str ⟨#[112, 117, 115, 104, 32, 48, 53]⟩))], none⟩, ⟨(some 15), .mov (.tmp 16), none⟩, ⟨(some 17), .ext (.tmp 15) 0, none⟩, ⟨(some 18), .ext (.tmp 15) 1, none⟩, ⟨(some 3), .alloc (some 3) [(.int .i64 0), (.int .i64 0), (.int .i64 0), (.int .i64 0)], none⟩, ⟨none, .store 4 (.tmp 3) (.tmp 17), none⟩, ⟨(some 4), .mov (.tmp 18), none⟩])
 (.seq (.reg [⟨(some 20), .build [(.int .i64 0), (.int .i64 0), (.int .i64 0), (.int .i64 0)] [(0, 1, (.val (.int .i64 7))), (1, 1, (.val (.int .i64 1))), (2, 1, (.val (.int .i64 1))), (3, 1, (.val (.int .i64 8)))], none⟩, ⟨(some 21), .call 14 [(.tmp 20), (.val .nils)], none⟩, ⟨(some 19), .mov (.tmp 21), none⟩, ⟨(some 22), .ext (.tmp 19) 0, none⟩, ⟨(some 23), .ext (.tmp 19) 1, none⟩, ⟨(some 24), .ext (.tmp 19) 2, none⟩, ⟨(some 5), .mov (.tmp 22), none⟩, ⟨(some 6), .mov (.tmp 23), none⟩, ⟨(some 7), .mov (.tmp 24), none⟩])
 (.seq (.reg [⟨(some 26), .build [(.int .i64 0), (.int .i64 0), (.int .i64 0), (.int .i64 0)] [(0, 1, (.val (.int .i64 17))), (1, 1, (.val (.int .i64 1)))], none⟩, ⟨(some 27), .mkslc 1 2 [(.int .i64 0)] [(0, (.val (.int .i64 0))), (1, (.val (.int .i64 2)))], none⟩, ⟨(some 28), .call 14 [(.tmp 26), (.tmp 27)], none⟩, ⟨(some 25), .mov (.tmp 28), none⟩, ⟨(some 29), .ext (.tmp 25) 0, none⟩, ⟨(some 30), .ext (.tmp 25) 1, none⟩, ⟨(some 31), .ext (.tmp 25) 2, none⟩, ⟨(some 8), .mov (.tmp 29), none⟩, ⟨(some 9), .mov (.tmp 30), none⟩, ⟨(some 10), .mov (.tmp 31), none⟩])
 (.seq (.reg [⟨(some 32), .build [(.int .i64 0), (.int .i64 0), (.int .i64 0), (.int .i64 0)] [(0, 1, (.val (.int .i64 7))), (1, 1, (.val (.int .i64 4))), (2, 1, (.val (.int .i64 10))), (3, 1, (.val (.int .i64 8)))], none⟩, ⟨(some 33), .call 13 [(.tmp 32)], none⟩, ⟨(some 34), .bin .eql (.tmp 33) (.val (.str ⟨#[115, 116, 120, 32, 52, 32, 49, 48, 32, 56]⟩)), none⟩, ⟨(some 35), .mov (.tmp 34), none⟩, ⟨(some 36), .build [(.int .i64 0), (.int .i64 0), (.int .i64 0), (.int .i64 0)] [(0, 1, (.val (.int .i64 12))), (1, 1, (.val (.int .i64 6)))], (some (35, true))⟩, ⟨(some 37), .call 13 [(.tmp 36)], (some (35, true))⟩, ⟨(some 38), .bin .eql (.tmp 37) (.val (.str ⟨#[98, 105, 110, 32, 115, 47]⟩)), (some (35, true))⟩, ⟨(some 39), .pick (.tmp 35) (.tmp 38) (.val (.bool false)), none⟩, ⟨(some 40), .mov (.tmp 39), none⟩, ⟨(some 41), .mov (.tmp 2), (some (40, true))⟩, ⟨(some 42), .bin .eql (.tmp 41) (.val (.int .i64 0)), (some (40, true))⟩, ⟨(some 43), .pick (.tmp 40) (.tmp 42) (.val (.bool false)), none⟩, ⟨(some 44), .mov (.tmp 43), none⟩, ⟨(some 45), .load (some 4) (.tmp 1), (some (44, true))⟩, ⟨(some 46), .build [(.int .i64 0), (.int .i64 0), (.int .i64 0), (.int .i64 0)] [(0, 1, (.val (.int .i64 16))), (1, 1, (.val (.int .i64 9)))], (some (44, true))⟩, ⟨(some 47), .eq false (.agg [(0, 0), (1, 0), (2, 0), (3, 0)]) (.tmp 45) (.tmp 46), (some (44, true))⟩, ⟨(some 48), .pick (.tmp 44) (.tmp 47) (.val (.bool false)), none⟩, ⟨(some 49), .mov (.tmp 48), none⟩, ⟨(some 50), .mov (.tmp 4), (some (49, true))⟩, ⟨(some 51), .bin .eql (.tmp 50) (.val (.int .i64 11)), (some (49, true))⟩, ⟨(some 52), .pick (.tmp 49) (.tmp 51) (.val (.bool false)), none⟩, ⟨(some 53), .mov (.tmp 52), none⟩, ⟨(some 54), .mov (.tmp 5), (some (53, true))⟩, ⟨(some 55), .bin .eql (.tmp 54) (.val (.int .i64 2)), (some (53, true))⟩, ⟨(some 56), .pick (.tmp 53) (.tmp 55) (.val (.bool false)), none⟩, ⟨(some 57), .mov (.tmp 56), none⟩, ⟨(some 58), .mov (.tmp 6), (some (57, true))⟩, ⟨(some 59), .bin .eql (.tmp 58) (.val (.int .i64 0)), (some (57, true))⟩, ⟨(some 60), .pick (.tmp 57) (.tmp 59) (.val (.bool false)), none⟩, ⟨(some 61), .mov (.tmp 60), none⟩, ⟨(some 62), .mov (.tmp 7), (some (61, true))⟩, ⟨(some 63), .pick (.tmp 61) (.tmp 62) (.val (.bool false)), none⟩, ⟨(some 64), .mov (.tmp 63), none⟩, ⟨(some 65), .mov (.tmp 8), (some (64, true))⟩, ⟨(some 66), .bin .eql (.tmp 65) (.val (.int .i64 2)), (some (64, true))⟩, ⟨(some 67), .pick (.tmp 64) (.tmp 66) (.val (.bool false)), none⟩, ⟨(some 68), .mov (.tmp 67), none⟩, ⟨(some 69), .mov (.tmp 9), (some (68, true))⟩, ⟨(some 70), .bin .eql (.tmp 69) (.val (.int .i64 1)), (some (68, true))⟩, ⟨(some 71), .pick (.tmp 68) (.tmp 70) (.val (.bool false)), none⟩, ⟨(some 72), .mov (.tmp 71), none⟩, ⟨(some 73), .mov (.tmp 10), (some (72, true))⟩, ⟨(some 74), .pick (.tmp 72) (.tmp 73) (.val (.bool false)), none⟩, ⟨(some 0), .mov (.tmp 74), none⟩])
 .ret)))))) }
def h12 : Hints := ⟨[1, 3], [(0, [0], []), (1, [1], [1]), (2, [], []), (3, [1], [1]), (4, [1, 3], [1, 3]), (5, [], []), (6, [], [])], []⟩
def a12 : AFn := { n := 41, np := 1, res := [.tmp 2], body :=
 (.seq (.keep [0] [] (.reg [⟨(some 1), .box (some 1) (.tmp 0), none⟩, ⟨(some 2), .mov (.val (.int .i64 0)), none⟩]))
 (.seq (.seq (.keep [1] [1] (.reg [⟨(some 4), .faddr 0 (.tmp 1), none⟩, ⟨(some 5), .load none (.tmp 4), none⟩, ⟨(some 6), .bin .lss (.tmp 5) (.val (.int .i64 1)), none⟩, ⟨(some 7), .mov (.tmp 6), none⟩, ⟨(some 8), .faddr 0 (.tmp 1), (some (7, false))⟩, ⟨(some 9), .load none (.tmp 8), (some (7, false))⟩, ⟨(some 10), .load none (.val (.ptr 0 0)), (some (7, false))⟩, ⟨(some 11), .lenL (.tmp 10), (some (7, false))⟩, ⟨(some 12), .bin .geq (.tmp 9) (.tmp 11), (some (7, false))⟩, ⟨(some 13), .pick (.tmp 7) (.val (.bool true)) (.tmp 12), none⟩]))
 (.cond (.tmp 13) (.seq (.keep [] [] (.reg [⟨(some 2), .mov (.val (.int .i64 2)), none⟩]))
 .ret) .skip))
 (.seq (.keep [1] [1] (.reg [⟨(some 14), .load none (.val (.ptr 0 0)), none⟩, ⟨(some 15), .faddr 0 (.tmp 1), none⟩, ⟨(some 16), .load none (.tmp 15), none⟩, ⟨(some 17), .iaddrL 6 (.tmp 14) (.tmp 16), none⟩, ⟨(some 18), .load (some 6) (.tmp 17), none⟩, ⟨(some 3), .alloc (some 3) [(.str ⟨#[]⟩), (.int .i64 0), (.int .i64 0), (.int .i64 0), (.int .i64 0), (.int .i64 0)], none⟩, ⟨none, .store 6 (.tmp 3) (.tmp 18), none⟩]))
 (.seq (.seq (.keep [1, 3] [1, 3] (.reg [⟨(some 19), .faddr 1 (.tmp 3), none⟩, ⟨(some 20), .load none (.tmp 19), none⟩, ⟨(some 21), .faddr 1 (.tmp 1), none⟩, ⟨(some 22), .load none (.tmp 21), none⟩, ⟨(some 23), .call 35 [(.tmp 20), (.tmp 22)], none⟩, ⟨(some 24), .un .not (.tmp 23), none⟩, ⟨(some 25), .mov (.tmp 24), none⟩, ⟨(some 26), .faddr 2 (.tmp 3), (some (25, false))⟩, ⟨(some 27), .load none (.tmp 26), (some (25, false))⟩, ⟨(some 28), .faddr 2 (.tmp 1), (some (25, false))⟩, ⟨(some 29), .load none (.tmp 28), (some (25, false))⟩, ⟨(some 30), .call 35 [(.tmp 27), (.tmp 29)], (some (25, false))⟩, ⟨(some 31), .un .not (.tmp 30), (some (25, false))⟩, ⟨(some 32), .pick (.tmp 25) (.val (.bool true)) (.tmp 31), none⟩, ⟨(some 33), .mov (.tmp 32), none⟩, ⟨(some 34), .faddr 3 (.tmp 3), (some (33, false))⟩, ⟨(some 35), .load none (.tmp 34), (some (33, false))⟩, ⟨(some 36), .faddr 3 (.tmp 1), (some (33, false))⟩, ⟨(some 37), .load none (.tmp 36), (some (33, false))⟩, ⟨(some 38), .call 35 [(.tmp 35), (.tmp 37)], (some (33, false))⟩, ⟨(some 39), .un .not (.tmp 38), (some (33, false))⟩, ⟨(some 40), .pick (.tmp 33) (.val (.bool true)) (.tmp 39), none⟩]))
 (.cond (.tmp 40) (.seq (.keep [] [] (.reg [⟨(some 2), .mov (.val (.int .i64 2)), none⟩]))
 .ret) .skip))
 (.seq (.keep [] [] (.reg [⟨(some 2), .mov (.val (.int .i64 0)), none⟩]))
 .ret))))) }
def h13 : Hints := ⟨[1, 3, 6], [(0, [0], []), (1, [1], [1]), (2, [], []), (3, [1], [1]), (4, [1, 3], [1, 3]), (5, [1, 3, 4], [1, 3]), (6, [4, 33, 34], []), (7, [4, 33, 34], []), (8, [4, 6, 33, 34], [6]), (10, [4, 6, 33, 34, 38], [6]), (11, [4, 6, 33, 34, 38], [6]), (12, [4, 6, 33, 34], [6]), (13, [4, 6, 33, 34, 38], [6]), (14, [4, 6, 33, 34], [6]), (9, [4, 6, 33, 34], [6]), (15, [4, 33, 34], []), (16, [4], [])], []⟩
def a13_R1 : AC := .keep [1] [1] (.reg [⟨(some 10), .load none (.val (.ptr 0 0)), none⟩, ⟨(some 11), .faddr 0 (.tmp 1), none⟩, ⟨(some 12), .load none (.tmp 11), none⟩, ⟨(some 13), .iaddrL 6 (.tmp 10) (.tmp 12), none⟩, ⟨(some 14), .load (some 6) (.tmp 13), none⟩, ⟨(some 3), .alloc (some 3) [(.str ⟨#[]⟩), (.int .i64 0), (.int .i64 0), (.int .i64 0), (.int .i64 0), (.int .i64 0)], none⟩, ⟨none, .store 6 (.tmp 3) (.tmp 14), none⟩])
def a13_R2 : AC := .keep [1, 3, 4] [1, 3] (.reg [⟨(some 18), .faddr 1 (.tmp 3), none⟩, ⟨(some 19), .load none (.tmp 18), none⟩, ⟨(some 20), .faddr 1 (.tmp 1), none⟩, ⟨(some 21), .load none (.tmp 20), none⟩, ⟨(some 22), .build [(.int .i64 0), (.int .i64 0)] [(0, 1, (.tmp 19)), (1, 1, (.tmp 21))], none⟩, ⟨(some 23), .faddr 2 (.tmp 3), none⟩, ⟨(some 24), .load none (.tmp 23), none⟩, ⟨(some 25), .faddr 2 (.tmp 1), none⟩, ⟨(some 26), .load none (.tmp 25), none⟩, ⟨(some 27), .build [(.int .i64 0), (.int .i64 0)] [(0, 1, (.tmp 24)), (1, 1, (.tmp 26))], none⟩, ⟨(some 28), .faddr 3 (.tmp 3), none⟩, ⟨(some 29), .load none (.tmp 28), none⟩, ⟨(some 30), .faddr 3 (.tmp 1), none⟩, ⟨(some 31), .load none (.tmp 30), none⟩, ⟨(some 32), .build [(.int .i64 0), (.int .i64 0)] [(0, 1, (.tmp 29)), (1, 1, (.tmp 31))], none⟩, ⟨(some 33), .build [(.int .i64 0), (.int .i64 0), (.int .i64 0), (.int .i64 0), (.int .i64 0), (.int .i64 0)] [(0, 2, (.tmp 22)), (2, 2, (.tmp 27)), (4, 2, (.tmp 32))], none⟩, ⟨(some 34), .mov (.val (.int .i64 0)), none⟩])
def a13_R3 : AC := .keep [4, 6, 33, 34] [6] (.reg [⟨(some 49), .mov (.tmp 4), none⟩, ⟨(some 50), .faddr 1 (.tmp 6), none⟩, ⟨(some 51), .load none (.tmp 50), none⟩, ⟨(some 52), .call 36 [(.tmp 51)], none⟩, ⟨(some 53), .mkslc 1 1 [(.str ⟨#[]⟩)] [(0, (.tmp 52))], none⟩, ⟨(some 54), .app none 1 16 (.tmp 49) (.tmp 53), none⟩, ⟨(some 4), .mov (.tmp 54), none⟩])
def a13_R4 : AC := .keep [4, 6, 33, 34] [6] (.reg [⟨(some 57), .mov (.tmp 4), none⟩, ⟨(some 58), .faddr 1 (.tmp 6), none⟩, ⟨(some 59), .load none (.tmp 58), none⟩, ⟨(some 60), .call 37 [(.tmp 59)], none⟩, ⟨(some 61), .mkslc 1 1 [(.str ⟨#[]⟩)] [(0, (.tmp 60))], none⟩, ⟨(some 62), .app none 1 16 (.tmp 57) (.tmp 61), none⟩, ⟨(some 4), .mov (.tmp 62), none⟩])
def a13_R5 : AC := .keep [4, 6, 33, 34] [6] (.reg [⟨(some 39), .mov (.tmp 4), none⟩, ⟨(some 40), .faddr 1 (.tmp 6), none⟩, ⟨(some 41), .load none (.tmp 40), none⟩, ⟨(some 42), .call 38 [(.tmp 41)], none⟩, ⟨(some 43), .mkslc 1 1 [(.str ⟨#[]⟩)] [(0, (.tmp 42))], none⟩, ⟨(some 44), .app none 1 16 (.tmp 39) (.tmp 43), none⟩, ⟨(some 4), .mov (.tmp 44), none⟩])
def a13_B1 : AC := (.seq (.keep [4, 33, 34] [] (.reg [⟨(some 35), .bin .lss (.tmp 34) (.val (.int .i64 3)), none⟩]))
 (.seq (.cond (.tmp 35) .skip (.exit 0))
 (.seq (.block 1 (.seq (.keep [4, 33, 34] [] (.reg [⟨(some 36), .idxA 3 2 true (.tmp 33) (.tmp 34), none⟩, ⟨(some 6), .alloc (some 6) [(.int .i64 0), (.int .i64 0)], none⟩, ⟨none, .store 2 (.tmp 6) (.tmp 36), none⟩]))
 (.seq (.keep [4, 6, 33, 34] [6] (.reg [⟨(some 37), .faddr 0 (.tmp 6), none⟩, ⟨(some 38), .load none (.tmp 37), none⟩]))
 (.block 2 (.seq (.keep [4, 6, 33, 34, 38] [6] (.reg [⟨(some 46), .bin .eql (.tmp 38) (.val (.int .i64 0)), none⟩, ⟨(some 45), .mov (.tmp 46), none⟩]))
 (.cond (.tmp 45) .skip (.seq (.keep [4, 6, 33, 34, 38] [6] (.reg [⟨(some 48), .bin .eql (.tmp 38) (.val (.int .i64 7)), none⟩, ⟨(some 47), .mov (.tmp 48), none⟩]))
 (.cond (.tmp 47) a13_R3 (.seq (.keep [4, 6, 33, 34, 38] [6] (.reg [⟨(some 56), .bin .eql (.tmp 38) (.val (.int .i64 8)), none⟩, ⟨(some 55), .mov (.tmp 56), none⟩]))
 (.cond (.tmp 55) a13_R4 a13_R5))))))))))
 (.keep [4, 33, 34] [] (.reg [⟨(some 63), .bin .add (.tmp 34) (.val (.int .i64 1)), none⟩, ⟨(some 34), .mov (.tmp 63), none⟩])))))
def a13_L1 : AC := .loop a13_B1
theorem a13_L1_step (call : Caller) (again : AC → St → Option (Ex × St)) (s : St) : codeEv call again a13_L1 s = match codeEv call again a13_B1 s with | some (.norm, s1) => again a13_L1 s1 | r => r := rfl
def a13 : AFn := { n := 66, np := 1, res := [.tmp 2], body :=
 (.seq (.keep [0] [] (.reg [⟨(some 1), .box (some 1) (.tmp 0), none⟩, ⟨(some 2), .mov (.val (.str ⟨#[]⟩)), none⟩]))
 (.seq (.seq (.keep [1] [1] (.reg [⟨(some 7), .load (some 4) (.tmp 1), none⟩, ⟨(some 8), .call 12 [(.tmp 7)], none⟩, ⟨(some 9), .bin .neq (.tmp 8) (.val (.int .i64 0)), none⟩]))
 (.cond (.tmp 9) (.seq (.keep [] [] (.reg [⟨(some 2), .mov (.val (.str ⟨#[]⟩)), none⟩]))
 .ret) .skip))
 (.seq a13_R1
 (.seq (.keep [1, 3] [1, 3] (.reg [⟨(some 15), .faddr 0 (.tmp 3), none⟩, ⟨(some 16), .load none (.tmp 15), none⟩, ⟨(some 17), .mkslc 1 1 [(.str ⟨#[]⟩)] [(0, (.tmp 16))], none⟩, ⟨(some 4), .mov (.tmp 17), none⟩]))
 (.seq (.seq a13_R2
 (.block 0 a13_L1))
 (.seq (.keep [4] [] (.reg [⟨(some 64), .mov (.tmp 4), none⟩, ⟨(some 65), .call 39 [(.tmp 64), (.val (.str ⟨#[32]⟩))], none⟩, ⟨(some 2), .mov (.tmp 65), none⟩]))
 .ret)))))) }
def h14 : Hints := ⟨[2, 7], [(0, [0, 1], []), (1, [1, 2], [2]), (2, [], []), (3, [1, 2], [2]), (4, [1, 2, 7], [2, 7]), (5, [1, 2, 4, 7], [2, 7]), (6, [1, 2, 7], [2, 7]), (7, [], []), (8, [1, 2, 7], [2, 7]), (9, [4, 7], [7])], []⟩
def a14_R1 : AC := .keep [1, 2] [2] (.reg [⟨(some 11), .load none (.val (.ptr 0 0)), none⟩, ⟨(some 12), .faddr 0 (.tmp 2), none⟩, ⟨(some 13), .load none (.tmp 12), none⟩, ⟨(some 14), .iaddrL 6 (.tmp 11) (.tmp 13), none⟩, ⟨(some 15), .load (some 6) (.tmp 14), none⟩, ⟨(some 7), .alloc (some 7) [(.str ⟨#[]⟩), (.int .i64 0), (.int .i64 0), (.int .i64 0), (.int .i64 0), (.int .i64 0)], none⟩, ⟨none, .store 6 (.tmp 7) (.tmp 15), none⟩])
def a14 : AFn := { n := 34, np := 2, res := [.tmp 4, .tmp 5, .tmp 6], body :=
 (.seq (.keep [0, 1] [] (.reg [⟨(some 2), .box (some 2) (.tmp 0), none⟩, ⟨(some 4), .mov (.val (.int .i64 0)), none⟩, ⟨(some 5), .mov (.val (.int .i64 0)), none⟩, ⟨(some 6), .mov (.val (.bool false)), none⟩]))
 (.seq (.seq (.keep [1, 2] [2] (.reg [⟨(some 8), .load (some 4) (.tmp 2), none⟩, ⟨(some 9), .call 12 [(.tmp 8)], none⟩, ⟨(some 10), .bin .neq (.tmp 9) (.val (.int .i64 0)), none⟩]))
 (.cond (.tmp 10) (.seq (.keep [] [] (.reg [⟨(some 4), .mov (.val (.int .i64 0)), none⟩, ⟨(some 5), .mov (.val (.int .i64 0)), none⟩, ⟨(some 6), .mov (.val (.bool false)), none⟩]))
 .ret) .skip))
 (.seq a14_R1
 (.seq (.keep [1, 2, 7] [2, 7] (.reg [⟨(some 16), .faddr 4 (.tmp 7), none⟩, ⟨(some 17), .load none (.tmp 16), none⟩, ⟨(some 4), .mov (.tmp 17), none⟩]))
 (.seq (.seq (.keep [1, 2, 4, 7] [2, 7] (.reg [⟨(some 18), .faddr 0 (.tmp 2), none⟩, ⟨(some 19), .load none (.tmp 18), none⟩, ⟨(some 20), .bin .eql (.tmp 19) (.val (.int .i64 17)), none⟩]))
 (.cond (.tmp 20) (.seq (.seq (.keep [1, 2, 7] [2, 7] (.reg [⟨(some 21), .faddr 1 (.tmp 2), none⟩, ⟨(some 22), .load none (.tmp 21), none⟩, ⟨(some 23), .mov (.tmp 1), none⟩, ⟨(some 24), .lenL (.tmp 23), none⟩, ⟨(some 25), .bin .geq (.tmp 22) (.tmp 24), none⟩]))
 (.cond (.tmp 25) (.seq (.keep [] [] (.reg [⟨(some 4), .mov (.val (.int .i64 0)), none⟩, ⟨(some 5), .mov (.val (.int .i64 0)), none⟩, ⟨(some 6), .mov (.val (.bool false)), none⟩]))
 .ret) .skip))
 (.keep [1, 2, 7] [2, 7] (.reg [⟨(some 26), .mov (.tmp 1), none⟩, ⟨(some 27), .faddr 1 (.tmp 2), none⟩, ⟨(some 28), .load none (.tmp 27), none⟩, ⟨(some 29), .iaddrL 1 (.tmp 26) (.tmp 28), none⟩, ⟨(some 30), .load none (.tmp 29), none⟩, ⟨(some 4), .mov (.tmp 30), none⟩]))) .skip))
 (.seq (.keep [4, 7] [7] (.dreg [(false, ⟨(some 31), .mov (.tmp 4), none⟩, false), (false, ⟨(some 32), .faddr 5 (.tmp 7), none⟩, false), (false, ⟨(some 33), .load none (.tmp 32), none⟩, false), (false, ⟨(some 4), .mov (.tmp 31), none⟩, false), (false, ⟨(some 5), .mov (.tmp 33), none⟩, false), (false, ⟨(some 6), .mov (.val (.bool true)), none⟩, false)]))
 .ret)))))) }
def h15 : Hints := ⟨[2, 7, 8], [], []⟩
def a15_B1 : AC := (.seq (.reg [⟨(some 62), .bin .lss (.tmp 61) (.val (.int .i64 3)), none⟩])
 (.seq (.cond (.tmp 62) .skip (.exit 2))
 (.seq (.block 3 (.seq (.reg [⟨(some 63), .mov (.tmp 61), none⟩, ⟨(some 64), .idxA 3 1 false (.tmp 60) (.tmp 61), none⟩, ⟨(some 9), .mov (.tmp 63), none⟩, ⟨(some 10), .mov (.tmp 64), none⟩])
 (.seq (.seq (.reg [⟨(some 65), .mov (.tmp 9), none⟩, ⟨(some 66), .bin .add (.tmp 65) (.val (.int .i64 1)), none⟩, ⟨(some 67), .mov (.tmp 4), none⟩, ⟨(some 68), .lenL (.tmp 67), none⟩, ⟨(some 69), .bin .geq (.tmp 66) (.tmp 68), none⟩])
 (.cond (.tmp 69) (.exit 2) .skip))
 (.seq (.reg [⟨(some 70), .mov (.tmp 10), none⟩])
 (.block 4 (.seq (.reg [⟨(some 89), .bin .eql (.tmp 70) (.val (.int .i64 7)), none⟩, ⟨(some 88), .mov (.tmp 89), none⟩])
 (.cond (.tmp 88) (.dreg [(false, ⟨(some 90), .mov (.tmp 9), none⟩, false), (false, ⟨(some 91), .iaddrA 3 1 (.tmp 8) (.tmp 90), none⟩, false), (true, ⟨(some 92), .load none (.tmp 91), none⟩, false), (false, ⟨(some 93), .mov (.tmp 4), none⟩, false), (false, ⟨(some 94), .mov (.tmp 9), none⟩, false), (false, ⟨(some 95), .bin .add (.tmp 94) (.val (.int .i64 1)), none⟩, false), (false, ⟨(some 96), .iaddrL 1 (.tmp 93) (.tmp 95), none⟩, false), (false, ⟨(some 97), .load none (.tmp 96), none⟩, false), (true, ⟨(some 98), .call 41 [(.tmp 97), (.val (.fn 36 []))], none⟩, false), (false, ⟨(some 99), .nilck (.tmp 92), none⟩, false), (false, ⟨none, .store 1 (.tmp 99) (.tmp 98), none⟩, false)]) (.seq (.reg [⟨(some 101), .bin .eql (.tmp 70) (.val (.int .i64 8)), none⟩, ⟨(some 100), .mov (.tmp 101), none⟩])
 (.cond (.tmp 100) (.dreg [(false, ⟨(some 102), .mov (.tmp 9), none⟩, false), (false, ⟨(some 103), .iaddrA 3 1 (.tmp 8) (.tmp 102), none⟩, false), (true, ⟨(some 104), .load none (.tmp 103), none⟩, false), (false, ⟨(some 105), .mov (.tmp 4), none⟩, false), (false, ⟨(some 106), .mov (.tmp 9), none⟩, false), (false, ⟨(some 107), .bin .add (.tmp 106) (.val (.int .i64 1)), none⟩, false), (false, ⟨(some 108), .iaddrL 1 (.tmp 105) (.tmp 107), none⟩, false), (false, ⟨(some 109), .load none (.tmp 108), none⟩, false), (true, ⟨(some 110), .call 41 [(.tmp 109), (.val (.fn 37 []))], none⟩, false), (false, ⟨(some 111), .nilck (.tmp 104), none⟩, false), (false, ⟨none, .store 1 (.tmp 111) (.tmp 110), none⟩, false)]) (.seq (.reg [⟨(some 72), .mov (.tmp 4), none⟩, ⟨(some 73), .mov (.tmp 9), none⟩, ⟨(some 74), .bin .add (.tmp 73) (.val (.int .i64 1)), none⟩, ⟨(some 75), .iaddrL 1 (.tmp 72) (.tmp 74), none⟩, ⟨(some 76), .load none (.tmp 75), none⟩, ⟨(some 77), .call 42 [(.tmp 76)], none⟩, ⟨(some 71), .mov (.tmp 77), none⟩, ⟨(some 78), .ext (.tmp 71) 0, none⟩, ⟨(some 79), .ext (.tmp 71) 1, none⟩, ⟨(some 11), .mov (.tmp 78), none⟩, ⟨(some 12), .mov (.tmp 79), none⟩])
 (.seq (.seq (.reg [⟨(some 80), .mov (.tmp 12), none⟩, ⟨(some 81), .eq true (.nilI true) (.tmp 80) (.val .nili), none⟩])
 (.cond (.tmp 81) (.seq (.reg [⟨(some 82), .build [(.int .i64 0), (.int .i64 0), (.int .i64 0), (.int .i64 0)] [], none⟩, ⟨none, .store 4 (.tmp 2) (.tmp 82), none⟩, ⟨(some 3), .mov (.val (.int .i64 11)), none⟩])
 .ret) .skip))
 (.reg [⟨(some 83), .mov (.tmp 9), none⟩, ⟨(some 84), .iaddrA 3 1 (.tmp 8) (.tmp 83), none⟩, ⟨(some 85), .load none (.tmp 84), none⟩, ⟨(some 86), .mov (.tmp 11), none⟩, ⟨(some 87), .nilck (.tmp 85), none⟩, ⟨none, .store 1 (.tmp 87) (.tmp 86), none⟩]))))))))))))
 (.reg [⟨(some 112), .bin .add (.tmp 61) (.val (.int .i64 1)), none⟩, ⟨(some 61), .mov (.tmp 112), none⟩]))))
def a15_L1 : AC := .loop a15_B1
theorem a15_L1_step (call : Caller) (again : AC → St → Option (Ex × St)) (s : St) : codeEv call again a15_L1 s = match codeEv call again a15_B1 s with | some (.norm, s1) => again a15_L1 s1 | r => r := rfl
def a15_B2 : AC := (.seq (.seq (.reg [⟨(some 24), .mov (.tmp 6), none⟩, ⟨(some 25), .load none (.val (.ptr 0 0)), none⟩, ⟨(some 26), .lenL (.tmp 25), none⟩, ⟨(some 27), .bin .lss (.tmp 24) (.tmp 26), none⟩])
 (.cond (.tmp 27) .skip (.exit 0)))
 (.seq (.block 1 (.seq (.dreg [(false, ⟨(some 30), .load none (.val (.ptr 0 0)), none⟩, false), (false, ⟨(some 31), .mov (.tmp 6), none⟩, false), (false, ⟨(some 32), .iaddrL 6 (.tmp 30) (.tmp 31), none⟩, false), (false, ⟨(some 33), .faddr 0 (.tmp 32), none⟩, false), (false, ⟨(some 34), .load none (.tmp 33), none⟩, false), (false, ⟨(some 35), .mov (.tmp 4), none⟩, false), (false, ⟨(some 36), .iaddrL 1 (.tmp 35) (.val (.int .i64 0)), none⟩, false), (false, ⟨(some 37), .load none (.tmp 36), none⟩, false), (false, ⟨(some 38), .bin .eql (.tmp 34) (.tmp 37), none⟩, false)])
 (.cond (.tmp 38) (.reg [⟨(some 39), .mov (.tmp 6), none⟩, ⟨(some 40), .faddr 0 (.tmp 5), none⟩, ⟨none, .store 1 (.tmp 40) (.tmp 39), none⟩]) .skip)))
 (.reg [⟨(some 28), .mov (.tmp 6), none⟩, ⟨(some 29), .bin .add (.tmp 28) (.val (.int .i64 1)), none⟩, ⟨(some 6), .mov (.tmp 29), none⟩])))
def a15_L2 : AC := .loop a15_B2
theorem a15_L2_step (call : Caller) (again : AC → St → Option (Ex × St)) (s : St) : codeEv call again a15_L2 s = match codeEv call again a15_B2 s with | some (.norm, s1) => again a15_L2 s1 | r => r := rfl
def a15 : AFn := { n := 119, np := 1, res := [.cell 2 (some 4), .tmp 3], body :=
 (.seq (.reg [⟨(some 2), .alloc (some 2) [(.int .i64 0), (.int .i64 0), (.int .i64 0), (.int .i64 0)], none⟩, ⟨(some 3), .mov (.val (.int .i64 0)), none⟩])
 (.seq (.reg [⟨(some 13), .mov (.tmp 0), none⟩, ⟨(some 14), .call 40 [(.tmp 13)], none⟩, ⟨(some 4), .mov (.tmp 14), none⟩])
 (.seq (.seq (.reg [⟨(some 15), .mov (.tmp 4), none⟩, ⟨(some 16), .lenL (.tmp 15), none⟩, ⟨(some 17), .bin .eql (.tmp 16) (.val (.int .i64 0)), none⟩, ⟨(some 18), .mov (.tmp 17), none⟩, ⟨(some 19), .mov (.tmp 4), (some (18, false))⟩, ⟨(some 20), .lenL (.tmp 19), (some (18, false))⟩, ⟨(some 21), .bin .gtr (.tmp 20) (.val (.int .i64 4)), (some (18, false))⟩, ⟨(some 22), .pick (.tmp 18) (.val (.bool true)) (.tmp 21), none⟩])
 (.cond (.tmp 22) (.seq (.reg [⟨(some 23), .build [(.int .i64 0), (.int .i64 0), (.int .i64 0), (.int .i64 0)] [], none⟩, ⟨none, .store 4 (.tmp 2) (.tmp 23), none⟩, ⟨(some 3), .mov (.val (.int .i64 11)), none⟩])
 .ret) .skip))
 (.seq (.reg [⟨(some 5), .alloc none [(.int .i64 0), (.int .i64 0), (.int .i64 0), (.int .i64 0)], none⟩])
 (.seq (.seq (.reg [⟨(some 6), .mov (.val (.int .i64 1)), none⟩])
 (.block 0 a15_L2))
 (.seq (.seq (.reg [⟨(some 41), .faddr 0 (.tmp 5), none⟩, ⟨(some 42), .load none (.tmp 41), none⟩, ⟨(some 43), .bin .eql (.tmp 42) (.val (.int .i64 0)), none⟩])
 (.cond (.tmp 43) (.seq (.reg [⟨(some 44), .build [(.int .i64 0), (.int .i64 0), (.int .i64 0), (.int .i64 0)] [], none⟩, ⟨none, .store 4 (.tmp 2) (.tmp 44), none⟩, ⟨(some 3), .mov (.val (.int .i64 11)), none⟩])
 .ret) .skip))
 (.seq (.reg [⟨(some 45), .load none (.val (.ptr 0 0)), none⟩, ⟨(some 46), .faddr 0 (.tmp 5), none⟩, ⟨(some 47), .load none (.tmp 46), none⟩, ⟨(some 48), .iaddrL 6 (.tmp 45) (.tmp 47), none⟩, ⟨(some 49), .load (some 6) (.tmp 48), none⟩, ⟨(some 7), .alloc (some 7) [(.str ⟨#[]⟩), (.int .i64 0), (.int .i64 0), (.int .i64 0), (.int .i64 0), (.int .i64 0)], none⟩, ⟨none, .store 6 (.tmp 7) (.tmp 49), none⟩])
 (.seq (.reg [⟨(some 50), .faddr 1 (.tmp 5), none⟩, ⟨(some 51), .faddr 2 (.tmp 5), none⟩, ⟨(some 52), .faddr 3 (.tmp 5), none⟩, ⟨(some 53), .build [.nilp, .nilp, .nilp] [(0, 1, (.tmp 50)), (1, 1, (.tmp 51)), (2, 1, (.tmp 52))], none⟩, ⟨(some 8), .alloc (some 8) [.nilp, .nilp, .nilp], none⟩, ⟨none, .store 3 (.tmp 8) (.tmp 53), none⟩])
 (.seq (.seq (.reg [⟨(some 54), .faddr 1 (.tmp 7), none⟩, ⟨(some 55), .load none (.tmp 54), none⟩, ⟨(some 56), .faddr 2 (.tmp 7), none⟩, ⟨(some 57), .load none (.tmp 56), none⟩, ⟨(some 58), .faddr 3 (.tmp 7), none⟩, ⟨(some 59), .load none (.tmp 58), none⟩, ⟨(some 60), .build [(.int .i64 0), (.int .i64 0), (.int .i64 0)] [(0, 1, (.tmp 55)), (1, 1, (.tmp 57)), (2, 1, (.tmp 59))], none⟩, ⟨(some 61), .mov (.val (.int .i64 0)), none⟩])
 (.block 2 a15_L1))
 (.seq (.seq (.reg [⟨(some 113), .load (some 4) (.tmp 5), none⟩, ⟨(some 114), .call 13 [(.tmp 113)], none⟩, ⟨(some 115), .mov (.tmp 0), none⟩, ⟨(some 116), .bin .neq (.tmp 114) (.tmp 115), none⟩])
 (.cond (.tmp 116) (.seq (.reg [⟨(some 117), .build [(.int .i64 0), (.int .i64 0), (.int .i64 0), (.int .i64 0)] [], none⟩, ⟨none, .store 4 (.tmp 2) (.tmp 117), none⟩, ⟨(some 3), .mov (.val (.int .i64 11)), none⟩])
 .ret) .skip))
 (.seq (.reg [⟨(some 118), .load (some 4) (.tmp 5), none⟩, ⟨none, .store 4 (.tmp 2) (.tmp 118), none⟩, ⟨(some 3), .mov (.val (.int .i64 0)), none⟩])
 .ret))))))))))) }
def h35 : Hints := ⟨[], [(0, [0, 1], []), (1, [0, 1], []), (2, [1, 5], []), (3, [1], []), (4, [1, 5], []), (5, [1], []), (6, [1, 5], []), (7, [1], []), (8, [1, 5], []), (9, [1], []), (10, [1, 5], []), (11, [1], []), (12, [1, 5], []), (13, [1], []), (14, [1, 5], []), (15, [1], []), (16, [1, 5], []), (17, [1], []), (18, [1], [])], []⟩
def a35 : AFn := { n := 70, np := 2, res := [.tmp 4], body :=
 (.seq (.keep [0, 1] [] (.reg [⟨(some 4), .mov (.val (.bool false)), none⟩]))
 (.seq (.seq (.keep [0, 1] [] (.reg [⟨(some 5), .mov (.tmp 0), none⟩]))
 (.block 0 (.seq (.keep [1, 5] [] (.reg [⟨(some 7), .bin .eql (.tmp 5) (.val (.int .i64 0)), none⟩, ⟨(some 6), .mov (.tmp 7), none⟩]))
 (.cond (.tmp 6) (.seq (.keep [1] [] (.reg [⟨(some 8), .mov (.tmp 1), none⟩, ⟨(some 9), .bin .eql (.tmp 8) (.val (.int .i64 0)), none⟩, ⟨(some 4), .mov (.tmp 9), none⟩]))
 .ret) (.seq (.keep [1, 5] [] (.reg [⟨(some 11), .bin .eql (.tmp 5) (.val (.int .i64 1)), none⟩, ⟨(some 10), .mov (.tmp 11), none⟩]))
 (.cond (.tmp 10) (.seq (.keep [1] [] (.reg [⟨(some 12), .mov (.tmp 1), none⟩, ⟨(some 13), .bin .geq (.tmp 12) (.val (.int .i64 0)), none⟩, ⟨(some 14), .mov (.tmp 13), none⟩, ⟨(some 15), .mov (.tmp 1), (some (14, true))⟩, ⟨(some 16), .bin .leq (.tmp 15) (.val (.int .i64 1048576)), (some (14, true))⟩, ⟨(some 17), .pick (.tmp 14) (.tmp 16) (.val (.bool false)), none⟩, ⟨(some 4), .mov (.tmp 17), none⟩]))
 .ret) (.seq (.keep [1, 5] [] (.reg [⟨(some 19), .bin .eql (.tmp 5) (.val (.int .i64 2)), none⟩, ⟨(some 18), .mov (.tmp 19), none⟩]))
 (.cond (.tmp 18) (.seq (.keep [1] [] (.reg [⟨(some 20), .mov (.tmp 1), none⟩, ⟨(some 21), .bin .geq (.tmp 20) (.val (.int .i64 0)), none⟩, ⟨(some 22), .mov (.tmp 21), none⟩, ⟨(some 23), .mov (.tmp 1), (some (22, true))⟩, ⟨(some 24), .bin .leq (.tmp 23) (.val (.int .i64 4294967295)), (some (22, true))⟩, ⟨(some 25), .pick (.tmp 22) (.tmp 24) (.val (.bool false)), none⟩, ⟨(some 4), .mov (.tmp 25), none⟩]))
 .ret) (.seq (.keep [1, 5] [] (.reg [⟨(some 27), .bin .eql (.tmp 5) (.val (.int .i64 3)), none⟩, ⟨(some 26), .mov (.tmp 27), none⟩]))
 (.cond (.tmp 26) (.seq (.keep [1] [] (.reg [⟨(some 28), .mov (.tmp 1), none⟩, ⟨(some 29), .bin .eql (.tmp 28) (.val (.int .i64 8)), none⟩, ⟨(some 30), .mov (.tmp 29), none⟩, ⟨(some 31), .mov (.tmp 1), (some (30, false))⟩, ⟨(some 32), .bin .eql (.tmp 31) (.val (.int .i64 16)), (some (30, false))⟩, ⟨(some 33), .pick (.tmp 30) (.val (.bool true)) (.tmp 32), none⟩, ⟨(some 34), .mov (.tmp 33), none⟩, ⟨(some 35), .mov (.tmp 1), (some (34, false))⟩, ⟨(some 36), .bin .eql (.tmp 35) (.val (.int .i64 32)), (some (34, false))⟩, ⟨(some 37), .pick (.tmp 34) (.val (.bool true)) (.tmp 36), none⟩, ⟨(some 4), .mov (.tmp 37), none⟩]))
 .ret) (.seq (.keep [1, 5] [] (.reg [⟨(some 39), .bin .eql (.tmp 5) (.val (.int .i64 4)), none⟩, ⟨(some 38), .mov (.tmp 39), none⟩]))
 (.cond (.tmp 38) (.seq (.keep [1] [] (.reg [⟨(some 40), .mov (.tmp 1), none⟩, ⟨(some 41), .bin .geq (.tmp 40) (.val (.int .i64 1)), none⟩, ⟨(some 42), .mov (.tmp 41), none⟩, ⟨(some 43), .mov (.tmp 1), (some (42, true))⟩, ⟨(some 44), .bin .leq (.tmp 43) (.val (.int .i64 1048576)), (some (42, true))⟩, ⟨(some 45), .pick (.tmp 42) (.tmp 44) (.val (.bool false)), none⟩, ⟨(some 4), .mov (.tmp 45), none⟩]))
 .ret) (.seq (.keep [1, 5] [] (.reg [⟨(some 47), .bin .eql (.tmp 5) (.val (.int .i64 5)), none⟩, ⟨(some 46), .mov (.tmp 47), none⟩]))
 (.cond (.tmp 46) (.seq (.keep [1] [] (.reg [⟨(some 48), .mov (.tmp 1), none⟩, ⟨(some 49), .bin .geq (.tmp 48) (.val (.int .i64 0)), none⟩, ⟨(some 50), .mov (.tmp 49), none⟩, ⟨(some 51), .mov (.tmp 1), (some (50, true))⟩, ⟨(some 52), .bin .leq (.tmp 51) (.val (.int .i64 31)), (some (50, true))⟩, ⟨(some 53), .pick (.tmp 50) (.tmp 52) (.val (.bool false)), none⟩, ⟨(some 4), .mov (.tmp 53), none⟩]))
 .ret) (.seq (.keep [1, 5] [] (.reg [⟨(some 55), .bin .eql (.tmp 5) (.val (.int .i64 6)), none⟩, ⟨(some 54), .mov (.tmp 55), none⟩]))
 (.cond (.tmp 54) (.seq (.keep [1] [] (.reg [⟨(some 56), .mov (.tmp 1), none⟩, ⟨(some 57), .bin .geq (.tmp 56) (.val (.int .i64 0)), none⟩, ⟨(some 58), .mov (.tmp 57), none⟩, ⟨(some 59), .mov (.tmp 1), (some (58, true))⟩, ⟨(some 60), .bin .leq (.tmp 59) (.val (.int .i64 15)), (some (58, true))⟩, ⟨(some 61), .pick (.tmp 58) (.tmp 60) (.val (.bool false)), none⟩, ⟨(some 4), .mov (.tmp 61), none⟩]))
 .ret) (.seq (.keep [1, 5] [] (.reg [⟨(some 63), .bin .eql (.tmp 5) (.val (.int .i64 7)), none⟩, ⟨(some 62), .mov (.tmp 63), none⟩]))
 (.cond (.tmp 62) (.seq (.keep [1] [] (.reg [⟨(some 64), .mov (.tmp 1), none⟩, ⟨(some 65), .call 36 [(.tmp 64)], none⟩, ⟨(some 66), .bin .neq (.tmp 65) (.val (.str ⟨#[]⟩)), none⟩, ⟨(some 4), .mov (.tmp 66), none⟩]))
 .ret) .skip))))))))))))))))))
 (.seq (.keep [1] [] (.reg [⟨(some 67), .mov (.tmp 1), none⟩, ⟨(some 68), .call 37 [(.tmp 67)], none⟩, ⟨(some 69), .bin .neq (.tmp 68) (.val (.str ⟨#[]⟩)), none⟩, ⟨(some 4), .mov (.tmp 69), none⟩]))
 .ret))) }
def h36 : Hints := ⟨[], [(0, [0], []), (1, [0], []), (2, [], []), (3, [0], [])], []⟩
def a36 : AFn := { n := 9, np := 1, res := [.tmp 2], body :=
 (.seq (.keep [0] [] (.reg [⟨(some 2), .mov (.val (.str ⟨#[]⟩)), none⟩]))
 (.seq (.seq (.keep [0] [] (.reg [⟨(some 3), .mov (.tmp 0), none⟩, ⟨(some 4), .call 62 [(.tmp 3)], none⟩, ⟨(some 5), .un .not (.tmp 4), none⟩]))
 (.cond (.tmp 5) (.seq (.keep [] [] (.reg [⟨(some 2), .mov (.val (.str ⟨#[]⟩)), none⟩]))
 .ret) .skip))
 (.seq (.keep [0] [] (.reg [⟨(some 6), .mov (.tmp 0), none⟩, ⟨(some 7), .iaddrA 20 1 (.val (.ptr 2 0)) (.tmp 6), none⟩, ⟨(some 8), .load none (.tmp 7), none⟩, ⟨(some 2), .mov (.tmp 8), none⟩]))
 .ret))) }
def h37 : Hints := ⟨[], [(0, [0], []), (1, [0], []), (2, [3], []), (3, [], []), (4, [3], []), (5, [], []), (6, [3], []), (7, [], []), (8, [], [])], []⟩
def a37 : AFn := { n := 10, np := 1, res := [.tmp 2], body :=
 (.seq (.keep [0] [] (.reg [⟨(some 2), .mov (.val (.str ⟨#[]⟩)), none⟩]))
 (.seq (.seq (.keep [0] [] (.reg [⟨(some 3), .mov (.tmp 0), none⟩]))
 (.block 0 (.seq (.keep [3] [] (.reg [⟨(some 5), .bin .eql (.tmp 3) (.val (.int .i64 1)), none⟩, ⟨(some 4), .mov (.tmp 5), none⟩]))
 (.cond (.tmp 4) (.seq (.keep [] [] (.reg [⟨(some 2), .mov (.val (.str ⟨#[110, 101, 103]⟩)), none⟩]))
 .ret) (.seq (.keep [3] [] (.reg [⟨(some 7), .bin .eql (.tmp 3) (.val (.int .i64 2)), none⟩, ⟨(some 6), .mov (.tmp 7), none⟩]))
 (.cond (.tmp 6) (.seq (.keep [] [] (.reg [⟨(some 2), .mov (.val (.str ⟨#[110, 111, 116]⟩)), none⟩]))
 .ret) (.seq (.keep [3] [] (.reg [⟨(some 9), .bin .eql (.tmp 3) (.val (.int .i64 3)), none⟩, ⟨(some 8), .mov (.tmp 9), none⟩]))
 (.cond (.tmp 8) (.seq (.keep [] [] (.reg [⟨(some 2), .mov (.val (.str ⟨#[122, 101, 114, 111]⟩)), none⟩]))
 .ret) .skip))))))))
 (.seq (.keep [] [] (.reg [⟨(some 2), .mov (.val (.str ⟨#[]⟩)), none⟩]))
 .ret))) }
def h40 : Hints := ⟨[], [], []⟩
def a40_B1 : AC := (.seq (.seq (.reg [⟨(some 80), .mov (.tmp 12), none⟩, ⟨(some 81), .mov (.tmp 0), none⟩, ⟨(some 82), .lenS (.tmp 81), none⟩, ⟨(some 83), .bin .lss (.tmp 80) (.tmp 82), none⟩, ⟨(some 84), .mov (.tmp 83), none⟩, ⟨(some 85), .mov (.tmp 0), (some (84, true))⟩, ⟨(some 86), .mov (.tmp 12), (some (84, true))⟩, ⟨(some 87), .idxS (.tmp 85) (.tmp 86), (some (84, true))⟩, ⟨(some 88), .iaddrA 256 1 (.val (.ptr 3 0)) (.tmp 87), (some (84, true))⟩, ⟨(some 89), .load none (.tmp 88), (some (84, true))⟩, ⟨(some 90), .bin .neq (.tmp 89) (.val (.int .u8 0)), (some (84, true))⟩, ⟨(some 91), .pick (.tmp 84) (.tmp 90) (.val (.bool false)), none⟩])
 (.cond (.tmp 91) .skip (.exit 6)))
 (.block 7 (.reg [⟨(some 92), .mov (.tmp 12), none⟩, ⟨(some 93), .bin .add (.tmp 92) (.val (.int .i64 1)), none⟩, ⟨(some 12), .mov (.tmp 93), none⟩])))
def a40_L1 : AC := .loop a40_B1
theorem a40_L1_step (call : Caller) (again : AC → St → Option (Ex × St)) (s : St) : codeEv call again a40_L1 s = match codeEv call again a40_B1 s with | some (.norm, s1) => again a40_L1 s1 | r => r := rfl
def a40_B2 : AC := (.seq (.seq (.reg [⟨(some 57), .mov (.tmp 12), none⟩, ⟨(some 58), .mov (.tmp 0), none⟩, ⟨(some 59), .lenS (.tmp 58), none⟩, ⟨(some 60), .bin .lss (.tmp 57) (.tmp 59), none⟩])
 (.cond (.tmp 60) .skip (.exit 4)))
 (.block 5 (.seq (.seq (.reg [⟨(some 61), .mov (.tmp 0), none⟩, ⟨(some 62), .mov (.tmp 12), none⟩, ⟨(some 63), .idxS (.tmp 61) (.tmp 62), none⟩, ⟨(some 64), .iaddrA 256 1 (.val (.ptr 3 0)) (.tmp 63), none⟩, ⟨(some 65), .load none (.tmp 64), none⟩, ⟨(some 66), .bin .eql (.tmp 65) (.val (.int .u8 0)), none⟩])
 (.cond (.tmp 66) (.seq (.reg [⟨(some 67), .mov (.tmp 12), none⟩, ⟨(some 68), .bin .add (.tmp 67) (.val (.int .i64 1)), none⟩, ⟨(some 12), .mov (.tmp 68), none⟩])
 (.exit 5)) .skip))
 (.seq (.reg [⟨(some 69), .mov (.tmp 9), none⟩, ⟨(some 70), .mov (.tmp 10), none⟩, ⟨(some 71), .mov (.tmp 0), none⟩, ⟨(some 72), .mov (.tmp 11), none⟩, ⟨(some 73), .mov (.tmp 12), none⟩, ⟨(some 74), .slcS (.tmp 71) (some (.tmp 72)) (some (.tmp 73)), none⟩, ⟨(some 75), .iaddrL 1 (.tmp 69) (.tmp 70), none⟩, ⟨none, .store 1 (.tmp 75) (.tmp 74), none⟩])
 (.seq (.reg [⟨(some 76), .mov (.tmp 10), none⟩, ⟨(some 77), .bin .add (.tmp 76) (.val (.int .i64 1)), none⟩, ⟨(some 10), .mov (.tmp 77), none⟩])
 (.seq (.reg [⟨(some 78), .mov (.tmp 12), none⟩, ⟨(some 79), .bin .add (.tmp 78) (.val (.int .i64 1)), none⟩, ⟨(some 12), .mov (.tmp 79), none⟩])
 (.seq (.block 6 a40_L1)
 (.reg [⟨(some 94), .mov (.tmp 12), none⟩, ⟨(some 11), .mov (.tmp 94), none⟩]))))))))
def a40_L2 : AC := .loop a40_B2
theorem a40_L2_step (call : Caller) (again : AC → St → Option (Ex × St)) (s : St) : codeEv call again a40_L2 s = match codeEv call again a40_B2 s with | some (.norm, s1) => again a40_L2 s1 | r => r := rfl
def a40_B3 : AC := (.seq (.seq (.reg [⟨(some 42), .mov (.tmp 12), none⟩, ⟨(some 43), .mov (.tmp 0), none⟩, ⟨(some 44), .lenS (.tmp 43), none⟩, ⟨(some 45), .bin .lss (.tmp 42) (.tmp 44), none⟩, ⟨(some 46), .mov (.tmp 45), none⟩, ⟨(some 47), .mov (.tmp 0), (some (46, true))⟩, ⟨(some 48), .mov (.tmp 12), (some (46, true))⟩, ⟨(some 49), .idxS (.tmp 47) (.tmp 48), (some (46, true))⟩, ⟨(some 50), .iaddrA 256 1 (.val (.ptr 3 0)) (.tmp 49), (some (46, true))⟩, ⟨(some 51), .load none (.tmp 50), (some (46, true))⟩, ⟨(some 52), .bin .neq (.tmp 51) (.val (.int .u8 0)), (some (46, true))⟩, ⟨(some 53), .pick (.tmp 46) (.tmp 52) (.val (.bool false)), none⟩])
 (.cond (.tmp 53) .skip (.exit 2)))
 (.block 3 (.reg [⟨(some 54), .mov (.tmp 12), none⟩, ⟨(some 55), .bin .add (.tmp 54) (.val (.int .i64 1)), none⟩, ⟨(some 12), .mov (.tmp 55), none⟩])))
def a40_L3 : AC := .loop a40_B3
theorem a40_L3_step (call : Caller) (again : AC → St → Option (Ex × St)) (s : St) : codeEv call again a40_L3 s = match codeEv call again a40_B3 s with | some (.norm, s1) => again a40_L3 s1 | r => r := rfl
def a40_B4 : AC := (.seq (.seq (.reg [⟨(some 13), .mov (.tmp 6), none⟩, ⟨(some 14), .mov (.tmp 0), none⟩, ⟨(some 15), .lenS (.tmp 14), none⟩, ⟨(some 16), .bin .lss (.tmp 13) (.tmp 15), none⟩])
 (.cond (.tmp 16) .skip (.exit 0)))
 (.seq (.block 1 (.seq (.reg [⟨(some 19), .mov (.tmp 0), none⟩, ⟨(some 20), .mov (.tmp 6), none⟩, ⟨(some 21), .idxS (.tmp 19) (.tmp 20), none⟩, ⟨(some 7), .mov (.tmp 21), none⟩])
 (.seq (.reg [⟨(some 22), .mov (.tmp 5), none⟩, ⟨(some 23), .mov (.tmp 7), none⟩, ⟨(some 24), .bin .or (.tmp 22) (.tmp 23), none⟩, ⟨(some 5), .mov (.tmp 24), none⟩])
 (.seq (.reg [⟨(some 25), .mov (.tmp 7), none⟩, ⟨(some 26), .iaddrA 256 1 (.val (.ptr 3 0)) (.tmp 25), none⟩, ⟨(some 27), .load none (.tmp 26), none⟩, ⟨(some 28), .conv .i64 (.tmp 27), none⟩, ⟨(some 8), .mov (.tmp 28), none⟩])
 (.seq (.reg [⟨(some 29), .mov (.tmp 3), none⟩, ⟨(some 30), .mov (.tmp 4), none⟩, ⟨(some 31), .mov (.tmp 8), none⟩, ⟨(some 32), .un .xor (.tmp 31), none⟩, ⟨(some 33), .bin .and (.tmp 30) (.tmp 32), none⟩, ⟨(some 34), .bin .add (.tmp 29) (.tmp 33), none⟩, ⟨(some 3), .mov (.tmp 34), none⟩])
 (.reg [⟨(some 35), .mov (.tmp 8), none⟩, ⟨(some 4), .mov (.tmp 35), none⟩]))))))
 (.reg [⟨(some 17), .mov (.tmp 6), none⟩, ⟨(some 18), .bin .add (.tmp 17) (.val (.int .i64 1)), none⟩, ⟨(some 6), .mov (.tmp 18), none⟩])))
def a40_L4 : AC := .loop a40_B4
theorem a40_L4_step (call : Caller) (again : AC → St → Option (Ex × St)) (s : St) : codeEv call again a40_L4 s = match codeEv call again a40_B4 s with | some (.norm, s1) => again a40_L4 s1 | r => r := rfl
def a40 : AFn := { n := 106, np := 1, res := [.tmp 2], body :=
 (.seq (.reg [⟨(some 2), .mov (.val .nils), none⟩])
 (.seq (.reg [⟨(some 3), .mov (.val (.int .i64 0)), none⟩])
 (.seq (.reg [⟨(some 4), .mov (.val (.int .i64 1)), none⟩])
 (.seq (.reg [⟨(some 5), .mov (.val (.int .u8 0)), none⟩])
 (.seq (.seq (.reg [⟨(some 6), .mov (.val (.int .i64 0)), none⟩])
 (.block 0 a40_L4))
 (.seq (.seq (.reg [⟨(some 36), .mov (.tmp 5), none⟩, ⟨(some 37), .bin .geq (.tmp 36) (.val (.int .u8 128)), none⟩])
 (.cond (.tmp 37) (.seq (.reg [⟨(some 38), .mov (.tmp 0), none⟩, ⟨(some 39), .call 67 [(.tmp 38), (.val (.fn 68 []))], none⟩, ⟨(some 2), .mov (.tmp 39), none⟩])
 .ret) .skip))
 (.seq (.reg [⟨(some 40), .mov (.tmp 3), none⟩, ⟨(some 41), .make 1 16 [(.str ⟨#[]⟩)] (.tmp 40) (.tmp 40), none⟩, ⟨(some 9), .mov (.tmp 41), none⟩])
 (.seq (.reg [⟨(some 10), .mov (.val (.int .i64 0)), none⟩])
 (.seq (.reg [⟨(some 11), .mov (.val (.int .i64 0)), none⟩])
 (.seq (.reg [⟨(some 12), .mov (.val (.int .i64 0)), none⟩])
 (.seq (.block 2 a40_L3)
 (.seq (.reg [⟨(some 56), .mov (.tmp 12), none⟩, ⟨(some 11), .mov (.tmp 56), none⟩])
 (.seq (.block 4 a40_L2)
 (.seq (.seq (.reg [⟨(some 95), .mov (.tmp 11), none⟩, ⟨(some 96), .mov (.tmp 0), none⟩, ⟨(some 97), .lenS (.tmp 96), none⟩, ⟨(some 98), .bin .lss (.tmp 95) (.tmp 97), none⟩])
 (.cond (.tmp 98) (.reg [⟨(some 99), .mov (.tmp 9), none⟩, ⟨(some 100), .mov (.tmp 10), none⟩, ⟨(some 101), .mov (.tmp 0), none⟩, ⟨(some 102), .mov (.tmp 11), none⟩, ⟨(some 103), .slcS (.tmp 101) (some (.tmp 102)) none, none⟩, ⟨(some 104), .iaddrL 1 (.tmp 99) (.tmp 100), none⟩, ⟨none, .store 1 (.tmp 104) (.tmp 103), none⟩]) .skip))
 (.seq (.reg [⟨(some 105), .mov (.tmp 9), none⟩, ⟨(some 2), .mov (.tmp 105), none⟩])
 .ret))))))))))))))) }
def h41 : Hints := ⟨[], [], []⟩
def a41_B1 : AC := (.seq (.seq (.reg [⟨(some 6), .mov (.tmp 1), none⟩, ⟨(some 7), .mov (.tmp 5), none⟩, ⟨(some 8), .callv (.tmp 6) [(.tmp 7)], none⟩, ⟨(some 9), .bin .neq (.tmp 8) (.val (.str ⟨#[]⟩)), none⟩])
 (.cond (.tmp 9) .skip (.exit 0)))
 (.seq (.block 1 (.seq (.reg [⟨(some 12), .mov (.tmp 1), none⟩, ⟨(some 13), .mov (.tmp 5), none⟩, ⟨(some 14), .callv (.tmp 12) [(.tmp 13)], none⟩, ⟨(some 15), .mov (.tmp 0), none⟩, ⟨(some 16), .bin .eql (.tmp 14) (.tmp 15), none⟩])
 (.cond (.tmp 16) (.seq (.reg [⟨(some 17), .mov (.tmp 5), none⟩, ⟨(some 4), .mov (.tmp 17), none⟩])
 .ret) .skip)))
 (.reg [⟨(some 10), .mov (.tmp 5), none⟩, ⟨(some 11), .bin .add (.tmp 10) (.val (.int .i64 1)), none⟩, ⟨(some 5), .mov (.tmp 11), none⟩])))
def a41_L1 : AC := .loop a41_B1
theorem a41_L1_step (call : Caller) (again : AC → St → Option (Ex × St)) (s : St) : codeEv call again a41_L1 s = match codeEv call again a41_B1 s with | some (.norm, s1) => again a41_L1 s1 | r => r := rfl
def a41 : AFn := { n := 18, np := 2, res := [.tmp 4], body :=
 (.seq (.reg [⟨(some 4), .mov (.val (.int .i64 0)), none⟩])
 (.seq (.seq (.reg [⟨(some 5), .mov (.val (.int .i64 1)), none⟩])
 (.block 0 a41_L1))
 (.seq (.reg [⟨(some 4), .mov (.val (.int .i64 0)), none⟩])
 .ret))) }
def h42 : Hints := ⟨[], [], []⟩
def a42 : AFn := { n := 18, np := 1, res := [.tmp 2, .tmp 3], body :=
 (.seq (.reg [⟨(some 2), .mov (.val (.int .i64 0)), none⟩, ⟨(some 3), .mov (.val .nili), none⟩])
 (.seq (.reg [⟨(some 7), .mov (.tmp 0), none⟩, ⟨(some 8), .call 69 [(.tmp 7)], none⟩, ⟨(some 6), .mov (.tmp 8), none⟩, ⟨(some 9), .ext (.tmp 6) 0, none⟩, ⟨(some 10), .ext (.tmp 6) 1, none⟩, ⟨(some 4), .mov (.tmp 9), none⟩, ⟨(some 5), .mov (.tmp 10), none⟩])
 (.seq (.seq (.reg [⟨(some 11), .mov (.tmp 5), none⟩, ⟨(some 12), .eq true (.nilI true) (.tmp 11) (.val .nili), none⟩])
 (.cond (.tmp 12) (.seq (.reg [⟨(some 13), .mov (.tmp 4), none⟩, ⟨(some 14), .mov (.tmp 0), none⟩, ⟨(some 15), .mov (.tmp 5), none⟩, ⟨(some 16), .call 70 [(.val (.str ⟨#[65, 116, 111, 105]⟩)), (.tmp 14), (.val (.int .i64 0)), (.val (.int .i64 0)), (.tmp 15)], none⟩, ⟨(some 2), .mov (.tmp 13), none⟩, ⟨(some 3), .mov (.tmp 16), none⟩])
 .ret) .skip))
 (.seq (.reg [⟨(some 17), .mov (.tmp 4), none⟩, ⟨(some 2), .mov (.tmp 17), none⟩, ⟨(some 3), .mov (.val .nili), none⟩])
 .ret)))) }
def h62 : Hints := ⟨[], [(0, [0], []), (1, [0], [])], []⟩
def a62 : AFn := { n := 9, np := 1, res := [.tmp 2], body :=
 (.seq (.keep [0] [] (.reg [⟨(some 2), .mov (.val (.bool false)), none⟩]))
 (.seq (.keep [0] [] (.reg [⟨(some 3), .mov (.tmp 0), none⟩, ⟨(some 4), .bin .geq (.tmp 3) (.val (.int .i64 1)), none⟩, ⟨(some 5), .mov (.tmp 4), none⟩, ⟨(some 6), .mov (.tmp 0), (some (5, true))⟩, ⟨(some 7), .bin .leq (.tmp 6) (.val (.int .i64 19)), (some (5, true))⟩, ⟨(some 8), .pick (.tmp 5) (.tmp 7) (.val (.bool false)), none⟩, ⟨(some 2), .mov (.tmp 8), none⟩]))
 .ret)) }
def h67 : Hints := ⟨[11], [], []⟩
def a67_B1 : AC := (.seq (.reg [⟨(some 50), .bin .lss (.tmp 49) (.tmp 48), none⟩])
 (.seq (.cond (.tmp 50) .skip (.exit 2))
 (.seq (.block 3 (.seq (.reg [⟨(some 51), .mov (.tmp 49), none⟩, ⟨(some 52), .iaddrL 2 (.tmp 47) (.tmp 49), none⟩, ⟨(some 53), .load (some 2) (.tmp 52), none⟩, ⟨(some 11), .alloc (some 11) [(.int .i64 0), (.int .i64 0)], none⟩, ⟨(some 10), .mov (.tmp 51), none⟩, ⟨none, .store 2 (.tmp 11) (.tmp 53), none⟩])
 (.reg [⟨(some 54), .mov (.tmp 9), none⟩, ⟨(some 55), .mov (.tmp 10), none⟩, ⟨(some 56), .mov (.tmp 0), none⟩, ⟨(some 57), .faddr 0 (.tmp 11), none⟩, ⟨(some 58), .load none (.tmp 57), none⟩, ⟨(some 59), .faddr 1 (.tmp 11), none⟩, ⟨(some 60), .load none (.tmp 59), none⟩, ⟨(some 61), .slcS (.tmp 56) (some (.tmp 58)) (some (.tmp 60)), none⟩, ⟨(some 62), .iaddrL 1 (.tmp 54) (.tmp 55), none⟩, ⟨none, .store 1 (.tmp 62) (.tmp 61), none⟩])))
 (.reg [⟨(some 63), .bin .add (.tmp 49) (.val (.int .i64 1)), none⟩, ⟨(some 49), .mov (.tmp 63), none⟩]))))
def a67_L1 : AC := .loop a67_B1
theorem a67_L1_step (call : Caller) (again : AC → St → Option (Ex × St)) (s : St) : codeEv call again a67_L1 s = match codeEv call again a67_B1 s with | some (.norm, s1) => again a67_L1 s1 | r => r := rfl
def a67_B2 : AC := (.seq (.reg [⟨(some 15), .xm (.nxtS) [(.tmp 14)], none⟩, ⟨(some 16), .ext (.tmp 15) 0, none⟩])
 (.seq (.cond (.tmp 16) .skip (.exit 0))
 (.block 1 (.seq (.reg [⟨(some 17), .ext (.tmp 15) 1, none⟩, ⟨(some 18), .ext (.tmp 15) 2, none⟩, ⟨(some 7), .mov (.tmp 17), none⟩, ⟨(some 8), .mov (.tmp 18), none⟩])
 (.seq (.reg [⟨(some 19), .mov (.tmp 1), none⟩, ⟨(some 20), .mov (.tmp 8), none⟩, ⟨(some 21), .callv (.tmp 19) [(.tmp 20)], none⟩])
 (.cond (.tmp 21) (.seq (.reg [⟨(some 22), .mov (.tmp 6), none⟩, ⟨(some 23), .bin .geq (.tmp 22) (.val (.int .i64 0)), none⟩])
 (.cond (.tmp 23) (.seq (.reg [⟨(some 24), .mov (.tmp 5), none⟩, ⟨(some 25), .mov (.tmp 6), none⟩, ⟨(some 26), .mov (.tmp 7), none⟩, ⟨(some 27), .build [(.int .i64 0), (.int .i64 0)] [(0, 1, (.tmp 25)), (1, 1, (.tmp 26))], none⟩, ⟨(some 28), .mkslc 2 1 [(.int .i64 0), (.int .i64 0)] [(0, (.tmp 27))], none⟩, ⟨(some 29), .app none 2 16 (.tmp 24) (.tmp 28), none⟩, ⟨(some 5), .mov (.tmp 29), none⟩])
 (.reg [⟨(some 30), .mov (.tmp 6), none⟩, ⟨(some 31), .un .xor (.tmp 30), none⟩, ⟨(some 6), .mov (.tmp 31), none⟩])) .skip)) (.seq (.reg [⟨(some 32), .mov (.tmp 6), none⟩, ⟨(some 33), .bin .lss (.tmp 32) (.val (.int .i64 0)), none⟩])
 (.cond (.tmp 33) (.reg [⟨(some 34), .mov (.tmp 7), none⟩, ⟨(some 6), .mov (.tmp 34), none⟩]) .skip))))))))
def a67_L2 : AC := .loop a67_B2
theorem a67_L2_step (call : Caller) (again : AC → St → Option (Ex × St)) (s : St) : codeEv call again a67_L2 s = match codeEv call again a67_B2 s with | some (.norm, s1) => again a67_L2 s1 | r => r := rfl
def a67 : AFn := { n := 65, np := 2, res := [.tmp 4], body :=
 (.seq (.reg [⟨(some 4), .mov (.val .nils), none⟩])
 (.seq (.reg [⟨(some 12), .make 2 16 [(.int .i64 0), (.int .i64 0)] (.val (.int .i64 0)) (.val (.int .i64 32)), none⟩, ⟨(some 5), .mov (.tmp 12), none⟩])
 (.seq (.reg [⟨(some 6), .mov (.val (.int .i64 (-1))), none⟩])
 (.seq (.seq (.reg [⟨(some 13), .mov (.tmp 0), none⟩, ⟨(some 14), .xm (.rngS) [(.tmp 13)], none⟩])
 (.block 0 a67_L2))
 (.seq (.seq (.reg [⟨(some 35), .mov (.tmp 6), none⟩, ⟨(some 36), .bin .geq (.tmp 35) (.val (.int .i64 0)), none⟩])
 (.cond (.tmp 36) (.reg [⟨(some 37), .mov (.tmp 5), none⟩, ⟨(some 38), .mov (.tmp 6), none⟩, ⟨(some 39), .mov (.tmp 0), none⟩, ⟨(some 40), .lenS (.tmp 39), none⟩, ⟨(some 41), .build [(.int .i64 0), (.int .i64 0)] [(0, 1, (.tmp 38)), (1, 1, (.tmp 40))], none⟩, ⟨(some 42), .mkslc 2 1 [(.int .i64 0), (.int .i64 0)] [(0, (.tmp 41))], none⟩, ⟨(some 43), .app none 2 16 (.tmp 37) (.tmp 42), none⟩, ⟨(some 5), .mov (.tmp 43), none⟩]) .skip))
 (.seq (.reg [⟨(some 44), .mov (.tmp 5), none⟩, ⟨(some 45), .lenL (.tmp 44), none⟩, ⟨(some 46), .make 1 16 [(.str ⟨#[]⟩)] (.tmp 45) (.tmp 45), none⟩, ⟨(some 9), .mov (.tmp 46), none⟩])
 (.seq (.seq (.reg [⟨(some 47), .mov (.tmp 5), none⟩, ⟨(some 48), .lenL (.tmp 47), none⟩, ⟨(some 49), .mov (.val (.int .i64 0)), none⟩])
 (.block 2 a67_L1))
 (.seq (.reg [⟨(some 64), .mov (.tmp 9), none⟩, ⟨(some 4), .mov (.tmp 64), none⟩])
 .ret)))))))) }
def h68 : Hints := ⟨[], [], []⟩
def a68 : AFn := { n := 19, np := 1, res := [.tmp 2], body :=
 (.seq (.reg [⟨(some 2), .mov (.val (.bool false)), none⟩])
 (.seq (.seq (.reg [⟨(some 3), .mov (.tmp 0), none⟩, ⟨(some 4), .conv .u32 (.tmp 3), none⟩, ⟨(some 5), .bin .leq (.tmp 4) (.val (.int .u32 255)), none⟩])
 (.cond (.tmp 5) (.seq (.seq (.reg [⟨(some 6), .mov (.tmp 0), none⟩])
 (.block 0 (.seq (.seq (.reg [⟨(some 8), .bin .eql (.tmp 6) (.val (.int .i32 9)), none⟩, ⟨(some 7), .mov (.tmp 8), none⟩])
 (.cond (.tmp 7) .skip (.seq (.reg [⟨(some 9), .bin .eql (.tmp 6) (.val (.int .i32 10)), none⟩, ⟨(some 7), .mov (.tmp 9), none⟩])
 (.cond (.tmp 7) .skip (.seq (.reg [⟨(some 10), .bin .eql (.tmp 6) (.val (.int .i32 11)), none⟩, ⟨(some 7), .mov (.tmp 10), none⟩])
 (.cond (.tmp 7) .skip (.seq (.reg [⟨(some 11), .bin .eql (.tmp 6) (.val (.int .i32 12)), none⟩, ⟨(some 7), .mov (.tmp 11), none⟩])
 (.cond (.tmp 7) .skip (.seq (.reg [⟨(some 12), .bin .eql (.tmp 6) (.val (.int .i32 13)), none⟩, ⟨(some 7), .mov (.tmp 12), none⟩])
 (.cond (.tmp 7) .skip (.seq (.reg [⟨(some 13), .bin .eql (.tmp 6) (.val (.int .i32 32)), none⟩, ⟨(some 7), .mov (.tmp 13), none⟩])
 (.cond (.tmp 7) .skip (.seq (.reg [⟨(some 14), .bin .eql (.tmp 6) (.val (.int .i32 133)), none⟩, ⟨(some 7), .mov (.tmp 14), none⟩])
 (.cond (.tmp 7) .skip (.reg [⟨(some 15), .bin .eql (.tmp 6) (.val (.int .i32 160)), none⟩, ⟨(some 7), .mov (.tmp 15), none⟩])))))))))))))))
 (.cond (.tmp 7) (.seq (.reg [⟨(some 2), .mov (.val (.bool true)), none⟩])
 .ret) .skip))))
 (.seq (.reg [⟨(some 2), .mov (.val (.bool false)), none⟩])
 .ret)) .skip))
 (.seq (.reg [⟨(some 16), .load none (.val (.ptr 4 0)), none⟩, ⟨(some 17), .mov (.tmp 0), none⟩, ⟨(some 18), .call 81 [(.tmp 16), (.tmp 17)], none⟩, ⟨(some 2), .mov (.tmp 18), none⟩])
 .ret))) }
def h69 : Hints := ⟨[], [], []⟩
def a69_B1 : AC := (.seq (.reg [⟨(some 50), .bin .lss (.tmp 49) (.tmp 48), none⟩])
 (.seq (.cond (.tmp 50) .skip (.exit 0))
 (.seq (.block 1 (.seq (.reg [⟨(some 51), .iaddrL 1 (.tmp 47) (.tmp 49), none⟩, ⟨(some 52), .load none (.tmp 51), none⟩, ⟨(some 8), .mov (.tmp 52), none⟩])
 (.seq (.reg [⟨(some 53), .mov (.tmp 8), none⟩, ⟨(some 54), .bin .sub (.tmp 53) (.val (.int .u8 48)), none⟩, ⟨(some 8), .mov (.tmp 54), none⟩])
 (.seq (.seq (.reg [⟨(some 55), .mov (.tmp 8), none⟩, ⟨(some 56), .bin .gtr (.tmp 55) (.val (.int .u8 9)), none⟩])
 (.cond (.tmp 56) (.seq (.reg [⟨(some 57), .xp (.mkif 138) [(.val (.int .i64 2))], none⟩, ⟨(some 2), .mov (.val (.int .i64 0)), none⟩, ⟨(some 3), .mov (.tmp 57), none⟩])
 .ret) .skip))
 (.reg [⟨(some 58), .mov (.tmp 6), none⟩, ⟨(some 59), .bin .mul (.tmp 58) (.val (.int .i64 10)), none⟩, ⟨(some 60), .mov (.tmp 8), none⟩, ⟨(some 61), .conv .i64 (.tmp 60), none⟩, ⟨(some 62), .bin .add (.tmp 59) (.tmp 61), none⟩, ⟨(some 6), .mov (.tmp 62), none⟩])))))
 (.reg [⟨(some 63), .bin .add (.tmp 49) (.val (.int .i64 1)), none⟩, ⟨(some 49), .mov (.tmp 63), none⟩]))))
def a69_L1 : AC := .loop a69_B1
theorem a69_L1_step (call : Caller) (again : AC → St → Option (Ex × St)) (s : St) : codeEv call again a69_L1 s = match codeEv call again a69_B1 s with | some (.norm, s1) => again a69_L1 s1 | r => r := rfl
def a69 : AFn := { n := 77, np := 1, res := [.tmp 2, .tmp 3], body :=
 (.seq (.reg [⟨(some 2), .mov (.val (.int .i64 0)), none⟩, ⟨(some 3), .mov (.val .nili), none⟩])
 (.seq (.reg [⟨(some 11), .mov (.tmp 0), none⟩, ⟨(some 12), .lenS (.tmp 11), none⟩, ⟨(some 4), .mov (.tmp 12), none⟩])
 (.seq (.seq (.reg [⟨(some 13), .mov (.val (.bool false)), none⟩, ⟨(some 14), .mov (.tmp 4), (some (13, true))⟩, ⟨(some 15), .bin .lss (.val (.int .i64 0)) (.tmp 14), (some (13, true))⟩, ⟨(some 16), .mov (.tmp 15), (some (13, true))⟩, ⟨(some 17), .mov (.tmp 4), (some (16, true))⟩, ⟨(some 18), .bin .lss (.tmp 17) (.val (.int .i64 10)), (some (16, true))⟩, ⟨(some 19), .pick (.tmp 16) (.tmp 18) (.val (.bool false)), (some (13, true))⟩, ⟨(some 20), .pick (.tmp 13) (.tmp 19) (.val (.bool false)), none⟩, ⟨(some 21), .mov (.tmp 20), none⟩, ⟨(some 22), .mov (.val (.bool true)), (some (21, false))⟩, ⟨(some 23), .mov (.tmp 4), (some (22, true))⟩, ⟨(some 24), .bin .lss (.val (.int .i64 0)) (.tmp 23), (some (22, true))⟩, ⟨(some 25), .mov (.tmp 24), (some (22, true))⟩, ⟨(some 26), .mov (.tmp 4), (some (25, true))⟩, ⟨(some 27), .bin .lss (.tmp 26) (.val (.int .i64 19)), (some (25, true))⟩, ⟨(some 28), .pick (.tmp 25) (.tmp 27) (.val (.bool false)), (some (22, true))⟩, ⟨(some 29), .pick (.tmp 22) (.tmp 28) (.val (.bool false)), (some (21, false))⟩, ⟨(some 30), .pick (.tmp 21) (.val (.bool true)) (.tmp 29), none⟩])
 (.cond (.tmp 30) (.seq (.reg [⟨(some 31), .mov (.tmp 0), none⟩, ⟨(some 5), .mov (.tmp 31), none⟩])
 (.seq (.seq (.reg [⟨(some 32), .mov (.tmp 0), none⟩, ⟨(some 33), .idxS (.tmp 32) (.val (.int .i64 0)), none⟩, ⟨(some 34), .bin .eql (.tmp 33) (.val (.int .u8 45)), none⟩, ⟨(some 35), .mov (.tmp 34), none⟩, ⟨(some 36), .mov (.tmp 0), (some (35, false))⟩, ⟨(some 37), .idxS (.tmp 36) (.val (.int .i64 0)), (some (35, false))⟩, ⟨(some 38), .bin .eql (.tmp 37) (.val (.int .u8 43)), (some (35, false))⟩, ⟨(some 39), .pick (.tmp 35) (.val (.bool true)) (.tmp 38), none⟩])
 (.cond (.tmp 39) (.seq (.reg [⟨(some 40), .mov (.tmp 0), none⟩, ⟨(some 41), .slcS (.tmp 40) (some (.val (.int .i64 1))) none, none⟩, ⟨(some 0), .mov (.tmp 41), none⟩])
 (.seq (.reg [⟨(some 42), .mov (.tmp 0), none⟩, ⟨(some 43), .lenS (.tmp 42), none⟩, ⟨(some 44), .bin .lss (.tmp 43) (.val (.int .i64 1)), none⟩])
 (.cond (.tmp 44) (.seq (.reg [⟨(some 45), .xp (.mkif 138) [(.val (.int .i64 2))], none⟩, ⟨(some 2), .mov (.val (.int .i64 0)), none⟩, ⟨(some 3), .mov (.tmp 45), none⟩])
 .ret) .skip))) .skip))
 (.seq (.reg [⟨(some 6), .mov (.val (.int .i64 0)), none⟩])
 (.seq (.seq (.reg [⟨(some 46), .mov (.tmp 0), none⟩, ⟨(some 47), .xm (.s2b) [(.tmp 46)], none⟩, ⟨(some 48), .lenL (.tmp 47), none⟩, ⟨(some 49), .mov (.val (.int .i64 0)), none⟩])
 (.block 0 a69_L1))
 (.seq (.seq (.reg [⟨(some 64), .mov (.tmp 5), none⟩, ⟨(some 65), .idxS (.tmp 64) (.val (.int .i64 0)), none⟩, ⟨(some 66), .bin .eql (.tmp 65) (.val (.int .u8 45)), none⟩])
 (.cond (.tmp 66) (.reg [⟨(some 67), .mov (.tmp 6), none⟩, ⟨(some 68), .un .neg (.tmp 67), none⟩, ⟨(some 6), .mov (.tmp 68), none⟩]) .skip))
 (.seq (.reg [⟨(some 69), .mov (.tmp 6), none⟩, ⟨(some 2), .mov (.tmp 69), none⟩, ⟨(some 3), .mov (.val .nili), none⟩])
 .ret)))))) .skip))
 (.seq (.reg [⟨(some 71), .mov (.tmp 0), none⟩, ⟨(some 72), .call 82 [(.tmp 71), (.val (.int .i64 10)), (.val (.int .i64 0))], none⟩, ⟨(some 70), .mov (.tmp 72), none⟩, ⟨(some 73), .ext (.tmp 70) 0, none⟩, ⟨(some 74), .ext (.tmp 70) 1, none⟩, ⟨(some 9), .mov (.tmp 73), none⟩, ⟨(some 10), .mov (.tmp 74), none⟩])
 (.seq (.reg [⟨(some 75), .mov (.tmp 9), none⟩, ⟨(some 76), .mov (.tmp 10), none⟩, ⟨(some 2), .mov (.tmp 75), none⟩, ⟨(some 3), .mov (.tmp 76), none⟩])
 .ret))))) }
def h70 : Hints := ⟨[], [], []⟩
def a70 : AFn := { n := 43, np := 5, res := [.tmp 10], body :=
 (.seq (.reg [⟨(some 10), .mov (.val .nili), none⟩])
 (.seq (.seq (.reg [⟨(some 11), .mov (.tmp 4), none⟩])
 (.block 0 (.seq (.reg [⟨(some 13), .xp (.mkif 138) [(.val (.int .i64 2))], none⟩, ⟨(some 14), .eq false (.nilI false) (.tmp 11) (.tmp 13), none⟩, ⟨(some 12), .mov (.tmp 14), none⟩])
 (.cond (.tmp 12) (.seq (.reg [⟨(some 15), .mov (.tmp 0), none⟩, ⟨(some 16), .mov (.tmp 1), none⟩, ⟨(some 17), .call 83 [(.tmp 15), (.tmp 16)], none⟩, ⟨(some 18), .xp (.mkif 141) [(.tmp 17)], none⟩, ⟨(some 10), .mov (.tmp 18), none⟩])
 .ret) (.seq (.reg [⟨(some 20), .xp (.mkif 138) [(.val (.int .i64 1))], none⟩, ⟨(some 21), .eq false (.nilI false) (.tmp 11) (.tmp 20), none⟩, ⟨(some 19), .mov (.tmp 21), none⟩])
 (.cond (.tmp 19) (.seq (.reg [⟨(some 22), .mov (.tmp 0), none⟩, ⟨(some 23), .mov (.tmp 1), none⟩, ⟨(some 24), .call 84 [(.tmp 22), (.tmp 23)], none⟩, ⟨(some 25), .xp (.mkif 141) [(.tmp 24)], none⟩, ⟨(some 10), .mov (.tmp 25), none⟩])
 .ret) (.seq (.reg [⟨(some 27), .xp (.mkif 138) [(.val (.int .i64 3))], none⟩, ⟨(some 28), .eq false (.nilI false) (.tmp 11) (.tmp 27), none⟩, ⟨(some 26), .mov (.tmp 28), none⟩])
 (.cond (.tmp 26) (.seq (.reg [⟨(some 29), .mov (.tmp 0), none⟩, ⟨(some 30), .mov (.tmp 1), none⟩, ⟨(some 31), .mov (.tmp 2), none⟩, ⟨(some 32), .call 85 [(.tmp 29), (.tmp 30), (.tmp 31)], none⟩, ⟨(some 33), .xp (.mkif 141) [(.tmp 32)], none⟩, ⟨(some 10), .mov (.tmp 33), none⟩])
 .ret) (.seq (.reg [⟨(some 35), .xp (.mkif 138) [(.val (.int .i64 4))], none⟩, ⟨(some 36), .eq false (.nilI false) (.tmp 11) (.tmp 35), none⟩, ⟨(some 34), .mov (.tmp 36), none⟩])
 (.cond (.tmp 34) (.seq (.reg [⟨(some 37), .mov (.tmp 0), none⟩, ⟨(some 38), .mov (.tmp 1), none⟩, ⟨(some 39), .mov (.tmp 3), none⟩, ⟨(some 40), .call 86 [(.tmp 37), (.tmp 38), (.tmp 39)], none⟩, ⟨(some 41), .xp (.mkif 141) [(.tmp 40)], none⟩, ⟨(some 10), .mov (.tmp 41), none⟩])
 .ret) .skip))))))))))
 (.seq (.reg [⟨(some 42), .mov (.tmp 4), none⟩, ⟨(some 10), .mov (.tmp 42), none⟩])
 .ret))) }
def h81 : Hints := ⟨[], [], []⟩
def a81 : AFn := { n := 59, np := 2, res := [.tmp 4], body :=
 (.seq (.reg [⟨(some 4), .mov (.val (.bool false)), none⟩])
 (.seq (.reg [⟨(some 8), .mov (.tmp 0), none⟩, ⟨(some 9), .nilck (.tmp 8), none⟩, ⟨(some 10), .faddr 0 (.tmp 9), none⟩, ⟨(some 11), .load none (.tmp 10), none⟩, ⟨(some 5), .mov (.tmp 11), none⟩])
 (.seq (.seq (.reg [⟨(some 12), .mov (.tmp 0), none⟩, ⟨(some 13), .nilck (.tmp 12), none⟩, ⟨(some 14), .faddr 2 (.tmp 13), none⟩, ⟨(some 15), .load none (.tmp 14), none⟩, ⟨(some 6), .mov (.tmp 15), none⟩])
 (.seq (.reg [⟨(some 16), .mov (.tmp 5), none⟩, ⟨(some 17), .lenL (.tmp 16), none⟩, ⟨(some 18), .mov (.tmp 6), none⟩, ⟨(some 19), .bin .gtr (.tmp 17) (.tmp 18), none⟩, ⟨(some 20), .mov (.tmp 19), none⟩, ⟨(some 21), .mov (.tmp 1), (some (20, true))⟩, ⟨(some 22), .conv .u32 (.tmp 21), (some (20, true))⟩, ⟨(some 23), .mov (.tmp 5), (some (20, true))⟩, ⟨(some 24), .mov (.tmp 5), (some (20, true))⟩, ⟨(some 25), .lenL (.tmp 24), (some (20, true))⟩, ⟨(some 26), .bin .sub (.tmp 25) (.val (.int .i64 1)), (some (20, true))⟩, ⟨(some 27), .iaddrL 3 (.tmp 23) (.tmp 26), (some (20, true))⟩, ⟨(some 28), .faddr 1 (.tmp 27), (some (20, true))⟩, ⟨(some 29), .load none (.tmp 28), (some (20, true))⟩, ⟨(some 30), .conv .u32 (.tmp 29), (some (20, true))⟩, ⟨(some 31), .bin .leq (.tmp 22) (.tmp 30), (some (20, true))⟩, ⟨(some 32), .pick (.tmp 20) (.tmp 31) (.val (.bool false)), none⟩])
 (.cond (.tmp 32) (.seq (.reg [⟨(some 33), .mov (.tmp 5), none⟩, ⟨(some 34), .mov (.tmp 6), none⟩, ⟨(some 35), .slcL 3 (.tmp 33) (some (.tmp 34)) none none, none⟩, ⟨(some 36), .mov (.tmp 1), none⟩, ⟨(some 37), .conv .u16 (.tmp 36), none⟩, ⟨(some 38), .call 95 [(.tmp 35), (.tmp 37)], none⟩, ⟨(some 4), .mov (.tmp 38), none⟩])
 .ret) .skip)))
 (.seq (.reg [⟨(some 39), .mov (.tmp 0), none⟩, ⟨(some 40), .nilck (.tmp 39), none⟩, ⟨(some 41), .faddr 1 (.tmp 40), none⟩, ⟨(some 42), .load none (.tmp 41), none⟩, ⟨(some 7), .mov (.tmp 42), none⟩])
 (.seq (.seq (.reg [⟨(some 43), .mov (.tmp 7), none⟩, ⟨(some 44), .lenL (.tmp 43), none⟩, ⟨(some 45), .bin .gtr (.tmp 44) (.val (.int .i64 0)), none⟩, ⟨(some 46), .mov (.tmp 45), none⟩, ⟨(some 47), .mov (.tmp 1), (some (46, true))⟩, ⟨(some 48), .mov (.tmp 7), (some (46, true))⟩, ⟨(some 49), .iaddrL 3 (.tmp 48) (.val (.int .i64 0)), (some (46, true))⟩, ⟨(some 50), .faddr 0 (.tmp 49), (some (46, true))⟩, ⟨(some 51), .load none (.tmp 50), (some (46, true))⟩, ⟨(some 52), .conv .i32 (.tmp 51), (some (46, true))⟩, ⟨(some 53), .bin .geq (.tmp 47) (.tmp 52), (some (46, true))⟩, ⟨(some 54), .pick (.tmp 46) (.tmp 53) (.val (.bool false)), none⟩])
 (.cond (.tmp 54) (.seq (.reg [⟨(some 55), .mov (.tmp 7), none⟩, ⟨(some 56), .mov (.tmp 1), none⟩, ⟨(some 57), .conv .u32 (.tmp 56), none⟩, ⟨(some 58), .call 96 [(.tmp 55), (.tmp 57)], none⟩, ⟨(some 4), .mov (.tmp 58), none⟩])
 .ret) .skip))
 (.seq (.reg [⟨(some 4), .mov (.val (.bool false)), none⟩])
 .ret)))))) }
def h82 : Hints := ⟨[], [], []⟩
def a82 : AFn := { n := 73, np := 3, res := [.tmp 6, .tmp 7], body :=
 (.seq (.reg [⟨(some 6), .mov (.val (.int .i64 0)), none⟩, ⟨(some 7), .mov (.val .nili), none⟩])
 (.seq (.seq (.reg [⟨(some 12), .mov (.tmp 0), none⟩, ⟨(some 13), .bin .eql (.tmp 12) (.val (.str ⟨#[]⟩)), none⟩])
 (.cond (.tmp 13) (.seq (.reg [⟨(some 14), .xp (.mkif 138) [(.val (.int .i64 2))], none⟩, ⟨(some 6), .mov (.val (.int .i64 0)), none⟩, ⟨(some 7), .mov (.tmp 14), none⟩])
 .ret) .skip))
 (.seq (.reg [⟨(some 8), .mov (.val (.bool false)), none⟩])
 (.seq (.seq (.reg [⟨(some 15), .mov (.tmp 0), none⟩, ⟨(some 16), .idxS (.tmp 15) (.val (.int .i64 0)), none⟩])
 (.block 0 (.seq (.reg [⟨(some 18), .bin .eql (.tmp 16) (.val (.int .u8 43)), none⟩, ⟨(some 17), .mov (.tmp 18), none⟩])
 (.cond (.tmp 17) (.reg [⟨(some 19), .mov (.tmp 0), none⟩, ⟨(some 20), .slcS (.tmp 19) (some (.val (.int .i64 1))) none, none⟩, ⟨(some 0), .mov (.tmp 20), none⟩]) (.seq (.reg [⟨(some 22), .bin .eql (.tmp 16) (.val (.int .u8 45)), none⟩, ⟨(some 21), .mov (.tmp 22), none⟩])
 (.cond (.tmp 21) (.seq (.reg [⟨(some 23), .mov (.tmp 0), none⟩, ⟨(some 24), .slcS (.tmp 23) (some (.val (.int .i64 1))) none, none⟩, ⟨(some 0), .mov (.tmp 24), none⟩])
 (.reg [⟨(some 8), .mov (.val (.bool true)), none⟩])) .skip))))))
 (.seq (.reg [⟨(some 9), .mov (.val (.int .u64 0)), none⟩])
 (.seq (.reg [⟨(some 26), .mov (.tmp 0), none⟩, ⟨(some 27), .mov (.tmp 1), none⟩, ⟨(some 28), .mov (.tmp 2), none⟩, ⟨(some 29), .call 97 [(.tmp 26), (.tmp 27), (.tmp 28)], none⟩, ⟨(some 25), .mov (.tmp 29), none⟩, ⟨(some 30), .ext (.tmp 25) 0, none⟩, ⟨(some 31), .ext (.tmp 25) 1, none⟩, ⟨(some 9), .mov (.tmp 30), none⟩, ⟨(some 7), .mov (.tmp 31), none⟩])
 (.seq (.seq (.reg [⟨(some 32), .mov (.tmp 7), none⟩, ⟨(some 33), .eq true (.nilI true) (.tmp 32) (.val .nili), none⟩, ⟨(some 34), .mov (.tmp 33), none⟩, ⟨(some 35), .mov (.tmp 7), (some (34, true))⟩, ⟨(some 36), .xp (.mkif 138) [(.val (.int .i64 1))], (some (34, true))⟩, ⟨(some 37), .eq true (.nilI false) (.tmp 35) (.tmp 36), (some (34, true))⟩, ⟨(some 38), .pick (.tmp 34) (.tmp 37) (.val (.bool false)), none⟩])
 (.cond (.tmp 38) (.seq (.reg [⟨(some 39), .mov (.tmp 7), none⟩, ⟨(some 6), .mov (.val (.int .i64 0)), none⟩, ⟨(some 7), .mov (.tmp 39), none⟩])
 .ret) .skip))
 (.seq (.seq (.reg [⟨(some 40), .mov (.tmp 2), none⟩, ⟨(some 41), .bin .eql (.tmp 40) (.val (.int .i64 0)), none⟩])
 (.cond (.tmp 41) (.reg [⟨(some 2), .mov (.val (.int .i64 64)), none⟩]) .skip))
 (.seq (.reg [⟨(some 42), .mov (.tmp 2), none⟩, ⟨(some 43), .bin .sub (.tmp 42) (.val (.int .i64 1)), none⟩, ⟨(some 44), .conv .u64 (.tmp 43), none⟩, ⟨(some 45), .bin .shl (.val (.int .u64 1)) (.tmp 44), none⟩, ⟨(some 10), .mov (.tmp 45), none⟩])
 (.seq (.seq (.reg [⟨(some 46), .mov (.tmp 8), none⟩, ⟨(some 47), .un .not (.tmp 46), none⟩, ⟨(some 48), .mov (.tmp 47), none⟩, ⟨(some 49), .mov (.tmp 9), (some (48, true))⟩, ⟨(some 50), .mov (.tmp 10), (some (48, true))⟩, ⟨(some 51), .bin .geq (.tmp 49) (.tmp 50), (some (48, true))⟩, ⟨(some 52), .pick (.tmp 48) (.tmp 51) (.val (.bool false)), none⟩])
 (.cond (.tmp 52) (.seq (.reg [⟨(some 53), .mov (.tmp 10), none⟩, ⟨(some 54), .bin .sub (.tmp 53) (.val (.int .u64 1)), none⟩, ⟨(some 55), .conv .i64 (.tmp 54), none⟩, ⟨(some 56), .xp (.mkif 138) [(.val (.int .i64 1))], none⟩, ⟨(some 6), .mov (.tmp 55), none⟩, ⟨(some 7), .mov (.tmp 56), none⟩])
 .ret) .skip))
 (.seq (.seq (.reg [⟨(some 57), .mov (.tmp 8), none⟩, ⟨(some 58), .mov (.tmp 57), none⟩, ⟨(some 59), .mov (.tmp 9), (some (58, true))⟩, ⟨(some 60), .mov (.tmp 10), (some (58, true))⟩, ⟨(some 61), .bin .gtr (.tmp 59) (.tmp 60), (some (58, true))⟩, ⟨(some 62), .pick (.tmp 58) (.tmp 61) (.val (.bool false)), none⟩])
 (.cond (.tmp 62) (.seq (.reg [⟨(some 63), .mov (.tmp 10), none⟩, ⟨(some 64), .conv .i64 (.tmp 63), none⟩, ⟨(some 65), .un .neg (.tmp 64), none⟩, ⟨(some 66), .xp (.mkif 138) [(.val (.int .i64 1))], none⟩, ⟨(some 6), .mov (.tmp 65), none⟩, ⟨(some 7), .mov (.tmp 66), none⟩])
 .ret) .skip))
 (.seq (.reg [⟨(some 67), .mov (.tmp 9), none⟩, ⟨(some 68), .conv .i64 (.tmp 67), none⟩, ⟨(some 11), .mov (.tmp 68), none⟩])
 (.seq (.seq (.reg [⟨(some 69), .mov (.tmp 8), none⟩])
 (.cond (.tmp 69) (.reg [⟨(some 70), .mov (.tmp 11), none⟩, ⟨(some 71), .un .neg (.tmp 70), none⟩, ⟨(some 11), .mov (.tmp 71), none⟩]) .skip))
 (.seq (.reg [⟨(some 72), .mov (.tmp 11), none⟩, ⟨(some 6), .mov (.tmp 72), none⟩, ⟨(some 7), .mov (.val .nili), none⟩])
 .ret)))))))))))))) }
def h83 : Hints := ⟨[], [], []⟩
def a83 : AFn := { n := 11, np := 2, res := [.tmp 4], body :=
 (.seq (.reg [⟨(some 4), .mov (.val .nilp), none⟩])
 (.seq (.dreg [(false, ⟨(some 5), .mov (.tmp 0), none⟩, false), (false, ⟨(some 6), .mov (.tmp 1), none⟩, false), (true, ⟨(some 7), .call 98 [(.tmp 6)], none⟩, false), (true, ⟨(some 8), .load none (.val (.ptr 5 0)), none⟩, false), (false, ⟨(some 9), .build [(.str ⟨#[]⟩), (.str ⟨#[]⟩), .nili] [(0, 1, (.tmp 5)), (1, 1, (.tmp 7)), (2, 1, (.tmp 8))], none⟩, false), (false, ⟨(some 10), .box none (.tmp 9), none⟩, false), (false, ⟨(some 4), .mov (.tmp 10), none⟩, false)])
 .ret)) }
def h84 : Hints := ⟨[], [], []⟩
def a84 : AFn := { n := 11, np := 2, res := [.tmp 4], body :=
 (.seq (.reg [⟨(some 4), .mov (.val .nilp), none⟩])
 (.seq (.dreg [(false, ⟨(some 5), .mov (.tmp 0), none⟩, false), (false, ⟨(some 6), .mov (.tmp 1), none⟩, false), (true, ⟨(some 7), .call 98 [(.tmp 6)], none⟩, false), (true, ⟨(some 8), .load none (.val (.ptr 6 0)), none⟩, false), (false, ⟨(some 9), .build [(.str ⟨#[]⟩), (.str ⟨#[]⟩), .nili] [(0, 1, (.tmp 5)), (1, 1, (.tmp 7)), (2, 1, (.tmp 8))], none⟩, false), (false, ⟨(some 10), .box none (.tmp 9), none⟩, false), (false, ⟨(some 4), .mov (.tmp 10), none⟩, false)])
 .ret)) }
def h85 : Hints := ⟨[], [], []⟩
def a85 : AFn := { n := 16, np := 3, res := [.tmp 6], body :=
 (.seq (.reg [⟨(some 6), .mov (.val .nilp), none⟩])
 (.seq (.reg [⟨(some 7), .mov (.tmp 0), none⟩, ⟨(some 8), .mov (.tmp 1), none⟩, ⟨(some 9), .call 98 [(.tmp 8)], none⟩, ⟨(some 10), .mov (.tmp 2), none⟩, ⟨(some 11), .call 38 [(.tmp 10)], none⟩, ⟨(some 12), .bin .add (.val (.str ⟨#[105, 110, 118, 97, 108, 105, 100, 32, 98, 97, 115, 101, 32]⟩)) (.tmp 11), none⟩, ⟨(some 13), .call 99 [(.tmp 12)], none⟩, ⟨(some 14), .build [(.str ⟨#[]⟩), (.str ⟨#[]⟩), .nili] [(0, 1, (.tmp 7)), (1, 1, (.tmp 9)), (2, 1, (.tmp 13))], none⟩, ⟨(some 15), .box none (.tmp 14), none⟩, ⟨(some 6), .mov (.tmp 15), none⟩])
 .ret)) }
def h86 : Hints := ⟨[], [], []⟩
def a86 : AFn := { n := 16, np := 3, res := [.tmp 6], body :=
 (.seq (.reg [⟨(some 6), .mov (.val .nilp), none⟩])
 (.seq (.reg [⟨(some 7), .mov (.tmp 0), none⟩, ⟨(some 8), .mov (.tmp 1), none⟩, ⟨(some 9), .call 98 [(.tmp 8)], none⟩, ⟨(some 10), .mov (.tmp 2), none⟩, ⟨(some 11), .call 38 [(.tmp 10)], none⟩, ⟨(some 12), .bin .add (.val (.str ⟨#[105, 110, 118, 97, 108, 105, 100, 32, 98, 105, 116, 32, 115, 105, 122, 101, 32]⟩)) (.tmp 11), none⟩, ⟨(some 13), .call 99 [(.tmp 12)], none⟩, ⟨(some 14), .build [(.str ⟨#[]⟩), (.str ⟨#[]⟩), .nili] [(0, 1, (.tmp 7)), (1, 1, (.tmp 9)), (2, 1, (.tmp 13))], none⟩, ⟨(some 15), .box none (.tmp 14), none⟩, ⟨(some 6), .mov (.tmp 15), none⟩])
 .ret)) }
def h95 : Hints := ⟨[], [], []⟩
def a95_B1 : AC := (.seq (.seq (.reg [⟨(some 60), .mov (.tmp 7), none⟩, ⟨(some 61), .mov (.tmp 8), none⟩, ⟨(some 62), .bin .lss (.tmp 60) (.tmp 61), none⟩])
 (.cond (.tmp 62) .skip (.exit 2)))
 (.block 3 (.seq (.reg [⟨(some 63), .mov (.tmp 7), none⟩, ⟨(some 64), .mov (.tmp 8), none⟩, ⟨(some 65), .bin .add (.tmp 63) (.tmp 64), none⟩, ⟨(some 66), .conv .u64 (.tmp 65), none⟩, ⟨(some 67), .bin .shr (.tmp 66) (.val (.int .u64 1)), none⟩, ⟨(some 68), .conv .i64 (.tmp 67), none⟩, ⟨(some 9), .mov (.tmp 68), none⟩])
 (.seq (.reg [⟨(some 69), .mov (.tmp 0), none⟩, ⟨(some 70), .mov (.tmp 9), none⟩, ⟨(some 71), .iaddrL 3 (.tmp 69) (.tmp 70), none⟩, ⟨(some 10), .mov (.tmp 71), none⟩])
 (.seq (.seq (.reg [⟨(some 72), .mov (.tmp 10), none⟩, ⟨(some 73), .nilck (.tmp 72), none⟩, ⟨(some 74), .faddr 0 (.tmp 73), none⟩, ⟨(some 75), .load none (.tmp 74), none⟩, ⟨(some 76), .mov (.tmp 1), none⟩, ⟨(some 77), .bin .leq (.tmp 75) (.tmp 76), none⟩, ⟨(some 78), .mov (.tmp 77), none⟩, ⟨(some 79), .mov (.tmp 1), (some (78, true))⟩, ⟨(some 80), .mov (.tmp 10), (some (78, true))⟩, ⟨(some 81), .nilck (.tmp 80), (some (78, true))⟩, ⟨(some 82), .faddr 1 (.tmp 81), (some (78, true))⟩, ⟨(some 83), .load none (.tmp 82), (some (78, true))⟩, ⟨(some 84), .bin .leq (.tmp 79) (.tmp 83), (some (78, true))⟩, ⟨(some 85), .pick (.tmp 78) (.tmp 84) (.val (.bool false)), none⟩])
 (.cond (.tmp 85) (.seq (.dreg [(false, ⟨(some 86), .mov (.tmp 10), none⟩, false), (false, ⟨(some 87), .nilck (.tmp 86), none⟩, false), (false, ⟨(some 88), .faddr 2 (.tmp 87), none⟩, false), (false, ⟨(some 89), .load none (.tmp 88), none⟩, false), (false, ⟨(some 90), .bin .eql (.tmp 89) (.val (.int .u16 1)), none⟩, false), (false, ⟨(some 91), .mov (.tmp 90), none⟩, false), (false, ⟨(some 92), .mov (.tmp 1), (some (91, false))⟩, false), (false, ⟨(some 93), .mov (.tmp 10), (some (91, false))⟩, false), (false, ⟨(some 94), .nilck (.tmp 93), (some (91, false))⟩, false), (false, ⟨(some 95), .faddr 0 (.tmp 94), (some (91, false))⟩, false), (false, ⟨(some 96), .load none (.tmp 95), (some (91, false))⟩, false), (false, ⟨(some 97), .bin .sub (.tmp 92) (.tmp 96), (some (91, false))⟩, false), (false, ⟨(some 98), .mov (.tmp 10), (some (91, false))⟩, false), (false, ⟨(some 99), .nilck (.tmp 98), (some (91, false))⟩, false), (false, ⟨(some 100), .faddr 2 (.tmp 99), (some (91, false))⟩, false), (false, ⟨(some 101), .load none (.tmp 100), (some (91, false))⟩, false), (false, ⟨(some 102), .bin .rem (.tmp 97) (.tmp 101), (some (91, false))⟩, false), (false, ⟨(some 103), .bin .eql (.tmp 102) (.val (.int .u16 0)), (some (91, false))⟩, false), (false, ⟨(some 104), .pick (.tmp 91) (.val (.bool true)) (.tmp 103), none⟩, false), (false, ⟨(some 4), .mov (.tmp 104), none⟩, false)])
 .ret) .skip))
 (.seq (.reg [⟨(some 105), .mov (.tmp 1), none⟩, ⟨(some 106), .mov (.tmp 10), none⟩, ⟨(some 107), .nilck (.tmp 106), none⟩, ⟨(some 108), .faddr 0 (.tmp 107), none⟩, ⟨(some 109), .load none (.tmp 108), none⟩, ⟨(some 110), .bin .lss (.tmp 105) (.tmp 109), none⟩])
 (.cond (.tmp 110) (.reg [⟨(some 111), .mov (.tmp 9), none⟩, ⟨(some 8), .mov (.tmp 111), none⟩]) (.reg [⟨(some 112), .mov (.tmp 9), none⟩, ⟨(some 113), .bin .add (.tmp 112) (.val (.int .i64 1)), none⟩, ⟨(some 7), .mov (.tmp 113), none⟩]))))))))
def a95_L1 : AC := .loop a95_B1
theorem a95_L1_step (call : Caller) (again : AC → St → Option (Ex × St)) (s : St) : codeEv call again a95_L1 s = match codeEv call again a95_B1 s with | some (.norm, s1) => again a95_L1 s1 | r => r := rfl
def a95_B2 : AC := (.seq (.reg [⟨(some 21), .bin .lss (.tmp 20) (.tmp 19), none⟩])
 (.seq (.cond (.tmp 21) .skip (.exit 0))
 (.seq (.block 1 (.seq (.reg [⟨(some 22), .mov (.tmp 20), none⟩, ⟨(some 5), .mov (.tmp 22), none⟩])
 (.seq (.reg [⟨(some 23), .mov (.tmp 0), none⟩, ⟨(some 24), .mov (.tmp 5), none⟩, ⟨(some 25), .iaddrL 3 (.tmp 23) (.tmp 24), none⟩, ⟨(some 6), .mov (.tmp 25), none⟩])
 (.seq (.seq (.reg [⟨(some 26), .mov (.tmp 1), none⟩, ⟨(some 27), .mov (.tmp 6), none⟩, ⟨(some 28), .nilck (.tmp 27), none⟩, ⟨(some 29), .faddr 0 (.tmp 28), none⟩, ⟨(some 30), .load none (.tmp 29), none⟩, ⟨(some 31), .bin .lss (.tmp 26) (.tmp 30), none⟩])
 (.cond (.tmp 31) (.seq (.reg [⟨(some 4), .mov (.val (.bool false)), none⟩])
 .ret) .skip))
 (.seq (.reg [⟨(some 32), .mov (.tmp 1), none⟩, ⟨(some 33), .mov (.tmp 6), none⟩, ⟨(some 34), .nilck (.tmp 33), none⟩, ⟨(some 35), .faddr 1 (.tmp 34), none⟩, ⟨(some 36), .load none (.tmp 35), none⟩, ⟨(some 37), .bin .leq (.tmp 32) (.tmp 36), none⟩])
 (.cond (.tmp 37) (.seq (.dreg [(false, ⟨(some 38), .mov (.tmp 6), none⟩, false), (false, ⟨(some 39), .nilck (.tmp 38), none⟩, false), (false, ⟨(some 40), .faddr 2 (.tmp 39), none⟩, false), (false, ⟨(some 41), .load none (.tmp 40), none⟩, false), (false, ⟨(some 42), .bin .eql (.tmp 41) (.val (.int .u16 1)), none⟩, false), (false, ⟨(some 43), .mov (.tmp 42), none⟩, false), (false, ⟨(some 44), .mov (.tmp 1), (some (43, false))⟩, false), (false, ⟨(some 45), .mov (.tmp 6), (some (43, false))⟩, false), (false, ⟨(some 46), .nilck (.tmp 45), (some (43, false))⟩, false), (false, ⟨(some 47), .faddr 0 (.tmp 46), (some (43, false))⟩, false), (false, ⟨(some 48), .load none (.tmp 47), (some (43, false))⟩, false), (false, ⟨(some 49), .bin .sub (.tmp 44) (.tmp 48), (some (43, false))⟩, false), (false, ⟨(some 50), .mov (.tmp 6), (some (43, false))⟩, false), (false, ⟨(some 51), .nilck (.tmp 50), (some (43, false))⟩, false), (false, ⟨(some 52), .faddr 2 (.tmp 51), (some (43, false))⟩, false), (false, ⟨(some 53), .load none (.tmp 52), (some (43, false))⟩, false), (false, ⟨(some 54), .bin .rem (.tmp 49) (.tmp 53), (some (43, false))⟩, false), (false, ⟨(some 55), .bin .eql (.tmp 54) (.val (.int .u16 0)), (some (43, false))⟩, false), (false, ⟨(some 56), .pick (.tmp 43) (.val (.bool true)) (.tmp 55), none⟩, false), (false, ⟨(some 4), .mov (.tmp 56), none⟩, false)])
 .ret) .skip))))))
 (.reg [⟨(some 57), .bin .add (.tmp 20) (.val (.int .i64 1)), none⟩, ⟨(some 20), .mov (.tmp 57), none⟩]))))
def a95_L2 : AC := .loop a95_B2
theorem a95_L2_step (call : Caller) (again : AC → St → Option (Ex × St)) (s : St) : codeEv call again a95_L2 s = match codeEv call again a95_B2 s with | some (.norm, s1) => again a95_L2 s1 | r => r := rfl
def a95 : AFn := { n := 114, np := 2, res := [.tmp 4], body :=
 (.seq (.reg [⟨(some 4), .mov (.val (.bool false)), none⟩])
 (.seq (.seq (.reg [⟨(some 11), .mov (.tmp 0), none⟩, ⟨(some 12), .lenL (.tmp 11), none⟩, ⟨(some 13), .bin .leq (.tmp 12) (.val (.int .i64 18)), none⟩, ⟨(some 14), .mov (.tmp 13), none⟩, ⟨(some 15), .mov (.tmp 1), (some (14, false))⟩, ⟨(some 16), .bin .leq (.tmp 15) (.val (.int .u16 255)), (some (14, false))⟩, ⟨(some 17), .pick (.tmp 14) (.val (.bool true)) (.tmp 16), none⟩])
 (.cond (.tmp 17) (.seq (.seq (.reg [⟨(some 18), .mov (.tmp 0), none⟩, ⟨(some 19), .lenL (.tmp 18), none⟩, ⟨(some 20), .mov (.val (.int .i64 0)), none⟩])
 (.block 0 a95_L2))
 (.seq (.reg [⟨(some 4), .mov (.val (.bool false)), none⟩])
 .ret)) .skip))
 (.seq (.reg [⟨(some 7), .mov (.val (.int .i64 0)), none⟩])
 (.seq (.reg [⟨(some 58), .mov (.tmp 0), none⟩, ⟨(some 59), .lenL (.tmp 58), none⟩, ⟨(some 8), .mov (.tmp 59), none⟩])
 (.seq (.block 2 a95_L1)
 (.seq (.reg [⟨(some 4), .mov (.val (.bool false)), none⟩])
 .ret)))))) }
def h96 : Hints := ⟨[10], [], []⟩
def a96_B1 : AC := (.seq (.seq (.reg [⟨(some 56), .mov (.tmp 7), none⟩, ⟨(some 57), .mov (.tmp 8), none⟩, ⟨(some 58), .bin .lss (.tmp 56) (.tmp 57), none⟩])
 (.cond (.tmp 58) .skip (.exit 2)))
 (.block 3 (.seq (.reg [⟨(some 59), .mov (.tmp 7), none⟩, ⟨(some 60), .mov (.tmp 8), none⟩, ⟨(some 61), .bin .add (.tmp 59) (.tmp 60), none⟩, ⟨(some 62), .conv .u64 (.tmp 61), none⟩, ⟨(some 63), .bin .shr (.tmp 62) (.val (.int .u64 1)), none⟩, ⟨(some 64), .conv .i64 (.tmp 63), none⟩, ⟨(some 9), .mov (.tmp 64), none⟩])
 (.seq (.reg [⟨(some 65), .mov (.tmp 0), none⟩, ⟨(some 66), .mov (.tmp 9), none⟩, ⟨(some 67), .iaddrL 3 (.tmp 65) (.tmp 66), none⟩, ⟨(some 68), .load (some 3) (.tmp 67), none⟩, ⟨(some 10), .alloc (some 10) [(.int .u32 0), (.int .u32 0), (.int .u32 0)], none⟩, ⟨none, .store 3 (.tmp 10) (.tmp 68), none⟩])
 (.seq (.seq (.reg [⟨(some 69), .faddr 0 (.tmp 10), none⟩, ⟨(some 70), .load none (.tmp 69), none⟩, ⟨(some 71), .mov (.tmp 1), none⟩, ⟨(some 72), .bin .leq (.tmp 70) (.tmp 71), none⟩, ⟨(some 73), .mov (.tmp 72), none⟩, ⟨(some 74), .mov (.tmp 1), (some (73, true))⟩, ⟨(some 75), .faddr 1 (.tmp 10), (some (73, true))⟩, ⟨(some 76), .load none (.tmp 75), (some (73, true))⟩, ⟨(some 77), .bin .leq (.tmp 74) (.tmp 76), (some (73, true))⟩, ⟨(some 78), .pick (.tmp 73) (.tmp 77) (.val (.bool false)), none⟩])
 (.cond (.tmp 78) (.seq (.reg [⟨(some 79), .faddr 2 (.tmp 10), none⟩, ⟨(some 80), .load none (.tmp 79), none⟩, ⟨(some 81), .bin .eql (.tmp 80) (.val (.int .u32 1)), none⟩, ⟨(some 82), .mov (.tmp 81), none⟩, ⟨(some 83), .mov (.tmp 1), (some (82, false))⟩, ⟨(some 84), .faddr 0 (.tmp 10), (some (82, false))⟩, ⟨(some 85), .load none (.tmp 84), (some (82, false))⟩, ⟨(some 86), .bin .sub (.tmp 83) (.tmp 85), (some (82, false))⟩, ⟨(some 87), .faddr 2 (.tmp 10), (some (82, false))⟩, ⟨(some 88), .load none (.tmp 87), (some (82, false))⟩, ⟨(some 89), .bin .rem (.tmp 86) (.tmp 88), (some (82, false))⟩, ⟨(some 90), .bin .eql (.tmp 89) (.val (.int .u32 0)), (some (82, false))⟩, ⟨(some 91), .pick (.tmp 82) (.val (.bool true)) (.tmp 90), none⟩, ⟨(some 4), .mov (.tmp 91), none⟩])
 .ret) .skip))
 (.seq (.reg [⟨(some 92), .mov (.tmp 1), none⟩, ⟨(some 93), .faddr 0 (.tmp 10), none⟩, ⟨(some 94), .load none (.tmp 93), none⟩, ⟨(some 95), .bin .lss (.tmp 92) (.tmp 94), none⟩])
 (.cond (.tmp 95) (.reg [⟨(some 96), .mov (.tmp 9), none⟩, ⟨(some 8), .mov (.tmp 96), none⟩]) (.reg [⟨(some 97), .mov (.tmp 9), none⟩, ⟨(some 98), .bin .add (.tmp 97) (.val (.int .i64 1)), none⟩, ⟨(some 7), .mov (.tmp 98), none⟩]))))))))
def a96_L1 : AC := .loop a96_B1
theorem a96_L1_step (call : Caller) (again : AC → St → Option (Ex × St)) (s : St) : codeEv call again a96_L1 s = match codeEv call again a96_B1 s with | some (.norm, s1) => again a96_L1 s1 | r => r := rfl
def a96_B2 : AC := (.seq (.reg [⟨(some 17), .bin .lss (.tmp 16) (.tmp 15), none⟩])
 (.seq (.cond (.tmp 17) .skip (.exit 0))
 (.seq (.block 1 (.seq (.reg [⟨(some 18), .mov (.tmp 16), none⟩, ⟨(some 5), .mov (.tmp 18), none⟩])
 (.seq (.reg [⟨(some 19), .mov (.tmp 0), none⟩, ⟨(some 20), .mov (.tmp 5), none⟩, ⟨(some 21), .iaddrL 3 (.tmp 19) (.tmp 20), none⟩, ⟨(some 6), .mov (.tmp 21), none⟩])
 (.seq (.seq (.reg [⟨(some 22), .mov (.tmp 1), none⟩, ⟨(some 23), .mov (.tmp 6), none⟩, ⟨(some 24), .nilck (.tmp 23), none⟩, ⟨(some 25), .faddr 0 (.tmp 24), none⟩, ⟨(some 26), .load none (.tmp 25), none⟩, ⟨(some 27), .bin .lss (.tmp 22) (.tmp 26), none⟩])
 (.cond (.tmp 27) (.seq (.reg [⟨(some 4), .mov (.val (.bool false)), none⟩])
 .ret) .skip))
 (.seq (.reg [⟨(some 28), .mov (.tmp 1), none⟩, ⟨(some 29), .mov (.tmp 6), none⟩, ⟨(some 30), .nilck (.tmp 29), none⟩, ⟨(some 31), .faddr 1 (.tmp 30), none⟩, ⟨(some 32), .load none (.tmp 31), none⟩, ⟨(some 33), .bin .leq (.tmp 28) (.tmp 32), none⟩])
 (.cond (.tmp 33) (.seq (.dreg [(false, ⟨(some 34), .mov (.tmp 6), none⟩, false), (false, ⟨(some 35), .nilck (.tmp 34), none⟩, false), (false, ⟨(some 36), .faddr 2 (.tmp 35), none⟩, false), (false, ⟨(some 37), .load none (.tmp 36), none⟩, false), (false, ⟨(some 38), .bin .eql (.tmp 37) (.val (.int .u32 1)), none⟩, false), (false, ⟨(some 39), .mov (.tmp 38), none⟩, false), (false, ⟨(some 40), .mov (.tmp 1), (some (39, false))⟩, false), (false, ⟨(some 41), .mov (.tmp 6), (some (39, false))⟩, false), (false, ⟨(some 42), .nilck (.tmp 41), (some (39, false))⟩, false), (false, ⟨(some 43), .faddr 0 (.tmp 42), (some (39, false))⟩, false), (false, ⟨(some 44), .load none (.tmp 43), (some (39, false))⟩, false), (false, ⟨(some 45), .bin .sub (.tmp 40) (.tmp 44), (some (39, false))⟩, false), (false, ⟨(some 46), .mov (.tmp 6), (some (39, false))⟩, false), (false, ⟨(some 47), .nilck (.tmp 46), (some (39, false))⟩, false), (false, ⟨(some 48), .faddr 2 (.tmp 47), (some (39, false))⟩, false), (false, ⟨(some 49), .load none (.tmp 48), (some (39, false))⟩, false), (false, ⟨(some 50), .bin .rem (.tmp 45) (.tmp 49), (some (39, false))⟩, false), (false, ⟨(some 51), .bin .eql (.tmp 50) (.val (.int .u32 0)), (some (39, false))⟩, false), (false, ⟨(some 52), .pick (.tmp 39) (.val (.bool true)) (.tmp 51), none⟩, false), (false, ⟨(some 4), .mov (.tmp 52), none⟩, false)])
 .ret) .skip))))))
 (.reg [⟨(some 53), .bin .add (.tmp 16) (.val (.int .i64 1)), none⟩, ⟨(some 16), .mov (.tmp 53), none⟩]))))
def a96_L2 : AC := .loop a96_B2
theorem a96_L2_step (call : Caller) (again : AC → St → Option (Ex × St)) (s : St) : codeEv call again a96_L2 s = match codeEv call again a96_B2 s with | some (.norm, s1) => again a96_L2 s1 | r => r := rfl
def a96 : AFn := { n := 99, np := 2, res := [.tmp 4], body :=
 (.seq (.reg [⟨(some 4), .mov (.val (.bool false)), none⟩])
 (.seq (.seq (.reg [⟨(some 11), .mov (.tmp 0), none⟩, ⟨(some 12), .lenL (.tmp 11), none⟩, ⟨(some 13), .bin .leq (.tmp 12) (.val (.int .i64 18)), none⟩])
 (.cond (.tmp 13) (.seq (.seq (.reg [⟨(some 14), .mov (.tmp 0), none⟩, ⟨(some 15), .lenL (.tmp 14), none⟩, ⟨(some 16), .mov (.val (.int .i64 0)), none⟩])
 (.block 0 a96_L2))
 (.seq (.reg [⟨(some 4), .mov (.val (.bool false)), none⟩])
 .ret)) .skip))
 (.seq (.reg [⟨(some 7), .mov (.val (.int .i64 0)), none⟩])
 (.seq (.reg [⟨(some 54), .mov (.tmp 0), none⟩, ⟨(some 55), .lenL (.tmp 54), none⟩, ⟨(some 8), .mov (.tmp 55), none⟩])
 (.seq (.block 2 a96_L1)
 (.seq (.reg [⟨(some 4), .mov (.val (.bool false)), none⟩])
 .ret)))))) }
def h97 : Hints := ⟨[], [], []⟩
def a97_B1 : AC := (.seq (.reg [⟨(some 102), .bin .lss (.tmp 101) (.tmp 100), none⟩])
 (.seq (.cond (.tmp 102) .skip (.exit 3))
 (.seq (.block 4 (.seq (.reg [⟨(some 103), .iaddrL 1 (.tmp 99) (.tmp 101), none⟩, ⟨(some 104), .load none (.tmp 103), none⟩, ⟨(some 15), .mov (.tmp 104), none⟩])
 (.seq (.reg [⟨(some 16), .mov (.val (.int .u8 0)), none⟩])
 (.seq (.block 5 (.seq (.reg [⟨(some 107), .mov (.tmp 15), none⟩, ⟨(some 108), .bin .eql (.tmp 107) (.val (.int .u8 95)), none⟩, ⟨(some 109), .mov (.tmp 108), none⟩, ⟨(some 110), .mov (.tmp 8), (some (109, true))⟩, ⟨(some 111), .pick (.tmp 109) (.tmp 110) (.val (.bool false)), none⟩, ⟨(some 106), .mov (.tmp 111), none⟩])
 (.cond (.tmp 106) (.seq (.reg [⟨(some 12), .mov (.val (.bool true)), none⟩])
 (.exit 4)) (.seq (.reg [⟨(some 113), .mov (.tmp 15), none⟩, ⟨(some 114), .bin .leq (.val (.int .u8 48)) (.tmp 113), none⟩, ⟨(some 115), .mov (.tmp 114), none⟩, ⟨(some 116), .mov (.tmp 15), (some (115, true))⟩, ⟨(some 117), .bin .leq (.tmp 116) (.val (.int .u8 57)), (some (115, true))⟩, ⟨(some 118), .pick (.tmp 115) (.tmp 117) (.val (.bool false)), none⟩, ⟨(some 112), .mov (.tmp 118), none⟩])
 (.cond (.tmp 112) (.reg [⟨(some 119), .mov (.tmp 15), none⟩, ⟨(some 120), .bin .sub (.tmp 119) (.val (.int .u8 48)), none⟩, ⟨(some 16), .mov (.tmp 120), none⟩]) (.seq (.reg [⟨(some 122), .mov (.tmp 15), none⟩, ⟨(some 123), .call 115 [(.tmp 122)], none⟩, ⟨(some 124), .bin .leq (.val (.int .u8 97)) (.tmp 123), none⟩, ⟨(some 125), .mov (.tmp 124), none⟩, ⟨(some 126), .mov (.tmp 15), (some (125, true))⟩, ⟨(some 127), .call 115 [(.tmp 126)], (some (125, true))⟩, ⟨(some 128), .bin .leq (.tmp 127) (.val (.int .u8 122)), (some (125, true))⟩, ⟨(some 129), .pick (.tmp 125) (.tmp 128) (.val (.bool false)), none⟩, ⟨(some 121), .mov (.tmp 129), none⟩])
 (.cond (.tmp 121) (.reg [⟨(some 130), .mov (.tmp 15), none⟩, ⟨(some 131), .call 115 [(.tmp 130)], none⟩, ⟨(some 132), .bin .sub (.tmp 131) (.val (.int .u8 97)), none⟩, ⟨(some 133), .bin .add (.tmp 132) (.val (.int .u8 10)), none⟩, ⟨(some 16), .mov (.tmp 133), none⟩]) (.seq (.reg [⟨(some 105), .xp (.mkif 138) [(.val (.int .i64 2))], none⟩, ⟨(some 6), .mov (.val (.int .u64 0)), none⟩, ⟨(some 7), .mov (.tmp 105), none⟩])
 .ret))))))))
 (.seq (.seq (.reg [⟨(some 134), .mov (.tmp 16), none⟩, ⟨(some 135), .mov (.tmp 1), none⟩, ⟨(some 136), .conv .u8 (.tmp 135), none⟩, ⟨(some 137), .bin .geq (.tmp 134) (.tmp 136), none⟩])
 (.cond (.tmp 137) (.seq (.reg [⟨(some 138), .xp (.mkif 138) [(.val (.int .i64 2))], none⟩, ⟨(some 6), .mov (.val (.int .u64 0)), none⟩, ⟨(some 7), .mov (.tmp 138), none⟩])
 .ret) .skip))
 (.seq (.seq (.reg [⟨(some 139), .mov (.tmp 13), none⟩, ⟨(some 140), .mov (.tmp 10), none⟩, ⟨(some 141), .bin .geq (.tmp 139) (.tmp 140), none⟩])
 (.cond (.tmp 141) (.seq (.reg [⟨(some 142), .mov (.tmp 11), none⟩, ⟨(some 143), .xp (.mkif 138) [(.val (.int .i64 1))], none⟩, ⟨(some 6), .mov (.tmp 142), none⟩, ⟨(some 7), .mov (.tmp 143), none⟩])
 .ret) .skip))
 (.seq (.reg [⟨(some 144), .mov (.tmp 13), none⟩, ⟨(some 145), .mov (.tmp 1), none⟩, ⟨(some 146), .conv .u64 (.tmp 145), none⟩, ⟨(some 147), .bin .mul (.tmp 144) (.tmp 146), none⟩, ⟨(some 13), .mov (.tmp 147), none⟩])
 (.seq (.reg [⟨(some 148), .mov (.tmp 13), none⟩, ⟨(some 149), .mov (.tmp 16), none⟩, ⟨(some 150), .conv .u64 (.tmp 149), none⟩, ⟨(some 151), .bin .add (.tmp 148) (.tmp 150), none⟩, ⟨(some 17), .mov (.tmp 151), none⟩])
 (.seq (.seq (.reg [⟨(some 152), .mov (.tmp 17), none⟩, ⟨(some 153), .mov (.tmp 13), none⟩, ⟨(some 154), .bin .lss (.tmp 152) (.tmp 153), none⟩, ⟨(some 155), .mov (.tmp 154), none⟩, ⟨(some 156), .mov (.tmp 17), (some (155, false))⟩, ⟨(some 157), .mov (.tmp 11), (some (155, false))⟩, ⟨(some 158), .bin .gtr (.tmp 156) (.tmp 157), (some (155, false))⟩, ⟨(some 159), .pick (.tmp 155) (.val (.bool true)) (.tmp 158), none⟩])
 (.cond (.tmp 159) (.seq (.reg [⟨(some 160), .mov (.tmp 11), none⟩, ⟨(some 161), .xp (.mkif 138) [(.val (.int .i64 1))], none⟩, ⟨(some 6), .mov (.tmp 160), none⟩, ⟨(some 7), .mov (.tmp 161), none⟩])
 .ret) .skip))
 (.reg [⟨(some 162), .mov (.tmp 17), none⟩, ⟨(some 13), .mov (.tmp 162), none⟩]))))))))))
 (.reg [⟨(some 163), .bin .add (.tmp 101) (.val (.int .i64 1)), none⟩, ⟨(some 101), .mov (.tmp 163), none⟩]))))
def a97_L1 : AC := .loop a97_B1
theorem a97_L1_step (call : Caller) (again : AC → St → Option (Ex × St)) (s : St) : codeEv call again a97_L1 s = match codeEv call again a97_B1 s with | some (.norm, s1) => again a97_L1 s1 | r => r := rfl
def a97 : AFn := { n := 172, np := 3, res := [.tmp 6, .tmp 7], body :=
 (.seq (.reg [⟨(some 6), .mov (.val (.int .u64 0)), none⟩, ⟨(some 7), .mov (.val .nili), none⟩])
 (.seq (.seq (.reg [⟨(some 18), .mov (.tmp 0), none⟩, ⟨(some 19), .bin .eql (.tmp 18) (.val (.str ⟨#[]⟩)), none⟩])
 (.cond (.tmp 19) (.seq (.reg [⟨(some 20), .xp (.mkif 138) [(.val (.int .i64 2))], none⟩, ⟨(some 6), .mov (.val (.int .u64 0)), none⟩, ⟨(some 7), .mov (.tmp 20), none⟩])
 .ret) .skip))
 (.seq (.reg [⟨(some 21), .mov (.tmp 1), none⟩, ⟨(some 22), .bin .eql (.tmp 21) (.val (.int .i64 0)), none⟩, ⟨(some 8), .mov (.tmp 22), none⟩])
 (.seq (.reg [⟨(some 23), .mov (.tmp 0), none⟩, ⟨(some 9), .mov (.tmp 23), none⟩])
 (.seq (.block 0 (.seq (.reg [⟨(some 26), .mov (.tmp 1), none⟩, ⟨(some 27), .bin .leq (.val (.int .i64 2)) (.tmp 26), none⟩, ⟨(some 28), .mov (.tmp 27), none⟩, ⟨(some 29), .mov (.tmp 1), (some (28, true))⟩, ⟨(some 30), .bin .leq (.tmp 29) (.val (.int .i64 36)), (some (28, true))⟩, ⟨(some 31), .pick (.tmp 28) (.tmp 30) (.val (.bool false)), none⟩, ⟨(some 25), .mov (.tmp 31), none⟩])
 (.cond (.tmp 25) .skip (.seq (.reg [⟨(some 33), .mov (.tmp 1), none⟩, ⟨(some 34), .bin .eql (.tmp 33) (.val (.int .i64 0)), none⟩, ⟨(some 32), .mov (.tmp 34), none⟩])
 (.cond (.tmp 32) (.seq (.reg [⟨(some 1), .mov (.val (.int .i64 10)), none⟩])
 (.seq (.reg [⟨(some 35), .mov (.tmp 0), none⟩, ⟨(some 36), .idxS (.tmp 35) (.val (.int .i64 0)), none⟩, ⟨(some 37), .bin .eql (.tmp 36) (.val (.int .u8 48)), none⟩])
 (.cond (.tmp 37) (.block 1 (.seq (.reg [⟨(some 41), .mov (.tmp 0), none⟩, ⟨(some 42), .lenS (.tmp 41), none⟩, ⟨(some 43), .bin .geq (.tmp 42) (.val (.int .i64 3)), none⟩, ⟨(some 44), .mov (.tmp 43), none⟩, ⟨(some 45), .mov (.tmp 0), (some (44, true))⟩, ⟨(some 46), .idxS (.tmp 45) (.val (.int .i64 1)), (some (44, true))⟩, ⟨(some 47), .call 115 [(.tmp 46)], (some (44, true))⟩, ⟨(some 48), .bin .eql (.tmp 47) (.val (.int .u8 98)), (some (44, true))⟩, ⟨(some 49), .pick (.tmp 44) (.tmp 48) (.val (.bool false)), none⟩, ⟨(some 40), .mov (.tmp 49), none⟩])
 (.cond (.tmp 40) (.seq (.reg [⟨(some 1), .mov (.val (.int .i64 2)), none⟩])
 (.reg [⟨(some 50), .mov (.tmp 0), none⟩, ⟨(some 51), .slcS (.tmp 50) (some (.val (.int .i64 2))) none, none⟩, ⟨(some 0), .mov (.tmp 51), none⟩])) (.seq (.reg [⟨(some 53), .mov (.tmp 0), none⟩, ⟨(some 54), .lenS (.tmp 53), none⟩, ⟨(some 55), .bin .geq (.tmp 54) (.val (.int .i64 3)), none⟩, ⟨(some 56), .mov (.tmp 55), none⟩, ⟨(some 57), .mov (.tmp 0), (some (56, true))⟩, ⟨(some 58), .idxS (.tmp 57) (.val (.int .i64 1)), (some (56, true))⟩, ⟨(some 59), .call 115 [(.tmp 58)], (some (56, true))⟩, ⟨(some 60), .bin .eql (.tmp 59) (.val (.int .u8 111)), (some (56, true))⟩, ⟨(some 61), .pick (.tmp 56) (.tmp 60) (.val (.bool false)), none⟩, ⟨(some 52), .mov (.tmp 61), none⟩])
 (.cond (.tmp 52) (.seq (.reg [⟨(some 1), .mov (.val (.int .i64 8)), none⟩])
 (.reg [⟨(some 62), .mov (.tmp 0), none⟩, ⟨(some 63), .slcS (.tmp 62) (some (.val (.int .i64 2))) none, none⟩, ⟨(some 0), .mov (.tmp 63), none⟩])) (.seq (.reg [⟨(some 65), .mov (.tmp 0), none⟩, ⟨(some 66), .lenS (.tmp 65), none⟩, ⟨(some 67), .bin .geq (.tmp 66) (.val (.int .i64 3)), none⟩, ⟨(some 68), .mov (.tmp 67), none⟩, ⟨(some 69), .mov (.tmp 0), (some (68, true))⟩, ⟨(some 70), .idxS (.tmp 69) (.val (.int .i64 1)), (some (68, true))⟩, ⟨(some 71), .call 115 [(.tmp 70)], (some (68, true))⟩, ⟨(some 72), .bin .eql (.tmp 71) (.val (.int .u8 120)), (some (68, true))⟩, ⟨(some 73), .pick (.tmp 68) (.tmp 72) (.val (.bool false)), none⟩, ⟨(some 64), .mov (.tmp 73), none⟩])
 (.cond (.tmp 64) (.seq (.reg [⟨(some 1), .mov (.val (.int .i64 16)), none⟩])
 (.reg [⟨(some 74), .mov (.tmp 0), none⟩, ⟨(some 75), .slcS (.tmp 74) (some (.val (.int .i64 2))) none, none⟩, ⟨(some 0), .mov (.tmp 75), none⟩])) (.seq (.reg [⟨(some 1), .mov (.val (.int .i64 8)), none⟩])
 (.reg [⟨(some 38), .mov (.tmp 0), none⟩, ⟨(some 39), .slcS (.tmp 38) (some (.val (.int .i64 1))) none, none⟩, ⟨(some 0), .mov (.tmp 39), none⟩]))))))))) .skip))) (.seq (.reg [⟨(some 24), .xp (.mkif 138) [(.val (.int .i64 3))], none⟩, ⟨(some 6), .mov (.val (.int .u64 0)), none⟩, ⟨(some 7), .mov (.tmp 24), none⟩])
 .ret))))))
 (.seq (.seq (.reg [⟨(some 76), .mov (.tmp 2), none⟩, ⟨(some 77), .bin .eql (.tmp 76) (.val (.int .i64 0)), none⟩])
 (.cond (.tmp 77) (.reg [⟨(some 2), .mov (.val (.int .i64 64)), none⟩]) (.seq (.reg [⟨(some 78), .mov (.tmp 2), none⟩, ⟨(some 79), .bin .lss (.tmp 78) (.val (.int .i64 0)), none⟩, ⟨(some 80), .mov (.tmp 79), none⟩, ⟨(some 81), .mov (.tmp 2), (some (80, false))⟩, ⟨(some 82), .bin .gtr (.tmp 81) (.val (.int .i64 64)), (some (80, false))⟩, ⟨(some 83), .pick (.tmp 80) (.val (.bool true)) (.tmp 82), none⟩])
 (.cond (.tmp 83) (.seq (.reg [⟨(some 84), .xp (.mkif 138) [(.val (.int .i64 4))], none⟩, ⟨(some 6), .mov (.val (.int .u64 0)), none⟩, ⟨(some 7), .mov (.tmp 84), none⟩])
 .ret) .skip))))
 (.seq (.reg [⟨(some 10), .mov (.val (.int .u64 0)), none⟩])
 (.seq (.seq (.reg [⟨(some 85), .mov (.tmp 1), none⟩])
 (.block 2 (.seq (.reg [⟨(some 91), .bin .eql (.tmp 85) (.val (.int .i64 10)), none⟩, ⟨(some 90), .mov (.tmp 91), none⟩])
 (.cond (.tmp 90) (.reg [⟨(some 10), .mov (.val (.int .u64 1844674407370955162)), none⟩]) (.seq (.reg [⟨(some 93), .bin .eql (.tmp 85) (.val (.int .i64 16)), none⟩, ⟨(some 92), .mov (.tmp 93), none⟩])
 (.cond (.tmp 92) (.reg [⟨(some 10), .mov (.val (.int .u64 1152921504606846976)), none⟩]) (.reg [⟨(some 86), .mov (.tmp 1), none⟩, ⟨(some 87), .conv .u64 (.tmp 86), none⟩, ⟨(some 88), .bin .quo (.val (.int .u64 18446744073709551615)) (.tmp 87), none⟩, ⟨(some 89), .bin .add (.tmp 88) (.val (.int .u64 1)), none⟩, ⟨(some 10), .mov (.tmp 89), none⟩])))))))
 (.seq (.reg [⟨(some 94), .mov (.tmp 2), none⟩, ⟨(some 95), .conv .u64 (.tmp 94), none⟩, ⟨(some 96), .bin .shl (.val (.int .u64 1)) (.tmp 95), none⟩, ⟨(some 97), .bin .sub (.tmp 96) (.val (.int .u64 1)), none⟩, ⟨(some 11), .mov (.tmp 97), none⟩])
 (.seq (.reg [⟨(some 12), .mov (.val (.bool false)), none⟩])
 (.seq (.reg [⟨(some 13), .mov (.val (.int .u64 0)), none⟩])
 (.seq (.seq (.reg [⟨(some 98), .mov (.tmp 0), none⟩, ⟨(some 99), .xm (.s2b) [(.tmp 98)], none⟩, ⟨(some 100), .lenL (.tmp 99), none⟩, ⟨(some 101), .mov (.val (.int .i64 0)), none⟩])
 (.block 3 a97_L1))
 (.seq (.seq (.reg [⟨(some 164), .mov (.tmp 12), none⟩, ⟨(some 165), .mov (.tmp 164), none⟩, ⟨(some 166), .mov (.tmp 9), (some (165, true))⟩, ⟨(some 167), .call 116 [(.tmp 166)], (some (165, true))⟩, ⟨(some 168), .un .not (.tmp 167), (some (165, true))⟩, ⟨(some 169), .pick (.tmp 165) (.tmp 168) (.val (.bool false)), none⟩])
 (.cond (.tmp 169) (.seq (.reg [⟨(some 170), .xp (.mkif 138) [(.val (.int .i64 2))], none⟩, ⟨(some 6), .mov (.val (.int .u64 0)), none⟩, ⟨(some 7), .mov (.tmp 170), none⟩])
 .ret) .skip))
 (.seq (.reg [⟨(some 171), .mov (.tmp 13), none⟩, ⟨(some 6), .mov (.tmp 171), none⟩, ⟨(some 7), .mov (.val .nili), none⟩])
 .ret)))))))))))))) }
def h98 : Hints := ⟨[], [], []⟩
def a98 : AFn := { n := 18, np := 1, res := [.tmp 2], body :=
 (.seq (.reg [⟨(some 2), .mov (.val (.str ⟨#[]⟩)), none⟩])
 (.seq (.seq (.reg [⟨(some 4), .mov (.tmp 0), none⟩, ⟨(some 5), .lenS (.tmp 4), none⟩, ⟨(some 6), .bin .eql (.tmp 5) (.val (.int .i64 0)), none⟩])
 (.cond (.tmp 6) (.seq (.reg [⟨(some 2), .mov (.val (.str ⟨#[]⟩)), none⟩])
 .ret) .skip))
 (.seq (.reg [⟨(some 7), .mov (.tmp 0), none⟩, ⟨(some 8), .lenS (.tmp 7), none⟩, ⟨(some 9), .make 1 1 [(.int .u8 0)] (.tmp 8) (.tmp 8), none⟩, ⟨(some 3), .mov (.tmp 9), none⟩])
 (.seq (.reg [⟨(some 10), .mov (.tmp 3), none⟩, ⟨(some 11), .mov (.tmp 0), none⟩, ⟨(some 12), .xm (.copy 1) [(.tmp 10), (.tmp 11)], none⟩])
 (.seq (.reg [⟨(some 13), .mov (.tmp 3), none⟩, ⟨(some 14), .iaddrL 1 (.tmp 13) (.val (.int .i64 0)), none⟩, ⟨(some 15), .mov (.tmp 3), none⟩, ⟨(some 16), .lenL (.tmp 15), none⟩, ⟨(some 17), .xm (.ustr 5) [(.tmp 14), (.tmp 16)], none⟩, ⟨(some 2), .mov (.tmp 17), none⟩])
 .ret))))) }
def h99 : Hints := ⟨[], [], []⟩
def a99 : AFn := { n := 7, np := 1, res := [.tmp 2], body :=
 (.seq (.reg [⟨(some 2), .mov (.val .nili), none⟩])
 (.seq (.reg [⟨(some 3), .mov (.tmp 0), none⟩, ⟨(some 4), .build [(.str ⟨#[]⟩)] [(0, 1, (.tmp 3))], none⟩, ⟨(some 5), .box none (.tmp 4), none⟩, ⟨(some 6), .xp (.mkif 186) [(.tmp 5)], none⟩, ⟨(some 2), .mov (.tmp 6), none⟩])
 .ret)) }
def h115 : Hints := ⟨[], [], []⟩
def a115 : AFn := { n := 5, np := 1, res := [.tmp 2], body :=
 (.seq (.reg [⟨(some 2), .mov (.val (.int .u8 0)), none⟩])
 (.seq (.reg [⟨(some 3), .mov (.tmp 0), none⟩, ⟨(some 4), .bin .or (.tmp 3) (.val (.int .u8 32)), none⟩, ⟨(some 2), .mov (.tmp 4), none⟩])
 .ret)) }
def h116 : Hints := ⟨[], [], []⟩
def a116_B1 : AC := (.seq (.seq (.reg [⟨(some 51), .mov (.tmp 4), none⟩, ⟨(some 52), .mov (.tmp 0), none⟩, ⟨(some 53), .lenS (.tmp 52), none⟩, ⟨(some 54), .bin .lss (.tmp 51) (.tmp 53), none⟩])
 (.cond (.tmp 54) .skip (.exit 0)))
 (.seq (.block 1 (.seq (.seq (.reg [⟨(some 57), .mov (.tmp 0), none⟩, ⟨(some 58), .mov (.tmp 4), none⟩, ⟨(some 59), .idxS (.tmp 57) (.tmp 58), none⟩, ⟨(some 60), .bin .leq (.val (.int .u8 48)) (.tmp 59), none⟩, ⟨(some 61), .mov (.tmp 60), none⟩, ⟨(some 62), .mov (.tmp 0), (some (61, true))⟩, ⟨(some 63), .mov (.tmp 4), (some (61, true))⟩, ⟨(some 64), .idxS (.tmp 62) (.tmp 63), (some (61, true))⟩, ⟨(some 65), .bin .leq (.tmp 64) (.val (.int .u8 57)), (some (61, true))⟩, ⟨(some 66), .pick (.tmp 61) (.tmp 65) (.val (.bool false)), none⟩, ⟨(some 67), .mov (.tmp 66), none⟩, ⟨(some 68), .mov (.tmp 5), (some (67, false))⟩, ⟨(some 69), .mov (.tmp 68), (some (67, false))⟩, ⟨(some 70), .mov (.tmp 0), (some (69, true))⟩, ⟨(some 71), .mov (.tmp 4), (some (69, true))⟩, ⟨(some 72), .idxS (.tmp 70) (.tmp 71), (some (69, true))⟩, ⟨(some 73), .call 115 [(.tmp 72)], (some (69, true))⟩, ⟨(some 74), .bin .leq (.val (.int .u8 97)) (.tmp 73), (some (69, true))⟩, ⟨(some 75), .pick (.tmp 69) (.tmp 74) (.val (.bool false)), (some (67, false))⟩, ⟨(some 76), .mov (.tmp 75), (some (67, false))⟩, ⟨(some 77), .mov (.tmp 0), (some (76, true))⟩, ⟨(some 78), .mov (.tmp 4), (some (76, true))⟩, ⟨(some 79), .idxS (.tmp 77) (.tmp 78), (some (76, true))⟩, ⟨(some 80), .call 115 [(.tmp 79)], (some (76, true))⟩, ⟨(some 81), .bin .leq (.tmp 80) (.val (.int .u8 102)), (some (76, true))⟩, ⟨(some 82), .pick (.tmp 76) (.tmp 81) (.val (.bool false)), (some (67, false))⟩, ⟨(some 83), .pick (.tmp 67) (.val (.bool true)) (.tmp 82), none⟩])
 (.cond (.tmp 83) (.seq (.reg [⟨(some 3), .mov (.val (.int .i32 48)), none⟩])
 (.exit 1)) .skip))
 (.seq (.seq (.reg [⟨(some 84), .mov (.tmp 0), none⟩, ⟨(some 85), .mov (.tmp 4), none⟩, ⟨(some 86), .idxS (.tmp 84) (.tmp 85), none⟩, ⟨(some 87), .bin .eql (.tmp 86) (.val (.int .u8 95)), none⟩])
 (.cond (.tmp 87) (.seq (.seq (.reg [⟨(some 88), .mov (.tmp 3), none⟩, ⟨(some 89), .bin .neq (.tmp 88) (.val (.int .i32 48)), none⟩])
 (.cond (.tmp 89) (.seq (.reg [⟨(some 2), .mov (.val (.bool false)), none⟩])
 .ret) .skip))
 (.seq (.reg [⟨(some 3), .mov (.val (.int .i32 95)), none⟩])
 (.exit 1))) .skip))
 (.seq (.seq (.reg [⟨(some 90), .mov (.tmp 3), none⟩, ⟨(some 91), .bin .eql (.tmp 90) (.val (.int .i32 95)), none⟩])
 (.cond (.tmp 91) (.seq (.reg [⟨(some 2), .mov (.val (.bool false)), none⟩])
 .ret) .skip))
 (.reg [⟨(some 3), .mov (.val (.int .i32 33)), none⟩])))))
 (.reg [⟨(some 55), .mov (.tmp 4), none⟩, ⟨(some 56), .bin .add (.tmp 55) (.val (.int .i64 1)), none⟩, ⟨(some 4), .mov (.tmp 56), none⟩])))
def a116_L1 : AC := .loop a116_B1
theorem a116_L1_step (call : Caller) (again : AC → St → Option (Ex × St)) (s : St) : codeEv call again a116_L1 s = match codeEv call again a116_B1 s with | some (.norm, s1) => again a116_L1 s1 | r => r := rfl
def a116 : AFn := { n := 94, np := 1, res := [.tmp 2], body :=
 (.seq (.reg [⟨(some 2), .mov (.val (.bool false)), none⟩])
 (.seq (.reg [⟨(some 3), .mov (.val (.int .i32 94)), none⟩])
 (.seq (.reg [⟨(some 4), .mov (.val (.int .i64 0)), none⟩])
 (.seq (.seq (.reg [⟨(some 6), .mov (.tmp 0), none⟩, ⟨(some 7), .lenS (.tmp 6), none⟩, ⟨(some 8), .bin .geq (.tmp 7) (.val (.int .i64 1)), none⟩, ⟨(some 9), .mov (.tmp 8), none⟩, ⟨(some 10), .mov (.tmp 0), (some (9, true))⟩, ⟨(some 11), .idxS (.tmp 10) (.val (.int .i64 0)), (some (9, true))⟩, ⟨(some 12), .bin .eql (.tmp 11) (.val (.int .u8 45)), (some (9, true))⟩, ⟨(some 13), .mov (.tmp 12), (some (9, true))⟩, ⟨(some 14), .mov (.tmp 0), (some (13, false))⟩, ⟨(some 15), .idxS (.tmp 14) (.val (.int .i64 0)), (some (13, false))⟩, ⟨(some 16), .bin .eql (.tmp 15) (.val (.int .u8 43)), (some (13, false))⟩, ⟨(some 17), .pick (.tmp 13) (.val (.bool true)) (.tmp 16), (some (9, true))⟩, ⟨(some 18), .pick (.tmp 9) (.tmp 17) (.val (.bool false)), none⟩])
 (.cond (.tmp 18) (.reg [⟨(some 19), .mov (.tmp 0), none⟩, ⟨(some 20), .slcS (.tmp 19) (some (.val (.int .i64 1))) none, none⟩, ⟨(some 0), .mov (.tmp 20), none⟩]) .skip))
 (.seq (.reg [⟨(some 5), .mov (.val (.bool false)), none⟩])
 (.seq (.seq (.reg [⟨(some 21), .mov (.tmp 0), none⟩, ⟨(some 22), .lenS (.tmp 21), none⟩, ⟨(some 23), .bin .geq (.tmp 22) (.val (.int .i64 2)), none⟩, ⟨(some 24), .mov (.tmp 23), none⟩, ⟨(some 25), .mov (.tmp 0), (some (24, true))⟩, ⟨(some 26), .idxS (.tmp 25) (.val (.int .i64 0)), (some (24, true))⟩, ⟨(some 27), .bin .eql (.tmp 26) (.val (.int .u8 48)), (some (24, true))⟩, ⟨(some 28), .pick (.tmp 24) (.tmp 27) (.val (.bool false)), none⟩, ⟨(some 29), .mov (.tmp 28), none⟩, ⟨(some 30), .mov (.tmp 0), (some (29, true))⟩, ⟨(some 31), .idxS (.tmp 30) (.val (.int .i64 1)), (some (29, true))⟩, ⟨(some 32), .call 115 [(.tmp 31)], (some (29, true))⟩, ⟨(some 33), .bin .eql (.tmp 32) (.val (.int .u8 98)), (some (29, true))⟩, ⟨(some 34), .mov (.tmp 33), (some (29, true))⟩, ⟨(some 35), .mov (.tmp 0), (some (34, false))⟩, ⟨(some 36), .idxS (.tmp 35) (.val (.int .i64 1)), (some (34, false))⟩, ⟨(some 37), .call 115 [(.tmp 36)], (some (34, false))⟩, ⟨(some 38), .bin .eql (.tmp 37) (.val (.int .u8 111)), (some (34, false))⟩, ⟨(some 39), .pick (.tmp 34) (.val (.bool true)) (.tmp 38), (some (29, true))⟩, ⟨(some 40), .mov (.tmp 39), (some (29, true))⟩, ⟨(some 41), .mov (.tmp 0), (some (40, false))⟩, ⟨(some 42), .idxS (.tmp 41) (.val (.int .i64 1)), (some (40, false))⟩, ⟨(some 43), .call 115 [(.tmp 42)], (some (40, false))⟩, ⟨(some 44), .bin .eql (.tmp 43) (.val (.int .u8 120)), (some (40, false))⟩, ⟨(some 45), .pick (.tmp 40) (.val (.bool true)) (.tmp 44), (some (29, true))⟩, ⟨(some 46), .pick (.tmp 29) (.tmp 45) (.val (.bool false)), none⟩])
 (.cond (.tmp 46) (.seq (.reg [⟨(some 4), .mov (.val (.int .i64 2)), none⟩])
 (.seq (.reg [⟨(some 3), .mov (.val (.int .i32 48)), none⟩])
 (.reg [⟨(some 47), .mov (.tmp 0), none⟩, ⟨(some 48), .idxS (.tmp 47) (.val (.int .i64 1)), none⟩, ⟨(some 49), .call 115 [(.tmp 48)], none⟩, ⟨(some 50), .bin .eql (.tmp 49) (.val (.int .u8 120)), none⟩, ⟨(some 5), .mov (.tmp 50), none⟩]))) .skip))
 (.seq (.block 0 a116_L1)
 (.seq (.reg [⟨(some 92), .mov (.tmp 3), none⟩, ⟨(some 93), .bin .neq (.tmp 92) (.val (.int .i32 95)), none⟩, ⟨(some 2), .mov (.tmp 93), none⟩])
 .ret)))))))) }
theorem t3 : trFn Tryd.prog h3 Tryd.f3 = some a3 := by kernel_rfl
theorem t4 : trFn Tryd.prog h4 Tryd.f4 = some a4 := by kernel_rfl
theorem t11 : trFn Tryd.prog h11 Tryd.f11 = some a11 := by kernel_rfl
theorem t12 : trFn Tryd.prog h12 Tryd.f12 = some a12 := by kernel_rfl
theorem t13 : trFn Tryd.prog h13 Tryd.f13 = some a13 := by kernel_rfl
theorem t14 : trFn Tryd.prog h14 Tryd.f14 = some a14 := by kernel_rfl
theorem t15 : trFn Tryd.prog h15 Tryd.f15 = some a15 := by kernel_rfl
theorem t35 : trFn Tryd.prog h35 Tryd.f35 = some a35 := by kernel_rfl
theorem t36 : trFn Tryd.prog h36 Tryd.f36 = some a36 := by kernel_rfl
theorem t37 : trFn Tryd.prog h37 Tryd.f37 = some a37 := by kernel_rfl
theorem t40 : trFn Tryd.prog h40 Tryd.f40 = some a40 := by kernel_rfl
theorem t41 : trFn Tryd.prog h41 Tryd.f41 = some a41 := by kernel_rfl
theorem t42 : trFn Tryd.prog h42 Tryd.f42 = some a42 := by kernel_rfl
theorem t62 : trFn Tryd.prog h62 Tryd.f62 = some a62 := by kernel_rfl
theorem t67 : trFn Tryd.prog h67 Tryd.f67 = some a67 := by kernel_rfl
theorem t68 : trFn Tryd.prog h68 Tryd.f68 = some a68 := by kernel_rfl
theorem t69 : trFn Tryd.prog h69 Tryd.f69 = some a69 := by kernel_rfl
theorem t70 : trFn Tryd.prog h70 Tryd.f70 = some a70 := by kernel_rfl
theorem t81 : trFn Tryd.prog h81 Tryd.f81 = some a81 := by kernel_rfl
theorem t82 : trFn Tryd.prog h82 Tryd.f82 = some a82 := by kernel_rfl
theorem t83 : trFn Tryd.prog h83 Tryd.f83 = some a83 := by kernel_rfl
theorem t84 : trFn Tryd.prog h84 Tryd.f84 = some a84 := by kernel_rfl
theorem t85 : trFn Tryd.prog h85 Tryd.f85 = some a85 := by kernel_rfl
theorem t86 : trFn Tryd.prog h86 Tryd.f86 = some a86 := by kernel_rfl
theorem t95 : trFn Tryd.prog h95 Tryd.f95 = some a95 := by kernel_rfl
theorem t96 : trFn Tryd.prog h96 Tryd.f96 = some a96 := by kernel_rfl
theorem t97 : trFn Tryd.prog h97 Tryd.f97 = some a97 := by kernel_rfl
theorem t98 : trFn Tryd.prog h98 Tryd.f98 = some a98 := by kernel_rfl
theorem t99 : trFn Tryd.prog h99 Tryd.f99 = some a99 := by kernel_rfl
theorem t115 : trFn Tryd.prog h115 Tryd.f115 = some a115 := by kernel_rfl
theorem t116 : trFn Tryd.prog h116 Tryd.f116 = some a116 := by kernel_rfl
def a38 : AFn := primFn (itoaEv 7)
def a39 : AFn := primFn joinEv
def A : Nat → Option AFn := lkF [(3, a3), (4, a4), (11, a11), (12, a12), (13, a13), (14, a14), (15, a15), (35, a35), (36, a36), (37, a37), (38, a38), (39, a39), (40, a40), (41, a41), (42, a42), (62, a62), (67, a67), (68, a68), (69, a69), (70, a70), (81, a81), (82, a82), (83, a83), (84, a84), (85, a85), (86, a86), (95, a95), (96, a96), (97, a97), (98, a98), (99, a99), (115, a115), (116, a116)]
theorem A_ok : AOk Tryd.prog A := lkF_ok ⟨.inl ⟨h3, Tryd.f3, Tryd.func3, t3⟩,
  .inl ⟨h4, Tryd.f4, Tryd.func4, t4⟩,
  .inl ⟨h11, Tryd.f11, Tryd.func11, t11⟩,
  .inl ⟨h12, Tryd.f12, Tryd.func12, t12⟩,
  .inl ⟨h13, Tryd.f13, Tryd.func13, t13⟩,
  .inl ⟨h14, Tryd.f14, Tryd.func14, t14⟩,
  .inl ⟨h15, Tryd.f15, Tryd.func15, t15⟩,
  .inl ⟨h35, Tryd.f35, Tryd.func35, t35⟩,
  .inl ⟨h36, Tryd.f36, Tryd.func36, t36⟩,
  .inl ⟨h37, Tryd.f37, Tryd.func37, t37⟩,
  .inr ⟨_, rfl, itoa38⟩,
  .inr ⟨_, rfl, join39⟩,
  .inl ⟨h40, Tryd.f40, Tryd.func40, t40⟩,
  .inl ⟨h41, Tryd.f41, Tryd.func41, t41⟩,
  .inl ⟨h42, Tryd.f42, Tryd.func42, t42⟩,
  .inl ⟨h62, Tryd.f62, Tryd.func62, t62⟩,
  .inl ⟨h67, Tryd.f67, Tryd.func67, t67⟩,
  .inl ⟨h68, Tryd.f68, Tryd.func68, t68⟩,
  .inl ⟨h69, Tryd.f69, Tryd.func69, t69⟩,
  .inl ⟨h70, Tryd.f70, Tryd.func70, t70⟩,
  .inl ⟨h81, Tryd.f81, Tryd.func81, t81⟩,
  .inl ⟨h82, Tryd.f82, Tryd.func82, t82⟩,
  .inl ⟨h83, Tryd.f83, Tryd.func83, t83⟩,
  .inl ⟨h84, Tryd.f84, Tryd.func84, t84⟩,
  .inl ⟨h85, Tryd.f85, Tryd.func85, t85⟩,
  .inl ⟨h86, Tryd.f86, Tryd.func86, t86⟩,
  .inl ⟨h95, Tryd.f95, Tryd.func95, t95⟩,
  .inl ⟨h96, Tryd.f96, Tryd.func96, t96⟩,
  .inl ⟨h97, Tryd.f97, Tryd.func97, t97⟩,
  .inl ⟨h98, Tryd.f98, Tryd.func98, t98⟩,
  .inl ⟨h99, Tryd.f99, Tryd.func99, t99⟩,
  .inl ⟨h115, Tryd.f115, Tryd.func115, t115⟩,
  .inl ⟨h116, Tryd.f116, Tryd.func116, t116⟩, trivial⟩
theorem run_3 (n : Nat) (args : List AV) (m : Mem) : run A (n + 1) 3 args m = fnEv (run A n) (ev A n).2 a3 args m := run_of rfl n args m
theorem run_4 (n : Nat) (args : List AV) (m : Mem) : run A (n + 1) 4 args m = fnEv (run A n) (ev A n).2 a4 args m := run_of rfl n args m
theorem run_11 (n : Nat) (args : List AV) (m : Mem) : run A (n + 1) 11 args m = fnEv (run A n) (ev A n).2 a11 args m := run_of rfl n args m
theorem run_12 (n : Nat) (args : List AV) (m : Mem) : run A (n + 1) 12 args m = fnEv (run A n) (ev A n).2 a12 args m := run_of rfl n args m
theorem run_13 (n : Nat) (args : List AV) (m : Mem) : run A (n + 1) 13 args m = fnEv (run A n) (ev A n).2 a13 args m := run_of rfl n args m
theorem run_14 (n : Nat) (args : List AV) (m : Mem) : run A (n + 1) 14 args m = fnEv (run A n) (ev A n).2 a14 args m := run_of rfl n args m
theorem run_15 (n : Nat) (args : List AV) (m : Mem) : run A (n + 1) 15 args m = fnEv (run A n) (ev A n).2 a15 args m := run_of rfl n args m
theorem run_35 (n : Nat) (args : List AV) (m : Mem) : run A (n + 1) 35 args m = fnEv (run A n) (ev A n).2 a35 args m := run_of rfl n args m
theorem run_36 (n : Nat) (args : List AV) (m : Mem) : run A (n + 1) 36 args m = fnEv (run A n) (ev A n).2 a36 args m := run_of rfl n args m
theorem run_37 (n : Nat) (args : List AV) (m : Mem) : run A (n + 1) 37 args m = fnEv (run A n) (ev A n).2 a37 args m := run_of rfl n args m
theorem run_38 (n : Nat) (args : List AV) (m : Mem) : run A (n + 1) 38 args m = fnEv (run A n) (ev A n).2 a38 args m := run_of rfl n args m
theorem run_39 (n : Nat) (args : List AV) (m : Mem) : run A (n + 1) 39 args m = fnEv (run A n) (ev A n).2 a39 args m := run_of rfl n args m
theorem run_40 (n : Nat) (args : List AV) (m : Mem) : run A (n + 1) 40 args m = fnEv (run A n) (ev A n).2 a40 args m := run_of rfl n args m
theorem run_41 (n : Nat) (args : List AV) (m : Mem) : run A (n + 1) 41 args m = fnEv (run A n) (ev A n).2 a41 args m := run_of rfl n args m
theorem run_42 (n : Nat) (args : List AV) (m : Mem) : run A (n + 1) 42 args m = fnEv (run A n) (ev A n).2 a42 args m := run_of rfl n args m
theorem run_62 (n : Nat) (args : List AV) (m : Mem) : run A (n + 1) 62 args m = fnEv (run A n) (ev A n).2 a62 args m := run_of rfl n args m
theorem run_67 (n : Nat) (args : List AV) (m : Mem) : run A (n + 1) 67 args m = fnEv (run A n) (ev A n).2 a67 args m := run_of rfl n args m
theorem run_68 (n : Nat) (args : List AV) (m : Mem) : run A (n + 1) 68 args m = fnEv (run A n) (ev A n).2 a68 args m := run_of rfl n args m
theorem run_69 (n : Nat) (args : List AV) (m : Mem) : run A (n + 1) 69 args m = fnEv (run A n) (ev A n).2 a69 args m := run_of rfl n args m
theorem run_70 (n : Nat) (args : List AV) (m : Mem) : run A (n + 1) 70 args m = fnEv (run A n) (ev A n).2 a70 args m := run_of rfl n args m
theorem run_81 (n : Nat) (args : List AV) (m : Mem) : run A (n + 1) 81 args m = fnEv (run A n) (ev A n).2 a81 args m := run_of rfl n args m
theorem run_82 (n : Nat) (args : List AV) (m : Mem) : run A (n + 1) 82 args m = fnEv (run A n) (ev A n).2 a82 args m := run_of rfl n args m
theorem run_83 (n : Nat) (args : List AV) (m : Mem) : run A (n + 1) 83 args m = fnEv (run A n) (ev A n).2 a83 args m := run_of rfl n args m
theorem run_84 (n : Nat) (args : List AV) (m : Mem) : run A (n + 1) 84 args m = fnEv (run A n) (ev A n).2 a84 args m := run_of rfl n args m
theorem run_85 (n : Nat) (args : List AV) (m : Mem) : run A (n + 1) 85 args m = fnEv (run A n) (ev A n).2 a85 args m := run_of rfl n args m
theorem run_86 (n : Nat) (args : List AV) (m : Mem) : run A (n + 1) 86 args m = fnEv (run A n) (ev A n).2 a86 args m := run_of rfl n args m
theorem run_95 (n : Nat) (args : List AV) (m : Mem) : run A (n + 1) 95 args m = fnEv (run A n) (ev A n).2 a95 args m := run_of rfl n args m
theorem run_96 (n : Nat) (args : List AV) (m : Mem) : run A (n + 1) 96 args m = fnEv (run A n) (ev A n).2 a96 args m := run_of rfl n args m
theorem run_97 (n : Nat) (args : List AV) (m : Mem) : run A (n + 1) 97 args m = fnEv (run A n) (ev A n).2 a97 args m := run_of rfl n args m
theorem run_98 (n : Nat) (args : List AV) (m : Mem) : run A (n + 1) 98 args m = fnEv (run A n) (ev A n).2 a98 args m := run_of rfl n args m
theorem run_99 (n : Nat) (args : List AV) (m : Mem) : run A (n + 1) 99 args m = fnEv (run A n) (ev A n).2 a99 args m := run_of rfl n args m
theorem run_115 (n : Nat) (args : List AV) (m : Mem) : run A (n + 1) 115 args m = fnEv (run A n) (ev A n).2 a115 args m := run_of rfl n args m
theorem run_116 (n : Nat) (args : List AV) (m : Mem) : run A (n + 1) 116 args m = fnEv (run A n) (ev A n).2 a116 args m := run_of rfl n args m
end
end Go.Proofs.YtekljfhfjncmjaaDoor
