/- The functions of this seat, as the abstract machine has them; each is what its translation out of the program gives. Made by program. -/
import Derived.Test.YtekljfhfjncmjaaDoorProg
import Derived.Test.YtekljfhfjncmjaaDoorAgFast
import Derived.Test.YtekljfhfjncmjaaDoorAgSym


import Derived.Test.YtekljfhfjncmjaaDoorAgShelf
import Derived.Test.YtekljfhfjncmjaaDoorAgShelf2
namespace Go.Proofs.YtekljfhfjncmjaaDoor
open AG
noncomputable section
set_option maxRecDepth 100000
set_option maxHeartbeats 4000000
def h3 : Hints := ⟨[2, 3], [(0, [0, 1], []), (1, [2, 3], [2, 3]), (2, [], []), (3, [2, 3], [2, 3]), (4, [2], [2]), (5, [2, 3], [2, 3])], []⟩
def a3_R1 : AC := .keep [2, 3] [2, 3] (.reg [⟨(some 7), .load (some 4) (.tmp 2), none⟩, ⟨(some 8), .call 12 [(.tmp 7)], none⟩, ⟨(some 9), .bin .neq (.tmp 8) (.val (.int .i64 0)), none⟩, ⟨(some 10), .mov (.tmp 9), none⟩, ⟨(some 11), .load (some 4) (.tmp 3), (some (10, false))⟩, ⟨(some 12), .call 12 [(.tmp 11)], (some (10, false))⟩, ⟨(some 13), .bin .neq (.tmp 12) (.val (.int .i64 0)), (some (10, false))⟩, ⟨(some 14), .pick (.tmp 10) (.val (.bool true)) (.tmp 13), none⟩])
def a3_R2 : AC := .keep [2] [2] (.reg [⟨(some 15), .load (some 4) (.tmp 2), none⟩, ⟨(some 16), .call 12 [(.tmp 15)], none⟩, ⟨(some 17), .bin .eql (.tmp 16) (.val (.int .i64 0)), none⟩, ⟨(some 18), .mov (.tmp 17), none⟩, ⟨(some 19), .load (some 4) (.tmp 2), (some (18, false))⟩, ⟨(some 20), .call 13 [(.tmp 19)], (some (18, false))⟩, ⟨(some 21), .bin .eql (.tmp 20) (.val (.str ⟨#[]⟩)), (some (18, false))⟩, ⟨(some 22), .pick (.tmp 18) (.val (.bool true)) (.tmp 21), none⟩, ⟨(some 4), .mov (.tmp 22), none⟩])
def a3_R3 : AC := .keep [2, 3] [2, 3] (.dreg [(false, ⟨(some 23), .load (some 4) (.tmp 2), none⟩, false), (true, ⟨(some 24), .call 13 [(.tmp 23)], none⟩, false), (true, ⟨(some 25), .load (some 4) (.tmp 3), none⟩, false), (true, ⟨(some 26), .call 13 [(.tmp 25)], none⟩, false), (false, ⟨(some 27), .bin .eql (.tmp 24) (.tmp 26), none⟩, false), (true, ⟨(some 28), .load (some 4) (.tmp 2), none⟩, false), (true, ⟨(some 29), .load (some 4) (.tmp 3), none⟩, false), (false, ⟨(some 30), .eq false (.agg [(0, 0), (1, 0), (2, 0), (3, 0)]) (.tmp 28) (.tmp 29), none⟩, false), (false, ⟨(some 31), .eq false .bool (.tmp 27) (.tmp 30), none⟩, false), (false, ⟨(some 4), .mov (.tmp 31), none⟩, false)])
def a3 : AFn := { n := 32, np := 2, res := [.tmp 4], body :=
 (.seq (.keep [0, 1] [] (.reg [⟨(some 2), .box (some 2) (.tmp 0), none⟩, ⟨(some 3), .box (some 3) (.tmp 1), none⟩, ⟨(some 4), .mov (.val (.bool false)), none⟩]))
 (.seq (.seq (.keep [2, 3] [2, 3] (.reg [⟨(some 5), .call 11 [], none⟩, ⟨(some 6), .un .not (.tmp 5), none⟩]))
 (.cond (.tmp 6) (.seq (.keep [] [] (.reg [⟨(some 4), .mov (.val (.bool false)), none⟩]))
 .ret) .skip))
 (.seq (.seq a3_R1
 (.cond (.tmp 14) (.seq a3_R2
 .ret) .skip))
 (.seq a3_R3
 .ret)))) }
def h4 : Hints := ⟨[1, 8, 9, 10, 14], [(0, [0], []), (1, [1], [1]), (2, [], []), (3, [1], [1]), (4, [], []), (5, [1], [1]), (6, [1, 3], [1]), (7, [1, 3, 4], [1]), (8, [1, 3, 4, 5], [1]), (10, [1, 3, 4, 5], [1]), (11, [1, 3, 4, 5], [1]), (9, [1, 3, 4, 5], [1]), (12, [1, 4], [1]), (13, [1, 4, 6], [1]), (14, [1, 4, 6, 7], [1]), (16, [1, 4, 6, 7], [1]), (17, [1, 4, 6, 7, 8], [1, 8]), (19, [1, 4, 6, 7, 8, 42], [1, 8]), (20, [1, 4, 6, 7, 8], [1, 8]), (21, [1, 4, 6, 7, 8, 42], [1, 8]), (22, [1, 4, 6, 7, 8], [1, 8]), (18, [1, 4, 6, 7, 8], [1, 8]), (23, [1, 4, 6, 7, 8], [1, 8]), (24, [], []), (15, [1, 4, 6, 7], [1]), (25, [1, 4, 6], [1]), (26, [1, 4, 6, 9], [1, 9]), (27, [1, 4, 6, 9], [1, 9]), (28, [1, 4, 6, 9, 10], [1, 9, 10]), (29, [1, 4, 6, 9, 10], [1, 9, 10]), (30, [1, 4, 9], [1, 9]), (31, [1, 4, 6, 9], [1, 9]), (32, [1, 4, 6, 9], [1, 9]), (33, [1, 4, 6, 9], [1, 9]), (34, [1, 4, 9], [1, 9]), (35, [1, 4, 6, 9], [1, 9]), (36, [1, 4, 6, 9], [1, 9]), (37, [1, 4, 6, 9], [1, 9]), (38, [1, 4], [1]), (39, [1, 4, 6], [1]), (40, [1, 4, 6, 11, 12, 13], [1]), (41, [1, 4, 6, 11, 12, 13, 14], [1, 14]), (42, [4, 6, 11, 12, 13, 14], [14]), (43, [4, 6, 11, 12, 13, 15, 16, 17], [])], []⟩
def a4_R1 : AC := .keep [1, 4, 6, 7, 8] [1, 8] (.reg [⟨(some 50), .load (some 4) (.tmp 8), none⟩, ⟨(some 51), .call 12 [(.tmp 50)], none⟩, ⟨(some 52), .bin .neq (.tmp 51) (.val (.int .i64 2)), none⟩, ⟨(some 53), .mov (.tmp 52), none⟩, ⟨(some 54), .load (some 4) (.tmp 8), (some (53, false))⟩, ⟨(some 55), .call 13 [(.tmp 54)], (some (53, false))⟩, ⟨(some 56), .bin .neq (.tmp 55) (.val (.str ⟨#[]⟩)), (some (53, false))⟩, ⟨(some 57), .pick (.tmp 53) (.val (.bool true)) (.tmp 56), none⟩])
def a4_R2 : AC := .keep [1, 4, 6, 9, 10] [1, 9, 10] (.reg [⟨(some 62), .load (some 4) (.tmp 9), none⟩, ⟨(some 63), .call 12 [(.tmp 62)], none⟩, ⟨(some 64), .bin .eql (.tmp 63) (.val (.int .i64 0)), none⟩, ⟨(some 65), .mov (.tmp 64), none⟩, ⟨(some 66), .load (some 4) (.tmp 10), (some (65, false))⟩, ⟨(some 67), .call 12 [(.tmp 66)], (some (65, false))⟩, ⟨(some 68), .bin .neq (.tmp 67) (.val (.int .i64 0)), (some (65, false))⟩, ⟨(some 69), .pick (.tmp 65) (.val (.bool true)) (.tmp 68), none⟩])
def a4_R3 : AC := .keep [1, 4, 6] [1] (.reg [⟨(some 81), .load (some 4) (.tmp 1), none⟩, ⟨(some 82), .mkslc 1 8 [(.int .i64 0)] [(0, (.val (.int .i64 1))), (1, (.val (.int .i64 1))), (2, (.val (.int .i64 1))), (3, (.val (.int .i64 1))), (4, (.val (.int .i64 1))), (5, (.val (.int .i64 1))), (6, (.val (.int .i64 1))), (7, (.val (.int .i64 1)))], none⟩, ⟨(some 83), .call 14 [(.tmp 81), (.tmp 82)], none⟩, ⟨(some 80), .mov (.tmp 83), none⟩, ⟨(some 84), .ext (.tmp 80) 0, none⟩, ⟨(some 85), .ext (.tmp 80) 1, none⟩, ⟨(some 86), .ext (.tmp 80) 2, none⟩, ⟨(some 11), .mov (.tmp 84), none⟩, ⟨(some 12), .mov (.tmp 85), none⟩, ⟨(some 13), .mov (.tmp 86), none⟩])
def a4_R4 : AC := .keep [4, 6, 11, 12, 13, 14] [14] (.reg [⟨(some 93), .load (some 4) (.tmp 14), none⟩, ⟨(some 94), .mkslc 1 8 [(.int .i64 0)] [(0, (.val (.int .i64 1))), (1, (.val (.int .i64 1))), (2, (.val (.int .i64 1))), (3, (.val (.int .i64 1))), (4, (.val (.int .i64 1))), (5, (.val (.int .i64 1))), (6, (.val (.int .i64 1))), (7, (.val (.int .i64 1)))], none⟩, ⟨(some 95), .call 14 [(.tmp 93), (.tmp 94)], none⟩, ⟨(some 92), .mov (.tmp 95), none⟩, ⟨(some 96), .ext (.tmp 92) 0, none⟩, ⟨(some 97), .ext (.tmp 92) 1, none⟩, ⟨(some 98), .ext (.tmp 92) 2, none⟩, ⟨(some 15), .mov (.tmp 96), none⟩, ⟨(some 16), .mov (.tmp 97), none⟩, ⟨(some 17), .mov (.tmp 98), none⟩])
def a4_R5 : AC := .keep [4, 6, 11, 12, 13, 15, 16, 17] [] (.reg [⟨(some 99), .mov (.tmp 4), none⟩, ⟨(some 100), .mov (.tmp 6), none⟩, ⟨(some 101), .bin .add (.tmp 100) (.val (.int .i64 1)), none⟩, ⟨(some 102), .bin .eql (.tmp 99) (.tmp 101), none⟩, ⟨(some 103), .mov (.tmp 102), none⟩, ⟨(some 104), .mov (.tmp 13), (some (103, true))⟩, ⟨(some 105), .un .not (.tmp 104), (some (103, true))⟩, ⟨(some 106), .mov (.tmp 105), (some (103, true))⟩, ⟨(some 107), .mov (.tmp 17), (some (106, false))⟩, ⟨(some 108), .un .not (.tmp 107), (some (106, false))⟩, ⟨(some 109), .pick (.tmp 106) (.val (.bool true)) (.tmp 108), (some (103, true))⟩, ⟨(some 110), .mov (.tmp 109), (some (103, true))⟩, ⟨(some 111), .mov (.tmp 11), (some (110, false))⟩, ⟨(some 112), .mov (.tmp 15), (some (110, false))⟩, ⟨(some 113), .bin .eql (.tmp 111) (.tmp 112), (some (110, false))⟩, ⟨(some 114), .mov (.tmp 113), (some (110, false))⟩, ⟨(some 115), .mov (.tmp 12), (some (114, true))⟩, ⟨(some 116), .mov (.tmp 16), (some (114, true))⟩, ⟨(some 117), .bin .eql (.tmp 115) (.tmp 116), (some (114, true))⟩, ⟨(some 118), .pick (.tmp 114) (.tmp 117) (.val (.bool false)), (some (110, false))⟩, ⟨(some 119), .pick (.tmp 110) (.val (.bool true)) (.tmp 118), (some (103, true))⟩, ⟨(some 120), .pick (.tmp 103) (.tmp 119) (.val (.bool false)), none⟩, ⟨(some 2), .mov (.tmp 120), none⟩])
def a4_B1 : AC := (.seq (.seq (.keep [1, 4, 6, 7] [1] (.reg [⟨(some 37), .mov (.tmp 7), none⟩, ⟨(some 38), .bin .lss (.tmp 37) (.val (.int .i64 3)), none⟩]))
 (.cond (.tmp 38) .skip (.exit 2)))
 (.seq (.block 3 (.seq (.keep [1, 4, 6, 7] [1] (.reg [⟨(some 41), .load (some 4) (.tmp 1), none⟩, ⟨(some 8), .alloc (some 8) [(.int .i64 0), (.int .i64 0), (.int .i64 0), (.int .i64 0)], none⟩, ⟨none, .store 4 (.tmp 8) (.tmp 41), none⟩]))
 (.seq (.seq (.keep [1, 4, 6, 7, 8] [1, 8] (.reg [⟨(some 42), .mov (.tmp 7), none⟩]))
 (.block 4 (.seq (.keep [1, 4, 6, 7, 8, 42] [1, 8] (.reg [⟨(some 45), .bin .eql (.tmp 42) (.val (.int .i64 0)), none⟩, ⟨(some 44), .mov (.tmp 45), none⟩]))
 (.cond (.tmp 44) (.keep [1, 4, 6, 7, 8] [1, 8] (.reg [⟨(some 46), .faddr 1 (.tmp 8), none⟩, ⟨none, .store 1 (.tmp 46) (.val (.int .i64 (-1))), none⟩])) (.seq (.keep [1, 4, 6, 7, 8, 42] [1, 8] (.reg [⟨(some 48), .bin .eql (.tmp 42) (.val (.int .i64 1)), none⟩, ⟨(some 47), .mov (.tmp 48), none⟩]))
 (.cond (.tmp 47) (.keep [1, 4, 6, 7, 8] [1, 8] (.reg [⟨(some 49), .faddr 2 (.tmp 8), none⟩, ⟨none, .store 1 (.tmp 49) (.val (.int .i64 (-1))), none⟩])) (.keep [1, 4, 6, 7, 8] [1, 8] (.reg [⟨(some 43), .faddr 3 (.tmp 8), none⟩, ⟨none, .store 1 (.tmp 43) (.val (.int .i64 (-1))), none⟩]))))))))
 (.seq a4_R1
 (.cond (.tmp 57) (.seq (.keep [] [] (.reg [⟨(some 2), .mov (.val (.bool false)), none⟩]))
 .ret) .skip)))))
 (.keep [1, 4, 6, 7] [1] (.reg [⟨(some 39), .mov (.tmp 7), none⟩, ⟨(some 40), .bin .add (.tmp 39) (.val (.int .i64 1)), none⟩, ⟨(some 7), .mov (.tmp 40), none⟩]))))
def a4_L1 : AC := .loop a4_B1
theorem a4_L1_step (call : Caller) (again : AC → St → Option (Ex × St)) (s : St) : codeEv call again a4_L1 s = match codeEv call again a4_B1 s with | some (.norm, s1) => again a4_L1 s1 | r => r := rfl
def a4_B2 : AC := (.seq (.seq (.keep [1, 3, 4, 5] [1] (.reg [⟨(some 25), .mov (.tmp 5), none⟩, ⟨(some 26), .mov (.tmp 3), none⟩, ⟨(some 27), .lenS (.tmp 26), none⟩, ⟨(some 28), .bin .lss (.tmp 25) (.tmp 27), none⟩]))
 (.cond (.tmp 28) .skip (.exit 0)))
 (.seq (.block 1 (.seq (.keep [1, 3, 4, 5] [1] (.reg [⟨(some 31), .mov (.tmp 3), none⟩, ⟨(some 32), .mov (.tmp 5), none⟩, ⟨(some 33), .idxS (.tmp 31) (.tmp 32), none⟩, ⟨(some 34), .bin .eql (.tmp 33) (.val (.int .u8 32)), none⟩]))
 (.cond (.tmp 34) (.keep [1, 3, 4, 5] [1] (.reg [⟨(some 35), .mov (.tmp 4), none⟩, ⟨(some 36), .bin .add (.tmp 35) (.val (.int .i64 1)), none⟩, ⟨(some 4), .mov (.tmp 36), none⟩])) .skip)))
 (.keep [1, 3, 4, 5] [1] (.reg [⟨(some 29), .mov (.tmp 5), none⟩, ⟨(some 30), .bin .add (.tmp 29) (.val (.int .i64 1)), none⟩, ⟨(some 5), .mov (.tmp 30), none⟩]))))
def a4_L2 : AC := .loop a4_B2
theorem a4_L2_step (call : Caller) (again : AC → St → Option (Ex × St)) (s : St) : codeEv call again a4_L2 s = match codeEv call again a4_B2 s with | some (.norm, s1) => again a4_L2 s1 | r => r := rfl
def a4 : AFn := { n := 121, np := 1, res := [.tmp 2], body :=
 (.seq (.keep [0] [] (.reg [⟨(some 1), .box (some 1) (.tmp 0), none⟩, ⟨(some 2), .mov (.val (.bool false)), none⟩]))
 (.seq (.seq (.keep [1] [1] (.reg [⟨(some 18), .call 11 [], none⟩, ⟨(some 19), .un .not (.tmp 18), none⟩]))
 (.cond (.tmp 19) (.seq (.keep [] [] (.reg [⟨(some 2), .mov (.val (.bool false)), none⟩]))
 .ret) .skip))
 (.seq (.seq (.keep [1] [1] (.reg [⟨(some 20), .load (some 4) (.tmp 1), none⟩, ⟨(some 21), .call 12 [(.tmp 20)], none⟩, ⟨(some 22), .bin .neq (.tmp 21) (.val (.int .i64 0)), none⟩]))
 (.cond (.tmp 22) (.seq (.keep [] [] (.reg [⟨(some 2), .mov (.val (.bool true)), none⟩]))
 .ret) .skip))
 (.seq (.keep [1] [1] (.reg [⟨(some 23), .load (some 4) (.tmp 1), none⟩, ⟨(some 24), .call 13 [(.tmp 23)], none⟩, ⟨(some 3), .mov (.tmp 24), none⟩]))
 (.seq (.keep [1, 3] [1] (.reg [⟨(some 4), .mov (.val (.int .i64 1)), none⟩]))
 (.seq (.seq (.keep [1, 3, 4] [1] (.reg [⟨(some 5), .mov (.val (.int .i64 0)), none⟩]))
 (.block 0 a4_L2))
 (.seq (.keep [1, 4] [1] (.reg [⟨(some 6), .mov (.val (.int .i64 0)), none⟩]))
 (.seq (.seq (.keep [1, 4, 6] [1] (.reg [⟨(some 7), .mov (.val (.int .i64 0)), none⟩]))
 (.block 2 a4_L1))
 (.seq (.keep [1, 4, 6] [1] (.reg [⟨(some 58), .load (some 4) (.tmp 1), none⟩, ⟨(some 9), .alloc (some 9) [(.int .i64 0), (.int .i64 0), (.int .i64 0), (.int .i64 0)], none⟩, ⟨none, .store 4 (.tmp 9) (.tmp 58), none⟩]))
 (.seq (.keep [1, 4, 6, 9] [1, 9] (.reg [⟨(some 59), .faddr 1 (.tmp 9), none⟩, ⟨none, .store 1 (.tmp 59) (.val (.int .i64 1)), none⟩]))
 (.seq (.keep [1, 4, 6, 9] [1, 9] (.reg [⟨(some 60), .load (some 4) (.tmp 9), none⟩, ⟨(some 10), .alloc (some 10) [(.int .i64 0), (.int .i64 0), (.int .i64 0), (.int .i64 0)], none⟩, ⟨none, .store 4 (.tmp 10) (.tmp 60), none⟩]))
 (.seq (.keep [1, 4, 6, 9, 10] [1, 9, 10] (.reg [⟨(some 61), .faddr 1 (.tmp 10), none⟩, ⟨none, .store 1 (.tmp 61) (.val (.int .i64 0)), none⟩]))
 (.seq (.seq a4_R2
 (.cond (.tmp 69) (.keep [1, 4, 9] [1, 9] (.reg [⟨(some 6), .mov (.val (.int .i64 1)), none⟩])) .skip))
 (.seq (.keep [1, 4, 6, 9] [1, 9] (.reg [⟨(some 70), .load (some 4) (.tmp 1), none⟩, ⟨none, .store 4 (.tmp 9) (.tmp 70), none⟩]))
 (.seq (.keep [1, 4, 6, 9] [1, 9] (.reg [⟨(some 71), .faddr 2 (.tmp 9), none⟩, ⟨none, .store 1 (.tmp 71) (.val (.int .i64 8)), none⟩]))
 (.seq (.seq (.keep [1, 4, 6, 9] [1, 9] (.reg [⟨(some 72), .load (some 4) (.tmp 9), none⟩, ⟨(some 73), .call 12 [(.tmp 72)], none⟩, ⟨(some 74), .bin .eql (.tmp 73) (.val (.int .i64 0)), none⟩]))
 (.cond (.tmp 74) (.keep [1, 4, 9] [1, 9] (.reg [⟨(some 6), .mov (.val (.int .i64 2)), none⟩])) .skip))
 (.seq (.keep [1, 4, 6, 9] [1, 9] (.reg [⟨(some 75), .load (some 4) (.tmp 1), none⟩, ⟨none, .store 4 (.tmp 9) (.tmp 75), none⟩]))
 (.seq (.keep [1, 4, 6, 9] [1, 9] (.reg [⟨(some 76), .faddr 3 (.tmp 9), none⟩, ⟨none, .store 1 (.tmp 76) (.val (.int .i64 8)), none⟩]))
 (.seq (.seq (.keep [1, 4, 6, 9] [1, 9] (.reg [⟨(some 77), .load (some 4) (.tmp 9), none⟩, ⟨(some 78), .call 12 [(.tmp 77)], none⟩, ⟨(some 79), .bin .eql (.tmp 78) (.val (.int .i64 0)), none⟩]))
 (.cond (.tmp 79) (.keep [1, 4] [1] (.reg [⟨(some 6), .mov (.val (.int .i64 3)), none⟩])) .skip))
 (.seq a4_R3
 (.seq (.keep [1, 4, 6, 11, 12, 13] [1] (.reg [⟨(some 87), .load (some 4) (.tmp 1), none⟩, ⟨(some 14), .alloc (some 14) [(.int .i64 0), (.int .i64 0), (.int .i64 0), (.int .i64 0)], none⟩, ⟨none, .store 4 (.tmp 14) (.tmp 87), none⟩]))
 (.seq (.keep [1, 4, 6, 11, 12, 13, 14] [1, 14] (.reg [⟨(some 88), .faddr 1 (.tmp 1), none⟩, ⟨(some 89), .load none (.tmp 88), none⟩, ⟨(some 90), .bin .xor (.tmp 89) (.val (.int .i64 1)), none⟩, ⟨(some 91), .faddr 1 (.tmp 14), none⟩, ⟨none, .store 1 (.tmp 91) (.tmp 90), none⟩]))
 (.seq a4_R4
 (.seq a4_R5
 .ret)))))))))))))))))))))))) }
def h5 : Hints := ⟨[2, 5, 8, 10], [(0, [0, 1], []), (1, [1, 2], [2]), (2, [], []), (3, [1, 2], [2]), (4, [], []), (5, [1, 2], [2]), (6, [1, 2, 5, 6], [2, 5]), (7, [], []), (8, [2, 5], [2, 5]), (9, [2, 5, 7], [2, 5]), (10, [], []), (11, [2, 5, 7], [2, 5]), (12, [], []), (13, [2, 5, 7], [2, 5]), (14, [2, 5, 6, 7], [2, 5]), (15, [2, 5, 6, 7, 9], [2, 5]), (16, [2, 5, 6, 9, 11], [2, 5]), (17, [2, 5, 6, 9, 11, 13], [2, 5]), (18, [2, 5, 6, 9, 11, 13, 16, 17], [2, 5])], []⟩
def a5_R1 : AC := .keep [1, 2] [2] (.reg [⟨(some 24), .mov (.tmp 1), none⟩, ⟨(some 25), .call 15 [(.tmp 24)], none⟩, ⟨(some 23), .mov (.tmp 25), none⟩, ⟨(some 26), .ext (.tmp 23) 0, none⟩, ⟨(some 27), .ext (.tmp 23) 1, none⟩, ⟨(some 5), .alloc (some 5) [(.int .i64 0), (.int .i64 0), (.int .i64 0), (.int .i64 0)], none⟩, ⟨none, .store 4 (.tmp 5) (.tmp 26), none⟩, ⟨(some 6), .mov (.tmp 27), none⟩])
def a5_R2 : AC := .keep [1, 2, 5, 6] [2, 5] (.reg [⟨(some 28), .mov (.tmp 6), none⟩, ⟨(some 29), .bin .eql (.tmp 28) (.val (.int .i64 0)), none⟩, ⟨(some 30), .mov (.tmp 29), none⟩, ⟨(some 31), .load (some 4) (.tmp 5), (some (30, true))⟩, ⟨(some 32), .call 13 [(.tmp 31)], (some (30, true))⟩, ⟨(some 33), .mov (.tmp 1), (some (30, true))⟩, ⟨(some 34), .bin .neq (.tmp 32) (.tmp 33), (some (30, true))⟩, ⟨(some 35), .mov (.tmp 34), (some (30, true))⟩, ⟨(some 36), .load (some 4) (.tmp 5), (some (35, false))⟩, ⟨(some 37), .call 12 [(.tmp 36)], (some (35, false))⟩, ⟨(some 38), .bin .neq (.tmp 37) (.val (.int .i64 0)), (some (35, false))⟩, ⟨(some 39), .pick (.tmp 35) (.val (.bool true)) (.tmp 38), (some (30, true))⟩, ⟨(some 40), .pick (.tmp 30) (.tmp 39) (.val (.bool false)), none⟩])
def a5_R3 : AC := .keep [2, 5, 6, 7] [2, 5] (.reg [⟨(some 57), .mov (.tmp 7), none⟩, ⟨(some 58), .bin .add (.tmp 57) (.val (.str ⟨#[32]⟩)), none⟩, ⟨(some 59), .call 15 [(.tmp 58)], none⟩, ⟨(some 56), .mov (.tmp 59), none⟩, ⟨(some 60), .ext (.tmp 56) 0, none⟩, ⟨(some 61), .ext (.tmp 56) 1, none⟩, ⟨(some 8), .alloc (some 8) [(.int .i64 0), (.int .i64 0), (.int .i64 0), (.int .i64 0)], none⟩, ⟨none, .store 4 (.tmp 8) (.tmp 60), none⟩, ⟨(some 9), .mov (.tmp 61), none⟩])
def a5_R4 : AC := .keep [2, 5, 6, 7, 9] [2, 5] (.reg [⟨(some 63), .mov (.tmp 7), none⟩, ⟨(some 64), .bin .add (.val (.str ⟨#[32]⟩)) (.tmp 63), none⟩, ⟨(some 65), .call 15 [(.tmp 64)], none⟩, ⟨(some 62), .mov (.tmp 65), none⟩, ⟨(some 66), .ext (.tmp 62) 0, none⟩, ⟨(some 67), .ext (.tmp 62) 1, none⟩, ⟨(some 10), .alloc (some 10) [(.int .i64 0), (.int .i64 0), (.int .i64 0), (.int .i64 0)], none⟩, ⟨none, .store 4 (.tmp 10) (.tmp 66), none⟩, ⟨(some 11), .mov (.tmp 67), none⟩])
def a5_R5 : AC := .keep [2, 5, 6, 9, 11] [2, 5] (.reg [⟨(some 69), .load (some 4) (.tmp 2), none⟩, ⟨(some 70), .call 14 [(.tmp 69), (.val .nils)], none⟩, ⟨(some 68), .mov (.tmp 70), none⟩, ⟨(some 71), .ext (.tmp 68) 0, none⟩, ⟨(some 72), .ext (.tmp 68) 1, none⟩, ⟨(some 73), .ext (.tmp 68) 2, none⟩, ⟨(some 12), .mov (.tmp 71), none⟩, ⟨(some 13), .mov (.tmp 72), none⟩, ⟨(some 14), .mov (.tmp 73), none⟩])
def a5_R6 : AC := .keep [2, 5, 6, 9, 11, 13] [2, 5] (.reg [⟨(some 75), .load (some 4) (.tmp 2), none⟩, ⟨(some 76), .call 16 [(.tmp 75)], none⟩, ⟨(some 74), .mov (.tmp 76), none⟩, ⟨(some 77), .ext (.tmp 74) 0, none⟩, ⟨(some 78), .ext (.tmp 74) 1, none⟩, ⟨(some 79), .ext (.tmp 74) 2, none⟩, ⟨(some 15), .mov (.tmp 77), none⟩, ⟨(some 16), .mov (.tmp 78), none⟩, ⟨(some 17), .mov (.tmp 79), none⟩])
def a5_R7 : AC := .keep [2, 5, 6, 9, 11, 13, 16, 17] [2, 5] (.reg [⟨(some 80), .mov (.tmp 6), none⟩, ⟨(some 81), .bin .eql (.tmp 80) (.val (.int .i64 0)), none⟩, ⟨(some 82), .mov (.tmp 81), none⟩, ⟨(some 83), .load (some 4) (.tmp 5), (some (82, true))⟩, ⟨(some 84), .load (some 4) (.tmp 2), (some (82, true))⟩, ⟨(some 85), .eq false (.agg [(0, 0), (1, 0), (2, 0), (3, 0)]) (.tmp 83) (.tmp 84), (some (82, true))⟩, ⟨(some 86), .pick (.tmp 82) (.tmp 85) (.val (.bool false)), none⟩, ⟨(some 87), .mov (.tmp 86), none⟩, ⟨(some 88), .mov (.tmp 9), (some (87, true))⟩, ⟨(some 89), .bin .eql (.tmp 88) (.val (.int .i64 11)), (some (87, true))⟩, ⟨(some 90), .pick (.tmp 87) (.tmp 89) (.val (.bool false)), none⟩, ⟨(some 91), .mov (.tmp 90), none⟩, ⟨(some 92), .mov (.tmp 11), (some (91, true))⟩, ⟨(some 93), .bin .eql (.tmp 92) (.val (.int .i64 11)), (some (91, true))⟩, ⟨(some 94), .pick (.tmp 91) (.tmp 93) (.val (.bool false)), none⟩, ⟨(some 95), .mov (.tmp 94), none⟩, ⟨(some 96), .mov (.tmp 13), (some (95, true))⟩, ⟨(some 97), .bin .leq (.tmp 96) (.val (.int .i64 1)), (some (95, true))⟩, ⟨(some 98), .pick (.tmp 95) (.tmp 97) (.val (.bool false)), none⟩, ⟨(some 99), .mov (.tmp 98), none⟩, ⟨(some 100), .mov (.tmp 16), (some (99, true))⟩, ⟨(some 101), .mov (.tmp 100), (some (99, true))⟩, ⟨(some 102), .mov (.tmp 17), (some (101, false))⟩, ⟨(some 103), .pick (.tmp 101) (.val (.bool true)) (.tmp 102), (some (99, true))⟩, ⟨(some 104), .mov (.tmp 103), (some (99, true))⟩, ⟨(some 105), .faddr 0 (.tmp 2), (some (104, false))⟩, ⟨(some 106), .load none (.tmp 105), (some (104, false))⟩, ⟨(some 107), .bin .eql (.tmp 106) (.val (.int .i64 1)), (some (104, false))⟩, ⟨(some 108), .pick (.tmp 104) (.val (.bool true)) (.tmp 107), (some (99, true))⟩, ⟨(some 109), .mov (.tmp 108), (some (99, true))⟩, ⟨(some 110), .faddr 0 (.tmp 2), (some (109, false))⟩, ⟨(some 111), .load none (.tmp 110), (some (109, false))⟩, ⟨(some 112), .bin .eql (.tmp 111) (.val (.int .i64 18)), (some (109, false))⟩, ⟨(some 113), .pick (.tmp 109) (.val (.bool true)) (.tmp 112), (some (99, true))⟩, ⟨(some 114), .pick (.tmp 99) (.tmp 113) (.val (.bool false)), none⟩, ⟨(some 4), .mov (.tmp 114), none⟩])
def a5 : AFn := { n := 115, np := 2, res := [.tmp 4], body :=
 (.seq (.keep [0, 1] [] (.reg [⟨(some 2), .box (some 2) (.tmp 0), none⟩, ⟨(some 4), .mov (.val (.bool false)), none⟩]))
 (.seq (.seq (.keep [1, 2] [2] (.reg [⟨(some 18), .call 11 [], none⟩, ⟨(some 19), .un .not (.tmp 18), none⟩]))
 (.cond (.tmp 19) (.seq (.keep [] [] (.reg [⟨(some 4), .mov (.val (.bool false)), none⟩]))
 .ret) .skip))
 (.seq (.seq (.keep [1, 2] [2] (.reg [⟨(some 20), .mov (.tmp 1), none⟩, ⟨(some 21), .lenS (.tmp 20), none⟩, ⟨(some 22), .bin .gtr (.tmp 21) (.val (.int .i64 100)), none⟩]))
 (.cond (.tmp 22) (.seq (.keep [] [] (.reg [⟨(some 4), .mov (.val (.bool true)), none⟩]))
 .ret) .skip))
 (.seq a5_R1
 (.seq (.seq a5_R2
 (.cond (.tmp 40) (.seq (.keep [] [] (.reg [⟨(some 4), .mov (.val (.bool false)), none⟩]))
 .ret) .skip))
 (.seq (.keep [2, 5] [2, 5] (.reg [⟨(some 41), .load (some 4) (.tmp 2), none⟩, ⟨(some 42), .call 13 [(.tmp 41)], none⟩, ⟨(some 7), .mov (.tmp 42), none⟩]))
 (.seq (.seq (.keep [2, 5, 7] [2, 5] (.reg [⟨(some 43), .mov (.tmp 7), none⟩, ⟨(some 44), .bin .eql (.tmp 43) (.val (.str ⟨#[]⟩)), none⟩, ⟨(some 45), .load (some 4) (.tmp 2), none⟩, ⟨(some 46), .call 12 [(.tmp 45)], none⟩, ⟨(some 47), .bin .neq (.tmp 46) (.val (.int .i64 0)), none⟩, ⟨(some 48), .eq true .bool (.tmp 44) (.tmp 47), none⟩]))
 (.cond (.tmp 48) (.seq (.keep [] [] (.reg [⟨(some 4), .mov (.val (.bool false)), none⟩]))
 .ret) .skip))
 (.seq (.seq (.keep [2, 5, 7] [2, 5] (.reg [⟨(some 49), .mov (.tmp 7), none⟩, ⟨(some 50), .bin .eql (.tmp 49) (.val (.str ⟨#[]⟩)), none⟩]))
 (.cond (.tmp 50) (.seq (.keep [] [] (.reg [⟨(some 4), .mov (.val (.bool true)), none⟩]))
 .ret) .skip))
 (.seq (.keep [2, 5, 7] [2, 5] (.reg [⟨(some 52), .mov (.tmp 7), none⟩, ⟨(some 53), .call 15 [(.tmp 52)], none⟩, ⟨(some 51), .mov (.tmp 53), none⟩, ⟨(some 54), .ext (.tmp 51) 0, none⟩, ⟨(some 55), .ext (.tmp 51) 1, none⟩, ⟨none, .store 4 (.tmp 5) (.tmp 54), none⟩, ⟨(some 6), .mov (.tmp 55), none⟩]))
 (.seq a5_R3
 (.seq a5_R4
 (.seq a5_R5
 (.seq a5_R6
 (.seq a5_R7
 .ret)))))))))))))) }
def h8 : Hints := ⟨[3, 19, 21], [(0, [0, 1, 2], []), (1, [1, 2, 3], [3]), (2, [], []), (3, [1, 2, 3], [3]), (4, [], []), (5, [1, 2, 3], [3]), (6, [1, 2, 3, 7, 8, 9], [3]), (7, [2, 3, 7, 8, 9, 10, 11, 12], [3]), (8, [2, 3, 7, 8, 9, 10, 11, 12, 13, 14, 15], [3]), (9, [2, 3, 7, 8, 9, 10, 11, 12, 13, 14, 15, 16, 17, 18], [3]), (10, [2, 3, 7, 8, 9, 10, 11, 12, 13, 14, 15, 16, 17, 18, 19, 20], [3, 19]), (11, [3, 7, 8, 9, 10, 11, 12, 13, 14, 15, 16, 17, 18, 19, 20, 21, 22], [3, 19, 21])], []⟩
def a8_R1 : AC := .keep [1, 2, 3] [3] (.reg [⟨(some 25), .mov (.tmp 1), none⟩, ⟨(some 26), .lenL (.tmp 25), none⟩, ⟨(some 27), .bin .gtr (.tmp 26) (.val (.int .i64 100)), none⟩, ⟨(some 28), .mov (.tmp 27), none⟩, ⟨(some 29), .mov (.tmp 2), (some (28, false))⟩, ⟨(some 30), .lenS (.tmp 29), (some (28, false))⟩, ⟨(some 31), .bin .gtr (.tmp 30) (.val (.int .i64 100)), (some (28, false))⟩, ⟨(some 32), .pick (.tmp 28) (.val (.bool true)) (.tmp 31), none⟩])
def a8_R2 : AC := .keep [1, 2, 3] [3] (.reg [⟨(some 34), .load (some 4) (.tmp 3), none⟩, ⟨(some 35), .mov (.tmp 1), none⟩, ⟨(some 36), .call 14 [(.tmp 34), (.tmp 35)], none⟩, ⟨(some 33), .mov (.tmp 36), none⟩, ⟨(some 37), .ext (.tmp 33) 0, none⟩, ⟨(some 38), .ext (.tmp 33) 1, none⟩, ⟨(some 39), .ext (.tmp 33) 2, none⟩, ⟨(some 7), .mov (.tmp 37), none⟩, ⟨(some 8), .mov (.tmp 38), none⟩, ⟨(some 9), .mov (.tmp 39), none⟩])
def a8_R3 : AC := .keep [1, 2, 3, 7, 8, 9] [3] (.reg [⟨(some 41), .load (some 4) (.tmp 3), none⟩, ⟨(some 42), .mov (.tmp 1), none⟩, ⟨(some 43), .call 18 [(.tmp 41), (.tmp 42)], none⟩, ⟨(some 40), .mov (.tmp 43), none⟩, ⟨(some 44), .ext (.tmp 40) 0, none⟩, ⟨(some 45), .ext (.tmp 40) 1, none⟩, ⟨(some 46), .ext (.tmp 40) 2, none⟩, ⟨(some 10), .mov (.tmp 44), none⟩, ⟨(some 11), .mov (.tmp 45), none⟩, ⟨(some 12), .mov (.tmp 46), none⟩])
def a8_R4 : AC := .keep [2, 3, 7, 8, 9, 10, 11, 12] [3] (.reg [⟨(some 48), .load (some 4) (.tmp 3), none⟩, ⟨(some 49), .call 16 [(.tmp 48)], none⟩, ⟨(some 47), .mov (.tmp 49), none⟩, ⟨(some 50), .ext (.tmp 47) 0, none⟩, ⟨(some 51), .ext (.tmp 47) 1, none⟩, ⟨(some 52), .ext (.tmp 47) 2, none⟩, ⟨(some 13), .mov (.tmp 50), none⟩, ⟨(some 14), .mov (.tmp 51), none⟩, ⟨(some 15), .mov (.tmp 52), none⟩])
def a8_R5 : AC := .keep [2, 3, 7, 8, 9, 10, 11, 12, 13, 14, 15] [3] (.reg [⟨(some 54), .load (some 4) (.tmp 3), none⟩, ⟨(some 55), .call 19 [(.tmp 54)], none⟩, ⟨(some 53), .mov (.tmp 55), none⟩, ⟨(some 56), .ext (.tmp 53) 0, none⟩, ⟨(some 57), .ext (.tmp 53) 1, none⟩, ⟨(some 58), .ext (.tmp 53) 2, none⟩, ⟨(some 16), .mov (.tmp 56), none⟩, ⟨(some 17), .mov (.tmp 57), none⟩, ⟨(some 18), .mov (.tmp 58), none⟩])
def a8_R6 : AC := .keep [2, 3, 7, 8, 9, 10, 11, 12, 13, 14, 15, 16, 17, 18] [3] (.reg [⟨(some 60), .mov (.tmp 2), none⟩, ⟨(some 61), .call 15 [(.tmp 60)], none⟩, ⟨(some 59), .mov (.tmp 61), none⟩, ⟨(some 62), .ext (.tmp 59) 0, none⟩, ⟨(some 63), .ext (.tmp 59) 1, none⟩, ⟨(some 19), .alloc (some 19) [(.int .i64 0), (.int .i64 0), (.int .i64 0), (.int .i64 0)], none⟩, ⟨none, .store 4 (.tmp 19) (.tmp 62), none⟩, ⟨(some 20), .mov (.tmp 63), none⟩])
def a8_R7 : AC := .keep [2, 3, 7, 8, 9, 10, 11, 12, 13, 14, 15, 16, 17, 18, 19, 20] [3, 19] (.reg [⟨(some 65), .mov (.tmp 2), none⟩, ⟨(some 66), .call 20 [(.tmp 65)], none⟩, ⟨(some 64), .mov (.tmp 66), none⟩, ⟨(some 67), .ext (.tmp 64) 0, none⟩, ⟨(some 68), .ext (.tmp 64) 1, none⟩, ⟨(some 21), .alloc (some 21) [(.int .i64 0), (.int .i64 0), (.int .i64 0), (.int .i64 0)], none⟩, ⟨none, .store 4 (.tmp 21) (.tmp 67), none⟩, ⟨(some 22), .mov (.tmp 68), none⟩])
def a8_R8 : AC := .keep [3, 7, 8, 9, 10, 11, 12, 13, 14, 15, 16, 17, 18, 19, 20, 21, 22] [3, 19, 21] (.dreg [(false, ⟨(some 69), .mov (.tmp 7), none⟩, false), (false, ⟨(some 70), .mov (.tmp 10), none⟩, false), (false, ⟨(some 71), .bin .eql (.tmp 69) (.tmp 70), none⟩, false), (false, ⟨(some 72), .mov (.tmp 71), none⟩, false), (false, ⟨(some 73), .mov (.tmp 8), (some (72, true))⟩, false), (false, ⟨(some 74), .mov (.tmp 11), (some (72, true))⟩, false), (false, ⟨(some 75), .bin .eql (.tmp 73) (.tmp 74), (some (72, true))⟩, false), (false, ⟨(some 76), .pick (.tmp 72) (.tmp 75) (.val (.bool false)), none⟩, false), (false, ⟨(some 77), .mov (.tmp 76), none⟩, false), (false, ⟨(some 78), .mov (.tmp 9), (some (77, true))⟩, false), (false, ⟨(some 79), .mov (.tmp 12), (some (77, true))⟩, false), (false, ⟨(some 80), .eq false .bool (.tmp 78) (.tmp 79), (some (77, true))⟩, false), (false, ⟨(some 81), .pick (.tmp 77) (.tmp 80) (.val (.bool false)), none⟩, false), (false, ⟨(some 82), .mov (.tmp 81), none⟩, false), (false, ⟨(some 83), .mov (.tmp 13), (some (82, true))⟩, false), (false, ⟨(some 84), .mov (.tmp 16), (some (82, true))⟩, false), (false, ⟨(some 85), .bin .eql (.tmp 83) (.tmp 84), (some (82, true))⟩, false), (false, ⟨(some 86), .pick (.tmp 82) (.tmp 85) (.val (.bool false)), none⟩, false), (false, ⟨(some 87), .mov (.tmp 86), none⟩, false), (false, ⟨(some 88), .mov (.tmp 14), (some (87, true))⟩, false), (false, ⟨(some 89), .mov (.tmp 17), (some (87, true))⟩, false), (false, ⟨(some 90), .eq false .bool (.tmp 88) (.tmp 89), (some (87, true))⟩, false), (false, ⟨(some 91), .pick (.tmp 87) (.tmp 90) (.val (.bool false)), none⟩, false), (false, ⟨(some 92), .mov (.tmp 91), none⟩, false), (false, ⟨(some 93), .mov (.tmp 15), (some (92, true))⟩, false), (false, ⟨(some 94), .mov (.tmp 18), (some (92, true))⟩, false), (false, ⟨(some 95), .eq false .bool (.tmp 93) (.tmp 94), (some (92, true))⟩, false), (false, ⟨(some 96), .pick (.tmp 92) (.tmp 95) (.val (.bool false)), none⟩, false), (false, ⟨(some 97), .mov (.tmp 96), none⟩, false), (false, ⟨(some 98), .load (some 4) (.tmp 19), (some (97, true))⟩, false), (false, ⟨(some 99), .load (some 4) (.tmp 21), (some (97, true))⟩, false), (false, ⟨(some 100), .eq false (.agg [(0, 0), (1, 0), (2, 0), (3, 0)]) (.tmp 98) (.tmp 99), (some (97, true))⟩, false), (false, ⟨(some 101), .pick (.tmp 97) (.tmp 100) (.val (.bool false)), none⟩, false), (false, ⟨(some 102), .mov (.tmp 101), none⟩, false), (false, ⟨(some 103), .mov (.tmp 20), (some (102, true))⟩, false), (false, ⟨(some 104), .mov (.tmp 22), (some (102, true))⟩, false), (false, ⟨(some 105), .bin .eql (.tmp 103) (.tmp 104), (some (102, true))⟩, false), (false, ⟨(some 106), .pick (.tmp 102) (.tmp 105) (.val (.bool false)), none⟩, false), (false, ⟨(some 107), .mov (.tmp 106), none⟩, false), (false, ⟨(some 108), .load (some 4) (.tmp 3), (some (107, true))⟩, false), (true, ⟨(some 109), .call 12 [(.tmp 108)], (some (107, true))⟩, false), (true, ⟨(some 110), .load (some 4) (.tmp 3), (some (107, true))⟩, false), (false, ⟨(some 111), .call 21 [(.tmp 110)], (some (107, true))⟩, false), (false, ⟨(some 112), .bin .eql (.tmp 109) (.tmp 111), (some (107, true))⟩, false), (false, ⟨(some 113), .pick (.tmp 107) (.tmp 112) (.val (.bool false)), none⟩, false), (false, ⟨(some 114), .mov (.tmp 113), none⟩, false), (false, ⟨(some 115), .load (some 4) (.tmp 3), (some (114, true))⟩, false), (true, ⟨(some 116), .call 13 [(.tmp 115)], (some (114, true))⟩, false), (true, ⟨(some 117), .load (some 4) (.tmp 3), (some (114, true))⟩, false), (false, ⟨(some 118), .call 22 [(.tmp 117)], (some (114, true))⟩, false), (false, ⟨(some 119), .bin .eql (.tmp 116) (.tmp 118), (some (114, true))⟩, false), (false, ⟨(some 120), .pick (.tmp 114) (.tmp 119) (.val (.bool false)), none⟩, false), (false, ⟨(some 121), .mov (.tmp 120), none⟩, false), (false, ⟨(some 122), .call 17 [], (some (121, true))⟩, false), (false, ⟨(some 123), .call 24 [], (some (121, true))⟩, false), (false, ⟨(some 124), .call 23 [(.tmp 122), (.tmp 123)], (some (121, true))⟩, false), (false, ⟨(some 125), .pick (.tmp 121) (.tmp 124) (.val (.bool false)), none⟩, false), (false, ⟨(some 6), .mov (.tmp 125), none⟩, false)])
def a8 : AFn := { n := 126, np := 3, res := [.tmp 6], body :=
 (.seq (.keep [0, 1, 2] [] (.reg [⟨(some 3), .box (some 3) (.tmp 0), none⟩, ⟨(some 6), .mov (.val (.bool false)), none⟩]))
 (.seq (.seq (.keep [1, 2, 3] [3] (.reg [⟨(some 23), .call 11 [], none⟩, ⟨(some 24), .un .not (.tmp 23), none⟩]))
 (.cond (.tmp 24) (.seq (.keep [] [] (.reg [⟨(some 6), .mov (.val (.bool false)), none⟩]))
 .ret) .skip))
 (.seq (.seq a8_R1
 (.cond (.tmp 32) (.seq (.keep [] [] (.reg [⟨(some 6), .mov (.val (.bool true)), none⟩]))
 .ret) .skip))
 (.seq a8_R2
 (.seq a8_R3
 (.seq a8_R4
 (.seq a8_R5
 (.seq a8_R6
 (.seq a8_R7
 (.seq a8_R8
 .ret)))))))))) }
def h11 : Hints := ⟨[1, 3], [], []⟩
def a11 : AFn := { n := 75, np := 0, res := [.tmp 0], body :=
 (.seq (.reg [⟨(some 0), .mov (.val (.bool false)), none⟩])
 (.seq (.reg [⟨(some 12), .call 15 [(.val (.str ⟨#[106, 122, 32, 57]⟩))], none⟩, ⟨(some 11), .mov (.tmp 12), none⟩, ⟨(some 13), .ext (.tmp 11) 0, none⟩, ⟨(some 14), .ext (.tmp 11) 1, none⟩, ⟨(some 1), .alloc (some 1) [(.int .i64 0), (.int .i64 0), (.int .i64 0), (.int .i64 0)], none⟩, ⟨none, .store 4 (.tmp 1) (.tmp 13), none⟩, ⟨(some 2), .mov (.tmp 14), none⟩])
 (.seq (.reg [⟨(some 16), .call 15 [(.val (.str ⟨#[112, 117, 115, 104, 32, 48, 53]⟩))], none⟩, ⟨(some 15), .mov (.tmp 16), none⟩, ⟨(some 17), .ext (.tmp 15) 0, none⟩, ⟨(some 18), .ext (.tmp 15) 1, none⟩, ⟨(some 3), .alloc (some 3) [(.int .i64 0), (.int .i64 0), (.int .i64 0), (.int .i64 0)], none⟩, ⟨none, .store 4 (.tmp 3) (.tmp 17), none⟩, ⟨(some 4), .mov (.tmp 18), none⟩])
 (.seq (.reg [⟨(some 20), .build [(.int .i64 0), (.int .i64 0), (.int .i64 0), (.int .i64 0)] [(0, 1, (.val (.int .i64 7))), (1, 1, (.val (.int .i64 1))), (2, 1, (.val (.int .i64 1))), (3, 1, (.val (.int .i64 8)))], none⟩, ⟨(some 21), .call 14 [(.tmp 20), (.val .nils)], none⟩, ⟨(some 19), .mov (.tmp 21), none⟩, ⟨(some 22), .ext (.tmp 19) 0, none⟩, ⟨(some 23), .ext (.tmp 19) 1, none⟩, ⟨(some 24), .ext (.tmp 19) 2, none⟩, ⟨(some 5), .mov (.tmp 22), none⟩, ⟨(some 6), .mov (.tmp 23), none⟩, ⟨(some 7), .mov (.tmp 24), none⟩])
 (.seq (.reg [⟨(some 26), .build [(.int .i64 0), (.int .i64 0), (.int .i64 0), (.int .i64 0)] [(0, 1, (.val (.int .i64 17))), (1, 1, (.val (.int .i64 1)))], none⟩, ⟨(some 27), .mkslc 1 2 [(.int .i64 0)] [(0, (.val (.int .i64 0))), (1, (.val (.int .i64 2)))], none⟩, ⟨(some 28), .call 14 [(.tmp 26), (.tmp 27)], none⟩, ⟨(some 25), .mov (.tmp 28), none⟩, ⟨(some 29), .ext (.tmp 25) 0, none⟩, ⟨(some 30), .ext (.tmp 25) 1, none⟩, ⟨(some 31), .ext (.tmp 25) 2, none⟩, ⟨(some 8), .mov (.tmp 29), none⟩, ⟨(some 9), .mov (.tmp 30), none⟩, ⟨(some 10), .mov (.tmp 31), none⟩])
 (.seq (.reg [⟨(some 32), .build [(.int .i64 0), (.int .i64 0), (.int .i64 0), (.int .i64 0)] [(0, 1, (.val (.int .i64 7))), (1, 1, (.val (.int .i64 4))), (2, 1, (.val (.int .i64 10))), (3, 1, (.val (.int .i64 8)))], none⟩, ⟨(some 33), .call 13 [(.tmp 32)], none⟩, ⟨(some 34), .bin .eql (.tmp 33) (.val (.str ⟨#[115, 116, 120, 32, 52, 32, 49, 48, 32, 56]⟩)), none⟩, ⟨(some 35), .mov (.tmp 34), none⟩, ⟨(some 36), .build [(.int .i64 0), (.int .i64 0), (.int .i64 0), (.int .i64 0)] [(0, 1, (.val (.int .i64 12))), (1, 1, (.val (.int .i64 6)))], (some (35, true))⟩, ⟨(some 37), .call 13 [(.tmp 36)], (some (35, true))⟩, ⟨(some 38), .bin .eql (.tmp 37) (.val (.str ⟨#[98, 105, 110, 32, 115, 47]⟩)), (some (35, true))⟩, ⟨(some 39), .pick (.tmp 35) (.tmp 38) (.val (.bool false)), none⟩, ⟨(some 40), .mov (.tmp 39), none⟩, ⟨(some 41), .mov (.tmp 2), (some (40, true))⟩, ⟨(some 42), .bin .eql (.tmp 41) (.val (.int .i64 0)), (some (40, true))⟩, ⟨(some 43), .pick (.tmp 40) (.tmp 42) (.val (.bool false)), none⟩, ⟨(some 44), .mov (.tmp 43), none⟩, ⟨(some 45), .load (some 4) (.tmp 1), (some (44, true))⟩, ⟨(some 46), .build [(.int .i64 0), (.int .i64 0), (.int .i64 0), (.int .i64 0)] [(0, 1, (.val (.int .i64 16))), (1, 1, (.val (.int .i64 9)))], (some (44, true))⟩, ⟨(some 47), .eq false (.agg [(0, 0), (1, 0), (2, 0), (3, 0)]) (.tmp 45) (.tmp 46), (some (44, true))⟩, ⟨(some 48), .pick (.tmp 44) (.tmp 47) (.val (.bool false)), none⟩, ⟨(some 49), .mov (.tmp 48), none⟩, ⟨(some 50), .mov (.tmp 4), (some (49, true))⟩, ⟨(some 51), .bin .eql (.tmp 50) (.val (.int .i64 11)), (some (49, true))⟩, ⟨(some 52), .pick (.tmp 49) (.tmp 51) (.val (.bool false)), none⟩, ⟨(some 53), .mov (.tmp 52), none⟩, ⟨(some 54), .mov (.tmp 5), (some (53, true))⟩, ⟨(some 55), .bin .eql (.tmp 54) (.val (.int .i64 2)), (some (53, true))⟩, ⟨(some 56), .pick (.tmp 53) (.tmp 55) (.val (.bool false)), none⟩, ⟨(some 57), .mov (.tmp 56), none⟩, ⟨(some 58), .mov (.tmp 6), (some (57, true))⟩, ⟨(some 59), .bin .eql (.tmp 58) (.val (.int .i64 0)), (some (57, true))⟩, ⟨(some 60), .pick (.tmp 57) (.tmp 59) (.val (.bool false)), none⟩, ⟨(some 61), .mov (.tmp 60), none⟩, ⟨(some 62), .mov (.tmp 7), (some (61, true))⟩, ⟨(some 63), .pick (.tmp 61) (.tmp 62) (.val (.bool false)), none⟩, ⟨(some 64), .mov (.tmp 63), none⟩, ⟨(some 65), .mov (.tmp 8), (some (64, true))⟩, ⟨(some 66), .bin .eql (.tmp 65) (.val (.int .i64 2)), (some (64, true))⟩, ⟨(some 67), .pick (.tmp 64) (.tmp 66) (.val (.bool false)), none⟩, ⟨(some 68), .mov (.tmp 67), none⟩, ⟨(some 69), .mov (.tmp 9), (some (68, true))⟩, ⟨(some 70), .bin .eql (.tmp 69) (.val (.int .i64 1)), (some (68, true))⟩, ⟨(some 71), .pick (.tmp 68) (.tmp 70) (.val (.bool false)), none⟩, ⟨(some 72), .mov (.tmp 71), none⟩, ⟨(some 73), .mov (.tmp 10), (some (72, true))⟩, ⟨(some 74), .pick (.tmp 72) (.tmp 73) (.val (.bool false)), none⟩, ⟨(some 0), .mov (.tmp 74), none⟩])
 .ret)))))) }
def h12 : Hints := ⟨[1, 3], [(0, [0], []), (1, [1], [1]), (2, [], []), (3, [1], [1]), (4, [1, 3], [1, 3]), (5, [], []), (6, [], [])], []⟩
def a12 : AFn := { n := 41, np := 1, res := [.tmp 2], body :=
 (.seq (.keep [0] [] (.reg [⟨(some 1), .box (some 1) (.tmp 0), none⟩, ⟨(some 2), .mov (.val (.int .i64 0)), none⟩]))
 (.seq (.seq (.keep [1] [1] (.reg [⟨(some 4), .faddr 0 (.tmp 1), none⟩, ⟨(some 5), .load none (.tmp 4), none⟩, ⟨(some 6), .bin .lss (.tmp 5) (.val (.int .i64 1)), none⟩, ⟨(some 7), .mov (.tmp 6), none⟩, ⟨(some 8), .faddr 0 (.tmp 1), (some (7, false))⟩, ⟨(some 9), .load none (.tmp 8), (some (7, false))⟩, ⟨(some 10), .load none (.val (.ptr 0 0)), (some (7, false))⟩, ⟨(some 11), .lenL (.tmp 10), (some (7, false))⟩, ⟨(some 12), .bin .geq (.tmp 9) (.tmp 11), (some (7, false))⟩, ⟨(some 13), .pick (.tmp 7) (.val (.bool true)) (.tmp 12), none⟩]))
 (.cond (.tmp 13) (.seq (.keep [] [] (.reg [⟨(some 2), .mov (.val (.int .i64 2)), none⟩]))
 .ret) .skip))
 (.seq (.keep [1] [1] (.reg [⟨(some 14), .load none (.val (.ptr 0 0)), none⟩, ⟨(some 15), .faddr 0 (.tmp 1), none⟩, ⟨(some 16), .load none (.tmp 15), none⟩, ⟨(some 17), .iaddrL 6 (.tmp 14) (.tmp 16), none⟩, ⟨(some 18), .load (some 6) (.tmp 17), none⟩, ⟨(some 3), .alloc (some 3) [(.str ⟨#[]⟩), (.int .i64 0), (.int .i64 0), (.int .i64 0), (.int .i64 0), (.int .i64 0)], none⟩, ⟨none, .store 6 (.tmp 3) (.tmp 18), none⟩]))
 (.seq (.seq (.keep [1, 3] [1, 3] (.reg [⟨(some 19), .faddr 1 (.tmp 3), none⟩, ⟨(some 20), .load none (.tmp 19), none⟩, ⟨(some 21), .faddr 1 (.tmp 1), none⟩, ⟨(some 22), .load none (.tmp 21), none⟩, ⟨(some 23), .call 35 [(.tmp 20), (.tmp 22)], none⟩, ⟨(some 24), .un .not (.tmp 23), none⟩, ⟨(some 25), .mov (.tmp 24), none⟩, ⟨(some 26), .faddr 2 (.tmp 3), (some (25, false))⟩, ⟨(some 27), .load none (.tmp 26), (some (25, false))⟩, ⟨(some 28), .faddr 2 (.tmp 1), (some (25, false))⟩, ⟨(some 29), .load none (.tmp 28), (some (25, false))⟩, ⟨(some 30), .call 35 [(.tmp 27), (.tmp 29)], (some (25, false))⟩, ⟨(some 31), .un .not (.tmp 30), (some (25, false))⟩, ⟨(some 32), .pick (.tmp 25) (.val (.bool true)) (.tmp 31), none⟩, ⟨(some 33), .mov (.tmp 32), none⟩, ⟨(some 34), .faddr 3 (.tmp 3), (some (33, false))⟩, ⟨(some 35), .load none (.tmp 34), (some (33, false))⟩, ⟨(some 36), .faddr 3 (.tmp 1), (some (33, false))⟩, ⟨(some 37), .load none (.tmp 36), (some (33, false))⟩, ⟨(some 38), .call 35 [(.tmp 35), (.tmp 37)], (some (33, false))⟩, ⟨(some 39), .un .not (.tmp 38), (some (33, false))⟩, ⟨(some 40), .pick (.tmp 33) (.val (.bool true)) (.tmp 39), none⟩]))
 (.cond (.tmp 40) (.seq (.keep [] [] (.reg [⟨(some 2), .mov (.val (.int .i64 2)), none⟩]))
 .ret) .skip))
 (.seq (.keep [] [] (.reg [⟨(some 2), .mov (.val (.int .i64 0)), none⟩]))
 .ret))))) }
def h13 : Hints := ⟨[1, 3, 6], [(0, [0], []), (1, [1], [1]), (2, [], []), (3, [1], [1]), (4, [1, 3], [1, 3]), (5, [1, 3, 4], [1, 3]), (6, [4, 33, 34], []), (7, [4, 33, 34], []), (8, [4, 6, 33, 34], [6]), (10, [4, 6, 33, 34, 38], [6]), (11, [4, 6, 33, 34, 38], [6]), (12, [4, 6, 33, 34], [6]), (13, [4, 6, 33, 34, 38], [6]), (14, [4, 6, 33, 34], [6]), (9, [4, 6, 33, 34], [6]), (15, [4, 33, 34], []), (16, [4], [])], []⟩
def a13_R1 : AC := .keep [1] [1] (.reg [⟨(some 10), .load none (.val (.ptr 0 0)), none⟩, ⟨(some 11), .faddr 0 (.tmp 1), none⟩, ⟨(some 12), .load none (.tmp 11), none⟩, ⟨(some 13), .iaddrL 6 (.tmp 10) (.tmp 12), none⟩, ⟨(some 14), .load (some 6) (.tmp 13), none⟩, ⟨(some 3), .alloc (some 3) [(.str ⟨#[]⟩), (.int .i64 0), (.int .i64 0), (.int .i64 0), (.int .i64 0), (.int .i64 0)], none⟩, ⟨none, .store 6 (.tmp 3) (.tmp 14), none⟩])
def a13_R2 : AC := .keep [1, 3, 4] [1, 3] (.reg [⟨(some 18), .faddr 1 (.tmp 3), none⟩, ⟨(some 19), .load none (.tmp 18), none⟩, ⟨(some 20), .faddr 1 (.tmp 1), none⟩, ⟨(some 21), .load none (.tmp 20), none⟩, ⟨(some 22), .build [(.int .i64 0), (.int .i64 0)] [(0, 1, (.tmp 19)), (1, 1, (.tmp 21))], none⟩, ⟨(some 23), .faddr 2 (.tmp 3), none⟩, ⟨(some 24), .load none (.tmp 23), none⟩, ⟨(some 25), .faddr 2 (.tmp 1), none⟩, ⟨(some 26), .load none (.tmp 25), none⟩, ⟨(some 27), .build [(.int .i64 0), (.int .i64 0)] [(0, 1, (.tmp 24)), (1, 1, (.tmp 26))], none⟩, ⟨(some 28), .faddr 3 (.tmp 3), none⟩, ⟨(some 29), .load none (.tmp 28), none⟩, ⟨(some 30), .faddr 3 (.tmp 1), none⟩, ⟨(some 31), .load none (.tmp 30), none⟩, ⟨(some 32), .build [(.int .i64 0), (.int .i64 0)] [(0, 1, (.tmp 29)), (1, 1, (.tmp 31))], none⟩, ⟨(some 33), .build [(.int .i64 0), (.int .i64 0), (.int .i64 0), (.int .i64 0), (.int .i64 0), (.int .i64 0)] [(0, 2, (.tmp 22)), (2, 2, (.tmp 27)), (4, 2, (.tmp 32))], none⟩, ⟨(some 34), .mov (.val (.int .i64 0)), none⟩])
def a13_R3 : AC := .keep [4, 6, 33, 34] [6] (.reg [⟨(some 49), .mov (.tmp 4), none⟩, ⟨(some 50), .faddr 1 (.tmp 6), none⟩, ⟨(some 51), .load none (.tmp 50), none⟩, ⟨(some 52), .call 36 [(.tmp 51)], none⟩, ⟨(some 53), .mkslc 1 1 [(.str ⟨#[]⟩)] [(0, (.tmp 52))], none⟩, ⟨(some 54), .app none 1 16 (.tmp 49) (.tmp 53), none⟩, ⟨(some 4), .mov (.tmp 54), none⟩])
def a13_R4 : AC := .keep [4, 6, 33, 34] [6] (.reg [⟨(some 57), .mov (.tmp 4), none⟩, ⟨(some 58), .faddr 1 (.tmp 6), none⟩, ⟨(some 59), .load none (.tmp 58), none⟩, ⟨(some 60), .call 37 [(.tmp 59)], none⟩, ⟨(some 61), .mkslc 1 1 [(.str ⟨#[]⟩)] [(0, (.tmp 60))], none⟩, ⟨(some 62), .app none 1 16 (.tmp 57) (.tmp 61), none⟩, ⟨(some 4), .mov (.tmp 62), none⟩])
def a13_R5 : AC := .keep [4, 6, 33, 34] [6] (.reg [⟨(some 39), .mov (.tmp 4), none⟩, ⟨(some 40), .faddr 1 (.tmp 6), none⟩, ⟨(some 41), .load none (.tmp 40), none⟩, ⟨(some 42), .call 38 [(.tmp 41)], none⟩, ⟨(some 43), .mkslc 1 1 [(.str ⟨#[]⟩)] [(0, (.tmp 42))], none⟩, ⟨(some 44), .app none 1 16 (.tmp 39) (.tmp 43), none⟩, ⟨(some 4), .mov (.tmp 44), none⟩])
def a13_B1 : AC := (.seq (.keep [4, 33, 34] [] (.reg [⟨(some 35), .bin .lss (.tmp 34) (.val (.int .i64 3)), none⟩]))
 (.seq (.cond (.tmp 35) .skip (.exit 0))
 (.seq (.block 1 (.seq (.keep [4, 33, 34] [] (.reg [⟨(some 36), .idxA 3 2 true (.tmp 33) (.tmp 34), none⟩, ⟨(some 6), .alloc (some 6) [(.int .i64 0), (.int .i64 0)], none⟩, ⟨none, .store 2 (.tmp 6) (.tmp 36), none⟩]))
 (.seq (.keep [4, 6, 33, 34] [6] (.reg [⟨(some 37), .faddr 0 (.tmp 6), none⟩, ⟨(some 38), .load none (.tmp 37), none⟩]))
 (.block 2 (.seq (.keep [4, 6, 33, 34, 38] [6] (.reg [⟨(some 46), .bin .eql (.tmp 38) (.val (.int .i64 0)), none⟩, ⟨(some 45), .mov (.tmp 46), none⟩]))
 (.cond (.tmp 45) .skip (.seq (.keep [4, 6, 33, 34, 38] [6] (.reg [⟨(some 48), .bin .eql (.tmp 38) (.val (.int .i64 7)), none⟩, ⟨(some 47), .mov (.tmp 48), none⟩]))
 (.cond (.tmp 47) a13_R3 (.seq (.keep [4, 6, 33, 34, 38] [6] (.reg [⟨(some 56), .bin .eql (.tmp 38) (.val (.int .i64 8)), none⟩, ⟨(some 55), .mov (.tmp 56), none⟩]))
 (.cond (.tmp 55) a13_R4 a13_R5))))))))))
 (.keep [4, 33, 34] [] (.reg [⟨(some 63), .bin .add (.tmp 34) (.val (.int .i64 1)), none⟩, ⟨(some 34), .mov (.tmp 63), none⟩])))))
def a13_L1 : AC := .loop a13_B1
theorem a13_L1_step (call : Caller) (again : AC → St → Option (Ex × St)) (s : St) : codeEv call again a13_L1 s = match codeEv call again a13_B1 s with | some (.norm, s1) => again a13_L1 s1 | r => r := rfl
def a13 : AFn := { n := 66, np := 1, res := [.tmp 2], body :=
 (.seq (.keep [0] [] (.reg [⟨(some 1), .box (some 1) (.tmp 0), none⟩, ⟨(some 2), .mov (.val (.str ⟨#[]⟩)), none⟩]))
 (.seq (.seq (.keep [1] [1] (.reg [⟨(some 7), .load (some 4) (.tmp 1), none⟩, ⟨(some 8), .call 12 [(.tmp 7)], none⟩, ⟨(some 9), .bin .neq (.tmp 8) (.val (.int .i64 0)), none⟩]))
 (.cond (.tmp 9) (.seq (.keep [] [] (.reg [⟨(some 2), .mov (.val (.str ⟨#[]⟩)), none⟩]))
 .ret) .skip))
 (.seq a13_R1
 (.seq (.keep [1, 3] [1, 3] (.reg [⟨(some 15), .faddr 0 (.tmp 3), none⟩, ⟨(some 16), .load none (.tmp 15), none⟩, ⟨(some 17), .mkslc 1 1 [(.str ⟨#[]⟩)] [(0, (.tmp 16))], none⟩, ⟨(some 4), .mov (.tmp 17), none⟩]))
 (.seq (.seq a13_R2
 (.block 0 a13_L1))
 (.seq (.keep [4] [] (.reg [⟨(some 64), .mov (.tmp 4), none⟩, ⟨(some 65), .call 39 [(.tmp 64), (.val (.str ⟨#[32]⟩))], none⟩, ⟨(some 2), .mov (.tmp 65), none⟩]))
 .ret)))))) }
def h14 : Hints := ⟨[2, 7], [(0, [0, 1], []), (1, [1, 2], [2]), (2, [], []), (3, [1, 2], [2]), (4, [1, 2, 7], [2, 7]), (5, [1, 2, 4, 7], [2, 7]), (6, [1, 2, 7], [2, 7]), (7, [], []), (8, [1, 2, 7], [2, 7]), (9, [4, 7], [7])], []⟩
def a14_R1 : AC := .keep [1, 2] [2] (.reg [⟨(some 11), .load none (.val (.ptr 0 0)), none⟩, ⟨(some 12), .faddr 0 (.tmp 2), none⟩, ⟨(some 13), .load none (.tmp 12), none⟩, ⟨(some 14), .iaddrL 6 (.tmp 11) (.tmp 13), none⟩, ⟨(some 15), .load (some 6) (.tmp 14), none⟩, ⟨(some 7), .alloc (some 7) [(.str ⟨#[]⟩), (.int .i64 0), (.int .i64 0), (.int .i64 0), (.int .i64 0), (.int .i64 0)], none⟩, ⟨none, .store 6 (.tmp 7) (.tmp 15), none⟩])
def a14 : AFn := { n := 34, np := 2, res := [.tmp 4, .tmp 5, .tmp 6], body :=
 (.seq (.keep [0, 1] [] (.reg [⟨(some 2), .box (some 2) (.tmp 0), none⟩, ⟨(some 4), .mov (.val (.int .i64 0)), none⟩, ⟨(some 5), .mov (.val (.int .i64 0)), none⟩, ⟨(some 6), .mov (.val (.bool false)), none⟩]))
 (.seq (.seq (.keep [1, 2] [2] (.reg [⟨(some 8), .load (some 4) (.tmp 2), none⟩, ⟨(some 9), .call 12 [(.tmp 8)], none⟩, ⟨(some 10), .bin .neq (.tmp 9) (.val (.int .i64 0)), none⟩]))
 (.cond (.tmp 10) (.seq (.keep [] [] (.reg [⟨(some 4), .mov (.val (.int .i64 0)), none⟩, ⟨(some 5), .mov (.val (.int .i64 0)), none⟩, ⟨(some 6), .mov (.val (.bool false)), none⟩]))
 .ret) .skip))
 (.seq a14_R1
 (.seq (.keep [1, 2, 7] [2, 7] (.reg [⟨(some 16), .faddr 4 (.tmp 7), none⟩, ⟨(some 17), .load none (.tmp 16), none⟩, ⟨(some 4), .mov (.tmp 17), none⟩]))
 (.seq (.seq (.keep [1, 2, 4, 7] [2, 7] (.reg [⟨(some 18), .faddr 0 (.tmp 2), none⟩, ⟨(some 19), .load none (.tmp 18), none⟩, ⟨(some 20), .bin .eql (.tmp 19) (.val (.int .i64 17)), none⟩]))
 (.cond (.tmp 20) (.seq (.seq (.keep [1, 2, 7] [2, 7] (.reg [⟨(some 21), .faddr 1 (.tmp 2), none⟩, ⟨(some 22), .load none (.tmp 21), none⟩, ⟨(some 23), .mov (.tmp 1), none⟩, ⟨(some 24), .lenL (.tmp 23), none⟩, ⟨(some 25), .bin .geq (.tmp 22) (.tmp 24), none⟩]))
 (.cond (.tmp 25) (.seq (.keep [] [] (.reg [⟨(some 4), .mov (.val (.int .i64 0)), none⟩, ⟨(some 5), .mov (.val (.int .i64 0)), none⟩, ⟨(some 6), .mov (.val (.bool false)), none⟩]))
 .ret) .skip))
 (.keep [1, 2, 7] [2, 7] (.reg [⟨(some 26), .mov (.tmp 1), none⟩, ⟨(some 27), .faddr 1 (.tmp 2), none⟩, ⟨(some 28), .load none (.tmp 27), none⟩, ⟨(some 29), .iaddrL 1 (.tmp 26) (.tmp 28), none⟩, ⟨(some 30), .load none (.tmp 29), none⟩, ⟨(some 4), .mov (.tmp 30), none⟩]))) .skip))
 (.seq (.keep [4, 7] [7] (.dreg [(false, ⟨(some 31), .mov (.tmp 4), none⟩, false), (false, ⟨(some 32), .faddr 5 (.tmp 7), none⟩, false), (false, ⟨(some 33), .load none (.tmp 32), none⟩, false), (false, ⟨(some 4), .mov (.tmp 31), none⟩, false), (false, ⟨(some 5), .mov (.tmp 33), none⟩, false), (false, ⟨(some 6), .mov (.val (.bool true)), none⟩, false)]))
 .ret)))))) }
def h15 : Hints := ⟨[2, 7, 8], [(0, [0], []), (1, [0, 2], [2]), (2, [0, 2, 4], [2]), (3, [2], [2]), (4, [0, 2, 4], [2]), (5, [0, 2, 4, 5], [2]), (6, [0, 2, 4, 5, 6], [2]), (8, [0, 2, 4, 5, 6], [2]), (9, [0, 2, 4, 5, 6], [2]), (7, [0, 2, 4, 5, 6], [2]), (10, [0, 2, 4, 5], [2]), (11, [2], [2]), (12, [0, 2, 4, 5], [2]), (13, [0, 2, 4, 5, 7], [2, 7]), (14, [0, 2, 4, 5, 7, 8], [2, 7, 8]), (15, [0, 2, 4, 5, 8, 60, 61], [2, 8]), (16, [0, 2, 4, 5, 8, 60, 61], [2, 8]), (17, [0, 2, 4, 5, 8, 9, 10, 60, 61], [2, 8]), (18, [0, 2, 4, 5, 8, 9, 10, 60, 61], [2, 8]), (23, [0, 2, 4, 5, 8, 9, 60, 61, 70], [2, 8]), (24, [0, 2, 4, 5, 8, 9, 60, 61], [2, 8]), (25, [0, 2, 4, 5, 8, 9, 60, 61, 70], [2, 8]), (26, [0, 2, 4, 5, 8, 9, 60, 61], [2, 8]), (19, [0, 2, 4, 5, 8, 9, 60, 61], [2, 8]), (20, [0, 2, 4, 5, 8, 9, 11, 12, 60, 61], [2, 8]), (21, [2], [2]), (22, [0, 2, 4, 5, 8, 9, 11, 60, 61], [2, 8]), (27, [0, 2, 4, 5, 8, 60, 61], [2, 8]), (28, [0, 2, 5], [2]), (29, [2], [2]), (30, [2, 5], [2])], []⟩
def a15_R1 : AC := .keep [0, 2, 4] [2] (.reg [⟨(some 15), .mov (.tmp 4), none⟩, ⟨(some 16), .lenL (.tmp 15), none⟩, ⟨(some 17), .bin .eql (.tmp 16) (.val (.int .i64 0)), none⟩, ⟨(some 18), .mov (.tmp 17), none⟩, ⟨(some 19), .mov (.tmp 4), (some (18, false))⟩, ⟨(some 20), .lenL (.tmp 19), (some (18, false))⟩, ⟨(some 21), .bin .gtr (.tmp 20) (.val (.int .i64 4)), (some (18, false))⟩, ⟨(some 22), .pick (.tmp 18) (.val (.bool true)) (.tmp 21), none⟩])
def a15_R2 : AC := .keep [0, 2, 4, 5, 6] [2] (.dreg [(false, ⟨(some 30), .load none (.val (.ptr 0 0)), none⟩, false), (false, ⟨(some 31), .mov (.tmp 6), none⟩, false), (false, ⟨(some 32), .iaddrL 6 (.tmp 30) (.tmp 31), none⟩, false), (false, ⟨(some 33), .faddr 0 (.tmp 32), none⟩, false), (false, ⟨(some 34), .load none (.tmp 33), none⟩, false), (false, ⟨(some 35), .mov (.tmp 4), none⟩, false), (false, ⟨(some 36), .iaddrL 1 (.tmp 35) (.val (.int .i64 0)), none⟩, false), (false, ⟨(some 37), .load none (.tmp 36), none⟩, false), (false, ⟨(some 38), .bin .eql (.tmp 34) (.tmp 37), none⟩, false)])
def a15_R3 : AC := .keep [0, 2, 4, 5] [2] (.reg [⟨(some 45), .load none (.val (.ptr 0 0)), none⟩, ⟨(some 46), .faddr 0 (.tmp 5), none⟩, ⟨(some 47), .load none (.tmp 46), none⟩, ⟨(some 48), .iaddrL 6 (.tmp 45) (.tmp 47), none⟩, ⟨(some 49), .load (some 6) (.tmp 48), none⟩, ⟨(some 7), .alloc (some 7) [(.str ⟨#[]⟩), (.int .i64 0), (.int .i64 0), (.int .i64 0), (.int .i64 0), (.int .i64 0)], none⟩, ⟨none, .store 6 (.tmp 7) (.tmp 49), none⟩])
def a15_R4 : AC := .keep [0, 2, 4, 5, 7, 8] [2, 7, 8] (.reg [⟨(some 54), .faddr 1 (.tmp 7), none⟩, ⟨(some 55), .load none (.tmp 54), none⟩, ⟨(some 56), .faddr 2 (.tmp 7), none⟩, ⟨(some 57), .load none (.tmp 56), none⟩, ⟨(some 58), .faddr 3 (.tmp 7), none⟩, ⟨(some 59), .load none (.tmp 58), none⟩, ⟨(some 60), .build [(.int .i64 0), (.int .i64 0), (.int .i64 0)] [(0, 1, (.tmp 55)), (1, 1, (.tmp 57)), (2, 1, (.tmp 59))], none⟩, ⟨(some 61), .mov (.val (.int .i64 0)), none⟩])
def a15_R5 : AC := .keep [0, 2, 4, 5, 8, 9, 60, 61] [2, 8] (.dreg [(false, ⟨(some 90), .mov (.tmp 9), none⟩, false), (false, ⟨(some 91), .iaddrA 3 1 (.tmp 8) (.tmp 90), none⟩, false), (true, ⟨(some 92), .load none (.tmp 91), none⟩, false), (false, ⟨(some 93), .mov (.tmp 4), none⟩, false), (false, ⟨(some 94), .mov (.tmp 9), none⟩, false), (false, ⟨(some 95), .bin .add (.tmp 94) (.val (.int .i64 1)), none⟩, false), (false, ⟨(some 96), .iaddrL 1 (.tmp 93) (.tmp 95), none⟩, false), (false, ⟨(some 97), .load none (.tmp 96), none⟩, false), (true, ⟨(some 98), .call 41 [(.tmp 97), (.val (.fn 36 []))], none⟩, false), (false, ⟨(some 99), .nilck (.tmp 92), none⟩, false), (false, ⟨none, .store 1 (.tmp 99) (.tmp 98), none⟩, false)])
def a15_R6 : AC := .keep [0, 2, 4, 5, 8, 9, 60, 61] [2, 8] (.dreg [(false, ⟨(some 102), .mov (.tmp 9), none⟩, false), (false, ⟨(some 103), .iaddrA 3 1 (.tmp 8) (.tmp 102), none⟩, false), (true, ⟨(some 104), .load none (.tmp 103), none⟩, false), (false, ⟨(some 105), .mov (.tmp 4), none⟩, false), (false, ⟨(some 106), .mov (.tmp 9), none⟩, false), (false, ⟨(some 107), .bin .add (.tmp 106) (.val (.int .i64 1)), none⟩, false), (false, ⟨(some 108), .iaddrL 1 (.tmp 105) (.tmp 107), none⟩, false), (false, ⟨(some 109), .load none (.tmp 108), none⟩, false), (true, ⟨(some 110), .call 41 [(.tmp 109), (.val (.fn 37 []))], none⟩, false), (false, ⟨(some 111), .nilck (.tmp 104), none⟩, false), (false, ⟨none, .store 1 (.tmp 111) (.tmp 110), none⟩, false)])
def a15_R7 : AC := .keep [0, 2, 4, 5, 8, 9, 60, 61] [2, 8] (.reg [⟨(some 72), .mov (.tmp 4), none⟩, ⟨(some 73), .mov (.tmp 9), none⟩, ⟨(some 74), .bin .add (.tmp 73) (.val (.int .i64 1)), none⟩, ⟨(some 75), .iaddrL 1 (.tmp 72) (.tmp 74), none⟩, ⟨(some 76), .load none (.tmp 75), none⟩, ⟨(some 77), .call 42 [(.tmp 76)], none⟩, ⟨(some 71), .mov (.tmp 77), none⟩, ⟨(some 78), .ext (.tmp 71) 0, none⟩, ⟨(some 79), .ext (.tmp 71) 1, none⟩, ⟨(some 11), .mov (.tmp 78), none⟩, ⟨(some 12), .mov (.tmp 79), none⟩])
def a15_B1 : AC := (.seq (.keep [0, 2, 4, 5, 8, 60, 61] [2, 8] (.reg [⟨(some 62), .bin .lss (.tmp 61) (.val (.int .i64 3)), none⟩]))
 (.seq (.cond (.tmp 62) .skip (.exit 2))
 (.seq (.block 3 (.seq (.keep [0, 2, 4, 5, 8, 60, 61] [2, 8] (.reg [⟨(some 63), .mov (.tmp 61), none⟩, ⟨(some 64), .idxA 3 1 false (.tmp 60) (.tmp 61), none⟩, ⟨(some 9), .mov (.tmp 63), none⟩, ⟨(some 10), .mov (.tmp 64), none⟩]))
 (.seq (.seq (.keep [0, 2, 4, 5, 8, 9, 10, 60, 61] [2, 8] (.reg [⟨(some 65), .mov (.tmp 9), none⟩, ⟨(some 66), .bin .add (.tmp 65) (.val (.int .i64 1)), none⟩, ⟨(some 67), .mov (.tmp 4), none⟩, ⟨(some 68), .lenL (.tmp 67), none⟩, ⟨(some 69), .bin .geq (.tmp 66) (.tmp 68), none⟩]))
 (.cond (.tmp 69) (.exit 2) .skip))
 (.seq (.keep [0, 2, 4, 5, 8, 9, 10, 60, 61] [2, 8] (.reg [⟨(some 70), .mov (.tmp 10), none⟩]))
 (.block 4 (.seq (.keep [0, 2, 4, 5, 8, 9, 60, 61, 70] [2, 8] (.reg [⟨(some 89), .bin .eql (.tmp 70) (.val (.int .i64 7)), none⟩, ⟨(some 88), .mov (.tmp 89), none⟩]))
 (.cond (.tmp 88) a15_R5 (.seq (.keep [0, 2, 4, 5, 8, 9, 60, 61, 70] [2, 8] (.reg [⟨(some 101), .bin .eql (.tmp 70) (.val (.int .i64 8)), none⟩, ⟨(some 100), .mov (.tmp 101), none⟩]))
 (.cond (.tmp 100) a15_R6 (.seq a15_R7
 (.seq (.seq (.keep [0, 2, 4, 5, 8, 9, 11, 12, 60, 61] [2, 8] (.reg [⟨(some 80), .mov (.tmp 12), none⟩, ⟨(some 81), .eq true (.nilI true) (.tmp 80) (.val .nili), none⟩]))
 (.cond (.tmp 81) (.seq (.keep [2] [2] (.reg [⟨(some 82), .build [(.int .i64 0), (.int .i64 0), (.int .i64 0), (.int .i64 0)] [], none⟩, ⟨none, .store 4 (.tmp 2) (.tmp 82), none⟩, ⟨(some 3), .mov (.val (.int .i64 11)), none⟩]))
 .ret) .skip))
 (.keep [0, 2, 4, 5, 8, 9, 11, 60, 61] [2, 8] (.reg [⟨(some 83), .mov (.tmp 9), none⟩, ⟨(some 84), .iaddrA 3 1 (.tmp 8) (.tmp 83), none⟩, ⟨(some 85), .load none (.tmp 84), none⟩, ⟨(some 86), .mov (.tmp 11), none⟩, ⟨(some 87), .nilck (.tmp 85), none⟩, ⟨none, .store 1 (.tmp 87) (.tmp 86), none⟩])))))))))))))
 (.keep [0, 2, 4, 5, 8, 60, 61] [2, 8] (.reg [⟨(some 112), .bin .add (.tmp 61) (.val (.int .i64 1)), none⟩, ⟨(some 61), .mov (.tmp 112), none⟩])))))
def a15_L1 : AC := .loop a15_B1
theorem a15_L1_step (call : Caller) (again : AC → St → Option (Ex × St)) (s : St) : codeEv call again a15_L1 s = match codeEv call again a15_B1 s with | some (.norm, s1) => again a15_L1 s1 | r => r := rfl
def a15_B2 : AC := (.seq (.seq (.keep [0, 2, 4, 5, 6] [2] (.reg [⟨(some 24), .mov (.tmp 6), none⟩, ⟨(some 25), .load none (.val (.ptr 0 0)), none⟩, ⟨(some 26), .lenL (.tmp 25), none⟩, ⟨(some 27), .bin .lss (.tmp 24) (.tmp 26), none⟩]))
 (.cond (.tmp 27) .skip (.exit 0)))
 (.seq (.block 1 (.seq a15_R2
 (.cond (.tmp 38) (.keep [0, 2, 4, 5, 6] [2] (.reg [⟨(some 39), .mov (.tmp 6), none⟩, ⟨(some 40), .faddr 0 (.tmp 5), none⟩, ⟨none, .store 1 (.tmp 40) (.tmp 39), none⟩])) .skip)))
 (.keep [0, 2, 4, 5, 6] [2] (.reg [⟨(some 28), .mov (.tmp 6), none⟩, ⟨(some 29), .bin .add (.tmp 28) (.val (.int .i64 1)), none⟩, ⟨(some 6), .mov (.tmp 29), none⟩]))))
def a15_L2 : AC := .loop a15_B2
theorem a15_L2_step (call : Caller) (again : AC → St → Option (Ex × St)) (s : St) : codeEv call again a15_L2 s = match codeEv call again a15_B2 s with | some (.norm, s1) => again a15_L2 s1 | r => r := rfl
def a15 : AFn := { n := 119, np := 1, res := [.cell 2 (some 4), .tmp 3], body :=
 (.seq (.keep [0] [] (.reg [⟨(some 2), .alloc (some 2) [(.int .i64 0), (.int .i64 0), (.int .i64 0), (.int .i64 0)], none⟩, ⟨(some 3), .mov (.val (.int .i64 0)), none⟩]))
 (.seq (.keep [0, 2] [2] (.reg [⟨(some 13), .mov (.tmp 0), none⟩, ⟨(some 14), .call 40 [(.tmp 13)], none⟩, ⟨(some 4), .mov (.tmp 14), none⟩]))
 (.seq (.seq a15_R1
 (.cond (.tmp 22) (.seq (.keep [2] [2] (.reg [⟨(some 23), .build [(.int .i64 0), (.int .i64 0), (.int .i64 0), (.int .i64 0)] [], none⟩, ⟨none, .store 4 (.tmp 2) (.tmp 23), none⟩, ⟨(some 3), .mov (.val (.int .i64 11)), none⟩]))
 .ret) .skip))
 (.seq (.keep [0, 2, 4] [2] (.reg [⟨(some 5), .alloc none [(.int .i64 0), (.int .i64 0), (.int .i64 0), (.int .i64 0)], none⟩]))
 (.seq (.seq (.keep [0, 2, 4, 5] [2] (.reg [⟨(some 6), .mov (.val (.int .i64 1)), none⟩]))
 (.block 0 a15_L2))
 (.seq (.seq (.keep [0, 2, 4, 5] [2] (.reg [⟨(some 41), .faddr 0 (.tmp 5), none⟩, ⟨(some 42), .load none (.tmp 41), none⟩, ⟨(some 43), .bin .eql (.tmp 42) (.val (.int .i64 0)), none⟩]))
 (.cond (.tmp 43) (.seq (.keep [2] [2] (.reg [⟨(some 44), .build [(.int .i64 0), (.int .i64 0), (.int .i64 0), (.int .i64 0)] [], none⟩, ⟨none, .store 4 (.tmp 2) (.tmp 44), none⟩, ⟨(some 3), .mov (.val (.int .i64 11)), none⟩]))
 .ret) .skip))
 (.seq a15_R3
 (.seq (.keep [0, 2, 4, 5, 7] [2, 7] (.reg [⟨(some 50), .faddr 1 (.tmp 5), none⟩, ⟨(some 51), .faddr 2 (.tmp 5), none⟩, ⟨(some 52), .faddr 3 (.tmp 5), none⟩, ⟨(some 53), .build [.nilp, .nilp, .nilp] [(0, 1, (.tmp 50)), (1, 1, (.tmp 51)), (2, 1, (.tmp 52))], none⟩, ⟨(some 8), .alloc (some 8) [.nilp, .nilp, .nilp], none⟩, ⟨none, .store 3 (.tmp 8) (.tmp 53), none⟩]))
 (.seq (.seq a15_R4
 (.block 2 a15_L1))
 (.seq (.seq (.keep [0, 2, 5] [2] (.reg [⟨(some 113), .load (some 4) (.tmp 5), none⟩, ⟨(some 114), .call 13 [(.tmp 113)], none⟩, ⟨(some 115), .mov (.tmp 0), none⟩, ⟨(some 116), .bin .neq (.tmp 114) (.tmp 115), none⟩]))
 (.cond (.tmp 116) (.seq (.keep [2] [2] (.reg [⟨(some 117), .build [(.int .i64 0), (.int .i64 0), (.int .i64 0), (.int .i64 0)] [], none⟩, ⟨none, .store 4 (.tmp 2) (.tmp 117), none⟩, ⟨(some 3), .mov (.val (.int .i64 11)), none⟩]))
 .ret) .skip))
 (.seq (.keep [2, 5] [2] (.reg [⟨(some 118), .load (some 4) (.tmp 5), none⟩, ⟨none, .store 4 (.tmp 2) (.tmp 118), none⟩, ⟨(some 3), .mov (.val (.int .i64 0)), none⟩]))
 .ret))))))))))) }
def h16 : Hints := ⟨[1], [(0, [0], []), (1, [1], [1]), (2, [], []), (3, [1], [1]), (4, [1, 9], [1]), (5, [1, 9], [1]), (6, [], []), (7, [1, 9], [1]), (8, [1], [1]), (9, [1, 9], [1]), (10, [1], [1]), (11, [], [])], []⟩
def a16 : AFn := { n := 21, np := 1, res := [.tmp 2, .tmp 3, .tmp 4], body :=
 (.seq (.keep [0] [] (.reg [⟨(some 1), .box (some 1) (.tmp 0), none⟩, ⟨(some 2), .mov (.val (.int .i64 0)), none⟩, ⟨(some 3), .mov (.val (.bool false)), none⟩, ⟨(some 4), .mov (.val (.bool false)), none⟩]))
 (.seq (.seq (.keep [1] [1] (.reg [⟨(some 5), .load (some 4) (.tmp 1), none⟩, ⟨(some 6), .call 12 [(.tmp 5)], none⟩, ⟨(some 7), .bin .neq (.tmp 6) (.val (.int .i64 0)), none⟩]))
 (.cond (.tmp 7) (.seq (.keep [] [] (.reg [⟨(some 2), .mov (.val (.int .i64 0)), none⟩, ⟨(some 3), .mov (.val (.bool false)), none⟩, ⟨(some 4), .mov (.val (.bool false)), none⟩]))
 .ret) .skip))
 (.seq (.seq (.keep [1] [1] (.reg [⟨(some 8), .faddr 0 (.tmp 1), none⟩, ⟨(some 9), .load none (.tmp 8), none⟩]))
 (.block 0 (.seq (.seq (.keep [1, 9] [1] (.reg [⟨(some 11), .bin .eql (.tmp 9) (.val (.int .i64 1)), none⟩, ⟨(some 10), .mov (.tmp 11), none⟩]))
 (.cond (.tmp 10) .skip (.keep [1, 9] [1] (.reg [⟨(some 12), .bin .eql (.tmp 9) (.val (.int .i64 18)), none⟩, ⟨(some 10), .mov (.tmp 12), none⟩]))))
 (.cond (.tmp 10) (.seq (.keep [] [] (.reg [⟨(some 2), .mov (.val (.int .i64 0)), none⟩, ⟨(some 3), .mov (.val (.bool false)), none⟩, ⟨(some 4), .mov (.val (.bool false)), none⟩]))
 .ret) (.seq (.keep [1, 9] [1] (.reg [⟨(some 14), .bin .eql (.tmp 9) (.val (.int .i64 15)), none⟩, ⟨(some 13), .mov (.tmp 14), none⟩]))
 (.cond (.tmp 13) (.seq (.keep [1] [1] (.reg [⟨(some 15), .faddr 1 (.tmp 1), none⟩, ⟨(some 16), .load none (.tmp 15), none⟩, ⟨(some 2), .mov (.tmp 16), none⟩, ⟨(some 3), .mov (.val (.bool true)), none⟩, ⟨(some 4), .mov (.val (.bool false)), none⟩]))
 .ret) (.seq (.keep [1, 9] [1] (.reg [⟨(some 18), .bin .eql (.tmp 9) (.val (.int .i64 16)), none⟩, ⟨(some 17), .mov (.tmp 18), none⟩]))
 (.cond (.tmp 17) (.seq (.keep [1] [1] (.reg [⟨(some 19), .faddr 1 (.tmp 1), none⟩, ⟨(some 20), .load none (.tmp 19), none⟩, ⟨(some 2), .mov (.tmp 20), none⟩, ⟨(some 3), .mov (.val (.bool true)), none⟩, ⟨(some 4), .mov (.val (.bool true)), none⟩]))
 .ret) .skip))))))))
 (.seq (.keep [] [] (.reg [⟨(some 2), .mov (.val (.int .i64 0)), none⟩, ⟨(some 3), .mov (.val (.bool false)), none⟩, ⟨(some 4), .mov (.val (.bool true)), none⟩]))
 .ret)))) }
def h17 : Hints := ⟨[2], [(0, [], []), (1, [0], []), (2, [0, 4, 5, 6], []), (3, [0, 4, 5, 6], []), (4, [0, 2, 4, 5, 6], [2]), (5, [0, 4, 5, 6], []), (6, [0], [])], []⟩
def a17_B1 : AC := (.seq (.keep [0, 4, 5, 6] [] (.reg [⟨(some 7), .bin .lss (.tmp 6) (.tmp 5), none⟩]))
 (.seq (.cond (.tmp 7) .skip (.exit 0))
 (.seq (.block 1 (.seq (.keep [0, 4, 5, 6] [] (.reg [⟨(some 8), .iaddrL 6 (.tmp 4) (.tmp 6), none⟩, ⟨(some 9), .load (some 6) (.tmp 8), none⟩, ⟨(some 2), .alloc (some 2) [(.str ⟨#[]⟩), (.int .i64 0), (.int .i64 0), (.int .i64 0), (.int .i64 0), (.int .i64 0)], none⟩, ⟨none, .store 6 (.tmp 2) (.tmp 9), none⟩]))
 (.keep [0, 2, 4, 5, 6] [2] (.reg [⟨(some 10), .mov (.tmp 0), none⟩, ⟨(some 11), .faddr 0 (.tmp 2), none⟩, ⟨(some 12), .load none (.tmp 11), none⟩, ⟨(some 13), .mkslc 1 1 [(.str ⟨#[]⟩)] [(0, (.tmp 12))], none⟩, ⟨(some 14), .app none 1 16 (.tmp 10) (.tmp 13), none⟩, ⟨(some 0), .mov (.tmp 14), none⟩]))))
 (.keep [0, 4, 5, 6] [] (.reg [⟨(some 15), .bin .add (.tmp 6) (.val (.int .i64 1)), none⟩, ⟨(some 6), .mov (.tmp 15), none⟩])))))
def a17_L1 : AC := .loop a17_B1
theorem a17_L1_step (call : Caller) (again : AC → St → Option (Ex × St)) (s : St) : codeEv call again a17_L1 s = match codeEv call again a17_B1 s with | some (.norm, s1) => again a17_L1 s1 | r => r := rfl
def a17 : AFn := { n := 17, np := 0, res := [.tmp 0], body :=
 (.seq (.keep [] [] (.reg [⟨(some 0), .mov (.val .nils), none⟩]))
 (.seq (.seq (.keep [0] [] (.reg [⟨(some 3), .load none (.val (.ptr 0 0)), none⟩, ⟨(some 4), .slcL 6 (.tmp 3) (some (.val (.int .i64 1))) none none, none⟩, ⟨(some 5), .lenL (.tmp 4), none⟩, ⟨(some 6), .mov (.val (.int .i64 0)), none⟩]))
 (.block 0 a17_L1))
 (.seq (.keep [0] [] (.reg [⟨(some 16), .mov (.tmp 0), none⟩, ⟨(some 0), .mov (.tmp 16), none⟩]))
 .ret))) }
def h18 : Hints := ⟨[2], [(0, [0, 1], []), (1, [1, 2], [2]), (2, [], []), (3, [1, 2], [2]), (4, [1, 2, 11], [2]), (5, [1, 2, 11], [2]), (6, [1, 2, 11], [2]), (7, [1, 2, 11], [2]), (8, [], []), (9, [1, 2, 11], [2]), (10, [1, 2, 11], [2]), (11, [1, 2, 11], [2]), (12, [1, 2, 11], [2]), (13, [1, 2, 11], [2]), (14, [1, 2, 11], [2]), (15, [], []), (16, [1, 2, 11], [2]), (17, [1, 2, 11], [2]), (18, [1, 2, 11], [2]), (19, [], []), (20, [1, 2, 11], [2]), (21, [], []), (22, [1, 2, 11], [2]), (23, [], []), (24, [1, 2, 11], [2]), (25, [1, 2], [2]), (26, [], []), (27, [1, 2], [2]), (28, [], [])], []⟩
def a18 : AFn := { n := 44, np := 2, res := [.tmp 4, .tmp 5, .tmp 6], body :=
 (.seq (.keep [0, 1] [] (.reg [⟨(some 2), .box (some 2) (.tmp 0), none⟩, ⟨(some 4), .mov (.val (.int .i64 0)), none⟩, ⟨(some 5), .mov (.val (.int .i64 0)), none⟩, ⟨(some 6), .mov (.val (.bool false)), none⟩]))
 (.seq (.seq (.keep [1, 2] [2] (.reg [⟨(some 7), .load (some 4) (.tmp 2), none⟩, ⟨(some 8), .call 21 [(.tmp 7)], none⟩, ⟨(some 9), .bin .neq (.tmp 8) (.val (.int .i64 0)), none⟩]))
 (.cond (.tmp 9) (.seq (.keep [] [] (.reg [⟨(some 4), .mov (.val (.int .i64 0)), none⟩, ⟨(some 5), .mov (.val (.int .i64 0)), none⟩, ⟨(some 6), .mov (.val (.bool false)), none⟩]))
 .ret) .skip))
 (.seq (.seq (.keep [1, 2] [2] (.reg [⟨(some 10), .faddr 0 (.tmp 2), none⟩, ⟨(some 11), .load none (.tmp 10), none⟩]))
 (.block 0 (.seq (.seq (.keep [1, 2, 11] [2] (.reg [⟨(some 13), .bin .eql (.tmp 11) (.val (.int .i64 2)), none⟩, ⟨(some 12), .mov (.tmp 13), none⟩]))
 (.cond (.tmp 12) .skip (.seq (.keep [1, 2, 11] [2] (.reg [⟨(some 14), .bin .eql (.tmp 11) (.val (.int .i64 4)), none⟩, ⟨(some 12), .mov (.tmp 14), none⟩]))
 (.cond (.tmp 12) .skip (.seq (.keep [1, 2, 11] [2] (.reg [⟨(some 15), .bin .eql (.tmp 11) (.val (.int .i64 8)), none⟩, ⟨(some 12), .mov (.tmp 15), none⟩]))
 (.cond (.tmp 12) .skip (.keep [1, 2, 11] [2] (.reg [⟨(some 16), .bin .eql (.tmp 11) (.val (.int .i64 10)), none⟩, ⟨(some 12), .mov (.tmp 16), none⟩]))))))))
 (.cond (.tmp 12) (.seq (.keep [] [] (.reg [⟨(some 4), .mov (.val (.int .i64 0)), none⟩, ⟨(some 5), .mov (.val (.int .i64 1)), none⟩, ⟨(some 6), .mov (.val (.bool true)), none⟩]))
 .ret) (.seq (.seq (.keep [1, 2, 11] [2] (.reg [⟨(some 18), .bin .eql (.tmp 11) (.val (.int .i64 3)), none⟩, ⟨(some 17), .mov (.tmp 18), none⟩]))
 (.cond (.tmp 17) .skip (.seq (.keep [1, 2, 11] [2] (.reg [⟨(some 19), .bin .eql (.tmp 11) (.val (.int .i64 5)), none⟩, ⟨(some 17), .mov (.tmp 19), none⟩]))
 (.cond (.tmp 17) .skip (.seq (.keep [1, 2, 11] [2] (.reg [⟨(some 20), .bin .eql (.tmp 11) (.val (.int .i64 9)), none⟩, ⟨(some 17), .mov (.tmp 20), none⟩]))
 (.cond (.tmp 17) .skip (.seq (.keep [1, 2, 11] [2] (.reg [⟨(some 21), .bin .eql (.tmp 11) (.val (.int .i64 11)), none⟩, ⟨(some 17), .mov (.tmp 21), none⟩]))
 (.cond (.tmp 17) .skip (.seq (.keep [1, 2, 11] [2] (.reg [⟨(some 22), .bin .eql (.tmp 11) (.val (.int .i64 16)), none⟩, ⟨(some 17), .mov (.tmp 22), none⟩]))
 (.cond (.tmp 17) .skip (.keep [1, 2, 11] [2] (.reg [⟨(some 23), .bin .eql (.tmp 11) (.val (.int .i64 18)), none⟩, ⟨(some 17), .mov (.tmp 23), none⟩]))))))))))))
 (.cond (.tmp 17) (.seq (.keep [] [] (.reg [⟨(some 4), .mov (.val (.int .i64 1)), none⟩, ⟨(some 5), .mov (.val (.int .i64 0)), none⟩, ⟨(some 6), .mov (.val (.bool true)), none⟩]))
 .ret) (.seq (.seq (.keep [1, 2, 11] [2] (.reg [⟨(some 25), .bin .eql (.tmp 11) (.val (.int .i64 6)), none⟩, ⟨(some 24), .mov (.tmp 25), none⟩]))
 (.cond (.tmp 24) .skip (.seq (.keep [1, 2, 11] [2] (.reg [⟨(some 26), .bin .eql (.tmp 11) (.val (.int .i64 13)), none⟩, ⟨(some 24), .mov (.tmp 26), none⟩]))
 (.cond (.tmp 24) .skip (.keep [1, 2, 11] [2] (.reg [⟨(some 27), .bin .eql (.tmp 11) (.val (.int .i64 14)), none⟩, ⟨(some 24), .mov (.tmp 27), none⟩]))))))
 (.cond (.tmp 24) (.seq (.keep [] [] (.reg [⟨(some 4), .mov (.val (.int .i64 1)), none⟩, ⟨(some 5), .mov (.val (.int .i64 1)), none⟩, ⟨(some 6), .mov (.val (.bool true)), none⟩]))
 .ret) (.seq (.keep [1, 2, 11] [2] (.reg [⟨(some 29), .bin .eql (.tmp 11) (.val (.int .i64 7)), none⟩, ⟨(some 28), .mov (.tmp 29), none⟩]))
 (.cond (.tmp 28) (.seq (.keep [] [] (.reg [⟨(some 4), .mov (.val (.int .i64 2)), none⟩, ⟨(some 5), .mov (.val (.int .i64 0)), none⟩, ⟨(some 6), .mov (.val (.bool true)), none⟩]))
 .ret) (.seq (.keep [1, 2, 11] [2] (.reg [⟨(some 31), .bin .eql (.tmp 11) (.val (.int .i64 12)), none⟩, ⟨(some 30), .mov (.tmp 31), none⟩]))
 (.cond (.tmp 30) (.seq (.keep [] [] (.reg [⟨(some 4), .mov (.val (.int .i64 2)), none⟩, ⟨(some 5), .mov (.val (.int .i64 1)), none⟩, ⟨(some 6), .mov (.val (.bool true)), none⟩]))
 .ret) (.seq (.keep [1, 2, 11] [2] (.reg [⟨(some 33), .bin .eql (.tmp 11) (.val (.int .i64 17)), none⟩, ⟨(some 32), .mov (.tmp 33), none⟩]))
 (.cond (.tmp 32) (.seq (.seq (.keep [1, 2] [2] (.reg [⟨(some 34), .faddr 1 (.tmp 2), none⟩, ⟨(some 35), .load none (.tmp 34), none⟩, ⟨(some 36), .mov (.tmp 1), none⟩, ⟨(some 37), .lenL (.tmp 36), none⟩, ⟨(some 38), .bin .geq (.tmp 35) (.tmp 37), none⟩]))
 (.cond (.tmp 38) (.seq (.keep [] [] (.reg [⟨(some 4), .mov (.val (.int .i64 0)), none⟩, ⟨(some 5), .mov (.val (.int .i64 0)), none⟩, ⟨(some 6), .mov (.val (.bool false)), none⟩]))
 .ret) .skip))
 (.seq (.keep [1, 2] [2] (.reg [⟨(some 39), .mov (.tmp 1), none⟩, ⟨(some 40), .faddr 1 (.tmp 2), none⟩, ⟨(some 41), .load none (.tmp 40), none⟩, ⟨(some 42), .iaddrL 1 (.tmp 39) (.tmp 41), none⟩, ⟨(some 43), .load none (.tmp 42), none⟩, ⟨(some 4), .mov (.tmp 43), none⟩, ⟨(some 5), .mov (.val (.int .i64 1)), none⟩, ⟨(some 6), .mov (.val (.bool true)), none⟩]))
 .ret)) .skip))))))))))))))
 (.seq (.keep [] [] (.reg [⟨(some 4), .mov (.val (.int .i64 0)), none⟩, ⟨(some 5), .mov (.val (.int .i64 0)), none⟩, ⟨(some 6), .mov (.val (.bool true)), none⟩]))
 .ret)))) }
def h19 : Hints := ⟨[1], [(0, [0], []), (1, [1], [1]), (2, [], []), (3, [1], [1]), (4, [1, 9], [1]), (5, [1], [1]), (6, [1, 9], [1]), (7, [1], [1]), (8, [9], []), (9, [9], []), (10, [], []), (11, [], [])], []⟩
def a19 : AFn := { n := 21, np := 1, res := [.tmp 2, .tmp 3, .tmp 4], body :=
 (.seq (.keep [0] [] (.reg [⟨(some 1), .box (some 1) (.tmp 0), none⟩, ⟨(some 2), .mov (.val (.int .i64 0)), none⟩, ⟨(some 3), .mov (.val (.bool false)), none⟩, ⟨(some 4), .mov (.val (.bool false)), none⟩]))
 (.seq (.seq (.keep [1] [1] (.reg [⟨(some 5), .load (some 4) (.tmp 1), none⟩, ⟨(some 6), .call 21 [(.tmp 5)], none⟩, ⟨(some 7), .bin .neq (.tmp 6) (.val (.int .i64 0)), none⟩]))
 (.cond (.tmp 7) (.seq (.keep [] [] (.reg [⟨(some 2), .mov (.val (.int .i64 0)), none⟩, ⟨(some 3), .mov (.val (.bool false)), none⟩, ⟨(some 4), .mov (.val (.bool false)), none⟩]))
 .ret) .skip))
 (.seq (.seq (.keep [1] [1] (.reg [⟨(some 8), .faddr 0 (.tmp 1), none⟩, ⟨(some 9), .load none (.tmp 8), none⟩]))
 (.block 0 (.seq (.keep [1, 9] [1] (.reg [⟨(some 11), .bin .eql (.tmp 9) (.val (.int .i64 15)), none⟩, ⟨(some 10), .mov (.tmp 11), none⟩]))
 (.cond (.tmp 10) (.seq (.keep [1] [1] (.reg [⟨(some 12), .faddr 1 (.tmp 1), none⟩, ⟨(some 13), .load none (.tmp 12), none⟩, ⟨(some 2), .mov (.tmp 13), none⟩, ⟨(some 3), .mov (.val (.bool true)), none⟩, ⟨(some 4), .mov (.val (.bool false)), none⟩]))
 .ret) (.seq (.keep [1, 9] [1] (.reg [⟨(some 15), .bin .eql (.tmp 9) (.val (.int .i64 16)), none⟩, ⟨(some 14), .mov (.tmp 15), none⟩]))
 (.cond (.tmp 14) (.seq (.keep [1] [1] (.reg [⟨(some 16), .faddr 1 (.tmp 1), none⟩, ⟨(some 17), .load none (.tmp 16), none⟩, ⟨(some 2), .mov (.tmp 17), none⟩, ⟨(some 3), .mov (.val (.bool true)), none⟩, ⟨(some 4), .mov (.val (.bool true)), none⟩]))
 .ret) (.seq (.seq (.keep [9] [] (.reg [⟨(some 19), .bin .eql (.tmp 9) (.val (.int .i64 1)), none⟩, ⟨(some 18), .mov (.tmp 19), none⟩]))
 (.cond (.tmp 18) .skip (.keep [9] [] (.reg [⟨(some 20), .bin .eql (.tmp 9) (.val (.int .i64 18)), none⟩, ⟨(some 18), .mov (.tmp 20), none⟩]))))
 (.cond (.tmp 18) (.seq (.keep [] [] (.reg [⟨(some 2), .mov (.val (.int .i64 0)), none⟩, ⟨(some 3), .mov (.val (.bool false)), none⟩, ⟨(some 4), .mov (.val (.bool false)), none⟩]))
 .ret) .skip))))))))
 (.seq (.keep [] [] (.reg [⟨(some 2), .mov (.val (.int .i64 0)), none⟩, ⟨(some 3), .mov (.val (.bool false)), none⟩, ⟨(some 4), .mov (.val (.bool true)), none⟩]))
 .ret)))) }
def h20 : Hints := ⟨[2, 7], [(0, [0], []), (1, [0, 2], [2]), (2, [0, 2, 4], [2]), (3, [0, 2, 4, 5], [2]), (4, [0, 2, 4, 5, 6], [2]), (6, [0, 2, 4, 5, 6], [2]), (7, [0, 2, 4, 5, 6], [2]), (5, [0, 2, 4, 5, 6], [2]), (8, [0, 2, 4, 5], [2]), (9, [0, 2, 4, 5, 7], [2, 7]), (10, [0, 2, 4, 5, 7, 8], [2, 7]), (11, [0, 2, 4, 5, 7, 8, 9], [2, 7]), (13, [0, 2, 4, 5, 7, 8, 9], [2, 7]), (12, [0, 2, 4, 5, 7, 8, 9], [2, 7]), (14, [0, 2, 5], [2]), (15, [2], [2]), (16, [2, 5], [2])], []⟩
def a20_B1 : AC := (.seq (.seq (.keep [0, 2, 4, 5, 7, 8, 9] [2, 7] (.reg [⟨(some 36), .mov (.tmp 9), none⟩, ⟨(some 37), .bin .lss (.tmp 36) (.val (.int .i64 3)), none⟩, ⟨(some 38), .mov (.tmp 37), none⟩, ⟨(some 39), .mov (.tmp 9), (some (38, true))⟩, ⟨(some 40), .bin .add (.tmp 39) (.val (.int .i64 1)), (some (38, true))⟩, ⟨(some 41), .mov (.tmp 4), (some (38, true))⟩, ⟨(some 42), .lenL (.tmp 41), (some (38, true))⟩, ⟨(some 43), .bin .lss (.tmp 40) (.tmp 42), (some (38, true))⟩, ⟨(some 44), .pick (.tmp 38) (.tmp 43) (.val (.bool false)), none⟩]))
 (.cond (.tmp 44) .skip (.exit 2)))
 (.seq (.block 3 (.keep [0, 2, 4, 5, 7, 8, 9] [2, 7] (.dreg [(false, ⟨(some 47), .mov (.tmp 8), none⟩, false), (false, ⟨(some 48), .mov (.tmp 9), none⟩, false), (false, ⟨(some 49), .iaddrL 1 (.tmp 47) (.tmp 48), none⟩, false), (true, ⟨(some 50), .load none (.tmp 49), none⟩, false), (false, ⟨(some 51), .mov (.tmp 9), none⟩, false), (false, ⟨(some 52), .iaddrA 3 1 (.tmp 7) (.tmp 51), none⟩, false), (false, ⟨(some 53), .load none (.tmp 52), none⟩, false), (false, ⟨(some 54), .mov (.tmp 4), none⟩, false), (false, ⟨(some 55), .mov (.tmp 9), none⟩, false), (false, ⟨(some 56), .bin .add (.tmp 55) (.val (.int .i64 1)), none⟩, false), (false, ⟨(some 57), .iaddrL 1 (.tmp 54) (.tmp 56), none⟩, false), (false, ⟨(some 58), .load none (.tmp 57), none⟩, false), (true, ⟨(some 59), .call 45 [(.tmp 53), (.tmp 58)], none⟩, false), (false, ⟨(some 60), .nilck (.tmp 50), none⟩, false), (false, ⟨none, .store 1 (.tmp 60) (.tmp 59), none⟩, false)])))
 (.keep [0, 2, 4, 5, 7, 8, 9] [2, 7] (.reg [⟨(some 45), .mov (.tmp 9), none⟩, ⟨(some 46), .bin .add (.tmp 45) (.val (.int .i64 1)), none⟩, ⟨(some 9), .mov (.tmp 46), none⟩]))))
def a20_L1 : AC := .loop a20_B1
theorem a20_L1_step (call : Caller) (again : AC → St → Option (Ex × St)) (s : St) : codeEv call again a20_L1 s = match codeEv call again a20_B1 s with | some (.norm, s1) => again a20_L1 s1 | r => r := rfl
def a20_B2 : AC := (.seq (.seq (.keep [0, 2, 4, 5, 6] [2] (.reg [⟨(some 12), .mov (.tmp 6), none⟩, ⟨(some 13), .call 24 [], none⟩, ⟨(some 14), .lenL (.tmp 13), none⟩, ⟨(some 15), .bin .lss (.tmp 12) (.tmp 14), none⟩]))
 (.cond (.tmp 15) .skip (.exit 0)))
 (.seq (.block 1 (.seq (.keep [0, 2, 4, 5, 6] [2] (.dreg [(true, ⟨(some 18), .call 24 [], none⟩, false), (false, ⟨(some 19), .mov (.tmp 6), none⟩, false), (false, ⟨(some 20), .iaddrL 1 (.tmp 18) (.tmp 19), none⟩, false), (false, ⟨(some 21), .load none (.tmp 20), none⟩, false), (false, ⟨(some 22), .mov (.tmp 4), none⟩, false), (false, ⟨(some 23), .iaddrL 1 (.tmp 22) (.val (.int .i64 0)), none⟩, false), (true, ⟨(some 24), .load none (.tmp 23), none⟩, false), (false, ⟨(some 25), .bin .eql (.tmp 21) (.tmp 24), none⟩, false)]))
 (.cond (.tmp 25) (.keep [0, 2, 4, 5, 6] [2] (.reg [⟨(some 26), .mov (.tmp 6), none⟩, ⟨(some 27), .bin .add (.tmp 26) (.val (.int .i64 1)), none⟩, ⟨(some 28), .faddr 0 (.tmp 5), none⟩, ⟨none, .store 1 (.tmp 28) (.tmp 27), none⟩])) .skip)))
 (.keep [0, 2, 4, 5, 6] [2] (.reg [⟨(some 16), .mov (.tmp 6), none⟩, ⟨(some 17), .bin .add (.tmp 16) (.val (.int .i64 1)), none⟩, ⟨(some 6), .mov (.tmp 17), none⟩]))))
def a20_L2 : AC := .loop a20_B2
theorem a20_L2_step (call : Caller) (again : AC → St → Option (Ex × St)) (s : St) : codeEv call again a20_L2 s = match codeEv call again a20_B2 s with | some (.norm, s1) => again a20_L2 s1 | r => r := rfl
def a20 : AFn := { n := 72, np := 1, res := [.cell 2 (some 4), .tmp 3], body :=
 (.seq (.keep [0] [] (.reg [⟨(some 2), .alloc (some 2) [(.int .i64 0), (.int .i64 0), (.int .i64 0), (.int .i64 0)], none⟩, ⟨(some 3), .mov (.val (.int .i64 0)), none⟩]))
 (.seq (.keep [0, 2] [2] (.reg [⟨(some 10), .mov (.tmp 0), none⟩, ⟨(some 11), .call 43 [(.tmp 10)], none⟩, ⟨(some 4), .mov (.tmp 11), none⟩]))
 (.seq (.keep [0, 2, 4] [2] (.reg [⟨(some 5), .alloc none [(.int .i64 0), (.int .i64 0), (.int .i64 0), (.int .i64 0)], none⟩]))
 (.seq (.seq (.keep [0, 2, 4, 5] [2] (.reg [⟨(some 6), .mov (.val (.int .i64 0)), none⟩]))
 (.block 0 a20_L2))
 (.seq (.keep [0, 2, 4, 5] [2] (.reg [⟨(some 29), .faddr 0 (.tmp 5), none⟩, ⟨(some 30), .load none (.tmp 29), none⟩, ⟨(some 31), .call 44 [(.tmp 30)], none⟩, ⟨(some 7), .alloc (some 7) [(.int .i64 0), (.int .i64 0), (.int .i64 0)], none⟩, ⟨none, .store 3 (.tmp 7) (.tmp 31), none⟩]))
 (.seq (.keep [0, 2, 4, 5, 7] [2, 7] (.reg [⟨(some 32), .faddr 1 (.tmp 5), none⟩, ⟨(some 33), .faddr 2 (.tmp 5), none⟩, ⟨(some 34), .faddr 3 (.tmp 5), none⟩, ⟨(some 35), .mkslc 1 3 [.nilp] [(0, (.tmp 32)), (1, (.tmp 33)), (2, (.tmp 34))], none⟩, ⟨(some 8), .mov (.tmp 35), none⟩]))
 (.seq (.seq (.keep [0, 2, 4, 5, 7, 8] [2, 7] (.reg [⟨(some 9), .mov (.val (.int .i64 0)), none⟩]))
 (.block 2 a20_L1))
 (.seq (.seq (.keep [0, 2, 5] [2] (.reg [⟨(some 61), .load (some 4) (.tmp 5), none⟩, ⟨(some 62), .call 21 [(.tmp 61)], none⟩, ⟨(some 63), .bin .neq (.tmp 62) (.val (.int .i64 0)), none⟩, ⟨(some 64), .mov (.tmp 63), none⟩, ⟨(some 65), .load (some 4) (.tmp 5), (some (64, false))⟩, ⟨(some 66), .call 22 [(.tmp 65)], (some (64, false))⟩, ⟨(some 67), .mov (.tmp 0), (some (64, false))⟩, ⟨(some 68), .bin .neq (.tmp 66) (.tmp 67), (some (64, false))⟩, ⟨(some 69), .pick (.tmp 64) (.val (.bool true)) (.tmp 68), none⟩]))
 (.cond (.tmp 69) (.seq (.keep [2] [2] (.reg [⟨(some 70), .build [(.int .i64 0), (.int .i64 0), (.int .i64 0), (.int .i64 0)] [], none⟩, ⟨none, .store 4 (.tmp 2) (.tmp 70), none⟩, ⟨(some 3), .mov (.val (.int .i64 11)), none⟩]))
 .ret) .skip))
 (.seq (.keep [2, 5] [2] (.reg [⟨(some 71), .load (some 4) (.tmp 5), none⟩, ⟨none, .store 4 (.tmp 2) (.tmp 71), none⟩, ⟨(some 3), .mov (.val (.int .i64 0)), none⟩]))
 .ret))))))))) }
def h21 : Hints := ⟨[1, 3], [(0, [0], []), (1, [1], [1]), (2, [1, 3], [1, 3]), (3, [], []), (4, [], [])], []⟩
def a21 : AFn := { n := 39, np := 1, res := [.tmp 2], body :=
 (.seq (.keep [0] [] (.reg [⟨(some 1), .box (some 1) (.tmp 0), none⟩, ⟨(some 2), .mov (.val (.int .i64 0)), none⟩]))
 (.seq (.keep [1] [1] (.reg [⟨(some 4), .faddr 0 (.tmp 1), none⟩, ⟨(some 5), .load none (.tmp 4), none⟩, ⟨(some 6), .call 44 [(.tmp 5)], none⟩, ⟨(some 3), .alloc (some 3) [(.int .i64 0), (.int .i64 0), (.int .i64 0)], none⟩, ⟨none, .store 3 (.tmp 3) (.tmp 6), none⟩]))
 (.seq (.seq (.keep [1, 3] [1, 3] (.reg [⟨(some 7), .faddr 0 (.tmp 1), none⟩, ⟨(some 8), .load none (.tmp 7), none⟩, ⟨(some 9), .bin .lss (.tmp 8) (.val (.int .i64 1)), none⟩, ⟨(some 10), .mov (.tmp 9), none⟩, ⟨(some 11), .faddr 0 (.tmp 1), (some (10, false))⟩, ⟨(some 12), .load none (.tmp 11), (some (10, false))⟩, ⟨(some 13), .bin .gtr (.tmp 12) (.val (.int .i64 24)), (some (10, false))⟩, ⟨(some 14), .pick (.tmp 10) (.val (.bool true)) (.tmp 13), none⟩, ⟨(some 15), .mov (.tmp 14), none⟩, ⟨(some 16), .iaddrA 3 1 (.tmp 3) (.val (.int .i64 0)), (some (15, false))⟩, ⟨(some 17), .load none (.tmp 16), (some (15, false))⟩, ⟨(some 18), .faddr 1 (.tmp 1), (some (15, false))⟩, ⟨(some 19), .load none (.tmp 18), (some (15, false))⟩, ⟨(some 20), .call 46 [(.tmp 17), (.tmp 19)], (some (15, false))⟩, ⟨(some 21), .un .not (.tmp 20), (some (15, false))⟩, ⟨(some 22), .pick (.tmp 15) (.val (.bool true)) (.tmp 21), none⟩, ⟨(some 23), .mov (.tmp 22), none⟩, ⟨(some 24), .iaddrA 3 1 (.tmp 3) (.val (.int .i64 1)), (some (23, false))⟩, ⟨(some 25), .load none (.tmp 24), (some (23, false))⟩, ⟨(some 26), .faddr 2 (.tmp 1), (some (23, false))⟩, ⟨(some 27), .load none (.tmp 26), (some (23, false))⟩, ⟨(some 28), .call 46 [(.tmp 25), (.tmp 27)], (some (23, false))⟩, ⟨(some 29), .un .not (.tmp 28), (some (23, false))⟩, ⟨(some 30), .pick (.tmp 23) (.val (.bool true)) (.tmp 29), none⟩, ⟨(some 31), .mov (.tmp 30), none⟩, ⟨(some 32), .iaddrA 3 1 (.tmp 3) (.val (.int .i64 2)), (some (31, false))⟩, ⟨(some 33), .load none (.tmp 32), (some (31, false))⟩, ⟨(some 34), .faddr 3 (.tmp 1), (some (31, false))⟩, ⟨(some 35), .load none (.tmp 34), (some (31, false))⟩, ⟨(some 36), .call 46 [(.tmp 33), (.tmp 35)], (some (31, false))⟩, ⟨(some 37), .un .not (.tmp 36), (some (31, false))⟩, ⟨(some 38), .pick (.tmp 31) (.val (.bool true)) (.tmp 37), none⟩]))
 (.cond (.tmp 38) (.seq (.keep [] [] (.reg [⟨(some 2), .mov (.val (.int .i64 2)), none⟩]))
 .ret) .skip))
 (.seq (.keep [] [] (.reg [⟨(some 2), .mov (.val (.int .i64 0)), none⟩]))
 .ret)))) }
def h22 : Hints := ⟨[1, 4, 5], [(0, [0], []), (1, [1], [1]), (2, [], []), (3, [1], [1]), (4, [1, 3], [1]), (5, [1, 3, 4], [1, 4]), (6, [3, 4, 5], [4, 5]), (7, [3, 4, 5, 6], [4, 5]), (9, [3, 4, 5, 6], [4, 5]), (11, [3, 4, 5, 6, 32], [4, 5]), (12, [3, 4, 5, 6, 32], [4, 5]), (13, [3, 4, 5, 6], [4, 5]), (14, [3, 4, 5, 6, 32], [4, 5]), (15, [3, 4, 5, 6], [4, 5]), (10, [3, 4, 5, 6], [4, 5]), (8, [3, 4, 5, 6], [4, 5]), (16, [3], [])], []⟩
def a22_B1 : AC := (.seq (.seq (.keep [3, 4, 5, 6] [4, 5] (.reg [⟨(some 26), .mov (.tmp 6), none⟩, ⟨(some 27), .bin .lss (.tmp 26) (.val (.int .i64 3)), none⟩]))
 (.cond (.tmp 27) .skip (.exit 0)))
 (.seq (.block 1 (.seq (.keep [3, 4, 5, 6] [4, 5] (.reg [⟨(some 30), .mov (.tmp 6), none⟩, ⟨(some 31), .iaddrA 3 1 (.tmp 4) (.tmp 30), none⟩, ⟨(some 32), .load none (.tmp 31), none⟩]))
 (.block 2 (.seq (.keep [3, 4, 5, 6, 32] [4, 5] (.reg [⟨(some 41), .bin .eql (.tmp 32) (.val (.int .i64 0)), none⟩, ⟨(some 40), .mov (.tmp 41), none⟩]))
 (.cond (.tmp 40) .skip (.seq (.keep [3, 4, 5, 6, 32] [4, 5] (.reg [⟨(some 43), .bin .eql (.tmp 32) (.val (.int .i64 5)), none⟩, ⟨(some 42), .mov (.tmp 43), none⟩]))
 (.cond (.tmp 42) (.keep [3, 4, 5, 6] [4, 5] (.reg [⟨(some 44), .mov (.tmp 3), none⟩, ⟨(some 45), .bin .add (.tmp 44) (.val (.str ⟨#[32]⟩)), none⟩, ⟨(some 46), .mov (.tmp 6), none⟩, ⟨(some 47), .iaddrA 3 1 (.tmp 5) (.tmp 46), none⟩, ⟨(some 48), .load none (.tmp 47), none⟩, ⟨(some 49), .call 47 [(.tmp 48)], none⟩, ⟨(some 50), .bin .add (.tmp 45) (.tmp 49), none⟩, ⟨(some 3), .mov (.tmp 50), none⟩])) (.seq (.keep [3, 4, 5, 6, 32] [4, 5] (.reg [⟨(some 52), .bin .eql (.tmp 32) (.val (.int .i64 6)), none⟩, ⟨(some 51), .mov (.tmp 52), none⟩]))
 (.cond (.tmp 51) (.keep [3, 4, 5, 6] [4, 5] (.reg [⟨(some 53), .mov (.tmp 3), none⟩, ⟨(some 54), .bin .add (.tmp 53) (.val (.str ⟨#[32]⟩)), none⟩, ⟨(some 55), .mov (.tmp 6), none⟩, ⟨(some 56), .iaddrA 3 1 (.tmp 5) (.tmp 55), none⟩, ⟨(some 57), .load none (.tmp 56), none⟩, ⟨(some 58), .call 48 [(.tmp 57)], none⟩, ⟨(some 59), .bin .add (.tmp 54) (.tmp 58), none⟩, ⟨(some 3), .mov (.tmp 59), none⟩])) (.keep [3, 4, 5, 6] [4, 5] (.reg [⟨(some 33), .mov (.tmp 3), none⟩, ⟨(some 34), .bin .add (.tmp 33) (.val (.str ⟨#[32]⟩)), none⟩, ⟨(some 35), .mov (.tmp 6), none⟩, ⟨(some 36), .iaddrA 3 1 (.tmp 5) (.tmp 35), none⟩, ⟨(some 37), .load none (.tmp 36), none⟩, ⟨(some 38), .call 38 [(.tmp 37)], none⟩, ⟨(some 39), .bin .add (.tmp 34) (.tmp 38), none⟩, ⟨(some 3), .mov (.tmp 39), none⟩])))))))))))
 (.keep [3, 4, 5, 6] [4, 5] (.reg [⟨(some 28), .mov (.tmp 6), none⟩, ⟨(some 29), .bin .add (.tmp 28) (.val (.int .i64 1)), none⟩, ⟨(some 6), .mov (.tmp 29), none⟩]))))
def a22_L1 : AC := .loop a22_B1
theorem a22_L1_step (call : Caller) (again : AC → St → Option (Ex × St)) (s : St) : codeEv call again a22_L1 s = match codeEv call again a22_B1 s with | some (.norm, s1) => again a22_L1 s1 | r => r := rfl
def a22 : AFn := { n := 61, np := 1, res := [.tmp 2], body :=
 (.seq (.keep [0] [] (.reg [⟨(some 1), .box (some 1) (.tmp 0), none⟩, ⟨(some 2), .mov (.val (.str ⟨#[]⟩)), none⟩]))
 (.seq (.seq (.keep [1] [1] (.reg [⟨(some 7), .load (some 4) (.tmp 1), none⟩, ⟨(some 8), .call 21 [(.tmp 7)], none⟩, ⟨(some 9), .bin .neq (.tmp 8) (.val (.int .i64 0)), none⟩]))
 (.cond (.tmp 9) (.seq (.keep [] [] (.reg [⟨(some 2), .mov (.val (.str ⟨#[]⟩)), none⟩]))
 .ret) .skip))
 (.seq (.keep [1] [1] (.dreg [(true, ⟨(some 10), .call 24 [], none⟩, false), (false, ⟨(some 11), .faddr 0 (.tmp 1), none⟩, false), (true, ⟨(some 12), .load none (.tmp 11), none⟩, false), (false, ⟨(some 13), .bin .sub (.tmp 12) (.val (.int .i64 1)), none⟩, false), (false, ⟨(some 14), .iaddrL 1 (.tmp 10) (.tmp 13), none⟩, false), (false, ⟨(some 15), .load none (.tmp 14), none⟩, false), (false, ⟨(some 3), .mov (.tmp 15), none⟩, false)]))
 (.seq (.keep [1, 3] [1] (.reg [⟨(some 16), .faddr 0 (.tmp 1), none⟩, ⟨(some 17), .load none (.tmp 16), none⟩, ⟨(some 18), .call 44 [(.tmp 17)], none⟩, ⟨(some 4), .alloc (some 4) [(.int .i64 0), (.int .i64 0), (.int .i64 0)], none⟩, ⟨none, .store 3 (.tmp 4) (.tmp 18), none⟩]))
 (.seq (.keep [1, 3, 4] [1, 4] (.reg [⟨(some 19), .faddr 1 (.tmp 1), none⟩, ⟨(some 20), .load none (.tmp 19), none⟩, ⟨(some 21), .faddr 2 (.tmp 1), none⟩, ⟨(some 22), .load none (.tmp 21), none⟩, ⟨(some 23), .faddr 3 (.tmp 1), none⟩, ⟨(some 24), .load none (.tmp 23), none⟩, ⟨(some 25), .build [(.int .i64 0), (.int .i64 0), (.int .i64 0)] [(0, 1, (.tmp 20)), (1, 1, (.tmp 22)), (2, 1, (.tmp 24))], none⟩, ⟨(some 5), .alloc (some 5) [(.int .i64 0), (.int .i64 0), (.int .i64 0)], none⟩, ⟨none, .store 3 (.tmp 5) (.tmp 25), none⟩]))
 (.seq (.seq (.keep [3, 4, 5] [4, 5] (.reg [⟨(some 6), .mov (.val (.int .i64 0)), none⟩]))
 (.block 0 a22_L1))
 (.seq (.keep [3] [] (.reg [⟨(some 60), .mov (.tmp 3), none⟩, ⟨(some 2), .mov (.tmp 60), none⟩]))
 .ret))))))) }
def h23 : Hints := ⟨[], [(0, [0, 1], []), (1, [0, 1], []), (2, [], []), (3, [0, 1], []), (4, [0, 1, 5], []), (6, [0, 1, 5], []), (7, [], []), (5, [0, 1, 5], []), (8, [], [])], []⟩
def a23_B1 : AC := (.seq (.seq (.keep [0, 1, 5] [] (.reg [⟨(some 11), .mov (.tmp 5), none⟩, ⟨(some 12), .mov (.tmp 0), none⟩, ⟨(some 13), .lenL (.tmp 12), none⟩, ⟨(some 14), .bin .lss (.tmp 11) (.tmp 13), none⟩]))
 (.cond (.tmp 14) .skip (.exit 0)))
 (.seq (.block 1 (.seq (.keep [0, 1, 5] [] (.dreg [(false, ⟨(some 17), .mov (.tmp 0), none⟩, false), (false, ⟨(some 18), .mov (.tmp 5), none⟩, false), (false, ⟨(some 19), .iaddrL 1 (.tmp 17) (.tmp 18), none⟩, false), (false, ⟨(some 20), .load none (.tmp 19), none⟩, false), (false, ⟨(some 21), .mov (.tmp 1), none⟩, false), (false, ⟨(some 22), .mov (.tmp 5), none⟩, false), (false, ⟨(some 23), .iaddrL 1 (.tmp 21) (.tmp 22), none⟩, false), (false, ⟨(some 24), .load none (.tmp 23), none⟩, false), (false, ⟨(some 25), .bin .neq (.tmp 20) (.tmp 24), none⟩, false)]))
 (.cond (.tmp 25) (.seq (.keep [] [] (.reg [⟨(some 4), .mov (.val (.bool false)), none⟩]))
 .ret) .skip)))
 (.keep [0, 1, 5] [] (.reg [⟨(some 15), .mov (.tmp 5), none⟩, ⟨(some 16), .bin .add (.tmp 15) (.val (.int .i64 1)), none⟩, ⟨(some 5), .mov (.tmp 16), none⟩]))))
def a23_L1 : AC := .loop a23_B1
theorem a23_L1_step (call : Caller) (again : AC → St → Option (Ex × St)) (s : St) : codeEv call again a23_L1 s = match codeEv call again a23_B1 s with | some (.norm, s1) => again a23_L1 s1 | r => r := rfl
def a23 : AFn := { n := 26, np := 2, res := [.tmp 4], body :=
 (.seq (.keep [0, 1] [] (.reg [⟨(some 4), .mov (.val (.bool false)), none⟩]))
 (.seq (.seq (.keep [0, 1] [] (.reg [⟨(some 6), .mov (.tmp 0), none⟩, ⟨(some 7), .lenL (.tmp 6), none⟩, ⟨(some 8), .mov (.tmp 1), none⟩, ⟨(some 9), .lenL (.tmp 8), none⟩, ⟨(some 10), .bin .neq (.tmp 7) (.tmp 9), none⟩]))
 (.cond (.tmp 10) (.seq (.keep [] [] (.reg [⟨(some 4), .mov (.val (.bool false)), none⟩]))
 .ret) .skip))
 (.seq (.seq (.keep [0, 1] [] (.reg [⟨(some 5), .mov (.val (.int .i64 0)), none⟩]))
 (.block 0 a23_L1))
 (.seq (.keep [] [] (.reg [⟨(some 4), .mov (.val (.bool true)), none⟩]))
 .ret)))) }
def h24 : Hints := ⟨[], [(0, [], []), (1, [], [])], []⟩
def a24 : AFn := { n := 2, np := 0, res := [.tmp 0], body :=
 (.seq (.keep [] [] (.reg [⟨(some 0), .mov (.val .nils), none⟩]))
 (.seq (.keep [] [] (.reg [⟨(some 1), .mkslc 1 24 [(.str ⟨#[]⟩)] [(0, (.val (.str ⟨#[104, 97, 108, 116]⟩))), (1, (.val (.str ⟨#[112, 117, 115, 104]⟩))), (2, (.val (.str ⟨#[112, 111, 112]⟩))), (3, (.val (.str ⟨#[108, 100]⟩))), (4, (.val (.str ⟨#[115, 116]⟩))), (5, (.val (.str ⟨#[108, 100, 120]⟩))), (6, (.val (.str ⟨#[115, 116, 120]⟩))), (7, (.val (.str ⟨#[108, 100, 108]⟩))), (8, (.val (.str ⟨#[115, 116, 108]⟩))), (9, (.val (.str ⟨#[105, 110]⟩))), (10, (.val (.str ⟨#[111, 117, 116]⟩))), (11, (.val (.str ⟨#[98, 105, 110]⟩))), (12, (.val (.str ⟨#[117, 110]⟩))), (13, (.val (.str ⟨#[99, 117, 116]⟩))), (14, (.val (.str ⟨#[106, 109, 112]⟩))), (15, (.val (.str ⟨#[106, 122]⟩))), (16, (.val (.str ⟨#[99, 97, 108, 108]⟩))), (17, (.val (.str ⟨#[114, 101, 116]⟩))), (18, (.val (.str ⟨#[101, 110]⟩))), (19, (.val (.str ⟨#[100, 105, 115]⟩))), (20, (.val (.str ⟨#[108, 118, 108]⟩))), (21, (.val (.str ⟨#[112, 116]⟩))), (22, (.val (.str ⟨#[98, 101, 103]⟩))), (23, (.val (.str ⟨#[101, 110, 100]⟩)))], none⟩, ⟨(some 0), .mov (.tmp 1), none⟩]))
 .ret)) }
def h35 : Hints := ⟨[], [(0, [0, 1], []), (1, [0, 1], []), (2, [1, 5], []), (3, [1], []), (4, [1, 5], []), (5, [1], []), (6, [1, 5], []), (7, [1], []), (8, [1, 5], []), (9, [1], []), (10, [1, 5], []), (11, [1], []), (12, [1, 5], []), (13, [1], []), (14, [1, 5], []), (15, [1], []), (16, [1, 5], []), (17, [1], []), (18, [1], [])], []⟩
def a35 : AFn := { n := 70, np := 2, res := [.tmp 4], body :=
 (.seq (.keep [0, 1] [] (.reg [⟨(some 4), .mov (.val (.bool false)), none⟩]))
 (.seq (.seq (.keep [0, 1] [] (.reg [⟨(some 5), .mov (.tmp 0), none⟩]))
 (.block 0 (.seq (.keep [1, 5] [] (.reg [⟨(some 7), .bin .eql (.tmp 5) (.val (.int .i64 0)), none⟩, ⟨(some 6), .mov (.tmp 7), none⟩]))
 (.cond (.tmp 6) (.seq (.keep [1] [] (.reg [⟨(some 8), .mov (.tmp 1), none⟩, ⟨(some 9), .bin .eql (.tmp 8) (.val (.int .i64 0)), none⟩, ⟨(some 4), .mov (.tmp 9), none⟩]))
 .ret) (.seq (.keep [1, 5] [] (.reg [⟨(some 11), .bin .eql (.tmp 5) (.val (.int .i64 1)), none⟩, ⟨(some 10), .mov (.tmp 11), none⟩]))
 (.cond (.tmp 10) (.seq (.keep [1] [] (.reg [⟨(some 12), .mov (.tmp 1), none⟩, ⟨(some 13), .bin .geq (.tmp 12) (.val (.int .i64 0)), none⟩, ⟨(some 14), .mov (.tmp 13), none⟩, ⟨(some 15), .mov (.tmp 1), (some (14, true))⟩, ⟨(some 16), .bin .leq (.tmp 15) (.val (.int .i64 1048576)), (some (14, true))⟩, ⟨(some 17), .pick (.tmp 14) (.tmp 16) (.val (.bool false)), none⟩, ⟨(some 4), .mov (.tmp 17), none⟩]))
 .ret) (.seq (.keep [1, 5] [] (.reg [⟨(some 19), .bin .eql (.tmp 5) (.val (.int .i64 2)), none⟩, ⟨(some 18), .mov (.tmp 19), none⟩]))
 (.cond (.tmp 18) (.seq (.keep [1] [] (.reg [⟨(some 20), .mov (.tmp 1), none⟩, ⟨(some 21), .bin .geq (.tmp 20) (.val (.int .i64 0)), none⟩, ⟨(some 22), .mov (.tmp 21), none⟩, ⟨(some 23), .mov (.tmp 1), (some (22, true))⟩, ⟨(some 24), .bin .leq (.tmp 23) (.val (.int .i64 4294967295)), (some (22, true))⟩, ⟨(some 25), .pick (.tmp 22) (.tmp 24) (.val (.bool false)), none⟩, ⟨(some 4), .mov (.tmp 25), none⟩]))
 .ret) (.seq (.keep [1, 5] [] (.reg [⟨(some 27), .bin .eql (.tmp 5) (.val (.int .i64 3)), none⟩, ⟨(some 26), .mov (.tmp 27), none⟩]))
 (.cond (.tmp 26) (.seq (.keep [1] [] (.reg [⟨(some 28), .mov (.tmp 1), none⟩, ⟨(some 29), .bin .eql (.tmp 28) (.val (.int .i64 8)), none⟩, ⟨(some 30), .mov (.tmp 29), none⟩, ⟨(some 31), .mov (.tmp 1), (some (30, false))⟩, ⟨(some 32), .bin .eql (.tmp 31) (.val (.int .i64 16)), (some (30, false))⟩, ⟨(some 33), .pick (.tmp 30) (.val (.bool true)) (.tmp 32), none⟩, ⟨(some 34), .mov (.tmp 33), none⟩, ⟨(some 35), .mov (.tmp 1), (some (34, false))⟩, ⟨(some 36), .bin .eql (.tmp 35) (.val (.int .i64 32)), (some (34, false))⟩, ⟨(some 37), .pick (.tmp 34) (.val (.bool true)) (.tmp 36), none⟩, ⟨(some 4), .mov (.tmp 37), none⟩]))
 .ret) (.seq (.keep [1, 5] [] (.reg [⟨(some 39), .bin .eql (.tmp 5) (.val (.int .i64 4)), none⟩, ⟨(some 38), .mov (.tmp 39), none⟩]))
 (.cond (.tmp 38) (.seq (.keep [1] [] (.reg [⟨(some 40), .mov (.tmp 1), none⟩, ⟨(some 41), .bin .geq (.tmp 40) (.val (.int .i64 1)), none⟩, ⟨(some 42), .mov (.tmp 41), none⟩, ⟨(some 43), .mov (.tmp 1), (some (42, true))⟩, ⟨(some 44), .bin .leq (.tmp 43) (.val (.int .i64 1048576)), (some (42, true))⟩, ⟨(some 45), .pick (.tmp 42) (.tmp 44) (.val (.bool false)), none⟩, ⟨(some 4), .mov (.tmp 45), none⟩]))
 .ret) (.seq (.keep [1, 5] [] (.reg [⟨(some 47), .bin .eql (.tmp 5) (.val (.int .i64 5)), none⟩, ⟨(some 46), .mov (.tmp 47), none⟩]))
 (.cond (.tmp 46) (.seq (.keep [1] [] (.reg [⟨(some 48), .mov (.tmp 1), none⟩, ⟨(some 49), .bin .geq (.tmp 48) (.val (.int .i64 0)), none⟩, ⟨(some 50), .mov (.tmp 49), none⟩, ⟨(some 51), .mov (.tmp 1), (some (50, true))⟩, ⟨(some 52), .bin .leq (.tmp 51) (.val (.int .i64 31)), (some (50, true))⟩, ⟨(some 53), .pick (.tmp 50) (.tmp 52) (.val (.bool false)), none⟩, ⟨(some 4), .mov (.tmp 53), none⟩]))
 .ret) (.seq (.keep [1, 5] [] (.reg [⟨(some 55), .bin .eql (.tmp 5) (.val (.int .i64 6)), none⟩, ⟨(some 54), .mov (.tmp 55), none⟩]))
 (.cond (.tmp 54) (.seq (.keep [1] [] (.reg [⟨(some 56), .mov (.tmp 1), none⟩, ⟨(some 57), .bin .geq (.tmp 56) (.val (.int .i64 0)), none⟩, ⟨(some 58), .mov (.tmp 57), none⟩, ⟨(some 59), .mov (.tmp 1), (some (58, true))⟩, ⟨(some 60), .bin .leq (.tmp 59) (.val (.int .i64 15)), (some (58, true))⟩, ⟨(some 61), .pick (.tmp 58) (.tmp 60) (.val (.bool false)), none⟩, ⟨(some 4), .mov (.tmp 61), none⟩]))
 .ret) (.seq (.keep [1, 5] [] (.reg [⟨(some 63), .bin .eql (.tmp 5) (.val (.int .i64 7)), none⟩, ⟨(some 62), .mov (.tmp 63), none⟩]))
 (.cond (.tmp 62) (.seq (.keep [1] [] (.reg [⟨(some 64), .mov (.tmp 1), none⟩, ⟨(some 65), .call 36 [(.tmp 64)], none⟩, ⟨(some 66), .bin .neq (.tmp 65) (.val (.str ⟨#[]⟩)), none⟩, ⟨(some 4), .mov (.tmp 66), none⟩]))
 .ret) .skip))))))))))))))))))
 (.seq (.keep [1] [] (.reg [⟨(some 67), .mov (.tmp 1), none⟩, ⟨(some 68), .call 37 [(.tmp 67)], none⟩, ⟨(some 69), .bin .neq (.tmp 68) (.val (.str ⟨#[]⟩)), none⟩, ⟨(some 4), .mov (.tmp 69), none⟩]))
 .ret))) }
def h36 : Hints := ⟨[], [(0, [0], []), (1, [0], []), (2, [], []), (3, [0], [])], []⟩
def a36 : AFn := { n := 9, np := 1, res := [.tmp 2], body :=
 (.seq (.keep [0] [] (.reg [⟨(some 2), .mov (.val (.str ⟨#[]⟩)), none⟩]))
 (.seq (.seq (.keep [0] [] (.reg [⟨(some 3), .mov (.tmp 0), none⟩, ⟨(some 4), .call 62 [(.tmp 3)], none⟩, ⟨(some 5), .un .not (.tmp 4), none⟩]))
 (.cond (.tmp 5) (.seq (.keep [] [] (.reg [⟨(some 2), .mov (.val (.str ⟨#[]⟩)), none⟩]))
 .ret) .skip))
 (.seq (.keep [0] [] (.reg [⟨(some 6), .mov (.tmp 0), none⟩, ⟨(some 7), .iaddrA 20 1 (.val (.ptr 2 0)) (.tmp 6), none⟩, ⟨(some 8), .load none (.tmp 7), none⟩, ⟨(some 2), .mov (.tmp 8), none⟩]))
 .ret))) }
def h37 : Hints := ⟨[], [(0, [0], []), (1, [0], []), (2, [3], []), (3, [], []), (4, [3], []), (5, [], []), (6, [3], []), (7, [], []), (8, [], [])], []⟩
def a37 : AFn := { n := 10, np := 1, res := [.tmp 2], body :=
 (.seq (.keep [0] [] (.reg [⟨(some 2), .mov (.val (.str ⟨#[]⟩)), none⟩]))
 (.seq (.seq (.keep [0] [] (.reg [⟨(some 3), .mov (.tmp 0), none⟩]))
 (.block 0 (.seq (.keep [3] [] (.reg [⟨(some 5), .bin .eql (.tmp 3) (.val (.int .i64 1)), none⟩, ⟨(some 4), .mov (.tmp 5), none⟩]))
 (.cond (.tmp 4) (.seq (.keep [] [] (.reg [⟨(some 2), .mov (.val (.str ⟨#[110, 101, 103]⟩)), none⟩]))
 .ret) (.seq (.keep [3] [] (.reg [⟨(some 7), .bin .eql (.tmp 3) (.val (.int .i64 2)), none⟩, ⟨(some 6), .mov (.tmp 7), none⟩]))
 (.cond (.tmp 6) (.seq (.keep [] [] (.reg [⟨(some 2), .mov (.val (.str ⟨#[110, 111, 116]⟩)), none⟩]))
 .ret) (.seq (.keep [3] [] (.reg [⟨(some 9), .bin .eql (.tmp 3) (.val (.int .i64 3)), none⟩, ⟨(some 8), .mov (.tmp 9), none⟩]))
 (.cond (.tmp 8) (.seq (.keep [] [] (.reg [⟨(some 2), .mov (.val (.str ⟨#[122, 101, 114, 111]⟩)), none⟩]))
 .ret) .skip))))))))
 (.seq (.keep [] [] (.reg [⟨(some 2), .mov (.val (.str ⟨#[]⟩)), none⟩]))
 .ret))) }
def h41 : Hints := ⟨[], [(0, [0, 1], []), (1, [0, 1], []), (2, [0, 1, 5], []), (4, [0, 1, 5], []), (5, [5], []), (3, [0, 1, 5], []), (6, [], [])], []⟩
def a41_B1 : AC := (.seq (.seq (.keep [0, 1, 5] [] (.reg [⟨(some 6), .mov (.tmp 1), none⟩, ⟨(some 7), .mov (.tmp 5), none⟩, ⟨(some 8), .callv (.tmp 6) [(.tmp 7)], none⟩, ⟨(some 9), .bin .neq (.tmp 8) (.val (.str ⟨#[]⟩)), none⟩]))
 (.cond (.tmp 9) .skip (.exit 0)))
 (.seq (.block 1 (.seq (.keep [0, 1, 5] [] (.reg [⟨(some 12), .mov (.tmp 1), none⟩, ⟨(some 13), .mov (.tmp 5), none⟩, ⟨(some 14), .callv (.tmp 12) [(.tmp 13)], none⟩, ⟨(some 15), .mov (.tmp 0), none⟩, ⟨(some 16), .bin .eql (.tmp 14) (.tmp 15), none⟩]))
 (.cond (.tmp 16) (.seq (.keep [5] [] (.reg [⟨(some 17), .mov (.tmp 5), none⟩, ⟨(some 4), .mov (.tmp 17), none⟩]))
 .ret) .skip)))
 (.keep [0, 1, 5] [] (.reg [⟨(some 10), .mov (.tmp 5), none⟩, ⟨(some 11), .bin .add (.tmp 10) (.val (.int .i64 1)), none⟩, ⟨(some 5), .mov (.tmp 11), none⟩]))))
def a41_L1 : AC := .loop a41_B1
theorem a41_L1_step (call : Caller) (again : AC → St → Option (Ex × St)) (s : St) : codeEv call again a41_L1 s = match codeEv call again a41_B1 s with | some (.norm, s1) => again a41_L1 s1 | r => r := rfl
def a41 : AFn := { n := 18, np := 2, res := [.tmp 4], body :=
 (.seq (.keep [0, 1] [] (.reg [⟨(some 4), .mov (.val (.int .i64 0)), none⟩]))
 (.seq (.seq (.keep [0, 1] [] (.reg [⟨(some 5), .mov (.val (.int .i64 1)), none⟩]))
 (.block 0 a41_L1))
 (.seq (.keep [] [] (.reg [⟨(some 4), .mov (.val (.int .i64 0)), none⟩]))
 .ret))) }
def h43 : Hints := ⟨[], [(0, [0], []), (1, [0], []), (2, [0, 3], []), (3, [0, 3, 4], []), (5, [0, 3, 4], []), (6, [0, 3, 4], []), (7, [0, 3, 4], []), (4, [0, 3, 4], []), (8, [3], [])], []⟩
def a43_B1 : AC := (.seq (.seq (.keep [0, 3, 4] [] (.reg [⟨(some 6), .mov (.tmp 4), none⟩, ⟨(some 7), .mov (.tmp 0), none⟩, ⟨(some 8), .lenS (.tmp 7), none⟩, ⟨(some 9), .bin .lss (.tmp 6) (.tmp 8), none⟩]))
 (.cond (.tmp 9) .skip (.exit 0)))
 (.seq (.block 1 (.seq (.keep [0, 3, 4] [] (.reg [⟨(some 12), .mov (.tmp 0), none⟩, ⟨(some 13), .mov (.tmp 4), none⟩, ⟨(some 14), .idxS (.tmp 12) (.tmp 13), none⟩, ⟨(some 15), .bin .eql (.tmp 14) (.val (.int .u8 32)), none⟩]))
 (.cond (.tmp 15) (.keep [0, 3, 4] [] (.reg [⟨(some 16), .mov (.tmp 3), none⟩, ⟨(some 17), .mkslc 1 1 [(.str ⟨#[]⟩)] [(0, (.val (.str ⟨#[]⟩)))], none⟩, ⟨(some 18), .app none 1 16 (.tmp 16) (.tmp 17), none⟩, ⟨(some 3), .mov (.tmp 18), none⟩])) (.keep [0, 3, 4] [] (.dreg [(false, ⟨(some 19), .mov (.tmp 3), none⟩, false), (false, ⟨(some 20), .mov (.tmp 3), none⟩, false), (false, ⟨(some 21), .lenL (.tmp 20), none⟩, false), (false, ⟨(some 22), .bin .sub (.tmp 21) (.val (.int .i64 1)), none⟩, false), (false, ⟨(some 23), .mov (.tmp 3), none⟩, false), (false, ⟨(some 24), .mov (.tmp 3), none⟩, false), (false, ⟨(some 25), .lenL (.tmp 24), none⟩, false), (false, ⟨(some 26), .bin .sub (.tmp 25) (.val (.int .i64 1)), none⟩, false), (false, ⟨(some 27), .iaddrL 1 (.tmp 23) (.tmp 26), none⟩, false), (false, ⟨(some 28), .load none (.tmp 27), none⟩, false), (false, ⟨(some 29), .mov (.tmp 0), none⟩, false), (false, ⟨(some 30), .mov (.tmp 4), none⟩, false), (false, ⟨(some 31), .mov (.tmp 4), none⟩, false), (false, ⟨(some 32), .bin .add (.tmp 31) (.val (.int .i64 1)), none⟩, false), (false, ⟨(some 33), .slcS (.tmp 29) (some (.tmp 30)) (some (.tmp 32)), none⟩, false), (false, ⟨(some 34), .bin .add (.tmp 28) (.tmp 33), none⟩, false), (false, ⟨(some 35), .iaddrL 1 (.tmp 19) (.tmp 22), none⟩, false), (false, ⟨none, .store 1 (.tmp 35) (.tmp 34), none⟩, false)])))))
 (.keep [0, 3, 4] [] (.reg [⟨(some 10), .mov (.tmp 4), none⟩, ⟨(some 11), .bin .add (.tmp 10) (.val (.int .i64 1)), none⟩, ⟨(some 4), .mov (.tmp 11), none⟩]))))
def a43_L1 : AC := .loop a43_B1
theorem a43_L1_step (call : Caller) (again : AC → St → Option (Ex × St)) (s : St) : codeEv call again a43_L1 s = match codeEv call again a43_B1 s with | some (.norm, s1) => again a43_L1 s1 | r => r := rfl
def a43 : AFn := { n := 37, np := 1, res := [.tmp 2], body :=
 (.seq (.keep [0] [] (.reg [⟨(some 2), .mov (.val .nils), none⟩]))
 (.seq (.keep [0] [] (.reg [⟨(some 5), .mkslc 1 1 [(.str ⟨#[]⟩)] [(0, (.val (.str ⟨#[]⟩)))], none⟩, ⟨(some 3), .mov (.tmp 5), none⟩]))
 (.seq (.seq (.keep [0, 3] [] (.reg [⟨(some 4), .mov (.val (.int .i64 0)), none⟩]))
 (.block 0 a43_L1))
 (.seq (.keep [3] [] (.reg [⟨(some 36), .mov (.tmp 3), none⟩, ⟨(some 2), .mov (.tmp 36), none⟩]))
 .ret)))) }
def h44 : Hints := ⟨[2], [(0, [0], []), (1, [0, 2], [2]), (2, [2, 3], [2]), (3, [2], [2]), (4, [2, 3], [2]), (5, [2, 3], [2]), (6, [2, 3], [2]), (7, [2, 3], [2]), (8, [2, 3], [2]), (9, [2, 3], [2]), (10, [2, 3], [2]), (11, [2, 3], [2]), (12, [2, 3], [2]), (13, [2], [2]), (14, [2, 3], [2]), (15, [2, 3], [2]), (16, [2], [2]), (17, [2, 3], [2]), (18, [2], [2]), (19, [2, 3], [2]), (20, [2], [2]), (21, [2, 3], [2]), (22, [2], [2]), (23, [2, 3], [2]), (24, [2], [2]), (25, [2, 3], [2]), (26, [2], [2]), (27, [2, 3], [2]), (28, [2, 3], [2]), (29, [2], [2]), (30, [2, 3], [2]), (31, [2], [2]), (32, [2], [2])], []⟩
def a44 : AFn := { n := 45, np := 1, res := [.cell 2 (some 3)], body :=
 (.seq (.keep [0] [] (.reg [⟨(some 2), .alloc (some 2) [(.int .i64 0), (.int .i64 0), (.int .i64 0)], none⟩]))
 (.seq (.seq (.keep [0, 2] [2] (.reg [⟨(some 3), .mov (.tmp 0), none⟩]))
 (.block 0 (.seq (.keep [2, 3] [2] (.reg [⟨(some 5), .bin .eql (.tmp 3) (.val (.int .i64 2)), none⟩, ⟨(some 4), .mov (.tmp 5), none⟩]))
 (.cond (.tmp 4) (.seq (.keep [2] [2] (.reg [⟨(some 6), .build [(.int .i64 0), (.int .i64 0), (.int .i64 0)] [(0, 1, (.val (.int .i64 1)))], none⟩, ⟨none, .store 3 (.tmp 2) (.tmp 6), none⟩]))
 .ret) (.seq (.seq (.keep [2, 3] [2] (.reg [⟨(some 8), .bin .eql (.tmp 3) (.val (.int .i64 4)), none⟩, ⟨(some 7), .mov (.tmp 8), none⟩]))
 (.cond (.tmp 7) .skip (.seq (.keep [2, 3] [2] (.reg [⟨(some 9), .bin .eql (.tmp 3) (.val (.int .i64 8)), none⟩, ⟨(some 7), .mov (.tmp 9), none⟩]))
 (.cond (.tmp 7) .skip (.seq (.keep [2, 3] [2] (.reg [⟨(some 10), .bin .eql (.tmp 3) (.val (.int .i64 10)), none⟩, ⟨(some 7), .mov (.tmp 10), none⟩]))
 (.cond (.tmp 7) .skip (.seq (.keep [2, 3] [2] (.reg [⟨(some 11), .bin .eql (.tmp 3) (.val (.int .i64 11)), none⟩, ⟨(some 7), .mov (.tmp 11), none⟩]))
 (.cond (.tmp 7) .skip (.seq (.keep [2, 3] [2] (.reg [⟨(some 12), .bin .eql (.tmp 3) (.val (.int .i64 15)), none⟩, ⟨(some 7), .mov (.tmp 12), none⟩]))
 (.cond (.tmp 7) .skip (.seq (.keep [2, 3] [2] (.reg [⟨(some 13), .bin .eql (.tmp 3) (.val (.int .i64 16)), none⟩, ⟨(some 7), .mov (.tmp 13), none⟩]))
 (.cond (.tmp 7) .skip (.seq (.keep [2, 3] [2] (.reg [⟨(some 14), .bin .eql (.tmp 3) (.val (.int .i64 17)), none⟩, ⟨(some 7), .mov (.tmp 14), none⟩]))
 (.cond (.tmp 7) .skip (.seq (.keep [2, 3] [2] (.reg [⟨(some 15), .bin .eql (.tmp 3) (.val (.int .i64 23)), none⟩, ⟨(some 7), .mov (.tmp 15), none⟩]))
 (.cond (.tmp 7) .skip (.keep [2, 3] [2] (.reg [⟨(some 16), .bin .eql (.tmp 3) (.val (.int .i64 24)), none⟩, ⟨(some 7), .mov (.tmp 16), none⟩]))))))))))))))))))
 (.cond (.tmp 7) (.seq (.keep [2] [2] (.reg [⟨(some 17), .build [(.int .i64 0), (.int .i64 0), (.int .i64 0)] [(0, 1, (.val (.int .i64 2)))], none⟩, ⟨none, .store 3 (.tmp 2) (.tmp 17), none⟩]))
 .ret) (.seq (.seq (.keep [2, 3] [2] (.reg [⟨(some 19), .bin .eql (.tmp 3) (.val (.int .i64 5)), none⟩, ⟨(some 18), .mov (.tmp 19), none⟩]))
 (.cond (.tmp 18) .skip (.keep [2, 3] [2] (.reg [⟨(some 20), .bin .eql (.tmp 3) (.val (.int .i64 9)), none⟩, ⟨(some 18), .mov (.tmp 20), none⟩]))))
 (.cond (.tmp 18) (.seq (.keep [2] [2] (.reg [⟨(some 21), .build [(.int .i64 0), (.int .i64 0), (.int .i64 0)] [(0, 1, (.val (.int .i64 2))), (1, 1, (.val (.int .i64 4)))], none⟩, ⟨none, .store 3 (.tmp 2) (.tmp 21), none⟩]))
 .ret) (.seq (.keep [2, 3] [2] (.reg [⟨(some 23), .bin .eql (.tmp 3) (.val (.int .i64 6)), none⟩, ⟨(some 22), .mov (.tmp 23), none⟩]))
 (.cond (.tmp 22) (.seq (.keep [2] [2] (.reg [⟨(some 24), .build [(.int .i64 0), (.int .i64 0), (.int .i64 0)] [(0, 1, (.val (.int .i64 2))), (1, 1, (.val (.int .i64 3)))], none⟩, ⟨none, .store 3 (.tmp 2) (.tmp 24), none⟩]))
 .ret) (.seq (.keep [2, 3] [2] (.reg [⟨(some 26), .bin .eql (.tmp 3) (.val (.int .i64 7)), none⟩, ⟨(some 25), .mov (.tmp 26), none⟩]))
 (.cond (.tmp 25) (.seq (.keep [2] [2] (.reg [⟨(some 27), .build [(.int .i64 0), (.int .i64 0), (.int .i64 0)] [(0, 1, (.val (.int .i64 2))), (1, 1, (.val (.int .i64 3))), (2, 1, (.val (.int .i64 4)))], none⟩, ⟨none, .store 3 (.tmp 2) (.tmp 27), none⟩]))
 .ret) (.seq (.keep [2, 3] [2] (.reg [⟨(some 29), .bin .eql (.tmp 3) (.val (.int .i64 12)), none⟩, ⟨(some 28), .mov (.tmp 29), none⟩]))
 (.cond (.tmp 28) (.seq (.keep [2] [2] (.reg [⟨(some 30), .build [(.int .i64 0), (.int .i64 0), (.int .i64 0)] [(0, 1, (.val (.int .i64 5)))], none⟩, ⟨none, .store 3 (.tmp 2) (.tmp 30), none⟩]))
 .ret) (.seq (.keep [2, 3] [2] (.reg [⟨(some 32), .bin .eql (.tmp 3) (.val (.int .i64 13)), none⟩, ⟨(some 31), .mov (.tmp 32), none⟩]))
 (.cond (.tmp 31) (.seq (.keep [2] [2] (.reg [⟨(some 33), .build [(.int .i64 0), (.int .i64 0), (.int .i64 0)] [(0, 1, (.val (.int .i64 6)))], none⟩, ⟨none, .store 3 (.tmp 2) (.tmp 33), none⟩]))
 .ret) (.seq (.keep [2, 3] [2] (.reg [⟨(some 35), .bin .eql (.tmp 3) (.val (.int .i64 14)), none⟩, ⟨(some 34), .mov (.tmp 35), none⟩]))
 (.cond (.tmp 34) (.seq (.keep [2] [2] (.reg [⟨(some 36), .build [(.int .i64 0), (.int .i64 0), (.int .i64 0)] [(0, 1, (.val (.int .i64 4)))], none⟩, ⟨none, .store 3 (.tmp 2) (.tmp 36), none⟩]))
 .ret) (.seq (.seq (.keep [2, 3] [2] (.reg [⟨(some 38), .bin .eql (.tmp 3) (.val (.int .i64 19)), none⟩, ⟨(some 37), .mov (.tmp 38), none⟩]))
 (.cond (.tmp 37) .skip (.keep [2, 3] [2] (.reg [⟨(some 39), .bin .eql (.tmp 3) (.val (.int .i64 20)), none⟩, ⟨(some 37), .mov (.tmp 39), none⟩]))))
 (.cond (.tmp 37) (.seq (.keep [2] [2] (.reg [⟨(some 40), .build [(.int .i64 0), (.int .i64 0), (.int .i64 0)] [(0, 1, (.val (.int .i64 7)))], none⟩, ⟨none, .store 3 (.tmp 2) (.tmp 40), none⟩]))
 .ret) (.seq (.keep [2, 3] [2] (.reg [⟨(some 42), .bin .eql (.tmp 3) (.val (.int .i64 21)), none⟩, ⟨(some 41), .mov (.tmp 42), none⟩]))
 (.cond (.tmp 41) (.seq (.keep [2] [2] (.reg [⟨(some 43), .build [(.int .i64 0), (.int .i64 0), (.int .i64 0)] [(0, 1, (.val (.int .i64 8)))], none⟩, ⟨none, .store 3 (.tmp 2) (.tmp 43), none⟩]))
 .ret) .skip))))))))))))))))))))))
 (.seq (.keep [2] [2] (.reg [⟨(some 44), .build [(.int .i64 0), (.int .i64 0), (.int .i64 0)] [], none⟩, ⟨none, .store 3 (.tmp 2) (.tmp 44), none⟩]))
 .ret))) }
def h45 : Hints := ⟨[], [(0, [0, 1], []), (1, [0, 1], []), (2, [0, 1, 5], []), (4, [0, 1, 5], []), (5, [5], []), (3, [0, 1, 5], []), (6, [0, 1], []), (7, [], []), (8, [1], []), (9, [1, 6], []), (10, [1, 6, 7], []), (12, [1, 6, 7], []), (13, [], []), (14, [1, 6, 7], []), (11, [1, 6, 7], []), (15, [6], [])], []⟩
def a45_B1 : AC := (.seq (.seq (.keep [1, 6, 7] [] (.reg [⟨(some 56), .mov (.tmp 7), none⟩, ⟨(some 57), .mov (.tmp 1), none⟩, ⟨(some 58), .lenS (.tmp 57), none⟩, ⟨(some 59), .bin .lss (.tmp 56) (.tmp 58), none⟩]))
 (.cond (.tmp 59) .skip (.exit 2)))
 (.seq (.block 3 (.seq (.seq (.keep [1, 6, 7] [] (.reg [⟨(some 62), .mov (.tmp 1), none⟩, ⟨(some 63), .mov (.tmp 7), none⟩, ⟨(some 64), .idxS (.tmp 62) (.tmp 63), none⟩, ⟨(some 65), .bin .lss (.tmp 64) (.val (.int .u8 48)), none⟩, ⟨(some 66), .mov (.tmp 65), none⟩, ⟨(some 67), .mov (.tmp 1), (some (66, false))⟩, ⟨(some 68), .mov (.tmp 7), (some (66, false))⟩, ⟨(some 69), .idxS (.tmp 67) (.tmp 68), (some (66, false))⟩, ⟨(some 70), .bin .gtr (.tmp 69) (.val (.int .u8 57)), (some (66, false))⟩, ⟨(some 71), .pick (.tmp 66) (.val (.bool true)) (.tmp 70), none⟩]))
 (.cond (.tmp 71) (.seq (.keep [] [] (.reg [⟨(some 4), .mov (.val (.int .i64 (-1))), none⟩]))
 .ret) .skip))
 (.keep [1, 6, 7] [] (.reg [⟨(some 72), .mov (.tmp 6), none⟩, ⟨(some 73), .bin .mul (.val (.int .i64 10)) (.tmp 72), none⟩, ⟨(some 74), .mov (.tmp 1), none⟩, ⟨(some 75), .mov (.tmp 7), none⟩, ⟨(some 76), .idxS (.tmp 74) (.tmp 75), none⟩, ⟨(some 77), .conv .i64 (.tmp 76), none⟩, ⟨(some 78), .bin .add (.tmp 73) (.tmp 77), none⟩, ⟨(some 79), .bin .sub (.tmp 78) (.val (.int .i64 48)), none⟩, ⟨(some 6), .mov (.tmp 79), none⟩]))))
 (.keep [1, 6, 7] [] (.reg [⟨(some 60), .mov (.tmp 7), none⟩, ⟨(some 61), .bin .add (.tmp 60) (.val (.int .i64 1)), none⟩, ⟨(some 7), .mov (.tmp 61), none⟩]))))
def a45_L1 : AC := .loop a45_B1
theorem a45_L1_step (call : Caller) (again : AC → St → Option (Ex × St)) (s : St) : codeEv call again a45_L1 s = match codeEv call again a45_B1 s with | some (.norm, s1) => again a45_L1 s1 | r => r := rfl
def a45_B2 : AC := (.seq (.seq (.keep [0, 1, 5] [] (.reg [⟨(some 8), .mov (.tmp 5), none⟩, ⟨(some 9), .bin .lss (.tmp 8) (.val (.int .i64 20)), none⟩]))
 (.cond (.tmp 9) .skip (.exit 0)))
 (.seq (.block 1 (.seq (.keep [0, 1, 5] [] (.reg [⟨(some 12), .mov (.tmp 0), none⟩, ⟨(some 13), .bin .eql (.tmp 12) (.val (.int .i64 5)), none⟩, ⟨(some 14), .mov (.tmp 13), none⟩, ⟨(some 15), .mov (.tmp 5), (some (14, true))⟩, ⟨(some 16), .call 47 [(.tmp 15)], (some (14, true))⟩, ⟨(some 17), .mov (.tmp 1), (some (14, true))⟩, ⟨(some 18), .bin .eql (.tmp 16) (.tmp 17), (some (14, true))⟩, ⟨(some 19), .pick (.tmp 14) (.tmp 18) (.val (.bool false)), none⟩, ⟨(some 20), .mov (.tmp 19), none⟩, ⟨(some 21), .mov (.tmp 0), (some (20, false))⟩, ⟨(some 22), .bin .eql (.tmp 21) (.val (.int .i64 6)), (some (20, false))⟩, ⟨(some 23), .mov (.tmp 22), (some (20, false))⟩, ⟨(some 24), .mov (.tmp 5), (some (23, true))⟩, ⟨(some 25), .call 48 [(.tmp 24)], (some (23, true))⟩, ⟨(some 26), .mov (.tmp 1), (some (23, true))⟩, ⟨(some 27), .bin .eql (.tmp 25) (.tmp 26), (some (23, true))⟩, ⟨(some 28), .pick (.tmp 23) (.tmp 27) (.val (.bool false)), (some (20, false))⟩, ⟨(some 29), .pick (.tmp 20) (.val (.bool true)) (.tmp 28), none⟩]))
 (.cond (.tmp 29) (.seq (.keep [5] [] (.reg [⟨(some 30), .mov (.tmp 5), none⟩, ⟨(some 4), .mov (.tmp 30), none⟩]))
 .ret) .skip)))
 (.keep [0, 1, 5] [] (.reg [⟨(some 10), .mov (.tmp 5), none⟩, ⟨(some 11), .bin .add (.tmp 10) (.val (.int .i64 1)), none⟩, ⟨(some 5), .mov (.tmp 11), none⟩]))))
def a45_L2 : AC := .loop a45_B2
theorem a45_L2_step (call : Caller) (again : AC → St → Option (Ex × St)) (s : St) : codeEv call again a45_L2 s = match codeEv call again a45_B2 s with | some (.norm, s1) => again a45_L2 s1 | r => r := rfl
def a45 : AFn := { n := 81, np := 2, res := [.tmp 4], body :=
 (.seq (.keep [0, 1] [] (.reg [⟨(some 4), .mov (.val (.int .i64 0)), none⟩]))
 (.seq (.seq (.keep [0, 1] [] (.reg [⟨(some 5), .mov (.val (.int .i64 1)), none⟩]))
 (.block 0 a45_L2))
 (.seq (.seq (.keep [0, 1] [] (.reg [⟨(some 31), .mov (.tmp 1), none⟩, ⟨(some 32), .bin .eql (.tmp 31) (.val (.str ⟨#[]⟩)), none⟩, ⟨(some 33), .mov (.tmp 32), none⟩, ⟨(some 34), .mov (.tmp 0), (some (33, false))⟩, ⟨(some 35), .bin .eql (.tmp 34) (.val (.int .i64 5)), (some (33, false))⟩, ⟨(some 36), .pick (.tmp 33) (.val (.bool true)) (.tmp 35), none⟩, ⟨(some 37), .mov (.tmp 36), none⟩, ⟨(some 38), .mov (.tmp 0), (some (37, false))⟩, ⟨(some 39), .bin .eql (.tmp 38) (.val (.int .i64 6)), (some (37, false))⟩, ⟨(some 40), .pick (.tmp 37) (.val (.bool true)) (.tmp 39), none⟩, ⟨(some 41), .mov (.tmp 40), none⟩, ⟨(some 42), .mov (.tmp 1), (some (41, false))⟩, ⟨(some 43), .lenS (.tmp 42), (some (41, false))⟩, ⟨(some 44), .bin .gtr (.tmp 43) (.val (.int .i64 12)), (some (41, false))⟩, ⟨(some 45), .pick (.tmp 41) (.val (.bool true)) (.tmp 44), none⟩, ⟨(some 46), .mov (.tmp 45), none⟩, ⟨(some 47), .mov (.tmp 1), (some (46, false))⟩, ⟨(some 48), .lenS (.tmp 47), (some (46, false))⟩, ⟨(some 49), .bin .gtr (.tmp 48) (.val (.int .i64 1)), (some (46, false))⟩, ⟨(some 50), .mov (.tmp 49), (some (46, false))⟩, ⟨(some 51), .mov (.tmp 1), (some (50, true))⟩, ⟨(some 52), .idxS (.tmp 51) (.val (.int .i64 0)), (some (50, true))⟩, ⟨(some 53), .bin .eql (.tmp 52) (.val (.int .u8 48)), (some (50, true))⟩, ⟨(some 54), .pick (.tmp 50) (.tmp 53) (.val (.bool false)), (some (46, false))⟩, ⟨(some 55), .pick (.tmp 46) (.val (.bool true)) (.tmp 54), none⟩]))
 (.cond (.tmp 55) (.seq (.keep [] [] (.reg [⟨(some 4), .mov (.val (.int .i64 (-1))), none⟩]))
 .ret) .skip))
 (.seq (.keep [1] [] (.reg [⟨(some 6), .mov (.val (.int .i64 0)), none⟩]))
 (.seq (.seq (.keep [1, 6] [] (.reg [⟨(some 7), .mov (.val (.int .i64 0)), none⟩]))
 (.block 2 a45_L1))
 (.seq (.keep [6] [] (.reg [⟨(some 80), .mov (.tmp 6), none⟩, ⟨(some 4), .mov (.tmp 80), none⟩]))
 .ret)))))) }
def h46 : Hints := ⟨[], [(0, [0, 1], []), (1, [0, 1], []), (2, [1, 5], []), (3, [1], []), (4, [1, 5], []), (5, [1], []), (6, [1, 5], []), (7, [1], []), (8, [1, 5], []), (9, [1], []), (10, [1, 5], []), (11, [1], []), (12, [1, 5], []), (13, [1], []), (14, [1, 5], []), (15, [1], []), (16, [1, 5], []), (17, [1], []), (18, [1], [])], []⟩
def a46 : AFn := { n := 70, np := 2, res := [.tmp 4], body :=
 (.seq (.keep [0, 1] [] (.reg [⟨(some 4), .mov (.val (.bool false)), none⟩]))
 (.seq (.seq (.keep [0, 1] [] (.reg [⟨(some 5), .mov (.tmp 0), none⟩]))
 (.block 0 (.seq (.keep [1, 5] [] (.reg [⟨(some 7), .bin .eql (.tmp 5) (.val (.int .i64 1)), none⟩, ⟨(some 6), .mov (.tmp 7), none⟩]))
 (.cond (.tmp 6) (.seq (.keep [1] [] (.reg [⟨(some 8), .mov (.tmp 1), none⟩, ⟨(some 9), .bin .geq (.tmp 8) (.val (.int .i64 0)), none⟩, ⟨(some 10), .mov (.tmp 9), none⟩, ⟨(some 11), .mov (.tmp 1), (some (10, true))⟩, ⟨(some 12), .bin .lss (.tmp 11) (.val (.int .i64 4294967296)), (some (10, true))⟩, ⟨(some 13), .pick (.tmp 10) (.tmp 12) (.val (.bool false)), none⟩, ⟨(some 4), .mov (.tmp 13), none⟩]))
 .ret) (.seq (.keep [1, 5] [] (.reg [⟨(some 15), .bin .eql (.tmp 5) (.val (.int .i64 2)), none⟩, ⟨(some 14), .mov (.tmp 15), none⟩]))
 (.cond (.tmp 14) (.seq (.keep [1] [] (.reg [⟨(some 16), .mov (.tmp 1), none⟩, ⟨(some 17), .bin .geq (.tmp 16) (.val (.int .i64 0)), none⟩, ⟨(some 18), .mov (.tmp 17), none⟩, ⟨(some 19), .mov (.tmp 1), (some (18, true))⟩, ⟨(some 20), .bin .leq (.tmp 19) (.val (.int .i64 1048576)), (some (18, true))⟩, ⟨(some 21), .pick (.tmp 18) (.tmp 20) (.val (.bool false)), none⟩, ⟨(some 4), .mov (.tmp 21), none⟩]))
 .ret) (.seq (.keep [1, 5] [] (.reg [⟨(some 23), .bin .eql (.tmp 5) (.val (.int .i64 3)), none⟩, ⟨(some 22), .mov (.tmp 23), none⟩]))
 (.cond (.tmp 22) (.seq (.keep [1] [] (.reg [⟨(some 24), .mov (.tmp 1), none⟩, ⟨(some 25), .bin .geq (.tmp 24) (.val (.int .i64 1)), none⟩, ⟨(some 26), .mov (.tmp 25), none⟩, ⟨(some 27), .mov (.tmp 1), (some (26, true))⟩, ⟨(some 28), .bin .leq (.tmp 27) (.val (.int .i64 1048576)), (some (26, true))⟩, ⟨(some 29), .pick (.tmp 26) (.tmp 28) (.val (.bool false)), none⟩, ⟨(some 4), .mov (.tmp 29), none⟩]))
 .ret) (.seq (.keep [1, 5] [] (.reg [⟨(some 31), .bin .eql (.tmp 5) (.val (.int .i64 4)), none⟩, ⟨(some 30), .mov (.tmp 31), none⟩]))
 (.cond (.tmp 30) (.seq (.keep [1] [] (.reg [⟨(some 32), .mov (.tmp 1), none⟩, ⟨(some 33), .bin .eql (.tmp 32) (.val (.int .i64 8)), none⟩, ⟨(some 34), .mov (.tmp 33), none⟩, ⟨(some 35), .mov (.tmp 1), (some (34, false))⟩, ⟨(some 36), .bin .eql (.tmp 35) (.val (.int .i64 16)), (some (34, false))⟩, ⟨(some 37), .pick (.tmp 34) (.val (.bool true)) (.tmp 36), none⟩, ⟨(some 38), .mov (.tmp 37), none⟩, ⟨(some 39), .mov (.tmp 1), (some (38, false))⟩, ⟨(some 40), .bin .eql (.tmp 39) (.val (.int .i64 32)), (some (38, false))⟩, ⟨(some 41), .pick (.tmp 38) (.val (.bool true)) (.tmp 40), none⟩, ⟨(some 4), .mov (.tmp 41), none⟩]))
 .ret) (.seq (.keep [1, 5] [] (.reg [⟨(some 43), .bin .eql (.tmp 5) (.val (.int .i64 5)), none⟩, ⟨(some 42), .mov (.tmp 43), none⟩]))
 (.cond (.tmp 42) (.seq (.keep [1] [] (.reg [⟨(some 44), .mov (.tmp 1), none⟩, ⟨(some 45), .call 47 [(.tmp 44)], none⟩, ⟨(some 46), .bin .neq (.tmp 45) (.val (.str ⟨#[]⟩)), none⟩, ⟨(some 4), .mov (.tmp 46), none⟩]))
 .ret) (.seq (.keep [1, 5] [] (.reg [⟨(some 48), .bin .eql (.tmp 5) (.val (.int .i64 6)), none⟩, ⟨(some 47), .mov (.tmp 48), none⟩]))
 (.cond (.tmp 47) (.seq (.keep [1] [] (.reg [⟨(some 49), .mov (.tmp 1), none⟩, ⟨(some 50), .call 48 [(.tmp 49)], none⟩, ⟨(some 51), .bin .neq (.tmp 50) (.val (.str ⟨#[]⟩)), none⟩, ⟨(some 4), .mov (.tmp 51), none⟩]))
 .ret) (.seq (.keep [1, 5] [] (.reg [⟨(some 53), .bin .eql (.tmp 5) (.val (.int .i64 7)), none⟩, ⟨(some 52), .mov (.tmp 53), none⟩]))
 (.cond (.tmp 52) (.seq (.keep [1] [] (.reg [⟨(some 54), .mov (.tmp 1), none⟩, ⟨(some 55), .bin .geq (.tmp 54) (.val (.int .i64 0)), none⟩, ⟨(some 56), .mov (.tmp 55), none⟩, ⟨(some 57), .mov (.tmp 1), (some (56, true))⟩, ⟨(some 58), .bin .leq (.tmp 57) (.val (.int .i64 31)), (some (56, true))⟩, ⟨(some 59), .pick (.tmp 56) (.tmp 58) (.val (.bool false)), none⟩, ⟨(some 4), .mov (.tmp 59), none⟩]))
 .ret) (.seq (.keep [1, 5] [] (.reg [⟨(some 61), .bin .eql (.tmp 5) (.val (.int .i64 8)), none⟩, ⟨(some 60), .mov (.tmp 61), none⟩]))
 (.cond (.tmp 60) (.seq (.keep [1] [] (.reg [⟨(some 62), .mov (.tmp 1), none⟩, ⟨(some 63), .bin .geq (.tmp 62) (.val (.int .i64 0)), none⟩, ⟨(some 64), .mov (.tmp 63), none⟩, ⟨(some 65), .mov (.tmp 1), (some (64, true))⟩, ⟨(some 66), .bin .leq (.tmp 65) (.val (.int .i64 15)), (some (64, true))⟩, ⟨(some 67), .pick (.tmp 64) (.tmp 66) (.val (.bool false)), none⟩, ⟨(some 4), .mov (.tmp 67), none⟩]))
 .ret) .skip))))))))))))))))))
 (.seq (.keep [1] [] (.reg [⟨(some 68), .mov (.tmp 1), none⟩, ⟨(some 69), .bin .eql (.tmp 68) (.val (.int .i64 0)), none⟩, ⟨(some 4), .mov (.tmp 69), none⟩]))
 .ret))) }
def h47 : Hints := ⟨[], [(0, [0], []), (1, [0], []), (2, [0, 3], []), (3, [], []), (4, [0, 3], [])], []⟩
def a47 : AFn := { n := 17, np := 1, res := [.tmp 2], body :=
 (.seq (.keep [0] [] (.reg [⟨(some 2), .mov (.val (.str ⟨#[]⟩)), none⟩]))
 (.seq (.keep [0] [] (.reg [⟨(some 4), .mkslc 1 20 [(.str ⟨#[]⟩)] [(0, (.val (.str ⟨#[]⟩))), (1, (.val (.str ⟨#[43]⟩))), (2, (.val (.str ⟨#[45]⟩))), (3, (.val (.str ⟨#[42]⟩))), (4, (.val (.str ⟨#[47]⟩))), (5, (.val (.str ⟨#[37]⟩))), (6, (.val (.str ⟨#[115, 47]⟩))), (7, (.val (.str ⟨#[115, 37]⟩))), (8, (.val (.str ⟨#[38]⟩))), (9, (.val (.str ⟨#[124]⟩))), (10, (.val (.str ⟨#[94]⟩))), (11, (.val (.str ⟨#[60, 60]⟩))), (12, (.val (.str ⟨#[62, 62]⟩))), (13, (.val (.str ⟨#[115, 62, 62]⟩))), (14, (.val (.str ⟨#[61, 61]⟩))), (15, (.val (.str ⟨#[33, 61]⟩))), (16, (.val (.str ⟨#[60]⟩))), (17, (.val (.str ⟨#[60, 61]⟩))), (18, (.val (.str ⟨#[115, 60]⟩))), (19, (.val (.str ⟨#[115, 60, 61]⟩)))], none⟩, ⟨(some 3), .mov (.tmp 4), none⟩]))
 (.seq (.seq (.keep [0, 3] [] (.reg [⟨(some 5), .mov (.tmp 0), none⟩, ⟨(some 6), .bin .lss (.tmp 5) (.val (.int .i64 1)), none⟩, ⟨(some 7), .mov (.tmp 6), none⟩, ⟨(some 8), .mov (.tmp 0), (some (7, false))⟩, ⟨(some 9), .mov (.tmp 3), (some (7, false))⟩, ⟨(some 10), .lenL (.tmp 9), (some (7, false))⟩, ⟨(some 11), .bin .geq (.tmp 8) (.tmp 10), (some (7, false))⟩, ⟨(some 12), .pick (.tmp 7) (.val (.bool true)) (.tmp 11), none⟩]))
 (.cond (.tmp 12) (.seq (.keep [] [] (.reg [⟨(some 2), .mov (.val (.str ⟨#[]⟩)), none⟩]))
 .ret) .skip))
 (.seq (.keep [0, 3] [] (.reg [⟨(some 13), .mov (.tmp 3), none⟩, ⟨(some 14), .mov (.tmp 0), none⟩, ⟨(some 15), .iaddrL 1 (.tmp 13) (.tmp 14), none⟩, ⟨(some 16), .load none (.tmp 15), none⟩, ⟨(some 2), .mov (.tmp 16), none⟩]))
 .ret)))) }
def h48 : Hints := ⟨[], [(0, [0], []), (1, [0], []), (2, [0, 3], []), (3, [], []), (4, [0, 3], [])], []⟩
def a48 : AFn := { n := 17, np := 1, res := [.tmp 2], body :=
 (.seq (.keep [0] [] (.reg [⟨(some 2), .mov (.val (.str ⟨#[]⟩)), none⟩]))
 (.seq (.keep [0] [] (.reg [⟨(some 4), .mkslc 1 4 [(.str ⟨#[]⟩)] [(0, (.val (.str ⟨#[]⟩))), (1, (.val (.str ⟨#[110, 101, 103]⟩))), (2, (.val (.str ⟨#[110, 111, 116]⟩))), (3, (.val (.str ⟨#[122, 101, 114, 111]⟩)))], none⟩, ⟨(some 3), .mov (.tmp 4), none⟩]))
 (.seq (.seq (.keep [0, 3] [] (.reg [⟨(some 5), .mov (.tmp 0), none⟩, ⟨(some 6), .bin .lss (.tmp 5) (.val (.int .i64 1)), none⟩, ⟨(some 7), .mov (.tmp 6), none⟩, ⟨(some 8), .mov (.tmp 0), (some (7, false))⟩, ⟨(some 9), .mov (.tmp 3), (some (7, false))⟩, ⟨(some 10), .lenL (.tmp 9), (some (7, false))⟩, ⟨(some 11), .bin .geq (.tmp 8) (.tmp 10), (some (7, false))⟩, ⟨(some 12), .pick (.tmp 7) (.val (.bool true)) (.tmp 11), none⟩]))
 (.cond (.tmp 12) (.seq (.keep [] [] (.reg [⟨(some 2), .mov (.val (.str ⟨#[]⟩)), none⟩]))
 .ret) .skip))
 (.seq (.keep [0, 3] [] (.reg [⟨(some 13), .mov (.tmp 3), none⟩, ⟨(some 14), .mov (.tmp 0), none⟩, ⟨(some 15), .iaddrL 1 (.tmp 13) (.tmp 14), none⟩, ⟨(some 16), .load none (.tmp 15), none⟩, ⟨(some 2), .mov (.tmp 16), none⟩]))
 .ret)))) }
def h62 : Hints := ⟨[], [(0, [0], []), (1, [0], [])], []⟩
def a62 : AFn := { n := 9, np := 1, res := [.tmp 2], body :=
 (.seq (.keep [0] [] (.reg [⟨(some 2), .mov (.val (.bool false)), none⟩]))
 (.seq (.keep [0] [] (.reg [⟨(some 3), .mov (.tmp 0), none⟩, ⟨(some 4), .bin .geq (.tmp 3) (.val (.int .i64 1)), none⟩, ⟨(some 5), .mov (.tmp 4), none⟩, ⟨(some 6), .mov (.tmp 0), (some (5, true))⟩, ⟨(some 7), .bin .leq (.tmp 6) (.val (.int .i64 19)), (some (5, true))⟩, ⟨(some 8), .pick (.tmp 5) (.tmp 7) (.val (.bool false)), none⟩, ⟨(some 2), .mov (.tmp 8), none⟩]))
 .ret)) }
theorem t3 : trFn Tryd.prog h3 Tryd.f3 = some a3 := by kernel_rfl
theorem t4 : trFn Tryd.prog h4 Tryd.f4 = some a4 := by kernel_rfl
theorem t5 : trFn Tryd.prog h5 Tryd.f5 = some a5 := by kernel_rfl
theorem t8 : trFn Tryd.prog h8 Tryd.f8 = some a8 := by kernel_rfl
theorem t11 : trFn Tryd.prog h11 Tryd.f11 = some a11 := by kernel_rfl
theorem t12 : trFn Tryd.prog h12 Tryd.f12 = some a12 := by kernel_rfl
theorem t13 : trFn Tryd.prog h13 Tryd.f13 = some a13 := by kernel_rfl
theorem t14 : trFn Tryd.prog h14 Tryd.f14 = some a14 := by kernel_rfl
theorem t15 : trFn Tryd.prog h15 Tryd.f15 = some a15 := by kernel_rfl
theorem t16 : trFn Tryd.prog h16 Tryd.f16 = some a16 := by kernel_rfl
theorem t17 : trFn Tryd.prog h17 Tryd.f17 = some a17 := by kernel_rfl
theorem t18 : trFn Tryd.prog h18 Tryd.f18 = some a18 := by kernel_rfl
theorem t19 : trFn Tryd.prog h19 Tryd.f19 = some a19 := by kernel_rfl
theorem t20 : trFn Tryd.prog h20 Tryd.f20 = some a20 := by kernel_rfl
theorem t21 : trFn Tryd.prog h21 Tryd.f21 = some a21 := by kernel_rfl
theorem t22 : trFn Tryd.prog h22 Tryd.f22 = some a22 := by kernel_rfl
theorem t23 : trFn Tryd.prog h23 Tryd.f23 = some a23 := by kernel_rfl
theorem t24 : trFn Tryd.prog h24 Tryd.f24 = some a24 := by kernel_rfl
theorem t35 : trFn Tryd.prog h35 Tryd.f35 = some a35 := by kernel_rfl
theorem t36 : trFn Tryd.prog h36 Tryd.f36 = some a36 := by kernel_rfl
theorem t37 : trFn Tryd.prog h37 Tryd.f37 = some a37 := by kernel_rfl
theorem t41 : trFn Tryd.prog h41 Tryd.f41 = some a41 := by kernel_rfl
theorem t43 : trFn Tryd.prog h43 Tryd.f43 = some a43 := by kernel_rfl
theorem t44 : trFn Tryd.prog h44 Tryd.f44 = some a44 := by kernel_rfl
theorem t45 : trFn Tryd.prog h45 Tryd.f45 = some a45 := by kernel_rfl
theorem t46 : trFn Tryd.prog h46 Tryd.f46 = some a46 := by kernel_rfl
theorem t47 : trFn Tryd.prog h47 Tryd.f47 = some a47 := by kernel_rfl
theorem t48 : trFn Tryd.prog h48 Tryd.f48 = some a48 := by kernel_rfl
theorem t62 : trFn Tryd.prog h62 Tryd.f62 = some a62 := by kernel_rfl
def a38 : AFn := primFn (itoaEv 7)
def a39 : AFn := primFn joinEv
def a40 : AFn := primFn (fieldsEv 3 4)
def a42 : AFn := primFn (atoiEv 5 6 141)
def A : Nat → Option AFn := lkF [(3, a3), (4, a4), (5, a5), (8, a8), (11, a11), (12, a12), (13, a13), (14, a14), (15, a15), (16, a16), (17, a17), (18, a18), (19, a19), (20, a20), (21, a21), (22, a22), (23, a23), (24, a24), (35, a35), (36, a36), (37, a37), (38, a38), (39, a39), (40, a40), (41, a41), (42, a42), (43, a43), (44, a44), (45, a45), (46, a46), (47, a47), (48, a48), (62, a62)]
theorem A_ok : AOk Tryd.prog A := lkF_ok ⟨.inl ⟨h3, Tryd.f3, Tryd.func3, t3⟩,
  .inl ⟨h4, Tryd.f4, Tryd.func4, t4⟩,
  .inl ⟨h5, Tryd.f5, Tryd.func5, t5⟩,
  .inl ⟨h8, Tryd.f8, Tryd.func8, t8⟩,
  .inl ⟨h11, Tryd.f11, Tryd.func11, t11⟩,
  .inl ⟨h12, Tryd.f12, Tryd.func12, t12⟩,
  .inl ⟨h13, Tryd.f13, Tryd.func13, t13⟩,
  .inl ⟨h14, Tryd.f14, Tryd.func14, t14⟩,
  .inl ⟨h15, Tryd.f15, Tryd.func15, t15⟩,
  .inl ⟨h16, Tryd.f16, Tryd.func16, t16⟩,
  .inl ⟨h17, Tryd.f17, Tryd.func17, t17⟩,
  .inl ⟨h18, Tryd.f18, Tryd.func18, t18⟩,
  .inl ⟨h19, Tryd.f19, Tryd.func19, t19⟩,
  .inl ⟨h20, Tryd.f20, Tryd.func20, t20⟩,
  .inl ⟨h21, Tryd.f21, Tryd.func21, t21⟩,
  .inl ⟨h22, Tryd.f22, Tryd.func22, t22⟩,
  .inl ⟨h23, Tryd.f23, Tryd.func23, t23⟩,
  .inl ⟨h24, Tryd.f24, Tryd.func24, t24⟩,
  .inl ⟨h35, Tryd.f35, Tryd.func35, t35⟩,
  .inl ⟨h36, Tryd.f36, Tryd.func36, t36⟩,
  .inl ⟨h37, Tryd.f37, Tryd.func37, t37⟩,
  .inr ⟨_, rfl, itoa38⟩,
  .inr ⟨_, rfl, join39⟩,
  .inr ⟨_, rfl, fields40⟩,
  .inl ⟨h41, Tryd.f41, Tryd.func41, t41⟩,
  .inr ⟨_, rfl, atoi42⟩,
  .inl ⟨h43, Tryd.f43, Tryd.func43, t43⟩,
  .inl ⟨h44, Tryd.f44, Tryd.func44, t44⟩,
  .inl ⟨h45, Tryd.f45, Tryd.func45, t45⟩,
  .inl ⟨h46, Tryd.f46, Tryd.func46, t46⟩,
  .inl ⟨h47, Tryd.f47, Tryd.func47, t47⟩,
  .inl ⟨h48, Tryd.f48, Tryd.func48, t48⟩,
  .inl ⟨h62, Tryd.f62, Tryd.func62, t62⟩, trivial⟩
theorem run_3 (n : Nat) (args : List AV) (m : Mem) : run A (n + 1) 3 args m = fnEv (run A n) (ev A n).2 a3 args m := run_of rfl n args m
theorem run_4 (n : Nat) (args : List AV) (m : Mem) : run A (n + 1) 4 args m = fnEv (run A n) (ev A n).2 a4 args m := run_of rfl n args m
theorem run_5 (n : Nat) (args : List AV) (m : Mem) : run A (n + 1) 5 args m = fnEv (run A n) (ev A n).2 a5 args m := run_of rfl n args m
theorem run_8 (n : Nat) (args : List AV) (m : Mem) : run A (n + 1) 8 args m = fnEv (run A n) (ev A n).2 a8 args m := run_of rfl n args m
theorem run_11 (n : Nat) (args : List AV) (m : Mem) : run A (n + 1) 11 args m = fnEv (run A n) (ev A n).2 a11 args m := run_of rfl n args m
theorem run_12 (n : Nat) (args : List AV) (m : Mem) : run A (n + 1) 12 args m = fnEv (run A n) (ev A n).2 a12 args m := run_of rfl n args m
theorem run_13 (n : Nat) (args : List AV) (m : Mem) : run A (n + 1) 13 args m = fnEv (run A n) (ev A n).2 a13 args m := run_of rfl n args m
theorem run_14 (n : Nat) (args : List AV) (m : Mem) : run A (n + 1) 14 args m = fnEv (run A n) (ev A n).2 a14 args m := run_of rfl n args m
theorem run_15 (n : Nat) (args : List AV) (m : Mem) : run A (n + 1) 15 args m = fnEv (run A n) (ev A n).2 a15 args m := run_of rfl n args m
theorem run_16 (n : Nat) (args : List AV) (m : Mem) : run A (n + 1) 16 args m = fnEv (run A n) (ev A n).2 a16 args m := run_of rfl n args m
theorem run_17 (n : Nat) (args : List AV) (m : Mem) : run A (n + 1) 17 args m = fnEv (run A n) (ev A n).2 a17 args m := run_of rfl n args m
theorem run_18 (n : Nat) (args : List AV) (m : Mem) : run A (n + 1) 18 args m = fnEv (run A n) (ev A n).2 a18 args m := run_of rfl n args m
theorem run_19 (n : Nat) (args : List AV) (m : Mem) : run A (n + 1) 19 args m = fnEv (run A n) (ev A n).2 a19 args m := run_of rfl n args m
theorem run_20 (n : Nat) (args : List AV) (m : Mem) : run A (n + 1) 20 args m = fnEv (run A n) (ev A n).2 a20 args m := run_of rfl n args m
theorem run_21 (n : Nat) (args : List AV) (m : Mem) : run A (n + 1) 21 args m = fnEv (run A n) (ev A n).2 a21 args m := run_of rfl n args m
theorem run_22 (n : Nat) (args : List AV) (m : Mem) : run A (n + 1) 22 args m = fnEv (run A n) (ev A n).2 a22 args m := run_of rfl n args m
theorem run_23 (n : Nat) (args : List AV) (m : Mem) : run A (n + 1) 23 args m = fnEv (run A n) (ev A n).2 a23 args m := run_of rfl n args m
theorem run_24 (n : Nat) (args : List AV) (m : Mem) : run A (n + 1) 24 args m = fnEv (run A n) (ev A n).2 a24 args m := run_of rfl n args m
theorem run_35 (n : Nat) (args : List AV) (m : Mem) : run A (n + 1) 35 args m = fnEv (run A n) (ev A n).2 a35 args m := run_of rfl n args m
theorem run_36 (n : Nat) (args : List AV) (m : Mem) : run A (n + 1) 36 args m = fnEv (run A n) (ev A n).2 a36 args m := run_of rfl n args m
theorem run_37 (n : Nat) (args : List AV) (m : Mem) : run A (n + 1) 37 args m = fnEv (run A n) (ev A n).2 a37 args m := run_of rfl n args m
theorem run_38 (n : Nat) (args : List AV) (m : Mem) : run A (n + 1) 38 args m = fnEv (run A n) (ev A n).2 a38 args m := run_of rfl n args m
theorem run_39 (n : Nat) (args : List AV) (m : Mem) : run A (n + 1) 39 args m = fnEv (run A n) (ev A n).2 a39 args m := run_of rfl n args m
theorem run_40 (n : Nat) (args : List AV) (m : Mem) : run A (n + 1) 40 args m = fnEv (run A n) (ev A n).2 a40 args m := run_of rfl n args m
theorem run_41 (n : Nat) (args : List AV) (m : Mem) : run A (n + 1) 41 args m = fnEv (run A n) (ev A n).2 a41 args m := run_of rfl n args m
theorem run_42 (n : Nat) (args : List AV) (m : Mem) : run A (n + 1) 42 args m = fnEv (run A n) (ev A n).2 a42 args m := run_of rfl n args m
theorem run_43 (n : Nat) (args : List AV) (m : Mem) : run A (n + 1) 43 args m = fnEv (run A n) (ev A n).2 a43 args m := run_of rfl n args m
theorem run_44 (n : Nat) (args : List AV) (m : Mem) : run A (n + 1) 44 args m = fnEv (run A n) (ev A n).2 a44 args m := run_of rfl n args m
theorem run_45 (n : Nat) (args : List AV) (m : Mem) : run A (n + 1) 45 args m = fnEv (run A n) (ev A n).2 a45 args m := run_of rfl n args m
theorem run_46 (n : Nat) (args : List AV) (m : Mem) : run A (n + 1) 46 args m = fnEv (run A n) (ev A n).2 a46 args m := run_of rfl n args m
theorem run_47 (n : Nat) (args : List AV) (m : Mem) : run A (n + 1) 47 args m = fnEv (run A n) (ev A n).2 a47 args m := run_of rfl n args m
theorem run_48 (n : Nat) (args : List AV) (m : Mem) : run A (n + 1) 48 args m = fnEv (run A n) (ev A n).2 a48 args m := run_of rfl n args m
theorem run_62 (n : Nat) (args : List AV) (m : Mem) : run A (n + 1) 62 args m = fnEv (run A n) (ev A n).2 a62 args m := run_of rfl n args m
end
end Go.Proofs.YtekljfhfjncmjaaDoor
