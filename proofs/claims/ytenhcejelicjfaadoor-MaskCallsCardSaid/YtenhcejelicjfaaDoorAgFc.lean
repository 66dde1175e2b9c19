/- The functions of this seat, as the abstract machine has them; each is what its translation out of the program gives. Made by program. -/
import Derived.Test.YtenhcejelicjfaaDoorProg
import Derived.Test.YtenhcejelicjfaaDoorAgSym
namespace Go.Proofs.YtenhcejelicjfaaDoor
open AG
set_option maxRecDepth 100000
set_option maxHeartbeats 4000000
def h10 : Hints := ⟨[7, 8, 9], [(0, [0, 1, 2, 3, 4, 5, 6], []), (1, [3, 4, 5, 6, 7, 8, 9], [7, 8, 9]), (2, [], []), (3, [3, 4, 5, 6, 7, 8, 9], [7, 8, 9]), (4, [], []), (5, [3, 4, 5, 6, 7, 8, 9], [7, 8, 9])]⟩
def a10_R1 : AC := .keep [3, 4, 5, 6, 7, 8, 9] [7, 8, 9] (.reg [⟨(some 17), .mov (.tmp 5), none⟩, ⟨(some 18), .lenL (.tmp 17), none⟩, ⟨(some 19), .bin .gtr (.tmp 18) (.val (.int .i64 40)), none⟩, ⟨(some 20), .mov (.tmp 19), none⟩, ⟨(some 21), .mov (.tmp 6), (some (20, false))⟩, ⟨(some 22), .lenL (.tmp 21), (some (20, false))⟩, ⟨(some 23), .bin .gtr (.tmp 22) (.val (.int .i64 40)), (some (20, false))⟩, ⟨(some 24), .pick (.tmp 20) (.val (.bool true)) (.tmp 23), none⟩])
def a10_R2 : AC := .keep [3, 4, 5, 6, 7, 8, 9] [7, 8, 9] (.dreg [(false, ⟨(some 25), .load (some 4) (.tmp 7), none⟩, false), (false, ⟨(some 26), .call 30 [(.tmp 25)], none⟩, false), (false, ⟨(some 27), .load (some 4) (.tmp 7), none⟩, true), (false, ⟨(some 28), .call 33 [(.tmp 27)], none⟩, false), (false, ⟨(some 29), .bin .eql (.tmp 26) (.tmp 28), none⟩, false), (false, ⟨(some 30), .mov (.tmp 29), none⟩, false), (false, ⟨(some 31), .load (some 4) (.tmp 7), (some (30, true))⟩, false), (false, ⟨(some 32), .mov (.tmp 3), (some (30, true))⟩, false), (false, ⟨(some 33), .mov (.tmp 4), (some (30, true))⟩, false), (false, ⟨(some 34), .call 34 [(.tmp 31), (.tmp 32), (.tmp 33)], (some (30, true))⟩, false), (false, ⟨(some 35), .load (some 4) (.tmp 7), (some (30, true))⟩, true), (false, ⟨(some 36), .mov (.tmp 3), (some (30, true))⟩, false), (false, ⟨(some 37), .mov (.tmp 4), (some (30, true))⟩, false), (false, ⟨(some 38), .call 35 [(.tmp 35), (.tmp 36), (.tmp 37)], (some (30, true))⟩, false), (false, ⟨(some 39), .eq false .bool (.tmp 34) (.tmp 38), (some (30, true))⟩, false), (false, ⟨(some 40), .pick (.tmp 30) (.tmp 39) (.val (.bool false)), none⟩, false), (false, ⟨(some 41), .mov (.tmp 40), none⟩, false), (false, ⟨(some 42), .load (some 4) (.tmp 7), (some (41, true))⟩, false), (false, ⟨(some 43), .load (some 4) (.tmp 8), (some (41, true))⟩, false), (false, ⟨(some 44), .call 32 [(.tmp 42), (.tmp 43)], (some (41, true))⟩, false), (false, ⟨(some 45), .load (some 4) (.tmp 7), (some (41, true))⟩, true), (false, ⟨(some 46), .load (some 4) (.tmp 8), (some (41, true))⟩, true), (false, ⟨(some 47), .call 36 [(.tmp 45), (.tmp 46)], (some (41, true))⟩, false), (false, ⟨(some 48), .eq false .bool (.tmp 44) (.tmp 47), (some (41, true))⟩, false), (false, ⟨(some 49), .pick (.tmp 41) (.tmp 48) (.val (.bool false)), none⟩, false), (false, ⟨(some 50), .mov (.tmp 49), none⟩, false), (false, ⟨(some 51), .load (some 4) (.tmp 7), (some (50, true))⟩, false), (false, ⟨(some 52), .load (some 4) (.tmp 8), (some (50, true))⟩, false), (false, ⟨(some 53), .call 31 [(.tmp 51), (.tmp 52)], (some (50, true))⟩, false), (false, ⟨(some 54), .load (some 4) (.tmp 7), (some (50, true))⟩, true), (false, ⟨(some 55), .load (some 4) (.tmp 8), (some (50, true))⟩, true), (false, ⟨(some 56), .call 37 [(.tmp 54), (.tmp 55)], (some (50, true))⟩, false), (false, ⟨(some 57), .eq false (.agg [(0, 0), (1, 0), (2, 0), (3, 0)]) (.tmp 53) (.tmp 56), (some (50, true))⟩, false), (false, ⟨(some 58), .pick (.tmp 50) (.tmp 57) (.val (.bool false)), none⟩, false), (false, ⟨(some 59), .mov (.tmp 58), none⟩, false), (false, ⟨(some 60), .load (some 4) (.tmp 9), (some (59, true))⟩, false), (false, ⟨(some 61), .load (some 4) (.tmp 7), (some (59, true))⟩, false), (false, ⟨(some 62), .call 27 [(.tmp 60), (.tmp 61)], (some (59, true))⟩, false), (false, ⟨(some 63), .load (some 4) (.tmp 9), (some (59, true))⟩, true), (false, ⟨(some 64), .load (some 4) (.tmp 7), (some (59, true))⟩, true), (false, ⟨(some 65), .call 38 [(.tmp 63), (.tmp 64)], (some (59, true))⟩, false), (false, ⟨(some 66), .eq false (.agg [(0, 0), (1, 0), (2, 0), (3, 0)]) (.tmp 62) (.tmp 65), (some (59, true))⟩, false), (false, ⟨(some 67), .pick (.tmp 59) (.tmp 66) (.val (.bool false)), none⟩, false), (false, ⟨(some 68), .mov (.tmp 67), none⟩, false), (false, ⟨(some 69), .load (some 4) (.tmp 7), (some (68, true))⟩, false), (false, ⟨(some 70), .mov (.tmp 4), (some (68, true))⟩, false), (false, ⟨(some 71), .mov (.tmp 5), (some (68, true))⟩, false), (false, ⟨(some 72), .call 39 [(.tmp 69), (.tmp 70), (.tmp 71)], (some (68, true))⟩, false), (false, ⟨(some 73), .load (some 4) (.tmp 7), (some (68, true))⟩, true), (false, ⟨(some 74), .mov (.tmp 4), (some (68, true))⟩, false), (false, ⟨(some 75), .mov (.tmp 5), (some (68, true))⟩, false), (false, ⟨(some 76), .call 40 [(.tmp 73), (.tmp 74), (.tmp 75)], (some (68, true))⟩, false), (false, ⟨(some 77), .bin .eql (.tmp 72) (.tmp 76), (some (68, true))⟩, false), (false, ⟨(some 78), .pick (.tmp 68) (.tmp 77) (.val (.bool false)), none⟩, false), (false, ⟨(some 79), .mov (.tmp 78), none⟩, false), (false, ⟨(some 80), .load (some 4) (.tmp 7), (some (79, true))⟩, false), (false, ⟨(some 81), .mov (.tmp 4), (some (79, true))⟩, false), (false, ⟨(some 82), .mov (.tmp 5), (some (79, true))⟩, false), (false, ⟨(some 83), .call 41 [(.tmp 80), (.tmp 81), (.tmp 82)], (some (79, true))⟩, false), (false, ⟨(some 84), .load (some 4) (.tmp 7), (some (79, true))⟩, true), (false, ⟨(some 85), .mov (.tmp 4), (some (79, true))⟩, false), (false, ⟨(some 86), .mov (.tmp 5), (some (79, true))⟩, false), (false, ⟨(some 87), .call 42 [(.tmp 84), (.tmp 85), (.tmp 86)], (some (79, true))⟩, false), (false, ⟨(some 88), .bin .eql (.tmp 83) (.tmp 87), (some (79, true))⟩, false), (false, ⟨(some 89), .pick (.tmp 79) (.tmp 88) (.val (.bool false)), none⟩, false), (false, ⟨(some 90), .mov (.tmp 89), none⟩, false), (false, ⟨(some 91), .mov (.tmp 3), (some (90, true))⟩, false), (false, ⟨(some 92), .mov (.tmp 6), (some (90, true))⟩, false), (false, ⟨(some 93), .call 44 [(.tmp 92)], (some (90, true))⟩, false), (false, ⟨(some 94), .call 43 [(.tmp 91), (.tmp 93)], (some (90, true))⟩, false), (false, ⟨(some 95), .mov (.tmp 3), (some (90, true))⟩, false), (false, ⟨(some 96), .mov (.tmp 6), (some (90, true))⟩, false), (false, ⟨(some 97), .call 45 [(.tmp 95), (.tmp 96)], (some (90, true))⟩, false), (false, ⟨(some 98), .bin .eql (.tmp 94) (.tmp 97), (some (90, true))⟩, false), (false, ⟨(some 99), .pick (.tmp 90) (.tmp 98) (.val (.bool false)), none⟩, false), (false, ⟨(some 100), .mov (.tmp 99), none⟩, false), (false, ⟨(some 101), .call 28 [], (some (100, true))⟩, false), (false, ⟨(some 102), .call 46 [], (some (100, true))⟩, false), (false, ⟨(some 103), .eq false (.agg [(0, 0), (1, 0), (2, 0), (3, 0)]) (.tmp 101) (.tmp 102), (some (100, true))⟩, false), (false, ⟨(some 104), .pick (.tmp 100) (.tmp 103) (.val (.bool false)), none⟩, false), (false, ⟨(some 14), .mov (.tmp 104), none⟩, false)])
def a10 : AFn := { n := 105, np := 7, res := [.tmp 14], body :=
 (.seq (.keep [0, 1, 2, 3, 4, 5, 6] [] (.reg [⟨(some 7), .box (some 7) (.tmp 0), none⟩, ⟨(some 8), .box (some 8) (.tmp 1), none⟩, ⟨(some 9), .box (some 9) (.tmp 2), none⟩, ⟨(some 14), .mov (.val (.bool false)), none⟩]))
 (.seq (.seq (.keep [3, 4, 5, 6, 7, 8, 9] [7, 8, 9] (.reg [⟨(some 15), .call 29 [], none⟩, ⟨(some 16), .un .not (.tmp 15), none⟩]))
 (.cond (.tmp 16) (.seq (.keep [] [] (.reg [⟨(some 14), .mov (.val (.bool false)), none⟩]))
 .ret) .skip))
 (.seq (.seq a10_R1
 (.cond (.tmp 24) (.seq (.keep [] [] (.reg [⟨(some 14), .mov (.val (.bool true)), none⟩]))
 .ret) .skip))
 (.seq a10_R2
 .ret)))) }
def h12 : Hints := ⟨[5], [(0, [0], []), (1, [0], []), (2, [], []), (3, [0], []), (4, [0, 3], []), (5, [3, 9, 10, 11], []), (6, [3, 9, 10, 11], []), (7, [3, 5, 9, 10, 11], [5]), (8, [], []), (9, [3, 5, 9, 10, 11], [5]), (10, [3, 9, 10, 11], []), (11, [], [])]⟩
def a12_B1 : AC := (.seq (.keep [3, 9, 10, 11] [] (.reg [⟨(some 12), .bin .lss (.tmp 11) (.tmp 10), none⟩]))
 (.seq (.cond (.tmp 12) .skip (.exit 0))
 (.seq (.block 1 (.seq (.keep [3, 9, 10, 11] [] (.reg [⟨(some 13), .iaddrL 3 (.tmp 9) (.tmp 11), none⟩, ⟨(some 14), .load (some 3) (.tmp 13), none⟩, ⟨(some 5), .alloc (some 5) [(.int .i64 0), (.int .i64 0), (.int .i64 0)], none⟩, ⟨none, .store 3 (.tmp 5) (.tmp 14), none⟩]))
 (.seq (.seq (.keep [3, 5, 9, 10, 11] [5] (.reg [⟨(some 15), .faddr 0 (.tmp 5), none⟩, ⟨(some 16), .load none (.tmp 15), none⟩, ⟨(some 17), .bin .lss (.tmp 16) (.val (.int .i64 0)), none⟩, ⟨(some 18), .mov (.tmp 17), none⟩, ⟨(some 19), .faddr 0 (.tmp 5), (some (18, false))⟩, ⟨(some 20), .load none (.tmp 19), (some (18, false))⟩, ⟨(some 21), .bin .gtr (.tmp 20) (.val (.int .i64 31)), (some (18, false))⟩, ⟨(some 22), .pick (.tmp 18) (.val (.bool true)) (.tmp 21), none⟩, ⟨(some 23), .mov (.tmp 22), none⟩, ⟨(some 24), .faddr 1 (.tmp 5), (some (23, false))⟩, ⟨(some 25), .load none (.tmp 24), (some (23, false))⟩, ⟨(some 26), .bin .lss (.tmp 25) (.val (.int .i64 1)), (some (23, false))⟩, ⟨(some 27), .pick (.tmp 23) (.val (.bool true)) (.tmp 26), none⟩, ⟨(some 28), .mov (.tmp 27), none⟩, ⟨(some 29), .faddr 1 (.tmp 5), (some (28, false))⟩, ⟨(some 30), .load none (.tmp 29), (some (28, false))⟩, ⟨(some 31), .bin .gtr (.tmp 30) (.val (.int .i64 15)), (some (28, false))⟩, ⟨(some 32), .pick (.tmp 28) (.val (.bool true)) (.tmp 31), none⟩, ⟨(some 33), .mov (.tmp 32), none⟩, ⟨(some 34), .faddr 2 (.tmp 5), (some (33, false))⟩, ⟨(some 35), .load none (.tmp 34), (some (33, false))⟩, ⟨(some 36), .bin .lss (.tmp 35) (.val (.int .i64 0)), (some (33, false))⟩, ⟨(some 37), .pick (.tmp 33) (.val (.bool true)) (.tmp 36), none⟩, ⟨(some 38), .mov (.tmp 37), none⟩, ⟨(some 39), .mov (.tmp 3), (some (38, false))⟩, ⟨(some 40), .faddr 0 (.tmp 5), (some (38, false))⟩, ⟨(some 41), .load none (.tmp 40), (some (38, false))⟩, ⟨(some 42), .call 14 [(.tmp 39), (.tmp 41)], (some (38, false))⟩, ⟨(some 43), .pick (.tmp 38) (.val (.bool true)) (.tmp 42), none⟩]))
 (.cond (.tmp 43) (.seq (.keep [] [] (.reg [⟨(some 2), .mov (.val (.int .i64 2)), none⟩]))
 .ret) .skip))
 (.keep [3, 5, 9, 10, 11] [5] (.reg [⟨(some 44), .mov (.tmp 3), none⟩, ⟨(some 45), .faddr 0 (.tmp 5), none⟩, ⟨(some 46), .load none (.tmp 45), none⟩, ⟨(some 47), .bin .shl (.val (.int .u32 1)) (.tmp 46), none⟩, ⟨(some 48), .bin .or (.tmp 44) (.tmp 47), none⟩, ⟨(some 3), .mov (.tmp 48), none⟩])))))
 (.keep [3, 9, 10, 11] [] (.reg [⟨(some 49), .bin .add (.tmp 11) (.val (.int .i64 1)), none⟩, ⟨(some 11), .mov (.tmp 49), none⟩])))))
def a12_L1 : AC := .loop a12_B1
theorem a12_L1_step (call : Caller) (again : AC → St → Option (Ex × St)) (s : St) : codeEv call again a12_L1 s = match codeEv call again a12_B1 s with | some (.norm, s1) => again a12_L1 s1 | r => r := rfl
def a12 : AFn := { n := 50, np := 1, res := [.tmp 2], body :=
 (.seq (.keep [0] [] (.reg [⟨(some 2), .mov (.val (.int .i64 0)), none⟩]))
 (.seq (.seq (.keep [0] [] (.reg [⟨(some 6), .mov (.tmp 0), none⟩, ⟨(some 7), .lenL (.tmp 6), none⟩, ⟨(some 8), .bin .gtr (.tmp 7) (.val (.int .i64 32)), none⟩]))
 (.cond (.tmp 8) (.seq (.keep [] [] (.reg [⟨(some 2), .mov (.val (.int .i64 3)), none⟩]))
 .ret) .skip))
 (.seq (.keep [0] [] (.reg [⟨(some 3), .mov (.val (.int .u32 0)), none⟩]))
 (.seq (.seq (.keep [0, 3] [] (.reg [⟨(some 9), .mov (.tmp 0), none⟩, ⟨(some 10), .lenL (.tmp 9), none⟩, ⟨(some 11), .mov (.val (.int .i64 0)), none⟩]))
 (.block 0 a12_L1))
 (.seq (.keep [] [] (.reg [⟨(some 2), .mov (.val (.int .i64 0)), none⟩]))
 .ret))))) }
def h14 : Hints := ⟨[], [(0, [0, 1], []), (1, [0, 1], [])]⟩
def a14 : AFn := { n := 18, np := 2, res := [.tmp 4], body :=
 (.seq (.keep [0, 1] [] (.reg [⟨(some 4), .mov (.val (.bool false)), none⟩]))
 (.seq (.keep [0, 1] [] (.reg [⟨(some 5), .mov (.tmp 1), none⟩, ⟨(some 6), .bin .geq (.tmp 5) (.val (.int .i64 0)), none⟩, ⟨(some 7), .mov (.tmp 6), none⟩, ⟨(some 8), .mov (.tmp 1), (some (7, true))⟩, ⟨(some 9), .bin .lss (.tmp 8) (.val (.int .i64 32)), (some (7, true))⟩, ⟨(some 10), .pick (.tmp 7) (.tmp 9) (.val (.bool false)), none⟩, ⟨(some 11), .mov (.tmp 10), none⟩, ⟨(some 12), .mov (.tmp 0), (some (11, true))⟩, ⟨(some 13), .mov (.tmp 1), (some (11, true))⟩, ⟨(some 14), .bin .shr (.tmp 12) (.tmp 13), (some (11, true))⟩, ⟨(some 15), .bin .and (.tmp 14) (.val (.int .u32 1)), (some (11, true))⟩, ⟨(some 16), .bin .eql (.tmp 15) (.val (.int .u32 1)), (some (11, true))⟩, ⟨(some 17), .pick (.tmp 11) (.tmp 16) (.val (.bool false)), none⟩, ⟨(some 4), .mov (.tmp 17), none⟩]))
 .ret)) }
def h23 : Hints := ⟨[], [(0, [0], []), (1, [0], []), (2, [], []), (3, [0], []), (4, [0, 3], []), (6, [0, 3], []), (7, [], []), (8, [0, 3], []), (9, [0, 3, 4], []), (11, [0, 3, 4], []), (12, [], []), (10, [0, 3, 4], []), (5, [0, 3], []), (13, [], [])]⟩
def a23_B1 : AC := (.seq (.seq (.keep [0, 3, 4] [] (.reg [⟨(some 52), .mov (.tmp 4), none⟩, ⟨(some 53), .mov (.tmp 3), none⟩, ⟨(some 54), .bin .lss (.tmp 52) (.tmp 53), none⟩]))
 (.cond (.tmp 54) .skip (.exit 2)))
 (.seq (.block 3 (.seq (.keep [0, 3, 4] [] (.dreg [(false, ⟨(some 57), .mov (.tmp 0), none⟩, false), (false, ⟨(some 58), .mov (.tmp 4), none⟩, false), (false, ⟨(some 59), .iaddrL 3 (.tmp 57) (.tmp 58), none⟩, false), (false, ⟨(some 60), .faddr 0 (.tmp 59), none⟩, false), (false, ⟨(some 61), .load none (.tmp 60), none⟩, false), (false, ⟨(some 62), .mov (.tmp 0), none⟩, false), (false, ⟨(some 63), .mov (.tmp 3), none⟩, false), (false, ⟨(some 64), .iaddrL 3 (.tmp 62) (.tmp 63), none⟩, false), (false, ⟨(some 65), .faddr 0 (.tmp 64), none⟩, false), (false, ⟨(some 66), .load none (.tmp 65), none⟩, false), (false, ⟨(some 67), .bin .eql (.tmp 61) (.tmp 66), none⟩, false)]))
 (.cond (.tmp 67) (.seq (.keep [] [] (.reg [⟨(some 2), .mov (.val (.int .i64 2)), none⟩]))
 .ret) .skip)))
 (.keep [0, 3, 4] [] (.reg [⟨(some 55), .mov (.tmp 4), none⟩, ⟨(some 56), .bin .add (.tmp 55) (.val (.int .i64 1)), none⟩, ⟨(some 4), .mov (.tmp 56), none⟩]))))
def a23_L1 : AC := .loop a23_B1
theorem a23_L1_step (call : Caller) (again : AC → St → Option (Ex × St)) (s : St) : codeEv call again a23_L1 s = match codeEv call again a23_B1 s with | some (.norm, s1) => again a23_L1 s1 | r => r := rfl
def a23_B2 : AC := (.seq (.seq (.keep [0, 3] [] (.reg [⟨(some 8), .mov (.tmp 3), none⟩, ⟨(some 9), .mov (.tmp 0), none⟩, ⟨(some 10), .lenL (.tmp 9), none⟩, ⟨(some 11), .bin .lss (.tmp 8) (.tmp 10), none⟩]))
 (.cond (.tmp 11) .skip (.exit 0)))
 (.seq (.block 1 (.seq (.seq (.keep [0, 3] [] (.reg [⟨(some 14), .mov (.tmp 0), none⟩, ⟨(some 15), .mov (.tmp 3), none⟩, ⟨(some 16), .iaddrL 3 (.tmp 14) (.tmp 15), none⟩, ⟨(some 17), .faddr 0 (.tmp 16), none⟩, ⟨(some 18), .load none (.tmp 17), none⟩, ⟨(some 19), .bin .lss (.tmp 18) (.val (.int .i64 0)), none⟩, ⟨(some 20), .mov (.tmp 19), none⟩, ⟨(some 21), .mov (.tmp 0), (some (20, false))⟩, ⟨(some 22), .mov (.tmp 3), (some (20, false))⟩, ⟨(some 23), .iaddrL 3 (.tmp 21) (.tmp 22), (some (20, false))⟩, ⟨(some 24), .faddr 0 (.tmp 23), (some (20, false))⟩, ⟨(some 25), .load none (.tmp 24), (some (20, false))⟩, ⟨(some 26), .bin .gtr (.tmp 25) (.val (.int .i64 31)), (some (20, false))⟩, ⟨(some 27), .pick (.tmp 20) (.val (.bool true)) (.tmp 26), none⟩, ⟨(some 28), .mov (.tmp 27), none⟩, ⟨(some 29), .mov (.tmp 0), (some (28, false))⟩, ⟨(some 30), .mov (.tmp 3), (some (28, false))⟩, ⟨(some 31), .iaddrL 3 (.tmp 29) (.tmp 30), (some (28, false))⟩, ⟨(some 32), .faddr 1 (.tmp 31), (some (28, false))⟩, ⟨(some 33), .load none (.tmp 32), (some (28, false))⟩, ⟨(some 34), .bin .lss (.tmp 33) (.val (.int .i64 1)), (some (28, false))⟩, ⟨(some 35), .pick (.tmp 28) (.val (.bool true)) (.tmp 34), none⟩, ⟨(some 36), .mov (.tmp 35), none⟩, ⟨(some 37), .mov (.tmp 0), (some (36, false))⟩, ⟨(some 38), .mov (.tmp 3), (some (36, false))⟩, ⟨(some 39), .iaddrL 3 (.tmp 37) (.tmp 38), (some (36, false))⟩, ⟨(some 40), .faddr 1 (.tmp 39), (some (36, false))⟩, ⟨(some 41), .load none (.tmp 40), (some (36, false))⟩, ⟨(some 42), .bin .gtr (.tmp 41) (.val (.int .i64 15)), (some (36, false))⟩, ⟨(some 43), .pick (.tmp 36) (.val (.bool true)) (.tmp 42), none⟩, ⟨(some 44), .mov (.tmp 43), none⟩, ⟨(some 45), .mov (.tmp 0), (some (44, false))⟩, ⟨(some 46), .mov (.tmp 3), (some (44, false))⟩, ⟨(some 47), .iaddrL 3 (.tmp 45) (.tmp 46), (some (44, false))⟩, ⟨(some 48), .faddr 2 (.tmp 47), (some (44, false))⟩, ⟨(some 49), .load none (.tmp 48), (some (44, false))⟩, ⟨(some 50), .bin .lss (.tmp 49) (.val (.int .i64 0)), (some (44, false))⟩, ⟨(some 51), .pick (.tmp 44) (.val (.bool true)) (.tmp 50), none⟩]))
 (.cond (.tmp 51) (.seq (.keep [] [] (.reg [⟨(some 2), .mov (.val (.int .i64 2)), none⟩]))
 .ret) .skip))
 (.seq (.keep [0, 3] [] (.reg [⟨(some 4), .mov (.val (.int .i64 0)), none⟩]))
 (.block 2 a23_L1))))
 (.keep [0, 3] [] (.reg [⟨(some 12), .mov (.tmp 3), none⟩, ⟨(some 13), .bin .add (.tmp 12) (.val (.int .i64 1)), none⟩, ⟨(some 3), .mov (.tmp 13), none⟩]))))
def a23_L2 : AC := .loop a23_B2
theorem a23_L2_step (call : Caller) (again : AC → St → Option (Ex × St)) (s : St) : codeEv call again a23_L2 s = match codeEv call again a23_B2 s with | some (.norm, s1) => again a23_L2 s1 | r => r := rfl
def a23 : AFn := { n := 68, np := 1, res := [.tmp 2], body :=
 (.seq (.keep [0] [] (.reg [⟨(some 2), .mov (.val (.int .i64 0)), none⟩]))
 (.seq (.seq (.keep [0] [] (.reg [⟨(some 5), .mov (.tmp 0), none⟩, ⟨(some 6), .lenL (.tmp 5), none⟩, ⟨(some 7), .bin .gtr (.tmp 6) (.val (.int .i64 32)), none⟩]))
 (.cond (.tmp 7) (.seq (.keep [] [] (.reg [⟨(some 2), .mov (.val (.int .i64 3)), none⟩]))
 .ret) .skip))
 (.seq (.seq (.keep [0] [] (.reg [⟨(some 3), .mov (.val (.int .i64 0)), none⟩]))
 (.block 0 a23_L2))
 (.seq (.keep [] [] (.reg [⟨(some 2), .mov (.val (.int .i64 0)), none⟩]))
 .ret)))) }
def h27 : Hints := ⟨[2, 3, 4], [(0, [0, 1], []), (1, [2, 3, 4], [2, 3, 4]), (2, [3, 4], [3, 4]), (3, [2, 3, 4], [2, 3, 4]), (4, [2, 3, 4, 5], [2, 3, 4]), (5, [2, 3, 4, 5, 20], [2, 3, 4]), (6, [3, 4, 5], [3, 4]), (7, [2, 3, 4, 5, 20], [2, 3, 4]), (8, [3, 4, 5], [3, 4]), (9, [2, 3, 4, 20], [2, 3, 4]), (10, [2, 3, 4], [2, 3, 4]), (11, [3, 4], [3, 4])]⟩
def a27 : AFn := { n := 54, np := 2, res := [.cell 4 (some 4)], body :=
 (.seq (.keep [0, 1] [] (.reg [⟨(some 2), .box (some 2) (.tmp 0), none⟩, ⟨(some 3), .box (some 3) (.tmp 1), none⟩, ⟨(some 4), .alloc (some 4) [(.int .u32 0), (.int .u32 0), (.int .i64 0), (.int .i64 0)], none⟩]))
 (.seq (.seq (.keep [2, 3, 4] [2, 3, 4] (.reg [⟨(some 6), .load (some 4) (.tmp 3), none⟩, ⟨(some 7), .call 30 [(.tmp 6)], none⟩, ⟨(some 8), .bin .neq (.tmp 7) (.val (.int .i64 0)), none⟩, ⟨(some 9), .mov (.tmp 8), none⟩, ⟨(some 10), .load (some 4) (.tmp 2), (some (9, false))⟩, ⟨(some 11), .call 50 [(.tmp 10)], (some (9, false))⟩, ⟨(some 12), .bin .neq (.tmp 11) (.val (.int .i64 0)), (some (9, false))⟩, ⟨(some 13), .pick (.tmp 9) (.val (.bool true)) (.tmp 12), none⟩]))
 (.cond (.tmp 13) (.seq (.keep [3, 4] [3, 4] (.reg [⟨(some 14), .load (some 4) (.tmp 3), none⟩, ⟨none, .store 4 (.tmp 4) (.tmp 14), none⟩]))
 .ret) .skip))
 (.seq (.keep [2, 3, 4] [2, 3, 4] (.reg [⟨(some 15), .faddr 1 (.tmp 2), none⟩, ⟨(some 16), .load none (.tmp 15), none⟩, ⟨(some 17), .bin .and (.tmp 16) (.val (.int .i64 31)), none⟩, ⟨(some 18), .bin .shl (.val (.int .u32 1)) (.tmp 17), none⟩, ⟨(some 5), .mov (.tmp 18), none⟩]))
 (.seq (.seq (.keep [2, 3, 4, 5] [2, 3, 4] (.reg [⟨(some 19), .faddr 0 (.tmp 2), none⟩, ⟨(some 20), .load none (.tmp 19), none⟩]))
 (.block 0 (.seq (.keep [2, 3, 4, 5, 20] [2, 3, 4] (.reg [⟨(some 22), .bin .eql (.tmp 20) (.val (.int .i64 19)), none⟩, ⟨(some 21), .mov (.tmp 22), none⟩]))
 (.cond (.tmp 21) (.keep [3, 4, 5] [3, 4] (.reg [⟨(some 23), .faddr 0 (.tmp 3), none⟩, ⟨(some 24), .load none (.tmp 23), none⟩, ⟨(some 25), .mov (.tmp 5), none⟩, ⟨(some 26), .bin .or (.tmp 24) (.tmp 25), none⟩, ⟨(some 27), .faddr 1 (.tmp 3), none⟩, ⟨(some 28), .load none (.tmp 27), none⟩, ⟨(some 29), .mov (.tmp 5), none⟩, ⟨(some 30), .bin .or (.tmp 28) (.tmp 29), none⟩, ⟨(some 31), .faddr 0 (.tmp 3), none⟩, ⟨none, .store 1 (.tmp 31) (.tmp 26), none⟩, ⟨(some 32), .faddr 1 (.tmp 3), none⟩, ⟨none, .store 1 (.tmp 32) (.tmp 30), none⟩])) (.seq (.keep [2, 3, 4, 5, 20] [2, 3, 4] (.reg [⟨(some 34), .bin .eql (.tmp 20) (.val (.int .i64 20)), none⟩, ⟨(some 33), .mov (.tmp 34), none⟩]))
 (.cond (.tmp 33) (.keep [3, 4, 5] [3, 4] (.reg [⟨(some 35), .faddr 0 (.tmp 3), none⟩, ⟨(some 36), .load none (.tmp 35), none⟩, ⟨(some 37), .mov (.tmp 5), none⟩, ⟨(some 38), .bin .andNot (.tmp 36) (.tmp 37), none⟩, ⟨(some 39), .faddr 1 (.tmp 3), none⟩, ⟨(some 40), .load none (.tmp 39), none⟩, ⟨(some 41), .mov (.tmp 5), none⟩, ⟨(some 42), .bin .andNot (.tmp 40) (.tmp 41), none⟩, ⟨(some 43), .faddr 0 (.tmp 3), none⟩, ⟨none, .store 1 (.tmp 43) (.tmp 38), none⟩, ⟨(some 44), .faddr 1 (.tmp 3), none⟩, ⟨none, .store 1 (.tmp 44) (.tmp 42), none⟩])) (.seq (.keep [2, 3, 4, 20] [2, 3, 4] (.reg [⟨(some 46), .bin .eql (.tmp 20) (.val (.int .i64 21)), none⟩, ⟨(some 45), .mov (.tmp 46), none⟩]))
 (.cond (.tmp 45) (.keep [2, 3, 4] [2, 3, 4] (.dreg [(false, ⟨(some 47), .faddr 1 (.tmp 2), none⟩, false), (false, ⟨(some 48), .load none (.tmp 47), none⟩, false), (false, ⟨(some 49), .faddr 1 (.tmp 2), none⟩, false), (true, ⟨(some 50), .load none (.tmp 49), none⟩, false), (false, ⟨(some 51), .faddr 2 (.tmp 3), none⟩, false), (true, ⟨none, .store 1 (.tmp 51) (.tmp 48), none⟩, false), (false, ⟨(some 52), .faddr 3 (.tmp 3), none⟩, false), (false, ⟨none, .store 1 (.tmp 52) (.tmp 50), none⟩, false)])) .skip))))))))
 (.seq (.keep [3, 4] [3, 4] (.reg [⟨(some 53), .load (some 4) (.tmp 3), none⟩, ⟨none, .store 4 (.tmp 4) (.tmp 53), none⟩]))
 .ret))))) }
def h28 : Hints := ⟨[0], [(0, [], []), (1, [0], [0])]⟩
def a28 : AFn := { n := 2, np := 0, res := [.cell 0 (some 4)], body :=
 (.seq (.keep [] [] (.reg [⟨(some 0), .alloc (some 0) [(.int .u32 0), (.int .u32 0), (.int .i64 0), (.int .i64 0)], none⟩]))
 (.seq (.keep [0] [0] (.reg [⟨(some 1), .build [(.int .u32 0), (.int .u32 0), (.int .i64 0), (.int .i64 0)] [], none⟩, ⟨none, .store 4 (.tmp 0) (.tmp 1), none⟩]))
 .ret)) }
def h29 : Hints := ⟨[1], [(0, [], []), (1, [], []), (2, [1], [1])]⟩
def a29 : AFn := { n := 24, np := 0, res := [.tmp 0], body :=
 (.seq (.keep [] [] (.reg [⟨(some 0), .mov (.val (.bool false)), none⟩]))
 (.seq (.keep [] [] (.reg [⟨(some 2), .build [(.int .u32 0), (.int .u32 0), (.int .i64 0), (.int .i64 0)] [(0, 1, (.val (.int .u32 3))), (1, 1, (.val (.int .u32 1))), (3, 1, (.val (.int .i64 4)))], none⟩, ⟨(some 1), .alloc (some 1) [(.int .u32 0), (.int .u32 0), (.int .i64 0), (.int .i64 0)], none⟩, ⟨none, .store 4 (.tmp 1) (.tmp 2), none⟩]))
 (.seq (.keep [1] [1] (.dreg [(false, ⟨(some 3), .load (some 4) (.tmp 1), none⟩, true), (false, ⟨(some 4), .call 51 [], none⟩, false), (false, ⟨(some 5), .call 39 [(.tmp 3), (.val (.int .i64 0)), (.tmp 4)], none⟩, false), (false, ⟨(some 6), .bin .eql (.tmp 5) (.val (.int .u32 3)), none⟩, false), (false, ⟨(some 7), .mov (.tmp 6), none⟩, false), (false, ⟨(some 8), .load (some 4) (.tmp 1), (some (7, true))⟩, true), (false, ⟨(some 9), .call 51 [], (some (7, true))⟩, false), (false, ⟨(some 10), .call 41 [(.tmp 8), (.val (.int .i64 0)), (.tmp 9)], (some (7, true))⟩, false), (false, ⟨(some 11), .bin .eql (.tmp 10) (.val (.int .u32 0)), (some (7, true))⟩, false), (false, ⟨(some 12), .pick (.tmp 7) (.tmp 11) (.val (.bool false)), none⟩, false), (false, ⟨(some 13), .mov (.tmp 12), none⟩, false), (false, ⟨(some 14), .load (some 4) (.tmp 1), (some (13, true))⟩, true), (false, ⟨(some 15), .call 51 [], (some (13, true))⟩, false), (false, ⟨(some 16), .call 39 [(.tmp 14), (.val (.int .i64 1)), (.tmp 15)], (some (13, true))⟩, false), (false, ⟨(some 17), .bin .eql (.tmp 16) (.val (.int .u32 2)), (some (13, true))⟩, false), (false, ⟨(some 18), .pick (.tmp 13) (.tmp 17) (.val (.bool false)), none⟩, false), (false, ⟨(some 19), .mov (.tmp 18), none⟩, false), (false, ⟨(some 20), .mkslc 1 2 [(.int .u32 0)] [(0, (.val (.int .u32 2))), (1, (.val (.int .u32 0)))], (some (19, true))⟩, false), (false, ⟨(some 21), .call 43 [(.val (.int .u32 1)), (.tmp 20)], (some (19, true))⟩, false), (false, ⟨(some 22), .bin .eql (.tmp 21) (.val (.int .u32 3)), (some (19, true))⟩, false), (false, ⟨(some 23), .pick (.tmp 19) (.tmp 22) (.val (.bool false)), none⟩, false), (false, ⟨(some 0), .mov (.tmp 23), none⟩, false)]))
 .ret))) }
def h30 : Hints := ⟨[1], [(0, [0], []), (1, [1], [1]), (2, [], []), (3, [], [])]⟩
def a30 : AFn := { n := 26, np := 1, res := [.tmp 2], body :=
 (.seq (.keep [0] [] (.reg [⟨(some 1), .box (some 1) (.tmp 0), none⟩, ⟨(some 2), .mov (.val (.int .i64 0)), none⟩]))
 (.seq (.seq (.keep [1] [1] (.reg [⟨(some 3), .faddr 1 (.tmp 1), none⟩, ⟨(some 4), .load none (.tmp 3), none⟩, ⟨(some 5), .faddr 0 (.tmp 1), none⟩, ⟨(some 6), .load none (.tmp 5), none⟩, ⟨(some 7), .bin .andNot (.tmp 4) (.tmp 6), none⟩, ⟨(some 8), .bin .neq (.tmp 7) (.val (.int .u32 0)), none⟩, ⟨(some 9), .mov (.tmp 8), none⟩, ⟨(some 10), .faddr 2 (.tmp 1), (some (9, false))⟩, ⟨(some 11), .load none (.tmp 10), (some (9, false))⟩, ⟨(some 12), .bin .lss (.tmp 11) (.val (.int .i64 0)), (some (9, false))⟩, ⟨(some 13), .pick (.tmp 9) (.val (.bool true)) (.tmp 12), none⟩, ⟨(some 14), .mov (.tmp 13), none⟩, ⟨(some 15), .faddr 3 (.tmp 1), (some (14, false))⟩, ⟨(some 16), .load none (.tmp 15), (some (14, false))⟩, ⟨(some 17), .bin .gtr (.tmp 16) (.val (.int .i64 15)), (some (14, false))⟩, ⟨(some 18), .pick (.tmp 14) (.val (.bool true)) (.tmp 17), none⟩, ⟨(some 19), .mov (.tmp 18), none⟩, ⟨(some 20), .faddr 2 (.tmp 1), (some (19, false))⟩, ⟨(some 21), .load none (.tmp 20), (some (19, false))⟩, ⟨(some 22), .faddr 3 (.tmp 1), (some (19, false))⟩, ⟨(some 23), .load none (.tmp 22), (some (19, false))⟩, ⟨(some 24), .bin .gtr (.tmp 21) (.tmp 23), (some (19, false))⟩, ⟨(some 25), .pick (.tmp 19) (.val (.bool true)) (.tmp 24), none⟩]))
 (.cond (.tmp 25) (.seq (.keep [] [] (.reg [⟨(some 2), .mov (.val (.int .i64 2)), none⟩]))
 .ret) .skip))
 (.seq (.keep [] [] (.reg [⟨(some 2), .mov (.val (.int .i64 0)), none⟩]))
 .ret))) }
def h31 : Hints := ⟨[2, 3, 4], [(0, [0, 1], []), (1, [2, 3, 4], [2, 3, 4]), (2, [4], [4]), (3, [2, 3, 4], [2, 3, 4])]⟩
def a31 : AFn := { n := 35, np := 2, res := [.cell 4 (some 4)], body :=
 (.seq (.keep [0, 1] [] (.reg [⟨(some 2), .box (some 2) (.tmp 0), none⟩, ⟨(some 3), .box (some 3) (.tmp 1), none⟩, ⟨(some 4), .alloc (some 4) [(.int .u32 0), (.int .u32 0), (.int .i64 0), (.int .i64 0)], none⟩]))
 (.seq (.seq (.keep [2, 3, 4] [2, 3, 4] (.reg [⟨(some 5), .load (some 4) (.tmp 2), none⟩, ⟨(some 6), .call 30 [(.tmp 5)], none⟩, ⟨(some 7), .bin .neq (.tmp 6) (.val (.int .i64 0)), none⟩, ⟨(some 8), .mov (.tmp 7), none⟩, ⟨(some 9), .load (some 4) (.tmp 3), (some (8, false))⟩, ⟨(some 10), .call 30 [(.tmp 9)], (some (8, false))⟩, ⟨(some 11), .bin .neq (.tmp 10) (.val (.int .i64 0)), (some (8, false))⟩, ⟨(some 12), .pick (.tmp 8) (.val (.bool true)) (.tmp 11), none⟩]))
 (.cond (.tmp 12) (.seq (.keep [4] [4] (.reg [⟨(some 13), .call 28 [], none⟩, ⟨none, .store 4 (.tmp 4) (.tmp 13), none⟩]))
 .ret) .skip))
 (.seq (.keep [2, 3, 4] [2, 3, 4] (.reg [⟨(some 14), .faddr 0 (.tmp 2), none⟩, ⟨(some 15), .load none (.tmp 14), none⟩, ⟨(some 16), .faddr 0 (.tmp 3), none⟩, ⟨(some 17), .load none (.tmp 16), none⟩, ⟨(some 18), .bin .or (.tmp 15) (.tmp 17), none⟩, ⟨(some 19), .faddr 1 (.tmp 2), none⟩, ⟨(some 20), .load none (.tmp 19), none⟩, ⟨(some 21), .faddr 1 (.tmp 3), none⟩, ⟨(some 22), .load none (.tmp 21), none⟩, ⟨(some 23), .bin .and (.tmp 20) (.tmp 22), none⟩, ⟨(some 24), .faddr 2 (.tmp 2), none⟩, ⟨(some 25), .load none (.tmp 24), none⟩, ⟨(some 26), .faddr 2 (.tmp 3), none⟩, ⟨(some 27), .load none (.tmp 26), none⟩, ⟨(some 28), .min [(.tmp 25), (.tmp 27)], none⟩, ⟨(some 29), .faddr 3 (.tmp 2), none⟩, ⟨(some 30), .load none (.tmp 29), none⟩, ⟨(some 31), .faddr 3 (.tmp 3), none⟩, ⟨(some 32), .load none (.tmp 31), none⟩, ⟨(some 33), .max [(.tmp 30), (.tmp 32)], none⟩, ⟨(some 34), .build [(.int .u32 0), (.int .u32 0), (.int .i64 0), (.int .i64 0)] [(0, 1, (.tmp 18)), (1, 1, (.tmp 23)), (2, 1, (.tmp 28)), (3, 1, (.tmp 33))], none⟩, ⟨none, .store 4 (.tmp 4) (.tmp 34), none⟩]))
 .ret))) }
def h32 : Hints := ⟨[2, 3], [(0, [0, 1], []), (1, [2, 3], [2, 3])]⟩
def a32 : AFn := { n := 20, np := 2, res := [.tmp 4], body :=
 (.seq (.keep [0, 1] [] (.reg [⟨(some 2), .box (some 2) (.tmp 0), none⟩, ⟨(some 3), .box (some 3) (.tmp 1), none⟩, ⟨(some 4), .mov (.val (.bool false)), none⟩]))
 (.seq (.keep [2, 3] [2, 3] (.dreg [(false, ⟨(some 5), .load (some 4) (.tmp 2), none⟩, false), (false, ⟨(some 6), .call 30 [(.tmp 5)], none⟩, false), (false, ⟨(some 7), .bin .eql (.tmp 6) (.val (.int .i64 0)), none⟩, false), (false, ⟨(some 8), .mov (.tmp 7), none⟩, false), (false, ⟨(some 9), .load (some 4) (.tmp 3), (some (8, true))⟩, false), (false, ⟨(some 10), .call 30 [(.tmp 9)], (some (8, true))⟩, false), (false, ⟨(some 11), .bin .eql (.tmp 10) (.val (.int .i64 0)), (some (8, true))⟩, false), (false, ⟨(some 12), .pick (.tmp 8) (.tmp 11) (.val (.bool false)), none⟩, false), (false, ⟨(some 13), .mov (.tmp 12), none⟩, false), (false, ⟨(some 14), .load (some 4) (.tmp 2), (some (13, true))⟩, false), (false, ⟨(some 15), .load (some 4) (.tmp 3), (some (13, true))⟩, false), (false, ⟨(some 16), .call 31 [(.tmp 14), (.tmp 15)], (some (13, true))⟩, false), (false, ⟨(some 17), .load (some 4) (.tmp 3), (some (13, true))⟩, true), (false, ⟨(some 18), .eq false (.agg [(0, 0), (1, 0), (2, 0), (3, 0)]) (.tmp 16) (.tmp 17), (some (13, true))⟩, false), (false, ⟨(some 19), .pick (.tmp 13) (.tmp 18) (.val (.bool false)), none⟩, false), (false, ⟨(some 4), .mov (.tmp 19), none⟩, false)]))
 .ret)) }
def h33 : Hints := ⟨[1], [(0, [0], []), (1, [1], [1]), (2, [], []), (3, [], [])]⟩
def a33 : AFn := { n := 26, np := 1, res := [.tmp 2], body :=
 (.seq (.keep [0] [] (.reg [⟨(some 1), .box (some 1) (.tmp 0), none⟩, ⟨(some 2), .mov (.val (.int .i64 0)), none⟩]))
 (.seq (.seq (.keep [1] [1] (.reg [⟨(some 3), .faddr 1 (.tmp 1), none⟩, ⟨(some 4), .load none (.tmp 3), none⟩, ⟨(some 5), .faddr 0 (.tmp 1), none⟩, ⟨(some 6), .load none (.tmp 5), none⟩, ⟨(some 7), .bin .andNot (.tmp 4) (.tmp 6), none⟩, ⟨(some 8), .bin .neq (.tmp 7) (.val (.int .u32 0)), none⟩, ⟨(some 9), .mov (.tmp 8), none⟩, ⟨(some 10), .faddr 2 (.tmp 1), (some (9, false))⟩, ⟨(some 11), .load none (.tmp 10), (some (9, false))⟩, ⟨(some 12), .bin .lss (.tmp 11) (.val (.int .i64 0)), (some (9, false))⟩, ⟨(some 13), .pick (.tmp 9) (.val (.bool true)) (.tmp 12), none⟩, ⟨(some 14), .mov (.tmp 13), none⟩, ⟨(some 15), .faddr 2 (.tmp 1), (some (14, false))⟩, ⟨(some 16), .load none (.tmp 15), (some (14, false))⟩, ⟨(some 17), .faddr 3 (.tmp 1), (some (14, false))⟩, ⟨(some 18), .load none (.tmp 17), (some (14, false))⟩, ⟨(some 19), .bin .gtr (.tmp 16) (.tmp 18), (some (14, false))⟩, ⟨(some 20), .pick (.tmp 14) (.val (.bool true)) (.tmp 19), none⟩, ⟨(some 21), .mov (.tmp 20), none⟩, ⟨(some 22), .faddr 3 (.tmp 1), (some (21, false))⟩, ⟨(some 23), .load none (.tmp 22), (some (21, false))⟩, ⟨(some 24), .bin .gtr (.tmp 23) (.val (.int .i64 15)), (some (21, false))⟩, ⟨(some 25), .pick (.tmp 21) (.val (.bool true)) (.tmp 24), none⟩]))
 (.cond (.tmp 25) (.seq (.keep [] [] (.reg [⟨(some 2), .mov (.val (.int .i64 2)), none⟩]))
 .ret) .skip))
 (.seq (.keep [] [] (.reg [⟨(some 2), .mov (.val (.int .i64 0)), none⟩]))
 .ret))) }
def h34 : Hints := ⟨[3], [(0, [0, 1, 2], []), (1, [1, 2, 3], [3])]⟩
def a34 : AFn := { n := 36, np := 3, res := [.tmp 6], body :=
 (.seq (.keep [0, 1, 2] [] (.reg [⟨(some 3), .box (some 3) (.tmp 0), none⟩, ⟨(some 6), .mov (.val (.bool false)), none⟩]))
 (.seq (.keep [1, 2, 3] [3] (.reg [⟨(some 7), .load (some 4) (.tmp 3), none⟩, ⟨(some 8), .call 30 [(.tmp 7)], none⟩, ⟨(some 9), .bin .eql (.tmp 8) (.val (.int .i64 0)), none⟩, ⟨(some 10), .mov (.tmp 9), none⟩, ⟨(some 11), .faddr 1 (.tmp 3), (some (10, true))⟩, ⟨(some 12), .load none (.tmp 11), (some (10, true))⟩, ⟨(some 13), .mov (.tmp 1), (some (10, true))⟩, ⟨(some 14), .bin .andNot (.tmp 12) (.tmp 13), (some (10, true))⟩, ⟨(some 15), .bin .eql (.tmp 14) (.val (.int .u32 0)), (some (10, true))⟩, ⟨(some 16), .pick (.tmp 10) (.tmp 15) (.val (.bool false)), none⟩, ⟨(some 17), .mov (.tmp 16), none⟩, ⟨(some 18), .mov (.tmp 1), (some (17, true))⟩, ⟨(some 19), .faddr 0 (.tmp 3), (some (17, true))⟩, ⟨(some 20), .load none (.tmp 19), (some (17, true))⟩, ⟨(some 21), .bin .andNot (.tmp 18) (.tmp 20), (some (17, true))⟩, ⟨(some 22), .bin .eql (.tmp 21) (.val (.int .u32 0)), (some (17, true))⟩, ⟨(some 23), .pick (.tmp 17) (.tmp 22) (.val (.bool false)), none⟩, ⟨(some 24), .mov (.tmp 23), none⟩, ⟨(some 25), .mov (.tmp 2), (some (24, true))⟩, ⟨(some 26), .faddr 2 (.tmp 3), (some (24, true))⟩, ⟨(some 27), .load none (.tmp 26), (some (24, true))⟩, ⟨(some 28), .bin .geq (.tmp 25) (.tmp 27), (some (24, true))⟩, ⟨(some 29), .pick (.tmp 24) (.tmp 28) (.val (.bool false)), none⟩, ⟨(some 30), .mov (.tmp 29), none⟩, ⟨(some 31), .mov (.tmp 2), (some (30, true))⟩, ⟨(some 32), .faddr 3 (.tmp 3), (some (30, true))⟩, ⟨(some 33), .load none (.tmp 32), (some (30, true))⟩, ⟨(some 34), .bin .leq (.tmp 31) (.tmp 33), (some (30, true))⟩, ⟨(some 35), .pick (.tmp 30) (.tmp 34) (.val (.bool false)), none⟩, ⟨(some 6), .mov (.tmp 35), none⟩]))
 .ret)) }
def h35 : Hints := ⟨[3], [(0, [0, 1, 2], []), (1, [1, 2, 3], [3])]⟩
def a35 : AFn := { n := 36, np := 3, res := [.tmp 6], body :=
 (.seq (.keep [0, 1, 2] [] (.reg [⟨(some 3), .box (some 3) (.tmp 0), none⟩, ⟨(some 6), .mov (.val (.bool false)), none⟩]))
 (.seq (.keep [1, 2, 3] [3] (.reg [⟨(some 7), .load (some 4) (.tmp 3), none⟩, ⟨(some 8), .call 33 [(.tmp 7)], none⟩, ⟨(some 9), .bin .eql (.tmp 8) (.val (.int .i64 0)), none⟩, ⟨(some 10), .mov (.tmp 9), none⟩, ⟨(some 11), .faddr 1 (.tmp 3), (some (10, true))⟩, ⟨(some 12), .load none (.tmp 11), (some (10, true))⟩, ⟨(some 13), .mov (.tmp 1), (some (10, true))⟩, ⟨(some 14), .bin .andNot (.tmp 12) (.tmp 13), (some (10, true))⟩, ⟨(some 15), .bin .eql (.tmp 14) (.val (.int .u32 0)), (some (10, true))⟩, ⟨(some 16), .pick (.tmp 10) (.tmp 15) (.val (.bool false)), none⟩, ⟨(some 17), .mov (.tmp 16), none⟩, ⟨(some 18), .mov (.tmp 1), (some (17, true))⟩, ⟨(some 19), .faddr 0 (.tmp 3), (some (17, true))⟩, ⟨(some 20), .load none (.tmp 19), (some (17, true))⟩, ⟨(some 21), .bin .andNot (.tmp 18) (.tmp 20), (some (17, true))⟩, ⟨(some 22), .bin .eql (.tmp 21) (.val (.int .u32 0)), (some (17, true))⟩, ⟨(some 23), .pick (.tmp 17) (.tmp 22) (.val (.bool false)), none⟩, ⟨(some 24), .mov (.tmp 23), none⟩, ⟨(some 25), .mov (.tmp 2), (some (24, true))⟩, ⟨(some 26), .faddr 2 (.tmp 3), (some (24, true))⟩, ⟨(some 27), .load none (.tmp 26), (some (24, true))⟩, ⟨(some 28), .bin .geq (.tmp 25) (.tmp 27), (some (24, true))⟩, ⟨(some 29), .pick (.tmp 24) (.tmp 28) (.val (.bool false)), none⟩, ⟨(some 30), .mov (.tmp 29), none⟩, ⟨(some 31), .mov (.tmp 2), (some (30, true))⟩, ⟨(some 32), .faddr 3 (.tmp 3), (some (30, true))⟩, ⟨(some 33), .load none (.tmp 32), (some (30, true))⟩, ⟨(some 34), .bin .leq (.tmp 31) (.tmp 33), (some (30, true))⟩, ⟨(some 35), .pick (.tmp 30) (.tmp 34) (.val (.bool false)), none⟩, ⟨(some 6), .mov (.tmp 35), none⟩]))
 .ret)) }
def h36 : Hints := ⟨[2, 3], [(0, [0, 1], []), (1, [2, 3], [2, 3])]⟩
def a36 : AFn := { n := 43, np := 2, res := [.tmp 4], body :=
 (.seq (.keep [0, 1] [] (.reg [⟨(some 2), .box (some 2) (.tmp 0), none⟩, ⟨(some 3), .box (some 3) (.tmp 1), none⟩, ⟨(some 4), .mov (.val (.bool false)), none⟩]))
 (.seq (.keep [2, 3] [2, 3] (.reg [⟨(some 5), .load (some 4) (.tmp 2), none⟩, ⟨(some 6), .call 33 [(.tmp 5)], none⟩, ⟨(some 7), .bin .eql (.tmp 6) (.val (.int .i64 0)), none⟩, ⟨(some 8), .mov (.tmp 7), none⟩, ⟨(some 9), .load (some 4) (.tmp 3), (some (8, true))⟩, ⟨(some 10), .call 33 [(.tmp 9)], (some (8, true))⟩, ⟨(some 11), .bin .eql (.tmp 10) (.val (.int .i64 0)), (some (8, true))⟩, ⟨(some 12), .pick (.tmp 8) (.tmp 11) (.val (.bool false)), none⟩, ⟨(some 13), .mov (.tmp 12), none⟩, ⟨(some 14), .faddr 0 (.tmp 2), (some (13, true))⟩, ⟨(some 15), .load none (.tmp 14), (some (13, true))⟩, ⟨(some 16), .faddr 0 (.tmp 3), (some (13, true))⟩, ⟨(some 17), .load none (.tmp 16), (some (13, true))⟩, ⟨(some 18), .bin .andNot (.tmp 15) (.tmp 17), (some (13, true))⟩, ⟨(some 19), .bin .eql (.tmp 18) (.val (.int .u32 0)), (some (13, true))⟩, ⟨(some 20), .pick (.tmp 13) (.tmp 19) (.val (.bool false)), none⟩, ⟨(some 21), .mov (.tmp 20), none⟩, ⟨(some 22), .faddr 1 (.tmp 3), (some (21, true))⟩, ⟨(some 23), .load none (.tmp 22), (some (21, true))⟩, ⟨(some 24), .faddr 1 (.tmp 2), (some (21, true))⟩, ⟨(some 25), .load none (.tmp 24), (some (21, true))⟩, ⟨(some 26), .bin .andNot (.tmp 23) (.tmp 25), (some (21, true))⟩, ⟨(some 27), .bin .eql (.tmp 26) (.val (.int .u32 0)), (some (21, true))⟩, ⟨(some 28), .pick (.tmp 21) (.tmp 27) (.val (.bool false)), none⟩, ⟨(some 29), .mov (.tmp 28), none⟩, ⟨(some 30), .faddr 2 (.tmp 2), (some (29, true))⟩, ⟨(some 31), .load none (.tmp 30), (some (29, true))⟩, ⟨(some 32), .faddr 2 (.tmp 3), (some (29, true))⟩, ⟨(some 33), .load none (.tmp 32), (some (29, true))⟩, ⟨(some 34), .bin .geq (.tmp 31) (.tmp 33), (some (29, true))⟩, ⟨(some 35), .pick (.tmp 29) (.tmp 34) (.val (.bool false)), none⟩, ⟨(some 36), .mov (.tmp 35), none⟩, ⟨(some 37), .faddr 3 (.tmp 2), (some (36, true))⟩, ⟨(some 38), .load none (.tmp 37), (some (36, true))⟩, ⟨(some 39), .faddr 3 (.tmp 3), (some (36, true))⟩, ⟨(some 40), .load none (.tmp 39), (some (36, true))⟩, ⟨(some 41), .bin .leq (.tmp 38) (.tmp 40), (some (36, true))⟩, ⟨(some 42), .pick (.tmp 36) (.tmp 41) (.val (.bool false)), none⟩, ⟨(some 4), .mov (.tmp 42), none⟩]))
 .ret)) }
def h37 : Hints := ⟨[2, 3, 4], [(0, [0, 1], []), (1, [2, 3, 4], [2, 3, 4]), (2, [4], [4]), (3, [2, 3, 4], [2, 3, 4])]⟩
def a37 : AFn := { n := 35, np := 2, res := [.cell 4 (some 4)], body :=
 (.seq (.keep [0, 1] [] (.reg [⟨(some 2), .box (some 2) (.tmp 0), none⟩, ⟨(some 3), .box (some 3) (.tmp 1), none⟩, ⟨(some 4), .alloc (some 4) [(.int .u32 0), (.int .u32 0), (.int .i64 0), (.int .i64 0)], none⟩]))
 (.seq (.seq (.keep [2, 3, 4] [2, 3, 4] (.reg [⟨(some 5), .load (some 4) (.tmp 2), none⟩, ⟨(some 6), .call 33 [(.tmp 5)], none⟩, ⟨(some 7), .bin .neq (.tmp 6) (.val (.int .i64 0)), none⟩, ⟨(some 8), .mov (.tmp 7), none⟩, ⟨(some 9), .load (some 4) (.tmp 3), (some (8, false))⟩, ⟨(some 10), .call 33 [(.tmp 9)], (some (8, false))⟩, ⟨(some 11), .bin .neq (.tmp 10) (.val (.int .i64 0)), (some (8, false))⟩, ⟨(some 12), .pick (.tmp 8) (.val (.bool true)) (.tmp 11), none⟩]))
 (.cond (.tmp 12) (.seq (.keep [4] [4] (.reg [⟨(some 13), .call 46 [], none⟩, ⟨none, .store 4 (.tmp 4) (.tmp 13), none⟩]))
 .ret) .skip))
 (.seq (.keep [2, 3, 4] [2, 3, 4] (.reg [⟨(some 14), .faddr 0 (.tmp 2), none⟩, ⟨(some 15), .load none (.tmp 14), none⟩, ⟨(some 16), .faddr 0 (.tmp 3), none⟩, ⟨(some 17), .load none (.tmp 16), none⟩, ⟨(some 18), .bin .or (.tmp 15) (.tmp 17), none⟩, ⟨(some 19), .faddr 1 (.tmp 2), none⟩, ⟨(some 20), .load none (.tmp 19), none⟩, ⟨(some 21), .faddr 1 (.tmp 3), none⟩, ⟨(some 22), .load none (.tmp 21), none⟩, ⟨(some 23), .bin .and (.tmp 20) (.tmp 22), none⟩, ⟨(some 24), .faddr 2 (.tmp 2), none⟩, ⟨(some 25), .load none (.tmp 24), none⟩, ⟨(some 26), .faddr 2 (.tmp 3), none⟩, ⟨(some 27), .load none (.tmp 26), none⟩, ⟨(some 28), .min [(.tmp 25), (.tmp 27)], none⟩, ⟨(some 29), .faddr 3 (.tmp 2), none⟩, ⟨(some 30), .load none (.tmp 29), none⟩, ⟨(some 31), .faddr 3 (.tmp 3), none⟩, ⟨(some 32), .load none (.tmp 31), none⟩, ⟨(some 33), .max [(.tmp 30), (.tmp 32)], none⟩, ⟨(some 34), .build [(.int .u32 0), (.int .u32 0), (.int .i64 0), (.int .i64 0)] [(0, 1, (.tmp 18)), (1, 1, (.tmp 23)), (2, 1, (.tmp 28)), (3, 1, (.tmp 33))], none⟩, ⟨none, .store 4 (.tmp 4) (.tmp 34), none⟩]))
 .ret))) }
def h38 : Hints := ⟨[2, 3, 4], [(0, [0, 1], []), (1, [2, 3, 4], [2, 3, 4]), (2, [3, 4], [3, 4]), (3, [2, 3, 4], [2, 3, 4]), (4, [2, 3, 4, 15], [2, 3, 4]), (5, [2, 3, 4], [2, 3, 4]), (6, [2, 3, 4, 15], [2, 3, 4]), (7, [2, 3, 4], [2, 3, 4]), (8, [2, 3, 4, 15], [2, 3, 4]), (9, [2, 3, 4], [2, 3, 4]), (10, [3, 4], [3, 4])]⟩
def a38 : AFn := { n := 61, np := 2, res := [.cell 4 (some 4)], body :=
 (.seq (.keep [0, 1] [] (.reg [⟨(some 2), .box (some 2) (.tmp 0), none⟩, ⟨(some 3), .box (some 3) (.tmp 1), none⟩, ⟨(some 4), .alloc (some 4) [(.int .u32 0), (.int .u32 0), (.int .i64 0), (.int .i64 0)], none⟩]))
 (.seq (.seq (.keep [2, 3, 4] [2, 3, 4] (.reg [⟨(some 5), .load (some 4) (.tmp 3), none⟩, ⟨(some 6), .call 33 [(.tmp 5)], none⟩, ⟨(some 7), .bin .neq (.tmp 6) (.val (.int .i64 0)), none⟩, ⟨(some 8), .mov (.tmp 7), none⟩, ⟨(some 9), .load (some 4) (.tmp 2), (some (8, false))⟩, ⟨(some 10), .call 52 [(.tmp 9)], (some (8, false))⟩, ⟨(some 11), .bin .neq (.tmp 10) (.val (.int .i64 0)), (some (8, false))⟩, ⟨(some 12), .pick (.tmp 8) (.val (.bool true)) (.tmp 11), none⟩]))
 (.cond (.tmp 12) (.seq (.keep [3, 4] [3, 4] (.reg [⟨(some 13), .load (some 4) (.tmp 3), none⟩, ⟨none, .store 4 (.tmp 4) (.tmp 13), none⟩]))
 .ret) .skip))
 (.seq (.seq (.keep [2, 3, 4] [2, 3, 4] (.reg [⟨(some 14), .faddr 0 (.tmp 2), none⟩, ⟨(some 15), .load none (.tmp 14), none⟩]))
 (.block 0 (.seq (.keep [2, 3, 4, 15] [2, 3, 4] (.reg [⟨(some 17), .bin .eql (.tmp 15) (.val (.int .i64 19)), none⟩, ⟨(some 16), .mov (.tmp 17), none⟩]))
 (.cond (.tmp 16) (.keep [2, 3, 4] [2, 3, 4] (.dreg [(false, ⟨(some 18), .faddr 0 (.tmp 3), none⟩, false), (false, ⟨(some 19), .load none (.tmp 18), none⟩, false), (false, ⟨(some 20), .faddr 1 (.tmp 2), none⟩, false), (false, ⟨(some 21), .load none (.tmp 20), none⟩, false), (false, ⟨(some 22), .conv .u64 (.tmp 21), none⟩, false), (false, ⟨(some 23), .bin .shl (.val (.int .u32 1)) (.tmp 22), none⟩, false), (false, ⟨(some 24), .bin .or (.tmp 19) (.tmp 23), none⟩, false), (false, ⟨(some 25), .faddr 1 (.tmp 3), none⟩, false), (false, ⟨(some 26), .load none (.tmp 25), none⟩, false), (false, ⟨(some 27), .faddr 1 (.tmp 2), none⟩, false), (true, ⟨(some 28), .load none (.tmp 27), none⟩, false), (false, ⟨(some 29), .conv .u64 (.tmp 28), none⟩, false), (false, ⟨(some 30), .bin .shl (.val (.int .u32 1)) (.tmp 29), none⟩, false), (false, ⟨(some 31), .bin .or (.tmp 26) (.tmp 30), none⟩, false), (false, ⟨(some 32), .faddr 0 (.tmp 3), none⟩, false), (true, ⟨none, .store 1 (.tmp 32) (.tmp 24), none⟩, false), (false, ⟨(some 33), .faddr 1 (.tmp 3), none⟩, false), (false, ⟨none, .store 1 (.tmp 33) (.tmp 31), none⟩, false)])) (.seq (.keep [2, 3, 4, 15] [2, 3, 4] (.reg [⟨(some 35), .bin .eql (.tmp 15) (.val (.int .i64 20)), none⟩, ⟨(some 34), .mov (.tmp 35), none⟩]))
 (.cond (.tmp 34) (.keep [2, 3, 4] [2, 3, 4] (.dreg [(false, ⟨(some 36), .faddr 0 (.tmp 3), none⟩, false), (false, ⟨(some 37), .load none (.tmp 36), none⟩, false), (false, ⟨(some 38), .faddr 1 (.tmp 2), none⟩, false), (false, ⟨(some 39), .load none (.tmp 38), none⟩, false), (false, ⟨(some 40), .conv .u64 (.tmp 39), none⟩, false), (false, ⟨(some 41), .bin .shl (.val (.int .u32 1)) (.tmp 40), none⟩, false), (false, ⟨(some 42), .bin .andNot (.tmp 37) (.tmp 41), none⟩, false), (false, ⟨(some 43), .faddr 1 (.tmp 3), none⟩, false), (false, ⟨(some 44), .load none (.tmp 43), none⟩, false), (false, ⟨(some 45), .faddr 1 (.tmp 2), none⟩, false), (true, ⟨(some 46), .load none (.tmp 45), none⟩, false), (false, ⟨(some 47), .conv .u64 (.tmp 46), none⟩, false), (false, ⟨(some 48), .bin .shl (.val (.int .u32 1)) (.tmp 47), none⟩, false), (false, ⟨(some 49), .bin .andNot (.tmp 44) (.tmp 48), none⟩, false), (false, ⟨(some 50), .faddr 0 (.tmp 3), none⟩, false), (true, ⟨none, .store 1 (.tmp 50) (.tmp 42), none⟩, false), (false, ⟨(some 51), .faddr 1 (.tmp 3), none⟩, false), (false, ⟨none, .store 1 (.tmp 51) (.tmp 49), none⟩, false)])) (.seq (.keep [2, 3, 4, 15] [2, 3, 4] (.reg [⟨(some 53), .bin .eql (.tmp 15) (.val (.int .i64 21)), none⟩, ⟨(some 52), .mov (.tmp 53), none⟩]))
 (.cond (.tmp 52) (.keep [2, 3, 4] [2, 3, 4] (.dreg [(false, ⟨(some 54), .faddr 1 (.tmp 2), none⟩, false), (false, ⟨(some 55), .load none (.tmp 54), none⟩, false), (false, ⟨(some 56), .faddr 1 (.tmp 2), none⟩, false), (true, ⟨(some 57), .load none (.tmp 56), none⟩, false), (false, ⟨(some 58), .faddr 2 (.tmp 3), none⟩, false), (true, ⟨none, .store 1 (.tmp 58) (.tmp 55), none⟩, false), (false, ⟨(some 59), .faddr 3 (.tmp 3), none⟩, false), (false, ⟨none, .store 1 (.tmp 59) (.tmp 57), none⟩, false)])) .skip))))))))
 (.seq (.keep [3, 4] [3, 4] (.reg [⟨(some 60), .load (some 4) (.tmp 3), none⟩, ⟨none, .store 4 (.tmp 4) (.tmp 60), none⟩]))
 .ret)))) }
def h39 : Hints := ⟨[3], [(0, [0, 1, 2], []), (1, [1, 2, 3], [3]), (2, [], []), (3, [1, 2, 3], [3])]⟩
def a39 : AFn := { n := 17, np := 3, res := [.tmp 6], body :=
 (.seq (.keep [0, 1, 2] [] (.reg [⟨(some 3), .box (some 3) (.tmp 0), none⟩, ⟨(some 6), .mov (.val (.int .u32 0)), none⟩]))
 (.seq (.seq (.keep [1, 2, 3] [3] (.reg [⟨(some 7), .load (some 4) (.tmp 3), none⟩, ⟨(some 8), .call 30 [(.tmp 7)], none⟩, ⟨(some 9), .bin .neq (.tmp 8) (.val (.int .i64 0)), none⟩]))
 (.cond (.tmp 9) (.seq (.keep [] [] (.reg [⟨(some 6), .mov (.val (.int .u32 0)), none⟩]))
 .ret) .skip))
 (.seq (.keep [1, 2, 3] [3] (.reg [⟨(some 10), .faddr 0 (.tmp 3), none⟩, ⟨(some 11), .load none (.tmp 10), none⟩, ⟨(some 12), .faddr 2 (.tmp 3), none⟩, ⟨(some 13), .load none (.tmp 12), none⟩, ⟨(some 14), .mov (.tmp 1), none⟩, ⟨(some 15), .mov (.tmp 2), none⟩, ⟨(some 16), .call 53 [(.tmp 11), (.tmp 13), (.tmp 14), (.tmp 15)], none⟩, ⟨(some 6), .mov (.tmp 16), none⟩]))
 .ret))) }
def h40 : Hints := ⟨[3], [(0, [0, 1, 2], []), (1, [1, 2, 3], [3]), (2, [], []), (3, [1, 2, 3], [3])]⟩
def a40 : AFn := { n := 17, np := 3, res := [.tmp 6], body :=
 (.seq (.keep [0, 1, 2] [] (.reg [⟨(some 3), .box (some 3) (.tmp 0), none⟩, ⟨(some 6), .mov (.val (.int .u32 0)), none⟩]))
 (.seq (.seq (.keep [1, 2, 3] [3] (.reg [⟨(some 7), .load (some 4) (.tmp 3), none⟩, ⟨(some 8), .call 33 [(.tmp 7)], none⟩, ⟨(some 9), .bin .neq (.tmp 8) (.val (.int .i64 0)), none⟩]))
 (.cond (.tmp 9) (.seq (.keep [] [] (.reg [⟨(some 6), .mov (.val (.int .u32 0)), none⟩]))
 .ret) .skip))
 (.seq (.keep [1, 2, 3] [3] (.reg [⟨(some 10), .faddr 0 (.tmp 3), none⟩, ⟨(some 11), .load none (.tmp 10), none⟩, ⟨(some 12), .faddr 2 (.tmp 3), none⟩, ⟨(some 13), .load none (.tmp 12), none⟩, ⟨(some 14), .mov (.tmp 1), none⟩, ⟨(some 15), .mov (.tmp 2), none⟩, ⟨(some 16), .call 54 [(.tmp 11), (.tmp 13), (.tmp 14), (.tmp 15)], none⟩, ⟨(some 6), .mov (.tmp 16), none⟩]))
 .ret))) }
def h41 : Hints := ⟨[3], [(0, [0, 1, 2], []), (1, [1, 2, 3], [3]), (2, [], []), (3, [1, 2, 3], [3])]⟩
def a41 : AFn := { n := 17, np := 3, res := [.tmp 6], body :=
 (.seq (.keep [0, 1, 2] [] (.reg [⟨(some 3), .box (some 3) (.tmp 0), none⟩, ⟨(some 6), .mov (.val (.int .u32 0)), none⟩]))
 (.seq (.seq (.keep [1, 2, 3] [3] (.reg [⟨(some 7), .load (some 4) (.tmp 3), none⟩, ⟨(some 8), .call 30 [(.tmp 7)], none⟩, ⟨(some 9), .bin .neq (.tmp 8) (.val (.int .i64 0)), none⟩]))
 (.cond (.tmp 9) (.seq (.keep [] [] (.reg [⟨(some 6), .mov (.val (.int .u32 0)), none⟩]))
 .ret) .skip))
 (.seq (.keep [1, 2, 3] [3] (.reg [⟨(some 10), .faddr 1 (.tmp 3), none⟩, ⟨(some 11), .load none (.tmp 10), none⟩, ⟨(some 12), .faddr 3 (.tmp 3), none⟩, ⟨(some 13), .load none (.tmp 12), none⟩, ⟨(some 14), .mov (.tmp 1), none⟩, ⟨(some 15), .mov (.tmp 2), none⟩, ⟨(some 16), .call 53 [(.tmp 11), (.tmp 13), (.tmp 14), (.tmp 15)], none⟩, ⟨(some 6), .mov (.tmp 16), none⟩]))
 .ret))) }
def h42 : Hints := ⟨[3], [(0, [0, 1, 2], []), (1, [1, 2, 3], [3]), (2, [], []), (3, [1, 2, 3], [3])]⟩
def a42 : AFn := { n := 17, np := 3, res := [.tmp 6], body :=
 (.seq (.keep [0, 1, 2] [] (.reg [⟨(some 3), .box (some 3) (.tmp 0), none⟩, ⟨(some 6), .mov (.val (.int .u32 0)), none⟩]))
 (.seq (.seq (.keep [1, 2, 3] [3] (.reg [⟨(some 7), .load (some 4) (.tmp 3), none⟩, ⟨(some 8), .call 33 [(.tmp 7)], none⟩, ⟨(some 9), .bin .neq (.tmp 8) (.val (.int .i64 0)), none⟩]))
 (.cond (.tmp 9) (.seq (.keep [] [] (.reg [⟨(some 6), .mov (.val (.int .u32 0)), none⟩]))
 .ret) .skip))
 (.seq (.keep [1, 2, 3] [3] (.reg [⟨(some 10), .faddr 1 (.tmp 3), none⟩, ⟨(some 11), .load none (.tmp 10), none⟩, ⟨(some 12), .faddr 3 (.tmp 3), none⟩, ⟨(some 13), .load none (.tmp 12), none⟩, ⟨(some 14), .mov (.tmp 1), none⟩, ⟨(some 15), .mov (.tmp 2), none⟩, ⟨(some 16), .call 54 [(.tmp 11), (.tmp 13), (.tmp 14), (.tmp 15)], none⟩, ⟨(some 6), .mov (.tmp 16), none⟩]))
 .ret))) }
def h43 : Hints := ⟨[], [(0, [0, 1], []), (1, [0, 1], []), (2, [0, 1, 5], []), (3, [0, 1, 5, 10, 11], []), (4, [0, 1, 5, 10, 11], []), (5, [0, 1, 5, 6, 10, 11], []), (6, [0, 1, 5, 6, 10, 11], []), (7, [0, 1, 5, 10, 11], []), (8, [0, 1, 5], []), (9, [0], [])]⟩
def a43_B1 : AC := (.seq (.keep [0, 1, 5, 10, 11] [] (.reg [⟨(some 12), .bin .lss (.tmp 11) (.tmp 10), none⟩]))
 (.seq (.cond (.tmp 12) .skip (.exit 2))
 (.seq (.block 3 (.seq (.keep [0, 1, 5, 10, 11] [] (.reg [⟨(some 13), .mov (.tmp 11), none⟩, ⟨(some 6), .mov (.tmp 13), none⟩]))
 (.seq (.keep [0, 1, 5, 6, 10, 11] [] (.reg [⟨(some 14), .mov (.tmp 5), none⟩, ⟨(some 15), .mov (.tmp 6), none⟩, ⟨(some 16), .bin .shr (.tmp 14) (.tmp 15), none⟩, ⟨(some 17), .bin .and (.tmp 16) (.val (.int .u32 1)), none⟩, ⟨(some 18), .bin .eql (.tmp 17) (.val (.int .u32 1)), none⟩]))
 (.cond (.tmp 18) (.keep [0, 1, 5, 6, 10, 11] [] (.reg [⟨(some 19), .mov (.tmp 0), none⟩, ⟨(some 20), .mov (.tmp 1), none⟩, ⟨(some 21), .mov (.tmp 6), none⟩, ⟨(some 22), .iaddrL 1 (.tmp 20) (.tmp 21), none⟩, ⟨(some 23), .load none (.tmp 22), none⟩, ⟨(some 24), .bin .or (.tmp 19) (.tmp 23), none⟩, ⟨(some 0), .mov (.tmp 24), none⟩])) .skip))))
 (.keep [0, 1, 5, 10, 11] [] (.reg [⟨(some 25), .bin .add (.tmp 11) (.val (.int .i64 1)), none⟩, ⟨(some 11), .mov (.tmp 25), none⟩])))))
def a43_L1 : AC := .loop a43_B1
theorem a43_L1_step (call : Caller) (again : AC → St → Option (Ex × St)) (s : St) : codeEv call again a43_L1 s = match codeEv call again a43_B1 s with | some (.norm, s1) => again a43_L1 s1 | r => r := rfl
def a43_B2 : AC := (.block 1 (.seq (.keep [0, 1] [] (.reg [⟨(some 7), .mov (.tmp 0), none⟩, ⟨(some 5), .mov (.tmp 7), none⟩]))
 (.seq (.seq (.keep [0, 1, 5] [] (.reg [⟨(some 8), .mov (.tmp 1), none⟩, ⟨(some 9), .lenL (.tmp 8), none⟩, ⟨(some 10), .min [(.tmp 9), (.val (.int .i64 32))], none⟩, ⟨(some 11), .mov (.val (.int .i64 0)), none⟩]))
 (.block 2 a43_L1))
 (.seq (.keep [0, 1, 5] [] (.reg [⟨(some 26), .mov (.tmp 0), none⟩, ⟨(some 27), .mov (.tmp 5), none⟩, ⟨(some 28), .bin .eql (.tmp 26) (.tmp 27), none⟩]))
 (.cond (.tmp 28) (.seq (.keep [0] [] (.reg [⟨(some 29), .mov (.tmp 0), none⟩, ⟨(some 4), .mov (.tmp 29), none⟩]))
 .ret) .skip)))))
def a43_L2 : AC := .loop a43_B2
theorem a43_L2_step (call : Caller) (again : AC → St → Option (Ex × St)) (s : St) : codeEv call again a43_L2 s = match codeEv call again a43_B2 s with | some (.norm, s1) => again a43_L2 s1 | r => r := rfl
def a43 : AFn := { n := 30, np := 2, res := [.tmp 4], body :=
 (.seq (.keep [0, 1] [] (.reg [⟨(some 4), .mov (.val (.int .u32 0)), none⟩]))
 (.block 0 a43_L2)) }
def h44 : Hints := ⟨[], [(0, [0], []), (1, [0], [])]⟩
def a44 : AFn := { n := 6, np := 1, res := [.tmp 2], body :=
 (.seq (.keep [0] [] (.reg [⟨(some 2), .mov (.val .nils), none⟩]))
 (.seq (.keep [0] [] (.reg [⟨(some 3), .mkslc 1 0 [(.int .u32 0)] [], none⟩, ⟨(some 4), .mov (.tmp 0), none⟩, ⟨(some 5), .app 1 4 (.tmp 3) (.tmp 4), none⟩, ⟨(some 2), .mov (.tmp 5), none⟩]))
 .ret)) }
def h45 : Hints := ⟨[], [(0, [0, 1], []), (1, [0, 1], []), (2, [0, 1, 5], []), (3, [0, 1, 5, 6], []), (5, [0, 1, 5, 6], []), (6, [0, 1, 5, 6], []), (4, [0, 1, 5, 6], []), (7, [0, 1, 5], []), (8, [0], [])]⟩
def a45_B1 : AC := (.seq (.seq (.keep [0, 1, 5, 6] [] (.reg [⟨(some 8), .mov (.tmp 6), none⟩, ⟨(some 9), .bin .lss (.tmp 8) (.val (.int .i64 32)), none⟩, ⟨(some 10), .mov (.tmp 9), none⟩, ⟨(some 11), .mov (.tmp 6), (some (10, true))⟩, ⟨(some 12), .mov (.tmp 1), (some (10, true))⟩, ⟨(some 13), .lenL (.tmp 12), (some (10, true))⟩, ⟨(some 14), .bin .lss (.tmp 11) (.tmp 13), (some (10, true))⟩, ⟨(some 15), .pick (.tmp 10) (.tmp 14) (.val (.bool false)), none⟩]))
 (.cond (.tmp 15) .skip (.exit 2)))
 (.seq (.block 3 (.seq (.keep [0, 1, 5, 6] [] (.reg [⟨(some 18), .mov (.tmp 0), none⟩, ⟨(some 19), .mov (.tmp 6), none⟩, ⟨(some 20), .conv .u64 (.tmp 19), none⟩, ⟨(some 21), .bin .shr (.tmp 18) (.tmp 20), none⟩, ⟨(some 22), .bin .and (.tmp 21) (.val (.int .u32 1)), none⟩, ⟨(some 23), .bin .eql (.tmp 22) (.val (.int .u32 1)), none⟩]))
 (.cond (.tmp 23) (.keep [0, 1, 5, 6] [] (.reg [⟨(some 24), .mov (.tmp 0), none⟩, ⟨(some 25), .mov (.tmp 1), none⟩, ⟨(some 26), .mov (.tmp 6), none⟩, ⟨(some 27), .iaddrL 1 (.tmp 25) (.tmp 26), none⟩, ⟨(some 28), .load none (.tmp 27), none⟩, ⟨(some 29), .bin .or (.tmp 24) (.tmp 28), none⟩, ⟨(some 0), .mov (.tmp 29), none⟩])) .skip)))
 (.keep [0, 1, 5, 6] [] (.reg [⟨(some 16), .mov (.tmp 6), none⟩, ⟨(some 17), .bin .add (.tmp 16) (.val (.int .i64 1)), none⟩, ⟨(some 6), .mov (.tmp 17), none⟩]))))
def a45_L1 : AC := .loop a45_B1
theorem a45_L1_step (call : Caller) (again : AC → St → Option (Ex × St)) (s : St) : codeEv call again a45_L1 s = match codeEv call again a45_B1 s with | some (.norm, s1) => again a45_L1 s1 | r => r := rfl
def a45_B2 : AC := (.block 1 (.seq (.keep [0, 1] [] (.reg [⟨(some 7), .mov (.tmp 0), none⟩, ⟨(some 5), .mov (.tmp 7), none⟩]))
 (.seq (.seq (.keep [0, 1, 5] [] (.reg [⟨(some 6), .mov (.val (.int .i64 0)), none⟩]))
 (.block 2 a45_L1))
 (.seq (.keep [0, 1, 5] [] (.reg [⟨(some 30), .mov (.tmp 0), none⟩, ⟨(some 31), .mov (.tmp 5), none⟩, ⟨(some 32), .bin .eql (.tmp 30) (.tmp 31), none⟩]))
 (.cond (.tmp 32) (.seq (.keep [0] [] (.reg [⟨(some 33), .mov (.tmp 0), none⟩, ⟨(some 4), .mov (.tmp 33), none⟩]))
 .ret) .skip)))))
def a45_L2 : AC := .loop a45_B2
theorem a45_L2_step (call : Caller) (again : AC → St → Option (Ex × St)) (s : St) : codeEv call again a45_L2 s = match codeEv call again a45_B2 s with | some (.norm, s1) => again a45_L2 s1 | r => r := rfl
def a45 : AFn := { n := 34, np := 2, res := [.tmp 4], body :=
 (.seq (.keep [0, 1] [] (.reg [⟨(some 4), .mov (.val (.int .u32 0)), none⟩]))
 (.block 0 a45_L2)) }
def h46 : Hints := ⟨[0], [(0, [], []), (1, [0], [0])]⟩
def a46 : AFn := { n := 2, np := 0, res := [.cell 0 (some 4)], body :=
 (.seq (.keep [] [] (.reg [⟨(some 0), .alloc (some 0) [(.int .u32 0), (.int .u32 0), (.int .i64 0), (.int .i64 0)], none⟩]))
 (.seq (.keep [0] [0] (.reg [⟨(some 1), .build [(.int .u32 0), (.int .u32 0), (.int .i64 0), (.int .i64 0)] [], none⟩, ⟨none, .store 4 (.tmp 0) (.tmp 1), none⟩]))
 .ret)) }
def h50 : Hints := ⟨[1, 3], [(0, [0], []), (1, [1], [1]), (2, [], []), (3, [1], [1]), (4, [1, 3], [1, 3]), (5, [], []), (6, [], [])]⟩
def a50 : AFn := { n := 41, np := 1, res := [.tmp 2], body :=
 (.seq (.keep [0] [] (.reg [⟨(some 1), .box (some 1) (.tmp 0), none⟩, ⟨(some 2), .mov (.val (.int .i64 0)), none⟩]))
 (.seq (.seq (.keep [1] [1] (.reg [⟨(some 4), .faddr 0 (.tmp 1), none⟩, ⟨(some 5), .load none (.tmp 4), none⟩, ⟨(some 6), .bin .lss (.tmp 5) (.val (.int .i64 1)), none⟩, ⟨(some 7), .mov (.tmp 6), none⟩, ⟨(some 8), .faddr 0 (.tmp 1), (some (7, false))⟩, ⟨(some 9), .load none (.tmp 8), (some (7, false))⟩, ⟨(some 10), .load none (.val (.ptr 1 0)), (some (7, false))⟩, ⟨(some 11), .lenL (.tmp 10), (some (7, false))⟩, ⟨(some 12), .bin .geq (.tmp 9) (.tmp 11), (some (7, false))⟩, ⟨(some 13), .pick (.tmp 7) (.val (.bool true)) (.tmp 12), none⟩]))
 (.cond (.tmp 13) (.seq (.keep [] [] (.reg [⟨(some 2), .mov (.val (.int .i64 2)), none⟩]))
 .ret) .skip))
 (.seq (.keep [1] [1] (.reg [⟨(some 14), .load none (.val (.ptr 1 0)), none⟩, ⟨(some 15), .faddr 0 (.tmp 1), none⟩, ⟨(some 16), .load none (.tmp 15), none⟩, ⟨(some 17), .iaddrL 6 (.tmp 14) (.tmp 16), none⟩, ⟨(some 18), .load (some 6) (.tmp 17), none⟩, ⟨(some 3), .alloc (some 3) [(.str ⟨#[]⟩), (.int .i64 0), (.int .i64 0), (.int .i64 0), (.int .i64 0), (.int .i64 0)], none⟩, ⟨none, .store 6 (.tmp 3) (.tmp 18), none⟩]))
 (.seq (.seq (.keep [1, 3] [1, 3] (.reg [⟨(some 19), .faddr 1 (.tmp 3), none⟩, ⟨(some 20), .load none (.tmp 19), none⟩, ⟨(some 21), .faddr 1 (.tmp 1), none⟩, ⟨(some 22), .load none (.tmp 21), none⟩, ⟨(some 23), .call 55 [(.tmp 20), (.tmp 22)], none⟩, ⟨(some 24), .un .not (.tmp 23), none⟩, ⟨(some 25), .mov (.tmp 24), none⟩, ⟨(some 26), .faddr 2 (.tmp 3), (some (25, false))⟩, ⟨(some 27), .load none (.tmp 26), (some (25, false))⟩, ⟨(some 28), .faddr 2 (.tmp 1), (some (25, false))⟩, ⟨(some 29), .load none (.tmp 28), (some (25, false))⟩, ⟨(some 30), .call 55 [(.tmp 27), (.tmp 29)], (some (25, false))⟩, ⟨(some 31), .un .not (.tmp 30), (some (25, false))⟩, ⟨(some 32), .pick (.tmp 25) (.val (.bool true)) (.tmp 31), none⟩, ⟨(some 33), .mov (.tmp 32), none⟩, ⟨(some 34), .faddr 3 (.tmp 3), (some (33, false))⟩, ⟨(some 35), .load none (.tmp 34), (some (33, false))⟩, ⟨(some 36), .faddr 3 (.tmp 1), (some (33, false))⟩, ⟨(some 37), .load none (.tmp 36), (some (33, false))⟩, ⟨(some 38), .call 55 [(.tmp 35), (.tmp 37)], (some (33, false))⟩, ⟨(some 39), .un .not (.tmp 38), (some (33, false))⟩, ⟨(some 40), .pick (.tmp 33) (.val (.bool true)) (.tmp 39), none⟩]))
 (.cond (.tmp 40) (.seq (.keep [] [] (.reg [⟨(some 2), .mov (.val (.int .i64 2)), none⟩]))
 .ret) .skip))
 (.seq (.keep [] [] (.reg [⟨(some 2), .mov (.val (.int .i64 0)), none⟩]))
 .ret))))) }
def h51 : Hints := ⟨[], [(0, [], []), (1, [], [])]⟩
def a51 : AFn := { n := 4, np := 0, res := [.tmp 0], body :=
 (.seq (.keep [] [] (.reg [⟨(some 0), .mov (.val .nils), none⟩]))
 (.seq (.keep [] [] (.reg [⟨(some 1), .build [(.int .i64 0), (.int .i64 0), (.int .i64 0)] [(0, 1, (.val (.int .i64 0))), (1, 1, (.val (.int .i64 1)))], none⟩, ⟨(some 2), .build [(.int .i64 0), (.int .i64 0), (.int .i64 0)] [(0, 1, (.val (.int .i64 1))), (1, 1, (.val (.int .i64 5)))], none⟩, ⟨(some 3), .mkslc 3 2 [(.int .i64 0), (.int .i64 0), (.int .i64 0)] [(0, (.tmp 1)), (1, (.tmp 2))], none⟩, ⟨(some 0), .mov (.tmp 3), none⟩]))
 .ret)) }
def h52 : Hints := ⟨[1, 3], [(0, [0], []), (1, [1], [1]), (2, [1, 3], [1, 3]), (3, [], []), (4, [], [])]⟩
def a52 : AFn := { n := 39, np := 1, res := [.tmp 2], body :=
 (.seq (.keep [0] [] (.reg [⟨(some 1), .box (some 1) (.tmp 0), none⟩, ⟨(some 2), .mov (.val (.int .i64 0)), none⟩]))
 (.seq (.keep [1] [1] (.reg [⟨(some 4), .faddr 0 (.tmp 1), none⟩, ⟨(some 5), .load none (.tmp 4), none⟩, ⟨(some 6), .call 56 [(.tmp 5)], none⟩, ⟨(some 3), .alloc (some 3) [(.int .i64 0), (.int .i64 0), (.int .i64 0)], none⟩, ⟨none, .store 3 (.tmp 3) (.tmp 6), none⟩]))
 (.seq (.seq (.keep [1, 3] [1, 3] (.reg [⟨(some 7), .faddr 0 (.tmp 1), none⟩, ⟨(some 8), .load none (.tmp 7), none⟩, ⟨(some 9), .bin .lss (.tmp 8) (.val (.int .i64 1)), none⟩, ⟨(some 10), .mov (.tmp 9), none⟩, ⟨(some 11), .faddr 0 (.tmp 1), (some (10, false))⟩, ⟨(some 12), .load none (.tmp 11), (some (10, false))⟩, ⟨(some 13), .bin .gtr (.tmp 12) (.val (.int .i64 24)), (some (10, false))⟩, ⟨(some 14), .pick (.tmp 10) (.val (.bool true)) (.tmp 13), none⟩, ⟨(some 15), .mov (.tmp 14), none⟩, ⟨(some 16), .iaddrA 3 1 (.tmp 3) (.val (.int .i64 0)), (some (15, false))⟩, ⟨(some 17), .load none (.tmp 16), (some (15, false))⟩, ⟨(some 18), .faddr 1 (.tmp 1), (some (15, false))⟩, ⟨(some 19), .load none (.tmp 18), (some (15, false))⟩, ⟨(some 20), .call 57 [(.tmp 17), (.tmp 19)], (some (15, false))⟩, ⟨(some 21), .un .not (.tmp 20), (some (15, false))⟩, ⟨(some 22), .pick (.tmp 15) (.val (.bool true)) (.tmp 21), none⟩, ⟨(some 23), .mov (.tmp 22), none⟩, ⟨(some 24), .iaddrA 3 1 (.tmp 3) (.val (.int .i64 1)), (some (23, false))⟩, ⟨(some 25), .load none (.tmp 24), (some (23, false))⟩, ⟨(some 26), .faddr 2 (.tmp 1), (some (23, false))⟩, ⟨(some 27), .load none (.tmp 26), (some (23, false))⟩, ⟨(some 28), .call 57 [(.tmp 25), (.tmp 27)], (some (23, false))⟩, ⟨(some 29), .un .not (.tmp 28), (some (23, false))⟩, ⟨(some 30), .pick (.tmp 23) (.val (.bool true)) (.tmp 29), none⟩, ⟨(some 31), .mov (.tmp 30), none⟩, ⟨(some 32), .iaddrA 3 1 (.tmp 3) (.val (.int .i64 2)), (some (31, false))⟩, ⟨(some 33), .load none (.tmp 32), (some (31, false))⟩, ⟨(some 34), .faddr 3 (.tmp 1), (some (31, false))⟩, ⟨(some 35), .load none (.tmp 34), (some (31, false))⟩, ⟨(some 36), .call 57 [(.tmp 33), (.tmp 35)], (some (31, false))⟩, ⟨(some 37), .un .not (.tmp 36), (some (31, false))⟩, ⟨(some 38), .pick (.tmp 31) (.val (.bool true)) (.tmp 37), none⟩]))
 (.cond (.tmp 38) (.seq (.keep [] [] (.reg [⟨(some 2), .mov (.val (.int .i64 2)), none⟩]))
 .ret) .skip))
 (.seq (.keep [] [] (.reg [⟨(some 2), .mov (.val (.int .i64 0)), none⟩]))
 .ret)))) }
def h53 : Hints := ⟨[11], [(0, [0, 1, 2, 3], []), (1, [0, 1, 2, 3], []), (2, [], []), (3, [0, 1, 2, 3], []), (4, [0, 1, 2, 3, 9], []), (5, [0, 1, 2, 9, 15, 16, 17], []), (6, [0, 1, 2, 9, 15, 16, 17], []), (7, [0, 1, 2, 9, 10, 11, 15, 16, 17], [11]), (8, [0, 1, 2, 9, 10, 15, 16, 17], []), (9, [0, 1, 2, 9, 15, 16, 17], []), (10, [9], [])]⟩
def a53_B1 : AC := (.seq (.keep [0, 1, 2, 9, 15, 16, 17] [] (.reg [⟨(some 18), .bin .lss (.tmp 17) (.tmp 16), none⟩]))
 (.seq (.cond (.tmp 18) .skip (.exit 0))
 (.seq (.block 1 (.seq (.keep [0, 1, 2, 9, 15, 16, 17] [] (.reg [⟨(some 19), .mov (.tmp 17), none⟩, ⟨(some 20), .iaddrL 3 (.tmp 15) (.tmp 17), none⟩, ⟨(some 21), .load (some 3) (.tmp 20), none⟩, ⟨(some 11), .alloc (some 11) [(.int .i64 0), (.int .i64 0), (.int .i64 0)], none⟩, ⟨(some 10), .mov (.tmp 19), none⟩, ⟨none, .store 3 (.tmp 11) (.tmp 21), none⟩]))
 (.seq (.keep [0, 1, 2, 9, 10, 11, 15, 16, 17] [11] (.reg [⟨(some 22), .mov (.tmp 0), none⟩, ⟨(some 23), .faddr 0 (.tmp 11), none⟩, ⟨(some 24), .load none (.tmp 23), none⟩, ⟨(some 25), .call 14 [(.tmp 22), (.tmp 24)], none⟩, ⟨(some 26), .mov (.tmp 25), none⟩, ⟨(some 27), .faddr 1 (.tmp 11), (some (26, true))⟩, ⟨(some 28), .load none (.tmp 27), (some (26, true))⟩, ⟨(some 29), .mov (.tmp 1), (some (26, true))⟩, ⟨(some 30), .bin .gtr (.tmp 28) (.tmp 29), (some (26, true))⟩, ⟨(some 31), .pick (.tmp 26) (.tmp 30) (.val (.bool false)), none⟩, ⟨(some 32), .mov (.tmp 31), none⟩, ⟨(some 33), .faddr 1 (.tmp 11), (some (32, true))⟩, ⟨(some 34), .load none (.tmp 33), (some (32, true))⟩, ⟨(some 35), .mov (.tmp 2), (some (32, true))⟩, ⟨(some 36), .bin .gtr (.tmp 34) (.tmp 35), (some (32, true))⟩, ⟨(some 37), .pick (.tmp 32) (.tmp 36) (.val (.bool false)), none⟩]))
 (.cond (.tmp 37) (.keep [0, 1, 2, 9, 10, 15, 16, 17] [] (.reg [⟨(some 38), .mov (.tmp 9), none⟩, ⟨(some 39), .mov (.tmp 10), none⟩, ⟨(some 40), .bin .shl (.val (.int .u32 1)) (.tmp 39), none⟩, ⟨(some 41), .bin .or (.tmp 38) (.tmp 40), none⟩, ⟨(some 9), .mov (.tmp 41), none⟩])) .skip))))
 (.keep [0, 1, 2, 9, 15, 16, 17] [] (.reg [⟨(some 42), .bin .add (.tmp 17) (.val (.int .i64 1)), none⟩, ⟨(some 17), .mov (.tmp 42), none⟩])))))
def a53_L1 : AC := .loop a53_B1
theorem a53_L1_step (call : Caller) (again : AC → St → Option (Ex × St)) (s : St) : codeEv call again a53_L1 s = match codeEv call again a53_B1 s with | some (.norm, s1) => again a53_L1 s1 | r => r := rfl
def a53 : AFn := { n := 44, np := 4, res := [.tmp 8], body :=
 (.seq (.keep [0, 1, 2, 3] [] (.reg [⟨(some 8), .mov (.val (.int .u32 0)), none⟩]))
 (.seq (.seq (.keep [0, 1, 2, 3] [] (.reg [⟨(some 12), .mov (.tmp 3), none⟩, ⟨(some 13), .call 12 [(.tmp 12)], none⟩, ⟨(some 14), .bin .neq (.tmp 13) (.val (.int .i64 0)), none⟩]))
 (.cond (.tmp 14) (.seq (.keep [] [] (.reg [⟨(some 8), .mov (.val (.int .u32 0)), none⟩]))
 .ret) .skip))
 (.seq (.keep [0, 1, 2, 3] [] (.reg [⟨(some 9), .mov (.val (.int .u32 0)), none⟩]))
 (.seq (.seq (.keep [0, 1, 2, 3, 9] [] (.reg [⟨(some 15), .mov (.tmp 3), none⟩, ⟨(some 16), .lenL (.tmp 15), none⟩, ⟨(some 17), .mov (.val (.int .i64 0)), none⟩]))
 (.block 0 a53_L1))
 (.seq (.keep [9] [] (.reg [⟨(some 43), .mov (.tmp 9), none⟩, ⟨(some 8), .mov (.tmp 43), none⟩]))
 .ret))))) }
def h54 : Hints := ⟨[], [(0, [0, 1, 2, 3], []), (1, [0, 1, 2, 3], []), (2, [0, 1, 2, 3, 9], []), (3, [], []), (4, [0, 1, 2, 3, 9], []), (5, [0, 1, 2, 3, 9, 10], []), (7, [0, 1, 2, 3, 9, 10], []), (8, [0, 1, 2, 3, 9, 10], []), (6, [0, 1, 2, 3, 9, 10], []), (9, [9], [])]⟩
def a54_B1 : AC := (.seq (.seq (.keep [0, 1, 2, 3, 9, 10] [] (.reg [⟨(some 14), .mov (.tmp 10), none⟩, ⟨(some 15), .mov (.tmp 3), none⟩, ⟨(some 16), .lenL (.tmp 15), none⟩, ⟨(some 17), .bin .lss (.tmp 14) (.tmp 16), none⟩]))
 (.cond (.tmp 17) .skip (.exit 0)))
 (.seq (.block 1 (.seq (.keep [0, 1, 2, 3, 9, 10] [] (.reg [⟨(some 20), .mov (.tmp 0), none⟩, ⟨(some 21), .mov (.tmp 3), none⟩, ⟨(some 22), .mov (.tmp 10), none⟩, ⟨(some 23), .iaddrL 3 (.tmp 21) (.tmp 22), none⟩, ⟨(some 24), .faddr 0 (.tmp 23), none⟩, ⟨(some 25), .load none (.tmp 24), none⟩, ⟨(some 26), .conv .u64 (.tmp 25), none⟩, ⟨(some 27), .bin .shr (.tmp 20) (.tmp 26), none⟩, ⟨(some 28), .bin .and (.tmp 27) (.val (.int .u32 1)), none⟩, ⟨(some 29), .bin .eql (.tmp 28) (.val (.int .u32 1)), none⟩, ⟨(some 30), .mov (.tmp 29), none⟩, ⟨(some 31), .mov (.tmp 3), (some (30, true))⟩, ⟨(some 32), .mov (.tmp 10), (some (30, true))⟩, ⟨(some 33), .iaddrL 3 (.tmp 31) (.tmp 32), (some (30, true))⟩, ⟨(some 34), .faddr 1 (.tmp 33), (some (30, true))⟩, ⟨(some 35), .load none (.tmp 34), (some (30, true))⟩, ⟨(some 36), .mov (.tmp 1), (some (30, true))⟩, ⟨(some 37), .bin .gtr (.tmp 35) (.tmp 36), (some (30, true))⟩, ⟨(some 38), .pick (.tmp 30) (.tmp 37) (.val (.bool false)), none⟩, ⟨(some 39), .mov (.tmp 38), none⟩, ⟨(some 40), .mov (.tmp 3), (some (39, true))⟩, ⟨(some 41), .mov (.tmp 10), (some (39, true))⟩, ⟨(some 42), .iaddrL 3 (.tmp 40) (.tmp 41), (some (39, true))⟩, ⟨(some 43), .faddr 1 (.tmp 42), (some (39, true))⟩, ⟨(some 44), .load none (.tmp 43), (some (39, true))⟩, ⟨(some 45), .mov (.tmp 2), (some (39, true))⟩, ⟨(some 46), .bin .gtr (.tmp 44) (.tmp 45), (some (39, true))⟩, ⟨(some 47), .pick (.tmp 39) (.tmp 46) (.val (.bool false)), none⟩]))
 (.cond (.tmp 47) (.keep [0, 1, 2, 3, 9, 10] [] (.reg [⟨(some 48), .mov (.tmp 9), none⟩, ⟨(some 49), .mov (.tmp 10), none⟩, ⟨(some 50), .conv .u64 (.tmp 49), none⟩, ⟨(some 51), .bin .shl (.val (.int .u32 1)) (.tmp 50), none⟩, ⟨(some 52), .bin .or (.tmp 48) (.tmp 51), none⟩, ⟨(some 9), .mov (.tmp 52), none⟩])) .skip)))
 (.keep [0, 1, 2, 3, 9, 10] [] (.reg [⟨(some 18), .mov (.tmp 10), none⟩, ⟨(some 19), .bin .add (.tmp 18) (.val (.int .i64 1)), none⟩, ⟨(some 10), .mov (.tmp 19), none⟩]))))
def a54_L1 : AC := .loop a54_B1
theorem a54_L1_step (call : Caller) (again : AC → St → Option (Ex × St)) (s : St) : codeEv call again a54_L1 s = match codeEv call again a54_B1 s with | some (.norm, s1) => again a54_L1 s1 | r => r := rfl
def a54 : AFn := { n := 54, np := 4, res := [.tmp 8], body :=
 (.seq (.keep [0, 1, 2, 3] [] (.reg [⟨(some 8), .mov (.val (.int .u32 0)), none⟩]))
 (.seq (.keep [0, 1, 2, 3] [] (.reg [⟨(some 9), .mov (.val (.int .u32 0)), none⟩]))
 (.seq (.seq (.keep [0, 1, 2, 3, 9] [] (.reg [⟨(some 11), .mov (.tmp 3), none⟩, ⟨(some 12), .call 23 [(.tmp 11)], none⟩, ⟨(some 13), .bin .neq (.tmp 12) (.val (.int .i64 0)), none⟩]))
 (.cond (.tmp 13) (.seq (.keep [] [] (.reg [⟨(some 8), .mov (.val (.int .u32 0)), none⟩]))
 .ret) .skip))
 (.seq (.seq (.keep [0, 1, 2, 3, 9] [] (.reg [⟨(some 10), .mov (.val (.int .i64 0)), none⟩]))
 (.block 0 a54_L1))
 (.seq (.keep [9] [] (.reg [⟨(some 53), .mov (.tmp 9), none⟩, ⟨(some 8), .mov (.tmp 53), none⟩]))
 .ret))))) }
def h55 : Hints := ⟨[], [(0, [0, 1], []), (1, [0, 1], []), (2, [1, 5], []), (3, [1], []), (4, [1, 5], []), (5, [1], []), (6, [1, 5], []), (7, [1], []), (8, [1, 5], []), (9, [1], []), (10, [1, 5], []), (11, [1], []), (12, [1, 5], []), (13, [1], []), (14, [1, 5], []), (15, [1], []), (16, [1, 5], []), (17, [1], []), (18, [1], [])]⟩
def a55 : AFn := { n := 70, np := 2, res := [.tmp 4], body :=
 (.seq (.keep [0, 1] [] (.reg [⟨(some 4), .mov (.val (.bool false)), none⟩]))
 (.seq (.seq (.keep [0, 1] [] (.reg [⟨(some 5), .mov (.tmp 0), none⟩]))
 (.block 0 (.seq (.keep [1, 5] [] (.reg [⟨(some 7), .bin .eql (.tmp 5) (.val (.int .i64 0)), none⟩, ⟨(some 6), .mov (.tmp 7), none⟩]))
 (.cond (.tmp 6) (.seq (.keep [1] [] (.reg [⟨(some 8), .mov (.tmp 1), none⟩, ⟨(some 9), .bin .eql (.tmp 8) (.val (.int .i64 0)), none⟩, ⟨(some 4), .mov (.tmp 9), none⟩]))
 .ret) (.seq (.keep [1, 5] [] (.reg [⟨(some 11), .bin .eql (.tmp 5) (.val (.int .i64 1)), none⟩, ⟨(some 10), .mov (.tmp 11), none⟩]))
 (.cond (.tmp 10) (.seq (.keep [1] [] (.reg [⟨(some 12), .mov (.tmp 1), none⟩, ⟨(some 13), .bin .geq (.tmp 12) (.val (.int .i64 0)), none⟩, ⟨(some 14), .mov (.tmp 13), none⟩, ⟨(some 15), .mov (.tmp 1), (some (14, true))⟩, ⟨(some 16), .bin .leq (.tmp 15) (.val (.int .i64 1048576)), (some (14, true))⟩, ⟨(some 17), .pick (.tmp 14) (.tmp 16) (.val (.bool false)), none⟩, ⟨(some 4), .mov (.tmp 17), none⟩]))
 .ret) (.seq (.keep [1, 5] [] (.reg [⟨(some 19), .bin .eql (.tmp 5) (.val (.int .i64 2)), none⟩, ⟨(some 18), .mov (.tmp 19), none⟩]))
 (.cond (.tmp 18) (.seq (.keep [1] [] (.reg [⟨(some 20), .mov (.tmp 1), none⟩, ⟨(some 21), .bin .geq (.tmp 20) (.val (.int .i64 0)), none⟩, ⟨(some 22), .mov (.tmp 21), none⟩, ⟨(some 23), .mov (.tmp 1), (some (22, true))⟩, ⟨(some 24), .bin .leq (.tmp 23) (.val (.int .i64 4294967295)), (some (22, true))⟩, ⟨(some 25), .pick (.tmp 22) (.tmp 24) (.val (.bool false)), none⟩, ⟨(some 4), .mov (.tmp 25), none⟩]))
 .ret) (.seq (.keep [1, 5] [] (.reg [⟨(some 27), .bin .eql (.tmp 5) (.val (.int .i64 3)), none⟩, ⟨(some 26), .mov (.tmp 27), none⟩]))
 (.cond (.tmp 26) (.seq (.keep [1] [] (.reg [⟨(some 28), .mov (.tmp 1), none⟩, ⟨(some 29), .bin .eql (.tmp 28) (.val (.int .i64 8)), none⟩, ⟨(some 30), .mov (.tmp 29), none⟩, ⟨(some 31), .mov (.tmp 1), (some (30, false))⟩, ⟨(some 32), .bin .eql (.tmp 31) (.val (.int .i64 16)), (some (30, false))⟩, ⟨(some 33), .pick (.tmp 30) (.val (.bool true)) (.tmp 32), none⟩, ⟨(some 34), .mov (.tmp 33), none⟩, ⟨(some 35), .mov (.tmp 1), (some (34, false))⟩, ⟨(some 36), .bin .eql (.tmp 35) (.val (.int .i64 32)), (some (34, false))⟩, ⟨(some 37), .pick (.tmp 34) (.val (.bool true)) (.tmp 36), none⟩, ⟨(some 4), .mov (.tmp 37), none⟩]))
 .ret) (.seq (.keep [1, 5] [] (.reg [⟨(some 39), .bin .eql (.tmp 5) (.val (.int .i64 4)), none⟩, ⟨(some 38), .mov (.tmp 39), none⟩]))
 (.cond (.tmp 38) (.seq (.keep [1] [] (.reg [⟨(some 40), .mov (.tmp 1), none⟩, ⟨(some 41), .bin .geq (.tmp 40) (.val (.int .i64 1)), none⟩, ⟨(some 42), .mov (.tmp 41), none⟩, ⟨(some 43), .mov (.tmp 1), (some (42, true))⟩, ⟨(some 44), .bin .leq (.tmp 43) (.val (.int .i64 1048576)), (some (42, true))⟩, ⟨(some 45), .pick (.tmp 42) (.tmp 44) (.val (.bool false)), none⟩, ⟨(some 4), .mov (.tmp 45), none⟩]))
 .ret) (.seq (.keep [1, 5] [] (.reg [⟨(some 47), .bin .eql (.tmp 5) (.val (.int .i64 5)), none⟩, ⟨(some 46), .mov (.tmp 47), none⟩]))
 (.cond (.tmp 46) (.seq (.keep [1] [] (.reg [⟨(some 48), .mov (.tmp 1), none⟩, ⟨(some 49), .bin .geq (.tmp 48) (.val (.int .i64 0)), none⟩, ⟨(some 50), .mov (.tmp 49), none⟩, ⟨(some 51), .mov (.tmp 1), (some (50, true))⟩, ⟨(some 52), .bin .leq (.tmp 51) (.val (.int .i64 31)), (some (50, true))⟩, ⟨(some 53), .pick (.tmp 50) (.tmp 52) (.val (.bool false)), none⟩, ⟨(some 4), .mov (.tmp 53), none⟩]))
 .ret) (.seq (.keep [1, 5] [] (.reg [⟨(some 55), .bin .eql (.tmp 5) (.val (.int .i64 6)), none⟩, ⟨(some 54), .mov (.tmp 55), none⟩]))
 (.cond (.tmp 54) (.seq (.keep [1] [] (.reg [⟨(some 56), .mov (.tmp 1), none⟩, ⟨(some 57), .bin .geq (.tmp 56) (.val (.int .i64 0)), none⟩, ⟨(some 58), .mov (.tmp 57), none⟩, ⟨(some 59), .mov (.tmp 1), (some (58, true))⟩, ⟨(some 60), .bin .leq (.tmp 59) (.val (.int .i64 15)), (some (58, true))⟩, ⟨(some 61), .pick (.tmp 58) (.tmp 60) (.val (.bool false)), none⟩, ⟨(some 4), .mov (.tmp 61), none⟩]))
 .ret) (.seq (.keep [1, 5] [] (.reg [⟨(some 63), .bin .eql (.tmp 5) (.val (.int .i64 7)), none⟩, ⟨(some 62), .mov (.tmp 63), none⟩]))
 (.cond (.tmp 62) (.seq (.keep [1] [] (.reg [⟨(some 64), .mov (.tmp 1), none⟩, ⟨(some 65), .call 58 [(.tmp 64)], none⟩, ⟨(some 66), .bin .neq (.tmp 65) (.val (.str ⟨#[]⟩)), none⟩, ⟨(some 4), .mov (.tmp 66), none⟩]))
 .ret) .skip))))))))))))))))))
 (.seq (.keep [1] [] (.reg [⟨(some 67), .mov (.tmp 1), none⟩, ⟨(some 68), .call 59 [(.tmp 67)], none⟩, ⟨(some 69), .bin .neq (.tmp 68) (.val (.str ⟨#[]⟩)), none⟩, ⟨(some 4), .mov (.tmp 69), none⟩]))
 .ret))) }
def h56 : Hints := ⟨[2], [(0, [0], []), (1, [0, 2], [2]), (2, [2, 3], [2]), (3, [2], [2]), (4, [2, 3], [2]), (5, [2, 3], [2]), (6, [2, 3], [2]), (7, [2, 3], [2]), (8, [2, 3], [2]), (9, [2, 3], [2]), (10, [2, 3], [2]), (11, [2, 3], [2]), (12, [2, 3], [2]), (13, [2], [2]), (14, [2, 3], [2]), (15, [2, 3], [2]), (16, [2], [2]), (17, [2, 3], [2]), (18, [2], [2]), (19, [2, 3], [2]), (20, [2], [2]), (21, [2, 3], [2]), (22, [2], [2]), (23, [2, 3], [2]), (24, [2], [2]), (25, [2, 3], [2]), (26, [2], [2]), (27, [2, 3], [2]), (28, [2, 3], [2]), (29, [2], [2]), (30, [2, 3], [2]), (31, [2], [2]), (32, [2], [2])]⟩
def a56 : AFn := { n := 45, np := 1, res := [.cell 2 (some 3)], body :=
 (.seq (.keep [0] [] (.reg [⟨(some 2), .alloc (some 2) [(.int .i64 0), (.int .i64 0), (.int .i64 0)], none⟩]))
 (.seq (.seq (.keep [0, 2] [2] (.reg [⟨(some 3), .mov (.tmp 0), none⟩]))
 (.block 0 (.seq (.keep [2, 3] [2] (.reg [⟨(some 5), .bin .eql (.tmp 3) (.val (.int .i64 2)), none⟩, ⟨(some 4), .mov (.tmp 5), none⟩]))
 (.cond (.tmp 4) (.seq (.keep [2] [2] (.reg [⟨(some 6), .build [(.int .i64 0), (.int .i64 0), (.int .i64 0)] [(0, 1, (.val (.int .i64 1)))], none⟩, ⟨none, .store 3 (.tmp 2) (.tmp 6), none⟩]))
 .ret) (.seq (.seq (.keep [2, 3] [2] (.reg [⟨(some 8), .bin .eql (.tmp 3) (.val (.int .i64 4)), none⟩, ⟨(some 7), .mov (.tmp 8), none⟩]))
 (.cond (.tmp 7) .skip (.seq (.keep [2, 3] [2] (.reg [⟨(some 9), .bin .eql (.tmp 3) (.val (.int .i64 8)), none⟩, ⟨(some 7), .mov (.tmp 9), none⟩]))
 (.cond (.tmp 7) .skip (.seq (.keep [2, 3] [2] (.reg [⟨(some 10), .bin .eql (.tmp 3) (.val (.int .i64 10)), none⟩, ⟨(some 7), .mov (.tmp 10), none⟩]))
 (.cond (.tmp 7) .skip (.seq (.keep [2, 3] [2] (.reg [⟨(some 11), .bin .eql (.tmp 3) (.val (.int .i64 11)), none⟩, ⟨(some 7), .mov (.tmp 11), none⟩]))
 (.cond (.tmp 7) .skip (.seq (.keep [2, 3] [2] (.reg [⟨(some 12), .bin .eql (.tmp 3) (.val (.int .i64 15)), none⟩, ⟨(some 7), .mov (.tmp 12), none⟩]))
 (.cond (.tmp 7) .skip (.seq (.keep [2, 3] [2] (.reg [⟨(some 13), .bin .eql (.tmp 3) (.val (.int .i64 16)), none⟩, ⟨(some 7), .mov (.tmp 13), none⟩]))
 (.cond (.tmp 7) .skip (.seq (.keep [2, 3] [2] (.reg [⟨(some 14), .bin .eql (.tmp 3) (.val (.int .i64 17)), none⟩, ⟨(some 7), .mov (.tmp 14), none⟩]))
 (.cond (.tmp 7) .skip (.seq (.keep [2, 3] [2] (.reg [⟨(some 15), .bin .eql (.tmp 3) (.val (.int .i64 23)), none⟩, ⟨(some 7), .mov (.tmp 15), none⟩]))
 (.cond (.tmp 7) .skip (.keep [2, 3] [2] (.reg [⟨(some 16), .bin .eql (.tmp 3) (.val (.int .i64 24)), none⟩, ⟨(some 7), .mov (.tmp 16), none⟩]))))))))))))))))))
 (.cond (.tmp 7) (.seq (.keep [2] [2] (.reg [⟨(some 17), .build [(.int .i64 0), (.int .i64 0), (.int .i64 0)] [(0, 1, (.val (.int .i64 2)))], none⟩, ⟨none, .store 3 (.tmp 2) (.tmp 17), none⟩]))
 .ret) (.seq (.seq (.keep [2, 3] [2] (.reg [⟨(some 19), .bin .eql (.tmp 3) (.val (.int .i64 5)), none⟩, ⟨(some 18), .mov (.tmp 19), none⟩]))
 (.cond (.tmp 18) .skip (.keep [2, 3] [2] (.reg [⟨(some 20), .bin .eql (.tmp 3) (.val (.int .i64 9)), none⟩, ⟨(some 18), .mov (.tmp 20), none⟩]))))
 (.cond (.tmp 18) (.seq (.keep [2] [2] (.reg [⟨(some 21), .build [(.int .i64 0), (.int .i64 0), (.int .i64 0)] [(0, 1, (.val (.int .i64 2))), (1, 1, (.val (.int .i64 4)))], none⟩, ⟨none, .store 3 (.tmp 2) (.tmp 21), none⟩]))
 .ret) (.seq (.keep [2, 3] [2] (.reg [⟨(some 23), .bin .eql (.tmp 3) (.val (.int .i64 6)), none⟩, ⟨(some 22), .mov (.tmp 23), none⟩]))
 (.cond (.tmp 22) (.seq (.keep [2] [2] (.reg [⟨(some 24), .build [(.int .i64 0), (.int .i64 0), (.int .i64 0)] [(0, 1, (.val (.int .i64 2))), (1, 1, (.val (.int .i64 3)))], none⟩, ⟨none, .store 3 (.tmp 2) (.tmp 24), none⟩]))
 .ret) (.seq (.keep [2, 3] [2] (.reg [⟨(some 26), .bin .eql (.tmp 3) (.val (.int .i64 7)), none⟩, ⟨(some 25), .mov (.tmp 26), none⟩]))
 (.cond (.tmp 25) (.seq (.keep [2] [2] (.reg [⟨(some 27), .build [(.int .i64 0), (.int .i64 0), (.int .i64 0)] [(0, 1, (.val (.int .i64 2))), (1, 1, (.val (.int .i64 3))), (2, 1, (.val (.int .i64 4)))], none⟩, ⟨none, .store 3 (.tmp 2) (.tmp 27), none⟩]))
 .ret) (.seq (.keep [2, 3] [2] (.reg [⟨(some 29), .bin .eql (.tmp 3) (.val (.int .i64 12)), none⟩, ⟨(some 28), .mov (.tmp 29), none⟩]))
 (.cond (.tmp 28) (.seq (.keep [2] [2] (.reg [⟨(some 30), .build [(.int .i64 0), (.int .i64 0), (.int .i64 0)] [(0, 1, (.val (.int .i64 5)))], none⟩, ⟨none, .store 3 (.tmp 2) (.tmp 30), none⟩]))
 .ret) (.seq (.keep [2, 3] [2] (.reg [⟨(some 32), .bin .eql (.tmp 3) (.val (.int .i64 13)), none⟩, ⟨(some 31), .mov (.tmp 32), none⟩]))
 (.cond (.tmp 31) (.seq (.keep [2] [2] (.reg [⟨(some 33), .build [(.int .i64 0), (.int .i64 0), (.int .i64 0)] [(0, 1, (.val (.int .i64 6)))], none⟩, ⟨none, .store 3 (.tmp 2) (.tmp 33), none⟩]))
 .ret) (.seq (.keep [2, 3] [2] (.reg [⟨(some 35), .bin .eql (.tmp 3) (.val (.int .i64 14)), none⟩, ⟨(some 34), .mov (.tmp 35), none⟩]))
 (.cond (.tmp 34) (.seq (.keep [2] [2] (.reg [⟨(some 36), .build [(.int .i64 0), (.int .i64 0), (.int .i64 0)] [(0, 1, (.val (.int .i64 4)))], none⟩, ⟨none, .store 3 (.tmp 2) (.tmp 36), none⟩]))
 .ret) (.seq (.seq (.keep [2, 3] [2] (.reg [⟨(some 38), .bin .eql (.tmp 3) (.val (.int .i64 19)), none⟩, ⟨(some 37), .mov (.tmp 38), none⟩]))
 (.cond (.tmp 37) .skip (.keep [2, 3] [2] (.reg [⟨(some 39), .bin .eql (.tmp 3) (.val (.int .i64 20)), none⟩, ⟨(some 37), .mov (.tmp 39), none⟩]))))
 (.cond (.tmp 37) (.seq (.keep [2] [2] (.reg [⟨(some 40), .build [(.int .i64 0), (.int .i64 0), (.int .i64 0)] [(0, 1, (.val (.int .i64 7)))], none⟩, ⟨none, .store 3 (.tmp 2) (.tmp 40), none⟩]))
 .ret) (.seq (.keep [2, 3] [2] (.reg [⟨(some 42), .bin .eql (.tmp 3) (.val (.int .i64 21)), none⟩, ⟨(some 41), .mov (.tmp 42), none⟩]))
 (.cond (.tmp 41) (.seq (.keep [2] [2] (.reg [⟨(some 43), .build [(.int .i64 0), (.int .i64 0), (.int .i64 0)] [(0, 1, (.val (.int .i64 8)))], none⟩, ⟨none, .store 3 (.tmp 2) (.tmp 43), none⟩]))
 .ret) .skip))))))))))))))))))))))
 (.seq (.keep [2] [2] (.reg [⟨(some 44), .build [(.int .i64 0), (.int .i64 0), (.int .i64 0)] [], none⟩, ⟨none, .store 3 (.tmp 2) (.tmp 44), none⟩]))
 .ret))) }
def h57 : Hints := ⟨[], [(0, [0, 1], []), (1, [0, 1], []), (2, [1, 5], []), (3, [1], []), (4, [1, 5], []), (5, [1], []), (6, [1, 5], []), (7, [1], []), (8, [1, 5], []), (9, [1], []), (10, [1, 5], []), (11, [1], []), (12, [1, 5], []), (13, [1], []), (14, [1, 5], []), (15, [1], []), (16, [1, 5], []), (17, [1], []), (18, [1], [])]⟩
def a57 : AFn := { n := 70, np := 2, res := [.tmp 4], body :=
 (.seq (.keep [0, 1] [] (.reg [⟨(some 4), .mov (.val (.bool false)), none⟩]))
 (.seq (.seq (.keep [0, 1] [] (.reg [⟨(some 5), .mov (.tmp 0), none⟩]))
 (.block 0 (.seq (.keep [1, 5] [] (.reg [⟨(some 7), .bin .eql (.tmp 5) (.val (.int .i64 1)), none⟩, ⟨(some 6), .mov (.tmp 7), none⟩]))
 (.cond (.tmp 6) (.seq (.keep [1] [] (.reg [⟨(some 8), .mov (.tmp 1), none⟩, ⟨(some 9), .bin .geq (.tmp 8) (.val (.int .i64 0)), none⟩, ⟨(some 10), .mov (.tmp 9), none⟩, ⟨(some 11), .mov (.tmp 1), (some (10, true))⟩, ⟨(some 12), .bin .lss (.tmp 11) (.val (.int .i64 4294967296)), (some (10, true))⟩, ⟨(some 13), .pick (.tmp 10) (.tmp 12) (.val (.bool false)), none⟩, ⟨(some 4), .mov (.tmp 13), none⟩]))
 .ret) (.seq (.keep [1, 5] [] (.reg [⟨(some 15), .bin .eql (.tmp 5) (.val (.int .i64 2)), none⟩, ⟨(some 14), .mov (.tmp 15), none⟩]))
 (.cond (.tmp 14) (.seq (.keep [1] [] (.reg [⟨(some 16), .mov (.tmp 1), none⟩, ⟨(some 17), .bin .geq (.tmp 16) (.val (.int .i64 0)), none⟩, ⟨(some 18), .mov (.tmp 17), none⟩, ⟨(some 19), .mov (.tmp 1), (some (18, true))⟩, ⟨(some 20), .bin .leq (.tmp 19) (.val (.int .i64 1048576)), (some (18, true))⟩, ⟨(some 21), .pick (.tmp 18) (.tmp 20) (.val (.bool false)), none⟩, ⟨(some 4), .mov (.tmp 21), none⟩]))
 .ret) (.seq (.keep [1, 5] [] (.reg [⟨(some 23), .bin .eql (.tmp 5) (.val (.int .i64 3)), none⟩, ⟨(some 22), .mov (.tmp 23), none⟩]))
 (.cond (.tmp 22) (.seq (.keep [1] [] (.reg [⟨(some 24), .mov (.tmp 1), none⟩, ⟨(some 25), .bin .geq (.tmp 24) (.val (.int .i64 1)), none⟩, ⟨(some 26), .mov (.tmp 25), none⟩, ⟨(some 27), .mov (.tmp 1), (some (26, true))⟩, ⟨(some 28), .bin .leq (.tmp 27) (.val (.int .i64 1048576)), (some (26, true))⟩, ⟨(some 29), .pick (.tmp 26) (.tmp 28) (.val (.bool false)), none⟩, ⟨(some 4), .mov (.tmp 29), none⟩]))
 .ret) (.seq (.keep [1, 5] [] (.reg [⟨(some 31), .bin .eql (.tmp 5) (.val (.int .i64 4)), none⟩, ⟨(some 30), .mov (.tmp 31), none⟩]))
 (.cond (.tmp 30) (.seq (.keep [1] [] (.reg [⟨(some 32), .mov (.tmp 1), none⟩, ⟨(some 33), .bin .eql (.tmp 32) (.val (.int .i64 8)), none⟩, ⟨(some 34), .mov (.tmp 33), none⟩, ⟨(some 35), .mov (.tmp 1), (some (34, false))⟩, ⟨(some 36), .bin .eql (.tmp 35) (.val (.int .i64 16)), (some (34, false))⟩, ⟨(some 37), .pick (.tmp 34) (.val (.bool true)) (.tmp 36), none⟩, ⟨(some 38), .mov (.tmp 37), none⟩, ⟨(some 39), .mov (.tmp 1), (some (38, false))⟩, ⟨(some 40), .bin .eql (.tmp 39) (.val (.int .i64 32)), (some (38, false))⟩, ⟨(some 41), .pick (.tmp 38) (.val (.bool true)) (.tmp 40), none⟩, ⟨(some 4), .mov (.tmp 41), none⟩]))
 .ret) (.seq (.keep [1, 5] [] (.reg [⟨(some 43), .bin .eql (.tmp 5) (.val (.int .i64 5)), none⟩, ⟨(some 42), .mov (.tmp 43), none⟩]))
 (.cond (.tmp 42) (.seq (.keep [1] [] (.reg [⟨(some 44), .mov (.tmp 1), none⟩, ⟨(some 45), .call 60 [(.tmp 44)], none⟩, ⟨(some 46), .bin .neq (.tmp 45) (.val (.str ⟨#[]⟩)), none⟩, ⟨(some 4), .mov (.tmp 46), none⟩]))
 .ret) (.seq (.keep [1, 5] [] (.reg [⟨(some 48), .bin .eql (.tmp 5) (.val (.int .i64 6)), none⟩, ⟨(some 47), .mov (.tmp 48), none⟩]))
 (.cond (.tmp 47) (.seq (.keep [1] [] (.reg [⟨(some 49), .mov (.tmp 1), none⟩, ⟨(some 50), .call 61 [(.tmp 49)], none⟩, ⟨(some 51), .bin .neq (.tmp 50) (.val (.str ⟨#[]⟩)), none⟩, ⟨(some 4), .mov (.tmp 51), none⟩]))
 .ret) (.seq (.keep [1, 5] [] (.reg [⟨(some 53), .bin .eql (.tmp 5) (.val (.int .i64 7)), none⟩, ⟨(some 52), .mov (.tmp 53), none⟩]))
 (.cond (.tmp 52) (.seq (.keep [1] [] (.reg [⟨(some 54), .mov (.tmp 1), none⟩, ⟨(some 55), .bin .geq (.tmp 54) (.val (.int .i64 0)), none⟩, ⟨(some 56), .mov (.tmp 55), none⟩, ⟨(some 57), .mov (.tmp 1), (some (56, true))⟩, ⟨(some 58), .bin .leq (.tmp 57) (.val (.int .i64 31)), (some (56, true))⟩, ⟨(some 59), .pick (.tmp 56) (.tmp 58) (.val (.bool false)), none⟩, ⟨(some 4), .mov (.tmp 59), none⟩]))
 .ret) (.seq (.keep [1, 5] [] (.reg [⟨(some 61), .bin .eql (.tmp 5) (.val (.int .i64 8)), none⟩, ⟨(some 60), .mov (.tmp 61), none⟩]))
 (.cond (.tmp 60) (.seq (.keep [1] [] (.reg [⟨(some 62), .mov (.tmp 1), none⟩, ⟨(some 63), .bin .geq (.tmp 62) (.val (.int .i64 0)), none⟩, ⟨(some 64), .mov (.tmp 63), none⟩, ⟨(some 65), .mov (.tmp 1), (some (64, true))⟩, ⟨(some 66), .bin .leq (.tmp 65) (.val (.int .i64 15)), (some (64, true))⟩, ⟨(some 67), .pick (.tmp 64) (.tmp 66) (.val (.bool false)), none⟩, ⟨(some 4), .mov (.tmp 67), none⟩]))
 .ret) .skip))))))))))))))))))
 (.seq (.keep [1] [] (.reg [⟨(some 68), .mov (.tmp 1), none⟩, ⟨(some 69), .bin .eql (.tmp 68) (.val (.int .i64 0)), none⟩, ⟨(some 4), .mov (.tmp 69), none⟩]))
 .ret))) }
def h58 : Hints := ⟨[], [(0, [0], []), (1, [0], []), (2, [], []), (3, [0], [])]⟩
def a58 : AFn := { n := 9, np := 1, res := [.tmp 2], body :=
 (.seq (.keep [0] [] (.reg [⟨(some 2), .mov (.val (.str ⟨#[]⟩)), none⟩]))
 (.seq (.seq (.keep [0] [] (.reg [⟨(some 3), .mov (.tmp 0), none⟩, ⟨(some 4), .call 62 [(.tmp 3)], none⟩, ⟨(some 5), .un .not (.tmp 4), none⟩]))
 (.cond (.tmp 5) (.seq (.keep [] [] (.reg [⟨(some 2), .mov (.val (.str ⟨#[]⟩)), none⟩]))
 .ret) .skip))
 (.seq (.keep [0] [] (.reg [⟨(some 6), .mov (.tmp 0), none⟩, ⟨(some 7), .iaddrA 20 1 (.val (.ptr 2 0)) (.tmp 6), none⟩, ⟨(some 8), .load none (.tmp 7), none⟩, ⟨(some 2), .mov (.tmp 8), none⟩]))
 .ret))) }
def h59 : Hints := ⟨[], [(0, [0], []), (1, [0], []), (2, [3], []), (3, [], []), (4, [3], []), (5, [], []), (6, [3], []), (7, [], []), (8, [], [])]⟩
def a59 : AFn := { n := 10, np := 1, res := [.tmp 2], body :=
 (.seq (.keep [0] [] (.reg [⟨(some 2), .mov (.val (.str ⟨#[]⟩)), none⟩]))
 (.seq (.seq (.keep [0] [] (.reg [⟨(some 3), .mov (.tmp 0), none⟩]))
 (.block 0 (.seq (.keep [3] [] (.reg [⟨(some 5), .bin .eql (.tmp 3) (.val (.int .i64 1)), none⟩, ⟨(some 4), .mov (.tmp 5), none⟩]))
 (.cond (.tmp 4) (.seq (.keep [] [] (.reg [⟨(some 2), .mov (.val (.str ⟨#[110, 101, 103]⟩)), none⟩]))
 .ret) (.seq (.keep [3] [] (.reg [⟨(some 7), .bin .eql (.tmp 3) (.val (.int .i64 2)), none⟩, ⟨(some 6), .mov (.tmp 7), none⟩]))
 (.cond (.tmp 6) (.seq (.keep [] [] (.reg [⟨(some 2), .mov (.val (.str ⟨#[110, 111, 116]⟩)), none⟩]))
 .ret) (.seq (.keep [3] [] (.reg [⟨(some 9), .bin .eql (.tmp 3) (.val (.int .i64 3)), none⟩, ⟨(some 8), .mov (.tmp 9), none⟩]))
 (.cond (.tmp 8) (.seq (.keep [] [] (.reg [⟨(some 2), .mov (.val (.str ⟨#[122, 101, 114, 111]⟩)), none⟩]))
 .ret) .skip))))))))
 (.seq (.keep [] [] (.reg [⟨(some 2), .mov (.val (.str ⟨#[]⟩)), none⟩]))
 .ret))) }
def h60 : Hints := ⟨[], [(0, [0], []), (1, [0], []), (2, [0, 3], []), (3, [], []), (4, [0, 3], [])]⟩
def a60 : AFn := { n := 17, np := 1, res := [.tmp 2], body :=
 (.seq (.keep [0] [] (.reg [⟨(some 2), .mov (.val (.str ⟨#[]⟩)), none⟩]))
 (.seq (.keep [0] [] (.reg [⟨(some 4), .mkslc 1 20 [(.str ⟨#[]⟩)] [(0, (.val (.str ⟨#[]⟩))), (1, (.val (.str ⟨#[43]⟩))), (2, (.val (.str ⟨#[45]⟩))), (3, (.val (.str ⟨#[42]⟩))), (4, (.val (.str ⟨#[47]⟩))), (5, (.val (.str ⟨#[37]⟩))), (6, (.val (.str ⟨#[115, 47]⟩))), (7, (.val (.str ⟨#[115, 37]⟩))), (8, (.val (.str ⟨#[38]⟩))), (9, (.val (.str ⟨#[124]⟩))), (10, (.val (.str ⟨#[94]⟩))), (11, (.val (.str ⟨#[60, 60]⟩))), (12, (.val (.str ⟨#[62, 62]⟩))), (13, (.val (.str ⟨#[115, 62, 62]⟩))), (14, (.val (.str ⟨#[61, 61]⟩))), (15, (.val (.str ⟨#[33, 61]⟩))), (16, (.val (.str ⟨#[60]⟩))), (17, (.val (.str ⟨#[60, 61]⟩))), (18, (.val (.str ⟨#[115, 60]⟩))), (19, (.val (.str ⟨#[115, 60, 61]⟩)))], none⟩, ⟨(some 3), .mov (.tmp 4), none⟩]))
 (.seq (.seq (.keep [0, 3] [] (.reg [⟨(some 5), .mov (.tmp 0), none⟩, ⟨(some 6), .bin .lss (.tmp 5) (.val (.int .i64 1)), none⟩, ⟨(some 7), .mov (.tmp 6), none⟩, ⟨(some 8), .mov (.tmp 0), (some (7, false))⟩, ⟨(some 9), .mov (.tmp 3), (some (7, false))⟩, ⟨(some 10), .lenL (.tmp 9), (some (7, false))⟩, ⟨(some 11), .bin .geq (.tmp 8) (.tmp 10), (some (7, false))⟩, ⟨(some 12), .pick (.tmp 7) (.val (.bool true)) (.tmp 11), none⟩]))
 (.cond (.tmp 12) (.seq (.keep [] [] (.reg [⟨(some 2), .mov (.val (.str ⟨#[]⟩)), none⟩]))
 .ret) .skip))
 (.seq (.keep [0, 3] [] (.reg [⟨(some 13), .mov (.tmp 3), none⟩, ⟨(some 14), .mov (.tmp 0), none⟩, ⟨(some 15), .iaddrL 1 (.tmp 13) (.tmp 14), none⟩, ⟨(some 16), .load none (.tmp 15), none⟩, ⟨(some 2), .mov (.tmp 16), none⟩]))
 .ret)))) }
def h61 : Hints := ⟨[], [(0, [0], []), (1, [0], []), (2, [0, 3], []), (3, [], []), (4, [0, 3], [])]⟩
def a61 : AFn := { n := 17, np := 1, res := [.tmp 2], body :=
 (.seq (.keep [0] [] (.reg [⟨(some 2), .mov (.val (.str ⟨#[]⟩)), none⟩]))
 (.seq (.keep [0] [] (.reg [⟨(some 4), .mkslc 1 4 [(.str ⟨#[]⟩)] [(0, (.val (.str ⟨#[]⟩))), (1, (.val (.str ⟨#[110, 101, 103]⟩))), (2, (.val (.str ⟨#[110, 111, 116]⟩))), (3, (.val (.str ⟨#[122, 101, 114, 111]⟩)))], none⟩, ⟨(some 3), .mov (.tmp 4), none⟩]))
 (.seq (.seq (.keep [0, 3] [] (.reg [⟨(some 5), .mov (.tmp 0), none⟩, ⟨(some 6), .bin .lss (.tmp 5) (.val (.int .i64 1)), none⟩, ⟨(some 7), .mov (.tmp 6), none⟩, ⟨(some 8), .mov (.tmp 0), (some (7, false))⟩, ⟨(some 9), .mov (.tmp 3), (some (7, false))⟩, ⟨(some 10), .lenL (.tmp 9), (some (7, false))⟩, ⟨(some 11), .bin .geq (.tmp 8) (.tmp 10), (some (7, false))⟩, ⟨(some 12), .pick (.tmp 7) (.val (.bool true)) (.tmp 11), none⟩]))
 (.cond (.tmp 12) (.seq (.keep [] [] (.reg [⟨(some 2), .mov (.val (.str ⟨#[]⟩)), none⟩]))
 .ret) .skip))
 (.seq (.keep [0, 3] [] (.reg [⟨(some 13), .mov (.tmp 3), none⟩, ⟨(some 14), .mov (.tmp 0), none⟩, ⟨(some 15), .iaddrL 1 (.tmp 13) (.tmp 14), none⟩, ⟨(some 16), .load none (.tmp 15), none⟩, ⟨(some 2), .mov (.tmp 16), none⟩]))
 .ret)))) }
def h62 : Hints := ⟨[], [(0, [0], []), (1, [0], [])]⟩
def a62 : AFn := { n := 9, np := 1, res := [.tmp 2], body :=
 (.seq (.keep [0] [] (.reg [⟨(some 2), .mov (.val (.bool false)), none⟩]))
 (.seq (.keep [0] [] (.reg [⟨(some 3), .mov (.tmp 0), none⟩, ⟨(some 4), .bin .geq (.tmp 3) (.val (.int .i64 1)), none⟩, ⟨(some 5), .mov (.tmp 4), none⟩, ⟨(some 6), .mov (.tmp 0), (some (5, true))⟩, ⟨(some 7), .bin .leq (.tmp 6) (.val (.int .i64 19)), (some (5, true))⟩, ⟨(some 8), .pick (.tmp 5) (.tmp 7) (.val (.bool false)), none⟩, ⟨(some 2), .mov (.tmp 8), none⟩]))
 .ret)) }
theorem t10 : trFn Tryd.prog h10 Tryd.f10 = some a10 := by kernel_rfl
theorem t12 : trFn Tryd.prog h12 Tryd.f12 = some a12 := by kernel_rfl
theorem t14 : trFn Tryd.prog h14 Tryd.f14 = some a14 := by kernel_rfl
theorem t23 : trFn Tryd.prog h23 Tryd.f23 = some a23 := by kernel_rfl
theorem t27 : trFn Tryd.prog h27 Tryd.f27 = some a27 := by kernel_rfl
theorem t28 : trFn Tryd.prog h28 Tryd.f28 = some a28 := by kernel_rfl
theorem t29 : trFn Tryd.prog h29 Tryd.f29 = some a29 := by kernel_rfl
theorem t30 : trFn Tryd.prog h30 Tryd.f30 = some a30 := by kernel_rfl
theorem t31 : trFn Tryd.prog h31 Tryd.f31 = some a31 := by kernel_rfl
theorem t32 : trFn Tryd.prog h32 Tryd.f32 = some a32 := by kernel_rfl
theorem t33 : trFn Tryd.prog h33 Tryd.f33 = some a33 := by kernel_rfl
theorem t34 : trFn Tryd.prog h34 Tryd.f34 = some a34 := by kernel_rfl
theorem t35 : trFn Tryd.prog h35 Tryd.f35 = some a35 := by kernel_rfl
theorem t36 : trFn Tryd.prog h36 Tryd.f36 = some a36 := by kernel_rfl
theorem t37 : trFn Tryd.prog h37 Tryd.f37 = some a37 := by kernel_rfl
theorem t38 : trFn Tryd.prog h38 Tryd.f38 = some a38 := by kernel_rfl
theorem t39 : trFn Tryd.prog h39 Tryd.f39 = some a39 := by kernel_rfl
theorem t40 : trFn Tryd.prog h40 Tryd.f40 = some a40 := by kernel_rfl
theorem t41 : trFn Tryd.prog h41 Tryd.f41 = some a41 := by kernel_rfl
theorem t42 : trFn Tryd.prog h42 Tryd.f42 = some a42 := by kernel_rfl
theorem t43 : trFn Tryd.prog h43 Tryd.f43 = some a43 := by kernel_rfl
theorem t44 : trFn Tryd.prog h44 Tryd.f44 = some a44 := by kernel_rfl
theorem t45 : trFn Tryd.prog h45 Tryd.f45 = some a45 := by kernel_rfl
theorem t46 : trFn Tryd.prog h46 Tryd.f46 = some a46 := by kernel_rfl
theorem t50 : trFn Tryd.prog h50 Tryd.f50 = some a50 := by kernel_rfl
theorem t51 : trFn Tryd.prog h51 Tryd.f51 = some a51 := by kernel_rfl
theorem t52 : trFn Tryd.prog h52 Tryd.f52 = some a52 := by kernel_rfl
theorem t53 : trFn Tryd.prog h53 Tryd.f53 = some a53 := by kernel_rfl
theorem t54 : trFn Tryd.prog h54 Tryd.f54 = some a54 := by kernel_rfl
theorem t55 : trFn Tryd.prog h55 Tryd.f55 = some a55 := by kernel_rfl
theorem t56 : trFn Tryd.prog h56 Tryd.f56 = some a56 := by kernel_rfl
theorem t57 : trFn Tryd.prog h57 Tryd.f57 = some a57 := by kernel_rfl
theorem t58 : trFn Tryd.prog h58 Tryd.f58 = some a58 := by kernel_rfl
theorem t59 : trFn Tryd.prog h59 Tryd.f59 = some a59 := by kernel_rfl
theorem t60 : trFn Tryd.prog h60 Tryd.f60 = some a60 := by kernel_rfl
theorem t61 : trFn Tryd.prog h61 Tryd.f61 = some a61 := by kernel_rfl
theorem t62 : trFn Tryd.prog h62 Tryd.f62 = some a62 := by kernel_rfl
def A : Nat → Option AFn
  | 10 => some a10
  | 12 => some a12
  | 14 => some a14
  | 23 => some a23
  | 27 => some a27
  | 28 => some a28
  | 29 => some a29
  | 30 => some a30
  | 31 => some a31
  | 32 => some a32
  | 33 => some a33
  | 34 => some a34
  | 35 => some a35
  | 36 => some a36
  | 37 => some a37
  | 38 => some a38
  | 39 => some a39
  | 40 => some a40
  | 41 => some a41
  | 42 => some a42
  | 43 => some a43
  | 44 => some a44
  | 45 => some a45
  | 46 => some a46
  | 50 => some a50
  | 51 => some a51
  | 52 => some a52
  | 53 => some a53
  | 54 => some a54
  | 55 => some a55
  | 56 => some a56
  | 57 => some a57
  | 58 => some a58
  | 59 => some a59
  | 60 => some a60
  | 61 => some a61
  | 62 => some a62
  | _ => none
theorem A_ok : AOk Tryd.prog A := by
  intro f af h
  unfold A at h
  split at h
  · cases h; exact ⟨h10, Tryd.f10, Tryd.func10, t10⟩
  · cases h; exact ⟨h12, Tryd.f12, Tryd.func12, t12⟩
  · cases h; exact ⟨h14, Tryd.f14, Tryd.func14, t14⟩
  · cases h; exact ⟨h23, Tryd.f23, Tryd.func23, t23⟩
  · cases h; exact ⟨h27, Tryd.f27, Tryd.func27, t27⟩
  · cases h; exact ⟨h28, Tryd.f28, Tryd.func28, t28⟩
  · cases h; exact ⟨h29, Tryd.f29, Tryd.func29, t29⟩
  · cases h; exact ⟨h30, Tryd.f30, Tryd.func30, t30⟩
  · cases h; exact ⟨h31, Tryd.f31, Tryd.func31, t31⟩
  · cases h; exact ⟨h32, Tryd.f32, Tryd.func32, t32⟩
  · cases h; exact ⟨h33, Tryd.f33, Tryd.func33, t33⟩
  · cases h; exact ⟨h34, Tryd.f34, Tryd.func34, t34⟩
  · cases h; exact ⟨h35, Tryd.f35, Tryd.func35, t35⟩
  · cases h; exact ⟨h36, Tryd.f36, Tryd.func36, t36⟩
  · cases h; exact ⟨h37, Tryd.f37, Tryd.func37, t37⟩
  · cases h; exact ⟨h38, Tryd.f38, Tryd.func38, t38⟩
  · cases h; exact ⟨h39, Tryd.f39, Tryd.func39, t39⟩
  · cases h; exact ⟨h40, Tryd.f40, Tryd.func40, t40⟩
  · cases h; exact ⟨h41, Tryd.f41, Tryd.func41, t41⟩
  · cases h; exact ⟨h42, Tryd.f42, Tryd.func42, t42⟩
  · cases h; exact ⟨h43, Tryd.f43, Tryd.func43, t43⟩
  · cases h; exact ⟨h44, Tryd.f44, Tryd.func44, t44⟩
  · cases h; exact ⟨h45, Tryd.f45, Tryd.func45, t45⟩
  · cases h; exact ⟨h46, Tryd.f46, Tryd.func46, t46⟩
  · cases h; exact ⟨h50, Tryd.f50, Tryd.func50, t50⟩
  · cases h; exact ⟨h51, Tryd.f51, Tryd.func51, t51⟩
  · cases h; exact ⟨h52, Tryd.f52, Tryd.func52, t52⟩
  · cases h; exact ⟨h53, Tryd.f53, Tryd.func53, t53⟩
  · cases h; exact ⟨h54, Tryd.f54, Tryd.func54, t54⟩
  · cases h; exact ⟨h55, Tryd.f55, Tryd.func55, t55⟩
  · cases h; exact ⟨h56, Tryd.f56, Tryd.func56, t56⟩
  · cases h; exact ⟨h57, Tryd.f57, Tryd.func57, t57⟩
  · cases h; exact ⟨h58, Tryd.f58, Tryd.func58, t58⟩
  · cases h; exact ⟨h59, Tryd.f59, Tryd.func59, t59⟩
  · cases h; exact ⟨h60, Tryd.f60, Tryd.func60, t60⟩
  · cases h; exact ⟨h61, Tryd.f61, Tryd.func61, t61⟩
  · cases h; exact ⟨h62, Tryd.f62, Tryd.func62, t62⟩
  · cases h
theorem run_10 (n : Nat) (args : List AV) (m : Mem) : run A (n + 1) 10 args m = fnEv (run A n) (ev A n).2 a10 args m := run_of rfl n args m
theorem run_12 (n : Nat) (args : List AV) (m : Mem) : run A (n + 1) 12 args m = fnEv (run A n) (ev A n).2 a12 args m := run_of rfl n args m
theorem run_14 (n : Nat) (args : List AV) (m : Mem) : run A (n + 1) 14 args m = fnEv (run A n) (ev A n).2 a14 args m := run_of rfl n args m
theorem run_23 (n : Nat) (args : List AV) (m : Mem) : run A (n + 1) 23 args m = fnEv (run A n) (ev A n).2 a23 args m := run_of rfl n args m
theorem run_27 (n : Nat) (args : List AV) (m : Mem) : run A (n + 1) 27 args m = fnEv (run A n) (ev A n).2 a27 args m := run_of rfl n args m
theorem run_28 (n : Nat) (args : List AV) (m : Mem) : run A (n + 1) 28 args m = fnEv (run A n) (ev A n).2 a28 args m := run_of rfl n args m
theorem run_29 (n : Nat) (args : List AV) (m : Mem) : run A (n + 1) 29 args m = fnEv (run A n) (ev A n).2 a29 args m := run_of rfl n args m
theorem run_30 (n : Nat) (args : List AV) (m : Mem) : run A (n + 1) 30 args m = fnEv (run A n) (ev A n).2 a30 args m := run_of rfl n args m
theorem run_31 (n : Nat) (args : List AV) (m : Mem) : run A (n + 1) 31 args m = fnEv (run A n) (ev A n).2 a31 args m := run_of rfl n args m
theorem run_32 (n : Nat) (args : List AV) (m : Mem) : run A (n + 1) 32 args m = fnEv (run A n) (ev A n).2 a32 args m := run_of rfl n args m
theorem run_33 (n : Nat) (args : List AV) (m : Mem) : run A (n + 1) 33 args m = fnEv (run A n) (ev A n).2 a33 args m := run_of rfl n args m
theorem run_34 (n : Nat) (args : List AV) (m : Mem) : run A (n + 1) 34 args m = fnEv (run A n) (ev A n).2 a34 args m := run_of rfl n args m
theorem run_35 (n : Nat) (args : List AV) (m : Mem) : run A (n + 1) 35 args m = fnEv (run A n) (ev A n).2 a35 args m := run_of rfl n args m
theorem run_36 (n : Nat) (args : List AV) (m : Mem) : run A (n + 1) 36 args m = fnEv (run A n) (ev A n).2 a36 args m := run_of rfl n args m
theorem run_37 (n : Nat) (args : List AV) (m : Mem) : run A (n + 1) 37 args m = fnEv (run A n) (ev A n).2 a37 args m := run_of rfl n args m
theorem run_38 (n : Nat) (args : List AV) (m : Mem) : run A (n + 1) 38 args m = fnEv (run A n) (ev A n).2 a38 args m := run_of rfl n args m
theorem run_39 (n : Nat) (args : List AV) (m : Mem) : run A (n + 1) 39 args m = fnEv (run A n) (ev A n).2 a39 args m := run_of rfl n args m
theorem run_40 (n : Nat) (args : List AV) (m : Mem) : run A (n + 1) 40 args m = fnEv (run A n) (ev A n).2 a40 args m := run_of rfl n args m
theorem run_41 (n : Nat) (args : List AV) (m : Mem) : run A (n + 1) 41 args m = fnEv (run A n) (ev A n).2 a41 args m := run_of rfl n args m
theorem run_42 (n : Nat) (args : List AV) (m : Mem) : run A (n + 1) 42 args m = fnEv (run A n) (ev A n).2 a42 args m := run_of rfl n args m
theorem run_43 (n : Nat) (args : List AV) (m : Mem) : run A (n + 1) 43 args m = fnEv (run A n) (ev A n).2 a43 args m := run_of rfl n args m
theorem run_44 (n : Nat) (args : List AV) (m : Mem) : run A (n + 1) 44 args m = fnEv (run A n) (ev A n).2 a44 args m := run_of rfl n args m
theorem run_45 (n : Nat) (args : List AV) (m : Mem) : run A (n + 1) 45 args m = fnEv (run A n) (ev A n).2 a45 args m := run_of rfl n args m
theorem run_46 (n : Nat) (args : List AV) (m : Mem) : run A (n + 1) 46 args m = fnEv (run A n) (ev A n).2 a46 args m := run_of rfl n args m
theorem run_50 (n : Nat) (args : List AV) (m : Mem) : run A (n + 1) 50 args m = fnEv (run A n) (ev A n).2 a50 args m := run_of rfl n args m
theorem run_51 (n : Nat) (args : List AV) (m : Mem) : run A (n + 1) 51 args m = fnEv (run A n) (ev A n).2 a51 args m := run_of rfl n args m
theorem run_52 (n : Nat) (args : List AV) (m : Mem) : run A (n + 1) 52 args m = fnEv (run A n) (ev A n).2 a52 args m := run_of rfl n args m
theorem run_53 (n : Nat) (args : List AV) (m : Mem) : run A (n + 1) 53 args m = fnEv (run A n) (ev A n).2 a53 args m := run_of rfl n args m
theorem run_54 (n : Nat) (args : List AV) (m : Mem) : run A (n + 1) 54 args m = fnEv (run A n) (ev A n).2 a54 args m := run_of rfl n args m
theorem run_55 (n : Nat) (args : List AV) (m : Mem) : run A (n + 1) 55 args m = fnEv (run A n) (ev A n).2 a55 args m := run_of rfl n args m
theorem run_56 (n : Nat) (args : List AV) (m : Mem) : run A (n + 1) 56 args m = fnEv (run A n) (ev A n).2 a56 args m := run_of rfl n args m
theorem run_57 (n : Nat) (args : List AV) (m : Mem) : run A (n + 1) 57 args m = fnEv (run A n) (ev A n).2 a57 args m := run_of rfl n args m
theorem run_58 (n : Nat) (args : List AV) (m : Mem) : run A (n + 1) 58 args m = fnEv (run A n) (ev A n).2 a58 args m := run_of rfl n args m
theorem run_59 (n : Nat) (args : List AV) (m : Mem) : run A (n + 1) 59 args m = fnEv (run A n) (ev A n).2 a59 args m := run_of rfl n args m
theorem run_60 (n : Nat) (args : List AV) (m : Mem) : run A (n + 1) 60 args m = fnEv (run A n) (ev A n).2 a60 args m := run_of rfl n args m
theorem run_61 (n : Nat) (args : List AV) (m : Mem) : run A (n + 1) 61 args m = fnEv (run A n) (ev A n).2 a61 args m := run_of rfl n args m
theorem run_62 (n : Nat) (args : List AV) (m : Mem) : run A (n + 1) 62 args m = fnEv (run A n) (ev A n).2 a62 args m := run_of rfl n args m
end Go.Proofs.YtenhcejelicjfaaDoor
