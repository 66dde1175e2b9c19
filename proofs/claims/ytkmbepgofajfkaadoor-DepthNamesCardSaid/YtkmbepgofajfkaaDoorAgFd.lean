/- The functions of this seat, as the abstract machine has them; each is what its translation out of the program gives. Made by program. -/
import Derived.Test.YtkmbepgofajfkaaDoorProg
import Derived.Test.YtkmbepgofajfkaaDoorAgFast
import Derived.Test.YtkmbepgofajfkaaDoorAgIt
import Derived.Test.YtkmbepgofajfkaaDoorAgDefer
namespace Go.Proofs.YtkmbepgofajfkaaDoor
open AG
noncomputable section
set_option maxRecDepth 100000
set_option maxHeartbeats 4000000
def h5 : Hints := ⟨[1, 2, 4, 6], [], []⟩
def a5 : AFn := { n := 83, np := 0, res := [.tmp 0], body :=
 (.seq (.reg [⟨(some 0), .mov (.val (.bool false)), none⟩])
 (.seq (.reg [⟨(some 12), .call 26 [], none⟩, ⟨(some 1), .alloc (some 1) [.nils, .nils, .nils, (.int .i64 0), .nils, .nils, (.int .i64 0), .nils], none⟩, ⟨none, .store 8 (.tmp 1) (.tmp 12), none⟩])
 (.seq (.reg [⟨(some 13), .faddr 0 (.tmp 1), none⟩, ⟨(some 14), .load none (.tmp 13), none⟩, ⟨(some 15), .build [(.int .i64 0), (.int .i64 0), (.int .i64 0), (.int .i64 0)] [(0, 1, (.val (.int .i64 3)))], none⟩, ⟨(some 16), .iaddrL 4 (.tmp 14) (.val (.int .i64 1)), none⟩, ⟨none, .store 4 (.tmp 16) (.tmp 15), none⟩])
 (.seq (.reg [⟨(some 18), .load (some 8) (.tmp 1), none⟩, ⟨(some 19), .call 15 [(.tmp 18)], none⟩, ⟨(some 17), .mov (.tmp 19), none⟩, ⟨(some 20), .ext (.tmp 17) 0, none⟩, ⟨(some 21), .ext (.tmp 17) 1, none⟩, ⟨(some 2), .alloc (some 2) [.nils, .nils], none⟩, ⟨none, .store 2 (.tmp 2) (.tmp 20), none⟩, ⟨(some 3), .mov (.tmp 21), none⟩])
 (.seq (.reg [⟨(some 23), .build [.nils, .nils, .nils, (.int .i64 0), .nils, .nils, (.int .i64 0), .nils] [], none⟩, ⟨(some 24), .call 15 [(.tmp 23)], none⟩, ⟨(some 22), .mov (.tmp 24), none⟩, ⟨(some 25), .ext (.tmp 22) 0, none⟩, ⟨(some 26), .ext (.tmp 22) 1, none⟩, ⟨(some 4), .alloc (some 4) [.nils, .nils], none⟩, ⟨none, .store 2 (.tmp 4) (.tmp 25), none⟩, ⟨(some 5), .mov (.tmp 26), none⟩])
 (.seq (.reg [⟨(some 28), .call 26 [], none⟩, ⟨(some 29), .call 15 [(.tmp 28)], none⟩, ⟨(some 27), .mov (.tmp 29), none⟩, ⟨(some 30), .ext (.tmp 27) 0, none⟩, ⟨(some 31), .ext (.tmp 27) 1, none⟩, ⟨(some 6), .alloc (some 6) [.nils, .nils], none⟩, ⟨none, .store 2 (.tmp 6) (.tmp 30), none⟩, ⟨(some 7), .mov (.tmp 31), none⟩])
 (.seq (.dreg [(true, ⟨(some 33), .call 26 [], none⟩, false), (true, ⟨(some 34), .load (some 2) (.tmp 6), none⟩, false), (false, ⟨(some 35), .mkslc 1 1 [(.int .i64 0)] [(0, (.val (.int .i64 1)))], none⟩, false), (false, ⟨(some 36), .call 27 [(.tmp 33), (.tmp 34), (.tmp 35)], none⟩, false), (false, ⟨(some 32), .mov (.tmp 36), none⟩, false), (false, ⟨(some 37), .ext (.tmp 32) 0, none⟩, false), (false, ⟨(some 38), .ext (.tmp 32) 1, none⟩, false), (false, ⟨(some 8), .mov (.tmp 37), none⟩, false), (false, ⟨(some 9), .mov (.tmp 38), none⟩, false)])
 (.seq (.dreg [(true, ⟨(some 40), .call 26 [], none⟩, false), (true, ⟨(some 41), .load (some 2) (.tmp 6), none⟩, false), (false, ⟨(some 42), .call 27 [(.tmp 40), (.tmp 41), (.val .nils)], none⟩, false), (false, ⟨(some 39), .mov (.tmp 42), none⟩, false), (false, ⟨(some 43), .ext (.tmp 39) 0, none⟩, false), (false, ⟨(some 44), .ext (.tmp 39) 1, none⟩, false), (false, ⟨(some 10), .mov (.tmp 43), none⟩, false), (false, ⟨(some 11), .mov (.tmp 44), none⟩, false)])
 (.seq (.dreg [(false, ⟨(some 45), .call 12 [], none⟩, false), (false, ⟨(some 46), .mov (.tmp 45), none⟩, false), (false, ⟨(some 47), .mov (.tmp 3), (some (46, true))⟩, false), (false, ⟨(some 48), .bin .eql (.tmp 47) (.val (.int .i64 10)), (some (46, true))⟩, false), (false, ⟨(some 49), .pick (.tmp 46) (.tmp 48) (.val (.bool false)), none⟩, false), (false, ⟨(some 50), .mov (.tmp 49), none⟩, false), (false, ⟨(some 51), .load (some 8) (.tmp 1), (some (50, true))⟩, false), (false, ⟨(some 52), .call 16 [(.tmp 51)], (some (50, true))⟩, false), (false, ⟨(some 53), .bin .eql (.tmp 52) (.val (.int .i64 1)), (some (50, true))⟩, false), (false, ⟨(some 54), .pick (.tmp 50) (.tmp 53) (.val (.bool false)), none⟩, false), (false, ⟨(some 55), .mov (.tmp 54), none⟩, false), (false, ⟨(some 56), .mov (.tmp 5), (some (55, true))⟩, false), (false, ⟨(some 57), .bin .eql (.tmp 56) (.val (.int .i64 2)), (some (55, true))⟩, false), (false, ⟨(some 58), .pick (.tmp 55) (.tmp 57) (.val (.bool false)), none⟩, false), (false, ⟨(some 59), .mov (.tmp 58), none⟩, false), (false, ⟨(some 60), .mov (.tmp 9), (some (59, true))⟩, false), (false, ⟨(some 61), .bin .eql (.tmp 60) (.val (.int .i64 2)), (some (59, true))⟩, false), (false, ⟨(some 62), .pick (.tmp 59) (.tmp 61) (.val (.bool false)), none⟩, false), (false, ⟨(some 63), .mov (.tmp 62), none⟩, false), (false, ⟨(some 64), .mov (.tmp 10), (some (63, true))⟩, false), (false, ⟨(some 65), .bin .eql (.tmp 64) (.val (.int .i64 0)), (some (63, true))⟩, false), (false, ⟨(some 66), .pick (.tmp 63) (.tmp 65) (.val (.bool false)), none⟩, false), (false, ⟨(some 67), .mov (.tmp 66), none⟩, false), (false, ⟨(some 68), .mov (.tmp 11), (some (67, true))⟩, false), (false, ⟨(some 69), .bin .eql (.tmp 68) (.val (.int .i64 0)), (some (67, true))⟩, false), (false, ⟨(some 70), .pick (.tmp 67) (.tmp 69) (.val (.bool false)), none⟩, false), (false, ⟨(some 71), .mov (.tmp 70), none⟩, false), (true, ⟨(some 72), .call 26 [], (some (71, true))⟩, false), (true, ⟨(some 73), .load (some 2) (.tmp 6), (some (71, true))⟩, false), (false, ⟨(some 74), .call 28 [(.tmp 72), (.tmp 73), (.val (.int .i64 3))], (some (71, true))⟩, false), (false, ⟨(some 75), .bin .eql (.tmp 74) (.val (.int .i64 4)), (some (71, true))⟩, false), (false, ⟨(some 76), .pick (.tmp 71) (.tmp 75) (.val (.bool false)), none⟩, false), (false, ⟨(some 77), .mov (.tmp 76), none⟩, false), (false, ⟨(some 78), .call 26 [], (some (77, true))⟩, false), (false, ⟨(some 79), .build [.nils, .nils] [], (some (77, true))⟩, false), (false, ⟨(some 80), .call 28 [(.tmp 78), (.tmp 79), (.val (.int .i64 3))], (some (77, true))⟩, false), (false, ⟨(some 81), .bin .eql (.tmp 80) (.val (.int .i64 0)), (some (77, true))⟩, false), (false, ⟨(some 82), .pick (.tmp 77) (.tmp 81) (.val (.bool false)), none⟩, false), (false, ⟨(some 0), .mov (.tmp 82), none⟩, false)])
 .ret))))))))) }
def h12 : Hints := ⟨[1, 2], [], []⟩
def a12 : AFn := { n := 35, np := 0, res := [.tmp 0], body :=
 (.seq (.reg [⟨(some 0), .mov (.val (.bool false)), none⟩])
 (.seq (.reg [⟨(some 4), .call 26 [], none⟩, ⟨(some 1), .alloc (some 1) [.nils, .nils, .nils, (.int .i64 0), .nils, .nils, (.int .i64 0), .nils], none⟩, ⟨none, .store 8 (.tmp 1) (.tmp 4), none⟩])
 (.seq (.reg [⟨(some 6), .load (some 8) (.tmp 1), none⟩, ⟨(some 7), .call 15 [(.tmp 6)], none⟩, ⟨(some 5), .mov (.tmp 7), none⟩, ⟨(some 8), .ext (.tmp 5) 0, none⟩, ⟨(some 9), .ext (.tmp 5) 1, none⟩, ⟨(some 2), .alloc (some 2) [.nils, .nils], none⟩, ⟨none, .store 2 (.tmp 2) (.tmp 8), none⟩, ⟨(some 3), .mov (.tmp 9), none⟩])
 (.seq (.reg [⟨(some 10), .mov (.tmp 3), none⟩, ⟨(some 11), .bin .eql (.tmp 10) (.val (.int .i64 0)), none⟩, ⟨(some 12), .mov (.tmp 11), none⟩, ⟨(some 13), .faddr 0 (.tmp 2), (some (12, true))⟩, ⟨(some 14), .load none (.tmp 13), (some (12, true))⟩, ⟨(some 15), .mkslc 1 6 [(.int .i64 0)] [(0, (.val (.int .i64 0))), (1, (.val (.int .i64 0))), (2, (.val (.int .i64 1))), (3, (.val (.int .i64 2))), (4, (.val (.int .i64 1))), (5, (.val (.int .i64 0)))], (some (12, true))⟩, ⟨(some 16), .call 42 [(.tmp 14), (.tmp 15)], (some (12, true))⟩, ⟨(some 17), .pick (.tmp 12) (.tmp 16) (.val (.bool false)), none⟩, ⟨(some 18), .mov (.tmp 17), none⟩, ⟨(some 19), .faddr 1 (.tmp 2), (some (18, true))⟩, ⟨(some 20), .load none (.tmp 19), (some (18, true))⟩, ⟨(some 21), .mkslc 1 1 [(.int .i64 0)] [(0, (.val (.int .i64 2)))], (some (18, true))⟩, ⟨(some 22), .call 42 [(.tmp 20), (.tmp 21)], (some (18, true))⟩, ⟨(some 23), .pick (.tmp 18) (.tmp 22) (.val (.bool false)), none⟩, ⟨(some 24), .mov (.tmp 23), none⟩, ⟨(some 25), .load (some 8) (.tmp 1), (some (24, true))⟩, ⟨(some 26), .load (some 2) (.tmp 2), (some (24, true))⟩, ⟨(some 27), .call 34 [(.tmp 25), (.tmp 26), (.val (.int .i64 0))], (some (24, true))⟩, ⟨(some 28), .bin .eql (.tmp 27) (.val (.int .i64 4)), (some (24, true))⟩, ⟨(some 29), .pick (.tmp 24) (.tmp 28) (.val (.bool false)), none⟩, ⟨(some 30), .mov (.tmp 29), none⟩, ⟨(some 31), .load (some 8) (.tmp 1), (some (30, true))⟩, ⟨(some 32), .call 16 [(.tmp 31)], (some (30, true))⟩, ⟨(some 33), .bin .eql (.tmp 32) (.val (.int .i64 (-1))), (some (30, true))⟩, ⟨(some 34), .pick (.tmp 30) (.tmp 33) (.val (.bool false)), none⟩, ⟨(some 0), .mov (.tmp 34), none⟩])
 .ret)))) }
def h15 : Hints := ⟨[1, 2, 5], [], []⟩
def a15 : AFn := { n := 22, np := 1, res := [.cell 2 (some 2), .tmp 3], body :=
 (.seq (.reg [⟨(some 1), .box (some 1) (.tmp 0), none⟩, ⟨(some 2), .alloc (some 2) [.nils, .nils], none⟩, ⟨(some 3), .mov (.val (.int .i64 0)), none⟩])
 (.seq (.seq (.reg [⟨(some 7), .load (some 8) (.tmp 1), none⟩, ⟨(some 8), .call 54 [(.tmp 7)], none⟩, ⟨(some 4), .mov (.tmp 8), none⟩])
 (.seq (.reg [⟨(some 9), .mov (.tmp 4), none⟩, ⟨(some 10), .bin .neq (.tmp 9) (.val (.int .i64 0)), none⟩])
 (.cond (.tmp 10) (.seq (.reg [⟨(some 11), .build [.nils, .nils] [], none⟩, ⟨(some 12), .mov (.tmp 4), none⟩, ⟨none, .store 2 (.tmp 2) (.tmp 11), none⟩, ⟨(some 3), .mov (.tmp 12), none⟩])
 .ret) .skip)))
 (.seq (.reg [⟨(some 14), .load (some 8) (.tmp 1), none⟩, ⟨(some 15), .call 55 [(.tmp 14)], none⟩, ⟨(some 13), .mov (.tmp 15), none⟩, ⟨(some 16), .ext (.tmp 13) 0, none⟩, ⟨(some 17), .ext (.tmp 13) 1, none⟩, ⟨(some 5), .alloc (some 5) [.nils, .nils], none⟩, ⟨none, .store 2 (.tmp 5) (.tmp 16), none⟩, ⟨(some 6), .mov (.tmp 17), none⟩])
 (.seq (.seq (.reg [⟨(some 18), .mov (.tmp 6), none⟩, ⟨(some 19), .bin .geq (.tmp 18) (.val (.int .i64 0)), none⟩])
 (.cond (.tmp 19) (.seq (.reg [⟨(some 20), .build [.nils, .nils] [], none⟩, ⟨none, .store 2 (.tmp 2) (.tmp 20), none⟩, ⟨(some 3), .mov (.val (.int .i64 10)), none⟩])
 .ret) .skip))
 (.seq (.reg [⟨(some 21), .load (some 2) (.tmp 5), none⟩, ⟨none, .store 2 (.tmp 2) (.tmp 21), none⟩, ⟨(some 3), .mov (.val (.int .i64 0)), none⟩])
 .ret))))) }
def h16 : Hints := ⟨[1, 3], [], []⟩
def a16 : AFn := { n := 14, np := 1, res := [.tmp 2], body :=
 (.seq (.reg [⟨(some 1), .box (some 1) (.tmp 0), none⟩, ⟨(some 2), .mov (.val (.int .i64 0)), none⟩])
 (.seq (.seq (.reg [⟨(some 5), .load (some 8) (.tmp 1), none⟩, ⟨(some 6), .call 54 [(.tmp 5)], none⟩, ⟨(some 7), .bin .neq (.tmp 6) (.val (.int .i64 0)), none⟩])
 (.cond (.tmp 7) (.seq (.reg [⟨(some 2), .mov (.val (.int .i64 (-1))), none⟩])
 .ret) .skip))
 (.seq (.reg [⟨(some 9), .load (some 8) (.tmp 1), none⟩, ⟨(some 10), .call 55 [(.tmp 9)], none⟩, ⟨(some 8), .mov (.tmp 10), none⟩, ⟨(some 11), .ext (.tmp 8) 0, none⟩, ⟨(some 12), .ext (.tmp 8) 1, none⟩, ⟨(some 3), .alloc (some 3) [.nils, .nils], none⟩, ⟨none, .store 2 (.tmp 3) (.tmp 11), none⟩, ⟨(some 4), .mov (.tmp 12), none⟩])
 (.seq (.reg [⟨(some 13), .mov (.tmp 4), none⟩, ⟨(some 2), .mov (.tmp 13), none⟩])
 .ret)))) }
def h26 : Hints := ⟨[0], [], []⟩
def a26 : AFn := { n := 12, np := 0, res := [.cell 0 (some 8)], body :=
 (.seq (.reg [⟨(some 0), .alloc (some 0) [.nils, .nils, .nils, (.int .i64 0), .nils, .nils, (.int .i64 0), .nils], none⟩])
 (.seq (.reg [⟨(some 1), .build [(.int .i64 0), (.int .i64 0), (.int .i64 0), (.int .i64 0)] [(0, 1, (.val (.int .i64 22)))], none⟩, ⟨(some 2), .build [(.int .i64 0), (.int .i64 0), (.int .i64 0), (.int .i64 0)] [(0, 1, (.val (.int .i64 4)))], none⟩, ⟨(some 3), .build [(.int .i64 0), (.int .i64 0), (.int .i64 0), (.int .i64 0)] [(0, 1, (.val (.int .i64 2))), (1, 1, (.val (.int .i64 1)))], none⟩, ⟨(some 4), .build [(.int .i64 0), (.int .i64 0), (.int .i64 0), (.int .i64 0)] [(0, 1, (.val (.int .i64 12))), (1, 1, (.val (.int .i64 1)))], none⟩, ⟨(some 5), .build [(.int .i64 0), (.int .i64 0), (.int .i64 0), (.int .i64 0)] [(0, 1, (.val (.int .i64 5))), (2, 1, (.val (.int .i64 8)))], none⟩, ⟨(some 6), .build [(.int .i64 0), (.int .i64 0), (.int .i64 0), (.int .i64 0)] [(0, 1, (.val (.int .i64 1)))], none⟩, ⟨(some 7), .mkslc 4 6 [(.int .i64 0), (.int .i64 0), (.int .i64 0), (.int .i64 0)] [(0, (.tmp 1)), (1, (.tmp 2)), (2, (.tmp 3)), (3, (.tmp 4)), (4, (.tmp 5)), (5, (.tmp 6))], none⟩, ⟨(some 8), .build [(.int .i64 0), (.int .i64 0), (.int .i64 0)] [], none⟩, ⟨(some 9), .mkslc 3 1 [(.int .i64 0), (.int .i64 0), (.int .i64 0)] [(0, (.tmp 8))], none⟩, ⟨(some 10), .mkslc 1 1 [(.int .u32 0)] [(0, (.val (.int .u32 44)))], none⟩, ⟨(some 11), .build [.nils, .nils, .nils, (.int .i64 0), .nils, .nils, (.int .i64 0), .nils] [(0, 1, (.tmp 7)), (1, 1, (.tmp 9)), (4, 1, (.tmp 10)), (6, 1, (.val (.int .i64 9)))], none⟩, ⟨none, .store 8 (.tmp 0) (.tmp 11), none⟩])
 .ret)) }
def h27 : Hints := ⟨[3, 4], [], []⟩
def a27_B1 : AC := (.seq (.reg [⟨(some 21), .bin .lss (.tmp 20) (.tmp 19), none⟩])
 (.seq (.cond (.tmp 21) .skip (.exit 0))
 (.seq (.block 1 (.seq (.reg [⟨(some 22), .iaddrL 1 (.tmp 18) (.tmp 20), none⟩, ⟨(some 23), .load none (.tmp 22), none⟩, ⟨(some 11), .mov (.tmp 23), none⟩])
 (.seq (.seq (.reg [⟨(some 24), .mov (.tmp 11), none⟩, ⟨(some 25), .bin .lss (.tmp 24) (.val (.int .i64 0)), none⟩, ⟨(some 26), .mov (.tmp 25), none⟩, ⟨(some 27), .mov (.tmp 11), (some (26, false))⟩, ⟨(some 28), .faddr 0 (.tmp 3), (some (26, false))⟩, ⟨(some 29), .load none (.tmp 28), (some (26, false))⟩, ⟨(some 30), .lenL (.tmp 29), (some (26, false))⟩, ⟨(some 31), .bin .geq (.tmp 27) (.tmp 30), (some (26, false))⟩, ⟨(some 32), .pick (.tmp 26) (.val (.bool true)) (.tmp 31), none⟩, ⟨(some 33), .mov (.tmp 32), none⟩, ⟨(some 34), .faddr 0 (.tmp 4), (some (33, false))⟩, ⟨(some 35), .load none (.tmp 34), (some (33, false))⟩, ⟨(some 36), .mov (.tmp 11), (some (33, false))⟩, ⟨(some 37), .iaddrL 1 (.tmp 35) (.tmp 36), (some (33, false))⟩, ⟨(some 38), .load none (.tmp 37), (some (33, false))⟩, ⟨(some 39), .bin .lss (.tmp 38) (.val (.int .i64 0)), (some (33, false))⟩, ⟨(some 40), .pick (.tmp 33) (.val (.bool true)) (.tmp 39), none⟩, ⟨(some 41), .mov (.tmp 40), none⟩, ⟨(some 42), .faddr 0 (.tmp 3), (some (41, false))⟩, ⟨(some 43), .load none (.tmp 42), (some (41, false))⟩, ⟨(some 44), .mov (.tmp 11), (some (41, false))⟩, ⟨(some 45), .iaddrL 4 (.tmp 43) (.tmp 44), (some (41, false))⟩, ⟨(some 46), .faddr 0 (.tmp 45), (some (41, false))⟩, ⟨(some 47), .load none (.tmp 46), (some (41, false))⟩, ⟨(some 48), .bin .neq (.tmp 47) (.val (.int .i64 17)), (some (41, false))⟩, ⟨(some 49), .pick (.tmp 41) (.val (.bool true)) (.tmp 48), none⟩])
 (.cond (.tmp 49) (.seq (.reg [⟨(some 6), .mov (.val (.int .i64 0)), none⟩, ⟨(some 7), .mov (.val (.int .i64 2)), none⟩])
 .ret) .skip))
 (.seq (.seq (.reg [⟨(some 51), .load (some 8) (.tmp 3), none⟩, ⟨(some 52), .mov (.tmp 11), none⟩, ⟨(some 53), .call 67 [(.tmp 51), (.tmp 52)], none⟩, ⟨(some 50), .mov (.tmp 53), none⟩, ⟨(some 54), .ext (.tmp 50) 0, none⟩, ⟨(some 55), .ext (.tmp 50) 1, none⟩, ⟨(some 12), .mov (.tmp 54), none⟩, ⟨(some 13), .mov (.tmp 55), none⟩])
 (.seq (.reg [⟨(some 56), .mov (.tmp 9), none⟩, ⟨(some 57), .bin .geq (.tmp 56) (.val (.int .i64 0)), none⟩, ⟨(some 58), .mov (.tmp 57), none⟩, ⟨(some 59), .mov (.tmp 12), (some (58, true))⟩, ⟨(some 60), .mov (.tmp 9), (some (58, true))⟩, ⟨(some 61), .bin .neq (.tmp 59) (.tmp 60), (some (58, true))⟩, ⟨(some 62), .pick (.tmp 58) (.tmp 61) (.val (.bool false)), none⟩])
 (.cond (.tmp 62) (.seq (.reg [⟨(some 6), .mov (.val (.int .i64 0)), none⟩, ⟨(some 7), .mov (.val (.int .i64 2)), none⟩])
 .ret) .skip)))
 (.seq (.reg [⟨(some 63), .faddr 0 (.tmp 3), none⟩, ⟨(some 64), .load none (.tmp 63), none⟩, ⟨(some 65), .mov (.tmp 11), none⟩, ⟨(some 66), .iaddrL 4 (.tmp 64) (.tmp 65), none⟩, ⟨(some 67), .faddr 1 (.tmp 66), none⟩, ⟨(some 68), .load none (.tmp 67), none⟩, ⟨(some 9), .mov (.tmp 68), none⟩])
 (.dreg [(false, ⟨(some 69), .mov (.tmp 8), none⟩, false), (false, ⟨(some 70), .load (some 8) (.tmp 3), none⟩, false), (false, ⟨(some 71), .load (some 2) (.tmp 4), none⟩, false), (false, ⟨(some 72), .mov (.tmp 11), none⟩, false), (true, ⟨(some 73), .call 68 [(.tmp 70), (.tmp 71), (.tmp 72)], none⟩, false), (false, ⟨(some 74), .faddr 1 (.tmp 3), none⟩, false), (true, ⟨(some 75), .load none (.tmp 74), none⟩, false), (false, ⟨(some 76), .mov (.tmp 9), none⟩, false), (false, ⟨(some 77), .iaddrL 3 (.tmp 75) (.tmp 76), none⟩, false), (false, ⟨(some 78), .faddr 1 (.tmp 77), none⟩, false), (true, ⟨(some 79), .load none (.tmp 78), none⟩, false), (false, ⟨(some 80), .bin .sub (.tmp 73) (.tmp 79), none⟩, false), (false, ⟨(some 81), .bin .add (.tmp 69) (.tmp 80), none⟩, false), (false, ⟨(some 8), .mov (.tmp 81), none⟩, false)]))))))
 (.reg [⟨(some 82), .bin .add (.tmp 20) (.val (.int .i64 1)), none⟩, ⟨(some 20), .mov (.tmp 82), none⟩]))))
def a27_L1 : AC := .loop a27_B1
theorem a27_L1_step (call : Caller) (again : AC → St → Option (Ex × St)) (s : St) : codeEv call again a27_L1 s = match codeEv call again a27_B1 s with | some (.norm, s1) => again a27_L1 s1 | r => r := rfl
def a27 : AFn := { n := 84, np := 3, res := [.tmp 6, .tmp 7], body :=
 (.seq (.reg [⟨(some 3), .box (some 3) (.tmp 0), none⟩, ⟨(some 4), .box (some 4) (.tmp 1), none⟩, ⟨(some 6), .mov (.val (.int .i64 0)), none⟩, ⟨(some 7), .mov (.val (.int .i64 0)), none⟩])
 (.seq (.seq (.reg [⟨(some 14), .load (some 8) (.tmp 3), none⟩, ⟨(some 15), .load (some 2) (.tmp 4), none⟩, ⟨(some 16), .call 66 [(.tmp 14), (.tmp 15)], none⟩, ⟨(some 17), .un .not (.tmp 16), none⟩])
 (.cond (.tmp 17) (.seq (.reg [⟨(some 6), .mov (.val (.int .i64 0)), none⟩, ⟨(some 7), .mov (.val (.int .i64 2)), none⟩])
 .ret) .skip))
 (.seq (.reg [⟨(some 8), .mov (.val (.int .i64 0)), none⟩, ⟨(some 9), .mov (.val (.int .i64 (-1))), none⟩])
 (.seq (.seq (.reg [⟨(some 18), .mov (.tmp 2), none⟩, ⟨(some 19), .lenL (.tmp 18), none⟩, ⟨(some 20), .mov (.val (.int .i64 0)), none⟩])
 (.block 0 a27_L1))
 (.seq (.reg [⟨(some 83), .mov (.tmp 8), none⟩, ⟨(some 6), .mov (.tmp 83), none⟩, ⟨(some 7), .mov (.val (.int .i64 0)), none⟩])
 .ret))))) }
def h28 : Hints := ⟨[3, 4], [], []⟩
def a28 : AFn := { n := 34, np := 3, res := [.tmp 6], body :=
 (.seq (.reg [⟨(some 3), .box (some 3) (.tmp 0), none⟩, ⟨(some 4), .box (some 4) (.tmp 1), none⟩, ⟨(some 6), .mov (.val (.int .i64 0)), none⟩])
 (.seq (.seq (.reg [⟨(some 7), .mov (.tmp 2), none⟩, ⟨(some 8), .bin .lss (.tmp 7) (.val (.int .i64 0)), none⟩, ⟨(some 9), .mov (.tmp 8), none⟩, ⟨(some 10), .mov (.tmp 2), (some (9, false))⟩, ⟨(some 11), .faddr 0 (.tmp 3), (some (9, false))⟩, ⟨(some 12), .load none (.tmp 11), (some (9, false))⟩, ⟨(some 13), .lenL (.tmp 12), (some (9, false))⟩, ⟨(some 14), .bin .geq (.tmp 10) (.tmp 13), (some (9, false))⟩, ⟨(some 15), .pick (.tmp 9) (.val (.bool true)) (.tmp 14), none⟩, ⟨(some 16), .mov (.tmp 15), none⟩, ⟨(some 17), .load (some 8) (.tmp 3), (some (16, false))⟩, ⟨(some 18), .load (some 2) (.tmp 4), (some (16, false))⟩, ⟨(some 19), .call 66 [(.tmp 17), (.tmp 18)], (some (16, false))⟩, ⟨(some 20), .un .not (.tmp 19), (some (16, false))⟩, ⟨(some 21), .pick (.tmp 16) (.val (.bool true)) (.tmp 20), none⟩, ⟨(some 22), .mov (.tmp 21), none⟩, ⟨(some 23), .faddr 0 (.tmp 4), (some (22, false))⟩, ⟨(some 24), .load none (.tmp 23), (some (22, false))⟩, ⟨(some 25), .mov (.tmp 2), (some (22, false))⟩, ⟨(some 26), .iaddrL 1 (.tmp 24) (.tmp 25), (some (22, false))⟩, ⟨(some 27), .load none (.tmp 26), (some (22, false))⟩, ⟨(some 28), .bin .lss (.tmp 27) (.val (.int .i64 0)), (some (22, false))⟩, ⟨(some 29), .pick (.tmp 22) (.val (.bool true)) (.tmp 28), none⟩])
 (.cond (.tmp 29) (.seq (.reg [⟨(some 6), .mov (.val (.int .i64 0)), none⟩])
 .ret) .skip))
 (.seq (.reg [⟨(some 30), .load (some 8) (.tmp 3), none⟩, ⟨(some 31), .load (some 2) (.tmp 4), none⟩, ⟨(some 32), .mov (.tmp 2), none⟩, ⟨(some 33), .call 68 [(.tmp 30), (.tmp 31), (.tmp 32)], none⟩, ⟨(some 6), .mov (.tmp 33), none⟩])
 .ret))) }
def h34 : Hints := ⟨[], [], []⟩
def a34 : AFn := { n := 29, np := 3, res := [.tmp 6], body :=
 (.seq (.reg [⟨(some 3), .box none (.tmp 0), none⟩, ⟨(some 4), .box none (.tmp 1), none⟩, ⟨(some 6), .mov (.val (.int .i64 0)), none⟩])
 (.seq (.seq (.reg [⟨(some 9), .mov (.tmp 2), none⟩, ⟨(some 10), .bin .lss (.tmp 9) (.val (.int .i64 0)), none⟩, ⟨(some 11), .mov (.tmp 10), none⟩, ⟨(some 12), .mov (.tmp 2), (some (11, false))⟩, ⟨(some 13), .faddr 1 (.tmp 3), (some (11, false))⟩, ⟨(some 14), .load none (.tmp 13), (some (11, false))⟩, ⟨(some 15), .lenL (.tmp 14), (some (11, false))⟩, ⟨(some 16), .bin .geq (.tmp 12) (.tmp 15), (some (11, false))⟩, ⟨(some 17), .pick (.tmp 11) (.val (.bool true)) (.tmp 16), none⟩, ⟨(some 18), .mov (.tmp 17), none⟩, ⟨(some 19), .load (some 8) (.tmp 3), (some (18, false))⟩, ⟨(some 20), .load (some 2) (.tmp 4), (some (18, false))⟩, ⟨(some 21), .call 66 [(.tmp 19), (.tmp 20)], (some (18, false))⟩, ⟨(some 22), .un .not (.tmp 21), (some (18, false))⟩, ⟨(some 23), .pick (.tmp 18) (.val (.bool true)) (.tmp 22), none⟩])
 (.cond (.tmp 23) (.seq (.reg [⟨(some 6), .mov (.val (.int .i64 0)), none⟩])
 .ret) .skip))
 (.seq (.reg [⟨(some 24), .xm (.mkmap) [], none⟩, ⟨(some 7), .alloc none [.nilm], none⟩, ⟨none, .store 1 (.tmp 7) (.tmp 24), none⟩])
 (.seq (.reg [⟨(some 8), .alloc none [.nilf], none⟩])
 (.seq (.reg [⟨(some 25), .mkfn 72 [(.tmp 7), (.tmp 3), (.tmp 4), (.tmp 8)], none⟩, ⟨none, .store 1 (.tmp 8) (.tmp 25), none⟩])
 (.seq (.reg [⟨(some 26), .load none (.tmp 8), none⟩, ⟨(some 27), .mov (.tmp 2), none⟩, ⟨(some 28), .callv (.tmp 26) [(.tmp 27)], none⟩, ⟨(some 6), .mov (.tmp 28), none⟩])
 .ret)))))) }
def h42 : Hints := ⟨[], [], []⟩
def a42_B1 : AC := (.seq (.seq (.reg [⟨(some 11), .mov (.tmp 5), none⟩, ⟨(some 12), .mov (.tmp 0), none⟩, ⟨(some 13), .lenL (.tmp 12), none⟩, ⟨(some 14), .bin .lss (.tmp 11) (.tmp 13), none⟩])
 (.cond (.tmp 14) .skip (.exit 0)))
 (.seq (.block 1 (.seq (.dreg [(false, ⟨(some 17), .mov (.tmp 0), none⟩, false), (false, ⟨(some 18), .mov (.tmp 5), none⟩, false), (false, ⟨(some 19), .iaddrL 1 (.tmp 17) (.tmp 18), none⟩, false), (false, ⟨(some 20), .load none (.tmp 19), none⟩, false), (false, ⟨(some 21), .mov (.tmp 1), none⟩, false), (false, ⟨(some 22), .mov (.tmp 5), none⟩, false), (false, ⟨(some 23), .iaddrL 1 (.tmp 21) (.tmp 22), none⟩, false), (false, ⟨(some 24), .load none (.tmp 23), none⟩, false), (false, ⟨(some 25), .bin .neq (.tmp 20) (.tmp 24), none⟩, false)])
 (.cond (.tmp 25) (.seq (.reg [⟨(some 4), .mov (.val (.bool false)), none⟩])
 .ret) .skip)))
 (.reg [⟨(some 15), .mov (.tmp 5), none⟩, ⟨(some 16), .bin .add (.tmp 15) (.val (.int .i64 1)), none⟩, ⟨(some 5), .mov (.tmp 16), none⟩])))
def a42_L1 : AC := .loop a42_B1
theorem a42_L1_step (call : Caller) (again : AC → St → Option (Ex × St)) (s : St) : codeEv call again a42_L1 s = match codeEv call again a42_B1 s with | some (.norm, s1) => again a42_L1 s1 | r => r := rfl
def a42 : AFn := { n := 26, np := 2, res := [.tmp 4], body :=
 (.seq (.reg [⟨(some 4), .mov (.val (.bool false)), none⟩])
 (.seq (.seq (.reg [⟨(some 6), .mov (.tmp 0), none⟩, ⟨(some 7), .lenL (.tmp 6), none⟩, ⟨(some 8), .mov (.tmp 1), none⟩, ⟨(some 9), .lenL (.tmp 8), none⟩, ⟨(some 10), .bin .neq (.tmp 7) (.tmp 9), none⟩])
 (.cond (.tmp 10) (.seq (.reg [⟨(some 4), .mov (.val (.bool false)), none⟩])
 .ret) .skip))
 (.seq (.seq (.reg [⟨(some 5), .mov (.val (.int .i64 0)), none⟩])
 (.block 0 a42_L1))
 (.seq (.reg [⟨(some 4), .mov (.val (.bool true)), none⟩])
 .ret)))) }
def h45 : Hints := ⟨[2], [], []⟩
def a45 : AFn := { n := 18, np := 2, res := [.tmp 4], body :=
 (.seq (.reg [⟨(some 2), .box (some 2) (.tmp 0), none⟩, ⟨(some 4), .mov (.val .nils), none⟩])
 (.seq (.seq (.reg [⟨(some 8), .load (some 8) (.tmp 2), none⟩, ⟨(some 9), .mov (.tmp 1), none⟩, ⟨(some 10), .call 67 [(.tmp 8), (.tmp 9)], none⟩, ⟨(some 7), .mov (.tmp 10), none⟩, ⟨(some 11), .ext (.tmp 7) 0, none⟩, ⟨(some 12), .ext (.tmp 7) 1, none⟩, ⟨(some 5), .mov (.tmp 11), none⟩, ⟨(some 6), .mov (.tmp 12), none⟩])
 (.seq (.reg [⟨(some 13), .mov (.tmp 6), none⟩, ⟨(some 14), .un .not (.tmp 13), none⟩])
 (.cond (.tmp 14) (.seq (.reg [⟨(some 4), .mov (.val .nils), none⟩])
 .ret) .skip)))
 (.seq (.reg [⟨(some 15), .load (some 8) (.tmp 2), none⟩, ⟨(some 16), .mov (.tmp 1), none⟩, ⟨(some 17), .call 87 [(.tmp 15), (.tmp 16)], none⟩, ⟨(some 4), .mov (.tmp 17), none⟩])
 .ret))) }
def h54 : Hints := ⟨[1], [], []⟩
def a54_B1 : AC := (.seq (.reg [⟨(some 8), .bin .lss (.tmp 7) (.val (.int .i64 6)), none⟩])
 (.seq (.cond (.tmp 8) .skip (.exit 0))
 (.seq (.block 1 (.seq (.reg [⟨(some 9), .idxA 6 1 false (.tmp 6) (.tmp 7), none⟩, ⟨(some 4), .mov (.tmp 9), none⟩])
 (.seq (.reg [⟨(some 10), .mov (.tmp 4), none⟩, ⟨(some 11), .load (some 8) (.tmp 1), none⟩, ⟨(some 12), .build [.nils, .nils, .nils, (.int .i64 0), .nils, .nils, (.int .i64 0), .nils] [(0, 8, (.tmp 11))], none⟩, ⟨(some 13), .callv (.tmp 10) [(.tmp 12)], none⟩, ⟨(some 5), .mov (.tmp 13), none⟩])
 (.seq (.reg [⟨(some 14), .mov (.tmp 5), none⟩, ⟨(some 15), .bin .neq (.tmp 14) (.val (.int .i64 0)), none⟩])
 (.cond (.tmp 15) (.seq (.reg [⟨(some 16), .mov (.tmp 5), none⟩, ⟨(some 2), .mov (.tmp 16), none⟩])
 .ret) .skip)))))
 (.reg [⟨(some 17), .bin .add (.tmp 7) (.val (.int .i64 1)), none⟩, ⟨(some 7), .mov (.tmp 17), none⟩]))))
def a54_L1 : AC := .loop a54_B1
theorem a54_L1_step (call : Caller) (again : AC → St → Option (Ex × St)) (s : St) : codeEv call again a54_L1 s = match codeEv call again a54_B1 s with | some (.norm, s1) => again a54_L1 s1 | r => r := rfl
def a54 : AFn := { n := 18, np := 1, res := [.tmp 2], body :=
 (.seq (.reg [⟨(some 1), .box (some 1) (.tmp 0), none⟩, ⟨(some 2), .mov (.val (.int .i64 0)), none⟩])
 (.seq (.seq (.reg [⟨(some 6), .load (some 6) (.val (.ptr 0 0)), none⟩, ⟨(some 7), .mov (.val (.int .i64 0)), none⟩])
 (.block 0 a54_L1))
 (.seq (.reg [⟨(some 2), .mov (.val (.int .i64 0)), none⟩])
 .ret))) }
def h55 : Hints := ⟨[1, 2, 4], [], []⟩
def a55_B1 : AC := (.seq (.seq (.reg [⟨(some 142), .mov (.tmp 23), none⟩, ⟨(some 143), .mov (.tmp 22), none⟩, ⟨(some 144), .bin .lss (.tmp 142) (.tmp 143), none⟩])
 (.cond (.tmp 144) .skip (.exit 6)))
 (.seq (.block 7 (.seq (.reg [⟨(some 147), .faddr 0 (.tmp 4), none⟩, ⟨(some 148), .load none (.tmp 147), none⟩, ⟨(some 149), .mov (.tmp 23), none⟩, ⟨(some 150), .iaddrL 1 (.tmp 148) (.tmp 149), none⟩, ⟨none, .store 1 (.tmp 150) (.val (.int .i64 (-1))), none⟩])
 (.seq (.reg [⟨(some 152), .mov (.tmp 9), none⟩, ⟨(some 153), .mov (.tmp 23), none⟩, ⟨(some 154), .xm (.mlk .int ((.int .i64 0)) true) [(.tmp 152), (.tmp 153)], none⟩, ⟨(some 151), .mov (.tmp 154), none⟩, ⟨(some 155), .ext (.tmp 151) 0, none⟩, ⟨(some 156), .ext (.tmp 151) 1, none⟩, ⟨(some 24), .mov (.tmp 155), none⟩, ⟨(some 25), .mov (.tmp 156), none⟩])
 (.seq (.reg [⟨(some 157), .mov (.tmp 25), none⟩])
 (.cond (.tmp 157) (.reg [⟨(some 158), .faddr 0 (.tmp 4), none⟩, ⟨(some 159), .load none (.tmp 158), none⟩, ⟨(some 160), .mov (.tmp 23), none⟩, ⟨(some 161), .mov (.tmp 24), none⟩, ⟨(some 162), .iaddrL 1 (.tmp 159) (.tmp 160), none⟩, ⟨none, .store 1 (.tmp 162) (.tmp 161), none⟩]) .skip)))))
 (.reg [⟨(some 145), .mov (.tmp 23), none⟩, ⟨(some 146), .bin .add (.tmp 145) (.val (.int .i64 1)), none⟩, ⟨(some 23), .mov (.tmp 146), none⟩])))
def a55_L1 : AC := .loop a55_B1
theorem a55_L1_step (call : Caller) (again : AC → St → Option (Ex × St)) (s : St) : codeEv call again a55_L1 s = match codeEv call again a55_B1 s with | some (.norm, s1) => again a55_L1 s1 | r => r := rfl
def a55_B2 : AC := (.seq (.reg [⟨(some 110), .bin .lss (.tmp 109) (.tmp 108), none⟩])
 (.seq (.cond (.tmp 110) .skip (.exit 4))
 (.seq (.block 5 (.seq (.reg [⟨(some 111), .iaddrL 1 (.tmp 107) (.tmp 109), none⟩, ⟨(some 112), .load none (.tmp 111), none⟩, ⟨(some 18), .mov (.tmp 112), none⟩])
 (.seq (.reg [⟨(some 114), .mov (.tmp 9), none⟩, ⟨(some 115), .mov (.tmp 18), none⟩, ⟨(some 116), .xm (.mlk .int ((.int .i64 0)) true) [(.tmp 114), (.tmp 115)], none⟩, ⟨(some 113), .mov (.tmp 116), none⟩, ⟨(some 117), .ext (.tmp 113) 0, none⟩, ⟨(some 118), .ext (.tmp 113) 1, none⟩, ⟨(some 19), .mov (.tmp 117), none⟩, ⟨(some 20), .mov (.tmp 118), none⟩])
 (.seq (.reg [⟨(some 119), .mov (.tmp 20), none⟩, ⟨(some 120), .mov (.tmp 119), none⟩, ⟨(some 121), .mov (.tmp 19), (some (120, true))⟩, ⟨(some 122), .mov (.tmp 16), (some (120, true))⟩, ⟨(some 123), .bin .neq (.tmp 121) (.tmp 122), (some (120, true))⟩, ⟨(some 124), .pick (.tmp 120) (.tmp 123) (.val (.bool false)), none⟩])
 (.cond (.tmp 124) (.reg [⟨(some 125), .mov (.tmp 6), none⟩, ⟨(some 126), .mov (.tmp 18), none⟩, ⟨(some 127), .callv (.tmp 125) [(.tmp 126)], none⟩]) (.seq (.reg [⟨(some 128), .mov (.tmp 20), none⟩, ⟨(some 129), .un .not (.tmp 128), none⟩])
 (.cond (.tmp 129) (.reg [⟨(some 130), .mov (.tmp 9), none⟩, ⟨(some 131), .mov (.tmp 18), none⟩, ⟨(some 132), .mov (.tmp 16), none⟩, ⟨none, .xm (.mup .int) [(.tmp 130), (.tmp 131), (.tmp 132)], none⟩]) .skip)))))))
 (.reg [⟨(some 133), .bin .add (.tmp 109) (.val (.int .i64 1)), none⟩, ⟨(some 109), .mov (.tmp 133), none⟩]))))
def a55_L2 : AC := .loop a55_B2
theorem a55_L2_step (call : Caller) (again : AC → St → Option (Ex × St)) (s : St) : codeEv call again a55_L2 s = match codeEv call again a55_B2 s with | some (.norm, s1) => again a55_L2 s1 | r => r := rfl
def a55_B3 : AC := (.seq (.reg [⟨(some 57), .bin .lss (.tmp 56) (.tmp 55), none⟩])
 (.seq (.cond (.tmp 57) .skip (.exit 2))
 (.seq (.block 3 (.seq (.reg [⟨(some 58), .iaddrL 1 (.tmp 54) (.tmp 56), none⟩, ⟨(some 59), .load none (.tmp 58), none⟩, ⟨(some 11), .mov (.tmp 59), none⟩])
 (.seq (.reg [⟨(some 61), .faddr 0 (.tmp 1), none⟩, ⟨(some 62), .load none (.tmp 61), none⟩, ⟨(some 63), .mov (.tmp 11), none⟩, ⟨(some 64), .iaddrL 4 (.tmp 62) (.tmp 63), none⟩, ⟨(some 65), .load (some 4) (.tmp 64), none⟩, ⟨(some 66), .mov (.tmp 7), none⟩, ⟨(some 67), .call 92 [(.tmp 65), (.tmp 66)], none⟩, ⟨(some 60), .mov (.tmp 67), none⟩, ⟨(some 68), .ext (.tmp 60) 0, none⟩, ⟨(some 69), .ext (.tmp 60) 1, none⟩, ⟨(some 70), .ext (.tmp 60) 2, none⟩, ⟨(some 12), .mov (.tmp 68), none⟩, ⟨(some 13), .mov (.tmp 69), none⟩, ⟨(some 14), .mov (.tmp 70), none⟩])
 (.seq (.reg [⟨(some 71), .mov (.tmp 9), none⟩, ⟨(some 72), .mov (.tmp 11), none⟩, ⟨(some 73), .xm (.mlk .int ((.int .i64 0)) false) [(.tmp 71), (.tmp 72)], none⟩, ⟨(some 15), .mov (.tmp 73), none⟩])
 (.seq (.dreg [(false, ⟨(some 74), .faddr 1 (.tmp 4), none⟩, false), (false, ⟨(some 75), .load none (.tmp 74), none⟩, false), (false, ⟨(some 76), .mov (.tmp 8), none⟩, false), (false, ⟨(some 77), .faddr 1 (.tmp 4), none⟩, false), (false, ⟨(some 78), .load none (.tmp 77), none⟩, false), (false, ⟨(some 79), .mov (.tmp 8), none⟩, false), (false, ⟨(some 80), .iaddrL 1 (.tmp 78) (.tmp 79), none⟩, false), (false, ⟨(some 81), .load none (.tmp 80), none⟩, false), (false, ⟨(some 82), .mov (.tmp 15), none⟩, false), (false, ⟨(some 83), .max [(.tmp 81), (.tmp 82)], none⟩, false), (false, ⟨(some 84), .iaddrL 1 (.tmp 75) (.tmp 76), none⟩, false), (false, ⟨none, .store 1 (.tmp 84) (.tmp 83), none⟩, false)])
 (.seq (.seq (.reg [⟨(some 85), .mov (.tmp 15), none⟩, ⟨(some 86), .mov (.tmp 12), none⟩, ⟨(some 87), .bin .lss (.tmp 85) (.tmp 86), none⟩, ⟨(some 88), .mov (.tmp 87), none⟩, ⟨(some 89), .mov (.tmp 15), (some (88, false))⟩, ⟨(some 90), .mov (.tmp 12), (some (88, false))⟩, ⟨(some 91), .bin .sub (.tmp 89) (.tmp 90), (some (88, false))⟩, ⟨(some 92), .mov (.tmp 13), (some (88, false))⟩, ⟨(some 93), .bin .add (.tmp 91) (.tmp 92), (some (88, false))⟩, ⟨(some 94), .bin .gtr (.tmp 93) (.val (.int .i64 512)), (some (88, false))⟩, ⟨(some 95), .pick (.tmp 88) (.val (.bool true)) (.tmp 94), none⟩])
 (.cond (.tmp 95) (.reg [⟨(some 96), .mov (.tmp 6), none⟩, ⟨(some 97), .mov (.tmp 11), none⟩, ⟨(some 98), .callv (.tmp 96) [(.tmp 97)], none⟩]) .skip))
 (.seq (.reg [⟨(some 99), .mov (.tmp 15), none⟩, ⟨(some 100), .mov (.tmp 12), none⟩, ⟨(some 101), .bin .sub (.tmp 99) (.tmp 100), none⟩, ⟨(some 102), .max [(.val (.int .i64 0)), (.tmp 101)], none⟩, ⟨(some 103), .mov (.tmp 13), none⟩, ⟨(some 104), .bin .add (.tmp 102) (.tmp 103), none⟩, ⟨(some 16), .mov (.tmp 104), none⟩])
 (.seq (.reg [⟨(some 105), .load (some 8) (.tmp 1), none⟩, ⟨(some 106), .mov (.tmp 11), none⟩, ⟨(some 107), .call 45 [(.tmp 105), (.tmp 106)], none⟩, ⟨(some 108), .lenL (.tmp 107), none⟩, ⟨(some 109), .mov (.val (.int .i64 0)), none⟩])
 (.block 4 a55_L2)))))))))
 (.reg [⟨(some 134), .bin .add (.tmp 56) (.val (.int .i64 1)), none⟩, ⟨(some 56), .mov (.tmp 134), none⟩]))))
def a55_L3 : AC := .loop a55_B3
theorem a55_L3_step (call : Caller) (again : AC → St → Option (Ex × St)) (s : St) : codeEv call again a55_L3 s = match codeEv call again a55_B3 s with | some (.norm, s1) => again a55_L3 s1 | r => r := rfl
def a55_B4 : AC := (.seq (.reg [⟨(some 42), .bin .lss (.tmp 41) (.tmp 40), none⟩])
 (.seq (.cond (.tmp 42) .skip (.exit 0))
 (.seq (.block 1 (.seq (.reg [⟨(some 43), .mov (.tmp 41), none⟩, ⟨(some 8), .mov (.tmp 43), none⟩])
 (.seq (.reg [⟨(some 44), .xm (.mkmap) [], none⟩, ⟨(some 45), .faddr 1 (.tmp 1), none⟩, ⟨(some 46), .load none (.tmp 45), none⟩, ⟨(some 47), .mov (.tmp 8), none⟩, ⟨(some 48), .iaddrL 3 (.tmp 46) (.tmp 47), none⟩, ⟨(some 49), .faddr 0 (.tmp 48), none⟩, ⟨(some 50), .load none (.tmp 49), none⟩, ⟨none, .xm (.mup .int) [(.tmp 44), (.tmp 50), (.val (.int .i64 0))], none⟩, ⟨(some 51), .mov (.tmp 44), none⟩, ⟨(some 9), .mov (.tmp 51), none⟩])
 (.seq (.seq (.reg [⟨(some 52), .load (some 8) (.tmp 1), none⟩, ⟨(some 53), .mov (.tmp 8), none⟩, ⟨(some 54), .call 43 [(.tmp 52), (.tmp 53)], none⟩, ⟨(some 55), .lenL (.tmp 54), none⟩, ⟨(some 56), .mov (.val (.int .i64 0)), none⟩])
 (.block 2 a55_L3))
 (.seq (.reg [⟨(some 136), .load (some 8) (.tmp 1), none⟩, ⟨(some 137), .mov (.tmp 8), none⟩, ⟨(some 138), .call 73 [(.tmp 136), (.tmp 137)], none⟩, ⟨(some 135), .mov (.tmp 138), none⟩, ⟨(some 139), .ext (.tmp 135) 0, none⟩, ⟨(some 140), .ext (.tmp 135) 1, none⟩, ⟨(some 21), .mov (.tmp 139), none⟩, ⟨(some 22), .mov (.tmp 140), none⟩])
 (.seq (.reg [⟨(some 141), .mov (.tmp 21), none⟩, ⟨(some 23), .mov (.tmp 141), none⟩])
 (.block 6 a55_L1)))))))
 (.reg [⟨(some 163), .bin .add (.tmp 41) (.val (.int .i64 1)), none⟩, ⟨(some 41), .mov (.tmp 163), none⟩]))))
def a55_L4 : AC := .loop a55_B4
theorem a55_L4_step (call : Caller) (again : AC → St → Option (Ex × St)) (s : St) : codeEv call again a55_L4 s = match codeEv call again a55_B4 s with | some (.norm, s1) => again a55_L4 s1 | r => r := rfl
def a55 : AFn := { n := 166, np := 1, res := [.cell 2 (some 2), .tmp 3], body :=
 (.seq (.reg [⟨(some 1), .box (some 1) (.tmp 0), none⟩, ⟨(some 2), .alloc (some 2) [.nils, .nils], none⟩, ⟨(some 3), .mov (.val (.int .i64 0)), none⟩])
 (.seq (.dreg [(false, ⟨(some 26), .faddr 0 (.tmp 1), none⟩, false), (false, ⟨(some 27), .load none (.tmp 26), none⟩, false), (false, ⟨(some 28), .lenL (.tmp 27), none⟩, false), (false, ⟨(some 30), .faddr 1 (.tmp 1), none⟩, false), (false, ⟨(some 31), .load none (.tmp 30), none⟩, false), (false, ⟨(some 32), .lenL (.tmp 31), none⟩, false), (false, ⟨(some 4), .alloc (some 4) [.nils, .nils], none⟩, true), (false, ⟨(some 29), .make 1 8 [(.int .i64 0)] (.tmp 28) (.tmp 28), none⟩, false), (false, ⟨(some 33), .make 1 8 [(.int .i64 0)] (.tmp 32) (.tmp 32), none⟩, false), (false, ⟨(some 34), .build [.nils, .nils] [(0, 1, (.tmp 29)), (1, 1, (.tmp 33))], none⟩, false), (false, ⟨none, .store 2 (.tmp 4) (.tmp 34), none⟩, false)])
 (.seq (.reg [⟨(some 5), .alloc none [(.int .i64 0)], none⟩, ⟨none, .store 1 (.tmp 5) (.val (.int .i64 (-1))), none⟩])
 (.seq (.reg [⟨(some 35), .mkfn 90 [(.tmp 5)], none⟩, ⟨(some 6), .mov (.tmp 35), none⟩])
 (.seq (.reg [⟨(some 36), .load (some 8) (.tmp 1), none⟩, ⟨(some 37), .call 91 [(.tmp 36)], none⟩, ⟨(some 7), .mov (.tmp 37), none⟩])
 (.seq (.seq (.reg [⟨(some 38), .faddr 1 (.tmp 1), none⟩, ⟨(some 39), .load none (.tmp 38), none⟩, ⟨(some 40), .lenL (.tmp 39), none⟩, ⟨(some 41), .mov (.val (.int .i64 0)), none⟩])
 (.block 0 a55_L4))
 (.seq (.dreg [(false, ⟨(some 164), .load (some 2) (.tmp 4), none⟩, false), (true, ⟨(some 165), .load none (.tmp 5), none⟩, false), (true, ⟨none, .store 2 (.tmp 2) (.tmp 164), none⟩, false), (false, ⟨(some 3), .mov (.tmp 165), none⟩, false)])
 .ret))))))) }
def h66 : Hints := ⟨[2, 3, 5], [], []⟩
def a66_B1 : AC := (.seq (.reg [⟨(some 56), .bin .lss (.tmp 55) (.tmp 54), none⟩])
 (.seq (.cond (.tmp 56) .skip (.exit 2))
 (.seq (.block 3 (.seq (.reg [⟨(some 57), .mov (.tmp 55), none⟩, ⟨(some 8), .mov (.tmp 57), none⟩])
 (.seq (.dreg [(false, ⟨(some 58), .faddr 1 (.tmp 3), none⟩, false), (false, ⟨(some 59), .load none (.tmp 58), none⟩, false), (false, ⟨(some 60), .mov (.tmp 8), none⟩, false), (false, ⟨(some 61), .iaddrL 1 (.tmp 59) (.tmp 60), none⟩, false), (false, ⟨(some 62), .load none (.tmp 61), none⟩, false), (false, ⟨(some 63), .faddr 1 (.tmp 5), none⟩, false), (false, ⟨(some 64), .load none (.tmp 63), none⟩, false), (false, ⟨(some 65), .mov (.tmp 8), none⟩, false), (false, ⟨(some 66), .iaddrL 1 (.tmp 64) (.tmp 65), none⟩, false), (false, ⟨(some 67), .load none (.tmp 66), none⟩, false), (false, ⟨(some 68), .bin .neq (.tmp 62) (.tmp 67), none⟩, false)])
 (.cond (.tmp 68) (.seq (.reg [⟨(some 4), .mov (.val (.bool false)), none⟩])
 .ret) .skip))))
 (.reg [⟨(some 69), .bin .add (.tmp 55) (.val (.int .i64 1)), none⟩, ⟨(some 55), .mov (.tmp 69), none⟩]))))
def a66_L1 : AC := .loop a66_B1
theorem a66_L1_step (call : Caller) (again : AC → St → Option (Ex × St)) (s : St) : codeEv call again a66_L1 s = match codeEv call again a66_B1 s with | some (.norm, s1) => again a66_L1 s1 | r => r := rfl
def a66_B2 : AC := (.seq (.reg [⟨(some 38), .bin .lss (.tmp 37) (.tmp 36), none⟩])
 (.seq (.cond (.tmp 38) .skip (.exit 0))
 (.seq (.block 1 (.seq (.reg [⟨(some 39), .mov (.tmp 37), none⟩, ⟨(some 7), .mov (.tmp 39), none⟩])
 (.seq (.dreg [(false, ⟨(some 40), .faddr 0 (.tmp 3), none⟩, false), (false, ⟨(some 41), .load none (.tmp 40), none⟩, false), (false, ⟨(some 42), .mov (.tmp 7), none⟩, false), (false, ⟨(some 43), .iaddrL 1 (.tmp 41) (.tmp 42), none⟩, false), (false, ⟨(some 44), .load none (.tmp 43), none⟩, false), (false, ⟨(some 45), .faddr 0 (.tmp 5), none⟩, false), (false, ⟨(some 46), .load none (.tmp 45), none⟩, false), (false, ⟨(some 47), .mov (.tmp 7), none⟩, false), (false, ⟨(some 48), .iaddrL 1 (.tmp 46) (.tmp 47), none⟩, false), (false, ⟨(some 49), .load none (.tmp 48), none⟩, false), (false, ⟨(some 50), .bin .neq (.tmp 44) (.tmp 49), none⟩, false)])
 (.cond (.tmp 50) (.seq (.reg [⟨(some 4), .mov (.val (.bool false)), none⟩])
 .ret) .skip))))
 (.reg [⟨(some 51), .bin .add (.tmp 37) (.val (.int .i64 1)), none⟩, ⟨(some 37), .mov (.tmp 51), none⟩]))))
def a66_L2 : AC := .loop a66_B2
theorem a66_L2_step (call : Caller) (again : AC → St → Option (Ex × St)) (s : St) : codeEv call again a66_L2 s = match codeEv call again a66_B2 s with | some (.norm, s1) => again a66_L2 s1 | r => r := rfl
def a66 : AFn := { n := 70, np := 2, res := [.tmp 4], body :=
 (.seq (.reg [⟨(some 2), .box (some 2) (.tmp 0), none⟩, ⟨(some 3), .box (some 3) (.tmp 1), none⟩, ⟨(some 4), .mov (.val (.bool false)), none⟩])
 (.seq (.reg [⟨(some 10), .load (some 8) (.tmp 2), none⟩, ⟨(some 11), .call 15 [(.tmp 10)], none⟩, ⟨(some 9), .mov (.tmp 11), none⟩, ⟨(some 12), .ext (.tmp 9) 0, none⟩, ⟨(some 13), .ext (.tmp 9) 1, none⟩, ⟨(some 5), .alloc (some 5) [.nils, .nils], none⟩, ⟨none, .store 2 (.tmp 5) (.tmp 12), none⟩, ⟨(some 6), .mov (.tmp 13), none⟩])
 (.seq (.seq (.reg [⟨(some 14), .mov (.tmp 6), none⟩, ⟨(some 15), .bin .neq (.tmp 14) (.val (.int .i64 0)), none⟩, ⟨(some 16), .mov (.tmp 15), none⟩, ⟨(some 17), .faddr 0 (.tmp 3), (some (16, false))⟩, ⟨(some 18), .load none (.tmp 17), (some (16, false))⟩, ⟨(some 19), .lenL (.tmp 18), (some (16, false))⟩, ⟨(some 20), .faddr 0 (.tmp 5), (some (16, false))⟩, ⟨(some 21), .load none (.tmp 20), (some (16, false))⟩, ⟨(some 22), .lenL (.tmp 21), (some (16, false))⟩, ⟨(some 23), .bin .neq (.tmp 19) (.tmp 22), (some (16, false))⟩, ⟨(some 24), .pick (.tmp 16) (.val (.bool true)) (.tmp 23), none⟩, ⟨(some 25), .mov (.tmp 24), none⟩, ⟨(some 26), .faddr 1 (.tmp 3), (some (25, false))⟩, ⟨(some 27), .load none (.tmp 26), (some (25, false))⟩, ⟨(some 28), .lenL (.tmp 27), (some (25, false))⟩, ⟨(some 29), .faddr 1 (.tmp 5), (some (25, false))⟩, ⟨(some 30), .load none (.tmp 29), (some (25, false))⟩, ⟨(some 31), .lenL (.tmp 30), (some (25, false))⟩, ⟨(some 32), .bin .neq (.tmp 28) (.tmp 31), (some (25, false))⟩, ⟨(some 33), .pick (.tmp 25) (.val (.bool true)) (.tmp 32), none⟩])
 (.cond (.tmp 33) (.seq (.reg [⟨(some 4), .mov (.val (.bool false)), none⟩])
 .ret) .skip))
 (.seq (.seq (.reg [⟨(some 34), .faddr 0 (.tmp 5), none⟩, ⟨(some 35), .load none (.tmp 34), none⟩, ⟨(some 36), .lenL (.tmp 35), none⟩, ⟨(some 37), .mov (.val (.int .i64 0)), none⟩])
 (.block 0 a66_L2))
 (.seq (.seq (.reg [⟨(some 52), .faddr 1 (.tmp 5), none⟩, ⟨(some 53), .load none (.tmp 52), none⟩, ⟨(some 54), .lenL (.tmp 53), none⟩, ⟨(some 55), .mov (.val (.int .i64 0)), none⟩])
 (.block 2 a66_L1))
 (.seq (.reg [⟨(some 4), .mov (.val (.bool true)), none⟩])
 .ret)))))) }
def h67 : Hints := ⟨[2], [], []⟩
def a67_B1 : AC := (.seq (.reg [⟨(some 26), .bin .lss (.tmp 25) (.tmp 24), none⟩])
 (.seq (.cond (.tmp 26) .skip (.exit 0))
 (.seq (.block 1 (.seq (.reg [⟨(some 27), .mov (.tmp 25), none⟩, ⟨(some 7), .mov (.tmp 27), none⟩])
 (.seq (.reg [⟨(some 28), .faddr 1 (.tmp 2), none⟩, ⟨(some 29), .load none (.tmp 28), none⟩, ⟨(some 30), .mov (.tmp 7), none⟩, ⟨(some 31), .iaddrL 3 (.tmp 29) (.tmp 30), none⟩, ⟨(some 32), .faddr 0 (.tmp 31), none⟩, ⟨(some 33), .load none (.tmp 32), none⟩, ⟨(some 34), .mov (.tmp 1), none⟩, ⟨(some 35), .bin .leq (.tmp 33) (.tmp 34), none⟩])
 (.cond (.tmp 35) (.reg [⟨(some 36), .mov (.tmp 7), none⟩, ⟨(some 6), .mov (.tmp 36), none⟩]) .skip))))
 (.reg [⟨(some 37), .bin .add (.tmp 25) (.val (.int .i64 1)), none⟩, ⟨(some 25), .mov (.tmp 37), none⟩]))))
def a67_L1 : AC := .loop a67_B1
theorem a67_L1_step (call : Caller) (again : AC → St → Option (Ex × St)) (s : St) : codeEv call again a67_L1 s = match codeEv call again a67_B1 s with | some (.norm, s1) => again a67_L1 s1 | r => r := rfl
def a67 : AFn := { n := 39, np := 2, res := [.tmp 4, .tmp 5], body :=
 (.seq (.reg [⟨(some 2), .box (some 2) (.tmp 0), none⟩, ⟨(some 4), .mov (.val (.int .i64 0)), none⟩, ⟨(some 5), .mov (.val (.bool false)), none⟩])
 (.seq (.seq (.reg [⟨(some 8), .load (some 8) (.tmp 2), none⟩, ⟨(some 9), .call 54 [(.tmp 8)], none⟩, ⟨(some 10), .bin .neq (.tmp 9) (.val (.int .i64 0)), none⟩, ⟨(some 11), .mov (.tmp 10), none⟩, ⟨(some 12), .mov (.tmp 1), (some (11, false))⟩, ⟨(some 13), .bin .lss (.tmp 12) (.val (.int .i64 0)), (some (11, false))⟩, ⟨(some 14), .pick (.tmp 11) (.val (.bool true)) (.tmp 13), none⟩, ⟨(some 15), .mov (.tmp 14), none⟩, ⟨(some 16), .mov (.tmp 1), (some (15, false))⟩, ⟨(some 17), .faddr 0 (.tmp 2), (some (15, false))⟩, ⟨(some 18), .load none (.tmp 17), (some (15, false))⟩, ⟨(some 19), .lenL (.tmp 18), (some (15, false))⟩, ⟨(some 20), .bin .geq (.tmp 16) (.tmp 19), (some (15, false))⟩, ⟨(some 21), .pick (.tmp 15) (.val (.bool true)) (.tmp 20), none⟩])
 (.cond (.tmp 21) (.seq (.reg [⟨(some 4), .mov (.val (.int .i64 0)), none⟩, ⟨(some 5), .mov (.val (.bool false)), none⟩])
 .ret) .skip))
 (.seq (.reg [⟨(some 6), .mov (.val (.int .i64 0)), none⟩])
 (.seq (.seq (.reg [⟨(some 22), .faddr 1 (.tmp 2), none⟩, ⟨(some 23), .load none (.tmp 22), none⟩, ⟨(some 24), .lenL (.tmp 23), none⟩, ⟨(some 25), .mov (.val (.int .i64 0)), none⟩])
 (.block 0 a67_L1))
 (.seq (.reg [⟨(some 38), .mov (.tmp 6), none⟩, ⟨(some 4), .mov (.tmp 38), none⟩, ⟨(some 5), .mov (.val (.bool true)), none⟩])
 .ret))))) }
def h68 : Hints := ⟨[3, 4], [], []⟩
def a68 : AFn := { n := 28, np := 3, res := [.tmp 6], body :=
 (.seq (.reg [⟨(some 3), .box (some 3) (.tmp 0), none⟩, ⟨(some 4), .box (some 4) (.tmp 1), none⟩, ⟨(some 6), .mov (.val (.int .i64 0)), none⟩])
 (.seq (.reg [⟨(some 10), .load (some 8) (.tmp 3), none⟩, ⟨(some 11), .mov (.tmp 2), none⟩, ⟨(some 12), .call 67 [(.tmp 10), (.tmp 11)], none⟩, ⟨(some 9), .mov (.tmp 12), none⟩, ⟨(some 13), .ext (.tmp 9) 0, none⟩, ⟨(some 14), .ext (.tmp 9) 1, none⟩, ⟨(some 7), .mov (.tmp 13), none⟩, ⟨(some 8), .mov (.tmp 14), none⟩])
 (.seq (.dreg [(false, ⟨(some 15), .faddr 1 (.tmp 3), none⟩, false), (false, ⟨(some 16), .load none (.tmp 15), none⟩, false), (false, ⟨(some 17), .mov (.tmp 7), none⟩, false), (false, ⟨(some 18), .iaddrL 3 (.tmp 16) (.tmp 17), none⟩, false), (false, ⟨(some 19), .faddr 2 (.tmp 18), none⟩, false), (false, ⟨(some 20), .load none (.tmp 19), none⟩, false), (false, ⟨(some 21), .bin .add (.val (.int .i64 2)) (.tmp 20), none⟩, false), (false, ⟨(some 22), .faddr 0 (.tmp 4), none⟩, false), (false, ⟨(some 23), .load none (.tmp 22), none⟩, false), (false, ⟨(some 24), .mov (.tmp 2), none⟩, false), (false, ⟨(some 25), .iaddrL 1 (.tmp 23) (.tmp 24), none⟩, false), (false, ⟨(some 26), .load none (.tmp 25), none⟩, false), (false, ⟨(some 27), .bin .add (.tmp 21) (.tmp 26), none⟩, false), (false, ⟨(some 6), .mov (.tmp 27), none⟩, false)])
 .ret))) }
def h72 : Hints := ⟨[13], [], []⟩
def a72_B1 : AC := (.seq (.seq (.reg [⟨(some 29), .mov (.tmp 12), none⟩, ⟨(some 30), .mov (.tmp 11), none⟩, ⟨(some 31), .bin .lss (.tmp 29) (.tmp 30), none⟩])
 (.cond (.tmp 31) .skip (.exit 0)))
 (.seq (.block 1 (.seq (.seq (.reg [⟨(some 34), .faddr 0 (.tmp 3), none⟩, ⟨(some 35), .load none (.tmp 34), none⟩, ⟨(some 36), .mov (.tmp 12), none⟩, ⟨(some 37), .iaddrL 1 (.tmp 35) (.tmp 36), none⟩, ⟨(some 38), .load none (.tmp 37), none⟩, ⟨(some 39), .bin .lss (.tmp 38) (.val (.int .i64 0)), none⟩])
 (.cond (.tmp 39) (.exit 1) .skip))
 (.seq (.reg [⟨(some 40), .mov (.tmp 9), none⟩, ⟨(some 41), .load (some 8) (.tmp 2), none⟩, ⟨(some 42), .load (some 2) (.tmp 3), none⟩, ⟨(some 43), .mov (.tmp 12), none⟩, ⟨(some 44), .call 68 [(.tmp 41), (.tmp 42), (.tmp 43)], none⟩, ⟨(some 45), .max [(.tmp 40), (.tmp 44)], none⟩, ⟨(some 9), .mov (.tmp 45), none⟩])
 (.seq (.reg [⟨(some 46), .faddr 0 (.tmp 2), none⟩, ⟨(some 47), .load none (.tmp 46), none⟩, ⟨(some 48), .mov (.tmp 12), none⟩, ⟨(some 49), .iaddrL 4 (.tmp 47) (.tmp 48), none⟩, ⟨(some 50), .load (some 4) (.tmp 49), none⟩, ⟨(some 13), .alloc (some 13) [(.int .i64 0), (.int .i64 0), (.int .i64 0), (.int .i64 0)], none⟩, ⟨none, .store 4 (.tmp 13) (.tmp 50), none⟩])
 (.seq (.reg [⟨(some 51), .faddr 0 (.tmp 13), none⟩, ⟨(some 52), .load none (.tmp 51), none⟩, ⟨(some 53), .bin .eql (.tmp 52) (.val (.int .i64 17)), none⟩])
 (.cond (.tmp 53) (.dreg [(false, ⟨(some 54), .mov (.tmp 9), none⟩, false), (false, ⟨(some 55), .load (some 8) (.tmp 2), none⟩, false), (false, ⟨(some 56), .load (some 2) (.tmp 3), none⟩, false), (false, ⟨(some 57), .mov (.tmp 12), none⟩, false), (true, ⟨(some 58), .call 68 [(.tmp 55), (.tmp 56), (.tmp 57)], none⟩, false), (false, ⟨(some 59), .faddr 1 (.tmp 2), none⟩, false), (true, ⟨(some 60), .load none (.tmp 59), none⟩, false), (false, ⟨(some 61), .faddr 1 (.tmp 13), none⟩, false), (true, ⟨(some 62), .load none (.tmp 61), none⟩, false), (false, ⟨(some 63), .iaddrL 3 (.tmp 60) (.tmp 62), none⟩, false), (false, ⟨(some 64), .faddr 1 (.tmp 63), none⟩, false), (true, ⟨(some 65), .load none (.tmp 64), none⟩, false), (false, ⟨(some 66), .bin .sub (.tmp 58) (.tmp 65), none⟩, false), (true, ⟨(some 67), .load none (.tmp 4), none⟩, false), (false, ⟨(some 68), .faddr 1 (.tmp 13), none⟩, false), (true, ⟨(some 69), .load none (.tmp 68), none⟩, false), (true, ⟨(some 70), .callv (.tmp 67) [(.tmp 69)], none⟩, false), (false, ⟨(some 71), .bin .add (.tmp 66) (.tmp 70), none⟩, false), (false, ⟨(some 72), .max [(.tmp 54), (.tmp 71)], none⟩, false), (false, ⟨(some 9), .mov (.tmp 72), none⟩, false)]) .skip))))))
 (.reg [⟨(some 32), .mov (.tmp 12), none⟩, ⟨(some 33), .bin .add (.tmp 32) (.val (.int .i64 1)), none⟩, ⟨(some 12), .mov (.tmp 33), none⟩])))
def a72_L1 : AC := .loop a72_B1
theorem a72_L1_step (call : Caller) (again : AC → St → Option (Ex × St)) (s : St) : codeEv call again a72_L1 s = match codeEv call again a72_B1 s with | some (.norm, s1) => again a72_L1 s1 | r => r := rfl
def a72 : AFn := { n := 77, np := 5, res := [.tmp 6], body :=
 (.seq (.reg [⟨(some 6), .mov (.val (.int .i64 0)), none⟩])
 (.seq (.seq (.reg [⟨(some 15), .load none (.tmp 1), none⟩, ⟨(some 16), .mov (.tmp 0), none⟩, ⟨(some 17), .xm (.mlk .int ((.int .i64 0)) true) [(.tmp 15), (.tmp 16)], none⟩, ⟨(some 14), .mov (.tmp 17), none⟩, ⟨(some 18), .ext (.tmp 14) 0, none⟩, ⟨(some 19), .ext (.tmp 14) 1, none⟩, ⟨(some 7), .mov (.tmp 18), none⟩, ⟨(some 8), .mov (.tmp 19), none⟩])
 (.seq (.reg [⟨(some 20), .mov (.tmp 8), none⟩])
 (.cond (.tmp 20) (.seq (.reg [⟨(some 21), .mov (.tmp 7), none⟩, ⟨(some 6), .mov (.tmp 21), none⟩])
 .ret) .skip)))
 (.seq (.reg [⟨(some 9), .mov (.val (.int .i64 0)), none⟩])
 (.seq (.reg [⟨(some 23), .load (some 8) (.tmp 2), none⟩, ⟨(some 24), .mov (.tmp 0), none⟩, ⟨(some 25), .call 73 [(.tmp 23), (.tmp 24)], none⟩, ⟨(some 22), .mov (.tmp 25), none⟩, ⟨(some 26), .ext (.tmp 22) 0, none⟩, ⟨(some 27), .ext (.tmp 22) 1, none⟩, ⟨(some 10), .mov (.tmp 26), none⟩, ⟨(some 11), .mov (.tmp 27), none⟩])
 (.seq (.seq (.reg [⟨(some 28), .mov (.tmp 10), none⟩, ⟨(some 12), .mov (.tmp 28), none⟩])
 (.block 0 a72_L1))
 (.seq (.reg [⟨(some 73), .load none (.tmp 1), none⟩, ⟨(some 74), .mov (.tmp 0), none⟩, ⟨(some 75), .mov (.tmp 9), none⟩, ⟨none, .xm (.mup .int) [(.tmp 73), (.tmp 74), (.tmp 75)], none⟩])
 (.seq (.reg [⟨(some 76), .mov (.tmp 9), none⟩, ⟨(some 6), .mov (.tmp 76), none⟩])
 .ret))))))) }
def h73 : Hints := ⟨[2], [], []⟩
def a73 : AFn := { n := 26, np := 2, res := [.tmp 4, .tmp 5], body :=
 (.seq (.reg [⟨(some 2), .box (some 2) (.tmp 0), none⟩, ⟨(some 4), .mov (.val (.int .i64 0)), none⟩, ⟨(some 5), .mov (.val (.int .i64 0)), none⟩])
 (.seq (.seq (.reg [⟨(some 6), .load (some 8) (.tmp 2), none⟩, ⟨(some 7), .call 54 [(.tmp 6)], none⟩, ⟨(some 8), .bin .neq (.tmp 7) (.val (.int .i64 0)), none⟩, ⟨(some 9), .mov (.tmp 8), none⟩, ⟨(some 10), .mov (.tmp 1), (some (9, false))⟩, ⟨(some 11), .bin .lss (.tmp 10) (.val (.int .i64 0)), (some (9, false))⟩, ⟨(some 12), .pick (.tmp 9) (.val (.bool true)) (.tmp 11), none⟩, ⟨(some 13), .mov (.tmp 12), none⟩, ⟨(some 14), .mov (.tmp 1), (some (13, false))⟩, ⟨(some 15), .faddr 1 (.tmp 2), (some (13, false))⟩, ⟨(some 16), .load none (.tmp 15), (some (13, false))⟩, ⟨(some 17), .lenL (.tmp 16), (some (13, false))⟩, ⟨(some 18), .bin .geq (.tmp 14) (.tmp 17), (some (13, false))⟩, ⟨(some 19), .pick (.tmp 13) (.val (.bool true)) (.tmp 18), none⟩])
 (.cond (.tmp 19) (.seq (.reg [⟨(some 4), .mov (.val (.int .i64 0)), none⟩, ⟨(some 5), .mov (.val (.int .i64 0)), none⟩])
 .ret) .skip))
 (.seq (.reg [⟨(some 20), .load (some 8) (.tmp 2), none⟩, ⟨(some 21), .build [.nils, .nils, .nils, (.int .i64 0), .nils, .nils, (.int .i64 0), .nils] [(0, 8, (.tmp 20))], none⟩, ⟨(some 22), .mov (.tmp 1), none⟩, ⟨(some 23), .call 109 [(.tmp 21), (.tmp 22)], none⟩, ⟨(some 24), .ext (.tmp 23) 0, none⟩, ⟨(some 25), .ext (.tmp 23) 1, none⟩, ⟨(some 4), .mov (.tmp 24), none⟩, ⟨(some 5), .mov (.tmp 25), none⟩])
 .ret))) }
def h78 : Hints := ⟨[], [], []⟩
def a78 : AFn := { n := 37, np := 2, res := [.cell 4 none, .cell 5 none], body :=
 (.seq (.reg [⟨(some 2), .box none (.tmp 0), none⟩, ⟨(some 4), .alloc none [.nils], none⟩, ⟨(some 5), .alloc none [.nils], none⟩])
 (.seq (.seq (.reg [⟨(some 8), .mov (.tmp 1), none⟩, ⟨(some 9), .bin .lss (.tmp 8) (.val (.int .i64 0)), none⟩, ⟨(some 10), .mov (.tmp 9), none⟩, ⟨(some 11), .mov (.tmp 1), (some (10, false))⟩, ⟨(some 12), .faddr 1 (.tmp 2), (some (10, false))⟩, ⟨(some 13), .load none (.tmp 12), (some (10, false))⟩, ⟨(some 14), .lenL (.tmp 13), (some (10, false))⟩, ⟨(some 15), .bin .geq (.tmp 11) (.tmp 14), (some (10, false))⟩, ⟨(some 16), .pick (.tmp 10) (.val (.bool true)) (.tmp 15), none⟩, ⟨(some 17), .mov (.tmp 16), none⟩, ⟨(some 18), .load (some 8) (.tmp 2), (some (17, false))⟩, ⟨(some 19), .call 54 [(.tmp 18)], (some (17, false))⟩, ⟨(some 20), .bin .neq (.tmp 19) (.val (.int .i64 0)), (some (17, false))⟩, ⟨(some 21), .pick (.tmp 17) (.val (.bool true)) (.tmp 20), none⟩])
 (.cond (.tmp 21) (.seq (.reg [⟨none, .store 1 (.tmp 4) (.val .nils), none⟩, ⟨none, .store 1 (.tmp 5) (.val .nils), none⟩])
 .ret) .skip))
 (.seq (.reg [⟨(some 22), .faddr 0 (.tmp 2), none⟩, ⟨(some 23), .load none (.tmp 22), none⟩, ⟨(some 24), .lenL (.tmp 23), none⟩, ⟨(some 25), .make 1 1 [(.int .u8 0)] (.tmp 24) (.tmp 24), none⟩, ⟨(some 6), .alloc none [.nils], none⟩, ⟨none, .store 1 (.tmp 6) (.tmp 25), none⟩])
 (.seq (.reg [⟨(some 7), .alloc none [.nilf], none⟩])
 (.seq (.reg [⟨(some 26), .mkfn 113 [(.tmp 6), (.tmp 2), (.tmp 7), (.tmp 5), (.tmp 4)], none⟩, ⟨none, .store 1 (.tmp 7) (.tmp 26), none⟩])
 (.seq (.dreg [(false, ⟨(some 27), .load none (.tmp 7), none⟩, false), (false, ⟨(some 28), .faddr 1 (.tmp 2), none⟩, false), (false, ⟨(some 29), .load none (.tmp 28), none⟩, false), (false, ⟨(some 30), .mov (.tmp 1), none⟩, false), (false, ⟨(some 31), .iaddrL 3 (.tmp 29) (.tmp 30), none⟩, false), (false, ⟨(some 32), .faddr 0 (.tmp 31), none⟩, false), (false, ⟨(some 33), .load none (.tmp 32), none⟩, false), (false, ⟨(some 34), .callv (.tmp 27) [(.tmp 33)], none⟩, false)])
 (.seq (.dreg [(false, ⟨(some 35), .load none (.tmp 4), none⟩, false), (true, ⟨(some 36), .load none (.tmp 5), none⟩, false), (true, ⟨none, .store 1 (.tmp 4) (.tmp 35), none⟩, false), (false, ⟨none, .store 1 (.tmp 5) (.tmp 36), none⟩, false)])
 .ret))))))) }
def h79 : Hints := ⟨[], [], []⟩
def a79 : AFn := { n := 11, np := 1, res := [], body :=
 (.seq (.reg [⟨(some 3), .mov (.tmp 0), none⟩, ⟨(some 4), .lenL (.tmp 3), none⟩, ⟨(some 2), .mov (.tmp 4), none⟩])
 (.reg [⟨(some 5), .mov (.tmp 0), none⟩, ⟨(some 6), .mov (.tmp 2), none⟩, ⟨(some 7), .mov (.tmp 2), none⟩, ⟨(some 8), .conv .u64 (.tmp 7), none⟩, ⟨(some 9), .call 116 [(.tmp 8)], none⟩, ⟨(some 10), .call 115 [(.tmp 5), (.val (.int .i64 0)), (.tmp 6), (.tmp 9)], none⟩])) }
def h83 : Hints := ⟨[], [], []⟩
def a83 : AFn := { n := 3, np := 1, res := [], body :=
 (.reg [⟨(some 1), .load none (.tmp 0), none⟩, ⟨(some 2), .call 84 [(.tmp 1)], none⟩]) }
def h84 : Hints := ⟨[], [], []⟩
def a84_B1 : AC := (.seq (.seq (.reg [⟨(some 7), .mov (.tmp 2), none⟩, ⟨(some 8), .mov (.tmp 3), none⟩, ⟨(some 9), .bin .lss (.tmp 7) (.tmp 8), none⟩])
 (.cond (.tmp 9) .skip (.exit 0)))
 (.seq (.block 1 (.dreg [(false, ⟨(some 14), .mov (.tmp 0), none⟩, false), (false, ⟨(some 15), .mov (.tmp 2), none⟩, false), (false, ⟨(some 16), .mov (.tmp 0), none⟩, false), (false, ⟨(some 17), .mov (.tmp 3), none⟩, false), (false, ⟨(some 18), .mov (.tmp 0), none⟩, false), (false, ⟨(some 19), .mov (.tmp 3), none⟩, false), (false, ⟨(some 20), .iaddrL 1 (.tmp 18) (.tmp 19), none⟩, false), (false, ⟨(some 21), .load none (.tmp 20), none⟩, false), (false, ⟨(some 22), .mov (.tmp 0), none⟩, false), (false, ⟨(some 23), .mov (.tmp 2), none⟩, false), (false, ⟨(some 24), .iaddrL 1 (.tmp 22) (.tmp 23), none⟩, false), (false, ⟨(some 25), .load none (.tmp 24), none⟩, false), (false, ⟨(some 26), .iaddrL 1 (.tmp 14) (.tmp 15), none⟩, false), (false, ⟨none, .store 1 (.tmp 26) (.tmp 21), none⟩, false), (false, ⟨(some 27), .iaddrL 1 (.tmp 16) (.tmp 17), none⟩, false), (false, ⟨none, .store 1 (.tmp 27) (.tmp 25), none⟩, false)]))
 (.reg [⟨(some 10), .mov (.tmp 2), none⟩, ⟨(some 11), .bin .add (.tmp 10) (.val (.int .i64 1)), none⟩, ⟨(some 12), .mov (.tmp 3), none⟩, ⟨(some 13), .bin .sub (.tmp 12) (.val (.int .i64 1)), none⟩, ⟨(some 2), .mov (.tmp 11), none⟩, ⟨(some 3), .mov (.tmp 13), none⟩])))
def a84_L1 : AC := .loop a84_B1
theorem a84_L1_step (call : Caller) (again : AC → St → Option (Ex × St)) (s : St) : codeEv call again a84_L1 s = match codeEv call again a84_B1 s with | some (.norm, s1) => again a84_L1 s1 | r => r := rfl
def a84 : AFn := { n := 28, np := 1, res := [], body :=
 (.seq (.reg [⟨(some 4), .mov (.tmp 0), none⟩, ⟨(some 5), .lenL (.tmp 4), none⟩, ⟨(some 6), .bin .sub (.tmp 5) (.val (.int .i64 1)), none⟩, ⟨(some 2), .mov (.val (.int .i64 0)), none⟩, ⟨(some 3), .mov (.tmp 6), none⟩])
 (.block 0 a84_L1)) }
def h87 : Hints := ⟨[2], [], []⟩
def a87 : AFn := { n := 34, np := 2, res := [.tmp 4], body :=
 (.seq (.reg [⟨(some 2), .box (some 2) (.tmp 0), none⟩, ⟨(some 4), .mov (.val .nils), none⟩])
 (.seq (.reg [⟨(some 10), .faddr 0 (.tmp 2), none⟩, ⟨(some 11), .load none (.tmp 10), none⟩, ⟨(some 12), .mov (.tmp 1), none⟩, ⟨(some 13), .iaddrL 4 (.tmp 11) (.tmp 12), none⟩, ⟨(some 14), .load (some 4) (.tmp 13), none⟩, ⟨(some 15), .call 119 [(.tmp 14)], none⟩, ⟨(some 9), .mov (.tmp 15), none⟩, ⟨(some 16), .ext (.tmp 9) 0, none⟩, ⟨(some 17), .ext (.tmp 9) 1, none⟩, ⟨(some 18), .ext (.tmp 9) 2, none⟩, ⟨(some 5), .mov (.tmp 16), none⟩, ⟨(some 6), .mov (.tmp 17), none⟩, ⟨(some 7), .mov (.tmp 18), none⟩])
 (.seq (.reg [⟨(some 8), .mov (.val .nils), none⟩])
 (.seq (.seq (.reg [⟨(some 19), .mov (.tmp 7), none⟩])
 (.cond (.tmp 19) (.reg [⟨(some 20), .mov (.tmp 8), none⟩, ⟨(some 21), .mov (.tmp 1), none⟩, ⟨(some 22), .bin .add (.tmp 21) (.val (.int .i64 1)), none⟩, ⟨(some 23), .mkslc 1 1 [(.int .i64 0)] [(0, (.tmp 22))], none⟩, ⟨(some 24), .app none 1 8 (.tmp 20) (.tmp 23), none⟩, ⟨(some 8), .mov (.tmp 24), none⟩]) .skip))
 (.seq (.seq (.reg [⟨(some 25), .mov (.tmp 6), none⟩])
 (.cond (.tmp 25) (.reg [⟨(some 26), .mov (.tmp 8), none⟩, ⟨(some 27), .mov (.tmp 5), none⟩, ⟨(some 28), .mkslc 1 1 [(.int .i64 0)] [(0, (.tmp 27))], none⟩, ⟨(some 29), .app none 1 8 (.tmp 26) (.tmp 28), none⟩, ⟨(some 8), .mov (.tmp 29), none⟩]) .skip))
 (.seq (.reg [⟨(some 30), .mov (.tmp 8), none⟩, ⟨(some 31), .call 79 [(.tmp 30)], none⟩])
 (.seq (.reg [⟨(some 32), .mov (.tmp 8), none⟩, ⟨(some 33), .call 120 [(.tmp 32)], none⟩, ⟨(some 4), .mov (.tmp 33), none⟩])
 .ret))))))) }
def h90 : Hints := ⟨[], [], []⟩
def a90 : AFn := { n := 11, np := 2, res := [], body :=
 (.seq (.reg [⟨(some 3), .load none (.tmp 1), none⟩, ⟨(some 4), .bin .lss (.tmp 3) (.val (.int .i64 0)), none⟩, ⟨(some 5), .mov (.tmp 4), none⟩, ⟨(some 6), .mov (.tmp 0), (some (5, false))⟩, ⟨(some 7), .load none (.tmp 1), (some (5, false))⟩, ⟨(some 8), .bin .lss (.tmp 6) (.tmp 7), (some (5, false))⟩, ⟨(some 9), .pick (.tmp 5) (.val (.bool true)) (.tmp 8), none⟩])
 (.cond (.tmp 9) (.reg [⟨(some 10), .mov (.tmp 0), none⟩, ⟨none, .store 1 (.tmp 1) (.tmp 10), none⟩]) .skip)) }
def h91 : Hints := ⟨[1, 4], [], []⟩
def a91_B1 : AC := (.seq (.reg [⟨(some 12), .bin .lss (.tmp 11) (.tmp 10), none⟩])
 (.seq (.cond (.tmp 12) .skip (.exit 0))
 (.seq (.block 1 (.seq (.reg [⟨(some 13), .iaddrL 3 (.tmp 9) (.tmp 11), none⟩, ⟨(some 14), .load (some 3) (.tmp 13), none⟩, ⟨(some 4), .alloc (some 4) [(.int .i64 0), (.int .i64 0), (.int .i64 0)], none⟩, ⟨none, .store 3 (.tmp 4) (.tmp 14), none⟩])
 (.reg [⟨(some 15), .mov (.tmp 2), none⟩, ⟨(some 16), .faddr 1 (.tmp 4), none⟩, ⟨(some 17), .load none (.tmp 16), none⟩, ⟨(some 18), .mkslc 1 1 [(.int .i64 0)] [(0, (.tmp 17))], none⟩, ⟨(some 19), .app none 1 8 (.tmp 15) (.tmp 18), none⟩, ⟨(some 2), .mov (.tmp 19), none⟩])))
 (.reg [⟨(some 20), .bin .add (.tmp 11) (.val (.int .i64 1)), none⟩, ⟨(some 11), .mov (.tmp 20), none⟩]))))
def a91_L1 : AC := .loop a91_B1
theorem a91_L1_step (call : Caller) (again : AC → St → Option (Ex × St)) (s : St) : codeEv call again a91_L1 s = match codeEv call again a91_B1 s with | some (.norm, s1) => again a91_L1 s1 | r => r := rfl
def a91 : AFn := { n := 22, np := 1, res := [.tmp 2], body :=
 (.seq (.reg [⟨(some 1), .box (some 1) (.tmp 0), none⟩, ⟨(some 2), .mov (.val .nils), none⟩])
 (.seq (.seq (.reg [⟨(some 5), .load (some 8) (.tmp 1), none⟩, ⟨(some 6), .call 54 [(.tmp 5)], none⟩, ⟨(some 7), .bin .neq (.tmp 6) (.val (.int .i64 0)), none⟩])
 (.cond (.tmp 7) (.seq (.reg [⟨(some 2), .mov (.val .nils), none⟩])
 .ret) .skip))
 (.seq (.seq (.reg [⟨(some 8), .faddr 1 (.tmp 1), none⟩, ⟨(some 9), .load none (.tmp 8), none⟩, ⟨(some 10), .lenL (.tmp 9), none⟩, ⟨(some 11), .mov (.val (.int .i64 0)), none⟩])
 (.block 0 a91_L1))
 (.seq (.reg [⟨(some 21), .mov (.tmp 2), none⟩, ⟨(some 2), .mov (.tmp 21), none⟩])
 .ret)))) }
def h92 : Hints := ⟨[2, 7], [], []⟩
def a92 : AFn := { n := 34, np := 2, res := [.tmp 4, .tmp 5, .tmp 6], body :=
 (.seq (.reg [⟨(some 2), .box (some 2) (.tmp 0), none⟩, ⟨(some 4), .mov (.val (.int .i64 0)), none⟩, ⟨(some 5), .mov (.val (.int .i64 0)), none⟩, ⟨(some 6), .mov (.val (.bool false)), none⟩])
 (.seq (.seq (.reg [⟨(some 8), .load (some 4) (.tmp 2), none⟩, ⟨(some 9), .call 122 [(.tmp 8)], none⟩, ⟨(some 10), .bin .neq (.tmp 9) (.val (.int .i64 0)), none⟩])
 (.cond (.tmp 10) (.seq (.reg [⟨(some 4), .mov (.val (.int .i64 0)), none⟩, ⟨(some 5), .mov (.val (.int .i64 0)), none⟩, ⟨(some 6), .mov (.val (.bool false)), none⟩])
 .ret) .skip))
 (.seq (.reg [⟨(some 11), .load none (.val (.ptr 1 0)), none⟩, ⟨(some 12), .faddr 0 (.tmp 2), none⟩, ⟨(some 13), .load none (.tmp 12), none⟩, ⟨(some 14), .iaddrL 6 (.tmp 11) (.tmp 13), none⟩, ⟨(some 15), .load (some 6) (.tmp 14), none⟩, ⟨(some 7), .alloc (some 7) [(.str ⟨#[]⟩), (.int .i64 0), (.int .i64 0), (.int .i64 0), (.int .i64 0), (.int .i64 0)], none⟩, ⟨none, .store 6 (.tmp 7) (.tmp 15), none⟩])
 (.seq (.reg [⟨(some 16), .faddr 4 (.tmp 7), none⟩, ⟨(some 17), .load none (.tmp 16), none⟩, ⟨(some 4), .mov (.tmp 17), none⟩])
 (.seq (.seq (.reg [⟨(some 18), .faddr 0 (.tmp 2), none⟩, ⟨(some 19), .load none (.tmp 18), none⟩, ⟨(some 20), .bin .eql (.tmp 19) (.val (.int .i64 17)), none⟩])
 (.cond (.tmp 20) (.seq (.seq (.reg [⟨(some 21), .faddr 1 (.tmp 2), none⟩, ⟨(some 22), .load none (.tmp 21), none⟩, ⟨(some 23), .mov (.tmp 1), none⟩, ⟨(some 24), .lenL (.tmp 23), none⟩, ⟨(some 25), .bin .geq (.tmp 22) (.tmp 24), none⟩])
 (.cond (.tmp 25) (.seq (.reg [⟨(some 4), .mov (.val (.int .i64 0)), none⟩, ⟨(some 5), .mov (.val (.int .i64 0)), none⟩, ⟨(some 6), .mov (.val (.bool false)), none⟩])
 .ret) .skip))
 (.reg [⟨(some 26), .mov (.tmp 1), none⟩, ⟨(some 27), .faddr 1 (.tmp 2), none⟩, ⟨(some 28), .load none (.tmp 27), none⟩, ⟨(some 29), .iaddrL 1 (.tmp 26) (.tmp 28), none⟩, ⟨(some 30), .load none (.tmp 29), none⟩, ⟨(some 4), .mov (.tmp 30), none⟩])) .skip))
 (.seq (.dreg [(false, ⟨(some 31), .mov (.tmp 4), none⟩, false), (false, ⟨(some 32), .faddr 5 (.tmp 7), none⟩, false), (false, ⟨(some 33), .load none (.tmp 32), none⟩, false), (false, ⟨(some 4), .mov (.tmp 31), none⟩, false), (false, ⟨(some 5), .mov (.tmp 33), none⟩, false), (false, ⟨(some 6), .mov (.val (.bool true)), none⟩, false)])
 .ret)))))) }
def h109 : Hints := ⟨[2], [], []⟩
def a109 : AFn := { n := 39, np := 2, res := [.tmp 4, .tmp 5], body :=
 (.seq (.reg [⟨(some 2), .box (some 2) (.tmp 0), none⟩, ⟨(some 4), .mov (.val (.int .i64 0)), none⟩, ⟨(some 5), .mov (.val (.int .i64 0)), none⟩])
 (.seq (.seq (.reg [⟨(some 6), .mov (.tmp 1), none⟩, ⟨(some 7), .bin .add (.tmp 6) (.val (.int .i64 1)), none⟩, ⟨(some 8), .faddr 0 (.tmp 2), none⟩, ⟨(some 9), .faddr 1 (.tmp 8), none⟩, ⟨(some 10), .load none (.tmp 9), none⟩, ⟨(some 11), .lenL (.tmp 10), none⟩, ⟨(some 12), .bin .lss (.tmp 7) (.tmp 11), none⟩])
 (.cond (.tmp 12) (.seq (.dreg [(false, ⟨(some 13), .faddr 0 (.tmp 2), none⟩, false), (false, ⟨(some 14), .faddr 1 (.tmp 13), none⟩, false), (false, ⟨(some 15), .load none (.tmp 14), none⟩, false), (false, ⟨(some 16), .mov (.tmp 1), none⟩, false), (false, ⟨(some 17), .iaddrL 3 (.tmp 15) (.tmp 16), none⟩, false), (false, ⟨(some 18), .faddr 0 (.tmp 17), none⟩, false), (false, ⟨(some 19), .load none (.tmp 18), none⟩, false), (false, ⟨(some 20), .faddr 0 (.tmp 2), none⟩, false), (false, ⟨(some 21), .faddr 1 (.tmp 20), none⟩, false), (false, ⟨(some 22), .load none (.tmp 21), none⟩, false), (false, ⟨(some 23), .mov (.tmp 1), none⟩, false), (false, ⟨(some 24), .bin .add (.tmp 23) (.val (.int .i64 1)), none⟩, false), (false, ⟨(some 25), .iaddrL 3 (.tmp 22) (.tmp 24), none⟩, false), (false, ⟨(some 26), .faddr 0 (.tmp 25), none⟩, false), (false, ⟨(some 27), .load none (.tmp 26), none⟩, false), (false, ⟨(some 4), .mov (.tmp 19), none⟩, false), (false, ⟨(some 5), .mov (.tmp 27), none⟩, false)])
 .ret) .skip))
 (.seq (.dreg [(false, ⟨(some 28), .faddr 0 (.tmp 2), none⟩, false), (false, ⟨(some 29), .faddr 1 (.tmp 28), none⟩, false), (false, ⟨(some 30), .load none (.tmp 29), none⟩, false), (false, ⟨(some 31), .mov (.tmp 1), none⟩, false), (false, ⟨(some 32), .iaddrL 3 (.tmp 30) (.tmp 31), none⟩, false), (false, ⟨(some 33), .faddr 0 (.tmp 32), none⟩, false), (false, ⟨(some 34), .load none (.tmp 33), none⟩, false), (false, ⟨(some 35), .faddr 0 (.tmp 2), none⟩, false), (false, ⟨(some 36), .faddr 0 (.tmp 35), none⟩, false), (false, ⟨(some 37), .load none (.tmp 36), none⟩, false), (false, ⟨(some 38), .lenL (.tmp 37), none⟩, false), (false, ⟨(some 4), .mov (.tmp 34), none⟩, false), (false, ⟨(some 5), .mov (.tmp 38), none⟩, false)])
 .ret))) }
def h113 : Hints := ⟨[], [], []⟩
def b113 : BackFn :=
{ n := 42, np := 6, res := [], g := 15, it := 129, p0 := 16, p1 := 17, A :=
 (.reg [⟨(some 6), .box none (.tmp 0), none⟩]), A1 :=
 (.reg [⟨(some 9), .load none (.tmp 1), none⟩, ⟨(some 10), .load none (.tmp 6), none⟩, ⟨(some 11), .iaddrL 1 (.tmp 9) (.tmp 10), none⟩, ⟨none, .store 1 (.tmp 11) (.val (.int .u8 1)), none⟩]), B :=
 (.reg [⟨(some 12), .load (some 8) (.tmp 2), none⟩, ⟨(some 13), .load none (.tmp 6), none⟩, ⟨(some 14), .call 87 [(.tmp 12), (.tmp 13)], none⟩, ⟨(some 15), .call 114 [(.tmp 14)], none⟩]), asg :=
 (.reg [⟨(some 8), .mov (.tmp 17), none⟩]), bdy :=
 (.block 1 (.seq (.reg [⟨(some 18), .load none (.tmp 1), none⟩, ⟨(some 19), .mov (.tmp 8), none⟩, ⟨(some 20), .iaddrL 1 (.tmp 18) (.tmp 19), none⟩, ⟨(some 21), .load none (.tmp 20), none⟩])
 (.block 2 (.seq (.reg [⟨(some 23), .bin .eql (.tmp 21) (.val (.int .u8 0)), none⟩, ⟨(some 22), .mov (.tmp 23), none⟩])
 (.cond (.tmp 22) (.reg [⟨(some 24), .load none (.tmp 3), none⟩, ⟨(some 25), .mov (.tmp 8), none⟩, ⟨(some 26), .callv (.tmp 24) [(.tmp 25)], none⟩]) (.seq (.reg [⟨(some 28), .bin .eql (.tmp 21) (.val (.int .u8 1)), none⟩, ⟨(some 27), .mov (.tmp 28), none⟩])
 (.cond (.tmp 27) (.reg [⟨(some 29), .load none (.tmp 4), none⟩, ⟨(some 30), .load none (.tmp 6), none⟩, ⟨(some 31), .mov (.tmp 8), none⟩, ⟨(some 32), .build [(.int .i64 0), (.int .i64 0)] [(0, 1, (.tmp 30)), (1, 1, (.tmp 31))], none⟩, ⟨(some 33), .mkslc 2 1 [(.int .i64 0), (.int .i64 0)] [(0, (.tmp 32))], none⟩, ⟨(some 34), .app none 2 16 (.tmp 29) (.tmp 33), none⟩, ⟨none, .store 1 (.tmp 4) (.tmp 34), none⟩]) .skip))))))), C :=
 (.seq (.reg [⟨(some 35), .load none (.tmp 1), none⟩, ⟨(some 36), .load none (.tmp 6), none⟩, ⟨(some 37), .iaddrL 1 (.tmp 35) (.tmp 36), none⟩, ⟨none, .store 1 (.tmp 37) (.val (.int .u8 2)), none⟩])
 (.reg [⟨(some 38), .load none (.tmp 5), none⟩, ⟨(some 39), .load none (.tmp 6), none⟩, ⟨(some 40), .mkslc 1 1 [(.int .i64 0)] [(0, (.tmp 39))], none⟩, ⟨(some 41), .app none 1 8 (.tmp 38) (.tmp 40), none⟩, ⟨none, .store 1 (.tmp 5) (.tmp 41), none⟩])) }
def h114 : Hints := ⟨[], [], []⟩
def a114 : AFn := { n := 4, np := 1, res := [.tmp 2], body :=
 (.seq (.reg [⟨(some 1), .box none (.tmp 0), none⟩, ⟨(some 2), .mov (.val .nilf), none⟩])
 (.seq (.reg [⟨(some 3), .mkfn 129 [(.tmp 1)], none⟩, ⟨(some 2), .mov (.tmp 3), none⟩])
 .ret)) }
def h115 : Hints := ⟨[], [], []⟩
def a115_B1 : AC := (.block 1 (.seq (.reg [⟨(some 19), .mov (.tmp 2), none⟩, ⟨(some 20), .mov (.tmp 1), none⟩, ⟨(some 21), .bin .sub (.tmp 19) (.tmp 20), none⟩, ⟨(some 10), .mov (.tmp 21), none⟩])
 (.seq (.seq (.reg [⟨(some 22), .mov (.tmp 10), none⟩, ⟨(some 23), .bin .leq (.tmp 22) (.val (.int .i64 12)), none⟩])
 (.cond (.tmp 23) (.seq (.reg [⟨(some 24), .mov (.tmp 0), none⟩, ⟨(some 25), .mov (.tmp 1), none⟩, ⟨(some 26), .mov (.tmp 2), none⟩, ⟨(some 27), .call 130 [(.tmp 24), (.tmp 25), (.tmp 26)], none⟩])
 .ret) .skip))
 (.seq (.seq (.reg [⟨(some 28), .mov (.tmp 3), none⟩, ⟨(some 29), .bin .eql (.tmp 28) (.val (.int .i64 0)), none⟩])
 (.cond (.tmp 29) (.seq (.reg [⟨(some 30), .mov (.tmp 0), none⟩, ⟨(some 31), .mov (.tmp 1), none⟩, ⟨(some 32), .mov (.tmp 2), none⟩, ⟨(some 33), .call 131 [(.tmp 30), (.tmp 31), (.tmp 32)], none⟩])
 .ret) .skip))
 (.seq (.seq (.reg [⟨(some 34), .mov (.tmp 8), none⟩, ⟨(some 35), .un .not (.tmp 34), none⟩])
 (.cond (.tmp 35) (.seq (.reg [⟨(some 36), .mov (.tmp 0), none⟩, ⟨(some 37), .mov (.tmp 1), none⟩, ⟨(some 38), .mov (.tmp 2), none⟩, ⟨(some 39), .call 132 [(.tmp 36), (.tmp 37), (.tmp 38)], none⟩])
 (.reg [⟨(some 40), .mov (.tmp 3), none⟩, ⟨(some 41), .bin .sub (.tmp 40) (.val (.int .i64 1)), none⟩, ⟨(some 3), .mov (.tmp 41), none⟩])) .skip))
 (.seq (.reg [⟨(some 43), .mov (.tmp 0), none⟩, ⟨(some 44), .mov (.tmp 1), none⟩, ⟨(some 45), .mov (.tmp 2), none⟩, ⟨(some 46), .call 133 [(.tmp 43), (.tmp 44), (.tmp 45)], none⟩, ⟨(some 42), .mov (.tmp 46), none⟩, ⟨(some 47), .ext (.tmp 42) 0, none⟩, ⟨(some 48), .ext (.tmp 42) 1, none⟩, ⟨(some 11), .mov (.tmp 47), none⟩, ⟨(some 12), .mov (.tmp 48), none⟩])
 (.seq (.seq (.reg [⟨(some 49), .mov (.tmp 12), none⟩, ⟨(some 50), .bin .eql (.tmp 49) (.val (.int .i64 2)), none⟩])
 (.cond (.tmp 50) (.seq (.reg [⟨(some 51), .mov (.tmp 0), none⟩, ⟨(some 52), .mov (.tmp 1), none⟩, ⟨(some 53), .mov (.tmp 2), none⟩, ⟨(some 54), .call 134 [(.tmp 51), (.tmp 52), (.tmp 53)], none⟩])
 (.seq (.reg [⟨(some 55), .mov (.tmp 2), none⟩, ⟨(some 56), .bin .sub (.tmp 55) (.val (.int .i64 1)), none⟩, ⟨(some 57), .mov (.tmp 11), none⟩, ⟨(some 58), .mov (.tmp 1), none⟩, ⟨(some 59), .bin .sub (.tmp 57) (.tmp 58), none⟩, ⟨(some 60), .bin .sub (.tmp 56) (.tmp 59), none⟩, ⟨(some 11), .mov (.tmp 60), none⟩])
 (.reg [⟨(some 12), .mov (.val (.int .i64 1)), none⟩]))) .skip))
 (.seq (.seq (.reg [⟨(some 61), .mov (.tmp 8), none⟩, ⟨(some 62), .mov (.tmp 61), none⟩, ⟨(some 63), .mov (.tmp 9), (some (62, true))⟩, ⟨(some 64), .pick (.tmp 62) (.tmp 63) (.val (.bool false)), none⟩, ⟨(some 65), .mov (.tmp 64), none⟩, ⟨(some 66), .mov (.tmp 12), (some (65, true))⟩, ⟨(some 67), .bin .eql (.tmp 66) (.val (.int .i64 1)), (some (65, true))⟩, ⟨(some 68), .pick (.tmp 65) (.tmp 67) (.val (.bool false)), none⟩])
 (.cond (.tmp 68) (.seq (.reg [⟨(some 69), .mov (.tmp 0), none⟩, ⟨(some 70), .mov (.tmp 1), none⟩, ⟨(some 71), .mov (.tmp 2), none⟩, ⟨(some 72), .call 135 [(.tmp 69), (.tmp 70), (.tmp 71)], none⟩])
 (.cond (.tmp 72) .ret .skip)) .skip))
 (.seq (.seq (.dreg [(false, ⟨(some 73), .mov (.tmp 1), none⟩, false), (false, ⟨(some 74), .bin .gtr (.tmp 73) (.val (.int .i64 0)), none⟩, false), (false, ⟨(some 75), .mov (.tmp 74), none⟩, false), (false, ⟨(some 76), .mov (.tmp 0), (some (75, true))⟩, false), (false, ⟨(some 77), .mov (.tmp 1), (some (75, true))⟩, false), (false, ⟨(some 78), .bin .sub (.tmp 77) (.val (.int .i64 1)), (some (75, true))⟩, false), (false, ⟨(some 79), .iaddrL 1 (.tmp 76) (.tmp 78), (some (75, true))⟩, false), (false, ⟨(some 80), .load none (.tmp 79), (some (75, true))⟩, false), (false, ⟨(some 81), .mov (.tmp 0), (some (75, true))⟩, false), (false, ⟨(some 82), .mov (.tmp 11), (some (75, true))⟩, false), (false, ⟨(some 83), .iaddrL 1 (.tmp 81) (.tmp 82), (some (75, true))⟩, false), (false, ⟨(some 84), .load none (.tmp 83), (some (75, true))⟩, false), (false, ⟨(some 85), .call 136 [(.tmp 80), (.tmp 84)], (some (75, true))⟩, false), (false, ⟨(some 86), .un .not (.tmp 85), (some (75, true))⟩, false), (false, ⟨(some 87), .pick (.tmp 75) (.tmp 86) (.val (.bool false)), none⟩, false)])
 (.cond (.tmp 87) (.seq (.reg [⟨(some 88), .mov (.tmp 0), none⟩, ⟨(some 89), .mov (.tmp 1), none⟩, ⟨(some 90), .mov (.tmp 2), none⟩, ⟨(some 91), .mov (.tmp 11), none⟩, ⟨(some 92), .call 137 [(.tmp 88), (.tmp 89), (.tmp 90), (.tmp 91)], none⟩, ⟨(some 13), .mov (.tmp 92), none⟩])
 (.seq (.reg [⟨(some 93), .mov (.tmp 13), none⟩, ⟨(some 1), .mov (.tmp 93), none⟩])
 (.exit 1))) .skip))
 (.seq (.reg [⟨(some 95), .mov (.tmp 0), none⟩, ⟨(some 96), .mov (.tmp 1), none⟩, ⟨(some 97), .mov (.tmp 2), none⟩, ⟨(some 98), .mov (.tmp 11), none⟩, ⟨(some 99), .call 138 [(.tmp 95), (.tmp 96), (.tmp 97), (.tmp 98)], none⟩, ⟨(some 94), .mov (.tmp 99), none⟩, ⟨(some 100), .ext (.tmp 94) 0, none⟩, ⟨(some 101), .ext (.tmp 94) 1, none⟩, ⟨(some 14), .mov (.tmp 100), none⟩, ⟨(some 15), .mov (.tmp 101), none⟩])
 (.seq (.reg [⟨(some 102), .mov (.tmp 15), none⟩, ⟨(some 9), .mov (.tmp 102), none⟩])
 (.seq (.reg [⟨(some 103), .mov (.tmp 14), none⟩, ⟨(some 104), .mov (.tmp 1), none⟩, ⟨(some 105), .bin .sub (.tmp 103) (.tmp 104), none⟩, ⟨(some 106), .mov (.tmp 2), none⟩, ⟨(some 107), .mov (.tmp 14), none⟩, ⟨(some 108), .bin .sub (.tmp 106) (.tmp 107), none⟩, ⟨(some 16), .mov (.tmp 105), none⟩, ⟨(some 17), .mov (.tmp 108), none⟩])
 (.seq (.reg [⟨(some 109), .mov (.tmp 10), none⟩, ⟨(some 110), .bin .quo (.tmp 109) (.val (.int .i64 8)), none⟩, ⟨(some 18), .mov (.tmp 110), none⟩])
 (.seq (.reg [⟨(some 111), .mov (.tmp 16), none⟩, ⟨(some 112), .mov (.tmp 17), none⟩, ⟨(some 113), .bin .lss (.tmp 111) (.tmp 112), none⟩])
 (.cond (.tmp 113) (.seq (.reg [⟨(some 114), .mov (.tmp 16), none⟩, ⟨(some 115), .mov (.tmp 18), none⟩, ⟨(some 116), .bin .geq (.tmp 114) (.tmp 115), none⟩, ⟨(some 8), .mov (.tmp 116), none⟩])
 (.seq (.reg [⟨(some 117), .mov (.tmp 0), none⟩, ⟨(some 118), .mov (.tmp 1), none⟩, ⟨(some 119), .mov (.tmp 14), none⟩, ⟨(some 120), .mov (.tmp 3), none⟩, ⟨(some 121), .call 115 [(.tmp 117), (.tmp 118), (.tmp 119), (.tmp 120)], none⟩])
 (.reg [⟨(some 122), .mov (.tmp 14), none⟩, ⟨(some 123), .bin .add (.tmp 122) (.val (.int .i64 1)), none⟩, ⟨(some 1), .mov (.tmp 123), none⟩]))) (.seq (.reg [⟨(some 124), .mov (.tmp 17), none⟩, ⟨(some 125), .mov (.tmp 18), none⟩, ⟨(some 126), .bin .geq (.tmp 124) (.tmp 125), none⟩, ⟨(some 8), .mov (.tmp 126), none⟩])
 (.seq (.reg [⟨(some 127), .mov (.tmp 0), none⟩, ⟨(some 128), .mov (.tmp 14), none⟩, ⟨(some 129), .bin .add (.tmp 128) (.val (.int .i64 1)), none⟩, ⟨(some 130), .mov (.tmp 2), none⟩, ⟨(some 131), .mov (.tmp 3), none⟩, ⟨(some 132), .call 115 [(.tmp 127), (.tmp 129), (.tmp 130), (.tmp 131)], none⟩])
 (.reg [⟨(some 133), .mov (.tmp 14), none⟩, ⟨(some 2), .mov (.tmp 133), none⟩]))))))))))))))))))
def a115_L1 : AC := .loop a115_B1
theorem a115_L1_step (call : Caller) (again : AC → St → Option (Ex × St)) (s : St) : codeEv call again a115_L1 s = match codeEv call again a115_B1 s with | some (.norm, s1) => again a115_L1 s1 | r => r := rfl
def a115 : AFn := { n := 134, np := 4, res := [], body :=
 (.seq (.reg [⟨(some 8), .mov (.val (.bool true)), none⟩])
 (.seq (.reg [⟨(some 9), .mov (.val (.bool true)), none⟩])
 (.block 0 a115_L1))) }
def h116 : Hints := ⟨[], [], []⟩
def a116 : AFn := { n := 8, np := 1, res := [.tmp 2], body :=
 (.seq (.reg [⟨(some 2), .mov (.val (.int .i64 0)), none⟩])
 (.seq (.cond (.val (.bool false)) (.seq (.reg [⟨(some 3), .mov (.tmp 0), none⟩, ⟨(some 4), .conv .u32 (.tmp 3), none⟩, ⟨(some 5), .call 139 [(.tmp 4)], none⟩, ⟨(some 2), .mov (.tmp 5), none⟩])
 .ret) .skip)
 (.seq (.reg [⟨(some 6), .mov (.tmp 0), none⟩, ⟨(some 7), .call 140 [(.tmp 6)], none⟩, ⟨(some 2), .mov (.tmp 7), none⟩])
 .ret))) }
def h119 : Hints := ⟨[1], [], []⟩
def a119 : AFn := { n := 21, np := 1, res := [.tmp 2, .tmp 3, .tmp 4], body :=
 (.seq (.reg [⟨(some 1), .box (some 1) (.tmp 0), none⟩, ⟨(some 2), .mov (.val (.int .i64 0)), none⟩, ⟨(some 3), .mov (.val (.bool false)), none⟩, ⟨(some 4), .mov (.val (.bool false)), none⟩])
 (.seq (.seq (.reg [⟨(some 5), .load (some 4) (.tmp 1), none⟩, ⟨(some 6), .call 122 [(.tmp 5)], none⟩, ⟨(some 7), .bin .neq (.tmp 6) (.val (.int .i64 0)), none⟩])
 (.cond (.tmp 7) (.seq (.reg [⟨(some 2), .mov (.val (.int .i64 0)), none⟩, ⟨(some 3), .mov (.val (.bool false)), none⟩, ⟨(some 4), .mov (.val (.bool false)), none⟩])
 .ret) .skip))
 (.seq (.seq (.reg [⟨(some 8), .faddr 0 (.tmp 1), none⟩, ⟨(some 9), .load none (.tmp 8), none⟩])
 (.block 0 (.seq (.seq (.reg [⟨(some 11), .bin .eql (.tmp 9) (.val (.int .i64 1)), none⟩, ⟨(some 10), .mov (.tmp 11), none⟩])
 (.cond (.tmp 10) .skip (.reg [⟨(some 12), .bin .eql (.tmp 9) (.val (.int .i64 18)), none⟩, ⟨(some 10), .mov (.tmp 12), none⟩])))
 (.cond (.tmp 10) (.seq (.reg [⟨(some 2), .mov (.val (.int .i64 0)), none⟩, ⟨(some 3), .mov (.val (.bool false)), none⟩, ⟨(some 4), .mov (.val (.bool false)), none⟩])
 .ret) (.seq (.reg [⟨(some 14), .bin .eql (.tmp 9) (.val (.int .i64 15)), none⟩, ⟨(some 13), .mov (.tmp 14), none⟩])
 (.cond (.tmp 13) (.seq (.reg [⟨(some 15), .faddr 1 (.tmp 1), none⟩, ⟨(some 16), .load none (.tmp 15), none⟩, ⟨(some 2), .mov (.tmp 16), none⟩, ⟨(some 3), .mov (.val (.bool true)), none⟩, ⟨(some 4), .mov (.val (.bool false)), none⟩])
 .ret) (.seq (.reg [⟨(some 18), .bin .eql (.tmp 9) (.val (.int .i64 16)), none⟩, ⟨(some 17), .mov (.tmp 18), none⟩])
 (.cond (.tmp 17) (.seq (.reg [⟨(some 19), .faddr 1 (.tmp 1), none⟩, ⟨(some 20), .load none (.tmp 19), none⟩, ⟨(some 2), .mov (.tmp 20), none⟩, ⟨(some 3), .mov (.val (.bool true)), none⟩, ⟨(some 4), .mov (.val (.bool true)), none⟩])
 .ret) .skip))))))))
 (.seq (.reg [⟨(some 2), .mov (.val (.int .i64 0)), none⟩, ⟨(some 3), .mov (.val (.bool false)), none⟩, ⟨(some 4), .mov (.val (.bool true)), none⟩])
 .ret)))) }
def h120 : Hints := ⟨[], [], []⟩
def a120_B1 : AC := (.seq (.seq (.reg [⟨(some 29), .mov (.tmp 5), none⟩, ⟨(some 30), .mov (.tmp 4), none⟩, ⟨(some 31), .lenL (.tmp 30), none⟩, ⟨(some 32), .bin .lss (.tmp 29) (.tmp 31), none⟩])
 (.cond (.tmp 32) .skip (.exit 2)))
 (.seq (.block 3 (.seq (.dreg [(false, ⟨(some 35), .mov (.tmp 4), none⟩, false), (false, ⟨(some 36), .mov (.tmp 5), none⟩, false), (false, ⟨(some 37), .iaddrL 1 (.tmp 35) (.tmp 36), none⟩, false), (false, ⟨(some 38), .load none (.tmp 37), none⟩, false), (false, ⟨(some 39), .mov (.tmp 4), none⟩, false), (false, ⟨(some 40), .mov (.tmp 5), none⟩, false), (false, ⟨(some 41), .bin .sub (.tmp 40) (.val (.int .i64 1)), none⟩, false), (false, ⟨(some 42), .iaddrL 1 (.tmp 39) (.tmp 41), none⟩, false), (false, ⟨(some 43), .load none (.tmp 42), none⟩, false), (false, ⟨(some 44), .bin .neq (.tmp 38) (.tmp 43), none⟩, false)])
 (.cond (.tmp 44) (.seq (.reg [⟨(some 45), .mov (.tmp 0), none⟩, ⟨(some 46), .mov (.tmp 3), none⟩, ⟨(some 47), .mov (.tmp 4), none⟩, ⟨(some 48), .mov (.tmp 5), none⟩, ⟨(some 49), .iaddrL 1 (.tmp 47) (.tmp 48), none⟩, ⟨(some 50), .load none (.tmp 49), none⟩, ⟨(some 51), .iaddrL 1 (.tmp 45) (.tmp 46), none⟩, ⟨none, .store 1 (.tmp 51) (.tmp 50), none⟩])
 (.reg [⟨(some 52), .mov (.tmp 3), none⟩, ⟨(some 53), .bin .add (.tmp 52) (.val (.int .i64 1)), none⟩, ⟨(some 3), .mov (.tmp 53), none⟩])) .skip)))
 (.reg [⟨(some 33), .mov (.tmp 5), none⟩, ⟨(some 34), .bin .add (.tmp 33) (.val (.int .i64 1)), none⟩, ⟨(some 5), .mov (.tmp 34), none⟩])))
def a120_L1 : AC := .loop a120_B1
theorem a120_L1_step (call : Caller) (again : AC → St → Option (Ex × St)) (s : St) : codeEv call again a120_L1 s = match codeEv call again a120_B1 s with | some (.norm, s1) => again a120_L1 s1 | r => r := rfl
def a120_B2 : AC := (.seq (.seq (.reg [⟨(some 10), .mov (.tmp 3), none⟩, ⟨(some 11), .mov (.tmp 0), none⟩, ⟨(some 12), .lenL (.tmp 11), none⟩, ⟨(some 13), .bin .lss (.tmp 10) (.tmp 12), none⟩])
 (.cond (.tmp 13) .skip (.exit 0)))
 (.seq (.block 1 (.seq (.dreg [(false, ⟨(some 16), .mov (.tmp 0), none⟩, false), (false, ⟨(some 17), .mov (.tmp 3), none⟩, false), (false, ⟨(some 18), .iaddrL 1 (.tmp 16) (.tmp 17), none⟩, false), (false, ⟨(some 19), .load none (.tmp 18), none⟩, false), (false, ⟨(some 20), .mov (.tmp 0), none⟩, false), (false, ⟨(some 21), .mov (.tmp 3), none⟩, false), (false, ⟨(some 22), .bin .sub (.tmp 21) (.val (.int .i64 1)), none⟩, false), (false, ⟨(some 23), .iaddrL 1 (.tmp 20) (.tmp 22), none⟩, false), (false, ⟨(some 24), .load none (.tmp 23), none⟩, false), (false, ⟨(some 25), .bin .eql (.tmp 19) (.tmp 24), none⟩, false)])
 (.cond (.tmp 25) (.seq (.reg [⟨(some 26), .mov (.tmp 0), none⟩, ⟨(some 27), .mov (.tmp 3), none⟩, ⟨(some 28), .slcL 1 (.tmp 26) (some (.tmp 27)) none none, none⟩, ⟨(some 4), .mov (.tmp 28), none⟩])
 (.seq (.seq (.reg [⟨(some 5), .mov (.val (.int .i64 1)), none⟩])
 (.block 2 a120_L1))
 (.seq (.reg [⟨(some 54), .mov (.tmp 0), none⟩, ⟨(some 55), .mov (.tmp 3), none⟩, ⟨(some 56), .slcL 1 (.tmp 54) (some (.tmp 55)) none none, none⟩, ⟨none, .bad, none⟩])
 (.seq (.reg [⟨(some 57), .mov (.tmp 0), none⟩, ⟨(some 58), .mov (.tmp 3), none⟩, ⟨(some 59), .slcL 1 (.tmp 57) none (some (.tmp 58)) none, none⟩, ⟨(some 2), .mov (.tmp 59), none⟩])
 .ret)))) .skip)))
 (.reg [⟨(some 14), .mov (.tmp 3), none⟩, ⟨(some 15), .bin .add (.tmp 14) (.val (.int .i64 1)), none⟩, ⟨(some 3), .mov (.tmp 15), none⟩])))
def a120_L2 : AC := .loop a120_B2
theorem a120_L2_step (call : Caller) (again : AC → St → Option (Ex × St)) (s : St) : codeEv call again a120_L2 s = match codeEv call again a120_B2 s with | some (.norm, s1) => again a120_L2 s1 | r => r := rfl
def a120 : AFn := { n := 61, np := 1, res := [.tmp 2], body :=
 (.seq (.reg [⟨(some 2), .mov (.val .nils), none⟩])
 (.seq (.seq (.reg [⟨(some 6), .mov (.tmp 0), none⟩, ⟨(some 7), .lenL (.tmp 6), none⟩, ⟨(some 8), .bin .lss (.tmp 7) (.val (.int .i64 2)), none⟩])
 (.cond (.tmp 8) (.seq (.reg [⟨(some 9), .mov (.tmp 0), none⟩, ⟨(some 2), .mov (.tmp 9), none⟩])
 .ret) .skip))
 (.seq (.seq (.reg [⟨(some 3), .mov (.val (.int .i64 1)), none⟩])
 (.block 0 a120_L2))
 (.seq (.reg [⟨(some 60), .mov (.tmp 0), none⟩, ⟨(some 2), .mov (.tmp 60), none⟩])
 .ret)))) }
def h122 : Hints := ⟨[1, 3], [], []⟩
def a122 : AFn := { n := 41, np := 1, res := [.tmp 2], body :=
 (.seq (.reg [⟨(some 1), .box (some 1) (.tmp 0), none⟩, ⟨(some 2), .mov (.val (.int .i64 0)), none⟩])
 (.seq (.seq (.reg [⟨(some 4), .faddr 0 (.tmp 1), none⟩, ⟨(some 5), .load none (.tmp 4), none⟩, ⟨(some 6), .bin .lss (.tmp 5) (.val (.int .i64 1)), none⟩, ⟨(some 7), .mov (.tmp 6), none⟩, ⟨(some 8), .faddr 0 (.tmp 1), (some (7, false))⟩, ⟨(some 9), .load none (.tmp 8), (some (7, false))⟩, ⟨(some 10), .load none (.val (.ptr 1 0)), (some (7, false))⟩, ⟨(some 11), .lenL (.tmp 10), (some (7, false))⟩, ⟨(some 12), .bin .geq (.tmp 9) (.tmp 11), (some (7, false))⟩, ⟨(some 13), .pick (.tmp 7) (.val (.bool true)) (.tmp 12), none⟩])
 (.cond (.tmp 13) (.seq (.reg [⟨(some 2), .mov (.val (.int .i64 2)), none⟩])
 .ret) .skip))
 (.seq (.reg [⟨(some 14), .load none (.val (.ptr 1 0)), none⟩, ⟨(some 15), .faddr 0 (.tmp 1), none⟩, ⟨(some 16), .load none (.tmp 15), none⟩, ⟨(some 17), .iaddrL 6 (.tmp 14) (.tmp 16), none⟩, ⟨(some 18), .load (some 6) (.tmp 17), none⟩, ⟨(some 3), .alloc (some 3) [(.str ⟨#[]⟩), (.int .i64 0), (.int .i64 0), (.int .i64 0), (.int .i64 0), (.int .i64 0)], none⟩, ⟨none, .store 6 (.tmp 3) (.tmp 18), none⟩])
 (.seq (.seq (.reg [⟨(some 19), .faddr 1 (.tmp 3), none⟩, ⟨(some 20), .load none (.tmp 19), none⟩, ⟨(some 21), .faddr 1 (.tmp 1), none⟩, ⟨(some 22), .load none (.tmp 21), none⟩, ⟨(some 23), .call 150 [(.tmp 20), (.tmp 22)], none⟩, ⟨(some 24), .un .not (.tmp 23), none⟩, ⟨(some 25), .mov (.tmp 24), none⟩, ⟨(some 26), .faddr 2 (.tmp 3), (some (25, false))⟩, ⟨(some 27), .load none (.tmp 26), (some (25, false))⟩, ⟨(some 28), .faddr 2 (.tmp 1), (some (25, false))⟩, ⟨(some 29), .load none (.tmp 28), (some (25, false))⟩, ⟨(some 30), .call 150 [(.tmp 27), (.tmp 29)], (some (25, false))⟩, ⟨(some 31), .un .not (.tmp 30), (some (25, false))⟩, ⟨(some 32), .pick (.tmp 25) (.val (.bool true)) (.tmp 31), none⟩, ⟨(some 33), .mov (.tmp 32), none⟩, ⟨(some 34), .faddr 3 (.tmp 3), (some (33, false))⟩, ⟨(some 35), .load none (.tmp 34), (some (33, false))⟩, ⟨(some 36), .faddr 3 (.tmp 1), (some (33, false))⟩, ⟨(some 37), .load none (.tmp 36), (some (33, false))⟩, ⟨(some 38), .call 150 [(.tmp 35), (.tmp 37)], (some (33, false))⟩, ⟨(some 39), .un .not (.tmp 38), (some (33, false))⟩, ⟨(some 40), .pick (.tmp 33) (.val (.bool true)) (.tmp 39), none⟩])
 (.cond (.tmp 40) (.seq (.reg [⟨(some 2), .mov (.val (.int .i64 2)), none⟩])
 .ret) .skip))
 (.seq (.reg [⟨(some 2), .mov (.val (.int .i64 0)), none⟩])
 .ret))))) }
def h129 : Hints := ⟨[], [], []⟩
def a129_B1 : AC := (.seq (.seq (.reg [⟨(some 7), .mov (.tmp 3), none⟩, ⟨(some 8), .bin .geq (.tmp 7) (.val (.int .i64 0)), none⟩])
 (.cond (.tmp 8) .skip (.exit 0)))
 (.seq (.block 1 (.seq (.reg [⟨(some 11), .mov (.tmp 0), none⟩, ⟨(some 12), .mov (.tmp 3), none⟩, ⟨(some 13), .load none (.tmp 1), none⟩, ⟨(some 14), .mov (.tmp 3), none⟩, ⟨(some 15), .iaddrL 1 (.tmp 13) (.tmp 14), none⟩, ⟨(some 16), .load none (.tmp 15), none⟩, ⟨(some 17), .callv (.tmp 11) [(.tmp 12), (.tmp 16)], none⟩, ⟨(some 18), .un .not (.tmp 17), none⟩])
 (.cond (.tmp 18) .ret .skip)))
 (.reg [⟨(some 9), .mov (.tmp 3), none⟩, ⟨(some 10), .bin .sub (.tmp 9) (.val (.int .i64 1)), none⟩, ⟨(some 3), .mov (.tmp 10), none⟩])))
def a129_L1 : AC := .loop a129_B1
theorem a129_L1_step (call : Caller) (again : AC → St → Option (Ex × St)) (s : St) : codeEv call again a129_L1 s = match codeEv call again a129_B1 s with | some (.norm, s1) => again a129_L1 s1 | r => r := rfl
def a129 : AFn := { n := 19, np := 2, res := [], body :=
 (.seq (.reg [⟨(some 4), .load none (.tmp 1), none⟩, ⟨(some 5), .lenL (.tmp 4), none⟩, ⟨(some 6), .bin .sub (.tmp 5) (.val (.int .i64 1)), none⟩, ⟨(some 3), .mov (.tmp 6), none⟩])
 (.block 0 a129_L1)) }
def h130 : Hints := ⟨[], [], []⟩
def a130_B1 : AC := (.seq (.seq (.dreg [(false, ⟨(some 16), .mov (.tmp 7), none⟩, false), (false, ⟨(some 17), .mov (.tmp 1), none⟩, false), (false, ⟨(some 18), .bin .gtr (.tmp 16) (.tmp 17), none⟩, false), (false, ⟨(some 19), .mov (.tmp 18), none⟩, false), (false, ⟨(some 20), .mov (.tmp 0), (some (19, true))⟩, false), (false, ⟨(some 21), .mov (.tmp 7), (some (19, true))⟩, false), (false, ⟨(some 22), .iaddrL 1 (.tmp 20) (.tmp 21), (some (19, true))⟩, false), (false, ⟨(some 23), .load none (.tmp 22), (some (19, true))⟩, false), (false, ⟨(some 24), .mov (.tmp 0), (some (19, true))⟩, false), (false, ⟨(some 25), .mov (.tmp 7), (some (19, true))⟩, false), (false, ⟨(some 26), .bin .sub (.tmp 25) (.val (.int .i64 1)), (some (19, true))⟩, false), (false, ⟨(some 27), .iaddrL 1 (.tmp 24) (.tmp 26), (some (19, true))⟩, false), (false, ⟨(some 28), .load none (.tmp 27), (some (19, true))⟩, false), (false, ⟨(some 29), .call 136 [(.tmp 23), (.tmp 28)], (some (19, true))⟩, false), (false, ⟨(some 30), .pick (.tmp 19) (.tmp 29) (.val (.bool false)), none⟩, false)])
 (.cond (.tmp 30) .skip (.exit 2)))
 (.seq (.block 3 (.dreg [(false, ⟨(some 33), .mov (.tmp 0), none⟩, false), (false, ⟨(some 34), .mov (.tmp 7), none⟩, false), (false, ⟨(some 35), .mov (.tmp 0), none⟩, false), (false, ⟨(some 36), .mov (.tmp 7), none⟩, false), (false, ⟨(some 37), .bin .sub (.tmp 36) (.val (.int .i64 1)), none⟩, false), (false, ⟨(some 38), .mov (.tmp 0), none⟩, false), (false, ⟨(some 39), .mov (.tmp 7), none⟩, false), (false, ⟨(some 40), .bin .sub (.tmp 39) (.val (.int .i64 1)), none⟩, false), (false, ⟨(some 41), .iaddrL 1 (.tmp 38) (.tmp 40), none⟩, false), (false, ⟨(some 42), .load none (.tmp 41), none⟩, false), (false, ⟨(some 43), .mov (.tmp 0), none⟩, false), (false, ⟨(some 44), .mov (.tmp 7), none⟩, false), (false, ⟨(some 45), .iaddrL 1 (.tmp 43) (.tmp 44), none⟩, false), (false, ⟨(some 46), .load none (.tmp 45), none⟩, false), (false, ⟨(some 47), .iaddrL 1 (.tmp 33) (.tmp 34), none⟩, false), (false, ⟨none, .store 1 (.tmp 47) (.tmp 42), none⟩, false), (false, ⟨(some 48), .iaddrL 1 (.tmp 35) (.tmp 37), none⟩, false), (false, ⟨none, .store 1 (.tmp 48) (.tmp 46), none⟩, false)]))
 (.reg [⟨(some 31), .mov (.tmp 7), none⟩, ⟨(some 32), .bin .sub (.tmp 31) (.val (.int .i64 1)), none⟩, ⟨(some 7), .mov (.tmp 32), none⟩])))
def a130_L1 : AC := .loop a130_B1
theorem a130_L1_step (call : Caller) (again : AC → St → Option (Ex × St)) (s : St) : codeEv call again a130_L1 s = match codeEv call again a130_B1 s with | some (.norm, s1) => again a130_L1 s1 | r => r := rfl
def a130_B2 : AC := (.seq (.seq (.reg [⟨(some 10), .mov (.tmp 6), none⟩, ⟨(some 11), .mov (.tmp 2), none⟩, ⟨(some 12), .bin .lss (.tmp 10) (.tmp 11), none⟩])
 (.cond (.tmp 12) .skip (.exit 0)))
 (.seq (.block 1 (.seq (.reg [⟨(some 15), .mov (.tmp 6), none⟩, ⟨(some 7), .mov (.tmp 15), none⟩])
 (.block 2 a130_L1)))
 (.reg [⟨(some 13), .mov (.tmp 6), none⟩, ⟨(some 14), .bin .add (.tmp 13) (.val (.int .i64 1)), none⟩, ⟨(some 6), .mov (.tmp 14), none⟩])))
def a130_L2 : AC := .loop a130_B2
theorem a130_L2_step (call : Caller) (again : AC → St → Option (Ex × St)) (s : St) : codeEv call again a130_L2 s = match codeEv call again a130_B2 s with | some (.norm, s1) => again a130_L2 s1 | r => r := rfl
def a130 : AFn := { n := 49, np := 3, res := [], body :=
 (.seq (.reg [⟨(some 8), .mov (.tmp 1), none⟩, ⟨(some 9), .bin .add (.tmp 8) (.val (.int .i64 1)), none⟩, ⟨(some 6), .mov (.tmp 9), none⟩])
 (.block 0 a130_L2)) }
def h131 : Hints := ⟨[], [], []⟩
def a131_B1 : AC := (.seq (.seq (.reg [⟨(some 29), .mov (.tmp 10), none⟩, ⟨(some 30), .bin .geq (.tmp 29) (.val (.int .i64 0)), none⟩])
 (.cond (.tmp 30) .skip (.exit 2)))
 (.seq (.block 3 (.seq (.dreg [(false, ⟨(some 33), .mov (.tmp 0), none⟩, false), (false, ⟨(some 34), .mov (.tmp 6), none⟩, false), (false, ⟨(some 35), .mov (.tmp 0), none⟩, false), (false, ⟨(some 36), .mov (.tmp 6), none⟩, false), (false, ⟨(some 37), .mov (.tmp 10), none⟩, false), (false, ⟨(some 38), .bin .add (.tmp 36) (.tmp 37), none⟩, false), (false, ⟨(some 39), .mov (.tmp 0), none⟩, false), (false, ⟨(some 40), .mov (.tmp 6), none⟩, false), (false, ⟨(some 41), .mov (.tmp 10), none⟩, false), (false, ⟨(some 42), .bin .add (.tmp 40) (.tmp 41), none⟩, false), (false, ⟨(some 43), .iaddrL 1 (.tmp 39) (.tmp 42), none⟩, false), (false, ⟨(some 44), .load none (.tmp 43), none⟩, false), (false, ⟨(some 45), .mov (.tmp 0), none⟩, false), (false, ⟨(some 46), .mov (.tmp 6), none⟩, false), (false, ⟨(some 47), .iaddrL 1 (.tmp 45) (.tmp 46), none⟩, false), (false, ⟨(some 48), .load none (.tmp 47), none⟩, false), (false, ⟨(some 49), .iaddrL 1 (.tmp 33) (.tmp 34), none⟩, false), (false, ⟨none, .store 1 (.tmp 49) (.tmp 44), none⟩, false), (false, ⟨(some 50), .iaddrL 1 (.tmp 35) (.tmp 38), none⟩, false), (false, ⟨none, .store 1 (.tmp 50) (.tmp 48), none⟩, false)])
 (.reg [⟨(some 51), .mov (.tmp 0), none⟩, ⟨(some 52), .mov (.tmp 7), none⟩, ⟨(some 53), .mov (.tmp 10), none⟩, ⟨(some 54), .mov (.tmp 6), none⟩, ⟨(some 55), .call 151 [(.tmp 51), (.tmp 52), (.tmp 53), (.tmp 54)], none⟩])))
 (.reg [⟨(some 31), .mov (.tmp 10), none⟩, ⟨(some 32), .bin .sub (.tmp 31) (.val (.int .i64 1)), none⟩, ⟨(some 10), .mov (.tmp 32), none⟩])))
def a131_L1 : AC := .loop a131_B1
theorem a131_L1_step (call : Caller) (again : AC → St → Option (Ex × St)) (s : St) : codeEv call again a131_L1 s = match codeEv call again a131_B1 s with | some (.norm, s1) => again a131_L1 s1 | r => r := rfl
def a131_B2 : AC := (.seq (.seq (.reg [⟨(some 18), .mov (.tmp 9), none⟩, ⟨(some 19), .bin .geq (.tmp 18) (.val (.int .i64 0)), none⟩])
 (.cond (.tmp 19) .skip (.exit 0)))
 (.seq (.block 1 (.reg [⟨(some 22), .mov (.tmp 0), none⟩, ⟨(some 23), .mov (.tmp 9), none⟩, ⟨(some 24), .mov (.tmp 8), none⟩, ⟨(some 25), .mov (.tmp 6), none⟩, ⟨(some 26), .call 151 [(.tmp 22), (.tmp 23), (.tmp 24), (.tmp 25)], none⟩]))
 (.reg [⟨(some 20), .mov (.tmp 9), none⟩, ⟨(some 21), .bin .sub (.tmp 20) (.val (.int .i64 1)), none⟩, ⟨(some 9), .mov (.tmp 21), none⟩])))
def a131_L2 : AC := .loop a131_B2
theorem a131_L2_step (call : Caller) (again : AC → St → Option (Ex × St)) (s : St) : codeEv call again a131_L2 s = match codeEv call again a131_B2 s with | some (.norm, s1) => again a131_L2 s1 | r => r := rfl
def a131 : AFn := { n := 56, np := 3, res := [], body :=
 (.seq (.reg [⟨(some 11), .mov (.tmp 1), none⟩, ⟨(some 6), .mov (.tmp 11), none⟩])
 (.seq (.reg [⟨(some 7), .mov (.val (.int .i64 0)), none⟩])
 (.seq (.reg [⟨(some 12), .mov (.tmp 2), none⟩, ⟨(some 13), .mov (.tmp 1), none⟩, ⟨(some 14), .bin .sub (.tmp 12) (.tmp 13), none⟩, ⟨(some 8), .mov (.tmp 14), none⟩])
 (.seq (.seq (.reg [⟨(some 15), .mov (.tmp 8), none⟩, ⟨(some 16), .bin .sub (.tmp 15) (.val (.int .i64 1)), none⟩, ⟨(some 17), .bin .quo (.tmp 16) (.val (.int .i64 2)), none⟩, ⟨(some 9), .mov (.tmp 17), none⟩])
 (.block 0 a131_L2))
 (.seq (.reg [⟨(some 27), .mov (.tmp 8), none⟩, ⟨(some 28), .bin .sub (.tmp 27) (.val (.int .i64 1)), none⟩, ⟨(some 10), .mov (.tmp 28), none⟩])
 (.block 2 a131_L1)))))) }
def h132 : Hints := ⟨[], [], []⟩
def a132_B1 : AC := (.seq (.seq (.reg [⟨(some 26), .mov (.tmp 9), none⟩, ⟨(some 27), .mov (.tmp 1), none⟩, ⟨(some 28), .mov (.tmp 6), none⟩, ⟨(some 29), .bin .quo (.tmp 28) (.val (.int .i64 4)), none⟩, ⟨(some 30), .bin .mul (.tmp 29) (.val (.int .i64 2)), none⟩, ⟨(some 31), .bin .add (.tmp 27) (.tmp 30), none⟩, ⟨(some 32), .bin .add (.tmp 31) (.val (.int .i64 1)), none⟩, ⟨(some 33), .bin .leq (.tmp 26) (.tmp 32), none⟩])
 (.cond (.tmp 33) .skip (.exit 0)))
 (.seq (.block 1 (.seq (.reg [⟨(some 36), .call 153 [(.tmp 7)], none⟩, ⟨(some 37), .mov (.tmp 8), none⟩, ⟨(some 38), .bin .sub (.tmp 37) (.val (.int .u64 1)), none⟩, ⟨(some 39), .bin .and (.tmp 36) (.tmp 38), none⟩, ⟨(some 40), .conv .i64 (.tmp 39), none⟩, ⟨(some 10), .mov (.tmp 40), none⟩])
 (.seq (.seq (.reg [⟨(some 41), .mov (.tmp 10), none⟩, ⟨(some 42), .mov (.tmp 6), none⟩, ⟨(some 43), .bin .geq (.tmp 41) (.tmp 42), none⟩])
 (.cond (.tmp 43) (.reg [⟨(some 44), .mov (.tmp 10), none⟩, ⟨(some 45), .mov (.tmp 6), none⟩, ⟨(some 46), .bin .sub (.tmp 44) (.tmp 45), none⟩, ⟨(some 10), .mov (.tmp 46), none⟩]) .skip))
 (.dreg [(false, ⟨(some 47), .mov (.tmp 0), none⟩, false), (false, ⟨(some 48), .mov (.tmp 9), none⟩, false), (false, ⟨(some 49), .mov (.tmp 0), none⟩, false), (false, ⟨(some 50), .mov (.tmp 1), none⟩, false), (false, ⟨(some 51), .mov (.tmp 10), none⟩, false), (false, ⟨(some 52), .bin .add (.tmp 50) (.tmp 51), none⟩, false), (false, ⟨(some 53), .mov (.tmp 0), none⟩, false), (false, ⟨(some 54), .mov (.tmp 1), none⟩, false), (false, ⟨(some 55), .mov (.tmp 10), none⟩, false), (false, ⟨(some 56), .bin .add (.tmp 54) (.tmp 55), none⟩, false), (false, ⟨(some 57), .iaddrL 1 (.tmp 53) (.tmp 56), none⟩, false), (false, ⟨(some 58), .load none (.tmp 57), none⟩, false), (false, ⟨(some 59), .mov (.tmp 0), none⟩, false), (false, ⟨(some 60), .mov (.tmp 9), none⟩, false), (false, ⟨(some 61), .iaddrL 1 (.tmp 59) (.tmp 60), none⟩, false), (false, ⟨(some 62), .load none (.tmp 61), none⟩, false), (false, ⟨(some 63), .iaddrL 1 (.tmp 47) (.tmp 48), none⟩, false), (false, ⟨none, .store 1 (.tmp 63) (.tmp 58), none⟩, false), (false, ⟨(some 64), .iaddrL 1 (.tmp 49) (.tmp 52), none⟩, false), (false, ⟨none, .store 1 (.tmp 64) (.tmp 62), none⟩, false)]))))
 (.reg [⟨(some 34), .mov (.tmp 9), none⟩, ⟨(some 35), .bin .add (.tmp 34) (.val (.int .i64 1)), none⟩, ⟨(some 9), .mov (.tmp 35), none⟩])))
def a132_L1 : AC := .loop a132_B1
theorem a132_L1_step (call : Caller) (again : AC → St → Option (Ex × St)) (s : St) : codeEv call again a132_L1 s = match codeEv call again a132_B1 s with | some (.norm, s1) => again a132_L1 s1 | r => r := rfl
def a132 : AFn := { n := 65, np := 3, res := [], body :=
 (.seq (.reg [⟨(some 11), .mov (.tmp 2), none⟩, ⟨(some 12), .mov (.tmp 1), none⟩, ⟨(some 13), .bin .sub (.tmp 11) (.tmp 12), none⟩, ⟨(some 6), .mov (.tmp 13), none⟩])
 (.seq (.reg [⟨(some 14), .mov (.tmp 6), none⟩, ⟨(some 15), .bin .geq (.tmp 14) (.val (.int .i64 8)), none⟩])
 (.cond (.tmp 15) (.seq (.reg [⟨(some 16), .mov (.tmp 6), none⟩, ⟨(some 17), .conv .u64 (.tmp 16), none⟩, ⟨(some 7), .alloc none [(.int .u64 0)], none⟩, ⟨none, .store 1 (.tmp 7) (.tmp 17), none⟩])
 (.seq (.reg [⟨(some 18), .mov (.tmp 6), none⟩, ⟨(some 19), .call 152 [(.tmp 18)], none⟩, ⟨(some 8), .mov (.tmp 19), none⟩])
 (.seq (.reg [⟨(some 20), .mov (.tmp 1), none⟩, ⟨(some 21), .mov (.tmp 6), none⟩, ⟨(some 22), .bin .quo (.tmp 21) (.val (.int .i64 4)), none⟩, ⟨(some 23), .bin .mul (.tmp 22) (.val (.int .i64 2)), none⟩, ⟨(some 24), .bin .add (.tmp 20) (.tmp 23), none⟩, ⟨(some 25), .bin .sub (.tmp 24) (.val (.int .i64 1)), none⟩, ⟨(some 9), .mov (.tmp 25), none⟩])
 (.block 0 a132_L1)))) .skip))) }
def h133 : Hints := ⟨[], [], []⟩
def a133 : AFn := { n := 57, np := 3, res := [.tmp 6, .tmp 7], body :=
 (.seq (.reg [⟨(some 6), .mov (.val (.int .i64 0)), none⟩, ⟨(some 7), .mov (.val (.int .i64 0)), none⟩])
 (.seq (.reg [⟨(some 13), .mov (.tmp 2), none⟩, ⟨(some 14), .mov (.tmp 1), none⟩, ⟨(some 15), .bin .sub (.tmp 13) (.tmp 14), none⟩, ⟨(some 8), .mov (.tmp 15), none⟩])
 (.seq (.reg [⟨(some 9), .alloc none [(.int .i64 0)], none⟩])
 (.seq (.reg [⟨(some 16), .mov (.tmp 1), none⟩, ⟨(some 17), .mov (.tmp 8), none⟩, ⟨(some 18), .bin .quo (.tmp 17) (.val (.int .i64 4)), none⟩, ⟨(some 19), .bin .mul (.tmp 18) (.val (.int .i64 1)), none⟩, ⟨(some 20), .bin .add (.tmp 16) (.tmp 19), none⟩, ⟨(some 10), .mov (.tmp 20), none⟩])
 (.seq (.reg [⟨(some 21), .mov (.tmp 1), none⟩, ⟨(some 22), .mov (.tmp 8), none⟩, ⟨(some 23), .bin .quo (.tmp 22) (.val (.int .i64 4)), none⟩, ⟨(some 24), .bin .mul (.tmp 23) (.val (.int .i64 2)), none⟩, ⟨(some 25), .bin .add (.tmp 21) (.tmp 24), none⟩, ⟨(some 11), .mov (.tmp 25), none⟩])
 (.seq (.reg [⟨(some 26), .mov (.tmp 1), none⟩, ⟨(some 27), .mov (.tmp 8), none⟩, ⟨(some 28), .bin .quo (.tmp 27) (.val (.int .i64 4)), none⟩, ⟨(some 29), .bin .mul (.tmp 28) (.val (.int .i64 3)), none⟩, ⟨(some 30), .bin .add (.tmp 26) (.tmp 29), none⟩, ⟨(some 12), .mov (.tmp 30), none⟩])
 (.seq (.seq (.reg [⟨(some 31), .mov (.tmp 8), none⟩, ⟨(some 32), .bin .geq (.tmp 31) (.val (.int .i64 8)), none⟩])
 (.cond (.tmp 32) (.seq (.seq (.reg [⟨(some 33), .mov (.tmp 8), none⟩, ⟨(some 34), .bin .geq (.tmp 33) (.val (.int .i64 50)), none⟩])
 (.cond (.tmp 34) (.seq (.reg [⟨(some 35), .mov (.tmp 0), none⟩, ⟨(some 36), .mov (.tmp 10), none⟩, ⟨(some 37), .call 154 [(.tmp 35), (.tmp 36), (.tmp 9)], none⟩, ⟨(some 10), .mov (.tmp 37), none⟩])
 (.seq (.reg [⟨(some 38), .mov (.tmp 0), none⟩, ⟨(some 39), .mov (.tmp 11), none⟩, ⟨(some 40), .call 154 [(.tmp 38), (.tmp 39), (.tmp 9)], none⟩, ⟨(some 11), .mov (.tmp 40), none⟩])
 (.reg [⟨(some 41), .mov (.tmp 0), none⟩, ⟨(some 42), .mov (.tmp 12), none⟩, ⟨(some 43), .call 154 [(.tmp 41), (.tmp 42), (.tmp 9)], none⟩, ⟨(some 12), .mov (.tmp 43), none⟩]))) .skip))
 (.reg [⟨(some 44), .mov (.tmp 0), none⟩, ⟨(some 45), .mov (.tmp 10), none⟩, ⟨(some 46), .mov (.tmp 11), none⟩, ⟨(some 47), .mov (.tmp 12), none⟩, ⟨(some 48), .call 155 [(.tmp 44), (.tmp 45), (.tmp 46), (.tmp 47), (.tmp 9)], none⟩, ⟨(some 11), .mov (.tmp 48), none⟩])) .skip))
 (.seq (.reg [⟨(some 49), .load none (.tmp 9), none⟩])
 (.block 0 (.seq (.reg [⟨(some 52), .bin .eql (.tmp 49) (.val (.int .i64 0)), none⟩, ⟨(some 51), .mov (.tmp 52), none⟩])
 (.cond (.tmp 51) (.seq (.reg [⟨(some 53), .mov (.tmp 11), none⟩, ⟨(some 6), .mov (.tmp 53), none⟩, ⟨(some 7), .mov (.val (.int .i64 1)), none⟩])
 .ret) (.seq (.reg [⟨(some 55), .bin .eql (.tmp 49) (.val (.int .i64 12)), none⟩, ⟨(some 54), .mov (.tmp 55), none⟩])
 (.cond (.tmp 54) (.seq (.reg [⟨(some 56), .mov (.tmp 11), none⟩, ⟨(some 6), .mov (.tmp 56), none⟩, ⟨(some 7), .mov (.val (.int .i64 2)), none⟩])
 .ret) (.seq (.reg [⟨(some 50), .mov (.tmp 11), none⟩, ⟨(some 6), .mov (.tmp 50), none⟩, ⟨(some 7), .mov (.val (.int .i64 0)), none⟩])
 .ret)))))))))))))) }
def h134 : Hints := ⟨[], [], []⟩
def a134_B1 : AC := (.seq (.seq (.reg [⟨(some 11), .mov (.tmp 6), none⟩, ⟨(some 12), .mov (.tmp 7), none⟩, ⟨(some 13), .bin .lss (.tmp 11) (.tmp 12), none⟩])
 (.cond (.tmp 13) .skip (.exit 0)))
 (.block 1 (.seq (.dreg [(false, ⟨(some 14), .mov (.tmp 0), none⟩, false), (false, ⟨(some 15), .mov (.tmp 6), none⟩, false), (false, ⟨(some 16), .mov (.tmp 0), none⟩, false), (false, ⟨(some 17), .mov (.tmp 7), none⟩, false), (false, ⟨(some 18), .mov (.tmp 0), none⟩, false), (false, ⟨(some 19), .mov (.tmp 7), none⟩, false), (false, ⟨(some 20), .iaddrL 1 (.tmp 18) (.tmp 19), none⟩, false), (false, ⟨(some 21), .load none (.tmp 20), none⟩, false), (false, ⟨(some 22), .mov (.tmp 0), none⟩, false), (false, ⟨(some 23), .mov (.tmp 6), none⟩, false), (false, ⟨(some 24), .iaddrL 1 (.tmp 22) (.tmp 23), none⟩, false), (false, ⟨(some 25), .load none (.tmp 24), none⟩, false), (false, ⟨(some 26), .iaddrL 1 (.tmp 14) (.tmp 15), none⟩, false), (false, ⟨none, .store 1 (.tmp 26) (.tmp 21), none⟩, false), (false, ⟨(some 27), .iaddrL 1 (.tmp 16) (.tmp 17), none⟩, false), (false, ⟨none, .store 1 (.tmp 27) (.tmp 25), none⟩, false)])
 (.seq (.reg [⟨(some 28), .mov (.tmp 6), none⟩, ⟨(some 29), .bin .add (.tmp 28) (.val (.int .i64 1)), none⟩, ⟨(some 6), .mov (.tmp 29), none⟩])
 (.reg [⟨(some 30), .mov (.tmp 7), none⟩, ⟨(some 31), .bin .sub (.tmp 30) (.val (.int .i64 1)), none⟩, ⟨(some 7), .mov (.tmp 31), none⟩])))))
def a134_L1 : AC := .loop a134_B1
theorem a134_L1_step (call : Caller) (again : AC → St → Option (Ex × St)) (s : St) : codeEv call again a134_L1 s = match codeEv call again a134_B1 s with | some (.norm, s1) => again a134_L1 s1 | r => r := rfl
def a134 : AFn := { n := 32, np := 3, res := [], body :=
 (.seq (.reg [⟨(some 8), .mov (.tmp 1), none⟩, ⟨(some 6), .mov (.tmp 8), none⟩])
 (.seq (.reg [⟨(some 9), .mov (.tmp 2), none⟩, ⟨(some 10), .bin .sub (.tmp 9) (.val (.int .i64 1)), none⟩, ⟨(some 7), .mov (.tmp 10), none⟩])
 (.block 0 a134_L1))) }
def h135 : Hints := ⟨[], [], []⟩
def a135_B1 : AC := (.seq (.seq (.reg [⟨(some 101), .mov (.tmp 10), none⟩, ⟨(some 102), .mov (.tmp 2), none⟩, ⟨(some 103), .bin .lss (.tmp 101) (.tmp 102), none⟩])
 (.cond (.tmp 103) .skip (.exit 6)))
 (.seq (.block 7 (.seq (.seq (.dreg [(false, ⟨(some 106), .mov (.tmp 0), none⟩, false), (false, ⟨(some 107), .mov (.tmp 10), none⟩, false), (false, ⟨(some 108), .iaddrL 1 (.tmp 106) (.tmp 107), none⟩, false), (false, ⟨(some 109), .load none (.tmp 108), none⟩, false), (false, ⟨(some 110), .mov (.tmp 0), none⟩, false), (false, ⟨(some 111), .mov (.tmp 10), none⟩, false), (false, ⟨(some 112), .bin .sub (.tmp 111) (.val (.int .i64 1)), none⟩, false), (false, ⟨(some 113), .iaddrL 1 (.tmp 110) (.tmp 112), none⟩, false), (false, ⟨(some 114), .load none (.tmp 113), none⟩, false), (false, ⟨(some 115), .call 136 [(.tmp 109), (.tmp 114)], none⟩, false), (false, ⟨(some 116), .un .not (.tmp 115), none⟩, false)])
 (.cond (.tmp 116) (.exit 6) .skip))
 (.dreg [(false, ⟨(some 117), .mov (.tmp 0), none⟩, false), (false, ⟨(some 118), .mov (.tmp 10), none⟩, false), (false, ⟨(some 119), .mov (.tmp 0), none⟩, false), (false, ⟨(some 120), .mov (.tmp 10), none⟩, false), (false, ⟨(some 121), .bin .sub (.tmp 120) (.val (.int .i64 1)), none⟩, false), (false, ⟨(some 122), .mov (.tmp 0), none⟩, false), (false, ⟨(some 123), .mov (.tmp 10), none⟩, false), (false, ⟨(some 124), .bin .sub (.tmp 123) (.val (.int .i64 1)), none⟩, false), (false, ⟨(some 125), .iaddrL 1 (.tmp 122) (.tmp 124), none⟩, false), (false, ⟨(some 126), .load none (.tmp 125), none⟩, false), (false, ⟨(some 127), .mov (.tmp 0), none⟩, false), (false, ⟨(some 128), .mov (.tmp 10), none⟩, false), (false, ⟨(some 129), .iaddrL 1 (.tmp 127) (.tmp 128), none⟩, false), (false, ⟨(some 130), .load none (.tmp 129), none⟩, false), (false, ⟨(some 131), .iaddrL 1 (.tmp 117) (.tmp 118), none⟩, false), (false, ⟨none, .store 1 (.tmp 131) (.tmp 126), none⟩, false), (false, ⟨(some 132), .iaddrL 1 (.tmp 119) (.tmp 121), none⟩, false), (false, ⟨none, .store 1 (.tmp 132) (.tmp 130), none⟩, false)])))
 (.reg [⟨(some 104), .mov (.tmp 10), none⟩, ⟨(some 105), .bin .add (.tmp 104) (.val (.int .i64 1)), none⟩, ⟨(some 10), .mov (.tmp 105), none⟩])))
def a135_L1 : AC := .loop a135_B1
theorem a135_L1_step (call : Caller) (again : AC → St → Option (Ex × St)) (s : St) : codeEv call again a135_L1 s = match codeEv call again a135_B1 s with | some (.norm, s1) => again a135_L1 s1 | r => r := rfl
def a135_B2 : AC := (.seq (.seq (.reg [⟨(some 64), .mov (.tmp 9), none⟩, ⟨(some 65), .bin .geq (.tmp 64) (.val (.int .i64 1)), none⟩])
 (.cond (.tmp 65) .skip (.exit 4)))
 (.seq (.block 5 (.seq (.seq (.dreg [(false, ⟨(some 68), .mov (.tmp 0), none⟩, false), (false, ⟨(some 69), .mov (.tmp 9), none⟩, false), (false, ⟨(some 70), .iaddrL 1 (.tmp 68) (.tmp 69), none⟩, false), (false, ⟨(some 71), .load none (.tmp 70), none⟩, false), (false, ⟨(some 72), .mov (.tmp 0), none⟩, false), (false, ⟨(some 73), .mov (.tmp 9), none⟩, false), (false, ⟨(some 74), .bin .sub (.tmp 73) (.val (.int .i64 1)), none⟩, false), (false, ⟨(some 75), .iaddrL 1 (.tmp 72) (.tmp 74), none⟩, false), (false, ⟨(some 76), .load none (.tmp 75), none⟩, false), (false, ⟨(some 77), .call 136 [(.tmp 71), (.tmp 76)], none⟩, false), (false, ⟨(some 78), .un .not (.tmp 77), none⟩, false)])
 (.cond (.tmp 78) (.exit 4) .skip))
 (.dreg [(false, ⟨(some 79), .mov (.tmp 0), none⟩, false), (false, ⟨(some 80), .mov (.tmp 9), none⟩, false), (false, ⟨(some 81), .mov (.tmp 0), none⟩, false), (false, ⟨(some 82), .mov (.tmp 9), none⟩, false), (false, ⟨(some 83), .bin .sub (.tmp 82) (.val (.int .i64 1)), none⟩, false), (false, ⟨(some 84), .mov (.tmp 0), none⟩, false), (false, ⟨(some 85), .mov (.tmp 9), none⟩, false), (false, ⟨(some 86), .bin .sub (.tmp 85) (.val (.int .i64 1)), none⟩, false), (false, ⟨(some 87), .iaddrL 1 (.tmp 84) (.tmp 86), none⟩, false), (false, ⟨(some 88), .load none (.tmp 87), none⟩, false), (false, ⟨(some 89), .mov (.tmp 0), none⟩, false), (false, ⟨(some 90), .mov (.tmp 9), none⟩, false), (false, ⟨(some 91), .iaddrL 1 (.tmp 89) (.tmp 90), none⟩, false), (false, ⟨(some 92), .load none (.tmp 91), none⟩, false), (false, ⟨(some 93), .iaddrL 1 (.tmp 79) (.tmp 80), none⟩, false), (false, ⟨none, .store 1 (.tmp 93) (.tmp 88), none⟩, false), (false, ⟨(some 94), .iaddrL 1 (.tmp 81) (.tmp 83), none⟩, false), (false, ⟨none, .store 1 (.tmp 94) (.tmp 92), none⟩, false)])))
 (.reg [⟨(some 66), .mov (.tmp 9), none⟩, ⟨(some 67), .bin .sub (.tmp 66) (.val (.int .i64 1)), none⟩, ⟨(some 9), .mov (.tmp 67), none⟩])))
def a135_L2 : AC := .loop a135_B2
theorem a135_L2_step (call : Caller) (again : AC → St → Option (Ex × St)) (s : St) : codeEv call again a135_L2 s = match codeEv call again a135_B2 s with | some (.norm, s1) => again a135_L2 s1 | r => r := rfl
def a135_B3 : AC := (.seq (.seq (.dreg [(false, ⟨(some 17), .mov (.tmp 7), none⟩, false), (false, ⟨(some 18), .mov (.tmp 2), none⟩, false), (false, ⟨(some 19), .bin .lss (.tmp 17) (.tmp 18), none⟩, false), (false, ⟨(some 20), .mov (.tmp 19), none⟩, false), (false, ⟨(some 21), .mov (.tmp 0), (some (20, true))⟩, false), (false, ⟨(some 22), .mov (.tmp 7), (some (20, true))⟩, false), (false, ⟨(some 23), .iaddrL 1 (.tmp 21) (.tmp 22), (some (20, true))⟩, false), (false, ⟨(some 24), .load none (.tmp 23), (some (20, true))⟩, false), (false, ⟨(some 25), .mov (.tmp 0), (some (20, true))⟩, false), (false, ⟨(some 26), .mov (.tmp 7), (some (20, true))⟩, false), (false, ⟨(some 27), .bin .sub (.tmp 26) (.val (.int .i64 1)), (some (20, true))⟩, false), (false, ⟨(some 28), .iaddrL 1 (.tmp 25) (.tmp 27), (some (20, true))⟩, false), (false, ⟨(some 29), .load none (.tmp 28), (some (20, true))⟩, false), (false, ⟨(some 30), .call 136 [(.tmp 24), (.tmp 29)], (some (20, true))⟩, false), (false, ⟨(some 31), .un .not (.tmp 30), (some (20, true))⟩, false), (false, ⟨(some 32), .pick (.tmp 20) (.tmp 31) (.val (.bool false)), none⟩, false)])
 (.cond (.tmp 32) .skip (.exit 2)))
 (.block 3 (.reg [⟨(some 33), .mov (.tmp 7), none⟩, ⟨(some 34), .bin .add (.tmp 33) (.val (.int .i64 1)), none⟩, ⟨(some 7), .mov (.tmp 34), none⟩])))
def a135_L3 : AC := .loop a135_B3
theorem a135_L3_step (call : Caller) (again : AC → St → Option (Ex × St)) (s : St) : codeEv call again a135_L3 s = match codeEv call again a135_B3 s with | some (.norm, s1) => again a135_L3 s1 | r => r := rfl
def a135_B4 : AC := (.seq (.seq (.reg [⟨(some 13), .mov (.tmp 8), none⟩, ⟨(some 14), .bin .lss (.tmp 13) (.val (.int .i64 5)), none⟩])
 (.cond (.tmp 14) .skip (.exit 0)))
 (.seq (.block 1 (.seq (.block 2 a135_L3)
 (.seq (.seq (.reg [⟨(some 35), .mov (.tmp 7), none⟩, ⟨(some 36), .mov (.tmp 2), none⟩, ⟨(some 37), .bin .eql (.tmp 35) (.tmp 36), none⟩])
 (.cond (.tmp 37) (.seq (.reg [⟨(some 6), .mov (.val (.bool true)), none⟩])
 .ret) .skip))
 (.seq (.seq (.reg [⟨(some 38), .mov (.tmp 2), none⟩, ⟨(some 39), .mov (.tmp 1), none⟩, ⟨(some 40), .bin .sub (.tmp 38) (.tmp 39), none⟩, ⟨(some 41), .bin .lss (.tmp 40) (.val (.int .i64 50)), none⟩])
 (.cond (.tmp 41) (.seq (.reg [⟨(some 6), .mov (.val (.bool false)), none⟩])
 .ret) .skip))
 (.seq (.dreg [(false, ⟨(some 42), .mov (.tmp 0), none⟩, false), (false, ⟨(some 43), .mov (.tmp 7), none⟩, false), (false, ⟨(some 44), .mov (.tmp 0), none⟩, false), (false, ⟨(some 45), .mov (.tmp 7), none⟩, false), (false, ⟨(some 46), .bin .sub (.tmp 45) (.val (.int .i64 1)), none⟩, false), (false, ⟨(some 47), .mov (.tmp 0), none⟩, false), (false, ⟨(some 48), .mov (.tmp 7), none⟩, false), (false, ⟨(some 49), .bin .sub (.tmp 48) (.val (.int .i64 1)), none⟩, false), (false, ⟨(some 50), .iaddrL 1 (.tmp 47) (.tmp 49), none⟩, false), (false, ⟨(some 51), .load none (.tmp 50), none⟩, false), (false, ⟨(some 52), .mov (.tmp 0), none⟩, false), (false, ⟨(some 53), .mov (.tmp 7), none⟩, false), (false, ⟨(some 54), .iaddrL 1 (.tmp 52) (.tmp 53), none⟩, false), (false, ⟨(some 55), .load none (.tmp 54), none⟩, false), (false, ⟨(some 56), .iaddrL 1 (.tmp 42) (.tmp 43), none⟩, false), (false, ⟨none, .store 1 (.tmp 56) (.tmp 51), none⟩, false), (false, ⟨(some 57), .iaddrL 1 (.tmp 44) (.tmp 46), none⟩, false), (false, ⟨none, .store 1 (.tmp 57) (.tmp 55), none⟩, false)])
 (.seq (.seq (.reg [⟨(some 58), .mov (.tmp 7), none⟩, ⟨(some 59), .mov (.tmp 1), none⟩, ⟨(some 60), .bin .sub (.tmp 58) (.tmp 59), none⟩, ⟨(some 61), .bin .geq (.tmp 60) (.val (.int .i64 2)), none⟩])
 (.cond (.tmp 61) (.seq (.reg [⟨(some 62), .mov (.tmp 7), none⟩, ⟨(some 63), .bin .sub (.tmp 62) (.val (.int .i64 1)), none⟩, ⟨(some 9), .mov (.tmp 63), none⟩])
 (.block 4 a135_L2)) .skip))
 (.seq (.reg [⟨(some 95), .mov (.tmp 2), none⟩, ⟨(some 96), .mov (.tmp 7), none⟩, ⟨(some 97), .bin .sub (.tmp 95) (.tmp 96), none⟩, ⟨(some 98), .bin .geq (.tmp 97) (.val (.int .i64 2)), none⟩])
 (.cond (.tmp 98) (.seq (.reg [⟨(some 99), .mov (.tmp 7), none⟩, ⟨(some 100), .bin .add (.tmp 99) (.val (.int .i64 1)), none⟩, ⟨(some 10), .mov (.tmp 100), none⟩])
 (.block 6 a135_L1)) .skip))))))))
 (.reg [⟨(some 15), .mov (.tmp 8), none⟩, ⟨(some 16), .bin .add (.tmp 15) (.val (.int .i64 1)), none⟩, ⟨(some 8), .mov (.tmp 16), none⟩])))
def a135_L4 : AC := .loop a135_B4
theorem a135_L4_step (call : Caller) (again : AC → St → Option (Ex × St)) (s : St) : codeEv call again a135_L4 s = match codeEv call again a135_B4 s with | some (.norm, s1) => again a135_L4 s1 | r => r := rfl
def a135 : AFn := { n := 133, np := 3, res := [.tmp 6], body :=
 (.seq (.reg [⟨(some 6), .mov (.val (.bool false)), none⟩])
 (.seq (.reg [⟨(some 11), .mov (.tmp 1), none⟩, ⟨(some 12), .bin .add (.tmp 11) (.val (.int .i64 1)), none⟩, ⟨(some 7), .mov (.tmp 12), none⟩])
 (.seq (.seq (.reg [⟨(some 8), .mov (.val (.int .i64 0)), none⟩])
 (.block 0 a135_L4))
 (.seq (.reg [⟨(some 6), .mov (.val (.bool false)), none⟩])
 .ret)))) }
def h136 : Hints := ⟨[], [], []⟩
def a136 : AFn := { n := 17, np := 2, res := [.tmp 4], body :=
 (.seq (.reg [⟨(some 4), .mov (.val (.bool false)), none⟩])
 (.seq (.reg [⟨(some 5), .mov (.tmp 0), none⟩, ⟨(some 6), .call 149 [(.tmp 5)], none⟩, ⟨(some 7), .mov (.tmp 6), none⟩, ⟨(some 8), .mov (.tmp 1), (some (7, true))⟩, ⟨(some 9), .call 149 [(.tmp 8)], (some (7, true))⟩, ⟨(some 10), .un .not (.tmp 9), (some (7, true))⟩, ⟨(some 11), .pick (.tmp 7) (.tmp 10) (.val (.bool false)), none⟩, ⟨(some 12), .mov (.tmp 11), none⟩, ⟨(some 13), .mov (.tmp 0), (some (12, false))⟩, ⟨(some 14), .mov (.tmp 1), (some (12, false))⟩, ⟨(some 15), .bin .lss (.tmp 13) (.tmp 14), (some (12, false))⟩, ⟨(some 16), .pick (.tmp 12) (.val (.bool true)) (.tmp 15), none⟩, ⟨(some 4), .mov (.tmp 16), none⟩])
 .ret)) }
def h137 : Hints := ⟨[], [], []⟩
def a137_B1 : AC := (.seq (.seq (.dreg [(false, ⟨(some 46), .mov (.tmp 9), none⟩, false), (false, ⟨(some 47), .mov (.tmp 10), none⟩, false), (false, ⟨(some 48), .bin .leq (.tmp 46) (.tmp 47), none⟩, false), (false, ⟨(some 49), .mov (.tmp 48), none⟩, false), (false, ⟨(some 50), .mov (.tmp 0), (some (49, true))⟩, false), (false, ⟨(some 51), .mov (.tmp 1), (some (49, true))⟩, false), (false, ⟨(some 52), .iaddrL 1 (.tmp 50) (.tmp 51), (some (49, true))⟩, false), (false, ⟨(some 53), .load none (.tmp 52), (some (49, true))⟩, false), (false, ⟨(some 54), .mov (.tmp 0), (some (49, true))⟩, false), (false, ⟨(some 55), .mov (.tmp 10), (some (49, true))⟩, false), (false, ⟨(some 56), .iaddrL 1 (.tmp 54) (.tmp 55), (some (49, true))⟩, false), (false, ⟨(some 57), .load none (.tmp 56), (some (49, true))⟩, false), (false, ⟨(some 58), .call 136 [(.tmp 53), (.tmp 57)], (some (49, true))⟩, false), (false, ⟨(some 59), .pick (.tmp 49) (.tmp 58) (.val (.bool false)), none⟩, false)])
 (.cond (.tmp 59) .skip (.exit 4)))
 (.block 5 (.reg [⟨(some 60), .mov (.tmp 10), none⟩, ⟨(some 61), .bin .sub (.tmp 60) (.val (.int .i64 1)), none⟩, ⟨(some 10), .mov (.tmp 61), none⟩])))
def a137_L1 : AC := .loop a137_B1
theorem a137_L1_step (call : Caller) (again : AC → St → Option (Ex × St)) (s : St) : codeEv call again a137_L1 s = match codeEv call again a137_B1 s with | some (.norm, s1) => again a137_L1 s1 | r => r := rfl
def a137_B2 : AC := (.seq (.seq (.dreg [(false, ⟨(some 29), .mov (.tmp 9), none⟩, false), (false, ⟨(some 30), .mov (.tmp 10), none⟩, false), (false, ⟨(some 31), .bin .leq (.tmp 29) (.tmp 30), none⟩, false), (false, ⟨(some 32), .mov (.tmp 31), none⟩, false), (false, ⟨(some 33), .mov (.tmp 0), (some (32, true))⟩, false), (false, ⟨(some 34), .mov (.tmp 1), (some (32, true))⟩, false), (false, ⟨(some 35), .iaddrL 1 (.tmp 33) (.tmp 34), (some (32, true))⟩, false), (false, ⟨(some 36), .load none (.tmp 35), (some (32, true))⟩, false), (false, ⟨(some 37), .mov (.tmp 0), (some (32, true))⟩, false), (false, ⟨(some 38), .mov (.tmp 9), (some (32, true))⟩, false), (false, ⟨(some 39), .iaddrL 1 (.tmp 37) (.tmp 38), (some (32, true))⟩, false), (false, ⟨(some 40), .load none (.tmp 39), (some (32, true))⟩, false), (false, ⟨(some 41), .call 136 [(.tmp 36), (.tmp 40)], (some (32, true))⟩, false), (false, ⟨(some 42), .un .not (.tmp 41), (some (32, true))⟩, false), (false, ⟨(some 43), .pick (.tmp 32) (.tmp 42) (.val (.bool false)), none⟩, false)])
 (.cond (.tmp 43) .skip (.exit 2)))
 (.block 3 (.reg [⟨(some 44), .mov (.tmp 9), none⟩, ⟨(some 45), .bin .add (.tmp 44) (.val (.int .i64 1)), none⟩, ⟨(some 9), .mov (.tmp 45), none⟩])))
def a137_L2 : AC := .loop a137_B2
theorem a137_L2_step (call : Caller) (again : AC → St → Option (Ex × St)) (s : St) : codeEv call again a137_L2 s = match codeEv call again a137_B2 s with | some (.norm, s1) => again a137_L2 s1 | r => r := rfl
def a137_B3 : AC := (.block 1 (.seq (.block 2 a137_L2)
 (.seq (.block 4 a137_L1)
 (.seq (.seq (.reg [⟨(some 62), .mov (.tmp 9), none⟩, ⟨(some 63), .mov (.tmp 10), none⟩, ⟨(some 64), .bin .gtr (.tmp 62) (.tmp 63), none⟩])
 (.cond (.tmp 64) (.exit 0) .skip))
 (.seq (.dreg [(false, ⟨(some 65), .mov (.tmp 0), none⟩, false), (false, ⟨(some 66), .mov (.tmp 9), none⟩, false), (false, ⟨(some 67), .mov (.tmp 0), none⟩, false), (false, ⟨(some 68), .mov (.tmp 10), none⟩, false), (false, ⟨(some 69), .mov (.tmp 0), none⟩, false), (false, ⟨(some 70), .mov (.tmp 10), none⟩, false), (false, ⟨(some 71), .iaddrL 1 (.tmp 69) (.tmp 70), none⟩, false), (false, ⟨(some 72), .load none (.tmp 71), none⟩, false), (false, ⟨(some 73), .mov (.tmp 0), none⟩, false), (false, ⟨(some 74), .mov (.tmp 9), none⟩, false), (false, ⟨(some 75), .iaddrL 1 (.tmp 73) (.tmp 74), none⟩, false), (false, ⟨(some 76), .load none (.tmp 75), none⟩, false), (false, ⟨(some 77), .iaddrL 1 (.tmp 65) (.tmp 66), none⟩, false), (false, ⟨none, .store 1 (.tmp 77) (.tmp 72), none⟩, false), (false, ⟨(some 78), .iaddrL 1 (.tmp 67) (.tmp 68), none⟩, false), (false, ⟨none, .store 1 (.tmp 78) (.tmp 76), none⟩, false)])
 (.seq (.reg [⟨(some 79), .mov (.tmp 9), none⟩, ⟨(some 80), .bin .add (.tmp 79) (.val (.int .i64 1)), none⟩, ⟨(some 9), .mov (.tmp 80), none⟩])
 (.reg [⟨(some 81), .mov (.tmp 10), none⟩, ⟨(some 82), .bin .sub (.tmp 81) (.val (.int .i64 1)), none⟩, ⟨(some 10), .mov (.tmp 82), none⟩])))))))
def a137_L3 : AC := .loop a137_B3
theorem a137_L3_step (call : Caller) (again : AC → St → Option (Ex × St)) (s : St) : codeEv call again a137_L3 s = match codeEv call again a137_B3 s with | some (.norm, s1) => again a137_L3 s1 | r => r := rfl
def a137 : AFn := { n := 84, np := 4, res := [.tmp 8], body :=
 (.seq (.reg [⟨(some 8), .mov (.val (.int .i64 0)), none⟩])
 (.seq (.dreg [(false, ⟨(some 11), .mov (.tmp 0), none⟩, false), (false, ⟨(some 12), .mov (.tmp 1), none⟩, false), (false, ⟨(some 13), .mov (.tmp 0), none⟩, false), (false, ⟨(some 14), .mov (.tmp 3), none⟩, false), (false, ⟨(some 15), .mov (.tmp 0), none⟩, false), (false, ⟨(some 16), .mov (.tmp 3), none⟩, false), (false, ⟨(some 17), .iaddrL 1 (.tmp 15) (.tmp 16), none⟩, false), (false, ⟨(some 18), .load none (.tmp 17), none⟩, false), (false, ⟨(some 19), .mov (.tmp 0), none⟩, false), (false, ⟨(some 20), .mov (.tmp 1), none⟩, false), (false, ⟨(some 21), .iaddrL 1 (.tmp 19) (.tmp 20), none⟩, false), (false, ⟨(some 22), .load none (.tmp 21), none⟩, false), (false, ⟨(some 23), .iaddrL 1 (.tmp 11) (.tmp 12), none⟩, false), (false, ⟨none, .store 1 (.tmp 23) (.tmp 18), none⟩, false), (false, ⟨(some 24), .iaddrL 1 (.tmp 13) (.tmp 14), none⟩, false), (false, ⟨none, .store 1 (.tmp 24) (.tmp 22), none⟩, false)])
 (.seq (.reg [⟨(some 25), .mov (.tmp 1), none⟩, ⟨(some 26), .bin .add (.tmp 25) (.val (.int .i64 1)), none⟩, ⟨(some 27), .mov (.tmp 2), none⟩, ⟨(some 28), .bin .sub (.tmp 27) (.val (.int .i64 1)), none⟩, ⟨(some 9), .mov (.tmp 26), none⟩, ⟨(some 10), .mov (.tmp 28), none⟩])
 (.seq (.block 0 a137_L3)
 (.seq (.reg [⟨(some 83), .mov (.tmp 9), none⟩, ⟨(some 8), .mov (.tmp 83), none⟩])
 .ret))))) }
def h138 : Hints := ⟨[], [], []⟩
def a138_B1 : AC := (.seq (.seq (.dreg [(false, ⟨(some 115), .mov (.tmp 10), none⟩, false), (false, ⟨(some 116), .mov (.tmp 11), none⟩, false), (false, ⟨(some 117), .bin .leq (.tmp 115) (.tmp 116), none⟩, false), (false, ⟨(some 118), .mov (.tmp 117), none⟩, false), (false, ⟨(some 119), .mov (.tmp 0), (some (118, true))⟩, false), (false, ⟨(some 120), .mov (.tmp 11), (some (118, true))⟩, false), (false, ⟨(some 121), .iaddrL 1 (.tmp 119) (.tmp 120), (some (118, true))⟩, false), (false, ⟨(some 122), .load none (.tmp 121), (some (118, true))⟩, false), (false, ⟨(some 123), .mov (.tmp 0), (some (118, true))⟩, false), (false, ⟨(some 124), .mov (.tmp 1), (some (118, true))⟩, false), (false, ⟨(some 125), .iaddrL 1 (.tmp 123) (.tmp 124), (some (118, true))⟩, false), (false, ⟨(some 126), .load none (.tmp 125), (some (118, true))⟩, false), (false, ⟨(some 127), .call 136 [(.tmp 122), (.tmp 126)], (some (118, true))⟩, false), (false, ⟨(some 128), .un .not (.tmp 127), (some (118, true))⟩, false), (false, ⟨(some 129), .pick (.tmp 118) (.tmp 128) (.val (.bool false)), none⟩, false)])
 (.cond (.tmp 129) .skip (.exit 8)))
 (.block 9 (.reg [⟨(some 130), .mov (.tmp 11), none⟩, ⟨(some 131), .bin .sub (.tmp 130) (.val (.int .i64 1)), none⟩, ⟨(some 11), .mov (.tmp 131), none⟩])))
def a138_L1 : AC := .loop a138_B1
theorem a138_L1_step (call : Caller) (again : AC → St → Option (Ex × St)) (s : St) : codeEv call again a138_L1 s = match codeEv call again a138_B1 s with | some (.norm, s1) => again a138_L1 s1 | r => r := rfl
def a138_B2 : AC := (.seq (.seq (.dreg [(false, ⟨(some 99), .mov (.tmp 10), none⟩, false), (false, ⟨(some 100), .mov (.tmp 11), none⟩, false), (false, ⟨(some 101), .bin .leq (.tmp 99) (.tmp 100), none⟩, false), (false, ⟨(some 102), .mov (.tmp 101), none⟩, false), (false, ⟨(some 103), .mov (.tmp 0), (some (102, true))⟩, false), (false, ⟨(some 104), .mov (.tmp 10), (some (102, true))⟩, false), (false, ⟨(some 105), .iaddrL 1 (.tmp 103) (.tmp 104), (some (102, true))⟩, false), (false, ⟨(some 106), .load none (.tmp 105), (some (102, true))⟩, false), (false, ⟨(some 107), .mov (.tmp 0), (some (102, true))⟩, false), (false, ⟨(some 108), .mov (.tmp 1), (some (102, true))⟩, false), (false, ⟨(some 109), .iaddrL 1 (.tmp 107) (.tmp 108), (some (102, true))⟩, false), (false, ⟨(some 110), .load none (.tmp 109), (some (102, true))⟩, false), (false, ⟨(some 111), .call 136 [(.tmp 106), (.tmp 110)], (some (102, true))⟩, false), (false, ⟨(some 112), .pick (.tmp 102) (.tmp 111) (.val (.bool false)), none⟩, false)])
 (.cond (.tmp 112) .skip (.exit 6)))
 (.block 7 (.reg [⟨(some 113), .mov (.tmp 10), none⟩, ⟨(some 114), .bin .add (.tmp 113) (.val (.int .i64 1)), none⟩, ⟨(some 10), .mov (.tmp 114), none⟩])))
def a138_L2 : AC := .loop a138_B2
theorem a138_L2_step (call : Caller) (again : AC → St → Option (Ex × St)) (s : St) : codeEv call again a138_L2 s = match codeEv call again a138_B2 s with | some (.norm, s1) => again a138_L2 s1 | r => r := rfl
def a138_B3 : AC := (.block 5 (.seq (.block 6 a138_L2)
 (.seq (.block 8 a138_L1)
 (.seq (.seq (.reg [⟨(some 132), .mov (.tmp 10), none⟩, ⟨(some 133), .mov (.tmp 11), none⟩, ⟨(some 134), .bin .gtr (.tmp 132) (.tmp 133), none⟩])
 (.cond (.tmp 134) (.exit 4) .skip))
 (.seq (.dreg [(false, ⟨(some 135), .mov (.tmp 0), none⟩, false), (false, ⟨(some 136), .mov (.tmp 10), none⟩, false), (false, ⟨(some 137), .mov (.tmp 0), none⟩, false), (false, ⟨(some 138), .mov (.tmp 11), none⟩, false), (false, ⟨(some 139), .mov (.tmp 0), none⟩, false), (false, ⟨(some 140), .mov (.tmp 11), none⟩, false), (false, ⟨(some 141), .iaddrL 1 (.tmp 139) (.tmp 140), none⟩, false), (false, ⟨(some 142), .load none (.tmp 141), none⟩, false), (false, ⟨(some 143), .mov (.tmp 0), none⟩, false), (false, ⟨(some 144), .mov (.tmp 10), none⟩, false), (false, ⟨(some 145), .iaddrL 1 (.tmp 143) (.tmp 144), none⟩, false), (false, ⟨(some 146), .load none (.tmp 145), none⟩, false), (false, ⟨(some 147), .iaddrL 1 (.tmp 135) (.tmp 136), none⟩, false), (false, ⟨none, .store 1 (.tmp 147) (.tmp 142), none⟩, false), (false, ⟨(some 148), .iaddrL 1 (.tmp 137) (.tmp 138), none⟩, false), (false, ⟨none, .store 1 (.tmp 148) (.tmp 146), none⟩, false)])
 (.seq (.reg [⟨(some 149), .mov (.tmp 10), none⟩, ⟨(some 150), .bin .add (.tmp 149) (.val (.int .i64 1)), none⟩, ⟨(some 10), .mov (.tmp 150), none⟩])
 (.reg [⟨(some 151), .mov (.tmp 11), none⟩, ⟨(some 152), .bin .sub (.tmp 151) (.val (.int .i64 1)), none⟩, ⟨(some 11), .mov (.tmp 152), none⟩])))))))
def a138_L3 : AC := .loop a138_B3
theorem a138_L3_step (call : Caller) (again : AC → St → Option (Ex × St)) (s : St) : codeEv call again a138_L3 s = match codeEv call again a138_B3 s with | some (.norm, s1) => again a138_L3 s1 | r => r := rfl
def a138_B4 : AC := (.seq (.seq (.dreg [(false, ⟨(some 46), .mov (.tmp 10), none⟩, false), (false, ⟨(some 47), .mov (.tmp 11), none⟩, false), (false, ⟨(some 48), .bin .leq (.tmp 46) (.tmp 47), none⟩, false), (false, ⟨(some 49), .mov (.tmp 48), none⟩, false), (false, ⟨(some 50), .mov (.tmp 0), (some (49, true))⟩, false), (false, ⟨(some 51), .mov (.tmp 11), (some (49, true))⟩, false), (false, ⟨(some 52), .iaddrL 1 (.tmp 50) (.tmp 51), (some (49, true))⟩, false), (false, ⟨(some 53), .load none (.tmp 52), (some (49, true))⟩, false), (false, ⟨(some 54), .mov (.tmp 0), (some (49, true))⟩, false), (false, ⟨(some 55), .mov (.tmp 1), (some (49, true))⟩, false), (false, ⟨(some 56), .iaddrL 1 (.tmp 54) (.tmp 55), (some (49, true))⟩, false), (false, ⟨(some 57), .load none (.tmp 56), (some (49, true))⟩, false), (false, ⟨(some 58), .call 136 [(.tmp 53), (.tmp 57)], (some (49, true))⟩, false), (false, ⟨(some 59), .un .not (.tmp 58), (some (49, true))⟩, false), (false, ⟨(some 60), .pick (.tmp 49) (.tmp 59) (.val (.bool false)), none⟩, false)])
 (.cond (.tmp 60) .skip (.exit 2)))
 (.block 3 (.reg [⟨(some 61), .mov (.tmp 11), none⟩, ⟨(some 62), .bin .sub (.tmp 61) (.val (.int .i64 1)), none⟩, ⟨(some 11), .mov (.tmp 62), none⟩])))
def a138_L4 : AC := .loop a138_B4
theorem a138_L4_step (call : Caller) (again : AC → St → Option (Ex × St)) (s : St) : codeEv call again a138_L4 s = match codeEv call again a138_B4 s with | some (.norm, s1) => again a138_L4 s1 | r => r := rfl
def a138_B5 : AC := (.seq (.seq (.dreg [(false, ⟨(some 30), .mov (.tmp 10), none⟩, false), (false, ⟨(some 31), .mov (.tmp 11), none⟩, false), (false, ⟨(some 32), .bin .leq (.tmp 30) (.tmp 31), none⟩, false), (false, ⟨(some 33), .mov (.tmp 32), none⟩, false), (false, ⟨(some 34), .mov (.tmp 0), (some (33, true))⟩, false), (false, ⟨(some 35), .mov (.tmp 10), (some (33, true))⟩, false), (false, ⟨(some 36), .iaddrL 1 (.tmp 34) (.tmp 35), (some (33, true))⟩, false), (false, ⟨(some 37), .load none (.tmp 36), (some (33, true))⟩, false), (false, ⟨(some 38), .mov (.tmp 0), (some (33, true))⟩, false), (false, ⟨(some 39), .mov (.tmp 1), (some (33, true))⟩, false), (false, ⟨(some 40), .iaddrL 1 (.tmp 38) (.tmp 39), (some (33, true))⟩, false), (false, ⟨(some 41), .load none (.tmp 40), (some (33, true))⟩, false), (false, ⟨(some 42), .call 136 [(.tmp 37), (.tmp 41)], (some (33, true))⟩, false), (false, ⟨(some 43), .pick (.tmp 33) (.tmp 42) (.val (.bool false)), none⟩, false)])
 (.cond (.tmp 43) .skip (.exit 0)))
 (.block 1 (.reg [⟨(some 44), .mov (.tmp 10), none⟩, ⟨(some 45), .bin .add (.tmp 44) (.val (.int .i64 1)), none⟩, ⟨(some 10), .mov (.tmp 45), none⟩])))
def a138_L5 : AC := .loop a138_B5
theorem a138_L5_step (call : Caller) (again : AC → St → Option (Ex × St)) (s : St) : codeEv call again a138_L5 s = match codeEv call again a138_B5 s with | some (.norm, s1) => again a138_L5 s1 | r => r := rfl
def a138 : AFn := { n := 168, np := 4, res := [.tmp 8, .tmp 9], body :=
 (.seq (.reg [⟨(some 8), .mov (.val (.int .i64 0)), none⟩, ⟨(some 9), .mov (.val (.bool false)), none⟩])
 (.seq (.dreg [(false, ⟨(some 12), .mov (.tmp 0), none⟩, false), (false, ⟨(some 13), .mov (.tmp 1), none⟩, false), (false, ⟨(some 14), .mov (.tmp 0), none⟩, false), (false, ⟨(some 15), .mov (.tmp 3), none⟩, false), (false, ⟨(some 16), .mov (.tmp 0), none⟩, false), (false, ⟨(some 17), .mov (.tmp 3), none⟩, false), (false, ⟨(some 18), .iaddrL 1 (.tmp 16) (.tmp 17), none⟩, false), (false, ⟨(some 19), .load none (.tmp 18), none⟩, false), (false, ⟨(some 20), .mov (.tmp 0), none⟩, false), (false, ⟨(some 21), .mov (.tmp 1), none⟩, false), (false, ⟨(some 22), .iaddrL 1 (.tmp 20) (.tmp 21), none⟩, false), (false, ⟨(some 23), .load none (.tmp 22), none⟩, false), (false, ⟨(some 24), .iaddrL 1 (.tmp 12) (.tmp 13), none⟩, false), (false, ⟨none, .store 1 (.tmp 24) (.tmp 19), none⟩, false), (false, ⟨(some 25), .iaddrL 1 (.tmp 14) (.tmp 15), none⟩, false), (false, ⟨none, .store 1 (.tmp 25) (.tmp 23), none⟩, false)])
 (.seq (.reg [⟨(some 26), .mov (.tmp 1), none⟩, ⟨(some 27), .bin .add (.tmp 26) (.val (.int .i64 1)), none⟩, ⟨(some 28), .mov (.tmp 2), none⟩, ⟨(some 29), .bin .sub (.tmp 28) (.val (.int .i64 1)), none⟩, ⟨(some 10), .mov (.tmp 27), none⟩, ⟨(some 11), .mov (.tmp 29), none⟩])
 (.seq (.block 0 a138_L5)
 (.seq (.block 2 a138_L4)
 (.seq (.seq (.reg [⟨(some 63), .mov (.tmp 10), none⟩, ⟨(some 64), .mov (.tmp 11), none⟩, ⟨(some 65), .bin .gtr (.tmp 63) (.tmp 64), none⟩])
 (.cond (.tmp 65) (.seq (.dreg [(false, ⟨(some 66), .mov (.tmp 0), none⟩, false), (false, ⟨(some 67), .mov (.tmp 11), none⟩, false), (false, ⟨(some 68), .mov (.tmp 0), none⟩, false), (false, ⟨(some 69), .mov (.tmp 1), none⟩, false), (false, ⟨(some 70), .mov (.tmp 0), none⟩, false), (false, ⟨(some 71), .mov (.tmp 1), none⟩, false), (false, ⟨(some 72), .iaddrL 1 (.tmp 70) (.tmp 71), none⟩, false), (false, ⟨(some 73), .load none (.tmp 72), none⟩, false), (false, ⟨(some 74), .mov (.tmp 0), none⟩, false), (false, ⟨(some 75), .mov (.tmp 11), none⟩, false), (false, ⟨(some 76), .iaddrL 1 (.tmp 74) (.tmp 75), none⟩, false), (false, ⟨(some 77), .load none (.tmp 76), none⟩, false), (false, ⟨(some 78), .iaddrL 1 (.tmp 66) (.tmp 67), none⟩, false), (false, ⟨none, .store 1 (.tmp 78) (.tmp 73), none⟩, false), (false, ⟨(some 79), .iaddrL 1 (.tmp 68) (.tmp 69), none⟩, false), (false, ⟨none, .store 1 (.tmp 79) (.tmp 77), none⟩, false)])
 (.seq (.reg [⟨(some 80), .mov (.tmp 11), none⟩, ⟨(some 8), .mov (.tmp 80), none⟩, ⟨(some 9), .mov (.val (.bool true)), none⟩])
 .ret)) .skip))
 (.seq (.dreg [(false, ⟨(some 81), .mov (.tmp 0), none⟩, false), (false, ⟨(some 82), .mov (.tmp 10), none⟩, false), (false, ⟨(some 83), .mov (.tmp 0), none⟩, false), (false, ⟨(some 84), .mov (.tmp 11), none⟩, false), (false, ⟨(some 85), .mov (.tmp 0), none⟩, false), (false, ⟨(some 86), .mov (.tmp 11), none⟩, false), (false, ⟨(some 87), .iaddrL 1 (.tmp 85) (.tmp 86), none⟩, false), (false, ⟨(some 88), .load none (.tmp 87), none⟩, false), (false, ⟨(some 89), .mov (.tmp 0), none⟩, false), (false, ⟨(some 90), .mov (.tmp 10), none⟩, false), (false, ⟨(some 91), .iaddrL 1 (.tmp 89) (.tmp 90), none⟩, false), (false, ⟨(some 92), .load none (.tmp 91), none⟩, false), (false, ⟨(some 93), .iaddrL 1 (.tmp 81) (.tmp 82), none⟩, false), (false, ⟨none, .store 1 (.tmp 93) (.tmp 88), none⟩, false), (false, ⟨(some 94), .iaddrL 1 (.tmp 83) (.tmp 84), none⟩, false), (false, ⟨none, .store 1 (.tmp 94) (.tmp 92), none⟩, false)])
 (.seq (.reg [⟨(some 95), .mov (.tmp 10), none⟩, ⟨(some 96), .bin .add (.tmp 95) (.val (.int .i64 1)), none⟩, ⟨(some 10), .mov (.tmp 96), none⟩])
 (.seq (.reg [⟨(some 97), .mov (.tmp 11), none⟩, ⟨(some 98), .bin .sub (.tmp 97) (.val (.int .i64 1)), none⟩, ⟨(some 11), .mov (.tmp 98), none⟩])
 (.seq (.block 4 a138_L3)
 (.seq (.dreg [(false, ⟨(some 153), .mov (.tmp 0), none⟩, false), (false, ⟨(some 154), .mov (.tmp 11), none⟩, false), (false, ⟨(some 155), .mov (.tmp 0), none⟩, false), (false, ⟨(some 156), .mov (.tmp 1), none⟩, false), (false, ⟨(some 157), .mov (.tmp 0), none⟩, false), (false, ⟨(some 158), .mov (.tmp 1), none⟩, false), (false, ⟨(some 159), .iaddrL 1 (.tmp 157) (.tmp 158), none⟩, false), (false, ⟨(some 160), .load none (.tmp 159), none⟩, false), (false, ⟨(some 161), .mov (.tmp 0), none⟩, false), (false, ⟨(some 162), .mov (.tmp 11), none⟩, false), (false, ⟨(some 163), .iaddrL 1 (.tmp 161) (.tmp 162), none⟩, false), (false, ⟨(some 164), .load none (.tmp 163), none⟩, false), (false, ⟨(some 165), .iaddrL 1 (.tmp 153) (.tmp 154), none⟩, false), (false, ⟨none, .store 1 (.tmp 165) (.tmp 160), none⟩, false), (false, ⟨(some 166), .iaddrL 1 (.tmp 155) (.tmp 156), none⟩, false), (false, ⟨none, .store 1 (.tmp 166) (.tmp 164), none⟩, false)])
 (.seq (.reg [⟨(some 167), .mov (.tmp 11), none⟩, ⟨(some 8), .mov (.tmp 167), none⟩, ⟨(some 9), .mov (.val (.bool false)), none⟩])
 .ret)))))))))))) }
def h139 : Hints := ⟨[], [], []⟩
def a139 : AFn := { n := 19, np := 1, res := [.tmp 2], body :=
 (.seq (.reg [⟨(some 2), .mov (.val (.int .i64 0)), none⟩])
 (.seq (.seq (.reg [⟨(some 3), .mov (.tmp 0), none⟩, ⟨(some 4), .bin .geq (.tmp 3) (.val (.int .u32 65536)), none⟩])
 (.cond (.tmp 4) (.seq (.reg [⟨(some 5), .mov (.tmp 0), none⟩, ⟨(some 6), .bin .shr (.tmp 5) (.val (.int .u64 16)), none⟩, ⟨(some 0), .mov (.tmp 6), none⟩])
 (.reg [⟨(some 2), .mov (.val (.int .i64 16)), none⟩])) .skip))
 (.seq (.seq (.reg [⟨(some 7), .mov (.tmp 0), none⟩, ⟨(some 8), .bin .geq (.tmp 7) (.val (.int .u32 256)), none⟩])
 (.cond (.tmp 8) (.seq (.reg [⟨(some 9), .mov (.tmp 0), none⟩, ⟨(some 10), .bin .shr (.tmp 9) (.val (.int .u64 8)), none⟩, ⟨(some 0), .mov (.tmp 10), none⟩])
 (.reg [⟨(some 11), .mov (.tmp 2), none⟩, ⟨(some 12), .bin .add (.tmp 11) (.val (.int .i64 8)), none⟩, ⟨(some 2), .mov (.tmp 12), none⟩])) .skip))
 (.seq (.reg [⟨(some 13), .mov (.tmp 2), none⟩, ⟨(some 14), .mov (.tmp 0), none⟩, ⟨(some 15), .conv .u8 (.tmp 14), none⟩, ⟨(some 16), .idxS (.val (.str ⟨#[0, 1, 2, 2, 3, 3, 3, 3, 4, 4, 4, 4, 4, 4, 4, 4, 5, 5, 5, 5, 5, 5, 5, 5, 5, 5, 5, 5, 5, 5, 5, 5, 6, 6, 6, 6, 6, 6, 6, 6, 6, 6, 6, 6, 6, 6, 6, 6, 6, 6, 6, 6, 6, 6, 6, 6, 6, 6, 6, 6, 6, 6, 6, 6, 7, 7, 7, 7, 7, 7, 7, 7, 7, 7, 7, 7, 7, 7, 7, 7, 7, 7, 7, 7, 7, 7, 7, 7, 7, 7, 7, 7, 7, 7, 7, 7, 7, 7, 7, 7, 7, 7, 7, 7, 7, 7, 7, 7, 7, 7, 7, 7, 7, 7, 7, 7, 7, 7, 7, 7, 7, 7, 7, 7, 7, 7, 7, 7, 8, 8, 8, 8, 8, 8, 8, 8, 8, 8, 8, 8, 8, 8, 8, 8, 8, 8, 8, 8, 8, 8, 8, 8, 8, 8, 8, 8, 8, 8, 8, 8, 8, 8, 8, 8, 8, 8, 8, 8, 8, 8, 8, 8, 8, 8, 8, 8, 8, 8, 8, 8, 8, 8, 8, 8, 8, 8, 8, 8, 8, 8, 8, 8, 8, 8, 8, 8, 8, 8, 8, 8, 8, 8, 8, 8, 8, 8, 8, 8, 8, 8, 8, 8, 8, 8, 8, 8, 8, 8, 8, 8, 8, 8, 8, 8, 8, 8, 8, 8, 8, 8, 8, 8, 8, 8, 8, 8, 8, 8, 8, 8, 8, 8, 8, 8, 8, 8, 8, 8, 8, 8, 8, 8, 8, 8, 8, 8]⟩)) (.tmp 15), none⟩, ⟨(some 17), .conv .i64 (.tmp 16), none⟩, ⟨(some 18), .bin .add (.tmp 13) (.tmp 17), none⟩, ⟨(some 2), .mov (.tmp 18), none⟩])
 .ret)))) }
def h140 : Hints := ⟨[], [], []⟩
def a140 : AFn := { n := 25, np := 1, res := [.tmp 2], body :=
 (.seq (.reg [⟨(some 2), .mov (.val (.int .i64 0)), none⟩])
 (.seq (.seq (.reg [⟨(some 3), .mov (.tmp 0), none⟩, ⟨(some 4), .bin .geq (.tmp 3) (.val (.int .u64 4294967296)), none⟩])
 (.cond (.tmp 4) (.seq (.reg [⟨(some 5), .mov (.tmp 0), none⟩, ⟨(some 6), .bin .shr (.tmp 5) (.val (.int .u64 32)), none⟩, ⟨(some 0), .mov (.tmp 6), none⟩])
 (.reg [⟨(some 2), .mov (.val (.int .i64 32)), none⟩])) .skip))
 (.seq (.seq (.reg [⟨(some 7), .mov (.tmp 0), none⟩, ⟨(some 8), .bin .geq (.tmp 7) (.val (.int .u64 65536)), none⟩])
 (.cond (.tmp 8) (.seq (.reg [⟨(some 9), .mov (.tmp 0), none⟩, ⟨(some 10), .bin .shr (.tmp 9) (.val (.int .u64 16)), none⟩, ⟨(some 0), .mov (.tmp 10), none⟩])
 (.reg [⟨(some 11), .mov (.tmp 2), none⟩, ⟨(some 12), .bin .add (.tmp 11) (.val (.int .i64 16)), none⟩, ⟨(some 2), .mov (.tmp 12), none⟩])) .skip))
 (.seq (.seq (.reg [⟨(some 13), .mov (.tmp 0), none⟩, ⟨(some 14), .bin .geq (.tmp 13) (.val (.int .u64 256)), none⟩])
 (.cond (.tmp 14) (.seq (.reg [⟨(some 15), .mov (.tmp 0), none⟩, ⟨(some 16), .bin .shr (.tmp 15) (.val (.int .u64 8)), none⟩, ⟨(some 0), .mov (.tmp 16), none⟩])
 (.reg [⟨(some 17), .mov (.tmp 2), none⟩, ⟨(some 18), .bin .add (.tmp 17) (.val (.int .i64 8)), none⟩, ⟨(some 2), .mov (.tmp 18), none⟩])) .skip))
 (.seq (.reg [⟨(some 19), .mov (.tmp 2), none⟩, ⟨(some 20), .mov (.tmp 0), none⟩, ⟨(some 21), .conv .u8 (.tmp 20), none⟩, ⟨(some 22), .idxS (.val (.str ⟨#[0, 1, 2, 2, 3, 3, 3, 3, 4, 4, 4, 4, 4, 4, 4, 4, 5, 5, 5, 5, 5, 5, 5, 5, 5, 5, 5, 5, 5, 5, 5, 5, 6, 6, 6, 6, 6, 6, 6, 6, 6, 6, 6, 6, 6, 6, 6, 6, 6, 6, 6, 6, 6, 6, 6, 6, 6, 6, 6, 6, 6, 6, 6, 6, 7, 7, 7, 7, 7, 7, 7, 7, 7, 7, 7, 7, 7, 7, 7, 7, 7, 7, 7, 7, 7, 7, 7, 7, 7, 7, 7, 7, 7, 7, 7, 7, 7, 7, 7, 7, 7, 7, 7, 7, 7, 7, 7, 7, 7, 7, 7, 7, 7, 7, 7, 7, 7, 7, 7, 7, 7, 7, 7, 7, 7, 7, 7, 7, 8, 8, 8, 8, 8, 8, 8, 8, 8, 8, 8, 8, 8, 8, 8, 8, 8, 8, 8, 8, 8, 8, 8, 8, 8, 8, 8, 8, 8, 8, 8, 8, 8, 8, 8, 8, 8, 8, 8, 8, 8, 8, 8, 8, 8, 8, 8, 8, 8, 8, 8, 8, 8, 8, 8, 8, 8, 8, 8, 8, 8, 8, 8, 8, 8, 8, 8, 8, 8, 8, 8, 8, 8, 8, 8, 8, 8, 8, 8, 8, 8, 8, 8, 8, 8, 8, 8, 8, 8, 8, 8, 8, 8, 8, 8, 8, 8, 8, 8, 8, 8, 8, 8, 8, 8, 8, 8, 8, 8, 8, 8, 8, 8, 8, 8, 8, 8, 8, 8, 8, 8, 8, 8, 8, 8, 8, 8, 8]⟩)) (.tmp 21), none⟩, ⟨(some 23), .conv .i64 (.tmp 22), none⟩, ⟨(some 24), .bin .add (.tmp 19) (.tmp 23), none⟩, ⟨(some 2), .mov (.tmp 24), none⟩])
 .ret))))) }
def h149 : Hints := ⟨[], [], []⟩
def a149 : AFn := { n := 6, np := 1, res := [.tmp 2], body :=
 (.seq (.reg [⟨(some 2), .mov (.val (.bool false)), none⟩])
 (.seq (.reg [⟨(some 3), .mov (.tmp 0), none⟩, ⟨(some 4), .mov (.tmp 0), none⟩, ⟨(some 5), .bin .neq (.tmp 3) (.tmp 4), none⟩, ⟨(some 2), .mov (.tmp 5), none⟩])
 .ret)) }
def h150 : Hints := ⟨[], [], []⟩
def a150 : AFn := { n := 70, np := 2, res := [.tmp 4], body :=
 (.seq (.reg [⟨(some 4), .mov (.val (.bool false)), none⟩])
 (.seq (.seq (.reg [⟨(some 5), .mov (.tmp 0), none⟩])
 (.block 0 (.seq (.reg [⟨(some 7), .bin .eql (.tmp 5) (.val (.int .i64 0)), none⟩, ⟨(some 6), .mov (.tmp 7), none⟩])
 (.cond (.tmp 6) (.seq (.reg [⟨(some 8), .mov (.tmp 1), none⟩, ⟨(some 9), .bin .eql (.tmp 8) (.val (.int .i64 0)), none⟩, ⟨(some 4), .mov (.tmp 9), none⟩])
 .ret) (.seq (.reg [⟨(some 11), .bin .eql (.tmp 5) (.val (.int .i64 1)), none⟩, ⟨(some 10), .mov (.tmp 11), none⟩])
 (.cond (.tmp 10) (.seq (.reg [⟨(some 12), .mov (.tmp 1), none⟩, ⟨(some 13), .bin .geq (.tmp 12) (.val (.int .i64 0)), none⟩, ⟨(some 14), .mov (.tmp 13), none⟩, ⟨(some 15), .mov (.tmp 1), (some (14, true))⟩, ⟨(some 16), .bin .leq (.tmp 15) (.val (.int .i64 1048576)), (some (14, true))⟩, ⟨(some 17), .pick (.tmp 14) (.tmp 16) (.val (.bool false)), none⟩, ⟨(some 4), .mov (.tmp 17), none⟩])
 .ret) (.seq (.reg [⟨(some 19), .bin .eql (.tmp 5) (.val (.int .i64 2)), none⟩, ⟨(some 18), .mov (.tmp 19), none⟩])
 (.cond (.tmp 18) (.seq (.reg [⟨(some 20), .mov (.tmp 1), none⟩, ⟨(some 21), .bin .geq (.tmp 20) (.val (.int .i64 0)), none⟩, ⟨(some 22), .mov (.tmp 21), none⟩, ⟨(some 23), .mov (.tmp 1), (some (22, true))⟩, ⟨(some 24), .bin .leq (.tmp 23) (.val (.int .i64 4294967295)), (some (22, true))⟩, ⟨(some 25), .pick (.tmp 22) (.tmp 24) (.val (.bool false)), none⟩, ⟨(some 4), .mov (.tmp 25), none⟩])
 .ret) (.seq (.reg [⟨(some 27), .bin .eql (.tmp 5) (.val (.int .i64 3)), none⟩, ⟨(some 26), .mov (.tmp 27), none⟩])
 (.cond (.tmp 26) (.seq (.reg [⟨(some 28), .mov (.tmp 1), none⟩, ⟨(some 29), .bin .eql (.tmp 28) (.val (.int .i64 8)), none⟩, ⟨(some 30), .mov (.tmp 29), none⟩, ⟨(some 31), .mov (.tmp 1), (some (30, false))⟩, ⟨(some 32), .bin .eql (.tmp 31) (.val (.int .i64 16)), (some (30, false))⟩, ⟨(some 33), .pick (.tmp 30) (.val (.bool true)) (.tmp 32), none⟩, ⟨(some 34), .mov (.tmp 33), none⟩, ⟨(some 35), .mov (.tmp 1), (some (34, false))⟩, ⟨(some 36), .bin .eql (.tmp 35) (.val (.int .i64 32)), (some (34, false))⟩, ⟨(some 37), .pick (.tmp 34) (.val (.bool true)) (.tmp 36), none⟩, ⟨(some 4), .mov (.tmp 37), none⟩])
 .ret) (.seq (.reg [⟨(some 39), .bin .eql (.tmp 5) (.val (.int .i64 4)), none⟩, ⟨(some 38), .mov (.tmp 39), none⟩])
 (.cond (.tmp 38) (.seq (.reg [⟨(some 40), .mov (.tmp 1), none⟩, ⟨(some 41), .bin .geq (.tmp 40) (.val (.int .i64 1)), none⟩, ⟨(some 42), .mov (.tmp 41), none⟩, ⟨(some 43), .mov (.tmp 1), (some (42, true))⟩, ⟨(some 44), .bin .leq (.tmp 43) (.val (.int .i64 1048576)), (some (42, true))⟩, ⟨(some 45), .pick (.tmp 42) (.tmp 44) (.val (.bool false)), none⟩, ⟨(some 4), .mov (.tmp 45), none⟩])
 .ret) (.seq (.reg [⟨(some 47), .bin .eql (.tmp 5) (.val (.int .i64 5)), none⟩, ⟨(some 46), .mov (.tmp 47), none⟩])
 (.cond (.tmp 46) (.seq (.reg [⟨(some 48), .mov (.tmp 1), none⟩, ⟨(some 49), .bin .geq (.tmp 48) (.val (.int .i64 0)), none⟩, ⟨(some 50), .mov (.tmp 49), none⟩, ⟨(some 51), .mov (.tmp 1), (some (50, true))⟩, ⟨(some 52), .bin .leq (.tmp 51) (.val (.int .i64 31)), (some (50, true))⟩, ⟨(some 53), .pick (.tmp 50) (.tmp 52) (.val (.bool false)), none⟩, ⟨(some 4), .mov (.tmp 53), none⟩])
 .ret) (.seq (.reg [⟨(some 55), .bin .eql (.tmp 5) (.val (.int .i64 6)), none⟩, ⟨(some 54), .mov (.tmp 55), none⟩])
 (.cond (.tmp 54) (.seq (.reg [⟨(some 56), .mov (.tmp 1), none⟩, ⟨(some 57), .bin .geq (.tmp 56) (.val (.int .i64 0)), none⟩, ⟨(some 58), .mov (.tmp 57), none⟩, ⟨(some 59), .mov (.tmp 1), (some (58, true))⟩, ⟨(some 60), .bin .leq (.tmp 59) (.val (.int .i64 15)), (some (58, true))⟩, ⟨(some 61), .pick (.tmp 58) (.tmp 60) (.val (.bool false)), none⟩, ⟨(some 4), .mov (.tmp 61), none⟩])
 .ret) (.seq (.reg [⟨(some 63), .bin .eql (.tmp 5) (.val (.int .i64 7)), none⟩, ⟨(some 62), .mov (.tmp 63), none⟩])
 (.cond (.tmp 62) (.seq (.reg [⟨(some 64), .mov (.tmp 1), none⟩, ⟨(some 65), .call 159 [(.tmp 64)], none⟩, ⟨(some 66), .bin .neq (.tmp 65) (.val (.str ⟨#[]⟩)), none⟩, ⟨(some 4), .mov (.tmp 66), none⟩])
 .ret) .skip))))))))))))))))))
 (.seq (.reg [⟨(some 67), .mov (.tmp 1), none⟩, ⟨(some 68), .call 160 [(.tmp 67)], none⟩, ⟨(some 69), .bin .neq (.tmp 68) (.val (.str ⟨#[]⟩)), none⟩, ⟨(some 4), .mov (.tmp 69), none⟩])
 .ret))) }
def h151 : Hints := ⟨[], [], []⟩
def a151_B1 : AC := (.block 1 (.seq (.reg [⟨(some 11), .mov (.tmp 8), none⟩, ⟨(some 12), .bin .mul (.val (.int .i64 2)) (.tmp 11), none⟩, ⟨(some 13), .bin .add (.tmp 12) (.val (.int .i64 1)), none⟩, ⟨(some 9), .mov (.tmp 13), none⟩])
 (.seq (.seq (.reg [⟨(some 14), .mov (.tmp 9), none⟩, ⟨(some 15), .mov (.tmp 2), none⟩, ⟨(some 16), .bin .geq (.tmp 14) (.tmp 15), none⟩])
 (.cond (.tmp 16) (.exit 0) .skip))
 (.seq (.seq (.dreg [(false, ⟨(some 17), .mov (.tmp 9), none⟩, false), (false, ⟨(some 18), .bin .add (.tmp 17) (.val (.int .i64 1)), none⟩, false), (false, ⟨(some 19), .mov (.tmp 2), none⟩, false), (false, ⟨(some 20), .bin .lss (.tmp 18) (.tmp 19), none⟩, false), (false, ⟨(some 21), .mov (.tmp 20), none⟩, false), (false, ⟨(some 22), .mov (.tmp 0), (some (21, true))⟩, false), (false, ⟨(some 23), .mov (.tmp 3), (some (21, true))⟩, false), (false, ⟨(some 24), .mov (.tmp 9), (some (21, true))⟩, false), (false, ⟨(some 25), .bin .add (.tmp 23) (.tmp 24), (some (21, true))⟩, false), (false, ⟨(some 26), .iaddrL 1 (.tmp 22) (.tmp 25), (some (21, true))⟩, false), (false, ⟨(some 27), .load none (.tmp 26), (some (21, true))⟩, false), (false, ⟨(some 28), .mov (.tmp 0), (some (21, true))⟩, false), (false, ⟨(some 29), .mov (.tmp 3), (some (21, true))⟩, false), (false, ⟨(some 30), .mov (.tmp 9), (some (21, true))⟩, false), (false, ⟨(some 31), .bin .add (.tmp 29) (.tmp 30), (some (21, true))⟩, false), (false, ⟨(some 32), .bin .add (.tmp 31) (.val (.int .i64 1)), (some (21, true))⟩, false), (false, ⟨(some 33), .iaddrL 1 (.tmp 28) (.tmp 32), (some (21, true))⟩, false), (false, ⟨(some 34), .load none (.tmp 33), (some (21, true))⟩, false), (false, ⟨(some 35), .call 136 [(.tmp 27), (.tmp 34)], (some (21, true))⟩, false), (false, ⟨(some 36), .pick (.tmp 21) (.tmp 35) (.val (.bool false)), none⟩, false)])
 (.cond (.tmp 36) (.reg [⟨(some 37), .mov (.tmp 9), none⟩, ⟨(some 38), .bin .add (.tmp 37) (.val (.int .i64 1)), none⟩, ⟨(some 9), .mov (.tmp 38), none⟩]) .skip))
 (.seq (.seq (.dreg [(false, ⟨(some 39), .mov (.tmp 0), none⟩, false), (false, ⟨(some 40), .mov (.tmp 3), none⟩, false), (false, ⟨(some 41), .mov (.tmp 8), none⟩, false), (false, ⟨(some 42), .bin .add (.tmp 40) (.tmp 41), none⟩, false), (false, ⟨(some 43), .iaddrL 1 (.tmp 39) (.tmp 42), none⟩, false), (false, ⟨(some 44), .load none (.tmp 43), none⟩, false), (false, ⟨(some 45), .mov (.tmp 0), none⟩, false), (false, ⟨(some 46), .mov (.tmp 3), none⟩, false), (false, ⟨(some 47), .mov (.tmp 9), none⟩, false), (false, ⟨(some 48), .bin .add (.tmp 46) (.tmp 47), none⟩, false), (false, ⟨(some 49), .iaddrL 1 (.tmp 45) (.tmp 48), none⟩, false), (false, ⟨(some 50), .load none (.tmp 49), none⟩, false), (false, ⟨(some 51), .call 136 [(.tmp 44), (.tmp 50)], none⟩, false), (false, ⟨(some 52), .un .not (.tmp 51), none⟩, false)])
 (.cond (.tmp 52) .ret .skip))
 (.seq (.dreg [(false, ⟨(some 53), .mov (.tmp 0), none⟩, false), (false, ⟨(some 54), .mov (.tmp 3), none⟩, false), (false, ⟨(some 55), .mov (.tmp 8), none⟩, false), (false, ⟨(some 56), .bin .add (.tmp 54) (.tmp 55), none⟩, false), (false, ⟨(some 57), .mov (.tmp 0), none⟩, false), (false, ⟨(some 58), .mov (.tmp 3), none⟩, false), (false, ⟨(some 59), .mov (.tmp 9), none⟩, false), (false, ⟨(some 60), .bin .add (.tmp 58) (.tmp 59), none⟩, false), (false, ⟨(some 61), .mov (.tmp 0), none⟩, false), (false, ⟨(some 62), .mov (.tmp 3), none⟩, false), (false, ⟨(some 63), .mov (.tmp 9), none⟩, false), (false, ⟨(some 64), .bin .add (.tmp 62) (.tmp 63), none⟩, false), (false, ⟨(some 65), .iaddrL 1 (.tmp 61) (.tmp 64), none⟩, false), (false, ⟨(some 66), .load none (.tmp 65), none⟩, false), (false, ⟨(some 67), .mov (.tmp 0), none⟩, false), (false, ⟨(some 68), .mov (.tmp 3), none⟩, false), (false, ⟨(some 69), .mov (.tmp 8), none⟩, false), (false, ⟨(some 70), .bin .add (.tmp 68) (.tmp 69), none⟩, false), (false, ⟨(some 71), .iaddrL 1 (.tmp 67) (.tmp 70), none⟩, false), (false, ⟨(some 72), .load none (.tmp 71), none⟩, false), (false, ⟨(some 73), .iaddrL 1 (.tmp 53) (.tmp 56), none⟩, false), (false, ⟨none, .store 1 (.tmp 73) (.tmp 66), none⟩, false), (false, ⟨(some 74), .iaddrL 1 (.tmp 57) (.tmp 60), none⟩, false), (false, ⟨none, .store 1 (.tmp 74) (.tmp 72), none⟩, false)])
 (.reg [⟨(some 75), .mov (.tmp 9), none⟩, ⟨(some 8), .mov (.tmp 75), none⟩])))))))
def a151_L1 : AC := .loop a151_B1
theorem a151_L1_step (call : Caller) (again : AC → St → Option (Ex × St)) (s : St) : codeEv call again a151_L1 s = match codeEv call again a151_B1 s with | some (.norm, s1) => again a151_L1 s1 | r => r := rfl
def a151 : AFn := { n := 76, np := 4, res := [], body :=
 (.seq (.reg [⟨(some 10), .mov (.tmp 1), none⟩, ⟨(some 8), .mov (.tmp 10), none⟩])
 (.block 0 a151_L1)) }
def h152 : Hints := ⟨[], [], []⟩
def a152 : AFn := { n := 7, np := 1, res := [.tmp 2], body :=
 (.seq (.reg [⟨(some 2), .mov (.val (.int .u64 0)), none⟩])
 (.seq (.reg [⟨(some 3), .mov (.tmp 0), none⟩, ⟨(some 4), .conv .u64 (.tmp 3), none⟩, ⟨(some 5), .call 116 [(.tmp 4)], none⟩, ⟨(some 6), .bin .shl (.val (.int .u64 1)) (.tmp 5), none⟩, ⟨(some 2), .mov (.tmp 6), none⟩])
 .ret)) }
def h153 : Hints := ⟨[], [], []⟩
def a153 : AFn := { n := 33, np := 1, res := [.tmp 2], body :=
 (.seq (.reg [⟨(some 2), .mov (.val (.int .u64 0)), none⟩])
 (.seq (.dreg [(false, ⟨(some 3), .mov (.tmp 0), none⟩, false), (false, ⟨(some 4), .nilck (.tmp 3), none⟩, false), (false, ⟨(some 5), .load none (.tmp 4), none⟩, false), (false, ⟨(some 6), .mov (.tmp 0), none⟩, false), (false, ⟨(some 7), .nilck (.tmp 6), none⟩, false), (false, ⟨(some 8), .load none (.tmp 7), none⟩, false), (false, ⟨(some 9), .bin .shl (.tmp 8) (.val (.int .u64 13)), none⟩, false), (false, ⟨(some 10), .bin .xor (.tmp 5) (.tmp 9), none⟩, false), (false, ⟨(some 11), .nilck (.tmp 3), none⟩, false), (false, ⟨none, .store 1 (.tmp 11) (.tmp 10), none⟩, false)])
 (.seq (.dreg [(false, ⟨(some 12), .mov (.tmp 0), none⟩, false), (false, ⟨(some 13), .nilck (.tmp 12), none⟩, false), (false, ⟨(some 14), .load none (.tmp 13), none⟩, false), (false, ⟨(some 15), .mov (.tmp 0), none⟩, false), (false, ⟨(some 16), .nilck (.tmp 15), none⟩, false), (false, ⟨(some 17), .load none (.tmp 16), none⟩, false), (false, ⟨(some 18), .bin .shr (.tmp 17) (.val (.int .u64 7)), none⟩, false), (false, ⟨(some 19), .bin .xor (.tmp 14) (.tmp 18), none⟩, false), (false, ⟨(some 20), .nilck (.tmp 12), none⟩, false), (false, ⟨none, .store 1 (.tmp 20) (.tmp 19), none⟩, false)])
 (.seq (.dreg [(false, ⟨(some 21), .mov (.tmp 0), none⟩, false), (false, ⟨(some 22), .nilck (.tmp 21), none⟩, false), (false, ⟨(some 23), .load none (.tmp 22), none⟩, false), (false, ⟨(some 24), .mov (.tmp 0), none⟩, false), (false, ⟨(some 25), .nilck (.tmp 24), none⟩, false), (false, ⟨(some 26), .load none (.tmp 25), none⟩, false), (false, ⟨(some 27), .bin .shl (.tmp 26) (.val (.int .u64 17)), none⟩, false), (false, ⟨(some 28), .bin .xor (.tmp 23) (.tmp 27), none⟩, false), (false, ⟨(some 29), .nilck (.tmp 21), none⟩, false), (false, ⟨none, .store 1 (.tmp 29) (.tmp 28), none⟩, false)])
 (.seq (.reg [⟨(some 30), .mov (.tmp 0), none⟩, ⟨(some 31), .nilck (.tmp 30), none⟩, ⟨(some 32), .load none (.tmp 31), none⟩, ⟨(some 2), .mov (.tmp 32), none⟩])
 .ret))))) }
def h154 : Hints := ⟨[], [], []⟩
def a154 : AFn := { n := 15, np := 3, res := [.tmp 6], body :=
 (.seq (.reg [⟨(some 6), .mov (.val (.int .i64 0)), none⟩])
 (.seq (.reg [⟨(some 7), .mov (.tmp 0), none⟩, ⟨(some 8), .mov (.tmp 1), none⟩, ⟨(some 9), .bin .sub (.tmp 8) (.val (.int .i64 1)), none⟩, ⟨(some 10), .mov (.tmp 1), none⟩, ⟨(some 11), .mov (.tmp 1), none⟩, ⟨(some 12), .bin .add (.tmp 11) (.val (.int .i64 1)), none⟩, ⟨(some 13), .mov (.tmp 2), none⟩, ⟨(some 14), .call 155 [(.tmp 7), (.tmp 9), (.tmp 10), (.tmp 12), (.tmp 13)], none⟩, ⟨(some 6), .mov (.tmp 14), none⟩])
 .ret)) }
def h155 : Hints := ⟨[], [], []⟩
def a155 : AFn := { n := 36, np := 5, res := [.tmp 10], body :=
 (.seq (.reg [⟨(some 10), .mov (.val (.int .i64 0)), none⟩])
 (.seq (.reg [⟨(some 12), .mov (.tmp 0), none⟩, ⟨(some 13), .mov (.tmp 1), none⟩, ⟨(some 14), .mov (.tmp 2), none⟩, ⟨(some 15), .mov (.tmp 4), none⟩, ⟨(some 16), .call 161 [(.tmp 12), (.tmp 13), (.tmp 14), (.tmp 15)], none⟩, ⟨(some 11), .mov (.tmp 16), none⟩, ⟨(some 17), .ext (.tmp 11) 0, none⟩, ⟨(some 18), .ext (.tmp 11) 1, none⟩, ⟨(some 1), .mov (.tmp 17), none⟩, ⟨(some 2), .mov (.tmp 18), none⟩])
 (.seq (.reg [⟨(some 20), .mov (.tmp 0), none⟩, ⟨(some 21), .mov (.tmp 2), none⟩, ⟨(some 22), .mov (.tmp 3), none⟩, ⟨(some 23), .mov (.tmp 4), none⟩, ⟨(some 24), .call 161 [(.tmp 20), (.tmp 21), (.tmp 22), (.tmp 23)], none⟩, ⟨(some 19), .mov (.tmp 24), none⟩, ⟨(some 25), .ext (.tmp 19) 0, none⟩, ⟨(some 26), .ext (.tmp 19) 1, none⟩, ⟨(some 2), .mov (.tmp 25), none⟩, ⟨(some 3), .mov (.tmp 26), none⟩])
 (.seq (.reg [⟨(some 28), .mov (.tmp 0), none⟩, ⟨(some 29), .mov (.tmp 1), none⟩, ⟨(some 30), .mov (.tmp 2), none⟩, ⟨(some 31), .mov (.tmp 4), none⟩, ⟨(some 32), .call 161 [(.tmp 28), (.tmp 29), (.tmp 30), (.tmp 31)], none⟩, ⟨(some 27), .mov (.tmp 32), none⟩, ⟨(some 33), .ext (.tmp 27) 0, none⟩, ⟨(some 34), .ext (.tmp 27) 1, none⟩, ⟨(some 1), .mov (.tmp 33), none⟩, ⟨(some 2), .mov (.tmp 34), none⟩])
 (.seq (.reg [⟨(some 35), .mov (.tmp 2), none⟩, ⟨(some 10), .mov (.tmp 35), none⟩])
 .ret))))) }
def h159 : Hints := ⟨[], [], []⟩
def a159 : AFn := { n := 9, np := 1, res := [.tmp 2], body :=
 (.seq (.reg [⟨(some 2), .mov (.val (.str ⟨#[]⟩)), none⟩])
 (.seq (.seq (.reg [⟨(some 3), .mov (.tmp 0), none⟩, ⟨(some 4), .call 163 [(.tmp 3)], none⟩, ⟨(some 5), .un .not (.tmp 4), none⟩])
 (.cond (.tmp 5) (.seq (.reg [⟨(some 2), .mov (.val (.str ⟨#[]⟩)), none⟩])
 .ret) .skip))
 (.seq (.reg [⟨(some 6), .mov (.tmp 0), none⟩, ⟨(some 7), .iaddrA 20 1 (.val (.ptr 2 0)) (.tmp 6), none⟩, ⟨(some 8), .load none (.tmp 7), none⟩, ⟨(some 2), .mov (.tmp 8), none⟩])
 .ret))) }
def h160 : Hints := ⟨[], [], []⟩
def a160 : AFn := { n := 10, np := 1, res := [.tmp 2], body :=
 (.seq (.reg [⟨(some 2), .mov (.val (.str ⟨#[]⟩)), none⟩])
 (.seq (.seq (.reg [⟨(some 3), .mov (.tmp 0), none⟩])
 (.block 0 (.seq (.reg [⟨(some 5), .bin .eql (.tmp 3) (.val (.int .i64 1)), none⟩, ⟨(some 4), .mov (.tmp 5), none⟩])
 (.cond (.tmp 4) (.seq (.reg [⟨(some 2), .mov (.val (.str ⟨#[110, 101, 103]⟩)), none⟩])
 .ret) (.seq (.reg [⟨(some 7), .bin .eql (.tmp 3) (.val (.int .i64 2)), none⟩, ⟨(some 6), .mov (.tmp 7), none⟩])
 (.cond (.tmp 6) (.seq (.reg [⟨(some 2), .mov (.val (.str ⟨#[110, 111, 116]⟩)), none⟩])
 .ret) (.seq (.reg [⟨(some 9), .bin .eql (.tmp 3) (.val (.int .i64 3)), none⟩, ⟨(some 8), .mov (.tmp 9), none⟩])
 (.cond (.tmp 8) (.seq (.reg [⟨(some 2), .mov (.val (.str ⟨#[122, 101, 114, 111]⟩)), none⟩])
 .ret) .skip))))))))
 (.seq (.reg [⟨(some 2), .mov (.val (.str ⟨#[]⟩)), none⟩])
 .ret))) }
def h161 : Hints := ⟨[], [], []⟩
def a161 : AFn := { n := 28, np := 4, res := [.tmp 8, .tmp 9], body :=
 (.seq (.reg [⟨(some 8), .mov (.val (.int .i64 0)), none⟩, ⟨(some 9), .mov (.val (.int .i64 0)), none⟩])
 (.seq (.seq (.dreg [(false, ⟨(some 10), .mov (.tmp 0), none⟩, false), (false, ⟨(some 11), .mov (.tmp 2), none⟩, false), (false, ⟨(some 12), .iaddrL 1 (.tmp 10) (.tmp 11), none⟩, false), (false, ⟨(some 13), .load none (.tmp 12), none⟩, false), (false, ⟨(some 14), .mov (.tmp 0), none⟩, false), (false, ⟨(some 15), .mov (.tmp 1), none⟩, false), (false, ⟨(some 16), .iaddrL 1 (.tmp 14) (.tmp 15), none⟩, false), (false, ⟨(some 17), .load none (.tmp 16), none⟩, false), (false, ⟨(some 18), .call 136 [(.tmp 13), (.tmp 17)], none⟩, false)])
 (.cond (.tmp 18) (.seq (.reg [⟨(some 19), .mov (.tmp 3), none⟩, ⟨(some 20), .nilck (.tmp 19), none⟩, ⟨(some 21), .load none (.tmp 20), none⟩, ⟨(some 22), .bin .add (.tmp 21) (.val (.int .i64 1)), none⟩, ⟨(some 23), .nilck (.tmp 19), none⟩, ⟨none, .store 1 (.tmp 23) (.tmp 22), none⟩])
 (.seq (.reg [⟨(some 24), .mov (.tmp 2), none⟩, ⟨(some 25), .mov (.tmp 1), none⟩, ⟨(some 8), .mov (.tmp 24), none⟩, ⟨(some 9), .mov (.tmp 25), none⟩])
 .ret)) .skip))
 (.seq (.reg [⟨(some 26), .mov (.tmp 1), none⟩, ⟨(some 27), .mov (.tmp 2), none⟩, ⟨(some 8), .mov (.tmp 26), none⟩, ⟨(some 9), .mov (.tmp 27), none⟩])
 .ret))) }
def h163 : Hints := ⟨[], [], []⟩
def a163 : AFn := { n := 9, np := 1, res := [.tmp 2], body :=
 (.seq (.reg [⟨(some 2), .mov (.val (.bool false)), none⟩])
 (.seq (.reg [⟨(some 3), .mov (.tmp 0), none⟩, ⟨(some 4), .bin .geq (.tmp 3) (.val (.int .i64 1)), none⟩, ⟨(some 5), .mov (.tmp 4), none⟩, ⟨(some 6), .mov (.tmp 0), (some (5, true))⟩, ⟨(some 7), .bin .leq (.tmp 6) (.val (.int .i64 19)), (some (5, true))⟩, ⟨(some 8), .pick (.tmp 5) (.tmp 7) (.val (.bool false)), none⟩, ⟨(some 2), .mov (.tmp 8), none⟩])
 .ret)) }
def h180 : Hints := ⟨[1], [], []⟩
def a180_B1 : AC := (.seq (.reg [⟨(some 50), .bin .lss (.tmp 49) (.tmp 48), none⟩])
 (.seq (.cond (.tmp 50) .skip (.exit 0))
 (.seq (.block 1 (.seq (.reg [⟨(some 51), .iaddrL 1 (.tmp 47) (.tmp 49), none⟩, ⟨(some 52), .load none (.tmp 51), none⟩, ⟨(some 4), .mov (.tmp 52), none⟩])
 (.seq (.reg [⟨(some 53), .mov (.tmp 4), none⟩, ⟨(some 54), .lenL (.tmp 53), none⟩, ⟨(some 55), .bin .gtr (.tmp 54) (.val (.int .i64 4096)), none⟩])
 (.cond (.tmp 55) (.seq (.reg [⟨(some 2), .mov (.val (.int .i64 3)), none⟩])
 .ret) .skip))))
 (.reg [⟨(some 56), .bin .add (.tmp 49) (.val (.int .i64 1)), none⟩, ⟨(some 49), .mov (.tmp 56), none⟩]))))
def a180_L1 : AC := .loop a180_B1
theorem a180_L1_step (call : Caller) (again : AC → St → Option (Ex × St)) (s : St) : codeEv call again a180_L1 s = match codeEv call again a180_B1 s with | some (.norm, s1) => again a180_L1 s1 | r => r := rfl
def a180 : AFn := { n := 57, np := 1, res := [.tmp 2], body :=
 (.seq (.reg [⟨(some 1), .box (some 1) (.tmp 0), none⟩, ⟨(some 2), .mov (.val (.int .i64 0)), none⟩])
 (.seq (.seq (.reg [⟨(some 5), .faddr 0 (.tmp 1), none⟩, ⟨(some 6), .faddr 1 (.tmp 5), none⟩, ⟨(some 7), .load none (.tmp 6), none⟩, ⟨(some 8), .lenL (.tmp 7), none⟩, ⟨(some 9), .bin .gtr (.tmp 8) (.val (.int .i64 64)), none⟩, ⟨(some 10), .mov (.tmp 9), none⟩, ⟨(some 11), .faddr 0 (.tmp 1), (some (10, false))⟩, ⟨(some 12), .faddr 0 (.tmp 11), (some (10, false))⟩, ⟨(some 13), .load none (.tmp 12), (some (10, false))⟩, ⟨(some 14), .lenL (.tmp 13), (some (10, false))⟩, ⟨(some 15), .bin .gtr (.tmp 14) (.val (.int .i64 16384)), (some (10, false))⟩, ⟨(some 16), .pick (.tmp 10) (.val (.bool true)) (.tmp 15), none⟩, ⟨(some 17), .mov (.tmp 16), none⟩, ⟨(some 18), .faddr 0 (.tmp 1), (some (17, false))⟩, ⟨(some 19), .faddr 4 (.tmp 18), (some (17, false))⟩, ⟨(some 20), .load none (.tmp 19), (some (17, false))⟩, ⟨(some 21), .lenL (.tmp 20), (some (17, false))⟩, ⟨(some 22), .bin .gtr (.tmp 21) (.val (.int .i64 4096)), (some (17, false))⟩, ⟨(some 23), .pick (.tmp 17) (.val (.bool true)) (.tmp 22), none⟩, ⟨(some 24), .mov (.tmp 23), none⟩, ⟨(some 25), .faddr 0 (.tmp 1), (some (24, false))⟩, ⟨(some 26), .faddr 5 (.tmp 25), (some (24, false))⟩, ⟨(some 27), .load none (.tmp 26), (some (24, false))⟩, ⟨(some 28), .lenL (.tmp 27), (some (24, false))⟩, ⟨(some 29), .bin .gtr (.tmp 28) (.val (.int .i64 32)), (some (24, false))⟩, ⟨(some 30), .pick (.tmp 24) (.val (.bool true)) (.tmp 29), none⟩, ⟨(some 31), .mov (.tmp 30), none⟩, ⟨(some 32), .faddr 0 (.tmp 1), (some (31, false))⟩, ⟨(some 33), .faddr 7 (.tmp 32), (some (31, false))⟩, ⟨(some 34), .load none (.tmp 33), (some (31, false))⟩, ⟨(some 35), .lenL (.tmp 34), (some (31, false))⟩, ⟨(some 36), .bin .gtr (.tmp 35) (.val (.int .i64 64)), (some (31, false))⟩, ⟨(some 37), .pick (.tmp 31) (.val (.bool true)) (.tmp 36), none⟩, ⟨(some 38), .mov (.tmp 37), none⟩, ⟨(some 39), .faddr 0 (.tmp 1), (some (38, false))⟩, ⟨(some 40), .faddr 2 (.tmp 39), (some (38, false))⟩, ⟨(some 41), .load none (.tmp 40), (some (38, false))⟩, ⟨(some 42), .lenL (.tmp 41), (some (38, false))⟩, ⟨(some 43), .bin .gtr (.tmp 42) (.val (.int .i64 32)), (some (38, false))⟩, ⟨(some 44), .pick (.tmp 38) (.val (.bool true)) (.tmp 43), none⟩])
 (.cond (.tmp 44) (.seq (.reg [⟨(some 2), .mov (.val (.int .i64 3)), none⟩])
 .ret) .skip))
 (.seq (.seq (.reg [⟨(some 45), .faddr 0 (.tmp 1), none⟩, ⟨(some 46), .faddr 7 (.tmp 45), none⟩, ⟨(some 47), .load none (.tmp 46), none⟩, ⟨(some 48), .lenL (.tmp 47), none⟩, ⟨(some 49), .mov (.val (.int .i64 0)), none⟩])
 (.block 0 a180_L1))
 (.seq (.reg [⟨(some 2), .mov (.val (.int .i64 0)), none⟩])
 .ret)))) }
def h181 : Hints := ⟨[1, 4], [], []⟩
def a181_B1 : AC := (.seq (.reg [⟨(some 57), .bin .lss (.tmp 56) (.tmp 55), none⟩])
 (.seq (.cond (.tmp 57) .skip (.exit 0))
 (.seq (.block 1 (.seq (.reg [⟨(some 58), .mov (.tmp 56), none⟩, ⟨(some 59), .iaddrL 3 (.tmp 54) (.tmp 56), none⟩, ⟨(some 60), .load (some 3) (.tmp 59), none⟩, ⟨(some 4), .alloc (some 4) [(.int .i64 0), (.int .i64 0), (.int .i64 0)], none⟩, ⟨(some 3), .mov (.tmp 58), none⟩, ⟨none, .store 3 (.tmp 4) (.tmp 60), none⟩])
 (.seq (.reg [⟨(some 62), .load (some 8) (.tmp 1), none⟩, ⟨(some 63), .mov (.tmp 3), none⟩, ⟨(some 64), .call 109 [(.tmp 62), (.tmp 63)], none⟩, ⟨(some 61), .mov (.tmp 64), none⟩, ⟨(some 65), .ext (.tmp 61) 0, none⟩, ⟨(some 66), .ext (.tmp 61) 1, none⟩, ⟨(some 5), .mov (.tmp 65), none⟩, ⟨(some 6), .mov (.tmp 66), none⟩])
 (.seq (.reg [⟨(some 67), .mov (.tmp 3), none⟩, ⟨(some 68), .bin .eql (.tmp 67) (.val (.int .i64 0)), none⟩, ⟨(some 69), .mov (.tmp 68), none⟩, ⟨(some 70), .mov (.tmp 5), (some (69, true))⟩, ⟨(some 71), .bin .neq (.tmp 70) (.val (.int .i64 0)), (some (69, true))⟩, ⟨(some 72), .pick (.tmp 69) (.tmp 71) (.val (.bool false)), none⟩, ⟨(some 73), .mov (.tmp 72), none⟩, ⟨(some 74), .mov (.tmp 5), (some (73, false))⟩, ⟨(some 75), .bin .lss (.tmp 74) (.val (.int .i64 0)), (some (73, false))⟩, ⟨(some 76), .pick (.tmp 73) (.val (.bool true)) (.tmp 75), none⟩, ⟨(some 77), .mov (.tmp 76), none⟩, ⟨(some 78), .mov (.tmp 5), (some (77, false))⟩, ⟨(some 79), .mov (.tmp 6), (some (77, false))⟩, ⟨(some 80), .bin .geq (.tmp 78) (.tmp 79), (some (77, false))⟩, ⟨(some 81), .pick (.tmp 77) (.val (.bool true)) (.tmp 80), none⟩, ⟨(some 82), .mov (.tmp 81), none⟩, ⟨(some 83), .mov (.tmp 6), (some (82, false))⟩, ⟨(some 84), .faddr 0 (.tmp 1), (some (82, false))⟩, ⟨(some 85), .faddr 0 (.tmp 84), (some (82, false))⟩, ⟨(some 86), .load none (.tmp 85), (some (82, false))⟩, ⟨(some 87), .lenL (.tmp 86), (some (82, false))⟩, ⟨(some 88), .bin .gtr (.tmp 83) (.tmp 87), (some (82, false))⟩, ⟨(some 89), .pick (.tmp 82) (.val (.bool true)) (.tmp 88), none⟩, ⟨(some 90), .mov (.tmp 89), none⟩, ⟨(some 91), .faddr 1 (.tmp 4), (some (90, false))⟩, ⟨(some 92), .load none (.tmp 91), (some (90, false))⟩, ⟨(some 93), .bin .lss (.tmp 92) (.val (.int .i64 0)), (some (90, false))⟩, ⟨(some 94), .pick (.tmp 90) (.val (.bool true)) (.tmp 93), none⟩, ⟨(some 95), .mov (.tmp 94), none⟩, ⟨(some 96), .faddr 1 (.tmp 4), (some (95, false))⟩, ⟨(some 97), .load none (.tmp 96), (some (95, false))⟩, ⟨(some 98), .faddr 2 (.tmp 4), (some (95, false))⟩, ⟨(some 99), .load none (.tmp 98), (some (95, false))⟩, ⟨(some 100), .bin .gtr (.tmp 97) (.tmp 99), (some (95, false))⟩, ⟨(some 101), .pick (.tmp 95) (.val (.bool true)) (.tmp 100), none⟩, ⟨(some 102), .mov (.tmp 101), none⟩, ⟨(some 103), .faddr 2 (.tmp 4), (some (102, false))⟩, ⟨(some 104), .load none (.tmp 103), (some (102, false))⟩, ⟨(some 105), .bin .gtr (.tmp 104) (.val (.int .i64 64)), (some (102, false))⟩, ⟨(some 106), .pick (.tmp 102) (.val (.bool true)) (.tmp 105), none⟩])
 (.cond (.tmp 106) (.seq (.reg [⟨(some 2), .mov (.val (.int .i64 2)), none⟩])
 .ret) .skip)))))
 (.reg [⟨(some 107), .bin .add (.tmp 56) (.val (.int .i64 1)), none⟩, ⟨(some 56), .mov (.tmp 107), none⟩]))))
def a181_L1 : AC := .loop a181_B1
theorem a181_L1_step (call : Caller) (again : AC → St → Option (Ex × St)) (s : St) : codeEv call again a181_L1 s = match codeEv call again a181_B1 s with | some (.norm, s1) => again a181_L1 s1 | r => r := rfl
def a181 : AFn := { n := 108, np := 1, res := [.tmp 2], body :=
 (.seq (.reg [⟨(some 1), .box (some 1) (.tmp 0), none⟩, ⟨(some 2), .mov (.val (.int .i64 0)), none⟩])
 (.seq (.seq (.reg [⟨(some 7), .faddr 0 (.tmp 1), none⟩, ⟨(some 8), .faddr 1 (.tmp 7), none⟩, ⟨(some 9), .load none (.tmp 8), none⟩, ⟨(some 10), .lenL (.tmp 9), none⟩, ⟨(some 11), .bin .eql (.tmp 10) (.val (.int .i64 0)), none⟩, ⟨(some 12), .mov (.tmp 11), none⟩, ⟨(some 13), .faddr 0 (.tmp 1), (some (12, false))⟩, ⟨(some 14), .faddr 6 (.tmp 13), (some (12, false))⟩, ⟨(some 15), .load none (.tmp 14), (some (12, false))⟩, ⟨(some 16), .bin .lss (.tmp 15) (.val (.int .i64 1)), (some (12, false))⟩, ⟨(some 17), .pick (.tmp 12) (.val (.bool true)) (.tmp 16), none⟩, ⟨(some 18), .mov (.tmp 17), none⟩, ⟨(some 19), .faddr 0 (.tmp 1), (some (18, false))⟩, ⟨(some 20), .faddr 6 (.tmp 19), (some (18, false))⟩, ⟨(some 21), .load none (.tmp 20), (some (18, false))⟩, ⟨(some 22), .bin .gtr (.tmp 21) (.val (.int .i64 65536)), (some (18, false))⟩, ⟨(some 23), .pick (.tmp 18) (.val (.bool true)) (.tmp 22), none⟩, ⟨(some 24), .mov (.tmp 23), none⟩, ⟨(some 25), .faddr 0 (.tmp 1), (some (24, false))⟩, ⟨(some 26), .faddr 3 (.tmp 25), (some (24, false))⟩, ⟨(some 27), .load none (.tmp 26), (some (24, false))⟩, ⟨(some 28), .bin .lss (.tmp 27) (.val (.int .i64 0)), (some (24, false))⟩, ⟨(some 29), .pick (.tmp 24) (.val (.bool true)) (.tmp 28), none⟩, ⟨(some 30), .mov (.tmp 29), none⟩, ⟨(some 31), .faddr 0 (.tmp 1), (some (30, false))⟩, ⟨(some 32), .faddr 3 (.tmp 31), (some (30, false))⟩, ⟨(some 33), .load none (.tmp 32), (some (30, false))⟩, ⟨(some 34), .faddr 0 (.tmp 1), (some (30, false))⟩, ⟨(some 35), .faddr 1 (.tmp 34), (some (30, false))⟩, ⟨(some 36), .load none (.tmp 35), (some (30, false))⟩, ⟨(some 37), .lenL (.tmp 36), (some (30, false))⟩, ⟨(some 38), .bin .geq (.tmp 33) (.tmp 37), (some (30, false))⟩, ⟨(some 39), .pick (.tmp 30) (.val (.bool true)) (.tmp 38), none⟩, ⟨(some 40), .mov (.tmp 39), none⟩, ⟨(some 41), .faddr 0 (.tmp 1), (some (40, false))⟩, ⟨(some 42), .faddr 1 (.tmp 41), (some (40, false))⟩, ⟨(some 43), .load none (.tmp 42), (some (40, false))⟩, ⟨(some 44), .faddr 0 (.tmp 1), (some (40, false))⟩, ⟨(some 45), .faddr 3 (.tmp 44), (some (40, false))⟩, ⟨(some 46), .load none (.tmp 45), (some (40, false))⟩, ⟨(some 47), .iaddrL 3 (.tmp 43) (.tmp 46), (some (40, false))⟩, ⟨(some 48), .faddr 1 (.tmp 47), (some (40, false))⟩, ⟨(some 49), .load none (.tmp 48), (some (40, false))⟩, ⟨(some 50), .bin .neq (.tmp 49) (.val (.int .i64 0)), (some (40, false))⟩, ⟨(some 51), .pick (.tmp 40) (.val (.bool true)) (.tmp 50), none⟩])
 (.cond (.tmp 51) (.seq (.reg [⟨(some 2), .mov (.val (.int .i64 2)), none⟩])
 .ret) .skip))
 (.seq (.seq (.reg [⟨(some 52), .faddr 0 (.tmp 1), none⟩, ⟨(some 53), .faddr 1 (.tmp 52), none⟩, ⟨(some 54), .load none (.tmp 53), none⟩, ⟨(some 55), .lenL (.tmp 54), none⟩, ⟨(some 56), .mov (.val (.int .i64 0)), none⟩])
 (.block 0 a181_L1))
 (.seq (.reg [⟨(some 2), .mov (.val (.int .i64 0)), none⟩])
 .ret)))) }
def h182 : Hints := ⟨[1, 4], [], []⟩
def a182_B1 : AC := (.seq (.reg [⟨(some 15), .bin .lss (.tmp 14) (.tmp 13), none⟩])
 (.seq (.cond (.tmp 15) .skip (.exit 0))
 (.seq (.block 1 (.seq (.reg [⟨(some 16), .iaddrL 3 (.tmp 12) (.tmp 14), none⟩, ⟨(some 17), .load (some 3) (.tmp 16), none⟩, ⟨(some 4), .alloc (some 4) [(.int .i64 0), (.int .i64 0), (.int .i64 0)], none⟩, ⟨none, .store 3 (.tmp 4) (.tmp 17), none⟩])
 (.seq (.reg [⟨(some 18), .faddr 2 (.tmp 4), none⟩, ⟨(some 19), .load none (.tmp 18), none⟩, ⟨(some 20), .faddr 0 (.tmp 1), none⟩, ⟨(some 21), .faddr 1 (.tmp 20), none⟩, ⟨(some 22), .load none (.tmp 21), none⟩, ⟨(some 23), .lenL (.tmp 22), none⟩, ⟨(some 24), .bin .geq (.tmp 19) (.tmp 23), none⟩, ⟨(some 25), .mov (.tmp 24), none⟩, ⟨(some 26), .faddr 2 (.tmp 4), (some (25, false))⟩, ⟨(some 27), .load none (.tmp 26), (some (25, false))⟩, ⟨(some 28), .faddr 0 (.tmp 1), (some (25, false))⟩, ⟨(some 29), .faddr 3 (.tmp 28), (some (25, false))⟩, ⟨(some 30), .load none (.tmp 29), (some (25, false))⟩, ⟨(some 31), .bin .eql (.tmp 27) (.tmp 30), (some (25, false))⟩, ⟨(some 32), .pick (.tmp 25) (.val (.bool true)) (.tmp 31), none⟩, ⟨(some 33), .mov (.tmp 32), none⟩, ⟨(some 34), .faddr 0 (.tmp 1), (some (33, false))⟩, ⟨(some 35), .faddr 1 (.tmp 34), (some (33, false))⟩, ⟨(some 36), .load none (.tmp 35), (some (33, false))⟩, ⟨(some 37), .faddr 2 (.tmp 4), (some (33, false))⟩, ⟨(some 38), .load none (.tmp 37), (some (33, false))⟩, ⟨(some 39), .iaddrL 3 (.tmp 36) (.tmp 38), (some (33, false))⟩, ⟨(some 40), .faddr 1 (.tmp 39), (some (33, false))⟩, ⟨(some 41), .load none (.tmp 40), (some (33, false))⟩, ⟨(some 42), .bin .neq (.tmp 41) (.val (.int .i64 0)), (some (33, false))⟩, ⟨(some 43), .pick (.tmp 33) (.val (.bool true)) (.tmp 42), none⟩])
 (.cond (.tmp 43) (.seq (.reg [⟨(some 2), .mov (.val (.int .i64 2)), none⟩])
 .ret) .skip))))
 (.reg [⟨(some 44), .bin .add (.tmp 14) (.val (.int .i64 1)), none⟩, ⟨(some 14), .mov (.tmp 44), none⟩]))))
def a182_L1 : AC := .loop a182_B1
theorem a182_L1_step (call : Caller) (again : AC → St → Option (Ex × St)) (s : St) : codeEv call again a182_L1 s = match codeEv call again a182_B1 s with | some (.norm, s1) => again a182_L1 s1 | r => r := rfl
def a182 : AFn := { n := 45, np := 1, res := [.tmp 2], body :=
 (.seq (.reg [⟨(some 1), .box (some 1) (.tmp 0), none⟩, ⟨(some 2), .mov (.val (.int .i64 0)), none⟩])
 (.seq (.seq (.reg [⟨(some 5), .faddr 0 (.tmp 1), none⟩, ⟨(some 6), .faddr 2 (.tmp 5), none⟩, ⟨(some 7), .load none (.tmp 6), none⟩, ⟨(some 8), .call 186 [(.tmp 7)], none⟩, ⟨(some 9), .bin .neq (.tmp 8) (.val (.int .i64 0)), none⟩])
 (.cond (.tmp 9) (.seq (.reg [⟨(some 2), .mov (.val (.int .i64 2)), none⟩])
 .ret) .skip))
 (.seq (.seq (.reg [⟨(some 10), .faddr 0 (.tmp 1), none⟩, ⟨(some 11), .faddr 2 (.tmp 10), none⟩, ⟨(some 12), .load none (.tmp 11), none⟩, ⟨(some 13), .lenL (.tmp 12), none⟩, ⟨(some 14), .mov (.val (.int .i64 0)), none⟩])
 (.block 0 a182_L1))
 (.seq (.reg [⟨(some 2), .mov (.val (.int .i64 0)), none⟩])
 .ret)))) }
def h183 : Hints := ⟨[1, 7], [], []⟩
def a183_B1 : AC := (.seq (.reg [⟨(some 30), .bin .lss (.tmp 29) (.tmp 28), none⟩])
 (.seq (.cond (.tmp 30) .skip (.exit 2))
 (.seq (.block 3 (.seq (.reg [⟨(some 31), .iaddrL 4 (.tmp 27) (.tmp 29), none⟩, ⟨(some 32), .load (some 4) (.tmp 31), none⟩, ⟨(some 7), .alloc (some 7) [(.int .i64 0), (.int .i64 0), (.int .i64 0), (.int .i64 0)], none⟩, ⟨none, .store 4 (.tmp 7) (.tmp 32), none⟩])
 (.seq (.reg [⟨(some 33), .load (some 4) (.tmp 7), none⟩, ⟨(some 34), .call 122 [(.tmp 33)], none⟩, ⟨(some 35), .bin .neq (.tmp 34) (.val (.int .i64 0)), none⟩, ⟨(some 36), .mov (.tmp 35), none⟩, ⟨(some 37), .load (some 8) (.tmp 1), (some (36, false))⟩, ⟨(some 38), .mov (.tmp 3), (some (36, false))⟩, ⟨(some 39), .mov (.tmp 4), (some (36, false))⟩, ⟨(some 40), .mov (.tmp 5), (some (36, false))⟩, ⟨(some 41), .load (some 4) (.tmp 7), (some (36, false))⟩, ⟨(some 42), .call 187 [(.tmp 37), (.tmp 38), (.tmp 39), (.tmp 40), (.tmp 41)], (some (36, false))⟩, ⟨(some 43), .un .not (.tmp 42), (some (36, false))⟩, ⟨(some 44), .pick (.tmp 36) (.val (.bool true)) (.tmp 43), none⟩])
 (.cond (.tmp 44) (.seq (.reg [⟨(some 2), .mov (.val (.int .i64 2)), none⟩])
 .ret) .skip))))
 (.reg [⟨(some 45), .bin .add (.tmp 29) (.val (.int .i64 1)), none⟩, ⟨(some 29), .mov (.tmp 45), none⟩]))))
def a183_L1 : AC := .loop a183_B1
theorem a183_L1_step (call : Caller) (again : AC → St → Option (Ex × St)) (s : St) : codeEv call again a183_L1 s = match codeEv call again a183_B1 s with | some (.norm, s1) => again a183_L1 s1 | r => r := rfl
def a183_B2 : AC := (.seq (.reg [⟨(some 14), .bin .lss (.tmp 13) (.tmp 12), none⟩])
 (.seq (.cond (.tmp 14) .skip (.exit 0))
 (.seq (.block 1 (.seq (.reg [⟨(some 15), .mov (.tmp 13), none⟩, ⟨(some 3), .mov (.tmp 15), none⟩])
 (.seq (.reg [⟨(some 17), .load (some 8) (.tmp 1), none⟩, ⟨(some 18), .mov (.tmp 3), none⟩, ⟨(some 19), .call 109 [(.tmp 17), (.tmp 18)], none⟩, ⟨(some 16), .mov (.tmp 19), none⟩, ⟨(some 20), .ext (.tmp 16) 0, none⟩, ⟨(some 21), .ext (.tmp 16) 1, none⟩, ⟨(some 4), .mov (.tmp 20), none⟩, ⟨(some 5), .mov (.tmp 21), none⟩])
 (.seq (.seq (.reg [⟨(some 22), .faddr 0 (.tmp 1), none⟩, ⟨(some 23), .faddr 0 (.tmp 22), none⟩, ⟨(some 24), .load none (.tmp 23), none⟩, ⟨(some 25), .mov (.tmp 4), none⟩, ⟨(some 26), .mov (.tmp 5), none⟩, ⟨(some 27), .slcL 4 (.tmp 24) (some (.tmp 25)) (some (.tmp 26)) none, none⟩, ⟨(some 28), .lenL (.tmp 27), none⟩, ⟨(some 29), .mov (.val (.int .i64 0)), none⟩])
 (.block 2 a183_L1))
 (.seq (.reg [⟨(some 46), .faddr 0 (.tmp 1), none⟩, ⟨(some 47), .faddr 0 (.tmp 46), none⟩, ⟨(some 48), .load none (.tmp 47), none⟩, ⟨(some 49), .mov (.tmp 5), none⟩, ⟨(some 50), .bin .sub (.tmp 49) (.val (.int .i64 1)), none⟩, ⟨(some 51), .iaddrL 4 (.tmp 48) (.tmp 50), none⟩, ⟨(some 52), .faddr 0 (.tmp 51), none⟩, ⟨(some 53), .load none (.tmp 52), none⟩, ⟨(some 8), .mov (.tmp 53), none⟩])
 (.seq (.reg [⟨(some 54), .mov (.tmp 8), none⟩, ⟨(some 55), .bin .neq (.tmp 54) (.val (.int .i64 1)), none⟩, ⟨(some 56), .mov (.tmp 55), none⟩, ⟨(some 57), .mov (.tmp 8), (some (56, true))⟩, ⟨(some 58), .bin .neq (.tmp 57) (.val (.int .i64 15)), (some (56, true))⟩, ⟨(some 59), .pick (.tmp 56) (.tmp 58) (.val (.bool false)), none⟩, ⟨(some 60), .mov (.tmp 59), none⟩, ⟨(some 61), .mov (.tmp 8), (some (60, true))⟩, ⟨(some 62), .bin .neq (.tmp 61) (.val (.int .i64 18)), (some (60, true))⟩, ⟨(some 63), .pick (.tmp 60) (.tmp 62) (.val (.bool false)), none⟩])
 (.cond (.tmp 63) (.seq (.reg [⟨(some 2), .mov (.val (.int .i64 2)), none⟩])
 .ret) .skip)))))))
 (.reg [⟨(some 64), .bin .add (.tmp 13) (.val (.int .i64 1)), none⟩, ⟨(some 13), .mov (.tmp 64), none⟩]))))
def a183_L2 : AC := .loop a183_B2
theorem a183_L2_step (call : Caller) (again : AC → St → Option (Ex × St)) (s : St) : codeEv call again a183_L2 s = match codeEv call again a183_B2 s with | some (.norm, s1) => again a183_L2 s1 | r => r := rfl
def a183 : AFn := { n := 65, np := 1, res := [.tmp 2], body :=
 (.seq (.reg [⟨(some 1), .box (some 1) (.tmp 0), none⟩, ⟨(some 2), .mov (.val (.int .i64 0)), none⟩])
 (.seq (.seq (.reg [⟨(some 9), .faddr 0 (.tmp 1), none⟩, ⟨(some 10), .faddr 1 (.tmp 9), none⟩, ⟨(some 11), .load none (.tmp 10), none⟩, ⟨(some 12), .lenL (.tmp 11), none⟩, ⟨(some 13), .mov (.val (.int .i64 0)), none⟩])
 (.block 0 a183_L2))
 (.seq (.reg [⟨(some 2), .mov (.val (.int .i64 0)), none⟩])
 .ret))) }
def h184 : Hints := ⟨[1], [], []⟩
def a184_B1 : AC := (.seq (.reg [⟨(some 18), .bin .lss (.tmp 17) (.tmp 16), none⟩])
 (.seq (.cond (.tmp 18) .skip (.exit 2))
 (.seq (.block 3 (.seq (.reg [⟨(some 19), .mov (.tmp 17), none⟩, ⟨(some 20), .iaddrL 1 (.tmp 15) (.tmp 17), none⟩, ⟨(some 21), .load none (.tmp 20), none⟩, ⟨(some 5), .mov (.tmp 19), none⟩, ⟨(some 6), .mov (.tmp 21), none⟩])
 (.seq (.reg [⟨(some 22), .mov (.tmp 6), none⟩, ⟨(some 23), .bin .lss (.tmp 22) (.val (.int .i64 0)), none⟩, ⟨(some 24), .mov (.tmp 23), none⟩, ⟨(some 25), .mov (.tmp 6), (some (24, false))⟩, ⟨(some 26), .faddr 0 (.tmp 1), (some (24, false))⟩, ⟨(some 27), .faddr 4 (.tmp 26), (some (24, false))⟩, ⟨(some 28), .load none (.tmp 27), (some (24, false))⟩, ⟨(some 29), .lenL (.tmp 28), (some (24, false))⟩, ⟨(some 30), .bin .geq (.tmp 25) (.tmp 29), (some (24, false))⟩, ⟨(some 31), .pick (.tmp 24) (.val (.bool true)) (.tmp 30), none⟩, ⟨(some 32), .mov (.tmp 31), none⟩, ⟨(some 33), .mov (.tmp 5), (some (32, false))⟩, ⟨(some 34), .bin .gtr (.tmp 33) (.val (.int .i64 0)), (some (32, false))⟩, ⟨(some 35), .mov (.tmp 34), (some (32, false))⟩, ⟨(some 36), .mov (.tmp 6), (some (35, true))⟩, ⟨(some 37), .mov (.tmp 4), (some (35, true))⟩, ⟨(some 38), .mov (.tmp 5), (some (35, true))⟩, ⟨(some 39), .bin .sub (.tmp 38) (.val (.int .i64 1)), (some (35, true))⟩, ⟨(some 40), .iaddrL 1 (.tmp 37) (.tmp 39), (some (35, true))⟩, ⟨(some 41), .load none (.tmp 40), (some (35, true))⟩, ⟨(some 42), .bin .leq (.tmp 36) (.tmp 41), (some (35, true))⟩, ⟨(some 43), .pick (.tmp 35) (.tmp 42) (.val (.bool false)), (some (32, false))⟩, ⟨(some 44), .pick (.tmp 32) (.val (.bool true)) (.tmp 43), none⟩])
 (.cond (.tmp 44) (.seq (.reg [⟨(some 2), .mov (.val (.int .i64 2)), none⟩])
 .ret) .skip))))
 (.reg [⟨(some 45), .bin .add (.tmp 17) (.val (.int .i64 1)), none⟩, ⟨(some 17), .mov (.tmp 45), none⟩]))))
def a184_L1 : AC := .loop a184_B1
theorem a184_L1_step (call : Caller) (again : AC → St → Option (Ex × St)) (s : St) : codeEv call again a184_L1 s = match codeEv call again a184_B1 s with | some (.norm, s1) => again a184_L1 s1 | r => r := rfl
def a184_B2 : AC := (.seq (.reg [⟨(some 12), .bin .lss (.tmp 11) (.tmp 10), none⟩])
 (.seq (.cond (.tmp 12) .skip (.exit 0))
 (.seq (.block 1 (.seq (.reg [⟨(some 13), .iaddrL 1 (.tmp 9) (.tmp 11), none⟩, ⟨(some 14), .load none (.tmp 13), none⟩, ⟨(some 4), .mov (.tmp 14), none⟩])
 (.seq (.reg [⟨(some 15), .mov (.tmp 4), none⟩, ⟨(some 16), .lenL (.tmp 15), none⟩, ⟨(some 17), .mov (.val (.int .i64 0)), none⟩])
 (.block 2 a184_L1))))
 (.reg [⟨(some 46), .bin .add (.tmp 11) (.val (.int .i64 1)), none⟩, ⟨(some 11), .mov (.tmp 46), none⟩]))))
def a184_L2 : AC := .loop a184_B2
theorem a184_L2_step (call : Caller) (again : AC → St → Option (Ex × St)) (s : St) : codeEv call again a184_L2 s = match codeEv call again a184_B2 s with | some (.norm, s1) => again a184_L2 s1 | r => r := rfl
def a184 : AFn := { n := 47, np := 1, res := [.tmp 2], body :=
 (.seq (.reg [⟨(some 1), .box (some 1) (.tmp 0), none⟩, ⟨(some 2), .mov (.val (.int .i64 0)), none⟩])
 (.seq (.seq (.reg [⟨(some 7), .faddr 0 (.tmp 1), none⟩, ⟨(some 8), .faddr 7 (.tmp 7), none⟩, ⟨(some 9), .load none (.tmp 8), none⟩, ⟨(some 10), .lenL (.tmp 9), none⟩, ⟨(some 11), .mov (.val (.int .i64 0)), none⟩])
 (.block 0 a184_L2))
 (.seq (.reg [⟨(some 2), .mov (.val (.int .i64 0)), none⟩])
 .ret))) }
def h185 : Hints := ⟨[], [], []⟩
def a185_B1 : AC := (.seq (.reg [⟨(some 12), .bin .lss (.tmp 11) (.tmp 10), none⟩])
 (.seq (.cond (.tmp 12) .skip (.exit 0))
 (.seq (.block 1 (.seq (.reg [⟨(some 13), .mov (.tmp 11), none⟩, ⟨(some 5), .mov (.tmp 13), none⟩])
 (.seq (.reg [⟨(some 14), .mov (.tmp 5), none⟩, ⟨(some 15), .iaddrA 64 1 (.tmp 3) (.tmp 14), none⟩, ⟨(some 16), .load none (.tmp 15), none⟩, ⟨(some 17), .bin .eql (.tmp 16) (.val (.int .u8 0)), none⟩, ⟨(some 18), .mov (.tmp 17), none⟩, ⟨(some 19), .load none (.tmp 4), (some (18, true))⟩, ⟨(some 20), .mov (.tmp 5), (some (18, true))⟩, ⟨(some 21), .callv (.tmp 19) [(.tmp 20)], (some (18, true))⟩, ⟨(some 22), .un .not (.tmp 21), (some (18, true))⟩, ⟨(some 23), .pick (.tmp 18) (.tmp 22) (.val (.bool false)), none⟩])
 (.cond (.tmp 23) (.seq (.reg [⟨(some 2), .mov (.val (.int .i64 13)), none⟩])
 .ret) .skip))))
 (.reg [⟨(some 24), .bin .add (.tmp 11) (.val (.int .i64 1)), none⟩, ⟨(some 11), .mov (.tmp 24), none⟩]))))
def a185_L1 : AC := .loop a185_B1
theorem a185_L1_step (call : Caller) (again : AC → St → Option (Ex × St)) (s : St) : codeEv call again a185_L1 s = match codeEv call again a185_B1 s with | some (.norm, s1) => again a185_L1 s1 | r => r := rfl
def a185 : AFn := { n := 25, np := 1, res := [.tmp 2], body :=
 (.seq (.reg [⟨(some 1), .box none (.tmp 0), none⟩, ⟨(some 2), .mov (.val (.int .i64 0)), none⟩])
 (.seq (.reg [⟨(some 3), .alloc none [(.int .u8 0), (.int .u8 0), (.int .u8 0), (.int .u8 0), (.int .u8 0), (.int .u8 0), (.int .u8 0), (.int .u8 0), (.int .u8 0), (.int .u8 0), (.int .u8 0), (.int .u8 0), (.int .u8 0), (.int .u8 0), (.int .u8 0), (.int .u8 0), (.int .u8 0), (.int .u8 0), (.int .u8 0), (.int .u8 0), (.int .u8 0), (.int .u8 0), (.int .u8 0), (.int .u8 0), (.int .u8 0), (.int .u8 0), (.int .u8 0), (.int .u8 0), (.int .u8 0), (.int .u8 0), (.int .u8 0), (.int .u8 0), (.int .u8 0), (.int .u8 0), (.int .u8 0), (.int .u8 0), (.int .u8 0), (.int .u8 0), (.int .u8 0), (.int .u8 0), (.int .u8 0), (.int .u8 0), (.int .u8 0), (.int .u8 0), (.int .u8 0), (.int .u8 0), (.int .u8 0), (.int .u8 0), (.int .u8 0), (.int .u8 0), (.int .u8 0), (.int .u8 0), (.int .u8 0), (.int .u8 0), (.int .u8 0), (.int .u8 0), (.int .u8 0), (.int .u8 0), (.int .u8 0), (.int .u8 0), (.int .u8 0), (.int .u8 0), (.int .u8 0), (.int .u8 0)], none⟩])
 (.seq (.reg [⟨(some 4), .alloc none [.nilf], none⟩])
 (.seq (.reg [⟨(some 6), .mkfn 188 [(.tmp 3), (.tmp 1), (.tmp 4)], none⟩, ⟨none, .store 1 (.tmp 4) (.tmp 6), none⟩])
 (.seq (.seq (.reg [⟨(some 7), .faddr 0 (.tmp 1), none⟩, ⟨(some 8), .faddr 1 (.tmp 7), none⟩, ⟨(some 9), .load none (.tmp 8), none⟩, ⟨(some 10), .lenL (.tmp 9), none⟩, ⟨(some 11), .mov (.val (.int .i64 0)), none⟩])
 (.block 0 a185_L1))
 (.seq (.reg [⟨(some 2), .mov (.val (.int .i64 0)), none⟩])
 .ret)))))) }
def h186 : Hints := ⟨[5], [], []⟩
def a186_B1 : AC := (.seq (.reg [⟨(some 12), .bin .lss (.tmp 11) (.tmp 10), none⟩])
 (.seq (.cond (.tmp 12) .skip (.exit 0))
 (.seq (.block 1 (.seq (.reg [⟨(some 13), .iaddrL 3 (.tmp 9) (.tmp 11), none⟩, ⟨(some 14), .load (some 3) (.tmp 13), none⟩, ⟨(some 5), .alloc (some 5) [(.int .i64 0), (.int .i64 0), (.int .i64 0)], none⟩, ⟨none, .store 3 (.tmp 5) (.tmp 14), none⟩])
 (.seq (.seq (.reg [⟨(some 15), .faddr 0 (.tmp 5), none⟩, ⟨(some 16), .load none (.tmp 15), none⟩, ⟨(some 17), .bin .lss (.tmp 16) (.val (.int .i64 0)), none⟩, ⟨(some 18), .mov (.tmp 17), none⟩, ⟨(some 19), .faddr 0 (.tmp 5), (some (18, false))⟩, ⟨(some 20), .load none (.tmp 19), (some (18, false))⟩, ⟨(some 21), .bin .gtr (.tmp 20) (.val (.int .i64 31)), (some (18, false))⟩, ⟨(some 22), .pick (.tmp 18) (.val (.bool true)) (.tmp 21), none⟩, ⟨(some 23), .mov (.tmp 22), none⟩, ⟨(some 24), .faddr 1 (.tmp 5), (some (23, false))⟩, ⟨(some 25), .load none (.tmp 24), (some (23, false))⟩, ⟨(some 26), .bin .lss (.tmp 25) (.val (.int .i64 1)), (some (23, false))⟩, ⟨(some 27), .pick (.tmp 23) (.val (.bool true)) (.tmp 26), none⟩, ⟨(some 28), .mov (.tmp 27), none⟩, ⟨(some 29), .faddr 1 (.tmp 5), (some (28, false))⟩, ⟨(some 30), .load none (.tmp 29), (some (28, false))⟩, ⟨(some 31), .bin .gtr (.tmp 30) (.val (.int .i64 15)), (some (28, false))⟩, ⟨(some 32), .pick (.tmp 28) (.val (.bool true)) (.tmp 31), none⟩, ⟨(some 33), .mov (.tmp 32), none⟩, ⟨(some 34), .faddr 2 (.tmp 5), (some (33, false))⟩, ⟨(some 35), .load none (.tmp 34), (some (33, false))⟩, ⟨(some 36), .bin .lss (.tmp 35) (.val (.int .i64 0)), (some (33, false))⟩, ⟨(some 37), .pick (.tmp 33) (.val (.bool true)) (.tmp 36), none⟩, ⟨(some 38), .mov (.tmp 37), none⟩, ⟨(some 39), .mov (.tmp 3), (some (38, false))⟩, ⟨(some 40), .faddr 0 (.tmp 5), (some (38, false))⟩, ⟨(some 41), .load none (.tmp 40), (some (38, false))⟩, ⟨(some 42), .call 190 [(.tmp 39), (.tmp 41)], (some (38, false))⟩, ⟨(some 43), .pick (.tmp 38) (.val (.bool true)) (.tmp 42), none⟩])
 (.cond (.tmp 43) (.seq (.reg [⟨(some 2), .mov (.val (.int .i64 2)), none⟩])
 .ret) .skip))
 (.reg [⟨(some 44), .mov (.tmp 3), none⟩, ⟨(some 45), .faddr 0 (.tmp 5), none⟩, ⟨(some 46), .load none (.tmp 45), none⟩, ⟨(some 47), .bin .shl (.val (.int .u32 1)) (.tmp 46), none⟩, ⟨(some 48), .bin .or (.tmp 44) (.tmp 47), none⟩, ⟨(some 3), .mov (.tmp 48), none⟩]))))
 (.reg [⟨(some 49), .bin .add (.tmp 11) (.val (.int .i64 1)), none⟩, ⟨(some 11), .mov (.tmp 49), none⟩]))))
def a186_L1 : AC := .loop a186_B1
theorem a186_L1_step (call : Caller) (again : AC → St → Option (Ex × St)) (s : St) : codeEv call again a186_L1 s = match codeEv call again a186_B1 s with | some (.norm, s1) => again a186_L1 s1 | r => r := rfl
def a186 : AFn := { n := 50, np := 1, res := [.tmp 2], body :=
 (.seq (.reg [⟨(some 2), .mov (.val (.int .i64 0)), none⟩])
 (.seq (.seq (.reg [⟨(some 6), .mov (.tmp 0), none⟩, ⟨(some 7), .lenL (.tmp 6), none⟩, ⟨(some 8), .bin .gtr (.tmp 7) (.val (.int .i64 32)), none⟩])
 (.cond (.tmp 8) (.seq (.reg [⟨(some 2), .mov (.val (.int .i64 3)), none⟩])
 .ret) .skip))
 (.seq (.reg [⟨(some 3), .mov (.val (.int .u32 0)), none⟩])
 (.seq (.seq (.reg [⟨(some 9), .mov (.tmp 0), none⟩, ⟨(some 10), .lenL (.tmp 9), none⟩, ⟨(some 11), .mov (.val (.int .i64 0)), none⟩])
 (.block 0 a186_L1))
 (.seq (.reg [⟨(some 2), .mov (.val (.int .i64 0)), none⟩])
 .ret))))) }
def h187 : Hints := ⟨[5, 9], [], []⟩
def a187 : AFn := { n := 98, np := 5, res := [.tmp 10], body :=
 (.seq (.reg [⟨(some 5), .box (some 5) (.tmp 0), none⟩, ⟨(some 9), .box (some 9) (.tmp 4), none⟩, ⟨(some 10), .mov (.val (.bool false)), none⟩])
 (.seq (.seq (.reg [⟨(some 11), .faddr 0 (.tmp 9), none⟩, ⟨(some 12), .load none (.tmp 11), none⟩])
 (.block 0 (.seq (.reg [⟨(some 14), .bin .eql (.tmp 12) (.val (.int .i64 1)), none⟩, ⟨(some 13), .mov (.tmp 14), none⟩])
 (.cond (.tmp 13) (.seq (.reg [⟨(some 15), .mov (.tmp 1), none⟩, ⟨(some 16), .faddr 0 (.tmp 5), none⟩, ⟨(some 17), .faddr 3 (.tmp 16), none⟩, ⟨(some 18), .load none (.tmp 17), none⟩, ⟨(some 19), .bin .eql (.tmp 15) (.tmp 18), none⟩, ⟨(some 10), .mov (.tmp 19), none⟩])
 .ret) (.seq (.seq (.reg [⟨(some 21), .bin .eql (.tmp 12) (.val (.int .i64 4)), none⟩, ⟨(some 20), .mov (.tmp 21), none⟩])
 (.cond (.tmp 20) .skip (.reg [⟨(some 22), .bin .eql (.tmp 12) (.val (.int .i64 5)), none⟩, ⟨(some 20), .mov (.tmp 22), none⟩])))
 (.cond (.tmp 20) (.seq (.reg [⟨(some 23), .faddr 1 (.tmp 9), none⟩, ⟨(some 24), .load none (.tmp 23), none⟩, ⟨(some 25), .faddr 0 (.tmp 5), none⟩, ⟨(some 26), .faddr 4 (.tmp 25), none⟩, ⟨(some 27), .load none (.tmp 26), none⟩, ⟨(some 28), .lenL (.tmp 27), none⟩, ⟨(some 29), .bin .lss (.tmp 24) (.tmp 28), none⟩, ⟨(some 10), .mov (.tmp 29), none⟩])
 .ret) (.seq (.seq (.reg [⟨(some 31), .bin .eql (.tmp 12) (.val (.int .i64 6)), none⟩, ⟨(some 30), .mov (.tmp 31), none⟩])
 (.cond (.tmp 30) .skip (.reg [⟨(some 32), .bin .eql (.tmp 12) (.val (.int .i64 7)), none⟩, ⟨(some 30), .mov (.tmp 32), none⟩])))
 (.cond (.tmp 30) (.seq (.reg [⟨(some 33), .faddr 1 (.tmp 9), none⟩, ⟨(some 34), .load none (.tmp 33), none⟩, ⟨(some 35), .faddr 2 (.tmp 9), none⟩, ⟨(some 36), .load none (.tmp 35), none⟩, ⟨(some 37), .bin .add (.tmp 34) (.tmp 36), none⟩, ⟨(some 38), .faddr 0 (.tmp 5), none⟩, ⟨(some 39), .faddr 4 (.tmp 38), none⟩, ⟨(some 40), .load none (.tmp 39), none⟩, ⟨(some 41), .lenL (.tmp 40), none⟩, ⟨(some 42), .bin .leq (.tmp 37) (.tmp 41), none⟩, ⟨(some 10), .mov (.tmp 42), none⟩])
 .ret) (.seq (.seq (.reg [⟨(some 44), .bin .eql (.tmp 12) (.val (.int .i64 8)), none⟩, ⟨(some 43), .mov (.tmp 44), none⟩])
 (.cond (.tmp 43) .skip (.reg [⟨(some 45), .bin .eql (.tmp 12) (.val (.int .i64 9)), none⟩, ⟨(some 43), .mov (.tmp 45), none⟩])))
 (.cond (.tmp 43) (.seq (.dreg [(false, ⟨(some 46), .faddr 1 (.tmp 9), none⟩, false), (false, ⟨(some 47), .load none (.tmp 46), none⟩, false), (false, ⟨(some 48), .faddr 0 (.tmp 5), none⟩, false), (false, ⟨(some 49), .faddr 1 (.tmp 48), none⟩, false), (false, ⟨(some 50), .load none (.tmp 49), none⟩, false), (false, ⟨(some 51), .mov (.tmp 1), none⟩, false), (false, ⟨(some 52), .iaddrL 3 (.tmp 50) (.tmp 51), none⟩, false), (false, ⟨(some 53), .faddr 2 (.tmp 52), none⟩, false), (false, ⟨(some 54), .load none (.tmp 53), none⟩, false), (false, ⟨(some 55), .bin .lss (.tmp 47) (.tmp 54), none⟩, false), (false, ⟨(some 10), .mov (.tmp 55), none⟩, false)])
 .ret) (.seq (.seq (.reg [⟨(some 57), .bin .eql (.tmp 12) (.val (.int .i64 10)), none⟩, ⟨(some 56), .mov (.tmp 57), none⟩])
 (.cond (.tmp 56) .skip (.reg [⟨(some 58), .bin .eql (.tmp 12) (.val (.int .i64 11)), none⟩, ⟨(some 56), .mov (.tmp 58), none⟩])))
 (.cond (.tmp 56) (.seq (.reg [⟨(some 59), .faddr 1 (.tmp 9), none⟩, ⟨(some 60), .load none (.tmp 59), none⟩, ⟨(some 61), .faddr 0 (.tmp 5), none⟩, ⟨(some 62), .faddr 5 (.tmp 61), none⟩, ⟨(some 63), .load none (.tmp 62), none⟩, ⟨(some 64), .lenL (.tmp 63), none⟩, ⟨(some 65), .bin .lss (.tmp 60) (.tmp 64), none⟩, ⟨(some 10), .mov (.tmp 65), none⟩])
 .ret) (.seq (.seq (.reg [⟨(some 67), .bin .eql (.tmp 12) (.val (.int .i64 15)), none⟩, ⟨(some 66), .mov (.tmp 67), none⟩])
 (.cond (.tmp 66) .skip (.reg [⟨(some 68), .bin .eql (.tmp 12) (.val (.int .i64 16)), none⟩, ⟨(some 66), .mov (.tmp 68), none⟩])))
 (.cond (.tmp 66) (.seq (.reg [⟨(some 69), .faddr 1 (.tmp 9), none⟩, ⟨(some 70), .load none (.tmp 69), none⟩, ⟨(some 71), .mov (.tmp 2), none⟩, ⟨(some 72), .bin .geq (.tmp 70) (.tmp 71), none⟩, ⟨(some 73), .mov (.tmp 72), none⟩, ⟨(some 74), .faddr 1 (.tmp 9), (some (73, true))⟩, ⟨(some 75), .load none (.tmp 74), (some (73, true))⟩, ⟨(some 76), .mov (.tmp 3), (some (73, true))⟩, ⟨(some 77), .bin .lss (.tmp 75) (.tmp 76), (some (73, true))⟩, ⟨(some 78), .pick (.tmp 73) (.tmp 77) (.val (.bool false)), none⟩, ⟨(some 10), .mov (.tmp 78), none⟩])
 .ret) (.seq (.reg [⟨(some 80), .bin .eql (.tmp 12) (.val (.int .i64 17)), none⟩, ⟨(some 79), .mov (.tmp 80), none⟩])
 (.cond (.tmp 79) (.seq (.reg [⟨(some 81), .faddr 1 (.tmp 9), none⟩, ⟨(some 82), .load none (.tmp 81), none⟩, ⟨(some 83), .faddr 0 (.tmp 5), none⟩, ⟨(some 84), .faddr 1 (.tmp 83), none⟩, ⟨(some 85), .load none (.tmp 84), none⟩, ⟨(some 86), .lenL (.tmp 85), none⟩, ⟨(some 87), .bin .lss (.tmp 82) (.tmp 86), none⟩, ⟨(some 10), .mov (.tmp 87), none⟩])
 .ret) (.seq (.seq (.reg [⟨(some 89), .bin .eql (.tmp 12) (.val (.int .i64 23)), none⟩, ⟨(some 88), .mov (.tmp 89), none⟩])
 (.cond (.tmp 88) .skip (.reg [⟨(some 90), .bin .eql (.tmp 12) (.val (.int .i64 24)), none⟩, ⟨(some 88), .mov (.tmp 90), none⟩])))
 (.cond (.tmp 88) (.seq (.reg [⟨(some 91), .faddr 1 (.tmp 9), none⟩, ⟨(some 92), .load none (.tmp 91), none⟩, ⟨(some 93), .faddr 0 (.tmp 5), none⟩, ⟨(some 94), .faddr 7 (.tmp 93), none⟩, ⟨(some 95), .load none (.tmp 94), none⟩, ⟨(some 96), .lenL (.tmp 95), none⟩, ⟨(some 97), .bin .lss (.tmp 92) (.tmp 96), none⟩, ⟨(some 10), .mov (.tmp 97), none⟩])
 .ret) .skip))))))))))))))))))
 (.seq (.reg [⟨(some 10), .mov (.val (.bool true)), none⟩])
 .ret))) }
def h188 : Hints := ⟨[], [], []⟩
def a188_B1 : AC := (.seq (.reg [⟨(some 15), .bin .lss (.tmp 14) (.tmp 13), none⟩])
 (.seq (.cond (.tmp 15) .skip (.exit 0))
 (.seq (.block 1 (.seq (.reg [⟨(some 16), .iaddrL 1 (.tmp 12) (.tmp 14), none⟩, ⟨(some 17), .load none (.tmp 16), none⟩, ⟨(some 7), .mov (.tmp 17), none⟩])
 (.seq (.reg [⟨(some 18), .mov (.tmp 7), none⟩, ⟨(some 19), .iaddrA 64 1 (.tmp 1) (.tmp 18), none⟩, ⟨(some 20), .load none (.tmp 19), none⟩, ⟨(some 21), .bin .eql (.tmp 20) (.val (.int .u8 1)), none⟩, ⟨(some 22), .mov (.tmp 21), none⟩, ⟨(some 23), .mov (.tmp 7), (some (22, false))⟩, ⟨(some 24), .iaddrA 64 1 (.tmp 1) (.tmp 23), (some (22, false))⟩, ⟨(some 25), .load none (.tmp 24), (some (22, false))⟩, ⟨(some 26), .bin .eql (.tmp 25) (.val (.int .u8 0)), (some (22, false))⟩, ⟨(some 27), .mov (.tmp 26), (some (22, false))⟩, ⟨(some 28), .load none (.tmp 3), (some (27, true))⟩, ⟨(some 29), .mov (.tmp 7), (some (27, true))⟩, ⟨(some 30), .callv (.tmp 28) [(.tmp 29)], (some (27, true))⟩, ⟨(some 31), .un .not (.tmp 30), (some (27, true))⟩, ⟨(some 32), .pick (.tmp 27) (.tmp 31) (.val (.bool false)), (some (22, false))⟩, ⟨(some 33), .pick (.tmp 22) (.val (.bool true)) (.tmp 32), none⟩])
 (.cond (.tmp 33) (.seq (.reg [⟨(some 5), .mov (.val (.bool false)), none⟩])
 .ret) .skip))))
 (.reg [⟨(some 34), .bin .add (.tmp 14) (.val (.int .i64 1)), none⟩, ⟨(some 14), .mov (.tmp 34), none⟩]))))
def a188_L1 : AC := .loop a188_B1
theorem a188_L1_step (call : Caller) (again : AC → St → Option (Ex × St)) (s : St) : codeEv call again a188_L1 s = match codeEv call again a188_B1 s with | some (.norm, s1) => again a188_L1 s1 | r => r := rfl
def a188 : AFn := { n := 37, np := 4, res := [.tmp 5], body :=
 (.seq (.reg [⟨(some 5), .mov (.val (.bool false)), none⟩])
 (.seq (.reg [⟨(some 8), .mov (.tmp 0), none⟩, ⟨(some 9), .iaddrA 64 1 (.tmp 1) (.tmp 8), none⟩, ⟨none, .store 1 (.tmp 9) (.val (.int .u8 1)), none⟩])
 (.seq (.seq (.reg [⟨(some 10), .load (some 8) (.tmp 2), none⟩, ⟨(some 11), .mov (.tmp 0), none⟩, ⟨(some 12), .call 189 [(.tmp 10), (.tmp 11)], none⟩, ⟨(some 13), .lenL (.tmp 12), none⟩, ⟨(some 14), .mov (.val (.int .i64 0)), none⟩])
 (.block 0 a188_L1))
 (.seq (.reg [⟨(some 35), .mov (.tmp 0), none⟩, ⟨(some 36), .iaddrA 64 1 (.tmp 1) (.tmp 35), none⟩, ⟨none, .store 1 (.tmp 36) (.val (.int .u8 2)), none⟩])
 (.seq (.reg [⟨(some 5), .mov (.val (.bool true)), none⟩])
 .ret))))) }
def h189 : Hints := ⟨[2, 8], [], []⟩
def a189_B1 : AC := (.seq (.reg [⟨(some 23), .bin .lss (.tmp 22) (.tmp 21), none⟩])
 (.seq (.cond (.tmp 23) .skip (.exit 0))
 (.seq (.block 1 (.seq (.reg [⟨(some 24), .iaddrL 4 (.tmp 20) (.tmp 22), none⟩, ⟨(some 25), .load (some 4) (.tmp 24), none⟩, ⟨(some 8), .alloc (some 8) [(.int .i64 0), (.int .i64 0), (.int .i64 0), (.int .i64 0)], none⟩, ⟨none, .store 4 (.tmp 8) (.tmp 25), none⟩])
 (.seq (.reg [⟨(some 26), .faddr 0 (.tmp 8), none⟩, ⟨(some 27), .load none (.tmp 26), none⟩, ⟨(some 28), .bin .eql (.tmp 27) (.val (.int .i64 17)), none⟩])
 (.cond (.tmp 28) (.reg [⟨(some 29), .mov (.tmp 4), none⟩, ⟨(some 30), .faddr 1 (.tmp 8), none⟩, ⟨(some 31), .load none (.tmp 30), none⟩, ⟨(some 32), .mkslc 1 1 [(.int .i64 0)] [(0, (.tmp 31))], none⟩, ⟨(some 33), .app none 1 8 (.tmp 29) (.tmp 32), none⟩, ⟨(some 4), .mov (.tmp 33), none⟩]) .skip))))
 (.reg [⟨(some 34), .bin .add (.tmp 22) (.val (.int .i64 1)), none⟩, ⟨(some 22), .mov (.tmp 34), none⟩]))))
def a189_L1 : AC := .loop a189_B1
theorem a189_L1_step (call : Caller) (again : AC → St → Option (Ex × St)) (s : St) : codeEv call again a189_L1 s = match codeEv call again a189_B1 s with | some (.norm, s1) => again a189_L1 s1 | r => r := rfl
def a189 : AFn := { n := 39, np := 2, res := [.tmp 4], body :=
 (.seq (.reg [⟨(some 2), .box (some 2) (.tmp 0), none⟩, ⟨(some 4), .mov (.val .nils), none⟩])
 (.seq (.reg [⟨(some 10), .load (some 8) (.tmp 2), none⟩, ⟨(some 11), .mov (.tmp 1), none⟩, ⟨(some 12), .call 109 [(.tmp 10), (.tmp 11)], none⟩, ⟨(some 9), .mov (.tmp 12), none⟩, ⟨(some 13), .ext (.tmp 9) 0, none⟩, ⟨(some 14), .ext (.tmp 9) 1, none⟩, ⟨(some 5), .mov (.tmp 13), none⟩, ⟨(some 6), .mov (.tmp 14), none⟩])
 (.seq (.seq (.reg [⟨(some 15), .faddr 0 (.tmp 2), none⟩, ⟨(some 16), .faddr 0 (.tmp 15), none⟩, ⟨(some 17), .load none (.tmp 16), none⟩, ⟨(some 18), .mov (.tmp 5), none⟩, ⟨(some 19), .mov (.tmp 6), none⟩, ⟨(some 20), .slcL 4 (.tmp 17) (some (.tmp 18)) (some (.tmp 19)) none, none⟩, ⟨(some 21), .lenL (.tmp 20), none⟩, ⟨(some 22), .mov (.val (.int .i64 0)), none⟩])
 (.block 0 a189_L1))
 (.seq (.reg [⟨(some 35), .mov (.tmp 4), none⟩, ⟨(some 36), .call 79 [(.tmp 35)], none⟩])
 (.seq (.reg [⟨(some 37), .mov (.tmp 4), none⟩, ⟨(some 38), .call 120 [(.tmp 37)], none⟩, ⟨(some 4), .mov (.tmp 38), none⟩])
 .ret))))) }
def h190 : Hints := ⟨[], [], []⟩
def a190 : AFn := { n := 18, np := 2, res := [.tmp 4], body :=
 (.seq (.reg [⟨(some 4), .mov (.val (.bool false)), none⟩])
 (.seq (.reg [⟨(some 5), .mov (.tmp 1), none⟩, ⟨(some 6), .bin .geq (.tmp 5) (.val (.int .i64 0)), none⟩, ⟨(some 7), .mov (.tmp 6), none⟩, ⟨(some 8), .mov (.tmp 1), (some (7, true))⟩, ⟨(some 9), .bin .lss (.tmp 8) (.val (.int .i64 32)), (some (7, true))⟩, ⟨(some 10), .pick (.tmp 7) (.tmp 9) (.val (.bool false)), none⟩, ⟨(some 11), .mov (.tmp 10), none⟩, ⟨(some 12), .mov (.tmp 0), (some (11, true))⟩, ⟨(some 13), .mov (.tmp 1), (some (11, true))⟩, ⟨(some 14), .bin .shr (.tmp 12) (.tmp 13), (some (11, true))⟩, ⟨(some 15), .bin .and (.tmp 14) (.val (.int .u32 1)), (some (11, true))⟩, ⟨(some 16), .bin .eql (.tmp 15) (.val (.int .u32 1)), (some (11, true))⟩, ⟨(some 17), .pick (.tmp 11) (.tmp 16) (.val (.bool false)), none⟩, ⟨(some 4), .mov (.tmp 17), none⟩])
 .ret)) }
def h43 : Hints := ⟨[2], [], []⟩
def d43 : DeferFn :=
{ n := 13, np := 2, res := [.cell 4 none], g := 5, fD := 83, D := a83, A :=
 (.reg [⟨(some 2), .box (some 2) (.tmp 0), none⟩, ⟨(some 4), .alloc none [.nils], none⟩]), pre :=
 [⟨(some 5), .mkfn 83 [(.tmp 4)], none⟩], post :=
 [], C :=
 (.seq (.reg [⟨(some 7), .load (some 8) (.tmp 2), none⟩, ⟨(some 8), .mov (.tmp 1), none⟩, ⟨(some 9), .call 78 [(.tmp 7), (.tmp 8)], none⟩, ⟨(some 6), .mov (.tmp 9), none⟩, ⟨(some 10), .ext (.tmp 6) 0, none⟩, ⟨(some 11), .ext (.tmp 6) 1, none⟩, ⟨none, .store 1 (.tmp 4) (.tmp 10), none⟩])
 (.seq (.reg [⟨(some 12), .load none (.tmp 4), none⟩, ⟨none, .store 1 (.tmp 4) (.tmp 12), none⟩])
 .ret)) }
theorem t5 : trFn Tryd.prog h5 Tryd.f5 = some a5 := by kernel_rfl
theorem t12 : trFn Tryd.prog h12 Tryd.f12 = some a12 := by kernel_rfl
theorem t15 : trFn Tryd.prog h15 Tryd.f15 = some a15 := by kernel_rfl
theorem t16 : trFn Tryd.prog h16 Tryd.f16 = some a16 := by kernel_rfl
theorem t26 : trFn Tryd.prog h26 Tryd.f26 = some a26 := by kernel_rfl
theorem t27 : trFn Tryd.prog h27 Tryd.f27 = some a27 := by kernel_rfl
theorem t28 : trFn Tryd.prog h28 Tryd.f28 = some a28 := by kernel_rfl
theorem t34 : trFn Tryd.prog h34 Tryd.f34 = some a34 := by kernel_rfl
theorem t42 : trFn Tryd.prog h42 Tryd.f42 = some a42 := by kernel_rfl
theorem t45 : trFn Tryd.prog h45 Tryd.f45 = some a45 := by kernel_rfl
theorem t54 : trFn Tryd.prog h54 Tryd.f54 = some a54 := by kernel_rfl
theorem t55 : trFn Tryd.prog h55 Tryd.f55 = some a55 := by kernel_rfl
theorem t66 : trFn Tryd.prog h66 Tryd.f66 = some a66 := by kernel_rfl
theorem t67 : trFn Tryd.prog h67 Tryd.f67 = some a67 := by kernel_rfl
theorem t68 : trFn Tryd.prog h68 Tryd.f68 = some a68 := by kernel_rfl
theorem t72 : trFn Tryd.prog h72 Tryd.f72 = some a72 := by kernel_rfl
theorem t73 : trFn Tryd.prog h73 Tryd.f73 = some a73 := by kernel_rfl
theorem t78 : trFn Tryd.prog h78 Tryd.f78 = some a78 := by kernel_rfl
theorem t79 : trFn Tryd.prog h79 Tryd.f79 = some a79 := by kernel_rfl
theorem t83 : trFn Tryd.prog h83 Tryd.f83 = some a83 := by kernel_rfl
theorem t84 : trFn Tryd.prog h84 Tryd.f84 = some a84 := by kernel_rfl
theorem t87 : trFn Tryd.prog h87 Tryd.f87 = some a87 := by kernel_rfl
theorem t90 : trFn Tryd.prog h90 Tryd.f90 = some a90 := by kernel_rfl
theorem t91 : trFn Tryd.prog h91 Tryd.f91 = some a91 := by kernel_rfl
theorem t92 : trFn Tryd.prog h92 Tryd.f92 = some a92 := by kernel_rfl
theorem t109 : trFn Tryd.prog h109 Tryd.f109 = some a109 := by kernel_rfl
theorem t114 : trFn Tryd.prog h114 Tryd.f114 = some a114 := by kernel_rfl
theorem t115 : trFn Tryd.prog h115 Tryd.f115 = some a115 := by kernel_rfl
theorem t116 : trFn Tryd.prog h116 Tryd.f116 = some a116 := by kernel_rfl
theorem t119 : trFn Tryd.prog h119 Tryd.f119 = some a119 := by kernel_rfl
theorem t120 : trFn Tryd.prog h120 Tryd.f120 = some a120 := by kernel_rfl
theorem t122 : trFn Tryd.prog h122 Tryd.f122 = some a122 := by kernel_rfl
theorem t129 : trFn Tryd.prog h129 Tryd.f129 = some a129 := by kernel_rfl
theorem t130 : trFn Tryd.prog h130 Tryd.f130 = some a130 := by kernel_rfl
theorem t131 : trFn Tryd.prog h131 Tryd.f131 = some a131 := by kernel_rfl
theorem t132 : trFn Tryd.prog h132 Tryd.f132 = some a132 := by kernel_rfl
theorem t133 : trFn Tryd.prog h133 Tryd.f133 = some a133 := by kernel_rfl
theorem t134 : trFn Tryd.prog h134 Tryd.f134 = some a134 := by kernel_rfl
theorem t135 : trFn Tryd.prog h135 Tryd.f135 = some a135 := by kernel_rfl
theorem t136 : trFn Tryd.prog h136 Tryd.f136 = some a136 := by kernel_rfl
theorem t137 : trFn Tryd.prog h137 Tryd.f137 = some a137 := by kernel_rfl
theorem t138 : trFn Tryd.prog h138 Tryd.f138 = some a138 := by kernel_rfl
theorem t139 : trFn Tryd.prog h139 Tryd.f139 = some a139 := by kernel_rfl
theorem t140 : trFn Tryd.prog h140 Tryd.f140 = some a140 := by kernel_rfl
theorem t149 : trFn Tryd.prog h149 Tryd.f149 = some a149 := by kernel_rfl
theorem t150 : trFn Tryd.prog h150 Tryd.f150 = some a150 := by kernel_rfl
theorem t151 : trFn Tryd.prog h151 Tryd.f151 = some a151 := by kernel_rfl
theorem t152 : trFn Tryd.prog h152 Tryd.f152 = some a152 := by kernel_rfl
theorem t153 : trFn Tryd.prog h153 Tryd.f153 = some a153 := by kernel_rfl
theorem t154 : trFn Tryd.prog h154 Tryd.f154 = some a154 := by kernel_rfl
theorem t155 : trFn Tryd.prog h155 Tryd.f155 = some a155 := by kernel_rfl
theorem t159 : trFn Tryd.prog h159 Tryd.f159 = some a159 := by kernel_rfl
theorem t160 : trFn Tryd.prog h160 Tryd.f160 = some a160 := by kernel_rfl
theorem t161 : trFn Tryd.prog h161 Tryd.f161 = some a161 := by kernel_rfl
theorem t163 : trFn Tryd.prog h163 Tryd.f163 = some a163 := by kernel_rfl
theorem t180 : trFn Tryd.prog h180 Tryd.f180 = some a180 := by kernel_rfl
theorem t181 : trFn Tryd.prog h181 Tryd.f181 = some a181 := by kernel_rfl
theorem t182 : trFn Tryd.prog h182 Tryd.f182 = some a182 := by kernel_rfl
theorem t183 : trFn Tryd.prog h183 Tryd.f183 = some a183 := by kernel_rfl
theorem t184 : trFn Tryd.prog h184 Tryd.f184 = some a184 := by kernel_rfl
theorem t185 : trFn Tryd.prog h185 Tryd.f185 = some a185 := by kernel_rfl
theorem t186 : trFn Tryd.prog h186 Tryd.f186 = some a186 := by kernel_rfl
theorem t187 : trFn Tryd.prog h187 Tryd.f187 = some a187 := by kernel_rfl
theorem t188 : trFn Tryd.prog h188 Tryd.f188 = some a188 := by kernel_rfl
theorem t189 : trFn Tryd.prog h189 Tryd.f189 = some a189 := by kernel_rfl
theorem t190 : trFn Tryd.prog h190 Tryd.f190 = some a190 := by kernel_rfl
theorem t113 : trBack Tryd.prog h113 129 Tryd.f113 = some b113 := by kernel_rfl
def a113 : AFn := primFn (backEv b113)
theorem t43 : trDefer Tryd.prog h43 83 a83 Tryd.f43 = some d43 := by kernel_rfl
def a43 : AFn := primFn (deferEv d43)
def A : Nat → Option AFn := lkF [(5, a5), (12, a12), (15, a15), (16, a16), (26, a26), (27, a27), (28, a28), (34, a34), (42, a42), (43, a43), (45, a45), (54, a54), (55, a55), (66, a66), (67, a67), (68, a68), (72, a72), (73, a73), (78, a78), (79, a79), (83, a83), (84, a84), (87, a87), (90, a90), (91, a91), (92, a92), (109, a109), (113, a113), (114, a114), (115, a115), (116, a116), (119, a119), (120, a120), (122, a122), (129, a129), (130, a130), (131, a131), (132, a132), (133, a133), (134, a134), (135, a135), (136, a136), (137, a137), (138, a138), (139, a139), (140, a140), (149, a149), (150, a150), (151, a151), (152, a152), (153, a153), (154, a154), (155, a155), (159, a159), (160, a160), (161, a161), (163, a163), (180, a180), (181, a181), (182, a182), (183, a183), (184, a184), (185, a185), (186, a186), (187, a187), (188, a188), (189, a189), (190, a190)]
theorem A_ok : AOk Tryd.prog A := lkF_ok ⟨.inl ⟨h5, Tryd.f5, Tryd.func5, t5⟩,
  .inl ⟨h12, Tryd.f12, Tryd.func12, t12⟩,
  .inl ⟨h15, Tryd.f15, Tryd.func15, t15⟩,
  .inl ⟨h16, Tryd.f16, Tryd.func16, t16⟩,
  .inl ⟨h26, Tryd.f26, Tryd.func26, t26⟩,
  .inl ⟨h27, Tryd.f27, Tryd.func27, t27⟩,
  .inl ⟨h28, Tryd.f28, Tryd.func28, t28⟩,
  .inl ⟨h34, Tryd.f34, Tryd.func34, t34⟩,
  .inl ⟨h42, Tryd.f42, Tryd.func42, t42⟩,
  .inr ⟨_, rfl, defer_ok Tryd.func43 Tryd.func83 t83 t43⟩,
  .inl ⟨h45, Tryd.f45, Tryd.func45, t45⟩,
  .inl ⟨h54, Tryd.f54, Tryd.func54, t54⟩,
  .inl ⟨h55, Tryd.f55, Tryd.func55, t55⟩,
  .inl ⟨h66, Tryd.f66, Tryd.func66, t66⟩,
  .inl ⟨h67, Tryd.f67, Tryd.func67, t67⟩,
  .inl ⟨h68, Tryd.f68, Tryd.func68, t68⟩,
  .inl ⟨h72, Tryd.f72, Tryd.func72, t72⟩,
  .inl ⟨h73, Tryd.f73, Tryd.func73, t73⟩,
  .inl ⟨h78, Tryd.f78, Tryd.func78, t78⟩,
  .inl ⟨h79, Tryd.f79, Tryd.func79, t79⟩,
  .inl ⟨h83, Tryd.f83, Tryd.func83, t83⟩,
  .inl ⟨h84, Tryd.f84, Tryd.func84, t84⟩,
  .inl ⟨h87, Tryd.f87, Tryd.func87, t87⟩,
  .inl ⟨h90, Tryd.f90, Tryd.func90, t90⟩,
  .inl ⟨h91, Tryd.f91, Tryd.func91, t91⟩,
  .inl ⟨h92, Tryd.f92, Tryd.func92, t92⟩,
  .inl ⟨h109, Tryd.f109, Tryd.func109, t109⟩,
  .inr ⟨_, rfl, back_ok Tryd.func113 t113 back129⟩,
  .inl ⟨h114, Tryd.f114, Tryd.func114, t114⟩,
  .inl ⟨h115, Tryd.f115, Tryd.func115, t115⟩,
  .inl ⟨h116, Tryd.f116, Tryd.func116, t116⟩,
  .inl ⟨h119, Tryd.f119, Tryd.func119, t119⟩,
  .inl ⟨h120, Tryd.f120, Tryd.func120, t120⟩,
  .inl ⟨h122, Tryd.f122, Tryd.func122, t122⟩,
  .inl ⟨h129, Tryd.f129, Tryd.func129, t129⟩,
  .inl ⟨h130, Tryd.f130, Tryd.func130, t130⟩,
  .inl ⟨h131, Tryd.f131, Tryd.func131, t131⟩,
  .inl ⟨h132, Tryd.f132, Tryd.func132, t132⟩,
  .inl ⟨h133, Tryd.f133, Tryd.func133, t133⟩,
  .inl ⟨h134, Tryd.f134, Tryd.func134, t134⟩,
  .inl ⟨h135, Tryd.f135, Tryd.func135, t135⟩,
  .inl ⟨h136, Tryd.f136, Tryd.func136, t136⟩,
  .inl ⟨h137, Tryd.f137, Tryd.func137, t137⟩,
  .inl ⟨h138, Tryd.f138, Tryd.func138, t138⟩,
  .inl ⟨h139, Tryd.f139, Tryd.func139, t139⟩,
  .inl ⟨h140, Tryd.f140, Tryd.func140, t140⟩,
  .inl ⟨h149, Tryd.f149, Tryd.func149, t149⟩,
  .inl ⟨h150, Tryd.f150, Tryd.func150, t150⟩,
  .inl ⟨h151, Tryd.f151, Tryd.func151, t151⟩,
  .inl ⟨h152, Tryd.f152, Tryd.func152, t152⟩,
  .inl ⟨h153, Tryd.f153, Tryd.func153, t153⟩,
  .inl ⟨h154, Tryd.f154, Tryd.func154, t154⟩,
  .inl ⟨h155, Tryd.f155, Tryd.func155, t155⟩,
  .inl ⟨h159, Tryd.f159, Tryd.func159, t159⟩,
  .inl ⟨h160, Tryd.f160, Tryd.func160, t160⟩,
  .inl ⟨h161, Tryd.f161, Tryd.func161, t161⟩,
  .inl ⟨h163, Tryd.f163, Tryd.func163, t163⟩,
  .inl ⟨h180, Tryd.f180, Tryd.func180, t180⟩,
  .inl ⟨h181, Tryd.f181, Tryd.func181, t181⟩,
  .inl ⟨h182, Tryd.f182, Tryd.func182, t182⟩,
  .inl ⟨h183, Tryd.f183, Tryd.func183, t183⟩,
  .inl ⟨h184, Tryd.f184, Tryd.func184, t184⟩,
  .inl ⟨h185, Tryd.f185, Tryd.func185, t185⟩,
  .inl ⟨h186, Tryd.f186, Tryd.func186, t186⟩,
  .inl ⟨h187, Tryd.f187, Tryd.func187, t187⟩,
  .inl ⟨h188, Tryd.f188, Tryd.func188, t188⟩,
  .inl ⟨h189, Tryd.f189, Tryd.func189, t189⟩,
  .inl ⟨h190, Tryd.f190, Tryd.func190, t190⟩, trivial⟩
end
end Go.Proofs.YtkmbepgofajfkaaDoor
