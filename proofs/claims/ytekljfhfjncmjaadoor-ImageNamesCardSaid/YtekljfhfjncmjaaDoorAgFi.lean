/- The functions of this seat, as the abstract machine has them; each is what its translation out of the program gives. Made by program. -/
import Derived.Test.YtekljfhfjncmjaaDoorProg
import Derived.Test.YtekljfhfjncmjaaDoorAgSym
namespace Go.Proofs.YtekljfhfjncmjaaDoor
open AG
set_option maxRecDepth 100000
set_option maxHeartbeats 4000000
def h10 : Hints := ⟨[1, 2], [], []⟩
def a10 : AFn := { n := 79, np := 0, res := [.tmp 0], body :=
 (.seq (.reg [⟨(some 0), .mov (.val (.bool false)), none⟩])
 (.seq (.reg [⟨(some 9), .call 31 [], none⟩, ⟨(some 10), .call 31 [], none⟩, ⟨(some 1), .alloc (some 1) [.nils, .nils, .nils, (.int .i64 0), .nils, .nils, (.int .i64 0), .nils], none⟩, ⟨(some 2), .alloc (some 2) [.nils, .nils, .nils, (.int .i64 0), .nils, .nils, (.int .i64 0), .nils], none⟩, ⟨none, .store 8 (.tmp 1) (.tmp 9), none⟩, ⟨none, .store 8 (.tmp 2) (.tmp 10), none⟩])
 (.seq (.reg [⟨(some 11), .faddr 0 (.tmp 1), none⟩, ⟨(some 12), .load none (.tmp 11), none⟩, ⟨(some 13), .build [(.int .i64 0), (.int .i64 0), (.int .i64 0), (.int .i64 0)] [(0, 1, (.val (.int .i64 3)))], none⟩, ⟨(some 14), .iaddrL 4 (.tmp 12) (.val (.int .i64 1)), none⟩, ⟨none, .store 4 (.tmp 14) (.tmp 13), none⟩])
 (.seq (.reg [⟨(some 15), .build [(.int .i64 0), (.int .i64 0), (.int .i64 0), (.int .i64 0)] [(0, 1, (.val (.int .i64 22)))], none⟩, ⟨(some 16), .build [(.int .i64 0), (.int .i64 0), (.int .i64 0), (.int .i64 0)] [(0, 1, (.val (.int .i64 17)))], none⟩, ⟨(some 17), .build [(.int .i64 0), (.int .i64 0), (.int .i64 0), (.int .i64 0)] [(0, 1, (.val (.int .i64 1)))], none⟩, ⟨(some 18), .mkslc 4 3 [(.int .i64 0), (.int .i64 0), (.int .i64 0), (.int .i64 0)] [(0, (.tmp 15)), (1, (.tmp 16)), (2, (.tmp 17))], none⟩, ⟨(some 19), .faddr 0 (.tmp 2), none⟩, ⟨none, .store 1 (.tmp 19) (.tmp 18), none⟩])
 (.seq (.reg [⟨(some 21), .call 31 [], none⟩, ⟨(some 22), .call 32 [(.tmp 21), (.val (.int .i64 1))], none⟩, ⟨(some 20), .mov (.tmp 22), none⟩, ⟨(some 23), .ext (.tmp 20) 0, none⟩, ⟨(some 24), .ext (.tmp 20) 1, none⟩, ⟨(some 3), .mov (.tmp 23), none⟩, ⟨(some 4), .mov (.tmp 24), none⟩])
 (.seq (.reg [⟨(some 26), .call 31 [], none⟩, ⟨(some 27), .call 32 [(.tmp 26), (.val (.int .i64 2))], none⟩, ⟨(some 25), .mov (.tmp 27), none⟩, ⟨(some 28), .ext (.tmp 25) 0, none⟩, ⟨(some 29), .ext (.tmp 25) 1, none⟩, ⟨(some 5), .mov (.tmp 28), none⟩, ⟨(some 6), .mov (.tmp 29), none⟩])
 (.seq (.reg [⟨(some 31), .call 31 [], none⟩, ⟨(some 32), .call 29 [(.tmp 31)], none⟩, ⟨(some 30), .mov (.tmp 32), none⟩, ⟨(some 33), .ext (.tmp 30) 0, none⟩, ⟨(some 34), .ext (.tmp 30) 1, none⟩, ⟨(some 7), .mov (.tmp 33), none⟩, ⟨(some 8), .mov (.tmp 34), none⟩])
 (.seq (.reg [⟨(some 35), .call 25 [], none⟩, ⟨(some 36), .mov (.tmp 35), none⟩, ⟨(some 37), .call 31 [], (some (36, true))⟩, ⟨(some 38), .call 28 [(.tmp 37)], (some (36, true))⟩, ⟨(some 39), .bin .eql (.tmp 38) (.val (.int .i64 0)), (some (36, true))⟩, ⟨(some 40), .pick (.tmp 36) (.tmp 39) (.val (.bool false)), none⟩, ⟨(some 41), .mov (.tmp 40), none⟩, ⟨(some 42), .load (some 8) (.tmp 1), (some (41, true))⟩, ⟨(some 43), .call 28 [(.tmp 42)], (some (41, true))⟩, ⟨(some 44), .bin .eql (.tmp 43) (.val (.int .i64 2)), (some (41, true))⟩, ⟨(some 45), .pick (.tmp 41) (.tmp 44) (.val (.bool false)), none⟩, ⟨(some 46), .mov (.tmp 45), none⟩, ⟨(some 47), .load (some 8) (.tmp 2), (some (46, true))⟩, ⟨(some 48), .call 28 [(.tmp 47)], (some (46, true))⟩, ⟨(some 49), .bin .eql (.tmp 48) (.val (.int .i64 13)), (some (46, true))⟩, ⟨(some 50), .pick (.tmp 46) (.tmp 49) (.val (.bool false)), none⟩, ⟨(some 51), .mov (.tmp 50), none⟩, ⟨(some 52), .mov (.tmp 3), (some (51, true))⟩, ⟨(some 53), .bin .eql (.tmp 52) (.val (.int .i64 0)), (some (51, true))⟩, ⟨(some 54), .pick (.tmp 51) (.tmp 53) (.val (.bool false)), none⟩, ⟨(some 55), .mov (.tmp 54), none⟩, ⟨(some 56), .mov (.tmp 4), (some (55, true))⟩, ⟨(some 57), .pick (.tmp 55) (.tmp 56) (.val (.bool false)), none⟩, ⟨(some 58), .mov (.tmp 57), none⟩, ⟨(some 59), .mov (.tmp 6), (some (58, true))⟩, ⟨(some 60), .un .not (.tmp 59), (some (58, true))⟩, ⟨(some 61), .pick (.tmp 58) (.tmp 60) (.val (.bool false)), none⟩, ⟨(some 62), .mov (.tmp 61), none⟩, ⟨(some 63), .mov (.tmp 8), (some (62, true))⟩, ⟨(some 64), .bin .eql (.tmp 63) (.val (.int .i64 0)), (some (62, true))⟩, ⟨(some 65), .pick (.tmp 62) (.tmp 64) (.val (.bool false)), none⟩, ⟨(some 66), .mov (.tmp 65), none⟩, ⟨(some 67), .mov (.tmp 7), (some (66, true))⟩, ⟨(some 68), .mkslc 1 2 [(.str ⟨#[]⟩)] [(0, (.val (.str ⟨#[112, 116]⟩))), (1, (.val (.str ⟨#[104, 97, 108, 116]⟩)))], (some (66, true))⟩, ⟨(some 69), .call 23 [(.tmp 67), (.tmp 68)], (some (66, true))⟩, ⟨(some 70), .pick (.tmp 66) (.tmp 69) (.val (.bool false)), none⟩, ⟨(some 71), .mov (.tmp 70), none⟩, ⟨(some 72), .call 31 [], (some (71, true))⟩, ⟨(some 73), .call 34 [(.tmp 72)], (some (71, true))⟩, ⟨(some 74), .mkslc 1 1 [(.int .i64 0)] [(0, (.val (.int .i64 0)))], (some (71, true))⟩, ⟨(some 75), .call 33 [(.tmp 73), (.tmp 74)], (some (71, true))⟩, ⟨(some 76), .pick (.tmp 71) (.tmp 75) (.val (.bool false)), none⟩, ⟨(some 77), .mov (.tmp 76), none⟩, ⟨(some 78), .pick (.tmp 77) (.val (.bool true)) (.val (.bool false)), none⟩, ⟨(some 0), .mov (.tmp 78), none⟩])
 .ret)))))))) }
def h12 : Hints := ⟨[1, 3], [], []⟩
def a12 : AFn := { n := 41, np := 1, res := [.tmp 2], body :=
 (.seq (.reg [⟨(some 1), .box (some 1) (.tmp 0), none⟩, ⟨(some 2), .mov (.val (.int .i64 0)), none⟩])
 (.seq (.seq (.reg [⟨(some 4), .faddr 0 (.tmp 1), none⟩, ⟨(some 5), .load none (.tmp 4), none⟩, ⟨(some 6), .bin .lss (.tmp 5) (.val (.int .i64 1)), none⟩, ⟨(some 7), .mov (.tmp 6), none⟩, ⟨(some 8), .faddr 0 (.tmp 1), (some (7, false))⟩, ⟨(some 9), .load none (.tmp 8), (some (7, false))⟩, ⟨(some 10), .load none (.val (.ptr 0 0)), (some (7, false))⟩, ⟨(some 11), .lenL (.tmp 10), (some (7, false))⟩, ⟨(some 12), .bin .geq (.tmp 9) (.tmp 11), (some (7, false))⟩, ⟨(some 13), .pick (.tmp 7) (.val (.bool true)) (.tmp 12), none⟩])
 (.cond (.tmp 13) (.seq (.reg [⟨(some 2), .mov (.val (.int .i64 2)), none⟩])
 .ret) .skip))
 (.seq (.reg [⟨(some 14), .load none (.val (.ptr 0 0)), none⟩, ⟨(some 15), .faddr 0 (.tmp 1), none⟩, ⟨(some 16), .load none (.tmp 15), none⟩, ⟨(some 17), .iaddrL 6 (.tmp 14) (.tmp 16), none⟩, ⟨(some 18), .load (some 6) (.tmp 17), none⟩, ⟨(some 3), .alloc (some 3) [(.str ⟨#[]⟩), (.int .i64 0), (.int .i64 0), (.int .i64 0), (.int .i64 0), (.int .i64 0)], none⟩, ⟨none, .store 6 (.tmp 3) (.tmp 18), none⟩])
 (.seq (.seq (.reg [⟨(some 19), .faddr 1 (.tmp 3), none⟩, ⟨(some 20), .load none (.tmp 19), none⟩, ⟨(some 21), .faddr 1 (.tmp 1), none⟩, ⟨(some 22), .load none (.tmp 21), none⟩, ⟨(some 23), .call 35 [(.tmp 20), (.tmp 22)], none⟩, ⟨(some 24), .un .not (.tmp 23), none⟩, ⟨(some 25), .mov (.tmp 24), none⟩, ⟨(some 26), .faddr 2 (.tmp 3), (some (25, false))⟩, ⟨(some 27), .load none (.tmp 26), (some (25, false))⟩, ⟨(some 28), .faddr 2 (.tmp 1), (some (25, false))⟩, ⟨(some 29), .load none (.tmp 28), (some (25, false))⟩, ⟨(some 30), .call 35 [(.tmp 27), (.tmp 29)], (some (25, false))⟩, ⟨(some 31), .un .not (.tmp 30), (some (25, false))⟩, ⟨(some 32), .pick (.tmp 25) (.val (.bool true)) (.tmp 31), none⟩, ⟨(some 33), .mov (.tmp 32), none⟩, ⟨(some 34), .faddr 3 (.tmp 3), (some (33, false))⟩, ⟨(some 35), .load none (.tmp 34), (some (33, false))⟩, ⟨(some 36), .faddr 3 (.tmp 1), (some (33, false))⟩, ⟨(some 37), .load none (.tmp 36), (some (33, false))⟩, ⟨(some 38), .call 35 [(.tmp 35), (.tmp 37)], (some (33, false))⟩, ⟨(some 39), .un .not (.tmp 38), (some (33, false))⟩, ⟨(some 40), .pick (.tmp 33) (.val (.bool true)) (.tmp 39), none⟩])
 (.cond (.tmp 40) (.seq (.reg [⟨(some 2), .mov (.val (.int .i64 2)), none⟩])
 .ret) .skip))
 (.seq (.reg [⟨(some 2), .mov (.val (.int .i64 0)), none⟩])
 .ret))))) }
def h13 : Hints := ⟨[1, 3, 6], [], []⟩
def a13_B1 : AC := (.seq (.reg [⟨(some 35), .bin .lss (.tmp 34) (.val (.int .i64 3)), none⟩])
 (.seq (.cond (.tmp 35) .skip (.exit 0))
 (.seq (.block 1 (.seq (.reg [⟨(some 36), .idxA 3 2 true (.tmp 33) (.tmp 34), none⟩, ⟨(some 6), .alloc (some 6) [(.int .i64 0), (.int .i64 0)], none⟩, ⟨none, .store 2 (.tmp 6) (.tmp 36), none⟩])
 (.seq (.reg [⟨(some 37), .faddr 0 (.tmp 6), none⟩, ⟨(some 38), .load none (.tmp 37), none⟩])
 (.block 2 (.seq (.reg [⟨(some 46), .bin .eql (.tmp 38) (.val (.int .i64 0)), none⟩, ⟨(some 45), .mov (.tmp 46), none⟩])
 (.cond (.tmp 45) .skip (.seq (.reg [⟨(some 48), .bin .eql (.tmp 38) (.val (.int .i64 7)), none⟩, ⟨(some 47), .mov (.tmp 48), none⟩])
 (.cond (.tmp 47) (.reg [⟨(some 49), .mov (.tmp 4), none⟩, ⟨(some 50), .faddr 1 (.tmp 6), none⟩, ⟨(some 51), .load none (.tmp 50), none⟩, ⟨(some 52), .call 36 [(.tmp 51)], none⟩, ⟨(some 53), .mkslc 1 1 [(.str ⟨#[]⟩)] [(0, (.tmp 52))], none⟩, ⟨(some 54), .app none 1 16 (.tmp 49) (.tmp 53), none⟩, ⟨(some 4), .mov (.tmp 54), none⟩]) (.seq (.reg [⟨(some 56), .bin .eql (.tmp 38) (.val (.int .i64 8)), none⟩, ⟨(some 55), .mov (.tmp 56), none⟩])
 (.cond (.tmp 55) (.reg [⟨(some 57), .mov (.tmp 4), none⟩, ⟨(some 58), .faddr 1 (.tmp 6), none⟩, ⟨(some 59), .load none (.tmp 58), none⟩, ⟨(some 60), .call 37 [(.tmp 59)], none⟩, ⟨(some 61), .mkslc 1 1 [(.str ⟨#[]⟩)] [(0, (.tmp 60))], none⟩, ⟨(some 62), .app none 1 16 (.tmp 57) (.tmp 61), none⟩, ⟨(some 4), .mov (.tmp 62), none⟩]) (.reg [⟨(some 39), .mov (.tmp 4), none⟩, ⟨(some 40), .faddr 1 (.tmp 6), none⟩, ⟨(some 41), .load none (.tmp 40), none⟩, ⟨(some 42), .call 38 [(.tmp 41)], none⟩, ⟨(some 43), .mkslc 1 1 [(.str ⟨#[]⟩)] [(0, (.tmp 42))], none⟩, ⟨(some 44), .app none 1 16 (.tmp 39) (.tmp 43), none⟩, ⟨(some 4), .mov (.tmp 44), none⟩])))))))))))
 (.reg [⟨(some 63), .bin .add (.tmp 34) (.val (.int .i64 1)), none⟩, ⟨(some 34), .mov (.tmp 63), none⟩]))))
def a13_L1 : AC := .loop a13_B1
theorem a13_L1_step (call : Caller) (again : AC → St → Option (Ex × St)) (s : St) : codeEv call again a13_L1 s = match codeEv call again a13_B1 s with | some (.norm, s1) => again a13_L1 s1 | r => r := rfl
def a13 : AFn := { n := 66, np := 1, res := [.tmp 2], body :=
 (.seq (.reg [⟨(some 1), .box (some 1) (.tmp 0), none⟩, ⟨(some 2), .mov (.val (.str ⟨#[]⟩)), none⟩])
 (.seq (.seq (.reg [⟨(some 7), .load (some 4) (.tmp 1), none⟩, ⟨(some 8), .call 12 [(.tmp 7)], none⟩, ⟨(some 9), .bin .neq (.tmp 8) (.val (.int .i64 0)), none⟩])
 (.cond (.tmp 9) (.seq (.reg [⟨(some 2), .mov (.val (.str ⟨#[]⟩)), none⟩])
 .ret) .skip))
 (.seq (.reg [⟨(some 10), .load none (.val (.ptr 0 0)), none⟩, ⟨(some 11), .faddr 0 (.tmp 1), none⟩, ⟨(some 12), .load none (.tmp 11), none⟩, ⟨(some 13), .iaddrL 6 (.tmp 10) (.tmp 12), none⟩, ⟨(some 14), .load (some 6) (.tmp 13), none⟩, ⟨(some 3), .alloc (some 3) [(.str ⟨#[]⟩), (.int .i64 0), (.int .i64 0), (.int .i64 0), (.int .i64 0), (.int .i64 0)], none⟩, ⟨none, .store 6 (.tmp 3) (.tmp 14), none⟩])
 (.seq (.reg [⟨(some 15), .faddr 0 (.tmp 3), none⟩, ⟨(some 16), .load none (.tmp 15), none⟩, ⟨(some 17), .mkslc 1 1 [(.str ⟨#[]⟩)] [(0, (.tmp 16))], none⟩, ⟨(some 4), .mov (.tmp 17), none⟩])
 (.seq (.seq (.reg [⟨(some 18), .faddr 1 (.tmp 3), none⟩, ⟨(some 19), .load none (.tmp 18), none⟩, ⟨(some 20), .faddr 1 (.tmp 1), none⟩, ⟨(some 21), .load none (.tmp 20), none⟩, ⟨(some 22), .build [(.int .i64 0), (.int .i64 0)] [(0, 1, (.tmp 19)), (1, 1, (.tmp 21))], none⟩, ⟨(some 23), .faddr 2 (.tmp 3), none⟩, ⟨(some 24), .load none (.tmp 23), none⟩, ⟨(some 25), .faddr 2 (.tmp 1), none⟩, ⟨(some 26), .load none (.tmp 25), none⟩, ⟨(some 27), .build [(.int .i64 0), (.int .i64 0)] [(0, 1, (.tmp 24)), (1, 1, (.tmp 26))], none⟩, ⟨(some 28), .faddr 3 (.tmp 3), none⟩, ⟨(some 29), .load none (.tmp 28), none⟩, ⟨(some 30), .faddr 3 (.tmp 1), none⟩, ⟨(some 31), .load none (.tmp 30), none⟩, ⟨(some 32), .build [(.int .i64 0), (.int .i64 0)] [(0, 1, (.tmp 29)), (1, 1, (.tmp 31))], none⟩, ⟨(some 33), .build [(.int .i64 0), (.int .i64 0), (.int .i64 0), (.int .i64 0), (.int .i64 0), (.int .i64 0)] [(0, 2, (.tmp 22)), (2, 2, (.tmp 27)), (4, 2, (.tmp 32))], none⟩, ⟨(some 34), .mov (.val (.int .i64 0)), none⟩])
 (.block 0 a13_L1))
 (.seq (.reg [⟨(some 64), .mov (.tmp 4), none⟩, ⟨(some 65), .call 39 [(.tmp 64), (.val (.str ⟨#[32]⟩))], none⟩, ⟨(some 2), .mov (.tmp 65), none⟩])
 .ret)))))) }
def h23 : Hints := ⟨[], [], []⟩
def a23_B1 : AC := (.seq (.seq (.reg [⟨(some 11), .mov (.tmp 5), none⟩, ⟨(some 12), .mov (.tmp 0), none⟩, ⟨(some 13), .lenL (.tmp 12), none⟩, ⟨(some 14), .bin .lss (.tmp 11) (.tmp 13), none⟩])
 (.cond (.tmp 14) .skip (.exit 0)))
 (.seq (.block 1 (.seq (.dreg [(false, ⟨(some 17), .mov (.tmp 0), none⟩, false), (false, ⟨(some 18), .mov (.tmp 5), none⟩, false), (false, ⟨(some 19), .iaddrL 1 (.tmp 17) (.tmp 18), none⟩, false), (false, ⟨(some 20), .load none (.tmp 19), none⟩, false), (false, ⟨(some 21), .mov (.tmp 1), none⟩, false), (false, ⟨(some 22), .mov (.tmp 5), none⟩, false), (false, ⟨(some 23), .iaddrL 1 (.tmp 21) (.tmp 22), none⟩, false), (false, ⟨(some 24), .load none (.tmp 23), none⟩, false), (false, ⟨(some 25), .bin .neq (.tmp 20) (.tmp 24), none⟩, false)])
 (.cond (.tmp 25) (.seq (.reg [⟨(some 4), .mov (.val (.bool false)), none⟩])
 .ret) .skip)))
 (.reg [⟨(some 15), .mov (.tmp 5), none⟩, ⟨(some 16), .bin .add (.tmp 15) (.val (.int .i64 1)), none⟩, ⟨(some 5), .mov (.tmp 16), none⟩])))
def a23_L1 : AC := .loop a23_B1
theorem a23_L1_step (call : Caller) (again : AC → St → Option (Ex × St)) (s : St) : codeEv call again a23_L1 s = match codeEv call again a23_B1 s with | some (.norm, s1) => again a23_L1 s1 | r => r := rfl
def a23 : AFn := { n := 26, np := 2, res := [.tmp 4], body :=
 (.seq (.reg [⟨(some 4), .mov (.val (.bool false)), none⟩])
 (.seq (.seq (.reg [⟨(some 6), .mov (.tmp 0), none⟩, ⟨(some 7), .lenL (.tmp 6), none⟩, ⟨(some 8), .mov (.tmp 1), none⟩, ⟨(some 9), .lenL (.tmp 8), none⟩, ⟨(some 10), .bin .neq (.tmp 7) (.tmp 9), none⟩])
 (.cond (.tmp 10) (.seq (.reg [⟨(some 4), .mov (.val (.bool false)), none⟩])
 .ret) .skip))
 (.seq (.seq (.reg [⟨(some 5), .mov (.val (.int .i64 0)), none⟩])
 (.block 0 a23_L1))
 (.seq (.reg [⟨(some 4), .mov (.val (.bool true)), none⟩])
 .ret)))) }
def h25 : Hints := ⟨[3], [], []⟩
def a25 : AFn := { n := 32, np := 0, res := [.tmp 0], body :=
 (.seq (.reg [⟨(some 0), .mov (.val (.bool false)), none⟩])
 (.seq (.reg [⟨(some 6), .call 31 [], none⟩, ⟨(some 7), .call 27 [(.tmp 6)], none⟩, ⟨(some 5), .mov (.tmp 7), none⟩, ⟨(some 8), .ext (.tmp 5) 0, none⟩, ⟨(some 9), .ext (.tmp 5) 1, none⟩, ⟨(some 1), .mov (.tmp 8), none⟩, ⟨(some 2), .mov (.tmp 9), none⟩])
 (.seq (.reg [⟨(some 11), .mkslc 1 19 [(.int .u8 0)] [(0, (.val (.int .u8 1))), (1, (.val (.int .u8 0))), (2, (.val (.int .u8 0))), (3, (.val (.int .u8 0))), (4, (.val (.int .u8 0))), (5, (.val (.int .u8 0))), (6, (.val (.int .u8 0))), (7, (.val (.int .u8 0))), (8, (.val (.int .u8 10))), (9, (.val (.int .u8 0))), (10, (.val (.int .u8 2))), (11, (.val (.int .u8 22))), (12, (.val (.int .u8 0))), (13, (.val (.int .u8 0))), (14, (.val (.int .u8 0))), (15, (.val (.int .u8 1))), (16, (.val (.int .u8 0))), (17, (.val (.int .u8 0))), (18, (.val (.int .u8 0)))], none⟩, ⟨(some 12), .xm (.mark) [(.tmp 11)], none⟩, ⟨(some 13), .call 49 [(.tmp 12)], none⟩, ⟨(some 10), .mov (.tmp 13), none⟩, ⟨(some 14), .ext (.tmp 10) 0, none⟩, ⟨(some 15), .ext (.tmp 10) 1, none⟩, ⟨(some 3), .alloc (some 3) [.nils, .nils, .nils, (.int .i64 0), .nils, .nils, (.int .i64 0), .nils], none⟩, ⟨none, .store 8 (.tmp 3) (.tmp 14), none⟩, ⟨(some 4), .mov (.tmp 15), none⟩])
 (.seq (.dreg [(false, ⟨(some 16), .mov (.tmp 2), none⟩, false), (false, ⟨(some 17), .bin .eql (.tmp 16) (.val (.int .i64 0)), none⟩, false), (false, ⟨(some 18), .mov (.tmp 17), none⟩, false), (false, ⟨(some 19), .mov (.tmp 1), (some (18, true))⟩, false), (false, ⟨(some 20), .xm (.b2s) [(.tmp 19)], (some (18, true))⟩, false), (false, ⟨(some 21), .bin .eql (.tmp 20) (.val (.str ⟨#[1, 0, 0, 0, 0, 0, 0, 0, 10, 0, 2, 22, 0, 0, 0, 1, 0, 0, 0]⟩)), (some (18, true))⟩, false), (false, ⟨(some 22), .pick (.tmp 18) (.tmp 21) (.val (.bool false)), none⟩, false), (false, ⟨(some 23), .mov (.tmp 22), none⟩, false), (false, ⟨(some 24), .mov (.tmp 4), (some (23, true))⟩, false), (false, ⟨(some 25), .bin .eql (.tmp 24) (.val (.int .i64 0)), (some (23, true))⟩, false), (false, ⟨(some 26), .pick (.tmp 23) (.tmp 25) (.val (.bool false)), none⟩, false), (false, ⟨(some 27), .mov (.tmp 26), none⟩, false), (false, ⟨(some 28), .load (some 8) (.tmp 3), (some (27, true))⟩, true), (false, ⟨(some 29), .call 31 [], (some (27, true))⟩, false), (false, ⟨(some 30), .call 50 [(.tmp 28), (.tmp 29)], (some (27, true))⟩, false), (false, ⟨(some 31), .pick (.tmp 27) (.tmp 30) (.val (.bool false)), none⟩, false), (false, ⟨(some 0), .mov (.tmp 31), none⟩, false)])
 .ret)))) }
def h27 : Hints := ⟨[1, 8, 10, 14, 19], [], []⟩
def a27_B1 : AC := (.seq (.reg [⟨(some 153), .bin .lss (.tmp 152) (.tmp 151), none⟩])
 (.seq (.cond (.tmp 153) .skip (.exit 10))
 (.seq (.block 11 (.seq (.reg [⟨(some 154), .iaddrL 4 (.tmp 150) (.tmp 152), none⟩, ⟨(some 155), .load (some 4) (.tmp 154), none⟩, ⟨(some 19), .alloc (some 19) [(.int .i64 0), (.int .i64 0), (.int .i64 0), (.int .i64 0)], none⟩, ⟨none, .store 4 (.tmp 19) (.tmp 155), none⟩])
 (.reg [⟨(some 156), .mov (.tmp 6), none⟩, ⟨(some 157), .faddr 0 (.tmp 19), none⟩, ⟨(some 158), .load none (.tmp 157), none⟩, ⟨(some 159), .faddr 1 (.tmp 19), none⟩, ⟨(some 160), .load none (.tmp 159), none⟩, ⟨(some 161), .faddr 2 (.tmp 19), none⟩, ⟨(some 162), .load none (.tmp 161), none⟩, ⟨(some 163), .faddr 3 (.tmp 19), none⟩, ⟨(some 164), .load none (.tmp 163), none⟩, ⟨(some 165), .mkslc 1 4 [(.int .i64 0)] [(0, (.tmp 158)), (1, (.tmp 160)), (2, (.tmp 162)), (3, (.tmp 164))], none⟩, ⟨(some 166), .callv (.tmp 156) [(.tmp 165)], none⟩])))
 (.reg [⟨(some 167), .bin .add (.tmp 152) (.val (.int .i64 1)), none⟩, ⟨(some 152), .mov (.tmp 167), none⟩]))))
def a27_L1 : AC := .loop a27_B1
theorem a27_L1_step (call : Caller) (again : AC → St → Option (Ex × St)) (s : St) : codeEv call again a27_L1 s = match codeEv call again a27_B1 s with | some (.norm, s1) => again a27_L1 s1 | r => r := rfl
def a27_B2 : AC := (.seq (.reg [⟨(some 131), .bin .lss (.tmp 130) (.tmp 129), none⟩])
 (.seq (.cond (.tmp 131) .skip (.exit 8))
 (.seq (.block 9 (.seq (.reg [⟨(some 132), .iaddrL 1 (.tmp 128) (.tmp 130), none⟩, ⟨(some 133), .load none (.tmp 132), none⟩, ⟨(some 17), .mov (.tmp 133), none⟩])
 (.seq (.reg [⟨(some 134), .mov (.tmp 6), none⟩, ⟨(some 135), .mov (.tmp 17), none⟩, ⟨(some 136), .lenL (.tmp 135), none⟩, ⟨(some 137), .mkslc 1 1 [(.int .i64 0)] [(0, (.tmp 136))], none⟩, ⟨(some 138), .callv (.tmp 134) [(.tmp 137)], none⟩])
 (.reg [⟨(some 139), .mov (.tmp 6), none⟩, ⟨(some 140), .mov (.tmp 17), none⟩, ⟨(some 141), .callv (.tmp 139) [(.tmp 140)], none⟩]))))
 (.reg [⟨(some 142), .bin .add (.tmp 130) (.val (.int .i64 1)), none⟩, ⟨(some 130), .mov (.tmp 142), none⟩]))))
def a27_L2 : AC := .loop a27_B2
theorem a27_L2_step (call : Caller) (again : AC → St → Option (Ex × St)) (s : St) : codeEv call again a27_L2 s = match codeEv call again a27_B2 s with | some (.norm, s1) => again a27_L2 s1 | r => r := rfl
def a27_B3 : AC := (.seq (.reg [⟨(some 103), .bin .lss (.tmp 102) (.tmp 101), none⟩])
 (.seq (.cond (.tmp 103) .skip (.exit 6))
 (.seq (.block 7 (.seq (.reg [⟨(some 104), .iaddrL 2 (.tmp 100) (.tmp 102), none⟩, ⟨(some 105), .load (some 2) (.tmp 104), none⟩, ⟨(some 14), .alloc (some 14) [(.bool false), (.bool false)], none⟩, ⟨none, .store 2 (.tmp 14) (.tmp 105), none⟩])
 (.seq (.reg [⟨(some 15), .mov (.val (.int .i64 0)), none⟩])
 (.seq (.seq (.reg [⟨(some 106), .faddr 0 (.tmp 14), none⟩, ⟨(some 107), .load none (.tmp 106), none⟩])
 (.cond (.tmp 107) (.reg [⟨(some 108), .mov (.tmp 15), none⟩, ⟨(some 109), .bin .or (.tmp 108) (.val (.int .i64 1)), none⟩, ⟨(some 15), .mov (.tmp 109), none⟩]) .skip))
 (.seq (.seq (.reg [⟨(some 110), .faddr 1 (.tmp 14), none⟩, ⟨(some 111), .load none (.tmp 110), none⟩])
 (.cond (.tmp 111) (.reg [⟨(some 112), .mov (.tmp 15), none⟩, ⟨(some 113), .bin .or (.tmp 112) (.val (.int .i64 2)), none⟩, ⟨(some 15), .mov (.tmp 113), none⟩]) .skip))
 (.reg [⟨(some 114), .mov (.tmp 6), none⟩, ⟨(some 115), .mov (.tmp 15), none⟩, ⟨(some 116), .mkslc 1 1 [(.int .i64 0)] [(0, (.tmp 115))], none⟩, ⟨(some 117), .callv (.tmp 114) [(.tmp 116)], none⟩]))))))
 (.reg [⟨(some 118), .bin .add (.tmp 102) (.val (.int .i64 1)), none⟩, ⟨(some 102), .mov (.tmp 118), none⟩]))))
def a27_L3 : AC := .loop a27_B3
theorem a27_L3_step (call : Caller) (again : AC → St → Option (Ex × St)) (s : St) : codeEv call again a27_L3 s = match codeEv call again a27_B3 s with | some (.norm, s1) => again a27_L3 s1 | r => r := rfl
def a27_B4 : AC := (.seq (.reg [⟨(some 84), .bin .lss (.tmp 83) (.tmp 82), none⟩])
 (.seq (.cond (.tmp 84) .skip (.exit 4))
 (.seq (.block 5 (.seq (.reg [⟨(some 85), .iaddrL 1 (.tmp 81) (.tmp 83), none⟩, ⟨(some 86), .load none (.tmp 85), none⟩, ⟨(some 12), .mov (.tmp 86), none⟩])
 (.reg [⟨(some 87), .mov (.tmp 6), none⟩, ⟨(some 88), .mov (.tmp 12), none⟩, ⟨(some 89), .conv .i64 (.tmp 88), none⟩, ⟨(some 90), .mkslc 1 1 [(.int .i64 0)] [(0, (.tmp 89))], none⟩, ⟨(some 91), .callv (.tmp 87) [(.tmp 90)], none⟩])))
 (.reg [⟨(some 92), .bin .add (.tmp 83) (.val (.int .i64 1)), none⟩, ⟨(some 83), .mov (.tmp 92), none⟩]))))
def a27_L4 : AC := .loop a27_B4
theorem a27_L4_step (call : Caller) (again : AC → St → Option (Ex × St)) (s : St) : codeEv call again a27_L4 s = match codeEv call again a27_B4 s with | some (.norm, s1) => again a27_L4 s1 | r => r := rfl
def a27_B5 : AC := (.seq (.reg [⟨(some 59), .bin .lss (.tmp 58) (.tmp 57), none⟩])
 (.seq (.cond (.tmp 59) .skip (.exit 2))
 (.seq (.block 3 (.seq (.reg [⟨(some 60), .iaddrL 3 (.tmp 56) (.tmp 58), none⟩, ⟨(some 61), .load (some 3) (.tmp 60), none⟩, ⟨(some 10), .alloc (some 10) [(.int .i64 0), (.int .i64 0), (.int .i64 0)], none⟩, ⟨none, .store 3 (.tmp 10) (.tmp 61), none⟩])
 (.reg [⟨(some 62), .mov (.tmp 6), none⟩, ⟨(some 63), .faddr 0 (.tmp 10), none⟩, ⟨(some 64), .load none (.tmp 63), none⟩, ⟨(some 65), .faddr 1 (.tmp 10), none⟩, ⟨(some 66), .load none (.tmp 65), none⟩, ⟨(some 67), .faddr 2 (.tmp 10), none⟩, ⟨(some 68), .load none (.tmp 67), none⟩, ⟨(some 69), .mkslc 1 3 [(.int .i64 0)] [(0, (.tmp 64)), (1, (.tmp 66)), (2, (.tmp 68))], none⟩, ⟨(some 70), .callv (.tmp 62) [(.tmp 69)], none⟩])))
 (.reg [⟨(some 71), .bin .add (.tmp 58) (.val (.int .i64 1)), none⟩, ⟨(some 58), .mov (.tmp 71), none⟩]))))
def a27_L5 : AC := .loop a27_B5
theorem a27_L5_step (call : Caller) (again : AC → St → Option (Ex × St)) (s : St) : codeEv call again a27_L5 s = match codeEv call again a27_B5 s with | some (.norm, s1) => again a27_L5 s1 | r => r := rfl
def a27_B6 : AC := (.seq (.reg [⟨(some 36), .bin .lss (.tmp 35) (.tmp 34), none⟩])
 (.seq (.cond (.tmp 36) .skip (.exit 0))
 (.seq (.block 1 (.seq (.reg [⟨(some 37), .iaddrL 3 (.tmp 33) (.tmp 35), none⟩, ⟨(some 38), .load (some 3) (.tmp 37), none⟩, ⟨(some 8), .alloc (some 8) [(.int .i64 0), (.int .i64 0), (.int .i64 0)], none⟩, ⟨none, .store 3 (.tmp 8) (.tmp 38), none⟩])
 (.reg [⟨(some 39), .mov (.tmp 6), none⟩, ⟨(some 40), .faddr 0 (.tmp 8), none⟩, ⟨(some 41), .load none (.tmp 40), none⟩, ⟨(some 42), .faddr 1 (.tmp 8), none⟩, ⟨(some 43), .load none (.tmp 42), none⟩, ⟨(some 44), .faddr 2 (.tmp 8), none⟩, ⟨(some 45), .load none (.tmp 44), none⟩, ⟨(some 46), .mkslc 1 3 [(.int .i64 0)] [(0, (.tmp 41)), (1, (.tmp 43)), (2, (.tmp 45))], none⟩, ⟨(some 47), .callv (.tmp 39) [(.tmp 46)], none⟩])))
 (.reg [⟨(some 48), .bin .add (.tmp 35) (.val (.int .i64 1)), none⟩, ⟨(some 35), .mov (.tmp 48), none⟩]))))
def a27_L6 : AC := .loop a27_B6
theorem a27_L6_step (call : Caller) (again : AC → St → Option (Ex × St)) (s : St) : codeEv call again a27_L6 s = match codeEv call again a27_B6 s with | some (.norm, s1) => again a27_L6 s1 | r => r := rfl
def a27 : AFn := { n := 169, np := 1, res := [.tmp 2, .tmp 3], body :=
 (.seq (.reg [⟨(some 1), .box (some 1) (.tmp 0), none⟩, ⟨(some 2), .mov (.val .nils), none⟩, ⟨(some 3), .mov (.val (.int .i64 0)), none⟩])
 (.seq (.seq (.reg [⟨(some 20), .load (some 8) (.tmp 1), none⟩, ⟨(some 21), .call 28 [(.tmp 20)], none⟩, ⟨(some 4), .mov (.tmp 21), none⟩])
 (.seq (.reg [⟨(some 22), .mov (.tmp 4), none⟩, ⟨(some 23), .bin .neq (.tmp 22) (.val (.int .i64 0)), none⟩])
 (.cond (.tmp 23) (.seq (.reg [⟨(some 24), .mov (.tmp 4), none⟩, ⟨(some 2), .mov (.val .nils), none⟩, ⟨(some 3), .mov (.tmp 24), none⟩])
 .ret) .skip)))
 (.seq (.reg [⟨(some 5), .alloc none [.nils], none⟩])
 (.seq (.reg [⟨(some 25), .mkfn 51 [(.tmp 5)], none⟩, ⟨(some 6), .mov (.tmp 25), none⟩])
 (.seq (.reg [⟨(some 26), .mov (.tmp 6), none⟩, ⟨(some 27), .faddr 1 (.tmp 1), none⟩, ⟨(some 28), .load none (.tmp 27), none⟩, ⟨(some 29), .lenL (.tmp 28), none⟩, ⟨(some 30), .mkslc 1 1 [(.int .i64 0)] [(0, (.tmp 29))], none⟩, ⟨(some 31), .callv (.tmp 26) [(.tmp 30)], none⟩])
 (.seq (.seq (.reg [⟨(some 32), .faddr 1 (.tmp 1), none⟩, ⟨(some 33), .load none (.tmp 32), none⟩, ⟨(some 34), .lenL (.tmp 33), none⟩, ⟨(some 35), .mov (.val (.int .i64 0)), none⟩])
 (.block 0 a27_L6))
 (.seq (.reg [⟨(some 49), .mov (.tmp 6), none⟩, ⟨(some 50), .faddr 2 (.tmp 1), none⟩, ⟨(some 51), .load none (.tmp 50), none⟩, ⟨(some 52), .lenL (.tmp 51), none⟩, ⟨(some 53), .mkslc 1 1 [(.int .i64 0)] [(0, (.tmp 52))], none⟩, ⟨(some 54), .callv (.tmp 49) [(.tmp 53)], none⟩])
 (.seq (.seq (.reg [⟨(some 55), .faddr 2 (.tmp 1), none⟩, ⟨(some 56), .load none (.tmp 55), none⟩, ⟨(some 57), .lenL (.tmp 56), none⟩, ⟨(some 58), .mov (.val (.int .i64 0)), none⟩])
 (.block 2 a27_L5))
 (.seq (.reg [⟨(some 72), .mov (.tmp 6), none⟩, ⟨(some 73), .faddr 3 (.tmp 1), none⟩, ⟨(some 74), .load none (.tmp 73), none⟩, ⟨(some 75), .faddr 4 (.tmp 1), none⟩, ⟨(some 76), .load none (.tmp 75), none⟩, ⟨(some 77), .lenL (.tmp 76), none⟩, ⟨(some 78), .mkslc 1 2 [(.int .i64 0)] [(0, (.tmp 74)), (1, (.tmp 77))], none⟩, ⟨(some 79), .callv (.tmp 72) [(.tmp 78)], none⟩])
 (.seq (.seq (.reg [⟨(some 80), .faddr 4 (.tmp 1), none⟩, ⟨(some 81), .load none (.tmp 80), none⟩, ⟨(some 82), .lenL (.tmp 81), none⟩, ⟨(some 83), .mov (.val (.int .i64 0)), none⟩])
 (.block 4 a27_L4))
 (.seq (.reg [⟨(some 93), .mov (.tmp 6), none⟩, ⟨(some 94), .faddr 5 (.tmp 1), none⟩, ⟨(some 95), .load none (.tmp 94), none⟩, ⟨(some 96), .lenL (.tmp 95), none⟩, ⟨(some 97), .mkslc 1 1 [(.int .i64 0)] [(0, (.tmp 96))], none⟩, ⟨(some 98), .callv (.tmp 93) [(.tmp 97)], none⟩])
 (.seq (.seq (.reg [⟨(some 99), .faddr 5 (.tmp 1), none⟩, ⟨(some 100), .load none (.tmp 99), none⟩, ⟨(some 101), .lenL (.tmp 100), none⟩, ⟨(some 102), .mov (.val (.int .i64 0)), none⟩])
 (.block 6 a27_L3))
 (.seq (.reg [⟨(some 119), .mov (.tmp 6), none⟩, ⟨(some 120), .faddr 6 (.tmp 1), none⟩, ⟨(some 121), .load none (.tmp 120), none⟩, ⟨(some 122), .faddr 7 (.tmp 1), none⟩, ⟨(some 123), .load none (.tmp 122), none⟩, ⟨(some 124), .lenL (.tmp 123), none⟩, ⟨(some 125), .mkslc 1 2 [(.int .i64 0)] [(0, (.tmp 121)), (1, (.tmp 124))], none⟩, ⟨(some 126), .callv (.tmp 119) [(.tmp 125)], none⟩])
 (.seq (.seq (.reg [⟨(some 127), .faddr 7 (.tmp 1), none⟩, ⟨(some 128), .load none (.tmp 127), none⟩, ⟨(some 129), .lenL (.tmp 128), none⟩, ⟨(some 130), .mov (.val (.int .i64 0)), none⟩])
 (.block 8 a27_L2))
 (.seq (.reg [⟨(some 143), .mov (.tmp 6), none⟩, ⟨(some 144), .faddr 0 (.tmp 1), none⟩, ⟨(some 145), .load none (.tmp 144), none⟩, ⟨(some 146), .lenL (.tmp 145), none⟩, ⟨(some 147), .mkslc 1 1 [(.int .i64 0)] [(0, (.tmp 146))], none⟩, ⟨(some 148), .callv (.tmp 143) [(.tmp 147)], none⟩])
 (.seq (.seq (.reg [⟨(some 149), .faddr 0 (.tmp 1), none⟩, ⟨(some 150), .load none (.tmp 149), none⟩, ⟨(some 151), .lenL (.tmp 150), none⟩, ⟨(some 152), .mov (.val (.int .i64 0)), none⟩])
 (.block 10 a27_L1))
 (.seq (.reg [⟨(some 168), .load none (.tmp 5), none⟩, ⟨(some 2), .mov (.tmp 168), none⟩, ⟨(some 3), .mov (.val (.int .i64 0)), none⟩])
 .ret))))))))))))))))) }
def h28 : Hints := ⟨[1], [], []⟩
def a28_B1 : AC := (.seq (.reg [⟨(some 8), .bin .lss (.tmp 7) (.val (.int .i64 6)), none⟩])
 (.seq (.cond (.tmp 8) .skip (.exit 0))
 (.seq (.block 1 (.seq (.reg [⟨(some 9), .idxA 6 1 false (.tmp 6) (.tmp 7), none⟩, ⟨(some 4), .mov (.tmp 9), none⟩])
 (.seq (.reg [⟨(some 10), .mov (.tmp 4), none⟩, ⟨(some 11), .load (some 8) (.tmp 1), none⟩, ⟨(some 12), .build [.nils, .nils, .nils, (.int .i64 0), .nils, .nils, (.int .i64 0), .nils] [(0, 8, (.tmp 11))], none⟩, ⟨(some 13), .callv (.tmp 10) [(.tmp 12)], none⟩, ⟨(some 5), .mov (.tmp 13), none⟩])
 (.seq (.reg [⟨(some 14), .mov (.tmp 5), none⟩, ⟨(some 15), .bin .neq (.tmp 14) (.val (.int .i64 0)), none⟩])
 (.cond (.tmp 15) (.seq (.reg [⟨(some 16), .mov (.tmp 5), none⟩, ⟨(some 2), .mov (.tmp 16), none⟩])
 .ret) .skip)))))
 (.reg [⟨(some 17), .bin .add (.tmp 7) (.val (.int .i64 1)), none⟩, ⟨(some 7), .mov (.tmp 17), none⟩]))))
def a28_L1 : AC := .loop a28_B1
theorem a28_L1_step (call : Caller) (again : AC → St → Option (Ex × St)) (s : St) : codeEv call again a28_L1 s = match codeEv call again a28_B1 s with | some (.norm, s1) => again a28_L1 s1 | r => r := rfl
def a28 : AFn := { n := 18, np := 1, res := [.tmp 2], body :=
 (.seq (.reg [⟨(some 1), .box (some 1) (.tmp 0), none⟩, ⟨(some 2), .mov (.val (.int .i64 0)), none⟩])
 (.seq (.seq (.reg [⟨(some 6), .load (some 6) (.val (.ptr 1 0)), none⟩, ⟨(some 7), .mov (.val (.int .i64 0)), none⟩])
 (.block 0 a28_L1))
 (.seq (.reg [⟨(some 2), .mov (.val (.int .i64 0)), none⟩])
 .ret))) }
def h29 : Hints := ⟨[1, 7], [], []⟩
def a29_B1 : AC := (.seq (.reg [⟨(some 21), .bin .lss (.tmp 20) (.tmp 19), none⟩])
 (.seq (.cond (.tmp 21) .skip (.exit 0))
 (.seq (.block 1 (.seq (.reg [⟨(some 22), .mov (.tmp 20), none⟩, ⟨(some 23), .iaddrL 4 (.tmp 18) (.tmp 20), none⟩, ⟨(some 24), .load (some 4) (.tmp 23), none⟩, ⟨(some 7), .alloc (some 7) [(.int .i64 0), (.int .i64 0), (.int .i64 0), (.int .i64 0)], none⟩, ⟨(some 6), .mov (.tmp 22), none⟩, ⟨none, .store 4 (.tmp 7) (.tmp 24), none⟩])
 (.reg [⟨(some 25), .mov (.tmp 5), none⟩, ⟨(some 26), .mov (.tmp 6), none⟩, ⟨(some 27), .load (some 4) (.tmp 7), none⟩, ⟨(some 28), .call 13 [(.tmp 27)], none⟩, ⟨(some 29), .iaddrL 1 (.tmp 25) (.tmp 26), none⟩, ⟨none, .store 1 (.tmp 29) (.tmp 28), none⟩])))
 (.reg [⟨(some 30), .bin .add (.tmp 20) (.val (.int .i64 1)), none⟩, ⟨(some 20), .mov (.tmp 30), none⟩]))))
def a29_L1 : AC := .loop a29_B1
theorem a29_L1_step (call : Caller) (again : AC → St → Option (Ex × St)) (s : St) : codeEv call again a29_L1 s = match codeEv call again a29_B1 s with | some (.norm, s1) => again a29_L1 s1 | r => r := rfl
def a29 : AFn := { n := 32, np := 1, res := [.tmp 2, .tmp 3], body :=
 (.seq (.reg [⟨(some 1), .box (some 1) (.tmp 0), none⟩, ⟨(some 2), .mov (.val .nils), none⟩, ⟨(some 3), .mov (.val (.int .i64 0)), none⟩])
 (.seq (.seq (.reg [⟨(some 8), .load (some 8) (.tmp 1), none⟩, ⟨(some 9), .call 28 [(.tmp 8)], none⟩, ⟨(some 4), .mov (.tmp 9), none⟩])
 (.seq (.reg [⟨(some 10), .mov (.tmp 4), none⟩, ⟨(some 11), .bin .neq (.tmp 10) (.val (.int .i64 0)), none⟩])
 (.cond (.tmp 11) (.seq (.reg [⟨(some 12), .mov (.tmp 4), none⟩, ⟨(some 2), .mov (.val .nils), none⟩, ⟨(some 3), .mov (.tmp 12), none⟩])
 .ret) .skip)))
 (.seq (.reg [⟨(some 13), .faddr 0 (.tmp 1), none⟩, ⟨(some 14), .load none (.tmp 13), none⟩, ⟨(some 15), .lenL (.tmp 14), none⟩, ⟨(some 16), .make 1 16 [(.str ⟨#[]⟩)] (.tmp 15) (.tmp 15), none⟩, ⟨(some 5), .mov (.tmp 16), none⟩])
 (.seq (.seq (.reg [⟨(some 17), .faddr 0 (.tmp 1), none⟩, ⟨(some 18), .load none (.tmp 17), none⟩, ⟨(some 19), .lenL (.tmp 18), none⟩, ⟨(some 20), .mov (.val (.int .i64 0)), none⟩])
 (.block 0 a29_L1))
 (.seq (.reg [⟨(some 31), .mov (.tmp 5), none⟩, ⟨(some 2), .mov (.tmp 31), none⟩, ⟨(some 3), .mov (.val (.int .i64 0)), none⟩])
 .ret))))) }
def h31 : Hints := ⟨[0], [], []⟩
def a31 : AFn := { n := 7, np := 0, res := [.cell 0 (some 8)], body :=
 (.seq (.reg [⟨(some 0), .alloc (some 0) [.nils, .nils, .nils, (.int .i64 0), .nils, .nils, (.int .i64 0), .nils], none⟩])
 (.seq (.reg [⟨(some 1), .build [(.int .i64 0), (.int .i64 0), (.int .i64 0), (.int .i64 0)] [(0, 1, (.val (.int .i64 22)))], none⟩, ⟨(some 2), .build [(.int .i64 0), (.int .i64 0), (.int .i64 0), (.int .i64 0)] [(0, 1, (.val (.int .i64 1)))], none⟩, ⟨(some 3), .mkslc 4 2 [(.int .i64 0), (.int .i64 0), (.int .i64 0), (.int .i64 0)] [(0, (.tmp 1)), (1, (.tmp 2))], none⟩, ⟨(some 4), .build [(.int .i64 0), (.int .i64 0), (.int .i64 0)] [], none⟩, ⟨(some 5), .mkslc 3 1 [(.int .i64 0), (.int .i64 0), (.int .i64 0)] [(0, (.tmp 4))], none⟩, ⟨(some 6), .build [.nils, .nils, .nils, (.int .i64 0), .nils, .nils, (.int .i64 0), .nils] [(0, 1, (.tmp 3)), (1, 1, (.tmp 5)), (6, 1, (.val (.int .i64 10)))], none⟩, ⟨none, .store 8 (.tmp 0) (.tmp 6), none⟩])
 .ret)) }
def h32 : Hints := ⟨[2], [], []⟩
def a32_B1 : AC := (.seq (.reg [⟨(some 26), .bin .lss (.tmp 25) (.tmp 24), none⟩])
 (.seq (.cond (.tmp 26) .skip (.exit 0))
 (.seq (.block 1 (.seq (.reg [⟨(some 27), .mov (.tmp 25), none⟩, ⟨(some 7), .mov (.tmp 27), none⟩])
 (.seq (.reg [⟨(some 28), .faddr 1 (.tmp 2), none⟩, ⟨(some 29), .load none (.tmp 28), none⟩, ⟨(some 30), .mov (.tmp 7), none⟩, ⟨(some 31), .iaddrL 3 (.tmp 29) (.tmp 30), none⟩, ⟨(some 32), .faddr 0 (.tmp 31), none⟩, ⟨(some 33), .load none (.tmp 32), none⟩, ⟨(some 34), .mov (.tmp 1), none⟩, ⟨(some 35), .bin .leq (.tmp 33) (.tmp 34), none⟩])
 (.cond (.tmp 35) (.reg [⟨(some 36), .mov (.tmp 7), none⟩, ⟨(some 6), .mov (.tmp 36), none⟩]) .skip))))
 (.reg [⟨(some 37), .bin .add (.tmp 25) (.val (.int .i64 1)), none⟩, ⟨(some 25), .mov (.tmp 37), none⟩]))))
def a32_L1 : AC := .loop a32_B1
theorem a32_L1_step (call : Caller) (again : AC → St → Option (Ex × St)) (s : St) : codeEv call again a32_L1 s = match codeEv call again a32_B1 s with | some (.norm, s1) => again a32_L1 s1 | r => r := rfl
def a32 : AFn := { n := 39, np := 2, res := [.tmp 4, .tmp 5], body :=
 (.seq (.reg [⟨(some 2), .box (some 2) (.tmp 0), none⟩, ⟨(some 4), .mov (.val (.int .i64 0)), none⟩, ⟨(some 5), .mov (.val (.bool false)), none⟩])
 (.seq (.seq (.reg [⟨(some 8), .load (some 8) (.tmp 2), none⟩, ⟨(some 9), .call 28 [(.tmp 8)], none⟩, ⟨(some 10), .bin .neq (.tmp 9) (.val (.int .i64 0)), none⟩, ⟨(some 11), .mov (.tmp 10), none⟩, ⟨(some 12), .mov (.tmp 1), (some (11, false))⟩, ⟨(some 13), .bin .lss (.tmp 12) (.val (.int .i64 0)), (some (11, false))⟩, ⟨(some 14), .pick (.tmp 11) (.val (.bool true)) (.tmp 13), none⟩, ⟨(some 15), .mov (.tmp 14), none⟩, ⟨(some 16), .mov (.tmp 1), (some (15, false))⟩, ⟨(some 17), .faddr 0 (.tmp 2), (some (15, false))⟩, ⟨(some 18), .load none (.tmp 17), (some (15, false))⟩, ⟨(some 19), .lenL (.tmp 18), (some (15, false))⟩, ⟨(some 20), .bin .geq (.tmp 16) (.tmp 19), (some (15, false))⟩, ⟨(some 21), .pick (.tmp 15) (.val (.bool true)) (.tmp 20), none⟩])
 (.cond (.tmp 21) (.seq (.reg [⟨(some 4), .mov (.val (.int .i64 0)), none⟩, ⟨(some 5), .mov (.val (.bool false)), none⟩])
 .ret) .skip))
 (.seq (.reg [⟨(some 6), .mov (.val (.int .i64 0)), none⟩])
 (.seq (.seq (.reg [⟨(some 22), .faddr 1 (.tmp 2), none⟩, ⟨(some 23), .load none (.tmp 22), none⟩, ⟨(some 24), .lenL (.tmp 23), none⟩, ⟨(some 25), .mov (.val (.int .i64 0)), none⟩])
 (.block 0 a32_L1))
 (.seq (.reg [⟨(some 38), .mov (.tmp 6), none⟩, ⟨(some 4), .mov (.tmp 38), none⟩, ⟨(some 5), .mov (.val (.bool true)), none⟩])
 .ret))))) }
def h33 : Hints := ⟨[], [], []⟩
def a33_B1 : AC := (.seq (.seq (.reg [⟨(some 11), .mov (.tmp 5), none⟩, ⟨(some 12), .mov (.tmp 0), none⟩, ⟨(some 13), .lenL (.tmp 12), none⟩, ⟨(some 14), .bin .lss (.tmp 11) (.tmp 13), none⟩])
 (.cond (.tmp 14) .skip (.exit 0)))
 (.seq (.block 1 (.seq (.dreg [(false, ⟨(some 17), .mov (.tmp 0), none⟩, false), (false, ⟨(some 18), .mov (.tmp 5), none⟩, false), (false, ⟨(some 19), .iaddrL 1 (.tmp 17) (.tmp 18), none⟩, false), (false, ⟨(some 20), .load none (.tmp 19), none⟩, false), (false, ⟨(some 21), .mov (.tmp 1), none⟩, false), (false, ⟨(some 22), .mov (.tmp 5), none⟩, false), (false, ⟨(some 23), .iaddrL 1 (.tmp 21) (.tmp 22), none⟩, false), (false, ⟨(some 24), .load none (.tmp 23), none⟩, false), (false, ⟨(some 25), .bin .neq (.tmp 20) (.tmp 24), none⟩, false)])
 (.cond (.tmp 25) (.seq (.reg [⟨(some 4), .mov (.val (.bool false)), none⟩])
 .ret) .skip)))
 (.reg [⟨(some 15), .mov (.tmp 5), none⟩, ⟨(some 16), .bin .add (.tmp 15) (.val (.int .i64 1)), none⟩, ⟨(some 5), .mov (.tmp 16), none⟩])))
def a33_L1 : AC := .loop a33_B1
theorem a33_L1_step (call : Caller) (again : AC → St → Option (Ex × St)) (s : St) : codeEv call again a33_L1 s = match codeEv call again a33_B1 s with | some (.norm, s1) => again a33_L1 s1 | r => r := rfl
def a33 : AFn := { n := 26, np := 2, res := [.tmp 4], body :=
 (.seq (.reg [⟨(some 4), .mov (.val (.bool false)), none⟩])
 (.seq (.seq (.reg [⟨(some 6), .mov (.tmp 0), none⟩, ⟨(some 7), .lenL (.tmp 6), none⟩, ⟨(some 8), .mov (.tmp 1), none⟩, ⟨(some 9), .lenL (.tmp 8), none⟩, ⟨(some 10), .bin .neq (.tmp 7) (.tmp 9), none⟩])
 (.cond (.tmp 10) (.seq (.reg [⟨(some 4), .mov (.val (.bool false)), none⟩])
 .ret) .skip))
 (.seq (.seq (.reg [⟨(some 5), .mov (.val (.int .i64 0)), none⟩])
 (.block 0 a33_L1))
 (.seq (.reg [⟨(some 4), .mov (.val (.bool true)), none⟩])
 .ret)))) }
def h34 : Hints := ⟨[1], [], []⟩
def a34_B1 : AC := (.seq (.reg [⟨(some 30), .bin .lss (.tmp 29) (.tmp 28), none⟩])
 (.seq (.cond (.tmp 30) .skip (.exit 4))
 (.seq (.block 5 (.seq (.reg [⟨(some 31), .iaddrL 1 (.tmp 27) (.tmp 29), none⟩, ⟨(some 32), .load none (.tmp 31), none⟩, ⟨(some 5), .mov (.tmp 32), none⟩])
 (.seq (.reg [⟨(some 33), .mov (.tmp 2), none⟩, ⟨(some 34), .mov (.tmp 5), none⟩, ⟨(some 35), .call 60 [(.tmp 33), (.tmp 34)], none⟩, ⟨(some 36), .un .not (.tmp 35), none⟩])
 (.cond (.tmp 36) (.exit 3) .skip))))
 (.reg [⟨(some 37), .bin .add (.tmp 29) (.val (.int .i64 1)), none⟩, ⟨(some 29), .mov (.tmp 37), none⟩]))))
def a34_L1 : AC := .loop a34_B1
theorem a34_L1_step (call : Caller) (again : AC → St → Option (Ex × St)) (s : St) : codeEv call again a34_L1 s = match codeEv call again a34_B1 s with | some (.norm, s1) => again a34_L1 s1 | r => r := rfl
def a34_B2 : AC := (.seq (.reg [⟨(some 19), .bin .lss (.tmp 18) (.tmp 17), none⟩])
 (.seq (.cond (.tmp 19) .skip (.exit 2))
 (.seq (.block 3 (.seq (.reg [⟨(some 20), .mov (.tmp 18), none⟩, ⟨(some 3), .mov (.tmp 20), none⟩])
 (.seq (.seq (.reg [⟨(some 21), .mov (.tmp 2), none⟩, ⟨(some 22), .mov (.tmp 3), none⟩, ⟨(some 23), .call 60 [(.tmp 21), (.tmp 22)], none⟩])
 (.cond (.tmp 23) (.exit 3) .skip))
 (.seq (.seq (.reg [⟨(some 24), .load (some 8) (.tmp 1), none⟩, ⟨(some 25), .build [.nils, .nils, .nils, (.int .i64 0), .nils, .nils, (.int .i64 0), .nils] [(0, 8, (.tmp 24))], none⟩, ⟨(some 26), .mov (.tmp 3), none⟩, ⟨(some 27), .call 61 [(.tmp 25), (.tmp 26)], none⟩, ⟨(some 28), .lenL (.tmp 27), none⟩, ⟨(some 29), .mov (.val (.int .i64 0)), none⟩])
 (.block 4 a34_L1))
 (.seq (.reg [⟨(some 38), .mov (.tmp 2), none⟩, ⟨(some 39), .mov (.tmp 3), none⟩, ⟨(some 40), .mkslc 1 1 [(.int .i64 0)] [(0, (.tmp 39))], none⟩, ⟨(some 41), .app none 1 8 (.tmp 38) (.tmp 40), none⟩, ⟨(some 2), .mov (.tmp 41), none⟩])
 (.exit 2))))))
 (.reg [⟨(some 42), .bin .add (.tmp 18) (.val (.int .i64 1)), none⟩, ⟨(some 18), .mov (.tmp 42), none⟩]))))
def a34_L2 : AC := .loop a34_B2
theorem a34_L2_step (call : Caller) (again : AC → St → Option (Ex × St)) (s : St) : codeEv call again a34_L2 s = match codeEv call again a34_B2 s with | some (.norm, s1) => again a34_L2 s1 | r => r := rfl
def a34_B3 : AC := (.seq (.seq (.reg [⟨(some 9), .mov (.tmp 2), none⟩, ⟨(some 10), .lenL (.tmp 9), none⟩, ⟨(some 11), .faddr 1 (.tmp 1), none⟩, ⟨(some 12), .load none (.tmp 11), none⟩, ⟨(some 13), .lenL (.tmp 12), none⟩, ⟨(some 14), .bin .lss (.tmp 10) (.tmp 13), none⟩])
 (.cond (.tmp 14) .skip (.exit 0)))
 (.block 1 (.seq .skip
 (.seq (.reg [⟨(some 15), .faddr 1 (.tmp 1), none⟩, ⟨(some 16), .load none (.tmp 15), none⟩, ⟨(some 17), .lenL (.tmp 16), none⟩, ⟨(some 18), .mov (.val (.int .i64 0)), none⟩])
 (.block 2 a34_L2)))))
def a34_L3 : AC := .loop a34_B3
theorem a34_L3_step (call : Caller) (again : AC → St → Option (Ex × St)) (s : St) : codeEv call again a34_L3 s = match codeEv call again a34_B3 s with | some (.norm, s1) => again a34_L3 s1 | r => r := rfl
def a34 : AFn := { n := 44, np := 1, res := [.tmp 2], body :=
 (.seq (.reg [⟨(some 1), .box (some 1) (.tmp 0), none⟩, ⟨(some 2), .mov (.val .nils), none⟩])
 (.seq (.seq (.reg [⟨(some 6), .load (some 8) (.tmp 1), none⟩, ⟨(some 7), .call 28 [(.tmp 6)], none⟩, ⟨(some 8), .bin .neq (.tmp 7) (.val (.int .i64 0)), none⟩])
 (.cond (.tmp 8) (.seq (.reg [⟨(some 2), .mov (.val .nils), none⟩])
 .ret) .skip))
 (.seq (.block 0 a34_L3)
 (.seq (.reg [⟨(some 43), .mov (.tmp 2), none⟩, ⟨(some 2), .mov (.tmp 43), none⟩])
 .ret)))) }
def h35 : Hints := ⟨[], [], []⟩
def a35 : AFn := { n := 70, np := 2, res := [.tmp 4], body :=
 (.seq (.reg [⟨(some 4), .mov (.val (.bool false)), none⟩])
 (.seq (.seq (.reg [⟨(some 5), .mov (.tmp 0), none⟩])
 (.block 0 (.seq (.reg [⟨(some 7), .bin .eql (.tmp 5) (.val (.int .i64 0)), none⟩, ⟨(some 6), .mov (.tmp 7), none⟩])
 (.cond (.tmp 6) (.seq (.reg [⟨(some 8), .mov (.tmp 1), none⟩, ⟨(some 9), .bin .eql (.tmp 8) (.val (.int .i64 0)), none⟩, ⟨(some 4), .mov (.tmp 9), none⟩])
 .ret) (.seq (.reg [⟨(some 11), .bin .eql (.tmp 5) (.val (.int .i64 1)), none⟩, ⟨(some 10), .mov (.tmp 11), none⟩])
 (.cond (.tmp 10) (.seq (.reg [⟨(some 12), .mov (.tmp 1), none⟩, ⟨(some 13), .bin .geq (.tmp 12) (.val (.int .i64 0)), none⟩, ⟨(some 14), .mov (.tmp 13), none⟩, ⟨(some 15), .mov (.tmp 1), (some (14, true))⟩, ⟨(some 16), .bin .leq (.tmp 15) (.val (.int .i64 1048576)), (some (14, true))⟩, ⟨(some 17), .pick (.tmp 14) (.tmp 16) (.val (.bool false)), none⟩, ⟨(some 4), .mov (.tmp 17), none⟩])
 .ret) (.seq (.reg [⟨(some 19), .bin .eql (.tmp 5) (.val (.int .i64 2)), none⟩, ⟨(some 18), .mov (.tmp 19), none⟩])
 (.cond (.tmp 18) (.seq (.reg [⟨(some 20), .mov (.tmp 1), none⟩, ⟨(some 21), .bin .geq (.tmp 20) (.val (.int .i64 0)), none⟩, ⟨(some 22), .mov (.tmp 21), none⟩, ⟨(some 23), .mov (.tmp 1), (some (22, true))⟩, ⟨(some 24), .bin .leq (.tmp 23) (.val (.int .i64 4294967295)), (some (22, true))⟩, ⟨(some 25), .pick (.tmp 22) (.tmp 24) (.val (.bool false)), none⟩, ⟨(some 4), .mov (.tmp 25), none⟩])
 .ret) (.seq (.reg [⟨(some 27), .bin .eql (.tmp 5) (.val (.int .i64 3)), none⟩, ⟨(some 26), .mov (.tmp 27), none⟩])
 (.cond (.tmp 26) (.seq (.reg [⟨(some 28), .mov (.tmp 1), none⟩, ⟨(some 29), .bin .eql (.tmp 28) (.val (.int .i64 8)), none⟩, ⟨(some 30), .mov (.tmp 29), none⟩, ⟨(some 31), .mov (.tmp 1), (some (30, false))⟩, ⟨(some 32), .bin .eql (.tmp 31) (.val (.int .i64 16)), (some (30, false))⟩, ⟨(some 33), .pick (.tmp 30) (.val (.bool true)) (.tmp 32), none⟩, ⟨(some 34), .mov (.tmp 33), none⟩, ⟨(some 35), .mov (.tmp 1), (some (34, false))⟩, ⟨(some 36), .bin .eql (.tmp 35) (.val (.int .i64 32)), (some (34, false))⟩, ⟨(some 37), .pick (.tmp 34) (.val (.bool true)) (.tmp 36), none⟩, ⟨(some 4), .mov (.tmp 37), none⟩])
 .ret) (.seq (.reg [⟨(some 39), .bin .eql (.tmp 5) (.val (.int .i64 4)), none⟩, ⟨(some 38), .mov (.tmp 39), none⟩])
 (.cond (.tmp 38) (.seq (.reg [⟨(some 40), .mov (.tmp 1), none⟩, ⟨(some 41), .bin .geq (.tmp 40) (.val (.int .i64 1)), none⟩, ⟨(some 42), .mov (.tmp 41), none⟩, ⟨(some 43), .mov (.tmp 1), (some (42, true))⟩, ⟨(some 44), .bin .leq (.tmp 43) (.val (.int .i64 1048576)), (some (42, true))⟩, ⟨(some 45), .pick (.tmp 42) (.tmp 44) (.val (.bool false)), none⟩, ⟨(some 4), .mov (.tmp 45), none⟩])
 .ret) (.seq (.reg [⟨(some 47), .bin .eql (.tmp 5) (.val (.int .i64 5)), none⟩, ⟨(some 46), .mov (.tmp 47), none⟩])
 (.cond (.tmp 46) (.seq (.reg [⟨(some 48), .mov (.tmp 1), none⟩, ⟨(some 49), .bin .geq (.tmp 48) (.val (.int .i64 0)), none⟩, ⟨(some 50), .mov (.tmp 49), none⟩, ⟨(some 51), .mov (.tmp 1), (some (50, true))⟩, ⟨(some 52), .bin .leq (.tmp 51) (.val (.int .i64 31)), (some (50, true))⟩, ⟨(some 53), .pick (.tmp 50) (.tmp 52) (.val (.bool false)), none⟩, ⟨(some 4), .mov (.tmp 53), none⟩])
 .ret) (.seq (.reg [⟨(some 55), .bin .eql (.tmp 5) (.val (.int .i64 6)), none⟩, ⟨(some 54), .mov (.tmp 55), none⟩])
 (.cond (.tmp 54) (.seq (.reg [⟨(some 56), .mov (.tmp 1), none⟩, ⟨(some 57), .bin .geq (.tmp 56) (.val (.int .i64 0)), none⟩, ⟨(some 58), .mov (.tmp 57), none⟩, ⟨(some 59), .mov (.tmp 1), (some (58, true))⟩, ⟨(some 60), .bin .leq (.tmp 59) (.val (.int .i64 15)), (some (58, true))⟩, ⟨(some 61), .pick (.tmp 58) (.tmp 60) (.val (.bool false)), none⟩, ⟨(some 4), .mov (.tmp 61), none⟩])
 .ret) (.seq (.reg [⟨(some 63), .bin .eql (.tmp 5) (.val (.int .i64 7)), none⟩, ⟨(some 62), .mov (.tmp 63), none⟩])
 (.cond (.tmp 62) (.seq (.reg [⟨(some 64), .mov (.tmp 1), none⟩, ⟨(some 65), .call 36 [(.tmp 64)], none⟩, ⟨(some 66), .bin .neq (.tmp 65) (.val (.str ⟨#[]⟩)), none⟩, ⟨(some 4), .mov (.tmp 66), none⟩])
 .ret) .skip))))))))))))))))))
 (.seq (.reg [⟨(some 67), .mov (.tmp 1), none⟩, ⟨(some 68), .call 37 [(.tmp 67)], none⟩, ⟨(some 69), .bin .neq (.tmp 68) (.val (.str ⟨#[]⟩)), none⟩, ⟨(some 4), .mov (.tmp 69), none⟩])
 .ret))) }
def h36 : Hints := ⟨[], [], []⟩
def a36 : AFn := { n := 9, np := 1, res := [.tmp 2], body :=
 (.seq (.reg [⟨(some 2), .mov (.val (.str ⟨#[]⟩)), none⟩])
 (.seq (.seq (.reg [⟨(some 3), .mov (.tmp 0), none⟩, ⟨(some 4), .call 62 [(.tmp 3)], none⟩, ⟨(some 5), .un .not (.tmp 4), none⟩])
 (.cond (.tmp 5) (.seq (.reg [⟨(some 2), .mov (.val (.str ⟨#[]⟩)), none⟩])
 .ret) .skip))
 (.seq (.reg [⟨(some 6), .mov (.tmp 0), none⟩, ⟨(some 7), .iaddrA 20 1 (.val (.ptr 2 0)) (.tmp 6), none⟩, ⟨(some 8), .load none (.tmp 7), none⟩, ⟨(some 2), .mov (.tmp 8), none⟩])
 .ret))) }
def h37 : Hints := ⟨[], [], []⟩
def a37 : AFn := { n := 10, np := 1, res := [.tmp 2], body :=
 (.seq (.reg [⟨(some 2), .mov (.val (.str ⟨#[]⟩)), none⟩])
 (.seq (.seq (.reg [⟨(some 3), .mov (.tmp 0), none⟩])
 (.block 0 (.seq (.reg [⟨(some 5), .bin .eql (.tmp 3) (.val (.int .i64 1)), none⟩, ⟨(some 4), .mov (.tmp 5), none⟩])
 (.cond (.tmp 4) (.seq (.reg [⟨(some 2), .mov (.val (.str ⟨#[110, 101, 103]⟩)), none⟩])
 .ret) (.seq (.reg [⟨(some 7), .bin .eql (.tmp 3) (.val (.int .i64 2)), none⟩, ⟨(some 6), .mov (.tmp 7), none⟩])
 (.cond (.tmp 6) (.seq (.reg [⟨(some 2), .mov (.val (.str ⟨#[110, 111, 116]⟩)), none⟩])
 .ret) (.seq (.reg [⟨(some 9), .bin .eql (.tmp 3) (.val (.int .i64 3)), none⟩, ⟨(some 8), .mov (.tmp 9), none⟩])
 (.cond (.tmp 8) (.seq (.reg [⟨(some 2), .mov (.val (.str ⟨#[122, 101, 114, 111]⟩)), none⟩])
 .ret) .skip))))))))
 (.seq (.reg [⟨(some 2), .mov (.val (.str ⟨#[]⟩)), none⟩])
 .ret))) }
def h38 : Hints := ⟨[], [], []⟩
def a38 : AFn := { n := 5, np := 1, res := [.tmp 2], body :=
 (.seq (.reg [⟨(some 2), .mov (.val (.str ⟨#[]⟩)), none⟩])
 (.seq (.reg [⟨(some 3), .mov (.tmp 0), none⟩, ⟨(some 4), .call 63 [(.tmp 3)], none⟩, ⟨(some 2), .mov (.tmp 4), none⟩])
 .ret)) }
def h39 : Hints := ⟨[], [], [8]⟩
def a39_B1 : AC := (.seq (.reg [⟨(some 66), .bin .lss (.tmp 65) (.tmp 64), none⟩])
 (.seq (.cond (.tmp 66) .skip (.exit 3))
 (.seq (.block 4 (.seq (.reg [⟨(some 67), .iaddrL 1 (.tmp 63) (.tmp 65), none⟩, ⟨(some 68), .load none (.tmp 67), none⟩, ⟨(some 10), .mov (.tmp 68), none⟩])
 (.seq (.reg [⟨(some 69), .mov (.tmp 1), none⟩, ⟨(some 70), .call 65 [(.tmp 8), (.tmp 69)], none⟩])
 (.reg [⟨(some 71), .mov (.tmp 10), none⟩, ⟨(some 72), .call 65 [(.tmp 8), (.tmp 71)], none⟩]))))
 (.reg [⟨(some 73), .bin .add (.tmp 65) (.val (.int .i64 1)), none⟩, ⟨(some 65), .mov (.tmp 73), none⟩]))))
def a39_L1 : AC := .loop a39_B1
theorem a39_L1_step (call : Caller) (again : AC → St → Option (Ex × St)) (s : St) : codeEv call again a39_L1 s = match codeEv call again a39_B1 s with | some (.norm, s1) => again a39_L1 s1 | r => r := rfl
def a39_B2 : AC := (.seq (.reg [⟨(some 42), .bin .lss (.tmp 41) (.tmp 40), none⟩])
 (.seq (.cond (.tmp 42) .skip (.exit 1))
 (.seq (.block 2 (.seq (.reg [⟨(some 43), .iaddrL 1 (.tmp 39) (.tmp 41), none⟩, ⟨(some 44), .load none (.tmp 43), none⟩, ⟨(some 7), .mov (.tmp 44), none⟩])
 (.seq (.seq (.reg [⟨(some 45), .mov (.tmp 7), none⟩, ⟨(some 46), .lenS (.tmp 45), none⟩, ⟨(some 47), .mov (.tmp 5), none⟩, ⟨(some 48), .bin .sub (.val (.int .i64 9223372036854775807)) (.tmp 47), none⟩, ⟨(some 49), .bin .gtr (.tmp 46) (.tmp 48), none⟩])
 (.cond (.tmp 49) (.reg [⟨(some 50), .xp (.mkif 9) [(.val (.str ⟨#[115, 116, 114, 105, 110, 103, 115, 58, 32, 74, 111, 105, 110, 32, 111, 117, 116, 112, 117, 116, 32, 108, 101, 110, 103, 116, 104, 32, 111, 118, 101, 114, 102, 108, 111, 119]⟩))], none⟩, ⟨none, .bad, none⟩]) .skip))
 (.reg [⟨(some 51), .mov (.tmp 5), none⟩, ⟨(some 52), .mov (.tmp 7), none⟩, ⟨(some 53), .lenS (.tmp 52), none⟩, ⟨(some 54), .bin .add (.tmp 51) (.tmp 53), none⟩, ⟨(some 5), .mov (.tmp 54), none⟩]))))
 (.reg [⟨(some 55), .bin .add (.tmp 41) (.val (.int .i64 1)), none⟩, ⟨(some 41), .mov (.tmp 55), none⟩]))))
def a39_L2 : AC := .loop a39_B2
theorem a39_L2_step (call : Caller) (again : AC → St → Option (Ex × St)) (s : St) : codeEv call again a39_L2 s = match codeEv call again a39_B2 s with | some (.norm, s1) => again a39_L2 s1 | r => r := rfl
def a39 : AFn := { n := 75, np := 2, res := [.tmp 4], body :=
 (.seq (.reg [⟨(some 4), .mov (.val (.str ⟨#[]⟩)), none⟩])
 (.seq (.seq (.reg [⟨(some 11), .mov (.tmp 0), none⟩, ⟨(some 12), .lenL (.tmp 11), none⟩])
 (.block 0 (.seq (.reg [⟨(some 14), .bin .eql (.tmp 12) (.val (.int .i64 0)), none⟩, ⟨(some 13), .mov (.tmp 14), none⟩])
 (.cond (.tmp 13) (.seq (.reg [⟨(some 4), .mov (.val (.str ⟨#[]⟩)), none⟩])
 .ret) (.seq (.reg [⟨(some 16), .bin .eql (.tmp 12) (.val (.int .i64 1)), none⟩, ⟨(some 15), .mov (.tmp 16), none⟩])
 (.cond (.tmp 15) (.seq (.reg [⟨(some 17), .mov (.tmp 0), none⟩, ⟨(some 18), .iaddrL 1 (.tmp 17) (.val (.int .i64 0)), none⟩, ⟨(some 19), .load none (.tmp 18), none⟩, ⟨(some 4), .mov (.tmp 19), none⟩])
 .ret) .skip))))))
 (.seq (.reg [⟨(some 5), .mov (.val (.int .i64 0)), none⟩])
 (.seq (.seq (.reg [⟨(some 20), .mov (.tmp 1), none⟩, ⟨(some 21), .lenS (.tmp 20), none⟩, ⟨(some 22), .bin .gtr (.tmp 21) (.val (.int .i64 0)), none⟩])
 (.cond (.tmp 22) (.seq (.seq (.reg [⟨(some 23), .mov (.tmp 1), none⟩, ⟨(some 24), .lenS (.tmp 23), none⟩, ⟨(some 25), .mov (.tmp 0), none⟩, ⟨(some 26), .lenL (.tmp 25), none⟩, ⟨(some 27), .bin .sub (.tmp 26) (.val (.int .i64 1)), none⟩, ⟨(some 28), .bin .quo (.val (.int .i64 9223372036854775807)) (.tmp 27), none⟩, ⟨(some 29), .bin .geq (.tmp 24) (.tmp 28), none⟩])
 (.cond (.tmp 29) (.reg [⟨(some 30), .xp (.mkif 9) [(.val (.str ⟨#[115, 116, 114, 105, 110, 103, 115, 58, 32, 74, 111, 105, 110, 32, 111, 117, 116, 112, 117, 116, 32, 108, 101, 110, 103, 116, 104, 32, 111, 118, 101, 114, 102, 108, 111, 119]⟩))], none⟩, ⟨none, .bad, none⟩]) .skip))
 (.reg [⟨(some 31), .mov (.tmp 5), none⟩, ⟨(some 32), .mov (.tmp 1), none⟩, ⟨(some 33), .lenS (.tmp 32), none⟩, ⟨(some 34), .mov (.tmp 0), none⟩, ⟨(some 35), .lenL (.tmp 34), none⟩, ⟨(some 36), .bin .sub (.tmp 35) (.val (.int .i64 1)), none⟩, ⟨(some 37), .bin .mul (.tmp 33) (.tmp 36), none⟩, ⟨(some 38), .bin .add (.tmp 31) (.tmp 37), none⟩, ⟨(some 5), .mov (.tmp 38), none⟩])) .skip))
 (.seq (.seq (.reg [⟨(some 39), .mov (.tmp 0), none⟩, ⟨(some 40), .lenL (.tmp 39), none⟩, ⟨(some 41), .mov (.val (.int .i64 0)), none⟩])
 (.block 1 a39_L2))
 (.seq (.reg [⟨(some 8), .xm (.allocT 111 [.nilp, .nils]) [], none⟩])
 (.seq (.reg [⟨(some 56), .mov (.tmp 5), none⟩, ⟨(some 57), .call 64 [(.tmp 8), (.tmp 56)], none⟩])
 (.seq (.reg [⟨(some 58), .mov (.tmp 0), none⟩, ⟨(some 59), .iaddrL 1 (.tmp 58) (.val (.int .i64 0)), none⟩, ⟨(some 60), .load none (.tmp 59), none⟩, ⟨(some 61), .call 65 [(.tmp 8), (.tmp 60)], none⟩])
 (.seq (.seq (.reg [⟨(some 62), .mov (.tmp 0), none⟩, ⟨(some 63), .slcL 1 (.tmp 62) (some (.val (.int .i64 1))) none none, none⟩, ⟨(some 64), .lenL (.tmp 63), none⟩, ⟨(some 65), .mov (.val (.int .i64 0)), none⟩])
 (.block 3 a39_L1))
 (.seq (.reg [⟨(some 74), .call 66 [(.tmp 8)], none⟩, ⟨(some 4), .mov (.tmp 74), none⟩])
 .ret)))))))))) }
def h49 : Hints := ⟨[2, 5], [], []⟩
def a49_B1 : AC := (.seq (.reg [⟨(some 107), .bin .lss (.tmp 106) (.tmp 105), none⟩])
 (.seq (.cond (.tmp 107) .skip (.exit 12))
 (.seq (.block 13 (.dreg [(false, ⟨(some 108), .faddr 0 (.tmp 5), none⟩, false), (false, ⟨(some 109), .load none (.tmp 108), none⟩, true), (false, ⟨(some 110), .mov (.tmp 4), none⟩, false), (false, ⟨(some 111), .call 72 [(.tmp 110)], none⟩, false), (false, ⟨(some 112), .mov (.tmp 4), none⟩, false), (false, ⟨(some 113), .call 72 [(.tmp 112)], none⟩, false), (false, ⟨(some 114), .mov (.tmp 4), none⟩, false), (false, ⟨(some 115), .call 72 [(.tmp 114)], none⟩, false), (false, ⟨(some 116), .mov (.tmp 4), none⟩, false), (false, ⟨(some 117), .call 72 [(.tmp 116)], none⟩, false), (false, ⟨(some 118), .build [(.int .i64 0), (.int .i64 0), (.int .i64 0), (.int .i64 0)] [(0, 1, (.tmp 111)), (1, 1, (.tmp 113)), (2, 1, (.tmp 115)), (3, 1, (.tmp 117))], none⟩, false), (false, ⟨(some 119), .mkslc 4 1 [(.int .i64 0), (.int .i64 0), (.int .i64 0), (.int .i64 0)] [(0, (.tmp 118))], none⟩, false), (false, ⟨(some 120), .app none 4 32 (.tmp 109) (.tmp 119), none⟩, false), (false, ⟨(some 121), .faddr 0 (.tmp 5), none⟩, false), (false, ⟨none, .store 1 (.tmp 121) (.tmp 120), none⟩, false)]))
 (.reg [⟨(some 122), .bin .add (.tmp 106) (.val (.int .i64 1)), none⟩, ⟨(some 106), .mov (.tmp 122), none⟩]))))
def a49_L1 : AC := .loop a49_B1
theorem a49_L1_step (call : Caller) (again : AC → St → Option (Ex × St)) (s : St) : codeEv call again a49_L1 s = match codeEv call again a49_B1 s with | some (.norm, s1) => again a49_L1 s1 | r => r := rfl
def a49_B2 : AC := (.seq (.reg [⟨(some 90), .bin .lss (.tmp 89) (.tmp 88), none⟩])
 (.seq (.cond (.tmp 90) .skip (.exit 10))
 (.seq (.block 11 (.reg [⟨(some 91), .mov (.tmp 7), none⟩, ⟨(some 92), .mov (.tmp 4), none⟩, ⟨(some 93), .call 72 [(.tmp 92)], none⟩, ⟨(some 94), .mkslc 1 1 [(.int .i64 0)] [(0, (.tmp 93))], none⟩, ⟨(some 95), .app none 1 8 (.tmp 91) (.tmp 94), none⟩, ⟨(some 7), .mov (.tmp 95), none⟩]))
 (.reg [⟨(some 96), .bin .add (.tmp 89) (.val (.int .i64 1)), none⟩, ⟨(some 89), .mov (.tmp 96), none⟩]))))
def a49_L2 : AC := .loop a49_B2
theorem a49_L2_step (call : Caller) (again : AC → St → Option (Ex × St)) (s : St) : codeEv call again a49_L2 s = match codeEv call again a49_B2 s with | some (.norm, s1) => again a49_L2 s1 | r => r := rfl
def a49_B3 : AC := (.seq (.reg [⟨(some 86), .bin .lss (.tmp 85) (.tmp 84), none⟩])
 (.seq (.cond (.tmp 86) .skip (.exit 8))
 (.seq (.block 9 (.seq (.reg [⟨(some 7), .mov (.val .nils), none⟩])
 (.seq (.seq (.reg [⟨(some 87), .mov (.tmp 4), none⟩, ⟨(some 88), .call 71 [(.tmp 87), (.val (.int .i64 4096))], none⟩, ⟨(some 89), .mov (.val (.int .i64 0)), none⟩])
 (.block 10 a49_L2))
 (.reg [⟨(some 97), .faddr 7 (.tmp 5), none⟩, ⟨(some 98), .load none (.tmp 97), none⟩, ⟨(some 99), .mov (.tmp 7), none⟩, ⟨(some 100), .mkslc 1 1 [.nils] [(0, (.tmp 99))], none⟩, ⟨(some 101), .app none 1 24 (.tmp 98) (.tmp 100), none⟩, ⟨(some 102), .faddr 7 (.tmp 5), none⟩, ⟨none, .store 1 (.tmp 102) (.tmp 101), none⟩]))))
 (.reg [⟨(some 103), .bin .add (.tmp 85) (.val (.int .i64 1)), none⟩, ⟨(some 85), .mov (.tmp 103), none⟩]))))
def a49_L3 : AC := .loop a49_B3
theorem a49_L3_step (call : Caller) (again : AC → St → Option (Ex × St)) (s : St) : codeEv call again a49_L3 s = match codeEv call again a49_B3 s with | some (.norm, s1) => again a49_L3 s1 | r => r := rfl
def a49_B4 : AC := (.seq (.reg [⟨(some 64), .bin .lss (.tmp 63) (.tmp 62), none⟩])
 (.seq (.cond (.tmp 64) .skip (.exit 6))
 (.seq (.block 7 (.seq (.reg [⟨(some 65), .mov (.tmp 4), none⟩, ⟨(some 66), .call 71 [(.tmp 65), (.val (.int .i64 3))], none⟩, ⟨(some 6), .mov (.tmp 66), none⟩])
 (.reg [⟨(some 67), .faddr 5 (.tmp 5), none⟩, ⟨(some 68), .load none (.tmp 67), none⟩, ⟨(some 69), .mov (.tmp 6), none⟩, ⟨(some 70), .bin .and (.tmp 69) (.val (.int .i64 1)), none⟩, ⟨(some 71), .bin .gtr (.tmp 70) (.val (.int .i64 0)), none⟩, ⟨(some 72), .mov (.tmp 6), none⟩, ⟨(some 73), .bin .and (.tmp 72) (.val (.int .i64 2)), none⟩, ⟨(some 74), .bin .gtr (.tmp 73) (.val (.int .i64 0)), none⟩, ⟨(some 75), .build [(.bool false), (.bool false)] [(0, 1, (.tmp 71)), (1, 1, (.tmp 74))], none⟩, ⟨(some 76), .mkslc 2 1 [(.bool false), (.bool false)] [(0, (.tmp 75))], none⟩, ⟨(some 77), .app none 2 2 (.tmp 68) (.tmp 76), none⟩, ⟨(some 78), .faddr 5 (.tmp 5), none⟩, ⟨none, .store 1 (.tmp 78) (.tmp 77), none⟩])))
 (.reg [⟨(some 79), .bin .add (.tmp 63) (.val (.int .i64 1)), none⟩, ⟨(some 63), .mov (.tmp 79), none⟩]))))
def a49_L4 : AC := .loop a49_B4
theorem a49_L4_step (call : Caller) (again : AC → St → Option (Ex × St)) (s : St) : codeEv call again a49_L4 s = match codeEv call again a49_B4 s with | some (.norm, s1) => again a49_L4 s1 | r => r := rfl
def a49_B5 : AC := (.seq (.reg [⟨(some 51), .bin .lss (.tmp 50) (.tmp 49), none⟩])
 (.seq (.cond (.tmp 51) .skip (.exit 4))
 (.seq (.block 5 (.dreg [(false, ⟨(some 52), .faddr 4 (.tmp 5), none⟩, false), (false, ⟨(some 53), .load none (.tmp 52), none⟩, true), (false, ⟨(some 54), .mov (.tmp 4), none⟩, false), (false, ⟨(some 55), .call 71 [(.tmp 54), (.val (.int .i64 4294967295))], none⟩, false), (false, ⟨(some 56), .conv .u32 (.tmp 55), none⟩, false), (false, ⟨(some 57), .mkslc 1 1 [(.int .u32 0)] [(0, (.tmp 56))], none⟩, false), (false, ⟨(some 58), .app none 1 4 (.tmp 53) (.tmp 57), none⟩, false), (false, ⟨(some 59), .faddr 4 (.tmp 5), none⟩, false), (false, ⟨none, .store 1 (.tmp 59) (.tmp 58), none⟩, false)]))
 (.reg [⟨(some 60), .bin .add (.tmp 50) (.val (.int .i64 1)), none⟩, ⟨(some 50), .mov (.tmp 60), none⟩]))))
def a49_L5 : AC := .loop a49_B5
theorem a49_L5_step (call : Caller) (again : AC → St → Option (Ex × St)) (s : St) : codeEv call again a49_L5 s = match codeEv call again a49_B5 s with | some (.norm, s1) => again a49_L5 s1 | r => r := rfl
def a49_B6 : AC := (.seq (.reg [⟨(some 31), .bin .lss (.tmp 30) (.tmp 29), none⟩])
 (.seq (.cond (.tmp 31) .skip (.exit 2))
 (.seq (.block 3 (.dreg [(false, ⟨(some 32), .faddr 2 (.tmp 5), none⟩, false), (false, ⟨(some 33), .load none (.tmp 32), none⟩, true), (false, ⟨(some 34), .mov (.tmp 4), none⟩, false), (false, ⟨(some 35), .call 72 [(.tmp 34)], none⟩, false), (false, ⟨(some 36), .mov (.tmp 4), none⟩, false), (false, ⟨(some 37), .call 72 [(.tmp 36)], none⟩, false), (false, ⟨(some 38), .mov (.tmp 4), none⟩, false), (false, ⟨(some 39), .call 72 [(.tmp 38)], none⟩, false), (false, ⟨(some 40), .build [(.int .i64 0), (.int .i64 0), (.int .i64 0)] [(0, 1, (.tmp 35)), (1, 1, (.tmp 37)), (2, 1, (.tmp 39))], none⟩, false), (false, ⟨(some 41), .mkslc 3 1 [(.int .i64 0), (.int .i64 0), (.int .i64 0)] [(0, (.tmp 40))], none⟩, false), (false, ⟨(some 42), .app none 3 24 (.tmp 33) (.tmp 41), none⟩, false), (false, ⟨(some 43), .faddr 2 (.tmp 5), none⟩, false), (false, ⟨none, .store 1 (.tmp 43) (.tmp 42), none⟩, false)]))
 (.reg [⟨(some 44), .bin .add (.tmp 30) (.val (.int .i64 1)), none⟩, ⟨(some 30), .mov (.tmp 44), none⟩]))))
def a49_L6 : AC := .loop a49_B6
theorem a49_L6_step (call : Caller) (again : AC → St → Option (Ex × St)) (s : St) : codeEv call again a49_L6 s = match codeEv call again a49_B6 s with | some (.norm, s1) => again a49_L6 s1 | r => r := rfl
def a49_B7 : AC := (.seq (.reg [⟨(some 14), .bin .lss (.tmp 13) (.tmp 12), none⟩])
 (.seq (.cond (.tmp 14) .skip (.exit 0))
 (.seq (.block 1 (.dreg [(false, ⟨(some 15), .faddr 1 (.tmp 5), none⟩, false), (false, ⟨(some 16), .load none (.tmp 15), none⟩, true), (false, ⟨(some 17), .mov (.tmp 4), none⟩, false), (false, ⟨(some 18), .call 72 [(.tmp 17)], none⟩, false), (false, ⟨(some 19), .mov (.tmp 4), none⟩, false), (false, ⟨(some 20), .call 72 [(.tmp 19)], none⟩, false), (false, ⟨(some 21), .mov (.tmp 4), none⟩, false), (false, ⟨(some 22), .call 72 [(.tmp 21)], none⟩, false), (false, ⟨(some 23), .build [(.int .i64 0), (.int .i64 0), (.int .i64 0)] [(0, 1, (.tmp 18)), (1, 1, (.tmp 20)), (2, 1, (.tmp 22))], none⟩, false), (false, ⟨(some 24), .mkslc 3 1 [(.int .i64 0), (.int .i64 0), (.int .i64 0)] [(0, (.tmp 23))], none⟩, false), (false, ⟨(some 25), .app none 3 24 (.tmp 16) (.tmp 24), none⟩, false), (false, ⟨(some 26), .faddr 1 (.tmp 5), none⟩, false), (false, ⟨none, .store 1 (.tmp 26) (.tmp 25), none⟩, false)]))
 (.reg [⟨(some 27), .bin .add (.tmp 13) (.val (.int .i64 1)), none⟩, ⟨(some 13), .mov (.tmp 27), none⟩]))))
def a49_L7 : AC := .loop a49_B7
theorem a49_L7_step (call : Caller) (again : AC → St → Option (Ex × St)) (s : St) : codeEv call again a49_L7 s = match codeEv call again a49_B7 s with | some (.norm, s1) => again a49_L7 s1 | r => r := rfl
def a49 : AFn := { n := 142, np := 1, res := [.cell 2 (some 8), .tmp 3], body :=
 (.seq (.reg [⟨(some 2), .alloc (some 2) [.nils, .nils, .nils, (.int .i64 0), .nils, .nils, (.int .i64 0), .nils], none⟩, ⟨(some 3), .mov (.val (.int .i64 0)), none⟩])
 (.seq (.reg [⟨(some 8), .mov (.tmp 0), none⟩, ⟨(some 9), .build [.nils, (.bool false)] [(0, 1, (.tmp 8))], none⟩, ⟨(some 10), .box none (.tmp 9), none⟩, ⟨(some 4), .mov (.tmp 10), none⟩])
 (.seq (.reg [⟨(some 5), .alloc (some 5) [.nils, .nils, .nils, (.int .i64 0), .nils, .nils, (.int .i64 0), .nils], none⟩])
 (.seq (.seq (.reg [⟨(some 11), .mov (.tmp 4), none⟩, ⟨(some 12), .call 71 [(.tmp 11), (.val (.int .i64 64))], none⟩, ⟨(some 13), .mov (.val (.int .i64 0)), none⟩])
 (.block 0 a49_L7))
 (.seq (.seq (.reg [⟨(some 28), .mov (.tmp 4), none⟩, ⟨(some 29), .call 71 [(.tmp 28), (.val (.int .i64 32))], none⟩, ⟨(some 30), .mov (.val (.int .i64 0)), none⟩])
 (.block 2 a49_L6))
 (.seq (.reg [⟨(some 45), .mov (.tmp 4), none⟩, ⟨(some 46), .call 72 [(.tmp 45)], none⟩, ⟨(some 47), .faddr 3 (.tmp 5), none⟩, ⟨none, .store 1 (.tmp 47) (.tmp 46), none⟩])
 (.seq (.seq (.reg [⟨(some 48), .mov (.tmp 4), none⟩, ⟨(some 49), .call 71 [(.tmp 48), (.val (.int .i64 4096))], none⟩, ⟨(some 50), .mov (.val (.int .i64 0)), none⟩])
 (.block 4 a49_L5))
 (.seq (.seq (.reg [⟨(some 61), .mov (.tmp 4), none⟩, ⟨(some 62), .call 71 [(.tmp 61), (.val (.int .i64 32))], none⟩, ⟨(some 63), .mov (.val (.int .i64 0)), none⟩])
 (.block 6 a49_L4))
 (.seq (.reg [⟨(some 80), .mov (.tmp 4), none⟩, ⟨(some 81), .call 72 [(.tmp 80)], none⟩, ⟨(some 82), .faddr 6 (.tmp 5), none⟩, ⟨none, .store 1 (.tmp 82) (.tmp 81), none⟩])
 (.seq (.seq (.reg [⟨(some 83), .mov (.tmp 4), none⟩, ⟨(some 84), .call 71 [(.tmp 83), (.val (.int .i64 64))], none⟩, ⟨(some 85), .mov (.val (.int .i64 0)), none⟩])
 (.block 8 a49_L3))
 (.seq (.seq (.reg [⟨(some 104), .mov (.tmp 4), none⟩, ⟨(some 105), .call 71 [(.tmp 104), (.val (.int .i64 16384))], none⟩, ⟨(some 106), .mov (.val (.int .i64 0)), none⟩])
 (.block 12 a49_L1))
 (.seq (.seq (.reg [⟨(some 123), .mov (.tmp 4), none⟩, ⟨(some 124), .nilck (.tmp 123), none⟩, ⟨(some 125), .faddr 1 (.tmp 124), none⟩, ⟨(some 126), .load none (.tmp 125), none⟩, ⟨(some 127), .mov (.tmp 126), none⟩, ⟨(some 128), .mov (.tmp 4), (some (127, false))⟩, ⟨(some 129), .nilck (.tmp 128), (some (127, false))⟩, ⟨(some 130), .faddr 0 (.tmp 129), (some (127, false))⟩, ⟨(some 131), .load none (.tmp 130), (some (127, false))⟩, ⟨(some 132), .lenL (.tmp 131), (some (127, false))⟩, ⟨(some 133), .bin .gtr (.tmp 132) (.val (.int .i64 0)), (some (127, false))⟩, ⟨(some 134), .pick (.tmp 127) (.val (.bool true)) (.tmp 133), none⟩, ⟨(some 135), .mov (.tmp 134), none⟩, ⟨(some 136), .load (some 8) (.tmp 5), (some (135, false))⟩, ⟨(some 137), .call 28 [(.tmp 136)], (some (135, false))⟩, ⟨(some 138), .bin .neq (.tmp 137) (.val (.int .i64 0)), (some (135, false))⟩, ⟨(some 139), .pick (.tmp 135) (.val (.bool true)) (.tmp 138), none⟩])
 (.cond (.tmp 139) (.seq (.reg [⟨(some 140), .build [.nils, .nils, .nils, (.int .i64 0), .nils, .nils, (.int .i64 0), .nils] [], none⟩, ⟨none, .store 8 (.tmp 2) (.tmp 140), none⟩, ⟨(some 3), .mov (.val (.int .i64 4)), none⟩])
 .ret) .skip))
 (.seq (.reg [⟨(some 141), .load (some 8) (.tmp 5), none⟩, ⟨none, .store 8 (.tmp 2) (.tmp 141), none⟩, ⟨(some 3), .mov (.val (.int .i64 0)), none⟩])
 .ret))))))))))))) }
def h50 : Hints := ⟨[2, 3], [], []⟩
def a50_B1 : AC := (.seq (.seq (.reg [⟨(some 147), .mov (.tmp 9), none⟩, ⟨(some 148), .faddr 5 (.tmp 2), none⟩, ⟨(some 149), .load none (.tmp 148), none⟩, ⟨(some 150), .lenL (.tmp 149), none⟩, ⟨(some 151), .bin .lss (.tmp 147) (.tmp 150), none⟩])
 (.cond (.tmp 151) .skip (.exit 8)))
 (.seq (.block 9 (.seq (.dreg [(false, ⟨(some 154), .faddr 5 (.tmp 2), none⟩, false), (false, ⟨(some 155), .load none (.tmp 154), none⟩, false), (false, ⟨(some 156), .mov (.tmp 9), none⟩, false), (false, ⟨(some 157), .iaddrL 2 (.tmp 155) (.tmp 156), none⟩, false), (false, ⟨(some 158), .load (some 2) (.tmp 157), none⟩, false), (false, ⟨(some 159), .faddr 5 (.tmp 3), none⟩, false), (false, ⟨(some 160), .load none (.tmp 159), none⟩, false), (false, ⟨(some 161), .mov (.tmp 9), none⟩, false), (false, ⟨(some 162), .iaddrL 2 (.tmp 160) (.tmp 161), none⟩, false), (false, ⟨(some 163), .load (some 2) (.tmp 162), none⟩, false), (false, ⟨(some 164), .eq true (.agg [(0, 1), (1, 1)]) (.tmp 158) (.tmp 163), none⟩, false)])
 (.cond (.tmp 164) (.seq (.reg [⟨(some 4), .mov (.val (.bool false)), none⟩])
 .ret) .skip)))
 (.reg [⟨(some 152), .mov (.tmp 9), none⟩, ⟨(some 153), .bin .add (.tmp 152) (.val (.int .i64 1)), none⟩, ⟨(some 9), .mov (.tmp 153), none⟩])))
def a50_L1 : AC := .loop a50_B1
theorem a50_L1_step (call : Caller) (again : AC → St → Option (Ex × St)) (s : St) : codeEv call again a50_L1 s = match codeEv call again a50_B1 s with | some (.norm, s1) => again a50_L1 s1 | r => r := rfl
def a50_B2 : AC := (.seq (.seq (.reg [⟨(some 129), .mov (.tmp 8), none⟩, ⟨(some 130), .faddr 4 (.tmp 2), none⟩, ⟨(some 131), .load none (.tmp 130), none⟩, ⟨(some 132), .lenL (.tmp 131), none⟩, ⟨(some 133), .bin .lss (.tmp 129) (.tmp 132), none⟩])
 (.cond (.tmp 133) .skip (.exit 6)))
 (.seq (.block 7 (.seq (.dreg [(false, ⟨(some 136), .faddr 4 (.tmp 2), none⟩, false), (false, ⟨(some 137), .load none (.tmp 136), none⟩, false), (false, ⟨(some 138), .mov (.tmp 8), none⟩, false), (false, ⟨(some 139), .iaddrL 1 (.tmp 137) (.tmp 138), none⟩, false), (false, ⟨(some 140), .load none (.tmp 139), none⟩, false), (false, ⟨(some 141), .faddr 4 (.tmp 3), none⟩, false), (false, ⟨(some 142), .load none (.tmp 141), none⟩, false), (false, ⟨(some 143), .mov (.tmp 8), none⟩, false), (false, ⟨(some 144), .iaddrL 1 (.tmp 142) (.tmp 143), none⟩, false), (false, ⟨(some 145), .load none (.tmp 144), none⟩, false), (false, ⟨(some 146), .bin .neq (.tmp 140) (.tmp 145), none⟩, false)])
 (.cond (.tmp 146) (.seq (.reg [⟨(some 4), .mov (.val (.bool false)), none⟩])
 .ret) .skip)))
 (.reg [⟨(some 134), .mov (.tmp 8), none⟩, ⟨(some 135), .bin .add (.tmp 134) (.val (.int .i64 1)), none⟩, ⟨(some 8), .mov (.tmp 135), none⟩])))
def a50_L2 : AC := .loop a50_B2
theorem a50_L2_step (call : Caller) (again : AC → St → Option (Ex × St)) (s : St) : codeEv call again a50_L2 s = match codeEv call again a50_B2 s with | some (.norm, s1) => again a50_L2 s1 | r => r := rfl
def a50_B3 : AC := (.seq (.seq (.reg [⟨(some 111), .mov (.tmp 7), none⟩, ⟨(some 112), .faddr 2 (.tmp 2), none⟩, ⟨(some 113), .load none (.tmp 112), none⟩, ⟨(some 114), .lenL (.tmp 113), none⟩, ⟨(some 115), .bin .lss (.tmp 111) (.tmp 114), none⟩])
 (.cond (.tmp 115) .skip (.exit 4)))
 (.seq (.block 5 (.seq (.dreg [(false, ⟨(some 118), .faddr 2 (.tmp 2), none⟩, false), (false, ⟨(some 119), .load none (.tmp 118), none⟩, false), (false, ⟨(some 120), .mov (.tmp 7), none⟩, false), (false, ⟨(some 121), .iaddrL 3 (.tmp 119) (.tmp 120), none⟩, false), (false, ⟨(some 122), .load (some 3) (.tmp 121), none⟩, false), (false, ⟨(some 123), .faddr 2 (.tmp 3), none⟩, false), (false, ⟨(some 124), .load none (.tmp 123), none⟩, false), (false, ⟨(some 125), .mov (.tmp 7), none⟩, false), (false, ⟨(some 126), .iaddrL 3 (.tmp 124) (.tmp 125), none⟩, false), (false, ⟨(some 127), .load (some 3) (.tmp 126), none⟩, false), (false, ⟨(some 128), .eq true (.agg [(0, 0), (1, 0), (2, 0)]) (.tmp 122) (.tmp 127), none⟩, false)])
 (.cond (.tmp 128) (.seq (.reg [⟨(some 4), .mov (.val (.bool false)), none⟩])
 .ret) .skip)))
 (.reg [⟨(some 116), .mov (.tmp 7), none⟩, ⟨(some 117), .bin .add (.tmp 116) (.val (.int .i64 1)), none⟩, ⟨(some 7), .mov (.tmp 117), none⟩])))
def a50_L3 : AC := .loop a50_B3
theorem a50_L3_step (call : Caller) (again : AC → St → Option (Ex × St)) (s : St) : codeEv call again a50_L3 s = match codeEv call again a50_B3 s with | some (.norm, s1) => again a50_L3 s1 | r => r := rfl
def a50_B4 : AC := (.seq (.seq (.reg [⟨(some 93), .mov (.tmp 6), none⟩, ⟨(some 94), .faddr 1 (.tmp 2), none⟩, ⟨(some 95), .load none (.tmp 94), none⟩, ⟨(some 96), .lenL (.tmp 95), none⟩, ⟨(some 97), .bin .lss (.tmp 93) (.tmp 96), none⟩])
 (.cond (.tmp 97) .skip (.exit 2)))
 (.seq (.block 3 (.seq (.dreg [(false, ⟨(some 100), .faddr 1 (.tmp 2), none⟩, false), (false, ⟨(some 101), .load none (.tmp 100), none⟩, false), (false, ⟨(some 102), .mov (.tmp 6), none⟩, false), (false, ⟨(some 103), .iaddrL 3 (.tmp 101) (.tmp 102), none⟩, false), (false, ⟨(some 104), .load (some 3) (.tmp 103), none⟩, false), (false, ⟨(some 105), .faddr 1 (.tmp 3), none⟩, false), (false, ⟨(some 106), .load none (.tmp 105), none⟩, false), (false, ⟨(some 107), .mov (.tmp 6), none⟩, false), (false, ⟨(some 108), .iaddrL 3 (.tmp 106) (.tmp 107), none⟩, false), (false, ⟨(some 109), .load (some 3) (.tmp 108), none⟩, false), (false, ⟨(some 110), .eq true (.agg [(0, 0), (1, 0), (2, 0)]) (.tmp 104) (.tmp 109), none⟩, false)])
 (.cond (.tmp 110) (.seq (.reg [⟨(some 4), .mov (.val (.bool false)), none⟩])
 .ret) .skip)))
 (.reg [⟨(some 98), .mov (.tmp 6), none⟩, ⟨(some 99), .bin .add (.tmp 98) (.val (.int .i64 1)), none⟩, ⟨(some 6), .mov (.tmp 99), none⟩])))
def a50_L4 : AC := .loop a50_B4
theorem a50_L4_step (call : Caller) (again : AC → St → Option (Ex × St)) (s : St) : codeEv call again a50_L4 s = match codeEv call again a50_B4 s with | some (.norm, s1) => again a50_L4 s1 | r => r := rfl
def a50_B5 : AC := (.seq (.seq (.reg [⟨(some 75), .mov (.tmp 5), none⟩, ⟨(some 76), .faddr 0 (.tmp 2), none⟩, ⟨(some 77), .load none (.tmp 76), none⟩, ⟨(some 78), .lenL (.tmp 77), none⟩, ⟨(some 79), .bin .lss (.tmp 75) (.tmp 78), none⟩])
 (.cond (.tmp 79) .skip (.exit 0)))
 (.seq (.block 1 (.seq (.dreg [(false, ⟨(some 82), .faddr 0 (.tmp 2), none⟩, false), (false, ⟨(some 83), .load none (.tmp 82), none⟩, false), (false, ⟨(some 84), .mov (.tmp 5), none⟩, false), (false, ⟨(some 85), .iaddrL 4 (.tmp 83) (.tmp 84), none⟩, false), (false, ⟨(some 86), .load (some 4) (.tmp 85), none⟩, false), (false, ⟨(some 87), .faddr 0 (.tmp 3), none⟩, false), (false, ⟨(some 88), .load none (.tmp 87), none⟩, false), (false, ⟨(some 89), .mov (.tmp 5), none⟩, false), (false, ⟨(some 90), .iaddrL 4 (.tmp 88) (.tmp 89), none⟩, false), (false, ⟨(some 91), .load (some 4) (.tmp 90), none⟩, false), (false, ⟨(some 92), .eq true (.agg [(0, 0), (1, 0), (2, 0), (3, 0)]) (.tmp 86) (.tmp 91), none⟩, false)])
 (.cond (.tmp 92) (.seq (.reg [⟨(some 4), .mov (.val (.bool false)), none⟩])
 .ret) .skip)))
 (.reg [⟨(some 80), .mov (.tmp 5), none⟩, ⟨(some 81), .bin .add (.tmp 80) (.val (.int .i64 1)), none⟩, ⟨(some 5), .mov (.tmp 81), none⟩])))
def a50_L5 : AC := .loop a50_B5
theorem a50_L5_step (call : Caller) (again : AC → St → Option (Ex × St)) (s : St) : codeEv call again a50_L5 s = match codeEv call again a50_B5 s with | some (.norm, s1) => again a50_L5 s1 | r => r := rfl
def a50 : AFn := { n := 165, np := 2, res := [.tmp 4], body :=
 (.seq (.reg [⟨(some 2), .box (some 2) (.tmp 0), none⟩, ⟨(some 3), .box (some 3) (.tmp 1), none⟩, ⟨(some 4), .mov (.val (.bool false)), none⟩])
 (.seq (.seq (.reg [⟨(some 10), .faddr 0 (.tmp 2), none⟩, ⟨(some 11), .load none (.tmp 10), none⟩, ⟨(some 12), .lenL (.tmp 11), none⟩, ⟨(some 13), .faddr 0 (.tmp 3), none⟩, ⟨(some 14), .load none (.tmp 13), none⟩, ⟨(some 15), .lenL (.tmp 14), none⟩, ⟨(some 16), .bin .neq (.tmp 12) (.tmp 15), none⟩, ⟨(some 17), .mov (.tmp 16), none⟩, ⟨(some 18), .faddr 1 (.tmp 2), (some (17, false))⟩, ⟨(some 19), .load none (.tmp 18), (some (17, false))⟩, ⟨(some 20), .lenL (.tmp 19), (some (17, false))⟩, ⟨(some 21), .faddr 1 (.tmp 3), (some (17, false))⟩, ⟨(some 22), .load none (.tmp 21), (some (17, false))⟩, ⟨(some 23), .lenL (.tmp 22), (some (17, false))⟩, ⟨(some 24), .bin .neq (.tmp 20) (.tmp 23), (some (17, false))⟩, ⟨(some 25), .pick (.tmp 17) (.val (.bool true)) (.tmp 24), none⟩, ⟨(some 26), .mov (.tmp 25), none⟩, ⟨(some 27), .faddr 2 (.tmp 2), (some (26, false))⟩, ⟨(some 28), .load none (.tmp 27), (some (26, false))⟩, ⟨(some 29), .lenL (.tmp 28), (some (26, false))⟩, ⟨(some 30), .faddr 2 (.tmp 3), (some (26, false))⟩, ⟨(some 31), .load none (.tmp 30), (some (26, false))⟩, ⟨(some 32), .lenL (.tmp 31), (some (26, false))⟩, ⟨(some 33), .bin .neq (.tmp 29) (.tmp 32), (some (26, false))⟩, ⟨(some 34), .pick (.tmp 26) (.val (.bool true)) (.tmp 33), none⟩, ⟨(some 35), .mov (.tmp 34), none⟩, ⟨(some 36), .faddr 3 (.tmp 2), (some (35, false))⟩, ⟨(some 37), .load none (.tmp 36), (some (35, false))⟩, ⟨(some 38), .faddr 3 (.tmp 3), (some (35, false))⟩, ⟨(some 39), .load none (.tmp 38), (some (35, false))⟩, ⟨(some 40), .bin .neq (.tmp 37) (.tmp 39), (some (35, false))⟩, ⟨(some 41), .pick (.tmp 35) (.val (.bool true)) (.tmp 40), none⟩, ⟨(some 42), .mov (.tmp 41), none⟩, ⟨(some 43), .faddr 4 (.tmp 2), (some (42, false))⟩, ⟨(some 44), .load none (.tmp 43), (some (42, false))⟩, ⟨(some 45), .lenL (.tmp 44), (some (42, false))⟩, ⟨(some 46), .faddr 4 (.tmp 3), (some (42, false))⟩, ⟨(some 47), .load none (.tmp 46), (some (42, false))⟩, ⟨(some 48), .lenL (.tmp 47), (some (42, false))⟩, ⟨(some 49), .bin .neq (.tmp 45) (.tmp 48), (some (42, false))⟩, ⟨(some 50), .pick (.tmp 42) (.val (.bool true)) (.tmp 49), none⟩, ⟨(some 51), .mov (.tmp 50), none⟩, ⟨(some 52), .faddr 5 (.tmp 2), (some (51, false))⟩, ⟨(some 53), .load none (.tmp 52), (some (51, false))⟩, ⟨(some 54), .lenL (.tmp 53), (some (51, false))⟩, ⟨(some 55), .faddr 5 (.tmp 3), (some (51, false))⟩, ⟨(some 56), .load none (.tmp 55), (some (51, false))⟩, ⟨(some 57), .lenL (.tmp 56), (some (51, false))⟩, ⟨(some 58), .bin .neq (.tmp 54) (.tmp 57), (some (51, false))⟩, ⟨(some 59), .pick (.tmp 51) (.val (.bool true)) (.tmp 58), none⟩, ⟨(some 60), .mov (.tmp 59), none⟩, ⟨(some 61), .faddr 6 (.tmp 2), (some (60, false))⟩, ⟨(some 62), .load none (.tmp 61), (some (60, false))⟩, ⟨(some 63), .faddr 6 (.tmp 3), (some (60, false))⟩, ⟨(some 64), .load none (.tmp 63), (some (60, false))⟩, ⟨(some 65), .bin .neq (.tmp 62) (.tmp 64), (some (60, false))⟩, ⟨(some 66), .pick (.tmp 60) (.val (.bool true)) (.tmp 65), none⟩, ⟨(some 67), .mov (.tmp 66), none⟩, ⟨(some 68), .faddr 7 (.tmp 2), (some (67, false))⟩, ⟨(some 69), .load none (.tmp 68), (some (67, false))⟩, ⟨(some 70), .faddr 7 (.tmp 3), (some (67, false))⟩, ⟨(some 71), .load none (.tmp 70), (some (67, false))⟩, ⟨(some 72), .call 73 [(.tmp 69), (.tmp 71)], (some (67, false))⟩, ⟨(some 73), .un .not (.tmp 72), (some (67, false))⟩, ⟨(some 74), .pick (.tmp 67) (.val (.bool true)) (.tmp 73), none⟩])
 (.cond (.tmp 74) (.seq (.reg [⟨(some 4), .mov (.val (.bool false)), none⟩])
 .ret) .skip))
 (.seq (.seq (.reg [⟨(some 5), .mov (.val (.int .i64 0)), none⟩])
 (.block 0 a50_L5))
 (.seq (.seq (.reg [⟨(some 6), .mov (.val (.int .i64 0)), none⟩])
 (.block 2 a50_L4))
 (.seq (.seq (.reg [⟨(some 7), .mov (.val (.int .i64 0)), none⟩])
 (.block 4 a50_L3))
 (.seq (.seq (.reg [⟨(some 8), .mov (.val (.int .i64 0)), none⟩])
 (.block 6 a50_L2))
 (.seq (.seq (.reg [⟨(some 9), .mov (.val (.int .i64 0)), none⟩])
 (.block 8 a50_L1))
 (.seq (.reg [⟨(some 4), .mov (.val (.bool true)), none⟩])
 .ret)))))))) }
def h51 : Hints := ⟨[], [], []⟩
def a51_B1 : AC := (.seq (.reg [⟨(some 8), .bin .lss (.tmp 7) (.tmp 6), none⟩])
 (.seq (.cond (.tmp 8) .skip (.exit 0))
 (.seq (.block 1 (.seq (.reg [⟨(some 9), .iaddrL 1 (.tmp 5) (.tmp 7), none⟩, ⟨(some 10), .load none (.tmp 9), none⟩, ⟨(some 4), .mov (.tmp 10), none⟩])
 (.reg [⟨(some 11), .load none (.tmp 1), none⟩, ⟨(some 12), .mov (.tmp 4), none⟩, ⟨(some 13), .call 52 [(.tmp 11), (.tmp 12)], none⟩, ⟨none, .store 1 (.tmp 1) (.tmp 13), none⟩])))
 (.reg [⟨(some 14), .bin .add (.tmp 7) (.val (.int .i64 1)), none⟩, ⟨(some 7), .mov (.tmp 14), none⟩]))))
def a51_L1 : AC := .loop a51_B1
theorem a51_L1_step (call : Caller) (again : AC → St → Option (Ex × St)) (s : St) : codeEv call again a51_L1 s = match codeEv call again a51_B1 s with | some (.norm, s1) => again a51_L1 s1 | r => r := rfl
def a51 : AFn := { n := 15, np := 2, res := [], body :=
 (.seq (.reg [⟨(some 5), .mov (.tmp 0), none⟩, ⟨(some 6), .lenL (.tmp 5), none⟩, ⟨(some 7), .mov (.val (.int .i64 0)), none⟩])
 (.block 0 a51_L1)) }
def h52 : Hints := ⟨[], [], []⟩
def a52_B1 : AC := (.seq (.seq (.reg [⟨(some 8), .mov (.tmp 5), none⟩, ⟨(some 9), .bin .geq (.tmp 8) (.val (.int .u64 128)), none⟩])
 (.cond (.tmp 9) .skip (.exit 0)))
 (.seq (.block 1 (.reg [⟨(some 12), .mov (.tmp 0), none⟩, ⟨(some 13), .mov (.tmp 5), none⟩, ⟨(some 14), .conv .u8 (.tmp 13), none⟩, ⟨(some 15), .bin .or (.tmp 14) (.val (.int .u8 128)), none⟩, ⟨(some 16), .mkslc 1 1 [(.int .u8 0)] [(0, (.tmp 15))], none⟩, ⟨(some 17), .app (some 5) 1 1 (.tmp 12) (.tmp 16), none⟩, ⟨(some 0), .mov (.tmp 17), none⟩]))
 (.reg [⟨(some 10), .mov (.tmp 5), none⟩, ⟨(some 11), .bin .shr (.tmp 10) (.val (.int .u64 7)), none⟩, ⟨(some 5), .mov (.tmp 11), none⟩])))
def a52_L1 : AC := .loop a52_B1
theorem a52_L1_step (call : Caller) (again : AC → St → Option (Ex × St)) (s : St) : codeEv call again a52_L1 s = match codeEv call again a52_B1 s with | some (.norm, s1) => again a52_L1 s1 | r => r := rfl
def a52 : AFn := { n := 23, np := 2, res := [.tmp 4], body :=
 (.seq (.reg [⟨(some 4), .mov (.val .nils), none⟩])
 (.seq (.reg [⟨(some 6), .mov (.tmp 1), none⟩, ⟨(some 7), .conv .u64 (.tmp 6), none⟩, ⟨(some 5), .mov (.tmp 7), none⟩])
 (.seq (.block 0 a52_L1)
 (.seq (.reg [⟨(some 18), .mov (.tmp 0), none⟩, ⟨(some 19), .mov (.tmp 5), none⟩, ⟨(some 20), .conv .u8 (.tmp 19), none⟩, ⟨(some 21), .mkslc 1 1 [(.int .u8 0)] [(0, (.tmp 20))], none⟩, ⟨(some 22), .app (some 5) 1 1 (.tmp 18) (.tmp 21), none⟩, ⟨(some 4), .mov (.tmp 22), none⟩])
 .ret)))) }
def h60 : Hints := ⟨[], [], []⟩
def a60 : AFn := { n := 9, np := 2, res := [.tmp 4], body :=
 (.seq (.reg [⟨(some 4), .mov (.val (.bool false)), none⟩])
 (.seq (.reg [⟨(some 5), .mov (.tmp 0), none⟩, ⟨(some 6), .mov (.tmp 1), none⟩, ⟨(some 7), .call 74 [(.tmp 5), (.tmp 6)], none⟩, ⟨(some 8), .bin .geq (.tmp 7) (.val (.int .i64 0)), none⟩, ⟨(some 4), .mov (.tmp 8), none⟩])
 .ret)) }
def h61 : Hints := ⟨[2, 8], [], []⟩
def a61_B1 : AC := (.seq (.reg [⟨(some 23), .bin .lss (.tmp 22) (.tmp 21), none⟩])
 (.seq (.cond (.tmp 23) .skip (.exit 0))
 (.seq (.block 1 (.seq (.reg [⟨(some 24), .iaddrL 4 (.tmp 20) (.tmp 22), none⟩, ⟨(some 25), .load (some 4) (.tmp 24), none⟩, ⟨(some 8), .alloc (some 8) [(.int .i64 0), (.int .i64 0), (.int .i64 0), (.int .i64 0)], none⟩, ⟨none, .store 4 (.tmp 8) (.tmp 25), none⟩])
 (.seq (.reg [⟨(some 26), .faddr 0 (.tmp 8), none⟩, ⟨(some 27), .load none (.tmp 26), none⟩, ⟨(some 28), .bin .eql (.tmp 27) (.val (.int .i64 17)), none⟩])
 (.cond (.tmp 28) (.reg [⟨(some 29), .mov (.tmp 4), none⟩, ⟨(some 30), .faddr 1 (.tmp 8), none⟩, ⟨(some 31), .load none (.tmp 30), none⟩, ⟨(some 32), .mkslc 1 1 [(.int .i64 0)] [(0, (.tmp 31))], none⟩, ⟨(some 33), .app none 1 8 (.tmp 29) (.tmp 32), none⟩, ⟨(some 4), .mov (.tmp 33), none⟩]) .skip))))
 (.reg [⟨(some 34), .bin .add (.tmp 22) (.val (.int .i64 1)), none⟩, ⟨(some 22), .mov (.tmp 34), none⟩]))))
def a61_L1 : AC := .loop a61_B1
theorem a61_L1_step (call : Caller) (again : AC → St → Option (Ex × St)) (s : St) : codeEv call again a61_L1 s = match codeEv call again a61_B1 s with | some (.norm, s1) => again a61_L1 s1 | r => r := rfl
def a61 : AFn := { n := 39, np := 2, res := [.tmp 4], body :=
 (.seq (.reg [⟨(some 2), .box (some 2) (.tmp 0), none⟩, ⟨(some 4), .mov (.val .nils), none⟩])
 (.seq (.reg [⟨(some 10), .load (some 8) (.tmp 2), none⟩, ⟨(some 11), .mov (.tmp 1), none⟩, ⟨(some 12), .call 75 [(.tmp 10), (.tmp 11)], none⟩, ⟨(some 9), .mov (.tmp 12), none⟩, ⟨(some 13), .ext (.tmp 9) 0, none⟩, ⟨(some 14), .ext (.tmp 9) 1, none⟩, ⟨(some 5), .mov (.tmp 13), none⟩, ⟨(some 6), .mov (.tmp 14), none⟩])
 (.seq (.seq (.reg [⟨(some 15), .faddr 0 (.tmp 2), none⟩, ⟨(some 16), .faddr 0 (.tmp 15), none⟩, ⟨(some 17), .load none (.tmp 16), none⟩, ⟨(some 18), .mov (.tmp 5), none⟩, ⟨(some 19), .mov (.tmp 6), none⟩, ⟨(some 20), .slcL 4 (.tmp 17) (some (.tmp 18)) (some (.tmp 19)) none, none⟩, ⟨(some 21), .lenL (.tmp 20), none⟩, ⟨(some 22), .mov (.val (.int .i64 0)), none⟩])
 (.block 0 a61_L1))
 (.seq (.reg [⟨(some 35), .mov (.tmp 4), none⟩, ⟨(some 36), .call 76 [(.tmp 35)], none⟩])
 (.seq (.reg [⟨(some 37), .mov (.tmp 4), none⟩, ⟨(some 38), .call 77 [(.tmp 37)], none⟩, ⟨(some 4), .mov (.tmp 38), none⟩])
 .ret))))) }
def h62 : Hints := ⟨[], [], []⟩
def a62 : AFn := { n := 9, np := 1, res := [.tmp 2], body :=
 (.seq (.reg [⟨(some 2), .mov (.val (.bool false)), none⟩])
 (.seq (.reg [⟨(some 3), .mov (.tmp 0), none⟩, ⟨(some 4), .bin .geq (.tmp 3) (.val (.int .i64 1)), none⟩, ⟨(some 5), .mov (.tmp 4), none⟩, ⟨(some 6), .mov (.tmp 0), (some (5, true))⟩, ⟨(some 7), .bin .leq (.tmp 6) (.val (.int .i64 19)), (some (5, true))⟩, ⟨(some 8), .pick (.tmp 5) (.tmp 7) (.val (.bool false)), none⟩, ⟨(some 2), .mov (.tmp 8), none⟩])
 .ret)) }
def h63 : Hints := ⟨[], [], []⟩
def a63 : AFn := { n := 5, np := 1, res := [.tmp 2], body :=
 (.seq (.reg [⟨(some 2), .mov (.val (.str ⟨#[]⟩)), none⟩])
 (.seq (.reg [⟨(some 3), .mov (.tmp 0), none⟩, ⟨(some 4), .call 78 [(.tmp 3), (.val (.int .i64 10))], none⟩, ⟨(some 2), .mov (.tmp 4), none⟩])
 .ret)) }
def h64 : Hints := ⟨[], [], []⟩
def a64 : AFn := { n := 25, np := 2, res := [], body :=
 (.seq (.reg [⟨(some 4), .mov (.tmp 0), none⟩, ⟨(some 5), .call 79 [(.tmp 4)], none⟩])
 (.seq (.seq (.reg [⟨(some 6), .mov (.tmp 1), none⟩, ⟨(some 7), .bin .lss (.tmp 6) (.val (.int .i64 0)), none⟩])
 (.cond (.tmp 7) (.reg [⟨(some 8), .xp (.mkif 9) [(.val (.str ⟨#[115, 116, 114, 105, 110, 103, 115, 46, 66, 117, 105, 108, 100, 101, 114, 46, 71, 114, 111, 119, 58, 32, 110, 101, 103, 97, 116, 105, 118, 101, 32, 99, 111, 117, 110, 116]⟩))], none⟩, ⟨none, .bad, none⟩]) .skip))
 (.seq (.dreg [(false, ⟨(some 9), .mov (.tmp 0), none⟩, false), (false, ⟨(some 10), .nilck (.tmp 9), none⟩, false), (false, ⟨(some 11), .faddr 1 (.tmp 10), none⟩, false), (false, ⟨(some 12), .load none (.tmp 11), none⟩, false), (false, ⟨(some 13), .xp (.cap) [(.tmp 12)], none⟩, false), (false, ⟨(some 14), .mov (.tmp 0), none⟩, false), (false, ⟨(some 15), .nilck (.tmp 14), none⟩, false), (false, ⟨(some 16), .faddr 1 (.tmp 15), none⟩, false), (false, ⟨(some 17), .load none (.tmp 16), none⟩, false), (false, ⟨(some 18), .lenL (.tmp 17), none⟩, false), (false, ⟨(some 19), .bin .sub (.tmp 13) (.tmp 18), none⟩, false), (false, ⟨(some 20), .mov (.tmp 1), none⟩, false), (false, ⟨(some 21), .bin .lss (.tmp 19) (.tmp 20), none⟩, false)])
 (.cond (.tmp 21) (.reg [⟨(some 22), .mov (.tmp 0), none⟩, ⟨(some 23), .mov (.tmp 1), none⟩, ⟨(some 24), .call 80 [(.tmp 22), (.tmp 23)], none⟩]) .skip)))) }
def h65 : Hints := ⟨[], [], []⟩
def a65 : AFn := { n := 19, np := 2, res := [.tmp 4, .tmp 5], body :=
 (.seq (.reg [⟨(some 4), .mov (.val (.int .i64 0)), none⟩, ⟨(some 5), .mov (.val .nili), none⟩])
 (.seq (.reg [⟨(some 6), .mov (.tmp 0), none⟩, ⟨(some 7), .call 79 [(.tmp 6)], none⟩])
 (.seq (.reg [⟨(some 8), .mov (.tmp 0), none⟩, ⟨(some 9), .mov (.tmp 0), none⟩, ⟨(some 10), .nilck (.tmp 9), none⟩, ⟨(some 11), .faddr 1 (.tmp 10), none⟩, ⟨(some 12), .load none (.tmp 11), none⟩, ⟨(some 13), .mov (.tmp 1), none⟩, ⟨(some 14), .app (some 5) 1 1 (.tmp 12) (.tmp 13), none⟩, ⟨(some 15), .nilck (.tmp 8), none⟩, ⟨(some 16), .faddr 1 (.tmp 15), none⟩, ⟨none, .store 1 (.tmp 16) (.tmp 14), none⟩])
 (.seq (.reg [⟨(some 17), .mov (.tmp 1), none⟩, ⟨(some 18), .lenS (.tmp 17), none⟩, ⟨(some 4), .mov (.tmp 18), none⟩, ⟨(some 5), .mov (.val .nili), none⟩])
 .ret)))) }
def h66 : Hints := ⟨[], [], []⟩
def a66 : AFn := { n := 14, np := 1, res := [.tmp 2], body :=
 (.seq (.reg [⟨(some 2), .mov (.val (.str ⟨#[]⟩)), none⟩])
 (.seq (.dreg [(false, ⟨(some 3), .mov (.tmp 0), none⟩, false), (false, ⟨(some 4), .nilck (.tmp 3), none⟩, false), (false, ⟨(some 5), .faddr 1 (.tmp 4), none⟩, false), (false, ⟨(some 6), .load none (.tmp 5), none⟩, false), (false, ⟨(some 7), .xp (.usd) [(.tmp 6)], none⟩, false), (false, ⟨(some 8), .mov (.tmp 0), none⟩, false), (false, ⟨(some 9), .nilck (.tmp 8), none⟩, false), (false, ⟨(some 10), .faddr 1 (.tmp 9), none⟩, false), (false, ⟨(some 11), .load none (.tmp 10), none⟩, false), (false, ⟨(some 12), .lenL (.tmp 11), none⟩, false), (false, ⟨(some 13), .xm (.ustr 5) [(.tmp 7), (.tmp 12)], none⟩, false), (false, ⟨(some 2), .mov (.tmp 13), none⟩, false)])
 .ret)) }
def h71 : Hints := ⟨[], [], []⟩
def a71 : AFn := { n := 18, np := 2, res := [.tmp 4], body :=
 (.seq (.reg [⟨(some 4), .mov (.val (.int .i64 0)), none⟩])
 (.seq (.reg [⟨(some 6), .mov (.tmp 0), none⟩, ⟨(some 7), .call 72 [(.tmp 6)], none⟩, ⟨(some 5), .mov (.tmp 7), none⟩])
 (.seq (.seq (.reg [⟨(some 8), .mov (.tmp 5), none⟩, ⟨(some 9), .mov (.tmp 1), none⟩, ⟨(some 10), .bin .gtr (.tmp 8) (.tmp 9), none⟩])
 (.cond (.tmp 10) (.seq (.reg [⟨(some 11), .mov (.tmp 0), none⟩, ⟨(some 12), .mov (.tmp 0), none⟩, ⟨(some 13), .nilck (.tmp 11), none⟩, ⟨(some 14), .faddr 1 (.tmp 13), none⟩, ⟨none, .store 1 (.tmp 14) (.val (.bool true)), none⟩, ⟨(some 15), .nilck (.tmp 12), none⟩, ⟨(some 16), .faddr 0 (.tmp 15), none⟩, ⟨none, .store 1 (.tmp 16) (.val .nils), none⟩])
 (.seq (.reg [⟨(some 4), .mov (.val (.int .i64 0)), none⟩])
 .ret)) .skip))
 (.seq (.reg [⟨(some 17), .mov (.tmp 5), none⟩, ⟨(some 4), .mov (.tmp 17), none⟩])
 .ret)))) }
def h72 : Hints := ⟨[], [], []⟩
def a72_B1 : AC := (.seq (.seq (.reg [⟨(some 6), .mov (.tmp 4), none⟩, ⟨(some 7), .mov (.tmp 0), none⟩, ⟨(some 8), .nilck (.tmp 7), none⟩, ⟨(some 9), .faddr 0 (.tmp 8), none⟩, ⟨(some 10), .load none (.tmp 9), none⟩, ⟨(some 11), .lenL (.tmp 10), none⟩, ⟨(some 12), .bin .lss (.tmp 6) (.tmp 11), none⟩, ⟨(some 13), .mov (.tmp 12), none⟩, ⟨(some 14), .mov (.tmp 4), (some (13, true))⟩, ⟨(some 15), .bin .lss (.tmp 14) (.val (.int .i64 10)), (some (13, true))⟩, ⟨(some 16), .pick (.tmp 13) (.tmp 15) (.val (.bool false)), none⟩])
 (.cond (.tmp 16) .skip (.exit 0)))
 (.seq (.block 1 (.seq (.reg [⟨(some 19), .mov (.tmp 0), none⟩, ⟨(some 20), .nilck (.tmp 19), none⟩, ⟨(some 21), .faddr 0 (.tmp 20), none⟩, ⟨(some 22), .load none (.tmp 21), none⟩, ⟨(some 23), .mov (.tmp 4), none⟩, ⟨(some 24), .iaddrL 1 (.tmp 22) (.tmp 23), none⟩, ⟨(some 25), .load none (.tmp 24), none⟩, ⟨(some 5), .mov (.tmp 25), none⟩])
 (.seq (.seq (.reg [⟨(some 26), .mov (.tmp 4), none⟩, ⟨(some 27), .bin .eql (.tmp 26) (.val (.int .i64 9)), none⟩, ⟨(some 28), .mov (.tmp 27), none⟩, ⟨(some 29), .mov (.tmp 5), (some (28, true))⟩, ⟨(some 30), .bin .gtr (.tmp 29) (.val (.int .u8 0)), (some (28, true))⟩, ⟨(some 31), .pick (.tmp 28) (.tmp 30) (.val (.bool false)), none⟩, ⟨(some 32), .mov (.tmp 31), none⟩, ⟨(some 33), .mov (.tmp 4), (some (32, false))⟩, ⟨(some 34), .bin .gtr (.tmp 33) (.val (.int .i64 0)), (some (32, false))⟩, ⟨(some 35), .mov (.tmp 34), (some (32, false))⟩, ⟨(some 36), .mov (.tmp 5), (some (35, true))⟩, ⟨(some 37), .bin .eql (.tmp 36) (.val (.int .u8 0)), (some (35, true))⟩, ⟨(some 38), .pick (.tmp 35) (.tmp 37) (.val (.bool false)), (some (32, false))⟩, ⟨(some 39), .pick (.tmp 32) (.val (.bool true)) (.tmp 38), none⟩])
 (.cond (.tmp 39) (.exit 0) .skip))
 (.seq (.reg [⟨(some 40), .mov (.tmp 3), none⟩, ⟨(some 41), .mov (.tmp 5), none⟩, ⟨(some 42), .bin .and (.tmp 41) (.val (.int .u8 127)), none⟩, ⟨(some 43), .conv .u64 (.tmp 42), none⟩, ⟨(some 44), .mov (.tmp 4), none⟩, ⟨(some 45), .bin .mul (.val (.int .i64 7)) (.tmp 44), none⟩, ⟨(some 46), .bin .shl (.tmp 43) (.tmp 45), none⟩, ⟨(some 47), .bin .or (.tmp 40) (.tmp 46), none⟩, ⟨(some 3), .mov (.tmp 47), none⟩])
 (.seq (.reg [⟨(some 48), .mov (.tmp 5), none⟩, ⟨(some 49), .bin .lss (.tmp 48) (.val (.int .u8 128)), none⟩])
 (.cond (.tmp 49) (.seq (.reg [⟨(some 50), .mov (.tmp 0), none⟩, ⟨(some 51), .mov (.tmp 0), none⟩, ⟨(some 52), .nilck (.tmp 51), none⟩, ⟨(some 53), .faddr 0 (.tmp 52), none⟩, ⟨(some 54), .load none (.tmp 53), none⟩, ⟨(some 55), .mov (.tmp 4), none⟩, ⟨(some 56), .bin .add (.tmp 55) (.val (.int .i64 1)), none⟩, ⟨(some 57), .slcL 1 (.tmp 54) (some (.tmp 56)) none none, none⟩, ⟨(some 58), .nilck (.tmp 50), none⟩, ⟨(some 59), .faddr 0 (.tmp 58), none⟩, ⟨none, .store 1 (.tmp 59) (.tmp 57), none⟩])
 (.seq (.seq (.reg [⟨(some 60), .mov (.tmp 3), none⟩, ⟨(some 61), .bin .gtr (.tmp 60) (.val (.int .u64 1099511627776)), none⟩])
 (.cond (.tmp 61) (.exit 0) .skip))
 (.seq (.reg [⟨(some 62), .mov (.tmp 3), none⟩, ⟨(some 63), .conv .i64 (.tmp 62), none⟩, ⟨(some 2), .mov (.tmp 63), none⟩])
 .ret))) .skip))))))
 (.reg [⟨(some 17), .mov (.tmp 4), none⟩, ⟨(some 18), .bin .add (.tmp 17) (.val (.int .i64 1)), none⟩, ⟨(some 4), .mov (.tmp 18), none⟩])))
def a72_L1 : AC := .loop a72_B1
theorem a72_L1_step (call : Caller) (again : AC → St → Option (Ex × St)) (s : St) : codeEv call again a72_L1 s = match codeEv call again a72_B1 s with | some (.norm, s1) => again a72_L1 s1 | r => r := rfl
def a72 : AFn := { n := 70, np := 1, res := [.tmp 2], body :=
 (.seq (.reg [⟨(some 2), .mov (.val (.int .i64 0)), none⟩])
 (.seq (.reg [⟨(some 3), .mov (.val (.int .u64 0)), none⟩])
 (.seq (.seq (.reg [⟨(some 4), .mov (.val (.int .i64 0)), none⟩])
 (.block 0 a72_L1))
 (.seq (.reg [⟨(some 64), .mov (.tmp 0), none⟩, ⟨(some 65), .mov (.tmp 0), none⟩, ⟨(some 66), .nilck (.tmp 64), none⟩, ⟨(some 67), .faddr 1 (.tmp 66), none⟩, ⟨none, .store 1 (.tmp 67) (.val (.bool true)), none⟩, ⟨(some 68), .nilck (.tmp 65), none⟩, ⟨(some 69), .faddr 0 (.tmp 68), none⟩, ⟨none, .store 1 (.tmp 69) (.val .nils), none⟩])
 (.seq (.reg [⟨(some 2), .mov (.val (.int .i64 0)), none⟩])
 .ret))))) }
def h73 : Hints := ⟨[], [], []⟩
def a73_B1 : AC := (.seq (.seq (.reg [⟨(some 11), .mov (.tmp 5), none⟩, ⟨(some 12), .mov (.tmp 0), none⟩, ⟨(some 13), .lenL (.tmp 12), none⟩, ⟨(some 14), .bin .lss (.tmp 11) (.tmp 13), none⟩])
 (.cond (.tmp 14) .skip (.exit 0)))
 (.seq (.block 1 (.seq (.dreg [(false, ⟨(some 17), .mov (.tmp 0), none⟩, false), (false, ⟨(some 18), .mov (.tmp 5), none⟩, false), (false, ⟨(some 19), .iaddrL 1 (.tmp 17) (.tmp 18), none⟩, false), (false, ⟨(some 20), .load none (.tmp 19), none⟩, false), (false, ⟨(some 21), .mov (.tmp 1), none⟩, false), (false, ⟨(some 22), .mov (.tmp 5), none⟩, false), (false, ⟨(some 23), .iaddrL 1 (.tmp 21) (.tmp 22), none⟩, false), (false, ⟨(some 24), .load none (.tmp 23), none⟩, false), (false, ⟨(some 25), .call 33 [(.tmp 20), (.tmp 24)], none⟩, false), (false, ⟨(some 26), .un .not (.tmp 25), none⟩, false)])
 (.cond (.tmp 26) (.seq (.reg [⟨(some 4), .mov (.val (.bool false)), none⟩])
 .ret) .skip)))
 (.reg [⟨(some 15), .mov (.tmp 5), none⟩, ⟨(some 16), .bin .add (.tmp 15) (.val (.int .i64 1)), none⟩, ⟨(some 5), .mov (.tmp 16), none⟩])))
def a73_L1 : AC := .loop a73_B1
theorem a73_L1_step (call : Caller) (again : AC → St → Option (Ex × St)) (s : St) : codeEv call again a73_L1 s = match codeEv call again a73_B1 s with | some (.norm, s1) => again a73_L1 s1 | r => r := rfl
def a73 : AFn := { n := 27, np := 2, res := [.tmp 4], body :=
 (.seq (.reg [⟨(some 4), .mov (.val (.bool false)), none⟩])
 (.seq (.seq (.reg [⟨(some 6), .mov (.tmp 0), none⟩, ⟨(some 7), .lenL (.tmp 6), none⟩, ⟨(some 8), .mov (.tmp 1), none⟩, ⟨(some 9), .lenL (.tmp 8), none⟩, ⟨(some 10), .bin .neq (.tmp 7) (.tmp 9), none⟩])
 (.cond (.tmp 10) (.seq (.reg [⟨(some 4), .mov (.val (.bool false)), none⟩])
 .ret) .skip))
 (.seq (.seq (.reg [⟨(some 5), .mov (.val (.int .i64 0)), none⟩])
 (.block 0 a73_L1))
 (.seq (.reg [⟨(some 4), .mov (.val (.bool true)), none⟩])
 .ret)))) }
def h74 : Hints := ⟨[], [], []⟩
def a74_B1 : AC := (.seq (.reg [⟨(some 9), .bin .lss (.tmp 8) (.tmp 7), none⟩])
 (.seq (.cond (.tmp 9) .skip (.exit 0))
 (.seq (.block 1 (.seq (.reg [⟨(some 10), .mov (.tmp 8), none⟩, ⟨(some 5), .mov (.tmp 10), none⟩])
 (.seq (.reg [⟨(some 11), .mov (.tmp 1), none⟩, ⟨(some 12), .mov (.tmp 0), none⟩, ⟨(some 13), .mov (.tmp 5), none⟩, ⟨(some 14), .iaddrL 1 (.tmp 12) (.tmp 13), none⟩, ⟨(some 15), .load none (.tmp 14), none⟩, ⟨(some 16), .bin .eql (.tmp 11) (.tmp 15), none⟩])
 (.cond (.tmp 16) (.seq (.reg [⟨(some 17), .mov (.tmp 5), none⟩, ⟨(some 4), .mov (.tmp 17), none⟩])
 .ret) .skip))))
 (.reg [⟨(some 18), .bin .add (.tmp 8) (.val (.int .i64 1)), none⟩, ⟨(some 8), .mov (.tmp 18), none⟩]))))
def a74_L1 : AC := .loop a74_B1
theorem a74_L1_step (call : Caller) (again : AC → St → Option (Ex × St)) (s : St) : codeEv call again a74_L1 s = match codeEv call again a74_B1 s with | some (.norm, s1) => again a74_L1 s1 | r => r := rfl
def a74 : AFn := { n := 19, np := 2, res := [.tmp 4], body :=
 (.seq (.reg [⟨(some 4), .mov (.val (.int .i64 0)), none⟩])
 (.seq (.seq (.reg [⟨(some 6), .mov (.tmp 0), none⟩, ⟨(some 7), .lenL (.tmp 6), none⟩, ⟨(some 8), .mov (.val (.int .i64 0)), none⟩])
 (.block 0 a74_L1))
 (.seq (.reg [⟨(some 4), .mov (.val (.int .i64 (-1))), none⟩])
 .ret))) }
def h75 : Hints := ⟨[2], [], []⟩
def a75 : AFn := { n := 39, np := 2, res := [.tmp 4, .tmp 5], body :=
 (.seq (.reg [⟨(some 2), .box (some 2) (.tmp 0), none⟩, ⟨(some 4), .mov (.val (.int .i64 0)), none⟩, ⟨(some 5), .mov (.val (.int .i64 0)), none⟩])
 (.seq (.seq (.reg [⟨(some 6), .mov (.tmp 1), none⟩, ⟨(some 7), .bin .add (.tmp 6) (.val (.int .i64 1)), none⟩, ⟨(some 8), .faddr 0 (.tmp 2), none⟩, ⟨(some 9), .faddr 1 (.tmp 8), none⟩, ⟨(some 10), .load none (.tmp 9), none⟩, ⟨(some 11), .lenL (.tmp 10), none⟩, ⟨(some 12), .bin .lss (.tmp 7) (.tmp 11), none⟩])
 (.cond (.tmp 12) (.seq (.dreg [(false, ⟨(some 13), .faddr 0 (.tmp 2), none⟩, false), (false, ⟨(some 14), .faddr 1 (.tmp 13), none⟩, false), (false, ⟨(some 15), .load none (.tmp 14), none⟩, false), (false, ⟨(some 16), .mov (.tmp 1), none⟩, false), (false, ⟨(some 17), .iaddrL 3 (.tmp 15) (.tmp 16), none⟩, false), (false, ⟨(some 18), .faddr 0 (.tmp 17), none⟩, false), (false, ⟨(some 19), .load none (.tmp 18), none⟩, false), (false, ⟨(some 20), .faddr 0 (.tmp 2), none⟩, false), (false, ⟨(some 21), .faddr 1 (.tmp 20), none⟩, false), (false, ⟨(some 22), .load none (.tmp 21), none⟩, false), (false, ⟨(some 23), .mov (.tmp 1), none⟩, false), (false, ⟨(some 24), .bin .add (.tmp 23) (.val (.int .i64 1)), none⟩, false), (false, ⟨(some 25), .iaddrL 3 (.tmp 22) (.tmp 24), none⟩, false), (false, ⟨(some 26), .faddr 0 (.tmp 25), none⟩, false), (false, ⟨(some 27), .load none (.tmp 26), none⟩, false), (false, ⟨(some 4), .mov (.tmp 19), none⟩, false), (false, ⟨(some 5), .mov (.tmp 27), none⟩, false)])
 .ret) .skip))
 (.seq (.dreg [(false, ⟨(some 28), .faddr 0 (.tmp 2), none⟩, false), (false, ⟨(some 29), .faddr 1 (.tmp 28), none⟩, false), (false, ⟨(some 30), .load none (.tmp 29), none⟩, false), (false, ⟨(some 31), .mov (.tmp 1), none⟩, false), (false, ⟨(some 32), .iaddrL 3 (.tmp 30) (.tmp 31), none⟩, false), (false, ⟨(some 33), .faddr 0 (.tmp 32), none⟩, false), (false, ⟨(some 34), .load none (.tmp 33), none⟩, false), (false, ⟨(some 35), .faddr 0 (.tmp 2), none⟩, false), (false, ⟨(some 36), .faddr 0 (.tmp 35), none⟩, false), (false, ⟨(some 37), .load none (.tmp 36), none⟩, false), (false, ⟨(some 38), .lenL (.tmp 37), none⟩, false), (false, ⟨(some 4), .mov (.tmp 34), none⟩, false), (false, ⟨(some 5), .mov (.tmp 38), none⟩, false)])
 .ret))) }
def h76 : Hints := ⟨[], [], []⟩
def a76 : AFn := { n := 11, np := 1, res := [], body :=
 (.seq (.reg [⟨(some 3), .mov (.tmp 0), none⟩, ⟨(some 4), .lenL (.tmp 3), none⟩, ⟨(some 2), .mov (.tmp 4), none⟩])
 (.reg [⟨(some 5), .mov (.tmp 0), none⟩, ⟨(some 6), .mov (.tmp 2), none⟩, ⟨(some 7), .mov (.tmp 2), none⟩, ⟨(some 8), .conv .u64 (.tmp 7), none⟩, ⟨(some 9), .call 88 [(.tmp 8)], none⟩, ⟨(some 10), .call 87 [(.tmp 5), (.val (.int .i64 0)), (.tmp 6), (.tmp 9)], none⟩])) }
def h77 : Hints := ⟨[], [], []⟩
def a77_B1 : AC := (.seq (.seq (.reg [⟨(some 29), .mov (.tmp 5), none⟩, ⟨(some 30), .mov (.tmp 4), none⟩, ⟨(some 31), .lenL (.tmp 30), none⟩, ⟨(some 32), .bin .lss (.tmp 29) (.tmp 31), none⟩])
 (.cond (.tmp 32) .skip (.exit 2)))
 (.seq (.block 3 (.seq (.dreg [(false, ⟨(some 35), .mov (.tmp 4), none⟩, false), (false, ⟨(some 36), .mov (.tmp 5), none⟩, false), (false, ⟨(some 37), .iaddrL 1 (.tmp 35) (.tmp 36), none⟩, false), (false, ⟨(some 38), .load none (.tmp 37), none⟩, false), (false, ⟨(some 39), .mov (.tmp 4), none⟩, false), (false, ⟨(some 40), .mov (.tmp 5), none⟩, false), (false, ⟨(some 41), .bin .sub (.tmp 40) (.val (.int .i64 1)), none⟩, false), (false, ⟨(some 42), .iaddrL 1 (.tmp 39) (.tmp 41), none⟩, false), (false, ⟨(some 43), .load none (.tmp 42), none⟩, false), (false, ⟨(some 44), .bin .neq (.tmp 38) (.tmp 43), none⟩, false)])
 (.cond (.tmp 44) (.seq (.reg [⟨(some 45), .mov (.tmp 0), none⟩, ⟨(some 46), .mov (.tmp 3), none⟩, ⟨(some 47), .mov (.tmp 4), none⟩, ⟨(some 48), .mov (.tmp 5), none⟩, ⟨(some 49), .iaddrL 1 (.tmp 47) (.tmp 48), none⟩, ⟨(some 50), .load none (.tmp 49), none⟩, ⟨(some 51), .iaddrL 1 (.tmp 45) (.tmp 46), none⟩, ⟨none, .store 1 (.tmp 51) (.tmp 50), none⟩])
 (.reg [⟨(some 52), .mov (.tmp 3), none⟩, ⟨(some 53), .bin .add (.tmp 52) (.val (.int .i64 1)), none⟩, ⟨(some 3), .mov (.tmp 53), none⟩])) .skip)))
 (.reg [⟨(some 33), .mov (.tmp 5), none⟩, ⟨(some 34), .bin .add (.tmp 33) (.val (.int .i64 1)), none⟩, ⟨(some 5), .mov (.tmp 34), none⟩])))
def a77_L1 : AC := .loop a77_B1
theorem a77_L1_step (call : Caller) (again : AC → St → Option (Ex × St)) (s : St) : codeEv call again a77_L1 s = match codeEv call again a77_B1 s with | some (.norm, s1) => again a77_L1 s1 | r => r := rfl
def a77_B2 : AC := (.seq (.seq (.reg [⟨(some 10), .mov (.tmp 3), none⟩, ⟨(some 11), .mov (.tmp 0), none⟩, ⟨(some 12), .lenL (.tmp 11), none⟩, ⟨(some 13), .bin .lss (.tmp 10) (.tmp 12), none⟩])
 (.cond (.tmp 13) .skip (.exit 0)))
 (.seq (.block 1 (.seq (.dreg [(false, ⟨(some 16), .mov (.tmp 0), none⟩, false), (false, ⟨(some 17), .mov (.tmp 3), none⟩, false), (false, ⟨(some 18), .iaddrL 1 (.tmp 16) (.tmp 17), none⟩, false), (false, ⟨(some 19), .load none (.tmp 18), none⟩, false), (false, ⟨(some 20), .mov (.tmp 0), none⟩, false), (false, ⟨(some 21), .mov (.tmp 3), none⟩, false), (false, ⟨(some 22), .bin .sub (.tmp 21) (.val (.int .i64 1)), none⟩, false), (false, ⟨(some 23), .iaddrL 1 (.tmp 20) (.tmp 22), none⟩, false), (false, ⟨(some 24), .load none (.tmp 23), none⟩, false), (false, ⟨(some 25), .bin .eql (.tmp 19) (.tmp 24), none⟩, false)])
 (.cond (.tmp 25) (.seq (.reg [⟨(some 26), .mov (.tmp 0), none⟩, ⟨(some 27), .mov (.tmp 3), none⟩, ⟨(some 28), .slcL 1 (.tmp 26) (some (.tmp 27)) none none, none⟩, ⟨(some 4), .mov (.tmp 28), none⟩])
 (.seq (.seq (.reg [⟨(some 5), .mov (.val (.int .i64 1)), none⟩])
 (.block 2 a77_L1))
 (.seq (.reg [⟨(some 54), .mov (.tmp 0), none⟩, ⟨(some 55), .mov (.tmp 3), none⟩, ⟨(some 56), .slcL 1 (.tmp 54) (some (.tmp 55)) none none, none⟩, ⟨none, .bad, none⟩])
 (.seq (.reg [⟨(some 57), .mov (.tmp 0), none⟩, ⟨(some 58), .mov (.tmp 3), none⟩, ⟨(some 59), .slcL 1 (.tmp 57) none (some (.tmp 58)) none, none⟩, ⟨(some 2), .mov (.tmp 59), none⟩])
 .ret)))) .skip)))
 (.reg [⟨(some 14), .mov (.tmp 3), none⟩, ⟨(some 15), .bin .add (.tmp 14) (.val (.int .i64 1)), none⟩, ⟨(some 3), .mov (.tmp 15), none⟩])))
def a77_L2 : AC := .loop a77_B2
theorem a77_L2_step (call : Caller) (again : AC → St → Option (Ex × St)) (s : St) : codeEv call again a77_L2 s = match codeEv call again a77_B2 s with | some (.norm, s1) => again a77_L2 s1 | r => r := rfl
def a77 : AFn := { n := 61, np := 1, res := [.tmp 2], body :=
 (.seq (.reg [⟨(some 2), .mov (.val .nils), none⟩])
 (.seq (.seq (.reg [⟨(some 6), .mov (.tmp 0), none⟩, ⟨(some 7), .lenL (.tmp 6), none⟩, ⟨(some 8), .bin .lss (.tmp 7) (.val (.int .i64 2)), none⟩])
 (.cond (.tmp 8) (.seq (.reg [⟨(some 9), .mov (.tmp 0), none⟩, ⟨(some 2), .mov (.tmp 9), none⟩])
 .ret) .skip))
 (.seq (.seq (.reg [⟨(some 3), .mov (.val (.int .i64 1)), none⟩])
 (.block 0 a77_L2))
 (.seq (.reg [⟨(some 60), .mov (.tmp 0), none⟩, ⟨(some 2), .mov (.tmp 60), none⟩])
 .ret)))) }
def h78 : Hints := ⟨[], [], []⟩
def a78 : AFn := { n := 54, np := 2, res := [.tmp 4], body :=
 (.seq (.reg [⟨(some 4), .mov (.val (.str ⟨#[]⟩)), none⟩])
 (.seq (.seq (.reg [⟨(some 10), .mov (.tmp 1), none⟩, ⟨(some 11), .bin .eql (.tmp 10) (.val (.int .i64 10)), none⟩])
 (.cond (.tmp 11) (.seq (.seq (.reg [⟨(some 12), .mov (.tmp 0), none⟩, ⟨(some 13), .bin .leq (.val (.int .i64 0)) (.tmp 12), none⟩, ⟨(some 14), .mov (.tmp 13), none⟩, ⟨(some 15), .mov (.tmp 0), (some (14, true))⟩, ⟨(some 16), .bin .lss (.tmp 15) (.val (.int .i64 100)), (some (14, true))⟩, ⟨(some 17), .pick (.tmp 14) (.tmp 16) (.val (.bool false)), none⟩])
 (.cond (.tmp 17) (.seq (.reg [⟨(some 18), .mov (.tmp 0), none⟩, ⟨(some 19), .call 89 [(.tmp 18)], none⟩, ⟨(some 4), .mov (.tmp 19), none⟩])
 .ret) .skip))
 (.seq (.reg [⟨(some 5), .alloc none [(.int .u8 0), (.int .u8 0), (.int .u8 0), (.int .u8 0), (.int .u8 0), (.int .u8 0), (.int .u8 0), (.int .u8 0), (.int .u8 0), (.int .u8 0), (.int .u8 0), (.int .u8 0), (.int .u8 0), (.int .u8 0), (.int .u8 0), (.int .u8 0), (.int .u8 0), (.int .u8 0), (.int .u8 0), (.int .u8 0), (.int .u8 0), (.int .u8 0), (.int .u8 0), (.int .u8 0)], none⟩])
 (.seq (.reg [⟨(some 20), .mov (.tmp 0), none⟩, ⟨(some 21), .conv .u64 (.tmp 20), none⟩, ⟨(some 6), .mov (.tmp 21), none⟩])
 (.seq (.seq (.reg [⟨(some 22), .mov (.tmp 0), none⟩, ⟨(some 23), .bin .lss (.tmp 22) (.val (.int .i64 0)), none⟩])
 (.cond (.tmp 23) (.reg [⟨(some 24), .mov (.tmp 6), none⟩, ⟨(some 25), .un .neg (.tmp 24), none⟩, ⟨(some 6), .mov (.tmp 25), none⟩]) .skip))
 (.seq (.reg [⟨(some 26), .mov (.tmp 6), none⟩, ⟨(some 27), .call 90 [(.tmp 26)], none⟩, ⟨(some 7), .mov (.tmp 27), none⟩])
 (.seq (.reg [⟨(some 28), .mov (.tmp 7), none⟩, ⟨(some 29), .bin .add (.val (.int .i64 1)) (.tmp 28), none⟩, ⟨(some 30), .slcA 24 1 (.tmp 5) (some (.val (.int .i64 1))) (some (.tmp 29)) none, none⟩, ⟨(some 31), .mov (.tmp 6), none⟩, ⟨(some 32), .call 91 [(.tmp 30), (.tmp 31)], none⟩])
 (.seq (.seq (.reg [⟨(some 33), .mov (.tmp 0), none⟩, ⟨(some 34), .bin .lss (.tmp 33) (.val (.int .i64 0)), none⟩])
 (.cond (.tmp 34) (.seq (.reg [⟨(some 35), .iaddrA 24 1 (.tmp 5) (.val (.int .i64 0)), none⟩, ⟨none, .store 1 (.tmp 35) (.val (.int .u8 45)), none⟩])
 (.seq (.reg [⟨(some 36), .mov (.tmp 7), none⟩, ⟨(some 37), .bin .add (.val (.int .i64 1)) (.tmp 36), none⟩, ⟨(some 38), .slcA 24 1 (.tmp 5) none (some (.tmp 37)) none, none⟩, ⟨(some 39), .xm (.b2s) [(.tmp 38)], none⟩, ⟨(some 4), .mov (.tmp 39), none⟩])
 .ret)) .skip))
 (.seq (.reg [⟨(some 40), .mov (.tmp 7), none⟩, ⟨(some 41), .bin .add (.val (.int .i64 1)) (.tmp 40), none⟩, ⟨(some 42), .slcA 24 1 (.tmp 5) (some (.val (.int .i64 1))) (some (.tmp 41)) none, none⟩, ⟨(some 43), .xm (.b2s) [(.tmp 42)], none⟩, ⟨(some 4), .mov (.tmp 43), none⟩])
 .ret)))))))) .skip))
 (.seq (.reg [⟨(some 45), .mov (.tmp 0), none⟩, ⟨(some 46), .conv .u64 (.tmp 45), none⟩, ⟨(some 47), .mov (.tmp 1), none⟩, ⟨(some 48), .mov (.tmp 0), none⟩, ⟨(some 49), .bin .lss (.tmp 48) (.val (.int .i64 0)), none⟩, ⟨(some 50), .call 92 [(.val .nils), (.tmp 46), (.tmp 47), (.tmp 49), (.val (.bool false))], none⟩, ⟨(some 44), .mov (.tmp 50), none⟩, ⟨(some 51), .ext (.tmp 44) 0, none⟩, ⟨(some 52), .ext (.tmp 44) 1, none⟩, ⟨(some 8), .mov (.tmp 51), none⟩, ⟨(some 9), .mov (.tmp 52), none⟩])
 (.seq (.reg [⟨(some 53), .mov (.tmp 9), none⟩, ⟨(some 4), .mov (.tmp 53), none⟩])
 .ret)))) }
def h79 : Hints := ⟨[], [], []⟩
def a79 : AFn := { n := 20, np := 1, res := [], body :=
 (.seq (.reg [⟨(some 2), .mov (.tmp 0), none⟩, ⟨(some 3), .nilck (.tmp 2), none⟩, ⟨(some 4), .faddr 0 (.tmp 3), none⟩, ⟨(some 5), .load none (.tmp 4), none⟩, ⟨(some 6), .eq false .ptr (.tmp 5) (.val .nilp), none⟩])
 (.cond (.tmp 6) (.reg [⟨(some 7), .mov (.tmp 0), none⟩, ⟨(some 8), .mov (.tmp 0), none⟩, ⟨(some 9), .xm (.upU) [(.tmp 8)], none⟩, ⟨(some 10), .mov (.tmp 9), none⟩, ⟨(some 11), .xm (.upF [(111, 2)]) [(.tmp 10)], none⟩, ⟨(some 12), .nilck (.tmp 7), none⟩, ⟨(some 13), .faddr 0 (.tmp 12), none⟩, ⟨none, .store 1 (.tmp 13) (.tmp 11), none⟩]) (.seq (.reg [⟨(some 14), .mov (.tmp 0), none⟩, ⟨(some 15), .nilck (.tmp 14), none⟩, ⟨(some 16), .faddr 0 (.tmp 15), none⟩, ⟨(some 17), .load none (.tmp 16), none⟩, ⟨(some 18), .mov (.tmp 0), none⟩, ⟨(some 19), .eq true .ptr (.tmp 17) (.tmp 18), none⟩])
 (.cond (.tmp 19) .bad .skip)))) }
def h80 : Hints := ⟨[], [], []⟩
def a80 : AFn := { n := 30, np := 2, res := [], body :=
 (.seq (.dreg [(false, ⟨(some 5), .mov (.tmp 0), none⟩, false), (false, ⟨(some 6), .nilck (.tmp 5), none⟩, false), (false, ⟨(some 7), .faddr 1 (.tmp 6), none⟩, false), (false, ⟨(some 8), .load none (.tmp 7), none⟩, false), (false, ⟨(some 9), .xp (.cap) [(.tmp 8)], none⟩, false), (false, ⟨(some 10), .bin .mul (.val (.int .i64 2)) (.tmp 9), none⟩, false), (false, ⟨(some 11), .mov (.tmp 1), none⟩, false), (false, ⟨(some 12), .bin .add (.tmp 10) (.tmp 11), none⟩, false), (false, ⟨(some 14), .mov (.tmp 0), none⟩, false), (false, ⟨(some 15), .nilck (.tmp 14), none⟩, false), (false, ⟨(some 16), .faddr 1 (.tmp 15), none⟩, false), (false, ⟨(some 17), .load none (.tmp 16), none⟩, false), (false, ⟨(some 18), .lenL (.tmp 17), none⟩, false), (false, ⟨(some 13), .xm (.mkz ((some 5))) [(.tmp 12)], none⟩, false), (false, ⟨(some 19), .slcL 1 (.tmp 13) none (some (.tmp 18)) none, none⟩, false), (false, ⟨(some 4), .mov (.tmp 19), none⟩, false)])
 (.seq (.reg [⟨(some 20), .mov (.tmp 4), none⟩, ⟨(some 21), .mov (.tmp 0), none⟩, ⟨(some 22), .nilck (.tmp 21), none⟩, ⟨(some 23), .faddr 1 (.tmp 22), none⟩, ⟨(some 24), .load none (.tmp 23), none⟩, ⟨(some 25), .xm (.copy 1) [(.tmp 20), (.tmp 24)], none⟩])
 (.reg [⟨(some 26), .mov (.tmp 0), none⟩, ⟨(some 27), .mov (.tmp 4), none⟩, ⟨(some 28), .nilck (.tmp 26), none⟩, ⟨(some 29), .faddr 1 (.tmp 28), none⟩, ⟨none, .store 1 (.tmp 29) (.tmp 27), none⟩]))) }
def h87 : Hints := ⟨[], [], []⟩
def a87_B1 : AC := (.block 1 (.seq (.reg [⟨(some 19), .mov (.tmp 2), none⟩, ⟨(some 20), .mov (.tmp 1), none⟩, ⟨(some 21), .bin .sub (.tmp 19) (.tmp 20), none⟩, ⟨(some 10), .mov (.tmp 21), none⟩])
 (.seq (.seq (.reg [⟨(some 22), .mov (.tmp 10), none⟩, ⟨(some 23), .bin .leq (.tmp 22) (.val (.int .i64 12)), none⟩])
 (.cond (.tmp 23) (.seq (.reg [⟨(some 24), .mov (.tmp 0), none⟩, ⟨(some 25), .mov (.tmp 1), none⟩, ⟨(some 26), .mov (.tmp 2), none⟩, ⟨(some 27), .call 100 [(.tmp 24), (.tmp 25), (.tmp 26)], none⟩])
 .ret) .skip))
 (.seq (.seq (.reg [⟨(some 28), .mov (.tmp 3), none⟩, ⟨(some 29), .bin .eql (.tmp 28) (.val (.int .i64 0)), none⟩])
 (.cond (.tmp 29) (.seq (.reg [⟨(some 30), .mov (.tmp 0), none⟩, ⟨(some 31), .mov (.tmp 1), none⟩, ⟨(some 32), .mov (.tmp 2), none⟩, ⟨(some 33), .call 101 [(.tmp 30), (.tmp 31), (.tmp 32)], none⟩])
 .ret) .skip))
 (.seq (.seq (.reg [⟨(some 34), .mov (.tmp 8), none⟩, ⟨(some 35), .un .not (.tmp 34), none⟩])
 (.cond (.tmp 35) (.seq (.reg [⟨(some 36), .mov (.tmp 0), none⟩, ⟨(some 37), .mov (.tmp 1), none⟩, ⟨(some 38), .mov (.tmp 2), none⟩, ⟨(some 39), .call 102 [(.tmp 36), (.tmp 37), (.tmp 38)], none⟩])
 (.reg [⟨(some 40), .mov (.tmp 3), none⟩, ⟨(some 41), .bin .sub (.tmp 40) (.val (.int .i64 1)), none⟩, ⟨(some 3), .mov (.tmp 41), none⟩])) .skip))
 (.seq (.reg [⟨(some 43), .mov (.tmp 0), none⟩, ⟨(some 44), .mov (.tmp 1), none⟩, ⟨(some 45), .mov (.tmp 2), none⟩, ⟨(some 46), .call 103 [(.tmp 43), (.tmp 44), (.tmp 45)], none⟩, ⟨(some 42), .mov (.tmp 46), none⟩, ⟨(some 47), .ext (.tmp 42) 0, none⟩, ⟨(some 48), .ext (.tmp 42) 1, none⟩, ⟨(some 11), .mov (.tmp 47), none⟩, ⟨(some 12), .mov (.tmp 48), none⟩])
 (.seq (.seq (.reg [⟨(some 49), .mov (.tmp 12), none⟩, ⟨(some 50), .bin .eql (.tmp 49) (.val (.int .i64 2)), none⟩])
 (.cond (.tmp 50) (.seq (.reg [⟨(some 51), .mov (.tmp 0), none⟩, ⟨(some 52), .mov (.tmp 1), none⟩, ⟨(some 53), .mov (.tmp 2), none⟩, ⟨(some 54), .call 104 [(.tmp 51), (.tmp 52), (.tmp 53)], none⟩])
 (.seq (.reg [⟨(some 55), .mov (.tmp 2), none⟩, ⟨(some 56), .bin .sub (.tmp 55) (.val (.int .i64 1)), none⟩, ⟨(some 57), .mov (.tmp 11), none⟩, ⟨(some 58), .mov (.tmp 1), none⟩, ⟨(some 59), .bin .sub (.tmp 57) (.tmp 58), none⟩, ⟨(some 60), .bin .sub (.tmp 56) (.tmp 59), none⟩, ⟨(some 11), .mov (.tmp 60), none⟩])
 (.reg [⟨(some 12), .mov (.val (.int .i64 1)), none⟩]))) .skip))
 (.seq (.seq (.reg [⟨(some 61), .mov (.tmp 8), none⟩, ⟨(some 62), .mov (.tmp 61), none⟩, ⟨(some 63), .mov (.tmp 9), (some (62, true))⟩, ⟨(some 64), .pick (.tmp 62) (.tmp 63) (.val (.bool false)), none⟩, ⟨(some 65), .mov (.tmp 64), none⟩, ⟨(some 66), .mov (.tmp 12), (some (65, true))⟩, ⟨(some 67), .bin .eql (.tmp 66) (.val (.int .i64 1)), (some (65, true))⟩, ⟨(some 68), .pick (.tmp 65) (.tmp 67) (.val (.bool false)), none⟩])
 (.cond (.tmp 68) (.seq (.reg [⟨(some 69), .mov (.tmp 0), none⟩, ⟨(some 70), .mov (.tmp 1), none⟩, ⟨(some 71), .mov (.tmp 2), none⟩, ⟨(some 72), .call 105 [(.tmp 69), (.tmp 70), (.tmp 71)], none⟩])
 (.cond (.tmp 72) .ret .skip)) .skip))
 (.seq (.seq (.dreg [(false, ⟨(some 73), .mov (.tmp 1), none⟩, false), (false, ⟨(some 74), .bin .gtr (.tmp 73) (.val (.int .i64 0)), none⟩, false), (false, ⟨(some 75), .mov (.tmp 74), none⟩, false), (false, ⟨(some 76), .mov (.tmp 0), (some (75, true))⟩, false), (false, ⟨(some 77), .mov (.tmp 1), (some (75, true))⟩, false), (false, ⟨(some 78), .bin .sub (.tmp 77) (.val (.int .i64 1)), (some (75, true))⟩, false), (false, ⟨(some 79), .iaddrL 1 (.tmp 76) (.tmp 78), (some (75, true))⟩, false), (false, ⟨(some 80), .load none (.tmp 79), (some (75, true))⟩, false), (false, ⟨(some 81), .mov (.tmp 0), (some (75, true))⟩, false), (false, ⟨(some 82), .mov (.tmp 11), (some (75, true))⟩, false), (false, ⟨(some 83), .iaddrL 1 (.tmp 81) (.tmp 82), (some (75, true))⟩, false), (false, ⟨(some 84), .load none (.tmp 83), (some (75, true))⟩, false), (false, ⟨(some 85), .call 106 [(.tmp 80), (.tmp 84)], (some (75, true))⟩, false), (false, ⟨(some 86), .un .not (.tmp 85), (some (75, true))⟩, false), (false, ⟨(some 87), .pick (.tmp 75) (.tmp 86) (.val (.bool false)), none⟩, false)])
 (.cond (.tmp 87) (.seq (.reg [⟨(some 88), .mov (.tmp 0), none⟩, ⟨(some 89), .mov (.tmp 1), none⟩, ⟨(some 90), .mov (.tmp 2), none⟩, ⟨(some 91), .mov (.tmp 11), none⟩, ⟨(some 92), .call 107 [(.tmp 88), (.tmp 89), (.tmp 90), (.tmp 91)], none⟩, ⟨(some 13), .mov (.tmp 92), none⟩])
 (.seq (.reg [⟨(some 93), .mov (.tmp 13), none⟩, ⟨(some 1), .mov (.tmp 93), none⟩])
 (.exit 1))) .skip))
 (.seq (.reg [⟨(some 95), .mov (.tmp 0), none⟩, ⟨(some 96), .mov (.tmp 1), none⟩, ⟨(some 97), .mov (.tmp 2), none⟩, ⟨(some 98), .mov (.tmp 11), none⟩, ⟨(some 99), .call 108 [(.tmp 95), (.tmp 96), (.tmp 97), (.tmp 98)], none⟩, ⟨(some 94), .mov (.tmp 99), none⟩, ⟨(some 100), .ext (.tmp 94) 0, none⟩, ⟨(some 101), .ext (.tmp 94) 1, none⟩, ⟨(some 14), .mov (.tmp 100), none⟩, ⟨(some 15), .mov (.tmp 101), none⟩])
 (.seq (.reg [⟨(some 102), .mov (.tmp 15), none⟩, ⟨(some 9), .mov (.tmp 102), none⟩])
 (.seq (.reg [⟨(some 103), .mov (.tmp 14), none⟩, ⟨(some 104), .mov (.tmp 1), none⟩, ⟨(some 105), .bin .sub (.tmp 103) (.tmp 104), none⟩, ⟨(some 106), .mov (.tmp 2), none⟩, ⟨(some 107), .mov (.tmp 14), none⟩, ⟨(some 108), .bin .sub (.tmp 106) (.tmp 107), none⟩, ⟨(some 16), .mov (.tmp 105), none⟩, ⟨(some 17), .mov (.tmp 108), none⟩])
 (.seq (.reg [⟨(some 109), .mov (.tmp 10), none⟩, ⟨(some 110), .bin .quo (.tmp 109) (.val (.int .i64 8)), none⟩, ⟨(some 18), .mov (.tmp 110), none⟩])
 (.seq (.reg [⟨(some 111), .mov (.tmp 16), none⟩, ⟨(some 112), .mov (.tmp 17), none⟩, ⟨(some 113), .bin .lss (.tmp 111) (.tmp 112), none⟩])
 (.cond (.tmp 113) (.seq (.reg [⟨(some 114), .mov (.tmp 16), none⟩, ⟨(some 115), .mov (.tmp 18), none⟩, ⟨(some 116), .bin .geq (.tmp 114) (.tmp 115), none⟩, ⟨(some 8), .mov (.tmp 116), none⟩])
 (.seq (.reg [⟨(some 117), .mov (.tmp 0), none⟩, ⟨(some 118), .mov (.tmp 1), none⟩, ⟨(some 119), .mov (.tmp 14), none⟩, ⟨(some 120), .mov (.tmp 3), none⟩, ⟨(some 121), .call 87 [(.tmp 117), (.tmp 118), (.tmp 119), (.tmp 120)], none⟩])
 (.reg [⟨(some 122), .mov (.tmp 14), none⟩, ⟨(some 123), .bin .add (.tmp 122) (.val (.int .i64 1)), none⟩, ⟨(some 1), .mov (.tmp 123), none⟩]))) (.seq (.reg [⟨(some 124), .mov (.tmp 17), none⟩, ⟨(some 125), .mov (.tmp 18), none⟩, ⟨(some 126), .bin .geq (.tmp 124) (.tmp 125), none⟩, ⟨(some 8), .mov (.tmp 126), none⟩])
 (.seq (.reg [⟨(some 127), .mov (.tmp 0), none⟩, ⟨(some 128), .mov (.tmp 14), none⟩, ⟨(some 129), .bin .add (.tmp 128) (.val (.int .i64 1)), none⟩, ⟨(some 130), .mov (.tmp 2), none⟩, ⟨(some 131), .mov (.tmp 3), none⟩, ⟨(some 132), .call 87 [(.tmp 127), (.tmp 129), (.tmp 130), (.tmp 131)], none⟩])
 (.reg [⟨(some 133), .mov (.tmp 14), none⟩, ⟨(some 2), .mov (.tmp 133), none⟩]))))))))))))))))))
def a87_L1 : AC := .loop a87_B1
theorem a87_L1_step (call : Caller) (again : AC → St → Option (Ex × St)) (s : St) : codeEv call again a87_L1 s = match codeEv call again a87_B1 s with | some (.norm, s1) => again a87_L1 s1 | r => r := rfl
def a87 : AFn := { n := 134, np := 4, res := [], body :=
 (.seq (.reg [⟨(some 8), .mov (.val (.bool true)), none⟩])
 (.seq (.reg [⟨(some 9), .mov (.val (.bool true)), none⟩])
 (.block 0 a87_L1))) }
def h88 : Hints := ⟨[], [], []⟩
def a88 : AFn := { n := 8, np := 1, res := [.tmp 2], body :=
 (.seq (.reg [⟨(some 2), .mov (.val (.int .i64 0)), none⟩])
 (.seq (.cond (.val (.bool false)) (.seq (.reg [⟨(some 3), .mov (.tmp 0), none⟩, ⟨(some 4), .conv .u32 (.tmp 3), none⟩, ⟨(some 5), .call 109 [(.tmp 4)], none⟩, ⟨(some 2), .mov (.tmp 5), none⟩])
 .ret) .skip)
 (.seq (.reg [⟨(some 6), .mov (.tmp 0), none⟩, ⟨(some 7), .call 110 [(.tmp 6)], none⟩, ⟨(some 2), .mov (.tmp 7), none⟩])
 .ret))) }
def h89 : Hints := ⟨[], [], []⟩
def a89 : AFn := { n := 15, np := 1, res := [.tmp 2], body :=
 (.seq (.reg [⟨(some 2), .mov (.val (.str ⟨#[]⟩)), none⟩])
 (.seq (.seq (.reg [⟨(some 3), .mov (.tmp 0), none⟩, ⟨(some 4), .bin .lss (.tmp 3) (.val (.int .i64 10)), none⟩])
 (.cond (.tmp 4) (.seq (.reg [⟨(some 5), .mov (.tmp 0), none⟩, ⟨(some 6), .mov (.tmp 0), none⟩, ⟨(some 7), .bin .add (.tmp 6) (.val (.int .i64 1)), none⟩, ⟨(some 8), .slcS (.val (.str ⟨#[48, 49, 50, 51, 52, 53, 54, 55, 56, 57, 97, 98, 99, 100, 101, 102, 103, 104, 105, 106, 107, 108, 109, 110, 111, 112, 113, 114, 115, 116, 117, 118, 119, 120, 121, 122]⟩)) (some (.tmp 5)) (some (.tmp 7)), none⟩, ⟨(some 2), .mov (.tmp 8), none⟩])
 .ret) .skip))
 (.seq (.reg [⟨(some 9), .mov (.tmp 0), none⟩, ⟨(some 10), .bin .mul (.tmp 9) (.val (.int .i64 2)), none⟩, ⟨(some 11), .mov (.tmp 0), none⟩, ⟨(some 12), .bin .mul (.tmp 11) (.val (.int .i64 2)), none⟩, ⟨(some 13), .bin .add (.tmp 12) (.val (.int .i64 2)), none⟩, ⟨(some 14), .slcS (.val (.str ⟨#[48, 48, 48, 49, 48, 50, 48, 51, 48, 52, 48, 53, 48, 54, 48, 55, 48, 56, 48, 57, 49, 48, 49, 49, 49, 50, 49, 51, 49, 52, 49, 53, 49, 54, 49, 55, 49, 56, 49, 57, 50, 48, 50, 49, 50, 50, 50, 51, 50, 52, 50, 53, 50, 54, 50, 55, 50, 56, 50, 57, 51, 48, 51, 49, 51, 50, 51, 51, 51, 52, 51, 53, 51, 54, 51, 55, 51, 56, 51, 57, 52, 48, 52, 49, 52, 50, 52, 51, 52, 52, 52, 53, 52, 54, 52, 55, 52, 56, 52, 57, 53, 48, 53, 49, 53, 50, 53, 51, 53, 52, 53, 53, 53, 54, 53, 55, 53, 56, 53, 57, 54, 48, 54, 49, 54, 50, 54, 51, 54, 52, 54, 53, 54, 54, 54, 55, 54, 56, 54, 57, 55, 48, 55, 49, 55, 50, 55, 51, 55, 52, 55, 53, 55, 54, 55, 55, 55, 56, 55, 57, 56, 48, 56, 49, 56, 50, 56, 51, 56, 52, 56, 53, 56, 54, 56, 55, 56, 56, 56, 57, 57, 48, 57, 49, 57, 50, 57, 51, 57, 52, 57, 53, 57, 54, 57, 55, 57, 56, 57, 57]⟩)) (some (.tmp 10)) (some (.tmp 13)), none⟩, ⟨(some 2), .mov (.tmp 14), none⟩])
 .ret))) }
def h90 : Hints := ⟨[], [], []⟩
def a90 : AFn := { n := 15, np := 1, res := [.tmp 2], body :=
 (.seq (.reg [⟨(some 2), .mov (.val (.int .i64 0)), none⟩])
 (.seq (.reg [⟨(some 4), .mov (.tmp 0), none⟩, ⟨(some 5), .call 110 [(.tmp 4)], none⟩, ⟨(some 6), .call 111 [(.tmp 5)], none⟩, ⟨(some 3), .mov (.tmp 6), none⟩])
 (.seq (.reg [⟨(some 7), .mov (.tmp 3), none⟩, ⟨(some 8), .mov (.tmp 0), none⟩, ⟨(some 9), .mov (.tmp 3), none⟩, ⟨(some 10), .iaddrA 20 1 (.val (.ptr 7 0)) (.tmp 9), none⟩, ⟨(some 11), .load none (.tmp 10), none⟩, ⟨(some 12), .bin .geq (.tmp 8) (.tmp 11), none⟩, ⟨(some 13), .call 112 [(.tmp 12)], none⟩, ⟨(some 14), .bin .add (.tmp 7) (.tmp 13), none⟩, ⟨(some 2), .mov (.tmp 14), none⟩])
 .ret))) }
def h91 : Hints := ⟨[], [], []⟩
def a91_B1 : AC := (.seq (.seq (.reg [⟨(some 19), .mov (.tmp 4), none⟩, ⟨(some 20), .bin .geq (.tmp 19) (.val (.int .i64 8)), none⟩])
 (.cond (.tmp 20) .skip (.exit 0)))
 (.block 1 (.seq (.reg [⟨(some 21), .mov (.tmp 1), none⟩, ⟨(some 22), .bin .rem (.tmp 21) (.val (.int .u64 100000000)), none⟩, ⟨(some 23), .conv .u32 (.tmp 22), none⟩, ⟨(some 5), .mov (.tmp 23), none⟩])
 (.seq (.reg [⟨(some 24), .mov (.tmp 1), none⟩, ⟨(some 25), .bin .quo (.tmp 24) (.val (.int .u64 100000000)), none⟩, ⟨(some 1), .mov (.tmp 25), none⟩])
 (.seq (.reg [⟨(some 26), .mov (.tmp 5), none⟩, ⟨(some 27), .bin .quo (.tmp 26) (.val (.int .u32 10000)), none⟩, ⟨(some 28), .mov (.tmp 5), none⟩, ⟨(some 29), .bin .rem (.tmp 28) (.val (.int .u32 10000)), none⟩, ⟨(some 6), .mov (.tmp 27), none⟩, ⟨(some 7), .mov (.tmp 29), none⟩])
 (.seq (.reg [⟨(some 30), .mov (.tmp 7), none⟩, ⟨(some 31), .bin .quo (.tmp 30) (.val (.int .u32 100)), none⟩, ⟨(some 32), .bin .mul (.tmp 31) (.val (.int .u32 2)), none⟩, ⟨(some 33), .mov (.tmp 7), none⟩, ⟨(some 34), .bin .rem (.tmp 33) (.val (.int .u32 100)), none⟩, ⟨(some 35), .bin .mul (.tmp 34) (.val (.int .u32 2)), none⟩, ⟨(some 8), .mov (.tmp 32), none⟩, ⟨(some 9), .mov (.tmp 35), none⟩])
 (.seq (.reg [⟨(some 36), .mov (.tmp 6), none⟩, ⟨(some 37), .bin .quo (.tmp 36) (.val (.int .u32 100)), none⟩, ⟨(some 38), .bin .mul (.tmp 37) (.val (.int .u32 2)), none⟩, ⟨(some 39), .mov (.tmp 6), none⟩, ⟨(some 40), .bin .rem (.tmp 39) (.val (.int .u32 100)), none⟩, ⟨(some 41), .bin .mul (.tmp 40) (.val (.int .u32 2)), none⟩, ⟨(some 10), .mov (.tmp 38), none⟩, ⟨(some 11), .mov (.tmp 41), none⟩])
 (.seq (.dreg [(false, ⟨(some 42), .mov (.tmp 0), none⟩, false), (false, ⟨(some 43), .mov (.tmp 4), none⟩, false), (false, ⟨(some 44), .bin .sub (.tmp 43) (.val (.int .i64 1)), none⟩, false), (false, ⟨(some 45), .mov (.tmp 0), none⟩, false), (false, ⟨(some 46), .mov (.tmp 4), none⟩, false), (false, ⟨(some 47), .bin .sub (.tmp 46) (.val (.int .i64 2)), none⟩, false), (false, ⟨(some 48), .mov (.tmp 9), none⟩, false), (false, ⟨(some 49), .bin .add (.tmp 48) (.val (.int .u32 1)), none⟩, false), (false, ⟨(some 50), .idxS (.val (.str ⟨#[48, 48, 48, 49, 48, 50, 48, 51, 48, 52, 48, 53, 48, 54, 48, 55, 48, 56, 48, 57, 49, 48, 49, 49, 49, 50, 49, 51, 49, 52, 49, 53, 49, 54, 49, 55, 49, 56, 49, 57, 50, 48, 50, 49, 50, 50, 50, 51, 50, 52, 50, 53, 50, 54, 50, 55, 50, 56, 50, 57, 51, 48, 51, 49, 51, 50, 51, 51, 51, 52, 51, 53, 51, 54, 51, 55, 51, 56, 51, 57, 52, 48, 52, 49, 52, 50, 52, 51, 52, 52, 52, 53, 52, 54, 52, 55, 52, 56, 52, 57, 53, 48, 53, 49, 53, 50, 53, 51, 53, 52, 53, 53, 53, 54, 53, 55, 53, 56, 53, 57, 54, 48, 54, 49, 54, 50, 54, 51, 54, 52, 54, 53, 54, 54, 54, 55, 54, 56, 54, 57, 55, 48, 55, 49, 55, 50, 55, 51, 55, 52, 55, 53, 55, 54, 55, 55, 55, 56, 55, 57, 56, 48, 56, 49, 56, 50, 56, 51, 56, 52, 56, 53, 56, 54, 56, 55, 56, 56, 56, 57, 57, 48, 57, 49, 57, 50, 57, 51, 57, 52, 57, 53, 57, 54, 57, 55, 57, 56, 57, 57]⟩)) (.tmp 49), none⟩, false), (false, ⟨(some 51), .mov (.tmp 9), none⟩, false), (false, ⟨(some 52), .idxS (.val (.str ⟨#[48, 48, 48, 49, 48, 50, 48, 51, 48, 52, 48, 53, 48, 54, 48, 55, 48, 56, 48, 57, 49, 48, 49, 49, 49, 50, 49, 51, 49, 52, 49, 53, 49, 54, 49, 55, 49, 56, 49, 57, 50, 48, 50, 49, 50, 50, 50, 51, 50, 52, 50, 53, 50, 54, 50, 55, 50, 56, 50, 57, 51, 48, 51, 49, 51, 50, 51, 51, 51, 52, 51, 53, 51, 54, 51, 55, 51, 56, 51, 57, 52, 48, 52, 49, 52, 50, 52, 51, 52, 52, 52, 53, 52, 54, 52, 55, 52, 56, 52, 57, 53, 48, 53, 49, 53, 50, 53, 51, 53, 52, 53, 53, 53, 54, 53, 55, 53, 56, 53, 57, 54, 48, 54, 49, 54, 50, 54, 51, 54, 52, 54, 53, 54, 54, 54, 55, 54, 56, 54, 57, 55, 48, 55, 49, 55, 50, 55, 51, 55, 52, 55, 53, 55, 54, 55, 55, 55, 56, 55, 57, 56, 48, 56, 49, 56, 50, 56, 51, 56, 52, 56, 53, 56, 54, 56, 55, 56, 56, 56, 57, 57, 48, 57, 49, 57, 50, 57, 51, 57, 52, 57, 53, 57, 54, 57, 55, 57, 56, 57, 57]⟩)) (.tmp 51), none⟩, false), (false, ⟨(some 53), .iaddrL 1 (.tmp 42) (.tmp 44), none⟩, false), (false, ⟨none, .store 1 (.tmp 53) (.tmp 50), none⟩, false), (false, ⟨(some 54), .iaddrL 1 (.tmp 45) (.tmp 47), none⟩, false), (false, ⟨none, .store 1 (.tmp 54) (.tmp 52), none⟩, false)])
 (.seq (.dreg [(false, ⟨(some 55), .mov (.tmp 0), none⟩, false), (false, ⟨(some 56), .mov (.tmp 4), none⟩, false), (false, ⟨(some 57), .bin .sub (.tmp 56) (.val (.int .i64 3)), none⟩, false), (false, ⟨(some 58), .mov (.tmp 0), none⟩, false), (false, ⟨(some 59), .mov (.tmp 4), none⟩, false), (false, ⟨(some 60), .bin .sub (.tmp 59) (.val (.int .i64 4)), none⟩, false), (false, ⟨(some 61), .mov (.tmp 8), none⟩, false), (false, ⟨(some 62), .bin .add (.tmp 61) (.val (.int .u32 1)), none⟩, false), (false, ⟨(some 63), .idxS (.val (.str ⟨#[48, 48, 48, 49, 48, 50, 48, 51, 48, 52, 48, 53, 48, 54, 48, 55, 48, 56, 48, 57, 49, 48, 49, 49, 49, 50, 49, 51, 49, 52, 49, 53, 49, 54, 49, 55, 49, 56, 49, 57, 50, 48, 50, 49, 50, 50, 50, 51, 50, 52, 50, 53, 50, 54, 50, 55, 50, 56, 50, 57, 51, 48, 51, 49, 51, 50, 51, 51, 51, 52, 51, 53, 51, 54, 51, 55, 51, 56, 51, 57, 52, 48, 52, 49, 52, 50, 52, 51, 52, 52, 52, 53, 52, 54, 52, 55, 52, 56, 52, 57, 53, 48, 53, 49, 53, 50, 53, 51, 53, 52, 53, 53, 53, 54, 53, 55, 53, 56, 53, 57, 54, 48, 54, 49, 54, 50, 54, 51, 54, 52, 54, 53, 54, 54, 54, 55, 54, 56, 54, 57, 55, 48, 55, 49, 55, 50, 55, 51, 55, 52, 55, 53, 55, 54, 55, 55, 55, 56, 55, 57, 56, 48, 56, 49, 56, 50, 56, 51, 56, 52, 56, 53, 56, 54, 56, 55, 56, 56, 56, 57, 57, 48, 57, 49, 57, 50, 57, 51, 57, 52, 57, 53, 57, 54, 57, 55, 57, 56, 57, 57]⟩)) (.tmp 62), none⟩, false), (false, ⟨(some 64), .mov (.tmp 8), none⟩, false), (false, ⟨(some 65), .idxS (.val (.str ⟨#[48, 48, 48, 49, 48, 50, 48, 51, 48, 52, 48, 53, 48, 54, 48, 55, 48, 56, 48, 57, 49, 48, 49, 49, 49, 50, 49, 51, 49, 52, 49, 53, 49, 54, 49, 55, 49, 56, 49, 57, 50, 48, 50, 49, 50, 50, 50, 51, 50, 52, 50, 53, 50, 54, 50, 55, 50, 56, 50, 57, 51, 48, 51, 49, 51, 50, 51, 51, 51, 52, 51, 53, 51, 54, 51, 55, 51, 56, 51, 57, 52, 48, 52, 49, 52, 50, 52, 51, 52, 52, 52, 53, 52, 54, 52, 55, 52, 56, 52, 57, 53, 48, 53, 49, 53, 50, 53, 51, 53, 52, 53, 53, 53, 54, 53, 55, 53, 56, 53, 57, 54, 48, 54, 49, 54, 50, 54, 51, 54, 52, 54, 53, 54, 54, 54, 55, 54, 56, 54, 57, 55, 48, 55, 49, 55, 50, 55, 51, 55, 52, 55, 53, 55, 54, 55, 55, 55, 56, 55, 57, 56, 48, 56, 49, 56, 50, 56, 51, 56, 52, 56, 53, 56, 54, 56, 55, 56, 56, 56, 57, 57, 48, 57, 49, 57, 50, 57, 51, 57, 52, 57, 53, 57, 54, 57, 55, 57, 56, 57, 57]⟩)) (.tmp 64), none⟩, false), (false, ⟨(some 66), .iaddrL 1 (.tmp 55) (.tmp 57), none⟩, false), (false, ⟨none, .store 1 (.tmp 66) (.tmp 63), none⟩, false), (false, ⟨(some 67), .iaddrL 1 (.tmp 58) (.tmp 60), none⟩, false), (false, ⟨none, .store 1 (.tmp 67) (.tmp 65), none⟩, false)])
 (.seq (.dreg [(false, ⟨(some 68), .mov (.tmp 0), none⟩, false), (false, ⟨(some 69), .mov (.tmp 4), none⟩, false), (false, ⟨(some 70), .bin .sub (.tmp 69) (.val (.int .i64 5)), none⟩, false), (false, ⟨(some 71), .mov (.tmp 0), none⟩, false), (false, ⟨(some 72), .mov (.tmp 4), none⟩, false), (false, ⟨(some 73), .bin .sub (.tmp 72) (.val (.int .i64 6)), none⟩, false), (false, ⟨(some 74), .mov (.tmp 11), none⟩, false), (false, ⟨(some 75), .bin .add (.tmp 74) (.val (.int .u32 1)), none⟩, false), (false, ⟨(some 76), .idxS (.val (.str ⟨#[48, 48, 48, 49, 48, 50, 48, 51, 48, 52, 48, 53, 48, 54, 48, 55, 48, 56, 48, 57, 49, 48, 49, 49, 49, 50, 49, 51, 49, 52, 49, 53, 49, 54, 49, 55, 49, 56, 49, 57, 50, 48, 50, 49, 50, 50, 50, 51, 50, 52, 50, 53, 50, 54, 50, 55, 50, 56, 50, 57, 51, 48, 51, 49, 51, 50, 51, 51, 51, 52, 51, 53, 51, 54, 51, 55, 51, 56, 51, 57, 52, 48, 52, 49, 52, 50, 52, 51, 52, 52, 52, 53, 52, 54, 52, 55, 52, 56, 52, 57, 53, 48, 53, 49, 53, 50, 53, 51, 53, 52, 53, 53, 53, 54, 53, 55, 53, 56, 53, 57, 54, 48, 54, 49, 54, 50, 54, 51, 54, 52, 54, 53, 54, 54, 54, 55, 54, 56, 54, 57, 55, 48, 55, 49, 55, 50, 55, 51, 55, 52, 55, 53, 55, 54, 55, 55, 55, 56, 55, 57, 56, 48, 56, 49, 56, 50, 56, 51, 56, 52, 56, 53, 56, 54, 56, 55, 56, 56, 56, 57, 57, 48, 57, 49, 57, 50, 57, 51, 57, 52, 57, 53, 57, 54, 57, 55, 57, 56, 57, 57]⟩)) (.tmp 75), none⟩, false), (false, ⟨(some 77), .mov (.tmp 11), none⟩, false), (false, ⟨(some 78), .idxS (.val (.str ⟨#[48, 48, 48, 49, 48, 50, 48, 51, 48, 52, 48, 53, 48, 54, 48, 55, 48, 56, 48, 57, 49, 48, 49, 49, 49, 50, 49, 51, 49, 52, 49, 53, 49, 54, 49, 55, 49, 56, 49, 57, 50, 48, 50, 49, 50, 50, 50, 51, 50, 52, 50, 53, 50, 54, 50, 55, 50, 56, 50, 57, 51, 48, 51, 49, 51, 50, 51, 51, 51, 52, 51, 53, 51, 54, 51, 55, 51, 56, 51, 57, 52, 48, 52, 49, 52, 50, 52, 51, 52, 52, 52, 53, 52, 54, 52, 55, 52, 56, 52, 57, 53, 48, 53, 49, 53, 50, 53, 51, 53, 52, 53, 53, 53, 54, 53, 55, 53, 56, 53, 57, 54, 48, 54, 49, 54, 50, 54, 51, 54, 52, 54, 53, 54, 54, 54, 55, 54, 56, 54, 57, 55, 48, 55, 49, 55, 50, 55, 51, 55, 52, 55, 53, 55, 54, 55, 55, 55, 56, 55, 57, 56, 48, 56, 49, 56, 50, 56, 51, 56, 52, 56, 53, 56, 54, 56, 55, 56, 56, 56, 57, 57, 48, 57, 49, 57, 50, 57, 51, 57, 52, 57, 53, 57, 54, 57, 55, 57, 56, 57, 57]⟩)) (.tmp 77), none⟩, false), (false, ⟨(some 79), .iaddrL 1 (.tmp 68) (.tmp 70), none⟩, false), (false, ⟨none, .store 1 (.tmp 79) (.tmp 76), none⟩, false), (false, ⟨(some 80), .iaddrL 1 (.tmp 71) (.tmp 73), none⟩, false), (false, ⟨none, .store 1 (.tmp 80) (.tmp 78), none⟩, false)])
 (.seq (.dreg [(false, ⟨(some 81), .mov (.tmp 0), none⟩, false), (false, ⟨(some 82), .mov (.tmp 4), none⟩, false), (false, ⟨(some 83), .bin .sub (.tmp 82) (.val (.int .i64 7)), none⟩, false), (false, ⟨(some 84), .mov (.tmp 0), none⟩, false), (false, ⟨(some 85), .mov (.tmp 4), none⟩, false), (false, ⟨(some 86), .bin .sub (.tmp 85) (.val (.int .i64 8)), none⟩, false), (false, ⟨(some 87), .mov (.tmp 10), none⟩, false), (false, ⟨(some 88), .bin .add (.tmp 87) (.val (.int .u32 1)), none⟩, false), (false, ⟨(some 89), .idxS (.val (.str ⟨#[48, 48, 48, 49, 48, 50, 48, 51, 48, 52, 48, 53, 48, 54, 48, 55, 48, 56, 48, 57, 49, 48, 49, 49, 49, 50, 49, 51, 49, 52, 49, 53, 49, 54, 49, 55, 49, 56, 49, 57, 50, 48, 50, 49, 50, 50, 50, 51, 50, 52, 50, 53, 50, 54, 50, 55, 50, 56, 50, 57, 51, 48, 51, 49, 51, 50, 51, 51, 51, 52, 51, 53, 51, 54, 51, 55, 51, 56, 51, 57, 52, 48, 52, 49, 52, 50, 52, 51, 52, 52, 52, 53, 52, 54, 52, 55, 52, 56, 52, 57, 53, 48, 53, 49, 53, 50, 53, 51, 53, 52, 53, 53, 53, 54, 53, 55, 53, 56, 53, 57, 54, 48, 54, 49, 54, 50, 54, 51, 54, 52, 54, 53, 54, 54, 54, 55, 54, 56, 54, 57, 55, 48, 55, 49, 55, 50, 55, 51, 55, 52, 55, 53, 55, 54, 55, 55, 55, 56, 55, 57, 56, 48, 56, 49, 56, 50, 56, 51, 56, 52, 56, 53, 56, 54, 56, 55, 56, 56, 56, 57, 57, 48, 57, 49, 57, 50, 57, 51, 57, 52, 57, 53, 57, 54, 57, 55, 57, 56, 57, 57]⟩)) (.tmp 88), none⟩, false), (false, ⟨(some 90), .mov (.tmp 10), none⟩, false), (false, ⟨(some 91), .idxS (.val (.str ⟨#[48, 48, 48, 49, 48, 50, 48, 51, 48, 52, 48, 53, 48, 54, 48, 55, 48, 56, 48, 57, 49, 48, 49, 49, 49, 50, 49, 51, 49, 52, 49, 53, 49, 54, 49, 55, 49, 56, 49, 57, 50, 48, 50, 49, 50, 50, 50, 51, 50, 52, 50, 53, 50, 54, 50, 55, 50, 56, 50, 57, 51, 48, 51, 49, 51, 50, 51, 51, 51, 52, 51, 53, 51, 54, 51, 55, 51, 56, 51, 57, 52, 48, 52, 49, 52, 50, 52, 51, 52, 52, 52, 53, 52, 54, 52, 55, 52, 56, 52, 57, 53, 48, 53, 49, 53, 50, 53, 51, 53, 52, 53, 53, 53, 54, 53, 55, 53, 56, 53, 57, 54, 48, 54, 49, 54, 50, 54, 51, 54, 52, 54, 53, 54, 54, 54, 55, 54, 56, 54, 57, 55, 48, 55, 49, 55, 50, 55, 51, 55, 52, 55, 53, 55, 54, 55, 55, 55, 56, 55, 57, 56, 48, 56, 49, 56, 50, 56, 51, 56, 52, 56, 53, 56, 54, 56, 55, 56, 56, 56, 57, 57, 48, 57, 49, 57, 50, 57, 51, 57, 52, 57, 53, 57, 54, 57, 55, 57, 56, 57, 57]⟩)) (.tmp 90), none⟩, false), (false, ⟨(some 92), .iaddrL 1 (.tmp 81) (.tmp 83), none⟩, false), (false, ⟨none, .store 1 (.tmp 92) (.tmp 89), none⟩, false), (false, ⟨(some 93), .iaddrL 1 (.tmp 84) (.tmp 86), none⟩, false), (false, ⟨none, .store 1 (.tmp 93) (.tmp 91), none⟩, false)])
 (.reg [⟨(some 94), .mov (.tmp 4), none⟩, ⟨(some 95), .bin .sub (.tmp 94) (.val (.int .i64 8)), none⟩, ⟨(some 4), .mov (.tmp 95), none⟩]))))))))))))
def a91_L1 : AC := .loop a91_B1
theorem a91_L1_step (call : Caller) (again : AC → St → Option (Ex × St)) (s : St) : codeEv call again a91_L1 s = match codeEv call again a91_B1 s with | some (.norm, s1) => again a91_L1 s1 | r => r := rfl
def a91 : AFn := { n := 167, np := 2, res := [], body :=
 (.seq (.reg [⟨(some 17), .mov (.tmp 0), none⟩, ⟨(some 18), .lenL (.tmp 17), none⟩, ⟨(some 4), .mov (.tmp 18), none⟩])
 (.seq (.block 0 a91_L1)
 (.seq (.reg [⟨(some 96), .mov (.tmp 1), none⟩, ⟨(some 97), .conv .u32 (.tmp 96), none⟩, ⟨(some 12), .mov (.tmp 97), none⟩])
 (.seq (.seq (.reg [⟨(some 98), .mov (.tmp 4), none⟩, ⟨(some 99), .bin .geq (.tmp 98) (.val (.int .i64 4)), none⟩])
 (.cond (.tmp 99) (.seq (.reg [⟨(some 100), .mov (.tmp 12), none⟩, ⟨(some 101), .bin .rem (.tmp 100) (.val (.int .u32 10000)), none⟩, ⟨(some 13), .mov (.tmp 101), none⟩])
 (.seq (.reg [⟨(some 102), .mov (.tmp 12), none⟩, ⟨(some 103), .bin .quo (.tmp 102) (.val (.int .u32 10000)), none⟩, ⟨(some 12), .mov (.tmp 103), none⟩])
 (.seq (.reg [⟨(some 104), .mov (.tmp 13), none⟩, ⟨(some 105), .bin .quo (.tmp 104) (.val (.int .u32 100)), none⟩, ⟨(some 106), .bin .mul (.tmp 105) (.val (.int .u32 2)), none⟩, ⟨(some 107), .mov (.tmp 13), none⟩, ⟨(some 108), .bin .rem (.tmp 107) (.val (.int .u32 100)), none⟩, ⟨(some 109), .bin .mul (.tmp 108) (.val (.int .u32 2)), none⟩, ⟨(some 14), .mov (.tmp 106), none⟩, ⟨(some 15), .mov (.tmp 109), none⟩])
 (.seq (.dreg [(false, ⟨(some 110), .mov (.tmp 0), none⟩, false), (false, ⟨(some 111), .mov (.tmp 4), none⟩, false), (false, ⟨(some 112), .bin .sub (.tmp 111) (.val (.int .i64 1)), none⟩, false), (false, ⟨(some 113), .mov (.tmp 0), none⟩, false), (false, ⟨(some 114), .mov (.tmp 4), none⟩, false), (false, ⟨(some 115), .bin .sub (.tmp 114) (.val (.int .i64 2)), none⟩, false), (false, ⟨(some 116), .mov (.tmp 15), none⟩, false), (false, ⟨(some 117), .bin .add (.tmp 116) (.val (.int .u32 1)), none⟩, false), (false, ⟨(some 118), .idxS (.val (.str ⟨#[48, 48, 48, 49, 48, 50, 48, 51, 48, 52, 48, 53, 48, 54, 48, 55, 48, 56, 48, 57, 49, 48, 49, 49, 49, 50, 49, 51, 49, 52, 49, 53, 49, 54, 49, 55, 49, 56, 49, 57, 50, 48, 50, 49, 50, 50, 50, 51, 50, 52, 50, 53, 50, 54, 50, 55, 50, 56, 50, 57, 51, 48, 51, 49, 51, 50, 51, 51, 51, 52, 51, 53, 51, 54, 51, 55, 51, 56, 51, 57, 52, 48, 52, 49, 52, 50, 52, 51, 52, 52, 52, 53, 52, 54, 52, 55, 52, 56, 52, 57, 53, 48, 53, 49, 53, 50, 53, 51, 53, 52, 53, 53, 53, 54, 53, 55, 53, 56, 53, 57, 54, 48, 54, 49, 54, 50, 54, 51, 54, 52, 54, 53, 54, 54, 54, 55, 54, 56, 54, 57, 55, 48, 55, 49, 55, 50, 55, 51, 55, 52, 55, 53, 55, 54, 55, 55, 55, 56, 55, 57, 56, 48, 56, 49, 56, 50, 56, 51, 56, 52, 56, 53, 56, 54, 56, 55, 56, 56, 56, 57, 57, 48, 57, 49, 57, 50, 57, 51, 57, 52, 57, 53, 57, 54, 57, 55, 57, 56, 57, 57]⟩)) (.tmp 117), none⟩, false), (false, ⟨(some 119), .mov (.tmp 15), none⟩, false), (false, ⟨(some 120), .idxS (.val (.str ⟨#[48, 48, 48, 49, 48, 50, 48, 51, 48, 52, 48, 53, 48, 54, 48, 55, 48, 56, 48, 57, 49, 48, 49, 49, 49, 50, 49, 51, 49, 52, 49, 53, 49, 54, 49, 55, 49, 56, 49, 57, 50, 48, 50, 49, 50, 50, 50, 51, 50, 52, 50, 53, 50, 54, 50, 55, 50, 56, 50, 57, 51, 48, 51, 49, 51, 50, 51, 51, 51, 52, 51, 53, 51, 54, 51, 55, 51, 56, 51, 57, 52, 48, 52, 49, 52, 50, 52, 51, 52, 52, 52, 53, 52, 54, 52, 55, 52, 56, 52, 57, 53, 48, 53, 49, 53, 50, 53, 51, 53, 52, 53, 53, 53, 54, 53, 55, 53, 56, 53, 57, 54, 48, 54, 49, 54, 50, 54, 51, 54, 52, 54, 53, 54, 54, 54, 55, 54, 56, 54, 57, 55, 48, 55, 49, 55, 50, 55, 51, 55, 52, 55, 53, 55, 54, 55, 55, 55, 56, 55, 57, 56, 48, 56, 49, 56, 50, 56, 51, 56, 52, 56, 53, 56, 54, 56, 55, 56, 56, 56, 57, 57, 48, 57, 49, 57, 50, 57, 51, 57, 52, 57, 53, 57, 54, 57, 55, 57, 56, 57, 57]⟩)) (.tmp 119), none⟩, false), (false, ⟨(some 121), .iaddrL 1 (.tmp 110) (.tmp 112), none⟩, false), (false, ⟨none, .store 1 (.tmp 121) (.tmp 118), none⟩, false), (false, ⟨(some 122), .iaddrL 1 (.tmp 113) (.tmp 115), none⟩, false), (false, ⟨none, .store 1 (.tmp 122) (.tmp 120), none⟩, false)])
 (.seq (.dreg [(false, ⟨(some 123), .mov (.tmp 0), none⟩, false), (false, ⟨(some 124), .mov (.tmp 4), none⟩, false), (false, ⟨(some 125), .bin .sub (.tmp 124) (.val (.int .i64 3)), none⟩, false), (false, ⟨(some 126), .mov (.tmp 0), none⟩, false), (false, ⟨(some 127), .mov (.tmp 4), none⟩, false), (false, ⟨(some 128), .bin .sub (.tmp 127) (.val (.int .i64 4)), none⟩, false), (false, ⟨(some 129), .mov (.tmp 14), none⟩, false), (false, ⟨(some 130), .bin .add (.tmp 129) (.val (.int .u32 1)), none⟩, false), (false, ⟨(some 131), .idxS (.val (.str ⟨#[48, 48, 48, 49, 48, 50, 48, 51, 48, 52, 48, 53, 48, 54, 48, 55, 48, 56, 48, 57, 49, 48, 49, 49, 49, 50, 49, 51, 49, 52, 49, 53, 49, 54, 49, 55, 49, 56, 49, 57, 50, 48, 50, 49, 50, 50, 50, 51, 50, 52, 50, 53, 50, 54, 50, 55, 50, 56, 50, 57, 51, 48, 51, 49, 51, 50, 51, 51, 51, 52, 51, 53, 51, 54, 51, 55, 51, 56, 51, 57, 52, 48, 52, 49, 52, 50, 52, 51, 52, 52, 52, 53, 52, 54, 52, 55, 52, 56, 52, 57, 53, 48, 53, 49, 53, 50, 53, 51, 53, 52, 53, 53, 53, 54, 53, 55, 53, 56, 53, 57, 54, 48, 54, 49, 54, 50, 54, 51, 54, 52, 54, 53, 54, 54, 54, 55, 54, 56, 54, 57, 55, 48, 55, 49, 55, 50, 55, 51, 55, 52, 55, 53, 55, 54, 55, 55, 55, 56, 55, 57, 56, 48, 56, 49, 56, 50, 56, 51, 56, 52, 56, 53, 56, 54, 56, 55, 56, 56, 56, 57, 57, 48, 57, 49, 57, 50, 57, 51, 57, 52, 57, 53, 57, 54, 57, 55, 57, 56, 57, 57]⟩)) (.tmp 130), none⟩, false), (false, ⟨(some 132), .mov (.tmp 14), none⟩, false), (false, ⟨(some 133), .idxS (.val (.str ⟨#[48, 48, 48, 49, 48, 50, 48, 51, 48, 52, 48, 53, 48, 54, 48, 55, 48, 56, 48, 57, 49, 48, 49, 49, 49, 50, 49, 51, 49, 52, 49, 53, 49, 54, 49, 55, 49, 56, 49, 57, 50, 48, 50, 49, 50, 50, 50, 51, 50, 52, 50, 53, 50, 54, 50, 55, 50, 56, 50, 57, 51, 48, 51, 49, 51, 50, 51, 51, 51, 52, 51, 53, 51, 54, 51, 55, 51, 56, 51, 57, 52, 48, 52, 49, 52, 50, 52, 51, 52, 52, 52, 53, 52, 54, 52, 55, 52, 56, 52, 57, 53, 48, 53, 49, 53, 50, 53, 51, 53, 52, 53, 53, 53, 54, 53, 55, 53, 56, 53, 57, 54, 48, 54, 49, 54, 50, 54, 51, 54, 52, 54, 53, 54, 54, 54, 55, 54, 56, 54, 57, 55, 48, 55, 49, 55, 50, 55, 51, 55, 52, 55, 53, 55, 54, 55, 55, 55, 56, 55, 57, 56, 48, 56, 49, 56, 50, 56, 51, 56, 52, 56, 53, 56, 54, 56, 55, 56, 56, 56, 57, 57, 48, 57, 49, 57, 50, 57, 51, 57, 52, 57, 53, 57, 54, 57, 55, 57, 56, 57, 57]⟩)) (.tmp 132), none⟩, false), (false, ⟨(some 134), .iaddrL 1 (.tmp 123) (.tmp 125), none⟩, false), (false, ⟨none, .store 1 (.tmp 134) (.tmp 131), none⟩, false), (false, ⟨(some 135), .iaddrL 1 (.tmp 126) (.tmp 128), none⟩, false), (false, ⟨none, .store 1 (.tmp 135) (.tmp 133), none⟩, false)])
 (.reg [⟨(some 136), .mov (.tmp 4), none⟩, ⟨(some 137), .bin .sub (.tmp 136) (.val (.int .i64 4)), none⟩, ⟨(some 4), .mov (.tmp 137), none⟩])))))) .skip))
 (.seq (.seq (.reg [⟨(some 138), .mov (.tmp 4), none⟩, ⟨(some 139), .bin .geq (.tmp 138) (.val (.int .i64 2)), none⟩])
 (.cond (.tmp 139) (.seq (.reg [⟨(some 140), .mov (.tmp 12), none⟩, ⟨(some 141), .bin .rem (.tmp 140) (.val (.int .u32 100)), none⟩, ⟨(some 142), .bin .mul (.tmp 141) (.val (.int .u32 2)), none⟩, ⟨(some 16), .mov (.tmp 142), none⟩])
 (.seq (.reg [⟨(some 143), .mov (.tmp 12), none⟩, ⟨(some 144), .bin .quo (.tmp 143) (.val (.int .u32 100)), none⟩, ⟨(some 12), .mov (.tmp 144), none⟩])
 (.seq (.dreg [(false, ⟨(some 145), .mov (.tmp 0), none⟩, false), (false, ⟨(some 146), .mov (.tmp 4), none⟩, false), (false, ⟨(some 147), .bin .sub (.tmp 146) (.val (.int .i64 1)), none⟩, false), (false, ⟨(some 148), .mov (.tmp 0), none⟩, false), (false, ⟨(some 149), .mov (.tmp 4), none⟩, false), (false, ⟨(some 150), .bin .sub (.tmp 149) (.val (.int .i64 2)), none⟩, false), (false, ⟨(some 151), .mov (.tmp 16), none⟩, false), (false, ⟨(some 152), .bin .add (.tmp 151) (.val (.int .u32 1)), none⟩, false), (false, ⟨(some 153), .idxS (.val (.str ⟨#[48, 48, 48, 49, 48, 50, 48, 51, 48, 52, 48, 53, 48, 54, 48, 55, 48, 56, 48, 57, 49, 48, 49, 49, 49, 50, 49, 51, 49, 52, 49, 53, 49, 54, 49, 55, 49, 56, 49, 57, 50, 48, 50, 49, 50, 50, 50, 51, 50, 52, 50, 53, 50, 54, 50, 55, 50, 56, 50, 57, 51, 48, 51, 49, 51, 50, 51, 51, 51, 52, 51, 53, 51, 54, 51, 55, 51, 56, 51, 57, 52, 48, 52, 49, 52, 50, 52, 51, 52, 52, 52, 53, 52, 54, 52, 55, 52, 56, 52, 57, 53, 48, 53, 49, 53, 50, 53, 51, 53, 52, 53, 53, 53, 54, 53, 55, 53, 56, 53, 57, 54, 48, 54, 49, 54, 50, 54, 51, 54, 52, 54, 53, 54, 54, 54, 55, 54, 56, 54, 57, 55, 48, 55, 49, 55, 50, 55, 51, 55, 52, 55, 53, 55, 54, 55, 55, 55, 56, 55, 57, 56, 48, 56, 49, 56, 50, 56, 51, 56, 52, 56, 53, 56, 54, 56, 55, 56, 56, 56, 57, 57, 48, 57, 49, 57, 50, 57, 51, 57, 52, 57, 53, 57, 54, 57, 55, 57, 56, 57, 57]⟩)) (.tmp 152), none⟩, false), (false, ⟨(some 154), .mov (.tmp 16), none⟩, false), (false, ⟨(some 155), .idxS (.val (.str ⟨#[48, 48, 48, 49, 48, 50, 48, 51, 48, 52, 48, 53, 48, 54, 48, 55, 48, 56, 48, 57, 49, 48, 49, 49, 49, 50, 49, 51, 49, 52, 49, 53, 49, 54, 49, 55, 49, 56, 49, 57, 50, 48, 50, 49, 50, 50, 50, 51, 50, 52, 50, 53, 50, 54, 50, 55, 50, 56, 50, 57, 51, 48, 51, 49, 51, 50, 51, 51, 51, 52, 51, 53, 51, 54, 51, 55, 51, 56, 51, 57, 52, 48, 52, 49, 52, 50, 52, 51, 52, 52, 52, 53, 52, 54, 52, 55, 52, 56, 52, 57, 53, 48, 53, 49, 53, 50, 53, 51, 53, 52, 53, 53, 53, 54, 53, 55, 53, 56, 53, 57, 54, 48, 54, 49, 54, 50, 54, 51, 54, 52, 54, 53, 54, 54, 54, 55, 54, 56, 54, 57, 55, 48, 55, 49, 55, 50, 55, 51, 55, 52, 55, 53, 55, 54, 55, 55, 55, 56, 55, 57, 56, 48, 56, 49, 56, 50, 56, 51, 56, 52, 56, 53, 56, 54, 56, 55, 56, 56, 56, 57, 57, 48, 57, 49, 57, 50, 57, 51, 57, 52, 57, 53, 57, 54, 57, 55, 57, 56, 57, 57]⟩)) (.tmp 154), none⟩, false), (false, ⟨(some 156), .iaddrL 1 (.tmp 145) (.tmp 147), none⟩, false), (false, ⟨none, .store 1 (.tmp 156) (.tmp 153), none⟩, false), (false, ⟨(some 157), .iaddrL 1 (.tmp 148) (.tmp 150), none⟩, false), (false, ⟨none, .store 1 (.tmp 157) (.tmp 155), none⟩, false)])
 (.reg [⟨(some 158), .mov (.tmp 4), none⟩, ⟨(some 159), .bin .sub (.tmp 158) (.val (.int .i64 2)), none⟩, ⟨(some 4), .mov (.tmp 159), none⟩])))) .skip))
 (.seq (.reg [⟨(some 160), .mov (.tmp 4), none⟩, ⟨(some 161), .bin .gtr (.tmp 160) (.val (.int .i64 0)), none⟩])
 (.cond (.tmp 161) (.reg [⟨(some 162), .mov (.tmp 0), none⟩, ⟨(some 163), .mov (.tmp 12), none⟩, ⟨(some 164), .bin .add (.val (.int .u32 48)) (.tmp 163), none⟩, ⟨(some 165), .conv .u8 (.tmp 164), none⟩, ⟨(some 166), .iaddrL 1 (.tmp 162) (.val (.int .i64 0)), none⟩, ⟨none, .store 1 (.tmp 166) (.tmp 165), none⟩]) .skip))))))) }
def h92 : Hints := ⟨[], [], []⟩
def a92_B1 : AC := (.seq (.seq (.reg [⟨(some 66), .mov (.tmp 1), none⟩, ⟨(some 67), .mov (.tmp 17), none⟩, ⟨(some 68), .bin .geq (.tmp 66) (.tmp 67), none⟩])
 (.cond (.tmp 68) .skip (.exit 2)))
 (.block 3 (.seq (.reg [⟨(some 69), .mov (.tmp 13), none⟩, ⟨(some 70), .bin .sub (.tmp 69) (.val (.int .i64 1)), none⟩, ⟨(some 13), .mov (.tmp 70), none⟩])
 (.seq (.reg [⟨(some 71), .mov (.tmp 1), none⟩, ⟨(some 72), .mov (.tmp 17), none⟩, ⟨(some 73), .bin .quo (.tmp 71) (.tmp 72), none⟩, ⟨(some 18), .mov (.tmp 73), none⟩])
 (.seq (.reg [⟨(some 74), .mov (.tmp 13), none⟩, ⟨(some 75), .mov (.tmp 1), none⟩, ⟨(some 76), .mov (.tmp 18), none⟩, ⟨(some 77), .mov (.tmp 17), none⟩, ⟨(some 78), .bin .mul (.tmp 76) (.tmp 77), none⟩, ⟨(some 79), .bin .sub (.tmp 75) (.tmp 78), none⟩, ⟨(some 80), .idxS (.val (.str ⟨#[48, 49, 50, 51, 52, 53, 54, 55, 56, 57, 97, 98, 99, 100, 101, 102, 103, 104, 105, 106, 107, 108, 109, 110, 111, 112, 113, 114, 115, 116, 117, 118, 119, 120, 121, 122]⟩)) (.tmp 79), none⟩, ⟨(some 81), .iaddrA 65 1 (.tmp 12) (.tmp 74), none⟩, ⟨none, .store 1 (.tmp 81) (.tmp 80), none⟩])
 (.reg [⟨(some 82), .mov (.tmp 18), none⟩, ⟨(some 1), .mov (.tmp 82), none⟩]))))))
def a92_L1 : AC := .loop a92_B1
theorem a92_L1_step (call : Caller) (again : AC → St → Option (Ex × St)) (s : St) : codeEv call again a92_L1 s = match codeEv call again a92_B1 s with | some (.norm, s1) => again a92_L1 s1 | r => r := rfl
def a92_B2 : AC := (.seq (.seq (.reg [⟨(some 44), .mov (.tmp 1), none⟩, ⟨(some 45), .mov (.tmp 15), none⟩, ⟨(some 46), .bin .geq (.tmp 44) (.tmp 45), none⟩])
 (.cond (.tmp 46) .skip (.exit 0)))
 (.block 1 (.seq (.reg [⟨(some 47), .mov (.tmp 13), none⟩, ⟨(some 48), .bin .sub (.tmp 47) (.val (.int .i64 1)), none⟩, ⟨(some 13), .mov (.tmp 48), none⟩])
 (.seq (.reg [⟨(some 49), .mov (.tmp 13), none⟩, ⟨(some 50), .mov (.tmp 1), none⟩, ⟨(some 51), .mov (.tmp 16), none⟩, ⟨(some 52), .bin .and (.tmp 50) (.tmp 51), none⟩, ⟨(some 53), .idxS (.val (.str ⟨#[48, 49, 50, 51, 52, 53, 54, 55, 56, 57, 97, 98, 99, 100, 101, 102, 103, 104, 105, 106, 107, 108, 109, 110, 111, 112, 113, 114, 115, 116, 117, 118, 119, 120, 121, 122]⟩)) (.tmp 52), none⟩, ⟨(some 54), .iaddrA 65 1 (.tmp 12) (.tmp 49), none⟩, ⟨none, .store 1 (.tmp 54) (.tmp 53), none⟩])
 (.reg [⟨(some 55), .mov (.tmp 1), none⟩, ⟨(some 56), .mov (.tmp 14), none⟩, ⟨(some 57), .bin .shr (.tmp 55) (.tmp 56), none⟩, ⟨(some 1), .mov (.tmp 57), none⟩])))))
def a92_L2 : AC := .loop a92_B2
theorem a92_L2_step (call : Caller) (again : AC → St → Option (Ex × St)) (s : St) : codeEv call again a92_L2 s = match codeEv call again a92_B2 s with | some (.norm, s1) => again a92_L2 s1 | r => r := rfl
def a92 : AFn := { n := 102, np := 5, res := [.tmp 10, .tmp 11], body :=
 (.seq (.reg [⟨(some 10), .mov (.val .nils), none⟩, ⟨(some 11), .mov (.val (.str ⟨#[]⟩)), none⟩])
 (.seq (.seq (.reg [⟨(some 19), .mov (.tmp 2), none⟩, ⟨(some 20), .bin .lss (.tmp 19) (.val (.int .i64 2)), none⟩, ⟨(some 21), .mov (.tmp 20), none⟩, ⟨(some 22), .mov (.tmp 2), (some (21, false))⟩, ⟨(some 23), .bin .eql (.tmp 22) (.val (.int .i64 10)), (some (21, false))⟩, ⟨(some 24), .pick (.tmp 21) (.val (.bool true)) (.tmp 23), none⟩, ⟨(some 25), .mov (.tmp 24), none⟩, ⟨(some 26), .mov (.tmp 2), (some (25, false))⟩, ⟨(some 27), .bin .gtr (.tmp 26) (.val (.int .i64 36)), (some (25, false))⟩, ⟨(some 28), .pick (.tmp 25) (.val (.bool true)) (.tmp 27), none⟩])
 (.cond (.tmp 28) (.reg [⟨(some 29), .xp (.mkif 9) [(.val (.str ⟨#[115, 116, 114, 99, 111, 110, 118, 58, 32, 105, 108, 108, 101, 103, 97, 108, 32, 65, 112, 112, 101, 110, 100, 73, 110, 116, 47, 70, 111, 114, 109, 97, 116, 73, 110, 116, 32, 98, 97, 115, 101]⟩))], none⟩, ⟨none, .bad, none⟩]) .skip))
 (.seq (.reg [⟨(some 12), .alloc none [(.int .u8 0), (.int .u8 0), (.int .u8 0), (.int .u8 0), (.int .u8 0), (.int .u8 0), (.int .u8 0), (.int .u8 0), (.int .u8 0), (.int .u8 0), (.int .u8 0), (.int .u8 0), (.int .u8 0), (.int .u8 0), (.int .u8 0), (.int .u8 0), (.int .u8 0), (.int .u8 0), (.int .u8 0), (.int .u8 0), (.int .u8 0), (.int .u8 0), (.int .u8 0), (.int .u8 0), (.int .u8 0), (.int .u8 0), (.int .u8 0), (.int .u8 0), (.int .u8 0), (.int .u8 0), (.int .u8 0), (.int .u8 0), (.int .u8 0), (.int .u8 0), (.int .u8 0), (.int .u8 0), (.int .u8 0), (.int .u8 0), (.int .u8 0), (.int .u8 0), (.int .u8 0), (.int .u8 0), (.int .u8 0), (.int .u8 0), (.int .u8 0), (.int .u8 0), (.int .u8 0), (.int .u8 0), (.int .u8 0), (.int .u8 0), (.int .u8 0), (.int .u8 0), (.int .u8 0), (.int .u8 0), (.int .u8 0), (.int .u8 0), (.int .u8 0), (.int .u8 0), (.int .u8 0), (.int .u8 0), (.int .u8 0), (.int .u8 0), (.int .u8 0), (.int .u8 0), (.int .u8 0)], none⟩])
 (.seq (.reg [⟨(some 13), .mov (.val (.int .i64 65)), none⟩])
 (.seq (.seq (.reg [⟨(some 30), .mov (.tmp 3), none⟩])
 (.cond (.tmp 30) (.reg [⟨(some 31), .mov (.tmp 1), none⟩, ⟨(some 32), .un .neg (.tmp 31), none⟩, ⟨(some 1), .mov (.tmp 32), none⟩]) .skip))
 (.seq (.seq (.reg [⟨(some 33), .mov (.tmp 2), none⟩, ⟨(some 34), .call 113 [(.tmp 33)], none⟩])
 (.cond (.tmp 34) (.seq (.reg [⟨(some 35), .mov (.tmp 2), none⟩, ⟨(some 36), .conv .u64 (.tmp 35), none⟩, ⟨(some 37), .call 114 [(.tmp 36)], none⟩, ⟨(some 38), .conv .u64 (.tmp 37), none⟩, ⟨(some 14), .mov (.tmp 38), none⟩])
 (.seq (.reg [⟨(some 39), .mov (.tmp 2), none⟩, ⟨(some 40), .conv .u64 (.tmp 39), none⟩, ⟨(some 15), .mov (.tmp 40), none⟩])
 (.seq (.reg [⟨(some 41), .mov (.tmp 2), none⟩, ⟨(some 42), .conv .u64 (.tmp 41), none⟩, ⟨(some 43), .bin .sub (.tmp 42) (.val (.int .u64 1)), none⟩, ⟨(some 16), .mov (.tmp 43), none⟩])
 (.seq (.block 0 a92_L2)
 (.seq (.reg [⟨(some 58), .mov (.tmp 13), none⟩, ⟨(some 59), .bin .sub (.tmp 58) (.val (.int .i64 1)), none⟩, ⟨(some 13), .mov (.tmp 59), none⟩])
 (.reg [⟨(some 60), .mov (.tmp 13), none⟩, ⟨(some 61), .mov (.tmp 1), none⟩, ⟨(some 62), .idxS (.val (.str ⟨#[48, 49, 50, 51, 52, 53, 54, 55, 56, 57, 97, 98, 99, 100, 101, 102, 103, 104, 105, 106, 107, 108, 109, 110, 111, 112, 113, 114, 115, 116, 117, 118, 119, 120, 121, 122]⟩)) (.tmp 61), none⟩, ⟨(some 63), .iaddrA 65 1 (.tmp 12) (.tmp 60), none⟩, ⟨none, .store 1 (.tmp 63) (.tmp 62), none⟩])))))) (.seq (.reg [⟨(some 64), .mov (.tmp 2), none⟩, ⟨(some 65), .conv .u64 (.tmp 64), none⟩, ⟨(some 17), .mov (.tmp 65), none⟩])
 (.seq (.block 2 a92_L1)
 (.seq (.reg [⟨(some 83), .mov (.tmp 13), none⟩, ⟨(some 84), .bin .sub (.tmp 83) (.val (.int .i64 1)), none⟩, ⟨(some 13), .mov (.tmp 84), none⟩])
 (.reg [⟨(some 85), .mov (.tmp 13), none⟩, ⟨(some 86), .mov (.tmp 1), none⟩, ⟨(some 87), .idxS (.val (.str ⟨#[48, 49, 50, 51, 52, 53, 54, 55, 56, 57, 97, 98, 99, 100, 101, 102, 103, 104, 105, 106, 107, 108, 109, 110, 111, 112, 113, 114, 115, 116, 117, 118, 119, 120, 121, 122]⟩)) (.tmp 86), none⟩, ⟨(some 88), .iaddrA 65 1 (.tmp 12) (.tmp 85), none⟩, ⟨none, .store 1 (.tmp 88) (.tmp 87), none⟩]))))))
 (.seq (.seq (.reg [⟨(some 89), .mov (.tmp 3), none⟩])
 (.cond (.tmp 89) (.seq (.reg [⟨(some 90), .mov (.tmp 13), none⟩, ⟨(some 91), .bin .sub (.tmp 90) (.val (.int .i64 1)), none⟩, ⟨(some 13), .mov (.tmp 91), none⟩])
 (.reg [⟨(some 92), .mov (.tmp 13), none⟩, ⟨(some 93), .iaddrA 65 1 (.tmp 12) (.tmp 92), none⟩, ⟨none, .store 1 (.tmp 93) (.val (.int .u8 45)), none⟩])) .skip))
 (.seq (.seq (.reg [⟨(some 94), .mov (.tmp 4), none⟩])
 (.cond (.tmp 94) (.seq (.reg [⟨(some 95), .mov (.tmp 0), none⟩, ⟨(some 96), .mov (.tmp 13), none⟩, ⟨(some 97), .slcA 65 1 (.tmp 12) (some (.tmp 96)) none none, none⟩, ⟨(some 98), .app (some 5) 1 1 (.tmp 95) (.tmp 97), none⟩, ⟨(some 10), .mov (.tmp 98), none⟩])
 .ret) .skip))
 (.seq (.reg [⟨(some 99), .mov (.tmp 13), none⟩, ⟨(some 100), .slcA 65 1 (.tmp 12) (some (.tmp 99)) none none, none⟩, ⟨(some 101), .xm (.b2s) [(.tmp 100)], none⟩, ⟨(some 11), .mov (.tmp 101), none⟩])
 .ret))))))))) }
def h100 : Hints := ⟨[], [], []⟩
def a100_B1 : AC := (.seq (.seq (.dreg [(false, ⟨(some 16), .mov (.tmp 7), none⟩, false), (false, ⟨(some 17), .mov (.tmp 1), none⟩, false), (false, ⟨(some 18), .bin .gtr (.tmp 16) (.tmp 17), none⟩, false), (false, ⟨(some 19), .mov (.tmp 18), none⟩, false), (false, ⟨(some 20), .mov (.tmp 0), (some (19, true))⟩, false), (false, ⟨(some 21), .mov (.tmp 7), (some (19, true))⟩, false), (false, ⟨(some 22), .iaddrL 1 (.tmp 20) (.tmp 21), (some (19, true))⟩, false), (false, ⟨(some 23), .load none (.tmp 22), (some (19, true))⟩, false), (false, ⟨(some 24), .mov (.tmp 0), (some (19, true))⟩, false), (false, ⟨(some 25), .mov (.tmp 7), (some (19, true))⟩, false), (false, ⟨(some 26), .bin .sub (.tmp 25) (.val (.int .i64 1)), (some (19, true))⟩, false), (false, ⟨(some 27), .iaddrL 1 (.tmp 24) (.tmp 26), (some (19, true))⟩, false), (false, ⟨(some 28), .load none (.tmp 27), (some (19, true))⟩, false), (false, ⟨(some 29), .call 106 [(.tmp 23), (.tmp 28)], (some (19, true))⟩, false), (false, ⟨(some 30), .pick (.tmp 19) (.tmp 29) (.val (.bool false)), none⟩, false)])
 (.cond (.tmp 30) .skip (.exit 2)))
 (.seq (.block 3 (.dreg [(false, ⟨(some 33), .mov (.tmp 0), none⟩, false), (false, ⟨(some 34), .mov (.tmp 7), none⟩, false), (false, ⟨(some 35), .mov (.tmp 0), none⟩, false), (false, ⟨(some 36), .mov (.tmp 7), none⟩, false), (false, ⟨(some 37), .bin .sub (.tmp 36) (.val (.int .i64 1)), none⟩, false), (false, ⟨(some 38), .mov (.tmp 0), none⟩, false), (false, ⟨(some 39), .mov (.tmp 7), none⟩, false), (false, ⟨(some 40), .bin .sub (.tmp 39) (.val (.int .i64 1)), none⟩, false), (false, ⟨(some 41), .iaddrL 1 (.tmp 38) (.tmp 40), none⟩, false), (false, ⟨(some 42), .load none (.tmp 41), none⟩, false), (false, ⟨(some 43), .mov (.tmp 0), none⟩, false), (false, ⟨(some 44), .mov (.tmp 7), none⟩, false), (false, ⟨(some 45), .iaddrL 1 (.tmp 43) (.tmp 44), none⟩, false), (false, ⟨(some 46), .load none (.tmp 45), none⟩, false), (false, ⟨(some 47), .iaddrL 1 (.tmp 33) (.tmp 34), none⟩, false), (false, ⟨none, .store 1 (.tmp 47) (.tmp 42), none⟩, false), (false, ⟨(some 48), .iaddrL 1 (.tmp 35) (.tmp 37), none⟩, false), (false, ⟨none, .store 1 (.tmp 48) (.tmp 46), none⟩, false)]))
 (.reg [⟨(some 31), .mov (.tmp 7), none⟩, ⟨(some 32), .bin .sub (.tmp 31) (.val (.int .i64 1)), none⟩, ⟨(some 7), .mov (.tmp 32), none⟩])))
def a100_L1 : AC := .loop a100_B1
theorem a100_L1_step (call : Caller) (again : AC → St → Option (Ex × St)) (s : St) : codeEv call again a100_L1 s = match codeEv call again a100_B1 s with | some (.norm, s1) => again a100_L1 s1 | r => r := rfl
def a100_B2 : AC := (.seq (.seq (.reg [⟨(some 10), .mov (.tmp 6), none⟩, ⟨(some 11), .mov (.tmp 2), none⟩, ⟨(some 12), .bin .lss (.tmp 10) (.tmp 11), none⟩])
 (.cond (.tmp 12) .skip (.exit 0)))
 (.seq (.block 1 (.seq (.reg [⟨(some 15), .mov (.tmp 6), none⟩, ⟨(some 7), .mov (.tmp 15), none⟩])
 (.block 2 a100_L1)))
 (.reg [⟨(some 13), .mov (.tmp 6), none⟩, ⟨(some 14), .bin .add (.tmp 13) (.val (.int .i64 1)), none⟩, ⟨(some 6), .mov (.tmp 14), none⟩])))
def a100_L2 : AC := .loop a100_B2
theorem a100_L2_step (call : Caller) (again : AC → St → Option (Ex × St)) (s : St) : codeEv call again a100_L2 s = match codeEv call again a100_B2 s with | some (.norm, s1) => again a100_L2 s1 | r => r := rfl
def a100 : AFn := { n := 49, np := 3, res := [], body :=
 (.seq (.reg [⟨(some 8), .mov (.tmp 1), none⟩, ⟨(some 9), .bin .add (.tmp 8) (.val (.int .i64 1)), none⟩, ⟨(some 6), .mov (.tmp 9), none⟩])
 (.block 0 a100_L2)) }
def h101 : Hints := ⟨[], [], []⟩
def a101_B1 : AC := (.seq (.seq (.reg [⟨(some 29), .mov (.tmp 10), none⟩, ⟨(some 30), .bin .geq (.tmp 29) (.val (.int .i64 0)), none⟩])
 (.cond (.tmp 30) .skip (.exit 2)))
 (.seq (.block 3 (.seq (.dreg [(false, ⟨(some 33), .mov (.tmp 0), none⟩, false), (false, ⟨(some 34), .mov (.tmp 6), none⟩, false), (false, ⟨(some 35), .mov (.tmp 0), none⟩, false), (false, ⟨(some 36), .mov (.tmp 6), none⟩, false), (false, ⟨(some 37), .mov (.tmp 10), none⟩, false), (false, ⟨(some 38), .bin .add (.tmp 36) (.tmp 37), none⟩, false), (false, ⟨(some 39), .mov (.tmp 0), none⟩, false), (false, ⟨(some 40), .mov (.tmp 6), none⟩, false), (false, ⟨(some 41), .mov (.tmp 10), none⟩, false), (false, ⟨(some 42), .bin .add (.tmp 40) (.tmp 41), none⟩, false), (false, ⟨(some 43), .iaddrL 1 (.tmp 39) (.tmp 42), none⟩, false), (false, ⟨(some 44), .load none (.tmp 43), none⟩, false), (false, ⟨(some 45), .mov (.tmp 0), none⟩, false), (false, ⟨(some 46), .mov (.tmp 6), none⟩, false), (false, ⟨(some 47), .iaddrL 1 (.tmp 45) (.tmp 46), none⟩, false), (false, ⟨(some 48), .load none (.tmp 47), none⟩, false), (false, ⟨(some 49), .iaddrL 1 (.tmp 33) (.tmp 34), none⟩, false), (false, ⟨none, .store 1 (.tmp 49) (.tmp 44), none⟩, false), (false, ⟨(some 50), .iaddrL 1 (.tmp 35) (.tmp 38), none⟩, false), (false, ⟨none, .store 1 (.tmp 50) (.tmp 48), none⟩, false)])
 (.reg [⟨(some 51), .mov (.tmp 0), none⟩, ⟨(some 52), .mov (.tmp 7), none⟩, ⟨(some 53), .mov (.tmp 10), none⟩, ⟨(some 54), .mov (.tmp 6), none⟩, ⟨(some 55), .call 117 [(.tmp 51), (.tmp 52), (.tmp 53), (.tmp 54)], none⟩])))
 (.reg [⟨(some 31), .mov (.tmp 10), none⟩, ⟨(some 32), .bin .sub (.tmp 31) (.val (.int .i64 1)), none⟩, ⟨(some 10), .mov (.tmp 32), none⟩])))
def a101_L1 : AC := .loop a101_B1
theorem a101_L1_step (call : Caller) (again : AC → St → Option (Ex × St)) (s : St) : codeEv call again a101_L1 s = match codeEv call again a101_B1 s with | some (.norm, s1) => again a101_L1 s1 | r => r := rfl
def a101_B2 : AC := (.seq (.seq (.reg [⟨(some 18), .mov (.tmp 9), none⟩, ⟨(some 19), .bin .geq (.tmp 18) (.val (.int .i64 0)), none⟩])
 (.cond (.tmp 19) .skip (.exit 0)))
 (.seq (.block 1 (.reg [⟨(some 22), .mov (.tmp 0), none⟩, ⟨(some 23), .mov (.tmp 9), none⟩, ⟨(some 24), .mov (.tmp 8), none⟩, ⟨(some 25), .mov (.tmp 6), none⟩, ⟨(some 26), .call 117 [(.tmp 22), (.tmp 23), (.tmp 24), (.tmp 25)], none⟩]))
 (.reg [⟨(some 20), .mov (.tmp 9), none⟩, ⟨(some 21), .bin .sub (.tmp 20) (.val (.int .i64 1)), none⟩, ⟨(some 9), .mov (.tmp 21), none⟩])))
def a101_L2 : AC := .loop a101_B2
theorem a101_L2_step (call : Caller) (again : AC → St → Option (Ex × St)) (s : St) : codeEv call again a101_L2 s = match codeEv call again a101_B2 s with | some (.norm, s1) => again a101_L2 s1 | r => r := rfl
def a101 : AFn := { n := 56, np := 3, res := [], body :=
 (.seq (.reg [⟨(some 11), .mov (.tmp 1), none⟩, ⟨(some 6), .mov (.tmp 11), none⟩])
 (.seq (.reg [⟨(some 7), .mov (.val (.int .i64 0)), none⟩])
 (.seq (.reg [⟨(some 12), .mov (.tmp 2), none⟩, ⟨(some 13), .mov (.tmp 1), none⟩, ⟨(some 14), .bin .sub (.tmp 12) (.tmp 13), none⟩, ⟨(some 8), .mov (.tmp 14), none⟩])
 (.seq (.seq (.reg [⟨(some 15), .mov (.tmp 8), none⟩, ⟨(some 16), .bin .sub (.tmp 15) (.val (.int .i64 1)), none⟩, ⟨(some 17), .bin .quo (.tmp 16) (.val (.int .i64 2)), none⟩, ⟨(some 9), .mov (.tmp 17), none⟩])
 (.block 0 a101_L2))
 (.seq (.reg [⟨(some 27), .mov (.tmp 8), none⟩, ⟨(some 28), .bin .sub (.tmp 27) (.val (.int .i64 1)), none⟩, ⟨(some 10), .mov (.tmp 28), none⟩])
 (.block 2 a101_L1)))))) }
def h102 : Hints := ⟨[], [], []⟩
def a102_B1 : AC := (.seq (.seq (.reg [⟨(some 26), .mov (.tmp 9), none⟩, ⟨(some 27), .mov (.tmp 1), none⟩, ⟨(some 28), .mov (.tmp 6), none⟩, ⟨(some 29), .bin .quo (.tmp 28) (.val (.int .i64 4)), none⟩, ⟨(some 30), .bin .mul (.tmp 29) (.val (.int .i64 2)), none⟩, ⟨(some 31), .bin .add (.tmp 27) (.tmp 30), none⟩, ⟨(some 32), .bin .add (.tmp 31) (.val (.int .i64 1)), none⟩, ⟨(some 33), .bin .leq (.tmp 26) (.tmp 32), none⟩])
 (.cond (.tmp 33) .skip (.exit 0)))
 (.seq (.block 1 (.seq (.reg [⟨(some 36), .call 119 [(.tmp 7)], none⟩, ⟨(some 37), .mov (.tmp 8), none⟩, ⟨(some 38), .bin .sub (.tmp 37) (.val (.int .u64 1)), none⟩, ⟨(some 39), .bin .and (.tmp 36) (.tmp 38), none⟩, ⟨(some 40), .conv .i64 (.tmp 39), none⟩, ⟨(some 10), .mov (.tmp 40), none⟩])
 (.seq (.seq (.reg [⟨(some 41), .mov (.tmp 10), none⟩, ⟨(some 42), .mov (.tmp 6), none⟩, ⟨(some 43), .bin .geq (.tmp 41) (.tmp 42), none⟩])
 (.cond (.tmp 43) (.reg [⟨(some 44), .mov (.tmp 10), none⟩, ⟨(some 45), .mov (.tmp 6), none⟩, ⟨(some 46), .bin .sub (.tmp 44) (.tmp 45), none⟩, ⟨(some 10), .mov (.tmp 46), none⟩]) .skip))
 (.dreg [(false, ⟨(some 47), .mov (.tmp 0), none⟩, false), (false, ⟨(some 48), .mov (.tmp 9), none⟩, false), (false, ⟨(some 49), .mov (.tmp 0), none⟩, false), (false, ⟨(some 50), .mov (.tmp 1), none⟩, false), (false, ⟨(some 51), .mov (.tmp 10), none⟩, false), (false, ⟨(some 52), .bin .add (.tmp 50) (.tmp 51), none⟩, false), (false, ⟨(some 53), .mov (.tmp 0), none⟩, false), (false, ⟨(some 54), .mov (.tmp 1), none⟩, false), (false, ⟨(some 55), .mov (.tmp 10), none⟩, false), (false, ⟨(some 56), .bin .add (.tmp 54) (.tmp 55), none⟩, false), (false, ⟨(some 57), .iaddrL 1 (.tmp 53) (.tmp 56), none⟩, false), (false, ⟨(some 58), .load none (.tmp 57), none⟩, false), (false, ⟨(some 59), .mov (.tmp 0), none⟩, false), (false, ⟨(some 60), .mov (.tmp 9), none⟩, false), (false, ⟨(some 61), .iaddrL 1 (.tmp 59) (.tmp 60), none⟩, false), (false, ⟨(some 62), .load none (.tmp 61), none⟩, false), (false, ⟨(some 63), .iaddrL 1 (.tmp 47) (.tmp 48), none⟩, false), (false, ⟨none, .store 1 (.tmp 63) (.tmp 58), none⟩, false), (false, ⟨(some 64), .iaddrL 1 (.tmp 49) (.tmp 52), none⟩, false), (false, ⟨none, .store 1 (.tmp 64) (.tmp 62), none⟩, false)]))))
 (.reg [⟨(some 34), .mov (.tmp 9), none⟩, ⟨(some 35), .bin .add (.tmp 34) (.val (.int .i64 1)), none⟩, ⟨(some 9), .mov (.tmp 35), none⟩])))
def a102_L1 : AC := .loop a102_B1
theorem a102_L1_step (call : Caller) (again : AC → St → Option (Ex × St)) (s : St) : codeEv call again a102_L1 s = match codeEv call again a102_B1 s with | some (.norm, s1) => again a102_L1 s1 | r => r := rfl
def a102 : AFn := { n := 65, np := 3, res := [], body :=
 (.seq (.reg [⟨(some 11), .mov (.tmp 2), none⟩, ⟨(some 12), .mov (.tmp 1), none⟩, ⟨(some 13), .bin .sub (.tmp 11) (.tmp 12), none⟩, ⟨(some 6), .mov (.tmp 13), none⟩])
 (.seq (.reg [⟨(some 14), .mov (.tmp 6), none⟩, ⟨(some 15), .bin .geq (.tmp 14) (.val (.int .i64 8)), none⟩])
 (.cond (.tmp 15) (.seq (.reg [⟨(some 16), .mov (.tmp 6), none⟩, ⟨(some 17), .conv .u64 (.tmp 16), none⟩, ⟨(some 7), .alloc none [(.int .u64 0)], none⟩, ⟨none, .store 1 (.tmp 7) (.tmp 17), none⟩])
 (.seq (.reg [⟨(some 18), .mov (.tmp 6), none⟩, ⟨(some 19), .call 118 [(.tmp 18)], none⟩, ⟨(some 8), .mov (.tmp 19), none⟩])
 (.seq (.reg [⟨(some 20), .mov (.tmp 1), none⟩, ⟨(some 21), .mov (.tmp 6), none⟩, ⟨(some 22), .bin .quo (.tmp 21) (.val (.int .i64 4)), none⟩, ⟨(some 23), .bin .mul (.tmp 22) (.val (.int .i64 2)), none⟩, ⟨(some 24), .bin .add (.tmp 20) (.tmp 23), none⟩, ⟨(some 25), .bin .sub (.tmp 24) (.val (.int .i64 1)), none⟩, ⟨(some 9), .mov (.tmp 25), none⟩])
 (.block 0 a102_L1)))) .skip))) }
def h103 : Hints := ⟨[], [], []⟩
def a103 : AFn := { n := 57, np := 3, res := [.tmp 6, .tmp 7], body :=
 (.seq (.reg [⟨(some 6), .mov (.val (.int .i64 0)), none⟩, ⟨(some 7), .mov (.val (.int .i64 0)), none⟩])
 (.seq (.reg [⟨(some 13), .mov (.tmp 2), none⟩, ⟨(some 14), .mov (.tmp 1), none⟩, ⟨(some 15), .bin .sub (.tmp 13) (.tmp 14), none⟩, ⟨(some 8), .mov (.tmp 15), none⟩])
 (.seq (.reg [⟨(some 9), .alloc none [(.int .i64 0)], none⟩])
 (.seq (.reg [⟨(some 16), .mov (.tmp 1), none⟩, ⟨(some 17), .mov (.tmp 8), none⟩, ⟨(some 18), .bin .quo (.tmp 17) (.val (.int .i64 4)), none⟩, ⟨(some 19), .bin .mul (.tmp 18) (.val (.int .i64 1)), none⟩, ⟨(some 20), .bin .add (.tmp 16) (.tmp 19), none⟩, ⟨(some 10), .mov (.tmp 20), none⟩])
 (.seq (.reg [⟨(some 21), .mov (.tmp 1), none⟩, ⟨(some 22), .mov (.tmp 8), none⟩, ⟨(some 23), .bin .quo (.tmp 22) (.val (.int .i64 4)), none⟩, ⟨(some 24), .bin .mul (.tmp 23) (.val (.int .i64 2)), none⟩, ⟨(some 25), .bin .add (.tmp 21) (.tmp 24), none⟩, ⟨(some 11), .mov (.tmp 25), none⟩])
 (.seq (.reg [⟨(some 26), .mov (.tmp 1), none⟩, ⟨(some 27), .mov (.tmp 8), none⟩, ⟨(some 28), .bin .quo (.tmp 27) (.val (.int .i64 4)), none⟩, ⟨(some 29), .bin .mul (.tmp 28) (.val (.int .i64 3)), none⟩, ⟨(some 30), .bin .add (.tmp 26) (.tmp 29), none⟩, ⟨(some 12), .mov (.tmp 30), none⟩])
 (.seq (.seq (.reg [⟨(some 31), .mov (.tmp 8), none⟩, ⟨(some 32), .bin .geq (.tmp 31) (.val (.int .i64 8)), none⟩])
 (.cond (.tmp 32) (.seq (.seq (.reg [⟨(some 33), .mov (.tmp 8), none⟩, ⟨(some 34), .bin .geq (.tmp 33) (.val (.int .i64 50)), none⟩])
 (.cond (.tmp 34) (.seq (.reg [⟨(some 35), .mov (.tmp 0), none⟩, ⟨(some 36), .mov (.tmp 10), none⟩, ⟨(some 37), .call 120 [(.tmp 35), (.tmp 36), (.tmp 9)], none⟩, ⟨(some 10), .mov (.tmp 37), none⟩])
 (.seq (.reg [⟨(some 38), .mov (.tmp 0), none⟩, ⟨(some 39), .mov (.tmp 11), none⟩, ⟨(some 40), .call 120 [(.tmp 38), (.tmp 39), (.tmp 9)], none⟩, ⟨(some 11), .mov (.tmp 40), none⟩])
 (.reg [⟨(some 41), .mov (.tmp 0), none⟩, ⟨(some 42), .mov (.tmp 12), none⟩, ⟨(some 43), .call 120 [(.tmp 41), (.tmp 42), (.tmp 9)], none⟩, ⟨(some 12), .mov (.tmp 43), none⟩]))) .skip))
 (.reg [⟨(some 44), .mov (.tmp 0), none⟩, ⟨(some 45), .mov (.tmp 10), none⟩, ⟨(some 46), .mov (.tmp 11), none⟩, ⟨(some 47), .mov (.tmp 12), none⟩, ⟨(some 48), .call 121 [(.tmp 44), (.tmp 45), (.tmp 46), (.tmp 47), (.tmp 9)], none⟩, ⟨(some 11), .mov (.tmp 48), none⟩])) .skip))
 (.seq (.reg [⟨(some 49), .load none (.tmp 9), none⟩])
 (.block 0 (.seq (.reg [⟨(some 52), .bin .eql (.tmp 49) (.val (.int .i64 0)), none⟩, ⟨(some 51), .mov (.tmp 52), none⟩])
 (.cond (.tmp 51) (.seq (.reg [⟨(some 53), .mov (.tmp 11), none⟩, ⟨(some 6), .mov (.tmp 53), none⟩, ⟨(some 7), .mov (.val (.int .i64 1)), none⟩])
 .ret) (.seq (.reg [⟨(some 55), .bin .eql (.tmp 49) (.val (.int .i64 12)), none⟩, ⟨(some 54), .mov (.tmp 55), none⟩])
 (.cond (.tmp 54) (.seq (.reg [⟨(some 56), .mov (.tmp 11), none⟩, ⟨(some 6), .mov (.tmp 56), none⟩, ⟨(some 7), .mov (.val (.int .i64 2)), none⟩])
 .ret) (.seq (.reg [⟨(some 50), .mov (.tmp 11), none⟩, ⟨(some 6), .mov (.tmp 50), none⟩, ⟨(some 7), .mov (.val (.int .i64 0)), none⟩])
 .ret)))))))))))))) }
def h104 : Hints := ⟨[], [], []⟩
def a104_B1 : AC := (.seq (.seq (.reg [⟨(some 11), .mov (.tmp 6), none⟩, ⟨(some 12), .mov (.tmp 7), none⟩, ⟨(some 13), .bin .lss (.tmp 11) (.tmp 12), none⟩])
 (.cond (.tmp 13) .skip (.exit 0)))
 (.block 1 (.seq (.dreg [(false, ⟨(some 14), .mov (.tmp 0), none⟩, false), (false, ⟨(some 15), .mov (.tmp 6), none⟩, false), (false, ⟨(some 16), .mov (.tmp 0), none⟩, false), (false, ⟨(some 17), .mov (.tmp 7), none⟩, false), (false, ⟨(some 18), .mov (.tmp 0), none⟩, false), (false, ⟨(some 19), .mov (.tmp 7), none⟩, false), (false, ⟨(some 20), .iaddrL 1 (.tmp 18) (.tmp 19), none⟩, false), (false, ⟨(some 21), .load none (.tmp 20), none⟩, false), (false, ⟨(some 22), .mov (.tmp 0), none⟩, false), (false, ⟨(some 23), .mov (.tmp 6), none⟩, false), (false, ⟨(some 24), .iaddrL 1 (.tmp 22) (.tmp 23), none⟩, false), (false, ⟨(some 25), .load none (.tmp 24), none⟩, false), (false, ⟨(some 26), .iaddrL 1 (.tmp 14) (.tmp 15), none⟩, false), (false, ⟨none, .store 1 (.tmp 26) (.tmp 21), none⟩, false), (false, ⟨(some 27), .iaddrL 1 (.tmp 16) (.tmp 17), none⟩, false), (false, ⟨none, .store 1 (.tmp 27) (.tmp 25), none⟩, false)])
 (.seq (.reg [⟨(some 28), .mov (.tmp 6), none⟩, ⟨(some 29), .bin .add (.tmp 28) (.val (.int .i64 1)), none⟩, ⟨(some 6), .mov (.tmp 29), none⟩])
 (.reg [⟨(some 30), .mov (.tmp 7), none⟩, ⟨(some 31), .bin .sub (.tmp 30) (.val (.int .i64 1)), none⟩, ⟨(some 7), .mov (.tmp 31), none⟩])))))
def a104_L1 : AC := .loop a104_B1
theorem a104_L1_step (call : Caller) (again : AC → St → Option (Ex × St)) (s : St) : codeEv call again a104_L1 s = match codeEv call again a104_B1 s with | some (.norm, s1) => again a104_L1 s1 | r => r := rfl
def a104 : AFn := { n := 32, np := 3, res := [], body :=
 (.seq (.reg [⟨(some 8), .mov (.tmp 1), none⟩, ⟨(some 6), .mov (.tmp 8), none⟩])
 (.seq (.reg [⟨(some 9), .mov (.tmp 2), none⟩, ⟨(some 10), .bin .sub (.tmp 9) (.val (.int .i64 1)), none⟩, ⟨(some 7), .mov (.tmp 10), none⟩])
 (.block 0 a104_L1))) }
def h105 : Hints := ⟨[], [], []⟩
def a105_B1 : AC := (.seq (.seq (.reg [⟨(some 101), .mov (.tmp 10), none⟩, ⟨(some 102), .mov (.tmp 2), none⟩, ⟨(some 103), .bin .lss (.tmp 101) (.tmp 102), none⟩])
 (.cond (.tmp 103) .skip (.exit 6)))
 (.seq (.block 7 (.seq (.seq (.dreg [(false, ⟨(some 106), .mov (.tmp 0), none⟩, false), (false, ⟨(some 107), .mov (.tmp 10), none⟩, false), (false, ⟨(some 108), .iaddrL 1 (.tmp 106) (.tmp 107), none⟩, false), (false, ⟨(some 109), .load none (.tmp 108), none⟩, false), (false, ⟨(some 110), .mov (.tmp 0), none⟩, false), (false, ⟨(some 111), .mov (.tmp 10), none⟩, false), (false, ⟨(some 112), .bin .sub (.tmp 111) (.val (.int .i64 1)), none⟩, false), (false, ⟨(some 113), .iaddrL 1 (.tmp 110) (.tmp 112), none⟩, false), (false, ⟨(some 114), .load none (.tmp 113), none⟩, false), (false, ⟨(some 115), .call 106 [(.tmp 109), (.tmp 114)], none⟩, false), (false, ⟨(some 116), .un .not (.tmp 115), none⟩, false)])
 (.cond (.tmp 116) (.exit 6) .skip))
 (.dreg [(false, ⟨(some 117), .mov (.tmp 0), none⟩, false), (false, ⟨(some 118), .mov (.tmp 10), none⟩, false), (false, ⟨(some 119), .mov (.tmp 0), none⟩, false), (false, ⟨(some 120), .mov (.tmp 10), none⟩, false), (false, ⟨(some 121), .bin .sub (.tmp 120) (.val (.int .i64 1)), none⟩, false), (false, ⟨(some 122), .mov (.tmp 0), none⟩, false), (false, ⟨(some 123), .mov (.tmp 10), none⟩, false), (false, ⟨(some 124), .bin .sub (.tmp 123) (.val (.int .i64 1)), none⟩, false), (false, ⟨(some 125), .iaddrL 1 (.tmp 122) (.tmp 124), none⟩, false), (false, ⟨(some 126), .load none (.tmp 125), none⟩, false), (false, ⟨(some 127), .mov (.tmp 0), none⟩, false), (false, ⟨(some 128), .mov (.tmp 10), none⟩, false), (false, ⟨(some 129), .iaddrL 1 (.tmp 127) (.tmp 128), none⟩, false), (false, ⟨(some 130), .load none (.tmp 129), none⟩, false), (false, ⟨(some 131), .iaddrL 1 (.tmp 117) (.tmp 118), none⟩, false), (false, ⟨none, .store 1 (.tmp 131) (.tmp 126), none⟩, false), (false, ⟨(some 132), .iaddrL 1 (.tmp 119) (.tmp 121), none⟩, false), (false, ⟨none, .store 1 (.tmp 132) (.tmp 130), none⟩, false)])))
 (.reg [⟨(some 104), .mov (.tmp 10), none⟩, ⟨(some 105), .bin .add (.tmp 104) (.val (.int .i64 1)), none⟩, ⟨(some 10), .mov (.tmp 105), none⟩])))
def a105_L1 : AC := .loop a105_B1
theorem a105_L1_step (call : Caller) (again : AC → St → Option (Ex × St)) (s : St) : codeEv call again a105_L1 s = match codeEv call again a105_B1 s with | some (.norm, s1) => again a105_L1 s1 | r => r := rfl
def a105_B2 : AC := (.seq (.seq (.reg [⟨(some 64), .mov (.tmp 9), none⟩, ⟨(some 65), .bin .geq (.tmp 64) (.val (.int .i64 1)), none⟩])
 (.cond (.tmp 65) .skip (.exit 4)))
 (.seq (.block 5 (.seq (.seq (.dreg [(false, ⟨(some 68), .mov (.tmp 0), none⟩, false), (false, ⟨(some 69), .mov (.tmp 9), none⟩, false), (false, ⟨(some 70), .iaddrL 1 (.tmp 68) (.tmp 69), none⟩, false), (false, ⟨(some 71), .load none (.tmp 70), none⟩, false), (false, ⟨(some 72), .mov (.tmp 0), none⟩, false), (false, ⟨(some 73), .mov (.tmp 9), none⟩, false), (false, ⟨(some 74), .bin .sub (.tmp 73) (.val (.int .i64 1)), none⟩, false), (false, ⟨(some 75), .iaddrL 1 (.tmp 72) (.tmp 74), none⟩, false), (false, ⟨(some 76), .load none (.tmp 75), none⟩, false), (false, ⟨(some 77), .call 106 [(.tmp 71), (.tmp 76)], none⟩, false), (false, ⟨(some 78), .un .not (.tmp 77), none⟩, false)])
 (.cond (.tmp 78) (.exit 4) .skip))
 (.dreg [(false, ⟨(some 79), .mov (.tmp 0), none⟩, false), (false, ⟨(some 80), .mov (.tmp 9), none⟩, false), (false, ⟨(some 81), .mov (.tmp 0), none⟩, false), (false, ⟨(some 82), .mov (.tmp 9), none⟩, false), (false, ⟨(some 83), .bin .sub (.tmp 82) (.val (.int .i64 1)), none⟩, false), (false, ⟨(some 84), .mov (.tmp 0), none⟩, false), (false, ⟨(some 85), .mov (.tmp 9), none⟩, false), (false, ⟨(some 86), .bin .sub (.tmp 85) (.val (.int .i64 1)), none⟩, false), (false, ⟨(some 87), .iaddrL 1 (.tmp 84) (.tmp 86), none⟩, false), (false, ⟨(some 88), .load none (.tmp 87), none⟩, false), (false, ⟨(some 89), .mov (.tmp 0), none⟩, false), (false, ⟨(some 90), .mov (.tmp 9), none⟩, false), (false, ⟨(some 91), .iaddrL 1 (.tmp 89) (.tmp 90), none⟩, false), (false, ⟨(some 92), .load none (.tmp 91), none⟩, false), (false, ⟨(some 93), .iaddrL 1 (.tmp 79) (.tmp 80), none⟩, false), (false, ⟨none, .store 1 (.tmp 93) (.tmp 88), none⟩, false), (false, ⟨(some 94), .iaddrL 1 (.tmp 81) (.tmp 83), none⟩, false), (false, ⟨none, .store 1 (.tmp 94) (.tmp 92), none⟩, false)])))
 (.reg [⟨(some 66), .mov (.tmp 9), none⟩, ⟨(some 67), .bin .sub (.tmp 66) (.val (.int .i64 1)), none⟩, ⟨(some 9), .mov (.tmp 67), none⟩])))
def a105_L2 : AC := .loop a105_B2
theorem a105_L2_step (call : Caller) (again : AC → St → Option (Ex × St)) (s : St) : codeEv call again a105_L2 s = match codeEv call again a105_B2 s with | some (.norm, s1) => again a105_L2 s1 | r => r := rfl
def a105_B3 : AC := (.seq (.seq (.dreg [(false, ⟨(some 17), .mov (.tmp 7), none⟩, false), (false, ⟨(some 18), .mov (.tmp 2), none⟩, false), (false, ⟨(some 19), .bin .lss (.tmp 17) (.tmp 18), none⟩, false), (false, ⟨(some 20), .mov (.tmp 19), none⟩, false), (false, ⟨(some 21), .mov (.tmp 0), (some (20, true))⟩, false), (false, ⟨(some 22), .mov (.tmp 7), (some (20, true))⟩, false), (false, ⟨(some 23), .iaddrL 1 (.tmp 21) (.tmp 22), (some (20, true))⟩, false), (false, ⟨(some 24), .load none (.tmp 23), (some (20, true))⟩, false), (false, ⟨(some 25), .mov (.tmp 0), (some (20, true))⟩, false), (false, ⟨(some 26), .mov (.tmp 7), (some (20, true))⟩, false), (false, ⟨(some 27), .bin .sub (.tmp 26) (.val (.int .i64 1)), (some (20, true))⟩, false), (false, ⟨(some 28), .iaddrL 1 (.tmp 25) (.tmp 27), (some (20, true))⟩, false), (false, ⟨(some 29), .load none (.tmp 28), (some (20, true))⟩, false), (false, ⟨(some 30), .call 106 [(.tmp 24), (.tmp 29)], (some (20, true))⟩, false), (false, ⟨(some 31), .un .not (.tmp 30), (some (20, true))⟩, false), (false, ⟨(some 32), .pick (.tmp 20) (.tmp 31) (.val (.bool false)), none⟩, false)])
 (.cond (.tmp 32) .skip (.exit 2)))
 (.block 3 (.reg [⟨(some 33), .mov (.tmp 7), none⟩, ⟨(some 34), .bin .add (.tmp 33) (.val (.int .i64 1)), none⟩, ⟨(some 7), .mov (.tmp 34), none⟩])))
def a105_L3 : AC := .loop a105_B3
theorem a105_L3_step (call : Caller) (again : AC → St → Option (Ex × St)) (s : St) : codeEv call again a105_L3 s = match codeEv call again a105_B3 s with | some (.norm, s1) => again a105_L3 s1 | r => r := rfl
def a105_B4 : AC := (.seq (.seq (.reg [⟨(some 13), .mov (.tmp 8), none⟩, ⟨(some 14), .bin .lss (.tmp 13) (.val (.int .i64 5)), none⟩])
 (.cond (.tmp 14) .skip (.exit 0)))
 (.seq (.block 1 (.seq (.block 2 a105_L3)
 (.seq (.seq (.reg [⟨(some 35), .mov (.tmp 7), none⟩, ⟨(some 36), .mov (.tmp 2), none⟩, ⟨(some 37), .bin .eql (.tmp 35) (.tmp 36), none⟩])
 (.cond (.tmp 37) (.seq (.reg [⟨(some 6), .mov (.val (.bool true)), none⟩])
 .ret) .skip))
 (.seq (.seq (.reg [⟨(some 38), .mov (.tmp 2), none⟩, ⟨(some 39), .mov (.tmp 1), none⟩, ⟨(some 40), .bin .sub (.tmp 38) (.tmp 39), none⟩, ⟨(some 41), .bin .lss (.tmp 40) (.val (.int .i64 50)), none⟩])
 (.cond (.tmp 41) (.seq (.reg [⟨(some 6), .mov (.val (.bool false)), none⟩])
 .ret) .skip))
 (.seq (.dreg [(false, ⟨(some 42), .mov (.tmp 0), none⟩, false), (false, ⟨(some 43), .mov (.tmp 7), none⟩, false), (false, ⟨(some 44), .mov (.tmp 0), none⟩, false), (false, ⟨(some 45), .mov (.tmp 7), none⟩, false), (false, ⟨(some 46), .bin .sub (.tmp 45) (.val (.int .i64 1)), none⟩, false), (false, ⟨(some 47), .mov (.tmp 0), none⟩, false), (false, ⟨(some 48), .mov (.tmp 7), none⟩, false), (false, ⟨(some 49), .bin .sub (.tmp 48) (.val (.int .i64 1)), none⟩, false), (false, ⟨(some 50), .iaddrL 1 (.tmp 47) (.tmp 49), none⟩, false), (false, ⟨(some 51), .load none (.tmp 50), none⟩, false), (false, ⟨(some 52), .mov (.tmp 0), none⟩, false), (false, ⟨(some 53), .mov (.tmp 7), none⟩, false), (false, ⟨(some 54), .iaddrL 1 (.tmp 52) (.tmp 53), none⟩, false), (false, ⟨(some 55), .load none (.tmp 54), none⟩, false), (false, ⟨(some 56), .iaddrL 1 (.tmp 42) (.tmp 43), none⟩, false), (false, ⟨none, .store 1 (.tmp 56) (.tmp 51), none⟩, false), (false, ⟨(some 57), .iaddrL 1 (.tmp 44) (.tmp 46), none⟩, false), (false, ⟨none, .store 1 (.tmp 57) (.tmp 55), none⟩, false)])
 (.seq (.seq (.reg [⟨(some 58), .mov (.tmp 7), none⟩, ⟨(some 59), .mov (.tmp 1), none⟩, ⟨(some 60), .bin .sub (.tmp 58) (.tmp 59), none⟩, ⟨(some 61), .bin .geq (.tmp 60) (.val (.int .i64 2)), none⟩])
 (.cond (.tmp 61) (.seq (.reg [⟨(some 62), .mov (.tmp 7), none⟩, ⟨(some 63), .bin .sub (.tmp 62) (.val (.int .i64 1)), none⟩, ⟨(some 9), .mov (.tmp 63), none⟩])
 (.block 4 a105_L2)) .skip))
 (.seq (.reg [⟨(some 95), .mov (.tmp 2), none⟩, ⟨(some 96), .mov (.tmp 7), none⟩, ⟨(some 97), .bin .sub (.tmp 95) (.tmp 96), none⟩, ⟨(some 98), .bin .geq (.tmp 97) (.val (.int .i64 2)), none⟩])
 (.cond (.tmp 98) (.seq (.reg [⟨(some 99), .mov (.tmp 7), none⟩, ⟨(some 100), .bin .add (.tmp 99) (.val (.int .i64 1)), none⟩, ⟨(some 10), .mov (.tmp 100), none⟩])
 (.block 6 a105_L1)) .skip))))))))
 (.reg [⟨(some 15), .mov (.tmp 8), none⟩, ⟨(some 16), .bin .add (.tmp 15) (.val (.int .i64 1)), none⟩, ⟨(some 8), .mov (.tmp 16), none⟩])))
def a105_L4 : AC := .loop a105_B4
theorem a105_L4_step (call : Caller) (again : AC → St → Option (Ex × St)) (s : St) : codeEv call again a105_L4 s = match codeEv call again a105_B4 s with | some (.norm, s1) => again a105_L4 s1 | r => r := rfl
def a105 : AFn := { n := 133, np := 3, res := [.tmp 6], body :=
 (.seq (.reg [⟨(some 6), .mov (.val (.bool false)), none⟩])
 (.seq (.reg [⟨(some 11), .mov (.tmp 1), none⟩, ⟨(some 12), .bin .add (.tmp 11) (.val (.int .i64 1)), none⟩, ⟨(some 7), .mov (.tmp 12), none⟩])
 (.seq (.seq (.reg [⟨(some 8), .mov (.val (.int .i64 0)), none⟩])
 (.block 0 a105_L4))
 (.seq (.reg [⟨(some 6), .mov (.val (.bool false)), none⟩])
 .ret)))) }
def h106 : Hints := ⟨[], [], []⟩
def a106 : AFn := { n := 17, np := 2, res := [.tmp 4], body :=
 (.seq (.reg [⟨(some 4), .mov (.val (.bool false)), none⟩])
 (.seq (.reg [⟨(some 5), .mov (.tmp 0), none⟩, ⟨(some 6), .call 122 [(.tmp 5)], none⟩, ⟨(some 7), .mov (.tmp 6), none⟩, ⟨(some 8), .mov (.tmp 1), (some (7, true))⟩, ⟨(some 9), .call 122 [(.tmp 8)], (some (7, true))⟩, ⟨(some 10), .un .not (.tmp 9), (some (7, true))⟩, ⟨(some 11), .pick (.tmp 7) (.tmp 10) (.val (.bool false)), none⟩, ⟨(some 12), .mov (.tmp 11), none⟩, ⟨(some 13), .mov (.tmp 0), (some (12, false))⟩, ⟨(some 14), .mov (.tmp 1), (some (12, false))⟩, ⟨(some 15), .bin .lss (.tmp 13) (.tmp 14), (some (12, false))⟩, ⟨(some 16), .pick (.tmp 12) (.val (.bool true)) (.tmp 15), none⟩, ⟨(some 4), .mov (.tmp 16), none⟩])
 .ret)) }
def h107 : Hints := ⟨[], [], []⟩
def a107_B1 : AC := (.seq (.seq (.dreg [(false, ⟨(some 46), .mov (.tmp 9), none⟩, false), (false, ⟨(some 47), .mov (.tmp 10), none⟩, false), (false, ⟨(some 48), .bin .leq (.tmp 46) (.tmp 47), none⟩, false), (false, ⟨(some 49), .mov (.tmp 48), none⟩, false), (false, ⟨(some 50), .mov (.tmp 0), (some (49, true))⟩, false), (false, ⟨(some 51), .mov (.tmp 1), (some (49, true))⟩, false), (false, ⟨(some 52), .iaddrL 1 (.tmp 50) (.tmp 51), (some (49, true))⟩, false), (false, ⟨(some 53), .load none (.tmp 52), (some (49, true))⟩, false), (false, ⟨(some 54), .mov (.tmp 0), (some (49, true))⟩, false), (false, ⟨(some 55), .mov (.tmp 10), (some (49, true))⟩, false), (false, ⟨(some 56), .iaddrL 1 (.tmp 54) (.tmp 55), (some (49, true))⟩, false), (false, ⟨(some 57), .load none (.tmp 56), (some (49, true))⟩, false), (false, ⟨(some 58), .call 106 [(.tmp 53), (.tmp 57)], (some (49, true))⟩, false), (false, ⟨(some 59), .pick (.tmp 49) (.tmp 58) (.val (.bool false)), none⟩, false)])
 (.cond (.tmp 59) .skip (.exit 4)))
 (.block 5 (.reg [⟨(some 60), .mov (.tmp 10), none⟩, ⟨(some 61), .bin .sub (.tmp 60) (.val (.int .i64 1)), none⟩, ⟨(some 10), .mov (.tmp 61), none⟩])))
def a107_L1 : AC := .loop a107_B1
theorem a107_L1_step (call : Caller) (again : AC → St → Option (Ex × St)) (s : St) : codeEv call again a107_L1 s = match codeEv call again a107_B1 s with | some (.norm, s1) => again a107_L1 s1 | r => r := rfl
def a107_B2 : AC := (.seq (.seq (.dreg [(false, ⟨(some 29), .mov (.tmp 9), none⟩, false), (false, ⟨(some 30), .mov (.tmp 10), none⟩, false), (false, ⟨(some 31), .bin .leq (.tmp 29) (.tmp 30), none⟩, false), (false, ⟨(some 32), .mov (.tmp 31), none⟩, false), (false, ⟨(some 33), .mov (.tmp 0), (some (32, true))⟩, false), (false, ⟨(some 34), .mov (.tmp 1), (some (32, true))⟩, false), (false, ⟨(some 35), .iaddrL 1 (.tmp 33) (.tmp 34), (some (32, true))⟩, false), (false, ⟨(some 36), .load none (.tmp 35), (some (32, true))⟩, false), (false, ⟨(some 37), .mov (.tmp 0), (some (32, true))⟩, false), (false, ⟨(some 38), .mov (.tmp 9), (some (32, true))⟩, false), (false, ⟨(some 39), .iaddrL 1 (.tmp 37) (.tmp 38), (some (32, true))⟩, false), (false, ⟨(some 40), .load none (.tmp 39), (some (32, true))⟩, false), (false, ⟨(some 41), .call 106 [(.tmp 36), (.tmp 40)], (some (32, true))⟩, false), (false, ⟨(some 42), .un .not (.tmp 41), (some (32, true))⟩, false), (false, ⟨(some 43), .pick (.tmp 32) (.tmp 42) (.val (.bool false)), none⟩, false)])
 (.cond (.tmp 43) .skip (.exit 2)))
 (.block 3 (.reg [⟨(some 44), .mov (.tmp 9), none⟩, ⟨(some 45), .bin .add (.tmp 44) (.val (.int .i64 1)), none⟩, ⟨(some 9), .mov (.tmp 45), none⟩])))
def a107_L2 : AC := .loop a107_B2
theorem a107_L2_step (call : Caller) (again : AC → St → Option (Ex × St)) (s : St) : codeEv call again a107_L2 s = match codeEv call again a107_B2 s with | some (.norm, s1) => again a107_L2 s1 | r => r := rfl
def a107_B3 : AC := (.block 1 (.seq (.block 2 a107_L2)
 (.seq (.block 4 a107_L1)
 (.seq (.seq (.reg [⟨(some 62), .mov (.tmp 9), none⟩, ⟨(some 63), .mov (.tmp 10), none⟩, ⟨(some 64), .bin .gtr (.tmp 62) (.tmp 63), none⟩])
 (.cond (.tmp 64) (.exit 0) .skip))
 (.seq (.dreg [(false, ⟨(some 65), .mov (.tmp 0), none⟩, false), (false, ⟨(some 66), .mov (.tmp 9), none⟩, false), (false, ⟨(some 67), .mov (.tmp 0), none⟩, false), (false, ⟨(some 68), .mov (.tmp 10), none⟩, false), (false, ⟨(some 69), .mov (.tmp 0), none⟩, false), (false, ⟨(some 70), .mov (.tmp 10), none⟩, false), (false, ⟨(some 71), .iaddrL 1 (.tmp 69) (.tmp 70), none⟩, false), (false, ⟨(some 72), .load none (.tmp 71), none⟩, false), (false, ⟨(some 73), .mov (.tmp 0), none⟩, false), (false, ⟨(some 74), .mov (.tmp 9), none⟩, false), (false, ⟨(some 75), .iaddrL 1 (.tmp 73) (.tmp 74), none⟩, false), (false, ⟨(some 76), .load none (.tmp 75), none⟩, false), (false, ⟨(some 77), .iaddrL 1 (.tmp 65) (.tmp 66), none⟩, false), (false, ⟨none, .store 1 (.tmp 77) (.tmp 72), none⟩, false), (false, ⟨(some 78), .iaddrL 1 (.tmp 67) (.tmp 68), none⟩, false), (false, ⟨none, .store 1 (.tmp 78) (.tmp 76), none⟩, false)])
 (.seq (.reg [⟨(some 79), .mov (.tmp 9), none⟩, ⟨(some 80), .bin .add (.tmp 79) (.val (.int .i64 1)), none⟩, ⟨(some 9), .mov (.tmp 80), none⟩])
 (.reg [⟨(some 81), .mov (.tmp 10), none⟩, ⟨(some 82), .bin .sub (.tmp 81) (.val (.int .i64 1)), none⟩, ⟨(some 10), .mov (.tmp 82), none⟩])))))))
def a107_L3 : AC := .loop a107_B3
theorem a107_L3_step (call : Caller) (again : AC → St → Option (Ex × St)) (s : St) : codeEv call again a107_L3 s = match codeEv call again a107_B3 s with | some (.norm, s1) => again a107_L3 s1 | r => r := rfl
def a107 : AFn := { n := 84, np := 4, res := [.tmp 8], body :=
 (.seq (.reg [⟨(some 8), .mov (.val (.int .i64 0)), none⟩])
 (.seq (.dreg [(false, ⟨(some 11), .mov (.tmp 0), none⟩, false), (false, ⟨(some 12), .mov (.tmp 1), none⟩, false), (false, ⟨(some 13), .mov (.tmp 0), none⟩, false), (false, ⟨(some 14), .mov (.tmp 3), none⟩, false), (false, ⟨(some 15), .mov (.tmp 0), none⟩, false), (false, ⟨(some 16), .mov (.tmp 3), none⟩, false), (false, ⟨(some 17), .iaddrL 1 (.tmp 15) (.tmp 16), none⟩, false), (false, ⟨(some 18), .load none (.tmp 17), none⟩, false), (false, ⟨(some 19), .mov (.tmp 0), none⟩, false), (false, ⟨(some 20), .mov (.tmp 1), none⟩, false), (false, ⟨(some 21), .iaddrL 1 (.tmp 19) (.tmp 20), none⟩, false), (false, ⟨(some 22), .load none (.tmp 21), none⟩, false), (false, ⟨(some 23), .iaddrL 1 (.tmp 11) (.tmp 12), none⟩, false), (false, ⟨none, .store 1 (.tmp 23) (.tmp 18), none⟩, false), (false, ⟨(some 24), .iaddrL 1 (.tmp 13) (.tmp 14), none⟩, false), (false, ⟨none, .store 1 (.tmp 24) (.tmp 22), none⟩, false)])
 (.seq (.reg [⟨(some 25), .mov (.tmp 1), none⟩, ⟨(some 26), .bin .add (.tmp 25) (.val (.int .i64 1)), none⟩, ⟨(some 27), .mov (.tmp 2), none⟩, ⟨(some 28), .bin .sub (.tmp 27) (.val (.int .i64 1)), none⟩, ⟨(some 9), .mov (.tmp 26), none⟩, ⟨(some 10), .mov (.tmp 28), none⟩])
 (.seq (.block 0 a107_L3)
 (.seq (.reg [⟨(some 83), .mov (.tmp 9), none⟩, ⟨(some 8), .mov (.tmp 83), none⟩])
 .ret))))) }
def h108 : Hints := ⟨[], [], []⟩
def a108_B1 : AC := (.seq (.seq (.dreg [(false, ⟨(some 115), .mov (.tmp 10), none⟩, false), (false, ⟨(some 116), .mov (.tmp 11), none⟩, false), (false, ⟨(some 117), .bin .leq (.tmp 115) (.tmp 116), none⟩, false), (false, ⟨(some 118), .mov (.tmp 117), none⟩, false), (false, ⟨(some 119), .mov (.tmp 0), (some (118, true))⟩, false), (false, ⟨(some 120), .mov (.tmp 11), (some (118, true))⟩, false), (false, ⟨(some 121), .iaddrL 1 (.tmp 119) (.tmp 120), (some (118, true))⟩, false), (false, ⟨(some 122), .load none (.tmp 121), (some (118, true))⟩, false), (false, ⟨(some 123), .mov (.tmp 0), (some (118, true))⟩, false), (false, ⟨(some 124), .mov (.tmp 1), (some (118, true))⟩, false), (false, ⟨(some 125), .iaddrL 1 (.tmp 123) (.tmp 124), (some (118, true))⟩, false), (false, ⟨(some 126), .load none (.tmp 125), (some (118, true))⟩, false), (false, ⟨(some 127), .call 106 [(.tmp 122), (.tmp 126)], (some (118, true))⟩, false), (false, ⟨(some 128), .un .not (.tmp 127), (some (118, true))⟩, false), (false, ⟨(some 129), .pick (.tmp 118) (.tmp 128) (.val (.bool false)), none⟩, false)])
 (.cond (.tmp 129) .skip (.exit 8)))
 (.block 9 (.reg [⟨(some 130), .mov (.tmp 11), none⟩, ⟨(some 131), .bin .sub (.tmp 130) (.val (.int .i64 1)), none⟩, ⟨(some 11), .mov (.tmp 131), none⟩])))
def a108_L1 : AC := .loop a108_B1
theorem a108_L1_step (call : Caller) (again : AC → St → Option (Ex × St)) (s : St) : codeEv call again a108_L1 s = match codeEv call again a108_B1 s with | some (.norm, s1) => again a108_L1 s1 | r => r := rfl
def a108_B2 : AC := (.seq (.seq (.dreg [(false, ⟨(some 99), .mov (.tmp 10), none⟩, false), (false, ⟨(some 100), .mov (.tmp 11), none⟩, false), (false, ⟨(some 101), .bin .leq (.tmp 99) (.tmp 100), none⟩, false), (false, ⟨(some 102), .mov (.tmp 101), none⟩, false), (false, ⟨(some 103), .mov (.tmp 0), (some (102, true))⟩, false), (false, ⟨(some 104), .mov (.tmp 10), (some (102, true))⟩, false), (false, ⟨(some 105), .iaddrL 1 (.tmp 103) (.tmp 104), (some (102, true))⟩, false), (false, ⟨(some 106), .load none (.tmp 105), (some (102, true))⟩, false), (false, ⟨(some 107), .mov (.tmp 0), (some (102, true))⟩, false), (false, ⟨(some 108), .mov (.tmp 1), (some (102, true))⟩, false), (false, ⟨(some 109), .iaddrL 1 (.tmp 107) (.tmp 108), (some (102, true))⟩, false), (false, ⟨(some 110), .load none (.tmp 109), (some (102, true))⟩, false), (false, ⟨(some 111), .call 106 [(.tmp 106), (.tmp 110)], (some (102, true))⟩, false), (false, ⟨(some 112), .pick (.tmp 102) (.tmp 111) (.val (.bool false)), none⟩, false)])
 (.cond (.tmp 112) .skip (.exit 6)))
 (.block 7 (.reg [⟨(some 113), .mov (.tmp 10), none⟩, ⟨(some 114), .bin .add (.tmp 113) (.val (.int .i64 1)), none⟩, ⟨(some 10), .mov (.tmp 114), none⟩])))
def a108_L2 : AC := .loop a108_B2
theorem a108_L2_step (call : Caller) (again : AC → St → Option (Ex × St)) (s : St) : codeEv call again a108_L2 s = match codeEv call again a108_B2 s with | some (.norm, s1) => again a108_L2 s1 | r => r := rfl
def a108_B3 : AC := (.block 5 (.seq (.block 6 a108_L2)
 (.seq (.block 8 a108_L1)
 (.seq (.seq (.reg [⟨(some 132), .mov (.tmp 10), none⟩, ⟨(some 133), .mov (.tmp 11), none⟩, ⟨(some 134), .bin .gtr (.tmp 132) (.tmp 133), none⟩])
 (.cond (.tmp 134) (.exit 4) .skip))
 (.seq (.dreg [(false, ⟨(some 135), .mov (.tmp 0), none⟩, false), (false, ⟨(some 136), .mov (.tmp 10), none⟩, false), (false, ⟨(some 137), .mov (.tmp 0), none⟩, false), (false, ⟨(some 138), .mov (.tmp 11), none⟩, false), (false, ⟨(some 139), .mov (.tmp 0), none⟩, false), (false, ⟨(some 140), .mov (.tmp 11), none⟩, false), (false, ⟨(some 141), .iaddrL 1 (.tmp 139) (.tmp 140), none⟩, false), (false, ⟨(some 142), .load none (.tmp 141), none⟩, false), (false, ⟨(some 143), .mov (.tmp 0), none⟩, false), (false, ⟨(some 144), .mov (.tmp 10), none⟩, false), (false, ⟨(some 145), .iaddrL 1 (.tmp 143) (.tmp 144), none⟩, false), (false, ⟨(some 146), .load none (.tmp 145), none⟩, false), (false, ⟨(some 147), .iaddrL 1 (.tmp 135) (.tmp 136), none⟩, false), (false, ⟨none, .store 1 (.tmp 147) (.tmp 142), none⟩, false), (false, ⟨(some 148), .iaddrL 1 (.tmp 137) (.tmp 138), none⟩, false), (false, ⟨none, .store 1 (.tmp 148) (.tmp 146), none⟩, false)])
 (.seq (.reg [⟨(some 149), .mov (.tmp 10), none⟩, ⟨(some 150), .bin .add (.tmp 149) (.val (.int .i64 1)), none⟩, ⟨(some 10), .mov (.tmp 150), none⟩])
 (.reg [⟨(some 151), .mov (.tmp 11), none⟩, ⟨(some 152), .bin .sub (.tmp 151) (.val (.int .i64 1)), none⟩, ⟨(some 11), .mov (.tmp 152), none⟩])))))))
def a108_L3 : AC := .loop a108_B3
theorem a108_L3_step (call : Caller) (again : AC → St → Option (Ex × St)) (s : St) : codeEv call again a108_L3 s = match codeEv call again a108_B3 s with | some (.norm, s1) => again a108_L3 s1 | r => r := rfl
def a108_B4 : AC := (.seq (.seq (.dreg [(false, ⟨(some 46), .mov (.tmp 10), none⟩, false), (false, ⟨(some 47), .mov (.tmp 11), none⟩, false), (false, ⟨(some 48), .bin .leq (.tmp 46) (.tmp 47), none⟩, false), (false, ⟨(some 49), .mov (.tmp 48), none⟩, false), (false, ⟨(some 50), .mov (.tmp 0), (some (49, true))⟩, false), (false, ⟨(some 51), .mov (.tmp 11), (some (49, true))⟩, false), (false, ⟨(some 52), .iaddrL 1 (.tmp 50) (.tmp 51), (some (49, true))⟩, false), (false, ⟨(some 53), .load none (.tmp 52), (some (49, true))⟩, false), (false, ⟨(some 54), .mov (.tmp 0), (some (49, true))⟩, false), (false, ⟨(some 55), .mov (.tmp 1), (some (49, true))⟩, false), (false, ⟨(some 56), .iaddrL 1 (.tmp 54) (.tmp 55), (some (49, true))⟩, false), (false, ⟨(some 57), .load none (.tmp 56), (some (49, true))⟩, false), (false, ⟨(some 58), .call 106 [(.tmp 53), (.tmp 57)], (some (49, true))⟩, false), (false, ⟨(some 59), .un .not (.tmp 58), (some (49, true))⟩, false), (false, ⟨(some 60), .pick (.tmp 49) (.tmp 59) (.val (.bool false)), none⟩, false)])
 (.cond (.tmp 60) .skip (.exit 2)))
 (.block 3 (.reg [⟨(some 61), .mov (.tmp 11), none⟩, ⟨(some 62), .bin .sub (.tmp 61) (.val (.int .i64 1)), none⟩, ⟨(some 11), .mov (.tmp 62), none⟩])))
def a108_L4 : AC := .loop a108_B4
theorem a108_L4_step (call : Caller) (again : AC → St → Option (Ex × St)) (s : St) : codeEv call again a108_L4 s = match codeEv call again a108_B4 s with | some (.norm, s1) => again a108_L4 s1 | r => r := rfl
def a108_B5 : AC := (.seq (.seq (.dreg [(false, ⟨(some 30), .mov (.tmp 10), none⟩, false), (false, ⟨(some 31), .mov (.tmp 11), none⟩, false), (false, ⟨(some 32), .bin .leq (.tmp 30) (.tmp 31), none⟩, false), (false, ⟨(some 33), .mov (.tmp 32), none⟩, false), (false, ⟨(some 34), .mov (.tmp 0), (some (33, true))⟩, false), (false, ⟨(some 35), .mov (.tmp 10), (some (33, true))⟩, false), (false, ⟨(some 36), .iaddrL 1 (.tmp 34) (.tmp 35), (some (33, true))⟩, false), (false, ⟨(some 37), .load none (.tmp 36), (some (33, true))⟩, false), (false, ⟨(some 38), .mov (.tmp 0), (some (33, true))⟩, false), (false, ⟨(some 39), .mov (.tmp 1), (some (33, true))⟩, false), (false, ⟨(some 40), .iaddrL 1 (.tmp 38) (.tmp 39), (some (33, true))⟩, false), (false, ⟨(some 41), .load none (.tmp 40), (some (33, true))⟩, false), (false, ⟨(some 42), .call 106 [(.tmp 37), (.tmp 41)], (some (33, true))⟩, false), (false, ⟨(some 43), .pick (.tmp 33) (.tmp 42) (.val (.bool false)), none⟩, false)])
 (.cond (.tmp 43) .skip (.exit 0)))
 (.block 1 (.reg [⟨(some 44), .mov (.tmp 10), none⟩, ⟨(some 45), .bin .add (.tmp 44) (.val (.int .i64 1)), none⟩, ⟨(some 10), .mov (.tmp 45), none⟩])))
def a108_L5 : AC := .loop a108_B5
theorem a108_L5_step (call : Caller) (again : AC → St → Option (Ex × St)) (s : St) : codeEv call again a108_L5 s = match codeEv call again a108_B5 s with | some (.norm, s1) => again a108_L5 s1 | r => r := rfl
def a108 : AFn := { n := 168, np := 4, res := [.tmp 8, .tmp 9], body :=
 (.seq (.reg [⟨(some 8), .mov (.val (.int .i64 0)), none⟩, ⟨(some 9), .mov (.val (.bool false)), none⟩])
 (.seq (.dreg [(false, ⟨(some 12), .mov (.tmp 0), none⟩, false), (false, ⟨(some 13), .mov (.tmp 1), none⟩, false), (false, ⟨(some 14), .mov (.tmp 0), none⟩, false), (false, ⟨(some 15), .mov (.tmp 3), none⟩, false), (false, ⟨(some 16), .mov (.tmp 0), none⟩, false), (false, ⟨(some 17), .mov (.tmp 3), none⟩, false), (false, ⟨(some 18), .iaddrL 1 (.tmp 16) (.tmp 17), none⟩, false), (false, ⟨(some 19), .load none (.tmp 18), none⟩, false), (false, ⟨(some 20), .mov (.tmp 0), none⟩, false), (false, ⟨(some 21), .mov (.tmp 1), none⟩, false), (false, ⟨(some 22), .iaddrL 1 (.tmp 20) (.tmp 21), none⟩, false), (false, ⟨(some 23), .load none (.tmp 22), none⟩, false), (false, ⟨(some 24), .iaddrL 1 (.tmp 12) (.tmp 13), none⟩, false), (false, ⟨none, .store 1 (.tmp 24) (.tmp 19), none⟩, false), (false, ⟨(some 25), .iaddrL 1 (.tmp 14) (.tmp 15), none⟩, false), (false, ⟨none, .store 1 (.tmp 25) (.tmp 23), none⟩, false)])
 (.seq (.reg [⟨(some 26), .mov (.tmp 1), none⟩, ⟨(some 27), .bin .add (.tmp 26) (.val (.int .i64 1)), none⟩, ⟨(some 28), .mov (.tmp 2), none⟩, ⟨(some 29), .bin .sub (.tmp 28) (.val (.int .i64 1)), none⟩, ⟨(some 10), .mov (.tmp 27), none⟩, ⟨(some 11), .mov (.tmp 29), none⟩])
 (.seq (.block 0 a108_L5)
 (.seq (.block 2 a108_L4)
 (.seq (.seq (.reg [⟨(some 63), .mov (.tmp 10), none⟩, ⟨(some 64), .mov (.tmp 11), none⟩, ⟨(some 65), .bin .gtr (.tmp 63) (.tmp 64), none⟩])
 (.cond (.tmp 65) (.seq (.dreg [(false, ⟨(some 66), .mov (.tmp 0), none⟩, false), (false, ⟨(some 67), .mov (.tmp 11), none⟩, false), (false, ⟨(some 68), .mov (.tmp 0), none⟩, false), (false, ⟨(some 69), .mov (.tmp 1), none⟩, false), (false, ⟨(some 70), .mov (.tmp 0), none⟩, false), (false, ⟨(some 71), .mov (.tmp 1), none⟩, false), (false, ⟨(some 72), .iaddrL 1 (.tmp 70) (.tmp 71), none⟩, false), (false, ⟨(some 73), .load none (.tmp 72), none⟩, false), (false, ⟨(some 74), .mov (.tmp 0), none⟩, false), (false, ⟨(some 75), .mov (.tmp 11), none⟩, false), (false, ⟨(some 76), .iaddrL 1 (.tmp 74) (.tmp 75), none⟩, false), (false, ⟨(some 77), .load none (.tmp 76), none⟩, false), (false, ⟨(some 78), .iaddrL 1 (.tmp 66) (.tmp 67), none⟩, false), (false, ⟨none, .store 1 (.tmp 78) (.tmp 73), none⟩, false), (false, ⟨(some 79), .iaddrL 1 (.tmp 68) (.tmp 69), none⟩, false), (false, ⟨none, .store 1 (.tmp 79) (.tmp 77), none⟩, false)])
 (.seq (.reg [⟨(some 80), .mov (.tmp 11), none⟩, ⟨(some 8), .mov (.tmp 80), none⟩, ⟨(some 9), .mov (.val (.bool true)), none⟩])
 .ret)) .skip))
 (.seq (.dreg [(false, ⟨(some 81), .mov (.tmp 0), none⟩, false), (false, ⟨(some 82), .mov (.tmp 10), none⟩, false), (false, ⟨(some 83), .mov (.tmp 0), none⟩, false), (false, ⟨(some 84), .mov (.tmp 11), none⟩, false), (false, ⟨(some 85), .mov (.tmp 0), none⟩, false), (false, ⟨(some 86), .mov (.tmp 11), none⟩, false), (false, ⟨(some 87), .iaddrL 1 (.tmp 85) (.tmp 86), none⟩, false), (false, ⟨(some 88), .load none (.tmp 87), none⟩, false), (false, ⟨(some 89), .mov (.tmp 0), none⟩, false), (false, ⟨(some 90), .mov (.tmp 10), none⟩, false), (false, ⟨(some 91), .iaddrL 1 (.tmp 89) (.tmp 90), none⟩, false), (false, ⟨(some 92), .load none (.tmp 91), none⟩, false), (false, ⟨(some 93), .iaddrL 1 (.tmp 81) (.tmp 82), none⟩, false), (false, ⟨none, .store 1 (.tmp 93) (.tmp 88), none⟩, false), (false, ⟨(some 94), .iaddrL 1 (.tmp 83) (.tmp 84), none⟩, false), (false, ⟨none, .store 1 (.tmp 94) (.tmp 92), none⟩, false)])
 (.seq (.reg [⟨(some 95), .mov (.tmp 10), none⟩, ⟨(some 96), .bin .add (.tmp 95) (.val (.int .i64 1)), none⟩, ⟨(some 10), .mov (.tmp 96), none⟩])
 (.seq (.reg [⟨(some 97), .mov (.tmp 11), none⟩, ⟨(some 98), .bin .sub (.tmp 97) (.val (.int .i64 1)), none⟩, ⟨(some 11), .mov (.tmp 98), none⟩])
 (.seq (.block 4 a108_L3)
 (.seq (.dreg [(false, ⟨(some 153), .mov (.tmp 0), none⟩, false), (false, ⟨(some 154), .mov (.tmp 11), none⟩, false), (false, ⟨(some 155), .mov (.tmp 0), none⟩, false), (false, ⟨(some 156), .mov (.tmp 1), none⟩, false), (false, ⟨(some 157), .mov (.tmp 0), none⟩, false), (false, ⟨(some 158), .mov (.tmp 1), none⟩, false), (false, ⟨(some 159), .iaddrL 1 (.tmp 157) (.tmp 158), none⟩, false), (false, ⟨(some 160), .load none (.tmp 159), none⟩, false), (false, ⟨(some 161), .mov (.tmp 0), none⟩, false), (false, ⟨(some 162), .mov (.tmp 11), none⟩, false), (false, ⟨(some 163), .iaddrL 1 (.tmp 161) (.tmp 162), none⟩, false), (false, ⟨(some 164), .load none (.tmp 163), none⟩, false), (false, ⟨(some 165), .iaddrL 1 (.tmp 153) (.tmp 154), none⟩, false), (false, ⟨none, .store 1 (.tmp 165) (.tmp 160), none⟩, false), (false, ⟨(some 166), .iaddrL 1 (.tmp 155) (.tmp 156), none⟩, false), (false, ⟨none, .store 1 (.tmp 166) (.tmp 164), none⟩, false)])
 (.seq (.reg [⟨(some 167), .mov (.tmp 11), none⟩, ⟨(some 8), .mov (.tmp 167), none⟩, ⟨(some 9), .mov (.val (.bool false)), none⟩])
 .ret)))))))))))) }
def h109 : Hints := ⟨[], [], []⟩
def a109 : AFn := { n := 19, np := 1, res := [.tmp 2], body :=
 (.seq (.reg [⟨(some 2), .mov (.val (.int .i64 0)), none⟩])
 (.seq (.seq (.reg [⟨(some 3), .mov (.tmp 0), none⟩, ⟨(some 4), .bin .geq (.tmp 3) (.val (.int .u32 65536)), none⟩])
 (.cond (.tmp 4) (.seq (.reg [⟨(some 5), .mov (.tmp 0), none⟩, ⟨(some 6), .bin .shr (.tmp 5) (.val (.int .u64 16)), none⟩, ⟨(some 0), .mov (.tmp 6), none⟩])
 (.reg [⟨(some 2), .mov (.val (.int .i64 16)), none⟩])) .skip))
 (.seq (.seq (.reg [⟨(some 7), .mov (.tmp 0), none⟩, ⟨(some 8), .bin .geq (.tmp 7) (.val (.int .u32 256)), none⟩])
 (.cond (.tmp 8) (.seq (.reg [⟨(some 9), .mov (.tmp 0), none⟩, ⟨(some 10), .bin .shr (.tmp 9) (.val (.int .u64 8)), none⟩, ⟨(some 0), .mov (.tmp 10), none⟩])
 (.reg [⟨(some 11), .mov (.tmp 2), none⟩, ⟨(some 12), .bin .add (.tmp 11) (.val (.int .i64 8)), none⟩, ⟨(some 2), .mov (.tmp 12), none⟩])) .skip))
 (.seq (.reg [⟨(some 13), .mov (.tmp 2), none⟩, ⟨(some 14), .mov (.tmp 0), none⟩, ⟨(some 15), .conv .u8 (.tmp 14), none⟩, ⟨(some 16), .idxS (.val (.str ⟨#[0, 1, 2, 2, 3, 3, 3, 3, 4, 4, 4, 4, 4, 4, 4, 4, 5, 5, 5, 5, 5, 5, 5, 5, 5, 5, 5, 5, 5, 5, 5, 5, 6, 6, 6, 6, 6, 6, 6, 6, 6, 6, 6, 6, 6, 6, 6, 6, 6, 6, 6, 6, 6, 6, 6, 6, 6, 6, 6, 6, 6, 6, 6, 6, 7, 7, 7, 7, 7, 7, 7, 7, 7, 7, 7, 7, 7, 7, 7, 7, 7, 7, 7, 7, 7, 7, 7, 7, 7, 7, 7, 7, 7, 7, 7, 7, 7, 7, 7, 7, 7, 7, 7, 7, 7, 7, 7, 7, 7, 7, 7, 7, 7, 7, 7, 7, 7, 7, 7, 7, 7, 7, 7, 7, 7, 7, 7, 7, 8, 8, 8, 8, 8, 8, 8, 8, 8, 8, 8, 8, 8, 8, 8, 8, 8, 8, 8, 8, 8, 8, 8, 8, 8, 8, 8, 8, 8, 8, 8, 8, 8, 8, 8, 8, 8, 8, 8, 8, 8, 8, 8, 8, 8, 8, 8, 8, 8, 8, 8, 8, 8, 8, 8, 8, 8, 8, 8, 8, 8, 8, 8, 8, 8, 8, 8, 8, 8, 8, 8, 8, 8, 8, 8, 8, 8, 8, 8, 8, 8, 8, 8, 8, 8, 8, 8, 8, 8, 8, 8, 8, 8, 8, 8, 8, 8, 8, 8, 8, 8, 8, 8, 8, 8, 8, 8, 8, 8, 8, 8, 8, 8, 8, 8, 8, 8, 8, 8, 8, 8, 8, 8, 8, 8, 8, 8, 8]⟩)) (.tmp 15), none⟩, ⟨(some 17), .conv .i64 (.tmp 16), none⟩, ⟨(some 18), .bin .add (.tmp 13) (.tmp 17), none⟩, ⟨(some 2), .mov (.tmp 18), none⟩])
 .ret)))) }
def h110 : Hints := ⟨[], [], []⟩
def a110 : AFn := { n := 25, np := 1, res := [.tmp 2], body :=
 (.seq (.reg [⟨(some 2), .mov (.val (.int .i64 0)), none⟩])
 (.seq (.seq (.reg [⟨(some 3), .mov (.tmp 0), none⟩, ⟨(some 4), .bin .geq (.tmp 3) (.val (.int .u64 4294967296)), none⟩])
 (.cond (.tmp 4) (.seq (.reg [⟨(some 5), .mov (.tmp 0), none⟩, ⟨(some 6), .bin .shr (.tmp 5) (.val (.int .u64 32)), none⟩, ⟨(some 0), .mov (.tmp 6), none⟩])
 (.reg [⟨(some 2), .mov (.val (.int .i64 32)), none⟩])) .skip))
 (.seq (.seq (.reg [⟨(some 7), .mov (.tmp 0), none⟩, ⟨(some 8), .bin .geq (.tmp 7) (.val (.int .u64 65536)), none⟩])
 (.cond (.tmp 8) (.seq (.reg [⟨(some 9), .mov (.tmp 0), none⟩, ⟨(some 10), .bin .shr (.tmp 9) (.val (.int .u64 16)), none⟩, ⟨(some 0), .mov (.tmp 10), none⟩])
 (.reg [⟨(some 11), .mov (.tmp 2), none⟩, ⟨(some 12), .bin .add (.tmp 11) (.val (.int .i64 16)), none⟩, ⟨(some 2), .mov (.tmp 12), none⟩])) .skip))
 (.seq (.seq (.reg [⟨(some 13), .mov (.tmp 0), none⟩, ⟨(some 14), .bin .geq (.tmp 13) (.val (.int .u64 256)), none⟩])
 (.cond (.tmp 14) (.seq (.reg [⟨(some 15), .mov (.tmp 0), none⟩, ⟨(some 16), .bin .shr (.tmp 15) (.val (.int .u64 8)), none⟩, ⟨(some 0), .mov (.tmp 16), none⟩])
 (.reg [⟨(some 17), .mov (.tmp 2), none⟩, ⟨(some 18), .bin .add (.tmp 17) (.val (.int .i64 8)), none⟩, ⟨(some 2), .mov (.tmp 18), none⟩])) .skip))
 (.seq (.reg [⟨(some 19), .mov (.tmp 2), none⟩, ⟨(some 20), .mov (.tmp 0), none⟩, ⟨(some 21), .conv .u8 (.tmp 20), none⟩, ⟨(some 22), .idxS (.val (.str ⟨#[0, 1, 2, 2, 3, 3, 3, 3, 4, 4, 4, 4, 4, 4, 4, 4, 5, 5, 5, 5, 5, 5, 5, 5, 5, 5, 5, 5, 5, 5, 5, 5, 6, 6, 6, 6, 6, 6, 6, 6, 6, 6, 6, 6, 6, 6, 6, 6, 6, 6, 6, 6, 6, 6, 6, 6, 6, 6, 6, 6, 6, 6, 6, 6, 7, 7, 7, 7, 7, 7, 7, 7, 7, 7, 7, 7, 7, 7, 7, 7, 7, 7, 7, 7, 7, 7, 7, 7, 7, 7, 7, 7, 7, 7, 7, 7, 7, 7, 7, 7, 7, 7, 7, 7, 7, 7, 7, 7, 7, 7, 7, 7, 7, 7, 7, 7, 7, 7, 7, 7, 7, 7, 7, 7, 7, 7, 7, 7, 8, 8, 8, 8, 8, 8, 8, 8, 8, 8, 8, 8, 8, 8, 8, 8, 8, 8, 8, 8, 8, 8, 8, 8, 8, 8, 8, 8, 8, 8, 8, 8, 8, 8, 8, 8, 8, 8, 8, 8, 8, 8, 8, 8, 8, 8, 8, 8, 8, 8, 8, 8, 8, 8, 8, 8, 8, 8, 8, 8, 8, 8, 8, 8, 8, 8, 8, 8, 8, 8, 8, 8, 8, 8, 8, 8, 8, 8, 8, 8, 8, 8, 8, 8, 8, 8, 8, 8, 8, 8, 8, 8, 8, 8, 8, 8, 8, 8, 8, 8, 8, 8, 8, 8, 8, 8, 8, 8, 8, 8, 8, 8, 8, 8, 8, 8, 8, 8, 8, 8, 8, 8, 8, 8, 8, 8, 8, 8]⟩)) (.tmp 21), none⟩, ⟨(some 23), .conv .i64 (.tmp 22), none⟩, ⟨(some 24), .bin .add (.tmp 19) (.tmp 23), none⟩, ⟨(some 2), .mov (.tmp 24), none⟩])
 .ret))))) }
def h111 : Hints := ⟨[], [], []⟩
def a111 : AFn := { n := 6, np := 1, res := [.tmp 2], body :=
 (.seq (.reg [⟨(some 2), .mov (.val (.int .i64 0)), none⟩])
 (.seq (.reg [⟨(some 3), .mov (.tmp 0), none⟩, ⟨(some 4), .bin .mul (.tmp 3) (.val (.int .i64 78913)), none⟩, ⟨(some 5), .bin .shr (.tmp 4) (.val (.int .u64 18)), none⟩, ⟨(some 2), .mov (.tmp 5), none⟩])
 .ret)) }
def h112 : Hints := ⟨[], [], []⟩
def a112 : AFn := { n := 4, np := 1, res := [.tmp 2], body :=
 (.seq (.reg [⟨(some 2), .mov (.val (.int .i64 0)), none⟩])
 (.seq (.seq (.reg [⟨(some 3), .mov (.tmp 0), none⟩])
 (.cond (.tmp 3) (.seq (.reg [⟨(some 2), .mov (.val (.int .i64 1)), none⟩])
 .ret) .skip))
 (.seq (.reg [⟨(some 2), .mov (.val (.int .i64 0)), none⟩])
 .ret))) }
def h113 : Hints := ⟨[], [], []⟩
def a113 : AFn := { n := 8, np := 1, res := [.tmp 2], body :=
 (.seq (.reg [⟨(some 2), .mov (.val (.bool false)), none⟩])
 (.seq (.reg [⟨(some 3), .mov (.tmp 0), none⟩, ⟨(some 4), .mov (.tmp 0), none⟩, ⟨(some 5), .bin .sub (.tmp 4) (.val (.int .i64 1)), none⟩, ⟨(some 6), .bin .and (.tmp 3) (.tmp 5), none⟩, ⟨(some 7), .bin .eql (.tmp 6) (.val (.int .i64 0)), none⟩, ⟨(some 2), .mov (.tmp 7), none⟩])
 .ret)) }
def h114 : Hints := ⟨[], [], []⟩
def a114 : AFn := { n := 8, np := 1, res := [.tmp 2], body :=
 (.seq (.reg [⟨(some 2), .mov (.val (.int .i64 0)), none⟩])
 (.seq (.cond (.val (.bool false)) (.seq (.reg [⟨(some 3), .mov (.tmp 0), none⟩, ⟨(some 4), .conv .u32 (.tmp 3), none⟩, ⟨(some 5), .call 123 [(.tmp 4)], none⟩, ⟨(some 2), .mov (.tmp 5), none⟩])
 .ret) .skip)
 (.seq (.reg [⟨(some 6), .mov (.tmp 0), none⟩, ⟨(some 7), .call 124 [(.tmp 6)], none⟩, ⟨(some 2), .mov (.tmp 7), none⟩])
 .ret))) }
def h117 : Hints := ⟨[], [], []⟩
def a117_B1 : AC := (.block 1 (.seq (.reg [⟨(some 11), .mov (.tmp 8), none⟩, ⟨(some 12), .bin .mul (.val (.int .i64 2)) (.tmp 11), none⟩, ⟨(some 13), .bin .add (.tmp 12) (.val (.int .i64 1)), none⟩, ⟨(some 9), .mov (.tmp 13), none⟩])
 (.seq (.seq (.reg [⟨(some 14), .mov (.tmp 9), none⟩, ⟨(some 15), .mov (.tmp 2), none⟩, ⟨(some 16), .bin .geq (.tmp 14) (.tmp 15), none⟩])
 (.cond (.tmp 16) (.exit 0) .skip))
 (.seq (.seq (.dreg [(false, ⟨(some 17), .mov (.tmp 9), none⟩, false), (false, ⟨(some 18), .bin .add (.tmp 17) (.val (.int .i64 1)), none⟩, false), (false, ⟨(some 19), .mov (.tmp 2), none⟩, false), (false, ⟨(some 20), .bin .lss (.tmp 18) (.tmp 19), none⟩, false), (false, ⟨(some 21), .mov (.tmp 20), none⟩, false), (false, ⟨(some 22), .mov (.tmp 0), (some (21, true))⟩, false), (false, ⟨(some 23), .mov (.tmp 3), (some (21, true))⟩, false), (false, ⟨(some 24), .mov (.tmp 9), (some (21, true))⟩, false), (false, ⟨(some 25), .bin .add (.tmp 23) (.tmp 24), (some (21, true))⟩, false), (false, ⟨(some 26), .iaddrL 1 (.tmp 22) (.tmp 25), (some (21, true))⟩, false), (false, ⟨(some 27), .load none (.tmp 26), (some (21, true))⟩, false), (false, ⟨(some 28), .mov (.tmp 0), (some (21, true))⟩, false), (false, ⟨(some 29), .mov (.tmp 3), (some (21, true))⟩, false), (false, ⟨(some 30), .mov (.tmp 9), (some (21, true))⟩, false), (false, ⟨(some 31), .bin .add (.tmp 29) (.tmp 30), (some (21, true))⟩, false), (false, ⟨(some 32), .bin .add (.tmp 31) (.val (.int .i64 1)), (some (21, true))⟩, false), (false, ⟨(some 33), .iaddrL 1 (.tmp 28) (.tmp 32), (some (21, true))⟩, false), (false, ⟨(some 34), .load none (.tmp 33), (some (21, true))⟩, false), (false, ⟨(some 35), .call 106 [(.tmp 27), (.tmp 34)], (some (21, true))⟩, false), (false, ⟨(some 36), .pick (.tmp 21) (.tmp 35) (.val (.bool false)), none⟩, false)])
 (.cond (.tmp 36) (.reg [⟨(some 37), .mov (.tmp 9), none⟩, ⟨(some 38), .bin .add (.tmp 37) (.val (.int .i64 1)), none⟩, ⟨(some 9), .mov (.tmp 38), none⟩]) .skip))
 (.seq (.seq (.dreg [(false, ⟨(some 39), .mov (.tmp 0), none⟩, false), (false, ⟨(some 40), .mov (.tmp 3), none⟩, false), (false, ⟨(some 41), .mov (.tmp 8), none⟩, false), (false, ⟨(some 42), .bin .add (.tmp 40) (.tmp 41), none⟩, false), (false, ⟨(some 43), .iaddrL 1 (.tmp 39) (.tmp 42), none⟩, false), (false, ⟨(some 44), .load none (.tmp 43), none⟩, false), (false, ⟨(some 45), .mov (.tmp 0), none⟩, false), (false, ⟨(some 46), .mov (.tmp 3), none⟩, false), (false, ⟨(some 47), .mov (.tmp 9), none⟩, false), (false, ⟨(some 48), .bin .add (.tmp 46) (.tmp 47), none⟩, false), (false, ⟨(some 49), .iaddrL 1 (.tmp 45) (.tmp 48), none⟩, false), (false, ⟨(some 50), .load none (.tmp 49), none⟩, false), (false, ⟨(some 51), .call 106 [(.tmp 44), (.tmp 50)], none⟩, false), (false, ⟨(some 52), .un .not (.tmp 51), none⟩, false)])
 (.cond (.tmp 52) .ret .skip))
 (.seq (.dreg [(false, ⟨(some 53), .mov (.tmp 0), none⟩, false), (false, ⟨(some 54), .mov (.tmp 3), none⟩, false), (false, ⟨(some 55), .mov (.tmp 8), none⟩, false), (false, ⟨(some 56), .bin .add (.tmp 54) (.tmp 55), none⟩, false), (false, ⟨(some 57), .mov (.tmp 0), none⟩, false), (false, ⟨(some 58), .mov (.tmp 3), none⟩, false), (false, ⟨(some 59), .mov (.tmp 9), none⟩, false), (false, ⟨(some 60), .bin .add (.tmp 58) (.tmp 59), none⟩, false), (false, ⟨(some 61), .mov (.tmp 0), none⟩, false), (false, ⟨(some 62), .mov (.tmp 3), none⟩, false), (false, ⟨(some 63), .mov (.tmp 9), none⟩, false), (false, ⟨(some 64), .bin .add (.tmp 62) (.tmp 63), none⟩, false), (false, ⟨(some 65), .iaddrL 1 (.tmp 61) (.tmp 64), none⟩, false), (false, ⟨(some 66), .load none (.tmp 65), none⟩, false), (false, ⟨(some 67), .mov (.tmp 0), none⟩, false), (false, ⟨(some 68), .mov (.tmp 3), none⟩, false), (false, ⟨(some 69), .mov (.tmp 8), none⟩, false), (false, ⟨(some 70), .bin .add (.tmp 68) (.tmp 69), none⟩, false), (false, ⟨(some 71), .iaddrL 1 (.tmp 67) (.tmp 70), none⟩, false), (false, ⟨(some 72), .load none (.tmp 71), none⟩, false), (false, ⟨(some 73), .iaddrL 1 (.tmp 53) (.tmp 56), none⟩, false), (false, ⟨none, .store 1 (.tmp 73) (.tmp 66), none⟩, false), (false, ⟨(some 74), .iaddrL 1 (.tmp 57) (.tmp 60), none⟩, false), (false, ⟨none, .store 1 (.tmp 74) (.tmp 72), none⟩, false)])
 (.reg [⟨(some 75), .mov (.tmp 9), none⟩, ⟨(some 8), .mov (.tmp 75), none⟩])))))))
def a117_L1 : AC := .loop a117_B1
theorem a117_L1_step (call : Caller) (again : AC → St → Option (Ex × St)) (s : St) : codeEv call again a117_L1 s = match codeEv call again a117_B1 s with | some (.norm, s1) => again a117_L1 s1 | r => r := rfl
def a117 : AFn := { n := 76, np := 4, res := [], body :=
 (.seq (.reg [⟨(some 10), .mov (.tmp 1), none⟩, ⟨(some 8), .mov (.tmp 10), none⟩])
 (.block 0 a117_L1)) }
def h118 : Hints := ⟨[], [], []⟩
def a118 : AFn := { n := 7, np := 1, res := [.tmp 2], body :=
 (.seq (.reg [⟨(some 2), .mov (.val (.int .u64 0)), none⟩])
 (.seq (.reg [⟨(some 3), .mov (.tmp 0), none⟩, ⟨(some 4), .conv .u64 (.tmp 3), none⟩, ⟨(some 5), .call 88 [(.tmp 4)], none⟩, ⟨(some 6), .bin .shl (.val (.int .u64 1)) (.tmp 5), none⟩, ⟨(some 2), .mov (.tmp 6), none⟩])
 .ret)) }
def h119 : Hints := ⟨[], [], []⟩
def a119 : AFn := { n := 33, np := 1, res := [.tmp 2], body :=
 (.seq (.reg [⟨(some 2), .mov (.val (.int .u64 0)), none⟩])
 (.seq (.dreg [(false, ⟨(some 3), .mov (.tmp 0), none⟩, false), (false, ⟨(some 4), .nilck (.tmp 3), none⟩, false), (false, ⟨(some 5), .load none (.tmp 4), none⟩, false), (false, ⟨(some 6), .mov (.tmp 0), none⟩, false), (false, ⟨(some 7), .nilck (.tmp 6), none⟩, false), (false, ⟨(some 8), .load none (.tmp 7), none⟩, false), (false, ⟨(some 9), .bin .shl (.tmp 8) (.val (.int .u64 13)), none⟩, false), (false, ⟨(some 10), .bin .xor (.tmp 5) (.tmp 9), none⟩, false), (false, ⟨(some 11), .nilck (.tmp 3), none⟩, false), (false, ⟨none, .store 1 (.tmp 11) (.tmp 10), none⟩, false)])
 (.seq (.dreg [(false, ⟨(some 12), .mov (.tmp 0), none⟩, false), (false, ⟨(some 13), .nilck (.tmp 12), none⟩, false), (false, ⟨(some 14), .load none (.tmp 13), none⟩, false), (false, ⟨(some 15), .mov (.tmp 0), none⟩, false), (false, ⟨(some 16), .nilck (.tmp 15), none⟩, false), (false, ⟨(some 17), .load none (.tmp 16), none⟩, false), (false, ⟨(some 18), .bin .shr (.tmp 17) (.val (.int .u64 7)), none⟩, false), (false, ⟨(some 19), .bin .xor (.tmp 14) (.tmp 18), none⟩, false), (false, ⟨(some 20), .nilck (.tmp 12), none⟩, false), (false, ⟨none, .store 1 (.tmp 20) (.tmp 19), none⟩, false)])
 (.seq (.dreg [(false, ⟨(some 21), .mov (.tmp 0), none⟩, false), (false, ⟨(some 22), .nilck (.tmp 21), none⟩, false), (false, ⟨(some 23), .load none (.tmp 22), none⟩, false), (false, ⟨(some 24), .mov (.tmp 0), none⟩, false), (false, ⟨(some 25), .nilck (.tmp 24), none⟩, false), (false, ⟨(some 26), .load none (.tmp 25), none⟩, false), (false, ⟨(some 27), .bin .shl (.tmp 26) (.val (.int .u64 17)), none⟩, false), (false, ⟨(some 28), .bin .xor (.tmp 23) (.tmp 27), none⟩, false), (false, ⟨(some 29), .nilck (.tmp 21), none⟩, false), (false, ⟨none, .store 1 (.tmp 29) (.tmp 28), none⟩, false)])
 (.seq (.reg [⟨(some 30), .mov (.tmp 0), none⟩, ⟨(some 31), .nilck (.tmp 30), none⟩, ⟨(some 32), .load none (.tmp 31), none⟩, ⟨(some 2), .mov (.tmp 32), none⟩])
 .ret))))) }
def h120 : Hints := ⟨[], [], []⟩
def a120 : AFn := { n := 15, np := 3, res := [.tmp 6], body :=
 (.seq (.reg [⟨(some 6), .mov (.val (.int .i64 0)), none⟩])
 (.seq (.reg [⟨(some 7), .mov (.tmp 0), none⟩, ⟨(some 8), .mov (.tmp 1), none⟩, ⟨(some 9), .bin .sub (.tmp 8) (.val (.int .i64 1)), none⟩, ⟨(some 10), .mov (.tmp 1), none⟩, ⟨(some 11), .mov (.tmp 1), none⟩, ⟨(some 12), .bin .add (.tmp 11) (.val (.int .i64 1)), none⟩, ⟨(some 13), .mov (.tmp 2), none⟩, ⟨(some 14), .call 121 [(.tmp 7), (.tmp 9), (.tmp 10), (.tmp 12), (.tmp 13)], none⟩, ⟨(some 6), .mov (.tmp 14), none⟩])
 .ret)) }
def h121 : Hints := ⟨[], [], []⟩
def a121 : AFn := { n := 36, np := 5, res := [.tmp 10], body :=
 (.seq (.reg [⟨(some 10), .mov (.val (.int .i64 0)), none⟩])
 (.seq (.reg [⟨(some 12), .mov (.tmp 0), none⟩, ⟨(some 13), .mov (.tmp 1), none⟩, ⟨(some 14), .mov (.tmp 2), none⟩, ⟨(some 15), .mov (.tmp 4), none⟩, ⟨(some 16), .call 125 [(.tmp 12), (.tmp 13), (.tmp 14), (.tmp 15)], none⟩, ⟨(some 11), .mov (.tmp 16), none⟩, ⟨(some 17), .ext (.tmp 11) 0, none⟩, ⟨(some 18), .ext (.tmp 11) 1, none⟩, ⟨(some 1), .mov (.tmp 17), none⟩, ⟨(some 2), .mov (.tmp 18), none⟩])
 (.seq (.reg [⟨(some 20), .mov (.tmp 0), none⟩, ⟨(some 21), .mov (.tmp 2), none⟩, ⟨(some 22), .mov (.tmp 3), none⟩, ⟨(some 23), .mov (.tmp 4), none⟩, ⟨(some 24), .call 125 [(.tmp 20), (.tmp 21), (.tmp 22), (.tmp 23)], none⟩, ⟨(some 19), .mov (.tmp 24), none⟩, ⟨(some 25), .ext (.tmp 19) 0, none⟩, ⟨(some 26), .ext (.tmp 19) 1, none⟩, ⟨(some 2), .mov (.tmp 25), none⟩, ⟨(some 3), .mov (.tmp 26), none⟩])
 (.seq (.reg [⟨(some 28), .mov (.tmp 0), none⟩, ⟨(some 29), .mov (.tmp 1), none⟩, ⟨(some 30), .mov (.tmp 2), none⟩, ⟨(some 31), .mov (.tmp 4), none⟩, ⟨(some 32), .call 125 [(.tmp 28), (.tmp 29), (.tmp 30), (.tmp 31)], none⟩, ⟨(some 27), .mov (.tmp 32), none⟩, ⟨(some 33), .ext (.tmp 27) 0, none⟩, ⟨(some 34), .ext (.tmp 27) 1, none⟩, ⟨(some 1), .mov (.tmp 33), none⟩, ⟨(some 2), .mov (.tmp 34), none⟩])
 (.seq (.reg [⟨(some 35), .mov (.tmp 2), none⟩, ⟨(some 10), .mov (.tmp 35), none⟩])
 .ret))))) }
def h122 : Hints := ⟨[], [], []⟩
def a122 : AFn := { n := 6, np := 1, res := [.tmp 2], body :=
 (.seq (.reg [⟨(some 2), .mov (.val (.bool false)), none⟩])
 (.seq (.reg [⟨(some 3), .mov (.tmp 0), none⟩, ⟨(some 4), .mov (.tmp 0), none⟩, ⟨(some 5), .bin .neq (.tmp 3) (.tmp 4), none⟩, ⟨(some 2), .mov (.tmp 5), none⟩])
 .ret)) }
def h123 : Hints := ⟨[], [], []⟩
def a123 : AFn := { n := 14, np := 1, res := [.tmp 2], body :=
 (.seq (.reg [⟨(some 2), .mov (.val (.int .i64 0)), none⟩])
 (.seq (.seq (.reg [⟨(some 3), .mov (.tmp 0), none⟩, ⟨(some 4), .bin .eql (.tmp 3) (.val (.int .u32 0)), none⟩])
 (.cond (.tmp 4) (.seq (.reg [⟨(some 2), .mov (.val (.int .i64 32)), none⟩])
 .ret) .skip))
 (.seq (.reg [⟨(some 5), .mov (.tmp 0), none⟩, ⟨(some 6), .mov (.tmp 0), none⟩, ⟨(some 7), .un .neg (.tmp 6), none⟩, ⟨(some 8), .bin .and (.tmp 5) (.tmp 7), none⟩, ⟨(some 9), .bin .mul (.tmp 8) (.val (.int .u32 125613361)), none⟩, ⟨(some 10), .bin .shr (.tmp 9) (.val (.int .u64 27)), none⟩, ⟨(some 11), .iaddrA 32 1 (.val (.ptr 9 0)) (.tmp 10), none⟩, ⟨(some 12), .load none (.tmp 11), none⟩, ⟨(some 13), .conv .i64 (.tmp 12), none⟩, ⟨(some 2), .mov (.tmp 13), none⟩])
 .ret))) }
def h124 : Hints := ⟨[], [], []⟩
def a124 : AFn := { n := 14, np := 1, res := [.tmp 2], body :=
 (.seq (.reg [⟨(some 2), .mov (.val (.int .i64 0)), none⟩])
 (.seq (.seq (.reg [⟨(some 3), .mov (.tmp 0), none⟩, ⟨(some 4), .bin .eql (.tmp 3) (.val (.int .u64 0)), none⟩])
 (.cond (.tmp 4) (.seq (.reg [⟨(some 2), .mov (.val (.int .i64 64)), none⟩])
 .ret) .skip))
 (.seq (.reg [⟨(some 5), .mov (.tmp 0), none⟩, ⟨(some 6), .mov (.tmp 0), none⟩, ⟨(some 7), .un .neg (.tmp 6), none⟩, ⟨(some 8), .bin .and (.tmp 5) (.tmp 7), none⟩, ⟨(some 9), .bin .mul (.tmp 8) (.val (.int .u64 285870213051353865)), none⟩, ⟨(some 10), .bin .shr (.tmp 9) (.val (.int .u64 58)), none⟩, ⟨(some 11), .iaddrA 64 1 (.val (.ptr 10 0)) (.tmp 10), none⟩, ⟨(some 12), .load none (.tmp 11), none⟩, ⟨(some 13), .conv .i64 (.tmp 12), none⟩, ⟨(some 2), .mov (.tmp 13), none⟩])
 .ret))) }
def h125 : Hints := ⟨[], [], []⟩
def a125 : AFn := { n := 28, np := 4, res := [.tmp 8, .tmp 9], body :=
 (.seq (.reg [⟨(some 8), .mov (.val (.int .i64 0)), none⟩, ⟨(some 9), .mov (.val (.int .i64 0)), none⟩])
 (.seq (.seq (.dreg [(false, ⟨(some 10), .mov (.tmp 0), none⟩, false), (false, ⟨(some 11), .mov (.tmp 2), none⟩, false), (false, ⟨(some 12), .iaddrL 1 (.tmp 10) (.tmp 11), none⟩, false), (false, ⟨(some 13), .load none (.tmp 12), none⟩, false), (false, ⟨(some 14), .mov (.tmp 0), none⟩, false), (false, ⟨(some 15), .mov (.tmp 1), none⟩, false), (false, ⟨(some 16), .iaddrL 1 (.tmp 14) (.tmp 15), none⟩, false), (false, ⟨(some 17), .load none (.tmp 16), none⟩, false), (false, ⟨(some 18), .call 106 [(.tmp 13), (.tmp 17)], none⟩, false)])
 (.cond (.tmp 18) (.seq (.reg [⟨(some 19), .mov (.tmp 3), none⟩, ⟨(some 20), .nilck (.tmp 19), none⟩, ⟨(some 21), .load none (.tmp 20), none⟩, ⟨(some 22), .bin .add (.tmp 21) (.val (.int .i64 1)), none⟩, ⟨(some 23), .nilck (.tmp 19), none⟩, ⟨none, .store 1 (.tmp 23) (.tmp 22), none⟩])
 (.seq (.reg [⟨(some 24), .mov (.tmp 2), none⟩, ⟨(some 25), .mov (.tmp 1), none⟩, ⟨(some 8), .mov (.tmp 24), none⟩, ⟨(some 9), .mov (.tmp 25), none⟩])
 .ret)) .skip))
 (.seq (.reg [⟨(some 26), .mov (.tmp 1), none⟩, ⟨(some 27), .mov (.tmp 2), none⟩, ⟨(some 8), .mov (.tmp 26), none⟩, ⟨(some 9), .mov (.tmp 27), none⟩])
 .ret))) }
def h148 : Hints := ⟨[1], [], []⟩
def a148_B1 : AC := (.seq (.reg [⟨(some 50), .bin .lss (.tmp 49) (.tmp 48), none⟩])
 (.seq (.cond (.tmp 50) .skip (.exit 0))
 (.seq (.block 1 (.seq (.reg [⟨(some 51), .iaddrL 1 (.tmp 47) (.tmp 49), none⟩, ⟨(some 52), .load none (.tmp 51), none⟩, ⟨(some 4), .mov (.tmp 52), none⟩])
 (.seq (.reg [⟨(some 53), .mov (.tmp 4), none⟩, ⟨(some 54), .lenL (.tmp 53), none⟩, ⟨(some 55), .bin .gtr (.tmp 54) (.val (.int .i64 4096)), none⟩])
 (.cond (.tmp 55) (.seq (.reg [⟨(some 2), .mov (.val (.int .i64 3)), none⟩])
 .ret) .skip))))
 (.reg [⟨(some 56), .bin .add (.tmp 49) (.val (.int .i64 1)), none⟩, ⟨(some 49), .mov (.tmp 56), none⟩]))))
def a148_L1 : AC := .loop a148_B1
theorem a148_L1_step (call : Caller) (again : AC → St → Option (Ex × St)) (s : St) : codeEv call again a148_L1 s = match codeEv call again a148_B1 s with | some (.norm, s1) => again a148_L1 s1 | r => r := rfl
def a148 : AFn := { n := 57, np := 1, res := [.tmp 2], body :=
 (.seq (.reg [⟨(some 1), .box (some 1) (.tmp 0), none⟩, ⟨(some 2), .mov (.val (.int .i64 0)), none⟩])
 (.seq (.seq (.reg [⟨(some 5), .faddr 0 (.tmp 1), none⟩, ⟨(some 6), .faddr 1 (.tmp 5), none⟩, ⟨(some 7), .load none (.tmp 6), none⟩, ⟨(some 8), .lenL (.tmp 7), none⟩, ⟨(some 9), .bin .gtr (.tmp 8) (.val (.int .i64 64)), none⟩, ⟨(some 10), .mov (.tmp 9), none⟩, ⟨(some 11), .faddr 0 (.tmp 1), (some (10, false))⟩, ⟨(some 12), .faddr 0 (.tmp 11), (some (10, false))⟩, ⟨(some 13), .load none (.tmp 12), (some (10, false))⟩, ⟨(some 14), .lenL (.tmp 13), (some (10, false))⟩, ⟨(some 15), .bin .gtr (.tmp 14) (.val (.int .i64 16384)), (some (10, false))⟩, ⟨(some 16), .pick (.tmp 10) (.val (.bool true)) (.tmp 15), none⟩, ⟨(some 17), .mov (.tmp 16), none⟩, ⟨(some 18), .faddr 0 (.tmp 1), (some (17, false))⟩, ⟨(some 19), .faddr 4 (.tmp 18), (some (17, false))⟩, ⟨(some 20), .load none (.tmp 19), (some (17, false))⟩, ⟨(some 21), .lenL (.tmp 20), (some (17, false))⟩, ⟨(some 22), .bin .gtr (.tmp 21) (.val (.int .i64 4096)), (some (17, false))⟩, ⟨(some 23), .pick (.tmp 17) (.val (.bool true)) (.tmp 22), none⟩, ⟨(some 24), .mov (.tmp 23), none⟩, ⟨(some 25), .faddr 0 (.tmp 1), (some (24, false))⟩, ⟨(some 26), .faddr 5 (.tmp 25), (some (24, false))⟩, ⟨(some 27), .load none (.tmp 26), (some (24, false))⟩, ⟨(some 28), .lenL (.tmp 27), (some (24, false))⟩, ⟨(some 29), .bin .gtr (.tmp 28) (.val (.int .i64 32)), (some (24, false))⟩, ⟨(some 30), .pick (.tmp 24) (.val (.bool true)) (.tmp 29), none⟩, ⟨(some 31), .mov (.tmp 30), none⟩, ⟨(some 32), .faddr 0 (.tmp 1), (some (31, false))⟩, ⟨(some 33), .faddr 7 (.tmp 32), (some (31, false))⟩, ⟨(some 34), .load none (.tmp 33), (some (31, false))⟩, ⟨(some 35), .lenL (.tmp 34), (some (31, false))⟩, ⟨(some 36), .bin .gtr (.tmp 35) (.val (.int .i64 64)), (some (31, false))⟩, ⟨(some 37), .pick (.tmp 31) (.val (.bool true)) (.tmp 36), none⟩, ⟨(some 38), .mov (.tmp 37), none⟩, ⟨(some 39), .faddr 0 (.tmp 1), (some (38, false))⟩, ⟨(some 40), .faddr 2 (.tmp 39), (some (38, false))⟩, ⟨(some 41), .load none (.tmp 40), (some (38, false))⟩, ⟨(some 42), .lenL (.tmp 41), (some (38, false))⟩, ⟨(some 43), .bin .gtr (.tmp 42) (.val (.int .i64 32)), (some (38, false))⟩, ⟨(some 44), .pick (.tmp 38) (.val (.bool true)) (.tmp 43), none⟩])
 (.cond (.tmp 44) (.seq (.reg [⟨(some 2), .mov (.val (.int .i64 3)), none⟩])
 .ret) .skip))
 (.seq (.seq (.reg [⟨(some 45), .faddr 0 (.tmp 1), none⟩, ⟨(some 46), .faddr 7 (.tmp 45), none⟩, ⟨(some 47), .load none (.tmp 46), none⟩, ⟨(some 48), .lenL (.tmp 47), none⟩, ⟨(some 49), .mov (.val (.int .i64 0)), none⟩])
 (.block 0 a148_L1))
 (.seq (.reg [⟨(some 2), .mov (.val (.int .i64 0)), none⟩])
 .ret)))) }
def h149 : Hints := ⟨[1, 4], [], []⟩
def a149_B1 : AC := (.seq (.reg [⟨(some 57), .bin .lss (.tmp 56) (.tmp 55), none⟩])
 (.seq (.cond (.tmp 57) .skip (.exit 0))
 (.seq (.block 1 (.seq (.reg [⟨(some 58), .mov (.tmp 56), none⟩, ⟨(some 59), .iaddrL 3 (.tmp 54) (.tmp 56), none⟩, ⟨(some 60), .load (some 3) (.tmp 59), none⟩, ⟨(some 4), .alloc (some 4) [(.int .i64 0), (.int .i64 0), (.int .i64 0)], none⟩, ⟨(some 3), .mov (.tmp 58), none⟩, ⟨none, .store 3 (.tmp 4) (.tmp 60), none⟩])
 (.seq (.reg [⟨(some 62), .load (some 8) (.tmp 1), none⟩, ⟨(some 63), .mov (.tmp 3), none⟩, ⟨(some 64), .call 75 [(.tmp 62), (.tmp 63)], none⟩, ⟨(some 61), .mov (.tmp 64), none⟩, ⟨(some 65), .ext (.tmp 61) 0, none⟩, ⟨(some 66), .ext (.tmp 61) 1, none⟩, ⟨(some 5), .mov (.tmp 65), none⟩, ⟨(some 6), .mov (.tmp 66), none⟩])
 (.seq (.reg [⟨(some 67), .mov (.tmp 3), none⟩, ⟨(some 68), .bin .eql (.tmp 67) (.val (.int .i64 0)), none⟩, ⟨(some 69), .mov (.tmp 68), none⟩, ⟨(some 70), .mov (.tmp 5), (some (69, true))⟩, ⟨(some 71), .bin .neq (.tmp 70) (.val (.int .i64 0)), (some (69, true))⟩, ⟨(some 72), .pick (.tmp 69) (.tmp 71) (.val (.bool false)), none⟩, ⟨(some 73), .mov (.tmp 72), none⟩, ⟨(some 74), .mov (.tmp 5), (some (73, false))⟩, ⟨(some 75), .bin .lss (.tmp 74) (.val (.int .i64 0)), (some (73, false))⟩, ⟨(some 76), .pick (.tmp 73) (.val (.bool true)) (.tmp 75), none⟩, ⟨(some 77), .mov (.tmp 76), none⟩, ⟨(some 78), .mov (.tmp 5), (some (77, false))⟩, ⟨(some 79), .mov (.tmp 6), (some (77, false))⟩, ⟨(some 80), .bin .geq (.tmp 78) (.tmp 79), (some (77, false))⟩, ⟨(some 81), .pick (.tmp 77) (.val (.bool true)) (.tmp 80), none⟩, ⟨(some 82), .mov (.tmp 81), none⟩, ⟨(some 83), .mov (.tmp 6), (some (82, false))⟩, ⟨(some 84), .faddr 0 (.tmp 1), (some (82, false))⟩, ⟨(some 85), .faddr 0 (.tmp 84), (some (82, false))⟩, ⟨(some 86), .load none (.tmp 85), (some (82, false))⟩, ⟨(some 87), .lenL (.tmp 86), (some (82, false))⟩, ⟨(some 88), .bin .gtr (.tmp 83) (.tmp 87), (some (82, false))⟩, ⟨(some 89), .pick (.tmp 82) (.val (.bool true)) (.tmp 88), none⟩, ⟨(some 90), .mov (.tmp 89), none⟩, ⟨(some 91), .faddr 1 (.tmp 4), (some (90, false))⟩, ⟨(some 92), .load none (.tmp 91), (some (90, false))⟩, ⟨(some 93), .bin .lss (.tmp 92) (.val (.int .i64 0)), (some (90, false))⟩, ⟨(some 94), .pick (.tmp 90) (.val (.bool true)) (.tmp 93), none⟩, ⟨(some 95), .mov (.tmp 94), none⟩, ⟨(some 96), .faddr 1 (.tmp 4), (some (95, false))⟩, ⟨(some 97), .load none (.tmp 96), (some (95, false))⟩, ⟨(some 98), .faddr 2 (.tmp 4), (some (95, false))⟩, ⟨(some 99), .load none (.tmp 98), (some (95, false))⟩, ⟨(some 100), .bin .gtr (.tmp 97) (.tmp 99), (some (95, false))⟩, ⟨(some 101), .pick (.tmp 95) (.val (.bool true)) (.tmp 100), none⟩, ⟨(some 102), .mov (.tmp 101), none⟩, ⟨(some 103), .faddr 2 (.tmp 4), (some (102, false))⟩, ⟨(some 104), .load none (.tmp 103), (some (102, false))⟩, ⟨(some 105), .bin .gtr (.tmp 104) (.val (.int .i64 64)), (some (102, false))⟩, ⟨(some 106), .pick (.tmp 102) (.val (.bool true)) (.tmp 105), none⟩])
 (.cond (.tmp 106) (.seq (.reg [⟨(some 2), .mov (.val (.int .i64 2)), none⟩])
 .ret) .skip)))))
 (.reg [⟨(some 107), .bin .add (.tmp 56) (.val (.int .i64 1)), none⟩, ⟨(some 56), .mov (.tmp 107), none⟩]))))
def a149_L1 : AC := .loop a149_B1
theorem a149_L1_step (call : Caller) (again : AC → St → Option (Ex × St)) (s : St) : codeEv call again a149_L1 s = match codeEv call again a149_B1 s with | some (.norm, s1) => again a149_L1 s1 | r => r := rfl
def a149 : AFn := { n := 108, np := 1, res := [.tmp 2], body :=
 (.seq (.reg [⟨(some 1), .box (some 1) (.tmp 0), none⟩, ⟨(some 2), .mov (.val (.int .i64 0)), none⟩])
 (.seq (.seq (.reg [⟨(some 7), .faddr 0 (.tmp 1), none⟩, ⟨(some 8), .faddr 1 (.tmp 7), none⟩, ⟨(some 9), .load none (.tmp 8), none⟩, ⟨(some 10), .lenL (.tmp 9), none⟩, ⟨(some 11), .bin .eql (.tmp 10) (.val (.int .i64 0)), none⟩, ⟨(some 12), .mov (.tmp 11), none⟩, ⟨(some 13), .faddr 0 (.tmp 1), (some (12, false))⟩, ⟨(some 14), .faddr 6 (.tmp 13), (some (12, false))⟩, ⟨(some 15), .load none (.tmp 14), (some (12, false))⟩, ⟨(some 16), .bin .lss (.tmp 15) (.val (.int .i64 1)), (some (12, false))⟩, ⟨(some 17), .pick (.tmp 12) (.val (.bool true)) (.tmp 16), none⟩, ⟨(some 18), .mov (.tmp 17), none⟩, ⟨(some 19), .faddr 0 (.tmp 1), (some (18, false))⟩, ⟨(some 20), .faddr 6 (.tmp 19), (some (18, false))⟩, ⟨(some 21), .load none (.tmp 20), (some (18, false))⟩, ⟨(some 22), .bin .gtr (.tmp 21) (.val (.int .i64 65536)), (some (18, false))⟩, ⟨(some 23), .pick (.tmp 18) (.val (.bool true)) (.tmp 22), none⟩, ⟨(some 24), .mov (.tmp 23), none⟩, ⟨(some 25), .faddr 0 (.tmp 1), (some (24, false))⟩, ⟨(some 26), .faddr 3 (.tmp 25), (some (24, false))⟩, ⟨(some 27), .load none (.tmp 26), (some (24, false))⟩, ⟨(some 28), .bin .lss (.tmp 27) (.val (.int .i64 0)), (some (24, false))⟩, ⟨(some 29), .pick (.tmp 24) (.val (.bool true)) (.tmp 28), none⟩, ⟨(some 30), .mov (.tmp 29), none⟩, ⟨(some 31), .faddr 0 (.tmp 1), (some (30, false))⟩, ⟨(some 32), .faddr 3 (.tmp 31), (some (30, false))⟩, ⟨(some 33), .load none (.tmp 32), (some (30, false))⟩, ⟨(some 34), .faddr 0 (.tmp 1), (some (30, false))⟩, ⟨(some 35), .faddr 1 (.tmp 34), (some (30, false))⟩, ⟨(some 36), .load none (.tmp 35), (some (30, false))⟩, ⟨(some 37), .lenL (.tmp 36), (some (30, false))⟩, ⟨(some 38), .bin .geq (.tmp 33) (.tmp 37), (some (30, false))⟩, ⟨(some 39), .pick (.tmp 30) (.val (.bool true)) (.tmp 38), none⟩, ⟨(some 40), .mov (.tmp 39), none⟩, ⟨(some 41), .faddr 0 (.tmp 1), (some (40, false))⟩, ⟨(some 42), .faddr 1 (.tmp 41), (some (40, false))⟩, ⟨(some 43), .load none (.tmp 42), (some (40, false))⟩, ⟨(some 44), .faddr 0 (.tmp 1), (some (40, false))⟩, ⟨(some 45), .faddr 3 (.tmp 44), (some (40, false))⟩, ⟨(some 46), .load none (.tmp 45), (some (40, false))⟩, ⟨(some 47), .iaddrL 3 (.tmp 43) (.tmp 46), (some (40, false))⟩, ⟨(some 48), .faddr 1 (.tmp 47), (some (40, false))⟩, ⟨(some 49), .load none (.tmp 48), (some (40, false))⟩, ⟨(some 50), .bin .neq (.tmp 49) (.val (.int .i64 0)), (some (40, false))⟩, ⟨(some 51), .pick (.tmp 40) (.val (.bool true)) (.tmp 50), none⟩])
 (.cond (.tmp 51) (.seq (.reg [⟨(some 2), .mov (.val (.int .i64 2)), none⟩])
 .ret) .skip))
 (.seq (.seq (.reg [⟨(some 52), .faddr 0 (.tmp 1), none⟩, ⟨(some 53), .faddr 1 (.tmp 52), none⟩, ⟨(some 54), .load none (.tmp 53), none⟩, ⟨(some 55), .lenL (.tmp 54), none⟩, ⟨(some 56), .mov (.val (.int .i64 0)), none⟩])
 (.block 0 a149_L1))
 (.seq (.reg [⟨(some 2), .mov (.val (.int .i64 0)), none⟩])
 .ret)))) }
def h150 : Hints := ⟨[1, 4], [], []⟩
def a150_B1 : AC := (.seq (.reg [⟨(some 15), .bin .lss (.tmp 14) (.tmp 13), none⟩])
 (.seq (.cond (.tmp 15) .skip (.exit 0))
 (.seq (.block 1 (.seq (.reg [⟨(some 16), .iaddrL 3 (.tmp 12) (.tmp 14), none⟩, ⟨(some 17), .load (some 3) (.tmp 16), none⟩, ⟨(some 4), .alloc (some 4) [(.int .i64 0), (.int .i64 0), (.int .i64 0)], none⟩, ⟨none, .store 3 (.tmp 4) (.tmp 17), none⟩])
 (.seq (.reg [⟨(some 18), .faddr 2 (.tmp 4), none⟩, ⟨(some 19), .load none (.tmp 18), none⟩, ⟨(some 20), .faddr 0 (.tmp 1), none⟩, ⟨(some 21), .faddr 1 (.tmp 20), none⟩, ⟨(some 22), .load none (.tmp 21), none⟩, ⟨(some 23), .lenL (.tmp 22), none⟩, ⟨(some 24), .bin .geq (.tmp 19) (.tmp 23), none⟩, ⟨(some 25), .mov (.tmp 24), none⟩, ⟨(some 26), .faddr 2 (.tmp 4), (some (25, false))⟩, ⟨(some 27), .load none (.tmp 26), (some (25, false))⟩, ⟨(some 28), .faddr 0 (.tmp 1), (some (25, false))⟩, ⟨(some 29), .faddr 3 (.tmp 28), (some (25, false))⟩, ⟨(some 30), .load none (.tmp 29), (some (25, false))⟩, ⟨(some 31), .bin .eql (.tmp 27) (.tmp 30), (some (25, false))⟩, ⟨(some 32), .pick (.tmp 25) (.val (.bool true)) (.tmp 31), none⟩, ⟨(some 33), .mov (.tmp 32), none⟩, ⟨(some 34), .faddr 0 (.tmp 1), (some (33, false))⟩, ⟨(some 35), .faddr 1 (.tmp 34), (some (33, false))⟩, ⟨(some 36), .load none (.tmp 35), (some (33, false))⟩, ⟨(some 37), .faddr 2 (.tmp 4), (some (33, false))⟩, ⟨(some 38), .load none (.tmp 37), (some (33, false))⟩, ⟨(some 39), .iaddrL 3 (.tmp 36) (.tmp 38), (some (33, false))⟩, ⟨(some 40), .faddr 1 (.tmp 39), (some (33, false))⟩, ⟨(some 41), .load none (.tmp 40), (some (33, false))⟩, ⟨(some 42), .bin .neq (.tmp 41) (.val (.int .i64 0)), (some (33, false))⟩, ⟨(some 43), .pick (.tmp 33) (.val (.bool true)) (.tmp 42), none⟩])
 (.cond (.tmp 43) (.seq (.reg [⟨(some 2), .mov (.val (.int .i64 2)), none⟩])
 .ret) .skip))))
 (.reg [⟨(some 44), .bin .add (.tmp 14) (.val (.int .i64 1)), none⟩, ⟨(some 14), .mov (.tmp 44), none⟩]))))
def a150_L1 : AC := .loop a150_B1
theorem a150_L1_step (call : Caller) (again : AC → St → Option (Ex × St)) (s : St) : codeEv call again a150_L1 s = match codeEv call again a150_B1 s with | some (.norm, s1) => again a150_L1 s1 | r => r := rfl
def a150 : AFn := { n := 45, np := 1, res := [.tmp 2], body :=
 (.seq (.reg [⟨(some 1), .box (some 1) (.tmp 0), none⟩, ⟨(some 2), .mov (.val (.int .i64 0)), none⟩])
 (.seq (.seq (.reg [⟨(some 5), .faddr 0 (.tmp 1), none⟩, ⟨(some 6), .faddr 2 (.tmp 5), none⟩, ⟨(some 7), .load none (.tmp 6), none⟩, ⟨(some 8), .call 154 [(.tmp 7)], none⟩, ⟨(some 9), .bin .neq (.tmp 8) (.val (.int .i64 0)), none⟩])
 (.cond (.tmp 9) (.seq (.reg [⟨(some 2), .mov (.val (.int .i64 2)), none⟩])
 .ret) .skip))
 (.seq (.seq (.reg [⟨(some 10), .faddr 0 (.tmp 1), none⟩, ⟨(some 11), .faddr 2 (.tmp 10), none⟩, ⟨(some 12), .load none (.tmp 11), none⟩, ⟨(some 13), .lenL (.tmp 12), none⟩, ⟨(some 14), .mov (.val (.int .i64 0)), none⟩])
 (.block 0 a150_L1))
 (.seq (.reg [⟨(some 2), .mov (.val (.int .i64 0)), none⟩])
 .ret)))) }
def h151 : Hints := ⟨[1, 7], [], []⟩
def a151_B1 : AC := (.seq (.reg [⟨(some 30), .bin .lss (.tmp 29) (.tmp 28), none⟩])
 (.seq (.cond (.tmp 30) .skip (.exit 2))
 (.seq (.block 3 (.seq (.reg [⟨(some 31), .iaddrL 4 (.tmp 27) (.tmp 29), none⟩, ⟨(some 32), .load (some 4) (.tmp 31), none⟩, ⟨(some 7), .alloc (some 7) [(.int .i64 0), (.int .i64 0), (.int .i64 0), (.int .i64 0)], none⟩, ⟨none, .store 4 (.tmp 7) (.tmp 32), none⟩])
 (.seq (.reg [⟨(some 33), .load (some 4) (.tmp 7), none⟩, ⟨(some 34), .call 12 [(.tmp 33)], none⟩, ⟨(some 35), .bin .neq (.tmp 34) (.val (.int .i64 0)), none⟩, ⟨(some 36), .mov (.tmp 35), none⟩, ⟨(some 37), .load (some 8) (.tmp 1), (some (36, false))⟩, ⟨(some 38), .mov (.tmp 3), (some (36, false))⟩, ⟨(some 39), .mov (.tmp 4), (some (36, false))⟩, ⟨(some 40), .mov (.tmp 5), (some (36, false))⟩, ⟨(some 41), .load (some 4) (.tmp 7), (some (36, false))⟩, ⟨(some 42), .call 155 [(.tmp 37), (.tmp 38), (.tmp 39), (.tmp 40), (.tmp 41)], (some (36, false))⟩, ⟨(some 43), .un .not (.tmp 42), (some (36, false))⟩, ⟨(some 44), .pick (.tmp 36) (.val (.bool true)) (.tmp 43), none⟩])
 (.cond (.tmp 44) (.seq (.reg [⟨(some 2), .mov (.val (.int .i64 2)), none⟩])
 .ret) .skip))))
 (.reg [⟨(some 45), .bin .add (.tmp 29) (.val (.int .i64 1)), none⟩, ⟨(some 29), .mov (.tmp 45), none⟩]))))
def a151_L1 : AC := .loop a151_B1
theorem a151_L1_step (call : Caller) (again : AC → St → Option (Ex × St)) (s : St) : codeEv call again a151_L1 s = match codeEv call again a151_B1 s with | some (.norm, s1) => again a151_L1 s1 | r => r := rfl
def a151_B2 : AC := (.seq (.reg [⟨(some 14), .bin .lss (.tmp 13) (.tmp 12), none⟩])
 (.seq (.cond (.tmp 14) .skip (.exit 0))
 (.seq (.block 1 (.seq (.reg [⟨(some 15), .mov (.tmp 13), none⟩, ⟨(some 3), .mov (.tmp 15), none⟩])
 (.seq (.reg [⟨(some 17), .load (some 8) (.tmp 1), none⟩, ⟨(some 18), .mov (.tmp 3), none⟩, ⟨(some 19), .call 75 [(.tmp 17), (.tmp 18)], none⟩, ⟨(some 16), .mov (.tmp 19), none⟩, ⟨(some 20), .ext (.tmp 16) 0, none⟩, ⟨(some 21), .ext (.tmp 16) 1, none⟩, ⟨(some 4), .mov (.tmp 20), none⟩, ⟨(some 5), .mov (.tmp 21), none⟩])
 (.seq (.seq (.reg [⟨(some 22), .faddr 0 (.tmp 1), none⟩, ⟨(some 23), .faddr 0 (.tmp 22), none⟩, ⟨(some 24), .load none (.tmp 23), none⟩, ⟨(some 25), .mov (.tmp 4), none⟩, ⟨(some 26), .mov (.tmp 5), none⟩, ⟨(some 27), .slcL 4 (.tmp 24) (some (.tmp 25)) (some (.tmp 26)) none, none⟩, ⟨(some 28), .lenL (.tmp 27), none⟩, ⟨(some 29), .mov (.val (.int .i64 0)), none⟩])
 (.block 2 a151_L1))
 (.seq (.reg [⟨(some 46), .faddr 0 (.tmp 1), none⟩, ⟨(some 47), .faddr 0 (.tmp 46), none⟩, ⟨(some 48), .load none (.tmp 47), none⟩, ⟨(some 49), .mov (.tmp 5), none⟩, ⟨(some 50), .bin .sub (.tmp 49) (.val (.int .i64 1)), none⟩, ⟨(some 51), .iaddrL 4 (.tmp 48) (.tmp 50), none⟩, ⟨(some 52), .faddr 0 (.tmp 51), none⟩, ⟨(some 53), .load none (.tmp 52), none⟩, ⟨(some 8), .mov (.tmp 53), none⟩])
 (.seq (.reg [⟨(some 54), .mov (.tmp 8), none⟩, ⟨(some 55), .bin .neq (.tmp 54) (.val (.int .i64 1)), none⟩, ⟨(some 56), .mov (.tmp 55), none⟩, ⟨(some 57), .mov (.tmp 8), (some (56, true))⟩, ⟨(some 58), .bin .neq (.tmp 57) (.val (.int .i64 15)), (some (56, true))⟩, ⟨(some 59), .pick (.tmp 56) (.tmp 58) (.val (.bool false)), none⟩, ⟨(some 60), .mov (.tmp 59), none⟩, ⟨(some 61), .mov (.tmp 8), (some (60, true))⟩, ⟨(some 62), .bin .neq (.tmp 61) (.val (.int .i64 18)), (some (60, true))⟩, ⟨(some 63), .pick (.tmp 60) (.tmp 62) (.val (.bool false)), none⟩])
 (.cond (.tmp 63) (.seq (.reg [⟨(some 2), .mov (.val (.int .i64 2)), none⟩])
 .ret) .skip)))))))
 (.reg [⟨(some 64), .bin .add (.tmp 13) (.val (.int .i64 1)), none⟩, ⟨(some 13), .mov (.tmp 64), none⟩]))))
def a151_L2 : AC := .loop a151_B2
theorem a151_L2_step (call : Caller) (again : AC → St → Option (Ex × St)) (s : St) : codeEv call again a151_L2 s = match codeEv call again a151_B2 s with | some (.norm, s1) => again a151_L2 s1 | r => r := rfl
def a151 : AFn := { n := 65, np := 1, res := [.tmp 2], body :=
 (.seq (.reg [⟨(some 1), .box (some 1) (.tmp 0), none⟩, ⟨(some 2), .mov (.val (.int .i64 0)), none⟩])
 (.seq (.seq (.reg [⟨(some 9), .faddr 0 (.tmp 1), none⟩, ⟨(some 10), .faddr 1 (.tmp 9), none⟩, ⟨(some 11), .load none (.tmp 10), none⟩, ⟨(some 12), .lenL (.tmp 11), none⟩, ⟨(some 13), .mov (.val (.int .i64 0)), none⟩])
 (.block 0 a151_L2))
 (.seq (.reg [⟨(some 2), .mov (.val (.int .i64 0)), none⟩])
 .ret))) }
def h152 : Hints := ⟨[1], [], []⟩
def a152_B1 : AC := (.seq (.reg [⟨(some 18), .bin .lss (.tmp 17) (.tmp 16), none⟩])
 (.seq (.cond (.tmp 18) .skip (.exit 2))
 (.seq (.block 3 (.seq (.reg [⟨(some 19), .mov (.tmp 17), none⟩, ⟨(some 20), .iaddrL 1 (.tmp 15) (.tmp 17), none⟩, ⟨(some 21), .load none (.tmp 20), none⟩, ⟨(some 5), .mov (.tmp 19), none⟩, ⟨(some 6), .mov (.tmp 21), none⟩])
 (.seq (.reg [⟨(some 22), .mov (.tmp 6), none⟩, ⟨(some 23), .bin .lss (.tmp 22) (.val (.int .i64 0)), none⟩, ⟨(some 24), .mov (.tmp 23), none⟩, ⟨(some 25), .mov (.tmp 6), (some (24, false))⟩, ⟨(some 26), .faddr 0 (.tmp 1), (some (24, false))⟩, ⟨(some 27), .faddr 4 (.tmp 26), (some (24, false))⟩, ⟨(some 28), .load none (.tmp 27), (some (24, false))⟩, ⟨(some 29), .lenL (.tmp 28), (some (24, false))⟩, ⟨(some 30), .bin .geq (.tmp 25) (.tmp 29), (some (24, false))⟩, ⟨(some 31), .pick (.tmp 24) (.val (.bool true)) (.tmp 30), none⟩, ⟨(some 32), .mov (.tmp 31), none⟩, ⟨(some 33), .mov (.tmp 5), (some (32, false))⟩, ⟨(some 34), .bin .gtr (.tmp 33) (.val (.int .i64 0)), (some (32, false))⟩, ⟨(some 35), .mov (.tmp 34), (some (32, false))⟩, ⟨(some 36), .mov (.tmp 6), (some (35, true))⟩, ⟨(some 37), .mov (.tmp 4), (some (35, true))⟩, ⟨(some 38), .mov (.tmp 5), (some (35, true))⟩, ⟨(some 39), .bin .sub (.tmp 38) (.val (.int .i64 1)), (some (35, true))⟩, ⟨(some 40), .iaddrL 1 (.tmp 37) (.tmp 39), (some (35, true))⟩, ⟨(some 41), .load none (.tmp 40), (some (35, true))⟩, ⟨(some 42), .bin .leq (.tmp 36) (.tmp 41), (some (35, true))⟩, ⟨(some 43), .pick (.tmp 35) (.tmp 42) (.val (.bool false)), (some (32, false))⟩, ⟨(some 44), .pick (.tmp 32) (.val (.bool true)) (.tmp 43), none⟩])
 (.cond (.tmp 44) (.seq (.reg [⟨(some 2), .mov (.val (.int .i64 2)), none⟩])
 .ret) .skip))))
 (.reg [⟨(some 45), .bin .add (.tmp 17) (.val (.int .i64 1)), none⟩, ⟨(some 17), .mov (.tmp 45), none⟩]))))
def a152_L1 : AC := .loop a152_B1
theorem a152_L1_step (call : Caller) (again : AC → St → Option (Ex × St)) (s : St) : codeEv call again a152_L1 s = match codeEv call again a152_B1 s with | some (.norm, s1) => again a152_L1 s1 | r => r := rfl
def a152_B2 : AC := (.seq (.reg [⟨(some 12), .bin .lss (.tmp 11) (.tmp 10), none⟩])
 (.seq (.cond (.tmp 12) .skip (.exit 0))
 (.seq (.block 1 (.seq (.reg [⟨(some 13), .iaddrL 1 (.tmp 9) (.tmp 11), none⟩, ⟨(some 14), .load none (.tmp 13), none⟩, ⟨(some 4), .mov (.tmp 14), none⟩])
 (.seq (.reg [⟨(some 15), .mov (.tmp 4), none⟩, ⟨(some 16), .lenL (.tmp 15), none⟩, ⟨(some 17), .mov (.val (.int .i64 0)), none⟩])
 (.block 2 a152_L1))))
 (.reg [⟨(some 46), .bin .add (.tmp 11) (.val (.int .i64 1)), none⟩, ⟨(some 11), .mov (.tmp 46), none⟩]))))
def a152_L2 : AC := .loop a152_B2
theorem a152_L2_step (call : Caller) (again : AC → St → Option (Ex × St)) (s : St) : codeEv call again a152_L2 s = match codeEv call again a152_B2 s with | some (.norm, s1) => again a152_L2 s1 | r => r := rfl
def a152 : AFn := { n := 47, np := 1, res := [.tmp 2], body :=
 (.seq (.reg [⟨(some 1), .box (some 1) (.tmp 0), none⟩, ⟨(some 2), .mov (.val (.int .i64 0)), none⟩])
 (.seq (.seq (.reg [⟨(some 7), .faddr 0 (.tmp 1), none⟩, ⟨(some 8), .faddr 7 (.tmp 7), none⟩, ⟨(some 9), .load none (.tmp 8), none⟩, ⟨(some 10), .lenL (.tmp 9), none⟩, ⟨(some 11), .mov (.val (.int .i64 0)), none⟩])
 (.block 0 a152_L2))
 (.seq (.reg [⟨(some 2), .mov (.val (.int .i64 0)), none⟩])
 .ret))) }
def h153 : Hints := ⟨[], [], []⟩
def a153_B1 : AC := (.seq (.reg [⟨(some 12), .bin .lss (.tmp 11) (.tmp 10), none⟩])
 (.seq (.cond (.tmp 12) .skip (.exit 0))
 (.seq (.block 1 (.seq (.reg [⟨(some 13), .mov (.tmp 11), none⟩, ⟨(some 5), .mov (.tmp 13), none⟩])
 (.seq (.reg [⟨(some 14), .mov (.tmp 5), none⟩, ⟨(some 15), .iaddrA 64 1 (.tmp 3) (.tmp 14), none⟩, ⟨(some 16), .load none (.tmp 15), none⟩, ⟨(some 17), .bin .eql (.tmp 16) (.val (.int .u8 0)), none⟩, ⟨(some 18), .mov (.tmp 17), none⟩, ⟨(some 19), .load none (.tmp 4), (some (18, true))⟩, ⟨(some 20), .mov (.tmp 5), (some (18, true))⟩, ⟨(some 21), .callv (.tmp 19) [(.tmp 20)], (some (18, true))⟩, ⟨(some 22), .un .not (.tmp 21), (some (18, true))⟩, ⟨(some 23), .pick (.tmp 18) (.tmp 22) (.val (.bool false)), none⟩])
 (.cond (.tmp 23) (.seq (.reg [⟨(some 2), .mov (.val (.int .i64 13)), none⟩])
 .ret) .skip))))
 (.reg [⟨(some 24), .bin .add (.tmp 11) (.val (.int .i64 1)), none⟩, ⟨(some 11), .mov (.tmp 24), none⟩]))))
def a153_L1 : AC := .loop a153_B1
theorem a153_L1_step (call : Caller) (again : AC → St → Option (Ex × St)) (s : St) : codeEv call again a153_L1 s = match codeEv call again a153_B1 s with | some (.norm, s1) => again a153_L1 s1 | r => r := rfl
def a153 : AFn := { n := 25, np := 1, res := [.tmp 2], body :=
 (.seq (.reg [⟨(some 1), .box none (.tmp 0), none⟩, ⟨(some 2), .mov (.val (.int .i64 0)), none⟩])
 (.seq (.reg [⟨(some 3), .alloc none [(.int .u8 0), (.int .u8 0), (.int .u8 0), (.int .u8 0), (.int .u8 0), (.int .u8 0), (.int .u8 0), (.int .u8 0), (.int .u8 0), (.int .u8 0), (.int .u8 0), (.int .u8 0), (.int .u8 0), (.int .u8 0), (.int .u8 0), (.int .u8 0), (.int .u8 0), (.int .u8 0), (.int .u8 0), (.int .u8 0), (.int .u8 0), (.int .u8 0), (.int .u8 0), (.int .u8 0), (.int .u8 0), (.int .u8 0), (.int .u8 0), (.int .u8 0), (.int .u8 0), (.int .u8 0), (.int .u8 0), (.int .u8 0), (.int .u8 0), (.int .u8 0), (.int .u8 0), (.int .u8 0), (.int .u8 0), (.int .u8 0), (.int .u8 0), (.int .u8 0), (.int .u8 0), (.int .u8 0), (.int .u8 0), (.int .u8 0), (.int .u8 0), (.int .u8 0), (.int .u8 0), (.int .u8 0), (.int .u8 0), (.int .u8 0), (.int .u8 0), (.int .u8 0), (.int .u8 0), (.int .u8 0), (.int .u8 0), (.int .u8 0), (.int .u8 0), (.int .u8 0), (.int .u8 0), (.int .u8 0), (.int .u8 0), (.int .u8 0), (.int .u8 0), (.int .u8 0)], none⟩])
 (.seq (.reg [⟨(some 4), .alloc none [.nilf], none⟩])
 (.seq (.reg [⟨(some 6), .mkfn 156 [(.tmp 3), (.tmp 1), (.tmp 4)], none⟩, ⟨none, .store 1 (.tmp 4) (.tmp 6), none⟩])
 (.seq (.seq (.reg [⟨(some 7), .faddr 0 (.tmp 1), none⟩, ⟨(some 8), .faddr 1 (.tmp 7), none⟩, ⟨(some 9), .load none (.tmp 8), none⟩, ⟨(some 10), .lenL (.tmp 9), none⟩, ⟨(some 11), .mov (.val (.int .i64 0)), none⟩])
 (.block 0 a153_L1))
 (.seq (.reg [⟨(some 2), .mov (.val (.int .i64 0)), none⟩])
 .ret)))))) }
def h154 : Hints := ⟨[5], [], []⟩
def a154_B1 : AC := (.seq (.reg [⟨(some 12), .bin .lss (.tmp 11) (.tmp 10), none⟩])
 (.seq (.cond (.tmp 12) .skip (.exit 0))
 (.seq (.block 1 (.seq (.reg [⟨(some 13), .iaddrL 3 (.tmp 9) (.tmp 11), none⟩, ⟨(some 14), .load (some 3) (.tmp 13), none⟩, ⟨(some 5), .alloc (some 5) [(.int .i64 0), (.int .i64 0), (.int .i64 0)], none⟩, ⟨none, .store 3 (.tmp 5) (.tmp 14), none⟩])
 (.seq (.seq (.reg [⟨(some 15), .faddr 0 (.tmp 5), none⟩, ⟨(some 16), .load none (.tmp 15), none⟩, ⟨(some 17), .bin .lss (.tmp 16) (.val (.int .i64 0)), none⟩, ⟨(some 18), .mov (.tmp 17), none⟩, ⟨(some 19), .faddr 0 (.tmp 5), (some (18, false))⟩, ⟨(some 20), .load none (.tmp 19), (some (18, false))⟩, ⟨(some 21), .bin .gtr (.tmp 20) (.val (.int .i64 31)), (some (18, false))⟩, ⟨(some 22), .pick (.tmp 18) (.val (.bool true)) (.tmp 21), none⟩, ⟨(some 23), .mov (.tmp 22), none⟩, ⟨(some 24), .faddr 1 (.tmp 5), (some (23, false))⟩, ⟨(some 25), .load none (.tmp 24), (some (23, false))⟩, ⟨(some 26), .bin .lss (.tmp 25) (.val (.int .i64 1)), (some (23, false))⟩, ⟨(some 27), .pick (.tmp 23) (.val (.bool true)) (.tmp 26), none⟩, ⟨(some 28), .mov (.tmp 27), none⟩, ⟨(some 29), .faddr 1 (.tmp 5), (some (28, false))⟩, ⟨(some 30), .load none (.tmp 29), (some (28, false))⟩, ⟨(some 31), .bin .gtr (.tmp 30) (.val (.int .i64 15)), (some (28, false))⟩, ⟨(some 32), .pick (.tmp 28) (.val (.bool true)) (.tmp 31), none⟩, ⟨(some 33), .mov (.tmp 32), none⟩, ⟨(some 34), .faddr 2 (.tmp 5), (some (33, false))⟩, ⟨(some 35), .load none (.tmp 34), (some (33, false))⟩, ⟨(some 36), .bin .lss (.tmp 35) (.val (.int .i64 0)), (some (33, false))⟩, ⟨(some 37), .pick (.tmp 33) (.val (.bool true)) (.tmp 36), none⟩, ⟨(some 38), .mov (.tmp 37), none⟩, ⟨(some 39), .mov (.tmp 3), (some (38, false))⟩, ⟨(some 40), .faddr 0 (.tmp 5), (some (38, false))⟩, ⟨(some 41), .load none (.tmp 40), (some (38, false))⟩, ⟨(some 42), .call 157 [(.tmp 39), (.tmp 41)], (some (38, false))⟩, ⟨(some 43), .pick (.tmp 38) (.val (.bool true)) (.tmp 42), none⟩])
 (.cond (.tmp 43) (.seq (.reg [⟨(some 2), .mov (.val (.int .i64 2)), none⟩])
 .ret) .skip))
 (.reg [⟨(some 44), .mov (.tmp 3), none⟩, ⟨(some 45), .faddr 0 (.tmp 5), none⟩, ⟨(some 46), .load none (.tmp 45), none⟩, ⟨(some 47), .bin .shl (.val (.int .u32 1)) (.tmp 46), none⟩, ⟨(some 48), .bin .or (.tmp 44) (.tmp 47), none⟩, ⟨(some 3), .mov (.tmp 48), none⟩]))))
 (.reg [⟨(some 49), .bin .add (.tmp 11) (.val (.int .i64 1)), none⟩, ⟨(some 11), .mov (.tmp 49), none⟩]))))
def a154_L1 : AC := .loop a154_B1
theorem a154_L1_step (call : Caller) (again : AC → St → Option (Ex × St)) (s : St) : codeEv call again a154_L1 s = match codeEv call again a154_B1 s with | some (.norm, s1) => again a154_L1 s1 | r => r := rfl
def a154 : AFn := { n := 50, np := 1, res := [.tmp 2], body :=
 (.seq (.reg [⟨(some 2), .mov (.val (.int .i64 0)), none⟩])
 (.seq (.seq (.reg [⟨(some 6), .mov (.tmp 0), none⟩, ⟨(some 7), .lenL (.tmp 6), none⟩, ⟨(some 8), .bin .gtr (.tmp 7) (.val (.int .i64 32)), none⟩])
 (.cond (.tmp 8) (.seq (.reg [⟨(some 2), .mov (.val (.int .i64 3)), none⟩])
 .ret) .skip))
 (.seq (.reg [⟨(some 3), .mov (.val (.int .u32 0)), none⟩])
 (.seq (.seq (.reg [⟨(some 9), .mov (.tmp 0), none⟩, ⟨(some 10), .lenL (.tmp 9), none⟩, ⟨(some 11), .mov (.val (.int .i64 0)), none⟩])
 (.block 0 a154_L1))
 (.seq (.reg [⟨(some 2), .mov (.val (.int .i64 0)), none⟩])
 .ret))))) }
def h155 : Hints := ⟨[5, 9], [], []⟩
def a155 : AFn := { n := 98, np := 5, res := [.tmp 10], body :=
 (.seq (.reg [⟨(some 5), .box (some 5) (.tmp 0), none⟩, ⟨(some 9), .box (some 9) (.tmp 4), none⟩, ⟨(some 10), .mov (.val (.bool false)), none⟩])
 (.seq (.seq (.reg [⟨(some 11), .faddr 0 (.tmp 9), none⟩, ⟨(some 12), .load none (.tmp 11), none⟩])
 (.block 0 (.seq (.reg [⟨(some 14), .bin .eql (.tmp 12) (.val (.int .i64 1)), none⟩, ⟨(some 13), .mov (.tmp 14), none⟩])
 (.cond (.tmp 13) (.seq (.reg [⟨(some 15), .mov (.tmp 1), none⟩, ⟨(some 16), .faddr 0 (.tmp 5), none⟩, ⟨(some 17), .faddr 3 (.tmp 16), none⟩, ⟨(some 18), .load none (.tmp 17), none⟩, ⟨(some 19), .bin .eql (.tmp 15) (.tmp 18), none⟩, ⟨(some 10), .mov (.tmp 19), none⟩])
 .ret) (.seq (.seq (.reg [⟨(some 21), .bin .eql (.tmp 12) (.val (.int .i64 4)), none⟩, ⟨(some 20), .mov (.tmp 21), none⟩])
 (.cond (.tmp 20) .skip (.reg [⟨(some 22), .bin .eql (.tmp 12) (.val (.int .i64 5)), none⟩, ⟨(some 20), .mov (.tmp 22), none⟩])))
 (.cond (.tmp 20) (.seq (.reg [⟨(some 23), .faddr 1 (.tmp 9), none⟩, ⟨(some 24), .load none (.tmp 23), none⟩, ⟨(some 25), .faddr 0 (.tmp 5), none⟩, ⟨(some 26), .faddr 4 (.tmp 25), none⟩, ⟨(some 27), .load none (.tmp 26), none⟩, ⟨(some 28), .lenL (.tmp 27), none⟩, ⟨(some 29), .bin .lss (.tmp 24) (.tmp 28), none⟩, ⟨(some 10), .mov (.tmp 29), none⟩])
 .ret) (.seq (.seq (.reg [⟨(some 31), .bin .eql (.tmp 12) (.val (.int .i64 6)), none⟩, ⟨(some 30), .mov (.tmp 31), none⟩])
 (.cond (.tmp 30) .skip (.reg [⟨(some 32), .bin .eql (.tmp 12) (.val (.int .i64 7)), none⟩, ⟨(some 30), .mov (.tmp 32), none⟩])))
 (.cond (.tmp 30) (.seq (.reg [⟨(some 33), .faddr 1 (.tmp 9), none⟩, ⟨(some 34), .load none (.tmp 33), none⟩, ⟨(some 35), .faddr 2 (.tmp 9), none⟩, ⟨(some 36), .load none (.tmp 35), none⟩, ⟨(some 37), .bin .add (.tmp 34) (.tmp 36), none⟩, ⟨(some 38), .faddr 0 (.tmp 5), none⟩, ⟨(some 39), .faddr 4 (.tmp 38), none⟩, ⟨(some 40), .load none (.tmp 39), none⟩, ⟨(some 41), .lenL (.tmp 40), none⟩, ⟨(some 42), .bin .leq (.tmp 37) (.tmp 41), none⟩, ⟨(some 10), .mov (.tmp 42), none⟩])
 .ret) (.seq (.seq (.reg [⟨(some 44), .bin .eql (.tmp 12) (.val (.int .i64 8)), none⟩, ⟨(some 43), .mov (.tmp 44), none⟩])
 (.cond (.tmp 43) .skip (.reg [⟨(some 45), .bin .eql (.tmp 12) (.val (.int .i64 9)), none⟩, ⟨(some 43), .mov (.tmp 45), none⟩])))
 (.cond (.tmp 43) (.seq (.dreg [(false, ⟨(some 46), .faddr 1 (.tmp 9), none⟩, false), (false, ⟨(some 47), .load none (.tmp 46), none⟩, false), (false, ⟨(some 48), .faddr 0 (.tmp 5), none⟩, false), (false, ⟨(some 49), .faddr 1 (.tmp 48), none⟩, false), (false, ⟨(some 50), .load none (.tmp 49), none⟩, false), (false, ⟨(some 51), .mov (.tmp 1), none⟩, false), (false, ⟨(some 52), .iaddrL 3 (.tmp 50) (.tmp 51), none⟩, false), (false, ⟨(some 53), .faddr 2 (.tmp 52), none⟩, false), (false, ⟨(some 54), .load none (.tmp 53), none⟩, false), (false, ⟨(some 55), .bin .lss (.tmp 47) (.tmp 54), none⟩, false), (false, ⟨(some 10), .mov (.tmp 55), none⟩, false)])
 .ret) (.seq (.seq (.reg [⟨(some 57), .bin .eql (.tmp 12) (.val (.int .i64 10)), none⟩, ⟨(some 56), .mov (.tmp 57), none⟩])
 (.cond (.tmp 56) .skip (.reg [⟨(some 58), .bin .eql (.tmp 12) (.val (.int .i64 11)), none⟩, ⟨(some 56), .mov (.tmp 58), none⟩])))
 (.cond (.tmp 56) (.seq (.reg [⟨(some 59), .faddr 1 (.tmp 9), none⟩, ⟨(some 60), .load none (.tmp 59), none⟩, ⟨(some 61), .faddr 0 (.tmp 5), none⟩, ⟨(some 62), .faddr 5 (.tmp 61), none⟩, ⟨(some 63), .load none (.tmp 62), none⟩, ⟨(some 64), .lenL (.tmp 63), none⟩, ⟨(some 65), .bin .lss (.tmp 60) (.tmp 64), none⟩, ⟨(some 10), .mov (.tmp 65), none⟩])
 .ret) (.seq (.seq (.reg [⟨(some 67), .bin .eql (.tmp 12) (.val (.int .i64 15)), none⟩, ⟨(some 66), .mov (.tmp 67), none⟩])
 (.cond (.tmp 66) .skip (.reg [⟨(some 68), .bin .eql (.tmp 12) (.val (.int .i64 16)), none⟩, ⟨(some 66), .mov (.tmp 68), none⟩])))
 (.cond (.tmp 66) (.seq (.reg [⟨(some 69), .faddr 1 (.tmp 9), none⟩, ⟨(some 70), .load none (.tmp 69), none⟩, ⟨(some 71), .mov (.tmp 2), none⟩, ⟨(some 72), .bin .geq (.tmp 70) (.tmp 71), none⟩, ⟨(some 73), .mov (.tmp 72), none⟩, ⟨(some 74), .faddr 1 (.tmp 9), (some (73, true))⟩, ⟨(some 75), .load none (.tmp 74), (some (73, true))⟩, ⟨(some 76), .mov (.tmp 3), (some (73, true))⟩, ⟨(some 77), .bin .lss (.tmp 75) (.tmp 76), (some (73, true))⟩, ⟨(some 78), .pick (.tmp 73) (.tmp 77) (.val (.bool false)), none⟩, ⟨(some 10), .mov (.tmp 78), none⟩])
 .ret) (.seq (.reg [⟨(some 80), .bin .eql (.tmp 12) (.val (.int .i64 17)), none⟩, ⟨(some 79), .mov (.tmp 80), none⟩])
 (.cond (.tmp 79) (.seq (.reg [⟨(some 81), .faddr 1 (.tmp 9), none⟩, ⟨(some 82), .load none (.tmp 81), none⟩, ⟨(some 83), .faddr 0 (.tmp 5), none⟩, ⟨(some 84), .faddr 1 (.tmp 83), none⟩, ⟨(some 85), .load none (.tmp 84), none⟩, ⟨(some 86), .lenL (.tmp 85), none⟩, ⟨(some 87), .bin .lss (.tmp 82) (.tmp 86), none⟩, ⟨(some 10), .mov (.tmp 87), none⟩])
 .ret) (.seq (.seq (.reg [⟨(some 89), .bin .eql (.tmp 12) (.val (.int .i64 23)), none⟩, ⟨(some 88), .mov (.tmp 89), none⟩])
 (.cond (.tmp 88) .skip (.reg [⟨(some 90), .bin .eql (.tmp 12) (.val (.int .i64 24)), none⟩, ⟨(some 88), .mov (.tmp 90), none⟩])))
 (.cond (.tmp 88) (.seq (.reg [⟨(some 91), .faddr 1 (.tmp 9), none⟩, ⟨(some 92), .load none (.tmp 91), none⟩, ⟨(some 93), .faddr 0 (.tmp 5), none⟩, ⟨(some 94), .faddr 7 (.tmp 93), none⟩, ⟨(some 95), .load none (.tmp 94), none⟩, ⟨(some 96), .lenL (.tmp 95), none⟩, ⟨(some 97), .bin .lss (.tmp 92) (.tmp 96), none⟩, ⟨(some 10), .mov (.tmp 97), none⟩])
 .ret) .skip))))))))))))))))))
 (.seq (.reg [⟨(some 10), .mov (.val (.bool true)), none⟩])
 .ret))) }
def h156 : Hints := ⟨[], [], []⟩
def a156_B1 : AC := (.seq (.reg [⟨(some 15), .bin .lss (.tmp 14) (.tmp 13), none⟩])
 (.seq (.cond (.tmp 15) .skip (.exit 0))
 (.seq (.block 1 (.seq (.reg [⟨(some 16), .iaddrL 1 (.tmp 12) (.tmp 14), none⟩, ⟨(some 17), .load none (.tmp 16), none⟩, ⟨(some 7), .mov (.tmp 17), none⟩])
 (.seq (.reg [⟨(some 18), .mov (.tmp 7), none⟩, ⟨(some 19), .iaddrA 64 1 (.tmp 1) (.tmp 18), none⟩, ⟨(some 20), .load none (.tmp 19), none⟩, ⟨(some 21), .bin .eql (.tmp 20) (.val (.int .u8 1)), none⟩, ⟨(some 22), .mov (.tmp 21), none⟩, ⟨(some 23), .mov (.tmp 7), (some (22, false))⟩, ⟨(some 24), .iaddrA 64 1 (.tmp 1) (.tmp 23), (some (22, false))⟩, ⟨(some 25), .load none (.tmp 24), (some (22, false))⟩, ⟨(some 26), .bin .eql (.tmp 25) (.val (.int .u8 0)), (some (22, false))⟩, ⟨(some 27), .mov (.tmp 26), (some (22, false))⟩, ⟨(some 28), .load none (.tmp 3), (some (27, true))⟩, ⟨(some 29), .mov (.tmp 7), (some (27, true))⟩, ⟨(some 30), .callv (.tmp 28) [(.tmp 29)], (some (27, true))⟩, ⟨(some 31), .un .not (.tmp 30), (some (27, true))⟩, ⟨(some 32), .pick (.tmp 27) (.tmp 31) (.val (.bool false)), (some (22, false))⟩, ⟨(some 33), .pick (.tmp 22) (.val (.bool true)) (.tmp 32), none⟩])
 (.cond (.tmp 33) (.seq (.reg [⟨(some 5), .mov (.val (.bool false)), none⟩])
 .ret) .skip))))
 (.reg [⟨(some 34), .bin .add (.tmp 14) (.val (.int .i64 1)), none⟩, ⟨(some 14), .mov (.tmp 34), none⟩]))))
def a156_L1 : AC := .loop a156_B1
theorem a156_L1_step (call : Caller) (again : AC → St → Option (Ex × St)) (s : St) : codeEv call again a156_L1 s = match codeEv call again a156_B1 s with | some (.norm, s1) => again a156_L1 s1 | r => r := rfl
def a156 : AFn := { n := 37, np := 4, res := [.tmp 5], body :=
 (.seq (.reg [⟨(some 5), .mov (.val (.bool false)), none⟩])
 (.seq (.reg [⟨(some 8), .mov (.tmp 0), none⟩, ⟨(some 9), .iaddrA 64 1 (.tmp 1) (.tmp 8), none⟩, ⟨none, .store 1 (.tmp 9) (.val (.int .u8 1)), none⟩])
 (.seq (.seq (.reg [⟨(some 10), .load (some 8) (.tmp 2), none⟩, ⟨(some 11), .mov (.tmp 0), none⟩, ⟨(some 12), .call 61 [(.tmp 10), (.tmp 11)], none⟩, ⟨(some 13), .lenL (.tmp 12), none⟩, ⟨(some 14), .mov (.val (.int .i64 0)), none⟩])
 (.block 0 a156_L1))
 (.seq (.reg [⟨(some 35), .mov (.tmp 0), none⟩, ⟨(some 36), .iaddrA 64 1 (.tmp 1) (.tmp 35), none⟩, ⟨none, .store 1 (.tmp 36) (.val (.int .u8 2)), none⟩])
 (.seq (.reg [⟨(some 5), .mov (.val (.bool true)), none⟩])
 .ret))))) }
def h157 : Hints := ⟨[], [], []⟩
def a157 : AFn := { n := 18, np := 2, res := [.tmp 4], body :=
 (.seq (.reg [⟨(some 4), .mov (.val (.bool false)), none⟩])
 (.seq (.reg [⟨(some 5), .mov (.tmp 1), none⟩, ⟨(some 6), .bin .geq (.tmp 5) (.val (.int .i64 0)), none⟩, ⟨(some 7), .mov (.tmp 6), none⟩, ⟨(some 8), .mov (.tmp 1), (some (7, true))⟩, ⟨(some 9), .bin .lss (.tmp 8) (.val (.int .i64 32)), (some (7, true))⟩, ⟨(some 10), .pick (.tmp 7) (.tmp 9) (.val (.bool false)), none⟩, ⟨(some 11), .mov (.tmp 10), none⟩, ⟨(some 12), .mov (.tmp 0), (some (11, true))⟩, ⟨(some 13), .mov (.tmp 1), (some (11, true))⟩, ⟨(some 14), .bin .shr (.tmp 12) (.tmp 13), (some (11, true))⟩, ⟨(some 15), .bin .and (.tmp 14) (.val (.int .u32 1)), (some (11, true))⟩, ⟨(some 16), .bin .eql (.tmp 15) (.val (.int .u32 1)), (some (11, true))⟩, ⟨(some 17), .pick (.tmp 11) (.tmp 16) (.val (.bool false)), none⟩, ⟨(some 4), .mov (.tmp 17), none⟩])
 .ret)) }
theorem t10 : trFn Tryd.prog h10 Tryd.f10 = some a10 := by kernel_rfl
theorem t12 : trFn Tryd.prog h12 Tryd.f12 = some a12 := by kernel_rfl
theorem t13 : trFn Tryd.prog h13 Tryd.f13 = some a13 := by kernel_rfl
theorem t23 : trFn Tryd.prog h23 Tryd.f23 = some a23 := by kernel_rfl
theorem t25 : trFn Tryd.prog h25 Tryd.f25 = some a25 := by kernel_rfl
theorem t27 : trFn Tryd.prog h27 Tryd.f27 = some a27 := by kernel_rfl
theorem t28 : trFn Tryd.prog h28 Tryd.f28 = some a28 := by kernel_rfl
theorem t29 : trFn Tryd.prog h29 Tryd.f29 = some a29 := by kernel_rfl
theorem t31 : trFn Tryd.prog h31 Tryd.f31 = some a31 := by kernel_rfl
theorem t32 : trFn Tryd.prog h32 Tryd.f32 = some a32 := by kernel_rfl
theorem t33 : trFn Tryd.prog h33 Tryd.f33 = some a33 := by kernel_rfl
theorem t34 : trFn Tryd.prog h34 Tryd.f34 = some a34 := by kernel_rfl
theorem t35 : trFn Tryd.prog h35 Tryd.f35 = some a35 := by kernel_rfl
theorem t36 : trFn Tryd.prog h36 Tryd.f36 = some a36 := by kernel_rfl
theorem t37 : trFn Tryd.prog h37 Tryd.f37 = some a37 := by kernel_rfl
theorem t38 : trFn Tryd.prog h38 Tryd.f38 = some a38 := by kernel_rfl
theorem t39 : trFn Tryd.prog h39 Tryd.f39 = some a39 := by kernel_rfl
theorem t49 : trFn Tryd.prog h49 Tryd.f49 = some a49 := by kernel_rfl
theorem t50 : trFn Tryd.prog h50 Tryd.f50 = some a50 := by kernel_rfl
theorem t51 : trFn Tryd.prog h51 Tryd.f51 = some a51 := by kernel_rfl
theorem t52 : trFn Tryd.prog h52 Tryd.f52 = some a52 := by kernel_rfl
theorem t60 : trFn Tryd.prog h60 Tryd.f60 = some a60 := by kernel_rfl
theorem t61 : trFn Tryd.prog h61 Tryd.f61 = some a61 := by kernel_rfl
theorem t62 : trFn Tryd.prog h62 Tryd.f62 = some a62 := by kernel_rfl
theorem t63 : trFn Tryd.prog h63 Tryd.f63 = some a63 := by kernel_rfl
theorem t64 : trFn Tryd.prog h64 Tryd.f64 = some a64 := by kernel_rfl
theorem t65 : trFn Tryd.prog h65 Tryd.f65 = some a65 := by kernel_rfl
theorem t66 : trFn Tryd.prog h66 Tryd.f66 = some a66 := by kernel_rfl
theorem t71 : trFn Tryd.prog h71 Tryd.f71 = some a71 := by kernel_rfl
theorem t72 : trFn Tryd.prog h72 Tryd.f72 = some a72 := by kernel_rfl
theorem t73 : trFn Tryd.prog h73 Tryd.f73 = some a73 := by kernel_rfl
theorem t74 : trFn Tryd.prog h74 Tryd.f74 = some a74 := by kernel_rfl
theorem t75 : trFn Tryd.prog h75 Tryd.f75 = some a75 := by kernel_rfl
theorem t76 : trFn Tryd.prog h76 Tryd.f76 = some a76 := by kernel_rfl
theorem t77 : trFn Tryd.prog h77 Tryd.f77 = some a77 := by kernel_rfl
theorem t78 : trFn Tryd.prog h78 Tryd.f78 = some a78 := by kernel_rfl
theorem t79 : trFn Tryd.prog h79 Tryd.f79 = some a79 := by kernel_rfl
theorem t80 : trFn Tryd.prog h80 Tryd.f80 = some a80 := by kernel_rfl
theorem t87 : trFn Tryd.prog h87 Tryd.f87 = some a87 := by kernel_rfl
theorem t88 : trFn Tryd.prog h88 Tryd.f88 = some a88 := by kernel_rfl
theorem t89 : trFn Tryd.prog h89 Tryd.f89 = some a89 := by kernel_rfl
theorem t90 : trFn Tryd.prog h90 Tryd.f90 = some a90 := by kernel_rfl
theorem t91 : trFn Tryd.prog h91 Tryd.f91 = some a91 := by kernel_rfl
theorem t92 : trFn Tryd.prog h92 Tryd.f92 = some a92 := by kernel_rfl
theorem t100 : trFn Tryd.prog h100 Tryd.f100 = some a100 := by kernel_rfl
theorem t101 : trFn Tryd.prog h101 Tryd.f101 = some a101 := by kernel_rfl
theorem t102 : trFn Tryd.prog h102 Tryd.f102 = some a102 := by kernel_rfl
theorem t103 : trFn Tryd.prog h103 Tryd.f103 = some a103 := by kernel_rfl
theorem t104 : trFn Tryd.prog h104 Tryd.f104 = some a104 := by kernel_rfl
theorem t105 : trFn Tryd.prog h105 Tryd.f105 = some a105 := by kernel_rfl
theorem t106 : trFn Tryd.prog h106 Tryd.f106 = some a106 := by kernel_rfl
theorem t107 : trFn Tryd.prog h107 Tryd.f107 = some a107 := by kernel_rfl
theorem t108 : trFn Tryd.prog h108 Tryd.f108 = some a108 := by kernel_rfl
theorem t109 : trFn Tryd.prog h109 Tryd.f109 = some a109 := by kernel_rfl
theorem t110 : trFn Tryd.prog h110 Tryd.f110 = some a110 := by kernel_rfl
theorem t111 : trFn Tryd.prog h111 Tryd.f111 = some a111 := by kernel_rfl
theorem t112 : trFn Tryd.prog h112 Tryd.f112 = some a112 := by kernel_rfl
theorem t113 : trFn Tryd.prog h113 Tryd.f113 = some a113 := by kernel_rfl
theorem t114 : trFn Tryd.prog h114 Tryd.f114 = some a114 := by kernel_rfl
theorem t117 : trFn Tryd.prog h117 Tryd.f117 = some a117 := by kernel_rfl
theorem t118 : trFn Tryd.prog h118 Tryd.f118 = some a118 := by kernel_rfl
theorem t119 : trFn Tryd.prog h119 Tryd.f119 = some a119 := by kernel_rfl
theorem t120 : trFn Tryd.prog h120 Tryd.f120 = some a120 := by kernel_rfl
theorem t121 : trFn Tryd.prog h121 Tryd.f121 = some a121 := by kernel_rfl
theorem t122 : trFn Tryd.prog h122 Tryd.f122 = some a122 := by kernel_rfl
theorem t123 : trFn Tryd.prog h123 Tryd.f123 = some a123 := by kernel_rfl
theorem t124 : trFn Tryd.prog h124 Tryd.f124 = some a124 := by kernel_rfl
theorem t125 : trFn Tryd.prog h125 Tryd.f125 = some a125 := by kernel_rfl
theorem t148 : trFn Tryd.prog h148 Tryd.f148 = some a148 := by kernel_rfl
theorem t149 : trFn Tryd.prog h149 Tryd.f149 = some a149 := by kernel_rfl
theorem t150 : trFn Tryd.prog h150 Tryd.f150 = some a150 := by kernel_rfl
theorem t151 : trFn Tryd.prog h151 Tryd.f151 = some a151 := by kernel_rfl
theorem t152 : trFn Tryd.prog h152 Tryd.f152 = some a152 := by kernel_rfl
theorem t153 : trFn Tryd.prog h153 Tryd.f153 = some a153 := by kernel_rfl
theorem t154 : trFn Tryd.prog h154 Tryd.f154 = some a154 := by kernel_rfl
theorem t155 : trFn Tryd.prog h155 Tryd.f155 = some a155 := by kernel_rfl
theorem t156 : trFn Tryd.prog h156 Tryd.f156 = some a156 := by kernel_rfl
theorem t157 : trFn Tryd.prog h157 Tryd.f157 = some a157 := by kernel_rfl
def A : Nat → Option AFn
  | 10 => some a10
  | 12 => some a12
  | 13 => some a13
  | 23 => some a23
  | 25 => some a25
  | 27 => some a27
  | 28 => some a28
  | 29 => some a29
  | 31 => some a31
  | 32 => some a32
  | 33 => some a33
  | 34 => some a34
  | 35 => some a35
  | 36 => some a36
  | 37 => some a37
  | 38 => some a38
  | 39 => some a39
  | 49 => some a49
  | 50 => some a50
  | 51 => some a51
  | 52 => some a52
  | 60 => some a60
  | 61 => some a61
  | 62 => some a62
  | 63 => some a63
  | 64 => some a64
  | 65 => some a65
  | 66 => some a66
  | 71 => some a71
  | 72 => some a72
  | 73 => some a73
  | 74 => some a74
  | 75 => some a75
  | 76 => some a76
  | 77 => some a77
  | 78 => some a78
  | 79 => some a79
  | 80 => some a80
  | 87 => some a87
  | 88 => some a88
  | 89 => some a89
  | 90 => some a90
  | 91 => some a91
  | 92 => some a92
  | 100 => some a100
  | 101 => some a101
  | 102 => some a102
  | 103 => some a103
  | 104 => some a104
  | 105 => some a105
  | 106 => some a106
  | 107 => some a107
  | 108 => some a108
  | 109 => some a109
  | 110 => some a110
  | 111 => some a111
  | 112 => some a112
  | 113 => some a113
  | 114 => some a114
  | 117 => some a117
  | 118 => some a118
  | 119 => some a119
  | 120 => some a120
  | 121 => some a121
  | 122 => some a122
  | 123 => some a123
  | 124 => some a124
  | 125 => some a125
  | 148 => some a148
  | 149 => some a149
  | 150 => some a150
  | 151 => some a151
  | 152 => some a152
  | 153 => some a153
  | 154 => some a154
  | 155 => some a155
  | 156 => some a156
  | 157 => some a157
  | _ => none
theorem A_ok : AOk Tryd.prog A := by
  intro f af h
  unfold A at h
  split at h
  · cases h; exact .inl ⟨h10, Tryd.f10, Tryd.func10, t10⟩
  · cases h; exact .inl ⟨h12, Tryd.f12, Tryd.func12, t12⟩
  · cases h; exact .inl ⟨h13, Tryd.f13, Tryd.func13, t13⟩
  · cases h; exact .inl ⟨h23, Tryd.f23, Tryd.func23, t23⟩
  · cases h; exact .inl ⟨h25, Tryd.f25, Tryd.func25, t25⟩
  · cases h; exact .inl ⟨h27, Tryd.f27, Tryd.func27, t27⟩
  · cases h; exact .inl ⟨h28, Tryd.f28, Tryd.func28, t28⟩
  · cases h; exact .inl ⟨h29, Tryd.f29, Tryd.func29, t29⟩
  · cases h; exact .inl ⟨h31, Tryd.f31, Tryd.func31, t31⟩
  · cases h; exact .inl ⟨h32, Tryd.f32, Tryd.func32, t32⟩
  · cases h; exact .inl ⟨h33, Tryd.f33, Tryd.func33, t33⟩
  · cases h; exact .inl ⟨h34, Tryd.f34, Tryd.func34, t34⟩
  · cases h; exact .inl ⟨h35, Tryd.f35, Tryd.func35, t35⟩
  · cases h; exact .inl ⟨h36, Tryd.f36, Tryd.func36, t36⟩
  · cases h; exact .inl ⟨h37, Tryd.f37, Tryd.func37, t37⟩
  · cases h; exact .inl ⟨h38, Tryd.f38, Tryd.func38, t38⟩
  · cases h; exact .inl ⟨h39, Tryd.f39, Tryd.func39, t39⟩
  · cases h; exact .inl ⟨h49, Tryd.f49, Tryd.func49, t49⟩
  · cases h; exact .inl ⟨h50, Tryd.f50, Tryd.func50, t50⟩
  · cases h; exact .inl ⟨h51, Tryd.f51, Tryd.func51, t51⟩
  · cases h; exact .inl ⟨h52, Tryd.f52, Tryd.func52, t52⟩
  · cases h; exact .inl ⟨h60, Tryd.f60, Tryd.func60, t60⟩
  · cases h; exact .inl ⟨h61, Tryd.f61, Tryd.func61, t61⟩
  · cases h; exact .inl ⟨h62, Tryd.f62, Tryd.func62, t62⟩
  · cases h; exact .inl ⟨h63, Tryd.f63, Tryd.func63, t63⟩
  · cases h; exact .inl ⟨h64, Tryd.f64, Tryd.func64, t64⟩
  · cases h; exact .inl ⟨h65, Tryd.f65, Tryd.func65, t65⟩
  · cases h; exact .inl ⟨h66, Tryd.f66, Tryd.func66, t66⟩
  · cases h; exact .inl ⟨h71, Tryd.f71, Tryd.func71, t71⟩
  · cases h; exact .inl ⟨h72, Tryd.f72, Tryd.func72, t72⟩
  · cases h; exact .inl ⟨h73, Tryd.f73, Tryd.func73, t73⟩
  · cases h; exact .inl ⟨h74, Tryd.f74, Tryd.func74, t74⟩
  · cases h; exact .inl ⟨h75, Tryd.f75, Tryd.func75, t75⟩
  · cases h; exact .inl ⟨h76, Tryd.f76, Tryd.func76, t76⟩
  · cases h; exact .inl ⟨h77, Tryd.f77, Tryd.func77, t77⟩
  · cases h; exact .inl ⟨h78, Tryd.f78, Tryd.func78, t78⟩
  · cases h; exact .inl ⟨h79, Tryd.f79, Tryd.func79, t79⟩
  · cases h; exact .inl ⟨h80, Tryd.f80, Tryd.func80, t80⟩
  · cases h; exact .inl ⟨h87, Tryd.f87, Tryd.func87, t87⟩
  · cases h; exact .inl ⟨h88, Tryd.f88, Tryd.func88, t88⟩
  · cases h; exact .inl ⟨h89, Tryd.f89, Tryd.func89, t89⟩
  · cases h; exact .inl ⟨h90, Tryd.f90, Tryd.func90, t90⟩
  · cases h; exact .inl ⟨h91, Tryd.f91, Tryd.func91, t91⟩
  · cases h; exact .inl ⟨h92, Tryd.f92, Tryd.func92, t92⟩
  · cases h; exact .inl ⟨h100, Tryd.f100, Tryd.func100, t100⟩
  · cases h; exact .inl ⟨h101, Tryd.f101, Tryd.func101, t101⟩
  · cases h; exact .inl ⟨h102, Tryd.f102, Tryd.func102, t102⟩
  · cases h; exact .inl ⟨h103, Tryd.f103, Tryd.func103, t103⟩
  · cases h; exact .inl ⟨h104, Tryd.f104, Tryd.func104, t104⟩
  · cases h; exact .inl ⟨h105, Tryd.f105, Tryd.func105, t105⟩
  · cases h; exact .inl ⟨h106, Tryd.f106, Tryd.func106, t106⟩
  · cases h; exact .inl ⟨h107, Tryd.f107, Tryd.func107, t107⟩
  · cases h; exact .inl ⟨h108, Tryd.f108, Tryd.func108, t108⟩
  · cases h; exact .inl ⟨h109, Tryd.f109, Tryd.func109, t109⟩
  · cases h; exact .inl ⟨h110, Tryd.f110, Tryd.func110, t110⟩
  · cases h; exact .inl ⟨h111, Tryd.f111, Tryd.func111, t111⟩
  · cases h; exact .inl ⟨h112, Tryd.f112, Tryd.func112, t112⟩
  · cases h; exact .inl ⟨h113, Tryd.f113, Tryd.func113, t113⟩
  · cases h; exact .inl ⟨h114, Tryd.f114, Tryd.func114, t114⟩
  · cases h; exact .inl ⟨h117, Tryd.f117, Tryd.func117, t117⟩
  · cases h; exact .inl ⟨h118, Tryd.f118, Tryd.func118, t118⟩
  · cases h; exact .inl ⟨h119, Tryd.f119, Tryd.func119, t119⟩
  · cases h; exact .inl ⟨h120, Tryd.f120, Tryd.func120, t120⟩
  · cases h; exact .inl ⟨h121, Tryd.f121, Tryd.func121, t121⟩
  · cases h; exact .inl ⟨h122, Tryd.f122, Tryd.func122, t122⟩
  · cases h; exact .inl ⟨h123, Tryd.f123, Tryd.func123, t123⟩
  · cases h; exact .inl ⟨h124, Tryd.f124, Tryd.func124, t124⟩
  · cases h; exact .inl ⟨h125, Tryd.f125, Tryd.func125, t125⟩
  · cases h; exact .inl ⟨h148, Tryd.f148, Tryd.func148, t148⟩
  · cases h; exact .inl ⟨h149, Tryd.f149, Tryd.func149, t149⟩
  · cases h; exact .inl ⟨h150, Tryd.f150, Tryd.func150, t150⟩
  · cases h; exact .inl ⟨h151, Tryd.f151, Tryd.func151, t151⟩
  · cases h; exact .inl ⟨h152, Tryd.f152, Tryd.func152, t152⟩
  · cases h; exact .inl ⟨h153, Tryd.f153, Tryd.func153, t153⟩
  · cases h; exact .inl ⟨h154, Tryd.f154, Tryd.func154, t154⟩
  · cases h; exact .inl ⟨h155, Tryd.f155, Tryd.func155, t155⟩
  · cases h; exact .inl ⟨h156, Tryd.f156, Tryd.func156, t156⟩
  · cases h; exact .inl ⟨h157, Tryd.f157, Tryd.func157, t157⟩
  · cases h
theorem run_10 (n : Nat) (args : List AV) (m : Mem) : run A (n + 1) 10 args m = fnEv (run A n) (ev A n).2 a10 args m := run_of rfl n args m
theorem run_12 (n : Nat) (args : List AV) (m : Mem) : run A (n + 1) 12 args m = fnEv (run A n) (ev A n).2 a12 args m := run_of rfl n args m
theorem run_13 (n : Nat) (args : List AV) (m : Mem) : run A (n + 1) 13 args m = fnEv (run A n) (ev A n).2 a13 args m := run_of rfl n args m
theorem run_23 (n : Nat) (args : List AV) (m : Mem) : run A (n + 1) 23 args m = fnEv (run A n) (ev A n).2 a23 args m := run_of rfl n args m
theorem run_25 (n : Nat) (args : List AV) (m : Mem) : run A (n + 1) 25 args m = fnEv (run A n) (ev A n).2 a25 args m := run_of rfl n args m
theorem run_27 (n : Nat) (args : List AV) (m : Mem) : run A (n + 1) 27 args m = fnEv (run A n) (ev A n).2 a27 args m := run_of rfl n args m
theorem run_28 (n : Nat) (args : List AV) (m : Mem) : run A (n + 1) 28 args m = fnEv (run A n) (ev A n).2 a28 args m := run_of rfl n args m
theorem run_29 (n : Nat) (args : List AV) (m : Mem) : run A (n + 1) 29 args m = fnEv (run A n) (ev A n).2 a29 args m := run_of rfl n args m
theorem run_31 (n : Nat) (args : List AV) (m : Mem) : run A (n + 1) 31 args m = fnEv (run A n) (ev A n).2 a31 args m := run_of rfl n args m
theorem run_32 (n : Nat) (args : List AV) (m : Mem) : run A (n + 1) 32 args m = fnEv (run A n) (ev A n).2 a32 args m := run_of rfl n args m
theorem run_33 (n : Nat) (args : List AV) (m : Mem) : run A (n + 1) 33 args m = fnEv (run A n) (ev A n).2 a33 args m := run_of rfl n args m
theorem run_34 (n : Nat) (args : List AV) (m : Mem) : run A (n + 1) 34 args m = fnEv (run A n) (ev A n).2 a34 args m := run_of rfl n args m
theorem run_35 (n : Nat) (args : List AV) (m : Mem) : run A (n + 1) 35 args m = fnEv (run A n) (ev A n).2 a35 args m := run_of rfl n args m
theorem run_36 (n : Nat) (args : List AV) (m : Mem) : run A (n + 1) 36 args m = fnEv (run A n) (ev A n).2 a36 args m := run_of rfl n args m
theorem run_37 (n : Nat) (args : List AV) (m : Mem) : run A (n + 1) 37 args m = fnEv (run A n) (ev A n).2 a37 args m := run_of rfl n args m
theorem run_38 (n : Nat) (args : List AV) (m : Mem) : run A (n + 1) 38 args m = fnEv (run A n) (ev A n).2 a38 args m := run_of rfl n args m
theorem run_39 (n : Nat) (args : List AV) (m : Mem) : run A (n + 1) 39 args m = fnEv (run A n) (ev A n).2 a39 args m := run_of rfl n args m
theorem run_49 (n : Nat) (args : List AV) (m : Mem) : run A (n + 1) 49 args m = fnEv (run A n) (ev A n).2 a49 args m := run_of rfl n args m
theorem run_50 (n : Nat) (args : List AV) (m : Mem) : run A (n + 1) 50 args m = fnEv (run A n) (ev A n).2 a50 args m := run_of rfl n args m
theorem run_51 (n : Nat) (args : List AV) (m : Mem) : run A (n + 1) 51 args m = fnEv (run A n) (ev A n).2 a51 args m := run_of rfl n args m
theorem run_52 (n : Nat) (args : List AV) (m : Mem) : run A (n + 1) 52 args m = fnEv (run A n) (ev A n).2 a52 args m := run_of rfl n args m
theorem run_60 (n : Nat) (args : List AV) (m : Mem) : run A (n + 1) 60 args m = fnEv (run A n) (ev A n).2 a60 args m := run_of rfl n args m
theorem run_61 (n : Nat) (args : List AV) (m : Mem) : run A (n + 1) 61 args m = fnEv (run A n) (ev A n).2 a61 args m := run_of rfl n args m
theorem run_62 (n : Nat) (args : List AV) (m : Mem) : run A (n + 1) 62 args m = fnEv (run A n) (ev A n).2 a62 args m := run_of rfl n args m
theorem run_63 (n : Nat) (args : List AV) (m : Mem) : run A (n + 1) 63 args m = fnEv (run A n) (ev A n).2 a63 args m := run_of rfl n args m
theorem run_64 (n : Nat) (args : List AV) (m : Mem) : run A (n + 1) 64 args m = fnEv (run A n) (ev A n).2 a64 args m := run_of rfl n args m
theorem run_65 (n : Nat) (args : List AV) (m : Mem) : run A (n + 1) 65 args m = fnEv (run A n) (ev A n).2 a65 args m := run_of rfl n args m
theorem run_66 (n : Nat) (args : List AV) (m : Mem) : run A (n + 1) 66 args m = fnEv (run A n) (ev A n).2 a66 args m := run_of rfl n args m
theorem run_71 (n : Nat) (args : List AV) (m : Mem) : run A (n + 1) 71 args m = fnEv (run A n) (ev A n).2 a71 args m := run_of rfl n args m
theorem run_72 (n : Nat) (args : List AV) (m : Mem) : run A (n + 1) 72 args m = fnEv (run A n) (ev A n).2 a72 args m := run_of rfl n args m
theorem run_73 (n : Nat) (args : List AV) (m : Mem) : run A (n + 1) 73 args m = fnEv (run A n) (ev A n).2 a73 args m := run_of rfl n args m
theorem run_74 (n : Nat) (args : List AV) (m : Mem) : run A (n + 1) 74 args m = fnEv (run A n) (ev A n).2 a74 args m := run_of rfl n args m
theorem run_75 (n : Nat) (args : List AV) (m : Mem) : run A (n + 1) 75 args m = fnEv (run A n) (ev A n).2 a75 args m := run_of rfl n args m
theorem run_76 (n : Nat) (args : List AV) (m : Mem) : run A (n + 1) 76 args m = fnEv (run A n) (ev A n).2 a76 args m := run_of rfl n args m
theorem run_77 (n : Nat) (args : List AV) (m : Mem) : run A (n + 1) 77 args m = fnEv (run A n) (ev A n).2 a77 args m := run_of rfl n args m
theorem run_78 (n : Nat) (args : List AV) (m : Mem) : run A (n + 1) 78 args m = fnEv (run A n) (ev A n).2 a78 args m := run_of rfl n args m
theorem run_79 (n : Nat) (args : List AV) (m : Mem) : run A (n + 1) 79 args m = fnEv (run A n) (ev A n).2 a79 args m := run_of rfl n args m
theorem run_80 (n : Nat) (args : List AV) (m : Mem) : run A (n + 1) 80 args m = fnEv (run A n) (ev A n).2 a80 args m := run_of rfl n args m
theorem run_87 (n : Nat) (args : List AV) (m : Mem) : run A (n + 1) 87 args m = fnEv (run A n) (ev A n).2 a87 args m := run_of rfl n args m
theorem run_88 (n : Nat) (args : List AV) (m : Mem) : run A (n + 1) 88 args m = fnEv (run A n) (ev A n).2 a88 args m := run_of rfl n args m
theorem run_89 (n : Nat) (args : List AV) (m : Mem) : run A (n + 1) 89 args m = fnEv (run A n) (ev A n).2 a89 args m := run_of rfl n args m
theorem run_90 (n : Nat) (args : List AV) (m : Mem) : run A (n + 1) 90 args m = fnEv (run A n) (ev A n).2 a90 args m := run_of rfl n args m
theorem run_91 (n : Nat) (args : List AV) (m : Mem) : run A (n + 1) 91 args m = fnEv (run A n) (ev A n).2 a91 args m := run_of rfl n args m
theorem run_92 (n : Nat) (args : List AV) (m : Mem) : run A (n + 1) 92 args m = fnEv (run A n) (ev A n).2 a92 args m := run_of rfl n args m
theorem run_100 (n : Nat) (args : List AV) (m : Mem) : run A (n + 1) 100 args m = fnEv (run A n) (ev A n).2 a100 args m := run_of rfl n args m
theorem run_101 (n : Nat) (args : List AV) (m : Mem) : run A (n + 1) 101 args m = fnEv (run A n) (ev A n).2 a101 args m := run_of rfl n args m
theorem run_102 (n : Nat) (args : List AV) (m : Mem) : run A (n + 1) 102 args m = fnEv (run A n) (ev A n).2 a102 args m := run_of rfl n args m
theorem run_103 (n : Nat) (args : List AV) (m : Mem) : run A (n + 1) 103 args m = fnEv (run A n) (ev A n).2 a103 args m := run_of rfl n args m
theorem run_104 (n : Nat) (args : List AV) (m : Mem) : run A (n + 1) 104 args m = fnEv (run A n) (ev A n).2 a104 args m := run_of rfl n args m
theorem run_105 (n : Nat) (args : List AV) (m : Mem) : run A (n + 1) 105 args m = fnEv (run A n) (ev A n).2 a105 args m := run_of rfl n args m
theorem run_106 (n : Nat) (args : List AV) (m : Mem) : run A (n + 1) 106 args m = fnEv (run A n) (ev A n).2 a106 args m := run_of rfl n args m
theorem run_107 (n : Nat) (args : List AV) (m : Mem) : run A (n + 1) 107 args m = fnEv (run A n) (ev A n).2 a107 args m := run_of rfl n args m
theorem run_108 (n : Nat) (args : List AV) (m : Mem) : run A (n + 1) 108 args m = fnEv (run A n) (ev A n).2 a108 args m := run_of rfl n args m
theorem run_109 (n : Nat) (args : List AV) (m : Mem) : run A (n + 1) 109 args m = fnEv (run A n) (ev A n).2 a109 args m := run_of rfl n args m
theorem run_110 (n : Nat) (args : List AV) (m : Mem) : run A (n + 1) 110 args m = fnEv (run A n) (ev A n).2 a110 args m := run_of rfl n args m
theorem run_111 (n : Nat) (args : List AV) (m : Mem) : run A (n + 1) 111 args m = fnEv (run A n) (ev A n).2 a111 args m := run_of rfl n args m
theorem run_112 (n : Nat) (args : List AV) (m : Mem) : run A (n + 1) 112 args m = fnEv (run A n) (ev A n).2 a112 args m := run_of rfl n args m
theorem run_113 (n : Nat) (args : List AV) (m : Mem) : run A (n + 1) 113 args m = fnEv (run A n) (ev A n).2 a113 args m := run_of rfl n args m
theorem run_114 (n : Nat) (args : List AV) (m : Mem) : run A (n + 1) 114 args m = fnEv (run A n) (ev A n).2 a114 args m := run_of rfl n args m
theorem run_117 (n : Nat) (args : List AV) (m : Mem) : run A (n + 1) 117 args m = fnEv (run A n) (ev A n).2 a117 args m := run_of rfl n args m
theorem run_118 (n : Nat) (args : List AV) (m : Mem) : run A (n + 1) 118 args m = fnEv (run A n) (ev A n).2 a118 args m := run_of rfl n args m
theorem run_119 (n : Nat) (args : List AV) (m : Mem) : run A (n + 1) 119 args m = fnEv (run A n) (ev A n).2 a119 args m := run_of rfl n args m
theorem run_120 (n : Nat) (args : List AV) (m : Mem) : run A (n + 1) 120 args m = fnEv (run A n) (ev A n).2 a120 args m := run_of rfl n args m
theorem run_121 (n : Nat) (args : List AV) (m : Mem) : run A (n + 1) 121 args m = fnEv (run A n) (ev A n).2 a121 args m := run_of rfl n args m
theorem run_122 (n : Nat) (args : List AV) (m : Mem) : run A (n + 1) 122 args m = fnEv (run A n) (ev A n).2 a122 args m := run_of rfl n args m
theorem run_123 (n : Nat) (args : List AV) (m : Mem) : run A (n + 1) 123 args m = fnEv (run A n) (ev A n).2 a123 args m := run_of rfl n args m
theorem run_124 (n : Nat) (args : List AV) (m : Mem) : run A (n + 1) 124 args m = fnEv (run A n) (ev A n).2 a124 args m := run_of rfl n args m
theorem run_125 (n : Nat) (args : List AV) (m : Mem) : run A (n + 1) 125 args m = fnEv (run A n) (ev A n).2 a125 args m := run_of rfl n args m
theorem run_148 (n : Nat) (args : List AV) (m : Mem) : run A (n + 1) 148 args m = fnEv (run A n) (ev A n).2 a148 args m := run_of rfl n args m
theorem run_149 (n : Nat) (args : List AV) (m : Mem) : run A (n + 1) 149 args m = fnEv (run A n) (ev A n).2 a149 args m := run_of rfl n args m
theorem run_150 (n : Nat) (args : List AV) (m : Mem) : run A (n + 1) 150 args m = fnEv (run A n) (ev A n).2 a150 args m := run_of rfl n args m
theorem run_151 (n : Nat) (args : List AV) (m : Mem) : run A (n + 1) 151 args m = fnEv (run A n) (ev A n).2 a151 args m := run_of rfl n args m
theorem run_152 (n : Nat) (args : List AV) (m : Mem) : run A (n + 1) 152 args m = fnEv (run A n) (ev A n).2 a152 args m := run_of rfl n args m
theorem run_153 (n : Nat) (args : List AV) (m : Mem) : run A (n + 1) 153 args m = fnEv (run A n) (ev A n).2 a153 args m := run_of rfl n args m
theorem run_154 (n : Nat) (args : List AV) (m : Mem) : run A (n + 1) 154 args m = fnEv (run A n) (ev A n).2 a154 args m := run_of rfl n args m
theorem run_155 (n : Nat) (args : List AV) (m : Mem) : run A (n + 1) 155 args m = fnEv (run A n) (ev A n).2 a155 args m := run_of rfl n args m
theorem run_156 (n : Nat) (args : List AV) (m : Mem) : run A (n + 1) 156 args m = fnEv (run A n) (ev A n).2 a156 args m := run_of rfl n args m
theorem run_157 (n : Nat) (args : List AV) (m : Mem) : run A (n + 1) 157 args m = fnEv (run A n) (ev A n).2 a157 args m := run_of rfl n args m
end Go.Proofs.YtekljfhfjncmjaaDoor
