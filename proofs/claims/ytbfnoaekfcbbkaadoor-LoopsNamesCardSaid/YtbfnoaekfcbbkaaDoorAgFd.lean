/- The functions of this seat, as the abstract machine has them; each is what its translation out of the program gives. Made by program. -/
import Derived.Test.YtbfnoaekfcbbkaaDoorProg
import Derived.Test.YtbfnoaekfcbbkaaDoorAgFast
import Derived.Test.YtbfnoaekfcbbkaaDoorAgIt
import Derived.Test.YtbfnoaekfcbbkaaDoorAgDefer
namespace Go.Proofs.YtbfnoaekfcbbkaaDoor
open AG
noncomputable section
set_option maxRecDepth 100000
set_option maxHeartbeats 4000000
def h3 : Hints := ⟨[1], [], []⟩
def a3 : AFn := { n := 47, np := 0, res := [.tmp 0], body :=
 (.seq (.reg [⟨(some 0), .mov (.val (.bool false)), none⟩])
 (.seq (.reg [⟨(some 4), .call 4 [], none⟩, ⟨(some 1), .alloc (some 1) [.nils, .nils, .nils, (.int .i64 0), .nils, .nils, (.int .i64 0), .nils], none⟩, ⟨none, .store 8 (.tmp 1) (.tmp 4), none⟩])
 (.seq (.reg [⟨(some 6), .load (some 8) (.tmp 1), none⟩, ⟨(some 7), .call 5 [(.tmp 6), (.val (.int .i64 0))], none⟩, ⟨(some 5), .mov (.tmp 7), none⟩, ⟨(some 8), .ext (.tmp 5) 0, none⟩, ⟨(some 9), .ext (.tmp 5) 1, none⟩, ⟨(some 2), .mov (.tmp 8), none⟩, ⟨(some 3), .mov (.tmp 9), none⟩])
 (.seq (.dreg [(false, ⟨(some 10), .call 6 [], none⟩, false), (false, ⟨(some 11), .mov (.tmp 10), none⟩, false), (false, ⟨(some 12), .mov (.tmp 3), (some (11, true))⟩, false), (false, ⟨(some 13), .un .not (.tmp 12), (some (11, true))⟩, false), (false, ⟨(some 14), .pick (.tmp 11) (.tmp 13) (.val (.bool false)), none⟩, false), (false, ⟨(some 15), .mov (.tmp 14), none⟩, false), (false, ⟨(some 16), .load (some 8) (.tmp 1), (some (15, true))⟩, false), (false, ⟨(some 17), .call 7 [(.tmp 16), (.val (.int .i64 2)), (.val (.int .i64 5))], (some (15, true))⟩, false), (false, ⟨(some 18), .pick (.tmp 15) (.tmp 17) (.val (.bool false)), none⟩, false), (false, ⟨(some 19), .mov (.tmp 18), none⟩, false), (false, ⟨(some 20), .load (some 8) (.tmp 1), (some (19, true))⟩, false), (false, ⟨(some 21), .call 7 [(.tmp 20), (.val (.int .i64 3)), (.val (.int .i64 5))], (some (19, true))⟩, false), (false, ⟨(some 22), .un .not (.tmp 21), (some (19, true))⟩, false), (false, ⟨(some 23), .pick (.tmp 19) (.tmp 22) (.val (.bool false)), none⟩, false), (false, ⟨(some 24), .mov (.tmp 23), none⟩, false), (false, ⟨(some 25), .load (some 8) (.tmp 1), (some (24, true))⟩, false), (false, ⟨(some 26), .call 7 [(.tmp 25), (.val (.int .i64 1)), (.val (.int .i64 1))], (some (24, true))⟩, false), (false, ⟨(some 27), .pick (.tmp 24) (.tmp 26) (.val (.bool false)), none⟩, false), (false, ⟨(some 28), .mov (.tmp 27), none⟩, false), (false, ⟨(some 29), .load (some 8) (.tmp 1), (some (28, true))⟩, false), (true, ⟨(some 30), .call 8 [(.tmp 29), (.val (.int .i64 0))], (some (28, true))⟩, false), (false, ⟨(some 31), .lenL (.tmp 30), (some (28, true))⟩, false), (true, ⟨(some 32), .load (some 8) (.tmp 1), (some (28, true))⟩, false), (false, ⟨(some 33), .call 9 [(.tmp 32), (.val (.int .i64 1))], (some (28, true))⟩, false), (false, ⟨(some 34), .lenL (.tmp 33), (some (28, true))⟩, false), (false, ⟨(some 35), .bin .add (.tmp 31) (.tmp 34), (some (28, true))⟩, false), (false, ⟨(some 36), .build [.nils, .nils, .nils, (.int .i64 0), .nils, .nils, (.int .i64 0), .nils] [], (some (28, true))⟩, false), (false, ⟨(some 37), .call 10 [(.tmp 36), (.val (.int .i64 0))], (some (28, true))⟩, false), (false, ⟨(some 38), .lenL (.tmp 37), (some (28, true))⟩, false), (false, ⟨(some 39), .bin .add (.tmp 35) (.tmp 38), (some (28, true))⟩, false), (false, ⟨(some 40), .bin .eql (.tmp 39) (.val (.int .i64 0)), (some (28, true))⟩, false), (false, ⟨(some 41), .pick (.tmp 28) (.tmp 40) (.val (.bool false)), none⟩, false), (false, ⟨(some 42), .mov (.tmp 41), none⟩, false), (false, ⟨(some 43), .load (some 8) (.tmp 1), (some (42, true))⟩, false), (false, ⟨(some 44), .call 7 [(.tmp 43), (.val (.int .i64 9)), (.val (.int .i64 9))], (some (42, true))⟩, false), (false, ⟨(some 45), .un .not (.tmp 44), (some (42, true))⟩, false), (false, ⟨(some 46), .pick (.tmp 42) (.tmp 45) (.val (.bool false)), none⟩, false), (false, ⟨(some 0), .mov (.tmp 46), none⟩, false)])
 .ret)))) }
def h4 : Hints := ⟨[0], [], []⟩
def a4 : AFn := { n := 11, np := 0, res := [.cell 0 (some 8)], body :=
 (.seq (.reg [⟨(some 0), .alloc (some 0) [.nils, .nils, .nils, (.int .i64 0), .nils, .nils, (.int .i64 0), .nils], none⟩])
 (.seq (.reg [⟨(some 1), .build [(.int .i64 0), (.int .i64 0), (.int .i64 0), (.int .i64 0)] [(0, 1, (.val (.int .i64 22)))], none⟩, ⟨(some 2), .build [(.int .i64 0), (.int .i64 0), (.int .i64 0), (.int .i64 0)] [(0, 1, (.val (.int .i64 2))), (1, 1, (.val (.int .i64 1)))], none⟩, ⟨(some 3), .build [(.int .i64 0), (.int .i64 0), (.int .i64 0), (.int .i64 0)] [(0, 1, (.val (.int .i64 16))), (1, 1, (.val (.int .i64 5)))], none⟩, ⟨(some 4), .build [(.int .i64 0), (.int .i64 0), (.int .i64 0), (.int .i64 0)] [(0, 1, (.val (.int .i64 22)))], none⟩, ⟨(some 5), .build [(.int .i64 0), (.int .i64 0), (.int .i64 0), (.int .i64 0)] [(0, 1, (.val (.int .i64 15)))], none⟩, ⟨(some 6), .build [(.int .i64 0), (.int .i64 0), (.int .i64 0), (.int .i64 0)] [(0, 1, (.val (.int .i64 1)))], none⟩, ⟨(some 7), .mkslc 4 6 [(.int .i64 0), (.int .i64 0), (.int .i64 0), (.int .i64 0)] [(0, (.tmp 1)), (1, (.tmp 2)), (2, (.tmp 3)), (3, (.tmp 4)), (4, (.tmp 5)), (5, (.tmp 6))], none⟩, ⟨(some 8), .build [(.int .i64 0), (.int .i64 0), (.int .i64 0)] [], none⟩, ⟨(some 9), .mkslc 3 1 [(.int .i64 0), (.int .i64 0), (.int .i64 0)] [(0, (.tmp 8))], none⟩, ⟨(some 10), .build [.nils, .nils, .nils, (.int .i64 0), .nils, .nils, (.int .i64 0), .nils] [(0, 1, (.tmp 7)), (1, 1, (.tmp 9)), (6, 1, (.val (.int .i64 10)))], none⟩, ⟨none, .store 8 (.tmp 0) (.tmp 10), none⟩])
 .ret)) }
def h5 : Hints := ⟨[2], [], []⟩
def a5_B1 : AC := (.seq (.reg [⟨(some 53), .bin .lss (.tmp 52) (.tmp 51), none⟩])
 (.seq (.cond (.tmp 53) .skip (.exit 0))
 (.seq (.block 1 (.seq (.reg [⟨(some 54), .iaddrL 1 (.tmp 50) (.tmp 52), none⟩, ⟨(some 55), .load none (.tmp 54), none⟩, ⟨(some 13), .alloc none [(.int .i64 0)], none⟩, ⟨none, .store 1 (.tmp 13) (.tmp 55), none⟩])
 (.seq (.reg [⟨(some 56), .mov (.tmp 11), none⟩, ⟨(some 57), .mkfn 17 [(.tmp 8), (.tmp 13)], none⟩, ⟨(some 58), .call 16 [(.tmp 56), (.tmp 57)], none⟩, ⟨(some 59), .un .not (.tmp 58), none⟩])
 (.cond (.tmp 59) (.seq (.reg [⟨(some 60), .load none (.tmp 13), none⟩, ⟨(some 4), .mov (.tmp 60), none⟩, ⟨(some 5), .mov (.val (.bool true)), none⟩])
 .ret) .skip))))
 (.reg [⟨(some 61), .bin .add (.tmp 52) (.val (.int .i64 1)), none⟩, ⟨(some 52), .mov (.tmp 61), none⟩]))))
def a5_L1 : AC := .loop a5_B1
theorem a5_L1_step (call : Caller) (again : AC → St → Option (Ex × St)) (s : St) : codeEv call again a5_L1 s = match codeEv call again a5_B1 s with | some (.norm, s1) => again a5_L1 s1 | r => r := rfl
def a5 : AFn := { n := 62, np := 2, res := [.tmp 4, .tmp 5], body :=
 (.seq (.reg [⟨(some 2), .box (some 2) (.tmp 0), none⟩, ⟨(some 3), .box none (.tmp 1), none⟩, ⟨(some 4), .mov (.val (.int .i64 0)), none⟩, ⟨(some 5), .mov (.val (.bool false)), none⟩])
 (.seq (.reg [⟨(some 15), .load (some 8) (.tmp 2), none⟩, ⟨(some 16), .load none (.tmp 3), none⟩, ⟨(some 17), .call 11 [(.tmp 15), (.tmp 16)], none⟩, ⟨(some 14), .mov (.tmp 17), none⟩, ⟨(some 18), .ext (.tmp 14) 0, none⟩, ⟨(some 19), .ext (.tmp 14) 1, none⟩, ⟨(some 6), .mov (.tmp 18), none⟩, ⟨(some 7), .mov (.tmp 19), none⟩])
 (.seq (.seq (.reg [⟨(some 20), .mov (.tmp 7), none⟩, ⟨(some 21), .un .not (.tmp 20), none⟩])
 (.cond (.tmp 21) (.seq (.reg [⟨(some 4), .mov (.val (.int .i64 0)), none⟩, ⟨(some 5), .mov (.val (.bool false)), none⟩])
 .ret) .skip))
 (.seq (.reg [⟨(some 22), .load (some 8) (.tmp 2), none⟩, ⟨(some 23), .mov (.tmp 6), none⟩, ⟨(some 24), .call 12 [(.tmp 22), (.tmp 23)], none⟩, ⟨(some 8), .alloc none [.nilm], none⟩, ⟨none, .store 1 (.tmp 8) (.tmp 24), none⟩])
 (.seq (.reg [⟨(some 26), .load none (.tmp 8), none⟩, ⟨(some 27), .load none (.tmp 3), none⟩, ⟨(some 28), .xm (.mlk .int (.nils) true) [(.tmp 26), (.tmp 27)], none⟩, ⟨(some 25), .mov (.tmp 28), none⟩, ⟨(some 29), .ext (.tmp 25) 0, none⟩, ⟨(some 30), .ext (.tmp 25) 1, none⟩, ⟨(some 9), .mov (.tmp 29), none⟩, ⟨(some 10), .mov (.tmp 30), none⟩])
 (.seq (.seq (.dreg [(false, ⟨(some 31), .mov (.tmp 10), none⟩, false), (false, ⟨(some 32), .un .not (.tmp 31), none⟩, false), (false, ⟨(some 33), .mov (.tmp 32), none⟩, false), (false, ⟨(some 34), .load none (.tmp 3), (some (33, false))⟩, false), (false, ⟨(some 35), .faddr 1 (.tmp 2), (some (33, false))⟩, false), (false, ⟨(some 36), .load none (.tmp 35), (some (33, false))⟩, false), (false, ⟨(some 37), .mov (.tmp 6), (some (33, false))⟩, false), (false, ⟨(some 38), .iaddrL 3 (.tmp 36) (.tmp 37), (some (33, false))⟩, false), (false, ⟨(some 39), .faddr 0 (.tmp 38), (some (33, false))⟩, false), (false, ⟨(some 40), .load none (.tmp 39), (some (33, false))⟩, false), (false, ⟨(some 41), .bin .eql (.tmp 34) (.tmp 40), (some (33, false))⟩, false), (false, ⟨(some 42), .pick (.tmp 33) (.val (.bool true)) (.tmp 41), none⟩, false)])
 (.cond (.tmp 42) (.seq (.reg [⟨(some 4), .mov (.val (.int .i64 0)), none⟩, ⟨(some 5), .mov (.val (.bool false)), none⟩])
 .ret) .skip))
 (.seq (.reg [⟨(some 43), .mov (.tmp 9), none⟩, ⟨(some 44), .faddr 0 (.tmp 2), none⟩, ⟨(some 45), .load none (.tmp 44), none⟩, ⟨(some 46), .lenL (.tmp 45), none⟩, ⟨(some 47), .call 14 [(.tmp 43), (.tmp 46)], none⟩, ⟨(some 48), .mkfn 15 [(.tmp 3)], none⟩, ⟨(some 49), .call 13 [(.tmp 47), (.tmp 48)], none⟩, ⟨(some 11), .mov (.tmp 49), none⟩])
 (.seq (.seq (.reg [⟨(some 50), .mov (.tmp 11), none⟩, ⟨(some 51), .lenL (.tmp 50), none⟩, ⟨(some 52), .mov (.val (.int .i64 0)), none⟩])
 (.block 0 a5_L1))
 (.seq (.reg [⟨(some 4), .mov (.val (.int .i64 0)), none⟩, ⟨(some 5), .mov (.val (.bool false)), none⟩])
 .ret))))))))) }
def h6 : Hints := ⟨[1], [], []⟩
def a6 : AFn := { n := 37, np := 0, res := [.tmp 0], body :=
 (.seq (.reg [⟨(some 0), .mov (.val (.bool false)), none⟩])
 (.seq (.reg [⟨(some 4), .call 4 [], none⟩, ⟨(some 1), .alloc (some 1) [.nils, .nils, .nils, (.int .i64 0), .nils, .nils, (.int .i64 0), .nils], none⟩, ⟨none, .store 8 (.tmp 1) (.tmp 4), none⟩])
 (.seq (.reg [⟨(some 6), .load (some 8) (.tmp 1), none⟩, ⟨(some 7), .call 5 [(.tmp 6), (.val (.int .i64 5))], none⟩, ⟨(some 5), .mov (.tmp 7), none⟩, ⟨(some 8), .ext (.tmp 5) 0, none⟩, ⟨(some 9), .ext (.tmp 5) 1, none⟩, ⟨(some 2), .mov (.tmp 8), none⟩, ⟨(some 3), .mov (.tmp 9), none⟩])
 (.seq (.reg [⟨(some 10), .load (some 8) (.tmp 1), none⟩, ⟨(some 11), .call 10 [(.tmp 10), (.val (.int .i64 0))], none⟩, ⟨(some 12), .mkslc 1 1 [(.int .i64 0)] [(0, (.val (.int .i64 0)))], none⟩, ⟨(some 13), .call 19 [(.tmp 11), (.tmp 12)], none⟩, ⟨(some 14), .mov (.tmp 13), none⟩, ⟨(some 15), .load (some 8) (.tmp 1), (some (14, true))⟩, ⟨(some 16), .call 9 [(.tmp 15), (.val (.int .i64 0))], (some (14, true))⟩, ⟨(some 17), .mkslc 1 5 [(.int .i64 0)] [(0, (.val (.int .i64 0))), (1, (.val (.int .i64 1))), (2, (.val (.int .i64 2))), (3, (.val (.int .i64 3))), (4, (.val (.int .i64 4)))], (some (14, true))⟩, ⟨(some 18), .call 19 [(.tmp 16), (.tmp 17)], (some (14, true))⟩, ⟨(some 19), .pick (.tmp 14) (.tmp 18) (.val (.bool false)), none⟩, ⟨(some 20), .mov (.tmp 19), none⟩, ⟨(some 21), .mov (.tmp 3), (some (20, true))⟩, ⟨(some 22), .pick (.tmp 20) (.tmp 21) (.val (.bool false)), none⟩, ⟨(some 23), .mov (.tmp 22), none⟩, ⟨(some 24), .mov (.tmp 2), (some (23, true))⟩, ⟨(some 25), .bin .eql (.tmp 24) (.val (.int .i64 2)), (some (23, true))⟩, ⟨(some 26), .pick (.tmp 23) (.tmp 25) (.val (.bool false)), none⟩, ⟨(some 27), .mov (.tmp 26), none⟩, ⟨(some 28), .load (some 8) (.tmp 1), (some (27, true))⟩, ⟨(some 29), .call 20 [(.tmp 28), (.val (.int .i64 4))], (some (27, true))⟩, ⟨(some 30), .bin .eql (.tmp 29) (.val (.int .i64 1)), (some (27, true))⟩, ⟨(some 31), .pick (.tmp 27) (.tmp 30) (.val (.bool false)), none⟩, ⟨(some 32), .mov (.tmp 31), none⟩, ⟨(some 33), .load (some 8) (.tmp 1), (some (32, true))⟩, ⟨(some 34), .call 20 [(.tmp 33), (.val (.int .i64 5))], (some (32, true))⟩, ⟨(some 35), .bin .eql (.tmp 34) (.val (.int .i64 0)), (some (32, true))⟩, ⟨(some 36), .pick (.tmp 32) (.tmp 35) (.val (.bool false)), none⟩, ⟨(some 0), .mov (.tmp 36), none⟩])
 .ret)))) }
def h7 : Hints := ⟨[3], [], []⟩
def a7 : AFn := { n := 44, np := 3, res := [.tmp 6], body :=
 (.seq (.reg [⟨(some 3), .box (some 3) (.tmp 0), none⟩, ⟨(some 6), .mov (.val (.bool false)), none⟩])
 (.seq (.reg [⟨(some 12), .load (some 8) (.tmp 3), none⟩, ⟨(some 13), .mov (.tmp 2), none⟩, ⟨(some 14), .call 11 [(.tmp 12), (.tmp 13)], none⟩, ⟨(some 11), .mov (.tmp 14), none⟩, ⟨(some 15), .ext (.tmp 11) 0, none⟩, ⟨(some 16), .ext (.tmp 11) 1, none⟩, ⟨(some 7), .mov (.tmp 15), none⟩, ⟨(some 8), .mov (.tmp 16), none⟩])
 (.seq (.seq (.reg [⟨(some 17), .mov (.tmp 8), none⟩, ⟨(some 18), .un .not (.tmp 17), none⟩, ⟨(some 19), .mov (.tmp 18), none⟩, ⟨(some 20), .mov (.tmp 1), (some (19, false))⟩, ⟨(some 21), .bin .lss (.tmp 20) (.val (.int .i64 0)), (some (19, false))⟩, ⟨(some 22), .pick (.tmp 19) (.val (.bool true)) (.tmp 21), none⟩, ⟨(some 23), .mov (.tmp 22), none⟩, ⟨(some 24), .mov (.tmp 1), (some (23, false))⟩, ⟨(some 25), .faddr 0 (.tmp 3), (some (23, false))⟩, ⟨(some 26), .load none (.tmp 25), (some (23, false))⟩, ⟨(some 27), .lenL (.tmp 26), (some (23, false))⟩, ⟨(some 28), .bin .geq (.tmp 24) (.tmp 27), (some (23, false))⟩, ⟨(some 29), .pick (.tmp 23) (.val (.bool true)) (.tmp 28), none⟩])
 (.cond (.tmp 29) (.seq (.reg [⟨(some 6), .mov (.val (.bool false)), none⟩])
 .ret) .skip))
 (.seq (.reg [⟨(some 31), .load (some 8) (.tmp 3), none⟩, ⟨(some 32), .mov (.tmp 7), none⟩, ⟨(some 33), .call 12 [(.tmp 31), (.tmp 32)], none⟩, ⟨(some 34), .mov (.tmp 2), none⟩, ⟨(some 35), .xm (.mlk .int (.nils) true) [(.tmp 33), (.tmp 34)], none⟩, ⟨(some 30), .mov (.tmp 35), none⟩, ⟨(some 36), .ext (.tmp 30) 0, none⟩, ⟨(some 37), .ext (.tmp 30) 1, none⟩, ⟨(some 9), .mov (.tmp 36), none⟩, ⟨(some 10), .mov (.tmp 37), none⟩])
 (.seq (.reg [⟨(some 38), .mov (.tmp 10), none⟩, ⟨(some 39), .mov (.tmp 38), none⟩, ⟨(some 40), .mov (.tmp 9), (some (39, true))⟩, ⟨(some 41), .mov (.tmp 1), (some (39, true))⟩, ⟨(some 42), .call 18 [(.tmp 40), (.tmp 41)], (some (39, true))⟩, ⟨(some 43), .pick (.tmp 39) (.tmp 42) (.val (.bool false)), none⟩, ⟨(some 6), .mov (.tmp 43), none⟩])
 .ret))))) }
def h8 : Hints := ⟨[2], [], []⟩
def a8_B1 : AC := (.seq (.reg [⟨(some 23), .bin .lss (.tmp 22) (.tmp 21), none⟩])
 (.seq (.cond (.tmp 23) .skip (.exit 0))
 (.seq (.block 1 (.seq (.reg [⟨(some 24), .iaddrL 1 (.tmp 20) (.tmp 22), none⟩, ⟨(some 25), .load none (.tmp 24), none⟩, ⟨(some 10), .alloc none [(.int .i64 0)], none⟩, ⟨none, .store 1 (.tmp 10) (.tmp 25), none⟩])
 (.seq (.reg [⟨(some 26), .mov (.tmp 6), none⟩, ⟨(some 27), .load none (.tmp 10), none⟩, ⟨(some 28), .xm (.mlk .int (.nils) false) [(.tmp 26), (.tmp 27)], none⟩, ⟨(some 29), .mkfn 22 [(.tmp 7), (.tmp 10)], none⟩, ⟨(some 30), .call 16 [(.tmp 28), (.tmp 29)], none⟩])
 (.cond (.tmp 30) (.reg [⟨(some 31), .mov (.tmp 8), none⟩, ⟨(some 32), .load none (.tmp 10), none⟩, ⟨(some 33), .mkslc 1 1 [(.int .i64 0)] [(0, (.tmp 32))], none⟩, ⟨(some 34), .app none 1 8 (.tmp 31) (.tmp 33), none⟩, ⟨(some 8), .mov (.tmp 34), none⟩]) .skip))))
 (.reg [⟨(some 35), .bin .add (.tmp 22) (.val (.int .i64 1)), none⟩, ⟨(some 22), .mov (.tmp 35), none⟩]))))
def a8_L1 : AC := .loop a8_B1
theorem a8_L1_step (call : Caller) (again : AC → St → Option (Ex × St)) (s : St) : codeEv call again a8_L1 s = match codeEv call again a8_B1 s with | some (.norm, s1) => again a8_L1 s1 | r => r := rfl
def a8 : AFn := { n := 37, np := 2, res := [.tmp 4], body :=
 (.seq (.reg [⟨(some 2), .box (some 2) (.tmp 0), none⟩, ⟨(some 4), .mov (.val .nils), none⟩])
 (.seq (.reg [⟨(some 12), .load (some 8) (.tmp 2), none⟩, ⟨(some 13), .mov (.tmp 1), none⟩, ⟨(some 14), .call 21 [(.tmp 12), (.tmp 13)], none⟩, ⟨(some 11), .mov (.tmp 14), none⟩, ⟨(some 15), .ext (.tmp 11) 0, none⟩, ⟨(some 16), .ext (.tmp 11) 1, none⟩, ⟨(some 5), .mov (.tmp 15), none⟩, ⟨(some 6), .mov (.tmp 16), none⟩])
 (.seq (.reg [⟨(some 17), .load (some 8) (.tmp 2), none⟩, ⟨(some 18), .mov (.tmp 1), none⟩, ⟨(some 19), .call 12 [(.tmp 17), (.tmp 18)], none⟩, ⟨(some 7), .alloc none [.nilm], none⟩, ⟨none, .store 1 (.tmp 7) (.tmp 19), none⟩])
 (.seq (.reg [⟨(some 8), .mov (.val .nils), none⟩])
 (.seq (.seq (.reg [⟨(some 20), .mov (.tmp 5), none⟩, ⟨(some 21), .lenL (.tmp 20), none⟩, ⟨(some 22), .mov (.val (.int .i64 0)), none⟩])
 (.block 0 a8_L1))
 (.seq (.reg [⟨(some 36), .mov (.tmp 8), none⟩, ⟨(some 4), .mov (.tmp 36), none⟩])
 .ret)))))) }
def h9 : Hints := ⟨[2], [], []⟩
def a9_B1 : AC := (.seq (.seq (.reg [⟨(some 82), .mov (.tmp 16), none⟩, ⟨(some 83), .lenL (.tmp 82), none⟩, ⟨(some 84), .bin .gtr (.tmp 83) (.val (.int .i64 0)), none⟩])
 (.cond (.tmp 84) .skip (.exit 4)))
 (.block 5 (.seq (.reg [⟨(some 85), .mov (.tmp 16), none⟩, ⟨(some 86), .mov (.tmp 16), none⟩, ⟨(some 87), .lenL (.tmp 86), none⟩, ⟨(some 88), .bin .sub (.tmp 87) (.val (.int .i64 1)), none⟩, ⟨(some 89), .iaddrL 1 (.tmp 85) (.tmp 88), none⟩, ⟨(some 90), .load none (.tmp 89), none⟩, ⟨(some 17), .mov (.tmp 90), none⟩])
 (.seq (.reg [⟨(some 91), .mov (.tmp 16), none⟩, ⟨(some 92), .mov (.tmp 16), none⟩, ⟨(some 93), .lenL (.tmp 92), none⟩, ⟨(some 94), .bin .sub (.tmp 93) (.val (.int .i64 1)), none⟩, ⟨(some 95), .slcL 1 (.tmp 91) none (some (.tmp 94)) none, none⟩, ⟨(some 16), .mov (.tmp 95), none⟩])
 (.seq (.seq (.reg [⟨(some 96), .mov (.tmp 15), none⟩, ⟨(some 97), .mov (.tmp 17), none⟩, ⟨(some 98), .call 18 [(.tmp 96), (.tmp 97)], none⟩])
 (.cond (.tmp 98) (.exit 5) .skip))
 (.seq (.reg [⟨(some 99), .mov (.tmp 15), none⟩, ⟨(some 100), .mov (.tmp 17), none⟩, ⟨(some 101), .call 27 [(.tmp 99), (.tmp 100)], none⟩])
 (.reg [⟨(some 102), .mov (.tmp 16), none⟩, ⟨(some 103), .mov (.tmp 10), none⟩, ⟨(some 104), .mov (.tmp 17), none⟩, ⟨(some 105), .xm (.mlk .int (.nils) false) [(.tmp 103), (.tmp 104)], none⟩, ⟨(some 106), .app none 1 8 (.tmp 102) (.tmp 105), none⟩, ⟨(some 16), .mov (.tmp 106), none⟩])))))))
def a9_L1 : AC := .loop a9_B1
theorem a9_L1_step (call : Caller) (again : AC → St → Option (Ex × St)) (s : St) : codeEv call again a9_L1 s = match codeEv call again a9_B1 s with | some (.norm, s1) => again a9_L1 s1 | r => r := rfl
def a9_B2 : AC := (.seq (.reg [⟨(some 58), .bin .lss (.tmp 57) (.tmp 56), none⟩])
 (.seq (.cond (.tmp 58) .skip (.exit 2))
 (.seq (.block 3 (.seq (.reg [⟨(some 59), .iaddrL 1 (.tmp 55) (.tmp 57), none⟩, ⟨(some 60), .load none (.tmp 59), none⟩, ⟨(some 14), .mov (.tmp 60), none⟩])
 (.reg [⟨(some 61), .mov (.tmp 10), none⟩, ⟨(some 62), .mov (.tmp 14), none⟩, ⟨(some 63), .mov (.tmp 10), none⟩, ⟨(some 64), .mov (.tmp 14), none⟩, ⟨(some 65), .xm (.mlk .int (.nils) false) [(.tmp 63), (.tmp 64)], none⟩, ⟨(some 66), .mov (.tmp 12), none⟩, ⟨(some 67), .mkslc 1 1 [(.int .i64 0)] [(0, (.tmp 66))], none⟩, ⟨(some 68), .app none 1 8 (.tmp 65) (.tmp 67), none⟩, ⟨none, .xm (.mup .int) [(.tmp 61), (.tmp 62), (.tmp 68)], none⟩])))
 (.reg [⟨(some 69), .bin .add (.tmp 57) (.val (.int .i64 1)), none⟩, ⟨(some 57), .mov (.tmp 69), none⟩]))))
def a9_L2 : AC := .loop a9_B2
theorem a9_L2_step (call : Caller) (again : AC → St → Option (Ex × St)) (s : St) : codeEv call again a9_L2 s = match codeEv call again a9_B2 s with | some (.norm, s1) => again a9_L2 s1 | r => r := rfl
def a9_B3 : AC := (.seq (.reg [⟨(some 50), .bin .lss (.tmp 49) (.tmp 48), none⟩])
 (.seq (.cond (.tmp 50) .skip (.exit 0))
 (.seq (.block 1 (.seq (.reg [⟨(some 51), .iaddrL 1 (.tmp 47) (.tmp 49), none⟩, ⟨(some 52), .load none (.tmp 51), none⟩, ⟨(some 12), .mov (.tmp 52), none⟩])
 (.seq (.reg [⟨(some 53), .load (some 8) (.tmp 2), none⟩, ⟨(some 54), .mov (.tmp 12), none⟩, ⟨(some 55), .call 25 [(.tmp 53), (.tmp 54)], none⟩, ⟨(some 56), .lenL (.tmp 55), none⟩, ⟨(some 57), .mov (.val (.int .i64 0)), none⟩])
 (.block 2 a9_L2))))
 (.reg [⟨(some 70), .bin .add (.tmp 49) (.val (.int .i64 1)), none⟩, ⟨(some 49), .mov (.tmp 70), none⟩]))))
def a9_L3 : AC := .loop a9_B3
theorem a9_L3_step (call : Caller) (again : AC → St → Option (Ex × St)) (s : St) : codeEv call again a9_L3 s = match codeEv call again a9_B3 s with | some (.norm, s1) => again a9_L3 s1 | r => r := rfl
def a9 : AFn := { n := 112, np := 2, res := [.tmp 4], body :=
 (.seq (.reg [⟨(some 2), .box (some 2) (.tmp 0), none⟩, ⟨(some 4), .mov (.val .nils), none⟩])
 (.seq (.reg [⟨(some 19), .load (some 8) (.tmp 2), none⟩, ⟨(some 20), .mov (.tmp 1), none⟩, ⟨(some 21), .call 11 [(.tmp 19), (.tmp 20)], none⟩, ⟨(some 18), .mov (.tmp 21), none⟩, ⟨(some 22), .ext (.tmp 18) 0, none⟩, ⟨(some 23), .ext (.tmp 18) 1, none⟩, ⟨(some 5), .mov (.tmp 22), none⟩, ⟨(some 6), .mov (.tmp 23), none⟩])
 (.seq (.seq (.reg [⟨(some 24), .mov (.tmp 6), none⟩, ⟨(some 25), .un .not (.tmp 24), none⟩])
 (.cond (.tmp 25) (.seq (.reg [⟨(some 4), .mov (.val .nils), none⟩])
 .ret) .skip))
 (.seq (.reg [⟨(some 27), .load (some 8) (.tmp 2), none⟩, ⟨(some 28), .mov (.tmp 5), none⟩, ⟨(some 29), .call 21 [(.tmp 27), (.tmp 28)], none⟩, ⟨(some 26), .mov (.tmp 29), none⟩, ⟨(some 30), .ext (.tmp 26) 0, none⟩, ⟨(some 31), .ext (.tmp 26) 1, none⟩, ⟨(some 7), .mov (.tmp 30), none⟩, ⟨(some 8), .mov (.tmp 31), none⟩])
 (.seq (.seq (.reg [⟨(some 32), .mov (.tmp 8), none⟩, ⟨(some 33), .mov (.tmp 1), none⟩, ⟨(some 34), .xm (.mlk .int (.nils) false) [(.tmp 32), (.tmp 33)], none⟩, ⟨(some 35), .eq false .nilS (.tmp 34) (.val .nils), none⟩, ⟨(some 36), .mov (.tmp 35), none⟩, ⟨(some 37), .load (some 8) (.tmp 2), (some (36, false))⟩, ⟨(some 38), .mov (.tmp 5), (some (36, false))⟩, ⟨(some 39), .call 8 [(.tmp 37), (.tmp 38)], (some (36, false))⟩, ⟨(some 40), .mov (.tmp 1), (some (36, false))⟩, ⟨(some 41), .call 23 [(.tmp 39), (.tmp 40)], (some (36, false))⟩, ⟨(some 42), .pick (.tmp 36) (.val (.bool true)) (.tmp 41), none⟩])
 (.cond (.tmp 42) (.seq (.reg [⟨(some 4), .mov (.val .nils), none⟩])
 .ret) .skip))
 (.seq (.reg [⟨(some 43), .load (some 8) (.tmp 2), none⟩, ⟨(some 44), .mov (.tmp 5), none⟩, ⟨(some 45), .call 24 [(.tmp 43), (.tmp 44)], none⟩, ⟨(some 9), .mov (.tmp 45), none⟩])
 (.seq (.reg [⟨(some 46), .xm (.mkmap) [], none⟩, ⟨(some 10), .mov (.tmp 46), none⟩])
 (.seq (.seq (.reg [⟨(some 47), .mov (.tmp 9), none⟩, ⟨(some 48), .lenL (.tmp 47), none⟩, ⟨(some 49), .mov (.val (.int .i64 0)), none⟩])
 (.block 0 a9_L3))
 (.seq (.reg [⟨(some 71), .faddr 0 (.tmp 2), none⟩, ⟨(some 72), .load none (.tmp 71), none⟩, ⟨(some 73), .lenL (.tmp 72), none⟩, ⟨(some 74), .call 26 [(.tmp 73)], none⟩, ⟨(some 15), .mov (.tmp 74), none⟩])
 (.seq (.reg [⟨(some 75), .mov (.tmp 15), none⟩, ⟨(some 76), .mov (.tmp 1), none⟩, ⟨(some 77), .call 27 [(.tmp 75), (.tmp 76)], none⟩])
 (.seq (.reg [⟨(some 78), .mov (.tmp 8), none⟩, ⟨(some 79), .mov (.tmp 1), none⟩, ⟨(some 80), .xm (.mlk .int (.nils) false) [(.tmp 78), (.tmp 79)], none⟩, ⟨(some 81), .call 28 [(.tmp 80)], none⟩, ⟨(some 16), .mov (.tmp 81), none⟩])
 (.seq (.block 4 a9_L1)
 (.seq (.reg [⟨(some 107), .mov (.tmp 15), none⟩, ⟨(some 108), .faddr 0 (.tmp 2), none⟩, ⟨(some 109), .load none (.tmp 108), none⟩, ⟨(some 110), .lenL (.tmp 109), none⟩, ⟨(some 111), .call 14 [(.tmp 107), (.tmp 110)], none⟩, ⟨(some 4), .mov (.tmp 111), none⟩])
 .ret))))))))))))) }
def h10 : Hints := ⟨[2], [], []⟩
def a10 : AFn := { n := 14, np := 2, res := [.tmp 4], body :=
 (.seq (.reg [⟨(some 2), .box (some 2) (.tmp 0), none⟩, ⟨(some 4), .mov (.val .nils), none⟩])
 (.seq (.reg [⟨(some 8), .load (some 8) (.tmp 2), none⟩, ⟨(some 9), .mov (.tmp 1), none⟩, ⟨(some 10), .call 21 [(.tmp 8), (.tmp 9)], none⟩, ⟨(some 7), .mov (.tmp 10), none⟩, ⟨(some 11), .ext (.tmp 7) 0, none⟩, ⟨(some 12), .ext (.tmp 7) 1, none⟩, ⟨(some 5), .mov (.tmp 11), none⟩, ⟨(some 6), .mov (.tmp 12), none⟩])
 (.seq (.reg [⟨(some 13), .mov (.tmp 5), none⟩, ⟨(some 4), .mov (.tmp 13), none⟩])
 .ret))) }
def h11 : Hints := ⟨[2], [], []⟩
def a11_B1 : AC := (.seq (.reg [⟨(some 26), .bin .lss (.tmp 25) (.tmp 24), none⟩])
 (.seq (.cond (.tmp 26) .skip (.exit 0))
 (.seq (.block 1 (.seq (.reg [⟨(some 27), .mov (.tmp 25), none⟩, ⟨(some 7), .mov (.tmp 27), none⟩])
 (.seq (.reg [⟨(some 28), .faddr 1 (.tmp 2), none⟩, ⟨(some 29), .load none (.tmp 28), none⟩, ⟨(some 30), .mov (.tmp 7), none⟩, ⟨(some 31), .iaddrL 3 (.tmp 29) (.tmp 30), none⟩, ⟨(some 32), .faddr 0 (.tmp 31), none⟩, ⟨(some 33), .load none (.tmp 32), none⟩, ⟨(some 34), .mov (.tmp 1), none⟩, ⟨(some 35), .bin .leq (.tmp 33) (.tmp 34), none⟩])
 (.cond (.tmp 35) (.reg [⟨(some 36), .mov (.tmp 7), none⟩, ⟨(some 6), .mov (.tmp 36), none⟩]) .skip))))
 (.reg [⟨(some 37), .bin .add (.tmp 25) (.val (.int .i64 1)), none⟩, ⟨(some 25), .mov (.tmp 37), none⟩]))))
def a11_L1 : AC := .loop a11_B1
theorem a11_L1_step (call : Caller) (again : AC → St → Option (Ex × St)) (s : St) : codeEv call again a11_L1 s = match codeEv call again a11_B1 s with | some (.norm, s1) => again a11_L1 s1 | r => r := rfl
def a11 : AFn := { n := 39, np := 2, res := [.tmp 4, .tmp 5], body :=
 (.seq (.reg [⟨(some 2), .box (some 2) (.tmp 0), none⟩, ⟨(some 4), .mov (.val (.int .i64 0)), none⟩, ⟨(some 5), .mov (.val (.bool false)), none⟩])
 (.seq (.seq (.reg [⟨(some 8), .load (some 8) (.tmp 2), none⟩, ⟨(some 9), .call 29 [(.tmp 8)], none⟩, ⟨(some 10), .bin .neq (.tmp 9) (.val (.int .i64 0)), none⟩, ⟨(some 11), .mov (.tmp 10), none⟩, ⟨(some 12), .mov (.tmp 1), (some (11, false))⟩, ⟨(some 13), .bin .lss (.tmp 12) (.val (.int .i64 0)), (some (11, false))⟩, ⟨(some 14), .pick (.tmp 11) (.val (.bool true)) (.tmp 13), none⟩, ⟨(some 15), .mov (.tmp 14), none⟩, ⟨(some 16), .mov (.tmp 1), (some (15, false))⟩, ⟨(some 17), .faddr 0 (.tmp 2), (some (15, false))⟩, ⟨(some 18), .load none (.tmp 17), (some (15, false))⟩, ⟨(some 19), .lenL (.tmp 18), (some (15, false))⟩, ⟨(some 20), .bin .geq (.tmp 16) (.tmp 19), (some (15, false))⟩, ⟨(some 21), .pick (.tmp 15) (.val (.bool true)) (.tmp 20), none⟩])
 (.cond (.tmp 21) (.seq (.reg [⟨(some 4), .mov (.val (.int .i64 0)), none⟩, ⟨(some 5), .mov (.val (.bool false)), none⟩])
 .ret) .skip))
 (.seq (.reg [⟨(some 6), .mov (.val (.int .i64 0)), none⟩])
 (.seq (.seq (.reg [⟨(some 22), .faddr 1 (.tmp 2), none⟩, ⟨(some 23), .load none (.tmp 22), none⟩, ⟨(some 24), .lenL (.tmp 23), none⟩, ⟨(some 25), .mov (.val (.int .i64 0)), none⟩])
 (.block 0 a11_L1))
 (.seq (.reg [⟨(some 38), .mov (.tmp 6), none⟩, ⟨(some 4), .mov (.tmp 38), none⟩, ⟨(some 5), .mov (.val (.bool true)), none⟩])
 .ret))))) }
def h12 : Hints := ⟨[2], [], []⟩
def a12_B1 : AC := (.seq (.reg [⟨(some 100), .bin .lss (.tmp 99) (.tmp 98), none⟩])
 (.seq (.cond (.tmp 100) .skip (.exit 10))
 (.seq (.block 11 (.seq (.reg [⟨(some 101), .iaddrL 1 (.tmp 97) (.tmp 99), none⟩, ⟨(some 102), .load none (.tmp 101), none⟩, ⟨(some 19), .mov (.tmp 102), none⟩])
 (.reg [⟨(some 103), .mov (.tmp 17), none⟩, ⟨(some 104), .mov (.tmp 6), none⟩, ⟨(some 105), .mov (.tmp 19), none⟩, ⟨(some 106), .xm (.mlk .int (.nils) false) [(.tmp 104), (.tmp 105)], none⟩, ⟨(some 107), .call 31 [(.tmp 103), (.tmp 106)], none⟩])))
 (.reg [⟨(some 108), .bin .add (.tmp 99) (.val (.int .i64 1)), none⟩, ⟨(some 99), .mov (.tmp 108), none⟩]))))
def a12_L1 : AC := .loop a12_B1
theorem a12_L1_step (call : Caller) (again : AC → St → Option (Ex × St)) (s : St) : codeEv call again a12_L1 s = match codeEv call again a12_B1 s with | some (.norm, s1) => again a12_L1 s1 | r => r := rfl
def a12_B2 : AC := (.seq (.reg [⟨(some 88), .bin .lss (.tmp 87) (.tmp 86), none⟩])
 (.seq (.cond (.tmp 88) .skip (.exit 8))
 (.seq (.block 9 (.seq (.reg [⟨(some 89), .iaddrL 1 (.tmp 85) (.tmp 87), none⟩, ⟨(some 90), .load none (.tmp 89), none⟩, ⟨(some 16), .mov (.tmp 90), none⟩])
 (.seq (.reg [⟨(some 91), .faddr 0 (.tmp 2), none⟩, ⟨(some 92), .load none (.tmp 91), none⟩, ⟨(some 93), .lenL (.tmp 92), none⟩, ⟨(some 94), .call 30 [(.tmp 93)], none⟩, ⟨(some 17), .mov (.tmp 94), none⟩])
 (.seq (.seq (.reg [⟨(some 95), .mov (.tmp 9), none⟩, ⟨(some 96), .mov (.tmp 16), none⟩, ⟨(some 97), .xm (.mlk .int (.nils) false) [(.tmp 95), (.tmp 96)], none⟩, ⟨(some 98), .lenL (.tmp 97), none⟩, ⟨(some 99), .mov (.val (.int .i64 0)), none⟩])
 (.block 10 a12_L1))
 (.seq (.reg [⟨(some 109), .mov (.tmp 17), none⟩, ⟨(some 110), .mov (.tmp 16), none⟩, ⟨(some 111), .call 27 [(.tmp 109), (.tmp 110)], none⟩])
 (.seq (.reg [⟨(some 112), .mov (.tmp 6), none⟩, ⟨(some 113), .mov (.tmp 16), none⟩, ⟨(some 114), .xm (.mlk .int (.nils) false) [(.tmp 112), (.tmp 113)], none⟩, ⟨(some 115), .mov (.tmp 17), none⟩, ⟨(some 116), .call 31 [(.tmp 114), (.tmp 115)], none⟩])
 (.cond (.tmp 116) (.reg [⟨(some 14), .mov (.val (.bool true)), none⟩]) .skip)))))))
 (.reg [⟨(some 117), .bin .add (.tmp 87) (.val (.int .i64 1)), none⟩, ⟨(some 87), .mov (.tmp 117), none⟩]))))
def a12_L2 : AC := .loop a12_B2
theorem a12_L2_step (call : Caller) (again : AC → St → Option (Ex × St)) (s : St) : codeEv call again a12_L2 s = match codeEv call again a12_B2 s with | some (.norm, s1) => again a12_L2 s1 | r => r := rfl
def a12_B3 : AC := (.seq (.seq (.reg [⟨(some 83), .mov (.tmp 14), none⟩])
 (.cond (.tmp 83) .skip (.exit 6)))
 (.block 7 (.seq (.reg [⟨(some 14), .mov (.val (.bool false)), none⟩])
 (.seq (.reg [⟨(some 84), .mov (.tmp 5), none⟩, ⟨(some 85), .slcL 1 (.tmp 84) (some (.val (.int .i64 1))) none none, none⟩, ⟨(some 86), .lenL (.tmp 85), none⟩, ⟨(some 87), .mov (.val (.int .i64 0)), none⟩])
 (.block 8 a12_L2)))))
def a12_L3 : AC := .loop a12_B3
theorem a12_L3_step (call : Caller) (again : AC → St → Option (Ex × St)) (s : St) : codeEv call again a12_L3 s = match codeEv call again a12_B3 s with | some (.norm, s1) => again a12_L3 s1 | r => r := rfl
def a12_B4 : AC := (.seq (.reg [⟨(some 53), .bin .lss (.tmp 52) (.tmp 51), none⟩])
 (.seq (.cond (.tmp 53) .skip (.exit 4))
 (.seq (.block 5 (.seq (.reg [⟨(some 54), .iaddrL 1 (.tmp 50) (.tmp 52), none⟩, ⟨(some 55), .load none (.tmp 54), none⟩, ⟨(some 13), .mov (.tmp 55), none⟩])
 (.reg [⟨(some 56), .mov (.tmp 9), none⟩, ⟨(some 57), .mov (.tmp 13), none⟩, ⟨(some 58), .mov (.tmp 9), none⟩, ⟨(some 59), .mov (.tmp 13), none⟩, ⟨(some 60), .xm (.mlk .int (.nils) false) [(.tmp 58), (.tmp 59)], none⟩, ⟨(some 61), .mov (.tmp 11), none⟩, ⟨(some 62), .mkslc 1 1 [(.int .i64 0)] [(0, (.tmp 61))], none⟩, ⟨(some 63), .app none 1 8 (.tmp 60) (.tmp 62), none⟩, ⟨none, .xm (.mup .int) [(.tmp 56), (.tmp 57), (.tmp 63)], none⟩])))
 (.reg [⟨(some 64), .bin .add (.tmp 52) (.val (.int .i64 1)), none⟩, ⟨(some 52), .mov (.tmp 64), none⟩]))))
def a12_L4 : AC := .loop a12_B4
theorem a12_L4_step (call : Caller) (again : AC → St → Option (Ex × St)) (s : St) : codeEv call again a12_L4 s = match codeEv call again a12_B4 s with | some (.norm, s1) => again a12_L4 s1 | r => r := rfl
def a12_B5 : AC := (.seq (.reg [⟨(some 45), .bin .lss (.tmp 44) (.tmp 43), none⟩])
 (.seq (.cond (.tmp 45) .skip (.exit 2))
 (.seq (.block 3 (.seq (.reg [⟨(some 46), .iaddrL 1 (.tmp 42) (.tmp 44), none⟩, ⟨(some 47), .load none (.tmp 46), none⟩, ⟨(some 11), .mov (.tmp 47), none⟩])
 (.seq (.reg [⟨(some 48), .load (some 8) (.tmp 2), none⟩, ⟨(some 49), .mov (.tmp 11), none⟩, ⟨(some 50), .call 25 [(.tmp 48), (.tmp 49)], none⟩, ⟨(some 51), .lenL (.tmp 50), none⟩, ⟨(some 52), .mov (.val (.int .i64 0)), none⟩])
 (.block 4 a12_L4))))
 (.reg [⟨(some 65), .bin .add (.tmp 44) (.val (.int .i64 1)), none⟩, ⟨(some 44), .mov (.tmp 65), none⟩]))))
def a12_L5 : AC := .loop a12_B5
theorem a12_L5_step (call : Caller) (again : AC → St → Option (Ex × St)) (s : St) : codeEv call again a12_L5 s = match codeEv call again a12_B5 s with | some (.norm, s1) => again a12_L5 s1 | r => r := rfl
def a12_B6 : AC := (.seq (.reg [⟨(some 27), .bin .lss (.tmp 26) (.tmp 25), none⟩])
 (.seq (.cond (.tmp 27) .skip (.exit 0))
 (.seq (.block 1 (.seq (.reg [⟨(some 28), .iaddrL 1 (.tmp 24) (.tmp 26), none⟩, ⟨(some 29), .load none (.tmp 28), none⟩, ⟨(some 8), .mov (.tmp 29), none⟩])
 (.reg [⟨(some 30), .mov (.tmp 6), none⟩, ⟨(some 31), .mov (.tmp 8), none⟩, ⟨(some 32), .faddr 0 (.tmp 2), none⟩, ⟨(some 33), .load none (.tmp 32), none⟩, ⟨(some 34), .lenL (.tmp 33), none⟩, ⟨(some 35), .call 30 [(.tmp 34)], none⟩, ⟨none, .xm (.mup .int) [(.tmp 30), (.tmp 31), (.tmp 35)], none⟩])))
 (.reg [⟨(some 36), .bin .add (.tmp 26) (.val (.int .i64 1)), none⟩, ⟨(some 26), .mov (.tmp 36), none⟩]))))
def a12_L6 : AC := .loop a12_B6
theorem a12_L6_step (call : Caller) (again : AC → St → Option (Ex × St)) (s : St) : codeEv call again a12_L6 s = match codeEv call again a12_B6 s with | some (.norm, s1) => again a12_L6 s1 | r => r := rfl
def a12 : AFn := { n := 119, np := 2, res := [.tmp 4], body :=
 (.seq (.reg [⟨(some 2), .box (some 2) (.tmp 0), none⟩, ⟨(some 4), .mov (.val .nilm), none⟩])
 (.seq (.reg [⟨(some 20), .load (some 8) (.tmp 2), none⟩, ⟨(some 21), .mov (.tmp 1), none⟩, ⟨(some 22), .call 24 [(.tmp 20), (.tmp 21)], none⟩, ⟨(some 5), .mov (.tmp 22), none⟩])
 (.seq (.reg [⟨(some 23), .xm (.mkmap) [], none⟩, ⟨(some 6), .mov (.tmp 23), none⟩])
 (.seq (.seq (.reg [⟨(some 24), .mov (.tmp 5), none⟩, ⟨(some 25), .lenL (.tmp 24), none⟩, ⟨(some 26), .mov (.val (.int .i64 0)), none⟩])
 (.block 0 a12_L6))
 (.seq (.seq (.reg [⟨(some 37), .mov (.tmp 5), none⟩, ⟨(some 38), .lenL (.tmp 37), none⟩, ⟨(some 39), .bin .eql (.tmp 38) (.val (.int .i64 0)), none⟩])
 (.cond (.tmp 39) (.seq (.reg [⟨(some 40), .mov (.tmp 6), none⟩, ⟨(some 4), .mov (.tmp 40), none⟩])
 .ret) .skip))
 (.seq (.reg [⟨(some 41), .xm (.mkmap) [], none⟩, ⟨(some 9), .mov (.tmp 41), none⟩])
 (.seq (.seq (.reg [⟨(some 42), .mov (.tmp 5), none⟩, ⟨(some 43), .lenL (.tmp 42), none⟩, ⟨(some 44), .mov (.val (.int .i64 0)), none⟩])
 (.block 2 a12_L5))
 (.seq (.dreg [(false, ⟨(some 66), .mov (.tmp 6), none⟩, false), (false, ⟨(some 67), .mov (.tmp 5), none⟩, false), (false, ⟨(some 68), .iaddrL 1 (.tmp 67) (.val (.int .i64 0)), none⟩, false), (true, ⟨(some 69), .load none (.tmp 68), none⟩, false), (false, ⟨(some 70), .faddr 0 (.tmp 2), none⟩, false), (false, ⟨(some 71), .load none (.tmp 70), none⟩, false), (false, ⟨(some 72), .lenL (.tmp 71), none⟩, false), (true, ⟨(some 73), .call 26 [(.tmp 72)], none⟩, false), (false, ⟨none, .xm (.mup .int) [(.tmp 66), (.tmp 69), (.tmp 73)], none⟩, false)])
 (.seq (.dreg [(false, ⟨(some 74), .mov (.tmp 6), none⟩, false), (false, ⟨(some 75), .mov (.tmp 5), none⟩, false), (false, ⟨(some 76), .iaddrL 1 (.tmp 75) (.val (.int .i64 0)), none⟩, false), (false, ⟨(some 77), .load none (.tmp 76), none⟩, false), (true, ⟨(some 78), .xm (.mlk .int (.nils) false) [(.tmp 74), (.tmp 77)], none⟩, false), (false, ⟨(some 79), .mov (.tmp 5), none⟩, false), (false, ⟨(some 80), .iaddrL 1 (.tmp 79) (.val (.int .i64 0)), none⟩, false), (true, ⟨(some 81), .load none (.tmp 80), none⟩, false), (false, ⟨(some 82), .call 27 [(.tmp 78), (.tmp 81)], none⟩, false)])
 (.seq (.seq (.reg [⟨(some 14), .mov (.val (.bool true)), none⟩])
 (.block 6 a12_L3))
 (.seq (.reg [⟨(some 118), .mov (.tmp 6), none⟩, ⟨(some 4), .mov (.tmp 118), none⟩])
 .ret))))))))))) }
def h13 : Hints := ⟨[], [], []⟩
def a13_B1 : AC := (.seq (.seq (.reg [⟨(some 16), .mov (.tmp 6), none⟩, ⟨(some 17), .mov (.tmp 0), none⟩, ⟨(some 18), .lenL (.tmp 17), none⟩, ⟨(some 19), .bin .lss (.tmp 16) (.tmp 18), none⟩])
 (.cond (.tmp 19) .skip (.exit 0)))
 (.seq (.block 1 (.seq (.reg [⟨(some 22), .mov (.tmp 0), none⟩, ⟨(some 23), .mov (.tmp 6), none⟩, ⟨(some 24), .iaddrL 1 (.tmp 22) (.tmp 23), none⟩, ⟨(some 25), .load none (.tmp 24), none⟩, ⟨(some 7), .mov (.tmp 25), none⟩])
 (.seq (.reg [⟨(some 26), .mov (.tmp 1), none⟩, ⟨(some 27), .mov (.tmp 7), none⟩, ⟨(some 28), .callv (.tmp 26) [(.tmp 27)], none⟩, ⟨(some 29), .un .not (.tmp 28), none⟩])
 (.cond (.tmp 29) (.seq (.reg [⟨(some 30), .mov (.tmp 0), none⟩, ⟨(some 31), .mov (.tmp 5), none⟩, ⟨(some 32), .mov (.tmp 7), none⟩, ⟨(some 33), .iaddrL 1 (.tmp 30) (.tmp 31), none⟩, ⟨none, .store 1 (.tmp 33) (.tmp 32), none⟩])
 (.reg [⟨(some 34), .mov (.tmp 5), none⟩, ⟨(some 35), .bin .add (.tmp 34) (.val (.int .i64 1)), none⟩, ⟨(some 5), .mov (.tmp 35), none⟩])) .skip))))
 (.reg [⟨(some 20), .mov (.tmp 6), none⟩, ⟨(some 21), .bin .add (.tmp 20) (.val (.int .i64 1)), none⟩, ⟨(some 6), .mov (.tmp 21), none⟩])))
def a13_L1 : AC := .loop a13_B1
theorem a13_L1_step (call : Caller) (again : AC → St → Option (Ex × St)) (s : St) : codeEv call again a13_L1 s = match codeEv call again a13_B1 s with | some (.norm, s1) => again a13_L1 s1 | r => r := rfl
def a13 : AFn := { n := 42, np := 2, res := [.tmp 4], body :=
 (.seq (.reg [⟨(some 4), .mov (.val .nils), none⟩])
 (.seq (.reg [⟨(some 8), .mov (.tmp 0), none⟩, ⟨(some 9), .mov (.tmp 1), none⟩, ⟨(some 10), .call 32 [(.tmp 8), (.tmp 9)], none⟩, ⟨(some 5), .mov (.tmp 10), none⟩])
 (.seq (.seq (.reg [⟨(some 11), .mov (.tmp 5), none⟩, ⟨(some 12), .bin .eql (.tmp 11) (.val (.int .i64 (-1))), none⟩])
 (.cond (.tmp 12) (.seq (.reg [⟨(some 13), .mov (.tmp 0), none⟩, ⟨(some 4), .mov (.tmp 13), none⟩])
 .ret) .skip))
 (.seq (.seq (.reg [⟨(some 14), .mov (.tmp 5), none⟩, ⟨(some 15), .bin .add (.tmp 14) (.val (.int .i64 1)), none⟩, ⟨(some 6), .mov (.tmp 15), none⟩])
 (.block 0 a13_L1))
 (.seq (.reg [⟨(some 36), .mov (.tmp 0), none⟩, ⟨(some 37), .mov (.tmp 5), none⟩, ⟨(some 38), .slcL 1 (.tmp 36) (some (.tmp 37)) none none, none⟩, ⟨none, .xm ((.sclr 1 [(.int .i64 0)])) [(.tmp 38)], none⟩])
 (.seq (.reg [⟨(some 39), .mov (.tmp 0), none⟩, ⟨(some 40), .mov (.tmp 5), none⟩, ⟨(some 41), .slcL 1 (.tmp 39) none (some (.tmp 40)) none, none⟩, ⟨(some 4), .mov (.tmp 41), none⟩])
 .ret)))))) }
def h14 : Hints := ⟨[], [], []⟩
def a14_B1 : AC := (.seq (.reg [⟨(some 9), .bin .lss (.tmp 8) (.tmp 7), none⟩])
 (.seq (.cond (.tmp 9) .skip (.exit 0))
 (.seq (.block 1 (.seq (.reg [⟨(some 10), .mov (.tmp 8), none⟩, ⟨(some 6), .mov (.tmp 10), none⟩])
 (.seq (.reg [⟨(some 11), .mov (.tmp 0), none⟩, ⟨(some 12), .mov (.tmp 6), none⟩, ⟨(some 13), .call 18 [(.tmp 11), (.tmp 12)], none⟩])
 (.cond (.tmp 13) (.reg [⟨(some 14), .mov (.tmp 5), none⟩, ⟨(some 15), .mov (.tmp 6), none⟩, ⟨(some 16), .mkslc 1 1 [(.int .i64 0)] [(0, (.tmp 15))], none⟩, ⟨(some 17), .app none 1 8 (.tmp 14) (.tmp 16), none⟩, ⟨(some 5), .mov (.tmp 17), none⟩]) .skip))))
 (.reg [⟨(some 18), .bin .add (.tmp 8) (.val (.int .i64 1)), none⟩, ⟨(some 8), .mov (.tmp 18), none⟩]))))
def a14_L1 : AC := .loop a14_B1
theorem a14_L1_step (call : Caller) (again : AC → St → Option (Ex × St)) (s : St) : codeEv call again a14_L1 s = match codeEv call again a14_B1 s with | some (.norm, s1) => again a14_L1 s1 | r => r := rfl
def a14 : AFn := { n := 20, np := 2, res := [.tmp 4], body :=
 (.seq (.reg [⟨(some 4), .mov (.val .nils), none⟩])
 (.seq (.reg [⟨(some 5), .mov (.val .nils), none⟩])
 (.seq (.seq (.reg [⟨(some 7), .mov (.tmp 1), none⟩, ⟨(some 8), .mov (.val (.int .i64 0)), none⟩])
 (.block 0 a14_L1))
 (.seq (.reg [⟨(some 19), .mov (.tmp 5), none⟩, ⟨(some 4), .mov (.tmp 19), none⟩])
 .ret)))) }
def h15 : Hints := ⟨[], [], []⟩
def a15 : AFn := { n := 7, np := 2, res := [.tmp 3], body :=
 (.seq (.reg [⟨(some 3), .mov (.val (.bool false)), none⟩])
 (.seq (.reg [⟨(some 4), .mov (.tmp 0), none⟩, ⟨(some 5), .load none (.tmp 1), none⟩, ⟨(some 6), .bin .eql (.tmp 4) (.tmp 5), none⟩, ⟨(some 3), .mov (.tmp 6), none⟩])
 .ret)) }
def h16 : Hints := ⟨[], [], []⟩
def a16 : AFn := { n := 9, np := 2, res := [.tmp 4], body :=
 (.seq (.reg [⟨(some 4), .mov (.val (.bool false)), none⟩])
 (.seq (.reg [⟨(some 5), .mov (.tmp 0), none⟩, ⟨(some 6), .mov (.tmp 1), none⟩, ⟨(some 7), .call 32 [(.tmp 5), (.tmp 6)], none⟩, ⟨(some 8), .bin .geq (.tmp 7) (.val (.int .i64 0)), none⟩, ⟨(some 4), .mov (.tmp 8), none⟩])
 .ret)) }
def h17 : Hints := ⟨[], [], []⟩
def a17 : AFn := { n := 11, np := 3, res := [.tmp 4], body :=
 (.seq (.reg [⟨(some 4), .mov (.val (.bool false)), none⟩])
 (.seq (.reg [⟨(some 5), .load none (.tmp 1), none⟩, ⟨(some 6), .load none (.tmp 2), none⟩, ⟨(some 7), .xm (.mlk .int (.nils) false) [(.tmp 5), (.tmp 6)], none⟩, ⟨(some 8), .mov (.tmp 0), none⟩, ⟨(some 9), .call 18 [(.tmp 7), (.tmp 8)], none⟩, ⟨(some 10), .un .not (.tmp 9), none⟩, ⟨(some 4), .mov (.tmp 10), none⟩])
 .ret)) }
def h18 : Hints := ⟨[], [], []⟩
def a18 : AFn := { n := 15, np := 2, res := [.tmp 4], body :=
 (.seq (.reg [⟨(some 4), .mov (.val (.bool false)), none⟩])
 (.seq (.reg [⟨(some 5), .mov (.tmp 0), none⟩, ⟨(some 6), .mov (.tmp 1), none⟩, ⟨(some 7), .bin .quo (.tmp 6) (.val (.int .i64 64)), none⟩, ⟨(some 8), .iaddrL 1 (.tmp 5) (.tmp 7), none⟩, ⟨(some 9), .load none (.tmp 8), none⟩, ⟨(some 10), .mov (.tmp 1), none⟩, ⟨(some 11), .bin .rem (.tmp 10) (.val (.int .i64 64)), none⟩, ⟨(some 12), .bin .shr (.tmp 9) (.tmp 11), none⟩, ⟨(some 13), .bin .and (.tmp 12) (.val (.int .u64 1)), none⟩, ⟨(some 14), .bin .eql (.tmp 13) (.val (.int .u64 1)), none⟩, ⟨(some 4), .mov (.tmp 14), none⟩])
 .ret)) }
def h19 : Hints := ⟨[], [], []⟩
def a19_B1 : AC := (.seq (.seq (.reg [⟨(some 11), .mov (.tmp 5), none⟩, ⟨(some 12), .mov (.tmp 0), none⟩, ⟨(some 13), .lenL (.tmp 12), none⟩, ⟨(some 14), .bin .lss (.tmp 11) (.tmp 13), none⟩])
 (.cond (.tmp 14) .skip (.exit 0)))
 (.seq (.block 1 (.seq (.dreg [(false, ⟨(some 17), .mov (.tmp 0), none⟩, false), (false, ⟨(some 18), .mov (.tmp 5), none⟩, false), (false, ⟨(some 19), .iaddrL 1 (.tmp 17) (.tmp 18), none⟩, false), (false, ⟨(some 20), .load none (.tmp 19), none⟩, false), (false, ⟨(some 21), .mov (.tmp 1), none⟩, false), (false, ⟨(some 22), .mov (.tmp 5), none⟩, false), (false, ⟨(some 23), .iaddrL 1 (.tmp 21) (.tmp 22), none⟩, false), (false, ⟨(some 24), .load none (.tmp 23), none⟩, false), (false, ⟨(some 25), .bin .neq (.tmp 20) (.tmp 24), none⟩, false)])
 (.cond (.tmp 25) (.seq (.reg [⟨(some 4), .mov (.val (.bool false)), none⟩])
 .ret) .skip)))
 (.reg [⟨(some 15), .mov (.tmp 5), none⟩, ⟨(some 16), .bin .add (.tmp 15) (.val (.int .i64 1)), none⟩, ⟨(some 5), .mov (.tmp 16), none⟩])))
def a19_L1 : AC := .loop a19_B1
theorem a19_L1_step (call : Caller) (again : AC → St → Option (Ex × St)) (s : St) : codeEv call again a19_L1 s = match codeEv call again a19_B1 s with | some (.norm, s1) => again a19_L1 s1 | r => r := rfl
def a19 : AFn := { n := 26, np := 2, res := [.tmp 4], body :=
 (.seq (.reg [⟨(some 4), .mov (.val (.bool false)), none⟩])
 (.seq (.seq (.reg [⟨(some 6), .mov (.tmp 0), none⟩, ⟨(some 7), .lenL (.tmp 6), none⟩, ⟨(some 8), .mov (.tmp 1), none⟩, ⟨(some 9), .lenL (.tmp 8), none⟩, ⟨(some 10), .bin .neq (.tmp 7) (.tmp 9), none⟩])
 (.cond (.tmp 10) (.seq (.reg [⟨(some 4), .mov (.val (.bool false)), none⟩])
 .ret) .skip))
 (.seq (.seq (.reg [⟨(some 5), .mov (.val (.int .i64 0)), none⟩])
 (.block 0 a19_L1))
 (.seq (.reg [⟨(some 4), .mov (.val (.bool true)), none⟩])
 .ret)))) }
def h20 : Hints := ⟨[2], [], []⟩
def a20_B1 : AC := (.seq (.reg [⟨(some 25), .bin .lss (.tmp 24) (.tmp 23), none⟩])
 (.seq (.cond (.tmp 25) .skip (.exit 0))
 (.seq (.block 1 (.seq (.reg [⟨(some 26), .iaddrL 1 (.tmp 22) (.tmp 24), none⟩, ⟨(some 27), .load none (.tmp 26), none⟩, ⟨(some 9), .mov (.tmp 27), none⟩])
 (.seq (.reg [⟨(some 29), .load (some 8) (.tmp 2), none⟩, ⟨(some 30), .mov (.tmp 9), none⟩, ⟨(some 31), .call 9 [(.tmp 29), (.tmp 30)], none⟩, ⟨(some 32), .mov (.tmp 1), none⟩, ⟨(some 33), .call 33 [(.tmp 31), (.tmp 32)], none⟩, ⟨(some 28), .mov (.tmp 33), none⟩, ⟨(some 34), .ext (.tmp 28) 0, none⟩, ⟨(some 35), .ext (.tmp 28) 1, none⟩, ⟨(some 10), .mov (.tmp 34), none⟩, ⟨(some 11), .mov (.tmp 35), none⟩])
 (.seq (.reg [⟨(some 36), .mov (.tmp 11), none⟩])
 (.cond (.tmp 36) (.reg [⟨(some 37), .mov (.tmp 7), none⟩, ⟨(some 38), .bin .add (.tmp 37) (.val (.int .i64 1)), none⟩, ⟨(some 7), .mov (.tmp 38), none⟩]) .skip)))))
 (.reg [⟨(some 39), .bin .add (.tmp 24) (.val (.int .i64 1)), none⟩, ⟨(some 24), .mov (.tmp 39), none⟩]))))
def a20_L1 : AC := .loop a20_B1
theorem a20_L1_step (call : Caller) (again : AC → St → Option (Ex × St)) (s : St) : codeEv call again a20_L1 s = match codeEv call again a20_B1 s with | some (.norm, s1) => again a20_L1 s1 | r => r := rfl
def a20 : AFn := { n := 41, np := 2, res := [.tmp 4], body :=
 (.seq (.reg [⟨(some 2), .box (some 2) (.tmp 0), none⟩, ⟨(some 4), .mov (.val (.int .i64 0)), none⟩])
 (.seq (.reg [⟨(some 13), .load (some 8) (.tmp 2), none⟩, ⟨(some 14), .mov (.tmp 1), none⟩, ⟨(some 15), .call 11 [(.tmp 13), (.tmp 14)], none⟩, ⟨(some 12), .mov (.tmp 15), none⟩, ⟨(some 16), .ext (.tmp 12) 0, none⟩, ⟨(some 17), .ext (.tmp 12) 1, none⟩, ⟨(some 5), .mov (.tmp 16), none⟩, ⟨(some 6), .mov (.tmp 17), none⟩])
 (.seq (.seq (.reg [⟨(some 18), .mov (.tmp 6), none⟩, ⟨(some 19), .un .not (.tmp 18), none⟩])
 (.cond (.tmp 19) (.seq (.reg [⟨(some 4), .mov (.val (.int .i64 0)), none⟩])
 .ret) .skip))
 (.seq (.reg [⟨(some 7), .mov (.val (.int .i64 0)), none⟩])
 (.seq (.seq (.reg [⟨(some 20), .load (some 8) (.tmp 2), none⟩, ⟨(some 21), .mov (.tmp 5), none⟩, ⟨(some 22), .call 10 [(.tmp 20), (.tmp 21)], none⟩, ⟨(some 23), .lenL (.tmp 22), none⟩, ⟨(some 24), .mov (.val (.int .i64 0)), none⟩])
 (.block 0 a20_L1))
 (.seq (.reg [⟨(some 40), .mov (.tmp 7), none⟩, ⟨(some 4), .mov (.tmp 40), none⟩])
 .ret)))))) }
def h21 : Hints := ⟨[2, 9], [], []⟩
def a21_B1 : AC := (.seq (.reg [⟨(some 16), .bin .lss (.tmp 15) (.tmp 14), none⟩])
 (.seq (.cond (.tmp 16) .skip (.exit 0))
 (.seq (.block 1 (.seq (.reg [⟨(some 17), .iaddrL 2 (.tmp 13) (.tmp 15), none⟩, ⟨(some 18), .load (some 2) (.tmp 17), none⟩, ⟨(some 9), .alloc (some 9) [(.int .i64 0), (.int .i64 0)], none⟩, ⟨none, .store 2 (.tmp 9) (.tmp 18), none⟩])
 (.seq (.seq (.reg [⟨(some 19), .mov (.tmp 6), none⟩, ⟨(some 20), .iaddrA 2 1 (.tmp 9) (.val (.int .i64 1)), none⟩, ⟨(some 21), .load none (.tmp 20), none⟩, ⟨(some 22), .xm (.mlk .int (.nils) false) [(.tmp 19), (.tmp 21)], none⟩, ⟨(some 23), .eq false .nilS (.tmp 22) (.val .nils), none⟩])
 (.cond (.tmp 23) (.reg [⟨(some 24), .mov (.tmp 7), none⟩, ⟨(some 25), .iaddrA 2 1 (.tmp 9) (.val (.int .i64 1)), none⟩, ⟨(some 26), .load none (.tmp 25), none⟩, ⟨(some 27), .mkslc 1 1 [(.int .i64 0)] [(0, (.tmp 26))], none⟩, ⟨(some 28), .app none 1 8 (.tmp 24) (.tmp 27), none⟩, ⟨(some 7), .mov (.tmp 28), none⟩]) .skip))
 (.dreg [(false, ⟨(some 29), .mov (.tmp 6), none⟩, false), (false, ⟨(some 30), .iaddrA 2 1 (.tmp 9) (.val (.int .i64 1)), none⟩, false), (true, ⟨(some 31), .load none (.tmp 30), none⟩, false), (false, ⟨(some 32), .mov (.tmp 6), none⟩, false), (false, ⟨(some 33), .iaddrA 2 1 (.tmp 9) (.val (.int .i64 1)), none⟩, false), (false, ⟨(some 34), .load none (.tmp 33), none⟩, false), (true, ⟨(some 35), .xm (.mlk .int (.nils) false) [(.tmp 32), (.tmp 34)], none⟩, false), (false, ⟨(some 36), .iaddrA 2 1 (.tmp 9) (.val (.int .i64 0)), none⟩, false), (true, ⟨(some 37), .load none (.tmp 36), none⟩, false), (false, ⟨(some 38), .mkslc 1 1 [(.int .i64 0)] [(0, (.tmp 37))], none⟩, false), (true, ⟨(some 39), .app none 1 8 (.tmp 35) (.tmp 38), none⟩, false), (false, ⟨none, .xm (.mup .int) [(.tmp 29), (.tmp 31), (.tmp 39)], none⟩, false)]))))
 (.reg [⟨(some 40), .bin .add (.tmp 15) (.val (.int .i64 1)), none⟩, ⟨(some 15), .mov (.tmp 40), none⟩]))))
def a21_L1 : AC := .loop a21_B1
theorem a21_L1_step (call : Caller) (again : AC → St → Option (Ex × St)) (s : St) : codeEv call again a21_L1 s = match codeEv call again a21_B1 s with | some (.norm, s1) => again a21_L1 s1 | r => r := rfl
def a21 : AFn := { n := 45, np := 2, res := [.tmp 4, .tmp 5], body :=
 (.seq (.reg [⟨(some 2), .box (some 2) (.tmp 0), none⟩, ⟨(some 4), .mov (.val .nils), none⟩, ⟨(some 5), .mov (.val .nilm), none⟩])
 (.seq (.reg [⟨(some 10), .xm (.mkmap) [], none⟩, ⟨(some 6), .mov (.tmp 10), none⟩])
 (.seq (.reg [⟨(some 7), .mov (.val .nils), none⟩])
 (.seq (.seq (.reg [⟨(some 11), .load (some 8) (.tmp 2), none⟩, ⟨(some 12), .mov (.tmp 1), none⟩, ⟨(some 13), .call 34 [(.tmp 11), (.tmp 12)], none⟩, ⟨(some 14), .lenL (.tmp 13), none⟩, ⟨(some 15), .mov (.val (.int .i64 0)), none⟩])
 (.block 0 a21_L1))
 (.seq (.reg [⟨(some 41), .mov (.tmp 7), none⟩, ⟨(some 42), .call 35 [(.tmp 41)], none⟩])
 (.seq (.reg [⟨(some 43), .mov (.tmp 7), none⟩, ⟨(some 44), .mov (.tmp 6), none⟩, ⟨(some 4), .mov (.tmp 43), none⟩, ⟨(some 5), .mov (.tmp 44), none⟩])
 .ret)))))) }
def h22 : Hints := ⟨[], [], []⟩
def a22 : AFn := { n := 11, np := 3, res := [.tmp 4], body :=
 (.seq (.reg [⟨(some 4), .mov (.val (.bool false)), none⟩])
 (.seq (.reg [⟨(some 5), .load none (.tmp 1), none⟩, ⟨(some 6), .mov (.tmp 0), none⟩, ⟨(some 7), .xm (.mlk .int (.nils) false) [(.tmp 5), (.tmp 6)], none⟩, ⟨(some 8), .load none (.tmp 2), none⟩, ⟨(some 9), .call 18 [(.tmp 7), (.tmp 8)], none⟩, ⟨(some 10), .un .not (.tmp 9), none⟩, ⟨(some 4), .mov (.tmp 10), none⟩])
 .ret)) }
def h23 : Hints := ⟨[], [], []⟩
def a23 : AFn := { n := 9, np := 2, res := [.tmp 4], body :=
 (.seq (.reg [⟨(some 4), .mov (.val (.bool false)), none⟩])
 (.seq (.reg [⟨(some 5), .mov (.tmp 0), none⟩, ⟨(some 6), .mov (.tmp 1), none⟩, ⟨(some 7), .call 36 [(.tmp 5), (.tmp 6)], none⟩, ⟨(some 8), .bin .geq (.tmp 7) (.val (.int .i64 0)), none⟩, ⟨(some 4), .mov (.tmp 8), none⟩])
 .ret)) }
def h25 : Hints := ⟨[2], [], []⟩
def a25 : AFn := { n := 18, np := 2, res := [.tmp 4], body :=
 (.seq (.reg [⟨(some 2), .box (some 2) (.tmp 0), none⟩, ⟨(some 4), .mov (.val .nils), none⟩])
 (.seq (.seq (.reg [⟨(some 8), .load (some 8) (.tmp 2), none⟩, ⟨(some 9), .mov (.tmp 1), none⟩, ⟨(some 10), .call 11 [(.tmp 8), (.tmp 9)], none⟩, ⟨(some 7), .mov (.tmp 10), none⟩, ⟨(some 11), .ext (.tmp 7) 0, none⟩, ⟨(some 12), .ext (.tmp 7) 1, none⟩, ⟨(some 5), .mov (.tmp 11), none⟩, ⟨(some 6), .mov (.tmp 12), none⟩])
 (.seq (.reg [⟨(some 13), .mov (.tmp 6), none⟩, ⟨(some 14), .un .not (.tmp 13), none⟩])
 (.cond (.tmp 14) (.seq (.reg [⟨(some 4), .mov (.val .nils), none⟩])
 .ret) .skip)))
 (.seq (.reg [⟨(some 15), .load (some 8) (.tmp 2), none⟩, ⟨(some 16), .mov (.tmp 1), none⟩, ⟨(some 17), .call 40 [(.tmp 15), (.tmp 16)], none⟩, ⟨(some 4), .mov (.tmp 17), none⟩])
 .ret))) }
def h26 : Hints := ⟨[], [], []⟩
def a26 : AFn := { n := 8, np := 1, res := [.tmp 2], body :=
 (.seq (.reg [⟨(some 2), .mov (.val .nils), none⟩])
 (.seq (.reg [⟨(some 3), .mov (.tmp 0), none⟩, ⟨(some 4), .bin .add (.tmp 3) (.val (.int .i64 64)), none⟩, ⟨(some 5), .bin .sub (.tmp 4) (.val (.int .i64 1)), none⟩, ⟨(some 6), .bin .quo (.tmp 5) (.val (.int .i64 64)), none⟩, ⟨(some 7), .make 1 8 [(.int .u64 0)] (.tmp 6) (.tmp 6), none⟩, ⟨(some 2), .mov (.tmp 7), none⟩])
 .ret)) }
def h27 : Hints := ⟨[], [], []⟩
def a27 : AFn := { n := 14, np := 2, res := [], body :=
 (.dreg [(false, ⟨(some 4), .mov (.tmp 0), none⟩, false), (false, ⟨(some 5), .mov (.tmp 1), none⟩, false), (false, ⟨(some 6), .bin .quo (.tmp 5) (.val (.int .i64 64)), none⟩, false), (false, ⟨(some 7), .iaddrL 1 (.tmp 4) (.tmp 6), none⟩, false), (false, ⟨(some 8), .load none (.tmp 7), none⟩, false), (false, ⟨(some 9), .mov (.tmp 1), none⟩, false), (false, ⟨(some 10), .bin .rem (.tmp 9) (.val (.int .i64 64)), none⟩, false), (false, ⟨(some 11), .bin .shl (.val (.int .u64 1)) (.tmp 10), none⟩, false), (false, ⟨(some 12), .bin .or (.tmp 8) (.tmp 11), none⟩, false), (false, ⟨(some 13), .iaddrL 1 (.tmp 4) (.tmp 6), none⟩, false), (false, ⟨none, .store 1 (.tmp 13) (.tmp 12), none⟩, false)]) }
def h28 : Hints := ⟨[], [], []⟩
def a28 : AFn := { n := 8, np := 1, res := [.tmp 2], body :=
 (.seq (.reg [⟨(some 2), .mov (.val .nils), none⟩])
 (.seq (.seq (.reg [⟨(some 3), .mov (.tmp 0), none⟩, ⟨(some 4), .eq false .nilS (.tmp 3) (.val .nils), none⟩])
 (.cond (.tmp 4) (.seq (.reg [⟨(some 2), .mov (.val .nils), none⟩])
 .ret) .skip))
 (.seq (.reg [⟨(some 5), .mkslc 1 0 [(.int .i64 0)] [], none⟩, ⟨(some 6), .mov (.tmp 0), none⟩, ⟨(some 7), .app none 1 8 (.tmp 5) (.tmp 6), none⟩, ⟨(some 2), .mov (.tmp 7), none⟩])
 .ret))) }
def h29 : Hints := ⟨[1], [], []⟩
def a29_B1 : AC := (.seq (.reg [⟨(some 8), .bin .lss (.tmp 7) (.val (.int .i64 6)), none⟩])
 (.seq (.cond (.tmp 8) .skip (.exit 0))
 (.seq (.block 1 (.seq (.reg [⟨(some 9), .idxA 6 1 false (.tmp 6) (.tmp 7), none⟩, ⟨(some 4), .mov (.tmp 9), none⟩])
 (.seq (.reg [⟨(some 10), .mov (.tmp 4), none⟩, ⟨(some 11), .load (some 8) (.tmp 1), none⟩, ⟨(some 12), .build [.nils, .nils, .nils, (.int .i64 0), .nils, .nils, (.int .i64 0), .nils] [(0, 8, (.tmp 11))], none⟩, ⟨(some 13), .callv (.tmp 10) [(.tmp 12)], none⟩, ⟨(some 5), .mov (.tmp 13), none⟩])
 (.seq (.reg [⟨(some 14), .mov (.tmp 5), none⟩, ⟨(some 15), .bin .neq (.tmp 14) (.val (.int .i64 0)), none⟩])
 (.cond (.tmp 15) (.seq (.reg [⟨(some 16), .mov (.tmp 5), none⟩, ⟨(some 2), .mov (.tmp 16), none⟩])
 .ret) .skip)))))
 (.reg [⟨(some 17), .bin .add (.tmp 7) (.val (.int .i64 1)), none⟩, ⟨(some 7), .mov (.tmp 17), none⟩]))))
def a29_L1 : AC := .loop a29_B1
theorem a29_L1_step (call : Caller) (again : AC → St → Option (Ex × St)) (s : St) : codeEv call again a29_L1 s = match codeEv call again a29_B1 s with | some (.norm, s1) => again a29_L1 s1 | r => r := rfl
def a29 : AFn := { n := 18, np := 1, res := [.tmp 2], body :=
 (.seq (.reg [⟨(some 1), .box (some 1) (.tmp 0), none⟩, ⟨(some 2), .mov (.val (.int .i64 0)), none⟩])
 (.seq (.seq (.reg [⟨(some 6), .load (some 6) (.val (.ptr 0 0)), none⟩, ⟨(some 7), .mov (.val (.int .i64 0)), none⟩])
 (.block 0 a29_L1))
 (.seq (.reg [⟨(some 2), .mov (.val (.int .i64 0)), none⟩])
 .ret))) }
def h30 : Hints := ⟨[], [], []⟩
def a30_B1 : AC := (.seq (.reg [⟨(some 10), .bin .lss (.tmp 9) (.tmp 8), none⟩])
 (.seq (.cond (.tmp 10) .skip (.exit 0))
 (.seq (.block 1 (.seq (.reg [⟨(some 11), .mov (.tmp 9), none⟩, ⟨(some 4), .mov (.tmp 11), none⟩])
 (.reg [⟨(some 12), .mov (.tmp 3), none⟩, ⟨(some 13), .mov (.tmp 4), none⟩, ⟨(some 14), .iaddrL 1 (.tmp 12) (.tmp 13), none⟩, ⟨none, .store 1 (.tmp 14) (.val (.int .u64 18446744073709551615)), none⟩])))
 (.reg [⟨(some 15), .bin .add (.tmp 9) (.val (.int .i64 1)), none⟩, ⟨(some 9), .mov (.tmp 15), none⟩]))))
def a30_L1 : AC := .loop a30_B1
theorem a30_L1_step (call : Caller) (again : AC → St → Option (Ex × St)) (s : St) : codeEv call again a30_L1 s = match codeEv call again a30_B1 s with | some (.norm, s1) => again a30_L1 s1 | r => r := rfl
def a30 : AFn := { n := 17, np := 1, res := [.tmp 2], body :=
 (.seq (.reg [⟨(some 2), .mov (.val .nils), none⟩])
 (.seq (.reg [⟨(some 5), .mov (.tmp 0), none⟩, ⟨(some 6), .call 26 [(.tmp 5)], none⟩, ⟨(some 3), .mov (.tmp 6), none⟩])
 (.seq (.seq (.reg [⟨(some 7), .mov (.tmp 3), none⟩, ⟨(some 8), .lenL (.tmp 7), none⟩, ⟨(some 9), .mov (.val (.int .i64 0)), none⟩])
 (.block 0 a30_L1))
 (.seq (.reg [⟨(some 16), .mov (.tmp 3), none⟩, ⟨(some 2), .mov (.tmp 16), none⟩])
 .ret)))) }
def h31 : Hints := ⟨[], [], []⟩
def a31_B1 : AC := (.seq (.reg [⟨(some 10), .bin .lss (.tmp 9) (.tmp 8), none⟩])
 (.seq (.cond (.tmp 10) .skip (.exit 0))
 (.seq (.block 1 (.seq (.reg [⟨(some 11), .mov (.tmp 9), none⟩, ⟨(some 5), .mov (.tmp 11), none⟩])
 (.seq (.dreg [(false, ⟨(some 12), .mov (.tmp 0), none⟩, false), (false, ⟨(some 13), .mov (.tmp 5), none⟩, false), (false, ⟨(some 14), .iaddrL 1 (.tmp 12) (.tmp 13), none⟩, false), (false, ⟨(some 15), .load none (.tmp 14), none⟩, false), (false, ⟨(some 16), .mov (.tmp 1), none⟩, false), (false, ⟨(some 17), .mov (.tmp 5), none⟩, false), (false, ⟨(some 18), .iaddrL 1 (.tmp 16) (.tmp 17), none⟩, false), (false, ⟨(some 19), .load none (.tmp 18), none⟩, false), (false, ⟨(some 20), .bin .and (.tmp 15) (.tmp 19), none⟩, false), (false, ⟨(some 6), .mov (.tmp 20), none⟩, false)])
 (.seq (.reg [⟨(some 21), .mov (.tmp 6), none⟩, ⟨(some 22), .mov (.tmp 0), none⟩, ⟨(some 23), .mov (.tmp 5), none⟩, ⟨(some 24), .iaddrL 1 (.tmp 22) (.tmp 23), none⟩, ⟨(some 25), .load none (.tmp 24), none⟩, ⟨(some 26), .bin .neq (.tmp 21) (.tmp 25), none⟩])
 (.cond (.tmp 26) (.reg [⟨(some 27), .mov (.tmp 0), none⟩, ⟨(some 28), .mov (.tmp 5), none⟩, ⟨(some 29), .mov (.tmp 6), none⟩, ⟨(some 30), .iaddrL 1 (.tmp 27) (.tmp 28), none⟩, ⟨none, .store 1 (.tmp 30) (.tmp 29), none⟩, ⟨(some 4), .mov (.val (.bool true)), none⟩]) .skip)))))
 (.reg [⟨(some 31), .bin .add (.tmp 9) (.val (.int .i64 1)), none⟩, ⟨(some 9), .mov (.tmp 31), none⟩]))))
def a31_L1 : AC := .loop a31_B1
theorem a31_L1_step (call : Caller) (again : AC → St → Option (Ex × St)) (s : St) : codeEv call again a31_L1 s = match codeEv call again a31_B1 s with | some (.norm, s1) => again a31_L1 s1 | r => r := rfl
def a31 : AFn := { n := 33, np := 2, res := [.tmp 4], body :=
 (.seq (.reg [⟨(some 4), .mov (.val (.bool false)), none⟩])
 (.seq (.seq (.reg [⟨(some 7), .mov (.tmp 0), none⟩, ⟨(some 8), .lenL (.tmp 7), none⟩, ⟨(some 9), .mov (.val (.int .i64 0)), none⟩])
 (.block 0 a31_L1))
 (.seq (.reg [⟨(some 32), .mov (.tmp 4), none⟩, ⟨(some 4), .mov (.tmp 32), none⟩])
 .ret))) }
def h32 : Hints := ⟨[], [], []⟩
def a32_B1 : AC := (.seq (.reg [⟨(some 9), .bin .lss (.tmp 8) (.tmp 7), none⟩])
 (.seq (.cond (.tmp 9) .skip (.exit 0))
 (.seq (.block 1 (.seq (.reg [⟨(some 10), .mov (.tmp 8), none⟩, ⟨(some 5), .mov (.tmp 10), none⟩])
 (.seq (.reg [⟨(some 11), .mov (.tmp 1), none⟩, ⟨(some 12), .mov (.tmp 0), none⟩, ⟨(some 13), .mov (.tmp 5), none⟩, ⟨(some 14), .iaddrL 1 (.tmp 12) (.tmp 13), none⟩, ⟨(some 15), .load none (.tmp 14), none⟩, ⟨(some 16), .callv (.tmp 11) [(.tmp 15)], none⟩])
 (.cond (.tmp 16) (.seq (.reg [⟨(some 17), .mov (.tmp 5), none⟩, ⟨(some 4), .mov (.tmp 17), none⟩])
 .ret) .skip))))
 (.reg [⟨(some 18), .bin .add (.tmp 8) (.val (.int .i64 1)), none⟩, ⟨(some 8), .mov (.tmp 18), none⟩]))))
def a32_L1 : AC := .loop a32_B1
theorem a32_L1_step (call : Caller) (again : AC → St → Option (Ex × St)) (s : St) : codeEv call again a32_L1 s = match codeEv call again a32_B1 s with | some (.norm, s1) => again a32_L1 s1 | r => r := rfl
def a32 : AFn := { n := 19, np := 2, res := [.tmp 4], body :=
 (.seq (.reg [⟨(some 4), .mov (.val (.int .i64 0)), none⟩])
 (.seq (.seq (.reg [⟨(some 6), .mov (.tmp 0), none⟩, ⟨(some 7), .lenL (.tmp 6), none⟩, ⟨(some 8), .mov (.val (.int .i64 0)), none⟩])
 (.block 0 a32_L1))
 (.seq (.reg [⟨(some 4), .mov (.val (.int .i64 (-1))), none⟩])
 .ret))) }
def h33 : Hints := ⟨[], [], []⟩
def a33_B1 : AC := (.seq (.seq (.reg [⟨(some 13), .mov (.tmp 7), none⟩, ⟨(some 14), .mov (.tmp 8), none⟩, ⟨(some 15), .bin .lss (.tmp 13) (.tmp 14), none⟩])
 (.cond (.tmp 15) .skip (.exit 0)))
 (.block 1 (.seq (.reg [⟨(some 16), .mov (.tmp 7), none⟩, ⟨(some 17), .mov (.tmp 8), none⟩, ⟨(some 18), .bin .add (.tmp 16) (.tmp 17), none⟩, ⟨(some 19), .conv .u64 (.tmp 18), none⟩, ⟨(some 20), .bin .shr (.tmp 19) (.val (.int .u64 1)), none⟩, ⟨(some 21), .conv .i64 (.tmp 20), none⟩, ⟨(some 9), .mov (.tmp 21), none⟩])
 (.seq (.reg [⟨(some 22), .mov (.tmp 0), none⟩, ⟨(some 23), .mov (.tmp 9), none⟩, ⟨(some 24), .iaddrL 1 (.tmp 22) (.tmp 23), none⟩, ⟨(some 25), .load none (.tmp 24), none⟩, ⟨(some 26), .mov (.tmp 1), none⟩, ⟨(some 27), .call 41 [(.tmp 25), (.tmp 26)], none⟩])
 (.cond (.tmp 27) (.reg [⟨(some 28), .mov (.tmp 9), none⟩, ⟨(some 29), .bin .add (.tmp 28) (.val (.int .i64 1)), none⟩, ⟨(some 7), .mov (.tmp 29), none⟩]) (.reg [⟨(some 30), .mov (.tmp 9), none⟩, ⟨(some 8), .mov (.tmp 30), none⟩]))))))
def a33_L1 : AC := .loop a33_B1
theorem a33_L1_step (call : Caller) (again : AC → St → Option (Ex × St)) (s : St) : codeEv call again a33_L1 s = match codeEv call again a33_B1 s with | some (.norm, s1) => again a33_L1 s1 | r => r := rfl
def a33 : AFn := { n := 54, np := 2, res := [.tmp 4, .tmp 5], body :=
 (.seq (.reg [⟨(some 4), .mov (.val (.int .i64 0)), none⟩, ⟨(some 5), .mov (.val (.bool false)), none⟩])
 (.seq (.reg [⟨(some 10), .mov (.tmp 0), none⟩, ⟨(some 11), .lenL (.tmp 10), none⟩, ⟨(some 6), .mov (.tmp 11), none⟩])
 (.seq (.reg [⟨(some 12), .mov (.tmp 6), none⟩, ⟨(some 7), .mov (.val (.int .i64 0)), none⟩, ⟨(some 8), .mov (.tmp 12), none⟩])
 (.seq (.block 0 a33_L1)
 (.seq (.reg [⟨(some 31), .mov (.tmp 7), none⟩, ⟨(some 32), .mov (.tmp 7), none⟩, ⟨(some 33), .mov (.tmp 6), none⟩, ⟨(some 34), .bin .lss (.tmp 32) (.tmp 33), none⟩, ⟨(some 35), .mov (.tmp 34), none⟩, ⟨(some 36), .mov (.tmp 0), (some (35, true))⟩, ⟨(some 37), .mov (.tmp 7), (some (35, true))⟩, ⟨(some 38), .iaddrL 1 (.tmp 36) (.tmp 37), (some (35, true))⟩, ⟨(some 39), .load none (.tmp 38), (some (35, true))⟩, ⟨(some 40), .mov (.tmp 1), (some (35, true))⟩, ⟨(some 41), .bin .eql (.tmp 39) (.tmp 40), (some (35, true))⟩, ⟨(some 42), .mov (.tmp 41), (some (35, true))⟩, ⟨(some 43), .mov (.tmp 0), (some (42, false))⟩, ⟨(some 44), .mov (.tmp 7), (some (42, false))⟩, ⟨(some 45), .iaddrL 1 (.tmp 43) (.tmp 44), (some (42, false))⟩, ⟨(some 46), .load none (.tmp 45), (some (42, false))⟩, ⟨(some 47), .call 42 [(.tmp 46)], (some (42, false))⟩, ⟨(some 48), .mov (.tmp 47), (some (42, false))⟩, ⟨(some 49), .mov (.tmp 1), (some (48, true))⟩, ⟨(some 50), .call 42 [(.tmp 49)], (some (48, true))⟩, ⟨(some 51), .pick (.tmp 48) (.tmp 50) (.val (.bool false)), (some (42, false))⟩, ⟨(some 52), .pick (.tmp 42) (.val (.bool true)) (.tmp 51), (some (35, true))⟩, ⟨(some 53), .pick (.tmp 35) (.tmp 52) (.val (.bool false)), none⟩, ⟨(some 4), .mov (.tmp 31), none⟩, ⟨(some 5), .mov (.tmp 53), none⟩])
 .ret))))) }
def h34 : Hints := ⟨[2], [], []⟩
def a34 : AFn := { n := 16, np := 2, res := [.tmp 4], body :=
 (.seq (.reg [⟨(some 2), .box (some 2) (.tmp 0), none⟩, ⟨(some 4), .mov (.val .nils), none⟩])
 (.seq (.reg [⟨(some 8), .load (some 8) (.tmp 2), none⟩, ⟨(some 9), .mov (.tmp 1), none⟩, ⟨(some 10), .call 39 [(.tmp 8), (.tmp 9)], none⟩, ⟨(some 7), .mov (.tmp 10), none⟩, ⟨(some 11), .ext (.tmp 7) 0, none⟩, ⟨(some 12), .ext (.tmp 7) 1, none⟩, ⟨(some 5), .mov (.tmp 11), none⟩, ⟨(some 6), .mov (.tmp 12), none⟩])
 (.seq (.reg [⟨(some 13), .mov (.tmp 6), none⟩, ⟨(some 14), .call 43 [(.tmp 13), (.val (.fn 44 []))], none⟩])
 (.seq (.reg [⟨(some 15), .mov (.tmp 6), none⟩, ⟨(some 4), .mov (.tmp 15), none⟩])
 .ret)))) }
def h35 : Hints := ⟨[], [], []⟩
def a35 : AFn := { n := 11, np := 1, res := [], body :=
 (.seq (.reg [⟨(some 3), .mov (.tmp 0), none⟩, ⟨(some 4), .lenL (.tmp 3), none⟩, ⟨(some 2), .mov (.tmp 4), none⟩])
 (.reg [⟨(some 5), .mov (.tmp 0), none⟩, ⟨(some 6), .mov (.tmp 2), none⟩, ⟨(some 7), .mov (.tmp 2), none⟩, ⟨(some 8), .conv .u64 (.tmp 7), none⟩, ⟨(some 9), .call 47 [(.tmp 8)], none⟩, ⟨(some 10), .call 46 [(.tmp 5), (.val (.int .i64 0)), (.tmp 6), (.tmp 9)], none⟩])) }
def h36 : Hints := ⟨[], [], []⟩
def a36_B1 : AC := (.seq (.reg [⟨(some 9), .bin .lss (.tmp 8) (.tmp 7), none⟩])
 (.seq (.cond (.tmp 9) .skip (.exit 0))
 (.seq (.block 1 (.seq (.reg [⟨(some 10), .mov (.tmp 8), none⟩, ⟨(some 5), .mov (.tmp 10), none⟩])
 (.seq (.reg [⟨(some 11), .mov (.tmp 1), none⟩, ⟨(some 12), .mov (.tmp 0), none⟩, ⟨(some 13), .mov (.tmp 5), none⟩, ⟨(some 14), .iaddrL 1 (.tmp 12) (.tmp 13), none⟩, ⟨(some 15), .load none (.tmp 14), none⟩, ⟨(some 16), .bin .eql (.tmp 11) (.tmp 15), none⟩])
 (.cond (.tmp 16) (.seq (.reg [⟨(some 17), .mov (.tmp 5), none⟩, ⟨(some 4), .mov (.tmp 17), none⟩])
 .ret) .skip))))
 (.reg [⟨(some 18), .bin .add (.tmp 8) (.val (.int .i64 1)), none⟩, ⟨(some 8), .mov (.tmp 18), none⟩]))))
def a36_L1 : AC := .loop a36_B1
theorem a36_L1_step (call : Caller) (again : AC → St → Option (Ex × St)) (s : St) : codeEv call again a36_L1 s = match codeEv call again a36_B1 s with | some (.norm, s1) => again a36_L1 s1 | r => r := rfl
def a36 : AFn := { n := 19, np := 2, res := [.tmp 4], body :=
 (.seq (.reg [⟨(some 4), .mov (.val (.int .i64 0)), none⟩])
 (.seq (.seq (.reg [⟨(some 6), .mov (.tmp 0), none⟩, ⟨(some 7), .lenL (.tmp 6), none⟩, ⟨(some 8), .mov (.val (.int .i64 0)), none⟩])
 (.block 0 a36_L1))
 (.seq (.reg [⟨(some 4), .mov (.val (.int .i64 (-1))), none⟩])
 .ret))) }
def h37 : Hints := ⟨[], [], []⟩
def a37 : AFn := { n := 3, np := 1, res := [], body :=
 (.reg [⟨(some 1), .load none (.tmp 0), none⟩, ⟨(some 2), .call 38 [(.tmp 1)], none⟩]) }
def h38 : Hints := ⟨[], [], []⟩
def a38_B1 : AC := (.seq (.seq (.reg [⟨(some 7), .mov (.tmp 2), none⟩, ⟨(some 8), .mov (.tmp 3), none⟩, ⟨(some 9), .bin .lss (.tmp 7) (.tmp 8), none⟩])
 (.cond (.tmp 9) .skip (.exit 0)))
 (.seq (.block 1 (.dreg [(false, ⟨(some 14), .mov (.tmp 0), none⟩, false), (false, ⟨(some 15), .mov (.tmp 2), none⟩, false), (false, ⟨(some 16), .mov (.tmp 0), none⟩, false), (false, ⟨(some 17), .mov (.tmp 3), none⟩, false), (false, ⟨(some 18), .mov (.tmp 0), none⟩, false), (false, ⟨(some 19), .mov (.tmp 3), none⟩, false), (false, ⟨(some 20), .iaddrL 1 (.tmp 18) (.tmp 19), none⟩, false), (false, ⟨(some 21), .load none (.tmp 20), none⟩, false), (false, ⟨(some 22), .mov (.tmp 0), none⟩, false), (false, ⟨(some 23), .mov (.tmp 2), none⟩, false), (false, ⟨(some 24), .iaddrL 1 (.tmp 22) (.tmp 23), none⟩, false), (false, ⟨(some 25), .load none (.tmp 24), none⟩, false), (false, ⟨(some 26), .iaddrL 1 (.tmp 14) (.tmp 15), none⟩, false), (false, ⟨none, .store 1 (.tmp 26) (.tmp 21), none⟩, false), (false, ⟨(some 27), .iaddrL 1 (.tmp 16) (.tmp 17), none⟩, false), (false, ⟨none, .store 1 (.tmp 27) (.tmp 25), none⟩, false)]))
 (.reg [⟨(some 10), .mov (.tmp 2), none⟩, ⟨(some 11), .bin .add (.tmp 10) (.val (.int .i64 1)), none⟩, ⟨(some 12), .mov (.tmp 3), none⟩, ⟨(some 13), .bin .sub (.tmp 12) (.val (.int .i64 1)), none⟩, ⟨(some 2), .mov (.tmp 11), none⟩, ⟨(some 3), .mov (.tmp 13), none⟩])))
def a38_L1 : AC := .loop a38_B1
theorem a38_L1_step (call : Caller) (again : AC → St → Option (Ex × St)) (s : St) : codeEv call again a38_L1 s = match codeEv call again a38_B1 s with | some (.norm, s1) => again a38_L1 s1 | r => r := rfl
def a38 : AFn := { n := 28, np := 1, res := [], body :=
 (.seq (.reg [⟨(some 4), .mov (.tmp 0), none⟩, ⟨(some 5), .lenL (.tmp 4), none⟩, ⟨(some 6), .bin .sub (.tmp 5) (.val (.int .i64 1)), none⟩, ⟨(some 2), .mov (.val (.int .i64 0)), none⟩, ⟨(some 3), .mov (.tmp 6), none⟩])
 (.block 0 a38_L1)) }
def h39 : Hints := ⟨[], [], []⟩
def a39 : AFn := { n := 37, np := 2, res := [.cell 4 none, .cell 5 none], body :=
 (.seq (.reg [⟨(some 2), .box none (.tmp 0), none⟩, ⟨(some 4), .alloc none [.nils], none⟩, ⟨(some 5), .alloc none [.nils], none⟩])
 (.seq (.seq (.reg [⟨(some 8), .mov (.tmp 1), none⟩, ⟨(some 9), .bin .lss (.tmp 8) (.val (.int .i64 0)), none⟩, ⟨(some 10), .mov (.tmp 9), none⟩, ⟨(some 11), .mov (.tmp 1), (some (10, false))⟩, ⟨(some 12), .faddr 1 (.tmp 2), (some (10, false))⟩, ⟨(some 13), .load none (.tmp 12), (some (10, false))⟩, ⟨(some 14), .lenL (.tmp 13), (some (10, false))⟩, ⟨(some 15), .bin .geq (.tmp 11) (.tmp 14), (some (10, false))⟩, ⟨(some 16), .pick (.tmp 10) (.val (.bool true)) (.tmp 15), none⟩, ⟨(some 17), .mov (.tmp 16), none⟩, ⟨(some 18), .load (some 8) (.tmp 2), (some (17, false))⟩, ⟨(some 19), .call 29 [(.tmp 18)], (some (17, false))⟩, ⟨(some 20), .bin .neq (.tmp 19) (.val (.int .i64 0)), (some (17, false))⟩, ⟨(some 21), .pick (.tmp 17) (.val (.bool true)) (.tmp 20), none⟩])
 (.cond (.tmp 21) (.seq (.reg [⟨none, .store 1 (.tmp 4) (.val .nils), none⟩, ⟨none, .store 1 (.tmp 5) (.val .nils), none⟩])
 .ret) .skip))
 (.seq (.reg [⟨(some 22), .faddr 0 (.tmp 2), none⟩, ⟨(some 23), .load none (.tmp 22), none⟩, ⟨(some 24), .lenL (.tmp 23), none⟩, ⟨(some 25), .make 1 1 [(.int .u8 0)] (.tmp 24) (.tmp 24), none⟩, ⟨(some 6), .alloc none [.nils], none⟩, ⟨none, .store 1 (.tmp 6) (.tmp 25), none⟩])
 (.seq (.reg [⟨(some 7), .alloc none [.nilf], none⟩])
 (.seq (.reg [⟨(some 26), .mkfn 48 [(.tmp 6), (.tmp 2), (.tmp 7), (.tmp 5), (.tmp 4)], none⟩, ⟨none, .store 1 (.tmp 7) (.tmp 26), none⟩])
 (.seq (.dreg [(false, ⟨(some 27), .load none (.tmp 7), none⟩, false), (false, ⟨(some 28), .faddr 1 (.tmp 2), none⟩, false), (false, ⟨(some 29), .load none (.tmp 28), none⟩, false), (false, ⟨(some 30), .mov (.tmp 1), none⟩, false), (false, ⟨(some 31), .iaddrL 3 (.tmp 29) (.tmp 30), none⟩, false), (false, ⟨(some 32), .faddr 0 (.tmp 31), none⟩, false), (false, ⟨(some 33), .load none (.tmp 32), none⟩, false), (false, ⟨(some 34), .callv (.tmp 27) [(.tmp 33)], none⟩, false)])
 (.seq (.dreg [(false, ⟨(some 35), .load none (.tmp 4), none⟩, false), (true, ⟨(some 36), .load none (.tmp 5), none⟩, false), (true, ⟨none, .store 1 (.tmp 4) (.tmp 35), none⟩, false), (false, ⟨none, .store 1 (.tmp 5) (.tmp 36), none⟩, false)])
 .ret))))))) }
def h40 : Hints := ⟨[2], [], []⟩
def a40 : AFn := { n := 34, np := 2, res := [.tmp 4], body :=
 (.seq (.reg [⟨(some 2), .box (some 2) (.tmp 0), none⟩, ⟨(some 4), .mov (.val .nils), none⟩])
 (.seq (.reg [⟨(some 10), .faddr 0 (.tmp 2), none⟩, ⟨(some 11), .load none (.tmp 10), none⟩, ⟨(some 12), .mov (.tmp 1), none⟩, ⟨(some 13), .iaddrL 4 (.tmp 11) (.tmp 12), none⟩, ⟨(some 14), .load (some 4) (.tmp 13), none⟩, ⟨(some 15), .call 50 [(.tmp 14)], none⟩, ⟨(some 9), .mov (.tmp 15), none⟩, ⟨(some 16), .ext (.tmp 9) 0, none⟩, ⟨(some 17), .ext (.tmp 9) 1, none⟩, ⟨(some 18), .ext (.tmp 9) 2, none⟩, ⟨(some 5), .mov (.tmp 16), none⟩, ⟨(some 6), .mov (.tmp 17), none⟩, ⟨(some 7), .mov (.tmp 18), none⟩])
 (.seq (.reg [⟨(some 8), .mov (.val .nils), none⟩])
 (.seq (.seq (.reg [⟨(some 19), .mov (.tmp 7), none⟩])
 (.cond (.tmp 19) (.reg [⟨(some 20), .mov (.tmp 8), none⟩, ⟨(some 21), .mov (.tmp 1), none⟩, ⟨(some 22), .bin .add (.tmp 21) (.val (.int .i64 1)), none⟩, ⟨(some 23), .mkslc 1 1 [(.int .i64 0)] [(0, (.tmp 22))], none⟩, ⟨(some 24), .app none 1 8 (.tmp 20) (.tmp 23), none⟩, ⟨(some 8), .mov (.tmp 24), none⟩]) .skip))
 (.seq (.seq (.reg [⟨(some 25), .mov (.tmp 6), none⟩])
 (.cond (.tmp 25) (.reg [⟨(some 26), .mov (.tmp 8), none⟩, ⟨(some 27), .mov (.tmp 5), none⟩, ⟨(some 28), .mkslc 1 1 [(.int .i64 0)] [(0, (.tmp 27))], none⟩, ⟨(some 29), .app none 1 8 (.tmp 26) (.tmp 28), none⟩, ⟨(some 8), .mov (.tmp 29), none⟩]) .skip))
 (.seq (.reg [⟨(some 30), .mov (.tmp 8), none⟩, ⟨(some 31), .call 35 [(.tmp 30)], none⟩])
 (.seq (.reg [⟨(some 32), .mov (.tmp 8), none⟩, ⟨(some 33), .call 51 [(.tmp 32)], none⟩, ⟨(some 4), .mov (.tmp 33), none⟩])
 .ret))))))) }
def h41 : Hints := ⟨[], [], []⟩
def a41 : AFn := { n := 17, np := 2, res := [.tmp 4], body :=
 (.seq (.reg [⟨(some 4), .mov (.val (.bool false)), none⟩])
 (.seq (.reg [⟨(some 5), .mov (.tmp 0), none⟩, ⟨(some 6), .call 52 [(.tmp 5)], none⟩, ⟨(some 7), .mov (.tmp 6), none⟩, ⟨(some 8), .mov (.tmp 1), (some (7, true))⟩, ⟨(some 9), .call 52 [(.tmp 8)], (some (7, true))⟩, ⟨(some 10), .un .not (.tmp 9), (some (7, true))⟩, ⟨(some 11), .pick (.tmp 7) (.tmp 10) (.val (.bool false)), none⟩, ⟨(some 12), .mov (.tmp 11), none⟩, ⟨(some 13), .mov (.tmp 0), (some (12, false))⟩, ⟨(some 14), .mov (.tmp 1), (some (12, false))⟩, ⟨(some 15), .bin .lss (.tmp 13) (.tmp 14), (some (12, false))⟩, ⟨(some 16), .pick (.tmp 12) (.val (.bool true)) (.tmp 15), none⟩, ⟨(some 4), .mov (.tmp 16), none⟩])
 .ret)) }
def h42 : Hints := ⟨[], [], []⟩
def a42 : AFn := { n := 6, np := 1, res := [.tmp 2], body :=
 (.seq (.reg [⟨(some 2), .mov (.val (.bool false)), none⟩])
 (.seq (.reg [⟨(some 3), .mov (.tmp 0), none⟩, ⟨(some 4), .mov (.tmp 0), none⟩, ⟨(some 5), .bin .neq (.tmp 3) (.tmp 4), none⟩, ⟨(some 2), .mov (.tmp 5), none⟩])
 .ret)) }
def h43 : Hints := ⟨[], [], []⟩
def a43 : AFn := { n := 14, np := 2, res := [], body :=
 (.seq (.reg [⟨(some 5), .mov (.tmp 0), none⟩, ⟨(some 6), .lenL (.tmp 5), none⟩, ⟨(some 4), .mov (.tmp 6), none⟩])
 (.reg [⟨(some 7), .mov (.tmp 0), none⟩, ⟨(some 8), .mov (.tmp 4), none⟩, ⟨(some 9), .mov (.tmp 4), none⟩, ⟨(some 10), .conv .u64 (.tmp 9), none⟩, ⟨(some 11), .call 47 [(.tmp 10)], none⟩, ⟨(some 12), .mov (.tmp 1), none⟩, ⟨(some 13), .call 53 [(.tmp 7), (.val (.int .i64 0)), (.tmp 8), (.tmp 11), (.tmp 12)], none⟩])) }
def h44 : Hints := ⟨[], [], []⟩
def a44 : AFn := { n := 8, np := 2, res := [.tmp 4], body :=
 (.seq (.reg [⟨(some 2), .box none (.tmp 0), none⟩, ⟨(some 3), .box none (.tmp 1), none⟩, ⟨(some 4), .mov (.val (.int .i64 0)), none⟩])
 (.seq (.dreg [(false, ⟨(some 5), .slcA 2 1 (.tmp 2) none none none, none⟩, false), (false, ⟨(some 6), .slcA 2 1 (.tmp 3) none none none, none⟩, false), (false, ⟨(some 7), .call 45 [(.tmp 5), (.tmp 6)], none⟩, false), (false, ⟨(some 4), .mov (.tmp 7), none⟩, false)])
 .ret)) }
def h45 : Hints := ⟨[], [], []⟩
def a45_B1 : AC := (.seq (.reg [⟨(some 12), .bin .lss (.tmp 11) (.tmp 10), none⟩])
 (.seq (.cond (.tmp 12) .skip (.exit 0))
 (.seq (.block 1 (.seq (.reg [⟨(some 13), .mov (.tmp 11), none⟩, ⟨(some 14), .iaddrL 1 (.tmp 9) (.tmp 11), none⟩, ⟨(some 15), .load none (.tmp 14), none⟩, ⟨(some 5), .mov (.tmp 13), none⟩, ⟨(some 6), .mov (.tmp 15), none⟩])
 (.seq (.seq (.reg [⟨(some 16), .mov (.tmp 5), none⟩, ⟨(some 17), .mov (.tmp 1), none⟩, ⟨(some 18), .lenL (.tmp 17), none⟩, ⟨(some 19), .bin .geq (.tmp 16) (.tmp 18), none⟩])
 (.cond (.tmp 19) (.seq (.reg [⟨(some 4), .mov (.val (.int .i64 1)), none⟩])
 .ret) .skip))
 (.seq (.reg [⟨(some 20), .mov (.tmp 1), none⟩, ⟨(some 21), .mov (.tmp 5), none⟩, ⟨(some 22), .iaddrL 1 (.tmp 20) (.tmp 21), none⟩, ⟨(some 23), .load none (.tmp 22), none⟩, ⟨(some 7), .mov (.tmp 23), none⟩])
 (.seq (.reg [⟨(some 24), .mov (.tmp 6), none⟩, ⟨(some 25), .mov (.tmp 7), none⟩, ⟨(some 26), .call 54 [(.tmp 24), (.tmp 25)], none⟩, ⟨(some 8), .mov (.tmp 26), none⟩])
 (.seq (.reg [⟨(some 27), .mov (.tmp 8), none⟩, ⟨(some 28), .bin .neq (.tmp 27) (.val (.int .i64 0)), none⟩])
 (.cond (.tmp 28) (.seq (.reg [⟨(some 29), .mov (.tmp 8), none⟩, ⟨(some 4), .mov (.tmp 29), none⟩])
 .ret) .skip)))))))
 (.reg [⟨(some 30), .bin .add (.tmp 11) (.val (.int .i64 1)), none⟩, ⟨(some 11), .mov (.tmp 30), none⟩]))))
def a45_L1 : AC := .loop a45_B1
theorem a45_L1_step (call : Caller) (again : AC → St → Option (Ex × St)) (s : St) : codeEv call again a45_L1 s = match codeEv call again a45_B1 s with | some (.norm, s1) => again a45_L1 s1 | r => r := rfl
def a45 : AFn := { n := 36, np := 2, res := [.tmp 4], body :=
 (.seq (.reg [⟨(some 4), .mov (.val (.int .i64 0)), none⟩])
 (.seq (.seq (.reg [⟨(some 9), .mov (.tmp 0), none⟩, ⟨(some 10), .lenL (.tmp 9), none⟩, ⟨(some 11), .mov (.val (.int .i64 0)), none⟩])
 (.block 0 a45_L1))
 (.seq (.seq (.reg [⟨(some 31), .mov (.tmp 0), none⟩, ⟨(some 32), .lenL (.tmp 31), none⟩, ⟨(some 33), .mov (.tmp 1), none⟩, ⟨(some 34), .lenL (.tmp 33), none⟩, ⟨(some 35), .bin .lss (.tmp 32) (.tmp 34), none⟩])
 (.cond (.tmp 35) (.seq (.reg [⟨(some 4), .mov (.val (.int .i64 (-1))), none⟩])
 .ret) .skip))
 (.seq (.reg [⟨(some 4), .mov (.val (.int .i64 0)), none⟩])
 .ret)))) }
def h46 : Hints := ⟨[], [], []⟩
def a46_B1 : AC := (.block 1 (.seq (.reg [⟨(some 19), .mov (.tmp 2), none⟩, ⟨(some 20), .mov (.tmp 1), none⟩, ⟨(some 21), .bin .sub (.tmp 19) (.tmp 20), none⟩, ⟨(some 10), .mov (.tmp 21), none⟩])
 (.seq (.seq (.reg [⟨(some 22), .mov (.tmp 10), none⟩, ⟨(some 23), .bin .leq (.tmp 22) (.val (.int .i64 12)), none⟩])
 (.cond (.tmp 23) (.seq (.reg [⟨(some 24), .mov (.tmp 0), none⟩, ⟨(some 25), .mov (.tmp 1), none⟩, ⟨(some 26), .mov (.tmp 2), none⟩, ⟨(some 27), .call 55 [(.tmp 24), (.tmp 25), (.tmp 26)], none⟩])
 .ret) .skip))
 (.seq (.seq (.reg [⟨(some 28), .mov (.tmp 3), none⟩, ⟨(some 29), .bin .eql (.tmp 28) (.val (.int .i64 0)), none⟩])
 (.cond (.tmp 29) (.seq (.reg [⟨(some 30), .mov (.tmp 0), none⟩, ⟨(some 31), .mov (.tmp 1), none⟩, ⟨(some 32), .mov (.tmp 2), none⟩, ⟨(some 33), .call 56 [(.tmp 30), (.tmp 31), (.tmp 32)], none⟩])
 .ret) .skip))
 (.seq (.seq (.reg [⟨(some 34), .mov (.tmp 8), none⟩, ⟨(some 35), .un .not (.tmp 34), none⟩])
 (.cond (.tmp 35) (.seq (.reg [⟨(some 36), .mov (.tmp 0), none⟩, ⟨(some 37), .mov (.tmp 1), none⟩, ⟨(some 38), .mov (.tmp 2), none⟩, ⟨(some 39), .call 57 [(.tmp 36), (.tmp 37), (.tmp 38)], none⟩])
 (.reg [⟨(some 40), .mov (.tmp 3), none⟩, ⟨(some 41), .bin .sub (.tmp 40) (.val (.int .i64 1)), none⟩, ⟨(some 3), .mov (.tmp 41), none⟩])) .skip))
 (.seq (.reg [⟨(some 43), .mov (.tmp 0), none⟩, ⟨(some 44), .mov (.tmp 1), none⟩, ⟨(some 45), .mov (.tmp 2), none⟩, ⟨(some 46), .call 58 [(.tmp 43), (.tmp 44), (.tmp 45)], none⟩, ⟨(some 42), .mov (.tmp 46), none⟩, ⟨(some 47), .ext (.tmp 42) 0, none⟩, ⟨(some 48), .ext (.tmp 42) 1, none⟩, ⟨(some 11), .mov (.tmp 47), none⟩, ⟨(some 12), .mov (.tmp 48), none⟩])
 (.seq (.seq (.reg [⟨(some 49), .mov (.tmp 12), none⟩, ⟨(some 50), .bin .eql (.tmp 49) (.val (.int .i64 2)), none⟩])
 (.cond (.tmp 50) (.seq (.reg [⟨(some 51), .mov (.tmp 0), none⟩, ⟨(some 52), .mov (.tmp 1), none⟩, ⟨(some 53), .mov (.tmp 2), none⟩, ⟨(some 54), .call 59 [(.tmp 51), (.tmp 52), (.tmp 53)], none⟩])
 (.seq (.reg [⟨(some 55), .mov (.tmp 2), none⟩, ⟨(some 56), .bin .sub (.tmp 55) (.val (.int .i64 1)), none⟩, ⟨(some 57), .mov (.tmp 11), none⟩, ⟨(some 58), .mov (.tmp 1), none⟩, ⟨(some 59), .bin .sub (.tmp 57) (.tmp 58), none⟩, ⟨(some 60), .bin .sub (.tmp 56) (.tmp 59), none⟩, ⟨(some 11), .mov (.tmp 60), none⟩])
 (.reg [⟨(some 12), .mov (.val (.int .i64 1)), none⟩]))) .skip))
 (.seq (.seq (.reg [⟨(some 61), .mov (.tmp 8), none⟩, ⟨(some 62), .mov (.tmp 61), none⟩, ⟨(some 63), .mov (.tmp 9), (some (62, true))⟩, ⟨(some 64), .pick (.tmp 62) (.tmp 63) (.val (.bool false)), none⟩, ⟨(some 65), .mov (.tmp 64), none⟩, ⟨(some 66), .mov (.tmp 12), (some (65, true))⟩, ⟨(some 67), .bin .eql (.tmp 66) (.val (.int .i64 1)), (some (65, true))⟩, ⟨(some 68), .pick (.tmp 65) (.tmp 67) (.val (.bool false)), none⟩])
 (.cond (.tmp 68) (.seq (.reg [⟨(some 69), .mov (.tmp 0), none⟩, ⟨(some 70), .mov (.tmp 1), none⟩, ⟨(some 71), .mov (.tmp 2), none⟩, ⟨(some 72), .call 60 [(.tmp 69), (.tmp 70), (.tmp 71)], none⟩])
 (.cond (.tmp 72) .ret .skip)) .skip))
 (.seq (.seq (.dreg [(false, ⟨(some 73), .mov (.tmp 1), none⟩, false), (false, ⟨(some 74), .bin .gtr (.tmp 73) (.val (.int .i64 0)), none⟩, false), (false, ⟨(some 75), .mov (.tmp 74), none⟩, false), (false, ⟨(some 76), .mov (.tmp 0), (some (75, true))⟩, false), (false, ⟨(some 77), .mov (.tmp 1), (some (75, true))⟩, false), (false, ⟨(some 78), .bin .sub (.tmp 77) (.val (.int .i64 1)), (some (75, true))⟩, false), (false, ⟨(some 79), .iaddrL 1 (.tmp 76) (.tmp 78), (some (75, true))⟩, false), (false, ⟨(some 80), .load none (.tmp 79), (some (75, true))⟩, false), (false, ⟨(some 81), .mov (.tmp 0), (some (75, true))⟩, false), (false, ⟨(some 82), .mov (.tmp 11), (some (75, true))⟩, false), (false, ⟨(some 83), .iaddrL 1 (.tmp 81) (.tmp 82), (some (75, true))⟩, false), (false, ⟨(some 84), .load none (.tmp 83), (some (75, true))⟩, false), (false, ⟨(some 85), .call 41 [(.tmp 80), (.tmp 84)], (some (75, true))⟩, false), (false, ⟨(some 86), .un .not (.tmp 85), (some (75, true))⟩, false), (false, ⟨(some 87), .pick (.tmp 75) (.tmp 86) (.val (.bool false)), none⟩, false)])
 (.cond (.tmp 87) (.seq (.reg [⟨(some 88), .mov (.tmp 0), none⟩, ⟨(some 89), .mov (.tmp 1), none⟩, ⟨(some 90), .mov (.tmp 2), none⟩, ⟨(some 91), .mov (.tmp 11), none⟩, ⟨(some 92), .call 61 [(.tmp 88), (.tmp 89), (.tmp 90), (.tmp 91)], none⟩, ⟨(some 13), .mov (.tmp 92), none⟩])
 (.seq (.reg [⟨(some 93), .mov (.tmp 13), none⟩, ⟨(some 1), .mov (.tmp 93), none⟩])
 (.exit 1))) .skip))
 (.seq (.reg [⟨(some 95), .mov (.tmp 0), none⟩, ⟨(some 96), .mov (.tmp 1), none⟩, ⟨(some 97), .mov (.tmp 2), none⟩, ⟨(some 98), .mov (.tmp 11), none⟩, ⟨(some 99), .call 62 [(.tmp 95), (.tmp 96), (.tmp 97), (.tmp 98)], none⟩, ⟨(some 94), .mov (.tmp 99), none⟩, ⟨(some 100), .ext (.tmp 94) 0, none⟩, ⟨(some 101), .ext (.tmp 94) 1, none⟩, ⟨(some 14), .mov (.tmp 100), none⟩, ⟨(some 15), .mov (.tmp 101), none⟩])
 (.seq (.reg [⟨(some 102), .mov (.tmp 15), none⟩, ⟨(some 9), .mov (.tmp 102), none⟩])
 (.seq (.reg [⟨(some 103), .mov (.tmp 14), none⟩, ⟨(some 104), .mov (.tmp 1), none⟩, ⟨(some 105), .bin .sub (.tmp 103) (.tmp 104), none⟩, ⟨(some 106), .mov (.tmp 2), none⟩, ⟨(some 107), .mov (.tmp 14), none⟩, ⟨(some 108), .bin .sub (.tmp 106) (.tmp 107), none⟩, ⟨(some 16), .mov (.tmp 105), none⟩, ⟨(some 17), .mov (.tmp 108), none⟩])
 (.seq (.reg [⟨(some 109), .mov (.tmp 10), none⟩, ⟨(some 110), .bin .quo (.tmp 109) (.val (.int .i64 8)), none⟩, ⟨(some 18), .mov (.tmp 110), none⟩])
 (.seq (.reg [⟨(some 111), .mov (.tmp 16), none⟩, ⟨(some 112), .mov (.tmp 17), none⟩, ⟨(some 113), .bin .lss (.tmp 111) (.tmp 112), none⟩])
 (.cond (.tmp 113) (.seq (.reg [⟨(some 114), .mov (.tmp 16), none⟩, ⟨(some 115), .mov (.tmp 18), none⟩, ⟨(some 116), .bin .geq (.tmp 114) (.tmp 115), none⟩, ⟨(some 8), .mov (.tmp 116), none⟩])
 (.seq (.reg [⟨(some 117), .mov (.tmp 0), none⟩, ⟨(some 118), .mov (.tmp 1), none⟩, ⟨(some 119), .mov (.tmp 14), none⟩, ⟨(some 120), .mov (.tmp 3), none⟩, ⟨(some 121), .call 46 [(.tmp 117), (.tmp 118), (.tmp 119), (.tmp 120)], none⟩])
 (.reg [⟨(some 122), .mov (.tmp 14), none⟩, ⟨(some 123), .bin .add (.tmp 122) (.val (.int .i64 1)), none⟩, ⟨(some 1), .mov (.tmp 123), none⟩]))) (.seq (.reg [⟨(some 124), .mov (.tmp 17), none⟩, ⟨(some 125), .mov (.tmp 18), none⟩, ⟨(some 126), .bin .geq (.tmp 124) (.tmp 125), none⟩, ⟨(some 8), .mov (.tmp 126), none⟩])
 (.seq (.reg [⟨(some 127), .mov (.tmp 0), none⟩, ⟨(some 128), .mov (.tmp 14), none⟩, ⟨(some 129), .bin .add (.tmp 128) (.val (.int .i64 1)), none⟩, ⟨(some 130), .mov (.tmp 2), none⟩, ⟨(some 131), .mov (.tmp 3), none⟩, ⟨(some 132), .call 46 [(.tmp 127), (.tmp 129), (.tmp 130), (.tmp 131)], none⟩])
 (.reg [⟨(some 133), .mov (.tmp 14), none⟩, ⟨(some 2), .mov (.tmp 133), none⟩]))))))))))))))))))
def a46_L1 : AC := .loop a46_B1
theorem a46_L1_step (call : Caller) (again : AC → St → Option (Ex × St)) (s : St) : codeEv call again a46_L1 s = match codeEv call again a46_B1 s with | some (.norm, s1) => again a46_L1 s1 | r => r := rfl
def a46 : AFn := { n := 134, np := 4, res := [], body :=
 (.seq (.reg [⟨(some 8), .mov (.val (.bool true)), none⟩])
 (.seq (.reg [⟨(some 9), .mov (.val (.bool true)), none⟩])
 (.block 0 a46_L1))) }
def h47 : Hints := ⟨[], [], []⟩
def a47 : AFn := { n := 8, np := 1, res := [.tmp 2], body :=
 (.seq (.reg [⟨(some 2), .mov (.val (.int .i64 0)), none⟩])
 (.seq (.cond (.val (.bool false)) (.seq (.reg [⟨(some 3), .mov (.tmp 0), none⟩, ⟨(some 4), .conv .u32 (.tmp 3), none⟩, ⟨(some 5), .call 63 [(.tmp 4)], none⟩, ⟨(some 2), .mov (.tmp 5), none⟩])
 .ret) .skip)
 (.seq (.reg [⟨(some 6), .mov (.tmp 0), none⟩, ⟨(some 7), .call 64 [(.tmp 6)], none⟩, ⟨(some 2), .mov (.tmp 7), none⟩])
 .ret))) }
def h48 : Hints := ⟨[], [], []⟩
def b48 : BackFn :=
{ n := 42, np := 6, res := [], g := 15, it := 65, p0 := 16, p1 := 17, A :=
 (.reg [⟨(some 6), .box none (.tmp 0), none⟩]), A1 :=
 (.reg [⟨(some 9), .load none (.tmp 1), none⟩, ⟨(some 10), .load none (.tmp 6), none⟩, ⟨(some 11), .iaddrL 1 (.tmp 9) (.tmp 10), none⟩, ⟨none, .store 1 (.tmp 11) (.val (.int .u8 1)), none⟩]), B :=
 (.reg [⟨(some 12), .load (some 8) (.tmp 2), none⟩, ⟨(some 13), .load none (.tmp 6), none⟩, ⟨(some 14), .call 40 [(.tmp 12), (.tmp 13)], none⟩, ⟨(some 15), .call 49 [(.tmp 14)], none⟩]), asg :=
 (.reg [⟨(some 8), .mov (.tmp 17), none⟩]), bdy :=
 (.block 1 (.seq (.reg [⟨(some 18), .load none (.tmp 1), none⟩, ⟨(some 19), .mov (.tmp 8), none⟩, ⟨(some 20), .iaddrL 1 (.tmp 18) (.tmp 19), none⟩, ⟨(some 21), .load none (.tmp 20), none⟩])
 (.block 2 (.seq (.reg [⟨(some 23), .bin .eql (.tmp 21) (.val (.int .u8 0)), none⟩, ⟨(some 22), .mov (.tmp 23), none⟩])
 (.cond (.tmp 22) (.reg [⟨(some 24), .load none (.tmp 3), none⟩, ⟨(some 25), .mov (.tmp 8), none⟩, ⟨(some 26), .callv (.tmp 24) [(.tmp 25)], none⟩]) (.seq (.reg [⟨(some 28), .bin .eql (.tmp 21) (.val (.int .u8 1)), none⟩, ⟨(some 27), .mov (.tmp 28), none⟩])
 (.cond (.tmp 27) (.reg [⟨(some 29), .load none (.tmp 4), none⟩, ⟨(some 30), .load none (.tmp 6), none⟩, ⟨(some 31), .mov (.tmp 8), none⟩, ⟨(some 32), .build [(.int .i64 0), (.int .i64 0)] [(0, 1, (.tmp 30)), (1, 1, (.tmp 31))], none⟩, ⟨(some 33), .mkslc 2 1 [(.int .i64 0), (.int .i64 0)] [(0, (.tmp 32))], none⟩, ⟨(some 34), .app none 2 16 (.tmp 29) (.tmp 33), none⟩, ⟨none, .store 1 (.tmp 4) (.tmp 34), none⟩]) .skip))))))), C :=
 (.seq (.reg [⟨(some 35), .load none (.tmp 1), none⟩, ⟨(some 36), .load none (.tmp 6), none⟩, ⟨(some 37), .iaddrL 1 (.tmp 35) (.tmp 36), none⟩, ⟨none, .store 1 (.tmp 37) (.val (.int .u8 2)), none⟩])
 (.reg [⟨(some 38), .load none (.tmp 5), none⟩, ⟨(some 39), .load none (.tmp 6), none⟩, ⟨(some 40), .mkslc 1 1 [(.int .i64 0)] [(0, (.tmp 39))], none⟩, ⟨(some 41), .app none 1 8 (.tmp 38) (.tmp 40), none⟩, ⟨none, .store 1 (.tmp 5) (.tmp 41), none⟩])) }
def h49 : Hints := ⟨[], [], []⟩
def a49 : AFn := { n := 4, np := 1, res := [.tmp 2], body :=
 (.seq (.reg [⟨(some 1), .box none (.tmp 0), none⟩, ⟨(some 2), .mov (.val .nilf), none⟩])
 (.seq (.reg [⟨(some 3), .mkfn 65 [(.tmp 1)], none⟩, ⟨(some 2), .mov (.tmp 3), none⟩])
 .ret)) }
def h50 : Hints := ⟨[1], [], []⟩
def a50 : AFn := { n := 21, np := 1, res := [.tmp 2, .tmp 3, .tmp 4], body :=
 (.seq (.reg [⟨(some 1), .box (some 1) (.tmp 0), none⟩, ⟨(some 2), .mov (.val (.int .i64 0)), none⟩, ⟨(some 3), .mov (.val (.bool false)), none⟩, ⟨(some 4), .mov (.val (.bool false)), none⟩])
 (.seq (.seq (.reg [⟨(some 5), .load (some 4) (.tmp 1), none⟩, ⟨(some 6), .call 66 [(.tmp 5)], none⟩, ⟨(some 7), .bin .neq (.tmp 6) (.val (.int .i64 0)), none⟩])
 (.cond (.tmp 7) (.seq (.reg [⟨(some 2), .mov (.val (.int .i64 0)), none⟩, ⟨(some 3), .mov (.val (.bool false)), none⟩, ⟨(some 4), .mov (.val (.bool false)), none⟩])
 .ret) .skip))
 (.seq (.seq (.reg [⟨(some 8), .faddr 0 (.tmp 1), none⟩, ⟨(some 9), .load none (.tmp 8), none⟩])
 (.block 0 (.seq (.seq (.reg [⟨(some 11), .bin .eql (.tmp 9) (.val (.int .i64 1)), none⟩, ⟨(some 10), .mov (.tmp 11), none⟩])
 (.cond (.tmp 10) .skip (.reg [⟨(some 12), .bin .eql (.tmp 9) (.val (.int .i64 18)), none⟩, ⟨(some 10), .mov (.tmp 12), none⟩])))
 (.cond (.tmp 10) (.seq (.reg [⟨(some 2), .mov (.val (.int .i64 0)), none⟩, ⟨(some 3), .mov (.val (.bool false)), none⟩, ⟨(some 4), .mov (.val (.bool false)), none⟩])
 .ret) (.seq (.reg [⟨(some 14), .bin .eql (.tmp 9) (.val (.int .i64 15)), none⟩, ⟨(some 13), .mov (.tmp 14), none⟩])
 (.cond (.tmp 13) (.seq (.reg [⟨(some 15), .faddr 1 (.tmp 1), none⟩, ⟨(some 16), .load none (.tmp 15), none⟩, ⟨(some 2), .mov (.tmp 16), none⟩, ⟨(some 3), .mov (.val (.bool true)), none⟩, ⟨(some 4), .mov (.val (.bool false)), none⟩])
 .ret) (.seq (.reg [⟨(some 18), .bin .eql (.tmp 9) (.val (.int .i64 16)), none⟩, ⟨(some 17), .mov (.tmp 18), none⟩])
 (.cond (.tmp 17) (.seq (.reg [⟨(some 19), .faddr 1 (.tmp 1), none⟩, ⟨(some 20), .load none (.tmp 19), none⟩, ⟨(some 2), .mov (.tmp 20), none⟩, ⟨(some 3), .mov (.val (.bool true)), none⟩, ⟨(some 4), .mov (.val (.bool true)), none⟩])
 .ret) .skip))))))))
 (.seq (.reg [⟨(some 2), .mov (.val (.int .i64 0)), none⟩, ⟨(some 3), .mov (.val (.bool false)), none⟩, ⟨(some 4), .mov (.val (.bool true)), none⟩])
 .ret)))) }
def h51 : Hints := ⟨[], [], []⟩
def a51_B1 : AC := (.seq (.seq (.reg [⟨(some 29), .mov (.tmp 5), none⟩, ⟨(some 30), .mov (.tmp 4), none⟩, ⟨(some 31), .lenL (.tmp 30), none⟩, ⟨(some 32), .bin .lss (.tmp 29) (.tmp 31), none⟩])
 (.cond (.tmp 32) .skip (.exit 2)))
 (.seq (.block 3 (.seq (.dreg [(false, ⟨(some 35), .mov (.tmp 4), none⟩, false), (false, ⟨(some 36), .mov (.tmp 5), none⟩, false), (false, ⟨(some 37), .iaddrL 1 (.tmp 35) (.tmp 36), none⟩, false), (false, ⟨(some 38), .load none (.tmp 37), none⟩, false), (false, ⟨(some 39), .mov (.tmp 4), none⟩, false), (false, ⟨(some 40), .mov (.tmp 5), none⟩, false), (false, ⟨(some 41), .bin .sub (.tmp 40) (.val (.int .i64 1)), none⟩, false), (false, ⟨(some 42), .iaddrL 1 (.tmp 39) (.tmp 41), none⟩, false), (false, ⟨(some 43), .load none (.tmp 42), none⟩, false), (false, ⟨(some 44), .bin .neq (.tmp 38) (.tmp 43), none⟩, false)])
 (.cond (.tmp 44) (.seq (.reg [⟨(some 45), .mov (.tmp 0), none⟩, ⟨(some 46), .mov (.tmp 3), none⟩, ⟨(some 47), .mov (.tmp 4), none⟩, ⟨(some 48), .mov (.tmp 5), none⟩, ⟨(some 49), .iaddrL 1 (.tmp 47) (.tmp 48), none⟩, ⟨(some 50), .load none (.tmp 49), none⟩, ⟨(some 51), .iaddrL 1 (.tmp 45) (.tmp 46), none⟩, ⟨none, .store 1 (.tmp 51) (.tmp 50), none⟩])
 (.reg [⟨(some 52), .mov (.tmp 3), none⟩, ⟨(some 53), .bin .add (.tmp 52) (.val (.int .i64 1)), none⟩, ⟨(some 3), .mov (.tmp 53), none⟩])) .skip)))
 (.reg [⟨(some 33), .mov (.tmp 5), none⟩, ⟨(some 34), .bin .add (.tmp 33) (.val (.int .i64 1)), none⟩, ⟨(some 5), .mov (.tmp 34), none⟩])))
def a51_L1 : AC := .loop a51_B1
theorem a51_L1_step (call : Caller) (again : AC → St → Option (Ex × St)) (s : St) : codeEv call again a51_L1 s = match codeEv call again a51_B1 s with | some (.norm, s1) => again a51_L1 s1 | r => r := rfl
def a51_B2 : AC := (.seq (.seq (.reg [⟨(some 10), .mov (.tmp 3), none⟩, ⟨(some 11), .mov (.tmp 0), none⟩, ⟨(some 12), .lenL (.tmp 11), none⟩, ⟨(some 13), .bin .lss (.tmp 10) (.tmp 12), none⟩])
 (.cond (.tmp 13) .skip (.exit 0)))
 (.seq (.block 1 (.seq (.dreg [(false, ⟨(some 16), .mov (.tmp 0), none⟩, false), (false, ⟨(some 17), .mov (.tmp 3), none⟩, false), (false, ⟨(some 18), .iaddrL 1 (.tmp 16) (.tmp 17), none⟩, false), (false, ⟨(some 19), .load none (.tmp 18), none⟩, false), (false, ⟨(some 20), .mov (.tmp 0), none⟩, false), (false, ⟨(some 21), .mov (.tmp 3), none⟩, false), (false, ⟨(some 22), .bin .sub (.tmp 21) (.val (.int .i64 1)), none⟩, false), (false, ⟨(some 23), .iaddrL 1 (.tmp 20) (.tmp 22), none⟩, false), (false, ⟨(some 24), .load none (.tmp 23), none⟩, false), (false, ⟨(some 25), .bin .eql (.tmp 19) (.tmp 24), none⟩, false)])
 (.cond (.tmp 25) (.seq (.reg [⟨(some 26), .mov (.tmp 0), none⟩, ⟨(some 27), .mov (.tmp 3), none⟩, ⟨(some 28), .slcL 1 (.tmp 26) (some (.tmp 27)) none none, none⟩, ⟨(some 4), .mov (.tmp 28), none⟩])
 (.seq (.seq (.reg [⟨(some 5), .mov (.val (.int .i64 1)), none⟩])
 (.block 2 a51_L1))
 (.seq (.reg [⟨(some 54), .mov (.tmp 0), none⟩, ⟨(some 55), .mov (.tmp 3), none⟩, ⟨(some 56), .slcL 1 (.tmp 54) (some (.tmp 55)) none none, none⟩, ⟨none, .xm ((.sclr 1 [(.int .i64 0)])) [(.tmp 56)], none⟩])
 (.seq (.reg [⟨(some 57), .mov (.tmp 0), none⟩, ⟨(some 58), .mov (.tmp 3), none⟩, ⟨(some 59), .slcL 1 (.tmp 57) none (some (.tmp 58)) none, none⟩, ⟨(some 2), .mov (.tmp 59), none⟩])
 .ret)))) .skip)))
 (.reg [⟨(some 14), .mov (.tmp 3), none⟩, ⟨(some 15), .bin .add (.tmp 14) (.val (.int .i64 1)), none⟩, ⟨(some 3), .mov (.tmp 15), none⟩])))
def a51_L2 : AC := .loop a51_B2
theorem a51_L2_step (call : Caller) (again : AC → St → Option (Ex × St)) (s : St) : codeEv call again a51_L2 s = match codeEv call again a51_B2 s with | some (.norm, s1) => again a51_L2 s1 | r => r := rfl
def a51 : AFn := { n := 61, np := 1, res := [.tmp 2], body :=
 (.seq (.reg [⟨(some 2), .mov (.val .nils), none⟩])
 (.seq (.seq (.reg [⟨(some 6), .mov (.tmp 0), none⟩, ⟨(some 7), .lenL (.tmp 6), none⟩, ⟨(some 8), .bin .lss (.tmp 7) (.val (.int .i64 2)), none⟩])
 (.cond (.tmp 8) (.seq (.reg [⟨(some 9), .mov (.tmp 0), none⟩, ⟨(some 2), .mov (.tmp 9), none⟩])
 .ret) .skip))
 (.seq (.seq (.reg [⟨(some 3), .mov (.val (.int .i64 1)), none⟩])
 (.block 0 a51_L2))
 (.seq (.reg [⟨(some 60), .mov (.tmp 0), none⟩, ⟨(some 2), .mov (.tmp 60), none⟩])
 .ret)))) }
def h52 : Hints := ⟨[], [], []⟩
def a52 : AFn := { n := 6, np := 1, res := [.tmp 2], body :=
 (.seq (.reg [⟨(some 2), .mov (.val (.bool false)), none⟩])
 (.seq (.reg [⟨(some 3), .mov (.tmp 0), none⟩, ⟨(some 4), .mov (.tmp 0), none⟩, ⟨(some 5), .bin .neq (.tmp 3) (.tmp 4), none⟩, ⟨(some 2), .mov (.tmp 5), none⟩])
 .ret)) }
def h53 : Hints := ⟨[], [], []⟩
def a53_B1 : AC := (.block 1 (.seq (.reg [⟨(some 21), .mov (.tmp 2), none⟩, ⟨(some 22), .mov (.tmp 1), none⟩, ⟨(some 23), .bin .sub (.tmp 21) (.tmp 22), none⟩, ⟨(some 12), .mov (.tmp 23), none⟩])
 (.seq (.seq (.reg [⟨(some 24), .mov (.tmp 12), none⟩, ⟨(some 25), .bin .leq (.tmp 24) (.val (.int .i64 12)), none⟩])
 (.cond (.tmp 25) (.seq (.reg [⟨(some 26), .mov (.tmp 0), none⟩, ⟨(some 27), .mov (.tmp 1), none⟩, ⟨(some 28), .mov (.tmp 2), none⟩, ⟨(some 29), .mov (.tmp 4), none⟩, ⟨(some 30), .call 67 [(.tmp 26), (.tmp 27), (.tmp 28), (.tmp 29)], none⟩])
 .ret) .skip))
 (.seq (.seq (.reg [⟨(some 31), .mov (.tmp 3), none⟩, ⟨(some 32), .bin .eql (.tmp 31) (.val (.int .i64 0)), none⟩])
 (.cond (.tmp 32) (.seq (.reg [⟨(some 33), .mov (.tmp 0), none⟩, ⟨(some 34), .mov (.tmp 1), none⟩, ⟨(some 35), .mov (.tmp 2), none⟩, ⟨(some 36), .mov (.tmp 4), none⟩, ⟨(some 37), .call 68 [(.tmp 33), (.tmp 34), (.tmp 35), (.tmp 36)], none⟩])
 .ret) .skip))
 (.seq (.seq (.reg [⟨(some 38), .mov (.tmp 10), none⟩, ⟨(some 39), .un .not (.tmp 38), none⟩])
 (.cond (.tmp 39) (.seq (.reg [⟨(some 40), .mov (.tmp 0), none⟩, ⟨(some 41), .mov (.tmp 1), none⟩, ⟨(some 42), .mov (.tmp 2), none⟩, ⟨(some 43), .mov (.tmp 4), none⟩, ⟨(some 44), .call 69 [(.tmp 40), (.tmp 41), (.tmp 42), (.tmp 43)], none⟩])
 (.reg [⟨(some 45), .mov (.tmp 3), none⟩, ⟨(some 46), .bin .sub (.tmp 45) (.val (.int .i64 1)), none⟩, ⟨(some 3), .mov (.tmp 46), none⟩])) .skip))
 (.seq (.reg [⟨(some 48), .mov (.tmp 0), none⟩, ⟨(some 49), .mov (.tmp 1), none⟩, ⟨(some 50), .mov (.tmp 2), none⟩, ⟨(some 51), .mov (.tmp 4), none⟩, ⟨(some 52), .call 70 [(.tmp 48), (.tmp 49), (.tmp 50), (.tmp 51)], none⟩, ⟨(some 47), .mov (.tmp 52), none⟩, ⟨(some 53), .ext (.tmp 47) 0, none⟩, ⟨(some 54), .ext (.tmp 47) 1, none⟩, ⟨(some 13), .mov (.tmp 53), none⟩, ⟨(some 14), .mov (.tmp 54), none⟩])
 (.seq (.seq (.reg [⟨(some 55), .mov (.tmp 14), none⟩, ⟨(some 56), .bin .eql (.tmp 55) (.val (.int .i64 2)), none⟩])
 (.cond (.tmp 56) (.seq (.reg [⟨(some 57), .mov (.tmp 0), none⟩, ⟨(some 58), .mov (.tmp 1), none⟩, ⟨(some 59), .mov (.tmp 2), none⟩, ⟨(some 60), .mov (.tmp 4), none⟩, ⟨(some 61), .call 71 [(.tmp 57), (.tmp 58), (.tmp 59), (.tmp 60)], none⟩])
 (.seq (.reg [⟨(some 62), .mov (.tmp 2), none⟩, ⟨(some 63), .bin .sub (.tmp 62) (.val (.int .i64 1)), none⟩, ⟨(some 64), .mov (.tmp 13), none⟩, ⟨(some 65), .mov (.tmp 1), none⟩, ⟨(some 66), .bin .sub (.tmp 64) (.tmp 65), none⟩, ⟨(some 67), .bin .sub (.tmp 63) (.tmp 66), none⟩, ⟨(some 13), .mov (.tmp 67), none⟩])
 (.reg [⟨(some 14), .mov (.val (.int .i64 1)), none⟩]))) .skip))
 (.seq (.seq (.reg [⟨(some 68), .mov (.tmp 10), none⟩, ⟨(some 69), .mov (.tmp 68), none⟩, ⟨(some 70), .mov (.tmp 11), (some (69, true))⟩, ⟨(some 71), .pick (.tmp 69) (.tmp 70) (.val (.bool false)), none⟩, ⟨(some 72), .mov (.tmp 71), none⟩, ⟨(some 73), .mov (.tmp 14), (some (72, true))⟩, ⟨(some 74), .bin .eql (.tmp 73) (.val (.int .i64 1)), (some (72, true))⟩, ⟨(some 75), .pick (.tmp 72) (.tmp 74) (.val (.bool false)), none⟩])
 (.cond (.tmp 75) (.seq (.reg [⟨(some 76), .mov (.tmp 0), none⟩, ⟨(some 77), .mov (.tmp 1), none⟩, ⟨(some 78), .mov (.tmp 2), none⟩, ⟨(some 79), .mov (.tmp 4), none⟩, ⟨(some 80), .call 72 [(.tmp 76), (.tmp 77), (.tmp 78), (.tmp 79)], none⟩])
 (.cond (.tmp 80) .ret .skip)) .skip))
 (.seq (.seq (.dreg [(false, ⟨(some 81), .mov (.tmp 1), none⟩, false), (false, ⟨(some 82), .bin .gtr (.tmp 81) (.val (.int .i64 0)), none⟩, false), (false, ⟨(some 83), .mov (.tmp 82), none⟩, false), (false, ⟨(some 84), .mov (.tmp 4), (some (83, true))⟩, false), (false, ⟨(some 85), .mov (.tmp 0), (some (83, true))⟩, false), (false, ⟨(some 86), .mov (.tmp 1), (some (83, true))⟩, false), (false, ⟨(some 87), .bin .sub (.tmp 86) (.val (.int .i64 1)), (some (83, true))⟩, false), (false, ⟨(some 88), .iaddrL 2 (.tmp 85) (.tmp 87), (some (83, true))⟩, false), (false, ⟨(some 89), .load (some 2) (.tmp 88), (some (83, true))⟩, false), (false, ⟨(some 90), .mov (.tmp 0), (some (83, true))⟩, false), (false, ⟨(some 91), .mov (.tmp 13), (some (83, true))⟩, false), (false, ⟨(some 92), .iaddrL 2 (.tmp 90) (.tmp 91), (some (83, true))⟩, false), (false, ⟨(some 93), .load (some 2) (.tmp 92), (some (83, true))⟩, false), (false, ⟨(some 94), .callv (.tmp 84) [(.tmp 89), (.tmp 93)], (some (83, true))⟩, false), (false, ⟨(some 95), .bin .lss (.tmp 94) (.val (.int .i64 0)), (some (83, true))⟩, false), (false, ⟨(some 96), .un .not (.tmp 95), (some (83, true))⟩, false), (false, ⟨(some 97), .pick (.tmp 83) (.tmp 96) (.val (.bool false)), none⟩, false)])
 (.cond (.tmp 97) (.seq (.reg [⟨(some 98), .mov (.tmp 0), none⟩, ⟨(some 99), .mov (.tmp 1), none⟩, ⟨(some 100), .mov (.tmp 2), none⟩, ⟨(some 101), .mov (.tmp 13), none⟩, ⟨(some 102), .mov (.tmp 4), none⟩, ⟨(some 103), .call 73 [(.tmp 98), (.tmp 99), (.tmp 100), (.tmp 101), (.tmp 102)], none⟩, ⟨(some 15), .mov (.tmp 103), none⟩])
 (.seq (.reg [⟨(some 104), .mov (.tmp 15), none⟩, ⟨(some 1), .mov (.tmp 104), none⟩])
 (.exit 1))) .skip))
 (.seq (.reg [⟨(some 106), .mov (.tmp 0), none⟩, ⟨(some 107), .mov (.tmp 1), none⟩, ⟨(some 108), .mov (.tmp 2), none⟩, ⟨(some 109), .mov (.tmp 13), none⟩, ⟨(some 110), .mov (.tmp 4), none⟩, ⟨(some 111), .call 74 [(.tmp 106), (.tmp 107), (.tmp 108), (.tmp 109), (.tmp 110)], none⟩, ⟨(some 105), .mov (.tmp 111), none⟩, ⟨(some 112), .ext (.tmp 105) 0, none⟩, ⟨(some 113), .ext (.tmp 105) 1, none⟩, ⟨(some 16), .mov (.tmp 112), none⟩, ⟨(some 17), .mov (.tmp 113), none⟩])
 (.seq (.reg [⟨(some 114), .mov (.tmp 17), none⟩, ⟨(some 11), .mov (.tmp 114), none⟩])
 (.seq (.reg [⟨(some 115), .mov (.tmp 16), none⟩, ⟨(some 116), .mov (.tmp 1), none⟩, ⟨(some 117), .bin .sub (.tmp 115) (.tmp 116), none⟩, ⟨(some 118), .mov (.tmp 2), none⟩, ⟨(some 119), .mov (.tmp 16), none⟩, ⟨(some 120), .bin .sub (.tmp 118) (.tmp 119), none⟩, ⟨(some 18), .mov (.tmp 117), none⟩, ⟨(some 19), .mov (.tmp 120), none⟩])
 (.seq (.reg [⟨(some 121), .mov (.tmp 12), none⟩, ⟨(some 122), .bin .quo (.tmp 121) (.val (.int .i64 8)), none⟩, ⟨(some 20), .mov (.tmp 122), none⟩])
 (.seq (.reg [⟨(some 123), .mov (.tmp 18), none⟩, ⟨(some 124), .mov (.tmp 19), none⟩, ⟨(some 125), .bin .lss (.tmp 123) (.tmp 124), none⟩])
 (.cond (.tmp 125) (.seq (.reg [⟨(some 126), .mov (.tmp 18), none⟩, ⟨(some 127), .mov (.tmp 20), none⟩, ⟨(some 128), .bin .geq (.tmp 126) (.tmp 127), none⟩, ⟨(some 10), .mov (.tmp 128), none⟩])
 (.seq (.reg [⟨(some 129), .mov (.tmp 0), none⟩, ⟨(some 130), .mov (.tmp 1), none⟩, ⟨(some 131), .mov (.tmp 16), none⟩, ⟨(some 132), .mov (.tmp 3), none⟩, ⟨(some 133), .mov (.tmp 4), none⟩, ⟨(some 134), .call 53 [(.tmp 129), (.tmp 130), (.tmp 131), (.tmp 132), (.tmp 133)], none⟩])
 (.reg [⟨(some 135), .mov (.tmp 16), none⟩, ⟨(some 136), .bin .add (.tmp 135) (.val (.int .i64 1)), none⟩, ⟨(some 1), .mov (.tmp 136), none⟩]))) (.seq (.reg [⟨(some 137), .mov (.tmp 19), none⟩, ⟨(some 138), .mov (.tmp 20), none⟩, ⟨(some 139), .bin .geq (.tmp 137) (.tmp 138), none⟩, ⟨(some 10), .mov (.tmp 139), none⟩])
 (.seq (.reg [⟨(some 140), .mov (.tmp 0), none⟩, ⟨(some 141), .mov (.tmp 16), none⟩, ⟨(some 142), .bin .add (.tmp 141) (.val (.int .i64 1)), none⟩, ⟨(some 143), .mov (.tmp 2), none⟩, ⟨(some 144), .mov (.tmp 3), none⟩, ⟨(some 145), .mov (.tmp 4), none⟩, ⟨(some 146), .call 53 [(.tmp 140), (.tmp 142), (.tmp 143), (.tmp 144), (.tmp 145)], none⟩])
 (.reg [⟨(some 147), .mov (.tmp 16), none⟩, ⟨(some 2), .mov (.tmp 147), none⟩]))))))))))))))))))
def a53_L1 : AC := .loop a53_B1
theorem a53_L1_step (call : Caller) (again : AC → St → Option (Ex × St)) (s : St) : codeEv call again a53_L1 s = match codeEv call again a53_B1 s with | some (.norm, s1) => again a53_L1 s1 | r => r := rfl
def a53 : AFn := { n := 148, np := 5, res := [], body :=
 (.seq (.reg [⟨(some 10), .mov (.val (.bool true)), none⟩])
 (.seq (.reg [⟨(some 11), .mov (.val (.bool true)), none⟩])
 (.block 0 a53_L1))) }
def h54 : Hints := ⟨[], [], []⟩
def a54 : AFn := { n := 20, np := 2, res := [.tmp 4], body :=
 (.seq (.reg [⟨(some 4), .mov (.val (.int .i64 0)), none⟩])
 (.seq (.reg [⟨(some 7), .mov (.tmp 0), none⟩, ⟨(some 8), .call 52 [(.tmp 7)], none⟩, ⟨(some 5), .mov (.tmp 8), none⟩])
 (.seq (.reg [⟨(some 9), .mov (.tmp 1), none⟩, ⟨(some 10), .call 52 [(.tmp 9)], none⟩, ⟨(some 6), .mov (.tmp 10), none⟩])
 (.seq (.seq (.reg [⟨(some 11), .mov (.tmp 5), none⟩])
 (.cond (.tmp 11) (.seq (.seq (.reg [⟨(some 12), .mov (.tmp 6), none⟩])
 (.cond (.tmp 12) (.seq (.reg [⟨(some 4), .mov (.val (.int .i64 0)), none⟩])
 .ret) .skip))
 (.seq (.reg [⟨(some 4), .mov (.val (.int .i64 (-1))), none⟩])
 .ret)) .skip))
 (.seq (.seq (.reg [⟨(some 13), .mov (.tmp 6), none⟩])
 (.cond (.tmp 13) (.seq (.reg [⟨(some 4), .mov (.val (.int .i64 1)), none⟩])
 .ret) .skip))
 (.seq (.seq (.reg [⟨(some 14), .mov (.tmp 0), none⟩, ⟨(some 15), .mov (.tmp 1), none⟩, ⟨(some 16), .bin .lss (.tmp 14) (.tmp 15), none⟩])
 (.cond (.tmp 16) (.seq (.reg [⟨(some 4), .mov (.val (.int .i64 (-1))), none⟩])
 .ret) .skip))
 (.seq (.seq (.reg [⟨(some 17), .mov (.tmp 0), none⟩, ⟨(some 18), .mov (.tmp 1), none⟩, ⟨(some 19), .bin .gtr (.tmp 17) (.tmp 18), none⟩])
 (.cond (.tmp 19) (.seq (.reg [⟨(some 4), .mov (.val (.int .i64 1)), none⟩])
 .ret) .skip))
 (.seq (.reg [⟨(some 4), .mov (.val (.int .i64 0)), none⟩])
 .ret)))))))) }
def h55 : Hints := ⟨[], [], []⟩
def a55_B1 : AC := (.seq (.seq (.dreg [(false, ⟨(some 16), .mov (.tmp 7), none⟩, false), (false, ⟨(some 17), .mov (.tmp 1), none⟩, false), (false, ⟨(some 18), .bin .gtr (.tmp 16) (.tmp 17), none⟩, false), (false, ⟨(some 19), .mov (.tmp 18), none⟩, false), (false, ⟨(some 20), .mov (.tmp 0), (some (19, true))⟩, false), (false, ⟨(some 21), .mov (.tmp 7), (some (19, true))⟩, false), (false, ⟨(some 22), .iaddrL 1 (.tmp 20) (.tmp 21), (some (19, true))⟩, false), (false, ⟨(some 23), .load none (.tmp 22), (some (19, true))⟩, false), (false, ⟨(some 24), .mov (.tmp 0), (some (19, true))⟩, false), (false, ⟨(some 25), .mov (.tmp 7), (some (19, true))⟩, false), (false, ⟨(some 26), .bin .sub (.tmp 25) (.val (.int .i64 1)), (some (19, true))⟩, false), (false, ⟨(some 27), .iaddrL 1 (.tmp 24) (.tmp 26), (some (19, true))⟩, false), (false, ⟨(some 28), .load none (.tmp 27), (some (19, true))⟩, false), (false, ⟨(some 29), .call 41 [(.tmp 23), (.tmp 28)], (some (19, true))⟩, false), (false, ⟨(some 30), .pick (.tmp 19) (.tmp 29) (.val (.bool false)), none⟩, false)])
 (.cond (.tmp 30) .skip (.exit 2)))
 (.seq (.block 3 (.dreg [(false, ⟨(some 33), .mov (.tmp 0), none⟩, false), (false, ⟨(some 34), .mov (.tmp 7), none⟩, false), (false, ⟨(some 35), .mov (.tmp 0), none⟩, false), (false, ⟨(some 36), .mov (.tmp 7), none⟩, false), (false, ⟨(some 37), .bin .sub (.tmp 36) (.val (.int .i64 1)), none⟩, false), (false, ⟨(some 38), .mov (.tmp 0), none⟩, false), (false, ⟨(some 39), .mov (.tmp 7), none⟩, false), (false, ⟨(some 40), .bin .sub (.tmp 39) (.val (.int .i64 1)), none⟩, false), (false, ⟨(some 41), .iaddrL 1 (.tmp 38) (.tmp 40), none⟩, false), (false, ⟨(some 42), .load none (.tmp 41), none⟩, false), (false, ⟨(some 43), .mov (.tmp 0), none⟩, false), (false, ⟨(some 44), .mov (.tmp 7), none⟩, false), (false, ⟨(some 45), .iaddrL 1 (.tmp 43) (.tmp 44), none⟩, false), (false, ⟨(some 46), .load none (.tmp 45), none⟩, false), (false, ⟨(some 47), .iaddrL 1 (.tmp 33) (.tmp 34), none⟩, false), (false, ⟨none, .store 1 (.tmp 47) (.tmp 42), none⟩, false), (false, ⟨(some 48), .iaddrL 1 (.tmp 35) (.tmp 37), none⟩, false), (false, ⟨none, .store 1 (.tmp 48) (.tmp 46), none⟩, false)]))
 (.reg [⟨(some 31), .mov (.tmp 7), none⟩, ⟨(some 32), .bin .sub (.tmp 31) (.val (.int .i64 1)), none⟩, ⟨(some 7), .mov (.tmp 32), none⟩])))
def a55_L1 : AC := .loop a55_B1
theorem a55_L1_step (call : Caller) (again : AC → St → Option (Ex × St)) (s : St) : codeEv call again a55_L1 s = match codeEv call again a55_B1 s with | some (.norm, s1) => again a55_L1 s1 | r => r := rfl
def a55_B2 : AC := (.seq (.seq (.reg [⟨(some 10), .mov (.tmp 6), none⟩, ⟨(some 11), .mov (.tmp 2), none⟩, ⟨(some 12), .bin .lss (.tmp 10) (.tmp 11), none⟩])
 (.cond (.tmp 12) .skip (.exit 0)))
 (.seq (.block 1 (.seq (.reg [⟨(some 15), .mov (.tmp 6), none⟩, ⟨(some 7), .mov (.tmp 15), none⟩])
 (.block 2 a55_L1)))
 (.reg [⟨(some 13), .mov (.tmp 6), none⟩, ⟨(some 14), .bin .add (.tmp 13) (.val (.int .i64 1)), none⟩, ⟨(some 6), .mov (.tmp 14), none⟩])))
def a55_L2 : AC := .loop a55_B2
theorem a55_L2_step (call : Caller) (again : AC → St → Option (Ex × St)) (s : St) : codeEv call again a55_L2 s = match codeEv call again a55_B2 s with | some (.norm, s1) => again a55_L2 s1 | r => r := rfl
def a55 : AFn := { n := 49, np := 3, res := [], body :=
 (.seq (.reg [⟨(some 8), .mov (.tmp 1), none⟩, ⟨(some 9), .bin .add (.tmp 8) (.val (.int .i64 1)), none⟩, ⟨(some 6), .mov (.tmp 9), none⟩])
 (.block 0 a55_L2)) }
def h56 : Hints := ⟨[], [], []⟩
def a56_B1 : AC := (.seq (.seq (.reg [⟨(some 29), .mov (.tmp 10), none⟩, ⟨(some 30), .bin .geq (.tmp 29) (.val (.int .i64 0)), none⟩])
 (.cond (.tmp 30) .skip (.exit 2)))
 (.seq (.block 3 (.seq (.dreg [(false, ⟨(some 33), .mov (.tmp 0), none⟩, false), (false, ⟨(some 34), .mov (.tmp 6), none⟩, false), (false, ⟨(some 35), .mov (.tmp 0), none⟩, false), (false, ⟨(some 36), .mov (.tmp 6), none⟩, false), (false, ⟨(some 37), .mov (.tmp 10), none⟩, false), (false, ⟨(some 38), .bin .add (.tmp 36) (.tmp 37), none⟩, false), (false, ⟨(some 39), .mov (.tmp 0), none⟩, false), (false, ⟨(some 40), .mov (.tmp 6), none⟩, false), (false, ⟨(some 41), .mov (.tmp 10), none⟩, false), (false, ⟨(some 42), .bin .add (.tmp 40) (.tmp 41), none⟩, false), (false, ⟨(some 43), .iaddrL 1 (.tmp 39) (.tmp 42), none⟩, false), (false, ⟨(some 44), .load none (.tmp 43), none⟩, false), (false, ⟨(some 45), .mov (.tmp 0), none⟩, false), (false, ⟨(some 46), .mov (.tmp 6), none⟩, false), (false, ⟨(some 47), .iaddrL 1 (.tmp 45) (.tmp 46), none⟩, false), (false, ⟨(some 48), .load none (.tmp 47), none⟩, false), (false, ⟨(some 49), .iaddrL 1 (.tmp 33) (.tmp 34), none⟩, false), (false, ⟨none, .store 1 (.tmp 49) (.tmp 44), none⟩, false), (false, ⟨(some 50), .iaddrL 1 (.tmp 35) (.tmp 38), none⟩, false), (false, ⟨none, .store 1 (.tmp 50) (.tmp 48), none⟩, false)])
 (.reg [⟨(some 51), .mov (.tmp 0), none⟩, ⟨(some 52), .mov (.tmp 7), none⟩, ⟨(some 53), .mov (.tmp 10), none⟩, ⟨(some 54), .mov (.tmp 6), none⟩, ⟨(some 55), .call 75 [(.tmp 51), (.tmp 52), (.tmp 53), (.tmp 54)], none⟩])))
 (.reg [⟨(some 31), .mov (.tmp 10), none⟩, ⟨(some 32), .bin .sub (.tmp 31) (.val (.int .i64 1)), none⟩, ⟨(some 10), .mov (.tmp 32), none⟩])))
def a56_L1 : AC := .loop a56_B1
theorem a56_L1_step (call : Caller) (again : AC → St → Option (Ex × St)) (s : St) : codeEv call again a56_L1 s = match codeEv call again a56_B1 s with | some (.norm, s1) => again a56_L1 s1 | r => r := rfl
def a56_B2 : AC := (.seq (.seq (.reg [⟨(some 18), .mov (.tmp 9), none⟩, ⟨(some 19), .bin .geq (.tmp 18) (.val (.int .i64 0)), none⟩])
 (.cond (.tmp 19) .skip (.exit 0)))
 (.seq (.block 1 (.reg [⟨(some 22), .mov (.tmp 0), none⟩, ⟨(some 23), .mov (.tmp 9), none⟩, ⟨(some 24), .mov (.tmp 8), none⟩, ⟨(some 25), .mov (.tmp 6), none⟩, ⟨(some 26), .call 75 [(.tmp 22), (.tmp 23), (.tmp 24), (.tmp 25)], none⟩]))
 (.reg [⟨(some 20), .mov (.tmp 9), none⟩, ⟨(some 21), .bin .sub (.tmp 20) (.val (.int .i64 1)), none⟩, ⟨(some 9), .mov (.tmp 21), none⟩])))
def a56_L2 : AC := .loop a56_B2
theorem a56_L2_step (call : Caller) (again : AC → St → Option (Ex × St)) (s : St) : codeEv call again a56_L2 s = match codeEv call again a56_B2 s with | some (.norm, s1) => again a56_L2 s1 | r => r := rfl
def a56 : AFn := { n := 56, np := 3, res := [], body :=
 (.seq (.reg [⟨(some 11), .mov (.tmp 1), none⟩, ⟨(some 6), .mov (.tmp 11), none⟩])
 (.seq (.reg [⟨(some 7), .mov (.val (.int .i64 0)), none⟩])
 (.seq (.reg [⟨(some 12), .mov (.tmp 2), none⟩, ⟨(some 13), .mov (.tmp 1), none⟩, ⟨(some 14), .bin .sub (.tmp 12) (.tmp 13), none⟩, ⟨(some 8), .mov (.tmp 14), none⟩])
 (.seq (.seq (.reg [⟨(some 15), .mov (.tmp 8), none⟩, ⟨(some 16), .bin .sub (.tmp 15) (.val (.int .i64 1)), none⟩, ⟨(some 17), .bin .quo (.tmp 16) (.val (.int .i64 2)), none⟩, ⟨(some 9), .mov (.tmp 17), none⟩])
 (.block 0 a56_L2))
 (.seq (.reg [⟨(some 27), .mov (.tmp 8), none⟩, ⟨(some 28), .bin .sub (.tmp 27) (.val (.int .i64 1)), none⟩, ⟨(some 10), .mov (.tmp 28), none⟩])
 (.block 2 a56_L1)))))) }
def h57 : Hints := ⟨[], [], []⟩
def a57_B1 : AC := (.seq (.seq (.reg [⟨(some 26), .mov (.tmp 9), none⟩, ⟨(some 27), .mov (.tmp 1), none⟩, ⟨(some 28), .mov (.tmp 6), none⟩, ⟨(some 29), .bin .quo (.tmp 28) (.val (.int .i64 4)), none⟩, ⟨(some 30), .bin .mul (.tmp 29) (.val (.int .i64 2)), none⟩, ⟨(some 31), .bin .add (.tmp 27) (.tmp 30), none⟩, ⟨(some 32), .bin .add (.tmp 31) (.val (.int .i64 1)), none⟩, ⟨(some 33), .bin .leq (.tmp 26) (.tmp 32), none⟩])
 (.cond (.tmp 33) .skip (.exit 0)))
 (.seq (.block 1 (.seq (.reg [⟨(some 36), .call 77 [(.tmp 7)], none⟩, ⟨(some 37), .mov (.tmp 8), none⟩, ⟨(some 38), .bin .sub (.tmp 37) (.val (.int .u64 1)), none⟩, ⟨(some 39), .bin .and (.tmp 36) (.tmp 38), none⟩, ⟨(some 40), .conv .i64 (.tmp 39), none⟩, ⟨(some 10), .mov (.tmp 40), none⟩])
 (.seq (.seq (.reg [⟨(some 41), .mov (.tmp 10), none⟩, ⟨(some 42), .mov (.tmp 6), none⟩, ⟨(some 43), .bin .geq (.tmp 41) (.tmp 42), none⟩])
 (.cond (.tmp 43) (.reg [⟨(some 44), .mov (.tmp 10), none⟩, ⟨(some 45), .mov (.tmp 6), none⟩, ⟨(some 46), .bin .sub (.tmp 44) (.tmp 45), none⟩, ⟨(some 10), .mov (.tmp 46), none⟩]) .skip))
 (.dreg [(false, ⟨(some 47), .mov (.tmp 0), none⟩, false), (false, ⟨(some 48), .mov (.tmp 9), none⟩, false), (false, ⟨(some 49), .mov (.tmp 0), none⟩, false), (false, ⟨(some 50), .mov (.tmp 1), none⟩, false), (false, ⟨(some 51), .mov (.tmp 10), none⟩, false), (false, ⟨(some 52), .bin .add (.tmp 50) (.tmp 51), none⟩, false), (false, ⟨(some 53), .mov (.tmp 0), none⟩, false), (false, ⟨(some 54), .mov (.tmp 1), none⟩, false), (false, ⟨(some 55), .mov (.tmp 10), none⟩, false), (false, ⟨(some 56), .bin .add (.tmp 54) (.tmp 55), none⟩, false), (false, ⟨(some 57), .iaddrL 1 (.tmp 53) (.tmp 56), none⟩, false), (false, ⟨(some 58), .load none (.tmp 57), none⟩, false), (false, ⟨(some 59), .mov (.tmp 0), none⟩, false), (false, ⟨(some 60), .mov (.tmp 9), none⟩, false), (false, ⟨(some 61), .iaddrL 1 (.tmp 59) (.tmp 60), none⟩, false), (false, ⟨(some 62), .load none (.tmp 61), none⟩, false), (false, ⟨(some 63), .iaddrL 1 (.tmp 47) (.tmp 48), none⟩, false), (false, ⟨none, .store 1 (.tmp 63) (.tmp 58), none⟩, false), (false, ⟨(some 64), .iaddrL 1 (.tmp 49) (.tmp 52), none⟩, false), (false, ⟨none, .store 1 (.tmp 64) (.tmp 62), none⟩, false)]))))
 (.reg [⟨(some 34), .mov (.tmp 9), none⟩, ⟨(some 35), .bin .add (.tmp 34) (.val (.int .i64 1)), none⟩, ⟨(some 9), .mov (.tmp 35), none⟩])))
def a57_L1 : AC := .loop a57_B1
theorem a57_L1_step (call : Caller) (again : AC → St → Option (Ex × St)) (s : St) : codeEv call again a57_L1 s = match codeEv call again a57_B1 s with | some (.norm, s1) => again a57_L1 s1 | r => r := rfl
def a57 : AFn := { n := 65, np := 3, res := [], body :=
 (.seq (.reg [⟨(some 11), .mov (.tmp 2), none⟩, ⟨(some 12), .mov (.tmp 1), none⟩, ⟨(some 13), .bin .sub (.tmp 11) (.tmp 12), none⟩, ⟨(some 6), .mov (.tmp 13), none⟩])
 (.seq (.reg [⟨(some 14), .mov (.tmp 6), none⟩, ⟨(some 15), .bin .geq (.tmp 14) (.val (.int .i64 8)), none⟩])
 (.cond (.tmp 15) (.seq (.reg [⟨(some 16), .mov (.tmp 6), none⟩, ⟨(some 17), .conv .u64 (.tmp 16), none⟩, ⟨(some 7), .alloc none [(.int .u64 0)], none⟩, ⟨none, .store 1 (.tmp 7) (.tmp 17), none⟩])
 (.seq (.reg [⟨(some 18), .mov (.tmp 6), none⟩, ⟨(some 19), .call 76 [(.tmp 18)], none⟩, ⟨(some 8), .mov (.tmp 19), none⟩])
 (.seq (.reg [⟨(some 20), .mov (.tmp 1), none⟩, ⟨(some 21), .mov (.tmp 6), none⟩, ⟨(some 22), .bin .quo (.tmp 21) (.val (.int .i64 4)), none⟩, ⟨(some 23), .bin .mul (.tmp 22) (.val (.int .i64 2)), none⟩, ⟨(some 24), .bin .add (.tmp 20) (.tmp 23), none⟩, ⟨(some 25), .bin .sub (.tmp 24) (.val (.int .i64 1)), none⟩, ⟨(some 9), .mov (.tmp 25), none⟩])
 (.block 0 a57_L1)))) .skip))) }
def h58 : Hints := ⟨[], [], []⟩
def a58 : AFn := { n := 57, np := 3, res := [.tmp 6, .tmp 7], body :=
 (.seq (.reg [⟨(some 6), .mov (.val (.int .i64 0)), none⟩, ⟨(some 7), .mov (.val (.int .i64 0)), none⟩])
 (.seq (.reg [⟨(some 13), .mov (.tmp 2), none⟩, ⟨(some 14), .mov (.tmp 1), none⟩, ⟨(some 15), .bin .sub (.tmp 13) (.tmp 14), none⟩, ⟨(some 8), .mov (.tmp 15), none⟩])
 (.seq (.reg [⟨(some 9), .alloc none [(.int .i64 0)], none⟩])
 (.seq (.reg [⟨(some 16), .mov (.tmp 1), none⟩, ⟨(some 17), .mov (.tmp 8), none⟩, ⟨(some 18), .bin .quo (.tmp 17) (.val (.int .i64 4)), none⟩, ⟨(some 19), .bin .mul (.tmp 18) (.val (.int .i64 1)), none⟩, ⟨(some 20), .bin .add (.tmp 16) (.tmp 19), none⟩, ⟨(some 10), .mov (.tmp 20), none⟩])
 (.seq (.reg [⟨(some 21), .mov (.tmp 1), none⟩, ⟨(some 22), .mov (.tmp 8), none⟩, ⟨(some 23), .bin .quo (.tmp 22) (.val (.int .i64 4)), none⟩, ⟨(some 24), .bin .mul (.tmp 23) (.val (.int .i64 2)), none⟩, ⟨(some 25), .bin .add (.tmp 21) (.tmp 24), none⟩, ⟨(some 11), .mov (.tmp 25), none⟩])
 (.seq (.reg [⟨(some 26), .mov (.tmp 1), none⟩, ⟨(some 27), .mov (.tmp 8), none⟩, ⟨(some 28), .bin .quo (.tmp 27) (.val (.int .i64 4)), none⟩, ⟨(some 29), .bin .mul (.tmp 28) (.val (.int .i64 3)), none⟩, ⟨(some 30), .bin .add (.tmp 26) (.tmp 29), none⟩, ⟨(some 12), .mov (.tmp 30), none⟩])
 (.seq (.seq (.reg [⟨(some 31), .mov (.tmp 8), none⟩, ⟨(some 32), .bin .geq (.tmp 31) (.val (.int .i64 8)), none⟩])
 (.cond (.tmp 32) (.seq (.seq (.reg [⟨(some 33), .mov (.tmp 8), none⟩, ⟨(some 34), .bin .geq (.tmp 33) (.val (.int .i64 50)), none⟩])
 (.cond (.tmp 34) (.seq (.reg [⟨(some 35), .mov (.tmp 0), none⟩, ⟨(some 36), .mov (.tmp 10), none⟩, ⟨(some 37), .call 78 [(.tmp 35), (.tmp 36), (.tmp 9)], none⟩, ⟨(some 10), .mov (.tmp 37), none⟩])
 (.seq (.reg [⟨(some 38), .mov (.tmp 0), none⟩, ⟨(some 39), .mov (.tmp 11), none⟩, ⟨(some 40), .call 78 [(.tmp 38), (.tmp 39), (.tmp 9)], none⟩, ⟨(some 11), .mov (.tmp 40), none⟩])
 (.reg [⟨(some 41), .mov (.tmp 0), none⟩, ⟨(some 42), .mov (.tmp 12), none⟩, ⟨(some 43), .call 78 [(.tmp 41), (.tmp 42), (.tmp 9)], none⟩, ⟨(some 12), .mov (.tmp 43), none⟩]))) .skip))
 (.reg [⟨(some 44), .mov (.tmp 0), none⟩, ⟨(some 45), .mov (.tmp 10), none⟩, ⟨(some 46), .mov (.tmp 11), none⟩, ⟨(some 47), .mov (.tmp 12), none⟩, ⟨(some 48), .call 79 [(.tmp 44), (.tmp 45), (.tmp 46), (.tmp 47), (.tmp 9)], none⟩, ⟨(some 11), .mov (.tmp 48), none⟩])) .skip))
 (.seq (.reg [⟨(some 49), .load none (.tmp 9), none⟩])
 (.block 0 (.seq (.reg [⟨(some 52), .bin .eql (.tmp 49) (.val (.int .i64 0)), none⟩, ⟨(some 51), .mov (.tmp 52), none⟩])
 (.cond (.tmp 51) (.seq (.reg [⟨(some 53), .mov (.tmp 11), none⟩, ⟨(some 6), .mov (.tmp 53), none⟩, ⟨(some 7), .mov (.val (.int .i64 1)), none⟩])
 .ret) (.seq (.reg [⟨(some 55), .bin .eql (.tmp 49) (.val (.int .i64 12)), none⟩, ⟨(some 54), .mov (.tmp 55), none⟩])
 (.cond (.tmp 54) (.seq (.reg [⟨(some 56), .mov (.tmp 11), none⟩, ⟨(some 6), .mov (.tmp 56), none⟩, ⟨(some 7), .mov (.val (.int .i64 2)), none⟩])
 .ret) (.seq (.reg [⟨(some 50), .mov (.tmp 11), none⟩, ⟨(some 6), .mov (.tmp 50), none⟩, ⟨(some 7), .mov (.val (.int .i64 0)), none⟩])
 .ret)))))))))))))) }
def h59 : Hints := ⟨[], [], []⟩
def a59_B1 : AC := (.seq (.seq (.reg [⟨(some 11), .mov (.tmp 6), none⟩, ⟨(some 12), .mov (.tmp 7), none⟩, ⟨(some 13), .bin .lss (.tmp 11) (.tmp 12), none⟩])
 (.cond (.tmp 13) .skip (.exit 0)))
 (.block 1 (.seq (.dreg [(false, ⟨(some 14), .mov (.tmp 0), none⟩, false), (false, ⟨(some 15), .mov (.tmp 6), none⟩, false), (false, ⟨(some 16), .mov (.tmp 0), none⟩, false), (false, ⟨(some 17), .mov (.tmp 7), none⟩, false), (false, ⟨(some 18), .mov (.tmp 0), none⟩, false), (false, ⟨(some 19), .mov (.tmp 7), none⟩, false), (false, ⟨(some 20), .iaddrL 1 (.tmp 18) (.tmp 19), none⟩, false), (false, ⟨(some 21), .load none (.tmp 20), none⟩, false), (false, ⟨(some 22), .mov (.tmp 0), none⟩, false), (false, ⟨(some 23), .mov (.tmp 6), none⟩, false), (false, ⟨(some 24), .iaddrL 1 (.tmp 22) (.tmp 23), none⟩, false), (false, ⟨(some 25), .load none (.tmp 24), none⟩, false), (false, ⟨(some 26), .iaddrL 1 (.tmp 14) (.tmp 15), none⟩, false), (false, ⟨none, .store 1 (.tmp 26) (.tmp 21), none⟩, false), (false, ⟨(some 27), .iaddrL 1 (.tmp 16) (.tmp 17), none⟩, false), (false, ⟨none, .store 1 (.tmp 27) (.tmp 25), none⟩, false)])
 (.seq (.reg [⟨(some 28), .mov (.tmp 6), none⟩, ⟨(some 29), .bin .add (.tmp 28) (.val (.int .i64 1)), none⟩, ⟨(some 6), .mov (.tmp 29), none⟩])
 (.reg [⟨(some 30), .mov (.tmp 7), none⟩, ⟨(some 31), .bin .sub (.tmp 30) (.val (.int .i64 1)), none⟩, ⟨(some 7), .mov (.tmp 31), none⟩])))))
def a59_L1 : AC := .loop a59_B1
theorem a59_L1_step (call : Caller) (again : AC → St → Option (Ex × St)) (s : St) : codeEv call again a59_L1 s = match codeEv call again a59_B1 s with | some (.norm, s1) => again a59_L1 s1 | r => r := rfl
def a59 : AFn := { n := 32, np := 3, res := [], body :=
 (.seq (.reg [⟨(some 8), .mov (.tmp 1), none⟩, ⟨(some 6), .mov (.tmp 8), none⟩])
 (.seq (.reg [⟨(some 9), .mov (.tmp 2), none⟩, ⟨(some 10), .bin .sub (.tmp 9) (.val (.int .i64 1)), none⟩, ⟨(some 7), .mov (.tmp 10), none⟩])
 (.block 0 a59_L1))) }
def h60 : Hints := ⟨[], [], []⟩
def a60_B1 : AC := (.seq (.seq (.reg [⟨(some 101), .mov (.tmp 10), none⟩, ⟨(some 102), .mov (.tmp 2), none⟩, ⟨(some 103), .bin .lss (.tmp 101) (.tmp 102), none⟩])
 (.cond (.tmp 103) .skip (.exit 6)))
 (.seq (.block 7 (.seq (.seq (.dreg [(false, ⟨(some 106), .mov (.tmp 0), none⟩, false), (false, ⟨(some 107), .mov (.tmp 10), none⟩, false), (false, ⟨(some 108), .iaddrL 1 (.tmp 106) (.tmp 107), none⟩, false), (false, ⟨(some 109), .load none (.tmp 108), none⟩, false), (false, ⟨(some 110), .mov (.tmp 0), none⟩, false), (false, ⟨(some 111), .mov (.tmp 10), none⟩, false), (false, ⟨(some 112), .bin .sub (.tmp 111) (.val (.int .i64 1)), none⟩, false), (false, ⟨(some 113), .iaddrL 1 (.tmp 110) (.tmp 112), none⟩, false), (false, ⟨(some 114), .load none (.tmp 113), none⟩, false), (false, ⟨(some 115), .call 41 [(.tmp 109), (.tmp 114)], none⟩, false), (false, ⟨(some 116), .un .not (.tmp 115), none⟩, false)])
 (.cond (.tmp 116) (.exit 6) .skip))
 (.dreg [(false, ⟨(some 117), .mov (.tmp 0), none⟩, false), (false, ⟨(some 118), .mov (.tmp 10), none⟩, false), (false, ⟨(some 119), .mov (.tmp 0), none⟩, false), (false, ⟨(some 120), .mov (.tmp 10), none⟩, false), (false, ⟨(some 121), .bin .sub (.tmp 120) (.val (.int .i64 1)), none⟩, false), (false, ⟨(some 122), .mov (.tmp 0), none⟩, false), (false, ⟨(some 123), .mov (.tmp 10), none⟩, false), (false, ⟨(some 124), .bin .sub (.tmp 123) (.val (.int .i64 1)), none⟩, false), (false, ⟨(some 125), .iaddrL 1 (.tmp 122) (.tmp 124), none⟩, false), (false, ⟨(some 126), .load none (.tmp 125), none⟩, false), (false, ⟨(some 127), .mov (.tmp 0), none⟩, false), (false, ⟨(some 128), .mov (.tmp 10), none⟩, false), (false, ⟨(some 129), .iaddrL 1 (.tmp 127) (.tmp 128), none⟩, false), (false, ⟨(some 130), .load none (.tmp 129), none⟩, false), (false, ⟨(some 131), .iaddrL 1 (.tmp 117) (.tmp 118), none⟩, false), (false, ⟨none, .store 1 (.tmp 131) (.tmp 126), none⟩, false), (false, ⟨(some 132), .iaddrL 1 (.tmp 119) (.tmp 121), none⟩, false), (false, ⟨none, .store 1 (.tmp 132) (.tmp 130), none⟩, false)])))
 (.reg [⟨(some 104), .mov (.tmp 10), none⟩, ⟨(some 105), .bin .add (.tmp 104) (.val (.int .i64 1)), none⟩, ⟨(some 10), .mov (.tmp 105), none⟩])))
def a60_L1 : AC := .loop a60_B1
theorem a60_L1_step (call : Caller) (again : AC → St → Option (Ex × St)) (s : St) : codeEv call again a60_L1 s = match codeEv call again a60_B1 s with | some (.norm, s1) => again a60_L1 s1 | r => r := rfl
def a60_B2 : AC := (.seq (.seq (.reg [⟨(some 64), .mov (.tmp 9), none⟩, ⟨(some 65), .bin .geq (.tmp 64) (.val (.int .i64 1)), none⟩])
 (.cond (.tmp 65) .skip (.exit 4)))
 (.seq (.block 5 (.seq (.seq (.dreg [(false, ⟨(some 68), .mov (.tmp 0), none⟩, false), (false, ⟨(some 69), .mov (.tmp 9), none⟩, false), (false, ⟨(some 70), .iaddrL 1 (.tmp 68) (.tmp 69), none⟩, false), (false, ⟨(some 71), .load none (.tmp 70), none⟩, false), (false, ⟨(some 72), .mov (.tmp 0), none⟩, false), (false, ⟨(some 73), .mov (.tmp 9), none⟩, false), (false, ⟨(some 74), .bin .sub (.tmp 73) (.val (.int .i64 1)), none⟩, false), (false, ⟨(some 75), .iaddrL 1 (.tmp 72) (.tmp 74), none⟩, false), (false, ⟨(some 76), .load none (.tmp 75), none⟩, false), (false, ⟨(some 77), .call 41 [(.tmp 71), (.tmp 76)], none⟩, false), (false, ⟨(some 78), .un .not (.tmp 77), none⟩, false)])
 (.cond (.tmp 78) (.exit 4) .skip))
 (.dreg [(false, ⟨(some 79), .mov (.tmp 0), none⟩, false), (false, ⟨(some 80), .mov (.tmp 9), none⟩, false), (false, ⟨(some 81), .mov (.tmp 0), none⟩, false), (false, ⟨(some 82), .mov (.tmp 9), none⟩, false), (false, ⟨(some 83), .bin .sub (.tmp 82) (.val (.int .i64 1)), none⟩, false), (false, ⟨(some 84), .mov (.tmp 0), none⟩, false), (false, ⟨(some 85), .mov (.tmp 9), none⟩, false), (false, ⟨(some 86), .bin .sub (.tmp 85) (.val (.int .i64 1)), none⟩, false), (false, ⟨(some 87), .iaddrL 1 (.tmp 84) (.tmp 86), none⟩, false), (false, ⟨(some 88), .load none (.tmp 87), none⟩, false), (false, ⟨(some 89), .mov (.tmp 0), none⟩, false), (false, ⟨(some 90), .mov (.tmp 9), none⟩, false), (false, ⟨(some 91), .iaddrL 1 (.tmp 89) (.tmp 90), none⟩, false), (false, ⟨(some 92), .load none (.tmp 91), none⟩, false), (false, ⟨(some 93), .iaddrL 1 (.tmp 79) (.tmp 80), none⟩, false), (false, ⟨none, .store 1 (.tmp 93) (.tmp 88), none⟩, false), (false, ⟨(some 94), .iaddrL 1 (.tmp 81) (.tmp 83), none⟩, false), (false, ⟨none, .store 1 (.tmp 94) (.tmp 92), none⟩, false)])))
 (.reg [⟨(some 66), .mov (.tmp 9), none⟩, ⟨(some 67), .bin .sub (.tmp 66) (.val (.int .i64 1)), none⟩, ⟨(some 9), .mov (.tmp 67), none⟩])))
def a60_L2 : AC := .loop a60_B2
theorem a60_L2_step (call : Caller) (again : AC → St → Option (Ex × St)) (s : St) : codeEv call again a60_L2 s = match codeEv call again a60_B2 s with | some (.norm, s1) => again a60_L2 s1 | r => r := rfl
def a60_B3 : AC := (.seq (.seq (.dreg [(false, ⟨(some 17), .mov (.tmp 7), none⟩, false), (false, ⟨(some 18), .mov (.tmp 2), none⟩, false), (false, ⟨(some 19), .bin .lss (.tmp 17) (.tmp 18), none⟩, false), (false, ⟨(some 20), .mov (.tmp 19), none⟩, false), (false, ⟨(some 21), .mov (.tmp 0), (some (20, true))⟩, false), (false, ⟨(some 22), .mov (.tmp 7), (some (20, true))⟩, false), (false, ⟨(some 23), .iaddrL 1 (.tmp 21) (.tmp 22), (some (20, true))⟩, false), (false, ⟨(some 24), .load none (.tmp 23), (some (20, true))⟩, false), (false, ⟨(some 25), .mov (.tmp 0), (some (20, true))⟩, false), (false, ⟨(some 26), .mov (.tmp 7), (some (20, true))⟩, false), (false, ⟨(some 27), .bin .sub (.tmp 26) (.val (.int .i64 1)), (some (20, true))⟩, false), (false, ⟨(some 28), .iaddrL 1 (.tmp 25) (.tmp 27), (some (20, true))⟩, false), (false, ⟨(some 29), .load none (.tmp 28), (some (20, true))⟩, false), (false, ⟨(some 30), .call 41 [(.tmp 24), (.tmp 29)], (some (20, true))⟩, false), (false, ⟨(some 31), .un .not (.tmp 30), (some (20, true))⟩, false), (false, ⟨(some 32), .pick (.tmp 20) (.tmp 31) (.val (.bool false)), none⟩, false)])
 (.cond (.tmp 32) .skip (.exit 2)))
 (.block 3 (.reg [⟨(some 33), .mov (.tmp 7), none⟩, ⟨(some 34), .bin .add (.tmp 33) (.val (.int .i64 1)), none⟩, ⟨(some 7), .mov (.tmp 34), none⟩])))
def a60_L3 : AC := .loop a60_B3
theorem a60_L3_step (call : Caller) (again : AC → St → Option (Ex × St)) (s : St) : codeEv call again a60_L3 s = match codeEv call again a60_B3 s with | some (.norm, s1) => again a60_L3 s1 | r => r := rfl
def a60_B4 : AC := (.seq (.seq (.reg [⟨(some 13), .mov (.tmp 8), none⟩, ⟨(some 14), .bin .lss (.tmp 13) (.val (.int .i64 5)), none⟩])
 (.cond (.tmp 14) .skip (.exit 0)))
 (.seq (.block 1 (.seq (.block 2 a60_L3)
 (.seq (.seq (.reg [⟨(some 35), .mov (.tmp 7), none⟩, ⟨(some 36), .mov (.tmp 2), none⟩, ⟨(some 37), .bin .eql (.tmp 35) (.tmp 36), none⟩])
 (.cond (.tmp 37) (.seq (.reg [⟨(some 6), .mov (.val (.bool true)), none⟩])
 .ret) .skip))
 (.seq (.seq (.reg [⟨(some 38), .mov (.tmp 2), none⟩, ⟨(some 39), .mov (.tmp 1), none⟩, ⟨(some 40), .bin .sub (.tmp 38) (.tmp 39), none⟩, ⟨(some 41), .bin .lss (.tmp 40) (.val (.int .i64 50)), none⟩])
 (.cond (.tmp 41) (.seq (.reg [⟨(some 6), .mov (.val (.bool false)), none⟩])
 .ret) .skip))
 (.seq (.dreg [(false, ⟨(some 42), .mov (.tmp 0), none⟩, false), (false, ⟨(some 43), .mov (.tmp 7), none⟩, false), (false, ⟨(some 44), .mov (.tmp 0), none⟩, false), (false, ⟨(some 45), .mov (.tmp 7), none⟩, false), (false, ⟨(some 46), .bin .sub (.tmp 45) (.val (.int .i64 1)), none⟩, false), (false, ⟨(some 47), .mov (.tmp 0), none⟩, false), (false, ⟨(some 48), .mov (.tmp 7), none⟩, false), (false, ⟨(some 49), .bin .sub (.tmp 48) (.val (.int .i64 1)), none⟩, false), (false, ⟨(some 50), .iaddrL 1 (.tmp 47) (.tmp 49), none⟩, false), (false, ⟨(some 51), .load none (.tmp 50), none⟩, false), (false, ⟨(some 52), .mov (.tmp 0), none⟩, false), (false, ⟨(some 53), .mov (.tmp 7), none⟩, false), (false, ⟨(some 54), .iaddrL 1 (.tmp 52) (.tmp 53), none⟩, false), (false, ⟨(some 55), .load none (.tmp 54), none⟩, false), (false, ⟨(some 56), .iaddrL 1 (.tmp 42) (.tmp 43), none⟩, false), (false, ⟨none, .store 1 (.tmp 56) (.tmp 51), none⟩, false), (false, ⟨(some 57), .iaddrL 1 (.tmp 44) (.tmp 46), none⟩, false), (false, ⟨none, .store 1 (.tmp 57) (.tmp 55), none⟩, false)])
 (.seq (.seq (.reg [⟨(some 58), .mov (.tmp 7), none⟩, ⟨(some 59), .mov (.tmp 1), none⟩, ⟨(some 60), .bin .sub (.tmp 58) (.tmp 59), none⟩, ⟨(some 61), .bin .geq (.tmp 60) (.val (.int .i64 2)), none⟩])
 (.cond (.tmp 61) (.seq (.reg [⟨(some 62), .mov (.tmp 7), none⟩, ⟨(some 63), .bin .sub (.tmp 62) (.val (.int .i64 1)), none⟩, ⟨(some 9), .mov (.tmp 63), none⟩])
 (.block 4 a60_L2)) .skip))
 (.seq (.reg [⟨(some 95), .mov (.tmp 2), none⟩, ⟨(some 96), .mov (.tmp 7), none⟩, ⟨(some 97), .bin .sub (.tmp 95) (.tmp 96), none⟩, ⟨(some 98), .bin .geq (.tmp 97) (.val (.int .i64 2)), none⟩])
 (.cond (.tmp 98) (.seq (.reg [⟨(some 99), .mov (.tmp 7), none⟩, ⟨(some 100), .bin .add (.tmp 99) (.val (.int .i64 1)), none⟩, ⟨(some 10), .mov (.tmp 100), none⟩])
 (.block 6 a60_L1)) .skip))))))))
 (.reg [⟨(some 15), .mov (.tmp 8), none⟩, ⟨(some 16), .bin .add (.tmp 15) (.val (.int .i64 1)), none⟩, ⟨(some 8), .mov (.tmp 16), none⟩])))
def a60_L4 : AC := .loop a60_B4
theorem a60_L4_step (call : Caller) (again : AC → St → Option (Ex × St)) (s : St) : codeEv call again a60_L4 s = match codeEv call again a60_B4 s with | some (.norm, s1) => again a60_L4 s1 | r => r := rfl
def a60 : AFn := { n := 133, np := 3, res := [.tmp 6], body :=
 (.seq (.reg [⟨(some 6), .mov (.val (.bool false)), none⟩])
 (.seq (.reg [⟨(some 11), .mov (.tmp 1), none⟩, ⟨(some 12), .bin .add (.tmp 11) (.val (.int .i64 1)), none⟩, ⟨(some 7), .mov (.tmp 12), none⟩])
 (.seq (.seq (.reg [⟨(some 8), .mov (.val (.int .i64 0)), none⟩])
 (.block 0 a60_L4))
 (.seq (.reg [⟨(some 6), .mov (.val (.bool false)), none⟩])
 .ret)))) }
def h61 : Hints := ⟨[], [], []⟩
def a61_B1 : AC := (.seq (.seq (.dreg [(false, ⟨(some 46), .mov (.tmp 9), none⟩, false), (false, ⟨(some 47), .mov (.tmp 10), none⟩, false), (false, ⟨(some 48), .bin .leq (.tmp 46) (.tmp 47), none⟩, false), (false, ⟨(some 49), .mov (.tmp 48), none⟩, false), (false, ⟨(some 50), .mov (.tmp 0), (some (49, true))⟩, false), (false, ⟨(some 51), .mov (.tmp 1), (some (49, true))⟩, false), (false, ⟨(some 52), .iaddrL 1 (.tmp 50) (.tmp 51), (some (49, true))⟩, false), (false, ⟨(some 53), .load none (.tmp 52), (some (49, true))⟩, false), (false, ⟨(some 54), .mov (.tmp 0), (some (49, true))⟩, false), (false, ⟨(some 55), .mov (.tmp 10), (some (49, true))⟩, false), (false, ⟨(some 56), .iaddrL 1 (.tmp 54) (.tmp 55), (some (49, true))⟩, false), (false, ⟨(some 57), .load none (.tmp 56), (some (49, true))⟩, false), (false, ⟨(some 58), .call 41 [(.tmp 53), (.tmp 57)], (some (49, true))⟩, false), (false, ⟨(some 59), .pick (.tmp 49) (.tmp 58) (.val (.bool false)), none⟩, false)])
 (.cond (.tmp 59) .skip (.exit 4)))
 (.block 5 (.reg [⟨(some 60), .mov (.tmp 10), none⟩, ⟨(some 61), .bin .sub (.tmp 60) (.val (.int .i64 1)), none⟩, ⟨(some 10), .mov (.tmp 61), none⟩])))
def a61_L1 : AC := .loop a61_B1
theorem a61_L1_step (call : Caller) (again : AC → St → Option (Ex × St)) (s : St) : codeEv call again a61_L1 s = match codeEv call again a61_B1 s with | some (.norm, s1) => again a61_L1 s1 | r => r := rfl
def a61_B2 : AC := (.seq (.seq (.dreg [(false, ⟨(some 29), .mov (.tmp 9), none⟩, false), (false, ⟨(some 30), .mov (.tmp 10), none⟩, false), (false, ⟨(some 31), .bin .leq (.tmp 29) (.tmp 30), none⟩, false), (false, ⟨(some 32), .mov (.tmp 31), none⟩, false), (false, ⟨(some 33), .mov (.tmp 0), (some (32, true))⟩, false), (false, ⟨(some 34), .mov (.tmp 1), (some (32, true))⟩, false), (false, ⟨(some 35), .iaddrL 1 (.tmp 33) (.tmp 34), (some (32, true))⟩, false), (false, ⟨(some 36), .load none (.tmp 35), (some (32, true))⟩, false), (false, ⟨(some 37), .mov (.tmp 0), (some (32, true))⟩, false), (false, ⟨(some 38), .mov (.tmp 9), (some (32, true))⟩, false), (false, ⟨(some 39), .iaddrL 1 (.tmp 37) (.tmp 38), (some (32, true))⟩, false), (false, ⟨(some 40), .load none (.tmp 39), (some (32, true))⟩, false), (false, ⟨(some 41), .call 41 [(.tmp 36), (.tmp 40)], (some (32, true))⟩, false), (false, ⟨(some 42), .un .not (.tmp 41), (some (32, true))⟩, false), (false, ⟨(some 43), .pick (.tmp 32) (.tmp 42) (.val (.bool false)), none⟩, false)])
 (.cond (.tmp 43) .skip (.exit 2)))
 (.block 3 (.reg [⟨(some 44), .mov (.tmp 9), none⟩, ⟨(some 45), .bin .add (.tmp 44) (.val (.int .i64 1)), none⟩, ⟨(some 9), .mov (.tmp 45), none⟩])))
def a61_L2 : AC := .loop a61_B2
theorem a61_L2_step (call : Caller) (again : AC → St → Option (Ex × St)) (s : St) : codeEv call again a61_L2 s = match codeEv call again a61_B2 s with | some (.norm, s1) => again a61_L2 s1 | r => r := rfl
def a61_B3 : AC := (.block 1 (.seq (.block 2 a61_L2)
 (.seq (.block 4 a61_L1)
 (.seq (.seq (.reg [⟨(some 62), .mov (.tmp 9), none⟩, ⟨(some 63), .mov (.tmp 10), none⟩, ⟨(some 64), .bin .gtr (.tmp 62) (.tmp 63), none⟩])
 (.cond (.tmp 64) (.exit 0) .skip))
 (.seq (.dreg [(false, ⟨(some 65), .mov (.tmp 0), none⟩, false), (false, ⟨(some 66), .mov (.tmp 9), none⟩, false), (false, ⟨(some 67), .mov (.tmp 0), none⟩, false), (false, ⟨(some 68), .mov (.tmp 10), none⟩, false), (false, ⟨(some 69), .mov (.tmp 0), none⟩, false), (false, ⟨(some 70), .mov (.tmp 10), none⟩, false), (false, ⟨(some 71), .iaddrL 1 (.tmp 69) (.tmp 70), none⟩, false), (false, ⟨(some 72), .load none (.tmp 71), none⟩, false), (false, ⟨(some 73), .mov (.tmp 0), none⟩, false), (false, ⟨(some 74), .mov (.tmp 9), none⟩, false), (false, ⟨(some 75), .iaddrL 1 (.tmp 73) (.tmp 74), none⟩, false), (false, ⟨(some 76), .load none (.tmp 75), none⟩, false), (false, ⟨(some 77), .iaddrL 1 (.tmp 65) (.tmp 66), none⟩, false), (false, ⟨none, .store 1 (.tmp 77) (.tmp 72), none⟩, false), (false, ⟨(some 78), .iaddrL 1 (.tmp 67) (.tmp 68), none⟩, false), (false, ⟨none, .store 1 (.tmp 78) (.tmp 76), none⟩, false)])
 (.seq (.reg [⟨(some 79), .mov (.tmp 9), none⟩, ⟨(some 80), .bin .add (.tmp 79) (.val (.int .i64 1)), none⟩, ⟨(some 9), .mov (.tmp 80), none⟩])
 (.reg [⟨(some 81), .mov (.tmp 10), none⟩, ⟨(some 82), .bin .sub (.tmp 81) (.val (.int .i64 1)), none⟩, ⟨(some 10), .mov (.tmp 82), none⟩])))))))
def a61_L3 : AC := .loop a61_B3
theorem a61_L3_step (call : Caller) (again : AC → St → Option (Ex × St)) (s : St) : codeEv call again a61_L3 s = match codeEv call again a61_B3 s with | some (.norm, s1) => again a61_L3 s1 | r => r := rfl
def a61 : AFn := { n := 84, np := 4, res := [.tmp 8], body :=
 (.seq (.reg [⟨(some 8), .mov (.val (.int .i64 0)), none⟩])
 (.seq (.dreg [(false, ⟨(some 11), .mov (.tmp 0), none⟩, false), (false, ⟨(some 12), .mov (.tmp 1), none⟩, false), (false, ⟨(some 13), .mov (.tmp 0), none⟩, false), (false, ⟨(some 14), .mov (.tmp 3), none⟩, false), (false, ⟨(some 15), .mov (.tmp 0), none⟩, false), (false, ⟨(some 16), .mov (.tmp 3), none⟩, false), (false, ⟨(some 17), .iaddrL 1 (.tmp 15) (.tmp 16), none⟩, false), (false, ⟨(some 18), .load none (.tmp 17), none⟩, false), (false, ⟨(some 19), .mov (.tmp 0), none⟩, false), (false, ⟨(some 20), .mov (.tmp 1), none⟩, false), (false, ⟨(some 21), .iaddrL 1 (.tmp 19) (.tmp 20), none⟩, false), (false, ⟨(some 22), .load none (.tmp 21), none⟩, false), (false, ⟨(some 23), .iaddrL 1 (.tmp 11) (.tmp 12), none⟩, false), (false, ⟨none, .store 1 (.tmp 23) (.tmp 18), none⟩, false), (false, ⟨(some 24), .iaddrL 1 (.tmp 13) (.tmp 14), none⟩, false), (false, ⟨none, .store 1 (.tmp 24) (.tmp 22), none⟩, false)])
 (.seq (.reg [⟨(some 25), .mov (.tmp 1), none⟩, ⟨(some 26), .bin .add (.tmp 25) (.val (.int .i64 1)), none⟩, ⟨(some 27), .mov (.tmp 2), none⟩, ⟨(some 28), .bin .sub (.tmp 27) (.val (.int .i64 1)), none⟩, ⟨(some 9), .mov (.tmp 26), none⟩, ⟨(some 10), .mov (.tmp 28), none⟩])
 (.seq (.block 0 a61_L3)
 (.seq (.reg [⟨(some 83), .mov (.tmp 9), none⟩, ⟨(some 8), .mov (.tmp 83), none⟩])
 .ret))))) }
def h62 : Hints := ⟨[], [], []⟩
def a62_B1 : AC := (.seq (.seq (.dreg [(false, ⟨(some 115), .mov (.tmp 10), none⟩, false), (false, ⟨(some 116), .mov (.tmp 11), none⟩, false), (false, ⟨(some 117), .bin .leq (.tmp 115) (.tmp 116), none⟩, false), (false, ⟨(some 118), .mov (.tmp 117), none⟩, false), (false, ⟨(some 119), .mov (.tmp 0), (some (118, true))⟩, false), (false, ⟨(some 120), .mov (.tmp 11), (some (118, true))⟩, false), (false, ⟨(some 121), .iaddrL 1 (.tmp 119) (.tmp 120), (some (118, true))⟩, false), (false, ⟨(some 122), .load none (.tmp 121), (some (118, true))⟩, false), (false, ⟨(some 123), .mov (.tmp 0), (some (118, true))⟩, false), (false, ⟨(some 124), .mov (.tmp 1), (some (118, true))⟩, false), (false, ⟨(some 125), .iaddrL 1 (.tmp 123) (.tmp 124), (some (118, true))⟩, false), (false, ⟨(some 126), .load none (.tmp 125), (some (118, true))⟩, false), (false, ⟨(some 127), .call 41 [(.tmp 122), (.tmp 126)], (some (118, true))⟩, false), (false, ⟨(some 128), .un .not (.tmp 127), (some (118, true))⟩, false), (false, ⟨(some 129), .pick (.tmp 118) (.tmp 128) (.val (.bool false)), none⟩, false)])
 (.cond (.tmp 129) .skip (.exit 8)))
 (.block 9 (.reg [⟨(some 130), .mov (.tmp 11), none⟩, ⟨(some 131), .bin .sub (.tmp 130) (.val (.int .i64 1)), none⟩, ⟨(some 11), .mov (.tmp 131), none⟩])))
def a62_L1 : AC := .loop a62_B1
theorem a62_L1_step (call : Caller) (again : AC → St → Option (Ex × St)) (s : St) : codeEv call again a62_L1 s = match codeEv call again a62_B1 s with | some (.norm, s1) => again a62_L1 s1 | r => r := rfl
def a62_B2 : AC := (.seq (.seq (.dreg [(false, ⟨(some 99), .mov (.tmp 10), none⟩, false), (false, ⟨(some 100), .mov (.tmp 11), none⟩, false), (false, ⟨(some 101), .bin .leq (.tmp 99) (.tmp 100), none⟩, false), (false, ⟨(some 102), .mov (.tmp 101), none⟩, false), (false, ⟨(some 103), .mov (.tmp 0), (some (102, true))⟩, false), (false, ⟨(some 104), .mov (.tmp 10), (some (102, true))⟩, false), (false, ⟨(some 105), .iaddrL 1 (.tmp 103) (.tmp 104), (some (102, true))⟩, false), (false, ⟨(some 106), .load none (.tmp 105), (some (102, true))⟩, false), (false, ⟨(some 107), .mov (.tmp 0), (some (102, true))⟩, false), (false, ⟨(some 108), .mov (.tmp 1), (some (102, true))⟩, false), (false, ⟨(some 109), .iaddrL 1 (.tmp 107) (.tmp 108), (some (102, true))⟩, false), (false, ⟨(some 110), .load none (.tmp 109), (some (102, true))⟩, false), (false, ⟨(some 111), .call 41 [(.tmp 106), (.tmp 110)], (some (102, true))⟩, false), (false, ⟨(some 112), .pick (.tmp 102) (.tmp 111) (.val (.bool false)), none⟩, false)])
 (.cond (.tmp 112) .skip (.exit 6)))
 (.block 7 (.reg [⟨(some 113), .mov (.tmp 10), none⟩, ⟨(some 114), .bin .add (.tmp 113) (.val (.int .i64 1)), none⟩, ⟨(some 10), .mov (.tmp 114), none⟩])))
def a62_L2 : AC := .loop a62_B2
theorem a62_L2_step (call : Caller) (again : AC → St → Option (Ex × St)) (s : St) : codeEv call again a62_L2 s = match codeEv call again a62_B2 s with | some (.norm, s1) => again a62_L2 s1 | r => r := rfl
def a62_B3 : AC := (.block 5 (.seq (.block 6 a62_L2)
 (.seq (.block 8 a62_L1)
 (.seq (.seq (.reg [⟨(some 132), .mov (.tmp 10), none⟩, ⟨(some 133), .mov (.tmp 11), none⟩, ⟨(some 134), .bin .gtr (.tmp 132) (.tmp 133), none⟩])
 (.cond (.tmp 134) (.exit 4) .skip))
 (.seq (.dreg [(false, ⟨(some 135), .mov (.tmp 0), none⟩, false), (false, ⟨(some 136), .mov (.tmp 10), none⟩, false), (false, ⟨(some 137), .mov (.tmp 0), none⟩, false), (false, ⟨(some 138), .mov (.tmp 11), none⟩, false), (false, ⟨(some 139), .mov (.tmp 0), none⟩, false), (false, ⟨(some 140), .mov (.tmp 11), none⟩, false), (false, ⟨(some 141), .iaddrL 1 (.tmp 139) (.tmp 140), none⟩, false), (false, ⟨(some 142), .load none (.tmp 141), none⟩, false), (false, ⟨(some 143), .mov (.tmp 0), none⟩, false), (false, ⟨(some 144), .mov (.tmp 10), none⟩, false), (false, ⟨(some 145), .iaddrL 1 (.tmp 143) (.tmp 144), none⟩, false), (false, ⟨(some 146), .load none (.tmp 145), none⟩, false), (false, ⟨(some 147), .iaddrL 1 (.tmp 135) (.tmp 136), none⟩, false), (false, ⟨none, .store 1 (.tmp 147) (.tmp 142), none⟩, false), (false, ⟨(some 148), .iaddrL 1 (.tmp 137) (.tmp 138), none⟩, false), (false, ⟨none, .store 1 (.tmp 148) (.tmp 146), none⟩, false)])
 (.seq (.reg [⟨(some 149), .mov (.tmp 10), none⟩, ⟨(some 150), .bin .add (.tmp 149) (.val (.int .i64 1)), none⟩, ⟨(some 10), .mov (.tmp 150), none⟩])
 (.reg [⟨(some 151), .mov (.tmp 11), none⟩, ⟨(some 152), .bin .sub (.tmp 151) (.val (.int .i64 1)), none⟩, ⟨(some 11), .mov (.tmp 152), none⟩])))))))
def a62_L3 : AC := .loop a62_B3
theorem a62_L3_step (call : Caller) (again : AC → St → Option (Ex × St)) (s : St) : codeEv call again a62_L3 s = match codeEv call again a62_B3 s with | some (.norm, s1) => again a62_L3 s1 | r => r := rfl
def a62_B4 : AC := (.seq (.seq (.dreg [(false, ⟨(some 46), .mov (.tmp 10), none⟩, false), (false, ⟨(some 47), .mov (.tmp 11), none⟩, false), (false, ⟨(some 48), .bin .leq (.tmp 46) (.tmp 47), none⟩, false), (false, ⟨(some 49), .mov (.tmp 48), none⟩, false), (false, ⟨(some 50), .mov (.tmp 0), (some (49, true))⟩, false), (false, ⟨(some 51), .mov (.tmp 11), (some (49, true))⟩, false), (false, ⟨(some 52), .iaddrL 1 (.tmp 50) (.tmp 51), (some (49, true))⟩, false), (false, ⟨(some 53), .load none (.tmp 52), (some (49, true))⟩, false), (false, ⟨(some 54), .mov (.tmp 0), (some (49, true))⟩, false), (false, ⟨(some 55), .mov (.tmp 1), (some (49, true))⟩, false), (false, ⟨(some 56), .iaddrL 1 (.tmp 54) (.tmp 55), (some (49, true))⟩, false), (false, ⟨(some 57), .load none (.tmp 56), (some (49, true))⟩, false), (false, ⟨(some 58), .call 41 [(.tmp 53), (.tmp 57)], (some (49, true))⟩, false), (false, ⟨(some 59), .un .not (.tmp 58), (some (49, true))⟩, false), (false, ⟨(some 60), .pick (.tmp 49) (.tmp 59) (.val (.bool false)), none⟩, false)])
 (.cond (.tmp 60) .skip (.exit 2)))
 (.block 3 (.reg [⟨(some 61), .mov (.tmp 11), none⟩, ⟨(some 62), .bin .sub (.tmp 61) (.val (.int .i64 1)), none⟩, ⟨(some 11), .mov (.tmp 62), none⟩])))
def a62_L4 : AC := .loop a62_B4
theorem a62_L4_step (call : Caller) (again : AC → St → Option (Ex × St)) (s : St) : codeEv call again a62_L4 s = match codeEv call again a62_B4 s with | some (.norm, s1) => again a62_L4 s1 | r => r := rfl
def a62_B5 : AC := (.seq (.seq (.dreg [(false, ⟨(some 30), .mov (.tmp 10), none⟩, false), (false, ⟨(some 31), .mov (.tmp 11), none⟩, false), (false, ⟨(some 32), .bin .leq (.tmp 30) (.tmp 31), none⟩, false), (false, ⟨(some 33), .mov (.tmp 32), none⟩, false), (false, ⟨(some 34), .mov (.tmp 0), (some (33, true))⟩, false), (false, ⟨(some 35), .mov (.tmp 10), (some (33, true))⟩, false), (false, ⟨(some 36), .iaddrL 1 (.tmp 34) (.tmp 35), (some (33, true))⟩, false), (false, ⟨(some 37), .load none (.tmp 36), (some (33, true))⟩, false), (false, ⟨(some 38), .mov (.tmp 0), (some (33, true))⟩, false), (false, ⟨(some 39), .mov (.tmp 1), (some (33, true))⟩, false), (false, ⟨(some 40), .iaddrL 1 (.tmp 38) (.tmp 39), (some (33, true))⟩, false), (false, ⟨(some 41), .load none (.tmp 40), (some (33, true))⟩, false), (false, ⟨(some 42), .call 41 [(.tmp 37), (.tmp 41)], (some (33, true))⟩, false), (false, ⟨(some 43), .pick (.tmp 33) (.tmp 42) (.val (.bool false)), none⟩, false)])
 (.cond (.tmp 43) .skip (.exit 0)))
 (.block 1 (.reg [⟨(some 44), .mov (.tmp 10), none⟩, ⟨(some 45), .bin .add (.tmp 44) (.val (.int .i64 1)), none⟩, ⟨(some 10), .mov (.tmp 45), none⟩])))
def a62_L5 : AC := .loop a62_B5
theorem a62_L5_step (call : Caller) (again : AC → St → Option (Ex × St)) (s : St) : codeEv call again a62_L5 s = match codeEv call again a62_B5 s with | some (.norm, s1) => again a62_L5 s1 | r => r := rfl
def a62 : AFn := { n := 168, np := 4, res := [.tmp 8, .tmp 9], body :=
 (.seq (.reg [⟨(some 8), .mov (.val (.int .i64 0)), none⟩, ⟨(some 9), .mov (.val (.bool false)), none⟩])
 (.seq (.dreg [(false, ⟨(some 12), .mov (.tmp 0), none⟩, false), (false, ⟨(some 13), .mov (.tmp 1), none⟩, false), (false, ⟨(some 14), .mov (.tmp 0), none⟩, false), (false, ⟨(some 15), .mov (.tmp 3), none⟩, false), (false, ⟨(some 16), .mov (.tmp 0), none⟩, false), (false, ⟨(some 17), .mov (.tmp 3), none⟩, false), (false, ⟨(some 18), .iaddrL 1 (.tmp 16) (.tmp 17), none⟩, false), (false, ⟨(some 19), .load none (.tmp 18), none⟩, false), (false, ⟨(some 20), .mov (.tmp 0), none⟩, false), (false, ⟨(some 21), .mov (.tmp 1), none⟩, false), (false, ⟨(some 22), .iaddrL 1 (.tmp 20) (.tmp 21), none⟩, false), (false, ⟨(some 23), .load none (.tmp 22), none⟩, false), (false, ⟨(some 24), .iaddrL 1 (.tmp 12) (.tmp 13), none⟩, false), (false, ⟨none, .store 1 (.tmp 24) (.tmp 19), none⟩, false), (false, ⟨(some 25), .iaddrL 1 (.tmp 14) (.tmp 15), none⟩, false), (false, ⟨none, .store 1 (.tmp 25) (.tmp 23), none⟩, false)])
 (.seq (.reg [⟨(some 26), .mov (.tmp 1), none⟩, ⟨(some 27), .bin .add (.tmp 26) (.val (.int .i64 1)), none⟩, ⟨(some 28), .mov (.tmp 2), none⟩, ⟨(some 29), .bin .sub (.tmp 28) (.val (.int .i64 1)), none⟩, ⟨(some 10), .mov (.tmp 27), none⟩, ⟨(some 11), .mov (.tmp 29), none⟩])
 (.seq (.block 0 a62_L5)
 (.seq (.block 2 a62_L4)
 (.seq (.seq (.reg [⟨(some 63), .mov (.tmp 10), none⟩, ⟨(some 64), .mov (.tmp 11), none⟩, ⟨(some 65), .bin .gtr (.tmp 63) (.tmp 64), none⟩])
 (.cond (.tmp 65) (.seq (.dreg [(false, ⟨(some 66), .mov (.tmp 0), none⟩, false), (false, ⟨(some 67), .mov (.tmp 11), none⟩, false), (false, ⟨(some 68), .mov (.tmp 0), none⟩, false), (false, ⟨(some 69), .mov (.tmp 1), none⟩, false), (false, ⟨(some 70), .mov (.tmp 0), none⟩, false), (false, ⟨(some 71), .mov (.tmp 1), none⟩, false), (false, ⟨(some 72), .iaddrL 1 (.tmp 70) (.tmp 71), none⟩, false), (false, ⟨(some 73), .load none (.tmp 72), none⟩, false), (false, ⟨(some 74), .mov (.tmp 0), none⟩, false), (false, ⟨(some 75), .mov (.tmp 11), none⟩, false), (false, ⟨(some 76), .iaddrL 1 (.tmp 74) (.tmp 75), none⟩, false), (false, ⟨(some 77), .load none (.tmp 76), none⟩, false), (false, ⟨(some 78), .iaddrL 1 (.tmp 66) (.tmp 67), none⟩, false), (false, ⟨none, .store 1 (.tmp 78) (.tmp 73), none⟩, false), (false, ⟨(some 79), .iaddrL 1 (.tmp 68) (.tmp 69), none⟩, false), (false, ⟨none, .store 1 (.tmp 79) (.tmp 77), none⟩, false)])
 (.seq (.reg [⟨(some 80), .mov (.tmp 11), none⟩, ⟨(some 8), .mov (.tmp 80), none⟩, ⟨(some 9), .mov (.val (.bool true)), none⟩])
 .ret)) .skip))
 (.seq (.dreg [(false, ⟨(some 81), .mov (.tmp 0), none⟩, false), (false, ⟨(some 82), .mov (.tmp 10), none⟩, false), (false, ⟨(some 83), .mov (.tmp 0), none⟩, false), (false, ⟨(some 84), .mov (.tmp 11), none⟩, false), (false, ⟨(some 85), .mov (.tmp 0), none⟩, false), (false, ⟨(some 86), .mov (.tmp 11), none⟩, false), (false, ⟨(some 87), .iaddrL 1 (.tmp 85) (.tmp 86), none⟩, false), (false, ⟨(some 88), .load none (.tmp 87), none⟩, false), (false, ⟨(some 89), .mov (.tmp 0), none⟩, false), (false, ⟨(some 90), .mov (.tmp 10), none⟩, false), (false, ⟨(some 91), .iaddrL 1 (.tmp 89) (.tmp 90), none⟩, false), (false, ⟨(some 92), .load none (.tmp 91), none⟩, false), (false, ⟨(some 93), .iaddrL 1 (.tmp 81) (.tmp 82), none⟩, false), (false, ⟨none, .store 1 (.tmp 93) (.tmp 88), none⟩, false), (false, ⟨(some 94), .iaddrL 1 (.tmp 83) (.tmp 84), none⟩, false), (false, ⟨none, .store 1 (.tmp 94) (.tmp 92), none⟩, false)])
 (.seq (.reg [⟨(some 95), .mov (.tmp 10), none⟩, ⟨(some 96), .bin .add (.tmp 95) (.val (.int .i64 1)), none⟩, ⟨(some 10), .mov (.tmp 96), none⟩])
 (.seq (.reg [⟨(some 97), .mov (.tmp 11), none⟩, ⟨(some 98), .bin .sub (.tmp 97) (.val (.int .i64 1)), none⟩, ⟨(some 11), .mov (.tmp 98), none⟩])
 (.seq (.block 4 a62_L3)
 (.seq (.dreg [(false, ⟨(some 153), .mov (.tmp 0), none⟩, false), (false, ⟨(some 154), .mov (.tmp 11), none⟩, false), (false, ⟨(some 155), .mov (.tmp 0), none⟩, false), (false, ⟨(some 156), .mov (.tmp 1), none⟩, false), (false, ⟨(some 157), .mov (.tmp 0), none⟩, false), (false, ⟨(some 158), .mov (.tmp 1), none⟩, false), (false, ⟨(some 159), .iaddrL 1 (.tmp 157) (.tmp 158), none⟩, false), (false, ⟨(some 160), .load none (.tmp 159), none⟩, false), (false, ⟨(some 161), .mov (.tmp 0), none⟩, false), (false, ⟨(some 162), .mov (.tmp 11), none⟩, false), (false, ⟨(some 163), .iaddrL 1 (.tmp 161) (.tmp 162), none⟩, false), (false, ⟨(some 164), .load none (.tmp 163), none⟩, false), (false, ⟨(some 165), .iaddrL 1 (.tmp 153) (.tmp 154), none⟩, false), (false, ⟨none, .store 1 (.tmp 165) (.tmp 160), none⟩, false), (false, ⟨(some 166), .iaddrL 1 (.tmp 155) (.tmp 156), none⟩, false), (false, ⟨none, .store 1 (.tmp 166) (.tmp 164), none⟩, false)])
 (.seq (.reg [⟨(some 167), .mov (.tmp 11), none⟩, ⟨(some 8), .mov (.tmp 167), none⟩, ⟨(some 9), .mov (.val (.bool false)), none⟩])
 .ret)))))))))))) }
def h63 : Hints := ⟨[], [], []⟩
def a63 : AFn := { n := 19, np := 1, res := [.tmp 2], body :=
 (.seq (.reg [⟨(some 2), .mov (.val (.int .i64 0)), none⟩])
 (.seq (.seq (.reg [⟨(some 3), .mov (.tmp 0), none⟩, ⟨(some 4), .bin .geq (.tmp 3) (.val (.int .u32 65536)), none⟩])
 (.cond (.tmp 4) (.seq (.reg [⟨(some 5), .mov (.tmp 0), none⟩, ⟨(some 6), .bin .shr (.tmp 5) (.val (.int .u64 16)), none⟩, ⟨(some 0), .mov (.tmp 6), none⟩])
 (.reg [⟨(some 2), .mov (.val (.int .i64 16)), none⟩])) .skip))
 (.seq (.seq (.reg [⟨(some 7), .mov (.tmp 0), none⟩, ⟨(some 8), .bin .geq (.tmp 7) (.val (.int .u32 256)), none⟩])
 (.cond (.tmp 8) (.seq (.reg [⟨(some 9), .mov (.tmp 0), none⟩, ⟨(some 10), .bin .shr (.tmp 9) (.val (.int .u64 8)), none⟩, ⟨(some 0), .mov (.tmp 10), none⟩])
 (.reg [⟨(some 11), .mov (.tmp 2), none⟩, ⟨(some 12), .bin .add (.tmp 11) (.val (.int .i64 8)), none⟩, ⟨(some 2), .mov (.tmp 12), none⟩])) .skip))
 (.seq (.reg [⟨(some 13), .mov (.tmp 2), none⟩, ⟨(some 14), .mov (.tmp 0), none⟩, ⟨(some 15), .conv .u8 (.tmp 14), none⟩, ⟨(some 16), .idxS (.val (.str ⟨#[0, 1, 2, 2, 3, 3, 3, 3, 4, 4, 4, 4, 4, 4, 4, 4, 5, 5, 5, 5, 5, 5, 5, 5, 5, 5, 5, 5, 5, 5, 5, 5, 6, 6, 6, 6, 6, 6, 6, 6, 6, 6, 6, 6, 6, 6, 6, 6, 6, 6, 6, 6, 6, 6, 6, 6, 6, 6, 6, 6, 6, 6, 6, 6, 7, 7, 7, 7, 7, 7, 7, 7, 7, 7, 7, 7, 7, 7, 7, 7, 7, 7, 7, 7, 7, 7, 7, 7, 7, 7, 7, 7, 7, 7, 7, 7, 7, 7, 7, 7, 7, 7, 7, 7, 7, 7, 7, 7, 7, 7, 7, 7, 7, 7, 7, 7, 7, 7, 7, 7, 7, 7, 7, 7, 7, 7, 7, 7, 8, 8, 8, 8, 8, 8, 8, 8, 8, 8, 8, 8, 8, 8, 8, 8, 8, 8, 8, 8, 8, 8, 8, 8, 8, 8, 8, 8, 8, 8, 8, 8, 8, 8, 8, 8, 8, 8, 8, 8, 8, 8, 8, 8, 8, 8, 8, 8, 8, 8, 8, 8, 8, 8, 8, 8, 8, 8, 8, 8, 8, 8, 8, 8, 8, 8, 8, 8, 8, 8, 8, 8, 8, 8, 8, 8, 8, 8, 8, 8, 8, 8, 8, 8, 8, 8, 8, 8, 8, 8, 8, 8, 8, 8, 8, 8, 8, 8, 8, 8, 8, 8, 8, 8, 8, 8, 8, 8, 8, 8, 8, 8, 8, 8, 8, 8, 8, 8, 8, 8, 8, 8, 8, 8, 8, 8, 8, 8]⟩)) (.tmp 15), none⟩, ⟨(some 17), .conv .i64 (.tmp 16), none⟩, ⟨(some 18), .bin .add (.tmp 13) (.tmp 17), none⟩, ⟨(some 2), .mov (.tmp 18), none⟩])
 .ret)))) }
def h64 : Hints := ⟨[], [], []⟩
def a64 : AFn := { n := 25, np := 1, res := [.tmp 2], body :=
 (.seq (.reg [⟨(some 2), .mov (.val (.int .i64 0)), none⟩])
 (.seq (.seq (.reg [⟨(some 3), .mov (.tmp 0), none⟩, ⟨(some 4), .bin .geq (.tmp 3) (.val (.int .u64 4294967296)), none⟩])
 (.cond (.tmp 4) (.seq (.reg [⟨(some 5), .mov (.tmp 0), none⟩, ⟨(some 6), .bin .shr (.tmp 5) (.val (.int .u64 32)), none⟩, ⟨(some 0), .mov (.tmp 6), none⟩])
 (.reg [⟨(some 2), .mov (.val (.int .i64 32)), none⟩])) .skip))
 (.seq (.seq (.reg [⟨(some 7), .mov (.tmp 0), none⟩, ⟨(some 8), .bin .geq (.tmp 7) (.val (.int .u64 65536)), none⟩])
 (.cond (.tmp 8) (.seq (.reg [⟨(some 9), .mov (.tmp 0), none⟩, ⟨(some 10), .bin .shr (.tmp 9) (.val (.int .u64 16)), none⟩, ⟨(some 0), .mov (.tmp 10), none⟩])
 (.reg [⟨(some 11), .mov (.tmp 2), none⟩, ⟨(some 12), .bin .add (.tmp 11) (.val (.int .i64 16)), none⟩, ⟨(some 2), .mov (.tmp 12), none⟩])) .skip))
 (.seq (.seq (.reg [⟨(some 13), .mov (.tmp 0), none⟩, ⟨(some 14), .bin .geq (.tmp 13) (.val (.int .u64 256)), none⟩])
 (.cond (.tmp 14) (.seq (.reg [⟨(some 15), .mov (.tmp 0), none⟩, ⟨(some 16), .bin .shr (.tmp 15) (.val (.int .u64 8)), none⟩, ⟨(some 0), .mov (.tmp 16), none⟩])
 (.reg [⟨(some 17), .mov (.tmp 2), none⟩, ⟨(some 18), .bin .add (.tmp 17) (.val (.int .i64 8)), none⟩, ⟨(some 2), .mov (.tmp 18), none⟩])) .skip))
 (.seq (.reg [⟨(some 19), .mov (.tmp 2), none⟩, ⟨(some 20), .mov (.tmp 0), none⟩, ⟨(some 21), .conv .u8 (.tmp 20), none⟩, ⟨(some 22), .idxS (.val (.str ⟨#[0, 1, 2, 2, 3, 3, 3, 3, 4, 4, 4, 4, 4, 4, 4, 4, 5, 5, 5, 5, 5, 5, 5, 5, 5, 5, 5, 5, 5, 5, 5, 5, 6, 6, 6, 6, 6, 6, 6, 6, 6, 6, 6, 6, 6, 6, 6, 6, 6, 6, 6, 6, 6, 6, 6, 6, 6, 6, 6, 6, 6, 6, 6, 6, 7, 7, 7, 7, 7, 7, 7, 7, 7, 7, 7, 7, 7, 7, 7, 7, 7, 7, 7, 7, 7, 7, 7, 7, 7, 7, 7, 7, 7, 7, 7, 7, 7, 7, 7, 7, 7, 7, 7, 7, 7, 7, 7, 7, 7, 7, 7, 7, 7, 7, 7, 7, 7, 7, 7, 7, 7, 7, 7, 7, 7, 7, 7, 7, 8, 8, 8, 8, 8, 8, 8, 8, 8, 8, 8, 8, 8, 8, 8, 8, 8, 8, 8, 8, 8, 8, 8, 8, 8, 8, 8, 8, 8, 8, 8, 8, 8, 8, 8, 8, 8, 8, 8, 8, 8, 8, 8, 8, 8, 8, 8, 8, 8, 8, 8, 8, 8, 8, 8, 8, 8, 8, 8, 8, 8, 8, 8, 8, 8, 8, 8, 8, 8, 8, 8, 8, 8, 8, 8, 8, 8, 8, 8, 8, 8, 8, 8, 8, 8, 8, 8, 8, 8, 8, 8, 8, 8, 8, 8, 8, 8, 8, 8, 8, 8, 8, 8, 8, 8, 8, 8, 8, 8, 8, 8, 8, 8, 8, 8, 8, 8, 8, 8, 8, 8, 8, 8, 8, 8, 8, 8, 8]⟩)) (.tmp 21), none⟩, ⟨(some 23), .conv .i64 (.tmp 22), none⟩, ⟨(some 24), .bin .add (.tmp 19) (.tmp 23), none⟩, ⟨(some 2), .mov (.tmp 24), none⟩])
 .ret))))) }
def h65 : Hints := ⟨[], [], []⟩
def a65_B1 : AC := (.seq (.seq (.reg [⟨(some 7), .mov (.tmp 3), none⟩, ⟨(some 8), .bin .geq (.tmp 7) (.val (.int .i64 0)), none⟩])
 (.cond (.tmp 8) .skip (.exit 0)))
 (.seq (.block 1 (.seq (.reg [⟨(some 11), .mov (.tmp 0), none⟩, ⟨(some 12), .mov (.tmp 3), none⟩, ⟨(some 13), .load none (.tmp 1), none⟩, ⟨(some 14), .mov (.tmp 3), none⟩, ⟨(some 15), .iaddrL 1 (.tmp 13) (.tmp 14), none⟩, ⟨(some 16), .load none (.tmp 15), none⟩, ⟨(some 17), .callv (.tmp 11) [(.tmp 12), (.tmp 16)], none⟩, ⟨(some 18), .un .not (.tmp 17), none⟩])
 (.cond (.tmp 18) .ret .skip)))
 (.reg [⟨(some 9), .mov (.tmp 3), none⟩, ⟨(some 10), .bin .sub (.tmp 9) (.val (.int .i64 1)), none⟩, ⟨(some 3), .mov (.tmp 10), none⟩])))
def a65_L1 : AC := .loop a65_B1
theorem a65_L1_step (call : Caller) (again : AC → St → Option (Ex × St)) (s : St) : codeEv call again a65_L1 s = match codeEv call again a65_B1 s with | some (.norm, s1) => again a65_L1 s1 | r => r := rfl
def a65 : AFn := { n := 19, np := 2, res := [], body :=
 (.seq (.reg [⟨(some 4), .load none (.tmp 1), none⟩, ⟨(some 5), .lenL (.tmp 4), none⟩, ⟨(some 6), .bin .sub (.tmp 5) (.val (.int .i64 1)), none⟩, ⟨(some 3), .mov (.tmp 6), none⟩])
 (.block 0 a65_L1)) }
def h66 : Hints := ⟨[1, 3], [], []⟩
def a66 : AFn := { n := 41, np := 1, res := [.tmp 2], body :=
 (.seq (.reg [⟨(some 1), .box (some 1) (.tmp 0), none⟩, ⟨(some 2), .mov (.val (.int .i64 0)), none⟩])
 (.seq (.seq (.reg [⟨(some 4), .faddr 0 (.tmp 1), none⟩, ⟨(some 5), .load none (.tmp 4), none⟩, ⟨(some 6), .bin .lss (.tmp 5) (.val (.int .i64 1)), none⟩, ⟨(some 7), .mov (.tmp 6), none⟩, ⟨(some 8), .faddr 0 (.tmp 1), (some (7, false))⟩, ⟨(some 9), .load none (.tmp 8), (some (7, false))⟩, ⟨(some 10), .load none (.val (.ptr 1 0)), (some (7, false))⟩, ⟨(some 11), .lenL (.tmp 10), (some (7, false))⟩, ⟨(some 12), .bin .geq (.tmp 9) (.tmp 11), (some (7, false))⟩, ⟨(some 13), .pick (.tmp 7) (.val (.bool true)) (.tmp 12), none⟩])
 (.cond (.tmp 13) (.seq (.reg [⟨(some 2), .mov (.val (.int .i64 2)), none⟩])
 .ret) .skip))
 (.seq (.reg [⟨(some 14), .load none (.val (.ptr 1 0)), none⟩, ⟨(some 15), .faddr 0 (.tmp 1), none⟩, ⟨(some 16), .load none (.tmp 15), none⟩, ⟨(some 17), .iaddrL 6 (.tmp 14) (.tmp 16), none⟩, ⟨(some 18), .load (some 6) (.tmp 17), none⟩, ⟨(some 3), .alloc (some 3) [(.str ⟨#[]⟩), (.int .i64 0), (.int .i64 0), (.int .i64 0), (.int .i64 0), (.int .i64 0)], none⟩, ⟨none, .store 6 (.tmp 3) (.tmp 18), none⟩])
 (.seq (.seq (.reg [⟨(some 19), .faddr 1 (.tmp 3), none⟩, ⟨(some 20), .load none (.tmp 19), none⟩, ⟨(some 21), .faddr 1 (.tmp 1), none⟩, ⟨(some 22), .load none (.tmp 21), none⟩, ⟨(some 23), .call 80 [(.tmp 20), (.tmp 22)], none⟩, ⟨(some 24), .un .not (.tmp 23), none⟩, ⟨(some 25), .mov (.tmp 24), none⟩, ⟨(some 26), .faddr 2 (.tmp 3), (some (25, false))⟩, ⟨(some 27), .load none (.tmp 26), (some (25, false))⟩, ⟨(some 28), .faddr 2 (.tmp 1), (some (25, false))⟩, ⟨(some 29), .load none (.tmp 28), (some (25, false))⟩, ⟨(some 30), .call 80 [(.tmp 27), (.tmp 29)], (some (25, false))⟩, ⟨(some 31), .un .not (.tmp 30), (some (25, false))⟩, ⟨(some 32), .pick (.tmp 25) (.val (.bool true)) (.tmp 31), none⟩, ⟨(some 33), .mov (.tmp 32), none⟩, ⟨(some 34), .faddr 3 (.tmp 3), (some (33, false))⟩, ⟨(some 35), .load none (.tmp 34), (some (33, false))⟩, ⟨(some 36), .faddr 3 (.tmp 1), (some (33, false))⟩, ⟨(some 37), .load none (.tmp 36), (some (33, false))⟩, ⟨(some 38), .call 80 [(.tmp 35), (.tmp 37)], (some (33, false))⟩, ⟨(some 39), .un .not (.tmp 38), (some (33, false))⟩, ⟨(some 40), .pick (.tmp 33) (.val (.bool true)) (.tmp 39), none⟩])
 (.cond (.tmp 40) (.seq (.reg [⟨(some 2), .mov (.val (.int .i64 2)), none⟩])
 .ret) .skip))
 (.seq (.reg [⟨(some 2), .mov (.val (.int .i64 0)), none⟩])
 .ret))))) }
def h67 : Hints := ⟨[], [], []⟩
def a67_B1 : AC := (.seq (.seq (.dreg [(false, ⟨(some 18), .mov (.tmp 9), none⟩, false), (false, ⟨(some 19), .mov (.tmp 1), none⟩, false), (false, ⟨(some 20), .bin .gtr (.tmp 18) (.tmp 19), none⟩, false), (false, ⟨(some 21), .mov (.tmp 20), none⟩, false), (false, ⟨(some 22), .mov (.tmp 3), (some (21, true))⟩, false), (false, ⟨(some 23), .mov (.tmp 0), (some (21, true))⟩, false), (false, ⟨(some 24), .mov (.tmp 9), (some (21, true))⟩, false), (false, ⟨(some 25), .iaddrL 2 (.tmp 23) (.tmp 24), (some (21, true))⟩, false), (false, ⟨(some 26), .load (some 2) (.tmp 25), (some (21, true))⟩, false), (false, ⟨(some 27), .mov (.tmp 0), (some (21, true))⟩, false), (false, ⟨(some 28), .mov (.tmp 9), (some (21, true))⟩, false), (false, ⟨(some 29), .bin .sub (.tmp 28) (.val (.int .i64 1)), (some (21, true))⟩, false), (false, ⟨(some 30), .iaddrL 2 (.tmp 27) (.tmp 29), (some (21, true))⟩, false), (false, ⟨(some 31), .load (some 2) (.tmp 30), (some (21, true))⟩, false), (false, ⟨(some 32), .callv (.tmp 22) [(.tmp 26), (.tmp 31)], (some (21, true))⟩, false), (false, ⟨(some 33), .bin .lss (.tmp 32) (.val (.int .i64 0)), (some (21, true))⟩, false), (false, ⟨(some 34), .pick (.tmp 21) (.tmp 33) (.val (.bool false)), none⟩, false)])
 (.cond (.tmp 34) .skip (.exit 2)))
 (.seq (.block 3 (.dreg [(false, ⟨(some 37), .mov (.tmp 0), none⟩, false), (false, ⟨(some 38), .mov (.tmp 9), none⟩, false), (false, ⟨(some 39), .mov (.tmp 0), none⟩, false), (false, ⟨(some 40), .mov (.tmp 9), none⟩, false), (false, ⟨(some 41), .bin .sub (.tmp 40) (.val (.int .i64 1)), none⟩, false), (false, ⟨(some 42), .mov (.tmp 0), none⟩, false), (false, ⟨(some 43), .mov (.tmp 9), none⟩, false), (false, ⟨(some 44), .bin .sub (.tmp 43) (.val (.int .i64 1)), none⟩, false), (false, ⟨(some 45), .iaddrL 2 (.tmp 42) (.tmp 44), none⟩, false), (false, ⟨(some 46), .load (some 2) (.tmp 45), none⟩, false), (false, ⟨(some 47), .mov (.tmp 0), none⟩, false), (false, ⟨(some 48), .mov (.tmp 9), none⟩, false), (false, ⟨(some 49), .iaddrL 2 (.tmp 47) (.tmp 48), none⟩, false), (false, ⟨(some 50), .load (some 2) (.tmp 49), none⟩, false), (false, ⟨(some 51), .iaddrL 2 (.tmp 37) (.tmp 38), none⟩, false), (false, ⟨none, .store 2 (.tmp 51) (.tmp 46), none⟩, false), (false, ⟨(some 52), .iaddrL 2 (.tmp 39) (.tmp 41), none⟩, false), (false, ⟨none, .store 2 (.tmp 52) (.tmp 50), none⟩, false)]))
 (.reg [⟨(some 35), .mov (.tmp 9), none⟩, ⟨(some 36), .bin .sub (.tmp 35) (.val (.int .i64 1)), none⟩, ⟨(some 9), .mov (.tmp 36), none⟩])))
def a67_L1 : AC := .loop a67_B1
theorem a67_L1_step (call : Caller) (again : AC → St → Option (Ex × St)) (s : St) : codeEv call again a67_L1 s = match codeEv call again a67_B1 s with | some (.norm, s1) => again a67_L1 s1 | r => r := rfl
def a67_B2 : AC := (.seq (.seq (.reg [⟨(some 12), .mov (.tmp 8), none⟩, ⟨(some 13), .mov (.tmp 2), none⟩, ⟨(some 14), .bin .lss (.tmp 12) (.tmp 13), none⟩])
 (.cond (.tmp 14) .skip (.exit 0)))
 (.seq (.block 1 (.seq (.reg [⟨(some 17), .mov (.tmp 8), none⟩, ⟨(some 9), .mov (.tmp 17), none⟩])
 (.block 2 a67_L1)))
 (.reg [⟨(some 15), .mov (.tmp 8), none⟩, ⟨(some 16), .bin .add (.tmp 15) (.val (.int .i64 1)), none⟩, ⟨(some 8), .mov (.tmp 16), none⟩])))
def a67_L2 : AC := .loop a67_B2
theorem a67_L2_step (call : Caller) (again : AC → St → Option (Ex × St)) (s : St) : codeEv call again a67_L2 s = match codeEv call again a67_B2 s with | some (.norm, s1) => again a67_L2 s1 | r => r := rfl
def a67 : AFn := { n := 53, np := 4, res := [], body :=
 (.seq (.reg [⟨(some 10), .mov (.tmp 1), none⟩, ⟨(some 11), .bin .add (.tmp 10) (.val (.int .i64 1)), none⟩, ⟨(some 8), .mov (.tmp 11), none⟩])
 (.block 0 a67_L2)) }
def h68 : Hints := ⟨[], [], []⟩
def a68_B1 : AC := (.seq (.seq (.reg [⟨(some 32), .mov (.tmp 12), none⟩, ⟨(some 33), .bin .geq (.tmp 32) (.val (.int .i64 0)), none⟩])
 (.cond (.tmp 33) .skip (.exit 2)))
 (.seq (.block 3 (.seq (.dreg [(false, ⟨(some 36), .mov (.tmp 0), none⟩, false), (false, ⟨(some 37), .mov (.tmp 8), none⟩, false), (false, ⟨(some 38), .mov (.tmp 0), none⟩, false), (false, ⟨(some 39), .mov (.tmp 8), none⟩, false), (false, ⟨(some 40), .mov (.tmp 12), none⟩, false), (false, ⟨(some 41), .bin .add (.tmp 39) (.tmp 40), none⟩, false), (false, ⟨(some 42), .mov (.tmp 0), none⟩, false), (false, ⟨(some 43), .mov (.tmp 8), none⟩, false), (false, ⟨(some 44), .mov (.tmp 12), none⟩, false), (false, ⟨(some 45), .bin .add (.tmp 43) (.tmp 44), none⟩, false), (false, ⟨(some 46), .iaddrL 2 (.tmp 42) (.tmp 45), none⟩, false), (false, ⟨(some 47), .load (some 2) (.tmp 46), none⟩, false), (false, ⟨(some 48), .mov (.tmp 0), none⟩, false), (false, ⟨(some 49), .mov (.tmp 8), none⟩, false), (false, ⟨(some 50), .iaddrL 2 (.tmp 48) (.tmp 49), none⟩, false), (false, ⟨(some 51), .load (some 2) (.tmp 50), none⟩, false), (false, ⟨(some 52), .iaddrL 2 (.tmp 36) (.tmp 37), none⟩, false), (false, ⟨none, .store 2 (.tmp 52) (.tmp 47), none⟩, false), (false, ⟨(some 53), .iaddrL 2 (.tmp 38) (.tmp 41), none⟩, false), (false, ⟨none, .store 2 (.tmp 53) (.tmp 51), none⟩, false)])
 (.reg [⟨(some 54), .mov (.tmp 0), none⟩, ⟨(some 55), .mov (.tmp 9), none⟩, ⟨(some 56), .mov (.tmp 12), none⟩, ⟨(some 57), .mov (.tmp 8), none⟩, ⟨(some 58), .mov (.tmp 3), none⟩, ⟨(some 59), .call 81 [(.tmp 54), (.tmp 55), (.tmp 56), (.tmp 57), (.tmp 58)], none⟩])))
 (.reg [⟨(some 34), .mov (.tmp 12), none⟩, ⟨(some 35), .bin .sub (.tmp 34) (.val (.int .i64 1)), none⟩, ⟨(some 12), .mov (.tmp 35), none⟩])))
def a68_L1 : AC := .loop a68_B1
theorem a68_L1_step (call : Caller) (again : AC → St → Option (Ex × St)) (s : St) : codeEv call again a68_L1 s = match codeEv call again a68_B1 s with | some (.norm, s1) => again a68_L1 s1 | r => r := rfl
def a68_B2 : AC := (.seq (.seq (.reg [⟨(some 20), .mov (.tmp 11), none⟩, ⟨(some 21), .bin .geq (.tmp 20) (.val (.int .i64 0)), none⟩])
 (.cond (.tmp 21) .skip (.exit 0)))
 (.seq (.block 1 (.reg [⟨(some 24), .mov (.tmp 0), none⟩, ⟨(some 25), .mov (.tmp 11), none⟩, ⟨(some 26), .mov (.tmp 10), none⟩, ⟨(some 27), .mov (.tmp 8), none⟩, ⟨(some 28), .mov (.tmp 3), none⟩, ⟨(some 29), .call 81 [(.tmp 24), (.tmp 25), (.tmp 26), (.tmp 27), (.tmp 28)], none⟩]))
 (.reg [⟨(some 22), .mov (.tmp 11), none⟩, ⟨(some 23), .bin .sub (.tmp 22) (.val (.int .i64 1)), none⟩, ⟨(some 11), .mov (.tmp 23), none⟩])))
def a68_L2 : AC := .loop a68_B2
theorem a68_L2_step (call : Caller) (again : AC → St → Option (Ex × St)) (s : St) : codeEv call again a68_L2 s = match codeEv call again a68_B2 s with | some (.norm, s1) => again a68_L2 s1 | r => r := rfl
def a68 : AFn := { n := 60, np := 4, res := [], body :=
 (.seq (.reg [⟨(some 13), .mov (.tmp 1), none⟩, ⟨(some 8), .mov (.tmp 13), none⟩])
 (.seq (.reg [⟨(some 9), .mov (.val (.int .i64 0)), none⟩])
 (.seq (.reg [⟨(some 14), .mov (.tmp 2), none⟩, ⟨(some 15), .mov (.tmp 1), none⟩, ⟨(some 16), .bin .sub (.tmp 14) (.tmp 15), none⟩, ⟨(some 10), .mov (.tmp 16), none⟩])
 (.seq (.seq (.reg [⟨(some 17), .mov (.tmp 10), none⟩, ⟨(some 18), .bin .sub (.tmp 17) (.val (.int .i64 1)), none⟩, ⟨(some 19), .bin .quo (.tmp 18) (.val (.int .i64 2)), none⟩, ⟨(some 11), .mov (.tmp 19), none⟩])
 (.block 0 a68_L2))
 (.seq (.reg [⟨(some 30), .mov (.tmp 10), none⟩, ⟨(some 31), .bin .sub (.tmp 30) (.val (.int .i64 1)), none⟩, ⟨(some 12), .mov (.tmp 31), none⟩])
 (.block 2 a68_L1)))))) }
def h69 : Hints := ⟨[], [], []⟩
def a69_B1 : AC := (.seq (.seq (.reg [⟨(some 28), .mov (.tmp 11), none⟩, ⟨(some 29), .mov (.tmp 1), none⟩, ⟨(some 30), .mov (.tmp 8), none⟩, ⟨(some 31), .bin .quo (.tmp 30) (.val (.int .i64 4)), none⟩, ⟨(some 32), .bin .mul (.tmp 31) (.val (.int .i64 2)), none⟩, ⟨(some 33), .bin .add (.tmp 29) (.tmp 32), none⟩, ⟨(some 34), .bin .add (.tmp 33) (.val (.int .i64 1)), none⟩, ⟨(some 35), .bin .leq (.tmp 28) (.tmp 34), none⟩])
 (.cond (.tmp 35) .skip (.exit 0)))
 (.seq (.block 1 (.seq (.reg [⟨(some 38), .call 77 [(.tmp 9)], none⟩, ⟨(some 39), .mov (.tmp 10), none⟩, ⟨(some 40), .bin .sub (.tmp 39) (.val (.int .u64 1)), none⟩, ⟨(some 41), .bin .and (.tmp 38) (.tmp 40), none⟩, ⟨(some 42), .conv .i64 (.tmp 41), none⟩, ⟨(some 12), .mov (.tmp 42), none⟩])
 (.seq (.seq (.reg [⟨(some 43), .mov (.tmp 12), none⟩, ⟨(some 44), .mov (.tmp 8), none⟩, ⟨(some 45), .bin .geq (.tmp 43) (.tmp 44), none⟩])
 (.cond (.tmp 45) (.reg [⟨(some 46), .mov (.tmp 12), none⟩, ⟨(some 47), .mov (.tmp 8), none⟩, ⟨(some 48), .bin .sub (.tmp 46) (.tmp 47), none⟩, ⟨(some 12), .mov (.tmp 48), none⟩]) .skip))
 (.dreg [(false, ⟨(some 49), .mov (.tmp 0), none⟩, false), (false, ⟨(some 50), .mov (.tmp 11), none⟩, false), (false, ⟨(some 51), .mov (.tmp 0), none⟩, false), (false, ⟨(some 52), .mov (.tmp 1), none⟩, false), (false, ⟨(some 53), .mov (.tmp 12), none⟩, false), (false, ⟨(some 54), .bin .add (.tmp 52) (.tmp 53), none⟩, false), (false, ⟨(some 55), .mov (.tmp 0), none⟩, false), (false, ⟨(some 56), .mov (.tmp 1), none⟩, false), (false, ⟨(some 57), .mov (.tmp 12), none⟩, false), (false, ⟨(some 58), .bin .add (.tmp 56) (.tmp 57), none⟩, false), (false, ⟨(some 59), .iaddrL 2 (.tmp 55) (.tmp 58), none⟩, false), (false, ⟨(some 60), .load (some 2) (.tmp 59), none⟩, false), (false, ⟨(some 61), .mov (.tmp 0), none⟩, false), (false, ⟨(some 62), .mov (.tmp 11), none⟩, false), (false, ⟨(some 63), .iaddrL 2 (.tmp 61) (.tmp 62), none⟩, false), (false, ⟨(some 64), .load (some 2) (.tmp 63), none⟩, false), (false, ⟨(some 65), .iaddrL 2 (.tmp 49) (.tmp 50), none⟩, false), (false, ⟨none, .store 2 (.tmp 65) (.tmp 60), none⟩, false), (false, ⟨(some 66), .iaddrL 2 (.tmp 51) (.tmp 54), none⟩, false), (false, ⟨none, .store 2 (.tmp 66) (.tmp 64), none⟩, false)]))))
 (.reg [⟨(some 36), .mov (.tmp 11), none⟩, ⟨(some 37), .bin .add (.tmp 36) (.val (.int .i64 1)), none⟩, ⟨(some 11), .mov (.tmp 37), none⟩])))
def a69_L1 : AC := .loop a69_B1
theorem a69_L1_step (call : Caller) (again : AC → St → Option (Ex × St)) (s : St) : codeEv call again a69_L1 s = match codeEv call again a69_B1 s with | some (.norm, s1) => again a69_L1 s1 | r => r := rfl
def a69 : AFn := { n := 67, np := 4, res := [], body :=
 (.seq (.reg [⟨(some 13), .mov (.tmp 2), none⟩, ⟨(some 14), .mov (.tmp 1), none⟩, ⟨(some 15), .bin .sub (.tmp 13) (.tmp 14), none⟩, ⟨(some 8), .mov (.tmp 15), none⟩])
 (.seq (.reg [⟨(some 16), .mov (.tmp 8), none⟩, ⟨(some 17), .bin .geq (.tmp 16) (.val (.int .i64 8)), none⟩])
 (.cond (.tmp 17) (.seq (.reg [⟨(some 18), .mov (.tmp 8), none⟩, ⟨(some 19), .conv .u64 (.tmp 18), none⟩, ⟨(some 9), .alloc none [(.int .u64 0)], none⟩, ⟨none, .store 1 (.tmp 9) (.tmp 19), none⟩])
 (.seq (.reg [⟨(some 20), .mov (.tmp 8), none⟩, ⟨(some 21), .call 76 [(.tmp 20)], none⟩, ⟨(some 10), .mov (.tmp 21), none⟩])
 (.seq (.reg [⟨(some 22), .mov (.tmp 1), none⟩, ⟨(some 23), .mov (.tmp 8), none⟩, ⟨(some 24), .bin .quo (.tmp 23) (.val (.int .i64 4)), none⟩, ⟨(some 25), .bin .mul (.tmp 24) (.val (.int .i64 2)), none⟩, ⟨(some 26), .bin .add (.tmp 22) (.tmp 25), none⟩, ⟨(some 27), .bin .sub (.tmp 26) (.val (.int .i64 1)), none⟩, ⟨(some 11), .mov (.tmp 27), none⟩])
 (.block 0 a69_L1)))) .skip))) }
def h70 : Hints := ⟨[], [], []⟩
def a70 : AFn := { n := 63, np := 4, res := [.tmp 8, .tmp 9], body :=
 (.seq (.reg [⟨(some 8), .mov (.val (.int .i64 0)), none⟩, ⟨(some 9), .mov (.val (.int .i64 0)), none⟩])
 (.seq (.reg [⟨(some 15), .mov (.tmp 2), none⟩, ⟨(some 16), .mov (.tmp 1), none⟩, ⟨(some 17), .bin .sub (.tmp 15) (.tmp 16), none⟩, ⟨(some 10), .mov (.tmp 17), none⟩])
 (.seq (.reg [⟨(some 11), .alloc none [(.int .i64 0)], none⟩])
 (.seq (.reg [⟨(some 18), .mov (.tmp 1), none⟩, ⟨(some 19), .mov (.tmp 10), none⟩, ⟨(some 20), .bin .quo (.tmp 19) (.val (.int .i64 4)), none⟩, ⟨(some 21), .bin .mul (.tmp 20) (.val (.int .i64 1)), none⟩, ⟨(some 22), .bin .add (.tmp 18) (.tmp 21), none⟩, ⟨(some 12), .mov (.tmp 22), none⟩])
 (.seq (.reg [⟨(some 23), .mov (.tmp 1), none⟩, ⟨(some 24), .mov (.tmp 10), none⟩, ⟨(some 25), .bin .quo (.tmp 24) (.val (.int .i64 4)), none⟩, ⟨(some 26), .bin .mul (.tmp 25) (.val (.int .i64 2)), none⟩, ⟨(some 27), .bin .add (.tmp 23) (.tmp 26), none⟩, ⟨(some 13), .mov (.tmp 27), none⟩])
 (.seq (.reg [⟨(some 28), .mov (.tmp 1), none⟩, ⟨(some 29), .mov (.tmp 10), none⟩, ⟨(some 30), .bin .quo (.tmp 29) (.val (.int .i64 4)), none⟩, ⟨(some 31), .bin .mul (.tmp 30) (.val (.int .i64 3)), none⟩, ⟨(some 32), .bin .add (.tmp 28) (.tmp 31), none⟩, ⟨(some 14), .mov (.tmp 32), none⟩])
 (.seq (.seq (.reg [⟨(some 33), .mov (.tmp 10), none⟩, ⟨(some 34), .bin .geq (.tmp 33) (.val (.int .i64 8)), none⟩])
 (.cond (.tmp 34) (.seq (.seq (.reg [⟨(some 35), .mov (.tmp 10), none⟩, ⟨(some 36), .bin .geq (.tmp 35) (.val (.int .i64 50)), none⟩])
 (.cond (.tmp 36) (.seq (.reg [⟨(some 37), .mov (.tmp 0), none⟩, ⟨(some 38), .mov (.tmp 12), none⟩, ⟨(some 39), .mov (.tmp 3), none⟩, ⟨(some 40), .call 82 [(.tmp 37), (.tmp 38), (.tmp 11), (.tmp 39)], none⟩, ⟨(some 12), .mov (.tmp 40), none⟩])
 (.seq (.reg [⟨(some 41), .mov (.tmp 0), none⟩, ⟨(some 42), .mov (.tmp 13), none⟩, ⟨(some 43), .mov (.tmp 3), none⟩, ⟨(some 44), .call 82 [(.tmp 41), (.tmp 42), (.tmp 11), (.tmp 43)], none⟩, ⟨(some 13), .mov (.tmp 44), none⟩])
 (.reg [⟨(some 45), .mov (.tmp 0), none⟩, ⟨(some 46), .mov (.tmp 14), none⟩, ⟨(some 47), .mov (.tmp 3), none⟩, ⟨(some 48), .call 82 [(.tmp 45), (.tmp 46), (.tmp 11), (.tmp 47)], none⟩, ⟨(some 14), .mov (.tmp 48), none⟩]))) .skip))
 (.reg [⟨(some 49), .mov (.tmp 0), none⟩, ⟨(some 50), .mov (.tmp 12), none⟩, ⟨(some 51), .mov (.tmp 13), none⟩, ⟨(some 52), .mov (.tmp 14), none⟩, ⟨(some 53), .mov (.tmp 3), none⟩, ⟨(some 54), .call 83 [(.tmp 49), (.tmp 50), (.tmp 51), (.tmp 52), (.tmp 11), (.tmp 53)], none⟩, ⟨(some 13), .mov (.tmp 54), none⟩])) .skip))
 (.seq (.reg [⟨(some 55), .load none (.tmp 11), none⟩])
 (.block 0 (.seq (.reg [⟨(some 58), .bin .eql (.tmp 55) (.val (.int .i64 0)), none⟩, ⟨(some 57), .mov (.tmp 58), none⟩])
 (.cond (.tmp 57) (.seq (.reg [⟨(some 59), .mov (.tmp 13), none⟩, ⟨(some 8), .mov (.tmp 59), none⟩, ⟨(some 9), .mov (.val (.int .i64 1)), none⟩])
 .ret) (.seq (.reg [⟨(some 61), .bin .eql (.tmp 55) (.val (.int .i64 12)), none⟩, ⟨(some 60), .mov (.tmp 61), none⟩])
 (.cond (.tmp 60) (.seq (.reg [⟨(some 62), .mov (.tmp 13), none⟩, ⟨(some 8), .mov (.tmp 62), none⟩, ⟨(some 9), .mov (.val (.int .i64 2)), none⟩])
 .ret) (.seq (.reg [⟨(some 56), .mov (.tmp 13), none⟩, ⟨(some 8), .mov (.tmp 56), none⟩, ⟨(some 9), .mov (.val (.int .i64 0)), none⟩])
 .ret)))))))))))))) }
def h71 : Hints := ⟨[], [], []⟩
def a71_B1 : AC := (.seq (.seq (.reg [⟨(some 13), .mov (.tmp 8), none⟩, ⟨(some 14), .mov (.tmp 9), none⟩, ⟨(some 15), .bin .lss (.tmp 13) (.tmp 14), none⟩])
 (.cond (.tmp 15) .skip (.exit 0)))
 (.block 1 (.seq (.dreg [(false, ⟨(some 16), .mov (.tmp 0), none⟩, false), (false, ⟨(some 17), .mov (.tmp 8), none⟩, false), (false, ⟨(some 18), .mov (.tmp 0), none⟩, false), (false, ⟨(some 19), .mov (.tmp 9), none⟩, false), (false, ⟨(some 20), .mov (.tmp 0), none⟩, false), (false, ⟨(some 21), .mov (.tmp 9), none⟩, false), (false, ⟨(some 22), .iaddrL 2 (.tmp 20) (.tmp 21), none⟩, false), (false, ⟨(some 23), .load (some 2) (.tmp 22), none⟩, false), (false, ⟨(some 24), .mov (.tmp 0), none⟩, false), (false, ⟨(some 25), .mov (.tmp 8), none⟩, false), (false, ⟨(some 26), .iaddrL 2 (.tmp 24) (.tmp 25), none⟩, false), (false, ⟨(some 27), .load (some 2) (.tmp 26), none⟩, false), (false, ⟨(some 28), .iaddrL 2 (.tmp 16) (.tmp 17), none⟩, false), (false, ⟨none, .store 2 (.tmp 28) (.tmp 23), none⟩, false), (false, ⟨(some 29), .iaddrL 2 (.tmp 18) (.tmp 19), none⟩, false), (false, ⟨none, .store 2 (.tmp 29) (.tmp 27), none⟩, false)])
 (.seq (.reg [⟨(some 30), .mov (.tmp 8), none⟩, ⟨(some 31), .bin .add (.tmp 30) (.val (.int .i64 1)), none⟩, ⟨(some 8), .mov (.tmp 31), none⟩])
 (.reg [⟨(some 32), .mov (.tmp 9), none⟩, ⟨(some 33), .bin .sub (.tmp 32) (.val (.int .i64 1)), none⟩, ⟨(some 9), .mov (.tmp 33), none⟩])))))
def a71_L1 : AC := .loop a71_B1
theorem a71_L1_step (call : Caller) (again : AC → St → Option (Ex × St)) (s : St) : codeEv call again a71_L1 s = match codeEv call again a71_B1 s with | some (.norm, s1) => again a71_L1 s1 | r => r := rfl
def a71 : AFn := { n := 34, np := 4, res := [], body :=
 (.seq (.reg [⟨(some 10), .mov (.tmp 1), none⟩, ⟨(some 8), .mov (.tmp 10), none⟩])
 (.seq (.reg [⟨(some 11), .mov (.tmp 2), none⟩, ⟨(some 12), .bin .sub (.tmp 11) (.val (.int .i64 1)), none⟩, ⟨(some 9), .mov (.tmp 12), none⟩])
 (.block 0 a71_L1))) }
def h72 : Hints := ⟨[], [], []⟩
def a72_B1 : AC := (.seq (.seq (.reg [⟨(some 107), .mov (.tmp 12), none⟩, ⟨(some 108), .mov (.tmp 2), none⟩, ⟨(some 109), .bin .lss (.tmp 107) (.tmp 108), none⟩])
 (.cond (.tmp 109) .skip (.exit 6)))
 (.seq (.block 7 (.seq (.seq (.dreg [(false, ⟨(some 112), .mov (.tmp 3), none⟩, false), (false, ⟨(some 113), .mov (.tmp 0), none⟩, false), (false, ⟨(some 114), .mov (.tmp 12), none⟩, false), (false, ⟨(some 115), .iaddrL 2 (.tmp 113) (.tmp 114), none⟩, false), (false, ⟨(some 116), .load (some 2) (.tmp 115), none⟩, false), (false, ⟨(some 117), .mov (.tmp 0), none⟩, false), (false, ⟨(some 118), .mov (.tmp 12), none⟩, false), (false, ⟨(some 119), .bin .sub (.tmp 118) (.val (.int .i64 1)), none⟩, false), (false, ⟨(some 120), .iaddrL 2 (.tmp 117) (.tmp 119), none⟩, false), (false, ⟨(some 121), .load (some 2) (.tmp 120), none⟩, false), (false, ⟨(some 122), .callv (.tmp 112) [(.tmp 116), (.tmp 121)], none⟩, false), (false, ⟨(some 123), .bin .lss (.tmp 122) (.val (.int .i64 0)), none⟩, false), (false, ⟨(some 124), .un .not (.tmp 123), none⟩, false)])
 (.cond (.tmp 124) (.exit 6) .skip))
 (.dreg [(false, ⟨(some 125), .mov (.tmp 0), none⟩, false), (false, ⟨(some 126), .mov (.tmp 12), none⟩, false), (false, ⟨(some 127), .mov (.tmp 0), none⟩, false), (false, ⟨(some 128), .mov (.tmp 12), none⟩, false), (false, ⟨(some 129), .bin .sub (.tmp 128) (.val (.int .i64 1)), none⟩, false), (false, ⟨(some 130), .mov (.tmp 0), none⟩, false), (false, ⟨(some 131), .mov (.tmp 12), none⟩, false), (false, ⟨(some 132), .bin .sub (.tmp 131) (.val (.int .i64 1)), none⟩, false), (false, ⟨(some 133), .iaddrL 2 (.tmp 130) (.tmp 132), none⟩, false), (false, ⟨(some 134), .load (some 2) (.tmp 133), none⟩, false), (false, ⟨(some 135), .mov (.tmp 0), none⟩, false), (false, ⟨(some 136), .mov (.tmp 12), none⟩, false), (false, ⟨(some 137), .iaddrL 2 (.tmp 135) (.tmp 136), none⟩, false), (false, ⟨(some 138), .load (some 2) (.tmp 137), none⟩, false), (false, ⟨(some 139), .iaddrL 2 (.tmp 125) (.tmp 126), none⟩, false), (false, ⟨none, .store 2 (.tmp 139) (.tmp 134), none⟩, false), (false, ⟨(some 140), .iaddrL 2 (.tmp 127) (.tmp 129), none⟩, false), (false, ⟨none, .store 2 (.tmp 140) (.tmp 138), none⟩, false)])))
 (.reg [⟨(some 110), .mov (.tmp 12), none⟩, ⟨(some 111), .bin .add (.tmp 110) (.val (.int .i64 1)), none⟩, ⟨(some 12), .mov (.tmp 111), none⟩])))
def a72_L1 : AC := .loop a72_B1
theorem a72_L1_step (call : Caller) (again : AC → St → Option (Ex × St)) (s : St) : codeEv call again a72_L1 s = match codeEv call again a72_B1 s with | some (.norm, s1) => again a72_L1 s1 | r => r := rfl
def a72_B2 : AC := (.seq (.seq (.reg [⟨(some 68), .mov (.tmp 11), none⟩, ⟨(some 69), .bin .geq (.tmp 68) (.val (.int .i64 1)), none⟩])
 (.cond (.tmp 69) .skip (.exit 4)))
 (.seq (.block 5 (.seq (.seq (.dreg [(false, ⟨(some 72), .mov (.tmp 3), none⟩, false), (false, ⟨(some 73), .mov (.tmp 0), none⟩, false), (false, ⟨(some 74), .mov (.tmp 11), none⟩, false), (false, ⟨(some 75), .iaddrL 2 (.tmp 73) (.tmp 74), none⟩, false), (false, ⟨(some 76), .load (some 2) (.tmp 75), none⟩, false), (false, ⟨(some 77), .mov (.tmp 0), none⟩, false), (false, ⟨(some 78), .mov (.tmp 11), none⟩, false), (false, ⟨(some 79), .bin .sub (.tmp 78) (.val (.int .i64 1)), none⟩, false), (false, ⟨(some 80), .iaddrL 2 (.tmp 77) (.tmp 79), none⟩, false), (false, ⟨(some 81), .load (some 2) (.tmp 80), none⟩, false), (false, ⟨(some 82), .callv (.tmp 72) [(.tmp 76), (.tmp 81)], none⟩, false), (false, ⟨(some 83), .bin .lss (.tmp 82) (.val (.int .i64 0)), none⟩, false), (false, ⟨(some 84), .un .not (.tmp 83), none⟩, false)])
 (.cond (.tmp 84) (.exit 4) .skip))
 (.dreg [(false, ⟨(some 85), .mov (.tmp 0), none⟩, false), (false, ⟨(some 86), .mov (.tmp 11), none⟩, false), (false, ⟨(some 87), .mov (.tmp 0), none⟩, false), (false, ⟨(some 88), .mov (.tmp 11), none⟩, false), (false, ⟨(some 89), .bin .sub (.tmp 88) (.val (.int .i64 1)), none⟩, false), (false, ⟨(some 90), .mov (.tmp 0), none⟩, false), (false, ⟨(some 91), .mov (.tmp 11), none⟩, false), (false, ⟨(some 92), .bin .sub (.tmp 91) (.val (.int .i64 1)), none⟩, false), (false, ⟨(some 93), .iaddrL 2 (.tmp 90) (.tmp 92), none⟩, false), (false, ⟨(some 94), .load (some 2) (.tmp 93), none⟩, false), (false, ⟨(some 95), .mov (.tmp 0), none⟩, false), (false, ⟨(some 96), .mov (.tmp 11), none⟩, false), (false, ⟨(some 97), .iaddrL 2 (.tmp 95) (.tmp 96), none⟩, false), (false, ⟨(some 98), .load (some 2) (.tmp 97), none⟩, false), (false, ⟨(some 99), .iaddrL 2 (.tmp 85) (.tmp 86), none⟩, false), (false, ⟨none, .store 2 (.tmp 99) (.tmp 94), none⟩, false), (false, ⟨(some 100), .iaddrL 2 (.tmp 87) (.tmp 89), none⟩, false), (false, ⟨none, .store 2 (.tmp 100) (.tmp 98), none⟩, false)])))
 (.reg [⟨(some 70), .mov (.tmp 11), none⟩, ⟨(some 71), .bin .sub (.tmp 70) (.val (.int .i64 1)), none⟩, ⟨(some 11), .mov (.tmp 71), none⟩])))
def a72_L2 : AC := .loop a72_B2
theorem a72_L2_step (call : Caller) (again : AC → St → Option (Ex × St)) (s : St) : codeEv call again a72_L2 s = match codeEv call again a72_B2 s with | some (.norm, s1) => again a72_L2 s1 | r => r := rfl
def a72_B3 : AC := (.seq (.seq (.dreg [(false, ⟨(some 19), .mov (.tmp 9), none⟩, false), (false, ⟨(some 20), .mov (.tmp 2), none⟩, false), (false, ⟨(some 21), .bin .lss (.tmp 19) (.tmp 20), none⟩, false), (false, ⟨(some 22), .mov (.tmp 21), none⟩, false), (false, ⟨(some 23), .mov (.tmp 3), (some (22, true))⟩, false), (false, ⟨(some 24), .mov (.tmp 0), (some (22, true))⟩, false), (false, ⟨(some 25), .mov (.tmp 9), (some (22, true))⟩, false), (false, ⟨(some 26), .iaddrL 2 (.tmp 24) (.tmp 25), (some (22, true))⟩, false), (false, ⟨(some 27), .load (some 2) (.tmp 26), (some (22, true))⟩, false), (false, ⟨(some 28), .mov (.tmp 0), (some (22, true))⟩, false), (false, ⟨(some 29), .mov (.tmp 9), (some (22, true))⟩, false), (false, ⟨(some 30), .bin .sub (.tmp 29) (.val (.int .i64 1)), (some (22, true))⟩, false), (false, ⟨(some 31), .iaddrL 2 (.tmp 28) (.tmp 30), (some (22, true))⟩, false), (false, ⟨(some 32), .load (some 2) (.tmp 31), (some (22, true))⟩, false), (false, ⟨(some 33), .callv (.tmp 23) [(.tmp 27), (.tmp 32)], (some (22, true))⟩, false), (false, ⟨(some 34), .bin .lss (.tmp 33) (.val (.int .i64 0)), (some (22, true))⟩, false), (false, ⟨(some 35), .un .not (.tmp 34), (some (22, true))⟩, false), (false, ⟨(some 36), .pick (.tmp 22) (.tmp 35) (.val (.bool false)), none⟩, false)])
 (.cond (.tmp 36) .skip (.exit 2)))
 (.block 3 (.reg [⟨(some 37), .mov (.tmp 9), none⟩, ⟨(some 38), .bin .add (.tmp 37) (.val (.int .i64 1)), none⟩, ⟨(some 9), .mov (.tmp 38), none⟩])))
def a72_L3 : AC := .loop a72_B3
theorem a72_L3_step (call : Caller) (again : AC → St → Option (Ex × St)) (s : St) : codeEv call again a72_L3 s = match codeEv call again a72_B3 s with | some (.norm, s1) => again a72_L3 s1 | r => r := rfl
def a72_B4 : AC := (.seq (.seq (.reg [⟨(some 15), .mov (.tmp 10), none⟩, ⟨(some 16), .bin .lss (.tmp 15) (.val (.int .i64 5)), none⟩])
 (.cond (.tmp 16) .skip (.exit 0)))
 (.seq (.block 1 (.seq (.block 2 a72_L3)
 (.seq (.seq (.reg [⟨(some 39), .mov (.tmp 9), none⟩, ⟨(some 40), .mov (.tmp 2), none⟩, ⟨(some 41), .bin .eql (.tmp 39) (.tmp 40), none⟩])
 (.cond (.tmp 41) (.seq (.reg [⟨(some 8), .mov (.val (.bool true)), none⟩])
 .ret) .skip))
 (.seq (.seq (.reg [⟨(some 42), .mov (.tmp 2), none⟩, ⟨(some 43), .mov (.tmp 1), none⟩, ⟨(some 44), .bin .sub (.tmp 42) (.tmp 43), none⟩, ⟨(some 45), .bin .lss (.tmp 44) (.val (.int .i64 50)), none⟩])
 (.cond (.tmp 45) (.seq (.reg [⟨(some 8), .mov (.val (.bool false)), none⟩])
 .ret) .skip))
 (.seq (.dreg [(false, ⟨(some 46), .mov (.tmp 0), none⟩, false), (false, ⟨(some 47), .mov (.tmp 9), none⟩, false), (false, ⟨(some 48), .mov (.tmp 0), none⟩, false), (false, ⟨(some 49), .mov (.tmp 9), none⟩, false), (false, ⟨(some 50), .bin .sub (.tmp 49) (.val (.int .i64 1)), none⟩, false), (false, ⟨(some 51), .mov (.tmp 0), none⟩, false), (false, ⟨(some 52), .mov (.tmp 9), none⟩, false), (false, ⟨(some 53), .bin .sub (.tmp 52) (.val (.int .i64 1)), none⟩, false), (false, ⟨(some 54), .iaddrL 2 (.tmp 51) (.tmp 53), none⟩, false), (false, ⟨(some 55), .load (some 2) (.tmp 54), none⟩, false), (false, ⟨(some 56), .mov (.tmp 0), none⟩, false), (false, ⟨(some 57), .mov (.tmp 9), none⟩, false), (false, ⟨(some 58), .iaddrL 2 (.tmp 56) (.tmp 57), none⟩, false), (false, ⟨(some 59), .load (some 2) (.tmp 58), none⟩, false), (false, ⟨(some 60), .iaddrL 2 (.tmp 46) (.tmp 47), none⟩, false), (false, ⟨none, .store 2 (.tmp 60) (.tmp 55), none⟩, false), (false, ⟨(some 61), .iaddrL 2 (.tmp 48) (.tmp 50), none⟩, false), (false, ⟨none, .store 2 (.tmp 61) (.tmp 59), none⟩, false)])
 (.seq (.seq (.reg [⟨(some 62), .mov (.tmp 9), none⟩, ⟨(some 63), .mov (.tmp 1), none⟩, ⟨(some 64), .bin .sub (.tmp 62) (.tmp 63), none⟩, ⟨(some 65), .bin .geq (.tmp 64) (.val (.int .i64 2)), none⟩])
 (.cond (.tmp 65) (.seq (.reg [⟨(some 66), .mov (.tmp 9), none⟩, ⟨(some 67), .bin .sub (.tmp 66) (.val (.int .i64 1)), none⟩, ⟨(some 11), .mov (.tmp 67), none⟩])
 (.block 4 a72_L2)) .skip))
 (.seq (.reg [⟨(some 101), .mov (.tmp 2), none⟩, ⟨(some 102), .mov (.tmp 9), none⟩, ⟨(some 103), .bin .sub (.tmp 101) (.tmp 102), none⟩, ⟨(some 104), .bin .geq (.tmp 103) (.val (.int .i64 2)), none⟩])
 (.cond (.tmp 104) (.seq (.reg [⟨(some 105), .mov (.tmp 9), none⟩, ⟨(some 106), .bin .add (.tmp 105) (.val (.int .i64 1)), none⟩, ⟨(some 12), .mov (.tmp 106), none⟩])
 (.block 6 a72_L1)) .skip))))))))
 (.reg [⟨(some 17), .mov (.tmp 10), none⟩, ⟨(some 18), .bin .add (.tmp 17) (.val (.int .i64 1)), none⟩, ⟨(some 10), .mov (.tmp 18), none⟩])))
def a72_L4 : AC := .loop a72_B4
theorem a72_L4_step (call : Caller) (again : AC → St → Option (Ex × St)) (s : St) : codeEv call again a72_L4 s = match codeEv call again a72_B4 s with | some (.norm, s1) => again a72_L4 s1 | r => r := rfl
def a72 : AFn := { n := 141, np := 4, res := [.tmp 8], body :=
 (.seq (.reg [⟨(some 8), .mov (.val (.bool false)), none⟩])
 (.seq (.reg [⟨(some 13), .mov (.tmp 1), none⟩, ⟨(some 14), .bin .add (.tmp 13) (.val (.int .i64 1)), none⟩, ⟨(some 9), .mov (.tmp 14), none⟩])
 (.seq (.seq (.reg [⟨(some 10), .mov (.val (.int .i64 0)), none⟩])
 (.block 0 a72_L4))
 (.seq (.reg [⟨(some 8), .mov (.val (.bool false)), none⟩])
 .ret)))) }
def h73 : Hints := ⟨[], [], []⟩
def a73_B1 : AC := (.seq (.seq (.dreg [(false, ⟨(some 50), .mov (.tmp 11), none⟩, false), (false, ⟨(some 51), .mov (.tmp 12), none⟩, false), (false, ⟨(some 52), .bin .leq (.tmp 50) (.tmp 51), none⟩, false), (false, ⟨(some 53), .mov (.tmp 52), none⟩, false), (false, ⟨(some 54), .mov (.tmp 4), (some (53, true))⟩, false), (false, ⟨(some 55), .mov (.tmp 0), (some (53, true))⟩, false), (false, ⟨(some 56), .mov (.tmp 1), (some (53, true))⟩, false), (false, ⟨(some 57), .iaddrL 2 (.tmp 55) (.tmp 56), (some (53, true))⟩, false), (false, ⟨(some 58), .load (some 2) (.tmp 57), (some (53, true))⟩, false), (false, ⟨(some 59), .mov (.tmp 0), (some (53, true))⟩, false), (false, ⟨(some 60), .mov (.tmp 12), (some (53, true))⟩, false), (false, ⟨(some 61), .iaddrL 2 (.tmp 59) (.tmp 60), (some (53, true))⟩, false), (false, ⟨(some 62), .load (some 2) (.tmp 61), (some (53, true))⟩, false), (false, ⟨(some 63), .callv (.tmp 54) [(.tmp 58), (.tmp 62)], (some (53, true))⟩, false), (false, ⟨(some 64), .bin .lss (.tmp 63) (.val (.int .i64 0)), (some (53, true))⟩, false), (false, ⟨(some 65), .pick (.tmp 53) (.tmp 64) (.val (.bool false)), none⟩, false)])
 (.cond (.tmp 65) .skip (.exit 4)))
 (.block 5 (.reg [⟨(some 66), .mov (.tmp 12), none⟩, ⟨(some 67), .bin .sub (.tmp 66) (.val (.int .i64 1)), none⟩, ⟨(some 12), .mov (.tmp 67), none⟩])))
def a73_L1 : AC := .loop a73_B1
theorem a73_L1_step (call : Caller) (again : AC → St → Option (Ex × St)) (s : St) : codeEv call again a73_L1 s = match codeEv call again a73_B1 s with | some (.norm, s1) => again a73_L1 s1 | r => r := rfl
def a73_B2 : AC := (.seq (.seq (.dreg [(false, ⟨(some 31), .mov (.tmp 11), none⟩, false), (false, ⟨(some 32), .mov (.tmp 12), none⟩, false), (false, ⟨(some 33), .bin .leq (.tmp 31) (.tmp 32), none⟩, false), (false, ⟨(some 34), .mov (.tmp 33), none⟩, false), (false, ⟨(some 35), .mov (.tmp 4), (some (34, true))⟩, false), (false, ⟨(some 36), .mov (.tmp 0), (some (34, true))⟩, false), (false, ⟨(some 37), .mov (.tmp 1), (some (34, true))⟩, false), (false, ⟨(some 38), .iaddrL 2 (.tmp 36) (.tmp 37), (some (34, true))⟩, false), (false, ⟨(some 39), .load (some 2) (.tmp 38), (some (34, true))⟩, false), (false, ⟨(some 40), .mov (.tmp 0), (some (34, true))⟩, false), (false, ⟨(some 41), .mov (.tmp 11), (some (34, true))⟩, false), (false, ⟨(some 42), .iaddrL 2 (.tmp 40) (.tmp 41), (some (34, true))⟩, false), (false, ⟨(some 43), .load (some 2) (.tmp 42), (some (34, true))⟩, false), (false, ⟨(some 44), .callv (.tmp 35) [(.tmp 39), (.tmp 43)], (some (34, true))⟩, false), (false, ⟨(some 45), .bin .lss (.tmp 44) (.val (.int .i64 0)), (some (34, true))⟩, false), (false, ⟨(some 46), .un .not (.tmp 45), (some (34, true))⟩, false), (false, ⟨(some 47), .pick (.tmp 34) (.tmp 46) (.val (.bool false)), none⟩, false)])
 (.cond (.tmp 47) .skip (.exit 2)))
 (.block 3 (.reg [⟨(some 48), .mov (.tmp 11), none⟩, ⟨(some 49), .bin .add (.tmp 48) (.val (.int .i64 1)), none⟩, ⟨(some 11), .mov (.tmp 49), none⟩])))
def a73_L2 : AC := .loop a73_B2
theorem a73_L2_step (call : Caller) (again : AC → St → Option (Ex × St)) (s : St) : codeEv call again a73_L2 s = match codeEv call again a73_B2 s with | some (.norm, s1) => again a73_L2 s1 | r => r := rfl
def a73_B3 : AC := (.block 1 (.seq (.block 2 a73_L2)
 (.seq (.block 4 a73_L1)
 (.seq (.seq (.reg [⟨(some 68), .mov (.tmp 11), none⟩, ⟨(some 69), .mov (.tmp 12), none⟩, ⟨(some 70), .bin .gtr (.tmp 68) (.tmp 69), none⟩])
 (.cond (.tmp 70) (.exit 0) .skip))
 (.seq (.dreg [(false, ⟨(some 71), .mov (.tmp 0), none⟩, false), (false, ⟨(some 72), .mov (.tmp 11), none⟩, false), (false, ⟨(some 73), .mov (.tmp 0), none⟩, false), (false, ⟨(some 74), .mov (.tmp 12), none⟩, false), (false, ⟨(some 75), .mov (.tmp 0), none⟩, false), (false, ⟨(some 76), .mov (.tmp 12), none⟩, false), (false, ⟨(some 77), .iaddrL 2 (.tmp 75) (.tmp 76), none⟩, false), (false, ⟨(some 78), .load (some 2) (.tmp 77), none⟩, false), (false, ⟨(some 79), .mov (.tmp 0), none⟩, false), (false, ⟨(some 80), .mov (.tmp 11), none⟩, false), (false, ⟨(some 81), .iaddrL 2 (.tmp 79) (.tmp 80), none⟩, false), (false, ⟨(some 82), .load (some 2) (.tmp 81), none⟩, false), (false, ⟨(some 83), .iaddrL 2 (.tmp 71) (.tmp 72), none⟩, false), (false, ⟨none, .store 2 (.tmp 83) (.tmp 78), none⟩, false), (false, ⟨(some 84), .iaddrL 2 (.tmp 73) (.tmp 74), none⟩, false), (false, ⟨none, .store 2 (.tmp 84) (.tmp 82), none⟩, false)])
 (.seq (.reg [⟨(some 85), .mov (.tmp 11), none⟩, ⟨(some 86), .bin .add (.tmp 85) (.val (.int .i64 1)), none⟩, ⟨(some 11), .mov (.tmp 86), none⟩])
 (.reg [⟨(some 87), .mov (.tmp 12), none⟩, ⟨(some 88), .bin .sub (.tmp 87) (.val (.int .i64 1)), none⟩, ⟨(some 12), .mov (.tmp 88), none⟩])))))))
def a73_L3 : AC := .loop a73_B3
theorem a73_L3_step (call : Caller) (again : AC → St → Option (Ex × St)) (s : St) : codeEv call again a73_L3 s = match codeEv call again a73_B3 s with | some (.norm, s1) => again a73_L3 s1 | r => r := rfl
def a73 : AFn := { n := 90, np := 5, res := [.tmp 10], body :=
 (.seq (.reg [⟨(some 10), .mov (.val (.int .i64 0)), none⟩])
 (.seq (.dreg [(false, ⟨(some 13), .mov (.tmp 0), none⟩, false), (false, ⟨(some 14), .mov (.tmp 1), none⟩, false), (false, ⟨(some 15), .mov (.tmp 0), none⟩, false), (false, ⟨(some 16), .mov (.tmp 3), none⟩, false), (false, ⟨(some 17), .mov (.tmp 0), none⟩, false), (false, ⟨(some 18), .mov (.tmp 3), none⟩, false), (false, ⟨(some 19), .iaddrL 2 (.tmp 17) (.tmp 18), none⟩, false), (false, ⟨(some 20), .load (some 2) (.tmp 19), none⟩, false), (false, ⟨(some 21), .mov (.tmp 0), none⟩, false), (false, ⟨(some 22), .mov (.tmp 1), none⟩, false), (false, ⟨(some 23), .iaddrL 2 (.tmp 21) (.tmp 22), none⟩, false), (false, ⟨(some 24), .load (some 2) (.tmp 23), none⟩, false), (false, ⟨(some 25), .iaddrL 2 (.tmp 13) (.tmp 14), none⟩, false), (false, ⟨none, .store 2 (.tmp 25) (.tmp 20), none⟩, false), (false, ⟨(some 26), .iaddrL 2 (.tmp 15) (.tmp 16), none⟩, false), (false, ⟨none, .store 2 (.tmp 26) (.tmp 24), none⟩, false)])
 (.seq (.reg [⟨(some 27), .mov (.tmp 1), none⟩, ⟨(some 28), .bin .add (.tmp 27) (.val (.int .i64 1)), none⟩, ⟨(some 29), .mov (.tmp 2), none⟩, ⟨(some 30), .bin .sub (.tmp 29) (.val (.int .i64 1)), none⟩, ⟨(some 11), .mov (.tmp 28), none⟩, ⟨(some 12), .mov (.tmp 30), none⟩])
 (.seq (.block 0 a73_L3)
 (.seq (.reg [⟨(some 89), .mov (.tmp 11), none⟩, ⟨(some 10), .mov (.tmp 89), none⟩])
 .ret))))) }
def h74 : Hints := ⟨[], [], []⟩
def a74_B1 : AC := (.seq (.seq (.dreg [(false, ⟨(some 123), .mov (.tmp 12), none⟩, false), (false, ⟨(some 124), .mov (.tmp 13), none⟩, false), (false, ⟨(some 125), .bin .leq (.tmp 123) (.tmp 124), none⟩, false), (false, ⟨(some 126), .mov (.tmp 125), none⟩, false), (false, ⟨(some 127), .mov (.tmp 4), (some (126, true))⟩, false), (false, ⟨(some 128), .mov (.tmp 0), (some (126, true))⟩, false), (false, ⟨(some 129), .mov (.tmp 13), (some (126, true))⟩, false), (false, ⟨(some 130), .iaddrL 2 (.tmp 128) (.tmp 129), (some (126, true))⟩, false), (false, ⟨(some 131), .load (some 2) (.tmp 130), (some (126, true))⟩, false), (false, ⟨(some 132), .mov (.tmp 0), (some (126, true))⟩, false), (false, ⟨(some 133), .mov (.tmp 1), (some (126, true))⟩, false), (false, ⟨(some 134), .iaddrL 2 (.tmp 132) (.tmp 133), (some (126, true))⟩, false), (false, ⟨(some 135), .load (some 2) (.tmp 134), (some (126, true))⟩, false), (false, ⟨(some 136), .callv (.tmp 127) [(.tmp 131), (.tmp 135)], (some (126, true))⟩, false), (false, ⟨(some 137), .bin .lss (.tmp 136) (.val (.int .i64 0)), (some (126, true))⟩, false), (false, ⟨(some 138), .un .not (.tmp 137), (some (126, true))⟩, false), (false, ⟨(some 139), .pick (.tmp 126) (.tmp 138) (.val (.bool false)), none⟩, false)])
 (.cond (.tmp 139) .skip (.exit 8)))
 (.block 9 (.reg [⟨(some 140), .mov (.tmp 13), none⟩, ⟨(some 141), .bin .sub (.tmp 140) (.val (.int .i64 1)), none⟩, ⟨(some 13), .mov (.tmp 141), none⟩])))
def a74_L1 : AC := .loop a74_B1
theorem a74_L1_step (call : Caller) (again : AC → St → Option (Ex × St)) (s : St) : codeEv call again a74_L1 s = match codeEv call again a74_B1 s with | some (.norm, s1) => again a74_L1 s1 | r => r := rfl
def a74_B2 : AC := (.seq (.seq (.dreg [(false, ⟨(some 105), .mov (.tmp 12), none⟩, false), (false, ⟨(some 106), .mov (.tmp 13), none⟩, false), (false, ⟨(some 107), .bin .leq (.tmp 105) (.tmp 106), none⟩, false), (false, ⟨(some 108), .mov (.tmp 107), none⟩, false), (false, ⟨(some 109), .mov (.tmp 4), (some (108, true))⟩, false), (false, ⟨(some 110), .mov (.tmp 0), (some (108, true))⟩, false), (false, ⟨(some 111), .mov (.tmp 12), (some (108, true))⟩, false), (false, ⟨(some 112), .iaddrL 2 (.tmp 110) (.tmp 111), (some (108, true))⟩, false), (false, ⟨(some 113), .load (some 2) (.tmp 112), (some (108, true))⟩, false), (false, ⟨(some 114), .mov (.tmp 0), (some (108, true))⟩, false), (false, ⟨(some 115), .mov (.tmp 1), (some (108, true))⟩, false), (false, ⟨(some 116), .iaddrL 2 (.tmp 114) (.tmp 115), (some (108, true))⟩, false), (false, ⟨(some 117), .load (some 2) (.tmp 116), (some (108, true))⟩, false), (false, ⟨(some 118), .callv (.tmp 109) [(.tmp 113), (.tmp 117)], (some (108, true))⟩, false), (false, ⟨(some 119), .bin .lss (.tmp 118) (.val (.int .i64 0)), (some (108, true))⟩, false), (false, ⟨(some 120), .pick (.tmp 108) (.tmp 119) (.val (.bool false)), none⟩, false)])
 (.cond (.tmp 120) .skip (.exit 6)))
 (.block 7 (.reg [⟨(some 121), .mov (.tmp 12), none⟩, ⟨(some 122), .bin .add (.tmp 121) (.val (.int .i64 1)), none⟩, ⟨(some 12), .mov (.tmp 122), none⟩])))
def a74_L2 : AC := .loop a74_B2
theorem a74_L2_step (call : Caller) (again : AC → St → Option (Ex × St)) (s : St) : codeEv call again a74_L2 s = match codeEv call again a74_B2 s with | some (.norm, s1) => again a74_L2 s1 | r => r := rfl
def a74_B3 : AC := (.block 5 (.seq (.block 6 a74_L2)
 (.seq (.block 8 a74_L1)
 (.seq (.seq (.reg [⟨(some 142), .mov (.tmp 12), none⟩, ⟨(some 143), .mov (.tmp 13), none⟩, ⟨(some 144), .bin .gtr (.tmp 142) (.tmp 143), none⟩])
 (.cond (.tmp 144) (.exit 4) .skip))
 (.seq (.dreg [(false, ⟨(some 145), .mov (.tmp 0), none⟩, false), (false, ⟨(some 146), .mov (.tmp 12), none⟩, false), (false, ⟨(some 147), .mov (.tmp 0), none⟩, false), (false, ⟨(some 148), .mov (.tmp 13), none⟩, false), (false, ⟨(some 149), .mov (.tmp 0), none⟩, false), (false, ⟨(some 150), .mov (.tmp 13), none⟩, false), (false, ⟨(some 151), .iaddrL 2 (.tmp 149) (.tmp 150), none⟩, false), (false, ⟨(some 152), .load (some 2) (.tmp 151), none⟩, false), (false, ⟨(some 153), .mov (.tmp 0), none⟩, false), (false, ⟨(some 154), .mov (.tmp 12), none⟩, false), (false, ⟨(some 155), .iaddrL 2 (.tmp 153) (.tmp 154), none⟩, false), (false, ⟨(some 156), .load (some 2) (.tmp 155), none⟩, false), (false, ⟨(some 157), .iaddrL 2 (.tmp 145) (.tmp 146), none⟩, false), (false, ⟨none, .store 2 (.tmp 157) (.tmp 152), none⟩, false), (false, ⟨(some 158), .iaddrL 2 (.tmp 147) (.tmp 148), none⟩, false), (false, ⟨none, .store 2 (.tmp 158) (.tmp 156), none⟩, false)])
 (.seq (.reg [⟨(some 159), .mov (.tmp 12), none⟩, ⟨(some 160), .bin .add (.tmp 159) (.val (.int .i64 1)), none⟩, ⟨(some 12), .mov (.tmp 160), none⟩])
 (.reg [⟨(some 161), .mov (.tmp 13), none⟩, ⟨(some 162), .bin .sub (.tmp 161) (.val (.int .i64 1)), none⟩, ⟨(some 13), .mov (.tmp 162), none⟩])))))))
def a74_L3 : AC := .loop a74_B3
theorem a74_L3_step (call : Caller) (again : AC → St → Option (Ex × St)) (s : St) : codeEv call again a74_L3 s = match codeEv call again a74_B3 s with | some (.norm, s1) => again a74_L3 s1 | r => r := rfl
def a74_B4 : AC := (.seq (.seq (.dreg [(false, ⟨(some 50), .mov (.tmp 12), none⟩, false), (false, ⟨(some 51), .mov (.tmp 13), none⟩, false), (false, ⟨(some 52), .bin .leq (.tmp 50) (.tmp 51), none⟩, false), (false, ⟨(some 53), .mov (.tmp 52), none⟩, false), (false, ⟨(some 54), .mov (.tmp 4), (some (53, true))⟩, false), (false, ⟨(some 55), .mov (.tmp 0), (some (53, true))⟩, false), (false, ⟨(some 56), .mov (.tmp 13), (some (53, true))⟩, false), (false, ⟨(some 57), .iaddrL 2 (.tmp 55) (.tmp 56), (some (53, true))⟩, false), (false, ⟨(some 58), .load (some 2) (.tmp 57), (some (53, true))⟩, false), (false, ⟨(some 59), .mov (.tmp 0), (some (53, true))⟩, false), (false, ⟨(some 60), .mov (.tmp 1), (some (53, true))⟩, false), (false, ⟨(some 61), .iaddrL 2 (.tmp 59) (.tmp 60), (some (53, true))⟩, false), (false, ⟨(some 62), .load (some 2) (.tmp 61), (some (53, true))⟩, false), (false, ⟨(some 63), .callv (.tmp 54) [(.tmp 58), (.tmp 62)], (some (53, true))⟩, false), (false, ⟨(some 64), .bin .lss (.tmp 63) (.val (.int .i64 0)), (some (53, true))⟩, false), (false, ⟨(some 65), .un .not (.tmp 64), (some (53, true))⟩, false), (false, ⟨(some 66), .pick (.tmp 53) (.tmp 65) (.val (.bool false)), none⟩, false)])
 (.cond (.tmp 66) .skip (.exit 2)))
 (.block 3 (.reg [⟨(some 67), .mov (.tmp 13), none⟩, ⟨(some 68), .bin .sub (.tmp 67) (.val (.int .i64 1)), none⟩, ⟨(some 13), .mov (.tmp 68), none⟩])))
def a74_L4 : AC := .loop a74_B4
theorem a74_L4_step (call : Caller) (again : AC → St → Option (Ex × St)) (s : St) : codeEv call again a74_L4 s = match codeEv call again a74_B4 s with | some (.norm, s1) => again a74_L4 s1 | r => r := rfl
def a74_B5 : AC := (.seq (.seq (.dreg [(false, ⟨(some 32), .mov (.tmp 12), none⟩, false), (false, ⟨(some 33), .mov (.tmp 13), none⟩, false), (false, ⟨(some 34), .bin .leq (.tmp 32) (.tmp 33), none⟩, false), (false, ⟨(some 35), .mov (.tmp 34), none⟩, false), (false, ⟨(some 36), .mov (.tmp 4), (some (35, true))⟩, false), (false, ⟨(some 37), .mov (.tmp 0), (some (35, true))⟩, false), (false, ⟨(some 38), .mov (.tmp 12), (some (35, true))⟩, false), (false, ⟨(some 39), .iaddrL 2 (.tmp 37) (.tmp 38), (some (35, true))⟩, false), (false, ⟨(some 40), .load (some 2) (.tmp 39), (some (35, true))⟩, false), (false, ⟨(some 41), .mov (.tmp 0), (some (35, true))⟩, false), (false, ⟨(some 42), .mov (.tmp 1), (some (35, true))⟩, false), (false, ⟨(some 43), .iaddrL 2 (.tmp 41) (.tmp 42), (some (35, true))⟩, false), (false, ⟨(some 44), .load (some 2) (.tmp 43), (some (35, true))⟩, false), (false, ⟨(some 45), .callv (.tmp 36) [(.tmp 40), (.tmp 44)], (some (35, true))⟩, false), (false, ⟨(some 46), .bin .lss (.tmp 45) (.val (.int .i64 0)), (some (35, true))⟩, false), (false, ⟨(some 47), .pick (.tmp 35) (.tmp 46) (.val (.bool false)), none⟩, false)])
 (.cond (.tmp 47) .skip (.exit 0)))
 (.block 1 (.reg [⟨(some 48), .mov (.tmp 12), none⟩, ⟨(some 49), .bin .add (.tmp 48) (.val (.int .i64 1)), none⟩, ⟨(some 12), .mov (.tmp 49), none⟩])))
def a74_L5 : AC := .loop a74_B5
theorem a74_L5_step (call : Caller) (again : AC → St → Option (Ex × St)) (s : St) : codeEv call again a74_L5 s = match codeEv call again a74_B5 s with | some (.norm, s1) => again a74_L5 s1 | r => r := rfl
def a74 : AFn := { n := 178, np := 5, res := [.tmp 10, .tmp 11], body :=
 (.seq (.reg [⟨(some 10), .mov (.val (.int .i64 0)), none⟩, ⟨(some 11), .mov (.val (.bool false)), none⟩])
 (.seq (.dreg [(false, ⟨(some 14), .mov (.tmp 0), none⟩, false), (false, ⟨(some 15), .mov (.tmp 1), none⟩, false), (false, ⟨(some 16), .mov (.tmp 0), none⟩, false), (false, ⟨(some 17), .mov (.tmp 3), none⟩, false), (false, ⟨(some 18), .mov (.tmp 0), none⟩, false), (false, ⟨(some 19), .mov (.tmp 3), none⟩, false), (false, ⟨(some 20), .iaddrL 2 (.tmp 18) (.tmp 19), none⟩, false), (false, ⟨(some 21), .load (some 2) (.tmp 20), none⟩, false), (false, ⟨(some 22), .mov (.tmp 0), none⟩, false), (false, ⟨(some 23), .mov (.tmp 1), none⟩, false), (false, ⟨(some 24), .iaddrL 2 (.tmp 22) (.tmp 23), none⟩, false), (false, ⟨(some 25), .load (some 2) (.tmp 24), none⟩, false), (false, ⟨(some 26), .iaddrL 2 (.tmp 14) (.tmp 15), none⟩, false), (false, ⟨none, .store 2 (.tmp 26) (.tmp 21), none⟩, false), (false, ⟨(some 27), .iaddrL 2 (.tmp 16) (.tmp 17), none⟩, false), (false, ⟨none, .store 2 (.tmp 27) (.tmp 25), none⟩, false)])
 (.seq (.reg [⟨(some 28), .mov (.tmp 1), none⟩, ⟨(some 29), .bin .add (.tmp 28) (.val (.int .i64 1)), none⟩, ⟨(some 30), .mov (.tmp 2), none⟩, ⟨(some 31), .bin .sub (.tmp 30) (.val (.int .i64 1)), none⟩, ⟨(some 12), .mov (.tmp 29), none⟩, ⟨(some 13), .mov (.tmp 31), none⟩])
 (.seq (.block 0 a74_L5)
 (.seq (.block 2 a74_L4)
 (.seq (.seq (.reg [⟨(some 69), .mov (.tmp 12), none⟩, ⟨(some 70), .mov (.tmp 13), none⟩, ⟨(some 71), .bin .gtr (.tmp 69) (.tmp 70), none⟩])
 (.cond (.tmp 71) (.seq (.dreg [(false, ⟨(some 72), .mov (.tmp 0), none⟩, false), (false, ⟨(some 73), .mov (.tmp 13), none⟩, false), (false, ⟨(some 74), .mov (.tmp 0), none⟩, false), (false, ⟨(some 75), .mov (.tmp 1), none⟩, false), (false, ⟨(some 76), .mov (.tmp 0), none⟩, false), (false, ⟨(some 77), .mov (.tmp 1), none⟩, false), (false, ⟨(some 78), .iaddrL 2 (.tmp 76) (.tmp 77), none⟩, false), (false, ⟨(some 79), .load (some 2) (.tmp 78), none⟩, false), (false, ⟨(some 80), .mov (.tmp 0), none⟩, false), (false, ⟨(some 81), .mov (.tmp 13), none⟩, false), (false, ⟨(some 82), .iaddrL 2 (.tmp 80) (.tmp 81), none⟩, false), (false, ⟨(some 83), .load (some 2) (.tmp 82), none⟩, false), (false, ⟨(some 84), .iaddrL 2 (.tmp 72) (.tmp 73), none⟩, false), (false, ⟨none, .store 2 (.tmp 84) (.tmp 79), none⟩, false), (false, ⟨(some 85), .iaddrL 2 (.tmp 74) (.tmp 75), none⟩, false), (false, ⟨none, .store 2 (.tmp 85) (.tmp 83), none⟩, false)])
 (.seq (.reg [⟨(some 86), .mov (.tmp 13), none⟩, ⟨(some 10), .mov (.tmp 86), none⟩, ⟨(some 11), .mov (.val (.bool true)), none⟩])
 .ret)) .skip))
 (.seq (.dreg [(false, ⟨(some 87), .mov (.tmp 0), none⟩, false), (false, ⟨(some 88), .mov (.tmp 12), none⟩, false), (false, ⟨(some 89), .mov (.tmp 0), none⟩, false), (false, ⟨(some 90), .mov (.tmp 13), none⟩, false), (false, ⟨(some 91), .mov (.tmp 0), none⟩, false), (false, ⟨(some 92), .mov (.tmp 13), none⟩, false), (false, ⟨(some 93), .iaddrL 2 (.tmp 91) (.tmp 92), none⟩, false), (false, ⟨(some 94), .load (some 2) (.tmp 93), none⟩, false), (false, ⟨(some 95), .mov (.tmp 0), none⟩, false), (false, ⟨(some 96), .mov (.tmp 12), none⟩, false), (false, ⟨(some 97), .iaddrL 2 (.tmp 95) (.tmp 96), none⟩, false), (false, ⟨(some 98), .load (some 2) (.tmp 97), none⟩, false), (false, ⟨(some 99), .iaddrL 2 (.tmp 87) (.tmp 88), none⟩, false), (false, ⟨none, .store 2 (.tmp 99) (.tmp 94), none⟩, false), (false, ⟨(some 100), .iaddrL 2 (.tmp 89) (.tmp 90), none⟩, false), (false, ⟨none, .store 2 (.tmp 100) (.tmp 98), none⟩, false)])
 (.seq (.reg [⟨(some 101), .mov (.tmp 12), none⟩, ⟨(some 102), .bin .add (.tmp 101) (.val (.int .i64 1)), none⟩, ⟨(some 12), .mov (.tmp 102), none⟩])
 (.seq (.reg [⟨(some 103), .mov (.tmp 13), none⟩, ⟨(some 104), .bin .sub (.tmp 103) (.val (.int .i64 1)), none⟩, ⟨(some 13), .mov (.tmp 104), none⟩])
 (.seq (.block 4 a74_L3)
 (.seq (.dreg [(false, ⟨(some 163), .mov (.tmp 0), none⟩, false), (false, ⟨(some 164), .mov (.tmp 13), none⟩, false), (false, ⟨(some 165), .mov (.tmp 0), none⟩, false), (false, ⟨(some 166), .mov (.tmp 1), none⟩, false), (false, ⟨(some 167), .mov (.tmp 0), none⟩, false), (false, ⟨(some 168), .mov (.tmp 1), none⟩, false), (false, ⟨(some 169), .iaddrL 2 (.tmp 167) (.tmp 168), none⟩, false), (false, ⟨(some 170), .load (some 2) (.tmp 169), none⟩, false), (false, ⟨(some 171), .mov (.tmp 0), none⟩, false), (false, ⟨(some 172), .mov (.tmp 13), none⟩, false), (false, ⟨(some 173), .iaddrL 2 (.tmp 171) (.tmp 172), none⟩, false), (false, ⟨(some 174), .load (some 2) (.tmp 173), none⟩, false), (false, ⟨(some 175), .iaddrL 2 (.tmp 163) (.tmp 164), none⟩, false), (false, ⟨none, .store 2 (.tmp 175) (.tmp 170), none⟩, false), (false, ⟨(some 176), .iaddrL 2 (.tmp 165) (.tmp 166), none⟩, false), (false, ⟨none, .store 2 (.tmp 176) (.tmp 174), none⟩, false)])
 (.seq (.reg [⟨(some 177), .mov (.tmp 13), none⟩, ⟨(some 10), .mov (.tmp 177), none⟩, ⟨(some 11), .mov (.val (.bool false)), none⟩])
 .ret)))))))))))) }
def h75 : Hints := ⟨[], [], []⟩
def a75_B1 : AC := (.block 1 (.seq (.reg [⟨(some 11), .mov (.tmp 8), none⟩, ⟨(some 12), .bin .mul (.val (.int .i64 2)) (.tmp 11), none⟩, ⟨(some 13), .bin .add (.tmp 12) (.val (.int .i64 1)), none⟩, ⟨(some 9), .mov (.tmp 13), none⟩])
 (.seq (.seq (.reg [⟨(some 14), .mov (.tmp 9), none⟩, ⟨(some 15), .mov (.tmp 2), none⟩, ⟨(some 16), .bin .geq (.tmp 14) (.tmp 15), none⟩])
 (.cond (.tmp 16) (.exit 0) .skip))
 (.seq (.seq (.dreg [(false, ⟨(some 17), .mov (.tmp 9), none⟩, false), (false, ⟨(some 18), .bin .add (.tmp 17) (.val (.int .i64 1)), none⟩, false), (false, ⟨(some 19), .mov (.tmp 2), none⟩, false), (false, ⟨(some 20), .bin .lss (.tmp 18) (.tmp 19), none⟩, false), (false, ⟨(some 21), .mov (.tmp 20), none⟩, false), (false, ⟨(some 22), .mov (.tmp 0), (some (21, true))⟩, false), (false, ⟨(some 23), .mov (.tmp 3), (some (21, true))⟩, false), (false, ⟨(some 24), .mov (.tmp 9), (some (21, true))⟩, false), (false, ⟨(some 25), .bin .add (.tmp 23) (.tmp 24), (some (21, true))⟩, false), (false, ⟨(some 26), .iaddrL 1 (.tmp 22) (.tmp 25), (some (21, true))⟩, false), (false, ⟨(some 27), .load none (.tmp 26), (some (21, true))⟩, false), (false, ⟨(some 28), .mov (.tmp 0), (some (21, true))⟩, false), (false, ⟨(some 29), .mov (.tmp 3), (some (21, true))⟩, false), (false, ⟨(some 30), .mov (.tmp 9), (some (21, true))⟩, false), (false, ⟨(some 31), .bin .add (.tmp 29) (.tmp 30), (some (21, true))⟩, false), (false, ⟨(some 32), .bin .add (.tmp 31) (.val (.int .i64 1)), (some (21, true))⟩, false), (false, ⟨(some 33), .iaddrL 1 (.tmp 28) (.tmp 32), (some (21, true))⟩, false), (false, ⟨(some 34), .load none (.tmp 33), (some (21, true))⟩, false), (false, ⟨(some 35), .call 41 [(.tmp 27), (.tmp 34)], (some (21, true))⟩, false), (false, ⟨(some 36), .pick (.tmp 21) (.tmp 35) (.val (.bool false)), none⟩, false)])
 (.cond (.tmp 36) (.reg [⟨(some 37), .mov (.tmp 9), none⟩, ⟨(some 38), .bin .add (.tmp 37) (.val (.int .i64 1)), none⟩, ⟨(some 9), .mov (.tmp 38), none⟩]) .skip))
 (.seq (.seq (.dreg [(false, ⟨(some 39), .mov (.tmp 0), none⟩, false), (false, ⟨(some 40), .mov (.tmp 3), none⟩, false), (false, ⟨(some 41), .mov (.tmp 8), none⟩, false), (false, ⟨(some 42), .bin .add (.tmp 40) (.tmp 41), none⟩, false), (false, ⟨(some 43), .iaddrL 1 (.tmp 39) (.tmp 42), none⟩, false), (false, ⟨(some 44), .load none (.tmp 43), none⟩, false), (false, ⟨(some 45), .mov (.tmp 0), none⟩, false), (false, ⟨(some 46), .mov (.tmp 3), none⟩, false), (false, ⟨(some 47), .mov (.tmp 9), none⟩, false), (false, ⟨(some 48), .bin .add (.tmp 46) (.tmp 47), none⟩, false), (false, ⟨(some 49), .iaddrL 1 (.tmp 45) (.tmp 48), none⟩, false), (false, ⟨(some 50), .load none (.tmp 49), none⟩, false), (false, ⟨(some 51), .call 41 [(.tmp 44), (.tmp 50)], none⟩, false), (false, ⟨(some 52), .un .not (.tmp 51), none⟩, false)])
 (.cond (.tmp 52) .ret .skip))
 (.seq (.dreg [(false, ⟨(some 53), .mov (.tmp 0), none⟩, false), (false, ⟨(some 54), .mov (.tmp 3), none⟩, false), (false, ⟨(some 55), .mov (.tmp 8), none⟩, false), (false, ⟨(some 56), .bin .add (.tmp 54) (.tmp 55), none⟩, false), (false, ⟨(some 57), .mov (.tmp 0), none⟩, false), (false, ⟨(some 58), .mov (.tmp 3), none⟩, false), (false, ⟨(some 59), .mov (.tmp 9), none⟩, false), (false, ⟨(some 60), .bin .add (.tmp 58) (.tmp 59), none⟩, false), (false, ⟨(some 61), .mov (.tmp 0), none⟩, false), (false, ⟨(some 62), .mov (.tmp 3), none⟩, false), (false, ⟨(some 63), .mov (.tmp 9), none⟩, false), (false, ⟨(some 64), .bin .add (.tmp 62) (.tmp 63), none⟩, false), (false, ⟨(some 65), .iaddrL 1 (.tmp 61) (.tmp 64), none⟩, false), (false, ⟨(some 66), .load none (.tmp 65), none⟩, false), (false, ⟨(some 67), .mov (.tmp 0), none⟩, false), (false, ⟨(some 68), .mov (.tmp 3), none⟩, false), (false, ⟨(some 69), .mov (.tmp 8), none⟩, false), (false, ⟨(some 70), .bin .add (.tmp 68) (.tmp 69), none⟩, false), (false, ⟨(some 71), .iaddrL 1 (.tmp 67) (.tmp 70), none⟩, false), (false, ⟨(some 72), .load none (.tmp 71), none⟩, false), (false, ⟨(some 73), .iaddrL 1 (.tmp 53) (.tmp 56), none⟩, false), (false, ⟨none, .store 1 (.tmp 73) (.tmp 66), none⟩, false), (false, ⟨(some 74), .iaddrL 1 (.tmp 57) (.tmp 60), none⟩, false), (false, ⟨none, .store 1 (.tmp 74) (.tmp 72), none⟩, false)])
 (.reg [⟨(some 75), .mov (.tmp 9), none⟩, ⟨(some 8), .mov (.tmp 75), none⟩])))))))
def a75_L1 : AC := .loop a75_B1
theorem a75_L1_step (call : Caller) (again : AC → St → Option (Ex × St)) (s : St) : codeEv call again a75_L1 s = match codeEv call again a75_B1 s with | some (.norm, s1) => again a75_L1 s1 | r => r := rfl
def a75 : AFn := { n := 76, np := 4, res := [], body :=
 (.seq (.reg [⟨(some 10), .mov (.tmp 1), none⟩, ⟨(some 8), .mov (.tmp 10), none⟩])
 (.block 0 a75_L1)) }
def h76 : Hints := ⟨[], [], []⟩
def a76 : AFn := { n := 7, np := 1, res := [.tmp 2], body :=
 (.seq (.reg [⟨(some 2), .mov (.val (.int .u64 0)), none⟩])
 (.seq (.reg [⟨(some 3), .mov (.tmp 0), none⟩, ⟨(some 4), .conv .u64 (.tmp 3), none⟩, ⟨(some 5), .call 47 [(.tmp 4)], none⟩, ⟨(some 6), .bin .shl (.val (.int .u64 1)) (.tmp 5), none⟩, ⟨(some 2), .mov (.tmp 6), none⟩])
 .ret)) }
def h77 : Hints := ⟨[], [], []⟩
def a77 : AFn := { n := 33, np := 1, res := [.tmp 2], body :=
 (.seq (.reg [⟨(some 2), .mov (.val (.int .u64 0)), none⟩])
 (.seq (.dreg [(false, ⟨(some 3), .mov (.tmp 0), none⟩, false), (false, ⟨(some 4), .nilck (.tmp 3), none⟩, false), (false, ⟨(some 5), .load none (.tmp 4), none⟩, false), (false, ⟨(some 6), .mov (.tmp 0), none⟩, false), (false, ⟨(some 7), .nilck (.tmp 6), none⟩, false), (false, ⟨(some 8), .load none (.tmp 7), none⟩, false), (false, ⟨(some 9), .bin .shl (.tmp 8) (.val (.int .u64 13)), none⟩, false), (false, ⟨(some 10), .bin .xor (.tmp 5) (.tmp 9), none⟩, false), (false, ⟨(some 11), .nilck (.tmp 3), none⟩, false), (false, ⟨none, .store 1 (.tmp 11) (.tmp 10), none⟩, false)])
 (.seq (.dreg [(false, ⟨(some 12), .mov (.tmp 0), none⟩, false), (false, ⟨(some 13), .nilck (.tmp 12), none⟩, false), (false, ⟨(some 14), .load none (.tmp 13), none⟩, false), (false, ⟨(some 15), .mov (.tmp 0), none⟩, false), (false, ⟨(some 16), .nilck (.tmp 15), none⟩, false), (false, ⟨(some 17), .load none (.tmp 16), none⟩, false), (false, ⟨(some 18), .bin .shr (.tmp 17) (.val (.int .u64 7)), none⟩, false), (false, ⟨(some 19), .bin .xor (.tmp 14) (.tmp 18), none⟩, false), (false, ⟨(some 20), .nilck (.tmp 12), none⟩, false), (false, ⟨none, .store 1 (.tmp 20) (.tmp 19), none⟩, false)])
 (.seq (.dreg [(false, ⟨(some 21), .mov (.tmp 0), none⟩, false), (false, ⟨(some 22), .nilck (.tmp 21), none⟩, false), (false, ⟨(some 23), .load none (.tmp 22), none⟩, false), (false, ⟨(some 24), .mov (.tmp 0), none⟩, false), (false, ⟨(some 25), .nilck (.tmp 24), none⟩, false), (false, ⟨(some 26), .load none (.tmp 25), none⟩, false), (false, ⟨(some 27), .bin .shl (.tmp 26) (.val (.int .u64 17)), none⟩, false), (false, ⟨(some 28), .bin .xor (.tmp 23) (.tmp 27), none⟩, false), (false, ⟨(some 29), .nilck (.tmp 21), none⟩, false), (false, ⟨none, .store 1 (.tmp 29) (.tmp 28), none⟩, false)])
 (.seq (.reg [⟨(some 30), .mov (.tmp 0), none⟩, ⟨(some 31), .nilck (.tmp 30), none⟩, ⟨(some 32), .load none (.tmp 31), none⟩, ⟨(some 2), .mov (.tmp 32), none⟩])
 .ret))))) }
def h78 : Hints := ⟨[], [], []⟩
def a78 : AFn := { n := 15, np := 3, res := [.tmp 6], body :=
 (.seq (.reg [⟨(some 6), .mov (.val (.int .i64 0)), none⟩])
 (.seq (.reg [⟨(some 7), .mov (.tmp 0), none⟩, ⟨(some 8), .mov (.tmp 1), none⟩, ⟨(some 9), .bin .sub (.tmp 8) (.val (.int .i64 1)), none⟩, ⟨(some 10), .mov (.tmp 1), none⟩, ⟨(some 11), .mov (.tmp 1), none⟩, ⟨(some 12), .bin .add (.tmp 11) (.val (.int .i64 1)), none⟩, ⟨(some 13), .mov (.tmp 2), none⟩, ⟨(some 14), .call 79 [(.tmp 7), (.tmp 9), (.tmp 10), (.tmp 12), (.tmp 13)], none⟩, ⟨(some 6), .mov (.tmp 14), none⟩])
 .ret)) }
def h79 : Hints := ⟨[], [], []⟩
def a79 : AFn := { n := 36, np := 5, res := [.tmp 10], body :=
 (.seq (.reg [⟨(some 10), .mov (.val (.int .i64 0)), none⟩])
 (.seq (.reg [⟨(some 12), .mov (.tmp 0), none⟩, ⟨(some 13), .mov (.tmp 1), none⟩, ⟨(some 14), .mov (.tmp 2), none⟩, ⟨(some 15), .mov (.tmp 4), none⟩, ⟨(some 16), .call 84 [(.tmp 12), (.tmp 13), (.tmp 14), (.tmp 15)], none⟩, ⟨(some 11), .mov (.tmp 16), none⟩, ⟨(some 17), .ext (.tmp 11) 0, none⟩, ⟨(some 18), .ext (.tmp 11) 1, none⟩, ⟨(some 1), .mov (.tmp 17), none⟩, ⟨(some 2), .mov (.tmp 18), none⟩])
 (.seq (.reg [⟨(some 20), .mov (.tmp 0), none⟩, ⟨(some 21), .mov (.tmp 2), none⟩, ⟨(some 22), .mov (.tmp 3), none⟩, ⟨(some 23), .mov (.tmp 4), none⟩, ⟨(some 24), .call 84 [(.tmp 20), (.tmp 21), (.tmp 22), (.tmp 23)], none⟩, ⟨(some 19), .mov (.tmp 24), none⟩, ⟨(some 25), .ext (.tmp 19) 0, none⟩, ⟨(some 26), .ext (.tmp 19) 1, none⟩, ⟨(some 2), .mov (.tmp 25), none⟩, ⟨(some 3), .mov (.tmp 26), none⟩])
 (.seq (.reg [⟨(some 28), .mov (.tmp 0), none⟩, ⟨(some 29), .mov (.tmp 1), none⟩, ⟨(some 30), .mov (.tmp 2), none⟩, ⟨(some 31), .mov (.tmp 4), none⟩, ⟨(some 32), .call 84 [(.tmp 28), (.tmp 29), (.tmp 30), (.tmp 31)], none⟩, ⟨(some 27), .mov (.tmp 32), none⟩, ⟨(some 33), .ext (.tmp 27) 0, none⟩, ⟨(some 34), .ext (.tmp 27) 1, none⟩, ⟨(some 1), .mov (.tmp 33), none⟩, ⟨(some 2), .mov (.tmp 34), none⟩])
 (.seq (.reg [⟨(some 35), .mov (.tmp 2), none⟩, ⟨(some 10), .mov (.tmp 35), none⟩])
 .ret))))) }
def h80 : Hints := ⟨[], [], []⟩
def a80 : AFn := { n := 70, np := 2, res := [.tmp 4], body :=
 (.seq (.reg [⟨(some 4), .mov (.val (.bool false)), none⟩])
 (.seq (.seq (.reg [⟨(some 5), .mov (.tmp 0), none⟩])
 (.block 0 (.seq (.reg [⟨(some 7), .bin .eql (.tmp 5) (.val (.int .i64 0)), none⟩, ⟨(some 6), .mov (.tmp 7), none⟩])
 (.cond (.tmp 6) (.seq (.reg [⟨(some 8), .mov (.tmp 1), none⟩, ⟨(some 9), .bin .eql (.tmp 8) (.val (.int .i64 0)), none⟩, ⟨(some 4), .mov (.tmp 9), none⟩])
 .ret) (.seq (.reg [⟨(some 11), .bin .eql (.tmp 5) (.val (.int .i64 1)), none⟩, ⟨(some 10), .mov (.tmp 11), none⟩])
 (.cond (.tmp 10) (.seq (.reg [⟨(some 12), .mov (.tmp 1), none⟩, ⟨(some 13), .bin .geq (.tmp 12) (.val (.int .i64 0)), none⟩, ⟨(some 14), .mov (.tmp 13), none⟩, ⟨(some 15), .mov (.tmp 1), (some (14, true))⟩, ⟨(some 16), .bin .leq (.tmp 15) (.val (.int .i64 1048576)), (some (14, true))⟩, ⟨(some 17), .pick (.tmp 14) (.tmp 16) (.val (.bool false)), none⟩, ⟨(some 4), .mov (.tmp 17), none⟩])
 .ret) (.seq (.reg [⟨(some 19), .bin .eql (.tmp 5) (.val (.int .i64 2)), none⟩, ⟨(some 18), .mov (.tmp 19), none⟩])
 (.cond (.tmp 18) (.seq (.reg [⟨(some 20), .mov (.tmp 1), none⟩, ⟨(some 21), .bin .geq (.tmp 20) (.val (.int .i64 0)), none⟩, ⟨(some 22), .mov (.tmp 21), none⟩, ⟨(some 23), .mov (.tmp 1), (some (22, true))⟩, ⟨(some 24), .bin .leq (.tmp 23) (.val (.int .i64 4294967295)), (some (22, true))⟩, ⟨(some 25), .pick (.tmp 22) (.tmp 24) (.val (.bool false)), none⟩, ⟨(some 4), .mov (.tmp 25), none⟩])
 .ret) (.seq (.reg [⟨(some 27), .bin .eql (.tmp 5) (.val (.int .i64 3)), none⟩, ⟨(some 26), .mov (.tmp 27), none⟩])
 (.cond (.tmp 26) (.seq (.reg [⟨(some 28), .mov (.tmp 1), none⟩, ⟨(some 29), .bin .eql (.tmp 28) (.val (.int .i64 8)), none⟩, ⟨(some 30), .mov (.tmp 29), none⟩, ⟨(some 31), .mov (.tmp 1), (some (30, false))⟩, ⟨(some 32), .bin .eql (.tmp 31) (.val (.int .i64 16)), (some (30, false))⟩, ⟨(some 33), .pick (.tmp 30) (.val (.bool true)) (.tmp 32), none⟩, ⟨(some 34), .mov (.tmp 33), none⟩, ⟨(some 35), .mov (.tmp 1), (some (34, false))⟩, ⟨(some 36), .bin .eql (.tmp 35) (.val (.int .i64 32)), (some (34, false))⟩, ⟨(some 37), .pick (.tmp 34) (.val (.bool true)) (.tmp 36), none⟩, ⟨(some 4), .mov (.tmp 37), none⟩])
 .ret) (.seq (.reg [⟨(some 39), .bin .eql (.tmp 5) (.val (.int .i64 4)), none⟩, ⟨(some 38), .mov (.tmp 39), none⟩])
 (.cond (.tmp 38) (.seq (.reg [⟨(some 40), .mov (.tmp 1), none⟩, ⟨(some 41), .bin .geq (.tmp 40) (.val (.int .i64 1)), none⟩, ⟨(some 42), .mov (.tmp 41), none⟩, ⟨(some 43), .mov (.tmp 1), (some (42, true))⟩, ⟨(some 44), .bin .leq (.tmp 43) (.val (.int .i64 1048576)), (some (42, true))⟩, ⟨(some 45), .pick (.tmp 42) (.tmp 44) (.val (.bool false)), none⟩, ⟨(some 4), .mov (.tmp 45), none⟩])
 .ret) (.seq (.reg [⟨(some 47), .bin .eql (.tmp 5) (.val (.int .i64 5)), none⟩, ⟨(some 46), .mov (.tmp 47), none⟩])
 (.cond (.tmp 46) (.seq (.reg [⟨(some 48), .mov (.tmp 1), none⟩, ⟨(some 49), .bin .geq (.tmp 48) (.val (.int .i64 0)), none⟩, ⟨(some 50), .mov (.tmp 49), none⟩, ⟨(some 51), .mov (.tmp 1), (some (50, true))⟩, ⟨(some 52), .bin .leq (.tmp 51) (.val (.int .i64 31)), (some (50, true))⟩, ⟨(some 53), .pick (.tmp 50) (.tmp 52) (.val (.bool false)), none⟩, ⟨(some 4), .mov (.tmp 53), none⟩])
 .ret) (.seq (.reg [⟨(some 55), .bin .eql (.tmp 5) (.val (.int .i64 6)), none⟩, ⟨(some 54), .mov (.tmp 55), none⟩])
 (.cond (.tmp 54) (.seq (.reg [⟨(some 56), .mov (.tmp 1), none⟩, ⟨(some 57), .bin .geq (.tmp 56) (.val (.int .i64 0)), none⟩, ⟨(some 58), .mov (.tmp 57), none⟩, ⟨(some 59), .mov (.tmp 1), (some (58, true))⟩, ⟨(some 60), .bin .leq (.tmp 59) (.val (.int .i64 15)), (some (58, true))⟩, ⟨(some 61), .pick (.tmp 58) (.tmp 60) (.val (.bool false)), none⟩, ⟨(some 4), .mov (.tmp 61), none⟩])
 .ret) (.seq (.reg [⟨(some 63), .bin .eql (.tmp 5) (.val (.int .i64 7)), none⟩, ⟨(some 62), .mov (.tmp 63), none⟩])
 (.cond (.tmp 62) (.seq (.reg [⟨(some 64), .mov (.tmp 1), none⟩, ⟨(some 65), .call 85 [(.tmp 64)], none⟩, ⟨(some 66), .bin .neq (.tmp 65) (.val (.str ⟨#[]⟩)), none⟩, ⟨(some 4), .mov (.tmp 66), none⟩])
 .ret) .skip))))))))))))))))))
 (.seq (.reg [⟨(some 67), .mov (.tmp 1), none⟩, ⟨(some 68), .call 86 [(.tmp 67)], none⟩, ⟨(some 69), .bin .neq (.tmp 68) (.val (.str ⟨#[]⟩)), none⟩, ⟨(some 4), .mov (.tmp 69), none⟩])
 .ret))) }
def h81 : Hints := ⟨[], [], []⟩
def a81_B1 : AC := (.block 1 (.seq (.reg [⟨(some 13), .mov (.tmp 10), none⟩, ⟨(some 14), .bin .mul (.val (.int .i64 2)) (.tmp 13), none⟩, ⟨(some 15), .bin .add (.tmp 14) (.val (.int .i64 1)), none⟩, ⟨(some 11), .mov (.tmp 15), none⟩])
 (.seq (.seq (.reg [⟨(some 16), .mov (.tmp 11), none⟩, ⟨(some 17), .mov (.tmp 2), none⟩, ⟨(some 18), .bin .geq (.tmp 16) (.tmp 17), none⟩])
 (.cond (.tmp 18) (.exit 0) .skip))
 (.seq (.seq (.dreg [(false, ⟨(some 19), .mov (.tmp 11), none⟩, false), (false, ⟨(some 20), .bin .add (.tmp 19) (.val (.int .i64 1)), none⟩, false), (false, ⟨(some 21), .mov (.tmp 2), none⟩, false), (false, ⟨(some 22), .bin .lss (.tmp 20) (.tmp 21), none⟩, false), (false, ⟨(some 23), .mov (.tmp 22), none⟩, false), (false, ⟨(some 24), .mov (.tmp 4), (some (23, true))⟩, false), (false, ⟨(some 25), .mov (.tmp 0), (some (23, true))⟩, false), (false, ⟨(some 26), .mov (.tmp 3), (some (23, true))⟩, false), (false, ⟨(some 27), .mov (.tmp 11), (some (23, true))⟩, false), (false, ⟨(some 28), .bin .add (.tmp 26) (.tmp 27), (some (23, true))⟩, false), (false, ⟨(some 29), .iaddrL 2 (.tmp 25) (.tmp 28), (some (23, true))⟩, false), (false, ⟨(some 30), .load (some 2) (.tmp 29), (some (23, true))⟩, false), (false, ⟨(some 31), .mov (.tmp 0), (some (23, true))⟩, false), (false, ⟨(some 32), .mov (.tmp 3), (some (23, true))⟩, false), (false, ⟨(some 33), .mov (.tmp 11), (some (23, true))⟩, false), (false, ⟨(some 34), .bin .add (.tmp 32) (.tmp 33), (some (23, true))⟩, false), (false, ⟨(some 35), .bin .add (.tmp 34) (.val (.int .i64 1)), (some (23, true))⟩, false), (false, ⟨(some 36), .iaddrL 2 (.tmp 31) (.tmp 35), (some (23, true))⟩, false), (false, ⟨(some 37), .load (some 2) (.tmp 36), (some (23, true))⟩, false), (false, ⟨(some 38), .callv (.tmp 24) [(.tmp 30), (.tmp 37)], (some (23, true))⟩, false), (false, ⟨(some 39), .bin .lss (.tmp 38) (.val (.int .i64 0)), (some (23, true))⟩, false), (false, ⟨(some 40), .pick (.tmp 23) (.tmp 39) (.val (.bool false)), none⟩, false)])
 (.cond (.tmp 40) (.reg [⟨(some 41), .mov (.tmp 11), none⟩, ⟨(some 42), .bin .add (.tmp 41) (.val (.int .i64 1)), none⟩, ⟨(some 11), .mov (.tmp 42), none⟩]) .skip))
 (.seq (.seq (.dreg [(false, ⟨(some 43), .mov (.tmp 4), none⟩, false), (false, ⟨(some 44), .mov (.tmp 0), none⟩, false), (false, ⟨(some 45), .mov (.tmp 3), none⟩, false), (false, ⟨(some 46), .mov (.tmp 10), none⟩, false), (false, ⟨(some 47), .bin .add (.tmp 45) (.tmp 46), none⟩, false), (false, ⟨(some 48), .iaddrL 2 (.tmp 44) (.tmp 47), none⟩, false), (false, ⟨(some 49), .load (some 2) (.tmp 48), none⟩, false), (false, ⟨(some 50), .mov (.tmp 0), none⟩, false), (false, ⟨(some 51), .mov (.tmp 3), none⟩, false), (false, ⟨(some 52), .mov (.tmp 11), none⟩, false), (false, ⟨(some 53), .bin .add (.tmp 51) (.tmp 52), none⟩, false), (false, ⟨(some 54), .iaddrL 2 (.tmp 50) (.tmp 53), none⟩, false), (false, ⟨(some 55), .load (some 2) (.tmp 54), none⟩, false), (false, ⟨(some 56), .callv (.tmp 43) [(.tmp 49), (.tmp 55)], none⟩, false), (false, ⟨(some 57), .bin .lss (.tmp 56) (.val (.int .i64 0)), none⟩, false), (false, ⟨(some 58), .un .not (.tmp 57), none⟩, false)])
 (.cond (.tmp 58) .ret .skip))
 (.seq (.dreg [(false, ⟨(some 59), .mov (.tmp 0), none⟩, false), (false, ⟨(some 60), .mov (.tmp 3), none⟩, false), (false, ⟨(some 61), .mov (.tmp 10), none⟩, false), (false, ⟨(some 62), .bin .add (.tmp 60) (.tmp 61), none⟩, false), (false, ⟨(some 63), .mov (.tmp 0), none⟩, false), (false, ⟨(some 64), .mov (.tmp 3), none⟩, false), (false, ⟨(some 65), .mov (.tmp 11), none⟩, false), (false, ⟨(some 66), .bin .add (.tmp 64) (.tmp 65), none⟩, false), (false, ⟨(some 67), .mov (.tmp 0), none⟩, false), (false, ⟨(some 68), .mov (.tmp 3), none⟩, false), (false, ⟨(some 69), .mov (.tmp 11), none⟩, false), (false, ⟨(some 70), .bin .add (.tmp 68) (.tmp 69), none⟩, false), (false, ⟨(some 71), .iaddrL 2 (.tmp 67) (.tmp 70), none⟩, false), (false, ⟨(some 72), .load (some 2) (.tmp 71), none⟩, false), (false, ⟨(some 73), .mov (.tmp 0), none⟩, false), (false, ⟨(some 74), .mov (.tmp 3), none⟩, false), (false, ⟨(some 75), .mov (.tmp 10), none⟩, false), (false, ⟨(some 76), .bin .add (.tmp 74) (.tmp 75), none⟩, false), (false, ⟨(some 77), .iaddrL 2 (.tmp 73) (.tmp 76), none⟩, false), (false, ⟨(some 78), .load (some 2) (.tmp 77), none⟩, false), (false, ⟨(some 79), .iaddrL 2 (.tmp 59) (.tmp 62), none⟩, false), (false, ⟨none, .store 2 (.tmp 79) (.tmp 72), none⟩, false), (false, ⟨(some 80), .iaddrL 2 (.tmp 63) (.tmp 66), none⟩, false), (false, ⟨none, .store 2 (.tmp 80) (.tmp 78), none⟩, false)])
 (.reg [⟨(some 81), .mov (.tmp 11), none⟩, ⟨(some 10), .mov (.tmp 81), none⟩])))))))
def a81_L1 : AC := .loop a81_B1
theorem a81_L1_step (call : Caller) (again : AC → St → Option (Ex × St)) (s : St) : codeEv call again a81_L1 s = match codeEv call again a81_B1 s with | some (.norm, s1) => again a81_L1 s1 | r => r := rfl
def a81 : AFn := { n := 82, np := 5, res := [], body :=
 (.seq (.reg [⟨(some 12), .mov (.tmp 1), none⟩, ⟨(some 10), .mov (.tmp 12), none⟩])
 (.block 0 a81_L1)) }
def h82 : Hints := ⟨[], [], []⟩
def a82 : AFn := { n := 18, np := 4, res := [.tmp 8], body :=
 (.seq (.reg [⟨(some 8), .mov (.val (.int .i64 0)), none⟩])
 (.seq (.reg [⟨(some 9), .mov (.tmp 0), none⟩, ⟨(some 10), .mov (.tmp 1), none⟩, ⟨(some 11), .bin .sub (.tmp 10) (.val (.int .i64 1)), none⟩, ⟨(some 12), .mov (.tmp 1), none⟩, ⟨(some 13), .mov (.tmp 1), none⟩, ⟨(some 14), .bin .add (.tmp 13) (.val (.int .i64 1)), none⟩, ⟨(some 15), .mov (.tmp 2), none⟩, ⟨(some 16), .mov (.tmp 3), none⟩, ⟨(some 17), .call 83 [(.tmp 9), (.tmp 11), (.tmp 12), (.tmp 14), (.tmp 15), (.tmp 16)], none⟩, ⟨(some 8), .mov (.tmp 17), none⟩])
 .ret)) }
def h83 : Hints := ⟨[], [], []⟩
def a83 : AFn := { n := 41, np := 6, res := [.tmp 12], body :=
 (.seq (.reg [⟨(some 12), .mov (.val (.int .i64 0)), none⟩])
 (.seq (.reg [⟨(some 14), .mov (.tmp 0), none⟩, ⟨(some 15), .mov (.tmp 1), none⟩, ⟨(some 16), .mov (.tmp 2), none⟩, ⟨(some 17), .mov (.tmp 4), none⟩, ⟨(some 18), .mov (.tmp 5), none⟩, ⟨(some 19), .call 87 [(.tmp 14), (.tmp 15), (.tmp 16), (.tmp 17), (.tmp 18)], none⟩, ⟨(some 13), .mov (.tmp 19), none⟩, ⟨(some 20), .ext (.tmp 13) 0, none⟩, ⟨(some 21), .ext (.tmp 13) 1, none⟩, ⟨(some 1), .mov (.tmp 20), none⟩, ⟨(some 2), .mov (.tmp 21), none⟩])
 (.seq (.reg [⟨(some 23), .mov (.tmp 0), none⟩, ⟨(some 24), .mov (.tmp 2), none⟩, ⟨(some 25), .mov (.tmp 3), none⟩, ⟨(some 26), .mov (.tmp 4), none⟩, ⟨(some 27), .mov (.tmp 5), none⟩, ⟨(some 28), .call 87 [(.tmp 23), (.tmp 24), (.tmp 25), (.tmp 26), (.tmp 27)], none⟩, ⟨(some 22), .mov (.tmp 28), none⟩, ⟨(some 29), .ext (.tmp 22) 0, none⟩, ⟨(some 30), .ext (.tmp 22) 1, none⟩, ⟨(some 2), .mov (.tmp 29), none⟩, ⟨(some 3), .mov (.tmp 30), none⟩])
 (.seq (.reg [⟨(some 32), .mov (.tmp 0), none⟩, ⟨(some 33), .mov (.tmp 1), none⟩, ⟨(some 34), .mov (.tmp 2), none⟩, ⟨(some 35), .mov (.tmp 4), none⟩, ⟨(some 36), .mov (.tmp 5), none⟩, ⟨(some 37), .call 87 [(.tmp 32), (.tmp 33), (.tmp 34), (.tmp 35), (.tmp 36)], none⟩, ⟨(some 31), .mov (.tmp 37), none⟩, ⟨(some 38), .ext (.tmp 31) 0, none⟩, ⟨(some 39), .ext (.tmp 31) 1, none⟩, ⟨(some 1), .mov (.tmp 38), none⟩, ⟨(some 2), .mov (.tmp 39), none⟩])
 (.seq (.reg [⟨(some 40), .mov (.tmp 2), none⟩, ⟨(some 12), .mov (.tmp 40), none⟩])
 .ret))))) }
def h84 : Hints := ⟨[], [], []⟩
def a84 : AFn := { n := 28, np := 4, res := [.tmp 8, .tmp 9], body :=
 (.seq (.reg [⟨(some 8), .mov (.val (.int .i64 0)), none⟩, ⟨(some 9), .mov (.val (.int .i64 0)), none⟩])
 (.seq (.seq (.dreg [(false, ⟨(some 10), .mov (.tmp 0), none⟩, false), (false, ⟨(some 11), .mov (.tmp 2), none⟩, false), (false, ⟨(some 12), .iaddrL 1 (.tmp 10) (.tmp 11), none⟩, false), (false, ⟨(some 13), .load none (.tmp 12), none⟩, false), (false, ⟨(some 14), .mov (.tmp 0), none⟩, false), (false, ⟨(some 15), .mov (.tmp 1), none⟩, false), (false, ⟨(some 16), .iaddrL 1 (.tmp 14) (.tmp 15), none⟩, false), (false, ⟨(some 17), .load none (.tmp 16), none⟩, false), (false, ⟨(some 18), .call 41 [(.tmp 13), (.tmp 17)], none⟩, false)])
 (.cond (.tmp 18) (.seq (.reg [⟨(some 19), .mov (.tmp 3), none⟩, ⟨(some 20), .nilck (.tmp 19), none⟩, ⟨(some 21), .load none (.tmp 20), none⟩, ⟨(some 22), .bin .add (.tmp 21) (.val (.int .i64 1)), none⟩, ⟨(some 23), .nilck (.tmp 19), none⟩, ⟨none, .store 1 (.tmp 23) (.tmp 22), none⟩])
 (.seq (.reg [⟨(some 24), .mov (.tmp 2), none⟩, ⟨(some 25), .mov (.tmp 1), none⟩, ⟨(some 8), .mov (.tmp 24), none⟩, ⟨(some 9), .mov (.tmp 25), none⟩])
 .ret)) .skip))
 (.seq (.reg [⟨(some 26), .mov (.tmp 1), none⟩, ⟨(some 27), .mov (.tmp 2), none⟩, ⟨(some 8), .mov (.tmp 26), none⟩, ⟨(some 9), .mov (.tmp 27), none⟩])
 .ret))) }
def h85 : Hints := ⟨[], [], []⟩
def a85 : AFn := { n := 9, np := 1, res := [.tmp 2], body :=
 (.seq (.reg [⟨(some 2), .mov (.val (.str ⟨#[]⟩)), none⟩])
 (.seq (.seq (.reg [⟨(some 3), .mov (.tmp 0), none⟩, ⟨(some 4), .call 88 [(.tmp 3)], none⟩, ⟨(some 5), .un .not (.tmp 4), none⟩])
 (.cond (.tmp 5) (.seq (.reg [⟨(some 2), .mov (.val (.str ⟨#[]⟩)), none⟩])
 .ret) .skip))
 (.seq (.reg [⟨(some 6), .mov (.tmp 0), none⟩, ⟨(some 7), .iaddrA 20 1 (.val (.ptr 2 0)) (.tmp 6), none⟩, ⟨(some 8), .load none (.tmp 7), none⟩, ⟨(some 2), .mov (.tmp 8), none⟩])
 .ret))) }
def h86 : Hints := ⟨[], [], []⟩
def a86 : AFn := { n := 10, np := 1, res := [.tmp 2], body :=
 (.seq (.reg [⟨(some 2), .mov (.val (.str ⟨#[]⟩)), none⟩])
 (.seq (.seq (.reg [⟨(some 3), .mov (.tmp 0), none⟩])
 (.block 0 (.seq (.reg [⟨(some 5), .bin .eql (.tmp 3) (.val (.int .i64 1)), none⟩, ⟨(some 4), .mov (.tmp 5), none⟩])
 (.cond (.tmp 4) (.seq (.reg [⟨(some 2), .mov (.val (.str ⟨#[110, 101, 103]⟩)), none⟩])
 .ret) (.seq (.reg [⟨(some 7), .bin .eql (.tmp 3) (.val (.int .i64 2)), none⟩, ⟨(some 6), .mov (.tmp 7), none⟩])
 (.cond (.tmp 6) (.seq (.reg [⟨(some 2), .mov (.val (.str ⟨#[110, 111, 116]⟩)), none⟩])
 .ret) (.seq (.reg [⟨(some 9), .bin .eql (.tmp 3) (.val (.int .i64 3)), none⟩, ⟨(some 8), .mov (.tmp 9), none⟩])
 (.cond (.tmp 8) (.seq (.reg [⟨(some 2), .mov (.val (.str ⟨#[122, 101, 114, 111]⟩)), none⟩])
 .ret) .skip))))))))
 (.seq (.reg [⟨(some 2), .mov (.val (.str ⟨#[]⟩)), none⟩])
 .ret))) }
def h87 : Hints := ⟨[], [], []⟩
def a87 : AFn := { n := 32, np := 5, res := [.tmp 10, .tmp 11], body :=
 (.seq (.reg [⟨(some 10), .mov (.val (.int .i64 0)), none⟩, ⟨(some 11), .mov (.val (.int .i64 0)), none⟩])
 (.seq (.seq (.dreg [(false, ⟨(some 12), .mov (.tmp 4), none⟩, false), (false, ⟨(some 13), .mov (.tmp 0), none⟩, false), (false, ⟨(some 14), .mov (.tmp 2), none⟩, false), (false, ⟨(some 15), .iaddrL 2 (.tmp 13) (.tmp 14), none⟩, false), (false, ⟨(some 16), .load (some 2) (.tmp 15), none⟩, false), (false, ⟨(some 17), .mov (.tmp 0), none⟩, false), (false, ⟨(some 18), .mov (.tmp 1), none⟩, false), (false, ⟨(some 19), .iaddrL 2 (.tmp 17) (.tmp 18), none⟩, false), (false, ⟨(some 20), .load (some 2) (.tmp 19), none⟩, false), (false, ⟨(some 21), .callv (.tmp 12) [(.tmp 16), (.tmp 20)], none⟩, false), (false, ⟨(some 22), .bin .lss (.tmp 21) (.val (.int .i64 0)), none⟩, false)])
 (.cond (.tmp 22) (.seq (.reg [⟨(some 23), .mov (.tmp 3), none⟩, ⟨(some 24), .nilck (.tmp 23), none⟩, ⟨(some 25), .load none (.tmp 24), none⟩, ⟨(some 26), .bin .add (.tmp 25) (.val (.int .i64 1)), none⟩, ⟨(some 27), .nilck (.tmp 23), none⟩, ⟨none, .store 1 (.tmp 27) (.tmp 26), none⟩])
 (.seq (.reg [⟨(some 28), .mov (.tmp 2), none⟩, ⟨(some 29), .mov (.tmp 1), none⟩, ⟨(some 10), .mov (.tmp 28), none⟩, ⟨(some 11), .mov (.tmp 29), none⟩])
 .ret)) .skip))
 (.seq (.reg [⟨(some 30), .mov (.tmp 1), none⟩, ⟨(some 31), .mov (.tmp 2), none⟩, ⟨(some 10), .mov (.tmp 30), none⟩, ⟨(some 11), .mov (.tmp 31), none⟩])
 .ret))) }
def h88 : Hints := ⟨[], [], []⟩
def a88 : AFn := { n := 9, np := 1, res := [.tmp 2], body :=
 (.seq (.reg [⟨(some 2), .mov (.val (.bool false)), none⟩])
 (.seq (.reg [⟨(some 3), .mov (.tmp 0), none⟩, ⟨(some 4), .bin .geq (.tmp 3) (.val (.int .i64 1)), none⟩, ⟨(some 5), .mov (.tmp 4), none⟩, ⟨(some 6), .mov (.tmp 0), (some (5, true))⟩, ⟨(some 7), .bin .leq (.tmp 6) (.val (.int .i64 19)), (some (5, true))⟩, ⟨(some 8), .pick (.tmp 5) (.tmp 7) (.val (.bool false)), none⟩, ⟨(some 2), .mov (.tmp 8), none⟩])
 .ret)) }
def h104 : Hints := ⟨[2], [], []⟩
def a104 : AFn := { n := 39, np := 2, res := [.tmp 4, .tmp 5], body :=
 (.seq (.reg [⟨(some 2), .box (some 2) (.tmp 0), none⟩, ⟨(some 4), .mov (.val (.int .i64 0)), none⟩, ⟨(some 5), .mov (.val (.int .i64 0)), none⟩])
 (.seq (.seq (.reg [⟨(some 6), .mov (.tmp 1), none⟩, ⟨(some 7), .bin .add (.tmp 6) (.val (.int .i64 1)), none⟩, ⟨(some 8), .faddr 0 (.tmp 2), none⟩, ⟨(some 9), .faddr 1 (.tmp 8), none⟩, ⟨(some 10), .load none (.tmp 9), none⟩, ⟨(some 11), .lenL (.tmp 10), none⟩, ⟨(some 12), .bin .lss (.tmp 7) (.tmp 11), none⟩])
 (.cond (.tmp 12) (.seq (.dreg [(false, ⟨(some 13), .faddr 0 (.tmp 2), none⟩, false), (false, ⟨(some 14), .faddr 1 (.tmp 13), none⟩, false), (false, ⟨(some 15), .load none (.tmp 14), none⟩, false), (false, ⟨(some 16), .mov (.tmp 1), none⟩, false), (false, ⟨(some 17), .iaddrL 3 (.tmp 15) (.tmp 16), none⟩, false), (false, ⟨(some 18), .faddr 0 (.tmp 17), none⟩, false), (false, ⟨(some 19), .load none (.tmp 18), none⟩, false), (false, ⟨(some 20), .faddr 0 (.tmp 2), none⟩, false), (false, ⟨(some 21), .faddr 1 (.tmp 20), none⟩, false), (false, ⟨(some 22), .load none (.tmp 21), none⟩, false), (false, ⟨(some 23), .mov (.tmp 1), none⟩, false), (false, ⟨(some 24), .bin .add (.tmp 23) (.val (.int .i64 1)), none⟩, false), (false, ⟨(some 25), .iaddrL 3 (.tmp 22) (.tmp 24), none⟩, false), (false, ⟨(some 26), .faddr 0 (.tmp 25), none⟩, false), (false, ⟨(some 27), .load none (.tmp 26), none⟩, false), (false, ⟨(some 4), .mov (.tmp 19), none⟩, false), (false, ⟨(some 5), .mov (.tmp 27), none⟩, false)])
 .ret) .skip))
 (.seq (.dreg [(false, ⟨(some 28), .faddr 0 (.tmp 2), none⟩, false), (false, ⟨(some 29), .faddr 1 (.tmp 28), none⟩, false), (false, ⟨(some 30), .load none (.tmp 29), none⟩, false), (false, ⟨(some 31), .mov (.tmp 1), none⟩, false), (false, ⟨(some 32), .iaddrL 3 (.tmp 30) (.tmp 31), none⟩, false), (false, ⟨(some 33), .faddr 0 (.tmp 32), none⟩, false), (false, ⟨(some 34), .load none (.tmp 33), none⟩, false), (false, ⟨(some 35), .faddr 0 (.tmp 2), none⟩, false), (false, ⟨(some 36), .faddr 0 (.tmp 35), none⟩, false), (false, ⟨(some 37), .load none (.tmp 36), none⟩, false), (false, ⟨(some 38), .lenL (.tmp 37), none⟩, false), (false, ⟨(some 4), .mov (.tmp 34), none⟩, false), (false, ⟨(some 5), .mov (.tmp 38), none⟩, false)])
 .ret))) }
def h106 : Hints := ⟨[1], [], []⟩
def a106_B1 : AC := (.seq (.reg [⟨(some 50), .bin .lss (.tmp 49) (.tmp 48), none⟩])
 (.seq (.cond (.tmp 50) .skip (.exit 0))
 (.seq (.block 1 (.seq (.reg [⟨(some 51), .iaddrL 1 (.tmp 47) (.tmp 49), none⟩, ⟨(some 52), .load none (.tmp 51), none⟩, ⟨(some 4), .mov (.tmp 52), none⟩])
 (.seq (.reg [⟨(some 53), .mov (.tmp 4), none⟩, ⟨(some 54), .lenL (.tmp 53), none⟩, ⟨(some 55), .bin .gtr (.tmp 54) (.val (.int .i64 4096)), none⟩])
 (.cond (.tmp 55) (.seq (.reg [⟨(some 2), .mov (.val (.int .i64 3)), none⟩])
 .ret) .skip))))
 (.reg [⟨(some 56), .bin .add (.tmp 49) (.val (.int .i64 1)), none⟩, ⟨(some 49), .mov (.tmp 56), none⟩]))))
def a106_L1 : AC := .loop a106_B1
theorem a106_L1_step (call : Caller) (again : AC → St → Option (Ex × St)) (s : St) : codeEv call again a106_L1 s = match codeEv call again a106_B1 s with | some (.norm, s1) => again a106_L1 s1 | r => r := rfl
def a106 : AFn := { n := 57, np := 1, res := [.tmp 2], body :=
 (.seq (.reg [⟨(some 1), .box (some 1) (.tmp 0), none⟩, ⟨(some 2), .mov (.val (.int .i64 0)), none⟩])
 (.seq (.seq (.reg [⟨(some 5), .faddr 0 (.tmp 1), none⟩, ⟨(some 6), .faddr 1 (.tmp 5), none⟩, ⟨(some 7), .load none (.tmp 6), none⟩, ⟨(some 8), .lenL (.tmp 7), none⟩, ⟨(some 9), .bin .gtr (.tmp 8) (.val (.int .i64 64)), none⟩, ⟨(some 10), .mov (.tmp 9), none⟩, ⟨(some 11), .faddr 0 (.tmp 1), (some (10, false))⟩, ⟨(some 12), .faddr 0 (.tmp 11), (some (10, false))⟩, ⟨(some 13), .load none (.tmp 12), (some (10, false))⟩, ⟨(some 14), .lenL (.tmp 13), (some (10, false))⟩, ⟨(some 15), .bin .gtr (.tmp 14) (.val (.int .i64 16384)), (some (10, false))⟩, ⟨(some 16), .pick (.tmp 10) (.val (.bool true)) (.tmp 15), none⟩, ⟨(some 17), .mov (.tmp 16), none⟩, ⟨(some 18), .faddr 0 (.tmp 1), (some (17, false))⟩, ⟨(some 19), .faddr 4 (.tmp 18), (some (17, false))⟩, ⟨(some 20), .load none (.tmp 19), (some (17, false))⟩, ⟨(some 21), .lenL (.tmp 20), (some (17, false))⟩, ⟨(some 22), .bin .gtr (.tmp 21) (.val (.int .i64 4096)), (some (17, false))⟩, ⟨(some 23), .pick (.tmp 17) (.val (.bool true)) (.tmp 22), none⟩, ⟨(some 24), .mov (.tmp 23), none⟩, ⟨(some 25), .faddr 0 (.tmp 1), (some (24, false))⟩, ⟨(some 26), .faddr 5 (.tmp 25), (some (24, false))⟩, ⟨(some 27), .load none (.tmp 26), (some (24, false))⟩, ⟨(some 28), .lenL (.tmp 27), (some (24, false))⟩, ⟨(some 29), .bin .gtr (.tmp 28) (.val (.int .i64 32)), (some (24, false))⟩, ⟨(some 30), .pick (.tmp 24) (.val (.bool true)) (.tmp 29), none⟩, ⟨(some 31), .mov (.tmp 30), none⟩, ⟨(some 32), .faddr 0 (.tmp 1), (some (31, false))⟩, ⟨(some 33), .faddr 7 (.tmp 32), (some (31, false))⟩, ⟨(some 34), .load none (.tmp 33), (some (31, false))⟩, ⟨(some 35), .lenL (.tmp 34), (some (31, false))⟩, ⟨(some 36), .bin .gtr (.tmp 35) (.val (.int .i64 64)), (some (31, false))⟩, ⟨(some 37), .pick (.tmp 31) (.val (.bool true)) (.tmp 36), none⟩, ⟨(some 38), .mov (.tmp 37), none⟩, ⟨(some 39), .faddr 0 (.tmp 1), (some (38, false))⟩, ⟨(some 40), .faddr 2 (.tmp 39), (some (38, false))⟩, ⟨(some 41), .load none (.tmp 40), (some (38, false))⟩, ⟨(some 42), .lenL (.tmp 41), (some (38, false))⟩, ⟨(some 43), .bin .gtr (.tmp 42) (.val (.int .i64 32)), (some (38, false))⟩, ⟨(some 44), .pick (.tmp 38) (.val (.bool true)) (.tmp 43), none⟩])
 (.cond (.tmp 44) (.seq (.reg [⟨(some 2), .mov (.val (.int .i64 3)), none⟩])
 .ret) .skip))
 (.seq (.seq (.reg [⟨(some 45), .faddr 0 (.tmp 1), none⟩, ⟨(some 46), .faddr 7 (.tmp 45), none⟩, ⟨(some 47), .load none (.tmp 46), none⟩, ⟨(some 48), .lenL (.tmp 47), none⟩, ⟨(some 49), .mov (.val (.int .i64 0)), none⟩])
 (.block 0 a106_L1))
 (.seq (.reg [⟨(some 2), .mov (.val (.int .i64 0)), none⟩])
 .ret)))) }
def h107 : Hints := ⟨[1, 4], [], []⟩
def a107_B1 : AC := (.seq (.reg [⟨(some 57), .bin .lss (.tmp 56) (.tmp 55), none⟩])
 (.seq (.cond (.tmp 57) .skip (.exit 0))
 (.seq (.block 1 (.seq (.reg [⟨(some 58), .mov (.tmp 56), none⟩, ⟨(some 59), .iaddrL 3 (.tmp 54) (.tmp 56), none⟩, ⟨(some 60), .load (some 3) (.tmp 59), none⟩, ⟨(some 4), .alloc (some 4) [(.int .i64 0), (.int .i64 0), (.int .i64 0)], none⟩, ⟨(some 3), .mov (.tmp 58), none⟩, ⟨none, .store 3 (.tmp 4) (.tmp 60), none⟩])
 (.seq (.reg [⟨(some 62), .load (some 8) (.tmp 1), none⟩, ⟨(some 63), .mov (.tmp 3), none⟩, ⟨(some 64), .call 104 [(.tmp 62), (.tmp 63)], none⟩, ⟨(some 61), .mov (.tmp 64), none⟩, ⟨(some 65), .ext (.tmp 61) 0, none⟩, ⟨(some 66), .ext (.tmp 61) 1, none⟩, ⟨(some 5), .mov (.tmp 65), none⟩, ⟨(some 6), .mov (.tmp 66), none⟩])
 (.seq (.reg [⟨(some 67), .mov (.tmp 3), none⟩, ⟨(some 68), .bin .eql (.tmp 67) (.val (.int .i64 0)), none⟩, ⟨(some 69), .mov (.tmp 68), none⟩, ⟨(some 70), .mov (.tmp 5), (some (69, true))⟩, ⟨(some 71), .bin .neq (.tmp 70) (.val (.int .i64 0)), (some (69, true))⟩, ⟨(some 72), .pick (.tmp 69) (.tmp 71) (.val (.bool false)), none⟩, ⟨(some 73), .mov (.tmp 72), none⟩, ⟨(some 74), .mov (.tmp 5), (some (73, false))⟩, ⟨(some 75), .bin .lss (.tmp 74) (.val (.int .i64 0)), (some (73, false))⟩, ⟨(some 76), .pick (.tmp 73) (.val (.bool true)) (.tmp 75), none⟩, ⟨(some 77), .mov (.tmp 76), none⟩, ⟨(some 78), .mov (.tmp 5), (some (77, false))⟩, ⟨(some 79), .mov (.tmp 6), (some (77, false))⟩, ⟨(some 80), .bin .geq (.tmp 78) (.tmp 79), (some (77, false))⟩, ⟨(some 81), .pick (.tmp 77) (.val (.bool true)) (.tmp 80), none⟩, ⟨(some 82), .mov (.tmp 81), none⟩, ⟨(some 83), .mov (.tmp 6), (some (82, false))⟩, ⟨(some 84), .faddr 0 (.tmp 1), (some (82, false))⟩, ⟨(some 85), .faddr 0 (.tmp 84), (some (82, false))⟩, ⟨(some 86), .load none (.tmp 85), (some (82, false))⟩, ⟨(some 87), .lenL (.tmp 86), (some (82, false))⟩, ⟨(some 88), .bin .gtr (.tmp 83) (.tmp 87), (some (82, false))⟩, ⟨(some 89), .pick (.tmp 82) (.val (.bool true)) (.tmp 88), none⟩, ⟨(some 90), .mov (.tmp 89), none⟩, ⟨(some 91), .faddr 1 (.tmp 4), (some (90, false))⟩, ⟨(some 92), .load none (.tmp 91), (some (90, false))⟩, ⟨(some 93), .bin .lss (.tmp 92) (.val (.int .i64 0)), (some (90, false))⟩, ⟨(some 94), .pick (.tmp 90) (.val (.bool true)) (.tmp 93), none⟩, ⟨(some 95), .mov (.tmp 94), none⟩, ⟨(some 96), .faddr 1 (.tmp 4), (some (95, false))⟩, ⟨(some 97), .load none (.tmp 96), (some (95, false))⟩, ⟨(some 98), .faddr 2 (.tmp 4), (some (95, false))⟩, ⟨(some 99), .load none (.tmp 98), (some (95, false))⟩, ⟨(some 100), .bin .gtr (.tmp 97) (.tmp 99), (some (95, false))⟩, ⟨(some 101), .pick (.tmp 95) (.val (.bool true)) (.tmp 100), none⟩, ⟨(some 102), .mov (.tmp 101), none⟩, ⟨(some 103), .faddr 2 (.tmp 4), (some (102, false))⟩, ⟨(some 104), .load none (.tmp 103), (some (102, false))⟩, ⟨(some 105), .bin .gtr (.tmp 104) (.val (.int .i64 64)), (some (102, false))⟩, ⟨(some 106), .pick (.tmp 102) (.val (.bool true)) (.tmp 105), none⟩])
 (.cond (.tmp 106) (.seq (.reg [⟨(some 2), .mov (.val (.int .i64 2)), none⟩])
 .ret) .skip)))))
 (.reg [⟨(some 107), .bin .add (.tmp 56) (.val (.int .i64 1)), none⟩, ⟨(some 56), .mov (.tmp 107), none⟩]))))
def a107_L1 : AC := .loop a107_B1
theorem a107_L1_step (call : Caller) (again : AC → St → Option (Ex × St)) (s : St) : codeEv call again a107_L1 s = match codeEv call again a107_B1 s with | some (.norm, s1) => again a107_L1 s1 | r => r := rfl
def a107 : AFn := { n := 108, np := 1, res := [.tmp 2], body :=
 (.seq (.reg [⟨(some 1), .box (some 1) (.tmp 0), none⟩, ⟨(some 2), .mov (.val (.int .i64 0)), none⟩])
 (.seq (.seq (.reg [⟨(some 7), .faddr 0 (.tmp 1), none⟩, ⟨(some 8), .faddr 1 (.tmp 7), none⟩, ⟨(some 9), .load none (.tmp 8), none⟩, ⟨(some 10), .lenL (.tmp 9), none⟩, ⟨(some 11), .bin .eql (.tmp 10) (.val (.int .i64 0)), none⟩, ⟨(some 12), .mov (.tmp 11), none⟩, ⟨(some 13), .faddr 0 (.tmp 1), (some (12, false))⟩, ⟨(some 14), .faddr 6 (.tmp 13), (some (12, false))⟩, ⟨(some 15), .load none (.tmp 14), (some (12, false))⟩, ⟨(some 16), .bin .lss (.tmp 15) (.val (.int .i64 1)), (some (12, false))⟩, ⟨(some 17), .pick (.tmp 12) (.val (.bool true)) (.tmp 16), none⟩, ⟨(some 18), .mov (.tmp 17), none⟩, ⟨(some 19), .faddr 0 (.tmp 1), (some (18, false))⟩, ⟨(some 20), .faddr 6 (.tmp 19), (some (18, false))⟩, ⟨(some 21), .load none (.tmp 20), (some (18, false))⟩, ⟨(some 22), .bin .gtr (.tmp 21) (.val (.int .i64 65536)), (some (18, false))⟩, ⟨(some 23), .pick (.tmp 18) (.val (.bool true)) (.tmp 22), none⟩, ⟨(some 24), .mov (.tmp 23), none⟩, ⟨(some 25), .faddr 0 (.tmp 1), (some (24, false))⟩, ⟨(some 26), .faddr 3 (.tmp 25), (some (24, false))⟩, ⟨(some 27), .load none (.tmp 26), (some (24, false))⟩, ⟨(some 28), .bin .lss (.tmp 27) (.val (.int .i64 0)), (some (24, false))⟩, ⟨(some 29), .pick (.tmp 24) (.val (.bool true)) (.tmp 28), none⟩, ⟨(some 30), .mov (.tmp 29), none⟩, ⟨(some 31), .faddr 0 (.tmp 1), (some (30, false))⟩, ⟨(some 32), .faddr 3 (.tmp 31), (some (30, false))⟩, ⟨(some 33), .load none (.tmp 32), (some (30, false))⟩, ⟨(some 34), .faddr 0 (.tmp 1), (some (30, false))⟩, ⟨(some 35), .faddr 1 (.tmp 34), (some (30, false))⟩, ⟨(some 36), .load none (.tmp 35), (some (30, false))⟩, ⟨(some 37), .lenL (.tmp 36), (some (30, false))⟩, ⟨(some 38), .bin .geq (.tmp 33) (.tmp 37), (some (30, false))⟩, ⟨(some 39), .pick (.tmp 30) (.val (.bool true)) (.tmp 38), none⟩, ⟨(some 40), .mov (.tmp 39), none⟩, ⟨(some 41), .faddr 0 (.tmp 1), (some (40, false))⟩, ⟨(some 42), .faddr 1 (.tmp 41), (some (40, false))⟩, ⟨(some 43), .load none (.tmp 42), (some (40, false))⟩, ⟨(some 44), .faddr 0 (.tmp 1), (some (40, false))⟩, ⟨(some 45), .faddr 3 (.tmp 44), (some (40, false))⟩, ⟨(some 46), .load none (.tmp 45), (some (40, false))⟩, ⟨(some 47), .iaddrL 3 (.tmp 43) (.tmp 46), (some (40, false))⟩, ⟨(some 48), .faddr 1 (.tmp 47), (some (40, false))⟩, ⟨(some 49), .load none (.tmp 48), (some (40, false))⟩, ⟨(some 50), .bin .neq (.tmp 49) (.val (.int .i64 0)), (some (40, false))⟩, ⟨(some 51), .pick (.tmp 40) (.val (.bool true)) (.tmp 50), none⟩])
 (.cond (.tmp 51) (.seq (.reg [⟨(some 2), .mov (.val (.int .i64 2)), none⟩])
 .ret) .skip))
 (.seq (.seq (.reg [⟨(some 52), .faddr 0 (.tmp 1), none⟩, ⟨(some 53), .faddr 1 (.tmp 52), none⟩, ⟨(some 54), .load none (.tmp 53), none⟩, ⟨(some 55), .lenL (.tmp 54), none⟩, ⟨(some 56), .mov (.val (.int .i64 0)), none⟩])
 (.block 0 a107_L1))
 (.seq (.reg [⟨(some 2), .mov (.val (.int .i64 0)), none⟩])
 .ret)))) }
def h108 : Hints := ⟨[1, 4], [], []⟩
def a108_B1 : AC := (.seq (.reg [⟨(some 15), .bin .lss (.tmp 14) (.tmp 13), none⟩])
 (.seq (.cond (.tmp 15) .skip (.exit 0))
 (.seq (.block 1 (.seq (.reg [⟨(some 16), .iaddrL 3 (.tmp 12) (.tmp 14), none⟩, ⟨(some 17), .load (some 3) (.tmp 16), none⟩, ⟨(some 4), .alloc (some 4) [(.int .i64 0), (.int .i64 0), (.int .i64 0)], none⟩, ⟨none, .store 3 (.tmp 4) (.tmp 17), none⟩])
 (.seq (.reg [⟨(some 18), .faddr 2 (.tmp 4), none⟩, ⟨(some 19), .load none (.tmp 18), none⟩, ⟨(some 20), .faddr 0 (.tmp 1), none⟩, ⟨(some 21), .faddr 1 (.tmp 20), none⟩, ⟨(some 22), .load none (.tmp 21), none⟩, ⟨(some 23), .lenL (.tmp 22), none⟩, ⟨(some 24), .bin .geq (.tmp 19) (.tmp 23), none⟩, ⟨(some 25), .mov (.tmp 24), none⟩, ⟨(some 26), .faddr 2 (.tmp 4), (some (25, false))⟩, ⟨(some 27), .load none (.tmp 26), (some (25, false))⟩, ⟨(some 28), .faddr 0 (.tmp 1), (some (25, false))⟩, ⟨(some 29), .faddr 3 (.tmp 28), (some (25, false))⟩, ⟨(some 30), .load none (.tmp 29), (some (25, false))⟩, ⟨(some 31), .bin .eql (.tmp 27) (.tmp 30), (some (25, false))⟩, ⟨(some 32), .pick (.tmp 25) (.val (.bool true)) (.tmp 31), none⟩, ⟨(some 33), .mov (.tmp 32), none⟩, ⟨(some 34), .faddr 0 (.tmp 1), (some (33, false))⟩, ⟨(some 35), .faddr 1 (.tmp 34), (some (33, false))⟩, ⟨(some 36), .load none (.tmp 35), (some (33, false))⟩, ⟨(some 37), .faddr 2 (.tmp 4), (some (33, false))⟩, ⟨(some 38), .load none (.tmp 37), (some (33, false))⟩, ⟨(some 39), .iaddrL 3 (.tmp 36) (.tmp 38), (some (33, false))⟩, ⟨(some 40), .faddr 1 (.tmp 39), (some (33, false))⟩, ⟨(some 41), .load none (.tmp 40), (some (33, false))⟩, ⟨(some 42), .bin .neq (.tmp 41) (.val (.int .i64 0)), (some (33, false))⟩, ⟨(some 43), .pick (.tmp 33) (.val (.bool true)) (.tmp 42), none⟩])
 (.cond (.tmp 43) (.seq (.reg [⟨(some 2), .mov (.val (.int .i64 2)), none⟩])
 .ret) .skip))))
 (.reg [⟨(some 44), .bin .add (.tmp 14) (.val (.int .i64 1)), none⟩, ⟨(some 14), .mov (.tmp 44), none⟩]))))
def a108_L1 : AC := .loop a108_B1
theorem a108_L1_step (call : Caller) (again : AC → St → Option (Ex × St)) (s : St) : codeEv call again a108_L1 s = match codeEv call again a108_B1 s with | some (.norm, s1) => again a108_L1 s1 | r => r := rfl
def a108 : AFn := { n := 45, np := 1, res := [.tmp 2], body :=
 (.seq (.reg [⟨(some 1), .box (some 1) (.tmp 0), none⟩, ⟨(some 2), .mov (.val (.int .i64 0)), none⟩])
 (.seq (.seq (.reg [⟨(some 5), .faddr 0 (.tmp 1), none⟩, ⟨(some 6), .faddr 2 (.tmp 5), none⟩, ⟨(some 7), .load none (.tmp 6), none⟩, ⟨(some 8), .call 112 [(.tmp 7)], none⟩, ⟨(some 9), .bin .neq (.tmp 8) (.val (.int .i64 0)), none⟩])
 (.cond (.tmp 9) (.seq (.reg [⟨(some 2), .mov (.val (.int .i64 2)), none⟩])
 .ret) .skip))
 (.seq (.seq (.reg [⟨(some 10), .faddr 0 (.tmp 1), none⟩, ⟨(some 11), .faddr 2 (.tmp 10), none⟩, ⟨(some 12), .load none (.tmp 11), none⟩, ⟨(some 13), .lenL (.tmp 12), none⟩, ⟨(some 14), .mov (.val (.int .i64 0)), none⟩])
 (.block 0 a108_L1))
 (.seq (.reg [⟨(some 2), .mov (.val (.int .i64 0)), none⟩])
 .ret)))) }
def h109 : Hints := ⟨[1, 7], [], []⟩
def a109_B1 : AC := (.seq (.reg [⟨(some 30), .bin .lss (.tmp 29) (.tmp 28), none⟩])
 (.seq (.cond (.tmp 30) .skip (.exit 2))
 (.seq (.block 3 (.seq (.reg [⟨(some 31), .iaddrL 4 (.tmp 27) (.tmp 29), none⟩, ⟨(some 32), .load (some 4) (.tmp 31), none⟩, ⟨(some 7), .alloc (some 7) [(.int .i64 0), (.int .i64 0), (.int .i64 0), (.int .i64 0)], none⟩, ⟨none, .store 4 (.tmp 7) (.tmp 32), none⟩])
 (.seq (.reg [⟨(some 33), .load (some 4) (.tmp 7), none⟩, ⟨(some 34), .call 66 [(.tmp 33)], none⟩, ⟨(some 35), .bin .neq (.tmp 34) (.val (.int .i64 0)), none⟩, ⟨(some 36), .mov (.tmp 35), none⟩, ⟨(some 37), .load (some 8) (.tmp 1), (some (36, false))⟩, ⟨(some 38), .mov (.tmp 3), (some (36, false))⟩, ⟨(some 39), .mov (.tmp 4), (some (36, false))⟩, ⟨(some 40), .mov (.tmp 5), (some (36, false))⟩, ⟨(some 41), .load (some 4) (.tmp 7), (some (36, false))⟩, ⟨(some 42), .call 113 [(.tmp 37), (.tmp 38), (.tmp 39), (.tmp 40), (.tmp 41)], (some (36, false))⟩, ⟨(some 43), .un .not (.tmp 42), (some (36, false))⟩, ⟨(some 44), .pick (.tmp 36) (.val (.bool true)) (.tmp 43), none⟩])
 (.cond (.tmp 44) (.seq (.reg [⟨(some 2), .mov (.val (.int .i64 2)), none⟩])
 .ret) .skip))))
 (.reg [⟨(some 45), .bin .add (.tmp 29) (.val (.int .i64 1)), none⟩, ⟨(some 29), .mov (.tmp 45), none⟩]))))
def a109_L1 : AC := .loop a109_B1
theorem a109_L1_step (call : Caller) (again : AC → St → Option (Ex × St)) (s : St) : codeEv call again a109_L1 s = match codeEv call again a109_B1 s with | some (.norm, s1) => again a109_L1 s1 | r => r := rfl
def a109_B2 : AC := (.seq (.reg [⟨(some 14), .bin .lss (.tmp 13) (.tmp 12), none⟩])
 (.seq (.cond (.tmp 14) .skip (.exit 0))
 (.seq (.block 1 (.seq (.reg [⟨(some 15), .mov (.tmp 13), none⟩, ⟨(some 3), .mov (.tmp 15), none⟩])
 (.seq (.reg [⟨(some 17), .load (some 8) (.tmp 1), none⟩, ⟨(some 18), .mov (.tmp 3), none⟩, ⟨(some 19), .call 104 [(.tmp 17), (.tmp 18)], none⟩, ⟨(some 16), .mov (.tmp 19), none⟩, ⟨(some 20), .ext (.tmp 16) 0, none⟩, ⟨(some 21), .ext (.tmp 16) 1, none⟩, ⟨(some 4), .mov (.tmp 20), none⟩, ⟨(some 5), .mov (.tmp 21), none⟩])
 (.seq (.seq (.reg [⟨(some 22), .faddr 0 (.tmp 1), none⟩, ⟨(some 23), .faddr 0 (.tmp 22), none⟩, ⟨(some 24), .load none (.tmp 23), none⟩, ⟨(some 25), .mov (.tmp 4), none⟩, ⟨(some 26), .mov (.tmp 5), none⟩, ⟨(some 27), .slcL 4 (.tmp 24) (some (.tmp 25)) (some (.tmp 26)) none, none⟩, ⟨(some 28), .lenL (.tmp 27), none⟩, ⟨(some 29), .mov (.val (.int .i64 0)), none⟩])
 (.block 2 a109_L1))
 (.seq (.reg [⟨(some 46), .faddr 0 (.tmp 1), none⟩, ⟨(some 47), .faddr 0 (.tmp 46), none⟩, ⟨(some 48), .load none (.tmp 47), none⟩, ⟨(some 49), .mov (.tmp 5), none⟩, ⟨(some 50), .bin .sub (.tmp 49) (.val (.int .i64 1)), none⟩, ⟨(some 51), .iaddrL 4 (.tmp 48) (.tmp 50), none⟩, ⟨(some 52), .faddr 0 (.tmp 51), none⟩, ⟨(some 53), .load none (.tmp 52), none⟩, ⟨(some 8), .mov (.tmp 53), none⟩])
 (.seq (.reg [⟨(some 54), .mov (.tmp 8), none⟩, ⟨(some 55), .bin .neq (.tmp 54) (.val (.int .i64 1)), none⟩, ⟨(some 56), .mov (.tmp 55), none⟩, ⟨(some 57), .mov (.tmp 8), (some (56, true))⟩, ⟨(some 58), .bin .neq (.tmp 57) (.val (.int .i64 15)), (some (56, true))⟩, ⟨(some 59), .pick (.tmp 56) (.tmp 58) (.val (.bool false)), none⟩, ⟨(some 60), .mov (.tmp 59), none⟩, ⟨(some 61), .mov (.tmp 8), (some (60, true))⟩, ⟨(some 62), .bin .neq (.tmp 61) (.val (.int .i64 18)), (some (60, true))⟩, ⟨(some 63), .pick (.tmp 60) (.tmp 62) (.val (.bool false)), none⟩])
 (.cond (.tmp 63) (.seq (.reg [⟨(some 2), .mov (.val (.int .i64 2)), none⟩])
 .ret) .skip)))))))
 (.reg [⟨(some 64), .bin .add (.tmp 13) (.val (.int .i64 1)), none⟩, ⟨(some 13), .mov (.tmp 64), none⟩]))))
def a109_L2 : AC := .loop a109_B2
theorem a109_L2_step (call : Caller) (again : AC → St → Option (Ex × St)) (s : St) : codeEv call again a109_L2 s = match codeEv call again a109_B2 s with | some (.norm, s1) => again a109_L2 s1 | r => r := rfl
def a109 : AFn := { n := 65, np := 1, res := [.tmp 2], body :=
 (.seq (.reg [⟨(some 1), .box (some 1) (.tmp 0), none⟩, ⟨(some 2), .mov (.val (.int .i64 0)), none⟩])
 (.seq (.seq (.reg [⟨(some 9), .faddr 0 (.tmp 1), none⟩, ⟨(some 10), .faddr 1 (.tmp 9), none⟩, ⟨(some 11), .load none (.tmp 10), none⟩, ⟨(some 12), .lenL (.tmp 11), none⟩, ⟨(some 13), .mov (.val (.int .i64 0)), none⟩])
 (.block 0 a109_L2))
 (.seq (.reg [⟨(some 2), .mov (.val (.int .i64 0)), none⟩])
 .ret))) }
def h110 : Hints := ⟨[1], [], []⟩
def a110_B1 : AC := (.seq (.reg [⟨(some 18), .bin .lss (.tmp 17) (.tmp 16), none⟩])
 (.seq (.cond (.tmp 18) .skip (.exit 2))
 (.seq (.block 3 (.seq (.reg [⟨(some 19), .mov (.tmp 17), none⟩, ⟨(some 20), .iaddrL 1 (.tmp 15) (.tmp 17), none⟩, ⟨(some 21), .load none (.tmp 20), none⟩, ⟨(some 5), .mov (.tmp 19), none⟩, ⟨(some 6), .mov (.tmp 21), none⟩])
 (.seq (.reg [⟨(some 22), .mov (.tmp 6), none⟩, ⟨(some 23), .bin .lss (.tmp 22) (.val (.int .i64 0)), none⟩, ⟨(some 24), .mov (.tmp 23), none⟩, ⟨(some 25), .mov (.tmp 6), (some (24, false))⟩, ⟨(some 26), .faddr 0 (.tmp 1), (some (24, false))⟩, ⟨(some 27), .faddr 4 (.tmp 26), (some (24, false))⟩, ⟨(some 28), .load none (.tmp 27), (some (24, false))⟩, ⟨(some 29), .lenL (.tmp 28), (some (24, false))⟩, ⟨(some 30), .bin .geq (.tmp 25) (.tmp 29), (some (24, false))⟩, ⟨(some 31), .pick (.tmp 24) (.val (.bool true)) (.tmp 30), none⟩, ⟨(some 32), .mov (.tmp 31), none⟩, ⟨(some 33), .mov (.tmp 5), (some (32, false))⟩, ⟨(some 34), .bin .gtr (.tmp 33) (.val (.int .i64 0)), (some (32, false))⟩, ⟨(some 35), .mov (.tmp 34), (some (32, false))⟩, ⟨(some 36), .mov (.tmp 6), (some (35, true))⟩, ⟨(some 37), .mov (.tmp 4), (some (35, true))⟩, ⟨(some 38), .mov (.tmp 5), (some (35, true))⟩, ⟨(some 39), .bin .sub (.tmp 38) (.val (.int .i64 1)), (some (35, true))⟩, ⟨(some 40), .iaddrL 1 (.tmp 37) (.tmp 39), (some (35, true))⟩, ⟨(some 41), .load none (.tmp 40), (some (35, true))⟩, ⟨(some 42), .bin .leq (.tmp 36) (.tmp 41), (some (35, true))⟩, ⟨(some 43), .pick (.tmp 35) (.tmp 42) (.val (.bool false)), (some (32, false))⟩, ⟨(some 44), .pick (.tmp 32) (.val (.bool true)) (.tmp 43), none⟩])
 (.cond (.tmp 44) (.seq (.reg [⟨(some 2), .mov (.val (.int .i64 2)), none⟩])
 .ret) .skip))))
 (.reg [⟨(some 45), .bin .add (.tmp 17) (.val (.int .i64 1)), none⟩, ⟨(some 17), .mov (.tmp 45), none⟩]))))
def a110_L1 : AC := .loop a110_B1
theorem a110_L1_step (call : Caller) (again : AC → St → Option (Ex × St)) (s : St) : codeEv call again a110_L1 s = match codeEv call again a110_B1 s with | some (.norm, s1) => again a110_L1 s1 | r => r := rfl
def a110_B2 : AC := (.seq (.reg [⟨(some 12), .bin .lss (.tmp 11) (.tmp 10), none⟩])
 (.seq (.cond (.tmp 12) .skip (.exit 0))
 (.seq (.block 1 (.seq (.reg [⟨(some 13), .iaddrL 1 (.tmp 9) (.tmp 11), none⟩, ⟨(some 14), .load none (.tmp 13), none⟩, ⟨(some 4), .mov (.tmp 14), none⟩])
 (.seq (.reg [⟨(some 15), .mov (.tmp 4), none⟩, ⟨(some 16), .lenL (.tmp 15), none⟩, ⟨(some 17), .mov (.val (.int .i64 0)), none⟩])
 (.block 2 a110_L1))))
 (.reg [⟨(some 46), .bin .add (.tmp 11) (.val (.int .i64 1)), none⟩, ⟨(some 11), .mov (.tmp 46), none⟩]))))
def a110_L2 : AC := .loop a110_B2
theorem a110_L2_step (call : Caller) (again : AC → St → Option (Ex × St)) (s : St) : codeEv call again a110_L2 s = match codeEv call again a110_B2 s with | some (.norm, s1) => again a110_L2 s1 | r => r := rfl
def a110 : AFn := { n := 47, np := 1, res := [.tmp 2], body :=
 (.seq (.reg [⟨(some 1), .box (some 1) (.tmp 0), none⟩, ⟨(some 2), .mov (.val (.int .i64 0)), none⟩])
 (.seq (.seq (.reg [⟨(some 7), .faddr 0 (.tmp 1), none⟩, ⟨(some 8), .faddr 7 (.tmp 7), none⟩, ⟨(some 9), .load none (.tmp 8), none⟩, ⟨(some 10), .lenL (.tmp 9), none⟩, ⟨(some 11), .mov (.val (.int .i64 0)), none⟩])
 (.block 0 a110_L2))
 (.seq (.reg [⟨(some 2), .mov (.val (.int .i64 0)), none⟩])
 .ret))) }
def h111 : Hints := ⟨[], [], []⟩
def a111_B1 : AC := (.seq (.reg [⟨(some 12), .bin .lss (.tmp 11) (.tmp 10), none⟩])
 (.seq (.cond (.tmp 12) .skip (.exit 0))
 (.seq (.block 1 (.seq (.reg [⟨(some 13), .mov (.tmp 11), none⟩, ⟨(some 5), .mov (.tmp 13), none⟩])
 (.seq (.reg [⟨(some 14), .mov (.tmp 5), none⟩, ⟨(some 15), .iaddrA 64 1 (.tmp 3) (.tmp 14), none⟩, ⟨(some 16), .load none (.tmp 15), none⟩, ⟨(some 17), .bin .eql (.tmp 16) (.val (.int .u8 0)), none⟩, ⟨(some 18), .mov (.tmp 17), none⟩, ⟨(some 19), .load none (.tmp 4), (some (18, true))⟩, ⟨(some 20), .mov (.tmp 5), (some (18, true))⟩, ⟨(some 21), .callv (.tmp 19) [(.tmp 20)], (some (18, true))⟩, ⟨(some 22), .un .not (.tmp 21), (some (18, true))⟩, ⟨(some 23), .pick (.tmp 18) (.tmp 22) (.val (.bool false)), none⟩])
 (.cond (.tmp 23) (.seq (.reg [⟨(some 2), .mov (.val (.int .i64 13)), none⟩])
 .ret) .skip))))
 (.reg [⟨(some 24), .bin .add (.tmp 11) (.val (.int .i64 1)), none⟩, ⟨(some 11), .mov (.tmp 24), none⟩]))))
def a111_L1 : AC := .loop a111_B1
theorem a111_L1_step (call : Caller) (again : AC → St → Option (Ex × St)) (s : St) : codeEv call again a111_L1 s = match codeEv call again a111_B1 s with | some (.norm, s1) => again a111_L1 s1 | r => r := rfl
def a111 : AFn := { n := 25, np := 1, res := [.tmp 2], body :=
 (.seq (.reg [⟨(some 1), .box none (.tmp 0), none⟩, ⟨(some 2), .mov (.val (.int .i64 0)), none⟩])
 (.seq (.reg [⟨(some 3), .alloc none [(.int .u8 0), (.int .u8 0), (.int .u8 0), (.int .u8 0), (.int .u8 0), (.int .u8 0), (.int .u8 0), (.int .u8 0), (.int .u8 0), (.int .u8 0), (.int .u8 0), (.int .u8 0), (.int .u8 0), (.int .u8 0), (.int .u8 0), (.int .u8 0), (.int .u8 0), (.int .u8 0), (.int .u8 0), (.int .u8 0), (.int .u8 0), (.int .u8 0), (.int .u8 0), (.int .u8 0), (.int .u8 0), (.int .u8 0), (.int .u8 0), (.int .u8 0), (.int .u8 0), (.int .u8 0), (.int .u8 0), (.int .u8 0), (.int .u8 0), (.int .u8 0), (.int .u8 0), (.int .u8 0), (.int .u8 0), (.int .u8 0), (.int .u8 0), (.int .u8 0), (.int .u8 0), (.int .u8 0), (.int .u8 0), (.int .u8 0), (.int .u8 0), (.int .u8 0), (.int .u8 0), (.int .u8 0), (.int .u8 0), (.int .u8 0), (.int .u8 0), (.int .u8 0), (.int .u8 0), (.int .u8 0), (.int .u8 0), (.int .u8 0), (.int .u8 0), (.int .u8 0), (.int .u8 0), (.int .u8 0), (.int .u8 0), (.int .u8 0), (.int .u8 0), (.int .u8 0)], none⟩])
 (.seq (.reg [⟨(some 4), .alloc none [.nilf], none⟩])
 (.seq (.reg [⟨(some 6), .mkfn 114 [(.tmp 3), (.tmp 1), (.tmp 4)], none⟩, ⟨none, .store 1 (.tmp 4) (.tmp 6), none⟩])
 (.seq (.seq (.reg [⟨(some 7), .faddr 0 (.tmp 1), none⟩, ⟨(some 8), .faddr 1 (.tmp 7), none⟩, ⟨(some 9), .load none (.tmp 8), none⟩, ⟨(some 10), .lenL (.tmp 9), none⟩, ⟨(some 11), .mov (.val (.int .i64 0)), none⟩])
 (.block 0 a111_L1))
 (.seq (.reg [⟨(some 2), .mov (.val (.int .i64 0)), none⟩])
 .ret)))))) }
def h112 : Hints := ⟨[5], [], []⟩
def a112_B1 : AC := (.seq (.reg [⟨(some 12), .bin .lss (.tmp 11) (.tmp 10), none⟩])
 (.seq (.cond (.tmp 12) .skip (.exit 0))
 (.seq (.block 1 (.seq (.reg [⟨(some 13), .iaddrL 3 (.tmp 9) (.tmp 11), none⟩, ⟨(some 14), .load (some 3) (.tmp 13), none⟩, ⟨(some 5), .alloc (some 5) [(.int .i64 0), (.int .i64 0), (.int .i64 0)], none⟩, ⟨none, .store 3 (.tmp 5) (.tmp 14), none⟩])
 (.seq (.seq (.reg [⟨(some 15), .faddr 0 (.tmp 5), none⟩, ⟨(some 16), .load none (.tmp 15), none⟩, ⟨(some 17), .bin .lss (.tmp 16) (.val (.int .i64 0)), none⟩, ⟨(some 18), .mov (.tmp 17), none⟩, ⟨(some 19), .faddr 0 (.tmp 5), (some (18, false))⟩, ⟨(some 20), .load none (.tmp 19), (some (18, false))⟩, ⟨(some 21), .bin .gtr (.tmp 20) (.val (.int .i64 31)), (some (18, false))⟩, ⟨(some 22), .pick (.tmp 18) (.val (.bool true)) (.tmp 21), none⟩, ⟨(some 23), .mov (.tmp 22), none⟩, ⟨(some 24), .faddr 1 (.tmp 5), (some (23, false))⟩, ⟨(some 25), .load none (.tmp 24), (some (23, false))⟩, ⟨(some 26), .bin .lss (.tmp 25) (.val (.int .i64 1)), (some (23, false))⟩, ⟨(some 27), .pick (.tmp 23) (.val (.bool true)) (.tmp 26), none⟩, ⟨(some 28), .mov (.tmp 27), none⟩, ⟨(some 29), .faddr 1 (.tmp 5), (some (28, false))⟩, ⟨(some 30), .load none (.tmp 29), (some (28, false))⟩, ⟨(some 31), .bin .gtr (.tmp 30) (.val (.int .i64 15)), (some (28, false))⟩, ⟨(some 32), .pick (.tmp 28) (.val (.bool true)) (.tmp 31), none⟩, ⟨(some 33), .mov (.tmp 32), none⟩, ⟨(some 34), .faddr 2 (.tmp 5), (some (33, false))⟩, ⟨(some 35), .load none (.tmp 34), (some (33, false))⟩, ⟨(some 36), .bin .lss (.tmp 35) (.val (.int .i64 0)), (some (33, false))⟩, ⟨(some 37), .pick (.tmp 33) (.val (.bool true)) (.tmp 36), none⟩, ⟨(some 38), .mov (.tmp 37), none⟩, ⟨(some 39), .mov (.tmp 3), (some (38, false))⟩, ⟨(some 40), .faddr 0 (.tmp 5), (some (38, false))⟩, ⟨(some 41), .load none (.tmp 40), (some (38, false))⟩, ⟨(some 42), .call 116 [(.tmp 39), (.tmp 41)], (some (38, false))⟩, ⟨(some 43), .pick (.tmp 38) (.val (.bool true)) (.tmp 42), none⟩])
 (.cond (.tmp 43) (.seq (.reg [⟨(some 2), .mov (.val (.int .i64 2)), none⟩])
 .ret) .skip))
 (.reg [⟨(some 44), .mov (.tmp 3), none⟩, ⟨(some 45), .faddr 0 (.tmp 5), none⟩, ⟨(some 46), .load none (.tmp 45), none⟩, ⟨(some 47), .bin .shl (.val (.int .u32 1)) (.tmp 46), none⟩, ⟨(some 48), .bin .or (.tmp 44) (.tmp 47), none⟩, ⟨(some 3), .mov (.tmp 48), none⟩]))))
 (.reg [⟨(some 49), .bin .add (.tmp 11) (.val (.int .i64 1)), none⟩, ⟨(some 11), .mov (.tmp 49), none⟩]))))
def a112_L1 : AC := .loop a112_B1
theorem a112_L1_step (call : Caller) (again : AC → St → Option (Ex × St)) (s : St) : codeEv call again a112_L1 s = match codeEv call again a112_B1 s with | some (.norm, s1) => again a112_L1 s1 | r => r := rfl
def a112 : AFn := { n := 50, np := 1, res := [.tmp 2], body :=
 (.seq (.reg [⟨(some 2), .mov (.val (.int .i64 0)), none⟩])
 (.seq (.seq (.reg [⟨(some 6), .mov (.tmp 0), none⟩, ⟨(some 7), .lenL (.tmp 6), none⟩, ⟨(some 8), .bin .gtr (.tmp 7) (.val (.int .i64 32)), none⟩])
 (.cond (.tmp 8) (.seq (.reg [⟨(some 2), .mov (.val (.int .i64 3)), none⟩])
 .ret) .skip))
 (.seq (.reg [⟨(some 3), .mov (.val (.int .u32 0)), none⟩])
 (.seq (.seq (.reg [⟨(some 9), .mov (.tmp 0), none⟩, ⟨(some 10), .lenL (.tmp 9), none⟩, ⟨(some 11), .mov (.val (.int .i64 0)), none⟩])
 (.block 0 a112_L1))
 (.seq (.reg [⟨(some 2), .mov (.val (.int .i64 0)), none⟩])
 .ret))))) }
def h113 : Hints := ⟨[5, 9], [], []⟩
def a113 : AFn := { n := 98, np := 5, res := [.tmp 10], body :=
 (.seq (.reg [⟨(some 5), .box (some 5) (.tmp 0), none⟩, ⟨(some 9), .box (some 9) (.tmp 4), none⟩, ⟨(some 10), .mov (.val (.bool false)), none⟩])
 (.seq (.seq (.reg [⟨(some 11), .faddr 0 (.tmp 9), none⟩, ⟨(some 12), .load none (.tmp 11), none⟩])
 (.block 0 (.seq (.reg [⟨(some 14), .bin .eql (.tmp 12) (.val (.int .i64 1)), none⟩, ⟨(some 13), .mov (.tmp 14), none⟩])
 (.cond (.tmp 13) (.seq (.reg [⟨(some 15), .mov (.tmp 1), none⟩, ⟨(some 16), .faddr 0 (.tmp 5), none⟩, ⟨(some 17), .faddr 3 (.tmp 16), none⟩, ⟨(some 18), .load none (.tmp 17), none⟩, ⟨(some 19), .bin .eql (.tmp 15) (.tmp 18), none⟩, ⟨(some 10), .mov (.tmp 19), none⟩])
 .ret) (.seq (.seq (.reg [⟨(some 21), .bin .eql (.tmp 12) (.val (.int .i64 4)), none⟩, ⟨(some 20), .mov (.tmp 21), none⟩])
 (.cond (.tmp 20) .skip (.reg [⟨(some 22), .bin .eql (.tmp 12) (.val (.int .i64 5)), none⟩, ⟨(some 20), .mov (.tmp 22), none⟩])))
 (.cond (.tmp 20) (.seq (.reg [⟨(some 23), .faddr 1 (.tmp 9), none⟩, ⟨(some 24), .load none (.tmp 23), none⟩, ⟨(some 25), .faddr 0 (.tmp 5), none⟩, ⟨(some 26), .faddr 4 (.tmp 25), none⟩, ⟨(some 27), .load none (.tmp 26), none⟩, ⟨(some 28), .lenL (.tmp 27), none⟩, ⟨(some 29), .bin .lss (.tmp 24) (.tmp 28), none⟩, ⟨(some 10), .mov (.tmp 29), none⟩])
 .ret) (.seq (.seq (.reg [⟨(some 31), .bin .eql (.tmp 12) (.val (.int .i64 6)), none⟩, ⟨(some 30), .mov (.tmp 31), none⟩])
 (.cond (.tmp 30) .skip (.reg [⟨(some 32), .bin .eql (.tmp 12) (.val (.int .i64 7)), none⟩, ⟨(some 30), .mov (.tmp 32), none⟩])))
 (.cond (.tmp 30) (.seq (.reg [⟨(some 33), .faddr 1 (.tmp 9), none⟩, ⟨(some 34), .load none (.tmp 33), none⟩, ⟨(some 35), .faddr 2 (.tmp 9), none⟩, ⟨(some 36), .load none (.tmp 35), none⟩, ⟨(some 37), .bin .add (.tmp 34) (.tmp 36), none⟩, ⟨(some 38), .faddr 0 (.tmp 5), none⟩, ⟨(some 39), .faddr 4 (.tmp 38), none⟩, ⟨(some 40), .load none (.tmp 39), none⟩, ⟨(some 41), .lenL (.tmp 40), none⟩, ⟨(some 42), .bin .leq (.tmp 37) (.tmp 41), none⟩, ⟨(some 10), .mov (.tmp 42), none⟩])
 .ret) (.seq (.seq (.reg [⟨(some 44), .bin .eql (.tmp 12) (.val (.int .i64 8)), none⟩, ⟨(some 43), .mov (.tmp 44), none⟩])
 (.cond (.tmp 43) .skip (.reg [⟨(some 45), .bin .eql (.tmp 12) (.val (.int .i64 9)), none⟩, ⟨(some 43), .mov (.tmp 45), none⟩])))
 (.cond (.tmp 43) (.seq (.dreg [(false, ⟨(some 46), .faddr 1 (.tmp 9), none⟩, false), (false, ⟨(some 47), .load none (.tmp 46), none⟩, false), (false, ⟨(some 48), .faddr 0 (.tmp 5), none⟩, false), (false, ⟨(some 49), .faddr 1 (.tmp 48), none⟩, false), (false, ⟨(some 50), .load none (.tmp 49), none⟩, false), (false, ⟨(some 51), .mov (.tmp 1), none⟩, false), (false, ⟨(some 52), .iaddrL 3 (.tmp 50) (.tmp 51), none⟩, false), (false, ⟨(some 53), .faddr 2 (.tmp 52), none⟩, false), (false, ⟨(some 54), .load none (.tmp 53), none⟩, false), (false, ⟨(some 55), .bin .lss (.tmp 47) (.tmp 54), none⟩, false), (false, ⟨(some 10), .mov (.tmp 55), none⟩, false)])
 .ret) (.seq (.seq (.reg [⟨(some 57), .bin .eql (.tmp 12) (.val (.int .i64 10)), none⟩, ⟨(some 56), .mov (.tmp 57), none⟩])
 (.cond (.tmp 56) .skip (.reg [⟨(some 58), .bin .eql (.tmp 12) (.val (.int .i64 11)), none⟩, ⟨(some 56), .mov (.tmp 58), none⟩])))
 (.cond (.tmp 56) (.seq (.reg [⟨(some 59), .faddr 1 (.tmp 9), none⟩, ⟨(some 60), .load none (.tmp 59), none⟩, ⟨(some 61), .faddr 0 (.tmp 5), none⟩, ⟨(some 62), .faddr 5 (.tmp 61), none⟩, ⟨(some 63), .load none (.tmp 62), none⟩, ⟨(some 64), .lenL (.tmp 63), none⟩, ⟨(some 65), .bin .lss (.tmp 60) (.tmp 64), none⟩, ⟨(some 10), .mov (.tmp 65), none⟩])
 .ret) (.seq (.seq (.reg [⟨(some 67), .bin .eql (.tmp 12) (.val (.int .i64 15)), none⟩, ⟨(some 66), .mov (.tmp 67), none⟩])
 (.cond (.tmp 66) .skip (.reg [⟨(some 68), .bin .eql (.tmp 12) (.val (.int .i64 16)), none⟩, ⟨(some 66), .mov (.tmp 68), none⟩])))
 (.cond (.tmp 66) (.seq (.reg [⟨(some 69), .faddr 1 (.tmp 9), none⟩, ⟨(some 70), .load none (.tmp 69), none⟩, ⟨(some 71), .mov (.tmp 2), none⟩, ⟨(some 72), .bin .geq (.tmp 70) (.tmp 71), none⟩, ⟨(some 73), .mov (.tmp 72), none⟩, ⟨(some 74), .faddr 1 (.tmp 9), (some (73, true))⟩, ⟨(some 75), .load none (.tmp 74), (some (73, true))⟩, ⟨(some 76), .mov (.tmp 3), (some (73, true))⟩, ⟨(some 77), .bin .lss (.tmp 75) (.tmp 76), (some (73, true))⟩, ⟨(some 78), .pick (.tmp 73) (.tmp 77) (.val (.bool false)), none⟩, ⟨(some 10), .mov (.tmp 78), none⟩])
 .ret) (.seq (.reg [⟨(some 80), .bin .eql (.tmp 12) (.val (.int .i64 17)), none⟩, ⟨(some 79), .mov (.tmp 80), none⟩])
 (.cond (.tmp 79) (.seq (.reg [⟨(some 81), .faddr 1 (.tmp 9), none⟩, ⟨(some 82), .load none (.tmp 81), none⟩, ⟨(some 83), .faddr 0 (.tmp 5), none⟩, ⟨(some 84), .faddr 1 (.tmp 83), none⟩, ⟨(some 85), .load none (.tmp 84), none⟩, ⟨(some 86), .lenL (.tmp 85), none⟩, ⟨(some 87), .bin .lss (.tmp 82) (.tmp 86), none⟩, ⟨(some 10), .mov (.tmp 87), none⟩])
 .ret) (.seq (.seq (.reg [⟨(some 89), .bin .eql (.tmp 12) (.val (.int .i64 23)), none⟩, ⟨(some 88), .mov (.tmp 89), none⟩])
 (.cond (.tmp 88) .skip (.reg [⟨(some 90), .bin .eql (.tmp 12) (.val (.int .i64 24)), none⟩, ⟨(some 88), .mov (.tmp 90), none⟩])))
 (.cond (.tmp 88) (.seq (.reg [⟨(some 91), .faddr 1 (.tmp 9), none⟩, ⟨(some 92), .load none (.tmp 91), none⟩, ⟨(some 93), .faddr 0 (.tmp 5), none⟩, ⟨(some 94), .faddr 7 (.tmp 93), none⟩, ⟨(some 95), .load none (.tmp 94), none⟩, ⟨(some 96), .lenL (.tmp 95), none⟩, ⟨(some 97), .bin .lss (.tmp 92) (.tmp 96), none⟩, ⟨(some 10), .mov (.tmp 97), none⟩])
 .ret) .skip))))))))))))))))))
 (.seq (.reg [⟨(some 10), .mov (.val (.bool true)), none⟩])
 .ret))) }
def h114 : Hints := ⟨[], [], []⟩
def a114_B1 : AC := (.seq (.reg [⟨(some 15), .bin .lss (.tmp 14) (.tmp 13), none⟩])
 (.seq (.cond (.tmp 15) .skip (.exit 0))
 (.seq (.block 1 (.seq (.reg [⟨(some 16), .iaddrL 1 (.tmp 12) (.tmp 14), none⟩, ⟨(some 17), .load none (.tmp 16), none⟩, ⟨(some 7), .mov (.tmp 17), none⟩])
 (.seq (.reg [⟨(some 18), .mov (.tmp 7), none⟩, ⟨(some 19), .iaddrA 64 1 (.tmp 1) (.tmp 18), none⟩, ⟨(some 20), .load none (.tmp 19), none⟩, ⟨(some 21), .bin .eql (.tmp 20) (.val (.int .u8 1)), none⟩, ⟨(some 22), .mov (.tmp 21), none⟩, ⟨(some 23), .mov (.tmp 7), (some (22, false))⟩, ⟨(some 24), .iaddrA 64 1 (.tmp 1) (.tmp 23), (some (22, false))⟩, ⟨(some 25), .load none (.tmp 24), (some (22, false))⟩, ⟨(some 26), .bin .eql (.tmp 25) (.val (.int .u8 0)), (some (22, false))⟩, ⟨(some 27), .mov (.tmp 26), (some (22, false))⟩, ⟨(some 28), .load none (.tmp 3), (some (27, true))⟩, ⟨(some 29), .mov (.tmp 7), (some (27, true))⟩, ⟨(some 30), .callv (.tmp 28) [(.tmp 29)], (some (27, true))⟩, ⟨(some 31), .un .not (.tmp 30), (some (27, true))⟩, ⟨(some 32), .pick (.tmp 27) (.tmp 31) (.val (.bool false)), (some (22, false))⟩, ⟨(some 33), .pick (.tmp 22) (.val (.bool true)) (.tmp 32), none⟩])
 (.cond (.tmp 33) (.seq (.reg [⟨(some 5), .mov (.val (.bool false)), none⟩])
 .ret) .skip))))
 (.reg [⟨(some 34), .bin .add (.tmp 14) (.val (.int .i64 1)), none⟩, ⟨(some 14), .mov (.tmp 34), none⟩]))))
def a114_L1 : AC := .loop a114_B1
theorem a114_L1_step (call : Caller) (again : AC → St → Option (Ex × St)) (s : St) : codeEv call again a114_L1 s = match codeEv call again a114_B1 s with | some (.norm, s1) => again a114_L1 s1 | r => r := rfl
def a114 : AFn := { n := 37, np := 4, res := [.tmp 5], body :=
 (.seq (.reg [⟨(some 5), .mov (.val (.bool false)), none⟩])
 (.seq (.reg [⟨(some 8), .mov (.tmp 0), none⟩, ⟨(some 9), .iaddrA 64 1 (.tmp 1) (.tmp 8), none⟩, ⟨none, .store 1 (.tmp 9) (.val (.int .u8 1)), none⟩])
 (.seq (.seq (.reg [⟨(some 10), .load (some 8) (.tmp 2), none⟩, ⟨(some 11), .mov (.tmp 0), none⟩, ⟨(some 12), .call 115 [(.tmp 10), (.tmp 11)], none⟩, ⟨(some 13), .lenL (.tmp 12), none⟩, ⟨(some 14), .mov (.val (.int .i64 0)), none⟩])
 (.block 0 a114_L1))
 (.seq (.reg [⟨(some 35), .mov (.tmp 0), none⟩, ⟨(some 36), .iaddrA 64 1 (.tmp 1) (.tmp 35), none⟩, ⟨none, .store 1 (.tmp 36) (.val (.int .u8 2)), none⟩])
 (.seq (.reg [⟨(some 5), .mov (.val (.bool true)), none⟩])
 .ret))))) }
def h115 : Hints := ⟨[2, 8], [], []⟩
def a115_B1 : AC := (.seq (.reg [⟨(some 23), .bin .lss (.tmp 22) (.tmp 21), none⟩])
 (.seq (.cond (.tmp 23) .skip (.exit 0))
 (.seq (.block 1 (.seq (.reg [⟨(some 24), .iaddrL 4 (.tmp 20) (.tmp 22), none⟩, ⟨(some 25), .load (some 4) (.tmp 24), none⟩, ⟨(some 8), .alloc (some 8) [(.int .i64 0), (.int .i64 0), (.int .i64 0), (.int .i64 0)], none⟩, ⟨none, .store 4 (.tmp 8) (.tmp 25), none⟩])
 (.seq (.reg [⟨(some 26), .faddr 0 (.tmp 8), none⟩, ⟨(some 27), .load none (.tmp 26), none⟩, ⟨(some 28), .bin .eql (.tmp 27) (.val (.int .i64 17)), none⟩])
 (.cond (.tmp 28) (.reg [⟨(some 29), .mov (.tmp 4), none⟩, ⟨(some 30), .faddr 1 (.tmp 8), none⟩, ⟨(some 31), .load none (.tmp 30), none⟩, ⟨(some 32), .mkslc 1 1 [(.int .i64 0)] [(0, (.tmp 31))], none⟩, ⟨(some 33), .app none 1 8 (.tmp 29) (.tmp 32), none⟩, ⟨(some 4), .mov (.tmp 33), none⟩]) .skip))))
 (.reg [⟨(some 34), .bin .add (.tmp 22) (.val (.int .i64 1)), none⟩, ⟨(some 22), .mov (.tmp 34), none⟩]))))
def a115_L1 : AC := .loop a115_B1
theorem a115_L1_step (call : Caller) (again : AC → St → Option (Ex × St)) (s : St) : codeEv call again a115_L1 s = match codeEv call again a115_B1 s with | some (.norm, s1) => again a115_L1 s1 | r => r := rfl
def a115 : AFn := { n := 39, np := 2, res := [.tmp 4], body :=
 (.seq (.reg [⟨(some 2), .box (some 2) (.tmp 0), none⟩, ⟨(some 4), .mov (.val .nils), none⟩])
 (.seq (.reg [⟨(some 10), .load (some 8) (.tmp 2), none⟩, ⟨(some 11), .mov (.tmp 1), none⟩, ⟨(some 12), .call 104 [(.tmp 10), (.tmp 11)], none⟩, ⟨(some 9), .mov (.tmp 12), none⟩, ⟨(some 13), .ext (.tmp 9) 0, none⟩, ⟨(some 14), .ext (.tmp 9) 1, none⟩, ⟨(some 5), .mov (.tmp 13), none⟩, ⟨(some 6), .mov (.tmp 14), none⟩])
 (.seq (.seq (.reg [⟨(some 15), .faddr 0 (.tmp 2), none⟩, ⟨(some 16), .faddr 0 (.tmp 15), none⟩, ⟨(some 17), .load none (.tmp 16), none⟩, ⟨(some 18), .mov (.tmp 5), none⟩, ⟨(some 19), .mov (.tmp 6), none⟩, ⟨(some 20), .slcL 4 (.tmp 17) (some (.tmp 18)) (some (.tmp 19)) none, none⟩, ⟨(some 21), .lenL (.tmp 20), none⟩, ⟨(some 22), .mov (.val (.int .i64 0)), none⟩])
 (.block 0 a115_L1))
 (.seq (.reg [⟨(some 35), .mov (.tmp 4), none⟩, ⟨(some 36), .call 35 [(.tmp 35)], none⟩])
 (.seq (.reg [⟨(some 37), .mov (.tmp 4), none⟩, ⟨(some 38), .call 51 [(.tmp 37)], none⟩, ⟨(some 4), .mov (.tmp 38), none⟩])
 .ret))))) }
def h116 : Hints := ⟨[], [], []⟩
def a116 : AFn := { n := 18, np := 2, res := [.tmp 4], body :=
 (.seq (.reg [⟨(some 4), .mov (.val (.bool false)), none⟩])
 (.seq (.reg [⟨(some 5), .mov (.tmp 1), none⟩, ⟨(some 6), .bin .geq (.tmp 5) (.val (.int .i64 0)), none⟩, ⟨(some 7), .mov (.tmp 6), none⟩, ⟨(some 8), .mov (.tmp 1), (some (7, true))⟩, ⟨(some 9), .bin .lss (.tmp 8) (.val (.int .i64 32)), (some (7, true))⟩, ⟨(some 10), .pick (.tmp 7) (.tmp 9) (.val (.bool false)), none⟩, ⟨(some 11), .mov (.tmp 10), none⟩, ⟨(some 12), .mov (.tmp 0), (some (11, true))⟩, ⟨(some 13), .mov (.tmp 1), (some (11, true))⟩, ⟨(some 14), .bin .shr (.tmp 12) (.tmp 13), (some (11, true))⟩, ⟨(some 15), .bin .and (.tmp 14) (.val (.int .u32 1)), (some (11, true))⟩, ⟨(some 16), .bin .eql (.tmp 15) (.val (.int .u32 1)), (some (11, true))⟩, ⟨(some 17), .pick (.tmp 11) (.tmp 16) (.val (.bool false)), none⟩, ⟨(some 4), .mov (.tmp 17), none⟩])
 .ret)) }
def h24 : Hints := ⟨[2], [], []⟩
def d24 : DeferFn :=
{ n := 13, np := 2, res := [.cell 4 none], g := 5, fD := 37, D := a37, A :=
 (.reg [⟨(some 2), .box (some 2) (.tmp 0), none⟩, ⟨(some 4), .alloc none [.nils], none⟩]), pre :=
 [⟨(some 5), .mkfn 37 [(.tmp 4)], none⟩], post :=
 [], C :=
 (.seq (.reg [⟨(some 7), .load (some 8) (.tmp 2), none⟩, ⟨(some 8), .mov (.tmp 1), none⟩, ⟨(some 9), .call 39 [(.tmp 7), (.tmp 8)], none⟩, ⟨(some 6), .mov (.tmp 9), none⟩, ⟨(some 10), .ext (.tmp 6) 0, none⟩, ⟨(some 11), .ext (.tmp 6) 1, none⟩, ⟨none, .store 1 (.tmp 4) (.tmp 10), none⟩])
 (.seq (.reg [⟨(some 12), .load none (.tmp 4), none⟩, ⟨none, .store 1 (.tmp 4) (.tmp 12), none⟩])
 .ret)) }
theorem t3 : trFn Tryd.prog h3 Tryd.f3 = some a3 := by kernel_rfl
theorem t4 : trFn Tryd.prog h4 Tryd.f4 = some a4 := by kernel_rfl
theorem t5 : trFn Tryd.prog h5 Tryd.f5 = some a5 := by kernel_rfl
theorem t6 : trFn Tryd.prog h6 Tryd.f6 = some a6 := by kernel_rfl
theorem t7 : trFn Tryd.prog h7 Tryd.f7 = some a7 := by kernel_rfl
theorem t8 : trFn Tryd.prog h8 Tryd.f8 = some a8 := by kernel_rfl
theorem t9 : trFn Tryd.prog h9 Tryd.f9 = some a9 := by kernel_rfl
theorem t10 : trFn Tryd.prog h10 Tryd.f10 = some a10 := by kernel_rfl
theorem t11 : trFn Tryd.prog h11 Tryd.f11 = some a11 := by kernel_rfl
theorem t12 : trFn Tryd.prog h12 Tryd.f12 = some a12 := by kernel_rfl
theorem t13 : trFn Tryd.prog h13 Tryd.f13 = some a13 := by kernel_rfl
theorem t14 : trFn Tryd.prog h14 Tryd.f14 = some a14 := by kernel_rfl
theorem t15 : trFn Tryd.prog h15 Tryd.f15 = some a15 := by kernel_rfl
theorem t16 : trFn Tryd.prog h16 Tryd.f16 = some a16 := by kernel_rfl
theorem t17 : trFn Tryd.prog h17 Tryd.f17 = some a17 := by kernel_rfl
theorem t18 : trFn Tryd.prog h18 Tryd.f18 = some a18 := by kernel_rfl
theorem t19 : trFn Tryd.prog h19 Tryd.f19 = some a19 := by kernel_rfl
theorem t20 : trFn Tryd.prog h20 Tryd.f20 = some a20 := by kernel_rfl
theorem t21 : trFn Tryd.prog h21 Tryd.f21 = some a21 := by kernel_rfl
theorem t22 : trFn Tryd.prog h22 Tryd.f22 = some a22 := by kernel_rfl
theorem t23 : trFn Tryd.prog h23 Tryd.f23 = some a23 := by kernel_rfl
theorem t25 : trFn Tryd.prog h25 Tryd.f25 = some a25 := by kernel_rfl
theorem t26 : trFn Tryd.prog h26 Tryd.f26 = some a26 := by kernel_rfl
theorem t27 : trFn Tryd.prog h27 Tryd.f27 = some a27 := by kernel_rfl
theorem t28 : trFn Tryd.prog h28 Tryd.f28 = some a28 := by kernel_rfl
theorem t29 : trFn Tryd.prog h29 Tryd.f29 = some a29 := by kernel_rfl
theorem t30 : trFn Tryd.prog h30 Tryd.f30 = some a30 := by kernel_rfl
theorem t31 : trFn Tryd.prog h31 Tryd.f31 = some a31 := by kernel_rfl
theorem t32 : trFn Tryd.prog h32 Tryd.f32 = some a32 := by kernel_rfl
theorem t33 : trFn Tryd.prog h33 Tryd.f33 = some a33 := by kernel_rfl
theorem t34 : trFn Tryd.prog h34 Tryd.f34 = some a34 := by kernel_rfl
theorem t35 : trFn Tryd.prog h35 Tryd.f35 = some a35 := by kernel_rfl
theorem t36 : trFn Tryd.prog h36 Tryd.f36 = some a36 := by kernel_rfl
theorem t37 : trFn Tryd.prog h37 Tryd.f37 = some a37 := by kernel_rfl
theorem t38 : trFn Tryd.prog h38 Tryd.f38 = some a38 := by kernel_rfl
theorem t39 : trFn Tryd.prog h39 Tryd.f39 = some a39 := by kernel_rfl
theorem t40 : trFn Tryd.prog h40 Tryd.f40 = some a40 := by kernel_rfl
theorem t41 : trFn Tryd.prog h41 Tryd.f41 = some a41 := by kernel_rfl
theorem t42 : trFn Tryd.prog h42 Tryd.f42 = some a42 := by kernel_rfl
theorem t43 : trFn Tryd.prog h43 Tryd.f43 = some a43 := by kernel_rfl
theorem t44 : trFn Tryd.prog h44 Tryd.f44 = some a44 := by kernel_rfl
theorem t45 : trFn Tryd.prog h45 Tryd.f45 = some a45 := by kernel_rfl
theorem t46 : trFn Tryd.prog h46 Tryd.f46 = some a46 := by kernel_rfl
theorem t47 : trFn Tryd.prog h47 Tryd.f47 = some a47 := by kernel_rfl
theorem t49 : trFn Tryd.prog h49 Tryd.f49 = some a49 := by kernel_rfl
theorem t50 : trFn Tryd.prog h50 Tryd.f50 = some a50 := by kernel_rfl
theorem t51 : trFn Tryd.prog h51 Tryd.f51 = some a51 := by kernel_rfl
theorem t52 : trFn Tryd.prog h52 Tryd.f52 = some a52 := by kernel_rfl
theorem t53 : trFn Tryd.prog h53 Tryd.f53 = some a53 := by kernel_rfl
theorem t54 : trFn Tryd.prog h54 Tryd.f54 = some a54 := by kernel_rfl
theorem t55 : trFn Tryd.prog h55 Tryd.f55 = some a55 := by kernel_rfl
theorem t56 : trFn Tryd.prog h56 Tryd.f56 = some a56 := by kernel_rfl
theorem t57 : trFn Tryd.prog h57 Tryd.f57 = some a57 := by kernel_rfl
theorem t58 : trFn Tryd.prog h58 Tryd.f58 = some a58 := by kernel_rfl
theorem t59 : trFn Tryd.prog h59 Tryd.f59 = some a59 := by kernel_rfl
theorem t60 : trFn Tryd.prog h60 Tryd.f60 = some a60 := by kernel_rfl
theorem t61 : trFn Tryd.prog h61 Tryd.f61 = some a61 := by kernel_rfl
theorem t62 : trFn Tryd.prog h62 Tryd.f62 = some a62 := by kernel_rfl
theorem t63 : trFn Tryd.prog h63 Tryd.f63 = some a63 := by kernel_rfl
theorem t64 : trFn Tryd.prog h64 Tryd.f64 = some a64 := by kernel_rfl
theorem t65 : trFn Tryd.prog h65 Tryd.f65 = some a65 := by kernel_rfl
theorem t66 : trFn Tryd.prog h66 Tryd.f66 = some a66 := by kernel_rfl
theorem t67 : trFn Tryd.prog h67 Tryd.f67 = some a67 := by kernel_rfl
theorem t68 : trFn Tryd.prog h68 Tryd.f68 = some a68 := by kernel_rfl
theorem t69 : trFn Tryd.prog h69 Tryd.f69 = some a69 := by kernel_rfl
theorem t70 : trFn Tryd.prog h70 Tryd.f70 = some a70 := by kernel_rfl
theorem t71 : trFn Tryd.prog h71 Tryd.f71 = some a71 := by kernel_rfl
theorem t72 : trFn Tryd.prog h72 Tryd.f72 = some a72 := by kernel_rfl
theorem t73 : trFn Tryd.prog h73 Tryd.f73 = some a73 := by kernel_rfl
theorem t74 : trFn Tryd.prog h74 Tryd.f74 = some a74 := by kernel_rfl
theorem t75 : trFn Tryd.prog h75 Tryd.f75 = some a75 := by kernel_rfl
theorem t76 : trFn Tryd.prog h76 Tryd.f76 = some a76 := by kernel_rfl
theorem t77 : trFn Tryd.prog h77 Tryd.f77 = some a77 := by kernel_rfl
theorem t78 : trFn Tryd.prog h78 Tryd.f78 = some a78 := by kernel_rfl
theorem t79 : trFn Tryd.prog h79 Tryd.f79 = some a79 := by kernel_rfl
theorem t80 : trFn Tryd.prog h80 Tryd.f80 = some a80 := by kernel_rfl
theorem t81 : trFn Tryd.prog h81 Tryd.f81 = some a81 := by kernel_rfl
theorem t82 : trFn Tryd.prog h82 Tryd.f82 = some a82 := by kernel_rfl
theorem t83 : trFn Tryd.prog h83 Tryd.f83 = some a83 := by kernel_rfl
theorem t84 : trFn Tryd.prog h84 Tryd.f84 = some a84 := by kernel_rfl
theorem t85 : trFn Tryd.prog h85 Tryd.f85 = some a85 := by kernel_rfl
theorem t86 : trFn Tryd.prog h86 Tryd.f86 = some a86 := by kernel_rfl
theorem t87 : trFn Tryd.prog h87 Tryd.f87 = some a87 := by kernel_rfl
theorem t88 : trFn Tryd.prog h88 Tryd.f88 = some a88 := by kernel_rfl
theorem t104 : trFn Tryd.prog h104 Tryd.f104 = some a104 := by kernel_rfl
theorem t106 : trFn Tryd.prog h106 Tryd.f106 = some a106 := by kernel_rfl
theorem t107 : trFn Tryd.prog h107 Tryd.f107 = some a107 := by kernel_rfl
theorem t108 : trFn Tryd.prog h108 Tryd.f108 = some a108 := by kernel_rfl
theorem t109 : trFn Tryd.prog h109 Tryd.f109 = some a109 := by kernel_rfl
theorem t110 : trFn Tryd.prog h110 Tryd.f110 = some a110 := by kernel_rfl
theorem t111 : trFn Tryd.prog h111 Tryd.f111 = some a111 := by kernel_rfl
theorem t112 : trFn Tryd.prog h112 Tryd.f112 = some a112 := by kernel_rfl
theorem t113 : trFn Tryd.prog h113 Tryd.f113 = some a113 := by kernel_rfl
theorem t114 : trFn Tryd.prog h114 Tryd.f114 = some a114 := by kernel_rfl
theorem t115 : trFn Tryd.prog h115 Tryd.f115 = some a115 := by kernel_rfl
theorem t116 : trFn Tryd.prog h116 Tryd.f116 = some a116 := by kernel_rfl
theorem t48 : trBack Tryd.prog h48 65 Tryd.f48 = some b48 := by kernel_rfl
def a48 : AFn := primFn (backEv b48)
theorem t24 : trDefer Tryd.prog h24 37 a37 Tryd.f24 = some d24 := by kernel_rfl
def a24 : AFn := primFn (deferEv d24)
def A : Nat → Option AFn := lkF [(3, a3), (4, a4), (5, a5), (6, a6), (7, a7), (8, a8), (9, a9), (10, a10), (11, a11), (12, a12), (13, a13), (14, a14), (15, a15), (16, a16), (17, a17), (18, a18), (19, a19), (20, a20), (21, a21), (22, a22), (23, a23), (24, a24), (25, a25), (26, a26), (27, a27), (28, a28), (29, a29), (30, a30), (31, a31), (32, a32), (33, a33), (34, a34), (35, a35), (36, a36), (37, a37), (38, a38), (39, a39), (40, a40), (41, a41), (42, a42), (43, a43), (44, a44), (45, a45), (46, a46), (47, a47), (48, a48), (49, a49), (50, a50), (51, a51), (52, a52), (53, a53), (54, a54), (55, a55), (56, a56), (57, a57), (58, a58), (59, a59), (60, a60), (61, a61), (62, a62), (63, a63), (64, a64), (65, a65), (66, a66), (67, a67), (68, a68), (69, a69), (70, a70), (71, a71), (72, a72), (73, a73), (74, a74), (75, a75), (76, a76), (77, a77), (78, a78), (79, a79), (80, a80), (81, a81), (82, a82), (83, a83), (84, a84), (85, a85), (86, a86), (87, a87), (88, a88), (104, a104), (106, a106), (107, a107), (108, a108), (109, a109), (110, a110), (111, a111), (112, a112), (113, a113), (114, a114), (115, a115), (116, a116)]
theorem A_ok : AOk Tryd.prog A := lkF_ok ⟨.inl ⟨h3, Tryd.f3, Tryd.func3, t3⟩,
  .inl ⟨h4, Tryd.f4, Tryd.func4, t4⟩,
  .inl ⟨h5, Tryd.f5, Tryd.func5, t5⟩,
  .inl ⟨h6, Tryd.f6, Tryd.func6, t6⟩,
  .inl ⟨h7, Tryd.f7, Tryd.func7, t7⟩,
  .inl ⟨h8, Tryd.f8, Tryd.func8, t8⟩,
  .inl ⟨h9, Tryd.f9, Tryd.func9, t9⟩,
  .inl ⟨h10, Tryd.f10, Tryd.func10, t10⟩,
  .inl ⟨h11, Tryd.f11, Tryd.func11, t11⟩,
  .inl ⟨h12, Tryd.f12, Tryd.func12, t12⟩,
  .inl ⟨h13, Tryd.f13, Tryd.func13, t13⟩,
  .inl ⟨h14, Tryd.f14, Tryd.func14, t14⟩,
  .inl ⟨h15, Tryd.f15, Tryd.func15, t15⟩,
  .inl ⟨h16, Tryd.f16, Tryd.func16, t16⟩,
  .inl ⟨h17, Tryd.f17, Tryd.func17, t17⟩,
  .inl ⟨h18, Tryd.f18, Tryd.func18, t18⟩,
  .inl ⟨h19, Tryd.f19, Tryd.func19, t19⟩,
  .inl ⟨h20, Tryd.f20, Tryd.func20, t20⟩,
  .inl ⟨h21, Tryd.f21, Tryd.func21, t21⟩,
  .inl ⟨h22, Tryd.f22, Tryd.func22, t22⟩,
  .inl ⟨h23, Tryd.f23, Tryd.func23, t23⟩,
  .inr ⟨_, rfl, defer_ok Tryd.func24 Tryd.func37 t37 t24⟩,
  .inl ⟨h25, Tryd.f25, Tryd.func25, t25⟩,
  .inl ⟨h26, Tryd.f26, Tryd.func26, t26⟩,
  .inl ⟨h27, Tryd.f27, Tryd.func27, t27⟩,
  .inl ⟨h28, Tryd.f28, Tryd.func28, t28⟩,
  .inl ⟨h29, Tryd.f29, Tryd.func29, t29⟩,
  .inl ⟨h30, Tryd.f30, Tryd.func30, t30⟩,
  .inl ⟨h31, Tryd.f31, Tryd.func31, t31⟩,
  .inl ⟨h32, Tryd.f32, Tryd.func32, t32⟩,
  .inl ⟨h33, Tryd.f33, Tryd.func33, t33⟩,
  .inl ⟨h34, Tryd.f34, Tryd.func34, t34⟩,
  .inl ⟨h35, Tryd.f35, Tryd.func35, t35⟩,
  .inl ⟨h36, Tryd.f36, Tryd.func36, t36⟩,
  .inl ⟨h37, Tryd.f37, Tryd.func37, t37⟩,
  .inl ⟨h38, Tryd.f38, Tryd.func38, t38⟩,
  .inl ⟨h39, Tryd.f39, Tryd.func39, t39⟩,
  .inl ⟨h40, Tryd.f40, Tryd.func40, t40⟩,
  .inl ⟨h41, Tryd.f41, Tryd.func41, t41⟩,
  .inl ⟨h42, Tryd.f42, Tryd.func42, t42⟩,
  .inl ⟨h43, Tryd.f43, Tryd.func43, t43⟩,
  .inl ⟨h44, Tryd.f44, Tryd.func44, t44⟩,
  .inl ⟨h45, Tryd.f45, Tryd.func45, t45⟩,
  .inl ⟨h46, Tryd.f46, Tryd.func46, t46⟩,
  .inl ⟨h47, Tryd.f47, Tryd.func47, t47⟩,
  .inr ⟨_, rfl, back_ok Tryd.func48 t48 back65⟩,
  .inl ⟨h49, Tryd.f49, Tryd.func49, t49⟩,
  .inl ⟨h50, Tryd.f50, Tryd.func50, t50⟩,
  .inl ⟨h51, Tryd.f51, Tryd.func51, t51⟩,
  .inl ⟨h52, Tryd.f52, Tryd.func52, t52⟩,
  .inl ⟨h53, Tryd.f53, Tryd.func53, t53⟩,
  .inl ⟨h54, Tryd.f54, Tryd.func54, t54⟩,
  .inl ⟨h55, Tryd.f55, Tryd.func55, t55⟩,
  .inl ⟨h56, Tryd.f56, Tryd.func56, t56⟩,
  .inl ⟨h57, Tryd.f57, Tryd.func57, t57⟩,
  .inl ⟨h58, Tryd.f58, Tryd.func58, t58⟩,
  .inl ⟨h59, Tryd.f59, Tryd.func59, t59⟩,
  .inl ⟨h60, Tryd.f60, Tryd.func60, t60⟩,
  .inl ⟨h61, Tryd.f61, Tryd.func61, t61⟩,
  .inl ⟨h62, Tryd.f62, Tryd.func62, t62⟩,
  .inl ⟨h63, Tryd.f63, Tryd.func63, t63⟩,
  .inl ⟨h64, Tryd.f64, Tryd.func64, t64⟩,
  .inl ⟨h65, Tryd.f65, Tryd.func65, t65⟩,
  .inl ⟨h66, Tryd.f66, Tryd.func66, t66⟩,
  .inl ⟨h67, Tryd.f67, Tryd.func67, t67⟩,
  .inl ⟨h68, Tryd.f68, Tryd.func68, t68⟩,
  .inl ⟨h69, Tryd.f69, Tryd.func69, t69⟩,
  .inl ⟨h70, Tryd.f70, Tryd.func70, t70⟩,
  .inl ⟨h71, Tryd.f71, Tryd.func71, t71⟩,
  .inl ⟨h72, Tryd.f72, Tryd.func72, t72⟩,
  .inl ⟨h73, Tryd.f73, Tryd.func73, t73⟩,
  .inl ⟨h74, Tryd.f74, Tryd.func74, t74⟩,
  .inl ⟨h75, Tryd.f75, Tryd.func75, t75⟩,
  .inl ⟨h76, Tryd.f76, Tryd.func76, t76⟩,
  .inl ⟨h77, Tryd.f77, Tryd.func77, t77⟩,
  .inl ⟨h78, Tryd.f78, Tryd.func78, t78⟩,
  .inl ⟨h79, Tryd.f79, Tryd.func79, t79⟩,
  .inl ⟨h80, Tryd.f80, Tryd.func80, t80⟩,
  .inl ⟨h81, Tryd.f81, Tryd.func81, t81⟩,
  .inl ⟨h82, Tryd.f82, Tryd.func82, t82⟩,
  .inl ⟨h83, Tryd.f83, Tryd.func83, t83⟩,
  .inl ⟨h84, Tryd.f84, Tryd.func84, t84⟩,
  .inl ⟨h85, Tryd.f85, Tryd.func85, t85⟩,
  .inl ⟨h86, Tryd.f86, Tryd.func86, t86⟩,
  .inl ⟨h87, Tryd.f87, Tryd.func87, t87⟩,
  .inl ⟨h88, Tryd.f88, Tryd.func88, t88⟩,
  .inl ⟨h104, Tryd.f104, Tryd.func104, t104⟩,
  .inl ⟨h106, Tryd.f106, Tryd.func106, t106⟩,
  .inl ⟨h107, Tryd.f107, Tryd.func107, t107⟩,
  .inl ⟨h108, Tryd.f108, Tryd.func108, t108⟩,
  .inl ⟨h109, Tryd.f109, Tryd.func109, t109⟩,
  .inl ⟨h110, Tryd.f110, Tryd.func110, t110⟩,
  .inl ⟨h111, Tryd.f111, Tryd.func111, t111⟩,
  .inl ⟨h112, Tryd.f112, Tryd.func112, t112⟩,
  .inl ⟨h113, Tryd.f113, Tryd.func113, t113⟩,
  .inl ⟨h114, Tryd.f114, Tryd.func114, t114⟩,
  .inl ⟨h115, Tryd.f115, Tryd.func115, t115⟩,
  .inl ⟨h116, Tryd.f116, Tryd.func116, t116⟩, trivial⟩
end
end Go.Proofs.YtbfnoaekfcbbkaaDoor
