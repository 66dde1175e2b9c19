/- The functions of this seat, as the abstract machine has them; each is what its translation out of the program gives. Made by program. -/
import Derived.Test.YtenhcejelicjfaaDoorProg
import Derived.Test.YtenhcejelicjfaaDoorAgStart
namespace Go.Proofs.YtenhcejelicjfaaDoor
open AG
set_option maxRecDepth 100000
set_option maxHeartbeats 4000000
def h9 : Hints := ⟨[4, 5, 6, 7, 9, 10, 11], []⟩
def a9 : AFn := { n := 124, np := 4, res := [.tmp 8], body :=
 (.seq (.reg [⟨(some 4), .box (some 4) (.tmp 0), none⟩, ⟨(some 5), .box (some 5) (.tmp 1), none⟩, ⟨(some 6), .box (some 6) (.tmp 2), none⟩, ⟨(some 7), .box (some 7) (.tmp 3), none⟩, ⟨(some 8), .mov (.val (.bool false)), none⟩])
 (.seq (.seq (.reg [⟨(some 12), .call 29 [], none⟩, ⟨(some 13), .un .not (.tmp 12), none⟩])
 (.cond (.tmp 13) (.seq (.reg [⟨(some 8), .mov (.val (.bool false)), none⟩])
 .ret) .skip))
 (.seq (.seq (.reg [⟨(some 14), .load (some 4) (.tmp 4), none⟩, ⟨(some 15), .call 30 [(.tmp 14)], none⟩, ⟨(some 16), .bin .neq (.tmp 15) (.val (.int .i64 0)), none⟩, ⟨(some 17), .mov (.tmp 16), none⟩, ⟨(some 18), .load (some 4) (.tmp 5), (some (17, false))⟩, ⟨(some 19), .call 30 [(.tmp 18)], (some (17, false))⟩, ⟨(some 20), .bin .neq (.tmp 19) (.val (.int .i64 0)), (some (17, false))⟩, ⟨(some 21), .pick (.tmp 17) (.val (.bool true)) (.tmp 20), none⟩, ⟨(some 22), .mov (.tmp 21), none⟩, ⟨(some 23), .load (some 4) (.tmp 6), (some (22, false))⟩, ⟨(some 24), .call 30 [(.tmp 23)], (some (22, false))⟩, ⟨(some 25), .bin .neq (.tmp 24) (.val (.int .i64 0)), (some (22, false))⟩, ⟨(some 26), .pick (.tmp 22) (.val (.bool true)) (.tmp 25), none⟩])
 (.cond (.tmp 26) (.seq (.reg [⟨(some 8), .mov (.val (.bool true)), none⟩])
 .ret) .skip))
 (.seq (.reg [⟨(some 27), .load (some 4) (.tmp 4), none⟩, ⟨(some 28), .load (some 4) (.tmp 5), none⟩, ⟨(some 29), .call 31 [(.tmp 27), (.tmp 28)], none⟩, ⟨(some 9), .alloc (some 9) [(.int .u32 0), (.int .u32 0), (.int .i64 0), (.int .i64 0)], none⟩, ⟨none, .store 4 (.tmp 9) (.tmp 29), none⟩])
 (.seq (.dreg [(false, ⟨(some 30), .load (some 4) (.tmp 7), none⟩, false), (false, ⟨(some 31), .load (some 4) (.tmp 4), none⟩, false), (false, ⟨(some 32), .call 27 [(.tmp 30), (.tmp 31)], none⟩, false), (false, ⟨(some 33), .load (some 4) (.tmp 7), none⟩, true), (false, ⟨(some 34), .load (some 4) (.tmp 9), none⟩, true), (false, ⟨(some 35), .call 27 [(.tmp 33), (.tmp 34)], none⟩, false), (false, ⟨(some 10), .alloc (some 10) [(.int .u32 0), (.int .u32 0), (.int .i64 0), (.int .i64 0)], none⟩, true), (false, ⟨(some 11), .alloc (some 11) [(.int .u32 0), (.int .u32 0), (.int .i64 0), (.int .i64 0)], none⟩, true), (false, ⟨none, .store 4 (.tmp 10) (.tmp 32), none⟩, false), (false, ⟨none, .store 4 (.tmp 11) (.tmp 35), none⟩, false)])
 (.seq (.dreg [(false, ⟨(some 36), .load (some 4) (.tmp 9), none⟩, false), (false, ⟨(some 37), .call 30 [(.tmp 36)], none⟩, false), (false, ⟨(some 38), .bin .eql (.tmp 37) (.val (.int .i64 0)), none⟩, false), (false, ⟨(some 39), .mov (.tmp 38), none⟩, false), (false, ⟨(some 40), .load (some 4) (.tmp 9), (some (39, true))⟩, true), (false, ⟨(some 41), .load (some 4) (.tmp 5), (some (39, true))⟩, false), (false, ⟨(some 42), .load (some 4) (.tmp 4), (some (39, true))⟩, false), (false, ⟨(some 43), .call 31 [(.tmp 41), (.tmp 42)], (some (39, true))⟩, false), (false, ⟨(some 44), .eq false (.agg [(0, 0), (1, 0), (2, 0), (3, 0)]) (.tmp 40) (.tmp 43), (some (39, true))⟩, false), (false, ⟨(some 45), .pick (.tmp 39) (.tmp 44) (.val (.bool false)), none⟩, false), (false, ⟨(some 46), .mov (.tmp 45), none⟩, false), (false, ⟨(some 47), .load (some 4) (.tmp 4), (some (46, true))⟩, false), (false, ⟨(some 48), .load (some 4) (.tmp 9), (some (46, true))⟩, false), (false, ⟨(some 49), .call 32 [(.tmp 47), (.tmp 48)], (some (46, true))⟩, false), (false, ⟨(some 50), .pick (.tmp 46) (.tmp 49) (.val (.bool false)), none⟩, false), (false, ⟨(some 51), .mov (.tmp 50), none⟩, false), (false, ⟨(some 52), .load (some 4) (.tmp 5), (some (51, true))⟩, false), (false, ⟨(some 53), .load (some 4) (.tmp 9), (some (51, true))⟩, false), (false, ⟨(some 54), .call 32 [(.tmp 52), (.tmp 53)], (some (51, true))⟩, false), (false, ⟨(some 55), .pick (.tmp 51) (.tmp 54) (.val (.bool false)), none⟩, false), (false, ⟨(some 56), .mov (.tmp 55), none⟩, false), (false, ⟨(some 57), .load (some 4) (.tmp 4), (some (56, true))⟩, false), (false, ⟨(some 58), .load (some 4) (.tmp 6), (some (56, true))⟩, false), (false, ⟨(some 59), .call 32 [(.tmp 57), (.tmp 58)], (some (56, true))⟩, false), (false, ⟨(some 60), .un .not (.tmp 59), (some (56, true))⟩, false), (false, ⟨(some 61), .mov (.tmp 60), (some (56, true))⟩, false), (false, ⟨(some 62), .load (some 4) (.tmp 5), (some (61, false))⟩, false), (false, ⟨(some 63), .load (some 4) (.tmp 6), (some (61, false))⟩, false), (false, ⟨(some 64), .call 32 [(.tmp 62), (.tmp 63)], (some (61, false))⟩, false), (false, ⟨(some 65), .un .not (.tmp 64), (some (61, false))⟩, false), (false, ⟨(some 66), .pick (.tmp 61) (.val (.bool true)) (.tmp 65), (some (56, true))⟩, false), (false, ⟨(some 67), .mov (.tmp 66), (some (56, true))⟩, false), (false, ⟨(some 68), .load (some 4) (.tmp 9), (some (67, false))⟩, false), (false, ⟨(some 69), .load (some 4) (.tmp 6), (some (67, false))⟩, false), (false, ⟨(some 70), .call 32 [(.tmp 68), (.tmp 69)], (some (67, false))⟩, false), (false, ⟨(some 71), .pick (.tmp 67) (.val (.bool true)) (.tmp 70), (some (56, true))⟩, false), (false, ⟨(some 72), .pick (.tmp 56) (.tmp 71) (.val (.bool false)), none⟩, false), (false, ⟨(some 73), .mov (.tmp 72), none⟩, false), (false, ⟨(some 74), .load (some 4) (.tmp 4), (some (73, true))⟩, false), (false, ⟨(some 75), .load (some 4) (.tmp 5), (some (73, true))⟩, false), (false, ⟨(some 76), .call 32 [(.tmp 74), (.tmp 75)], (some (73, true))⟩, false), (false, ⟨(some 77), .un .not (.tmp 76), (some (73, true))⟩, false), (false, ⟨(some 78), .mov (.tmp 77), (some (73, true))⟩, false), (false, ⟨(some 79), .load (some 4) (.tmp 5), (some (78, false))⟩, false), (false, ⟨(some 80), .load (some 4) (.tmp 4), (some (78, false))⟩, false), (false, ⟨(some 81), .call 32 [(.tmp 79), (.tmp 80)], (some (78, false))⟩, false), (false, ⟨(some 82), .un .not (.tmp 81), (some (78, false))⟩, false), (false, ⟨(some 83), .pick (.tmp 78) (.val (.bool true)) (.tmp 82), (some (73, true))⟩, false), (false, ⟨(some 84), .mov (.tmp 83), (some (73, true))⟩, false), (false, ⟨(some 85), .load (some 4) (.tmp 4), (some (84, false))⟩, false), (false, ⟨(some 86), .load (some 4) (.tmp 5), (some (84, false))⟩, false), (false, ⟨(some 87), .eq false (.agg [(0, 0), (1, 0), (2, 0), (3, 0)]) (.tmp 85) (.tmp 86), (some (84, false))⟩, false), (false, ⟨(some 88), .pick (.tmp 84) (.val (.bool true)) (.tmp 87), (some (73, true))⟩, false), (false, ⟨(some 89), .pick (.tmp 73) (.tmp 88) (.val (.bool false)), none⟩, false), (false, ⟨(some 90), .mov (.tmp 89), none⟩, false), (false, ⟨(some 91), .load (some 4) (.tmp 4), (some (90, true))⟩, false), (false, ⟨(some 92), .load (some 4) (.tmp 5), (some (90, true))⟩, false), (false, ⟨(some 93), .call 32 [(.tmp 91), (.tmp 92)], (some (90, true))⟩, false), (false, ⟨(some 94), .un .not (.tmp 93), (some (90, true))⟩, false), (false, ⟨(some 95), .mov (.tmp 94), (some (90, true))⟩, false), (false, ⟨(some 96), .load (some 4) (.tmp 5), (some (95, false))⟩, false), (false, ⟨(some 97), .load (some 4) (.tmp 6), (some (95, false))⟩, false), (false, ⟨(some 98), .call 32 [(.tmp 96), (.tmp 97)], (some (95, false))⟩, false), (false, ⟨(some 99), .un .not (.tmp 98), (some (95, false))⟩, false), (false, ⟨(some 100), .pick (.tmp 95) (.val (.bool true)) (.tmp 99), (some (90, true))⟩, false), (false, ⟨(some 101), .mov (.tmp 100), (some (90, true))⟩, false), (false, ⟨(some 102), .load (some 4) (.tmp 4), (some (101, false))⟩, false), (false, ⟨(some 103), .load (some 4) (.tmp 6), (some (101, false))⟩, false), (false, ⟨(some 104), .call 32 [(.tmp 102), (.tmp 103)], (some (101, false))⟩, false), (false, ⟨(some 105), .pick (.tmp 101) (.val (.bool true)) (.tmp 104), (some (90, true))⟩, false), (false, ⟨(some 106), .pick (.tmp 90) (.tmp 105) (.val (.bool false)), none⟩, false), (false, ⟨(some 107), .mov (.tmp 106), none⟩, false), (false, ⟨(some 108), .load (some 4) (.tmp 10), (some (107, true))⟩, false), (false, ⟨(some 109), .call 30 [(.tmp 108)], (some (107, true))⟩, false), (false, ⟨(some 110), .bin .eql (.tmp 109) (.val (.int .i64 0)), (some (107, true))⟩, false), (false, ⟨(some 111), .pick (.tmp 107) (.tmp 110) (.val (.bool false)), none⟩, false), (false, ⟨(some 112), .mov (.tmp 111), none⟩, false), (false, ⟨(some 113), .load (some 4) (.tmp 10), (some (112, true))⟩, false), (false, ⟨(some 114), .load (some 4) (.tmp 11), (some (112, true))⟩, false), (false, ⟨(some 115), .call 32 [(.tmp 113), (.tmp 114)], (some (112, true))⟩, false), (false, ⟨(some 116), .pick (.tmp 112) (.tmp 115) (.val (.bool false)), none⟩, false), (false, ⟨(some 117), .mov (.tmp 116), none⟩, false), (false, ⟨(some 118), .load (some 4) (.tmp 7), (some (117, true))⟩, false), (false, ⟨(some 119), .load (some 4) (.tmp 10), (some (117, true))⟩, false), (false, ⟨(some 120), .call 27 [(.tmp 118), (.tmp 119)], (some (117, true))⟩, false), (false, ⟨(some 121), .load (some 4) (.tmp 10), (some (117, true))⟩, true), (false, ⟨(some 122), .eq false (.agg [(0, 0), (1, 0), (2, 0), (3, 0)]) (.tmp 120) (.tmp 121), (some (117, true))⟩, false), (false, ⟨(some 123), .pick (.tmp 117) (.tmp 122) (.val (.bool false)), none⟩, false), (false, ⟨(some 8), .mov (.tmp 123), none⟩, false)])
 .ret)))))) }
def h12 : Hints := ⟨[5], []⟩
def a12 : AFn := { n := 50, np := 1, res := [.tmp 2], body :=
 (.seq (.reg [⟨(some 2), .mov (.val (.int .i64 0)), none⟩])
 (.seq (.seq (.reg [⟨(some 6), .mov (.tmp 0), none⟩, ⟨(some 7), .lenL (.tmp 6), none⟩, ⟨(some 8), .bin .gtr (.tmp 7) (.val (.int .i64 32)), none⟩])
 (.cond (.tmp 8) (.seq (.reg [⟨(some 2), .mov (.val (.int .i64 3)), none⟩])
 .ret) .skip))
 (.seq (.reg [⟨(some 3), .mov (.val (.int .u32 0)), none⟩])
 (.seq (.seq (.reg [⟨(some 9), .mov (.tmp 0), none⟩, ⟨(some 10), .lenL (.tmp 9), none⟩, ⟨(some 11), .mov (.val (.int .i64 0)), none⟩])
 (.block 0 (.loop (.seq (.reg [⟨(some 12), .bin .lss (.tmp 11) (.tmp 10), none⟩])
 (.seq (.cond (.tmp 12) .skip (.exit 0))
 (.seq (.block 1 (.seq (.reg [⟨(some 13), .iaddrL 3 (.tmp 9) (.tmp 11), none⟩, ⟨(some 14), .load (some 3) (.tmp 13), none⟩, ⟨(some 5), .alloc (some 5) [(.int .i64 0), (.int .i64 0), (.int .i64 0)], none⟩, ⟨none, .store 3 (.tmp 5) (.tmp 14), none⟩])
 (.seq (.seq (.reg [⟨(some 15), .faddr 0 (.tmp 5), none⟩, ⟨(some 16), .load none (.tmp 15), none⟩, ⟨(some 17), .bin .lss (.tmp 16) (.val (.int .i64 0)), none⟩, ⟨(some 18), .mov (.tmp 17), none⟩, ⟨(some 19), .faddr 0 (.tmp 5), (some (18, false))⟩, ⟨(some 20), .load none (.tmp 19), (some (18, false))⟩, ⟨(some 21), .bin .gtr (.tmp 20) (.val (.int .i64 31)), (some (18, false))⟩, ⟨(some 22), .pick (.tmp 18) (.val (.bool true)) (.tmp 21), none⟩, ⟨(some 23), .mov (.tmp 22), none⟩, ⟨(some 24), .faddr 1 (.tmp 5), (some (23, false))⟩, ⟨(some 25), .load none (.tmp 24), (some (23, false))⟩, ⟨(some 26), .bin .lss (.tmp 25) (.val (.int .i64 1)), (some (23, false))⟩, ⟨(some 27), .pick (.tmp 23) (.val (.bool true)) (.tmp 26), none⟩, ⟨(some 28), .mov (.tmp 27), none⟩, ⟨(some 29), .faddr 1 (.tmp 5), (some (28, false))⟩, ⟨(some 30), .load none (.tmp 29), (some (28, false))⟩, ⟨(some 31), .bin .gtr (.tmp 30) (.val (.int .i64 15)), (some (28, false))⟩, ⟨(some 32), .pick (.tmp 28) (.val (.bool true)) (.tmp 31), none⟩, ⟨(some 33), .mov (.tmp 32), none⟩, ⟨(some 34), .faddr 2 (.tmp 5), (some (33, false))⟩, ⟨(some 35), .load none (.tmp 34), (some (33, false))⟩, ⟨(some 36), .bin .lss (.tmp 35) (.val (.int .i64 0)), (some (33, false))⟩, ⟨(some 37), .pick (.tmp 33) (.val (.bool true)) (.tmp 36), none⟩, ⟨(some 38), .mov (.tmp 37), none⟩, ⟨(some 39), .mov (.tmp 3), (some (38, false))⟩, ⟨(some 40), .faddr 0 (.tmp 5), (some (38, false))⟩, ⟨(some 41), .load none (.tmp 40), (some (38, false))⟩, ⟨(some 42), .call 14 [(.tmp 39), (.tmp 41)], (some (38, false))⟩, ⟨(some 43), .pick (.tmp 38) (.val (.bool true)) (.tmp 42), none⟩])
 (.cond (.tmp 43) (.seq (.reg [⟨(some 2), .mov (.val (.int .i64 2)), none⟩])
 .ret) .skip))
 (.reg [⟨(some 44), .mov (.tmp 3), none⟩, ⟨(some 45), .faddr 0 (.tmp 5), none⟩, ⟨(some 46), .load none (.tmp 45), none⟩, ⟨(some 47), .bin .shl (.val (.int .u32 1)) (.tmp 46), none⟩, ⟨(some 48), .bin .or (.tmp 44) (.tmp 47), none⟩, ⟨(some 3), .mov (.tmp 48), none⟩]))))
 (.reg [⟨(some 49), .bin .add (.tmp 11) (.val (.int .i64 1)), none⟩, ⟨(some 11), .mov (.tmp 49), none⟩])))))))
 (.seq (.reg [⟨(some 2), .mov (.val (.int .i64 0)), none⟩])
 .ret))))) }
def h14 : Hints := ⟨[], []⟩
def a14 : AFn := { n := 18, np := 2, res := [.tmp 4], body :=
 (.seq (.reg [⟨(some 4), .mov (.val (.bool false)), none⟩])
 (.seq (.reg [⟨(some 5), .mov (.tmp 1), none⟩, ⟨(some 6), .bin .geq (.tmp 5) (.val (.int .i64 0)), none⟩, ⟨(some 7), .mov (.tmp 6), none⟩, ⟨(some 8), .mov (.tmp 1), (some (7, true))⟩, ⟨(some 9), .bin .lss (.tmp 8) (.val (.int .i64 32)), (some (7, true))⟩, ⟨(some 10), .pick (.tmp 7) (.tmp 9) (.val (.bool false)), none⟩, ⟨(some 11), .mov (.tmp 10), none⟩, ⟨(some 12), .mov (.tmp 0), (some (11, true))⟩, ⟨(some 13), .mov (.tmp 1), (some (11, true))⟩, ⟨(some 14), .bin .shr (.tmp 12) (.tmp 13), (some (11, true))⟩, ⟨(some 15), .bin .and (.tmp 14) (.val (.int .u32 1)), (some (11, true))⟩, ⟨(some 16), .bin .eql (.tmp 15) (.val (.int .u32 1)), (some (11, true))⟩, ⟨(some 17), .pick (.tmp 11) (.tmp 16) (.val (.bool false)), none⟩, ⟨(some 4), .mov (.tmp 17), none⟩])
 .ret)) }
def h27 : Hints := ⟨[2, 3, 4], []⟩
def a27 : AFn := { n := 54, np := 2, res := [.cell 4 (some 4)], body :=
 (.seq (.reg [⟨(some 2), .box (some 2) (.tmp 0), none⟩, ⟨(some 3), .box (some 3) (.tmp 1), none⟩, ⟨(some 4), .alloc (some 4) [(.int .u32 0), (.int .u32 0), (.int .i64 0), (.int .i64 0)], none⟩])
 (.seq (.seq (.reg [⟨(some 6), .load (some 4) (.tmp 3), none⟩, ⟨(some 7), .call 30 [(.tmp 6)], none⟩, ⟨(some 8), .bin .neq (.tmp 7) (.val (.int .i64 0)), none⟩, ⟨(some 9), .mov (.tmp 8), none⟩, ⟨(some 10), .load (some 4) (.tmp 2), (some (9, false))⟩, ⟨(some 11), .call 50 [(.tmp 10)], (some (9, false))⟩, ⟨(some 12), .bin .neq (.tmp 11) (.val (.int .i64 0)), (some (9, false))⟩, ⟨(some 13), .pick (.tmp 9) (.val (.bool true)) (.tmp 12), none⟩])
 (.cond (.tmp 13) (.seq (.reg [⟨(some 14), .load (some 4) (.tmp 3), none⟩, ⟨none, .store 4 (.tmp 4) (.tmp 14), none⟩])
 .ret) .skip))
 (.seq (.reg [⟨(some 15), .faddr 1 (.tmp 2), none⟩, ⟨(some 16), .load none (.tmp 15), none⟩, ⟨(some 17), .bin .and (.tmp 16) (.val (.int .i64 31)), none⟩, ⟨(some 18), .bin .shl (.val (.int .u32 1)) (.tmp 17), none⟩, ⟨(some 5), .mov (.tmp 18), none⟩])
 (.seq (.seq (.reg [⟨(some 19), .faddr 0 (.tmp 2), none⟩, ⟨(some 20), .load none (.tmp 19), none⟩])
 (.block 0 (.seq (.reg [⟨(some 22), .bin .eql (.tmp 20) (.val (.int .i64 19)), none⟩, ⟨(some 21), .mov (.tmp 22), none⟩])
 (.cond (.tmp 21) (.reg [⟨(some 23), .faddr 0 (.tmp 3), none⟩, ⟨(some 24), .load none (.tmp 23), none⟩, ⟨(some 25), .mov (.tmp 5), none⟩, ⟨(some 26), .bin .or (.tmp 24) (.tmp 25), none⟩, ⟨(some 27), .faddr 1 (.tmp 3), none⟩, ⟨(some 28), .load none (.tmp 27), none⟩, ⟨(some 29), .mov (.tmp 5), none⟩, ⟨(some 30), .bin .or (.tmp 28) (.tmp 29), none⟩, ⟨(some 31), .faddr 0 (.tmp 3), none⟩, ⟨none, .store 1 (.tmp 31) (.tmp 26), none⟩, ⟨(some 32), .faddr 1 (.tmp 3), none⟩, ⟨none, .store 1 (.tmp 32) (.tmp 30), none⟩]) (.seq (.reg [⟨(some 34), .bin .eql (.tmp 20) (.val (.int .i64 20)), none⟩, ⟨(some 33), .mov (.tmp 34), none⟩])
 (.cond (.tmp 33) (.reg [⟨(some 35), .faddr 0 (.tmp 3), none⟩, ⟨(some 36), .load none (.tmp 35), none⟩, ⟨(some 37), .mov (.tmp 5), none⟩, ⟨(some 38), .bin .andNot (.tmp 36) (.tmp 37), none⟩, ⟨(some 39), .faddr 1 (.tmp 3), none⟩, ⟨(some 40), .load none (.tmp 39), none⟩, ⟨(some 41), .mov (.tmp 5), none⟩, ⟨(some 42), .bin .andNot (.tmp 40) (.tmp 41), none⟩, ⟨(some 43), .faddr 0 (.tmp 3), none⟩, ⟨none, .store 1 (.tmp 43) (.tmp 38), none⟩, ⟨(some 44), .faddr 1 (.tmp 3), none⟩, ⟨none, .store 1 (.tmp 44) (.tmp 42), none⟩]) (.seq (.reg [⟨(some 46), .bin .eql (.tmp 20) (.val (.int .i64 21)), none⟩, ⟨(some 45), .mov (.tmp 46), none⟩])
 (.cond (.tmp 45) (.dreg [(false, ⟨(some 47), .faddr 1 (.tmp 2), none⟩, false), (false, ⟨(some 48), .load none (.tmp 47), none⟩, false), (false, ⟨(some 49), .faddr 1 (.tmp 2), none⟩, false), (true, ⟨(some 50), .load none (.tmp 49), none⟩, false), (false, ⟨(some 51), .faddr 2 (.tmp 3), none⟩, false), (true, ⟨none, .store 1 (.tmp 51) (.tmp 48), none⟩, false), (false, ⟨(some 52), .faddr 3 (.tmp 3), none⟩, false), (false, ⟨none, .store 1 (.tmp 52) (.tmp 50), none⟩, false)]) .skip))))))))
 (.seq (.reg [⟨(some 53), .load (some 4) (.tmp 3), none⟩, ⟨none, .store 4 (.tmp 4) (.tmp 53), none⟩])
 .ret))))) }
def h28 : Hints := ⟨[0], []⟩
def a28 : AFn := { n := 2, np := 0, res := [.cell 0 (some 4)], body :=
 (.seq (.reg [⟨(some 0), .alloc (some 0) [(.int .u32 0), (.int .u32 0), (.int .i64 0), (.int .i64 0)], none⟩])
 (.seq (.reg [⟨(some 1), .build [(.int .u32 0), (.int .u32 0), (.int .i64 0), (.int .i64 0)] [], none⟩, ⟨none, .store 4 (.tmp 0) (.tmp 1), none⟩])
 .ret)) }
def h29 : Hints := ⟨[1], []⟩
def a29 : AFn := { n := 24, np := 0, res := [.tmp 0], body :=
 (.seq (.reg [⟨(some 0), .mov (.val (.bool false)), none⟩])
 (.seq (.reg [⟨(some 2), .build [(.int .u32 0), (.int .u32 0), (.int .i64 0), (.int .i64 0)] [(0, 1, (.val (.int .u32 3))), (1, 1, (.val (.int .u32 1))), (3, 1, (.val (.int .i64 4)))], none⟩, ⟨(some 1), .alloc (some 1) [(.int .u32 0), (.int .u32 0), (.int .i64 0), (.int .i64 0)], none⟩, ⟨none, .store 4 (.tmp 1) (.tmp 2), none⟩])
 (.seq (.dreg [(false, ⟨(some 3), .load (some 4) (.tmp 1), none⟩, true), (false, ⟨(some 4), .call 51 [], none⟩, false), (false, ⟨(some 5), .call 39 [(.tmp 3), (.val (.int .i64 0)), (.tmp 4)], none⟩, false), (false, ⟨(some 6), .bin .eql (.tmp 5) (.val (.int .u32 3)), none⟩, false), (false, ⟨(some 7), .mov (.tmp 6), none⟩, false), (false, ⟨(some 8), .load (some 4) (.tmp 1), (some (7, true))⟩, true), (false, ⟨(some 9), .call 51 [], (some (7, true))⟩, false), (false, ⟨(some 10), .call 41 [(.tmp 8), (.val (.int .i64 0)), (.tmp 9)], (some (7, true))⟩, false), (false, ⟨(some 11), .bin .eql (.tmp 10) (.val (.int .u32 0)), (some (7, true))⟩, false), (false, ⟨(some 12), .pick (.tmp 7) (.tmp 11) (.val (.bool false)), none⟩, false), (false, ⟨(some 13), .mov (.tmp 12), none⟩, false), (false, ⟨(some 14), .load (some 4) (.tmp 1), (some (13, true))⟩, true), (false, ⟨(some 15), .call 51 [], (some (13, true))⟩, false), (false, ⟨(some 16), .call 39 [(.tmp 14), (.val (.int .i64 1)), (.tmp 15)], (some (13, true))⟩, false), (false, ⟨(some 17), .bin .eql (.tmp 16) (.val (.int .u32 2)), (some (13, true))⟩, false), (false, ⟨(some 18), .pick (.tmp 13) (.tmp 17) (.val (.bool false)), none⟩, false), (false, ⟨(some 19), .mov (.tmp 18), none⟩, false), (false, ⟨(some 20), .mkslc 1 2 [(.int .u32 0)] [(0, (.val (.int .u32 2))), (1, (.val (.int .u32 0)))], (some (19, true))⟩, false), (false, ⟨(some 21), .call 43 [(.val (.int .u32 1)), (.tmp 20)], (some (19, true))⟩, false), (false, ⟨(some 22), .bin .eql (.tmp 21) (.val (.int .u32 3)), (some (19, true))⟩, false), (false, ⟨(some 23), .pick (.tmp 19) (.tmp 22) (.val (.bool false)), none⟩, false), (false, ⟨(some 0), .mov (.tmp 23), none⟩, false)])
 .ret))) }
def h30 : Hints := ⟨[1], []⟩
def a30 : AFn := { n := 26, np := 1, res := [.tmp 2], body :=
 (.seq (.reg [⟨(some 1), .box (some 1) (.tmp 0), none⟩, ⟨(some 2), .mov (.val (.int .i64 0)), none⟩])
 (.seq (.seq (.reg [⟨(some 3), .faddr 1 (.tmp 1), none⟩, ⟨(some 4), .load none (.tmp 3), none⟩, ⟨(some 5), .faddr 0 (.tmp 1), none⟩, ⟨(some 6), .load none (.tmp 5), none⟩, ⟨(some 7), .bin .andNot (.tmp 4) (.tmp 6), none⟩, ⟨(some 8), .bin .neq (.tmp 7) (.val (.int .u32 0)), none⟩, ⟨(some 9), .mov (.tmp 8), none⟩, ⟨(some 10), .faddr 2 (.tmp 1), (some (9, false))⟩, ⟨(some 11), .load none (.tmp 10), (some (9, false))⟩, ⟨(some 12), .bin .lss (.tmp 11) (.val (.int .i64 0)), (some (9, false))⟩, ⟨(some 13), .pick (.tmp 9) (.val (.bool true)) (.tmp 12), none⟩, ⟨(some 14), .mov (.tmp 13), none⟩, ⟨(some 15), .faddr 3 (.tmp 1), (some (14, false))⟩, ⟨(some 16), .load none (.tmp 15), (some (14, false))⟩, ⟨(some 17), .bin .gtr (.tmp 16) (.val (.int .i64 15)), (some (14, false))⟩, ⟨(some 18), .pick (.tmp 14) (.val (.bool true)) (.tmp 17), none⟩, ⟨(some 19), .mov (.tmp 18), none⟩, ⟨(some 20), .faddr 2 (.tmp 1), (some (19, false))⟩, ⟨(some 21), .load none (.tmp 20), (some (19, false))⟩, ⟨(some 22), .faddr 3 (.tmp 1), (some (19, false))⟩, ⟨(some 23), .load none (.tmp 22), (some (19, false))⟩, ⟨(some 24), .bin .gtr (.tmp 21) (.tmp 23), (some (19, false))⟩, ⟨(some 25), .pick (.tmp 19) (.val (.bool true)) (.tmp 24), none⟩])
 (.cond (.tmp 25) (.seq (.reg [⟨(some 2), .mov (.val (.int .i64 2)), none⟩])
 .ret) .skip))
 (.seq (.reg [⟨(some 2), .mov (.val (.int .i64 0)), none⟩])
 .ret))) }
def h31 : Hints := ⟨[2, 3, 4], []⟩
def a31 : AFn := { n := 35, np := 2, res := [.cell 4 (some 4)], body :=
 (.seq (.reg [⟨(some 2), .box (some 2) (.tmp 0), none⟩, ⟨(some 3), .box (some 3) (.tmp 1), none⟩, ⟨(some 4), .alloc (some 4) [(.int .u32 0), (.int .u32 0), (.int .i64 0), (.int .i64 0)], none⟩])
 (.seq (.seq (.reg [⟨(some 5), .load (some 4) (.tmp 2), none⟩, ⟨(some 6), .call 30 [(.tmp 5)], none⟩, ⟨(some 7), .bin .neq (.tmp 6) (.val (.int .i64 0)), none⟩, ⟨(some 8), .mov (.tmp 7), none⟩, ⟨(some 9), .load (some 4) (.tmp 3), (some (8, false))⟩, ⟨(some 10), .call 30 [(.tmp 9)], (some (8, false))⟩, ⟨(some 11), .bin .neq (.tmp 10) (.val (.int .i64 0)), (some (8, false))⟩, ⟨(some 12), .pick (.tmp 8) (.val (.bool true)) (.tmp 11), none⟩])
 (.cond (.tmp 12) (.seq (.reg [⟨(some 13), .call 28 [], none⟩, ⟨none, .store 4 (.tmp 4) (.tmp 13), none⟩])
 .ret) .skip))
 (.seq (.reg [⟨(some 14), .faddr 0 (.tmp 2), none⟩, ⟨(some 15), .load none (.tmp 14), none⟩, ⟨(some 16), .faddr 0 (.tmp 3), none⟩, ⟨(some 17), .load none (.tmp 16), none⟩, ⟨(some 18), .bin .or (.tmp 15) (.tmp 17), none⟩, ⟨(some 19), .faddr 1 (.tmp 2), none⟩, ⟨(some 20), .load none (.tmp 19), none⟩, ⟨(some 21), .faddr 1 (.tmp 3), none⟩, ⟨(some 22), .load none (.tmp 21), none⟩, ⟨(some 23), .bin .and (.tmp 20) (.tmp 22), none⟩, ⟨(some 24), .faddr 2 (.tmp 2), none⟩, ⟨(some 25), .load none (.tmp 24), none⟩, ⟨(some 26), .faddr 2 (.tmp 3), none⟩, ⟨(some 27), .load none (.tmp 26), none⟩, ⟨(some 28), .min [(.tmp 25), (.tmp 27)], none⟩, ⟨(some 29), .faddr 3 (.tmp 2), none⟩, ⟨(some 30), .load none (.tmp 29), none⟩, ⟨(some 31), .faddr 3 (.tmp 3), none⟩, ⟨(some 32), .load none (.tmp 31), none⟩, ⟨(some 33), .max [(.tmp 30), (.tmp 32)], none⟩, ⟨(some 34), .build [(.int .u32 0), (.int .u32 0), (.int .i64 0), (.int .i64 0)] [(0, 1, (.tmp 18)), (1, 1, (.tmp 23)), (2, 1, (.tmp 28)), (3, 1, (.tmp 33))], none⟩, ⟨none, .store 4 (.tmp 4) (.tmp 34), none⟩])
 .ret))) }
def h32 : Hints := ⟨[2, 3], []⟩
def a32 : AFn := { n := 20, np := 2, res := [.tmp 4], body :=
 (.seq (.reg [⟨(some 2), .box (some 2) (.tmp 0), none⟩, ⟨(some 3), .box (some 3) (.tmp 1), none⟩, ⟨(some 4), .mov (.val (.bool false)), none⟩])
 (.seq (.dreg [(false, ⟨(some 5), .load (some 4) (.tmp 2), none⟩, false), (false, ⟨(some 6), .call 30 [(.tmp 5)], none⟩, false), (false, ⟨(some 7), .bin .eql (.tmp 6) (.val (.int .i64 0)), none⟩, false), (false, ⟨(some 8), .mov (.tmp 7), none⟩, false), (false, ⟨(some 9), .load (some 4) (.tmp 3), (some (8, true))⟩, false), (false, ⟨(some 10), .call 30 [(.tmp 9)], (some (8, true))⟩, false), (false, ⟨(some 11), .bin .eql (.tmp 10) (.val (.int .i64 0)), (some (8, true))⟩, false), (false, ⟨(some 12), .pick (.tmp 8) (.tmp 11) (.val (.bool false)), none⟩, false), (false, ⟨(some 13), .mov (.tmp 12), none⟩, false), (false, ⟨(some 14), .load (some 4) (.tmp 2), (some (13, true))⟩, false), (false, ⟨(some 15), .load (some 4) (.tmp 3), (some (13, true))⟩, false), (false, ⟨(some 16), .call 31 [(.tmp 14), (.tmp 15)], (some (13, true))⟩, false), (false, ⟨(some 17), .load (some 4) (.tmp 3), (some (13, true))⟩, true), (false, ⟨(some 18), .eq false (.agg [(0, 0), (1, 0), (2, 0), (3, 0)]) (.tmp 16) (.tmp 17), (some (13, true))⟩, false), (false, ⟨(some 19), .pick (.tmp 13) (.tmp 18) (.val (.bool false)), none⟩, false), (false, ⟨(some 4), .mov (.tmp 19), none⟩, false)])
 .ret)) }
def h39 : Hints := ⟨[3], []⟩
def a39 : AFn := { n := 17, np := 3, res := [.tmp 6], body :=
 (.seq (.reg [⟨(some 3), .box (some 3) (.tmp 0), none⟩, ⟨(some 6), .mov (.val (.int .u32 0)), none⟩])
 (.seq (.seq (.reg [⟨(some 7), .load (some 4) (.tmp 3), none⟩, ⟨(some 8), .call 30 [(.tmp 7)], none⟩, ⟨(some 9), .bin .neq (.tmp 8) (.val (.int .i64 0)), none⟩])
 (.cond (.tmp 9) (.seq (.reg [⟨(some 6), .mov (.val (.int .u32 0)), none⟩])
 .ret) .skip))
 (.seq (.reg [⟨(some 10), .faddr 0 (.tmp 3), none⟩, ⟨(some 11), .load none (.tmp 10), none⟩, ⟨(some 12), .faddr 2 (.tmp 3), none⟩, ⟨(some 13), .load none (.tmp 12), none⟩, ⟨(some 14), .mov (.tmp 1), none⟩, ⟨(some 15), .mov (.tmp 2), none⟩, ⟨(some 16), .call 53 [(.tmp 11), (.tmp 13), (.tmp 14), (.tmp 15)], none⟩, ⟨(some 6), .mov (.tmp 16), none⟩])
 .ret))) }
def h41 : Hints := ⟨[3], []⟩
def a41 : AFn := { n := 17, np := 3, res := [.tmp 6], body :=
 (.seq (.reg [⟨(some 3), .box (some 3) (.tmp 0), none⟩, ⟨(some 6), .mov (.val (.int .u32 0)), none⟩])
 (.seq (.seq (.reg [⟨(some 7), .load (some 4) (.tmp 3), none⟩, ⟨(some 8), .call 30 [(.tmp 7)], none⟩, ⟨(some 9), .bin .neq (.tmp 8) (.val (.int .i64 0)), none⟩])
 (.cond (.tmp 9) (.seq (.reg [⟨(some 6), .mov (.val (.int .u32 0)), none⟩])
 .ret) .skip))
 (.seq (.reg [⟨(some 10), .faddr 1 (.tmp 3), none⟩, ⟨(some 11), .load none (.tmp 10), none⟩, ⟨(some 12), .faddr 3 (.tmp 3), none⟩, ⟨(some 13), .load none (.tmp 12), none⟩, ⟨(some 14), .mov (.tmp 1), none⟩, ⟨(some 15), .mov (.tmp 2), none⟩, ⟨(some 16), .call 53 [(.tmp 11), (.tmp 13), (.tmp 14), (.tmp 15)], none⟩, ⟨(some 6), .mov (.tmp 16), none⟩])
 .ret))) }
def h43 : Hints := ⟨[], []⟩
def a43 : AFn := { n := 30, np := 2, res := [.tmp 4], body :=
 (.seq (.reg [⟨(some 4), .mov (.val (.int .u32 0)), none⟩])
 (.block 0 (.loop (.block 1 (.seq (.reg [⟨(some 7), .mov (.tmp 0), none⟩, ⟨(some 5), .mov (.tmp 7), none⟩])
 (.seq (.seq (.reg [⟨(some 8), .mov (.tmp 1), none⟩, ⟨(some 9), .lenL (.tmp 8), none⟩, ⟨(some 10), .min [(.tmp 9), (.val (.int .i64 32))], none⟩, ⟨(some 11), .mov (.val (.int .i64 0)), none⟩])
 (.block 2 (.loop (.seq (.reg [⟨(some 12), .bin .lss (.tmp 11) (.tmp 10), none⟩])
 (.seq (.cond (.tmp 12) .skip (.exit 2))
 (.seq (.block 3 (.seq (.reg [⟨(some 13), .mov (.tmp 11), none⟩, ⟨(some 6), .mov (.tmp 13), none⟩])
 (.seq (.reg [⟨(some 14), .mov (.tmp 5), none⟩, ⟨(some 15), .mov (.tmp 6), none⟩, ⟨(some 16), .bin .shr (.tmp 14) (.tmp 15), none⟩, ⟨(some 17), .bin .and (.tmp 16) (.val (.int .u32 1)), none⟩, ⟨(some 18), .bin .eql (.tmp 17) (.val (.int .u32 1)), none⟩])
 (.cond (.tmp 18) (.reg [⟨(some 19), .mov (.tmp 0), none⟩, ⟨(some 20), .mov (.tmp 1), none⟩, ⟨(some 21), .mov (.tmp 6), none⟩, ⟨(some 22), .iaddrL 1 (.tmp 20) (.tmp 21), none⟩, ⟨(some 23), .load none (.tmp 22), none⟩, ⟨(some 24), .bin .or (.tmp 19) (.tmp 23), none⟩, ⟨(some 0), .mov (.tmp 24), none⟩]) .skip))))
 (.reg [⟨(some 25), .bin .add (.tmp 11) (.val (.int .i64 1)), none⟩, ⟨(some 11), .mov (.tmp 25), none⟩])))))))
 (.seq (.reg [⟨(some 26), .mov (.tmp 0), none⟩, ⟨(some 27), .mov (.tmp 5), none⟩, ⟨(some 28), .bin .eql (.tmp 26) (.tmp 27), none⟩])
 (.cond (.tmp 28) (.seq (.reg [⟨(some 29), .mov (.tmp 0), none⟩, ⟨(some 4), .mov (.tmp 29), none⟩])
 .ret) .skip)))))))) }
def h50 : Hints := ⟨[1, 3], []⟩
def a50 : AFn := { n := 41, np := 1, res := [.tmp 2], body :=
 (.seq (.reg [⟨(some 1), .box (some 1) (.tmp 0), none⟩, ⟨(some 2), .mov (.val (.int .i64 0)), none⟩])
 (.seq (.seq (.reg [⟨(some 4), .faddr 0 (.tmp 1), none⟩, ⟨(some 5), .load none (.tmp 4), none⟩, ⟨(some 6), .bin .lss (.tmp 5) (.val (.int .i64 1)), none⟩, ⟨(some 7), .mov (.tmp 6), none⟩, ⟨(some 8), .faddr 0 (.tmp 1), (some (7, false))⟩, ⟨(some 9), .load none (.tmp 8), (some (7, false))⟩, ⟨(some 10), .load none (.val (.ptr 1 0)), (some (7, false))⟩, ⟨(some 11), .lenL (.tmp 10), (some (7, false))⟩, ⟨(some 12), .bin .geq (.tmp 9) (.tmp 11), (some (7, false))⟩, ⟨(some 13), .pick (.tmp 7) (.val (.bool true)) (.tmp 12), none⟩])
 (.cond (.tmp 13) (.seq (.reg [⟨(some 2), .mov (.val (.int .i64 2)), none⟩])
 .ret) .skip))
 (.seq (.reg [⟨(some 14), .load none (.val (.ptr 1 0)), none⟩, ⟨(some 15), .faddr 0 (.tmp 1), none⟩, ⟨(some 16), .load none (.tmp 15), none⟩, ⟨(some 17), .iaddrL 6 (.tmp 14) (.tmp 16), none⟩, ⟨(some 18), .load (some 6) (.tmp 17), none⟩, ⟨(some 3), .alloc (some 3) [(.str ⟨#[]⟩), (.int .i64 0), (.int .i64 0), (.int .i64 0), (.int .i64 0), (.int .i64 0)], none⟩, ⟨none, .store 6 (.tmp 3) (.tmp 18), none⟩])
 (.seq (.seq (.reg [⟨(some 19), .faddr 1 (.tmp 3), none⟩, ⟨(some 20), .load none (.tmp 19), none⟩, ⟨(some 21), .faddr 1 (.tmp 1), none⟩, ⟨(some 22), .load none (.tmp 21), none⟩, ⟨(some 23), .call 55 [(.tmp 20), (.tmp 22)], none⟩, ⟨(some 24), .un .not (.tmp 23), none⟩, ⟨(some 25), .mov (.tmp 24), none⟩, ⟨(some 26), .faddr 2 (.tmp 3), (some (25, false))⟩, ⟨(some 27), .load none (.tmp 26), (some (25, false))⟩, ⟨(some 28), .faddr 2 (.tmp 1), (some (25, false))⟩, ⟨(some 29), .load none (.tmp 28), (some (25, false))⟩, ⟨(some 30), .call 55 [(.tmp 27), (.tmp 29)], (some (25, false))⟩, ⟨(some 31), .un .not (.tmp 30), (some (25, false))⟩, ⟨(some 32), .pick (.tmp 25) (.val (.bool true)) (.tmp 31), none⟩, ⟨(some 33), .mov (.tmp 32), none⟩, ⟨(some 34), .faddr 3 (.tmp 3), (some (33, false))⟩, ⟨(some 35), .load none (.tmp 34), (some (33, false))⟩, ⟨(some 36), .faddr 3 (.tmp 1), (some (33, false))⟩, ⟨(some 37), .load none (.tmp 36), (some (33, false))⟩, ⟨(some 38), .call 55 [(.tmp 35), (.tmp 37)], (some (33, false))⟩, ⟨(some 39), .un .not (.tmp 38), (some (33, false))⟩, ⟨(some 40), .pick (.tmp 33) (.val (.bool true)) (.tmp 39), none⟩])
 (.cond (.tmp 40) (.seq (.reg [⟨(some 2), .mov (.val (.int .i64 2)), none⟩])
 .ret) .skip))
 (.seq (.reg [⟨(some 2), .mov (.val (.int .i64 0)), none⟩])
 .ret))))) }
def h51 : Hints := ⟨[], []⟩
def a51 : AFn := { n := 4, np := 0, res := [.tmp 0], body :=
 (.seq (.reg [⟨(some 0), .mov (.val .nils), none⟩])
 (.seq (.reg [⟨(some 1), .build [(.int .i64 0), (.int .i64 0), (.int .i64 0)] [(0, 1, (.val (.int .i64 0))), (1, 1, (.val (.int .i64 1)))], none⟩, ⟨(some 2), .build [(.int .i64 0), (.int .i64 0), (.int .i64 0)] [(0, 1, (.val (.int .i64 1))), (1, 1, (.val (.int .i64 5)))], none⟩, ⟨(some 3), .mkslc 3 2 [(.int .i64 0), (.int .i64 0), (.int .i64 0)] [(0, (.tmp 1)), (1, (.tmp 2))], none⟩, ⟨(some 0), .mov (.tmp 3), none⟩])
 .ret)) }
def h53 : Hints := ⟨[11], []⟩
def a53 : AFn := { n := 44, np := 4, res := [.tmp 8], body :=
 (.seq (.reg [⟨(some 8), .mov (.val (.int .u32 0)), none⟩])
 (.seq (.seq (.reg [⟨(some 12), .mov (.tmp 3), none⟩, ⟨(some 13), .call 12 [(.tmp 12)], none⟩, ⟨(some 14), .bin .neq (.tmp 13) (.val (.int .i64 0)), none⟩])
 (.cond (.tmp 14) (.seq (.reg [⟨(some 8), .mov (.val (.int .u32 0)), none⟩])
 .ret) .skip))
 (.seq (.reg [⟨(some 9), .mov (.val (.int .u32 0)), none⟩])
 (.seq (.seq (.reg [⟨(some 15), .mov (.tmp 3), none⟩, ⟨(some 16), .lenL (.tmp 15), none⟩, ⟨(some 17), .mov (.val (.int .i64 0)), none⟩])
 (.block 0 (.loop (.seq (.reg [⟨(some 18), .bin .lss (.tmp 17) (.tmp 16), none⟩])
 (.seq (.cond (.tmp 18) .skip (.exit 0))
 (.seq (.block 1 (.seq (.reg [⟨(some 19), .mov (.tmp 17), none⟩, ⟨(some 20), .iaddrL 3 (.tmp 15) (.tmp 17), none⟩, ⟨(some 21), .load (some 3) (.tmp 20), none⟩, ⟨(some 11), .alloc (some 11) [(.int .i64 0), (.int .i64 0), (.int .i64 0)], none⟩, ⟨(some 10), .mov (.tmp 19), none⟩, ⟨none, .store 3 (.tmp 11) (.tmp 21), none⟩])
 (.seq (.reg [⟨(some 22), .mov (.tmp 0), none⟩, ⟨(some 23), .faddr 0 (.tmp 11), none⟩, ⟨(some 24), .load none (.tmp 23), none⟩, ⟨(some 25), .call 14 [(.tmp 22), (.tmp 24)], none⟩, ⟨(some 26), .mov (.tmp 25), none⟩, ⟨(some 27), .faddr 1 (.tmp 11), (some (26, true))⟩, ⟨(some 28), .load none (.tmp 27), (some (26, true))⟩, ⟨(some 29), .mov (.tmp 1), (some (26, true))⟩, ⟨(some 30), .bin .gtr (.tmp 28) (.tmp 29), (some (26, true))⟩, ⟨(some 31), .pick (.tmp 26) (.tmp 30) (.val (.bool false)), none⟩, ⟨(some 32), .mov (.tmp 31), none⟩, ⟨(some 33), .faddr 1 (.tmp 11), (some (32, true))⟩, ⟨(some 34), .load none (.tmp 33), (some (32, true))⟩, ⟨(some 35), .mov (.tmp 2), (some (32, true))⟩, ⟨(some 36), .bin .gtr (.tmp 34) (.tmp 35), (some (32, true))⟩, ⟨(some 37), .pick (.tmp 32) (.tmp 36) (.val (.bool false)), none⟩])
 (.cond (.tmp 37) (.reg [⟨(some 38), .mov (.tmp 9), none⟩, ⟨(some 39), .mov (.tmp 10), none⟩, ⟨(some 40), .bin .shl (.val (.int .u32 1)) (.tmp 39), none⟩, ⟨(some 41), .bin .or (.tmp 38) (.tmp 40), none⟩, ⟨(some 9), .mov (.tmp 41), none⟩]) .skip))))
 (.reg [⟨(some 42), .bin .add (.tmp 17) (.val (.int .i64 1)), none⟩, ⟨(some 17), .mov (.tmp 42), none⟩])))))))
 (.seq (.reg [⟨(some 43), .mov (.tmp 9), none⟩, ⟨(some 8), .mov (.tmp 43), none⟩])
 .ret))))) }
def h55 : Hints := ⟨[], []⟩
def a55 : AFn := { n := 70, np := 2, res := [.tmp 4], body :=
 (.seq (.reg [⟨(some 4), .mov (.val (.bool false)), none⟩])
 (.seq (.seq (.reg [⟨(some 5), .mov (.tmp 0), none⟩])
 (.block 0 (.seq (.reg [⟨(some 7), .bin .eql (.tmp 5) (.val (.int .i64 0)), none⟩, ⟨(some 6), .mov (.tmp 7), none⟩])
 (.cond (.tmp 6) (.seq (.reg [⟨(some 8), .mov (.tmp 1), none⟩, ⟨(some 9), .bin .eql (.tmp 8) (.val (.int .i64 0)), none⟩, ⟨(some 4), .mov (.tmp 9), none⟩])
 .ret) (.seq (.reg [⟨(some 11), .bin .eql (.tmp 5) (.val (.int .i64 1)), none⟩, ⟨(some 10), .mov (.tmp 11), none⟩])
 (.cond (.tmp 10) (.seq (.reg [⟨(some 12), .mov (.tmp 1), none⟩, ⟨(some 13), .bin .geq (.tmp 12) (.val (.int .i64 0)), none⟩, ⟨(some 14), .mov (.tmp 13), none⟩, ⟨(some 15), .mov (.tmp 1), (some (14, true))⟩, ⟨(some 16), .bin .leq (.tmp 15) (.val (.int .i64 1048576)), (some (14, true))⟩, ⟨(some 17), .pick (.tmp 14) (.tmp 16) (.val (.bool false)), none⟩, ⟨(some 4), .mov (.tmp 17), none⟩])
 .ret) (.seq (.reg [⟨(some 19), .bin .eql (.tmp 5) (.val (.int .i64 2)), none⟩, ⟨(some 18), .mov (.tmp 19), none⟩])
 (.cond (.tmp 18) (.seq (.reg [⟨(some 20), .mov (.tmp 1), none⟩, ⟨(some 21), .bin .geq (.tmp 20) (.val (.int .i64 0)), none⟩, ⟨(some 22), .mov (.tmp 21), none⟩, ⟨(some 23), .mov (.tmp 1), (some (22, true))⟩, ⟨(some 24), .bin .leq (.tmp 23) (.val (.int .i64 4294967295)), (some (22, true))⟩, ⟨(some 25), .pick (.tmp 22) (.tmp 24) (.val (.bool false)), none⟩, ⟨(some 4), .mov (.tmp 25), none⟩])
 .ret) (.seq (.reg [⟨(some 27), .bin .eql (.tmp 5) (.val (.int .i64 3)), none⟩, ⟨(some 26), .mov (.tmp 27), none⟩])
 (.cond (.tmp 26) (.seq (.reg [⟨(some 28), .mov (.tmp 1), none⟩, ⟨(some 29), .bin .eql (.tmp 28) (.val (.int .i64 8)), none⟩, ⟨(some 30), .mov (.tmp 29), none⟩, ⟨(some 31), .mov (.tmp 1), (some (30, false))⟩, ⟨(some 32), .bin .eql (.tmp 31) (.val (.int .i64 16)), (some (30, false))⟩, ⟨(some 33), .pick (.tmp 30) (.val (.bool true)) (.tmp 32), none⟩, ⟨(some 34), .mov (.tmp 33), none⟩, ⟨(some 35), .mov (.tmp 1), (some (34, false))⟩, ⟨(some 36), .bin .eql (.tmp 35) (.val (.int .i64 32)), (some (34, false))⟩, ⟨(some 37), .pick (.tmp 34) (.val (.bool true)) (.tmp 36), none⟩, ⟨(some 4), .mov (.tmp 37), none⟩])
 .ret) (.seq (.reg [⟨(some 39), .bin .eql (.tmp 5) (.val (.int .i64 4)), none⟩, ⟨(some 38), .mov (.tmp 39), none⟩])
 (.cond (.tmp 38) (.seq (.reg [⟨(some 40), .mov (.tmp 1), none⟩, ⟨(some 41), .bin .geq (.tmp 40) (.val (.int .i64 1)), none⟩, ⟨(some 42), .mov (.tmp 41), none⟩, ⟨(some 43), .mov (.tmp 1), (some (42, true))⟩, ⟨(some 44), .bin .leq (.tmp 43) (.val (.int .i64 1048576)), (some (42, true))⟩, ⟨(some 45), .pick (.tmp 42) (.tmp 44) (.val (.bool false)), none⟩, ⟨(some 4), .mov (.tmp 45), none⟩])
 .ret) (.seq (.reg [⟨(some 47), .bin .eql (.tmp 5) (.val (.int .i64 5)), none⟩, ⟨(some 46), .mov (.tmp 47), none⟩])
 (.cond (.tmp 46) (.seq (.reg [⟨(some 48), .mov (.tmp 1), none⟩, ⟨(some 49), .bin .geq (.tmp 48) (.val (.int .i64 0)), none⟩, ⟨(some 50), .mov (.tmp 49), none⟩, ⟨(some 51), .mov (.tmp 1), (some (50, true))⟩, ⟨(some 52), .bin .leq (.tmp 51) (.val (.int .i64 31)), (some (50, true))⟩, ⟨(some 53), .pick (.tmp 50) (.tmp 52) (.val (.bool false)), none⟩, ⟨(some 4), .mov (.tmp 53), none⟩])
 .ret) (.seq (.reg [⟨(some 55), .bin .eql (.tmp 5) (.val (.int .i64 6)), none⟩, ⟨(some 54), .mov (.tmp 55), none⟩])
 (.cond (.tmp 54) (.seq (.reg [⟨(some 56), .mov (.tmp 1), none⟩, ⟨(some 57), .bin .geq (.tmp 56) (.val (.int .i64 0)), none⟩, ⟨(some 58), .mov (.tmp 57), none⟩, ⟨(some 59), .mov (.tmp 1), (some (58, true))⟩, ⟨(some 60), .bin .leq (.tmp 59) (.val (.int .i64 15)), (some (58, true))⟩, ⟨(some 61), .pick (.tmp 58) (.tmp 60) (.val (.bool false)), none⟩, ⟨(some 4), .mov (.tmp 61), none⟩])
 .ret) (.seq (.reg [⟨(some 63), .bin .eql (.tmp 5) (.val (.int .i64 7)), none⟩, ⟨(some 62), .mov (.tmp 63), none⟩])
 (.cond (.tmp 62) (.seq (.reg [⟨(some 64), .mov (.tmp 1), none⟩, ⟨(some 65), .call 58 [(.tmp 64)], none⟩, ⟨(some 66), .bin .neq (.tmp 65) (.val (.str ⟨#[]⟩)), none⟩, ⟨(some 4), .mov (.tmp 66), none⟩])
 .ret) .skip))))))))))))))))))
 (.seq (.reg [⟨(some 67), .mov (.tmp 1), none⟩, ⟨(some 68), .call 59 [(.tmp 67)], none⟩, ⟨(some 69), .bin .neq (.tmp 68) (.val (.str ⟨#[]⟩)), none⟩, ⟨(some 4), .mov (.tmp 69), none⟩])
 .ret))) }
def h58 : Hints := ⟨[], []⟩
def a58 : AFn := { n := 9, np := 1, res := [.tmp 2], body :=
 (.seq (.reg [⟨(some 2), .mov (.val (.str ⟨#[]⟩)), none⟩])
 (.seq (.seq (.reg [⟨(some 3), .mov (.tmp 0), none⟩, ⟨(some 4), .call 62 [(.tmp 3)], none⟩, ⟨(some 5), .un .not (.tmp 4), none⟩])
 (.cond (.tmp 5) (.seq (.reg [⟨(some 2), .mov (.val (.str ⟨#[]⟩)), none⟩])
 .ret) .skip))
 (.seq (.reg [⟨(some 6), .mov (.tmp 0), none⟩, ⟨(some 7), .iaddrA 20 1 (.val (.ptr 2 0)) (.tmp 6), none⟩, ⟨(some 8), .load none (.tmp 7), none⟩, ⟨(some 2), .mov (.tmp 8), none⟩])
 .ret))) }
def h59 : Hints := ⟨[], []⟩
def a59 : AFn := { n := 10, np := 1, res := [.tmp 2], body :=
 (.seq (.reg [⟨(some 2), .mov (.val (.str ⟨#[]⟩)), none⟩])
 (.seq (.seq (.reg [⟨(some 3), .mov (.tmp 0), none⟩])
 (.block 0 (.seq (.reg [⟨(some 5), .bin .eql (.tmp 3) (.val (.int .i64 1)), none⟩, ⟨(some 4), .mov (.tmp 5), none⟩])
 (.cond (.tmp 4) (.seq (.reg [⟨(some 2), .mov (.val (.str ⟨#[110, 101, 103]⟩)), none⟩])
 .ret) (.seq (.reg [⟨(some 7), .bin .eql (.tmp 3) (.val (.int .i64 2)), none⟩, ⟨(some 6), .mov (.tmp 7), none⟩])
 (.cond (.tmp 6) (.seq (.reg [⟨(some 2), .mov (.val (.str ⟨#[110, 111, 116]⟩)), none⟩])
 .ret) (.seq (.reg [⟨(some 9), .bin .eql (.tmp 3) (.val (.int .i64 3)), none⟩, ⟨(some 8), .mov (.tmp 9), none⟩])
 (.cond (.tmp 8) (.seq (.reg [⟨(some 2), .mov (.val (.str ⟨#[122, 101, 114, 111]⟩)), none⟩])
 .ret) .skip))))))))
 (.seq (.reg [⟨(some 2), .mov (.val (.str ⟨#[]⟩)), none⟩])
 .ret))) }
def h62 : Hints := ⟨[], []⟩
def a62 : AFn := { n := 9, np := 1, res := [.tmp 2], body :=
 (.seq (.reg [⟨(some 2), .mov (.val (.bool false)), none⟩])
 (.seq (.reg [⟨(some 3), .mov (.tmp 0), none⟩, ⟨(some 4), .bin .geq (.tmp 3) (.val (.int .i64 1)), none⟩, ⟨(some 5), .mov (.tmp 4), none⟩, ⟨(some 6), .mov (.tmp 0), (some (5, true))⟩, ⟨(some 7), .bin .leq (.tmp 6) (.val (.int .i64 19)), (some (5, true))⟩, ⟨(some 8), .pick (.tmp 5) (.tmp 7) (.val (.bool false)), none⟩, ⟨(some 2), .mov (.tmp 8), none⟩])
 .ret)) }
theorem t9 : trFn Tryd.prog h9 Tryd.f9 = some a9 := by kernel_rfl
theorem t12 : trFn Tryd.prog h12 Tryd.f12 = some a12 := by kernel_rfl
theorem t14 : trFn Tryd.prog h14 Tryd.f14 = some a14 := by kernel_rfl
theorem t27 : trFn Tryd.prog h27 Tryd.f27 = some a27 := by kernel_rfl
theorem t28 : trFn Tryd.prog h28 Tryd.f28 = some a28 := by kernel_rfl
theorem t29 : trFn Tryd.prog h29 Tryd.f29 = some a29 := by kernel_rfl
theorem t30 : trFn Tryd.prog h30 Tryd.f30 = some a30 := by kernel_rfl
theorem t31 : trFn Tryd.prog h31 Tryd.f31 = some a31 := by kernel_rfl
theorem t32 : trFn Tryd.prog h32 Tryd.f32 = some a32 := by kernel_rfl
theorem t39 : trFn Tryd.prog h39 Tryd.f39 = some a39 := by kernel_rfl
theorem t41 : trFn Tryd.prog h41 Tryd.f41 = some a41 := by kernel_rfl
theorem t43 : trFn Tryd.prog h43 Tryd.f43 = some a43 := by kernel_rfl
theorem t50 : trFn Tryd.prog h50 Tryd.f50 = some a50 := by kernel_rfl
theorem t51 : trFn Tryd.prog h51 Tryd.f51 = some a51 := by kernel_rfl
theorem t53 : trFn Tryd.prog h53 Tryd.f53 = some a53 := by kernel_rfl
theorem t55 : trFn Tryd.prog h55 Tryd.f55 = some a55 := by kernel_rfl
theorem t58 : trFn Tryd.prog h58 Tryd.f58 = some a58 := by kernel_rfl
theorem t59 : trFn Tryd.prog h59 Tryd.f59 = some a59 := by kernel_rfl
theorem t62 : trFn Tryd.prog h62 Tryd.f62 = some a62 := by kernel_rfl
def A : Nat → Option AFn
  | 9 => some a9
  | 12 => some a12
  | 14 => some a14
  | 27 => some a27
  | 28 => some a28
  | 29 => some a29
  | 30 => some a30
  | 31 => some a31
  | 32 => some a32
  | 39 => some a39
  | 41 => some a41
  | 43 => some a43
  | 50 => some a50
  | 51 => some a51
  | 53 => some a53
  | 55 => some a55
  | 58 => some a58
  | 59 => some a59
  | 62 => some a62
  | _ => none
theorem A_ok : AOk Tryd.prog A := by
  intro f af h
  unfold A at h
  split at h
  · cases h; exact ⟨h9, Tryd.f9, Tryd.func9, t9⟩
  · cases h; exact ⟨h12, Tryd.f12, Tryd.func12, t12⟩
  · cases h; exact ⟨h14, Tryd.f14, Tryd.func14, t14⟩
  · cases h; exact ⟨h27, Tryd.f27, Tryd.func27, t27⟩
  · cases h; exact ⟨h28, Tryd.f28, Tryd.func28, t28⟩
  · cases h; exact ⟨h29, Tryd.f29, Tryd.func29, t29⟩
  · cases h; exact ⟨h30, Tryd.f30, Tryd.func30, t30⟩
  · cases h; exact ⟨h31, Tryd.f31, Tryd.func31, t31⟩
  · cases h; exact ⟨h32, Tryd.f32, Tryd.func32, t32⟩
  · cases h; exact ⟨h39, Tryd.f39, Tryd.func39, t39⟩
  · cases h; exact ⟨h41, Tryd.f41, Tryd.func41, t41⟩
  · cases h; exact ⟨h43, Tryd.f43, Tryd.func43, t43⟩
  · cases h; exact ⟨h50, Tryd.f50, Tryd.func50, t50⟩
  · cases h; exact ⟨h51, Tryd.f51, Tryd.func51, t51⟩
  · cases h; exact ⟨h53, Tryd.f53, Tryd.func53, t53⟩
  · cases h; exact ⟨h55, Tryd.f55, Tryd.func55, t55⟩
  · cases h; exact ⟨h58, Tryd.f58, Tryd.func58, t58⟩
  · cases h; exact ⟨h59, Tryd.f59, Tryd.func59, t59⟩
  · cases h; exact ⟨h62, Tryd.f62, Tryd.func62, t62⟩
  · cases h
theorem run_9 (n : Nat) (args : List AV) (m : Mem) : run A (n + 1) 9 args m = fnEv (run A n) (ev A n).2 a9 args m := rfl
theorem run_12 (n : Nat) (args : List AV) (m : Mem) : run A (n + 1) 12 args m = fnEv (run A n) (ev A n).2 a12 args m := rfl
theorem run_14 (n : Nat) (args : List AV) (m : Mem) : run A (n + 1) 14 args m = fnEv (run A n) (ev A n).2 a14 args m := rfl
theorem run_27 (n : Nat) (args : List AV) (m : Mem) : run A (n + 1) 27 args m = fnEv (run A n) (ev A n).2 a27 args m := rfl
theorem run_28 (n : Nat) (args : List AV) (m : Mem) : run A (n + 1) 28 args m = fnEv (run A n) (ev A n).2 a28 args m := rfl
theorem run_29 (n : Nat) (args : List AV) (m : Mem) : run A (n + 1) 29 args m = fnEv (run A n) (ev A n).2 a29 args m := rfl
theorem run_30 (n : Nat) (args : List AV) (m : Mem) : run A (n + 1) 30 args m = fnEv (run A n) (ev A n).2 a30 args m := rfl
theorem run_31 (n : Nat) (args : List AV) (m : Mem) : run A (n + 1) 31 args m = fnEv (run A n) (ev A n).2 a31 args m := rfl
theorem run_32 (n : Nat) (args : List AV) (m : Mem) : run A (n + 1) 32 args m = fnEv (run A n) (ev A n).2 a32 args m := rfl
theorem run_39 (n : Nat) (args : List AV) (m : Mem) : run A (n + 1) 39 args m = fnEv (run A n) (ev A n).2 a39 args m := rfl
theorem run_41 (n : Nat) (args : List AV) (m : Mem) : run A (n + 1) 41 args m = fnEv (run A n) (ev A n).2 a41 args m := rfl
theorem run_43 (n : Nat) (args : List AV) (m : Mem) : run A (n + 1) 43 args m = fnEv (run A n) (ev A n).2 a43 args m := rfl
theorem run_50 (n : Nat) (args : List AV) (m : Mem) : run A (n + 1) 50 args m = fnEv (run A n) (ev A n).2 a50 args m := rfl
theorem run_51 (n : Nat) (args : List AV) (m : Mem) : run A (n + 1) 51 args m = fnEv (run A n) (ev A n).2 a51 args m := rfl
theorem run_53 (n : Nat) (args : List AV) (m : Mem) : run A (n + 1) 53 args m = fnEv (run A n) (ev A n).2 a53 args m := rfl
theorem run_55 (n : Nat) (args : List AV) (m : Mem) : run A (n + 1) 55 args m = fnEv (run A n) (ev A n).2 a55 args m := rfl
theorem run_58 (n : Nat) (args : List AV) (m : Mem) : run A (n + 1) 58 args m = fnEv (run A n) (ev A n).2 a58 args m := rfl
theorem run_59 (n : Nat) (args : List AV) (m : Mem) : run A (n + 1) 59 args m = fnEv (run A n) (ev A n).2 a59 args m := rfl
theorem run_62 (n : Nat) (args : List AV) (m : Mem) : run A (n + 1) 62 args m = fnEv (run A n) (ev A n).2 a62 args m := rfl
end Go.Proofs.YtenhcejelicjfaaDoor
