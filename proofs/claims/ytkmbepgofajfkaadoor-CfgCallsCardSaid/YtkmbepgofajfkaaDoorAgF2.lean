/- The functions of this seat, as the abstract machine has them; each is what its translation out of the program gives. Made by program. -/
import Derived.Test.YtkmbepgofajfkaaDoorAgLv
import Derived.Test.YtkmbepgofajfkaaDoorAgShelf
namespace Go.Proofs.YtkmbepgofajfkaaDoor
open AG
noncomputable section
set_option maxRecDepth 100000
set_option maxHeartbeats 4000000
def h11:Hints:=⟨[4],[(0,[0,1,2,3],[]),(1,[1,2,3,4],[4]),(2,[],[]),(3,[1,2,3,4],[4]),(4,[],[]),(5,[1,2,3,4],[4]),(6,[1,2,3,4],[4]),(7,[1,2,3,4,9,10],[4]),(8,[],[]),(9,[1,2,3,4,9,10],[4]),(10,[1,2,3,4,9,10,11],[4]),(12,[1,2,3,4,9,10,11],[4]),(13,[],[]),(11,[1,2,3,4,9,10,11],[4]),(14,[1,2,3,4],[4])],[]⟩
def a11_R1:AC:=.keep [1,2,3,4] [4] (.dreg [zp 20 (.load (some 8) (.tmp 4)),zn 21 2,(true,zq 22 (.call 41 [(.tmp 20),(.tmp 21)]),false),(true,zq 23 (.load (some 8) (.tmp 4)),false),zn 24 2,zp 25 (.call 49 [(.tmp 23),(.tmp 24)]),zn 9 22,zn 10 25])
def a11_R2:AC:=.keep [1,2,3,4,9,10,11] [4] (.dreg [zn 37 9,zn 38 11,zp 39 (.iaddrL 2 (.tmp 37) (.tmp 38)),zp 40 (.load (some 2) (.tmp 39)),zn 41 10,zn 42 11,zp 43 (.iaddrL 2 (.tmp 41) (.tmp 42)),zp 44 (.load (some 2) (.tmp 43)),zp 45 (.eq true (.agg [(0,0),(1,0)]) (.tmp 40) (.tmp 44))])
def a11_R3:AC:=.keep [1,2,3,4] [4] (.dreg [zp 46 (.load (some 8) (.tmp 4)),zn 47 1,(true,zq 48 (.call 45 [(.tmp 46),(.tmp 47)]),false),(true,zq 49 (.load (some 8) (.tmp 4)),false),zn 50 1,zp 51 (.call 24 [(.tmp 49),(.tmp 50)]),zp 52 (.call 42 [(.tmp 48),(.tmp 51)]),zn 53 52,(false,⟨(some 54),.load (some 8) (.tmp 4),(some (53,true))⟩,false),(false,⟨(some 55),.mov (.tmp 1),(some (53,true))⟩,false),(true,⟨(some 56),.call 47 [(.tmp 54),(.tmp 55)],(some (53,true))⟩,false),(true,⟨(some 57),.load (some 8) (.tmp 4),(some (53,true))⟩,false),(false,⟨(some 58),.mov (.tmp 1),(some (53,true))⟩,false),(false,⟨(some 59),.call 50 [(.tmp 57),(.tmp 58)],(some (53,true))⟩,false),(false,⟨(some 60),.call 42 [(.tmp 56),(.tmp 59)],(some (53,true))⟩,false),zp 61 (.pick (.tmp 53) (.tmp 60) (.val (.bool false))),zn 62 61,(false,⟨(some 63),.load (some 8) (.tmp 4),(some (62,true))⟩,false),(false,⟨(some 64),.mov (.tmp 2),(some (62,true))⟩,false),(true,⟨(some 65),.call 40 [(.tmp 63),(.tmp 64)],(some (62,true))⟩,false),(true,⟨(some 66),.load (some 8) (.tmp 4),(some (62,true))⟩,false),(false,⟨(some 67),.mov (.tmp 2),(some (62,true))⟩,false),(false,⟨(some 68),.call 21 [(.tmp 66),(.tmp 67)],(some (62,true))⟩,false),(false,⟨(some 69),.call 42 [(.tmp 65),(.tmp 68)],(some (62,true))⟩,false),zp 70 (.pick (.tmp 62) (.tmp 69) (.val (.bool false))),zn 71 70,(false,⟨(some 72),.load (some 8) (.tmp 4),(some (71,true))⟩,false),(false,⟨(some 73),.mov (.tmp 2),(some (71,true))⟩,false),(true,⟨(some 74),.call 43 [(.tmp 72),(.tmp 73)],(some (71,true))⟩,false),(true,⟨(some 75),.load (some 8) (.tmp 4),(some (71,true))⟩,false),(false,⟨(some 76),.mov (.tmp 2),(some (71,true))⟩,false),(false,⟨(some 77),.call 51 [(.tmp 75),(.tmp 76)],(some (71,true))⟩,false),(false,⟨(some 78),.call 42 [(.tmp 74),(.tmp 77)],(some (71,true))⟩,false),zp 79 (.pick (.tmp 71) (.tmp 78) (.val (.bool false))),zn 80 79,(false,⟨(some 81),.load (some 8) (.tmp 4),(some (80,true))⟩,false),(false,⟨(some 82),.mov (.tmp 2),(some (80,true))⟩,false),(false,⟨(some 83),.mov (.tmp 3),(some (80,true))⟩,false),(true,⟨(some 84),.call 44 [(.tmp 81),(.tmp 82),(.tmp 83)],(some (80,true))⟩,false),(true,⟨(some 85),.load (some 8) (.tmp 4),(some (80,true))⟩,false),(false,⟨(some 86),.mov (.tmp 2),(some (80,true))⟩,false),(false,⟨(some 87),.mov (.tmp 3),(some (80,true))⟩,false),(false,⟨(some 88),.call 53 [(.tmp 85),(.tmp 86),(.tmp 87)],(some (80,true))⟩,false),(false,⟨(some 89),.call 52 [(.tmp 84),(.tmp 88)],(some (80,true))⟩,false),zp 90 (.pick (.tmp 80) (.tmp 89) (.val (.bool false))),zn 8 90])
def a11_B1:AC:=(.seq (.seq (.keep [1,2,3,4,9,10,11] [4] (.reg [zm 31 11,zm 32 10,zq 33 (.lenL (.tmp 32)),zq 34 (.bin .lss (.tmp 31) (.tmp 33))]))
 (.cond (.tmp 34) .skip (.exit 0)))
 (.seq (.block 1 (.seq a11_R2
 (.cond (.tmp 45) (.seq (.keep [] [] (.reg [zq 8 (.mov (.val (.bool false)))]))
 .ret) .skip)))
 (.keep [1,2,3,4,9,10,11] [4] (.reg [zm 35 11,zq 36 (.bin .add (.tmp 35) (.val (.int .i64 1))),zm 11 36]))))
def a11_L1:AC:=.loop a11_B1
theorem a11_L1_step (call:Caller) (again:AC→St→Option (Ex×St)) (s:St):codeEv call again a11_L1 s=match codeEv call again a11_B1 s with | some (.norm,s1)=>again a11_L1 s1 | r=>r:=rfl
def a11:AFn:={ n:=91,np:=4,res:=[.tmp 8],body:=
 (.seq (.keep [0,1,2,3] [] (.reg [zq 4 (.box (some 4) (.tmp 0)),zq 8 (.mov (.val (.bool false)))]))
 (.seq (.seq (.keep [1,2,3,4] [4] (.reg [zq 12 (.call 36 []),zq 13 (.un .not (.tmp 12))]))
 (.cond (.tmp 13) (.seq (.keep [] [] (.reg [zq 8 (.mov (.val (.bool false)))]))
 .ret) .skip))
 (.seq (.seq (.keep [1,2,3,4] [4] (.reg [zq 14 (.load (some 8) (.tmp 4)),zq 15 (.call 13 [(.tmp 14),(.val (.int .i64 60))]),zq 16 (.un .not (.tmp 15))]))
 (.cond (.tmp 16) (.seq (.keep [] [] (.reg [zq 8 (.mov (.val (.bool true)))]))
 .ret) .skip))
 (.seq (.keep [1,2,3,4] [4] (.reg [zm 17 3,zq 18 (.call 38 [(.tmp 17),(.val (.int .i64 14))]),zq 19 (.bin .sub (.tmp 18) (.val (.int .i64 1))),zm 3 19]))
 (.seq a11_R1
 (.seq (.seq (.keep [1,2,3,4,9,10] [4] (.reg [zm 26 9,zq 27 (.lenL (.tmp 26)),zm 28 10,zq 29 (.lenL (.tmp 28)),zq 30 (.bin .neq (.tmp 27) (.tmp 29))]))
 (.cond (.tmp 30) (.seq (.keep [] [] (.reg [zq 8 (.mov (.val (.bool false)))]))
 .ret) .skip))
 (.seq (.seq (.keep [1,2,3,4,9,10] [4] (.reg [zq 11 (.mov (.val (.int .i64 0)))]))
 (.block 0 a11_L1))
 (.seq a11_R3
 .ret)))))))) }
def h13:Hints:=⟨[2],[(0,[0,1],[]),(1,[1,2],[2]),(2,[],[]),(3,[1,2],[2]),(4,[1,2,5],[2]),(6,[1,2,5],[2]),(7,[],[]),(5,[1,2,5],[2]),(8,[],[])],[]⟩
def a13_R1:AC:=.keep [1,2] [2] (.reg [zq 6 (.faddr 0 (.tmp 2)),zl 7 6,zq 8 (.lenL (.tmp 7)),zm 9 1,zq 10 (.bin .gtr (.tmp 8) (.tmp 9)),zm 11 10,⟨(some 12),.faddr 1 (.tmp 2),(some (11,false))⟩,⟨(some 13),.load none (.tmp 12),(some (11,false))⟩,⟨(some 14),.lenL (.tmp 13),(some (11,false))⟩,⟨(some 15),.bin .gtr (.tmp 14) (.val (.int .i64 80)),(some (11,false))⟩,zq 16 (.pick (.tmp 11) (.val (.bool true)) (.tmp 15)),zm 17 16,⟨(some 18),.faddr 2 (.tmp 2),(some (17,false))⟩,⟨(some 19),.load none (.tmp 18),(some (17,false))⟩,⟨(some 20),.lenL (.tmp 19),(some (17,false))⟩,⟨(some 21),.bin .gtr (.tmp 20) (.val (.int .i64 40)),(some (17,false))⟩,zq 22 (.pick (.tmp 17) (.val (.bool true)) (.tmp 21)),zm 23 22,⟨(some 24),.faddr 4 (.tmp 2),(some (23,false))⟩,⟨(some 25),.load none (.tmp 24),(some (23,false))⟩,⟨(some 26),.lenL (.tmp 25),(some (23,false))⟩,⟨(some 27),.mov (.tmp 1),(some (23,false))⟩,⟨(some 28),.bin .gtr (.tmp 26) (.tmp 27),(some (23,false))⟩,zq 29 (.pick (.tmp 23) (.val (.bool true)) (.tmp 28)),zm 30 29,⟨(some 31),.faddr 5 (.tmp 2),(some (30,false))⟩,⟨(some 32),.load none (.tmp 31),(some (30,false))⟩,⟨(some 33),.lenL (.tmp 32),(some (30,false))⟩,⟨(some 34),.bin .gtr (.tmp 33) (.val (.int .i64 40)),(some (30,false))⟩,zq 35 (.pick (.tmp 30) (.val (.bool true)) (.tmp 34)),zm 36 35,⟨(some 37),.faddr 7 (.tmp 2),(some (36,false))⟩,⟨(some 38),.load none (.tmp 37),(some (36,false))⟩,⟨(some 39),.lenL (.tmp 38),(some (36,false))⟩,⟨(some 40),.bin .gtr (.tmp 39) (.val (.int .i64 80)),(some (36,false))⟩,zq 41 (.pick (.tmp 36) (.val (.bool true)) (.tmp 40))])
def a13_R2:AC:=.keep [1,2,5] [2] (.reg [zq 49 (.faddr 7 (.tmp 2)),zl 50 49,zm 51 5,zq 52 (.iaddrL 1 (.tmp 50) (.tmp 51)),zl 53 52,zq 54 (.lenL (.tmp 53)),zm 55 1,zq 56 (.bin .gtr (.tmp 54) (.tmp 55))])
def a13_B1:AC:=(.seq (.seq (.keep [1,2,5] [2] (.reg [zm 42 5,zq 43 (.faddr 7 (.tmp 2)),zl 44 43,zq 45 (.lenL (.tmp 44)),zq 46 (.bin .lss (.tmp 42) (.tmp 45))]))
 (.cond (.tmp 46) .skip (.exit 0)))
 (.seq (.block 1 (.seq a13_R2
 (.cond (.tmp 56) (.seq (.keep [] [] (.reg [zq 4 (.mov (.val (.bool false)))]))
 .ret) .skip)))
 (.keep [1,2,5] [2] (.reg [zm 47 5,zq 48 (.bin .add (.tmp 47) (.val (.int .i64 1))),zm 5 48]))))
def a13_L1:AC:=.loop a13_B1
theorem a13_L1_step (call:Caller) (again:AC→St→Option (Ex×St)) (s:St):codeEv call again a13_L1 s=match codeEv call again a13_B1 s with | some (.norm,s1)=>again a13_L1 s1 | r=>r:=rfl
def a13:AFn:={ n:=57,np:=2,res:=[.tmp 4],body:=
 (.seq (.keep [0,1] [] (.reg [zq 2 (.box (some 2) (.tmp 0)),zq 4 (.mov (.val (.bool false)))]))
 (.seq (.seq a13_R1
 (.cond (.tmp 41) (.seq (.keep [] [] (.reg [zq 4 (.mov (.val (.bool false)))]))
 .ret) .skip))
 (.seq (.seq (.keep [1,2] [2] (.reg [zq 5 (.mov (.val (.int .i64 0)))]))
 (.block 0 a13_L1))
 (.seq (.keep [] [] (.reg [zq 4 (.mov (.val (.bool true)))]))
 .ret)))) }
def h21:Hints:=⟨[2],[(0,[0,1],[]),(1,[1,2],[2]),(2,[2,5],[2]),(3,[2,5,6],[2]),(4,[2,5,6,7],[2]),(6,[2,5,6,7],[2]),(7,[2,5,6,7],[2]),(5,[2,5,6,7],[2]),(8,[6],[])],[]⟩
def a21_B1:AC:=(.seq (.seq (.keep [2,5,6,7] [2] (.reg [zm 11 7,zq 12 (.faddr 0 (.tmp 2)),zl 13 12,zq 14 (.lenL (.tmp 13)),zq 15 (.bin .lss (.tmp 11) (.tmp 14))]))
 (.cond (.tmp 15) .skip (.exit 0)))
 (.seq (.block 1 (.seq (.keep [2,5,6,7] [2] (.reg [zm 18 5,zq 19 (.nilck (.tmp 18)),zq 20 (.faddr 8 (.tmp 19)),zl 21 20,zm 22 7,zq 23 (.xm (.mlk .int ((.int .i64 0)) false) [(.tmp 21),(.tmp 22)]),zq 24 (.bin .eql (.tmp 23) (.val (.int .i64 2)))]))
 (.cond (.tmp 24) (.keep [2,5,6,7] [2] (.reg [zm 25 6,zm 26 7,zq 27 (.mkslc 1 1 [(.int .i64 0)] [(0,(.tmp 26))]),zq 28 (.app none 1 8 (.tmp 25) (.tmp 27)),zm 6 28])) .skip)))
 (.keep [2,5,6,7] [2] (.reg [zm 16 7,zq 17 (.bin .add (.tmp 16) (.val (.int .i64 1))),zm 7 17]))))
def a21_L1:AC:=.loop a21_B1
theorem a21_L1_step (call:Caller) (again:AC→St→Option (Ex×St)) (s:St):codeEv call again a21_L1 s=match codeEv call again a21_B1 s with | some (.norm,s1)=>again a21_L1 s1 | r=>r:=rfl
def a21:AFn:={ n:=30,np:=2,res:=[.tmp 4],body:=
 (.seq (.keep [0,1] [] (.reg [zq 2 (.box (some 2) (.tmp 0)),zq 4 (.mov (.val .nils))]))
 (.seq (.keep [1,2] [2] (.reg [zq 8 (.load (some 8) (.tmp 2)),zm 9 1,zq 10 (.call 62 [(.tmp 8),(.tmp 9)]),zm 5 10]))
 (.seq (.keep [2,5] [2] (.reg [zq 6 (.mov (.val .nils))]))
 (.seq (.seq (.keep [2,5,6] [2] (.reg [zq 7 (.mov (.val (.int .i64 0)))]))
 (.block 0 a21_L1))
 (.seq (.keep [6] [] (.reg [zm 29 6,zm 4 29]))
 .ret))))) }
def h24:Hints:=⟨[2],[(0,[0,1],[]),(1,[1,2],[2]),(2,[],[]),(3,[1,2],[2])],[]⟩
def a24:AFn:={ n:=22,np:=2,res:=[.tmp 4],body:=
 (.seq (.keep [0,1] [] (.reg [zq 2 (.box (some 2) (.tmp 0)),zq 4 (.mov (.val .nils))]))
 (.seq (.seq (.keep [1,2] [2] (.reg [zq 5 (.load (some 8) (.tmp 2)),zq 6 (.call 37 [(.tmp 5)]),zq 7 (.bin .neq (.tmp 6) (.val (.int .i64 0))),zm 8 7,⟨(some 9),.mov (.tmp 1),(some (8,false))⟩,⟨(some 10),.bin .lss (.tmp 9) (.val (.int .i64 0)),(some (8,false))⟩,zq 11 (.pick (.tmp 8) (.val (.bool true)) (.tmp 10)),zm 12 11,⟨(some 13),.mov (.tmp 1),(some (12,false))⟩,⟨(some 14),.faddr 0 (.tmp 2),(some (12,false))⟩,⟨(some 15),.load none (.tmp 14),(some (12,false))⟩,⟨(some 16),.lenL (.tmp 15),(some (12,false))⟩,⟨(some 17),.bin .geq (.tmp 13) (.tmp 16),(some (12,false))⟩,zq 18 (.pick (.tmp 12) (.val (.bool true)) (.tmp 17))]))
 (.cond (.tmp 18) (.seq (.keep [] [] (.reg [zq 4 (.mov (.val .nils))]))
 .ret) .skip))
 (.seq (.keep [1,2] [2] (.reg [zq 19 (.load (some 8) (.tmp 2)),zm 20 1,zq 21 (.call 64 [(.tmp 19),(.tmp 20)]),zm 4 21]))
 .ret))) }
def h37:Hints:=⟨[1],[(0,[0],[]),(1,[1],[1]),(2,[],[]),(3,[1],[1]),(4,[],[]),(5,[1],[1]),(6,[],[]),(7,[],[])],[]⟩
def a37:AFn:={ n:=15,np:=1,res:=[.tmp 2],body:=
 (.seq (.keep [0] [] (.reg [zq 1 (.box (some 1) (.tmp 0)),zq 2 (.mov (.val (.int .i64 0)))]))
 (.seq (.seq (.keep [1] [1] (.reg [zq 3 (.load (some 8) (.tmp 1)),zq 4 (.call 75 [(.tmp 3)])]))
 (.cond (.tmp 4) (.seq (.keep [] [] (.reg [zq 2 (.mov (.val (.int .i64 3)))]))
 .ret) .skip))
 (.seq (.seq (.keep [1] [1] (.reg [zq 5 (.load (some 8) (.tmp 1)),zq 6 (.call 76 [(.tmp 5)]),zq 7 (.un .not (.tmp 6))]))
 (.cond (.tmp 7) (.seq (.keep [] [] (.reg [zq 2 (.mov (.val (.int .i64 2)))]))
 .ret) .skip))
 (.seq (.seq (.keep [1] [1] (.dreg [zp 8 (.load (some 8) (.tmp 1)),(true,zq 9 (.call 77 [(.tmp 8)]),false),zp 10 (.lenL (.tmp 9)),zp 11 (.faddr 1 (.tmp 1)),(true,zl 12 11,false),zp 13 (.lenL (.tmp 12)),zp 14 (.bin .lss (.tmp 10) (.tmp 13))]))
 (.cond (.tmp 14) (.seq (.keep [] [] (.reg [zq 2 (.mov (.val (.int .i64 13)))]))
 .ret) .skip))
 (.seq (.keep [] [] (.reg [zq 2 (.mov (.val (.int .i64 0)))]))
 .ret))))) }
def h38:Hints:=⟨[],[(0,[0,1],[]),(1,[0,1],[]),(2,[],[]),(3,[0,1],[]),(4,[0,1],[]),(5,[0,1],[]),(6,[0],[])],[]⟩
def a38:AFn:={ n:=16,np:=2,res:=[.tmp 4],body:=
 (.seq (.keep [0,1] [] (.reg [zq 4 (.mov (.val (.int .i64 0)))]))
 (.seq (.seq (.keep [0,1] [] (.reg [zm 5 1,zq 6 (.bin .lss (.tmp 5) (.val (.int .i64 1)))]))
 (.cond (.tmp 6) (.seq (.keep [] [] (.reg [zq 4 (.mov (.val (.int .i64 0)))]))
 .ret) .skip))
 (.seq (.keep [0,1] [] (.reg [zm 7 0,zm 8 1,zq 9 (.bin .rem (.tmp 7) (.tmp 8)),zm 0 9]))
 (.seq (.seq (.keep [0,1] [] (.reg [zm 10 0,zq 11 (.bin .lss (.tmp 10) (.val (.int .i64 0)))]))
 (.cond (.tmp 11) (.keep [0,1] [] (.reg [zm 12 0,zm 13 1,zq 14 (.bin .add (.tmp 12) (.tmp 13)),zm 0 14])) .skip))
 (.seq (.keep [0] [] (.reg [zm 15 0,zm 4 15]))
 .ret))))) }
def h40:Hints:=⟨[2],[(0,[0,1],[]),(1,[1,2],[2]),(2,[5],[]),(3,[5],[])],[]⟩
def a40:AFn:={ n:=16,np:=2,res:=[.tmp 4],body:=
 (.seq (.keep [0,1] [] (.reg [zq 2 (.box (some 2) (.tmp 0)),zq 4 (.mov (.val .nils))]))
 (.seq (.keep [1,2] [2] (.reg [zq 8 (.load (some 8) (.tmp 2)),zm 9 1,zq 10 (.call 78 [(.tmp 8),(.tmp 9)]),zm 7 10,zq 11 (.ext (.tmp 7) 0),zq 12 (.ext (.tmp 7) 1),zm 5 11,zm 6 12]))
 (.seq (.keep [5] [] (.reg [zm 13 5,zq 14 (.call 79 [(.tmp 13)])]))
 (.seq (.keep [5] [] (.reg [zm 15 5,zm 4 15]))
 .ret)))) }
def h44:Hints:=⟨[],[(0,[0,1,2],[]),(1,[1,3,5],[]),(2,[1,3,5],[]),(3,[],[]),(4,[1,3,5],[]),(5,[1,3,5,7],[]),(6,[1,3,5,7,8],[]),(7,[1,3,7,8],[]),(8,[7],[])],[]⟩
def a44:AFn:={ n:=40,np:=3,res:=[.tmp 6],body:=
 (.seq (.keep [0,1,2] [] (.reg [zq 3 (.box none (.tmp 0)),zq 5 (.box none (.tmp 2)),zq 6 (.mov (.val .nils))]))
 (.seq (.keep [1,3,5] [] (.reg [zl 9 5,zq 10 (.min [(.tmp 9),(.val (.int .i64 12))]),⟨none,.store 1 (.tmp 5) (.tmp 10),none⟩]))
 (.seq (.seq (.keep [1,3,5] [] (.reg [zm 11 1,zq 12 (.bin .lss (.tmp 11) (.val (.int .i64 0))),zm 13 12,⟨(some 14),.mov (.tmp 1),(some (13,false))⟩,⟨(some 15),.faddr 1 (.tmp 3),(some (13,false))⟩,⟨(some 16),.load none (.tmp 15),(some (13,false))⟩,⟨(some 17),.lenL (.tmp 16),(some (13,false))⟩,⟨(some 18),.bin .geq (.tmp 14) (.tmp 17),(some (13,false))⟩,zq 19 (.pick (.tmp 13) (.val (.bool true)) (.tmp 18)),zm 20 19,⟨(some 21),.load none (.tmp 5),(some (20,false))⟩,⟨(some 22),.bin .lss (.tmp 21) (.val (.int .i64 1)),(some (20,false))⟩,zq 23 (.pick (.tmp 20) (.val (.bool true)) (.tmp 22)),zm 24 23,⟨(some 25),.load (some 8) (.tmp 3),(some (24,false))⟩,⟨(some 26),.call 54 [(.tmp 25)],(some (24,false))⟩,⟨(some 27),.bin .neq (.tmp 26) (.val (.int .i64 0)),(some (24,false))⟩,zq 28 (.pick (.tmp 24) (.val (.bool true)) (.tmp 27))]))
 (.cond (.tmp 28) (.seq (.keep [] [] (.reg [zq 6 (.mov (.val .nils))]))
 .ret) .skip))
 (.seq (.keep [1,3,5] [] (.reg [zq 7 (.alloc none [.nils])]))
 (.seq (.keep [1,3,5,7] [] (.reg [zq 8 (.alloc none [.nilf])]))
 (.seq (.keep [1,3,5,7,8] [] (.reg [zq 29 (.mkfn 85 [(.tmp 7),(.tmp 5),(.tmp 3),(.tmp 8)]),⟨none,.store 1 (.tmp 8) (.tmp 29),none⟩]))
 (.seq (.keep [1,3,7,8] [] (.dreg [zk 30 8,zp 31 (.faddr 1 (.tmp 3)),zk 32 31,zn 33 1,zp 34 (.iaddrL 3 (.tmp 32) (.tmp 33)),zp 35 (.faddr 0 (.tmp 34)),zk 36 35,zp 37 (.mkslc 1 1 [(.int .i64 0)] [(0,(.tmp 36))]),zp 38 (.callv (.tmp 30) [(.tmp 37)])]))
 (.seq (.keep [7] [] (.reg [zl 39 7,zm 6 39]))
 .ret)))))))) }
def h47:Hints:=⟨[2],[(0,[0,1],[]),(1,[1,2],[2]),(2,[1,2,5,6],[2]),(3,[],[]),(4,[1,2,5],[2]),(5,[1,2,7,8],[2]),(6,[1,2,7,8,9],[2]),(7,[1,2,8,9,10],[2]),(9,[1,2,8,9,10],[2]),(10,[1,2,8,9,10],[2]),(8,[1,2,8,9,10],[2]),(11,[9],[])],[]⟩
def a47_B1:AC:=(.seq (.seq (.keep [1,2,8,9,10] [2] (.reg [zm 26 10,zm 27 8,zq 28 (.bin .lss (.tmp 26) (.tmp 27))]))
 (.cond (.tmp 28) .skip (.exit 0)))
 (.seq (.block 1 (.seq (.keep [1,2,8,9,10] [2] (.reg [zq 31 (.load (some 8) (.tmp 2)),zm 32 10,zq 33 (.call 87 [(.tmp 31),(.tmp 32)]),zm 34 1,zq 35 (.call 88 [(.tmp 33),(.tmp 34)])]))
 (.cond (.tmp 35) (.keep [1,2,8,9,10] [2] (.reg [zm 36 9,zm 37 10,zq 38 (.mkslc 1 1 [(.int .i64 0)] [(0,(.tmp 37))]),zq 39 (.app none 1 8 (.tmp 36) (.tmp 38)),zm 9 39])) .skip)))
 (.keep [1,2,8,9,10] [2] (.reg [zm 29 10,zq 30 (.bin .add (.tmp 29) (.val (.int .i64 1))),zm 10 30]))))
def a47_L1:AC:=.loop a47_B1
theorem a47_L1_step (call:Caller) (again:AC→St→Option (Ex×St)) (s:St):codeEv call again a47_L1 s=match codeEv call again a47_B1 s with | some (.norm,s1)=>again a47_L1 s1 | r=>r:=rfl
def a47:AFn:={ n:=41,np:=2,res:=[.tmp 4],body:=
 (.seq (.keep [0,1] [] (.reg [zq 2 (.box (some 2) (.tmp 0)),zq 4 (.mov (.val .nils))]))
 (.seq (.keep [1,2] [2] (.reg [zq 12 (.load (some 8) (.tmp 2)),zm 13 1,zq 14 (.call 67 [(.tmp 12),(.tmp 13)]),zm 11 14,zq 15 (.ext (.tmp 11) 0),zq 16 (.ext (.tmp 11) 1),zm 5 15,zm 6 16]))
 (.seq (.seq (.keep [1,2,5,6] [2] (.reg [zm 17 6,zq 18 (.un .not (.tmp 17))]))
 (.cond (.tmp 18) (.seq (.keep [] [] (.reg [zq 4 (.mov (.val .nils))]))
 .ret) .skip))
 (.seq (.keep [1,2,5] [2] (.reg [zq 20 (.load (some 8) (.tmp 2)),zm 21 5,zq 22 (.call 73 [(.tmp 20),(.tmp 21)]),zm 19 22,zq 23 (.ext (.tmp 19) 0),zq 24 (.ext (.tmp 19) 1),zm 7 23,zm 8 24]))
 (.seq (.keep [1,2,7,8] [2] (.reg [zq 9 (.mov (.val .nils))]))
 (.seq (.seq (.keep [1,2,7,8,9] [2] (.reg [zm 25 7,zm 10 25]))
 (.block 0 a47_L1))
 (.seq (.keep [9] [] (.reg [zm 40 9,zm 4 40]))
 .ret))))))) }
def h49:Hints:=⟨[2],[(0,[0,1],[]),(1,[1,2],[2]),(2,[5],[]),(3,[5,6],[]),(5,[5,6],[]),(6,[5,6,7],[]),(8,[5,6,7],[]),(7,[5,6,7],[]),(4,[5,6],[]),(9,[5],[])],[]⟩
def a49_B1:AC:=(.seq (.seq (.keep [5,6,7] [] (.dreg [zn 21 7,zp 22 (.bin .gtr (.tmp 21) (.val (.int .i64 0))),zn 23 22,(false,⟨(some 24),.mov (.tmp 5),(some (23,true))⟩,false),(false,⟨(some 25),.mov (.tmp 7),(some (23,true))⟩,false),(false,⟨(some 26),.bin .sub (.tmp 25) (.val (.int .i64 1)),(some (23,true))⟩,false),(false,⟨(some 27),.iaddrL 2 (.tmp 24) (.tmp 26),(some (23,true))⟩,false),(false,⟨(some 28),.iaddrA 2 1 (.tmp 27) (.val (.int .i64 0)),(some (23,true))⟩,false),(false,⟨(some 29),.load none (.tmp 28),(some (23,true))⟩,false),(false,⟨(some 30),.mov (.tmp 5),(some (23,true))⟩,false),(false,⟨(some 31),.mov (.tmp 7),(some (23,true))⟩,false),(false,⟨(some 32),.iaddrL 2 (.tmp 30) (.tmp 31),(some (23,true))⟩,false),(false,⟨(some 33),.iaddrA 2 1 (.tmp 32) (.val (.int .i64 0)),(some (23,true))⟩,false),(false,⟨(some 34),.load none (.tmp 33),(some (23,true))⟩,false),(false,⟨(some 35),.bin .gtr (.tmp 29) (.tmp 34),(some (23,true))⟩,false),(false,⟨(some 36),.mov (.tmp 35),(some (23,true))⟩,false),(false,⟨(some 37),.mov (.tmp 5),(some (36,false))⟩,false),(false,⟨(some 38),.mov (.tmp 7),(some (36,false))⟩,false),(false,⟨(some 39),.bin .sub (.tmp 38) (.val (.int .i64 1)),(some (36,false))⟩,false),(false,⟨(some 40),.iaddrL 2 (.tmp 37) (.tmp 39),(some (36,false))⟩,false),(false,⟨(some 41),.iaddrA 2 1 (.tmp 40) (.val (.int .i64 0)),(some (36,false))⟩,false),(false,⟨(some 42),.load none (.tmp 41),(some (36,false))⟩,false),(false,⟨(some 43),.mov (.tmp 5),(some (36,false))⟩,false),(false,⟨(some 44),.mov (.tmp 7),(some (36,false))⟩,false),(false,⟨(some 45),.iaddrL 2 (.tmp 43) (.tmp 44),(some (36,false))⟩,false),(false,⟨(some 46),.iaddrA 2 1 (.tmp 45) (.val (.int .i64 0)),(some (36,false))⟩,false),(false,⟨(some 47),.load none (.tmp 46),(some (36,false))⟩,false),(false,⟨(some 48),.bin .eql (.tmp 42) (.tmp 47),(some (36,false))⟩,false),(false,⟨(some 49),.mov (.tmp 48),(some (36,false))⟩,false),(false,⟨(some 50),.mov (.tmp 5),(some (49,true))⟩,false),(false,⟨(some 51),.mov (.tmp 7),(some (49,true))⟩,false),(false,⟨(some 52),.bin .sub (.tmp 51) (.val (.int .i64 1)),(some (49,true))⟩,false),(false,⟨(some 53),.iaddrL 2 (.tmp 50) (.tmp 52),(some (49,true))⟩,false),(false,⟨(some 54),.iaddrA 2 1 (.tmp 53) (.val (.int .i64 1)),(some (49,true))⟩,false),(false,⟨(some 55),.load none (.tmp 54),(some (49,true))⟩,false),(false,⟨(some 56),.mov (.tmp 5),(some (49,true))⟩,false),(false,⟨(some 57),.mov (.tmp 7),(some (49,true))⟩,false),(false,⟨(some 58),.iaddrL 2 (.tmp 56) (.tmp 57),(some (49,true))⟩,false),(false,⟨(some 59),.iaddrA 2 1 (.tmp 58) (.val (.int .i64 1)),(some (49,true))⟩,false),(false,⟨(some 60),.load none (.tmp 59),(some (49,true))⟩,false),(false,⟨(some 61),.bin .gtr (.tmp 55) (.tmp 60),(some (49,true))⟩,false),(false,⟨(some 62),.pick (.tmp 49) (.tmp 61) (.val (.bool false)),(some (36,false))⟩,false),(false,⟨(some 63),.pick (.tmp 36) (.val (.bool true)) (.tmp 62),(some (23,true))⟩,false),zp 64 (.pick (.tmp 23) (.tmp 63) (.val (.bool false)))]))
 (.cond (.tmp 64) .skip (.exit 2)))
 (.seq (.block 3 (.keep [5,6,7] [] (.dreg [zn 67 5,zn 68 7,zp 69 (.bin .sub (.tmp 68) (.val (.int .i64 1))),zn 70 5,zn 71 7,zn 72 5,zn 73 7,zp 74 (.iaddrL 2 (.tmp 72) (.tmp 73)),zp 75 (.load (some 2) (.tmp 74)),zn 76 5,zn 77 7,zp 78 (.bin .sub (.tmp 77) (.val (.int .i64 1))),zp 79 (.iaddrL 2 (.tmp 76) (.tmp 78)),zp 80 (.load (some 2) (.tmp 79)),zp 81 (.iaddrL 2 (.tmp 67) (.tmp 69)),(false,⟨none,.store 2 (.tmp 81) (.tmp 75),none⟩,false),zp 82 (.iaddrL 2 (.tmp 70) (.tmp 71)),(false,⟨none,.store 2 (.tmp 82) (.tmp 80),none⟩,false)])))
 (.keep [5,6,7] [] (.reg [zm 65 7,zq 66 (.bin .sub (.tmp 65) (.val (.int .i64 1))),zm 7 66]))))
def a49_L1:AC:=.loop a49_B1
theorem a49_L1_step (call:Caller) (again:AC→St→Option (Ex×St)) (s:St):codeEv call again a49_L1 s=match codeEv call again a49_B1 s with | some (.norm,s1)=>again a49_L1 s1 | r=>r:=rfl
def a49_B2:AC:=(.seq (.seq (.keep [5,6] [] (.reg [zm 14 6,zm 15 5,zq 16 (.lenL (.tmp 15)),zq 17 (.bin .lss (.tmp 14) (.tmp 16))]))
 (.cond (.tmp 17) .skip (.exit 0)))
 (.seq (.block 1 (.seq (.keep [5,6] [] (.reg [zm 20 6,zm 7 20]))
 (.block 2 a49_L1)))
 (.keep [5,6] [] (.reg [zm 18 6,zq 19 (.bin .add (.tmp 18) (.val (.int .i64 1))),zm 6 19]))))
def a49_L2:AC:=.loop a49_B2
theorem a49_L2_step (call:Caller) (again:AC→St→Option (Ex×St)) (s:St):codeEv call again a49_L2 s=match codeEv call again a49_B2 s with | some (.norm,s1)=>again a49_L2 s1 | r=>r:=rfl
def a49:AFn:={ n:=84,np:=2,res:=[.tmp 4],body:=
 (.seq (.keep [0,1] [] (.reg [zq 2 (.box (some 2) (.tmp 0)),zq 4 (.mov (.val .nils))]))
 (.seq (.keep [1,2] [2] (.reg [zq 8 (.load (some 8) (.tmp 2)),zm 9 1,zq 10 (.call 62 [(.tmp 8),(.tmp 9)]),zq 11 (.nilck (.tmp 10)),zq 12 (.faddr 10 (.tmp 11)),zl 13 12,zm 5 13]))
 (.seq (.seq (.keep [5] [] (.reg [zq 6 (.mov (.val (.int .i64 0)))]))
 (.block 0 a49_L2))
 (.seq (.keep [5] [] (.reg [zm 83 5,zm 4 83]))
 .ret)))) }
def h50:Hints:=⟨[2],[(0,[0,1],[]),(1,[1,2],[2]),(2,[1,2,5],[2]),(3,[],[]),(4,[1,2,5],[2]),(5,[1,2,5,6],[2]),(7,[1,2,5,6],[2]),(8,[1,2,5,6,7],[2]),(9,[1,2,5,6,7,8],[2]),(11,[1,2,5,6,7,8],[2]),(12,[1,2,5,6,7,8],[2]),(10,[1,2,5,6,7,8],[2]),(6,[1,2,5,6],[2]),(13,[5],[])],[]⟩
def a50_B1:AC:=(.seq (.seq (.keep [1,2,5,6,7,8] [2] (.reg [zm 22 8,zm 23 7,zq 24 (.lenL (.tmp 23)),zq 25 (.bin .lss (.tmp 22) (.tmp 24))]))
 (.cond (.tmp 25) .skip (.exit 2)))
 (.seq (.block 3 (.seq (.keep [1,2,5,6,7,8] [2] (.reg [zm 28 7,zm 29 8,zq 30 (.iaddrL 1 (.tmp 28) (.tmp 29)),zl 31 30,zm 32 1,zq 33 (.bin .eql (.tmp 31) (.tmp 32))]))
 (.cond (.tmp 33) (.keep [1,2,5,6,7,8] [2] (.reg [zm 34 5,zm 35 6,zq 36 (.mkslc 1 1 [(.int .i64 0)] [(0,(.tmp 35))]),zq 37 (.app none 1 8 (.tmp 34) (.tmp 36)),zm 5 37])) .skip)))
 (.keep [1,2,5,6,7,8] [2] (.reg [zm 26 8,zq 27 (.bin .add (.tmp 26) (.val (.int .i64 1))),zm 8 27]))))
def a50_L1:AC:=.loop a50_B1
theorem a50_L1_step (call:Caller) (again:AC→St→Option (Ex×St)) (s:St):codeEv call again a50_L1 s=match codeEv call again a50_B1 s with | some (.norm,s1)=>again a50_L1 s1 | r=>r:=rfl
def a50_B2:AC:=(.seq (.seq (.keep [1,2,5,6] [2] (.reg [zm 12 6,zq 13 (.faddr 0 (.tmp 2)),zl 14 13,zq 15 (.lenL (.tmp 14)),zq 16 (.bin .lss (.tmp 12) (.tmp 15))]))
 (.cond (.tmp 16) .skip (.exit 0)))
 (.seq (.block 1 (.seq (.keep [1,2,5,6] [2] (.reg [zq 19 (.load (some 8) (.tmp 2)),zm 20 6,zq 21 (.call 64 [(.tmp 19),(.tmp 20)]),zm 7 21]))
 (.seq (.keep [1,2,5,6,7] [2] (.reg [zq 8 (.mov (.val (.int .i64 0)))]))
 (.block 2 a50_L1))))
 (.keep [1,2,5,6] [2] (.reg [zm 17 6,zq 18 (.bin .add (.tmp 17) (.val (.int .i64 1))),zm 6 18]))))
def a50_L2:AC:=.loop a50_B2
theorem a50_L2_step (call:Caller) (again:AC→St→Option (Ex×St)) (s:St):codeEv call again a50_L2 s=match codeEv call again a50_B2 s with | some (.norm,s1)=>again a50_L2 s1 | r=>r:=rfl
def a50:AFn:={ n:=39,np:=2,res:=[.tmp 4],body:=
 (.seq (.keep [0,1] [] (.reg [zq 2 (.box (some 2) (.tmp 0)),zq 4 (.mov (.val .nils))]))
 (.seq (.keep [1,2] [2] (.reg [zq 5 (.mov (.val .nils))]))
 (.seq (.seq (.keep [1,2,5] [2] (.reg [zq 9 (.load (some 8) (.tmp 2)),zq 10 (.call 37 [(.tmp 9)]),zq 11 (.bin .neq (.tmp 10) (.val (.int .i64 0)))]))
 (.cond (.tmp 11) (.seq (.keep [] [] (.reg [zq 4 (.mov (.val .nils))]))
 .ret) .skip))
 (.seq (.seq (.keep [1,2,5] [2] (.reg [zq 6 (.mov (.val (.int .i64 0)))]))
 (.block 0 a50_L2))
 (.seq (.keep [5] [] (.reg [zm 38 5,zm 4 38]))
 .ret))))) }
def h51:Hints:=⟨[2],[(0,[0,1],[]),(1,[1,2],[2]),(2,[5],[]),(3,[5,6],[]),(4,[5,6,7],[]),(6,[5,6,7],[]),(5,[5,6,7],[]),(7,[6],[])],[]⟩
def a51_B1:AC:=(.seq (.seq (.keep [5,6,7] [] (.reg [zm 17 7,zq 18 (.bin .geq (.tmp 17) (.val (.int .i64 0)))]))
 (.cond (.tmp 18) .skip (.exit 0)))
 (.seq (.block 1 (.keep [5,6,7] [] (.reg [zm 21 6,zm 22 5,zm 23 7,zq 24 (.iaddrL 1 (.tmp 22) (.tmp 23)),zl 25 24,zq 26 (.mkslc 1 1 [(.int .i64 0)] [(0,(.tmp 25))]),zq 27 (.app none 1 8 (.tmp 21) (.tmp 26)),zm 6 27])))
 (.keep [5,6,7] [] (.reg [zm 19 7,zq 20 (.bin .sub (.tmp 19) (.val (.int .i64 1))),zm 7 20]))))
def a51_L1:AC:=.loop a51_B1
theorem a51_L1_step (call:Caller) (again:AC→St→Option (Ex×St)) (s:St):codeEv call again a51_L1 s=match codeEv call again a51_B1 s with | some (.norm,s1)=>again a51_L1 s1 | r=>r:=rfl
def a51:AFn:={ n:=29,np:=2,res:=[.tmp 4],body:=
 (.seq (.keep [0,1] [] (.reg [zq 2 (.box (some 2) (.tmp 0)),zq 4 (.mov (.val .nils))]))
 (.seq (.keep [1,2] [2] (.reg [zq 8 (.load (some 8) (.tmp 2)),zm 9 1,zq 10 (.call 62 [(.tmp 8),(.tmp 9)]),zq 11 (.nilck (.tmp 10)),zq 12 (.faddr 9 (.tmp 11)),zl 13 12,zm 5 13]))
 (.seq (.keep [5] [] (.reg [zq 6 (.mov (.val .nils))]))
 (.seq (.seq (.keep [5,6] [] (.reg [zm 14 5,zq 15 (.lenL (.tmp 14)),zq 16 (.bin .sub (.tmp 15) (.val (.int .i64 1))),zm 7 16]))
 (.block 0 a51_L1))
 (.seq (.keep [6] [] (.reg [zm 28 6,zm 4 28]))
 .ret))))) }
def h52:Hints:=⟨[],[(0,[0,1],[]),(1,[0,1],[]),(2,[],[]),(3,[0,1],[]),(4,[0,1,5],[]),(6,[0,1,5],[]),(7,[],[]),(5,[0,1,5],[]),(8,[],[])],[]⟩
def a52_B1:AC:=(.seq (.seq (.keep [0,1,5] [] (.reg [zm 11 5,zm 12 0,zq 13 (.lenL (.tmp 12)),zq 14 (.bin .lss (.tmp 11) (.tmp 13))]))
 (.cond (.tmp 14) .skip (.exit 0)))
 (.seq (.block 1 (.seq (.keep [0,1,5] [] (.dreg [zn 17 0,zn 18 5,zp 19 (.iaddrL 1 (.tmp 17) (.tmp 18)),zk 20 19,zn 21 1,zn 22 5,zp 23 (.iaddrL 1 (.tmp 21) (.tmp 22)),zk 24 23,zp 25 (.call 42 [(.tmp 20),(.tmp 24)]),zp 26 (.un .not (.tmp 25))]))
 (.cond (.tmp 26) (.seq (.keep [] [] (.reg [zq 4 (.mov (.val (.bool false)))]))
 .ret) .skip)))
 (.keep [0,1,5] [] (.reg [zm 15 5,zq 16 (.bin .add (.tmp 15) (.val (.int .i64 1))),zm 5 16]))))
def a52_L1:AC:=.loop a52_B1
theorem a52_L1_step (call:Caller) (again:AC→St→Option (Ex×St)) (s:St):codeEv call again a52_L1 s=match codeEv call again a52_B1 s with | some (.norm,s1)=>again a52_L1 s1 | r=>r:=rfl
def a52:AFn:={ n:=27,np:=2,res:=[.tmp 4],body:=
 (.seq (.keep [0,1] [] (.reg [zq 4 (.mov (.val (.bool false)))]))
 (.seq (.seq (.keep [0,1] [] (.reg [zm 6 0,zq 7 (.lenL (.tmp 6)),zm 8 1,zq 9 (.lenL (.tmp 8)),zq 10 (.bin .neq (.tmp 7) (.tmp 9))]))
 (.cond (.tmp 10) (.seq (.keep [] [] (.reg [zq 4 (.mov (.val (.bool false)))]))
 .ret) .skip))
 (.seq (.seq (.keep [0,1] [] (.reg [zq 5 (.mov (.val (.int .i64 0)))]))
 (.block 0 a52_L1))
 (.seq (.keep [] [] (.reg [zq 4 (.mov (.val (.bool true)))]))
 .ret)))) }
def h53:Hints:=⟨[3],[(0,[0,1,2],[]),(1,[1,2,3],[3]),(2,[],[]),(3,[1,2,3],[3])],[]⟩
def a53:AFn:={ n:=36,np:=3,res:=[.tmp 6],body:=
 (.seq (.keep [0,1,2] [] (.reg [zq 3 (.box (some 3) (.tmp 0)),zq 6 (.mov (.val .nils))]))
 (.seq (.seq (.keep [1,2,3] [3] (.reg [zq 7 (.load (some 8) (.tmp 3)),zq 8 (.call 37 [(.tmp 7)]),zq 9 (.bin .neq (.tmp 8) (.val (.int .i64 0))),zm 10 9,⟨(some 11),.mov (.tmp 1),(some (10,false))⟩,⟨(some 12),.bin .lss (.tmp 11) (.val (.int .i64 0)),(some (10,false))⟩,zq 13 (.pick (.tmp 10) (.val (.bool true)) (.tmp 12)),zm 14 13,⟨(some 15),.mov (.tmp 1),(some (14,false))⟩,⟨(some 16),.faddr 1 (.tmp 3),(some (14,false))⟩,⟨(some 17),.load none (.tmp 16),(some (14,false))⟩,⟨(some 18),.lenL (.tmp 17),(some (14,false))⟩,⟨(some 19),.bin .geq (.tmp 15) (.tmp 18),(some (14,false))⟩,zq 20 (.pick (.tmp 14) (.val (.bool true)) (.tmp 19)),zm 21 20,⟨(some 22),.mov (.tmp 2),(some (21,false))⟩,⟨(some 23),.bin .lss (.tmp 22) (.val (.int .i64 1)),(some (21,false))⟩,zq 24 (.pick (.tmp 21) (.val (.bool true)) (.tmp 23))]))
 (.cond (.tmp 24) (.seq (.keep [] [] (.reg [zq 6 (.mov (.val .nils))]))
 .ret) .skip))
 (.seq (.keep [1,2,3] [3] (.dreg [zp 25 (.load (some 8) (.tmp 3)),zp 26 (.faddr 1 (.tmp 3)),zk 27 26,zn 28 1,zp 29 (.iaddrL 3 (.tmp 27) (.tmp 28)),zp 30 (.faddr 0 (.tmp 29)),zk 31 30,zn 33 2,zp 34 (.min [(.tmp 33),(.val (.int .i64 12))]),zp 32 (.mkslc 1 1 [(.int .i64 0)] [(0,(.tmp 31))]),zp 35 (.call 89 [(.tmp 25),(.tmp 32),(.tmp 34)]),zn 6 35]))
 .ret))) }
def h62:Hints:=⟨[2],[(0,[0,1],[]),(1,[1,2],[2]),(2,[1,2,5],[2]),(3,[1,2,5],[2]),(4,[5],[])],[]⟩
def a62:AFn:={ n:=33,np:=2,res:=[.tmp 4],body:=
 (.seq (.keep [0,1] [] (.reg [zq 2 (.box (some 2) (.tmp 0)),zq 4 (.mov (.val .nilp))]))
 (.seq (.keep [1,2] [2] (.reg [zq 6 (.load (some 8) (.tmp 2)),zq 7 (.xm (.mkmap) []),zq 8 (.build [.nils,.nils,.nils,(.int .i64 0),.nils,.nils,(.int .i64 0),.nils,.nilm,.nils,.nils] [(0,8,(.tmp 6)),(8,1,(.tmp 7))]),zq 9 (.box none (.tmp 8)),zm 5 9]))
 (.seq (.seq (.keep [1,2,5] [2] (.reg [zq 10 (.load (some 8) (.tmp 2)),zq 11 (.call 37 [(.tmp 10)]),zq 12 (.bin .eql (.tmp 11) (.val (.int .i64 0))),zm 13 12,⟨(some 14),.mov (.tmp 1),(some (13,true))⟩,⟨(some 15),.bin .geq (.tmp 14) (.val (.int .i64 0)),(some (13,true))⟩,zq 16 (.pick (.tmp 13) (.tmp 15) (.val (.bool false))),zm 17 16,⟨(some 18),.mov (.tmp 1),(some (17,true))⟩,⟨(some 19),.faddr 1 (.tmp 2),(some (17,true))⟩,⟨(some 20),.load none (.tmp 19),(some (17,true))⟩,⟨(some 21),.lenL (.tmp 20),(some (17,true))⟩,⟨(some 22),.bin .lss (.tmp 18) (.tmp 21),(some (17,true))⟩,zq 23 (.pick (.tmp 17) (.tmp 22) (.val (.bool false)))]))
 (.cond (.tmp 23) (.keep [1,2,5] [2] (.reg [zm 24 5,zq 25 (.faddr 1 (.tmp 2)),zl 26 25,zm 27 1,zq 28 (.iaddrL 3 (.tmp 26) (.tmp 27)),zq 29 (.faddr 0 (.tmp 28)),zl 30 29,zq 31 (.call 105 [(.tmp 24),(.tmp 30)])])) .skip))
 (.seq (.keep [5] [] (.reg [zm 32 5,zm 4 32]))
 .ret)))) }
def h63:Hints:=⟨[1,3],[(0,[0],[]),(1,[1],[1]),(2,[1,3],[1,3]),(3,[],[]),(4,[],[])],[]⟩
def a63:AFn:={ n:=39,np:=1,res:=[.tmp 2],body:=
 (.seq (.keep [0] [] (.reg [zq 1 (.box (some 1) (.tmp 0)),zq 2 (.mov (.val (.int .i64 0)))]))
 (.seq (.keep [1] [1] (.reg [zq 4 (.faddr 0 (.tmp 1)),zl 5 4,zq 6 (.call 106 [(.tmp 5)]),zq 3 (.alloc (some 3) [(.int .i64 0),(.int .i64 0),(.int .i64 0)]),⟨none,.store 3 (.tmp 3) (.tmp 6),none⟩]))
 (.seq (.seq (.keep [1,3] [1,3] (.reg [zq 7 (.faddr 0 (.tmp 1)),zl 8 7,zq 9 (.bin .lss (.tmp 8) (.val (.int .i64 1))),zm 10 9,⟨(some 11),.faddr 0 (.tmp 1),(some (10,false))⟩,⟨(some 12),.load none (.tmp 11),(some (10,false))⟩,⟨(some 13),.bin .gtr (.tmp 12) (.val (.int .i64 24)),(some (10,false))⟩,zq 14 (.pick (.tmp 10) (.val (.bool true)) (.tmp 13)),zm 15 14,⟨(some 16),.iaddrA 3 1 (.tmp 3) (.val (.int .i64 0)),(some (15,false))⟩,⟨(some 17),.load none (.tmp 16),(some (15,false))⟩,⟨(some 18),.faddr 1 (.tmp 1),(some (15,false))⟩,⟨(some 19),.load none (.tmp 18),(some (15,false))⟩,⟨(some 20),.call 107 [(.tmp 17),(.tmp 19)],(some (15,false))⟩,⟨(some 21),.un .not (.tmp 20),(some (15,false))⟩,zq 22 (.pick (.tmp 15) (.val (.bool true)) (.tmp 21)),zm 23 22,⟨(some 24),.iaddrA 3 1 (.tmp 3) (.val (.int .i64 1)),(some (23,false))⟩,⟨(some 25),.load none (.tmp 24),(some (23,false))⟩,⟨(some 26),.faddr 2 (.tmp 1),(some (23,false))⟩,⟨(some 27),.load none (.tmp 26),(some (23,false))⟩,⟨(some 28),.call 107 [(.tmp 25),(.tmp 27)],(some (23,false))⟩,⟨(some 29),.un .not (.tmp 28),(some (23,false))⟩,zq 30 (.pick (.tmp 23) (.val (.bool true)) (.tmp 29)),zm 31 30,⟨(some 32),.iaddrA 3 1 (.tmp 3) (.val (.int .i64 2)),(some (31,false))⟩,⟨(some 33),.load none (.tmp 32),(some (31,false))⟩,⟨(some 34),.faddr 3 (.tmp 1),(some (31,false))⟩,⟨(some 35),.load none (.tmp 34),(some (31,false))⟩,⟨(some 36),.call 107 [(.tmp 33),(.tmp 35)],(some (31,false))⟩,⟨(some 37),.un .not (.tmp 36),(some (31,false))⟩,zq 38 (.pick (.tmp 31) (.val (.bool true)) (.tmp 37))]))
 (.cond (.tmp 38) (.seq (.keep [] [] (.reg [zq 2 (.mov (.val (.int .i64 2)))]))
 .ret) .skip))
 (.seq (.keep [] [] (.reg [zq 2 (.mov (.val (.int .i64 0)))]))
 .ret)))) }
def h64:Hints:=⟨[2],[(0,[0,1],[]),(1,[1,2],[2]),(2,[1,5,6,7],[]),(3,[1,5,6,7,8],[]),(4,[1,5,6,7,8],[]),(5,[1,5,6,7,8],[]),(6,[1,8],[]),(7,[8],[]),(8,[8],[]),(9,[8],[])],[]⟩
def a64:AFn:={ n:=63,np:=2,res:=[.tmp 4],body:=
 (.seq (.keep [0,1] [] (.reg [zq 2 (.box (some 2) (.tmp 0)),zq 4 (.mov (.val .nils))]))
 (.seq (.keep [1,2] [2] (.reg [zq 10 (.faddr 0 (.tmp 2)),zl 11 10,zm 12 1,zq 13 (.iaddrL 4 (.tmp 11) (.tmp 12)),zq 14 (.load (some 4) (.tmp 13)),zq 15 (.call 108 [(.tmp 14)]),zm 9 15,zq 16 (.ext (.tmp 9) 0),zq 17 (.ext (.tmp 9) 1),zq 18 (.ext (.tmp 9) 2),zm 5 16,zm 6 17,zm 7 18]))
 (.seq (.keep [1,5,6,7] [] (.reg [zq 8 (.mov (.val .nils))]))
 (.seq (.seq (.keep [1,5,6,7,8] [] (.reg [zm 19 6]))
 (.cond (.tmp 19) (.keep [1,5,6,7,8] [] (.reg [zm 20 8,zm 21 5,zq 22 (.mkslc 1 1 [(.int .i64 0)] [(0,(.tmp 21))]),zq 23 (.app none 1 8 (.tmp 20) (.tmp 22)),zm 8 23])) .skip))
 (.seq (.seq (.keep [1,5,6,7,8] [] (.reg [zm 24 7,zm 25 24,⟨(some 26),.mov (.tmp 6),(some (25,true))⟩,⟨(some 27),.mov (.tmp 26),(some (25,true))⟩,⟨(some 28),.mov (.tmp 5),(some (27,true))⟩,⟨(some 29),.mov (.tmp 1),(some (27,true))⟩,⟨(some 30),.bin .add (.tmp 29) (.val (.int .i64 1)),(some (27,true))⟩,⟨(some 31),.bin .eql (.tmp 28) (.tmp 30),(some (27,true))⟩,⟨(some 32),.pick (.tmp 27) (.tmp 31) (.val (.bool false)),(some (25,true))⟩,⟨(some 33),.un .not (.tmp 32),(some (25,true))⟩,zq 34 (.pick (.tmp 25) (.tmp 33) (.val (.bool false)))]))
 (.cond (.tmp 34) (.keep [1,8] [] (.reg [zm 35 8,zm 36 1,zq 37 (.bin .add (.tmp 36) (.val (.int .i64 1))),zq 38 (.mkslc 1 1 [(.int .i64 0)] [(0,(.tmp 37))]),zq 39 (.app none 1 8 (.tmp 35) (.tmp 38)),zm 8 39])) .skip))
 (.seq (.seq (.keep [8] [] (.dreg [zn 40 8,zp 41 (.lenL (.tmp 40)),zp 42 (.bin .eql (.tmp 41) (.val (.int .i64 2))),zn 43 42,(false,⟨(some 44),.mov (.tmp 8),(some (43,true))⟩,false),(false,⟨(some 45),.iaddrL 1 (.tmp 44) (.val (.int .i64 0)),(some (43,true))⟩,false),(false,⟨(some 46),.load none (.tmp 45),(some (43,true))⟩,false),(false,⟨(some 47),.mov (.tmp 8),(some (43,true))⟩,false),(false,⟨(some 48),.iaddrL 1 (.tmp 47) (.val (.int .i64 1)),(some (43,true))⟩,false),(false,⟨(some 49),.load none (.tmp 48),(some (43,true))⟩,false),(false,⟨(some 50),.bin .gtr (.tmp 46) (.tmp 49),(some (43,true))⟩,false),zp 51 (.pick (.tmp 43) (.tmp 50) (.val (.bool false)))]))
 (.cond (.tmp 51) (.keep [8] [] (.dreg [zn 52 8,zn 53 8,zn 54 8,zp 55 (.iaddrL 1 (.tmp 54) (.val (.int .i64 1))),zk 56 55,zn 57 8,zp 58 (.iaddrL 1 (.tmp 57) (.val (.int .i64 0))),zk 59 58,zp 60 (.iaddrL 1 (.tmp 52) (.val (.int .i64 0))),(false,⟨none,.store 1 (.tmp 60) (.tmp 56),none⟩,false),zp 61 (.iaddrL 1 (.tmp 53) (.val (.int .i64 1))),(false,⟨none,.store 1 (.tmp 61) (.tmp 59),none⟩,false)])) .skip))
 (.seq (.keep [8] [] (.reg [zm 62 8,zm 4 62]))
 .ret))))))) }
def h65:Hints:=⟨[2],[(0,[0,1],[]),(1,[1,2],[2]),(2,[],[]),(3,[1,2],[2]),(4,[1,2,6],[2]),(5,[1,2],[2]),(6,[1,2,6],[2])],[]⟩
def a65:AFn:={ n:=39,np:=2,res:=[.tmp 4,.tmp 5],body:=
 (.seq (.keep [0,1] [] (.reg [zq 2 (.box (some 2) (.tmp 0)),zq 4 (.mov (.val (.int .i64 0))),zq 5 (.mov (.val (.int .i64 0)))]))
 (.seq (.seq (.keep [1,2] [2] (.reg [zm 7 1,zq 8 (.bin .lss (.tmp 7) (.val (.int .i64 0))),zm 9 8,⟨(some 10),.mov (.tmp 1),(some (9,false))⟩,⟨(some 11),.faddr 1 (.tmp 2),(some (9,false))⟩,⟨(some 12),.load none (.tmp 11),(some (9,false))⟩,⟨(some 13),.lenL (.tmp 12),(some (9,false))⟩,⟨(some 14),.bin .geq (.tmp 10) (.tmp 13),(some (9,false))⟩,zq 15 (.pick (.tmp 9) (.val (.bool true)) (.tmp 14))]))
 (.cond (.tmp 15) (.seq (.keep [] [] (.reg [zq 4 (.mov (.val (.int .i64 0))),zq 5 (.mov (.val (.int .i64 0)))]))
 .ret) .skip))
 (.seq (.keep [1,2] [2] (.reg [zq 16 (.faddr 0 (.tmp 2)),zl 17 16,zq 18 (.lenL (.tmp 17)),zm 6 18]))
 (.seq (.seq (.keep [1,2,6] [2] (.reg [zm 19 1,zq 20 (.bin .add (.tmp 19) (.val (.int .i64 1))),zq 21 (.faddr 1 (.tmp 2)),zl 22 21,zq 23 (.lenL (.tmp 22)),zq 24 (.bin .lss (.tmp 20) (.tmp 23))]))
 (.cond (.tmp 24) (.keep [1,2] [2] (.reg [zq 25 (.faddr 1 (.tmp 2)),zl 26 25,zm 27 1,zq 28 (.bin .add (.tmp 27) (.val (.int .i64 1))),zq 29 (.iaddrL 3 (.tmp 26) (.tmp 28)),zq 30 (.faddr 0 (.tmp 29)),zl 31 30,zm 6 31])) .skip))
 (.seq (.keep [1,2,6] [2] (.reg [zq 32 (.faddr 1 (.tmp 2)),zl 33 32,zm 34 1,zq 35 (.iaddrL 3 (.tmp 33) (.tmp 34)),zq 36 (.faddr 0 (.tmp 35)),zl 37 36,zm 38 6,zm 4 37,zm 5 38]))
 .ret))))) }
def h73:Hints:=⟨[2],[(0,[0,1],[]),(1,[1,2],[2]),(2,[],[]),(3,[1,2],[2])],[]⟩
def a73:AFn:={ n:=26,np:=2,res:=[.tmp 4,.tmp 5],body:=
 (.seq (.keep [0,1] [] (.reg [zq 2 (.box (some 2) (.tmp 0)),zq 4 (.mov (.val (.int .i64 0))),zq 5 (.mov (.val (.int .i64 0)))]))
 (.seq (.seq (.keep [1,2] [2] (.reg [zq 6 (.load (some 8) (.tmp 2)),zq 7 (.call 54 [(.tmp 6)]),zq 8 (.bin .neq (.tmp 7) (.val (.int .i64 0))),zm 9 8,⟨(some 10),.mov (.tmp 1),(some (9,false))⟩,⟨(some 11),.bin .lss (.tmp 10) (.val (.int .i64 0)),(some (9,false))⟩,zq 12 (.pick (.tmp 9) (.val (.bool true)) (.tmp 11)),zm 13 12,⟨(some 14),.mov (.tmp 1),(some (13,false))⟩,⟨(some 15),.faddr 1 (.tmp 2),(some (13,false))⟩,⟨(some 16),.load none (.tmp 15),(some (13,false))⟩,⟨(some 17),.lenL (.tmp 16),(some (13,false))⟩,⟨(some 18),.bin .geq (.tmp 14) (.tmp 17),(some (13,false))⟩,zq 19 (.pick (.tmp 13) (.val (.bool true)) (.tmp 18))]))
 (.cond (.tmp 19) (.seq (.keep [] [] (.reg [zq 4 (.mov (.val (.int .i64 0))),zq 5 (.mov (.val (.int .i64 0)))]))
 .ret) .skip))
 (.seq (.keep [1,2] [2] (.reg [zq 20 (.load (some 8) (.tmp 2)),zq 21 (.build [.nils,.nils,.nils,(.int .i64 0),.nils,.nils,(.int .i64 0),.nils] [(0,8,(.tmp 20))]),zm 22 1,zq 23 (.call 109 [(.tmp 21),(.tmp 22)]),zq 24 (.ext (.tmp 23) 0),zq 25 (.ext (.tmp 23) 1),zm 4 24,zm 5 25]))
 .ret))) }
def h75:Hints:=⟨[1],[(0,[0],[]),(1,[1],[1]),(2,[1,3],[1]),(4,[1,3],[1]),(5,[],[]),(3,[1,3],[1]),(6,[1],[1])],[]⟩
def a75_B1:AC:=(.seq (.seq (.keep [1,3] [1] (.reg [zm 4 3,zq 5 (.faddr 7 (.tmp 1)),zl 6 5,zq 7 (.lenL (.tmp 6)),zq 8 (.bin .lss (.tmp 4) (.tmp 7))]))
 (.cond (.tmp 8) .skip (.exit 0)))
 (.seq (.block 1 (.seq (.keep [1,3] [1] (.reg [zq 11 (.faddr 7 (.tmp 1)),zl 12 11,zm 13 3,zq 14 (.iaddrL 1 (.tmp 12) (.tmp 13)),zl 15 14,zq 16 (.lenL (.tmp 15)),zq 17 (.bin .gtr (.tmp 16) (.val (.int .i64 4096)))]))
 (.cond (.tmp 17) (.seq (.keep [] [] (.reg [zq 2 (.mov (.val (.bool true)))]))
 .ret) .skip)))
 (.keep [1,3] [1] (.reg [zm 9 3,zq 10 (.bin .add (.tmp 9) (.val (.int .i64 1))),zm 3 10]))))
def a75_L1:AC:=.loop a75_B1
theorem a75_L1_step (call:Caller) (again:AC→St→Option (Ex×St)) (s:St):codeEv call again a75_L1 s=match codeEv call again a75_B1 s with | some (.norm,s1)=>again a75_L1 s1 | r=>r:=rfl
def a75:AFn:={ n:=52,np:=1,res:=[.tmp 2],body:=
 (.seq (.keep [0] [] (.reg [zq 1 (.box (some 1) (.tmp 0)),zq 2 (.mov (.val (.bool false)))]))
 (.seq (.seq (.keep [1] [1] (.reg [zq 3 (.mov (.val (.int .i64 0)))]))
 (.block 0 a75_L1))
 (.seq (.keep [1] [1] (.reg [zq 18 (.faddr 0 (.tmp 1)),zl 19 18,zq 20 (.lenL (.tmp 19)),zq 21 (.bin .gtr (.tmp 20) (.val (.int .i64 16384))),zm 22 21,⟨(some 23),.faddr 1 (.tmp 1),(some (22,false))⟩,⟨(some 24),.load none (.tmp 23),(some (22,false))⟩,⟨(some 25),.lenL (.tmp 24),(some (22,false))⟩,⟨(some 26),.bin .gtr (.tmp 25) (.val (.int .i64 64)),(some (22,false))⟩,zq 27 (.pick (.tmp 22) (.val (.bool true)) (.tmp 26)),zm 28 27,⟨(some 29),.faddr 2 (.tmp 1),(some (28,false))⟩,⟨(some 30),.load none (.tmp 29),(some (28,false))⟩,⟨(some 31),.lenL (.tmp 30),(some (28,false))⟩,⟨(some 32),.bin .gtr (.tmp 31) (.val (.int .i64 32)),(some (28,false))⟩,zq 33 (.pick (.tmp 28) (.val (.bool true)) (.tmp 32)),zm 34 33,⟨(some 35),.faddr 4 (.tmp 1),(some (34,false))⟩,⟨(some 36),.load none (.tmp 35),(some (34,false))⟩,⟨(some 37),.lenL (.tmp 36),(some (34,false))⟩,⟨(some 38),.bin .gtr (.tmp 37) (.val (.int .i64 4096)),(some (34,false))⟩,zq 39 (.pick (.tmp 34) (.val (.bool true)) (.tmp 38)),zm 40 39,⟨(some 41),.faddr 5 (.tmp 1),(some (40,false))⟩,⟨(some 42),.load none (.tmp 41),(some (40,false))⟩,⟨(some 43),.lenL (.tmp 42),(some (40,false))⟩,⟨(some 44),.bin .gtr (.tmp 43) (.val (.int .i64 32)),(some (40,false))⟩,zq 45 (.pick (.tmp 40) (.val (.bool true)) (.tmp 44)),zm 46 45,⟨(some 47),.faddr 7 (.tmp 1),(some (46,false))⟩,⟨(some 48),.load none (.tmp 47),(some (46,false))⟩,⟨(some 49),.lenL (.tmp 48),(some (46,false))⟩,⟨(some 50),.bin .gtr (.tmp 49) (.val (.int .i64 64)),(some (46,false))⟩,zq 51 (.pick (.tmp 46) (.val (.bool true)) (.tmp 50)),zm 2 51]))
 .ret))) }
def h76:Hints:=⟨[1],[(0,[0],[]),(1,[1],[1]),(2,[],[]),(3,[1],[1]),(4,[1,3],[1]),(6,[1,3],[1]),(7,[],[]),(5,[1,3],[1]),(8,[1],[1]),(9,[1,4],[1]),(11,[1,4],[1]),(12,[1,4,5],[1]),(14,[1,4,5],[1]),(15,[],[]),(13,[1,4,5],[1]),(10,[1,4],[1]),(16,[1],[1]),(17,[1,6],[1]),(19,[1,6],[1]),(20,[],[]),(18,[1,6],[1]),(21,[],[])],[]⟩
def a76_R1:AC:=.keep [1] [1] (.reg [zq 7 (.faddr 1 (.tmp 1)),zl 8 7,zq 9 (.lenL (.tmp 8)),zq 10 (.bin .eql (.tmp 9) (.val (.int .i64 0))),zm 11 10,⟨(some 12),.faddr 6 (.tmp 1),(some (11,false))⟩,⟨(some 13),.load none (.tmp 12),(some (11,false))⟩,⟨(some 14),.bin .lss (.tmp 13) (.val (.int .i64 1)),(some (11,false))⟩,zq 15 (.pick (.tmp 11) (.val (.bool true)) (.tmp 14)),zm 16 15,⟨(some 17),.faddr 6 (.tmp 1),(some (16,false))⟩,⟨(some 18),.load none (.tmp 17),(some (16,false))⟩,⟨(some 19),.bin .gtr (.tmp 18) (.val (.int .i64 65536)),(some (16,false))⟩,zq 20 (.pick (.tmp 16) (.val (.bool true)) (.tmp 19)),zm 21 20,⟨(some 22),.faddr 1 (.tmp 1),(some (21,false))⟩,⟨(some 23),.load none (.tmp 22),(some (21,false))⟩,⟨(some 24),.iaddrL 3 (.tmp 23) (.val (.int .i64 0)),(some (21,false))⟩,⟨(some 25),.faddr 0 (.tmp 24),(some (21,false))⟩,⟨(some 26),.load none (.tmp 25),(some (21,false))⟩,⟨(some 27),.bin .neq (.tmp 26) (.val (.int .i64 0)),(some (21,false))⟩,zq 28 (.pick (.tmp 21) (.val (.bool true)) (.tmp 27)),zm 29 28,⟨(some 30),.load (some 8) (.tmp 1),(some (29,false))⟩,⟨(some 31),.faddr 3 (.tmp 1),(some (29,false))⟩,⟨(some 32),.load none (.tmp 31),(some (29,false))⟩,⟨(some 33),.call 110 [(.tmp 30),(.tmp 32)],(some (29,false))⟩,⟨(some 34),.un .not (.tmp 33),(some (29,false))⟩,zq 35 (.pick (.tmp 29) (.val (.bool true)) (.tmp 34)),zm 36 35,⟨(some 37),.faddr 2 (.tmp 1),(some (36,false))⟩,⟨(some 38),.load none (.tmp 37),(some (36,false))⟩,⟨(some 39),.call 93 [(.tmp 38)],(some (36,false))⟩,⟨(some 40),.bin .neq (.tmp 39) (.val (.int .i64 0)),(some (36,false))⟩,zq 41 (.pick (.tmp 36) (.val (.bool true)) (.tmp 40))])
def a76_R2:AC:=.keep [1,3] [1] (.dreg [zp 49 (.load (some 8) (.tmp 1)),zp 50 (.faddr 2 (.tmp 1)),zk 51 50,zn 52 3,zp 53 (.iaddrL 3 (.tmp 51) (.tmp 52)),zp 54 (.faddr 2 (.tmp 53)),zk 55 54,zp 56 (.call 110 [(.tmp 49),(.tmp 55)]),zp 57 (.un .not (.tmp 56)),zn 58 57,(false,⟨(some 59),.faddr 2 (.tmp 1),(some (58,false))⟩,false),(false,⟨(some 60),.load none (.tmp 59),(some (58,false))⟩,false),(false,⟨(some 61),.mov (.tmp 3),(some (58,false))⟩,false),(false,⟨(some 62),.iaddrL 3 (.tmp 60) (.tmp 61),(some (58,false))⟩,false),(false,⟨(some 63),.faddr 2 (.tmp 62),(some (58,false))⟩,false),(false,⟨(some 64),.load none (.tmp 63),(some (58,false))⟩,false),(false,⟨(some 65),.faddr 3 (.tmp 1),(some (58,false))⟩,false),(false,⟨(some 66),.load none (.tmp 65),(some (58,false))⟩,false),(false,⟨(some 67),.bin .eql (.tmp 64) (.tmp 66),(some (58,false))⟩,false),zp 68 (.pick (.tmp 58) (.val (.bool true)) (.tmp 67))])
def a76_R3:AC:=.keep [1,4,5] [1] (.reg [zm 76 5,zq 77 (.faddr 7 (.tmp 1)),zl 78 77,zm 79 4,zq 80 (.iaddrL 1 (.tmp 78) (.tmp 79)),zl 81 80,zq 82 (.lenL (.tmp 81)),zq 83 (.bin .lss (.tmp 76) (.tmp 82))])
def a76_R4:AC:=.keep [1,4,5] [1] (.dreg [zp 86 (.faddr 7 (.tmp 1)),zk 87 86,zn 88 4,zp 89 (.iaddrL 1 (.tmp 87) (.tmp 88)),zk 90 89,zn 91 5,zp 92 (.iaddrL 1 (.tmp 90) (.tmp 91)),zk 93 92,zp 94 (.bin .lss (.tmp 93) (.val (.int .i64 0))),zn 95 94,(false,⟨(some 96),.faddr 7 (.tmp 1),(some (95,false))⟩,false),(false,⟨(some 97),.load none (.tmp 96),(some (95,false))⟩,false),(false,⟨(some 98),.mov (.tmp 4),(some (95,false))⟩,false),(false,⟨(some 99),.iaddrL 1 (.tmp 97) (.tmp 98),(some (95,false))⟩,false),(false,⟨(some 100),.load none (.tmp 99),(some (95,false))⟩,false),(false,⟨(some 101),.mov (.tmp 5),(some (95,false))⟩,false),(false,⟨(some 102),.iaddrL 1 (.tmp 100) (.tmp 101),(some (95,false))⟩,false),(false,⟨(some 103),.load none (.tmp 102),(some (95,false))⟩,false),(false,⟨(some 104),.faddr 4 (.tmp 1),(some (95,false))⟩,false),(false,⟨(some 105),.load none (.tmp 104),(some (95,false))⟩,false),(false,⟨(some 106),.lenL (.tmp 105),(some (95,false))⟩,false),(false,⟨(some 107),.bin .geq (.tmp 103) (.tmp 106),(some (95,false))⟩,false),zp 108 (.pick (.tmp 95) (.val (.bool true)) (.tmp 107)),zn 109 108,(false,⟨(some 110),.mov (.tmp 5),(some (109,false))⟩,false),(false,⟨(some 111),.bin .gtr (.tmp 110) (.val (.int .i64 0)),(some (109,false))⟩,false),(false,⟨(some 112),.mov (.tmp 111),(some (109,false))⟩,false),(false,⟨(some 113),.faddr 7 (.tmp 1),(some (112,true))⟩,false),(false,⟨(some 114),.load none (.tmp 113),(some (112,true))⟩,false),(false,⟨(some 115),.mov (.tmp 4),(some (112,true))⟩,false),(false,⟨(some 116),.iaddrL 1 (.tmp 114) (.tmp 115),(some (112,true))⟩,false),(false,⟨(some 117),.load none (.tmp 116),(some (112,true))⟩,false),(false,⟨(some 118),.mov (.tmp 5),(some (112,true))⟩,false),(false,⟨(some 119),.bin .sub (.tmp 118) (.val (.int .i64 1)),(some (112,true))⟩,false),(false,⟨(some 120),.iaddrL 1 (.tmp 117) (.tmp 119),(some (112,true))⟩,false),(false,⟨(some 121),.load none (.tmp 120),(some (112,true))⟩,false),(false,⟨(some 122),.faddr 7 (.tmp 1),(some (112,true))⟩,false),(false,⟨(some 123),.load none (.tmp 122),(some (112,true))⟩,false),(false,⟨(some 124),.mov (.tmp 4),(some (112,true))⟩,false),(false,⟨(some 125),.iaddrL 1 (.tmp 123) (.tmp 124),(some (112,true))⟩,false),(false,⟨(some 126),.load none (.tmp 125),(some (112,true))⟩,false),(false,⟨(some 127),.mov (.tmp 5),(some (112,true))⟩,false),(false,⟨(some 128),.iaddrL 1 (.tmp 126) (.tmp 127),(some (112,true))⟩,false),(false,⟨(some 129),.load none (.tmp 128),(some (112,true))⟩,false),(false,⟨(some 130),.bin .geq (.tmp 121) (.tmp 129),(some (112,true))⟩,false),(false,⟨(some 131),.pick (.tmp 112) (.tmp 130) (.val (.bool false)),(some (109,false))⟩,false),zp 132 (.pick (.tmp 109) (.val (.bool true)) (.tmp 131))])
def a76_B1:AC:=(.seq (.seq (.keep [1,6] [1] (.reg [zm 133 6,zq 134 (.faddr 1 (.tmp 1)),zl 135 134,zq 136 (.lenL (.tmp 135)),zq 137 (.bin .lss (.tmp 133) (.tmp 136))]))
 (.cond (.tmp 137) .skip (.exit 6)))
 (.seq (.block 7 (.seq (.keep [1,6] [1] (.reg [zq 140 (.load (some 8) (.tmp 1)),zm 141 6,zq 142 (.call 111 [(.tmp 140),(.tmp 141)]),zq 143 (.un .not (.tmp 142))]))
 (.cond (.tmp 143) (.seq (.keep [] [] (.reg [zq 2 (.mov (.val (.bool false)))]))
 .ret) .skip)))
 (.keep [1,6] [1] (.reg [zm 138 6,zq 139 (.bin .add (.tmp 138) (.val (.int .i64 1))),zm 6 139]))))
def a76_L1:AC:=.loop a76_B1
theorem a76_L1_step (call:Caller) (again:AC→St→Option (Ex×St)) (s:St):codeEv call again a76_L1 s=match codeEv call again a76_B1 s with | some (.norm,s1)=>again a76_L1 s1 | r=>r:=rfl
def a76_B2:AC:=(.seq (.seq a76_R3
 (.cond (.tmp 83) .skip (.exit 4)))
 (.seq (.block 5 (.seq a76_R4
 (.cond (.tmp 132) (.seq (.keep [] [] (.reg [zq 2 (.mov (.val (.bool false)))]))
 .ret) .skip)))
 (.keep [1,4,5] [1] (.reg [zm 84 5,zq 85 (.bin .add (.tmp 84) (.val (.int .i64 1))),zm 5 85]))))
def a76_L2:AC:=.loop a76_B2
theorem a76_L2_step (call:Caller) (again:AC→St→Option (Ex×St)) (s:St):codeEv call again a76_L2 s=match codeEv call again a76_B2 s with | some (.norm,s1)=>again a76_L2 s1 | r=>r:=rfl
def a76_B3:AC:=(.seq (.seq (.keep [1,4] [1] (.reg [zm 69 4,zq 70 (.faddr 7 (.tmp 1)),zl 71 70,zq 72 (.lenL (.tmp 71)),zq 73 (.bin .lss (.tmp 69) (.tmp 72))]))
 (.cond (.tmp 73) .skip (.exit 2)))
 (.seq (.block 3 (.seq (.keep [1,4] [1] (.reg [zq 5 (.mov (.val (.int .i64 0)))]))
 (.block 4 a76_L2)))
 (.keep [1,4] [1] (.reg [zm 74 4,zq 75 (.bin .add (.tmp 74) (.val (.int .i64 1))),zm 4 75]))))
def a76_L3:AC:=.loop a76_B3
theorem a76_L3_step (call:Caller) (again:AC→St→Option (Ex×St)) (s:St):codeEv call again a76_L3 s=match codeEv call again a76_B3 s with | some (.norm,s1)=>again a76_L3 s1 | r=>r:=rfl
def a76_B4:AC:=(.seq (.seq (.keep [1,3] [1] (.reg [zm 42 3,zq 43 (.faddr 2 (.tmp 1)),zl 44 43,zq 45 (.lenL (.tmp 44)),zq 46 (.bin .lss (.tmp 42) (.tmp 45))]))
 (.cond (.tmp 46) .skip (.exit 0)))
 (.seq (.block 1 (.seq a76_R2
 (.cond (.tmp 68) (.seq (.keep [] [] (.reg [zq 2 (.mov (.val (.bool false)))]))
 .ret) .skip)))
 (.keep [1,3] [1] (.reg [zm 47 3,zq 48 (.bin .add (.tmp 47) (.val (.int .i64 1))),zm 3 48]))))
def a76_L4:AC:=.loop a76_B4
theorem a76_L4_step (call:Caller) (again:AC→St→Option (Ex×St)) (s:St):codeEv call again a76_L4 s=match codeEv call again a76_B4 s with | some (.norm,s1)=>again a76_L4 s1 | r=>r:=rfl
def a76:AFn:={ n:=144,np:=1,res:=[.tmp 2],body:=
 (.seq (.keep [0] [] (.reg [zq 1 (.box (some 1) (.tmp 0)),zq 2 (.mov (.val (.bool false)))]))
 (.seq (.seq a76_R1
 (.cond (.tmp 41) (.seq (.keep [] [] (.reg [zq 2 (.mov (.val (.bool false)))]))
 .ret) .skip))
 (.seq (.seq (.keep [1] [1] (.reg [zq 3 (.mov (.val (.int .i64 0)))]))
 (.block 0 a76_L4))
 (.seq (.seq (.keep [1] [1] (.reg [zq 4 (.mov (.val (.int .i64 0)))]))
 (.block 2 a76_L3))
 (.seq (.seq (.keep [1] [1] (.reg [zq 6 (.mov (.val (.int .i64 0)))]))
 (.block 6 a76_L1))
 (.seq (.keep [] [] (.reg [zq 2 (.mov (.val (.bool true)))]))
 .ret)))))) }
def h77:Hints:=⟨[1],[(0,[0],[]),(1,[1],[1]),(2,[1,3],[1]),(3,[1,3,4],[1]),(4,[1,3,4,5],[1]),(6,[1,3,4,5],[1]),(5,[1,3,4,5],[1]),(7,[1,3,4],[1]),(8,[1,3,4,6],[1]),(9,[1,3,4,6],[1]),(10,[1,3,4,6,7],[1]),(11,[1,3,4,6,7,8],[1]),(13,[1,3,4,6,7,8],[1]),(14,[1,3,4,6,7,8,9],[1]),(15,[1,3,4,6,7,8,9,10],[1]),(17,[1,3,4,6,7,8,9,10],[1]),(16,[1,3,4,6,7,8,9,10],[1]),(18,[1,3,4,6,7,8,9],[1]),(19,[1,3,4,6,8],[1]),(12,[1,3,4,6,7,8],[1]),(20,[1,3,4,6,7],[1]),(21,[3],[]),(22,[1,3,4,6,7],[1]),(23,[3],[])],[]⟩
def a77_R1:AC:=.keep [1,3,4,6,7,8,9,10] [1] (.reg [zm 52 9,zm 53 52,⟨(some 54),.mov (.tmp 6),(some (53,true))⟩,⟨(some 55),.mov (.tmp 4),(some (53,true))⟩,⟨(some 56),.mov (.tmp 8),(some (53,true))⟩,⟨(some 57),.iaddrL 1 (.tmp 55) (.tmp 56),(some (53,true))⟩,⟨(some 58),.load none (.tmp 57),(some (53,true))⟩,⟨(some 59),.mov (.tmp 10),(some (53,true))⟩,⟨(some 60),.iaddrL 1 (.tmp 58) (.tmp 59),(some (53,true))⟩,⟨(some 61),.load none (.tmp 60),(some (53,true))⟩,⟨(some 62),.xm (.mlk .int ((.bool false)) false) [(.tmp 54),(.tmp 61)],(some (53,true))⟩,zq 63 (.pick (.tmp 53) (.tmp 62) (.val (.bool false))),zm 9 63])
def a77_R2:AC:=.keep [1,3,4,6,7] [1] (.reg [zm 69 6,zm 70 7,zm 71 3,zm 72 7,zq 73 (.mkslc 1 1 [(.int .i64 0)] [(0,(.tmp 72))]),zq 74 (.app none 1 8 (.tmp 71) (.tmp 73)),zm 3 74,⟨none,.xm (.mup .int) [(.tmp 69),(.tmp 70),(.val (.bool true))],none⟩])
def a77_B1:AC:=(.seq (.seq (.keep [1,3,4,6,7,8,9,10] [1] (.reg [zm 43 10,zm 44 4,zm 45 8,zq 46 (.iaddrL 1 (.tmp 44) (.tmp 45)),zl 47 46,zq 48 (.lenL (.tmp 47)),zq 49 (.bin .lss (.tmp 43) (.tmp 48))]))
 (.cond (.tmp 49) .skip (.exit 6)))
 (.seq (.block 7 a77_R1)
 (.keep [1,3,4,6,7,8,9,10] [1] (.reg [zm 50 10,zq 51 (.bin .add (.tmp 50) (.val (.int .i64 1))),zm 10 51]))))
def a77_L1:AC:=.loop a77_B1
theorem a77_L1_step (call:Caller) (again:AC→St→Option (Ex×St)) (s:St):codeEv call again a77_L1 s=match codeEv call again a77_B1 s with | some (.norm,s1)=>again a77_L1 s1 | r=>r:=rfl
def a77_B2:AC:=(.seq (.seq (.keep [1,3,4,6,7,8] [1] (.reg [zm 35 8,zq 36 (.bin .geq (.tmp 35) (.val (.int .i64 0)))]))
 (.cond (.tmp 36) .skip (.exit 4)))
 (.seq (.block 5 (.seq (.keep [1,3,4,6,7,8] [1] (.reg [zm 39 6,zm 40 8,zq 41 (.xm (.mlk .int ((.bool false)) false) [(.tmp 39),(.tmp 40)]),zq 42 (.un .not (.tmp 41)),zm 9 42]))
 (.seq (.seq (.keep [1,3,4,6,7,8,9] [1] (.reg [zq 10 (.mov (.val (.int .i64 0)))]))
 (.block 6 a77_L1))
 (.seq (.keep [1,3,4,6,7,8,9] [1] (.reg [zm 64 9]))
 (.cond (.tmp 64) (.keep [1,3,4,6,8] [1] (.reg [zm 65 8,zm 7 65])) .skip)))))
 (.keep [1,3,4,6,7,8] [1] (.reg [zm 37 8,zq 38 (.bin .sub (.tmp 37) (.val (.int .i64 1))),zm 8 38]))))
def a77_L2:AC:=.loop a77_B2
theorem a77_L2_step (call:Caller) (again:AC→St→Option (Ex×St)) (s:St):codeEv call again a77_L2 s=match codeEv call again a77_B2 s with | some (.norm,s1)=>again a77_L2 s1 | r=>r:=rfl
def a77_B3:AC:=(.seq (.seq (.keep [1,3,4,6] [1] (.reg [zm 25 3,zq 26 (.lenL (.tmp 25)),zq 27 (.faddr 1 (.tmp 1)),zl 28 27,zq 29 (.lenL (.tmp 28)),zq 30 (.bin .lss (.tmp 26) (.tmp 29))]))
 (.cond (.tmp 30) .skip (.exit 2)))
 (.block 3 (.seq (.keep [1,3,4,6] [1] (.reg [zq 7 (.mov (.val (.int .i64 (-1))))]))
 (.seq (.seq (.keep [1,3,4,6,7] [1] (.reg [zq 31 (.faddr 1 (.tmp 1)),zl 32 31,zq 33 (.lenL (.tmp 32)),zq 34 (.bin .sub (.tmp 33) (.val (.int .i64 1))),zm 8 34]))
 (.block 4 a77_L2))
 (.seq (.seq (.keep [1,3,4,6,7] [1] (.reg [zm 66 7,zq 67 (.bin .lss (.tmp 66) (.val (.int .i64 0)))]))
 (.cond (.tmp 67) (.seq (.keep [3] [] (.reg [zm 68 3,zm 2 68]))
 .ret) .skip))
 a77_R2)))))
def a77_L3:AC:=.loop a77_B3
theorem a77_L3_step (call:Caller) (again:AC→St→Option (Ex×St)) (s:St):codeEv call again a77_L3 s=match codeEv call again a77_B3 s with | some (.norm,s1)=>again a77_L3 s1 | r=>r:=rfl
def a77_B4:AC:=(.seq (.seq (.keep [1,3,4,5] [1] (.reg [zm 11 5,zq 12 (.faddr 1 (.tmp 1)),zl 13 12,zq 14 (.lenL (.tmp 13)),zq 15 (.bin .lss (.tmp 11) (.tmp 14))]))
 (.cond (.tmp 15) .skip (.exit 0)))
 (.seq (.block 1 (.keep [1,3,4,5] [1] (.reg [zm 18 4,zq 19 (.load (some 8) (.tmp 1)),zm 20 5,zq 21 (.call 112 [(.tmp 19),(.tmp 20)]),zq 22 (.mkslc 1 1 [.nils] [(0,(.tmp 21))]),zq 23 (.app none 1 24 (.tmp 18) (.tmp 22)),zm 4 23])))
 (.keep [1,3,4,5] [1] (.reg [zm 16 5,zq 17 (.bin .add (.tmp 16) (.val (.int .i64 1))),zm 5 17]))))
def a77_L4:AC:=.loop a77_B4
theorem a77_L4_step (call:Caller) (again:AC→St→Option (Ex×St)) (s:St):codeEv call again a77_L4 s=match codeEv call again a77_B4 s with | some (.norm,s1)=>again a77_L4 s1 | r=>r:=rfl
def a77:AFn:={ n:=76,np:=1,res:=[.tmp 2],body:=
 (.seq (.keep [0] [] (.reg [zq 1 (.box (some 1) (.tmp 0)),zq 2 (.mov (.val .nils))]))
 (.seq (.keep [1] [1] (.reg [zq 3 (.mov (.val .nils))]))
 (.seq (.keep [1,3] [1] (.reg [zq 4 (.mov (.val .nils))]))
 (.seq (.seq (.keep [1,3,4] [1] (.reg [zq 5 (.mov (.val (.int .i64 0)))]))
 (.block 0 a77_L4))
 (.seq (.keep [1,3,4] [1] (.reg [zq 24 (.xm (.mkmap) []),zm 6 24]))
 (.seq (.block 2 a77_L3)
 (.seq (.keep [3] [] (.reg [zm 75 3,zm 2 75]))
 .ret))))))) }
def h85:Hints:=⟨[],[(0,[0,1,2,3,4],[]),(1,[0,2,3,4],[]),(2,[0,3,4],[]),(3,[0,4,24,25,26],[]),(4,[0,4,24,25,26],[]),(5,[0,4,7,24,25,26],[]),(6,[0,4,24,25,26],[])],[]⟩
def a85_B1:AC:=(.seq (.keep [0,4,24,25,26] [] (.reg [zq 27 (.bin .lss (.tmp 26) (.tmp 25))]))
 (.seq (.cond (.tmp 27) .skip (.exit 0))
 (.seq (.block 1 (.seq (.keep [0,4,24,25,26] [] (.reg [zq 28 (.iaddrL 1 (.tmp 24) (.tmp 26)),zl 29 28,zm 7 29]))
 (.keep [0,4,7,24,25,26] [] (.dreg [(true,zl 30 4,false),zn 31 0,zn 32 0,zp 33 (.lenL (.tmp 32)),zn 34 0,zp 35 (.lenL (.tmp 34)),zp 36 (.slcL 1 (.tmp 31) none (some (.tmp 33)) (some (.tmp 35))),zn 37 7,zp 38 (.mkslc 1 1 [(.int .i64 0)] [(0,(.tmp 37))]),(true,zq 39 (.app none 1 8 (.tmp 36) (.tmp 38)),false),zp 40 (.callv (.tmp 30) [(.tmp 39)])]))))
 (.keep [0,4,24,25,26] [] (.reg [zq 41 (.bin .add (.tmp 26) (.val (.int .i64 1))),zm 26 41])))))
def a85_L1:AC:=.loop a85_B1
theorem a85_L1_step (call:Caller) (again:AC→St→Option (Ex×St)) (s:St):codeEv call again a85_L1 s=match codeEv call again a85_B1 s with | some (.norm,s1)=>again a85_L1 s1 | r=>r:=rfl
def a85:AFn:={ n:=42,np:=5,res:=[],body:=
 (.seq (.keep [0,1,2,3,4] [] (.dreg [(true,zl 8 1,false),zn 9 0,(true,zq 10 (.call 86 [(.tmp 9)]),false),zp 11 (.mkslc 1 1 [.nils] [(0,(.tmp 10))]),zp 12 (.app none 1 24 (.tmp 8) (.tmp 11)),(false,⟨none,.store 1 (.tmp 1) (.tmp 12),none⟩,false)]))
 (.seq (.seq (.keep [0,2,3,4] [] (.reg [zm 13 0,zq 14 (.lenL (.tmp 13)),zl 15 2,zq 16 (.bin .eql (.tmp 14) (.tmp 15))]))
 (.cond (.tmp 16) .ret .skip))
 (.seq (.keep [0,3,4] [] (.dreg [zp 17 (.load (some 8) (.tmp 3)),zn 18 0,zn 19 0,zp 20 (.lenL (.tmp 19)),zp 21 (.bin .sub (.tmp 20) (.val (.int .i64 1))),zp 22 (.iaddrL 1 (.tmp 18) (.tmp 21)),zk 23 22,zp 24 (.call 87 [(.tmp 17),(.tmp 23)]),zp 25 (.lenL (.tmp 24)),zp 26 (.mov (.val (.int .i64 0)))]))
 (.block 0 a85_L1)))) }
def h86:Hints:=⟨[],[(0,[0],[]),(1,[0],[]),(2,[],[]),(3,[0],[])],[]⟩
def a86:AFn:={ n:=8,np:=1,res:=[.tmp 2],body:=
 (.seq (.keep [0] [] (.reg [zq 2 (.mov (.val .nils))]))
 (.seq (.seq (.keep [0] [] (.reg [zm 3 0,zq 4 (.eq false .nilS (.tmp 3) (.val .nils))]))
 (.cond (.tmp 4) (.seq (.keep [] [] (.reg [zq 2 (.mov (.val .nils))]))
 .ret) .skip))
 (.seq (.keep [0] [] (.reg [zq 5 (.mkslc 1 0 [(.int .i64 0)] []),zm 6 0,zq 7 (.app none 1 8 (.tmp 5) (.tmp 6)),zm 2 7]))
 .ret))) }
def h88:Hints:=⟨[],[(0,[0,1],[]),(1,[0,1],[])],[]⟩
def a88:AFn:={ n:=9,np:=2,res:=[.tmp 4],body:=
 (.seq (.keep [0,1] [] (.reg [zq 4 (.mov (.val (.bool false)))]))
 (.seq (.keep [0,1] [] (.reg [zm 5 0,zm 6 1,zq 7 (.call 121 [(.tmp 5),(.tmp 6)]),zq 8 (.bin .geq (.tmp 7) (.val (.int .i64 0))),zm 4 8]))
 .ret)) }
def h89:Hints:=⟨[3],[(0,[0,1,2],[]),(1,[1,2,3],[3]),(2,[1,2,3,7],[3]),(3,[7],[]),(4,[1,2,3,7],[3]),(5,[1,2,3,7,8],[3]),(6,[1,2,3,7,8,9],[3]),(8,[1,2,3,7,8,9],[3]),(7,[1,2,3,7,8,9],[3]),(9,[7],[])],[]⟩
def a89_B1:AC:=(.seq (.seq (.keep [1,2,3,7,8,9] [3] (.reg [zm 27 9,zm 28 8,zq 29 (.lenL (.tmp 28)),zq 30 (.bin .lss (.tmp 27) (.tmp 29))]))
 (.cond (.tmp 30) .skip (.exit 0)))
 (.seq (.block 1 (.keep [1,2,3,7,8,9] [3] (.dreg [zn 33 7,(true,zq 34 (.load (some 8) (.tmp 3)),false),zn 36 1,zn 38 8,zn 39 9,zp 40 (.iaddrL 1 (.tmp 38) (.tmp 39)),(true,zl 41 40,false),zn 44 2,zp 35 (.mkslc 1 0 [(.int .i64 0)] []),(true,zq 37 (.app none 1 8 (.tmp 35) (.tmp 36)),false),zp 42 (.mkslc 1 1 [(.int .i64 0)] [(0,(.tmp 41))]),(true,zq 43 (.app none 1 8 (.tmp 37) (.tmp 42)),false),zp 45 (.call 89 [(.tmp 34),(.tmp 43),(.tmp 44)]),zp 46 (.app none 1 24 (.tmp 33) (.tmp 45)),zn 7 46])))
 (.keep [1,2,3,7,8,9] [3] (.reg [zm 31 9,zq 32 (.bin .add (.tmp 31) (.val (.int .i64 1))),zm 9 32]))))
def a89_L1:AC:=.loop a89_B1
theorem a89_L1_step (call:Caller) (again:AC→St→Option (Ex×St)) (s:St):codeEv call again a89_L1 s=match codeEv call again a89_B1 s with | some (.norm,s1)=>again a89_L1 s1 | r=>r:=rfl
def a89:AFn:={ n:=48,np:=3,res:=[.tmp 6],body:=
 (.seq (.keep [0,1,2] [] (.reg [zq 3 (.box (some 3) (.tmp 0)),zq 6 (.mov (.val .nils))]))
 (.seq (.keep [1,2,3] [3] (.reg [zq 10 (.mkslc 1 0 [(.int .i64 0)] []),zm 11 1,zq 12 (.app none 1 8 (.tmp 10) (.tmp 11)),zq 13 (.mkslc 1 1 [.nils] [(0,(.tmp 12))]),zm 7 13]))
 (.seq (.seq (.keep [1,2,3,7] [3] (.reg [zm 14 1,zq 15 (.lenL (.tmp 14)),zm 16 2,zq 17 (.bin .geq (.tmp 15) (.tmp 16))]))
 (.cond (.tmp 17) (.seq (.keep [7] [] (.reg [zm 18 7,zm 6 18]))
 .ret) .skip))
 (.seq (.keep [1,2,3,7] [3] (.dreg [zp 19 (.load (some 8) (.tmp 3)),zn 20 1,zn 21 1,zp 22 (.lenL (.tmp 21)),zp 23 (.bin .sub (.tmp 22) (.val (.int .i64 1))),zp 24 (.iaddrL 1 (.tmp 20) (.tmp 23)),zk 25 24,zp 26 (.call 64 [(.tmp 19),(.tmp 25)]),zn 8 26]))
 (.seq (.seq (.keep [1,2,3,7,8] [3] (.reg [zq 9 (.mov (.val (.int .i64 0)))]))
 (.block 0 a89_L1))
 (.seq (.keep [7] [] (.reg [zm 47 7,zm 6 47]))
 .ret)))))) }
def h93:Hints:=⟨[],[(0,[0],[]),(1,[0],[]),(2,[],[]),(3,[0],[]),(4,[0,3],[]),(6,[0,3],[]),(7,[],[]),(8,[0,3],[]),(9,[0,3,4],[]),(11,[0,3,4],[]),(12,[],[]),(10,[0,3,4],[]),(5,[0,3],[]),(13,[],[])],[]⟩
def a93_B1:AC:=(.seq (.seq (.keep [0,3,4] [] (.reg [zm 52 4,zm 53 3,zq 54 (.bin .lss (.tmp 52) (.tmp 53))]))
 (.cond (.tmp 54) .skip (.exit 2)))
 (.seq (.block 3 (.seq (.keep [0,3,4] [] (.dreg [zn 57 0,zn 58 4,zp 59 (.iaddrL 3 (.tmp 57) (.tmp 58)),zp 60 (.faddr 0 (.tmp 59)),zk 61 60,zn 62 0,zn 63 3,zp 64 (.iaddrL 3 (.tmp 62) (.tmp 63)),zp 65 (.faddr 0 (.tmp 64)),zk 66 65,zp 67 (.bin .eql (.tmp 61) (.tmp 66))]))
 (.cond (.tmp 67) (.seq (.keep [] [] (.reg [zq 2 (.mov (.val (.int .i64 2)))]))
 .ret) .skip)))
 (.keep [0,3,4] [] (.reg [zm 55 4,zq 56 (.bin .add (.tmp 55) (.val (.int .i64 1))),zm 4 56]))))
def a93_L1:AC:=.loop a93_B1
theorem a93_L1_step (call:Caller) (again:AC→St→Option (Ex×St)) (s:St):codeEv call again a93_L1 s=match codeEv call again a93_B1 s with | some (.norm,s1)=>again a93_L1 s1 | r=>r:=rfl
def a93_B2:AC:=(.seq (.seq (.keep [0,3] [] (.reg [zm 8 3,zm 9 0,zq 10 (.lenL (.tmp 9)),zq 11 (.bin .lss (.tmp 8) (.tmp 10))]))
 (.cond (.tmp 11) .skip (.exit 0)))
 (.seq (.block 1 (.seq (.seq (.keep [0,3] [] (.reg [zm 14 0,zm 15 3,zq 16 (.iaddrL 3 (.tmp 14) (.tmp 15)),zq 17 (.faddr 0 (.tmp 16)),zl 18 17,zq 19 (.bin .lss (.tmp 18) (.val (.int .i64 0))),zm 20 19,⟨(some 21),.mov (.tmp 0),(some (20,false))⟩,⟨(some 22),.mov (.tmp 3),(some (20,false))⟩,⟨(some 23),.iaddrL 3 (.tmp 21) (.tmp 22),(some (20,false))⟩,⟨(some 24),.faddr 0 (.tmp 23),(some (20,false))⟩,⟨(some 25),.load none (.tmp 24),(some (20,false))⟩,⟨(some 26),.bin .gtr (.tmp 25) (.val (.int .i64 31)),(some (20,false))⟩,zq 27 (.pick (.tmp 20) (.val (.bool true)) (.tmp 26)),zm 28 27,⟨(some 29),.mov (.tmp 0),(some (28,false))⟩,⟨(some 30),.mov (.tmp 3),(some (28,false))⟩,⟨(some 31),.iaddrL 3 (.tmp 29) (.tmp 30),(some (28,false))⟩,⟨(some 32),.faddr 1 (.tmp 31),(some (28,false))⟩,⟨(some 33),.load none (.tmp 32),(some (28,false))⟩,⟨(some 34),.bin .lss (.tmp 33) (.val (.int .i64 1)),(some (28,false))⟩,zq 35 (.pick (.tmp 28) (.val (.bool true)) (.tmp 34)),zm 36 35,⟨(some 37),.mov (.tmp 0),(some (36,false))⟩,⟨(some 38),.mov (.tmp 3),(some (36,false))⟩,⟨(some 39),.iaddrL 3 (.tmp 37) (.tmp 38),(some (36,false))⟩,⟨(some 40),.faddr 1 (.tmp 39),(some (36,false))⟩,⟨(some 41),.load none (.tmp 40),(some (36,false))⟩,⟨(some 42),.bin .gtr (.tmp 41) (.val (.int .i64 15)),(some (36,false))⟩,zq 43 (.pick (.tmp 36) (.val (.bool true)) (.tmp 42)),zm 44 43,⟨(some 45),.mov (.tmp 0),(some (44,false))⟩,⟨(some 46),.mov (.tmp 3),(some (44,false))⟩,⟨(some 47),.iaddrL 3 (.tmp 45) (.tmp 46),(some (44,false))⟩,⟨(some 48),.faddr 2 (.tmp 47),(some (44,false))⟩,⟨(some 49),.load none (.tmp 48),(some (44,false))⟩,⟨(some 50),.bin .lss (.tmp 49) (.val (.int .i64 0)),(some (44,false))⟩,zq 51 (.pick (.tmp 44) (.val (.bool true)) (.tmp 50))]))
 (.cond (.tmp 51) (.seq (.keep [] [] (.reg [zq 2 (.mov (.val (.int .i64 2)))]))
 .ret) .skip))
 (.seq (.keep [0,3] [] (.reg [zq 4 (.mov (.val (.int .i64 0)))]))
 (.block 2 a93_L1))))
 (.keep [0,3] [] (.reg [zm 12 3,zq 13 (.bin .add (.tmp 12) (.val (.int .i64 1))),zm 3 13]))))
def a93_L2:AC:=.loop a93_B2
theorem a93_L2_step (call:Caller) (again:AC→St→Option (Ex×St)) (s:St):codeEv call again a93_L2 s=match codeEv call again a93_B2 s with | some (.norm,s1)=>again a93_L2 s1 | r=>r:=rfl
def a93:AFn:={ n:=68,np:=1,res:=[.tmp 2],body:=
 (.seq (.keep [0] [] (.reg [zq 2 (.mov (.val (.int .i64 0)))]))
 (.seq (.seq (.keep [0] [] (.reg [zm 5 0,zq 6 (.lenL (.tmp 5)),zq 7 (.bin .gtr (.tmp 6) (.val (.int .i64 32)))]))
 (.cond (.tmp 7) (.seq (.keep [] [] (.reg [zq 2 (.mov (.val (.int .i64 3)))]))
 .ret) .skip))
 (.seq (.seq (.keep [0] [] (.reg [zq 3 (.mov (.val (.int .i64 0)))]))
 (.block 0 a93_L2))
 (.seq (.keep [] [] (.reg [zq 2 (.mov (.val (.int .i64 0)))]))
 .ret)))) }
def h105:Hints:=⟨[],[(0,[0,1],[]),(1,[0,1],[]),(2,[0,1,4],[]),(3,[0,1,4,5],[]),(5,[0,1,4,5],[]),(6,[0,1,4,5,32],[]),(7,[0,1,4,5],[]),(8,[0,1,4,5,32],[]),(9,[0,1,4,5],[]),(4,[0,1,4,5],[]),(10,[0,1],[]),(11,[0,1],[])],[]⟩
def a105_B1:AC:=(.seq (.seq (.keep [0,1,4,5] [] (.reg [zm 20 5,zq 21 (.bin .geq (.tmp 20) (.val (.int .i64 0)))]))
 (.cond (.tmp 21) .skip (.exit 0)))
 (.seq (.block 1 (.seq (.keep [0,1,4,5] [] (.dreg [zn 24 0,zp 25 (.nilck (.tmp 24)),zp 26 (.faddr 8 (.tmp 25)),zk 27 26,zn 28 4,zn 29 5,zp 30 (.iaddrL 1 (.tmp 28) (.tmp 29)),zk 31 30,zp 32 (.xm (.mlk .int ((.int .i64 0)) false) [(.tmp 27),(.tmp 31)])]))
 (.block 2 (.seq (.keep [0,1,4,5,32] [] (.reg [zq 34 (.bin .eql (.tmp 32) (.val (.int .i64 0))),zm 33 34]))
 (.cond (.tmp 33) (.keep [0,1,4,5] [] (.reg [zm 35 0,zm 36 4,zm 37 5,zq 38 (.iaddrL 1 (.tmp 36) (.tmp 37)),zl 39 38,zq 40 (.call 105 [(.tmp 35),(.tmp 39)])])) (.seq (.keep [0,1,4,5,32] [] (.reg [zq 42 (.bin .eql (.tmp 32) (.val (.int .i64 1))),zm 41 42]))
 (.cond (.tmp 41) (.keep [0,1,4,5] [] (.dreg [zn 43 0,zn 44 0,zp 45 (.nilck (.tmp 44)),zp 46 (.faddr 10 (.tmp 45)),zk 47 46,zn 48 1,zn 49 4,zn 50 5,zp 51 (.iaddrL 1 (.tmp 49) (.tmp 50)),zk 52 51,zp 53 (.build [(.int .i64 0),(.int .i64 0)] [(0,1,(.tmp 48)),(1,1,(.tmp 52))]),zp 54 (.mkslc 2 1 [(.int .i64 0),(.int .i64 0)] [(0,(.tmp 53))]),zp 55 (.app none 2 16 (.tmp 47) (.tmp 54)),zp 56 (.nilck (.tmp 43)),zp 57 (.faddr 10 (.tmp 56)),(false,⟨none,.store 1 (.tmp 57) (.tmp 55),none⟩,false)])) .skip)))))))
 (.keep [0,1,4,5] [] (.reg [zm 22 5,zq 23 (.bin .sub (.tmp 22) (.val (.int .i64 1))),zm 5 23]))))
def a105_L1:AC:=.loop a105_B1
theorem a105_L1_step (call:Caller) (again:AC→St→Option (Ex×St)) (s:St):codeEv call again a105_L1 s=match codeEv call again a105_B1 s with | some (.norm,s1)=>again a105_L1 s1 | r=>r:=rfl
def a105:AFn:={ n:=73,np:=2,res:=[],body:=
 (.seq (.keep [0,1] [] (.reg [zm 6 0,zq 7 (.nilck (.tmp 6)),zq 8 (.faddr 8 (.tmp 7)),zl 9 8,zm 10 1,⟨none,.xm (.mup .int) [(.tmp 9),(.tmp 10),(.val (.int .i64 1))],none⟩]))
 (.seq (.keep [0,1] [] (.reg [zm 11 0,zq 12 (.nilck (.tmp 11)),zq 13 (.faddr 0 (.tmp 12)),zq 14 (.load (some 8) (.tmp 13)),zm 15 1,zq 16 (.call 64 [(.tmp 14),(.tmp 15)]),zm 4 16]))
 (.seq (.seq (.keep [0,1,4] [] (.reg [zm 17 4,zq 18 (.lenL (.tmp 17)),zq 19 (.bin .sub (.tmp 18) (.val (.int .i64 1))),zm 5 19]))
 (.block 0 a105_L1))
 (.seq (.keep [0,1] [] (.reg [zm 58 0,zq 59 (.nilck (.tmp 58)),zq 60 (.faddr 8 (.tmp 59)),zl 61 60,zm 62 1,⟨none,.xm (.mup .int) [(.tmp 61),(.tmp 62),(.val (.int .i64 2))],none⟩]))
 (.keep [0,1] [] (.reg [zm 63 0,zm 64 0,zq 65 (.nilck (.tmp 64)),zq 66 (.faddr 9 (.tmp 65)),zl 67 66,zm 68 1,zq 69 (.mkslc 1 1 [(.int .i64 0)] [(0,(.tmp 68))]),zq 70 (.app none 1 8 (.tmp 67) (.tmp 69)),zq 71 (.nilck (.tmp 63)),zq 72 (.faddr 9 (.tmp 71)),⟨none,.store 1 (.tmp 72) (.tmp 70),none⟩])))))) }
def h106:Hints:=⟨[2],[(0,[0],[]),(1,[0,2],[2]),(2,[2,3],[2]),(3,[2],[2]),(4,[2,3],[2]),(5,[2,3],[2]),(6,[2,3],[2]),(7,[2,3],[2]),(8,[2,3],[2]),(9,[2,3],[2]),(10,[2,3],[2]),(11,[2,3],[2]),(12,[2,3],[2]),(13,[2],[2]),(14,[2,3],[2]),(15,[2,3],[2]),(16,[2],[2]),(17,[2,3],[2]),(18,[2],[2]),(19,[2,3],[2]),(20,[2],[2]),(21,[2,3],[2]),(22,[2],[2]),(23,[2,3],[2]),(24,[2],[2]),(25,[2,3],[2]),(26,[2],[2]),(27,[2,3],[2]),(28,[2,3],[2]),(29,[2],[2]),(30,[2,3],[2]),(31,[2],[2]),(32,[2],[2])],[]⟩
def a106:AFn:={ n:=45,np:=1,res:=[.cell 2 (some 3)],body:=
 (.seq (.keep [0] [] (.reg [zq 2 (.alloc (some 2) [(.int .i64 0),(.int .i64 0),(.int .i64 0)])]))
 (.seq (.seq (.keep [0,2] [2] (.reg [zm 3 0]))
 (.block 0 (.seq (.keep [2,3] [2] (.reg [zq 5 (.bin .eql (.tmp 3) (.val (.int .i64 2))),zm 4 5]))
 (.cond (.tmp 4) (.seq (.keep [2] [2] (.reg [zq 6 (.build [(.int .i64 0),(.int .i64 0),(.int .i64 0)] [(0,1,(.val (.int .i64 1)))]),⟨none,.store 3 (.tmp 2) (.tmp 6),none⟩]))
 .ret) (.seq (.seq (.keep [2,3] [2] (.reg [zq 8 (.bin .eql (.tmp 3) (.val (.int .i64 4))),zm 7 8]))
 (.cond (.tmp 7) .skip (.seq (.keep [2,3] [2] (.reg [zq 9 (.bin .eql (.tmp 3) (.val (.int .i64 8))),zm 7 9]))
 (.cond (.tmp 7) .skip (.seq (.keep [2,3] [2] (.reg [zq 10 (.bin .eql (.tmp 3) (.val (.int .i64 10))),zm 7 10]))
 (.cond (.tmp 7) .skip (.seq (.keep [2,3] [2] (.reg [zq 11 (.bin .eql (.tmp 3) (.val (.int .i64 11))),zm 7 11]))
 (.cond (.tmp 7) .skip (.seq (.keep [2,3] [2] (.reg [zq 12 (.bin .eql (.tmp 3) (.val (.int .i64 15))),zm 7 12]))
 (.cond (.tmp 7) .skip (.seq (.keep [2,3] [2] (.reg [zq 13 (.bin .eql (.tmp 3) (.val (.int .i64 16))),zm 7 13]))
 (.cond (.tmp 7) .skip (.seq (.keep [2,3] [2] (.reg [zq 14 (.bin .eql (.tmp 3) (.val (.int .i64 17))),zm 7 14]))
 (.cond (.tmp 7) .skip (.seq (.keep [2,3] [2] (.reg [zq 15 (.bin .eql (.tmp 3) (.val (.int .i64 23))),zm 7 15]))
 (.cond (.tmp 7) .skip (.keep [2,3] [2] (.reg [zq 16 (.bin .eql (.tmp 3) (.val (.int .i64 24))),zm 7 16]))))))))))))))))))
 (.cond (.tmp 7) (.seq (.keep [2] [2] (.reg [zq 17 (.build [(.int .i64 0),(.int .i64 0),(.int .i64 0)] [(0,1,(.val (.int .i64 2)))]),⟨none,.store 3 (.tmp 2) (.tmp 17),none⟩]))
 .ret) (.seq (.seq (.keep [2,3] [2] (.reg [zq 19 (.bin .eql (.tmp 3) (.val (.int .i64 5))),zm 18 19]))
 (.cond (.tmp 18) .skip (.keep [2,3] [2] (.reg [zq 20 (.bin .eql (.tmp 3) (.val (.int .i64 9))),zm 18 20]))))
 (.cond (.tmp 18) (.seq (.keep [2] [2] (.reg [zq 21 (.build [(.int .i64 0),(.int .i64 0),(.int .i64 0)] [(0,1,(.val (.int .i64 2))),(1,1,(.val (.int .i64 4)))]),⟨none,.store 3 (.tmp 2) (.tmp 21),none⟩]))
 .ret) (.seq (.keep [2,3] [2] (.reg [zq 23 (.bin .eql (.tmp 3) (.val (.int .i64 6))),zm 22 23]))
 (.cond (.tmp 22) (.seq (.keep [2] [2] (.reg [zq 24 (.build [(.int .i64 0),(.int .i64 0),(.int .i64 0)] [(0,1,(.val (.int .i64 2))),(1,1,(.val (.int .i64 3)))]),⟨none,.store 3 (.tmp 2) (.tmp 24),none⟩]))
 .ret) (.seq (.keep [2,3] [2] (.reg [zq 26 (.bin .eql (.tmp 3) (.val (.int .i64 7))),zm 25 26]))
 (.cond (.tmp 25) (.seq (.keep [2] [2] (.reg [zq 27 (.build [(.int .i64 0),(.int .i64 0),(.int .i64 0)] [(0,1,(.val (.int .i64 2))),(1,1,(.val (.int .i64 3))),(2,1,(.val (.int .i64 4)))]),⟨none,.store 3 (.tmp 2) (.tmp 27),none⟩]))
 .ret) (.seq (.keep [2,3] [2] (.reg [zq 29 (.bin .eql (.tmp 3) (.val (.int .i64 12))),zm 28 29]))
 (.cond (.tmp 28) (.seq (.keep [2] [2] (.reg [zq 30 (.build [(.int .i64 0),(.int .i64 0),(.int .i64 0)] [(0,1,(.val (.int .i64 5)))]),⟨none,.store 3 (.tmp 2) (.tmp 30),none⟩]))
 .ret) (.seq (.keep [2,3] [2] (.reg [zq 32 (.bin .eql (.tmp 3) (.val (.int .i64 13))),zm 31 32]))
 (.cond (.tmp 31) (.seq (.keep [2] [2] (.reg [zq 33 (.build [(.int .i64 0),(.int .i64 0),(.int .i64 0)] [(0,1,(.val (.int .i64 6)))]),⟨none,.store 3 (.tmp 2) (.tmp 33),none⟩]))
 .ret) (.seq (.keep [2,3] [2] (.reg [zq 35 (.bin .eql (.tmp 3) (.val (.int .i64 14))),zm 34 35]))
 (.cond (.tmp 34) (.seq (.keep [2] [2] (.reg [zq 36 (.build [(.int .i64 0),(.int .i64 0),(.int .i64 0)] [(0,1,(.val (.int .i64 4)))]),⟨none,.store 3 (.tmp 2) (.tmp 36),none⟩]))
 .ret) (.seq (.seq (.keep [2,3] [2] (.reg [zq 38 (.bin .eql (.tmp 3) (.val (.int .i64 19))),zm 37 38]))
 (.cond (.tmp 37) .skip (.keep [2,3] [2] (.reg [zq 39 (.bin .eql (.tmp 3) (.val (.int .i64 20))),zm 37 39]))))
 (.cond (.tmp 37) (.seq (.keep [2] [2] (.reg [zq 40 (.build [(.int .i64 0),(.int .i64 0),(.int .i64 0)] [(0,1,(.val (.int .i64 7)))]),⟨none,.store 3 (.tmp 2) (.tmp 40),none⟩]))
 .ret) (.seq (.keep [2,3] [2] (.reg [zq 42 (.bin .eql (.tmp 3) (.val (.int .i64 21))),zm 41 42]))
 (.cond (.tmp 41) (.seq (.keep [2] [2] (.reg [zq 43 (.build [(.int .i64 0),(.int .i64 0),(.int .i64 0)] [(0,1,(.val (.int .i64 8)))]),⟨none,.store 3 (.tmp 2) (.tmp 43),none⟩]))
 .ret) .skip))))))))))))))))))))))
 (.seq (.keep [2] [2] (.reg [zq 44 (.build [(.int .i64 0),(.int .i64 0),(.int .i64 0)] []),⟨none,.store 3 (.tmp 2) (.tmp 44),none⟩]))
 .ret))) }
def h107:Hints:=⟨[],[(0,[0,1],[]),(1,[0,1],[]),(2,[1,5],[]),(3,[1],[]),(4,[1,5],[]),(5,[1],[]),(6,[1,5],[]),(7,[1],[]),(8,[1,5],[]),(9,[1],[]),(10,[1,5],[]),(11,[1],[]),(12,[1,5],[]),(13,[1],[]),(14,[1,5],[]),(15,[1],[]),(16,[1,5],[]),(17,[1],[]),(18,[1],[])],[]⟩
def a107:AFn:={ n:=70,np:=2,res:=[.tmp 4],body:=
 (.seq (.keep [0,1] [] (.reg [zq 4 (.mov (.val (.bool false)))]))
 (.seq (.seq (.keep [0,1] [] (.reg [zm 5 0]))
 (.block 0 (.seq (.keep [1,5] [] (.reg [zq 7 (.bin .eql (.tmp 5) (.val (.int .i64 1))),zm 6 7]))
 (.cond (.tmp 6) (.seq (.keep [1] [] (.reg [zm 8 1,zq 9 (.bin .geq (.tmp 8) (.val (.int .i64 0))),zm 10 9,⟨(some 11),.mov (.tmp 1),(some (10,true))⟩,⟨(some 12),.bin .lss (.tmp 11) (.val (.int .i64 4294967296)),(some (10,true))⟩,zq 13 (.pick (.tmp 10) (.tmp 12) (.val (.bool false))),zm 4 13]))
 .ret) (.seq (.keep [1,5] [] (.reg [zq 15 (.bin .eql (.tmp 5) (.val (.int .i64 2))),zm 14 15]))
 (.cond (.tmp 14) (.seq (.keep [1] [] (.reg [zm 16 1,zq 17 (.bin .geq (.tmp 16) (.val (.int .i64 0))),zm 18 17,⟨(some 19),.mov (.tmp 1),(some (18,true))⟩,⟨(some 20),.bin .leq (.tmp 19) (.val (.int .i64 1048576)),(some (18,true))⟩,zq 21 (.pick (.tmp 18) (.tmp 20) (.val (.bool false))),zm 4 21]))
 .ret) (.seq (.keep [1,5] [] (.reg [zq 23 (.bin .eql (.tmp 5) (.val (.int .i64 3))),zm 22 23]))
 (.cond (.tmp 22) (.seq (.keep [1] [] (.reg [zm 24 1,zq 25 (.bin .geq (.tmp 24) (.val (.int .i64 1))),zm 26 25,⟨(some 27),.mov (.tmp 1),(some (26,true))⟩,⟨(some 28),.bin .leq (.tmp 27) (.val (.int .i64 1048576)),(some (26,true))⟩,zq 29 (.pick (.tmp 26) (.tmp 28) (.val (.bool false))),zm 4 29]))
 .ret) (.seq (.keep [1,5] [] (.reg [zq 31 (.bin .eql (.tmp 5) (.val (.int .i64 4))),zm 30 31]))
 (.cond (.tmp 30) (.seq (.keep [1] [] (.reg [zm 32 1,zq 33 (.bin .eql (.tmp 32) (.val (.int .i64 8))),zm 34 33,⟨(some 35),.mov (.tmp 1),(some (34,false))⟩,⟨(some 36),.bin .eql (.tmp 35) (.val (.int .i64 16)),(some (34,false))⟩,zq 37 (.pick (.tmp 34) (.val (.bool true)) (.tmp 36)),zm 38 37,⟨(some 39),.mov (.tmp 1),(some (38,false))⟩,⟨(some 40),.bin .eql (.tmp 39) (.val (.int .i64 32)),(some (38,false))⟩,zq 41 (.pick (.tmp 38) (.val (.bool true)) (.tmp 40)),zm 4 41]))
 .ret) (.seq (.keep [1,5] [] (.reg [zq 43 (.bin .eql (.tmp 5) (.val (.int .i64 5))),zm 42 43]))
 (.cond (.tmp 42) (.seq (.keep [1] [] (.reg [zm 44 1,zq 45 (.call 126 [(.tmp 44)]),⟨(some 46),.bin .neq (.tmp 45) (.val (.str ⟨#[]⟩)),none⟩,zm 4 46]))
 .ret) (.seq (.keep [1,5] [] (.reg [zq 48 (.bin .eql (.tmp 5) (.val (.int .i64 6))),zm 47 48]))
 (.cond (.tmp 47) (.seq (.keep [1] [] (.reg [zm 49 1,zq 50 (.call 127 [(.tmp 49)]),⟨(some 51),.bin .neq (.tmp 50) (.val (.str ⟨#[]⟩)),none⟩,zm 4 51]))
 .ret) (.seq (.keep [1,5] [] (.reg [zq 53 (.bin .eql (.tmp 5) (.val (.int .i64 7))),zm 52 53]))
 (.cond (.tmp 52) (.seq (.keep [1] [] (.reg [zm 54 1,zq 55 (.bin .geq (.tmp 54) (.val (.int .i64 0))),zm 56 55,⟨(some 57),.mov (.tmp 1),(some (56,true))⟩,⟨(some 58),.bin .leq (.tmp 57) (.val (.int .i64 31)),(some (56,true))⟩,zq 59 (.pick (.tmp 56) (.tmp 58) (.val (.bool false))),zm 4 59]))
 .ret) (.seq (.keep [1,5] [] (.reg [zq 61 (.bin .eql (.tmp 5) (.val (.int .i64 8))),zm 60 61]))
 (.cond (.tmp 60) (.seq (.keep [1] [] (.reg [zm 62 1,zq 63 (.bin .geq (.tmp 62) (.val (.int .i64 0))),zm 64 63,⟨(some 65),.mov (.tmp 1),(some (64,true))⟩,⟨(some 66),.bin .leq (.tmp 65) (.val (.int .i64 15)),(some (64,true))⟩,zq 67 (.pick (.tmp 64) (.tmp 66) (.val (.bool false))),zm 4 67]))
 .ret) .skip))))))))))))))))))
 (.seq (.keep [1] [] (.reg [zm 68 1,zq 69 (.bin .eql (.tmp 68) (.val (.int .i64 0))),zm 4 69]))
 .ret))) }
def h108:Hints:=⟨[1],[(0,[0],[]),(1,[1],[1]),(2,[],[]),(3,[1],[1]),(4,[1,9],[1]),(5,[1],[1]),(6,[1,9],[1]),(7,[1],[1]),(8,[9],[]),(9,[9],[]),(10,[],[]),(11,[],[])],[]⟩
def a108:AFn:={ n:=21,np:=1,res:=[.tmp 2,.tmp 3,.tmp 4],body:=
 (.seq (.keep [0] [] (.reg [zq 1 (.box (some 1) (.tmp 0)),zq 2 (.mov (.val (.int .i64 0))),zq 3 (.mov (.val (.bool false))),zq 4 (.mov (.val (.bool false)))]))
 (.seq (.seq (.keep [1] [1] (.reg [zq 5 (.load (some 4) (.tmp 1)),zq 6 (.call 63 [(.tmp 5)]),zq 7 (.bin .neq (.tmp 6) (.val (.int .i64 0)))]))
 (.cond (.tmp 7) (.seq (.keep [] [] (.reg [zq 2 (.mov (.val (.int .i64 0))),zq 3 (.mov (.val (.bool false))),zq 4 (.mov (.val (.bool false)))]))
 .ret) .skip))
 (.seq (.seq (.keep [1] [1] (.reg [zq 8 (.faddr 0 (.tmp 1)),zl 9 8]))
 (.block 0 (.seq (.keep [1,9] [1] (.reg [zq 11 (.bin .eql (.tmp 9) (.val (.int .i64 15))),zm 10 11]))
 (.cond (.tmp 10) (.seq (.keep [1] [1] (.reg [zq 12 (.faddr 1 (.tmp 1)),zl 13 12,zm 2 13,zq 3 (.mov (.val (.bool true))),zq 4 (.mov (.val (.bool false)))]))
 .ret) (.seq (.keep [1,9] [1] (.reg [zq 15 (.bin .eql (.tmp 9) (.val (.int .i64 16))),zm 14 15]))
 (.cond (.tmp 14) (.seq (.keep [1] [1] (.reg [zq 16 (.faddr 1 (.tmp 1)),zl 17 16,zm 2 17,zq 3 (.mov (.val (.bool true))),zq 4 (.mov (.val (.bool true)))]))
 .ret) (.seq (.seq (.keep [9] [] (.reg [zq 19 (.bin .eql (.tmp 9) (.val (.int .i64 1))),zm 18 19]))
 (.cond (.tmp 18) .skip (.keep [9] [] (.reg [zq 20 (.bin .eql (.tmp 9) (.val (.int .i64 18))),zm 18 20]))))
 (.cond (.tmp 18) (.seq (.keep [] [] (.reg [zq 2 (.mov (.val (.int .i64 0))),zq 3 (.mov (.val (.bool false))),zq 4 (.mov (.val (.bool false)))]))
 .ret) .skip))))))))
 (.seq (.keep [] [] (.reg [zq 2 (.mov (.val (.int .i64 0))),zq 3 (.mov (.val (.bool false))),zq 4 (.mov (.val (.bool true)))]))
 .ret)))) }
def h110:Hints:=⟨[2],[(0,[0,1],[]),(1,[1,2],[2])],[]⟩
def a110:AFn:={ n:=23,np:=2,res:=[.tmp 4],body:=
 (.seq (.keep [0,1] [] (.reg [zq 2 (.box (some 2) (.tmp 0)),zq 4 (.mov (.val (.bool false)))]))
 (.seq (.keep [1,2] [2] (.reg [zm 5 1,zq 6 (.bin .geq (.tmp 5) (.val (.int .i64 0))),zm 7 6,⟨(some 8),.mov (.tmp 1),(some (7,true))⟩,⟨(some 9),.faddr 1 (.tmp 2),(some (7,true))⟩,⟨(some 10),.load none (.tmp 9),(some (7,true))⟩,⟨(some 11),.lenL (.tmp 10),(some (7,true))⟩,⟨(some 12),.bin .lss (.tmp 8) (.tmp 11),(some (7,true))⟩,zq 13 (.pick (.tmp 7) (.tmp 12) (.val (.bool false))),zm 14 13,⟨(some 15),.faddr 1 (.tmp 2),(some (14,true))⟩,⟨(some 16),.load none (.tmp 15),(some (14,true))⟩,⟨(some 17),.mov (.tmp 1),(some (14,true))⟩,⟨(some 18),.iaddrL 3 (.tmp 16) (.tmp 17),(some (14,true))⟩,⟨(some 19),.faddr 1 (.tmp 18),(some (14,true))⟩,⟨(some 20),.load none (.tmp 19),(some (14,true))⟩,⟨(some 21),.bin .eql (.tmp 20) (.val (.int .i64 0)),(some (14,true))⟩,zq 22 (.pick (.tmp 14) (.tmp 21) (.val (.bool false))),zm 4 22]))
 .ret)) }
def h111:Hints:=⟨[2,5],[(0,[0,1],[]),(1,[1,2],[2]),(2,[1,2,5],[2,5]),(3,[1,2,5,6,7],[2,5]),(4,[],[]),(5,[1,2,6,7],[2]),(6,[1,2,7,8],[2]),(8,[1,2,7,8],[2]),(9,[],[]),(7,[1,2,7,8],[2]),(10,[2,7],[2]),(11,[9],[])],[]⟩
def a111_R1:AC:=.keep [1,2,5] [2,5] (.reg [zq 16 (.load (some 8) (.tmp 2)),zm 17 1,zq 18 (.call 65 [(.tmp 16),(.tmp 17)]),zm 15 18,zq 19 (.ext (.tmp 15) 0),zq 20 (.ext (.tmp 15) 1),zm 6 19,zm 7 20])
def a111_R2:AC:=.keep [1,2,5,6,7] [2,5] (.reg [zm 21 6,zq 22 (.bin .lss (.tmp 21) (.val (.int .i64 0))),zm 23 22,⟨(some 24),.mov (.tmp 6),(some (23,false))⟩,⟨(some 25),.mov (.tmp 7),(some (23,false))⟩,⟨(some 26),.bin .geq (.tmp 24) (.tmp 25),(some (23,false))⟩,zq 27 (.pick (.tmp 23) (.val (.bool true)) (.tmp 26)),zm 28 27,⟨(some 29),.mov (.tmp 7),(some (28,false))⟩,⟨(some 30),.faddr 0 (.tmp 2),(some (28,false))⟩,⟨(some 31),.load none (.tmp 30),(some (28,false))⟩,⟨(some 32),.lenL (.tmp 31),(some (28,false))⟩,⟨(some 33),.bin .gtr (.tmp 29) (.tmp 32),(some (28,false))⟩,zq 34 (.pick (.tmp 28) (.val (.bool true)) (.tmp 33)),zm 35 34,⟨(some 36),.faddr 1 (.tmp 5),(some (35,false))⟩,⟨(some 37),.load none (.tmp 36),(some (35,false))⟩,⟨(some 38),.bin .lss (.tmp 37) (.val (.int .i64 0)),(some (35,false))⟩,zq 39 (.pick (.tmp 35) (.val (.bool true)) (.tmp 38)),zm 40 39,⟨(some 41),.faddr 1 (.tmp 5),(some (40,false))⟩,⟨(some 42),.load none (.tmp 41),(some (40,false))⟩,⟨(some 43),.faddr 2 (.tmp 5),(some (40,false))⟩,⟨(some 44),.load none (.tmp 43),(some (40,false))⟩,⟨(some 45),.bin .gtr (.tmp 42) (.tmp 44),(some (40,false))⟩,zq 46 (.pick (.tmp 40) (.val (.bool true)) (.tmp 45)),zm 47 46,⟨(some 48),.faddr 2 (.tmp 5),(some (47,false))⟩,⟨(some 49),.load none (.tmp 48),(some (47,false))⟩,⟨(some 50),.bin .gtr (.tmp 49) (.val (.int .i64 64)),(some (47,false))⟩,zq 51 (.pick (.tmp 47) (.val (.bool true)) (.tmp 50))])
def a111_R3:AC:=.keep [1,2,7,8] [2] (.dreg [zp 58 (.faddr 0 (.tmp 2)),zk 59 58,zn 60 8,zp 61 (.iaddrL 4 (.tmp 59) (.tmp 60)),zp 62 (.load (some 4) (.tmp 61)),zp 63 (.call 63 [(.tmp 62)]),zp 64 (.bin .neq (.tmp 63) (.val (.int .i64 0))),zn 65 64,(false,⟨(some 66),.load (some 8) (.tmp 2),(some (65,false))⟩,false),(false,⟨(some 67),.mov (.tmp 1),(some (65,false))⟩,false),(false,⟨(some 68),.faddr 0 (.tmp 2),(some (65,false))⟩,false),(false,⟨(some 69),.load none (.tmp 68),(some (65,false))⟩,false),(false,⟨(some 70),.mov (.tmp 8),(some (65,false))⟩,false),(false,⟨(some 71),.iaddrL 4 (.tmp 69) (.tmp 70),(some (65,false))⟩,false),(false,⟨(some 72),.load (some 4) (.tmp 71),(some (65,false))⟩,false),(false,⟨(some 73),.call 128 [(.tmp 66),(.tmp 67),(.tmp 72)],(some (65,false))⟩,false),(false,⟨(some 74),.un .not (.tmp 73),(some (65,false))⟩,false),zp 75 (.pick (.tmp 65) (.val (.bool true)) (.tmp 74))])
def a111_R4:AC:=.keep [2,7] [2] (.reg [zq 76 (.faddr 0 (.tmp 2)),zl 77 76,zm 78 7,zq 79 (.bin .sub (.tmp 78) (.val (.int .i64 1))),zq 80 (.iaddrL 4 (.tmp 77) (.tmp 79)),zq 81 (.faddr 0 (.tmp 80)),zl 82 81,zm 9 82])
def a111_R5:AC:=.keep [9] [] (.reg [zm 83 9,zq 84 (.bin .eql (.tmp 83) (.val (.int .i64 1))),zm 85 84,⟨(some 86),.mov (.tmp 9),(some (85,false))⟩,⟨(some 87),.bin .eql (.tmp 86) (.val (.int .i64 15)),(some (85,false))⟩,zq 88 (.pick (.tmp 85) (.val (.bool true)) (.tmp 87)),zm 89 88,⟨(some 90),.mov (.tmp 9),(some (89,false))⟩,⟨(some 91),.bin .eql (.tmp 90) (.val (.int .i64 18)),(some (89,false))⟩,zq 92 (.pick (.tmp 89) (.val (.bool true)) (.tmp 91)),zm 4 92])
def a111_B1:AC:=(.seq (.seq (.keep [1,2,7,8] [2] (.reg [zm 53 8,zm 54 7,zq 55 (.bin .lss (.tmp 53) (.tmp 54))]))
 (.cond (.tmp 55) .skip (.exit 0)))
 (.seq (.block 1 (.seq a111_R3
 (.cond (.tmp 75) (.seq (.keep [] [] (.reg [zq 4 (.mov (.val (.bool false)))]))
 .ret) .skip)))
 (.keep [1,2,7,8] [2] (.reg [zm 56 8,zq 57 (.bin .add (.tmp 56) (.val (.int .i64 1))),zm 8 57]))))
def a111_L1:AC:=.loop a111_B1
theorem a111_L1_step (call:Caller) (again:AC→St→Option (Ex×St)) (s:St):codeEv call again a111_L1 s=match codeEv call again a111_B1 s with | some (.norm,s1)=>again a111_L1 s1 | r=>r:=rfl
def a111:AFn:={ n:=93,np:=2,res:=[.tmp 4],body:=
 (.seq (.keep [0,1] [] (.reg [zq 2 (.box (some 2) (.tmp 0)),zq 4 (.mov (.val (.bool false)))]))
 (.seq (.keep [1,2] [2] (.reg [zq 10 (.faddr 1 (.tmp 2)),zl 11 10,zm 12 1,zq 13 (.iaddrL 3 (.tmp 11) (.tmp 12)),zq 14 (.load (some 3) (.tmp 13)),zq 5 (.alloc (some 5) [(.int .i64 0),(.int .i64 0),(.int .i64 0)]),⟨none,.store 3 (.tmp 5) (.tmp 14),none⟩]))
 (.seq a111_R1
 (.seq (.seq a111_R2
 (.cond (.tmp 51) (.seq (.keep [] [] (.reg [zq 4 (.mov (.val (.bool false)))]))
 .ret) .skip))
 (.seq (.seq (.keep [1,2,6,7] [2] (.reg [zm 52 6,zm 8 52]))
 (.block 0 a111_L1))
 (.seq a111_R4
 (.seq a111_R5
 .ret))))))) }
def h112:Hints:=⟨[2],[(0,[0,1],[]),(1,[1,2],[2]),(2,[1,2,5],[2]),(3,[2,5,6,7],[2]),(4,[2,5,6,7,8],[2]),(6,[2,5,6,7,8],[2]),(7,[2,5,6,7,8,9],[2]),(8,[2,5,6,7,8,9,10],[2]),(10,[2,5,6,7,8,9,10],[2]),(9,[2,5,6,7,8,9,10],[2]),(11,[2,5,6,7,8,9],[2]),(12,[2,5,6,7,8],[2]),(5,[2,5,6,7,8],[2]),(13,[5],[])],[]⟩
def a112_R1:AC:=.keep [1,2,5] [2] (.reg [zq 12 (.load (some 8) (.tmp 2)),zm 13 1,zq 14 (.call 65 [(.tmp 12),(.tmp 13)]),zm 11 14,zq 15 (.ext (.tmp 11) 0),zq 16 (.ext (.tmp 11) 1),zm 6 15,zm 7 16])
def a112_R2:AC:=.keep [2,5,6,7,8,9,10] [2] (.reg [zm 30 9,zm 31 30,⟨(some 32),.faddr 0 (.tmp 2),(some (31,false))⟩,⟨(some 33),.load none (.tmp 32),(some (31,false))⟩,⟨(some 34),.mov (.tmp 10),(some (31,false))⟩,⟨(some 35),.iaddrL 4 (.tmp 33) (.tmp 34),(some (31,false))⟩,⟨(some 36),.faddr 0 (.tmp 35),(some (31,false))⟩,⟨(some 37),.load none (.tmp 36),(some (31,false))⟩,⟨(some 38),.bin .eql (.tmp 37) (.val (.int .i64 17)),(some (31,false))⟩,⟨(some 39),.mov (.tmp 38),(some (31,false))⟩,⟨(some 40),.faddr 0 (.tmp 2),(some (39,true))⟩,⟨(some 41),.load none (.tmp 40),(some (39,true))⟩,⟨(some 42),.mov (.tmp 10),(some (39,true))⟩,⟨(some 43),.iaddrL 4 (.tmp 41) (.tmp 42),(some (39,true))⟩,⟨(some 44),.faddr 1 (.tmp 43),(some (39,true))⟩,⟨(some 45),.load none (.tmp 44),(some (39,true))⟩,⟨(some 46),.mov (.tmp 8),(some (39,true))⟩,⟨(some 47),.bin .eql (.tmp 45) (.tmp 46),(some (39,true))⟩,⟨(some 48),.pick (.tmp 39) (.tmp 47) (.val (.bool false)),(some (31,false))⟩,zq 49 (.pick (.tmp 31) (.val (.bool true)) (.tmp 48)),zm 9 49])
def a112_B1:AC:=(.seq (.seq (.keep [2,5,6,7,8,9,10] [2] (.reg [zm 25 10,zm 26 7,zq 27 (.bin .lss (.tmp 25) (.tmp 26))]))
 (.cond (.tmp 27) .skip (.exit 2)))
 (.seq (.block 3 a112_R2)
 (.keep [2,5,6,7,8,9,10] [2] (.reg [zm 28 10,zq 29 (.bin .add (.tmp 28) (.val (.int .i64 1))),zm 10 29]))))
def a112_L1:AC:=.loop a112_B1
theorem a112_L1_step (call:Caller) (again:AC→St→Option (Ex×St)) (s:St):codeEv call again a112_L1 s=match codeEv call again a112_B1 s with | some (.norm,s1)=>again a112_L1 s1 | r=>r:=rfl
def a112_B2:AC:=(.seq (.seq (.keep [2,5,6,7,8] [2] (.reg [zm 17 8,zq 18 (.faddr 1 (.tmp 2)),zl 19 18,zq 20 (.lenL (.tmp 19)),zq 21 (.bin .lss (.tmp 17) (.tmp 20))]))
 (.cond (.tmp 21) .skip (.exit 0)))
 (.seq (.block 1 (.seq (.keep [2,5,6,7,8] [2] (.reg [zq 9 (.mov (.val (.bool false)))]))
 (.seq (.seq (.keep [2,5,6,7,8,9] [2] (.reg [zm 24 6,zm 10 24]))
 (.block 2 a112_L1))
 (.seq (.keep [2,5,6,7,8,9] [2] (.reg [zm 50 9]))
 (.cond (.tmp 50) (.keep [2,5,6,7,8] [2] (.reg [zm 51 5,zm 52 8,zq 53 (.mkslc 1 1 [(.int .i64 0)] [(0,(.tmp 52))]),zq 54 (.app none 1 8 (.tmp 51) (.tmp 53)),zm 5 54])) .skip)))))
 (.keep [2,5,6,7,8] [2] (.reg [zm 22 8,zq 23 (.bin .add (.tmp 22) (.val (.int .i64 1))),zm 8 23]))))
def a112_L2:AC:=.loop a112_B2
theorem a112_L2_step (call:Caller) (again:AC→St→Option (Ex×St)) (s:St):codeEv call again a112_L2 s=match codeEv call again a112_B2 s with | some (.norm,s1)=>again a112_L2 s1 | r=>r:=rfl
def a112:AFn:={ n:=56,np:=2,res:=[.tmp 4],body:=
 (.seq (.keep [0,1] [] (.reg [zq 2 (.box (some 2) (.tmp 0)),zq 4 (.mov (.val .nils))]))
 (.seq (.keep [1,2] [2] (.reg [zq 5 (.mov (.val .nils))]))
 (.seq a112_R1
 (.seq (.seq (.keep [2,5,6,7] [2] (.reg [zq 8 (.mov (.val (.int .i64 0)))]))
 (.block 0 a112_L2))
 (.seq (.keep [5] [] (.reg [zm 55 5,zm 4 55]))
 .ret))))) }
def h121:Hints:=⟨[],[(0,[0,1],[]),(1,[0,1],[]),(2,[0,1,7,8],[]),(3,[0,1,7,8],[]),(4,[0,1,5,7,8],[]),(5,[5],[]),(6,[0,1,7,8],[]),(7,[],[])],[]⟩
def a121_B1:AC:=(.seq (.keep [0,1,7,8] [] (.reg [zq 9 (.bin .lss (.tmp 8) (.tmp 7))]))
 (.seq (.cond (.tmp 9) .skip (.exit 0))
 (.seq (.block 1 (.seq (.keep [0,1,7,8] [] (.reg [zm 10 8,zm 5 10]))
 (.seq (.keep [0,1,5,7,8] [] (.reg [zm 11 1,zm 12 0,zm 13 5,zq 14 (.iaddrL 1 (.tmp 12) (.tmp 13)),zl 15 14,zq 16 (.bin .eql (.tmp 11) (.tmp 15))]))
 (.cond (.tmp 16) (.seq (.keep [5] [] (.reg [zm 17 5,zm 4 17]))
 .ret) .skip))))
 (.keep [0,1,7,8] [] (.reg [zq 18 (.bin .add (.tmp 8) (.val (.int .i64 1))),zm 8 18])))))
def a121_L1:AC:=.loop a121_B1
theorem a121_L1_step (call:Caller) (again:AC→St→Option (Ex×St)) (s:St):codeEv call again a121_L1 s=match codeEv call again a121_B1 s with | some (.norm,s1)=>again a121_L1 s1 | r=>r:=rfl
def a121:AFn:={ n:=19,np:=2,res:=[.tmp 4],body:=
 (.seq (.keep [0,1] [] (.reg [zq 4 (.mov (.val (.int .i64 0)))]))
 (.seq (.seq (.keep [0,1] [] (.reg [zm 6 0,zq 7 (.lenL (.tmp 6)),zq 8 (.mov (.val (.int .i64 0)))]))
 (.block 0 a121_L1))
 (.seq (.keep [] [] (.reg [zq 4 (.mov (.val (.int .i64 (-1))))]))
 .ret))) }
def h126:Hints:=⟨[],[(0,[0],[]),(1,[0],[]),(2,[0,3],[]),(3,[],[]),(4,[0,3],[])],[]⟩
def a126:AFn:={ n:=17,np:=1,res:=[.tmp 2],body:=
 (.seq (.keep [0] [] (.reg [⟨(some 2),.mov (.val (.str ⟨#[]⟩)),none⟩]))
 (.seq (.keep [0] [] (.reg [⟨(some 4),.mkslc 1 20 [(.str ⟨#[]⟩)] [(0,(.val (.str ⟨#[]⟩))),(1,(.val (.str ⟨#[43]⟩))),(2,(.val (.str ⟨#[45]⟩))),(3,(.val (.str ⟨#[42]⟩))),(4,(.val (.str ⟨#[47]⟩))),(5,(.val (.str ⟨#[37]⟩))),(6,(.val (.str ⟨#[115,47]⟩))),(7,(.val (.str ⟨#[115,37]⟩))),(8,(.val (.str ⟨#[38]⟩))),(9,(.val (.str ⟨#[124]⟩))),(10,(.val (.str ⟨#[94]⟩))),(11,(.val (.str ⟨#[60,60]⟩))),(12,(.val (.str ⟨#[62,62]⟩))),(13,(.val (.str ⟨#[115,62,62]⟩))),(14,(.val (.str ⟨#[61,61]⟩))),(15,(.val (.str ⟨#[33,61]⟩))),(16,(.val (.str ⟨#[60]⟩))),(17,(.val (.str ⟨#[60,61]⟩))),(18,(.val (.str ⟨#[115,60]⟩))),(19,(.val (.str ⟨#[115,60,61]⟩)))],none⟩,zm 3 4]))
 (.seq (.seq (.keep [0,3] [] (.reg [zm 5 0,zq 6 (.bin .lss (.tmp 5) (.val (.int .i64 1))),zm 7 6,⟨(some 8),.mov (.tmp 0),(some (7,false))⟩,⟨(some 9),.mov (.tmp 3),(some (7,false))⟩,⟨(some 10),.lenL (.tmp 9),(some (7,false))⟩,⟨(some 11),.bin .geq (.tmp 8) (.tmp 10),(some (7,false))⟩,zq 12 (.pick (.tmp 7) (.val (.bool true)) (.tmp 11))]))
 (.cond (.tmp 12) (.seq (.keep [] [] (.reg [⟨(some 2),.mov (.val (.str ⟨#[]⟩)),none⟩]))
 .ret) .skip))
 (.seq (.keep [0,3] [] (.reg [zm 13 3,zm 14 0,zq 15 (.iaddrL 1 (.tmp 13) (.tmp 14)),zl 16 15,zm 2 16]))
 .ret)))) }
def h127:Hints:=⟨[],[(0,[0],[]),(1,[0],[]),(2,[0,3],[]),(3,[],[]),(4,[0,3],[])],[]⟩
def a127:AFn:={ n:=17,np:=1,res:=[.tmp 2],body:=
 (.seq (.keep [0] [] (.reg [⟨(some 2),.mov (.val (.str ⟨#[]⟩)),none⟩]))
 (.seq (.keep [0] [] (.reg [⟨(some 4),.mkslc 1 4 [(.str ⟨#[]⟩)] [(0,(.val (.str ⟨#[]⟩))),(1,(.val (.str ⟨#[110,101,103]⟩))),(2,(.val (.str ⟨#[110,111,116]⟩))),(3,(.val (.str ⟨#[122,101,114,111]⟩)))],none⟩,zm 3 4]))
 (.seq (.seq (.keep [0,3] [] (.reg [zm 5 0,zq 6 (.bin .lss (.tmp 5) (.val (.int .i64 1))),zm 7 6,⟨(some 8),.mov (.tmp 0),(some (7,false))⟩,⟨(some 9),.mov (.tmp 3),(some (7,false))⟩,⟨(some 10),.lenL (.tmp 9),(some (7,false))⟩,⟨(some 11),.bin .geq (.tmp 8) (.tmp 10),(some (7,false))⟩,zq 12 (.pick (.tmp 7) (.val (.bool true)) (.tmp 11))]))
 (.cond (.tmp 12) (.seq (.keep [] [] (.reg [⟨(some 2),.mov (.val (.str ⟨#[]⟩)),none⟩]))
 .ret) .skip))
 (.seq (.keep [0,3] [] (.reg [zm 13 3,zm 14 0,zq 15 (.iaddrL 1 (.tmp 13) (.tmp 14)),zl 16 15,zm 2 16]))
 .ret)))) }
def h128:Hints:=⟨[3,5],[(0,[0,1,2],[]),(1,[1,3,5],[3,5]),(2,[1,3,5,7,8],[3,5]),(3,[1,3,5,7,8,16],[3,5]),(4,[1,3,5,7,8,16],[3,5]),(5,[3,5],[3,5]),(6,[1,3,5,7,8,16],[3,5]),(7,[1,3,5,7,8,16],[3,5]),(8,[3,5],[3,5]),(9,[1,3,5,7,8,16],[3,5]),(10,[1,3,5,7,8,16],[3,5]),(11,[1,3,5],[3,5]),(12,[1,3,5,7,8,16],[3,5]),(13,[1,3,5,7,8,16],[3,5]),(14,[3,5],[3,5]),(15,[1,3,5,7,8,16],[3,5]),(16,[1,3,5,7,8,16],[3,5]),(17,[5,7,8],[5]),(18,[1,3,5,16],[3,5]),(19,[3,5],[3,5]),(20,[1,3,5,16],[3,5]),(21,[1,3,5,16],[3,5]),(22,[3,5],[3,5]),(23,[1,3,16],[3]),(24,[1,3],[3]),(25,[],[])],[]⟩
def a128_R1:AC:=.keep [1,3,5] [3,5] (.reg [zq 10 (.load (some 8) (.tmp 3)),zm 11 1,zq 12 (.call 65 [(.tmp 10),(.tmp 11)]),zm 9 12,zq 13 (.ext (.tmp 9) 0),zq 14 (.ext (.tmp 9) 1),zm 7 13,zm 8 14])
def a128_R2:AC:=.keep [3,5] [3,5] (.reg [zq 29 (.faddr 1 (.tmp 5)),zl 30 29,zq 31 (.faddr 2 (.tmp 5)),zl 32 31,zq 33 (.bin .add (.tmp 30) (.tmp 32)),zq 34 (.faddr 4 (.tmp 3)),zl 35 34,zq 36 (.lenL (.tmp 35)),zq 37 (.bin .leq (.tmp 33) (.tmp 36)),zm 6 37])
def a128_R3:AC:=.keep [1,3,5] [3,5] (.dreg [zp 41 (.faddr 1 (.tmp 5)),zk 42 41,zp 43 (.faddr 1 (.tmp 3)),zk 44 43,zn 45 1,zp 46 (.iaddrL 3 (.tmp 44) (.tmp 45)),zp 47 (.faddr 2 (.tmp 46)),zk 48 47,zp 49 (.bin .lss (.tmp 42) (.tmp 48)),zn 6 49])
def a128_R4:AC:=.keep [5,7,8] [5] (.reg [zq 62 (.faddr 1 (.tmp 5)),zl 63 62,zm 64 7,zq 65 (.bin .geq (.tmp 63) (.tmp 64)),zm 66 65,⟨(some 67),.faddr 1 (.tmp 5),(some (66,true))⟩,⟨(some 68),.load none (.tmp 67),(some (66,true))⟩,⟨(some 69),.mov (.tmp 8),(some (66,true))⟩,⟨(some 70),.bin .lss (.tmp 68) (.tmp 69),(some (66,true))⟩,zq 71 (.pick (.tmp 66) (.tmp 70) (.val (.bool false))),zm 6 71])
def a128:AFn:={ n:=95,np:=3,res:=[.tmp 6],body:=
 (.seq (.keep [0,1,2] [] (.reg [zq 3 (.box (some 3) (.tmp 0)),zq 5 (.box (some 5) (.tmp 2)),zq 6 (.mov (.val (.bool false)))]))
 (.seq a128_R1
 (.seq (.seq (.keep [1,3,5,7,8] [3,5] (.reg [zq 15 (.faddr 0 (.tmp 5)),zl 16 15]))
 (.block 0 (.seq (.seq (.keep [1,3,5,7,8,16] [3,5] (.reg [zq 18 (.bin .eql (.tmp 16) (.val (.int .i64 4))),zm 17 18]))
 (.cond (.tmp 17) .skip (.keep [1,3,5,7,8,16] [3,5] (.reg [zq 19 (.bin .eql (.tmp 16) (.val (.int .i64 5))),zm 17 19]))))
 (.cond (.tmp 17) (.seq (.keep [3,5] [3,5] (.reg [zq 20 (.faddr 1 (.tmp 5)),zl 21 20,zq 22 (.faddr 4 (.tmp 3)),zl 23 22,zq 24 (.lenL (.tmp 23)),zq 25 (.bin .lss (.tmp 21) (.tmp 24)),zm 6 25]))
 .ret) (.seq (.seq (.keep [1,3,5,7,8,16] [3,5] (.reg [zq 27 (.bin .eql (.tmp 16) (.val (.int .i64 6))),zm 26 27]))
 (.cond (.tmp 26) .skip (.keep [1,3,5,7,8,16] [3,5] (.reg [zq 28 (.bin .eql (.tmp 16) (.val (.int .i64 7))),zm 26 28]))))
 (.cond (.tmp 26) (.seq a128_R2
 .ret) (.seq (.seq (.keep [1,3,5,7,8,16] [3,5] (.reg [zq 39 (.bin .eql (.tmp 16) (.val (.int .i64 8))),zm 38 39]))
 (.cond (.tmp 38) .skip (.keep [1,3,5,7,8,16] [3,5] (.reg [zq 40 (.bin .eql (.tmp 16) (.val (.int .i64 9))),zm 38 40]))))
 (.cond (.tmp 38) (.seq a128_R3
 .ret) (.seq (.seq (.keep [1,3,5,7,8,16] [3,5] (.reg [zq 51 (.bin .eql (.tmp 16) (.val (.int .i64 10))),zm 50 51]))
 (.cond (.tmp 50) .skip (.keep [1,3,5,7,8,16] [3,5] (.reg [zq 52 (.bin .eql (.tmp 16) (.val (.int .i64 11))),zm 50 52]))))
 (.cond (.tmp 50) (.seq (.keep [3,5] [3,5] (.reg [zq 53 (.faddr 1 (.tmp 5)),zl 54 53,zq 55 (.faddr 5 (.tmp 3)),zl 56 55,zq 57 (.lenL (.tmp 56)),zq 58 (.bin .lss (.tmp 54) (.tmp 57)),zm 6 58]))
 .ret) (.seq (.seq (.keep [1,3,5,7,8,16] [3,5] (.reg [zq 60 (.bin .eql (.tmp 16) (.val (.int .i64 15))),zm 59 60]))
 (.cond (.tmp 59) .skip (.keep [1,3,5,7,8,16] [3,5] (.reg [zq 61 (.bin .eql (.tmp 16) (.val (.int .i64 16))),zm 59 61]))))
 (.cond (.tmp 59) (.seq a128_R4
 .ret) (.seq (.keep [1,3,5,16] [3,5] (.reg [zq 73 (.bin .eql (.tmp 16) (.val (.int .i64 17))),zm 72 73]))
 (.cond (.tmp 72) (.seq (.keep [3,5] [3,5] (.reg [zq 74 (.faddr 1 (.tmp 5)),zl 75 74,zq 76 (.faddr 1 (.tmp 3)),zl 77 76,zq 78 (.lenL (.tmp 77)),zq 79 (.bin .lss (.tmp 75) (.tmp 78)),zm 6 79]))
 .ret) (.seq (.seq (.keep [1,3,5,16] [3,5] (.reg [zq 81 (.bin .eql (.tmp 16) (.val (.int .i64 23))),zm 80 81]))
 (.cond (.tmp 80) .skip (.keep [1,3,5,16] [3,5] (.reg [zq 82 (.bin .eql (.tmp 16) (.val (.int .i64 24))),zm 80 82]))))
 (.cond (.tmp 80) (.seq (.keep [3,5] [3,5] (.reg [zq 83 (.faddr 1 (.tmp 5)),zl 84 83,zq 85 (.faddr 7 (.tmp 3)),zl 86 85,zq 87 (.lenL (.tmp 86)),zq 88 (.bin .lss (.tmp 84) (.tmp 87)),zm 6 88]))
 .ret) (.seq (.keep [1,3,16] [3] (.reg [zq 90 (.bin .eql (.tmp 16) (.val (.int .i64 1))),zm 89 90]))
 (.cond (.tmp 89) (.seq (.keep [1,3] [3] (.reg [zm 91 1,zq 92 (.faddr 3 (.tmp 3)),zl 93 92,zq 94 (.bin .eql (.tmp 91) (.tmp 93)),zm 6 94]))
 .ret) .skip))))))))))))))))))
 (.seq (.keep [] [] (.reg [zq 6 (.mov (.val (.bool true)))]))
 .ret)))) }
theorem t11:trFn Tryd.prog h11 Tryd.f11=some a11:=by kernel_rfl
theorem t13:trFn Tryd.prog h13 Tryd.f13=some a13:=by kernel_rfl
theorem t21:trFn Tryd.prog h21 Tryd.f21=some a21:=by kernel_rfl
theorem t24:trFn Tryd.prog h24 Tryd.f24=some a24:=by kernel_rfl
theorem t37:trFn Tryd.prog h37 Tryd.f37=some a37:=by kernel_rfl
theorem t38:trFn Tryd.prog h38 Tryd.f38=some a38:=by kernel_rfl
theorem t40:trFn Tryd.prog h40 Tryd.f40=some a40:=by kernel_rfl
theorem t44:trFn Tryd.prog h44 Tryd.f44=some a44:=by kernel_rfl
theorem t47:trFn Tryd.prog h47 Tryd.f47=some a47:=by kernel_rfl
theorem t49:trFn Tryd.prog h49 Tryd.f49=some a49:=by kernel_rfl
theorem t50:trFn Tryd.prog h50 Tryd.f50=some a50:=by kernel_rfl
theorem t51:trFn Tryd.prog h51 Tryd.f51=some a51:=by kernel_rfl
theorem t52:trFn Tryd.prog h52 Tryd.f52=some a52:=by kernel_rfl
theorem t53:trFn Tryd.prog h53 Tryd.f53=some a53:=by kernel_rfl
theorem t62:trFn Tryd.prog h62 Tryd.f62=some a62:=by kernel_rfl
theorem t63:trFn Tryd.prog h63 Tryd.f63=some a63:=by kernel_rfl
theorem t64:trFn Tryd.prog h64 Tryd.f64=some a64:=by kernel_rfl
theorem t65:trFn Tryd.prog h65 Tryd.f65=some a65:=by kernel_rfl
theorem t73:trFn Tryd.prog h73 Tryd.f73=some a73:=by kernel_rfl
theorem t75:trFn Tryd.prog h75 Tryd.f75=some a75:=by kernel_rfl
theorem t76:trFn Tryd.prog h76 Tryd.f76=some a76:=by kernel_rfl
theorem t77:trFn Tryd.prog h77 Tryd.f77=some a77:=by kernel_rfl
theorem t85:trFn Tryd.prog h85 Tryd.f85=some a85:=by kernel_rfl
theorem t86:trFn Tryd.prog h86 Tryd.f86=some a86:=by kernel_rfl
theorem t88:trFn Tryd.prog h88 Tryd.f88=some a88:=by kernel_rfl
theorem t89:trFn Tryd.prog h89 Tryd.f89=some a89:=by kernel_rfl
theorem t93:trFn Tryd.prog h93 Tryd.f93=some a93:=by kernel_rfl
theorem t105:trFn Tryd.prog h105 Tryd.f105=some a105:=by kernel_rfl
theorem t106:trFn Tryd.prog h106 Tryd.f106=some a106:=by kernel_rfl
theorem t107:trFn Tryd.prog h107 Tryd.f107=some a107:=by kernel_rfl
theorem t108:trFn Tryd.prog h108 Tryd.f108=some a108:=by kernel_rfl
theorem t110:trFn Tryd.prog h110 Tryd.f110=some a110:=by kernel_rfl
theorem t111:trFn Tryd.prog h111 Tryd.f111=some a111:=by kernel_rfl
theorem t112:trFn Tryd.prog h112 Tryd.f112=some a112:=by kernel_rfl
theorem t121:trFn Tryd.prog h121 Tryd.f121=some a121:=by kernel_rfl
theorem t126:trFn Tryd.prog h126 Tryd.f126=some a126:=by kernel_rfl
theorem t127:trFn Tryd.prog h127 Tryd.f127=some a127:=by kernel_rfl
theorem t128:trFn Tryd.prog h128 Tryd.f128=some a128:=by kernel_rfl
def a79:AFn:=primFn sortEv
def a120:AFn:=primFn compactEv
def a36:AFn:=primFn (closedEv blocks (.bool true))
def a80:AFn:=primFn (sortfEv 81)
def A:Nat→Option AFn:=lkF [(11,a11),(13,a13),(21,a21),(24,a24),(36,a36),(37,a37),(38,a38),(40,a40),(41,a41),(42,a42),(43,a43),(44,a44),(45,a45),(47,a47),(49,a49),(50,a50),(51,a51),(52,a52),(53,a53),(54,a54),(62,a62),(63,a63),(64,a64),(65,a65),(67,a67),(73,a73),(75,a75),(76,a76),(77,a77),(78,a78),(79,a79),(80,a80),(81,a81),(82,a82),(83,a83),(84,a84),(85,a85),(86,a86),(87,a87),(88,a88),(89,a89),(93,a93),(105,a105),(106,a106),(107,a107),(108,a108),(109,a109),(110,a110),(111,a111),(112,a112),(113,a113),(114,a114),(118,a118),(119,a119),(120,a120),(121,a121),(122,a122),(126,a126),(127,a127),(128,a128),(129,a129),(149,a149),(150,a150),(159,a159),(160,a160),(163,a163),(180,a180),(181,a181),(182,a182),(183,a183),(184,a184),(185,a185),(186,a186),(187,a187),(188,a188),(189,a189),(190,a190)]
theorem A_ok:AOk Tryd.prog A:=lkF_ok ⟨.inl ⟨h11,Tryd.f11,Tryd.func11,t11⟩,
 .inl ⟨h13,Tryd.f13,Tryd.func13,t13⟩,
 .inl ⟨h21,Tryd.f21,Tryd.func21,t21⟩,
 .inl ⟨h24,Tryd.f24,Tryd.func24,t24⟩,
 .inr ⟨_,rfl,lives36⟩,
 .inl ⟨h37,Tryd.f37,Tryd.func37,t37⟩,
 .inl ⟨h38,Tryd.f38,Tryd.func38,t38⟩,
 .inl ⟨h40,Tryd.f40,Tryd.func40,t40⟩,
 .inl ⟨h41,Tryd.f41,Tryd.func41,t41⟩,
 .inl ⟨h42,Tryd.f42,Tryd.func42,t42⟩,
 .inr ⟨_,rfl,defer_ok Tryd.func43 Tryd.func83 t83 t43⟩,
 .inl ⟨h44,Tryd.f44,Tryd.func44,t44⟩,
 .inl ⟨h45,Tryd.f45,Tryd.func45,t45⟩,
 .inl ⟨h47,Tryd.f47,Tryd.func47,t47⟩,
 .inl ⟨h49,Tryd.f49,Tryd.func49,t49⟩,
 .inl ⟨h50,Tryd.f50,Tryd.func50,t50⟩,
 .inl ⟨h51,Tryd.f51,Tryd.func51,t51⟩,
 .inl ⟨h52,Tryd.f52,Tryd.func52,t52⟩,
 .inl ⟨h53,Tryd.f53,Tryd.func53,t53⟩,
 .inl ⟨h54,Tryd.f54,Tryd.func54,t54⟩,
 .inl ⟨h62,Tryd.f62,Tryd.func62,t62⟩,
 .inl ⟨h63,Tryd.f63,Tryd.func63,t63⟩,
 .inl ⟨h64,Tryd.f64,Tryd.func64,t64⟩,
 .inl ⟨h65,Tryd.f65,Tryd.func65,t65⟩,
 .inl ⟨h67,Tryd.f67,Tryd.func67,t67⟩,
 .inl ⟨h73,Tryd.f73,Tryd.func73,t73⟩,
 .inl ⟨h75,Tryd.f75,Tryd.func75,t75⟩,
 .inl ⟨h76,Tryd.f76,Tryd.func76,t76⟩,
 .inl ⟨h77,Tryd.f77,Tryd.func77,t77⟩,
 .inl ⟨h78,Tryd.f78,Tryd.func78,t78⟩,
 .inr ⟨_,rfl,sort79⟩,
 .inr ⟨_,rfl,sortf80⟩,
 .inl ⟨h81,Tryd.f81,Tryd.func81,t81⟩,
 .inl ⟨h82,Tryd.f82,Tryd.func82,t82⟩,
 .inl ⟨h83,Tryd.f83,Tryd.func83,t83⟩,
 .inl ⟨h84,Tryd.f84,Tryd.func84,t84⟩,
 .inl ⟨h85,Tryd.f85,Tryd.func85,t85⟩,
 .inl ⟨h86,Tryd.f86,Tryd.func86,t86⟩,
 .inl ⟨h87,Tryd.f87,Tryd.func87,t87⟩,
 .inl ⟨h88,Tryd.f88,Tryd.func88,t88⟩,
 .inl ⟨h89,Tryd.f89,Tryd.func89,t89⟩,
 .inl ⟨h93,Tryd.f93,Tryd.func93,t93⟩,
 .inl ⟨h105,Tryd.f105,Tryd.func105,t105⟩,
 .inl ⟨h106,Tryd.f106,Tryd.func106,t106⟩,
 .inl ⟨h107,Tryd.f107,Tryd.func107,t107⟩,
 .inl ⟨h108,Tryd.f108,Tryd.func108,t108⟩,
 .inl ⟨h109,Tryd.f109,Tryd.func109,t109⟩,
 .inl ⟨h110,Tryd.f110,Tryd.func110,t110⟩,
 .inl ⟨h111,Tryd.f111,Tryd.func111,t111⟩,
 .inl ⟨h112,Tryd.f112,Tryd.func112,t112⟩,
 .inr ⟨_,rfl,back_ok Tryd.func113 t113 back129⟩,
 .inl ⟨h114,Tryd.f114,Tryd.func114,t114⟩,
 .inl ⟨h118,Tryd.f118,Tryd.func118,t118⟩,
 .inl ⟨h119,Tryd.f119,Tryd.func119,t119⟩,
 .inr ⟨_,rfl,compact120⟩,
 .inl ⟨h121,Tryd.f121,Tryd.func121,t121⟩,
 .inl ⟨h122,Tryd.f122,Tryd.func122,t122⟩,
 .inl ⟨h126,Tryd.f126,Tryd.func126,t126⟩,
 .inl ⟨h127,Tryd.f127,Tryd.func127,t127⟩,
 .inl ⟨h128,Tryd.f128,Tryd.func128,t128⟩,
 .inl ⟨h129,Tryd.f129,Tryd.func129,t129⟩,
 .inl ⟨h149,Tryd.f149,Tryd.func149,t149⟩,
 .inl ⟨h150,Tryd.f150,Tryd.func150,t150⟩,
 .inl ⟨h159,Tryd.f159,Tryd.func159,t159⟩,
 .inl ⟨h160,Tryd.f160,Tryd.func160,t160⟩,
 .inl ⟨h163,Tryd.f163,Tryd.func163,t163⟩,
 .inl ⟨h180,Tryd.f180,Tryd.func180,t180⟩,
 .inl ⟨h181,Tryd.f181,Tryd.func181,t181⟩,
 .inl ⟨h182,Tryd.f182,Tryd.func182,t182⟩,
 .inl ⟨h183,Tryd.f183,Tryd.func183,t183⟩,
 .inl ⟨h184,Tryd.f184,Tryd.func184,t184⟩,
 .inl ⟨h185,Tryd.f185,Tryd.func185,t185⟩,
 .inl ⟨h186,Tryd.f186,Tryd.func186,t186⟩,
 .inl ⟨h187,Tryd.f187,Tryd.func187,t187⟩,
 .inl ⟨h188,Tryd.f188,Tryd.func188,t188⟩,
 .inl ⟨h189,Tryd.f189,Tryd.func189,t189⟩,
 .inl ⟨h190,Tryd.f190,Tryd.func190,t190⟩,trivial⟩
theorem run_11 (n:Nat) (args:List AV) (m:Mem):run A (n+1) 11 args m=fnEv (run A n) (ev A n).2 a11 args m:=run_of rfl n args m
theorem run_13 (n:Nat) (args:List AV) (m:Mem):run A (n+1) 13 args m=fnEv (run A n) (ev A n).2 a13 args m:=run_of rfl n args m
theorem run_21 (n:Nat) (args:List AV) (m:Mem):run A (n+1) 21 args m=fnEv (run A n) (ev A n).2 a21 args m:=run_of rfl n args m
theorem run_24 (n:Nat) (args:List AV) (m:Mem):run A (n+1) 24 args m=fnEv (run A n) (ev A n).2 a24 args m:=run_of rfl n args m
theorem run_36 (n:Nat) (args:List AV) (m:Mem):run A (n+1) 36 args m=fnEv (run A n) (ev A n).2 a36 args m:=run_of rfl n args m
theorem run_37 (n:Nat) (args:List AV) (m:Mem):run A (n+1) 37 args m=fnEv (run A n) (ev A n).2 a37 args m:=run_of rfl n args m
theorem run_38 (n:Nat) (args:List AV) (m:Mem):run A (n+1) 38 args m=fnEv (run A n) (ev A n).2 a38 args m:=run_of rfl n args m
theorem run_40 (n:Nat) (args:List AV) (m:Mem):run A (n+1) 40 args m=fnEv (run A n) (ev A n).2 a40 args m:=run_of rfl n args m
theorem run_41 (n:Nat) (args:List AV) (m:Mem):run A (n+1) 41 args m=fnEv (run A n) (ev A n).2 a41 args m:=run_of rfl n args m
theorem run_42 (n:Nat) (args:List AV) (m:Mem):run A (n+1) 42 args m=fnEv (run A n) (ev A n).2 a42 args m:=run_of rfl n args m
theorem run_43 (n:Nat) (args:List AV) (m:Mem):run A (n+1) 43 args m=fnEv (run A n) (ev A n).2 a43 args m:=run_of rfl n args m
theorem run_44 (n:Nat) (args:List AV) (m:Mem):run A (n+1) 44 args m=fnEv (run A n) (ev A n).2 a44 args m:=run_of rfl n args m
theorem run_45 (n:Nat) (args:List AV) (m:Mem):run A (n+1) 45 args m=fnEv (run A n) (ev A n).2 a45 args m:=run_of rfl n args m
theorem run_47 (n:Nat) (args:List AV) (m:Mem):run A (n+1) 47 args m=fnEv (run A n) (ev A n).2 a47 args m:=run_of rfl n args m
theorem run_49 (n:Nat) (args:List AV) (m:Mem):run A (n+1) 49 args m=fnEv (run A n) (ev A n).2 a49 args m:=run_of rfl n args m
theorem run_50 (n:Nat) (args:List AV) (m:Mem):run A (n+1) 50 args m=fnEv (run A n) (ev A n).2 a50 args m:=run_of rfl n args m
theorem run_51 (n:Nat) (args:List AV) (m:Mem):run A (n+1) 51 args m=fnEv (run A n) (ev A n).2 a51 args m:=run_of rfl n args m
theorem run_52 (n:Nat) (args:List AV) (m:Mem):run A (n+1) 52 args m=fnEv (run A n) (ev A n).2 a52 args m:=run_of rfl n args m
theorem run_53 (n:Nat) (args:List AV) (m:Mem):run A (n+1) 53 args m=fnEv (run A n) (ev A n).2 a53 args m:=run_of rfl n args m
theorem run_54 (n:Nat) (args:List AV) (m:Mem):run A (n+1) 54 args m=fnEv (run A n) (ev A n).2 a54 args m:=run_of rfl n args m
theorem run_62 (n:Nat) (args:List AV) (m:Mem):run A (n+1) 62 args m=fnEv (run A n) (ev A n).2 a62 args m:=run_of rfl n args m
theorem run_63 (n:Nat) (args:List AV) (m:Mem):run A (n+1) 63 args m=fnEv (run A n) (ev A n).2 a63 args m:=run_of rfl n args m
theorem run_64 (n:Nat) (args:List AV) (m:Mem):run A (n+1) 64 args m=fnEv (run A n) (ev A n).2 a64 args m:=run_of rfl n args m
theorem run_65 (n:Nat) (args:List AV) (m:Mem):run A (n+1) 65 args m=fnEv (run A n) (ev A n).2 a65 args m:=run_of rfl n args m
theorem run_67 (n:Nat) (args:List AV) (m:Mem):run A (n+1) 67 args m=fnEv (run A n) (ev A n).2 a67 args m:=run_of rfl n args m
theorem run_73 (n:Nat) (args:List AV) (m:Mem):run A (n+1) 73 args m=fnEv (run A n) (ev A n).2 a73 args m:=run_of rfl n args m
theorem run_75 (n:Nat) (args:List AV) (m:Mem):run A (n+1) 75 args m=fnEv (run A n) (ev A n).2 a75 args m:=run_of rfl n args m
theorem run_76 (n:Nat) (args:List AV) (m:Mem):run A (n+1) 76 args m=fnEv (run A n) (ev A n).2 a76 args m:=run_of rfl n args m
theorem run_77 (n:Nat) (args:List AV) (m:Mem):run A (n+1) 77 args m=fnEv (run A n) (ev A n).2 a77 args m:=run_of rfl n args m
theorem run_78 (n:Nat) (args:List AV) (m:Mem):run A (n+1) 78 args m=fnEv (run A n) (ev A n).2 a78 args m:=run_of rfl n args m
theorem run_79 (n:Nat) (args:List AV) (m:Mem):run A (n+1) 79 args m=fnEv (run A n) (ev A n).2 a79 args m:=run_of rfl n args m
theorem run_80 (n:Nat) (args:List AV) (m:Mem):run A (n+1) 80 args m=fnEv (run A n) (ev A n).2 a80 args m:=run_of rfl n args m
theorem run_81 (n:Nat) (args:List AV) (m:Mem):run A (n+1) 81 args m=fnEv (run A n) (ev A n).2 a81 args m:=run_of rfl n args m
theorem run_82 (n:Nat) (args:List AV) (m:Mem):run A (n+1) 82 args m=fnEv (run A n) (ev A n).2 a82 args m:=run_of rfl n args m
theorem run_83 (n:Nat) (args:List AV) (m:Mem):run A (n+1) 83 args m=fnEv (run A n) (ev A n).2 a83 args m:=run_of rfl n args m
theorem run_84 (n:Nat) (args:List AV) (m:Mem):run A (n+1) 84 args m=fnEv (run A n) (ev A n).2 a84 args m:=run_of rfl n args m
theorem run_85 (n:Nat) (args:List AV) (m:Mem):run A (n+1) 85 args m=fnEv (run A n) (ev A n).2 a85 args m:=run_of rfl n args m
theorem run_86 (n:Nat) (args:List AV) (m:Mem):run A (n+1) 86 args m=fnEv (run A n) (ev A n).2 a86 args m:=run_of rfl n args m
theorem run_87 (n:Nat) (args:List AV) (m:Mem):run A (n+1) 87 args m=fnEv (run A n) (ev A n).2 a87 args m:=run_of rfl n args m
theorem run_88 (n:Nat) (args:List AV) (m:Mem):run A (n+1) 88 args m=fnEv (run A n) (ev A n).2 a88 args m:=run_of rfl n args m
theorem run_89 (n:Nat) (args:List AV) (m:Mem):run A (n+1) 89 args m=fnEv (run A n) (ev A n).2 a89 args m:=run_of rfl n args m
theorem run_93 (n:Nat) (args:List AV) (m:Mem):run A (n+1) 93 args m=fnEv (run A n) (ev A n).2 a93 args m:=run_of rfl n args m
theorem run_105 (n:Nat) (args:List AV) (m:Mem):run A (n+1) 105 args m=fnEv (run A n) (ev A n).2 a105 args m:=run_of rfl n args m
theorem run_106 (n:Nat) (args:List AV) (m:Mem):run A (n+1) 106 args m=fnEv (run A n) (ev A n).2 a106 args m:=run_of rfl n args m
theorem run_107 (n:Nat) (args:List AV) (m:Mem):run A (n+1) 107 args m=fnEv (run A n) (ev A n).2 a107 args m:=run_of rfl n args m
theorem run_108 (n:Nat) (args:List AV) (m:Mem):run A (n+1) 108 args m=fnEv (run A n) (ev A n).2 a108 args m:=run_of rfl n args m
theorem run_109 (n:Nat) (args:List AV) (m:Mem):run A (n+1) 109 args m=fnEv (run A n) (ev A n).2 a109 args m:=run_of rfl n args m
theorem run_110 (n:Nat) (args:List AV) (m:Mem):run A (n+1) 110 args m=fnEv (run A n) (ev A n).2 a110 args m:=run_of rfl n args m
theorem run_111 (n:Nat) (args:List AV) (m:Mem):run A (n+1) 111 args m=fnEv (run A n) (ev A n).2 a111 args m:=run_of rfl n args m
theorem run_112 (n:Nat) (args:List AV) (m:Mem):run A (n+1) 112 args m=fnEv (run A n) (ev A n).2 a112 args m:=run_of rfl n args m
theorem run_113 (n:Nat) (args:List AV) (m:Mem):run A (n+1) 113 args m=fnEv (run A n) (ev A n).2 a113 args m:=run_of rfl n args m
theorem run_114 (n:Nat) (args:List AV) (m:Mem):run A (n+1) 114 args m=fnEv (run A n) (ev A n).2 a114 args m:=run_of rfl n args m
theorem run_118 (n:Nat) (args:List AV) (m:Mem):run A (n+1) 118 args m=fnEv (run A n) (ev A n).2 a118 args m:=run_of rfl n args m
theorem run_119 (n:Nat) (args:List AV) (m:Mem):run A (n+1) 119 args m=fnEv (run A n) (ev A n).2 a119 args m:=run_of rfl n args m
theorem run_120 (n:Nat) (args:List AV) (m:Mem):run A (n+1) 120 args m=fnEv (run A n) (ev A n).2 a120 args m:=run_of rfl n args m
theorem run_121 (n:Nat) (args:List AV) (m:Mem):run A (n+1) 121 args m=fnEv (run A n) (ev A n).2 a121 args m:=run_of rfl n args m
theorem run_122 (n:Nat) (args:List AV) (m:Mem):run A (n+1) 122 args m=fnEv (run A n) (ev A n).2 a122 args m:=run_of rfl n args m
theorem run_126 (n:Nat) (args:List AV) (m:Mem):run A (n+1) 126 args m=fnEv (run A n) (ev A n).2 a126 args m:=run_of rfl n args m
theorem run_127 (n:Nat) (args:List AV) (m:Mem):run A (n+1) 127 args m=fnEv (run A n) (ev A n).2 a127 args m:=run_of rfl n args m
theorem run_128 (n:Nat) (args:List AV) (m:Mem):run A (n+1) 128 args m=fnEv (run A n) (ev A n).2 a128 args m:=run_of rfl n args m
theorem run_129 (n:Nat) (args:List AV) (m:Mem):run A (n+1) 129 args m=fnEv (run A n) (ev A n).2 a129 args m:=run_of rfl n args m
theorem run_149 (n:Nat) (args:List AV) (m:Mem):run A (n+1) 149 args m=fnEv (run A n) (ev A n).2 a149 args m:=run_of rfl n args m
theorem run_150 (n:Nat) (args:List AV) (m:Mem):run A (n+1) 150 args m=fnEv (run A n) (ev A n).2 a150 args m:=run_of rfl n args m
theorem run_159 (n:Nat) (args:List AV) (m:Mem):run A (n+1) 159 args m=fnEv (run A n) (ev A n).2 a159 args m:=run_of rfl n args m
theorem run_160 (n:Nat) (args:List AV) (m:Mem):run A (n+1) 160 args m=fnEv (run A n) (ev A n).2 a160 args m:=run_of rfl n args m
theorem run_163 (n:Nat) (args:List AV) (m:Mem):run A (n+1) 163 args m=fnEv (run A n) (ev A n).2 a163 args m:=run_of rfl n args m
theorem run_180 (n:Nat) (args:List AV) (m:Mem):run A (n+1) 180 args m=fnEv (run A n) (ev A n).2 a180 args m:=run_of rfl n args m
theorem run_181 (n:Nat) (args:List AV) (m:Mem):run A (n+1) 181 args m=fnEv (run A n) (ev A n).2 a181 args m:=run_of rfl n args m
theorem run_182 (n:Nat) (args:List AV) (m:Mem):run A (n+1) 182 args m=fnEv (run A n) (ev A n).2 a182 args m:=run_of rfl n args m
theorem run_183 (n:Nat) (args:List AV) (m:Mem):run A (n+1) 183 args m=fnEv (run A n) (ev A n).2 a183 args m:=run_of rfl n args m
theorem run_184 (n:Nat) (args:List AV) (m:Mem):run A (n+1) 184 args m=fnEv (run A n) (ev A n).2 a184 args m:=run_of rfl n args m
theorem run_185 (n:Nat) (args:List AV) (m:Mem):run A (n+1) 185 args m=fnEv (run A n) (ev A n).2 a185 args m:=run_of rfl n args m
theorem run_186 (n:Nat) (args:List AV) (m:Mem):run A (n+1) 186 args m=fnEv (run A n) (ev A n).2 a186 args m:=run_of rfl n args m
theorem run_187 (n:Nat) (args:List AV) (m:Mem):run A (n+1) 187 args m=fnEv (run A n) (ev A n).2 a187 args m:=run_of rfl n args m
theorem run_188 (n:Nat) (args:List AV) (m:Mem):run A (n+1) 188 args m=fnEv (run A n) (ev A n).2 a188 args m:=run_of rfl n args m
theorem run_189 (n:Nat) (args:List AV) (m:Mem):run A (n+1) 189 args m=fnEv (run A n) (ev A n).2 a189 args m:=run_of rfl n args m
theorem run_190 (n:Nat) (args:List AV) (m:Mem):run A (n+1) 190 args m=fnEv (run A n) (ev A n).2 a190 args m:=run_of rfl n args m
end
end Go.Proofs.YtkmbepgofajfkaaDoor
