/- The functions of this seat, as the abstract machine has them; each is what its translation out of the program gives. Made by program. -/
import Derived.Test.YtkmbepgofajfkaaDoorProg
import Derived.Test.YtkmbepgofajfkaaDoorAgFast
import Derived.Test.YtkmbepgofajfkaaDoorAgSym
import Derived.Test.YtkmbepgofajfkaaDoorAgIt
import Derived.Test.YtkmbepgofajfkaaDoorAgDefer
namespace Go.Proofs.YtkmbepgofajfkaaDoor
open AG
noncomputable section
set_option maxRecDepth 100000
set_option maxHeartbeats 4000000
abbrev zq (d:Nat) (o:AOp):AOper:=⟨some d,o,none⟩
abbrev zp (d:Nat) (o:AOp):Bool×AOper×Bool:=(false,⟨some d,o,none⟩,false)
abbrev zm (d s:Nat):AOper:=⟨some d,.mov (.tmp s),none⟩
abbrev zn (d s:Nat):Bool×AOper×Bool:=(false,⟨some d,.mov (.tmp s),none⟩,false)
abbrev zl (d s:Nat):AOper:=⟨some d,.load none (.tmp s),none⟩
abbrev zk (d s:Nat):Bool×AOper×Bool:=(false,⟨some d,.load none (.tmp s),none⟩,false)
def h41:Hints:=⟨[2],[(0,[0,1],[]),(1,[1,2],[2]),(2,[6],[]),(3,[6],[])],[]⟩
def a41:AFn:={ n:=16,np:=2,res:=[.tmp 4],body:=
 (.seq (.keep [0,1] [] (.reg [zq 2 (.box (some 2) (.tmp 0)),zq 4 (.mov (.val .nils))]))
 (.seq (.keep [1,2] [2] (.reg [zq 8 (.load (some 8) (.tmp 2)),zm 9 1,zq 10 (.call 78 [(.tmp 8),(.tmp 9)]),zm 7 10,zq 11 (.ext (.tmp 7) 0),zq 12 (.ext (.tmp 7) 1),zm 5 11,zm 6 12]))
 (.seq (.keep [6] [] (.reg [zm 13 6,zq 14 (.call 80 [(.tmp 13),(.val (.fn 81 []))])]))
 (.seq (.keep [6] [] (.reg [zm 15 6,zm 4 15]))
 .ret)))) }
def h42:Hints:=⟨[],[(0,[0,1],[]),(1,[0,1],[]),(2,[],[]),(3,[0,1],[]),(4,[0,1,5],[]),(6,[0,1,5],[]),(7,[],[]),(5,[0,1,5],[]),(8,[],[])],[]⟩
def a42_B1:AC:=(.seq (.seq (.keep [0,1,5] [] (.reg [zm 11 5,zm 12 0,zq 13 (.lenL (.tmp 12)),zq 14 (.bin .lss (.tmp 11) (.tmp 13))]))
 (.cond (.tmp 14) .skip (.exit 0)))
 (.seq (.block 1 (.seq (.keep [0,1,5] [] (.dreg [zn 17 0,zn 18 5,zp 19 (.iaddrL 1 (.tmp 17) (.tmp 18)),zk 20 19,zn 21 1,zn 22 5,zp 23 (.iaddrL 1 (.tmp 21) (.tmp 22)),zk 24 23,zp 25 (.bin .neq (.tmp 20) (.tmp 24))]))
 (.cond (.tmp 25) (.seq (.keep [] [] (.reg [zq 4 (.mov (.val (.bool false)))]))
 .ret) .skip)))
 (.keep [0,1,5] [] (.reg [zm 15 5,zq 16 (.bin .add (.tmp 15) (.val (.int .i64 1))),zm 5 16]))))
def a42_L1:AC:=.loop a42_B1
theorem a42_L1_step (call:Caller) (again:AC→St→Option (Ex×St)) (s:St):codeEv call again a42_L1 s=match codeEv call again a42_B1 s with | some (.norm,s1)=>again a42_L1 s1 | r=>r:=rfl
def a42:AFn:={ n:=26,np:=2,res:=[.tmp 4],body:=
 (.seq (.keep [0,1] [] (.reg [zq 4 (.mov (.val (.bool false)))]))
 (.seq (.seq (.keep [0,1] [] (.reg [zm 6 0,zq 7 (.lenL (.tmp 6)),zm 8 1,zq 9 (.lenL (.tmp 8)),zq 10 (.bin .neq (.tmp 7) (.tmp 9))]))
 (.cond (.tmp 10) (.seq (.keep [] [] (.reg [zq 4 (.mov (.val (.bool false)))]))
 .ret) .skip))
 (.seq (.seq (.keep [0,1] [] (.reg [zq 5 (.mov (.val (.int .i64 0)))]))
 (.block 0 a42_L1))
 (.seq (.keep [] [] (.reg [zq 4 (.mov (.val (.bool true)))]))
 .ret)))) }
def h45:Hints:=⟨[2],[(0,[0,1],[]),(1,[1,2],[2]),(2,[1,2,6],[2]),(3,[],[]),(4,[1,2],[2])],[]⟩
def a45:AFn:={ n:=18,np:=2,res:=[.tmp 4],body:=
 (.seq (.keep [0,1] [] (.reg [zq 2 (.box (some 2) (.tmp 0)),zq 4 (.mov (.val .nils))]))
 (.seq (.seq (.keep [1,2] [2] (.reg [zq 8 (.load (some 8) (.tmp 2)),zm 9 1,zq 10 (.call 67 [(.tmp 8),(.tmp 9)]),zm 7 10,zq 11 (.ext (.tmp 7) 0),zq 12 (.ext (.tmp 7) 1),zm 5 11,zm 6 12]))
 (.seq (.keep [1,2,6] [2] (.reg [zm 13 6,zq 14 (.un .not (.tmp 13))]))
 (.cond (.tmp 14) (.seq (.keep [] [] (.reg [zq 4 (.mov (.val .nils))]))
 .ret) .skip)))
 (.seq (.keep [1,2] [2] (.reg [zq 15 (.load (some 8) (.tmp 2)),zm 16 1,zq 17 (.call 87 [(.tmp 15),(.tmp 16)]),zm 4 17]))
 .ret))) }
def h54:Hints:=⟨[1],[(0,[0],[]),(1,[1],[1]),(2,[1,6,7],[1]),(3,[1,6,7],[1]),(4,[1,4,6,7],[1]),(5,[1,5,6,7],[1]),(6,[5],[]),(7,[1,6,7],[1]),(8,[],[])],[]⟩
def a54_B1:AC:=(.seq (.keep [1,6,7] [1] (.reg [zq 8 (.bin .lss (.tmp 7) (.val (.int .i64 6)))]))
 (.seq (.cond (.tmp 8) .skip (.exit 0))
 (.seq (.block 1 (.seq (.keep [1,6,7] [1] (.reg [zq 9 (.idxA 6 1 false (.tmp 6) (.tmp 7)),zm 4 9]))
 (.seq (.keep [1,4,6,7] [1] (.reg [zm 10 4,zq 11 (.load (some 8) (.tmp 1)),zq 12 (.build [.nils,.nils,.nils,(.int .i64 0),.nils,.nils,(.int .i64 0),.nils] [(0,8,(.tmp 11))]),zq 13 (.callv (.tmp 10) [(.tmp 12)]),zm 5 13]))
 (.seq (.keep [1,5,6,7] [1] (.reg [zm 14 5,zq 15 (.bin .neq (.tmp 14) (.val (.int .i64 0)))]))
 (.cond (.tmp 15) (.seq (.keep [5] [] (.reg [zm 16 5,zm 2 16]))
 .ret) .skip)))))
 (.keep [1,6,7] [1] (.reg [zq 17 (.bin .add (.tmp 7) (.val (.int .i64 1))),zm 7 17])))))
def a54_L1:AC:=.loop a54_B1
theorem a54_L1_step (call:Caller) (again:AC→St→Option (Ex×St)) (s:St):codeEv call again a54_L1 s=match codeEv call again a54_B1 s with | some (.norm,s1)=>again a54_L1 s1 | r=>r:=rfl
def a54:AFn:={ n:=18,np:=1,res:=[.tmp 2],body:=
 (.seq (.keep [0] [] (.reg [zq 1 (.box (some 1) (.tmp 0)),zq 2 (.mov (.val (.int .i64 0)))]))
 (.seq (.seq (.keep [1] [1] (.reg [zq 6 (.load (some 6) (.val (.ptr 0 0))),zq 7 (.mov (.val (.int .i64 0)))]))
 (.block 0 a54_L1))
 (.seq (.keep [] [] (.reg [zq 2 (.mov (.val (.int .i64 0)))]))
 .ret))) }
def h67:Hints:=⟨[2],[(0,[0,1],[]),(1,[1,2],[2]),(2,[],[]),(3,[1,2],[2]),(4,[1,2,6],[2]),(5,[1,2,6,24,25],[2]),(6,[1,2,6,24,25],[2]),(7,[1,2,6,7,24,25],[2]),(8,[1,2,7,24,25],[2]),(9,[1,2,6,24,25],[2]),(10,[6],[])],[]⟩
def a67_B1:AC:=(.seq (.keep [1,2,6,24,25] [2] (.reg [zq 26 (.bin .lss (.tmp 25) (.tmp 24))]))
 (.seq (.cond (.tmp 26) .skip (.exit 0))
 (.seq (.block 1 (.seq (.keep [1,2,6,24,25] [2] (.reg [zm 27 25,zm 7 27]))
 (.seq (.keep [1,2,6,7,24,25] [2] (.reg [zq 28 (.faddr 1 (.tmp 2)),zl 29 28,zm 30 7,zq 31 (.iaddrL 3 (.tmp 29) (.tmp 30)),zq 32 (.faddr 0 (.tmp 31)),zl 33 32,zm 34 1,zq 35 (.bin .leq (.tmp 33) (.tmp 34))]))
 (.cond (.tmp 35) (.keep [1,2,7,24,25] [2] (.reg [zm 36 7,zm 6 36])) .skip))))
 (.keep [1,2,6,24,25] [2] (.reg [zq 37 (.bin .add (.tmp 25) (.val (.int .i64 1))),zm 25 37])))))
def a67_L1:AC:=.loop a67_B1
theorem a67_L1_step (call:Caller) (again:AC→St→Option (Ex×St)) (s:St):codeEv call again a67_L1 s=match codeEv call again a67_B1 s with | some (.norm,s1)=>again a67_L1 s1 | r=>r:=rfl
def a67:AFn:={ n:=39,np:=2,res:=[.tmp 4,.tmp 5],body:=
 (.seq (.keep [0,1] [] (.reg [zq 2 (.box (some 2) (.tmp 0)),zq 4 (.mov (.val (.int .i64 0))),zq 5 (.mov (.val (.bool false)))]))
 (.seq (.seq (.keep [1,2] [2] (.reg [zq 8 (.load (some 8) (.tmp 2)),zq 9 (.call 54 [(.tmp 8)]),zq 10 (.bin .neq (.tmp 9) (.val (.int .i64 0))),zm 11 10,⟨(some 12),.mov (.tmp 1),(some (11,false))⟩,⟨(some 13),.bin .lss (.tmp 12) (.val (.int .i64 0)),(some (11,false))⟩,zq 14 (.pick (.tmp 11) (.val (.bool true)) (.tmp 13)),zm 15 14,⟨(some 16),.mov (.tmp 1),(some (15,false))⟩,⟨(some 17),.faddr 0 (.tmp 2),(some (15,false))⟩,⟨(some 18),.load none (.tmp 17),(some (15,false))⟩,⟨(some 19),.lenL (.tmp 18),(some (15,false))⟩,⟨(some 20),.bin .geq (.tmp 16) (.tmp 19),(some (15,false))⟩,zq 21 (.pick (.tmp 15) (.val (.bool true)) (.tmp 20))]))
 (.cond (.tmp 21) (.seq (.keep [] [] (.reg [zq 4 (.mov (.val (.int .i64 0))),zq 5 (.mov (.val (.bool false)))]))
 .ret) .skip))
 (.seq (.keep [1,2] [2] (.reg [zq 6 (.mov (.val (.int .i64 0)))]))
 (.seq (.seq (.keep [1,2,6] [2] (.reg [zq 22 (.faddr 1 (.tmp 2)),zl 23 22,zq 24 (.lenL (.tmp 23)),zq 25 (.mov (.val (.int .i64 0)))]))
 (.block 0 a67_L1))
 (.seq (.keep [6] [] (.reg [zm 38 6,zm 4 38,zq 5 (.mov (.val (.bool true)))]))
 .ret))))) }
def h78:Hints:=⟨[],[(0,[0,1],[]),(1,[1,2,4,5],[]),(2,[4,5],[]),(3,[1,2,4,5],[]),(4,[1,2,4,5,6],[]),(5,[1,2,4,5,6,7],[]),(6,[1,2,4,5,7],[]),(7,[4,5],[])],[]⟩
def a78:AFn:={ n:=37,np:=2,res:=[.cell 4 none,.cell 5 none],body:=
 (.seq (.keep [0,1] [] (.reg [zq 2 (.box none (.tmp 0)),zq 4 (.alloc none [.nils]),zq 5 (.alloc none [.nils])]))
 (.seq (.seq (.keep [1,2,4,5] [] (.reg [zm 8 1,zq 9 (.bin .lss (.tmp 8) (.val (.int .i64 0))),zm 10 9,⟨(some 11),.mov (.tmp 1),(some (10,false))⟩,⟨(some 12),.faddr 1 (.tmp 2),(some (10,false))⟩,⟨(some 13),.load none (.tmp 12),(some (10,false))⟩,⟨(some 14),.lenL (.tmp 13),(some (10,false))⟩,⟨(some 15),.bin .geq (.tmp 11) (.tmp 14),(some (10,false))⟩,zq 16 (.pick (.tmp 10) (.val (.bool true)) (.tmp 15)),zm 17 16,⟨(some 18),.load (some 8) (.tmp 2),(some (17,false))⟩,⟨(some 19),.call 54 [(.tmp 18)],(some (17,false))⟩,⟨(some 20),.bin .neq (.tmp 19) (.val (.int .i64 0)),(some (17,false))⟩,zq 21 (.pick (.tmp 17) (.val (.bool true)) (.tmp 20))]))
 (.cond (.tmp 21) (.seq (.keep [4,5] [] (.reg [⟨none,.store 1 (.tmp 4) (.val .nils),none⟩,⟨none,.store 1 (.tmp 5) (.val .nils),none⟩]))
 .ret) .skip))
 (.seq (.keep [1,2,4,5] [] (.reg [zq 22 (.faddr 0 (.tmp 2)),zl 23 22,zq 24 (.lenL (.tmp 23)),zq 25 (.make 1 1 [(.int .u8 0)] (.tmp 24) (.tmp 24)),zq 6 (.alloc none [.nils]),⟨none,.store 1 (.tmp 6) (.tmp 25),none⟩]))
 (.seq (.keep [1,2,4,5,6] [] (.reg [zq 7 (.alloc none [.nilf])]))
 (.seq (.keep [1,2,4,5,6,7] [] (.reg [zq 26 (.mkfn 113 [(.tmp 6),(.tmp 2),(.tmp 7),(.tmp 5),(.tmp 4)]),⟨none,.store 1 (.tmp 7) (.tmp 26),none⟩]))
 (.seq (.keep [1,2,4,5,7] [] (.dreg [zk 27 7,zp 28 (.faddr 1 (.tmp 2)),zk 29 28,zn 30 1,zp 31 (.iaddrL 3 (.tmp 29) (.tmp 30)),zp 32 (.faddr 0 (.tmp 31)),zk 33 32,zp 34 (.callv (.tmp 27) [(.tmp 33)])]))
 (.seq (.keep [4,5] [] (.dreg [zk 35 4,(true,zl 36 5,false),(true,⟨none,.store 1 (.tmp 4) (.tmp 35),none⟩,false),(false,⟨none,.store 1 (.tmp 5) (.tmp 36),none⟩,false)]))
 .ret))))))) }
def h81:Hints:=⟨[],[(0,[0,1],[]),(1,[2,3],[])],[]⟩
def a81:AFn:={ n:=8,np:=2,res:=[.tmp 4],body:=
 (.seq (.keep [0,1] [] (.reg [zq 2 (.box none (.tmp 0)),zq 3 (.box none (.tmp 1)),zq 4 (.mov (.val (.int .i64 0)))]))
 (.seq (.keep [2,3] [] (.dreg [zp 5 (.slcA 2 1 (.tmp 2) none none none),zp 6 (.slcA 2 1 (.tmp 3) none none none),zp 7 (.call 82 [(.tmp 5),(.tmp 6)]),zn 4 7]))
 .ret)) }
def h82:Hints:=⟨[],[(0,[0,1],[]),(1,[0,1],[]),(2,[0,1,9,10,11],[]),(3,[0,1,9,10,11],[]),(4,[0,1,5,6,9,10,11],[]),(5,[],[]),(6,[0,1,5,6,9,10,11],[]),(7,[0,1,6,7,9,10,11],[]),(8,[0,1,8,9,10,11],[]),(9,[8],[]),(10,[0,1,9,10,11],[]),(11,[0,1],[]),(12,[],[]),(13,[],[])],[]⟩
def a82_B1:AC:=(.seq (.keep [0,1,9,10,11] [] (.reg [zq 12 (.bin .lss (.tmp 11) (.tmp 10))]))
 (.seq (.cond (.tmp 12) .skip (.exit 0))
 (.seq (.block 1 (.seq (.keep [0,1,9,10,11] [] (.reg [zm 13 11,zq 14 (.iaddrL 1 (.tmp 9) (.tmp 11)),zl 15 14,zm 5 13,zm 6 15]))
 (.seq (.seq (.keep [0,1,5,6,9,10,11] [] (.reg [zm 16 5,zm 17 1,zq 18 (.lenL (.tmp 17)),zq 19 (.bin .geq (.tmp 16) (.tmp 18))]))
 (.cond (.tmp 19) (.seq (.keep [] [] (.reg [zq 4 (.mov (.val (.int .i64 1)))]))
 .ret) .skip))
 (.seq (.keep [0,1,5,6,9,10,11] [] (.reg [zm 20 1,zm 21 5,zq 22 (.iaddrL 1 (.tmp 20) (.tmp 21)),zl 23 22,zm 7 23]))
 (.seq (.keep [0,1,6,7,9,10,11] [] (.reg [zm 24 6,zm 25 7,zq 26 (.call 118 [(.tmp 24),(.tmp 25)]),zm 8 26]))
 (.seq (.keep [0,1,8,9,10,11] [] (.reg [zm 27 8,zq 28 (.bin .neq (.tmp 27) (.val (.int .i64 0)))]))
 (.cond (.tmp 28) (.seq (.keep [8] [] (.reg [zm 29 8,zm 4 29]))
 .ret) .skip)))))))
 (.keep [0,1,9,10,11] [] (.reg [zq 30 (.bin .add (.tmp 11) (.val (.int .i64 1))),zm 11 30])))))
def a82_L1:AC:=.loop a82_B1
theorem a82_L1_step (call:Caller) (again:AC→St→Option (Ex×St)) (s:St):codeEv call again a82_L1 s=match codeEv call again a82_B1 s with | some (.norm,s1)=>again a82_L1 s1 | r=>r:=rfl
def a82:AFn:={ n:=36,np:=2,res:=[.tmp 4],body:=
 (.seq (.keep [0,1] [] (.reg [zq 4 (.mov (.val (.int .i64 0)))]))
 (.seq (.seq (.keep [0,1] [] (.reg [zm 9 0,zq 10 (.lenL (.tmp 9)),zq 11 (.mov (.val (.int .i64 0)))]))
 (.block 0 a82_L1))
 (.seq (.seq (.keep [0,1] [] (.reg [zm 31 0,zq 32 (.lenL (.tmp 31)),zm 33 1,zq 34 (.lenL (.tmp 33)),zq 35 (.bin .lss (.tmp 32) (.tmp 34))]))
 (.cond (.tmp 35) (.seq (.keep [] [] (.reg [zq 4 (.mov (.val (.int .i64 (-1))))]))
 .ret) .skip))
 (.seq (.keep [] [] (.reg [zq 4 (.mov (.val (.int .i64 0)))]))
 .ret)))) }
def h83:Hints:=⟨[],[(0,[0],[])],[]⟩
def a83:AFn:={ n:=3,np:=1,res:=[],body:=
 (.keep [0] [] (.reg [zl 1 0,zq 2 (.call 84 [(.tmp 1)])])) }
def h84:Hints:=⟨[],[(0,[0],[]),(1,[0,2,3],[]),(3,[0,2,3],[]),(2,[0,2,3],[])],[]⟩
def a84_B1:AC:=(.seq (.seq (.keep [0,2,3] [] (.reg [zm 7 2,zm 8 3,zq 9 (.bin .lss (.tmp 7) (.tmp 8))]))
 (.cond (.tmp 9) .skip (.exit 0)))
 (.seq (.block 1 (.keep [0,2,3] [] (.dreg [zn 14 0,zn 15 2,zn 16 0,zn 17 3,zn 18 0,zn 19 3,zp 20 (.iaddrL 1 (.tmp 18) (.tmp 19)),zk 21 20,zn 22 0,zn 23 2,zp 24 (.iaddrL 1 (.tmp 22) (.tmp 23)),zk 25 24,zp 26 (.iaddrL 1 (.tmp 14) (.tmp 15)),(false,⟨none,.store 1 (.tmp 26) (.tmp 21),none⟩,false),zp 27 (.iaddrL 1 (.tmp 16) (.tmp 17)),(false,⟨none,.store 1 (.tmp 27) (.tmp 25),none⟩,false)])))
 (.keep [0,2,3] [] (.reg [zm 10 2,zq 11 (.bin .add (.tmp 10) (.val (.int .i64 1))),zm 12 3,zq 13 (.bin .sub (.tmp 12) (.val (.int .i64 1))),zm 2 11,zm 3 13]))))
def a84_L1:AC:=.loop a84_B1
theorem a84_L1_step (call:Caller) (again:AC→St→Option (Ex×St)) (s:St):codeEv call again a84_L1 s=match codeEv call again a84_B1 s with | some (.norm,s1)=>again a84_L1 s1 | r=>r:=rfl
def a84:AFn:={ n:=28,np:=1,res:=[],body:=
 (.seq (.keep [0] [] (.reg [zm 4 0,zq 5 (.lenL (.tmp 4)),zq 6 (.bin .sub (.tmp 5) (.val (.int .i64 1))),zq 2 (.mov (.val (.int .i64 0))),zm 3 6]))
 (.block 0 a84_L1)) }
def h87:Hints:=⟨[2],[(0,[0,1],[]),(1,[1,2],[2]),(2,[1,5,6,7],[]),(3,[1,5,6,7,8],[]),(4,[1,5,6,8],[]),(5,[5,6,8],[]),(6,[5,8],[]),(7,[8],[]),(8,[8],[])],[]⟩
def a87:AFn:={ n:=34,np:=2,res:=[.tmp 4],body:=
 (.seq (.keep [0,1] [] (.reg [zq 2 (.box (some 2) (.tmp 0)),zq 4 (.mov (.val .nils))]))
 (.seq (.keep [1,2] [2] (.reg [zq 10 (.faddr 0 (.tmp 2)),zl 11 10,zm 12 1,zq 13 (.iaddrL 4 (.tmp 11) (.tmp 12)),zq 14 (.load (some 4) (.tmp 13)),zq 15 (.call 119 [(.tmp 14)]),zm 9 15,zq 16 (.ext (.tmp 9) 0),zq 17 (.ext (.tmp 9) 1),zq 18 (.ext (.tmp 9) 2),zm 5 16,zm 6 17,zm 7 18]))
 (.seq (.keep [1,5,6,7] [] (.reg [zq 8 (.mov (.val .nils))]))
 (.seq (.seq (.keep [1,5,6,7,8] [] (.reg [zm 19 7]))
 (.cond (.tmp 19) (.keep [1,5,6,8] [] (.reg [zm 20 8,zm 21 1,zq 22 (.bin .add (.tmp 21) (.val (.int .i64 1))),zq 23 (.mkslc 1 1 [(.int .i64 0)] [(0,(.tmp 22))]),zq 24 (.app none 1 8 (.tmp 20) (.tmp 23)),zm 8 24])) .skip))
 (.seq (.seq (.keep [5,6,8] [] (.reg [zm 25 6]))
 (.cond (.tmp 25) (.keep [5,8] [] (.reg [zm 26 8,zm 27 5,zq 28 (.mkslc 1 1 [(.int .i64 0)] [(0,(.tmp 27))]),zq 29 (.app none 1 8 (.tmp 26) (.tmp 28)),zm 8 29])) .skip))
 (.seq (.keep [8] [] (.reg [zm 30 8,zq 31 (.call 79 [(.tmp 30)])]))
 (.seq (.keep [8] [] (.reg [zm 32 8,zq 33 (.call 120 [(.tmp 32)]),zm 4 33]))
 .ret))))))) }
def h109:Hints:=⟨[2],[(0,[0,1],[]),(1,[1,2],[2]),(2,[1,2],[2]),(3,[1,2],[2])],[]⟩
def a109:AFn:={ n:=39,np:=2,res:=[.tmp 4,.tmp 5],body:=
 (.seq (.keep [0,1] [] (.reg [zq 2 (.box (some 2) (.tmp 0)),zq 4 (.mov (.val (.int .i64 0))),zq 5 (.mov (.val (.int .i64 0)))]))
 (.seq (.seq (.keep [1,2] [2] (.reg [zm 6 1,zq 7 (.bin .add (.tmp 6) (.val (.int .i64 1))),zq 8 (.faddr 0 (.tmp 2)),zq 9 (.faddr 1 (.tmp 8)),zl 10 9,zq 11 (.lenL (.tmp 10)),zq 12 (.bin .lss (.tmp 7) (.tmp 11))]))
 (.cond (.tmp 12) (.seq (.keep [1,2] [2] (.dreg [zp 13 (.faddr 0 (.tmp 2)),zp 14 (.faddr 1 (.tmp 13)),zk 15 14,zn 16 1,zp 17 (.iaddrL 3 (.tmp 15) (.tmp 16)),zp 18 (.faddr 0 (.tmp 17)),zk 19 18,zp 20 (.faddr 0 (.tmp 2)),zp 21 (.faddr 1 (.tmp 20)),zk 22 21,zn 23 1,zp 24 (.bin .add (.tmp 23) (.val (.int .i64 1))),zp 25 (.iaddrL 3 (.tmp 22) (.tmp 24)),zp 26 (.faddr 0 (.tmp 25)),zk 27 26,zn 4 19,zn 5 27]))
 .ret) .skip))
 (.seq (.keep [1,2] [2] (.dreg [zp 28 (.faddr 0 (.tmp 2)),zp 29 (.faddr 1 (.tmp 28)),zk 30 29,zn 31 1,zp 32 (.iaddrL 3 (.tmp 30) (.tmp 31)),zp 33 (.faddr 0 (.tmp 32)),zk 34 33,zp 35 (.faddr 0 (.tmp 2)),zp 36 (.faddr 0 (.tmp 35)),zk 37 36,zp 38 (.lenL (.tmp 37)),zn 4 34,zn 5 38]))
 .ret))) }
def h113:Hints:=⟨[],[],[]⟩
def b113:BackFn:=
{ n:=42,np:=6,res:=[],g:=15,it:=129,p0:=16,p1:=17,A:=
 (.reg [zq 6 (.box none (.tmp 0))]),A1:=
 (.reg [zl 9 1,zl 10 6,zq 11 (.iaddrL 1 (.tmp 9) (.tmp 10)),⟨none,.store 1 (.tmp 11) (.val (.int .u8 1)),none⟩]),B:=
 (.reg [zq 12 (.load (some 8) (.tmp 2)),zl 13 6,zq 14 (.call 87 [(.tmp 12),(.tmp 13)]),zq 15 (.call 114 [(.tmp 14)])]),asg:=
 (.reg [zm 8 17]),bdy:=
 (.block 1 (.seq (.reg [zl 18 1,zm 19 8,zq 20 (.iaddrL 1 (.tmp 18) (.tmp 19)),zl 21 20])
 (.block 2 (.seq (.reg [zq 23 (.bin .eql (.tmp 21) (.val (.int .u8 0))),zm 22 23])
 (.cond (.tmp 22) (.reg [zl 24 3,zm 25 8,zq 26 (.callv (.tmp 24) [(.tmp 25)])]) (.seq (.reg [zq 28 (.bin .eql (.tmp 21) (.val (.int .u8 1))),zm 27 28])
 (.cond (.tmp 27) (.reg [zl 29 4,zl 30 6,zm 31 8,zq 32 (.build [(.int .i64 0),(.int .i64 0)] [(0,1,(.tmp 30)),(1,1,(.tmp 31))]),zq 33 (.mkslc 2 1 [(.int .i64 0),(.int .i64 0)] [(0,(.tmp 32))]),zq 34 (.app none 2 16 (.tmp 29) (.tmp 33)),⟨none,.store 1 (.tmp 4) (.tmp 34),none⟩]) .skip))))))),C:=
 (.seq (.reg [zl 35 1,zl 36 6,zq 37 (.iaddrL 1 (.tmp 35) (.tmp 36)),⟨none,.store 1 (.tmp 37) (.val (.int .u8 2)),none⟩])
 (.reg [zl 38 5,zl 39 6,zq 40 (.mkslc 1 1 [(.int .i64 0)] [(0,(.tmp 39))]),zq 41 (.app none 1 8 (.tmp 38) (.tmp 40)),⟨none,.store 1 (.tmp 5) (.tmp 41),none⟩])) }
def h114:Hints:=⟨[],[(0,[0],[]),(1,[1],[])],[]⟩
def a114:AFn:={ n:=4,np:=1,res:=[.tmp 2],body:=
 (.seq (.keep [0] [] (.reg [zq 1 (.box none (.tmp 0)),zq 2 (.mov (.val .nilf))]))
 (.seq (.keep [1] [] (.reg [zq 3 (.mkfn 129 [(.tmp 1)]),zm 2 3]))
 .ret)) }
def h118:Hints:=⟨[],[(0,[0,1],[]),(1,[0,1],[]),(2,[0,1,5],[]),(3,[0,1,5,6],[]),(4,[6],[]),(5,[],[]),(6,[],[]),(7,[0,1,6],[]),(8,[],[]),(9,[0,1],[]),(10,[],[]),(11,[0,1],[]),(12,[],[]),(13,[],[])],[]⟩
def a118:AFn:={ n:=20,np:=2,res:=[.tmp 4],body:=
 (.seq (.keep [0,1] [] (.reg [zq 4 (.mov (.val (.int .i64 0)))]))
 (.seq (.keep [0,1] [] (.reg [zm 7 0,zq 8 (.call 149 [(.tmp 7)]),zm 5 8]))
 (.seq (.keep [0,1,5] [] (.reg [zm 9 1,zq 10 (.call 149 [(.tmp 9)]),zm 6 10]))
 (.seq (.seq (.keep [0,1,5,6] [] (.reg [zm 11 5]))
 (.cond (.tmp 11) (.seq (.seq (.keep [6] [] (.reg [zm 12 6]))
 (.cond (.tmp 12) (.seq (.keep [] [] (.reg [zq 4 (.mov (.val (.int .i64 0)))]))
 .ret) .skip))
 (.seq (.keep [] [] (.reg [zq 4 (.mov (.val (.int .i64 (-1))))]))
 .ret)) .skip))
 (.seq (.seq (.keep [0,1,6] [] (.reg [zm 13 6]))
 (.cond (.tmp 13) (.seq (.keep [] [] (.reg [zq 4 (.mov (.val (.int .i64 1)))]))
 .ret) .skip))
 (.seq (.seq (.keep [0,1] [] (.reg [zm 14 0,zm 15 1,zq 16 (.bin .lss (.tmp 14) (.tmp 15))]))
 (.cond (.tmp 16) (.seq (.keep [] [] (.reg [zq 4 (.mov (.val (.int .i64 (-1))))]))
 .ret) .skip))
 (.seq (.seq (.keep [0,1] [] (.reg [zm 17 0,zm 18 1,zq 19 (.bin .gtr (.tmp 17) (.tmp 18))]))
 (.cond (.tmp 19) (.seq (.keep [] [] (.reg [zq 4 (.mov (.val (.int .i64 1)))]))
 .ret) .skip))
 (.seq (.keep [] [] (.reg [zq 4 (.mov (.val (.int .i64 0)))]))
 .ret)))))))) }
def h119:Hints:=⟨[1],[(0,[0],[]),(1,[1],[1]),(2,[],[]),(3,[1],[1]),(4,[1,9],[1]),(5,[1,9],[1]),(6,[],[]),(7,[1,9],[1]),(8,[1],[1]),(9,[1,9],[1]),(10,[1],[1]),(11,[],[])],[]⟩
def a119:AFn:={ n:=21,np:=1,res:=[.tmp 2,.tmp 3,.tmp 4],body:=
 (.seq (.keep [0] [] (.reg [zq 1 (.box (some 1) (.tmp 0)),zq 2 (.mov (.val (.int .i64 0))),zq 3 (.mov (.val (.bool false))),zq 4 (.mov (.val (.bool false)))]))
 (.seq (.seq (.keep [1] [1] (.reg [zq 5 (.load (some 4) (.tmp 1)),zq 6 (.call 122 [(.tmp 5)]),zq 7 (.bin .neq (.tmp 6) (.val (.int .i64 0)))]))
 (.cond (.tmp 7) (.seq (.keep [] [] (.reg [zq 2 (.mov (.val (.int .i64 0))),zq 3 (.mov (.val (.bool false))),zq 4 (.mov (.val (.bool false)))]))
 .ret) .skip))
 (.seq (.seq (.keep [1] [1] (.reg [zq 8 (.faddr 0 (.tmp 1)),zl 9 8]))
 (.block 0 (.seq (.seq (.keep [1,9] [1] (.reg [zq 11 (.bin .eql (.tmp 9) (.val (.int .i64 1))),zm 10 11]))
 (.cond (.tmp 10) .skip (.keep [1,9] [1] (.reg [zq 12 (.bin .eql (.tmp 9) (.val (.int .i64 18))),zm 10 12]))))
 (.cond (.tmp 10) (.seq (.keep [] [] (.reg [zq 2 (.mov (.val (.int .i64 0))),zq 3 (.mov (.val (.bool false))),zq 4 (.mov (.val (.bool false)))]))
 .ret) (.seq (.keep [1,9] [1] (.reg [zq 14 (.bin .eql (.tmp 9) (.val (.int .i64 15))),zm 13 14]))
 (.cond (.tmp 13) (.seq (.keep [1] [1] (.reg [zq 15 (.faddr 1 (.tmp 1)),zl 16 15,zm 2 16,zq 3 (.mov (.val (.bool true))),zq 4 (.mov (.val (.bool false)))]))
 .ret) (.seq (.keep [1,9] [1] (.reg [zq 18 (.bin .eql (.tmp 9) (.val (.int .i64 16))),zm 17 18]))
 (.cond (.tmp 17) (.seq (.keep [1] [1] (.reg [zq 19 (.faddr 1 (.tmp 1)),zl 20 19,zm 2 20,zq 3 (.mov (.val (.bool true))),zq 4 (.mov (.val (.bool true)))]))
 .ret) .skip))))))))
 (.seq (.keep [] [] (.reg [zq 2 (.mov (.val (.int .i64 0))),zq 3 (.mov (.val (.bool false))),zq 4 (.mov (.val (.bool true)))]))
 .ret)))) }
def h122:Hints:=⟨[1,3],[(0,[0],[]),(1,[1],[1]),(2,[],[]),(3,[1],[1]),(4,[1,3],[1,3]),(5,[],[]),(6,[],[])],[]⟩
def a122:AFn:={ n:=41,np:=1,res:=[.tmp 2],body:=
 (.seq (.keep [0] [] (.reg [zq 1 (.box (some 1) (.tmp 0)),zq 2 (.mov (.val (.int .i64 0)))]))
 (.seq (.seq (.keep [1] [1] (.reg [zq 4 (.faddr 0 (.tmp 1)),zl 5 4,zq 6 (.bin .lss (.tmp 5) (.val (.int .i64 1))),zm 7 6,⟨(some 8),.faddr 0 (.tmp 1),(some (7,false))⟩,⟨(some 9),.load none (.tmp 8),(some (7,false))⟩,⟨(some 10),.load none (.val (.ptr 1 0)),(some (7,false))⟩,⟨(some 11),.lenL (.tmp 10),(some (7,false))⟩,⟨(some 12),.bin .geq (.tmp 9) (.tmp 11),(some (7,false))⟩,zq 13 (.pick (.tmp 7) (.val (.bool true)) (.tmp 12))]))
 (.cond (.tmp 13) (.seq (.keep [] [] (.reg [zq 2 (.mov (.val (.int .i64 2)))]))
 .ret) .skip))
 (.seq (.keep [1] [1] (.reg [zq 14 (.load none (.val (.ptr 1 0))),zq 15 (.faddr 0 (.tmp 1)),zl 16 15,zq 17 (.iaddrL 6 (.tmp 14) (.tmp 16)),zq 18 (.load (some 6) (.tmp 17)),⟨(some 3),.alloc (some 3) [(.str ⟨#[]⟩),(.int .i64 0),(.int .i64 0),(.int .i64 0),(.int .i64 0),(.int .i64 0)],none⟩,⟨none,.store 6 (.tmp 3) (.tmp 18),none⟩]))
 (.seq (.seq (.keep [1,3] [1,3] (.reg [zq 19 (.faddr 1 (.tmp 3)),zl 20 19,zq 21 (.faddr 1 (.tmp 1)),zl 22 21,zq 23 (.call 150 [(.tmp 20),(.tmp 22)]),zq 24 (.un .not (.tmp 23)),zm 25 24,⟨(some 26),.faddr 2 (.tmp 3),(some (25,false))⟩,⟨(some 27),.load none (.tmp 26),(some (25,false))⟩,⟨(some 28),.faddr 2 (.tmp 1),(some (25,false))⟩,⟨(some 29),.load none (.tmp 28),(some (25,false))⟩,⟨(some 30),.call 150 [(.tmp 27),(.tmp 29)],(some (25,false))⟩,⟨(some 31),.un .not (.tmp 30),(some (25,false))⟩,zq 32 (.pick (.tmp 25) (.val (.bool true)) (.tmp 31)),zm 33 32,⟨(some 34),.faddr 3 (.tmp 3),(some (33,false))⟩,⟨(some 35),.load none (.tmp 34),(some (33,false))⟩,⟨(some 36),.faddr 3 (.tmp 1),(some (33,false))⟩,⟨(some 37),.load none (.tmp 36),(some (33,false))⟩,⟨(some 38),.call 150 [(.tmp 35),(.tmp 37)],(some (33,false))⟩,⟨(some 39),.un .not (.tmp 38),(some (33,false))⟩,zq 40 (.pick (.tmp 33) (.val (.bool true)) (.tmp 39))]))
 (.cond (.tmp 40) (.seq (.keep [] [] (.reg [zq 2 (.mov (.val (.int .i64 2)))]))
 .ret) .skip))
 (.seq (.keep [] [] (.reg [zq 2 (.mov (.val (.int .i64 0)))]))
 .ret))))) }
def h129:Hints:=⟨[],[(0,[0,1],[]),(1,[0,1,3],[]),(3,[0,1,3],[]),(2,[0,1,3],[])],[]⟩
def a129_B1:AC:=(.seq (.seq (.keep [0,1,3] [] (.reg [zm 7 3,zq 8 (.bin .geq (.tmp 7) (.val (.int .i64 0)))]))
 (.cond (.tmp 8) .skip (.exit 0)))
 (.seq (.block 1 (.seq (.keep [0,1,3] [] (.reg [zm 11 0,zm 12 3,zl 13 1,zm 14 3,zq 15 (.iaddrL 1 (.tmp 13) (.tmp 14)),zl 16 15,zq 17 (.callv (.tmp 11) [(.tmp 12),(.tmp 16)]),zq 18 (.un .not (.tmp 17))]))
 (.cond (.tmp 18) .ret .skip)))
 (.keep [0,1,3] [] (.reg [zm 9 3,zq 10 (.bin .sub (.tmp 9) (.val (.int .i64 1))),zm 3 10]))))
def a129_L1:AC:=.loop a129_B1
theorem a129_L1_step (call:Caller) (again:AC→St→Option (Ex×St)) (s:St):codeEv call again a129_L1 s=match codeEv call again a129_B1 s with | some (.norm,s1)=>again a129_L1 s1 | r=>r:=rfl
def a129:AFn:={ n:=19,np:=2,res:=[],body:=
 (.seq (.keep [0,1] [] (.reg [zl 4 1,zq 5 (.lenL (.tmp 4)),zq 6 (.bin .sub (.tmp 5) (.val (.int .i64 1))),zm 3 6]))
 (.block 0 a129_L1)) }
def h149:Hints:=⟨[],[(0,[0],[]),(1,[0],[])],[]⟩
def a149:AFn:={ n:=6,np:=1,res:=[.tmp 2],body:=
 (.seq (.keep [0] [] (.reg [zq 2 (.mov (.val (.bool false)))]))
 (.seq (.keep [0] [] (.reg [zm 3 0,zm 4 0,zq 5 (.bin .neq (.tmp 3) (.tmp 4)),zm 2 5]))
 .ret)) }
def h150:Hints:=⟨[],[(0,[0,1],[]),(1,[0,1],[]),(2,[1,5],[]),(3,[1],[]),(4,[1,5],[]),(5,[1],[]),(6,[1,5],[]),(7,[1],[]),(8,[1,5],[]),(9,[1],[]),(10,[1,5],[]),(11,[1],[]),(12,[1,5],[]),(13,[1],[]),(14,[1,5],[]),(15,[1],[]),(16,[1,5],[]),(17,[1],[]),(18,[1],[])],[]⟩
def a150:AFn:={ n:=70,np:=2,res:=[.tmp 4],body:=
 (.seq (.keep [0,1] [] (.reg [zq 4 (.mov (.val (.bool false)))]))
 (.seq (.seq (.keep [0,1] [] (.reg [zm 5 0]))
 (.block 0 (.seq (.keep [1,5] [] (.reg [zq 7 (.bin .eql (.tmp 5) (.val (.int .i64 0))),zm 6 7]))
 (.cond (.tmp 6) (.seq (.keep [1] [] (.reg [zm 8 1,zq 9 (.bin .eql (.tmp 8) (.val (.int .i64 0))),zm 4 9]))
 .ret) (.seq (.keep [1,5] [] (.reg [zq 11 (.bin .eql (.tmp 5) (.val (.int .i64 1))),zm 10 11]))
 (.cond (.tmp 10) (.seq (.keep [1] [] (.reg [zm 12 1,zq 13 (.bin .geq (.tmp 12) (.val (.int .i64 0))),zm 14 13,⟨(some 15),.mov (.tmp 1),(some (14,true))⟩,⟨(some 16),.bin .leq (.tmp 15) (.val (.int .i64 1048576)),(some (14,true))⟩,zq 17 (.pick (.tmp 14) (.tmp 16) (.val (.bool false))),zm 4 17]))
 .ret) (.seq (.keep [1,5] [] (.reg [zq 19 (.bin .eql (.tmp 5) (.val (.int .i64 2))),zm 18 19]))
 (.cond (.tmp 18) (.seq (.keep [1] [] (.reg [zm 20 1,zq 21 (.bin .geq (.tmp 20) (.val (.int .i64 0))),zm 22 21,⟨(some 23),.mov (.tmp 1),(some (22,true))⟩,⟨(some 24),.bin .leq (.tmp 23) (.val (.int .i64 4294967295)),(some (22,true))⟩,zq 25 (.pick (.tmp 22) (.tmp 24) (.val (.bool false))),zm 4 25]))
 .ret) (.seq (.keep [1,5] [] (.reg [zq 27 (.bin .eql (.tmp 5) (.val (.int .i64 3))),zm 26 27]))
 (.cond (.tmp 26) (.seq (.keep [1] [] (.reg [zm 28 1,zq 29 (.bin .eql (.tmp 28) (.val (.int .i64 8))),zm 30 29,⟨(some 31),.mov (.tmp 1),(some (30,false))⟩,⟨(some 32),.bin .eql (.tmp 31) (.val (.int .i64 16)),(some (30,false))⟩,zq 33 (.pick (.tmp 30) (.val (.bool true)) (.tmp 32)),zm 34 33,⟨(some 35),.mov (.tmp 1),(some (34,false))⟩,⟨(some 36),.bin .eql (.tmp 35) (.val (.int .i64 32)),(some (34,false))⟩,zq 37 (.pick (.tmp 34) (.val (.bool true)) (.tmp 36)),zm 4 37]))
 .ret) (.seq (.keep [1,5] [] (.reg [zq 39 (.bin .eql (.tmp 5) (.val (.int .i64 4))),zm 38 39]))
 (.cond (.tmp 38) (.seq (.keep [1] [] (.reg [zm 40 1,zq 41 (.bin .geq (.tmp 40) (.val (.int .i64 1))),zm 42 41,⟨(some 43),.mov (.tmp 1),(some (42,true))⟩,⟨(some 44),.bin .leq (.tmp 43) (.val (.int .i64 1048576)),(some (42,true))⟩,zq 45 (.pick (.tmp 42) (.tmp 44) (.val (.bool false))),zm 4 45]))
 .ret) (.seq (.keep [1,5] [] (.reg [zq 47 (.bin .eql (.tmp 5) (.val (.int .i64 5))),zm 46 47]))
 (.cond (.tmp 46) (.seq (.keep [1] [] (.reg [zm 48 1,zq 49 (.bin .geq (.tmp 48) (.val (.int .i64 0))),zm 50 49,⟨(some 51),.mov (.tmp 1),(some (50,true))⟩,⟨(some 52),.bin .leq (.tmp 51) (.val (.int .i64 31)),(some (50,true))⟩,zq 53 (.pick (.tmp 50) (.tmp 52) (.val (.bool false))),zm 4 53]))
 .ret) (.seq (.keep [1,5] [] (.reg [zq 55 (.bin .eql (.tmp 5) (.val (.int .i64 6))),zm 54 55]))
 (.cond (.tmp 54) (.seq (.keep [1] [] (.reg [zm 56 1,zq 57 (.bin .geq (.tmp 56) (.val (.int .i64 0))),zm 58 57,⟨(some 59),.mov (.tmp 1),(some (58,true))⟩,⟨(some 60),.bin .leq (.tmp 59) (.val (.int .i64 15)),(some (58,true))⟩,zq 61 (.pick (.tmp 58) (.tmp 60) (.val (.bool false))),zm 4 61]))
 .ret) (.seq (.keep [1,5] [] (.reg [zq 63 (.bin .eql (.tmp 5) (.val (.int .i64 7))),zm 62 63]))
 (.cond (.tmp 62) (.seq (.keep [1] [] (.reg [zm 64 1,zq 65 (.call 159 [(.tmp 64)]),⟨(some 66),.bin .neq (.tmp 65) (.val (.str ⟨#[]⟩)),none⟩,zm 4 66]))
 .ret) .skip))))))))))))))))))
 (.seq (.keep [1] [] (.reg [zm 67 1,zq 68 (.call 160 [(.tmp 67)]),⟨(some 69),.bin .neq (.tmp 68) (.val (.str ⟨#[]⟩)),none⟩,zm 4 69]))
 .ret))) }
def h159:Hints:=⟨[],[(0,[0],[]),(1,[0],[]),(2,[],[]),(3,[0],[])],[]⟩
def a159:AFn:={ n:=9,np:=1,res:=[.tmp 2],body:=
 (.seq (.keep [0] [] (.reg [⟨(some 2),.mov (.val (.str ⟨#[]⟩)),none⟩]))
 (.seq (.seq (.keep [0] [] (.reg [zm 3 0,zq 4 (.call 163 [(.tmp 3)]),zq 5 (.un .not (.tmp 4))]))
 (.cond (.tmp 5) (.seq (.keep [] [] (.reg [⟨(some 2),.mov (.val (.str ⟨#[]⟩)),none⟩]))
 .ret) .skip))
 (.seq (.keep [0] [] (.reg [zm 6 0,zq 7 (.iaddrA 20 1 (.val (.ptr 2 0)) (.tmp 6)),zl 8 7,zm 2 8]))
 .ret))) }
def h160:Hints:=⟨[],[(0,[0],[]),(1,[0],[]),(2,[3],[]),(3,[],[]),(4,[3],[]),(5,[],[]),(6,[3],[]),(7,[],[]),(8,[],[])],[]⟩
def a160:AFn:={ n:=10,np:=1,res:=[.tmp 2],body:=
 (.seq (.keep [0] [] (.reg [⟨(some 2),.mov (.val (.str ⟨#[]⟩)),none⟩]))
 (.seq (.seq (.keep [0] [] (.reg [zm 3 0]))
 (.block 0 (.seq (.keep [3] [] (.reg [zq 5 (.bin .eql (.tmp 3) (.val (.int .i64 1))),zm 4 5]))
 (.cond (.tmp 4) (.seq (.keep [] [] (.reg [⟨(some 2),.mov (.val (.str ⟨#[110,101,103]⟩)),none⟩]))
 .ret) (.seq (.keep [3] [] (.reg [zq 7 (.bin .eql (.tmp 3) (.val (.int .i64 2))),zm 6 7]))
 (.cond (.tmp 6) (.seq (.keep [] [] (.reg [⟨(some 2),.mov (.val (.str ⟨#[110,111,116]⟩)),none⟩]))
 .ret) (.seq (.keep [3] [] (.reg [zq 9 (.bin .eql (.tmp 3) (.val (.int .i64 3))),zm 8 9]))
 (.cond (.tmp 8) (.seq (.keep [] [] (.reg [⟨(some 2),.mov (.val (.str ⟨#[122,101,114,111]⟩)),none⟩]))
 .ret) .skip))))))))
 (.seq (.keep [] [] (.reg [⟨(some 2),.mov (.val (.str ⟨#[]⟩)),none⟩]))
 .ret))) }
def h163:Hints:=⟨[],[(0,[0],[]),(1,[0],[])],[]⟩
def a163:AFn:={ n:=9,np:=1,res:=[.tmp 2],body:=
 (.seq (.keep [0] [] (.reg [zq 2 (.mov (.val (.bool false)))]))
 (.seq (.keep [0] [] (.reg [zm 3 0,zq 4 (.bin .geq (.tmp 3) (.val (.int .i64 1))),zm 5 4,⟨(some 6),.mov (.tmp 0),(some (5,true))⟩,⟨(some 7),.bin .leq (.tmp 6) (.val (.int .i64 19)),(some (5,true))⟩,zq 8 (.pick (.tmp 5) (.tmp 7) (.val (.bool false))),zm 2 8]))
 .ret)) }
def h180:Hints:=⟨[1],[(0,[0],[]),(1,[1],[1]),(2,[],[]),(3,[1],[1]),(4,[47,48,49],[]),(5,[47,48,49],[]),(6,[4,47,48,49],[]),(7,[],[]),(8,[47,48,49],[]),(9,[],[])],[]⟩
def a180_R1:AC:=.keep [1] [1] (.reg [zq 5 (.faddr 0 (.tmp 1)),zq 6 (.faddr 1 (.tmp 5)),zl 7 6,zq 8 (.lenL (.tmp 7)),zq 9 (.bin .gtr (.tmp 8) (.val (.int .i64 64))),zm 10 9,⟨(some 11),.faddr 0 (.tmp 1),(some (10,false))⟩,⟨(some 12),.faddr 0 (.tmp 11),(some (10,false))⟩,⟨(some 13),.load none (.tmp 12),(some (10,false))⟩,⟨(some 14),.lenL (.tmp 13),(some (10,false))⟩,⟨(some 15),.bin .gtr (.tmp 14) (.val (.int .i64 16384)),(some (10,false))⟩,zq 16 (.pick (.tmp 10) (.val (.bool true)) (.tmp 15)),zm 17 16,⟨(some 18),.faddr 0 (.tmp 1),(some (17,false))⟩,⟨(some 19),.faddr 4 (.tmp 18),(some (17,false))⟩,⟨(some 20),.load none (.tmp 19),(some (17,false))⟩,⟨(some 21),.lenL (.tmp 20),(some (17,false))⟩,⟨(some 22),.bin .gtr (.tmp 21) (.val (.int .i64 4096)),(some (17,false))⟩,zq 23 (.pick (.tmp 17) (.val (.bool true)) (.tmp 22)),zm 24 23,⟨(some 25),.faddr 0 (.tmp 1),(some (24,false))⟩,⟨(some 26),.faddr 5 (.tmp 25),(some (24,false))⟩,⟨(some 27),.load none (.tmp 26),(some (24,false))⟩,⟨(some 28),.lenL (.tmp 27),(some (24,false))⟩,⟨(some 29),.bin .gtr (.tmp 28) (.val (.int .i64 32)),(some (24,false))⟩,zq 30 (.pick (.tmp 24) (.val (.bool true)) (.tmp 29)),zm 31 30,⟨(some 32),.faddr 0 (.tmp 1),(some (31,false))⟩,⟨(some 33),.faddr 7 (.tmp 32),(some (31,false))⟩,⟨(some 34),.load none (.tmp 33),(some (31,false))⟩,⟨(some 35),.lenL (.tmp 34),(some (31,false))⟩,⟨(some 36),.bin .gtr (.tmp 35) (.val (.int .i64 64)),(some (31,false))⟩,zq 37 (.pick (.tmp 31) (.val (.bool true)) (.tmp 36)),zm 38 37,⟨(some 39),.faddr 0 (.tmp 1),(some (38,false))⟩,⟨(some 40),.faddr 2 (.tmp 39),(some (38,false))⟩,⟨(some 41),.load none (.tmp 40),(some (38,false))⟩,⟨(some 42),.lenL (.tmp 41),(some (38,false))⟩,⟨(some 43),.bin .gtr (.tmp 42) (.val (.int .i64 32)),(some (38,false))⟩,zq 44 (.pick (.tmp 38) (.val (.bool true)) (.tmp 43))])
def a180_B1:AC:=(.seq (.keep [47,48,49] [] (.reg [zq 50 (.bin .lss (.tmp 49) (.tmp 48))]))
 (.seq (.cond (.tmp 50) .skip (.exit 0))
 (.seq (.block 1 (.seq (.keep [47,48,49] [] (.reg [zq 51 (.iaddrL 1 (.tmp 47) (.tmp 49)),zl 52 51,zm 4 52]))
 (.seq (.keep [4,47,48,49] [] (.reg [zm 53 4,zq 54 (.lenL (.tmp 53)),zq 55 (.bin .gtr (.tmp 54) (.val (.int .i64 4096)))]))
 (.cond (.tmp 55) (.seq (.keep [] [] (.reg [zq 2 (.mov (.val (.int .i64 3)))]))
 .ret) .skip))))
 (.keep [47,48,49] [] (.reg [zq 56 (.bin .add (.tmp 49) (.val (.int .i64 1))),zm 49 56])))))
def a180_L1:AC:=.loop a180_B1
theorem a180_L1_step (call:Caller) (again:AC→St→Option (Ex×St)) (s:St):codeEv call again a180_L1 s=match codeEv call again a180_B1 s with | some (.norm,s1)=>again a180_L1 s1 | r=>r:=rfl
def a180:AFn:={ n:=57,np:=1,res:=[.tmp 2],body:=
 (.seq (.keep [0] [] (.reg [zq 1 (.box (some 1) (.tmp 0)),zq 2 (.mov (.val (.int .i64 0)))]))
 (.seq (.seq a180_R1
 (.cond (.tmp 44) (.seq (.keep [] [] (.reg [zq 2 (.mov (.val (.int .i64 3)))]))
 .ret) .skip))
 (.seq (.seq (.keep [1] [1] (.reg [zq 45 (.faddr 0 (.tmp 1)),zq 46 (.faddr 7 (.tmp 45)),zl 47 46,zq 48 (.lenL (.tmp 47)),zq 49 (.mov (.val (.int .i64 0)))]))
 (.block 0 a180_L1))
 (.seq (.keep [] [] (.reg [zq 2 (.mov (.val (.int .i64 0)))]))
 .ret)))) }
def h181:Hints:=⟨[1,4],[(0,[0],[]),(1,[1],[1]),(2,[],[]),(3,[1],[1]),(4,[1,54,55,56],[1]),(5,[1,54,55,56],[1]),(6,[1,3,4,54,55,56],[1,4]),(7,[1,3,4,5,6,54,55,56],[1,4]),(8,[],[]),(9,[1,54,55,56],[1]),(10,[],[])],[]⟩
def a181_R1:AC:=.keep [1] [1] (.reg [zq 7 (.faddr 0 (.tmp 1)),zq 8 (.faddr 1 (.tmp 7)),zl 9 8,zq 10 (.lenL (.tmp 9)),zq 11 (.bin .eql (.tmp 10) (.val (.int .i64 0))),zm 12 11,⟨(some 13),.faddr 0 (.tmp 1),(some (12,false))⟩,⟨(some 14),.faddr 6 (.tmp 13),(some (12,false))⟩,⟨(some 15),.load none (.tmp 14),(some (12,false))⟩,⟨(some 16),.bin .lss (.tmp 15) (.val (.int .i64 1)),(some (12,false))⟩,zq 17 (.pick (.tmp 12) (.val (.bool true)) (.tmp 16)),zm 18 17,⟨(some 19),.faddr 0 (.tmp 1),(some (18,false))⟩,⟨(some 20),.faddr 6 (.tmp 19),(some (18,false))⟩,⟨(some 21),.load none (.tmp 20),(some (18,false))⟩,⟨(some 22),.bin .gtr (.tmp 21) (.val (.int .i64 65536)),(some (18,false))⟩,zq 23 (.pick (.tmp 18) (.val (.bool true)) (.tmp 22)),zm 24 23,⟨(some 25),.faddr 0 (.tmp 1),(some (24,false))⟩,⟨(some 26),.faddr 3 (.tmp 25),(some (24,false))⟩,⟨(some 27),.load none (.tmp 26),(some (24,false))⟩,⟨(some 28),.bin .lss (.tmp 27) (.val (.int .i64 0)),(some (24,false))⟩,zq 29 (.pick (.tmp 24) (.val (.bool true)) (.tmp 28)),zm 30 29,⟨(some 31),.faddr 0 (.tmp 1),(some (30,false))⟩,⟨(some 32),.faddr 3 (.tmp 31),(some (30,false))⟩,⟨(some 33),.load none (.tmp 32),(some (30,false))⟩,⟨(some 34),.faddr 0 (.tmp 1),(some (30,false))⟩,⟨(some 35),.faddr 1 (.tmp 34),(some (30,false))⟩,⟨(some 36),.load none (.tmp 35),(some (30,false))⟩,⟨(some 37),.lenL (.tmp 36),(some (30,false))⟩,⟨(some 38),.bin .geq (.tmp 33) (.tmp 37),(some (30,false))⟩,zq 39 (.pick (.tmp 30) (.val (.bool true)) (.tmp 38)),zm 40 39,⟨(some 41),.faddr 0 (.tmp 1),(some (40,false))⟩,⟨(some 42),.faddr 1 (.tmp 41),(some (40,false))⟩,⟨(some 43),.load none (.tmp 42),(some (40,false))⟩,⟨(some 44),.faddr 0 (.tmp 1),(some (40,false))⟩,⟨(some 45),.faddr 3 (.tmp 44),(some (40,false))⟩,⟨(some 46),.load none (.tmp 45),(some (40,false))⟩,⟨(some 47),.iaddrL 3 (.tmp 43) (.tmp 46),(some (40,false))⟩,⟨(some 48),.faddr 1 (.tmp 47),(some (40,false))⟩,⟨(some 49),.load none (.tmp 48),(some (40,false))⟩,⟨(some 50),.bin .neq (.tmp 49) (.val (.int .i64 0)),(some (40,false))⟩,zq 51 (.pick (.tmp 40) (.val (.bool true)) (.tmp 50))])
def a181_R2:AC:=.keep [1,3,4,54,55,56] [1,4] (.reg [zq 62 (.load (some 8) (.tmp 1)),zm 63 3,zq 64 (.call 109 [(.tmp 62),(.tmp 63)]),zm 61 64,zq 65 (.ext (.tmp 61) 0),zq 66 (.ext (.tmp 61) 1),zm 5 65,zm 6 66])
def a181_R3:AC:=.keep [1,3,4,5,6,54,55,56] [1,4] (.reg [zm 67 3,zq 68 (.bin .eql (.tmp 67) (.val (.int .i64 0))),zm 69 68,⟨(some 70),.mov (.tmp 5),(some (69,true))⟩,⟨(some 71),.bin .neq (.tmp 70) (.val (.int .i64 0)),(some (69,true))⟩,zq 72 (.pick (.tmp 69) (.tmp 71) (.val (.bool false))),zm 73 72,⟨(some 74),.mov (.tmp 5),(some (73,false))⟩,⟨(some 75),.bin .lss (.tmp 74) (.val (.int .i64 0)),(some (73,false))⟩,zq 76 (.pick (.tmp 73) (.val (.bool true)) (.tmp 75)),zm 77 76,⟨(some 78),.mov (.tmp 5),(some (77,false))⟩,⟨(some 79),.mov (.tmp 6),(some (77,false))⟩,⟨(some 80),.bin .geq (.tmp 78) (.tmp 79),(some (77,false))⟩,zq 81 (.pick (.tmp 77) (.val (.bool true)) (.tmp 80)),zm 82 81,⟨(some 83),.mov (.tmp 6),(some (82,false))⟩,⟨(some 84),.faddr 0 (.tmp 1),(some (82,false))⟩,⟨(some 85),.faddr 0 (.tmp 84),(some (82,false))⟩,⟨(some 86),.load none (.tmp 85),(some (82,false))⟩,⟨(some 87),.lenL (.tmp 86),(some (82,false))⟩,⟨(some 88),.bin .gtr (.tmp 83) (.tmp 87),(some (82,false))⟩,zq 89 (.pick (.tmp 82) (.val (.bool true)) (.tmp 88)),zm 90 89,⟨(some 91),.faddr 1 (.tmp 4),(some (90,false))⟩,⟨(some 92),.load none (.tmp 91),(some (90,false))⟩,⟨(some 93),.bin .lss (.tmp 92) (.val (.int .i64 0)),(some (90,false))⟩,zq 94 (.pick (.tmp 90) (.val (.bool true)) (.tmp 93)),zm 95 94,⟨(some 96),.faddr 1 (.tmp 4),(some (95,false))⟩,⟨(some 97),.load none (.tmp 96),(some (95,false))⟩,⟨(some 98),.faddr 2 (.tmp 4),(some (95,false))⟩,⟨(some 99),.load none (.tmp 98),(some (95,false))⟩,⟨(some 100),.bin .gtr (.tmp 97) (.tmp 99),(some (95,false))⟩,zq 101 (.pick (.tmp 95) (.val (.bool true)) (.tmp 100)),zm 102 101,⟨(some 103),.faddr 2 (.tmp 4),(some (102,false))⟩,⟨(some 104),.load none (.tmp 103),(some (102,false))⟩,⟨(some 105),.bin .gtr (.tmp 104) (.val (.int .i64 64)),(some (102,false))⟩,zq 106 (.pick (.tmp 102) (.val (.bool true)) (.tmp 105))])
def a181_B1:AC:=(.seq (.keep [1,54,55,56] [1] (.reg [zq 57 (.bin .lss (.tmp 56) (.tmp 55))]))
 (.seq (.cond (.tmp 57) .skip (.exit 0))
 (.seq (.block 1 (.seq (.keep [1,54,55,56] [1] (.reg [zm 58 56,zq 59 (.iaddrL 3 (.tmp 54) (.tmp 56)),zq 60 (.load (some 3) (.tmp 59)),zq 4 (.alloc (some 4) [(.int .i64 0),(.int .i64 0),(.int .i64 0)]),zm 3 58,⟨none,.store 3 (.tmp 4) (.tmp 60),none⟩]))
 (.seq a181_R2
 (.seq a181_R3
 (.cond (.tmp 106) (.seq (.keep [] [] (.reg [zq 2 (.mov (.val (.int .i64 2)))]))
 .ret) .skip)))))
 (.keep [1,54,55,56] [1] (.reg [zq 107 (.bin .add (.tmp 56) (.val (.int .i64 1))),zm 56 107])))))
def a181_L1:AC:=.loop a181_B1
theorem a181_L1_step (call:Caller) (again:AC→St→Option (Ex×St)) (s:St):codeEv call again a181_L1 s=match codeEv call again a181_B1 s with | some (.norm,s1)=>again a181_L1 s1 | r=>r:=rfl
def a181:AFn:={ n:=108,np:=1,res:=[.tmp 2],body:=
 (.seq (.keep [0] [] (.reg [zq 1 (.box (some 1) (.tmp 0)),zq 2 (.mov (.val (.int .i64 0)))]))
 (.seq (.seq a181_R1
 (.cond (.tmp 51) (.seq (.keep [] [] (.reg [zq 2 (.mov (.val (.int .i64 2)))]))
 .ret) .skip))
 (.seq (.seq (.keep [1] [1] (.reg [zq 52 (.faddr 0 (.tmp 1)),zq 53 (.faddr 1 (.tmp 52)),zl 54 53,zq 55 (.lenL (.tmp 54)),zq 56 (.mov (.val (.int .i64 0)))]))
 (.block 0 a181_L1))
 (.seq (.keep [] [] (.reg [zq 2 (.mov (.val (.int .i64 0)))]))
 .ret)))) }
def h182:Hints:=⟨[1,4],[(0,[0],[]),(1,[1],[1]),(2,[],[]),(3,[1],[1]),(4,[1,12,13,14],[1]),(5,[1,12,13,14],[1]),(6,[1,4,12,13,14],[1,4]),(7,[],[]),(8,[1,12,13,14],[1]),(9,[],[])],[]⟩
def a182_R1:AC:=.keep [1,4,12,13,14] [1,4] (.reg [zq 18 (.faddr 2 (.tmp 4)),zl 19 18,zq 20 (.faddr 0 (.tmp 1)),zq 21 (.faddr 1 (.tmp 20)),zl 22 21,zq 23 (.lenL (.tmp 22)),zq 24 (.bin .geq (.tmp 19) (.tmp 23)),zm 25 24,⟨(some 26),.faddr 2 (.tmp 4),(some (25,false))⟩,⟨(some 27),.load none (.tmp 26),(some (25,false))⟩,⟨(some 28),.faddr 0 (.tmp 1),(some (25,false))⟩,⟨(some 29),.faddr 3 (.tmp 28),(some (25,false))⟩,⟨(some 30),.load none (.tmp 29),(some (25,false))⟩,⟨(some 31),.bin .eql (.tmp 27) (.tmp 30),(some (25,false))⟩,zq 32 (.pick (.tmp 25) (.val (.bool true)) (.tmp 31)),zm 33 32,⟨(some 34),.faddr 0 (.tmp 1),(some (33,false))⟩,⟨(some 35),.faddr 1 (.tmp 34),(some (33,false))⟩,⟨(some 36),.load none (.tmp 35),(some (33,false))⟩,⟨(some 37),.faddr 2 (.tmp 4),(some (33,false))⟩,⟨(some 38),.load none (.tmp 37),(some (33,false))⟩,⟨(some 39),.iaddrL 3 (.tmp 36) (.tmp 38),(some (33,false))⟩,⟨(some 40),.faddr 1 (.tmp 39),(some (33,false))⟩,⟨(some 41),.load none (.tmp 40),(some (33,false))⟩,⟨(some 42),.bin .neq (.tmp 41) (.val (.int .i64 0)),(some (33,false))⟩,zq 43 (.pick (.tmp 33) (.val (.bool true)) (.tmp 42))])
def a182_B1:AC:=(.seq (.keep [1,12,13,14] [1] (.reg [zq 15 (.bin .lss (.tmp 14) (.tmp 13))]))
 (.seq (.cond (.tmp 15) .skip (.exit 0))
 (.seq (.block 1 (.seq (.keep [1,12,13,14] [1] (.reg [zq 16 (.iaddrL 3 (.tmp 12) (.tmp 14)),zq 17 (.load (some 3) (.tmp 16)),zq 4 (.alloc (some 4) [(.int .i64 0),(.int .i64 0),(.int .i64 0)]),⟨none,.store 3 (.tmp 4) (.tmp 17),none⟩]))
 (.seq a182_R1
 (.cond (.tmp 43) (.seq (.keep [] [] (.reg [zq 2 (.mov (.val (.int .i64 2)))]))
 .ret) .skip))))
 (.keep [1,12,13,14] [1] (.reg [zq 44 (.bin .add (.tmp 14) (.val (.int .i64 1))),zm 14 44])))))
def a182_L1:AC:=.loop a182_B1
theorem a182_L1_step (call:Caller) (again:AC→St→Option (Ex×St)) (s:St):codeEv call again a182_L1 s=match codeEv call again a182_B1 s with | some (.norm,s1)=>again a182_L1 s1 | r=>r:=rfl
def a182:AFn:={ n:=45,np:=1,res:=[.tmp 2],body:=
 (.seq (.keep [0] [] (.reg [zq 1 (.box (some 1) (.tmp 0)),zq 2 (.mov (.val (.int .i64 0)))]))
 (.seq (.seq (.keep [1] [1] (.reg [zq 5 (.faddr 0 (.tmp 1)),zq 6 (.faddr 2 (.tmp 5)),zl 7 6,zq 8 (.call 186 [(.tmp 7)]),zq 9 (.bin .neq (.tmp 8) (.val (.int .i64 0)))]))
 (.cond (.tmp 9) (.seq (.keep [] [] (.reg [zq 2 (.mov (.val (.int .i64 2)))]))
 .ret) .skip))
 (.seq (.seq (.keep [1] [1] (.reg [zq 10 (.faddr 0 (.tmp 1)),zq 11 (.faddr 2 (.tmp 10)),zl 12 11,zq 13 (.lenL (.tmp 12)),zq 14 (.mov (.val (.int .i64 0)))]))
 (.block 0 a182_L1))
 (.seq (.keep [] [] (.reg [zq 2 (.mov (.val (.int .i64 0)))]))
 .ret)))) }
def h183:Hints:=⟨[1,7],[(0,[0],[]),(1,[1],[1]),(2,[1,12,13],[1]),(3,[1,12,13],[1]),(4,[1,3,12,13],[1]),(5,[1,3,4,5,12,13],[1]),(6,[1,3,4,5,12,13,27,28,29],[1]),(7,[1,3,4,5,12,13,27,28,29],[1]),(8,[1,3,4,5,7,12,13,27,28,29],[1,7]),(9,[],[]),(10,[1,3,4,5,12,13,27,28,29],[1]),(11,[1,5,12,13],[1]),(12,[1,8,12,13],[1]),(13,[],[]),(14,[1,12,13],[1]),(15,[],[])],[]⟩
def a183_R1:AC:=.keep [1,3,12,13] [1] (.reg [zq 17 (.load (some 8) (.tmp 1)),zm 18 3,zq 19 (.call 109 [(.tmp 17),(.tmp 18)]),zm 16 19,zq 20 (.ext (.tmp 16) 0),zq 21 (.ext (.tmp 16) 1),zm 4 20,zm 5 21])
def a183_R2:AC:=.keep [1,3,4,5,12,13] [1] (.reg [zq 22 (.faddr 0 (.tmp 1)),zq 23 (.faddr 0 (.tmp 22)),zl 24 23,zm 25 4,zm 26 5,zq 27 (.slcL 4 (.tmp 24) (some (.tmp 25)) (some (.tmp 26)) none),zq 28 (.lenL (.tmp 27)),zq 29 (.mov (.val (.int .i64 0)))])
def a183_R3:AC:=.keep [1,3,4,5,7,12,13,27,28,29] [1,7] (.reg [zq 33 (.load (some 4) (.tmp 7)),zq 34 (.call 122 [(.tmp 33)]),zq 35 (.bin .neq (.tmp 34) (.val (.int .i64 0))),zm 36 35,⟨(some 37),.load (some 8) (.tmp 1),(some (36,false))⟩,⟨(some 38),.mov (.tmp 3),(some (36,false))⟩,⟨(some 39),.mov (.tmp 4),(some (36,false))⟩,⟨(some 40),.mov (.tmp 5),(some (36,false))⟩,⟨(some 41),.load (some 4) (.tmp 7),(some (36,false))⟩,⟨(some 42),.call 187 [(.tmp 37),(.tmp 38),(.tmp 39),(.tmp 40),(.tmp 41)],(some (36,false))⟩,⟨(some 43),.un .not (.tmp 42),(some (36,false))⟩,zq 44 (.pick (.tmp 36) (.val (.bool true)) (.tmp 43))])
def a183_R4:AC:=.keep [1,5,12,13] [1] (.reg [zq 46 (.faddr 0 (.tmp 1)),zq 47 (.faddr 0 (.tmp 46)),zl 48 47,zm 49 5,zq 50 (.bin .sub (.tmp 49) (.val (.int .i64 1))),zq 51 (.iaddrL 4 (.tmp 48) (.tmp 50)),zq 52 (.faddr 0 (.tmp 51)),zl 53 52,zm 8 53])
def a183_R5:AC:=.keep [1,8,12,13] [1] (.reg [zm 54 8,zq 55 (.bin .neq (.tmp 54) (.val (.int .i64 1))),zm 56 55,⟨(some 57),.mov (.tmp 8),(some (56,true))⟩,⟨(some 58),.bin .neq (.tmp 57) (.val (.int .i64 15)),(some (56,true))⟩,zq 59 (.pick (.tmp 56) (.tmp 58) (.val (.bool false))),zm 60 59,⟨(some 61),.mov (.tmp 8),(some (60,true))⟩,⟨(some 62),.bin .neq (.tmp 61) (.val (.int .i64 18)),(some (60,true))⟩,zq 63 (.pick (.tmp 60) (.tmp 62) (.val (.bool false)))])
def a183_B1:AC:=(.seq (.keep [1,3,4,5,12,13,27,28,29] [1] (.reg [zq 30 (.bin .lss (.tmp 29) (.tmp 28))]))
 (.seq (.cond (.tmp 30) .skip (.exit 2))
 (.seq (.block 3 (.seq (.keep [1,3,4,5,12,13,27,28,29] [1] (.reg [zq 31 (.iaddrL 4 (.tmp 27) (.tmp 29)),zq 32 (.load (some 4) (.tmp 31)),zq 7 (.alloc (some 7) [(.int .i64 0),(.int .i64 0),(.int .i64 0),(.int .i64 0)]),⟨none,.store 4 (.tmp 7) (.tmp 32),none⟩]))
 (.seq a183_R3
 (.cond (.tmp 44) (.seq (.keep [] [] (.reg [zq 2 (.mov (.val (.int .i64 2)))]))
 .ret) .skip))))
 (.keep [1,3,4,5,12,13,27,28,29] [1] (.reg [zq 45 (.bin .add (.tmp 29) (.val (.int .i64 1))),zm 29 45])))))
def a183_L1:AC:=.loop a183_B1
theorem a183_L1_step (call:Caller) (again:AC→St→Option (Ex×St)) (s:St):codeEv call again a183_L1 s=match codeEv call again a183_B1 s with | some (.norm,s1)=>again a183_L1 s1 | r=>r:=rfl
def a183_B2:AC:=(.seq (.keep [1,12,13] [1] (.reg [zq 14 (.bin .lss (.tmp 13) (.tmp 12))]))
 (.seq (.cond (.tmp 14) .skip (.exit 0))
 (.seq (.block 1 (.seq (.keep [1,12,13] [1] (.reg [zm 15 13,zm 3 15]))
 (.seq a183_R1
 (.seq (.seq a183_R2
 (.block 2 a183_L1))
 (.seq a183_R4
 (.seq a183_R5
 (.cond (.tmp 63) (.seq (.keep [] [] (.reg [zq 2 (.mov (.val (.int .i64 2)))]))
 .ret) .skip)))))))
 (.keep [1,12,13] [1] (.reg [zq 64 (.bin .add (.tmp 13) (.val (.int .i64 1))),zm 13 64])))))
def a183_L2:AC:=.loop a183_B2
theorem a183_L2_step (call:Caller) (again:AC→St→Option (Ex×St)) (s:St):codeEv call again a183_L2 s=match codeEv call again a183_B2 s with | some (.norm,s1)=>again a183_L2 s1 | r=>r:=rfl
def a183:AFn:={ n:=65,np:=1,res:=[.tmp 2],body:=
 (.seq (.keep [0] [] (.reg [zq 1 (.box (some 1) (.tmp 0)),zq 2 (.mov (.val (.int .i64 0)))]))
 (.seq (.seq (.keep [1] [1] (.reg [zq 9 (.faddr 0 (.tmp 1)),zq 10 (.faddr 1 (.tmp 9)),zl 11 10,zq 12 (.lenL (.tmp 11)),zq 13 (.mov (.val (.int .i64 0)))]))
 (.block 0 a183_L2))
 (.seq (.keep [] [] (.reg [zq 2 (.mov (.val (.int .i64 0)))]))
 .ret))) }
def h184:Hints:=⟨[1],[(0,[0],[]),(1,[1],[1]),(2,[1,9,10,11],[1]),(3,[1,9,10,11],[1]),(4,[1,4,9,10,11],[1]),(5,[1,4,9,10,11,15,16,17],[1]),(6,[1,4,9,10,11,15,16,17],[1]),(7,[1,4,5,6,9,10,11,15,16,17],[1]),(8,[],[]),(9,[1,4,9,10,11,15,16,17],[1]),(10,[1,9,10,11],[1]),(11,[],[])],[]⟩
def a184_R1:AC:=.keep [1,4,5,6,9,10,11,15,16,17] [1] (.reg [zm 22 6,zq 23 (.bin .lss (.tmp 22) (.val (.int .i64 0))),zm 24 23,⟨(some 25),.mov (.tmp 6),(some (24,false))⟩,⟨(some 26),.faddr 0 (.tmp 1),(some (24,false))⟩,⟨(some 27),.faddr 4 (.tmp 26),(some (24,false))⟩,⟨(some 28),.load none (.tmp 27),(some (24,false))⟩,⟨(some 29),.lenL (.tmp 28),(some (24,false))⟩,⟨(some 30),.bin .geq (.tmp 25) (.tmp 29),(some (24,false))⟩,zq 31 (.pick (.tmp 24) (.val (.bool true)) (.tmp 30)),zm 32 31,⟨(some 33),.mov (.tmp 5),(some (32,false))⟩,⟨(some 34),.bin .gtr (.tmp 33) (.val (.int .i64 0)),(some (32,false))⟩,⟨(some 35),.mov (.tmp 34),(some (32,false))⟩,⟨(some 36),.mov (.tmp 6),(some (35,true))⟩,⟨(some 37),.mov (.tmp 4),(some (35,true))⟩,⟨(some 38),.mov (.tmp 5),(some (35,true))⟩,⟨(some 39),.bin .sub (.tmp 38) (.val (.int .i64 1)),(some (35,true))⟩,⟨(some 40),.iaddrL 1 (.tmp 37) (.tmp 39),(some (35,true))⟩,⟨(some 41),.load none (.tmp 40),(some (35,true))⟩,⟨(some 42),.bin .leq (.tmp 36) (.tmp 41),(some (35,true))⟩,⟨(some 43),.pick (.tmp 35) (.tmp 42) (.val (.bool false)),(some (32,false))⟩,zq 44 (.pick (.tmp 32) (.val (.bool true)) (.tmp 43))])
def a184_B1:AC:=(.seq (.keep [1,4,9,10,11,15,16,17] [1] (.reg [zq 18 (.bin .lss (.tmp 17) (.tmp 16))]))
 (.seq (.cond (.tmp 18) .skip (.exit 2))
 (.seq (.block 3 (.seq (.keep [1,4,9,10,11,15,16,17] [1] (.reg [zm 19 17,zq 20 (.iaddrL 1 (.tmp 15) (.tmp 17)),zl 21 20,zm 5 19,zm 6 21]))
 (.seq a184_R1
 (.cond (.tmp 44) (.seq (.keep [] [] (.reg [zq 2 (.mov (.val (.int .i64 2)))]))
 .ret) .skip))))
 (.keep [1,4,9,10,11,15,16,17] [1] (.reg [zq 45 (.bin .add (.tmp 17) (.val (.int .i64 1))),zm 17 45])))))
def a184_L1:AC:=.loop a184_B1
theorem a184_L1_step (call:Caller) (again:AC→St→Option (Ex×St)) (s:St):codeEv call again a184_L1 s=match codeEv call again a184_B1 s with | some (.norm,s1)=>again a184_L1 s1 | r=>r:=rfl
def a184_B2:AC:=(.seq (.keep [1,9,10,11] [1] (.reg [zq 12 (.bin .lss (.tmp 11) (.tmp 10))]))
 (.seq (.cond (.tmp 12) .skip (.exit 0))
 (.seq (.block 1 (.seq (.keep [1,9,10,11] [1] (.reg [zq 13 (.iaddrL 1 (.tmp 9) (.tmp 11)),zl 14 13,zm 4 14]))
 (.seq (.keep [1,4,9,10,11] [1] (.reg [zm 15 4,zq 16 (.lenL (.tmp 15)),zq 17 (.mov (.val (.int .i64 0)))]))
 (.block 2 a184_L1))))
 (.keep [1,9,10,11] [1] (.reg [zq 46 (.bin .add (.tmp 11) (.val (.int .i64 1))),zm 11 46])))))
def a184_L2:AC:=.loop a184_B2
theorem a184_L2_step (call:Caller) (again:AC→St→Option (Ex×St)) (s:St):codeEv call again a184_L2 s=match codeEv call again a184_B2 s with | some (.norm,s1)=>again a184_L2 s1 | r=>r:=rfl
def a184:AFn:={ n:=47,np:=1,res:=[.tmp 2],body:=
 (.seq (.keep [0] [] (.reg [zq 1 (.box (some 1) (.tmp 0)),zq 2 (.mov (.val (.int .i64 0)))]))
 (.seq (.seq (.keep [1] [1] (.reg [zq 7 (.faddr 0 (.tmp 1)),zq 8 (.faddr 7 (.tmp 7)),zl 9 8,zq 10 (.lenL (.tmp 9)),zq 11 (.mov (.val (.int .i64 0)))]))
 (.block 0 a184_L2))
 (.seq (.keep [] [] (.reg [zq 2 (.mov (.val (.int .i64 0)))]))
 .ret))) }
def h185:Hints:=⟨[],[(0,[0],[]),(1,[1],[]),(2,[1,3],[]),(3,[1,3,4],[]),(4,[1,3,4],[]),(5,[3,4,10,11],[]),(6,[3,4,10,11],[]),(7,[3,4,5,10,11],[]),(8,[],[]),(9,[3,4,10,11],[]),(10,[],[])],[]⟩
def a185_R1:AC:=.keep [3,4,5,10,11] [] (.reg [zm 14 5,zq 15 (.iaddrA 64 1 (.tmp 3) (.tmp 14)),zl 16 15,zq 17 (.bin .eql (.tmp 16) (.val (.int .u8 0))),zm 18 17,⟨(some 19),.load none (.tmp 4),(some (18,true))⟩,⟨(some 20),.mov (.tmp 5),(some (18,true))⟩,⟨(some 21),.callv (.tmp 19) [(.tmp 20)],(some (18,true))⟩,⟨(some 22),.un .not (.tmp 21),(some (18,true))⟩,zq 23 (.pick (.tmp 18) (.tmp 22) (.val (.bool false)))])
def a185_B1:AC:=(.seq (.keep [3,4,10,11] [] (.reg [zq 12 (.bin .lss (.tmp 11) (.tmp 10))]))
 (.seq (.cond (.tmp 12) .skip (.exit 0))
 (.seq (.block 1 (.seq (.keep [3,4,10,11] [] (.reg [zm 13 11,zm 5 13]))
 (.seq a185_R1
 (.cond (.tmp 23) (.seq (.keep [] [] (.reg [zq 2 (.mov (.val (.int .i64 13)))]))
 .ret) .skip))))
 (.keep [3,4,10,11] [] (.reg [zq 24 (.bin .add (.tmp 11) (.val (.int .i64 1))),zm 11 24])))))
def a185_L1:AC:=.loop a185_B1
theorem a185_L1_step (call:Caller) (again:AC→St→Option (Ex×St)) (s:St):codeEv call again a185_L1 s=match codeEv call again a185_B1 s with | some (.norm,s1)=>again a185_L1 s1 | r=>r:=rfl
def a185:AFn:={ n:=25,np:=1,res:=[.tmp 2],body:=
 (.seq (.keep [0] [] (.reg [zq 1 (.box none (.tmp 0)),zq 2 (.mov (.val (.int .i64 0)))]))
 (.seq (.keep [1] [] (.reg [zq 3 (.alloc none (List.replicate 64 (.int .u8 0)))]))
 (.seq (.keep [1,3] [] (.reg [zq 4 (.alloc none [.nilf])]))
 (.seq (.keep [1,3,4] [] (.reg [zq 6 (.mkfn 188 [(.tmp 3),(.tmp 1),(.tmp 4)]),⟨none,.store 1 (.tmp 4) (.tmp 6),none⟩]))
 (.seq (.seq (.keep [1,3,4] [] (.reg [zq 7 (.faddr 0 (.tmp 1)),zq 8 (.faddr 1 (.tmp 7)),zl 9 8,zq 10 (.lenL (.tmp 9)),zq 11 (.mov (.val (.int .i64 0)))]))
 (.block 0 a185_L1))
 (.seq (.keep [] [] (.reg [zq 2 (.mov (.val (.int .i64 0)))]))
 .ret)))))) }
def h186:Hints:=⟨[5],[(0,[0],[]),(1,[0],[]),(2,[],[]),(3,[0],[]),(4,[0,3],[]),(5,[3,9,10,11],[]),(6,[3,9,10,11],[]),(7,[3,5,9,10,11],[5]),(8,[],[]),(9,[3,5,9,10,11],[5]),(10,[3,9,10,11],[]),(11,[],[])],[]⟩
def a186_R1:AC:=.keep [3,5,9,10,11] [5] (.reg [zq 15 (.faddr 0 (.tmp 5)),zl 16 15,zq 17 (.bin .lss (.tmp 16) (.val (.int .i64 0))),zm 18 17,⟨(some 19),.faddr 0 (.tmp 5),(some (18,false))⟩,⟨(some 20),.load none (.tmp 19),(some (18,false))⟩,⟨(some 21),.bin .gtr (.tmp 20) (.val (.int .i64 31)),(some (18,false))⟩,zq 22 (.pick (.tmp 18) (.val (.bool true)) (.tmp 21)),zm 23 22,⟨(some 24),.faddr 1 (.tmp 5),(some (23,false))⟩,⟨(some 25),.load none (.tmp 24),(some (23,false))⟩,⟨(some 26),.bin .lss (.tmp 25) (.val (.int .i64 1)),(some (23,false))⟩,zq 27 (.pick (.tmp 23) (.val (.bool true)) (.tmp 26)),zm 28 27,⟨(some 29),.faddr 1 (.tmp 5),(some (28,false))⟩,⟨(some 30),.load none (.tmp 29),(some (28,false))⟩,⟨(some 31),.bin .gtr (.tmp 30) (.val (.int .i64 15)),(some (28,false))⟩,zq 32 (.pick (.tmp 28) (.val (.bool true)) (.tmp 31)),zm 33 32,⟨(some 34),.faddr 2 (.tmp 5),(some (33,false))⟩,⟨(some 35),.load none (.tmp 34),(some (33,false))⟩,⟨(some 36),.bin .lss (.tmp 35) (.val (.int .i64 0)),(some (33,false))⟩,zq 37 (.pick (.tmp 33) (.val (.bool true)) (.tmp 36)),zm 38 37,⟨(some 39),.mov (.tmp 3),(some (38,false))⟩,⟨(some 40),.faddr 0 (.tmp 5),(some (38,false))⟩,⟨(some 41),.load none (.tmp 40),(some (38,false))⟩,⟨(some 42),.call 190 [(.tmp 39),(.tmp 41)],(some (38,false))⟩,zq 43 (.pick (.tmp 38) (.val (.bool true)) (.tmp 42))])
def a186_B1:AC:=(.seq (.keep [3,9,10,11] [] (.reg [zq 12 (.bin .lss (.tmp 11) (.tmp 10))]))
 (.seq (.cond (.tmp 12) .skip (.exit 0))
 (.seq (.block 1 (.seq (.keep [3,9,10,11] [] (.reg [zq 13 (.iaddrL 3 (.tmp 9) (.tmp 11)),zq 14 (.load (some 3) (.tmp 13)),zq 5 (.alloc (some 5) [(.int .i64 0),(.int .i64 0),(.int .i64 0)]),⟨none,.store 3 (.tmp 5) (.tmp 14),none⟩]))
 (.seq (.seq a186_R1
 (.cond (.tmp 43) (.seq (.keep [] [] (.reg [zq 2 (.mov (.val (.int .i64 2)))]))
 .ret) .skip))
 (.keep [3,5,9,10,11] [5] (.reg [zm 44 3,zq 45 (.faddr 0 (.tmp 5)),zl 46 45,zq 47 (.bin .shl (.val (.int .u32 1)) (.tmp 46)),zq 48 (.bin .or (.tmp 44) (.tmp 47)),zm 3 48])))))
 (.keep [3,9,10,11] [] (.reg [zq 49 (.bin .add (.tmp 11) (.val (.int .i64 1))),zm 11 49])))))
def a186_L1:AC:=.loop a186_B1
theorem a186_L1_step (call:Caller) (again:AC→St→Option (Ex×St)) (s:St):codeEv call again a186_L1 s=match codeEv call again a186_B1 s with | some (.norm,s1)=>again a186_L1 s1 | r=>r:=rfl
def a186:AFn:={ n:=50,np:=1,res:=[.tmp 2],body:=
 (.seq (.keep [0] [] (.reg [zq 2 (.mov (.val (.int .i64 0)))]))
 (.seq (.seq (.keep [0] [] (.reg [zm 6 0,zq 7 (.lenL (.tmp 6)),zq 8 (.bin .gtr (.tmp 7) (.val (.int .i64 32)))]))
 (.cond (.tmp 8) (.seq (.keep [] [] (.reg [zq 2 (.mov (.val (.int .i64 3)))]))
 .ret) .skip))
 (.seq (.keep [0] [] (.reg [zq 3 (.mov (.val (.int .u32 0)))]))
 (.seq (.seq (.keep [0,3] [] (.reg [zm 9 0,zq 10 (.lenL (.tmp 9)),zq 11 (.mov (.val (.int .i64 0)))]))
 (.block 0 a186_L1))
 (.seq (.keep [] [] (.reg [zq 2 (.mov (.val (.int .i64 0)))]))
 .ret))))) }
def h187:Hints:=⟨[5,9],[(0,[0,1,2,3,4],[]),(1,[1,2,3,5,9],[5,9]),(2,[1,2,3,5,9,12],[5,9]),(3,[1,5],[5]),(4,[1,2,3,5,9,12],[5,9]),(5,[1,2,3,5,9,12],[5,9]),(6,[5,9],[5,9]),(7,[1,2,3,5,9,12],[5,9]),(8,[1,2,3,5,9,12],[5,9]),(9,[5,9],[5,9]),(10,[1,2,3,5,9,12],[5,9]),(11,[1,2,3,5,9,12],[5,9]),(12,[1,5,9],[5,9]),(13,[2,3,5,9,12],[5,9]),(14,[2,3,5,9,12],[5,9]),(15,[5,9],[5,9]),(16,[2,3,5,9,12],[5,9]),(17,[2,3,5,9,12],[5,9]),(18,[2,3,9],[9]),(19,[5,9,12],[5,9]),(20,[5,9],[5,9]),(21,[5,9,12],[5,9]),(22,[5,9,12],[5,9]),(23,[5,9],[5,9]),(24,[],[])],[]⟩
def a187_R1:AC:=.keep [5,9] [5,9] (.reg [zq 23 (.faddr 1 (.tmp 9)),zl 24 23,zq 25 (.faddr 0 (.tmp 5)),zq 26 (.faddr 4 (.tmp 25)),zl 27 26,zq 28 (.lenL (.tmp 27)),zq 29 (.bin .lss (.tmp 24) (.tmp 28)),zm 10 29])
def a187_R2:AC:=.keep [5,9] [5,9] (.reg [zq 33 (.faddr 1 (.tmp 9)),zl 34 33,zq 35 (.faddr 2 (.tmp 9)),zl 36 35,zq 37 (.bin .add (.tmp 34) (.tmp 36)),zq 38 (.faddr 0 (.tmp 5)),zq 39 (.faddr 4 (.tmp 38)),zl 40 39,zq 41 (.lenL (.tmp 40)),zq 42 (.bin .leq (.tmp 37) (.tmp 41)),zm 10 42])
def a187_R3:AC:=.keep [1,5,9] [5,9] (.dreg [zp 46 (.faddr 1 (.tmp 9)),zk 47 46,zp 48 (.faddr 0 (.tmp 5)),zp 49 (.faddr 1 (.tmp 48)),zk 50 49,zn 51 1,zp 52 (.iaddrL 3 (.tmp 50) (.tmp 51)),zp 53 (.faddr 2 (.tmp 52)),zk 54 53,zp 55 (.bin .lss (.tmp 47) (.tmp 54)),zn 10 55])
def a187_R4:AC:=.keep [5,9] [5,9] (.reg [zq 59 (.faddr 1 (.tmp 9)),zl 60 59,zq 61 (.faddr 0 (.tmp 5)),zq 62 (.faddr 5 (.tmp 61)),zl 63 62,zq 64 (.lenL (.tmp 63)),zq 65 (.bin .lss (.tmp 60) (.tmp 64)),zm 10 65])
def a187_R5:AC:=.keep [2,3,9] [9] (.reg [zq 69 (.faddr 1 (.tmp 9)),zl 70 69,zm 71 2,zq 72 (.bin .geq (.tmp 70) (.tmp 71)),zm 73 72,⟨(some 74),.faddr 1 (.tmp 9),(some (73,true))⟩,⟨(some 75),.load none (.tmp 74),(some (73,true))⟩,⟨(some 76),.mov (.tmp 3),(some (73,true))⟩,⟨(some 77),.bin .lss (.tmp 75) (.tmp 76),(some (73,true))⟩,zq 78 (.pick (.tmp 73) (.tmp 77) (.val (.bool false))),zm 10 78])
def a187_R6:AC:=.keep [5,9] [5,9] (.reg [zq 81 (.faddr 1 (.tmp 9)),zl 82 81,zq 83 (.faddr 0 (.tmp 5)),zq 84 (.faddr 1 (.tmp 83)),zl 85 84,zq 86 (.lenL (.tmp 85)),zq 87 (.bin .lss (.tmp 82) (.tmp 86)),zm 10 87])
def a187_R7:AC:=.keep [5,9] [5,9] (.reg [zq 91 (.faddr 1 (.tmp 9)),zl 92 91,zq 93 (.faddr 0 (.tmp 5)),zq 94 (.faddr 7 (.tmp 93)),zl 95 94,zq 96 (.lenL (.tmp 95)),zq 97 (.bin .lss (.tmp 92) (.tmp 96)),zm 10 97])
def a187:AFn:={ n:=98,np:=5,res:=[.tmp 10],body:=
 (.seq (.keep [0,1,2,3,4] [] (.reg [zq 5 (.box (some 5) (.tmp 0)),zq 9 (.box (some 9) (.tmp 4)),zq 10 (.mov (.val (.bool false)))]))
 (.seq (.seq (.keep [1,2,3,5,9] [5,9] (.reg [zq 11 (.faddr 0 (.tmp 9)),zl 12 11]))
 (.block 0 (.seq (.keep [1,2,3,5,9,12] [5,9] (.reg [zq 14 (.bin .eql (.tmp 12) (.val (.int .i64 1))),zm 13 14]))
 (.cond (.tmp 13) (.seq (.keep [1,5] [5] (.reg [zm 15 1,zq 16 (.faddr 0 (.tmp 5)),zq 17 (.faddr 3 (.tmp 16)),zl 18 17,zq 19 (.bin .eql (.tmp 15) (.tmp 18)),zm 10 19]))
 .ret) (.seq (.seq (.keep [1,2,3,5,9,12] [5,9] (.reg [zq 21 (.bin .eql (.tmp 12) (.val (.int .i64 4))),zm 20 21]))
 (.cond (.tmp 20) .skip (.keep [1,2,3,5,9,12] [5,9] (.reg [zq 22 (.bin .eql (.tmp 12) (.val (.int .i64 5))),zm 20 22]))))
 (.cond (.tmp 20) (.seq a187_R1
 .ret) (.seq (.seq (.keep [1,2,3,5,9,12] [5,9] (.reg [zq 31 (.bin .eql (.tmp 12) (.val (.int .i64 6))),zm 30 31]))
 (.cond (.tmp 30) .skip (.keep [1,2,3,5,9,12] [5,9] (.reg [zq 32 (.bin .eql (.tmp 12) (.val (.int .i64 7))),zm 30 32]))))
 (.cond (.tmp 30) (.seq a187_R2
 .ret) (.seq (.seq (.keep [1,2,3,5,9,12] [5,9] (.reg [zq 44 (.bin .eql (.tmp 12) (.val (.int .i64 8))),zm 43 44]))
 (.cond (.tmp 43) .skip (.keep [1,2,3,5,9,12] [5,9] (.reg [zq 45 (.bin .eql (.tmp 12) (.val (.int .i64 9))),zm 43 45]))))
 (.cond (.tmp 43) (.seq a187_R3
 .ret) (.seq (.seq (.keep [2,3,5,9,12] [5,9] (.reg [zq 57 (.bin .eql (.tmp 12) (.val (.int .i64 10))),zm 56 57]))
 (.cond (.tmp 56) .skip (.keep [2,3,5,9,12] [5,9] (.reg [zq 58 (.bin .eql (.tmp 12) (.val (.int .i64 11))),zm 56 58]))))
 (.cond (.tmp 56) (.seq a187_R4
 .ret) (.seq (.seq (.keep [2,3,5,9,12] [5,9] (.reg [zq 67 (.bin .eql (.tmp 12) (.val (.int .i64 15))),zm 66 67]))
 (.cond (.tmp 66) .skip (.keep [2,3,5,9,12] [5,9] (.reg [zq 68 (.bin .eql (.tmp 12) (.val (.int .i64 16))),zm 66 68]))))
 (.cond (.tmp 66) (.seq a187_R5
 .ret) (.seq (.keep [5,9,12] [5,9] (.reg [zq 80 (.bin .eql (.tmp 12) (.val (.int .i64 17))),zm 79 80]))
 (.cond (.tmp 79) (.seq a187_R6
 .ret) (.seq (.seq (.keep [5,9,12] [5,9] (.reg [zq 89 (.bin .eql (.tmp 12) (.val (.int .i64 23))),zm 88 89]))
 (.cond (.tmp 88) .skip (.keep [5,9,12] [5,9] (.reg [zq 90 (.bin .eql (.tmp 12) (.val (.int .i64 24))),zm 88 90]))))
 (.cond (.tmp 88) (.seq a187_R7
 .ret) .skip))))))))))))))))))
 (.seq (.keep [] [] (.reg [zq 10 (.mov (.val (.bool true)))]))
 .ret))) }
def h188:Hints:=⟨[],[(0,[0,1,2,3],[]),(1,[0,1,2,3],[]),(2,[0,1,2,3],[]),(3,[0,1,3,12,13,14],[]),(4,[0,1,3,12,13,14],[]),(5,[0,1,3,7,12,13,14],[]),(6,[],[]),(7,[0,1,3,12,13,14],[]),(8,[0,1],[]),(9,[],[])],[]⟩
def a188_B1:AC:=(.seq (.keep [0,1,3,12,13,14] [] (.reg [zq 15 (.bin .lss (.tmp 14) (.tmp 13))]))
 (.seq (.cond (.tmp 15) .skip (.exit 0))
 (.seq (.block 1 (.seq (.keep [0,1,3,12,13,14] [] (.reg [zq 16 (.iaddrL 1 (.tmp 12) (.tmp 14)),zl 17 16,zm 7 17]))
 (.seq (.keep [0,1,3,7,12,13,14] [] (.reg [zm 18 7,zq 19 (.iaddrA 64 1 (.tmp 1) (.tmp 18)),zl 20 19,zq 21 (.bin .eql (.tmp 20) (.val (.int .u8 1))),zm 22 21,⟨(some 23),.mov (.tmp 7),(some (22,false))⟩,⟨(some 24),.iaddrA 64 1 (.tmp 1) (.tmp 23),(some (22,false))⟩,⟨(some 25),.load none (.tmp 24),(some (22,false))⟩,⟨(some 26),.bin .eql (.tmp 25) (.val (.int .u8 0)),(some (22,false))⟩,⟨(some 27),.mov (.tmp 26),(some (22,false))⟩,⟨(some 28),.load none (.tmp 3),(some (27,true))⟩,⟨(some 29),.mov (.tmp 7),(some (27,true))⟩,⟨(some 30),.callv (.tmp 28) [(.tmp 29)],(some (27,true))⟩,⟨(some 31),.un .not (.tmp 30),(some (27,true))⟩,⟨(some 32),.pick (.tmp 27) (.tmp 31) (.val (.bool false)),(some (22,false))⟩,zq 33 (.pick (.tmp 22) (.val (.bool true)) (.tmp 32))]))
 (.cond (.tmp 33) (.seq (.keep [] [] (.reg [zq 5 (.mov (.val (.bool false)))]))
 .ret) .skip))))
 (.keep [0,1,3,12,13,14] [] (.reg [zq 34 (.bin .add (.tmp 14) (.val (.int .i64 1))),zm 14 34])))))
def a188_L1:AC:=.loop a188_B1
theorem a188_L1_step (call:Caller) (again:AC→St→Option (Ex×St)) (s:St):codeEv call again a188_L1 s=match codeEv call again a188_B1 s with | some (.norm,s1)=>again a188_L1 s1 | r=>r:=rfl
def a188:AFn:={ n:=37,np:=4,res:=[.tmp 5],body:=
 (.seq (.keep [0,1,2,3] [] (.reg [zq 5 (.mov (.val (.bool false)))]))
 (.seq (.keep [0,1,2,3] [] (.reg [zm 8 0,zq 9 (.iaddrA 64 1 (.tmp 1) (.tmp 8)),⟨none,.store 1 (.tmp 9) (.val (.int .u8 1)),none⟩]))
 (.seq (.seq (.keep [0,1,2,3] [] (.reg [zq 10 (.load (some 8) (.tmp 2)),zm 11 0,zq 12 (.call 189 [(.tmp 10),(.tmp 11)]),zq 13 (.lenL (.tmp 12)),zq 14 (.mov (.val (.int .i64 0)))]))
 (.block 0 a188_L1))
 (.seq (.keep [0,1] [] (.reg [zm 35 0,zq 36 (.iaddrA 64 1 (.tmp 1) (.tmp 35)),⟨none,.store 1 (.tmp 36) (.val (.int .u8 2)),none⟩]))
 (.seq (.keep [] [] (.reg [zq 5 (.mov (.val (.bool true)))]))
 .ret))))) }
def h189:Hints:=⟨[2,8],[(0,[0,1],[]),(1,[1,2,4],[2]),(2,[2,4,5,6],[2]),(3,[4,20,21,22],[]),(4,[4,20,21,22],[]),(5,[4,8,20,21,22],[8]),(6,[4,8,20,21,22],[8]),(7,[4,20,21,22],[]),(8,[4],[]),(9,[4],[])],[]⟩
def a189_B1:AC:=(.seq (.keep [4,20,21,22] [] (.reg [zq 23 (.bin .lss (.tmp 22) (.tmp 21))]))
 (.seq (.cond (.tmp 23) .skip (.exit 0))
 (.seq (.block 1 (.seq (.keep [4,20,21,22] [] (.reg [zq 24 (.iaddrL 4 (.tmp 20) (.tmp 22)),zq 25 (.load (some 4) (.tmp 24)),zq 8 (.alloc (some 8) [(.int .i64 0),(.int .i64 0),(.int .i64 0),(.int .i64 0)]),⟨none,.store 4 (.tmp 8) (.tmp 25),none⟩]))
 (.seq (.keep [4,8,20,21,22] [8] (.reg [zq 26 (.faddr 0 (.tmp 8)),zl 27 26,zq 28 (.bin .eql (.tmp 27) (.val (.int .i64 17)))]))
 (.cond (.tmp 28) (.keep [4,8,20,21,22] [8] (.reg [zm 29 4,zq 30 (.faddr 1 (.tmp 8)),zl 31 30,zq 32 (.mkslc 1 1 [(.int .i64 0)] [(0,(.tmp 31))]),zq 33 (.app none 1 8 (.tmp 29) (.tmp 32)),zm 4 33])) .skip))))
 (.keep [4,20,21,22] [] (.reg [zq 34 (.bin .add (.tmp 22) (.val (.int .i64 1))),zm 22 34])))))
def a189_L1:AC:=.loop a189_B1
theorem a189_L1_step (call:Caller) (again:AC→St→Option (Ex×St)) (s:St):codeEv call again a189_L1 s=match codeEv call again a189_B1 s with | some (.norm,s1)=>again a189_L1 s1 | r=>r:=rfl
def a189:AFn:={ n:=39,np:=2,res:=[.tmp 4],body:=
 (.seq (.keep [0,1] [] (.reg [zq 2 (.box (some 2) (.tmp 0)),zq 4 (.mov (.val .nils))]))
 (.seq (.keep [1,2,4] [2] (.reg [zq 10 (.load (some 8) (.tmp 2)),zm 11 1,zq 12 (.call 109 [(.tmp 10),(.tmp 11)]),zm 9 12,zq 13 (.ext (.tmp 9) 0),zq 14 (.ext (.tmp 9) 1),zm 5 13,zm 6 14]))
 (.seq (.seq (.keep [2,4,5,6] [2] (.reg [zq 15 (.faddr 0 (.tmp 2)),zq 16 (.faddr 0 (.tmp 15)),zl 17 16,zm 18 5,zm 19 6,zq 20 (.slcL 4 (.tmp 17) (some (.tmp 18)) (some (.tmp 19)) none),zq 21 (.lenL (.tmp 20)),zq 22 (.mov (.val (.int .i64 0)))]))
 (.block 0 a189_L1))
 (.seq (.keep [4] [] (.reg [zm 35 4,zq 36 (.call 79 [(.tmp 35)])]))
 (.seq (.keep [4] [] (.reg [zm 37 4,zq 38 (.call 120 [(.tmp 37)]),zm 4 38]))
 .ret))))) }
def h190:Hints:=⟨[],[(0,[0,1],[]),(1,[0,1],[])],[]⟩
def a190:AFn:={ n:=18,np:=2,res:=[.tmp 4],body:=
 (.seq (.keep [0,1] [] (.reg [zq 4 (.mov (.val (.bool false)))]))
 (.seq (.keep [0,1] [] (.reg [zm 5 1,zq 6 (.bin .geq (.tmp 5) (.val (.int .i64 0))),zm 7 6,⟨(some 8),.mov (.tmp 1),(some (7,true))⟩,⟨(some 9),.bin .lss (.tmp 8) (.val (.int .i64 32)),(some (7,true))⟩,zq 10 (.pick (.tmp 7) (.tmp 9) (.val (.bool false))),zm 11 10,⟨(some 12),.mov (.tmp 0),(some (11,true))⟩,⟨(some 13),.mov (.tmp 1),(some (11,true))⟩,⟨(some 14),.bin .shr (.tmp 12) (.tmp 13),(some (11,true))⟩,⟨(some 15),.bin .and (.tmp 14) (.val (.int .u32 1)),(some (11,true))⟩,⟨(some 16),.bin .eql (.tmp 15) (.val (.int .u32 1)),(some (11,true))⟩,zq 17 (.pick (.tmp 11) (.tmp 16) (.val (.bool false))),zm 4 17]))
 .ret)) }
def h43:Hints:=⟨[],[(0,[0,1],[]),(1,[1,2,4],[]),(2,[1,2,4],[]),(3,[4],[])],[]⟩
def d43:DeferFn:=
{ n:=13,np:=2,res:=[.cell 4 none],g:=5,fD:=83,D:=a83,A:=
 (.keep [0,1] [] (.reg [zq 2 (.box none (.tmp 0)),zq 4 (.alloc none [.nils])])),pre:=
 [zq 5 (.mkfn 83 [(.tmp 4)])],post:=
 [],C:=
 (.seq (.keep [1,2,4] [] (.reg [zq 7 (.load (some 8) (.tmp 2)),zm 8 1,zq 9 (.call 78 [(.tmp 7),(.tmp 8)]),zm 6 9,zq 10 (.ext (.tmp 6) 0),zq 11 (.ext (.tmp 6) 1),⟨none,.store 1 (.tmp 4) (.tmp 10),none⟩]))
 (.seq (.keep [4] [] (.reg [zl 12 4,⟨none,.store 1 (.tmp 4) (.tmp 12),none⟩]))
 .ret)) }
theorem some_getD {α:Type} {o:Option α} (d:α) (h:o.isSome=true):o=some (o.getD d):=by cases o with | none=>cases h | some x=>rfl
def g36:Hints:=⟨[],[],[]⟩
def c36:AFn:=(trFn Tryd.prog g36 Tryd.f36).getD a41
def h48:Hints:=⟨[],[],[]⟩
def a48:AFn:=(trFn Tryd.prog h48 Tryd.f48).getD a41
def g79:Hints:=⟨[],[],[]⟩
def c79:AFn:=(trFn Tryd.prog g79 Tryd.f79).getD a41
def g80:Hints:=⟨[],[],[]⟩
def c80:AFn:=(trFn Tryd.prog g80 Tryd.f80).getD a41
def h115:Hints:=⟨[],[],[]⟩
def a115:AFn:=(trFn Tryd.prog h115 Tryd.f115).getD a41
def h116:Hints:=⟨[],[],[]⟩
def a116:AFn:=(trFn Tryd.prog h116 Tryd.f116).getD a41
def h117:Hints:=⟨[],[],[]⟩
def a117:AFn:=(trFn Tryd.prog h117 Tryd.f117).getD a41
def g120:Hints:=⟨[],[],[]⟩
def c120:AFn:=(trFn Tryd.prog g120 Tryd.f120).getD a41
def h130:Hints:=⟨[],[],[]⟩
def a130:AFn:=(trFn Tryd.prog h130 Tryd.f130).getD a41
def h131:Hints:=⟨[],[],[]⟩
def a131:AFn:=(trFn Tryd.prog h131 Tryd.f131).getD a41
def h132:Hints:=⟨[],[],[]⟩
def a132:AFn:=(trFn Tryd.prog h132 Tryd.f132).getD a41
def h133:Hints:=⟨[],[],[]⟩
def a133:AFn:=(trFn Tryd.prog h133 Tryd.f133).getD a41
def h134:Hints:=⟨[],[],[]⟩
def a134:AFn:=(trFn Tryd.prog h134 Tryd.f134).getD a41
def h135:Hints:=⟨[],[],[]⟩
def a135:AFn:=(trFn Tryd.prog h135 Tryd.f135).getD a41
def h136:Hints:=⟨[],[],[]⟩
def a136:AFn:=(trFn Tryd.prog h136 Tryd.f136).getD a41
def h137:Hints:=⟨[],[],[]⟩
def a137:AFn:=(trFn Tryd.prog h137 Tryd.f137).getD a41
def h138:Hints:=⟨[],[],[]⟩
def a138:AFn:=(trFn Tryd.prog h138 Tryd.f138).getD a41
def h139:Hints:=⟨[],[],[]⟩
def a139:AFn:=(trFn Tryd.prog h139 Tryd.f139).getD a41
def h140:Hints:=⟨[],[],[]⟩
def a140:AFn:=(trFn Tryd.prog h140 Tryd.f140).getD a41
def h141:Hints:=⟨[],[],[]⟩
def a141:AFn:=(trFn Tryd.prog h141 Tryd.f141).getD a41
def h142:Hints:=⟨[],[],[]⟩
def a142:AFn:=(trFn Tryd.prog h142 Tryd.f142).getD a41
def h143:Hints:=⟨[],[],[]⟩
def a143:AFn:=(trFn Tryd.prog h143 Tryd.f143).getD a41
def h144:Hints:=⟨[],[],[]⟩
def a144:AFn:=(trFn Tryd.prog h144 Tryd.f144).getD a41
def h145:Hints:=⟨[],[],[]⟩
def a145:AFn:=(trFn Tryd.prog h145 Tryd.f145).getD a41
def h146:Hints:=⟨[],[],[]⟩
def a146:AFn:=(trFn Tryd.prog h146 Tryd.f146).getD a41
def h147:Hints:=⟨[],[],[]⟩
def a147:AFn:=(trFn Tryd.prog h147 Tryd.f147).getD a41
def h148:Hints:=⟨[],[],[]⟩
def a148:AFn:=(trFn Tryd.prog h148 Tryd.f148).getD a41
def h151:Hints:=⟨[],[],[]⟩
def a151:AFn:=(trFn Tryd.prog h151 Tryd.f151).getD a41
def h152:Hints:=⟨[],[],[]⟩
def a152:AFn:=(trFn Tryd.prog h152 Tryd.f152).getD a41
def h153:Hints:=⟨[],[],[]⟩
def a153:AFn:=(trFn Tryd.prog h153 Tryd.f153).getD a41
def h154:Hints:=⟨[],[],[]⟩
def a154:AFn:=(trFn Tryd.prog h154 Tryd.f154).getD a41
def h155:Hints:=⟨[],[],[]⟩
def a155:AFn:=(trFn Tryd.prog h155 Tryd.f155).getD a41
def h156:Hints:=⟨[],[],[]⟩
def a156:AFn:=(trFn Tryd.prog h156 Tryd.f156).getD a41
def h157:Hints:=⟨[],[],[]⟩
def a157:AFn:=(trFn Tryd.prog h157 Tryd.f157).getD a41
def h158:Hints:=⟨[],[],[]⟩
def a158:AFn:=(trFn Tryd.prog h158 Tryd.f158).getD a41
def h161:Hints:=⟨[],[],[]⟩
def a161:AFn:=(trFn Tryd.prog h161 Tryd.f161).getD a41
def h162:Hints:=⟨[],[],[]⟩
def a162:AFn:=(trFn Tryd.prog h162 Tryd.f162).getD a41
theorem u36:trFn Tryd.prog g36 Tryd.f36=some c36:=some_getD _ (by kernel_rfl)
theorem t41:trFn Tryd.prog h41 Tryd.f41=some a41:=by kernel_rfl
theorem t42:trFn Tryd.prog h42 Tryd.f42=some a42:=by kernel_rfl
theorem t45:trFn Tryd.prog h45 Tryd.f45=some a45:=by kernel_rfl
theorem t48:trFn Tryd.prog h48 Tryd.f48=some a48:=some_getD _ (by kernel_rfl)
theorem t54:trFn Tryd.prog h54 Tryd.f54=some a54:=by kernel_rfl
theorem t67:trFn Tryd.prog h67 Tryd.f67=some a67:=by kernel_rfl
theorem t78:trFn Tryd.prog h78 Tryd.f78=some a78:=by kernel_rfl
theorem u79:trFn Tryd.prog g79 Tryd.f79=some c79:=some_getD _ (by kernel_rfl)
theorem u80:trFn Tryd.prog g80 Tryd.f80=some c80:=some_getD _ (by kernel_rfl)
theorem t81:trFn Tryd.prog h81 Tryd.f81=some a81:=by kernel_rfl
theorem t82:trFn Tryd.prog h82 Tryd.f82=some a82:=by kernel_rfl
theorem t83:trFn Tryd.prog h83 Tryd.f83=some a83:=by kernel_rfl
theorem t84:trFn Tryd.prog h84 Tryd.f84=some a84:=by kernel_rfl
theorem t87:trFn Tryd.prog h87 Tryd.f87=some a87:=by kernel_rfl
theorem t109:trFn Tryd.prog h109 Tryd.f109=some a109:=by kernel_rfl
theorem t114:trFn Tryd.prog h114 Tryd.f114=some a114:=by kernel_rfl
theorem t115:trFn Tryd.prog h115 Tryd.f115=some a115:=some_getD _ (by kernel_rfl)
theorem t116:trFn Tryd.prog h116 Tryd.f116=some a116:=some_getD _ (by kernel_rfl)
theorem t117:trFn Tryd.prog h117 Tryd.f117=some a117:=some_getD _ (by kernel_rfl)
theorem t118:trFn Tryd.prog h118 Tryd.f118=some a118:=by kernel_rfl
theorem t119:trFn Tryd.prog h119 Tryd.f119=some a119:=by kernel_rfl
theorem u120:trFn Tryd.prog g120 Tryd.f120=some c120:=some_getD _ (by kernel_rfl)
theorem t122:trFn Tryd.prog h122 Tryd.f122=some a122:=by kernel_rfl
theorem t129:trFn Tryd.prog h129 Tryd.f129=some a129:=by kernel_rfl
theorem t130:trFn Tryd.prog h130 Tryd.f130=some a130:=some_getD _ (by kernel_rfl)
theorem t131:trFn Tryd.prog h131 Tryd.f131=some a131:=some_getD _ (by kernel_rfl)
theorem t132:trFn Tryd.prog h132 Tryd.f132=some a132:=some_getD _ (by kernel_rfl)
theorem t133:trFn Tryd.prog h133 Tryd.f133=some a133:=some_getD _ (by kernel_rfl)
theorem t134:trFn Tryd.prog h134 Tryd.f134=some a134:=some_getD _ (by kernel_rfl)
theorem t135:trFn Tryd.prog h135 Tryd.f135=some a135:=some_getD _ (by kernel_rfl)
theorem t136:trFn Tryd.prog h136 Tryd.f136=some a136:=some_getD _ (by kernel_rfl)
theorem t137:trFn Tryd.prog h137 Tryd.f137=some a137:=some_getD _ (by kernel_rfl)
theorem t138:trFn Tryd.prog h138 Tryd.f138=some a138:=some_getD _ (by kernel_rfl)
theorem t139:trFn Tryd.prog h139 Tryd.f139=some a139:=some_getD _ (by kernel_rfl)
theorem t140:trFn Tryd.prog h140 Tryd.f140=some a140:=some_getD _ (by kernel_rfl)
theorem t141:trFn Tryd.prog h141 Tryd.f141=some a141:=some_getD _ (by kernel_rfl)
theorem t142:trFn Tryd.prog h142 Tryd.f142=some a142:=some_getD _ (by kernel_rfl)
theorem t143:trFn Tryd.prog h143 Tryd.f143=some a143:=some_getD _ (by kernel_rfl)
theorem t144:trFn Tryd.prog h144 Tryd.f144=some a144:=some_getD _ (by kernel_rfl)
theorem t145:trFn Tryd.prog h145 Tryd.f145=some a145:=some_getD _ (by kernel_rfl)
theorem t146:trFn Tryd.prog h146 Tryd.f146=some a146:=some_getD _ (by kernel_rfl)
theorem t147:trFn Tryd.prog h147 Tryd.f147=some a147:=some_getD _ (by kernel_rfl)
theorem t148:trFn Tryd.prog h148 Tryd.f148=some a148:=some_getD _ (by kernel_rfl)
theorem t149:trFn Tryd.prog h149 Tryd.f149=some a149:=by kernel_rfl
theorem t150:trFn Tryd.prog h150 Tryd.f150=some a150:=by kernel_rfl
theorem t151:trFn Tryd.prog h151 Tryd.f151=some a151:=some_getD _ (by kernel_rfl)
theorem t152:trFn Tryd.prog h152 Tryd.f152=some a152:=some_getD _ (by kernel_rfl)
theorem t153:trFn Tryd.prog h153 Tryd.f153=some a153:=some_getD _ (by kernel_rfl)
theorem t154:trFn Tryd.prog h154 Tryd.f154=some a154:=some_getD _ (by kernel_rfl)
theorem t155:trFn Tryd.prog h155 Tryd.f155=some a155:=some_getD _ (by kernel_rfl)
theorem t156:trFn Tryd.prog h156 Tryd.f156=some a156:=some_getD _ (by kernel_rfl)
theorem t157:trFn Tryd.prog h157 Tryd.f157=some a157:=some_getD _ (by kernel_rfl)
theorem t158:trFn Tryd.prog h158 Tryd.f158=some a158:=some_getD _ (by kernel_rfl)
theorem t159:trFn Tryd.prog h159 Tryd.f159=some a159:=by kernel_rfl
theorem t160:trFn Tryd.prog h160 Tryd.f160=some a160:=by kernel_rfl
theorem t161:trFn Tryd.prog h161 Tryd.f161=some a161:=some_getD _ (by kernel_rfl)
theorem t162:trFn Tryd.prog h162 Tryd.f162=some a162:=some_getD _ (by kernel_rfl)
theorem t163:trFn Tryd.prog h163 Tryd.f163=some a163:=by kernel_rfl
theorem t180:trFn Tryd.prog h180 Tryd.f180=some a180:=by kernel_rfl
theorem t181:trFn Tryd.prog h181 Tryd.f181=some a181:=by kernel_rfl
theorem t182:trFn Tryd.prog h182 Tryd.f182=some a182:=by kernel_rfl
theorem t183:trFn Tryd.prog h183 Tryd.f183=some a183:=by kernel_rfl
theorem t184:trFn Tryd.prog h184 Tryd.f184=some a184:=by kernel_rfl
theorem t185:trFn Tryd.prog h185 Tryd.f185=some a185:=by kernel_rfl
theorem t186:trFn Tryd.prog h186 Tryd.f186=some a186:=by kernel_rfl
theorem t187:trFn Tryd.prog h187 Tryd.f187=some a187:=by kernel_rfl
theorem t188:trFn Tryd.prog h188 Tryd.f188=some a188:=by kernel_rfl
theorem t189:trFn Tryd.prog h189 Tryd.f189=some a189:=by kernel_rfl
theorem t190:trFn Tryd.prog h190 Tryd.f190=some a190:=by kernel_rfl
theorem t113:trBack Tryd.prog h113 129 Tryd.f113=some b113:=by kernel_rfl
def a113:AFn:=primFn (backEv b113)
theorem t43:trDefer Tryd.prog h43 83 a83 Tryd.f43=some d43:=by kernel_rfl
def a43:AFn:=primFn (deferEv d43)
def A1:Nat→Option AFn:=lkF [(36,c36),(41,a41),(42,a42),(43,a43),(45,a45),(48,a48),(54,a54),(67,a67),(78,a78),(79,c79),(80,c80),(81,a81),(82,a82),(83,a83),(84,a84),(87,a87),(109,a109),(113,a113),(114,a114),(115,a115),(116,a116),(117,a117),(118,a118),(119,a119),(120,c120),(122,a122),(129,a129),(130,a130),(131,a131),(132,a132),(133,a133),(134,a134),(135,a135),(136,a136),(137,a137),(138,a138),(139,a139),(140,a140),(141,a141),(142,a142),(143,a143),(144,a144),(145,a145),(146,a146),(147,a147),(148,a148),(149,a149),(150,a150),(151,a151),(152,a152),(153,a153),(154,a154),(155,a155),(156,a156),(157,a157),(158,a158),(159,a159),(160,a160),(161,a161),(162,a162),(163,a163),(180,a180),(181,a181),(182,a182),(183,a183),(184,a184),(185,a185),(186,a186),(187,a187),(188,a188),(189,a189),(190,a190)]
theorem A1_ok:AOk Tryd.prog A1:=lkF_ok ⟨.inl ⟨g36,Tryd.f36,Tryd.func36,u36⟩,
 .inl ⟨h41,Tryd.f41,Tryd.func41,t41⟩,
 .inl ⟨h42,Tryd.f42,Tryd.func42,t42⟩,
 .inr ⟨_,rfl,defer_ok Tryd.func43 Tryd.func83 t83 t43⟩,
 .inl ⟨h45,Tryd.f45,Tryd.func45,t45⟩,
 .inl ⟨h48,Tryd.f48,Tryd.func48,t48⟩,
 .inl ⟨h54,Tryd.f54,Tryd.func54,t54⟩,
 .inl ⟨h67,Tryd.f67,Tryd.func67,t67⟩,
 .inl ⟨h78,Tryd.f78,Tryd.func78,t78⟩,
 .inl ⟨g79,Tryd.f79,Tryd.func79,u79⟩,
 .inl ⟨g80,Tryd.f80,Tryd.func80,u80⟩,
 .inl ⟨h81,Tryd.f81,Tryd.func81,t81⟩,
 .inl ⟨h82,Tryd.f82,Tryd.func82,t82⟩,
 .inl ⟨h83,Tryd.f83,Tryd.func83,t83⟩,
 .inl ⟨h84,Tryd.f84,Tryd.func84,t84⟩,
 .inl ⟨h87,Tryd.f87,Tryd.func87,t87⟩,
 .inl ⟨h109,Tryd.f109,Tryd.func109,t109⟩,
 .inr ⟨_,rfl,back_ok Tryd.func113 t113 back129⟩,
 .inl ⟨h114,Tryd.f114,Tryd.func114,t114⟩,
 .inl ⟨h115,Tryd.f115,Tryd.func115,t115⟩,
 .inl ⟨h116,Tryd.f116,Tryd.func116,t116⟩,
 .inl ⟨h117,Tryd.f117,Tryd.func117,t117⟩,
 .inl ⟨h118,Tryd.f118,Tryd.func118,t118⟩,
 .inl ⟨h119,Tryd.f119,Tryd.func119,t119⟩,
 .inl ⟨g120,Tryd.f120,Tryd.func120,u120⟩,
 .inl ⟨h122,Tryd.f122,Tryd.func122,t122⟩,
 .inl ⟨h129,Tryd.f129,Tryd.func129,t129⟩,
 .inl ⟨h130,Tryd.f130,Tryd.func130,t130⟩,
 .inl ⟨h131,Tryd.f131,Tryd.func131,t131⟩,
 .inl ⟨h132,Tryd.f132,Tryd.func132,t132⟩,
 .inl ⟨h133,Tryd.f133,Tryd.func133,t133⟩,
 .inl ⟨h134,Tryd.f134,Tryd.func134,t134⟩,
 .inl ⟨h135,Tryd.f135,Tryd.func135,t135⟩,
 .inl ⟨h136,Tryd.f136,Tryd.func136,t136⟩,
 .inl ⟨h137,Tryd.f137,Tryd.func137,t137⟩,
 .inl ⟨h138,Tryd.f138,Tryd.func138,t138⟩,
 .inl ⟨h139,Tryd.f139,Tryd.func139,t139⟩,
 .inl ⟨h140,Tryd.f140,Tryd.func140,t140⟩,
 .inl ⟨h141,Tryd.f141,Tryd.func141,t141⟩,
 .inl ⟨h142,Tryd.f142,Tryd.func142,t142⟩,
 .inl ⟨h143,Tryd.f143,Tryd.func143,t143⟩,
 .inl ⟨h144,Tryd.f144,Tryd.func144,t144⟩,
 .inl ⟨h145,Tryd.f145,Tryd.func145,t145⟩,
 .inl ⟨h146,Tryd.f146,Tryd.func146,t146⟩,
 .inl ⟨h147,Tryd.f147,Tryd.func147,t147⟩,
 .inl ⟨h148,Tryd.f148,Tryd.func148,t148⟩,
 .inl ⟨h149,Tryd.f149,Tryd.func149,t149⟩,
 .inl ⟨h150,Tryd.f150,Tryd.func150,t150⟩,
 .inl ⟨h151,Tryd.f151,Tryd.func151,t151⟩,
 .inl ⟨h152,Tryd.f152,Tryd.func152,t152⟩,
 .inl ⟨h153,Tryd.f153,Tryd.func153,t153⟩,
 .inl ⟨h154,Tryd.f154,Tryd.func154,t154⟩,
 .inl ⟨h155,Tryd.f155,Tryd.func155,t155⟩,
 .inl ⟨h156,Tryd.f156,Tryd.func156,t156⟩,
 .inl ⟨h157,Tryd.f157,Tryd.func157,t157⟩,
 .inl ⟨h158,Tryd.f158,Tryd.func158,t158⟩,
 .inl ⟨h159,Tryd.f159,Tryd.func159,t159⟩,
 .inl ⟨h160,Tryd.f160,Tryd.func160,t160⟩,
 .inl ⟨h161,Tryd.f161,Tryd.func161,t161⟩,
 .inl ⟨h162,Tryd.f162,Tryd.func162,t162⟩,
 .inl ⟨h163,Tryd.f163,Tryd.func163,t163⟩,
 .inl ⟨h180,Tryd.f180,Tryd.func180,t180⟩,
 .inl ⟨h181,Tryd.f181,Tryd.func181,t181⟩,
 .inl ⟨h182,Tryd.f182,Tryd.func182,t182⟩,
 .inl ⟨h183,Tryd.f183,Tryd.func183,t183⟩,
 .inl ⟨h184,Tryd.f184,Tryd.func184,t184⟩,
 .inl ⟨h185,Tryd.f185,Tryd.func185,t185⟩,
 .inl ⟨h186,Tryd.f186,Tryd.func186,t186⟩,
 .inl ⟨h187,Tryd.f187,Tryd.func187,t187⟩,
 .inl ⟨h188,Tryd.f188,Tryd.func188,t188⟩,
 .inl ⟨h189,Tryd.f189,Tryd.func189,t189⟩,
 .inl ⟨h190,Tryd.f190,Tryd.func190,t190⟩,trivial⟩
end
end Go.Proofs.YtkmbepgofajfkaaDoor
