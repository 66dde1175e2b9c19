/- How two edges are compared: slices.Compare of two pairs, in whatever world. -/
import Derived.Test.YtkmbepgofajfkaaDoorAgF1
import Derived.Test.YtkmbepgofajfkaaDoorAgSortfOk
import Derived.Test.YtkmbepgofajfkaaDoorAgPb
namespace AG
open Go Go.Proofs.YtkmbepgofajfkaaDoor Go.Proofs
set_option maxRecDepth 100000
set_option maxHeartbeats 4000000
theorem run1_149 (n:Nat) (args:List AV) (m:Mem):run A1 (n+1) 149 args m=fnEv (run A1 n) (ev A1 n).2 a149 args m:=run_of rfl n args m
theorem run1_118 (n:Nat) (args:List AV) (m:Mem):run A1 (n+1) 118 args m=fnEv (run A1 n) (ev A1 n).2 a118 args m:=run_of rfl n args m
theorem run1_82 (n:Nat) (args:List AV) (m:Mem):run A1 (n+1) 82 args m=fnEv (run A1 n) (ev A1 n).2 a82 args m:=run_of rfl n args m
theorem run1_81 (n:Nat) (args:List AV) (m:Mem):run A1 (n+1) 81 args m=fnEv (run A1 n) (ev A1 n).2 a81 args m:=run_of rfl n args m



theorem le2:(0+0+1≤0+1+1)=True∧(0+1+1≤0+1+1)=True:=⟨by simp,by simp⟩
theorem cmp149 (N:Nat) (x:Int) (m:Mem):run A1 (N+1) 149 [.int .i64 x] m=some (.bool false,m):=by
 rw [run1_149]
 unfold fnEv a149
 have h:decide (x=x)=true:=decide_eq_true rfl
 simp only [KK,Nat.reduceEqDiff,Nat.reduceAdd,Nat.reduceLT]
theorem cmp118 (N:Nat) (x y:Int) (m:Mem):run A1 (N+2) 118 [.int .i64 x,.int .i64 y] m=some (.int .i64 (cmpI x y),m):=by
 rw [run1_118]
 unfold fnEv a118 cmpI
 have h1:=cmp149 N x m
 have h2:=cmp149 N y m
 by_cases k1:x < y
 ·have d1:decide (x < y)=true:=decide_eq_true k1
  simp only [KK,Nat.reduceEqDiff,Nat.reduceAdd,Nat.reduceLT,h1,h2,k1]
 ·have d1:decide (x < y)=false:=decide_eq_false k1
  by_cases k2:y < x
  ·have d2:decide (y < x)=true:=decide_eq_true k2
   simp only [KK,Nat.reduceEqDiff,Nat.reduceAdd,Nat.reduceLT,h1,h2,k1,k2]
  ·have d2:decide (y < x)=false:=decide_eq_false k2
   simp only [KK,Nat.reduceEqDiff,Nat.reduceAdd,Nat.reduceLT,h1,h2,k1,k2]
theorem cmp82 (N:Nat) (m:Mem) (b c:Nat) (x1 x2 y1 y2:Int) (hb:m.get b=some (.cells [.int .i64 x1,.int .i64 x2] true)) (hc:m.get c=some (.cells [.int .i64 y1,.int .i64 y2] true)):
  run A1 (N+6) 82 [.slice b 0 2 (some 2) 1,.slice c 0 2 (some 2) 1] m=some (.int .i64 (cfP (x1,x2) (y1,y2)),m):=by
 rw [run1_82]
 unfold fnEv a82 cfP
 have h1:=fun n=>cmp118 n x1 y1 m
 have h2:=fun n=>cmp118 n x2 y2 m
 dsimp only
 by_cases k1:cmpI x1 y1=0
 ·have d1:decide (cmpI x1 y1=0)=true:=decide_eq_true k1
  by_cases k2:cmpI x2 y2=0
  ·have d2:decide (cmpI x2 y2=0)=true:=decide_eq_true k2
   simp only [KK,Nat.reduceEqDiff,Int.reduceLT,Int.reduceLE,Nat.reduceAdd,Nat.reduceLT,Int.reduceToNat,Nat.mul_one,ad0,ad1,a82_L1_step,a82_B1,again_of,Int.cast_ofNat_Int,Int.reduceLT,Int.reduceLE,cellsAt,le2,hb,hc,h1,h2,k1,k2]
  ·have d2:decide (cmpI x2 y2=0)=false:=decide_eq_false k2
   simp only [KK,Nat.reduceEqDiff,Int.reduceLT,Int.reduceLE,Nat.reduceAdd,Nat.reduceLT,Int.reduceToNat,Nat.mul_one,ad0,a82_L1_step,a82_B1,again_of,Int.cast_ofNat_Int,Int.reduceLT,Int.reduceLE,cellsAt,le2,hb,hc,h1,h2,k1,k2]
 ·have d1:decide (cmpI x1 y1=0)=false:=decide_eq_false k1
  simp only [KK,Nat.reduceEqDiff,Int.reduceLT,Int.reduceLE,Nat.reduceAdd,Nat.reduceLT,Nat.mul_one,a82_L1_step,a82_B1,Int.cast_ofNat_Int,Int.reduceLT,Int.reduceLE,cellsAt,le2,hb,hc,h1,k1]

def slcAR (n sz:Nat) (v:AV) (s:St):Option (AV×St):=match v with
 | .ptr b o=>some (.slice b o n (some n) sz,s)
 | _=>none
theorem opE_slcA2 (call:Caller) (s:St) (x:Opd):opEv call (.slcA 2 1 x none none none) s=slcAR 2 1 (s.opd x) s:=by
 unfold slcAR
 show (match s.opd x with | .ptr b o=>_ | _=>none)=_
 cases s.opd x <;> rfl
theorem slcAR_ptr (n sz b o:Nat) (s:St):slcAR n sz (.ptr b o) s=some (.slice b o n (some n) sz,s):=rfl
theorem cmp81 (N:Nat) (m:Mem) (hm:m.n+3≤2 ^ depth) (x y:Int×Int):
  ∃ m',run A1 (N+7) 81 [.agg [.int .i64 x.1,.int .i64 x.2],.agg [.int .i64 y.1,.int .i64 y.2]] m=some (.int .i64 (cfP x y),m'):=by
 obtain ⟨x1,x2⟩:=x
 obtain ⟨y1,y2⟩:=y
 have f1:=not_full (m:=m) (by omega)
 have f2:=not_full (m:=m.push (.cells [.int .i64 x1,.int .i64 x2] true)) (by rw [push_n]; omega)
 have h1:((m.push (.cells [.int .i64 x1,.int .i64 x2] true)).push (.cells [.int .i64 y1,.int .i64 y2] true)).get m.n=some (.cells [.int .i64 x1,.int .i64 x2] true):=(Mem.get_push_old _ f2 (by rw [push_n]; omega)).trans (Mem.get_push_new _)
 have h2:((m.push (.cells [.int .i64 x1,.int .i64 x2] true)).push (.cells [.int .i64 y1,.int .i64 y2] true)).get (m.n+1)=some (.cells [.int .i64 y1,.int .i64 y2] true):=by
  have:=Mem.get_push_new (m:=m.push (.cells [.int .i64 x1,.int .i64 x2] true)) (.cells [.int .i64 y1,.int .i64 y2] true)
  rw [push_n] at this
  exact this
 have h3:=cmp82 N _ m.n (m.n+1) x1 x2 y1 y2 h1 h2
 refine ⟨(m.push (.cells [.int .i64 x1,.int .i64 x2] true)).push (.cells [.int .i64 y1,.int .i64 y2] true),?_⟩
 rw [run1_81]
 unfold fnEv a81
 simp only [KK,Nat.reduceEqDiff,Nat.reduceAdd,Nat.reduceLT,AOp.kd,logOk_nil',push_n,opE_slcA2,slcAR_ptr,f1,f2,h3]

theorem hcmp81 (x y:Int×Int) (w:World):Calls Tryd.prog 81 #[.agg (encP x).toArray,.agg (encP y).toArray] w fun e w'=>e=.returned (.int .i64 (cfP x y))∧∃ q os,w'=Go.Sort.grow (w.drewN q) os:=by
 obtain ⟨m',h⟩:=cmp81 20 (memOf (List.replicate Tryd.prog.globals.size .dead)) (Nat.le_of_ble_eq_true (by kernel_rfl)) x y
 refine clean_calls A1_ok (Nat.le_of_ble_eq_true (by kernel_rfl)) h (fun ρ=>?_)
 simp only [VRs,VR,encP]
 exact ⟨_,_,rfl,⟨_,rfl,_,_,rfl,rfl,_,_,rfl,rfl,rfl⟩,_,_,rfl,⟨_,rfl,_,_,rfl,rfl,_,_,rfl,rfl,rfl⟩,rfl⟩
end AG
