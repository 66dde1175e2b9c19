/- The closure of slices.Backward over a slice of ints: from the end, each index with its cell. -/
import Derived.Test.YtkmbepgofajfkaaDoorProg
import Derived.Test.YtkmbepgofajfkaaDoorAgBack
import Derived.RangeFuncBox
import Derived.WalkKit
import Derived.OwnWalkIn
import Derived.TacticsInMore
import Derived.LoopNIn
import Derived.LoopIn
namespace Go.Proofs.YtkmbepgofajfkaaDoor
open AG Go Go.RowKit

attribute [local go_sem] Oper.semAt_some

set_option maxRecDepth 100000 in
set_option maxHeartbeats 2000000 in
theorem back129_some (m l:Nat) (pa:Addr) (b:Addr) (len cap:Nat) (zs:List Value) (J:Nat→World→Prop) (W:World) (hz:zs.length=len) (hmax:len≤2 ^ 40) (hpa:pa.spot=none) (hb:b.spot=none)
  (hJ:∀ k W,k≤len→J k W→W.cell? pa=some (.slice (some b) len cap)∧∀ j,j < len→W.cell? ⟨b.block,b.off+j,none⟩=zs[j]?)
  (hY:∀ k W1,k < len→J k W1→YieldAt Fence.wide m Tryd.prog l #[.int .i64 ((len - 1 - k:Nat):Int),zs.getD (len - 1 - k) undef] W1 fun e W'=>e=.returned (.bool true)∧J (k+1) W')
  (h0:J 0 W):CallsIn Fence.wide (m+1) Tryd.prog 129 #[.func (.yield l) #[] #[],.pointer (some pa)] W fun e W'=>(∃ v,e=.returned v)∧J len W':=by
 obtain ⟨pb,po,ps⟩:=pa
 obtain ⟨bb,bo,bs⟩:=b
 dsimp only at hpa hb
 subst hpa; subst hb
 have hc0:=(hJ 0 W (Nat.zero_le _) h0).1
 refine callsIn_of_wp Tryd.func129 rfl trivial ?_
 simp only [Tryd.ntmps129,List.size_toArray,List.length_cons,List.length_nil,Nat.reduceAdd,Nat.reduceSub,Array.replicate_succ,Array.replicate_zero,List.push_toArray,List.append_toArray,List.nil_append,List.cons_append]
 gi_wp2
 gi_loopw [3] (fun i wr=>∃ k:Nat,k≤len∧i=.int .i64 ((len:Int) - 1 - k)∧J k wr) (fun i _=>(intOf i+1).toNat)
 case atStart=>exact ⟨0,Nat.zero_le _,by simp,h0⟩
 case round=>
  obtain ⟨k,hk,rfl,hJs⟩:=hrel
  obtain ⟨hcl,hel⟩:=hJ k wr hk hJs
  by_cases hlt:k < len
  ·obtain ⟨zi,hzi⟩:∃ zi,zs[len - 1 - k]?=some zi:=⟨_,List.getElem?_eq_getElem (by omega)⟩
   have hyk:=hY k wr hlt hJs
   rw [show zs.getD (len - 1 - k) undef=zi by simp [List.getD_eq_getElem?_getD,hzi],show ((len - 1 - k:Nat):Int)=(len:Int) - 1 - k by omega] at hyk
   obtain ⟨fn,tmps,assign,body,hy,hR⟩:=hyk
   have hcx:=hel (len - 1 - k) (by omega)
   rw [hzi] at hcx
   clear hY hel hzi
   gi_wp2
   refine hR.mono ?_
   rintro e W3 ⟨rfl,hJ3⟩
   gi_wp2
   go_roundw
   case rel=>exact ⟨k+1,by omega,by simp only [Value.int.injEq,true_and]; omega,hJ3⟩
   case measure=>simp [intOf]; omega
  ·obtain rfl:k=len:=by omega
   clear hY hel
   gi_wp2
   go_end0
   exact ⟨⟨_,rfl⟩,hJs⟩

set_option maxRecDepth 100000 in
set_option maxHeartbeats 2000000 in
theorem back129_nil (m l:Nat) (pa:Addr) (q:Option Addr) (cap:Nat) (J:Nat→World→Prop) (W:World) (hpa:pa.spot=none)
  (hJ:∀ W,J 0 W→W.cell? pa=some (.slice q 0 cap)) (h0:J 0 W):CallsIn Fence.wide (m+1) Tryd.prog 129 #[.func (.yield l) #[] #[],.pointer (some pa)] W fun e W'=>(∃ v,e=.returned v)∧J 0 W':=by
 obtain ⟨pb,po,ps⟩:=pa
 dsimp only at hpa
 subst hpa
 have hc0:=hJ W h0
 refine callsIn_of_wp Tryd.func129 rfl trivial ?_
 simp only [Tryd.ntmps129,List.size_toArray,List.length_cons,List.length_nil,Nat.reduceAdd,Nat.reduceSub,Array.replicate_succ,Array.replicate_zero,List.push_toArray,List.append_toArray,List.nil_append,List.cons_append]
 gi_wp2
 gi_loopw [3] (fun i wr=>i=.int .i64 (-1)∧J 0 wr) (fun _ _=>0)
 case atStart=>exact ⟨rfl,h0⟩
 case round=>
  obtain ⟨rfl,hJs⟩:=hrel
  gi_wp2
  go_end0
  exact ⟨⟨_,rfl⟩,hJs⟩

theorem back129:BackOk Tryd.prog 129:=by
 refine ⟨fun args w=>?_,?_⟩
 ·obtain ⟨c,hc⟩:∃ c,Tryd.f129.body=some c:=⟨_,rfl⟩
  have hn:Tryd.f129.name≠ "runtime.NumGoroutine":=by decide +kernel
  simp [callFunc,Tryd.func129,hc,hn]
 ·intro m l pa q len cap zs J W hz hmax hpa hJ hY h0
  by_cases hl:len=0
  ·subst hl
   exact callsIn_wide.1 (back129_nil m l pa q cap J W hpa (fun W h=>(hJ 0 W (Nat.le_refl _) h).1) h0)
  ·obtain ⟨b,rfl,hb,_⟩:=(hJ 0 W (Nat.zero_le _) h0).2 0 (by omega)
   refine callsIn_wide.1 (back129_some m l pa b len cap zs J W hz hmax hpa hb (fun k W hk hJk=>⟨(hJ k W hk hJk).1,fun j hj=>?_⟩) hY h0)
   obtain ⟨b',hb',_,h⟩:=(hJ k W hk hJk).2 j hj
   cases hb'
   exact h
#print axioms back129
end Go.Proofs.YtkmbepgofajfkaaDoor
