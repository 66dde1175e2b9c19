/- The abstract machine, part 15: what is made anew may be made early. -/
import Derived.Test.YtkmbepgofajfkaaDoorAgDraw2
import Derived.Test.YtkmbepgofajfkaaDoorAgCode
namespace AG
noncomputable section
open Go Go.RowKit
section
variable {P:Program} {o:Oper} {a:Act} {w w':World} {next:Act→World→Prop} {Q:Exit→Act→World→Prop}
variable {ρ:Rho} {lam:Nat→Nat} {s:St} {H:Hints}
theorem trOp_lazy {dst:Option Nat} {op:Op} {ao:AOp} (h:trOp P H dst op=some ao) (hz:ao.lazy=true):
  (∃ t z,op=.alloc t∧ao=.alloc none z∧zeroOf P t=some z)∨(∃ t x y,op=.box t x∧ao=.box none y∧opd P x=some y)∨
  (∃ t e len ps sz z qs,op=.buildSlice t len ps∧ao=.mkslc sz len z qs∧P.underlying t=some (.slice e)∧szOf P e=some sz∧zeroOf P e=some z∧parts2 P ps.toList=some qs∧z.length=sz∧0 < sz)∨
  (∃ t e i z l c l' c',op=.makeSlice t l c∧ao=.make i.size i.bytes z l' c'∧P.underlying t=some (.slice e)∧P.info? e=some i∧zeroOf P e=some z∧z.length=i.size∧0 < i.size∧opd P l=some l'∧opd P c=some c'):=by
 unfold trOp at h
 split at h
 case h_4=>
  left
  split at h
  ·split at h
   ·cases h
   ·simp only [Option.map_eq_some_iff] at h; obtain ⟨z,hz',rfl⟩:=h
    cases hp:promoOf H (some _) with
    | none=>exact ⟨_,z,rfl,rfl,hz'⟩
    | some p=>rw [hp] at hz; simp [AOp.lazy] at hz
  ·simp only [Option.map_eq_some_iff] at h; obtain ⟨z,hz',rfl⟩:=h
   exact ⟨_,z,rfl,rfl,hz'⟩
 case h_5=>
  right; left
  simp only [Option.map_eq_some_iff] at h; obtain ⟨y,hy,rfl⟩:=h
  cases hp:promoOf H dst with
  | none=>exact ⟨_,_,y,rfl,rfl,hy⟩
  | some p=>rw [hp] at hz; simp [AOp.lazy] at hz
 case h_7=>
  right; right; left
  split at h
  ·rename_i e h1
   split at h
   ·rename_i sz z ps h2 h3 h4
    split at h
    ·rename_i hb
     cases h
     exact ⟨_,e,_,_,sz,z,ps,rfl,rfl,h1,h2,h3,h4,hb.1,hb.2⟩
    ·cases h
   ·cases h
  ·cases h
 case h_24=>
  right; right; right
  split at h
  ·rename_i e h1
   split at h
   ·rename_i i z l' c' h2 h3 h4 h5
    split at h
    ·rename_i hb
     cases h
     exact ⟨_,e,i,z,_,_,l',c',rfl,rfl,h1,h2,h3,hb.1,hb.2,h4,h5⟩
    ·cases h
   ·cases h
  ·cases h
 all_goals exfalso
 all_goals (repeat' (split at h))
 all_goals first
  | (cases h; done)
  | (cases h; simp [AOp.lazy] at hz; done)
  | (simp only [Option.map_eq_some_iff] at h; obtain ⟨_,_,rfl⟩:=h; simp [AOp.lazy] at hz; done)
theorem new_run {ao:AOp} {cs:List AV} {mk:Nat→AV} (htr:trOp P H o.dst o.op=some ao) (hz:ao.lazy=true) (hs:SR P ρ lam s a w) (hn:newOf ao s=some (cs,mk)):
  ∃ (r:Value) (rc:Array Value) (e:TypeId),(execOp a.eval o).run P w=.ok (.value r) (w.alloc (.cells rc e))∧VRs ρ cs rc.toList∧∀ (ρ2:Rho) (n2:Nat),ρ2[n2]?=some ⟨w.heap.size,0,rc.size,e⟩→VR ρ2 (mk n2) r:=by
 rcases trOp_lazy htr hz with ⟨t,z,ho,rfl,hzo⟩ | ⟨t,x,y,ho,rfl,hx⟩ | ⟨t,e,len,ps,sz,z,qs,ho,rfl,ht,hsz,hzo,hq,hzl,hpos⟩ | ⟨t,e,i,z,l,c,l',c',ho,rfl,ht,hi,hzo,hzl,hpos,hl,hc⟩
 ·obtain ⟨i,zv,hi,hzv,rfl⟩:=zeroOf_ok hzo
  simp only [newOf,Option.some.injEq,Prod.mk.injEq] at hn
  obtain ⟨rfl,rfl⟩:=hn
  exact ⟨.pointer (some ⟨w.heap.size,0,none⟩),zv.cells,t,by simp [execOp,ho,Instr.alloc,run_zero hi hzv,newVar,newRow],cAVs_ok ρ _,fun ρ2 n2 h=>by simp only [VR]; exact ⟨_,h,rfl⟩⟩
 ·simp only [newOf] at hn
  split at hn
  ·rename_i cs' hcs
   simp only [Option.some.injEq,Prod.mk.injEq] at hn
   obtain ⟨rfl,rfl⟩:=hn
   exact ⟨.pointer (some ⟨w.heap.size,0,none⟩),(a.eval x).cells,t,by simp [execOp,ho,Instr.box,newVar,newRow],cells_ok (hs.opd hx) hcs,fun ρ2 n2 h=>by simp only [VR]; exact ⟨_,h,rfl⟩⟩
  ·cases hn
 ·obtain ⟨i,zv,hi,hzv,rfl⟩:=zeroOf_ok hzo
  obtain ⟨i',hi',rfl⟩:=szOf_ok hsz
  rw [hi] at hi'; cases hi'
  simp only [newOf] at hn
  split at hn
  ·rename_i hb
   split at hn
   ·rename_i c hc
    simp only [Option.some.injEq,Prod.mk.injEq] at hn
    obtain ⟨rfl,rfl⟩:=hn
    have hlen:len≤maxLen:=by
     have:=Nat.le_trans (Nat.le_mul_of_pos_right _ hpos) hb
     unfold maxLen; omega
    by_cases h0:len*i.size=0
    ·have hl0:len=0:=by
      rcases Nat.mul_eq_zero.1 h0 with h | h
      ·exact h
      ·omega
     subst hl0
     obtain ⟨rc',h1,h2⟩:=fill_ok (fun j=>some (j*i.size,i.size)) _ _ _ _ ((Array.range (0*i.size)).map ((#[]:Array Value)[· % (#[]:Array Value).size]!)) (parts2_ok hs i.size hq) (by simp [zerosEv,VRs]) hc
     refine ⟨.slice (some ⟨w.heap.size,0,none⟩) 0 0,rc',e,?_,h2,fun ρ2 n2 h=>?_⟩
     ·have hb':¬(0*i.size > 2 ^ 24):=by omega
      simp only [execOp,ho,Instr.buildSlice,Sem.run_bind,run_underlying ht,run_sizeOf hi,Result.andThen_ok,Sem.run_ite,if_neg hb',if_pos h0,Sem.run_pure,Array.toList_map]
      rw [h1]
      simp [run_newRow]
     ·simp only [VR]
      exact ⟨_,0,h,rfl,Nat.le_refl _,Nat.zero_le _,rfl⟩
    ·obtain ⟨rc',h1,h2⟩:=fill_ok (fun j=>some (j*i.size,i.size)) _ _ _ _ ((Array.range (len*i.size)).map (zv.cells[· % zv.cells.size]!)) (parts2_ok hs i.size hq) (zeros_ok _ (cAVs_ok ρ _) (by omega)) hc
     refine ⟨.slice (some ⟨w.heap.size,0,none⟩) len len,rc',e,?_,h2,fun ρ2 n2 h=>?_⟩
     ·have hb':¬(len*i.size > 2 ^ 24):=by omega
      simp only [execOp,ho,Instr.buildSlice,Sem.run_bind,run_underlying ht,run_sizeOf hi,Result.andThen_ok,Sem.run_ite,if_neg hb',if_neg h0,run_zero hi hzv,Sem.run_pure,Array.toList_map]
      rw [h1]
      simp [run_newRow]
     ·simp only [VR]
      exact ⟨_,len,h,rfl,Nat.le_refl _,hlen,rfl⟩
   ·cases hn
  ·cases hn
 ·obtain ⟨i',zv,hi',hzv,rfl⟩:=zeroOf_ok hzo
  rw [hi] at hi'; cases hi'
  simp only [newOf] at hn
  split at hn
  ·rename_i k1 n1 k2 n2 e1 e2
   split at hn
   ·rename_i hb
    obtain ⟨b1,b2,b3,b4⟩:=hb
    simp only [Option.some.injEq,Prod.mk.injEq] at hn
    obtain ⟨rfl,rfl⟩:=hn
    have h1:=hs.opd hl
    have h2:=hs.opd hc
    rw [e1] at h1; rw [e2] at h2
    simp only [VT,VR] at h1 h2
    have w1:IntKind.i64.wrap n1=n1:=wrap64_id (by omega) (by omega)
    have w2:IntKind.i64.wrap n2=n2:=wrap64_id (by omega) (by omega)
    have t1:¬(n2 < 0):=by omega
    have t2:¬(281474976710656 < (i.bytes:Int)*n2):=by omega
    have t3:¬(n1 < 0):=by omega
    have t4:¬(n2 < n1):=by omega
    have hzs:=zeros_ok (ρ:=ρ) (n2.toNat*i.size) (cAVs_ok ρ zv.cells.toList) (by omega)
    refine ⟨.slice (some ⟨w.heap.size,0,none⟩) n1.toNat n2.toNat,(Array.range (n2.toNat*i.size)).map (zv.cells[· % zv.cells.size]!),e,?_,hzs,fun ρ2 n2' h=>?_⟩
    ·by_cases h0:n2.toNat*i.size=0
     ·simp [execOp,ho,h1,h2,Instr.makeSlice,run_underlying ht,asInt,asIntOf,typeInfo,hi,w1,w2,t1,t2,t3,t4,run_sizeOf hi,h0,run_newRow,show Array.range 0=#[] from rfl]
     ·have h0':¬(n2.toNat=0∨i.size=0):=by
       intro h; apply h0; rcases h with h | h <;> simp [h]
      simp [execOp,ho,h1,h2,Instr.makeSlice,run_underlying ht,asInt,asIntOf,typeInfo,hi,w1,w2,t1,t2,t3,t4,run_sizeOf hi,run_newRow,run_zero hi hzv]
      intro hh; exact absurd hh h0
    ·simp only [VR]
     exact ⟨_,n2.toNat,h,rfl,by omega,by unfold maxLen; omega,rfl⟩
   ·cases hn
  ·cases hn
theorem wp_put {K:Act→World→Prop} (hh:o.wp P a w K Q):o.wp P a w (fun a' w'=>K a' w'∧∃ r,a'.tmps=(a.put o.dst r).tmps) Q:=by
 unfold Oper.wp at*
 generalize (execOp a.eval o).run P w=r at*
 have hp:∀ (a':Act) (r:Value),a'.tmps=a.tmps→∃ r',(a'.put o.dst r).tmps=(a.put o.dst r').tmps:=fun a' r h=>⟨r,by
  unfold Act.put; split <;> simp [h]⟩
 cases r with
 | ok n w'=>
  cases n <;> simp only [Oper.upon] at hh ⊢ <;>
   first
    | exact ⟨hh,hp _ _ rfl⟩
    | exact Calls.mono hh (fun e w'' he=>by cases e <;> first | exact ⟨he,hp _ _ rfl⟩ | exact he)
    | exact Rows.mono hh (fun _ _ he=>⟨he,hp _ _ rfl⟩)
 | halt x w'=>cases x <;> simp only [Oper.upon] at hh ⊢ <;> exact hh
theorem oper_put {call:Caller} {ops:Array Oper} {K:Act→World→Prop} {X:Prop} {s':St} (hc:CallOk P call) (hs:SR P ρ lam s a w)
  (he:oneEv call (trOper P H ops o) s=some s') (hk:∀ a' w',Stands P ρ lam s w s' a' w'→(∃ r,a'.tmps=(a.put o.dst r).tmps)→K a' w'):
  if Region.wanted o (yielded ops a.tmps) then o.wp P a w K Q∨X else K (a.put o.dst undef) w:=by
 have h:=oper_ok (P:=P) (H:=H) (ops:=ops) (o:=o) (K:=fun a' w'=>Stands P ρ lam s w s' a' w') (Q:=Q) (X:=False) hc hs he (fun _ _ h=>h)
 split
 ·rename_i hw
  rw [if_pos hw] at h
  rcases h with h | h
  ·exact .inl (Oper.wp_mono (fun a' w' h=>hk a' w' h.1 h.2) (wp_put h))
  ·exact h.elim
 ·rename_i hw
  rw [if_neg hw] at h
  exact hk _ _ h ⟨undef,rfl⟩
theorem SR.pushAt (hs:SR P ρ lam s a w) (hf:s.m.full=false) {x:At} {b:ABlk} (hb:BR ρ x w b) (hna:¬AliveS ρ lam s x.blk):SR P (ρ++[x]) lam { s with m:=s.m.push b } a w:=by
 have hle:ρ.le (ρ++[x]):=Rho.le_append ρ [x]
 refine ⟨hs.size,hs.defers,fun u=>VT.mono hle (hs.tmp u),hs.live,fun t c hc=>?_,hs.linj,fun t c hc ha=>?_,hs.mem.push hf (fun h=>hna (.inl h)) (fun _ _=>rfl) hb⟩
 ·obtain ⟨rc,e,h1,h2⟩:=hs.loc t c hc
  exact ⟨rc,e,h1,VRs.mono hle _ _ h2⟩
 ·rcases AliveM.push hs.mem hf ha with h | h
  ·exact hs.lmem t c hc h
  ·exact hna (.inr ⟨t,c,hc,h⟩)
theorem AliveS.push (hs:SR P ρ lam s a w) (hf:s.m.full=false) {x:At} {b:ABlk} {k:Nat} (h:AliveS (ρ++[x]) lam { s with m:=s.m.push b } k):AliveS ρ lam s k∨k=x.blk:=by
 rcases h with h | h
 ·exact (AliveM.push hs.mem hf h).imp .inl id
 ·exact .inl (.inr h)
theorem OwnS.push (hs:SR P ρ lam s a w) (hf:s.m.full=false) {x:At} {b:ABlk} {k:Nat} (h:OwnS (ρ++[x]) lam { s with m:=s.m.push b } k):OwnS ρ lam s k∨k=x.blk:=by
 rcases h with h | h
 ·exact (OwnM.push hs.mem hf h).imp .inl id
 ·exact .inl (.inr h)
theorem SR.again {s':St} {d:Option Nat} {v:AV} (hs:SR P ρ lam s a w) (hv:∀ t,d=some t→VR ρ v (a.tmps.getD t undef)) (hp:s.put d v=some s'):SR P ρ lam s' a w:=by
 cases d with
 | none=>simp only [St.put,Option.some.injEq] at hp; subst hp; exact hs
 | some d=>
  simp only [St.put] at hp
  split at hp
  ·rename_i hd
   cases hp
   have hv':=hv d rfl
   refine ⟨hs.size,hs.defers,fun u=>?_,fun u t o hu=>?_,hs.loc,hs.linj,hs.lmem,hs.mem⟩
   ·by_cases e:d=u
    ·subst e; rw [look_setT_same]; exact VT.of_vr hv'
    ·rw [look_setT_ne _ _ _ _ e]; exact hs.tmp u
   ·dsimp only at hu
    by_cases e:d=u
    ·subst e; rw [look_setT_same] at hu
     rw [hu] at hv'; simp [VR] at hv'
    ·rw [look_setT_ne _ _ _ _ e] at hu; exact hs.live u t o hu
  ·cases hp
theorem SR.alloc (hs:SR P ρ lam s a w) (ob:Obj):SR P ρ lam s a (w.alloc ob):=by
 have hold:∀ k,k < w.heap.size→(w.alloc ob).heap[k]?=w.heap[k]?:=fun k hk=>Below.heap_alloc w ob k hk
 refine ⟨hs.size,hs.defers,hs.tmp,hs.live,fun t c hc=>?_,hs.linj,hs.lmem,hs.mem.of_heap (fun k hk=>hold k (AliveM.lt hs.mem hk))⟩
 obtain ⟨rc,e,h1,h2⟩:=hs.loc t c hc
 exact ⟨rc,e,(hold _ (hs.loc_lt hc)).trans h1,h2⟩
theorem AliveS.lt (hs:SR P ρ lam s a w) {k:Nat} (h:AliveS ρ lam s k):k < w.heap.size:=by
 rcases h with h | ⟨t,c,hc,rfl⟩
 ·exact AliveM.lt hs.mem h
 ·exact hs.loc_lt hc
theorem OwnS.alive {k:Nat} (h:OwnS ρ lam s k):AliveS ρ lam s k:=h.imp OwnM.alive id
theorem setT_setT:∀ (l:List (Nat×AV)) (t:Nat) (v x:AV),setT (setT l t v) t x=setT l t x
 | [],t,v,x=>by simp [setT_nil,setT_cons]
 | (u,y)::r,t,v,x=>by
  simp only [setT_cons]
  split
  ·simp [setT_cons]
  ·split
   ·simp [setT_cons]
   ·rename_i h1 h2
    simp only [setT_cons,if_neg h1,if_neg h2,setT_setT r]
end
section
variable {call:Caller}
theorem one_t {y:AOper×Bool} {s s1:St} (fy:FlagOk y) (h:dOneEv call y s=some s1):∃ v,s1.t=putT s.t y.1.dst v∧s1.n=s.n:=by
 rw [dOne_core] at h
 split at h
 ·rename_i v s0 h0
  obtain ⟨rfl,_⟩:=put_iff.1 h
  obtain ⟨k,_,b⟩:=beh fy.1 fy.2 h0
  obtain ⟨h1,h2⟩:=beh_t b
  exact ⟨v,by simp [h1],h2⟩
 ·cases h
theorem core_early {y:AOper×Bool} {s s1:St} {v:AV} (fy:FlagOk y) (h:core call y s=some (v,s1)) {d:Nat} {u:AV} (ha:d∉y.1.ts):core call y { s with t:=setT s.t d u }=some (v,{ s1 with t:=setT s.t d u }):=by
 obtain ⟨k,_,b⟩:=beh fy.1 fy.2 h
 have hal:Alike s { s with t:=setT s.t d u } y.1.ts:=fun t ht=>look_setT_ne _ _ _ _ (fun e=>ha (e▸ht))
 cases k <;> simp only [Beh] at b
 ·obtain ⟨rfl,b⟩:=b; exact b _ hal
 ·obtain ⟨rfl,_,b⟩:=b; exact b _ hal (MExt.of_eq rfl) (fun _ _ h=>h)
 ·obtain ⟨t,cs,h1,rfl,b⟩:=b; exact b _ hal h1
 ·obtain ⟨m1,rfl,b⟩:=b; exact b _ hal rfl
 ·obtain ⟨l1,m1,rfl,b⟩:=b; exact b _ hal rfl rfl
 ·obtain ⟨m1,rfl,_,b⟩:=b; exact b _ hal rfl
theorem early_one {y:AOper×Bool} {s s1:St} (fy:FlagOk y) (h:dOneEv call y s=some s1) {d:Nat} {u:AV} (ha:d∉y.1.ts) (hd:y.1.dst≠some d):dOneEv call y { s with t:=setT s.t d u }=some { s1 with t:=setT s1.t d u }:=by
 rw [dOne_core] at h ⊢
 split at h
 ·rename_i v s0 h0
  obtain ⟨rfl,h2⟩:=put_iff.1 h
  obtain ⟨k,_,b⟩:=beh fy.1 fy.2 h0
  obtain ⟨ht,hn⟩:=beh_t b
  rw [core_early fy h0 ha]
  dsimp only
  refine put_iff.2 ⟨?_,h2⟩
  simp only [ht]
  congr 1
  cases hdst:y.1.dst with
  | none=>rfl
  | some d'=>exact setT_comm _ _ _ (fun e=>hd (by rw [hdst,e]))
 ·cases h
theorem early_self {y:AOper×Bool} {s s1:St} (fy:FlagOk y) (h:dOneEv call y s=some s1) {d:Nat} {u:AV} (ha:d∉y.1.ts) (hd:y.1.dst=some d):dOneEv call y { s with t:=setT s.t d u }=some s1:=by
 rw [dOne_core] at h ⊢
 split at h
 ·rename_i v s0 h0
  obtain ⟨rfl,h2⟩:=put_iff.1 h
  obtain ⟨k,_,b⟩:=beh fy.1 fy.2 h0
  obtain ⟨ht,hn⟩:=beh_t b
  rw [core_early fy h0 ha]
  dsimp only
  refine put_iff.2 ⟨?_,h2⟩
  simp only [ht,hd,putT,setT_setT]
 ·cases h
theorem early_acc {g:Bool} {y:AOper} {s s1 s1':St} {d:Nat} {u:AV} (ha:d∉y.ts) (hm:s1'.m=s1.m):accOf g y { s with t:=setT s.t d u } s1'=accOf g y s s1:=
 accOf_alike (fun _ ht=>look_setT_ne _ _ _ _ (fun e=>ha (e▸ht))) (fun _=>⟨rfl,hm⟩)
abbrev DEl:=Nat×Bool×AOper×Bool
theorem early_list {x:DEl} {d:Nat} {u:AV} (fx:FlagOk x.2.2) (hx:x.2.2.1.dst=some d) (hxt:d∉x.2.2.1.ts):∀ (pre post:List DEl) (s s':St) (log:List Acc),
  (∀ y∈pre,FlagOk y.2.2∧d∉y.2.2.1.ts∧y.2.2.1.dst≠some d)→dOpsEv call ((pre++x::post).map (·.2)) s=some (s',log)→
  dOpsEv call ((pre++x::post).map (·.2)) { s with t:=setT s.t d u }=some (s',log)
 | [],post,s,s',log,_,h=>by
  simp only [List.nil_append,List.map_cons,dOpsEv] at h ⊢
  split at h
  ·rename_i s1 h1
   rw [early_self fx h1 hxt hx]
   dsimp only
   rw [early_acc (s1:=s1) (s1':=s1) hxt rfl]
   exact h
  ·cases h
 | y::pre,post,s,s',log,hp,h=>by
  simp only [List.cons_append,List.map_cons,dOpsEv] at h ⊢
  obtain ⟨fy,h1,h2⟩:=hp y (List.mem_cons_self ..)
  split at h
  ·rename_i s1 h3
   rw [early_one fy h3 h1 h2]
   dsimp only
   rw [early_acc (s1:=s1) (s1':={ s1 with t:=setT s1.t d u }) h1 rfl]
   split at h
   ·rename_i s2 lg h4
    have:=early_list (u:=u) fx hx hxt pre post s1 s2 lg (fun z hz=>hp z (List.mem_cons_of_mem _ hz)) h4
    rw [this]
    exact h
   ·cases h
  ·cases h
theorem mid {x:DEl}:∀ (pre post:List DEl) (s s':St) (log:List Acc),(∀ y∈pre,FlagOk y.2.2∧∀ t∈x.2.2.1.ts,y.2.2.1.dst≠some t)→dOpsEv call ((pre++x::post).map (·.2)) s=some (s',log)→
  ∃ s2 s3,dOneEv call x.2.2 s2=some s3∧Alike s s2 x.2.2.1.ts∧s2.n=s.n
 | [],post,s,s',log,_,h=>by
  simp only [List.nil_append,List.map_cons,dOpsEv] at h
  split at h
  ·rename_i s1 h1
   exact ⟨s,s1,h1,fun _ _=>rfl,rfl⟩
  ·cases h
 | y::pre,post,s,s',log,hp,h=>by
  simp only [List.cons_append,List.map_cons,dOpsEv] at h
  obtain ⟨fy,h1⟩:=hp y (List.mem_cons_self ..)
  split at h
  ·rename_i s1 h3
   split at h
   ·rename_i s2 lg h4
    obtain ⟨s2,s3,q1,q2,q3⟩:=mid pre post s1 s2 lg (fun z hz=>hp z (List.mem_cons_of_mem _ hz)) h4
    obtain ⟨v,e1,e2⟩:=one_t fy h3
    refine ⟨s2,s3,q1,fun t ht=>?_,q3.trans e2⟩
    rw [q2 t ht,e1,look_putT (h1 t ht)]
   ·cases h
  ·cases h
theorem frontF {x:DEl} (_:∀ d,x.2.2.1.dst=some d→True):∀ (pre post:List DEl) (s s':St) (log:List Acc),(∀ y∈pre,FlagOk y.2.2∧(∀ u∈x.2.2.1.ts,y.2.2.1.dst≠some u)∧(∀ u∈y.2.2.1.ts,x.2.2.1.dst≠some u)∧∀ d,y.2.2.1.dst=some d→x.2.2.1.dst≠some d)→
  guardEv x.2.2.1.guard s=some false→dOpsEv call ((pre++x::post).map (·.2)) s=some (s',log)→
  ∃ s1,dOneEv call x.2.2 s=some s1∧s.put x.2.2.1.dst (.tup [])=some s1∧dOpsEv call ((pre++post).map (·.2)) s1=some (s',log)
 | [],post,s,s',log,_,hg,h=>by
  simp only [List.nil_append,List.map_cons,dOpsEv] at h
  split at h
  ·rename_i s1 h1
   have h2:s.put x.2.2.1.dst (.tup [])=some s1:=by
    unfold dOneEv at h1; rw [hg] at h1; exact h1
   refine ⟨s1,h1,h2,?_⟩
   have hacc:∀ s2,accOf x.2.1 x.2.2.1 s s2=[]:=by
    intro s2; unfold accOf; rw [hg]; split <;> rfl
   split at h
   ·rename_i s3 lg h3
    rw [hacc] at h
    simp only [List.nil_append,Option.some.injEq,Prod.mk.injEq] at h
    obtain ⟨rfl,rfl⟩:=h
    exact h3
   ·cases h
  ·cases h
 | y::pre,post,s,s',log,hp,hg,h=>by
  simp only [List.cons_append,List.map_cons,dOpsEv] at h
  obtain ⟨fy,a1,a2,a3⟩:=hp y (List.mem_cons_self ..)
  split at h
  ·rename_i s1 h1
   split at h
   ·rename_i s2 lg h2
    obtain ⟨v,e1,e2⟩:=one_t fy h1
    have hal:Alike s s1 x.2.2.1.ts:=fun u hu=>by rw [e1]; exact look_putT (a1 u hu)
    obtain ⟨s3,q1,q2,q3⟩:=frontF (fun _ _=>trivial) pre post s1 s2 lg (fun z hz=>hp z (List.mem_cons_of_mem _ hz)) (by rw [guard_alike hal]; exact hg) h2
    cases hd:x.2.2.1.dst with
    | none=>
     rw [hd] at q2
     simp only [St.put,Option.some.injEq] at q2
     subst q2
     refine ⟨s,?_,rfl,?_⟩
     ·unfold dOneEv; rw [hg]; simp only [hd,St.put]
     ·simp only [List.cons_append,List.map_cons,dOpsEv,h1,q3]
      exact h
    | some d=>
     rw [hd] at q2
     obtain ⟨e3,hb⟩:=put_iff.1 q2
     have hput:s.put (some d) (.tup [])=some { s with t:=setT s.t d (.tup []) }:=put_iff.2 ⟨rfl,fun z hz=>by rw [←e2]; exact hb z hz⟩
     refine ⟨_,?_,hput,?_⟩
     ·unfold dOneEv; rw [hg]; simp only [hd]; exact hput
     ·have hdy:d∉y.2.2.1.ts:=fun hm=>a2 d hm hd
      have h5:=early_one (u:=.tup []) fy h1 hdy (fun e=>a3 d e hd)
      simp only [List.cons_append,List.map_cons,dOpsEv,h5]
      have h6:({ s1 with t:=setT s1.t d (.tup []) }:St)=s3:=e3.symm
      rw [h6,q3]
      dsimp only
      rw [early_acc (s1:=s1) (s1':=s3) hdy (by rw [e3])]
      exact h
   ·cases h
  ·cases h
end
theorem wanted_ok {P:Program} {H:Hints} {ρ:Rho} {lam:Nat→Nat} {s:St} {a:Act} {w:World} {ops:Array Oper} {o:Oper} {b:Bool} (hs:SR P ρ lam s a w) (hb:(trOper P H ops o).op≠.bad) (he:guardEv (trOper P H ops o).guard s=some b):Region.wanted o (yielded ops a.tmps)=b:=by
 rcases trOper_guard (P:=P) (H:=H) (ops:=ops) (o:=o) with ⟨j,want,t,h1,h2,h3⟩ | ⟨h1,h3⟩ | ⟨hbad,h3⟩
 ·rw [h3] at he
  simp only [guardEv] at he
  have hbt:=hs.tmp t
  have hty:∀ r,a.tmps.getD t undef=r→r≠undef→a.tmps[t]?=some r:=by
   intro r hr hne
   cases hh:a.tmps[t]? with
   | none=>exfalso; apply hne; rw [←hr]; simp [Array.getD_eq_getD_getElem?,hh]
   | some x=>simp [Array.getD_eq_getD_getElem?,hh] at hr; rw [hr]
  cases hl:look s.t t <;> simp only [hl] at he
  case bool c=>
   rw [hl] at hbt; simp only [VT,VR] at hbt
   have:=hty _ hbt (by simp [undef])
   simp only [Option.some.injEq] at he
   subst he
   simp [Region.wanted,h1,yielded,h2,this]
  case tup l=>
   rw [hl] at hbt; simp only [VT,VR] at hbt
   obtain ⟨rs,hbt,_⟩:=hbt
   have hno:∀ b,a.tmps[t]?≠some (.bool b):=by
    intro b hh
    simp [Array.getD_eq_getD_getElem?,hh] at hbt
   have hy:yielded ops a.tmps j=none:=by
    unfold yielded
    rw [h2,Option.bind_some]
    split
    ·rename_i b hh; exact absurd hh (hno b)
    ·rfl
   simp only [Option.some.injEq] at he
   subst he
   simp only [Region.wanted,h1,hy]
   rfl
  all_goals cases he
 ·rw [h3] at he
  simp only [guardEv,Option.some.injEq] at he
  subst he
  simp [Region.wanted,h1]
 ·exact absurd hbad hb
end
end AG
