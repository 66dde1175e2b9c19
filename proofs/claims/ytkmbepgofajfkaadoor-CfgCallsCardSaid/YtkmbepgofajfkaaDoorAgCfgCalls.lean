/- CfgCalls: called with any arguments of its types, in whatever world lays the listed package variables as the text does, the function returns true and turns nothing that was there. The condition: the row's own, 'laid'. -/
import Derived.Test.YtkmbepgofajfkaaDoorRows
import Derived.Test.YtkmbepgofajfkaaDoorCards
import Derived.Test.YtkmbepgofajfkaaDoorTie
import Derived.Test.YtkmbepgofajfkaaDoorChecked
import Derived.Test.YtkmbepgofajfkaaDoorAgPm
import Derived.Test.YtkmbepgofajfkaaDoorAgFuncs
import Derived.Test.YtkmbepgofajfkaaDoorAgArgs
import Derived.Deep.DeepLaidRun
import Derived.MakeChecks
import Derived.SevenTiedAt
namespace Go.Proofs.YtkmbepgofajfkaaDoor
open Go.ChangeShapes Go.WideShapes Go.ChangeAt Go.RowKit Go.MakeChecks AG
set_option maxRecDepth 100000

theorem own:ownKnob Tryd.prog.godebug=none:=by kernel_rfl
theorem laidOut:laidOutB Tryd.prog=true:=by kernel_rfl
theorem start_ok {w:World} (h:laidMetH Tryd.prog Rows.cfgCallsRow.laid w):∃ ρ,MR Tryd.prog ρ (memOf blocks) w:=by
 have hfull:=h
 replace h:=laidMetH_data h
 have h2:=flat_blk h (show ("lamplighter/word.signs",Rows.laid_lamplighter_word_signs)∈Rows.cfgCallsRow.laid.filter fun x=>x.2.handleName?.isNone from List.mem_filter.2 ⟨List.mem_cons_self ..,by kernel_rfl⟩) (g:=2) (t:=(((Tryd.prog.globals[2]?).map (·.type)).getD 0)) (k:=8) (l:=v_word_signs) (by kernel_rfl) (by kernel_rfl) (by kernel_rfl)
 obtain ⟨x1,h1⟩:=slice_blk h (show ("lamplighter/code.kinds",Rows.laid_lamplighter_code_kinds)∈Rows.cfgCallsRow.laid.filter fun x=>x.2.handleName?.isNone from List.mem_filter.2 ⟨List.mem_cons_of_mem _ (List.mem_cons_self ..),by kernel_rfl⟩) (g:=1) (t:=(((Tryd.prog.globals[1]?).map (·.type)).getD 0)) (e:=(match Tryd.prog.underlying (((Tryd.prog.globals[1]?).map (·.type)).getD 0) with | some (.slice e)=>e | _=>0)) (k:=8) (len:=24) (c:=5) (l:=v_code_kinds) (by kernel_rfl) (by kernel_rfl) (by kernel_rfl) (by kernel_rfl) (by kernel_rfl) (by kernel_rfl) (by decide +kernel)
 have h0:=funcs_blk hfull (show ("lamplighter/image.checks",Rows.laid_lamplighter_image_checks)∈Rows.cfgCallsRow.laid from List.mem_cons_of_mem _ (List.mem_cons_of_mem _ (List.mem_cons_self ..))) (g:=0) (t:=(((Tryd.prog.globals[0]?).map (·.type)).getD 0)) (k:=6) (e:=(match Tryd.prog.underlying (((Tryd.prog.globals[0]?).map (·.type)).getD 0) with | some (.array _ e)=>e | _=>0)) (l:=v_image_checks) (by kernel_rfl) (by kernel_rfl) (by kernel_rfl) (by kernel_rfl) (by kernel_rfl)
 refine ⟨[⟨0,0,0,0⟩,⟨1,0,0,0⟩,⟨2,0,0,0⟩,x1],MR.of_list rfl (by decide) (fun g hg=>?_) (fun i b hb=>?_) (by decide +kernel)⟩
 ·have:g < 3:=hg
  match g,this with
  | 0,_=>exact ⟨_,rfl,rfl,rfl,rfl⟩
  | 1,_=>exact ⟨_,rfl,rfl,rfl,rfl⟩
  | 2,_=>exact ⟨_,rfl,rfl,rfl,rfl⟩
 ·match i with
  | 0=>cases hb; exact ⟨_,rfl,h0 _⟩
  | 1=>cases hb; exact ⟨_,rfl,(h1 _ 3 rfl).1⟩
  | 2=>cases hb; exact ⟨_,rfl,h2 _⟩
  | 3=>cases hb; exact ⟨_,rfl,(h1 _ 3 rfl).2⟩
  | i+4=>simp [blocks] at hb


theorem door_met (os:Os) (args:Array Value):laidMetH Tryd.prog Rows.cfgCallsRow.laid ((World.doorLaid Tryd.prog 48 os).forCall (fun _ _=>0) ⟨#[],args,[]⟩).memory:=
 laidMetH_of_parts3 (fuel:=8) (laidMet_of_run3 8 (by kernel_rfl) (by kernel_rfl) (by kernel_rfl)) (by kernel_rfl) (by kernel_rfl)

theorem int_v {ρ:Rho} {x:Int} {v:Value} (h:v=.int .i64 x):VR ρ (.int .i64 x) v:=by
 subst h
 simp only [VR]

theorem lifted (os:Os) (started:os.Started) (H:Type) (enc:TypeId×Value→H):
  ReturnsInHanded {} Tryd.checked os 11 .any (fun w args=>(Rows.cfgCallsSpec.pre enc Tryd.prog Tryd.f11 [] false w args∧laidMetH Tryd.prog Rows.cfgCallsRow.laid w)∧sizedMet enc Tryd.prog Tryd.f11 (OpenSpec.ofChange Rows.cfgCallsSpec) false w args)
   (Rows.cfgCallsSpec.post enc Tryd.prog Tryd.f11 false true false false):=by
 refine returnsInHanded_of_change_and (C:=Tryd.checked) (X:=fun w _=>laidMetH Tryd.prog Rows.cfgCallsRow.laid w) (fun _ _ _ hh h=>h.of_heap hh) own started (by kernel_rfl) Tryd.func11
  (ChangeSpec.witness_shaped (enc:=enc) (C:=Tryd.checked) (os:=os) (X:=fun w _=>laidMetH Tryd.prog Rows.cfgCallsRow.laid w) false (World.doorLaid Tryd.prog 48 os) #[.agg #[.slice none 0 0,.slice none 0 0,.slice none 0 0,.int .i64 0,.slice none 0 0,.slice none 0 0,.int .i64 0,.slice none 0 0],.int .i64 0,.int .i64 0,.int .i64 0] 8 rfl (World.shaped_of_RefB (by kernel_rfl) (by kernel_rfl)) (by kernel_rfl) (by kernel_rfl) (by kernel_rfl) (door_met os _)) ?_
 intro W base args ds gs before hval hW _ _ hL _
 have hW':=hW
 obtain ⟨p,q,hA0,hV,rfl,hfz,hnd⟩:=hW'
 have hA:DataW.TrodAll enc Tryd.prog W 0 (fun _=>true) true [((Tryd.f11.params[0]?).getD 0),((Tryd.f11.params[1]?).getD 0),((Tryd.f11.params[2]?).getD 0),((Tryd.f11.params[3]?).getD 0)] args.toList ds p:=hA0
 obtain ⟨v0,vs0,d0,ds0,p0,q0,e0,rfl,rfl,h0,hA0⟩:=trodAll_cons hA
 obtain ⟨v1,vs1,d1,ds1,p1,q1,e1,rfl,rfl,h1,hA1⟩:=trodAll_cons hA0
 obtain ⟨v2,vs2,d2,ds2,p2,q2,e2,rfl,rfl,h2,hA2⟩:=trodAll_cons hA1
 obtain ⟨v3,vs3,d3,ds3,p3,q3,e3,rfl,rfl,h3,hA3⟩:=trodAll_cons hA2
 obtain ⟨en,rfl,rfl⟩:=trodAll_nil hA3
 have ea:args.toList=[v0,v1,v2,v3]:=by rw [e0,e1,e2,e3,en]
 have w0:=hval 0 _ v0 rfl (by rw [←Array.getElem?_toList,ea]; rfl)
 have w1:=hval 1 _ v1 rfl (by rw [←Array.getElem?_toList,ea]; rfl)
 have w2:=hval 2 _ v2 rfl (by rw [←Array.getElem?_toList,ea]; rfl)
 have w3:=hval 3 _ v3 rfl (by rw [←Array.getElem?_toList,ea]; rfl)
 obtain ⟨x1,ev1,_,_,wf1⟩:=open_int (k:=.i64) (by kernel_rfl) w1 h1
 obtain ⟨x2,ev2,_,_,wf2⟩:=open_int (k:=.i64) (by kernel_rfl) w2 h2
 obtain ⟨x3,ev3,_,_,wf3⟩:=open_int (k:=.i64) (by kernel_rfl) w3 h3
 obtain ⟨ρ,hm0⟩:=start_ok hL
 have hlen:ρ.length=4:=hm0.len
 obtain ⟨I,M,bs,xs,hbl,hxl,hat,hown,_,hcs,him,hvr⟩:=image_arg h0 w0 (by kernel_rfl) 4
 obtain ⟨vra,bra⟩:=hvr (ρ++xs) (fun i x hx=>by
  rw [List.getElem?_append_right (by omega),hlen,Nat.add_sub_cancel_left]; exact hx)
 have hso:blocks.all (fun b=>!b.own)=true:=by kernel_rfl
 have hb4:blocks.length=4:=rfl
 have hat':M.atoms.length≤9223372036854775807:=hat
 have hdp:(2:Nat) ^ depth=18446744073709551616:=by decide +kernel
 have hle:blocks.length+bs.length≤2 ^ depth:=by rw [hdp]; omega
 have hle2:(blocks++bs).length≤2 ^ depth:=by rw [List.length_append]; exact hle
 have hm:=hm0.more (bs':=bs) hso hown hle xs hxl bra
 have hn:=memOf_n hle2
 have hlv:LV (memOf (blocks++bs)):=⟨by rw [hn,List.length_append]; omega,fun i b hb=>by
  rw [memOf_get hle2,List.getElem?_append_left (List.getElem?_eq_some_iff.1 hb).1]; exact hb⟩
 have himm:=him (memOf (blocks++bs)) (fun i b hb=>by
  rw [memOf_get hle2,List.getElem?_append_right (by omega),hb4,Nat.add_sub_cancel_left]; exact hb)
 obtain ⟨m2,hr⟩:=calls_law 40000 (Nat.le_refl _) _ hlv I M himm hcs (by rw [hn,List.length_append,hdp]; omega) x1 x2 x3
 have hc:=law_calls A_ok hr hm (rargs:=args) (by
  rw [ea]
  simp only [VRs]
  exact ⟨_,_,rfl,vra,_,_,rfl,int_v ev1,_,_,rfl,int_v ev2,_,_,rfl,int_v ev3,rfl⟩) hle2 (by
   rw [List.all_append,hso,hown]; rfl)
 obtain ⟨rfl,rfl⟩:=trodVars_none hV
 refine hc.mono fun e W' ⟨he,hb⟩=>?_
 subst he
 exact ⟨_,rfl,law_post (tb:=(Tryd.f11.resultTypes[0]?).getD 0) (by kernel_rfl) (by kernel_rfl) rfl hW rfl laidOut (by kernel_rfl) hb⟩

theorem cfgCalls_holds:Rows.CfgCallsSaid:=
 OpenClaim.holds_of_wide 11 Tryd.f11 rfl rfl rfl rfl rfl rfl rfl ⟨rfl,rfl,rfl,rfl,rfl⟩ rfl rfl rfl rfl rfl (by kernel_rfl) Tryd.func11 (by kernel_rfl)
  (of_decide_eq_true (by kernel_rfl)) (by unfold Func.isWrapper; first | (rw [if_pos (by decide +kernel)]; kernel_rfl) | (rw [if_neg (by decide +kernel)]; exact ⟨rfl,rfl⟩))
  (fun os started H enc _=>lifted os started H enc)

theorem cfgCalls_card_holds:Rows.CfgCallsCardSaid:=
 Claim7.holds_tied_plain_at .later [] [.data,.widerDeep,.funcs] true (true, "054ba98b6e0c192abea748de19c88ac47fb244701361a72d99b1191cf10c07b9") false
  cfgCalls_holds (fun _ h=>by cases h) (by kernel_rfl) (fun _ h=>by cases h) cfgCalls_row_tie rfl ⟨rfl,rfl⟩ (by kernel_rfl) rfl
  (fun f fn hf hfn=>by
   obtain rfl:f=11:=Option.some.inj ((show Tryd.prog.funcNamed "lamplighter/lamplighterlaw16.CfgCalls"=some 11 by kernel_rfl).symm.trans hf) |>.symm
   obtain rfl:fn=Tryd.f11:=(Option.some.inj (Tryd.func11.symm.trans hfn)).symm
   exact ⟨by kernel_rfl,fun j t ht=>by
    have hp:(Tryd.f11.params.toList.all fun t=>!Tryd.prog.wantsStandIn t)=true:=by kernel_rfl
    have:=List.all_eq_true.1 hp t (List.mem_of_getElem? (by rw [Array.getElem?_toList]; exact ht))
    have hq:Tryd.prog.wantsStandIn t=false:=by simpa using this
    exact hq⟩)
  (by kernel_rfl)
#print axioms cfgCalls_card_holds
end Go.Proofs.YtkmbepgofajfkaaDoor
