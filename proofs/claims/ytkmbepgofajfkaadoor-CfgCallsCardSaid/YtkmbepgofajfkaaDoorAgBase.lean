/- The abstract machine, part 1: values, memory, how they stand to the model's. -/
import Derived.WalkKit
import Derived.Below
import Derived.Laws.AppendOwn
namespace AG
noncomputable section
open Go
inductive AV where
 | unk
 | bool (b:Bool)
 | int (k:IntKind) (n:Int)
 | str (s:ByteArray)
 | nilp
 | ptr (b o:Nat)
 | loc (t o:Nat)
 | nils
 | es
 | slice (b o n:Nat) (cap:Option Nat) (e:Nat)
 | nilm
 | map (b:Nat)
 | fn (f:Nat) (cs:List AV)
 | nilf
 | nili
 | iface (t:Nat) (v:AV)
 | agg (l:List AV)
 | tup (l:List AV)
 deriving Inhabited
def cAV:Value→AV
 | .bool b=>.bool b
 | .int k n=>.int k n
 | .string s=>.str s
 | .pointer none=>.nilp
 | .slice none 0 0=>.nils
 | .map none=>.nilm
 | .nilFunc=>.nilf
 | .nilIface=>.nili
 | .func (.func f) ⟨[]⟩ ⟨[]⟩=>.fn f []
 | .agg ⟨l⟩=>.agg (go l)
 | _=>.unk
 where go:List Value→List AV
 | []=>[]
 | v::r=>cAV v::go r
inductive ABlk where
 | cells (c:List AV) (own:Bool)
 | map (es:List (AV×AV×Nat)) (clock:Nat)
 | siter (s:ByteArray) (pos:Nat)
 | dead
 deriving Inhabited
inductive T where
 | nil
 | node (v:Option ABlk) (l r:T)
def T.get (t:T) (p:List Bool):Option ABlk:=
 T.rec (motive:=fun _=>List Bool→Option ABlk) (fun _=>none) (fun v _ _ gl gr p=>List.rec v (fun b bs _=>Bool.rec (gl bs) (gr bs) b) p) t p
def T.set (t:T) (p:List Bool) (x:ABlk):T:=
 List.rec (motive:=fun _=>T→T) (fun t=>T.rec (.node (some x) .nil .nil) (fun _ l r _ _=>.node (some x) l r) t)
  (fun b _ ih t=>T.rec (Bool.rec (.node none (ih .nil) .nil) (.node none .nil (ih .nil)) b) (fun v l r _ _=>Bool.rec (.node v (ih l) r) (.node v l (ih r)) b) t) p t
theorem T.get_nil (p:List Bool):T.nil.get p=none:=rfl
theorem T.get_node (v:Option ABlk) (l r:T) (b:Bool) (bs:List Bool):(T.node v l r).get (b::bs)=if b then r.get bs else l.get bs:=by cases b <;> rfl
theorem T.set_nilc (b:Bool) (bs:List Bool) (x:ABlk):T.nil.set (b::bs) x=if b then .node none .nil (T.nil.set bs x) else .node none (T.nil.set bs x) .nil:=by cases b <;> rfl
theorem T.set_node (v:Option ABlk) (l r:T) (b:Bool) (bs:List Bool) (x:ABlk):(T.node v l r).set (b::bs) x=if b then .node v l (r.set bs x) else .node v (l.set bs x) r:=by cases b <;> rfl
theorem T.get_set_same:∀ (p:List Bool) (t:T) (x:ABlk),(t.set p x).get p=some x
 | [],.nil,x=>rfl
 | [],.node _ _ _,x=>rfl
 | b::bs,.nil,x=>by cases b <;> simp [T.set_nilc,T.get_node,T.get_set_same bs]
 | b::bs,.node _ l r,x=>by cases b <;> simp [T.set_node,T.get_node,T.get_set_same bs]
theorem T.get_set_ne:∀ (p q:List Bool) (t:T) (x:ABlk),p≠q→p.length=q.length→(t.set p x).get q=t.get q
 | [],[],_,_,h,_=>absurd rfl h
 | [],_::_,_,_,_,h=>by simp at h
 | _::_,[],_,_,_,h=>by simp at h
 | b::bs,c::cs,.nil,x,h,hl=>by
  cases b <;> cases c <;> simp [T.set_nilc,T.get_node,T.get_nil]
  ·rw [T.get_set_ne bs cs .nil x (by simpa using h) (by simpa using hl)]; cases cs <;> rfl
  ·rw [T.get_set_ne bs cs .nil x (by simpa using h) (by simpa using hl)]; cases cs <;> rfl
 | b::bs,c::cs,.node v l r,x,h,hl=>by
  cases b <;> cases c <;> simp [T.set_node,T.get_node]
  ·exact T.get_set_ne bs cs l x (by simpa using h) (by simpa using hl)
  ·exact T.get_set_ne bs cs r x (by simpa using h) (by simpa using hl)
def path (k i:Nat):List Bool:=Nat.rec (motive:=fun _=>Nat→List Bool) (fun _=>[]) (fun _ ih i=>Nat.beq (i % 2) 1::ih (i / 2)) k i
theorem nbeq (a b:Nat):Nat.beq a b=(a == b):=by
 by_cases h:a=b
 ·subst h; rw [Nat.beq_refl]; simp
 ·cases hb:Nat.beq a b
  ·simp [h]
  ·exact absurd (Nat.eq_of_beq_eq_true hb) h
theorem path_succ (k i:Nat):path (k+1) i=(i % 2 == 1)::path k (i / 2):=by
 show Nat.beq (i % 2) 1::path k (i / 2)=_
 rw [nbeq]
theorem path_length:∀ k i,(path k i).length=k
 | 0,_=>rfl
 | k+1,i=>by rw [path_succ,List.length_cons,path_length k]
theorem path_inj:∀ k i j,i < 2 ^ k→j < 2 ^ k→path k i=path k j→i=j
 | 0,i,j,hi,hj,_=>by simp at hi hj; omega
 | k+1,i,j,hi,hj,h=>by
  simp only [path_succ,List.cons.injEq] at h
  have h2:=path_inj k (i / 2) (j / 2) (by rw [Nat.pow_succ] at hi; omega) (by rw [Nat.pow_succ] at hj; omega) h.2
  have h1:=h.1
  have:(i % 2=1)↔(j % 2=1):=by
   constructor <;> intro hh <;> simp [hh] at h1 <;> omega
  omega
structure Mem where
 n:Nat
 t:T
 ty:List (Nat×Nat×Bool):=[]
def lkTy:List (Nat×Nat×Bool)→Nat→Option (Nat×Bool)
 | [],_=>none
 | (i,t)::r,k=>if i=k then some t else lkTy r k
def depth:Nat:=64
def Mem.get (m:Mem) (i:Nat):Option ABlk:=if i < m.n then m.t.get (path depth i) else none
def Mem.set (m:Mem) (i:Nat) (b:ABlk):Mem:={ m with t:=m.t.set (path depth i) b }
def Mem.push (m:Mem) (b:ABlk):Mem:={ m with n:=m.n+1,t:=m.t.set (path depth m.n) b }
def Mem.note (m:Mem) (i t:Nat) (z:Bool):Mem:={ m with ty:=(i,t,z)::m.ty }
def Mem.noteO (m:Mem) (i:Nat):Option Nat→Mem
 | none=>m
 | some t=>m.note i t false
def Mem.tyOf (m:Mem) (i:Nat):Option (Nat×Bool):=lkTy m.ty i
def Mem.full (m:Mem):Bool:=decide (2 ^ depth≤m.n)
theorem Mem.get_set_same {m:Mem} {i:Nat} (b:ABlk) (h:i < m.n):(m.set i b).get i=some b:=by
 simp [Mem.get,Mem.set,h,T.get_set_same]
theorem Mem.get_set_ne {m:Mem} {i j:Nat} (b:ABlk) (hm:m.n≤2 ^ depth) (hi:i < m.n) (h:i≠j):(m.set i b).get j=m.get j:=by
 unfold Mem.get Mem.set
 dsimp only
 split
 ·rename_i hj
  exact T.get_set_ne _ _ _ _ (fun e=>h (path_inj depth i j (by omega) (by omega) e)) (by simp [path_length])
 ·rfl
theorem Mem.get_push_new {m:Mem} (b:ABlk):(m.push b).get m.n=some b:=by
 simp [Mem.get,Mem.push,T.get_set_same]
theorem Mem.get_push_old {m:Mem} {j:Nat} (b:ABlk) (hm:m.full=false) (h:j≠m.n):(m.push b).get j=m.get j:=by
 have hm':m.n < 2 ^ depth:=by simpa [Mem.full] using hm
 unfold Mem.get Mem.push
 dsimp only
 by_cases hj:j < m.n
 ·rw [if_pos (by omega),if_pos hj]
  exact T.get_set_ne _ _ _ _ (fun e=>h (path_inj depth m.n j (by omega) (by omega) e).symm) (by simp [path_length])
 ·rw [if_neg (by omega),if_neg hj]
theorem Mem.get_noteO {m:Mem} (i:Nat) (o:Option Nat) (j:Nat):(m.noteO i o).get j=m.get j:=by cases o <;> rfl
theorem Mem.get_lt {m:Mem} {i:Nat} {b:ABlk} (h:m.get i=some b):i < m.n:=by
 unfold Mem.get at h
 split at h
 ·assumption
 ·cases h
structure At where
 blk:Nat
 off:Nat
 size:Nat
 ty:Nat
abbrev Rho:=List At
mutual
def VR (ρ:Rho):AV→Value→Prop
 | .unk,_=>True
 | .bool b,r=>r=.bool b
 | .int k n,r=>r=.int k n
 | .str s,r=>r=.string s
 | .nilp,r=>r=.pointer none
 | .ptr b o,r=>∃ x,ρ[b]?=some x∧r=.pointer (some ⟨x.blk,x.off+o,none⟩)
 | .loc _ _,_=>False
 | .nils,r=>r=.slice none 0 0
 | .es,r=>∃ a,r=.slice (some a) 0 0
 | .slice b o n cap e,r=>∃ x c,ρ[b]?=some x∧r=.slice (some ⟨x.blk,x.off+o,none⟩) n c∧n≤c∧c≤maxLen∧
   match cap with
   | some c'=>c=c'
   | none=>x.off+o+c*e=x.size∨e=0
 | .nilm,r=>r=.map none
 | .map b,r=>∃ x,ρ[b]?=some x∧r=.map (some x.blk)
 | .fn f cs,r=>∃ rs,r=.func (.func f) #[] rs∧VRs ρ cs rs.toList
 | .nilf,r=>r=.nilFunc
 | .nili,r=>r=.nilIface
 | .iface t v,r=>∃ x,r=.iface t x∧VR ρ v x
 | .agg l,r=>∃ rs,r=.agg rs∧VRs ρ l rs.toList
 | .tup l,r=>∃ rs,r=.tuple rs∧VRs ρ l rs.toList
def VRs (ρ:Rho):List AV→List Value→Prop
 | [],rs=>rs=[]
 | v::l,rs=>∃ r rest,rs=r::rest∧VR ρ v r∧VRs ρ l rest
end
def Rho.le (ρ ρ':Rho):Prop:=∀ (i:Nat) (x:At),ρ[i]?=some x→ρ'[i]?=some x
theorem Rho.le_refl (ρ:Rho):ρ.le ρ:=fun _ _ h=>h
theorem Rho.le_trans {a b c:Rho} (h:a.le b) (k:b.le c):a.le c:=fun i x hx=>k i x (h i x hx)
theorem Rho.le_append (ρ e:Rho):ρ.le (ρ++e):=fun i x h=>by
 rw [List.getElem?_append_left (by exact (List.getElem?_eq_some_iff.1 h).1)]; exact h
mutual
theorem VR.mono {ρ ρ':Rho} (h:ρ.le ρ'):∀ (v:AV) (r:Value),VR ρ v r→VR ρ' v r
 | .unk,_,_=>by simp [VR]
 | .bool _,_,hv | .int _ _,_,hv | .str _,_,hv | .nilp,_,hv | .nils,_,hv | .es,_,hv | .nilm,_,hv | .nilf,_,hv | .nili,_,hv=>by simpa [VR] using hv
 | .loc _ _,_,hv=>by simp [VR] at hv
 | .ptr b o,r,hv=>by
  simp only [VR] at hv ⊢
  obtain ⟨x,hx,rfl⟩:=hv; exact ⟨x,h _ _ hx,rfl⟩
 | .slice b o n cap e,r,hv=>by
  simp only [VR] at hv ⊢
  obtain ⟨x,c,hx,rest⟩:=hv; exact ⟨x,c,h _ _ hx,rest⟩
 | .map b,r,hv=>by
  simp only [VR] at hv ⊢
  obtain ⟨x,hx,rfl⟩:=hv; exact ⟨x,h _ _ hx,rfl⟩
 | .fn f cs,r,hv=>by
  simp only [VR] at hv ⊢
  obtain ⟨rs,rfl,hr⟩:=hv; exact ⟨rs,rfl,VRs.mono h cs _ hr⟩
 | .iface t v,r,hv=>by
  simp only [VR] at hv ⊢
  obtain ⟨x,rfl,hr⟩:=hv; exact ⟨x,rfl,VR.mono h v _ hr⟩
 | .agg l,r,hv=>by
  simp only [VR] at hv ⊢
  obtain ⟨rs,rfl,hr⟩:=hv; exact ⟨rs,rfl,VRs.mono h l _ hr⟩
 | .tup l,r,hv=>by
  simp only [VR] at hv ⊢
  obtain ⟨rs,rfl,hr⟩:=hv; exact ⟨rs,rfl,VRs.mono h l _ hr⟩
theorem VRs.mono {ρ ρ':Rho} (h:ρ.le ρ'):∀ (l:List AV) (rs:List Value),VRs ρ l rs→VRs ρ' l rs
 | [],_,hv=>by simpa [VRs] using hv
 | v::l,_,hv=>by
  simp only [VRs] at hv ⊢
  obtain ⟨r,rest,rfl,h1,h2⟩:=hv
  exact ⟨r,rest,rfl,VR.mono h v r h1,VRs.mono h l rest h2⟩
end
theorem VRs.length {ρ:Rho}:∀ {l:List AV} {rs:List Value},VRs ρ l rs→rs.length=l.length
 | [],_,h=>by simp only [VRs] at h; subst h; rfl
 | v::l,_,h=>by
  simp only [VRs] at h
  obtain ⟨r,rest,rfl,_,h2⟩:=h
  simp [VRs.length h2]
theorem VRs.get {ρ:Rho}:∀ {l:List AV} {rs:List Value} {i:Nat} {v:AV},VRs ρ l rs→l[i]?=some v→∃ r,rs[i]?=some r∧VR ρ v r
 | [],_,_,_,_,h=>by simp at h
 | u::l,_,i,v,h,hi=>by
  simp only [VRs] at h
  obtain ⟨r,rest,rfl,h1,h2⟩:=h
  cases i with
  | zero=>simp at hi; subst hi; exact ⟨r,rfl,h1⟩
  | succ i=>simp at hi; simpa using VRs.get h2 hi
theorem VRs.of_get {ρ:Rho}:∀ {l:List AV} {rs:List Value},rs.length=l.length→(∀ (i:Nat) (v:AV) (r:Value),l[i]?=some v→rs[i]?=some r→VR ρ v r)→VRs ρ l rs
 | [],rs,h,_=>by simp only [VRs]; simpa using h
 | v::l,rs,h,hh=>by
  cases rs with
  | nil=>simp at h
  | cons r rest=>
   simp only [VRs]
   exact ⟨r,rest,rfl,hh 0 v r rfl rfl,VRs.of_get (by simpa using h) (fun i v' r' a b=>hh (i+1) v' r' (by simpa using a) (by simpa using b))⟩
theorem VRs.append {ρ:Rho}:∀ {l l':List AV} {rs rs':List Value},VRs ρ l rs→VRs ρ l' rs'→VRs ρ (l++l') (rs++rs')
 | [],_,_,_,h,h'=>by simp only [VRs] at h; subst h; simpa using h'
 | v::l,_,_,_,h,h'=>by
  simp only [VRs] at h
  obtain ⟨r,rest,rfl,h1,h2⟩:=h
  simp only [List.cons_append,VRs]
  exact ⟨r,_,rfl,h1,VRs.append h2 h'⟩
theorem VRs.take {ρ:Rho}:∀ {l:List AV} {rs:List Value} (k:Nat),VRs ρ l rs→VRs ρ (l.take k) (rs.take k)
 | _,_,0,_=>by simp [VRs]
 | [],_,k+1,h=>by simp only [VRs] at h; subst h; simp [VRs]
 | v::l,_,k+1,h=>by
  simp only [VRs] at h
  obtain ⟨r,rest,rfl,h1,h2⟩:=h
  simp only [List.take_succ_cons,VRs]
  exact ⟨r,_,rfl,h1,VRs.take k h2⟩
theorem VRs.drop {ρ:Rho}:∀ {l:List AV} {rs:List Value} (k:Nat),VRs ρ l rs→VRs ρ (l.drop k) (rs.drop k)
 | _,_,0,h=>by simpa using h
 | [],_,k+1,h=>by simp only [VRs] at h; subst h; simp [VRs]
 | v::l,_,k+1,h=>by
  simp only [VRs] at h
  obtain ⟨r,rest,rfl,h1,h2⟩:=h
  simpa using VRs.drop k h2
theorem VRs.set {ρ:Rho}:∀ {l:List AV} {rs:List Value} (k:Nat) {v:AV} {r:Value},VRs ρ l rs→VR ρ v r→VRs ρ (l.set k v) (rs.set k r)
 | [],_,_,_,_,h,_=>by simp only [VRs] at h; subst h; simp [VRs]
 | u::l,_,k,v,r,h,hv=>by
  simp only [VRs] at h
  obtain ⟨r0,rest,rfl,h1,h2⟩:=h
  cases k with
  | zero=>simp only [List.set_cons_zero,VRs]; exact ⟨r,rest,rfl,hv,h2⟩
  | succ k=>simp only [List.set_cons_succ,VRs]; exact ⟨r0,_,rfl,h1,VRs.set k h2 hv⟩
mutual
theorem cAV_ok (ρ:Rho):∀ v:Value,VR ρ (cAV v) v
 | .bool b=>by simp [cAV,VR]
 | .int k n=>by simp [cAV,VR]
 | .string s=>by simp [cAV,VR]
 | .agg ⟨l⟩=>by simp only [cAV,VR]; exact ⟨⟨l⟩,rfl,cAVs_ok ρ l⟩
 | .pointer none=>by simp [cAV,VR]
 | .pointer (some _)=>by simp [cAV,VR]
 | .map none=>by simp [cAV,VR]
 | .map (some _)=>by simp [cAV,VR]
 | .nilFunc=>by simp [cAV,VR]
 | .nilIface=>by simp [cAV,VR]
 | .slice a n c=>by
  unfold cAV
  split <;> simp_all [VR]
 | .func f a b=>by
  unfold cAV
  split <;> simp_all [VR,VRs]
 | .float _ _=>by simp [cAV,VR]
 | .complex _ _ _=>by simp [cAV,VR]
 | .chan _=>by simp [cAV,VR]
 | .iface _ _=>by simp [cAV,VR]
 | .tuple _=>by simp [cAV,VR]
theorem cAVs_ok (ρ:Rho):∀ l:List Value,VRs ρ (cAV.go l) l
 | []=>by simp [cAV.go,VRs]
 | v::r=>by simp only [cAV.go,VRs]; exact ⟨v,r,rfl,cAV_ok ρ v,cAVs_ok ρ r⟩
end
end
end AG
