/- The abstract machine, part 29: slices.SortFunc of pairs of whole numbers, by its contract: in the order of the pairs. -/
import Derived.Test.YtkmbepgofajfkaaDoorAgSlc
namespace AG
noncomputable section
open Go Go.RowKit
def pairsOf:List Int→List (Int×Int)
 | x::y::r=>(x,y)::pairsOf r
 | _=>[]
def flatP:List (Int×Int)→List Int
 | []=>[]
 | p::r=>p.1::p.2::flatP r
def lexle (p q:Int×Int):Bool:=decide (p.1 < q.1)||(p.1 == q.1&&decide (p.2≤q.2))
def sortP (l:List (Int×Int)):List (Int×Int):=l.mergeSort lexle
theorem pairs_flat:∀ l:List (Int×Int),pairsOf (flatP l)=l
 | []=>rfl
 | p::r=>by rw [flatP,pairsOf,pairs_flat r]
theorem flatP_len:∀ l:List (Int×Int),(flatP l).length=2*l.length
 | []=>rfl
 | p::r=>by rw [flatP,List.length_cons,List.length_cons,flatP_len r,List.length_cons]; omega
theorem sortP_len (l:List (Int×Int)):(sortP l).length=l.length:=by unfold sortP; simp
def sortfEv (g:Nat) (_:Caller) (args:List AV) (m:Mem):Option (AV×Mem):=
 match args with
 | [.nils,.fn f []]=>if f=g then some (.tup [],m) else none
 | [.slice b o n _ e,.fn f []]=>if f=g∧e=2 then if n=0 then some (.tup [],m) else if 1000000 < n then none else match ownInts m b o (2*n) with
  | some (c,zs)=>some (.tup [],m.set b (.cells (splice c o ((flatP (sortP (pairsOf zs))).map fun z=>.int .i64 z)) true))
  | none=>none
  else none
 | _=>none
end
end AG
