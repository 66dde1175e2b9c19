/- The abstract machine, part 26: slices.Sort, slices.Compact and slices.Contains of whole numbers, by their contracts. -/
import Derived.Test.YtkmbepgofajfkaaDoorAgStr
import Derived.Test.YtkmbepgofajfkaaDoorAgStart
import Derived.Lib.SlicesCompact
import Derived.Lib.RowBridge
namespace AG
noncomputable section
open Go Go.RowKit
def intsOf:List AV→Option (List Int)
 | []=>some []
 | .int .i64 x::r=>(intsOf r).map (x::·)
 | _::_=>none
def ownInts (m:Mem) (b o n:Nat):Option (List AV×List Int):=
 match m.get b with
 | some (.cells c true)=>match cellsAt c o n with
  | some l=>(intsOf l).map fun zs=>(c,zs)
  | none=>none
 | _=>none
def sortEv (_:Caller) (args:List AV) (m:Mem):Option (AV×Mem):=
 match args with
 | [.nils]=>some (.tup [],m)
 | [.slice b o n _ _]=>if n=0 then some (.tup [],m) else if 1000000 < n then none else match ownInts m b o n with
  | some (c,zs)=>some (.tup [],m.set b (.cells (splice c o ((zs.mergeSort fun x y=>decide (x≤y)).map fun z=>.int .i64 z)) true))
  | none=>none
 | _=>none
def compactEv (_:Caller) (args:List AV) (m:Mem):Option (AV×Mem):=
 match args with
 | [.nils]=>some (.nils,m)
 | [.slice b o n cap e]=>if n=0 then some (.slice b o n cap e,m) else match ownInts m b o n with
  | some (c,zs)=>some (.slice b o (Lib.compact zs).length cap e,m.set b (.cells (splice c o ((Lib.compact zs++List.replicate (zs.length - (Lib.compact zs).length) 0).map fun z=>.int .i64 z)) true))
  | none=>none
 | _=>none
end
end AG
