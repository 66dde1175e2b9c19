/- slices.Sort, slices.Compact and slices.SortFunc of this seat, by the contracts of the library: each a step of the abstract machine. The layings are as the kit's own tool writes them. -/
import Derived.Shelf.Sort.Plain
import Derived.Ground.Names2Prog
import Derived.Shelf.Slices.CompactI
import Derived.Shelf.Slices.In.SortNone
import Derived.Ground.SlsfProg
import Derived.Shelf.SlSortCmp.NoneTotal
import Derived.Test.YtkmbepgofajfkaaDoorProg
import Derived.Test.YtkmbepgofajfkaaDoorAgSlcOk
import Derived.Test.YtkmbepgofajfkaaDoorAgCmp
namespace Go.Proofs
open Go.Shelf
def Tryd.lays189_ren:Go.Shelf.Ren:=⟨fun | 189=>79 | 125=>116 | 257=>115 | 128=>139 | 129=>140 | 294=>130 | 295=>131 | 296=>132 | 297=>133 | 298=>134 | 299=>135 | 216=>136 | 300=>137 | 301=>138 | 328=>151 | 329=>152 | 330=>153 | 331=>154 | 332=>155 | 215=>149 | 343=>161 | n=>n,fun | 28=>35 | 3=>3 | 46=>126 | 0=>0 | 51=>43 | 53=>171 | 4=>4 | 183=>164 | 182=>163 | 131=>78 | 5=>5 | 9=>9 | 218=>179 | 222=>183 | 228=>187 | 229=>66 | n=>n,fun | n=>n⟩
theorem Tryd.lays189:Go.Proofs.Lays.n189 Tryd.prog Tryd.lays189_ren:={
 mixed:=by kernel_rfl
 f125:=Tryd.func116.trans (congrArg some (by kernel_rfl))
 f128:=Tryd.func139.trans (congrArg some (by kernel_rfl))
 f129:=Tryd.func140.trans (congrArg some (by kernel_rfl))
 f189:=Tryd.func79.trans (congrArg some (by kernel_rfl))
 f215:=Tryd.func149.trans (congrArg some (by kernel_rfl))
 f216:=Tryd.func136.trans (congrArg some (by kernel_rfl))
 f257:=Tryd.func115.trans (congrArg some (by kernel_rfl))
 f294:=Tryd.func130.trans (congrArg some (by kernel_rfl))
 f295:=Tryd.func131.trans (congrArg some (by kernel_rfl))
 f296:=Tryd.func132.trans (congrArg some (by kernel_rfl))
 f297:=Tryd.func133.trans (congrArg some (by kernel_rfl))
 f298:=Tryd.func134.trans (congrArg some (by kernel_rfl))
 f299:=Tryd.func135.trans (congrArg some (by kernel_rfl))
 f300:=Tryd.func137.trans (congrArg some (by kernel_rfl))
 f301:=Tryd.func138.trans (congrArg some (by kernel_rfl))
 f328:=Tryd.func151.trans (congrArg some (by kernel_rfl))
 f329:=Tryd.func152.trans (congrArg some (by kernel_rfl))
 f330:=Tryd.func153.trans (congrArg some (by kernel_rfl))
 f331:=Tryd.func154.trans (congrArg some (by kernel_rfl))
 f332:=Tryd.func155.trans (congrArg some (by kernel_rfl))
 f343:=Tryd.func161.trans (congrArg some (by kernel_rfl))
 t0:=Tryd.underlying0
 a0:=Tryd.isAgg0
 z0:=Tryd.sizeOf0
 v0:=Tryd.zeroValue0
 t3:=Tryd.underlying3
 a3:=Tryd.isAgg3
 z3:=Tryd.sizeOf3
 v3:=Tryd.zeroValue3
 t4:=Tryd.underlying4
 a4:=Tryd.isAgg4
 z4:=Tryd.sizeOf4
 v4:=Tryd.zeroValue4
 t5:=Tryd.underlying5
 a5:=Tryd.isAgg5
 z5:=Tryd.sizeOf5
 v5:=Tryd.zeroValue5
 t9:=Tryd.underlying9
 a9:=Tryd.isAgg9
 z9:=Tryd.sizeOf9
 v9:=Tryd.zeroValue9
 t28:=Tryd.underlying35
 a28:=Tryd.isAgg35
 z28:=Tryd.sizeOf35
 v28:=Tryd.zeroValue35
 t46:=Tryd.underlying126
 a46:=Tryd.isAgg126
 z46:=Tryd.sizeOf126
 v46:=Tryd.zeroValue126
 t51:=Tryd.underlying43
 a51:=Tryd.isAgg43
 z51:=Tryd.sizeOf43
 v51:=Tryd.zeroValue43
 t53:=Tryd.underlying171
 a53:=Tryd.isAgg171
 z53:=Tryd.sizeOf171
 v53:=Tryd.zeroValue171
 t131:=Tryd.underlying78
 a131:=Tryd.isAgg78
 z131:=Tryd.sizeOf78
 v131:=Tryd.zeroValue78
 t182:=Tryd.underlying163
 a182:=Tryd.isAgg163
 z182:=Tryd.sizeOf163
 v182:=Tryd.zeroValue163
 t183:=Tryd.underlying164
 a183:=Tryd.isAgg164
 z183:=Tryd.sizeOf164
 v183:=Tryd.zeroValue164
 t218:=Tryd.underlying179
 a218:=Tryd.isAgg179
 z218:=Tryd.sizeOf179
 v218:=Tryd.zeroValue179
 t222:=Tryd.underlying183
 a222:=Tryd.isAgg183
 z222:=Tryd.sizeOf183
 v222:=Tryd.zeroValue183
 t228:=Tryd.underlying187
 a228:=Tryd.isAgg187
 z228:=Tryd.sizeOf187
 v228:=Tryd.zeroValue187
 t229:=Tryd.underlying66
 a229:=Tryd.isAgg66
 z229:=Tryd.sizeOf66
 v229:=Tryd.zeroValue66 }
open Go.Sort Go.RowKit in
theorem Tryd.slices_Sort_int (blk off cap:Nat) (zs:List Int) (w:World) (hH:Holds (Value.int .i64) w blk off zs.toArray) (hblk:blk < w.heap.size) (hsz:zs.length < 4611686018427387904):
  Calls Tryd.prog 79 #[.slice (some ⟨blk,off,none⟩) zs.length cap] w fun e w'=>
   e=.returned (.tuple #[])∧∃ n os,w'=grow (putRow (Value.int .i64) (Sort.ahead w n) blk off (zs.mergeSort fun x y=>decide (x≤y)).toArray) os:=Any.slices_Sort_int Tryd.lays189 blk off cap zs w hH hblk hsz
def Tryd.laysNm220_ren:Go.Shelf.Ren:=⟨fun | 20=>120 | n=>n,fun | 22=>35 | 3=>3 | 4=>4 | 0=>0 | n=>n,fun | n=>n⟩
theorem Tryd.laysNm220:Go.Proofs.Lays2.n20 Tryd.prog Tryd.laysNm220_ren:={
 mixed:=by kernel_rfl
 f20:=Tryd.func120.trans (congrArg some (by kernel_rfl))
 t0:=Tryd.underlying0
 a0:=Tryd.isAgg0
 z0:=Tryd.sizeOf0
 v0:=Tryd.zeroValue0
 t3:=Tryd.underlying3
 a3:=Tryd.isAgg3
 z3:=Tryd.sizeOf3
 v3:=Tryd.zeroValue3
 t4:=Tryd.underlying4
 a4:=Tryd.isAgg4
 z4:=Tryd.sizeOf4
 v4:=Tryd.zeroValue4
 t22:=Tryd.underlying35
 a22:=Tryd.isAgg35
 z22:=Tryd.sizeOf35
 v22:=Tryd.zeroValue35
 i3:=by kernel_rfl }
open Go.RowKit Go.Lib Go.Sort in
theorem Tryd.slices_Compact_int (blk off cap:Nat) (zs:List Int) (w:World) (hH:Holds (Value.int .i64) w blk off zs.toArray) (hsz:zs.length≤9223372036854775807) (hcap:zs.length≤cap):
  Calls Tryd.prog 120 #[.slice (some ⟨blk,off,none⟩) zs.length cap] w fun e w'=>e=.returned (.slice (some ⟨blk,off,none⟩) (Lib.compact zs).length cap)∧∃ q,w'=putRow (Value.int .i64) (Sort.ahead w q) blk off (Lib.compact zs++List.replicate (zs.length - (Lib.compact zs).length) 0).toArray:=Any.slices_Compact_int Tryd.laysNm220 blk off cap zs w hH hsz hcap
open Go.RowKit Go.Lib Go.Sort in
theorem Tryd.slices_Compact_int_empty (a:Option Addr) (cap:Nat) (w:World):
  Calls Tryd.prog 120 #[.slice a 0 cap] w fun e w'=>e=.returned (.slice a 0 cap)∧w'=w:=Any.slices_Compact_int_empty Tryd.laysNm220 a cap w
open Go.RowKit Go.Sort in
theorem Tryd.slices_Sort_int_none (p:Option Addr) (cap:Nat) (w:World):
  Calls Tryd.prog 79 #[.slice p 0 cap] w fun e w'=>e=.returned (.tuple #[])∧w'=w:=Any.slices_Sort_int_none Tryd.lays189 p cap w
def Tryd.laysSlF020_f141_ren:Go.Shelf.Ren:=⟨fun | 20=>141 | n=>n,fun | 24=>82 | 22=>80 | 3=>3 | 25=>112 | 4=>4 | 0=>0 | n=>n,fun | n=>n⟩
theorem Tryd.laysSlF020_f141:Go.Proofs.SlLaysF0.n20 Tryd.prog Tryd.laysSlF020_f141_ren:={
 mixed:=by kernel_rfl
 f20:=⟨Tryd.f141.name,by decide,Tryd.func141.trans (congrArg some (by kernel_rfl))⟩
 t0:=Tryd.underlying0
 a0:=Tryd.isAgg0
 z0:=Tryd.sizeOf0
 v0:=Tryd.zeroValue0
 t3:=Tryd.underlying3
 a3:=Tryd.isAgg3
 z3:=Tryd.sizeOf3
 v3:=Tryd.zeroValue3
 t4:=Tryd.underlying4
 a4:=Tryd.isAgg4
 z4:=Tryd.sizeOf4
 v4:=Tryd.zeroValue4
 t22:=Tryd.underlying80
 a22:=Tryd.isAgg80
 z22:=Tryd.sizeOf80
 v22:=Tryd.zeroValue80
 t25:=Tryd.underlying112
 a25:=Tryd.isAgg112
 z25:=Tryd.sizeOf112
 v25:=Tryd.zeroValue112 }
open Go.RowKit Go.Lib Go.Sort in
theorem Tryd.insertionSortCmpFunc_none {α:Type} [Inhabited α] (p:Option Addr) (cap:Nat) (fv:Value) (w:World):
  Calls Tryd.prog 141 #[.slice p 0 cap,.int .i64 0,.int .i64 0,fv] w fun e w'=>e=.returned (.tuple #[])∧w'=w:=AnyF.insertionSortCmpFunc_none Tryd.laysSlF020_f141 p cap fv w
def Tryd.laysSlF014_f117_ren:Go.Shelf.Ren:=⟨fun | 14=>117 | 20=>141 | 21=>142 | 22=>143 | 23=>144 | 24=>145 | 25=>146 | 26=>147 | 27=>148 | 46=>156 | 47=>152 | 48=>153 | 49=>157 | 50=>158 | 15=>116 | 57=>162 | 28=>139 | 29=>140 | n=>n,fun | 24=>82 | 22=>80 | 3=>3 | 25=>112 | 4=>4 | 0=>0 | 46=>164 | 45=>163 | 50=>78 | 66=>179 | 39=>126 | 55=>171 | 70=>183 | 76=>187 | 77=>66 | 53=>43 | 5=>5 | 9=>9 | n=>n,fun | n=>n⟩
theorem Tryd.laysSlF014_f117:Go.Proofs.SlLaysF0.n14 Tryd.prog Tryd.laysSlF014_f117_ren:={
 mixed:=by kernel_rfl
 f14:=⟨Tryd.f117.name,by decide,Tryd.func117.trans (congrArg some (by kernel_rfl))⟩
 f15:=Tryd.func116.trans (congrArg some (by kernel_rfl))
 f20:=⟨Tryd.f141.name,by decide,Tryd.func141.trans (congrArg some (by kernel_rfl))⟩
 f21:=⟨Tryd.f142.name,by decide,Tryd.func142.trans (congrArg some (by kernel_rfl))⟩
 f22:=⟨Tryd.f143.name,by decide,Tryd.func143.trans (congrArg some (by kernel_rfl))⟩
 f23:=⟨Tryd.f144.name,by decide,Tryd.func144.trans (congrArg some (by kernel_rfl))⟩
 f24:=⟨Tryd.f145.name,by decide,Tryd.func145.trans (congrArg some (by kernel_rfl))⟩
 f25:=⟨Tryd.f146.name,by decide,Tryd.func146.trans (congrArg some (by kernel_rfl))⟩
 f26:=⟨Tryd.f147.name,by decide,Tryd.func147.trans (congrArg some (by kernel_rfl))⟩
 f27:=⟨Tryd.f148.name,by decide,Tryd.func148.trans (congrArg some (by kernel_rfl))⟩
 f28:=Tryd.func139.trans (congrArg some (by kernel_rfl))
 f29:=Tryd.func140.trans (congrArg some (by kernel_rfl))
 f46:=⟨Tryd.f156.name,by decide,Tryd.func156.trans (congrArg some (by kernel_rfl))⟩
 f47:=Tryd.func152.trans (congrArg some (by kernel_rfl))
 f48:=Tryd.func153.trans (congrArg some (by kernel_rfl))
 f49:=⟨Tryd.f157.name,by decide,Tryd.func157.trans (congrArg some (by kernel_rfl))⟩
 f50:=⟨Tryd.f158.name,by decide,Tryd.func158.trans (congrArg some (by kernel_rfl))⟩
 f57:=⟨Tryd.f162.name,by decide,Tryd.func162.trans (congrArg some (by kernel_rfl))⟩
 t0:=Tryd.underlying0
 a0:=Tryd.isAgg0
 z0:=Tryd.sizeOf0
 v0:=Tryd.zeroValue0
 t3:=Tryd.underlying3
 a3:=Tryd.isAgg3
 z3:=Tryd.sizeOf3
 v3:=Tryd.zeroValue3
 t4:=Tryd.underlying4
 a4:=Tryd.isAgg4
 z4:=Tryd.sizeOf4
 v4:=Tryd.zeroValue4
 t5:=Tryd.underlying5
 a5:=Tryd.isAgg5
 z5:=Tryd.sizeOf5
 v5:=Tryd.zeroValue5
 t9:=Tryd.underlying9
 a9:=Tryd.isAgg9
 z9:=Tryd.sizeOf9
 v9:=Tryd.zeroValue9
 t22:=Tryd.underlying80
 a22:=Tryd.isAgg80
 z22:=Tryd.sizeOf80
 v22:=Tryd.zeroValue80
 t25:=Tryd.underlying112
 a25:=Tryd.isAgg112
 z25:=Tryd.sizeOf112
 v25:=Tryd.zeroValue112
 t39:=Tryd.underlying126
 a39:=Tryd.isAgg126
 z39:=Tryd.sizeOf126
 v39:=Tryd.zeroValue126
 t45:=Tryd.underlying163
 a45:=Tryd.isAgg163
 z45:=Tryd.sizeOf163
 v45:=Tryd.zeroValue163
 t46:=Tryd.underlying164
 a46:=Tryd.isAgg164
 z46:=Tryd.sizeOf164
 v46:=Tryd.zeroValue164
 t50:=Tryd.underlying78
 a50:=Tryd.isAgg78
 z50:=Tryd.sizeOf78
 v50:=Tryd.zeroValue78
 t53:=Tryd.underlying43
 a53:=Tryd.isAgg43
 z53:=Tryd.sizeOf43
 v53:=Tryd.zeroValue43
 t55:=Tryd.underlying171
 a55:=Tryd.isAgg171
 z55:=Tryd.sizeOf171
 v55:=Tryd.zeroValue171
 t66:=Tryd.underlying179
 a66:=Tryd.isAgg179
 z66:=Tryd.sizeOf179
 v66:=Tryd.zeroValue179
 t70:=Tryd.underlying183
 a70:=Tryd.isAgg183
 z70:=Tryd.sizeOf183
 v70:=Tryd.zeroValue183
 t76:=Tryd.underlying187
 a76:=Tryd.isAgg187
 z76:=Tryd.sizeOf187
 v76:=Tryd.zeroValue187
 t77:=Tryd.underlying66
 a77:=Tryd.isAgg66
 z77:=Tryd.sizeOf66
 v77:=Tryd.zeroValue66 }
open Go.RowKit Go.Lib Go.Sort in
theorem Tryd.pdqsortCmpFunc_none {α:Type} [Inhabited α] (p:Option Addr) (cap:Nat) (lim:Int) (fv:Value) (w:World):
  Calls Tryd.prog 117 #[.slice p 0 cap,.int .i64 0,.int .i64 0,.int .i64 lim,fv] w fun e w'=>e=.returned (.tuple #[])∧w'=w:=AnyF.pdqsortCmpFunc_none Tryd.laysSlF014_f117 p cap lim fv w
def Tryd.laysSlF06_f80_ren:Go.Shelf.Ren:=⟨fun | 6=>80 | 15=>116 | 14=>117 | 28=>139 | 29=>140 | 20=>141 | 21=>142 | 22=>143 | 23=>144 | 24=>145 | 25=>146 | 26=>147 | 27=>148 | 46=>156 | 47=>152 | 48=>153 | 49=>157 | 50=>158 | 57=>162 | n=>n,fun | 22=>80 | 24=>82 | 25=>112 | 3=>3 | 39=>126 | 0=>0 | 53=>43 | 55=>171 | 4=>4 | 46=>164 | 45=>163 | 50=>78 | 5=>5 | 9=>9 | 66=>179 | 70=>183 | 76=>187 | 77=>66 | n=>n,fun | n=>n⟩
theorem Tryd.laysSlF06_f80:Go.Proofs.SlLaysF0.n6 Tryd.prog Tryd.laysSlF06_f80_ren:={
 mixed:=by kernel_rfl
 f6:=⟨Tryd.f80.name,by decide,Tryd.func80.trans (congrArg some (by kernel_rfl))⟩
 f14:=⟨Tryd.f117.name,by decide,Tryd.func117.trans (congrArg some (by kernel_rfl))⟩
 f15:=Tryd.func116.trans (congrArg some (by kernel_rfl))
 f20:=⟨Tryd.f141.name,by decide,Tryd.func141.trans (congrArg some (by kernel_rfl))⟩
 f21:=⟨Tryd.f142.name,by decide,Tryd.func142.trans (congrArg some (by kernel_rfl))⟩
 f22:=⟨Tryd.f143.name,by decide,Tryd.func143.trans (congrArg some (by kernel_rfl))⟩
 f23:=⟨Tryd.f144.name,by decide,Tryd.func144.trans (congrArg some (by kernel_rfl))⟩
 f24:=⟨Tryd.f145.name,by decide,Tryd.func145.trans (congrArg some (by kernel_rfl))⟩
 f25:=⟨Tryd.f146.name,by decide,Tryd.func146.trans (congrArg some (by kernel_rfl))⟩
 f26:=⟨Tryd.f147.name,by decide,Tryd.func147.trans (congrArg some (by kernel_rfl))⟩
 f27:=⟨Tryd.f148.name,by decide,Tryd.func148.trans (congrArg some (by kernel_rfl))⟩
 f28:=Tryd.func139.trans (congrArg some (by kernel_rfl))
 f29:=Tryd.func140.trans (congrArg some (by kernel_rfl))
 f46:=⟨Tryd.f156.name,by decide,Tryd.func156.trans (congrArg some (by kernel_rfl))⟩
 f47:=Tryd.func152.trans (congrArg some (by kernel_rfl))
 f48:=Tryd.func153.trans (congrArg some (by kernel_rfl))
 f49:=⟨Tryd.f157.name,by decide,Tryd.func157.trans (congrArg some (by kernel_rfl))⟩
 f50:=⟨Tryd.f158.name,by decide,Tryd.func158.trans (congrArg some (by kernel_rfl))⟩
 f57:=⟨Tryd.f162.name,by decide,Tryd.func162.trans (congrArg some (by kernel_rfl))⟩
 t0:=Tryd.underlying0
 a0:=Tryd.isAgg0
 z0:=Tryd.sizeOf0
 v0:=Tryd.zeroValue0
 t3:=Tryd.underlying3
 a3:=Tryd.isAgg3
 z3:=Tryd.sizeOf3
 v3:=Tryd.zeroValue3
 t4:=Tryd.underlying4
 a4:=Tryd.isAgg4
 z4:=Tryd.sizeOf4
 v4:=Tryd.zeroValue4
 t5:=Tryd.underlying5
 a5:=Tryd.isAgg5
 z5:=Tryd.sizeOf5
 v5:=Tryd.zeroValue5
 t9:=Tryd.underlying9
 a9:=Tryd.isAgg9
 z9:=Tryd.sizeOf9
 v9:=Tryd.zeroValue9
 t22:=Tryd.underlying80
 a22:=Tryd.isAgg80
 z22:=Tryd.sizeOf80
 v22:=Tryd.zeroValue80
 t25:=Tryd.underlying112
 a25:=Tryd.isAgg112
 z25:=Tryd.sizeOf112
 v25:=Tryd.zeroValue112
 t39:=Tryd.underlying126
 a39:=Tryd.isAgg126
 z39:=Tryd.sizeOf126
 v39:=Tryd.zeroValue126
 t45:=Tryd.underlying163
 a45:=Tryd.isAgg163
 z45:=Tryd.sizeOf163
 v45:=Tryd.zeroValue163
 t46:=Tryd.underlying164
 a46:=Tryd.isAgg164
 z46:=Tryd.sizeOf164
 v46:=Tryd.zeroValue164
 t50:=Tryd.underlying78
 a50:=Tryd.isAgg78
 z50:=Tryd.sizeOf78
 v50:=Tryd.zeroValue78
 t53:=Tryd.underlying43
 a53:=Tryd.isAgg43
 z53:=Tryd.sizeOf43
 v53:=Tryd.zeroValue43
 t55:=Tryd.underlying171
 a55:=Tryd.isAgg171
 z55:=Tryd.sizeOf171
 v55:=Tryd.zeroValue171
 t66:=Tryd.underlying179
 a66:=Tryd.isAgg179
 z66:=Tryd.sizeOf179
 v66:=Tryd.zeroValue179
 t70:=Tryd.underlying183
 a70:=Tryd.isAgg183
 z70:=Tryd.sizeOf183
 v70:=Tryd.zeroValue183
 t76:=Tryd.underlying187
 a76:=Tryd.isAgg187
 z76:=Tryd.sizeOf187
 v76:=Tryd.zeroValue187
 t77:=Tryd.underlying66
 a77:=Tryd.isAgg66
 z77:=Tryd.sizeOf66
 v77:=Tryd.zeroValue66 }
open Go.RowKit Go.Lib Go.Sort in
theorem Tryd.slices_SortFunc_none {α:Type} [Inhabited α] (p:Option Addr) (cap:Nat) (fv:Value) (w:World):
  Calls Tryd.prog 80 #[.slice p 0 cap,fv] w fun e w'=>e=.returned (.tuple #[])∧w'=w:=AnyF.slices_SortFunc_none Tryd.laysSlF06_f80 p cap fv w
open Go.RowKit Go.Lib Go.Sort in
theorem Tryd.slices_SortFunc_total {α:Type} [Inhabited α] (k:Nat) (aE:∀ w,(isAgg 82).run Tryd.prog w=.ok true w) (zE:∀ w,(Go.sizeOf 82).run Tryd.prog w=.ok k w) (enc:α→List Value) (hk:∀ x,(enc x).length=k) (h1:∀ x,∀ v∈enc x,v.oneCell'=true) (cf:α→α→Int) (hO:SWO (ltOf cf)) (g:Nat) (cb:Array Value) (blk off cap:Nat) (d:Array α) (w:World) (eg:∀ args w,(callFunc g args).run Tryd.prog w=.ok (.enter g args) w) (hcmp:CmpLays Tryd.prog g cb enc k cf blk off d.size w) (hH:HoldsK enc k w blk off d) (hblk:blk < w.heap.size) (hsz:d.size < 4611686018427387904) (hT:∀ x y,(ltOf cf) x y=false→(ltOf cf) y x=false→x=y):
  Calls Tryd.prog 80 #[.slice (some ⟨blk,off,none⟩) d.size cap,.func (.func g) #[] cb] w fun e w'=>
   e=.returned (.tuple #[])∧∃ n os,w'=sortWorldK enc k w blk off n (d.toList.mergeSort fun x y=>!(ltOf cf) y x).toArray os:=AnyQ.slices_SortFunc_total Tryd.laysSlF06_f80 k aE zE enc hk h1 cf hO g cb blk off cap d w eg hcmp hH hblk hsz hT
end Go.Proofs
namespace Go.Proofs.YtkmbepgofajfkaaDoor
open AG Go Go.RowKit Go.Sort

theorem sort79:PrimOk Tryd.prog 79 sortEv:=
 sort_ok Tryd.func79 (by decide) rfl (fun blk off cap zs w h1 h2 h3=>Tryd.slices_Sort_int blk off cap zs w h1 h2 h3) (fun p cap w=>Tryd.slices_Sort_int_none p cap w)
theorem compact120:PrimOk Tryd.prog 120 compactEv:=
 compact_ok Tryd.func120 (by decide) rfl (fun blk off cap zs w h1 h2 h3=>Tryd.slices_Compact_int blk off cap zs w h1 h2 h3) (fun p cap w=>Tryd.slices_Compact_int_empty p cap w)
theorem one_cell (x:Int×Int):∀ v∈encP x,v.oneCell'=true:=by
 intro v hv
 simp only [encP,List.mem_cons,List.not_mem_nil,or_false] at hv
 rcases hv with rfl | rfl <;> rfl
theorem sortf80:PrimOk Tryd.prog 80 (sortfEv 81):=
 sortf_ok Tryd.func80 (by decide) rfl
  (fun blk off cap ps w hc hH hb hs=>Tryd.slices_SortFunc_total 2 Tryd.isAgg82 Tryd.sizeOf82 encP (fun _=>rfl) one_cell cfP cfP_swo 81 #[] blk off cap ps.toArray w (enters_of Tryd.func81 (by kernel_rfl) rfl) hc hH hb hs cfP_tot)
  (fun p cap fv w=>Tryd.slices_SortFunc_none (α:=Int×Int) p cap fv w) hcmp81
end Go.Proofs.YtkmbepgofajfkaaDoor
