/- Texts melted into one: The contracts of slices.SortFunc, laid at this program. Conditions: the cells hold the elements, the comparison is a strict weak order. | slices.Compare on integers; s -/
import Derived.Ground.SlsfProg
import Derived.Shelf.SlSortCmp.WholeK
import Derived.Shelf.SlSortCmp.Whole1
import Derived.Shelf.SlSortCmp.NoneTotal
import Derived.Test.YtfmnagcglhlicaaGreatTopCrashK23
set_option maxRecDepth 100000
set_option maxHeartbeats 2000000
namespace Go.Proofs.YtfmnagcglhlicaaGreat
open Go.Shelf
def qM:Go.Shelf.Ren:=⟨fun|6=>214|15=>217|14=>221|28=>232|29=>233|20=>243|21=>244|22=>245|23=>246|24=>247|25=>248|26=>249|27=>250|46=>261|47=>253|48=>254|49=>262|50=>263|57=>266|n=>n,fun|22=>218|24=>240|25=>277|3=>3|39=>210|0=>0|53=>284|55=>303|4=>4|46=>297|45=>296|50=>206|5=>5|9=>9|66=>314|70=>318|76=>324|77=>325|n=>n,fun|n=>n⟩
theorem oJ:Go.Proofs.SlLaysF0.n6 Tryz.prog qM:={
 mixed:=by kernel_rfl
 f6:=⟨Tryz.f214.name,by decide,Tryz.func214.trans (congrArg some (by kernel_rfl))⟩
 f14:=⟨Tryz.f221.name,by decide,Tryz.func221.trans (congrArg some (by kernel_rfl))⟩
 f15:=Tryz.func217.trans (congrArg some (by kernel_rfl))
 f20:=⟨Tryz.f243.name,by decide,Tryz.func243.trans (congrArg some (by kernel_rfl))⟩
 f21:=⟨Tryz.f244.name,by decide,Tryz.func244.trans (congrArg some (by kernel_rfl))⟩
 f22:=⟨Tryz.f245.name,by decide,Tryz.func245.trans (congrArg some (by kernel_rfl))⟩
 f23:=⟨Tryz.f246.name,by decide,Tryz.func246.trans (congrArg some (by kernel_rfl))⟩
 f24:=⟨Tryz.f247.name,by decide,Tryz.func247.trans (congrArg some (by kernel_rfl))⟩
 f25:=⟨Tryz.f248.name,by decide,Tryz.func248.trans (congrArg some (by kernel_rfl))⟩
 f26:=⟨Tryz.f249.name,by decide,Tryz.func249.trans (congrArg some (by kernel_rfl))⟩
 f27:=⟨Tryz.f250.name,by decide,Tryz.func250.trans (congrArg some (by kernel_rfl))⟩
 f28:=Tryz.func232.trans (congrArg some (by kernel_rfl))
 f29:=Tryz.func233.trans (congrArg some (by kernel_rfl))
 f46:=⟨Tryz.f261.name,by decide,Tryz.func261.trans (congrArg some (by kernel_rfl))⟩
 f47:=Tryz.func253.trans (congrArg some (by kernel_rfl))
 f48:=Tryz.func254.trans (congrArg some (by kernel_rfl))
 f49:=⟨Tryz.f262.name,by decide,Tryz.func262.trans (congrArg some (by kernel_rfl))⟩
 f50:=⟨Tryz.f263.name,by decide,Tryz.func263.trans (congrArg some (by kernel_rfl))⟩
 f57:=⟨Tryz.f266.name,by decide,Tryz.func266.trans (congrArg some (by kernel_rfl))⟩
 t0:=Tryz.underlying0
 a0:=Tryz.isAgg0
 z0:=Tryz.sizeOf0
 v0:=Tryz.zeroValue0
 t3:=Tryz.underlying3
 a3:=Tryz.isAgg3
 z3:=Tryz.sizeOf3
 v3:=Tryz.zeroValue3
 t4:=Tryz.underlying4
 a4:=Tryz.isAgg4
 z4:=Tryz.sizeOf4
 v4:=Tryz.zeroValue4
 t5:=Tryz.underlying5
 a5:=Tryz.isAgg5
 z5:=Tryz.sizeOf5
 v5:=Tryz.zeroValue5
 t9:=Tryz.underlying9
 a9:=Tryz.isAgg9
 z9:=Tryz.sizeOf9
 v9:=Tryz.zeroValue9
 t22:=Tryz.underlying218
 a22:=Tryz.isAgg218
 z22:=Tryz.sizeOf218
 v22:=Tryz.zeroValue218
 t25:=Tryz.underlying277
 a25:=Tryz.isAgg277
 z25:=Tryz.sizeOf277
 v25:=Tryz.zeroValue277
 t39:=Tryz.underlying210
 a39:=Tryz.isAgg210
 z39:=Tryz.sizeOf210
 v39:=Tryz.zeroValue210
 t45:=Tryz.underlying296
 a45:=Tryz.isAgg296
 z45:=Tryz.sizeOf296
 v45:=Tryz.zeroValue296
 t46:=Tryz.underlying297
 a46:=Tryz.isAgg297
 z46:=Tryz.sizeOf297
 v46:=Tryz.zeroValue297
 t50:=Tryz.underlying206
 a50:=Tryz.isAgg206
 z50:=Tryz.sizeOf206
 v50:=Tryz.zeroValue206
 t53:=Tryz.underlying284
 a53:=Tryz.isAgg284
 z53:=Tryz.sizeOf284
 v53:=Tryz.zeroValue284
 t55:=Tryz.underlying303
 a55:=Tryz.isAgg303
 z55:=Tryz.sizeOf303
 v55:=Tryz.zeroValue303
 t66:=Tryz.underlying314
 a66:=Tryz.isAgg314
 z66:=Tryz.sizeOf314
 v66:=Tryz.zeroValue314
 t70:=Tryz.underlying318
 a70:=Tryz.isAgg318
 z70:=Tryz.sizeOf318
 v70:=Tryz.zeroValue318
 t76:=Tryz.underlying324
 a76:=Tryz.isAgg324
 z76:=Tryz.sizeOf324
 v76:=Tryz.zeroValue324
 t77:=Tryz.underlying325
 a77:=Tryz.isAgg325
 z77:=Tryz.sizeOf325
 v77:=Tryz.zeroValue325}
open Go.RowKit Go.Lib Go.Sort in
theorem slices_SortFunc {α:Type} [Inhabited α] (k:Nat)(aE:∀w,(isAgg 240).run Tryz.prog w=.ok true w)(zE:∀w,(Go.sizeOf 240).run Tryz.prog w=.ok k w)(enc:α→List Value)(hk:∀x,(enc x).length=k)(h1:∀x,∀v∈enc x,v.oneCell'=true)(cf:α→α→Int)(hO:SWO (ltOf cf))(g:Nat)(cb:Array Value)(blk off cap:Nat)(d:Array α)(w:World)(eg:∀args w,(callFunc g args).run Tryz.prog w=.ok (.enter g args) w)(hcmp:CmpLays Tryz.prog g cb enc k cf blk off d.size w)(hH:HoldsK enc k w blk off d)(hblk:blk<w.heap.size)(hsz:d.size<4611686018427387904) :
  Calls Tryz.prog 214 #[.slice (some ⟨blk,off,none⟩) d.size cap,.func (.func g) #[] cb] w fun e w' =>
   e=.returned (.tuple #[])∧∃d' n os,PermIn 0 d.size d d'∧SortedIn (ltOf cf) 0 d.size d'∧w'=sortWorldK enc k w blk off n d' os:=AnyQ.slices_SortFunc oJ k aE zE enc hk h1 cf hO g cb blk off cap d w eg hcmp hH hblk hsz
def rP:Go.Shelf.Ren:=⟨fun|6=>213|15=>217|14=>220|28=>232|29=>233|20=>235|21=>236|22=>237|23=>238|24=>239|25=>240|26=>241|27=>242|46=>258|47=>253|48=>254|49=>259|50=>260|57=>265|n=>n,fun|22=>28|24=>3|25=>275|3=>3|39=>210|0=>0|53=>284|55=>303|4=>4|46=>297|45=>296|50=>206|5=>5|9=>9|66=>314|70=>318|76=>324|77=>325|n=>n,fun|n=>n⟩
theorem zG:Go.Proofs.SlLaysF.n6 Tryz.prog rP:={
 mixed:=by kernel_rfl
 f6:=⟨Tryz.f213.name,by decide,Tryz.func213.trans (congrArg some (by kernel_rfl))⟩
 f14:=⟨Tryz.f220.name,by decide,Tryz.func220.trans (congrArg some (by kernel_rfl))⟩
 f15:=Tryz.func217.trans (congrArg some (by kernel_rfl))
 f20:=⟨Tryz.f235.name,by decide,Tryz.func235.trans (congrArg some (by kernel_rfl))⟩
 f21:=⟨Tryz.f236.name,by decide,Tryz.func236.trans (congrArg some (by kernel_rfl))⟩
 f22:=⟨Tryz.f237.name,by decide,Tryz.func237.trans (congrArg some (by kernel_rfl))⟩
 f23:=⟨Tryz.f238.name,by decide,Tryz.func238.trans (congrArg some (by kernel_rfl))⟩
 f24:=⟨Tryz.f239.name,by decide,Tryz.func239.trans (congrArg some (by kernel_rfl))⟩
 f25:=⟨Tryz.f240.name,by decide,Tryz.func240.trans (congrArg some (by kernel_rfl))⟩
 f26:=⟨Tryz.f241.name,by decide,Tryz.func241.trans (congrArg some (by kernel_rfl))⟩
 f27:=⟨Tryz.f242.name,by decide,Tryz.func242.trans (congrArg some (by kernel_rfl))⟩
 f28:=Tryz.func232.trans (congrArg some (by kernel_rfl))
 f29:=Tryz.func233.trans (congrArg some (by kernel_rfl))
 f46:=⟨Tryz.f258.name,by decide,Tryz.func258.trans (congrArg some (by kernel_rfl))⟩
 f47:=Tryz.func253.trans (congrArg some (by kernel_rfl))
 f48:=Tryz.func254.trans (congrArg some (by kernel_rfl))
 f49:=⟨Tryz.f259.name,by decide,Tryz.func259.trans (congrArg some (by kernel_rfl))⟩
 f50:=⟨Tryz.f260.name,by decide,Tryz.func260.trans (congrArg some (by kernel_rfl))⟩
 f57:=⟨Tryz.f265.name,by decide,Tryz.func265.trans (congrArg some (by kernel_rfl))⟩
 t0:=Tryz.underlying0
 a0:=Tryz.isAgg0
 z0:=Tryz.sizeOf0
 v0:=Tryz.zeroValue0
 t3:=Tryz.underlying3
 a3:=Tryz.isAgg3
 z3:=Tryz.sizeOf3
 v3:=Tryz.zeroValue3
 t4:=Tryz.underlying4
 a4:=Tryz.isAgg4
 z4:=Tryz.sizeOf4
 v4:=Tryz.zeroValue4
 t5:=Tryz.underlying5
 a5:=Tryz.isAgg5
 z5:=Tryz.sizeOf5
 v5:=Tryz.zeroValue5
 t9:=Tryz.underlying9
 a9:=Tryz.isAgg9
 z9:=Tryz.sizeOf9
 v9:=Tryz.zeroValue9
 t22:=Tryz.underlying28
 a22:=Tryz.isAgg28
 z22:=Tryz.sizeOf28
 v22:=Tryz.zeroValue28
 a24:=Tryz.isAgg3
 z24:=Tryz.sizeOf3
 t25:=Tryz.underlying275
 a25:=Tryz.isAgg275
 z25:=Tryz.sizeOf275
 v25:=Tryz.zeroValue275
 t39:=Tryz.underlying210
 a39:=Tryz.isAgg210
 z39:=Tryz.sizeOf210
 v39:=Tryz.zeroValue210
 t45:=Tryz.underlying296
 a45:=Tryz.isAgg296
 z45:=Tryz.sizeOf296
 v45:=Tryz.zeroValue296
 t46:=Tryz.underlying297
 a46:=Tryz.isAgg297
 z46:=Tryz.sizeOf297
 v46:=Tryz.zeroValue297
 t50:=Tryz.underlying206
 a50:=Tryz.isAgg206
 z50:=Tryz.sizeOf206
 v50:=Tryz.zeroValue206
 t53:=Tryz.underlying284
 a53:=Tryz.isAgg284
 z53:=Tryz.sizeOf284
 v53:=Tryz.zeroValue284
 t55:=Tryz.underlying303
 a55:=Tryz.isAgg303
 z55:=Tryz.sizeOf303
 v55:=Tryz.zeroValue303
 t66:=Tryz.underlying314
 a66:=Tryz.isAgg314
 z66:=Tryz.sizeOf314
 v66:=Tryz.zeroValue314
 t70:=Tryz.underlying318
 a70:=Tryz.isAgg318
 z70:=Tryz.sizeOf318
 v70:=Tryz.zeroValue318
 t76:=Tryz.underlying324
 a76:=Tryz.isAgg324
 z76:=Tryz.sizeOf324
 v76:=Tryz.zeroValue324
 t77:=Tryz.underlying325
 a77:=Tryz.isAgg325
 z77:=Tryz.sizeOf325
 v77:=Tryz.zeroValue325}
open Go.RowKit Go.Lib Go.Sort in
theorem nW {α:Type} [Inhabited α] (enc:α→Value)(h1:OneCell enc)(cf:α→α→Int)(hO:SWO (ltOf cf))(g:Nat)(cb:Array Value)(blk off cap:Nat)(d:Array α)(w:World)(eg:∀args w,(callFunc g args).run Tryz.prog w=.ok (.enter g args) w)(hcmp:CmpLays1 Tryz.prog g cb enc cf blk off d.size w)(hH:Holds enc w blk off d)(hblk:blk<w.heap.size)(hsz:d.size<4611686018427387904) :
  Calls Tryz.prog 213 #[.slice (some ⟨blk,off,none⟩) d.size cap,.func (.func g) #[] cb] w fun e w' =>
   e=.returned (.tuple #[])∧∃d' n os,PermIn 0 d.size d d'∧SortedIn (ltOf cf) 0 d.size d'∧w'=sortWorld enc w blk off n d' os:=Any.slices_SortFunc zG enc h1 cf hO g cb blk off cap d w eg hcmp hH hblk hsz
def qN:Go.Shelf.Ren:=⟨fun|6=>213|15=>217|14=>220|28=>232|29=>233|20=>235|21=>236|22=>237|23=>238|24=>239|25=>240|26=>241|27=>242|46=>258|47=>253|48=>254|49=>259|50=>260|57=>265|n=>n,fun|22=>28|24=>3|25=>275|3=>3|39=>210|0=>0|53=>284|55=>303|4=>4|46=>297|45=>296|50=>206|5=>5|9=>9|66=>314|70=>318|76=>324|77=>325|n=>n,fun|n=>n⟩
theorem wS:Go.Proofs.SlLaysF0.n6 Tryz.prog qN:={
 mixed:=by kernel_rfl
 f6:=⟨Tryz.f213.name,by decide,Tryz.func213.trans (congrArg some (by kernel_rfl))⟩
 f14:=⟨Tryz.f220.name,by decide,Tryz.func220.trans (congrArg some (by kernel_rfl))⟩
 f15:=Tryz.func217.trans (congrArg some (by kernel_rfl))
 f20:=⟨Tryz.f235.name,by decide,Tryz.func235.trans (congrArg some (by kernel_rfl))⟩
 f21:=⟨Tryz.f236.name,by decide,Tryz.func236.trans (congrArg some (by kernel_rfl))⟩
 f22:=⟨Tryz.f237.name,by decide,Tryz.func237.trans (congrArg some (by kernel_rfl))⟩
 f23:=⟨Tryz.f238.name,by decide,Tryz.func238.trans (congrArg some (by kernel_rfl))⟩
 f24:=⟨Tryz.f239.name,by decide,Tryz.func239.trans (congrArg some (by kernel_rfl))⟩
 f25:=⟨Tryz.f240.name,by decide,Tryz.func240.trans (congrArg some (by kernel_rfl))⟩
 f26:=⟨Tryz.f241.name,by decide,Tryz.func241.trans (congrArg some (by kernel_rfl))⟩
 f27:=⟨Tryz.f242.name,by decide,Tryz.func242.trans (congrArg some (by kernel_rfl))⟩
 f28:=Tryz.func232.trans (congrArg some (by kernel_rfl))
 f29:=Tryz.func233.trans (congrArg some (by kernel_rfl))
 f46:=⟨Tryz.f258.name,by decide,Tryz.func258.trans (congrArg some (by kernel_rfl))⟩
 f47:=Tryz.func253.trans (congrArg some (by kernel_rfl))
 f48:=Tryz.func254.trans (congrArg some (by kernel_rfl))
 f49:=⟨Tryz.f259.name,by decide,Tryz.func259.trans (congrArg some (by kernel_rfl))⟩
 f50:=⟨Tryz.f260.name,by decide,Tryz.func260.trans (congrArg some (by kernel_rfl))⟩
 f57:=⟨Tryz.f265.name,by decide,Tryz.func265.trans (congrArg some (by kernel_rfl))⟩
 t0:=Tryz.underlying0
 a0:=Tryz.isAgg0
 z0:=Tryz.sizeOf0
 v0:=Tryz.zeroValue0
 t3:=Tryz.underlying3
 a3:=Tryz.isAgg3
 z3:=Tryz.sizeOf3
 v3:=Tryz.zeroValue3
 t4:=Tryz.underlying4
 a4:=Tryz.isAgg4
 z4:=Tryz.sizeOf4
 v4:=Tryz.zeroValue4
 t5:=Tryz.underlying5
 a5:=Tryz.isAgg5
 z5:=Tryz.sizeOf5
 v5:=Tryz.zeroValue5
 t9:=Tryz.underlying9
 a9:=Tryz.isAgg9
 z9:=Tryz.sizeOf9
 v9:=Tryz.zeroValue9
 t22:=Tryz.underlying28
 a22:=Tryz.isAgg28
 z22:=Tryz.sizeOf28
 v22:=Tryz.zeroValue28
 t25:=Tryz.underlying275
 a25:=Tryz.isAgg275
 z25:=Tryz.sizeOf275
 v25:=Tryz.zeroValue275
 t39:=Tryz.underlying210
 a39:=Tryz.isAgg210
 z39:=Tryz.sizeOf210
 v39:=Tryz.zeroValue210
 t45:=Tryz.underlying296
 a45:=Tryz.isAgg296
 z45:=Tryz.sizeOf296
 v45:=Tryz.zeroValue296
 t46:=Tryz.underlying297
 a46:=Tryz.isAgg297
 z46:=Tryz.sizeOf297
 v46:=Tryz.zeroValue297
 t50:=Tryz.underlying206
 a50:=Tryz.isAgg206
 z50:=Tryz.sizeOf206
 v50:=Tryz.zeroValue206
 t53:=Tryz.underlying284
 a53:=Tryz.isAgg284
 z53:=Tryz.sizeOf284
 v53:=Tryz.zeroValue284
 t55:=Tryz.underlying303
 a55:=Tryz.isAgg303
 z55:=Tryz.sizeOf303
 v55:=Tryz.zeroValue303
 t66:=Tryz.underlying314
 a66:=Tryz.isAgg314
 z66:=Tryz.sizeOf314
 v66:=Tryz.zeroValue314
 t70:=Tryz.underlying318
 a70:=Tryz.isAgg318
 z70:=Tryz.sizeOf318
 v70:=Tryz.zeroValue318
 t76:=Tryz.underlying324
 a76:=Tryz.isAgg324
 z76:=Tryz.sizeOf324
 v76:=Tryz.zeroValue324
 t77:=Tryz.underlying325
 a77:=Tryz.isAgg325
 z77:=Tryz.sizeOf325
 v77:=Tryz.zeroValue325}
open Go.RowKit Go.Lib Go.Sort in
theorem kG {α:Type} [Inhabited α] (p:OAd)(cap:Nat)(fv:Value)(w:World) :
  Calls Tryz.prog 213 #[.slice p 0 cap,fv] w fun e w'=>e=.returned (.tuple #[])∧w'=w:=AnyF.slices_SortFunc_none wS p cap fv w
open Go.RowKit Go.Lib Go.Sort in
theorem kH {α:Type} [Inhabited α] (p:OAd)(cap:Nat)(fv:Value)(w:World) :
  Calls Tryz.prog 214 #[.slice p 0 cap,fv] w fun e w'=>e=.returned (.tuple #[])∧w'=w:=AnyF.slices_SortFunc_none oJ p cap fv w
end Go.Proofs.YtfmnagcglhlicaaGreat
namespace Go.Proofs.YtfmnagcglhlicaaGreat
open Go.RowKit
def Kt (x y:Int):Int:=if x<y then -1 else if y<x then 1 else 0
theorem Oy (x y:Int)(xs ys:LIn):lC (x::xs) (y::ys)=if Kt x y=0 then lC xs ys else Kt x y:=by
 rw[lC,Kt];by_cases h1:x<y
 ·rw[if_pos h1,if_pos h1,if_neg (by omega)]
 ·rw[if_neg h1,if_neg h1];by_cases h2:y<x
  ·rw[if_pos h2,if_pos h2,if_neg (by omega)]
  ·rw[if_neg h2,if_neg h2,if_pos rfl]
theorem zH {xs:LIn}{k:Nat}{x:Int}(h:xs[k]?=some x):xs.drop k=x::xs.drop (k+1):=by
 obtain⟨hk,rfl⟩:=List.getElem?_eq_some_iff.1 h;exact List.drop_eq_getElem_cons hk
theorem gK (w:World)(x:Int):Calls Tryz.prog 251 #[.int .i64 x] w fun e w'=>e=.returned (.bool false)∧w=w':=by
 go_enter Tryz.func251,Tryz.ntmps251
 go_wp2
 go_ret
 exact⟨aY (by first|rfl|simp),rfl⟩
theorem sO (w:World)(x y:Int):Calls Tryz.prog 222 #[.int .i64 x,.int .i64 y] w fun e w'=>e=.returned (.int .i64 (Kt x y))∧w=w':=by
 by_cases h1:x<y
 ·have F:=aA (show Kt x y=-1 by rw[Kt,if_pos h1]);go_enter Tryz.func222,Tryz.ntmps222
  go_wp2_with (first|(refine(gK _ x).mono ?_;rintro e w' ⟨rfl,rfl⟩)|(refine(gK _ y).mono ?_;rintro e w' ⟨rfl,rfl⟩))
  go_ret
  exact⟨aT F.o.symm,rfl⟩
 ·by_cases h2:y<x
  ·have F:=aA (show Kt x y=1 by rw[Kt,if_neg h1,if_pos h2]);go_enter Tryz.func222,Tryz.ntmps222
   go_wp2_with (first|(refine(gK _ x).mono ?_;rintro e w' ⟨rfl,rfl⟩)|(refine(gK _ y).mono ?_;rintro e w' ⟨rfl,rfl⟩))
   go_ret
   exact⟨aT F.o.symm,rfl⟩
  ·have F:=aA (show Kt x y=0 by rw[Kt,if_neg h1,if_neg h2]);go_enter Tryz.func222,Tryz.ntmps222
   go_wp2_with (first|(refine(gK _ x).mono ?_;rintro e w' ⟨rfl,rfl⟩)|(refine(gK _ y).mono ?_;rintro e w' ⟨rfl,rfl⟩))
   go_ret
   exact⟨aT F.o.symm,rfl⟩
theorem zI {w:World}{A B:OAd}{n c m d:Nat}{xs ys:LIn}(h:aJ w A n c xs)(g:aJ w B m d ys) :
  Calls Tryz.prog 215 #[.slice A n c,.slice B m d] w fun e w'=>e=.returned (.int .i64 (lC xs ys))∧w=w':=by
 have hn:=h.small;have hm:=g.small;have HL:=aA h.len;have GL:=aA g.len;have H:=aA h;have G:=aA g;clear h g;go_enter Tryz.func215,Tryz.ntmps215
 go_wp2
 go_loop [11] (fun i=>∃k:Nat,k≤n∧k≤m∧i=.int .i64 k∧Hid (lC xs ys=lC (xs.drop k) (ys.drop k))) (fun i=>n-(intOf i).toNat)
 case atStart=>exact⟨0,Nat.zero_le _,Nat.zero_le _,rfl,rfl⟩
 case round =>
  obtain⟨k,hk,hkm,rfl,hlow⟩:=hrel;by_cases hlt:k<n
  ·have hki:(k:Int)<(n:Int):=by omega
   obtain⟨b,off,x,rfl,hb,hx,hc⟩:=H.o.get hlt;by_cases hltm:k<m
   ·have hkj:(k:Int)<(m:Int):=by omega
    obtain⟨b',off',y,rfl,hb',hy,hc'⟩:=G.o.get hltm;have ST:=aA (show lC xs ys=if Kt x y=0 then lC (xs.drop (k+1)) (ys.drop (k+1))else Kt x y by rw[hlow.o,zH hx.o,zH hy.o,Oy]);obtain⟨z,hz⟩:∃z,Kt x y=z:=⟨_,rfl⟩;have HZ:=aA hz;clear hlow hx hy hz;by_cases hz0:z=0
    ·subst hz0;have N1:=aA (show lC xs ys=lC (xs.drop (k+1)) (ys.drop (k+1)) by rw[ST.o,if_pos HZ.o]);go_wp2_with (refine(sO _ x y).mono ?_;rintro e w' ⟨rfl,rfl⟩;rw[HZ.o])
     go_round
     case rel=>exact⟨k+1,by omega,by omega,by go_num,N1⟩
     case measure=>simp[intOf];omega
    ·have FN:=aA (show lC xs ys=z by rw[ST.o,HZ.o,if_neg hz0]);have hzb:(z==0)=false:=by simpa using hz0
     go_wp2_with (refine(sO _ x y).mono ?_;rintro e w' ⟨rfl,rfl⟩;rw[HZ.o])
     go_ret
     exact⟨aT FN.o.symm,rfl⟩
   ·obtain rfl:k=m:=by omega
    have FN:=aA (show lC xs ys=1 by rw[hlow.o,zH hx.o,show ys.drop k=[]from List.drop_eq_nil_of_le (by rw[GL.o];exact Nat.le_refl _)];rfl);clear hlow hx;go_wp2
    go_ret
    exact⟨aT FN.o.symm,rfl⟩
  ·obtain rfl:k=n:=by omega
   by_cases hnm:k<m
   ·have hki:(k:Int)<(m:Int):=by omega
    obtain⟨b',off',y,rfl,hb',hy,hc'⟩:=G.o.get hnm;have FN:=aA (show lC xs ys=-1 by rw[hlow.o,show xs.drop k=[]from List.drop_eq_nil_of_le (by rw[HL.o];exact Nat.le_refl _),zH hy.o];rfl);clear hlow hy;go_wp2
    go_ret
    exact⟨aT FN.o.symm,rfl⟩
   ·obtain rfl:k=m:=by omega
    have FN:=aA (show lC xs ys=0 by rw[hlow.o,show xs.drop k=[]from List.drop_eq_nil_of_le (by rw[HL.o];exact Nat.le_refl _),show ys.drop k=[]from List.drop_eq_nil_of_le (by rw[GL.o];exact Nat.le_refl _)];rfl);clear hlow;go_wp2
    go_ret
    exact⟨aT FN.o.symm,rfl⟩
theorem Ds:∀x:LIn,lC x x=0
 | []=>rfl
 | a::x=>by rw[lC,if_neg (by omega),if_neg (by omega)];exact Ds x
theorem yB:∀x y z:LIn,lC x y<0→lC y z<0→lC x z<0
 | [],[],_,h,_=>by rw[lC]at h;omega
 | [],_::_,[],_,h=>by rw[lC]at h;omega
 | [],_::_,_::_,_,_=>by rw[lC];omega
 | _::_,[],_,h,_=>by rw[lC]at h;omega
 | _::_,_::_,[],_,h=>by rw[lC]at h;omega
 | a::x,b::y,c::z,h,g=>by
  rw[lC]at h g ⊢;have ih:=yB x y z;split at h
  ·split at g
   ·rw[if_pos (by omega)];omega
   ·split at g
    ·omega
    ·rw[if_pos (by omega)];omega
  ·split at h
   ·omega
   ·split at g
    ·rw[if_pos (by omega)];omega
    ·split at g
     ·omega
     ·rw[if_neg (by omega),if_neg (by omega)];exact ih h g
theorem vE:∀x y z:LIn,¬lC x y<0→¬lC y z<0→¬lC x z<0
 | [],[],[],_,_=>by rw[lC];omega
 | [],[],_::_,_,h=>by rw[lC]at h;omega
 | [],_::_,_,h,_=>by rw[lC]at h;omega
 | _::_,[],[],_,_=>by rw[lC];omega
 | _::_,[],_::_,_,h=>by rw[lC]at h;omega
 | _::_,_::_,[],_,_=>by rw[lC];omega
 | a::x,b::y,c::z,h,g=>by
  rw[lC]at h g ⊢;have ih:=vE x y z;split at h
  ·omega
  ·split at h
   ·split at g
    ·omega
    ·split at g
     ·rw[if_neg (by omega),if_pos (by omega)];omega
     ·rw[if_neg (by omega),if_pos (by omega)];omega
   ·split at g
    ·omega
    ·split at g
     ·rw[if_neg (by omega),if_pos (by omega)];omega
     ·rw[if_neg (by omega),if_neg (by omega)];exact ih h g
section
open Go.Sort
variable {α:Type} [Inhabited α] {enc:α→Value} {w:World}
theorem yC (g n:Nat)(d:Array α)(os:Array Obj):w.grownBy (sortWorld enc w g 0 n d os) (some g):=by
 refine⟨rfl,rfl,rfl,by simp[sortWorld],fun k hk hne=>?_⟩;unfold sortWorld;rw[heap_grow_old _ _ (by simpa using hk)];have:g≠k:=fun e=>hne (by rw[e])
 simp[putRow,mapBlock,Sort.ahead,Array.getElem?_modify,this]
theorem Oz {g n:Nat}{os:Array Obj}{cur:Array Value}{e:TypeId}{fr:Nat×Nat}(d:Array α)(hb:w.heap[g]?=some (.cells cur e fr)) :
  (sortWorld enc w g 0 n d os).heap[g]?=some (.cells (putCells enc 0 d cur) e fr):=by
 have hg:g<w.heap.size:=(Array.getElem?_eq_some_iff.1 hb).1;unfold sortWorld;rw[heap_grow_old _ _ (by simpa using hg)];simp[putRow,mapBlock,Sort.ahead,Array.getElem?_modify,hb,onCells]
theorem OG (cur:Array Value)(ts:List α)(h:ts.length≤cur.size):(putCells enc 0 ts.toArray cur).toList.take ts.length=ts.map enc:=by
 apply List.ext_getElem?
 intro j;by_cases hj:j<ts.length
 ·rw[List.getElem?_take_of_lt hj,Array.getElem?_toList];simp[putCells,hj,show j<cur.size by omega]
 ·rw[List.getElem?_take_eq_none (by omega),List.getElem?_eq_none (by simp;omega)]
theorem Ku {base g cap n m:Nat} {e:TypeId} {os:Array Obj} {cur:Array Value} {ts:List α} (hl:ts.length=m) (hbase:base≤g) (hb:w.heap[g]?=some (.cells cur e (0,0)))
  (h1:m≤cap) (h2:cap≤maxLen) (h3:cur.size=cap*1) :
  (sortWorld enc w g 0 n ts.toArray os).ownsRow base e 1 (.slice (some ⟨g,0,none⟩) m cap) m (ts.map enc):=by
 subst hl;exact⟨by simp,.inr ⟨g,cap,_,rfl,hbase,Oz _ hb,h1,h2,by simp[putCells,h3],by rw[Nat.mul_one];exact OG cur ts (by omega)⟩⟩
theorem Iw {g:Nat}{cur:Array Value}{e:TypeId}{ss:List α}(hb:w.heap[g]?=some (.cells cur e (0,0)))(ht:cur.toList.take ss.length=ss.map enc):Holds enc w g 0 ss.toArray:=by
 intro j hj;have hj':j<ss.length:=by simpa using hj
 refine⟨?_,by simp[World.frozen?,hb]⟩;have h1:(cur.toList.take ss.length)[j]?=(ss.map enc)[j]?:=by rw[ht]
 rw[List.getElem?_take_of_lt hj']at h1;simp only[World.cell?,hb,Nat.zero_add];simp only[Option.isSome_none,Bool.false_eq_true,if_false];rw[←Array.getElem?_toList,h1];simp[hj']
end
theorem Xc {α:Type}{P:Nat→α→Prop}:∀(n:Nat),(∀i,i<n→∃x,P i x)→∃l:List α,l.length=n∧∀(i:Nat) (x:α),l[i]?=some x→P i x
 | 0,_=>⟨[],rfl,fun i x h=>by simp at h⟩
 | n+1,h=>by
  obtain⟨l,hl,hp⟩:=Xc n (fun i hi=>h i (by omega));obtain⟨x,hx⟩:=h n (by omega);refine⟨l++[x],by simp[hl],fun i y hy=>?_⟩;by_cases hi:i<n
  ·rw[List.getElem?_append_left (by omega)]at hy;exact hp i y hy
  ·have hi2:=(List.getElem?_eq_some_iff.1 hy).1;rw[List.length_append,hl]at hi2;simp only[List.length_cons,List.length_nil]at hi2;obtain rfl:i=n:=by omega
   rw[List.getElem?_append_right (by omega),hl]at hy;simp only[Nat.sub_self,List.getElem?_cons_zero,Option.some.injEq]at hy;rw[←hy];exact hx
abbrev Xx (w:World)(B:Nat):={x:(OAd×Nat×Nat)×LIn // aD w B (.slice x.1.1 x.1.2.1 x.1.2.2) x.1.2.1 x.2∧x.1.2.1≤17592186043904}
instance {w:World} {B:Nat}:Inhabited (Xx w B):=⟨⟨((none,0,0),[]),aC.nil,Nat.zero_le _⟩⟩
end Go.Proofs.YtfmnagcglhlicaaGreat
namespace Go.Proofs.YtfmnagcglhlicaaGreat
open Go.RowKit Go.Maps
abbrev Wc:={x:Int // okI x}
instance:Inhabited Wc:=⟨⟨1,by decide,by decide⟩⟩
def WH (x:Wc):Value:=.int .i64 x.1
def UZ (x y:Wc):Int:=x.1-y.1
theorem Xy:Sort.SWO (ltOf UZ) where
 irrefl:=fun x=>decide_eq_false (by unfold UZ;omega)
 trans:=fun x y z h g=>decide_eq_true (by have:=of_decide_eq_true h;have:=of_decide_eq_true g;unfold UZ at *;omega)
 ntrans:=fun x y z h g=>decide_eq_false (by have:=of_decide_eq_false h;have:=of_decide_eq_false g;unfold UZ at *;omega)
theorem Dt (w:World)(x y:Int)(hx:okI x)(hy:okI y):Calls Tryz.prog 201 #[.int .i64 x,.int .i64 y] w fun e w'=>e=.returned (.int .i64 (x-y))∧w=w':=by
 have hw:IntKind.i64.wrap (x-y)=x-y:=by unfold okI at *;simp[IntKind.wrap,IntKind.bits,IntKind.signed];omega
 go_enter Tryz.func201,Tryz.ntmps201
 go_wp2
 go_ret
 exact⟨aT (by first|rfl|exact hw),rfl⟩
theorem zJ {w:World}{B n:Nat}{v:Value}{xs:LIn}(h:aD w B v n xs)(hok:∀x∈xs,okI x)(hn:n≤17592186044416) :
  Calls Tryz.prog 213 #[v,.func (.func 201) #[] #[]] w fun e w'=>e=.returned (.tuple #[])∧∃ys,ys.Perm xs∧ys.Pairwise (fun a b=>¬b<a)∧aD w' B v n ys∧w.grownBy w' v.ownBlock:=by
 have hl:=h.len;have o1:=h.row;rcases o1.2 with⟨rfl,h0⟩|⟨g,cap,cur,rfl,hg,hb,h1,h2,h3,h4⟩
 ·obtain rfl:n=0:=by simpa using h0
  have hx:xs=[]:=List.eq_nil_of_length_eq_zero hl;subst hx;refine(kG (α:=Nat) none 0 _ w).mono ?_;rintro e w' ⟨rfl,rfl⟩;exact⟨rfl,[],.refl _,.nil,h,World.grownBy.refl _ _⟩
 ·obtain⟨ds,dl,dp⟩:=Xc (α:=Wc) (P:=fun i x=>xs[i]?=some x.1) n (fun i hi=>by
   have hx:xs[i]?=some (xs[i]'(by omega)):=List.getElem?_eq_getElem _;exact⟨⟨_,hok _ (List.getElem_mem (by omega))⟩,hx⟩)
  have exs:xs=ds.map (·.1):=by
   apply List.ext_getElem?
   intro i;rw[List.getElem?_map];cases hd:ds[i]? with
   | none =>
    have:ds.length≤i:=by simpa using hd
    rw[List.getElem?_eq_none (by omega)];rfl
   | some x=>rw[dp i x hd];rfl
  subst dl;have ecells:xs.map (Value.int .i64)=ds.map WH:=by rw[exs,List.map_map];rfl
  have hcmp:CmpLays1 Tryz.prog 201 #[] WH UZ g 0 ds.toArray.size w:=by
   intro m os dk hdk x y;refine(Dt _ x.1 y.1 x.2 y.2).mono ?_;rintro e w' ⟨rfl,rfl⟩;exact⟨rfl,0,#[],by simp[World.drewN]⟩
  refine(nW (α:=Wc) WH (fun x=>rfl) UZ Xy 201 #[] g 0 cap ds.toArray w (fun args w=>by kernel_rfl) hcmp (Iw hb (by rw[←ecells];simpa using h4)) (Array.getElem?_eq_some_iff.1 hb).1 (by simp;omega)).mono ?_;rintro e w' ⟨rfl,d',q,os,hp,hs,rfl⟩;obtain⟨hsz,_,hperm⟩:=hp;have hsz':d'.size=ds.length:=by simpa using hsz
  have hp2:d'.toList.Perm ds:=by
   have e1:(d'.extract 0 ds.toArray.size).toList=d'.toList:=by simp[←hsz']
   have e2:(ds.toArray.extract 0 ds.toArray.size).toList=ds:=by simp
   rw[e1,e2]at hperm;exact hperm
  refine⟨rfl,d'.toList.map (·.1), ?_, ?_, ?_,yC _ _ _ _⟩
  ·rw[exs];exact hp2.map _
  ·rw[List.pairwise_map,List.pairwise_iff_getElem];intro i j hi hj hij;have:=hs i j (Nat.zero_le _) hij (by simp at hj;simp;omega);have hi':i<d'.size:=by simpa using hi
   have hj':j<d'.size:=by simpa using hj
   rw[getElem!_pos d' i hi',getElem!_pos d' j hj']at this;unfold ltOf UZ at this;have:=of_decide_eq_false this;simp only[Array.getElem_toList];omega
  ·have row:=Ku (enc:=WH) (w:=w) (n:=q) (os:=os) (ts:=d'.toList) (m:=ds.length) (base:=B) (by simp[hsz']) hg hb h1 h2 h3;rw[show d'.toList.toArray=d' from by simp]at row;refine aD.of_row ?_;rw[List.map_map];exact row
theorem lP {w:World}{b:Nat}{S:LIn}(h:RA w b S)(hl:S.length≤10000) :
  Calls Tryz.prog 200 #[.map (some b),.func (.func 201) #[] #[]] w fun e w'=>∃v n xs,e=.returned v∧aD w' w.heap.size v n xs∧n≤10000∧(xs.Pairwise (·< ·)∧∀x,x∈xs↔x∈S)∧Below w.heap.size w w':=by
 obtain⟨h0,D,m,h1,hm,hs,h2⟩:=h;have hbl:=h1.lt;have H0:=aA h0;have H2:=aA h2;have SZ:=aA hs;clear h0 h2 hs;go_enter Tryz.func200,Tryz.ntmps200
 go_wp2_with (at_range;refine wpList_range_own _ rfl _ 270 rfl 3 _ Rz.law Tryz.underlying270 unitElem b m D rfl h1 ?_;intro w0 hrg0 hg0 hs0)
 go_frame
 go_loopw [5] (fun u5 wr=>∃(left:Lit→Bool) (cnt n:Nat) (ss:LIn),wr.ranges Tryz.prog 3 unitElem b w.heap.size m D left cnt∧Hid (ss.length+cnt≤Maps.size D)∧Hid (Ot 3 kkI D left S ss)∧Hid (aD wr w.heap.size u5 n ss)∧Hid (Below w.heap.size w wr)) (fun _ wr=>wr.rangeLeft b w.heap.size)
 case atStart=>exact⟨_,_,0,[],hrg0,by show 0+_≤_;omega,Ot.start D S,aC.nil,(Below.refl _ _).grown hg0 (Nat.le_refl _) (fun j hj=>by cases hj)⟩
 case round =>
  obtain⟨left,cnt,n,ss,hrg,hcs,hC,hO,hB⟩:=hrel;go_wp2_with (at_next;refine wpList_next_ranges _ rfl _ rfl 3 Rz.law unitElem (fun v=>v) (fun v=>v) (fun key kl hk=>⟨key,rfl⟩) (fun v y hv=>⟨v,rfl⟩) b w.heap.size m D left cnt rfl hrg ?_ ?_)
  ·intro hc0 hl0;obtain⟨nd,mem⟩:=hC.o.fin Rz H0.o H2.o hl0;have ND:=aA nd;have ME:=aA mem;have hn:n≤10000:=by have:=hcs.o;have:=SZ.o;rw[←hO.o.len];omega
   clear nd mem hl0;go_wp2_with fail
   refine(zJ hO.o (fun x hx=>H0.o x ((ME.o x).1 hx)) (by omega)).mono ?_;rintro e w' ⟨rfl,ys,hp,hso,own,hg⟩;have OY:=aA own;have BY:=aA (hB.o.grown hg hB.o.size (fun k e=>(hO.o.lt k e).1));have FY:=aA (show ys.Pairwise (·< ·)∧∀x,x∈ys↔x∈S from⟨(List.Pairwise.and hso (hp.nodup_iff.2 ND.o)).imp (fun{a b} ⟨e1,e2⟩=>by omega),fun x=>(hp.mem_iff).trans (ME.o x)⟩);clear own hg hp hso;go_wp2
   go_ret
   exact⟨_,n,ys,rfl,OY.o,hn,FY.o,BY.o⟩
  ·intro x c kl yd yp w2 cnt2 hkey hlk hv hat hrg2 hlt hg2 hs2 hen;obtain⟨z,hz,ekl⟩:=(H2.o x kl hkey).1 (has_true_of_atKey hat);subst ekl;have hok:=H0.o z hz;obtain rfl:x=.int .i64 z:=Rz.law.inj hkey (Rz.key z hok);obtain⟨rfl,_⟩:=unitElem_inv hv;have hCn:=aA (hC.o.step Rz hz hok hlk);have hO2:=aA (aC.kept hO.o hg2 (by
    have:=row_ne_iter (Exists.choose_spec hO.o).1 hrg;exact .inr (fun e=>this e.symm)) (fun _ _ h=>h))
   have hB2:=aA (hB.o.grown hg2 hB.o.size (fun k e=>by cases e;exact Nat.le_refl _));have RG:=aA hrg2;have LTC:=aA hlt;have HLE:=aA hrg.left_eq;have hn:n≤10000:=by have:=hcs.o;have:=SZ.o;rw[←hO.o.len];omega
   clear hs2 hkey hlk hv hat hrg2 hg2 hrg hlt hz;go_wp2_with (at_builtin;refine dE rfl _ _ rfl rfl rfl rfl hO2.o hB2.o hB2.o.size (by omega) ?_;intro v8 w8 own8 hg8 hb8;have O8:=aA own8;have E8:=aA hb8;have R8:=aA (RG.o.kept hg8 (row_ne_low (Exists.choose_spec hO2.o).1 hbl) (row_ne_iter (Exists.choose_spec hO2.o).1 RG.o));clear own8 hg8 hb8)
   go_roundw
   case rel=>exact⟨_,cnt2,n+1,ss++[z],R8.o,by have h1:=hcs.o;have h2:=LTC.o;show(ss++[z]).length+cnt2≤_;simp;omega,hCn,O8,E8⟩
   case measure=>rw[R8.o.left_eq,HLE.o];exact LTC.o
end Go.Proofs.YtfmnagcglhlicaaGreat
