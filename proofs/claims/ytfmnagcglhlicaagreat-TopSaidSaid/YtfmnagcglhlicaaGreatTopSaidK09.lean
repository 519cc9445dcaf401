/- A mark as a text: the contract of reach.name. Conditions: the mark reads as a list of at most 16 numbers of tokens. | The map from marks' texts to numbers. Conditions: the marks are of at most 16 places. | The memory of the finder: its box, its map and its three rows. Conditions: none. | The contrac -/
import Derived.Test.YtfmnagcglhlicaaGreatTopSaidK08
import Derived.OwnWalk
import Derived.Maps.OwnSet
import Derived.Maps.OwnOps
import Derived.Maps.Views
import Derived.Maps.Keyed
import Derived.StringKeys
set_option maxRecDepth 100000
namespace Go.Proofs.YtfmnagcglhlicaaGreat
open Go.RowKit
def Zea (xs:List Int):List Nat:=xs.flatMap fun x=>[x.toNat % 256,x.toNat / 256 % 256,x.toNat / 65536 % 256]
theorem Znc (xs:List Int)(x:Int):Zea (xs++[x])=Zea xs++[x.toNat % 256,x.toNat / 256 % 256,x.toNat / 65536 % 256]:=by simp[Zea]
theorem Zef (xs:List Int):(Zea xs).length=3*xs.length:=by
 induction xs with
 | nil=>rfl
 | cons x l ih =>
  have:Zea (x::l)=[x.toNat % 256,x.toNat / 256 % 256,x.toNat / 65536 % 256]++Zea l:=rfl
  rw[this,List.length_append,ih]
  simp only[List.length_cons,List.length_nil]
  omega
theorem Zmr (xs:List Int):∀b∈Zea xs,b<256:=by
 intro b hb
 unfold Zea at hb
 obtain⟨x,_,hx⟩:=List.mem_flatMap.1 hb
 simp at hx
 omega
theorem Zj5:∀{xs ys:List Int} (_:Zal xs=true) (_:Zal ys=true) (_:Zea xs=Zea ys),xs=ys
 | [],[],_,_,_=>rfl
 | [],y::l,_,_,h=>by have:=congrArg List.length h;rw[Zef,Zef]at this;simp at this
 | x::l,[],_,_,h=>by have:=congrArg List.length h;rw[Zef,Zef]at this;simp at this
 | x::l,y::r,hx,hy,h=>by
  have e1:Zea (x::l)=x.toNat % 256::(x.toNat / 256 % 256)::(x.toNat / 65536 % 256)::Zea l:=rfl
  have e2:Zea (y::r)=y.toNat % 256::(y.toNat / 256 % 256)::(y.toNat / 65536 % 256)::Zea r:=rfl
  rw[e1,e2]at h
  injection h with h1 h
  injection h with h2 h
  injection h with h3 h
  rw[Za0]at hx hy
  have hx0:=hx x (by simp)
  have hy0:=hy y (by simp)
  rw[Zj5 ((Za0 l).2 fun z hz=>hx z (by simp[hz])) ((Za0 r).2 fun z hz=>hy z (by simp[hz])) h,show x=y from by omega]
theorem ZqB {a b:List Nat}(ha:∀x∈a,x<256)(hb:∀x∈b,x<256)(h:ZrP a=ZrP b):a=b:=by
 have h1:(ZrP a).data.toList=(ZrP b).data.toList:=by rw[h]
 unfold ZrP at h1
 rw[strOfNums_data,strOfNums_data,List.map_map,List.map_map]at h1
 have h2:=congrArg (List.map UInt8.toNat) h1
 rw[List.map_map,List.map_map]at h2
 have key:∀l:List Nat,(∀x∈l,x<256)→l.map (UInt8.toNat ∘ ((fun n:Int=>UInt8.ofNat n.toNat) ∘ fun b:Nat=>(b:Int)))=l:=fun l hl=>by
  rw[List.map_congr_left (g:=id) (fun x hx=>by
   simp only[Function.comp,Int.toNat_natCast,UInt8.toNat_ofNat',id]
   have:=hl x hx
   omega)]
  simp
 rwa[key a ha,key b hb]at h2
def Zi6 (xs:List Int):ByteArray:=ZrP (Zea xs)
theorem ZoE {xs ys:List Int}(hx:Zal xs=true)(hy:Zal ys=true)(h:Zi6 xs=Zi6 ys):xs=ys:=Zj5 hx hy (ZqB (Zmr _) (Zmr _) h)
theorem Zms:(Tryz.prog.info? 5).map (fun i=>(i.zero,i.size,i.bytes))=some (some (.int .u8 0),1,1):=by kernel_rfl
set_option maxHeartbeats 1000000 in
theorem Zix {w:World}{A:Option Addr}{n c:Nat}{xs:List Int}(h:Zam w A n c xs)(hn:n≤16)(hr:Zal xs=true) :
  Calls Tryz.prog 162 #[.slice A n c] w fun e w'=>e=.returned (.string (Zi6 xs))∧Below w.heap.size w w':=by
 have H:=Zaa h
 have HR:=Zaa ((Za0 xs).1 hr)
 clear h hr
 obtain⟨i0,hi,hz0,hz1,hz2⟩:=info_parts Zms
 have hsz:i0.bytes*(3*n)≤281474976710656:=by rw[hz2];omega
 have hmx:3*n≤maxLen:=by simp only[maxLen];omega
 have hc3:(3:Int)*(n:Int)=((3*n:Nat):Int):=by omega
 have HC:=Zaa hc3
 clear hc3
 go_enter Tryz.func162,Tryz.ntmps162
 go_upto_region 2 with(at_make;refine wpList_make_own _ rfl _ _ 107 rfl w.heap.size 5 i0 (.int .u8 0) 1 Tryz.underlying107 hi hz0 hz1 .i64 .i64 _ (3*n) rfl rfl (by first|exact HC.out|(simp;done)|omega) hsz hmx (Nat.le_refl _) ?_;intro w1 own1 hg1;have O1:=Zaa (show ZgX w1 w.heap.size (.slice (some ⟨w.heap.size,0,none⟩) 0 (3*n)) 0 []from⟨[],own1,Zax.nil,rfl⟩);have B1:=Zaa ((Below.refl w.heap.size w).grown hg1 (Nat.le_refl _) (fun k hk=>by cases hk));clear own1 hg1)
 clear hi hz0 hz1 hz2 hsz hmx
 go_wp2
 go_loopw [3,12] (fun u v wr=>∃k:Nat,k≤n∧v=.int .i64 k∧Hid (ZgX wr w.heap.size u (3*k) (Zea (xs.take k)))∧Hid (Below w.heap.size w wr)) (fun _ v _=>n-(intOf v).toNat)
 case atStart=>exact⟨0,Nat.zero_le _,rfl,O1,B1⟩
 case round =>
  obtain⟨k,hk,rfl,OW,BR⟩:=hrel
  by_cases hlt:k<n
  ·have hki:(k:Int)<(n:Int):=by omega
   obtain⟨b,off,x,rfl,hb,hx,hc⟩:=Zam.get (Zam.keep H.out BR.out) hlt
   have hxr:=HR.out x (List.mem_of_getElem? hx.out)
   have NX:=Zaa (show Zea (xs.take (k+1))=Zea (xs.take k)++[x.toNat % 256,x.toNat / 256 % 256,x.toNat / 65536 % 256] by rw[ZaK hx.out,Znc])
   obtain⟨y,rfl⟩:∃y:Nat,x=(y:Int):=⟨x.toNat,by omega⟩
   have hy:y≤1000000:=by omega
   simp only[Int.toNat_natCast]at NX
   have LS:=Zaa (show ∀b∈[y % 256,y / 256 % 256,y / 65536 % 256],b<256 from fun b hb=>by simp at hb;omega)
   clear hxr
   go_wp2_with (at_builtin;refine Zhf rfl _ _ rfl (m:=3) (ys:=[y % 256,y / 256 % 256,y / 65536 % 256]) rfl rfl (by first|rfl|simp) (by first|rfl|(simp;done)|(simp;omega)) rfl LS.out OW.out BR.out BR.out.size (by omega) ?_;intro v2 w2 own2 hg2 hb2;have OX:=Zaa own2;have BZ:=Zaa hb2;clear own2 hg2 hb2)
   go_roundw
   case rel=>exact⟨k+1,by omega,by go_num,Zaa (by rw[NX.out];exact OX.out),BZ⟩
   case measure=>simp[intOf];omega
  ·obtain rfl:k=n:=by omega
   have TK:=Zaa (show xs.take k=xs from List.take_of_length_le (by rw[H.out.len];exact Nat.le_refl _))
   rw[TK.out]at OW
   obtain⟨A2,c2,hv,s2⟩:=OW.out.sl (by omega)
   subst hv
   have hcv:=Bts.str s2
   clear s2
   go_wp2
   go_ret
   exact⟨rfl,BR.out⟩
end Go.Proofs.YtfmnagcglhlicaaGreat
namespace Go.Proofs.YtfmnagcglhlicaaGreat
open Go.RowKit Go.Maps
theorem Znd {ms:List (List Int)}{x y:List Int}:Zcb (ms++[x]) y=match Zcb ms y with
  | some k=>some k
  | none=>if y=x then some ms.length else none:=by
 unfold Zcb
 rw[List.findIdx?_append]
 cases h:ms.findIdx? fun z=>y==z with
 | some k=>simp
 | none =>
  by_cases e:y=x
  ·subst e;simp
  ·simp[e]
def ZqC (x:List Int):Lit:=.string (Zi6 x).data.toList
theorem ZqD {x y:List Int}(hx:Zal x=true)(hy:Zal y=true)(h:ZqC x=ZqC y):x=y:=by
 unfold ZqC at h
 injection h with h
 exact ZoE hx hy (Go.WideShapes.bytes_inj h)
def AtM (w:World)(b:Nat)(ms:List (List Int)):Prop :=
 ∃D:DataW Unit,w.ownsMap Tryz.prog 9 (plainElem Tryz.prog 3) b ms.length D∧∀x,Zal x=true→x.length≤16→match Zcb ms x with
  | some k=>D.atKey (ZqC x) (.lit (.int .i64 0))=.lit (.int .i64 (k:Int))∧Maps.has D (ZqC x)=true
  | none=>Maps.has D (ZqC x)=false
theorem Zj6:Keyed Tryz.prog 9:=string_keyed Tryz.underlying9
theorem ZqE (w:World):(zeroValue 3).run Tryz.prog w=.ok (.int .i64 0) w:=by kernel_rfl
theorem AtM.made (w:World):AtM (w.alloc (.map #[] 0)) w.heap.size []:=⟨.map [],World.ownsMap_made _ _ _ _,fun _ _ _=>rfl⟩
theorem AtM.of_block {w w':World}{b:Nat}{ms:List (List Int)}(h:AtM w b ms)(hb:w'.heap[b]?=w.heap[b]?):AtM w' b ms:=by
 obtain⟨D,⟨es,clock,h1,h2,h3,h4⟩,h5⟩:=h
 exact⟨D,⟨es,clock,hb.trans h1,h2,h3,h4⟩,h5⟩
theorem AtM.lt {w:World}{b:Nat}{ms:List (List Int)}(h:AtM w b ms):b<w.heap.size:=by
 obtain⟨D,h1,_⟩:=h
 exact h1.lt
theorem AtM.keep {w w':World}{b:Nat}{ms:List (List Int)}(h:AtM w b ms)(hb:Below w.heap.size w w'):AtM w' b ms:=h.of_block (hb.block b h.lt)
theorem Zne (x:List Int):(Zi6 x).size=3*x.length:=by
 unfold Zi6 ZrP
 rw[strOfNums_size,List.length_map,Zef]
theorem Zmt {x:List Int}(hx:x.length≤16):keyOf Tryz.prog 9 (.string (Zi6 x))=some (ZqC x) :=
 Go.WideMaps.keyOf_string_mk Tryz.underlying9 (by rw[Zne];simp only[maxLen];omega)
theorem AtM.look {w:World}{b:Nat}{ms:List (List Int)}(h:AtM w b ms){x:List Int}(hx:Zal x=true)(hl:x.length≤16) :
  ∃v:Int,(Instr.lookup 151 (.map (some b)) (.string (Zi6 x)) true).run Tryz.prog w=.ok (.tuple #[.int .i64 v,.bool (Zcb ms x).isSome]) w∧∀k,Zcb ms x=some k→v=(k:Int):=by
 obtain⟨D,h1,h2⟩:=h
 obtain⟨u,ps,hrun,hv⟩:=h1.look_ok Zj6 Tryz.underlying151 (ZqE w) (plainElem_int Tryz.underlying3 (a:=0) (by decide)) (Zmt hl)
 obtain⟨c,rfl,hc,_⟩:=plainElem_int_inv Tryz.underlying3 hv
 have h3:=h2 x hx hl
 cases hf:Zcb ms x with
 | none =>
  rw[hf]at h3
  rw[h3]at hrun
  exact⟨c,hrun,fun k hk=>by cases hk⟩
 | some k =>
  rw[hf]at h3
  rw[h3.2]at hrun
  refine⟨c,hrun,fun k' hk'=>?_⟩
  injection hk' with hk'
  subst hk'
  have h4:=congrArg Prod.fst hc
  simp only at h4
  rw[h3.1]at h4
  injection h4 with h4
  injection h4 with _ h4
  exact h4.symm
theorem AtM.put {w:World}{b:Nat}{ms:List (List Int)}(h:AtM w b ms){x:List Int}(hx:Zal x=true)(hl:x.length≤16)(hn:Zcb ms x=none)(hm:ms.length≤1000) :
  ∃w',(Instr.mapUpdate 151 (.map (some b)) (.string (Zi6 x)) (.int .i64 (ms.length:Int))).run Tryz.prog w=.ok () w'∧AtM w' b (ms++[x])∧w.grownBy w' (some b):=by
 obtain⟨D,h1,h2⟩:=h
 obtain⟨w',r1,r2,r3⟩:=h1.update Zj6 Tryz.underlying151 (by rw[maxLen];omega) (Zmt hl) (plainElem_int Tryz.underlying3 (a:=(ms.length:Int)) (WalkArith.wf_i64 (by omega)))
 refine⟨w',r1,⟨_,by rw[List.length_append];exact r2,fun y hy hly=>?_⟩,r3⟩
 rw[Znd]
 have h3:=h2 y hy hly
 have hD:=(h1.tidy Zj6).isMap
 by_cases e:y=x
 ·subst e
  rw[hn]
  rw[if_pos rfl]
  exact⟨Maps.atKey_put_same hD (Zj6.key (Zmt hl)) _ _,Maps.has_put_same hD (Zj6.key (Zmt hl)) _⟩
 ·have hne:ZqC y≠ZqC x:=fun e2=>e (ZqD hy hx e2)
  cases hf:Zcb ms y with
  | some k =>
   rw[hf]at h3
   exact⟨by rw[Maps.atKey_put_other hne];exact h3.1,by rw[Maps.has_put_other hne];exact h3.2⟩
  | none =>
   rw[hf]at h3
   rw[if_neg e]
   show Maps.has _ _=false
   rw[Maps.has_put_other hne]
   exact h3
end Go.Proofs.YtfmnagcglhlicaaGreat
namespace Go.Proofs.YtfmnagcglhlicaaGreat
open Go.RowKit
theorem Zba {w:World}{B e s n b ty:Nat}{v:Value}{c:List Value}{cs:Array Value}(h:w.ownsRow B e s v n c)(hx:Box w b ty cs)(hne:e≠ty):v.ownBlock≠some b:=by
 intro e
 rcases h.2 with⟨rfl,_⟩|⟨g,cap,cur,rfl,_,hh,_⟩
 ·cases e
 ·simp only[Value.ownBlock,Option.some.injEq]at e
  subst e
  unfold Box at hx
  rw[hx]at hh
  injection hh with hh
  injection hh with _ hh
  exact hne hh.symm
theorem AtM.obj {w:World}{b:Nat}{ms:List (List Int)}(h:AtM w b ms):∃es c,w.heap[b]?=some (.map es c):=by
 obtain⟨D,⟨es,clock,h1,_⟩,_⟩:=h
 exact⟨es,clock,h1⟩
theorem Zdy {w:World}{B e s n b:Nat}{v:Value}{c:List Value}{ms:List (List Int)}(h:w.ownsRow B e s v n c)(hx:AtM w b ms):v.ownBlock≠some b:=by
 intro e
 obtain⟨es,cl,hm⟩:=hx.obj
 rcases h.2 with⟨rfl,_⟩|⟨g,cap,cur,rfl,_,hh,_⟩
 ·cases e
 ·simp only[Value.ownBlock,Option.some.injEq]at e
  subst e
  rw[hm]at hh
  injection hh with hh
  cases hh
theorem ZfA {w:World}{b b' ty:Nat}{cs:Array Value}{ms:List (List Int)}(hx:Box w b ty cs)(h:AtM w b' ms):b≠b':=by
 intro e
 subst e
 obtain⟨es,cl,hm⟩:=h.obj
 unfold Box at hx
 rw[hm]at hx
 injection hx with hx
 cases hx
def Zhi (bf:Nat)(u v z:Value)(A:Option Addr)(n:Nat):Prop:=∀b off,A=some ⟨b,off,none⟩→0<n→b≠bf∧u.ownBlock≠some b∧v.ownBlock≠some b∧z.ownBlock≠some b
theorem Zam.same {w w':World}{A:Option Addr}{n c:Nat}{xs:List Int}(h:Zam w A n c xs)(hs:w.heap.size≤w'.heap.size)(hb:∀b off,A=some ⟨b,off,none⟩→0<n→b<w.heap.size→w'.heap[b]?=w.heap[b]?):Zam w' A n c xs :=
 ⟨h.len,h.le,h.cap,h.small,h.nul,fun hn=>by
  obtain⟨b,off,e,hlt,hc⟩:=h.cells hn
  refine⟨b,off,e,Nat.lt_of_lt_of_le hlt hs,fun i x hx=>?_⟩
  obtain⟨vs,h1,h2⟩:=hc i x hx
  exact⟨vs,fun j hj=>(World.cell?_of_block (hb b off e hn hlt)).trans (h1 j hj),h2⟩⟩
def Zeg (bf:Nat)(w:World)(u v z:Value)(w':World)(u' v' z':Value):Prop:=∀(A:Option Addr) (n c:Nat) (xs:List Int),Zam w A n c xs→Zhi bf u v z A n→Zam w' A n c xs∧Zhi bf u' v' z' A n
theorem Zeg.trans {bf:Nat}{w w1 w2:World}{u v z u1 v1 z1 u2 v2 z2:Value}(h:Zeg bf w u v z w1 u1 v1 z1)(g:Zeg bf w1 u1 v1 z1 w2 u2 v2 z2):Zeg bf w u v z w2 u2 v2 z2:=fun A n c xs a b=>by
 obtain⟨a1,b1⟩:=h A n c xs a b
 exact g A n c xs a1 b1
theorem Zeg.of_below {bf:Nat}{w w':World}{u v z:Value}(hb:Below w.heap.size w w'):Zeg bf w u v z w' u v z:=fun _ _ _ _ a b=>⟨a.keep hb,b⟩
def ZgJ (bf:Nat)(u v z:Value):World→(Nat→Value)→List Int→Prop:=fun w vs xs=>∃A n c,vs 0=.slice A n c∧Zam w A n c xs∧n≤16∧Zhi bf u v z A n
theorem Zeg.mark {bf:Nat}{w w':World}{u v z u' v' z':Value}(h:Zeg bf w u v z w' u' v' z'){vs:Nat→Value}{xs:List Int}(m:ZgJ bf u v z w vs xs):ZgJ bf u' v' z' w' vs xs:=by
 obtain⟨A,n,c,e,i,l,p⟩:=m
 obtain⟨i',p'⟩:=h A n c xs i p
 exact⟨A,n,c,e,i',l,p'⟩
theorem ZgJ.kept (bf:Nat)(u v z:Value):Zh9 (ZgJ bf u v z):=fun _ _ _ _ hb h=>(Zeg.of_below hb).mark h
theorem Zax.turn {α:Type}{R R':World→(Nat→Value)→α→Prop}{sz:Nat}{w w':World}{cs:List Value}{xs:List α}(h:Zax R sz w cs xs)(hR:∀vs x,R w vs x→R' w' vs x):Zax R' sz w' cs xs :=
 ⟨h.1,fun i x hx=>by obtain⟨vs,a,b⟩:=h.2 i x hx;exact⟨vs,a,hR _ _ b⟩⟩
theorem Zad.turn {α:Type}{R R':World→(Nat→Value)→α→Prop}{sz:Nat}{w w':World}{B e:Nat}{v:Value}{n:Nat}{xs:List α}(h:Zad R sz w B e v n xs){row:Option Nat}(hg:w.grownBy w' row)(hne:v.ownBlock=none∨v.ownBlock≠row)(hR:∀vs x,R w vs x→R' w' vs x):Zad R' sz w' B e v n xs:=by
 obtain⟨cells,h1,h2,h3⟩:=h
 exact⟨cells,h1.kept hg hne,h2.turn hR,h3⟩
theorem Zad.reread {α:Type}{R R':World→(Nat→Value)→α→Prop}{sz:Nat}{w:World}{B e:Nat}{v:Value}{n:Nat}{xs:List α}(h:Zad R sz w B e v n xs)(hR:∀vs x,R w vs x→R' w vs x):Zad R' sz w B e v n xs:=by
 obtain⟨cells,h1,h2,h3⟩:=h
 exact⟨cells,h1,h2.turn hR,h3⟩
theorem Zbi (w:World)(b i:Nat)(v:Value):w.grownBy (w.setCell ⟨b,i,none⟩ v) (some b) :=
 ⟨rfl,rfl,rfl,by simp[World.setCell],fun k _ hk=>heap_setCell_other _ _ _ _ (fun e=>hk (by rw[e]))⟩
structure Zfu (w:World)(B bf bm:Nat)(P:Int)(A:Option Addr)(n c:Nat)(most:Int)(u v z:Value)(mm ms:List (List Int))(ars:List ZaD)(fs:List Int):Prop where
 lo:B≤bf
 lom:B≤bm
 box:Box w bf 153 #[.int .i64 P,.slice A n c,.int .i64 most,.map (some bm),u,v,z]
 map:AtM w bm mm
 marks:Zad (ZgJ bf u v z) 1 w B 28 u ms.length ms
 arcs:Zad Zh3 3 w B 156 v ars.length ars
 first:Zaf w B z fs.length fs
section
variable {w w':World} {B bf bm:Nat} {P:Int} {A:Option Addr} {n c:Nat} {most:Int} {u v z:Value} {mm ms:List (List Int)} {ars:List ZaD} {fs:List Int}
theorem Zfu.keep (h:Zfu w B bf bm P A n c most u v z mm ms ars fs)(hb:Below w.heap.size w w'):Zfu w' B bf bm P A n c most u v z mm ms ars fs :=
 ⟨h.lo,h.lom,h.box.keep hb,h.map.keep hb,h.marks.keep (ZgJ.kept _ _ _ _) hb,h.arcs.keep Zh3.kept hb,h.first.keep ZcE.kept hb⟩
theorem Zfu.entry (h:Zfu w B bf bm P A n c most u v z mm ms ars fs){mm':List (List Int)}(hm:AtM w' bm mm')(hg:w.grownBy w' (some bm)):Zfu w' B bf bm P A n c most u v z mm' ms ars fs∧∀(A:Option Addr) (n c:Nat) (xs:List Int),Zam w A n c xs→Zam w' A n c xs:=by
 have nm:∀(A:Option Addr) (n c:Nat) (xs:List Int),Zam w A n c xs→Zam w' A n c xs:=fun A n c xs hi=>by
  refine hi.same hg.size (fun b off e hn hlt=>hg.block b hlt (fun e2=>?_))
  injection e2 with e2
  subst e2
  obtain⟨es,cl,hmo⟩:=h.map.obj
  obtain⟨b',off',e',hlt',hc⟩:=hi.cells hn
  rw[e]at e'
  injection e' with e'
  injection e' with e1 e2
  subst e1
  obtain⟨vs,a,b⟩:=hc 0 _ (List.getElem?_eq_getElem (by rw[hi.len];exact hn))
  have:=a 0 (by omega)
  unfold World.cell? at this
  rw[hmo]at this
  cases this
 have bx:bf≠bm:=ZfA h.box h.map
 obtain⟨_,o1,_⟩:=id h.marks
 obtain⟨_,o2,_⟩:=id h.arcs
 obtain⟨_,o3,_⟩:=id h.first
 refine⟨⟨h.lo,h.lom,h.box.grown hg (fun e=>bx (by injection e with e;exact e.symm)),hm,h.marks.turn hg (.inr (Zdy o1 h.map)) (fun vs x hx=>?_),h.arcs.turn hg (.inr (Zdy o2 h.map)) (fun vs x hx=>hx),h.first.turn hg (.inr (Zdy o3 h.map)) (fun vs x hx=>hx)⟩,nm⟩
 obtain⟨A,n,c,e,i,l,p⟩:=hx
 exact⟨A,n,c,e,nm _ _ _ _ i,l,p⟩
theorem Zhj {w w':World}{bf:Nat}{u v z y:Value}{g k cap i:Nat}(hg:w.grownBy w' y.ownBlock)(hat:y.ownBlock=some g∨w.heap.size≤g)(hy:y=u∨y=v∨y=z){u' v' z':Value}(hu:u'=u∨(y=u∧u'=.slice (some ⟨g,0,none⟩) k cap))(hv:v'=v∨(y=v∧v'=.slice (some ⟨g,0,none⟩) k cap))(hz:z'=z∨(y=z∧z'=.slice (some ⟨g,0,none⟩) k cap))(V:Value) :
  Zeg bf w u v z (w'.setCell ⟨bf,i,none⟩ V) u' v' z':=by
 intro A n c xs hi ha
 have key:∀b off,A=some ⟨b,off,none⟩→0<n→b<w.heap.size∧b≠bf∧y.ownBlock≠some b∧g≠b:=fun b off e hn=>by
  obtain⟨b',off',e',hlt,_⟩:=hi.cells hn
  rw[e]at e'
  injection e' with e'
  injection e' with e1 _
  subst e1
  obtain⟨p0,p1,p2,p3⟩:=ha b off e hn
  have hyb:y.ownBlock≠some b:=by rcases hy with rfl|rfl|rfl <;> assumption
  refine⟨hlt,p0,hyb,fun e2=>?_⟩
  subst e2
  rcases hat with h|h
  ·exact hyb h
  ·omega
 refine⟨hi.same (by simpa [World.setCell] using hg.size) (fun b off e hn hlt=>?_),fun b off e hn=>?_⟩
 ·obtain⟨_,k1,k2,_⟩:=key b off e hn
  exact(heap_setCell_other _ _ _ _ k1).trans (hg.block b hlt (fun e2=>k2 e2.symm))
 ·obtain⟨p0,p1,p2,p3⟩:=ha b off e hn
  have kg:=(key b off e hn).2.2.2
  have ng:(Value.slice (some ⟨g,0,none⟩) k cap).ownBlock≠some b:=fun e2=>kg (by injection e2)
  refine⟨p0, ?_, ?_, ?_⟩
  ·rcases hu with rfl|⟨_,rfl⟩ <;> assumption
  ·rcases hv with rfl|⟨_,rfl⟩ <;> assumption
  ·rcases hz with rfl|⟨_,rfl⟩ <;> assumption
theorem Zfu.mark (h:Zfu w B bf bm P A n c most u v z mm ms ars fs){g k cap:Nat}{ms':List (List Int)}(hk:k=ms'.length)(own:Zad (fun _ vs x=>ZgJ bf u v z w vs x) 1 w' B 28 (.slice (some ⟨g,0,none⟩) k cap) k ms')(hg:w.grownBy w' u.ownBlock)(hat:u.ownBlock=some g∨w.heap.size≤g) :
  Zfu (w'.setCell ⟨bf,4,none⟩ (.slice (some ⟨g,0,none⟩) k cap)) B bf bm P A n c most (.slice (some ⟨g,0,none⟩) k cap) v z mm ms' ars fs∧Zeg bf w u v z (w'.setCell ⟨bf,4,none⟩ (.slice (some ⟨g,0,none⟩) k cap)) (.slice (some ⟨g,0,none⟩) k cap) v z:=by
 subst hk
 have KK:=Zhj (i:=4) (k:=ms'.length) (cap:=cap) hg hat (u:=u) (v:=v) (z:=z) (bf:=bf) (.inl rfl) (.inr ⟨rfl,rfl⟩) (.inl rfl) (.inl rfl) (.slice (some ⟨g,0,none⟩) ms'.length cap)
 obtain⟨_,o1,_⟩:=id h.marks
 obtain⟨_,o2,_⟩:=id h.arcs
 obtain⟨_,o3,_⟩:=id h.first
 have b1:Box w' bf 153 #[.int .i64 P,.slice A n c,.int .i64 most,.map (some bm),u,v,z]:=h.box.grown hg (Zba o1 h.box (by decide))
 have m1:AtM w' bm mm:=h.map.of_block (hg.block bm h.map.lt (fun e=>Zdy o1 h.map e.symm))
 have a1:Zad Zh3 3 w' B 156 v ars.length ars:=h.arcs.turn hg (ZcV o2 o1 (by decide)) (fun _ _ hx=>hx)
 have f1:Zaf w' B z fs.length fs:=h.first.turn hg (ZcV o3 o1 (by decide)) (fun _ _ hx=>hx)
 obtain⟨_,q1,_⟩:=id own
 obtain⟨_,q2,_⟩:=id a1
 obtain⟨_,q3,_⟩:=id f1
 have gs:=Zbi w' bf 4 (.slice (some ⟨g,0,none⟩) ms'.length cap)
 refine⟨⟨h.lo,h.lom,by simpa using b1.set 4 (.slice (some ⟨g,0,none⟩) ms'.length cap),m1.of_block (heap_setCell_other _ _ _ _ (ZfA b1 m1).symm),
  own.turn gs (.inr (Zba q1 b1 (by decide))) (fun vs x hx=>KK.mark hx),a1.turn gs (.inr (Zba q2 b1 (by decide))) (fun _ _ hx=>hx),f1.turn gs (.inr (Zba q3 b1 (by decide))) (fun _ _ hx=>hx)⟩,KK⟩
theorem Zfu.firstPut (h:Zfu w B bf bm P A n c most u v z mm ms ars fs){g k cap:Nat}{fs':List Int}(hk:k=fs'.length)(own:Zaf w' B (.slice (some ⟨g,0,none⟩) k cap) k fs')(hg:w.grownBy w' z.ownBlock)(hat:z.ownBlock=some g∨w.heap.size≤g) :
  Zfu (w'.setCell ⟨bf,6,none⟩ (.slice (some ⟨g,0,none⟩) k cap)) B bf bm P A n c most u v (.slice (some ⟨g,0,none⟩) k cap) mm ms ars fs'∧Zeg bf w u v z (w'.setCell ⟨bf,6,none⟩ (.slice (some ⟨g,0,none⟩) k cap)) u v (.slice (some ⟨g,0,none⟩) k cap):=by
 subst hk
 have KK:=Zhj (i:=6) (k:=fs'.length) (cap:=cap) hg hat (u:=u) (v:=v) (z:=z) (bf:=bf) (.inr (.inr rfl)) (.inl rfl) (.inl rfl) (.inr ⟨rfl,rfl⟩) (.slice (some ⟨g,0,none⟩) fs'.length cap)
 obtain⟨_,o1,_⟩:=id h.marks
 obtain⟨_,o2,_⟩:=id h.arcs
 obtain⟨_,o3,_⟩:=id h.first
 have b1:Box w' bf 153 #[.int .i64 P,.slice A n c,.int .i64 most,.map (some bm),u,v,z]:=h.box.grown hg (Zba o3 h.box (by decide))
 have m1:AtM w' bm mm:=h.map.of_block (hg.block bm h.map.lt (fun e=>Zdy o3 h.map e.symm))
 have a1:Zad Zh3 3 w' B 156 v ars.length ars:=h.arcs.turn hg (ZcV o2 o3 (by decide)) (fun _ _ hx=>hx)
 have k1:Zad (fun _ vs x=>ZgJ bf u v z w vs x) 1 w' B 28 u ms.length ms:=h.marks.turn hg (ZcV o1 o3 (by decide)) (fun _ _ hx=>hx)
 obtain⟨_,q1,_⟩:=id k1
 obtain⟨_,q2,_⟩:=id a1
 obtain⟨_,q3,_⟩:=id own
 have gs:=Zbi w' bf 6 (.slice (some ⟨g,0,none⟩) fs'.length cap)
 refine⟨⟨h.lo,h.lom,by simpa using b1.set 6 (.slice (some ⟨g,0,none⟩) fs'.length cap),m1.of_block (heap_setCell_other _ _ _ _ (ZfA b1 m1).symm),
  k1.turn gs (.inr (Zba q1 b1 (by decide))) (fun vs x hx=>KK.mark hx),a1.turn gs (.inr (Zba q2 b1 (by decide))) (fun _ _ hx=>hx),own.turn gs (.inr (Zba q3 b1 (by decide))) (fun _ _ hx=>hx)⟩,KK⟩
theorem Zfu.arc (h:Zfu w B bf bm P A n c most u v z mm ms ars fs){g k cap:Nat}{ars':List ZaD}(hk:k=ars'.length)(own:Zad Zh3 3 w' B 156 (.slice (some ⟨g,0,none⟩) k cap) k ars')(hg:w.grownBy w' v.ownBlock)(hat:v.ownBlock=some g∨w.heap.size≤g) :
  Zfu (w'.setCell ⟨bf,5,none⟩ (.slice (some ⟨g,0,none⟩) k cap)) B bf bm P A n c most u (.slice (some ⟨g,0,none⟩) k cap) z mm ms ars' fs∧Zeg bf w u v z (w'.setCell ⟨bf,5,none⟩ (.slice (some ⟨g,0,none⟩) k cap)) u (.slice (some ⟨g,0,none⟩) k cap) z:=by
 subst hk
 have KK:=Zhj (i:=5) (k:=ars'.length) (cap:=cap) hg hat (u:=u) (v:=v) (z:=z) (bf:=bf) (.inr (.inl rfl)) (.inl rfl) (.inr ⟨rfl,rfl⟩) (.inl rfl) (.slice (some ⟨g,0,none⟩) ars'.length cap)
 obtain⟨_,o1,_⟩:=id h.marks
 obtain⟨_,o2,_⟩:=id h.arcs
 obtain⟨_,o3,_⟩:=id h.first
 have b1:Box w' bf 153 #[.int .i64 P,.slice A n c,.int .i64 most,.map (some bm),u,v,z]:=h.box.grown hg (Zba o2 h.box (by decide))
 have m1:AtM w' bm mm:=h.map.of_block (hg.block bm h.map.lt (fun e=>Zdy o2 h.map e.symm))
 have f1:Zaf w' B z fs.length fs:=h.first.turn hg (ZcV o3 o2 (by decide)) (fun _ _ hx=>hx)
 have k1:Zad (fun _ vs x=>ZgJ bf u v z w vs x) 1 w' B 28 u ms.length ms:=h.marks.turn hg (ZcV o1 o2 (by decide)) (fun _ _ hx=>hx)
 obtain⟨_,q1,_⟩:=id k1
 obtain⟨_,q2,_⟩:=id own
 obtain⟨_,q3,_⟩:=id f1
 have gs:=Zbi w' bf 5 (.slice (some ⟨g,0,none⟩) ars'.length cap)
 refine⟨⟨h.lo,h.lom,by simpa using b1.set 5 (.slice (some ⟨g,0,none⟩) ars'.length cap),m1.of_block (heap_setCell_other _ _ _ _ (ZfA b1 m1).symm),
  k1.turn gs (.inr (Zba q1 b1 (by decide))) (fun vs x hx=>KK.mark hx),own.turn gs (.inr (Zba q2 b1 (by decide))) (fun _ _ hx=>hx),f1.turn gs (.inr (Zba q3 b1 (by decide))) (fun _ _ hx=>hx)⟩,KK⟩
end
def Zsd (w0 w:World)(bf bm:Nat)(P:Int)(A:Option Addr)(n c:Nat)(most:Int)(u v z:Value)(ars:List ZaD)(p:List (List Int)×List Int×Int×Bool)(e:Ending)(w':World):Prop :=
 ∃u' z',e=.returned (.tuple #[.int .i64 p.2.2.1,.bool p.2.2.2])∧Zfu w' w0.heap.size bf bm P A n c most u' v z' p.1 p.1 ars p.2.1∧Below w0.heap.size w0 w'∧w.heap.size≤w'.heap.size∧Zeg bf w u v z w' u' v z'
set_option maxHeartbeats 2000000 in
theorem ZfX {w0 w:World} {bf bm:Nat} {P:Int} {A:Option Addr} {n c M:Nat} {u v z:Value} {ms:List (List Int)} {ars:List ZaD} {fs:List Int} {X:Option Addr} {nx cx:Nat} {x:List Int} (a:Int)
  (h:Zfu w w0.heap.size bf bm P A n c (M:Int) u v z ms ms ars fs) (hB:Below w0.heap.size w0 w) (hx:Zam w X nx cx x) (hn:nx≤16) (hr:Zal x=true) (ha:Zhi bf u v z X nx) (hm:ms.length≤300) (hfs:fs.length≤300) :
  Calls Tryz.prog 111 #[.pointer (some ⟨bf,0,none⟩),.slice X nx cx,.int .i64 a] w (Zsd w0 w bf bm P A n c (M:Int) u v z ars (Zd9 M ms fs x a)):=by
 obtain⟨U,cu,hu,su⟩:=h.marks.sl (by omega)
 obtain⟨Z,cz,hz,sz⟩:=h.first.sl (by omega)
 subst hu hz
 have hxl:x.length≤16:=by rw[hx.len];exact hn
 have HF:=Zaa h
 have HB:=Zaa hB
 have HX:=Zaa hx
 have HR:=Zaa hr
 have HA:=Zaa ha
 have HL:=Zaa hxl
 have DR:=Zaa ((Below.refl w.heap.size w).drew)
 have KEEP:=Zaa (show ∀w',Below w.heap.size w w'→w'.cell? ⟨bf,2,none⟩=some (.int .i64 (M:Int))∧w'.cell? ⟨bf,3,none⟩=some (.map (some bm))from fun w' hb=>⟨(h.box.keep hb).cell 2,(h.box.keep hb).cell 3⟩)
 have CN:=Zaa (fun(w':World) (hb:Below w.heap.size w w')=>Zix (hx.keep hb) hn hr)
 clear h hB hx hr ha su sz hxl
 obtain⟨r,hfr⟩:∃r,Zcb ms x=r:=⟨_,rfl⟩
 obtain⟨d2,d3⟩:=KEEP.out w (Below.refl _ _)
 go_enter Tryz.func111,Tryz.ntmps111
 go_upto_region 1 with fail
 cases r with
 | some k =>
  have FR:=Zaa hfr
  clear hfr
  go_region_held3 (fun w'=>w'.cell? ⟨bf,2,none⟩=some (.int .i64 (M:Int))∧w'.cell? ⟨bf,3,none⟩=some (.map (some bm)))
   (first|go_keep)
   (first|(go_at_call 162;(with_reducible refine(CN.out _ DR.out).mono ?_);rintro e1 w1 ⟨rfl,hb1⟩;have F1:=Zaa (DR.out.trans (hb1.mono DR.out.size));clear hb1 d2 d3;obtain⟨d2,d3⟩:=KEEP.out w1 F1.out;obtain⟨vv,LK,hvv⟩:=(HF.out.map.keep F1.out).look HR.out HL.out;rw[FR.out]at LK;obtain rfl:=hvv k FR.out;simp only[Option.isSome]at LK))
  all_goals
   clear d2 d3 LK
   have BB:=Zaa (HB.out.trans (F1.out.mono HB.out.size))
   have FP:=Zaa (show Zd9 M ms fs x a=(ms,fs,(k:Int),true) by unfold Zd9;rw[FR.out])
   go_wp2
   exact bodyPost_ret (v:=.tuple #[.int .i64 (k:Int),.bool true]) (by simp[results,Tryz.results111,go_sem]) rfl (by rw[FP.out];exact⟨_,_,rfl,HF.out.keep F1.out,BB.out,F1.out.size,Zeg.of_below F1.out⟩)
 | none =>
  have FR:=Zaa hfr
  clear hfr
  go_region_held3 (fun w'=>w'.cell? ⟨bf,2,none⟩=some (.int .i64 (M:Int))∧w'.cell? ⟨bf,3,none⟩=some (.map (some bm)))
   (first|go_keep)
   (first|(go_at_call 162;(with_reducible refine(CN.out _ DR.out).mono ?_);rintro e1 w1 ⟨rfl,hb1⟩;have F1:=Zaa (DR.out.trans (hb1.mono DR.out.size));clear hb1 d2 d3;obtain⟨d2,d3⟩:=KEEP.out w1 F1.out;obtain⟨vv,LK,hvv⟩:=(HF.out.map.keep F1.out).look HR.out HL.out;rw[FR.out]at LK;clear hvv;simp only[Option.isSome]at LK))
  all_goals
   clear d2 d3 LK
   have FW:=Zaa (HF.out.keep F1.out)
   have BB:=Zaa (HB.out.trans (F1.out.mono HB.out.size))
   have K1:=Zaa (Zeg.of_below F1.out (bf:=bf) (u:=.slice U ms.length cu) (v:=v) (z:=.slice Z fs.length cz))
   have HX1:=Zaa (HX.out.keep F1.out)
   have S1:=Zaa F1.out.size
   clear CN KEEP DR HF HB HX F1
   obtain⟨L,hL⟩:∃L,ms.length=L:=⟨_,rfl⟩
   have HLL:=Zaa hL
   obtain⟨e0,e2,e3,e4,e6⟩:w1.cell? ⟨bf,0,none⟩=some (.int .i64 P)∧w1.cell? ⟨bf,2,none⟩=some (.int .i64 (M:Int))∧w1.cell? ⟨bf,3,none⟩=some (.map (some bm))∧w1.cell? ⟨bf,4,none⟩=some (.slice U ms.length cu)∧w1.cell? ⟨bf,6,none⟩=some (.slice Z fs.length cz):=⟨FW.out.box.cell 0,FW.out.box.cell 2,FW.out.box.cell 3,FW.out.box.cell 4,FW.out.box.cell 6⟩
   rw[hL]at e4
   by_cases hLM:L=M
   ·have FP:=Zaa (show Zd9 M ms fs x a=(ms,fs,0,false) by unfold Zd9;rw[FR.out,HLL.out];simp only[hLM,if_true])
    have hLi:(L:Int)=(M:Int):=by omega
    clear hL
    go_wp2
    exact bodyPost_ret (v:=.tuple #[.int .i64 0,.bool false]) (by simp[results,Tryz.results111,go_sem]) rfl (by rw[FP.out];exact⟨_,_,rfl,FW.out,BB.out,S1.out,K1.out⟩)
   ·have FP:=Zaa (show Zd9 M ms fs x a=(ms++[x],fs++[a],(L:Int),true) by unfold Zd9;rw[FR.out,HLL.out];simp only[hLM,if_false])
    have hLi:¬(L:Int)=(M:Int):=by omega
    have hL3:L≤300:=by omega
    clear hL hLM
    go_upto_region 7 with fail
    clear e0 e2 e3 e4 e6
    obtain⟨d2,d3⟩:w1.cell? ⟨bf,2,none⟩=some (.int .i64 (M:Int))∧w1.cell? ⟨bf,3,none⟩=some (.map (some bm)):=⟨FW.out.box.cell 2,FW.out.box.cell 3⟩
    have DR:=Zaa ((Below.refl w1.heap.size w1).drew)
    have KEEP:=Zaa (show ∀w',Below w1.heap.size w1 w'→w'.cell? ⟨bf,2,none⟩=some (.int .i64 (M:Int))∧w'.cell? ⟨bf,3,none⟩=some (.map (some bm))from fun w' hb=>⟨(FW.out.box.keep hb).cell 2,(FW.out.box.keep hb).cell 3⟩)
    have CN:=Zaa (fun(w':World) (hb:Below w1.heap.size w1 w')=>Zix (HX1.out.keep hb) hn HR.out)
    have HM3:=Zaa hm
    go_region_held3 (fun w'=>w'.cell? ⟨bf,2,none⟩=some (.int .i64 (M:Int))∧w'.cell? ⟨bf,3,none⟩=some (.map (some bm)))
     (first|go_keep)
     (first|(go_at_call 162;(with_reducible refine(CN.out _ DR.out).mono ?_);rintro e1 w2 ⟨rfl,hb1⟩;have F2:=Zaa (DR.out.trans (hb1.mono DR.out.size));clear hb1 d2 d3;obtain⟨d2,d3⟩:=KEEP.out w2 F2.out;obtain⟨w3,UP,AM',GR'⟩:=(FW.out.map.keep F2.out).put HR.out HL.out FR.out (by have:=HM3.out;omega);rw[HLL.out]at UP;have E3:=Zaa ((FW.out.keep F2.out).entry AM' GR');have GR:=Zaa GR';clear AM' GR';have g2:=E3.out.1.box.cell 2;have g3:=E3.out.1.box.cell 3;simp at g2 g3))
    all_goals
     clear d2 d3 UP g2 g3
     have B3:=Zaa ((BB.out.trans (F2.out.mono BB.out.size)).grown GR.out (Nat.le_trans BB.out.size F2.out.size) (fun k hk=>by cases hk;exact E3.out.1.lom))
     have HX3:=Zaa (E3.out.2 _ _ _ _ (HX1.out.keep F2.out))
     have K3:=Zaa (K1.out.trans (fun A' n' c' xs' hi hap=>⟨E3.out.2 _ _ _ _ (hi.keep F2.out),hap⟩:Zeg bf w1 (.slice U ms.length cu) v (.slice Z fs.length cz) w3 (.slice U ms.length cu) v (.slice Z fs.length cz)))
     have S3:=Zaa (Nat.le_trans S1.out (Nat.le_trans F2.out.size GR.out.size))
     have F3:=Zaa E3.out.1
     clear FW BB HX1 K1 S1 F2 GR E3 CN KEEP DR HM3
     have c4:w3.cell? ⟨bf,4,none⟩=some (.slice U ms.length cu):=F3.out.box.cell 4
     have MK:=Zaa (show ZgJ bf (.slice U ms.length cu) v (.slice Z fs.length cz) w3 (fun _=>.slice X nx cx) x from⟨X,nx,cx,rfl,HX3.out,hn,HA.out⟩)
     have NB:=Zaa (show(Value.slice U ms.length cu).ownBlock≠some bf by obtain⟨_,o1,_⟩:=id F3.out.marks;exact Zba o1 F3.out.box (by decide))
     have OM:=Zaa (show Zad (fun _ vs y=>ZgJ bf (.slice U ms.length cu) v (.slice Z fs.length cz) w3 vs y) 1 w3 w0.heap.size 28 (.slice U ms.length cu) ms.length ms from F3.out.marks.reread fun _ _ hy=>hy)
     go_upto_region 9 with(at_builtin;go_loud (refine ZbW (R:=fun _ vs y=>ZgJ bf (.slice U ms.length cu) v (.slice Z fs.length cz) w3 vs y) Zhe rfl _ _ rfl [x] #[.slice X nx cx] rfl rfl (by first|rfl|simp) rfl (by omega) (by simp[Value.oneCell']) OM.out (Zax.one (vs:=fun _=>.slice X nx cx) MK.out rfl (fun j hj=>(by obtain rfl:j=0:=(by omega);rfl))) rfl B3.out B3.out.size (by omega) (by omega) (fun _ _ _ _ h=>h) ?_;intro g4 cap4 w4 own4' hg4' hb4' hat4';have own4:=Zaa own4';have hg4:=Zaa hg4';have hb4:=Zaa hb4';have hat4:=Zaa hat4';clear own4' hg4' hb4' hat4' c4;have c4:w4.cell? ⟨bf,4,none⟩=some (.slice U ms.length cu):=(F3.out.box.grown hg4.out NB.out).cell 4;have f4:=(F3.out.box.grown hg4.out NB.out).frozen 4))
     clear c4 f4
     have FK:=Zaa (F3.out.mark (by simp) own4.out hg4.out hat4.out)
     have BX:=Zaa (show Below w0.heap.size w0 (w4.setCell ⟨bf,4,none⟩ (.slice (some ⟨g4,0,none⟩) (ms.length+1) cap4))from hb4.out.grown (Zbi _ _ _ _) hb4.out.size (fun k hk=>by cases hk;exact F3.out.lo))
     have S5:=Zaa (show w.heap.size≤(w4.setCell ⟨bf,4,none⟩ (.slice (some ⟨g4,0,none⟩) (ms.length+1) cap4)).heap.size from Nat.le_trans S3.out (Nat.le_trans hg4.out.size (by simp[World.setCell])))
     clear OM NB MK HX3 hb4 hat4 hg4 own4 B3 S3
     generalize w4.setCell ⟨bf,4,none⟩ (.slice (some ⟨g4,0,none⟩) (ms.length+1) cap4)=w5 at *
     have F5:=Zaa FK.out.1
     have K5:=Zaa (K3.out.trans FK.out.2)
     clear FK K3 F3
     have c6:w5.cell? ⟨bf,6,none⟩=some (.slice Z fs.length cz):=F5.out.box.cell 6
     have NB:=Zaa (show(Value.slice Z fs.length cz).ownBlock≠some bf by obtain⟨_,o1,_⟩:=id F5.out.first;exact Zba o1 F5.out.box (by decide))
     go_wp2_with (at_builtin;go_loud (refine ZbW Zdc rfl _ _ rfl [a] #[.int .i64 a] rfl rfl (by first|rfl|simp) rfl (by omega) (by simp[Value.oneCell']) F5.out.first (Zax.one (vs:=fun _=>.int .i64 a) rfl rfl (fun j hj=>(by obtain rfl:j=0:=(by omega);rfl))) rfl BX.out BX.out.size (by omega) (by omega) (fun _ _ _ _ h=>h) ?_;intro g6 cap6 w6 own6' hg6' hb6' hat6';have own6:=Zaa own6';have hg6:=Zaa hg6';have hb6:=Zaa hb6';have hat6:=Zaa hat6';clear own6' hg6' hb6' hat6' c6;have c6:w6.cell? ⟨bf,6,none⟩=some (.slice Z fs.length cz):=(F5.out.box.grown hg6.out NB.out).cell 6;have f6:=(F5.out.box.grown hg6.out NB.out).frozen 6))
     have FK:=F5.out.firstPut (by simp) own6.out hg6.out hat6.out
     have BZ:Below w0.heap.size w0 (w6.setCell ⟨bf,6,none⟩ (.slice (some ⟨g6,0,none⟩) (fs.length+1) cap6)):=hb6.out.grown (Zbi _ _ _ _) hb6.out.size (fun k hk=>by cases hk;exact F5.out.lo)
     exact bodyPost_ret (v:=.tuple #[.int .i64 (L:Int),.bool true]) (by simp[results,Tryz.results111,go_sem]) rfl (by rw[FP.out];exact⟨_,_,rfl,FK.1,BZ,Nat.le_trans S5.out (Nat.le_trans hg6.out.size (by simp[World.setCell])),K5.out.trans FK.2⟩)
theorem Zfu.apart {w:World}{B bf bm:Nat}{P:Int}{A:Option Addr}{n c:Nat}{most:Int}{u v z:Value}{mm ms:List (List Int)}{ars:List ZaD}{fs:List Int}(h:Zfu w B bf bm P A n c most u v z mm ms ars fs){C:Option Addr}{l:Nat}(hf:Zbn w C):Zhi bf u v z C l:=by
 intro b off e _
 have hb:w.heap.size≤b:=hf _ e
 have h0:=h.box.lt
 exact⟨by omega,fun e2=>(by have:=(h.marks.lt b e2).2;omega),fun e2=>(by have:=(h.arcs.lt b e2).2;omega),fun e2=>(by have:=(h.first.lt b e2).2;omega)⟩
structure ZoF (N:Zau)(M:Nat)(s:PSp)(fs:List Int)(k:Nat):Prop where
 sp:ZeC N M s
 fst:Zlm s fs
 arcs:s.arcs.length≤k
def ZrQ (w0:World)(bf bm:Nat)(N:Zau)(A:Option Addr)(n c M:Nat)(r:Option PSp)(e:Ending)(w':World):Prop :=
 Below w0.heap.size w0 w'∧match r with
 | none=>e=.returned (.int .i64 4)
 | some s=>e=.returned (.int .i64 0)∧∃u v z fs,Zfu w' w0.heap.size bf bm N.places A n c (M:Int) u v z s.marks s.marks s.arcs fs∧ZoF N M s fs 7200
theorem Zmu {w0 w':World}{bf bm:Nat}{N:Zau}{A:Option Addr}{n c M:Nat}{r:Option PSp}(hr:r=none)(hb:Below w0.heap.size w0 w'):ZrQ w0 bf bm N A n c M r (.returned (.int .i64 4)) w':=by
 subst hr
 exact⟨hb,rfl⟩
set_option maxHeartbeats 4000000 in
theorem Zi7 {w0 w:World} {bf bm:Nat} {P:Int} {A:Option Addr} {n c M:Nat} {u v z:Value} {ts:List Zak} {s:PSp} {fs:List Int} (hT:ZaP w0 A n c ts) (hM:M≤300)
  (h:Zfu w w0.heap.size bf bm P A n c (M:Int) u v z s.marks s.marks s.arcs fs) (hB:Below w0.heap.size w0 w) (hs:ZoF ⟨P,ts⟩ M s fs 0) :
  Calls Tryz.prog 112 #[.pointer (some ⟨bf,0,none⟩)] w (ZrQ w0 bf bm ⟨P,ts⟩ A n c M (goM ⟨P,ts⟩ M M 0 s)):=by
 obtain⟨R,hR⟩:∃R,goM ⟨P,ts⟩ M M 0 s=R:=⟨_,rfl⟩
 rw[hR]
 have HR:=Zaa hR
 have HT:=Zaa hT
 have HF:=Zaa h
 have HB:=Zaa hB
 have HS:=Zaa hs
 have HM:=Zaa hM
 clear hR hT h hB hs hM
 go_enter Tryz.func112,Tryz.ntmps112
 go_wp2
 go_loopw [3] (fun fv wr=>∃(f:Nat) (u v z:Value) (s:PSp) (fs:List Int),fv=.int .i64 f∧f≤s.marks.length∧f≤M∧Hid (Zfu wr w0.heap.size bf bm P A n c (M:Int) u v z s.marks s.marks s.arcs fs)∧Hid (Below w0.heap.size w0 wr)∧Hid (ZoF ⟨P,ts⟩ M s fs (24*f))∧Hid (goM ⟨P,ts⟩ M (M-f) f s=R)) (fun fv _=>M-(intOf fv).toNat)
 case atStart=>exact⟨0,u,v,z,s,fs,rfl,Nat.zero_le _,Nat.zero_le _,HF,HB,HS,HR⟩
 case round =>
  clear HF HB HS HR u v z fs s
  obtain⟨f,u,v,z,s,fs,rfl,hfl,hfM,HF,HB,HS,HR⟩:=hrel
  have hM3:M≤300:=HM.out
  have hL3:s.marks.length≤300:=Nat.le_trans HS.out.sp.few HM.out
  obtain⟨U,cu,hu,su⟩:=HF.out.marks.sl (by omega)
  subst hu
  obtain⟨L,hL⟩:∃L,s.marks.length=L:=⟨_,rfl⟩
  have HLL:=Zaa hL
  by_cases hlt:f<s.marks.length
  ·obtain⟨b,off,m,vs,hU,hbl,hm,hc,A1,n1,c1,e1,i1,hn1,ap1⟩:=Sl.get su hlt
   subst hU
   have hU2:f<L:=by omega
   have c0:wr.cell? ⟨bf,0,none⟩=some (.int .i64 P):=HF.out.box.cell 0
   have c1':wr.cell? ⟨bf,1,none⟩=some (.slice A n c):=HF.out.box.cell 1
   have c4:wr.cell? ⟨bf,4,none⟩=some (.slice (some ⟨b,off,none⟩) s.marks.length cu):=HF.out.box.cell 4
   have cm:wr.cell? ⟨b,off+f,none⟩=some (.slice A1 n1 c1):=by have:=hc 0 (by omega);rw[e1]at this;simpa using this
   rw[hL]at c4
   have hfLi:(f:Int)<(L:Int):=by omega
   have MF:=Zaa (HS.out.sp.fits m (List.mem_of_getElem? hm))
   have HM1:=Zaa hm
   have I1:=Zaa i1
   have AP1:=Zaa ap1
   have HT1:=Zaa (HT.out.keep HB.out)
   have FIN:=Zaa (show Zbq ⟨P,ts⟩ m=(Zb4 ts m,0) by rw[Zbq,if_pos MF.out])
   have HN:=Zaa hn1
   clear hL su hlt hm hc i1 ap1 e1 hn1
   go_wp2_with ((with_reducible refine(Zid HT1.out I1.out).mono ?_);rw[FIN.out];rintro e w1 ⟨C,l,lc,rfl,hi,hb1,hfr⟩)
   have F1:=Zaa (HF.out.keep hb1)
   have B1:=Zaa (HB.out.trans (hb1.mono HB.out.size))
   have IM:=Zaa (I1.out.keep hb1)
   have IC:=Zaa hi
   have AC:=Zaa (HF.out.apart (l:=l) hfr)
   have hl24:l≤24:=by
    have h1:=hi.len
    have h2:=ZjP ts m
    have h3:ts.length≤24:=((Zar _).1 ((ZaG _ _).1 MF.out).1).2.2.1
    omega
   have FD:=Zaa (show Zj2 ⟨P,ts⟩ M f s=ZcN ⟨P,ts⟩ M m (f:Int) (Zb4 ts m) (some s) by
    have:=Zi5 (most:=M) (f:=(f:Int)) MF.out (some s) ts.length (Nat.le_refl _)
    rw[List.take_length]at this
    rw[this,Zj2,show s.marks.getD f []=m by rw[List.getD_eq_getElem?_getD,HM1.out];rfl])
   obtain⟨wo,hwo⟩:∃wo:World,wo=wr:=⟨_,rfl⟩
   subst hwo
   clear c0 c1' c4 cm hi hb1 hfr I1 HT1 HF HB
   go_wp2
   go_loopw [45] (fun kv wr=>∃(k:Nat) (u v z:Value) (s1:PSp) (fs:List Int),kv=.int .i64 k∧k≤l∧Hid (Zfu wr w0.heap.size bf bm P A n c (M:Int) u v z s1.marks s1.marks s1.arcs fs)∧Hid (Below w0.heap.size w0 wr)∧Hid (ZoF ⟨P,ts⟩ M s1 fs (24*f+k))∧Hid (ZcN ⟨P,ts⟩ M m (f:Int) ((Zb4 ts m).take k) (some s)=some s1)∧Hid (Zam wr C l lc (Zb4 ts m)∧Zhi bf u v z C l)∧Hid (Zam wr A1 n1 c1 m∧Zhi bf u v z A1 n1)∧Hid (f<s1.marks.length)) (fun kv _=>l-(intOf kv).toNat)
   case atStart=>exact⟨0,_,_,_,s,fs,rfl,Nat.zero_le _,F1,B1,HS,rfl,⟨IC.out,AC.out⟩,⟨IM.out,AP1.out⟩,by rw[HLL.out];exact hU2⟩
   case round =>
    clear F1 B1 IM IC AC AP1
    obtain⟨k,u1,v1,z1,s1,fs1,rfl,hk,F1,B1,X1,FO,⟨ic,ac⟩,⟨im,am⟩,FL⟩:=hrel
    have hm300:s1.marks.length≤300:=Nat.le_trans X1.out.sp.few HM.out
    have ha72:s1.arcs.length≤24*f+k:=X1.out.arcs
    have hf72:s1.arcs.length≤7224:=by omega
    have hfs:fs1.length≤300:=by rw[X1.out.fst.len];exact hm300
    have SUCC:=Zaa (show R=none∨True from .inr trivial)
    by_cases hlt:k<l
    ·obtain⟨bC,offC,t,hC,hbC,ht,hct⟩:=Zam.get ic hlt
     subst hC
     have htm:t∈Zb4 ts m:=List.mem_of_getElem? ht
     obtain⟨⟨i,hi,hti⟩,hfe⟩:=Znb MF.out htm
     subst hti
     obtain⟨V,cv,hv,sv⟩:=F1.out.arcs.sl (by omega)
     subst hv
     have hki:(k:Int)<(l:Int):=by omega
     have hi24:i≤24:=by
      have h3:ts.length≤24:=((Zar _).1 ((ZaG _ _).1 MF.out).1).2.2.1
      have h4:i<ts.length:=hi
      omega
     have STEP:=Zaa (show ZcN ⟨P,ts⟩ M m (f:Int) ((Zb4 ts m).take (k+1)) (some s)=Zbr ⟨P,ts⟩ M m (f:Int) s1 (i:Int) by
      rw[ZaK ht,ZfW,FO.out];rfl)
     have NONE:=Zaa (fun(h0:Zbr ⟨P,ts⟩ M m (f:Int) s1 (i:Int)=none)=>show R=none by
      rw[←HR.out]
      obtain⟨g,hg⟩:∃g,M-f=g+1:=⟨M-f-1,by have:=HS.out.sp.few;rw[HLL.out]at this;omega⟩
      rw[hg,goM,if_pos (by rw[HLL.out];exact hU2),FD.out,Zlk (k+1) (by rw[STEP.out];exact h0)]
      rfl)
     obtain⟨p,hp⟩:∃p,Zbu ⟨P,ts⟩ m (i:Int)=p:=⟨_,rfl⟩
     obtain⟨x,fe⟩:=p
     rw[hp]at hfe
     have c0:wr.cell? ⟨bf,0,none⟩=some (.int .i64 P):=F1.out.box.cell 0
     have c1':wr.cell? ⟨bf,1,none⟩=some (.slice A n c):=F1.out.box.cell 1
     have HP:=Zaa hp
     have HTr:=Zaa (HT.out.keep B1.out)
     have IMR:=Zaa im
     have AMR:=Zaa am
     have ICR:=Zaa ic
     have ACR:=Zaa ac
     have FXF:=Zaa (Zhg (t:=(i:Int)) MF.out)
     clear hp im am ic ac hi htm sv ht SUCC
     rcases hfe with hfe|hfe
     ·simp only at hfe
      subst hfe
      have XF:=Zaa (FXF.out (by rw[HP.out]))
      simp only[HP.out]at XF
      have XL:=Zaa (show x.length≤16 by
       obtain⟨h1,h2,_⟩:=(ZaG _ _).1 XF.out.1
       have h3:=((Zar _).1 h1).2.1
       simp only at h2 h3
       omega)
      have XR:=Zaa ((ZaG _ _).1 XF.out.1).2.2
      have AST:=Zaa (show Zbr ⟨P,ts⟩ M m (f:Int) s1 (i:Int)=ZgI M s1 (f:Int) (i:Int) x by unfold Zbr;rw[HP.out];rfl)
      have SPS:=Zaa (fun(s':PSp) (h:ZgI M s1 (f:Int) (i:Int) x=some s')=>X1.out.sp.step FL.out MF.out (AST.out.trans h))
      have MT:=X1.out.fst.meet (M:=M) (x:=x) (f:=(f:Int)) (t:=(i:Int)) (fun a ha=>(X1.out.sp.ends a ha).2.2.2)
      have CF:=Zaa (fun(w2:World) (D:Option Addr) (q qc:Nat) (hi2:Zam w2 D q qc x) (hb2:Below wr.heap.size wr w2) (hfr2:Zbn wr D)=>ZfX (s1.arcs.length:Int) (F1.out.keep hb2) (B1.out.trans (hb2.mono B1.out.size)) hi2 (by rw[←hi2.len];exact XL.out) XR.out (F1.out.apart hfr2) hm300 hfs)
      obtain⟨pp,hpp⟩:∃pp,Zd9 M s1.marks fs1 x (s1.arcs.length:Int)=pp:=⟨_,rfl⟩
      rw[hpp]at MT
      simp only[hpp]at CF
      obtain⟨ms',fs',k',ok⟩:=pp
      clear hpp
      have CELL:=Zaa (show ∀w2,Below wr.heap.size wr w2→w2.cell? ⟨bf,5,none⟩=some (.slice V s1.arcs.length cv)from fun w2 hb=>(F1.out.box.keep hb).cell 5)
      obtain⟨na,hna⟩:∃na,s1.arcs.length=na:=⟨_,rfl⟩
      have HNA:=Zaa hna
      simp only[hna]at CF CELL ACR AMR
      rcases MT with⟨hok,hme⟩|⟨hok,hme,hfo⟩
      ·simp only at hok
       subst hok
       have RN:=Zaa (NONE.out (AST.out.trans hme))
       clear hme hna
       go_wp2_with (first
        |((with_reducible refine(ZdS HTr.out IMR.out (i:Int)).mono ?_);rw[HP.out];rintro e w2 ⟨D,q,qc,rfl,hi2,hb2,hfr2⟩;have CALL:=Zaa (CF.out w2 D q qc hi2 hb2 hfr2);have c5:=CELL.out w2 hb2;clear hi2 hb2 hfr2)
        |(go_at_call 111;(with_reducible refine CALL.out.mono ?_);rintro e w3 ⟨u',z',rfl,F3,B3,S3,K3⟩;have B4:=Zaa B3;clear F3 B3 S3 K3))
       go_ret
       exact Zmu RN.out B4.out
      ·simp only at hok hme hfo
       subst hok
       have SP:=Zaa (SPS.out _ hme)
       have FO2:=Zaa (STEP.out.trans (AST.out.trans hme))
       have HFO:=Zaa hfo
       have WI:=Zaa (show(Lit.int .i64 (i:Int)).wf=true from WalkArith.wf_i64 (by omega))
       clear hme hfo hna
       go_wp2_with (first
        |((with_reducible refine(ZdS HTr.out IMR.out (i:Int)).mono ?_);rw[HP.out];rintro e w2 ⟨D,q,qc,rfl,hi2,hb2,hfr2⟩;have CALL:=Zaa (CF.out w2 D q qc hi2 hb2 hfr2);have HB2:=Zaa hb2;have c5:=CELL.out w2 hb2;clear hi2 hb2 hfr2)
        |(go_at_call 111;go_loud ((with_reducible refine CALL.out.mono ?_);rintro e w3 ⟨u',z',rfl,F3,B3,S3,K3⟩;have F4:=Zaa F3;have B4:=Zaa B3;have IC4:=Zaa (K3 _ _ _ _ (ICR.out.keep HB2.out) ACR.out);have IM4:=Zaa (K3 _ _ _ _ (IMR.out.keep HB2.out) AMR.out);have NB:=Zaa (show(Value.slice V na cv).ownBlock≠some bf by obtain⟨_,o1,_⟩:=id F3.arcs;exact Zba o1 F3.box (by decide));clear c5;have c5:w3.cell? ⟨bf,5,none⟩=some (.slice V na cv):=F3.box.cell 5;clear F3 B3 S3 K3))
        |(at_builtin;go_loud (refine ZbW Zs5 rfl _ _ rfl [(⟨(f:Int),(i:Int),k'⟩:ZaD)] #[.int .i64 (f:Int),.int .i64 (i:Int),.int .i64 k'] rfl rfl (by first|rfl|simp) rfl (by omega) (by simp[Value.oneCell']) F4.out.arcs (Zax.one (vs:=fun j=>#[Value.int .i64 (f:Int),.int .i64 (i:Int),.int .i64 k'].getD j (.int .i64 0)) ⟨rfl,rfl,rfl,WI.out⟩ rfl (fun j hj=>(by match j,hj with|0,_=>rfl|1,_=>rfl|2,_=>rfl))) rfl B4.out B4.out.size (by omega) (by omega) (fun _ _ _ _ h=>h) ?_;intro g6 cap6 w6 own6' hg6' hb6' hat6';have own6:=Zaa own6';have hg6:=Zaa hg6';have hb6:=Zaa hb6';have hat6:=Zaa hat6';clear own6' hg6' hb6' hat6' c5;have c5:w6.cell? ⟨bf,5,none⟩=some (.slice V na cv):=(F4.out.box.grown hg6.out NB.out).cell 5;have f5:=(F4.out.box.grown hg6.out NB.out).frozen 5)))
       go_roundw
       case rel =>
        have FK:=F4.out.arc (by simp) own6.out hg6.out hat6.out
        exact⟨k+1,u',_,z',⟨ms',s1.arcs++[⟨(f:Int),(i:Int),k'⟩]⟩,fs',by go_num,by omega,Zaa FK.1,Zaa (hb6.out.grown (Zbi _ _ _ _) hb6.out.size (fun k hk=>by cases hk;exact F4.out.lo)),Zaa ⟨SP.out.1,HFO.out,by simp;omega⟩,FO2,Zaa (FK.2 _ _ _ _ IC4.out.1 IC4.out.2),Zaa (FK.2 _ _ _ _ IM4.out.1 IM4.out.2),Zaa (Nat.lt_of_lt_of_le FL.out SP.out.2.length_le)⟩
       case measure=>simp[intOf];omega
     ·simp only at hfe
      subst hfe
      have RN:=Zaa (NONE.out (by unfold Zbr;rw[HP.out];rfl))
      go_wp2_with ((with_reducible refine(ZdS HTr.out IMR.out (i:Int)).mono ?_);rw[HP.out];rintro e w2 ⟨D,q,qc,rfl,hi2,hb2,hfr2⟩;have B2:=Zaa (B1.out.trans (hb2.mono B1.out.size));clear hi2 hb2 hfr2)
      go_ret
      exact Zmu RN.out B2.out
    ·obtain rfl:k=l:=by omega
     have FA:=Zaa (show ZcN ⟨P,ts⟩ M m (f:Int) (Zb4 ts m) (some s)=some s1 by
      have:=FO.out
      rwa[List.take_of_length_le (by rw[ic.len];exact Nat.le_refl _)]at this)
     have NX:=Zaa (show goM ⟨P,ts⟩ M (M-(f+1)) (f+1) s1=R by
      rw[←HR.out]
      obtain⟨g,hg⟩:∃g,M-f=g+1:=⟨M-f-1,by have:=HS.out.sp.few;rw[HLL.out]at this;omega⟩
      rw[hg,goM,if_pos (by rw[HLL.out];exact hU2),FD.out,FA.out,show M-(f+1)=g by omega]
      rfl)
     have fM:f+1≤M:=by have:=HS.out.sp.few;rw[HLL.out]at this;omega
     clear ic im
     go_wp2
     go_roundw
     case rel=>exact⟨f+1,u1,v1,z1,s1,fs1,by go_num,FL.out,fM,F1,B1,⟨X1.out.sp,X1.out.fst,by omega⟩,NX⟩
     case measure=>simp[intOf];omega
  ·have FE:=Zaa (show R=some s by
    rw[←HR.out]
    cases M-f with
    | zero=>rfl
    | succ g=>rw[goM,if_neg hlt])
   obtain rfl:f=L:=by omega
   have c4:wr.cell? ⟨bf,4,none⟩=some (.slice U s.marks.length cu):=HF.out.box.cell 4
   rw[hL]at c4
   clear hL su hlt hfl hL3
   go_wp2
   go_ret
   rw[FE.out]
   exact⟨HB.out,rfl,_,_,_,fs,HF.out,⟨HS.out.sp,HS.out.fst,Nat.le_trans HS.out.arcs (by omega)⟩⟩
theorem Zfu.start (w1:World){B:Nat}(hB:B≤w1.heap.size)(P:Int)(A:Option Addr)(n c:Nat)(most:Int) :
  Zfu ((w1.alloc (.map #[] 0)).alloc (.cells #[.int .i64 P,.slice A n c,.int .i64 most,.map (some w1.heap.size),.slice none 0 0,.slice none 0 0,.slice none 0 0] 153)) B (w1.heap.size+1) w1.heap.size P A n c most (.slice none 0 0) (.slice none 0 0) (.slice none 0 0) [] [] [] [] where
 lo:=by omega
 lom:=hB
 box:=Box.newAt (by simp) _ _
 map:=(AtM.made w1).of_block (heap_alloc_old _ _ (by simp))
 marks:=Zad.nil
 arcs:=Zad.nil
 first:=Zad.nil
def ZoG (N:Zau)(most:Int)(r:PSp×Int)(w:World)(e:Ending)(w':World):Prop :=
 Below w.heap.size w w'∧((r.2≠0∧e=.returned (.tuple #[.pointer none,.int .i64 r.2]))∨(r.2=0∧∃(bf bm:Nat) (A:Option Addr) (n c:Nat) (u v z:Value) (fs:List Int),e=.returned (.tuple #[.pointer (some ⟨bf,0,none⟩),.int .i64 0])∧Zfu w' w.heap.size bf bm N.places A n c most u v z r.1.marks r.1.marks r.1.arcs fs∧ZoF N most.toNat r.1 fs 7200∧r.1.marks.length≤300))
set_option maxHeartbeats 2000000 in
theorem Zj7 {w:World}{P:Int}{A B:Option Addr}{n c m d:Nat}{ts:List Zak}{xs:List Int}(most:Int)(h:ZaP w A n c ts)(g:Zam w B m d xs) :
  Calls Tryz.prog 63 #[.agg #[.int .i64 P,.slice A n c],.slice B m d,.int .i64 most] w (ZoG ⟨P,ts⟩ most (Za2 ⟨P,ts⟩ xs most) w):=by
 have HB:=Zaa (Zab w)
 have H:=Zaa h
 have G:=Zaa g
 have gs:=g.small
 clear h g
 have hmm:=@run_makeMap Tryz.prog
 by_cases hm:1≤most∧most≤300
 ·obtain⟨hm1,hm2⟩:=hm
  obtain⟨M,rfl⟩:∃M:Nat,most=(M:Int):=⟨most.toNat,by omega⟩
  have MM:=Zaa (show(1:Int)≤(M:Int)∧(M:Int)≤300 from⟨hm1,hm2⟩)
  have hf1:¬(M:Int)<1:=by omega
  have hf2:¬(M:Int)>300:=by omega
  clear hm1 hm2
  go_enter Tryz.func63,Tryz.ntmps63
  cases hok:ZbI ⟨P,ts⟩ xs
  ·have FE:=Zaa (show Za2 ⟨P,ts⟩ xs (M:Int)=(PSp.nil,2) by rw[Za2,if_neg (by rw[hok];simp)])
   have FIN:=Zaa (show Zbq ⟨P,ts⟩ xs=([],2) by rw[Zbq,hok];rfl)
   clear hok hmm
   go_wp2_with ((with_reducible refine(Zfz (H.out.keep (HB.out _)) (G.out.keep (HB.out _))).mono ?_);rw[FIN.out];rintro e w1 ⟨C,l,lc,rfl,hi,hb1⟩;have B1:=Zaa ((HB.out (.cells #[.int .i64 P,.slice A n c] 24)).trans (hb1.mono (by simp)));clear hi hb1)
   exact bodyPost_ret (v:=.tuple #[.pointer none,.int .i64 2]) (by simp[results,Tryz.results63,go_sem]) rfl (by rw[FE.out];exact⟨B1.out,.inl ⟨by decide,rfl⟩⟩)
  ·have FT:=Zaa hok
   have FIN:=Zaa (show Zbq ⟨P,ts⟩ xs=(Zb4 ts xs,0) by rw[Zbq,hok];rfl)
   have HX:=Zaa (show xs.length≤16 by
    obtain⟨h1,h2,_⟩:=(ZaG _ _).1 hok
    have h3:=((Zar _).1 h1).2.1
    simp only at h2 h3
    omega)
   have hm16:m≤16:=by rw[←G.out.len];exact HX.out
   clear hok
   go_upto_region 6 with((with_reducible refine(Zfz (H.out.keep (HB.out _)) (G.out.keep (HB.out _))).mono ?_);rw[FIN.out];rintro e w1 ⟨C,l,lc,rfl,hi,hb1⟩;have B1:=Zaa ((HB.out (.cells #[.int .i64 P,.slice A n c] 24)).trans (hb1.mono (by simp)));have c0:w1.cell? ⟨w.heap.size,0,none⟩=some (.int .i64 P):=(hb1.cell (by simp)).trans (by simp);have c1:w1.cell? ⟨w.heap.size,1,none⟩=some (.slice A n c):=(hb1.cell (by simp)).trans (by simp);clear hi hb1)
   go_upto_region 7 with fail
   clear hmm c0 c1
   have F0:=Zaa (Zfu.start w1 B1.out.size P A n c (M:Int))
   have B2:=Zaa ((B1.out.alloc B1.out.size (.map #[] 0)).alloc (Nat.le_trans B1.out.size (by simp)) (.cells #[.int .i64 P,.slice A n c,.int .i64 (M:Int),.map (some w1.heap.size),.slice none 0 0,.slice none 0 0,.slice none 0 0] 153))
   generalize (w1.alloc (.map #[] 0)).alloc (.cells #[.int .i64 P,.slice A n c,.int .i64 (M:Int),.map (some w1.heap.size),.slice none 0 0,.slice none 0 0,.slice none 0 0] 153)=w2 at *
   generalize w1.heap.size+1=bf at *
   generalize w1.heap.size=bm at *
   have G2:=Zaa (G.out.keep B2.out)
   have FP:=Zaa (show Zd9 M [] [] xs (-1)=([xs],[-1],0,true) by
    have hM0:¬(0=M):=by have:=MM.out;omega
    simp[Zd9,Zcb,hM0])
   have GE:=Zaa (show Za2 ⟨P,ts⟩ xs (M:Int)=(match goM ⟨P,ts⟩ M M 0 ⟨[xs],[]⟩with|some s=>(s,0)|none=>(PSp.nil,4)) by
    rw[Za2,if_pos ⟨MM.out.1,MM.out.2,FT.out⟩];rfl)
   have EX:=Zaa (fun(w':World) (u v z:Value) (h1:Zfu w' w.heap.size bf bm P A n c (M:Int) u v z [xs] [xs] [] [-1]) (h2:Below w.heap.size w w')=>Zi7 (s:=⟨[xs],[]⟩) H.out (by have:=MM.out;omega) h1 h2 ⟨ZeC.start FT.out (by have:=MM.out;omega),Zlm.start xs,Nat.le_refl _⟩)
   have RX:=Zaa ((ZaG _ _).1 FT.out).2.2
   obtain⟨r,hr⟩:∃r,goM ⟨P,ts⟩ M M 0 ⟨[xs],[]⟩=r:=⟨_,rfl⟩
   rw[hr]at GE
   simp only[hr]at EX
   clear hr
   cases r with
   | none =>
    go_wp2_with (first
     |(go_at_call 73;(with_reducible refine(ZaA G2.out (by omega)).mono ?_);rintro e w3 ⟨vv,rfl,own,hb3⟩;obtain⟨X,cx,rfl,ix⟩:=own.sl (by omega);have CALL:=Zaa (ZfX (-1) (F0.out.keep hb3) (B2.out.trans (hb3.mono B2.out.size)) ix (by omega) RX.out (F0.out.apart (fun ad had=>by subst had;exact(own.lt ad.block rfl).1)) (by simp) (by simp));clear own ix hb3)
     |(go_at_call 111;go_loud ((with_reducible refine CALL.out.mono ?_);rw[FP.out];rintro e w4 ⟨u',z',rfl,F4,B4,S4,K4⟩;have CALX:=Zaa (EX.out w4 _ _ _ F4 B4);clear F4 B4 S4 K4))
     |(go_at_call 112;go_loud ((with_reducible refine CALX.out.mono ?_);rintro e w5 ⟨B5,rfl⟩;have BZ:=Zaa B5;clear B5)))
    exact bodyPost_ret (v:=.tuple #[.pointer none,.int .i64 4]) (by simp[results,Tryz.results63,go_sem]) rfl (by rw[GE.out];exact⟨BZ.out,.inl ⟨by decide,rfl⟩⟩)
   | some s =>
    go_wp2_with (first
     |(go_at_call 73;(with_reducible refine(ZaA G2.out (by omega)).mono ?_);rintro e w3 ⟨vv,rfl,own,hb3⟩;obtain⟨X,cx,rfl,ix⟩:=own.sl (by omega);have CALL:=Zaa (ZfX (-1) (F0.out.keep hb3) (B2.out.trans (hb3.mono B2.out.size)) ix (by omega) RX.out (F0.out.apart (fun ad had=>by subst had;exact(own.lt ad.block rfl).1)) (by simp) (by simp));clear own ix hb3)
     |(go_at_call 111;go_loud ((with_reducible refine CALL.out.mono ?_);rw[FP.out];rintro e w4 ⟨u',z',rfl,F4,B4,S4,K4⟩;have CALX:=Zaa (EX.out w4 _ _ _ F4 B4);clear F4 B4 S4 K4))
     |(go_at_call 112;go_loud ((with_reducible refine CALX.out.mono ?_);rintro e w5 ⟨B5,rfl,ans⟩;have BZ:=Zaa B5;have AN:=Zaa ans;clear B5 ans)))
    obtain⟨u,v,z,fs,hF,hX⟩:=AN.out
    exact bodyPost_ret (v:=.tuple #[.pointer (some ⟨bf,0,none⟩),.int .i64 0]) (by simp[results,Tryz.results63,go_sem]) rfl (by rw[GE.out];exact⟨BZ.out,.inr ⟨rfl,bf,bm,A,n,c,u,v,z,fs,rfl,hF,hX,by have:=hX.sp.few;have:=MM.out;simp only;omega⟩⟩)
 ·have FE:=Zaa (show Za2 ⟨P,ts⟩ xs most=(PSp.nil,2) by rw[Za2,if_neg (fun h=>hm ⟨h.1,h.2.1⟩)])
  have BX:=Zaa (HB.out (.cells #[.int .i64 P,.slice A n c] 24))
  clear hmm
  go_enter Tryz.func63,Tryz.ntmps63
  by_cases h1:most<1
  ·go_wp2
   exact bodyPost_ret (v:=.tuple #[.pointer none,.int .i64 2]) (by simp[results,Tryz.results63,go_sem]) rfl (by rw[FE.out];exact⟨BX.out,.inl ⟨by decide,rfl⟩⟩)
  ·have h2:most>300:=by omega
   clear hm
   go_wp2
   exact bodyPost_ret (v:=.tuple #[.pointer none,.int .i64 2]) (by simp[results,Tryz.results63,go_sem]) rfl (by rw[FE.out];exact⟨BX.out,.inl ⟨by decide,rfl⟩⟩)
def ZgY (r:PSp×Int)(w:World)(e:Ending)(w':World):Prop :=
 ∃U cu V cv,e=.returned (.tuple #[.agg #[.slice U r.1.marks.length cu,.slice V r.1.arcs.length cv],.int .i64 r.2])∧ZaS w' U r.1.marks.length cu r.1.marks∧Zh4 w' V r.1.arcs.length cv r.1.arcs∧Below w.heap.size w w'
theorem Zfu.space {w w':World}{B bf bm b ty:Nat}{P:Int}{A:Option Addr}{n c:Nat}{most:Int}{u v z:Value}{mm ms:List (List Int)}{ars:List ZaD}{fs:List Int}{cs:Array Value}(h:Zfu w B bf bm P A n c most u v z mm ms ars fs)(hx:Box w b ty cs)(hcs:∀(j:Nat) (x:Int),cs[j]?≠some (.int .i64 x))(hb:b<B)(hw:Zan b w w')(hos:w'.os=w.os)(htape:w'.tape=w.tape)(hout:w'.output=w.output)(hl:ms.length≤7200)(ha:ars.length≤7200) :
  ∃U cu V cv,u=.slice U ms.length cu∧v=.slice V ars.length cv∧ZaS w' U ms.length cu ms∧Zh4 w' V ars.length cv ars:=by
 have hg:w.grownBy w' (some b):=⟨hos,htape,hout,Nat.le_of_eq hw.1.symm,fun k _ hk=>hw.2 k (fun e=>hk (by rw[e]))⟩
 have o1:Zad ZaL 1 w' B 28 u ms.length ms:=h.marks.turn hg (.inr (fun e=>by have:=(h.marks.lt b e).1;omega)) (fun vs x hx'=>by
  obtain⟨A,n,c,e,i,l,_⟩:=hx'
  exact⟨A,n,c,e,i.beside hx hcs hw,by omega⟩)
 have o2:Zad Zh3 3 w' B 156 v ars.length ars:=h.arcs.turn hg (.inr (fun e=>by have:=(h.arcs.lt b e).1;omega)) (fun vs x hx'=>hx')
 obtain⟨U,cu,e1,s1⟩:=o1.sl (by omega)
 obtain⟨V,cv,e2,s2⟩:=o2.sl (by omega)
 exact⟨U,cu,V,cv,e1,e2,s1,s2⟩
theorem Znf {w w':World}{k:Int}(hb:Below w.heap.size w w'):ZgY (PSp.nil,k) w (.returned (.tuple #[.agg #[.slice none 0 0,.slice none 0 0],.int .i64 k])) w' :=
 ⟨none,0,none,0,rfl,Sl.nil0,Sl.nil0,hb⟩
theorem ZfY {N:Zau}{m:List Int}{most:Int}(h:(Za2 N m most).2≠0):(Za2 N m most).1=PSp.nil:=by
 unfold Za2 at h ⊢
 split
 ·rename_i h1
  rw[if_pos h1]at h
  cases hg:goM N most.toNat most.toNat 0 ⟨[m],[]⟩ with
  | none=>rfl
  | some s=>rw[hg]at h;simp at h
 ·rfl
theorem Zb9 {B b:Nat}{w0 w:World}(h:Below B w0 w)(hB:B≤w0.heap.size)(hb:B≤b)(u v:Value):Below B w0 ((w.setCell ⟨b,0,none⟩ u).setCell ⟨b,1,none⟩ v) :=
 (h.grown (Zbi w b 0 u) (Nat.le_trans hB h.size) (fun k hk=>by cases hk;exact hb)).grown (Zbi _ b 1 v) (by simpa [World.setCell] using Nat.le_trans hB h.size) (fun k hk=>by cases hk;exact hb)
set_option maxHeartbeats 2000000 in
theorem Zhk {w:World}{P:Int}{A B:Option Addr}{n c m d:Nat}{ts:List Zak}{xs:List Int}(most:Int)(h:ZaP w A n c ts)(g:Zam w B m d xs) :
  Calls Tryz.prog 25 #[.agg #[.int .i64 P,.slice A n c],.slice B m d,.int .i64 most] w (ZgY (Za2 ⟨P,ts⟩ xs most) w):=by
 generalize hw:((w.alloc (.cells #[.int .i64 P,.slice A n c] 24)).alloc (.cells #[.slice none 0 0,.slice none 0 0] 83))=w0
 have HB:=Zaa (show Below w.heap.size w w0 by rw[←hw];exact((Below.refl _ _).alloc (Nat.le_refl _) _).alloc (by simp) _)
 have X0:=Zaa (show Box w0 w.heap.size 24 #[.int .i64 P,.slice A n c] by rw[←hw];exact(Box.new _ _ _).old _)
 have X1:=Zaa (show Box w0 (w.heap.size+1) 83 #[.slice none 0 0,.slice none 0 0] by rw[←hw];exact Box.newAt (by simp) _ _)
 have CS:=Zaa (Zj7 (P:=P) most (h.keep HB.out) (g.keep HB.out))
 have ER:=Zaa (ZfY (N:=⟨P,ts⟩) (m:=xs) (most:=most))
 clear h g
 obtain⟨r,hr⟩:∃r,Za2 ⟨P,ts⟩ xs most=r:=⟨_,rfl⟩
 rw[hr]at CS ER
 rw[hr]
 clear hr
 obtain⟨s,k⟩:=r
 go_enter Tryz.func25,Tryz.ntmps25
 go_upto_region 1 with fail
 clear hw
 obtain⟨a0,a1⟩:=X0.out.two
 obtain⟨z0,z1⟩:=X1.out.two
 have f0:=X1.out.frozen 0
 have f1:=X1.out.frozen 1
 by_cases hk:k=0
 ·subst hk
  go_upto_region 2 with(go_at_call 63;go_loud ((with_reducible refine CS.out.mono ?_);rintro e w1 ⟨B1,⟨hne,_⟩|⟨_,bf,bm,A1,n1,c1,u,v,z,fs,rfl,hF,hX,hms'⟩⟩;(exact absurd rfl hne);have FF:=Zaa hF;have XX:=Zaa hX;have BB:=Zaa B1;have HMS:=Zaa hms';clear hF hX B1 hms'))
  have Y1:=Zaa (X1.out.keep BB.out)
  have BZ:=Zaa (HB.out.trans (BB.out.mono HB.out.size))
  have Hlt:=Zaa X1.out.lt
  clear X0 X1 HB CS ER a0 a1 z0 z1 f0 f1 BB
  have hms:s.marks.length≤300:=HMS.out
  obtain⟨U,cu,V,cv,eu,ev,hL,hA⟩:=FF.out.space Y1.out ZcX Hlt.out (Zan.set2 w1 (w.heap.size+1) 0 1 u v) rfl rfl rfl (by omega) XX.out.arcs
  subst eu ev
  have LL:=Zaa hL
  have LA:=Zaa hA
  clear hL hA
  have c4:w1.cell? ⟨bf,4,none⟩=some (.slice U s.marks.length cu):=FF.out.box.cell 4
  have c5:w1.cell? ⟨bf,5,none⟩=some (.slice V s.arcs.length cv):=FF.out.box.cell 5
  obtain⟨z0,z1⟩:=Y1.out.two
  have f0:=Y1.out.frozen 0
  have f1:=Y1.out.frozen 1
  go_wp2
  obtain⟨r0,r1⟩:=(Y1.out.set2 (.slice U s.marks.length cu) (.slice V s.arcs.length cv)).two
  have BW:=Zb9 BZ.out (Nat.le_refl _) (show w.heap.size≤w.heap.size+1 by omega) (.slice U s.marks.length cu) (.slice V s.arcs.length cv)
  exact bodyPost_ret (v:=.tuple #[.agg #[.slice U s.marks.length cu,.slice V s.arcs.length cv],.int .i64 0]) (by simp[results,Tryz.results25,go_sem,r0,r1]) rfl ⟨U,cu,V,cv,rfl,LL.out,LA.out,BW⟩
 ·have ES:=Zaa (ER.out hk)
  simp only at ES
  go_upto_region 2 with(go_at_call 63;go_loud ((with_reducible refine CS.out.mono ?_);rintro e w1 ⟨B1,⟨_,rfl⟩|⟨he,_⟩⟩;rotate_left;(exact absurd he hk);have BB:=Zaa B1;clear B1))
  have Y1:=Zaa (X1.out.keep BB.out)
  have BZ:=Zaa (HB.out.trans (BB.out.mono HB.out.size))
  clear X0 X1 HB CS ER a0 a1 z0 z1 f0 f1 BB
  obtain⟨z0,z1⟩:=Y1.out.two
  have f0:=Y1.out.frozen 0
  have f1:=Y1.out.frozen 1
  go_wp2
  obtain⟨r0,r1⟩:=(Y1.out.set2 (.slice none 0 0) (.slice none 0 0)).two
  have BW:=Zb9 BZ.out (Nat.le_refl _) (show w.heap.size≤w.heap.size+1 by omega) (.slice none 0 0) (.slice none 0 0)
  obtain rfl:s=PSp.nil:=ES.out
  exact bodyPost_ret (v:=.tuple #[.agg #[.slice none 0 0,.slice none 0 0],.int .i64 k]) (by simp[results,Tryz.results25,go_sem,r0,r1]) rfl (Znf BW)
end Go.Proofs.YtfmnagcglhlicaaGreat
