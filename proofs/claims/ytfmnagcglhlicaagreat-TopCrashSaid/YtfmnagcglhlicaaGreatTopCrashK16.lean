/- A mark as a text: the contract of reach.name. Conditions: the mark reads as a list of at most 16 numbers of tokens. | The map from marks' texts to numbers. Conditions: the marks are of at mo -/
import Derived.Test.YtfmnagcglhlicaaGreatTopCrashK15
import Derived.OwnWalk
import Derived.Maps.Views
import Derived.Maps.Keyed
import Derived.StringKeys
set_option maxRecDepth 100000
set_option maxHeartbeats 4000000
namespace Go.Proofs.YtfmnagcglhlicaaGreat
open Go.RowKit
def mB (xs:LIn):List Nat:=xs.flatMap fun x=>[x.toNat % 256,x.toNat / 256 % 256,x.toNat / 65536 % 256]
theorem JM (xs:LIn)(x:Int):mB (xs++[x])=mB xs++[x.toNat % 256,x.toNat / 256 % 256,x.toNat / 65536 % 256]:=by simp[mB]
theorem mL (xs:LIn):(mB xs).length=3*xs.length:=by
 induction xs with
 | nil=>rfl
 | cons x l ih =>
  have:mB (x::l)=[x.toNat % 256,x.toNat / 256 % 256,x.toNat / 65536 % 256]++mB l:=rfl;rw[this,List.length_append,ih];simp only[List.length_cons,List.length_nil];omega
theorem Iq (xs:LIn):∀b∈mB xs,b<256:=by
 intro b hb;unfold mB at hb;obtain⟨x,_,hx⟩:=List.mem_flatMap.1 hb;simp at hx;omega
theorem Da:∀{xs ys:LIn} (_:aO xs=true) (_:aO ys=true) (_:mB xs=mB ys),xs=ys
 | [],[],_,_,_=>rfl
 | [],y::l,_,_,h=>by have:=congrArg List.length h;rw[mL,mL]at this;simp at this
 | x::l,[],_,_,h=>by have:=congrArg List.length h;rw[mL,mL]at this;simp at this
 | x::l,y::r,hx,hy,h=>by
  have e1:mB (x::l)=x.toNat % 256::(x.toNat / 256 % 256)::(x.toNat / 65536 % 256)::mB l:=rfl;have e2:mB (y::r)=y.toNat % 256::(y.toNat / 256 % 256)::(y.toNat / 65536 % 256)::mB r:=rfl;rw[e1,e2]at h;injection h with h1 h;injection h with h2 h;injection h with h3 h;rw[bZ]at hx hy;have hx0:=hx x (by simp);have hy0:=hy y (by simp);rw[Da ((bZ l).2 fun z hz=>hx z (by simp[hz])) ((bZ r).2 fun z hz=>hy z (by simp[hz])) h,show x=y from by omega]
theorem Rm {a b:List Nat}(ha:∀x∈a,x<256)(hb:∀x∈b,x<256)(h:Ue a=Ue b):a=b:=by
 have h1:(Ue a).data.toList=(Ue b).data.toList:=by rw[h]
 unfold Ue at h1;rw[strOfNums_data,strOfNums_data,List.map_map,List.map_map]at h1;have h2:=congrArg (List.map UInt8.toNat) h1;rw[List.map_map,List.map_map]at h2;have key:∀l:List Nat,(∀x∈l,x<256)→l.map (UInt8.toNat ∘ ((fun n:Int=>UInt8.ofNat n.toNat) ∘ fun b:Nat=>(b:Int)))=l:=fun l hl=>by
  rw[List.map_congr_left (g:=id) (fun x hx=>by
   simp only[Function.comp,Int.toNat_natCast,UInt8.toNat_ofNat',id];have:=hl x hx;omega)]
  simp
 rwa[key a ha,key b hb]at h2
def zA (xs:LIn):ByteArray:=Ue (mB xs)
theorem N5 {xs ys:LIn}(hx:aO xs=true)(hy:aO ys=true)(h:zA xs=zA ys):xs=ys:=Da hx hy (Rm (Iq _) (Iq _) h)
theorem infoByte:(Tryz.prog.info? 5).map (fun i=>(i.zero,i.size,i.bytes))=some (some (.int .u8 0),1,1):=by kernel_rfl
theorem xZ {w:World}{A:OAd}{n c:Nat}{xs:LIn}(h:aJ w A n c xs)(hn:n≤16)(hr:aO xs=true) :
  Calls Tryz.prog 162 #[.slice A n c] w fun e w'=>e=.returned (.string (zA xs))∧Below w.heap.size w w':=by
 have H:=aA h;have HR:=aA ((bZ xs).1 hr);clear h hr;obtain⟨i0,hi,hz0,hz1,hz2⟩:=info_parts infoByte;have hsz:i0.bytes*(3*n)≤281474976710656:=by rw[hz2];omega
 have hmx:3*n≤maxLen:=by simp only[maxLen];omega
 have hc3:(3:Int)*(n:Int)=((3*n:Nat):Int):=by omega
 have HC:=aA hc3;clear hc3;go_enter Tryz.func162,Tryz.ntmps162
 go_upto_region 2 with(at_make;refine wpList_make_own _ rfl _ _ 107 rfl w.heap.size 5 i0 (.int .u8 0) 1 Tryz.underlying107 hi hz0 hz1 .i64 .i64 _ (3*n) rfl rfl (by first|exact HC.o|(simp;done)|omega) hsz hmx (Nat.le_refl _) ?_;intro w1 own1 hg1;have O1:=aA (show tK w1 w.heap.size (.slice (some ⟨w.heap.size,0,none⟩) 0 (3*n)) 0 []from⟨[],own1,a6.nil,rfl⟩);have B1:=aA ((Below.refl w.heap.size w).grown hg1 (Nat.le_refl _) (fun k hk=>by cases hk));clear own1 hg1)
 clear hi hz0 hz1 hz2 hsz hmx;go_wp2
 go_loopw [3,12] (fun u v wr=>∃k:Nat,k≤n∧v=.int .i64 k∧Hid (tK wr w.heap.size u (3*k) (mB (xs.take k)))∧Hid (Below w.heap.size w wr)) (fun _ v _=>n-(intOf v).toNat)
 case atStart=>exact⟨0,Nat.zero_le _,rfl,O1,B1⟩
 case round =>
  obtain⟨k,hk,rfl,OW,BR⟩:=hrel;by_cases hlt:k<n
  ·have hki:(k:Int)<(n:Int):=by omega
   obtain⟨b,off,x,rfl,hb,hx,hc⟩:=aJ.get (aJ.keep H.o BR.o) hlt;have hxr:=HR.o x (List.mem_of_getElem? hx.o);have NX:=aA (show mB (xs.take (k+1))=mB (xs.take k)++[x.toNat % 256,x.toNat / 256 % 256,x.toNat / 65536 % 256] by rw[bL hx.o,JM]);obtain⟨y,rfl⟩:∃y:Nat,x=(y:Int):=⟨x.toNat,by omega⟩;have hy:y≤1000000:=by omega
   simp only[Int.toNat_natCast]at NX;have LS:=aA (show ∀b∈[y % 256,y / 256 % 256,y / 65536 % 256],b<256 from fun b hb=>by simp at hb;omega);clear hxr;go_wp2_with (at_builtin;refine mG rfl _ _ rfl (m:=3) (ys:=[y % 256,y / 256 % 256,y / 65536 % 256]) rfl rfl (by first|rfl|simp) (by first|rfl|(simp;done)|(simp;omega)) rfl LS.o OW.o BR.o BR.o.size (by omega) ?_;intro v2 w2 own2 hg2 hb2;have OX:=aA own2;have BZ:=aA hb2;clear own2 hg2 hb2)
   go_roundw
   case rel=>exact⟨k+1,by omega,by go_num,aA (by rw[NX.o];exact OX.o),BZ⟩
   case measure=>simp[intOf];omega
  ·obtain rfl:k=n:=by omega
   have TK:=aA (show xs.take k=xs from List.take_of_length_le (by rw[H.o.len];exact Nat.le_refl _));rw[TK.o]at OW;obtain⟨A2,c2,hv,s2⟩:=OW.o.sl (by omega);subst hv;have hcv:=Bts.str s2;clear s2;go_wp2
   go_ret
   exact⟨rfl,BR.o⟩
open Go.Maps
theorem JO {ms:LLi}{x y:LIn}:eH (ms++[x]) y=match eH ms y with
  | some k=>some k
  | none=>if y=x then some ms.length else none:=by
 unfold eH;rw[List.findIdx?_append];cases h:ms.findIdx? fun z=>y==z with
 | some k=>simp
 | none =>
  by_cases e:y=x
  ·subst e;simp
  ·simp[e]
def Rn (x:LIn):Lit:=.string (zA x).data.toList
theorem Ro {x y:LIn}(hx:aO x=true)(hy:aO y=true)(h:Rn x=Rn y):x=y:=by
 unfold Rn at h;injection h with h;exact N5 hx hy (Go.WideShapes.bytes_inj h)
def AtM (w:World)(b:Nat)(ms:LLi):Prop :=
 ∃D:DataW Unit,w.ownsMap Tryz.prog 9 (plainElem Tryz.prog 3) b ms.length D∧∀x,aO x=true→x.length≤16→match eH ms x with
  | some k=>D.atKey (Rn x) (.lit (.int .i64 0))=.lit (.int .i64 (k:Int))∧Maps.has D (Rn x)=true
  | none=>Maps.has D (Rn x)=false
theorem Db:Keyed Tryz.prog 9:=string_keyed Tryz.underlying9
theorem Rq (w:World):(zeroValue 3).run Tryz.prog w=.ok (.int .i64 0) w:=by kernel_rfl
theorem AtM.made (w:World):AtM (w.alloc (.map #[] 0)) w.heap.size []:=⟨.map [],World.ownsMap_made _ _ _ _,fun _ _ _=>rfl⟩
theorem AtM.of_block {w w':World}{b:Nat}{ms:LLi}(h:AtM w b ms)(hb:w'.heap[b]?=w.heap[b]?):AtM w' b ms:=by
 obtain⟨D,⟨es,clock,h1,h2,h3,h4⟩,h5⟩:=h;exact⟨D,⟨es,clock,hb.trans h1,h2,h3,h4⟩,h5⟩
theorem AtM.lt {w:World}{b:Nat}{ms:LLi}(h:AtM w b ms):b<w.heap.size:=by
 obtain⟨D,h1,_⟩:=h;exact h1.lt
theorem AtM.keep {w w':World}{b:Nat}{ms:LLi}(h:AtM w b ms)(hb:Below w.heap.size w w'):AtM w' b ms:=h.of_block (hb.block b h.lt)
theorem JP (x:LIn):(zA x).size=3*x.length:=by
 unfold zA Ue;rw[strOfNums_size,List.length_map,mL]
theorem Ir {x:LIn}(hx:x.length≤16):keyOf Tryz.prog 9 (.string (zA x))=some (Rn x) :=
 Go.WideMaps.keyOf_string_mk Tryz.underlying9 (by rw[JP];simp only[maxLen];omega)
theorem AtM.look {w:World}{b:Nat}{ms:LLi}(h:AtM w b ms){x:LIn}(hx:aO x=true)(hl:x.length≤16) :
  ∃v:Int,(Instr.lookup 151 (.map (some b)) (.string (zA x)) true).run Tryz.prog w=.ok (.tuple #[.int .i64 v,.bool (eH ms x).isSome]) w∧∀k,eH ms x=some k→v=(k:Int):=by
 obtain⟨D,h1,h2⟩:=h;obtain⟨u,ps,iW,hv⟩:=h1.look_ok Db Tryz.underlying151 (Rq w) (plainElem_int Tryz.underlying3 (a:=0) (by decide)) (Ir hl);obtain⟨c,rfl,hc,_⟩:=plainElem_int_inv Tryz.underlying3 hv;have h3:=h2 x hx hl;cases hf:eH ms x with
 | none =>
  rw[hf]at h3;rw[h3]at iW;exact⟨c,iW,fun k hk=>by cases hk⟩
 | some k =>
  rw[hf]at h3;rw[h3.2]at iW;refine⟨c,iW,fun k' hk'=>?_⟩;injection hk' with hk';subst hk';have h4:=congrArg Prod.fst hc;simp only at h4;rw[h3.1]at h4;injection h4 with h4;injection h4 with _ h4;exact h4.symm
theorem AtM.put {w:World}{b:Nat}{ms:LLi}(h:AtM w b ms){x:LIn}(hx:aO x=true)(hl:x.length≤16)(hn:eH ms x=none)(hm:ms.length≤1000) :
  ∃w',(Instr.mapUpdate 151 (.map (some b)) (.string (zA x)) (.int .i64 (ms.length:Int))).run Tryz.prog w=.ok () w'∧AtM w' b (ms++[x])∧w.grownBy w' (some b):=by
 obtain⟨D,h1,h2⟩:=h;obtain⟨w',r1,r2,r3⟩:=h1.update Db Tryz.underlying151 (by rw[maxLen];omega) (Ir hl) (plainElem_int Tryz.underlying3 (a:=(ms.length:Int)) (WalkArith.wf_i64 (by omega)));refine⟨w',r1,⟨_,by rw[List.length_append];exact r2,fun y hy hly=>?_⟩,r3⟩;rw[JO];have h3:=h2 y hy hly;have hD:=(h1.tidy Db).isMap;by_cases e:y=x
 ·subst e;rw[hn];rw[if_pos rfl];exact⟨Maps.atKey_put_same hD (Db.key (Ir hl)) _ _,Maps.has_put_same hD (Db.key (Ir hl)) _⟩
 ·have hne:Rn y≠Rn x:=fun e2=>e (Ro hy hx e2)
  cases hf:eH ms y with
  | some k =>
   rw[hf]at h3;exact⟨by rw[Maps.atKey_put_other hne];exact h3.1,by rw[Maps.has_put_other hne];exact h3.2⟩
  | none =>
   rw[hf]at h3;rw[if_neg e];show Maps.has _ _=false
   rw[Maps.has_put_other hne];exact h3
theorem cU {w:World}{B e s n b ty:Nat}{v:Value}{c:List Value}{cs:Array Value}(h:w.ownsRow B e s v n c)(hx:Box w b ty cs)(hne:e≠ty):v.ownBlock≠some b:=by
 intro e;rcases h.2 with⟨rfl,_⟩|⟨g,cap,cur,rfl,_,hh,_⟩
 ·cases e
 ·simp only[Value.ownBlock,Option.some.injEq]at e;subst e;unfold Box at hx;rw[hx]at hh;injection hh with hh;injection hh with _ hh;exact hne hh.symm
theorem AtM.obj {w:World}{b:Nat}{ms:LLi}(h:AtM w b ms):∃es c,w.heap[b]?=some (.map es c):=by
 obtain⟨D,⟨es,clock,h1,_⟩,_⟩:=h;exact⟨es,clock,h1⟩
theorem kZ {w:World}{B e s n b:Nat}{v:Value}{c:List Value}{ms:LLi}(h:w.ownsRow B e s v n c)(hx:AtM w b ms):v.ownBlock≠some b:=by
 intro e;obtain⟨es,cl,hm⟩:=hx.obj;rcases h.2 with⟨rfl,_⟩|⟨g,cap,cur,rfl,_,hh,_⟩
 ·cases e
 ·simp only[Value.ownBlock,Option.some.injEq]at e;subst e;rw[hm]at hh;injection hh with hh;cases hh
theorem qI {w:World}{b b' ty:Nat}{cs:Array Value}{ms:LLi}(hx:Box w b ty cs)(h:AtM w b' ms):b≠b':=by
 intro e;subst e;obtain⟨es,cl,hm⟩:=h.obj;unfold Box at hx;rw[hm]at hx;injection hx with hx;cases hx
def uT (bf:Nat)(u v z:Value)(A:OAd)(n:Nat):Prop:=∀b off,A=some ⟨b,off,none⟩→0<n→b≠bf∧u.ownBlock≠some b∧v.ownBlock≠some b∧z.ownBlock≠some b
theorem aJ.same {w w':World}{A:OAd}{n c:Nat}{xs:LIn}(h:aJ w A n c xs)(hs:w.heap.size≤w'.heap.size)(hb:∀b off,A=some ⟨b,off,none⟩→0<n→b<w.heap.size→w'.heap[b]?=w.heap[b]?):aJ w' A n c xs :=
 ⟨h.len,h.le,h.cap,h.small,h.nul,fun hn=>by
  obtain⟨b,off,e,hlt,hc⟩:=h.cells hn;refine⟨b,off,e,Nat.lt_of_lt_of_le hlt hs,fun i x hx=>?_⟩;obtain⟨vs,h1,h2⟩:=hc i x hx;exact⟨vs,fun j hj=>(World.cell?_of_block (hb b off e hn hlt)).trans (h1 j hj),h2⟩⟩
def mM (bf:Nat)(w:World)(u v z:Value)(w':World)(u' v' z':Value):Prop:=∀(A:OAd) (n c:Nat) (xs:LIn),aJ w A n c xs→uT bf u v z A n→aJ w' A n c xs∧uT bf u' v' z' A n
theorem mM.trans {bf:Nat}{w w1 w2:World}{u v z u1 v1 z1 u2 v2 z2:Value}(h:mM bf w u v z w1 u1 v1 z1)(g:mM bf w1 u1 v1 z1 w2 u2 v2 z2):mM bf w u v z w2 u2 v2 z2:=fun A n c xs a b=>by
 obtain⟨a1,b1⟩:=h A n c xs a b;exact g A n c xs a1 b1
theorem mM.of_below {bf:Nat}{w w':World}{u v z:Value}(hb:Below w.heap.size w w'):mM bf w u v z w' u v z:=fun _ _ _ _ a b=>⟨a.keep hb,b⟩
def sY (bf:Nat)(u v z:Value):World→(Nat→Value)→LIn→Prop:=fun w vs xs=>∃A n c,vs 0=.slice A n c∧aJ w A n c xs∧n≤16∧uT bf u v z A n
theorem mM.mark {bf:Nat}{w w':World}{u v z u' v' z':Value}(h:mM bf w u v z w' u' v' z'){vs:Nat→Value}{xs:LIn}(m:sY bf u v z w vs xs):sY bf u' v' z' w' vs xs:=by
 obtain⟨A,n,c,e,i,l,p⟩:=m;obtain⟨i',p'⟩:=h A n c xs i p;exact⟨A,n,c,e,i',l,p'⟩
theorem sY.kept (bf:Nat)(u v z:Value):t8 (sY bf u v z):=fun _ _ _ _ hb h=>(mM.of_below hb).mark h
theorem a6.turn {α:Type}{R R':World→(Nat→Value)→α→Prop}{sz:Nat}{w w':World}{cs:List Value}{xs:List α}(h:a6 R sz w cs xs)(hR:∀vs x,R w vs x→R' w' vs x):a6 R' sz w' cs xs :=
 ⟨h.1,fun i x hx=>by obtain⟨vs,a,b⟩:=h.2 i x hx;exact⟨vs,a,hR _ _ b⟩⟩
theorem aC.turn {α:Type}{R R':World→(Nat→Value)→α→Prop}{sz:Nat}{w w':World}{B e:Nat}{v:Value}{n:Nat}{xs:List α}(h:aC R sz w B e v n xs){row:Option Nat}(hg:w.grownBy w' row)(hne:v.ownBlock=none∨v.ownBlock≠row)(hR:∀vs x,R w vs x→R' w' vs x):aC R' sz w' B e v n xs:=by
 obtain⟨cells,h1,h2,h3⟩:=h;exact⟨cells,h1.kept hg hne,h2.turn hR,h3⟩
theorem aC.reread {α:Type}{R R':World→(Nat→Value)→α→Prop}{sz:Nat}{w:World}{B e:Nat}{v:Value}{n:Nat}{xs:List α}(h:aC R sz w B e v n xs)(hR:∀vs x,R w vs x→R' w vs x):aC R' sz w B e v n xs:=by
 obtain⟨cells,h1,h2,h3⟩:=h;exact⟨cells,h1,h2.turn hR,h3⟩
theorem cE (w:World)(b i:Nat)(v:Value):w.grownBy (w.setCell ⟨b,i,none⟩ v) (some b) :=
 ⟨rfl,rfl,rfl,by simp[World.setCell],fun k _ hk=>heap_setCell_other _ _ _ _ (fun e=>hk (by rw[e]))⟩
structure oH (w:World)(B bf bm:Nat)(P:Int)(A:OAd)(n c:Nat)(most:Int)(u v z:Value)(mm ms:LLi)(ars:List bO)(fs:LIn):Prop where
 lo:B≤bf
 lom:B≤bm
 box:Box w bf 153 #[.int .i64 P,.slice A n c,.int .i64 most,.map (some bm),u,v,z]
 map:AtM w bm mm
 marks:aC (sY bf u v z) 1 w B 28 u ms.length ms
 arcs:aC tM 3 w B 156 v ars.length ars
 first:aD w B z fs.length fs
section
variable {w w':World} {B bf bm:Nat} {P:Int} {A:OAd} {n c:Nat} {most:Int} {u v z:Value} {mm ms:LLi} {ars:List bO} {fs:LIn}
theorem oH.keep (h:oH w B bf bm P A n c most u v z mm ms ars fs)(hb:Below w.heap.size w w'):oH w' B bf bm P A n c most u v z mm ms ars fs :=
 ⟨h.lo,h.lom,h.box.keep hb,h.map.keep hb,h.marks.keep (sY.kept _ _ _ _) hb,h.arcs.keep tM.kept hb,h.first.keep iG.kept hb⟩
theorem oH.entry (h:oH w B bf bm P A n c most u v z mm ms ars fs){mm':LLi}(hm:AtM w' bm mm')(hg:w.grownBy w' (some bm)):oH w' B bf bm P A n c most u v z mm' ms ars fs∧∀(A:OAd) (n c:Nat) (xs:LIn),aJ w A n c xs→aJ w' A n c xs:=by
 have nm:∀(A:OAd) (n c:Nat) (xs:LIn),aJ w A n c xs→aJ w' A n c xs:=fun A n c xs hi=>by
  refine hi.same hg.size (fun b off e hn hlt=>hg.block b hlt (fun e2=>?_));injection e2 with e2;subst e2;obtain⟨es,cl,hmo⟩:=h.map.obj;obtain⟨b',off',e',hlt',hc⟩:=hi.cells hn;rw[e]at e';injection e' with e';injection e' with e1 e2;subst e1;obtain⟨vs,a,b⟩:=hc 0 _ (List.getElem?_eq_getElem (by rw[hi.len];exact hn));have:=a 0 (by omega);unfold World.cell? at this;rw[hmo]at this;cases this
 have bx:bf≠bm:=qI h.box h.map;obtain⟨_,o1,_⟩:=id h.marks;obtain⟨_,o2,_⟩:=id h.arcs;obtain⟨_,o3,_⟩:=id h.first;refine⟨⟨h.lo,h.lom,h.box.grown hg (fun e=>bx (by injection e with e;exact e.symm)),hm,h.marks.turn hg (.inr (kZ o1 h.map)) (fun vs x hx=>?_),h.arcs.turn hg (.inr (kZ o2 h.map)) (fun vs x hx=>hx),h.first.turn hg (.inr (kZ o3 h.map)) (fun vs x hx=>hx)⟩,nm⟩;obtain⟨A,n,c,e,i,l,p⟩:=hx;exact⟨A,n,c,e,nm _ _ _ _ i,l,p⟩
theorem uU {w w':World}{bf:Nat}{u v z y:Value}{g k cap i:Nat}(hg:w.grownBy w' y.ownBlock)(hat:y.ownBlock=some g∨w.heap.size≤g)(hy:y=u∨y=v∨y=z){u' v' z':Value}(hu:u'=u∨(y=u∧u'=.slice (some ⟨g,0,none⟩) k cap))(hv:v'=v∨(y=v∧v'=.slice (some ⟨g,0,none⟩) k cap))(hz:z'=z∨(y=z∧z'=.slice (some ⟨g,0,none⟩) k cap))(V:Value) :
  mM bf w u v z (w'.setCell ⟨bf,i,none⟩ V) u' v' z':=by
 intro A n c xs hi ha;have key:∀b off,A=some ⟨b,off,none⟩→0<n→b<w.heap.size∧b≠bf∧y.ownBlock≠some b∧g≠b:=fun b off e hn=>by
  obtain⟨b',off',e',hlt,_⟩:=hi.cells hn;rw[e]at e';injection e' with e';injection e' with e1 _;subst e1;obtain⟨p0,p1,p2,p3⟩:=ha b off e hn;have hyb:y.ownBlock≠some b:=by rcases hy with rfl|rfl|rfl <;> assumption
  refine⟨hlt,p0,hyb,fun e2=>?_⟩;subst e2;rcases hat with h|h
  ·exact hyb h
  ·omega
 refine⟨hi.same (by simpa [World.setCell] using hg.size) (fun b off e hn hlt=>?_),fun b off e hn=>?_⟩
 ·obtain⟨_,k1,k2,_⟩:=key b off e hn;exact(heap_setCell_other _ _ _ _ k1).trans (hg.block b hlt (fun e2=>k2 e2.symm))
 ·obtain⟨p0,p1,p2,p3⟩:=ha b off e hn;have kg:=(key b off e hn).2.2.2;have ng:(Value.slice (some ⟨g,0,none⟩) k cap).ownBlock≠some b:=fun e2=>kg (by injection e2)
  refine⟨p0, ?_, ?_, ?_⟩
  ·rcases hu with rfl|⟨_,rfl⟩ <;> assumption
  ·rcases hv with rfl|⟨_,rfl⟩ <;> assumption
  ·rcases hz with rfl|⟨_,rfl⟩ <;> assumption
theorem oH.mark (h:oH w B bf bm P A n c most u v z mm ms ars fs){g k cap:Nat}{ms':LLi}(hk:k=ms'.length)(own:aC (fun _ vs x=>sY bf u v z w vs x) 1 w' B 28 (.slice (some ⟨g,0,none⟩) k cap) k ms')(hg:w.grownBy w' u.ownBlock)(hat:u.ownBlock=some g∨w.heap.size≤g) :
  oH (w'.setCell ⟨bf,4,none⟩ (.slice (some ⟨g,0,none⟩) k cap)) B bf bm P A n c most (.slice (some ⟨g,0,none⟩) k cap) v z mm ms' ars fs∧mM bf w u v z (w'.setCell ⟨bf,4,none⟩ (.slice (some ⟨g,0,none⟩) k cap)) (.slice (some ⟨g,0,none⟩) k cap) v z:=by
 subst hk;have KK:=uU (i:=4) (k:=ms'.length) (cap:=cap) hg hat (u:=u) (v:=v) (z:=z) (bf:=bf) (.inl rfl) (.inr ⟨rfl,rfl⟩) (.inl rfl) (.inl rfl) (.slice (some ⟨g,0,none⟩) ms'.length cap);obtain⟨_,o1,_⟩:=id h.marks;obtain⟨_,o2,_⟩:=id h.arcs;obtain⟨_,o3,_⟩:=id h.first;have b1:Box w' bf 153 #[.int .i64 P,.slice A n c,.int .i64 most,.map (some bm),u,v,z]:=h.box.grown hg (cU o1 h.box (by decide));have m1:AtM w' bm mm:=h.map.of_block (hg.block bm h.map.lt (fun e=>kZ o1 h.map e.symm));have a1:aC tM 3 w' B 156 v ars.length ars:=h.arcs.turn hg (fO o2 o1 (by decide)) (fun _ _ hx=>hx);have f1:aD w' B z fs.length fs:=h.first.turn hg (fO o3 o1 (by decide)) (fun _ _ hx=>hx);obtain⟨_,q1,_⟩:=id own;obtain⟨_,q2,_⟩:=id a1;obtain⟨_,q3,_⟩:=id f1;have gs:=cE w' bf 4 (.slice (some ⟨g,0,none⟩) ms'.length cap);refine⟨⟨h.lo,h.lom,by simpa using b1.set 4 (.slice (some ⟨g,0,none⟩) ms'.length cap),m1.of_block (heap_setCell_other _ _ _ _ (qI b1 m1).symm),
  own.turn gs (.inr (cU q1 b1 (by decide))) (fun vs x hx=>KK.mark hx),a1.turn gs (.inr (cU q2 b1 (by decide))) (fun _ _ hx=>hx),f1.turn gs (.inr (cU q3 b1 (by decide))) (fun _ _ hx=>hx)⟩,KK⟩
theorem oH.firstPut (h:oH w B bf bm P A n c most u v z mm ms ars fs){g k cap:Nat}{fs':LIn}(hk:k=fs'.length)(own:aD w' B (.slice (some ⟨g,0,none⟩) k cap) k fs')(hg:w.grownBy w' z.ownBlock)(hat:z.ownBlock=some g∨w.heap.size≤g) :
  oH (w'.setCell ⟨bf,6,none⟩ (.slice (some ⟨g,0,none⟩) k cap)) B bf bm P A n c most u v (.slice (some ⟨g,0,none⟩) k cap) mm ms ars fs'∧mM bf w u v z (w'.setCell ⟨bf,6,none⟩ (.slice (some ⟨g,0,none⟩) k cap)) u v (.slice (some ⟨g,0,none⟩) k cap):=by
 subst hk;have KK:=uU (i:=6) (k:=fs'.length) (cap:=cap) hg hat (u:=u) (v:=v) (z:=z) (bf:=bf) (.inr (.inr rfl)) (.inl rfl) (.inl rfl) (.inr ⟨rfl,rfl⟩) (.slice (some ⟨g,0,none⟩) fs'.length cap);obtain⟨_,o1,_⟩:=id h.marks;obtain⟨_,o2,_⟩:=id h.arcs;obtain⟨_,o3,_⟩:=id h.first;have b1:Box w' bf 153 #[.int .i64 P,.slice A n c,.int .i64 most,.map (some bm),u,v,z]:=h.box.grown hg (cU o3 h.box (by decide));have m1:AtM w' bm mm:=h.map.of_block (hg.block bm h.map.lt (fun e=>kZ o3 h.map e.symm));have a1:aC tM 3 w' B 156 v ars.length ars:=h.arcs.turn hg (fO o2 o3 (by decide)) (fun _ _ hx=>hx);have k1:aC (fun _ vs x=>sY bf u v z w vs x) 1 w' B 28 u ms.length ms:=h.marks.turn hg (fO o1 o3 (by decide)) (fun _ _ hx=>hx);obtain⟨_,q1,_⟩:=id k1;obtain⟨_,q2,_⟩:=id a1;obtain⟨_,q3,_⟩:=id own;have gs:=cE w' bf 6 (.slice (some ⟨g,0,none⟩) fs'.length cap);refine⟨⟨h.lo,h.lom,by simpa using b1.set 6 (.slice (some ⟨g,0,none⟩) fs'.length cap),m1.of_block (heap_setCell_other _ _ _ _ (qI b1 m1).symm),
  k1.turn gs (.inr (cU q1 b1 (by decide))) (fun vs x hx=>KK.mark hx),a1.turn gs (.inr (cU q2 b1 (by decide))) (fun _ _ hx=>hx),own.turn gs (.inr (cU q3 b1 (by decide))) (fun _ _ hx=>hx)⟩,KK⟩
theorem oH.arc (h:oH w B bf bm P A n c most u v z mm ms ars fs){g k cap:Nat}{ars':List bO}(hk:k=ars'.length)(own:aC tM 3 w' B 156 (.slice (some ⟨g,0,none⟩) k cap) k ars')(hg:w.grownBy w' v.ownBlock)(hat:v.ownBlock=some g∨w.heap.size≤g) :
  oH (w'.setCell ⟨bf,5,none⟩ (.slice (some ⟨g,0,none⟩) k cap)) B bf bm P A n c most u (.slice (some ⟨g,0,none⟩) k cap) z mm ms ars' fs∧mM bf w u v z (w'.setCell ⟨bf,5,none⟩ (.slice (some ⟨g,0,none⟩) k cap)) u (.slice (some ⟨g,0,none⟩) k cap) z:=by
 subst hk;have KK:=uU (i:=5) (k:=ars'.length) (cap:=cap) hg hat (u:=u) (v:=v) (z:=z) (bf:=bf) (.inr (.inl rfl)) (.inl rfl) (.inr ⟨rfl,rfl⟩) (.inl rfl) (.slice (some ⟨g,0,none⟩) ars'.length cap);obtain⟨_,o1,_⟩:=id h.marks;obtain⟨_,o2,_⟩:=id h.arcs;obtain⟨_,o3,_⟩:=id h.first;have b1:Box w' bf 153 #[.int .i64 P,.slice A n c,.int .i64 most,.map (some bm),u,v,z]:=h.box.grown hg (cU o2 h.box (by decide));have m1:AtM w' bm mm:=h.map.of_block (hg.block bm h.map.lt (fun e=>kZ o2 h.map e.symm));have f1:aD w' B z fs.length fs:=h.first.turn hg (fO o3 o2 (by decide)) (fun _ _ hx=>hx);have k1:aC (fun _ vs x=>sY bf u v z w vs x) 1 w' B 28 u ms.length ms:=h.marks.turn hg (fO o1 o2 (by decide)) (fun _ _ hx=>hx);obtain⟨_,q1,_⟩:=id k1;obtain⟨_,q2,_⟩:=id own;obtain⟨_,q3,_⟩:=id f1;have gs:=cE w' bf 5 (.slice (some ⟨g,0,none⟩) ars'.length cap);refine⟨⟨h.lo,h.lom,by simpa using b1.set 5 (.slice (some ⟨g,0,none⟩) ars'.length cap),m1.of_block (heap_setCell_other _ _ _ _ (qI b1 m1).symm),
  k1.turn gs (.inr (cU q1 b1 (by decide))) (fun vs x hx=>KK.mark hx),own.turn gs (.inr (cU q2 b1 (by decide))) (fun _ _ hx=>hx),f1.turn gs (.inr (cU q3 b1 (by decide))) (fun _ _ hx=>hx)⟩,KK⟩
end
theorem uV:mC 25 28 1 24:=mC.mk' (z:=.slice none 0 0) Tryz.underlying25 (by kernel_rfl) rfl (by decide)
def UQ (w0 w:World)(bf bm:Nat)(P:Int)(A:OAd)(n c:Nat)(most:Int)(u v z:Value)(ars:List bO)(p:LLi×LIn×Int×Bool)(e:Ending)(w':World):Prop :=
 ∃u' z',e=.returned (.tuple #[.int .i64 p.2.2.1,.bool p.2.2.2])∧oH w' w0.heap.size bf bm P A n c most u' v z' p.1 p.1 ars p.2.1∧Below w0.heap.size w0 w'∧w.heap.size≤w'.heap.size∧mM bf w u v z w' u' v z'
theorem rJ {w0 w:World} {bf bm:Nat} {P:Int} {A:OAd} {n c M:Nat} {u v z:Value} {ms:LLi} {ars:List bO} {fs:LIn} {X:OAd} {nx cx:Nat} {x:LIn} (a:Int)
  (h:oH w w0.heap.size bf bm P A n c (M:Int) u v z ms ms ars fs) (hB:Below w0.heap.size w0 w) (hx:aJ w X nx cx x) (hn:nx≤16) (hr:aO x=true) (ha:uT bf u v z X nx) (hm:ms.length≤300) (hfs:fs.length≤300) :
  Calls Tryz.prog 111 #[.pointer (some ⟨bf,0,none⟩),.slice X nx cx,.int .i64 a] w (UQ w0 w bf bm P A n c (M:Int) u v z ars (mA M ms fs x a)):=by
 obtain⟨U,cu,hu,su⟩:=h.marks.sl (by omega);obtain⟨Z,cz,hz,sz⟩:=h.first.sl (by omega);subst hu hz;have hxl:x.length≤16:=by rw[hx.len];exact hn
 have HF:=aA h;have HB:=aA hB;have HX:=aA hx;have HR:=aA hr;have HA:=aA ha;have HL:=aA hxl;have DR:=aA ((Below.refl w.heap.size w).drew);have KEEP:=aA (show ∀w',Below w.heap.size w w'→w'.cell? ⟨bf,2,none⟩=some (.int .i64 (M:Int))∧w'.cell? ⟨bf,3,none⟩=some (.map (some bm))from fun w' hb=>⟨(h.box.keep hb).cell 2,(h.box.keep hb).cell 3⟩);have CN:=aA (fun(w':World) (hb:Below w.heap.size w w')=>xZ (hx.keep hb) hn hr);clear h hB hx hr ha su sz hxl;obtain⟨r,hfr⟩:∃r,eH ms x=r:=⟨_,rfl⟩;obtain⟨d2,d3⟩:=KEEP.o w (Below.refl _ _);go_enter Tryz.func111,Tryz.ntmps111
 go_upto_region 1 with fail
 cases r with
 | some k =>
  have FR:=aA hfr;clear hfr;go_region_held3 (fun w'=>w'.cell? ⟨bf,2,none⟩=some (.int .i64 (M:Int))∧w'.cell? ⟨bf,3,none⟩=some (.map (some bm)))
   (first|go_keep)
   (first|(go_at_call 162;(with_reducible refine(CN.o _ DR.o).mono ?_);rintro e1 w1 ⟨rfl,hb1⟩;have F1:=aA (DR.o.trans (hb1.mono DR.o.size));clear hb1 d2 d3;obtain⟨d2,d3⟩:=KEEP.o w1 F1.o;obtain⟨vv,LK,hvv⟩:=(HF.o.map.keep F1.o).look HR.o HL.o;rw[FR.o]at LK;obtain rfl:=hvv k FR.o;simp only[Option.isSome]at LK))
  all_goals
   clear d2 d3 LK;have BB:=aA (HB.o.trans (F1.o.mono HB.o.size));have FP:=aA (show mA M ms fs x a=(ms,fs,(k:Int),true) by unfold mA;rw[FR.o]);go_wp2
   exact bodyPost_ret (v:=.tuple #[.int .i64 (k:Int),.bool true]) (by simp[results,Tryz.results111,go_sem]) rfl (by rw[FP.o];exact⟨_,_,rfl,HF.o.keep F1.o,BB.o,F1.o.size,mM.of_below F1.o⟩)
 | none =>
  have FR:=aA hfr;clear hfr;go_region_held3 (fun w'=>w'.cell? ⟨bf,2,none⟩=some (.int .i64 (M:Int))∧w'.cell? ⟨bf,3,none⟩=some (.map (some bm)))
   (first|go_keep)
   (first|(go_at_call 162;(with_reducible refine(CN.o _ DR.o).mono ?_);rintro e1 w1 ⟨rfl,hb1⟩;have F1:=aA (DR.o.trans (hb1.mono DR.o.size));clear hb1 d2 d3;obtain⟨d2,d3⟩:=KEEP.o w1 F1.o;obtain⟨vv,LK,hvv⟩:=(HF.o.map.keep F1.o).look HR.o HL.o;rw[FR.o]at LK;clear hvv;simp only[Option.isSome]at LK))
  all_goals
   clear d2 d3 LK;have FW:=aA (HF.o.keep F1.o);have BB:=aA (HB.o.trans (F1.o.mono HB.o.size));have K1:=aA (mM.of_below F1.o (bf:=bf) (u:=.slice U ms.length cu) (v:=v) (z:=.slice Z fs.length cz));have HX1:=aA (HX.o.keep F1.o);have S1:=aA F1.o.size;clear CN KEEP DR HF HB HX F1;obtain⟨L,hL⟩:∃L,ms.length=L:=⟨_,rfl⟩;have HLL:=aA hL;obtain⟨e0,e2,e3,e4,e6⟩:w1.cell? ⟨bf,0,none⟩=some (.int .i64 P)∧w1.cell? ⟨bf,2,none⟩=some (.int .i64 (M:Int))∧w1.cell? ⟨bf,3,none⟩=some (.map (some bm))∧w1.cell? ⟨bf,4,none⟩=some (.slice U ms.length cu)∧w1.cell? ⟨bf,6,none⟩=some (.slice Z fs.length cz):=⟨FW.o.box.cell 0,FW.o.box.cell 2,FW.o.box.cell 3,FW.o.box.cell 4,FW.o.box.cell 6⟩;rw[hL]at e4;by_cases hLM:L=M
   ·have FP:=aA (show mA M ms fs x a=(ms,fs,0,false) by unfold mA;rw[FR.o,HLL.o];simp only[hLM,if_true]);have hLi:(L:Int)=(M:Int):=by omega
    clear hL;go_wp2
    exact bodyPost_ret (v:=.tuple #[.int .i64 0,.bool false]) (by simp[results,Tryz.results111,go_sem]) rfl (by rw[FP.o];exact⟨_,_,rfl,FW.o,BB.o,S1.o,K1.o⟩)
   ·have FP:=aA (show mA M ms fs x a=(ms++[x],fs++[a],(L:Int),true) by unfold mA;rw[FR.o,HLL.o];simp only[hLM,if_false]);have hLi:¬(L:Int)=(M:Int):=by omega
    have hL3:L≤300:=by omega
    clear hL hLM;go_upto_region 7 with fail
    clear e0 e2 e3 e4 e6;obtain⟨d2,d3⟩:w1.cell? ⟨bf,2,none⟩=some (.int .i64 (M:Int))∧w1.cell? ⟨bf,3,none⟩=some (.map (some bm)):=⟨FW.o.box.cell 2,FW.o.box.cell 3⟩;have DR:=aA ((Below.refl w1.heap.size w1).drew);have KEEP:=aA (show ∀w',Below w1.heap.size w1 w'→w'.cell? ⟨bf,2,none⟩=some (.int .i64 (M:Int))∧w'.cell? ⟨bf,3,none⟩=some (.map (some bm))from fun w' hb=>⟨(FW.o.box.keep hb).cell 2,(FW.o.box.keep hb).cell 3⟩);have CN:=aA (fun(w':World) (hb:Below w1.heap.size w1 w')=>xZ (HX1.o.keep hb) hn HR.o);have HM3:=aA hm;go_region_held3 (fun w'=>w'.cell? ⟨bf,2,none⟩=some (.int .i64 (M:Int))∧w'.cell? ⟨bf,3,none⟩=some (.map (some bm)))
     (first|go_keep)
     (first|(go_at_call 162;(with_reducible refine(CN.o _ DR.o).mono ?_);rintro e1 w2 ⟨rfl,hb1⟩;have F2:=aA (DR.o.trans (hb1.mono DR.o.size));clear hb1 d2 d3;obtain⟨d2,d3⟩:=KEEP.o w2 F2.o;obtain⟨w3,UP,AM',GR'⟩:=(FW.o.map.keep F2.o).put HR.o HL.o FR.o (by have:=HM3.o;omega);rw[HLL.o]at UP;have E3:=aA ((FW.o.keep F2.o).entry AM' GR');have GR:=aA GR';clear AM' GR';have g2:=E3.o.1.box.cell 2;have g3:=E3.o.1.box.cell 3;simp at g2 g3))
    all_goals
     clear d2 d3 UP g2 g3;have B3:=aA ((BB.o.trans (F2.o.mono BB.o.size)).grown GR.o (Nat.le_trans BB.o.size F2.o.size) (fun k hk=>by cases hk;exact E3.o.1.lom));have HX3:=aA (E3.o.2 _ _ _ _ (HX1.o.keep F2.o));have K3:=aA (K1.o.trans (fun A' n' c' xs' hi hap=>⟨E3.o.2 _ _ _ _ (hi.keep F2.o),hap⟩:mM bf w1 (.slice U ms.length cu) v (.slice Z fs.length cz) w3 (.slice U ms.length cu) v (.slice Z fs.length cz)));have S3:=aA (Nat.le_trans S1.o (Nat.le_trans F2.o.size GR.o.size));have F3:=aA E3.o.1;clear FW BB HX1 K1 S1 F2 GR E3 CN KEEP DR HM3;have c4:w3.cell? ⟨bf,4,none⟩=some (.slice U ms.length cu):=F3.o.box.cell 4;have MK:=aA (show sY bf (.slice U ms.length cu) v (.slice Z fs.length cz) w3 (fun _=>.slice X nx cx) x from⟨X,nx,cx,rfl,HX3.o,hn,HA.o⟩);have NB:=aA (show(Value.slice U ms.length cu).ownBlock≠some bf by obtain⟨_,o1,_⟩:=id F3.o.marks;exact cU o1 F3.o.box (by decide));have OM:=aA (show aC (fun _ vs y=>sY bf (.slice U ms.length cu) v (.slice Z fs.length cz) w3 vs y) 1 w3 w0.heap.size 28 (.slice U ms.length cu) ms.length ms from F3.o.marks.reread fun _ _ hy=>hy);go_upto_region 9 with(at_builtin;go_loud (refine eY (R:=fun _ vs y=>sY bf (.slice U ms.length cu) v (.slice Z fs.length cz) w3 vs y) uV rfl _ _ rfl [x] #[.slice X nx cx] rfl rfl (by first|rfl|simp) rfl (by omega) (by simp[Value.oneCell']) OM.o (a6.one (vs:=fun _=>.slice X nx cx) MK.o rfl (fun j hj=>(by obtain rfl:j=0:=(by omega);rfl))) rfl B3.o B3.o.size (by omega) (by omega) (fun _ _ _ _ h=>h) ?_;intro g4 cap4 w4 own4' hg4' hb4' hat4';have own4:=aA own4';have hg4:=aA hg4';have hb4:=aA hb4';have hat4:=aA hat4';clear own4' hg4' hb4' hat4' c4;have c4:w4.cell? ⟨bf,4,none⟩=some (.slice U ms.length cu):=(F3.o.box.grown hg4.o NB.o).cell 4;have f4:=(F3.o.box.grown hg4.o NB.o).frozen 4))
     clear c4 f4;have FK:=aA (F3.o.mark (by simp) own4.o hg4.o hat4.o);have BX:=aA (show Below w0.heap.size w0 (w4.setCell ⟨bf,4,none⟩ (.slice (some ⟨g4,0,none⟩) (ms.length+1) cap4))from hb4.o.grown (cE _ _ _ _) hb4.o.size (fun k hk=>by cases hk;exact F3.o.lo));have S5:=aA (show w.heap.size≤(w4.setCell ⟨bf,4,none⟩ (.slice (some ⟨g4,0,none⟩) (ms.length+1) cap4)).heap.size from Nat.le_trans S3.o (Nat.le_trans hg4.o.size (by simp[World.setCell])));clear OM NB MK HX3 hb4 hat4 hg4 own4 B3 S3;generalize w4.setCell ⟨bf,4,none⟩ (.slice (some ⟨g4,0,none⟩) (ms.length+1) cap4)=w5 at *
     have F5:=aA FK.o.1;have K5:=aA (K3.o.trans FK.o.2);clear FK K3 F3;have c6:w5.cell? ⟨bf,6,none⟩=some (.slice Z fs.length cz):=F5.o.box.cell 6;have NB:=aA (show(Value.slice Z fs.length cz).ownBlock≠some bf by obtain⟨_,o1,_⟩:=id F5.o.first;exact cU o1 F5.o.box (by decide));go_wp2_with (at_builtin;go_loud (refine eY kQ rfl _ _ rfl [a] #[.int .i64 a] rfl rfl (by first|rfl|simp) rfl (by omega) (by simp[Value.oneCell']) F5.o.first (a6.one (vs:=fun _=>.int .i64 a) rfl rfl (fun j hj=>(by obtain rfl:j=0:=(by omega);rfl))) rfl BX.o BX.o.size (by omega) (by omega) (fun _ _ _ _ h=>h) ?_;intro g6 cap6 w6 own6' hg6' hb6' hat6';have own6:=aA own6';have hg6:=aA hg6';have hb6:=aA hb6';have hat6:=aA hat6';clear own6' hg6' hb6' hat6' c6;have c6:w6.cell? ⟨bf,6,none⟩=some (.slice Z fs.length cz):=(F5.o.box.grown hg6.o NB.o).cell 6;have f6:=(F5.o.box.grown hg6.o NB.o).frozen 6))
     have FK:=F5.o.firstPut (by simp) own6.o hg6.o hat6.o;have BZ:Below w0.heap.size w0 (w6.setCell ⟨bf,6,none⟩ (.slice (some ⟨g6,0,none⟩) (fs.length+1) cap6)):=hb6.o.grown (cE _ _ _ _) hb6.o.size (fun k hk=>by cases hk;exact F5.o.lo);exact bodyPost_ret (v:=.tuple #[.int .i64 (L:Int),.bool true]) (by simp[results,Tryz.results111,go_sem]) rfl (by rw[FP.o];exact⟨_,_,rfl,FK.1,BZ,Nat.le_trans S5.o (Nat.le_trans hg6.o.size (by simp[World.setCell])),K5.o.trans FK.2⟩)
theorem oH.apart {w:World}{B bf bm:Nat}{P:Int}{A:OAd}{n c:Nat}{most:Int}{u v z:Value}{mm ms:LLi}{ars:List bO}{fs:LIn}(h:oH w B bf bm P A n c most u v z mm ms ars fs){C:OAd}{l:Nat}(hf:dK w C):uT bf u v z C l:=by
 intro b off e _;have hb:w.heap.size≤b:=hf _ e;have h0:=h.box.lt;exact⟨by omega,fun e2=>(by have:=(h.marks.lt b e2).2;omega),fun e2=>(by have:=(h.arcs.lt b e2).2;omega),fun e2=>(by have:=(h.first.lt b e2).2;omega)⟩
structure N6 (N:aS)(M:Nat)(s:PSp)(fs:LIn)(k:Nat):Prop where
 sp:lW N M s
 fst:EK s fs
 arcs:s.arcs.length≤k
def Uf (w0:World)(bf bm:Nat)(N:aS)(A:OAd)(n c M:Nat)(r:Option PSp)(e:Ending)(w':World):Prop :=
 Below w0.heap.size w0 w'∧match r with
 | none=>e=.returned (.int .i64 4)
 | some s=>e=.returned (.int .i64 0)∧∃u v z fs,oH w' w0.heap.size bf bm N.places A n c (M:Int) u v z s.marks s.marks s.arcs fs∧N6 N M s fs 7200
theorem Is {w0 w':World}{bf bm:Nat}{N:aS}{A:OAd}{n c M:Nat}{r:Option PSp}(hr:r=none)(hb:Below w0.heap.size w0 w'):Uf w0 bf bm N A n c M r (.returned (.int .i64 4)) w':=by
 subst hr;exact⟨hb,rfl⟩
theorem zB {w0 w:World} {bf bm:Nat} {P:Int} {A:OAd} {n c M:Nat} {u v z:Value} {ts:List aI} {s:PSp} {fs:LIn} (hT:bK w0 A n c ts) (hM:M≤300)
  (h:oH w w0.heap.size bf bm P A n c (M:Int) u v z s.marks s.marks s.arcs fs) (hB:Below w0.heap.size w0 w) (hs:N6 ⟨P,ts⟩ M s fs 0) :
  Calls Tryz.prog 112 #[.pointer (some ⟨bf,0,none⟩)] w (Uf w0 bf bm ⟨P,ts⟩ A n c M (goM ⟨P,ts⟩ M M 0 s)):=by
 obtain⟨R,hR⟩:∃R,goM ⟨P,ts⟩ M M 0 s=R:=⟨_,rfl⟩;rw[hR];have HR:=aA hR;have HT:=aA hT;have HF:=aA h;have HB:=aA hB;have HS:=aA hs;have HM:=aA hM;clear hR hT h hB hs hM;go_enter Tryz.func112,Tryz.ntmps112
 go_wp2
 go_loopw [3] (fun fv wr=>∃(f:Nat) (u v z:Value) (s:PSp) (fs:LIn),fv=.int .i64 f∧f≤s.marks.length∧f≤M∧Hid (oH wr w0.heap.size bf bm P A n c (M:Int) u v z s.marks s.marks s.arcs fs)∧Hid (Below w0.heap.size w0 wr)∧Hid (N6 ⟨P,ts⟩ M s fs (24*f))∧Hid (goM ⟨P,ts⟩ M (M-f) f s=R)) (fun fv _=>M-(intOf fv).toNat)
 case atStart=>exact⟨0,u,v,z,s,fs,rfl,Nat.zero_le _,Nat.zero_le _,HF,HB,HS,HR⟩
 case round =>
  clear HF HB HS HR u v z fs s;obtain⟨f,u,v,z,s,fs,rfl,hfl,hfM,HF,HB,HS,HR⟩:=hrel;have hM3:M≤300:=HM.o;have hL3:s.marks.length≤300:=Nat.le_trans HS.o.sp.few HM.o;obtain⟨U,cu,hu,su⟩:=HF.o.marks.sl (by omega);subst hu;obtain⟨L,hL⟩:∃L,s.marks.length=L:=⟨_,rfl⟩;have HLL:=aA hL;by_cases hlt:f<s.marks.length
  ·obtain⟨b,off,m,vs,hU,hbl,hm,hc,A1,n1,c1,e1,i1,hn1,ap1⟩:=Sl.get su hlt;subst hU;have hU2:f<L:=by omega
   have c0:wr.cell? ⟨bf,0,none⟩=some (.int .i64 P):=HF.o.box.cell 0;have c1':wr.cell? ⟨bf,1,none⟩=some (.slice A n c):=HF.o.box.cell 1;have c4:wr.cell? ⟨bf,4,none⟩=some (.slice (some ⟨b,off,none⟩) s.marks.length cu):=HF.o.box.cell 4;have cm:wr.cell? ⟨b,off+f,none⟩=some (.slice A1 n1 c1):=by have:=hc 0 (by omega);rw[e1]at this;simpa using this
   rw[hL]at c4;have hfLi:(f:Int)<(L:Int):=by omega
   have MF:=aA (HS.o.sp.fits m (List.mem_of_getElem? hm));have HM1:=aA hm;have I1:=aA i1;have AP1:=aA ap1;have HT1:=aA (HT.o.keep HB.o);have FIN:=aA (show dR ⟨P,ts⟩ m=(fE ts m,0) by rw[dR,if_pos MF.o]);have HN:=aA hn1;clear hL su hlt hm hc i1 ap1 e1 hn1;go_wp2_with ((with_reducible refine(wM HT1.o I1.o).mono ?_);rw[FIN.o];rintro e w1 ⟨C,l,lc,rfl,hi,hb1,hfr⟩)
   have F1:=aA (HF.o.keep hb1);have B1:=aA (HB.o.trans (hb1.mono HB.o.size));have IM:=aA (I1.o.keep hb1);have IC:=aA hi;have AC:=aA (HF.o.apart (l:=l) hfr);have hl24:l≤24:=by
    have h1:=hi.len;have h2:=AQ ts m;have h3:ts.length≤24:=((aQ _).1 ((bD _ _).1 MF.o).1).2.2.1;omega
   have FD:=aA (show yX ⟨P,ts⟩ M f s=hJ ⟨P,ts⟩ M m (f:Int) (fE ts m) (some s) by
    have:=yW (most:=M) (f:=(f:Int)) MF.o (some s) ts.length (Nat.le_refl _);rw[List.take_length]at this;rw[this,yX,show s.marks.getD f []=m by rw[List.getD_eq_getElem?_getD,HM1.o];rfl])
   obtain⟨wo,hwo⟩:∃wo:World,wo=wr:=⟨_,rfl⟩;subst hwo;clear c0 c1' c4 cm hi hb1 hfr I1 HT1 HF HB;go_wp2
   go_loopw [45] (fun kv wr=>∃(k:Nat) (u v z:Value) (s1:PSp) (fs:LIn),kv=.int .i64 k∧k≤l∧Hid (oH wr w0.heap.size bf bm P A n c (M:Int) u v z s1.marks s1.marks s1.arcs fs)∧Hid (Below w0.heap.size w0 wr)∧Hid (N6 ⟨P,ts⟩ M s1 fs (24*f+k))∧Hid (hJ ⟨P,ts⟩ M m (f:Int) ((fE ts m).take k) (some s)=some s1)∧Hid (aJ wr C l lc (fE ts m)∧uT bf u v z C l)∧Hid (aJ wr A1 n1 c1 m∧uT bf u v z A1 n1)∧Hid (f<s1.marks.length)) (fun kv _=>l-(intOf kv).toNat)
   case atStart=>exact⟨0,_,_,_,s,fs,rfl,Nat.zero_le _,F1,B1,HS,rfl,⟨IC.o,AC.o⟩,⟨IM.o,AP1.o⟩,by rw[HLL.o];exact hU2⟩
   case round =>
    clear F1 B1 IM IC AC AP1;obtain⟨k,u1,v1,z1,s1,fs1,rfl,hk,F1,B1,X1,FO,⟨ic,ac⟩,⟨im,am⟩,FL⟩:=hrel;have hm300:s1.marks.length≤300:=Nat.le_trans X1.o.sp.few HM.o;have ha72:s1.arcs.length≤24*f+k:=X1.o.arcs;have hf72:s1.arcs.length≤7224:=by omega
    have hfs:fs1.length≤300:=by rw[X1.o.fst.len];exact hm300
    have SUCC:=aA (show R=none∨True from .inr trivial);by_cases hlt:k<l
    ·obtain⟨bC,offC,t,hC,hbC,ht,hct⟩:=aJ.get ic hlt;subst hC;have htm:t∈fE ts m:=List.mem_of_getElem? ht;obtain⟨⟨i,hi,hti⟩,hfe⟩:=Js MF.o htm;subst hti;obtain⟨V,cv,hv,sv⟩:=F1.o.arcs.sl (by omega);subst hv;have hki:(k:Int)<(l:Int):=by omega
     have hi24:i≤24:=by
      have h3:ts.length≤24:=((aQ _).1 ((bD _ _).1 MF.o).1).2.2.1;have h4:i<ts.length:=hi;omega
     have STEP:=aA (show hJ ⟨P,ts⟩ M m (f:Int) ((fE ts m).take (k+1)) (some s)=cS ⟨P,ts⟩ M m (f:Int) s1 (i:Int) by
      rw[bL ht,rC,FO.o];rfl)
     have NONE:=aA (fun(h0:cS ⟨P,ts⟩ M m (f:Int) s1 (i:Int)=none)=>show R=none by
      rw[←HR.o];obtain⟨g,hg⟩:∃g,M-f=g+1:=⟨M-f-1,by have:=HS.o.sp.few;rw[HLL.o]at this;omega⟩;rw[hg,goM,if_pos (by rw[HLL.o];exact hU2),FD.o,EI (k+1) (by rw[STEP.o];exact h0)];rfl)
     obtain⟨p,hp⟩:∃p,bW ⟨P,ts⟩ m (i:Int)=p:=⟨_,rfl⟩;obtain⟨x,fe⟩:=p;rw[hp]at hfe;have c0:wr.cell? ⟨bf,0,none⟩=some (.int .i64 P):=F1.o.box.cell 0;have c1':wr.cell? ⟨bf,1,none⟩=some (.slice A n c):=F1.o.box.cell 1;have HP:=aA hp;have HTr:=aA (HT.o.keep B1.o);have IMR:=aA im;have AMR:=aA am;have ICR:=aA ic;have ACR:=aA ac;have FXF:=aA (p8 (t:=(i:Int)) MF.o);clear hp im am ic ac hi htm sv ht SUCC;rcases hfe with hfe|hfe
     ·simp only at hfe;subst hfe;have XF:=aA (FXF.o (by rw[HP.o]));simp only[HP.o]at XF;have XL:=aA (show x.length≤16 by
       obtain⟨h1,h2,_⟩:=(bD _ _).1 XF.o.1;have h3:=((aQ _).1 h1).2.1;simp only at h2 h3;omega)
      have XR:=aA ((bD _ _).1 XF.o.1).2.2;have AST:=aA (show cS ⟨P,ts⟩ M m (f:Int) s1 (i:Int)=pZ M s1 (f:Int) (i:Int) x by unfold cS;rw[HP.o];rfl);have SPS:=aA (fun(s':PSp) (h:pZ M s1 (f:Int) (i:Int) x=some s')=>X1.o.sp.step FL.o MF.o (AST.o.trans h));have MT:=X1.o.fst.meet (M:=M) (x:=x) (f:=(f:Int)) (t:=(i:Int)) (fun a ha=>(X1.o.sp.ends a ha).2.2.2);have CF:=aA (fun(w2:World) (D:OAd) (q qc:Nat) (hi2:aJ w2 D q qc x) (hb2:Below wr.heap.size wr w2) (hfr2:dK wr D)=>rJ (s1.arcs.length:Int) (F1.o.keep hb2) (B1.o.trans (hb2.mono B1.o.size)) hi2 (by rw[←hi2.len];exact XL.o) XR.o (F1.o.apart hfr2) hm300 hfs);obtain⟨pp,hpp⟩:∃pp,mA M s1.marks fs1 x (s1.arcs.length:Int)=pp:=⟨_,rfl⟩;rw[hpp]at MT;simp only[hpp]at CF;obtain⟨ms',fs',k',ok⟩:=pp;clear hpp;have CELL:=aA (show ∀w2,Below wr.heap.size wr w2→w2.cell? ⟨bf,5,none⟩=some (.slice V s1.arcs.length cv)from fun w2 hb=>(F1.o.box.keep hb).cell 5);obtain⟨na,hna⟩:∃na,s1.arcs.length=na:=⟨_,rfl⟩;have HNA:=aA hna;simp only[hna]at CF CELL ACR AMR;rcases MT with⟨hok,hme⟩|⟨hok,hme,hfo⟩
      ·simp only at hok;subst hok;have RN:=aA (NONE.o (AST.o.trans hme));clear hme hna;go_wp2_with (first
        |((with_reducible refine(jI HTr.o IMR.o (i:Int)).mono ?_);rw[HP.o];rintro e w2 ⟨D,q,qc,rfl,hi2,hb2,hfr2⟩;have CALL:=aA (CF.o w2 D q qc hi2 hb2 hfr2);have c5:=CELL.o w2 hb2;clear hi2 hb2 hfr2)
        |(go_at_call 111;(with_reducible refine CALL.o.mono ?_);rintro e w3 ⟨u',z',rfl,F3,B3,S3,K3⟩;have B4:=aA B3;clear F3 B3 S3 K3))
       go_ret
       exact Is RN.o B4.o
      ·simp only at hok hme hfo;subst hok;have SP:=aA (SPS.o _ hme);have FO2:=aA (STEP.o.trans (AST.o.trans hme));have HFO:=aA hfo;have WI:=aA (show(Lit.int .i64 (i:Int)).wf=true from WalkArith.wf_i64 (by omega));clear hme hfo hna;go_wp2_with (first
        |((with_reducible refine(jI HTr.o IMR.o (i:Int)).mono ?_);rw[HP.o];rintro e w2 ⟨D,q,qc,rfl,hi2,hb2,hfr2⟩;have CALL:=aA (CF.o w2 D q qc hi2 hb2 hfr2);have HB2:=aA hb2;have c5:=CELL.o w2 hb2;clear hi2 hb2 hfr2)
        |(go_at_call 111;go_loud ((with_reducible refine CALL.o.mono ?_);rintro e w3 ⟨u',z',rfl,F3,B3,S3,K3⟩;have F4:=aA F3;have B4:=aA B3;have IC4:=aA (K3 _ _ _ _ (ICR.o.keep HB2.o) ACR.o);have IM4:=aA (K3 _ _ _ _ (IMR.o.keep HB2.o) AMR.o);have NB:=aA (show(Value.slice V na cv).ownBlock≠some bf by obtain⟨_,o1,_⟩:=id F3.arcs;exact cU o1 F3.box (by decide));clear c5;have c5:w3.cell? ⟨bf,5,none⟩=some (.slice V na cv):=F3.box.cell 5;clear F3 B3 S3 K3))
        |(at_builtin;go_loud (refine eY VX rfl _ _ rfl [(⟨(f:Int),(i:Int),k'⟩:bO)] #[.int .i64 (f:Int),.int .i64 (i:Int),.int .i64 k'] rfl rfl (by first|rfl|simp) rfl (by omega) (by simp[Value.oneCell']) F4.o.arcs (a6.one (vs:=fun j=>#[Value.int .i64 (f:Int),.int .i64 (i:Int),.int .i64 k'].getD j (.int .i64 0)) ⟨rfl,rfl,rfl,WI.o⟩ rfl (fun j hj=>(by match j,hj with|0,_=>rfl|1,_=>rfl|2,_=>rfl))) rfl B4.o B4.o.size (by omega) (by omega) (fun _ _ _ _ h=>h) ?_;intro g6 cap6 w6 own6' hg6' hb6' hat6';have own6:=aA own6';have hg6:=aA hg6';have hb6:=aA hb6';have hat6:=aA hat6';clear own6' hg6' hb6' hat6' c5;have c5:w6.cell? ⟨bf,5,none⟩=some (.slice V na cv):=(F4.o.box.grown hg6.o NB.o).cell 5;have f5:=(F4.o.box.grown hg6.o NB.o).frozen 5)))
       go_roundw
       case rel =>
        have FK:=F4.o.arc (by simp) own6.o hg6.o hat6.o;exact⟨k+1,u',_,z',⟨ms',s1.arcs++[⟨(f:Int),(i:Int),k'⟩]⟩,fs',by go_num,by omega,aA FK.1,aA (hb6.o.grown (cE _ _ _ _) hb6.o.size (fun k hk=>by cases hk;exact F4.o.lo)),aA ⟨SP.o.1,HFO.o,by simp;omega⟩,FO2,aA (FK.2 _ _ _ _ IC4.o.1 IC4.o.2),aA (FK.2 _ _ _ _ IM4.o.1 IM4.o.2),aA (Nat.lt_of_lt_of_le FL.o SP.o.2.length_le)⟩
       case measure=>simp[intOf];omega
     ·simp only at hfe;subst hfe;have RN:=aA (NONE.o (by unfold cS;rw[HP.o];rfl));go_wp2_with ((with_reducible refine(jI HTr.o IMR.o (i:Int)).mono ?_);rw[HP.o];rintro e w2 ⟨D,q,qc,rfl,hi2,hb2,hfr2⟩;have B2:=aA (B1.o.trans (hb2.mono B1.o.size));clear hi2 hb2 hfr2)
      go_ret
      exact Is RN.o B2.o
    ·obtain rfl:k=l:=by omega
     have FA:=aA (show hJ ⟨P,ts⟩ M m (f:Int) (fE ts m) (some s)=some s1 by
      have:=FO.o;rwa[List.take_of_length_le (by rw[ic.len];exact Nat.le_refl _)]at this)
     have NX:=aA (show goM ⟨P,ts⟩ M (M-(f+1)) (f+1) s1=R by
      rw[←HR.o];obtain⟨g,hg⟩:∃g,M-f=g+1:=⟨M-f-1,by have:=HS.o.sp.few;rw[HLL.o]at this;omega⟩;rw[hg,goM,if_pos (by rw[HLL.o];exact hU2),FD.o,FA.o,show M-(f+1)=g by omega];rfl)
     have fM:f+1≤M:=by have:=HS.o.sp.few;rw[HLL.o]at this;omega
     clear ic im;go_wp2
     go_roundw
     case rel=>exact⟨f+1,u1,v1,z1,s1,fs1,by go_num,FL.o,fM,F1,B1,⟨X1.o.sp,X1.o.fst,by omega⟩,NX⟩
     case measure=>simp[intOf];omega
  ·have FE:=aA (show R=some s by
    rw[←HR.o];cases M-f with
    | zero=>rfl
    | succ g=>rw[goM,if_neg hlt])
   obtain rfl:f=L:=by omega
   have c4:wr.cell? ⟨bf,4,none⟩=some (.slice U s.marks.length cu):=HF.o.box.cell 4;rw[hL]at c4;clear hL su hlt hfl hL3;go_wp2
   go_ret
   rw[FE.o];exact⟨HB.o,rfl,_,_,_,fs,HF.o,⟨HS.o.sp,HS.o.fst,Nat.le_trans HS.o.arcs (by omega)⟩⟩
theorem oH.start (w1:World){B:Nat}(hB:B≤w1.heap.size)(P:Int)(A:OAd)(n c:Nat)(most:Int) :
  oH ((w1.alloc (.map #[] 0)).alloc (.cells #[.int .i64 P,.slice A n c,.int .i64 most,.map (some w1.heap.size),.slice none 0 0,.slice none 0 0,.slice none 0 0] 153)) B (w1.heap.size+1) w1.heap.size P A n c most (.slice none 0 0) (.slice none 0 0) (.slice none 0 0) [] [] [] [] where
 lo:=by omega
 lom:=hB
 box:=Box.newAt (by simp) _ _
 map:=(AtM.made w1).of_block (heap_alloc_old _ _ (by simp))
 marks:=aC.nil
 arcs:=aC.nil
 first:=aC.nil
def N7 (N:aS)(most:Int)(r:PSp×Int)(w:World)(e:Ending)(w':World):Prop :=
 Below w.heap.size w w'∧((r.2≠0∧e=.returned (.tuple #[.pointer none,.int .i64 r.2]))∨(r.2=0∧∃(bf bm:Nat) (A:OAd) (n c:Nat) (u v z:Value) (fs:LIn),e=.returned (.tuple #[.pointer (some ⟨bf,0,none⟩),.int .i64 0])∧oH w' w.heap.size bf bm N.places A n c most u v z r.1.marks r.1.marks r.1.arcs fs∧N6 N most.toNat r.1 fs 7200∧r.1.marks.length≤300))
theorem sG {w:World}{P:Int}{A B:OAd}{n c m d:Nat}{ts:List aI}{xs:LIn}(most:Int)(h:bK w A n c ts)(g:aJ w B m d xs) :
  Calls Tryz.prog 63 #[.agg #[.int .i64 P,.slice A n c],.slice B m d,.int .i64 most] w (N7 ⟨P,ts⟩ most (bG ⟨P,ts⟩ xs most) w):=by
 have HB:=aA (aB w);have H:=aA h;have G:=aA g;have gs:=g.small;clear h g;have hmm:=@run_makeMap Tryz.prog;by_cases hm:1≤most∧most≤300
 ·obtain⟨hm1,hm2⟩:=hm;obtain⟨M,rfl⟩:∃M:Nat,most=(M:Int):=⟨most.toNat,by omega⟩;have MM:=aA (show(1:Int)≤(M:Int)∧(M:Int)≤300 from⟨hm1,hm2⟩);have hf1:¬(M:Int)<1:=by omega
  have hf2:¬(M:Int)>300:=by omega
  clear hm1 hm2;go_enter Tryz.func63,Tryz.ntmps63
  cases hok:dS ⟨P,ts⟩ xs
  ·have FE:=aA (show bG ⟨P,ts⟩ xs (M:Int)=(PSp.nil,2) by rw[bG,if_neg (by rw[hok];simp)]);have FIN:=aA (show dR ⟨P,ts⟩ xs=([],2) by rw[dR,hok];rfl);clear hok hmm;go_wp2_with ((with_reducible refine(qE (H.o.keep (HB.o _)) (G.o.keep (HB.o _))).mono ?_);rw[FIN.o];rintro e w1 ⟨C,l,lc,rfl,hi,hb1⟩;have B1:=aA ((HB.o (.cells #[.int .i64 P,.slice A n c] 24)).trans (hb1.mono (by simp)));clear hi hb1)
   exact bodyPost_ret (v:=.tuple #[.pointer none,.int .i64 2]) (by simp[results,Tryz.results63,go_sem]) rfl (by rw[FE.o];exact⟨B1.o,.inl ⟨by decide,rfl⟩⟩)
  ·have FT:=aA hok;have FIN:=aA (show dR ⟨P,ts⟩ xs=(fE ts xs,0) by rw[dR,hok];rfl);have HX:=aA (show xs.length≤16 by
    obtain⟨h1,h2,_⟩:=(bD _ _).1 hok;have h3:=((aQ _).1 h1).2.1;simp only at h2 h3;omega)
   have hm16:m≤16:=by rw[←G.o.len];exact HX.o
   clear hok;go_upto_region 6 with((with_reducible refine(qE (H.o.keep (HB.o _)) (G.o.keep (HB.o _))).mono ?_);rw[FIN.o];rintro e w1 ⟨C,l,lc,rfl,hi,hb1⟩;have B1:=aA ((HB.o (.cells #[.int .i64 P,.slice A n c] 24)).trans (hb1.mono (by simp)));have c0:w1.cell? ⟨w.heap.size,0,none⟩=some (.int .i64 P):=(hb1.cell (by simp)).trans (by simp);have c1:w1.cell? ⟨w.heap.size,1,none⟩=some (.slice A n c):=(hb1.cell (by simp)).trans (by simp);clear hi hb1)
   go_upto_region 7 with fail
   clear hmm c0 c1;have F0:=aA (oH.start w1 B1.o.size P A n c (M:Int));have B2:=aA ((B1.o.alloc B1.o.size (.map #[] 0)).alloc (Nat.le_trans B1.o.size (by simp)) (.cells #[.int .i64 P,.slice A n c,.int .i64 (M:Int),.map (some w1.heap.size),.slice none 0 0,.slice none 0 0,.slice none 0 0] 153));generalize (w1.alloc (.map #[] 0)).alloc (.cells #[.int .i64 P,.slice A n c,.int .i64 (M:Int),.map (some w1.heap.size),.slice none 0 0,.slice none 0 0,.slice none 0 0] 153)=w2 at *
   generalize w1.heap.size+1=bf at *
   generalize w1.heap.size=bm at *
   have G2:=aA (G.o.keep B2.o);have FP:=aA (show mA M [] [] xs (-1)=([xs],[-1],0,true) by
    have hM0:¬(0=M):=by have:=MM.o;omega
    simp[mA,eH,hM0])
   have GE:=aA (show bG ⟨P,ts⟩ xs (M:Int)=(match goM ⟨P,ts⟩ M M 0 ⟨[xs],[]⟩with|some s=>(s,0)|none=>(PSp.nil,4)) by
    rw[bG,if_pos ⟨MM.o.1,MM.o.2,FT.o⟩];rfl)
   have EX:=aA (fun(w':World) (u v z:Value) (h1:oH w' w.heap.size bf bm P A n c (M:Int) u v z [xs] [xs] [] [-1]) (h2:Below w.heap.size w w')=>zB (s:=⟨[xs],[]⟩) H.o (by have:=MM.o;omega) h1 h2 ⟨lW.start FT.o (by have:=MM.o;omega),EK.start xs,Nat.le_refl _⟩);have RX:=aA ((bD _ _).1 FT.o).2.2;obtain⟨r,hr⟩:∃r,goM ⟨P,ts⟩ M M 0 ⟨[xs],[]⟩=r:=⟨_,rfl⟩;rw[hr]at GE;simp only[hr]at EX;clear hr;cases r with
   | none =>
    go_wp2_with (first
     |(go_at_call 73;(with_reducible refine(bE G2.o (by omega)).mono ?_);rintro e w3 ⟨vv,rfl,own,hb3⟩;obtain⟨X,cx,rfl,ix⟩:=own.sl (by omega);have CALL:=aA (rJ (-1) (F0.o.keep hb3) (B2.o.trans (hb3.mono B2.o.size)) ix (by omega) RX.o (F0.o.apart (fun ad had=>by subst had;exact(own.lt ad.block rfl).1)) (by simp) (by simp));clear own ix hb3)
     |(go_at_call 111;go_loud ((with_reducible refine CALL.o.mono ?_);rw[FP.o];rintro e w4 ⟨u',z',rfl,F4,B4,S4,K4⟩;have CALX:=aA (EX.o w4 _ _ _ F4 B4);clear F4 B4 S4 K4))
     |(go_at_call 112;go_loud ((with_reducible refine CALX.o.mono ?_);rintro e w5 ⟨B5,rfl⟩;have BZ:=aA B5;clear B5)))
    exact bodyPost_ret (v:=.tuple #[.pointer none,.int .i64 4]) (by simp[results,Tryz.results63,go_sem]) rfl (by rw[GE.o];exact⟨BZ.o,.inl ⟨by decide,rfl⟩⟩)
   | some s =>
    go_wp2_with (first
     |(go_at_call 73;(with_reducible refine(bE G2.o (by omega)).mono ?_);rintro e w3 ⟨vv,rfl,own,hb3⟩;obtain⟨X,cx,rfl,ix⟩:=own.sl (by omega);have CALL:=aA (rJ (-1) (F0.o.keep hb3) (B2.o.trans (hb3.mono B2.o.size)) ix (by omega) RX.o (F0.o.apart (fun ad had=>by subst had;exact(own.lt ad.block rfl).1)) (by simp) (by simp));clear own ix hb3)
     |(go_at_call 111;go_loud ((with_reducible refine CALL.o.mono ?_);rw[FP.o];rintro e w4 ⟨u',z',rfl,F4,B4,S4,K4⟩;have CALX:=aA (EX.o w4 _ _ _ F4 B4);clear F4 B4 S4 K4))
     |(go_at_call 112;go_loud ((with_reducible refine CALX.o.mono ?_);rintro e w5 ⟨B5,rfl,ans⟩;have BZ:=aA B5;have AN:=aA ans;clear B5 ans)))
    obtain⟨u,v,z,fs,hF,hX⟩:=AN.o;exact bodyPost_ret (v:=.tuple #[.pointer (some ⟨bf,0,none⟩),.int .i64 0]) (by simp[results,Tryz.results63,go_sem]) rfl (by rw[GE.o];exact⟨BZ.o,.inr ⟨rfl,bf,bm,A,n,c,u,v,z,fs,rfl,hF,hX,by have:=hX.sp.few;have:=MM.o;simp only;omega⟩⟩)
 ·have FE:=aA (show bG ⟨P,ts⟩ xs most=(PSp.nil,2) by rw[bG,if_neg (fun h=>hm ⟨h.1,h.2.1⟩)]);have BX:=aA (HB.o (.cells #[.int .i64 P,.slice A n c] 24));clear hmm;go_enter Tryz.func63,Tryz.ntmps63
  by_cases h1:most<1
  ·go_wp2
   exact bodyPost_ret (v:=.tuple #[.pointer none,.int .i64 2]) (by simp[results,Tryz.results63,go_sem]) rfl (by rw[FE.o];exact⟨BX.o,.inl ⟨by decide,rfl⟩⟩)
  ·have h2:most>300:=by omega
   clear hm;go_wp2
   exact bodyPost_ret (v:=.tuple #[.pointer none,.int .i64 2]) (by simp[results,Tryz.results63,go_sem]) rfl (by rw[FE.o];exact⟨BX.o,.inl ⟨by decide,rfl⟩⟩)
def tO (r:PSp×Int)(w:World)(e:Ending)(w':World):Prop :=
 ∃U cu V cv,e=.returned (.tuple #[.agg #[.slice U r.1.marks.length cu,.slice V r.1.arcs.length cv],.int .i64 r.2])∧bT w' U r.1.marks.length cu r.1.marks∧tN w' V r.1.arcs.length cv r.1.arcs∧Below w.heap.size w w'
theorem oH.space {w w':World}{B bf bm b ty:Nat}{P:Int}{A:OAd}{n c:Nat}{most:Int}{u v z:Value}{mm ms:LLi}{ars:List bO}{fs:LIn}{cs:Array Value}(h:oH w B bf bm P A n c most u v z mm ms ars fs)(hx:Box w b ty cs)(hcs:∀(j:Nat) (x:Int),cs[j]?≠some (.int .i64 x))(hb:b<B)(hw:aK b w w')(hos:w'.os=w.os)(htape:w'.tape=w.tape)(hout:w'.output=w.output)(hl:ms.length≤7200)(ha:ars.length≤7200) :
  ∃U cu V cv,u=.slice U ms.length cu∧v=.slice V ars.length cv∧bT w' U ms.length cu ms∧tN w' V ars.length cv ars:=by
 have hg:w.grownBy w' (some b):=⟨hos,htape,hout,Nat.le_of_eq hw.1.symm,fun k _ hk=>hw.2 k (fun e=>hk (by rw[e]))⟩;have o1:aC bH 1 w' B 28 u ms.length ms:=h.marks.turn hg (.inr (fun e=>by have:=(h.marks.lt b e).1;omega)) (fun vs x hx'=>by
  obtain⟨A,n,c,e,i,l,_⟩:=hx';exact⟨A,n,c,e,i.beside hx hcs hw,by omega⟩)
 have o2:aC tM 3 w' B 156 v ars.length ars:=h.arcs.turn hg (.inr (fun e=>by have:=(h.arcs.lt b e).1;omega)) (fun vs x hx'=>hx');obtain⟨U,cu,e1,s1⟩:=o1.sl (by omega);obtain⟨V,cv,e2,s2⟩:=o2.sl (by omega);exact⟨U,cu,V,cv,e1,e2,s1,s2⟩
theorem JQ {w w':World}{k:Int}(hb:Below w.heap.size w w'):tO (PSp.nil,k) w (.returned (.tuple #[.agg #[.slice none 0 0,.slice none 0 0],.int .i64 k])) w' :=
 ⟨none,0,none,0,rfl,Sl.nil0,Sl.nil0,hb⟩
theorem rK {N:aS}{m:LIn}{most:Int}(h:(bG N m most).2≠0):(bG N m most).1=PSp.nil:=by
 unfold bG at h ⊢;split
 ·rename_i h1
  rw[if_pos h1]at h;cases hg:goM N most.toNat most.toNat 0 ⟨[m],[]⟩ with
  | none=>rfl
  | some s=>rw[hg]at h;simp at h
 ·rfl
theorem fR {B b:Nat}{w0 w:World}(h:Below B w0 w)(hB:B≤w0.heap.size)(hb:B≤b)(u v:Value):Below B w0 ((w.setCell ⟨b,0,none⟩ u).setCell ⟨b,1,none⟩ v) :=
 (h.grown (cE w b 0 u) (Nat.le_trans hB h.size) (fun k hk=>by cases hk;exact hb)).grown (cE _ b 1 v) (by simpa [World.setCell] using Nat.le_trans hB h.size) (fun k hk=>by cases hk;exact hb)
theorem uW {w:World}{P:Int}{A B:OAd}{n c m d:Nat}{ts:List aI}{xs:LIn}(most:Int)(h:bK w A n c ts)(g:aJ w B m d xs) :
  Calls Tryz.prog 25 #[.agg #[.int .i64 P,.slice A n c],.slice B m d,.int .i64 most] w (tO (bG ⟨P,ts⟩ xs most) w):=by
 generalize hw:((w.alloc (.cells #[.int .i64 P,.slice A n c] 24)).alloc (.cells #[.slice none 0 0,.slice none 0 0] 83))=w0;have HB:=aA (show Below w.heap.size w w0 by rw[←hw];exact((Below.refl _ _).alloc (Nat.le_refl _) _).alloc (by simp) _);have X0:=aA (show Box w0 w.heap.size 24 #[.int .i64 P,.slice A n c] by rw[←hw];exact(Box.new _ _ _).old _);have X1:=aA (show Box w0 (w.heap.size+1) 83 #[.slice none 0 0,.slice none 0 0] by rw[←hw];exact Box.newAt (by simp) _ _);have CS:=aA (sG (P:=P) most (h.keep HB.o) (g.keep HB.o));have ER:=aA (rK (N:=⟨P,ts⟩) (m:=xs) (most:=most));clear h g;obtain⟨r,hr⟩:∃r,bG ⟨P,ts⟩ xs most=r:=⟨_,rfl⟩;rw[hr]at CS ER;rw[hr];clear hr;obtain⟨s,k⟩:=r;go_enter Tryz.func25,Tryz.ntmps25
 go_upto_region 1 with fail
 clear hw;obtain⟨a0,a1⟩:=X0.o.two;obtain⟨z0,z1⟩:=X1.o.two;have f0:=X1.o.frozen 0;have f1:=X1.o.frozen 1;by_cases hk:k=0
 ·subst hk;go_upto_region 2 with(go_at_call 63;go_loud ((with_reducible refine CS.o.mono ?_);rintro e w1 ⟨B1,⟨hne,_⟩|⟨_,bf,bm,A1,n1,c1,u,v,z,fs,rfl,hF,hX,hms'⟩⟩;(exact absurd rfl hne);have FF:=aA hF;have XX:=aA hX;have BB:=aA B1;have HMS:=aA hms';clear hF hX B1 hms'))
  have Y1:=aA (X1.o.keep BB.o);have BZ:=aA (HB.o.trans (BB.o.mono HB.o.size));have Hlt:=aA X1.o.lt;clear X0 X1 HB CS ER a0 a1 z0 z1 f0 f1 BB;have hms:s.marks.length≤300:=HMS.o;obtain⟨U,cu,V,cv,eu,ev,hL,hA⟩:=FF.o.space Y1.o jF Hlt.o (aK.set2 w1 (w.heap.size+1) 0 1 u v) rfl rfl rfl (by omega) XX.o.arcs;subst eu ev;have LL:=aA hL;have LA:=aA hA;clear hL hA;have c4:w1.cell? ⟨bf,4,none⟩=some (.slice U s.marks.length cu):=FF.o.box.cell 4;have c5:w1.cell? ⟨bf,5,none⟩=some (.slice V s.arcs.length cv):=FF.o.box.cell 5;obtain⟨z0,z1⟩:=Y1.o.two;have f0:=Y1.o.frozen 0;have f1:=Y1.o.frozen 1;go_wp2
  obtain⟨r0,r1⟩:=(Y1.o.set2 (.slice U s.marks.length cu) (.slice V s.arcs.length cv)).two;have BW:=fR BZ.o (Nat.le_refl _) (show w.heap.size≤w.heap.size+1 by omega) (.slice U s.marks.length cu) (.slice V s.arcs.length cv);exact bodyPost_ret (v:=.tuple #[.agg #[.slice U s.marks.length cu,.slice V s.arcs.length cv],.int .i64 0]) (by simp[results,Tryz.results25,go_sem,r0,r1]) rfl ⟨U,cu,V,cv,rfl,LL.o,LA.o,BW⟩
 ·have ES:=aA (ER.o hk);simp only at ES;go_upto_region 2 with(go_at_call 63;go_loud ((with_reducible refine CS.o.mono ?_);rintro e w1 ⟨B1,⟨_,rfl⟩|⟨he,_⟩⟩;rotate_left;(exact absurd he hk);have BB:=aA B1;clear B1))
  have Y1:=aA (X1.o.keep BB.o);have BZ:=aA (HB.o.trans (BB.o.mono HB.o.size));clear X0 X1 HB CS ER a0 a1 z0 z1 f0 f1 BB;obtain⟨z0,z1⟩:=Y1.o.two;have f0:=Y1.o.frozen 0;have f1:=Y1.o.frozen 1;go_wp2
  obtain⟨r0,r1⟩:=(Y1.o.set2 (.slice none 0 0) (.slice none 0 0)).two;have BW:=fR BZ.o (Nat.le_refl _) (show w.heap.size≤w.heap.size+1 by omega) (.slice none 0 0) (.slice none 0 0);obtain rfl:s=PSp.nil:=ES.o;exact bodyPost_ret (v:=.tuple #[.agg #[.slice none 0 0,.slice none 0 0],.int .i64 k]) (by simp[results,Tryz.results25,go_sem,r0,r1]) rfl (JQ BW)
end Go.Proofs.YtfmnagcglhlicaaGreat
