/- Texts melted into one: slices.IndexFunc and slices.DeleteFunc on integers, with a test that may lay blocks. Conditions: the slice is the call's own. | Rows of lists that are the call's own.  -/
import Derived.Lib.SliceRun
import Derived.Lib.LazyBuf
import Derived.Test.YtfmnagcglhlicaaGreatTopCrashK17
set_option maxRecDepth 100000
set_option maxHeartbeats 4000000
namespace Go.Proofs.YtfmnagcglhlicaaGreat
open Go.RowKit
structure QG {α:Type}(p:α→Bool)(ars L:List α)(i j:Nat):Prop where
 len:L.length=ars.length
 le:i≤j
 kept:L.take i=(ars.take j).filter fun a=>!p a
 rest:∀q,j≤q→L[q]?=ars[q]?
section
variable {α:Type} {p:α→Bool} {ars L:List α} {i j:Nat} {a:α}
theorem QG.skip (h:QG p ars L i j)(ha:ars[j]?=some a)(hp:p a=true):QG p ars L i (j+1) where
 len:=h.len
 le:=by have:=h.le;omega
 kept:=by rw[bL ha,List.filter_append,h.kept];simp[hp]
 rest:=fun q hq=>h.rest q (by omega)
theorem QG.take (h:QG p ars L i j)(ha:ars[j]?=some a)(hp:p a=false):QG p ars (L.set i a) (i+1) (j+1) where
 len:=by rw[List.length_set];exact h.len
 le:=by have:=h.le;omega
 kept:=by
  have hj:=(List.getElem?_eq_some_iff.1 ha).1;have hl:=h.len;have hle:=h.le;rw[bL ha,List.filter_append,←h.kept,bL (x:=a) (List.getElem?_set_self (by omega)),List.take_set_of_le (Nat.le_refl _)];simp[hp]
 rest:=fun q hq=>by
  have:=h.le;rw[List.getElem?_set_ne (by omega)];exact h.rest q (by omega)
theorem Dl (p:α→Bool):∀ars:List α,(∀(j:Nat) (y:α),ars[j]?=some y→p y=false)∨∃(k:Nat) (x:α),ars[k]?=some x∧p x=true∧∀(j:Nat),j<k→∀y,ars[j]?=some y→p y=false
 | []=>.inl fun j y h=>by simp at h
 | a::l=>by
  cases h:p a
  ·rcases Dl p l with h1|⟨k,x,h1,h2,h3⟩
   ·refine .inl fun j y hy=>?_
    match j,hy with
    | 0,hy=>simp only[List.getElem?_cons_zero,Option.some.injEq]at hy;rw[←hy];exact h
    | j+1,hy=>exact h1 j y (by simpa using hy)
   ·refine .inr ⟨k+1,x,by simpa using h1,h2,fun j hj y hy=>?_⟩;match j,hj,hy with
    | 0,_,hy=>simp only[List.getElem?_cons_zero,Option.some.injEq]at hy;rw[←hy];exact h
    | j+1,hj,hy=>exact h3 j (by omega) y (by simpa using hy)
  ·exact .inr ⟨0,a,rfl,h,fun j hj=>absurd hj (by omega)⟩
theorem sJ {l:List α}(h:∀(j:Nat) (y:α),l[j]?=some y→p y=false):l.filter (fun a=>!p a)=l:=by
 rw[List.filter_eq_self];intro a ha;obtain⟨j,hj,rfl⟩:=List.getElem_of_mem ha;rw[h j _ (List.getElem?_eq_getElem hj)];rfl
theorem QG.start {k:Nat}{x:α}(hx:ars[k]?=some x)(hp:p x=true)(lo:∀(j:Nat),j<k→∀y,ars[j]?=some y→p y=false):QG p ars ars k (k+1) where
 len:=rfl
 le:=by omega
 kept:=by
  rw[bL hx,List.filter_append,sJ (fun j y hy=>?_)]
  ·simp[hp]
  ·rw[List.getElem?_take]at hy;split at hy
   ·exact lo j (by assumption) y hy
   ·cases hy
 rest:=fun q _=>rfl
end
theorem sL {B e g n cap:Nat}:∀(vs:List Value) (o:Nat) (w:World) (cells:List Value),w.ownsRow B e 1 (.slice (some ⟨g,0,none⟩) n cap) n cells →
  ∃cells',(w.setCells g o vs).ownsRow B e 1 (.slice (some ⟨g,0,none⟩) n cap) n cells'∧cells'.take o=cells.take o
 | [],o,w,cells,h=>⟨cells,h,rfl⟩
 | v::r,o,w,cells,h=>by
  obtain⟨c2,h1,h2⟩:=sL r (o+1) (w.setCell ⟨g,o,none⟩ v) _ (h.stored o v).1;refine⟨c2,h1, ?_⟩;have e1:c2.take o=(c2.take (o+1)).take o:=by rw[List.take_take];congr 1;omega
  rw[e1,h2,List.take_take,Nat.min_eq_left (by omega),List.take_set_of_le (Nat.le_refl _)]
theorem US {w:World}{B e n k g cap:Nat}{cells:List Value}(h:w.ownsRow B e 1 (.slice (some ⟨g,0,none⟩) n cap) n cells)(hk:k≤n):w.ownsRow B e 1 (.slice (some ⟨g,0,none⟩) k cap) k (cells.take k):=by
 obtain⟨h0,h1⟩:=h;refine⟨by rw[List.length_take];omega, ?_⟩;rcases h1 with⟨hv,_⟩|⟨g',cap',cur,hv,hg,hb,a1,a2,a3,a4⟩
 ·cases hv
 ·injection hv with e1 e2 e3;subst e3;injection e1 with e1;injection e1 with e1;subst e1;refine .inr ⟨g,cap,cur,rfl,hg,hb,by omega,a2,a3, ?_⟩;rw[←a4,List.take_take];congr 1
  omega
def cF (B:Nat):World→(Nat→Value)→LIn→Prop:=fun w vs xs=>∃n,aD w B (vs 0) n xs∧n≤17592186043904
theorem cF.kept (B:Nat):t8 (cF B):=fun _ _ _ _ hb ⟨n,h,l⟩=>⟨n,h.keep iG.kept hb,l⟩
theorem cF.list {B:Nat}{w:World}{vs:Nat→Value}{xs:LIn}(h:cF B w vs xs):bH w vs xs:=by
 obtain⟨n,o,l⟩:=h;obtain⟨A,c,e,i⟩:=o.sl (by omega);exact⟨A,n,c,e,i,l⟩
theorem cF.grown {B B2 size n e:Nat}{w w':World}{v:Value}{cells:List Value}(hown:w.ownsRow B2 e size v n cells)(hne:3≠e)(hg:w.grownBy w' v.ownBlock){vs:Nat→Value}{xs:LIn}(h:cF B w vs xs):cF B w' vs xs:=by
 obtain⟨m,⟨c1,a1,a2,a3⟩,l⟩:=h;exact⟨m,⟨c1,a1.kept hg (fO a1 hown hne),⟨a2.1,a2.2⟩,a3⟩,l⟩
theorem Dm {B B2 n:Nat}{w:World}{v:Value}{xs:LLi}(h:aC (cF B) 1 w B2 28 v n xs):∀w',w.grownBy w' v.ownBlock→∀vs y,cF B w vs y→cF B w' vs y:=by
 obtain⟨cells,h1,_⟩:=h;exact fun w' hg vs y hy=>hy.grown h1 (by decide) hg
theorem a6.list1 {R:World→(Nat→Value)→LIn→Prop}{w:World}{v:Value}{xs:LIn}(h:R w (fun _=>v) xs):a6 R 1 w [v] [xs] :=
 a6.one h rfl (fun j hj=>by cases j with|zero=>rfl|succ j=>omega)
section
variable {w w':World} {B B2 g n cap:Nat} {L:LLi}
abbrev Xa (w:World)(B B2:Nat)(v:Value)(n:Nat)(L:LLi):Prop:=aC (cF B) 1 w B2 28 v n L
theorem Xa.lists {v:Value}(h:Xa w B B2 v n L)(hn:n≤5864062014805):∃A c,v=.slice A n c∧bT w A n c L:=by
 obtain⟨A,c,rfl,s⟩:=h.sl (by omega);exact⟨A,c,rfl,s.len,s.le,s.cap,s.small,s.nul,fun hn=>by
  obtain⟨b,off,e,hb,hx⟩:=s.cells hn;exact⟨b,off,e,hb,fun i x hi=>by obtain⟨vs,a,r⟩:=hx i x hi;exact⟨vs,a,r.list⟩⟩⟩
end
theorem kF (g:Nat):∀(vs:List Value) (o:Nat) (w:World),w.grownBy (w.setCells g o vs) (some g)
 | [],o,w=>World.grownBy.refl _ _
 | v::r,o,w=>(show w.grownBy (w.setCell ⟨g,o,none⟩ v) (some g)from⟨rfl,rfl,rfl,by simp[World.setCell],fun k _ hne=>heap_setCell_other _ _ _ _ (fun e=>hne (by rw[e]))⟩).trans (kF g r (o+1) _)
theorem iE {w w':World}(hb:Below w.heap.size w w')(row:Option Nat):w.grownBy w' row:=⟨hb.os,hb.tape,hb.output,hb.size,fun k hk _=>hb.block k hk⟩
theorem fW (w:World)(b j:Nat)(v:Value):w.grownBy (w.setCell ⟨b,j,none⟩ v) (some b) :=
 ⟨rfl,rfl,rfl,by simp[World.setCell],fun k _ hne=>heap_setCell_other _ _ _ _ (fun e=>hne (by rw[e]))⟩
def IsL (w:World)(N:Nat)(v:Value)(n:Nat)(xs:LIn):Prop:=∃A c,v=.slice A n c∧aJ w A n c xs∧(0<n→∀a,A=some a→a.block<N)
def zF (N:Nat):World→(Nat→Value)→LIn→Prop:=fun w vs xs=>∃n,IsL w N (vs 0) n xs∧n≤17592186043904
section
variable {w w':World} {N n:Nat} {v:Value} {xs:LIn}
theorem IsL.keep (h:IsL w N v n xs)(hb:Below w.heap.size w w'):IsL w' N v n xs:=by
 obtain⟨A,c,e,i,l⟩:=h;exact⟨A,c,e,i.keep hb,l⟩
theorem IsL.grown (h:IsL w N v n xs){g:Nat}(hg:w.grownBy w' (some g))(hN:N≤g):IsL w' N v n xs:=by
 obtain⟨A,c,e,i,l⟩:=h;refine⟨A,c,e,aJ.same i hg.size (fun b off e2 hn hb=>hg.block b hb (fun e3=>?_)),l⟩;have:=l hn _ e2;injection e3 with e3;change b<N at this
 omega
theorem IsL.grownR (h:IsL w N v n xs){row:Option Nat}(hg:w.grownBy w' row)(hN:∀k,row=some k→N≤k):IsL w' N v n xs:=by
 obtain⟨A,c,e,i,l⟩:=h;refine⟨A,c,e,aJ.same i hg.size (fun b off e2 hn hb=>hg.block b hb (fun e3=>?_)),l⟩;have:=l hn _ e2;have:=hN b e3.symm;change b<N at *
 omega
end
theorem zF.grownR {N:Nat}{w w':World}{vs:Nat→Value}{xs:LIn}(h:zF N w vs xs){row:Option Nat}(hg:w.grownBy w' row)(hN:∀k,row=some k→N≤k):zF N w' vs xs:=by
 obtain⟨n,i,l⟩:=h;exact⟨n,i.grownR hg hN,l⟩
theorem zF.kept (N:Nat):t8 (zF N):=fun _ _ _ _ hb ⟨n,h,l⟩=>⟨n,h.keep hb,l⟩
theorem zF.list {N:Nat}{w:World}{vs:Nat→Value}{xs:LIn}(h:zF N w vs xs):bH w vs xs:=by
 obtain⟨n,⟨A,c,e,i,_⟩,l⟩:=h;exact⟨A,n,c,e,i,l⟩
theorem zF.good (N:Nat):Jj (zF N) 1 where
 kept:=zF.kept N
 one:=fun w vs x h j hj=>bH.good.one w vs x h.list j hj
 pos:=by omega
theorem zF.of_list {w:World}{vs:Nat→Value}{xs:LIn}(h:bH w vs xs):zF w.heap.size w vs xs:=by
 obtain⟨A,n,c,e,i,l⟩:=h;refine⟨n,⟨A,c,e,i,fun hn a ha=>?_⟩,l⟩;obtain⟨b,off,e2,hb,_⟩:=i.cells hn;rw[e2]at ha;injection ha with ha;rw[←ha];exact hb
theorem Sl.lows {w:World}{A:OAd}{n c:Nat}{L:LLi}(h:bT w A n c L):Sl (zF w.heap.size) 1 w A n c L :=
 ⟨h.len,h.le,h.cap,h.small,h.nul,fun hn=>by
  obtain⟨b,off,e,hb,hx⟩:=h.cells hn;exact⟨b,off,e,hb,fun i x hi=>by obtain⟨vs,a,r⟩:=hx i x hi;exact⟨vs,a,zF.of_list r⟩⟩⟩
section
variable {w w':World} {B B2 g n cap:Nat} {L:LLi}
abbrev oI (w:World)(B B2:Nat)(v:Value)(n:Nat)(L:LLi):Prop:=aC (zF B) 1 w B2 28 v n L
theorem oI.keep {v:Value}(h:oI w B B2 v n L)(hb:Below w.heap.size w w'):oI w' B B2 v n L:=aC.keep (zF.kept B) h hb
theorem oI.lists {v:Value}(h:oI w B B2 v n L)(hn:n≤5864062014805):∃A c,v=.slice A n c∧bT w A n c L:=by
 obtain⟨A,c,rfl,s⟩:=h.sl (by omega);exact⟨A,c,rfl,s.len,s.le,s.cap,s.small,s.nul,fun hn=>by
  obtain⟨b,off,e,hb,hx⟩:=s.cells hn;exact⟨b,off,e,hb,fun i x hi=>by obtain⟨vs,a,r⟩:=hx i x hi;exact⟨vs,a,r.list⟩⟩⟩
theorem oI.at (h:oI w B B2 (.slice (some ⟨g,0,none⟩) n cap) n L){j:Nat}{a:LIn}(ha:L[j]?=some a):∃A m c,w.cell? ⟨g,j,none⟩=some (.slice A m c)∧IsL w B (.slice A m c) m a∧m≤17592186043904:=by
 obtain⟨cells,h1,h2,h3⟩:=h;obtain⟨vs,e,m,⟨A,c,ev,hm,hp⟩,hl⟩:=h2.2 j a ha;have e0:=e 0 (by omega);rw[ev]at e0;have hj:j<n:=by rw[←h3];exact(List.getElem?_eq_some_iff.1 ha).1
 exact⟨A,m,c,by rw[h1.cellAt j (by omega)];simpa using e0,⟨A,c,rfl,hm,hp⟩,hl⟩
theorem oI.frozen (h:oI w B B2 (.slice (some ⟨g,0,none⟩) n cap) n L)(j:Nat):w.frozen? ⟨g,j,none⟩=false:=by
 obtain⟨cells,h1,_⟩:=h;exact h1.frozenAt j
theorem oI.put (h:oI w B B2 (.slice (some ⟨g,0,none⟩) n cap) n L)(hBB:B≤B2)(i:Nat){v:Value}{m:Nat}{a:LIn}(hv:IsL w B v m a)(hm:m≤17592186043904):oI (w.setCell ⟨g,i,none⟩ v) B B2 (.slice (some ⟨g,0,none⟩) n cap) n (L.set i a):=by
 have hg2:=(h.lt g rfl).1;have hv2:=hv.grown (fW w g i v) (by omega);obtain⟨cells,h1,h2,h3⟩:=h;refine⟨_,(h1.stored i v).1,⟨by simpa using h2.1,fun k x hx=>?_⟩,by simpa using h3⟩;rw[List.getElem?_set]at hx;split at hx
 ·rename_i e
  subst e;split at hx
  ·rename_i hlt
   injection hx with hx;subst hx;refine⟨fun _=>v,fun j hj=>?_,m,hv2,hm⟩;obtain rfl:j=0:=by omega
   rw[List.getElem?_set,if_pos (by omega),if_pos (by have:=h2.1;omega)]
  ·cases hx
 ·rename_i hne
  obtain⟨vs,e,m2,hR,hl⟩:=h2.2 k x hx;refine⟨vs,fun j hj=>?_,m2,hR.grown (fW w g i v) (by omega),hl⟩;rw[List.getElem?_set,if_neg (by omega)];exact e j hj
theorem oI.cutAt {i:Nat}(h:oI w B B2 (.slice (some ⟨g,0,none⟩) n cap) n L)(hBB:B≤B2)(hi:i≤n)(vs:List Value):oI (w.setCells g i vs) B B2 (.slice (some ⟨g,0,none⟩) i cap) i (L.take i):=by
 have hg2:=(h.lt g rfl).1;obtain⟨cells,h1,h2,h3⟩:=h;obtain⟨c2,r1,r2⟩:=sL vs i w _ h1;have r3:=US r1 hi;rw[r2]at r3;have hg:=kF g vs i w;refine⟨_,r3,⟨by have:=h2.1;simp only[List.length_take];omega,fun k x hx=>?_⟩,by rw[List.length_take];omega⟩;rw[List.getElem?_take]at hx;split at hx
 ·rename_i hk
  obtain⟨us,e,m2,hR,hl⟩:=h2.2 k x hx;refine⟨us,fun j hj=>?_,m2,hR.grown hg (by omega),hl⟩;rw[List.getElem?_take,if_pos (by omega)];exact e j hj
 ·cases hx
theorem oI.anyCell (h:oI w B B2 (.slice (some ⟨g,0,none⟩) n cap) n L){j:Nat}(hj:j<n):(w.cell? ⟨g,j,none⟩).isSome=true:=by
 obtain⟨A,m,c,e,_⟩:=h.at (j:=j) (List.getElem?_eq_getElem (by rw[h.len];exact hj));rw[e];rfl
theorem oI.ints {m c:Nat}{A:OAd}{a:LIn}(h:IsL w B (.slice A m c) m a)(_hm:m≤17592186043904):aJ w A m c a:=by
 obtain⟨A2,c',e,i,_⟩:=h;injection e with e1 _ e2;rw[e1,e2];exact i
end
structure rM (F:FuncId)(cap:Array Value)(w:World)(g:Nat)(L:LLi)(p:LIn→Bool):Prop where
 enters:∀args w,(callFunc F args).run Tryz.prog w=.ok (.enter F args) w
 calls:∀(wr:World) (A:OAd) (n c:Nat) (y:LIn),y∈L→w.grownBy wr (some g)→aJ wr A n c y →
  Calls Tryz.prog F (#[.slice A n c]++cap) wr fun e w'=>e=.returned (.bool (p y))∧Below wr.heap.size wr w'
theorem mO {w:World}{A:OAd}{n c:Nat}{ms:LLi}{F:FuncId}{cap:Array Value}{g:Nat}{p:LIn→Bool}(h:bT w A n c ms)(hp:rM F cap w g ms p) :
  Calls Tryz.prog 26 #[.slice A n c,.func (.func F) #[] cap] w fun e w'=>e=.returned (.int .i64 (cC p ms))∧Below w.heap.size w w':=by
 have hn:=h.small;have henter:=hp.enters;have H:=aA h;have HP:=aA hp;clear h hp;go_enter Tryz.func26,Tryz.ntmps26
 go_wp2
 go_loopw [8] (fun i wr=>∃k:Nat,k≤n∧i=.int .i64 k∧Hid (∀j,j<k→∀y,ms[j]?=some y→p y=false)∧Hid (Below w.heap.size w wr)) (fun i _=>n-(intOf i).toNat)
 case atStart=>exact⟨0,Nat.zero_le _,rfl,fun j hj=>absurd hj (by omega),Below.refl _ _⟩
 case round =>
  obtain⟨k,hk,rfl,hlow,D⟩:=hrel;by_cases hlt:k<n
  ·have hki:(k:Int)<(n:Int):=by omega
   obtain⟨b,off,t,vs,rfl,hb,ht,hc,A1,n1,c1,e1,i1,hn1⟩:=Sl.get (Sl.keep bH.kept H.o D.o) hlt;have q0:wr.cell? ⟨b,off+k,none⟩=some (.slice A1 n1 c1):=by have:=hc 0 (by omega);rw[e1]at this;simpa using this
   have CL:=aA (HP.o.calls wr A1 n1 c1 t (List.mem_of_getElem? ht) (iE D.o _) i1);have HT:=aA ht;obtain⟨v,hv⟩:∃v,p t=v:=⟨_,rfl⟩;have HV:=aA hv;rw[hv]at CL;clear hv hc e1 i1 ht;cases v
   ·go_wp2_with (refine CL.o.mono ?_;rintro e w' ⟨rfl,hb'⟩;have HB:=aA hb';clear hb')
    go_roundw
    case rel =>
     refine⟨k+1,by omega,by go_num,fun j hj y hy=>?_,D.o.trans (HB.o.mono D.o.size)⟩;by_cases hjk:j=k
     ·subst hjk;have:=HT.o;rw[hy]at this;injection this with this;rw[this];exact HV.o
     ·exact hlow.o j (by omega) y hy
    case measure=>simp[intOf];omega
   ·go_wp2_with (refine CL.o.mono ?_;rintro e w' ⟨rfl,hb'⟩;have HB:=aA hb';clear hb')
    go_ret
    exact⟨aT (cJ hlow.o HT.o HV.o).symm,D.o.trans (HB.o.mono D.o.size)⟩
  ·go_wp2
   go_ret
   exact⟨aT (cL (fun j hj y hy=>hlow.o j (by have:=H.o.len;omega) y hy)).symm,D.o⟩
def UT (w0:World)(B:Nat)(w:World)(g:Nat)(L:LLi)(e:Ending)(w':World):Prop:=∃k c',e=.returned (.slice (some ⟨g,0,none⟩) k c')∧oI w' B w0.heap.size (.slice (some ⟨g,0,none⟩) k c') k L∧w.grownBy w' (some g)
theorem wQ {w0 w:World}{B g n cap:Nat}{L:LLi}{F:FuncId}{cv:Array Value}{p:LIn→Bool}(own:oI w B w0.heap.size (.slice (some ⟨g,0,none⟩) n cap) n L)(hn:n≤5864062014805)(hp:rM F cv w g L p)(hBB:B≤w0.heap.size) :
  Calls Tryz.prog 121 #[.slice (some ⟨g,0,none⟩) n cap,.func (.func F) #[] cv] w (UT w0 B w g (L.filter fun a=>!p a)):=by
 have henter:=hp.enters;have HP:=aA hp;have OW:=aA own;have hl:=aA (show L.length=n from aC.len own);clear own hp;rcases Dl p L with h1|⟨k,x,hx,hpx,lo⟩
 ·have FN:=aA (sJ h1);have IX:=aA (show cC p L=-1 from cL (fun j hj y hy=>h1 j y hy));obtain⟨A1,c1,e1,LS⟩:=OW.o.lists hn;injection e1 with e1 _ e2;subst e1 e2;clear h1;go_enter Tryz.func121,Tryz.ntmps121
  go_wp2_with (refine(mO LS HP.o).mono ?_;rintro e w1 ⟨rfl,b1⟩;rw[IX.o];have B1:=aA b1;clear b1)
  go_ret
  rw[FN.o];exact⟨n,cap,rfl,OW.o.keep B1.o,iE B1.o _⟩
 ·have IX:=aA (show cC p L=(k:Int)from cJ lo hx hpx);have DI:=aA (QG.start hx hpx lo);have hkn:k<n:=by have:=(List.getElem?_eq_some_iff.1 hx).1;have:=hl.o;omega
  have hk0:((k:Int)==-1)=false:=by simp
  obtain⟨A1,c1,e1,LS⟩:=OW.o.lists hn;injection e1 with e1 _ e2;subst e1 e2;clear lo hx hpx;go_enter Tryz.func121,Tryz.ntmps121
  go_wp2_with (refine(mO LS HP.o).mono ?_;rintro e w1 ⟨rfl,b1⟩;rw[IX.o];have G1:=aA (show w.grownBy w1 (some g)from⟨b1.os,b1.tape,b1.output,b1.size,fun k hk _=>b1.block k hk⟩);have O1:=aA (OW.o.keep b1);clear b1)
  clear OW hk0 LS;go_loopw [5,6] (fun u v wr=>∃i j:Nat,u=.int .i64 i∧v=.int .i64 j∧i<j∧j≤n∧∃M,Hid (oI wr B w0.heap.size (.slice (some ⟨g,0,none⟩) n cap) n M)∧Hid (QG p L M i j)∧Hid (w.grownBy wr (some g))) (fun _ v _=>n-(intOf v).toNat)
  case atStart=>exact⟨k,k+1,rfl,by go_num,by omega,by omega,L,O1,DI,G1⟩
  case round =>
   obtain⟨i,j,rfl,rfl,hij,hj,M,OL,DL,GR⟩:=hrel;by_cases hlt:j<n
   ·have hji:(j:Int)<(n:Int):=by omega
    have hii:(i:Int)<(n:Int):=by omega
    have hin:i<n:=by omega
    have hjl:j<M.length:=by have:=OL.o.len;omega
    obtain⟨a,ha⟩:∃a,M[j]?=some a:=⟨_,List.getElem?_eq_getElem hjl⟩;obtain⟨AA,am,ac,q0,ia,ham⟩:=OL.o.at ha;have IA:=aA ia;have HM:=aA ham;have HA:=aA (show L[j]?=some a by rw[←DL.o.rest j (Nat.le_refl _)];exact ha);have CL:=aA (HP.o.calls wr AA am ac a (List.mem_of_getElem? HA.o) GR.o (oI.ints ia ham));obtain⟨v,hv⟩:∃v,p a=v:=⟨_,rfl⟩;have HV:=aA hv;rw[hv]at CL;clear hv ha hjl ia ham;cases v
    ·go_wp2_with (refine CL.o.mono ?_;rintro e u1 ⟨rfl,b1⟩;have G2:=aA (GR.o.trans (iE b1 (some g)));have O2:=aA (OL.o.keep b1);have IA2:=aA (IA.o.keep b1);obtain⟨v0,y0⟩:=Option.isSome_iff_exists.1 (oI.anyCell O2.o (j:=i) (by omega));have z0:=oI.frozen O2.o i;clear b1)
     go_roundw
     case rel=>exact⟨i+1,j+1,by go_num,by go_num,by omega,by omega,M.set i a,aA (oI.put O2.o hBB i IA2.o HM.o),DL.o.take HA.o HV.o,aA (G2.o.trans (fW _ g i _))⟩
     case measure=>simp[intOf];omega
    ·go_wp2_with (refine CL.o.mono ?_;rintro e u1 ⟨rfl,b1⟩;have G2:=aA (GR.o.trans (iE b1 (some g)));have O2:=aA (OL.o.keep b1);clear b1)
     go_roundw
     case rel=>exact⟨i,j+1,rfl,by go_num,by omega,by omega,M,O2,DL.o.skip HA.o HV.o,G2⟩
     case measure=>simp[intOf];omega
   ·obtain rfl:n=j:=by omega
    have hcl:=aA (fun ty=>Lib.run_clear_slice (P:=Tryz.prog) wr 25 28 ty (.slice none 0 0) Tryz.underlying25 (fun w=>by kernel_rfl) rfl rfl g i (n-i) (cap-i) (by omega) (fun q hq=>oI.anyCell OL.o (by omega)) (fun q hq=>oI.frozen OL.o _));obtain⟨A1,c1,e1,LS⟩:=OL.o.lists hn;injection e1 with e1 _ e2;subst e1 e2;have hcap:=LS.le;have e1:=hcl.o;have hin1:(i:Int)≤(n:Int):=by omega
    have hin2:(i:Int)≤(cap:Int):=by omega
    have hnc:(n:Int)≤(cap:Int):=by omega
    have hc0:¬cap=0:=by omega
    have hci:¬cap=i:=by omega
    have hii:i≤n:=by omega
    have hii2:i≤cap:=by omega
    clear LS;go_wp2
    go_ret
    have FN:M.take i=L.filter fun a=>!p a:=by
     have:=DL.o.kept;rwa[List.take_of_length_le (l:=L) (by rw[hl.o];exact Nat.le_refl _)]at this
    have:=OL.o.cutAt hBB hii (List.replicate (n-i) (.slice none 0 0));rw[FN]at this;exact⟨i,cap,rfl,this,GR.o.trans (kF _ _ _ _)⟩
theorem wR {w:World}{F:FuncId}{cv:Array Value}{p:LIn→Bool}(hp:rM F cv w w.heap.size [] p) :
  Calls Tryz.prog 121 #[.slice none 0 0,.func (.func F) #[] cv] w fun e w'=>e=.returned (.slice none 0 0)∧Below w.heap.size w w':=by
 have henter:=hp.enters;have HP:=aA hp;clear hp;go_enter Tryz.func121,Tryz.ntmps121
 go_wp2_with (refine(mO (Sl.nil0:bT w none 0 0 []) HP.o).mono ?_;rintro e w1 ⟨rfl,b1⟩;rw[show cC p []=-1 from rfl];have B1:=aA b1;clear b1)
 go_ret
 exact⟨rfl,B1.o⟩
theorem lY {w:World}{A:OAd}{n c:Nat}{L:LLi}(h:bT w A n c L)(hn:n≤1000000000000) :
  Calls Tryz.prog 122 #[.slice A n c] w fun e w'=>∃v,e=.returned v∧oI w' w.heap.size w.heap.size v n L∧Below w.heap.size w w':=by
 have HB:=aA (show ∀o,Below w.heap.size w (w.alloc o)from fun o=>(Below.refl _ _).alloc (Nat.le_refl _) _);rcases A with _|ad
 ·have hc:=h.nul rfl;have hn0:n=0:=by have:=h.le;omega
  subst hc hn0;have hx:=List.eq_nil_of_length_eq_zero h.len;subst hx;clear h;have he:=fun(w:World)=>Lib.run_eql_slice_nil (P:=Tryz.prog) w 25 28 none 0 0 0 0 Tryz.underlying25
  go_enter Tryz.func122,Tryz.ntmps122
  go_wp2
  go_ret
  exact⟨_,rfl,aC.nil,Below.refl _ _⟩
 ·have H:=aA h;have O:=aA (aC.empty (R:=zF w.heap.size) (sz:=1) (w:=w) (B:=w.heap.size) (e:=28) (Nat.le_refl _));have SR:=aA (Sl.keep (zF.kept _) (Sl.lows h) (HB.o (.cells #[] 28)));clear h;have he:=fun(w:World)=>Lib.run_eql_slice_nil (P:=Tryz.prog) w 25 28 (some ad) n c 0 0 Tryz.underlying25
  go_enter Tryz.func122,Tryz.ntmps122
  go_wp2_with (at_builtin;refine gY uV (zF.good w.heap.size) rfl _ _ rfl rfl rfl O.o SR.o (HB.o _) (by simp) (by omega) (by omega) (fun w' hg _ _ h=>h.grownR hg (fun k hk=>by injection hk with hk;subst hk;exact Nat.le_refl _)) ?_;intro v1 w1 own1 hg1 hb1)
  go_ret
  exact⟨_,rfl,by simpa using own1,hb1⟩
end Go.Proofs.YtfmnagcglhlicaaGreat
