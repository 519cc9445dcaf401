/- Texts melted into one: Facts on the whole translation that each row of this seat asks. Conditions: none. | The plain law of marks: what chapter 1's calls answer, as functions on lists of int -/
import Derived.Test.YtfmnagcglhlicaaGreatRows
import Derived.JoinedOf
import Derived.Test.YtfmnagcglhlicaaGreatProg
import Derived.WalkKit
import Derived.WalkSpells
import Derived.WalkLawsBesides
import Derived.Lib.MinMax
namespace Go.Proofs.YtfmnagcglhlicaaGreat.Facts
def n0:List Nat:=[
 104,97,114,110,101,115,115]
def n1:List Nat:=[
 99,98,54,98,51,100,99,97,57,100,56,100,100,48,98,102,48,101,51,49,56,48,102,49,50,102,54,51,102,101,98,57,51,56,98,102,52,49,56,98,
 53,54,50,99,99,57,57,50,50,101,97,50,49,57,54,52,54,102,56,57,56,98,48,99]
def n2:List Nat:=[
 99,117,116]
def n3:List Nat:=[
 97,116,32,116,111,107,101,110,104,97,108,108,47,116,111,107,101,110,104,97,108,108,116,111,112,46,84,111,112,83,97,105,100,32,116,111,107,101,110,104,
 97,108,108,47,116,111,107,101,110,104,97,108,108,116,111,112,46,84,111,112,67,114,97,115,104,32,116,111,107,101,110,104,97,108,108,47,116,111,107,101,
 110,104,97,108,108,108,97,119,46,66,101,110,99,104,84,101,108,108,115]
def ch (l:List Nat):List Char:=List.map Char.ofNat l
def headOf:List Char:=ch n0++Char.ofNat 32::(ch n1++Char.ofNat 32::(ch n2++Char.ofNat 32::ch n3))
theorem headChars:Tryz.prog.initOrder=String.ofList headOf:=by kernel_rfl
theorem headList:Tryz.prog.initOrder.toList=headOf:=by rw[headChars,String.toList_ofList]
theorem word_cons (w r:List Char)(h:∀c∈w,c≠Char.ofNat 32):wordsSigns (w++Char.ofNat 32::r)=w::wordsSigns r:=by
 induction w with
 | nil=>rfl
 | cons c w ih =>
  have hc:c≠Char.ofNat 32:=h c (List.mem_cons_self ..);have ih':=ih (fun x hx=>h x (List.mem_cons_of_mem _ hx));show wordsSigns (c::(w++Char.ofNat 32::r))=_
  rw[wordsSigns]
  ·rw[ih']
  ·exact hc
theorem headWords:behindMainWord (wordsSigns headOf)=ch n2::wordsSigns (ch n3):=by
 unfold headOf;rw[word_cons _ _ (by decide),word_cons _ _ (by decide),word_cons _ _ (by decide)];generalize wordsSigns (ch n3)=r;kernel_rfl
theorem strip_of (c:List Char)(r:List (List Char)):∀os:List String,(∀o∈os,(c==o.toList)=false)→stripLifts os (c::r)=([],c::r)
 | [],_=>rfl
 | o::os,h=>by
  rw[stripLifts,if_neg (by rw[h o (List.mem_cons_self ..)];simp)];exact strip_of c r os (fun x hx=>h x (List.mem_cons_of_mem _ hx))
theorem notLift:∀o∈liftWords,(ch n2==o.toList)=false:=by decide
theorem isGc:(ch n2 == "gc".toList)=false:=by kernel_rfl
theorem isSpec:(ch n2 == "spec".toList)=false:=by kernel_rfl
theorem isCarried:(ch n2 == "carried".toList)=false:=by kernel_rfl
theorem isCut:(ch n2 == "cut".toList)=true:=by kernel_rfl
theorem make_of {P:Program}{c:List Char}{r:List (List Char)}(h:behindMainWord (wordsSigns P.initOrder.toList)=c::r)(h1:(c == "gc".toList)=false)(h2:(c == "spec".toList)=false)(h3:(c == "cut".toList)=true):P.make=some .cut:=by
 unfold Program.make;rw[h];simp only[h1,h2,h3,Bool.or_false,Bool.false_eq_true,if_false,Bool.true_or,if_true]
theorem lifts_of {P:Program}{c:List Char}{r:List (List Char)}(h:behindMainWord (wordsSigns P.initOrder.toList)=c::r)(h1:(c == "carried".toList)=false)(h2:∀o∈liftWords,(c==o.toList)=false):P.liftsFinal=false:=by
 have h1':(some c==some "carried".toList)=false:=h1;unfold Program.liftsFinal Program.headLifts;simp only[h,strip_of c r _ h2,List.head?_cons,h1',Bool.false_and,Bool.false_or];split <;> rfl
theorem may_of {P:Program} {c:List Char} {r:List (List Char)} (h:behindMainWord (wordsSigns P.initOrder.toList)=c::r) (h3:(c == "cut".toList)=true) (h2:∀o∈liftWords,(c==o.toList)=false)
  (k1:P.laysLater=false) (k2:P.bearsReflect=false) (k3:P.doorFits []=true):P.mayEnter=true:=by
 have h3':(some c==some "cut".toList)=true:=h3;unfold Program.mayEnter;rw[h];simp only[strip_of c r _ h2,List.head?_cons,h3',k1,k2,k3,Bool.not_false,Bool.or_true,Bool.and_true,Bool.true_and];simp
theorem headIs:behindMainWord (wordsSigns Tryz.prog.initOrder.toList)=ch n2::wordsSigns (ch n3):=by rw[headList,headWords]
theorem make:Tryz.prog.make=some .cut:=make_of headIs isGc isSpec isCut
theorem liftsFinal:Tryz.prog.liftsFinal=false:=lifts_of headIs isCarried notLift
theorem laysLater:Tryz.prog.laysLater=false:=by kernel_rfl
theorem bearsReflect:Tryz.prog.bearsReflect=false:=by kernel_rfl
theorem doorFits:Tryz.prog.doorFits []=true:=by kernel_rfl
theorem mayEnter:Tryz.prog.mayEnter=true:=may_of headIs isCut notLift laysLater bearsReflect doorFits
theorem laidOut:laidOutB Tryz.prog=true:=by kernel_rfl
theorem rowed:mapsRowed Tryz.prog=true:=by kernel_rfl
theorem stopsHeard:Tryz.prog.stopsHeard=true:=by kernel_rfl
theorem stops:Tryz.prog.stops=[]:=by kernel_rfl
theorem stopKnobs:Tryz.prog.stopKnobs=[]:=by kernel_rfl
theorem plainKeys:Tryz.prog.plainKeys=false:=by kernel_rfl
end Go.Proofs.YtfmnagcglhlicaaGreat.Facts
namespace Go.Proofs.YtfmnagcglhlicaaGreat
abbrev LIn:=List Int
abbrev LLi:=List (List Int)
abbrev OAd:=Option Go.Addr
def cC {α:Type}(p:α→Bool)(xs:List α):Int:=match xs.findIdx? p with
 | some k=>(k:Int)
 | none=>-1
theorem cJ {α:Type}{p:α→Bool}{xs:List α}{k:Nat}{x:α}(h:∀j,j<k→∀y,xs[j]?=some y→p y=false)(hx:xs[k]?=some x)(hp:p x=true):cC p xs=(k:Int):=by
 have hf:xs.findIdx? p=some k:=by
  obtain⟨hk,hx'⟩:=List.getElem?_eq_some_iff.1 hx;rw[List.findIdx?_eq_some_iff_getElem];refine⟨hk,by rw[hx'];exact hp,fun j hj=>?_⟩;have:=h j hj _ (List.getElem?_eq_getElem (by omega));simp[this]
 simp[cC,hf]
theorem cL {α:Type}{p:α→Bool}{xs:List α}(h:∀j,j<xs.length→∀y,xs[j]?=some y→p y=false):cC p xs=-1:=by
 have hf:xs.findIdx? p=none:=by
  rw[List.findIdx?_eq_none_iff];intro x hx;obtain⟨j,hj,rfl⟩:=List.getElem_of_mem hx;exact h j hj _ (List.getElem?_eq_getElem hj)
 simp[cC,hf]
theorem gW {α:Type}(p:α→Bool)(xs:List α):decide (0≤cC p xs)=xs.any p:=by
 unfold cC;cases h:xs.findIdx? p with
 | none =>
  rw[List.findIdx?_eq_none_iff]at h;simp only[show ¬((0:Int)≤-1)from by omega,decide_false];symm
  rw[List.any_eq_false];intro x hx;simp[h x hx]
 | some k =>
  rw[List.findIdx?_eq_some_iff_getElem]at h;obtain⟨hk,hp,_⟩:=h;simp only[show(0:Int)≤(k:Int)from by omega,decide_true];symm
  rw[List.any_eq_true];exact⟨xs[k],List.getElem_mem hk,hp⟩
def WF (x:Int):Bool:=decide (x<0)||decide (1000000<x)
def aO (xs:LIn):Bool:=!xs.any WF
theorem bZ (xs:LIn):aO xs=true↔∀x∈xs,0≤x∧x≤1000000:=by
 unfold aO WF;simp only[Bool.not_eq_true',List.any_eq_false];constructor
 ·intro h x hx;have:=h x hx;simp at this;omega
 ·intro h x hx;have:=h x hx;simp;omega
def atL (xs:LIn)(p:Nat):Int:=xs.getD p 0
theorem iQ {xs:LIn}{p:Nat}{x:Int}(h:xs[p]?=some x):atL xs p=x:=by simp[atL,h]
theorem jV {xs:LIn}{p:Nat}(h:xs.length≤p):atL xs p=0:=by simp[atL,List.getElem?_eq_none h]
theorem bV {xs:LIn}(h:aO xs=true)(p:Nat):0≤atL xs p∧atL xs p≤1000000:=by
 unfold atL;by_cases hp:p<xs.length
 ·simp only[List.getD_eq_getElem?_getD,List.getElem?_eq_getElem hp,Option.getD_some];exact(bZ xs).1 h _ (List.getElem_mem hp)
 ·simp[List.getElem?_eq_none (Nat.le_of_not_lt hp)]
def cA (a b:LIn):Bool:=(List.range (max a.length b.length)).all fun p=>decide (atL b p≤atL a p)
theorem oV (a b:LIn):cA a b=true↔∀p,p<max a.length b.length→atL b p≤atL a p:=by
 simp[cA]
theorem eJ (a b:LIn):cA a b=true↔∀p,atL b p≤atL a p:=by
 rw[oV];constructor
 ·intro h p;by_cases hp:p<max a.length b.length
  ·exact h p hp
  ·rw[jV (by omega),jV (by omega)];omega
 ·intro h p _;exact h p
theorem yO {a b:LIn}{p:Nat}(h:atL a p<atL b p):cA a b=false:=by
 cases hc:cA a b
 ·rfl
 ·have:=(eJ a b).1 hc p;omega
def jW (a b:LIn)(t:Int):LIn:=(List.range (max a.length b.length)).map fun p=>atL a p+t*atL b p
theorem gB (a b:LIn)(t:Int):(jW a b t).length=max a.length b.length:=by simp[jW]
theorem yP {a b:LIn}{t:Int}{p:Nat}(h:p<max a.length b.length):(jW a b t)[p]?=some (atL a p+t*atL b p):=by
 simp[jW,List.getElem?_range h]
def yQ (a b:LIn):LIn×Int :=
 if aO a=true∧aO b=true then(if aO (jW a b 1)=true then(jW a b 1,0)else([],4))else([],2)
def sA (a b:LIn):LIn×Int :=
 if aO a=true∧aO b=true then(if aO (jW a b (-1))=true then(jW a b (-1),0)else([],3))else([],2)
theorem nG {a b:LIn}{t:Int}(h:∀p,p<max a.length b.length→0≤atL a p+t*atL b p∧atL a p+t*atL b p≤1000000):aO (jW a b t)=true:=by
 rw[bZ];intro x hx;simp only[jW,List.mem_map,List.mem_range]at hx;obtain⟨p,hp,rfl⟩:=hx;exact h p hp
theorem nY {a b:LIn}{t:Int}{p:Nat}(hp:p<max a.length b.length)(h:atL a p+t*atL b p<0∨1000000<atL a p+t*atL b p):aO (jW a b t)=false:=by
 cases hc:aO (jW a b t)
 ·rfl
 ·have:=(bZ _).1 hc _ (List.mem_iff_getElem?.2 ⟨p,yP hp⟩);omega
def Jf (f:Int→Int→Int×Int)(a b:LIn):Bool:=(List.range (max a.length b.length)).all fun p=>(f (atL a p) (atL b p)).2==0
def Az (f:Int→Int→Int×Int)(a b:LIn):LIn:=(List.range (max a.length b.length)).map fun p=>(f (atL a p) (atL b p)).1
def Hy (f:Int→Int→Int×Int)(E:Int)(a b:LIn):LIn×Int :=
 if aO a=true∧aO b=true then(if Jf f a b=true then(Az f a b,0)else([],E))else([],2)
theorem tX (f:Int→Int→Int×Int)(a b:LIn):(Az f a b).length=max a.length b.length:=by simp[Az]
theorem QL {f:Int→Int→Int×Int}{a b:LIn}{p:Nat}(h:p<max a.length b.length):(Az f a b)[p]?=some (f (atL a p) (atL b p)).1:=by
 simp[Az,List.getElem?_range h]
theorem tY {f:Int→Int→Int×Int}{a b:LIn}{p:Nat}(h:p<max a.length b.length)(hf:(f (atL a p) (atL b p)).2≠0):Jf f a b=false:=by
 cases hc:Jf f a b
 ·rfl
 ·simp only[Jf,List.all_eq_true,List.mem_range,beq_iff_eq]at hc;exact absurd (hc p h) hf
theorem tZ {f:Int→Int→Int×Int}{a b:LIn}(h:∀p,p<max a.length b.length→(f (atL a p) (atL b p)).2=0):Jf f a b=true:=by
 simp only[Jf,List.all_eq_true,List.mem_range,beq_iff_eq];exact h
def wC (x y:Int):Int×Int:=if 1000000<x+y then(0,4)else(x+y,0)
def nZ (x y:Int):Int×Int:=if x<y then(0,3)else(x-y,0)
theorem AH (a b:LIn):Hy wC 4 a b=yQ a b:=by
 unfold Hy yQ;by_cases hr:aO a=true∧aO b=true
 ·rw[if_pos hr,if_pos hr];by_cases ho:∀p,p<max a.length b.length→(wC (atL a p) (atL b p)).2=0
  ·have hm:aO (jW a b 1)=true:=by
    refine nG (fun p hp=>?_);have h1:=ho p hp;have h2:=bV hr.1 p;have h3:=bV hr.2 p;unfold wC at h1;split at h1
    ·simp at h1
    ·omega
   rw[if_pos (tZ ho),if_pos hm];have:Az wC a b=jW a b 1:=by
    unfold Az jW;refine List.map_congr_left (fun p hp=>?_);have h1:=ho p (List.mem_range.1 hp);unfold wC at h1 ⊢;split at h1
    ·simp at h1
    ·rw[if_neg ‹_›];simp
   rw[this]
  ·simp only[Classical.not_forall]at ho;obtain⟨p,hp,hne⟩:=ho;have hm:aO (jW a b 1)=false:=by
    refine nY hp ?_;unfold wC at hne;split at hne
    ·omega
    ·simp at hne
   rw[tY hp hne,hm];rfl
 ·rw[if_neg hr,if_neg hr]
theorem xF (a b:LIn):Hy nZ 3 a b=sA a b:=by
 unfold Hy sA;by_cases hr:aO a=true∧aO b=true
 ·rw[if_pos hr,if_pos hr];by_cases ho:∀p,p<max a.length b.length→(nZ (atL a p) (atL b p)).2=0
  ·have hm:aO (jW a b (-1))=true:=by
    refine nG (fun p hp=>?_);have h1:=ho p hp;have h2:=bV hr.1 p;have h3:=bV hr.2 p;unfold nZ at h1;split at h1
    ·simp at h1
    ·omega
   rw[if_pos (tZ ho),if_pos hm];have:Az nZ a b=jW a b (-1):=by
    unfold Az jW;refine List.map_congr_left (fun p hp=>?_);have h1:=ho p (List.mem_range.1 hp);unfold nZ at h1 ⊢;split at h1
    ·simp at h1
    ·rw[if_neg ‹_›];simp only[];omega
   rw[this]
  ·simp only[Classical.not_forall]at ho;obtain⟨p,hp,hne⟩:=ho;have hm:aO (jW a b (-1))=false:=by
    refine nY hp ?_;unfold nZ at hne;split at hne
    ·omega
    ·simp at hne
   rw[tY hp hne,hm];rfl
 ·rw[if_neg hr,if_neg hr]
theorem bL {α:Type}{xs:List α}{k:Nat}{x:α}(h:xs[k]?=some x):xs.take (k+1)=xs.take k++[x]:=by
 obtain⟨hk,rfl⟩:=List.getElem?_eq_some_iff.1 h;rw[List.take_succ_eq_append_getElem hk]
end Go.Proofs.YtfmnagcglhlicaaGreat
namespace Go.Proofs.YtfmnagcglhlicaaGreat
structure aI where
 label:Int
 pre:LIn
 post:LIn
deriving Inhabited,DecidableEq
structure aS where
 places:Int
 trans:List aI
deriving Inhabited,DecidableEq
def Jg (x:Int):Bool:=decide (x<0)||decide (9<x)
def oC (P:Int)(t:aI):Bool:=decide (0≤t.label)&&decide (t.label≤26)&&decide ((t.pre.length:Int)=P)&&decide ((t.post.length:Int)=P)&&!t.pre.any Jg&&!t.post.any Jg
def cX (N:aS):Bool:=decide (0≤N.places)&&decide (N.places≤16)&&decide (N.trans.length≤24)&&N.trans.all (oC N.places)
def fS (N:aS):Int:=if cX N=true then 0 else 2
theorem fL (P:Int)(t:aI):oC P t=true↔0≤t.label∧t.label≤26∧(t.pre.length:Int)=P∧(t.post.length:Int)=P∧t.pre.any Jg=false∧t.post.any Jg=false:=by
 simp[oC,and_assoc]
theorem aQ (N:aS):cX N=true↔0≤N.places∧N.places≤16∧N.trans.length≤24∧∀t∈N.trans,oC N.places t=true:=by
 simp[cX,and_assoc]
theorem jA {N:aS}(h:cX N=true):fS N=0:=by simp[fS,h]
theorem fN {N:aS}(h:cX N=false):fS N=2:=by simp[fS,h]
theorem wF {N:aS}{k:Nat}{t:aI}(ht:N.trans[k]?=some t)(h:oC N.places t=false):cX N=false:=by
 cases hc:cX N
 ·rfl
 ·have:=((aQ N).1 hc).2.2.2 t (List.mem_iff_getElem?.2 ⟨k,ht⟩);rw[h]at this;cases this
theorem Me {N:aS}(h:N.places<0∨16<N.places∨24<N.trans.length):cX N=false:=by
 cases hc:cX N
 ·rfl
 ·have:=(aQ N).1 hc;omega
theorem Jh {x:Int}(h:Jg x=false):0≤x∧x≤9:=by
 simp[Jg]at h;omega
theorem Ji {α:Type}{p:α→Prop}{xs:List α}:(∀x∈xs,p x)↔∀(j:Nat) (x:α),xs[j]?=some x→p x:=by
 constructor
 ·intro h j x hx;exact h x (List.mem_iff_getElem?.2 ⟨j,hx⟩)
 ·intro h x hx;obtain⟨j,hj⟩:=List.mem_iff_getElem?.1 hx;exact h j x hj
def dS (N:aS)(m:LIn):Bool:=cX N&&decide ((m.length:Int)=N.places)&&aO m
def AO (N:aS)(m:LIn):Int:=if dS N m=true then 0 else 2
theorem pS {N:aS}{m:LIn}(h:dS N m=true):AO N m=0:=by simp[AO,h]
theorem jB {N:aS}{m:LIn}(h:dS N m=false):AO N m=2:=by simp[AO,h]
def fE (ts:List aI)(m:LIn):LIn:=(ts.zipIdx.filter fun p=>cA m p.1.pre).map fun p=>(p.2:Int)
theorem q8 (l:List aI)(t:aI)(m:LIn):fE (l++[t]) m=fE l m++(if cA m t.pre=true then [(l.length:Int)]else []):=by
 unfold fE;rw[List.zipIdx_append,List.filter_append,List.map_append];congr 1
 simp only[List.zipIdx_cons,List.zipIdx_nil,List.filter_cons,List.filter_nil];split <;> simp
theorem AQ (l:List aI)(m:LIn):(fE l m).length≤l.length:=by
 unfold fE;rw[List.length_map];exact Nat.le_trans (List.length_filter_le _ _) (by simp)
def dR (N:aS)(m:LIn):LIn×Int:=if dS N m=true then(fE N.trans m,0)else([],2)
def kO (m:LIn)(t:aI):LIn×Int:=if cA m t.pre=true then(if aO (jW (jW m t.pre (-1)) t.post 1)=true then(jW (jW m t.pre (-1)) t.post 1,0)else([],4))else([],3)
def bW (N:aS)(m:LIn)(t:Int):LIn×Int :=
 if dS N m=true then(if 0≤t∧t<(N.trans.length:Int)then kO m (N.trans.getD t.toNat default)else([],3))else([],2)
theorem dI {xs:LIn}(h:xs.any Jg=false):aO xs=true:=by
 rw[bZ];intro x hx;rw[List.any_eq_false]at h;have:=Jh (x:=x) (by have:=h x hx;simpa using this);omega
theorem pT {m p:LIn}(hm:aO m=true)(hp:aO p=true):sA m p=if cA m p=true then(jW m p (-1),0)else([],3):=by
 rw[sA,if_pos ⟨hm,hp⟩];by_cases hc:cA m p=true
 ·have h1:=(eJ m p).1 hc;rw[if_pos hc,if_pos];refine nG (fun q hq=>?_);have h2:=bV hm q;have h3:=bV hp q;have h4:=h1 q;omega
 ·rw[if_neg hc,if_neg];intro hr;apply hc
  rw[oV];intro q hq;have:=(bZ _).1 hr _ (List.mem_iff_getElem?.2 ⟨q,yP hq⟩);omega
theorem kP {m p:LIn}(hm:aO m=true)(hp:aO p=true)(hc:cA m p=true):aO (jW m p (-1))=true:=by
 have h1:=(eJ m p).1 hc;refine nG (fun q hq=>?_);have h2:=bV hm q;have h3:=bV hp q;have h4:=h1 q;omega
theorem t7 {m:LIn}{t:aI}(hm:aO m=true)(h1:aO t.pre=true)(h2:aO t.post=true)(hc:cA m t.pre=true):yQ (jW m t.pre (-1)) t.post=kO m t:=by
 rw[yQ,if_pos ⟨kP hm h1 hc,h2⟩,kO,if_pos hc]
theorem bD (N:aS)(m:LIn):dS N m=true↔cX N=true∧(m.length:Int)=N.places∧aO m=true:=by
 simp[dS,and_assoc]
theorem cB {N:aS}(h:cX N=true){k:Nat}{t:aI}(ht:N.trans[k]?=some t):0≤t.label∧t.label≤26∧(t.pre.length:Int)=N.places∧(t.post.length:Int)=N.places∧t.pre.any Jg=false∧t.post.any Jg=false :=
 (fL _ _).1 (((aQ N).1 h).2.2.2 t (List.mem_iff_getElem?.2 ⟨k,ht⟩))
open Go.RowKit
theorem _root_.Go.RowKit.Hid.o {p:Prop}(h:Hid p):p:=h
theorem aA {p:Prop}(h:p):Hid p:=h
theorem aT {k:IntKind}{a b:Int}(h:a=b):Ending.returned (.int k a)=Ending.returned (.int k b):=by rw[h]
theorem aY {a b:Bool}(h:a=b):Ending.returned (.bool a)=Ending.returned (.bool b):=by rw[h]
structure Sl {α:Type}(R:World→(Nat→Value)→α→Prop)(sz:Nat)(w:World)(A:OAd)(n c:Nat)(xs:List α):Prop where
 len:xs.length=n
 le:n≤c
 cap:c≤maxLen
 small:n≤281474976710656
 nul:A=none→c=0
 cells:0<n→∃b off,A=some ⟨b,off,none⟩∧b<w.heap.size∧∀(i:Nat) (x:α),xs[i]?=some x →
  ∃vs:Nat→Value,(∀j,j<sz→w.cell? ⟨b,off+(i*sz+j),none⟩=some (vs j))∧R w vs x
def t8 {α:Type}(R:World→(Nat→Value)→α→Prop):Prop:=∀w w' vs x,Below w.heap.size w w'→R w vs x→R w' vs x
section
variable {α:Type} {R:World→(Nat→Value)→α→Prop} {sz:Nat} {w w':World} {A:OAd} {n c:Nat} {xs:List α}
theorem Sl.keep (hR:t8 R)(h:Sl R sz w A n c xs)(hb:Below w.heap.size w w'):Sl R sz w' A n c xs :=
 ⟨h.len,h.le,h.cap,h.small,h.nul,fun hn=>by
  obtain⟨b,off,h1,h2,h3⟩:=h.cells hn;refine⟨b,off,h1,Nat.lt_of_lt_of_le h2 hb.size,fun i x hx=>?_⟩;obtain⟨vs,h4,h5⟩:=h3 i x hx;exact⟨vs,fun j hj=>(hb.cell (p:=⟨b,_,none⟩) h2).trans (h4 j hj),hR _ _ _ _ hb h5⟩⟩
theorem Sl.nil0:Sl R sz w none 0 0 []:=⟨rfl,Nat.zero_le _,by simp[maxLen],by omega,fun _=>rfl,fun h=>absurd h (by omega)⟩
theorem Sl.get {k:Nat}(h:Sl R sz w A n c xs)(hk:k<n) :
  ∃b off x vs,A=some ⟨b,off,none⟩∧b<w.heap.size∧xs[k]?=some x∧(∀j,j<sz→w.cell? ⟨b,off+(k*sz+j),none⟩=some (vs j))∧R w vs x:=by
 obtain⟨b,off,h1,h2,h3⟩:=h.cells (by omega);have hl:k<xs.length:=by rw[h.len];exact hk
 obtain⟨vs,h4,h5⟩:=h3 k xs[k] (List.getElem?_eq_getElem hl);exact⟨b,off,xs[k],vs,h1,h2,List.getElem?_eq_getElem hl,h4,h5⟩
end
structure Jj {α:Type}(R:World→(Nat→Value)→α→Prop)(sz:Nat):Prop where
 kept:t8 R
 one:∀w vs x,R w vs x→∀j,j<sz→(vs j).oneCell'=true
 pos:0<sz
def a6 {α:Type}(R:World→(Nat→Value)→α→Prop)(sz:Nat)(w:World)(cells:List Value)(xs:List α):Prop :=
 cells.length=xs.length*sz∧∀(i:Nat) (x:α),xs[i]?=some x→∃vs:Nat→Value,(∀j,j<sz→cells[i*sz+j]?=some (vs j))∧R w vs x
section
variable {α:Type} {R:World→(Nat→Value)→α→Prop} {sz:Nat} {w w':World} {A:OAd} {n c:Nat} {xs ys:List α} {cs ds:List Value}
theorem a6.nil:a6 R sz w [] []:=⟨by simp,fun i x h=>by simp at h⟩
theorem a6.keep (hR:t8 R)(h:a6 R sz w cs xs)(hb:Below w.heap.size w w'):a6 R sz w' cs xs :=
 ⟨h.1,fun i x hx=>by
  obtain⟨vs,h1,h2⟩:=h.2 i x hx;exact⟨vs,h1,hR _ _ _ _ hb h2⟩⟩
theorem a6.append (h:a6 R sz w cs xs)(g:a6 R sz w ds ys):a6 R sz w (cs++ds) (xs++ys):=by
 refine⟨by rw[List.length_append,List.length_append,h.1,g.1,Nat.add_mul],fun i x hx=>?_⟩;by_cases hi:i<xs.length
 ·rw[List.getElem?_append_left hi]at hx;obtain⟨vs,h1,h2⟩:=h.2 i x hx;refine⟨vs,fun j hj=>?_,h2⟩;rw[List.getElem?_append_left]
  ·exact h1 j hj
  ·exact(List.getElem?_eq_some_iff.1 (h1 j hj)).1
 ·rw[List.getElem?_append_right (by omega)]at hx;obtain⟨vs,h1,h2⟩:=g.2 _ x hx;refine⟨vs,fun j hj=>?_,h2⟩;have e:i*sz=xs.length*sz+(i-xs.length)*sz:=by rw[←Nat.add_mul];congr 1;omega
  rw[List.getElem?_append_right (by rw[h.1];omega),h.1,e,show xs.length*sz+(i-xs.length)*sz+j-xs.length*sz=(i-xs.length)*sz+j from by omega];exact h1 j hj
theorem a6.one {vs:Nat→Value}{x:α}(hR:R w vs x)(hl:cs.length=sz)(hc:∀j,j<sz→cs[j]?=some (vs j)):a6 R sz w cs [x]:=by
 refine⟨by simpa using hl,fun i y hy=>?_⟩;have hi:i=0:=by
  have:=(List.getElem?_eq_some_iff.1 hy).1;simpa using this
 subst hi;simp only[List.getElem?_cons_zero,Option.some.injEq]at hy;subst hy;exact⟨vs,fun j hj=>by simpa using hc j hj,hR⟩
theorem Sl.flat (G:Jj R sz)(h:Sl R sz w A n c xs) :
  ∃cells:List Value,cells.length=n*sz∧(A=none→n=0∧c=0)∧(∀ad,A=some ad→∀j u,cells[j]?=some u→w.cell? (ad.add j)=some u)∧(∀u∈cells,u.oneCell'=true)∧a6 R sz w cells xs:=by
 by_cases hn:0<n
 ·obtain⟨b,off,hA,hb,hc⟩:=h.cells hn;have key:∀q,q<n*sz→∃(i j:Nat) (x:α) (vs:Nat→Value),q=i*sz+j∧j<sz∧xs[i]?=some x∧(∀j,j<sz→w.cell? ⟨b,off+(i*sz+j),none⟩=some (vs j))∧R w vs x:=by
   intro q hq;have hi:q / sz<n:=Nat.div_lt_of_lt_mul (by rw[Nat.mul_comm];exact hq);have hx:xs[q / sz]?=some (xs[q / sz]'(by rw[h.len];exact hi)):=List.getElem?_eq_getElem _;obtain⟨vs,h1,h2⟩:=hc _ _ hx;exact⟨q / sz,q % sz,_,vs,by rw[Nat.mul_comm];exact(Nat.div_add_mod q sz).symm,Nat.mod_lt _ G.pos,hx,h1,h2⟩
  refine⟨(List.range (n*sz)).map fun q=>(w.cell? ⟨b,off+q,none⟩).getD undef,by simp,fun e=>(by rw[hA]at e;cases e), ?_, ?_, ?_⟩
  ·intro ad had j u hu;rw[hA]at had;injection had with had;subst had;rw[List.getElem?_map]at hu;by_cases hj:j<n*sz
   ·rw[List.getElem?_range hj]at hu;obtain⟨i,k,x,vs,rfl,hk,hx,h1,h2⟩:=key j hj;simp only[Option.map_some,Option.some.injEq]at hu;rw[h1 k hk]at hu;have:((⟨b,off,none⟩:Addr).add (i*sz+k))=⟨b,off+(i*sz+k),none⟩:=by unfold Addr.add;split <;> simp_all
    rw[this,h1 k hk];simpa using hu
   ·rw[List.getElem?_eq_none (by simp;omega)]at hu;cases hu
  ·intro u hu;simp only[List.mem_map,List.mem_range]at hu;obtain⟨q,hq,rfl⟩:=hu;obtain⟨i,k,x,vs,rfl,hk,hx,h1,h2⟩:=key q hq;rw[h1 k hk];exact G.one _ _ _ h2 k hk
  ·refine⟨by simp[h.len], ?_⟩;intro i x hx;obtain⟨vs,h1,h2⟩:=hc i x hx;refine⟨vs,fun j hj=>?_,h2⟩;have hi:i<n:=by have:=(List.getElem?_eq_some_iff.1 hx).1;rw[h.len]at this;exact this
   have hlt:i*sz+j<n*sz:=by
    have:(i+1)*sz≤n*sz:=Nat.mul_le_mul_right _ hi;rw[Nat.add_mul]at this;omega
   rw[List.getElem?_map,List.getElem?_range hlt];simp only[Option.map_some,h1 j hj,Option.getD_some]
 ·have hn0:n=0:=by omega
  have hx:xs=[]:=List.eq_nil_of_length_eq_zero (by rw[h.len,hn0]);subst hx;refine⟨[],by simp[hn0],fun e=>⟨hn0,h.nul e⟩,fun ad _ j u hu=>by simp at hu,fun u hu=>by simp at hu,a6.nil⟩
end
def iG:World→(Nat→Value)→Int→Prop:=fun _ vs x=>vs 0=.int .i64 x
theorem iG.good:Jj iG 1 where
 kept:=fun _ _ _ _ _ h=>h
 one:=fun w vs x h j hj=>by
  obtain rfl:j=0:=by omega
  rw[h];rfl
 pos:=by omega
abbrev aJ (w:World)(A:OAd)(n c:Nat)(xs:LIn):Prop:=Sl iG 1 w A n c xs
theorem iG.kept:t8 iG:=fun _ _ _ _ _ h=>h
theorem aJ.get {w:World}{A:OAd}{n c k:Nat}{xs:LIn}(h:aJ w A n c xs)(hk:k<n) :
  ∃b off x,A=some ⟨b,off,none⟩∧b<w.heap.size∧Hid (xs[k]?=some x)∧w.cell? ⟨b,off+k,none⟩=some (.int .i64 x):=by
 obtain⟨b,off,x,vs,h1,h2,h3,h4,h5⟩:=Sl.get h hk;refine⟨b,off,x,h1,h2,h3, ?_⟩;have:=h4 0 (by omega);rw[h5]at this;simpa using this
theorem aJ.keep {w w':World}{A:OAd}{n c:Nat}{xs:LIn}(h:aJ w A n c xs)(hb:Below w.heap.size w w'):aJ w' A n c xs:=Sl.keep iG.kept h hb
def MG (w:World)(v0 v1 v2:Value)(t:aI):Prop :=
 v0=.int .i64 t.label∧∃A1 n1 c1 A2 n2 c2,v1=.slice A1 n1 c1∧v2=.slice A2 n2 c2∧aJ w A1 n1 c1 t.pre∧aJ w A2 n2 c2 t.post∧n1≤17592186044416∧n2≤17592186044416
def wG:World→(Nat→Value)→aI→Prop:=fun w vs t=>MG w (vs 0) (vs 1) (vs 2) t
theorem MG.keep {w w':World}{v0 v1 v2:Value}{t:aI}(hb:Below w.heap.size w w')(h:MG w v0 v1 v2 t):MG w' v0 v1 v2 t:=by
 obtain⟨h0,A1,n1,c1,A2,n2,c2,h1,h2,h3,h4,h5⟩:=h;exact⟨h0,A1,n1,c1,A2,n2,c2,h1,h2,h3.keep hb,h4.keep hb,h5⟩
theorem wG.kept:t8 wG:=fun _ _ _ _ hb h=>MG.keep hb h
theorem wG.good:Jj wG 3 where
 kept:=wG.kept
 one:=fun w vs x h j hj=>by
  obtain⟨h0,A1,n1,c1,A2,n2,c2,h1,h2,_⟩:=h;match j,hj with
  | 0,_=>rw[h0];rfl
  | 1,_=>rw[h1];rfl
  | 2,_=>rw[h2];rfl
 pos:=by omega
abbrev bK (w:World)(A:OAd)(n c:Nat)(ts:List aI):Prop:=Sl wG 3 w A n c ts
theorem bK.keep {w w':World}{A:OAd}{n c:Nat}{xs:List aI}(h:bK w A n c xs)(hb:Below w.heap.size w w'):bK w' A n c xs:=Sl.keep wG.kept h hb
theorem bK.get {w:World}{A:OAd}{n c k:Nat}{ts:List aI}(h:bK w A n c ts)(hk:k<n) :
  ∃b off t A1 n1 c1 A2 n2 c2,A=some ⟨b,off,none⟩∧b<w.heap.size∧Hid (ts[k]?=some t)∧w.cell? ⟨b,off+k*3,none⟩=some (.int .i64 t.label) ∧
   w.cell? ⟨b,off+k*3+1,none⟩=some (.slice A1 n1 c1)∧w.cell? ⟨b,off+k*3+2,none⟩=some (.slice A2 n2 c2)∧aJ w A1 n1 c1 t.pre∧aJ w A2 n2 c2 t.post∧n1≤17592186044416∧n2≤17592186044416:=by
 obtain⟨b,off,t,vs,h1,h2,h3,h4,h0,A1,n1,c1,A2,n2,c2,e1,e2,i1,i2,i3,i4⟩:=Sl.get h hk;refine⟨b,off,t,A1,n1,c1,A2,n2,c2,h1,h2,h3, ?_, ?_, ?_,i1,i2,i3,i4⟩
 ·rw[←h0];exact h4 0 (by omega)
 ·rw[←e1];exact h4 1 (by omega)
 ·rw[←e2];exact h4 2 (by omega)
end Go.Proofs.YtfmnagcglhlicaaGreat
