/- Texts melted into one: Facts on the whole translation that each row of this seat asks. Conditions: none. | What lists of lists of integers read as. Conditions: none. | From a reading of an argument, as the rows tell it, to the words of this seat. Conditions: none. | From a reading of an argument to  -/
import Derived.Test.YtgnljpnlolkalaaGreatRows
import Derived.JoinedOf
import Derived.Test.YtgnljpnlolkalaaGreatBenchTellsK01
import Derived.ProofKit
import Derived.OpenShut
import Derived.SizedLaws
import Derived.Deep.Slices
import Derived.Deep.Fields
import Derived.Lib.SmallJoins
import Derived.Laws.BitsAllLaws
import Derived.Laws.Shifts
import Derived.Laws.BytesArg
import Derived.Deep.DeepCutAuto
import Derived.Lib.SlicesCompact
import Derived.Maps.OwnSet
import Derived.Maps.OwnOps
import Derived.Maps.RangeWalk
import Derived.WideKeyEntry
import Derived.DeepKeys4
import Derived.Sort.OwnSorted
import Derived.Ground.SlsfProg
import Derived.Shelf.SlSortCmp.WholeK
import Derived.Shelf.SlSortCmp.Whole1
import Derived.Shelf.SlSortCmp.NoneTotal
import Derived.Shelf.Strings.OnBuilder
set_option linter.all false
set_option maxRecDepth 100000
set_option maxHeartbeats 2000000
namespace Go.Proofs.YtgnljpnlolkalaaGreat.Facts
def n0:List Nat:=[
 104,97,114,110,101,115,115]
def n1:List Nat:=[
 52,56,48,49,101,51,49,99,56,52,97,54,53,49,102,48,98,53,56,97,98,97,51,53,48,48,98,52,55,98,99,97,101,100,98,48,51,48,54,56,
 48,49,50,56,51,49,55,53,49,48,98,100,98,101,99,48,51,97,49,49,97,57,48,51]
def n2:List Nat:=[
 99,117,116]
def n3:List Nat:=[
 97,116,32,116,111,107,101,110,104,97,108,108,47,116,111,107,101,110,104,97,108,108,108,97,119,46,66,101,110,99,104,84,101,108,108,115]
def ch (l:List Nat):List Char:=List.map Char.ofNat l
def headOf:List Char:=ch n0++Char.ofNat 32::(ch n1++Char.ofNat 32::(ch n2++Char.ofNat 32::ch n3))
def headChars:Tryz.prog.initOrder=String.ofList headOf:=by kernel_rfl
def headList:Tryz.prog.initOrder.toList=headOf:=by rw[headChars,String.toList_ofList]
def word_cons (w r:List Char)(h:∀c∈w,c≠Char.ofNat 32):wordsSigns (w++Char.ofNat 32::r)=w::wordsSigns r:=by
 induction w with
 | nil=>rfl
 | cons c w b =>
  have d:c≠Char.ofNat 32:=h c (List.mem_cons_self ..);have a:=b (λx e=>h x (List.mem_cons_of_mem _ e));show wordsSigns (c::(w++Char.ofNat 32::r))=_
  rw[wordsSigns]
  .rw[a]
  exact d
def headWords:behindMainWord (wordsSigns headOf)=ch n2::wordsSigns (ch n3):=by
 unfold headOf;rw[word_cons _ _ (by decide),word_cons _ _ (by decide),word_cons _ _ (by decide)];generalize wordsSigns (ch n3)=r;kernel_rfl
def strip_of (c:List Char)(r:List (List Char)):∀os:List String,(∀o∈os,(c==o.toList)=false)->stripLifts os (c::r)=([],c::r)
 | [],_=>rfl
 | o::os,h=>by
  rw[stripLifts,aD (by rw[h o (List.mem_cons_self ..)];simp)];exact strip_of c r os (λx a=>h x (List.mem_cons_of_mem _ a))
def notLift:∀o∈liftWords,(ch n2==o.toList)=false:=by decide
def isGc:(ch n2 == "gc".toList)=false:=by kernel_rfl
def isSpec:(ch n2 == "spec".toList)=false:=by kernel_rfl
def isCarried:(ch n2 == "carried".toList)=false:=by kernel_rfl
def isCut:(ch n2 == "cut".toList)=true:=by kernel_rfl
def make_of {P:Program}{c:List Char}{r:List (List Char)}(h:behindMainWord (wordsSigns P.initOrder.toList)=c::r)(a:(c == "gc".toList)=false)(b:(c == "spec".toList)=false)(d:(c == "cut".toList)=true):P.make=some .cut:=by
 unfold Program.make;rw[h];simp only[a,b,d,Bool.or_false,Bool.false_eq_true,if_false,Bool.true_or,if_true]
def lifts_of {P:Program}{c:List Char}{r:List (List Char)}(h:behindMainWord (wordsSigns P.initOrder.toList)=c::r)(b:(c == "carried".toList)=false)(d:∀o∈liftWords,(c==o.toList)=false):P.liftsFinal=false:=by
 have a:(some c==some "carried".toList)=false:=b;unfold Program.liftsFinal Program.headLifts;simp only[h,strip_of c r _ d,List.head?_cons,a,Bool.false_and,Bool.false_or];split <;> rfl
def may_of {P:Program} {c:List Char} {r:List (List Char)} (h:behindMainWord (wordsSigns P.initOrder.toList)=c::r) (b:(c == "cut".toList)=true) (d:∀o∈liftWords,(c==o.toList)=false)
  (k1:P.laysLater=false) (e:P.bearsReflect=false) (f:P.doorFits []=true):P.mayEnter=true:=by
 have a:(some c==some "cut".toList)=true:=b;unfold Program.mayEnter;rw[h];simp only[strip_of c r _ d,List.head?_cons,a,k1,e,f,Bool.not_false,Bool.or_true,Bool.and_true,Bool.true_and];simp
def headIs:behindMainWord (wordsSigns Tryz.prog.initOrder.toList)=ch n2::wordsSigns (ch n3):=by rw[headList,headWords]
def make:Tryz.prog.make=some .cut:=make_of headIs isGc isSpec isCut
def liftsFinal:Tryz.prog.liftsFinal=false:=lifts_of headIs isCarried notLift
def laysLater:Tryz.prog.laysLater=false:=by kernel_rfl
def bearsReflect:Tryz.prog.bearsReflect=false:=by kernel_rfl
def doorFits:Tryz.prog.doorFits []=true:=by kernel_rfl
def mayEnter:Tryz.prog.mayEnter=true:=may_of headIs isCut notLift laysLater bearsReflect doorFits
def laidOut:laidOutB Tryz.prog=true:=by kernel_rfl
def rowed:mapsRowed Tryz.prog=true:=by kernel_rfl
def stopsHeard:Tryz.prog.stopsHeard=true:=by kernel_rfl
def stops:Tryz.prog.stops=[]:=by kernel_rfl
def stopKnobs:Tryz.prog.stopKnobs=[]:=by kernel_rfl
def plainKeys:Tryz.prog.plainKeys=false:=by kernel_rfl
end Go.Proofs.YtgnljpnlolkalaaGreat.Facts
namespace Go.Proofs.YtgnljpnlolkalaaGreat
open Go.RowKit
def cS:World->(Nat->Value)->LIn->Prop:=λw vs xs=>∃A n c,vs 0=.slice A n c/\aY w A n c xs/\n<=17592186043904
def cS.kept:CU cS:=λ_ _ _ _ a ⟨A,n,c,e,i,l⟩=>⟨A,n,c,e,i.keep a,l⟩
def cS.good:Qi cS 1 where
 kept:=cS.kept
 one:=λw vs x h j a=>by
  obtain rfl:j=0:=by omega
  obtain⟨A,n,c,e,_⟩:=h;rw[e];rfl
 pos:=by omega
abbrev cQ (w:World)(A:OAd)(n c:Nat)(xs:LLi):Prop:=Sl cS 1 w A n c xs
def cQ.get {w:World}{A:OAd}{n c k:Nat}{xs:LLi}(h:cQ w A n c xs)(f:k<n) :
  ∃b a x B m d,A=some ⟨b,a,none⟩/\b<w.heap.size/\Hid (xs[k]?=some x)/\w.cell? ⟨b,a+k,none⟩=some (.slice B m d)/\aY w B m d x/\m<=17592186043904:=by
 obtain⟨b,a,x,vs,g,j,o,p,B,m,d,e,i,l⟩:=Sl.get h f;refine⟨b,a,x,B,m,d,g,j,o, ?_,i,l⟩;have:=p 0 (by omega);rw[e]at this;simpa using this
open Go.ChangeShapes Go.WideShapes Go.ChangeAt Go.Deep
section
variable {H:Type} {enc:TypeId×Value->H} {W:World}
end
section
variable {H:Type} {enc:TypeId×Value->H} {W:World}
end
end Go.Proofs.YtgnljpnlolkalaaGreat
namespace Go.Proofs.YtgnljpnlolkalaaGreat
def lN (t:bG):bG:=⟨t.label,t.post,t.pre⟩
def lW (N:eB):eB:=⟨N.places,N.trans.map lN⟩
end Go.Proofs.YtgnljpnlolkalaaGreat
namespace Go.Proofs.YtgnljpnlolkalaaGreat
def lX (n:Nat)(i:Int):LIn:=(List.range n).map λ(p:Nat)=>if(p:Int)=i then 1 else 0
def Hg (n:Nat)(i:Int):lX (n+1) i=lX n i++[if(n:Int)=i then 1 else 0]:=by simp[lX,eF]
def Ue (n i:Nat):(List.replicate n (0:Int)).set i 1=lX n (i:Int):=by
 apply fP (by simp[lX])
 intro j b c;by_cases a:i=j
 .subst a;simp[lX]
 rw[List.getElem_set_ne a];have:¬(j:Int)=(i:Int):=by omega
 simp[lX,this]
def Uf (n:Nat)(i:Int)(h:¬(0<=i/\i<(n:Int))):List.replicate n (0:Int)=lX n i:=by
 apply fP (by simp[lX])
 intro j a b;have:¬((j:Int)=i):=by simp at a;omega
 simp[lX,this]
end Go.Proofs.YtgnljpnlolkalaaGreat
namespace Go.Proofs.YtgnljpnlolkalaaGreat
open Go.RowKit
def Box (w:World)(b ty:Nat)(cs:Array Value):Prop:=w.heap[b]?=some (.cells cs ty (0,0))
section
variable {w w':World} {b ty:Nat} {cs:Array Value}
def Box.lt (h:Box w b ty cs):b<w.heap.size:=(f8.1 h).1
def Box.cell (h:Box w b ty cs)(j:Nat):w.cell? ⟨b,j,none⟩=cs[j]?:=cell_of_row _ _ _ _ _ (0,0) h
def Box.frozen (h:Box w b ty cs)(j:Nat):w.frozen? ⟨b,j,none⟩=false:=frozen_of_row _ _ _ _ _ h
def Box.keepB (h:Box w b ty cs){B:Nat}(a:Below B w w')(c:b<B):Box w' b ty cs:=(a.block b c).trans h
def Box.keep (h:Box w b ty cs)(a:Below w w w'):Box w' b ty cs:=h.keepB a h.lt
def Box.new (w:World)(cs:Array Value)(ty:Nat):Box (w.alloc (.cells cs ty)) w ty cs:=iD w _
def Box.newAt {n:Nat}(a:w.heap.size=n)(cs:Array Value)(ty:Nat):Box (w.alloc (.cells cs ty)) n ty cs:=by subst a;exact iD w _
def Box.old (h:Box w b ty cs)(o:Obj):Box (w.alloc o) b ty cs:=(heap_alloc_old w o h.lt).trans h
def Box.drew (h:Box w b ty cs):Box w.drew b ty cs:=h
def Box.drewN (h:Box w b ty cs)(n:Nat):Box (w.drewN n) b ty cs:=h
def Box.set (h:Box w b ty cs)(i:Nat)(v:Value):Box (w.setCell ⟨b,i,none⟩ v) b ty (cs.setIfInBounds i v):=heap_setCell_same _ _ _ _ _ _ h
def Box.other (h:Box w b ty cs){a:Addr}(v:Value)(c:b≠a.block):Box (w.setCell a v) b ty cs:=(eN _ _ _ _ c).trans h
def Box.set2 {u0 u1:Value}(h:Box w b ty #[u0,u1])(v0 v1:Value):Box ((w.setCell b v0).setCell ⟨b,1,none⟩ v1) b ty #[v0,v1]:=by
 have:=(h.set 0 v0).set 1 v1;simpa using this
def Box.two {u0 u1:Value}(h:Box w b ty #[u0,u1]):w.cell? b=some u0/\w.cell? ⟨b,1,none⟩=some u1:=⟨h.cell 0,h.cell 1⟩
def Box.three {u0 u1 u2:Value}(h:Box w b ty #[u0,u1,u2]):w.cell? b=some u0/\w.cell? ⟨b,1,none⟩=some u1/\w.cell? ⟨b,2,none⟩=some u2:=⟨h.cell 0,h.cell 1,h.cell 2⟩
def Box.grown {row:Option Nat}(h:Box w b ty cs)(c:w.grownBy w' row)(a:row≠some b):Box w' b ty cs:=(c.block b h.lt (λe=>a e.symm)).trans h
end
def d8 (b:Nat)(w w':World):Prop:=w'.heap.size=w.heap.size/\∀k,k≠b->w'.heap[k]?=w.heap[k]?
def d8.set (w:World)(b i:Nat)(v:Value):d8 b w (w.setCell ⟨b,i,none⟩ v):=⟨by simp[World.setCell],λ_ a=>eN _ _ _ _ a⟩
def d8.trans {b:Nat}{w w' a:World}(h:d8 b w w')(g:d8 b w' a):d8 b w a:=⟨g.1.trans h.1,λk c=>(g.2 k c).trans (h.2 k c)⟩
def d8.set2 (w:World)(b i j:Nat)(u v:Value):d8 b w ((w.setCell ⟨b,i,none⟩ u).setCell ⟨b,j,none⟩ v):=(d8.set _ _ _ _).trans (d8.set _ _ _ _)
def d8.cell {b:Nat}{w w':World}(h:d8 b w w'){p:Addr}(hp:p.block≠b):w'.cell? p=w.cell? p:=sA (h.2 _ hp)
def d8.box {b k ty:Nat}{cs:Array Value}{w w':World}(h:d8 b w w')(g:Box w k ty cs)(a:k≠b):Box w' k ty cs:=(h.2 k a).trans g
def aY.beside {w w':World}{b ty:Nat}{cs:Array Value}{A:OAd}{n c:Nat}{xs:LIn}(h:aY w A n c xs)(o:Box w b ty cs)(d:∀(j:Nat) (x:Int),cs[j]?≠some (.int .i64 x))(k:d8 b w w'):aY w' A n c xs :=
 ⟨h.len,h.le,h.cap,h.small,h.nul,λp=>by
  obtain⟨l,f,e,g,q⟩:=h.cells p;refine⟨l,f,e,by rw[k.1];exact g,λi x r=>?_⟩;obtain⟨vs,s,m⟩:=q i x r;refine⟨vs,λj t=>?_,m⟩;have:=s j t;by_cases a:l=b
  .subst a;exfalso
   obtain rfl:j=0:=by omega
   rw[o.cell,m]at this;exact d _ _ this
  rw[k.cell (by simpa using a)];exact this⟩
def L7 {A B:OAd}{n c m d:Nat}:∀(j:Nat) (x:Int),(#[Value.slice A n c,Value.slice B m d])[j]?≠some (.int .i64 x)
 | 0,_=>by simp
 | 1,_=>by simp
 | _+2,_=>by simp
def jT {t e b:Nat} {z:Value} (u:Tryz.prog.underlying t=some (.slice e)) (v:(Tryz.prog.info? e).map (λi=>(i.zero,i.size,i.bytes))=some (some z,1,b)) (x:z.cells=#[z]) {ops:Array Oper} {o:Oper} {a:Act} {K:Act->World->Prop} {Q:Exit->Act->World->Prop} {E:Prop}
  (y:o.guard=none) (l c:Operand) (g:o.op=Op.makeSlice t l c) {w0 w:World} {B:Nat} {L C:Int} (n:Nat) (A:a.eval l=L) (D:a.eval c=C) (F:L=(n:Int)) (G:C=(n:Int))
  (M:n<=281474976710656) (d:b*n<=281474976710656) (H:Below B w0 w) (q:B<=w.heap.size)
  (hK:∀w',w'.ownsRow B e 1 (.slice w n n) n (List.replicate n z)->w.grownBy w' none->Below B w0 w'->K (a.put o.dst (.slice w n n)) w') :
  if Region.wanted o (yielded ops a.tmps)=true then Oper.wp Tryz.prog o a w K Q else E:=by
 obtain⟨i,I,j,m,p⟩:=info_parts v;obtain⟨w',f,r,s⟩:=run_make_full (P:=Tryz.prog) w B t e i z 1 u I j m .i64 .i64 n (by rw[p];exact d) (by simp only[maxLen];omega) q;rw[x,j8,toList_madeCells_one]at r;have h:=hK w' r s (H.grown s q (λk J=>by cases J));subst F;subst G;rw[aG (by simp[Region.wanted,y])];unfold Oper.wp;simp[execOp,g,A,D,f,Result.andThen];exact h
def Box.set3 {w:World}{b ty:Nat}{u0 u1 u2:Value}(h:Box w b ty #[u0,u1,u2])(v0 v1 v2:Value):Box (((w.setCell b v0).setCell ⟨b,1,none⟩ v1).setCell ⟨b,2,none⟩ v2) b ty #[v0,v1,v2]:=by
 have:=((h.set 0 v0).set 1 v1).set 2 v2;simpa using this
def eW {B b:Nat}{w0 w:World}(h:Below B w0 w)(a:B<=b)(v0 v1 v2:Value):Below B w0 (((w.setCell b v0).setCell ⟨b,1,none⟩ v1).setCell ⟨b,2,none⟩ v2) :=
 ((h.setCell a _).setCell a _).setCell a _
end Go.Proofs.YtgnljpnlolkalaaGreat
namespace Go.Proofs.YtgnljpnlolkalaaGreat
open Go.RowKit
def Ug (w:World)(o:Obj):Below w w (w.alloc o):=(aH _ _).alloc (aB _) _
def XP (w:World)(q:Nat):Below w w (w.drewN q):=⟨rfl,rfl,rfl,aB _,λ_ _=>rfl⟩
def Wn:World->(Nat->Value)->Nat->Prop:=λ_ vs b=>vs 0=.int .u8 (b:Int)/\b<256
abbrev Bts (w:World)(A:OAd)(n c:Nat)(bs:List Nat):Prop:=Sl Wn 1 w A n c bs
def Bts.get {w:World}{A:OAd}{n c k:Nat}{bs:List Nat}(h:Bts w A n c bs)(d:k<n) :
  ∃b a x,A=some ⟨b,a,none⟩/\b<w.heap.size/\Hid (bs[k]?=some x)/\w.cell? ⟨b,a+k,none⟩=some (.int .u8 (x:Int))/\x<256:=by
 obtain⟨b,a,x,vs,e,f,g,i,j,l⟩:=Sl.get h d;refine⟨b,a,x,e,f,g, ?_,l⟩;have:=i 0 (by omega);rw[j]at this;simpa using this
def Wp:sT 55 5 1 1:=sT.mk' (z:=.int .u8 0) Tryz.underlying55 (by kernel_rfl) rfl (by decide)
abbrev yJ (w:World)(B:Nat)(v:Value)(n:Nat)(bs:List Nat):Prop:=aJ Wn 1 w B 5 v n bs
def cD.bytes {w:World}{a:List Value}{bs:List Nat}(h:a=bs.map λb:Nat=>Value.int .u8 (b:Int))(d:∀b∈bs,b<256):cD Wn 1 w a bs:=by
 subst h;refine⟨by simp,λi x c=>⟨λ_=>.int .u8 (x:Int),λj e=>?_,rfl,d x (aS c)⟩⟩;obtain rfl:j=0:=by omega
 simp[c]
def y6 {ops:Array Oper} {rest:List Oper} {o:Oper} {a:Act} {Q:Exit->Act->World->Prop} (d:o.guard=none) (s x:Operand)
  (i:o.op=.call {callee:=.builtin .append,args:=#[s,x],argTypes:=#[55,55]})
  {w0 w:World} {B:Nat} {v:Value} {n m:Nat} {xs ys:List Nat} {e:Array Value} {H:Nat} (j:a.eval s=v) (k:a.eval x=.slice H m m) (l:H=w.heap.size) (c:e.toList=ys.map λb:Nat=>Value.int .u8 (b:Int)) (g:ys.length=m) (f:∀b∈ys,b<256)
  (own:yJ w B v n xs) (p:Below B w0 w) (q:B<=w.heap.size) (t:n+m<=1000)
  (K:∀v' w',yJ w' B v' (n+m) (xs++ys)->w.grownBy w' v.ownBlock->Below B w0 w'->wpList Tryz.prog ops Q rest (a.put o.dst v') w') :
  wpList Tryz.prog ops Q (o::rest) a (w.alloc (.cells e 5)) :=
 dW Wp d s x i ys e j k l (by rw[<-Array.length_toList,c,dQ,g,j8]) (by rw[c];intro u r;obtain⟨b,_,rfl⟩:=bZ.1 r;rfl) own (cD.bytes c f) g p q (by omega) (by omega) (λ_ _ _ _ h=>h) K
def aY.box {w:World}{g n:Nat}{a:Array Value}{xs:LIn}(h:Box w g 3 a)(b:a.toList=xs.map (Value.int .i64))(c:xs.length=n)(f:n<=1000):aY w (some ⟨g,0,none⟩) n n xs :=
 ⟨c,aB _,by simp only[maxLen];omega,by omega,λe=>(by cases e),λ_=>⟨g,0,rfl,h.lt,λi x d=>⟨λ_=>.int .i64 x,λj k=>by
  obtain rfl:j=0:=by omega
  rw[h.cell,<-nA,b,dF];simp[d],rfl⟩⟩⟩
def aJ.notBox {α:Type}{R:World->(Nat->Value)->α->Prop}{sz:Nat}{w:World}{B e:Nat}{v:Value}{n:Nat}{xs:List α}{b ty:Nat}{cs:Array Value}(own:aJ R sz w B e v n xs)(x:Box w b ty cs)(c:e≠ty):v.ownBlock≠some b:=by
 intro d;obtain⟨f,h,_⟩:=own;rcases h.2 with⟨rfl,_⟩|⟨g,cap,i,rfl,_,j,_⟩
 .cases d
 simp only[Value.ownBlock,aZ]at d;subst d;have a:w.heap[g]?=some (.cells cs ty (0,0)):=x;rw[j]at a;injection a with a;injection a with _ k;exact c k
end Go.Proofs.YtgnljpnlolkalaaGreat
namespace Go.Proofs.YtgnljpnlolkalaaGreat
structure cC where
 from_:Int
 tran:Int
 to_:Int
structure PSp where
 marks:LLi
 arcs:List cC
def PSp.nil:PSp:=⟨[],[]⟩
def eH (ms:LLi)(x:LIn):Option Nat:=ms.findIdx? λy=>x==y
def rF (most:Nat)(s:PSp)(f t:Int)(x:LIn):Option PSp :=
 match eH s.marks x with
 | some k=>some ⟨s.marks,s.arcs++[⟨f,t,(k:Int)⟩]⟩
 | none=>if s.marks.length=most then none else some ⟨s.marks++[x],s.arcs++[⟨f,t,(s.marks.length:Int)⟩]⟩
def eS (N:eB)(most:Nat)(m:LIn)(f:Int)(s:PSp)(t:Int):Option PSp :=
 if(iN N m t).2=3 then some s else if(iN N m t).2=0 then rF most s f t (iN N m t).1 else none
def kG (N:eB)(most:Nat)(m:LIn)(f:Int)(l:LIn)(o:Option PSp):Option PSp:=l.foldl (λo t=>o.bind λs=>eS N most m f s t) o
def sF (N:eB)(most:Nat)(m:LIn)(f:Int)(l:LIn)(t:Int)(o:Option PSp):kG N most m f (l++[t]) o=(kG N most m f l o).bind λs=>eS N most m f s t:=by
 unfold kG;rw[fD];rfl
def vQ (N:eB)(most:Nat)(m:LIn)(f:Int)(l:LIn):kG N most m f l none=none:=by
 induction l with
 | nil=>rfl
 | cons t l a=>exact a
def y7 {N:eB}{most:Nat}{m:LIn}{f:Int}{l:LIn}{o:Option PSp}(k:Nat)(h:kG N most m f (l.take k) o=none):kG N most m f l o=none:=by
 have e:=List.take_append_drop k l;rw[<-e];unfold kG at h ⊢;rw[fD,h];exact vQ N most m f _
def EA (n:Nat):LIn:=(List.range n).map λ(t:Nat)=>(t:Int)
def EC {N:eB}{most:Nat}{m:LIn}{f:Int}(c:i7 N m=true)(o:Option PSp):∀k,k<=N.trans.length->kG N most m f (jR (N.trans.take k) m) o=kG N most m f (EA k) o:=by
 intro k;induction k with
 | zero=>intro _;rfl
 | succ k d =>
  intro h;have b:N.trans[k]?=some (N.trans[k]'(by omega)):=aV _;rw[bX b,vO,EA,eF,fB,kZ,lA,sF,<-EA,<-d (by omega)];have e:(N.trans.take k).length=k:=by rw[dT];omega
  have g:iN N m (k:Int)=rC m (N.trans[k]'(by omega)):=by
   rw[iN,aG c,aG ⟨by omega,by omega⟩];simp[cJ,b]
  by_cases a:eJ m (N.trans[k]'(by omega)).pre=true
  .rw[aG a,sF,e]
  rw[aD a,j9];cases hs:kG N most m f (jR (N.trans.take k) m) o with
  | none=>rfl
  | some s =>
   show some s=eS N most m f s (k:Int)
   unfold eS;rw[g,rC,aD a];rfl
def Hh (N:eB)(most f:Nat)(s:PSp):Option PSp:=kG N most (s.marks.getD f []) (f:Int) (EA N.trans.length) (some s)
def goM (N:eB)(most:Nat):Nat->Nat->PSp->Option PSp
 | 0,_,s=>some s
 | g+1,f,s=>if f<s.marks.length then(Hh N most f s).bind (goM N most g (f+1))else some s
def eD (N:eB)(m:LIn)(most:Int):PSp×Int :=
 if 1<=most/\most<=300/\i7 N m=true then(match goM N most.toNat most.toNat 0 ⟨[m],[]⟩ with
  | some s=>(s,0)
  | none=>(PSp.nil,4))else(PSp.nil,2)
def Hi (s:PSp)(k:Nat):Option Nat:=s.arcs.findIdx? λa=>a.to_==(k:Int)
structure tD (N:eB)(most:Nat)(s:PSp):Prop where
 few:s.marks.length<=most
 some_:0<s.marks.length
 fits:∀x∈s.marks,i7 N x=true
 nodup:s.marks.Nodup
 ends:∀a∈s.arcs,(0<=a.from_/\a.from_<(s.marks.length:Int))/\(0<=a.tran/\a.tran<(N.trans.length:Int))/\(0<=a.to_/\a.to_<(s.marks.length:Int))
 found:∀k,0<k->k<s.marks.length->∃(j:Nat) (a:cC),s.arcs[j]?=some a/\a.to_=(k:Int)/\a.from_<(k:Int)/\∀i,i<j->∀b:cC,s.arcs[i]?=some b->b.to_≠(k:Int)
def kM {ms:LLi}{x:LIn}{k:Nat}(h:eH ms x=some k):ms[k]?=some x:=by
 unfold eH at h;rw[q8]at h;obtain⟨a,b,_⟩:=h;have:x=ms[k]:=by simpa using b
 rw[aV a,this]
def Da {ms:LLi}{x:LIn}(h:eH ms x=none):x∉ms:=by
 unfold eH at h;rw[List.findIdx?_eq_none_iff]at h;intro a;have:=h x a;simp at this
def yK {ms:LLi}{x:LIn}{k:Nat}(c:ms.Nodup)(h:ms[k]?=some x):eH ms x=some k:=by
 cases hf:eH ms x with
 | none=>exact absurd (aS h) (Da hf)
 | some j =>
  have d:=kM hf;obtain⟨e,a⟩:=aR.1 h;obtain⟨f,b⟩:=aR.1 d;have:=(List.getElem_inj c).1 (b.trans a.symm);rw[this]
def zA {N:eB}{m:LIn}{t:Int}(d:i7 N m=true)(h:(iN N m t).2=0):i7 N (iN N m t).1=true/\0<=t/\t<(N.trans.length:Int):=by
 have a:=(cR N m).1 d;unfold iN at h ⊢;rw[aG d]at h ⊢;by_cases b:0<=t/\t<(N.trans.length:Int)
 rotate_left
 .rw[aD b]at h;simp at h
 rw[aG b]at h ⊢;have f:N.trans[t.toNat]?=some (N.trans.getD t.toNat default):=by
  have c:t.toNat<N.trans.length:=by omega
  simp[aV c]
 have i:=fK a.1 f;generalize N.trans.getD t.toNat default=T at *
 unfold rC at h ⊢;split at h
 .rename_i g
  rw[aG g];split at h
  .rename_i e
   rw[aG e];refine⟨(cR _ _).2 ⟨a.1, ?_,e⟩,b⟩;simp only[pX];omega
  simp at h
 simp at h
def Db {s:PSp}{a0:cC}{k:Nat}(h:∃(j:Nat) (a:cC),s.arcs[j]?=some a/\a.to_=(k:Int)/\a.from_<(k:Int)/\∀i,i<j->∀b:cC,s.arcs[i]?=some b->b.to_≠(k:Int)) :
  ∃(j:Nat) (a:cC),(s.arcs++[a0])[j]?=some a/\a.to_=(k:Int)/\a.from_<(k:Int)/\∀i,i<j->∀b:cC,(s.arcs++[a0])[i]?=some b->b.to_≠(k:Int):=by
 obtain⟨j,a,c,e,f,g⟩:=h;have l:=(aR.1 c).1;refine⟨j,a,by rw[fO l];exact c,e,f,λi m b d=>?_⟩;rw[fO (by omega)]at d;exact g i m b d
def tD.meet {N:eB}{most:Nat}{s m:PSp}{f t:Nat}{x:LIn}(h:tD N most s)(B:f<s.marks.length)(C:t<N.trans.length)(r:i7 N x=true)(d:rF most s (f:Int) (t:Int) x=some m):tD N most m/\s.marks <+: m.marks:=by
 unfold rF at d;cases hk:eH s.marks x with
 | some k =>
  rw[hk]at d;simp only[aZ]at d;subst d;have u:=(aR.1 (kM hk)).1;refine⟨⟨h.few,h.some_,h.fits,h.nodup,λa g=>?_,λj c n=>Db (h.found j c n)⟩,List.prefix_rfl⟩;rcases cN.1 g with c|c
  .exact h.ends a c
  rw[bJ.1 c];simp only;omega
 | none =>
  rw[hk]at d;have v:=Da hk;simp only at d;split at d
  .cases d
  rename_i w
  simp only[aZ]at d;subst d;have q:=h.few;refine⟨⟨by simp;omega,by simp,λy z=>?_, ?_,λa g=>?_,λj c n=>?_⟩,pS _ _⟩
  .rcases cN.1 z with c|c
   .exact h.fits y c
   rw[bJ.1 c];exact r
  .rw[nB];exact⟨h.nodup,by simp,λa g b l e=>v (by rw[bJ.1 l]at e;rw[<-e];exact g)⟩
  .simp only[bL,bP,fQ];rcases cN.1 g with c|c
   .have:=h.ends a c;omega
   rw[bJ.1 c];simp only;omega
  simp only[bL,bP,fQ]at n;by_cases o:j<s.marks.length
  .exact Db (h.found j c o)
  have p:j=s.marks.length:=by omega
  subst p;refine⟨s.arcs.length,⟨(f:Int),(t:Int),(s.marks.length:Int)⟩,by simp,rfl,by simp only;omega,λi A b l=>?_⟩;rw[fO A]at l;have:=(h.ends b (aS l)).2.2;omega
def tD.step {N:eB}{most:Nat}{s b:PSp}{f t:Nat}{m:LIn}(h:tD N most s)(c:f<s.marks.length)(d:i7 N m=true)(a:eS N most m (f:Int) s (t:Int)=some b):tD N most b/\s.marks <+: b.marks:=by
 unfold eS at a;split at a
 .simp only[aZ]at a;subst a;exact⟨h,List.prefix_rfl⟩
 split at a
 .rename_i e
  obtain⟨g,_,i⟩:=zA d e;exact h.meet c (by omega) g a
 cases a
def tD.fold {N:eB}{most:Nat}{f:Nat}{m:LIn}(g:i7 N m=true):∀(l:List Nat) {s b:PSp} (_:tD N most s) (_:f<s.marks.length) (_:kG N most m (f:Int) (l.map λ(t:Nat)=>(t:Int)) (some s)=some b),tD N most b/\s.marks <+: b.marks:=by
 intro l;induction l with
 | nil =>
  intro s b h c d;have:s=b:=by simpa [kG] using d
  subst this;exact⟨h,List.prefix_rfl⟩
 | cons t l i =>
  intro s b h c d;have a:kG N most m (f:Int) (l.map λ(t:Nat)=>(t:Int)) (eS N most m (f:Int) s (t:Int))=some b:=d;cases h1:eS N most m (f:Int) s (t:Int) with
  | none=>rw[h1,vQ]at a;cases a
  | some s1 =>
   rw[h1]at a;obtain⟨k1,e⟩:=h.step c g h1;obtain⟨j,k⟩:=i k1 (bD c e.length_le) a;exact⟨j,e.trans k⟩
def tD.from_ {N:eB}{most f:Nat}{s a:PSp}(h:tD N most s)(b:f<s.marks.length)(c:Hh N most f s=some a):tD N most a/\s.marks <+: a.marks:=by
 refine tD.fold (h.fits _ ?_) (List.range N.trans.length) h b c;have:s.marks.getD f []=s.marks[f]:=by simp[cJ,aV b]
 rw[this];exact j5 b
def tD.start {N:eB}{m:LIn}{most:Nat}(b:i7 N m=true)(h:1<=most):tD N most ⟨[m],[]⟩ :=
 ⟨h,by simp,λx c=>by rw[bJ.1 c];exact b,by simp,λa d=>by simp at d,λk f e=>by simp at e;omega⟩
def tD.go {N:eB}{most:Nat}:∀(g f:Nat) {s b:PSp} (_:tD N most s) (_:goM N most g f s=some b),tD N most b/\s.marks <+: b.marks:=by
 intro g;induction g with
 | zero =>
  intro f s b h a;have:s=b:=by simpa [goM] using a
  subst this;exact⟨h,List.prefix_rfl⟩
 | succ g c =>
  intro f s b h a;unfold goM at a;split at a
  .rename_i d
   cases h1:Hh N most f s with
   | none=>rw[h1]at a;cases a
   | some s1 =>
    rw[h1]at a;obtain⟨k1,e⟩:=h.from_ d h1;obtain⟨i,j⟩:=c (f+1) k1 a;exact⟨i,e.trans j⟩
  simp only[aZ]at a;subst a;exact⟨h,List.prefix_rfl⟩
end Go.Proofs.YtgnljpnlolkalaaGreat
namespace Go.Proofs.YtgnljpnlolkalaaGreat
def Qm {ts:List bG}{m:LIn}{t:Int}(h:t∈jR ts m):∃(i:Nat) (T:bG),t=(i:Int)/\ts[i]?=some T/\eJ m T.pre=true:=by
 unfold jR at h;obtain⟨p,hp,rfl⟩:=bZ.1 h;obtain⟨a,b⟩:=bR.1 hp;exact⟨p.2,p.1,rfl,List.mem_zipIdx_iff_getElem?.1 a,by simpa using b⟩
def Of {N:eB}{m:LIn}{t:Int}(b:i7 N m=true)(h:t∈jR N.trans m):(∃i:Nat,i<N.trans.length/\t=(i:Int))/\((iN N m t).2=0∨(iN N m t).2=4):=by
 obtain⟨i,T,rfl,a,c⟩:=Qm h;have d:=(aR.1 a).1;refine⟨⟨i,d,rfl⟩, ?_⟩;have:iN N m (i:Int)=rC m T:=by
  rw[iN,aG b,aG ⟨by omega,by omega⟩];simp[cJ,a]
 rw[this,rC,aG c];split
 .exact .inl rfl
 exact .inr rfl
def qY (M:Nat)(ms:LLi)(fs:LIn)(x:LIn)(a:Int):LLi×LIn×Int×Bool :=
 match eH ms x with
 | some k=>(ms,fs,(k:Int),true)
 | none=>if ms.length=M then(ms,fs,0,false)else(ms++[x],fs++[a],(ms.length:Int),true)
structure JG (s:PSp)(fs:LIn):Prop where
 len:fs.length=s.marks.length
 at_:∀k,0<k->k<s.marks.length->∃j:Nat,fs[k]?=some (j:Int)/\Hi s k=some j
def JG.start (m:LIn):JG ⟨[m],[]⟩ [-1]:=⟨rfl,λk b a=>by simp at a;omega⟩
def zB {s:PSp}{a:cC}{k j:Nat}(h:Hi s k=some j)(ms:LLi):Hi ⟨ms,s.arcs++[a]⟩ k=some j:=by
 unfold Hi at h ⊢;rw[List.findIdx?_append,h];rfl
def JG.meet {M:Nat}{s:PSp}{fs:LIn}{x:LIn}{f t:Int}(h:JG s fs)(m:∀a∈s.arcs,a.to_<(s.marks.length:Int)) :
  ((qY M s.marks fs x (s.arcs.length:Int)).2.2.2=false/\rF M s f t x=none)∨((qY M s.marks fs x (s.arcs.length:Int)).2.2.2=true/\rF M s f t x=some ⟨(qY M s.marks fs x (s.arcs.length:Int)).1,s.arcs++[⟨f,t,(qY M s.marks fs x (s.arcs.length:Int)).2.2.1⟩]⟩ /\
   JG ⟨(qY M s.marks fs x (s.arcs.length:Int)).1,s.arcs++[⟨f,t,(qY M s.marks fs x (s.arcs.length:Int)).2.2.1⟩]⟩ (qY M s.marks fs x (s.arcs.length:Int)).2.1):=by
 unfold qY rF;cases hf:eH s.marks x with
 | some k =>
  refine .inr ⟨rfl,rfl,⟨h.len,λb c d=>?_⟩⟩;obtain⟨j,e,g⟩:=h.at_ b c d;exact⟨j,e,zB g _⟩
 | none =>
  by_cases i:s.marks.length=M
  .refine .inl ?_;simp only[i,if_true];exact⟨trivial,trivial⟩
  refine .inr ?_;simp only[i,if_false];refine⟨trivial,trivial,⟨by simp[h.len],λb c d=>?_⟩⟩;simp only[bL,bP,fQ]at d;by_cases l:b<s.marks.length
  .obtain⟨j,e,g⟩:=h.at_ b c l;exact⟨j,by rw[fO (by rw[h.len];exact l)];exact e,zB g _⟩
  obtain rfl:b=s.marks.length:=by omega
  refine⟨s.arcs.length,by rw[<-h.len];simp, ?_⟩;unfold Hi;rw[List.findIdx?_append];have:s.arcs.findIdx? (λa=>a.to_==(s.marks.length:Int))=none:=by
   rw[List.findIdx?_eq_none_iff];intro a n;have:=m a n;simp;omega
  rw[this];simp
def Qn {M:Nat}{s a:PSp}{f t:Int}{x:LIn}(h:rF M s f t x=some a):a.arcs.length=s.arcs.length+1:=by
 unfold rF at h;split at h
 .simp only[aZ]at h;subst h;simp
 split at h
 .cases h
 simp only[aZ]at h;subst h;simp
end Go.Proofs.YtgnljpnlolkalaaGreat
namespace Go.Proofs.YtgnljpnlolkalaaGreat
def Qo (ms:LLi)(x:LIn):dL (λy=>y==x) ms=match eH ms x with|some k=>(k:Int)|none=>-1:=by
 unfold dL eH;have:(λy:LIn=>y==x)=(λy=>x==y):=by funext y;exact Bool.beq_comm
 rw[this];cases List.findIdx? (λy=>x==y) ms <;> rfl
def Uh {ms:LLi}{x:LIn}{k:Nat}(h:eH ms x=some k):k<ms.length:=(aR.1 (kM h)).1
def kN {N:eB}{m:LIn}{most:Int}(h:(eD N m most).2=0):(1<=most/\most<=300)/\tD N most.toNat (eD N m most).1:=by
 unfold eD at h ⊢;split at h
 .rename_i a
  rw[aG a];cases hg:goM N most.toNat most.toNat 0 ⟨[m],[]⟩ with
  | none=>rw[hg]at h;simp at h
  | some s1=>exact⟨⟨a.1,a.2.1⟩,(tD.go _ _ (tD.start a.2.2 (by omega)) hg).1⟩
 simp at h
open Go.RowKit
def Qp:sT 76 114 3 24:=sT.mk' (z:=.agg #[(0:Int),(0:Int),(0:Int)]) Tryz.underlying76 (by kernel_rfl) rfl (by decide)
def qC:World->(Nat->Value)->cC->Prop:=λ_ vs a=>vs 0=.int .i64 a.from_/\vs 1=.int .i64 a.tran/\vs 2=.int .i64 a.to_/\(Lit.int .i64 a.tran).wf=true
def qC.kept:CU qC:=λ_ _ _ _ _ h=>h
abbrev qD (w:World)(A:OAd)(n c:Nat)(ars:List cC):Prop:=Sl qC 3 w A n c ars
def qD.get {w:World}{A:OAd}{n c k:Nat}{ars:List cC}(h:qD w A n c ars)(f:k<n) :
  ∃b d a,A=some ⟨b,d,none⟩/\b<w.heap.size/\Hid (ars[k]?=some a)/\w.cell? ⟨b,d+k*3,none⟩=some (.int .i64 a.from_)/\w.cell? ⟨b,d+k*3+1,none⟩=some (.int .i64 a.tran)/\w.cell? ⟨b,d+k*3+2,none⟩=some (.int .i64 a.to_)/\Hid ((Lit.int .i64 a.tran).wf=true):=by
 obtain⟨b,d,a,vs,g,i,j,e,e0,l,m,o⟩:=Sl.get h f;refine⟨b,d,a,g,i,j, ?_, ?_, ?_,o⟩
 .rw[<-e0];exact e 0 (by omega)
 .rw[<-l];exact e 1 (by omega)
 .rw[<-m];exact e 2 (by omega)
def Bm {w:World}{A:OAd}{n c:Nat}{xs:LIn}(x:Int)(h:aY w A n c xs) :
  Calls Tryz.prog 144 #[.slice A n c,x] w λe w'=>e=.returned (.int .i64 (dL (λy=>x==y) xs))/\w=w':=by
 have r:=h.small;have H:=aA h;clear h;go_enter Tryz.func144,Tryz.ntmps144
 go_wp2
 go_loop [8] (λv=>∃k:Nat,k<=n/\v=k/\Hid (∀j,j<k->∀y,xs[j]?=some y->(x==y)=false)) (λv=>n-(intOf v).toNat)
 case atStart=>exact⟨0,aL _,rfl,λj d=>absurd d (by omega)⟩
 case round =>
  obtain⟨k,s,rfl,lo⟩:=hrel;by_cases f:k<n
  rotate_left
  .go_wp2
   go_ret
   exact⟨a8 (dV (λj d z a=>lo.o j (by have:=H.o.len;omega) z a)).symm,rfl⟩
  have o:(k:Int)<(n:Int):=by omega
  obtain⟨b,p,y,rfl,t,m,u⟩:=aY.get H.o f;by_cases g:x=y
  .subst g;go_wp2
   go_ret
   exact⟨a8 (dU lo.o m.o (by simp)).symm,rfl⟩
  have i:(x==y)=false:=by simpa using g
  have q:=aA i;clear g;go_wp2
  go_round
  case rel =>
   refine⟨k+1,by omega,by go_num,λj d z a=>?_⟩;by_cases l:j=k
   .subst l;have:=m.o;rw[a]at this;injection this with this;rw[this];exact q.o
   exact lo.o j (by omega) z a
  simp[intOf];omega
def dG {w:World}{A:OAd}{n c:Nat}{xs:LIn}(x:Int)(h:aY w A n c xs) :
  Calls Tryz.prog 95 #[.slice A n c,x] w λe w'=>e=.returned (.bool (xs.any λy=>x==y))/\w=w':=by
 have H:=aA h;clear h;go_enter Tryz.func95,Tryz.ntmps95
 go_wp2_with (refine(Bm x H.o).mono ?_;rintro e w' ⟨rfl,rfl⟩)
 go_ret
 exact⟨bB (jV _ _),rfl⟩
end Go.Proofs.YtgnljpnlolkalaaGreat
namespace Go.Proofs.YtgnljpnlolkalaaGreat
def yL:∀{xs ys:LIn},xs.Pairwise (.< .)->ys.Pairwise (.< .)->(∀x,x∈xs↔x∈ys)->xs=ys
 | [],[],_,_,_=>rfl
 | [],y::ys,_,_,h=>by have:=(h y).2 (by simp);simp at this
 | x::xs,[],_,_,h=>by have:=(h x).1 (by simp);simp at this
 | x::xs,y::ys,k,l,h=>by
  obtain⟨c,g⟩:=gQ.1 k;obtain⟨d,i⟩:=gQ.1 l;have e:x=y:=by
   rcases a7.1 ((h x).1 (by simp))with e|e
   .exact e
   rcases a7.1 ((h y).2 (by simp))with j|j
   .exact j.symm
   have a:=d x e;have b:=c y j;omega
  subst e;rw[yL g i (λz=>?_)];constructor
  .intro f;rcases a7.1 ((h z).1 (by simp[f]))with e|e
   .have:=c z f;omega
   exact e
  intro f;rcases a7.1 ((h z).2 (by simp[f]))with e|e
  .have:=d z f;omega
  exact e
end Go.Proofs.YtgnljpnlolkalaaGreat
namespace Go.Proofs.YtgnljpnlolkalaaGreat
def JH (a:Int):Bool:=decide (a<1)||decide (26<a)
def oU (t:LIn):Bool:=decide (60<t.length)||t.any JH
def eI (log:LLi):Int:=if 60<log.length then 4 else if log.any oU=true then 2 else 0
def zC {log:LLi}(h:60<log.length):eI log=4:=by rw[eI,aG h]
def Df {log:LLi}(h:¬60<log.length){t:LIn}(a:t∈log)(b:oU t=true):eI log=2:=by
 rw[eI,aD h,aG (dO.2 ⟨t,a,b⟩)]
def Hj {log:LLi}(h:¬60<log.length)(b:∀(j:Nat) (t:LIn),j<log.length->log[j]?=some t->oU t=false):eI log=0:=by
 rw[eI,aD h,aD];rw[Bool.not_eq_true,iC];intro t c;obtain⟨j,a,rfl⟩:=hZ c;rw[b j _ a (aV a)];simp
def zD {log:LLi}(h:eI log=0):log.length<=60/\∀t∈log,t.length<=60/\∀x∈t,1<=x/\x<=26:=by
 unfold eI at h;split at h
 .omega
 split at h
 .omega
 rename_i d a
 refine⟨by omega,λt b=>?_⟩;rw[Bool.not_eq_true,iC]at a;have:=a t b;unfold oU at this;rw[Bool.not_eq_true,Bool.or_eq_false_iff,decide_eq_false_iff_not,iC]at this;refine⟨by omega,λx c=>?_⟩;have:=this.2 x c;unfold JH at this;simp only[l7,bO,not_or]at this;omega
def Ui {t:LIn}{k:Nat}{x:Int}(h:t[k]?=some x)(a:JH x=true∨60<=k):oU t=true:=by
 unfold oU;rw[l7,bO];rcases a with a|a
 .exact .inr (dO.2 ⟨x,aS h,a⟩)
 have:=(aR.1 h).1;exact .inl (by omega)
def Qq {t:LIn}(h:∀(k:Nat) (x:Int),k<t.length->t[k]?=some x->JH x=false/\k<60):oU t=false:=by
 unfold oU;rw[Bool.or_eq_false_iff,decide_eq_false_iff_not,iC];constructor
 .intro a;have:=(h 60 _ a (aV a)).2;omega
 intro x c;obtain⟨k,b,rfl⟩:=hZ c;rw[(h k _ b (aV b)).1];simp
def inS (b:LIn)(a:Int):Bool:=b.any λy=>a==y
def fY (log:LLi)(b:LIn):LLi:=log.map λt=>t.filter λa=>inS b a
def Dh (log:LLi)(b t:LIn):fY (log++[t]) b=fY log b++[t.filter λa=>inS b a]:=by simp[fY]
def zF {α:Type}{R:α->α->Prop}(c:∀a b,R a b->R b a->False):∀{xs ys:List α},xs.Pairwise R->ys.Pairwise R->(∀x,x∈xs↔x∈ys)->xs=ys
 | [],[],_,_,_=>rfl
 | [],y::ys,_,_,h=>by have:=(h y).2 (by simp);simp at this
 | x::xs,[],_,_,h=>by have:=(h x).1 (by simp);simp at this
 | x::xs,y::ys,l,m,h=>by
  obtain⟨d,i⟩:=gQ.1 l;obtain⟨f,j⟩:=gQ.1 m;have e:x=y:=by
   rcases a7.1 ((h x).1 (by simp))with e|e
   .exact e
   rcases a7.1 ((h y).2 (by simp))with k|k
   .exact k.symm
   exact(c _ _ (f x e) (d y k)).elim
  subst e;rw[zF c i j (λz=>?_)];constructor
  .intro g;rcases a7.1 ((h z).1 (by simp[g]))with e|e
   .subst e;exact(c _ _ (d z g) (d z g)).elim
   exact e
  intro g;rcases a7.1 ((h z).2 (by simp[g]))with e|e
  .subst e;exact(c _ _ (f z g) (f z g)).elim
  exact e
def qT (p q:Int×Int):Prop:=p.1<q.1∨(p.1=q.1/\p.2<q.2)
def Hk (p q:Int×Int)(h:qT p q)(g:qT q p):False:=by unfold qT at h g;omega
def Xv (log:LLi)(x:Int):Prop:=∃t∈log,x∈t
def Di (log:LLi)(x:Int):Prop:=∃t∈log,t.head?=some x
def Og (log:LLi)(x:Int):Prop:=∃t∈log,t.getLast?=some x
def Xw (log:LLi)(p:Int×Int):Prop:=∃t∈log,∃k:Nat,t[k]?=some p.1/\t[k+1]?=some p.2
structure bI where
 labels:LIn
 first:LIn
 last:LIn
 behind:List (Int×Int)
def zG:bI:=⟨[],[],[],[]⟩
def eZ (log:LLi)(p:bI):Prop :=
 (p.labels.Pairwise (.< .)/\∀x,x∈p.labels↔Xv log x)/\(p.first.Pairwise (.< .)/\∀x,x∈p.first↔Di log x)/\(p.last.Pairwise (.< .)/\∀x,x∈p.last↔Og log x)/\(p.behind.Pairwise qT/\∀x,x∈p.behind↔Xw log x)
def eZ.uniq {log:LLi}{p q:bI}(h:eZ log p)(g:eZ log q):p=q:=by
 obtain⟨⟨e,f⟩,⟨i,j⟩,⟨k,l⟩,⟨m,n⟩⟩:=h;obtain⟨⟨o,r⟩,⟨s,t⟩,⟨u,v⟩,⟨w,y⟩⟩:=g;have a:p.labels=q.labels:=yL e o (λx=>(f x).trans (r x).symm);have b:p.first=q.first:=yL i s (λx=>(j x).trans (t x).symm);have c:p.last=q.last:=yL k u (λx=>(l x).trans (v x).symm);have d:p.behind=q.behind:=zF Hk m w (λx=>(n x).trans (y x).symm);cases p;cases q
 simp only at a b c d;subst a b c d;rfl
def OfP (log:LLi)(p:bI)(e:Int):Prop:=e=eI log/\if eI log=0 then eZ log p else p=zG
end Go.Proofs.YtgnljpnlolkalaaGreat
namespace Go.Proofs.YtgnljpnlolkalaaGreat
inductive bH where
 | mk (kind label:Int) (kids:List bH)
def bH.kind:bH->Int| .mk k _ _=>k
def bH.label:bH->Int| .mk _ l _=>l
def bH.kids:bH->List bH| .mk _ _ ks=>ks
def cU (k l:Int)(n:Nat):Int :=
 if k<1∨6<k then 5 else if k=2/\(l<1∨26<l)then 2 else if(k<3/\0<n)∨(3<=k/\n=0)∨(k=6/\n≠2)then 1 else 0
def bU (g:bH->Nat->Nat×Int)(s:Nat×Int)(k:bH):Nat×Int:=if s.2=0 then g k s.1 else s
def bY:Nat->bH->Nat->Nat×Int
 | 0,_,had=>(had+1,4)
 | f+1,b,had=>if 40<had+1 then(had+1,4)else if cU b.kind b.label b.kids.length≠0 then(had+1,cU b.kind b.label b.kids.length)else b.kids.foldl (bU (bY f)) (had+1,0)
def eK (b:bH):Int:=(bY 41 b 0).2
def sG {g:bH->Nat->Nat×Int}{s:Nat×Int}(h:s.2≠0):∀l:List bH,l.foldl (bU g) s=s:=λl=>by
 induction l with
 | nil=>rfl
 | cons a l b=>rw[f9,bU,aD h];exact b
def jA {g:bH->Nat->Nat×Int}{s:Nat×Int}{l:List bH}{i:Nat}{x:bH}(h:l[i]?=some x):(l.take (i+1)).foldl (bU g) s=bU g ((l.take i).foldl (bU g) s) x:=by
 rw[cP,h,fD];rfl
def kH {g:bH->Nat->Nat×Int}{s:Nat×Int}{l:List bH}{i:Nat}(h:((l.take i).foldl (bU g) s).2≠0):l.foldl (bU g) s=(l.take i).foldl (bU g) s:=by
 have e:=List.take_append_drop i l;rw[<-e,fD,e];exact sG h _
def gG:∀(f:Nat) (b:bH) (had:Nat),(bY f b had).2=0->had+1<=(bY f b had).1/\(bY f b had).1<=40
 | 0,b,had,h=>by rw[bY]at h;cases h
 | f+1,b,had,h=>by
  have key:∀(l:List bH) (s:Nat×Int),(l.foldl (bU (bY f)) s).2=0->s.2=0/\s.1<=(l.foldl (bU (bY f)) s).1/\(s.1<=40->(l.foldl (bU (bY f)) s).1<=40):=λl=>by
   induction l with
   | nil=>exact λs h=>⟨h,aB _,id⟩
   | cons a l i =>
    intro s h;rw[f9]at h ⊢;obtain⟨c,j,g⟩:=i _ h;by_cases d:s.2=0
    .rw[bU,aG d]at c j g ⊢;obtain⟨p,k⟩:=gG f a s.1 c;exact⟨d,by omega,λ_=>g k⟩
    rw[bU,aD d]at c;exact absurd c d
  rw[bY]at h ⊢;split at h
  .cases h
  rename_i m
  rw[aD m];split at h
  .rename_i e;exact absurd h e
  rename_i e
  rw[aD e];obtain⟨_,n,o⟩:=key _ _ h;exact⟨n,o (by simp only;omega)⟩
open Go.RowKit
def Hm (w:World):CY 57 #[] w JH where
 enters:=λargs w=>by kernel_rfl
 calls:=λx=>by
  go_enter Tryz.func57,Tryz.ntmps57
  go_wp2
  all_goals
   go_ret
   exact⟨bB (by simp[JH];try omega),rfl⟩
def oV {w:World}{A:OAd}{n c:Nat}{log:LLi}(h:cQ w A n c log) :
  Calls Tryz.prog 22 #[.slice A n c] w λe w'=>e=.returned (.int .i64 (eI log))/\w=w':=by
 have N:=h.small;have p:=aA h.len;have H:=aA h;clear h;by_cases f:60<n
 .have d:=aA (zC (log:=log) (by rw[p.o];exact f));have g:(60:Int)<(n:Int):=by omega
  go_enter Tryz.func22,Tryz.ntmps22
  go_wp2
  go_ret
  exact⟨a8 d.o.symm,rfl⟩
 .have z:=aA (show ¬60<log.length by rw[p.o];exact f);have g:¬(60:Int)<(n:Int):=by omega
  go_enter Tryz.func22,Tryz.ntmps22
  go_wp2
  go_loop [10] (λi=>∃k:Nat,k<=n/\i=k/\Hid (∀(j:Nat) (t:LIn),j<k->log[j]?=some t->oU t=false)) (λi=>n-(intOf i).toNat)
  case atStart=>exact⟨0,aL _,rfl,λj t l=>absurd l (by omega)⟩
  obtain⟨k,O,rfl,a⟩:=hrel;by_cases q:k<n
  rotate_left
  .obtain rfl:k=n:=by omega
   have d:=aA (Hj z.o (λj t l m=>a.o j t (by rw[<-p.o];exact l) m));clear a;go_wp2
   go_ret
   exact⟨a8 d.o.symm,rfl⟩
  have G:(k:Int)<(n:Int):=by omega
  obtain⟨b,I,x,A1,n1,c1,rfl,B,r,P,u,J⟩:=cQ.get H.o q;have C:=aA u;have v:=aA (show oU x=(decide (60<n1)||x.any JH) by rw[oU,u.len]);have K:=aA (show oU x=false->∀(j:Nat) (t:LIn),j<k+1->log[j]?=some t->oU t=false from λL j t l m=>by
   by_cases e:j=k
   .subst e;have:=r.o;rw[m]at this;injection this with this;rw[this];exact L
   exact a.o j t (by omega) m)
  have D:=aA (λB=>Df z.o (aS r.o) B);clear u a r;by_cases E:60<n1
  .have d:=aA (D.o (by rw[v.o];simp[E]));have y:(60:Int)<(n1:Int):=by omega
   go_wp2
   go_ret
   exact⟨a8 d.o.symm,rfl⟩
  have y:¬(60:Int)<(n1:Int):=by omega
  obtain⟨s,F⟩:=aK (x.any JH);have o:=aA F;clear F;cases s
  .have M:=aA (K.o (by rw[v.o,o.o];simp[E]));go_wp2_with (refine(fL C.o (Hm _)).mono ?_;rintro e w' ⟨rfl,rfl⟩;rw[o.o])
   go_round
   case rel=>exact⟨k+1,by omega,by go_num,M⟩
   simp[intOf];omega
  have d:=aA (D.o (by rw[v.o,o.o];simp));go_wp2_with (refine(fL C.o (Hm _)).mono ?_;rintro e w' ⟨rfl,rfl⟩;rw[o.o])
  go_ret
  exact⟨a8 d.o.symm,rfl⟩
def xF {w:World}{A:OAd}{n c:Nat}{log:LLi}(h:cQ w A n c log) :
  Calls Tryz.prog 43 #[.slice A n c] w λe w'=>e=.returned (.int .i64 (eI log))/\w=w':=by
 have Z:=h.small;have s:=aA h.len;have H:=aA h;clear h;by_cases l:60<n
 .have f:=aA (zC (log:=log) (by rw[s.o];exact l));have m:(60:Int)<(n:Int):=by omega
  go_enter Tryz.func43,Tryz.ntmps43
  go_wp2
  go_ret
  exact⟨a8 f.o.symm,rfl⟩
 .have I:=aA (show ¬60<log.length by rw[s.o];exact l);have m:¬(60:Int)<(n:Int):=by omega
  go_enter Tryz.func43,Tryz.ntmps43
  go_wp2
  go_loop [12] (λi=>∃k:Nat,k<=n/\i=k/\Hid (∀(j:Nat) (t:LIn),j<k->log[j]?=some t->oU t=false)) (λi=>n-(intOf i).toNat)
  case atStart=>exact⟨0,aL _,rfl,λj t g=>absurd g (by omega)⟩
  obtain⟨k,hk,rfl,a⟩:=hrel;by_cases u:k<n
  rotate_left
  .obtain rfl:k=n:=by omega
   have f:=aA (Hj I.o (λj t g p=>a.o j t (by rw[<-s.o];exact g) p));clear a;go_wp2
   go_ret
   exact⟨a8 f.o.symm,rfl⟩
  have L:(k:Int)<(n:Int):=by omega
  obtain⟨b,M,x,A1,n1,c1,rfl,r,v,q0,B,N⟩:=cQ.get H.o u;have O:=aA B;have P:=aA B.len;have Q:=aA (show oU x=false->∀(j:Nat) (t:LIn),j<k+1->log[j]?=some t->oU t=false from λC j t g p=>by
   by_cases e:j=k
   .subst e;have:=v.o;rw[p]at this;injection this with this;rw[this];exact C
   exact a.o j t (by omega) p)
  have R:=aA (λr=>Df I.o (aS v.o) r);clear B a v;go_wp2
  go_loop [18] (λi=>∃q:Nat,q<=n1/\i=q/\Hid (∀(j:Nat) (y:Int),j<q->x[j]?=some y->JH y=false/\j<60)) (λi=>n1-(intOf i).toNat)
  case atStart=>exact⟨0,aL _,rfl,λj y g=>absurd g (by omega)⟩
  obtain⟨q,hq,rfl,d⟩:=hrel;by_cases D:q<n1
  rotate_left
  .obtain rfl:q=n1:=by omega
   have E:=aA (Q.o (Qq (λj y g o=>d.o j y (by rw[<-P.o];exact g) o)));clear d;go_wp2
   go_round
   case rel=>exact⟨k+1,by omega,by go_num,E⟩
   simp[intOf];omega
  have S:(q:Int)<(n1:Int):=by omega
  obtain⟨b',J,y,rfl,T,o,qy⟩:=O.o.get D;have F:=aA (λr=>R.o (Ui o.o r));have U:=aA (show JH y=false->q<60->∀(j:Nat) (z:Int),j<q+1->x[j]?=some z->JH z=false/\j<60 from λC V j z g K=>by
   by_cases e:j=q
   .subst e;have:=o.o;rw[K]at this;injection this with this;rw[this];exact⟨C,V⟩
   exact d.o j z (by omega) K)
  clear d o;by_cases W:y<1
  .have f:=aA (F.o (.inl (by simp[JH,W])));go_wp2
   go_ret
   exact⟨a8 f.o.symm,rfl⟩
  by_cases X:26<y
  .have f:=aA (F.o (.inl (by simp[JH,X])));go_wp2
   go_ret
   exact⟨a8 f.o.symm,rfl⟩
  by_cases Y:60<=q
  .have f:=aA (F.o (.inr Y));have G:(60:Int)<=(q:Int):=by omega
   go_wp2
   go_ret
   exact⟨a8 f.o.symm,rfl⟩
  have E:=aA (U.o (by simp[JH];omega) (by omega));have G:¬(60:Int)<=(q:Int):=by omega
  go_wp2
  go_round
  case rel=>exact⟨q+1,by omega,by go_num,E⟩
  simp[intOf];omega
open Go.Maps
structure Wq {α:Type}(k:TypeId)(ok:α->Prop)(kv:α->Value)(kk:α->Lit):Prop where
 law:Keyed Tryz.prog k
 key:∀x,ok x->keyOf Tryz.prog k (kv x)=some (kk x)
 back:∀x y,ok x->ok y->kk x=kk y->x=y
def xG {α:Type}(k:TypeId)(ok:α->Prop)(kk:α->Lit)(w:World)(b:Nat)(S:List α):Prop :=
 (∀x∈S,ok x)/\∃(D:DataW Unit) (m:Nat),w.ownsMap Tryz.prog k unitElem b m D/\m<=S.length/\Maps.size D<=S.length/\∀key a,keyOf Tryz.prog k key=some a->(Maps.has D a=true↔∃x∈S,a=kk x)
section
variable {α:Type} {k:TypeId} {ok:α->Prop} {kv:α->Value} {kk:α->Lit} {w w':World} {b:Nat} {S:List α}
def tU {H:Type}{P:Program}{R:Value->Option (DataW H×List MemPlace)}{n:Nat}{D:DataW H}(h:w.ownsMap P k R b n D)(c:w'.heap[b]?=w.heap[b]?):w'.ownsMap P k R b n D:=by
 obtain⟨es,a,d,e⟩:=h;exact⟨es,a,c.trans d,e⟩
def xG.made (k:TypeId)(ok:α->Prop)(kk:α->Lit)(w:World):xG k ok kk (w.alloc (.map #[] 0)) w [] :=
 ⟨λx h=>(by cases h),.map [],0,World.ownsMap_made _ _ _ _,aB _,aL _,λkey b _=>⟨λh=>by simp[Maps.has]at h,λ⟨x,a,_⟩=>(by cases a)⟩⟩
def xG.of_block (h:xG k ok kk w b S)(a:w'.heap[b]?=w.heap[b]?):xG k ok kk w' b S:=by
 obtain⟨c,D,m,d,e⟩:=h;exact⟨c,D,m,tU d a,e⟩
def xG.lt (h:xG k ok kk w b S):b<w.heap.size:=by
 obtain⟨_,D,m,a,_⟩:=h;exact a.lt
def xG.keep (h:xG k ok kk w b S)(a:Below w w w'):xG k ok kk w' b S:=h.of_block (a.block b h.lt)
def xG.alloc (h:xG k ok kk w b S)(o:Obj):xG k ok kk (w.alloc o) b S:=h.of_block (heap_alloc_old w o h.lt)
def xG.beside {row:Option Nat}(h:xG k ok kk w b S)(c:w.grownBy w' row)(a:some b≠row):xG k ok kk w' b S:=h.of_block (c.block b h.lt a)
def xG.put (K:Wq k ok kv kk) {D:DataW Unit} {m:Nat} (h:∀x∈S,ok x) (f:w.ownsMap Tryz.prog k unitElem b m D) (i:m<=S.length) (o:Maps.size D<=S.length) (j:∀key c,keyOf Tryz.prog k key=some c->(Maps.has D c=true↔∃x∈S,c=kk x))
  {x:α} (l:ok x) (n:w'.ownsMap Tryz.prog k unitElem b (m+1) (D.put (kk x) (.agg []))):xG k ok kk w' b (x::S):=by
 refine⟨λy a=>?_,_,m+1,n,by simpa using i, ?_,λkey c g=>?_⟩
 .rcases a7.1 a with rfl|a
  .exact l
  exact h y a
 .rw[Maps.size_put (f.tidy K.law),bP];split <;> omega
 .by_cases e:c=kk x
  .subst e;rw[Maps.has_put_same (f.tidy K.law).isMap (K.law.key g)];exact⟨λ_=>⟨x,by simp,rfl⟩,λ_=>rfl⟩
  rw[Maps.has_put_other e,j key c g];constructor
  .rintro⟨y,a,d⟩;exact⟨y,by simp[a],d⟩
  rintro⟨y,a,d⟩;rcases a7.1 a with rfl|a
  .exact absurd d e
  exact⟨y,a,d⟩
def Qr (k:TypeId)(kk:α->Lit)(D:DataW Unit)(left:Lit->Bool)(S ss:List α):Prop :=
 ss.Nodup/\(∀x∈ss,x∈S)/\∀key a,keyOf Tryz.prog k key=some a->(left a=true↔Maps.has D a=true/\∀x∈ss,a≠kk x)
def Qr.start (D:DataW Unit)(S:List α):Qr k kk D (Maps.has D) S []:=⟨List.nodup_nil,λx h=>(by cases h),λkey b _=>⟨λh=>⟨h,λx a=>(by cases a)⟩,λh=>h.1⟩⟩
def Qr.step (K:Wq k ok kv kk){D:DataW Unit}{left:Lit->Bool}{ss:List α}(h:Qr k kk D left S ss){x:α}(q:x∈S)(r:ok x)(i:left (kk x)=true):Qr k kk D (λz=>left z&&!z.sameKey (kk x)) S (ss++[x]):=by
 obtain⟨s,t,n⟩:=h;have f:=K.key x r;have u:=(n _ _ f).1 i;refine⟨nB.2 ⟨s,by simp,λa v c o e=>?_⟩,λy b=>?_,λkey j l=>?_⟩
 .rw[bJ]at o;subst o;exact u.2 a v (by rw[e])
 .rcases cN.1 b with b|b
  .exact t y b
  rw[bJ.1 b];exact q
 simp only[cA,m9];rw[n key j l];have d:=WideAt.sameKey_iff (a:=j) (K.law.key f);constructor
 .rintro⟨⟨m,g⟩,p⟩;refine⟨m,λy b=>?_⟩;rcases cN.1 b with b|b
  .exact g y b
  rw[bJ.1 b];intro e;rw[d.2 e]at p;cases p
 rintro⟨m,g⟩;refine⟨⟨m,λy b=>g y (by simp[b])⟩, ?_⟩;cases hs:j.sameKey (kk x)
 .rfl
 exact absurd (d.1 hs) (g x (by simp))
def Qr.fin (K:Wq k ok kv kk){D:DataW Unit}{left:Lit->Bool}{ss:List α}(h:Qr k kk D left S ss)(c:∀x∈S,ok x)(i:∀key a,keyOf Tryz.prog k key=some a->(Maps.has D a=true↔∃x∈S,a=kk x))(j:∀a,left a=false):ss.Nodup/\∀x,x∈ss↔x∈S:=by
 obtain⟨l,f,m⟩:=h;refine⟨l,λx=>⟨f x,λd=>?_⟩⟩;have b:=K.key x (c x d);apply eO
 intro n;have:=(m _ _ b).2 ⟨(i _ _ b).2 ⟨x,d,rfl⟩,λy g e=>n (by rw[K.back x y (c x d) (c y (f y g)) e];exact g)⟩;rw[j]at this;cases this
end
def okI (x:Int):Prop:=1<=x/\x<=26
def kkI (x:Int):Lit:=.int .i64 x
def Qs:Wq 3 okI (Value.int .i64) kkI where
 law:=int_keyed Tryz.underlying3
 key:=λx a=>keyOf_int_mk Tryz.underlying3 (jM (by unfold okI at a;omega))
 back:=λx y _ _ h=>by unfold kkI at h;injection h
abbrev Uj (w:World)(b:Nat)(S:LIn):Prop:=xG 3 okI kkI w b S
def okP (p:Int×Int):Prop:=okI p.1/\okI p.2
def kvP (p:Int×Int):Value:=.agg #[.int .i64 p.1,.int .i64 p.2]
def kkP (p:Int×Int):Lit:=.string (keyBytes [.int .i64 p.1,.int .i64 p.2])
def Qu:Keyed Tryz.prog 165:=Keyed.of_law (deep_law_laid Facts.laidOut (m:=2) (by decide) (gR (by kernel_rfl)) (by kernel_rfl) (by kernel_rfl))
def JI:Tryz.prog.keyType 165=true:=by kernel_rfl
def Hn:Tryz.prog.cellsOf 165=2:=by kernel_rfl
def Qv:Tryz.prog.cellsOf 3=1:=by kernel_rfl
def JJ (p:Int×Int)(h:okP p):keyOf Tryz.prog 165 (kvP p)=some (kkP p):=by
 have a:(Lit.int .i64 p.1).wf=true:=jM (by unfold okP okI at h;omega);have b:(Lit.int .i64 p.2).wf=true:=jM (by unfold okP okI at h;omega);have c:∃m,Tryz.prog.types.size+1=m+2:=⟨Tryz.prog.types.size-1,by have:0<Tryz.prog.types.size:=gR (by kernel_rfl);omega⟩;obtain⟨m,d⟩:=c;unfold keyOf;rw[Tryz.underlying165];simp only[JI,kvP,Value.formed,Tryz.underlying165,Hn,d];simp[Program.keyLits,Tryz.underlying165,Hn,Qv,Tryz.underlying3,a,b,Value.cells,kkP,show List.range 2=[0,1]from rfl]
def Qw:Wq 165 okP kvP kkP where
 law:=Qu
 key:=JJ
 back:=λx y a b h=>by
  have:=Qu.inj (JJ x a) (by rw[h];exact JJ y b);simp only[kvP,Value.agg.injEq,Array.mk.injEq,List.cons.injEq,Value.int.injEq,true_and,and_true]at this;exact Prod.ext this.1 this.2
abbrev XU (w:World)(b:Nat)(S:List (Int×Int)):Prop:=xG 165 okP kkP w b S
def sH {w:World}{b:Nat}{S:LIn}(h:Uj w b S)(l:S.length<=10000){x:Int}(a:okI x) :
  Calls Tryz.prog 154 #[.map (some b),x] w λe w'=>(∃v,e=.returned v)/\Uj w' b (x::S)/\w.grownBy w' (some b):=by
 obtain⟨d,D,m,c,f,g,i⟩:=h;go_enter Tryz.func154,Tryz.ntmps154
 go_wp2_with (at_mapUpdate;refine wpList_mapUpdate_own _ rfl _ _ _ 207 rfl 3 _ Qs.law Tryz.underlying207 _ b m _ rfl c (by simp only[maxLen];omega) _ _ _ rfl rfl (Qs.key x a) _ [] unitElem_mk ?_;intro w1 j k)
 go_end0
 exact⟨⟨_,rfl⟩,xG.put Qs d c f g i a j,k⟩
def Oh {w:World}{b:Nat}{S:List (Int×Int)}(h:XU w b S)(q:S.length<=10000){p:Int×Int}(c:okP p) :
  Calls Tryz.prog 155 #[.map (some b),.agg #[.int .i64 p.1,.int .i64 p.2]] w λe w'=>(∃v,e=.returned v)/\XU w' b (p::S)/\w.grownBy w' (some b):=by
 have f:=aA (World.grownBy_alloc w (.cells #[.int .i64 p.1,.int .i64 p.2] 165) (some b));obtain⟨g,D,m,d,i,j,k⟩:=h;have l:=Box.new w #[.int .i64 p.1,.int .i64 p.2] 165;have a:=tU d (heap_alloc_old w (.cells #[.int .i64 p.1,.int .i64 p.2] 165) d.lt);obtain⟨r,c1⟩:=l.two;go_enter Tryz.func155,Tryz.ntmps155
 go_wp2_with (at_mapUpdate;refine wpList_mapUpdate_own _ rfl _ _ _ 209 rfl 165 _ Qw.law Tryz.underlying209 _ b m _ rfl a (by simp only[maxLen];omega) _ _ _ rfl rfl (Qw.key p c) _ [] unitElem_mk ?_;intro w1 n o)
 go_end0
 exact⟨⟨_,rfl⟩,xG.put Qw g a i j k c n,f.o.trans o⟩
end Go.Proofs.YtgnljpnlolkalaaGreat
namespace Go.Proofs.YtgnljpnlolkalaaGreat
section
variable {sh:Nat->Nat->Bool} {n:Nat}
inductive YO (sh:Nat->Nat->Bool)(n:Nat):Nat->Nat->Prop
 | refl (i:Nat):YO sh n i i
 | step {i j k:Nat}:YO sh n i j->j<n->k<n->sh j k=true->YO sh n i k
structure PI (sh:Nat->Nat->Bool)(n k:Nat)(L:LLi):Prop where
 asc:∀l∈L,l.Pairwise (.< .)
 ne:∀l∈L,l≠[]
 rng:∀l∈L,∀x∈l,0<=x/\x<(k:Int)
 all:∀i:Nat,i<k->∃l∈L,(i:Int)∈l
 dis:L.Pairwise (λa b=>∀x,x∈a->x∉b)
 con:∀l∈L,∀x∈l,∀y∈l,YO sh n x.toNat y.toNat
 clo:∀l∈L,∀x∈l,∀j:Nat,j<k->sh x.toNat j=true->(j:Int)∈l
def oW:LIn->LIn->Int
 | [],[]=>0
 | [],_::_=>-1
 | _::_,[]=>1
 | x::xs,y::ys=>if x<y then -1 else if y<x then 1 else oW xs ys
end
end Go.Proofs.YtgnljpnlolkalaaGreat
namespace Go.Proofs.YtgnljpnlolkalaaGreat
open Go.Shelf
def uP:Go.Shelf.Ren:=⟨λ|6=>173|15=>176|14=>183|28=>194|29=>195|20=>209|21=>210|22=>211|23=>212|24=>213|25=>214|26=>215|27=>216|46=>227|47=>219|48=>220|49=>228|50=>229|57=>232|n=>n,λ|22=>121|24=>165|25=>214|3=>3|39=>205|0=>0|53=>224|55=>244|4=>4|46=>238|45=>237|50=>193|5=>5|9=>9|66=>257|70=>261|76=>267|77=>268|n=>n,λ|n=>n⟩
def tG:Go.Proofs.SlLaysF0.n6 Tryz.prog uP:={
 mixed:=by kernel_rfl
 f6:=⟨Tryz.f173.name,by decide,Tryz.func173.trans (aO some (by kernel_rfl))⟩
 f14:=⟨Tryz.f183.name,by decide,Tryz.func183.trans (aO some (by kernel_rfl))⟩
 f15:=Tryz.func176.trans (aO some (by kernel_rfl))
 f20:=⟨Tryz.f209.name,by decide,Tryz.func209.trans (aO some (by kernel_rfl))⟩
 f21:=⟨Tryz.f210.name,by decide,Tryz.func210.trans (aO some (by kernel_rfl))⟩
 f22:=⟨Tryz.f211.name,by decide,Tryz.func211.trans (aO some (by kernel_rfl))⟩
 f23:=⟨Tryz.f212.name,by decide,Tryz.func212.trans (aO some (by kernel_rfl))⟩
 f24:=⟨Tryz.f213.name,by decide,Tryz.func213.trans (aO some (by kernel_rfl))⟩
 f25:=⟨Tryz.f214.name,by decide,Tryz.func214.trans (aO some (by kernel_rfl))⟩
 f26:=⟨Tryz.f215.name,by decide,Tryz.func215.trans (aO some (by kernel_rfl))⟩
 f27:=⟨Tryz.f216.name,by decide,Tryz.func216.trans (aO some (by kernel_rfl))⟩
 f28:=Tryz.func194.trans (aO some (by kernel_rfl))
 f29:=Tryz.func195.trans (aO some (by kernel_rfl))
 f46:=⟨Tryz.f227.name,by decide,Tryz.func227.trans (aO some (by kernel_rfl))⟩
 f47:=Tryz.func219.trans (aO some (by kernel_rfl))
 f48:=Tryz.func220.trans (aO some (by kernel_rfl))
 f49:=⟨Tryz.f228.name,by decide,Tryz.func228.trans (aO some (by kernel_rfl))⟩
 f50:=⟨Tryz.f229.name,by decide,Tryz.func229.trans (aO some (by kernel_rfl))⟩
 f57:=⟨Tryz.f232.name,by decide,Tryz.func232.trans (aO some (by kernel_rfl))⟩
 t0:=Tryz.underlying0
 a0:=Tryz.isAgg0
 z0:=Tryz.sizeOf0
 v0:=Tryz.zeroValue0
 t3:=Tryz.underlying3
 a3:=Tryz.isAgg3
 z3:=Tryz.sizeOf3
 v3:=Tryz.zeroValue3
 t4:=Tryz.underlying4
 a4:=Tryz.isAgg4
 z4:=Tryz.sizeOf4
 v4:=Tryz.zeroValue4
 t5:=Tryz.underlying5
 a5:=Tryz.isAgg5
 z5:=Tryz.sizeOf5
 v5:=Tryz.zeroValue5
 t9:=Tryz.underlying9
 a9:=Tryz.isAgg9
 z9:=Tryz.sizeOf9
 v9:=Tryz.zeroValue9
 t22:=Tryz.underlying121
 a22:=Tryz.isAgg121
 z22:=Tryz.sizeOf121
 v22:=Tryz.zeroValue121
 t25:=Tryz.underlying214
 a25:=Tryz.isAgg214
 z25:=Tryz.sizeOf214
 v25:=Tryz.zeroValue214
 t39:=Tryz.underlying205
 a39:=Tryz.isAgg205
 z39:=Tryz.sizeOf205
 v39:=Tryz.zeroValue205
 t45:=Tryz.underlying237
 a45:=Tryz.isAgg237
 z45:=Tryz.sizeOf237
 v45:=Tryz.zeroValue237
 t46:=Tryz.underlying238
 a46:=Tryz.isAgg238
 z46:=Tryz.sizeOf238
 v46:=Tryz.zeroValue238
 t50:=Tryz.underlying193
 a50:=Tryz.isAgg193
 z50:=Tryz.sizeOf193
 v50:=Tryz.zeroValue193
 t53:=Tryz.underlying224
 a53:=Tryz.isAgg224
 z53:=Tryz.sizeOf224
 v53:=Tryz.zeroValue224
 t55:=Tryz.underlying244
 a55:=Tryz.isAgg244
 z55:=Tryz.sizeOf244
 v55:=Tryz.zeroValue244
 t66:=Tryz.underlying257
 a66:=Tryz.isAgg257
 z66:=Tryz.sizeOf257
 v66:=Tryz.zeroValue257
 t70:=Tryz.underlying261
 a70:=Tryz.isAgg261
 z70:=Tryz.sizeOf261
 v70:=Tryz.zeroValue261
 t76:=Tryz.underlying267
 a76:=Tryz.isAgg267
 z76:=Tryz.sizeOf267
 v76:=Tryz.zeroValue267
 t77:=Tryz.underlying268
 a77:=Tryz.isAgg268
 z77:=Tryz.sizeOf268
 v77:=Tryz.zeroValue268}
open Go.RowKit Go.Lib Go.Sort in
def slices_SortFunc {α:Type} [Inhabited α] (k:Nat)(j:∀w,(isAgg 165).run Tryz.prog w=.ok true w)(l:∀w,(Go.sizeOf 165).run Tryz.prog w=.ok k w)(enc:α->List Value)(m:∀x,(enc x).length=k)(o:∀x,∀v∈enc x,v.oneCell'=true)(f:α->α->Int)(p:SWO (ltOf f))(g:Nat)(h:Array Value)(blk a cap:Nat)(d:Array α)(w:World)(q:∀args w,(callFunc g args).run Tryz.prog w=.ok (.enter g args) w)(b:CmpLays Tryz.prog g h enc k f blk a d.size w)(r:HoldsK enc k w blk a d)(c:blk<w.heap.size)(i:d.size<4611686018427387904) :
  Calls Tryz.prog 173 #[.slice (some ⟨blk,a,none⟩) d.size cap,.func (.func g) #[] h] w λe w' =>
   e=.returned (.tuple #[])/\∃d' n os,PermIn 0 d.size d d'/\SortedIn (ltOf f) 0 d.size d'/\w'=sortWorldK enc k w blk a n d' os:=AnyQ.slices_SortFunc tG k j l enc m o f p g h blk a cap d w q b r c i
def vR:Go.Shelf.Ren:=⟨λ|6=>172|15=>176|14=>182|28=>194|29=>195|20=>201|21=>202|22=>203|23=>204|24=>205|25=>206|26=>207|27=>208|46=>224|47=>219|48=>220|49=>225|50=>226|57=>231|n=>n,λ|22=>24|24=>3|25=>212|3=>3|39=>205|0=>0|53=>224|55=>244|4=>4|46=>238|45=>237|50=>193|5=>5|9=>9|66=>257|70=>261|76=>267|77=>268|n=>n,λ|n=>n⟩
def ED:Go.Proofs.SlLaysF.n6 Tryz.prog vR:={
 mixed:=by kernel_rfl
 f6:=⟨Tryz.f172.name,by decide,Tryz.func172.trans (aO some (by kernel_rfl))⟩
 f14:=⟨Tryz.f182.name,by decide,Tryz.func182.trans (aO some (by kernel_rfl))⟩
 f15:=Tryz.func176.trans (aO some (by kernel_rfl))
 f20:=⟨Tryz.f201.name,by decide,Tryz.func201.trans (aO some (by kernel_rfl))⟩
 f21:=⟨Tryz.f202.name,by decide,Tryz.func202.trans (aO some (by kernel_rfl))⟩
 f22:=⟨Tryz.f203.name,by decide,Tryz.func203.trans (aO some (by kernel_rfl))⟩
 f23:=⟨Tryz.f204.name,by decide,Tryz.func204.trans (aO some (by kernel_rfl))⟩
 f24:=⟨Tryz.f205.name,by decide,Tryz.func205.trans (aO some (by kernel_rfl))⟩
 f25:=⟨Tryz.f206.name,by decide,Tryz.func206.trans (aO some (by kernel_rfl))⟩
 f26:=⟨Tryz.f207.name,by decide,Tryz.func207.trans (aO some (by kernel_rfl))⟩
 f27:=⟨Tryz.f208.name,by decide,Tryz.func208.trans (aO some (by kernel_rfl))⟩
 f28:=Tryz.func194.trans (aO some (by kernel_rfl))
 f29:=Tryz.func195.trans (aO some (by kernel_rfl))
 f46:=⟨Tryz.f224.name,by decide,Tryz.func224.trans (aO some (by kernel_rfl))⟩
 f47:=Tryz.func219.trans (aO some (by kernel_rfl))
 f48:=Tryz.func220.trans (aO some (by kernel_rfl))
 f49:=⟨Tryz.f225.name,by decide,Tryz.func225.trans (aO some (by kernel_rfl))⟩
 f50:=⟨Tryz.f226.name,by decide,Tryz.func226.trans (aO some (by kernel_rfl))⟩
 f57:=⟨Tryz.f231.name,by decide,Tryz.func231.trans (aO some (by kernel_rfl))⟩
 t0:=Tryz.underlying0
 a0:=Tryz.isAgg0
 z0:=Tryz.sizeOf0
 v0:=Tryz.zeroValue0
 t3:=Tryz.underlying3
 a3:=Tryz.isAgg3
 z3:=Tryz.sizeOf3
 v3:=Tryz.zeroValue3
 t4:=Tryz.underlying4
 a4:=Tryz.isAgg4
 z4:=Tryz.sizeOf4
 v4:=Tryz.zeroValue4
 t5:=Tryz.underlying5
 a5:=Tryz.isAgg5
 z5:=Tryz.sizeOf5
 v5:=Tryz.zeroValue5
 t9:=Tryz.underlying9
 a9:=Tryz.isAgg9
 z9:=Tryz.sizeOf9
 v9:=Tryz.zeroValue9
 t22:=Tryz.underlying24
 a22:=Tryz.isAgg24
 z22:=Tryz.sizeOf24
 v22:=Tryz.zeroValue24
 a24:=Tryz.isAgg3
 z24:=Tryz.sizeOf3
 t25:=Tryz.underlying212
 a25:=Tryz.isAgg212
 z25:=Tryz.sizeOf212
 v25:=Tryz.zeroValue212
 t39:=Tryz.underlying205
 a39:=Tryz.isAgg205
 z39:=Tryz.sizeOf205
 v39:=Tryz.zeroValue205
 t45:=Tryz.underlying237
 a45:=Tryz.isAgg237
 z45:=Tryz.sizeOf237
 v45:=Tryz.zeroValue237
 t46:=Tryz.underlying238
 a46:=Tryz.isAgg238
 z46:=Tryz.sizeOf238
 v46:=Tryz.zeroValue238
 t50:=Tryz.underlying193
 a50:=Tryz.isAgg193
 z50:=Tryz.sizeOf193
 v50:=Tryz.zeroValue193
 t53:=Tryz.underlying224
 a53:=Tryz.isAgg224
 z53:=Tryz.sizeOf224
 v53:=Tryz.zeroValue224
 t55:=Tryz.underlying244
 a55:=Tryz.isAgg244
 z55:=Tryz.sizeOf244
 v55:=Tryz.zeroValue244
 t66:=Tryz.underlying257
 a66:=Tryz.isAgg257
 z66:=Tryz.sizeOf257
 v66:=Tryz.zeroValue257
 t70:=Tryz.underlying261
 a70:=Tryz.isAgg261
 z70:=Tryz.sizeOf261
 v70:=Tryz.zeroValue261
 t76:=Tryz.underlying267
 a76:=Tryz.isAgg267
 z76:=Tryz.sizeOf267
 v76:=Tryz.zeroValue267
 t77:=Tryz.underlying268
 a77:=Tryz.isAgg268
 z77:=Tryz.sizeOf268
 v77:=Tryz.zeroValue268}
open Go.RowKit Go.Lib Go.Sort in
def sU {α:Type} [Inhabited α] (enc:α->Value)(j:OneCell enc)(f:α->α->Int)(k:SWO (ltOf f))(g:Nat)(h:Array Value)(blk a cap:Nat)(d:Array α)(w:World)(l:∀args w,(callFunc g args).run Tryz.prog w=.ok (.enter g args) w)(b:CmpLays1 Tryz.prog g h enc f blk a d.size w)(m:Holds enc w blk a d)(c:blk<w.heap.size)(i:d.size<4611686018427387904) :
  Calls Tryz.prog 172 #[.slice (some ⟨blk,a,none⟩) d.size cap,.func (.func g) #[] h] w λe w' =>
   e=.returned (.tuple #[])/\∃d' n os,PermIn 0 d.size d d'/\SortedIn (ltOf f) 0 d.size d'/\w'=sortWorld enc w blk a n d' os:=Any.slices_SortFunc ED enc j f k g h blk a cap d w l b m c i
def uQ:Go.Shelf.Ren:=⟨λ|6=>172|15=>176|14=>182|28=>194|29=>195|20=>201|21=>202|22=>203|23=>204|24=>205|25=>206|26=>207|27=>208|46=>224|47=>219|48=>220|49=>225|50=>226|57=>231|n=>n,λ|22=>24|24=>3|25=>212|3=>3|39=>205|0=>0|53=>224|55=>244|4=>4|46=>238|45=>237|50=>193|5=>5|9=>9|66=>257|70=>261|76=>267|77=>268|n=>n,λ|n=>n⟩
def Bn:Go.Proofs.SlLaysF0.n6 Tryz.prog uQ:={
 mixed:=by kernel_rfl
 f6:=⟨Tryz.f172.name,by decide,Tryz.func172.trans (aO some (by kernel_rfl))⟩
 f14:=⟨Tryz.f182.name,by decide,Tryz.func182.trans (aO some (by kernel_rfl))⟩
 f15:=Tryz.func176.trans (aO some (by kernel_rfl))
 f20:=⟨Tryz.f201.name,by decide,Tryz.func201.trans (aO some (by kernel_rfl))⟩
 f21:=⟨Tryz.f202.name,by decide,Tryz.func202.trans (aO some (by kernel_rfl))⟩
 f22:=⟨Tryz.f203.name,by decide,Tryz.func203.trans (aO some (by kernel_rfl))⟩
 f23:=⟨Tryz.f204.name,by decide,Tryz.func204.trans (aO some (by kernel_rfl))⟩
 f24:=⟨Tryz.f205.name,by decide,Tryz.func205.trans (aO some (by kernel_rfl))⟩
 f25:=⟨Tryz.f206.name,by decide,Tryz.func206.trans (aO some (by kernel_rfl))⟩
 f26:=⟨Tryz.f207.name,by decide,Tryz.func207.trans (aO some (by kernel_rfl))⟩
 f27:=⟨Tryz.f208.name,by decide,Tryz.func208.trans (aO some (by kernel_rfl))⟩
 f28:=Tryz.func194.trans (aO some (by kernel_rfl))
 f29:=Tryz.func195.trans (aO some (by kernel_rfl))
 f46:=⟨Tryz.f224.name,by decide,Tryz.func224.trans (aO some (by kernel_rfl))⟩
 f47:=Tryz.func219.trans (aO some (by kernel_rfl))
 f48:=Tryz.func220.trans (aO some (by kernel_rfl))
 f49:=⟨Tryz.f225.name,by decide,Tryz.func225.trans (aO some (by kernel_rfl))⟩
 f50:=⟨Tryz.f226.name,by decide,Tryz.func226.trans (aO some (by kernel_rfl))⟩
 f57:=⟨Tryz.f231.name,by decide,Tryz.func231.trans (aO some (by kernel_rfl))⟩
 t0:=Tryz.underlying0
 a0:=Tryz.isAgg0
 z0:=Tryz.sizeOf0
 v0:=Tryz.zeroValue0
 t3:=Tryz.underlying3
 a3:=Tryz.isAgg3
 z3:=Tryz.sizeOf3
 v3:=Tryz.zeroValue3
 t4:=Tryz.underlying4
 a4:=Tryz.isAgg4
 z4:=Tryz.sizeOf4
 v4:=Tryz.zeroValue4
 t5:=Tryz.underlying5
 a5:=Tryz.isAgg5
 z5:=Tryz.sizeOf5
 v5:=Tryz.zeroValue5
 t9:=Tryz.underlying9
 a9:=Tryz.isAgg9
 z9:=Tryz.sizeOf9
 v9:=Tryz.zeroValue9
 t22:=Tryz.underlying24
 a22:=Tryz.isAgg24
 z22:=Tryz.sizeOf24
 v22:=Tryz.zeroValue24
 t25:=Tryz.underlying212
 a25:=Tryz.isAgg212
 z25:=Tryz.sizeOf212
 v25:=Tryz.zeroValue212
 t39:=Tryz.underlying205
 a39:=Tryz.isAgg205
 z39:=Tryz.sizeOf205
 v39:=Tryz.zeroValue205
 t45:=Tryz.underlying237
 a45:=Tryz.isAgg237
 z45:=Tryz.sizeOf237
 v45:=Tryz.zeroValue237
 t46:=Tryz.underlying238
 a46:=Tryz.isAgg238
 z46:=Tryz.sizeOf238
 v46:=Tryz.zeroValue238
 t50:=Tryz.underlying193
 a50:=Tryz.isAgg193
 z50:=Tryz.sizeOf193
 v50:=Tryz.zeroValue193
 t53:=Tryz.underlying224
 a53:=Tryz.isAgg224
 z53:=Tryz.sizeOf224
 v53:=Tryz.zeroValue224
 t55:=Tryz.underlying244
 a55:=Tryz.isAgg244
 z55:=Tryz.sizeOf244
 v55:=Tryz.zeroValue244
 t66:=Tryz.underlying257
 a66:=Tryz.isAgg257
 z66:=Tryz.sizeOf257
 v66:=Tryz.zeroValue257
 t70:=Tryz.underlying261
 a70:=Tryz.isAgg261
 z70:=Tryz.sizeOf261
 v70:=Tryz.zeroValue261
 t76:=Tryz.underlying267
 a76:=Tryz.isAgg267
 z76:=Tryz.sizeOf267
 v76:=Tryz.zeroValue267
 t77:=Tryz.underlying268
 a77:=Tryz.isAgg268
 z77:=Tryz.sizeOf268
 v77:=Tryz.zeroValue268}
open Go.RowKit Go.Lib Go.Sort in
def nV {α:Type} [Inhabited α] (p:OAd)(cap:Nat)(a:Value)(w:World) :
  Calls Tryz.prog 172 #[.slice p 0 cap,a] w λe w'=>e=.returned (.tuple #[])/\w'=w:=AnyF.slices_SortFunc_none Bn p cap a w
open Go.RowKit Go.Lib Go.Sort in
def nW {α:Type} [Inhabited α] (p:OAd)(cap:Nat)(a:Value)(w:World) :
  Calls Tryz.prog 173 #[.slice p 0 cap,a] w λe w'=>e=.returned (.tuple #[])/\w'=w:=AnyF.slices_SortFunc_none tG p cap a w
end Go.Proofs.YtgnljpnlolkalaaGreat
namespace Go.Proofs.YtgnljpnlolkalaaGreat
structure TrP (log:LLi)(k:Nat)(t:LIn)(j:Nat)(S1 S2 S3:LIn)(S4:List (Int×Int)):Prop where
 m1:∀x,x∈S1↔(Xv (log.take k) x∨x∈t.take j)
 m2:∀x,x∈S2↔(Di (log.take k) x∨(0<j/\t.head?=some x))
 m3:∀x,x∈S3↔(Og (log.take k) x∨(0<j/\j=t.length/\t.getLast?=some x))
 m4:∀p:Int×Int,p∈S4↔(Xw (log.take k) p∨∃i,i+1<j/\t[i]?=some p.1/\t[i+1]?=some p.2)
 l1:S1.length<=61*k+j
 l2:S2.length<=61*k+j
 l3:S3.length<=61*k+j
 l4:S4.length<=61*k+j
section
variable {log:LLi} {k:Nat} {t:LIn} {j:Nat} {S1 S2 S3:LIn} {S4:List (Int×Int)}
def TrP.start (log:LLi):TrP log 0 [] 0 [] [] [] []:=by
 refine⟨λx=>?_,λx=>?_,λx=>?_,λp=>?_,by simp,by simp,by simp,by simp⟩
 .constructor
  .intro h;cases h
  rintro(⟨t,a,_⟩|h)
  .simp at a
  simp at h
 .constructor
  .intro h;cases h
  rintro(⟨t,a,_⟩|h)
  .simp at a
  omega
 .constructor
  .intro h;cases h
  rintro(⟨t,a,_⟩|h)
  .simp at a
  omega
 constructor
 .intro h;cases h
 rintro(⟨t,a,_⟩|⟨i,h,_⟩)
 .simp at a
 omega
def TrP.enter (h:TrP log k [] 0 S1 S2 S3 S4)(t:LIn):TrP log k t 0 S1 S2 S3 S4:=by
 obtain⟨a,b,c,d,e,f,g,i⟩:=h;refine⟨λx=>by rw[a];simp,λx=>by rw[b];simp,λx=>by rw[c];simp,λp=>by rw[d];simp,e,f,g,i⟩
def TrP.step (h:TrP log k t j S1 S2 S3 S4) {a:Int} (c:t[j]?=some a) {T2 T3:LIn} {T4:List (Int×Int)}
  (m:T2=if j=0 then a::S2 else S2) (n:T3=if j+1=t.length then a::S3 else S3) (o:(j=0/\T4=S4)∨∃b i,j=i+1/\t[i]?=some b/\T4=(b,a)::S4):TrP log k t (j+1) (a::S1) T2 T3 T4:=by
 obtain⟨w,r,s,u,A,B,C,D⟩:=h;have y:=(aR.1 c).1;refine⟨λx=>?_,λx=>?_,λx=>?_,λp=>?_,by rw[bP];omega, ?_, ?_, ?_⟩
 .rw[a7,w,bX c,cN,bJ];constructor
  .rintro(h|h|h)
   .exact .inr (.inr h)
   .exact .inl h
   exact .inr (.inl h)
  rintro(h|h|h)
  .exact .inr (.inl h)
  .exact .inr (.inr h)
  exact .inl h
 .subst m;split
  .rename_i e
   subst e;rw[a7,r];have l:t.head?=some a:=by
    cases t with
    | nil=>simp at y
    | cons b t=>simpa using c
   rw[l];constructor
   .rintro(h|h|h)
    .exact .inr ⟨by omega,by rw[h]⟩
    .exact .inl h
    omega
   rintro(h|⟨_,h⟩)
   .exact .inr (.inl h)
   injection h with h;exact .inl h.symm
  rename_i e
  rw[r];constructor
  .rintro(h|h)
   .exact .inl h
   exact .inr ⟨by omega,h.2⟩
  rintro(h|h)
  .exact .inl h
  exact .inr ⟨by omega,h.2⟩
 .subst n;split
  .rename_i e
   have l:t.getLast?=some a:=by
    rw[List.getLast?_eq_getElem?,show t.length-1=j by omega];exact c
   rw[a7,s,l];constructor
   .rintro(h|h|h)
    .exact .inr ⟨by omega,e,by rw[h]⟩
    .exact .inl h
    omega
   rintro(h|⟨_,_,h⟩)
   .exact .inr (.inl h)
   injection h with h;exact .inl h.symm
  rename_i e
  rw[s];constructor
  .rintro(h|h)
   .exact .inl h
   omega
  rintro(h|h)
  .exact .inl h
  omega
 .rcases o with⟨e,rfl⟩|⟨b,i,e,v,rfl⟩
  .subst e;rw[u];constructor
   .rintro(h|⟨i,h,_⟩)
    .exact .inl h
    omega
   rintro(h|⟨i,h,_⟩)
   .exact .inl h
   omega
  subst e;rw[a7,u];constructor
  .rintro(h|h|⟨q,h,g⟩)
   .subst h;exact .inr ⟨i,by omega,v,c⟩
   .exact .inl h
   exact .inr ⟨q,by omega,g⟩
  rintro(h|⟨q,h,d,f⟩)
  .exact .inr (.inl h)
  by_cases z:q=i
  .subst z;rw[v]at d;rw[c]at f;injection d with d;injection f with f;exact .inl (Prod.ext d.symm f.symm)
  exact .inr (.inr ⟨q,by omega,d,f⟩)
 .subst m;split
  .rw[bP];omega
  omega
 .subst n;split
  .rw[bP];omega
  omega
 .rcases o with⟨_,rfl⟩|⟨b,i,_,_,rfl⟩
  .omega
  rw[bP];omega
def jP {log:LLi}{k:Nat}{t:LIn}(h:log[k]?=some t)(u:LIn):u∈log.take (k+1)↔u∈log.take k∨u=t:=by
 rw[bX h,cN,bJ]
def TrP.leave (h:TrP log k t t.length S1 S2 S3 S4)(d:log[k]?=some t)(l:t.length<=60):TrP log (k+1) [] 0 S1 S2 S3 S4:=by
 obtain⟨e,f,g,j,m,n,o,q⟩:=h;refine⟨λx=>?_,λx=>?_,λx=>?_,λp=>?_,by omega,by omega,by omega,by omega⟩
 .rw[e,kA];unfold Xv;constructor
  .rintro(⟨u,c,a⟩|a)
   .exact .inl ⟨u,(jP d u).2 (.inl c),a⟩
   exact .inl ⟨t,(jP d t).2 (.inr rfl),a⟩
  rintro(⟨u,c,a⟩|a)
  .rcases(jP d u).1 c with c|rfl
   .exact .inl ⟨u,c,a⟩
   exact .inr a
  simp at a
 .rw[f];unfold Di;constructor
  .rintro(⟨u,c,a⟩|⟨_,a⟩)
   .exact .inl ⟨u,(jP d u).2 (.inl c),a⟩
   exact .inl ⟨t,(jP d t).2 (.inr rfl),a⟩
  rintro(⟨u,c,a⟩|a)
  .rcases(jP d u).1 c with c|rfl
   .exact .inl ⟨u,c,a⟩
   refine .inr ⟨?_,a⟩;cases u with
   | nil=>cases a
   | cons b u=>simp
  omega
 .rw[g];unfold Og;constructor
  .rintro(⟨u,c,a⟩|⟨_,_,a⟩)
   .exact .inl ⟨u,(jP d u).2 (.inl c),a⟩
   exact .inl ⟨t,(jP d t).2 (.inr rfl),a⟩
  rintro(⟨u,c,a⟩|a)
  .rcases(jP d u).1 c with c|rfl
   .exact .inl ⟨u,c,a⟩
   refine .inr ⟨?_,rfl,a⟩;cases u with
   | nil=>cases a
   | cons b u=>simp
  omega
 rw[j];unfold Xw;constructor
 .rintro(⟨u,c,a⟩|⟨i,_,a⟩)
  .exact .inl ⟨u,(jP d u).2 (.inl c),a⟩
  exact .inl ⟨t,(jP d t).2 (.inr rfl),i,a⟩
 rintro(⟨u,c,i,a⟩|⟨i,h,_⟩)
 .rcases(jP d u).1 c with c|rfl
  .exact .inl ⟨u,c,i,a⟩
  exact .inr ⟨i,(aR.1 a.2).1,a⟩
 omega
def TrP.fin (h:TrP log log.length [] 0 S1 S2 S3 S4):(∀x,x∈S1↔Xv log x)/\(∀x,x∈S2↔Di log x)/\(∀x,x∈S3↔Og log x)/\∀p,p∈S4↔Xw log p:=by
 obtain⟨a,b,c,d,_⟩:=h;rw[kA]at a b c d;refine⟨λx=>by rw[a];simp,λx=>by rw[b];simp,λx=>by rw[c];simp,λp=>by rw[d];simp⟩
end
end Go.Proofs.YtgnljpnlolkalaaGreat
namespace Go.Proofs.YtgnljpnlolkalaaGreat
section
variable {α:Type}
def kO (f:Nat->α)(i j:Nat):Nat->α:=λk=>if k=i then f j else if k=j then f i else f k
def Bo (f:Nat->α)(a b n:Nat):Nat->α:=λk=>if a<=k/\k<a+n then f (b+(k-a))else if b<=k/\k<b+n then f (a+(k-b))else f k
def Qx (f:Nat->α)(a b:Nat):Bo f a b 0=f:=by
 funext k
 unfold Bo;rw[aD (by omega),aD (by omega)]
def Qy {f:Nat->α}{a b n:Nat}(h:a+n<b∨b+n<a):kO (Bo f a b n) (a+n) (b+n)=Bo f a b (n+1):=by
 funext k
 unfold kO;by_cases c:k=a+n
 .subst c;rw[aG rfl];unfold Bo;rw[aD (by omega),aD (by omega),aG (by omega)];congr 1
  omega
 rw[aD c];by_cases d:k=b+n
 .subst d;rw[aG rfl];unfold Bo;rw[aD (by omega),aD (by omega),aD (by omega),aG (by omega)];congr 1
  omega
 rw[aD d];unfold Bo;by_cases e:a<=k/\k<a+n
 .rw[aG e,aG (by omega)]
 rw[aD e];by_cases g:b<=k/\k<b+n
 .rw[aG g,aD (by omega),aG (by omega)]
 rw[aD g,aD (by omega),aD (by omega)]
def fZ (f:Nat->α)(a m b:Nat):Nat->α:=λk=>if a<=k/\k<a+(b-m)then f (m+(k-a))else if a+(b-m)<=k/\k<b then f (a+(k-(a+(b-m))))else f k
def Qb (f g:Nat->α)(a m b i j:Nat):Prop:=i<=m-a/\j<=b-m/\0<i/\0<j/\fZ g (m-i) m (m+j)=fZ f a m b
def Qb.start {f:Nat->α}{a m b:Nat}(c:a<m)(d:m<b):Qb f f a m b (m-a) (b-m) :=
 ⟨aB _,aB _,by omega,by omega,by rw[show m-(m-a)=a by omega,show m+(b-m)=b by omega]⟩
def Qb.left {f g:Nat->α}{a m b i j:Nat}(h:Qb f g a m b i j)(n:a<m)(c:j<i):Qb f (Bo g (m-i) m j) a m b (i-j) j:=by
 obtain⟨o,d,p,e,l⟩:=h;refine⟨by omega,d,by omega,e, ?_⟩;rw[<-l];funext k
 unfold fZ Bo
 repeat' split
 all_goals first|rfl|(exfalso;omega)|(congr 1;omega)
def Qb.right {f g:Nat->α}{a m b i j:Nat}(h:Qb f g a m b i j)(n:a<m)(c:i<j):Qb f (Bo g (m-i) (m+j-i) i) a m b i (j-i):=by
 obtain⟨d,o,e,p,l⟩:=h;refine⟨d,by omega,e,by omega, ?_⟩;rw[<-l];funext k
 unfold fZ Bo
 repeat' split
 all_goals first|rfl|(exfalso;omega)|(congr 1;omega)
def Qb.fin {f g:Nat->α}{a m b i:Nat}(h:Qb f g a m b i i)(d:a<m):Bo g (m-i) m i=fZ f a m b:=by
 obtain⟨e,j,l,n,c⟩:=h;rw[<-c];funext k
 unfold fZ Bo
 repeat' split
 all_goals first|rfl|(exfalso;omega)|(congr 1;omega)
end
section
variable {α:Type} {R:α->α->Prop}
def jI (R:α->α->Prop)(f:Nat->α)(a b:Nat):Prop:=∀i j,a<=i->i<j->j<b->R (f i) (f j)
structure fS (f g:Nat->α)(a b:Nat):Prop where
 o:∀k,¬(a<=k/\k<b)->f k=g k
 inn:∀k,a<=k->k<b->∃q,a<=q/\q<b/\f k=g q
 all:∀q,a<=q->q<b->∃k,a<=k/\k<b/\f k=g q
def fS.refl (f:Nat->α)(a b:Nat):fS f f a b:=⟨λ_ _=>rfl,λk c d=>⟨k,c,d,rfl⟩,λk c d=>⟨k,c,d,rfl⟩⟩
def fS.trans {f g h:Nat->α}{a b:Nat}(x:fS f g a b)(y:fS g h a b):fS f h a b where
 o:=λk m=>(x.o k m).trans (y.o k m)
 inn:=λk c d=>by
  obtain⟨q,n,p,e⟩:=x.inn k c d;obtain⟨r,i,j,l⟩:=y.inn q n p;exact⟨r,i,j,e.trans l⟩
 all:=λq c d=>by
  obtain⟨k,k1,s,e⟩:=y.all q c d;obtain⟨r,i,j,l⟩:=x.all k k1 s;exact⟨r,i,j,l.trans e⟩
def fS.wide {f g:Nat->α}{a b c d:Nat}(x:fS f g a b)(m:c<=a)(n:b<=d):fS f g c d where
 o:=λk p=>x.o k (by omega)
 inn:=λk k1 i=>by
  by_cases h:a<=k/\k<b
  .obtain⟨q,j,l,e⟩:=x.inn k h.1 h.2;exact⟨q,by omega,by omega,e⟩
  exact⟨k,k1,i,x.o k h⟩
 all:=λk k1 i=>by
  by_cases h:a<=k/\k<b
  .obtain⟨q,j,l,e⟩:=x.all k h.1 h.2;exact⟨q,by omega,by omega,e⟩
  exact⟨k,k1,i,x.o k h⟩
def fS.swap (f:Nat->α){a b i j:Nat}(c:a<=i/\i<b)(d:a<=j/\j<b):fS (kO f i j) f a b where
 o:=λk g=>by
  unfold kO;rw[aD (by rintro rfl;exact g c),aD (by rintro rfl;exact g d)]
 inn:=λk k1 n=>by
  unfold kO;split
  .exact⟨j,d.1,d.2,rfl⟩
  split
  .exact⟨i,c.1,c.2,rfl⟩
  exact⟨k,k1,n,rfl⟩
 all:=λq h l=>by
  by_cases m:q=i
  .subst m;by_cases e:j=q
   .subst e;exact⟨j,h,l,by unfold kO;rw[aG rfl]⟩
   exact⟨j,d.1,d.2,by unfold kO;rw[aD e,aG rfl]⟩
  by_cases e:q=j
  .subst e;exact⟨i,c.1,c.2,by unfold kO;rw[aG rfl]⟩
  exact⟨q,h,l,by unfold kO;rw[aD m,aD e]⟩
def fS.rot (f:Nat->α){a m b:Nat}(d:a<=m)(e:m<=b):fS (fZ f a m b) f a b where
 o:=λk g=>by
  unfold fZ;rw[aD (by omega),aD (by omega)]
 inn:=λk k1 c=>by
  unfold fZ;split
  .exact⟨_,by omega,by omega,rfl⟩
  split
  .exact⟨_,by omega,by omega,rfl⟩
  exact⟨k,k1,c,rfl⟩
 all:=λq i j=>by
  by_cases h:q<m
  .refine⟨a+(b-m)+(q-a),by omega,by omega, ?_⟩;unfold fZ;rw[aD (by omega),aG (by omega)];congr 1
   omega
  refine⟨a+(q-m),by omega,by omega, ?_⟩;unfold fZ;rw[aG (by omega)];congr 1
  omega
def jI.join {f:Nat->α}{a m b:Nat}(g:jI R f a m)(k:jI R f m b)(h:∀i j,a<=i->i<m->m<=j->j<b->R (f i) (f j)):jI R f a b:=λi j d c e=>by
 by_cases c1:j<m
 .exact g i j d c c1
 by_cases c2:i<m
 .exact h i j d c2 (by omega) e
 exact k i j (by omega) c e
def fS.before {f g:Nat->α}{a m b:Nat}(x:fS f g a m){h:Nat->α}(y:fS h f m b)(c:∀i j,a<=i->i<m->m<=j->j<b->R (g i) (g j)):∀i j,a<=i->i<m->m<=j->j<b->R (h i) (h j):=λi j d k l n=>by
 rw[y.o i (by omega)];obtain⟨q,o,p,e⟩:=y.inn j l n;obtain⟨r,s,t,u⟩:=x.inn i d k;rw[e,u,x.o q (by omega)];exact c r q s t o p
end
end Go.Proofs.YtgnljpnlolkalaaGreat
namespace Go.Proofs.YtgnljpnlolkalaaGreat
section
variable {α:Type} {R:α->α->Prop} {S:α->Prop}
structure EG (R:α->α->Prop)(S:α->Prop):Prop where
 tot:∀x y,S x->S y->x≠y->(R x y↔¬R y x)
 tra:∀x y z,S x->S y->S z->R x y->R y z->R x z
structure f7 (S:α->Prop)(f:Nat->α)(n:Nat):Prop where
 mem:∀k,k<n->S (f k)
 inj:∀i j,i<n->j<n->f i=f j->i=j
def f7.swap {f:Nat->α}{n i j:Nat}(h:f7 S f n)(a:i<n)(b:j<n):f7 S (kO f i j) n where
 mem:=λk c=>by
  unfold kO;split
  .exact h.mem j b
  split
  .exact h.mem i a
  exact h.mem k c
 inj:=λp q hp d e=>by
  unfold kO at e
  repeat' split at e
  all_goals first
   | omega
   |(have:=h.inj _ _ (by omega) (by omega) e;omega)
def f7.rot {f:Nat->α}{n a m b:Nat}(h:f7 S f n)(c:a<=m)(d:m<=b)(g:b<=n):f7 S (fZ f a m b) n where
 mem:=λk i=>by
  unfold fZ
  repeat' split
  all_goals exact h.mem _ (by omega)
 inj:=λp q hp j e=>by
  unfold fZ at e
  repeat' split at e
  all_goals (have:=h.inj _ _ (by omega) (by omega) e;omega)
variable {f:Nat->α} {n:Nat}
def EG.at (o:EG R S)(h:f7 S f n){i j:Nat}(b:i<n)(c:j<n)(a:i≠j):R (f i) (f j)↔¬R (f j) (f i):=o.tot _ _ (h.mem i b) (h.mem j c) (λe=>a (h.inj i j b c e))
def EG.tr (o:EG R S)(h:f7 S f n){i j k:Nat}(a:i<n)(b:j<n)(c:k<n)(d:R (f i) (f j))(e:R (f j) (f k)):R (f i) (f k):=o.tra _ _ _ (h.mem i a) (h.mem j b) (h.mem k c) d e
structure Uk (R:α->α->Prop)(f:Nat->α)(a j i:Nat):Prop where
 le:a<=j/\j<=i
 oth:∀p q,a<=p->p<q->q<=i->p≠j->q≠j->R (f p) (f q)
 up:∀q,j<q->q<=i->R (f j) (f q)
def Uk.start {a i:Nat}(h:jI R f a i)(d:a<=i):Uk R f a i i :=
 ⟨⟨d,aB _⟩,λp q b c e g j=>h p q b c (by omega),λq b c=>by omega⟩
def Uk.down {a j i:Nat}(h:Uk R f a j i)(s:a<j)(o:R (f j) (f (j-1))):Uk R (kO f j (j-1)) a (j-1) i:=by
 have t:=h.le;have r:kO f j (j-1) (j-1)=f j:=by unfold kO;rw[aD (by omega),aG rfl]
 have g:kO f j (j-1) j=f (j-1):=by unfold kO;rw[aG rfl]
 have c:∀k,k≠j->k≠j-1->kO f j (j-1) k=f k:=λk d e=>by unfold kO;rw[aD d,aD e]
 refine⟨by omega,λp q d e l m n=>?_,λq d e=>?_⟩
 .by_cases hp:p=j
  .subst hp;rw[g,c q (by omega) n];exact h.oth (p-1) q (by omega) (by omega) l (by omega) (by omega)
  by_cases b:q=j
  .subst b;rw[g,c p hp m];exact h.oth p (q-1) d (by omega) (by omega) hp (by omega)
  rw[c p hp m,c q b n];exact h.oth p q d e l hp b
 rw[r];by_cases b:q=j
 .subst b;rw[g];exact o
 rw[c q b (by omega)];exact h.up q (by omega) e
def Uk.stop (o:EG R S)(g:f7 S f n){a j i:Nat}(h:Uk R f a j i)(m:i<n)(l:a<j->¬R (f j) (f (j-1))):jI R f a (i+1):=by
 have r:=h.le;have low:∀p,a<=p->p<j->R (f p) (f j):=λp b c=>by
  have d:R (f (j-1)) (f j):=(o.at g (by omega) (by omega) (by omega)).2 (l (by omega));by_cases e:p=j-1
  .rw[e];exact d
  exact o.tr g (by omega) (j:=j-1) (by omega) (by omega) (h.oth p (j-1) b (by omega) (by omega) (by omega) (by omega)) d
 intro p q b c d;by_cases hp:p=j
 .subst hp;exact h.up q c (by omega)
 by_cases k:q=j
 .subst k;exact low p b c
 exact h.oth p q b c (by omega) hp k
structure x7 (R:α->α->Prop)(f:Nat->α)(a m b i j:Nat):Prop where
 le:m<=i/\i<=j/\j<=b
 lo:∀h,m<=h->h<i->R (f h) (f a)
 hi:∀h,j<=h->h<b->R (f a) (f h)
def x7.start {a m b:Nat}(h:m<=b):x7 R f a m b m b:=⟨⟨aB _,h,aB _⟩,λh c d=>by omega,λh c d=>by omega⟩
def x7.yes (o:EG R S)(g:f7 S f n){a m b i j h:Nat}(F:x7 R f a m b i j)(s:jI R f m b)(d:a<m)(l:b<=n)(p:i<=h)(q:h<j)(c:R (f h) (f a)):x7 R f a m b (h+1) j :=
 ⟨by have:=F.le;omega,λk k1 r=>by
  have:=F.le;by_cases e:k=h
  .rw[e];exact c
  exact o.tr g (by omega) (j:=h) (by omega) (by omega) (s k h k1 (by omega) (by omega)) c,F.hi⟩
def x7.no (o:EG R S)(g:f7 S f n){a m b i j h:Nat}(F:x7 R f a m b i j)(s:jI R f m b)(p:a<m)(q:b<=n)(r:i<=h)(t:h<j)(d:¬R (f h) (f a)):x7 R f a m b i h :=
 ⟨by have:=F.le;omega,F.lo,λk k1 l=>by
  have:=F.le;have c:R (f a) (f h):=(o.at g (by omega) (by omega) (by omega)).2 d;by_cases e:k=h
  .rw[e];exact c
  exact o.tr g (by omega) (j:=h) (by omega) (by omega) c (s h k (by omega) (by omega) l)⟩
def x7.done {a b i:Nat}(F:x7 R f a (a+1) b i i)(s:jI R f (a+1) b):jI R (fZ f a (a+1) i) a b:=by
 have l:=F.le;have g:∀k,a<=k->k<i-1->fZ f a (a+1) i k=f (k+1):=λk d h=>by
  unfold fZ;rw[aG (by omega)];congr 1;omega
 have j:fZ f a (a+1) i (i-1)=f a:=by
  unfold fZ;rw[aD (by omega),aG (by omega)];congr 1;omega
 have c:∀k,i<=k->fZ f a (a+1) i k=f k:=λk d=>by
  unfold fZ;rw[aD (by omega),aD (by omega)]
 intro p q d h e;by_cases c1:p<i-1
 .rw[g p d c1];by_cases c2:q<i-1
  .rw[g q (by omega) c2];exact s _ _ (by omega) (by omega) (by omega)
  by_cases c3:q=i-1
  .rw[c3,j];exact F.lo _ (by omega) (by omega)
  rw[c q (by omega)];exact s _ _ (by omega) (by omega) e
 by_cases c2:p=i-1
 .rw[c2,j,c q (by omega)];exact F.hi q (by omega) e
 rw[c p (by omega),c q (by omega)];exact s _ _ (by omega) h e
def Qz {a k:Nat}(h:a<=k):kO (fZ f a (a+1) (k+1)) k (k+1)=fZ f a (a+1) (k+2):=by
 funext x
 unfold kO fZ
 repeat' split
 all_goals first|rfl|(exfalso;omega)|(congr 1;omega)
structure x8 (R:α->α->Prop)(f:Nat->α)(a m i j:Nat):Prop where
 le:a<=i/\i<=j/\j<=m
 lo:∀h,a<=h->h<i->R (f h) (f m)
 hi:∀h,j<=h->h<m->R (f m) (f h)
def x8.start {a m:Nat}(h:a<=m):x8 R f a m a m:=⟨⟨aB _,h,aB _⟩,λh b c=>by omega,λh b c=>by omega⟩
def x8.no (o:EG R S)(g:f7 S f n){a m i j h:Nat}(F:x8 R f a m i j)(s:jI R f a m)(d:m<n)(l:i<=h)(p:h<j)(c:¬R (f m) (f h)):x8 R f a m (h+1) j :=
 ⟨by have:=F.le;omega,λk k1 q=>by
  have:=F.le;have b:R (f h) (f m):=(o.at g (by omega) (by omega) (by omega)).2 c;by_cases e:k=h
  .rw[e];exact b
  exact o.tr g (by omega) (j:=h) (by omega) (by omega) (s k h k1 (by omega) (by omega)) b,F.hi⟩
def x8.yes (o:EG R S)(g:f7 S f n){a m i j h:Nat}(F:x8 R f a m i j)(s:jI R f a m)(d:m<n)(l:i<=h)(p:h<j)(b:R (f m) (f h)):x8 R f a m i h :=
 ⟨by have:=F.le;omega,F.lo,λk k1 c=>by
  have:=F.le;by_cases e:k=h
  .rw[e];exact b
  exact o.tr g (by omega) (j:=h) (by omega) (by omega) b (s h k (by omega) (by omega) c)⟩
def x8.done {a m i:Nat}(F:x8 R f a m i i)(s:jI R f a m):jI R (fZ f i m (m+1)) a (m+1):=by
 have j:=F.le;have e:∀k,k<i->fZ f i m (m+1) k=f k:=λk b=>by
  unfold fZ;rw[aD (by omega),aD (by omega)]
 have g:fZ f i m (m+1) i=f m:=by
  unfold fZ;rw[aG (by omega)];congr 1;omega
 have c:∀k,i<k->k<m+1->fZ f i m (m+1) k=f (k-1):=λk b h=>by
  unfold fZ;rw[aD (by omega),aG (by omega)];congr 1;omega
 intro p q b h d;by_cases c1:p<i
 .rw[e p c1];by_cases c2:q<i
  .rw[e q c2];exact s _ _ b h (by omega)
  by_cases c3:q=i
  .rw[c3,g];exact F.lo p b c1
  rw[c q (by omega) d];exact s _ _ b (by omega) (by omega)
 by_cases c2:p=i
 .rw[c2,g,c q (by omega) d];exact F.hi _ (by omega) (by omega)
 rw[c p (by omega) (by omega),c q (by omega) d];exact s _ _ (by omega) (by omega) (by omega)
def QA {m k:Nat}(h:0<k)(a:k<=m):kO (fZ f k m (m+1)) k (k-1)=fZ f (k-1) m (m+1):=by
 funext x
 unfold kO fZ
 repeat' split
 all_goals first|rfl|(exfalso;omega)|(congr 1;omega)
structure x9 (R:α->α->Prop)(f:Nat->α)(p lo hi s r:Nat):Prop where
 le:lo<=s/\s<=r/\r<=hi
 dn:∀c,lo<=c->c<s->R (f c) (f (p-c))
 up:∀c,r<=c->c<hi->R (f (p-c)) (f c)
def x9.start {p lo a:Nat}(h:lo<=a):x9 R f p lo a lo a:=⟨⟨aB _,h,aB _⟩,λc b d=>by omega,λc b d=>by omega⟩
def x9.no (o:EG R S)(g:f7 S f n){a m b p lo d s r h:Nat}(F:x9 R f p lo d s r)(s1:jI R f a m)(s2:jI R f m b)(q:b<=n)(i:∀c,lo<=c->c<d->a<=c/\c<m/\m<=p-c/\p-c<b/\c<=p)(t:s<=h)(u:h<r)(l:¬R (f (p-h)) (f h)):x9 R f p lo d (h+1) r :=
 ⟨by have:=F.le;omega,λc c1 c2=>by
  have v:=F.le;have w:=i h (by omega) (by omega);have x:=i c c1 (by omega);have k:R (f h) (f (p-h)):=(o.at g (by omega) (by omega) (by omega)).2 l;by_cases e:c=h
  .rw[e];exact k
  exact o.tr g (by omega) (j:=h) (by omega) (by omega) (s1 c h (by omega) (by omega) (by omega)) (o.tr g (by omega) (j:=p-h) (by omega) (by omega) k (s2 _ _ (by omega) (by omega) (by omega))),F.up⟩
def x9.yes (o:EG R S)(g:f7 S f n){a m b p lo d s r h:Nat}(F:x9 R f p lo d s r)(s1:jI R f a m)(s2:jI R f m b)(l:b<=n)(i:∀c,lo<=c->c<d->a<=c/\c<m/\m<=p-c/\p-c<b/\c<=p)(q:s<=h)(t:h<r)(k:R (f (p-h)) (f h)):x9 R f p lo d s h :=
 ⟨by have:=F.le;omega,F.dn,λc c1 c2=>by
  have u:=F.le;have v:=i h (by omega) (by omega);have w:=i c (by omega) c2;by_cases e:c=h
  .rw[e];exact k
  exact o.tr g (by omega) (j:=p-h) (by omega) (by omega) (s2 _ _ (by omega) (by omega) (by omega)) (o.tr g (by omega) (j:=h) (by omega) (by omega) k (s1 h c (by omega) (by omega) (by omega)))⟩
def x9.done (o:EG R S) (g:f7 S f n) {a m b p lo w d l q:Nat} (F:x9 R f p lo w d d) (s1:jI R f a m) (s2:jI R f m b) (J:b<=n) (D:∀c,lo<=c->c<w->a<=c/\c<m/\m<=p-c/\p-c<b/\c<=p)
  (H:d+l=p+1) (E:q+m=p+1) (K:a<=d/\d<=m/\m<=l/\l<=b) (z:d=lo->l=b∨d=a) (A:d=w->l=m∨d=m) :
  (jI R (fZ f d m l) a d/\jI R (fZ f d m l) d q)/\(jI R (fZ f d m l) q l/\jI R (fZ f d m l) l b)/\∀i j,a<=i->i<q->q<=j->j<b->R (fZ f d m l i) (fZ f d m l j):=by
 have L:=F.le;have B:∀k,k<d->fZ f d m l k=f k:=λk r=>by
  unfold fZ;rw[aD (by omega),aD (by omega)]
 have C:∀k,d<=k->k<q->fZ f d m l k=f (m+(k-d)):=λk r t=>by
  unfold fZ;rw[aG (by omega)]
 have x:∀k,q<=k->k<l->fZ f d m l k=f (d+(k-q)):=λk r t=>by
  unfold fZ;rw[aD (by omega),aG (by omega)];congr 1;omega
 have y:∀k,l<=k->fZ f d m l k=f k:=λk r=>by
  unfold fZ;rw[aD (by omega),aD (by omega)]
 refine⟨⟨λi j r t s=>?_,λi j r t s=>?_⟩,⟨λi j r t s=>?_,λi j r t s=>?_⟩,λi j r t s G=>?_⟩
 .rw[B i (by omega),B j s];exact s1 _ _ r t (by omega)
 .rw[C i r (by omega),C j (by omega) s];exact s2 _ _ (by omega) (by omega) (by omega)
 .rw[x i r (by omega),x j (by omega) s];exact s1 _ _ (by omega) (by omega) (by omega)
 .rw[y i r,y j (by omega)];exact s2 _ _ (by omega) t s
 .by_cases c1:i<d
  .rw[B i c1];by_cases c2:j<l
   .rw[x j s c2];exact s1 _ _ r (by omega) (by omega)
   rw[y j (by omega)];by_cases c3:d=lo
   .rcases z c3 with h|h <;> omega
   have I:=D (d-1) (by omega) (by omega);have u:=F.dn (d-1) (by omega) (by omega);rw[show p-(d-1)=l by omega]at u;have v:R (f i) (f l):=by
    by_cases e:i=d-1
    .rw[e];exact u
    exact o.tr g (by omega) (j:=d-1) (by omega) (by omega) (s1 _ _ r (by omega) (by omega)) u
   by_cases e:j=l
   .rw[e];exact v
   exact o.tr g (by omega) (j:=l) (by omega) (by omega) v (s2 _ _ (by omega) (by omega) G)
  rw[C i (by omega) t];by_cases c2:j<l
  .rw[x j s c2];by_cases c3:d=w
   .rcases A c3 with h|h <;> omega
   have I:=D d (by omega) (by omega);have u:=F.up d (by omega) (by omega);rw[show p-d=l-1 by omega]at u;have v:R (f (m+(i-d))) (f d):=by
    by_cases e:m+(i-d)=l-1
    .rw[e];exact u
    exact o.tr g (by omega) (j:=l-1) (by omega) (by omega) (s2 _ _ (by omega) (by omega) (by omega)) u
   by_cases e:d+(j-q)=d
   .rw[e];exact v
   exact o.tr g (by omega) (j:=d) (by omega) (by omega) v (s1 _ _ (by omega) (by omega) (by omega))
  rw[y j (by omega)];exact s2 _ _ (by omega) (by omega) G
end
open Go.RowKit
section
variable {P:Program} {ops:Array Oper} {Q:Exit->Act->World->Prop} {S:World->Prop} {m:Nat}
def JK:List Nat->Array Bool->Array Bool
 | [],l=>l
 | i::r,l=>JK r (l.setIfInBounds i true)
def EH (ops:Array Oper)(m:Nat):List Nat->Array Bool->Bool
 | [],_=>true
 | i::r,l=>Region.free .any ops l i&&(Region.ready .any ops l).contains i&&i != m&&EH ops m r (l.setIfInBounds i true)
def qE (P:Program)(ops:Array Oper)(R:Act->World->Prop):List Nat->Act->World->Prop
 | [],a,w=>R a w
 | i::r,a,w=>∃(v:Value) (b:Oper),nth ops.toList i=some b/\Region.wanted b (yielded ops a.tmps)=true/\(∀w',(execOp a.eval b).run P w'=.ok (.value v) w')/\qE P ops R r (a.put b.dst v) w
def xH (k:Region.noSelect ops=true)(n:∀c a (d:Tmp) v w,Q (.panic c) (a.put (some d) v) w->Q (.panic c) a w){f:Nat}{l:Scr}:∀(j:List Nat) (b:Array Bool) (a:Act) (w:World),EH ops m j b=true->mM .any ops b->mE .any ops m l f (JK j b)=true->S w ->
  qE P ops (fH P ops Q S l) j a w->uM P .any ops Q S m (f+j.length) b a w
 | [],b,a,w,_,o,e,_,h=>pY (m:=m) k n l _ _ _ _ o e h
 | i::r,b,a,w,hp,o,e,p,h=>by
  obtain⟨v,t,q,u,x,g⟩:=h;simp only[EH,cA,bne_iff_ne,ne_eq]at hp;obtain⟨⟨⟨y,z⟩,A⟩,B⟩:=hp;have s:i∈Region.ready .any ops b:=by simpa using z
  refine tR (kF q) (Region.noSelect_spec k) (λc a w h=>by cases hd:t.dst with|none=>rw[hd]at h;exact h|some d=>rw[hd]at h;exact n c a d _ w h) A (f+r.length) b a w (Region.free_spec (kF q) y) s (λ_=>p) (.inl ⟨u,λw' _=>x w'⟩) ?_;exact xH k n r _ _ _ B (o.set s) e p g
def lF {i:Nat} (m:Nat) (b:List Nat) (f:Nat) (l:Scr) (S:World->Prop) {a:Act} {w:World} (j:P.follows .mixedOrders=true) (k:Region.noSelect ops=true)
  (hp:EH ops m b (Array.replicate ops.size false)=true) (n:ops.size=f+b.length) (e:mE .any ops m l f (JK b (Array.replicate ops.size false))=true)
  (o:∀c a (d:Tmp) v w,Q (.panic c) (a.put (some d) v) w->Q (.panic c) a w) (g:S w.drew) (h:S w.drew->qE P ops (fH P ops Q S l) b a w.drew):(Code.region i ops true).wp P Q a w:=by
 refine wp_region_any j (oS (S:=S) (m:=m) _ _ _ _ ?_);have key:=xH (P:=P) (Q:=Q) (S:=S) (m:=m) (f:=f) (l:=l) k o b (Array.replicate ops.size false) a w.drew hp (mM.start _) e g (h g);rw[<-n]at key;exact key
def L8 {R:Act->World->Prop}{i:Nat}{r:List Nat}{a:Act}{w:World}{b:Oper}{v:Value}(c:nth ops.toList i=some b)(d:Region.wanted b (yielded ops a.tmps)=true)(e:∀w',(execOp a.eval b).run P w'=.ok (.value v) w')(h:qE P ops R r (a.put b.dst v) w):qE P ops R (i::r) a w:=⟨v,b,c,d,e,h⟩
end
end Go.Proofs.YtgnljpnlolkalaaGreat
namespace Go.Proofs.YtgnljpnlolkalaaGreat
open Go.Shelf
def zH:Go.Shelf.Ren:=⟨λ|156=>26|165=>71|166=>72|169=>73|240=>128|241=>129|276=>164|277=>165|n=>n,λ|31=>59|9=>9|3=>3|4=>4|0=>0|20=>20|72=>134|76=>138|70=>132|37=>55|75=>137|127=>186|164=>218|5=>5|80=>140|n=>n,λ|n=>n⟩
def Ws:Go.Proofs.Lays.n156 Tryz.prog zH:={
 mixed:=by kernel_rfl
 f156:=Tryz.func26.trans (aO some (by kernel_rfl))
 f165:=Tryz.func71.trans (aO some (by kernel_rfl))
 f166:=Tryz.func72.trans (aO some (by kernel_rfl))
 f169:=Tryz.func73.trans (aO some (by kernel_rfl))
 f240:=Tryz.func128.trans (aO some (by kernel_rfl))
 f241:=Tryz.func129.trans (aO some (by kernel_rfl))
 f276:=Tryz.func164.trans (aO some (by kernel_rfl))
 f277:=Tryz.func165.trans (aO some (by kernel_rfl))
 t0:=Tryz.underlying0
 a0:=Tryz.isAgg0
 z0:=Tryz.sizeOf0
 v0:=Tryz.zeroValue0
 t3:=Tryz.underlying3
 a3:=Tryz.isAgg3
 z3:=Tryz.sizeOf3
 v3:=Tryz.zeroValue3
 t4:=Tryz.underlying4
 a4:=Tryz.isAgg4
 z4:=Tryz.sizeOf4
 v4:=Tryz.zeroValue4
 t9:=Tryz.underlying9
 a9:=Tryz.isAgg9
 z9:=Tryz.sizeOf9
 v9:=Tryz.zeroValue9
 t20:=Tryz.underlying20
 a20:=Tryz.isAgg20
 z20:=Tryz.sizeOf20
 v20:=Tryz.zeroValue20
 t31:=Tryz.underlying59
 a31:=Tryz.isAgg59
 z31:=Tryz.sizeOf59
 v31:=Tryz.zeroValue59
 t37:=Tryz.underlying55
 a37:=Tryz.isAgg55
 z37:=Tryz.sizeOf55
 v37:=Tryz.zeroValue55
 t70:=Tryz.underlying132
 a70:=Tryz.isAgg132
 z70:=Tryz.sizeOf132
 v70:=Tryz.zeroValue132
 t72:=Tryz.underlying134
 a72:=Tryz.isAgg134
 z72:=Tryz.sizeOf134
 v72:=Tryz.zeroValue134
 t75:=Tryz.underlying137
 a75:=Tryz.isAgg137
 z75:=Tryz.sizeOf137
 v75:=Tryz.zeroValue137
 t76:=Tryz.underlying138
 a76:=Tryz.isAgg138
 z76:=Tryz.sizeOf138
 v76:=Tryz.zeroValue138
 t127:=Tryz.underlying186
 a127:=Tryz.isAgg186
 z127:=Tryz.sizeOf186
 v127:=Tryz.zeroValue186
 t164:=Tryz.underlying218
 a164:=Tryz.isAgg218
 z164:=Tryz.sizeOf218
 v164:=Tryz.zeroValue218}
def vS:Builder.Extra Tryz.prog zH:={
 sizeBuilder:=by kernel_rfl
 liesBuilder:=by kernel_rfl
 t5:=Tryz.underlying5
 a5:=Tryz.isAgg5
 z5:=Tryz.sizeOf5
 v5:=Tryz.zeroValue5
 infoByte:=by kernel_rfl
 cellsByte:=by kernel_rfl
 sizeByte:=by kernel_rfl
 neB5:=by decide}
open Go.RowKit in
def strings_Join (g o c:Nat)(xs:List ByteArray)(a:ByteArray)(w:World)(b:∀(j:Nat) x,xs[j]?=some x->w.cell? ⟨g,o+j,none⟩=some (.string x))(h:g<w.heap.size)(i:xs.length<=140737488355328)(d:xs.length<=c)(f:(Lib.join (xs.map (·.data.toList)) a.data.toList).length<=140737488355328) :
  Calls Tryz.prog 26 #[.slice (some ⟨g,o,none⟩) xs.length c,.string a] w λe w'=>e=.returned (.string ⟨(Lib.join (xs.map (·.data.toList)) a.data.toList).toArray⟩)/\Below w w w':=Any.strings_Join Ws vS g o c xs a w b h i d f
