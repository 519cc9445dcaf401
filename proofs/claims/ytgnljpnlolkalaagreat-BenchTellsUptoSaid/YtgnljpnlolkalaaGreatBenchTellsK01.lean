/- Texts melted into one: The plain law of marks: what chapter 1's calls answer, as functions on lists of integers. No program in sight. | The plain law of nets: what chapter 2's calls answer, as functions on lists. No program in sight. | What a slice, a transition and a net read as: the words in which -/
import Derived.Test.YtgnljpnlolkalaaGreatBenchTellsK00
import Derived.Test.YtgnljpnlolkalaaGreatProg
import Derived.WalkKit
import Derived.WalkSpells
import Derived.WalkLawsBesides
import Derived.Lib.MinMax
import Derived.Deep.AppendLies
import Derived.Deep.RegionHeld3
import Derived.Deep.QuietTactic
import Derived.BigQuiet
set_option linter.all false
set_option maxRecDepth 100000
namespace Go.Proofs.YtgnljpnlolkalaaGreat
def dL {α:Type}(p:α->Bool)(xs:List α):Int:=match xs.findIdx? p with
 | some k=>(k:Int)
 | none=>-1
def dU {α:Type}{p:α->Bool}{xs:List α}{k:Nat}{x:α}(h:∀j,j<k->∀y,xs[j]?=some y->p y=false)(b:xs[k]?=some x)(hp:p x=true):dL p xs=(k:Int):=by
 have c:xs.findIdx? p=some k:=by
  obtain⟨d,a⟩:=aR.1 b;rw[q8];refine⟨d,by rw[a];exact hp,λj e=>?_⟩;have:=h j e _ (aV (by omega));simp[this]
 simp[dL,c]
def dV {α:Type}{p:α->Bool}{xs:List α}(h:∀j,j<xs.length->∀y,xs[j]?=some y->p y=false):dL p xs=-1:=by
 have b:xs.findIdx? p=none:=by
  rw[List.findIdx?_eq_none_iff];intro x c;obtain⟨j,a,rfl⟩:=hZ c;exact h j a _ (aV a)
 simp[dL,b]
def jV {α:Type}(p:α->Bool)(xs:List α):decide (0<=dL p xs)=xs.any p:=by
 unfold dL;cases h:xs.findIdx? p with
 | none =>
  rw[List.findIdx?_eq_none_iff]at h;simp only[show ¬((0:Int)<=-1)from by omega,decide_false];symm
  rw[iC];intro x a;simp[h x a]
 | some k =>
  rw[q8]at h;obtain⟨b,hp,_⟩:=h;simp only[show(0:Int)<=(k:Int)from by omega,decide_true];symm
  rw[dO];exact⟨xs[k],j5 b,hp⟩
def VG (x:Int):Bool:=decide (x<0)||decide (1000000<x)
def bW (xs:LIn):Bool:=!xs.any VG
def i6 (xs:LIn):bW xs=true↔∀x∈xs,0<=x/\x<=1000000:=by
 unfold bW VG;simp only[m9,iC];constructor
 .intro h x a;have:=h x a;simp at this;omega
 intro h x a;have:=h x a;simp;omega
def atL (xs:LIn)(p:Nat):Int:=xs.getD p 0
def iI {xs:LIn}{p:Nat}{x:Int}(h:xs[p]?=some x):atL xs p=x:=by simp[atL,h]
def uK {xs:LIn}{p:Nat}(h:xs.length<=p):atL xs p=0:=by simp[atL,dC h]
def gC {xs:LIn}(h:bW xs=true)(p:Nat):0<=atL xs p/\atL xs p<=1000000:=by
 unfold atL;by_cases hp:p<xs.length
 .simp only[cJ,aV hp,j6];exact(i6 xs).1 h _ (j5 hp)
 simp[dC (Nat.le_of_not_lt hp)]
def eJ (a b:LIn):Bool:=(List.range (max a.length b.length)).all λp=>decide (atL b p<=atL a p)
def pV (a b:LIn):eJ a b=true↔∀p,p<max a.length b.length->atL b p<=atL a p:=by
 simp[eJ]
def rB (a b:LIn):eJ a b=true↔∀p,atL b p<=atL a p:=by
 rw[pV];constructor
 .intro h p;by_cases hp:p<max a.length b.length
  .exact h p hp
  rw[uK (by omega),uK (by omega)];omega
 intro h p _;exact h p
def pW {a b:LIn}{p:Nat}(h:atL a p<atL b p):eJ a b=false:=by
 cases hc:eJ a b
 .rfl
 have:=(rB a b).1 hc p;omega
def nE (a b:LIn)(t:Int):LIn:=(List.range (max a.length b.length)).map λp=>atL a p+t*atL b p
def pX (a b:LIn)(t:Int):(nE a b t).length=max a.length b.length:=by simp[nE]
def yH {a b:LIn}{t:Int}{p:Nat}(h:p<max a.length b.length):(nE a b t)[p]?=some (atL a p+t*atL b p):=by
 simp[nE,List.getElem?_range h]
def Qg (a b:LIn):LIn×Int :=
 if bW a=true/\bW b=true then(if bW (nE a b 1)=true then(nE a b 1,0)else([],4))else([],2)
def Cj (a b:LIn):LIn×Int :=
 if bW a=true/\bW b=true then(if bW (nE a b (-1))=true then(nE a b (-1),0)else([],3))else([],2)
def sC {a b:LIn}{t:Int}(h:∀p,p<max a.length b.length->0<=atL a p+t*atL b p/\atL a p+t*atL b p<=1000000):bW (nE a b t)=true:=by
 rw[i6];intro x c;simp only[nE,bZ,bM]at c;obtain⟨p,hp,rfl⟩:=c;exact h p hp
def sX {a b:LIn}{t:Int}{p:Nat}(hp:p<max a.length b.length)(h:atL a p+t*atL b p<0∨1000000<atL a p+t*atL b p):bW (nE a b t)=false:=by
 cases hc:bW (nE a b t)
 .rfl
 have:=(i6 _).1 hc _ (l6.2 ⟨p,yH hp⟩);omega
def Oa (f:Int->Int->Int×Int)(a b:LIn):Bool:=(List.range (max a.length b.length)).all λp=>(f (atL a p) (atL b p)).2==0
def Gx (f:Int->Int->Int×Int)(a b:LIn):LIn:=(List.range (max a.length b.length)).map λp=>(f (atL a p) (atL b p)).1
def LU (f:Int->Int->Int×Int)(E:Int)(a b:LIn):LIn×Int :=
 if bW a=true/\bW b=true then(if Oa f a b=true then(Gx f a b,0)else([],E))else([],2)
def yU (f:Int->Int->Int×Int)(a b:LIn):(Gx f a b).length=max a.length b.length:=by simp[Gx]
def Ud {f:Int->Int->Int×Int}{a b:LIn}{p:Nat}(h:p<max a.length b.length):(Gx f a b)[p]?=some (f (atL a p) (atL b p)).1:=by
 simp[Gx,List.getElem?_range h]
def yV {f:Int->Int->Int×Int}{a b:LIn}{p:Nat}(h:p<max a.length b.length)(c:(f (atL a p) (atL b p)).2≠0):Oa f a b=false:=by
 cases hc:Oa f a b
 .rfl
 simp only[Oa,kY,bM,fA]at hc;exact absurd (hc p h) c
def yW {f:Int->Int->Int×Int}{a b:LIn}(h:∀p,p<max a.length b.length->(f (atL a p) (atL b p)).2=0):Oa f a b=true:=by
 simp only[Oa,kY,bM,fA];exact h
def Be (x y:Int):Int×Int:=if 1000000<x+y then(0,4)else(x+y,0)
def sY (x y:Int):Int×Int:=if x<y then(0,3)else(x-y,0)
def GF (a b:LIn):LU Be 4 a b=Qg a b:=by
 unfold LU Qg;by_cases e:bW a=true/\bW b=true
 rotate_left
 .rw[aD e,aD e]
 rw[aG e,aG e];by_cases f:∀p,p<max a.length b.length->(Be (atL a p) (atL b p)).2=0
 .have g:bW (nE a b 1)=true:=by
   refine sC (λp hp=>?_);have d:=f p hp;have h:=gC e.1 p;have i:=gC e.2 p;unfold Be at d;split at d
   .simp at d
   omega
  rw[aG (yW f),aG g];have:Gx Be a b=nE a b 1:=by
   unfold Gx nE;refine List.map_congr_left (λp hp=>?_);have d:=f p (bM.1 hp);unfold Be at d ⊢;split at d
   .simp at d
   rw[aD ‹_›];simp
  rw[this]
 simp only[Classical.not_forall]at f;obtain⟨p,hp,c⟩:=f;have g:bW (nE a b 1)=false:=by
  refine sX hp ?_;unfold Be at c;split at c
  .omega
  simp at c
 rw[yV hp c,g];rfl
def Cm (a b:LIn):LU sY 3 a b=Cj a b:=by
 unfold LU Cj;by_cases e:bW a=true/\bW b=true
 rotate_left
 .rw[aD e,aD e]
 rw[aG e,aG e];by_cases f:∀p,p<max a.length b.length->(sY (atL a p) (atL b p)).2=0
 .have g:bW (nE a b (-1))=true:=by
   refine sC (λp hp=>?_);have d:=f p hp;have h:=gC e.1 p;have i:=gC e.2 p;unfold sY at d;split at d
   .simp at d
   omega
  rw[aG (yW f),aG g];have:Gx sY a b=nE a b (-1):=by
   unfold Gx nE;refine List.map_congr_left (λp hp=>?_);have d:=f p (bM.1 hp);unfold sY at d ⊢;split at d
   .simp at d
   rw[aD ‹_›];simp only[];omega
  rw[this]
 simp only[Classical.not_forall]at f;obtain⟨p,hp,c⟩:=f;have g:bW (nE a b (-1))=false:=by
  refine sX hp ?_;unfold sY at c;split at c
  .omega
  simp at c
 rw[yV hp c,g];rfl
def bX {α:Type}{xs:List α}{k:Nat}{x:α}(h:xs[k]?=some x):xs.take (k+1)=xs.take k++[x]:=by
 obtain⟨a,rfl⟩:=aR.1 h;rw[List.take_succ_eq_append_getElem a]
end Go.Proofs.YtgnljpnlolkalaaGreat
namespace Go.Proofs.YtgnljpnlolkalaaGreat
structure bG where
 label:Int
 pre:LIn
 post:LIn
deriving Inhabited,DecidableEq
structure eB where
 places:Int
 trans:List bG
deriving Inhabited,DecidableEq
def GH (x:Int):Bool:=decide (x<0)||decide (9<x)
def kD (P:Int)(t:bG):Bool:=decide (0<=t.label)&&decide (t.label<=26)&&decide ((t.pre.length:Int)=P)&&decide ((t.post.length:Int)=P)&&!t.pre.any GH&&!t.post.any GH
def gV (N:eB):Bool:=decide (0<=N.places)&&decide (N.places<=16)&&decide (N.trans.length<=24)&&N.trans.all (kD N.places)
def iJ (N:eB):Int:=if gV N=true then 0 else 2
def kK (P:Int)(t:bG):kD P t=true↔0<=t.label/\t.label<=26/\(t.pre.length:Int)=P/\(t.post.length:Int)=P/\t.pre.any GH=false/\t.post.any GH=false:=by
 simp[kD,and_assoc]
def bN (N:eB):gV N=true↔0<=N.places/\N.places<=16/\N.trans.length<=24/\∀t∈N.trans,kD N.places t=true:=by
 simp[gV,and_assoc]
def mL {N:eB}(h:gV N=true):iJ N=0:=by simp[iJ,h]
def jW {N:eB}(h:gV N=false):iJ N=2:=by simp[iJ,h]
def Bf {N:eB}{k:Nat}{t:bG}(a:N.trans[k]?=some t)(h:kD N.places t=false):gV N=false:=by
 cases hc:gV N
 .rfl
 have:=((bN N).1 hc).2.2.2 t (l6.2 ⟨k,a⟩);rw[h]at this;cases this
def Qh {N:eB}(h:N.places<0∨16<N.places∨24<N.trans.length):gV N=false:=by
 cases hc:gV N
 .rfl
 have:=(bN N).1 hc;omega
def vN {x:Int}(h:GH x=false):0<=x/\x<=9:=by
 simp[GH]at h;omega
def uL {α:Type}{p:α->Bool}{xs:List α}(h:xs.any p=false){k:Nat}{x:α}(a:xs[k]?=some x):p x=false:=by
 rw[iC]at h;have:=h x (l6.2 ⟨k,a⟩);simpa using this
def Ob {α:Type}{p:α->Prop}{xs:List α}:(∀x∈xs,p x)↔∀(j:Nat) (x:α),xs[j]?=some x->p x:=by
 constructor
 .intro h j x a;exact h x (l6.2 ⟨j,a⟩)
 intro h x a;obtain⟨j,b⟩:=l6.1 a;exact h j x b
def i7 (N:eB)(m:LIn):Bool:=gV N&&decide ((m.length:Int)=N.places)&&bW m
def GK (N:eB)(m:LIn):Int:=if i7 N m=true then 0 else 2
def yI {N:eB}{m:LIn}(h:i7 N m=true):GK N m=0:=by simp[GK,h]
def oR {N:eB}{m:LIn}(h:i7 N m=false):GK N m=2:=by simp[GK,h]
def jR (ts:List bG)(m:LIn):LIn:=(ts.zipIdx.filter λp=>eJ m p.1.pre).map λp=>(p.2:Int)
def vO (l:List bG)(t:bG)(m:LIn):jR (l++[t]) m=jR l m++(if eJ m t.pre=true then [(l.length:Int)]else []):=by
 unfold jR;rw[List.zipIdx_append,dP,fB];congr 1
 simp only[List.zipIdx_cons,List.zipIdx_nil,List.filter_cons,List.filter_nil];split <;> simp
def GO (l:List bG)(m:LIn):(jR l m).length<=l.length:=by
 unfold jR;rw[dQ];exact aT (fC _ _) (by simp)
def gA (N:eB)(m:LIn):LIn×Int:=if i7 N m=true then(jR N.trans m,0)else([],2)
def rC (m:LIn)(t:bG):LIn×Int:=if eJ m t.pre=true then(if bW (nE (nE m t.pre (-1)) t.post 1)=true then(nE (nE m t.pre (-1)) t.post 1,0)else([],4))else([],3)
def iN (N:eB)(m:LIn)(t:Int):LIn×Int :=
 if i7 N m=true then(if 0<=t/\t<(N.trans.length:Int)then rC m (N.trans.getD t.toNat default)else([],3))else([],2)
def lC {xs:LIn}(h:xs.any GH=false):bW xs=true:=by
 rw[i6];intro x a;rw[iC]at h;have:=vN (x:=x) (by have:=h x a;simpa using this);omega
def Eu {m p:LIn}(b:bW m=true)(hp:bW p=true):Cj m p=if eJ m p=true then(nE m p (-1),0)else([],3):=by
 rw[Cj,aG ⟨b,hp⟩];by_cases a:eJ m p=true
 .have d:=(rB m p).1 a;rw[aG a,aG];refine sC (λq c=>?_);have f:=gC b q;have g:=gC hp q;have h:=d q;omega
 rw[aD a,aD];intro e;apply a
 rw[pV];intro q c;have:=(i6 _).1 e _ (l6.2 ⟨q,yH c⟩);omega
def vP {m p:LIn}(a:bW m=true)(hp:bW p=true)(b:eJ m p=true):bW (nE m p (-1))=true:=by
 have c:=(rB m p).1 b;refine sC (λq d=>?_);have e:=gC a q;have f:=gC hp q;have g:=c q;omega
def yX {m:LIn}{t:bG}(b:bW m=true)(c:bW t.pre=true)(d:bW t.post=true)(a:eJ m t.pre=true):Qg (nE m t.pre (-1)) t.post=rC m t:=by
 rw[Qg,aG ⟨vP b c a,d⟩,rC,aG a]
def cR (N:eB)(m:LIn):i7 N m=true↔gV N=true/\(m.length:Int)=N.places/\bW m=true:=by
 simp[i7,and_assoc]
def fK {N:eB}(h:gV N=true){k:Nat}{t:bG}(a:N.trans[k]?=some t):0<=t.label/\t.label<=26/\(t.pre.length:Int)=N.places/\(t.post.length:Int)=N.places/\t.pre.any GH=false/\t.post.any GH=false :=
 (kK _ _).1 (((bN N).1 h).2.2.2 t (l6.2 ⟨k,a⟩))
open Go.RowKit
end Go.Proofs.YtgnljpnlolkalaaGreat
namespace Go.RowKit
def Hid.o {p:Prop}(h:Hid p):p:=h
end Go.RowKit
namespace Go.Proofs.YtgnljpnlolkalaaGreat
open Go.RowKit
def aA {p:Prop}(h:p):Hid p:=h
def a8 {k:IntKind}{a b:Int}(h:a=b):Ending.returned (.int k a)=Ending.returned (.int k b):=by rw[h]
def bB {a b:Bool}(h:a=b):Ending.returned (.bool a)=Ending.returned (.bool b):=by rw[h]
structure Sl {α:Type}(R:World->(Nat->Value)->α->Prop)(sz:Nat)(w:World)(A:OAd)(n c:Nat)(xs:List α):Prop where
 len:xs.length=n
 le:n<=c
 cap:c<=maxLen
 small:n<=281474976710656
 nul:A=none->c=0
 cells:0<n->∃b off,A=some ⟨b,off,none⟩/\b<w.heap.size/\∀(i:Nat) (x:α),xs[i]?=some x ->
  ∃vs:Nat->Value,(∀j,j<sz->w.cell? ⟨b,off+(i*sz+j),none⟩=some (vs j))/\R w vs x
def CU {α:Type}(R:World->(Nat->Value)->α->Prop):Prop:=∀w w' vs x,Below w.heap.size w w'->R w vs x->R w' vs x
section
variable {α:Type} {R:World->(Nat->Value)->α->Prop} {sz:Nat} {w w':World} {A:OAd} {n c:Nat} {xs:List α}
def Sl.keep (f:CU R)(h:Sl R sz w A n c xs)(a:Below w w w'):Sl R sz w' A n c xs :=
 ⟨h.len,h.le,h.cap,h.small,h.nul,λg=>by
  obtain⟨b,d,k,e,l⟩:=h.cells g;refine⟨b,d,k,bD e a.size,λi x m=>?_⟩;obtain⟨vs,o,q⟩:=l i x m;exact⟨vs,λj r=>(a.cell (p:=⟨b,_,none⟩) e).trans (o j r),f _ _ _ _ a q⟩⟩
def Sl.nil0:Sl R sz w none 0 0 []:=⟨rfl,aL _,by simp[maxLen],by omega,λ_=>rfl,λh=>absurd h (by omega)⟩
def Sl.get {k:Nat}(h:Sl R sz w A n c xs)(e:k<n) :
  ∃b a x vs,A=some ⟨b,a,none⟩/\b<w.heap.size/\xs[k]?=some x/\(∀j,j<sz->w.cell? ⟨b,a+(k*sz+j),none⟩=some (vs j))/\R w vs x:=by
 obtain⟨b,a,f,g,i⟩:=h.cells (by omega);have d:k<xs.length:=by rw[h.len];exact e
 obtain⟨vs,l,m⟩:=i k xs[k] (aV d);exact⟨b,a,xs[k],vs,f,g,aV d,l,m⟩
end
structure Qi {α:Type}(R:World->(Nat->Value)->α->Prop)(sz:Nat):Prop where
 kept:CU R
 one:∀w vs x,R w vs x->∀j,j<sz->(vs j).oneCell'=true
 pos:0<sz
def cD {α:Type}(R:World->(Nat->Value)->α->Prop)(sz:Nat)(w:World)(a:List Value)(xs:List α):Prop :=
 a.length=xs.length*sz/\∀(i:Nat) (x:α),xs[i]?=some x->∃vs:Nat->Value,(∀j,j<sz->a[i*sz+j]?=some (vs j))/\R w vs x
section
variable {α:Type} {R:World->(Nat->Value)->α->Prop} {sz:Nat} {w w':World} {A:OAd} {n c:Nat} {xs ys:List α} {cs ds:List Value}
def cD.nil:cD R sz w [] []:=⟨by simp,λi x h=>by simp at h⟩
def cD.keep (a:CU R)(h:cD R sz w cs xs)(b:Below w w w'):cD R sz w' cs xs :=
 ⟨h.1,λi x c=>by
  obtain⟨vs,d,e⟩:=h.2 i x c;exact⟨vs,d,a _ _ _ _ b e⟩⟩
def cD.append (h:cD R sz w cs xs)(g:cD R sz w ds ys):cD R sz w (cs++ds) (xs++ys):=by
 refine⟨by rw[bL,bL,h.1,g.1,Nat.add_mul],λi x a=>?_⟩;by_cases f:i<xs.length
 .rw[fO f]at a;obtain⟨vs,b,d⟩:=h.2 i x a;refine⟨vs,λj c=>?_,d⟩;rw[fO]
  .exact b j c
  exact(aR.1 (b j c)).1
 rw[j7 (by omega)]at a;obtain⟨vs,b,d⟩:=g.2 _ x a;refine⟨vs,λj c=>?_,d⟩;have e:i*sz=xs.length*sz+(i-xs.length)*sz:=by rw[<-Nat.add_mul];congr 1;omega
 rw[j7 (by rw[h.1];omega),h.1,e,show xs.length*sz+(i-xs.length)*sz+j-xs.length*sz=(i-xs.length)*sz+j from by omega];exact b j c
def cD.one {vs:Nat->Value}{x:α}(b:R w vs x)(c:cs.length=sz)(d:∀j,j<sz->cs[j]?=some (vs j)):cD R sz w cs [x]:=by
 refine⟨by simpa using c,λi y a=>?_⟩;have e:i=0:=by
  have:=(aR.1 a).1;simpa using this
 subst e;simp only[aQ,aZ]at a;subst a;exact⟨vs,λj f=>by simpa using d j f,b⟩
def Sl.flat (G:Qi R sz)(h:Sl R sz w A n c xs) :
  ∃a:List Value,a.length=n*sz/\(A=none->n=0/\c=0)/\(∀r,A=some r->∀j u,a[j]?=some u->w.cell? (r.add j)=some u)/\(∀u∈a,u.oneCell'=true)/\cD R sz w a xs:=by
 by_cases C:0<n
 .obtain⟨b,f,z,D,B⟩:=h.cells C;have key:∀q,q<n*sz->∃(i j:Nat) (x:α) (vs:Nat->Value),q=i*sz+j/\j<sz/\xs[i]?=some x/\(∀j,j<sz->w.cell? ⟨b,f+(i*sz+j),none⟩=some (vs j))/\R w vs x:=by
   intro q t;have v:q / sz<n:=Nat.div_lt_of_lt_mul (by rw[Nat.mul_comm];exact t);have g:xs[q / sz]?=some (xs[q / sz]'(by rw[h.len];exact v)):=aV _;obtain⟨vs,l,o⟩:=B _ _ g;exact⟨q / sz,q % sz,_,vs,by rw[Nat.mul_comm];exact(Nat.div_add_mod q sz).symm,Nat.mod_lt _ G.pos,g,l,o⟩
  refine⟨(List.range (n*sz)).map λq=>(w.cell? ⟨b,f+q,none⟩).getD undef,by simp,λe=>(by rw[z]at e;cases e), ?_, ?_, ?_⟩
  .intro r had j u d;rw[z]at had;injection had with had;subst had;rw[dF]at d;by_cases s:j<n*sz
   .rw[List.getElem?_range s]at d;obtain⟨i,k,x,vs,rfl,p,g,l,o⟩:=key j s;simp only[Option.map_some,aZ]at d;rw[l k p]at d;have:((⟨b,f,none⟩:Addr).add (i*sz+k))=⟨b,f+(i*sz+k),none⟩:=by unfold Addr.add;split <;> simp_all
    rw[this,l k p];simpa using d
   rw[dC (by simp;omega)]at d;cases d
  .intro u d;simp only[bZ,bM]at d;obtain⟨q,t,rfl⟩:=d;obtain⟨i,k,x,vs,rfl,p,g,l,o⟩:=key q t;rw[l k p];exact G.one _ _ _ o k p
  refine⟨by simp[h.len], ?_⟩;intro i x g;obtain⟨vs,l,o⟩:=B i x g;refine⟨vs,λj s=>?_,o⟩;have v:i<n:=by have:=(aR.1 g).1;rw[h.len]at this;exact this
  have y:i*sz+j<n*sz:=by
   have:(i+1)*sz<=n*sz:=Nat.mul_le_mul_right _ v;rw[Nat.add_mul]at this;omega
  rw[dF,List.getElem?_range y];simp only[Option.map_some,l j s,j6]
 .have m:n=0:=by omega
  have g:xs=[]:=dS (by rw[h.len,m]);subst g;refine⟨[],by simp[m],λe=>⟨m,h.nul e⟩,λr _ j u d=>by simp at d,λu d=>by simp at d,cD.nil⟩
end
def fG:World->(Nat->Value)->Int->Prop:=λ_ vs x=>vs 0=.int .i64 x
def fG.good:Qi fG 1 where
 kept:=λ_ _ _ _ _ h=>h
 one:=λw vs x h j a=>by
  obtain rfl:j=0:=by omega
  rw[h];rfl
 pos:=by omega
abbrev aY (w:World)(A:OAd)(n c:Nat)(xs:LIn):Prop:=Sl fG 1 w A n c xs
def fG.kept:CU fG:=λ_ _ _ _ _ h=>h
def aY.get {w:World}{A:OAd}{n c k:Nat}{xs:LIn}(h:aY w A n c xs)(d:k<n) :
  ∃b a x,A=some ⟨b,a,none⟩/\b<w.heap.size/\Hid (xs[k]?=some x)/\w.cell? ⟨b,a+k,none⟩=some (.int .i64 x):=by
 obtain⟨b,a,x,vs,e,f,g,i,j⟩:=Sl.get h d;refine⟨b,a,x,e,f,g, ?_⟩;have:=i 0 (by omega);rw[j]at this;simpa using this
def aY.keep {w w':World}{A:OAd}{n c:Nat}{xs:LIn}(h:aY w A n c xs)(a:Below w w w'):aY w' A n c xs:=Sl.keep fG.kept h a
def Qj (w:World)(v0 v1 v2:Value)(t:bG):Prop :=
 v0=.int .i64 t.label/\∃A1 n1 c1 A2 n2 c2,v1=.slice A1 n1 c1/\v2=.slice A2 n2 c2/\aY w A1 n1 c1 t.pre/\aY w A2 n2 c2 t.post/\n1<=17592186044416/\n2<=17592186044416
def GU:World->(Nat->Value)->bG->Prop:=λw vs t=>Qj w (vs 0) (vs 1) (vs 2) t
def Qj.keep {w w':World}{v0 v1 v2:Value}{t:bG}(a:Below w w w')(h:Qj w v0 v1 v2 t):Qj w' v0 v1 v2 t:=by
 obtain⟨b,A1,n1,c1,A2,n2,c2,c,d,e,f,g⟩:=h;exact⟨b,A1,n1,c1,A2,n2,c2,c,d,e.keep a,f.keep a,g⟩
def GU.kept:CU GU:=λ_ _ _ _ a h=>Qj.keep a h
abbrev eC (w:World)(A:OAd)(n c:Nat)(ts:List bG):Prop:=Sl GU 3 w A n c ts
def eC.keep {w w':World}{A:OAd}{n c:Nat}{xs:List bG}(h:eC w A n c xs)(a:Below w w w'):eC w' A n c xs:=Sl.keep GU.kept h a
def eC.get {w:World}{A:OAd}{n c k:Nat}{ts:List bG}(h:eC w A n c ts)(e:k<n) :
  ∃b a t A1 n1 c1 A2 n2 c2,A=some ⟨b,a,none⟩/\b<w.heap.size/\Hid (ts[k]?=some t)/\w.cell? ⟨b,a+k*3,none⟩=some (.int .i64 t.label) /\
   w.cell? ⟨b,a+k*3+1,none⟩=some (.slice A1 n1 c1)/\w.cell? ⟨b,a+k*3+2,none⟩=some (.slice A2 n2 c2)/\aY w A1 n1 c1 t.pre/\aY w A2 n2 c2 t.post/\n1<=17592186044416/\n2<=17592186044416:=by
 obtain⟨b,a,t,vs,f,g,i,d,j,A1,n1,c1,A2,n2,c2,l,m,o,p,q,r⟩:=Sl.get h e;refine⟨b,a,t,A1,n1,c1,A2,n2,c2,f,g,i, ?_, ?_, ?_,o,p,q,r⟩
 .rw[<-j];exact d 0 (by omega)
 .rw[<-l];exact d 1 (by omega)
 .rw[<-m];exact d 2 (by omega)
structure sT (t e size bytes:Nat):Prop where
 und:Tryz.prog.underlying t=some (.slice e)
 info:∃i z,Tryz.prog.info? e=some i/\i.zero=some z/\i.size=size/\i.bytes=bytes/\z.cells.size=size
 pos:0<size
def sT.mk' {t e size a:Nat}{z:Value}(f:Tryz.prog.underlying t=some (.slice e))(g:(Tryz.prog.info? e).map (λi=>(i.zero,i.size,i.bytes))=some (some z,size,a))(h:z.cells.size=size)(j:0<size):sT t e size a:=by
 obtain⟨i,k,b,c,d⟩:=info_parts g;exact⟨f,⟨i,z,k,b,c,d,h⟩,j⟩
def iO:sT 24 3 1 8:=sT.mk' (z:=.int .i64 0) Tryz.underlying24 (by kernel_rfl) rfl (by decide)
def CV {t e size b:Nat} (T:sT t e size b) {ops:Array Oper} {rest:List Oper} {o:Oper} {a:Act} {Q:Exit->Act->World->Prop} (f:o.guard=none) (s x:Operand)
  (r:o.op=.call {callee:=.builtin .append,args:=#[s,x],argTypes:=#[t,t]})
  {w0 w:World} {B:Nat} {v:Value} {n m:Nat} {xs:List Value} (c:Array Value) {H:Nat} (y:a.eval s=v) (A:a.eval x=.slice H m m) (C:H=w.heap.size) (g:c.size=m*size) (one:∀u∈c.toList,u.oneCell'=true)
  (own:w.ownsRow B e size v n xs) (D:Below B w0 w) (E:B<=w.heap.size) (F:n+m<=281474976710656) (G:(n+m)*b<=140737488355328)
  (K:∀v' w',w'.ownsRow B e size v' (n+m) (xs++c.toList)->w.grownBy w' v.ownBlock->Below B w0 w'->wpList Tryz.prog ops Q rest (a.put o.dst v') w') :
  wpList Tryz.prog ops Q (o::rest) a (w.alloc (.cells c e)):=by
 subst C;obtain⟨i,z,I,J,L,M,N⟩:=T.info;have h:∀k,v.ownBlock=some k->B<=k/\k<w.heap.size:=own.lt;refine wpList_append_own _ f s x t r B e i z size b T.und I J L M N T.pos v n xs y (own.alloc _) ⟨w,0,none⟩ m m c.toList A (by simpa using g) (λj u O=>?_) one ?_ G (by simp;omega) (λv' w' P d S=>?_)
 .have R:((⟨w,0,none⟩:Addr).add j)=⟨w.heap.size,j,none⟩:=by unfold Addr.add;split <;> simp_all
  rw[R];have:(w.alloc (.cells c e)).cell? ⟨w.heap.size,j,none⟩=c[j]?:=cell_of_row _ _ _ _ _ (0,0) (iD w _);rw[this];simpa using O
 .simp only[maxLen];omega
 .have q:w.grownBy w' v.ownBlock:=⟨d.os,d.tape,d.output,aT (by simp) d.size,λk l p=>(d.block k (by simp;omega) p).trans (heap_alloc_old w _ l)⟩;exact K v' w' P q (D.grown q E (λk l=>(h k l).1))
def jH {t e b:Nat} {z:Value} (r:Tryz.prog.underlying t=some (.slice e)) (s:(Tryz.prog.info? e).map (λi=>(i.zero,i.size,i.bytes))=some (some z,1,b)) (u:z.cells=#[z]) {ops:Array Oper} {rest:List Oper} {o:Oper} {a:Act} {Q:Exit->Act->World->Prop}
  (v:o.guard=none) (l c:Operand) (f:o.op=Op.makeSlice t l c) {w0 w:World} {B:Nat} {L C:Int} (n:Nat) (x:a.eval l=L) (y:a.eval c=C) (A:L=(n:Int)) (D:C=(n:Int))
  (H:n<=281474976710656) (d:b*n<=281474976710656) (E:Below B w0 w) (m:B<=w.heap.size)
  (K:∀w',w'.ownsRow B e 1 (.slice w n n) n (List.replicate n z)->w.grownBy w' none->Below B w0 w'->wpList Tryz.prog ops Q rest (a.put o.dst (.slice w n n)) w') :
  wpList Tryz.prog ops Q (o::rest) a w:=by
 obtain⟨i,F,g,h,j⟩:=info_parts s;refine wpList_make_full w v l c t f B e i z 1 r F g h .i64 .i64 L C n x y A D (by rw[j];exact d) (by simp only[maxLen];omega) m (λw' p q=>?_);rw[u,j8,toList_madeCells_one]at p;exact K w' p q (E.grown q m (λk G=>by cases G))
def iP:(Tryz.prog.info? 3).map (λi=>(i.zero,i.size,i.bytes))=some (some (.int .i64 0),1,8):=by kernel_rfl
def sD:(Tryz.prog.info? 4).map (λi=>(i.zero,i.size,i.bytes))=some (some (.bool false),1,1):=by kernel_rfl
def aJ {α:Type}(R:World->(Nat->Value)->α->Prop)(sz:Nat)(w:World)(B e:Nat)(v:Value)(n:Nat)(xs:List α):Prop :=
 ∃a,w.ownsRow B e sz v n a/\cD R sz w a xs/\xs.length=n
abbrev aI (w:World)(B:Nat)(v:Value)(n:Nat)(xs:LIn):Prop:=aJ fG 1 w B 3 v n xs
section
variable {α:Type} {R:World->(Nat->Value)->α->Prop} {sz:Nat} {w w':World} {B e:Nat} {v:Value} {n:Nat} {xs:List α}
def aJ.nil:aJ R sz w B e () 0 []:=⟨[],World.ownsRow_nil _ _ _ _,cD.nil,rfl⟩
def aJ.lt (h:aJ R sz w B e v n xs):∀k,v.ownBlock=some k->B<=k/\k<w.heap.size:=by
 obtain⟨a,b,c⟩:=h;exact b.lt
def aJ.kept (h:aJ R sz w B e v n xs){row:Option Nat}(g:w.grownBy w' row)(d:v.ownBlock=none∨v.ownBlock≠row)(j:∀vs x,R w vs x->R w' vs x):aJ R sz w' B e v n xs:=by
 obtain⟨c,k,f,l⟩:=h;exact⟨c,k.kept g d,⟨f.1,λi x m=>by obtain⟨vs,a,b⟩:=f.2 i x m;exact⟨vs,a,j _ _ b⟩⟩,l⟩
def aJ.keep (b:CU R)(h:aJ R sz w B e v n xs)(a:Below w w w'):aJ R sz w' B e v n xs:=by
 refine h.kept (row:=none) ⟨a.os,a.tape,a.output,a.size,λk c _=>a.block k c⟩ ?_ (λvs x d=>b _ _ _ _ a d);cases v.ownBlock <;> simp
def aJ.sl (h:aJ R sz w B e v n xs)(p:n<=281474976710656):∃A c,v=.slice A n c/\Sl R sz w A n c xs:=by
 obtain⟨b,l,q,m⟩:=h;rcases l.2 with⟨rfl,rfl⟩|⟨g,cap,r,rfl,D,s,d,a,t,f⟩
 .exact⟨none,0,rfl,m,aB _,by simp[maxLen],by omega,λ_=>rfl,λh=>absurd h (by omega)⟩
 refine⟨_,cap,rfl,m,d,a,p,λh=>(by cases h),λ_=>⟨g,0,rfl,(f8.1 s).1,λi x o=>?_⟩⟩;obtain⟨vs,u,y⟩:=q.2 i x o;refine⟨vs,λj z=>?_,y⟩;have C:i<n:=by have:=(aR.1 o).1;omega
 have k:i*sz+j<n*sz:=by
  have:(i+1)*sz<=n*sz:=Nat.mul_le_mul_right _ C;rw[Nat.add_mul]at this;omega
 rw[Nat.zero_add,l.cellAt _ k];exact u j z
def aJ.len (h:aJ R sz w B e v n xs):xs.length=n:=h.choose_spec.2.2
end
def aI.of_row {w:World}{B:Nat}{v:Value}{n:Nat}{xs:LIn}(h:w.ownsRow B 3 1 v n (xs.map (Value.int .i64))):aI w B v n xs:=by
 have a:xs.length=n:=by have:=h.1;simpa using this
 refine⟨_,h,⟨by simp,λi x b=>⟨λ_=>.int .i64 x,λj c=>?_,rfl⟩⟩,a⟩;have:j=0:=by omega
 subst this;simp[dF,b]
def aY.of_own {w:World}{B:Nat}{v:Value}{n:Nat}{xs:LIn}(h:w.ownsRow B 3 1 v n (xs.map (Value.int .i64)))(a:n<=281474976710656):∃A c,v=.slice A n c/\aY w A n c xs :=
 aJ.sl (aI.of_row h) a
def dW {α:Type} {R:World->(Nat->Value)->α->Prop} {t e size c:Nat} (T:sT t e size c) {ops:Array Oper} {rest:List Oper} {o:Oper} {a:Act} {Q:Exit->Act->World->Prop} (h:o.guard=none) (s x:Operand)
  (r:o.op=.call {callee:=.builtin .append,args:=#[s,x],argTypes:=#[t,t]})
  {w0 w:World} {B:Nat} {v:Value} {n m:Nat} {xs:List α} (ys:List α) (g:Array Value) {H:Nat} (z:a.eval s=v) (j:a.eval x=.slice H m m) (A:H=w.heap.size) (k:g.size=m*size) (one:∀u∈g.toList,u.oneCell'=true)
  (own:aJ R size w B e v n xs) (d:cD R size w g.toList ys) (C:ys.length=m) (D:Below B w0 w) (E:B<=w.heap.size) (l:n+m<=281474976710656) (F:(n+m)*c<=140737488355328)
  (f:∀w',w.grownBy w' v.ownBlock->∀vs y,R w vs y->R w' vs y)
  (K:∀v' w',aJ R size w' B e v' (n+m) (xs++ys)->w.grownBy w' v.ownBlock->Below B w0 w'->wpList Tryz.prog ops Q rest (a.put o.dst v') w') :
  wpList Tryz.prog ops Q (o::rest) a (w.alloc (.cells g e)):=by
 obtain⟨p,G,I,J⟩:=own;refine CV T h s x r g z j A k one G D E l F (λv' w' L q M=>K v' w' ⟨_,L, ?_,by rw[bL,J,C]⟩ q M);have:=I.append d;exact⟨this.1,λi x j=>by obtain⟨vs,a,b⟩:=this.2 i x j;exact⟨vs,a,f _ q _ _ b⟩⟩
def dX {ops:Array Oper} {rest:List Oper} {o:Oper} {a:Act} {Q:Exit->Act->World->Prop} (b:o.guard=none) (s x:Operand)
  (c:o.op=.call {callee:=.builtin .append,args:=#[s,x],argTypes:=#[24,24]})
  {w0 w:World} {B:Nat} {v:Value} {n:Nat} {xs:LIn} {y:Int} {H:Nat} (d:a.eval s=v) (e:a.eval x=.slice H 1 1) (f:H=w.heap.size)
  (own:aI w B v n xs) (g:Below B w0 w) (i:B<=w.heap.size) (k:(n+1)*8<=140737488355328)
  (K:∀v' w',aI w' B v' (n+1) (xs++[y])->w.grownBy w' v.ownBlock->Below B w0 w'->wpList Tryz.prog ops Q rest (a.put o.dst v') w') :
  wpList Tryz.prog ops Q (o::rest) a (w.alloc (.cells #[y] 3)) :=
 dW iO b s x c [y] #[y] d e f rfl (by simp[Value.oneCell']) own (cD.one (vs:=λ_=>.int .i64 y) rfl rfl (λj l=>(by obtain rfl:j=0:=(by omega);rfl))) rfl g i (by omega) k (λ_ _ _ _ h=>h) K
def Ew:sT 39 74 3 56:=sT.mk' (z:=.agg #[(0:Int),(),()]) Tryz.underlying39 (by kernel_rfl) rfl (by decide)
def xA {α:Type} {R:World->(Nat->Value)->α->Prop} {t e size d:Nat} (T:sT t e size d) (G:Qi R size) {ops:Array Oper} {rest:List Oper} {o:Oper} {a:Act} {Q:Exit->Act->World->Prop} (j:o.guard=none) (s x:Operand)
  (u:o.op=.call {callee:=.builtin .append,args:=#[s,x],argTypes:=#[t,t]})
  {w0 w:World} {B:Nat} {v:Value} {n m c:Nat} {h:Addr} {xs ys:List α} (A:a.eval s=v) (l:a.eval x=.slice (some h) m c)
  (own:aJ R size w B e v n xs) (src:Sl R size w (some h) m c ys) (C:Below B w0 w) (q:B<=w.heap.size) (D:n+m<=281474976710656) (E:(n+m)*d<=140737488355328)
  (f:∀w',w.grownBy w' v.ownBlock->∀vs y,R w vs y->R w' vs y)
  (K:∀v' w',aJ R size w' B e v' (n+m) (xs++ys)->w.grownBy w' v.ownBlock->Below B w0 w'->wpList Tryz.prog ops Q rest (a.put o.dst v') w') :
  wpList Tryz.prog ops Q (o::rest) a w:=by
 obtain⟨i,z,F,H,I,J,L⟩:=T.info;obtain⟨g,r,M,N⟩:=own;obtain⟨ds,O,X,P,S,U⟩:=src.flat G;refine wpList_append_own _ j s x t u B e i z size d T.und F H I J L T.pos v n g A r h m c ds l O (P h rfl) S (by simp only[maxLen];omega) E q (λv' w' V p _=>?_);refine K v' w' ⟨_,V, ?_,by rw[bL,N,src.len]⟩ p (C.grown p q (λk W=>(r.lt k W).1));have:=M.append U;exact⟨this.1,λi x l=>by obtain⟨vs,a,b⟩:=this.2 i x l;exact⟨vs,a,f _ p _ _ b⟩⟩
def aJ.empty {α:Type}{R:World->(Nat->Value)->α->Prop}{sz:Nat}{w:World}{B e:Nat}(a:B<=w.heap.size):aJ R sz (w.alloc (.cells #[] e)) B e (.slice w 0 0) 0 ([]:List α) :=
 ⟨[],World.ownsRow_made w #[] 0 a (by simp[maxLen]) (by simp),cD.nil,rfl⟩
def XO {α:Type}(R:World->(Nat->Value)->α->Prop)(sz e n:Nat)(xs:List α)(w:World)(a:Ending)(w':World):Prop :=
 ∃v,a=.returned v/\aJ R sz w' w.heap.size e v n xs/\Below w.heap.size w w'
def eY {w:World}{A:OAd}{n c:Nat}{xs:LIn}(h:aY w A n c xs)(m:n<=17592186044416) :
  Calls Tryz.prog 133 #[.slice A n c] w (XO fG 1 3 n xs w):=by
 have f:=aA (show ∀o,Below w w (w.alloc o)from λo=>(aH _ _).alloc (aB _) _);rcases A with _|g
 .have i:=h.nul rfl;have b:n=0:=by have:=h.le;omega
  subst i b;have j:=dS h.len;subst j;clear h;have k:=λ(w:World)=>Lib.run_eql_slice_nil (P:=Tryz.prog) w 24 3 none 0 0 0 0 Tryz.underlying24
  go_enter Tryz.func133,Tryz.ntmps133
  go_wp2
  go_ret
  exact⟨_,rfl,aJ.nil,aH _ _⟩
 .have H:=aA h;have O:=aA (aJ.empty (R:=fG) (sz:=1) (w:=w) (B:=w.heap.size) (e:=3) (aB _));clear h;have k:=λ(w:World)=>Lib.run_eql_slice_nil (P:=Tryz.prog) w 24 3 (some g) n c 0 0 Tryz.underlying24
  go_enter Tryz.func133,Tryz.ntmps133
  go_wp2_with (at_builtin;refine xA iO fG.good rfl _ _ rfl rfl rfl O.o (H.o.keep (f.o _)) (f.o _) (by simp) (by omega) (by omega) (λ_ _ _ _ h=>h) ?_;intro v1 w1 a l d)
  go_ret
  exact⟨_,rfl,by simpa using a,d⟩
def tQ {α:Type} {R:World->(Nat->Value)->α->Prop} {t e size c:Nat} (T:sT t e size c) {ops:Array Oper} {o:Oper} {a:Act} {K:Act->World->Prop} {Q:Exit->Act->World->Prop} {E:Prop} (q:o.guard=none) (s x:Operand)
  (L:o.op=.call {callee:=.builtin .append,args:=#[s,x],argTypes:=#[t,t]})
  {w0 w W:World} {B:Nat} {v:Value} {n m:Nat} {xs:List α} (ys:List α) (d:Array Value) {H:Nat} (M:a.eval s=v) (r:a.eval x=.slice H m m) (N:H=w.heap.size) (O:W=w.alloc (.cells d e)) (A:d.size=m*size) (P:0<m) (one:∀u∈d.toList,u.oneCell'=true)
  (own:aJ R size w B e v n xs) (f:cD R size w d.toList ys) (S:ys.length=m) (U:Below B w0 w) (V:B<=w.heap.size) (X:n+m<=281474976710656) (Y:(n+m)*c<=140737488355328)
  (h:∀w',w.grownBy w' v.ownBlock->∀vs y,R w vs y->R w' vs y)
  (hK:∀g cap w',aJ R size w' B e (.slice (some ⟨g,0,none⟩) (n+m) cap) (n+m) (xs++ys)->w.grownBy w' v.ownBlock->Below B w0 w'->B<=g->g<w'.heap.size->K (a.put o.dst (.slice (some ⟨g,0,none⟩) (n+m) cap)) w') :
  if Region.wanted o (yielded ops a.tmps)=true then Oper.wp Tryz.prog o a W K Q else E:=by
 subst N O;obtain⟨i,z,Z,h2,h3,h4,h5⟩:=T.info;obtain⟨l,I,o2,o3⟩:=own;have C:∀k,v.ownBlock=some k->B<=k/\k<w.heap.size:=I.lt;refine step_append_lies _ q s x t L B e i z size c T.und Z h2 h3 h4 h5 T.pos v n l M (I.alloc _) ⟨w,0,none⟩ m m d.toList r (by simpa using A) (λj u hj=>?_) one P (by simp only[maxLen];omega) Y (by simp;omega) _ rfl (λg cap w' J p h8 h9=>?_)
 .have hz:((⟨w,0,none⟩:Addr).add j)=⟨w.heap.size,j,none⟩:=by unfold Addr.add;split <;> simp_all
  rw[hz];have:(w.alloc (.cells d e)).cell? ⟨w.heap.size,j,none⟩=d[j]?:=cell_of_row _ _ _ _ _ (0,0) (iD w _);rw[this];simpa using hj
 .have D:w.grownBy w' v.ownBlock:=⟨p.os,p.tape,p.output,aT (by simp) p.size,λk F G=>(p.block k (by simp;omega) G).trans (heap_alloc_old w _ F)⟩;refine hK g cap w' ⟨_,J, ?_,by rw[bL,o3,S]⟩ D (U.grown D V (λk F=>(C k F).1)) (J.lt g rfl).1 h9;have:=o2.append f;exact⟨this.1,λi x r=>by obtain⟨vs,a,b⟩:=this.2 i x r;exact⟨vs,a,h _ D _ _ b⟩⟩
def aJ.base {α:Type}{R:World->(Nat->Value)->α->Prop}{sz:Nat}{w:World}{B d e:Nat}{v:Value}{n:Nat}{xs:List α}(h:aJ R sz w B e v n xs)(l:d<=B):aJ R sz w d e v n xs:=by
 obtain⟨a,⟨f,b⟩,i,j⟩:=h;refine⟨a,⟨f, ?_⟩,i,j⟩;rcases b with b|⟨g,cap,c,k,m,r⟩
 .exact .inl b
 exact .inr ⟨g,cap,c,k,by omega,r⟩
def jC {w:World}{k B2 d f s1 s2 n1 n2:Nat}{v1 v2:Value}{c1 c2:List Value}(l:w.ownsRow k d s1 v1 n1 c1)(m:w.ownsRow B2 f s2 v2 n2 c2)(b:d≠f):v1.ownBlock=none∨v1.ownBlock≠v2.ownBlock:=by
 rcases l.2 with⟨rfl,_⟩|⟨o,g,h,rfl,_,c,_⟩
 .exact .inl rfl
 refine .inr (λe=>?_);rcases m.2 with⟨rfl,_⟩|⟨p,i,j,rfl,_,a,_⟩
 .simp[Value.ownBlock]at e
 simp only[Value.ownBlock,aZ]at e;subst e;rw[c]at a;injection a with a;injection a with _ n;exact b n
def bT (B:Nat):World->(Nat->Value)->bG->Prop:=λw vs t =>
 vs 0=.int .i64 t.label/\∃n1 n2,aI w B (vs 1) n1 t.pre/\aI w B (vs 2) n2 t.post/\n1<=17592186044416/\n2<=17592186044416
def bT.kept (B:Nat):CU (bT B):=λ_ _ _ _ a ⟨b,n1,n2,c,d,e⟩=>⟨b,n1,n2,c.keep fG.kept a,d.keep fG.kept a,e⟩
def bT.tran {B:Nat}{w:World}{vs:Nat->Value}{t:bG}(h:bT B w vs t):GU w vs t:=by
 obtain⟨a,n1,n2,b,c,d,e⟩:=h;obtain⟨A1,c1,f,g⟩:=b.sl (by omega);obtain⟨A2,c2,i,j⟩:=c.sl (by omega);exact⟨a,A1,n1,c1,A2,n2,c2,f,i,g,j,d,e⟩
def bT.grown {B:Nat}{w w':World}{v:Value}{n:Nat}{b:List Value}{B2:Nat}(a:w.ownsRow B2 74 3 v n b)(c:w.grownBy w' v.ownBlock){vs:Nat->Value}{t:bG}(h:bT B w vs t):bT B w' vs t:=by
 obtain⟨f,n1,n2,⟨c1,a1,a2,a3⟩,⟨c2,d,e,g⟩,i⟩:=h;exact⟨f,n1,n2,⟨c1,a1.kept c (jC a1 a (by decide)),⟨a2.1,a2.2⟩,a3⟩,⟨c2,d.kept c (jC d a (by decide)),⟨e.1,e.2⟩,g⟩,i⟩
def bT.far {B:Nat}{w w':World}{g:Nat}(a:w.grownBy w' (some g))(d:g<B){vs:Nat->Value}{t:bG}(h:bT B w vs t):bT B w' vs t:=by
 obtain⟨f,n1,n2,⟨c1,a1,a2,a3⟩,⟨c2,b,c,i⟩,j⟩:=h;refine⟨f,n1,n2,⟨c1,a1.kept a (.inr (λe=>?_)),⟨a2.1,a2.2⟩,a3⟩,⟨c2,b.kept a (.inr (λe=>?_)),⟨c.1,c.2⟩,i⟩,j⟩
 .have:=(a1.lt g e).1;omega
 have:=(b.lt g e).1;omega
section
variable {P:Program} {ops:Array Oper} {Q:Exit->Act->World->Prop} {md:Region.Mode} {S:World->Prop} {m:Nat}
def uM (P:Program)(md:Region.Mode)(ops:Array Oper)(Q:Exit->Act->World->Prop)(S:World->Prop)(m:Nat):Nat->Array Bool->Act->World->Prop
 | 0,b,a,w=>Region.ready md ops b=[]/\Q .normal a w
 | c+1,b,a,w =>
  (Region.ready md ops b=[]->Q .normal a w) /\
  ∀i∈Region.ready md ops b,wpOp P ops Q i (λd w'=>((b.setIfInBounds i true).getD m true=false->S w')/\uM P md ops Q S m c (b.setIfInBounds i true) d w') a w
def oS:∀(b:Nat) (c:Array Bool) (a:Act) (w:World),uM P md ops Q S m b c a w->wpAny P md ops Q b c a w
 | 0,_,_,_,h=>h
 | b+1,_,_,_,h=>⟨h.1,λi d=>wpOp_mono (λe w' f=>oS b _ e w' f.2) (h.2 i d)⟩
def rD (md:Region.Mode)(ops:Array Oper):Nat->Nat->Nat->Bool
 | 0,_,_=>false
 | f+1,m,i=>((ops[m]?).map (λo=>(o.after.any λe=>Region.binds md e&&e.on==i)||(o.after.any λe=>Region.binds md e&&rD md ops f e.on i))).getD false
def mM (md:Region.Mode)(ops:Array Oper)(a:Array Bool):Prop :=
 ∀k o,a.getD k false=true->ops[k]?=some o->∀e∈o.after,Region.binds md e=true->a.getD e.on false=true
def mM.start (n:Nat):mM md ops (Array.replicate n false):=λk o h=>by
 rcases Nat.lt_or_ge k n with a|a <;> simp[Array.getD,a]at h
def mM.set {a:Array Bool}(h:mM md ops a){i:Nat}(m:i∈Region.ready md ops a):mM md ops (a.setIfInBounds i true):=by
 intro k o f g e j l;by_cases b:i=k
 .subst b;obtain⟨_,n,c,d⟩:=mem_ready.1 m;rw[g]at c;cases c
  exact getD_set_true (d e j l)
 rw[getD_set_ne false b]at f;exact getD_set_true (h k o f g e j l)
def xB {a:Array Bool}(n:mM md ops a):∀(f m i:Nat),(∀o,ops[m]?=some o->∀e∈o.after,Region.binds md e=true->a.getD e.on false=true)->rD md ops f m i=true->a.getD i false=true
 | 0,_,_,_,h=>by simp[rD]at h
 | f+1,m,i,p,h=>by
  unfold rD at h;cases ho:ops[m]? with
  | none=>simp[ho]at h
  | some o =>
   simp only[ho,Option.map_some,j6,l7,Array.any_eq_true,cA,fA]at h;rcases h with⟨j,b,c,d⟩|⟨j,b,c,d⟩
   .rw[<-d];exact p o ho _ (Array.getElem_mem b) c
   exact xB n f _ i (λq g r k l=>n _ q (p o ho _ (Array.getElem_mem b) c) g r k l) d
def Wh {f i:Nat}{a:Array Bool}(g:mM md ops a)(h:rD md ops f m i=true)(d:a.getD i true=false):m∉Region.ready md ops a:=by
 intro j;obtain⟨_,o,k,b⟩:=mem_ready.1 j;have:=xB g f m i (λl c=>by rw[k]at c;cases c;exact b) h;rcases Nat.lt_or_ge i a.size with e|e
 .simp[e]at d this;rw[d]at this;cases this
 simp[Array.getElem?_eq_none e]at d
def xC {i:Nat} {t:Oper} {v:Value} (M:ops[i]?=some t) (q:∀(j:Nat) (o:Oper) cs b,ops[j]?=some o->o.op≠.select cs b)
  (Y:∀c a w,Q (.panic c) (a.put t.dst v) w->Q (.panic c) a w) (N:i≠m) {f:Nat} (u:rD md ops f m i=true) :
  ∀(g:Nat) (d:Array Bool) (a:Act) (w:World),mM md ops d ->
   (∀j x,ops[j]?=some x->j≠i->d.getD j true=false->(∀e∈x.after,Region.binds md e=true->e.on≠i)->t.apart ops x=true) ->
   i∈Region.ready md ops d->d.getD m true=false->YieldsIf P ops S t v a->S w ->
   uM P md ops Q S m g (d.setIfInBounds i true) (a.put t.dst v) w->uM P md ops Q S m (g+1) d a w:=by
 intro g;induction g with
 | zero =>
  intro d a w _ _ r y L C H;refine⟨λh=>(by rw[h]at r;cases r),λj B=>?_⟩;by_cases l:j=i
  .subst l;exact L.wpOp M C ⟨λ_=>C,H⟩
  have:=ready_mono B l;rw[H.1]at this;cases this
 | succ g Z =>
  intro d a w W n r y L C H;refine⟨λh=>(by rw[h]at r;cases r),λj B=>?_⟩;by_cases l:j=i
  .subst l;exact L.wpOp M C ⟨λ_=>C,H⟩
  have z:=H.2 j (ready_mono B l);obtain⟨s,x,A,D⟩:=mem_ready.1 B;have E:j≠m:=λe=>Wh W u (mem_ready.1 r).1 (e▸B)
  have F:∀e∈x.after,Region.binds md e=true->e.on≠i:=λe he hb O=>by
   have z:=D e he hb;have X:=(mem_ready.1 r).1;rw[O]at z;rcases Nat.lt_or_ge i d.size with R|R
   .simp[R]at X z;rw[X]at z;cases z
   simp[Array.getElem?_eq_none R]at z
  have h2:=wpOp_putIf A (n j x A l s F) (λcs b=>q i t cs b M) (λcs b=>q j x cs b A) Y L z;have p:∀k ok,ops[k]?=some ok->k≠i->(d.setIfInBounds j true).getD k true=false ->
    (∀e∈ok.after,Region.binds md e=true->e.on≠i)->t.apart ops ok=true:=λk ok hk T G U=>by
   refine n k ok hk T ?_ U;by_cases I:j=k
   .subst I;exact s
   .rw[getD_set_ne true I]at G;exact G
  have J:(d.setIfInBounds j true).getD m true=false:=by rw[getD_set_ne true E];exact y
  refine wpOp_mono (λa' w' V=>?_) h2;have K:S w':=V.2.1 (by rw[getD_set_ne true E,getD_set_ne true N];exact y);refine⟨λ_=>K,Z (d.setIfInBounds j true) a' w' (W.set B) p (ready_mono r (Ne.symm l)) J V.1 K ?_⟩;rw[Array.setIfInBounds_comm _ _ l];exact V.2.2
def nF (md:Region.Mode)(ops:Array Oper)(m:Nat):List (Nat×Nat)->Nat->Array Bool->Bool
 | [],_,a=>(Region.ready md ops a).isEmpty
 | _::_,0,_=>false
 |(k,i)::rest,b+1,a =>
  (match k with
   | 0=>Region.free md ops a i&&(Region.ready md ops a).contains i&&i != m&&rD md ops 8 m i&&!a.getD m true
   | 1=>Region.ready md ops a==[i]
   | _=>Region.ready md ops a==[i]&&(a.setIfInBounds i true).getD m true) &&
  nF md ops m rest b (a.setIfInBounds i true)
def gB (P:Program)(ops:Array Oper)(Q:Exit->Act->World->Prop)(S:World->Prop):List (Nat×Nat)->Act->World->Prop
 | [],a,w=>Q .normal a w
 |(0,i)::rest,a,w=>∃b v,ops[i]?=some b/\YieldsIf P ops S b v a/\S w/\gB P ops Q S rest (a.put b.dst v) w
 |(1,i)::rest,a,w=>wpOp P ops Q i (λc w'=>S w'/\gB P ops Q S rest c w') a w
 |(_+2,i)::rest,a,w=>wpOp P ops Q i (gB P ops Q S rest) a w
def jO (s:Region.noSelect ops=true)(t:∀c a (d:Tmp) v w,Q (.panic c) (a.put (some d) v) w->Q (.panic c) a w) :
  ∀(l:List (Nat×Nat)) (f:Nat) (b:Array Bool) (a:Act) (w:World),mM md ops b->nF md ops m l f b=true->gB P ops Q S l a w->uM P md ops Q S m f b a w
 | [],f,b,a,w,_,e,h=>by
  have g:Region.ready md ops b=[]:=by simpa [nF] using e
  cases f with
  | zero=>exact⟨g,h⟩
  | succ n=>exact⟨λ_=>h,λi q=>by rw[g]at q;cases q⟩
 | _::_,0,_,_,_,_,e,_=>by simp[nF]at e
 |(0,i)::rest,f+1,b,a,w,p,e,h=>by
  simp only[nF,cA,bne_iff_ne,ne_eq,m9]at e;obtain⟨⟨⟨⟨⟨B,A⟩,x⟩,C⟩,y⟩,o⟩:=e;obtain⟨D,v,q,E,F,h⟩:=h;exact xC q (Region.noSelect_spec s) (λc a w h=>by cases hd:D.dst with|none=>rw[hd]at h;exact h|some d=>rw[hd]at h;exact t c a d _ w h) x C f b a w p (Region.free_spec q B) (by simpa using A) y E F (jO s t rest f _ _ w (p.set (by simpa using A)) o h)
 |(1,i)::rest,f+1,b,a,w,p,e,h=>by
  simp only[nF,cA,fA]at e;refine⟨λg=>absurd (g.symm.trans e.1) (by simp),λj r=>?_⟩;rw[e.1]at r;obtain rfl:j=i:=by simpa using r
  exact wpOp_mono (λz w' u=>⟨λ_=>u.1,jO s t rest f _ z w' (p.set (by rw[e.1];simp)) e.2 u.2⟩) h
 |(k+2,i)::rest,f+1,b,a,w,p,e,h=>by
  simp only[nF,cA,fA]at e;refine⟨λg=>absurd (g.symm.trans e.1.1) (by simp),λj r=>?_⟩;rw[e.1.1]at r;obtain rfl:j=i:=by simpa using r
  exact wpOp_mono (λz w' u=>⟨λg=>absurd (g.symm.trans e.1.2) (by simp),jO s t rest f _ z w' (p.set (by rw[e.1.1];simp)) e.2 u⟩) h
def gZ {e:Nat} (m:Nat) (l:List (Nat×Nat)) (S:World->Prop) {a:Act} {w:World} (f:P.follows .mixedOrders=true) (g:Region.noSelect ops=true) (b:nF .any ops m l ops.size (Array.replicate ops.size false)=true)
  (i:∀c a (d:Tmp) v w,Q (.panic c) (a.put (some d) v) w->Q (.panic c) a w) (j:S w.drew) (h:S w.drew->gB P ops Q S l a w.drew):(Code.region e ops true).wp P Q a w :=
 wp_region_any f (oS _ _ _ _ (jO (m:=m) g i l _ _ _ _ (mM.start _) b (h j)))
def nth {α:Type}:List α->Nat->Option α
 | [],_=>none
 | x::_,0=>some x
 | _::l,n+1=>nth l n
def VH {α:Type}:∀(l:List α) (i:Nat),nth l i=l[i]?
 | [],_=>by simp[nth]
 | _::_,0=>by simp[nth]
 | _::l,n+1=>by simp[nth,VH l n]
def kF {i:Nat}{o:Oper}(h:nth ops.toList i=some o):ops[i]?=some o:=by rw[VH]at h;simpa using h
def nG {i:Nat} {rest:List (Nat×Nat)} {a:Act} {w:World} {o:Oper} {v:Value} (b:nth ops.toList i=some o) (c:Region.wanted o (yielded ops a.tmps)=true) (d:S w)
  (e:∀w',S w'->(execOp a.eval o).run P w'=.ok (.value v) w') (h:gB P ops Q S rest (a.put o.dst v) w):gB P ops Q S ((0,i)::rest) a w :=
 ⟨o,v,kF b,.inl ⟨c,e⟩,d,h⟩
def Oc {i:Nat} {rest:List (Nat×Nat)} {a:Act} {w:World} {o:Oper} (d:nth ops.toList i=some o)
  (h:∀b:Act->World->Prop,Shut (∀a w,S w->(S w->gB P ops Q S rest a w)->b a w)->if Region.wanted o (yielded ops a.tmps)=true then Oper.wp P o a w b Q else b (a.put o.dst undef) w):gB P ops Q S ((1,i)::rest) a w :=
 wpOp_step (kF d) λb hK=>h b λa w c e=>hK a w ⟨c,e c⟩
def x5 {i:Nat} {rest:List (Nat×Nat)} {a:Act} {w:World} {o:Oper} (c:nth ops.toList i=some o)
  (h:∀b:Act->World->Prop,Shut (∀a w,gB P ops Q S rest a w->b a w)->if Region.wanted o (yielded ops a.tmps)=true then Oper.wp P o a w b Q else b (a.put o.dst undef) w):gB P ops Q S ((2,i)::rest) a w :=
 wpOp_step (kF c) λb hK=>h b hK
end
def setA {α:Type}(xs:List α)(i:Nat)(a:α):xs.toArray.setIfInBounds i a=(xs.set i a).toArray:=List.setIfInBounds_toArray xs i a
def setZ {α:Type}{a b:α}{l:List α}:(a::l).set 0 b=b::l:=List.set_cons_zero
def setS {α:Type}{a b:α}{l:List α}{n:Nat}:(a::l).set (n+1) b=a::l.set n b:=r9
inductive Scr where
 | done
 | take (i:Nat) (r:Scr)
 | one (i:Nat) (r:Scr)
 | fin (i:Nat) (r:Scr)
 | two (i:Nat) (r1:Scr) (j:Nat) (r2:Scr)
 | three (i:Nat) (r1:Scr) (j:Nat) (r2:Scr) (k:Nat) (r3:Scr)
def Scr.takes:List Nat->Scr->Scr
 | [],r=>r
 | i::l,r=>.take i (Scr.takes l r)
def Scr.fins:List Nat->Scr->Scr
 | [],r=>r
 | i::l,r=>.fin i (Scr.fins l r)
section
variable {P:Program} {ops:Array Oper} {Q:Exit->Act->World->Prop} {md:Region.Mode} {S:World->Prop} {m:Nat}
def mE (md:Region.Mode)(ops:Array Oper)(m:Nat):Scr->Nat->Array Bool->Bool
 | .done,_,a=>(Region.ready md ops a).isEmpty
 | .take i r,f,a=>match f with
  | 0=>false
  | f+1=>(Region.free md ops a i&&(Region.ready md ops a).contains i&&i != m&&rD md ops 8 m i&&!a.getD m true)&&mE md ops m r f (a.setIfInBounds i true)
 | .one i r,f,a=>match f with
  | 0=>false
  | f+1=>Region.ready md ops a==[i]&&mE md ops m r f (a.setIfInBounds i true)
 | .fin i r,f,a=>match f with
  | 0=>false
  | f+1=>(Region.ready md ops a==[i]&&(a.setIfInBounds i true).getD m true)&&mE md ops m r f (a.setIfInBounds i true)
 | .two i b j c,f,a=>match f with
  | 0=>false
  | f+1=>Region.ready md ops a==[i,j]&&mE md ops m b f (a.setIfInBounds i true)&&mE md ops m c f (a.setIfInBounds j true)
 | .three i b j c k d,f,a=>match f with
  | 0=>false
  | f+1=>Region.ready md ops a==[i,j,k]&&mE md ops m b f (a.setIfInBounds i true)&&mE md ops m c f (a.setIfInBounds j true)&&mE md ops m d f (a.setIfInBounds k true)
def fH (P:Program)(ops:Array Oper)(Q:Exit->Act->World->Prop)(S:World->Prop):Scr->Act->World->Prop
 | .done,a,w=>Q .normal a w
 | .take i r,a,w=>∃c v,ops[i]?=some c/\YieldsIf P ops S c v a/\S w/\fH P ops Q S r (a.put c.dst v) w
 | .one i r,a,w=>wpOp P ops Q i (λb w'=>S w'/\fH P ops Q S r b w') a w
 | .fin i r,a,w=>wpOp P ops Q i (fH P ops Q S r) a w
 | .two i d j e,a,w=>wpOp P ops Q i (λb w'=>S w'/\fH P ops Q S d b w') a w/\wpOp P ops Q j (λb w'=>S w'/\fH P ops Q S e b w') a w
 | .three i d j e k f,a,w=>wpOp P ops Q i (λb w'=>S w'/\fH P ops Q S d b w') a w/\wpOp P ops Q j (λb w'=>S w'/\fH P ops Q S e b w') a w/\wpOp P ops Q k (λb w'=>S w'/\fH P ops Q S f b w') a w
def pY (H:Region.noSelect ops=true)(I:∀c a (d:Tmp) v w,Q (.panic c) (a.put (some d) v) w->Q (.panic c) a w) :
  ∀(l:Scr) (b:Nat) (f:Array Bool) (a:Act) (w:World),mM md ops f->mE md ops m l b f=true->fH P ops Q S l a w->uM P md ops Q S m b f a w:=by
 intro l;induction l with
 | done =>
  intro b f a w _ e h;have s:Region.ready md ops f=[]:=by simpa [mE] using e
  cases b with
  | zero=>exact⟨s,h⟩
  | succ n=>exact⟨λ_=>h,λi z=>by rw[s]at z;cases z⟩
 | take i r A =>
  intro b f a w o e h;cases b with
  | zero=>simp[mE]at e
  | succ b =>
   simp only[mE,cA,bne_iff_ne,ne_eq,m9]at e;obtain⟨⟨⟨⟨⟨J,G⟩,D⟩,K⟩,E⟩,t⟩:=e;obtain⟨L,v,z,M,N,h⟩:=h;exact xC z (Region.noSelect_spec H) (λc a w h=>by cases hd:L.dst with|none=>rw[hd]at h;exact h|some d=>rw[hd]at h;exact I c a d _ w h) D K b f a w o (Region.free_spec z J) (by simpa using G) E M N (A b _ _ w (o.set (by simpa using G)) t h)
 | one i r A =>
  intro b f a w o e h;cases b with
  | zero=>simp[mE]at e
  | succ b =>
   simp only[mE,cA,fA]at e;refine⟨λs=>absurd (s.symm.trans e.1) (by simp),λj B=>?_⟩;rw[e.1]at B;obtain rfl:j=i:=by simpa using B
   exact wpOp_mono (λp w' g=>⟨λ_=>g.1,A b _ p w' (o.set (by rw[e.1];simp)) e.2 g.2⟩) h
 | fin i r A =>
  intro b f a w o e h;cases b with
  | zero=>simp[mE]at e
  | succ b =>
   simp only[mE,cA,fA]at e;refine⟨λs=>absurd (s.symm.trans e.1.1) (by simp),λj B=>?_⟩;rw[e.1.1]at B;obtain rfl:j=i:=by simpa using B
   exact wpOp_mono (λp w' g=>⟨λs=>absurd (s.symm.trans e.1.2) (by simp),A b _ p w' (o.set (by rw[e.1.1];simp)) e.2 g⟩) h
 | two i O j R u x =>
  intro b f a w o e h;cases b with
  | zero=>simp[mE]at e
  | succ b =>
   simp only[mE,cA,fA]at e;refine⟨λs=>absurd (s.symm.trans e.1.1) (by simp),λk C=>?_⟩;rw[e.1.1]at C;have y:k=i∨k=j:=by simpa using C
   rcases y with rfl|rfl
   .exact wpOp_mono (λp w' g=>⟨λ_=>g.1,u b _ p w' (o.set (by rw[e.1.1];simp)) e.1.2 g.2⟩) h.1
   exact wpOp_mono (λp w' g=>⟨λ_=>g.1,x b _ p w' (o.set (by rw[e.1.1];simp)) e.2 g.2⟩) h.2
 | three i O j R q T u x F =>
  intro b f a w o e h;cases b with
  | zero=>simp[mE]at e
  | succ b =>
   simp only[mE,cA,fA]at e;refine⟨λs=>absurd (s.symm.trans e.1.1.1) (by simp),λk C=>?_⟩;rw[e.1.1.1]at C;have y:k=i∨k=j∨k=q:=by simpa using C
   rcases y with rfl|rfl|rfl
   .exact wpOp_mono (λp w' g=>⟨λ_=>g.1,u b _ p w' (o.set (by rw[e.1.1.1];simp)) e.1.1.2 g.2⟩) h.1
   .exact wpOp_mono (λp w' g=>⟨λ_=>g.1,x b _ p w' (o.set (by rw[e.1.1.1];simp)) e.1.2 g.2⟩) h.2.1
   exact wpOp_mono (λp w' g=>⟨λ_=>g.1,F b _ p w' (o.set (by rw[e.1.1.1];simp)) e.2 g.2⟩) h.2.2
def aN {e:Nat} (m:Nat) (l:Scr) (S:World->Prop) {a:Act} {w:World} (f:P.follows .mixedOrders=true) (g:Region.noSelect ops=true) (b:mE .any ops m l ops.size (Array.replicate ops.size false)=true)
  (i:∀c a (d:Tmp) v w,Q (.panic c) (a.put (some d) v) w->Q (.panic c) a w) (j:S w.drew) (h:S w.drew->fH P ops Q S l a w.drew):(Code.region e ops true).wp P Q a w :=
 wp_region_any f (oS _ _ _ _ (pY (m:=m) g i l _ _ _ _ (mM.start _) b (h j)))
def aM {i:Nat} {r:Scr} {a:Act} {w:World} {o:Oper} {v:Value} (b:nth ops.toList i=some o) (c:Region.wanted o (yielded ops a.tmps)=true) (d:S w)
  (e:∀w',S w'->(execOp a.eval o).run P w'=.ok (.value v) w') (h:fH P ops Q S r (a.put o.dst v) w):fH P ops Q S (.take i r) a w :=
 ⟨o,v,kF b,.inl ⟨c,e⟩,d,h⟩
def sE {i:Nat} {r:Scr} {a:Act} {w:World} {o:Oper} (d:nth ops.toList i=some o)
  (h:∀b:Act->World->Prop,Shut (∀a w,S w->(S w->fH P ops Q S r a w)->b a w)->if Region.wanted o (yielded ops a.tmps)=true then Oper.wp P o a w b Q else b (a.put o.dst undef) w):wpOp P ops Q i (λe w'=>S w'/\fH P ops Q S r e w') a w :=
 wpOp_step (kF d) λb hK=>h b λa w c f=>hK a w ⟨c,f c⟩
def bK {i:Nat} {r:Scr} {a:Act} {w:World} {o:Oper} (c:nth ops.toList i=some o)
  (h:∀b:Act->World->Prop,Shut (∀a w,S w->(S w->fH P ops Q S r a w)->b a w)->if Region.wanted o (yielded ops a.tmps)=true then Oper.wp P o a w b Q else b (a.put o.dst undef) w):fH P ops Q S (.one i r) a w:=sE c h
def mN {i j:Nat} {g h:Scr} {a:Act} {w:World} {c d:Oper} (e:nth ops.toList i=some c) (f:nth ops.toList j=some d)
  (k:∀b:Act->World->Prop,Shut (∀a w,S w->(S w->fH P ops Q S g a w)->b a w)->if Region.wanted c (yielded ops a.tmps)=true then Oper.wp P c a w b Q else b (a.put c.dst undef) w)
  (l:∀b:Act->World->Prop,Shut (∀a w,S w->(S w->fH P ops Q S h a w)->b a w)->if Region.wanted d (yielded ops a.tmps)=true then Oper.wp P d a w b Q else b (a.put d.dst undef) w):fH P ops Q S (.two i g j h) a w:=⟨sE e k,sE f l⟩
def Wi {i j k:Nat} {l m n:Scr} {a:Act} {w:World} {c d e:Oper} (f:nth ops.toList i=some c) (g:nth ops.toList j=some d) (h:nth ops.toList k=some e)
  (o:∀b:Act->World->Prop,Shut (∀a w,S w->(S w->fH P ops Q S l a w)->b a w)->if Region.wanted c (yielded ops a.tmps)=true then Oper.wp P c a w b Q else b (a.put c.dst undef) w)
  (p:∀b:Act->World->Prop,Shut (∀a w,S w->(S w->fH P ops Q S m a w)->b a w)->if Region.wanted d (yielded ops a.tmps)=true then Oper.wp P d a w b Q else b (a.put d.dst undef) w)
  (q:∀b:Act->World->Prop,Shut (∀a w,S w->(S w->fH P ops Q S n a w)->b a w)->if Region.wanted e (yielded ops a.tmps)=true then Oper.wp P e a w b Q else b (a.put e.dst undef) w):fH P ops Q S (.three i l j m k n) a w:=⟨sE f o,sE g p,sE h q⟩
def cH {i:Nat} {r:Scr} {a:Act} {w:World} {o:Oper} (c:nth ops.toList i=some o)
  (h:∀b:Act->World->Prop,Shut (∀a w,fH P ops Q S r a w->b a w)->if Region.wanted o (yielded ops a.tmps)=true then Oper.wp P o a w b Q else b (a.put o.dst undef) w):fH P ops Q S (.fin i r) a w :=
 wpOp_step (kF c) λb hK=>h b hK
def cE {a:Act}{w:World}(h:Q .normal a w):fH P ops Q S .done a w:=h
end
section
variable {P:Program} {ops:Array Oper} {Q:Exit->Act->World->Prop} {md:Region.Mode} {S:World->Prop} {m:Nat}
def tR {i:Nat} {r:Oper} {v:Value} (I:ops[i]?=some r) (p:∀(j:Nat) (o:Oper) cs b,ops[j]?=some o->o.op≠.select cs b)
  (T:∀c a w,Q (.panic c) (a.put r.dst v) w->Q (.panic c) a w) (s:i≠m) :
  ∀(g:Nat) (d:Array Bool) (a:Act) (w:World),
   (∀j t,ops[j]?=some t->j≠i->d.getD j true=false->(∀e∈t.after,Region.binds md e=true->e.on≠i)->r.apart ops t=true) ->
   i∈Region.ready md ops d->(d.getD m true=false->S w)->YieldsIf P ops (λ_=>True) r v a ->
   uM P md ops Q S m g (d.setIfInBounds i true) (a.put r.dst v) w->uM P md ops Q S m (g+1) d a w:=by
 intro g;induction g with
 | zero =>
  intro d a w _ u J F H;refine⟨λh=>(by rw[h]at u;cases u),λj G=>?_⟩;by_cases f:j=i
  .subst f;exact F.wpOp I trivial ⟨λx=>J (by rw[getD_set_ne true s]at x;exact x),H⟩
  have:=ready_mono G f;rw[H.1]at this;cases this
 | succ g U =>
  intro d a w l u J F H;refine⟨λh=>(by rw[h]at u;cases u),λj G=>?_⟩;by_cases f:j=i
  .subst f;exact F.wpOp I trivial ⟨λx=>J (by rw[getD_set_ne true s]at x;exact x),H⟩
  have y:=H.2 j (ready_mono G f);obtain⟨q,t,z,A⟩:=mem_ready.1 G;have B:∀e∈t.after,Region.binds md e=true->e.on≠i:=λe V W K=>by
   have y:=A e V W;have R:=(mem_ready.1 u).1;rw[K]at y;rcases Nat.lt_or_ge i d.size with L|L
   .simp[L]at R y;rw[R]at y;cases y
   simp[Array.getElem?_eq_none L]at y
  have X:=wpOp_putIf z (l j t z f q B) (λcs b=>p i r cs b I) (λcs b=>p j t cs b z) T F y;have n:∀k ok,ops[k]?=some ok->k≠i->(d.setIfInBounds j true).getD k true=false ->
    (∀e∈ok.after,Region.binds md e=true->e.on≠i)->r.apart ops ok=true:=λk ok Y M C N=>by
   refine l k ok Y M ?_ N;by_cases D:j=k
   .subst D;exact q
   .rw[getD_set_ne true D]at C;exact C
  refine wpOp_mono (λZ w' O=>?_) X;have E:(d.setIfInBounds j true).getD m true=false->S w':=λx=>O.2.1 (by rw[Array.setIfInBounds_comm _ _ (Ne.symm f),getD_set_ne true s];exact x)
  refine⟨E,U (d.setIfInBounds j true) Z w' n (ready_mono u (Ne.symm f)) E O.1 ?_⟩;rw[Array.setIfInBounds_comm _ _ f];exact O.2.2
end
section
variable {P:Program} {ops:Array Oper} {Q:Exit->Act->World->Prop} {S:World->Prop} {m:Nat}
def yY {A:Nat} (m i j f:Nat) (l:Scr) (S:World->Prop) {a:Act} {w:World} {e o:Oper} {v u:Value} (B:P.follows .mixedOrders=true) (p:Region.noSelect ops=true)
  (b:(Region.free .any ops (Array.replicate ops.size false) i&&(Region.ready .any ops (Array.replicate ops.size false)).contains i&&i != m&&Region.free .any ops ((Array.replicate ops.size false).setIfInBounds i true) j&&(Region.ready .any ops ((Array.replicate ops.size false).setIfInBounds i true)).contains j&&j != m)=true) (C:ops.size=f+2)
  (q:mE .any ops m l f (((Array.replicate ops.size false).setIfInBounds i true).setIfInBounds j true)=true)
  (x:∀c a (d:Tmp) v w,Q (.panic c) (a.put (some d) v) w->Q (.panic c) a w)
  (y:nth ops.toList i=some e) (D:Region.wanted e (yielded ops a.tmps)=true) (E:∀w',(execOp a.eval e).run P w'=.ok (.value v) w')
  (g:nth ops.toList j=some o) (r:Region.wanted o (yielded ops (a.put e.dst v).tmps)=true) (s:∀w',(execOp (a.put e.dst v).eval o).run P w'=.ok (.value u) w')
  (t:S w.drew) (h:S w.drew->fH P ops Q S l ((a.put e.dst v).put o.dst u) w.drew):(Code.region A ops true).wp P Q a w:=by
 simp only[cA,bne_iff_ne,ne_eq]at b;obtain⟨⟨⟨⟨⟨F,G⟩,H⟩,k1⟩,I⟩,J⟩:=b;have z:i∈Region.ready .any ops (Array.replicate ops.size false):=by simpa using G
 have k:j∈Region.ready .any ops ((Array.replicate ops.size false).setIfInBounds i true):=by simpa using I
 have n:∀(d:Option Tmp) (v:Value) (c:_) (a:Act) (w:World),Q (.panic c) (a.put d v) w->Q (.panic c) a w:=λd v c a w h=>by cases d with|none=>exact h|some d=>exact x c a d _ w h
 refine wp_region_any B (oS (S:=S) (m:=m) _ _ _ _ ?_);rw[C]at *
 refine tR (kF y) (Region.noSelect_spec p) (n _ _) H (f+1) _ a _ (Region.free_spec (kF y) F) z (λ_=>t) (.inl ⟨D,λw' _=>E w'⟩) ?_;refine tR (kF g) (Region.noSelect_spec p) (n _ _) J f _ _ _ (Region.free_spec (kF g) k1) k (λ_=>t) (.inl ⟨r,λw' _=>s w'⟩) ?_;exact pY (m:=m) p x l _ _ _ _ (((mM.start _).set z).set k) q (h t)
end
structure CY (F:FuncId)(cap:Array Value)(w:World)(p:Int->Bool):Prop where
 enters:∀args w,(callFunc F args).run Tryz.prog w=.ok (.enter F args) w
 calls:∀x,Calls Tryz.prog F (#[.int .i64 x]++cap) w λe w'=>e=.returned (.bool (p x))/\w=w'
def Ey {w:World}{A:OAd}{n c:Nat}{xs:LIn}{F:FuncId}{cap:Array Value}{p:Int->Bool}(h:aY w A n c xs)(hp:CY F cap w p) :
  Calls Tryz.prog 114 #[.slice A n c,.func (.func F) #[] cap] w λe w'=>e=.returned (.int .i64 (dL p xs))/\w=w':=by
 have v:=h.small;have g:=hp.enters;go_enter Tryz.func114,Tryz.ntmps114
 go_wp2
 go_loop [8] (λi=>∃k:Nat,k<=n/\i=k/\Hid (∀j,j<k->∀y,xs[j]?=some y->p y=false)) (λi=>n-(intOf i).toNat)
 case atStart=>exact⟨0,aL _,rfl,λj m=>absurd m (by omega)⟩
 case round =>
  obtain⟨k,z,rfl,a⟩:=hrel;by_cases o:k<n
  rotate_left
  .have r:=aA h.len;go_wp2
   go_ret
   exact⟨a8 (dV (λj m y l=>a.o j (by have:=r.o;omega) y l)).symm,rfl⟩
  obtain⟨b,u,x,rfl,B,s,C⟩:=h.get o;have t:=h.len;have r:=aA t;clear t;by_cases d:p x=true
  .have f:=aA d;clear d;clear h;go_wp2_with (refine(hp.calls x).mono ?_;rintro e w' ⟨rfl,rfl⟩;rw[f.o])
   go_ret
   exact⟨a8 (dU a.o s.o f.o).symm,rfl⟩
  have f:=aA (show p x=false by simpa using d);clear h d;go_wp2_with (refine(hp.calls x).mono ?_;rintro e w' ⟨rfl,rfl⟩;rw[f.o])
  go_round
  case rel =>
   refine⟨k+1,by omega,by go_num,λj m y l=>?_⟩;by_cases q:j=k
   .subst q;have:=s.o;rw[l]at this;injection this with this;rw[this];exact f.o
   exact a.o j (by omega) y l
  simp[intOf];omega
def fL {w:World}{A:OAd}{n c:Nat}{xs:LIn}{F:FuncId}{cap:Array Value}{p:Int->Bool}(h:aY w A n c xs)(hp:CY F cap w p) :
  Calls Tryz.prog 56 #[.slice A n c,.func (.func F) #[] cap] w λe w'=>e=.returned (.bool (xs.any p))/\w=w':=by
 go_enter Tryz.func56,Tryz.ntmps56
 go_wp2_with (refine(Ey h hp).mono ?_;rintro e w' ⟨rfl,rfl⟩)
 go_ret
 exact⟨bB (jV _ _),rfl⟩
def Qk (w:World):CY 197 #[] w VG where
 enters:=λargs w=>by kernel_rfl
 calls:=λx=>by
  go_enter Tryz.func197,Tryz.ntmps197
  go_wp2
  all_goals
   go_ret
   exact⟨bB (by simp[VG];try omega),rfl⟩
def jS {w:World}{A:OAd}{n c:Nat}{xs:LIn}(h:aY w A n c xs) :
  Calls Tryz.prog 179 #[.slice A n c] w λe w'=>e=.returned (.bool (bW xs))/\w=w':=by
 go_enter Tryz.func179,Tryz.ntmps179
 go_wp2_with (refine(fL h (Qk w)).mono ?_;rintro e w' ⟨rfl,rfl⟩)
 go_ret
 exact⟨rfl,rfl⟩
def sZ {w:World}{A:OAd}{n c:Nat}{xs:LIn}(h:aY w A n c xs) :
  Calls Tryz.prog 148 #[.slice A n c] w λe w'=>e=.returned (.bool (bW xs))/\w=w':=by
 have r:=h.small;go_enter Tryz.func148,Tryz.ntmps148
 go_wp2
 go_loop [3,8] (λv i=>∃k:Nat,k<=n/\i=k/\∃b:Bool,v=.bool b/\Hid (b=bW (xs.take k))) (λ_ i=>n-(intOf i).toNat)
 case atStart=>exact⟨0,aL _,rfl,true,rfl,rfl⟩
 case round =>
  obtain⟨k,s,rfl,v,rfl,f⟩:=hrel;by_cases g:k<n
  rotate_left
  .have o:=aA h.len;go_wp2
   go_ret
   refine⟨bB (f.o.trans ?_),rfl⟩;rw[aW (by have:=o.o;omega)]
  obtain⟨b,p,x,rfl,j,m,t⟩:=h.get g;clear h;cases v
  .go_wp2
   go_round
   case rel =>
    refine⟨k+1,by omega,by go_num,false,rfl, ?_⟩;have a:=f.o;show false=bW (xs.take (k+1))
    rw[bX m.o];simp only[bW,List.any_append]at a ⊢;have l:((List.take k xs).any VG)=true:=by simpa using a.symm
    rw[l];rfl
   simp[intOf];omega
  have fin:∀b:Bool,(b=true↔0<=x/\x<=1000000)->b=bW (xs.take (k+1)):=by
   intro b j;have a:=f.o;rw[bX m.o];simp only[bW,List.any_append]at a ⊢;have l:((List.take k xs).any VG)=false:=by simpa using a.symm
   rw[l];cases b
   .simp only[Bool.false_eq_true,false_iff]at j;simp[VG];omega
   simp only[true_iff]at j;simp[VG];omega
  have d:=aA fin;clear fin f;by_cases q:0<=x
  .by_cases a:x<=1000000
   .go_wp2
    go_round
    case rel=>exact⟨k+1,by omega,by go_num,true,by first|rfl|simp,d.o true ⟨λ_=>⟨q,a⟩,λ_=>rfl⟩⟩
    simp[intOf];omega
   go_wp2
   go_round
   case rel=>exact⟨k+1,by omega,by go_num,false,by first|rfl|simp,d.o false ⟨λh=>(by cases h),λh=>(by omega)⟩⟩
   simp[intOf];omega
  go_wp2
  go_round
  case rel=>exact⟨k+1,by omega,by go_num,false,by first|rfl|simp,d.o false ⟨λh=>(by cases h),λh=>(by omega)⟩⟩
  simp[intOf];omega
