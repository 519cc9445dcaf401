/- Texts melted into one: Contracts of shape.Start, HStart, SameInts and of the library's Equal on error numbers. Conditions: the slices read as lists of integers. | Contracts of SameInts, SameCase, of the library's Equal on error numbers, of cases.Right, PRight, cases.Begin and PBegin. Conditions: the -/
import Derived.Test.YtgnljpnlolkalaaGreatBenchTellsK03
import Derived.Test.YtgnljpnlolkalaaGreatBenchTellsK02
import Derived.Lib.SliceRun
import Derived.Lib.LazyBuf
import Derived.Maps.AppendAt
import Derived.Shelf.Sort.Plain
import Derived.Shelf.Slices.In.SortNone
set_option linter.all false
set_option maxRecDepth 100000
set_option maxHeartbeats 4000000
namespace Go.Proofs.YtgnljpnlolkalaaGreat
open Go.RowKit
def aJ.fresh {α:Type}{R:World->(Nat->Value)->α->Prop}{sz:Nat}{w w':World}{e n d c:Nat}{v:Value}{xs:List α}{A:OAd}(h:aJ R sz w' w e v n xs)(b:v=.slice A d c):iR w A:=by
 obtain⟨a,f,_⟩:=h;rcases f.2 with⟨rfl,_⟩|⟨g,cap,i,rfl,j,_⟩
 .cases b;exact iR.none
 cases b;exact iR.at j
def JL (n:Nat)(xs:LIn)(w:World)(e:Ending)(w':World):Prop :=
 ∃C k,e=.returned (.slice C n k)/\aY w' C n k xs/\Below w.heap.size w w'/\iR w C
def QB (w:World)(P i:Int)(v:P<=16) :
  Calls Tryz.prog 83 #[P,i] w (JL P.toNat (lX P.toNat i) w):=by
 obtain⟨n,o⟩:∃n:Nat,P.toNat=n:=⟨_,rfl⟩;have e:max P 0=(n:Int):=by omega
 have p:n<=16:=by omega
 rw[o];clear o;go_enter Tryz.func83,Tryz.ntmps83
 by_cases h:0<=i/\i<(n:Int)
 .obtain⟨k,rfl⟩:∃k:Nat,i=(k:Int):=⟨i.toNat,by omega⟩;have r:k<n:=by omega
  have s:(k:Int)<(n:Int):=by omega
  have t:(0:Int)<=(k:Int):=by omega
  clear h;go_wp2_with (at_make;refine jH Tryz.underlying24 iP rfl rfl _ _ rfl n rfl rfl (by first|rfl|exact e) (by first|rfl|exact e) (by omega) (by omega) (aH _ _) (aB _) ?_;intro w1 a f b;have l:w1.cell? ⟨w.heap.size,k,none⟩=some (.int .i64 0):=(by rw[a.cellAt k (by omega)];simp[r]);have u:w1.frozen? ⟨w.heap.size,k,none⟩=false:=a.frozenAt k)
  have m:=aA (a.stored k (.int .i64 1)).1;go_ret
  have c:=m.o;rw[show(List.replicate n (Value.int .i64 0)).set k (.int .i64 1)=(lX n (k:Int)).map (Value.int .i64) by rw[<-Ue,List.map_set,fE]]at c;obtain⟨C,g,d,j⟩:=aY.of_own c (by omega);exact⟨C,g,by rw[<-d];rfl,j,b.setCell (aB _) _,by cases d;exact iR.at (aB _)⟩
 .have q:=aA (Uf n i h);by_cases x:0<=i
  .have y:(n:Int)<=i:=by omega
   clear h;go_wp2_with (at_make;refine jH Tryz.underlying24 iP rfl rfl _ _ rfl n rfl rfl (by first|rfl|exact e) (by first|rfl|exact e) (by omega) (by omega) (aH _ _) (aB _) ?_;intro w1 a f b)
   go_ret
   have c:=a;rw[show List.replicate n (Value.int .i64 0)=(lX n i).map (Value.int .i64) by rw[<-q.o,fE]]at c;obtain⟨C,g,d,j⟩:=aY.of_own c (by omega);exact⟨C,g,by rw[<-d];rfl,j,b,by cases d;exact iR.at (aB _)⟩
  clear h;go_wp2_with (at_make;refine jH Tryz.underlying24 iP rfl rfl _ _ rfl n rfl rfl (by first|rfl|exact e) (by first|rfl|exact e) (by omega) (by omega) (aH _ _) (aB _) ?_;intro w1 a f b)
  go_ret
  have c:=a;rw[show List.replicate n (Value.int .i64 0)=(lX n i).map (Value.int .i64) by rw[<-q.o,fE]]at c;obtain⟨C,g,d,j⟩:=aY.of_own c (by omega);exact⟨C,g,by rw[<-d];rfl,j,b,by cases d;exact iR.at (aB _)⟩
def kP (w:World)(P i:Int)(A:OAd)(n c:Nat) :
  Calls Tryz.prog 32 #[.agg #[P,.slice A n c],i] w (JL (min P 16).toNat (lX (min P 16).toNat i) w):=by
 have h:=aA (aF w);obtain⟨m,b⟩:∃m:Int,min P 16=m:=⟨_,rfl⟩;have a:m<=16:=by omega
 rw[show(min P 16).toNat=m.toNat by rw[b]];go_enter Tryz.func32,Tryz.ntmps32
 go_wp2_with fail
 refine(QB _ m i a).mono ?_;rintro e w1 ⟨C,k,rfl,d,f,g⟩;clear b;have j:=aA d;have l:=aA (g.mono (show w.heap.size<=_ by simp));have o:=aA ((h.o (.cells #[P,.slice A n c] 41)).trans (f.mono (by simp)));clear d f g;go_wp2
 go_ret
 exact⟨C,k,rfl,j.o,o.o,l.o⟩
def fU (w:World)(P i:Int)(A:OAd)(n c:Nat) :
  Calls Tryz.prog 49 #[.agg #[P,.slice A n c],i] w (JL (min P 16).toNat (lX (min P 16).toNat i) w):=by
 have o:=aA (aF w);obtain⟨m,p⟩:∃m:Int,min P 16=m:=⟨_,rfl⟩;have q:m<=16:=by omega
 rw[show(min P 16).toNat=m.toNat by rw[p]];go_enter Tryz.func49,Tryz.ntmps49
 go_wp2
 go_loopw [5,10] (λv j wr=>∃k:Nat,k<=m.toNat/\j=k/\Hid (aI wr w v k (lX k i))/\Hid (Below w w wr)) (λ_ j _=>m.toNat-(intOf j).toNat)
 case atStart=>exact⟨0,aL _,rfl,aJ.nil,o.o _⟩
 case round =>
  obtain⟨k,y,rfl,own,e⟩:=hrel;by_cases r:(k:Int)<m
  .by_cases a:(k:Int)=i
   .have F:=aA (show lX (k+1) i=lX k i++[1] by rw[Hg,aG a]);subst a;go_wp2_with (at_builtin;refine dX rfl _ _ rfl rfl rfl (by first|rfl|simp) own.o e.o e.o.size (by omega) ?_;intro v2 s b h d)
    go_roundw
    case rel=>exact⟨k+1,by omega,by go_num,by rw[F.o];exact b,d⟩
    simp[intOf];omega
   have F:=aA (show lX (k+1) i=lX k i++[0] by rw[Hg,aD a]);have t:((k:Int)==i)=false:=by simpa using a
   clear a;go_wp2_with (at_builtin;refine dX rfl _ _ rfl rfl rfl (by first|rfl|simp) own.o e.o e.o.size (by omega) ?_;intro v2 s b h d)
   go_roundw
   case rel=>exact⟨k+1,by omega,by go_num,by rw[F.o];exact b,d⟩
   simp[intOf];omega
  have f:k=m.toNat:=by omega
  have g:=aA f;clear f;go_wp2
  go_ret
  obtain⟨C,u,l,x⟩:=own.o.sl (by omega);rw[<-g.o];exact⟨C,u,by rw[<-l];rfl,x,e.o,aJ.fresh own.o l⟩
def Bq {w:World}{A B:OAd}{n c m d:Nat}{xs ys:LIn}(h:aY w A n c xs)(g:aY w B m d ys) :
  Calls Tryz.prog 7 #[.slice A n c,.slice B m d] w λe w'=>e=.returned (.bool (xs==ys))/\Drew w w':=by
 obtain⟨q,a⟩:=aK ((xs==ys));rw[a];have b:=aA a;clear a;go_enter Tryz.func7,Tryz.ntmps7
 go_wp2_with fail
 refine(dD h g).mono ?_;rw[b.o];rintro e w' ⟨rfl,f⟩;go_wp2
 go_ret
 exact⟨rfl,f⟩
def aI.row {w:World}{B:Nat}{v:Value}{n:Nat}{xs:LIn}(h:aI w B v n xs):w.ownsRow B 3 1 v n (xs.map (Value.int .i64)):=by
 obtain⟨c,f,d,g⟩:=h;have e:c=xs.map (Value.int .i64):=by
  apply iE
  intro j;cases hx:xs[j]? with
  | none =>
   rw[dF,hx,dC (by have:=d.1;have:=List.getElem?_eq_none_iff.1 hx;omega)];rfl
  | some x =>
   obtain⟨vs,a,b⟩:=d.2 j x hx;have:=a 0 (by omega);simp only[j8,eP]at this;rw[this,dF,hx,b];rfl
 rw[<-e];exact f
def aI.form {w:World}{B:Nat}{v:Value}{n:Nat}{xs:LIn}(h:aI w B v n xs)(a:0<n):∃g cap,v=.slice (some ⟨g,0,none⟩) n cap/\B<=g/\g<w.heap.size:=h.row.form a
section
variable {w:World} {B g cap n:Nat} {xs:LIn}
def aI.at (h:aI w B (.slice g n cap) n xs){j:Nat}{x:Int}(a:xs[j]?=some x):w.cell? ⟨g,j,none⟩=some (.int .i64 x):=by
 have b:j<n:=by rw[<-h.len];exact(aR.1 a).1
 rw[h.row.cellAt j (by omega),dF,a];rfl
def aI.frozen (h:aI w B (.slice g n cap) n xs)(j:Nat):w.frozen? ⟨g,j,none⟩=false:=h.row.frozenAt j
def aI.put (h:aI w B (.slice g n cap) n xs)(j:Nat)(y:Int):aI (w.setCell ⟨g,j,none⟩ y) B (.slice g n cap) n (xs.set j y):=by
 have:=(h.row.stored j y).1;rw[<-List.map_set]at this;exact aI.of_row this
def aI.ints (h:aI w B (.slice g n cap) n xs)(a:n<=281474976710656):aY w (some ⟨g,0,none⟩) n cap xs:=by
 obtain⟨A,c,b,d⟩:=h.sl a;injection b with e i f;subst e f;exact d
end
structure tV (F:FuncId)(cap:Array Value)(w:World)(xs:LIn)(p:Int->Bool):Prop where
 enters:∀args w,(callFunc F args).run Tryz.prog w=.ok (.enter F args) w
 calls:∀(wr:World) (x:Int),Below w.heap.size w wr->x∈xs->Calls Tryz.prog F (#[.int .i64 x]++cap) wr λe w'=>e=.returned (.bool (p x))/\Below wr.heap.size wr w'
def tV.later {F:FuncId}{cap:Array Value}{w w':World}{xs:LIn}{p:Int->Bool}(h:tV F cap w xs p)(c:Below w w w'):tV F cap w' xs p where
 enters:=h.enters
 calls:=λwr a b=>h.calls wr a (c.trans (b.mono c.size))
def rG {w:World}{A:OAd}{n c:Nat}{xs:LIn}{F:FuncId}{cap:Array Value}{p:Int->Bool}(h:aY w A n c xs)(hp:tV F cap w xs p) :
  Calls Tryz.prog 114 #[.slice A n c,.func (.func F) #[] cap] w λe w'=>e=.returned (.int .i64 (dL p xs))/\Below w w w':=by
 have E:=h.small;have f:=hp.enters;have H:=aA h;have u:=aA hp;have z:=aA h.len;clear h hp;go_enter Tryz.func114,Tryz.ntmps114
 go_wp2
 go_loopw [8] (λi wr=>∃k:Nat,k<=n/\i=k/\Hid (∀j,j<k->∀y,xs[j]?=some y->p y=false)/\Hid (Below w w wr)) (λi _=>n-(intOf i).toNat)
 case atStart=>exact⟨0,aL _,rfl,λj l=>absurd l (by omega),aH _ _⟩
 case round =>
  obtain⟨k,G,rfl,a,D⟩:=hrel;by_cases m:k<n
  rotate_left
  .go_wp2
   go_ret
   exact⟨a8 (dV (λj l y g=>a.o j (by have:=z.o;omega) y g)).symm,D.o⟩
  have B:(k:Int)<(n:Int):=by omega
  obtain⟨b,C,x,rfl,I,o,J⟩:=(H.o.keep D.o).get m;have CL:=aA (u.o.calls wr x D.o (aS o.o));obtain⟨v,q⟩:=aK (p x);have t:=aA q;rw[q]at CL;clear q;cases v
  .go_wp2_with (refine CL.o.mono ?_;rintro e w' ⟨rfl,d⟩;have r:=aA d;clear d)
   go_roundw
   case rel =>
    refine⟨k+1,by omega,by go_num,λj l y g=>?_,D.o.trans (r.o.mono D.o.size)⟩;by_cases s:j=k
    .subst s;have:=o.o;rw[g]at this;injection this with this;rw[this];exact t.o
    exact a.o j (by omega) y g
   simp[intOf];omega
  go_wp2_with (refine CL.o.mono ?_;rintro e w' ⟨rfl,d⟩;have r:=aA d;clear d)
  go_ret
  exact⟨a8 (dU a.o o.o t.o).symm,D.o.trans (r.o.mono D.o.size)⟩
structure Qc {α:Type}(p:α->Bool)(ars L:List α)(i j:Nat):Prop where
 len:L.length=ars.length
 le:i<=j
 kept:L.take i=(ars.take j).filter λa=>!p a
 rest:∀q,j<=q->L[q]?=ars[q]?
section
variable {α:Type} {p:α->Bool} {ars L:List α} {i j:Nat} {a:α}
def Qc.skip (h:Qc p ars L i j)(b:ars[j]?=some a)(hp:p a=true):Qc p ars L i (j+1) where
 len:=h.len
 le:=by have:=h.le;omega
 kept:=by rw[bX b,dP,h.kept];simp[hp]
 rest:=λq c=>h.rest q (by omega)
def Qc.take (h:Qc p ars L i j)(b:ars[j]?=some a)(hp:p a=false):Qc p ars (L.set i a) (i+1) (j+1) where
 len:=by rw[kB];exact h.len
 le:=by have:=h.le;omega
 kept:=by
  have d:=(aR.1 b).1;have e:=h.len;have c:=h.le;rw[bX b,dP,<-h.kept,bX (x:=a) (eQ (by omega)),List.take_set_of_le (aB _)];simp[hp]
 rest:=λq f=>by
  have:=h.le;rw[eG (by omega)];exact h.rest q (by omega)
def zI (p:α->Bool):∀ars:List α,(∀(j:Nat) (y:α),ars[j]?=some y->p y=false)∨∃(k:Nat) (x:α),ars[k]?=some x/\p x=true/\∀(j:Nat),j<k->∀y,ars[j]?=some y->p y=false
 | []=>.inl λj y h=>by simp at h
 | a::l=>by
  cases h:p a
  .rcases zI p l with d|⟨k,x,d,e,f⟩
   .refine .inl λj y b=>?_
    match j,b with
    | 0,b=>simp only[aQ,aZ]at b;rw[<-b];exact h
    | j+1,b=>exact d j y (by simpa using b)
   refine .inr ⟨k+1,x,by simpa using d,e,λj c y b=>?_⟩;match j,c,b with
   | 0,_,b=>simp only[aQ,aZ]at b;rw[<-b];exact h
   | j+1,c,b=>exact f j (by omega) y (by simpa using b)
  exact .inr ⟨0,a,rfl,h,λj c=>absurd c (by omega)⟩
def rH {l:List α}(h:∀(j:Nat) (y:α),l[j]?=some y->p y=false):l.filter (λa=>!p a)=l:=by
 rw[List.filter_eq_self];intro a b;obtain⟨j,c,rfl⟩:=hZ b;rw[h j _ (aV c)];rfl
def Qc.start {k:Nat}{x:α}(b:ars[k]?=some x)(hp:p x=true)(lo:∀(j:Nat),j<k->∀y,ars[j]?=some y->p y=false):Qc p ars ars k (k+1) where
 len:=rfl
 le:=by omega
 kept:=by
  rw[bX b,dP,rH (λj y a=>?_)]
  .simp[hp]
  rw[uH]at a;split at a
  .exact lo j (by assumption) y a
  cases a
 rest:=λq _=>rfl
end
def QC (w0:World)(l:LIn)(e:Ending)(w':World):Prop:=∃A k a,e=.returned (.slice A k a)/\aI w' w0.heap.size (.slice A k a) k l/\Below w0.heap.size w0 w'
def rI {B e g n cap:Nat}:∀(vs:List Value) (o:Nat) (w:World) (a:List Value),w.ownsRow B e 1 (.slice g n cap) n a ->
  ∃b,(w.setCells g o vs).ownsRow B e 1 (.slice g n cap) n b/\b.take o=a.take o
 | [],o,w,a,h=>⟨a,h,rfl⟩
 | v::r,o,w,a,h=>by
  obtain⟨c2,c,d⟩:=rI r (o+1) (w.setCell ⟨g,o,none⟩ v) _ (h.stored o v).1;refine⟨c2,c, ?_⟩;have f:c2.take o=(c2.take (o+1)).take o:=by rw[List.take_take];congr 1;omega
  rw[f,d,List.take_take,Nat.min_eq_left (by omega),List.take_set_of_le (aB _)]
def QD {w:World}{B e n k g cap:Nat}{a:List Value}(h:w.ownsRow B e 1 (.slice g n cap) n a)(o:k<=n):w.ownsRow B e 1 (.slice g k cap) k (a.take k):=by
 obtain⟨p,i⟩:=h;refine⟨by rw[dT];omega, ?_⟩;rcases i with⟨c,_⟩|⟨q,f,d,c,j,l,a1,a2,a3,a4⟩
 .cases c
 injection c with b r m;subst m;injection b with b;injection b with b;subst b;refine .inr ⟨g,cap,d,rfl,j,l,by omega,a2,a3, ?_⟩;rw[<-a4,List.take_take];congr 1
 omega
def aI.anyCell {w:World}{B g n cap:Nat}{xs:LIn}(h:aI w B (.slice g n cap) n xs){j:Nat}(a:j<n):(w.cell? ⟨g,j,none⟩).isSome=true:=by
 rw[h.at (aV (by rw[h.len];exact a))];rfl
def EI {w0 w:World}{g n cap:Nat}{xs:LIn}{F:FuncId}{cv:Array Value}{p:Int->Bool}(own:aI w w0 (.slice g n cap) n xs)(hn:n<=17592186044416)(M:Below w0 w0 w)(hp:tV F cv w0 xs p) :
  Calls Tryz.prog 145 #[.slice g n cap,.func (.func F) #[] cv] w (QC w0 (xs.filter λa=>!p a)):=by
 have t:=hp.enters;have B:=aA hp;have d:=aA M;have m:=aA own;have N:=aA (show xs.length=n from aJ.len own);have O:=aA (show w0.heap.size<=g from(aJ.lt own g rfl).1);clear M own hp;rcases zI p xs with C|⟨k,x,z,f,lo⟩
 .have D:=aA (rH C);have E:=aA (show dL p xs=-1 from dV (λj W y X=>C j y X));clear C;go_enter Tryz.func145,Tryz.ntmps145
  go_wp2_with (refine(rG (aI.ints m.o (by omega)) (B.o.later d.o)).mono ?_;rintro e w1 ⟨rfl,b⟩;rw[E.o];have A:=aA b;clear b)
  go_ret
  rw[D.o];exact⟨_,n,cap,rfl,aJ.keep fG.kept m.o A.o,d.o.trans (A.o.mono d.o.size)⟩
 .have E:=aA (show dL p xs=(k:Int)from dU lo z f);have DI:=aA (Qc.start z f lo);have Y:k<n:=by have:=(aR.1 z).1;have:=N.o;omega
  have G:((k:Int)==-1)=false:=by simp
  clear lo z f;go_enter Tryz.func145,Tryz.ntmps145
  go_wp2_with (refine(rG (aI.ints m.o (by omega)) (B.o.later d.o)).mono ?_;rintro e w1 ⟨rfl,b⟩;rw[E.o];have A:=aA (d.o.trans (b.mono d.o.size));have Z:=aA (aJ.keep fG.kept m.o b);clear b)
  clear m d G;go_loopw [5,6] (λu v wr=>∃i j:Nat,u=i/\v=j/\i<j/\j<=n/\∃L,Hid (aI wr w0 (.slice g n cap) n L)/\Hid (Qc p xs L i j)/\Hid (Below w0 w0 wr)) (λ_ v _=>n-(intOf v).toNat)
  case atStart=>exact⟨k,k+1,rfl,by go_num,by omega,by omega,xs,Z,DI,A⟩
  obtain⟨i,j,rfl,rfl,a0,W,L,c,DL,h⟩:=hrel;by_cases a1:j<n
  .have a2:(j:Int)<(n:Int):=by omega
   have o:(i:Int)<(n:Int):=by omega
   have a3:i<n:=by omega
   have r:j<L.length:=by have:=c.o.len;omega
   obtain⟨a,H⟩:∃a,L[j]?=some a:=⟨_,aV r⟩;have q0:=c.o.at H;have I:=aA (show xs[j]?=some a by rw[<-DL.o.rest j (aB _)];exact H);have CL:=aA (B.o.calls wr a h.o (aS I.o));obtain⟨v,J⟩:=aK (p a);have Q:=aA J;rw[J]at CL;clear J H r;cases v
   .go_wp2_with (refine CL.o.mono ?_;rintro e u1 ⟨rfl,b⟩;have B2:=aA (h.o.trans (b.mono h.o.size));have s:=aA (aJ.keep fG.kept c.o b);obtain⟨v0,y0⟩:=lB.1 (aI.anyCell s.o (j:=i) (by omega));have z0:=aI.frozen s.o i;clear b)
    go_roundw
    case rel=>exact⟨i+1,j+1,by go_num,by go_num,by omega,by omega,L.set i a,aA (aI.put s.o i a),DL.o.take I.o Q.o,aA (B2.o.setCell O.o _)⟩
    simp[intOf];omega
   go_wp2_with (refine CL.o.mono ?_;rintro e u1 ⟨rfl,b⟩;have B2:=aA (h.o.trans (b.mono h.o.size));have s:=aA (aJ.keep fG.kept c.o b);clear b)
   go_roundw
   case rel=>exact⟨i,j+1,rfl,by go_num,by omega,by omega,L,s,DL.o.skip I.o Q.o,B2⟩
   simp[intOf];omega
  obtain rfl:n=j:=by omega
  have K:=aA (λty=>Lib.run_clear_slice (P:=Tryz.prog) wr 24 3 ty (.int .i64 0) Tryz.underlying24 (λw=>by kernel_rfl) rfl rfl g i (n-i) (cap-i) (by omega) (λq hq=>aI.anyCell c.o (by omega)) (λq hq=>aI.frozen c.o _));have AR:=aA (aI.ints c.o (by omega));have R:=AR.o.le;have e1:=K.o;have S:(i:Int)<=(n:Int):=by omega
  have T:(i:Int)<=(cap:Int):=by omega
  have a4:(n:Int)<=(cap:Int):=by omega
  have a5:¬cap=0:=by omega
  have a6:¬cap=i:=by omega
  have o:i<=n:=by omega
  have U:i<=cap:=by omega
  go_wp2
  go_ret
  have D:L.take i=xs.filter λa=>!p a:=by
   have:=DL.o.kept;rwa[aW (l:=xs) (by rw[N.o];exact aB _)]at this
  obtain⟨c2,r1,r2⟩:=rI (List.replicate (n-i) (.int .i64 0)) i wr _ c.o.row;have V:=QD r1 o;rw[r2,<-List.map_take,D]at V;exact⟨_,i,cap,rfl,aI.of_row V,below_setCells O.o _ _ _ h.o⟩
def JM {w0 w:World}{v:Value}{n:Nat}{xs:LIn}{F:FuncId}{cv:Array Value}{p:Int->Bool}(own:aI w w0 v n xs)(o:n<=17592186044416)(f:Below w0 w0 w)(hp:tV F cv w0 xs p) :
  Calls Tryz.prog 145 #[v,.func (.func F) #[] cv] w (QC w0 (xs.filter λa=>!p a)):=by
 obtain⟨b,c,k,h⟩:=own;rcases c.2 with⟨rfl,l⟩|⟨g,cap,q,rfl,u⟩
 .have i:n=0:=by
   first
    | exact l
    |(have:=c.1;simp_all)
  subst i;have r:=dS h;subst r;have d:=hp.enters;have s:=aA hp;have j:=aA f;clear c k h f hp l;go_enter Tryz.func145,Tryz.ntmps145
  go_wp2_with (refine(rG (Sl.nil0:aY w none 0 0 []) (s.o.later j.o)).mono ?_;rintro e w1 ⟨rfl,m⟩;rw[show dL p []=-1 from rfl];have t:=aA m;clear m)
  go_ret
  exact⟨none,0,0,rfl,aJ.nil,j.o.trans (t.o.mono j.o.size)⟩
 .exact EI ⟨b,c,k,h⟩ o f hp
def cZ (B:Nat):World->(Nat->Value)->LIn->Prop:=λw vs xs=>∃n,aI w B (vs 0) n xs/\n<=17592186043904
def cZ.kept (B:Nat):CU (cZ B):=λ_ _ _ _ a ⟨n,h,l⟩=>⟨n,h.keep fG.kept a,l⟩
def cZ.list {B:Nat}{w:World}{vs:Nat->Value}{xs:LIn}(h:cZ B w vs xs):cS w vs xs:=by
 obtain⟨n,o,l⟩:=h;obtain⟨A,c,e,i⟩:=o.sl (by omega);exact⟨A,n,c,e,i,l⟩
def cZ.grown {B B2 size n e:Nat}{w w':World}{v:Value}{a:List Value}(b:w.ownsRow B2 e size v n a)(c:3≠e)(d:w.grownBy w' v.ownBlock){vs:Nat->Value}{xs:LIn}(h:cZ B w vs xs):cZ B w' vs xs:=by
 obtain⟨m,⟨c1,a1,a2,a3⟩,l⟩:=h;exact⟨m,⟨c1,a1.kept d (jC a1 b c),⟨a2.1,a2.2⟩,a3⟩,l⟩
def lO:sT 30 24 1 24:=sT.mk' (z:=.slice none 0 0) Tryz.underlying30 (by kernel_rfl) rfl (by decide)
def uR {B B2 n:Nat}{w:World}{v:Value}{xs:LLi}(h:aJ (cZ B) 1 w B2 24 v n xs):∀w',w.grownBy w' v.ownBlock->∀vs y,cZ B w vs y->cZ B w' vs y:=by
 obtain⟨a,b,_⟩:=h;exact λw' c vs y d=>d.grown b (by decide) c
def cD.list1 {R:World->(Nat->Value)->LIn->Prop}{w:World}{v:Value}{xs:LIn}(h:R w (λ_=>v) xs):cD R 1 w [v] [xs] :=
 cD.one h rfl (λj a=>by cases j with|zero=>rfl|succ j=>omega)
def VI (bs:List Nat):ByteArray:=strOfNums (bs.map λb:Nat=>(b:Int))
def Bts.str {w:World}{A:OAd}{n c:Nat}{bs:List Nat}(h:Bts w A n c bs):(convert 55 9 (.slice A n c)).run Tryz.prog w=.ok (.string (VI bs)) w:=by
 rcases Nat.eq_zero_or_pos n with d|d
 .subst d;have f:=dS h.len;subst f;rcases A with _|⟨b,a,s⟩
  .exact run_convert_bytes_nil w 55 5 Tryz.underlying55 Tryz.underlying5 0 c 9 Tryz.underlying9
  rw[run_convert_bytes_string w 55 9 5 _ 0 c Tryz.underlying55 Tryz.underlying5 Tryz.underlying9,run_bytesToString w _ 0 c [] (by
   have:=run_loadCells_list (P:=Tryz.prog) w ⟨b,a,s⟩ [] (λj v l=>by simp at l);simpa using this)]
  rfl
 obtain⟨b,a,e,_,q⟩:=h.cells d;subst e;refine run_convert_bytes_arg w 55 5 Tryz.underlying55 Tryz.underlying5 b a n c _ (by rw[dQ,h.len]) (λi m=>?_) 9 Tryz.underlying9;obtain⟨r,k,x,e,_,f,g,_⟩:=Bts.get h m;injection e with e;injection e with o p;subst o p;rw[g,cJ,dF,f.o];rfl
def fV {α:Type} {R:World->(Nat->Value)->α->Prop} {t e size c:Nat} (T:sT t e size c) {ops:Array Oper} {rest:List Oper} {o:Oper} {a:Act} {Q:Exit->Act->World->Prop} (q:o.guard=none) (s x:Operand)
  (I:o.op=.call {callee:=.builtin .append,args:=#[s,x],argTypes:=#[t,t]})
  {w0 w:World} {B:Nat} {v:Value} {n m:Nat} {xs:List α} (ys:List α) (d:Array Value) {H:Nat} (J:a.eval s=v) (r:a.eval x=.slice H m m) (K:H=w.heap.size) (A:d.size=m*size) (L:0<m) (one:∀u∈d.toList,u.oneCell'=true)
  (own:aJ R size w B e v n xs) (f:cD R size w d.toList ys) (M:ys.length=m) (N:Below B w0 w) (O:B<=w.heap.size) (P:n+m<=281474976710656) (S:(n+m)*c<=140737488355328)
  (h:∀w',w.grownBy w' v.ownBlock->∀vs y,R w vs y->R w' vs y)
  (hK:∀g cap w',aJ R size w' B e (.slice (some ⟨g,0,none⟩) (n+m) cap) (n+m) (xs++ys)->w.grownBy w' v.ownBlock->Below B w0 w'->(v.ownBlock=some g∨w.heap.size<=g)->wpList Tryz.prog ops Q rest (a.put o.dst (.slice (some ⟨g,0,none⟩) (n+m) cap)) w') :
  wpList Tryz.prog ops Q (o::rest) a (w.alloc (.cells d e)):=by
 subst K;obtain⟨i,z,U,V,W,X,Y⟩:=T.info;obtain⟨l,G,Z,o3⟩:=own;have C:∀k,v.ownBlock=some k->B<=k/\k<w.heap.size:=G.lt;refine wpList_append_lies _ q s x t I B e i z size c T.und U V W X Y T.pos v n l J (G.alloc _) ⟨w,0,none⟩ m m d.toList r (by simpa using A) (λj u hj=>?_) one L (by simp only[maxLen];omega) S (by simp;omega) _ rfl (λg cap w' h6 p h8 h9=>?_)
 .have hz:((⟨w,0,none⟩:Addr).add j)=⟨w.heap.size,j,none⟩:=by unfold Addr.add;split <;> simp_all
  rw[hz];have:(w.alloc (.cells d e)).cell? ⟨w.heap.size,j,none⟩=d[j]?:=cell_of_row _ _ _ _ _ (0,0) (iD w _);rw[this];simpa using hj
 .have D:w.grownBy w' v.ownBlock:=⟨p.os,p.tape,p.output,aT (by simp) p.size,λk E F=>(p.block k (by simp;omega) F).trans (heap_alloc_old w _ E)⟩;refine hK g cap w' ⟨_,h6, ?_,by rw[bL,o3,M]⟩ D (N.grown D O (λk E=>(C k E).1)) (h8.imp id (λe=>by rw[e];simp));have:=Z.append f;exact⟨this.1,λi x r=>by obtain⟨vs,a,b⟩:=this.2 i x r;exact⟨vs,a,h _ D _ _ b⟩⟩
end Go.Proofs.YtgnljpnlolkalaaGreat
namespace Go.Proofs.YtgnljpnlolkalaaGreat
def lkB (lk:Int->Int->Bool)(a b:Int):Bool:=lk a b||lk b a
inductive jB (lk:Int->Int->Bool)(ls:LIn):Int->Int->Prop
 | refl {a:Int} (h:a∈ls):jB lk ls a a
 | step {a b c:Int} (h:jB lk ls a b) (hc:c∈ls) (hl:lkB lk b c=true):jB lk ls a c
section
variable {lk:Int->Int->Bool} {ls:LIn}
def Mc (a b:Int):lkB lk a b=lkB lk b a:=by unfold lkB;exact Bool.or_comm _ _
def jB.right {a b:Int}(h:jB lk ls a b):b∈ls:=by
 cases h with
 | refl h=>exact h
 | step _ c _=>exact c
def jB.trans {a b c:Int}(h:jB lk ls a b)(g:jB lk ls b c):jB lk ls a c:=by
 induction g with
 | refl _=>exact h
 | step _ d e f=>exact .step f d e
def jB.symm {a b:Int}(h:jB lk ls a b):jB lk ls b a:=by
 induction h with
 | refl h=>exact .refl h
 | step h c d e=>exact jB.trans (.step (.refl c) h.right (by rw[Mc];exact d)) e
structure tW (lk:Int->Int->Bool)(ls:LIn)(G:LLi):Prop where
 asc:∀g∈G,g.Pairwise (.< .)
 ne:∀g∈G,g≠[]
 sub:∀g∈G,∀x∈g,x∈ls
 all:∀x∈ls,∃g∈G,x∈g
 cls:∀g∈G,∀x∈g,∀y∈ls,y∈g↔jB lk ls x y
 ord:G.Pairwise (λa b=>∃x y,a.head?=some x/\b.head?=some y/\x<y)
def rJ:∀{xs ys:LIn},xs.Pairwise (.< .)->ys.Pairwise (.< .)->(∀x,x∈xs↔x∈ys)->xs=ys
 | [],[],_,_,_=>rfl
 | [],y::ys,_,_,h=>by have:=(h y).2 (by simp);simp at this
 | x::xs,[],_,_,h=>by have:=(h x).1 (by simp);simp at this
 | x::xs,y::ys,i,j,h=>by
  obtain⟨a,d⟩:=gQ.1 i;obtain⟨b,f⟩:=gQ.1 j;have e:x=y:=by
   rcases a7.1 ((h x).1 (by simp))with e|e
   .exact e
   rcases a7.1 ((h y).2 (by simp))with g|g
   .exact g.symm
   have:=b x e;have:=a y g;omega
  subst e;rw[rJ d f (λz=>⟨λc=>by
   rcases a7.1 ((h z).1 (by simp[c]))with e|e
   .have:=a z c;omega
   .exact e,λc=>by
   rcases a7.1 ((h z).2 (by simp[c]))with e|e
   .have:=b z c;omega
   exact e⟩)]
def Ho:∀{xs ys:LLi},xs.Pairwise (λa b=>∃x y,a.head?=some x/\b.head?=some y/\x<y)->ys.Pairwise (λa b=>∃x y,a.head?=some x/\b.head?=some y/\x<y)->(∀x,x∈xs↔x∈ys)->xs=ys
 | [],[],_,_,_=>rfl
 | [],y::ys,_,_,h=>by have:=(h y).2 (by simp);simp at this
 | x::xs,[],_,_,h=>by have:=(h x).1 (by simp);simp at this
 | x::xs,y::ys,o,p,h=>by
  obtain⟨c,i⟩:=gQ.1 o;obtain⟨d,j⟩:=gQ.1 p;have k:∀{a b:LIn},(∃x y,a.head?=some x/\b.head?=some y/\x<y)->(∃x y,b.head?=some x/\a.head?=some y/\x<y)->False:=λ{a b} h g=>by
   obtain⟨s,t,q,r,u⟩:=h;obtain⟨v,w,l,m,A⟩:=g;rw[q]at m;rw[r]at l;injection m with m;injection l with l;omega
  have e:x=y:=by
   rcases a7.1 ((h x).1 (by simp))with e|e
   .exact e
   rcases a7.1 ((h y).2 (by simp))with n|n
   .exact n.symm
   exact(k (d x e) (c y n)).elim
  subst e;rw[Ho i j (λz=>⟨λf=>by
   rcases a7.1 ((h z).1 (by simp[f]))with e|e
   .subst e;exact(k (c _ f) (c _ f)).elim
   .exact e,λf=>by
   rcases a7.1 ((h z).2 (by simp[f]))with e|e
   .subst e;exact(k (d _ f) (d _ f)).elim
   exact e⟩)]
def tW.incl {G H:LLi}(h:tW lk ls G)(k:tW lk ls H):∀g,g∈G->g∈H:=λg b=>by
 obtain⟨x,f⟩:=List.exists_mem_of_ne_nil g (h.ne g b);have i:=h.sub g b x f;obtain⟨d,a,e⟩:=k.all x i;have:g=d:=rJ (h.asc g b) (k.asc d a) (λy=>⟨λc=>(k.cls d a x e y (h.sub g b y c)).2 ((h.cls g b x f y (h.sub g b y c)).1 c),λc=>(h.cls g b x f y (k.sub d a y c)).2 ((k.cls d a x e y (k.sub d a y c)).1 c)⟩);rw[this];exact a
def tW.uniq {G H:LLi}(h:tW lk ls G)(k:tW lk ls H):G=H:=Ho h.ord k.ord (λg=>⟨h.incl k g,k.incl h g⟩)
structure GrI (lk:Int->Int->Bool)(ls:LIn)(G:LLi)(left:LIn):Prop where
 lasc:left.Pairwise (.< .)
 lsub:∀x∈left,x∈ls
 asc:∀g∈G,g.Pairwise (.< .)
 ne:∀g∈G,g≠[]
 sub:∀g∈G,∀x∈g,x∈ls
 all:∀x∈ls,x∈left∨∃g∈G,x∈g
 clo:∀g∈G,∀x∈g,∀y∈ls,lkB lk x y=true->y∈g
 con:∀g∈G,∀x∈g,∀y∈g,jB lk ls x y
 dis:∀g∈G,∀x∈g,x∉left
 ord:G.Pairwise (λa b=>∃x y,a.head?=some x/\b.head?=some y/\x<y)
 low:∀g∈G,∃x,g.head?=some x/\∀y∈left,x<y
def GrI.start (h:ls.Pairwise (.< .)):GrI lk ls [] ls where
 lasc:=h
 lsub:=λ_ h=>h
 asc:=λg a=>by simp at a
 ne:=λg a=>by simp at a
 sub:=λg a=>by simp at a
 all:=λx b=>.inl b
 clo:=λg a=>by simp at a
 con:=λg a=>by simp at a
 dis:=λg a=>by simp at a
 ord:=.nil
 low:=λg a=>by simp at a
def GrI.fin {G:LLi}(h:GrI lk ls G []):tW lk ls G where
 asc:=h.asc
 ne:=h.ne
 sub:=h.sub
 all:=λx a=>(h.all x a).elim (λh=>by simp at h) id
 cls:=λg d x a y j=>⟨λb=>h.con g d x a y b,λc=>by
  induction c with
  | refl _=>exact a
  | step c e f i=>exact h.clo g d _ (i c.right) _ e f⟩
 ord:=h.ord
structure AbI (lk:Int->Int->Bool)(ls l0 grp left:LIn)(k:Nat):Prop where
 k1:k<=grp.length
 head:grp.head?=l0.head?
 ne:grp≠[]
 mem:∀x,x∈l0↔x∈grp∨x∈left
 dis:∀x∈grp,x∉left
 nd:grp.Nodup
 lasc:left.Pairwise (.< .)
 con:∀x∈grp,∀a,grp.head?=some a->jB lk ls a x
 done:∀i x,i<k->grp[i]?=some x->∀b∈left,lkB lk x b=false
def AbI.start {a:Int}{l:LIn}(hp:(a::l).Pairwise (.< .))(f:a∈ls):AbI lk ls (a::l) [a] l 0 where
 k1:=aL _
 head:=rfl
 ne:=by simp
 mem:=λx=>by simp
 dis:=λx c d=>by
  rw[bJ.1 c]at d;have:=(gQ.1 hp).1 a d;omega
 nd:=by simp
 lasc:=(gQ.1 hp).2
 con:=λx c b e=>by
  rw[bJ.1 c];simp only[List.head?_cons,aZ]at e;rw[<-e];exact .refl f
 done:=λi x g=>by omega
def AbI.next {l grp left:LIn}{k:Nat}{x:Int}(h:AbI lk ls l grp left k)(m:grp[k]?=some x)(r:∀y∈l,y∈ls):AbI lk ls l (grp++left.filter λb=>lkB lk x b) (left.filter λb=>!lkB lk x b) (k+1):=by
 have p:=(aR.1 m).1;have n:=aS m;have q:(grp++left.filter λb=>lkB lk x b).head?=grp.head?:=by
  cases grp with
  | nil=>simp at p
  | cons a g=>rfl
 refine⟨by rw[bL];omega,q.trans h.head,by intro e;exact h.ne (List.append_eq_nil_iff.1 e).1,λy=>?_,λy c=>?_, ?_,h.lasc.filter _,λy c a f=>?_,λi y t c b o=>?_⟩
 .rw[h.mem,cN,bR,bR];cases lkB lk x y <;> simp
 .rw[bR];rintro⟨j,d⟩;rcases cN.1 c with c|c
  .exact h.dis y c j
  rw[(bR.1 c).2]at d;simp at d
 .refine nB.2 ⟨h.nd,(h.lasc.imp (λ{a b} s e=>by omega)).filter _,λa f b o e=>?_⟩;subst e;exact h.dis a f (bR.1 o).1
 .rw[q]at f;rcases cN.1 c with c|c
  .exact h.con y c a f
  obtain⟨j,d⟩:=bR.1 c;exact .step (h.con x n a f) (r y ((h.mem y).2 (.inr j))) d
 obtain⟨j,d⟩:=bR.1 o;by_cases e:i=k
 .subst e;rw[fO p,m]at c;injection c with c;rw[<-c];simpa using d
 rw[fO (by omega)]at c;exact h.done i y (by omega) c b j
def AbI.group {G:LLi}{w grp left c:LIn}(h:AbI lk ls w grp left grp.length)(g:GrI lk ls G w)(hp:c.Perm grp)(F:c.Pairwise (.< .)):GrI lk ls (G++[c]) left:=by
 have mem:∀x,x∈c↔x∈grp:=λx=>hp.mem_iff
 obtain⟨a,C⟩:∃a,grp.head?=some a:=by
  cases e:grp with
  | nil=>exact absurd e h.ne
  | cons a l=>exact⟨a,rfl⟩
 have o:a∈grp:=List.mem_of_mem_head? (by rw[C];rfl);have z:∀y∈w,y≠a->a<y:=λy f H=>by
  have:=h.head.symm.trans C;cases e:w with
  | nil=>rw[e]at this;simp at this
  | cons b l =>
   rw[e]at this f;simp only[List.head?_cons,aZ]at this;subst this;rcases a7.1 f with I|f
   .exact absurd I H
   have:=g.lasc;rw[e]at this;exact(gQ.1 this).1 y f
 have n:∀y∈grp,y∈w:=λy f=>(h.mem y).2 (.inl f)
 have p:∀y∈left,y∈w:=λy f=>(h.mem y).2 (.inr f)
 have j:c.head?=some a:=by
  cases e:c with
  | nil =>
   have:=(mem a).2 o;rw[e]at this;simp at this
  | cons b l =>
   have J:b∈grp:=(mem b).1 (by rw[e];simp);have A:=(mem a).2 o;rw[e]at F A;rcases a7.1 A with I|t
   .rw[I];rfl
   have D:=(gQ.1 F).1 a t;by_cases P:b=a
   .omega
   have:=z b (n b J) P;omega
 have s:∀x∈grp,∀b∈left,lkB lk x b=false:=λx d b J=>by
  obtain⟨i,N,rfl⟩:=hZ d;exact h.done i _ N (aV N) b J
 have new:∀(q:LIn),q∈G++[c]->q∈G∨q=c:=λq k=>by
  rcases cN.1 k with h|h
  .exact .inl h
  exact .inr (bJ.1 h)
 refine⟨h.lasc,λx d=>g.lsub x (p x d),λq k=>?_,λq k=>?_,λq k x d=>?_,λx d=>?_,λq k x d y f E=>?_,λq k x d y f=>?_,λq k x d=>?_, ?_,λq k=>?_⟩
 .rcases new q k with m|rfl
  .exact g.asc q m
  exact F
 .rcases new q k with m|rfl
  .exact g.ne q m
  intro e;rw[e]at j;simp at j
 .rcases new q k with m|rfl
  .exact g.sub q m x d
  exact g.lsub x (n x ((mem x).1 d))
 .rcases g.all x d with m|⟨q,k,K⟩
  .rcases(h.mem x).1 m with t|t
   .exact .inr ⟨c,by simp,(mem x).2 t⟩
   exact .inl t
  exact .inr ⟨q,by simp[k],K⟩
 .rcases new q k with m|rfl
  .exact g.clo q m x d y f E
  have u:=(mem x).1 d;rcases g.all y f with t|⟨O,B,L⟩
  .rcases(h.mem y).1 t with D|D
   .exact(mem y).2 D
   rw[s x u y D]at E;cases E
  have:=g.clo O B y L x (g.lsub x (n x u)) (by rw[Mc];exact E);exact absurd (n x u) (g.dis O B x this)
 .rcases new q k with m|rfl
  .exact g.con q m x d y f
  exact(h.con x ((mem x).1 d) a C).symm.trans (h.con y ((mem y).1 f) a C)
 .rcases new q k with m|rfl
  .exact λM=>g.dis q m x d (p x M)
  exact h.dis x ((mem x).1 d)
 .refine List.pairwise_append.2 ⟨g.ord,by simp,λq k r Q=>?_⟩;rw[bJ.1 Q];obtain⟨x,d,v⟩:=g.low q k;exact⟨x,a,d,j,v a (n a o)⟩
 rcases new q k with m|rfl
 .obtain⟨x,d,v⟩:=g.low q m;exact⟨x,d,λy f=>v y (p y f)⟩
 exact⟨a,j,λy f=>z y (p y f) (λe=>h.dis a o (e▸f))⟩
end
end Go.Proofs.YtgnljpnlolkalaaGreat
namespace Go.Proofs.YtgnljpnlolkalaaGreat
open Go.Shelf
def JO:Go.Shelf.Ren:=⟨λ|189=>160|125=>176|257=>175|128=>194|129=>195|294=>185|295=>186|296=>187|297=>188|298=>189|299=>190|216=>191|300=>192|301=>193|328=>218|329=>219|330=>220|331=>221|332=>222|215=>217|343=>230|n=>n,λ|28=>24|3=>3|46=>205|0=>0|51=>224|53=>244|4=>4|183=>238|182=>237|131=>193|5=>5|9=>9|218=>257|222=>261|228=>267|229=>268|n=>n,λ|n=>n⟩
def Wt:Go.Proofs.Lays.n189 Tryz.prog JO:={
 mixed:=by kernel_rfl
 f125:=Tryz.func176.trans (aO some (by kernel_rfl))
 f128:=Tryz.func194.trans (aO some (by kernel_rfl))
 f129:=Tryz.func195.trans (aO some (by kernel_rfl))
 f189:=Tryz.func160.trans (aO some (by kernel_rfl))
 f215:=Tryz.func217.trans (aO some (by kernel_rfl))
 f216:=Tryz.func191.trans (aO some (by kernel_rfl))
 f257:=Tryz.func175.trans (aO some (by kernel_rfl))
 f294:=Tryz.func185.trans (aO some (by kernel_rfl))
 f295:=Tryz.func186.trans (aO some (by kernel_rfl))
 f296:=Tryz.func187.trans (aO some (by kernel_rfl))
 f297:=Tryz.func188.trans (aO some (by kernel_rfl))
 f298:=Tryz.func189.trans (aO some (by kernel_rfl))
 f299:=Tryz.func190.trans (aO some (by kernel_rfl))
 f300:=Tryz.func192.trans (aO some (by kernel_rfl))
 f301:=Tryz.func193.trans (aO some (by kernel_rfl))
 f328:=Tryz.func218.trans (aO some (by kernel_rfl))
 f329:=Tryz.func219.trans (aO some (by kernel_rfl))
 f330:=Tryz.func220.trans (aO some (by kernel_rfl))
 f331:=Tryz.func221.trans (aO some (by kernel_rfl))
 f332:=Tryz.func222.trans (aO some (by kernel_rfl))
 f343:=Tryz.func230.trans (aO some (by kernel_rfl))
 t0:=Tryz.underlying0
 a0:=Tryz.isAgg0
 z0:=Tryz.sizeOf0
 v0:=Tryz.zeroValue0
 t3:=Tryz.underlying3
 a3:=Tryz.isAgg3
 z3:=Tryz.sizeOf3
 v3:=Tryz.zeroValue3
 t4:=Tryz.underlying4
 a4:=Tryz.isAgg4
 z4:=Tryz.sizeOf4
 v4:=Tryz.zeroValue4
 t5:=Tryz.underlying5
 a5:=Tryz.isAgg5
 z5:=Tryz.sizeOf5
 v5:=Tryz.zeroValue5
 t9:=Tryz.underlying9
 a9:=Tryz.isAgg9
 z9:=Tryz.sizeOf9
 v9:=Tryz.zeroValue9
 t28:=Tryz.underlying24
 a28:=Tryz.isAgg24
 z28:=Tryz.sizeOf24
 v28:=Tryz.zeroValue24
 t46:=Tryz.underlying205
 a46:=Tryz.isAgg205
 z46:=Tryz.sizeOf205
 v46:=Tryz.zeroValue205
 t51:=Tryz.underlying224
 a51:=Tryz.isAgg224
 z51:=Tryz.sizeOf224
 v51:=Tryz.zeroValue224
 t53:=Tryz.underlying244
 a53:=Tryz.isAgg244
 z53:=Tryz.sizeOf244
 v53:=Tryz.zeroValue244
 t131:=Tryz.underlying193
 a131:=Tryz.isAgg193
 z131:=Tryz.sizeOf193
 v131:=Tryz.zeroValue193
 t182:=Tryz.underlying237
 a182:=Tryz.isAgg237
 z182:=Tryz.sizeOf237
 v182:=Tryz.zeroValue237
 t183:=Tryz.underlying238
 a183:=Tryz.isAgg238
 z183:=Tryz.sizeOf238
 v183:=Tryz.zeroValue238
 t218:=Tryz.underlying257
 a218:=Tryz.isAgg257
 z218:=Tryz.sizeOf257
 v218:=Tryz.zeroValue257
 t222:=Tryz.underlying261
 a222:=Tryz.isAgg261
 z222:=Tryz.sizeOf261
 v222:=Tryz.zeroValue261
 t228:=Tryz.underlying267
 a228:=Tryz.isAgg267
 z228:=Tryz.sizeOf267
 v228:=Tryz.zeroValue267
 t229:=Tryz.underlying268
 a229:=Tryz.isAgg268
 z229:=Tryz.sizeOf268
 v229:=Tryz.zeroValue268}
open Go.Sort Go.RowKit in
def slices_Sort_int (blk a cap:Nat)(b:LIn)(w:World)(f:Holds (Value.int .i64) w blk a b.toArray)(c:blk<w.heap.size)(d:b.length<4611686018427387904) :
  Calls Tryz.prog 160 #[.slice (some ⟨blk,a,none⟩) b.length cap] w λe w' =>
   e=.returned (.tuple #[])/\∃n os,w'=grow (putRow (Value.int .i64) (Sort.ahead w n) blk a (b.mergeSort λx y=>decide (x<=y)).toArray) os:=Any.slices_Sort_int Wt blk a cap b w f c d
end Go.Proofs.YtgnljpnlolkalaaGreat
namespace Go.Proofs.YtgnljpnlolkalaaGreat
open Go.RowKit
def Oi (x y:Int):Int:=if x<y then -1 else if y<x then 1 else 0
def QE (x y:Int)(xs ys:LIn):oW (x::xs) (y::ys)=if Oi x y=0 then oW xs ys else Oi x y:=by
 rw[oW,Oi];by_cases a:x<y
 .rw[aG a,aG a,aD (by omega)]
 rw[aD a,aD a];by_cases b:y<x
 .rw[aG b,aG b,aD (by omega)]
 rw[aD b,aD b,aG rfl]
def EJ {xs:LIn}{k:Nat}{x:Int}(h:xs[k]?=some x):xs.drop k=x::xs.drop (k+1):=by
 obtain⟨a,rfl⟩:=aR.1 h;exact List.drop_eq_getElem_cons a
def kQ (w:World)(x:Int):Calls Tryz.prog 217 #[x] w λe w'=>e=.returned (.bool false)/\w=w':=by
 go_enter Tryz.func217,Tryz.ntmps217
 go_wp2
 go_ret
 exact⟨bB (by first|rfl|simp),rfl⟩
def xI (w:World)(x y:Int):Calls Tryz.prog 184 #[x,y] w λe w'=>e=.returned (.int .i64 (Oi x y))/\w=w':=by
 by_cases a:x<y
 .have F:=aA (show Oi x y=-1 by rw[Oi,aG a]);go_enter Tryz.func184,Tryz.ntmps184
  go_wp2_with (first|(refine(kQ _ x).mono ?_;rintro e w' ⟨rfl,rfl⟩)|(refine(kQ _ y).mono ?_;rintro e w' ⟨rfl,rfl⟩))
  go_ret
  exact⟨a8 F.o.symm,rfl⟩
 by_cases b:y<x
 .have F:=aA (show Oi x y=1 by rw[Oi,aD a,aG b]);go_enter Tryz.func184,Tryz.ntmps184
  go_wp2_with (first|(refine(kQ _ x).mono ?_;rintro e w' ⟨rfl,rfl⟩)|(refine(kQ _ y).mono ?_;rintro e w' ⟨rfl,rfl⟩))
  go_ret
  exact⟨a8 F.o.symm,rfl⟩
 have F:=aA (show Oi x y=0 by rw[Oi,aD a,aD b]);go_enter Tryz.func184,Tryz.ntmps184
 go_wp2_with (first|(refine(kQ _ x).mono ?_;rintro e w' ⟨rfl,rfl⟩)|(refine(kQ _ y).mono ?_;rintro e w' ⟨rfl,rfl⟩))
 go_ret
 exact⟨a8 F.o.symm,rfl⟩
def EK {w:World}{A B:OAd}{n c m d:Nat}{xs ys:LIn}(h:aY w A n c xs)(g:aY w B m d ys) :
  Calls Tryz.prog 174 #[.slice A n c,.slice B m d] w λe w'=>e=.returned (.int .i64 (oW xs ys))/\w=w':=by
 have P:=h.small;have Q:=g.small;have D:=aA h.len;have E:=aA g.len;have H:=aA h;have G:=aA g;clear h g;go_enter Tryz.func174,Tryz.ntmps174
 go_wp2
 go_loop [11] (λi=>∃k:Nat,k<=n/\k<=m/\i=k/\Hid (oW xs ys=oW (xs.drop k) (ys.drop k))) (λi=>n-(intOf i).toNat)
 case atStart=>exact⟨0,aL _,aL _,rfl,rfl⟩
 case round =>
  obtain⟨k,R,J,rfl,a⟩:=hrel;by_cases s:k<n
  .have t:(k:Int)<(n:Int):=by omega
   obtain⟨b,K,x,rfl,S,q,T⟩:=H.o.get s;by_cases l:k<m
   .have L:(k:Int)<(m:Int):=by omega
    obtain⟨M,o,y,rfl,u,p,v⟩:=G.o.get l;have F:=aA (show oW xs ys=if Oi x y=0 then oW (xs.drop (k+1)) (ys.drop (k+1))else Oi x y by rw[a.o,EJ q.o,EJ p.o,QE]);obtain⟨z,I⟩:=aK (Oi x y);have r:=aA I;clear a q p I;by_cases f:z=0
    .subst f;have N:=aA (show oW xs ys=oW (xs.drop (k+1)) (ys.drop (k+1)) by rw[F.o,aG r.o]);go_wp2_with (refine(xI _ x y).mono ?_;rintro e w' ⟨rfl,rfl⟩;rw[r.o])
     go_round
     case rel=>exact⟨k+1,by omega,by omega,by go_num,N⟩
     simp[intOf];omega
    have j:=aA (show oW xs ys=z by rw[F.o,r.o,aD f]);have O:(z==0)=false:=by simpa using f
    go_wp2_with (refine(xI _ x y).mono ?_;rintro e w' ⟨rfl,rfl⟩;rw[r.o])
    go_ret
    exact⟨a8 j.o.symm,rfl⟩
   obtain rfl:k=m:=by omega
   have j:=aA (show oW xs ys=1 by rw[a.o,EJ q.o,show ys.drop k=[]from List.drop_eq_nil_of_le (by rw[E.o];exact aB _)];rfl);clear a q;go_wp2
   go_ret
   exact⟨a8 j.o.symm,rfl⟩
  obtain rfl:k=n:=by omega
  by_cases C:k<m
  .have t:(k:Int)<(m:Int):=by omega
   obtain⟨M,o,y,rfl,u,p,v⟩:=G.o.get C;have j:=aA (show oW xs ys=-1 by rw[a.o,show xs.drop k=[]from List.drop_eq_nil_of_le (by rw[D.o];exact aB _),EJ p.o];rfl);clear a p;go_wp2
   go_ret
   exact⟨a8 j.o.symm,rfl⟩
  obtain rfl:k=m:=by omega
  have j:=aA (show oW xs ys=0 by rw[a.o,show xs.drop k=[]from List.drop_eq_nil_of_le (by rw[D.o];exact aB _),show ys.drop k=[]from List.drop_eq_nil_of_le (by rw[E.o];exact aB _)];rfl);clear a;go_wp2
  go_ret
  exact⟨a8 j.o.symm,rfl⟩
def Hq:∀x:LIn,oW x x=0
 | []=>rfl
 | a::x=>by rw[oW,aD (by omega),aD (by omega)];exact Hq x
def Dj:∀x y z:LIn,oW x y<0->oW y z<0->oW x z<0
 | [],[],_,h,_=>by rw[oW]at h;omega
 | [],_::_,[],_,h=>by rw[oW]at h;omega
 | [],_::_,_::_,_,_=>by rw[oW];omega
 | _::_,[],_,h,_=>by rw[oW]at h;omega
 | _::_,_::_,[],_,h=>by rw[oW]at h;omega
 | a::x,b::y,c::z,h,g=>by
  rw[oW]at h g ⊢;have d:=Dj x y z;split at h
  .split at g
   .rw[aG (by omega)];omega
   split at g
   .omega
   rw[aG (by omega)];omega
  split at h
  .omega
  split at g
  .rw[aG (by omega)];omega
  split at g
  .omega
  rw[aD (by omega),aD (by omega)];exact d h g
def zJ:∀x y z:LIn,¬oW x y<0->¬oW y z<0->¬oW x z<0
 | [],[],[],_,_=>by rw[oW];omega
 | [],[],_::_,_,h=>by rw[oW]at h;omega
 | [],_::_,_,h,_=>by rw[oW]at h;omega
 | _::_,[],[],_,_=>by rw[oW];omega
 | _::_,[],_::_,_,h=>by rw[oW]at h;omega
 | _::_,_::_,[],_,_=>by rw[oW];omega
 | a::x,b::y,c::z,h,g=>by
  rw[oW]at h g ⊢;have d:=zJ x y z;split at h
  .omega
  split at h
  .split at g
   .omega
   split at g
   .rw[aD (by omega),aG (by omega)];omega
   rw[aD (by omega),aG (by omega)];omega
  split at g
  .omega
  split at g
  .rw[aD (by omega),aG (by omega)];omega
  rw[aD (by omega),aD (by omega)];exact d h g
section
open Go.Sort
variable {α:Type} [Inhabited α] {enc:α->Value} {w:World}
def Dk (g n:Nat)(d:Array α)(os:Array Obj):w.grownBy (sortWorld enc w g 0 n d os) (some g):=by
 refine⟨rfl,rfl,rfl,by simp[sortWorld],λk b a=>?_⟩;unfold sortWorld;rw[heap_grow_old _ _ (by simpa using b)];have:g≠k:=λe=>a (by rw[e])
 simp[putRow,mapBlock,Sort.ahead,Array.getElem?_modify,this]
def QF {g n:Nat}{os:Array Obj}{a:Array Value}{e:TypeId}{b:Nat×Nat}(d:Array α)(c:w.heap[g]?=some (.cells a e b)) :
  (sortWorld enc w g 0 n d os).heap[g]?=some (.cells (putCells enc 0 d a) e b):=by
 have f:g<w.heap.size:=(f8.1 c).1;unfold sortWorld;rw[heap_grow_old _ _ (by simpa using f)];simp[putRow,mapBlock,Sort.ahead,Array.getElem?_modify,c,onCells]
def QH (a:Array Value)(ts:List α)(h:ts.length<=a.size):(putCells enc 0 ts.toArray a).toList.take ts.length=ts.map enc:=by
 apply iE
 intro j;by_cases b:j<ts.length
 .rw[sB b,nA];simp[putCells,b,show j<a.size by omega]
 rw[List.getElem?_take_eq_none (by omega),dC (by simp;omega)]
def Oj {base g cap n m:Nat} {e:TypeId} {os:Array Obj} {a:Array Value} {ts:List α} (c:ts.length=m) (b:base<=g) (d:w.heap[g]?=some (.cells a e (0,0)))
  (f:m<=cap) (h:cap<=maxLen) (i:a.size=cap*1) :
  (sortWorld enc w g 0 n ts.toArray os).ownsRow base e 1 (.slice g m cap) m (ts.map enc):=by
 subst c;exact⟨by simp,.inr ⟨g,cap,_,rfl,b,QF _ d,f,h,by simp[putCells,i],by rw[j8];exact QH a ts (by omega)⟩⟩
def Md {g:Nat}{a:Array Value}{e:TypeId}{ss:List α}(c:w.heap[g]?=some (.cells a e (0,0)))(f:a.toList.take ss.length=ss.map enc):Holds enc w g 0 ss.toArray:=by
 intro j h;have b:j<ss.length:=by simpa using h
 refine⟨?_,by simp[World.frozen?,c]⟩;have d:(a.toList.take ss.length)[j]?=(ss.map enc)[j]?:=by rw[f]
 rw[sB b]at d;simp only[World.cell?,c,Nat.zero_add];simp only[Option.isSome_none,Bool.false_eq_true,if_false];rw[<-nA,d];simp[b]
end
def YY {α:Type}{P:Nat->α->Prop}:∀(n:Nat),(∀i,i<n->∃x,P i x)->∃l:List α,l.length=n/\∀(i:Nat) (x:α),l[i]?=some x->P i x
 | 0,_=>⟨[],rfl,λi x h=>by simp at h⟩
 | n+1,h=>by
  obtain⟨l,c,hp⟩:=YY n (λi d=>h i (by omega));obtain⟨x,e⟩:=h n (by omega);refine⟨l++[x],by simp[c],λi y a=>?_⟩;by_cases d:i<n
  .rw[fO (by omega)]at a;exact hp i y a
  have b:=(aR.1 a).1;rw[bL,c]at b;simp only[bP,fQ]at b;obtain rfl:i=n:=by omega
  rw[j7 (by omega),c]at a;simp only[jL,aQ,aZ]at a;rw[<-a];exact e
abbrev ZD (w:World)(B:Nat):={x:(OAd×Nat×Nat)×LIn // aI w B (.slice x.1.1 x.1.2.1 x.1.2.2) x.1.2.1 x.2/\x.1.2.1<=17592186043904}
instance {w:World} {B:Nat}:Inhabited (ZD w B):=⟨⟨((none,0,0),[]),aJ.nil,aL _⟩⟩
end Go.Proofs.YtgnljpnlolkalaaGreat
namespace Go.Proofs.YtgnljpnlolkalaaGreat
open Go.RowKit Go.Maps
abbrev XV:={x:Int // okI x}
instance:Inhabited XV:=⟨⟨1,by decide,by decide⟩⟩
def YP (x:XV):Value:=.int .i64 x.1
def Wu (x y:XV):Int:=x.1-y.1
def ZE:Sort.SWO (ltOf Wu) where
 irrefl:=λx=>mA (by unfold Wu;omega)
 trans:=λx y z h g=>mB (by have:=gR h;have:=gR g;unfold Wu at *;omega)
 ntrans:=λx y z h g=>mA (by have:=oH h;have:=oH g;unfold Wu at *;omega)
def Hr (w:World)(x y:Int)(b:okI x)(c:okI y):Calls Tryz.prog 157 #[x,y] w λe w'=>e=.returned (.int .i64 (x-y))/\w=w':=by
 have a:IntKind.i64.wrap (x-y)=x-y:=by unfold okI at *;simp[IntKind.wrap,IntKind.bits,IntKind.signed];omega
 go_enter Tryz.func157,Tryz.ntmps157
 go_wp2
 go_ret
 exact⟨a8 (by first|rfl|exact a),rfl⟩
def EM {w:World}{B n:Nat}{v:Value}{xs:LIn}(h:aI w B v n xs)(o:∀x∈xs,okI x)(U:n<=17592186044416) :
  Calls Tryz.prog 172 #[v,.func (.func 157) #[] #[]] w λe w'=>e=.returned (.tuple #[])/\∃ys,ys.Perm xs/\ys.Pairwise (λa b=>¬b<a)/\aI w' B v n ys/\w.grownBy w' v.ownBlock:=by
 have E:=h.len;have F:=h.row;rcases F.2 with⟨rfl,G⟩|⟨g,cap,H,rfl,I,p,J,K,L,M⟩
 .obtain rfl:n=0:=by simpa using G
  have r:xs=[]:=dS E;subst r;refine(nV (α:=Nat) none 0 _ w).mono ?_;rintro e w' ⟨rfl,rfl⟩;exact⟨rfl,[],.refl _,.nil,h,gU _ _⟩
 .obtain⟨ds,N,O⟩:=YY (α:=XV) (P:=λi x=>xs[i]?=some x.1) n (λi C=>by
   have r:xs[i]?=some (xs[i]'(by omega)):=aV _;exact⟨⟨_,o _ (j5 (by omega))⟩,r⟩)
  have k:xs=ds.map (·.1):=by
   apply iE
   intro i;rw[dF];cases hd:ds[i]? with
   | none =>
    have:ds.length<=i:=by simpa using hd
    rw[dC (by omega)];rfl
   | some x=>rw[O i x hd];rfl
  subst N;have d:xs.map (Value.int .i64)=ds.map YP:=by rw[k,List.map_map];rfl
  have l:CmpLays1 Tryz.prog 157 #[] YP Wu g 0 ds.toArray.size w:=by
   intro m os V Q x y;refine(Hr _ x.1 y.1 x.2 y.2).mono ?_;rintro e w' ⟨rfl,rfl⟩;exact⟨rfl,0,#[],by simp[World.drewN]⟩
  refine(sU (α:=XV) YP (λx=>rfl) Wu ZE 157 #[] g 0 cap ds.toArray w (λargs w=>by kernel_rfl) l (Md p (by rw[<-d];simpa using M)) (f8.1 p).1 (by simp;omega)).mono ?_;rintro e w' ⟨rfl,d',q,os,hp,R,rfl⟩;obtain⟨s,_,c⟩:=hp;have f:d'.size=ds.length:=by simpa using s
  have t:d'.toList.Perm ds:=by
   have S:(d'.extract 0 ds.toArray.size).toList=d'.toList:=by simp[<-f]
   have T:(ds.toArray.extract 0 ds.toArray.size).toList=ds:=by simp
   rw[S,T]at c;exact c
  refine⟨rfl,d'.toList.map (·.1), ?_, ?_, ?_,Dk _ _ _ _⟩
  .rw[k];exact t.map _
  .rw[oI,rA];intro i j C D u;have:=R i j (aL _) u (by simp at D;simp;omega);have z:i<d'.size:=by simpa using C
   have A:j<d'.size:=by simpa using D
   rw[oJ d' i z,oJ d' j A]at this;unfold ltOf Wu at this;have:=oH this;simp only[Array.getElem_toList];omega
  have row:=Oj (enc:=YP) (w:=w) (n:=q) (os:=os) (ts:=d'.toList) (m:=ds.length) (base:=B) (by simp[f]) I p J K L;rw[show d'.toList.toArray=d' from by simp]at row;refine aI.of_row ?_;rw[List.map_map];exact row
def qF {w:World}{b:Nat}{S:LIn}(h:Uj w b S)(hl:S.length<=10000) :
  Calls Tryz.prog 156 #[.map (some b),.func (.func 157) #[] #[]] w λe w'=>∃v n xs,e=.returned v/\aI w' w v n xs/\n<=10000/\(xs.Pairwise (.< .)/\∀x,x∈xs↔x∈S)/\Below w w w':=by
 obtain⟨X,D,m,L,hm,Y,M⟩:=h;have N:=L.lt;have O:=aA X;have Z:=aA M;have SZ:=aA Y;clear X M Y;go_enter Tryz.func156,Tryz.ntmps156
 go_wp2_with (at_range;refine wpList_range_own _ rfl _ 207 rfl 3 _ Qs.law Tryz.underlying207 unitElem b m D rfl L ?_;intro w0 t P a0)
 go_frame
 go_loopw [5] (λu5 wr=>∃(left:Lit->Bool) (f n:Nat) (ss:LIn),wr.ranges Tryz.prog 3 unitElem b w m D left f/\Hid (ss.length+f<=Maps.size D)/\Hid (Qr 3 kkI D left S ss)/\Hid (aI wr w u5 n ss)/\Hid (Below w w wr)) (λ_ wr=>wr.rangeLeft b w)
 case atStart=>exact⟨_,_,0,[],t,by show 0+_<=_;omega,Qr.start D S,aJ.nil,(aH _ _).grown P (aB _) (λj hj=>by cases hj)⟩
 case round =>
  obtain⟨left,f,n,ss,g,p,hC,s,K⟩:=hrel;go_wp2_with (at_next;refine wpList_next_ranges _ rfl _ rfl 3 Qs.law unitElem (λv=>v) (λv=>v) (λkey kl hk=>⟨key,rfl⟩) (λv y Q=>⟨v,rfl⟩) b w m D left f rfl g ?_ ?_)
  .intro a1 u;obtain⟨nd,mem⟩:=hC.o.fin Qs O.o Z.o u;have ND:=aA nd;have ME:=aA mem;have hn:n<=10000:=by have:=p.o;have:=SZ.o;rw[<-s.o.len];omega
   clear nd mem u;go_wp2_with fail
   refine(EM s.o (λx hx=>O.o x ((ME.o x).1 hx)) (by omega)).mono ?_;rintro e w' ⟨rfl,ys,hp,A,own,hg⟩;have OY:=aA own;have BY:=aA (K.o.grown hg K.o.size (λk e=>(s.o.lt k e).1));have FY:=aA (show ys.Pairwise (.< .)/\∀x,x∈ys↔x∈S from⟨(List.Pairwise.and A (hp.nodup_iff.2 ND.o)).imp (λ{a b} ⟨e1,e2⟩=>by omega),λx=>(hp.mem_iff).trans (ME.o x)⟩);clear own hg hp A;go_wp2
   go_ret
   exact⟨_,n,ys,rfl,OY.o,hn,FY.o,BY.o⟩
  intro x c kl yd yp w2 i d B Q C l E q R a2;obtain⟨z,T,U⟩:=(Z.o x kl d).1 (has_true_of_atKey C);subst U;have F:=O.o z T;obtain rfl:x=z:=Qs.law.inj d (Qs.key z F);obtain⟨rfl,_⟩:=unitElem_inv Q;have V:=aA (hC.o.step Qs T F B);have r:=aA (aJ.kept s.o q (by
   have:=row_ne_iter (mC s.o).1 g;exact .inr (λe=>this e.symm)) (λ_ _ h=>h))
  have G:=aA (K.o.grown q K.o.size (λk e=>by cases e;exact aB _));have RG:=aA l;have H:=aA E;have W:=aA g.left_eq;have hn:n<=10000:=by have:=p.o;have:=SZ.o;rw[<-s.o.len];omega
  clear R d B Q C l q g E T;go_wp2_with (at_builtin;refine dX rfl _ _ rfl rfl rfl rfl r.o G.o G.o.size (by omega) ?_;intro v8 w8 o I J;have O8:=aA o;have E8:=aA J;have R8:=aA (RG.o.kept I (row_ne_low (mC r.o).1 N) (row_ne_iter (mC r.o).1 RG.o));clear o I J)
  go_roundw
  case rel=>exact⟨_,i,n+1,ss++[z],R8.o,by have L:=p.o;have M:=H.o;show(ss++[z]).length+i<=_;simp;omega,V,O8,E8⟩
  rw[R8.o.left_eq,W.o];exact H.o
def yN (log:LLi)(a:LIn):(fY log a).length=log.length:=by simp[fY]
def Ol {w:World}{A B:OAd}{n c m d:Nat}{log:LLi}{f:LIn}(h:cQ w A n c log)(g:aY w B m d f)(hn:n<=5864062014805) :
  Calls Tryz.prog 163 #[.slice A n c,.slice B m d] w λe w'=>∃v R,e=.returned v/\aJ (cZ w) 1 w' w 24 v R (fY log f)/\R<=5864062014805/\Below w w w':=by
 have HL:=aA h.len;have H:=aA h;have G:=aA g;clear h g;go_enter Tryz.func163,Tryz.ntmps163
 go_wp2
 go_loopw [5,13] (λu5 v wr=>∃(k o:Nat),k<=n/\v=k/\Hid (aJ (cZ w) 1 wr w 24 u5 o (fY (log.take k) f))/\Hid (Below w w wr)) (λ_ v _=>n-(intOf v).toNat)
 case atStart=>exact⟨0,0,aL _,rfl,aJ.nil,aH _ _⟩
 case round =>
  obtain⟨k,o,hk,rfl,r,D⟩:=hrel;have h5:o<=n:=by rw[<-r.o.len,yN,dT];omega
  by_cases I:k<n
  rotate_left
  .obtain rfl:k=n:=by omega
   have TA:log.take k=log:=aW (by rw[HL.o];exact aB _);rw[TA]at r;go_wp2
   go_ret
   exact⟨_,o,rfl,r.o,by omega,D.o⟩
  have a0:(k:Int)<(n:Int):=by omega
  have a1:o<n:=by rw[<-r.o.len,yN,dT];omega
  obtain⟨b,a2,x,A1,n1,c1,rfl,hb,S,q0,T,a3⟩:=cQ.get (Sl.keep cS.kept H.o D.o) I;have U:=aA T;have TK:=aA (show fY (log.take (k+1)) f=fY (log.take k) f++[x.filter λa=>inS f a] by rw[bX S.o,Dh]);clear T S;go_wp2
  obtain⟨t,J⟩:∃t:World,t=wr:=⟨_,rfl⟩;subst J;go_loopw [8,19] (λu8 v V=>∃(q i:Nat),q<=n1/\v=q/\Hid (aI V t u8 i ((x.take q).filter λa=>inS f a))/\Hid (Below t t V)) (λ_ v _=>n1-(intOf v).toNat)
  case atStart=>exact⟨0,0,aL _,rfl,aJ.nil,aH _ _⟩
  obtain⟨q,i,hq,rfl,p,E⟩:=hrel;have h8:i<=q:=by
   rw[<-p.o.len];refine aT (fC _ _) ?_;rw[dT];omega
  have K:=aA (D.o.trans (E.o.mono D.o.size));by_cases L:q<n1
  .have a4:(q:Int)<(n1:Int):=by omega
   obtain⟨b',W,y,rfl,a5,X,qy⟩:=(U.o.keep E.o).get L;have Y:=aA (show(x.take (q+1)).filter (λa=>inS f a)=if inS f y=true then(x.take q).filter (λa=>inS f a)++[y]else(x.take q).filter (λa=>inS f a) by
    rw[bX X.o,dP];cases h:inS f y <;> simp[h])
   obtain⟨s,M⟩:=aK ((f.any λz=>y==z));have HS:=aA M;have Z:=aA (show inS f y=s from M);clear M X;go_wp2_with fail
   refine(dG y (G.o.keep K.o)).mono ?_;rw[HS.o];rintro e w' ⟨rfl,rfl⟩;cases s
   .have N:=aA (show(x.take (q+1)).filter (λa=>inS f a)=(x.take q).filter (λa=>inS f a) by rw[Y.o,Z.o];rfl);go_wp2
    go_roundw
    case rel=>exact⟨q+1,i,by omega,by go_num,by rw[N.o];exact p,E⟩
    simp[intOf];omega
   have N:=aA (show(x.take (q+1)).filter (λa=>inS f a)=(x.take q).filter (λa=>inS f a)++[y] by rw[Y.o,Z.o];rfl);go_wp2_with (at_builtin;refine dX rfl _ _ rfl rfl rfl rfl p.o E.o E.o.size (by omega) ?_;intro v8 w8 j O u;have P:=aA j;have E8:=aA u;clear j O u)
   go_roundw
   case rel=>exact⟨q+1,i+1,by omega,by go_num,by rw[N.o];exact P,E8⟩
   simp[intOf];omega
  obtain rfl:q=n1:=by omega
  have TX:x.take q=x:=aW (by rw[U.o.len];exact aB _);rw[TX]at p;obtain⟨A8,c8,rfl,_⟩:=p.o.sl (by omega);have C:=aA (aJ.keep (cZ.kept _) r.o E.o);have RX:=aA (show cZ w wr (λ_=>.slice A8 i c8) (x.filter λa=>inS f a)from⟨i,p.o.base D.o.size,by omega⟩);have KL:=aA (uR C.o);go_wp2_with (at_builtin;refine dW (v:=u5) lO rfl _ _ rfl [x.filter λa=>inS f a] #[.slice A8 i c8] rfl rfl rfl rfl (by simp[Value.oneCell']) C.o (cD.list1 RX.o) rfl K.o K.o.size (by omega) (by omega) KL.o ?_;intro v9 w9 l Q F;have O9:=aA l;have E9:=aA F;clear l Q F)
  go_roundw
  case rel=>exact⟨k+1,o+1,by omega,by go_num,by rw[TK.o];exact O9,E9⟩
  simp[intOf];omega
def JP {w:World}{bl m d:Nat}{B:OAd}{b xs:LIn}(cl:Box w bl 24 #[.slice B m d])(g:aY w B m d b):tV 146 #[.pointer bl] w xs (λa=>!inS b a) where
 enters:=λargs w=>by kernel_rfl
 calls:=λwr x c i=>by
  have G:=aA (g.keep c);have j:=(cl.keep c).cell 0;simp only[aP,aQ]at j;have k:=aA (show inS b x=b.any λz=>x==z from rfl);obtain⟨s,f⟩:=aK ((b.any λz=>x==z));have h:=aA f;clear g c cl i f;show Calls Tryz.prog 146 #[x,.pointer bl] wr _
  rw[k.o,h.o];go_enter Tryz.func146,Tryz.ntmps146
  go_wp2_with (refine(dG x G.o).mono ?_;rintro e w' ⟨rfl,rfl⟩;rw[h.o])
  go_ret
  exact⟨rfl,aH _ _⟩
def JQ {w:World}{A B:OAd}{n c m d:Nat}{log:LLi}{f:LIn}(h:cQ w A n c log)(g:aY w B m d f)(hn:n<=5864062014805) :
  Calls Tryz.prog 97 #[.slice A n c,.slice B m d] w λe w'=>∃v I,e=.returned v/\aJ (cZ w) 1 w' w 24 v I (fY log f)/\I<=5864062014805/\Below w w w':=by
 have N:=aA h.len;have O:=aA (Box.new w #[.slice B m d] 24);have y:=aA (aF w (.cells #[.slice B m d] 24));have H:=aA h;have G:=aA g;clear h g;go_enter Tryz.func97,Tryz.ntmps97
 go_upto_region 1 with fail
 generalize w.alloc (.cells #[.slice B m d] 24)=w0 at *
 go_wp2
 go_loopw [5,10] (λu5 v wr=>∃(k o:Nat),k<=n/\v=k/\Hid (aJ (cZ w) 1 wr w0 24 u5 o (fY (log.take k) f))/\Hid (Below w0 w0 wr)) (λ_ v _=>n-(intOf v).toNat)
 case atStart=>exact⟨0,0,aL _,rfl,aJ.nil,aH _ _⟩
 case round =>
  obtain⟨k,o,hk,rfl,p,D⟩:=hrel;have h5:o<=n:=by rw[<-p.o.len,yN,dT];omega
  have t:=aA (y.o.trans (D.o.mono y.o.size));by_cases z:k<n
  rotate_left
  .obtain rfl:k=n:=by omega
   have P:log.take k=log:=aW (by rw[N.o];exact aB _);rw[P]at p;go_wp2
   go_ret
   exact⟨_,o,rfl,p.o.base y.o.size,by omega,t.o⟩
  have Q:(k:Int)<(n:Int):=by omega
  have R:o<n:=by rw[<-p.o.len,yN,dT];omega
  obtain⟨b,S,x,A1,n1,c1,rfl,hb,J,q0,C,T⟩:=cQ.get (Sl.keep cS.kept H.o t.o) z;have U:=aA C;have V:=aA C.len;have W:=aA (show fY (log.take (k+1)) f=fY (log.take k) f++[x.filter λa=>!!inS f a] by rw[bX J.o,Dh];simp);have X:=aA (JP (xs:=x) (O.o.keep D.o) (G.o.keep t.o));clear C J;go_wp2_with fail
  refine(eY U.o (by omega)).mono ?_;rintro e w5 ⟨v5,rfl,i,q⟩;have Y:=aA i;have Z:=aA q;clear i q;go_wp2_with fail
  refine(JM Y.o (by omega) Z.o X.o).mono ?_;rintro e w7 ⟨K,u,L,rfl,E,l⟩;have h8:u<=n1:=by
   rw[<-E.len,<-V.o];exact fC _ _
  have M:=aA (D.o.trans (l.mono D.o.size));have r:=aA (aJ.keep (cZ.kept _) p.o l);have RX:=aA (show cZ w w7 (λ_=>.slice K u L) (x.filter λa=>!!inS f a)from⟨u,E.base t.o.size,by omega⟩);have KL:=aA (uR r.o);clear l E;go_wp2_with (at_builtin;refine dW (v:=u5) lO rfl _ _ rfl [x.filter λa=>!!inS f a] #[.slice K u L] rfl rfl rfl rfl (by simp[Value.oneCell']) r.o (cD.list1 RX.o) rfl M.o M.o.size (by omega) (by omega) KL.o ?_;intro v9 w9 j F s;have O9:=aA j;have E9:=aA s;clear j F s)
  go_roundw
  case rel=>exact⟨k+1,o+1,by omega,by go_num,by rw[W.o];exact O9,E9⟩
  simp[intOf];omega
def tH {α:Type}(k:TypeId)(ok:α->Prop)(kk:α->Lit)(w:World)(b:Nat)(f:α->Int)(q:Nat):Prop :=
 ∃(D:DataW Unit) (n:Nat),w.ownsMap Tryz.prog k (plainElem Tryz.prog 3) b n D/\n<=q/\∀x,ok x->D.atKey (kk x) (.lit (.int .i64 0))=.lit (.int .i64 (f x))
def Ul (w:World):(zeroValue 3).run Tryz.prog w=.ok (.int .i64 0) w:=by kernel_rfl
section
variable {α:Type} {k:TypeId} {ok:α->Prop} {kv:α->Value} {kk:α->Lit} {w w':World} {b q:Nat} {f:α->Int}
def tH.made (k:TypeId)(ok:α->Prop)(kk:α->Lit)(w:World):tH k ok kk (w.alloc (.map #[] 0)) w (λ_=>0) 0:=⟨.map [],0,World.ownsMap_made _ _ _ _,aB _,λ_ _=>rfl⟩
def tH.of_block (h:tH k ok kk w b f q)(a:w'.heap[b]?=w.heap[b]?):tH k ok kk w' b f q:=by
 obtain⟨D,n,c,d⟩:=h;exact⟨D,n,tU c a,d⟩
def tH.lt (h:tH k ok kk w b f q):b<w.heap.size:=by
 obtain⟨D,n,a,_⟩:=h;exact a.lt
def tH.keep (h:tH k ok kk w b f q)(a:Below w w w'):tH k ok kk w' b f q:=h.of_block (a.block b h.lt)
def tH.beside {row:Option Nat}(h:tH k ok kk w b f q)(c:w.grownBy w' row)(a:some b≠row):tH k ok kk w' b f q:=h.of_block (c.block b h.lt a)
def tH.mono {a:Nat}(h:tH k ok kk w b f q)(c:q<=a):tH k ok kk w b f a:=by
 obtain⟨D,n,d,e,g⟩:=h;exact⟨D,n,d,aT e c,g⟩
def tH.same {a:α->Int}(h:tH k ok kk w b f q)(e:∀x,ok x->a x=f x):tH k ok kk w b a q:=by
 obtain⟨D,n,d,g,i⟩:=h;exact⟨D,n,d,g,λx c=>by rw[e x c];exact i x c⟩
def tH.look (K:Wq k ok kv kk){t:TypeId}(g:Tryz.prog.underlying t=some (.map k 3))(h:tH k ok kk w b f q){x:α}(e:ok x):(Instr.lookup t (.map (some b)) (kv x) false).run Tryz.prog w=.ok (.int .i64 (f x)) w:=by
 obtain⟨D,n,i,l,j⟩:=h;obtain⟨c,d,a,_⟩:=i.lookup_int K.law g Tryz.underlying3 (Ul w) (K.key x e);rw[j x e]at a;simp only[DataW.lit.injEq,Lit.int.injEq,true_and]at a;rw[d,<-a]
def tH.update [DecidableEq α] (K:Wq k ok kv kk){t:TypeId}(g:Tryz.prog.underlying t=some (.map k 3))(h:tH k ok kk w b f q){x:α}(c:ok x)(y:Int)(i:(Lit.int .i64 y).wf=true)(r:q<maxLen) :
  ∃w',(Instr.mapUpdate t (.map (some b)) (kv x) y).run Tryz.prog w=.ok () w'/\tH k ok kk w' b (λz=>if z=x then y else f z) (q+1)/\w.grownBy w' (some b):=by
 obtain⟨D,n,d,s,j⟩:=h;obtain⟨w',l,m,o⟩:=d.update K.law g (by omega) (K.key x c) (plainElem_int Tryz.underlying3 i);refine⟨w',l,⟨_,n+1,m,by omega,λz a=>?_⟩,o⟩;by_cases e:z=x
 .subst e;rw[Maps.atKey_put_same (d.tidy K.law).isMap (K.law.key (K.key z a))];simp
 .rw[Maps.atKey_put_other (λp=>e (K.back z x a c p)),j z a];simp[e]
end
abbrev VJ (w:World)(b:Nat)(f:Int×Int->Int)(q:Nat):Prop:=tH 165 okP kkP w b f q
abbrev TY (w:World)(b:Nat)(f:Int->Int)(q:Nat):Prop:=tH 3 okI kkI w b f q
def VJ.look {w:World}{b q:Nat}{f:Int×Int->Int}(h:VJ w b f q){x y:Int}(a:okI x)(c:okI y):(Instr.lookup 216 (.map (some b)) (.agg #[x,y]) false).run Tryz.prog w=.ok (.int .i64 (f (x,y))) w:=tH.look Qw Tryz.underlying216 h (x:=(x,y)) ⟨a,c⟩
def VJ.one {w:World}{b q:Nat}{f:Int×Int->Int}(h:VJ w b f q){x y:Int}(a:okI x)(c:okI y)(d:q<maxLen) :
  ∃w',(Instr.mapUpdate 216 (.map (some b)) (.agg #[x,y]) (.int .i64 1)).run Tryz.prog w=.ok () w'/\VJ w' b (λz=>if z=(x,y)then 1 else f z) (q+1)/\w.grownBy w' (some b):=tH.update Qw Tryz.underlying216 h (x:=(x,y)) ⟨a,c⟩ 1 (by decide) d
def TY.look {w:World}{b q:Nat}{f:Int->Int}(h:TY w b f q){x:Int}(a:okI x):(Instr.lookup 160 (.map (some b)) x false).run Tryz.prog w=.ok (.int .i64 (f x)) w:=tH.look Qs Tryz.underlying160 h a
def TY.put {w:World}{b q:Nat}{f:Int->Int}(h:TY w b f q){x:Int}(a:okI x)(y:Int)(c:okI y)(d:q<maxLen) :
  ∃w',(Instr.mapUpdate 160 (.map (some b)) x y).run Tryz.prog w=.ok () w'/\TY w' b (λz=>if z=x then y else f z) (q+1)/\w.grownBy w' (some b):=tH.update Qs Tryz.underlying160 h a y (jM (by unfold okI at c;omega)) d
