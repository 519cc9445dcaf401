/- Texts melted into one: Contracts of package mark and of the references of chapter 1, part two. Conditions: the slices read as lists of integers. | Contracts of AMix, APlus, AMinus. Conditions: the slices read as lists of integers, none of them large. | Contracts of zip, Plus, Minus and their referen -/
import Derived.Test.YtgnljpnlolkalaaGreatBenchTellsK01
import Derived.Lib.AppendZeros
import Derived.Handy
import Derived.Deep.DeepCutAuto
import Derived.Deep.LoopGhost
set_option linter.all false
set_option maxRecDepth 100000
set_option maxHeartbeats 1000000
namespace Go.Proofs.YtgnljpnlolkalaaGreat
open Go.RowKit
def nH {w:World}{A:OAd}{n c:Nat}{xs:LIn}(h:aY w A n c xs)(p:Nat) :
  Calls Tryz.prog 84 #[.slice A n c,p] w λe w'=>e=.returned (.int .i64 (atL xs p))/\w=w':=by
 have i:=h.small;by_cases a:p<n
 .obtain⟨b,d,x,rfl,j,f,k⟩:=h.get a;clear h;go_enter Tryz.func84,Tryz.ntmps84
  go_wp2
  go_ret
  exact⟨a8 (iI f.o).symm,rfl⟩
 .have g:=aA h.len;clear h;go_enter Tryz.func84,Tryz.ntmps84
  go_wp2
  go_ret
  exact⟨a8 (uK (by have:=g.o;omega)).symm,rfl⟩
def kL {w:World}{A:OAd}{n c:Nat}{xs:LIn}(h:aY w A n c xs)(p:Nat) :
  Calls Tryz.prog 112 #[.slice A n c,p] w λe w'=>e=.returned (.int .i64 (atL xs p))/\w=w':=by
 have r:=h.small;go_enter Tryz.func112,Tryz.ntmps112
 go_wp2
 go_loop [5,10] (λv i=>∃k:Nat,k<=n/\i=k/\∃x:Int,v=x/\Hid (x=if p<k then atL xs p else 0)) (λ_ i=>n-(intOf i).toNat)
 case atStart=>exact⟨0,aL _,rfl,0,rfl,by simp[Hid]⟩
 case round =>
  obtain⟨k,s,rfl,v,rfl,g⟩:=hrel;by_cases f:k<n
  .obtain⟨b,l,x,rfl,t,m,u⟩:=h.get f;clear h;by_cases a:k=p
   .subst a;go_wp2
    go_round
    case rel=>exact⟨k+1,by omega,by go_num,x,rfl,by rw[aG (by omega)];exact(iI m.o).symm⟩
    simp[intOf];omega
   have j:((k:Int)==(p:Int))=false:=by simp;omega
   have o:=aA a;clear a;go_wp2
   go_round
   case rel =>
    refine⟨k+1,by omega,by go_num,v,rfl,g.o.trans ?_⟩;have:=o.o;by_cases d:p<k
    .rw[aG d,aG (by omega)]
    rw[aD d,aD (by omega)]
   simp[intOf];omega
  have q:=aA h.len;go_wp2
  go_ret
  refine⟨a8 (g.o.trans ?_),rfl⟩;by_cases d:p<k
  .rw[aG d]
  rw[aD d,uK (by have:=q.o;omega)]
def iQ {w:World}{A B:OAd}{n c m d:Nat}{xs ys:LIn}(h:aY w A n c xs)(g:aY w B m d ys) :
  Calls Tryz.prog 33 #[.slice A n c,.slice B m d] w λe w'=>e=.returned (.bool (eJ xs ys))/\w=w':=by
 have x:=h.small;have y:=g.small;obtain⟨M,l⟩:∃M:Nat,max n m=M:=⟨_,rfl⟩;have q:M<=281474976710656:=by omega
 have b:max (n:Int) (m:Int)=(M:Int):=by omega
 have r:=aA l;clear l;go_enter Tryz.func33,Tryz.ntmps33
 go_wp2
 clear b;go_loop [11] (λi=>∃k:Nat,k<=M/\i=k/\Hid (∀j,j<k->atL ys j<=atL xs j)) (λi=>M-(intOf i).toNat)
 case atStart=>exact⟨0,aL _,rfl,λj o=>absurd o (by omega)⟩
 case round =>
  obtain⟨k,z,rfl,a⟩:=hrel;by_cases s:k<M
  .by_cases t:atL xs k<atL ys k
   .go_wp2_with (first|((with_reducible refine(nH h k).mono ?_);rintro e w' ⟨rfl,rfl⟩)|((with_reducible refine(nH g k).mono ?_);rintro e w' ⟨rfl,rfl⟩))
    go_ret
    exact⟨bB (pW t).symm,rfl⟩
   go_wp2_with (first|((with_reducible refine(nH h k).mono ?_);rintro e w' ⟨rfl,rfl⟩)|((with_reducible refine(nH g k).mono ?_);rintro e w' ⟨rfl,rfl⟩))
   go_round
   case rel =>
    refine⟨k+1,by omega,by go_num,λj o=>?_⟩;by_cases f:j=k
    .subst f;omega
    exact a.o j (by omega)
   simp[intOf];omega
  have u:=aA h.len;have v:=aA g.len;go_wp2
  go_ret
  refine⟨bB ?_,rfl⟩;symm
  rw[pV];intro p hp;exact a.o p (by have:=u.o;have:=v.o;have:=r.o;omega)
def tA (xs:LIn):Prop:=∀p,-1000000000<=atL xs p/\atL xs p<=1000000000
def tA.of_right {xs:LIn}(h:bW xs=true):tA xs:=λp=>by have:=gC h p;omega
def Bi {xs ys:LIn}{t:Int}{k:Nat}(h:k<max xs.length ys.length):(nE xs ys t).take (k+1)=(nE xs ys t).take k++[atL xs k+t*atL ys k]:=bX (yH h)
structure Wj (F:FuncId)(f:Int->Int->Int×Int)(E:Int):Prop where
 enters:∀args w,(callFunc F args).run Tryz.prog w=.ok (.enter F args) w
 calls:∀x y w,0<=x->x<=1000000->0<=y->y<=1000000->Calls Tryz.prog F #[.int .i64 x,.int .i64 y] w λe w'=>e=.returned (.tuple #[.int .i64 (f x y).1,.int .i64 (f x y).2])/\w=w'
 err:∀x y,(f x y).2=0∨(f x y).2=E
 ne:0<E
def iR (w:World)(C:OAd):Prop:=∀a,C=some a->w.heap.size<=a.block
def iR.none {w:World}:iR w none:=λ_ h=>by cases h
def iR.at {w:World}{b c:Nat}{s:Option Nat}(h:w.heap.size<=b):iR w (some ⟨b,c,s⟩):=λa e=>by injection e with e;subst e;exact h
def iR.mono {w w':World}{C:OAd}(h:iR w' C)(b:w.heap.size<=w'.heap.size):iR w C:=λa e=>aT b (h a e)
def GY {w:World}{A B:OAd}{n c m d:Nat}{xs ys:LIn}(h:aY w A n c xs)(g:aY w B m d ys){F:FuncId}{f:Int->Int->Int×Int}{E:Int}(G:Wj F f E)(T:max n m*8<=140737488355328) :
  Calls Tryz.prog 198 #[.slice A n c,.slice B m d,.func (.func F) #[] #[]] w λe w'=>∃C l k,e=.returned (.tuple #[.slice C l k,.int .i64 (LU f E xs ys).2])/\aY w' C l k (LU f E xs ys).1/\Below w w w'/\iR w C:=by
 have hn:=h.small;have Y:=g.small;obtain⟨M,Z⟩:∃M:Nat,max n m=M:=⟨_,rfl⟩;have H:M<=281474976710656:=by omega
 have a0:M*8<=140737488355328:=by omega
 have x:max (n:Int) (m:Int)=(M:Int):=by omega
 have r:max xs.length ys.length=M:=by rw[h.len,g.len,Z]
 have I:=aA r;clear Z T r;cases hx:bW xs
 .have s:=aA hx;have a:=aA (show LU f E xs ys=([],2)from by rw[LU,aD (by rw[hx];simp)]);clear hx x;go_enter Tryz.func198,Tryz.ntmps198
  go_wp2_with ((with_reducible refine(jS h).mono ?_);rintro e w' ⟨rfl,rfl⟩;rw[s.o])
  go_ret2
  exact⟨none,0,0,by rw[a.o];rfl,by rw[a.o];exact Sl.nil0,aH _ _,iR.none⟩
 .cases hy:bW ys
  .have s:=aA hx;have z:=aA hy;have a:=aA (show LU f E xs ys=([],2)from by rw[LU,aD (by rw[hy];simp)]);clear hx hy x;go_enter Tryz.func198,Tryz.ntmps198
   go_wp2_with fail
   refine(jS h).mono ?_;rintro e w' ⟨rfl,rfl⟩;rw[s.o];go_wp2_with fail
   refine(jS g).mono ?_;rintro e w' ⟨rfl,rfl⟩;rw[z.o];go_wp2
   go_ret2
   exact⟨none,0,0,by rw[a.o];rfl,by rw[a.o];exact Sl.nil0,aH _ _,iR.none⟩
  have s:=aA hx;have z:=aA hy;clear hx hy;go_enter Tryz.func198,Tryz.ntmps198
  go_wp2_with fail
  refine(jS h).mono ?_;rintro e w' ⟨rfl,rfl⟩;rw[s.o];go_wp2_with fail
  refine(jS g).mono ?_;rintro e w' ⟨rfl,rfl⟩;rw[z.o];go_wp2_with (at_make;refine jH Tryz.underlying24 iP rfl rfl _ _ rfl M rfl rfl rfl rfl H (by omega) (aH _ _) (aB _) ?_;intro w1 J a2 U)
  clear x;have hg:=w.heap.size;go_loopw [28] (λi wr=>∃k:Nat,k<=M/\i=.int .i64 k/\wr.ownsRow w 3 1 (.slice w M M) M (((Gx f xs ys).take k++List.replicate (M-k) 0).map (Value.int .i64))/\Below w w wr/\Hid (∀j,j<k->(f (atL xs j) (atL ys j)).2=0)) (λi _=>M-(intOf i).toNat)
  case atStart=>exact⟨0,aL _,rfl,by simpa using J,U,λj hj=>absurd hj (by omega)⟩
  obtain⟨k,hk,rfl,own,K,o⟩:=hrel;by_cases L:k<M
  rotate_left
  .obtain rfl:k=M:=by omega
   have t:=aA (show LU f E xs ys=(Gx f xs ys,0)from by rw[LU,aG ⟨s.o,z.o⟩,aG (yW (λp hp=>o.o p (by rw[I.o]at hp;exact hp)))]);have y:=aA (show(Gx f xs ys).take k++List.replicate (k-k) 0=Gx f xs ys from by rw[jL,List.replicate_zero,j9];exact aW (by rw[yU,I.o];exact aB _));have N:=aA own;clear own o;go_wp2
   go_ret2
   have v:=N.o;rw[y.o]at v;obtain⟨C,cc,hv,hi⟩:=aY.of_own v H;injection hv with hC a3 hc;subst hC hc;exact⟨_,_,_,by rw[t.o];rfl,by rw[t.o];exact hi,K,iR.at (aB _)⟩
  have Q:=gC s.o k;have R:=gC z.o k;have h':=h.keep K;have g':=g.keep K;have b:∃u,wr.cell? ⟨w.heap.size,k,none⟩=some u:=by
   have hl:(((Gx f xs ys).take k++List.replicate (M-k) 0).map (Value.int .i64)).length=M:=by simpa using own.1
   exact⟨_,(own.cellAt k (by omega)).trans (aV (by omega))⟩
  obtain⟨u,b⟩:=b;have a4:wr.frozen? ⟨w.heap.size,k,none⟩=false:=own.frozenAt k;have O:=own.stored k (.int .i64 (f (atL xs k) (atL ys k)).1);have V:=aA O;have a1:=G.enters;have P:=G.calls;have HC:=aA P;clear h g O P own;rcases G.err (atL xs k) (atL ys k)with D|D
  rotate_left
  .have S:=aA D;have hE:=G.ne;have W:¬E=0:=by omega
   have a:=aA (show LU f E xs ys=([],E)from by rw[LU,aG ⟨s.o,z.o⟩,yV (p:=k) (by rw[I.o];exact L) (by rw[D];exact W)];rfl);clear D o G;go_wp2_with (first
    |((with_reducible refine(nH h' k).mono ?_);rintro e w' ⟨rfl,rfl⟩)
    |((with_reducible refine(nH g' k).mono ?_);rintro e w' ⟨rfl,rfl⟩)
    |(refine(HC.o _ _ _ Q.1 Q.2 R.1 R.2).mono ?_;rintro e w' ⟨rfl,rfl⟩;rw[S.o]))
   go_ret2
   exact⟨none,0,0,by rw[a.o];rfl,by rw[a.o];exact Sl.nil0,K,iR.none⟩
  have S:=aA D;clear D;go_wp2_with (first
   |((with_reducible refine(nH h' k).mono ?_);rintro e w' ⟨rfl,rfl⟩)
   |((with_reducible refine(nH g' k).mono ?_);rintro e w' ⟨rfl,rfl⟩)
   |(refine(HC.o _ _ _ Q.1 Q.2 R.1 R.2).mono ?_;rintro e w' ⟨rfl,rfl⟩;rw[S.o]))
  go_roundw
  case rel =>
   refine⟨k+1,by omega,by go_num, ?_,K.setCell (aB _) _,λj hj=>?_⟩
   .have:=V.o.1;have e:((((Gx f xs ys).take k++List.replicate (M-k) 0).map (Value.int .i64)).set k (.int .i64 (f (atL xs k) (atL ys k)).1))=(((Gx f xs ys).take (k+1)++List.replicate (M-(k+1)) 0).map (Value.int .i64)):=by
     have hz:(Gx f xs ys).length=M:=by rw[yU,I.o]
     rw[bX (Ud (by rw[I.o];exact L)),<-List.map_set];congr 1
     rw[List.set_append_right _ _ (by simp;omega)];have Y:k-(List.take k (Gx f xs ys)).length=0:=by simp;omega
     rw[Y];obtain⟨q,hq⟩:∃q,M-k=q+1:=⟨M-k-1,by omega⟩;rw[hq,List.replicate_succ,show M-(k+1)=q from by omega];simp
    rw[e]at this;exact this
   by_cases X:j=k
   .subst X;exact S.o
   exact o.o j (by omega)
  simp[intOf];omega
def Ql:Wj 200 Be 4 where
 enters:=λargs w=>by kernel_rfl
 calls:=λx y w b c d e=>by
  by_cases a:1000000<x+y
  .go_enter Tryz.func200,Tryz.ntmps200
   go_wp2
   go_ret2
   exact⟨by unfold Be;rw[aG a];rfl,rfl⟩
  go_enter Tryz.func200,Tryz.ntmps200
  go_wp2
  go_ret2
  exact⟨by unfold Be;rw[aD (by omega)];rfl,rfl⟩
 err:=λx y=>by unfold Be;split <;> simp
 ne:=by decide
def Oe:Wj 199 sY 3 where
 enters:=λargs w=>by kernel_rfl
 calls:=λx y w b c d e=>by
  by_cases a:x<y
  .go_enter Tryz.func199,Tryz.ntmps199
   go_wp2
   go_ret2
   exact⟨by unfold sY;rw[aG a];rfl,rfl⟩
  go_enter Tryz.func199,Tryz.ntmps199
  go_wp2
  go_ret2
  exact⟨by unfold sY;rw[aD (by omega)];rfl,rfl⟩
 err:=λx y=>by unfold sY;split <;> simp
 ne:=by decide
def Wl (p:LIn×Int)(w:World)(e:Ending)(w':World):Prop :=
 ∃C l k,e=.returned (.tuple #[.slice C l k,.int .i64 p.2])/\aY w' C l k p.1/\Below w.heap.size w w'
def xE (p:LIn×Int)(w:World)(e:Ending)(w':World):Prop :=
 ∃C l k,e=.returned (.tuple #[.slice C l k,.int .i64 p.2])/\aY w' C l k p.1/\Below w.heap.size w w'/\iR w C
def xE.ie {p:LIn×Int}{w w':World}{e:Ending}:xE p w e w'->Wl p w e w':=λ⟨C,l,k,a,b,c,_⟩=>⟨C,l,k,a,b,c⟩
def JC {w:World}{A B:OAd}{n c m d:Nat}{xs ys:LIn}(h:aY w A n c xs)(g:aY w B m d ys)(a:max n m*8<=140737488355328) :
  Calls Tryz.prog 181 #[.slice A n c,.slice B m d] w (xE (Qg xs ys) w):=by
 go_enter Tryz.func181,Tryz.ntmps181
 go_wp2_with fail
 refine(GY h g Ql a).mono ?_;rintro e w' ⟨C,l,k,rfl,b,i,f⟩;have j:=aA f;clear f;go_wp2
 go_ret2
 rw[GF]at b;exact⟨C,l,k,by rw[<-GF];rfl,b,i,j.o⟩
def Ha {w:World}{A B:OAd}{n c m d:Nat}{xs ys:LIn}(h:aY w A n c xs)(g:aY w B m d ys)(a:max n m*8<=140737488355328) :
  Calls Tryz.prog 180 #[.slice A n c,.slice B m d] w (xE (Cj xs ys) w):=by
 go_enter Tryz.func180,Tryz.ntmps180
 go_wp2_with fail
 refine(GY h g Oe a).mono ?_;rintro e w' ⟨C,l,k,rfl,b,i,f⟩;have j:=aA f;clear f;go_wp2
 go_ret2
 rw[Cm]at b;exact⟨C,l,k,by rw[<-Cm];rfl,b,i,j.o⟩
def JD {w:World}{A B:OAd}{n c m d:Nat}{xs ys:LIn}(h:aY w A n c xs)(g:aY w B m d ys)(a:max n m*8<=140737488355328) :
  Calls Tryz.prog 180 #[.slice A n c,.slice B m d] w (Wl (Cj xs ys) w):=(Ha h g a).mono λ_ _=>xE.ie
def Drew (w w':World):Prop:=∃k,w'=w.drewN k
def Drew.below {w w':World}(h:Drew w w'):Below w w w':=by
 obtain⟨k,rfl⟩:=h;exact⟨rfl,rfl,rfl,aB _,λ_ _=>rfl⟩
def Drew.refl (w:World):Drew w w:=⟨0,rfl⟩
def Drew.more {w w':World}(h:Drew w w')(k:Nat):Drew w (w'.drewN k):=by
 obtain⟨q,rfl⟩:=h;exact⟨q+k,World.drewN_drewN _ _ _⟩
def Drew.drewN (w:World)(k:Nat):Drew w (w.drewN k):=⟨k,rfl⟩
def rE {P:Program}{f:FuncId}{args:Array Value}{w:World}{n:Nat}{v:Value}(h:Calls P f args (w.drewN n) λe w'=>e=.returned v/\w.drewN n=w') :
  Calls P f args (w.drewN n) λe a=>e=.returned v/\∃m,a=w.drewN m :=
 h.mono λ_ _ b=>⟨b.1,n,b.2.symm⟩
def dD {w:World}{A B:OAd}{n c m d:Nat}{xs ys:LIn}(h:aY w A n c xs)(g:aY w B m d ys) :
  Calls Tryz.prog 20 #[.slice A n c,.slice B m d] w λe w'=>e=.returned (.bool (xs==ys))/\Drew w w':=by
 have I:=h.small;have J:=g.small;have v:=aA h.len;have z:=aA g.len;by_cases l:n=m
 .subst l;go_enter Tryz.func20,Tryz.ntmps20
  go_wp2
  go_loopw [13] (λi wr=>∃k:Nat,k<=n/\i=k/\Hid (∀j,j<k->xs[j]?=ys[j]?)/\∃q,wr=w.drewN q) (λi _=>n-(intOf i).toNat)
  case atStart=>exact⟨0,aL _,rfl,λj p=>absurd p (by omega),0,rfl⟩
  obtain⟨k,K,rfl,f,q,rfl⟩:=hrel;by_cases o:k<n
  rotate_left
  .clear h g;go_wp2
   go_ret
   refine⟨bB ?_,_,rfl⟩;symm
   rw[fA];apply iE
   intro j;by_cases p:j<k
   .exact f.o j p
   rw[dC (by have:=v.o;omega),dC (by have:=z.o;omega)]
  obtain⟨b,F,x,rfl,L,C,M⟩:=h.get o;obtain⟨N,D,y,rfl,G,E,H⟩:=g.get o;clear h g;have O:(k:Int)<(n:Int):=by omega
  by_cases a:x=y
  .subst a;go_wp2
   go_quiet (fail)
   go_wp2
   go_roundw
   case rel =>
    refine⟨k+1,by omega,by go_num,λj p=>?_,_,rfl⟩;by_cases s:j=k
    .subst s;rw[C.o,E.o]
    exact f.o j (by omega)
   simp[intOf];omega
  have t:(x != y)=true:=by simpa using a
  have u:=aA a;clear a;go_wp2
  go_quiet (fail)
  go_wp2
  go_ret
  refine⟨bB ?_,_,World.drewN_drewN _ _ _⟩;symm
  rw[beq_eq_false_iff_ne];intro e;have r:=C.o;rw[e,E.o]at r;injection r with r;exact u.o r.symm
 .clear h g;have t:((n:Int) !=(m:Int))=true:=by simp;omega
  have u:=aA l;clear l;go_enter Tryz.func20,Tryz.ntmps20
  go_wp2
  go_ret
  refine⟨bB ?_,0,rfl⟩;symm
  rw[beq_eq_false_iff_ne];intro e;have:=v.o;have:=z.o;exact u.o (by rw[e]at *;omega)
def mO {w:World}{A B:OAd}{n c m d:Nat}{xs ys:LIn}(h:aY w A n c xs)(g:aY w B m d ys) :
  Calls Tryz.prog 50 #[.slice A n c,.slice B m d] w λe w'=>e=.returned (.bool (eJ xs ys))/\Drew w w':=by
 have P:=h.small;have Q:=g.small;have J:=aA h.len;have K:=aA g.len;go_enter Tryz.func50,Tryz.ntmps50
 go_wp2
 go_loopw [9] (λi wr=>∃k:Nat,k<=n/\i=k/\Hid (∀j,j<k->atL ys j<=atL xs j)/\Drew w wr) (λi _=>n-(intOf i).toNat)
 case atStart=>exact⟨0,aL _,rfl,λj t=>absurd t (by omega),Drew.refl _⟩
 case round =>
  obtain⟨k,R,rfl,o,f⟩:=hrel;have v:=h.keep f.below;have y:=aA (g.keep f.below);by_cases q:k<n
  .obtain⟨b,z,x,C,L,D,M⟩:=v.get q;subst C;have N:(k:Int)<(n:Int):=by omega
   have u:=aA (iI D.o);clear v g h;by_cases r:x<atL ys k
   .go_wp2_with fail
    go_quiet ((go_at_call 112;exact rE (kL (y.o.keep (Drew.drewN _ _).below) k)))
    go_wp2
    go_ret
    refine⟨bB (pW (p:=k) ?_).symm,f.more _⟩;rw[u.o];exact r
   go_wp2_with fail
   go_quiet ((go_at_call 112;exact rE (kL (y.o.keep (Drew.drewN _ _).below) k)))
   go_wp2
   go_roundw
   case rel =>
    refine⟨k+1,by omega,by go_num,λj t=>?_,f.more _⟩;by_cases s:j=k
    .subst s;rw[u.o];omega
    exact o.o j (by omega)
   simp[intOf];omega
  clear v y;go_wp2
  obtain rfl:k=n:=by omega
  obtain⟨I,E⟩:∃I:World,I=wr:=⟨_,rfl⟩;subst E;go_loopw [23] (λi wr=>∃k:Nat,k<=m/\i=k/\Hid (∀j,j<k->atL ys j<=atL xs j)/\Drew w wr) (λi _=>m-(intOf i).toNat)
  case atStart=>exact⟨0,aL _,rfl,λj t=>absurd t (by omega),f⟩
  obtain⟨i,O,rfl,l,a⟩:=hrel;have F:=g.keep a.below;have G:=aA (h.keep a.below);by_cases q:i<m
  .obtain⟨b,z,x,C,L,D,M⟩:=F.get q;subst C;have N:(i:Int)<(m:Int):=by omega
   have u:=aA (iI D.o);clear F g h;by_cases r:atL xs i<x
   .go_wp2_with fail
    go_quiet ((go_at_call 112;exact rE (kL (G.o.keep (Drew.drewN _ _).below) i)))
    go_wp2
    go_ret
    refine⟨bB (pW (p:=i) ?_).symm,a.more _⟩;rw[u.o];exact r
   go_wp2_with fail
   go_quiet ((go_at_call 112;exact rE (kL (G.o.keep (Drew.drewN _ _).below) i)))
   go_wp2
   go_roundw
   case rel =>
    refine⟨i+1,by omega,by go_num,λj t=>?_,a.more _⟩;by_cases s:j=i
    .subst s;rw[u.o];omega
    exact l.o j (by omega)
   simp[intOf];omega
  clear F G h g;go_wp2
  go_ret
  refine⟨bB ?_,a⟩;symm
  rw[pV];intro p hp;have:=J.o;have:=K.o;by_cases H:p<k
  .exact o.o p H
  exact l.o p (by omega)
def He (w:World):CY 130 #[] w GH where
 enters:=λargs w=>by kernel_rfl
 calls:=λx=>by
  go_enter Tryz.func130,Tryz.ntmps130
  go_wp2
  all_goals
   go_ret
   exact⟨bB (by simp[GH];try omega),rfl⟩
def lD (w:World)(P:Int)(A:OAd)(n c:Nat)(ts:List bG)(h:eC w A n c ts) :
  Calls Tryz.prog 77 #[.agg #[P,.slice A n c]] w λe w'=>e=.returned (.int .i64 (iJ ⟨P,ts⟩))/\Below w w w':=by
 have hn:=h.small;have x:=aA h.len;have l:∀o,Below w w (w.alloc o):=λo=>(aH _ _).alloc (aB _) _
 have G:=aA l;clear l;by_cases q:P<0∨16<P∨24<n
 .have d:=aA (show iJ ⟨P,ts⟩=2 from jW (Qh (by have:=x.o;simp only[];omega)));clear h;rcases q with q|q|q
  all_goals
   go_enter Tryz.func77,Tryz.ntmps77
   go_wp2
   all_goals
    go_ret
    exact⟨a8 d.o.symm,G.o _⟩
 .have L:0<=P:=by omega
  have M:P<=16:=by omega
  have g3:n<=24:=by omega
  clear q;go_enter Tryz.func77,Tryz.ntmps77
  go_wp2
  go_loopw [23] (λi wr=>∃k:Nat,k<=n/\i=k/\Below (w.heap.size+1) (w.alloc (.cells #[P,.slice A n c] 41)) wr/\Hid (∀(j:Nat) (t:bG),j<k->ts[j]?=some t->kD P t=true)) (λi _=>n-(intOf i).toNat)
  case atStart=>exact⟨0,aL _,rfl,aH _ _,λj t r=>absurd r (by omega)⟩
  obtain⟨k,hk,rfl,m,s⟩:=hrel;have g:Below w w wr:=(G.o _).trans (m.mono (by simp));by_cases y:k<n
  rotate_left
  .have d:=aA (show iJ ⟨P,ts⟩=0 from mL ((bN _).2 ⟨L,M,by have:=x.o;simp only[];omega,Ob.2 (λj t r=>s.o j t (by have:=x.o;have:=(aR.1 r).1;simp only[]at this;omega) r)⟩));have a:=aA g;clear h m g;go_wp2
   go_ret
   exact⟨a8 d.o.symm,a.o⟩
  obtain⟨b,z,t,A1,n1,c1,A2,n2,c2,rfl,N,H,q0,q1,q2,B,C,m1,m2⟩:=eC.get (h.keep g) y;have O:wr.cell? w=some (.int .i64 P):=(m.cell (by simp)).trans (by simp);have Q:wr.cell? ⟨w,1,none⟩=some (.slice (some ⟨b,z,none⟩) n c):=(m.cell (by simp)).trans (by simp);have R:w.heap.size<wr.heap.size:=by have:=m.size;simp at this;omega
  have d:=aA (show kD P t=false->iJ ⟨P,ts⟩=2 from λS=>jW (Bf H.o S));have I:=aA B.len;have J:=aA C.len;have u:∀o,Below wr wr (wr.alloc o):=λo=>(aH _ _).alloc (aB _) _
  have f:=aA u;have a:=aA g;have K:=aA m;have T:=aA B;have U:=aA C;clear h B C u m g;have V:=aA (show(t.label<0∨26<t.label∨¬(n1:Int)=P∨¬(n2:Int)=P)->iJ ⟨P,ts⟩=2 from λp0=>d.o (by
    cases hc:kD P t
    .rfl
    have:=(kK P t).1 hc;have:=I.o;have:=J.o;omega))
  go_wp2_with fail
  all_goals
   first
   |(go_ret;exact⟨a8 (V.o (by omega)).symm,a.o.trans ((f.o _).mono a.o.size)⟩)
   | skip
  have W:(n1:Int)=P:=by assumption
  have X:(n2:Int)=P:=by assumption
  have Y:0<=t.label:=by assumption
  have Z:t.label<=26:=by assumption
  refine(fL (T.o.keep (f.o _)) (He _)).mono ?_;rintro e w' ⟨rfl,rfl⟩;cases a1:t.pre.any GH
  rotate_left
  .have p:=aA (show iJ ⟨P,ts⟩=2 from d.o (by
    cases hc:kD P t
    .rfl
    have:=((kK P t).1 hc).2.2.2.2.1;rw[a1]at this;cases this))
   clear a1;go_wp2
   go_ret
   exact⟨a8 p.o.symm,a.o.trans ((f.o _).mono a.o.size)⟩
  have D:=aA a1;clear a1;go_wp2_with fail
  refine(fL (U.o.keep (f.o _)) (He _)).mono ?_;rintro e w' ⟨rfl,rfl⟩;cases a2:t.post.any GH
  .have E:=aA a2;clear a2;have E1:=aA W;have E2:=aA X;go_wp2
   go_roundw
   case rel =>
    refine⟨k+1,by omega,by go_num, ?_,λj t' r v=>?_⟩
    .exact K.o.trans ((f.o _).mono (by have:=K.o.size;simpa using this))
    by_cases F:j=k
    .subst F;have:=H.o;rw[v]at this;injection this with this;subst this;rw[kK];exact⟨Y,Z,by rw[I.o];exact E1.o,by rw[J.o];exact E2.o,D.o,E.o⟩
    exact s.o j t' (by omega) v
   simp[intOf];omega
  have p:=aA (show iJ ⟨P,ts⟩=2 from d.o (by
   cases hc:kD P t
   .rfl
   have:=((kK P t).1 hc).2.2.2.2.2;rw[a2]at this;cases this))
  clear a2;go_wp2
  go_ret
  exact⟨a8 p.o.symm,a.o.trans ((f.o _).mono a.o.size)⟩
def tB (z:Array Value)(a:z.size=1)(n:Nat):(Builtin.zeroCells z n).size=n:=by simp[Builtin.zeroCells,a]
def Wm (n:Nat)(w:World)(e:Ending)(w':World):Prop :=
 Below w.heap.size w w'/\((n=0/\e=.returned (.slice none 0 0))∨∃cap,n<=cap/\e=.returned (.slice (some ⟨w.heap.size,0,none⟩) 0 cap)/\w'.ownsRow w.heap.size 3 1 (.slice (some ⟨w.heap.size,0,none⟩) 0 cap) 0 [])
def Bj (w:World)(n:Nat)(r:n<=35184372088832) :
  Calls Tryz.prog 169 #[(),n] w (Wm n w):=by
 by_cases m:n=0
 .subst m;go_enter Tryz.func169,Tryz.ntmps169
  go_wp2
  go_ret
  exact⟨aH _ _,.inl ⟨rfl,rfl⟩⟩
 .have f:0<n:=by omega
  obtain⟨i,k,g,j,h⟩:=info_parts iP;have b:=Lib.run_append_nil_zeros (P:=Tryz.prog) w 24 3 24 3 i (.int .i64 0) .i64 .i64 Tryz.underlying24 Tryz.underlying3 k g n f (by omega) (by omega) (by rw[h];omega);have d:=grownCap_ge w n 0 3;have a:=grownCap_le_maxLen w n 0 3 (by simp only[maxLen];omega);obtain⟨cap,l⟩:=aK (grownCap w n 0 3);rw[l]at b d a;obtain⟨cs,e⟩:=aK (Builtin.zeroCells (Value.int .i64 0).cells n++Builtin.zeroCells (Value.int .i64 0).cells (cap-n));have c:cs.size=cap:=by
   rw[<-e,Array.size_append,tB _ rfl,tB _ rfl];omega
  rw[e]at b;have o:=aA b;have p:=aA c;have q:=aA a;clear b l k g j h a e c;go_enter Tryz.func169,Tryz.ntmps169
  go_wp2_with (at_builtin;refine Lib.wpList_append_run _ rfl _ _ _ _ rfl _ _ rfl rfl _ _ o.o ?_)
  go_ret
  refine⟨((aH _ _).drew).alloc (aB _) _,.inr ⟨cap,d,rfl, ?_⟩⟩;exact⟨by simp,.inr ⟨w.heap.size,cap,cs,rfl,aB _,iD w.drew _,aL _,q.o,by rw[p.o];omega,by simp⟩⟩
def tC {α:Type} {R:World->(Nat->Value)->α->Prop} {t e size d:Nat} (T:sT t e size d) (G:Qi R size) {ops:Array Oper} {rest:List Oper} {o:Oper} {a:Act} {Q:Exit->Act->World->Prop} (l:o.guard=none) (s x:Operand)
  (u:o.op=.call {callee:=.builtin .append,args:=#[s,x],argTypes:=#[t,t]})
  {w0 w:World} {B:Nat} {g k cap:Nat} {A:OAd} {m c:Nat} {xs ys:List α} (v:a.eval s=.slice g k cap) (n:a.eval x=.slice A m c)
  (own:aJ R size w B e (.slice g k cap) k xs) (q:Sl R size w A m c ys) (f:k+m<=cap) (C:Below B w0 w) (D:B<=w.heap.size)
  (h:∀w',w.grownBy w' (some g)->∀vs y,R w vs y->R w' vs y)
  (K:∀w',aJ R size w' B e (.slice g (k+m) cap) (k+m) (xs++ys)->w.grownBy w' (some g)->Below B w0 w'->wpList Tryz.prog ops Q rest (a.put o.dst (.slice g (k+m) cap)) w') :
  wpList Tryz.prog ops Q (o::rest) a w:=by
 obtain⟨i,z,E,U,F,V,W⟩:=T.info;obtain⟨j,r,H,I⟩:=own;obtain⟨ds,J,L,M,N,O⟩:=q.flat G;refine wpList_append_fits_any w l s x t u B e i size T.und E F g k cap j v r A m c ds n J L M N f (λw' P p=>?_);refine K w' ⟨_,P, ?_,by rw[bL,I,q.len]⟩ p (C.grown p D (λk S=>(r.lt k (by rw[<-S];rfl)).1));have:=H.append O;exact⟨this.1,λi x n=>by obtain⟨vs,a,b⟩:=this.2 i x n;exact⟨vs,a,h _ p _ _ b⟩⟩
def ZC (n:Nat)(xs:LIn)(w:World)(e:Ending)(w':World):Prop :=
 ∃C k,e=.returned (.slice C n k)/\aY w' C n k xs/\Below w.heap.size w w'
def Ez {w:World} {g:Nat} {A1 A2:OAd} {n1 c1 n2 c2:Nat} {xs ys:LIn} (n:w.cell? g=some (.slice A1 n1 c1)) (z:w.cell? ⟨g,1,none⟩=some (.slice A2 n2 c2))
  (A:aY w A1 n1 c1 xs) (B:aY w A2 n2 c2 ys) (q:n1+n2<=35184372088832) :
  Calls Tryz.prog 147 #[.slice g 2 2] w (ZC (n1+n2) (xs++ys) w):=by
 have j:g<w.heap.size:=World.block_lt_of_cell? w _ n;have D:=aA A;have r:=aA B;clear A B;go_enter Tryz.func147,Tryz.ntmps147
 go_wp2
 refine wp_loop_rounds 3 ?_;rw[rounds_succ];go_wp2
 rw[rounds_succ];go_wp2
 rw[rounds_succ];go_wp2_with fail
 rw[show(n1:Int)+(n2:Int)=((n1+n2:Nat):Int)from by omega];refine(Bj w (n1+n2) q).mono ?_;rintro e w1 ⟨a,⟨U,rfl⟩|⟨cap,d,rfl,own⟩⟩
 .obtain rfl:n1=0:=by omega
  obtain rfl:n2=0:=by omega
  have I:=dS D.o.len;have J:=dS r.o.len;subst I J;have l:=(a.cell (p:=⟨g,0,none⟩) j).trans n;have m:=(a.cell (p:=⟨g,1,none⟩) j).trans z;rcases A1 with _|a1 <;> rcases A2 with _|a2
  all_goals
   go_wp2
   refine wp_loop_rounds 3 ?_;rw[rounds_succ];go_wp2
   rw[rounds_succ];go_wp2
   rw[rounds_succ];go_wp2
   go_ret
   exact⟨none,0,rfl,Sl.nil0,a⟩
 .have l:=(a.cell (p:=⟨g,0,none⟩) j).trans n;have m:=(a.cell (p:=⟨g,1,none⟩) j).trans z;have K:=aA (D.o.keep a);have V:=aA (r.o.keep a);have L:=aA q;have E:=aA d;have F:=aA (show aI w1 w (.slice w 0 cap) 0 []from⟨[],own,cD.nil,rfl⟩);clear own d q;go_wp2
  refine wp_loop_rounds 3 ?_;rw[rounds_succ];go_wp2_with (at_builtin;refine tC iO fG.good rfl _ _ rfl rfl rfl F.o K.o (by have:=E.o;omega) a a.size (λ_ _ _ _ h=>h) ?_;intro M b s i)
  simp only[Nat.zero_add,List.nil_append]at b;have N:w.heap.size<w1.heap.size:=by
   obtain⟨t,o,_⟩:=F.o;exact(o.lt w rfl).2
  have c:∀p:Addr,p.block<w.heap.size->M.cell? p=w1.cell? p:=λp hp=>sA (s.block p.block (by omega) (λe=>by injection e with e;omega))
  have G:=(c ⟨g,0,none⟩ j).trans l;have H:=(c ⟨g,1,none⟩ j).trans m;have u:=aA (r.o.keep i);have O:=aA b;clear b c;go_wp2
  rw[rounds_succ];go_wp2_with (at_builtin;refine tC iO fG.good rfl _ _ rfl rfl rfl O.o u.o (by have:=E.o;omega) i i.size (λ_ _ _ _ h=>h) ?_;intro W f P v)
  have Q:=aA f;clear f;go_wp2
  rw[rounds_succ];go_wp2
  go_ret
  obtain⟨C,k,R,S⟩:=Q.o.sl (by have:=L.o;omega);injection R with x T y;subst x y;exact⟨_,_,rfl,S,v⟩
def yZ {P:Int}{ts:List bG}{k:Nat}{t:bG}(a:ts[k]?=some t):(ts.take (k+1)).all (kD P)=((ts.take k).all (kD P)&&kD P t):=by
 rw[bX a,List.all_append];simp
def Hf {P:Int}{t:bG}{n1 n2:Nat}(a:t.pre.length=n1)(b:t.post.length=n2) :
  kD P t=((decide (0<=t.label)&&decide (t.label<=26)&&decide ((n1:Int)=P)&&decide ((n2:Int)=P))&&!(t.pre++t.post).any GH):=by
 rw[kD,a,b,List.any_append];simp[iF]
def uN {P:Int}{ts:List bG}{n:Nat}(h:ts.length=n):iJ ⟨P,ts⟩=if((decide (0<=P)&&decide (P<=16)&&decide (n<=24))&&ts.all (kD P))=true then 0 else 2:=by
 rw[iJ,gV,h]
def lE (w:World)(P:Int)(A:OAd)(n c:Nat)(ts:List bG)(h:eC w A n c ts) :
  Calls Tryz.prog 107 #[.agg #[P,.slice A n c]] w λe w'=>e=.returned (.int .i64 (iJ ⟨P,ts⟩))/\Below w w w':=by
 have hn:=h.small;have F:=aA h.len;have m:∀o,Below w w (w.alloc o):=λo=>(aH _ _).alloc (aB _) _
 have Z:=aA m;clear m;obtain⟨g,W⟩:∃g:Bool,g=(decide (0<=P)&&decide (P<=16)&&decide (n<=24)):=⟨_,rfl⟩;have G:=aA W;clear W;go_enter Tryz.func107,Tryz.ntmps107
 go_upto_region 1 with fail
 go_cut [3] (λs H=>s=.bool g/\H=w.alloc (.cells #[P,.slice A n c] 41))
 case first =>
  go_wp2
  all_goals
   go_meet
   exact⟨aO Value.bool (by rw[G.o,pR];simp only[cA,bO,Bool.false_eq_true];constructor <;> intro h <;> first|exact h.elim|omega),rfl⟩
 case rest =>
  obtain⟨rfl,rfl⟩:=hcut;go_wp2
  go_loopg [3,25] n (λgk v i wr=>∃(k:Nat) (b:Bool),k+gk=n/\i=k/\v=.bool b/\Below (w.heap.size+1) (w.alloc (.cells #[P,.slice A n c] 41)) wr/\Hid (b=(g&&(ts.take k).all (kD P))))
  case atStart=>exact⟨0,g,by omega,rfl,rfl,aH _ _,by simp[Hid]⟩
  obtain⟨k,b,hk,rfl,rfl,q,X⟩:=hrel;have l:Below w w wr:=(Z.o _).trans (q.mono (by simp));by_cases I:k<n
  rotate_left
  .have a:=aA (show b=(g&&ts.all (kD P))from by
    have:=X.o;rwa[aW (by have:=F.o;omega)]at this)
   have y:=aA l;clear h q l;cases b
   .go_wp2
    go_ret
    exact⟨a8 (by rw[uN F.o,<-G.o,<-a.o];rfl),y.o⟩
   go_wp2
   go_ret
   exact⟨a8 (by rw[uN F.o,<-G.o,<-a.o];rfl),y.o⟩
  obtain⟨bl,d,t,A1,n1,c1,A2,n2,c2,rfl,a0,ht,q0,q1,q2,J,K,m1,m2⟩:=eC.get (h.keep l) I;have a1:wr.cell? w=some (.int .i64 P):=(q.cell (by simp)).trans (by simp);have a2:w.heap.size<wr.heap.size:=by have:=q.size;simp at this;omega
  have L1:=aA J.len;have L2:=aA K.len;have z:=aA (show ∀o,Below wr wr (wr.alloc o)from λo=>(aH _ _).alloc (aB _) _);have HB:=aA q;have I1:=aA J;have I2:=aA K;clear h J K q l;go_upto_region 5 with fail
  go_cut [3] (λs H=>∃u:Bool,s=.bool u/\H=wr.alloc (.cells #[.int .i64 t.label,.slice A1 n1 c1,.slice A2 n2 c2] 74)/\Hid (u=(b&&(decide (0<=t.label)&&decide (t.label<=26)&&decide ((n1:Int)=P)&&decide ((n2:Int)=P)))))
  case first =>
   cases b
   all_goals
    go_wp2
    all_goals
     go_meet
     refine⟨_,rfl,rfl, ?_⟩;first
     | rfl
     |(show _=_;rw[pR];simp only[Bool.true_and,cA,bO,fA,Bool.false_eq_true];constructor <;> intro h <;> first|exact h.elim|omega)
  obtain⟨u,rfl,rfl,L⟩:=hcut;go_wp2_with fail
  refine(Ez (xs:=t.pre) (ys:=t.post) (by simp) (by simp) ((I1.o.keep (z.o _)).keep ((aH _ _).alloc (aB _) _)) ((I2.o.keep (z.o _)).keep ((aH _ _).alloc (aB _) _)) (by omega)).mono ?_;rintro e M ⟨C,cc,rfl,N,B⟩;have O:=aA (show Below (w.heap.size+1) (w.alloc (.cells #[P,.slice (some ⟨bl,d,none⟩) n c] 41)) M from
   (HB.o.trans ((((aH _ _).alloc (aB _) _).alloc (by simp) _).mono (by omega))).trans (B.mono (by simp;omega)))
  have D:∀j (Q:j<n1+n2),∃b d x,C=some ⟨b,d,none⟩/\Hid ((t.pre++t.post)[j]?=some x)/\M.cell? ⟨b,d+j,none⟩=some (.int .i64 x):=λj Q=>by
   obtain⟨b,d,x,h1,_,h2,h3⟩:=N.get Q;exact⟨b,d,x,h1,h2,h3⟩
  have R:=aA D;have S:=aA N.len;clear B N D;go_wp2
  obtain⟨T,U⟩:∃T:World,T=M:=⟨_,rfl⟩;subst U;go_loopg [3,63] (n1+n2) (λgj v i wr=>∃(j:Nat) (p:Bool),j+gj=n1+n2/\i=j/\v=.bool p/\Hid (wr=T)/\Hid (p=(u&&!((t.pre++t.post).take j).any GH)))
  case atStart=>exact⟨0,u,by omega,by rfl,rfl,by rfl,by simp[Hid]⟩
  obtain⟨j,p,Q,rfl,rfl,f,E⟩:=hrel;obtain rfl:=f.o;by_cases V:j<n1+n2
  rotate_left
  .have a:=aA (show p=(g&&(ts.take (k+1)).all (kD P))from by
    have Y:=E.o;rw[aW (by rw[S.o];omega),L.o,X.o]at Y;rw[Y,yZ ht.o,Hf L1.o L2.o];simp only[iF])
   go_wp2
   go_roundg (n-(k+1))
   case measure=>omega
   exact⟨k+1,p,by omega,by go_num,rfl,O.o,a⟩
  obtain⟨bb,oo,x,rfl,hx,a3⟩:=R.o j V;have a:=aA (show ∀r:Bool,(r=true↔p=true/\0<=x/\x<=9)->r=(u&&!((t.pre++t.post).take (j+1)).any GH)from by
   intro r hr;have:=E.o;rw[bX hx.o,List.any_append];simp only[List.any_cons,List.any_nil,Bool.or_false,Bool.not_or,<-iF];rw[<-this];rw[pR,hr];simp[GH])
  cases p
  .go_wp2
   go_roundg (gk-1)
   case measure=>omega
   exact⟨j+1,false,by omega,by go_num,rfl,by first|exact f|rfl,a.o false (by simp)⟩
  by_cases x0:0<=x
  .by_cases x1:x<=9
   .go_wp2
    go_roundg (gk-1)
    case measure=>omega
    exact⟨j+1,true,by omega,by go_num,by first|rfl|simp,by first|exact f|rfl,a.o true (iff_of_true rfl ⟨by first|trivial|rfl,x0,x1⟩)⟩
   go_wp2
   go_roundg (gk-1)
   case measure=>omega
   exact⟨j+1,false,by omega,by go_num,by first|rfl|simp,by first|exact f|rfl,a.o false ⟨λh=>(by cases h),λh=>(by omega)⟩⟩
  go_wp2
  go_roundg (gk-1)
  case measure=>omega
  exact⟨j+1,false,by omega,by go_num,by first|rfl|simp,by first|exact f|rfl,a.o false ⟨λh=>(by cases h),λh=>(by omega)⟩⟩
def aF (w:World)(o:Obj):Below w w (w.alloc o):=(aH _ _).alloc (aB _) _
def CZ {P:Int}{ts:List bG}{xs:LIn}(h:¬gV ⟨P,ts⟩=true):i7 ⟨P,ts⟩ xs=false:=by
 cases hc:i7 ⟨P,ts⟩ xs
 .rfl
 exact absurd ((cR _ _).1 hc).1 h
def i8 {w:World}{P:Int}{A B:OAd}{n c m d:Nat}{ts:List bG}{xs:LIn}(h:eC w A n c ts)(g:aY w B m d xs) :
  Calls Tryz.prog 166 #[.agg #[P,.slice A n c],.slice B m d] w λe w'=>e=.returned (.int .i64 (GK ⟨P,ts⟩ xs))/\Below w w w':=by
 have j:=aA (aF w);have s:=g.small;have o:=aA g.len;have G:=aA g;have H:=aA h;clear g h;by_cases b:gV ⟨P,ts⟩=true
 .have k:=aA (mL b);have q:=aA b;clear b;go_enter Tryz.func166,Tryz.ntmps166
  go_wp2_with fail
  refine(lD _ P A n c ts (H.o.keep (j.o _))).mono ?_;rw[k.o];rintro e w1 ⟨rfl,i⟩;have f:=aA ((j.o (.cells #[P,.slice A n c] 41)).trans (i.mono (by simp)));have r:w1.cell? w=some (.int .i64 P):=(i.cell (by simp)).trans (by simp);clear i;by_cases p:(m:Int)=P
  .cases hr:bW xs
   .have l:=aA hr;have a:=aA (show GK ⟨P,ts⟩ xs=2 from oR (by
     cases hc:i7 ⟨P,ts⟩ xs
     .rfl
     have:=((cR _ _).1 hc).2.2;rw[hr]at this;cases this))
    clear hr;go_wp2_with fail
    refine(jS (G.o.keep f.o)).mono ?_;rintro e w' ⟨rfl,rfl⟩;rw[l.o];go_wp2
    go_ret
    exact⟨a8 a.o.symm,f.o⟩
   have l:=aA hr;have a:=aA (show GK ⟨P,ts⟩ xs=0 from yI ((cR _ _).2 ⟨q.o,by rw[o.o];exact p,hr⟩));clear hr;go_wp2_with fail
   refine(jS (G.o.keep f.o)).mono ?_;rintro e w' ⟨rfl,rfl⟩;rw[l.o];go_wp2
   go_ret
   exact⟨a8 a.o.symm,f.o⟩
  have a:=aA (show GK ⟨P,ts⟩ xs=2 from oR (by
   cases hc:i7 ⟨P,ts⟩ xs
   .rfl
   have:=((cR _ _).1 hc).2.1;rw[o.o]at this;exact absurd this p))
  go_wp2
  go_ret
  exact⟨a8 a.o.symm,f.o⟩
 .have k:=aA (jW (by simpa using b));have a:=aA (oR (CZ (xs:=xs) b));clear b;go_enter Tryz.func166,Tryz.ntmps166
  go_wp2_with fail
  refine(lD _ P A n c ts (H.o.keep (j.o _))).mono ?_;rw[k.o];rintro e w1 ⟨rfl,i⟩;have f:=aA ((j.o (.cells #[P,.slice A n c] 41)).trans (i.mono (by simp)));clear i;go_wp2
  go_ret
  exact⟨a8 a.o.symm,f.o⟩
def pZ {w:World}{P:Int}{A B:OAd}{n c m d:Nat}{ts:List bG}{xs:LIn}(h:eC w A n c ts)(g:aY w B m d xs) :
  Calls Tryz.prog 110 #[.agg #[P,.slice A n c],.slice B m d] w λe w'=>e=.returned (.bool (i7 ⟨P,ts⟩ xs))/\Below w w w':=by
 have j:=aA (aF w);have r:=g.small;have l:=aA g.len;have G:=aA g;have H:=aA h;clear g h;by_cases a:gV ⟨P,ts⟩=true
 .have k:=aA (mL a);have p:=aA a;clear a;go_enter Tryz.func110,Tryz.ntmps110
  go_wp2_with fail
  refine(lE _ P A n c ts (H.o.keep (j.o _))).mono ?_;rw[k.o];rintro e w1 ⟨rfl,f⟩;have i:=aA ((j.o (.cells #[P,.slice A n c] 41)).trans (f.mono (by simp)));have q:w1.cell? w=some (.int .i64 P):=(f.cell (by simp)).trans (by simp);clear f;by_cases o:(m:Int)=P
  .have b:=aA (show bW xs=i7 ⟨P,ts⟩ xs from by
    rw[pR,cR];exact⟨λh=>⟨p.o,by rw[l.o];exact o,h⟩,λh=>h.2.2⟩)
   go_wp2_with fail
   refine(sZ (G.o.keep i.o)).mono ?_;rintro e w' ⟨rfl,rfl⟩;go_wp2
   go_ret
   exact⟨bB b.o,i.o⟩
  have b:=aA (show i7 ⟨P,ts⟩ xs=false from by
   cases hc:i7 ⟨P,ts⟩ xs
   .rfl
   have:=((cR _ _).1 hc).2.1;rw[l.o]at this;exact absurd this o)
  go_wp2
  go_ret
  exact⟨bB b.o.symm,i.o⟩
 .have k:=aA (jW (by simpa using a));have b:=aA (CZ (xs:=xs) a);clear a;go_enter Tryz.func110,Tryz.ntmps110
  go_wp2_with fail
  refine(lE _ P A n c ts (H.o.keep (j.o _))).mono ?_;rw[k.o];rintro e w1 ⟨rfl,f⟩;have i:=aA ((j.o (.cells #[P,.slice A n c] 41)).trans (f.mono (by simp)));clear f;go_wp2
  go_ret
  exact⟨bB b.o.symm,i.o⟩
def uO {w:World}{P:Int}{A B:OAd}{n c m d:Nat}{ts:List bG}{xs:LIn}(h:eC w A n c ts)(g:aY w B m d xs) :
  Calls Tryz.prog 134 #[.agg #[P,.slice A n c],.slice B m d] w (Wl (gA ⟨P,ts⟩ xs) w):=by
 have l:=aA (aF w);have G:=aA g;have H:=aA h;have D:=aA h.len;clear g h;cases hok:i7 ⟨P,ts⟩ xs
 .have u:=aA (oR hok);have b:=aA (show gA ⟨P,ts⟩ xs=([],2)from by rw[gA,hok];rfl);clear hok;go_enter Tryz.func134,Tryz.ntmps134
  go_wp2_with fail
  refine(i8 (P:=P) (H.o.keep (l.o _)) (G.o.keep (l.o _))).mono ?_;rw[u.o];rintro e w1 ⟨rfl,a⟩;have o:=aA ((l.o (.cells #[P,.slice A n c] 41)).trans (a.mono (by simp)));clear a;go_wp2
  go_ret2
  exact⟨none,0,0,by rw[b.o];rfl,by rw[b.o];exact Sl.nil0,o.o⟩
 .have u:=aA (yI hok);have b:=aA (show gA ⟨P,ts⟩ xs=(jR ts xs,0)from by rw[gA,hok];rfl);have E:n<=24:=by have:=((bN _).1 ((cR _ _).1 hok).1).2.2.1;simp only[]at this;rw[H.o.len]at this;exact this
  clear hok;go_enter Tryz.func134,Tryz.ntmps134
  go_wp2_with fail
  refine(i8 (P:=P) (H.o.keep (l.o _)) (G.o.keep (l.o _))).mono ?_;rw[u.o];rintro e w1 ⟨rfl,a⟩;have o:=aA ((l.o (.cells #[P,.slice A n c] 41)).trans (a.mono (by simp)));have L:w1.cell? ⟨w,1,none⟩=some (.slice A n c):=(a.cell (by simp)).trans (by simp);have M:=aA (H.o.keep o.o);have N:=aA (G.o.keep o.o);clear a;go_wp2
  go_loopw [7,19] (λv i wr=>∃k q:Nat,k<=n/\q<=k/\i=k/\aI wr w1 v q (jR (ts.take k) xs)/\Below w1 w1 wr) (λ_ i _=>n-(intOf i).toNat)
  case atStart=>exact⟨0,0,aL _,aL _,rfl,aJ.nil,aH _ _⟩
  obtain⟨k,q,W,X,rfl,own,a⟩:=hrel;by_cases x:k<n
  .obtain⟨bl,O,t,A1,n1,c1,A2,n2,c2,rfl,Q,R,Y,Z,q2,F,S,m1,m2⟩:=eC.get (M.o.keep a) x;have I:=aA ((N.o.keep a).keep (aF wr (.cells #[.int .i64 t.label,.slice A1 n1 c1,.slice A2 n2 c2] 74)));have J:=aA (F.keep (aF wr (.cells #[.int .i64 t.label,.slice A1 n1 c1,.slice A2 n2 c2] 74)));have s:=aA (own.keep fG.kept (aF wr (.cells #[.int .i64 t.label,.slice A1 n1 c1,.slice A2 n2 c2] 74)));have j:=aA (a.alloc a.size (.cells #[.int .i64 t.label,.slice A1 n1 c1,.slice A2 n2 c2] 74));have f:=aA (show jR (ts.take (k+1)) xs=jR (ts.take k) xs++(if eJ xs t.pre=true then [(k:Int)]else [])from by
    rw[bX R.o,vO,dT,Nat.min_eq_left (by rw[D.o];omega)])
   clear F S own a;cases hc:eJ xs t.pre
   .have p:=aA hc;clear hc;go_wp2_with ((with_reducible refine(iQ I.o J.o).mono ?_);rintro e w' ⟨rfl,rfl⟩;rw[p.o])
    go_roundw
    case rel=>exact⟨k+1,q,by omega,by omega,by go_num,by rw[f.o,p.o];simpa using s.o,j.o⟩
    simp[intOf];omega
   have p:=aA hc;clear hc;go_wp2_with (first
    |((with_reducible refine(iQ I.o J.o).mono ?_);rintro e w' ⟨rfl,rfl⟩;rw[p.o])
    |(at_builtin;refine dX rfl _ _ rfl rfl rfl (by simp) s.o j.o j.o.size (by omega) ?_;intro v2 w2 r T y))
   go_roundw
   case rel=>exact⟨k+1,q+1,by omega,by omega,by go_num,by rw[f.o,p.o];exact r,y⟩
   simp[intOf];omega
  have s:=aA own;have z:=aA (o.o.trans (a.mono o.o.size));have f:=aA (show jR (ts.take k) xs=jR ts xs from by rw[aW (by rw[D.o];omega)]);clear own a;go_wp2
  go_ret2
  obtain⟨C,U,V,K⟩:=s.o.sl (by omega);rw[f.o]at K;exact⟨C,q,U,by rw[b.o,<-V];rfl,by rw[b.o];exact K,z.o⟩
