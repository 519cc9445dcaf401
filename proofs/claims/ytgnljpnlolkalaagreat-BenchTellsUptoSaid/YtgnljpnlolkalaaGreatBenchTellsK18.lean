/- Texts melted into one: The contract of grow, on every right block. Conditions: the block reads as a tree and is right. | The contracts of Grow's deferred closure: of a Grow that panics, of one that returns. Conditions: the results' boxes lie apart. | The contract of Grow, where the block is wrong or -/
import Derived.Defers
import Derived.Recover
import Derived.Test.YtgnljpnlolkalaaGreatBenchTellsK12
import Derived.Test.YtgnljpnlolkalaaGreatBenchTellsK16
import Derived.Test.YtgnljpnlolkalaaGreatBenchTellsK17
import Derived.Lib.Join
import Derived.Laws.Externs
import Derived.Lib.Bytealg
import Derived.Lib.ConvBytes
set_option linter.all false
set_option maxRecDepth 100000
set_option maxHeartbeats 8000000
namespace Go.Proofs.YtgnljpnlolkalaaGreat
open Go.RowKit
def NP (w0:World)(bg:Nat):∀f,Iu w0 bg f:=by
 intro f;induction f with
 | zero =>
  intro d kd lb A n c had ks p q v g w a;rw[bY]at a;cases a
 | succ f i =>
  intro d kd lb A n c had ks p q v g w a hK b e h;obtain⟨_,j,_⟩:=iK a;obtain⟨k1,k,_,_⟩:=sP j;simp only[bH.kind]at k1 k;have l:kd=1∨kd=2∨kd=3∨kd=4∨kd=5∨kd=6:=by omega
  rcases l with rfl|rfl|rfl|rfl|rfl|rfl
  .exact Iw (.inl rfl) b e h
  .exact Iw (.inr rfl) b e h
  .exact UQ i a hK b e h
  .exact UO i a hK b e h
  .exact Rq i a hK b e h
  exact Rn i a hK b e h
def Va (N a b:Nat)(w:World)(e:Ending)(c:FrameMode)(w':World):Prop :=
 e=.returned (.tuple #[])/\c=.panicking [{OC with recovered:=true}]/\Box w' a 41 #[.int .i64 0,.slice none 0 0]/\Box w' b 23 #[.int .i64 4]/\Below N w w'
def PG {N b c:Nat}{w:World}{x y:Int}{v:Value}(h:Box w b 41 #[x,v])(l:Box w c 23 #[y])(n2:N<=b)(n3:N<=c)(i:b≠c) :
  CallsD Tryz.prog 27 #[.pointer b,.pointer c] (.panicking [OC]) w (Va N b c w):=by
 have f:=aF w (.cells #[] 63);have g:=aA (h.keep f);have j:=aA (l.keep f);have m:=aA (show Below N w (w.alloc (.cells #[] 63))from f.mono (by have:=h.lt;omega));clear h l f;have d:Array.replicate 15 undef=#[undef,undef,undef,undef,undef,undef,undef,undef,undef,undef,undef,undef,undef,undef,undef]:=rfl;have n:∀w:World,(Instr.typeAssert (.iface 63 (.agg #[])) 20 63 true).run Tryz.prog w=.ok (.tuple #[.agg #[],.bool true]) w:=λw=>by kernel_rfl
 refine callsD_of_wpS Tryz.func27 rfl λo cs k=>?_
 apply wpS_seq
 apply wpS_region
 simp[wpOpsS,go_sem,recoverD,k,d,Tryz.ntmps27,Exit.thenS];refine wpS_of_wp ?_;go_upto_region 5 with fail
 generalize w.alloc (.cells #[] 63)=u at *
 obtain⟨q,c1⟩:=g.o.two;have r:=g.o.frozen 0;have s:=g.o.frozen 1;have t:u.cell? c=some (.int .i64 y):=j.o.cell 0;have z:=j.o.frozen 0;have n0:=aA n2;have n1:=aA n3;have ne:=aA i;clear n2 n3;go_wp2
 obtain⟨fn,A,B,C,md,kd,D⟩:=o;simp only at k;subst k;have S2:=(g.o.set2 (.int .i64 0) ()).other (a:=⟨c,0,none⟩) (.int .i64 4) ne.o;have S3:=(((j.o.other (a:=⟨b,0,none⟩) (.int .i64 0) (λe=>ne.o e.symm)).other (a:=⟨b,1,none⟩) () (λe=>ne.o e.symm)).set 0 (.int .i64 4));refine⟨rfl,_,rfl,.tuple #[],(by simp[results,Tryz.results27,go_sem]), ?_⟩;exact⟨rfl,rfl,S2,S3,((m.o.setCell (p:=⟨b,0,none⟩) n0.o _).setCell (p:=⟨b,1,none⟩) n0.o _).setCell (p:=⟨c,0,none⟩) n1.o _⟩
def PL {c d:Nat}{w:World} :
  CallsD Tryz.prog 27 #[.pointer c,.pointer d] .returning w (λe f w'=>e=.returned (.tuple #[])/\f=.returning/\w'=w):=by
 have a:Array.replicate 15 undef=#[undef,undef,undef,undef,undef,undef,undef,undef,undef,undef,undef,undef,undef,undef,undef]:=rfl;refine callsD_of_wpS Tryz.func27 rfl λg cs b=>?_
 apply wpS_seq
 apply wpS_region
 simp[wpOpsS,go_sem,recoverD,b,a,Tryz.ntmps27,Exit.thenS];refine wpS_of_wp ?_;go_wp2
 obtain⟨fn,h,i,j,md,kd,k⟩:=g;simp only at b;subst b;exact⟨rfl,_,rfl,.tuple #[],(by simp[results,Tryz.results27,go_sem]),rfl,rfl,rfl⟩
def YV (r:eB×Int)(w:World)(e:Ending)(w':World):Prop :=
 ∃A n c,e=.returned (.tuple #[.agg #[.int .i64 r.1.places,.slice A n c],.int .i64 r.2])/\eC w' A n c r.1.trans/\Below w.heap.size w w'
structure V6 (w u:World)(b:Nat)(blk:Array Value):Prop where
 below:Below w.heap.size w u
 arg:Box u b 35 blk
 net:Box u (b+1) 41 #[.int .i64 0,.slice none 0 0]
 err:Box u (b+1+1) 23 #[.int .i64 0]
 at_:b=w.heap.size
def V6.new (w:World)(blk:Array Value):V6 w (((w.alloc (.cells blk 35)).alloc (.cells #[(0:Int),()] 41)).alloc (.cells #[(0:Int)] 23)) w blk where
 below:=(((aH _ _).alloc (aB _) _).alloc (by simp) _).alloc (by simp;omega) _
 arg:=((Box.new w blk _).old _).old _
 net:=(Box.newAt (by simp) _ _).old _
 err:=Box.newAt (by simp) _ _
 at_:=rfl
def V6.keep {w u c:World}{b:Nat}{blk:Array Value}(h:V6 w u b blk)(a:Below u u c):V6 w c b blk :=
 ⟨h.below.trans (a.mono h.below.size),h.arg.keep a,h.net.keep a,h.err.keep a,h.at_⟩
def Zy {w u:World}{b:Nat}{x y:Int}{v:Value}(e:Below w w u)(h:w.heap.size<=b)(f:Box u (b+1) 41 #[x,v])(g:Box u (b+1+1) 23 #[y])(c d:Int)(v':Value) :
  Box (((u.setCell ⟨b+1,0,none⟩ c).setCell ⟨b+1,1,none⟩ v').setCell ⟨b+1+1,0,none⟩ d) (b+1) 41 #[c,v'] /\
  Box (((u.setCell ⟨b+1,0,none⟩ c).setCell ⟨b+1,1,none⟩ v').setCell ⟨b+1+1,0,none⟩ d) (b+1+1) 23 #[d] /\
  Below w w (((u.setCell ⟨b+1,0,none⟩ c).setCell ⟨b+1,1,none⟩ v').setCell ⟨b+1+1,0,none⟩ d) :=
 ⟨(f.set2 c v').other (a:=⟨b+1+1,0,none⟩) d (by simp only;omega),((g.other (a:=⟨b+1,0,none⟩) c (by simp only;omega)).other (a:=⟨b+1,1,none⟩) v' (by simp only;omega)).set 0 d,
  ((e.setCell (p:=⟨b+1,0,none⟩) (by simp only;omega) _).setCell (p:=⟨b+1,1,none⟩) (by simp only;omega) _).setCell (p:=⟨b+1+1,0,none⟩) (by simp only;omega) _⟩
def PM {d:Nat}{w:World}{kd lb:Int}{A:OAd}{n c:Nat}{ks:List bH}(h:pQ d w A n c ks)(g:eK (.mk kd lb ks)≠0) :
  Calls Tryz.prog 11 #[.agg #[kd,lb,.slice A n c]] w (YV (hJ (.mk kd lb ks)) w):=by
 have i:=aA (qO g);rw[i.o];obtain⟨r,b⟩:=aK (eK (.mk kd lb ks));have f:=aA (V6.new w #[kd,lb,.slice A n c]);have j:=aA (lG (h.keep f.o.below) (kd:=kd) (lb:=lb));rw[b]at g ⊢;rw[b]at j;clear h i b;go_enter_defers Tryz.func11,Tryz.ntmps11
 go_upto_region 1 with fail
 generalize ((w.alloc (.cells #[kd,lb,.slice A n c] 35)).alloc (.cells #[(0:Int),()] 41)).alloc (.cells #[(0:Int)] 23)=u at *
 have a0:=f.o.arg.three;go_upto_region 2 with(go_at_call 24;(with_reducible refine j.o.mono ?_);rintro e w1 ⟨rfl,k⟩;have a:=aA (f.o.keep k);clear k)
 obtain⟨q,c1⟩:=a.o.net.two;have s:=a.o.net.frozen 0;have t:=a.o.net.frozen 1;have v:w1.cell? ⟨w.heap.size+1+1,0,none⟩=some (.int .i64 0):=a.o.err.cell 0;have x:=a.o.err.frozen 0;go_wp2
 obtain⟨l,t3,m⟩:=Zy a.o.below (aB _) a.o.net a.o.err 0 r ();have e0:=l.cell 0;have o:=l.cell 1;have p:=t3.cell 0;refine⟨.tuple #[.agg #[(0:Int),()],.int .i64 r],(by simp[results,Tryz.results11,go_sem,e0,o,p]),none,0,0,rfl, ?_,m⟩;exact Sl.nil0
def Sm {d:Nat}{w:World}{kd lb:Int}{A:OAd}{n c:Nat}{ks:List bH}(h:pQ d w A n c ks)(b:eK (.mk kd lb ks)=0)(g:¬dB (jJ (.mk kd lb ks))) :
  Calls Tryz.prog 11 #[.agg #[kd,lb,.slice A n c]] w (YV (hJ (.mk kd lb ks)) w):=by
 have q:∀(fn:Fn) (first cap:Array Value) (w:World),(Instr.makeFunc fn first cap).run Tryz.prog w=.ok (.func fn first cap) w:=λ_ _ _ _=>rfl
 have m:=aA (sR b g);rw[m.o];have i:=aA (V6.new w #[kd,lb,.slice A n c]);have o:=aA (lG (h.keep i.o.below) (kd:=kd) (lb:=lb));have r:=aA b;have s:=aA g;have H:=aA h;rw[b]at o;clear h m b g;go_enter_defers Tryz.func11,Tryz.ntmps11
 go_upto_region 1 with fail
 generalize ((w.alloc (.cells #[kd,lb,.slice A n c] 35)).alloc (.cells #[(0:Int),()] 41)).alloc (.cells #[(0:Int)] 23)=u at *
 have a0:=i.o.arg.three;go_upto_region 5 with(go_at_call 24;(with_reducible refine o.o.mono ?_);rintro e w1 ⟨rfl,a⟩;have j:=aA (i.o.keep a);clear a)
 go_upto_region 6 with fail
 have k:=aF w1 (.cells #[(2:Int),()] 68);have t:=aA (lS (NP w1 w1 41 d kd lb A n c 0 ks 0 1 () ⟨2,[]⟩ _ r.o (H.o.keep j.o.below) ⟨aB _,Box.new w1 _ _,aJ.nil⟩ k (by decide)) s.o);generalize w1.alloc (.cells #[(2:Int),()] 68)=C at *
 have a1:=(j.o.keep k).arg.three;clear k a0;go_wp2_with (go_at_call 28;(with_reducible refine t.o.mono ?_);rintro e D ⟨rfl,a⟩;have l:=aA (j.o.keep a);clear a)
 refine leaves_cons (f:=27) (args:=#[.pointer (some ⟨w.heap.size+1,0,none⟩),.pointer (some ⟨w.heap.size+1+1,0,none⟩)]) (by simp) (by simp[go_sem]) ?_;refine(PG (N:=w.heap.size) l.o.net l.o.err (by omega) (by omega) (by omega)).mono ?_;rintro e E v ⟨rfl,rfl,p,x,y⟩;have e0:=p.cell 0;have z:=p.cell 1;have B:=x.cell 0;refine⟨.tuple #[.agg #[(0:Int),()],(4:Int)],(by simp[results,Tryz.results11,go_sem,e0,z,B]),none,0,0,rfl, ?_,l.o.below.trans y⟩;exact Sl.nil0
end Go.Proofs.YtgnljpnlolkalaaGreat
namespace Go.Proofs.YtgnljpnlolkalaaGreat
structure Vb {σ α:Type}(f:σ×Bool->α->σ×Bool)(l:List α)(I:σ->Prop)(μ:σ->Nat):Prop where
 step:∀p,∀a∈l,I p.1->f p a=p∨((f p a).2=true/\I (f p a).1/\μ (f p a).1<μ p.1)
structure V8 {σ α:Type}(f:σ×Bool->α->σ×Bool)(l:List α)(I:σ->Prop)(μ:σ->Nat)(p q:σ×Bool):Prop where
 inv:I q.1
 up:p.2=true->q.2=true
 le:μ q.1<=μ p.1
 new:q.2=true->p.2=true∨μ q.1<μ p.1
 same:q.2=false->q=p/\∀a∈l,f p a=p
section
variable {σ α:Type} {f:σ×Bool->α->σ×Bool} {l:List α} {I:σ->Prop} {μ:σ->Nat}
def Vb.passTo (h:Vb f l I μ):∀(d:List α),(∀a∈d,a∈l)->∀p,I p.1->V8 f d I μ p (d.foldl f p)
 | [],_,p,i=>⟨i,id,aB _,.inl,λ_=>⟨rfl,λa k=>by simp at k⟩⟩
 | a::d,j,p,i=>by
  have m:=h.step p a (j a (by simp)) i;rcases m with g|⟨g,n,o⟩
  .have H:=h.passTo d (λb c=>j b (by simp[c])) p i;rw[f9,g];refine⟨H.inv,H.up,H.le,H.new,λe=>⟨(H.same e).1,λb c=>?_⟩⟩;rcases a7.1 c with rfl|c
   .exact g
   exact(H.same e).2 b c
  have H:=h.passTo d (λb c=>j b (by simp[c])) (f p a) n;rw[f9];have:=H.le;refine⟨H.inv,λ_=>H.up g,by omega,λ_=>.inr (by omega),λe=>?_⟩;have:=H.up g;rw[e]at this;cases this
def Vb.pass (h:Vb f l I μ)(p:σ×Bool)(a:I p.1):V8 f l I μ p (l.foldl f p):=h.passTo l (λ_ b=>b) p a
end
section
variable (ars:List cC) (lb:Int->Int) (w:LIn)
end
open Classical
def BL {x:Int}{n:Nat}(h:Inn n x):∃k:Nat,x=(k:Int)/\k<n:=⟨x.toNat,by have:=h.1;omega,by have:=h.1;have:=h.2;omega⟩
section
variable {ars:List cC} {lb:Int->Int} {n:Nat} {bs0 bs:List Bool}
end
end Go.Proofs.YtgnljpnlolkalaaGreat
namespace Go.Proofs.YtgnljpnlolkalaaGreat
open Classical
section
variable (ars:List cC) (lb:Int->Int) (E:Int->Prop)
end
section
variable {ars:List cC} {lb:Int->Int} {E:Int->Prop} {n:Nat}
def atI (xs:LIn)(m:Int):Int:=xs.getD m.toNat 0
def Eg {α:Type}{p q:α->Bool}:∀(l:List α),(∀x∈l,q x=true->p x=true)->(∃x∈l,p x=true/\q x=false)->(l.filter q).length<(l.filter p).length
 | [],_,h=>by obtain⟨x,d,_⟩:=h;simp at d
 | a::l,h,⟨x,d,i,j⟩=>by
  have le:∀(c:List α),(∀x∈c,q x=true->p x=true)->(c.filter q).length<=(c.filter p).length:=λc=>by
   induction c with
   | nil=>intro _;exact aB _
   | cons b c k =>
    intro f;have:=k λy e=>f y (by simp[e])
    have g:=f b (by simp);cases hq:q b
    .cases hp:p b <;> simp[hq,hp] <;> omega
    simp[hq,g hq];omega
  have f:=h a (by simp);rcases a7.1 d with rfl|d
  .have:=le l λy e=>h y (by simp[e])
   simp[i,j];omega
  have:=Eg l (λy e=>h y (by simp[e])) ⟨x,d,i,j⟩;cases hq:q a
  .cases hp:p a <;> simp[hq,hp] <;> omega
  simp[hq,f hq];omega
end
end Go.Proofs.YtgnljpnlolkalaaGreat
namespace Go.Proofs.YtgnljpnlolkalaaGreat
abbrev Sp:=Int×Int
def Ed (ars:List cC)(lb:Int->Int)(tr:LIn)(u v:Sp)(c:Int):Prop :=
 (u.1<(tr.length:Int)/\v=(u.1+1,u.2)/\c=1) ∨
 (∃a∈ars,a.from_=u.2/\v=(u.1,a.to_)/\c=min (lb a.tran) 1) ∨
 (∃a∈ars,a.from_=u.2/\u.1<(tr.length:Int)/\0<lb a.tran/\tr[u.1.toNat]?=some (lb a.tran)/\v=(u.1+1,a.to_)/\c=0)
inductive Wk (E:Sp->Sp->Int->Prop):Sp->Int->Prop
 | nil:Wk E (0,0) 0
 | step {u v:Sp} {c d:Int}:Wk E u c->E u v d->Wk E v (c+d)
def Gm (E:Sp->Sp->Int->Prop)(g:Sp)(c:Int):Prop:=Wk E g c/\∀a,Wk E g a->c<=a
def Gm.uniq {E:Sp->Sp->Int->Prop}{g:Sp}{c d:Int}(h:Gm E g c)(a:Gm E g d):c=d:=by
 have:=h.2 _ a.1;have:=a.2 _ h.1;omega
def InU (L n:Nat)(v:Sp):Prop:=(0<=v.1/\v.1<=(L:Int))/\0<=v.2/\v.2<(n:Int)
section
variable {ars:List cC} {lb:Int->Int} {tr:LIn} {n:Nat}
def Ed.low (b:∀a∈ars,0<=lb a.tran){u v:Sp}{c:Int}(h:Ed ars lb tr u v c):0<=c/\c<=1:=by
 rcases h with⟨_,_,rfl⟩|⟨a,d,_,_,rfl⟩|⟨a,_,_,_,_,_,_,rfl⟩
 .omega
 .have:=b a d;omega
 omega
def Ed.inU (d:∀a∈ars,Inn n a.to_){u v:Sp}{c:Int}(e:InU tr.length n u)(h:Ed ars lb tr u v c):InU tr.length n v:=by
 obtain⟨⟨f,g⟩,i,j⟩:=e;rcases h with⟨k,rfl,_⟩|⟨a,b,_,rfl,_⟩|⟨a,b,_,k,_,_,rfl,_⟩
 .exact⟨⟨by simp only;omega,by simp only;omega⟩,i,j⟩
 .exact⟨⟨f,g⟩,(d a b).1,(d a b).2⟩
 exact⟨⟨by simp only;omega,by simp only;omega⟩,(d a b).1,(d a b).2⟩
def Wk.low {E:Sp->Sp->Int->Prop}(a:∀u v c,E u v c->0<=c){v:Sp}{c:Int}(h:Wk E v c):0<=c:=by
 induction h with
 | nil=>omega
 | step _ e b=>have:=a _ _ _ e;omega
end
structure Bc where
 cost:Int
 from_:Sp
 kind:Int
 label:Int
 tran:Int
 done:Bool
abbrev SpM:=Sp->Option Bc
def wW (f:SpM)(v:Sp)(x:Bc):SpM:=λz=>if z=v then some x else f z
def nS (f:SpM)(v:Sp)(x:Bc):SpM:=match f v with
 | none=>wW f v x
 | some y=>if x.cost<y.cost then wW f v x else f
def mX (f:SpM)(v:Sp)(x:Bc):wW f v x v=some x:=by simp[wW]
def uD {f:SpM}{v z:Sp}{x:Bc}(h:z≠v):wW f v x z=f z:=by simp[wW,h]
structure DI (E:Sp->Sp->Int->Prop)(U:Sp->Prop)(f:SpM)(dn:List Sp):Prop where
 s0:∃x,f (0,0)=some x/\x.cost=0
 snd:∀v x,f v=some x->Wk E v x.cost/\U v
 rel:∀u x,f u=some x->x.done=true->∀v d,E u v d->∃y,f v=some y/\y.cost<=x.cost+d
 ord:∀u x v y,f u=some x->x.done=true->f v=some y->y.done=false->x.cost<=y.cost
 dnI:∀v,v∈dn↔∃x,f v=some x/\x.done=true
 nodup:dn.Nodup
 frm:∀v x,f v=some x->v≠(0,0)->x.from_∈dn/\∀p q,dn=p++v::q->x.from_∈q
structure DL (E:Sp->Sp->Int->Prop)(U:Sp->Prop)(f:SpM)(dn:List Sp)(at_:Sp)(c:Int)(R:Sp->Int->Prop):Prop where
 s0:∃x,f (0,0)=some x/\x.cost=0
 snd:∀v x,f v=some x->Wk E v x.cost/\U v
 rel:∀u x,f u=some x->x.done=true->u≠at_->∀v d,E u v d->∃y,f v=some y/\y.cost<=x.cost+d
 now:∃x,f at_=some x/\x.done=true/\x.cost=c
 off:∀v d,R v d->∃y,f v=some y/\y.cost<=c+d
 le:∀u x,f u=some x->x.done=true->x.cost<=c
 ge:∀v y,f v=some y->y.done=false->c<=y.cost
 dnI:∀v,v∈dn↔∃x,f v=some x/\x.done=true
 nodup:dn.Nodup
 frm:∀v x,f v=some x->v≠(0,0)->x.from_∈dn/\∀p q,dn=p++v::q->x.from_∈q
def Ar:SpM:=wW (λ_=>none) (0,0) ⟨0,(0,0),0,0,0,false⟩
section
variable {E:Sp->Sp->Int->Prop} {U:Sp->Prop} {f:SpM} {dn:List Sp} {at_:Sp} {c:Int} {R:Sp->Int->Prop}
def DI.start (c:U (0,0)):DI E U Ar []:=by
 have key:∀v x,Ar v=some x->v=(0,0)/\x=⟨0,(0,0),0,0,0,false⟩:=λv x h=>by
  unfold Ar wW at h;split at h
  .rename_i e
   injection h with h;exact⟨e,h.symm⟩
  cases h
 refine⟨⟨_,mX _ _ _,rfl⟩,λv x h=>?_,λu x h a=>?_,λu x v y h a=>?_,λv=>?_,List.nodup_nil,λv x h b=>?_⟩
 .obtain⟨rfl,rfl⟩:=key v x h;exact⟨.nil,c⟩
 .obtain⟨rfl,rfl⟩:=key u x h;cases a
 .obtain⟨rfl,rfl⟩:=key u x h;cases a
 .constructor
  .intro h;cases h
  rintro⟨x,h,a⟩;obtain⟨rfl,rfl⟩:=key v x h;cases a
 exact absurd (key v x h).1 b
def DI.pop (h:DI E U f dn){x:Bc}(m:f at_=some x)(t:x.done=false)(n:∀v y,f v=some y->y.done=false->x.cost<=y.cost):DL E U (wW f at_ {x with done:=true}) (at_::dn) at_ x.cost (λ_ _=>False):=by
 have k:at_∉dn:=λB=>by
  obtain⟨y,c,j⟩:=(h.dnI at_).1 B;rw[m]at c;injection c with c;subst c;rw[t]at j;cases j
 have key:∀v y,wW f at_ {x with done:=true} v=some y->(v=at_/\y={x with done:=true})∨(v≠at_/\f v=some y):=λv y b=>by
  unfold wW at b;split at b
  .rename_i e
   injection b with b;exact .inl ⟨e,b.symm⟩
  rename_i e
  exact .inr ⟨e,b⟩
 have low:∀v y,f v=some y->∃o,wW f at_ {x with done:=true} v=some o/\o.cost=y.cost:=λv y b=>by
  by_cases e:v=at_
  .subst e;rw[m]at b;injection b with b;subst b;exact⟨_,mX _ _ _,rfl⟩
  exact⟨y,by rw[uD e];exact b,rfl⟩
 refine⟨?_,λv y b=>?_,λu y l g i v d C=>?_,⟨_,mX _ _ _,rfl,rfl⟩,λv d D=>D.elim,λu y l g=>?_,λv y b g=>?_,λv=>?_,kC.2 ⟨k,h.nodup⟩,λv y b i=>?_⟩
 .obtain⟨y,c,j⟩:=h.s0;obtain⟨o,r,w⟩:=low _ _ c;exact⟨o,r,w.trans j⟩
 .rcases key v y b with⟨rfl,rfl⟩|⟨_,b⟩
  .exact h.snd v x m
  exact h.snd _ _ b
 .rcases key u y l with⟨rfl,_⟩|⟨_,l⟩
  .exact absurd rfl i
  obtain⟨z,c,j⟩:=h.rel u y l g v d C;obtain⟨F,r,w⟩:=low _ _ c;exact⟨F,r,by omega⟩
 .rcases key u y l with⟨_,rfl⟩|⟨_,l⟩
  .exact iH _
  exact h.ord u y at_ x l g m t
 .rcases key v y b with⟨_,rfl⟩|⟨_,b⟩
  .cases g
  exact n v y b g
 .rw[a7,h.dnI];constructor
  .rintro(rfl|⟨y,c,j⟩)
   .exact⟨_,mX _ _ _,rfl⟩
   have i:v≠at_:=λe=>by
    subst e;exact k ((h.dnI v).2 ⟨y,c,j⟩)
   exact⟨y,by rw[uD i];exact c,j⟩
  rintro⟨y,c,j⟩;rcases key v y c with⟨e,_⟩|⟨_,c⟩
  .exact .inl e
  exact .inr ⟨y,c,j⟩
 have G:∃z,f v=some z/\z.from_=y.from_:=by
  rcases key v y b with⟨rfl,rfl⟩|⟨_,b⟩
  .exact⟨x,m,rfl⟩
  exact⟨y,b,rfl⟩
 obtain⟨z,H,I⟩:=G;obtain⟨s,A⟩:=h.frm v z H i;rw[I]at s A;refine⟨a7.2 (.inr s),λp q e=>?_⟩;cases p with
 | nil =>
  simp only[List.nil_append,List.cons.injEq]at e;rw[<-e.2];exact s
 | cons a p =>
  simp only[List.cons_append,List.cons.injEq]at e;exact A p q e.2
def Jj (f:SpM)(v:Sp)(x:Bc):(nS f v x=f/\∃y,f v=some y/\y.cost<=x.cost)∨(nS f v x=wW f v x/\∀y,f v=some y->x.cost<y.cost):=by
 unfold nS;cases h:f v with
 | none=>exact .inr ⟨rfl,λy c=>by cases c⟩
 | some y =>
  simp only;split
  .rename_i b
   exact .inr ⟨rfl,λz a=>by injection a with a;subst a;exact b⟩
  rename_i b
  exact .inl ⟨rfl,y,rfl,by omega⟩
def DL.offer (h:DL E U f dn at_ c R)(J:∀u v c,E u v c->0<=c)(L:∀u v c,U u->E u v c->U v){v:Sp}{d:Int}(w:E at_ v d){x:Bc}(M:x.cost=c+d)(N:x.from_=at_)(A:x.done=false) :
  DL E U (nS f v x) dn at_ c (λz e=>R z e∨(z=v/\e=d)):=by
 have O:=J _ _ _ w;obtain⟨B,r,k,s⟩:=h.now;rcases Jj f v x with⟨e,y,t,P⟩|⟨e,l⟩
 .rw[e];exact⟨h.s0,h.snd,h.rel,h.now,λz d' m=>by
   rcases m with m|⟨rfl,rfl⟩
   .exact h.off z d' m
   exact⟨y,t,by omega⟩,h.le,h.ge,h.dnI,h.nodup,h.frm⟩
 .rw[e];have n:∀y,f v=some y->y.done=false:=λy t=>by
   cases a:y.done
   .rfl
   have:=h.le v y t a;have:=l y t;omega
  have C:at_≠v:=λe=>by
   subst e;have:=n B r;rw[k]at this;cases this
  have D:v∉dn:=λQ=>by
   obtain⟨y,j,i⟩:=(h.dnI v).1 Q;rw[n y j]at i;cases i
  have key:∀z y,wW f v x z=some y->(z=v/\y=x)∨(z≠v/\f z=some y):=λz y b=>by
   unfold wW at b;split at b
   .rename_i e
    injection b with b;exact .inl ⟨e,b.symm⟩
   rename_i e
   exact .inr ⟨e,b⟩
  have low:∀z y,f z=some y->∃K,wW f v x z=some K/\K.cost<=y.cost:=λz y b=>by
   by_cases e:z=v
   .subst e;exact⟨x,mX _ _ _,by have:=l y b;omega⟩
   exact⟨y,by rw[uD e];exact b,iH _⟩
  refine⟨?_,λz y b=>?_,λu y o a g z d' F=>?_,⟨B,by rw[uD C];exact r,k,s⟩,λz d' m=>?_,λu y o a=>?_,λz y b a=>?_,λz=>?_,h.nodup,λz y b g=>?_⟩
  .obtain⟨y,j,i⟩:=h.s0;have g:((0,0):Sp)≠v:=λe=>by
    have:=l y (by rw[<-e];exact j);have:=Wk.low J (h.snd _ _ r).1;omega
   exact⟨y,by rw[uD g];exact j,i⟩
  .rcases key z y b with⟨rfl,rfl⟩|⟨_,b⟩
   .rw[M,<-s];exact⟨.step (h.snd _ _ r).1 w,L _ _ _ (h.snd _ _ r).2 w⟩
   exact h.snd _ _ b
  .rcases key u y o with⟨rfl,rfl⟩|⟨_,o⟩
   .rw[A]at a;cases a
   obtain⟨S,G,T⟩:=h.rel u y o a g z d' F;obtain⟨H,I,V⟩:=low _ _ G;exact⟨H,I,by omega⟩
  .rcases m with m|⟨rfl,rfl⟩
   .obtain⟨S,G,T⟩:=h.off z d' m;obtain⟨H,I,V⟩:=low _ _ G;exact⟨H,I,by omega⟩
   exact⟨x,mX _ _ _,by omega⟩
  .rcases key u y o with⟨rfl,rfl⟩|⟨_,o⟩
   .rw[A]at a;cases a
   exact h.le u y o a
  .rcases key z y b with⟨rfl,rfl⟩|⟨_,b⟩
   .omega
   exact h.ge z y b a
  .rw[h.dnI];constructor
   .rintro⟨y,j,i⟩;have g:z≠v:=λe=>by
     subst e;rw[n y j]at i;cases i
    exact⟨y,by rw[uD g];exact j,i⟩
   rintro⟨y,j,i⟩;rcases key z y j with⟨_,rfl⟩|⟨_,j⟩
   .rw[A]at i;cases i
   exact⟨y,j,i⟩
  rcases key z y b with⟨rfl,rfl⟩|⟨_,b⟩
  .rw[N];refine⟨(h.dnI at_).2 ⟨B,r,k⟩,λp q e=>absurd ?_ D⟩;rw[e];simp
  exact h.frm z y b g
def DL.fin (h:DL E U f dn at_ c R)(j:∀v d,E at_ v d->R v d):DI E U f dn:=by
 obtain⟨o,k,l,b⟩:=h.now;refine⟨h.s0,h.snd,λu x a g v d i=>?_,λu x v y a g m n=>by have:=h.le u x a g;have:=h.ge v y m n;omega,h.dnI,h.nodup,h.frm⟩;by_cases e:u=at_
 .subst e;rw[k]at a;injection a with a;subst a;rw[b];exact h.off v d (j v d i)
 exact h.rel u x a g e v d i
def DL.imp (h:DL E U f dn at_ c R){R':Sp->Int->Prop}(a:∀v d,R' v d->R v d):DL E U f dn at_ c R' :=
 ⟨h.s0,h.snd,h.rel,h.now,λv d b=>h.off v d (a v d b),h.le,h.ge,h.dnI,h.nodup,h.frm⟩
def DI.front (h:DI E U f dn)(j:∀u v c,E u v c->0<=c){v:Sp}{c:Int}(d:Wk E v c):(∃x,f v=some x/\x.done=true/\x.cost<=c)∨∃u x,f u=some x/\x.done=false/\x.cost<=c:=by
 have fin:∀(v:Sp) (c:Int) (y:Bc),f v=some y->y.cost<=c->(∃x,f v=some x/\x.done=true/\x.cost<=c)∨∃u x,f u=some x/\x.done=false/\x.cost<=c:=λv c y e g=>by
  cases hd:y.done
  .exact .inr ⟨v,y,e,hd,g⟩
  exact .inl ⟨y,e,hd,g⟩
 induction d with
 | nil =>
  obtain⟨x,a,b⟩:=h.s0;exact fin _ _ x a (by omega)
 | step d i k =>
  have n:=j _ _ _ i;rcases k with⟨x,a,b,l⟩|⟨u,x,a,b,l⟩
  .obtain⟨y,m,o⟩:=h.rel _ _ a b _ _ i;exact fin _ _ y m (by omega)
  exact .inr ⟨u,x,a,b,by omega⟩
def DI.none_left (h:DI E U f dn)(d:∀u v c,E u v c->0<=c){g:Sp}{c:Int}(e:Wk E g c)(i:g∉dn):∃u x,f u=some x/\x.done=false:=by
 rcases h.front d e with⟨x,a,b,_⟩|⟨u,x,a,b,_⟩
 .exact absurd ((h.dnI g).2 ⟨x,a,b⟩) i
 exact⟨u,x,a,b⟩
def DI.goal (h:DI E U f dn)(i:∀u v c,E u v c->0<=c){g:Sp}{x:Bc}(e:f g=some x)(j:x.done=false)(b:∀v y,f v=some y->y.done=false->x.cost<=y.cost):Gm E g x.cost:=by
 refine⟨(h.snd _ _ e).1,λm k=>?_⟩;rcases h.front i k with⟨y,a,d,l⟩|⟨u,y,a,d,l⟩
 .rw[e]at a;injection a with a;subst a;rw[j]at d;cases d
 have:=b u y a d;omega
end
def Yu (L n:Nat):List Sp:=(List.range (L+1)).flatMap λk:Nat=>(List.range n).map λm:Nat=>((k:Int),(m:Int))
def Vd {L n:Nat}{v:Sp}(h:InU L n v):v∈Yu L n:=by
 obtain⟨⟨a,b⟩,c,d⟩:=h;unfold Yu;rw[iZ];refine⟨v.1.toNat,bM.2 (by omega),bZ.2 ⟨v.2.toNat,bM.2 (by omega), ?_⟩⟩;exact Prod.ext (by simp only;omega) (by simp only;omega)
def Ve (L n:Nat):(Yu L n).length=(L+1)*n:=by
 have key:∀l:List Nat,(l.map λ_=>n).sum=l.length*n:=λl=>by
  induction l with
  | nil=>simp
  | cons a l b=>simp[b,Nat.add_mul,Nat.add_comm]
 unfold Yu;rw[List.length_flatMap];simp only[dQ,List.length_range];rw[key,List.length_range]
def PQ (L n:Nat)(dn:List Sp):Nat:=((Yu L n).filter λv=>!dn.contains v).length
def Vf (L n:Nat):PQ L n []=(L+1)*n:=by
 unfold PQ;rw[List.filter_eq_self.2 (λv _=>by simp),Ve]
def Sr {L n:Nat}{dn:List Sp}{v:Sp}(h:InU L n v)(b:v∉dn):PQ L n (v::dn)<PQ L n dn:=by
 unfold PQ;refine Eg _ (λx _ a=>?_) ⟨v,Vd h,by simpa using b,by simp⟩;simp only[m9,List.contains_eq_mem,decide_eq_false_iff_not,a7,not_or]at a ⊢;exact a.2
def YW (dn:List Sp)(v:Sp)(q:List Sp):Prop:=∃p,dn=p++v::q
def YW.next {E:Sp->Sp->Int->Prop}{U:Sp->Prop}{f:SpM}{dn q:List Sp}{v:Sp}{at_:Sp}{c:Int}{R:Sp->Int->Prop}(h:DL E U f dn at_ c R)(j:YW dn v q)(k:v≠(0,0)):∃x,f v=some x/\∃d,YW dn x.from_ d/\d.length<q.length:=by
 obtain⟨p,e⟩:=j;obtain⟨x,g,_⟩:=(h.dnI v).1 (by rw[e];simp);refine⟨x,g, ?_⟩;have l:=(h.frm v x g k).2 p q e;obtain⟨a,b,i⟩:=List.append_of_mem l;refine⟨b,⟨p++v::a,by rw[e,i];simp⟩, ?_⟩;rw[i];simp;omega
end Go.Proofs.YtgnljpnlolkalaaGreat
namespace Go.Proofs.YtgnljpnlolkalaaGreat
section
variable {E:Sp->Sp->Int->Prop} {L n:Nat} {g:Sp} {f:SpM} {dn:List Sp} {q:Nat}
structure AlI (E:Sp->Sp->Int->Prop)(L n:Nat)(g:Sp)(f:SpM)(dn:List Sp)(q:Nat):Prop where
 di:DI E (InU L n) f dn
 ng:g∉dn
 cost:∀v x,f v=some x->x.cost<=(dn.length:Int)
 len:dn.length+PQ L n dn<=18300
 wr:q<=1+20000*dn.length
def AlI.start (c:0<n)(a:n<=300)(d:L<=60)(b:g∉([]:List Sp)):AlI E L n g Ar [] 1:=by
 refine⟨DI.start ⟨⟨by simp,by simp⟩,by simp,by simp only;omega⟩,b,λv x h=>?_, ?_,by simp⟩
 .unfold Ar wW at h;split at h
  .injection h with h;subst h;simp
  cases h
 rw[Vf];have:(L+1)*n<=61*300:=Nat.mul_le_mul (by omega) a;simpa using this
structure AlP (E:Sp->Sp->Int->Prop)(L n:Nat)(g:Sp)(f:SpM)(dn:List Sp)(at_:Sp)(c:Int)(q r:Nat):Prop where
 dl:DL E (InU L n) f dn at_ c (λ_ _=>False)
 cost:∀v x,f v=some x->x.cost<=(dn.length:Int)
 c0:0<=c/\c+1<=(dn.length:Int)/\c<=1000000
 len:dn.length+PQ L n dn<=18300
 less:PQ L n dn<r
 wr:q+14401<=1+20000*dn.length
 few:q<=900000000
 ng:g=at_∨g∉dn
 inU:InU L n at_
 head:∃dn',dn=at_::dn'
def AlI.pop (h:AlI E L n g f dn q)(r:∀u v c,E u v c->0<=c){at_:Sp}{x:Bc}(d:f at_=some x)(o:x.done=false)(i:∀v y,f v=some y->y.done=false->x.cost<=y.cost) :
  AlP E L n g (wW f at_ {x with done:=true}) (at_::dn) at_ x.cost (q+1) (PQ L n dn):=by
 have j:at_∉dn:=λa=>by
  obtain⟨y,m,p⟩:=(h.di.dnI at_).1 a;rw[d]at m;injection m with m;subst m;rw[o]at p;cases p
 have k:=(h.di.snd _ _ d).2;have l:=Wk.low r (h.di.snd _ _ d).1;have t:=h.cost _ _ d;have s:=Sr k j;have w:=h.len;have z:=h.wr;refine⟨h.di.pop d o i,λv y b=>?_,⟨l,by simp only[bP];omega,by omega⟩,by simp only[bP];omega,s,by simp only[bP];omega,by omega, ?_,k,dn,rfl⟩
 .unfold wW at b;split at b
  .injection b with b;subst b;simp only[bP];omega
  have:=h.cost _ _ b;simp only[bP];omega
 .by_cases e:g=at_
  .exact .inl e
  refine .inr (λa=>?_);rcases a7.1 a with a|a
  .exact e a
  exact h.ng a
def AlP.next {at_:Sp}{c:Int}{q r e:Nat}{a:SpM}{R:Sp->Int->Prop}(h:AlP E L n g f dn at_ c q r)(b:g≠at_)(D:DL E (InU L n) a dn at_ c R)(i:∀v d,E at_ v d->R v d)(k:e<=q+14401)(j:∀v x,a v=some x->x.cost<=(dn.length:Int)):AlI E L n g a dn e :=
 ⟨D.fin i,h.ng.resolve_left b,j,h.len,by have:=h.wr;omega⟩
structure AlB (E:Sp->Sp->Int->Prop)(L n:Nat)(f:SpM)(dn:List Sp)(v:Sp)(k r:Nat):Prop where
 isIn:∃x,f v=some x
 rest:∃q,YW dn v q/\q.length=r
 few:k+r<=18300
def AlP.back {at_:Sp}{c:Int}{q r:Nat}(h:AlP E L n g f dn at_ c q r):∃s,AlB E L n f dn at_ 0 s:=by
 obtain⟨a,e⟩:=h.head;obtain⟨x,b,_⟩:=h.dl.now;refine⟨a.length,⟨x,b⟩,⟨a,⟨[],by simp[e]⟩,rfl⟩, ?_⟩;have:=h.len;rw[e]at this;simp only[bP]at this;omega
def AlP.back_next {at_:Sp}{c:Int}{q r:Nat}(h:AlP E L n g f dn at_ c q r){v:Sp}{k s:Nat}(d:AlB E L n f dn v k s)(l:v≠(0,0)):∃x,f v=some x/\∃i,i<s/\AlB E L n f dn x.from_ (k+1) i:=by
 obtain⟨u,m,rfl⟩:=d.rest;obtain⟨x,o,j,a,b⟩:=m.next h.dl l;refine⟨x,o,j.length,b, ?_,⟨j,a,rfl⟩,by have:=d.few;omega⟩;obtain⟨p,e⟩:=a;obtain⟨y,t,_⟩:=(h.dl.dnI x.from_).1 (by rw[e];simp);exact⟨y,t⟩
def AlP.cost_at {at_:Sp}{c:Int}{q r:Nat}(h:AlP E L n g f dn at_ c q r):∃x,f at_=some x/\x.cost=c:=by
 obtain⟨x,a,_,b⟩:=h.dl.now;exact⟨x,a,b⟩
end
end Go.Proofs.YtgnljpnlolkalaaGreat
namespace Go.Proofs.YtgnljpnlolkalaaGreat
def far:Int:=1073741824
def atT (T:LLi)(k m:Nat):Int:=(((T[k]?).getD [])[m]?).getD 0
def V9 (T:LLi)(k m:Nat)(c:Int):LLi:=T.set k (((T[k]?).getD []).set m c)
def Qf (p:LLi×Bool)(k m:Nat)(c:Int):LLi×Bool:=if c<atT p.1 k m then(V9 p.1 k m c,true)else p
structure Ua where
 k:Nat
 m:Nat
 k':Nat
 m':Nat
 d:Int
def tO (p:LLi×Bool)(e:Ua):LLi×Bool:=Qf p e.k' e.m' (atT p.1 e.k e.m+e.d)
def Jk (lb:Int->Int)(tr:LIn)(k:Nat)(a:cC):Bool:=decide (k<tr.length)&&decide (0<lb a.tran)&&decide (tr[k]?=some (lb a.tran))
def edA (lb:Int->Int)(tr:LIn)(k:Nat)(a:cC):List Ua :=
 ⟨k,a.from_.toNat,k,a.to_.toNat,min (lb a.tran) 1⟩::if Jk lb tr k a=true then [⟨k,a.from_.toNat,k+1,a.to_.toNat,0⟩]else []
def edM (tr:LIn)(k m:Nat):List Ua:=if k<tr.length then [⟨k,m,k+1,m,1⟩]else []
def edK (ars:List cC)(lb:Int->Int)(tr:LIn)(n k:Nat):List Ua:=(ars.flatMap (edA lb tr k))++(List.range n).flatMap (edM tr k)
def q5 (ars:List cC)(lb:Int->Int)(tr:LIn)(n:Nat):List Ua:=(List.range (tr.length+1)).flatMap (edK ars lb tr n)
def KY:∀(l:List Nat) (i x y:Nat),l[i]?=some x->(l.set i y).sum+x=l.sum+y
 | [],i,x,y,h=>by simp at h
 | a::l,0,x,y,h=>by
  simp only[aQ,aZ]at h;subst h;simp only[List.set_cons_zero,List.sum_cons];omega
 | a::l,i+1,x,y,h=>by
  simp only[cB]at h;have:=KY l i x y h;simp only[r9,List.sum_cons];omega
def Xk (r:LIn):Nat:=(r.map Int.toNat).sum
def Ub (T:LLi):Nat:=(T.map Xk).sum
def Vg {r:LIn}{i:Nat}{x y:Int}(h:r[i]?=some x):Xk (r.set i y)+x.toNat=Xk r+y.toNat:=by
 unfold Xk;rw[List.map_set];exact KY _ i _ _ (by rw[dF,h];rfl)
def xX {T:LLi}{k m:Nat}{r:LIn}{x:Int}(a:T[k]?=some r)(b:r[m]?=some x):atT T k m=x:=by
 unfold atT;rw[a,j6,b];rfl
def n8 {T:LLi}{k m:Nat}{r:LIn}{c:Int}(a:T[k]?=some r):V9 T k m c=T.set k (r.set m c):=by
 unfold V9;rw[a,j6]
def Vh {T:LLi}{k m:Nat}{r:LIn}{x c:Int}(a:T[k]?=some r)(b:r[m]?=some x)(e:0<=c)(d:c<x):Ub (V9 T k m c)<Ub T:=by
 have f:=Vg (y:=c) b;have g:=KY (T.map Xk) k (Xk r) (Xk (r.set m c)) (by rw[dF,a];rfl);rw[n8 a];unfold Ub;rw[List.map_set];omega
def Gn {T:LLi}{k m:Nat}{r:LIn}{x c:Int}(a:T[k]?=some r)(f:r[m]?=some x)(i j:Nat):atT (V9 T k m c) i j=if i=k/\j=m then c else atT T i j:=by
 have g:=(aR.1 a).1;have l:=(aR.1 f).1;rw[n8 a];by_cases e:i=k
 .subst e;have d:(T.set i (r.set m c))[i]?=some (r.set m c):=eQ g;by_cases b:j=m
  .subst b;rw[aG ⟨rfl,rfl⟩];exact xX d (eQ l)
  rw[aD (λh=>b h.2)];unfold atT;rw[d,a,j6,j6,eG (λh=>b h.symm)]
 rw[aD (λh=>e h.1)];unfold atT;rw[eG (λh=>e h.symm)]
structure yS (E:Sp->Sp->Int->Prop)(L n:Nat)(T:LLi):Prop where
 len:T.length=L+1
 row:∀(k:Nat) (r:LIn),T[k]?=some r->r.length=n
 low:∀k m:Nat,k<L+1->m<n->0<=atT T k m/\atT T k m<=far
 sound:∀k m:Nat,k<L+1->m<n->atT T k m<far->Wk E ((k:Int),(m:Int)) (atT T k m)
 base:atT T 0 0=0
def yS.get {E:Sp->Sp->Int->Prop}{L n:Nat}{T:LLi}(h:yS E L n T){k m:Nat}(b:k<L+1)(e:m<n):∃r,T[k]?=some r/\r.length=n/\r[m]?=some (atT T k m):=by
 have a:T[k]?=some (T[k]'(by rw[h.len];exact b)):=aV _;have c:=h.row k _ a;have d:=aV (l:=T[k]'(by rw[h.len];exact b)) (i:=m) (by rw[c];exact e);exact⟨_,a,c,by rw[d];exact aO some (xX a d).symm⟩
def Wa (E:Sp->Sp->Int->Prop)(L n:Nat)(e:Ua):Prop:=(e.k<L+1/\e.m<n)/\(e.k'<L+1/\e.m'<n)/\0<=e.d/\E ((e.k:Int),(e.m:Int)) ((e.k':Int),(e.m':Int)) e.d
def yS.mono {E:Sp->Sp->Int->Prop}{L n:Nat}{l:List Ua}(w:∀e∈l,Wa E L n e):Vb tO l (yS E L n) Ub where
 step:=λp e x a=>by
  obtain⟨⟨u,v⟩,⟨g,h⟩,B,y⟩:=w e x;unfold tO Qf;split
  rotate_left
  .exact .inl rfl
  rename_i i
  obtain⟨r,f,t,s⟩:=a.get g h;have C:=a.low e.k e.m u v;have D:=a.low e.k' e.m' g h;refine .inr ⟨by trivial,⟨?_,λk q b=>?_,λk m c d=>?_,λk m c d j=>?_, ?_⟩,Vh f s (by omega) i⟩
  .simp only;rw[n8 f,kB];exact a.len
  .simp only at b;rw[n8 f,iG]at b;split at b
   .split at b
    .injection b with b;subst b;simpa using t
    cases b
   exact a.row k q b
  .simp only;rw[Gn f s];split
   .omega
   exact a.low k m c d
  .simp only at j ⊢;rw[Gn f s]at j ⊢;split
   .rename_i o
    obtain⟨rfl,rfl⟩:=o;rw[aG ⟨rfl,rfl⟩]at j;exact .step (a.sound e.k e.m u v (by omega)) y
   rename_i o
   rw[aD o]at j;exact a.sound k m c d j
  simp only;rw[Gn f s];split
  .rename_i o
   have:=a.base;obtain⟨z,A⟩:=o;rw[<-z,<-A,a.base]at i;omega
  exact a.base
section
variable {ars:List cC} {lb:Int->Int} {tr:LIn} {n:Nat}
def mY {e:Ua}:e∈q5 ars lb tr n↔∃k,k<tr.length+1/\((∃a∈ars,e∈edA lb tr k a)∨∃m,m<n/\e∈edM tr k m):=by
 unfold q5 edK;rw[iZ];constructor
 .rintro⟨k,b,h⟩;refine⟨k,bM.1 b, ?_⟩;rcases cN.1 h with h|h
  .obtain⟨a,c,h⟩:=iZ.1 h;exact .inl ⟨a,c,h⟩
  obtain⟨m,d,h⟩:=iZ.1 h;exact .inr ⟨m,bM.1 d,h⟩
 rintro⟨k,b,h⟩;refine⟨k,bM.2 b,cN.2 ?_⟩;rcases h with⟨a,c,h⟩|⟨m,d,h⟩
 .exact .inl (iZ.2 ⟨a,c,h⟩)
 exact .inr (iZ.2 ⟨m,bM.2 d,h⟩)
def pN {k:Nat}{a:cC}:Jk lb tr k a=true↔k<tr.length/\0<lb a.tran/\tr[k]?=some (lb a.tran):=by
 unfold Jk;rw[cA,cA,bO,bO,bO,and_assoc]
def KZ (j:∀a∈ars,Inn n a.from_)(l:∀a∈ars,Inn n a.to_)(d:∀a∈ars,0<=lb a.tran):∀e∈q5 ars lb tr n,Wa (Ed ars lb tr) tr.length n e:=by
 intro e o;obtain⟨k,c,⟨a,b,h⟩|⟨m,g,h⟩⟩:=mY.1 o
 .obtain⟨f,u,p⟩:=BL (j a b);obtain⟨t,v,q⟩:=BL (l a b);have w:=d a b;unfold edA at h;rcases a7.1 h with rfl|h
  .refine⟨⟨c,by simp only;omega⟩,⟨c,by simp only;omega⟩,by simp only;omega,.inr (.inl ⟨a,b, ?_, ?_,rfl⟩)⟩
   .simp only;omega
   simp only[Prod.mk.injEq,true_and];omega
  split at h
  .rename_i i
   obtain⟨x,r,s⟩:=pN.1 i;rw[bJ]at h;subst h;refine⟨⟨c,by simp only;omega⟩,⟨by simp only;omega,by simp only;omega⟩,by simp only;omega,.inr (.inr ⟨a,b, ?_, ?_,r, ?_, ?_,rfl⟩)⟩
   .simp only;omega
   .simp only;omega
   .simpa using s
   simp only[Prod.mk.injEq];omega
  cases h
 unfold edM at h;split at h
 .rename_i i
  rw[bJ]at h;subst h;refine⟨⟨c,g⟩,⟨by simp only;omega,g⟩,by simp only;omega,.inl ⟨?_, ?_,rfl⟩⟩
  .simp only;omega
  simp
 cases h
def Ss (i:∀a∈ars,Inn n a.to_){u v:Sp}{c:Int}(p:InU tr.length n u)(h:Ed ars lb tr u v c):∃k m j l:Nat,u=((k:Int),(m:Int))/\v=((j:Int),(l:Int))/\(⟨k,m,j,l,c⟩:Ua)∈q5 ars lb tr n:=by
 obtain⟨⟨q,r⟩,s,w⟩:=p;obtain⟨u1,u2⟩:=u;simp only at q r s w;obtain⟨k,rfl⟩:∃k:Nat,u1=(k:Int):=⟨u1.toNat,by omega⟩;obtain⟨m,rfl⟩:∃m:Nat,u2=(m:Int):=⟨u2.toNat,by omega⟩;rcases h with⟨f,rfl,rfl⟩|⟨a,b,d,rfl,rfl⟩|⟨a,b,d,f,x,o,rfl,rfl⟩
 .refine⟨k,m,k+1,m,rfl,by simp,mY.2 ⟨k,by omega,.inr ⟨m,by omega, ?_⟩⟩⟩;unfold edM;rw[aG (by simp only at f;omega)];simp
 .obtain⟨t,e,g⟩:=BL (i a b);refine⟨k,m,k,t,rfl,by simp[e],mY.2 ⟨k,by omega,.inl ⟨a,b, ?_⟩⟩⟩;unfold edA;simp only at d;rw[d,e];simp
 obtain⟨t,e,g⟩:=BL (i a b);simp only at f o d;refine⟨k,m,k+1,t,rfl,by simp[e],mY.2 ⟨k,by omega,.inl ⟨a,b, ?_⟩⟩⟩;unfold edA;rw[aG (pN.2 ⟨by omega,x,by simpa using o⟩),d,e];simp
def yS.least (i:∀a∈ars,Inn n a.to_)(w:0<n){T:LLi}(h:yS (Ed ars lb tr) tr.length n T)(o:∀e∈q5 ars lb tr n,tO (T,false) e=(T,false)){k m:Nat}(p:k<tr.length+1)(q:m<n){c:Int}(d:Wk (Ed ars lb tr) ((k:Int),(m:Int)) c)(r:c<far):Gm (Ed ars lb tr) ((k:Int),(m:Int)) (atT T k m):=by
 have low:∀v c,Wk (Ed ars lb tr) v c->InU tr.length n v/\atT T v.1.toNat v.2.toNat<=c:=λv c d=>by
  induction d with
  | nil=>exact⟨⟨⟨by simp,by simp⟩,by simp,by simp;omega⟩,by simp only[Int.toNat_zero];rw[h.base];exact iH _⟩
  | step d j s =>
   obtain⟨l,t⟩:=s;obtain⟨k,m,x,y,rfl,rfl,b⟩:=Ss i l j;refine⟨j.inU i l, ?_⟩;have:=o _ b;unfold tO Qf at this;split at this
   .injection this with _ u;cases u
   rename_i f
   simp only[d9]at t f ⊢;omega
 refine⟨h.sound k m p q ?_,λz g=>?_⟩
 .have:=(low _ _ d).2;simp only[d9]at this;omega
 have:=(low _ _ g).2;simpa using this
end
def Wk.along {ars:List cC}{lb:Int->Int}{tr:LIn}:∀k:Nat,k<=tr.length->Wk (Ed ars lb tr) ((k:Int),0) (k:Int)
 | 0,_=>.nil
 | k+1,h=>by
  have:=Wk.along (ars:=ars) (lb:=lb) (tr:=tr) k (by omega);exact Wk.step this (.inl ⟨by simp only;omega,by simp,rfl⟩)
def Wk.marks {N:eB}{most:Nat}{s:PSp}(h:tD N most s){lb:Int->Int}{tr:LIn}(e:∀a∈s.arcs,0<=lb a.tran):∀(q m:Nat),m<=q->m<s.marks.length->∃c,Wk (Ed s.arcs lb tr) ((tr.length:Int),(m:Int)) c/\c<=(tr.length:Int)+(m:Int):=by
 intro q;induction q with
 | zero =>
  intro m i _;obtain rfl:m=0:=by omega
  exact⟨_,Wk.along tr.length (aB _),by omega⟩
 | succ q g =>
  intro m i d;by_cases t:m=0
  .exact g m (by omega) d
  obtain⟨j,a,k,l,n,_⟩:=h.found m (by omega) d;have b:=aS k;have o:=(h.ends a b).1;obtain⟨f,p⟩:∃f:Nat,a.from_=(f:Int):=⟨a.from_.toNat,by omega⟩;obtain⟨c,r,u⟩:=g f (by omega) (by omega);have:=e a b;refine⟨_,.step r (.inr (.inl ⟨a,b,p,by rw[l],rfl⟩)),by omega⟩
open Go.RowKit Go.Maps
def Gz (x:Bc):Value:=.agg #[.int .i64 x.cost,.int .i64 x.from_.1,.int .i64 x.from_.2,.int .i64 x.kind,.int .i64 x.label,.int .i64 x.tran,.bool x.done]
def Wb (x:Bc):DataW Unit:=.agg [.lit (.int .i64 x.cost),.lit (.int .i64 x.from_.1),.lit (.int .i64 x.from_.2),.lit (.int .i64 x.kind),.lit (.int .i64 x.label),.lit (.int .i64 x.tran),.lit (.bool x.done)]
def Vi {x y:Bc}(h:Gz x=Gz y):x=y:=by
 obtain⟨a,⟨b,c⟩,d,e,f,g⟩:=x;obtain⟨i,⟨j,k⟩,d',l,m,n⟩:=y;simp only[Gz,Value.agg.injEq,Array.mk.injEq,List.cons.injEq,Value.int.injEq,Value.bool.injEq,true_and,and_true]at h;obtain⟨rfl,rfl,rfl,rfl,rfl,rfl,rfl⟩:=h;rfl
open Classical in
noncomputable def r7 (v:Value):Option (DataW Unit×List MemPlace):=if h:∃x,v=Gz x then some (Wb (Classical.choose h),[])else none
def wX (x:Bc):r7 (Gz x)=some (Wb x,[]):=by
 have hex:∃y,Gz x=Gz y:=⟨x,rfl⟩;unfold r7;rw[dif_pos hex,<-Vi (nD hex)]
def uE {v:Value}{d:DataW Unit}{a:List MemPlace}(h:r7 v=some (d,a)):∃x,v=Gz x/\d=Wb x:=by
 unfold r7 at h;split at h
 .rename_i hex
  simp only[aZ,Prod.mk.injEq]at h;exact⟨_,nD hex,h.1.symm⟩
 cases h
def vK {x y:Bc}(h:Wb x=Wb y):x=y:=by
 obtain⟨a,⟨b,c⟩,d,e,f,g⟩:=x;obtain⟨i,⟨j,k⟩,d',l,m,n⟩:=y;simp[Wb]at h;obtain⟨rfl,rfl,rfl,rfl,rfl,rfl,rfl⟩:=h;rfl
def okS (v:Sp):Prop:=(0<=v.1/\v.1<=1000)/\0<=v.2/\v.2<=1000
def kvS (v:Sp):Value:=.agg #[.int .i64 v.1,.int .i64 v.2]
def kkS (v:Sp):Lit:=.string (keyBytes [.int .i64 v.1,.int .i64 v.2])
def qS:Keyed Tryz.prog 90:=Keyed.of_law (deep_law_laid Facts.laidOut (m:=2) (by decide) (gR (by kernel_rfl)) (by kernel_rfl) (by kernel_rfl))
def K8:Tryz.prog.keyType 90=true:=by kernel_rfl
def Jl:Tryz.prog.cellsOf 90=2:=by kernel_rfl
def Su:Tryz.prog.cellsOf 3=1:=by kernel_rfl
def oC (p:Sp)(h:okS p):keyOf Tryz.prog 90 (kvS p)=some (kkS p):=by
 have a:(Lit.int .i64 p.1).wf=true:=jM (by unfold okS at h;omega);have b:(Lit.int .i64 p.2).wf=true:=jM (by unfold okS at h;omega);have c:∃m,Tryz.prog.types.size+1=m+2:=⟨Tryz.prog.types.size-1,by have:0<Tryz.prog.types.size:=gR (by kernel_rfl);omega⟩;obtain⟨m,d⟩:=c;unfold keyOf;rw[Tryz.underlying90];simp only[K8,kvS,Value.formed,Tryz.underlying90,Jl,d];simp[Program.keyLits,Tryz.underlying90,Jl,Su,Tryz.underlying3,a,b,Value.cells,kkS]
def Gp {p q:Sp}(hp:okS p)(a:okS q)(h:kkS p=kkS q):p=q:=by
 have:=qS.inj (oC p hp) (by rw[h];exact oC q a);simp only[kvS,Value.agg.injEq,Array.mk.injEq,List.cons.injEq,Value.int.injEq,true_and,and_true]at this;exact Prod.ext this.1 this.2
def oD:Bc:=⟨0,(0,0),0,0,0,false⟩
def NQ (w:World):(zeroValue 94).run Tryz.prog w=.ok (Gz oD) w:=by
 obtain⟨i,a,b,_⟩:=info_parts (show(Tryz.prog.info? 94).map (λi=>(i.zero,i.size,i.bytes))=some (some (Gz oD),7,56)from by kernel_rfl);simp[zeroValue,typeInfo,a,b]
def lM (w:World)(b:Nat)(f:SpM)(q:Nat):Prop :=
 (∀v x,f v=some x->okS v)/\∃(D:DataW Unit) (n:Nat),w.ownsMap Tryz.prog 90 r7 b n D/\n<=q /\
  (∀v x,f v=some x->Maps.has D (kkS v)=true/\∀z,D.atKey (kkS v) z=Wb x) /\
  (∀key a,keyOf Tryz.prog 90 key=some a->Maps.has D a=true->∃v x,f v=some x/\a=kkS v)
section
variable {w w':World} {b q:Nat} {f:SpM}
def Sv {H:Type}{P:Program}{k:TypeId}{R:Value->Option (DataW H×List MemPlace)}{n:Nat}{D:DataW H}(h:w.ownsMap P k R b n D)(c:w'.heap[b]?=w.heap[b]?):w'.ownsMap P k R b n D:=by
 obtain⟨es,a,d,e⟩:=h;exact⟨es,a,c.trans d,e⟩
def lM.made (w:World):lM (w.alloc (.map #[] 0)) w (λ_=>none) 0 :=
 ⟨λv x h=>(by cases h),.map [],0,World.ownsMap_made _ _ _ _,aB _,λv x h=>(by cases h),λkey a _ h=>by simp[Maps.has]at h⟩
def lM.lt (h:lM w b f q):b<w.heap.size:=by
 obtain⟨_,D,n,a,_⟩:=h;exact a.lt
def lM.of_block (h:lM w b f q)(a:w'.heap[b]?=w.heap[b]?):lM w' b f q:=by
 obtain⟨c,D,n,d,e⟩:=h;exact⟨c,D,n,Sv d a,e⟩
def lM.keep (h:lM w b f q)(a:Below w w w'):lM w' b f q:=h.of_block (a.block b h.lt)
def lM.alloc (h:lM w b f q)(o:Obj):lM (w.alloc o) b f q:=h.of_block (heap_alloc_old w o h.lt)
def lM.beside {row:Option Nat}(h:lM w b f q)(c:w.grownBy w' row)(a:some b≠row):lM w' b f q:=h.of_block (c.block b h.lt a)
def lM.mono (h:lM w b f q){a:Nat}(c:q<=a):lM w b f a:=by
 obtain⟨d,D,n,e,g,i⟩:=h;exact⟨d,D,n,e,aT g c,i⟩
def lM.look (h:lM w b f q){v:Sp}(c:okS v):(Instr.lookup 95 (.map (some b)) (kvS v) true).run Tryz.prog w=.ok (.tuple #[Gz ((f v).getD oD),.bool (f v).isSome]) w:=by
 obtain⟨i,D,n,j,_,k,l⟩:=h;obtain⟨y,s,a,m⟩:=j.look_ok qS Tryz.underlying95 (NQ w) (wX oD) (oC v c);rw[a];obtain⟨x,rfl,e⟩:=uE m;cases hf:f v with
 | some z =>
  obtain⟨o,p⟩:=k v z hf;rw[o];have:=e.symm.trans (p _);rw[vK this];rfl
 | none =>
  have d:Maps.has D (kkS v)=false:=by
   cases hh:Maps.has D (kkS v)
   .rfl
   obtain⟨u,y,g,r⟩:=l _ _ (oC v c) hh;rw[Gp c (i u y g) r,g]at hf;cases hf
  rw[d];have:=e.symm.trans (Maps.atKey_of_not_has d _);rw[vK this];rfl
def lM.at (h:lM w b f q){v:Sp}(c:okS v):(Instr.lookup 95 (.map (some b)) (kvS v) false).run Tryz.prog w=.ok (Gz ((f v).getD oD)) w:=by
 obtain⟨g,D,n,i,_,j,k⟩:=h;obtain⟨y,r,a,l⟩:=i.lookup qS Tryz.underlying95 (NQ w) (wX oD) (oC v c);rw[a];obtain⟨x,rfl,e⟩:=uE l;cases hf:f v with
 | some z =>
  obtain⟨s,m⟩:=j v z hf;have:=e.symm.trans (m _);rw[vK this];rfl
 | none =>
  have o:Maps.has D (kkS v)=false:=by
   cases hh:Maps.has D (kkS v)
   .rfl
   obtain⟨u,y,d,p⟩:=k _ _ (oC v c) hh;rw[Gp c (g u y d) p,d]at hf;cases hf
  have:=e.symm.trans (Maps.atKey_of_not_has o _);rw[vK this];rfl
def lM.update (h:lM w b f q){v:Sp}(g:okS v)(x:Bc)(s:q<maxLen):∃w',(Instr.mapUpdate 95 (.map (some b)) (kvS v) (Gz x)).run Tryz.prog w=.ok () w'/\lM w' b (wW f v x) (q+1)/\w.grownBy w' (some b):=by
 obtain⟨k,D,n,l,t,A,B⟩:=h;obtain⟨w',c,C,E⟩:=l.update qS Tryz.underlying95 (Nat.lt_of_le_of_lt t s) (oC v g) (wX x);have m:=l.isMap;have o:=qS.key (oC v g);refine⟨w',c,⟨λu y a=>?_,D.put (kkS v) (Wb x),n+1,C,by omega,λu y a=>?_,λkey p j r=>?_⟩,E⟩
 .unfold wW at a;split at a
  .rename_i e
   rw[e];exact g
  exact k u y a
 .unfold wW at a;split at a
  .rename_i e
   injection a with a;subst e a;exact⟨Maps.has_put_same m o _,λz=>Maps.atKey_put_same m o _ z⟩
  rename_i e
  obtain⟨F,G⟩:=A u y a;have d:kkS u≠kkS v:=λi=>e (Gp (k u y a) g i)
  exact⟨(Maps.has_put_other d _).trans F,λz=>(Maps.atKey_put_other d _ z).trans (G z)⟩
 by_cases e:p=kkS v
 .exact⟨v,x,mX _ _ _,e⟩
 rw[Maps.has_put_other e]at r;obtain⟨u,y,a,i⟩:=B key p j r;exact⟨u,y,by rw[uD (λH=>e (by rw[i,H]))];exact a,i⟩
end
def Zl (w:World)(b:Nat)(v0 v1 v2 v3 v4 v5 a:Value):World:=((((((w.setCell ⟨b,0,none⟩ v0).setCell ⟨b,1,none⟩ v1).setCell ⟨b,2,none⟩ v2).setCell ⟨b,3,none⟩ v3).setCell ⟨b,4,none⟩ v4).setCell ⟨b,5,none⟩ v5).setCell ⟨b,6,none⟩ a
def Box.laid7 {w:World}{b ty:Nat}{u0 u1 u2 u3 u4 u5 u6:Value}(h:Box w b ty #[u0,u1,u2,u3,u4,u5,u6])(v0 v1 v2 v3 v4 v5 a:Value):Box (Zl w b v0 v1 v2 v3 v4 v5 a) b ty #[v0,v1,v2,v3,v4,v5,a]:=by
 have:=((((((h.set 0 v0).set 1 v1).set 2 v2).set 3 v3).set 4 v4).set 5 v5).set 6 a;unfold Zl;simpa using this
def PT {B:Nat}{w0 w:World}(h:Below B w0 w){b:Nat}(a:B<=b)(v0 v1 v2 v3 v4 v5 c:Value):Below B w0 (Zl w b v0 v1 v2 v3 v4 v5 c) :=
 ((((((h.setCell (p:=⟨b,0,none⟩) a _).setCell (p:=⟨b,1,none⟩) a _).setCell (p:=⟨b,2,none⟩) a _).setCell (p:=⟨b,3,none⟩) a _).setCell (p:=⟨b,4,none⟩) a _).setCell (p:=⟨b,5,none⟩) a _).setCell (p:=⟨b,6,none⟩) a _
def Box.seven {w:World}{b ty:Nat}{u0 u1 u2 u3 u4 u5 u6:Value}(h:Box w b ty #[u0,u1,u2,u3,u4,u5,u6]):w.cell? b=some u0/\w.cell? ⟨b,1,none⟩=some u1/\w.cell? ⟨b,2,none⟩=some u2/\w.cell? ⟨b,3,none⟩=some u3/\w.cell? ⟨b,4,none⟩=some u4/\w.cell? ⟨b,5,none⟩=some u5/\w.cell? ⟨b,6,none⟩=some u6:=⟨h.cell 0,h.cell 1,h.cell 2,h.cell 3,h.cell 4,h.cell 5,h.cell 6⟩
def uF {w:World}{I bm q:Nat}{f:SpM}{cs:Array Value}(X:Box w I 97 cs)(L:cs[5]?=some (.map (some bm)))(M:lM w bm f q){v:Sp}(hv:okS v)(x:Bc)(hq:q<1000000000) :
  Calls Tryz.prog 87 #[.pointer I,kvS v,Gz x] w λe w'=>(∃y,e=.returned y)/\lM w' bm (nS f v x) (q+1)/\w.grownBy w' (some bm):=by
 obtain⟨v1,v2⟩:=v;obtain⟨c,⟨xs,g⟩,i,j,l,m⟩:=x;show Calls Tryz.prog 87 #[.pointer I,.agg #[v1,v2],.agg #[c,xs,g,i,j,l,.bool m]] w _
 have X0:=aA ((Box.new w #[v1,v2] 90).old (.cells #[c,xs,g,i,j,l,.bool m] 94));have X1:=aA (Box.newAt (w:=w.alloc (.cells #[v1,v2] 90)) (n:=w.heap.size+1) (by simp) #[c,xs,g,i,j,l,.bool m] 94);have Z:=aA ((aF w (.cells #[v1,v2] 90)).alloc (by simp) (.cells #[c,xs,g,i,j,l,.bool m] 94));have XA:=aA (X.keep Z.o);have MA:=aA (M.keep Z.o);have N:=aA L;have HV:=aA hv;obtain⟨y,hy⟩:=aK ((f (v1,v2)).getD oD);obtain⟨sb,o⟩:=aK ((f (v1,v2)).isSome);have FY:=aA (show f (v1,v2)=if sb=true then some y else none by
  cases hf:f (v1,v2) with
  | none=>rw[hf]at o;rw[<-o];rfl
  | some z=>rw[hf]at o hy;rw[<-o,<-hy];rfl)
 obtain⟨t,⟨ys,B⟩,C,D,E,F⟩:=y;have O:=aA (λ(w':World) (hm:lM w' bm f q)=>show(Instr.lookup 95 (.map (some bm)) (.agg #[v1,v2]) true).run Tryz.prog w'=.ok (.tuple #[.agg #[t,ys,B,C,D,E,.bool F],.bool sb]) w' from by
  have:=hm.look hv;rw[hy,o]at this;exact this)
 clear X M L hv hy o;go_enter Tryz.func87,Tryz.ntmps87
 go_upto_region 1 with fail
 generalize (w.alloc (.cells #[v1,v2] 90)).alloc (.cells #[c,xs,g,i,j,l,.bool m] 94)=w0 at *
 have G:=aA ((aH w0 w0).drew);have H:=aA (X0.o.keep G.o);have Y1:=aA (X1.o.keep G.o);have P:=aA (XA.o.keep G.o);have Q:=aA (MA.o.keep G.o);have a5:=(P.o.cell 5).trans N.o;obtain⟨z0,u⟩:=H.o.two;refine aN 11 (.takes [0,1,2,3,4,5,6,7,8] (.one 9 (.one 10 (.fin 11 .done)))) (λw'=>w'.cell? ⟨I,5,none⟩=some (.map (some bm))/\w'.cell? w=some (.int .i64 v1)/\w'.cell? ⟨w,1,none⟩=some (.int .i64 v2)/\lM w' bm f q) (by kernel_rfl) (by kernel_rfl) (by kernel_rfl) (λ_ _ _ _ _ h=>h) ⟨a5,z0,u,Q.o⟩ (λp=>?_);simp only[Scr.takes];clear a5 z0 u;generalize w0.drew=w1 at *
 iterate 5
  refine aM (v:=?_) rfl (by rfl) p (λw' r=>?_) ?_
  rotate_left
  ·(go_simp;try with_reducible rfl)
  try simp only[aC]
 refine aM (v:=?_) rfl (by rfl) p (λw' r=>?_) ?_
 rotate_left
 .have a0:=O.o w' r.2.2.2;go_simp
  try with_reducible rfl
 try simp only[aC]
 iterate 3
  refine aM (v:=?_) rfl (by rfl) p (λw' r=>?_) ?_
  rotate_left
  ·(go_simp;try with_reducible rfl)
  try simp only[aC]
 have Z0:=aA (Box.new w1 #[(0:Int),(0:Int),(0:Int),(0:Int),(0:Int),(0:Int),.bool false] 94);have J:=aA (aF w1 (.cells #[(0:Int),(0:Int),(0:Int),(0:Int),(0:Int),(0:Int),.bool false] 94));have L0:=aA (PT J.o (aB _) t ys B C D E (.bool F));have Z1:=aA (Z0.o.laid7 t ys B C D E (.bool F));refine bK rfl (λKf a=>?_);go_simp
 refine a.out _ _ ⟨((P.o.keep J.o).cell 5).trans N.o,(H.o.keep J.o).two.1,(H.o.keep J.o).two.2,Q.o.keep J.o⟩ (λp=>?_);clear a;try simp only[aC]
 refine bK rfl (λKf a=>?_);have Z2:=aA (Box.new w1 #[t,ys,B,C,D,E,.bool F] 94);have s:=aA (aF w1 (.cells #[t,ys,B,C,D,E,.bool F] 94));go_simp
 refine a.out _ _ ⟨((P.o.keep s.o).cell 5).trans N.o,(H.o.keep s.o).two.1,(H.o.keep s.o).two.2,Q.o.keep s.o⟩ (λp=>?_);clear a;try simp only[aC]
 refine cH rfl (λKf a=>?_);go_simp
 refine a.out _ _ ?_;clear a;refine cE ?_;have V0:=aA (H.o.keep s.o);have V1:=aA (Y1.o.keep s.o);have VA:=aA (P.o.keep s.o);have VM:=aA (Q.o.keep s.o);have K:=aA (Z.o.trans ((G.o.trans (s.o.mono G.o.size)).mono Z.o.size));have GW:=aA (show w.grownBy (w1.alloc (.cells #[t,ys,B,C,D,E,.bool F] 94)) (some bm)from⟨K.o.os,K.o.tape,K.o.output,K.o.size,λk hk _=>K.o.block k hk⟩);clear p Z0 Z1 J L0 H Y1 P Q G X0 X1 XA MA O K;generalize w1.alloc (.cells #[t,ys,B,C,D,E,.bool F] 94)=A at *
 obtain⟨d0,d1,d2,d3,d4,d5,d6⟩:=V1.o.seven;generalize w1.heap.size=b6 at *
 obtain⟨e0,e1,e2,e3,e4,e5,e6⟩:=Z2.o.seven;cases sb
 .have R:=aA (show nS f (v1,v2) ⟨c,(xs,g),i,j,l,m⟩=wW f (v1,v2) ⟨c,(xs,g),i,j,l,m⟩ by unfold nS;rw[FY.o];rfl);go_upto_region 3 with fail
  have b:=aA ((aH A A).drew);have U0:=aA (V0.o.keep b.o);have U1:=aA (V1.o.keep b.o);have UA:=aA (VA.o.keep b.o);have UM:=aA (VM.o.keep b.o);have a5:=(UA.o.cell 5).trans N.o;obtain⟨z0,u⟩:=U0.o.two;obtain⟨S,s1,s2,s3,s4,T,U⟩:=U1.o.seven;clear d0 d1 d2 d3 d4 d5 d6 e0 e1 e2 e3 e4 e5 e6;refine aN 6 (.takes [0,1,2,3,4,5] (.fin 6 .done)) (λw'=>w'.cell? ⟨I,5,none⟩=some (.map (some bm))/\(w'.cell? w=some (.int .i64 v1)/\w'.cell? ⟨w,1,none⟩=some (.int .i64 v2))/\w'.cell? ⟨w.heap.size+1,0,none⟩=some (.int .i64 c)/\w'.cell? ⟨w.heap.size+1,1,none⟩=some (.int .i64 xs)/\w'.cell? ⟨w.heap.size+1,2,none⟩=some (.int .i64 g)/\w'.cell? ⟨w.heap.size+1,3,none⟩=some (.int .i64 i)/\w'.cell? ⟨w.heap.size+1,4,none⟩=some (.int .i64 j)/\w'.cell? ⟨w.heap.size+1,5,none⟩=some (.int .i64 l)/\w'.cell? ⟨w.heap.size+1,6,none⟩=some (.bool m)) (by kernel_rfl) (by kernel_rfl) (by kernel_rfl) (λ_ _ _ _ _ h=>h) ⟨a5,⟨z0,u⟩,S,s1,s2,s3,s4,T,U⟩ (λp=>?_);simp only[Scr.takes];clear a5 z0 u S s1 s2 s3 s4 T U;have GD:=aA (show w.grownBy A.drew (some bm)from GW.o.trans ⟨rfl,rfl,rfl,aB _,λ_ _ _=>rfl⟩);generalize A.drew=w3 at *
  iterate 6
   refine aM (v:=?_) rfl (by rfl) p (λw' r=>?_) ?_
   rotate_left
   ·(go_simp;try with_reducible rfl)
   try simp only[aC]
  obtain⟨w4,d,V,W⟩:=UM.o.update HV.o ⟨c,(xs,g),i,j,l,m⟩ (show q<maxLen by simp only[maxLen];omega);have N4:=aA (show lM w4 bm (nS f (v1,v2) ⟨c,(xs,g),i,j,l,m⟩) (q+1) by rw[R.o];exact V);have H4:=aA W;simp only[kvS,Gz]at d;clear V W;refine cH rfl (λKf a=>?_);go_simp
  refine a.out _ _ ?_;clear a;refine cE ?_;clear d p;go_wp2
  go_end0
  exact⟨⟨_,rfl⟩,N4.o,GD.o.trans H4.o⟩
 .by_cases Y:c<t
  rotate_left
  .have R:=aA (show nS f (v1,v2) ⟨c,(xs,g),i,j,l,m⟩=f by unfold nS;rw[FY.o];simp only[if_true,aD Y]);clear e1 e2 e3 e4 e5 e6 d1 d2 d3 d4 d5 d6;go_wp2
   go_end0
   exact⟨⟨_,rfl⟩,by rw[R.o];exact VM.o.mono (Nat.le_succ _),GW.o⟩
  have R:=aA (show nS f (v1,v2) ⟨c,(xs,g),i,j,l,m⟩=wW f (v1,v2) ⟨c,(xs,g),i,j,l,m⟩ by unfold nS;rw[FY.o];simp only[if_true,aG Y]);go_upto_region 3 with fail
  have b:=aA ((aH A A).drew);have U0:=aA (V0.o.keep b.o);have U1:=aA (V1.o.keep b.o);have UA:=aA (VA.o.keep b.o);have UM:=aA (VM.o.keep b.o);have a5:=(UA.o.cell 5).trans N.o;obtain⟨z0,u⟩:=U0.o.two;obtain⟨S,s1,s2,s3,s4,T,U⟩:=U1.o.seven;clear d0 d1 d2 d3 d4 d5 d6 e0 e1 e2 e3 e4 e5 e6;refine aN 6 (.takes [0,1,2,3,4,5] (.fin 6 .done)) (λw'=>w'.cell? ⟨I,5,none⟩=some (.map (some bm))/\(w'.cell? w=some (.int .i64 v1)/\w'.cell? ⟨w,1,none⟩=some (.int .i64 v2))/\w'.cell? ⟨w.heap.size+1,0,none⟩=some (.int .i64 c)/\w'.cell? ⟨w.heap.size+1,1,none⟩=some (.int .i64 xs)/\w'.cell? ⟨w.heap.size+1,2,none⟩=some (.int .i64 g)/\w'.cell? ⟨w.heap.size+1,3,none⟩=some (.int .i64 i)/\w'.cell? ⟨w.heap.size+1,4,none⟩=some (.int .i64 j)/\w'.cell? ⟨w.heap.size+1,5,none⟩=some (.int .i64 l)/\w'.cell? ⟨w.heap.size+1,6,none⟩=some (.bool m)) (by kernel_rfl) (by kernel_rfl) (by kernel_rfl) (λ_ _ _ _ _ h=>h) ⟨a5,⟨z0,u⟩,S,s1,s2,s3,s4,T,U⟩ (λp=>?_);simp only[Scr.takes];clear a5 z0 u S s1 s2 s3 s4 T U;have GD:=aA (show w.grownBy A.drew (some bm)from GW.o.trans ⟨rfl,rfl,rfl,aB _,λ_ _ _=>rfl⟩);generalize A.drew=w3 at *
  iterate 6
   refine aM (v:=?_) rfl (by rfl) p (λw' r=>?_) ?_
   rotate_left
   ·(go_simp;try with_reducible rfl)
   try simp only[aC]
  obtain⟨w4,d,V,W⟩:=UM.o.update HV.o ⟨c,(xs,g),i,j,l,m⟩ (show q<maxLen by simp only[maxLen];omega);have N4:=aA (show lM w4 bm (nS f (v1,v2) ⟨c,(xs,g),i,j,l,m⟩) (q+1) by rw[R.o];exact V);have H4:=aA W;simp only[kvS,Gz]at d;clear V W;refine cH rfl (λKf a=>?_);go_simp
  refine a.out _ _ ?_;clear a;refine cE ?_;clear d p;go_wp2
  go_end0
  exact⟨⟨_,rfl⟩,N4.o,GD.o.trans H4.o⟩
def yG (f:SpM)(left:Lit->Bool)(best:Sp)(sm:Bool):Prop :=
 (sm=false->best=(0,0))/\(sm=true->∃x,f best=some x/\x.done=false) /\
 ∀v x,f v=some x->x.done=false->left (kkS v)=false->sm=true/\∃y,f best=some y/\y.cost<=x.cost
def yG.small {f:SpM}{left:Lit->Bool}{best:Sp}{sm:Bool}(h:yG f left best sm)(a:∀v x,f v=some x->okS v):okS best:=by
 cases sm
 .rw[h.1 rfl];exact⟨by simp,by simp⟩
 obtain⟨x,b,_⟩:=h.2.1 rfl;exact a _ _ b
section
variable {f:SpM} {left:Lit->Bool} {best v:Sp} {sm:Bool} {x:Bc}
def NR (a:∀v x,f v=some x->okS v)(b:f v=some x){u:Sp}{y:Bc}(c:f u=some y)(h:(left (kkS u)&&!(kkS u).sameKey (kkS v))=false):u=v∨left (kkS u)=false:=by
 cases hl:left (kkS u)
 .exact .inr rfl
 rw[hl]at h;simp only[Bool.true_and,Bool.not_eq_false']at h;exact .inl (Gp (a _ _ c) (a _ _ b) ((WideAt.sameKey_iff (qS.key (oC v (a _ _ b)))).1 h))
def yG.skip (h:yG f left best sm)(g:∀v x,f v=some x->okS v)(e:f v=some x)(b:x.done=true∨(sm=true/\∃y,f best=some y/\y.cost<=x.cost)):yG f (λz=>left z&&!z.sameKey (kkS v)) best sm:=by
 refine⟨h.1,h.2.1,λu y a c d=>?_⟩;rcases NR g e a d with rfl|d
 .rw[e]at a;injection a with a;subst a;rcases b with b|b
  .rw[b]at c;cases c
  exact b
 exact h.2.2 u y a c d
def yG.take (h:yG f left best sm)(j:∀v x,f v=some x->okS v)(b:f v=some x)(k:x.done=false)(c:sm=false∨∃y,f best=some y/\x.cost<=y.cost):yG f (λz=>left z&&!z.sameKey (kkS v)) v true:=by
 refine⟨λe=>(by cases e),λ_=>⟨x,b,k⟩,λu y a g i=>⟨rfl,x,b, ?_⟩⟩;rcases NR j b a i with rfl|i
 .rw[b]at a;injection a with a;subst a;exact iH _
 obtain⟨l,z,m,n⟩:=h.2.2 u y a g i;rcases c with c|⟨o,d,p⟩
 .rw[l]at c;cases c
 rw[m]at d;injection d with d;subst d;omega
end
def Xl {w w':World}(a:Below w w w'):w.grownBy w' none:=⟨a.os,a.tape,a.output,a.size,λk b _=>a.block k b⟩
def wY (w:World)(b:Nat)(u v:Value):w.grownBy ((w.setCell b u).setCell ⟨b,1,none⟩ v) (some b) :=
 ⟨rfl,rfl,rfl,by simp[World.setCell],λk _ a=>(eN _ _ _ _ (λe=>a (by rw[e]))).trans (eN _ _ _ _ (λe=>a (by rw[e])))⟩
def Xm (f:SpM)(w:World)(e:Ending)(w':World):Prop :=
 Below w.heap.size w w'/\∃best sm,e=.returned (.tuple #[kvS best,.bool sm])/\(sm=false->∀v x,f v=some x->x.done=true) /\
  (sm=true->∃x,f best=some x/\x.done=false/\∀v y,f v=some y->y.done=false->x.cost<=y.cost)
def yG.fin {f:SpM}{left:Lit->Bool}{best:Sp}{sm:Bool}(h:yG f left best sm)(g:∀i,left i=false):(sm=false->∀v x,f v=some x->x.done=true)/\(sm=true->∃x,f best=some x/\x.done=false/\∀v y,f v=some y->y.done=false->x.cost<=y.cost):=by
 refine⟨λc v x a=>?_,λc=>?_⟩
 .cases d:x.done
  .have:=(h.2.2 v x a d (g _)).1;rw[c]at this;cases this
  rfl
 obtain⟨x,a,d⟩:=h.2.1 c;refine⟨x,a,d,λv y j e=>?_⟩;obtain⟨_,z,b,k⟩:=h.2.2 v y j e (g _);rw[a]at b;injection b with b;subst b;exact k
def Gq {w:World}{ba bm q:Nat}{f:SpM}{cs:Array Value}(X:Box w ba 97 cs)(a6:cs[5]?=some (.map (some bm)))(M:lM w bm f q) :
  Calls Tryz.prog 40 #[.pointer ba] w (Xm f w):=by
 have L:=aA ((Box.new w #[(0:Int),(0:Int)] 90).old (.cells #[(0:Int),(0:Int)] 90));have Y:=aA (Box.newAt (w:=w.alloc (.cells #[(0:Int),(0:Int)] 90)) (n:=w.heap.size+1) (by simp) #[(0:Int),(0:Int)] 90);have B0:=aA ((aF w (.cells #[(0:Int),(0:Int)] 90)).alloc (by simp) (.cells #[(0:Int),(0:Int)] 90));have S0:=aA (show((w.alloc (.cells #[(0:Int),(0:Int)] 90)).alloc (.cells #[(0:Int),(0:Int)] 90)).heap.size=w.heap.size+1+1 by simp);have LA:=aA X.lt;have XA:=aA X;have MA:=aA (M.keep B0.o);have HC:=aA a6;have N:=aA M.1;have O:=aA M.lt;clear X M a6;go_enter Tryz.func40,Tryz.ntmps40
 go_upto_region 2 with fail
 generalize (w.alloc (.cells #[(0:Int),(0:Int)] 90)).alloc (.cells #[(0:Int),(0:Int)] 90)=w0 at *
 obtain⟨h0,D,n,h1,hn,h3,h4⟩:=MA.o;have H3:=aA h3;have H4:=aA h4;have a5:=((XA.o.keep B0.o).cell 5).trans HC.o;clear h0 h3 h4;go_wp2_with (at_range;refine wpList_range_own _ rfl _ 95 rfl 90 _ qS Tryz.underlying95 r7 bm n D rfl h1 ?_;intro w1 T C d1)
 go_frame
 have I0:=aA (show yG f (Maps.has D) (0,0) false from⟨λ_=>rfl,λe=>(by cases e),λv x hv _ hl=>by
  have:=(H3.o v x hv).1;rw[this]at hl;cases hl⟩)
 have a9:=aA (Y.o.grown C (by simp));have b3:=aA (L.o.grown C (by simp));have B1:=aA (B0.o.grown C B0.o.size (λj hj=>by cases hj));have M1:=aA (MA.o.beside C (by simp));clear a5 Y L C d1 h1;go_loopw [5] (λu5 wr=>∃(left:Lit->Bool) (Z:Nat) (d l:Int) (sm:Bool),u5=.bool sm/\wr.ranges Tryz.prog 90 r7 bm w0 n D left Z/\Hid (yG f left (d,l) sm)/\Hid (Box wr (w.heap.size+1) 90 #[d,l])/\Hid (Box wr w 90 #[(0:Int),(0:Int)])/\Hid (Below w w wr)/\Hid (lM wr bm f q)) (λ_ wr=>wr.rangeLeft bm w0)
 case atStart=>exact⟨_,_,0,0,false,rfl,T,I0,a9,b3,B1,M1⟩
 case round =>
  clear T I0 a9 b3 B1 M1 B0 MA;obtain⟨left,Z,d,l,sm,rfl,P,NI,Y,L,BW,MW⟩:=hrel;go_wp2_with (at_next;refine wpList_next_ranges _ rfl _ rfl 90 qS r7 (λv=>v) (λv=>v) (λkey kl hk=>⟨key,rfl⟩) (λv y hv=>⟨v,rfl⟩) bm w0 n D left Z rfl P ?_ ?_)
  .intro f3 b4;have FN:=aA (NI.o.fin b4);have b0:=Y.o.two.1;have f4:=Y.o.two.2;have f0:=L.o.frozen 0;have f1:=L.o.frozen 1;obtain⟨r0,r1⟩:=L.o.two;have XE:=aA (L.o.set2 d l);have BE:=aA ((BW.o.setCell (p:=⟨w,0,none⟩) (aB _) d).setCell (p:=⟨w,1,none⟩) (aB _) l);clear b4 P;go_wp2
   obtain⟨z0,E⟩:=XE.o.two;exact aU (v:=.tuple #[.agg #[d,l],.bool sm]) (by simp[results,Tryz.results40,go_sem,z0,E]) rfl ⟨BE.o,(d,l),sm,rfl,FN.o.1,FN.o.2⟩
  intro xk xv kl yd yp w2 c F b5 hv a0 U b6 G d2 d3;obtain⟨⟨k1,b⟩,⟨V,⟨xs,xm⟩,H,xl,xt,xd⟩,Q,d4⟩:=H4.o xk kl F (Maps.has_true_of_atKey a0);subst d4;have b7:=N.o _ _ Q;obtain rfl:xk=.agg #[k1,b]:=qS.inj F (oC _ b7);obtain⟨x',ex,ed⟩:=uE hv;have d5:=vK (ed.symm.trans ((a0 (.agg [])).symm.trans ((H3.o _ _ Q).2 (.agg []))));subst d5;obtain rfl:xv=.agg #[V,xs,xm,H,xl,xt,.bool xd]:=ex;have a1:w0.heap.size≠w.heap.size+1:=by have:=S0.o;omega
  have b9:w0.heap.size≠w.heap.size:=by have:=S0.o;omega
  have t:=aA (λhs=>NI.o.skip N.o Q hs);have u:=aA (λhs=>NI.o.take N.o Q hs);have d6:=aA (NI.o.small N.o);have d7:=aA (Y.o.grown G (by simpa using a1));have e7:=aA (L.o.grown G (by simpa using b9));have B2:=aA (BW.o.grown G BW.o.size (λk e=>by cases e;have:=S0.o;omega));have M2:=aA (MW.o.beside G (by have:=O.o;have:=S0.o;simp;omega));have RG:=aA U;have g:=aA b6;have i:=aA P.left_eq;have R:=aA a1;have e8:=aA NI.o;have m:=(aF w2 (.cells #[k1,b] 90)).alloc (by simp) (.cells #[V,xs,xm,H,xl,xt,.bool xd] 94);have XK:=aA ((Box.new w2 #[k1,b] 90).old (.cells #[V,xs,xm,H,xl,xt,.bool xd] 94));have XS:=aA (Box.newAt (w:=w2.alloc (.cells #[k1,b] 90)) (n:=w2.heap.size+1) (by simp) #[V,xs,xm,H,xl,xt,.bool xd] 94);have a2:=aA (d7.o.keep m);have a3:=aA (e7.o.keep m);have B3:=aA (B2.o.trans (m.mono B2.o.size));have M3:=aA (M2.o.keep m);have R3:=aA (RG.o.kept (Xl m) (by simp) (by simp));clear d2 F b5 hv a0 U G P b6 m ed b7 a1 b9 Y L BW MW NI;go_upto_region 6 with fail
  clear d3;generalize (w2.alloc (.cells #[k1,b] 90)).alloc (.cells #[V,xs,xm,H,xl,xt,.bool xd] 94)=w3 at *
  obtain⟨s0,s1,s2,s3,s4,s5,s6⟩:=XS.o.seven;cases xd
  rotate_left
  .have o:=aA (t.o (.inl rfl));clear s1 s2 s3 s4 s5;go_wp2
   go_roundw
   case rel=>exact⟨_,c,d,l,sm,rfl,R3.o,o,a2,a3,B3,M3⟩
   rw[R3.o.left_eq,i.o];exact g.o
  go_upto_region 7 with fail
  obtain⟨y,hy⟩:=aK ((f (d,l)).getD oD);have YS:=aA (show sm=true->f (d,l)=some y from λe=>by
   obtain⟨z,hz,_⟩:=e8.o.2.1 e;rw[hz]at hy ⊢;exact aO some hy)
  obtain⟨yc,⟨ys,ym⟩,yk,yl,yt,yd⟩:=y;have c0:=aA (λ(w':World) (hm:lM w' bm f q)=>show(Instr.lookup 95 (.map (some bm)) (.agg #[d,l]) false).run Tryz.prog w'=.ok (.agg #[yc,ys,ym,yk,yl,yt,.bool yd]) w' from by
   have:=hm.at d6.o;rw[hy]at this;exact this)
  clear hy s0 s1 s2 s3 s4 s5 s6;have S:=aA ((aH w3 w3).drew);have a4:=aA (XA.o.keepB (B3.o.trans (S.o.mono B3.o.size)) LA.o);have I:=aA (a2.o.keep S.o);have c5:=aA (a3.o.keep S.o);have c6:=aA (XK.o.keep S.o);have c7:=aA (XS.o.keep S.o);have MD:=aA (M3.o.keep S.o);have BD:=aA (B3.o.trans (S.o.mono B3.o.size));have RD:=aA (R3.o.kept (Xl S.o) (by simp) (by simp));have a5:=(a4.o.cell 5).trans HC.o;obtain⟨z0,E⟩:=I.o.two;refine aN 7 (.takes [0,1,2,3,4,5] (.one 6 (.fin 7 .done))) (λw'=>w'.cell? ⟨ba,5,none⟩=some (.map (some bm))/\w'.cell? ⟨w.heap.size+1,0,none⟩=some (.int .i64 d)/\w'.cell? ⟨w.heap.size+1,1,none⟩=some (.int .i64 l)/\lM w' bm f q) (by kernel_rfl) (by kernel_rfl) (by kernel_rfl) (λ_ _ _ _ _ h=>h) ⟨a5,z0,E,MD.o⟩ (λhH=>?_);simp only[Scr.takes];clear a5 z0 E a2 a3 XK XS M3 B3 R3 S;generalize w3.drew=w4 at *
  iterate 5
   refine aM (v:=?_) rfl (by rfl) hH (λw' c8=>?_) ?_
   rotate_left
   ·(go_simp;try with_reducible rfl)
   try simp only[aC]
  refine aM (v:=?_) rfl (by rfl) hH (λw' c8=>?_) ?_
  rotate_left
  .have b5:=c0.o w' c8.2.2.2;go_simp
   try with_reducible rfl
  try simp only[aC]
  have Z0:=aA (Box.new w4 #[(0:Int),(0:Int),(0:Int),(0:Int),(0:Int),(0:Int),.bool false] 94);have E:=aA (aF w4 (.cells #[(0:Int),(0:Int),(0:Int),(0:Int),(0:Int),(0:Int),.bool false] 94));refine bK rfl (λKf J=>?_);go_simp
  refine J.out _ _ ⟨((a4.o.keep E.o).cell 5).trans HC.o,(I.o.keep E.o).two.1,(I.o.keep E.o).two.2,MD.o.keep E.o⟩ (λhH=>?_);clear J;try simp only[aC]
  refine cH rfl (λKf J=>?_);have m:=aF w4 (.cells #[yc,ys,ym,yk,yl,yt,.bool yd] 94);have XY:=aA (Box.new w4 #[yc,ys,ym,yk,yl,yt,.bool yd] 94);have a:=aA (I.o.keep m);have r:=aA (c5.o.keep m);have e9:=aA (c6.o.keep m);have f2:=aA (c7.o.keep m);have M4:=aA (MD.o.keep m);have B4:=aA (BD.o.trans (m.mono BD.o.size));have A:=aA (RD.o.kept (Xl m) (by simp) (by simp));go_simp
  refine J.out _ _ ?_;clear J;refine cE ?_;clear hH Z0 E m a4 I c5 c6 c7 MD BD RD c0;generalize w4.alloc (.cells #[yc,ys,ym,yk,yl,yt,.bool yd] 94)=B at *
  generalize w4.heap.size=b8 at *
  obtain⟨e0,e1,e2,e3,e4,e5,e6⟩:=XY.o.seven;obtain⟨s0,s1,s2,s3,s4,s5,s6⟩:=f2.o.seven;obtain⟨k0,f5⟩:=e9.o.two;obtain⟨z0,E⟩:=a.o.two;clear e1 e2 e3 e4 e5 e6 s1 s2 s3 s4 s5 s6;cases sm
  .skip
   have o:=aA (u.o rfl (.inl rfl));have g0:=a.o.frozen 0;have g1:=a.o.frozen 1;have XN:=aA (a.o.set2 k1 b);have s:=aA (r.o.grown (wY B (w.heap.size+1) k1 b) (by simp));have BN:=aA ((B4.o.setCell (p:=⟨w.heap.size+1,0,none⟩) (Nat.le_succ _) k1).setCell (p:=⟨w.heap.size+1,1,none⟩) (Nat.le_succ _) b);have MN:=aA (M4.o.beside (wY B (w.heap.size+1) k1 b) (by have:=O.o;simp;omega));have K:=aA (A.o.kept (wY B (w.heap.size+1) k1 b) (by have:=O.o;simp;omega) (by have:=R.o;simpa using this));clear A;go_wp2
   go_roundw
   case rel=>exact⟨_,c,k1,b,true,rfl,K.o,o,XN,s,BN,MN⟩
   rw[K.o.left_eq,i.o];exact g.o
  by_cases f6:V<yc
  .skip
   have o:=aA (u.o rfl (.inr ⟨_,YS.o rfl,by simp only;omega⟩));have g0:=a.o.frozen 0;have g1:=a.o.frozen 1;have XN:=aA (a.o.set2 k1 b);have s:=aA (r.o.grown (wY B (w.heap.size+1) k1 b) (by simp));have BN:=aA ((B4.o.setCell (p:=⟨w.heap.size+1,0,none⟩) (Nat.le_succ _) k1).setCell (p:=⟨w.heap.size+1,1,none⟩) (Nat.le_succ _) b);have MN:=aA (M4.o.beside (wY B (w.heap.size+1) k1 b) (by have:=O.o;simp;omega));have K:=aA (A.o.kept (wY B (w.heap.size+1) k1 b) (by have:=O.o;simp;omega) (by have:=R.o;simpa using this));clear A;go_wp2
   go_roundw
   case rel=>exact⟨_,c,k1,b,true,rfl,K.o,o,XN,s,BN,MN⟩
   rw[K.o.left_eq,i.o];exact g.o
  by_cases c9:V=yc
  rotate_left
  .have g2:(V==yc)=false:=by simpa using c9
   have o:=aA (t.o (.inr ⟨rfl,_,YS.o rfl,by simp only;omega⟩));have W:=aA (A.o);clear A;go_wp2
   go_roundw
   case rel=>exact⟨_,c,d,l,true,rfl,W.o,o,a,r,B4,M4⟩
   rw[W.o.left_eq,i.o];exact g.o
  subst c9;by_cases g3:k1<d
  .skip
   have o:=aA (u.o rfl (.inr ⟨_,YS.o rfl,iH _⟩));have g0:=a.o.frozen 0;have g1:=a.o.frozen 1;have XN:=aA (a.o.set2 k1 b);have s:=aA (r.o.grown (wY B (w.heap.size+1) k1 b) (by simp));have BN:=aA ((B4.o.setCell (p:=⟨w.heap.size+1,0,none⟩) (Nat.le_succ _) k1).setCell (p:=⟨w.heap.size+1,1,none⟩) (Nat.le_succ _) b);have MN:=aA (M4.o.beside (wY B (w.heap.size+1) k1 b) (by have:=O.o;simp;omega));have K:=aA (A.o.kept (wY B (w.heap.size+1) k1 b) (by have:=O.o;simp;omega) (by have:=R.o;simpa using this));clear A;go_wp2
   go_roundw
   case rel=>exact⟨_,c,k1,b,true,rfl,K.o,o,XN,s,BN,MN⟩
   rw[K.o.left_eq,i.o];exact g.o
  by_cases d0:k1=d
  rotate_left
  .have g4:(k1==d)=false:=by simpa using d0
   have o:=aA (t.o (.inr ⟨rfl,_,YS.o rfl,iH _⟩));have W:=aA (A.o);clear A;go_wp2
   go_roundw
   case rel=>exact⟨_,c,d,l,true,rfl,W.o,o,a,r,B4,M4⟩
   rw[W.o.left_eq,i.o];exact g.o
  subst d0;by_cases g5:b<l
  .skip
   have o:=aA (u.o rfl (.inr ⟨_,YS.o rfl,iH _⟩));have g0:=a.o.frozen 0;have g1:=a.o.frozen 1;have XN:=aA (a.o.set2 k1 b);have s:=aA (r.o.grown (wY B (w.heap.size+1) k1 b) (by simp));have BN:=aA ((B4.o.setCell (p:=⟨w.heap.size+1,0,none⟩) (Nat.le_succ _) k1).setCell (p:=⟨w.heap.size+1,1,none⟩) (Nat.le_succ _) b);have MN:=aA (M4.o.beside (wY B (w.heap.size+1) k1 b) (by have:=O.o;simp;omega));have K:=aA (A.o.kept (wY B (w.heap.size+1) k1 b) (by have:=O.o;simp;omega) (by have:=R.o;simpa using this));clear A;go_wp2
   go_roundw
   case rel=>exact⟨_,c,k1,b,true,rfl,K.o,o,XN,s,BN,MN⟩
   rw[K.o.left_eq,i.o];exact g.o
  skip
  have o:=aA (t.o (.inr ⟨rfl,_,YS.o rfl,iH _⟩));have W:=aA (A.o);clear A;go_wp2
  go_roundw
  case rel=>exact⟨_,c,k1,l,true,rfl,W.o,o,a,r,B4,M4⟩
  rw[W.o.left_eq,i.o];exact g.o
section
variable {w:World} {bp:Nat} {A D Al Ae:OAd} {n c m d nl cl ce:Nat} {ars:List cC} {ls:LIn} {es:List Bool}
end
def Jm {w:World}{A:OAd}{n c:Nat}{ts:List bG}(h:eC w A n c ts):eC w.drew A n c ts:=h.keep ⟨rfl,rfl,rfl,aB _,λ_ _=>rfl⟩
noncomputable def pO (N:eB)(i o:Int):PSp×Int:=if eE N i o=0 then eD N (lX (min N.places 16).toNat i) 300 else(PSp.nil,eE N i o)
def As {N:eB}{i o:Int}(h:eE N i o≠0):pO N i o=(PSp.nil,eE N i o):=by rw[pO,aD h]
def Av {N:eB}{i o:Int}(h:eE N i o=0):pO N i o=eD N (lX (min N.places 16).toNat i) 300:=by rw[pO,aG h]
def Cb (N:eB)(o:Int):LIn:=lX (min N.places 16).toNat o
def jU (N:eB):LIn:=N.trans.map λt=>t.label
section
variable {N NE:Nat} {w0 w w':World} {A:OAd} {n c:Nat} {D:OAd} {m d:Nat} {vl:Value} {ll:LIn} {ve:Value} {el:List Bool}
end
def Sz (N:eB)(o:Int)(r:PSp×Int)(w:World)(e:Ending)(w':World):Prop :=
 ∃U a V cv,e=.returned (.tuple #[.agg #[.slice U r.1.marks.length a,.slice V r.1.arcs.length cv],.int .i64 (toV (eH r.1.marks (Cb N o))),.int .i64 r.2])/\cQ w' U r.1.marks.length a r.1.marks/\qD w' V r.1.arcs.length cv r.1.arcs/\Below w.heap.size w w'
def Jn {w:World}{P:Int}{A:OAd}{n c:Nat}{ts:List bG}(i o:Int)(h:eC w A n c ts)(hn:n<=2513169434916) :
  Calls Tryz.prog 53 #[.agg #[P,.slice A n c],i,o] w (Sz ⟨P,ts⟩ o (pO ⟨P,ts⟩ i o) w):=by
 generalize hw:((w.alloc (.cells #[P,.slice A n c] 41)).alloc (.cells #[(),()] 78))=w0;have HB:=aA (show Below w w w0 by rw[<-hw];exact((aH _ _).alloc (aB _) _).alloc (by simp) _);have X0:=aA (show Box w0 w 41 #[P,.slice A n c] by rw[<-hw];exact(Box.new _ _ _).old _);have X1:=aA (show Box w0 (w.heap.size+1) 78 #[(),()] by rw[<-hw];exact Box.newAt (by simp) _ _);have H:=aA (h.keep HB.o);have CW:=aA (mU (P:=P) i o H.o hn);have TW:=aA (As (N:=⟨P,ts⟩) (i:=i) (o:=o));have TG:=aA (Av (N:=⟨P,ts⟩) (i:=i) (o:=o));have S2:=aA (λhs=>pL (N:=⟨P,ts⟩) (i:=i) (o:=o) hs);have TL:=aA (show ts.length=n from h.len);clear h;obtain⟨R,hR⟩:=aK (pO ⟨P,ts⟩ i o);rw[hR]at TW TG;rw[hR];clear hR;obtain⟨sw,b1⟩:=aK (eE ⟨P,ts⟩ i o);rw[b1]at TW TG CW S2;clear b1;go_enter Tryz.func53,Tryz.ntmps53
 go_upto_region 1 with fail
 clear hw;obtain⟨a0,a1⟩:=X0.o.two;by_cases b2:sw=0
 .subst b2;obtain⟨p2,b7⟩:=S2.o rfl;go_upto_region 4 with(go_at_call 47;go_loud ((with_reducible refine CW.o.mono ?_);rintro e w1 ⟨rfl,G⟩;have X:=aA G;clear G))
  have l:=aA (X0.o.keep X.o).drew;have z:=aA (X1.o.keep X.o).drew;have BZ:=aA (HB.o.trans (X.o.mono HB.o.size)).drew;have H1:=aA (Jm (H.o.keep X.o));obtain⟨L,M⟩:=aK ((min P 16).toNat);have O:=aA M;obtain⟨g,hg⟩:=aK (eD ⟨P,ts⟩ (lX L i) 300);have d3:P<=16:=((bN _).1 b7).2.1;have d4:2<=L:=by omega
  have TR:=aA (show R=g by have:=TG.o (by trivial);simp only[M,hg]at this;exact this);have EL:=aA (show Cb ⟨P,ts⟩ o=lX L o by unfold Cb;rw[M]);have Q:=aA (λ(F:g.2≠0)=>show g.1=PSp.nil by rw[<-hg];exact o0 (by rw[hg];exact F));have S:=aA (λ(F:g.2=0)=>show tD ⟨P,ts⟩ (300:Int).toNat g.1 by rw[<-hg];exact(kN (by rw[hg];exact F)).2);have CG:=aA (λ(w':World) (C:OAd) (B:Nat) (f:Below w1.drew w1.drew w') (u:aY w' C L B (lX L i))=>show Calls _ _ _ _ (qH g w') by rw[<-hg];exact tN (P:=P) 300 (H1.o.keep f) u);have D:=aA (aH w1.drew w1.drew);have ML:=aA (show ∀x∈g.1.marks,2<=x.length from λx hx=>by
   by_cases F:g.2=0
   .have:=((cR _ _).1 ((S.o F).fits x hx)).2.1;simp only at this;omega
   rw[Q.o F]at hx;cases hx)
  have ND:=aA (show g.1.marks.Nodup by
   by_cases F:g.2=0
   .exact(S.o F).nodup
   rw[Q.o F];exact List.nodup_nil)
  have b3:=aA (show g.1.marks.length<=300 by
   by_cases F:g.2=0
   .exact(S.o F).few
   rw[Q.o F];exact aL _)
  clear hg M TW TG S2 X0 X1 HB H X a0 a1 Q S;obtain⟨s,k⟩:=g;simp only at ML ND b3;obtain rfl:R=(s,k):=TR.o;clear TR;obtain⟨a0,a1⟩:=l.o.two;refine aN 10 (.takes [0,1,2] (.two 3 (.two 4 (.takes [5,6,7] (.one 8 (.one 9 (.fin 10 .done)))) 8 (.one 4 (.takes [5,6,7] (.one 9 (.fin 10 .done))))) 8 (.one 3 (.one 4 (.takes [5,6,7] (.one 9 (.fin 10 .done))))))) (λw'=>w'.cell? w=some (.int .i64 P)/\w'.cell? ⟨w,1,none⟩=some (.slice A n c)) (by kernel_rfl) (by kernel_rfl) (by kernel_rfl) (λ_ _ _ _ _ h=>h) ⟨a0,a1⟩ (λt=>?_);simp only[Scr.takes];generalize w1.drew=u0 at *
  iterate 3
   refine aM (v:=?_) rfl (by rfl) t (λw' a2=>?_) ?_
   rotate_left
   ·(go_simp;try with_reducible rfl)
   try simp only[aC]
  refine DY (.fin 10 .done) (λa0 a' w'=>∃(C:OAd) (B:Nat) (U:OAd) (p:Nat) (V:OAd) (cv a3:Nat),a'=((((((a0.put (some 27) (.slice C L B)).put (some 28) (.tuple #[.agg #[.slice U s.marks.length p,.slice V s.arcs.length cv],k])).put (some 23) (.tuple #[.agg #[.slice U s.marks.length p,.slice V s.arcs.length cv],k])).put (some 29) (.agg #[.slice U s.marks.length p,.slice V s.arcs.length cv])).put (some 30) k).put (some 10) (.pointer a3))/\Hid (Box w' a3 78 #[.slice U s.marks.length p,.slice V s.arcs.length cv])/\Hid (cQ w' U s.marks.length p s.marks)/\Hid (qD w' V s.arcs.length cv s.arcs)/\Hid (Below u0 u0 w')) ?_ (λEN=>?_)
  rotate_left
  .refine mN rfl rfl (λI a=>?_) (λI a=>?_)
   rotate_left
   .go_simp
    have j:=aA (show Below u0 u0 (u0.alloc (.cells #[(),()] 78))from D.o.alloc D.o.size _);have b9:=aA (show Box (u0.alloc (.cells #[(),()] 78)) u0 78 #[(),()]from Box.new _ _ _);have c0:=aA (show u0.heap.size<=u0.heap.size from D.o.size);refine a.out _ _ ⟨(l.o.keep j.o).two.1,(l.o.keep j.o).two.2⟩ (λt=>?_);clear a;try simp only[aC]
    generalize u0.alloc (.cells #[(),()] 78)=u1 at *
    refine bK rfl (λI a=>?_);go_simp;go_at_call 49
    (with_reducible refine(fU u1 P i A n c).mono ?_)
    rw[O.o];rintro e u2 ⟨C,B,rfl,u,f,_⟩;have a4:=aA u;have a5:=aA (b9.o.keep f);have d:=aA (j.o.trans (f.mono j.o.size));clear u f;refine a.out _ _ ⟨(l.o.keep d.o).two.1,(l.o.keep d.o).two.2⟩ (λt=>?_);clear a;try simp only[aC]
    refine bK rfl (λI a=>?_);go_simp;go_at_call 48
    (with_reducible refine(CG.o u2 _ _ d.o a4.o).mono ?_)
    rintro e u3 ⟨U,p,V,cv,rfl,Y,Z,f⟩;have J:=aA Y;have K:=aA Z;have b:=aA (a5.o.keep f);have m:=aA (d.o.trans (f.mono d.o.size));clear Y Z f;refine a.out _ _ ⟨(l.o.keep m.o).two.1,(l.o.keep m.o).two.2⟩ (λt=>?_);clear a
    iterate 3
     refine aM (v:=?_) rfl (by rfl) t (λw' a2=>?_) ?_
     rotate_left
     ·(go_simp;try with_reducible rfl)
     try simp only[aC]
    refine bK rfl (λI a=>?_);obtain⟨s0,s1⟩:=b.o.two;have b4:=b.o.frozen 0;have b5:=b.o.frozen 1;go_simp
    have E:=aA (cX m.o (aB _) c0.o (.slice U s.marks.length p) (.slice V s.arcs.length cv));refine a.out _ _ ⟨(l.o.keep E.o).two.1,(l.o.keep E.o).two.2⟩ (λt=>?_);clear a;try simp only[aC]
    exact EN.o _ _ ⟨C,B,U,p,V,cv,u0.heap.size,rfl,aA (b.o.set2 _ _),aA (cQ.besideZ J.o ML.o b.o _ _),aA (qD.besideZ K.o b.o _ _),E⟩ t
   go_simp;go_at_call 49
   (with_reducible refine(fU u0 P i A n c).mono ?_)
   rw[O.o];rintro e u1 ⟨C,B,rfl,u,f,_⟩;have b6:=aA u;have j:=aA (D.o.trans (f.mono D.o.size));clear u f;refine a.out _ _ ⟨(l.o.keep j.o).two.1,(l.o.keep j.o).two.2⟩ (λt=>?_);clear a;try simp only[aC]
   refine mN rfl rfl (λI a=>?_) (λI a=>?_)
   .go_simp;go_at_call 48
    (with_reducible refine(CG.o u1 _ _ j.o b6.o).mono ?_)
    rintro e u2 ⟨U,p,V,cv,rfl,Y,Z,f⟩;have c5:=aA Y;have c6:=aA Z;have d:=aA (j.o.trans (f.mono j.o.size));clear Y Z f;refine a.out _ _ ⟨(l.o.keep d.o).two.1,(l.o.keep d.o).two.2⟩ (λt=>?_);clear a
    iterate 3
     refine aM (v:=?_) rfl (by rfl) t (λw' a2=>?_) ?_
     rotate_left
     ·(go_simp;try with_reducible rfl)
     try simp only[aC]
    refine bK rfl (λI a=>?_);go_simp
    have m:=aA (show Below u0 u0 (u2.alloc (.cells #[(),()] 78))from d.o.alloc d.o.size _);have b:=aA (show Box (u2.alloc (.cells #[(),()] 78)) u2 78 #[(),()]from Box.new _ _ _);have c7:=aA (show u0.heap.size<=u2.heap.size from d.o.size);have J:=aA (Sl.keep cS.kept c5.o ((aH u2 u2).alloc (aB _) (.cells #[(),()] 78)));have K:=aA (Sl.keep qC.kept c6.o ((aH u2 u2).alloc (aB _) (.cells #[(),()] 78)));refine a.out _ _ ⟨(l.o.keep m.o).two.1,(l.o.keep m.o).two.2⟩ (λt=>?_);clear a;try simp only[aC]
    generalize u2.alloc (.cells #[(),()] 78)=u3 at *
    refine bK rfl (λI a=>?_);obtain⟨s0,s1⟩:=b.o.two;have b4:=b.o.frozen 0;have b5:=b.o.frozen 1;go_simp
    have E:=aA (cX m.o (aB _) c7.o (.slice U s.marks.length p) (.slice V s.arcs.length cv));refine a.out _ _ ⟨(l.o.keep E.o).two.1,(l.o.keep E.o).two.2⟩ (λt=>?_);clear a;try simp only[aC]
    exact EN.o _ _ ⟨C,B,U,p,V,cv,u2.heap.size,rfl,aA (b.o.set2 _ _),aA (cQ.besideZ J.o ML.o b.o _ _),aA (qD.besideZ K.o b.o _ _),E⟩ t
   go_simp
   have d:=aA (show Below u0 u0 (u1.alloc (.cells #[(),()] 78))from j.o.alloc j.o.size _);have a5:=aA (show Box (u1.alloc (.cells #[(),()] 78)) u1 78 #[(),()]from Box.new _ _ _);have c8:=aA (show u0.heap.size<=u1.heap.size from j.o.size);have a4:=aA (Sl.keep fG.kept b6.o ((aH u1 u1).alloc (aB _) (.cells #[(),()] 78)));refine a.out _ _ ⟨(l.o.keep d.o).two.1,(l.o.keep d.o).two.2⟩ (λt=>?_);clear a;try simp only[aC]
   generalize u1.alloc (.cells #[(),()] 78)=u2 at *
   refine bK rfl (λI a=>?_);go_simp;go_at_call 48
   (with_reducible refine(CG.o u2 _ _ d.o a4.o).mono ?_)
   rintro e u3 ⟨U,p,V,cv,rfl,Y,Z,f⟩;have J:=aA Y;have K:=aA Z;have b:=aA (a5.o.keep f);have m:=aA (d.o.trans (f.mono d.o.size));clear Y Z f;refine a.out _ _ ⟨(l.o.keep m.o).two.1,(l.o.keep m.o).two.2⟩ (λt=>?_);clear a
   iterate 3
    refine aM (v:=?_) rfl (by rfl) t (λw' a2=>?_) ?_
    rotate_left
    ·(go_simp;try with_reducible rfl)
    try simp only[aC]
   refine bK rfl (λI a=>?_);obtain⟨s0,s1⟩:=b.o.two;have b4:=b.o.frozen 0;have b5:=b.o.frozen 1;go_simp
   have E:=aA (cX m.o (aB _) c8.o (.slice U s.marks.length p) (.slice V s.arcs.length cv));refine a.out _ _ ⟨(l.o.keep E.o).two.1,(l.o.keep E.o).two.2⟩ (λt=>?_);clear a;try simp only[aC]
   exact EN.o _ _ ⟨C,B,U,p,V,cv,u1.heap.size,rfl,aA (b.o.set2 _ _),aA (cQ.besideZ J.o ML.o b.o _ _),aA (qD.besideZ K.o b.o _ _),E⟩ t
  rintro a' w4 ⟨C,B,U,p,V,cv,a3,rfl,SX,SL,SA,SB⟩ t;try simp only[aC]
  refine cH rfl (λI a=>?_);go_simp
  refine a.out _ _ ?_;clear a;try simp only[aC]
  refine cE ?_;clear t a0 a1;have Z0:=aA (l.o.keep SB.o);have Z1:=aA (z.o.keep SB.o);have B4:=aA (BZ.o.trans (SB.o.mono BZ.o.size));have d6:=aA (show w.heap.size+1<w4.heap.size from Z1.o.lt);clear l z H1 BZ SB CG D CW;obtain⟨LN,T⟩:=aK (s.marks.length);obtain⟨AL,a6⟩:=aK (s.arcs.length);have W:=aA T;have a9:=aA a6;have d7:LN<=300:=by rw[<-T];exact b3.o
  rw[T]at SL SX;rw[a6]at SA SX;clear T a6;obtain⟨x0,x1⟩:=SX.o.two;rw[W.o,a9.o];obtain⟨wo,c9⟩:∃wo:World,wo=w4:=⟨_,rfl⟩;subst c9;go_wp2
  clear x0 x1;go_loopw [12,34] (λtv v wr=>∃q:Nat,q<=LN/\v=q/\tv=.int .i64 (toV (eH (s.marks.take q) (Cb ⟨P,ts⟩ o)))/\Hid (Below wo wo wr)) (λ_ v _=>LN-(intOf v).toNat)
  case atStart=>exact⟨0,aL _,rfl,rfl,aA (aH _ _)⟩
  obtain⟨q,hq,rfl,rfl,y⟩:=hrel;by_cases d0:q<LN
  .have e0:(q:Int)<(LN:Int):=by omega
   obtain⟨bm,d5,x,Ax,nx,cx,rfl,e1,hx,qm,ix,e2⟩:=cQ.get (Sl.keep cS.kept SL.o y.o) d0;have TS:=aA (Gl (x:=Cb ⟨P,ts⟩ o) ND.o hx.o);have IX:=aA ix;obtain⟨z0,z1⟩:=(Z0.o.keep y.o).two;obtain⟨r,hr⟩:=aK ((x==Cb ⟨P,ts⟩ o));have HR:=aA (show(Cb ⟨P,ts⟩ o==x)=r by rw[<-hr];exact Bool.beq_comm);have CQ:=aA (λ(w':World) (C:OAd) (B:Nat) (f:Below wr wr w') (u:aY w' C L B (lX L o))=>show Calls Tryz.prog 20 #[.slice Ax nx cx,.slice C L B] w' (λe d1=>e=.returned (.bool r)/\Drew w' d1) by rw[<-hr,EL.o];exact dD (aY.keep IX.o f) u);rw[HR.o]at TS;clear hx ix hr;cases r
   .go_wp2_with (first
     |(go_at_call 49;(with_reducible refine(fU wr P o A n c).mono ?_);rw[O.o];rintro e w5 ⟨C,B,rfl,u,f,_⟩;have I5:=aA u;have B5:=aA f;clear u f)
     |(go_at_call 20;(with_reducible refine(CQ.o _ _ _ B5.o I5.o).mono ?_);rintro e w6 ⟨rfl,dr⟩;have B6:=aA dr.below;clear dr))
    go_roundw
    case rel=>exact⟨q+1,by omega,by go_num,by rw[TS.o];rfl,aA ((y.o.trans (B5.o.mono y.o.size)).trans (B6.o.mono (y.o.trans (B5.o.mono y.o.size)).size))⟩
    simp[intOf];omega
   go_wp2_with (first
    |(go_at_call 49;(with_reducible refine(fU wr P o A n c).mono ?_);rw[O.o];rintro e w5 ⟨C,B,rfl,u,f,_⟩;have I5:=aA u;have B5:=aA f;clear u f)
    |(go_at_call 20;(with_reducible refine(CQ.o _ _ _ B5.o I5.o).mono ?_);rintro e w6 ⟨rfl,dr⟩;have B6:=aA dr.below;clear dr))
   go_roundw
   case rel=>exact⟨q+1,by omega,by go_num,by rw[TS.o];rfl,aA ((y.o.trans (B5.o.mono y.o.size)).trans (B6.o.mono (y.o.trans (B5.o.mono y.o.size)).size))⟩
   simp[intOf];omega
  obtain rfl:q=LN:=by omega
  have FN:=aA (show s.marks.take q=s.marks from aW (Nat.le_of_eq W.o));obtain⟨x0,x1⟩:=(SX.o.keep y.o).two;have z:=aA (Z1.o.keep y.o);obtain⟨y0,y1⟩:=z.o.two;have f0:=z.o.frozen 0;have f1:=z.o.frozen 1;have LZ:=aA (cQ.besideZ (Sl.keep cS.kept SL.o y.o) ML.o z.o (.slice U q p) (.slice V AL cv));have AZ:=aA (qD.besideZ (Sl.keep qC.kept SA.o y.o) z.o (.slice U q p) (.slice V AL cv));have E:=aA (cX (B4.o.trans (y.o.mono B4.o.size)) (aB _) (show w.heap.size<=w.heap.size+1 by omega) (.slice U q p) (.slice V AL cv));obtain⟨tv,b0⟩:=aK (toV (eH (s.marks.take q) (Cb ⟨P,ts⟩ o)));have d2:=aA (show toV (eH s.marks (Cb ⟨P,ts⟩ o))=tv by rw[<-FN.o];exact b0);rw[b0];clear b0;go_wp2
  obtain⟨r0,r1⟩:=(z.o.set2 (.slice U q p) (.slice V AL cv)).two;exact aU (v:=.tuple #[.agg #[.slice U q p,.slice V AL cv],.int .i64 tv,k]) (by simp[results,Tryz.results53,go_sem,r0,r1]) rfl ⟨U,p,V,cv,by rw[W.o,a9.o,d2.o],by rw[W.o];exact LZ.o,by rw[a9.o];exact AZ.o,E.o⟩
 .have RW:=aA (TW.o b2);go_upto_region 2 with(go_at_call 47;go_loud ((with_reducible refine CW.o.mono ?_);rintro e w1 ⟨rfl,G⟩;have X:=aA G;clear G))
  have z:=aA (X1.o.keep X.o);have BZ:=aA (HB.o.trans (X.o.mono HB.o.size));clear X0 X1 HB CW a0 a1;obtain⟨z0,z1⟩:=z.o.two;have f0:=z.o.frozen 0;have f1:=z.o.frozen 1;go_wp2
  obtain⟨r0,r1⟩:=(z.o.set2 () ()).two;have BW:=cX BZ.o (aB _) (show w.heap.size<=w.heap.size+1 by omega) () ();rw[RW.o];exact aU (v:=.tuple #[.agg #[(),()],.int .i64 (-1),.int .i64 sw]) (by simp[results,Tryz.results53,go_sem,r0,r1]) rfl ⟨none,0,none,0,rfl,Sl.nil0,Sl.nil0,BW⟩
section
variable {w w1:World} {B g K n:Nat} {M:List (List Bool)}
end
section
variable {ars:List cC} {lb:Int->Int} {wd:LIn} {M0:List (List Bool)} {q:Nat} {a:cC} {k:Nat}
end
open Go.ChangeShapes Go.WideShapes Go.ChangeAt Go.Deep
section
variable {H:Type} {enc:TypeId×Value->H} {W:World}
end
end Go.Proofs.YtgnljpnlolkalaaGreat
namespace Go.Proofs.YtgnljpnlolkalaaGreat
def PU (k:Int):UInt8:=if k=3 then 62 else if k=4 then 63 else if k=5 then 38 else 42
def lZ:Nat->bH->List UInt8
 | 0,_=>[]
 | f+1,b=>if b.kind=1 then [45]else if b.kind=2 then [UInt8.ofNat (96+b.label.toNat)]else PU b.kind::40::(Lib.join (b.kids.map (lZ f)) [44]++[41])
def Wc {f:Nat}{lb:Int}{ks:List bH}:lZ (f+1) (.mk 1 lb ks)=[45]:=by simp[lZ,bH.kind]
def We {f:Nat}{lb:Int}{ks:List bH}:lZ (f+1) (.mk 2 lb ks)=[UInt8.ofNat (96+lb.toNat)]:=by simp[lZ,bH.kind,bH.label]
def SC {f:Nat}{kd lb:Int}{ks:List bH}(h:3<=kd):lZ (f+1) (.mk kd lb ks)=PU kd::40::(Lib.join (ks.map (lZ f)) [44]++[41]):=by
 unfold lZ;rw[aD (by simp only[bH.kind];omega),aD (by simp only[bH.kind];omega)];rfl
def Vj:∀xs:List (List UInt8),(Lib.join xs [44]).length<=(xs.map (λx=>x.length+1)).sum
 | []=>by simp[Lib.join_nil]
 | x::r=>by
  rw[Lib.join_cons];have:(Lib.joinTail [44] r).length=(r.map (λx=>x.length+1)).sum:=by
   induction r with
   | nil=>rfl
   | cons y r a=>simp[Lib.joinTail]at a ⊢;omega
  simp[this]
def Gs:∀(f:Nat) (b:bH) (had:Nat),(bY f b had).2=0->(lZ f b).length+1<=4*((bY f b had).1-had)
 | 0,b,had,h=>by rw[bY]at h;cases h
 | f+1,b,had,h=>by
  have r:=(gG (f+1) b had h).1;obtain⟨y,z,s,t,j⟩:=iK h;have key:∀i,∀c,(b.kids.take i).foldl (bU (bY f)) (had+1,0)=(c,0)->had+1<=c/\((b.kids.take i).map (λk=>(lZ f k).length+1)).sum<=4*(c-(had+1)):=by
   intro i;induction i with
   | zero=>intro c e;simp at e;simp[e]
   | succ i n =>
    intro c e;cases hx:b.kids[i]? with
    | none =>
     have d:b.kids.length<=i:=by simpa using hx
     have l:b.kids.take (i+1)=b.kids.take i:=by rw[aW (by omega),aW d]
     rw[l]at e ⊢;exact n c e
    | some x =>
     obtain⟨a,e0⟩:=Fv j i;obtain⟨u,m,l⟩:=iL j hx e0;rw[l]at e;injection e with e _;subst e;obtain⟨A,B⟩:=n a e0;have o:=Gs f x a (by rw[m]);have p:=(gG f x a (by rw[m])).1;rw[m]at o p;simp only at o p;obtain⟨v,rfl⟩:=aR.1 hx;rw[List.take_succ_eq_append_getElem v,fB,List.sum_append];simp only[kZ,lA,List.sum_cons,List.sum_nil];omega
  have g:=key b.kids.length s (by rw[kA];exact j);rw[kA]at g;have q:=Vj (b.kids.map (lZ f));rw[List.map_map]at q;have w:(Lib.join (b.kids.map (lZ f)) [44]).length<=(b.kids.map (λk=>(lZ f k).length+1)).sum:=q;rw[t];simp only;unfold lZ;split
  .simp;omega
  split
  .simp;omega
  simp;omega
def Lc (c:UInt8):Bool:=decide (97<=c.toNat)&&decide (c.toNat<=122)
def Eh (c:UInt8):Int:=(c.toNat:Int)-96
def Bd:List UInt8->LLi->LIn->LLi×Int×Int
 | [],out,a=>if a=[]then(out,0,0)else([],(out.length:Int),1)
 | c::r,out,a=>if c=10 then Bd r (out++[a]) []else if Lc c=true then Bd r out (a++[Eh c])else([],(out.length:Int),1)
def jG (s:List UInt8):LLi×Int×Int:=Bd s [] []
def Jo (r:List UInt8)(out:LLi):∀(l:List UInt8) (a:LIn),(∀c∈l,c≠10)->Bd (l++10::r) out a=if l.all Lc=true then Bd r (out++[a++l.map Eh]) []else([],(out.length:Int),1)
 | [],a,_=>by simp[Bd]
 | c::l,a,h=>by
  have d:c≠10:=h c (by simp);rw[List.cons_append,Bd,aD d];by_cases b:Lc c=true
  .rw[aG b,Jo r out l _ (λx e=>h x (by simp[e]))];simp[b,nC]
  rw[aD b,aD];simp[b]
def Jp (out:LLi):∀(l:List UInt8) (a:LIn),(∀c∈l,c≠10)->(l≠[]∨a≠[])->Bd l out a=([],(out.length:Int),1)
 | [],a,_,h=>by
  rcases h with h|h
  .exact absurd rfl h
  rw[Bd,aD h]
 | c::l,a,h,_=>by
  have b:c≠10:=h c (by simp);rw[Bd,aD b];split
  .exact Jp out l _ (λx d=>h x (by simp[d])) (.inr (by simp))
  rfl
open Go.RowKit
def yT:List UInt8->List UInt8×List UInt8×Bool
 | []=>([],[],false)
 | c::r=>if c=10 then([],r,true)else(c::(yT r).1,(yT r).2.1,(yT r).2.2)
def NT:∀s:List UInt8,(Lib.indexByte s 10=-1/\yT s=(s,[],false))∨∃k:Nat,Lib.indexByte s 10=(k:Int)/\k<s.length/\yT s=(s.take k,s.drop (k+1),true)
 | []=>.inl ⟨rfl,rfl⟩
 | c::r=>by
  by_cases h:c=10
  .subst h;exact .inr ⟨0,by simp[Lib.indexByte],by simp,by simp[yT]⟩
  have d:(c==10)=false:=by simpa using h
  rcases NT r with⟨a,b⟩|⟨k,a,b,e⟩
  .refine .inl ⟨by simp[Lib.indexByte,a,h],by simp[yT,h,b]⟩
  refine .inr ⟨k+1, ?_,by simp;omega,by simp[yT,h,e]⟩;simp only[Lib.indexByte,d,a];have:((k:Int)==-1)=false:=by simp
  simp[this]
def Ei:∀s:List UInt8,((yT s).2.2=true->s=(yT s).1++10::(yT s).2.1)/\((yT s).2.2=false->(yT s).1=s)/\∀c∈(yT s).1,c≠10
 | []=>⟨λh=>(by cases h),λ_=>rfl,λc b=>(by cases b)⟩
 | c::r=>by
  by_cases h:c=10
  .subst h;simp[yT]
  obtain⟨d,f,g⟩:=Ei r;simp only[yT,aD h];refine⟨λe=>?_,λe=>?_,λx a=>?_⟩
  .rw[List.cons_append,<-d e]
  .rw[f e]
  rcases a7.1 a with rfl|a
  .exact h
  exact g x a
def Vk (s:List UInt8)(w:World):Sem.run Tryz.prog (callFunc 170 #[.string ⟨s.toArray⟩,.int .u8 10]) w=.ok (.value (.int .i64 (Lib.indexByte s 10))) w:=by
 rw[run_callFunc_extern (fn:=Tryz.f170) (e:=Extern.BytealgIndexByte.indexByte) Tryz.func170 (by kernel_rfl) (by kernel_rfl) (by kernel_rfl) (by kernel_rfl),run_indexByte_string,Lib.firstIdx_eq];rfl
def Gt (s:List UInt8)(w:World) :
  Calls Tryz.prog 150 #[.string ⟨s.toArray⟩,.int .u8 10] w (λe w'=>e=.returned (.int .i64 (Lib.indexByte s 10))/\w'=w):=by
 have a:=Vk s;generalize Lib.indexByte s 10=k at *
 go_enter Tryz.func150,Tryz.ntmps150
 go_wp2
 go_ret
 exact⟨rfl,rfl⟩
def Ll (s:List UInt8)(w:World) :
  Calls Tryz.prog 113 #[.string ⟨s.toArray⟩,.string ⟨#[10]⟩] w (λe w'=>e=.returned (.int .i64 (Lib.indexByte s 10))/\w'=w):=by
 by_cases a:s=[10]
 .subst a;have b:(([10]:List UInt8)==[10])=true:=rfl;go_enter Tryz.func113,Tryz.ntmps113
  go_wp2
  go_ret
  exact⟨rfl,rfl⟩
 .have b:(([10]:List UInt8)==s)=false:=by simp;exact λh=>a h.symm
  have c:=aA (λw=>Gt s w);generalize Lib.indexByte s 10=k at *
  go_enter Tryz.func113,Tryz.ntmps113
  go_wp2_with (go_at_call 150;refine(c.o _).mono ?_;rintro e d ⟨rfl,rfl⟩)
  go_ret
  exact⟨rfl,rfl⟩
def Zz (s:List UInt8)(i j:Nat):(⟨s.toArray⟩:ByteArray).extract i j=⟨((s.take j).drop i).toArray⟩:=by
 apply ByteArray.ext
 apply Array.ext'
 rw[ByteArray.data_extract,Array.toList_extract];simp only[List.extract_eq_take_drop,List.drop_take]
def Gu (s:List UInt8)(i:s.length<=8388608)(w:World) :
  Calls Tryz.prog 55 #[.string ⟨s.toArray⟩,.string ⟨#[10]⟩] w (λe w'=>e=.returned (.tuple #[.string ⟨(yT s).1.toArray⟩,.string ⟨(yT s).2.1.toArray⟩,.bool (yT s).2.2])/\Below w w w'):=by
 have b:=aA (λw=>Ll s w);rcases NT s with⟨a,c⟩|⟨k,a,c,d⟩
 .rw[a]at b;have f:=aA c;clear a c;go_enter Tryz.func55,Tryz.ntmps55
  go_wp2_with (go_at_call 113;(with_reducible refine(b.o _).mono ?_);rintro e g ⟨rfl,rfl⟩)
  go_ret3
  exact⟨by rw[f.o];rfl,aH _ _⟩
 .rw[a]at b;have h:=aA d;clear a d;go_enter Tryz.func55,Tryz.ntmps55
  go_wp2_with (go_at_call 113;(with_reducible refine(b.o _).mono ?_);rintro e g ⟨rfl,rfl⟩)
  go_quiet (fail)
  go_wp2
  rw[Zz,Zz,kA,List.drop_zero];go_ret3
  exact⟨by rw[h.o];rfl,XP _ _⟩
def SD (s:List UInt8)(d:s.length<=8388608)(w:World) :
  Calls Tryz.prog 21 #[.string ⟨s.toArray⟩,.string ⟨#[10]⟩] w (λe w'=>e=.returned (.tuple #[.string ⟨(yT s).1.toArray⟩,.string ⟨(yT s).2.1.toArray⟩,.bool (yT s).2.2])/\Below w w w'):=by
 have a:=aA (Gu s d w);obtain⟨⟨l,r,b⟩,c⟩:∃x,yT s=x:=⟨_,rfl⟩;rw[c]at a ⊢;clear c;go_enter Tryz.func21,Tryz.ntmps21
 go_wp2_with (go_at_call 55;(with_reducible refine a.o.mono ?_);rintro e g ⟨rfl,f⟩)
 go_ret3
 exact⟨rfl,f⟩
def Cc (w:World)(b:Nat)(l:List UInt8):Prop:=∃cs a,w.heap[b]?=some (.cells cs 5 a)/\∀(j:Nat) (x:UInt8),l[j]?=some x->cs[j]?=some (.int .u8 (x.toNat:Int))
def Cc.cell {w:World}{b:Nat}{l:List UInt8}(h:Cc w b l){j:Nat}{x:UInt8}(a:l[j]?=some x):w.cell? ⟨b,j,none⟩=some (.int .u8 (x.toNat:Int)):=by
 obtain⟨cs,c,d,e⟩:=h;rw[cell_of_row _ _ _ _ _ c d];exact e j x a
def Cc.lt {w:World}{b:Nat}{l:List UInt8}(h:Cc w b l):b<w.heap.size:=by
 obtain⟨cs,c,a,d⟩:=h;exact(f8.1 a).1
def Cc.grown {α:Type}{R:World->(Nat->Value)->α->Prop}{sz e:Nat}{w w':World}{b:Nat}{l:List UInt8}(h:Cc w b l)(c:e≠5){B n:Nat}{v:Value}{xs:List α}(own:aJ R sz w B e v n xs)(f:w.grownBy w' v.ownBlock):Cc w' b l:=by
 have i:=h.lt;obtain⟨cs,j,a,k⟩:=h;refine⟨cs,j,(f.block b i (λe=>?_)).trans a,k⟩;obtain⟨d,o,_⟩:=own;rcases o.2 with⟨rfl,_⟩|⟨g,cap,m,rfl,_,p,_⟩
 .cases e
 injection e with e;subst e;rw[p]at a;injection a with a;injection a with _ q;exact absurd q c
def NV (l:List UInt8)(w:World):∃c w',(convert 9 55 (.string ⟨l.toArray⟩)).run Tryz.prog w=.ok (.slice w l.length c) w'/\Cc w' w l/\Below w w w':=by
 refine⟨_,_,Lib.run_convert_string_bytes w 9 55 5 ⟨l.toArray⟩ Tryz.underlying9 Tryz.underlying55 Tryz.underlying5,⟨_,_,Lib.bytesWorld_at_new _ _ _,λj x b=>?_⟩, ?_⟩
 .obtain⟨a,rfl⟩:=aR.1 b;unfold Lib.bytesCells;rw[Array.getElem?_append_left (by simpa using a)];simp[a]
 refine⟨?_, ?_, ?_,by rw[Lib.bytesWorld_size];omega,λk d=>Lib.bytesWorld_at_old _ _ _ _ d⟩
 all_goals (unfold Lib.bytesWorld World.freeze;split <;> rfl)
def SI (x:UInt8)(h:Lc x=true):IntKind.i64.wrap (x.toNat:Int)=(x.toNat:Int)/\IntKind.i64.wrap ((x.toNat:Int)-96)=(x.toNat:Int)-96/\(x.toNat:Int)-96=Eh x/\¬(x.toNat:Int)<97/\¬122<(x.toNat:Int):=by
 unfold Lc at h;simp only[cA,bO]at h;refine⟨?_, ?_,rfl,by omega,by omega⟩
 .rw[pU];omega
 rw[pU];omega
def Vl (x:UInt8)(h:Lc x=true):IntKind.u8.wrap ((x.toNat:Int)-97)=(x.toNat:Int)-97/\IntKind.i64.wrap ((x.toNat:Int)-97)=(x.toNat:Int)-97/\(x.toNat:Int)-97+1=Eh x/\¬(x.toNat:Int)<97/\¬122<(x.toNat:Int):=by
 unfold Lc at h;simp only[cA,bO]at h;refine⟨?_, ?_,by unfold Eh;omega,by omega,by omega⟩
 .simp[IntKind.wrap,go_sem];omega
 rw[pU];omega
def SJ (s:List UInt8)(w:World)(e:Ending)(w':World):Prop :=
 ∃A n c,e=.returned (.tuple #[.slice A n c,.int .i64 (jG s).2.1,.int .i64 (jG s).2.2])/\aJ (cZ w.heap.size) 1 w' w.heap.size 24 (.slice A n c) n (jG s).1/\Below w.heap.size w w'
def SQ (s:List UInt8)(hs:s.length<=1048576)(w:World) :
  Calls Tryz.prog 8 #[.string ⟨s.toArray⟩] w (SJ s w):=by
 go_enter Tryz.func8,Tryz.ntmps8
 go_upto_region 3 with fail
 go_loopg [0,5,6] (s.length+1) (λgk u0 u5 u6 wr=>∃(r:List UInt8) (out:LLi),u0=.string ⟨r.toArray⟩/\u6=.int .i64 (out.length:Int)/\r.length<gk/\gk+out.length=s.length+1/\Hid (Bd r out []=jG s)/\Hid (aJ (cZ w) 1 wr w 24 u5 out.length out)/\Hid (Below w w wr))
 case atStart=>exact⟨s,[],rfl,rfl,by omega,by simp,rfl,aJ.nil,aH _ _⟩
 case round =>
  obtain⟨r,out,rfl,rfl,a4,a5,O,P,X⟩:=hrel;by_cases g:r=[]
  .subst g;have d:=aA (show jG s=(out,0,0) by rw[<-O.o];rfl);obtain⟨A,c,rfl,_⟩:=P.o.sl (by omega);go_wp2
   go_ret3
   exact⟨A,out.length,c,by rw[d.o];rfl,by rw[d.o];exact P.o,X.o⟩
  have a6:0<r.length:=List.length_pos_iff.2 g;have a2:(0:Int)<(r.length:Int):=by omega
  have N:=aA (SD r (by omega) wr);obtain⟨D,p2,p3⟩:=Ei r;obtain⟨⟨l,E,b⟩,hcut⟩:∃x,yT r=x:=⟨_,rfl⟩;rw[hcut]at N D p2 p3;simp only at D p2 p3 N;clear hcut;cases b with
  | false =>
   have d:=aA (show jG s=([],(out.length:Int),1) by rw[<-O.o];rw[p2 rfl]at p3;exact Jp out r [] p3 (.inl g));clear D p2 p3;go_wp2_with (go_at_call 21;(with_reducible refine N.o.mono ?_);rintro e h ⟨rfl,z⟩;have i:=aA (X.o.trans (z.mono X.o.size));clear z)
   go_ret3
   exact⟨none,0,0,by rw[d.o];rfl,by rw[d.o];exact aJ.nil,i.o⟩
  | true =>
   have o:=D rfl;have a9:l.length+E.length+1=r.length:=by rw[o];simp;omega
   have p:=aA (show jG s=if l.all Lc=true then Bd E (out++[l.map Eh]) []else([],(out.length:Int),1) by rw[<-O.o,o,Jo E out l [] p3];rfl);clear D p2 p3 o g;go_upto_region 8 with(go_at_call 21;(with_reducible refine N.o.mono ?_);rintro e h ⟨rfl,z⟩;have i:=aA (X.o.trans (z.mono X.o.size));have F:=aA (P.o.keep (cZ.kept _) z);clear z)
   have O0:=aA (aJ.empty (R:=fG) (sz:=1) (w:=h) (B:=h.heap.size) (e:=3) (aB _));have Q:=aA (Ug h (.cells #[] 3));go_upto_region 10 with fail
   generalize S:h.alloc (.cells #[] 3)=w5 at *
   obtain⟨H,hH⟩:=aK (w5.heap.size);obtain⟨cc,w6,f,q,t⟩:=NV l w5;rw[hH]at f q;have G:=aA q;have B6:=aA (Q.o.trans (t.mono Q.o.size));have O6:=aA (aJ.keep fG.kept O0.o t);clear q t S O0;go_upto_region 11 with fail
   clear f;go_loopw [10,32] (λu10 u32 T=>∃j:Nat,j<=l.length/\u32=.int .i64 (j:Int)/\Hid ((l.take j).all Lc=true)/\Hid (aI T h u10 j ((l.take j).map Eh))/\Hid (Cc T H l)/\Hid (Below h h T)) (λ_ v _=>l.length-(intOf v).toNat)
   case atStart=>exact⟨0,aL _,rfl,rfl,O6,G,B6⟩
   clear O6 G B6 Q;obtain⟨j,hj,rfl,U,I,V,C⟩:=hrel;by_cases W:j<l.length
   .have b0:(j:Int)<(l.length:Int):=by omega
    obtain⟨x,u⟩:∃x,l[j]?=some x:=⟨_,aV W⟩;have c0:=V.o.cell u;have HX:=aA u;have b1:x.toNat<256:=x.toNat_lt;by_cases a:Lc x=true
    .obtain⟨n1,n2,n3,n4,n5⟩:=Vl x a;have HT:=aA (show(l.take (j+1)).map Eh=(l.take j).map Eh++[Eh x] by rw[cP,u];simp);have HA:=aA (show(l.take (j+1)).all Lc=true by rw[cP,u,List.all_append,U.o];simp[a]);clear u;go_wp2_with (at_builtin;refine dX (y:=Eh x) rfl _ _ rfl rfl rfl (by first|rfl|simp) I.o C.o C.o.size (by omega) ?_;intro v2 w2 k J K;have O2:=aA k;have Y:=aA (V.o.grown (by decide) I.o J);have Z:=aA K;clear k J K)
     go_roundw
     case rel=>exact⟨j+1,by omega,by go_num,HA,by rw[HT.o];exact O2,Y,Z⟩
     simp[intOf];omega
    have d:=aA (show jG s=([],(out.length:Int),1) by
     rw[p.o,aD];intro ha;exact a (kY.1 ha x (aS u)))
    have XF:=aA (i.o.trans (C.o.mono i.o.size));clear u;by_cases b2:(x.toNat:Int)<97
    .go_wp2
     go_ret3
     exact⟨none,0,0,by rw[d.o];rfl,by rw[d.o];exact aJ.nil,XF.o⟩
    have a3:122<(x.toNat:Int):=by
     have:¬(97<=x.toNat/\x.toNat<=122):=λhh=>a (by unfold Lc;simp[hh.1,hh.2])
     omega
    go_wp2
    go_ret3
    exact⟨none,0,0,by rw[d.o];rfl,by rw[d.o];exact aJ.nil,XF.o⟩
   obtain rfl:j=l.length:=by omega
   have d:=aA (show Bd E (out++[l.map Eh]) []=jG s by
    have:=U.o;rw[kA]at this;rw[p.o,aG this])
   obtain⟨A,m,rfl,_⟩:=I.o.sl (by omega);have a0:=aA (show aI wr w (.slice A l.length m) l.length (l.map Eh) by have:=I.o;rw[kA]at this;exact this.base i.o.size);have L:=aA (F.o.keep (cZ.kept _) C.o);have XI:=aA (i.o.trans (C.o.mono i.o.size));have RD:=aA (show cD (cZ w) 1 wr [.slice A l.length m] [l.map Eh]from cD.list1 ⟨l.length,a0.o,by omega⟩);have KP:=aA (uR L.o);clear U I V C F i p;go_wp2_with (at_builtin;refine dW (v:=u5) lO rfl _ _ rfl [l.map Eh] #[.slice A l.length m] rfl rfl (by first|rfl|simp) rfl (by simp[Value.oneCell']) L.o RD.o rfl XI.o XI.o.size (by omega) (by omega) KP.o ?_;intro v1 w1 n a1 M;have O1:=aA n;have X1:=aA M;clear n a1 M)
   go_roundg (gk-1)
   case measure=>omega
   exact⟨E,out++[l.map Eh],rfl,by simp,by omega,by simp;omega,d,by simpa using O1,X1⟩
def SY {s:List UInt8}{i:Nat}{x:UInt8}(c:s[i]?=some x)(out:LLi)(a:LIn) :
  Bd (s.drop i) out a=if x=10 then Bd (s.drop (i+1)) (out++[a]) []else if Lc x=true then Bd (s.drop (i+1)) out (a++[Eh x])else([],(out.length:Int),1):=by
 obtain⟨b,rfl⟩:=aR.1 c;rw[List.drop_eq_getElem_cons b,Bd]
def PV (s:List UInt8)(hs:s.length<=1048576)(w:World) :
  Calls Tryz.prog 14 #[.string ⟨s.toArray⟩] w (SJ s w):=by
 obtain⟨cc,w1,p,B,d⟩:=NV s w;have C:=aA B;have Q:=aA d;clear B d;go_enter Tryz.func14,Tryz.ntmps14
 go_upto_region 4 with fail
 clear p;go_loopw [5,6,12] (λu5 u6 u12 wr=>∃(i:Nat) (out:LLi) (a:LIn) (q:World),u12=.int .i64 (i:Int)/\i<=s.length/\a.length<=i/\out.length<=i/\Hid (Bd (s.drop i) out a=jG s)/\Hid ((i=0/\a=[])∨∃x,0<i/\s[i-1]?=some x/\(x=10↔a=[])) /\
  Hid (aJ (cZ w) 1 q w 24 u5 out.length out)/\Hid (aI wr q u6 a.length a)/\Hid (Cc wr w s)/\Hid (Below w w q)/\Hid (Below q q wr)) (λ_ _ v _=>s.length-(intOf v).toNat)
 case atStart=>exact⟨0,[],[],w1,rfl,aL _,aB _,aB _,rfl,.inl ⟨rfl,rfl⟩,aJ.nil,aJ.nil,C,Q,aH _ _⟩
 case round =>
  clear C Q;obtain⟨i,out,a,q,rfl,hi,X,Y,R,Z,J,I,K,t,u⟩:=hrel;by_cases L:i<s.length
  rotate_left
  .obtain rfl:i=s.length:=by omega
   have g:=aA (show jG s=if a=[]then(out,0,0)else([],(out.length:Int),1) by rw[<-R.o,List.drop_length,Bd]);have b:=aA (J.o.keep (cZ.kept _) u.o);have l:=aA (t.o.trans (u.o.mono t.o.size));obtain⟨A,m,rfl,_⟩:=b.o.sl (by omega);rcases Z.o with⟨h0,rfl⟩|⟨x,h0,z,D⟩
   .rw[aG rfl]at g;have M:(s.length:Int)=0:=by omega
    go_wp2
    go_ret3
    exact⟨A,out.length,m,by rw[g.o];rfl,by rw[g.o];exact b.o,l.o⟩
   have M:(0:Int)<(s.length:Int):=by omega
   have hg:∀h,((⟨s.toArray⟩:ByteArray)[s.length-1]'h)=x:=λh=>by
    obtain⟨hl,e⟩:=aR.1 z;exact e
   by_cases j:x=10
   .rw[aG (D.1 j)]at g;have hq:((x.toNat:Int) != 10)=false:=by rw[j];rfl
    go_wp2
    go_ret3
    exact⟨A,out.length,m,by rw[g.o];rfl,by rw[g.o];exact b.o,l.o⟩
   rw[aD (λh=>j (D.2 h))]at g;have hq:((x.toNat:Int) != 10)=true:=by
    simp only[bne_iff_ne,ne_eq];intro e;exact j (UInt8.toNat.inj (by simpa using (by omega:x.toNat=10)))
   go_wp2
   go_ret3
   exact⟨none,0,0,by rw[g.o];rfl,by rw[g.o];exact aJ.nil,l.o⟩
  have a0:(i:Int)<(s.length:Int):=by omega
  obtain⟨x,z⟩:∃x,s[i]?=some x:=⟨_,aV L⟩;have c0:=K.o.cell z;have S:=aA z;have a1:x.toNat<256:=x.toNat_lt;have f:=aA (SY z out a);rw[R.o]at f;clear z;have b:=aA (J.o.keep (cZ.kept _) u.o);have l:=aA (t.o.trans (u.o.mono t.o.size));by_cases k:x=10
  .subst k;rw[aG rfl]at f;obtain⟨A,m,rfl,_⟩:=I.o.sl (by omega);have N:=aA (show aI wr w (.slice A a.length m) a.length a from I.o.base t.o.size);have RD:=aA (show cD (cZ w) 1 wr [.slice A a.length m] [a]from cD.list1 ⟨a.length,N.o,by omega⟩);have KP:=aA (uR b.o);go_wp2_with (at_builtin;refine dW (v:=u5) lO rfl _ _ rfl [a] #[.slice A a.length m] rfl rfl (by first|rfl|simp) rfl (by simp[Value.oneCell']) b.o RD.o rfl l.o l.o.size (by omega) (by omega) KP.o ?_;intro v1 T n E d;have O:=aA n;have r:=aA (K.o.grown (by decide) b.o E);have X2:=aA d;clear n E d)
   go_roundw
   case rel=>exact⟨i+1,out++[a],[],T,by go_num,by omega,by simp,by simp;omega,f.o.symm,.inr ⟨10,by omega,by simpa using S.o,by simp⟩,aA (by simpa using O.o),aJ.nil,r,X2,aH _ _⟩
   simp[intOf];omega
  rw[aD k]at f;have F:((x.toNat:Int)==10)=false:=by
   simp;intro e;exact k (UInt8.toNat.inj (by simpa using (by omega:x.toNat=10)))
  have U:¬(x.toNat:Int)=10:=by simpa using F
  by_cases c:Lc x=true
  .rw[aG c]at f;obtain⟨n1,n2,n3,n4,n5⟩:=SI x c;go_wp2_with (at_builtin;refine dX (y:=Eh x) rfl _ _ rfl rfl rfl (by first|rfl|simp) I.o u.o u.o.size (by omega) ?_;intro v2 T o G H;have O:=aA o;have r:=aA (K.o.grown (by decide) I.o G);have P:=aA H;clear o G H)
   go_roundw
   case rel=>exact⟨i+1,out,a++[Eh x],q,by go_num,by omega,by simp;omega,by omega,f.o.symm,.inr ⟨x,by omega,by simpa using S.o,by simp[k]⟩,J,aA (by simpa using O.o),r,t,P⟩
   simp[intOf];omega
  rw[aD c]at f;obtain⟨A,m,rfl,_⟩:=b.o.sl (by omega);by_cases a2:(x.toNat:Int)<97
  .go_wp2
   go_ret3
   exact⟨none,0,0,by rw[f.o];rfl,by rw[f.o];exact aJ.nil,l.o⟩
  have V:122<(x.toNat:Int):=by
   have:¬(97<=x.toNat/\x.toNat<=122):=λW=>c (by unfold Lc;simp[W.1,W.2])
   omega
  go_wp2
  go_ret3
  exact⟨none,0,0,by rw[f.o];rfl,by rw[f.o];exact aJ.nil,l.o⟩
def iW (N:Nat)(w0:World):World->(Nat->Value)->bG->Prop:=λ_ vs t=>jF N w0 vs t
def iW.kept (N:Nat)(w0:World):CU (iW N w0):=λ_ _ _ _ _ h=>h
def iW.good (N:Nat)(w0:World):Qi (iW N w0) 3 where
 kept:=iW.kept N w0
 one:=λw vs x h j a=>(jF.good N).one w0 vs x h j a
 pos:=by omega
def aJ.ofL {N:Nat}{w0 w:World}{B e:Nat}{v:Value}{n:Nat}{xs:List bG}(h:aJ (iW N w0) 3 w B e v n xs)(f:Below w0 w0 w):aJ (jF N) 3 w B e v n xs:=by
 obtain⟨c,g,d,j⟩:=h;exact⟨c,g,⟨d.1,λi x k=>by obtain⟨vs,a,b⟩:=d.2 i x k;exact⟨vs,a,jF.kept N _ _ _ _ f b⟩⟩,j⟩
structure LkM (N:Nat)(w:World)(C:OAd)(K c:Nat)(l:List bG):Prop where
 sl:Sl (jF N) 3 w C K c l
 far:∀b off,C=some ⟨b,off,none⟩->0<K->b<N∨∃cs fr,w.heap[b]?=some (.cells cs 107 fr)
def LkM.keep {N K c:Nat}{w w':World}{C:OAd}{l:List bG}(h:LkM N w C K c l)(f:Below w w w'):LkM N w' C K c l :=
 ⟨h.sl.keep (jF.kept N) f,λb d e hK=>by
  rcases h.far b d e hK with a|⟨cs,g,a⟩
  .exact .inl a
  exact .inr ⟨cs,g,(f.block b (f8.1 a).1).trans a⟩⟩
def LkM.turn {N K c g ty:Nat}{w w':World}{C:OAd}{l:List bG}{cs:Array Value}(h:LkM N w C K c l)(n:Box w g ty cs)(r:ty≠3)(s:ty≠107)(t:N<=g)(m:w.grownBy w' (some g)):LkM N w' C K c l:=by
 have ne:∀b a,C=some ⟨b,a,none⟩->0<K->b≠g:=λb a e hK f=>by
  subst f;rcases h.far b a e hK with d|⟨j,o,d⟩
  .omega
  unfold Box at n;rw[n]at d;injection d with d;injection d with _ d;exact s d
 refine⟨⟨h.sl.len,h.sl.le,h.sl.cap,h.sl.small,h.sl.nul,λp=>?_⟩,λb a e hK=>?_⟩
 .obtain⟨b,a,e,k,u⟩:=h.sl.cells p;refine⟨b,a,e,bD k m.size,λi x v=>?_⟩;obtain⟨vs,y,z⟩:=u i x v;exact⟨vs,λq A=>(sA (m.block b k (λf=>by injection f with f;exact ne b a e p f))).trans (y q A),z.turn t n r m⟩
 rcases h.far b a e hK with d|⟨j,o,d⟩
 .exact .inl d
 exact .inr ⟨j,o,(m.block b (f8.1 d).1 (λf=>by injection f with f;exact ne b a e hK f)).trans d⟩
def Xy:sT 102 107 3 56:=sT.mk' (z:=.agg #[(0:Int),(),()]) Tryz.underlying102 (by kernel_rfl) rfl (by decide)
def Zm {N:Nat}{w u:World}{c ty n1 c1 n2 c2:Nat}{l:Int}{A1 A2:OAd}{xs ys:LIn}(b:Box u c ty #[l,.slice A1 n1 c1,.slice A2 n2 c2])(d:aY w A1 n1 c1 xs)(e:aY w A2 n2 c2 ys)(f:jY N w A1 n1)(g:jY N w A2 n2) :
  Sl (iW N w) 3 u (some ⟨c,0,none⟩) 1 1 [(⟨l,xs,ys⟩:bG)]:=by
 refine⟨rfl,aB _,by simp[maxLen],by omega,λh=>(by cases h),λ_=>⟨c,0,rfl,b.lt,λj x a=>?_⟩⟩;obtain rfl:j=0:=by
  have:=(aR.1 a).1;simpa using this
 simp only[aQ,aZ]at a;subst a;refine⟨λj=>[Value.int .i64 l,.slice A1 n1 c1,.slice A2 n2 c2].getD j undef,λq i=>?_,rfl,A1,n1,c1,A2,n2,c2,rfl,rfl,d,e,f,g⟩;match q,i with
 | 0,_=>exact b.cell 0
 | 1,_=>exact b.cell 1
 | 2,_=>exact b.cell 2
def Zn {P:Program} {ops:Array Oper} {Q:Exit->Act->World->Prop} {S:World->Prop} {T:Scr} (a:Scr) {a0:Act} {w0:World} (F:Act->Act->World->Prop) (hF:∀b w',F a0 b w'->S w'->fH P ops Q S a b w')
  (h:Hid (∀b w',F a0 b w'->S w'->fH P ops Q S a b w')->fH P ops Q S T a0 w0):fH P ops Q S T a0 w0:=h hF
def nU (w:World)(b i:Nat)(v:Value):w.grownBy (w.setCell ⟨b,i,none⟩ v) (some b) :=
 ⟨rfl,rfl,rfl,by simp[World.setCell],λk _ a=>eN _ _ _ _ (λe=>a (by rw[e]))⟩
def Lo (N:Nat)(g:KSt)(w:World)(e:Ending)(w':World):Prop :=
 ∃C c,e=.returned (.agg #[.int .i64 g.places,.slice C g.links.length c])/\LkM N w' C g.links.length c g.links/\Below w.heap.size w w'
def mZ {N:Nat}{w:World}{g:KSt}{C A1 A2:OAd}{k x n1 c1 n2 c2:Nat}{xs ys:LIn}(l:Int)(h:LkM N w C k x g.links)(i1:aY w A1 n1 c1 xs)(i2:aY w A2 n2 c2 ys)(O:jY N w A1 n1)(f2:jY N w A2 n2)(a2:k<=1000) :
  Calls Tryz.prog 106 #[.agg #[.int .i64 g.places,.slice C k x],l,.slice A1 n1 c1,.slice A2 n2 c2] w (Lo N (lnk g l xs ys) w):=by
 obtain⟨P,Q⟩:=aK (g.places);have GL:=aA (show g.links.length=k from h.sl.len);have HP:=aA Q;rw[Q];have S:=aA ((Box.new w #[.int .i64 P,.slice C k x] 104).old (.cells #[(0:Int),()] 104));have XR:=aA (show Box ((w.alloc (.cells #[.int .i64 P,.slice C k x] 104)).alloc (.cells #[(0:Int),()] 104)) (w.heap.size+1) 104 #[(0:Int),()]from Box.newAt (by simp) _ _);have EB:=aA (show Below w w ((w.alloc (.cells #[.int .i64 P,.slice C k x] 104)).alloc (.cells #[(0:Int),()] 104))from((aH _ _).alloc (aB _) _).alloc (by simp) _);have H0:=aA (show Sl (iW N w) 3 w C k x g.links from Sl.imp h.sl λ_ _ h=>h);have T:=aA i1;have U:=aA i2;have V:=aA O;have W:=aA f2;clear h i1 i2 O f2 Q;go_enter Tryz.func106,Tryz.ntmps106
 go_upto_region 1 with fail
 generalize (w.alloc (.cells #[.int .i64 P,.slice C k x] 104)).alloc (.cells #[(0:Int),()] 104)=u at *
 obtain⟨x0,x1⟩:=S.o.two;refine aN 12 (.takes [0,1,3,4,6,7,8,9] (.two 2 (.two 5 (.one 10 (.one 11 (.fin 12 (.fin 13 .done)))) 10 (.one 5 (.one 11 (.fin 12 (.fin 13 .done))))) 10 (.one 2 (.one 5 (.one 11 (.fin 12 (.fin 13 .done))))))) (λw'=>w'.cell? w=some (.int .i64 P)/\w'.cell? ⟨w,1,none⟩=some (.slice C k x)) (by kernel_rfl) (by kernel_rfl) (by kernel_rfl) (λ_ _ _ _ _ h=>h) ⟨x0,x1⟩ (λo=>?_);simp only[Scr.takes];have a:=aA (S.o.keep (aH _ _).drew);have y:=aA (XR.o.keep (aH _ _).drew);have s:=aA EB.o.drew;clear S XR EB x0 x1;generalize u.drew=u0 at *
 have J:=aA (Sl.keep (iW.kept N w) H0.o s.o);have E:=aA (aH u0 u0)
 iterate 8
  refine aM (v:=?_) rfl (by rfl) o (λw' a3=>?_) ?_
  rotate_left
  ·(go_simp;try with_reducible rfl)
  try simp only[aC]
 refine Zn (.fin 12 (.fin 13 .done)) (λa0 a' w'=>∃e1 e2 e3 v:Value,a'=((((a0.put (some 11) e1).put (some 14) e2).put (some 19) e3).put (some 20) v)/\Hid (aJ (iW N w) 3 w' u0 107 v (0+k+1) ([]++g.links++[⟨l,xs,ys⟩]))/\Hid (Below u0 u0 w')) ?_ (λX=>?_)
 .rintro a' w6 ⟨e1,e2,e3,v,rfl,j,E⟩ o;simp only[aC];have L:=j.o;rw[List.nil_append,Nat.zero_add]at L;obtain⟨D,F,rfl,_⟩:=L.sl (by omega);have OW:=aA L;have HU:=aA y.o.lt;have M:=aA (y.o.keep E.o);have B6:=aA (s.o.trans (E.o.mono s.o.size));obtain⟨y0,y1⟩:=M.o.two;have f0:=M.o.frozen 0;have O:=M.o.frozen 1;clear a y s J o E j L;refine cH rfl (λK hK=>?_);go_simp
  refine hK.out _ _ ?_;clear hK;try simp only[aC]
  refine cH rfl (λK hK=>?_);go_simp
  refine hK.out _ _ ?_;clear hK;try simp only[aC]
  refine cE ?_;go_wp2
  have S6:=M.o.set2 (.int .i64 P) (.slice D (k+1) F);have r0:=S6.cell 0;have r1:=S6.cell 1;have BF:=(B6.o.setCell (p:=⟨w.heap.size+1,0,none⟩) (by simp) (.int .i64 P)).setCell (p:=⟨w.heap.size+1,1,none⟩) (by simp) (.slice D (k+1) F);have NE:(Value.slice D (k+1) F).ownBlock≠some (w.heap.size+1):=λe=>by
   have:=(OW.o.lt _ e).1;have:=HU.o;omega
  have O1:=(OW.o.kept (nU w6 (w.heap.size+1) 0 (.int .i64 P)) (.inr NE) (λ_ _ h=>h)).kept (nU _ (w.heap.size+1) 1 (.slice D (k+1) F)) (.inr NE) (λ_ _ h=>h);obtain⟨C7,c7,Y,T7⟩:=(aJ.ofL O1 BF).sl (by omega);injection Y with q h2 h3;subst q h3;have e7:(lnk g l xs ys).links.length=k+1:=by simp only[lnk,bL,bP,fQ,GL.o]
  refine aU (v:=.agg #[.int .i64 P,.slice D (k+1) F]) (by simp[results,Tryz.results106,go_sem,r0,r1]) rfl ?_;unfold Lo;rw[e7];exact⟨D,F,by simp only[lnk,HP.o],⟨T7,λb a4 e _=>.inr (by
   subst e;obtain⟨Z,o1,_⟩:=O1;obtain⟨_,a1,hc⟩:=Fz o1 (g:=b) rfl;exact⟨a1,_,hc⟩)⟩,BF⟩
 .refine mN rfl rfl (λK hK=>?_) (λK hK=>?_)
  rotate_left
  .go_simp
   have m:=aF u0 (.cells #[l,.slice A1 n1 c1,.slice A2 n2 c2] 107);have r:=Box.new u0 #[l,.slice A1 n1 c1,.slice A2 n2 c2] 107;obtain⟨z,n⟩:=aK (u0.heap.size);replace E:=aA (E.o.trans (m.mono E.o.size))
   rw[n]at r ⊢;generalize t:u0.alloc (.cells #[l,.slice A1 n1 c1,.slice A2 n2 c2] 107)=u1 at *
   have S1:=aA r;clear m t r n;refine hK.out _ _ ⟨(a.o.keep E.o).cell 0,(a.o.keep E.o).cell 1⟩ (λo=>?_);clear hK;try simp only[aC]
   refine bK rfl (λK hK=>?_);go_simp
   have m:=aF u1 (.cells #[] 107);have A:=aJ.empty (R:=iW N w) (sz:=3) (w:=u1) (B:=u0.heap.size) (e:=107) E.o.size;obtain⟨vb,G⟩:∃v:Value,v=.slice u1 0 0:=⟨_,rfl⟩;have NE:=aA (show vb.ownBlock≠some z from λe=>by
    rw[G]at e;simp only[Value.ownBlock,aZ]at e;have:=S1.o.lt;omega)
   replace S1:=aA (S1.o.keep m)
   rw[<-G]at A ⊢;generalize t:u1.alloc (.cells #[] 107)=u2 at *
   replace E:=aA (E.o.trans (m.mono E.o.size))
   have j:=aA A;clear m G t A;refine hK.out _ _ ⟨(a.o.keep E.o).cell 0,(a.o.keep E.o).cell 1⟩ (λo=>?_);clear hK;try simp only[aC]
   refine bK rfl (λK hK=>?_);refine fW Xy (iW.good N w) rfl (.tmp 11) (.tmp 13) rfl rfl rfl j.o (Sl.keep (iW.kept N w) J.o E.o) E.o.size (by omega) (by omega) (λ_ _ _ _ h=>h) E.o (aB _) ?_;intro H u3 c i f d;have I:=aA (show H.ownBlock≠some z from λe=>by
    rcases d with q|q
    .exact NE.o (q.symm.trans e)
    rw[e]at q;injection q with q;have:=S1.o.lt;omega)
   replace S1:=aA (S1.o.grown i NE.o)
   replace NE:=I
   clear I;replace j:=aA c
   replace E:=aA f
   clear c i f d;refine hK.out _ _ ⟨(a.o.keep E.o).cell 0,(a.o.keep E.o).cell 1⟩ (λo=>?_);clear hK;try simp only[aC]
   refine bK rfl (λK hK=>?_);refine fW Xy (iW.good N w) rfl (.tmp 14) (.tmp 19) rfl rfl rfl j.o (Zm S1.o T.o U.o V.o W.o) E.o.size (by omega) (by omega) (λ_ _ _ _ h=>h) E.o (aB _) ?_;intro vd u4 c i f d;replace j:=aA c
   replace E:=aA f
   clear c i f d;refine hK.out _ _ ⟨(a.o.keep E.o).cell 0,(a.o.keep E.o).cell 1⟩ (λo=>?_);clear hK;try simp only[aC]
   exact X.o _ _ ⟨_,_,_,_,rfl,j,E⟩ ⟨(a.o.keep E.o).cell 0,(a.o.keep E.o).cell 1⟩
  go_simp
  have m:=aF u0 (.cells #[] 107);have A:=aJ.empty (R:=iW N w) (sz:=3) (w:=u0) (B:=u0.heap.size) (e:=107) E.o.size;obtain⟨vb,G⟩:∃v:Value,v=.slice u0 0 0:=⟨_,rfl⟩;rw[<-G]at A ⊢;generalize t:u0.alloc (.cells #[] 107)=u1 at *
  replace E:=aA (E.o.trans (m.mono E.o.size))
  have j:=aA A;clear m G t A;refine hK.out _ _ ⟨(a.o.keep E.o).cell 0,(a.o.keep E.o).cell 1⟩ (λo=>?_);clear hK;try simp only[aC]
  refine mN rfl rfl (λK hK=>?_) (λK hK=>?_)
  .refine fW Xy (iW.good N w) rfl (.tmp 11) (.tmp 13) rfl rfl rfl j.o (Sl.keep (iW.kept N w) J.o E.o) E.o.size (by omega) (by omega) (λ_ _ _ _ h=>h) E.o (aB _) ?_;intro H u2 c i f d;replace j:=aA c
   replace E:=aA f
   clear c i f d;refine hK.out _ _ ⟨(a.o.keep E.o).cell 0,(a.o.keep E.o).cell 1⟩ (λo=>?_);clear hK;try simp only[aC]
   refine bK rfl (λK hK=>?_);go_simp
   have m:=aF u2 (.cells #[l,.slice A1 n1 c1,.slice A2 n2 c2] 107);have r:=Box.new u2 #[l,.slice A1 n1 c1,.slice A2 n2 c2] 107;obtain⟨z,n⟩:=aK (u2.heap.size);have NE:=aA (show H.ownBlock≠some z from λe=>by
    have:=(j.o.lt _ e).2;omega)
   replace j:=aA (j.o.keep (iW.kept N w) m)
   replace E:=aA (E.o.trans (m.mono E.o.size))
   rw[n]at r ⊢;generalize t:u2.alloc (.cells #[l,.slice A1 n1 c1,.slice A2 n2 c2] 107)=u3 at *
   have S1:=aA r;clear m t r n;refine hK.out _ _ ⟨(a.o.keep E.o).cell 0,(a.o.keep E.o).cell 1⟩ (λo=>?_);clear hK;try simp only[aC]
   refine bK rfl (λK hK=>?_);refine fW Xy (iW.good N w) rfl (.tmp 14) (.tmp 19) rfl rfl rfl j.o (Zm S1.o T.o U.o V.o W.o) E.o.size (by omega) (by omega) (λ_ _ _ _ h=>h) E.o (aB _) ?_;intro vd u4 c i f d;replace j:=aA c
   replace E:=aA f
   clear c i f d;refine hK.out _ _ ⟨(a.o.keep E.o).cell 0,(a.o.keep E.o).cell 1⟩ (λo=>?_);clear hK;try simp only[aC]
   exact X.o _ _ ⟨_,_,_,_,rfl,j,E⟩ ⟨(a.o.keep E.o).cell 0,(a.o.keep E.o).cell 1⟩
  go_simp
  have m:=aF u1 (.cells #[l,.slice A1 n1 c1,.slice A2 n2 c2] 107);have r:=Box.new u1 #[l,.slice A1 n1 c1,.slice A2 n2 c2] 107;obtain⟨z,n⟩:=aK (u1.heap.size);have NE:=aA (show vb.ownBlock≠some z from λe=>by
   have:=(j.o.lt _ e).2;omega)
  replace j:=aA (j.o.keep (iW.kept N w) m)
  replace E:=aA (E.o.trans (m.mono E.o.size))
  rw[n]at r ⊢;generalize t:u1.alloc (.cells #[l,.slice A1 n1 c1,.slice A2 n2 c2] 107)=u2 at *
  have S1:=aA r;clear m t r n;refine hK.out _ _ ⟨(a.o.keep E.o).cell 0,(a.o.keep E.o).cell 1⟩ (λo=>?_);clear hK;try simp only[aC]
  refine bK rfl (λK hK=>?_);refine fW Xy (iW.good N w) rfl (.tmp 11) (.tmp 13) rfl rfl rfl j.o (Sl.keep (iW.kept N w) J.o E.o) E.o.size (by omega) (by omega) (λ_ _ _ _ h=>h) E.o (aB _) ?_;intro H u3 c i f d;have I:=aA (show H.ownBlock≠some z from λe=>by
   rcases d with q|q
   .exact NE.o (q.symm.trans e)
   rw[e]at q;injection q with q;have:=S1.o.lt;omega)
  replace S1:=aA (S1.o.grown i NE.o)
  replace NE:=I
  clear I;replace j:=aA c
  replace E:=aA f
  clear c i f d;refine hK.out _ _ ⟨(a.o.keep E.o).cell 0,(a.o.keep E.o).cell 1⟩ (λo=>?_);clear hK;try simp only[aC]
  refine bK rfl (λK hK=>?_);refine fW Xy (iW.good N w) rfl (.tmp 14) (.tmp 19) rfl rfl rfl j.o (Zm S1.o T.o U.o V.o W.o) E.o.size (by omega) (by omega) (λ_ _ _ _ h=>h) E.o (aB _) ?_;intro vd u4 c i f d;replace j:=aA c
  replace E:=aA f
  clear c i f d;refine hK.out _ _ ⟨(a.o.keep E.o).cell 0,(a.o.keep E.o).cell 1⟩ (λo=>?_);clear hK;try simp only[aC]
  exact X.o _ _ ⟨_,_,_,_,rfl,j,E⟩ ⟨(a.o.keep E.o).cell 0,(a.o.keep E.o).cell 1⟩
