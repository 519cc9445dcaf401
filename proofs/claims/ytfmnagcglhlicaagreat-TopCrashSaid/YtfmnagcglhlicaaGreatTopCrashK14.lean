/- Texts melted into one: The plain law of words in a finite graph with labels: rounds that add until nothing is new; where one can be behind a word; how far the end is. No program in sight. |  -/
import Derived.Test.YtfmnagcglhlicaaGreatTopCrashK13
namespace Go.Proofs.YtfmnagcglhlicaaGreat
section
variable {σ α:Type} {f:σ×Bool→α→σ×Bool} {l:List α} {I:σ→Prop} {μ:σ→Nat}
end
section
variable (ars:List bO) (lb:Int→Int) (w:LIn)
end
open Classical
theorem UN {x:Int}{n:Nat}(h:Inn n x):∃k:Nat,x=(k:Int)∧k<n:=⟨x.toNat,by have:=h.1;omega,by have:=h.1;have:=h.2;omega⟩
section
variable {ars:List bO} {lb:Int→Int} {n:Nat} {bs0 bs:List Bool}
end
end Go.Proofs.YtfmnagcglhlicaaGreat
namespace Go.Proofs.YtfmnagcglhlicaaGreat
open Classical
section
variable (ars:List bO) (lb:Int→Int) (E:Int→Prop)
end
section
variable {ars:List bO} {lb:Int→Int} {E:Int→Prop} {n:Nat}
def atI (xs:LIn)(m:Int):Int:=xs.getD m.toNat 0
theorem xX {α:Type}{p q:α→Bool}:∀(l:List α),(∀x∈l,q x=true→p x=true)→(∃x∈l,p x=true∧q x=false)→(l.filter q).length<(l.filter p).length
 | [],_,h=>by obtain⟨x,hx,_⟩:=h;simp at hx
 | a::l,h,⟨x,hx,h1,h2⟩=>by
  have le:∀(l':List α),(∀x∈l',q x=true→p x=true)→(l'.filter q).length≤(l'.filter p).length:=fun l'=>by
   induction l' with
   | nil=>intro _;exact Nat.le_refl _
   | cons b l' ih =>
    intro hb;have:=ih fun y hy=>hb y (by simp[hy])
    have hbb:=hb b (by simp);cases hq:q b
    ·cases hp:p b <;> simp[hq,hp] <;> omega
    ·simp[hq,hbb hq];omega
  have hb:=h a (by simp);rcases List.mem_cons.1 hx with rfl|hx
  ·have:=le l fun y hy=>h y (by simp[hy])
   simp[h1,h2];omega
  ·have:=xX l (fun y hy=>h y (by simp[hy])) ⟨x,hx,h1,h2⟩;cases hq:q a
   ·cases hp:p a <;> simp[hq,hp] <;> omega
   ·simp[hq,hb hq];omega
end
end Go.Proofs.YtfmnagcglhlicaaGreat
namespace Go.Proofs.YtfmnagcglhlicaaGreat
abbrev Sp:=Int×Int
def Ed (ars:List bO)(lb:Int→Int)(tr:LIn)(u v:Sp)(c:Int):Prop :=
 (u.1<(tr.length:Int)∧v=(u.1+1,u.2)∧c=1) ∨
 (∃a∈ars,a.from_=u.2∧v=(u.1,a.to_)∧c=min (lb a.tran) 1) ∨
 (∃a∈ars,a.from_=u.2∧u.1<(tr.length:Int)∧0<lb a.tran∧tr[u.1.toNat]?=some (lb a.tran)∧v=(u.1+1,a.to_)∧c=0)
inductive Wk (E:Sp→Sp→Int→Prop):Sp→Int→Prop
 | nil:Wk E (0,0) 0
 | step {u v:Sp} {c d:Int}:Wk E u c→E u v d→Wk E v (c+d)
def Rf (E:Sp→Sp→Int→Prop)(g:Sp)(c:Int):Prop:=Wk E g c∧∀c',Wk E g c'→c≤c'
def InU (L n:Nat)(v:Sp):Prop:=(0≤v.1∧v.1≤(L:Int))∧0≤v.2∧v.2<(n:Int)
section
variable {ars:List bO} {lb:Int→Int} {tr:LIn} {n:Nat}
theorem Ed.low (hlb:∀a∈ars,0≤lb a.tran){u v:Sp}{c:Int}(h:Ed ars lb tr u v c):0≤c∧c≤1:=by
 rcases h with⟨_,_,rfl⟩|⟨a,ha,_,_,rfl⟩|⟨a,_,_,_,_,_,_,rfl⟩
 ·omega
 ·have:=hlb a ha;omega
 ·omega
theorem Ed.inU (ht:∀a∈ars,Inn n a.to_){u v:Sp}{c:Int}(hu:InU tr.length n u)(h:Ed ars lb tr u v c):InU tr.length n v:=by
 obtain⟨⟨h1,h2⟩,h3,h4⟩:=hu;rcases h with⟨hl,rfl,_⟩|⟨a,ha,_,rfl,_⟩|⟨a,ha,_,hl,_,_,rfl,_⟩
 ·exact⟨⟨by simp only;omega,by simp only;omega⟩,h3,h4⟩
 ·exact⟨⟨h1,h2⟩,(ht a ha).1,(ht a ha).2⟩
 ·exact⟨⟨by simp only;omega,by simp only;omega⟩,(ht a ha).1,(ht a ha).2⟩
theorem Wk.low {E:Sp→Sp→Int→Prop}(hE:∀u v c,E u v c→0≤c){v:Sp}{c:Int}(h:Wk E v c):0≤c:=by
 induction h with
 | nil=>omega
 | step _ e ih=>have:=hE _ _ _ e;omega
end
structure wB where
 cost:Int
 from_:Sp
 kind:Int
 label:Int
 tran:Int
 done:Bool
abbrev SpM:=Sp→Option wB
def rI (f:SpM)(v:Sp)(x:wB):SpM:=fun z=>if z=v then some x else f z
def j3 (f:SpM)(v:Sp)(x:wB):SpM:=match f v with
 | none=>rI f v x
 | some y=>if x.cost<y.cost then rI f v x else f
theorem jL (f:SpM)(v:Sp)(x:wB):rI f v x v=some x:=by simp[rI]
theorem pH {f:SpM}{v z:Sp}{x:wB}(h:z≠v):rI f v x z=f z:=by simp[rI,h]
structure DI (E:Sp→Sp→Int→Prop)(U:Sp→Prop)(f:SpM)(dn:List Sp):Prop where
 s0:∃x,f (0,0)=some x∧x.cost=0
 snd:∀v x,f v=some x→Wk E v x.cost∧U v
 rel:∀u x,f u=some x→x.done=true→∀v d,E u v d→∃y,f v=some y∧y.cost≤x.cost+d
 ord:∀u x v y,f u=some x→x.done=true→f v=some y→y.done=false→x.cost≤y.cost
 dnI:∀v,v∈dn↔∃x,f v=some x∧x.done=true
 nodup:dn.Nodup
 frm:∀v x,f v=some x→v≠(0,0)→x.from_∈dn∧∀p q,dn=p++v::q→x.from_∈q
structure DL (E:Sp→Sp→Int→Prop)(U:Sp→Prop)(f:SpM)(dn:List Sp)(at_:Sp)(c:Int)(R:Sp→Int→Prop):Prop where
 s0:∃x,f (0,0)=some x∧x.cost=0
 snd:∀v x,f v=some x→Wk E v x.cost∧U v
 rel:∀u x,f u=some x→x.done=true→u≠at_→∀v d,E u v d→∃y,f v=some y∧y.cost≤x.cost+d
 now:∃x,f at_=some x∧x.done=true∧x.cost=c
 off:∀v d,R v d→∃y,f v=some y∧y.cost≤c+d
 le:∀u x,f u=some x→x.done=true→x.cost≤c
 ge:∀v y,f v=some y→y.done=false→c≤y.cost
 dnI:∀v,v∈dn↔∃x,f v=some x∧x.done=true
 nodup:dn.Nodup
 frm:∀v x,f v=some x→v≠(0,0)→x.from_∈dn∧∀p q,dn=p++v::q→x.from_∈q
def uS:SpM:=rI (fun _=>none) (0,0) ⟨0,(0,0),0,0,0,false⟩
section
variable {E:Sp→Sp→Int→Prop} {U:Sp→Prop} {f:SpM} {dn:List Sp} {at_:Sp} {c:Int} {R:Sp→Int→Prop}
theorem DI.start (hU:U (0,0)):DI E U uS []:=by
 have key:∀v x,uS v=some x→v=(0,0)∧x=⟨0,(0,0),0,0,0,false⟩:=fun v x h=>by
  unfold uS rI at h;split at h
  ·rename_i e
   injection h with h;exact⟨e,h.symm⟩
  ·cases h
 refine⟨⟨_,jL _ _ _,rfl⟩,fun v x h=>?_,fun u x h hd=>?_,fun u x v y h hd=>?_,fun v=>?_,List.nodup_nil,fun v x h hne=>?_⟩
 ·obtain⟨rfl,rfl⟩:=key v x h;exact⟨.nil,hU⟩
 ·obtain⟨rfl,rfl⟩:=key u x h;cases hd
 ·obtain⟨rfl,rfl⟩:=key u x h;cases hd
 ·constructor
  ·intro h;cases h
  ·rintro⟨x,h,hd⟩;obtain⟨rfl,rfl⟩:=key v x h;cases hd
 ·exact absurd (key v x h).1 hne
theorem DI.pop (h:DI E U f dn){x:wB}(hx:f at_=some x)(hd:x.done=false)(hmin:∀v y,f v=some y→y.done=false→x.cost≤y.cost):DL E U (rI f at_ {x with done:=true}) (at_::dn) at_ x.cost (fun _ _=>False):=by
 have hnot:at_∉dn:=fun hm=>by
  obtain⟨y,h1,h2⟩:=(h.dnI at_).1 hm;rw[hx]at h1;injection h1 with h1;subst h1;rw[hd]at h2;cases h2
 have key:∀v y,rI f at_ {x with done:=true} v=some y→(v=at_∧y={x with done:=true})∨(v≠at_∧f v=some y):=fun v y hv=>by
  unfold rI at hv;split at hv
  ·rename_i e
   injection hv with hv;exact .inl ⟨e,hv.symm⟩
  ·rename_i e
   exact .inr ⟨e,hv⟩
 have low:∀v y,f v=some y→∃y',rI f at_ {x with done:=true} v=some y'∧y'.cost=y.cost:=fun v y hv=>by
  by_cases e:v=at_
  ·subst e;rw[hx]at hv;injection hv with hv;subst hv;exact⟨_,jL _ _ _,rfl⟩
  ·exact⟨y,by rw[pH e];exact hv,rfl⟩
 refine⟨?_,fun v y hv=>?_,fun u y hu hyd hne v d he=>?_,⟨_,jL _ _ _,rfl,rfl⟩,fun v d hR=>hR.elim,fun u y hu hyd=>?_,fun v y hv hyd=>?_,fun v=>?_,List.nodup_cons.2 ⟨hnot,h.nodup⟩,fun v y hv hne=>?_⟩
 ·obtain⟨y,h1,h2⟩:=h.s0;obtain⟨y',h3,h4⟩:=low _ _ h1;exact⟨y',h3,h4.trans h2⟩
 ·rcases key v y hv with⟨rfl,rfl⟩|⟨_,hv⟩
  ·exact h.snd v x hx
  ·exact h.snd _ _ hv
 ·rcases key u y hu with⟨rfl,_⟩|⟨_,hu⟩
  ·exact absurd rfl hne
  ·obtain⟨z,h1,h2⟩:=h.rel u y hu hyd v d he;obtain⟨z',h3,h4⟩:=low _ _ h1;exact⟨z',h3,by omega⟩
 ·rcases key u y hu with⟨_,rfl⟩|⟨_,hu⟩
  ·exact Int.le_refl _
  ·exact h.ord u y at_ x hu hyd hx hd
 ·rcases key v y hv with⟨_,rfl⟩|⟨_,hv⟩
  ·cases hyd
  ·exact hmin v y hv hyd
 ·rw[List.mem_cons,h.dnI];constructor
  ·rintro(rfl|⟨y,h1,h2⟩)
   ·exact⟨_,jL _ _ _,rfl⟩
   ·have hne:v≠at_:=fun e=>by
     subst e;exact hnot ((h.dnI v).2 ⟨y,h1,h2⟩)
    exact⟨y,by rw[pH hne];exact h1,h2⟩
  ·rintro⟨y,h1,h2⟩;rcases key v y h1 with⟨e,_⟩|⟨_,h1⟩
   ·exact .inl e
   ·exact .inr ⟨y,h1,h2⟩
 ·have hf:∃z,f v=some z∧z.from_=y.from_:=by
   rcases key v y hv with⟨rfl,rfl⟩|⟨_,hv⟩
   ·exact⟨x,hx,rfl⟩
   ·exact⟨y,hv,rfl⟩
  obtain⟨z,hz,ez⟩:=hf;obtain⟨g1,g2⟩:=h.frm v z hz hne;rw[ez]at g1 g2;refine⟨List.mem_cons.2 (.inr g1),fun p q e=>?_⟩;cases p with
  | nil =>
   simp only[List.nil_append,List.cons.injEq]at e;rw[←e.2];exact g1
  | cons a p =>
   simp only[List.cons_append,List.cons.injEq]at e;exact g2 p q e.2
theorem C9 (f:SpM)(v:Sp)(x:wB):(j3 f v x=f∧∃y,f v=some y∧y.cost≤x.cost)∨(j3 f v x=rI f v x∧∀y,f v=some y→x.cost<y.cost):=by
 unfold j3;cases h:f v with
 | none=>exact .inr ⟨rfl,fun y hy=>by cases hy⟩
 | some y =>
  simp only;split
  ·rename_i hl
   exact .inr ⟨rfl,fun z hz=>by injection hz with hz;subst hz;exact hl⟩
  ·rename_i hl
   exact .inl ⟨rfl,y,rfl,by omega⟩
theorem DL.offer (h:DL E U f dn at_ c R)(hE:∀u v c,E u v c→0≤c)(hU:∀u v c,U u→E u v c→U v){v:Sp}{d:Int}(he:E at_ v d){x:wB}(hc:x.cost=c+d)(hf:x.from_=at_)(hd:x.done=false) :
  DL E U (j3 f v x) dn at_ c (fun z e=>R z e∨(z=v∧e=d)):=by
 have hd0:=hE _ _ _ he;obtain⟨xa,ha,hda,hca⟩:=h.now;rcases C9 f v x with⟨e,y,hy,hle⟩|⟨e,hlt⟩
 ·rw[e];exact⟨h.s0,h.snd,h.rel,h.now,fun z d' hR=>by
   rcases hR with hR|⟨rfl,rfl⟩
   ·exact h.off z d' hR
   ·exact⟨y,hy,by omega⟩,h.le,h.ge,h.dnI,h.nodup,h.frm⟩
 ·rw[e];have hnd:∀y,f v=some y→y.done=false:=fun y hy=>by
   cases hyd:y.done
   ·rfl
   ·have:=h.le v y hy hyd;have:=hlt y hy;omega
  have hva:at_≠v:=fun e=>by
   subst e;have:=hnd xa ha;rw[hda]at this;cases this
  have hvd:v∉dn:=fun hm=>by
   obtain⟨y,h1,h2⟩:=(h.dnI v).1 hm;rw[hnd y h1]at h2;cases h2
  have key:∀z y,rI f v x z=some y→(z=v∧y=x)∨(z≠v∧f z=some y):=fun z y hz=>by
   unfold rI at hz;split at hz
   ·rename_i e
    injection hz with hz;exact .inl ⟨e,hz.symm⟩
   ·rename_i e
    exact .inr ⟨e,hz⟩
  have low:∀z y,f z=some y→∃y',rI f v x z=some y'∧y'.cost≤y.cost:=fun z y hz=>by
   by_cases e:z=v
   ·subst e;exact⟨x,jL _ _ _,by have:=hlt y hz;omega⟩
   ·exact⟨y,by rw[pH e];exact hz,Int.le_refl _⟩
  refine⟨?_,fun z y hz=>?_,fun u y hu hyd hne z d' he'=>?_,⟨xa,by rw[pH hva];exact ha,hda,hca⟩,fun z d' hR=>?_,fun u y hu hyd=>?_,fun z y hz hyd=>?_,fun z=>?_,h.nodup,fun z y hz hne=>?_⟩
  ·obtain⟨y,h1,h2⟩:=h.s0;have hne:((0,0):Sp)≠v:=fun e=>by
    have:=hlt y (by rw[←e];exact h1);have:=Wk.low hE (h.snd _ _ ha).1;omega
   exact⟨y,by rw[pH hne];exact h1,h2⟩
  ·rcases key z y hz with⟨rfl,rfl⟩|⟨_,hz⟩
   ·rw[hc,←hca];exact⟨.step (h.snd _ _ ha).1 he,hU _ _ _ (h.snd _ _ ha).2 he⟩
   ·exact h.snd _ _ hz
  ·rcases key u y hu with⟨rfl,rfl⟩|⟨_,hu⟩
   ·rw[hd]at hyd;cases hyd
   ·obtain⟨y1,g1,g2⟩:=h.rel u y hu hyd hne z d' he';obtain⟨y2,g3,g4⟩:=low _ _ g1;exact⟨y2,g3,by omega⟩
  ·rcases hR with hR|⟨rfl,rfl⟩
   ·obtain⟨y1,g1,g2⟩:=h.off z d' hR;obtain⟨y2,g3,g4⟩:=low _ _ g1;exact⟨y2,g3,by omega⟩
   ·exact⟨x,jL _ _ _,by omega⟩
  ·rcases key u y hu with⟨rfl,rfl⟩|⟨_,hu⟩
   ·rw[hd]at hyd;cases hyd
   ·exact h.le u y hu hyd
  ·rcases key z y hz with⟨rfl,rfl⟩|⟨_,hz⟩
   ·omega
   ·exact h.ge z y hz hyd
  ·rw[h.dnI];constructor
   ·rintro⟨y,h1,h2⟩;have hne:z≠v:=fun e=>by
     subst e;rw[hnd y h1]at h2;cases h2
    exact⟨y,by rw[pH hne];exact h1,h2⟩
   ·rintro⟨y,h1,h2⟩;rcases key z y h1 with⟨_,rfl⟩|⟨_,h1⟩
    ·rw[hd]at h2;cases h2
    ·exact⟨y,h1,h2⟩
  ·rcases key z y hz with⟨rfl,rfl⟩|⟨_,hz⟩
   ·rw[hf];refine⟨(h.dnI at_).2 ⟨xa,ha,hda⟩,fun p q e=>absurd ?_ hvd⟩;rw[e];simp
   ·exact h.frm z y hz hne
theorem DL.fin (h:DL E U f dn at_ c R)(hR:∀v d,E at_ v d→R v d):DI E U f dn:=by
 obtain⟨xa,ha,hda,hca⟩:=h.now;refine⟨h.s0,h.snd,fun u x hu hd v d he=>?_,fun u x v y hu hd hv hy=>by have:=h.le u x hu hd;have:=h.ge v y hv hy;omega,h.dnI,h.nodup,h.frm⟩;by_cases e:u=at_
 ·subst e;rw[ha]at hu;injection hu with hu;subst hu;rw[hca];exact h.off v d (hR v d he)
 ·exact h.rel u x hu hd e v d he
theorem DL.imp (h:DL E U f dn at_ c R){R':Sp→Int→Prop}(hR:∀v d,R' v d→R v d):DL E U f dn at_ c R' :=
 ⟨h.s0,h.snd,h.rel,h.now,fun v d hr=>h.off v d (hR v d hr),h.le,h.ge,h.dnI,h.nodup,h.frm⟩
theorem DI.front (h:DI E U f dn)(hE:∀u v c,E u v c→0≤c){v:Sp}{c:Int}(hw:Wk E v c):(∃x,f v=some x∧x.done=true∧x.cost≤c)∨∃u x,f u=some x∧x.done=false∧x.cost≤c:=by
 have fin:∀(v:Sp) (c:Int) (y:wB),f v=some y→y.cost≤c→(∃x,f v=some x∧x.done=true∧x.cost≤c)∨∃u x,f u=some x∧x.done=false∧x.cost≤c:=fun v c y hy hc=>by
  cases hd:y.done
  ·exact .inr ⟨v,y,hy,hd,hc⟩
  ·exact .inl ⟨y,hy,hd,hc⟩
 induction hw with
 | nil =>
  obtain⟨x,h1,h2⟩:=h.s0;exact fin _ _ x h1 (by omega)
 | step hw he ih =>
  have h0:=hE _ _ _ he;rcases ih with⟨x,h1,h2,h3⟩|⟨u,x,h1,h2,h3⟩
  ·obtain⟨y,g1,g2⟩:=h.rel _ _ h1 h2 _ _ he;exact fin _ _ y g1 (by omega)
  ·exact .inr ⟨u,x,h1,h2,by omega⟩
theorem DI.none_left (h:DI E U f dn)(hE:∀u v c,E u v c→0≤c){g:Sp}{c:Int}(hw:Wk E g c)(hg:g∉dn):∃u x,f u=some x∧x.done=false:=by
 rcases h.front hE hw with⟨x,h1,h2,_⟩|⟨u,x,h1,h2,_⟩
 ·exact absurd ((h.dnI g).2 ⟨x,h1,h2⟩) hg
 ·exact⟨u,x,h1,h2⟩
theorem DI.goal (h:DI E U f dn)(hE:∀u v c,E u v c→0≤c){g:Sp}{x:wB}(hx:f g=some x)(hd:x.done=false)(hmin:∀v y,f v=some y→y.done=false→x.cost≤y.cost):Rf E g x.cost:=by
 refine⟨(h.snd _ _ hx).1,fun c' hw=>?_⟩;rcases h.front hE hw with⟨y,h1,h2,h3⟩|⟨u,y,h1,h2,h3⟩
 ·rw[hx]at h1;injection h1 with h1;subst h1;rw[hd]at h2;cases h2
 ·have:=hmin u y h1 h2;omega
end
def VZ (L n:Nat):List Sp:=(List.range (L+1)).flatMap fun k:Nat=>(List.range n).map fun m:Nat=>((k:Int),(m:Int))
theorem Rh {L n:Nat}{v:Sp}(h:InU L n v):v∈VZ L n:=by
 obtain⟨⟨h1,h2⟩,h3,h4⟩:=h;unfold VZ;rw[List.mem_flatMap];refine⟨v.1.toNat,List.mem_range.2 (by omega),List.mem_map.2 ⟨v.2.toNat,List.mem_range.2 (by omega), ?_⟩⟩;exact Prod.ext (by simp only;omega) (by simp only;omega)
theorem Ri (L n:Nat):(VZ L n).length=(L+1)*n:=by
 have key:∀l:List Nat,(l.map fun _=>n).sum=l.length*n:=fun l=>by
  induction l with
  | nil=>simp
  | cons a l ih=>simp[ih,Nat.add_mul,Nat.add_comm]
 unfold VZ;rw[List.length_flatMap];simp only[List.length_map,List.length_range];rw[key,List.length_range]
def JL (L n:Nat)(dn:List Sp):Nat:=((VZ L n).filter fun v=>!dn.contains v).length
theorem Rj (L n:Nat):JL L n []=(L+1)*n:=by
 unfold JL;rw[List.filter_eq_self.2 (fun v _=>by simp),Ri]
theorem NZ {L n:Nat}{dn:List Sp}{v:Sp}(h:InU L n v)(hv:v∉dn):JL L n (v::dn)<JL L n dn:=by
 unfold JL;refine xX _ (fun x _ hx=>?_) ⟨v,Rh h,by simpa using hv,by simp⟩;simp only[Bool.not_eq_true',List.contains_eq_mem,decide_eq_false_iff_not,List.mem_cons,not_or]at hx ⊢;exact hx.2
def WG (dn:List Sp)(v:Sp)(q:List Sp):Prop:=∃p,dn=p++v::q
theorem WG.next {E:Sp→Sp→Int→Prop}{U:Sp→Prop}{f:SpM}{dn q:List Sp}{v:Sp}{at_:Sp}{c:Int}{R:Sp→Int→Prop}(h:DL E U f dn at_ c R)(hb:WG dn v q)(hv:v≠(0,0)):∃x,f v=some x∧∃q',WG dn x.from_ q'∧q'.length<q.length:=by
 obtain⟨p,e⟩:=hb;obtain⟨x,hx,_⟩:=(h.dnI v).1 (by rw[e];simp);refine⟨x,hx, ?_⟩;have hm:=(h.frm v x hx hv).2 p q e;obtain⟨a,b,e2⟩:=List.append_of_mem hm;refine⟨b,⟨p++v::a,by rw[e,e2];simp⟩, ?_⟩;rw[e2];simp;omega
end Go.Proofs.YtfmnagcglhlicaaGreat
namespace Go.Proofs.YtfmnagcglhlicaaGreat
section
variable {E:Sp→Sp→Int→Prop} {L n:Nat} {g:Sp} {f:SpM} {dn:List Sp} {q:Nat}
structure AlI (E:Sp→Sp→Int→Prop)(L n:Nat)(g:Sp)(f:SpM)(dn:List Sp)(q:Nat):Prop where
 di:DI E (InU L n) f dn
 ng:g∉dn
 cost:∀v x,f v=some x→x.cost≤(dn.length:Int)
 len:dn.length+JL L n dn≤18300
 wr:q≤1+20000*dn.length
theorem AlI.start (hn:0<n)(hn3:n≤300)(hL:L≤60)(hg:g∉([]:List Sp)):AlI E L n g uS [] 1:=by
 refine⟨DI.start ⟨⟨by simp,by simp⟩,by simp,by simp only;omega⟩,hg,fun v x h=>?_, ?_,by simp⟩
 ·unfold uS rI at h;split at h
  ·injection h with h;subst h;simp
  ·cases h
 ·rw[Rj];have:(L+1)*n≤61*300:=Nat.mul_le_mul (by omega) hn3;simpa using this
structure AlP (E:Sp→Sp→Int→Prop)(L n:Nat)(g:Sp)(f:SpM)(dn:List Sp)(at_:Sp)(c:Int)(q r:Nat):Prop where
 dl:DL E (InU L n) f dn at_ c (fun _ _=>False)
 cost:∀v x,f v=some x→x.cost≤(dn.length:Int)
 c0:0≤c∧c+1≤(dn.length:Int)∧c≤1000000
 len:dn.length+JL L n dn≤18300
 less:JL L n dn<r
 wr:q+14401≤1+20000*dn.length
 few:q≤900000000
 ng:g=at_∨g∉dn
 inU:InU L n at_
 head:∃dn',dn=at_::dn'
theorem AlI.pop (h:AlI E L n g f dn q)(hE:∀u v c,E u v c→0≤c){at_:Sp}{x:wB}(hx:f at_=some x)(hd:x.done=false)(hmin:∀v y,f v=some y→y.done=false→x.cost≤y.cost) :
  AlP E L n g (rI f at_ {x with done:=true}) (at_::dn) at_ x.cost (q+1) (JL L n dn):=by
 have hnot:at_∉dn:=fun hm=>by
  obtain⟨y,h1,h2⟩:=(h.di.dnI at_).1 hm;rw[hx]at h1;injection h1 with h1;subst h1;rw[hd]at h2;cases h2
 have hin:=(h.di.snd _ _ hx).2;have hlow:=Wk.low hE (h.di.snd _ _ hx).1;have hc:=h.cost _ _ hx;have hr:=NZ hin hnot;have hl:=h.len;have hw:=h.wr;refine⟨h.di.pop hx hd hmin,fun v y hv=>?_,⟨hlow,by simp only[List.length_cons];omega,by omega⟩,by simp only[List.length_cons];omega,hr,by simp only[List.length_cons];omega,by omega, ?_,hin,dn,rfl⟩
 ·unfold rI at hv;split at hv
  ·injection hv with hv;subst hv;simp only[List.length_cons];omega
  ·have:=h.cost _ _ hv;simp only[List.length_cons];omega
 ·by_cases e:g=at_
  ·exact .inl e
  ·refine .inr (fun hm=>?_);rcases List.mem_cons.1 hm with hm|hm
   ·exact e hm
   ·exact h.ng hm
theorem AlP.next {at_:Sp}{c:Int}{q r q':Nat}{f':SpM}{R:Sp→Int→Prop}(h:AlP E L n g f dn at_ c q r)(hne:g≠at_)(D:DL E (InU L n) f' dn at_ c R)(hR:∀v d,E at_ v d→R v d)(hq:q'≤q+14401)(hc:∀v x,f' v=some x→x.cost≤(dn.length:Int)):AlI E L n g f' dn q' :=
 ⟨D.fin hR,h.ng.resolve_left hne,hc,h.len,by have:=h.wr;omega⟩
structure AlB (E:Sp→Sp→Int→Prop)(L n:Nat)(f:SpM)(dn:List Sp)(v:Sp)(k r:Nat):Prop where
 isIn:∃x,f v=some x
 rest:∃q,WG dn v q∧q.length=r
 few:k+r≤18300
theorem AlP.back {at_:Sp}{c:Int}{q r:Nat}(h:AlP E L n g f dn at_ c q r):∃s,AlB E L n f dn at_ 0 s:=by
 obtain⟨dn',e⟩:=h.head;obtain⟨x,hx,_⟩:=h.dl.now;refine⟨dn'.length,⟨x,hx⟩,⟨dn',⟨[],by simp[e]⟩,rfl⟩, ?_⟩;have:=h.len;rw[e]at this;simp only[List.length_cons]at this;omega
theorem AlP.back_next {at_:Sp}{c:Int}{q r:Nat}(h:AlP E L n g f dn at_ c q r){v:Sp}{k s:Nat}(hb:AlB E L n f dn v k s)(hv:v≠(0,0)):∃x,f v=some x∧∃s',s'<s∧AlB E L n f dn x.from_ (k+1) s':=by
 obtain⟨qq,hq,rfl⟩:=hb.rest;obtain⟨x,hx,q',hq',hlt⟩:=hq.next h.dl hv;refine⟨x,hx,q'.length,hlt, ?_,⟨q',hq',rfl⟩,by have:=hb.few;omega⟩;obtain⟨p,e⟩:=hq';obtain⟨y,hy,_⟩:=(h.dl.dnI x.from_).1 (by rw[e];simp);exact⟨y,hy⟩
theorem AlP.cost_at {at_:Sp}{c:Int}{q r:Nat}(h:AlP E L n g f dn at_ c q r):∃x,f at_=some x∧x.cost=c:=by
 obtain⟨x,h1,_,h2⟩:=h.dl.now;exact⟨x,h1,h2⟩
end
end Go.Proofs.YtfmnagcglhlicaaGreat
namespace Go.Proofs.YtfmnagcglhlicaaGreat
def far:Int:=1073741824
section
variable {ars:List bO} {lb:Int→Int} {tr:LIn} {n:Nat}
end
theorem Wk.along {ars:List bO}{lb:Int→Int}{tr:LIn}:∀k:Nat,k≤tr.length→Wk (Ed ars lb tr) ((k:Int),0) (k:Int)
 | 0,_=>.nil
 | k+1,h=>by
  have:=Wk.along (ars:=ars) (lb:=lb) (tr:=tr) k (by omega);exact Wk.step this (.inl ⟨by simp only;omega,by simp,rfl⟩)
theorem Wk.marks {N:aS}{most:Nat}{s:PSp}(h:lW N most s){lb:Int→Int}{tr:LIn}(hlb:∀a∈s.arcs,0≤lb a.tran):∀(q m:Nat),m≤q→m<s.marks.length→∃c,Wk (Ed s.arcs lb tr) ((tr.length:Int),(m:Int)) c∧c≤(tr.length:Int)+(m:Int):=by
 intro q;induction q with
 | zero =>
  intro m hm _;obtain rfl:m=0:=by omega
  exact⟨_,Wk.along tr.length (Nat.le_refl _),by omega⟩
 | succ q ih =>
  intro m hm hml;by_cases h0:m=0
  ·exact ih m (by omega) hml
  ·obtain⟨j,a,ha,ht,hlt,_⟩:=h.found m (by omega) hml;have hmem:=List.mem_of_getElem? ha;have hfr:=(h.ends a hmem).1;obtain⟨f,ef⟩:∃f:Nat,a.from_=(f:Int):=⟨a.from_.toNat,by omega⟩;obtain⟨c,hw,hc⟩:=ih f (by omega) (by omega);have:=hlb a hmem;refine⟨_,.step hw (.inr (.inl ⟨a,hmem,ef,by rw[ht],rfl⟩)),by omega⟩
end Go.Proofs.YtfmnagcglhlicaaGreat
