/- Texts melted into one: The plain law of groups of labels: the reference's way, by the least label that each is linked with. No program in sight. | The plain law of what leads to what: closed by going over all triples (the program), or by going on from what was found (the reference). No program in si -/
import Derived.Test.YtgnljpnlolkalaaGreatBenchTellsK04
set_option linter.all false
set_option maxRecDepth 100000
set_option maxHeartbeats 8000000
namespace Go.Proofs.YtgnljpnlolkalaaGreat
open Classical
def hdF (lk:Int->Int->Bool)(h:Int->Int)(p:Int×Int):Int->Int:=if lk p.1 p.2=true then λx=>if x=p.1∨x=p.2 then min (h p.1) (h p.2)else h x else h
def Qd (ls:LIn):List (Int×Int):=ls.flatMap λa=>ls.map λb=>(a,b)
def uW {ls:LIn}{a b:Int}:(a,b)∈Qd ls↔a∈ls/\b∈ls:=by
 unfold Qd;simp only[iZ,bZ,Prod.mk.injEq];constructor
 .rintro⟨x,c,y,d,rfl,rfl⟩;exact⟨c,d⟩
 rintro⟨e,f⟩;exact⟨a,e,b,f,rfl,rfl⟩
section
variable {lk:Int->Int->Bool} {ls:LIn}
structure HdI (lk:Int->Int->Bool)(ls:LIn)(h:Int->Int):Prop where
 con:∀x∈ls,jB lk ls x (h x)
 le:∀x∈ls,h x<=x
def HdI.start:HdI lk ls (λx=>x):=⟨λ_ a=>.refl a,λx _=>iH x⟩
def HdI.step {h:Int->Int}(H:HdI lk ls h){p:Int×Int}(f:p.1∈ls)(g:p.2∈ls):HdI lk ls (hdF lk h p)/\(∀x∈ls,hdF lk h p x<=h x)/\(lk p.1 p.2=true->hdF lk h p p.1<=h p.2/\hdF lk h p p.2<=h p.1):=by
 unfold hdF;by_cases i:lk p.1 p.2=true
 rotate_left
 .rw[aD i];exact⟨H,λx _=>iH _,λh=>absurd h i⟩
 rw[aG i];have d:jB lk ls p.1 p.2:=.step (.refl f) g (by unfold lkB;rw[i];rfl);have j:min (h p.1) (h p.2)=h p.1∨min (h p.1) (h p.2)=h p.2:=by omega
 have key:∀x∈ls,x=p.1∨x=p.2->jB lk ls x (min (h p.1) (h p.2)):=λx _ c=>by
  rcases j with e|e <;> rw[e]
  .rcases c with rfl|rfl
   .exact H.con _ f
   exact d.symm.trans (H.con _ f)
  rcases c with rfl|rfl
  .exact d.trans (H.con _ g)
  exact H.con _ g
 refine⟨⟨λx c=>?_,λx c=>?_⟩,λx c=>?_,λ_=>⟨?_, ?_⟩⟩
 .show jB lk ls x (if x=p.1∨x=p.2 then min (h p.1) (h p.2)else h x)
  split
  .exact key x c (by assumption)
  exact H.con x c
 .show(if x=p.1∨x=p.2 then min (h p.1) (h p.2)else h x)<=x
  have a:=H.le _ f;have b:=H.le _ g;split
  .rename_i e
   rcases e with rfl|rfl <;> omega
  exact H.le x c
 .show(if x=p.1∨x=p.2 then min (h p.1) (h p.2)else h x)<=h x
  split
  .rename_i e
   rcases e with rfl|rfl <;> omega
  exact iH _
 .show(if p.1=p.1∨p.1=p.2 then min (h p.1) (h p.2)else h p.1)<=h p.2
  rw[aG (.inl rfl)];omega
 show(if p.2=p.1∨p.2=p.2 then min (h p.1) (h p.2)else h p.2)<=h p.1
 rw[aG (.inr rfl)];omega
def HdI.all:∀(l:List (Int×Int)) {h:Int->Int},HdI lk ls h->(∀p∈l,p.1∈ls/\p.2∈ls)->HdI lk ls (l.foldl (hdF lk) h)/\(∀x∈ls,l.foldl (hdF lk) h x<=h x)/\∀p∈l,lk p.1 p.2=true->l.foldl (hdF lk) h p.1<=h p.2/\l.foldl (hdF lk) h p.2<=h p.1
 | [],h,H,_=>⟨H,λx _=>iH _,λp hp=>by simp at hp⟩
 | q::l,h,H,b=>by
  obtain⟨e,f⟩:=b q (by simp);obtain⟨s1,s2,s3⟩:=H.step e f;obtain⟨a1,a2,a3⟩:=HdI.all l s1 (λp hp=>b p (by simp[hp]));rw[f9];refine⟨a1,λx g=>mD (a2 x g) (s2 x g),λp hp a=>?_⟩;rcases a7.1 hp with rfl|hp
  .obtain⟨c,d⟩:=s3 a;exact⟨mD (a2 _ e) c,mD (a2 _ f) d⟩
  obtain⟨c,d⟩:=a3 p hp a;obtain⟨i,p2⟩:=b p (by simp[hp]);exact⟨mD c (s2 _ p2),mD d (s2 _ i)⟩
def tJ (lk:Int->Int->Bool)(ls:LIn)(h:Int->Int):Int->Int:=(Qd ls).foldl (hdF lk) h
def gI (lk:Int->Int->Bool)(ls:LIn)(k:Nat):Int->Int:=(List.range k).foldl (λh _=>tJ lk ls h) (λx=>x)
def rN (k:Nat):gI lk ls (k+1)=tJ lk ls (gI lk ls k):=by
 unfold gI;rw[eF,fD];rfl
def HdI.round {h:Int->Int}(H:HdI lk ls h):HdI lk ls (tJ lk ls h)/\(∀x∈ls,tJ lk ls h x<=h x)/\∀a∈ls,∀b∈ls,lkB lk a b=true->tJ lk ls h b<=h a:=by
 obtain⟨a1,a2,a3⟩:=HdI.all (Qd ls) H (λp hp=>uW.1 (show(p.1,p.2)∈Qd ls from hp));refine⟨a1,a2,λa d b e c=>?_⟩;unfold lkB at c;rw[l7]at c;rcases c with c|c
 .exact(a3 (a,b) (uW.2 ⟨d,e⟩) c).2
 exact(a3 (b,a) (uW.2 ⟨e,d⟩) c).1
def HdI.rounds:∀k,HdI lk ls (gI lk ls k)
 | 0=>HdI.start
 | k+1=>by rw[rN];exact(HdI.rounds k).round.1
def Low (lk:Int->Int->Bool)(ls:LIn)(h:Int->Int)(x:Int):Prop:=∀y,jB lk ls x y->h x<=y
noncomputable def lows (lk:Int->Int->Bool)(ls:LIn)(h:Int->Int):LIn:=ls.filter λx=>decide (Low lk ls h x)
def zN {α:Type}{p q:α->Bool}:∀(l:List α),(∀x∈l,p x=true->q x=true)->(l.filter p).length<=(l.filter q).length/\((∃x∈l,p x=false/\q x=true)->(l.filter p).length<(l.filter q).length)
 | [],_=>⟨aB _,λ⟨x,b,_⟩=>by simp at b⟩
 | a::l,h=>by
  obtain⟨e,f⟩:=zN l (λx b=>h x (by simp[b]));have g:=h a (by simp);simp only[List.filter_cons];cases hp:p a <;> cases hq:q a
  .exact⟨by simpa using e,λ⟨x,b,c,d⟩=>by
    rcases a7.1 b with rfl|b
    .rw[hq]at d;cases d
    simpa using f ⟨x,b,c,d⟩⟩
  .exact⟨by simp;omega,λ_=>by simp;omega⟩
  .rw[g hp]at hq;cases hq
  exact⟨by simpa using e,λ⟨x,b,c,d⟩=>by
   rcases a7.1 b with rfl|b
   .rw[hp]at c;cases c
   simpa using f ⟨x,b,c,d⟩⟩
def Low.next {h:Int->Int}(H:HdI lk ls h){x:Int}(a:x∈ls)(b:Low lk ls h x):Low lk ls (tJ lk ls h) x:=λy c=>mD (H.round.2.1 x a) (b y c)
def YZ {h:Int->Int}{a b:Int}(e:jB lk ls a b)(g:Low lk ls h a)(f:¬Low lk ls h b):∃x y,x∈ls/\y∈ls/\lkB lk x y=true/\Low lk ls h x/\¬Low lk ls h y:=by
 induction e with
 | refl _=>exact absurd g f
 | @step _ c e i j k =>
  rename_i l
  by_cases d:Low lk ls h l
  .exact⟨_,_,e.right,i,j,d,f⟩
  exact k d
def Ur {a:Int}(j:a∈ls):∃m,jB lk ls a m/\∀y,jB lk ls a y->m<=y:=by
 have key:∀l:LIn,(∃x∈l,jB lk ls a x)->∃m,jB lk ls a m/\∀y∈l,jB lk ls a y->m<=y:=λl=>by
  induction l with
  | nil=>rintro⟨x,f,_⟩;simp at f
  | cons b l o =>
   rintro⟨x,f,k⟩;by_cases g:∃x∈l,jB lk ls a x
   .obtain⟨m,h,e⟩:=o g;by_cases n:jB lk ls a b/\b<m
    .exact⟨b,n.1,λy c d=>by
      rcases a7.1 c with rfl|c
      .exact iH _
      have:=e y c d;omega⟩
    exact⟨m,h,λy c d=>by
     rcases a7.1 c with rfl|c
     .exact Int.not_lt.1 (λi=>n ⟨d,i⟩)
     exact e y c d⟩
   rcases a7.1 f with rfl|f
   .exact⟨x,k,λy c d=>by
     rcases a7.1 c with rfl|c
     .exact iH _
     exact absurd ⟨y,c,d⟩ g⟩
   exact absurd ⟨x,f,k⟩ g
 obtain⟨m,h,e⟩:=key ls ⟨a,j,.refl j⟩;exact⟨m,h,λy c=>e y c.right c⟩
def QM {h:Int->Int}(H:HdI lk ls h)(c:∃x∈ls,¬Low lk ls h x):(lows lk ls h).length<(lows lk ls (tJ lk ls h)).length:=by
 obtain⟨x,p,d⟩:=c;obtain⟨m,e,f⟩:=Ur (lk:=lk) p;have g:Low lk ls h m:=λy i=>mD (H.le m e.right) (f y (e.trans i))
 obtain⟨a,b,n,j,o,k,l⟩:=YZ e.symm g d;refine(zN ls (λz q hp=>?_)).2 ⟨b,j,by simpa using l, ?_⟩
 .simp only[bO]at hp ⊢;exact hp.next H q
 simp only[bO];intro y i;exact mD (H.round.2.2 a n b j o) (k y (.trans (.step (.refl n) j o) i))
def Us (k:Nat):(∀x∈ls,Low lk ls (gI lk ls k) x)∨k<=(lows lk ls (gI lk ls k)).length:=by
 induction k with
 | zero=>exact .inr (aL _)
 | succ k b =>
  rw[rN];by_cases a:∀x∈ls,Low lk ls (gI lk ls k) x
  .exact .inl (λx c=>(a x c).next (HdI.rounds k) c)
  have d:∃x∈ls,¬Low lk ls (gI lk ls k) x:=by
   obtain⟨x,c⟩:=Classical.not_forall.1 a;exact⟨x,Classical.not_imp.1 c⟩
  have:=QM (HdI.rounds k) d;rcases b with b|b
  .exact absurd b a
  exact .inr (by omega)
def QN:∀x∈ls,Low lk ls (gI lk ls ls.length) x:=by
 rcases Us (lk:=lk) (ls:=ls) ls.length with h|h
 .exact h
 have a:(lows lk ls (gI lk ls ls.length)).length=ls.length:=Nat.le_antisymm (fC _ _) h;have:=(List.filter_eq_self (l:=ls) (p:=λx=>decide (Low lk ls (gI lk ls ls.length) x))).1 ((List.filter_sublist).eq_of_length a);exact λx b=>by simpa using this x b
def vW (ls:LIn)(h:Int->Int):LLi:=(ls.map λm=>ls.filter λa=>h a==m).filter λl=>decide (0<l.length)
def jX (hp:ls.Pairwise (.< .)):tW lk ls (vW ls (gI lk ls ls.length)):=by
 obtain⟨h,A⟩:=aK (gI lk ls ls.length);have H:=HdI.rounds (lk:=lk) (ls:=ls) ls.length;have lo:=QN (lk:=lk) (ls:=ls);rw[A]at H lo ⊢;have i:∀x∈ls,∀y∈ls,h x=h y↔jB lk ls x y:=λx c y p=>⟨λe=>(H.con x c).trans (by rw[e];exact(H.con y p).symm),λw=>Int.le_antisymm (lo x c _ (w.trans (H.con y p))) (lo y p _ (w.symm.trans (H.con x c)))⟩
 have r:∀x∈ls,h (h x)=h x:=λx c=>((i (h x) (H.con x c).right x c).2 (H.con x c).symm)
 have mem:∀l,l∈vW ls h↔∃m∈ls,l=ls.filter (λa=>h a==m)/\l≠[]:=λl=>by
  unfold vW;rw[bR,bZ];constructor
  .rintro⟨⟨m,k,rfl⟩,f⟩;exact⟨m,k,rfl,λe=>by rw[e]at f;simp at f⟩
  rintro⟨m,k,rfl,f⟩;exact⟨⟨m,k,rfl⟩,by simpa using List.length_pos_iff.2 f⟩
 have head:∀m,∀l,l=ls.filter (λa=>h a==m)->l≠[]->l.head?=some m:=λm l e f=>by
  obtain⟨x,c⟩:=List.exists_mem_of_ne_nil l f;have d:=c;rw[e,bR]at d;have j:h x=m:=by simpa using d.2
  have s:m∈ls:=by rw[<-j];exact(H.con x d.1).right
  have k:m∈l:=by
   rw[e,bR];refine⟨s, ?_⟩;have:=r x d.1;rw[j]at this;simpa using this
  have n:l.Pairwise (.< .):=by rw[e];exact hp.filter _
  cases hl:l with
  | nil=>exact absurd hl f
  | cons b E =>
   have t:b∈l:=by rw[hl];simp
   rw[e,bR]at t;have B:h b=m:=by simpa using t.2
   have:=H.le b t.1;rw[hl]at k n;rcases a7.1 k with C|q
   .rw[C];rfl
   have:=(gQ.1 n).1 m q;omega
 refine⟨λg o=>?_,λg o=>?_,λg o x c=>?_,λx c=>?_,λg o x c y p=>?_, ?_⟩
 .obtain⟨m,_,rfl,_⟩:=(mem g).1 o;exact hp.filter _
 .obtain⟨m,_,_,f⟩:=(mem g).1 o;exact f
 .obtain⟨m,_,rfl,_⟩:=(mem g).1 o;exact(bR.1 c).1
 .have k:x∈ls.filter (λa=>h a==h x):=bR.2 ⟨c,by simp⟩;exact⟨_,(mem _).2 ⟨h x,(H.con x c).right,rfl,λe=>by rw[e]at k;simp at k⟩,k⟩
 .obtain⟨m,_,rfl,_⟩:=(mem g).1 o;obtain⟨u,d⟩:=bR.1 c;have j:h x=m:=by simpa using d
  rw[bR,<-i x u y p];constructor
  .rintro⟨_,q⟩;rw[j];exact(by simpa using q:h y=m).symm
  intro e;exact⟨p,by rw[<-e,j];simp⟩
 unfold vW;rw[List.pairwise_filter,oI];have pos:∀l:LIn,decide (0<l.length)=true->l≠[]:=λl f e=>by rw[e]at f;simp at f
 exact hp.imp (λ{m z} v D q=>⟨m,z,head m _ rfl (pos _ D),head z _ rfl (pos _ q),v⟩)
end
end Go.Proofs.YtgnljpnlolkalaaGreat
namespace Go.Proofs.YtgnljpnlolkalaaGreat
inductive Via (R:Int->Int->Prop)(K:LIn):Int->Int->Prop
 | one {a b:Int} (h:R a b):Via R K a b
 | step {a c b:Int} (h:Via R K a c) (hc:c∈K) (hr:R c b):Via R K a b
section
variable {R:Int->Int->Prop} {K:LIn}
def Via.trans {a c b:Int}(h:Via R K a c)(e:c∈K)(g:Via R K c b):Via R K a b:=by
 induction g with
 | one d=>exact .step h e d
 | step _ f d i=>exact .step i f d
def Via.more {L:LIn}(d:∀x∈K,x∈L){a b:Int}(h:Via R K a b):Via R L a b:=by
 induction h with
 | one c=>exact .one c
 | step _ e c f=>exact .step f (d _ e) c
def Via.split {k a b:Int}(h:Via R (K++[k]) a b):Via R K a b∨(Via R K a k/\Via R K k b):=by
 induction h with
 | one d=>exact .inl (.one d)
 | @step c b h f d g =>
  rcases cN.1 f with f|f
  .rcases g with g|⟨i,j⟩
   .exact .inl (.step g f d)
   exact .inr ⟨i,.step j f d⟩
  have e:=bJ.1 f;subst e;rcases g with g|⟨i,_⟩
  .exact .inr ⟨g,.one d⟩
  exact .inr ⟨i,.one d⟩
end
def Dn (S:Int->Int->Bool)(t:Int×Int×Int):Int->Int->Bool:=if S t.2.1 t.1=true/\S t.1 t.2.2=true then λa b=>(decide (a=t.2.1/\b=t.2.2))||S a b else S
section
variable {R:Int->Int->Prop} {ls K:LIn} {k:Int}
structure Oo (R:Int->Int->Prop)(K:LIn)(k:Int)(S:Int->Int->Bool):Prop where
 snd:∀a b,S a b=true->Via R (K++[k]) a b
 old:∀a b,Via R K a b->S a b=true
def Oo.start {S:Int->Int->Bool}(h:∀a b,S a b=true↔Via R K a b):Oo R K k S:=⟨λa b c=>((h a b).1 c).more (λx d=>by simp[d]),λa b e=>(h a b).2 e⟩
def Oo.next {S:Int->Int->Bool}(h:Oo R K k S)(a b:Int):Oo R K k (Dn S (k,a,b))/\(∀x y,S x y=true->Dn S (k,a,b) x y=true)/\(Via R K a k->Via R K k b->Dn S (k,a,b) a b=true):=by
 have d:∀x y,S x y=true->Dn S (k,a,b) x y=true:=λx y c=>by
  unfold Dn;split
  .simp[c]
  exact c
 refine⟨⟨λx y c=>?_,λx y f=>d x y (h.old x y f)⟩,d,λg i=>?_⟩
 .unfold Dn at c;split at c
  .rename_i e
   simp only[l7,bO]at c;rcases c with⟨rfl,rfl⟩|c
   .exact(h.snd _ _ e.1).trans (by simp) (h.snd _ _ e.2)
   exact h.snd x y c
  exact h.snd x y c
 unfold Dn;rw[aG ⟨h.old _ _ g,h.old _ _ i⟩];simp
def Oo.all:∀(l:List (Int×Int)) {S:Int->Int->Bool},Oo R K k S->Oo R K k (l.foldl (λS p=>Dn S (k,p.1,p.2)) S)/\(∀x y,S x y=true->l.foldl (λS p=>Dn S (k,p.1,p.2)) S x y=true)/\∀p∈l,Via R K p.1 k->Via R K k p.2->l.foldl (λS p=>Dn S (k,p.1,p.2)) S p.1 p.2=true
 | [],S,h=>⟨h,λx y a=>a,λp hp=>by simp at hp⟩
 | q::l,S,h=>by
  obtain⟨n1,n2,n3⟩:=h.next q.1 q.2;obtain⟨a1,a2,a3⟩:=Oo.all l n1;rw[f9];refine⟨a1,λx y a=>a2 x y (n2 x y a),λp hp b c=>?_⟩;rcases a7.1 hp with rfl|hp
  .exact a2 _ _ (n3 b c)
  exact a3 p hp b c
def Oo.phase {S:Int->Int->Bool}(f:∀a b,R a b->a∈ls/\b∈ls)(h:∀a b,S a b=true↔Via R K a b)(a b:Int):(Qd ls).foldl (λS p=>Dn S (k,p.1,p.2)) S a b=true↔Via R (K++[k]) a b:=by
 obtain⟨a1,a2,a3⟩:=Oo.all (Qd ls) (Oo.start (k:=k) h);refine⟨a1.snd a b,λd=>?_⟩;rcases d.split with c|⟨c,g⟩
 .exact a1.old a b c
 have i:∀{x y:Int},Via R K x y->x∈ls/\y∈ls:=λ{x y} d=>by
  induction d with
  | one e=>exact f _ _ e
  | step _ _ e j=>exact⟨j.1,(f _ _ e).2⟩
 exact a3 (a,b) (uW.2 ⟨(i c).1,(i g).2⟩) c g
def jD (ls:LIn)(S:Int->Int->Bool)(K:LIn):Int->Int->Bool:=K.foldl (λS k=>(Qd ls).foldl (λS p=>Dn S (k,p.1,p.2)) S) S
def QO {S:Int->Int->Bool}(f:∀a b,R a b->a∈ls/\b∈ls)(h:∀a b,S a b=true↔R a b):∀K:LIn,∀a b,jD ls S K a b=true↔Via R K a b:=by
 have g:∀a b,S a b=true↔Via R [] a b:=λa b=>(h a b).trans ⟨λd=>.one d,λi=>by
  cases i with
  | one d=>exact d
  | step _ j _=>simp at j⟩
 have key:∀(c K:LIn) (S:Int->Int->Bool),(∀a b,S a b=true↔Via R K a b)->∀a b,jD ls S c a b=true↔Via R (K++c) a b:=λc=>by
  induction c with
  | nil=>intro K S e a b;simpa [jD] using e a b
  | cons k c l =>
   intro K S e a b;have:=l (K++[k]) _ (Oo.phase (k:=k) f e) a b;simpa [jD] using this
 intro K a b;simpa using key K [] S g a b
end
structure BfI (R:Int->Int->Prop)(ls:LIn)(a:Int)(out todo:LIn):Prop where
 snd:∀y∈out,Via R ls a y
 nd:out.Nodup
 sub:∀x∈todo,x=a∨x∈out
 done:∀x,x=a∨x∈out->x∈todo∨∀y,R x y->y∈out
section
variable {R:Int->Int->Prop} {ls:LIn} {a:Int} {out todo:LIn}
def BfI.start:BfI R ls a [] [a] where
 snd:=λy c=>by simp at c
 nd:=.nil
 sub:=λx b=>.inl (bJ.1 b)
 done:=λx b=>.inl (by rcases b with rfl|b <;> simp_all)
structure BxI (R:Int->Int->Prop)(ls:LIn)(a x:Int)(P:List (Int×Int))(out rest:LIn):Prop where
 snd:∀y∈out,Via R ls a y
 nd:out.Nodup
 at_:x=a∨x∈out
 sub:∀z∈rest,z=a∨z∈out
 done:∀z,z=a∨z∈out->z∈rest∨z=x∨∀y,R z y->y∈out
 new:∀p∈P,p.1=x->p.2∈out
def BfI.open_ {x:Int}{rest:LIn}(h:BfI R ls a out (x::rest)):BxI R ls a x [] out rest where
 snd:=h.snd
 nd:=h.nd
 at_:=h.sub x (by simp)
 sub:=λz c=>h.sub z (by simp[c])
 done:=λz c=>by
  rcases h.done z c with b|b
  .rcases a7.1 b with e|b
   .exact .inr (.inl e)
   exact .inl b
  exact .inr (.inr b)
 new:=λp hp=>by simp at hp
def BxI.skip {x:Int}{P:List (Int×Int)}{p:Int×Int}{rest:LIn}(h:BxI R ls a x P out rest)(hp:p.1≠x∨p.2∈out):BxI R ls a x (P++[p]) out rest where
 snd:=h.snd
 nd:=h.nd
 at_:=h.at_
 sub:=h.sub
 done:=h.done
 new:=λq b e=>by
  rcases cN.1 b with b|b
  .exact h.new q b e
  rw[bJ.1 b]at e ⊢;exact hp.resolve_left (λc=>c e)
def BxI.take {x:Int}{P:List (Int×Int)}{p:Int×Int}{rest:LIn}(h:BxI R ls a x P out rest)(hp:p.1=x)(j:p.2∉out)(g:R p.1 p.2)(k:∀u v,R u v->u∈ls/\v∈ls):BxI R ls a x (P++[p]) (out++[p.2]) (rest++[p.2]) where
 snd:=λy c=>by
  rcases cN.1 c with c|c
  .exact h.snd y c
  rw[bJ.1 c];rw[hp]at g;rcases h.at_ with e|i
  .rw[<-e];exact .one g
  exact .step (h.snd x i) (k _ _ g).1 g
 nd:=nB.2 ⟨h.nd,by simp,λy c z b e=>j (by rw[<-bJ.1 b,<-e];exact c)⟩
 at_:=h.at_.imp id (λi=>by simp[i])
 sub:=λz b=>by
  rcases cN.1 b with b|b
  .exact(h.sub z b).imp id (λh=>by simp[h])
  exact .inr (by simp[bJ.1 b])
 done:=λz b=>by
  rcases b with e|b
  .rcases h.done z (.inl e)with d|d|d
   .exact .inl (by simp[d])
   .exact .inr (.inl d)
   exact .inr (.inr (λy c=>by simp[d y c]))
  rcases cN.1 b with b|b
  .rcases h.done z (.inr b)with d|d|d
   .exact .inl (by simp[d])
   .exact .inr (.inl d)
   exact .inr (.inr (λy c=>by simp[d y c]))
  exact .inl (by simp[bJ.1 b])
 new:=λq f e=>by
  rcases cN.1 f with f|f
  .simp[h.new q f e]
  simp[bJ.1 f]
def BxI.close {x:Int}{P:List (Int×Int)}{rest:LIn}(h:BxI R ls a x P out rest)(c:∀u v,R u v->(u,v)∈P):BfI R ls a out rest where
 snd:=h.snd
 nd:=h.nd
 sub:=h.sub
 done:=λz d=>by
  rcases h.done z d with b|b|b
  .exact .inl b
  .exact .inr (λy e=>h.new (z,y) (c z y e) b)
  exact .inr b
def BfI.fin (h:BfI R ls a out [])(y:Int):y∈out↔Via R ls a y:=by
 refine⟨h.snd y,λc=>?_⟩;induction c with
 | one b=>exact((h.done a (.inl rfl)).resolve_left (by simp)) _ b
 | step _ _ b d=>exact((h.done _ (.inr d)).resolve_left (by simp)) _ b
end
end Go.Proofs.YtgnljpnlolkalaaGreat
namespace Go.Proofs.YtgnljpnlolkalaaGreat
def hdG (g:LIn):Int:=g.headD 0
section
variable {lk:Int->Int->Bool} {ls:LIn} {G:LLi}
def rO {g:LIn}(h:g≠[]):hdG g∈g:=by
 cases g with
 | nil=>exact absurd rfl h
 | cons a g=>simp[hdG]
def tW.same (h:tW lk ls G){g b:LIn}(d:g∈G)(a:b∈G){y:Int}(e:y∈g)(f:y∈b):g=b :=
 rJ (h.asc g d) (h.asc b a) (λz=>⟨λc=>(h.cls b a y f z (h.sub g d z c)).2 ((h.cls g d y e z (h.sub g d z c)).1 c),λc=>(h.cls g d y e z (h.sub b a z c)).2 ((h.cls b a y f z (h.sub b a z c)).1 c)⟩)
def tW.nodup (h:tW lk ls G):G.Nodup:=by
 refine h.ord.imp (λ{a b} c e=>?_);subst e;obtain⟨x,y,f,d,g⟩:=c;rw[f]at d;injection d with d;omega
end
section
variable {lds:Int->Int->Bool} {ls:LIn} {G:LLi}
def cY (lds:Int->Int->Bool)(a b:Int):Bool:=lds a b==lds b a
def Ut (a b:Int):lkB (cY lds) a b=true↔lds a b=lds b a:=by
 unfold lkB cY;rw[l7,fA,fA];exact⟨λh=>h.elim id Eq.symm,.inl⟩
def XZ (h:tW (cY lds) ls G){g b:LIn}(c:g∈G)(a:b∈G)(d:g≠b){x y:Int}(i:x∈g)(f:y∈b):lds x y=!lds y x:=by
 have:lds x y≠lds y x:=λe=>d (h.same c a ((h.cls g c x i y (h.sub b a y f)).2 (.step (.refl (h.sub g c x i)) (h.sub b a y f) ((Ut x y).2 e))) f)
 cases e1:lds x y <;> cases e2:lds y x <;> simp_all
def ltG (lds:Int->Int->Bool)(g a:LIn):Prop:=lds (hdG g) (hdG a)=true
def EY (h:tW (cY lds) ls G){g a:LIn}(d:g∈G)(b:a∈G)(c:g≠a):ltG lds g a↔¬ltG lds a g:=by
 unfold ltG;rw[XZ h d b c (rO (h.ne g d)) (rO (h.ne a b))];cases lds (hdG a) (hdG g) <;> simp
def Hz (g:∀a b c,a∈ls->b∈ls->c∈ls->lds a b=true->lds b c=true->lds a c=true)(h:tW (cY lds) ls G){a b c:LIn}(d:a∈G)(e:b∈G)(f:c∈G)(i:ltG lds a b)(j:ltG lds b c):ltG lds a c :=
 g _ _ _ (h.sub a d _ (rO (h.ne a d))) (h.sub b e _ (rO (h.ne b e))) (h.sub c f _ (rO (h.ne c f))) i j
def Do (h:tW (cY lds) ls G):∀{M N:LLi},(∀x∈M,x∈G)->M.Nodup->N.Nodup->M.Pairwise (ltG lds)->N.Pairwise (ltG lds)->(∀x,x∈M↔x∈N)->M=N
 | [],[],_,_,_,_,_,_=>rfl
 | [],y::N,_,_,_,_,_,a=>by have:=(a y).2 (by simp);simp at this
 | x::M,[],_,_,_,_,_,a=>by have:=(a x).1 (by simp);simp at this
 | x::M,y::N,d,g,i,j,k,a=>by
  obtain⟨l,m⟩:=gQ.1 j;obtain⟨n1,n2⟩:=gQ.1 k;obtain⟨n,o⟩:=kC.1 g;obtain⟨p,q⟩:=kC.1 i;have e:x=y:=by
   refine eO (λb=>?_);have r:x∈N:=(a7.1 ((a x).1 (by simp))).resolve_left b;have f:y∈M:=(a7.1 ((a y).2 (by simp))).resolve_left (λe=>b e.symm);exact(EY h (d x (by simp)) (d y (by simp[f])) b).1 (l y f) (n1 x r)
  subst e;rw[Do h (λz c=>d z (by simp[c])) o q m n2 (λz=>⟨λc=>((a7.1 ((a z).1 (by simp[c])))).resolve_left (λe=>n (e▸c)),λc=>((a7.1 ((a z).2 (by simp[c])))).resolve_left (λe=>p (e▸c))⟩)]
structure InI (lds:Int->Int->Bool)(G inn:LLi):Prop where
 sub:∀x∈inn,x∈G
 nd:inn.Nodup
 ord:inn.Pairwise (ltG lds)
 clo:∀x∈inn,∀g∈G,g≠x->ltG lds g x->g∈inn
def InI.nil:InI lds G []:=⟨λx a=>by simp at a,.nil,.nil,λx a=>by simp at a⟩
def InI.add (h:tW (cY lds) ls G){inn:LLi}(I:InI lds G inn){g:LIn}(c:g∈G)(d:g∉inn)(m:∀k∈G,k≠g->ltG lds k g->k∈inn):InI lds G (inn++[g]) where
 sub:=λx a=>by
  rcases cN.1 a with a|a
  .exact I.sub x a
  rw[bJ.1 a];exact c
 nd:=nB.2 ⟨I.nd,by simp,λy f z n e=>d (by rw[<-bJ.1 n,<-e];exact f)⟩
 ord:=List.pairwise_append.2 ⟨I.ord,by simp,λx a y f=>by
  rw[bJ.1 f];have b:x≠g:=λe=>d (e▸a)
  refine(EY h (I.sub x a) c b).2 (λi=>d (I.clo x a g c (λe=>b e.symm) i))⟩
 clo:=λx a k l b j=>by
  rcases cN.1 a with a|a
  .exact cN.2 (.inl (I.clo x a k l b j))
  rw[bJ.1 a]at b j;exact cN.2 (.inl (m k l b j))
def InI.next (w:∀a b c,a∈ls->b∈ls->c∈ls->lds a b=true->lds b c=true->lds a c=true)(h:tW (cY lds) ls G){inn:LLi}(q:∃g∈G,g∉inn):∃g∈G,g∉inn/\∀k∈G,k≠g->ltG lds k g->k∈inn:=by
 have key:∀l:LLi,(∀x∈l,x∈G)->(∃g∈l,g∉inn)->∃g∈l,g∉inn/\∀k∈l,k≠g->ltG lds k g->k∈inn:=λl=>by
  induction l with
  | nil=>rintro _ ⟨g,j,_⟩;simp at j
  | cons a l y =>
   intro n hex;by_cases r:∃g∈l,g∉inn
   .obtain⟨g,j,i,t⟩:=y (λx s=>n x (by simp[s])) r;by_cases u:a∉inn/\a≠g/\ltG lds a g
    .obtain⟨z,A,v⟩:=u;refine⟨a,by simp,z,λk f d o=>?_⟩;rcases a7.1 f with e|f
     .exact absurd e d
     by_cases e:k=g
     .subst e;exact absurd v ((EY h (n k (by simp[f])) (n a (by simp)) d).1 o)
     exact t k f e (Hz w h (n k (by simp[f])) (n a (by simp)) (n g (by simp[j])) o v)
    refine⟨g,by simp[j],i,λk f d p=>?_⟩;rcases a7.1 f with e|f
    .subst e;refine eO (λm=>u ⟨m,d,p⟩)
    exact t k f d p
   obtain⟨g,j,i⟩:=hex;rcases a7.1 j with e|j
   .subst e;refine⟨g,by simp,i,λk f d _=>?_⟩;rcases a7.1 f with e|f
    .exact absurd e d
    exact eO (λm=>r ⟨k,f,m⟩)
   exact absurd ⟨g,j,i⟩ r
 exact key G (λ_ s=>s) q
end
open Go.RowKit Go.Maps
open Go.Sort (flatK get_flatK size_flatK HoldsK)
def yB:World->(Nat->Value)->Int×Int->Prop:=λ_ vs p=>vs 0=.int .i64 p.1/\vs 1=.int .i64 p.2
def yB.kept:CU yB:=λ_ _ _ _ _ h=>h
abbrev zO (w:World)(A:OAd)(n c:Nat)(a:List (Int×Int)):Prop:=Sl yB 2 w A n c a
def QP:sT 121 165 2 16:=sT.mk' (z:=.agg #[(0:Int),(0:Int)]) Tryz.underlying121 (by kernel_rfl) rfl (by decide)
abbrev nK (w:World)(B:Nat)(v:Value)(n:Nat)(a:List (Int×Int)):Prop:=aJ yB 2 w B 165 v n a
def cD.pair {w:World}(p:Int×Int):cD yB 2 w [.int .i64 p.1,.int .i64 p.2] [p] :=
 cD.one (vs:=λj=>match j with|0=>.int .i64 p.1|_=>.int .i64 p.2) ⟨rfl,rfl⟩ rfl (λj a=>by
  match j,a with
  | 0,_=>rfl
  | 1,_=>rfl)
def H7 {w:World}{b ty:Nat}{x y:Int}(h:Box w b ty #[x,y]):aY w (some ⟨b,0,none⟩) 2 2 [x,y] :=
 ⟨rfl,aB _,by simp[maxLen],by omega,λe=>(by cases e),λ_=>⟨b,0,rfl,h.lt,λi z a=>⟨λ_=>.int .i64 z,λj c=>by
  obtain rfl:j=0:=by omega
  match i,a with
  | 0,a=>simp only[aQ,aZ]at a;subst a;exact h.cell 0
  | 1,a=>simp only[cB,aQ,aZ]at a;subst a;exact h.cell 1
  | i+2,a=>simp at a,rfl⟩⟩⟩
def Oq (w:World)(a b c d:Int) :
  Calls Tryz.prog 159 #[.agg #[a,b],.agg #[c,d]] w λe w'=>e=.returned (.int .i64 (oW [a,b] [c,d])) /\
   ∃q,w'=((w.alloc (.cells #[a,b] 165)).alloc (.cells #[c,d] 165)).drewN q:=by
 generalize f:(w.alloc (.cells #[a,b] 165)).alloc (.cells #[c,d] 165)=w0;have g:=aA (show Box w0 w 165 #[a,b] by rw[<-f];exact(Box.new _ _ _).old _);have h:=aA (show Box w0 (w.heap.size+1) 165 #[c,d] by rw[<-f];exact Box.newAt (by simp) _ _);have i:=aA (λq=>EK (H7 (g.o.drewN q)) (H7 (h.o.drewN q)));obtain⟨j,k⟩:=g.o.two;obtain⟨l,m⟩:=h.o.two;go_enter Tryz.func159,Tryz.ntmps159
 go_upto_region 1 with fail
 clear f;go_quiet ((go_at_call 174;exact rE (i.o _)))
 go_wp2
 go_ret
 exact⟨rfl,_,rfl⟩
abbrev JV:={p:Int×Int // okP p}
instance:Inhabited JV:=⟨⟨(1,1),⟨by decide,by decide⟩,⟨by decide,by decide⟩⟩⟩
def Jy (x:JV):List Value:=[.int .i64 x.1.1,.int .i64 x.1.2]
def Ya (x y:JV):Int:=oW [x.1.1,x.1.2] [y.1.1,y.1.2]
def ZF:Sort.SWO (ltOf Ya) where
 irrefl:=λx=>mA (by rw[Ya,Hq];omega)
 trans:=λx y z h g=>mB (Dj _ _ _ (gR h) (gR g))
 ntrans:=λx y z h g=>mA (zJ _ _ _ (oH h) (oH g))
def JZ {p q:Int×Int}(h:¬oW [q.1,q.2] [p.1,p.2]<0)(a:p≠q):qT p q:=by
 unfold qT;simp only[oW]at h;have b:p.1≠q.1∨p.2≠q.2:=by
  by_cases e:p.1=q.1
  .right
   intro c;exact a (Prod.ext e c)
  exact .inl e
 split at h
 .omega
 split at h
 .omega
 split at h
 .omega
 split at h
 .omega
 omega
section
open Go.Sort
def J0 {w:World} {base g cap n m size:Nat} {e:TypeId} {os:Array Obj} {a:Array Value} {ts:List Value} (c:ts.length=m*size) (b:base<=g) (h:w.heap[g]?=some (.cells a e (0,0)))
  (d:m<=cap) (i:cap<=maxLen) (f:a.size=cap*size) :
  (sortWorld id w g 0 n ts.toArray os).ownsRow base e size (.slice g m cap) m ts:=by
 refine⟨c,.inr ⟨g,cap,_,rfl,b,QF _ h,d,i,by simp[putCells,f], ?_⟩⟩;have:=QH (enc:=id) a ts (by rw[c,f];exact Nat.mul_le_mul_right _ d);rw[c,List.map_id]at this;exact this
end
def MJ {d:Array JV}{i j:Nat}(b:i<d.size)(e:j<2):(flatK Jy 2 d).toList[i*2+j]?=some (Jy d[i])[j]!:=by
 have c:i*2+j<d.size*2:=by omega
 have a:=get_flatK Jy 2 d (i*2+j) c;rw[show(i*2+j) / 2=i by omega,show(i*2+j) % 2=j by omega,oJ d i b]at a;rw[nA,<-a,oJ _ _ (by simp;omega),Array.getElem?_eq_getElem]
def Ot (w:World)(d:Array JV):cD yB 2 w (flatK Jy 2 d).toList (d.toList.map (·.1)):=by
 refine⟨by simp,λi x b=>?_⟩;rw[dF]at b;obtain⟨z,a,rfl⟩:=Option.map_eq_some_iff.1 b;have c:i<d.size:=by
  have:=(aR.1 a).1;simpa using this
 have e:d[i]=z:=by
  rw[nA,Array.getElem?_eq_getElem c]at a;injection a
 refine⟨λj=>(Jy z)[j]!,λj f=>?_,rfl,rfl⟩;rw[MJ c f,e]
def Bz {w:World}{B n:Nat}{v:Value}{xs:List (Int×Int)}(h:nK w B v n xs)(s:∀x∈xs,okP x)(Y:n<=17592186044416) :
  Calls Tryz.prog 173 #[v,.func (.func 159) #[] #[]] w λe w'=>e=.returned (.tuple #[])/\∃ys,ys.Perm xs/\ys.Pairwise (λp q=>¬oW [q.1,q.2] [p.1,p.2]<0)/\nK w' B v n ys/\w.grownBy w' v.ownBlock:=by
 obtain⟨a,r,H,I⟩:=h;rcases r.2 with⟨rfl,K⟩|⟨g,cap,L,rfl,M,u,N,O,Q,R⟩
 .obtain rfl:n=0:=by simpa using K
  have k:xs=[]:=dS I;subst k;refine(nW (α:=Nat) none 0 _ w).mono ?_;rintro e w' ⟨rfl,rfl⟩;exact⟨rfl,[],.refl _,.nil,⟨a,r,H,I⟩,gU _ _⟩
 .obtain⟨ds,S,J⟩:=YY (α:=JV) (P:=λi x=>xs[i]?=some x.1) n (λi l=>by
   have k:xs[i]?=some (xs[i]'(by omega)):=aV _;exact⟨⟨_,s _ (j5 (by omega))⟩,k⟩)
  have z:xs=ds.map (·.1):=by
   apply iE
   intro i;rw[dF];cases hd:ds[i]? with
   | none =>
    have:ds.length<=i:=by simpa using hd
    rw[dC (by omega)];rfl
   | some x=>rw[J i x hd];rfl
  subst S;have d:a=(flatK Jy 2 ds.toArray).toList:=by
   apply iE
   intro t;by_cases Z:t<ds.length*2
   .obtain⟨i,j,rfl,f⟩:∃i j,t=i*2+j/\j<2:=⟨t / 2,t % 2,by omega,by omega⟩;have l:i<ds.length:=by omega
    have k:=J i _ (aV l);obtain⟨vs,a1,a2,a3⟩:=H.2 i _ k;rw[a1 j f,MJ (by simpa using l) f];match j,f with
    | 0,_=>rw[a2];rfl
    | 1,_=>rw[a3];rfl
   rw[dC (by rw[r.1];omega),dC (by simp;omega)]
  have o:CmpLays Tryz.prog 159 #[] Jy 2 Ya g 0 ds.toArray.size w:=by
   intro m os dk T x y;refine(Oq _ x.1.1 x.1.2 y.1.1 y.1.2).mono ?_;rintro e w' ⟨rfl,q,rfl⟩;refine⟨rfl,q,#[.cells #[.int .i64 x.1.1,.int .i64 x.1.2] 165,.cells #[.int .i64 y.1.1,.int .i64 y.1.2] 165], ?_⟩;rw[Sort.alloc_eq_grow,Sort.alloc_eq_grow,Sort.grow_grow];rfl
  have U:HoldsK Jy 2 w g 0 ds.toArray:=by
   have:=Md (enc:=(id:Value->Value)) (w:=w) (g:=g) (ss:=(flatK Jy 2 ds.toArray).toList) u (by rw[<-d,List.map_id,r.1];exact R);rw[show(flatK Jy 2 ds.toArray).toList.toArray=flatK Jy 2 ds.toArray from by simp]at this;exact this
  refine(slices_SortFunc (α:=JV) 2 (λw=>by kernel_rfl) (λw=>by kernel_rfl) Jy (λx=>rfl) (λx v A=>by
   rcases a7.1 A with rfl|A
   .rfl
   rw[bJ.1 A];rfl) Ya ZF 159 #[] g 0 cap ds.toArray w (λargs w=>by kernel_rfl) o U (f8.1 u).1 (by simp;omega)).mono ?_
  rintro e w' ⟨rfl,d',q,os,hp,V,rfl⟩;obtain⟨C,_,b⟩:=hp;have c:d'.size=ds.length:=by simpa using C
  have D:d'.toList.Perm ds:=by
   have W:(d'.extract 0 ds.toArray.size).toList=d'.toList:=by simp[<-c]
   have X:(ds.toArray.extract 0 ds.toArray.size).toList=ds:=by simp
   rw[W,X]at b;exact b
  refine⟨rfl,d'.toList.map (·.1), ?_, ?_, ?_,Dk (enc:=(id:Value->Value)) g q (flatK Jy 2 d') os⟩
  .rw[z];exact D.map _
  .rw[oI,rA];intro i j l f E;have:=V i j (aL _) E (by simp at f;simp;omega);have F:i<d'.size:=by simpa using l
   have G:j<d'.size:=by simpa using f
   rw[oJ d' i F,oJ d' j G]at this;unfold ltOf Ya at this;have:=oH this;simpa using this
  have row:=J0 (w:=w) (n:=q) (os:=os) (ts:=(flatK Jy 2 d').toList) (m:=ds.length) (size:=2) (base:=B) (by simp[c]) M u N O Q;rw[show(flatK Jy 2 d').toList.toArray=flatK Jy 2 d' from by simp]at row;exact⟨_,row,Ot _ d',by simp[c]⟩
def EZ {w:World}{b:Nat}{S:List (Int×Int)}(h:XU w b S)(hl:S.length<=10000) :
  Calls Tryz.prog 158 #[.map (some b),.func (.func 159) #[] #[]] w λe w'=>∃v n xs,e=.returned v/\nK w' w v n xs/\n<=10000/\(xs.Pairwise qT/\∀x,x∈xs↔x∈S)/\Below w w w':=by
 obtain⟨h0,D,m,K,hm,hs,L⟩:=h;have M:=K.lt;have N:=aA h0;have H2:=aA L;have SZ:=aA hs;clear h0 L hs;go_enter Tryz.func158,Tryz.ntmps158
 go_wp2_with (at_range;refine wpList_range_own _ rfl _ 209 rfl 165 _ Qw.law Tryz.underlying209 unitElem b m D rfl K ?_;intro w0 s O a0)
 go_frame
 go_loopw [5] (λu5 wr=>∃(left:Lit->Bool) (f n:Nat) (ss:List (Int×Int)),wr.ranges Tryz.prog 165 unitElem b w m D left f/\Hid (ss.length+f<=Maps.size D)/\Hid (Qr 165 kkP D left S ss)/\Hid (nK wr w u5 n ss)/\Hid (Below w w wr)) (λ_ wr=>wr.rangeLeft b w)
 case atStart=>exact⟨_,_,0,[],s,by show 0+_<=_;omega,Qr.start D S,aJ.nil,(aH _ _).grown O (aB _) (λj hj=>by cases hj)⟩
 case round =>
  obtain⟨left,f,n,ss,g,p,hC,r,J⟩:=hrel;go_wp2_with (at_next;refine wpList_next_ranges _ rfl _ rfl 165 Qw.law unitElem (λv=>v) (λv=>v) (λkey kl hk=>⟨key,rfl⟩) (λv y P=>⟨v,rfl⟩) b w m D left f rfl g ?_ ?_)
  .intro a1 t;obtain⟨nd,mem⟩:=hC.o.fin Qw N.o H2.o t;have ND:=aA nd;have ME:=aA mem;have hn:n<=10000:=by have:=p.o;have:=SZ.o;rw[<-r.o.len];omega
   clear nd mem t;go_wp2_with fail
   refine(Bz r.o (λx hx=>N.o x ((ME.o x).1 hx)) (by omega)).mono ?_;rintro e w' ⟨rfl,ys,hp,u,own,hg⟩;have OY:=aA own;have BY:=aA (J.o.grown hg J.o.size (λk e=>(r.o.lt k e).1));have FY:=aA (show ys.Pairwise qT/\∀x,x∈ys↔x∈S from⟨(List.Pairwise.and u (hp.nodup_iff.2 ND.o)).imp (λ{a b} ⟨e1,e2⟩=>JZ e1 e2),λx=>(hp.mem_iff).trans (ME.o x)⟩);clear own hg hp u;go_wp2
   go_ret
   exact⟨_,n,ys,rfl,OY.o,hn,FY.o,BY.o⟩
  intro x c kl yd yp Q i d A P B l C q R a2;obtain⟨z,T,U⟩:=(H2.o x kl d).1 (has_true_of_atKey B);subst U;have E:=N.o z T;obtain rfl:x=.agg #[.int .i64 z.1,.int .i64 z.2]:=Qw.law.inj d (Qw.key z E);obtain⟨rfl,_⟩:=unitElem_inv P;have V:=aA (hC.o.step Qw T E A);have W:=aA (aJ.kept r.o q (by
   have:=row_ne_iter (mC r.o).1 g;exact .inr (λe=>this e.symm)) (λ_ _ h=>h))
  have F:=aA (J.o.grown q J.o.size (λk e=>by cases e;exact aB _));have X:=aF Q (.cells #[.int .i64 z.1,.int .i64 z.2] 165);have RG:=aA (l.alloc (.cells #[.int .i64 z.1,.int .i64 z.2] 165));have XB:=aA (Box.new Q #[.int .i64 z.1,.int .i64 z.2] 165);have Y:=aA (aJ.keep yB.kept W.o X);have B3:=aA (F.o.trans (X.mono F.o.size));have G:=aA C;have Z:=aA g.left_eq;have hn:n<=10000:=by have:=p.o;have:=SZ.o;rw[<-r.o.len];omega
  clear R d A P B l q g C T X;go_upto_region 5 with fail
  generalize Q.alloc (.cells #[.int .i64 z.1,.int .i64 z.2] 165)=w3 at *
  obtain⟨z0,z1⟩:=XB.o.two;go_wp2_with (at_builtin;refine dW (v:=u5) QP rfl _ _ rfl [z] #[.int .i64 z.1,.int .i64 z.2] rfl rfl rfl rfl (by simp[Value.oneCell']) Y.o (cD.pair z) rfl B3.o B3.o.size (by omega) (by omega) (λ_ _ _ _ h=>h) ?_;intro v8 w8 o H I;have O8:=aA o;have E8:=aA I;have R8:=aA (RG.o.kept H (row_ne_low (mC Y.o).1 M) (row_ne_iter (mC Y.o).1 RG.o));clear o H I)
  go_roundw
  case rel=>exact⟨_,i,n+1,ss++[z],R8.o,by have K:=p.o;have L:=G.o;show(ss++[z]).length+i<=_;simp;omega,V,O8,E8⟩
  rw[R8.o.left_eq,Z.o];exact G.o
end Go.Proofs.YtgnljpnlolkalaaGreat
namespace Go.Proofs.YtgnljpnlolkalaaGreat
open Go.RowKit Go.Maps
def Yb (log:LLi)(w:World)(e:Ending)(w':World):Prop :=
 ∃(p:bI) (a:Int) (A1 A2 A3 A4:OAd) (n1 c1 n2 c2 n3 c3 n4 c4:Nat),OfP log p a/\e=.returned (.tuple #[.agg #[.slice A1 n1 c1,.slice A2 n2 c2,.slice A3 n3 c3,.slice A4 n4 c4],.int .i64 a]) /\
  aY w' A1 n1 c1 p.labels/\aY w' A2 n2 c2 p.first/\aY w' A3 n3 c3 p.last/\zO w' A4 n4 c4 p.behind/\Below w.heap.size w w'
def OfP.no {log:LLi}{e:Int}(h:eI log=e)(a:e≠0):OfP log zG e:=⟨h.symm,by rw[aD (by rw[h];exact a)]⟩
structure pB (w:World)(B:Nat)(S1 S2 S3:LIn)(S4:List (Int×Int)):Prop where
 s1:Uj w B S1
 s2:Uj w (B+1) S2
 s3:Uj w (B+1+1) S3
 s4:XU w (B+1+1+1) S4
def pB.drop1 {w w':World}{B:Nat}{S1 b S2 S3:LIn}{S4:List (Int×Int)}(h:pB w B S1 S2 S3 S4)(g:Uj w' B b)(a:w.grownBy w' (some B)):pB w' B b S2 S3 S4 :=
 ⟨g,h.s2.beside a (by simp;try omega),h.s3.beside a (by simp;try omega),h.s4.beside a (by simp;try omega)⟩
def pB.drop2 {w w':World}{B:Nat}{S1 T2 S2 S3:LIn}{S4:List (Int×Int)}(h:pB w B S1 S2 S3 S4)(g:Uj w' (B+1) T2)(a:w.grownBy w' (some (B+1))):pB w' B S1 T2 S3 S4 :=
 ⟨h.s1.beside a (by simp;try omega),g,h.s3.beside a (by simp;try omega),h.s4.beside a (by simp;try omega)⟩
def pB.drop3 {w w':World}{B:Nat}{S1 T3 S2 S3:LIn}{S4:List (Int×Int)}(h:pB w B S1 S2 S3 S4)(g:Uj w' (B+1+1) T3)(a:w.grownBy w' (some (B+1+1))):pB w' B S1 S2 T3 S4 :=
 ⟨h.s1.beside a (by simp;try omega),h.s2.beside a (by simp;try omega),g,h.s4.beside a (by simp;try omega)⟩
def pB.drop4 {w w':World}{B:Nat}{S1 S2 S3:LIn}{S4 T4:List (Int×Int)}(h:pB w B S1 S2 S3 S4)(g:XU w' (B+1+1+1) T4)(a:w.grownBy w' (some (B+1+1+1))):pB w' B S1 S2 S3 T4 :=
 ⟨h.s1.beside a (by simp;try omega),h.s2.beside a (by simp;try omega),h.s3.beside a (by simp;try omega),g⟩
def pB.keep {w w':World}{B:Nat}{S1 S2 S3:LIn}{S4:List (Int×Int)}(h:pB w B S1 S2 S3 S4)(a:Below w w w'):pB w' B S1 S2 S3 S4 :=
 ⟨h.s1.keep a,h.s2.keep a,h.s3.keep a,h.s4.keep a⟩
def pB.made {w:World}{B:Nat}(a:w.heap.size=B):pB ((((w.alloc (.map #[] 0)).alloc (.map #[] 0)).alloc (.map #[] 0)).alloc (.map #[] 0)) B [] [] [] []:=by
 subst a;refine⟨(((xG.made _ _ _ w).alloc _).alloc _).alloc _, ?_, ?_, ?_⟩
 .have:=xG.made 3 okI kkI (w.alloc (.map #[] 0));rw[World.size_alloc]at this;exact(this.alloc _).alloc _
 .have:=xG.made 3 okI kkI ((w.alloc (.map #[] 0)).alloc (.map #[] 0));rw[World.size_alloc,World.size_alloc]at this;exact this.alloc _
 have:=xG.made 165 okP kkP (((w.alloc (.map #[] 0)).alloc (.map #[] 0)).alloc (.map #[] 0));rw[World.size_alloc,World.size_alloc,World.size_alloc]at this;exact this
def lay4 (w:World)(b:Nat)(v0 v1 v2 v3:Value):World:=(((w.setCell ⟨b,0,none⟩ v0).setCell ⟨b,1,none⟩ v1).setCell ⟨b,2,none⟩ v2).setCell ⟨b,3,none⟩ v3
def Box.laid {w:World}{b ty:Nat}{u0 u1 u2 u3:Value}(h:Box w b ty #[u0,u1,u2,u3])(v0 v1 v2 v3:Value):Box (lay4 w b v0 v1 v2 v3) b ty #[v0,v1,v2,v3]:=by
 have:=(((h.set 0 v0).set 1 v1).set 2 v2).set 3 v3;unfold lay4;simpa using this
def d8.lay4 (w:World)(b:Nat)(v0 v1 v2 v3:Value):d8 b w (lay4 w b v0 v1 v2 v3):=(((d8.set _ _ _ _).trans (d8.set _ _ _ _)).trans (d8.set _ _ _ _)).trans (d8.set _ _ _ _)
def sL {B:Nat}{w0 w:World}(h:Below B w0 w){b:Nat}(a:B<=b)(v0 v1 v2 v3:Value):Below B w0 (lay4 w b v0 v1 v2 v3) :=
 (((h.setCell (p:=⟨b,0,none⟩) a _).setCell (p:=⟨b,1,none⟩) a _).setCell (p:=⟨b,2,none⟩) a _).setCell (p:=⟨b,3,none⟩) a _
def VO {v0 v1 v2 v3:Value}(a:∀x,v0≠.int .i64 x)(b:∀x,v1≠.int .i64 x)(c:∀x,v2≠.int .i64 x)(d:∀x,v3≠.int .i64 x):∀(j:Nat) (x:Int),(#[v0,v1,v2,v3])[j]?≠some (.int .i64 x)
 | 0,x=>by simpa using a x
 | 1,x=>by simpa using b x
 | 2,x=>by simpa using c x
 | 3,x=>by simpa using d x
 | _+4,_=>by simp
def zO.beside {w w':World}{b ty:Nat}{cs:Array Value}{A:OAd}{n c:Nat}{xs:List (Int×Int)}(h:zO w A n c xs)(q:Box w b ty cs)(d:∀(j:Nat) (x:Int),cs[j]?≠some (.int .i64 x))(k:d8 b w w'):zO w' A n c xs :=
 ⟨h.len,h.le,h.cap,h.small,h.nul,λr=>by
  obtain⟨l,f,e,g,s⟩:=h.cells r;refine⟨l,f,e,by rw[k.1];exact g,λi x t=>?_⟩;obtain⟨vs,m,o⟩:=s i x t;refine⟨vs,λj u=>?_,o⟩;have:=m j u;by_cases a:l=b
  .subst a;exfalso
   have p:=m 0 (by omega);rw[q.cell,o.1]at p;exact d _ _ p
  rw[k.cell (by simpa using a)];exact this⟩
def pC {w0 w w':World}{B b:Nat}(h:Below B w0 w)(a:B<=b)(c:B<=w.heap.size)(d:w.grownBy w' (some b)):Below B w0 w':=h.grown d c (λk e=>by cases e;exact a)
def zP {w:World}{A:OAd}{n c:Nat}{log:LLi}(h:cQ w A n c log) :
  Calls Tryz.prog 115 #[.slice A n c] w (Yb log w):=by
 have c8:=h.small;have l:=aA (Box.new w #[(),(),(),()] 123);have r:=aA (aF w (.cells #[(),(),(),()] 123));have HL:=aA h.len;have H:=aA h;clear h;have c9:=@run_makeMap Tryz.prog;obtain⟨z,hz⟩:=aK (eI log);have S:=aA hz;clear hz;go_enter Tryz.func115,Tryz.ntmps115
 go_upto_region 1 with fail
 generalize w.alloc (.cells #[(),(),(),()] 123)=w0 at *
 go_wp2_with fail
 refine(oV (Sl.keep cS.kept H.o r.o)).mono ?_;rw[S.o];rintro e w1 ⟨rfl,rfl⟩;by_cases h0:z=0
 .subst h0;obtain⟨C,E⟩:=zD S.o;have b6:n<=60:=by rw[<-HL.o];exact C
  have T:=aA E;clear E C;have m:=aA (pB.made (w:=w0) rfl);have BM:=aA (((((aH w0 w0).alloc (aB _) (.map #[] 0)).alloc (by simp) (.map #[] 0)).alloc (by simp;omega) (.map #[] 0)).alloc (by simp;omega) (.map #[] 0));go_wp2
  have NB:=aA l.o.lt;go_loopw [25] (λv wr=>∃(k:Nat) (S1 S2 S3:LIn) (S4:List (Int×Int)),k<=n/\v=k/\Hid (TrP log k [] 0 S1 S2 S3 S4)/\Hid (pB wr w0 S1 S2 S3 S4)/\Hid (Below w0 w0 wr)) (λv _=>n-(intOf v).toNat)
  case atStart=>exact⟨0,[],[],[],[],aL _,rfl,TrP.start log,m,BM⟩
  clear m BM;obtain⟨k,S1,S2,S3,S4,hk,rfl,a,m,D⟩:=hrel;by_cases a5:k<n
  rotate_left
  .obtain rfl:k=n:=by omega
   have TF:=aA (show(∀x,x∈S1↔Xv log x)/\(∀x,x∈S2↔Di log x)/\(∀x,x∈S3↔Og log x)/\∀p,p∈S4↔Xw log p from(by have:=a.o;rw[<-HL.o]at this;exact this.fin));have L1:=aA a.o.l1;have L2:=aA a.o.l2;have L3:=aA a.o.l3;have L4:=aA a.o.l4;have XR:=aA (l.o.keepB D.o NB.o);have BR:=aA (r.o.trans (D.o.mono r.o.size));clear a;go_wp2_with fail
   refine(qF m.o.s1 (by have:=L1.o;omega)).mono ?_;rintro e u1 ⟨v1,U,V,rfl,o1,d0,W,b1⟩;obtain⟨A1,c1,rfl,O⟩:=o1.sl (by omega);have F:=aA O;have P1:=aA W;have G:=aA (m.o.keep b1);have X1:=aA (XR.o.keep b1);have E1:=aA (BR.o.trans (b1.mono BR.o.size));clear o1 O W b1;go_wp2_with fail
   refine(qF G.o.s2 (by have:=L2.o;omega)).mono ?_;rintro e u2 ⟨v2,X,Y,rfl,o2,d1,Z,P⟩;obtain⟨A2,c2,rfl,i2⟩:=o2.sl (by omega);have I2:=aA i2;have P2:=aA Z;have F:=aA (aY.keep F.o P);have F2:=aA (G.o.keep P);have X2:=aA (X1.o.keep P);have E2:=aA (E1.o.trans (P.mono E1.o.size));clear o2 i2 Z P;go_wp2_with fail
   refine(qF F2.o.s3 (by have:=L3.o;omega)).mono ?_;rintro e u3 ⟨v3,m3,x3,rfl,o3,d2,a0,I⟩;obtain⟨A3,c3,rfl,i3⟩:=o3.sl (by omega);have I3:=aA i3;have P3:=aA a0;have F:=aA (aY.keep F.o I);have I2:=aA (aY.keep I2.o I);have s:=aA (F2.o.keep I);have X3:=aA (X2.o.keep I);have E3:=aA (E2.o.trans (I.mono E2.o.size));clear o3 i3 a0 I;go_wp2_with fail
   refine(EZ s.o.s4 (by have:=L4.o;omega)).mono ?_;rintro e u4 ⟨v4,m4,x4,rfl,o4,d3,a1,Q⟩;obtain⟨A4,c4,rfl,i4⟩:=o4.sl (by omega);have I4:=aA i4;have P4:=aA a1;have F:=aA (aY.keep F.o Q);have I2:=aA (aY.keep I2.o Q);have I3:=aA (aY.keep I3.o Q);have f:=aA (X3.o.keep Q);have E4:=aA (E3.o.trans (Q.mono E3.o.size));clear o4 i4 a1 Q;have y0:=f.o.cell 0;have y1:=f.o.cell 1;have y2:=f.o.cell 2;have y3:=f.o.cell 3;have f0:=f.o.frozen 0;have f1:=f.o.frozen 1;have f2:=f.o.frozen 2;have f3:=f.o.frozen 3;simp only[aP,aQ,cB]at y0 y1 y2 y3;have t:=aA (f.o.laid (.slice A1 U c1) (.slice A2 X c2) (.slice A3 m3 c3) (.slice A4 m4 c4));have BE:=aA (d8.lay4 u4 w (.slice A1 U c1) (.slice A2 X c2) (.slice A3 m3 c3) (.slice A4 m4 c4));have EE:=aA (sL E4.o (aB _) (.slice A1 U c1) (.slice A2 X c2) (.slice A3 m3 c3) (.slice A4 m4 c4));have NI:=aA (VO (v0:=.slice none 0 0) (v1:=.slice none 0 0) (v2:=.slice none 0 0) (v3:=.slice none 0 0) (λx e=>(by cases e)) (λx e=>(by cases e)) (λx e=>(by cases e)) (λx e=>(by cases e)));have OF:=aA (show OfP log ⟨V,Y,x3,x4⟩ 0 from⟨S.o.symm,by
    rw[aG S.o];exact⟨⟨P1.o.1,λx=>(P1.o.2 x).trans (TF.o.1 x)⟩,⟨P2.o.1,λx=>(P2.o.2 x).trans (TF.o.2.1 x)⟩,⟨P3.o.1,λx=>(P3.o.2 x).trans (TF.o.2.2.1 x)⟩,⟨P4.o.1,λx=>(P4.o.2 x).trans (TF.o.2.2.2 x)⟩⟩⟩)
   go_wp2
   clear y0 y1 y2 y3 f0 f1 f2 f3;have e0:=t.o.cell 0;have e1:=t.o.cell 1;have e2:=t.o.cell 2;have o:=t.o.cell 3;simp only[aP,aQ,cB,lay4]at e0 e1 e2 o;refine aU (v:=.tuple #[.agg #[.slice A1 U c1,.slice A2 X c2,.slice A3 m3 c3,.slice A4 m4 c4],(0:Int)]) (by simp[results,Tryz.results115,go_sem,e0,e1,e2,o]) rfl ?_;exact⟨⟨V,Y,x3,x4⟩,0,A1,A2,A3,A4,U,c1,X,c2,m3,c3,m4,c4,OF.o,rfl,F.o.beside f.o NI.o BE.o,I2.o.beside f.o NI.o BE.o,I3.o.beside f.o NI.o BE.o,zO.beside I4.o f.o NI.o BE.o,EE.o⟩
  have d4:(k:Int)<(n:Int):=by omega
  obtain⟨b,d5,x,A1,n1,c1,rfl,hb,hx,a2,O,d6⟩:=cQ.get H.o a5;have q0:=((r.o.trans (D.o.mono r.o.size)).cell (p:=⟨b,_,none⟩) hb).trans a2;clear a2;have IX:=aA O;have R:=aA O.len;have HX:=aA hx.o;have u:=aA (T.o x (aS hx.o));have b7:n1<=60:=by rw[<-R.o];exact u.o.1
  have TE:=aA (a.o.enter x);clear O hx a;go_wp2
  obtain⟨wo,a6⟩:∃wo:World,wo=wr:=⟨_,rfl⟩;subst a6;go_loopw [31] (λv wq=>∃(j:Nat) (S1 S2 S3:LIn) (S4:List (Int×Int)),j<=n1/\v=j/\Hid (TrP log k x j S1 S2 S3 S4)/\Hid (pB wq w0 S1 S2 S3 S4)/\Hid (Below w0 w0 wq)) (λv _=>n1-(intOf v).toNat)
  case atStart=>exact⟨0,S1,S2,S3,S4,aL _,rfl,TE,m,D⟩
  have DO:=aA D.o;clear m TE D S1 S2 S3 S4;obtain⟨j,S1,S2,S3,S4,hj,rfl,a,m,D⟩:=hrel;by_cases a9:j<n1
  rotate_left
  .obtain rfl:j=n1:=by omega
   have TL:=aA (show TrP log (k+1) [] 0 S1 S2 S3 S4 from(by have:=a.o;rw[<-R.o]at this;exact this.leave HX.o u.o.1));go_wp2
   go_roundw
   case rel=>exact⟨k+1,S1,S2,S3,S4,by omega,by go_num,TL,m,D⟩
   simp[intOf];omega
  have d7:(j:Int)<(n1:Int):=by omega
  obtain⟨B,a3⟩:∃B,n1=B+1:=⟨n1-1,by omega⟩;have e5:IntKind.i64.wrap ((n1:Int)-1)=(B:Int):=by simp[IntKind.wrap,IntKind.bits,IntKind.signed];omega
  obtain⟨P,b9,y,rfl,e6,hy,qy⟩:=(IX.o.keep (r.o.trans (D.o.mono r.o.size))).get a9;have HY:=aA hy.o;have HA:=aA (show okI y from u.o.2 y (aS hy.o));have LL:=aA a3;clear hy a3;go_wp2_with fail
  refine(sH m.o.s1 (by have:=a.o.l1;omega) HA.o).mono ?_;rintro e u1 ⟨⟨v1,rfl⟩,t1,g1⟩;have G:=aA (m.o.drop1 t1 g1);have D1:=aA (pC D.o (aB _) D.o.size g1);clear t1 g1 qy;by_cases g:j=0
  .have c0:(j:Int)=0:=by omega
   go_wp2_with fail
   refine(sH G.o.s2 (by have:=a.o.l2;omega) HA.o).mono ?_;rintro e u2 ⟨⟨v2,rfl⟩,t2,J⟩;have s:=aA (G.o.drop2 t2 J);have K:=aA (pC D1.o (show w0.heap.size<=w0.heap.size+1 by omega) D1.o.size J);clear t2 J;by_cases b0:j=B
   .have q:(j:Int)=(B:Int):=by omega
    go_wp2_with fail
    refine(sH s.o.s3 (by have:=a.o.l3;omega) HA.o).mono ?_;rintro e u3 ⟨⟨v3,rfl⟩,t3,L⟩;have F4:=aA (s.o.drop3 t3 L);have D4:=aA (pC K.o (show w0.heap.size<=w0.heap.size+1+1 by omega) K.o.size L);have M:=aA (a.o.step HY.o (T2:=y::S2) (T3:=y::S3) (T4:=S4) (by rw[aG g]) (by rw[aG (by have:=R.o;have:=LL.o;omega)]) (.inl ⟨g,rfl⟩));clear t3 L;go_wp2
    go_roundw
    case rel=>exact⟨j+1,_,_,_,_,by omega,by go_num,M,F4,D4⟩
    simp[intOf];omega
   have q:((j:Int)==(B:Int))=false:=by simp;omega
   have M:=aA (a.o.step HY.o (T2:=y::S2) (T3:=S3) (T4:=S4) (by rw[aG g]) (by rw[aD (by have:=R.o;have:=LL.o;omega)]) (.inl ⟨g,rfl⟩));go_wp2
   go_roundw
   case rel=>exact⟨j+1,_,_,_,_,by omega,by go_num,M,s,K⟩
   simp[intOf];omega
  have c5:((j:Int)==0)=false:=by simp;omega
  obtain⟨i,d⟩:∃i,j=i+1:=⟨j-1,by omega⟩;have b5:i<n1:=by omega
  have c6:(i:Int)<(n1:Int):=by omega
  have e7:(0:Int)<=(i:Int):=by omega
  have e8:IntKind.i64.wrap ((j:Int)-1)=(i:Int):=by simp[IntKind.wrap,IntKind.bits,IntKind.signed];omega
  have d:=aA d;obtain⟨I,c7,z,o,e9,N,qz⟩:=(IX.o.keep (r.o.trans (D1.o.mono r.o.size))).get b5;injection o with o;injection o with o e4;subst o e4;have a4:=aA N.o;have HB:=aA (show okI z from u.o.2 z (aS N.o));clear N;go_wp2_with fail
  refine(Oh (p:=(z,y)) G.o.s4 (by have:=a.o.l4;omega) ⟨HB.o,HA.o⟩).mono ?_;rintro e u2 ⟨⟨v2,rfl⟩,t2,J⟩;have s:=aA (G.o.drop4 t2 J);have K:=aA (pC D1.o (show w0.heap.size<=w0.heap.size+1+1+1 by omega) D1.o.size J);clear t2 J qz;by_cases b0:j=B
  .have q:(j:Int)=(B:Int):=by omega
   go_wp2_with fail
   refine(sH s.o.s3 (by have:=a.o.l3;omega) HA.o).mono ?_;rintro e u3 ⟨⟨v3,rfl⟩,t3,L⟩;have F4:=aA (s.o.drop3 t3 L);have D4:=aA (pC K.o (show w0.heap.size<=w0.heap.size+1+1 by omega) K.o.size L);have M:=aA (a.o.step HY.o (T2:=S2) (T3:=y::S3) (T4:=(z,y)::S4) (by rw[aD g]) (by rw[aG (by have:=R.o;have:=LL.o;omega)]) (.inr ⟨z,i,d.o,a4.o,rfl⟩));clear t3 L;go_wp2
   go_roundw
   case rel=>exact⟨j+1,_,_,_,_,by omega,by go_num,M,F4,D4⟩
   simp[intOf];omega
  have q:((j:Int)==(B:Int))=false:=by simp;omega
  have M:=aA (a.o.step HY.o (T2:=S2) (T3:=S3) (T4:=(z,y)::S4) (by rw[aD g]) (by rw[aD (by have:=R.o;have:=LL.o;omega)]) (.inr ⟨z,i,d.o,a4.o,rfl⟩));go_wp2
  go_roundw
  case rel=>exact⟨j+1,_,_,_,_,by omega,by go_num,M,s,K⟩
  simp[intOf];omega
 .have f4:(z==0)=false:=by simpa using h0
  have x0:=l.o.cell 0;have V:=l.o.cell 1;have Y:=l.o.cell 2;have x3:=l.o.cell 3;have f0:=l.o.frozen 0;have f1:=l.o.frozen 1;have f2:=l.o.frozen 2;have f3:=l.o.frozen 3;simp only[aP,aQ,cB]at x0 V Y x3;have NO:=aA (OfP.no S.o h0);have t:=aA (l.o.laid () () () ());have EE:=aA (sL r.o (aB _) () () () ());go_wp2
  clear x0 V Y x3 f0 f1 f2 f3;have e0:=t.o.cell 0;have e1:=t.o.cell 1;have e2:=t.o.cell 2;have o:=t.o.cell 3;simp only[aP,aQ,cB,lay4]at e0 e1 e2 o;refine aU (v:=.tuple #[.agg #[(),(),(),()],.int .i64 z]) (by simp[results,Tryz.results115,go_sem,e0,e1,e2,o]) rfl ?_;exact⟨zG,z,none,none,none,none,0,0,0,0,0,0,0,0,NO.o,rfl,Sl.nil0,Sl.nil0,Sl.nil0,Sl.nil0,EE.o⟩
structure qL (F:FuncId)(cap:Array Value)(w:World)(p:LIn->Bool):Prop where
 enters:∀args w,(callFunc F args).run Tryz.prog w=.ok (.enter F args) w
 calls:∀(wr:World) (A:OAd) (n c:Nat) (y:LIn),Below w.heap.size w wr->aY wr A n c y ->
  Calls Tryz.prog F (#[.slice A n c]++cap) wr λe w'=>e=.returned (.bool (p y))/\Below wr.heap.size wr w'
def H8 {w:World}{A:OAd}{n c:Nat}{ms:LLi}{F:FuncId}{cap:Array Value}{p:LIn->Bool}(h:cQ w A n c ms)(hp:qL F cap w p) :
  Calls Tryz.prog 38 #[.slice A n c,.func (.func F) #[] cap] w λe w'=>e=.returned (.int .i64 (dL p ms))/\Below w w w':=by
 have K:=h.small;have f:=hp.enters;have H:=aA h;have G:=aA hp;clear h hp;go_enter Tryz.func38,Tryz.ntmps38
 go_wp2
 go_loopw [8] (λi wr=>∃k:Nat,k<=n/\i=k/\Hid (∀j,j<k->∀y,ms[j]?=some y->p y=false)/\Hid (Below w w wr)) (λi _=>n-(intOf i).toNat)
 case atStart=>exact⟨0,aL _,rfl,λj l=>absurd l (by omega),aH _ _⟩
 case round =>
  obtain⟨k,L,rfl,a,D⟩:=hrel;by_cases m:k<n
  rotate_left
  .go_wp2
   go_ret
   exact⟨a8 (dV (λj l y g=>a.o j (by have:=H.o.len;omega) y g)).symm,D.o⟩
  have I:(k:Int)<(n:Int):=by omega
  obtain⟨b,o,t,vs,rfl,M,u,x,A1,n1,c1,z,B,J⟩:=Sl.get (Sl.keep cS.kept H.o D.o) m;have N:wr.cell? ⟨b,o+k,none⟩=some (.slice A1 n1 c1):=by have:=x 0 (by omega);rw[z]at this;simpa using this
  have CL:=aA (G.o.calls wr A1 n1 c1 t D.o B);have C:=aA u;obtain⟨v,q⟩:=aK (p t);have E:=aA q;rw[q]at CL;clear q x z B u;cases v
  .go_wp2_with (refine CL.o.mono ?_;rintro e w' ⟨rfl,d⟩;have r:=aA d;clear d)
   go_roundw
   case rel =>
    refine⟨k+1,by omega,by go_num,λj l y g=>?_,D.o.trans (r.o.mono D.o.size)⟩;by_cases s:j=k
    .subst s;have:=C.o;rw[g]at this;injection this with this;rw[this];exact E.o
    exact a.o j (by omega) y g
   simp[intOf];omega
  go_wp2_with (refine CL.o.mono ?_;rintro e w' ⟨rfl,d⟩;have r:=aA d;clear d)
  go_ret
  exact⟨a8 (dU a.o C.o E.o).symm,D.o.trans (r.o.mono D.o.size)⟩
def mQ {w:World}{A:OAd}{n c:Nat}{ms:LLi}{F:FuncId}{cap:Array Value}{p:LIn->Bool}(h:cQ w A n c ms)(hp:qL F cap w p) :
  Calls Tryz.prog 65 #[.slice A n c,.func (.func F) #[] cap] w λe w'=>e=.returned (.bool (ms.any p))/\Below w w w':=by
 have H:=aA h;have b:=aA hp;clear h hp;go_enter Tryz.func65,Tryz.ntmps65
 go_wp2_with (refine(H8 H.o b.o).mono ?_;rintro e w' ⟨rfl,a⟩;have d:=aA a;clear a)
 go_ret
 exact⟨bB (jV _ _),d.o⟩
def sM {w:World}{bl n c:Nat}{A:OAd}{ms:LLi}{F:FuncId}{cap:Array Value}{p:LIn->Bool}(x:Box w bl 30 #[.slice A n c])(h:cQ w A n c ms)(hp:qL F cap w p) :
  Calls Tryz.prog 137 #[.func (.func F) #[] cap,.pointer bl] w λe w'=>e=.returned (.bool (ms.any p))/\Below w w w':=by
 have H:=aA h;have b:=aA hp;have d:=x.cell 0;simp only[aP,aQ]at d;clear h hp x;go_enter Tryz.func137,Tryz.ntmps137
 go_wp2_with (refine(mQ H.o b.o).mono ?_;rintro e w' ⟨rfl,a⟩;have f:=aA a;clear a)
 go_ret
 exact⟨rfl,f.o⟩
def p2 (a:Int)(t:LIn):Bool:=t.any λy=>a==y
def p3 (a:Int)(t:LIn):Bool:=decide (t.head?=some a)
def p4 (a:Int)(t:LIn):Bool:=decide (t.getLast?=some a)
def p5 (a b:Int)(t:LIn):Bool:=(List.range t.length).any λj=>decide (t[j]?=some a)&&decide (t[j+1]?=some b)
def Y4 {w:World}{b:Nat}{a:Int}(x:Box w b 3 #[a]):qL 138 #[.pointer b] w (p2 a) where
 enters:=λargs w=>by kernel_rfl
 calls:=λwr A n c y f d=>by
  have g:=(x.keep f).cell 0;simp only[aP,aQ]at g;have h:=aA d;show Calls Tryz.prog 138 #[.slice A n c,.pointer b] wr _
  clear x d;go_enter Tryz.func138,Tryz.ntmps138
  go_wp2_with (refine(dG a h.o).mono ?_;rintro e w' ⟨rfl,rfl⟩)
  go_ret
  exact⟨rfl,aH _ _⟩
def Y7 {w:World}{g:Nat}{a:Int}(x:Box w g 3 #[a]):qL 139 #[.pointer g] w (p3 a) where
 enters:=λargs w=>by kernel_rfl
 calls:=λwr A n c y j f=>by
  have k:=(x.keep j).cell 0;simp only[aP,aQ]at k;have h:=f.len;have l:=f.small;show Calls Tryz.prog 139 #[.slice A n c,.pointer g] wr _
  by_cases m:0<n
  .obtain⟨b,o,z,rfl,p,d,q⟩:=aY.get f m;have r:(0:Int)<(n:Int):=by omega
   have i:=aA (show p3 a y=(z==a) by
    have d:=d.o;unfold p3;cases y with
    | nil=>simp at d
    | cons u y =>
     simp only[aQ,aZ]at d;subst d;by_cases e:u=a <;> simp[e])
   clear d f x h;simp only[eP]at q;go_enter Tryz.func139,Tryz.ntmps139
   go_wp2
   go_quiet (fail)
   go_wp2
   go_ret
   exact⟨bB (by rw[i.o]),⟨rfl,rfl,rfl,aB _,λ_ _=>rfl⟩⟩
  obtain rfl:n=0:=by omega
  have i:=aA (show p3 a y=false by
   have:=dS h;subst this;simp[p3])
  clear f x h;go_enter Tryz.func139,Tryz.ntmps139
  go_wp2
  go_quiet (fail)
  go_wp2
  go_ret
  exact⟨bB i.o.symm,⟨rfl,rfl,rfl,aB _,λ_ _=>rfl⟩⟩
def Za {w:World}{h:Nat}{a:Int}(x:Box w h 3 #[a]):qL 140 #[.pointer h] w (p4 a) where
 enters:=λargs w=>by kernel_rfl
 calls:=λwr A n c y p d=>by
  have q:=(x.keep p).cell 0;simp only[aP,aQ]at q;have f:=d.len;have r:=d.small;show Calls Tryz.prog 140 #[.slice A n c,.pointer h] wr _
  by_cases v:0<n
  .obtain⟨l,i⟩:∃l,n=l+1:=⟨n-1,by omega⟩;have j:l<n:=by omega
   have m:(l:Int)<(n:Int):=by omega
   have o:IntKind.i64.wrap ((n:Int)-1)=(l:Int):=by simp[IntKind.wrap,IntKind.bits,IntKind.signed];omega
   obtain⟨b,s,z,rfl,t,g,B⟩:=aY.get d j;have u:(0:Int)<(n:Int):=by omega
   have k:=aA (show p4 a y=(z==a) by
    have g:=g.o;unfold p4;rw[List.getLast?_eq_getElem?,f,show n-1=l by omega,g];by_cases e:z=a <;> simp[e])
   clear g d x f i;go_enter Tryz.func140,Tryz.ntmps140
   go_wp2
   go_quiet (fail)
   go_wp2
   go_ret
   exact⟨bB (by rw[k.o]),⟨rfl,rfl,rfl,aB _,λ_ _=>rfl⟩⟩
  obtain rfl:n=0:=by omega
  have k:=aA (show p4 a y=false by
   have:=dS f;subst this;simp[p4])
  clear d x f;go_enter Tryz.func140,Tryz.ntmps140
  go_wp2
  go_quiet (fail)
  go_wp2
  go_ret
  exact⟨bB k.o.symm,⟨rfl,rfl,rfl,aB _,λ_ _=>rfl⟩⟩
def QR {t:LIn}{a b:Int}{j:Nat}(c:t[j]?=some a)(d:t[j+1]?=some b):p5 a b t=true:=by
 unfold p5;rw[dO];refine⟨j,bM.2 (aR.1 c).1, ?_⟩;rw[c,d];simp
def Uu {t:LIn}{a b:Int}(h:∀j x y,j+1<t.length->t[j]?=some x->t[j+1]?=some y->¬(x=a/\y=b)):p5 a b t=false:=by
 unfold p5;rw[iC];intro j e;rw[cA,bO,bO];rintro⟨d,c⟩;exact h j a b (aR.1 c).1 d c ⟨rfl,rfl⟩
def VP {t:LIn}{a b:Int}:p5 a b t=true↔∃j:Nat,t[j]?=some a/\t[j+1]?=some b:=by
 constructor
 .intro h;unfold p5 at h;rw[dO]at h;obtain⟨j,_,h⟩:=h;rw[cA,bO,bO]at h;exact⟨j,h⟩
 rintro⟨j,c,d⟩;exact QR c d
def E5 {w:World}{A:OAd}{n c:Nat}{t:LIn}(a b:Int)(h:aY w A n c t) :
  Calls Tryz.prog 142 #[.slice A n c,a,b] w λe w'=>e=.returned (.bool (p5 a b t))/\w=w':=by
 have V:=h.small;have O:=aA h.len;have H:=aA h;clear h;go_enter Tryz.func142,Tryz.ntmps142
 go_wp2
 go_loop [10] (λi=>∃k:Nat,k<=n/\i=k/\Hid (∀j x y,j+1<k->t[j]?=some x->t[j+1]?=some y->¬(x=a/\y=b))) (λi=>n-(intOf i).toNat)
 case atStart=>exact⟨0,aL _,rfl,λj x y g=>absurd g (by omega)⟩
 case round =>
  obtain⟨k,W,rfl,d⟩:=hrel;by_cases r:k<n
  rotate_left
  .obtain rfl:k=n:=by omega
   have s:=aA (Uu (λj x y g=>d.o j x y (by rw[<-O.o];exact g)));clear d;go_wp2
   go_ret
   exact⟨bB s.o.symm,rfl⟩
  have P:(k:Int)<(n:Int):=by omega
  by_cases v:k=0
  .subst v;have p:=aA (show ∀j x y,j+1<0+1->t[j]?=some x->t[j+1]?=some y->¬(x=a/\y=b)from λj x y g=>absurd g (by omega));clear d;go_wp2
   go_round
   case rel=>exact⟨0+1,by omega,by go_num,p⟩
   simp[intOf];omega
  obtain⟨i,l⟩:∃i,k=i+1:=⟨k-1,by omega⟩;have B:i<n:=by omega
  have E:(i:Int)<(n:Int):=by omega
  have F:(0:Int)<(k:Int):=by omega
  have G:IntKind.i64.wrap ((k:Int)-1)=(i:Int):=by simp[IntKind.wrap,IntKind.bits,IntKind.signed];omega
  obtain⟨X,Q,z,rfl,Y,I,Z⟩:=aY.get H.o r;obtain⟨b3,J,u,q,R,K,qu⟩:=aY.get H.o B;injection q with q;injection q with q S;subst q S;have L:=aA (show t[i+1]?=some z by rw[<-l];exact I.o);have M:=aA K.o;have N:=aA l;clear I K l;by_cases C:u=a
  .subst C;by_cases D:z=b
   .subst D;have s:=aA (QR M.o L.o);go_wp2
    go_ret
    exact⟨bB s.o.symm,rfl⟩
   have p:=aA (show ∀j x y,j+1<k+1->t[j]?=some x->t[j+1]?=some y->¬(x=u/\y=b)from λj x y g m o f=>by
    by_cases e:j+1<k
    .exact d.o j x y e m o f
    have e:j=i:=by have:=N.o;omega
    subst e;rw[L.o]at o;injection o with o;exact D (o.trans f.2))
   have T:(z==b)=false:=by simpa using D
   clear d;go_wp2
   go_round
   case rel=>exact⟨k+1,by omega,by go_num,p⟩
   simp[intOf];omega
  have p:=aA (show ∀j x y,j+1<k+1->t[j]?=some x->t[j+1]?=some y->¬(x=a/\y=b)from λj x y g m o f=>by
    by_cases e:j+1<k
    .exact d.o j x y e m o f
    have e:j=i:=by have:=N.o;omega
    subst e;rw[M.o]at m;injection m with m;exact C (m.trans f.1))
  have U:(u==a)=false:=by simpa using C
  clear d;go_wp2
  go_round
  case rel=>exact⟨k+1,by omega,by go_num,p⟩
  simp[intOf];omega
def Zb {w:World}{d f:Nat}{a b:Int}(x:Box w d 3 #[a])(y:Box w f 3 #[b]):qL 141 #[.pointer d,.pointer f] w (p5 a b) where
 enters:=λargs w=>by kernel_rfl
 calls:=λwr A n c t g h=>by
  have i:=(x.keep g).cell 0;have j:=(y.keep g).cell 0;simp only[aP,aQ]at i j;have k:=aA h;show Calls Tryz.prog 141 #[.slice A n c,.pointer d,.pointer f] wr _
  clear x y h;go_enter Tryz.func141,Tryz.ntmps141
  go_wp2_with (refine(E5 a b k.o).mono ?_;rintro e w' ⟨rfl,rfl⟩)
  go_ret
  exact⟨rfl,aH _ _⟩
end Go.Proofs.YtgnljpnlolkalaaGreat
namespace Go.Proofs.YtgnljpnlolkalaaGreat
def rng (k:Nat):LIn:=(List.range k).map λi:Nat=>(i:Int)+1
def sN (k:Nat):rng (k+1)=rng k++[(k:Int)+1]:=by simp[rng,eF]
def QS (k:Nat):(rng k).length=k:=by simp[rng]
def vX {k:Nat}{x:Int}:x∈rng k↔1<=x/\x<=k:=by
 unfold rng;rw[bZ];constructor
 .rintro⟨i,a,rfl⟩;have:=bM.1 a;omega
 rintro⟨b,c⟩;exact⟨(x-1).toNat,bM.2 (by omega),by omega⟩
def J4:∀k:Nat,(rng k).Pairwise (.< .)
 | 0=>by simp[rng]
 | k+1=>by
  rw[sN,List.pairwise_append];refine⟨J4 k,List.pairwise_singleton _ _,λa c b d=>?_⟩;have:=(vX.1 c).2;rw[bJ]at d;omega
def onR (log:LLi)(p:Int->LIn->Bool)(k:Nat):LIn:=(rng k).filter λa=>log.any (p a)
def J5 {log:LLi}{p:Int->LIn->Bool}{k:Nat}(h:log.any (p ((k:Int)+1))=true):onR log p (k+1)=onR log p k++[(k:Int)+1]:=by
 unfold onR;rw[sN,dP];simp[h]
def QT {log:LLi}{p:Int->LIn->Bool}{k:Nat}(h:log.any (p ((k:Int)+1))=false):onR log p (k+1)=onR log p k:=by
 unfold onR;rw[sN,dP];simp only[List.filter_cons,List.filter_nil,h,j9,aD Bool.false_ne_true]
def J6 (log:LLi)(p:Int->LIn->Bool)(k:Nat):(onR log p k).length<=k:=by
 have:=fC (λa=>log.any (p a)) (rng k);rw[QS]at this;exact this
def J7 (log:LLi)(p:Int->LIn->Bool)(k:Nat):(onR log p k).Pairwise (.< .):=List.Pairwise.sublist List.filter_sublist (J4 k)
def J8 {log:LLi}{p:Int->LIn->Bool}{k:Nat}{x:Int}:x∈onR log p k↔(1<=x/\x<=k)/\∃t∈log,p x t=true:=by
 unfold onR;rw[bR,vX,dO]
def AW (log:LLi)(a:Int)(j:Nat):List (Int×Int):=((rng j).filter λb=>log.any (p5 a b)).map λb=>(a,b)
def Uw {log:LLi}{a:Int}{j:Nat}(h:log.any (p5 a ((j:Int)+1))=true):AW log a (j+1)=AW log a j++[(a,(j:Int)+1)]:=by
 unfold AW;rw[sN,dP];simp[h]
def Wy {log:LLi}{a:Int}{j:Nat}(h:log.any (p5 a ((j:Int)+1))=false):AW log a (j+1)=AW log a j:=by
 unfold AW;rw[sN,dP];simp only[List.filter_cons,List.filter_nil,h,j9,aD Bool.false_ne_true]
def MR (log:LLi)(a:Int)(j:Nat):(AW log a j).length<=j:=by
 unfold AW;rw[dQ];have:=fC (λb=>log.any (p5 a b)) (rng j);rw[QS]at this;exact this
def E6 {log:LLi}{a:Int}{j:Nat}{q:Int×Int}:q∈AW log a j↔q.1=a/\(1<=q.2/\q.2<=j)/\∃t∈log,p5 a q.2 t=true:=by
 unfold AW;rw[bZ];constructor
 .rintro⟨b,c,rfl⟩;rw[bR,vX,dO]at c;exact⟨rfl,c⟩
 rintro⟨d,e,f⟩;refine⟨q.2, ?_,by rw[<-d]⟩;rw[bR,vX,dO];exact⟨e,f⟩
def Ux (log:LLi)(a:Int)(j:Nat):(AW log a j).Pairwise qT:=by
 unfold AW;rw[oI];exact(List.Pairwise.sublist List.filter_sublist (J4 j)).imp λh=>.inr ⟨rfl,h⟩
def Jz (log:LLi)(k:Nat):List (Int×Int):=(rng k).flatMap λa=>AW log a 26
def zQ (log:LLi)(k:Nat):Jz log (k+1)=Jz log k++AW log ((k:Int)+1) 26:=by
 unfold Jz;rw[sN,List.flatMap_append];simp
def MS (log:LLi):∀k:Nat,(Jz log k).length<=26*k
 | 0=>by simp[Jz,rng]
 | k+1=>by
  rw[zQ,bL];have:=MS log k;have:=MR log ((k:Int)+1) 26;omega
def MU {log:LLi}{k:Nat}{q:Int×Int}:q∈Jz log k↔(1<=q.1/\q.1<=k)/\(1<=q.2/\q.2<=26)/\∃t∈log,p5 q.1 q.2 t=true:=by
 unfold Jz;rw[iZ];constructor
 .rintro⟨a,d,h⟩;obtain⟨e,b,c⟩:=E6.1 h;subst e;exact⟨vX.1 d,b,c⟩
 rintro⟨f,b,c⟩;exact⟨q.1,vX.2 f,E6.2 ⟨rfl,b,c⟩⟩
def MV (log:LLi):∀k:Nat,(Jz log k).Pairwise qT
 | 0=>by simp[Jz,rng]
 | k+1=>by
  rw[zQ,List.pairwise_append];refine⟨MV log k,Ux _ _ _,λa c b d=>?_⟩;have e:=(MU.1 c).1.2;have f:=(E6.1 d).1;exact .inl (by omega)
def q7 (log:LLi)(k1 a b k j:Nat):bI:=⟨onR log p2 k1,onR log p3 a,onR log p4 b,Jz log k++AW log ((k:Int)+1) j⟩
def Ou (log:LLi):q7 log 0 0 0 0 0=zG:=by simp[q7,zG,onR,Jz,AW,rng]
def QU (log:LLi)(k1 a b k:Nat):q7 log k1 a b k 26=q7 log k1 a b (k+1) 0:=by
 simp[q7,zQ,AW,rng]
def uX (log:LLi)(k1 a b k j:Nat):(q7 log k1 a b k j).labels.length<=k1/\(q7 log k1 a b k j).first.length<=a/\(q7 log k1 a b k j).last.length<=b/\(q7 log k1 a b k j).behind.length<=26*k+j:=by
 refine⟨J6 _ _ _,J6 _ _ _,J6 _ _ _, ?_⟩;show(Jz log k++AW log ((k:Int)+1) j).length<=_
 rw[bL];have:=MS log k;have:=MR log ((k:Int)+1) j;omega
def vY {log:LLi}(h:eI log=0):OfP log (q7 log 26 26 26 26 0) 0:=by
 refine⟨h.symm, ?_⟩;rw[aG h];obtain⟨_,c⟩:=zD h;have d:∀{t:LIn} {x:Int},t∈log->x∈t->1<=x/\x<=(26:Nat):=λa b=>(c _ a).2 _ b
 have i:Jz log 26++AW log (((26:Nat):Int)+1) 0=Jz log 26:=by simp[AW,rng]
 refine⟨⟨J7 _ _ _,λx=>?_⟩,⟨J7 _ _ _,λx=>?_⟩,⟨J7 _ _ _,λx=>?_⟩, ?_⟩
 .show x∈onR log p2 26↔_
  rw[J8];unfold Xv p2;constructor
  .rintro⟨_,t,a,hp⟩;obtain⟨y,j,e⟩:=dO.1 hp;simp only[fA]at e;exact⟨t,a,e▸j⟩
  rintro⟨t,a,b⟩;exact⟨d a b,t,a,dO.2 ⟨x,b,by simp⟩⟩
 .show x∈onR log p3 26↔_
  rw[J8];unfold Di p3;constructor
  .rintro⟨_,t,a,hp⟩;exact⟨t,a,gR hp⟩
  rintro⟨t,a,b⟩;exact⟨d a (List.mem_of_head? b),t,a,mB b⟩
 .show x∈onR log p4 26↔_
  rw[J8];unfold Og p4;constructor
  .rintro⟨_,t,a,hp⟩;exact⟨t,a,gR hp⟩
  rintro⟨t,a,b⟩;exact⟨d a (List.mem_of_getLast? b),t,a,mB b⟩
 show(Jz log 26++AW log (((26:Nat):Int)+1) 0).Pairwise qT/\∀x,x∈Jz log 26++AW log (((26:Nat):Int)+1) 0↔_
 rw[i];refine⟨MV _ _,λq=>?_⟩;rw[MU];unfold Xw;constructor
 .rintro⟨_,_,t,a,hp⟩;exact⟨t,a,VP.1 hp⟩
 rintro⟨t,a,k,f,g⟩;exact⟨d a (aS f),d a (aS g),t,a,VP.2 ⟨k,f,g⟩⟩
open Go.RowKit
def dJ {α:Type} {R:World->(Nat->Value)->α->Prop} {t e size c:Nat} (T:sT t e size c) {ops:Array Oper} {rest:List Oper} {o:Oper} {a:Act} {Q:Exit->Act->World->Prop} (p:o.guard=none) (s x:Operand)
  (E:o.op=.call {callee:=.builtin .append,args:=#[s,x],argTypes:=#[t,t]})
  {w:World} {B:Nat} {v:Value} {n m:Nat} {xs:List α} (ys:List α) (d:Array Value) {H:Nat} (F:a.eval s=v) (q:a.eval x=.slice H m m) (G:H=w.heap.size) (r:d.size=m*size) (one:∀u∈d.toList,u.oneCell'=true)
  (own:aJ R size w B e v n xs) (f:cD R size w d.toList ys) (I:ys.length=m) (hB:B<=w.heap.size) (J:n+m<=281474976710656) (L:(n+m)*c<=140737488355328)
  (g:∀w',w.grownBy w' v.ownBlock->∀vs y,R w vs y->R w' vs y)
  (K:∀v' w',aJ R size w' B e v' (n+m) (xs++ys)->w.grownBy w' v.ownBlock->(v'.ownBlock=v.ownBlock∨v'.ownBlock=some (w.heap.size+1))->wpList Tryz.prog ops Q rest (a.put o.dst v') w') :
  wpList Tryz.prog ops Q (o::rest) a (w.alloc (.cells d e)):=by
 subst G;obtain⟨i,z,M,N,O,S,U⟩:=T.info;obtain⟨h,V,W,X⟩:=own;refine wpList_append_own_at (P:=Tryz.prog) _ p s x t E B e i z size c T.und M N O S U T.pos v n h F (V.alloc _) ⟨w,0,none⟩ m m d.toList q (by simpa using r) (λj u Y=>?_) one ?_ L (by simp;omega) (λv' w' Z l _ C=>?_)
 .have hz:((⟨w,0,none⟩:Addr).add j)=⟨w.heap.size,j,none⟩:=by unfold Addr.add;split <;> simp_all
  rw[hz];have:(w.alloc (.cells d e)).cell? ⟨w.heap.size,j,none⟩=d[j]?:=cell_of_row _ _ _ _ _ (0,0) (iD w _);rw[this];simpa using Y
 .simp only[maxLen];omega
 .have D:w.grownBy w' v.ownBlock:=⟨l.os,l.tape,l.output,aT (by simp) l.size,λk hk A=>(l.block k (by simp;omega) A).trans (heap_alloc_old w _ hk)⟩;refine K v' w' ⟨_,Z, ?_,by rw[bL,X,I]⟩ D (by rw[World.size_alloc]at C;exact C);have:=W.append f;exact⟨this.1,λi x q=>by obtain⟨vs,a,b⟩:=this.2 i x q;exact⟨vs,a,g _ D _ _ b⟩⟩
def gJ {ops:Array Oper} {rest:List Oper} {o:Oper} {a:Act} {Q:Exit->Act->World->Prop} (b:o.guard=none) (s x:Operand)
  (c:o.op=.call {callee:=.builtin .append,args:=#[s,x],argTypes:=#[24,24]})
  {w:World} {B:Nat} {v:Value} {n:Nat} {xs:LIn} {y:Int} {H:Nat} (d:a.eval s=v) (e:a.eval x=.slice H 1 1) (f:H=w.heap.size)
  (own:aI w B v n xs) (g:B<=w.heap.size) (i:n<=26)
  (K:∀v' w',aI w' B v' (n+1) (xs++[y])->w.grownBy w' v.ownBlock->(v'.ownBlock=v.ownBlock∨v'.ownBlock=some (w.heap.size+1))->wpList Tryz.prog ops Q rest (a.put o.dst v') w') :
  wpList Tryz.prog ops Q (o::rest) a (w.alloc (.cells #[y] 3)) :=
 dJ iO b s x c [y] #[y] d e f rfl (by simp[Value.oneCell']) own (cD.one (vs:=λ_=>.int .i64 y) rfl rfl (λj k=>(by obtain rfl:j=0:=(by omega);rfl))) rfl g (by omega) (by omega) (λ_ _ _ _ h=>h) K
def yC {ops:Array Oper} {rest:List Oper} {o:Oper} {a:Act} {Q:Exit->Act->World->Prop} (b:o.guard=none) (s x:Operand)
  (c:o.op=.call {callee:=.builtin .append,args:=#[s,x],argTypes:=#[121,121]})
  {w:World} {B:Nat} {v:Value} {n:Nat} {xs:List (Int×Int)} {y z:Int} {H:Nat} (d:a.eval s=v) (e:a.eval x=.slice H 1 1) (f:H=w.heap.size)
  (own:nK w B v n xs) (g:B<=w.heap.size) (i:n<=1000)
  (K:∀v' w',nK w' B v' (n+1) (xs++[(y,z)])->w.grownBy w' v.ownBlock->(v'.ownBlock=v.ownBlock∨v'.ownBlock=some (w.heap.size+1))->wpList Tryz.prog ops Q rest (a.put o.dst v') w') :
  wpList Tryz.prog ops Q (o::rest) a (w.alloc (.cells #[y,z] 165)) :=
 dJ QP b s x c [(y,z)] #[y,z] d e f rfl (by simp[Value.oneCell']) own (cD.pair (y,z)) rfl g (by omega) (by omega) (λ_ _ _ _ h=>h) K
abbrev nL:Value:=.slice none 0 0
structure VRw (w:World)(bl bp:Nat)(LA:Value)(g:bI)(s1 s2 s3 s4:Value)(n1 n2 n3 n4:Nat):Prop where
 lt:bl+1<bp
 xl:Box w bl 30 #[LA]
 xr:Box w (bl+1) 123 #[nL,nL,nL,nL]
 o1:aI w (bp+1) s1 n1 g.labels
 o2:aI w (bp+1) s2 n2 g.first
 o3:aI w (bp+1) s3 n3 g.last
 o4:nK w (bp+1) s4 n4 g.behind
 a12:s1.ownBlock=none∨s1.ownBlock≠s2.ownBlock
 a13:s1.ownBlock=none∨s1.ownBlock≠s3.ownBlock
 a23:s2.ownBlock=none∨s2.ownBlock≠s3.ownBlock
structure VSt (w:World)(bl bp:Nat)(LA:Value)(g:bI)(s1 s2 s3 s4:Value)(n1 n2 n3 n4:Nat):Prop where
 r:VRw w bl bp LA g s1 s2 s3 s4 n1 n2 n3 n4
 xp:Box w bp 123 #[s1,s2,s3,s4]
structure IBx (w:World)(bp b:Nat)(a:Int)(s1 s2 s3 s4:Value):Prop where
 box:Box w b 3 #[.int .i64 a]
 ge:bp+1<=b
 f1:s1.ownBlock≠some b
 f2:s2.ownBlock≠some b
 f3:s3.ownBlock≠some b
 f4:s4.ownBlock≠some b
def dI (w:World)(b i:Nat)(v:Value):w.grownBy (w.setCell ⟨b,i,none⟩ v) (some b) :=
 ⟨rfl,rfl,rfl,by simp[World.setCell],λk _ a=>eN _ _ _ _ (λe=>a (by rw[e]))⟩
def Ov {w w':World}(a:Below w w w'):w.grownBy w' none:=⟨a.os,a.tape,a.output,a.size,λk b _=>a.block k b⟩
def lP {x y:Option Nat}(h:x=none∨x≠y):y=none∨y≠x:=by
 rcases h with rfl|h
 .cases y <;> simp
 exact .inr (λe=>h e.symm)
def Dp {x a y:Option Nat}{N:Nat}(b:a=x∨a=some (N+1))(h:x=none∨x≠y)(c:∀k,y=some k->k<N):a=none∨a≠y:=by
 rcases b with rfl|rfl
 .exact h
 refine .inr (λe=>?_);have:=c _ e.symm;omega
def MY {x a:Option Nat}{N k:Nat}(b:a=x∨a=some (N+1))(h:x≠some k)(c:k<N):a≠some k:=by
 rcases b with rfl|rfl
 .exact h
 intro e;injection e with e;omega
def eT {α:Type}{R:World->(Nat->Value)->α->Prop}{sz:Nat}{w:World}{B e:Nat}{v:Value}{n:Nat}{xs:List α}(h:aJ R sz w B e v n xs){k:Nat}(a:k<B):v.ownBlock≠some k:=λe=>by
 have:=(h.lt k e).1;omega
def E7 {α:Type}{R:World->(Nat->Value)->α->Prop}{sz:Nat}{w:World}{B e:Nat}{v:Value}{n:Nat}{xs:List α}(h:aJ R sz w B e v n xs):v.ownBlock≠some w.heap.size:=λe=>by
 have:=(h.lt _ e).2;omega
section
variable {w w':World} {bl bp:Nat} {LA:Value} {g:bI} {s1 s2 s3 s4:Value} {n1 n2 n3 n4:Nat}
def Yc (h:VRw w bl bp LA g s1 s2 s3 s4 n1 n2 n3 n4):s4.ownBlock=none∨s4.ownBlock≠s1.ownBlock:=jC (mC h.o4).1 (aI.row h.o1) (by decide)
def Yd (h:VRw w bl bp LA g s1 s2 s3 s4 n1 n2 n3 n4):s4.ownBlock=none∨s4.ownBlock≠s2.ownBlock:=jC (mC h.o4).1 (aI.row h.o2) (by decide)
def Ye (h:VRw w bl bp LA g s1 s2 s3 s4 n1 n2 n3 n4):s4.ownBlock=none∨s4.ownBlock≠s3.ownBlock:=jC (mC h.o4).1 (aI.row h.o3) (by decide)
def VRw.grown (h:VRw w bl bp LA g s1 s2 s3 s4 n1 n2 n3 n4){r:Option Nat}(a:w.grownBy w' r)(b:r≠some bl)(c:r≠some (bl+1))(d:s1.ownBlock=none∨s1.ownBlock≠r)(e:s2.ownBlock=none∨s2.ownBlock≠r)(f:s3.ownBlock=none∨s3.ownBlock≠r)(i:s4.ownBlock=none∨s4.ownBlock≠r):VRw w' bl bp LA g s1 s2 s3 s4 n1 n2 n3 n4 :=
 ⟨h.lt,h.xl.grown a b,h.xr.grown a c,h.o1.kept a d (λ_ _ h=>h),h.o2.kept a e (λ_ _ h=>h),h.o3.kept a f (λ_ _ h=>h),h.o4.kept a i (λ_ _ h=>h),h.a12,h.a13,h.a23⟩
def Fo {x:Option Nat}:x=none∨x≠none:=by cases x <;> simp
def VSt.keep (h:VSt w bl bp LA g s1 s2 s3 s4 n1 n2 n3 n4)(a:Below w w w'):VSt w' bl bp LA g s1 s2 s3 s4 n1 n2 n3 n4 :=
 ⟨h.r.grown (Ov a) (by simp) (by simp) Fo Fo Fo Fo,h.xp.keep a⟩
def IBx.keep {b:Nat}{a:Int}(h:IBx w bp b a s1 s2 s3 s4)(c:Below w w w'):IBx w' bp b a s1 s2 s3 s4:=⟨h.box.keep c,h.ge,h.f1,h.f2,h.f3,h.f4⟩
def VSt.new (h:VSt w bl bp LA g s1 s2 s3 s4 n1 n2 n3 n4)(x:Int):IBx (w.alloc (.cells #[x] 3)) bp w x s1 s2 s3 s4 :=
 ⟨Box.new _ _ _,h.xp.lt,E7 h.r.o1,E7 h.r.o2,E7 h.r.o3,E7 h.r.o4⟩
def VSt.alloc (h:VSt w bl bp LA g s1 s2 s3 s4 n1 n2 n3 n4)(o:Obj):VSt (w.alloc o) bl bp LA g s1 s2 s3 s4 n1 n2 n3 n4:=h.keep ((aH _ w).alloc (aB _) o)
def IBx.alloc {b:Nat}{a:Int}(i:IBx w bp b a s1 s2 s3 s4)(o:Obj):IBx (w.alloc o) bp b a s1 s2 s3 s4:=i.keep ((aH _ w).alloc (aB _) o)
def VRw.boxed (h:VRw w bl bp LA g s1 s2 s3 s4 n1 n2 n3 n4)(j:Nat)(v:Value):VRw (w.setCell ⟨bp,j,none⟩ v) bl bp LA g s1 s2 s3 s4 n1 n2 n3 n4:=by
 have a:=h.lt;exact h.grown (dI w bp j v) (by simp;omega) (by simp;omega) (.inr (eT h.o1 (jN _))) (.inr (eT h.o2 (jN _))) (.inr (eT h.o3 (jN _))) (.inr (eT h.o4 (jN _)))
def VSt.app1 (h:VSt w bl bp LA g s1 s2 s3 s4 n1 n2 n3 n4){v:Value}{ys:LIn}{m:Nat}(o:aI w' (bp+1) v m ys)(a:w.grownBy w' s1.ownBlock)(b:v.ownBlock=s1.ownBlock∨v.ownBlock=some (w.heap.size+1)):VSt (w'.setCell bp v) bl bp LA ⟨ys,g.first,g.last,g.behind⟩ v s2 s3 s4 m n2 n3 n4:=by
 have c:=h.r.lt;have d:VRw w' bl bp LA ⟨ys,g.first,g.last,g.behind⟩ v s2 s3 s4 m n2 n3 n4 :=
  ⟨c,h.r.xl.grown a (eT h.r.o1 (by omega)),h.r.xr.grown a (eT h.r.o1 (by omega)),o,h.r.o2.kept a (lP h.r.a12) (λ_ _ h=>h),h.r.o3.kept a (lP h.r.a13) (λ_ _ h=>h),h.r.o4.kept a (Yc h.r) (λ_ _ h=>h),Dp b h.r.a12 (λk e=>(h.r.o2.lt k e).2),Dp b h.r.a13 (λk e=>(h.r.o3.lt k e).2),h.r.a23⟩
 exact⟨d.boxed 0 v,by have:=(h.xp.grown a (eT h.r.o1 (by omega))).set 0 v;simpa using this⟩
def VSt.app2 (h:VSt w bl bp LA g s1 s2 s3 s4 n1 n2 n3 n4){v:Value}{ys:LIn}{m:Nat}(o:aI w' (bp+1) v m ys)(a:w.grownBy w' s2.ownBlock)(b:v.ownBlock=s2.ownBlock∨v.ownBlock=some (w.heap.size+1)):VSt (w'.setCell ⟨bp,1,none⟩ v) bl bp LA ⟨g.labels,ys,g.last,g.behind⟩ s1 v s3 s4 n1 m n3 n4:=by
 have c:=h.r.lt;have d:VRw w' bl bp LA ⟨g.labels,ys,g.last,g.behind⟩ s1 v s3 s4 n1 m n3 n4 :=
  ⟨c,h.r.xl.grown a (eT h.r.o2 (by omega)),h.r.xr.grown a (eT h.r.o2 (by omega)),h.r.o1.kept a h.r.a12 (λ_ _ h=>h),o,h.r.o3.kept a (lP h.r.a23) (λ_ _ h=>h),h.r.o4.kept a (Yd h.r) (λ_ _ h=>h),lP (Dp b (lP h.r.a12) (λk e=>(h.r.o1.lt k e).2)),h.r.a13,Dp b h.r.a23 (λk e=>(h.r.o3.lt k e).2)⟩
 exact⟨d.boxed 1 v,by have:=(h.xp.grown a (eT h.r.o2 (by omega))).set 1 v;simpa using this⟩
def VSt.app3 (h:VSt w bl bp LA g s1 s2 s3 s4 n1 n2 n3 n4){v:Value}{ys:LIn}{m:Nat}(o:aI w' (bp+1) v m ys)(a:w.grownBy w' s3.ownBlock)(b:v.ownBlock=s3.ownBlock∨v.ownBlock=some (w.heap.size+1)):VSt (w'.setCell ⟨bp,2,none⟩ v) bl bp LA ⟨g.labels,g.first,ys,g.behind⟩ s1 s2 v s4 n1 n2 m n4:=by
 have c:=h.r.lt;have d:VRw w' bl bp LA ⟨g.labels,g.first,ys,g.behind⟩ s1 s2 v s4 n1 n2 m n4 :=
  ⟨c,h.r.xl.grown a (eT h.r.o3 (by omega)),h.r.xr.grown a (eT h.r.o3 (by omega)),h.r.o1.kept a h.r.a13 (λ_ _ h=>h),h.r.o2.kept a h.r.a23 (λ_ _ h=>h),o,h.r.o4.kept a (Ye h.r) (λ_ _ h=>h),h.r.a12,lP (Dp b (lP h.r.a13) (λk e=>(h.r.o1.lt k e).2)),lP (Dp b (lP h.r.a23) (λk e=>(h.r.o2.lt k e).2))⟩
 exact⟨d.boxed 2 v,by have:=(h.xp.grown a (eT h.r.o3 (by omega))).set 2 v;simpa using this⟩
def VSt.app4 (h:VSt w bl bp LA g s1 s2 s3 s4 n1 n2 n3 n4){v:Value}{ys:List (Int×Int)}{m:Nat}(o:nK w' (bp+1) v m ys)(a:w.grownBy w' s4.ownBlock):VSt (w'.setCell ⟨bp,3,none⟩ v) bl bp LA ⟨g.labels,g.first,g.last,ys⟩ s1 s2 s3 v n1 n2 n3 m:=by
 have b:=h.r.lt;have c:VRw w' bl bp LA ⟨g.labels,g.first,g.last,ys⟩ s1 s2 s3 v n1 n2 n3 m :=
  ⟨b,h.r.xl.grown a (eT h.r.o4 (by omega)),h.r.xr.grown a (eT h.r.o4 (by omega)),h.r.o1.kept a (lP (Yc h.r)) (λ_ _ h=>h),h.r.o2.kept a (lP (Yd h.r)) (λ_ _ h=>h),h.r.o3.kept a (lP (Ye h.r)) (λ_ _ h=>h),o,h.r.a12,h.r.a13,h.r.a23⟩
 exact⟨c.boxed 3 v,by have:=(h.xp.grown a (eT h.r.o4 (by omega))).set 3 v;simpa using this⟩
def IBx.app1 {b:Nat}{a:Int}(i:IBx w bp b a s1 s2 s3 s4){v:Value}(c:w.grownBy w' s1.ownBlock)(d:v.ownBlock=s1.ownBlock∨v.ownBlock=some (w.heap.size+1)):IBx (w'.setCell bp v) bp b a v s2 s3 s4 :=
 ⟨(i.box.grown c i.f1).other v (by have:=i.ge;simp;omega),i.ge,MY d i.f1 i.box.lt,i.f2,i.f3,i.f4⟩
def IBx.app2 {b:Nat}{a:Int}(i:IBx w bp b a s1 s2 s3 s4){v:Value}(c:w.grownBy w' s2.ownBlock)(d:v.ownBlock=s2.ownBlock∨v.ownBlock=some (w.heap.size+1)):IBx (w'.setCell ⟨bp,1,none⟩ v) bp b a s1 v s3 s4 :=
 ⟨(i.box.grown c i.f2).other v (by have:=i.ge;simp;omega),i.ge,i.f1,MY d i.f2 i.box.lt,i.f3,i.f4⟩
def IBx.app3 {b:Nat}{a:Int}(i:IBx w bp b a s1 s2 s3 s4){v:Value}(c:w.grownBy w' s3.ownBlock)(d:v.ownBlock=s3.ownBlock∨v.ownBlock=some (w.heap.size+1)):IBx (w'.setCell ⟨bp,2,none⟩ v) bp b a s1 s2 v s4 :=
 ⟨(i.box.grown c i.f3).other v (by have:=i.ge;simp;omega),i.ge,i.f1,i.f2,MY d i.f3 i.box.lt,i.f4⟩
def IBx.app4 {b:Nat}{a:Int}(i:IBx w bp b a s1 s2 s3 s4){v:Value}(c:w.grownBy w' s4.ownBlock)(d:v.ownBlock=s4.ownBlock∨v.ownBlock=some (w.heap.size+1)):IBx (w'.setCell ⟨bp,3,none⟩ v) bp b a s1 s2 s3 v :=
 ⟨(i.box.grown c i.f4).other v (by have:=i.ge;simp;omega),i.ge,i.f1,i.f2,i.f3,MY d i.f4 i.box.lt⟩
def uY {w0:World}{s:Value}{v:Value}{j:Nat}{α:Type}{R:World->(Nat->Value)->α->Prop}{sz e n:Nat}{xs:List α}(h:Below bp w0 w)(a:bp<=w.heap.size)(o:aJ R sz w (bp+1) e s n xs)(b:w.grownBy w' s.ownBlock):Below bp w0 (w'.setCell ⟨bp,j,none⟩ v) :=
 (h.grown b a (λk e=>by have:=(o.lt k e).1;omega)).setCell (p:=⟨bp,j,none⟩) (aB _) v
end
def QV {w:World}{A:OAd}{n c:Nat}{log:LLi}(h:cQ w A n c log) :
  Calls Tryz.prog 88 #[.slice A n c] w (Yb log w):=by
 have b7:=h.small;have X0:=aA ((Box.new w #[.slice A n c] 30).old (.cells #[nL,nL,nL,nL] 123));have F:=aA (Box.newAt (w:=w.alloc (.cells #[.slice A n c] 30)) (n:=w.heap.size+1) (by simp) #[nL,nL,nL,nL] 123);have t:=aA ((aF w (.cells #[.slice A n c] 30)).alloc (by simp) (.cells #[nL,nL,nL,nL] 123));have S0:=aA (show((w.alloc (.cells #[.slice A n c] 30)).alloc (.cells #[nL,nL,nL,nL] 123)).heap.size=w.heap.size+1+1 by simp);have a5:∀args w,(callFunc 137 args).run Tryz.prog w=.ok (.enter 137 args) w:=λargs w=>by kernel_rfl
 have H:=aA h;clear h;obtain⟨z,hz⟩:=aK (eI log);have HZ:=aA hz;clear hz;go_enter Tryz.func88,Tryz.ntmps88
 go_upto_region 1 with fail
 generalize (w.alloc (.cells #[.slice A n c] 30)).alloc (.cells #[nL,nL,nL,nL] 123)=w0 at *
 have x0:=X0.o.cell 0;simp only[aP,aQ]at x0;go_wp2_with fail
 refine(xF (Sl.keep cS.kept H.o t.o)).mono ?_;rw[HZ.o];rintro e w1 ⟨rfl,rfl⟩;by_cases h0:z=0
 .subst h0;go_upto_region 5 with fail
  have V0:=aA (show VSt (w0.alloc (.cells #[nL,nL,nL,nL] 123)) w.heap.size w0 (.slice A n c) (q7 log 0 0 0 0 0) nL nL nL nL 0 0 0 0 by
   rw[Ou];exact⟨⟨by rw[S0.o];omega,X0.o.old _,F.o.old _,aJ.nil,aJ.nil,aJ.nil,aJ.nil,.inl rfl,.inl rfl,.inl rfl⟩,Box.new _ _ _⟩)
  have D0:=aA (aF w0 (.cells #[nL,nL,nL,nL] 123));go_upto_region 6 with fail
  generalize w0.alloc (.cells #[nL,nL,nL,nL] 123)=w2 at *
  have I0:=aA (V0.o.new 1);have V1:=aA (V0.o.alloc (.cells #[(1:Int)] 3));have D1:=aA (D0.o.alloc D0.o.size (.cells #[(1:Int)] 3));clear x0;go_wp2
  generalize w2.alloc (.cells #[(1:Int)] 3)=w3 at *
  go_loopg [7] 26 (λgk v wr=>∃(k L:Nat) (s1 s2 s3 s4:Value) (n1 n2 n3 n4:Nat),k+gk=26/\v=.pointer L/\Hid (VSt wr w.heap.size w0 (.slice A n c) (q7 log k k k k 0) s1 s2 s3 s4 n1 n2 n3 n4)/\Hid (IBx wr w0 L ((k:Int)+1) s1 s2 s3 s4)/\Hid (Below w0 w0 wr))
  case atStart=>exact⟨0,w2.heap.size,nL,nL,nL,nL,0,0,0,0,by omega,rfl,V1,I0,D1⟩
  clear V0 V1 I0 D0 D1;obtain⟨k,L,s1,s2,s3,s4,n1,n2,n3,n4,hk,rfl,V,I,D⟩:=hrel;by_cases b9:k<26
  rotate_left
  .have a6:¬(k:Int)+1<=26:=by omega
   have i:=I.o.box.cell 0;simp only[aP,aQ]at i;obtain rfl:k=26:=by omega
   have r:=aA (t.o.trans (D.o.mono t.o.size));have LN:=aA (show n1<=26/\n2<=26/\n3<=26/\n4<=1000 by
    obtain⟨l1,l2,l3,l4⟩:=uX log 26 26 26 26 0;have:=V.o.r.o1.len;have:=V.o.r.o2.len;have:=V.o.r.o3.len;have:=V.o.r.o4.len;omega)
   obtain⟨A1,c1,rfl,i1⟩:=V.o.r.o1.sl (by have:=LN.o;omega);obtain⟨A2,c2,rfl,i2⟩:=V.o.r.o2.sl (by have:=LN.o;omega);obtain⟨A3,c3,rfl,i3⟩:=V.o.r.o3.sl (by have:=LN.o;omega);obtain⟨A4,c4,rfl,i4⟩:=V.o.r.o4.sl (by have:=LN.o;omega);have I1:=aA i1;have I2:=aA i2;have I3:=aA i3;have I4:=aA i4;clear i1 i2 i3 i4;have y:=aA V.o.r.xr;have z0:=V.o.xp.cell 0;have z1:=V.o.xp.cell 1;have z2:=V.o.xp.cell 2;have z3:=V.o.xp.cell 3;have u:=y.o.cell 0;have y1:=y.o.cell 1;have y2:=y.o.cell 2;have y3:=y.o.cell 3;have f0:=y.o.frozen 0;have f1:=y.o.frozen 1;have f2:=y.o.frozen 2;have f3:=y.o.frozen 3;simp only[aP,aQ,cB]at u y1 y2 y3 z0 z1 z2 z3;have G:=aA (y.o.laid (.slice A1 n1 c1) (.slice A2 n2 c2) (.slice A3 n3 c3) (.slice A4 n4 c4));have BE:=aA (d8.lay4 wr (w.heap.size+1) (.slice A1 n1 c1) (.slice A2 n2 c2) (.slice A3 n3 c3) (.slice A4 n4 c4));have EE:=aA (sL r.o (Nat.le_succ _) (.slice A1 n1 c1) (.slice A2 n2 c2) (.slice A3 n3 c3) (.slice A4 n4 c4));have NI:=aA (VO (v0:=.slice none 0 0) (v1:=.slice none 0 0) (v2:=.slice none 0 0) (v3:=.slice none 0 0) (λx e=>(by cases e)) (λx e=>(by cases e)) (λx e=>(by cases e)) (λx e=>(by cases e)));have OF:=aA (vY HZ.o);clear V I D r LN;go_wp2
   clear u y1 y2 y3 f0 f1 f2 f3 z0 z1 z2 z3;have e0:=G.o.cell 0;have e1:=G.o.cell 1;have e2:=G.o.cell 2;have e3:=G.o.cell 3;simp only[aP,aQ,cB,lay4]at e0 e1 e2 e3;refine aU (v:=.tuple #[.agg #[.slice A1 n1 c1,.slice A2 n2 c2,.slice A3 n3 c3,.slice A4 n4 c4],(0:Int)]) (by simp[results,Tryz.results88,go_sem,e0,e1,e2,e3]) rfl ?_;exact⟨q7 log 26 26 26 26 0,0,A1,A2,A3,A4,n1,c1,n2,c2,n3,c3,n4,c4,OF.o,rfl,aY.beside I1.o y.o NI.o BE.o,aY.beside I2.o y.o NI.o BE.o,aY.beside I3.o y.o NI.o BE.o,zO.beside I4.o y.o NI.o BE.o,EE.o⟩
  have a6:(k:Int)+1<=26:=by omega
  have Q:IntKind.i64.wrap ((k:Int)+1+1)=((k+1:Nat):Int)+1:=by simp[IntKind.wrap,IntKind.bits,IntKind.signed];omega
  have a9:=aA Q;clear Q;have DL:=aA D.o.size;have r:=aA (t.o.trans (D.o.mono t.o.size));have i:=I.o.box.cell 0;simp only[aP,aQ]at i;obtain⟨b1,a0⟩:=aK (log.any (p2 ((k:Int)+1)));have R:=aA a0;clear a0;have C1:=aA (sM V.o.r.xl (Sl.keep cS.kept H.o r.o) (Y4 I.o.box));rw[R.o]at C1;go_upto_if 22 with(refine C1.o.mono ?_;rintro e M ⟨rfl,f⟩;have b:=aA (V.o.keep f);have q:=aA (I.o.keep f);have p:=aA (D.o.trans (f.mono DL.o));clear f)
  clear i V I D r DL C1;go_cut [] (λE=>∃(s1:Value) (n1:Nat),Hid (VSt E w.heap.size w0 (.slice A n c) (q7 log (k+1) k k k 0) s1 s2 s3 s4 n1 n2 n3 n4)/\Hid (IBx E w0 L ((k:Int)+1) s1 s2 s3 s4)/\Hid (Below w0 w0 E))
  case first =>
   cases b1
   .have l:=aA (show VSt M w.heap.size w0 (.slice A n c) (q7 log (k+1) k k k 0) s1 s2 s3 s4 n1 n2 n3 n4 by
     have:=b.o;unfold q7 at this ⊢;rw[QT R.o];exact this)
    go_wp2
    go_meet
    exact⟨s1,n1,l,q,p⟩
   have i:=q.o.box.cell 0;have u:=b.o.xp.cell 0;simp only[aP,aQ]at i u;have s:n1<=26:=by
    have:=b.o.r.o1.len;have:=(uX log k k k k 0).1;omega
   go_wp2_with (at_builtin;refine gJ rfl _ _ rfl rfl rfl rfl b.o.r.o1 b.o.xp.lt s ?_;intro v8 N d a g;obtain⟨m,o,rfl,_⟩:=d.sl (by omega);have l:=aA (b.o.app1 d a g);have C:=aA (q.o.app1 a g);have B:=aA (uY (v:=.slice m (n1+1) o) (j:=0) p.o p.o.size b.o.r.o1 a);have fz:=(b.o.xp.grown a (eT b.o.r.o1 (jN _))).frozen 0;have O:=(b.o.xp.grown a (eT b.o.r.o1 (jN _))).cell 0;simp only[aP,aQ]at O;clear d a g i u)
   have P:=aA (show VSt (N.setCell w0 (.slice m (n1+1) o)) w.heap.size w0 (.slice A n c) (q7 log (k+1) k k k 0) (.slice m (n1+1) o) s2 s3 s4 (n1+1) n2 n3 n4 by
    have:=l.o;unfold q7 at this ⊢;rw[J5 R.o];exact this)
   go_meet
   exact⟨.slice m (n1+1) o,n1+1,P,C,B⟩
  case rest =>
  clear b q p;obtain⟨s1,n1,V,I,D⟩:=hcut;have DL:=aA D.o.size;have r:=aA (t.o.trans (D.o.mono t.o.size));have i:=I.o.box.cell 0;simp only[aP,aQ]at i;obtain⟨b2,a1⟩:=aK (log.any (p3 ((k:Int)+1)));have S:=aA a1;clear a1;have C2:=aA (sM V.o.r.xl (Sl.keep cS.kept H.o r.o) (Y7 I.o.box));rw[S.o]at C2;go_upto_if 31 with(refine C2.o.mono ?_;rintro e M ⟨rfl,f⟩;have b:=aA (V.o.keep f);have q:=aA (I.o.keep f);have p:=aA (D.o.trans (f.mono DL.o));clear f)
  clear i V I D r DL C2;go_cut [] (λE=>∃(s2:Value) (n2:Nat),Hid (VSt E w.heap.size w0 (.slice A n c) (q7 log (k+1) (k+1) k k 0) s1 s2 s3 s4 n1 n2 n3 n4)/\Hid (IBx E w0 L ((k:Int)+1) s1 s2 s3 s4)/\Hid (Below w0 w0 E))
  case first =>
   cases b2
   .have l:=aA (show VSt M w.heap.size w0 (.slice A n c) (q7 log (k+1) (k+1) k k 0) s1 s2 s3 s4 n1 n2 n3 n4 by
     have:=b.o;unfold q7 at this ⊢;rw[QT S.o];exact this)
    go_wp2
    go_meet
    exact⟨s2,n2,l,q,p⟩
   have i:=q.o.box.cell 0;have u:=b.o.xp.cell 1;simp only[aP,aQ,cB]at i u;have s:n2<=26:=by
    have:=b.o.r.o2.len;have:=(uX log (k+1) k k k 0).2.1;omega
   go_wp2_with (at_builtin;refine gJ rfl _ _ rfl rfl rfl rfl b.o.r.o2 b.o.xp.lt s ?_;intro v8 N d a g;obtain⟨m,o,rfl,_⟩:=d.sl (by omega);have l:=aA (b.o.app2 d a g);have C:=aA (q.o.app2 a g);have B:=aA (uY (v:=.slice m (n2+1) o) (j:=1) p.o p.o.size b.o.r.o2 a);have fz:=(b.o.xp.grown a (eT b.o.r.o2 (jN _))).frozen 1;have O:=(b.o.xp.grown a (eT b.o.r.o2 (jN _))).cell 1;simp only[aP,aQ,cB]at O;clear d a g i u)
   have P:=aA (show VSt (N.setCell ⟨w0,1,none⟩ (.slice m (n2+1) o)) w.heap.size w0 (.slice A n c) (q7 log (k+1) (k+1) k k 0) s1 (.slice m (n2+1) o) s3 s4 n1 (n2+1) n3 n4 by
    have:=l.o;unfold q7 at this ⊢;rw[J5 S.o];exact this)
   go_meet
   exact⟨.slice m (n2+1) o,n2+1,P,C,B⟩
  case rest =>
  clear b q p;obtain⟨s2,n2,V,I,D⟩:=hcut;have DL:=aA D.o.size;have r:=aA (t.o.trans (D.o.mono t.o.size));have i:=I.o.box.cell 0;simp only[aP,aQ]at i;obtain⟨b3,a2⟩:=aK (log.any (p4 ((k:Int)+1)));have T:=aA a2;clear a2;have C3:=aA (sM V.o.r.xl (Sl.keep cS.kept H.o r.o) (Za I.o.box));rw[T.o]at C3;go_upto_if 40 with(refine C3.o.mono ?_;rintro e M ⟨rfl,f⟩;have b:=aA (V.o.keep f);have q:=aA (I.o.keep f);have p:=aA (D.o.trans (f.mono DL.o));clear f)
  clear i V I D r DL C3;go_cut [] (λE=>∃(s3:Value) (n3:Nat),Hid (VSt E w.heap.size w0 (.slice A n c) (q7 log (k+1) (k+1) (k+1) k 0) s1 s2 s3 s4 n1 n2 n3 n4)/\Hid (IBx E w0 L ((k:Int)+1) s1 s2 s3 s4)/\Hid (Below w0 w0 E))
  case first =>
   cases b3
   .have l:=aA (show VSt M w.heap.size w0 (.slice A n c) (q7 log (k+1) (k+1) (k+1) k 0) s1 s2 s3 s4 n1 n2 n3 n4 by
     have:=b.o;unfold q7 at this ⊢;rw[QT T.o];exact this)
    go_wp2
    go_meet
    exact⟨s3,n3,l,q,p⟩
   have i:=q.o.box.cell 0;have u:=b.o.xp.cell 2;simp only[aP,aQ,cB]at i u;have s:n3<=26:=by
    have:=b.o.r.o3.len;have:=(uX log (k+1) (k+1) k k 0).2.2.1;omega
   go_wp2_with (at_builtin;refine gJ rfl _ _ rfl rfl rfl rfl b.o.r.o3 b.o.xp.lt s ?_;intro v8 N d a g;obtain⟨m,o,rfl,_⟩:=d.sl (by omega);have l:=aA (b.o.app3 d a g);have C:=aA (q.o.app3 a g);have B:=aA (uY (v:=.slice m (n3+1) o) (j:=2) p.o p.o.size b.o.r.o3 a);have fz:=(b.o.xp.grown a (eT b.o.r.o3 (jN _))).frozen 2;have O:=(b.o.xp.grown a (eT b.o.r.o3 (jN _))).cell 2;simp only[aP,aQ,cB]at O;clear d a g i u)
   have P:=aA (show VSt (N.setCell ⟨w0,2,none⟩ (.slice m (n3+1) o)) w.heap.size w0 (.slice A n c) (q7 log (k+1) (k+1) (k+1) k 0) s1 s2 (.slice m (n3+1) o) s4 n1 n2 (n3+1) n4 by
    have:=l.o;unfold q7 at this ⊢;rw[J5 T.o];exact this)
   go_meet
   exact⟨.slice m (n3+1) o,n3+1,P,C,B⟩
  case rest =>
  clear b q p;obtain⟨s3,n3,V,I,D⟩:=hcut;have DL:=aA D.o.size;have r:=aA (t.o.trans (D.o.mono t.o.size));have i:=I.o.box.cell 0;simp only[aP,aQ]at i;have JN:=aA (V.o.new 1);have l:=aA (V.o.alloc (.cells #[(1:Int)] 3));have C:=aA (I.o.alloc (.cells #[(1:Int)] 3));have B:=aA (D.o.alloc D.o.size (.cells #[(1:Int)] 3));have NE:=aA (show L≠wc.heap.size from Nat.ne_of_lt I.o.box.lt);go_wp2
  clear i;generalize wc.alloc (.cells #[(1:Int)] 3)=wd at *
  clear V I D r DL;obtain⟨go,b0⟩:∃go:Nat,go=gk:=⟨_,rfl⟩;subst b0;go_loopg [8] 26 (λgj v wq=>∃(j bb:Nat) (s4:Value) (n4:Nat),j+gj=26/\v=.pointer bb/\Hid (VSt wq w.heap.size w0 (.slice A n c) (q7 log (k+1) (k+1) (k+1) k j) s1 s2 s3 s4 n1 n2 n3 n4)/\Hid (IBx wq w0 L ((k:Int)+1) s1 s2 s3 s4)/\Hid (IBx wq w0 bb ((j:Int)+1) s1 s2 s3 s4)/\Hid (Below w0 w0 wq))
  case atStart=>exact⟨0,wc.heap.size,s4,n4,by omega,rfl,l,C,JN,B⟩
  clear l C JN NE B;obtain⟨j,bb,s4,n4,hj,rfl,V,I,J,D⟩:=hrel;have DL:=aA D.o.size;have r:=aA (t.o.trans (D.o.mono t.o.size));have i:=I.o.box.cell 0;have K:=J.o.box.cell 0;simp only[aP,aQ]at i K;by_cases c0:j<26
  rotate_left
  .have b5:¬(j:Int)+1<=26:=by omega
   have Q:=a9.o;have VK:=aA (show VSt wr w.heap.size w0 (.slice A n c) (q7 log (k+1) (k+1) (k+1) (k+1) 0) s1 s2 s3 s4 n1 n2 n3 n4 by
    have:=V.o;obtain rfl:j=26:=by omega
    rw[QU]at this;exact this)
   have C:=aA (VK.o.new (((k+1:Nat):Int)+1));have l:=aA (VK.o.alloc (.cells #[.int .i64 (((k+1:Nat):Int)+1)] 3));have B:=aA (D.o.alloc D.o.size (.cells #[.int .i64 (((k+1:Nat):Int)+1)] 3));go_wp2
   go_roundg (go-1)
   case measure=>omega
   exact⟨k+1,wr.heap.size,s1,s2,s3,s4,n1,n2,n3,n4,by omega,rfl,l,C,B⟩
  have b5:(j:Int)+1<=26:=by omega
  have a3:=aA (show IntKind.i64.wrap ((j:Int)+1+1)=((j+1:Nat):Int)+1 by simp[IntKind.wrap,IntKind.bits,IntKind.signed];omega);obtain⟨b4,a4⟩:=aK (log.any (p5 ((k:Int)+1) ((j:Int)+1)));have U:=aA a4;clear a4;have C4:=aA (sM V.o.r.xl (Sl.keep cS.kept H.o r.o) (Zb I.o.box J.o.box));rw[U.o]at C4;go_upto_if 53 with(refine C4.o.mono ?_;rintro e M ⟨rfl,f⟩;have b:=aA (V.o.keep f);have q:=aA (I.o.keep f);have JX:=aA (J.o.keep f);have p:=aA (D.o.trans (f.mono DL.o));clear f)
  clear i K V I J D r DL C4;cases b4
  .have l:=aA (show VSt M w.heap.size w0 (.slice A n c) (q7 log (k+1) (k+1) (k+1) k (j+1)) s1 s2 s3 s4 n1 n2 n3 n4 by
    have:=b.o;unfold q7 at this ⊢;rw[Wy U.o];exact this)
   have K:=JX.o.box.cell 0;simp only[aP,aQ]at K;have b6:=a3.o;have W:=aA (l.o.new (((j+1:Nat):Int)+1));have X:=aA (l.o.alloc (.cells #[.int .i64 (((j+1:Nat):Int)+1)] 3));have Y:=aA (q.o.alloc (.cells #[.int .i64 (((j+1:Nat):Int)+1)] 3));have Z:=aA (p.o.alloc p.o.size (.cells #[.int .i64 (((j+1:Nat):Int)+1)] 3));go_wp2
   go_roundg (gk-1)
   case measure=>omega
   exact⟨j+1,M.heap.size,s4,n4,by omega,rfl,X,Y,W,Z⟩
  have i:=q.o.box.cell 0;have K:=JX.o.box.cell 0;have u:=b.o.xp.cell 3;simp only[aP,aQ,cB]at i K u;have s:n4<=1000:=by
   have:=b.o.r.o4.len;have:=(uX log (k+1) (k+1) (k+1) k j).2.2.2;omega
  go_upto_region 20 with(at_builtin;refine yC rfl _ _ rfl rfl rfl rfl b.o.r.o4 b.o.xp.lt s ?_;intro v8 N d a g;obtain⟨m,o,rfl,_⟩:=d.sl (by omega);have l:=aA (b.o.app4 d a);have C:=aA (q.o.app4 a g);have JN:=aA (JX.o.app4 a g);have B:=aA (uY (v:=.slice m (n4+1) o) (j:=3) p.o p.o.size b.o.r.o4 a);have fz:=(b.o.xp.grown a (eT b.o.r.o4 (jN _))).frozen 3;have O:=(b.o.xp.grown a (eT b.o.r.o4 (jN _))).cell 3;simp only[aP,aQ,cB]at O;clear d a g i K u)
  clear fz O;have P:=aA (show VSt (N.setCell ⟨w0,3,none⟩ (.slice m (n4+1) o)) w.heap.size w0 (.slice A n c) (q7 log (k+1) (k+1) (k+1) k (j+1)) s1 s2 s3 (.slice m (n4+1) o) n1 n2 n3 (n4+1) by
   have:=l.o;unfold q7 at this ⊢;rw[Uw U.o,<-nC];exact this)
  generalize N.setCell ⟨w0,3,none⟩ (.slice m (n4+1) o)=w9 at *
  have K:=JN.o.box.cell 0;simp only[aP,aQ]at K;have b6:=a3.o;have W:=aA (P.o.new (((j+1:Nat):Int)+1));have X:=aA (P.o.alloc (.cells #[.int .i64 (((j+1:Nat):Int)+1)] 3));have Y:=aA (C.o.alloc (.cells #[.int .i64 (((j+1:Nat):Int)+1)] 3));have Z:=aA (B.o.alloc B.o.size (.cells #[.int .i64 (((j+1:Nat):Int)+1)] 3));go_wp2
  go_roundg (gk-1)
  case measure=>omega
  exact⟨j+1,w9.heap.size,.slice m (n4+1) o,n4+1,by omega,rfl,X,Y,W,Z⟩
 .have c5:(z==0)=false:=by simpa using h0
  have x0:=F.o.cell 0;have x1:=F.o.cell 1;have x2:=F.o.cell 2;have x3:=F.o.cell 3;have f0:=F.o.frozen 0;have f1:=F.o.frozen 1;have f2:=F.o.frozen 2;have f3:=F.o.frozen 3;simp only[aP,aQ,cB]at x0 x1 x2 x3;have NO:=aA (OfP.no HZ.o h0);have G:=aA (F.o.laid () () () ());have EE:=aA (sL t.o (Nat.le_succ _) () () () ());go_wp2
  clear x0 x1 x2 x3 f0 f1 f2 f3;have e0:=G.o.cell 0;have e1:=G.o.cell 1;have e2:=G.o.cell 2;have e3:=G.o.cell 3;simp only[aP,aQ,cB,lay4]at e0 e1 e2 e3;refine aU (v:=.tuple #[.agg #[(),(),(),()],.int .i64 z]) (by simp[results,Tryz.results88,go_sem,e0,e1,e2,e3]) rfl ?_;exact⟨zG,z,none,none,none,none,0,0,0,0,0,0,0,0,NO.o,rfl,Sl.nil0,Sl.nil0,Sl.nil0,Sl.nil0,EE.o⟩
def Ox {α:Type} {R:World->(Nat->Value)->α->Prop} {t e size d:Nat} (T:sT t e size d) (G:Qi R size) {w:World} {B:Nat} {v:Value} {n m c:Nat} {A:OAd} {xs ys:List α} (ty:TypeId) (own:aJ R size w B e v n xs) (src:Sl R size w A m c ys) (r:B<=w.heap.size) (s:n+m<=281474976710656) (u:(n+m)*d<=140737488355328)
  (g:∀w',w.grownBy w' v.ownBlock->∀vs y,R w vs y->R w' vs y) :
  ∃v' w',(Builtin.append_ #[t,t] ty #[v,.slice A m c]).run Tryz.prog w=.ok v' w'/\aJ R size w' B e v' (n+m) (xs++ys)/\w.grownBy w' v.ownBlock/\(v'.ownBlock=v.ownBlock∨v'.ownBlock=some w):=by
 obtain⟨i,z,j,C,D,E,F⟩:=T.info;obtain⟨f,h,k,l⟩:=own;cases hA:A with
 | none =>
  subst hA;have H:=src.nul rfl;have I:m=0:=by have:=src.le;omega
  subst H I;have J:=dS src.len;subst J;refine⟨v,w,run_append_owned_none (P:=Tryz.prog) (w:=w) B t ty e i size T.und j v n _ h,⟨f,by simpa using h,by simpa using k,by simpa using l⟩,gU _ _,.inl rfl⟩
 | some o =>
  subst hA;obtain⟨ds,K,V,L,M,N⟩:=Sl.flat G src;obtain⟨v',w',O,Q,p,_,S⟩:=run_append_own_at (P:=Tryz.prog) w B t ty e i z size d T.und j C D E F T.pos v n f h o m c ds K (L o rfl) M (by simp only[maxLen];omega) u r;have q:=k.append N;exact⟨v',w',O,⟨_,Q,⟨q.1,λi x U=>by obtain⟨vs,a,b⟩:=q.2 i x U;exact⟨vs,a,g _ p _ _ b⟩⟩,by rw[bL,l,src.len]⟩,p,S⟩
def fW {α:Type} {R:World->(Nat->Value)->α->Prop} {t e size b:Nat} (T:sT t e size b) (G:Qi R size) {ops:Array Oper} {o:Oper} {a:Act} {K:Act->World->Prop} {Q:Exit->Act->World->Prop} {E:Prop} (g:o.guard=none) (s x:Operand)
  (q:o.op=.call {callee:=.builtin .append,args:=#[s,x],argTypes:=#[t,t]})
  {w0 w:World} {B i:Nat} {v:Value} {n m c:Nat} {A:OAd} {xs ys:List α} (r:a.eval s=v) (u:a.eval x=.slice A m c) (own:aJ R size w B e v n xs) (src:Sl R size w A m c ys) (l:B<=w.heap.size) (j:n+m<=281474976710656) (z:(n+m)*b<=140737488355328)
  (d:∀w',w.grownBy w' v.ownBlock->∀vs y,R w vs y->R w' vs y) (C:Below i w0 w) (f:i<=B)
  (hK:∀v' w',aJ R size w' B e v' (n+m) (xs++ys)->w.grownBy w' v.ownBlock->Below i w0 w'->(v'.ownBlock=v.ownBlock∨v'.ownBlock=some w)->K (a.put o.dst v') w') :
  if Region.wanted o (yielded ops a.tmps)=true then Oper.wp Tryz.prog o a w K Q else E:=by
 rw[aG (by simp[Region.wanted,g])];obtain⟨v',w',D,F,p,H⟩:=Ox T G o.type own src l j z d;have h:=hK v' w' F p (C.grown p (aT f l) (λk I=>aT f (own.lt k I).1)) H;unfold Oper.wp execOp;simp only[q,resolve,invoke,builtin,Sem.run_bind,Sem.run_pure,Result.andThen_ok,List.map_toArray,kZ,lA,r,u,D];exact h
