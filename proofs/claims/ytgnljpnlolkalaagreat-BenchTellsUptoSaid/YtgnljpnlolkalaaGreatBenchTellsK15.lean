/- What can be reached in a finite graph: by looking deeper and deeper, each node once; in plain Lean. Conditions: none. | What chapter 8 says of a net that goes from one place to another, in plain Lean: places and transitions behind a place, round by round, and by looking deeper. Conditions: none. | m -/
import Derived.Test.YtgnljpnlolkalaaGreatBenchTellsK14
import Derived.Laws.EntriesVeiled
set_option linter.all false
set_option maxRecDepth 100000
set_option maxHeartbeats 4000000
namespace Go.Proofs.YtgnljpnlolkalaaGreat
section
variable {α:Type} [DecidableEq α]
def vI:∀(l all:List α),l.Nodup->(∀x∈l,x∈all)->l.length<=all.length
 | [],_,_,_=>by simp
 | a::l,all,d,f=>by
  have g:a∈all:=f a (by simp);have c:a∉l:=(kC.1 d).1;have:=vI l (all.erase a) (kC.1 d).2 (λx h=>(List.mem_erase_of_ne (a:=x) (b:=a) (by intro e;subst e;exact c h)).2 (f x (by simp[h])));rw[List.length_erase_of_mem g]at this;have:0<all.length:=oL g;simp only[bP];omega
def wR {l all:List α}(b:l.Nodup)(c:∀x∈l,x∈all)(e:all.length<=l.length){x:α}(d:x∈all):x∈l:=by
 by_cases h:x∈l
 .exact h
 exfalso
 have:=vI (x::l) all (kC.2 ⟨h,b⟩) (λy a=>by
  rcases a7.1 a with rfl|a
  .exact d
  exact c y a)
 simp only[bP]at this;omega
inductive kV (s:α->List α):α->α->Prop
 | refl (x:α):kV s x x
 | step {x y z:α} (h:y∈s x) (g:kV s y z):kV s x z
omit [DecidableEq α] in
def kV.last {s:α->List α}{x y z:α}(h:kV s x y)(g:z∈s y):kV s x z:=by
 induction h with
 | refl x=>exact .step g (.refl _)
 | step a _ b=>exact .step a (b g)
omit [DecidableEq α] in
def kV.closed {s:α->List α}{R:List α}(c:∀y∈R,∀z∈s y,z∈R){x y:α}(h:kV s x y)(b:x∈R):y∈R:=by
 induction h with
 | refl x=>exact b
 | step a _ d=>exact d (c _ b _ a)
omit [DecidableEq α] in
def kV.closedP {s:α->List α}{R:α->Prop}(c:∀y,R y->∀z∈s y,R z){x y:α}(h:kV s x y)(b:R x):R y:=by
 induction h with
 | refl x=>exact b
 | step a _ d=>exact d (c _ b _ a)
def dfs (s:α->List α):Nat->List α->α->List α
 | 0,had,_=>had
 | f+1,had,x=>if x∈had then had else(s x).foldl (dfs s f) (x::had)
structure Had (all had:List α):Prop where
 nodup:had.Nodup
 sub:∀x∈had,x∈all
structure Xb (s:α->List α)(all had R:List α)(src:α->Prop):Prop where
 good:Had all R
 more:∀x∈had,x∈R
 seen:∀y∈R,y∈had∨∀z∈s y,z∈R
 from_:∀y∈R,y∈had∨∃x,src x/\kV s x y
 len:had.length<=R.length
def Gg {s:α->List α}{all:List α}{f:Nat}(j:∀(had:List α) (x:α),Had all had->x∈all->all.length<=had.length+f->Xb s all had (dfs s f had x) (.=x)/\x∈dfs s f had x) :
  ∀(L b:List α),(∀z∈L,z∈all)->Had all b->all.length<=b.length+f->Xb s all b (L.foldl (dfs s f) b) (.∈L)/\∀z∈L,z∈L.foldl (dfs s f) b
 | [],b,_,e,_=>⟨⟨e,λ_ h=>h,λy h=>.inl h,λy h=>.inl h,aB _⟩,λz h=>by simp at h⟩
 | a::L,b,k,e,l=>by
  obtain⟨F,m⟩:=j b a e (k a (by simp)) l;obtain⟨G,n⟩:=Gg j L (dfs s f b a) (λz h=>k z (by simp[h])) F.good (by have:=F.len;omega);refine⟨⟨G.good,λx h=>G.more x (F.more x h),λy h=>?_,λy h=>?_,aT F.len G.len⟩,λz h=>?_⟩
  .rcases G.seen y h with c|c
   .rcases F.seen y c with d|d
    .exact .inl d
    exact .inr λz g=>G.more z (d z g)
   exact .inr c
  .rcases G.from_ y h with c|⟨x,c,d⟩
   .rcases F.from_ y c with i|⟨x,i,o⟩
    .exact .inl i
    exact .inr ⟨x,by simp[i],o⟩
   exact .inr ⟨x,by simp[c],d⟩
  rcases a7.1 h with rfl|h
  .exact G.more _ m
  exact n z h
def Iy {s:α->List α}{all:List α}(g:∀x∈all,∀y∈s x,y∈all):∀(f:Nat) (had:List α) (x:α),Had all had->x∈all->all.length<=had.length+f ->
  Xb s all had (dfs s f had x) (.=x)/\x∈dfs s f had x:=by
 intro f;induction f with
 | zero =>
  intro had x c d i;have:x∈had:=wR c.nodup c.sub (by omega) d;exact⟨⟨c,λ_ h=>h,λy h=>.inl h,λy h=>.inl h,aB _⟩,this⟩
 | succ f j =>
  intro had x c d i;unfold dfs;by_cases h:x∈had
  .rw[aG h];exact⟨⟨c,λ_ h=>h,λy h=>.inl h,λy h=>.inl h,aB _⟩,h⟩
  rw[aD h];have e:Had all (x::had):=⟨kC.2 ⟨h,c.nodup⟩,λy b=>by
   rcases a7.1 b with rfl|b
   .exact d
   exact c.sub y b⟩
  obtain⟨F,k⟩:=Gg j (s x) (x::had) (g x d) e (by simp only[bP];omega);refine⟨⟨F.good,λy b=>F.more y (by simp[b]),λy b=>?_,λy b=>?_, ?_⟩,F.more x (by simp)⟩
  .rcases F.seen y b with a|a
   .rcases a7.1 a with rfl|a
    .exact .inr k
    exact .inl a
   exact .inr a
  .rcases F.from_ y b with a|⟨z,a,l⟩
   .rcases a7.1 a with rfl|a
    .exact .inr ⟨_,rfl,.refl _⟩
    exact .inl a
   exact .inr ⟨x,rfl,.step a l⟩
  have:=F.len;simp only[bP]at this;omega
def Rr {s:α->List α}{all:List α}(c:∀x∈all,∀y∈s x,y∈all)(x:α)(d:x∈all)(f:Nat)(e:all.length<=f) :
  Had all (dfs s f [] x)/\∀y,y∈dfs s f [] x↔kV s x y:=by
 obtain⟨F,h⟩:=Iy c f [] x ⟨List.nodup_nil,λx h=>by simp at h⟩ d (by simpa using e);refine⟨F.good,λy=>⟨λa=>?_,λa=>?_⟩⟩
 .rcases F.from_ y a with b|⟨z,rfl,g⟩
  .simp at b
  exact g
 .refine a.closed (λy a z i=>?_) h;rcases F.seen y a with b|b
  .simp at b
  exact b z i
def Xd {s:α->List α}{all:List α}(d:∀x∈all,∀y∈s x,y∈all)(e:all.Nodup)(x:α)(g:x∈all)(f:Nat)(i:all.length<=f) :
  all.length<=(dfs s f [] x).length↔∀y∈all,kV s x y:=by
 obtain⟨b,c⟩:=Rr d x g f i;refine⟨λj y a=>(c y).1 (wR b.nodup b.sub j a),λh=>vI _ _ e (λy a=>(c y).2 (h y a))⟩
end
end Go.Proofs.YtgnljpnlolkalaaGreat
namespace Go.Proofs.YtgnljpnlolkalaaGreat
def Nq (xs:LIn)(j:Nat):List Nat:=(List.range j).filter λp=>decide (0<atL xs p)
def Iz (xs:LIn)(j:Nat):Nq xs (j+1)=Nq xs j++(if 0<atL xs j then [j]else []):=by
 unfold Nq;rw[eF,dP];congr 1
 by_cases h:0<atL xs j <;> simp[h]
def Nr (ts:List bG)(p j:Nat):List Nat:=(List.range j).filter λk=>decide (0<atL ((ts[k]?).getD ⟨0,[],[]⟩).pre p)
def Rt (ts:List bG)(p j:Nat){t:bG}(h:ts[j]?=some t):Nr ts p (j+1)=Nr ts p j++(if 0<atL t.pre p then [j]else []):=by
 unfold Nr;rw[eF,dP];congr 1
 by_cases a:0<atL t.pre p <;> simp[h,a]
abbrev fJ:=Bool×Nat
def jK (N:eB):fJ->List fJ
 |(true,k)=>match N.trans[k]? with
  | none=>[]
  | some t=>(Nq t.post t.post.length).map λp=>(false,p)
 |(false,p)=>(Nr N.trans p N.trans.length).map λk=>(true,k)
def kW (N:eB):List fJ:=(List.range N.places.toNat).map (λp=>(false,p))++(List.range N.trans.length).map λk=>(true,k)
def lJ (N:eB):(kW N).length=N.places.toNat+N.trans.length:=by simp[kW]
def dK {N:eB}{p:Nat}:((false,p):fJ)∈kW N↔p<N.places.toNat:=by simp[kW]
def eV {N:eB}{k:Nat}:((true,k):fJ)∈kW N↔k<N.trans.length:=by simp[kW]
def Kx (N:eB):(kW N).Nodup:=by
 unfold kW;rw[nB];refine⟨?_, ?_, ?_⟩
 .exact List.Pairwise.map _ (λa b h e=>h (by simpa using e)) List.nodup_range
 .exact List.Pairwise.map _ (λa b h e=>h (by simpa using e)) List.nodup_range
 intro a c b d;simp only[bZ]at c d;obtain⟨p,_,rfl⟩:=c;obtain⟨k,_,rfl⟩:=d;simp
def xN {N:eB}(h:gV N=true):∀x∈kW N,∀y∈jK N x,y∈kW N:=by
 intro x d y a;rcases x with⟨b,k⟩
 cases b
 .simp only[jK,Nr,bZ,bR,bM]at a;obtain⟨j,⟨c,_⟩,rfl⟩:=a;exact eV.2 c
 simp only[jK]at a;cases ht:N.trans[k]? with
 | none=>rw[ht]at a;simp at a
 | some t =>
  rw[ht]at a;simp only[Nq,bZ,bR,bM]at a;obtain⟨j,⟨c,_⟩,rfl⟩:=a;refine dK.2 ?_;have:=(fK h ht).2.2.2.1;omega
structure j4 where
 ps:List Bool
 ts:List Bool
def orT (c:List Bool)(a:LIn)(b:Bool)(j:Nat):Bool:=b||(List.range j).any λp=>c.getD p false&&decide (0<atL a p)
def UR (c:List Bool)(a:LIn)(b:Bool)(j:Nat):orT c a b (j+1)=(orT c a b j||c.getD j false&&decide (0<atL a j)):=by
 unfold orT;rw[eF,List.any_append];simp[Bool.or_assoc]
def orP (c:List Bool)(b:Bool)(a:LIn)(j:Nat):List Bool:=(List.range c.length).map λp=>c.getD p false||(decide (p<j)&&(b&&decide (0<atL a p)))
def wS (c:List Bool)(b:Bool)(a:LIn)(j:Nat):(orP c b a j).length=c.length:=by simp[orP]
def Gh (c:List Bool)(b:Bool)(a:LIn)(j p:Nat)(h:p<c.length):(orP c b a j).getD p false=(c.getD p false||(decide (p<j)&&(b&&decide (0<atL a p)))):=by
 simp[orP,h]
def US (c:List Bool)(b:Bool)(a:LIn):orP c b a 0=c:=by
 apply iE
 intro i;by_cases d:i<c.length
 .simp[orP,d]
 simp[orP,d]
def UT (c:List Bool)(b:Bool)(a:LIn)(j:Nat)(h:j<c.length):(orP c b a j).set j ((orP c b a j).getD j false||b&&decide (0<atL a j))=orP c b a (j+1):=by
 apply iE
 intro i;by_cases e:i<c.length
 .rw[iG];by_cases d:j=i
  .subst d;rw[aG rfl,aG (by simpa [orP] using h),Gh _ _ _ _ _ h];simp[orP,h]
  rw[aD d];have:decide (i<j+1)=decide (i<j):=by by_cases f:i<j <;> simp[f] <;> omega
  simp[orP,e,this]
 rw[dC (by simp[orP];omega),dC (by simp[orP];omega)]
def Ns (t:bG)(k:Nat)(s:j4):j4:=⟨orP s.ps (orT s.ps t.pre (s.ts.getD k false) s.ps.length) t.post s.ps.length,s.ts.set k (orT s.ps t.pre (s.ts.getD k false) s.ps.length)⟩
def Ad (ts:List bG)(j:Nat)(s:j4):j4:=(List.range j).foldl (λs k=>Ns ((ts[k]?).getD ⟨0,[],[]⟩) k s) s
def Af (ts:List bG)(j:Nat)(s:j4){t:bG}(h:ts[j]?=some t):Ad ts (j+1) s=Ns t j (Ad ts j s):=by
 unfold Ad;rw[eF,fD];simp[h]
def rounds (ts:List bG):Nat->j4->j4
 | 0,s=>s
 | n+1,s=>Ad ts ts.length (rounds ts n s)
def lK (N:eB)(i:Nat):j4:=⟨(List.replicate N.places.toNat false).set i true,List.replicate N.trans.length false⟩
def mH (N:eB)(i:Nat):j4:=rounds N.trans (N.places.toNat+N.trans.length) (lK N i)
def j4.at (s:j4):fJ->Bool
 |(false,p)=>s.ps.getD p false
 |(true,k)=>s.ts.getD k false
def j4.le (s a:j4):Prop:=s.ps.length=a.ps.length/\s.ts.length=a.ts.length/\∀x,s.at x=true->a.at x=true
def j4.le.refl (s:j4):s.le s:=⟨rfl,rfl,λ_ h=>h⟩
def j4.le.trans {a b c:j4}(h:a.le b)(g:b.le c):a.le c:=⟨h.1.trans g.1,h.2.1.trans g.2.1,λx d=>g.2.2 x (h.2.2 x d)⟩
def j4.ext' {s c:j4}(d:s.ps.length=c.ps.length)(e:s.ts.length=c.ts.length)(h:∀x,s.at x=c.at x):s=c:=by
 rcases s with⟨j,ts⟩
 rcases c with⟨f,g⟩
 simp only at d e;congr 1
 .apply fP d
  intro i a b;have:=h (false,i);simpa [j4.at,a,b] using this
 apply fP e
 intro i a b;have:=h (true,i);simpa [j4.at,a,b] using this
def j4.le.antisymm {a b:j4}(h:a.le b)(g:b.le a):a=b:=by
 refine j4.ext' h.1 h.2.1 λx=>?_
 cases ha:a.at x with
 | true=>exact(h.2.2 x ha).symm
 | false =>
  cases hb:b.at x with
  | false=>rfl
  | true=>have:=g.2.2 x hb;rw[ha]at this;cases this
def Ru (t:bG)(k:Nat)(s:j4):s.le (Ns t k s):=by
 refine⟨by simp[Ns,wS],by simp[Ns],λx a=>?_⟩;rcases x with⟨b,p⟩
 cases b
 .simp only[j4.at]at a ⊢;have hp:p<s.ps.length:=by
   by_cases h:p<s.ps.length
   .exact h
   rw[cJ,dC (by omega)]at a;simp at a
  simp only[Ns];rw[Gh _ _ _ _ _ hp,a];rfl
 simp only[j4.at]at a ⊢;simp only[Ns];by_cases c:k=p
 .subst c;have d:k<s.ts.length:=by
   by_cases h:k<s.ts.length
   .exact h
   rw[cJ,dC (by omega)]at a;simp at a
  rw[cJ,eQ d,a];simp[orT]
 rw[cJ,eG c,<-cJ];exact a
def rY (ts:List bG)(s:j4):∀j,s.le (Ad ts j s)
 | 0=>j4.le.refl s
 | j+1=>by
  refine(rY ts s j).trans ?_;unfold Ad;rw[eF,fD];exact Ru _ _ _
def Nu (ts:List bG)(s:j4):∀{i j:Nat},i<=j->(Ad ts i s).le (Ad ts j s):=by
 intro i j h;induction h with
 | refl=>exact j4.le.refl _
 | @step m _ a =>
  refine a.trans ?_;conv=>rhs;unfold Ad
  rw[eF,fD];exact Ru _ _ _
def IB {N:eB}(n:gV N=true){s:j4}(hp:s.ps.length=N.places.toNat)(v:s.ts.length=N.trans.length)(o:Ad N.trans N.trans.length s=s) :
  ∀x,s.at x=true->∀y∈jK N x,s.at y=true:=by
 have a:∀j (t:bG),N.trans[j]?=some t->Ns t j s=s:=by
  intro j t l;have g:j<N.trans.length:=(aR.1 l).1;have a1:Ad N.trans j s=s:=by
   refine j4.le.antisymm ?_ (rY _ _ _);have:=Nu N.trans s (fR g);rwa[o]at this
  have a2:Ad N.trans (j+1) s=s:=by
   refine j4.le.antisymm ?_ (rY _ _ _);have:=Nu N.trans s (show j+1<=N.trans.length from g);rwa[o]at this
  rw[Af _ _ _ l,a1]at a2;exact a2
 intro x f y c;rcases x with⟨b,k⟩
 cases b
 .simp only[jK,Nr,bZ,bR,bM,bO]at c;obtain⟨j,⟨l,m⟩,rfl⟩:=c;have d:=aV l;rw[d]at m;have e:=aO j4.ts (a j _ d);simp only[Ns]at e;have q:s.ts.getD j false=orT s.ps N.trans[j].pre (s.ts.getD j false) s.ps.length:=by
   conv=>lhs;rw[<-e]
   rw[cJ,eQ (by omega)];rfl
  simp only[j4.at]at f ⊢;rw[q];unfold orT;have r:k<s.ps.length:=by
   by_cases h:k<s.ps.length
   .exact h
   rw[cJ,dC (by omega)]at f;simp at f
  simp only[l7,dO,bM,cA,bO];exact .inr ⟨k,r,f,m⟩
 .simp only[jK]at c;cases d:N.trans[k]? with
  | none=>rw[d]at c;simp at c
  | some t =>
   rw[d]at c;simp only[Nq,bZ,bR,bM,bO]at c;obtain⟨p,⟨u,m⟩,rfl⟩:=c;have i:p<s.ps.length:=by have:=(fK n d).2.2.2.1;omega
   have e:=aO j4.ps (a k t d);simp only[Ns]at e;simp only[j4.at]at f ⊢;rw[<-e,Gh _ _ _ _ _ i,f];simp[orT,m,i]
def Pq {N:eB}{Q:fJ->Prop}(i:∀x,Q x->∀y∈jK N x,Q y){k:Nat}{t:bG}(g:N.trans[k]?=some t)(q:t.post.length=N.places.toNat){s:j4}(hp:s.ps.length=N.places.toNat)(h:∀x,s.at x=true->Q x):∀x,(Ns t k s).at x=true->Q x:=by
 have j:orT s.ps t.pre (s.ts.getD k false) s.ps.length=true->Q (true,k):=by
  intro e;simp only[orT,l7,dO,bM,cA,bO]at e;rcases e with e|⟨p,c,l,m⟩
  .exact h (true,k) e
  refine i (false,p) (h (false,p) l) _ ?_;simp only[jK,Nr,bZ,bR,bM,bO];exact⟨k,⟨(aR.1 g).1,by rw[g];exact m⟩,rfl⟩
 intro x a;rcases x with⟨b,p⟩
 cases b
 .simp only[j4.at,Ns]at a;have c:p<s.ps.length:=by
   by_cases h:p<s.ps.length
   .exact h
   rw[cJ,dC (by rw[wS];omega)]at a;simp at a
  rw[Gh _ _ _ _ _ c]at a;simp only[l7,cA,bO]at a;rcases a with a|⟨_,n,o⟩
  .exact h (false,p) a
  refine i (true,k) (j n) _ ?_;simp only[jK,g,Nq,bZ,bR,bM,bO];exact⟨p,⟨by omega,o⟩,rfl⟩
 simp only[j4.at,Ns]at a;by_cases d:k=p
 .subst d;rw[cJ,iG]at a;by_cases f:k<s.ts.length
  .rw[aG rfl,aG f]at a;exact j a
  rw[aG rfl,aD f]at a;simp at a
 rw[cJ,eG d,<-cJ]at a;exact h (true,p) a
def DU {N:eB}(a:gV N=true){Q:fJ->Prop}(c:∀x,Q x->∀y∈jK N x,Q y){s:j4}(hp:s.ps.length=N.places.toNat)(h:∀x,s.at x=true->Q x):∀j,j<=N.trans.length->∀x,(Ad N.trans j s).at x=true->Q x
 | 0,_=>h
 | j+1,d=>by
  have b:=aV (show j<N.trans.length by omega);rw[Af _ _ _ b];exact Pq c b (by have:=(fK a b).2.2.2.1;omega) (by rw[<-(rY N.trans s j).1];exact hp) (DU a c hp h j (by omega))
def j4.cnt (s:j4)(N:eB):Nat:=((kW N).filter s.at).length
def ID {α:Type}{p q:α->Bool}(h:∀x,p x=true->q x=true):∀l:List α,(l.filter p).length<=(l.filter q).length
 | []=>by simp
 | a::l=>by
  have:=ID h l;cases hp:p a with
  | true=>rw[pT hp,pT (h a hp)];simp;omega
  | false =>
   rw[List.filter_cons_of_neg (by simp[hp])];cases hq:q a with
   | true=>rw[pT hq];simp;omega
   | false=>rw[List.filter_cons_of_neg (by simp[hq])];exact this
def IF {α:Type}{p q:α->Bool}(h:∀x,p x=true->q x=true):∀{l:List α} {a:α},a∈l->p a=false->q a=true->(l.filter p).length<(l.filter q).length
 | b::l,a,c,hp,d=>by
  rcases a7.1 c with rfl|c
  .rw[List.filter_cons_of_neg (by simp[hp]),pT d];have:=ID h l;simp;omega
  have:=IF h c hp d;cases hpb:p b with
  | true=>rw[pT hpb,pT (h b hpb)];simp;omega
  | false =>
   rw[List.filter_cons_of_neg (by simp[hpb])];cases hqb:q b with
   | true=>rw[pT hqb];simp;omega
   | false=>rw[List.filter_cons_of_neg (by simp[hqb])];exact this
def Yq {N:eB}{s:j4}(hp:s.ps.length=N.places.toNat)(c:s.ts.length=N.trans.length){x:fJ}(h:s.at x=true):x∈kW N:=by
 rcases x with⟨b,k⟩
 cases b
 .refine dK.2 ?_;by_cases a:k<s.ps.length
  .omega
  simp only[j4.at]at h;rw[cJ,dC (by omega)]at h;simp at h
 refine eV.2 ?_;by_cases a:k<s.ts.length
 .omega
 simp only[j4.at]at h;rw[cJ,dC (by omega)]at h;simp at h
def UV {N:eB}{s a:j4}(h:s.le a)(b:s≠a)(hp:a.ps.length=N.places.toNat)(d:a.ts.length=N.trans.length):s.cnt N<a.cnt N:=by
 have:∃x,a.at x=true/\s.at x=false:=by
  refine eO λe=>b (h.antisymm ⟨h.1.symm,h.2.1.symm,λx f=>?_⟩)
  cases hs:s.at x with
  | true=>rfl
  | false=>exact absurd ⟨x,f,hs⟩ e
 obtain⟨x,c,g⟩:=this;exact IF h.2.2 (Yq hp d c) g c
def gY (ts:List bG)(s:j4):∀n,(rounds ts n s).ps.length=s.ps.length/\(rounds ts n s).ts.length=s.ts.length
 | 0=>⟨rfl,rfl⟩
 | n+1=>by
  have:=rY ts (rounds ts n s) ts.length;exact⟨this.1.symm.trans (gY ts s n).1,this.2.1.symm.trans (gY ts s n).2⟩
def Ag (N:eB){s:j4}(hp:s.ps.length=N.places.toNat)(b:s.ts.length=N.trans.length):∀n,Ad N.trans N.trans.length (rounds N.trans n s)=rounds N.trans n s∨n+s.cnt N<=(rounds N.trans n s).cnt N
 | 0=>.inr (by simp[rounds])
 | n+1=>by
  rcases Ag N hp b n with h|h
  .left;rw[rounds,h,h]
  by_cases e:Ad N.trans N.trans.length (rounds N.trans n s)=rounds N.trans n s
  .left;rw[rounds,e,e]
  right
  have a:=gY N.trans s (n+1);have:=UV (N:=N) (rY N.trans (rounds N.trans n s) N.trans.length) (λh=>e h.symm) (by rw[rounds]at a;omega) (by rw[rounds]at a;omega);rw[rounds];omega
def Ky {N:eB}(d:gV N=true){i:Nat}(j:i<N.places.toNat)(x:fJ):(mH N i).at x=true↔kV (jK N) (false,i) x:=by
 have l:(lK N i).ps.length=N.places.toNat:=by simp[lK]
 have m:(lK N i).ts.length=N.trans.length:=by simp[lK]
 have a0:(lK N i).at (false,i)=true:=by simp[lK,j4.at,j]
 have p:0<(lK N i).cnt N:=oL (bR.2 ⟨dK.2 j,a0⟩);have q:=gY N.trans (lK N i) (N.places.toNat+N.trans.length);have c:Ad N.trans N.trans.length (mH N i)=mH N i:=by
  rcases Ag N l m (N.places.toNat+N.trans.length)with h|h
  .exact h
  exfalso
  have:(rounds N.trans (N.places.toNat+N.trans.length) (lK N i)).cnt N<=N.places.toNat+N.trans.length:=by
   rw[<-lJ];exact fC _ _
  omega
 have f:∀n,(lK N i).le (rounds N.trans n (lK N i)):=by
  intro n;induction n with
  | zero=>exact j4.le.refl _
  | succ n g=>exact g.trans (rY _ _ _)
 constructor
 rotate_left
 .intro h;exact h.closedP (R:=λx=>(mH N i).at x=true) (IB d (by rw[mH];omega) (by rw[mH];omega) c) ((f _).2.2 _ a0)
 intro h;have sound:∀n,∀x,(rounds N.trans n (lK N i)).at x=true->kV (jK N) (false,i) x:=by
  intro n;induction n with
  | zero =>
   intro x a;rcases x with⟨b,k⟩
   cases b
   .have:k=i:=by
     simp only[rounds,lK,j4.at,cJ,iG]at a;by_cases e:i=k
     .exact e.symm
     rw[aD e,uI]at a;split at a <;> simp at a
    subst this;exact .refl _
   simp only[rounds,lK,j4.at,cJ,uI]at a;split at a <;> simp at a
  | succ n g =>
   exact DU d (Q:=kV (jK N) (false,i)) (λx a y o=>a.last o) (by have:=gY N.trans (lK N i) n;omega) g _ (aB _)
 exact sound _ x h
def kX (N:eB)(i:Nat):Bool:=(mH N i).ps.all id&&(mH N i).ts.all id
def Kz {N:eB}(a:gV N=true){i:Nat}(e:i<N.places.toNat):kX N i=true↔∀x∈kW N,kV (jK N) (false,i) x:=by
 have f:=gY N.trans (lK N i) (N.places.toNat+N.trans.length);have l:(mH N i).ps.length=N.places.toNat:=by rw[mH,f.1];simp[lK]
 have m:(mH N i).ts.length=N.trans.length:=by rw[mH,f.2];simp[lK]
 unfold kX;simp only[cA,kY,id_eq];constructor
 .rintro⟨g,j⟩ x c;refine(Ky a e x).1 ?_;rcases x with⟨b,k⟩
  cases b
  .have d:=dK.1 c;simp only[j4.at];rw[cJ,aV (by omega)];exact g _ (j5 _)
  have d:=eV.1 c;simp only[j4.at];rw[cJ,aV (by omega)];exact j _ (j5 _)
 intro h;refine⟨λx c=>?_,λx c=>?_⟩
 .obtain⟨k,d,rfl⟩:=hZ c;have:=(Ky a e (false,k)).2 (h _ (dK.2 (by omega)));simpa [j4.at,d] using this
 obtain⟨k,d,rfl⟩:=hZ c;have:=(Ky a e (true,k)).2 (h _ (eV.2 (by omega)));simpa [j4.at,d] using this
def UW (N:eB)(i:Nat):List fJ:=dfs (jK N) (N.places.toNat+N.trans.length) [] (false,i)
def IJ {N:eB}(a:gV N=true){i:Nat}(b:i<N.places.toNat):N.places.toNat+N.trans.length<=(UW N i).length↔kX N i=true:=by
 rw[Kz a b,<-Xd (xN a) (Kx N) (false,i) (dK.2 b) _ (Nat.le_of_eq (lJ N)),lJ];rfl
def wT (i o:Nat)(t:bG):Bool:=decide (0<atL t.post i)||decide (0<atL t.pre o)
def inB (N:eB)(i o:Int):Bool:=decide (0<=i)&&decide (0<=o)&&decide (i<N.places)&&decide (o<N.places)&&decide (i≠o)
def eE (N:eB)(i o:Int):Int :=
 if gV N=true then(if inB N i o=true then(if N.trans.any (wT i.toNat o.toNat)=true then 1 else if kX N i.toNat=true/\kX (lW N) o.toNat=true then 0 else 1)else 1)else 2
end Go.Proofs.YtgnljpnlolkalaaGreat
namespace Go.Proofs.YtgnljpnlolkalaaGreat
open Go.RowKit Go.Maps Go.MapKept Go.ChangeMaps Go.WideElems Go.ChangeShapes
def DY {P:Program} {ops:Array Oper} {Q:Exit->Act->World->Prop} {S:World->Prop} {T:Scr} (a:Scr) {a0:Act} {w0:World} (F:Act->Act->World->Prop) (hF:∀b w',F a0 b w'->S w'->fH P ops Q S a b w')
  (h:Hid (∀b w',F a0 b w'->S w'->fH P ops Q S a b w')->fH P ops Q S T a0 w0):fH P ops Q S T a0 w0:=h hF
def VY {P:Program} {ops:Array Oper} {Q:Exit->Act->World->Prop} {S:World->Prop} {i:Nat} {r:Scr} {a:Act} {w:World} {o:Oper} (b:nth ops.toList i=some o) (c:Region.wanted o (yielded ops a.tmps)=false) (d:S w)
  (h:fH P ops Q S r (a.put o.dst undef) w):fH P ops Q S (.take i r) a w :=
 ⟨o,undef,kF b,.inr ⟨c,rfl⟩,d,h⟩
section
variable {H:Type} {P:Program} {k t e:TypeId} {R:Value->Option (DataW H×List MemPlace)} {w:World} {b n:Nat} {D:DataW H}
def mT {es:Array MapEntry}{a:Nat}(c:w.heap[b]?=some (.map es a))(o:Obj):w.grownBy (setBlock w b o) (some b)/\(setBlock w b o).heap.size=w.heap.size :=
 ⟨⟨rfl,rfl,rfl,by simp[setBlock],λi _ d=>heap_setBlock_other c _ (λe=>d (by rw[e]))⟩,by simp[setBlock]⟩
def jQ {w':World}(h:w.ownsMap P k R b n D)(c:w'.heap[b]?=w.heap[b]?):w'.ownsMap P k R b n D:=by
 obtain⟨es,a,d,e,f,g⟩:=h;exact⟨es,a,c.trans d,e,f,g⟩
def Rw (h:w.ownsMap P k R b n D) (K:Keyed P k) (A:P.underlying t=some (.map k e)) (W:n<maxLen) {z:Value} (hz:∀u:World,(zeroValue e).run P u=.ok z u) {E:DataW H} {zp:List MemPlace} (X:R z=some (E,zp))
  {key:Value} {B:Lit} (g:keyOf P k key=some B) :
  ∃(v0:Value) (st:Nat) (w1:World),(Instr.mapEntry t (.map (some b)) key).run P w=.ok (.tuple #[v0,goInt st]) w1/\w.grownBy w1 (some b)/\w1.heap.size=w.heap.size /\
   (∃D1,w1.ownsMap P k R b (n+1) D1/\D1.atKey B E=D.atKey B E) /\
   ∀(p:World) (val:Value) (d:DataW H) (Y:List MemPlace),p.heap[b]?=w1.heap[b]?->R val=some (d,Y) ->
    ∃S,(Instr.entryStore t (.map (some b)) (goInt st) val).run P p=.ok () S/\S.ownsMap P k R b (n+1) (D.put B d)/\p.grownBy S (some b)/\S.heap.size=p.heap.size:=by
 have q:=h;obtain⟨es,f,o,F,hs,hD⟩:=h;obtain⟨s1,s2,_⟩:=F.stamped;have C:∀{p w':World} {G:Array MapEntry} {m:Nat} {d:DataW H},w'.ownsMap P k R b (n+1) (D.put B d)->w'=setBlock w b (.map G m)->(∃M c2,p.heap[b]?=some (.map M c2))->(setBlock p b (.map G m)).ownsMap P k R b (n+1) (D.put B d):=by
  rintro p w' G m d I rfl ⟨M,c2,v⟩;exact jQ I ((heap_setBlock_same v _).trans (heap_setBlock_same o _).symm)
 rcases K.find w g es.toList F.keys with⟨I,v⟩|⟨j,e0,I,v,T⟩
 .
  obtain⟨wz,U,z2,z3⟩:=q.update K A W g X;have V:∀val:Value,(Instr.mapUpdate t (.map (some b)) key val).run P w=.ok () (setBlock w b (.map (es.push ⟨key,val,f⟩) (f+1))):=λval=>by
   simp[Instr.mapUpdate,run_underlying A,oN o,K.check w false g,I,oO _ o,Result.andThen,setBlock]
  have Z:wz=setBlock w b (.map (es.push ⟨key,z,f⟩) (f+1)):=by
   rw[V z]at U;injection U with _ U;exact U.symm
  have N:D.atKey B E=E:=by
   rcases Maps.fit_look false K A (hz w) o F g with⟨_,_,a0⟩|⟨e1,y,a1,a2,_⟩
   .rw[hD];exact a0 E
   exact absurd a2 (v e1 a1)
  refine⟨z,f,wz, ?_,z3,by rw[Z];exact(mT o _).2,⟨D.put B E,z2, ?_⟩,λp val d Y J hv=>?_⟩
  .rw[Z];simp[Instr.mapEntry,run_underlying A,oN o,K.check w false g,I,hz,oO _ o,Result.andThen,setBlock]
  .rw[N,hD];exact Maps.atKey_put_same ⟨_,rfl⟩ (K.key g) _ _
  have i:p.heap[b]?=some (.map (es.push ⟨key,z,f⟩) (f+1)):=by rw[J,Z];exact heap_setBlock_same o _
  have r:(es.push ⟨key,z,f⟩).findIdx? (λe=>((e.born:Nat):Int)==((f:Nat):Int))=some es.size:=by
   rw[findIdx_arr];refine findIdx_born (l:=(es.push ⟨key,z,f⟩).toList) (j:=es.size) (e0:=⟨key,z,f⟩) ?_ (by simp);simp only[Array.toList_push,fB,kZ,lA];refine nB.2 ⟨s2,by simp,λa ha c hc e1=>?_⟩;simp only[bJ]at hc;obtain⟨x,hx,rfl⟩:=bZ.1 ha;have:=s1 x hx;omega
  have s:(es.push ⟨key,z,f⟩).modify es.size (λe=>{e with val:=val})=es.push ⟨key,val,f⟩:=by
   apply Array.ext'
   rw[Array.toList_modify,Array.toList_push,Array.toList_push,<-Array.length_toList,modify_last]
  obtain⟨wv,v1,v2,_⟩:=q.update K A W g hv;rw[V val]at v1;injection v1 with _ v1;refine⟨setBlock p b (.map (es.push ⟨key,val,f⟩) (f+1)), ?_,C v2 v1.symm ⟨_,_,i⟩,(mT i _).1,(mT i _).2⟩;simp[Instr.entryStore,oN i,asInt,asIntOf,goInt,r,s,oO _ i,Result.andThen,setBlock]
 .
  have hj:es[j]?=some e0:=by simpa using v
  have L:es.modify j (λe=>{e with key:=key})=es:=by
   apply Array.ext'
   rw[Array.toList_modify,modify_eq_set _ _ _ _ v];have:({e0 with key:=key}:MapEntry)=e0:=by rw[<-T]
   rw[this];exact set_self _ _ _ v
  have O:(setBlock w b (.map es f)).heap[b]?=some (.map es f):=heap_setBlock_same o _;refine⟨e0.val,e0.born,setBlock w b (.map es f), ?_,(mT o _).1,(mT o _).2,⟨D,(jQ q (O.trans o.symm)).mono (Nat.le_succ _),rfl⟩,λp val d Y J hv=>?_⟩
  .simp[Instr.mapEntry,run_underlying A,oN o,K.check w false g,I,hj,T,K.stays w g,L,oO _ o,Result.andThen,setBlock]
  have i:p.heap[b]?=some (.map es f):=J.trans O;have r:es.findIdx? (λe=>((e.born:Nat):Int)==((e0.born:Nat):Int))=some j:=by
   rw[findIdx_arr];exact findIdx_born s2 v
  have s:es.modify j (λe=>{e with val:=val})=es.modify j (λQ=>{Q with key:=key,val:=val}):=by
   apply Array.ext'
   rw[Array.toList_modify,Array.toList_modify,modify_eq_set _ _ _ _ v,modify_eq_set _ _ _ _ v,<-T]
  obtain⟨wv,v1,v2,_⟩:=q.update K A W g hv;have V:(Instr.mapUpdate t (.map (some b)) key val).run P w=.ok () (setBlock w b (.map (es.modify j (λQ=>{Q with key:=key,val:=val})) f)):=by
   simp[Instr.mapUpdate,run_underlying A,oN o,K.check w false g,I,hj,T,K.stays w g,oO _ o,Result.andThen,setBlock]
  rw[V]at v1;injection v1 with _ v1;refine⟨setBlock p b (.map (es.modify j (λQ=>{Q with key:=key,val:=val})) f), ?_,C v2 v1.symm ⟨_,_,i⟩,(mT i _).1,(mT i _).2⟩;simp[Instr.entryStore,oN i,asInt,asIntOf,goInt,r,s,oO _ i,Result.andThen,setBlock]
end
end Go.Proofs.YtgnljpnlolkalaaGreat
namespace Go.Proofs.YtgnljpnlolkalaaGreat
open Go.RowKit Go.Maps
def Ah (x:fJ):Value:=.agg #[.bool x.1,.int .i64 x.2]
def t7:Keyed Tryz.prog 190:=Keyed.of_law (deep_law_laid Facts.laidOut (m:=2) (by decide) (gR (by kernel_rfl)) (by kernel_rfl) (by kernel_rfl))
def KF:Tryz.prog.keyType 190=true:=by kernel_rfl
def IP:Tryz.prog.cellsOf 190=2:=by kernel_rfl
def Rx:Tryz.prog.cellsOf 4=1:=by kernel_rfl
def UX:Tryz.prog.cellsOf 3=1:=by kernel_rfl
def Gi (x:fJ):Lit:=.string (keyBytes [.bool x.1,.int .i64 (x.2:Int)])
def vJ (x:fJ)(h:x.2<=1000):keyOf Tryz.prog 190 (Ah x)=some (Gi x):=by
 have b:(Lit.int .i64 (x.2:Int)).wf=true:=jM (by omega);have a:∃m,Tryz.prog.types.size+1=m+2:=⟨Tryz.prog.types.size-1,by have:0<Tryz.prog.types.size:=gR (by kernel_rfl);omega⟩;obtain⟨m,c⟩:=a;unfold keyOf;rw[Tryz.underlying190];simp only[KF,Ah,Value.formed,Tryz.underlying190,IP,c];simp[Program.keyLits,Tryz.underlying190,IP,Rx,UX,Tryz.underlying4,Tryz.underlying3,b,Value.cells,Gi]
def Ry {x y:fJ}(a:x.2<=1000)(b:y.2<=1000)(h:Gi x=Gi y):x=y:=by
 have:=t7.inj (vJ x a) (by rw[h];exact vJ y b);simp only[Ah,Value.agg.injEq,Array.mk.injEq,List.cons.injEq,Value.bool.injEq,Value.int.injEq,true_and,and_true,Int.natCast_inj]at this;exact Prod.ext this.1 this.2
def t8 (w:World)(b:Nat)(had:List fJ):Prop :=
 ∃D:DataW Unit,w.ownsMap Tryz.prog 190 (plainElem Tryz.prog 3) b had.length D/\Maps.size D=had.length/\(∀x:fJ,x.2<=1000->x∈had->∀z,D.atKey (Gi x) z=.lit (.int .i64 1))/\(∀x:fJ,x.2<=1000->x∉had->Maps.has D (Gi x)=false)
def t8.made (w:World):t8 (w.alloc (.map #[] 0)) w [] :=
 ⟨.map [],World.ownsMap_made _ _ _ _,rfl,λx _ h=>by simp at h,λx _ _=>rfl⟩
def t8.of_block {w w':World}{b:Nat}{had:List fJ}(h:t8 w b had)(a:w'.heap[b]?=w.heap[b]?):t8 w' b had:=by
 obtain⟨D,c,d⟩:=h;exact⟨D,jQ c a,d⟩
def t8.lt {w:World}{b:Nat}{had:List fJ}(h:t8 w b had):b<w.heap.size:=by
 obtain⟨D,a,_⟩:=h;exact a.lt
def t8.alloc {w:World}{b:Nat}{had:List fJ}(h:t8 w b had)(o:Obj):t8 (w.alloc o) b had:=h.of_block (heap_alloc_old w o h.lt)
def t8.keep {w w':World}{b:Nat}{had:List fJ}(h:t8 w b had)(a:Below w w w'):t8 w' b had:=h.of_block (a.block b h.lt)
def KG (w:World):(zeroValue 3).run Tryz.prog w=.ok (.int .i64 0) w:=by kernel_rfl
def t8.look {w:World}{b:Nat}{had:List fJ}(h:t8 w b had)(x:fJ)(f:x.2<=1000) :
  (Instr.lookup 147 (.map (some b)) (Ah x) false).run Tryz.prog w=.ok (.int .i64 (if x∈had then 1 else 0)) w:=by
 obtain⟨D,g,k,i,j⟩:=h;obtain⟨c,d,a,_⟩:=g.lookup_int t7 Tryz.underlying147 Tryz.underlying3 (KG w) (vJ x f);rw[d];by_cases e:x∈had
 .rw[i x f e]at a;simp only[DataW.lit.injEq,Lit.int.injEq,true_and]at a;rw[aG e,<-a]
 .rw[Maps.atKey_of_not_has (j x f e)]at a;simp only[DataW.lit.injEq,Lit.int.injEq,true_and]at a;rw[aD e,<-a]
def t8.len {w:World}{b:Nat}{had:List fJ}(h:t8 w b had)(ty:TypeId):(Builtin.len_ #[147] ty #[.map (some b)]).run Tryz.prog w=.ok (.int .i64 had.length) w:=by
 obtain⟨D,a,c,_⟩:=h;rw[a.len Tryz.underlying147 ty,c]
def t8.entry {w:World}{b:Nat}{had:List fJ}(h:t8 w b had)(x:fJ)(k:x.2<=1000)(m:x∉had)(B:had.length<=1000) :
  ∃(v0:Value) (l:Nat) (w1:World),(Instr.mapEntry 147 (.map (some b)) (Ah x)).run Tryz.prog w=.ok (.tuple #[v0,l]) w1/\w.grownBy w1 (some b)/\w1.heap.size=w.heap.size /\
   (Instr.lookup 147 (.map (some b)) (Ah x) false).run Tryz.prog w1=.ok (.int .i64 0) w1 /\
   ∃i,(Instr.entryStore 147 (.map (some b)) l (.int .i64 1)).run Tryz.prog w1=.ok () i/\t8 i b (x::had)/\w1.grownBy i (some b)/\i.heap.size=w1.heap.size:=by
 obtain⟨D,n,r,s,o⟩:=h;have p:=vJ x k;have ne:∀y:fJ,y.2<=1000->y≠x->Gi y≠Gi x:=λy d a e=>a (Ry d k e)
 obtain⟨v0,l,w1,t,u,v,⟨C,A,a1⟩,q⟩:=Rw n t7 Tryz.underlying147 (by simp only[maxLen];omega) KG (plainElem_int Tryz.underlying3 (by decide)) p;obtain⟨c,j,f,_⟩:=A.lookup_int t7 Tryz.underlying147 Tryz.underlying3 (KG w1) p;rw[a1,Maps.atKey_of_not_has (o x k m)]at f;simp only[DataW.lit.injEq,Lit.int.injEq,true_and]at f;obtain⟨i,s1,s2,s3,s4⟩:=q w1 (.int .i64 1) (.lit (.int .i64 1)) [] rfl (plainElem_int Tryz.underlying3 (by decide));refine⟨v0,l,w1,t,u,v,by rw[j,<-f],i,s1,⟨D.put (Gi x) (.lit (.int .i64 1)),s2, ?_, ?_, ?_⟩,s3,s4⟩
 .rw[Maps.size_put (n.tidy t7),o x k m,r];rfl
 .intro y d g z;rcases a7.1 g with rfl|g
  .exact Maps.atKey_put_same (n.tidy t7).isMap (t7.key p) _ _
  have a:y≠x:=λe=>m (e▸g)
  rw[Maps.atKey_put_other (ne y d a)];exact s y d g z
 .intro y d g;have a:y≠x:=λe=>g (by rw[e];simp)
  rw[Maps.has_put_other (ne y d a)];exact o y d (λh=>g (by simp[h]))
abbrev Nv (bh bn bv:Nat):Value:=.func (.func 132) #[] #[.pointer (some ⟨bh,0,none⟩),.pointer (some ⟨bn,0,none⟩),.pointer (some ⟨bv,0,none⟩)]
def Rz (w:World)(row:Option Nat):w.grownBy w.drew row:=⟨rfl,rfl,rfl,aB _,λ_ _ _=>rfl⟩
def Xe {w w':World}(h:Below w w w')(row:Option Nat):w.grownBy w' row:=⟨h.os,h.tape,h.output,h.size,λk a _=>h.block k a⟩
def uA {N:eB}(a:gV N=true){x:fJ}(h:x∈kW N):x.2<=24:=by
 have c:=(bN N).1 a;rcases x with⟨b,k⟩
 cases b
 .have:=dK.1 h;simp only[];omega
 have:=eV.1 h;simp only[];omega
def RA {N:eB}(a:gV N=true):(kW N).length<=40:=by
 have b:=(bN N).1 a;rw[lJ];omega
def RH {α:Type} [DecidableEq α] {s:α->List α}{f:Nat}{had:List α}{x:α}(h:x∈had):dfs s f had x=had:=by
 cases f with
 | zero=>rfl
 | succ f=>rw[dfs,aG h]
def Xf {α:Type} [DecidableEq α] {s:α->List α}{f:Nat}{had:List α}{x:α}(h:x∉had):dfs s (f+1) had x=(s x).foldl (dfs s f) (x::had):=by rw[dfs,aD h]
def Nw {N:eB}(b:gV N=true){f:Nat}{a L:List fJ}(c:∀z∈L,z∈kW N)(d:Had (kW N) a)(e:(kW N).length<=a.length+f) :
  Had (kW N) (L.foldl (dfs (jK N) f) a)/\(kW N).length<=(L.foldl (dfs (jK N) f) a).length+f:=by
 obtain⟨F,_⟩:=Gg (λhad x=>Iy (xN b) f had x) L a c d e;exact⟨F.good,by have:=F.len;omega⟩
def IQ {w:World}{bm bh bn bv:Nat}{had:List fJ}{x:fJ}(g:x.2<=1000)(a:x∈had)(b:t8 w bm had)(c:Box w bh 147 #[.map (some bm)]) :
  Calls Tryz.prog 132 #[Ah x,.pointer bh,.pointer bn,.pointer bv] w
   (λe w'=>e=.returned (.tuple #[])/\t8 w' bm had/\w.grownBy w' (some bm)):=by
 have d:=aA (b.alloc (.cells #[.bool x.1,.int .i64 x.2] 190));have f:=d.o.look x g;rw[aG a]at f;have h:=(c.old (.cells #[.bool x.1,.int .i64 x.2] 190)).cell 0;obtain⟨i,j⟩:=x;simp only[aP,aQ]at h;clear b c a;show Calls Tryz.prog 132 #[.agg #[.bool i,j],.pointer bh,.pointer bn,.pointer bv] w _
 simp only[Ah]at f;go_enter Tryz.func132,Tryz.ntmps132
 go_wp2
 exact aU (v:=.tuple #[]) (by simp[results,Tryz.results132,go_sem]) rfl ⟨rfl,d.o,World.grownBy_alloc _ _ _⟩
def KH {w0:World}{P:Int}{A:OAd}{n c:Nat}{ts:List bG}(h0:eC w0 A n c ts)(l:gV ⟨P,ts⟩=true){bm bh bn bv:Nat}(g1:w0.heap.size<=bm)(g2:bh≠bm)(g3:bn≠bm)(g4:bv≠bm) :
  ∀(f:Nat) (had:List fJ) (x:fJ) (w:World),Had (kW ⟨P,ts⟩) had->x∈kW ⟨P,ts⟩->(kW ⟨P,ts⟩).length<=had.length+f->t8 w bm had ->
   Box w bh 147 #[.map (some bm)]->Box w bn 41 #[P,.slice A n c]->Box w bv 188 #[Nv bh bn bv]->Below w0 w0 w ->
   Calls Tryz.prog 132 #[Ah x,.pointer bh,.pointer bn,.pointer bv] w
    (λe w'=>e=.returned (.tuple #[])/\t8 w' bm (dfs (jK ⟨P,ts⟩) f had x)/\w.grownBy w' (some bm)):=by
 intro f;induction f with
 | zero =>
  intro had x w D E hl S T b2 b3 hb;have b:x∈had:=wR D.nodup D.sub (by omega) E;rw[RH b];exact IQ (by have:=uA l E;omega) b S T
 | succ f ih =>
  intro had x w D E hl S T b2 b3 hb;by_cases b:x∈had
  .rw[RH b];exact IQ (by have:=uA l E;omega) b S T
  rw[Xf b];have Y:=uA l E;have hh:=vI _ _ D.nodup D.sub;have Z:=RA l;have HS:=aA (S.alloc (.cells #[.bool x.1,.int .i64 x.2] 190));have I:=HS.o.look x (by omega);rw[aD b]at I;obtain⟨v0,st,w2,r1,r2,r3,r4,w3,s1,s2,s3,s4⟩:=t8.entry (w:=(w.alloc (.cells #[.bool x.1,.int .i64 x.2] 190)).drew) HS.o x (by omega) b (by omega);have X0:=aA (T.old (.cells #[.bool x.1,.int .i64 x.2] 190));have X1:=aA (b2.old (.cells #[.bool x.1,.int .i64 x.2] 190));have X2:=aA (b3.old (.cells #[.bool x.1,.int .i64 x.2] 190));have X3:=aA (Box.new w #[.bool x.1,.int .i64 x.2] 190);have BW:=aA (hb.trans ((aF w (.cells #[.bool x.1,.int .i64 x.2] 190)).mono hb.size));have b0:w.heap.size≠bm:=by have:=S.lt;omega
  have GW:=aA (World.grownBy_alloc w (.cells #[.bool x.1,.int .i64 x.2] 190) (some bm));have HX:=aA E;have HI:=aA b;have HG:=aA (show Had (kW ⟨P,ts⟩) (x::had)from⟨kC.2 ⟨b,D.nodup⟩,λy hy=>by
   rcases a7.1 hy with rfl|hy
   .exact E
   exact D.sub y hy⟩)
  have HL:=aA (show(kW ⟨P,ts⟩).length<=(x::had).length+f by simp only[bP];omega);have IH:=aA ih;have J:=aA h0;have HO:=aA l;have F:=aA r2;have S2:=aA s2;have S3:=aA s3;obtain⟨G,a⟩:=x;simp only[Ah]at I r1 r4 s1;simp only[]at Y;replace X3:Hid (Box (w.alloc (.cells #[.bool G,a] 190)) w 190 #[.bool G,a]):=X3
  clear S T b2 b3 hb D hl E b h0 l ih r2 r3 s2 s3 s4 hh Z;show Calls Tryz.prog 132 #[.agg #[.bool G,a],.pointer bh,.pointer bn,.pointer bv] w _
  have x0:=X0.o.cell 0;simp only[aP,aQ]at x0;obtain⟨L,M⟩:=X3.o.two;go_enter Tryz.func132,Tryz.ntmps132
  go_upto_region 2 with fail
  clear I;have I:=t8.look (w:=(w.alloc (.cells #[.bool G,a] 190)).drew) HS.o (G,a) (by show a<=1000;omega);rw[aD HI.o]at I;simp only[Ah]at I;generalize w.alloc (.cells #[.bool G,a] 190)=w1 at *
  have Y0:=aA (X0.o.drew.grown F.o (by simp;omega));have Y1:=aA (X1.o.drew.grown F.o (by simp;omega));have Y2:=aA (X2.o.drew.grown F.o (by simp;omega));have Y3:=aA (X3.o.drew.grown F.o (by simp;omega));have U:=Y0.o.cell 0;simp only[aP,aQ]at U;obtain⟨y1,y2⟩:=Y3.o.two;refine aN 6 (.takes [0,1] (.two 2 (.take 3 (.one 4 (.take 5 (.fin 6 .done)))) 4 (.take 5 (.one 2 (.take 3 (.fin 6 .done)))))) (λw'=>w'.cell? bh=some (.map (some bm))/\w'.cell? w=some (.bool G)/\w'.cell? ⟨w,1,none⟩=some (.int .i64 a)) (by kernel_rfl) (by kernel_rfl) (by kernel_rfl) (λ_ _ _ _ _ h=>h) ⟨x0,L,M⟩ (λm=>?_);simp only[Scr.takes]
  iterate 2
   refine aM (v:=?_) rfl (by rfl) m (λw' u=>?_) ?_
   rotate_left
   ·(go_simp;try with_reducible rfl)
   simp only[aC]
  refine DY (.fin 6 .done) (λa0 a' w'=>a'=((((a0.put (some 15) (.int .i64 0)).put (some 16) (.int .i64 1)).put (some 17) (.tuple #[v0,st])).put (some 18) st)/\w'=w2) ?_ (λEN=>?_)
  .rintro a' w' ⟨rfl,rfl⟩ hS;simp only[aC];refine cH rfl (λK hK=>?_);go_simp
   refine hK.out _ _ ?_;clear hK;refine cE ?_;have Z1:=aA (Y1.o.grown S3.o (by simp;omega));have Z2:=aA (Y2.o.grown S3.o (by simp;omega));have Z0:=aA (Y0.o.grown S3.o (by simp;omega));have Z3:=aA (Y3.o.grown S3.o (by simp;omega));have G3:=aA (GW.o.trans ((Rz w1 (some bm)).trans (F.o.trans S3.o)));have B3:=aA (show Below w0 w0 w3 from(BW.o.drew.grown F.o BW.o.size (λk N=>by cases N;exact g1)).grown S3.o (aT BW.o.size F.o.size) (λk N=>by cases N;exact g1));have a1:w.heap.size<w3.heap.size:=Z3.o.lt;clear s1 S3 F Y0 Y1 Y2 Y3 X0 X1 X2 X3 I m BW GW HS x0 L M HI hS r1 r4 U y1 y2;obtain⟨z0,z1⟩:=Z1.o.two;obtain⟨L,M⟩:=Z3.o.two;cases G
   rotate_left
   .have O:a<n:=by have h1:=eV.1 HX.o;have h2:=J.o.len;simp only[]at h1;omega
    have a5:(a:Int)<(n:Int):=by omega
    obtain⟨bl,o,t,A1,n1,c1,A2,n2,c2,rfl,r,ht,B,C,s,i1,V,m1,m2⟩:=eC.get J.o O;have q2:=(B3.o.cell (p:=⟨bl,o+a*3+2,none⟩) r).trans s;have I2:=aA V;have HT:=aA (show jK ⟨P,ts⟩ (true,a)=(Nq t.post n2).map λp=>(false,p) by simp only[jK,ht.o,V.len]);have HN:=aA (show ∀j,j<=n2->∀z∈(Nq t.post j).map (λp=>((false,p):fJ)),z∈kW ⟨P,ts⟩from λj hj z hz=>by
     simp only[Nq,bZ,bR,bM]at hz;obtain⟨q,⟨hq,_⟩,rfl⟩:=hz;refine dK.2 ?_;have:=(fK HO.o ht.o).2.2.2.1;rw[V.len]at this;simp only[]at this ⊢;omega)
    clear i1 V B C s;go_wp2
    go_loopw [29] (λi wr=>∃j:Nat,j<=n2/\i=.int .i64 j/\Hid (t8 wr bm (((Nq t.post j).map λp=>((false,p):fJ)).foldl (dfs (jK ⟨P,ts⟩) f) ((true,a)::had)))/\Hid (w3.grownBy wr (some bm))) (λi _=>n2-(intOf i).toNat)
    case atStart=>exact⟨0,aL _,rfl,S2,gU _ _⟩
    obtain⟨j,hj,rfl,W,g⟩:=hrel;clear z0 z1 L M q2;have H:=aA (show Below w0 w0 wr from B3.o.grown g.o B3.o.size (λk N=>by cases N;exact g1));have Q:=(Z2.o.grown g.o (by simp;omega)).cell 0;simp only[aP,aQ]at Q;by_cases R:j<n2
    rotate_left
    .obtain rfl:j=n2:=by omega
     go_wp2
     exact aU (v:=.tuple #[]) (by simp[results,Tryz.results132,go_sem]) rfl ⟨rfl,by rw[HT.o];exact W.o,G3.o.trans g.o⟩
    have a6:(j:Int)<(n2:Int):=by omega
    obtain⟨b2,o2,v,rfl,b4,X,qv⟩:=aY.get (aY.keep I2.o H.o) R;have SU:=aA (show((Nq t.post (j+1)).map λp=>((false,p):fJ)).foldl (dfs (jK ⟨P,ts⟩) f) ((true,a)::had)=if 0<v then dfs (jK ⟨P,ts⟩) f (((Nq t.post j).map λp=>((false,p):fJ)).foldl (dfs (jK ⟨P,ts⟩) f) ((true,a)::had)) (false,j)else((Nq t.post j).map λp=>((false,p):fJ)).foldl (dfs (jK ⟨P,ts⟩) f) ((true,a)::had) by
     rw[Iz,iI X.o];by_cases h:0<v <;> simp[h,fD])
    by_cases d:0<v
    .obtain⟨FH,FL⟩:=Nw (f:=f) HO.o (HN.o j hj) HG.o HL.o;have CL:=aA (IH.o _ (false,j) wr FH (HN.o (j+1) (by omega) _ (by rw[Iz,iI X.o,aG d];simp)) FL W.o (Z0.o.grown g.o (by simp;omega)) (Z1.o.grown g.o (by simp;omega)) (Z2.o.grown g.o (by simp;omega)) H.o);clear FH FL;go_wp2_with fail
     refine CL.o.mono ?_;rintro e wn ⟨rfl,sm,gr⟩;have SN:=aA sm;have GN:=aA (g.o.trans gr);clear sm gr;go_wp2
     go_roundw
     case rel=>exact⟨j+1,by omega,by go_num,by rw[SU.o,aG d];exact SN,GN⟩
     simp[intOf];omega
    go_wp2
    go_roundw
    case rel=>exact⟨j+1,by omega,by go_num,by rw[SU.o,aD d];exact W,g⟩
    simp[intOf];omega
   have b5:a<P.toNat:=dK.1 HX.o;have HT:=aA (show jK ⟨P,ts⟩ (false,a)=(Nr ts a n).map λk=>(true,k) by simp only[jK,J.o.len]);have HN:=aA (show ∀j,j<=n->∀z∈(Nr ts a j).map (λk=>((true,k):fJ)),z∈kW ⟨P,ts⟩from λj hj z hz=>by
    simp only[Nr,bZ,bR,bM]at hz;obtain⟨q,⟨hq,_⟩,rfl⟩:=hz;refine eV.2 ?_;have:=J.o.len;simp only[];omega)
   have hn:=J.o.small;go_wp2
   go_loopw [44] (λi wr=>∃j:Nat,j<=n/\i=.int .i64 j/\Hid (t8 wr bm (((Nr ts a j).map λk=>((true,k):fJ)).foldl (dfs (jK ⟨P,ts⟩) f) ((false,a)::had)))/\Hid (w3.grownBy wr (some bm))) (λi _=>n-(intOf i).toNat)
   case atStart=>exact⟨0,aL _,rfl,S2,gU _ _⟩
   obtain⟨j,hj,rfl,W,g⟩:=hrel;clear z0 z1 L M;have H:=aA (show Below w0 w0 wr from B3.o.grown g.o B3.o.size (λk N=>by cases N;exact g1));by_cases R:j<n
   rotate_left
   .obtain rfl:j=n:=by omega
    go_wp2
    exact eR (v:=.tuple #[]) (by simp[results,Tryz.results132,go_sem]) rfl ⟨rfl,by rw[HT.o];exact W.o,G3.o.trans g.o⟩
   have a6:(j:Int)<(n:Int):=by omega
   obtain⟨bl,o,t,A1,n1,c1,A2,n2,c2,rfl,r,ht,B,C,s,i1,V,m1,m2⟩:=eC.get J.o R;have q0:=(H.o.cell (p:=⟨bl,o+j*3,none⟩) r).trans B;have q1:=(H.o.cell (p:=⟨bl,o+j*3+1,none⟩) r).trans C;have q2:=(H.o.cell (p:=⟨bl,o+j*3+2,none⟩) r).trans s;have O:a<n1:=by have:=(fK HO.o ht.o).2.2.1;rw[i1.len]at this;simp only[]at this;omega
   have a5:(a:Int)<(n1:Int):=by omega
   have SU:=aA (λv (X:t.pre[a]?=some v)=>show((Nr ts a (j+1)).map λk=>((true,k):fJ)).foldl (dfs (jK ⟨P,ts⟩) f) ((false,a)::had)=if 0<v then dfs (jK ⟨P,ts⟩) f (((Nr ts a j).map λk=>((true,k):fJ)).foldl (dfs (jK ⟨P,ts⟩) f) ((false,a)::had)) (true,j)else((Nr ts a j).map λk=>((true,k):fJ)).foldl (dfs (jK ⟨P,ts⟩) f) ((false,a)::had) by
    rw[Rt _ _ _ ht.o,iI X];by_cases h:0<v <;> simp[h,fD])
   have I1:=aA i1;clear i1 V B C s;have bb:=aF wr (.cells #[.int .i64 t.label,.slice A1 n1 c1,.slice A2 n2 c2] 74);have a9:w.heap.size<wr.heap.size:=bD a1 g.o.size;have U0:=aA ((Z0.o.grown g.o (by simp;omega)).old (.cells #[.int .i64 t.label,.slice A1 n1 c1,.slice A2 n2 c2] 74));have U1:=aA ((Z1.o.grown g.o (by simp;omega)).old (.cells #[.int .i64 t.label,.slice A1 n1 c1,.slice A2 n2 c2] 74));have U2:=aA ((Z2.o.grown g.o (by simp;omega)).old (.cells #[.int .i64 t.label,.slice A1 n1 c1,.slice A2 n2 c2] 74));have U3:=aA ((Z3.o.grown g.o (by simp;omega)).old (.cells #[.int .i64 t.label,.slice A1 n1 c1,.slice A2 n2 c2] 74));have U4:=aA (Box.new wr #[.int .i64 t.label,.slice A1 n1 c1,.slice A2 n2 c2] 74);have a2:=aA (W.o.keep bb);have a3:=aA (g.o.trans (Xe bb (some bm)));have a4:=aA (H.o.trans (bb.mono H.o.size));clear bb;go_upto_region 13 with fail
   generalize wr.alloc (.cells #[.int .i64 t.label,.slice A1 n1 c1,.slice A2 n2 c2] 74)=w4 at *
   obtain⟨T,o1,v,rfl,b6,X,qv⟩:=aY.get (aY.keep I1.o a4.o) O;have SV:=aA (SU.o v X.o);clear SU q0 q1 q2;obtain⟨L,M⟩:=U3.o.two;obtain⟨U,y1,y2⟩:=U4.o.three;have Q:=U2.o.cell 0;simp only[aP,aQ]at Q;by_cases d:0<v
   .obtain⟨FH,FL⟩:=Nw (f:=f) HO.o (HN.o j hj) HG.o HL.o;have CL:=aA (IH.o _ (true,j) w4 FH (eV.2 (by have:=J.o.len;simp only[];omega)) FL a2.o U0.o U1.o U2.o a4.o);clear FH FL;go_wp2_with fail
    refine CL.o.mono ?_;rintro e wn ⟨rfl,sm,gr⟩;have SN:=aA sm;have GN:=aA (a3.o.trans gr);clear sm gr;go_wp2
    go_roundw
    case rel=>exact⟨j+1,by omega,by go_num,by rw[SV.o,aG d];exact SN,GN⟩
    simp[intOf];omega
   go_wp2
   go_roundw
   case rel=>exact⟨j+1,by omega,by go_num,by rw[SV.o,aD d];exact a2,a3⟩
   simp[intOf];omega
  refine mN rfl rfl (λK hK=>?_) (λK hK=>?_)
  .go_simp
   refine hK.out _ _ ⟨x0,L,M⟩ (λm=>?_);clear hK;try simp only[aC]
   refine aM (v:=?_) rfl (by rfl) m (λw' u=>?_) ?_
   rotate_left
   ·(go_simp;try with_reducible rfl)
   simp only[aC];refine bK rfl (λK hK=>?_);go_simp
   refine hK.out _ _ ⟨U,y1,y2⟩ (λm=>?_);clear hK;try simp only[aC]
   refine aM (v:=?_) rfl (by rfl) m (λw' u=>?_) ?_
   rotate_left
   ·(go_simp;try with_reducible rfl)
   simp only[aC];exact EN.o _ _ ⟨rfl,rfl⟩ m
  go_simp
  refine hK.out _ _ ⟨U,y1,y2⟩ (λm=>?_);clear hK;try simp only[aC]
  refine aM (v:=?_) rfl (by rfl) m (λw' u=>?_) ?_
  rotate_left
  ·(go_simp;try with_reducible rfl)
  simp only[aC];refine bK rfl (λK hK=>?_);go_simp
  refine hK.out _ _ ⟨U,y1,y2⟩ (λm=>?_);clear hK;try simp only[aC]
  refine aM (v:=?_) rfl (by rfl) m (λw' u=>?_) ?_
  rotate_left
  ·(go_simp;try with_reducible rfl)
  simp only[aC];exact EN.o _ _ ⟨rfl,rfl⟩ m
structure KI (F:FuncId)(cap:Array Value)(w:World)(ts:List bG)(p:bG->Bool):Prop where
 enters:∀args w,(callFunc F args).run Tryz.prog w=.ok (.enter F args) w
 calls:∀(wr:World) (t:bG) (A1:OAd) (n1 c1:Nat) (A2:OAd) (n2 c2:Nat),Below w.heap.size w wr->t∈ts->aY wr A1 n1 c1 t.pre->aY wr A2 n2 c2 t.post ->
  Calls Tryz.prog F (#[.agg #[.int .i64 t.label,.slice A1 n1 c1,.slice A2 n2 c2]]++cap) wr λe w'=>e=.returned (.bool (p t))/\Below wr.heap.size wr w'
def yF {w:World}{A:OAd}{n c:Nat}{ts:List bG}{F:FuncId}{cap:Array Value}{p:bG->Bool}(h:eC w A n c ts)(hp:KI F cap w ts p) :
  Calls Tryz.prog 131 #[.slice A n c,.func (.func F) #[] cap] w λe w'=>e=.returned (.int .i64 (dL p ts))/\Below w w w':=by
 have G:=h.small;have f:=hp.enters;have H:=aA h;have B:=aA hp;clear h hp;go_enter Tryz.func131,Tryz.ntmps131
 go_wp2
 go_loopw [8] (λi wr=>∃k:Nat,k<=n/\i=k/\Hid (∀j,j<k->∀y,ts[j]?=some y->p y=false)/\Hid (Below w w wr)) (λi _=>n-(intOf i).toNat)
 case atStart=>exact⟨0,aL _,rfl,λj l=>absurd l (by omega),aH _ _⟩
 case round =>
  obtain⟨k,I,rfl,a,D⟩:=hrel;by_cases m:k<n
  rotate_left
  .go_wp2
   go_ret
   exact⟨a8 (dV (λj l y g=>a.o j (by have:=H.o.len;omega) y g)).symm,D.o⟩
  have C:(k:Int)<(n:Int):=by omega
  obtain⟨b,E,t,A1,n1,c1,A2,n2,c2,rfl,J,o,K,L,M,u,x,_,_⟩:=eC.get (H.o.keep D.o) m;have CL:=aA (B.o.calls wr t A1 n1 c1 A2 n2 c2 D.o (aS o.o) u x);obtain⟨v,q⟩:=aK (p t);have z:=aA q;rw[q]at CL;clear u x q;cases v
  .go_wp2_with (refine CL.o.mono ?_;rintro e w' ⟨rfl,d⟩;have r:=aA d;clear d)
   go_roundw
   case rel =>
    refine⟨k+1,by omega,by go_num,λj l y g=>?_,D.o.trans (r.o.mono D.o.size)⟩;by_cases s:j=k
    .subst s;have:=o.o;rw[g]at this;injection this with this;rw[this];exact z.o
    exact a.o j (by omega) y g
   simp[intOf];omega
  go_wp2_with (refine CL.o.mono ?_;rintro e w' ⟨rfl,d⟩;have r:=aA d;clear d)
  go_ret
  exact⟨a8 (dU a.o o.o z.o).symm,D.o.trans (r.o.mono D.o.size)⟩
def uB {w:World}{A:OAd}{n c:Nat}{ts:List bG}{F:FuncId}{cap:Array Value}{p:bG->Bool}(h:eC w A n c ts)(hp:KI F cap w ts p) :
  Calls Tryz.prog 78 #[.slice A n c,.func (.func F) #[] cap] w λe w'=>e=.returned (.bool (ts.any p))/\Below w w w':=by
 have H:=aA h;have a:=aA hp;clear h hp;go_enter Tryz.func78,Tryz.ntmps78
 go_wp2_with (refine(yF H.o a.o).mono ?_;rintro e w' ⟨rfl,b⟩)
 go_ret
 exact⟨bB (jV _ _),b⟩
def RJ {w:World}{N:eB}(a:gV N=true){g h i o:Nat}(A:(i:Int)<N.places)(B:(o:Int)<N.places)(c1:Box w g 3 #[i])(c2:Box w h 3 #[o]) :
  KI 79 #[.pointer g,.pointer h] w N.trans (wT i o) where
 enters:=λargs w=>by kernel_rfl
 calls:=λwr t A1 n1 d A2 n2 e j u l m=>by
  obtain⟨k,v,b⟩:=hZ u;have n:=fK a (show N.trans[k]?=some t by rw[aV v,b]);have C:(n1:Int)=N.places:=by have:=n.2.2.1;rw[l.len]at this;exact this
  have D:(n2:Int)=N.places:=by have:=n.2.2.2.1;rw[m.len]at this;exact this
  have f:=aF wr (.cells #[.int .i64 t.label,.slice A1 n1 d,.slice A2 n2 e] 74);obtain⟨p,q,x,rfl,E,F,O⟩:=aY.get (k:=o) (aY.keep l f) (by omega);obtain⟨r,s,y,rfl,G,H,P⟩:=aY.get (k:=i) (aY.keep m f) (by omega);have I:=((c1.keep j).old (.cells #[.int .i64 t.label,.slice (some ⟨p,q,none⟩) n1 d,.slice (some ⟨r,s,none⟩) n2 e] 74)).cell 0;have J:=((c2.keep j).old (.cells #[.int .i64 t.label,.slice (some ⟨p,q,none⟩) n1 d,.slice (some ⟨r,s,none⟩) n2 e] 74)).cell 0;simp only[aP,aQ]at I J;have K:(i:Int)<(n2:Int):=by omega
  have L:(o:Int)<(n1:Int):=by omega
  have M:=aA (show wT i o t=(decide (0<y)||decide (0<x)) by rw[wT,iI H.o,iI F.o]);have z:=aA f;clear j u v b n C D l m c1 c2 A B a f;show Calls Tryz.prog 79 #[.agg #[.int .i64 t.label,.slice (some ⟨p,q,none⟩) n1 d,.slice (some ⟨r,s,none⟩) n2 e],.pointer g,.pointer h] wr _
  rw[M.o];by_cases c:0<y
  .go_enter Tryz.func79,Tryz.ntmps79
   go_wp2
   go_ret
   exact⟨bB (by simp[c]),z.o⟩
  go_enter Tryz.func79,Tryz.ntmps79
  go_wp2
  all_goals
   go_ret
   exact⟨bB (by simp;omega),z.o⟩
def ZG (had:List fJ)(w:World)(e:Ending)(w':World):Prop:=∃b,e=.returned (.map (some b))/\t8 w' b had/\Below w.heap.size w w'
def pJ {w:World}{P:Int}{A:OAd}{n c:Nat}{ts:List bG}{i:Nat}(h:eC w A n c ts)(g:gV ⟨P,ts⟩=true)(y:i<P.toNat) :
  Calls Tryz.prog 80 #[.agg #[P,.slice A n c],i] w (ZG (UW ⟨P,ts⟩ i) w):=by
 have o:=@run_makeMap Tryz.prog;have H:=aA h;have z:=aA g;clear h g;go_enter Tryz.func80,Tryz.ntmps80
 go_upto_region 3 with fail
 generalize a:(((w.alloc (.cells #[P,.slice A n c] 41)).alloc (.map #[] 0)).alloc (.cells #[.map (some (w.heap.size+1))] 147)).alloc (.cells #[.nilFunc] 188)=f;have r:Below w w f:=by rw[<-a];exact((((aH _ _).alloc (aB _) _).alloc (by simp) _).alloc (by simp;omega) _).alloc (by simp;omega) _
 have s:Box f w 41 #[P,.slice A n c]:=by rw[<-a];exact(((Box.new _ _ _).old _).old _).old _
 have t:t8 f (w.heap.size+1) []:=by
  rw[<-a];have:=t8.made (w.alloc (.cells #[P,.slice A n c] 41));rw[show(w.alloc (.cells #[P,.slice A n c] 41)).heap.size=w.heap.size+1 by simp]at this;exact(this.alloc _).alloc _
 have u:Box f (w.heap.size+1+1) 147 #[.map (some (w.heap.size+1))]:=by rw[<-a];exact(Box.newAt (by simp) _ _).old _
 have l:Box f (w.heap.size+1+1+1) 188 #[.nilFunc]:=by rw[<-a];exact Box.newAt (by simp) _ _
 clear a o;have B:=l.frozen 0;have n0:=l.cell 0;simp only[aP,aQ]at n0;go_upto_region 4 with fail
 generalize b:f.setCell ⟨w.heap.size+1+1+1,0,none⟩ (Nv (w.heap.size+1+1) w (w.heap.size+1+1+1))=m;have d:d8 (w.heap.size+1+1+1) f m:=by rw[<-b];exact d8.set _ _ _ _
 have p:=aA (show Below w w m by rw[<-b];exact r.setCell (show w.heap.size<=w.heap.size+1+1+1 by omega) _);have Z0:=aA (d.box s (by omega));have C:=aA (t.of_block (d.2 _ (by omega)));have v:=aA (d.box u (by omega));have q:Box m (w.heap.size+1+1+1) 188 #[Nv (w.heap.size+1+1) w (w.heap.size+1+1+1)]:=by rw[<-b];simpa using l.set 0 (Nv (w.heap.size+1+1) w (w.heap.size+1+1+1))
 have j:=q.cell 0;simp only[aP,aQ]at j;have CL:=aA (KH (P:=P) H.o z.o (bm:=w.heap.size+1) (bh:=w.heap.size+1+1) (bn:=w.heap.size) (bv:=w.heap.size+1+1+1) (by omega) (by omega) (by omega) (by omega) (P.toNat+ts.length) [] (false,i) m
  ⟨List.nodup_nil,λx h=>by simp at h⟩ (dK.2 y) (by rw[lJ];simp) C.o v.o Z0.o q p.o)
 clear b d s t u l B n0 r q;go_wp2_with fail
 refine CL.o.mono ?_;rintro e D ⟨rfl,sm,gr⟩;have E:=(v.o.grown gr (by simp)).cell 0;simp only[aP,aQ]at E;have F:=aA sm;have G:=aA (show Below w w D from p.o.grown gr p.o.size (λk I=>by cases I;omega));clear sm gr j;go_wp2
 go_ret
 exact⟨_,rfl,F.o,G.o⟩
def IR {N:eB}(h:gV N=true):gV (lW N)=true:=by
 obtain⟨b,c,d,e⟩:=(bN N).1 h;refine(bN _).2 ⟨b,c,by simpa [lW] using d,λt a=>?_⟩;simp only[lW,bZ]at a;obtain⟨u,f,rfl⟩:=a;have:=(kK _ _).1 (e u f);exact(kK _ _).2 ⟨this.1,this.2.1,this.2.2.2.1,this.2.2.1,this.2.2.2.2.2,this.2.2.2.2.1⟩
def qW {w:World}{P:Int}{A:OAd}{n c:Nat}{ts:List bG}(i o:Int)(h:eC w A n c ts)(hn:n<=2513169434916) :
  Calls Tryz.prog 30 #[.agg #[P,.slice A n c],i,o] w λe w'=>e=.returned (.int .i64 (eE ⟨P,ts⟩ i o))/\Below w w w':=by
 generalize s:((w.alloc (.cells #[P,.slice A n c] 41)).alloc (.cells #[i] 3)).alloc (.cells #[o] 3)=w0;have z:=aA (show Below w w w0 by rw[<-s];exact(((aH _ _).alloc (aB _) _).alloc (by simp) _).alloc (by simp;omega) _);have S:=aA (show Box w0 w 41 #[P,.slice A n c] by rw[<-s];exact((Box.new _ _ _).old _).old _);have X1:=aA (show Box w0 (w.heap.size+1) 3 #[i] by rw[<-s];exact(Box.newAt (by simp) _ _).old _);have X2:=aA (show Box w0 (w.heap.size+1+1) 3 #[o] by rw[<-s];exact Box.newAt (by simp) _ _);have H:=aA h;have HL:=aA h.len;have a6:=h.small;clear h;have Q:=S.o.two.1;cases hok:gV ⟨P,ts⟩
 .have W0:=aA (jW hok);have l:=aA (show eE ⟨P,ts⟩ i o=2 by rw[eE,hok];rfl);clear hok;go_enter Tryz.func30,Tryz.ntmps30
  go_upto_region 1 with fail
  clear s;obtain⟨Q,c1⟩:=S.o.two;go_wp2_with fail
  refine(lD _ P A n c ts (H.o.keep z.o)).mono ?_;rw[W0.o];rintro e w1 ⟨rfl,a⟩;have u:=aA (z.o.trans (a.mono z.o.size));clear a;go_wp2
  go_ret
  exact⟨a8 l.o.symm,u.o⟩
 .have W0:=aA (mL hok);have x:=aA hok;clear hok;obtain⟨p,rfl⟩:∃p:Nat,P=(p:Int):=⟨P.toNat,by have:=((bN _).1 x.o).1;simp only[]at this;omega⟩;have a4:p<=16:=by have:=((bN _).1 x.o).2.1;simp only[]at this;omega
  have a5:n<=24:=by have:=((bN _).1 x.o).2.2.1;rw[HL.o]at this;exact this
  go_enter Tryz.func30,Tryz.ntmps30
  go_upto_region 1 with fail
  clear s Q;obtain⟨Q,c1⟩:=S.o.two;go_wp2_with fail
  refine(lD _ (p:Int) A n c ts (H.o.keep z.o)).mono ?_;rw[W0.o];rintro e w1 ⟨rfl,a⟩;have u:=aA (z.o.trans (a.mono z.o.size));have Y0:=aA (S.o.keep a);have X:=aA (X1.o.keep a);have Y:=aA (X2.o.keep a);clear a Q c1 S X1 X2 z;obtain⟨Q,c1⟩:=Y0.o.two;have ci:=X.o.cell 0;have co:=Y.o.cell 0;simp only[aP,aQ]at ci co;by_cases r:inB ⟨p,ts⟩ i o=true
  rotate_left
  .have l:=aA (show eE ⟨p,ts⟩ i o=1 by rw[eE,aG x.o,aD r]);simp only[inB,cA,bO]at r;by_cases h0:0<=i
   rotate_left
   .clear r;go_wp2
    go_ret
    exact⟨a8 l.o.symm,u.o⟩
   by_cases h1:0<=o
   .by_cases Z:i<(p:Int)
    .by_cases h3:o<(p:Int)
     .have B:i=o:=eO λB=>r ⟨⟨⟨⟨h0,h1⟩,Z⟩,h3⟩,B⟩
      subst B;clear r;go_wp2
      go_ret
      exact⟨a8 l.o.symm,u.o⟩
     clear r;go_wp2
     go_ret
     exact⟨a8 l.o.symm,u.o⟩
    clear r;go_wp2
    go_ret
    exact⟨a8 l.o.symm,u.o⟩
   clear r;go_wp2
   go_ret
   exact⟨a8 l.o.symm,u.o⟩
  simp only[inB,cA,bO]at r;obtain⟨⟨⟨⟨h0,h1⟩,Z⟩,h3⟩,B⟩:=r;have IN:=aA (show inB ⟨p,ts⟩ i o=true by simp only[inB,cA,bO];exact⟨⟨⟨⟨h0,h1⟩,Z⟩,h3⟩,B⟩);obtain⟨i,rfl⟩:∃k:Nat,i=(k:Int):=⟨i.toNat,by omega⟩;obtain⟨o,rfl⟩:∃k:Nat,o=(k:Int):=⟨o.toNat,by omega⟩;have a0:((i:Int)==(o:Int))=false:=by simpa using B
  have PR:=aA (RJ (w:=w1) (N:=⟨p,ts⟩) x.o (i:=i) (o:=o) Z h3 X.o Y.o);have y:=aA (show eE ⟨p,ts⟩ (i:Int) (o:Int)=(if ts.any (wT i o)=true then 1 else if kX ⟨p,ts⟩ i=true/\kX (lW ⟨p,ts⟩) o=true then 0 else 1) by
   rw[eE,aG x.o,aG IN.o];rfl)
  clear B IN;go_wp2_with fail
  refine(uB (H.o.keep u.o) PR.o).mono ?_;rintro e R ⟨rfl,a⟩;have B2:=aA (u.o.trans (a.mono u.o.size));have Z0:=aA (Y0.o.keep a);have Z1:=aA (X.o.keep a);have Z2:=aA (Y.o.keep a);clear a Q c1 ci co Y0 X Y u PR a0;obtain⟨bk,C⟩:=aK (ts.any (wT i o));rw[C];rw[C]at y;clear C;cases bk
  rotate_left
  .go_wp2
   go_ret
   exact⟨a8 y.o.symm,B2.o⟩
  have m:=aA (show ∀w',Below R R w'->w'.cell? w=some (.int .i64 p)/\w'.cell? ⟨w,1,none⟩=some (.slice A n c)/\w'.cell? ⟨w.heap.size+1,0,none⟩=some (.int .i64 i)/\w'.cell? ⟨w.heap.size+1+1,0,none⟩=some (.int .i64 o)from λw' a=>by
   obtain⟨f,g⟩:=(Z0.o.keep a).two;have b:=(Z1.o.keep a).cell 0;have d:=(Z2.o.keep a).cell 0;simp only[aP,aQ]at b d;exact⟨f,g,b,d⟩)
  have I1:=aA (show i<(p:Int).toNat by omega);have I2:=aA (show o<(p:Int).toNat by omega);have TO:=aA (show gV ⟨(p:Int),ts.map lN⟩=true from IR (N:=⟨p,ts⟩) x.o);obtain⟨L1,D⟩:=aK ((UW ⟨p,ts⟩ i).length);obtain⟨L2,E⟩:=aK ((UW ⟨(p:Int),ts.map lN⟩ o).length);have F:=IJ (N:=⟨p,ts⟩) x.o (i:=i) I1.o;have G:=IJ (N:=⟨(p:Int),ts.map lN⟩) TO.o (i:=o) I2.o;rw[D]at F;rw[E]at G;simp only[HL.o,dQ,d9]at F G;have I:=aA D;have T:=aA E;have DR:=aA ((aH w R).drew);have J:=aA ((aH R R).drew);clear D E Z0 Z1 Z2;obtain⟨f,g,b,d⟩:=m.o R (aH _ _);by_cases a1:kX ⟨p,ts⟩ i=true
  rotate_left
  .have L:decide ((L1:Int)<(p:Int)+(n:Int))=true:=by have:¬p+n<=L1:=λe=>a1 (F.1 e);simp;omega
   have l:=aA (show eE ⟨p,ts⟩ (i:Int) (o:Int)=1 by rw[y.o,aD (by decide)];simp[a1]);clear F G a1 y;go_upto_region 9 with fail
   refine aN 14 (.takes [0,1,4] (.one 2 (.one 3 (.takes [5,6,7,9,12] (.one 8 (.one 10 (.one 11 (.take 13 (.fin 14 .done))))))))) (λw'=>w'.cell? w=some (.int .i64 p)/\w'.cell? ⟨w,1,none⟩=some (.slice A n c)/\w'.cell? ⟨w.heap.size+1,0,none⟩=some (.int .i64 i)/\w'.cell? ⟨w.heap.size+1+1,0,none⟩=some (.int .i64 o)) (by kernel_rfl) (by kernel_rfl) (by kernel_rfl) (λ_ _ _ _ _ h=>h) ⟨f,g,b,d⟩ (λj=>?_);simp only[Scr.takes]
   iterate 3
    refine aM (v:=?_) rfl (by rfl) j (λw' q=>?_) ?_
    rotate_left
    ·(go_simp;try with_reducible rfl)
    simp only[aC]
   refine bK rfl (λK hK=>?_);go_simp;go_at_call 80
   (with_reducible refine(pJ (P:=(p:Int)) (ts:=ts) (A:=A) (n:=n) (c:=c) (i:=i) (H.o.keep (B2.o.trans DR.o)) x.o I1.o).mono ?_)
   rintro e U ⟨bm,rfl,sm,a⟩;have V:=sm.len 3;rw[I.o]at V;have t:=aA (J.o.trans (a.mono (aB _)));clear sm a;clear f g b d;obtain⟨f,g,b,d⟩:=m.o U t.o;refine hK.out _ _ ⟨f,g,b,d⟩ (λj=>?_);clear hK;try simp only[aC]
   refine bK rfl (λK hK=>?_);go_simp
   refine hK.out _ _ ⟨f,g,b,d⟩ (λj=>?_);clear hK;try simp only[aC]
   refine aM (v:=.bool true) rfl (by rfl) j (λw' q=>?_) ?_
   .go_simp
    try rw[L]
   simp only[aC];refine aM (v:=.bool true) rfl (by rfl) j (λw' q=>?_) ?_
   .go_simp
    try rw[L]
   simp only[aC]
   iterate 3
    refine VY rfl (by rfl) j ?_;simp only[aC]
   refine bK rfl (λK hK=>?_);go_simp
   refine hK.out _ _ ⟨f,g,b,d⟩ (λj=>?_);clear hK;try simp only[aC]
   refine bK rfl (λK hK=>?_);go_simp
   refine hK.out _ _ ⟨f,g,b,d⟩ (λj=>?_);clear hK;try simp only[aC]
   refine bK rfl (λK hK=>?_);go_simp
   refine hK.out _ _ ⟨f,g,b,d⟩ (λj=>?_);clear hK;try simp only[aC]
   iterate 1
    refine VY rfl (by rfl) j ?_;simp only[aC]
   refine cH rfl (λK hK=>?_);go_simp
   refine hK.out _ _ ?_;clear hK;try simp only[aC]
   refine cE ?_;go_wp2
   go_ret
   exact⟨a8 l.o.symm,B2.o.trans (t.o.mono B2.o.size)⟩
  have L:decide ((L1:Int)<(p:Int)+(n:Int))=false:=by have:=F.2 a1;simp;omega
  by_cases a2:kX ⟨(p:Int),ts.map lN⟩ o=true
  .have d2:decide ((L2:Int)<(p:Int)+(n:Int))=false:=by have:=G.2 a2;simp;omega
   have l:=aA (show eE ⟨p,ts⟩ (i:Int) (o:Int)=0 by rw[y.o,aD (by decide)];simp[a1,lW,a2]);clear F G a1 a2 y;go_upto_region 9 with fail
   refine aN 14 (.takes [0,1,4] (.one 2 (.one 3 (.takes [5,6,7,9,12] (.one 8 (.one 10 (.one 11 (.take 13 (.fin 14 .done))))))))) (λw'=>w'.cell? w=some (.int .i64 p)/\w'.cell? ⟨w,1,none⟩=some (.slice A n c)/\w'.cell? ⟨w.heap.size+1,0,none⟩=some (.int .i64 i)/\w'.cell? ⟨w.heap.size+1+1,0,none⟩=some (.int .i64 o)) (by kernel_rfl) (by kernel_rfl) (by kernel_rfl) (λ_ _ _ _ _ h=>h) ⟨f,g,b,d⟩ (λj=>?_);simp only[Scr.takes]
   iterate 3
    refine aM (v:=?_) rfl (by rfl) j (λw' q=>?_) ?_
    rotate_left
    ·(go_simp;try with_reducible rfl)
    simp only[aC]
   refine bK rfl (λK hK=>?_);go_simp;go_at_call 80
   (with_reducible refine(pJ (P:=(p:Int)) (ts:=ts) (A:=A) (n:=n) (c:=c) (i:=i) (H.o.keep (B2.o.trans DR.o)) x.o I1.o).mono ?_)
   rintro e U ⟨bm,rfl,sm,a⟩;have V:=sm.len 3;rw[I.o]at V;have t:=aA (J.o.trans (a.mono (aB _)));clear sm a;clear f g b d;obtain⟨f,g,b,d⟩:=m.o U t.o;refine hK.out _ _ ⟨f,g,b,d⟩ (λj=>?_);clear hK;try simp only[aC]
   refine bK rfl (λK hK=>?_);go_simp
   refine hK.out _ _ ⟨f,g,b,d⟩ (λj=>?_);clear hK;try simp only[aC]
   refine aM (v:=.bool false) rfl (by rfl) j (λw' q=>?_) ?_
   .go_simp
    try rw[L]
   simp only[aC];refine aM (v:=.bool false) rfl (by rfl) j (λw' q=>?_) ?_
   .go_simp
    try rw[L]
   simp only[aC]
   iterate 3
    refine aM (v:=?_) rfl (by rfl) j (λw' q=>?_) ?_
    rotate_left
    ·(go_simp;try with_reducible rfl)
    simp only[aC]
   refine bK rfl (λK hK=>?_);go_simp;go_at_call 81
   (with_reducible refine(rX (P:=(p:Int)) (H.o.keep (B2.o.trans (t.o.mono B2.o.size))) hn).mono ?_)
   rintro e w4 ⟨A4,n4,c4,rfl,t4,a⟩;have T4:=aA t4;have M:=aA (t.o.trans (a.mono t.o.size));clear a t4;rw[show(lW ⟨(p:Int),ts⟩).places=(p:Int)from rfl];clear f g b d;obtain⟨f,g,b,d⟩:=m.o w4 M.o;refine hK.out _ _ ⟨f,g,b,d⟩ (λj=>?_);clear hK;try simp only[aC]
   refine bK rfl (λK hK=>?_);go_simp;go_at_call 80
   (with_reducible refine(pJ (P:=(p:Int)) (ts:=ts.map lN) (A:=A4) (n:=n4) (c:=c4) (i:=o) T4.o TO.o I2.o).mono ?_)
   rintro e w5 ⟨a3,rfl,sm,a⟩;have O:=sm.len 3;rw[T.o]at O;have W:=aA (M.o.trans (a.mono M.o.size));clear sm a;clear f g b d;obtain⟨f,g,b,d⟩:=m.o w5 W.o;refine hK.out _ _ ⟨f,g,b,d⟩ (λj=>?_);clear hK;try simp only[aC]
   refine bK rfl (λK hK=>?_);go_simp
   refine hK.out _ _ ⟨f,g,b,d⟩ (λj=>?_);clear hK;try simp only[aC]
   refine aM (v:=.bool false) rfl (by rfl) j (λw' q=>?_) ?_
   .go_simp
    try rw[d2]
   simp only[aC];refine cH rfl (λK hK=>?_);go_simp
   refine hK.out _ _ ?_;clear hK;try simp only[aC]
   refine cE ?_;go_wp2
   go_ret
   exact⟨a8 l.o.symm,B2.o.trans (W.o.mono B2.o.size)⟩
  have d2:decide ((L2:Int)<(p:Int)+(n:Int))=true:=by have:¬p+n<=L2:=λe=>a2 (G.1 e);simp;omega
  have l:=aA (show eE ⟨p,ts⟩ (i:Int) (o:Int)=1 by rw[y.o,aD (by decide)];simp[a1,lW,a2]);clear F G a1 a2 y;go_upto_region 9 with fail
  refine aN 14 (.takes [0,1,4] (.one 2 (.one 3 (.takes [5,6,7,9,12] (.one 8 (.one 10 (.one 11 (.take 13 (.fin 14 .done))))))))) (λw'=>w'.cell? w=some (.int .i64 p)/\w'.cell? ⟨w,1,none⟩=some (.slice A n c)/\w'.cell? ⟨w.heap.size+1,0,none⟩=some (.int .i64 i)/\w'.cell? ⟨w.heap.size+1+1,0,none⟩=some (.int .i64 o)) (by kernel_rfl) (by kernel_rfl) (by kernel_rfl) (λ_ _ _ _ _ h=>h) ⟨f,g,b,d⟩ (λj=>?_);simp only[Scr.takes]
  iterate 3
   refine aM (v:=?_) rfl (by rfl) j (λw' q=>?_) ?_
   rotate_left
   ·(go_simp;try with_reducible rfl)
   simp only[aC]
  refine bK rfl (λK hK=>?_);go_simp;go_at_call 80
  (with_reducible refine(pJ (P:=(p:Int)) (ts:=ts) (A:=A) (n:=n) (c:=c) (i:=i) (H.o.keep (B2.o.trans DR.o)) x.o I1.o).mono ?_)
  rintro e U ⟨bm,rfl,sm,a⟩;have V:=sm.len 3;rw[I.o]at V;have t:=aA (J.o.trans (a.mono (aB _)));clear sm a;clear f g b d;obtain⟨f,g,b,d⟩:=m.o U t.o;refine hK.out _ _ ⟨f,g,b,d⟩ (λj=>?_);clear hK;try simp only[aC]
  refine bK rfl (λK hK=>?_);go_simp
  refine hK.out _ _ ⟨f,g,b,d⟩ (λj=>?_);clear hK;try simp only[aC]
  refine aM (v:=.bool false) rfl (by rfl) j (λw' q=>?_) ?_
  .go_simp
   try rw[L]
  simp only[aC];refine aM (v:=.bool false) rfl (by rfl) j (λw' q=>?_) ?_
  .go_simp
   try rw[L]
  simp only[aC]
  iterate 3
   refine aM (v:=?_) rfl (by rfl) j (λw' q=>?_) ?_
   rotate_left
   ·(go_simp;try with_reducible rfl)
   simp only[aC]
  refine bK rfl (λK hK=>?_);go_simp;go_at_call 81
  (with_reducible refine(rX (P:=(p:Int)) (H.o.keep (B2.o.trans (t.o.mono B2.o.size))) hn).mono ?_)
  rintro e w4 ⟨A4,n4,c4,rfl,t4,a⟩;have T4:=aA t4;have M:=aA (t.o.trans (a.mono t.o.size));clear a t4;rw[show(lW ⟨(p:Int),ts⟩).places=(p:Int)from rfl];clear f g b d;obtain⟨f,g,b,d⟩:=m.o w4 M.o;refine hK.out _ _ ⟨f,g,b,d⟩ (λj=>?_);clear hK;try simp only[aC]
  refine bK rfl (λK hK=>?_);go_simp;go_at_call 80
  (with_reducible refine(pJ (P:=(p:Int)) (ts:=ts.map lN) (A:=A4) (n:=n4) (c:=c4) (i:=o) T4.o TO.o I2.o).mono ?_)
  rintro e w5 ⟨a3,rfl,sm,a⟩;have O:=sm.len 3;rw[T.o]at O;have W:=aA (M.o.trans (a.mono M.o.size));clear sm a;clear f g b d;obtain⟨f,g,b,d⟩:=m.o w5 W.o;refine hK.out _ _ ⟨f,g,b,d⟩ (λj=>?_);clear hK;try simp only[aC]
  refine bK rfl (λK hK=>?_);go_simp
  refine hK.out _ _ ⟨f,g,b,d⟩ (λj=>?_);clear hK;try simp only[aC]
  refine aM (v:=.bool true) rfl (by rfl) j (λw' q=>?_) ?_
  .go_simp
   try rw[d2]
  simp only[aC];refine cH rfl (λK hK=>?_);go_simp
  refine hK.out _ _ ?_;clear hK;try simp only[aC]
  refine cE ?_;go_wp2
  go_ret
  exact⟨a8 l.o.symm,B2.o.trans (W.o.mono B2.o.size)⟩
def lL (w:World)(b:Nat)(bs:List Bool):Prop:=Box w b 4 (bs.map Value.bool).toArray
section
variable {w w':World} {b:Nat} {bs:List Bool}
def lL.at (h:lL w b bs){j:Nat}(a:j<bs.length):w.cell? ⟨b,j,none⟩=some (.bool (bs.getD j false)):=by
 rw[Box.cell h];simp[a]
def lL.put (h:lL w b bs)(j:Nat)(v:Bool):lL (w.setCell ⟨b,j,none⟩ (.bool v)) b (bs.set j v):=by
 have:=Box.set h j (.bool v);unfold lL;simpa [List.map_set] using this
def lL.of_row {B m:Nat}(h:w.ownsRow B 4 1 (.slice b m m) m (List.replicate m (.bool false))):lL w b (List.replicate m false):=by
 rcases h.2 with⟨c,_⟩|⟨g,cap,d,c,_,f,_,_,k,i⟩
 .cases c
 injection c with a l j;injection a with a;injection a with a;subst a j;have e:d=(List.replicate m (Value.bool false)).toArray:=by
  apply Array.toList_inj.1
  rw[<-i,aW (by simp;omega)]
 unfold lL Box;rw[fE,<-e];exact f
end
def ZH (s:j4)(w:World)(e:Ending)(w':World):Prop :=
 ∃bp a,e=.returned (.tuple #[.slice (some ⟨bp,0,none⟩) s.ps.length s.ps.length,.slice (some ⟨a,0,none⟩) s.ts.length s.ts.length])/\lL w' bp s.ps/\lL w' a s.ts/\Below w.heap.size w w'
def Gj (l:List Bool)(k:Nat):l.set k (l.getD k false)=l:=by
 apply iE
 intro i;rw[iG];by_cases h:k=i
 .subst h;by_cases a:k<l.length
  .simp[a]
  simp[a]
 rw[aD h]
def RQ (N:eB)(i r:Nat):(rounds N.trans r (lK N i)).ps.length=N.places.toNat/\(rounds N.trans r (lK N i)).ts.length=N.trans.length:=by
 have:=gY N.trans (lK N i) r;simpa [lK] using this
def RU (ts:List bG)(s:j4)(k:Nat):(Ad ts k s).ps.length=s.ps.length/\(Ad ts k s).ts.length=s.ts.length:=by
 have:=rY ts s k;exact⟨this.1.symm,this.2.1.symm⟩
def KJ {w:World}{p:Nat}{A:OAd}{n c:Nat}{ts:List bG}{i:Nat}(h:eC w A n c ts)(U:gV ⟨(p:Int),ts⟩=true)(hi:i<p) :
  Calls Tryz.prog 108 #[.agg #[p,.slice A n c],i] w (ZH (mH ⟨(p:Int),ts⟩ i) w):=by
 have c8:p<=16:=by have:=((bN _).1 U).2.1;simp only[]at this;omega
 have c9:n<=24:=by have:=((bN _).1 U).2.2.1;rw[h.len]at this;exact this
 have d1:(i:Int)<(p:Int):=by omega
 have HL:=aA h.len;have H:=aA h;have HO:=aA U;clear h U;generalize a1:w.alloc (.cells #[p,.slice A n c] 41)=w0;have D0:=aA (show Below w w w0 by rw[<-a1];exact aF _ _);have X0:=aA (show Box w0 w 41 #[p,.slice A n c] by rw[<-a1];exact Box.new _ _ _);go_enter Tryz.func108,Tryz.ntmps108
 go_upto_region 1 with fail
 clear a1;obtain⟨c0,c1⟩:=X0.o.two;refine aN 8 (.takes [0,1,3,4,5] (.two 2 (.take 7 (.one 6 (.fin 8 .done))) 6 (.one 2 (.take 7 (.fin 8 .done))))) (λw'=>w'.cell? w=some (.int .i64 p)/\w'.cell? ⟨w,1,none⟩=some (.slice A n c)) (by kernel_rfl) (by kernel_rfl) (by kernel_rfl) (λ_ _ _ _ _ h=>h) ⟨c0,c1⟩ (λR=>?_);simp only[Scr.takes]
 iterate 5
  refine aM (v:=?_) rfl (by rfl) R (λw' b0=>?_) ?_
  rotate_left
  ·(go_simp;try with_reducible rfl)
  simp only[aC]
 have s:=aA X0.o.drew;have F:=aA D0.o.drew;refine DY (.fin 8 .done) (λa0 a' w'=>∃bp f,a'=(((a0.put (some 14) (.slice (some ⟨bp,0,none⟩) p p)).put (some 18) (.slice (some ⟨f,0,none⟩) n n)).put (some 6) (.slice (some ⟨bp,0,none⟩) p p))/\Hid (lL w' bp (List.replicate p false))/\Hid (lL w' f (List.replicate n false))/\(w.heap.size<bp/\w.heap.size<f/\bp≠f)/\Hid (Box w' w 41 #[p,.slice A n c])/\Hid (Below w w w')) ?_ (λEN=>?_)
 .rintro a' wm ⟨bp,f,rfl,W,RT,⟨d2,d3,a2⟩,XM,DM⟩ hS;simp only[aC];refine cH rfl (λK hK=>?_);go_simp
  refine hK.out _ _ ?_;clear hK hS R s F X0 D0 c0 c1;try simp only[aC]
  refine cE ?_;have X:=lL.at W.o (j:=i) (by simpa using hi);have f1:=Box.frozen W.o i;obtain⟨u,x⟩:=XM.o.two;simp only[cJ,uI,hi,if_true,j6]at X;go_upto_region 3 with fail
  generalize V:wm.setCell ⟨bp,i,none⟩ (.bool true)=w1;have g:d8 bp wm w1:=by rw[<-V];exact d8.set _ _ _ _
  obtain⟨G,I⟩:=aK (lK ⟨(p:Int),ts⟩ i);have HW:=aA (show mH ⟨(p:Int),ts⟩ i=rounds ts (p+n) G by rw[mH,I,HL.o];rfl);have WL:=aA (show G.ps.length=p/\G.ts.length=n by rw[<-I,<-HL.o];simp[lK]);have Y1:=aA (show lL w1 bp G.ps by rw[<-V,<-I];exact lL.put W.o i true);have Y2:=aA (show lL w1 f G.ts by rw[<-I];simp only[lK];rw[HL.o];exact g.box RT.o a2.symm);have Y0:=aA (g.box XM.o (by omega));have D1:=aA (show Below w w w1 by rw[<-V];exact DM.o.setCell (show w.heap.size<=bp by omega) _);clear V g I W RT XM DM X f1 u x;obtain⟨u,x⟩:=Y0.o.two;go_wp2
  go_loopw [28] (λr wr=>∃k:Nat,k<=p+n/\r=k/\Hid (lL wr bp (rounds ts k G).ps)/\Hid (lL wr f (rounds ts k G).ts)/\Hid (Box wr w 41 #[p,.slice A n c])/\Hid (Below w w wr)) (λr _=>p+n-(intOf r).toNat)
  case atStart=>exact⟨0,aL _,rfl,Y1,Y2,Y0,D1⟩
  obtain⟨k,hk,rfl,y,l,E,m⟩:=hrel;clear u x;obtain⟨u,x⟩:=E.o.two;by_cases d4:k<p+n
  rotate_left
  .obtain rfl:k=p+n:=by omega
   have RL:=gY ts G (p+n);rw[WL.o.1,WL.o.2]at RL;have b3:=aA RL;clear RL;go_wp2
   refine aU (v:=.tuple #[.slice (some ⟨bp,0,none⟩) p p,.slice (some ⟨f,0,none⟩) n n]) (by simp[results,Tryz.results108,go_sem]) rfl ?_;rw[HW.o];exact⟨bp,f,by rw[b3.o.1,b3.o.2],y.o,l.o,m.o⟩
  have d5:(k:Int)<(p:Int)+(n:Int):=by omega
  obtain⟨S,hS⟩:=aK (rounds ts k G);rw[hS]at y l;have HS:=aA hS;have SL:=aA (show S.ps.length=p/\S.ts.length=n by have:=gY ts G k;rw[hS]at this;have:=WL.o;omega);clear hS;obtain⟨wo,a3⟩:∃wo:World,wo=wr:=⟨_,rfl⟩;subst a3;go_wp2
  go_loopw [33] (λr wr=>∃b:Nat,b<=n/\r=b/\Hid (lL wr bp (Ad ts b S).ps)/\Hid (lL wr f (Ad ts b S).ts)/\Hid (Box wr w 41 #[p,.slice A n c])/\Hid (Below w w wr)) (λr _=>n-(intOf r).toNat)
  case atStart=>exact⟨0,aL _,rfl,y,l,E,m⟩
  clear y l E m u x;obtain⟨b,d6,rfl,y,l,E,m⟩:=hrel;obtain⟨u,x⟩:=E.o.two;by_cases J:b<n
  rotate_left
  .obtain rfl:b=n:=by omega
   have NX:=aA (show rounds ts (k+1) G=Ad ts b S by rw[rounds,HS.o,HL.o]);go_wp2
   go_roundw
   case rel=>exact⟨k+1,by omega,by go_num,by rw[NX.o];exact y,by rw[NX.o];exact l,E,m⟩
   simp[intOf];omega
  have d0:(b:Int)<(n:Int):=by omega
  obtain⟨bl,z,t,A1,n1,c1,A2,n2,c2,rfl,a4,ht,b4,b5,b6,i1,i2,m1,m2⟩:=eC.get H.o J;have q0:=(m.o.cell (p:=⟨bl,z+b*3,none⟩) a4).trans b4;have X:=(m.o.cell (p:=⟨bl,z+b*3+1,none⟩) a4).trans b5;have q2:=(m.o.cell (p:=⟨bl,z+b*3+2,none⟩) a4).trans b6;have Y:=fK HO.o ht.o;have e1:n1=p:=by have:=Y.2.2.1;rw[i1.len]at this;simp only[]at this;omega
  have e2:n2=p:=by have:=Y.2.2.2.1;rw[i2.len]at this;simp only[]at this;omega
  have d7:p<=n1:=by omega
  have e0:p<=n2:=by omega
  have I1:=aA i1;have I2:=aA i2;clear Y e1 e2 i1 i2 b4 b5 b6;obtain⟨T,Y⟩:=aK (Ad ts b S);rw[Y]at y l;have HT:=aA Y;have Z:=aA (show T.ps.length=p/\T.ts.length=n by have:=RU ts S b;rw[Y]at this;have:=SL.o;omega);obtain⟨D,b7⟩:=aK (T.ts.getD b false);have TK:=aA b7;clear Y b7;go_upto_region 8 with fail
  generalize a5:wr.alloc (.cells #[.int .i64 t.label,.slice A1 n1 c1,.slice A2 n2 c2] 74)=w2;have L:Below wr wr w2:=by rw[<-a5];exact aF _ _
  have U0:=aA (E.o.keep L);have U1:=aA (show lL w2 bp T.ps from Box.keep y.o L);have U2:=aA (show lL w2 f T.ts from Box.keep l.o L);have U4:=aA (show Box w2 wr 74 #[.int .i64 t.label,.slice A1 n1 c1,.slice A2 n2 c2] by rw[<-a5];exact Box.new _ _ _);have BU:=aA (m.o.trans (L.mono m.o.size));have e3:bp<wr.heap.size:=Box.lt y.o;have e4:f<wr.heap.size:=Box.lt l.o;have e5:w.heap.size<=wr.heap.size:=m.o.size;clear a5 L E y l m q0 X q2 u x;generalize wr.heap.size=bx at *
  obtain⟨u0,u1⟩:=U0.o.two;obtain⟨y0,y1,y2⟩:=U4.o.three;go_wp2
  go_loopw [40] (λr wr=>∃j:Nat,j<=p/\r=j/\Hid (lL wr bp T.ps)/\Hid (lL wr f (T.ts.set b (orT T.ps t.pre D j)))/\Hid (Box wr w 41 #[p,.slice (some ⟨bl,z,none⟩) n c])/\Hid (Box wr bx 74 #[.int .i64 t.label,.slice A1 n1 c1,.slice A2 n2 c2])/\Hid (Below w w wr)) (λr _=>p-(intOf r).toNat)
  case atStart=>exact⟨0,aL _,rfl,U1,by rw[show T.ts.set b (orT T.ps t.pre D 0)=T.ts by rw[show orT T.ps t.pre D 0=D by simp[orT],<-TK.o];exact Gj _ _];exact U2,U0,U4,BU⟩
  obtain⟨j,hj,rfl,y,l,E,V4,m⟩:=hrel;clear u0 u1 y0 y1 y2;by_cases c7:j<p
  .have e6:(j:Int)<(p:Int):=by omega
   have e7:(j:Int)<(n1:Int):=by omega
   obtain⟨b1,o1,v,rfl,e8,hv,qv⟩:=aY.get (aY.keep I1.o m.o) (k:=j) (by omega);obtain⟨y0,y1,y2⟩:=V4.o.three;have X:=lL.at y.o (j:=j) (by have:=Z.o.1;omega);have q2:=lL.at l.o (j:=b) (by have:=Z.o.2;simp;omega);have f2:=Box.frozen l.o b;rw[show(T.ts.set b (orT T.ps t.pre D j)).getD b false=orT T.ps t.pre D j by have:=Z.o.2;rw[cJ,eQ (by omega)];rfl]at q2;have B:=aA (UR T.ps t.pre D j);rw[iI hv.o]at B;obtain⟨bb,M⟩:=aK (orT T.ps t.pre D j);obtain⟨qq,b9⟩:=aK (T.ps.getD j false);rw[M]at q2 B l;rw[b9]at X B;have a:=aA (λv=>show lL (wr.setCell ⟨f,b,none⟩ (.bool v)) bp T.ps/\lL (wr.setCell ⟨f,b,none⟩ (.bool v)) f (T.ts.set b v)/\Box (wr.setCell ⟨f,b,none⟩ (.bool v)) w 41 #[p,.slice (some ⟨bl,z,none⟩) n c]/\Box (wr.setCell ⟨f,b,none⟩ (.bool v)) bx 74 #[.int .i64 t.label,.slice (some ⟨b1,o1,none⟩) n1 c1,.slice A2 n2 c2]/\Below w w (wr.setCell ⟨f,b,none⟩ (.bool v)) by
    have g:=d8.set wr f b (.bool v);have:=lL.put l.o b v;rw[List.set_set]at this;exact⟨g.box y.o a2,this,g.box E.o (by omega),g.box V4.o (by omega),m.o.setCell (show w.heap.size<=f by omega) _⟩)
   clear M b9 y l E V4 m;cases bb
   .cases qq
    .have d:=aA (show orT T.ps t.pre D (j+1)=false from B.o);go_wp2
     go_roundw
     case rel=>exact⟨j+1,by omega,by go_num,(a.o _).1,by rw[d.o];exact(a.o _).2.1,(a.o _).2.2.1,(a.o _).2.2.2.1,(a.o _).2.2.2.2⟩
     simp[intOf];omega
    by_cases N:0<v
    .have d:=aA (show orT T.ps t.pre D (j+1)=true by rw[B.o];simp[N]);go_wp2
     go_roundw
     case rel=>exact⟨j+1,by omega,by go_num,(a.o _).1,by rw[d.o];exact(a.o _).2.1,(a.o _).2.2.1,(a.o _).2.2.2.1,(a.o _).2.2.2.2⟩
     simp[intOf];omega
    have d:=aA (show orT T.ps t.pre D (j+1)=false by rw[B.o];simp;omega);go_wp2
    go_roundw
    case rel=>exact⟨j+1,by omega,by go_num,(a.o _).1,by rw[d.o];exact(a.o _).2.1,(a.o _).2.2.1,(a.o _).2.2.2.1,(a.o _).2.2.2.2⟩
    simp[intOf];omega
   have d:=aA (show orT T.ps t.pre D (j+1)=true by rw[B.o];rfl);go_wp2
   go_roundw
   case rel=>exact⟨j+1,by omega,by go_num,(a.o _).1,by rw[d.o];exact(a.o _).2.1,(a.o _).2.2.1,(a.o _).2.2.2.1,(a.o _).2.2.2.2⟩
   simp[intOf];omega
  obtain rfl:j=p:=by omega
  obtain⟨C,a6⟩:=aK (orT T.ps t.pre D j);rw[a6]at l;have HU:=aA a6;clear a6 c7 hj;obtain⟨wo,a3⟩:∃wo:World,wo=wr:=⟨_,rfl⟩;subst a3;go_wp2
  go_loopw [67] (λr wr=>∃q:Nat,q<=j/\r=q/\Hid (lL wr bp (orP T.ps C t.post q))/\Hid (lL wr f (T.ts.set b C))/\Hid (Box wr w 41 #[j,.slice (some ⟨bl,z,none⟩) n c])/\Hid (Box wr bx 74 #[.int .i64 t.label,.slice A1 n1 c1,.slice A2 n2 c2])/\Hid (Below w w wr)) (λr _=>j-(intOf r).toNat)
  case atStart=>exact⟨0,aL _,rfl,by rw[US];exact y,l,E,V4,m⟩
  obtain⟨q,hq,rfl,P1,P2,P0,P4,BP⟩:=hrel;by_cases e9:q<j
  rotate_left
  .obtain rfl:q=j:=by omega
   have NX:=aA (show Ad ts (b+1) S=⟨orP T.ps C t.post q,T.ts.set b C⟩ by
    rw[Af _ _ _ ht.o,HT.o,Ns,Z.o.1,TK.o,HU.o])
   go_wp2
   go_roundw
   case rel=>exact⟨b+1,by omega,by go_num,by rw[NX.o];exact P1,by rw[NX.o];exact P2,P0,BP⟩
   simp[intOf];omega
  have f0:(q:Int)<(j:Int):=by omega
  have f3:(q:Int)<(n2:Int):=by omega
  obtain⟨b2,o2,v,rfl,f4,hv,qv⟩:=aY.get (aY.keep I2.o BP.o) (k:=q) (by omega);obtain⟨y0,y1,y2⟩:=P4.o.three;have X:=lL.at P1.o (j:=q) (by have:=Z.o.1;rw[wS];omega);have q2:=lL.at P2.o (j:=b) (by have:=Z.o.2;simp;omega);have f1:=Box.frozen P1.o q;rw[show(T.ts.set b C).getD b false=C by have:=Z.o.2;rw[cJ,eQ (by omega)];rfl]at q2;have B:=aA (UT T.ps C t.post q (by have:=Z.o.1;omega));rw[iI hv.o]at B;obtain⟨bb,M⟩:=aK ((orP T.ps C t.post q).getD q false);rw[M]at X B;have a:=aA (λv=>show lL (wr.setCell ⟨bp,q,none⟩ (.bool v)) bp ((orP T.ps C t.post q).set q v)/\lL (wr.setCell ⟨bp,q,none⟩ (.bool v)) f (T.ts.set b C)/\Box (wr.setCell ⟨bp,q,none⟩ (.bool v)) w 41 #[j,.slice (some ⟨bl,z,none⟩) n c]/\Box (wr.setCell ⟨bp,q,none⟩ (.bool v)) bx 74 #[.int .i64 t.label,.slice A1 n1 c1,.slice (some ⟨b2,o2,none⟩) n2 c2]/\Below w w (wr.setCell ⟨bp,q,none⟩ (.bool v)) by
   have g:=d8.set wr bp q (.bool v);exact⟨lL.put P1.o q v,g.box P2.o a2.symm,g.box P0.o (by omega),g.box P4.o (by omega),BP.o.setCell (show w.heap.size<=bp by omega) _⟩)
  have f5:=aA (Eq.refl C);clear M P1 P2 P0 P4 BP;cases bb
  .cases C
   .have d:=aA (show(orP T.ps false t.post q).set q false=orP T.ps false t.post (q+1)from B.o);go_wp2
    go_roundw
    case rel=>exact⟨q+1,by omega,by go_num,by rw[<-d.o];exact(a.o _).1,(a.o _).2.1,(a.o _).2.2.1,(a.o _).2.2.2.1,(a.o _).2.2.2.2⟩
    simp[intOf];omega
   by_cases N:0<v
   .have d:=aA (show(orP T.ps true t.post q).set q true=orP T.ps true t.post (q+1) by rw[<-B.o];simp[N]);go_wp2
    go_roundw
    case rel=>exact⟨q+1,by omega,by go_num,by rw[<-d.o];exact(a.o _).1,(a.o _).2.1,(a.o _).2.2.1,(a.o _).2.2.2.1,(a.o _).2.2.2.2⟩
    simp[intOf];omega
   have d:=aA (show(orP T.ps true t.post q).set q false=orP T.ps true t.post (q+1) by rw[<-B.o];congr 1;simp;omega);go_wp2
   go_roundw
   case rel=>exact⟨q+1,by omega,by go_num,by rw[<-d.o];exact(a.o _).1,(a.o _).2.1,(a.o _).2.2.1,(a.o _).2.2.2.1,(a.o _).2.2.2.2⟩
   simp[intOf];omega
  have d:=aA (show(orP T.ps C t.post q).set q true=orP T.ps C t.post (q+1) by rw[<-B.o];simp);go_wp2
  go_roundw
  case rel=>exact⟨q+1,by omega,by go_num,by rw[<-d.o];exact(a.o _).1,(a.o _).2.1,(a.o _).2.2.1,(a.o _).2.2.2.1,(a.o _).2.2.2.2⟩
  simp[intOf];omega
 refine mN rfl rfl (λK hK=>?_) (λK hK=>?_)
 .refine jT Tryz.underlying82 sD rfl rfl _ _ rfl p rfl rfl rfl rfl (by omega) (by omega) (aH w0.drew w0.drew) (aB _) ?_;intro wa own hg o;have c5:=aA (lL.of_row own);have O:=aA (s.o.keep o);have P:=aA (F.o.trans (o.mono F.o.size));obtain⟨u,x⟩:=O.o.two;refine hK.out _ _ ⟨u,x⟩ (λR=>?_);clear own hg o hK;simp only[aC];refine aM (v:=?_) rfl (by rfl) R (λw' b0=>?_) ?_
  rotate_left
  ·(go_simp;try with_reducible rfl)
  simp only[aC];refine bK rfl (λK hK=>?_);refine jT Tryz.underlying82 sD rfl rfl _ _ rfl n rfl rfl rfl rfl (by omega) (by omega) (aH wa wa) (aB _) ?_;intro wb own hg o;have RT:=aA (lL.of_row own);have Q:=aA (O.o.keep o);have a9:=aA (P.o.trans (o.mono P.o.size));obtain⟨u,x⟩:=Q.o.two;refine hK.out _ _ ⟨u,x⟩ (λR=>?_);have W:=aA (show lL wb w0.drew (List.replicate p false)from Box.keep c5.o o);have J:w0.drew.heap.size<wa.heap.size:=Box.lt c5.o;clear own hg o hK;simp only[aC];exact EN.o _ _ ⟨_,_,rfl,W,RT,⟨s.o.lt,bD s.o.lt (fR J),by have e:w0.drew.heap.size=w0.heap.size:=rfl;omega⟩,Q,a9⟩ R
 .refine jT Tryz.underlying82 sD rfl rfl _ _ rfl n rfl rfl rfl rfl (by omega) (by omega) (aH w0.drew w0.drew) (aB _) ?_;intro wa own hg o;have c6:=aA (lL.of_row own);have O:=aA (s.o.keep o);have P:=aA (F.o.trans (o.mono F.o.size));obtain⟨u,x⟩:=O.o.two;refine hK.out _ _ ⟨u,x⟩ (λR=>?_);clear own hg o hK;simp only[aC];refine bK rfl (λK hK=>?_);refine jT Tryz.underlying82 sD rfl rfl _ _ rfl p rfl rfl rfl rfl (by omega) (by omega) (aH wa wa) (aB _) ?_;intro wb own hg o;have W:=aA (lL.of_row own);have Q:=aA (O.o.keep o);have a9:=aA (P.o.trans (o.mono P.o.size));obtain⟨u,x⟩:=Q.o.two;refine hK.out _ _ ⟨u,x⟩ (λR=>?_);have RT:=aA (show lL wb w0.drew (List.replicate n false)from Box.keep c6.o o);have J:w0.drew.heap.size<wa.heap.size:=Box.lt c6.o;clear own hg o hK;simp only[aC];refine aM (v:=?_) rfl (by rfl) R (λw' b0=>?_) ?_
  rotate_left
  ·(go_simp;try with_reducible rfl)
  simp only[aC];exact EN.o _ _ ⟨_,_,rfl,W,RT,⟨bD s.o.lt (fR J),s.o.lt,by have e:w0.drew.heap.size=w0.heap.size:=rfl;omega⟩,Q,a9⟩ R
def xO (N:eB)(i:Nat):kX N i=true↔(∀p,p<(mH N i).ps.length->(mH N i).ps.getD p false=true)/\(∀k,k<(mH N i).ts.length->(mH N i).ts.getD k false=true):=by
 unfold kX;simp only[cA,kY,id_eq];have key:∀l:List Bool,(∀x∈l,x=true)↔∀p,p<l.length->l.getD p false=true:=λl=>by
  constructor
  .intro h p hp;rw[cJ,aV hp];exact h _ (j5 _)
  intro h x b;obtain⟨k,a,rfl⟩:=hZ b;have:=h k a;rwa[cJ,aV a]at this
 rw[key,key]
def wU {N:eB}{i:Nat}:(mH N i).ps.length=N.places.toNat/\(mH N i).ts.length=N.trans.length:=RQ N i _
def RV {p:Nat}{ts:List bG}{i o:Nat}(a:gV ⟨(p:Int),ts⟩=true)(c:i<p)(d:o<p)(b:i≠o) :
  eE ⟨(p:Int),ts⟩ i o=if ts.any (wT i o)=true then 1 else if kX ⟨(p:Int),ts⟩ i=true/\kX ⟨(p:Int),ts.map lN⟩ o=true then 0 else 1:=by
 rw[eE,aG a,aG (by simp only[inB,cA,bO];refine⟨⟨⟨⟨?_, ?_⟩, ?_⟩, ?_⟩, ?_⟩ <;> omega)];rfl
def Zg (s:j4)(p n:Nat)(w:World)(e:Ending)(w':World):Prop :=
 ∃bp a,e=.returned (.tuple #[.slice (some ⟨bp,0,none⟩) p p,.slice (some ⟨a,0,none⟩) n n])/\lL w' bp s.ps/\lL w' a s.ts/\Below w.heap.size w w'
def xP {w:World}{p:Nat}{A:OAd}{n c:Nat}{ts:List bG}{i:Nat}(h:eC w A n c ts)(a:gV ⟨(p:Int),ts⟩=true)(b:i<p) :
  Calls Tryz.prog 108 #[.agg #[p,.slice A n c],i] w (Zg (mH ⟨(p:Int),ts⟩ i) p n w):=by
 refine(KJ h a b).mono ?_;rintro e w' ⟨bp,d,rfl,f,g,j⟩;obtain⟨k,l⟩:=wU (N:=⟨(p:Int),ts⟩) (i:=i);rw[k,l];exact⟨bp,d,by rw[<-h.len];rfl,f,g,j⟩
def mU {w:World}{P:Int}{A:OAd}{n c:Nat}{ts:List bG}(i o:Int)(h:eC w A n c ts)(hn:n<=2513169434916) :
  Calls Tryz.prog 47 #[.agg #[P,.slice A n c],i,o] w λe w'=>e=.returned (.int .i64 (eE ⟨P,ts⟩ i o))/\Below w w w':=by
 have H:=aA h;have U:=aA h.len;have c6:=h.small;clear h;have K:=aA (aF w (.cells #[P,.slice A n c] 41));have X0:=aA (Box.new w #[P,.slice A n c] 41);cases hok:gV ⟨P,ts⟩
 .have W0:=aA (jW hok);have a:=aA (show eE ⟨P,ts⟩ i o=2 by rw[eE,hok];rfl);clear hok;go_enter Tryz.func47,Tryz.ntmps47
  go_wp2_with fail
  refine(lE _ P A n c ts (H.o.keep K.o)).mono ?_;rw[W0.o];rintro e w1 ⟨rfl,b⟩;have z:=aA (K.o.trans (b.mono K.o.size));clear b;go_wp2
  go_ret
  exact⟨a8 a.o.symm,z.o⟩
 .have W0:=aA (mL hok);have F:=aA hok;clear hok;obtain⟨p,rfl⟩:∃p:Nat,P=(p:Int):=⟨P.toNat,by have:=((bN _).1 F.o).1;simp only[]at this;omega⟩;have b6:p<=16:=by have:=((bN _).1 F.o).2.1;simp only[]at this;omega
  have b7:n<=24:=by have:=((bN _).1 F.o).2.2.1;rw[U.o]at this;exact this
  obtain⟨mn,a5⟩:=aK (min i o);obtain⟨mx,a6⟩:=aK (max i o);go_enter Tryz.func47,Tryz.ntmps47
  go_wp2_with fail
  refine(lE _ (p:Int) A n c ts (H.o.keep K.o)).mono ?_;rw[W0.o];rintro e w1 ⟨rfl,b⟩;have z:=aA (K.o.trans (b.mono K.o.size));have Y0:=aA (X0.o.keep b);clear b X0 K;obtain⟨V,c1⟩:=Y0.o.two;by_cases d:inB ⟨p,ts⟩ i o=true
  rotate_left
  .have a:=aA (show eE ⟨p,ts⟩ i o=1 by rw[eE,aG F.o,aD d]);simp only[inB,cA,bO]at d;by_cases G:i=o
   .subst G;clear d;go_wp2
    go_ret
    exact⟨a8 a.o.symm,z.o⟩
   have W:(i==o)=false:=by simpa using G
   by_cases hm:mn<0
   .clear d G;go_wp2
    go_ret
    exact⟨a8 a.o.symm,z.o⟩
   have I:(p:Int)<=mx:=eO λI=>d ⟨⟨⟨⟨by omega,by omega⟩,by omega⟩,by omega⟩,G⟩
   have c7:0<=mn:=by omega
   clear d G hm;go_wp2
   go_ret
   exact⟨a8 a.o.symm,z.o⟩
  simp only[inB,cA,bO]at d;obtain⟨⟨⟨⟨h0,h1⟩,h2⟩,h3⟩,G⟩:=d;have X:0<=mn:=by omega
  have Y:mx<(p:Int):=by omega
  obtain⟨i,rfl⟩:∃k:Nat,i=(k:Int):=⟨i.toNat,by omega⟩;obtain⟨o,rfl⟩:∃k:Nat,o=(k:Int):=⟨o.toNat,by omega⟩;have W:((i:Int)==(o:Int))=false:=by simpa using G
  have SH:=aA (RV F.o (i:=i) (o:=o) (by omega) (by omega) (by omega));have a9:i<p:=by omega
  have b0:o<p:=by omega
  clear G;go_upto_region 5 with fail
  clear a5 a6 X Y W;have TO:=aA (show gV ⟨(p:Int),ts.map lN⟩=true from IR (N:=⟨p,ts⟩) F.o);obtain⟨r,B⟩:=aK (mH ⟨(p:Int),ts⟩ i);obtain⟨J,C⟩:=aK (mH ⟨(p:Int),ts.map lN⟩ o);have LA:=aA (show r.ps.length=p/\r.ts.length=n by have:=wU (N:=⟨(p:Int),ts⟩) (i:=i);rw[B]at this;simpa [U.o] using this);have Q:=aA (show J.ps.length=p/\J.ts.length=n by have:=wU (N:=⟨(p:Int),ts.map lN⟩) (i:=o);rw[C]at this;simpa [U.o] using this);have WA:=aA (xO ⟨(p:Int),ts⟩ i);have WB:=aA (xO ⟨(p:Int),ts.map lN⟩ o);rw[B]at WA;rw[C]at WB;have C1:=aA (xP (H.o.keep z.o) F.o a9);rw[B]at C1;go_wp2_with fail
  refine C1.o.mono ?_;rintro e w2 ⟨bp,bt,rfl,Z,r2,b⟩;have B2:=aA (z.o.trans (b.mono z.o.size));have Y1:=aA (Y0.o.keep b);have P1:=aA Z;have T1:=aA r2;clear b Z r2 V c1 Y0 z C1;obtain⟨V,c1⟩:=Y1.o.two;go_wp2_with fail
  refine(Ac (P:=(p:Int)) (H.o.keep B2.o) hn).mono ?_;rintro e w3 ⟨A4,n4,c4,rfl,t4,b⟩;obtain rfl:n4=n:=by have:=t4.len;have:=U.o;simp[lW]at *;omega
  have B3:=aA (B2.o.trans (b.mono B2.o.size));have Y2:=aA (Y1.o.keep b);have P2:=aA (show lL w3 bp r.ps from Box.keep P1.o b);have T2:=aA (show lL w3 bt r.ts from Box.keep T1.o b);have C2:=aA (xP (p:=p) (ts:=ts.map lN) t4 TO.o b0);rw[C]at C2;rw[show(lW ⟨(p:Int),ts⟩).places=(p:Int)from rfl];clear b t4 V c1 Y1 P1 T1 B2 B C;go_wp2_with fail
  refine C2.o.mono ?_;rintro e w4 ⟨bq,bu,rfl,Z,r2,b⟩;have g:=aA (B3.o.trans (b.mono B3.o.size));have Y3:=aA (Y2.o.keep b);have P3:=aA (show lL w4 bp r.ps from Box.keep P2.o b);have T3:=aA (show lL w4 bt r.ts from Box.keep T2.o b);have Q3:=aA Z;have U3:=aA r2;clear b Z r2 Y2 P2 T2 B3 C2;obtain⟨V,c1⟩:=Y3.o.two;have l:=aA (show((∃t∈ts,wT i o t=true)∨(∃q,q<p/\(r.ps.getD q false=false∨J.ps.getD q false=false))∨(∃q,q<n4/\(r.ts.getD q false=false∨J.ts.getD q false=false)))->eE ⟨(p:Int),ts⟩ i o=1 from λhc=>by
   rw[SH.o];by_cases m:ts.any (wT i o)=true
   .rw[aG m]
   rw[aD m,aD];rintro⟨a1,a2⟩;have a3:=WA.o.1 a1;have a4:=WB.o.1 a2;rw[LA.o.1,LA.o.2]at a3;rw[Q.o.1,Q.o.2]at a4;rcases hc with⟨t,L,h⟩|⟨q,f,h|h⟩|⟨q,f,h|h⟩
   .exact m (dO.2 ⟨t,L,h⟩)
   .rw[a3.1 q f]at h;cases h
   .rw[a4.1 q f]at h;cases h
   .rw[a3.2 q f]at h;cases h
   rw[a4.2 q f]at h;cases h)
  go_wp2
  go_loop [49] (λv=>∃k:Nat,k<=p/\v=k/\Hid (∀q,q<k->r.ps.getD q false=true/\J.ps.getD q false=true)) (λv=>p-(intOf v).toNat)
  case atStart=>exact⟨0,aL _,rfl,λq f=>absurd f (by omega)⟩
  obtain⟨k,hk,rfl,lo⟩:=hrel;by_cases a0:k<p
  .have c8:(k:Int)<(p:Int):=by omega
   have q1:=lL.at P3.o (j:=k) (by have:=LA.o.1;omega);have q2:=lL.at Q3.o (j:=k) (by have:=Q.o.1;omega);obtain⟨x,I⟩:=aK (r.ps.getD k false);obtain⟨y,R⟩:=aK (J.ps.getD k false);rw[I]at q1;rw[R]at q2;have HX:=aA I;have HY:=aA R;clear I R;cases x
   .have a:=aA (l.o (.inr (.inl ⟨k,a0,.inl HX.o⟩)));go_wp2
    go_ret
    exact⟨a8 a.o.symm,g.o⟩
   cases y
   .have a:=aA (l.o (.inr (.inl ⟨k,a0,.inr HY.o⟩)));go_wp2
    go_ret
    exact⟨a8 a.o.symm,g.o⟩
   go_wp2
   go_round
   case rel =>
    refine⟨k+1,by omega,by go_num,λq f=>?_⟩;by_cases M:q=k
    .subst M;exact⟨HX.o,HY.o⟩
    exact lo.o q (by omega)
   simp[intOf];omega
  obtain rfl:k=p:=by omega
  go_wp2
  go_loopw [68] (λv wr=>∃j:Nat,j<=n4/\v=j/\Hid (∀q,q<j->r.ts.getD q false=true/\J.ts.getD q false=true/\∀t,ts[q]?=some t->wT i o t=false)/\Hid (Below w4 w4 wr)) (λv _=>n4-(intOf v).toNat)
  case atStart=>exact⟨0,aL _,rfl,λq f=>absurd f (by omega),aH _ _⟩
  obtain⟨j,hj,rfl,D,S⟩:=hrel;clear V c1;by_cases O:j<n4
  rotate_left
  .obtain rfl:j=n4:=by omega
   have a:=aA (show eE ⟨(k:Int),ts⟩ i o=0 by
    rw[SH.o,aD,aG]
    .refine⟨WA.o.2 ⟨λq f=>?_,λq f=>?_⟩,WB.o.2 ⟨λq f=>?_,λq f=>?_⟩⟩
     .exact(lo.o q (by have:=LA.o.1;omega)).1
     .exact(D.o q (by have:=LA.o.2;omega)).1
     .exact(lo.o q (by have:=Q.o.1;omega)).2
     exact(D.o q (by have:=Q.o.2;omega)).2.1
    intro hc;obtain⟨t,L,m⟩:=dO.1 hc;obtain⟨q,f,rfl⟩:=hZ L;have:=(D.o q (by have:=U.o;omega)).2.2 _ (aV f);rw[this]at m;cases m)
   go_wp2
   go_ret
   exact⟨a8 a.o.symm,g.o.trans (S.o.mono g.o.size)⟩
  have c9:(j:Int)<(n4:Int):=by omega
  have BX:=aA (g.o.trans (S.o.mono g.o.size));obtain⟨bl,d0,t,A1,n1,c1,A2,n2,c2,rfl,d1,L,q0,q1,q2,i1,i2,_,_⟩:=eC.get (H.o.keep BX.o) O;have hT:=fK F.o L.o;have e1:n1=k:=by have:=hT.2.2.1;rw[i1.len]at this;simp only[]at this;omega
  have e2:n2=k:=by have:=hT.2.2.2.1;rw[i2.len]at this;simp only[]at this;omega
  subst e1;subst e2;have T:=aF wr (.cells #[.int .i64 t.label,.slice A1 n2 c1,.slice A2 n2 c2] 74);obtain⟨b1,o1,x,rfl,d2,I,qx⟩:=aY.get (k:=o) (aY.keep i1 T) (by omega);obtain⟨b2,o2,y,rfl,d3,R,qy⟩:=aY.get (k:=i) (aY.keep i2 T) (by omega);have x0:=(vN (uL hT.2.2.2.2.1 I.o)).1;have y0:=(vN (uL hT.2.2.2.2.2 R.o)).1;have FN:=aA (show wT i o t=(decide (0<y)||decide (0<x)) by rw[wT,iI R.o,iI I.o]);have TM:=aA (aS L.o);have s:=aA (S.o.trans (T.mono S.o.size));have s1:=lL.at (Box.keep (Box.keepB T3.o S.o (Box.lt T3.o)) T) (j:=j) (by have:=LA.o.2;omega);have s2:=lL.at (Box.keep (Box.keepB U3.o S.o (Box.lt U3.o)) T) (j:=j) (by have:=Q.o.2;omega);obtain⟨u,hu⟩:=aK (r.ts.getD j false);obtain⟨v,hv⟩:=aK (J.ts.getD j false);rw[hu]at s1;rw[hv]at s2;have HU:=aA hu;have HV:=aA hv;clear hT i1 i2 T hu hv;cases u
  .have a:=aA (l.o (.inr (.inr ⟨j,O,.inl HU.o⟩)));go_wp2
   go_ret
   exact⟨a8 a.o.symm,g.o.trans (s.o.mono g.o.size)⟩
  cases v
  .have a:=aA (l.o (.inr (.inr ⟨j,O,.inr HV.o⟩)));go_wp2
   go_ret
   exact⟨a8 a.o.symm,g.o.trans (s.o.mono g.o.size)⟩
  by_cases b3:0<y
  .have b9:(y==0)=false:=by simp;omega
   have a:=aA (l.o (.inl ⟨t,TM.o,by rw[FN.o];simp[b3]⟩));go_wp2
   go_ret
   exact⟨a8 a.o.symm,g.o.trans (s.o.mono g.o.size)⟩
  obtain rfl:y=0:=by omega
  by_cases b4:0<x
  .have c5:(x==0)=false:=by simp;omega
   have a:=aA (l.o (.inl ⟨t,TM.o,by rw[FN.o];simp[b4]⟩));go_wp2
   go_ret
   exact⟨a8 a.o.symm,g.o.trans (s.o.mono g.o.size)⟩
  obtain rfl:x=0:=by omega
  have b5:=aA (show wT i o t=false by rw[FN.o];rfl);go_wp2
  go_roundw
  case rel =>
   refine⟨j+1,by omega,by go_num,λq f=>?_,s⟩;by_cases M:q=j
   .subst M;exact⟨HU.o,HV.o,λt' E=>by rw[L.o]at E;injection E with E;rw[<-E];exact b5.o⟩
   exact D.o q (by omega)
  simp[intOf];omega
