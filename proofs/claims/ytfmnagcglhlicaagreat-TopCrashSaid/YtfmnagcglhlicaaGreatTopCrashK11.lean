/- What can be reached in a finite graph: by looking deeper and deeper, each node once; in plain Lean. Conditions: none. | What chapter 8 says of a net that goes from one place to another, in p -/
import Derived.Maps.OwnSet
import Derived.Maps.OwnOps
import Derived.WideKeyEntry
import Derived.DeepKeys4
import Derived.Test.YtfmnagcglhlicaaGreatTopCrashK10
import Derived.Laws.EntriesVeiled
set_option maxRecDepth 100000
set_option maxHeartbeats 4000000
namespace Go.Proofs.YtfmnagcglhlicaaGreat
section
variable {α:Type} [DecidableEq α]
theorem qF:∀(l all:List α),l.Nodup→(∀x∈l,x∈all)→l.length≤all.length
 | [],_,_,_=>by simp
 | a::l,all,hn,hs=>by
  have ha:a∈all:=hs a (by simp);have hal:a∉l:=(List.nodup_cons.1 hn).1;have:=qF l (all.erase a) (List.nodup_cons.1 hn).2 (fun x hx=>(List.mem_erase_of_ne (a:=x) (b:=a) (by intro e;subst e;exact hal hx)).2 (hs x (by simp[hx])));rw[List.length_erase_of_mem ha]at this;have:0<all.length:=List.length_pos_of_mem ha;simp only[List.length_cons];omega
theorem rG {l all:List α}(hn:l.Nodup)(hs:∀x∈l,x∈all)(hl:all.length≤l.length){x:α}(hx:x∈all):x∈l:=by
 by_cases h:x∈l
 ·exact h
 ·exfalso
  have:=qF (x::l) all (List.nodup_cons.2 ⟨h,hn⟩) (fun y hy=>by
   rcases List.mem_cons.1 hy with rfl|hy
   ·exact hx
   ·exact hs y hy)
  simp only[List.length_cons]at this;omega
inductive fG (s:α→List α):α→α→Prop
 | refl (x:α):fG s x x
 | step {x y z:α} (h:y∈s x) (g:fG s y z):fG s x z
omit [DecidableEq α] in
theorem fG.last {s:α→List α}{x y z:α}(h:fG s x y)(g:z∈s y):fG s x z:=by
 induction h with
 | refl x=>exact .step g (.refl _)
 | step a _ ih=>exact .step a (ih g)
omit [DecidableEq α] in
theorem fG.closed {s:α→List α}{R:List α}(hc:∀y∈R,∀z∈s y,z∈R){x y:α}(h:fG s x y)(hx:x∈R):y∈R:=by
 induction h with
 | refl x=>exact hx
 | step a _ ih=>exact ih (hc _ hx _ a)
omit [DecidableEq α] in
theorem fG.closedP {s:α→List α}{R:α→Prop}(hc:∀y,R y→∀z∈s y,R z){x y:α}(h:fG s x y)(hx:R x):R y:=by
 induction h with
 | refl x=>exact hx
 | step a _ ih=>exact ih (hc _ hx _ a)
def dfs (s:α→List α):Nat→List α→α→List α
 | 0,had,_=>had
 | f+1,had,x=>if x∈had then had else(s x).foldl (dfs s f) (x::had)
structure Had (all had:List α):Prop where
 nodup:had.Nodup
 sub:∀x∈had,x∈all
structure UG (s:α→List α)(all had R:List α)(src:α→Prop):Prop where
 good:Had all R
 more:∀x∈had,x∈R
 seen:∀y∈R,y∈had∨∀z∈s y,z∈R
 from_:∀y∈R,y∈had∨∃x,src x∧fG s x y
 len:had.length≤R.length
theorem yZ {s:α→List α}{all:List α}{f:Nat}(ih:∀(had:List α) (x:α),Had all had→x∈all→all.length≤had.length+f→UG s all had (dfs s f had x) (·=x)∧x∈dfs s f had x) :
  ∀(L acc:List α),(∀z∈L,z∈all)→Had all acc→all.length≤acc.length+f→UG s all acc (L.foldl (dfs s f) acc) (·∈L)∧∀z∈L,z∈L.foldl (dfs s f) acc
 | [],acc,_,hg,_=>⟨⟨hg,fun _ h=>h,fun y h=>.inl h,fun y h=>.inl h,Nat.le_refl _⟩,fun z h=>by simp at h⟩
 | a::L,acc,hL,hg,hl=>by
  obtain⟨F,hx⟩:=ih acc a hg (hL a (by simp)) hl;obtain⟨G,hz⟩:=yZ ih L (dfs s f acc a) (fun z h=>hL z (by simp[h])) F.good (by have:=F.len;omega);refine⟨⟨G.good,fun x h=>G.more x (F.more x h),fun y h=>?_,fun y h=>?_,Nat.le_trans F.len G.len⟩,fun z h=>?_⟩
  ·rcases G.seen y h with h1|h1
   ·rcases F.seen y h1 with h2|h2
    ·exact .inl h2
    ·exact .inr fun z hz'=>G.more z (h2 z hz')
   ·exact .inr h1
  ·rcases G.from_ y h with h1|⟨x,h1,h2⟩
   ·rcases F.from_ y h1 with h3|⟨x,h3,h4⟩
    ·exact .inl h3
    ·exact .inr ⟨x,by simp[h3],h4⟩
   ·exact .inr ⟨x,by simp[h1],h2⟩
  ·rcases List.mem_cons.1 h with rfl|h
   ·exact G.more _ hx
   ·exact hz z h
theorem BJ {s:α→List α}{all:List α}(hs:∀x∈all,∀y∈s x,y∈all):∀(f:Nat) (had:List α) (x:α),Had all had→x∈all→all.length≤had.length+f →
  UG s all had (dfs s f had x) (·=x)∧x∈dfs s f had x:=by
 intro f;induction f with
 | zero =>
  intro had x hg hx hl;have:x∈had:=rG hg.nodup hg.sub (by omega) hx;exact⟨⟨hg,fun _ h=>h,fun y h=>.inl h,fun y h=>.inl h,Nat.le_refl _⟩,this⟩
 | succ f ih =>
  intro had x hg hx hl;unfold dfs;by_cases h:x∈had
  ·rw[if_pos h];exact⟨⟨hg,fun _ h=>h,fun y h=>.inl h,fun y h=>.inl h,Nat.le_refl _⟩,h⟩
  ·rw[if_neg h];have hg':Had all (x::had):=⟨List.nodup_cons.2 ⟨h,hg.nodup⟩,fun y hy=>by
    rcases List.mem_cons.1 hy with rfl|hy
    ·exact hx
    ·exact hg.sub y hy⟩
   obtain⟨F,hz⟩:=yZ ih (s x) (x::had) (hs x hx) hg' (by simp only[List.length_cons];omega);refine⟨⟨F.good,fun y hy=>F.more y (by simp[hy]),fun y hy=>?_,fun y hy=>?_, ?_⟩,F.more x (by simp)⟩
   ·rcases F.seen y hy with h1|h1
    ·rcases List.mem_cons.1 h1 with rfl|h1
     ·exact .inr hz
     ·exact .inl h1
    ·exact .inr h1
   ·rcases F.from_ y hy with h1|⟨z,h1,h2⟩
    ·rcases List.mem_cons.1 h1 with rfl|h1
     ·exact .inr ⟨_,rfl,.refl _⟩
     ·exact .inl h1
    ·exact .inr ⟨x,rfl,.step h1 h2⟩
   ·have:=F.len;simp only[List.length_cons]at this;omega
theorem Nv {s:α→List α}{all:List α}(hs:∀x∈all,∀y∈s x,y∈all)(x:α)(hx:x∈all)(f:Nat)(hf:all.length≤f) :
  Had all (dfs s f [] x)∧∀y,y∈dfs s f [] x↔fG s x y:=by
 obtain⟨F,h⟩:=BJ hs f [] x ⟨List.nodup_nil,fun x h=>by simp at h⟩ hx (by simpa using hf);refine⟨F.good,fun y=>⟨fun hy=>?_,fun hy=>?_⟩⟩
 ·rcases F.from_ y hy with h1|⟨z,rfl,h2⟩
  ·simp at h1
  ·exact h2
 ·refine hy.closed (fun y hy z hz=>?_) h;rcases F.seen y hy with h1|h1
  ·simp at h1
  ·exact h1 z hz
theorem UH {s:α→List α}{all:List α}(hs:∀x∈all,∀y∈s x,y∈all)(hn:all.Nodup)(x:α)(hx:x∈all)(f:Nat)(hf:all.length≤f) :
  all.length≤(dfs s f [] x).length↔∀y∈all,fG s x y:=by
 obtain⟨hg,hr⟩:=Nv hs x hx f hf;refine⟨fun hl y hy=>(hr y).1 (rG hg.nodup hg.sub hl hy),fun h=>qF _ _ hn (fun y hy=>(hr y).2 (h y hy))⟩
end
end Go.Proofs.YtfmnagcglhlicaaGreat
namespace Go.Proofs.YtfmnagcglhlicaaGreat
def Ig (xs:LIn)(j:Nat):List Nat:=(List.range j).filter fun p=>decide (0<atL xs p)
theorem BP (xs:LIn)(j:Nat):Ig xs (j+1)=Ig xs j++(if 0<atL xs j then [j]else []):=by
 unfold Ig;rw[List.range_succ,List.filter_append];congr 1
 by_cases h:0<atL xs j <;> simp[h]
def Ih (ts:List aI)(p j:Nat):List Nat:=(List.range j).filter fun k=>decide (0<atL ((ts[k]?).getD ⟨0,[],[]⟩).pre p)
theorem Nw (ts:List aI)(p j:Nat){t:aI}(h:ts[j]?=some t):Ih ts p (j+1)=Ih ts p j++(if 0<atL t.pre p then [j]else []):=by
 unfold Ih;rw[List.range_succ,List.filter_append];congr 1
 by_cases h':0<atL t.pre p <;> simp[h,h']
abbrev dA:=Bool×Nat
def eX (N:aS):dA→List dA
 |(true,k)=>match N.trans[k]? with
  | none=>[]
  | some t=>(Ig t.post t.post.length).map fun p=>(false,p)
 |(false,p)=>(Ih N.trans p N.trans.length).map fun k=>(true,k)
def gG (N:aS):List dA:=(List.range N.places.toNat).map (fun p=>(false,p))++(List.range N.trans.length).map fun k=>(true,k)
theorem iD (N:aS):(gG N).length=N.places.toNat+N.trans.length:=by simp[gG]
theorem bQ {N:aS}{p:Nat}:((false,p):dA)∈gG N↔p<N.places.toNat:=by simp[gG]
theorem cO {N:aS}{k:Nat}:((true,k):dA)∈gG N↔k<N.trans.length:=by simp[gG]
theorem Fe (N:aS):(gG N).Nodup:=by
 unfold gG;rw[List.nodup_append];refine⟨?_, ?_, ?_⟩
 ·exact List.Pairwise.map _ (fun a b h e=>h (by simpa using e)) List.nodup_range
 ·exact List.Pairwise.map _ (fun a b h e=>h (by simpa using e)) List.nodup_range
 ·intro a ha b hb;simp only[List.mem_map]at ha hb;obtain⟨p,_,rfl⟩:=ha;obtain⟨k,_,rfl⟩:=hb;simp
theorem sE {N:aS}(h:cX N=true):∀x∈gG N,∀y∈eX N x,y∈gG N:=by
 intro x hx y hy;rcases x with⟨b,k⟩
 cases b
 ·simp only[eX,Ih,List.mem_map,List.mem_filter,List.mem_range]at hy;obtain⟨j,⟨hj,_⟩,rfl⟩:=hy;exact cO.2 hj
 ·simp only[eX]at hy;cases ht:N.trans[k]? with
  | none=>rw[ht]at hy;simp at hy
  | some t =>
   rw[ht]at hy;simp only[Ig,List.mem_map,List.mem_filter,List.mem_range]at hy;obtain⟨j,⟨hj,_⟩,rfl⟩:=hy;refine bQ.2 ?_;have:=(cB h ht).2.2.2.1;omega
structure gA where
 ps:List Bool
 ts:List Bool
def orT (ps:List Bool)(pre:LIn)(b:Bool)(j:Nat):Bool:=b||(List.range j).any fun p=>ps.getD p false&&decide (0<atL pre p)
def orP (ps:List Bool)(b:Bool)(post:LIn)(j:Nat):List Bool:=(List.range ps.length).map fun p=>ps.getD p false||(decide (p<j)&&(b&&decide (0<atL post p)))
theorem xR (ps:List Bool)(b:Bool)(post:LIn)(j:Nat):(orP ps b post j).length=ps.length:=by simp[orP]
theorem Ff (ps:List Bool)(b:Bool)(post:LIn)(j p:Nat)(h:p<ps.length):(orP ps b post j).getD p false=(ps.getD p false||(decide (p<j)&&(b&&decide (0<atL post p)))):=by
 simp[orP,h]
def JG (t:aI)(k:Nat)(s:gA):gA:=⟨orP s.ps (orT s.ps t.pre (s.ts.getD k false) s.ps.length) t.post s.ps.length,s.ts.set k (orT s.ps t.pre (s.ts.getD k false) s.ps.length)⟩
def Ew (ts:List aI)(j:Nat)(s:gA):gA:=(List.range j).foldl (fun s k=>JG ((ts[k]?).getD ⟨0,[],[]⟩) k s) s
theorem BS (ts:List aI)(j:Nat)(s:gA){t:aI}(h:ts[j]?=some t):Ew ts (j+1) s=JG t j (Ew ts j s):=by
 unfold Ew;rw[List.range_succ,List.foldl_append];simp[h]
def rounds (ts:List aI):Nat→gA→gA
 | 0,s=>s
 | n+1,s=>Ew ts ts.length (rounds ts n s)
def lN (N:aS)(i:Nat):gA:=⟨(List.replicate N.places.toNat false).set i true,List.replicate N.trans.length false⟩
def sW (N:aS)(i:Nat):gA:=rounds N.trans (N.places.toNat+N.trans.length) (lN N i)
def gA.at (s:gA):dA→Bool
 |(false,p)=>s.ps.getD p false
 |(true,k)=>s.ts.getD k false
def gA.le (s s':gA):Prop:=s.ps.length=s'.ps.length∧s.ts.length=s'.ts.length∧∀x,s.at x=true→s'.at x=true
theorem gA.le.refl (s:gA):s.le s:=⟨rfl,rfl,fun _ h=>h⟩
theorem gA.le.trans {a b c:gA}(h:a.le b)(g:b.le c):a.le c:=⟨h.1.trans g.1,h.2.1.trans g.2.1,fun x hx=>g.2.2 x (h.2.2 x hx)⟩
theorem gA.ext' {s s':gA}(h1:s.ps.length=s'.ps.length)(h2:s.ts.length=s'.ts.length)(h:∀x,s.at x=s'.at x):s=s':=by
 rcases s with⟨ps,ts⟩
 rcases s' with⟨ps',ts'⟩
 simp only at h1 h2;congr 1
 ·apply List.ext_getElem h1
  intro i a b;have:=h (false,i);simpa [gA.at,a,b] using this
 ·apply List.ext_getElem h2
  intro i a b;have:=h (true,i);simpa [gA.at,a,b] using this
theorem gA.le.antisymm {a b:gA}(h:a.le b)(g:b.le a):a=b:=by
 refine gA.ext' h.1 h.2.1 fun x=>?_
 cases ha:a.at x with
 | true=>exact(h.2.2 x ha).symm
 | false =>
  cases hb:b.at x with
  | false=>rfl
  | true=>have:=g.2.2 x hb;rw[ha]at this;cases this
theorem Nx (t:aI)(k:Nat)(s:gA):s.le (JG t k s):=by
 refine⟨by simp[JG,xR],by simp[JG],fun x hx=>?_⟩;rcases x with⟨b,p⟩
 cases b
 ·simp only[gA.at]at hx ⊢;have hp:p<s.ps.length:=by
   by_cases h:p<s.ps.length
   ·exact h
   ·rw[List.getD_eq_getElem?_getD,List.getElem?_eq_none (by omega)]at hx;simp at hx
  simp only[JG];rw[Ff _ _ _ _ _ hp,hx];rfl
 ·simp only[gA.at]at hx ⊢;simp only[JG];by_cases hkp:k=p
  ·subst hkp;have hk:k<s.ts.length:=by
    by_cases h:k<s.ts.length
    ·exact h
    ·rw[List.getD_eq_getElem?_getD,List.getElem?_eq_none (by omega)]at hx;simp at hx
   rw[List.getD_eq_getElem?_getD,List.getElem?_set_self hk,hx];simp[orT]
  ·rw[List.getD_eq_getElem?_getD,List.getElem?_set_ne hkp,←List.getD_eq_getElem?_getD];exact hx
theorem pB (ts:List aI)(s:gA):∀j,s.le (Ew ts j s)
 | 0=>gA.le.refl s
 | j+1=>by
  refine(pB ts s j).trans ?_;unfold Ew;rw[List.range_succ,List.foldl_append];exact Nx _ _ _
theorem Ii (ts:List aI)(s:gA):∀{i j:Nat},i≤j→(Ew ts i s).le (Ew ts j s):=by
 intro i j h;induction h with
 | refl=>exact gA.le.refl _
 | @step m _ ih =>
  refine ih.trans ?_;conv=>rhs;unfold Ew
  rw[List.range_succ,List.foldl_append];exact Nx _ _ _
theorem Cb {N:aS}(hok:cX N=true){s:gA}(hp:s.ps.length=N.places.toNat)(ht:s.ts.length=N.trans.length)(hs:Ew N.trans N.trans.length s=s) :
  ∀x,s.at x=true→∀y∈eX N x,s.at y=true:=by
 have each:∀j (t:aI),N.trans[j]?=some t→JG t j s=s:=by
  intro j t hj;have hlt:j<N.trans.length:=(List.getElem?_eq_some_iff.1 hj).1;have a1:Ew N.trans j s=s:=by
   refine gA.le.antisymm ?_ (pB _ _ _);have:=Ii N.trans s (Nat.le_of_lt hlt);rwa[hs]at this
  have a2:Ew N.trans (j+1) s=s:=by
   refine gA.le.antisymm ?_ (pB _ _ _);have:=Ii N.trans s (show j+1≤N.trans.length from hlt);rwa[hs]at this
  rw[BS _ _ _ hj,a1]at a2;exact a2
 intro x hx y hy;rcases x with⟨b,k⟩
 cases b
 ·simp only[eX,Ih,List.mem_map,List.mem_filter,List.mem_range,decide_eq_true_eq]at hy;obtain⟨j,⟨hj,hw⟩,rfl⟩:=hy;have hg:=List.getElem?_eq_getElem hj;rw[hg]at hw;have e:=congrArg gA.ts (each j _ hg);simp only[JG]at e;have e2:s.ts.getD j false=orT s.ps N.trans[j].pre (s.ts.getD j false) s.ps.length:=by
   conv=>lhs;rw[←e]
   rw[List.getD_eq_getElem?_getD,List.getElem?_set_self (by omega)];rfl
  simp only[gA.at]at hx ⊢;rw[e2];unfold orT;have hk:k<s.ps.length:=by
   by_cases h:k<s.ps.length
   ·exact h
   ·rw[List.getD_eq_getElem?_getD,List.getElem?_eq_none (by omega)]at hx;simp at hx
  simp only[Bool.or_eq_true,List.any_eq_true,List.mem_range,Bool.and_eq_true,decide_eq_true_eq];exact .inr ⟨k,hk,hx,hw⟩
 ·simp only[eX]at hy;cases hg:N.trans[k]? with
  | none=>rw[hg]at hy;simp at hy
  | some t =>
   rw[hg]at hy;simp only[Ig,List.mem_map,List.mem_filter,List.mem_range,decide_eq_true_eq]at hy;obtain⟨p,⟨hpl,hw⟩,rfl⟩:=hy;have hpp:p<s.ps.length:=by have:=(cB hok hg).2.2.2.1;omega
   have e:=congrArg gA.ps (each k t hg);simp only[JG]at e;simp only[gA.at]at hx ⊢;rw[←e,Ff _ _ _ _ _ hpp,hx];simp[orT,hw,hpp]
theorem JH {N:aS}{Q:dA→Prop}(hQ:∀x,Q x→∀y∈eX N x,Q y){k:Nat}{t:aI}(hk:N.trans[k]?=some t)(hl:t.post.length=N.places.toNat){s:gA}(hp:s.ps.length=N.places.toNat)(h:∀x,s.at x=true→Q x):∀x,(JG t k s).at x=true→Q x:=by
 have hT:orT s.ps t.pre (s.ts.getD k false) s.ps.length=true→Q (true,k):=by
  intro e;simp only[orT,Bool.or_eq_true,List.any_eq_true,List.mem_range,Bool.and_eq_true,decide_eq_true_eq]at e;rcases e with e|⟨p,hpl,e1,e2⟩
  ·exact h (true,k) e
  ·refine hQ (false,p) (h (false,p) e1) _ ?_;simp only[eX,Ih,List.mem_map,List.mem_filter,List.mem_range,decide_eq_true_eq];exact⟨k,⟨(List.getElem?_eq_some_iff.1 hk).1,by rw[hk];exact e2⟩,rfl⟩
 intro x hx;rcases x with⟨b,p⟩
 cases b
 ·simp only[gA.at,JG]at hx;have hpl:p<s.ps.length:=by
   by_cases h:p<s.ps.length
   ·exact h
   ·rw[List.getD_eq_getElem?_getD,List.getElem?_eq_none (by rw[xR];omega)]at hx;simp at hx
  rw[Ff _ _ _ _ _ hpl]at hx;simp only[Bool.or_eq_true,Bool.and_eq_true,decide_eq_true_eq]at hx;rcases hx with hx|⟨_,h1,h2⟩
  ·exact h (false,p) hx
  ·refine hQ (true,k) (hT h1) _ ?_;simp only[eX,hk,Ig,List.mem_map,List.mem_filter,List.mem_range,decide_eq_true_eq];exact⟨p,⟨by omega,h2⟩,rfl⟩
 ·simp only[gA.at,JG]at hx;by_cases hkp:k=p
  ·subst hkp;rw[List.getD_eq_getElem?_getD,List.getElem?_set]at hx;by_cases hkl:k<s.ts.length
   ·rw[if_pos rfl,if_pos hkl]at hx;exact hT hx
   ·rw[if_pos rfl,if_neg hkl]at hx;simp at hx
  ·rw[List.getD_eq_getElem?_getD,List.getElem?_set_ne hkp,←List.getD_eq_getElem?_getD]at hx;exact h (true,p) hx
theorem xT {N:aS}(hok:cX N=true){Q:dA→Prop}(hQ:∀x,Q x→∀y∈eX N x,Q y){s:gA}(hp:s.ps.length=N.places.toNat)(h:∀x,s.at x=true→Q x):∀j,j≤N.trans.length→∀x,(Ew N.trans j s).at x=true→Q x
 | 0,_=>h
 | j+1,hj=>by
  have hg:=List.getElem?_eq_getElem (show j<N.trans.length by omega);rw[BS _ _ _ hg];exact JH hQ hg (by have:=(cB hok hg).2.2.2.1;omega) (by rw[←(pB N.trans s j).1];exact hp) (xT hok hQ hp h j (by omega))
def gA.cnt (s:gA)(N:aS):Nat:=((gG N).filter s.at).length
theorem Cc {α:Type}{p q:α→Bool}(h:∀x,p x=true→q x=true):∀l:List α,(l.filter p).length≤(l.filter q).length
 | []=>by simp
 | a::l=>by
  have:=Cc h l;cases hp:p a with
  | true=>rw[List.filter_cons_of_pos hp,List.filter_cons_of_pos (h a hp)];simp;omega
  | false =>
   rw[List.filter_cons_of_neg (by simp[hp])];cases hq:q a with
   | true=>rw[List.filter_cons_of_pos hq];simp;omega
   | false=>rw[List.filter_cons_of_neg (by simp[hq])];exact this
theorem Cd {α:Type}{p q:α→Bool}(h:∀x,p x=true→q x=true):∀{l:List α} {a:α},a∈l→p a=false→q a=true→(l.filter p).length<(l.filter q).length
 | b::l,a,ha,hp,hq=>by
  rcases List.mem_cons.1 ha with rfl|ha
  ·rw[List.filter_cons_of_neg (by simp[hp]),List.filter_cons_of_pos hq];have:=Cc h l;simp;omega
  ·have:=Cd h ha hp hq;cases hpb:p b with
   | true=>rw[List.filter_cons_of_pos hpb,List.filter_cons_of_pos (h b hpb)];simp;omega
   | false =>
    rw[List.filter_cons_of_neg (by simp[hpb])];cases hqb:q b with
    | true=>rw[List.filter_cons_of_pos hqb];simp;omega
    | false=>rw[List.filter_cons_of_neg (by simp[hqb])];exact this
theorem VW {N:aS}{s:gA}(hp:s.ps.length=N.places.toNat)(ht:s.ts.length=N.trans.length){x:dA}(h:s.at x=true):x∈gG N:=by
 rcases x with⟨b,k⟩
 cases b
 ·refine bQ.2 ?_;by_cases hk:k<s.ps.length
  ·omega
  ·simp only[gA.at]at h;rw[List.getD_eq_getElem?_getD,List.getElem?_eq_none (by omega)]at h;simp at h
 ·refine cO.2 ?_;by_cases hk:k<s.ts.length
  ·omega
  ·simp only[gA.at]at h;rw[List.getD_eq_getElem?_getD,List.getElem?_eq_none (by omega)]at h;simp at h
theorem Q7 {N:aS}{s s':gA}(h:s.le s')(hne:s≠s')(hp:s'.ps.length=N.places.toNat)(ht:s'.ts.length=N.trans.length):s.cnt N<s'.cnt N:=by
 have:∃x,s'.at x=true∧s.at x=false:=by
  refine Classical.byContradiction fun hn=>hne (h.antisymm ⟨h.1.symm,h.2.1.symm,fun x hx=>?_⟩)
  cases hs:s.at x with
  | true=>rfl
  | false=>exact absurd ⟨x,hx,hs⟩ hn
 obtain⟨x,h1,h2⟩:=this;exact Cd h.2.2 (VW hp ht h1) h2 h1
theorem gI (ts:List aI)(s:gA):∀n,(rounds ts n s).ps.length=s.ps.length∧(rounds ts n s).ts.length=s.ts.length
 | 0=>⟨rfl,rfl⟩
 | n+1=>by
  have:=pB ts (rounds ts n s) ts.length;exact⟨this.1.symm.trans (gI ts s n).1,this.2.1.symm.trans (gI ts s n).2⟩
theorem uN (N:aS){s:gA}(hp:s.ps.length=N.places.toNat)(ht:s.ts.length=N.trans.length):∀n,Ew N.trans N.trans.length (rounds N.trans n s)=rounds N.trans n s∨n+s.cnt N≤(rounds N.trans n s).cnt N
 | 0=>.inr (by simp[rounds])
 | n+1=>by
  rcases uN N hp ht n with h|h
  ·left;rw[rounds,h,h]
  ·by_cases e:Ew N.trans N.trans.length (rounds N.trans n s)=rounds N.trans n s
   ·left;rw[rounds,e,e]
   ·right
    have hl:=gI N.trans s (n+1);have:=Q7 (N:=N) (pB N.trans (rounds N.trans n s) N.trans.length) (fun h=>e h.symm) (by rw[rounds]at hl;omega) (by rw[rounds]at hl;omega);rw[rounds];omega
theorem Fg {N:aS}(hok:cX N=true){i:Nat}(hi:i<N.places.toNat)(x:dA):(sW N i).at x=true↔fG (eX N) (false,i) x:=by
 have l1:(lN N i).ps.length=N.places.toNat:=by simp[lN]
 have l2:(lN N i).ts.length=N.trans.length:=by simp[lN]
 have a0:(lN N i).at (false,i)=true:=by simp[lN,gA.at,hi]
 have c0:0<(lN N i).cnt N:=List.length_pos_of_mem (List.mem_filter.2 ⟨bQ.2 hi,a0⟩);have hl:=gI N.trans (lN N i) (N.places.toNat+N.trans.length);have still:Ew N.trans N.trans.length (sW N i)=sW N i:=by
  rcases uN N l1 l2 (N.places.toNat+N.trans.length)with h|h
  ·exact h
  ·exfalso
   have:(rounds N.trans (N.places.toNat+N.trans.length) (lN N i)).cnt N≤N.places.toNat+N.trans.length:=by
    rw[←iD];exact List.length_filter_le _ _
   omega
 have mono:∀n,(lN N i).le (rounds N.trans n (lN N i)):=by
  intro n;induction n with
  | zero=>exact gA.le.refl _
  | succ n ih=>exact ih.trans (pB _ _ _)
 constructor
 ·intro h;have sound:∀n,∀x,(rounds N.trans n (lN N i)).at x=true→fG (eX N) (false,i) x:=by
   intro n;induction n with
   | zero =>
    intro x hx;rcases x with⟨b,k⟩
    cases b
    ·have:k=i:=by
      simp only[rounds,lN,gA.at,List.getD_eq_getElem?_getD,List.getElem?_set]at hx;by_cases e:i=k
      ·exact e.symm
      ·rw[if_neg e,List.getElem?_replicate]at hx;split at hx <;> simp at hx
     subst this;exact .refl _
    ·simp only[rounds,lN,gA.at,List.getD_eq_getElem?_getD,List.getElem?_replicate]at hx;split at hx <;> simp at hx
   | succ n ih =>
    exact xT hok (Q:=fG (eX N) (false,i)) (fun x hx y hy=>hx.last hy) (by have:=gI N.trans (lN N i) n;omega) ih _ (Nat.le_refl _)
  exact sound _ x h
 ·intro h;exact h.closedP (R:=fun x=>(sW N i).at x=true) (Cb hok (by rw[sW];omega) (by rw[sW];omega) still) ((mono _).2.2 _ a0)
def lO (N:aS)(i:Nat):Bool:=(sW N i).ps.all id&&(sW N i).ts.all id
theorem Fh {N:aS}(hok:cX N=true){i:Nat}(hi:i<N.places.toNat):lO N i=true↔∀x∈gG N,fG (eX N) (false,i) x:=by
 have hl:=gI N.trans (lN N i) (N.places.toNat+N.trans.length);have l1:(sW N i).ps.length=N.places.toNat:=by rw[sW,hl.1];simp[lN]
 have l2:(sW N i).ts.length=N.trans.length:=by rw[sW,hl.2];simp[lN]
 unfold lO;simp only[Bool.and_eq_true,List.all_eq_true,id_eq];constructor
 ·rintro⟨h1,h2⟩ x hx;refine(Fg hok hi x).1 ?_;rcases x with⟨b,k⟩
  cases b
  ·have hk:=bQ.1 hx;simp only[gA.at];rw[List.getD_eq_getElem?_getD,List.getElem?_eq_getElem (by omega)];exact h1 _ (List.getElem_mem _)
  ·have hk:=cO.1 hx;simp only[gA.at];rw[List.getD_eq_getElem?_getD,List.getElem?_eq_getElem (by omega)];exact h2 _ (List.getElem_mem _)
 ·intro h;refine⟨fun x hx=>?_,fun x hx=>?_⟩
  ·obtain⟨k,hk,rfl⟩:=List.getElem_of_mem hx;have:=(Fg hok hi (false,k)).2 (h _ (bQ.2 (by omega)));simpa [gA.at,hk] using this
  ·obtain⟨k,hk,rfl⟩:=List.getElem_of_mem hx;have:=(Fg hok hi (true,k)).2 (h _ (cO.2 (by omega)));simpa [gA.at,hk] using this
def Q8 (N:aS)(i:Nat):List dA:=dfs (eX N) (N.places.toNat+N.trans.length) [] (false,i)
theorem Ce {N:aS}(hok:cX N=true){i:Nat}(hi:i<N.places.toNat):N.places.toNat+N.trans.length≤(Q8 N i).length↔lO N i=true:=by
 rw[Fh hok hi,←UH (sE hok) (Fe N) (false,i) (bQ.2 hi) _ (Nat.le_of_eq (iD N)),iD];rfl
def JI (i o:Nat)(t:aI):Bool:=decide (0<atL t.post i)||decide (0<atL t.pre o)
def inB (N:aS)(i o:Int):Bool:=decide (0≤i)&&decide (0≤o)&&decide (i<N.places)&&decide (o<N.places)&&decide (i≠o)
def dV (N:aS)(i o:Int):Int :=
 if cX N=true then(if inB N i o=true then(if N.trans.any (JI i.toNat o.toNat)=true then 1 else if lO N i.toNat=true∧lO (kR N) o.toNat=true then 0 else 1)else 1)else 2
end Go.Proofs.YtfmnagcglhlicaaGreat
namespace Go.Proofs.YtfmnagcglhlicaaGreat
open Go.RowKit Go.Maps Go.MapKept Go.ChangeMaps Go.WideElems Go.ChangeShapes
theorem Ny {P:Program} {ops:Array Oper} {Q:Exit→Act→World→Prop} {S:World→Prop} {T:Scr} (Tend:Scr) {a0:Act} {w0:World} (F:Act→Act→World→Prop) (hF:∀a' w',F a0 a' w'→S w'→dJ P ops Q S Tend a' w')
  (h:Hid (∀a' w',F a0 a' w'→S w'→dJ P ops Q S Tend a' w')→dJ P ops Q S T a0 w0):dJ P ops Q S T a0 w0:=h hF
theorem Ub {P:Program} {ops:Array Oper} {Q:Exit→Act→World→Prop} {S:World→Prop} {i:Nat} {r:Scr} {a:Act} {w:World} {o:Oper} (ho:nth ops.toList i=some o) (hw:Region.wanted o (yielded ops a.tmps)=false) (hS:S w)
  (h:dJ P ops Q S r (a.put o.dst undef) w):dJ P ops Q S (.take i r) a w :=
 ⟨o,undef,fU ho,.inr ⟨hw,rfl⟩,hS,h⟩
section
variable {H:Type} {P:Program} {k t e:TypeId} {R:Value→Option (DataW H×List MemPlace)} {w:World} {b n:Nat} {D:DataW H}
theorem jJ {es:Array MapEntry}{clock:Nat}(hb:w.heap[b]?=some (.map es clock))(o:Obj):w.grownBy (setBlock w b o) (some b)∧(setBlock w b o).heap.size=w.heap.size :=
 ⟨⟨rfl,rfl,rfl,by simp[setBlock],fun i _ hi=>heap_setBlock_other hb _ (fun e=>hi (by rw[e]))⟩,by simp[setBlock]⟩
theorem fC {w':World}(h:w.ownsMap P k R b n D)(hb:w'.heap[b]?=w.heap[b]?):w'.ownsMap P k R b n D:=by
 obtain⟨es,clock,h1,h2,h3,h4⟩:=h;exact⟨es,clock,hb.trans h1,h2,h3,h4⟩
theorem Nz (h:w.ownsMap P k R b n D) (K:Keyed P k) (ht:P.underlying t=some (.map k e)) (hn:n<maxLen) {z:Value} (hz:∀u:World,(zeroValue e).run P u=.ok z u) {zd:DataW H} {zp:List MemPlace} (hzd:R z=some (zd,zp))
  {key:Value} {kl:Lit} (hkey:keyOf P k key=some kl) :
  ∃(v0:Value) (st:Nat) (w1:World),(Instr.mapEntry t (.map (some b)) key).run P w=.ok (.tuple #[v0,goInt st]) w1∧w.grownBy w1 (some b)∧w1.heap.size=w.heap.size ∧
   (∃D1,w1.ownsMap P k R b (n+1) D1∧D1.atKey kl zd=D.atKey kl zd) ∧
   ∀(w2:World) (val:Value) (d:DataW H) (ps:List MemPlace),w2.heap[b]?=w1.heap[b]?→R val=some (d,ps) →
    ∃w3,(Instr.entryStore t (.map (some b)) (goInt st) val).run P w2=.ok () w3∧w3.ownsMap P k R b (n+1) (D.put kl d)∧w2.grownBy w3 (some b)∧w3.heap.size=w2.heap.size:=by
 have hown:=h;obtain⟨es,clock,hb,F,hs,hD⟩:=h;obtain⟨s1,s2,_⟩:=F.stamped;have same:∀{w2 w':World} {es':Array MapEntry} {clock':Nat} {d:DataW H},w'.ownsMap P k R b (n+1) (D.put kl d)→w'=setBlock w b (.map es' clock')→(∃es2 c2,w2.heap[b]?=some (.map es2 c2))→(setBlock w2 b (.map es' clock')).ownsMap P k R b (n+1) (D.put kl d):=by
  rintro w2 w' es' clock' d h1 rfl ⟨es2,c2,h2⟩;exact fC h1 ((heap_setBlock_same h2 _).trans (heap_setBlock_same hb _).symm)
 rcases K.find w hkey es.toList F.keys with⟨h1,h2⟩|⟨j,e0,h1,h2,h3⟩
 ·
  obtain⟨wz,z1,z2,z3⟩:=hown.update K ht hn hkey hzd;have up:∀val:Value,(Instr.mapUpdate t (.map (some b)) key val).run P w=.ok () (setBlock w b (.map (es.push ⟨key,val,clock⟩) (clock+1))):=fun val=>by
   simp[Instr.mapUpdate,run_underlying ht,MapKept.run_getObj_map hb,K.check w false hkey,h1,MapKept.run_setObj_map _ hb,Result.andThen,setBlock]
  have ez:wz=setBlock w b (.map (es.push ⟨key,z,clock⟩) (clock+1)):=by
   rw[up z]at z1;injection z1 with _ z1;exact z1.symm
  have miss:D.atKey kl zd=zd:=by
   rcases Maps.fit_look false K ht (hz w) hb F hkey with⟨_,_,hat⟩|⟨e1,y,he1,hk1,_⟩
   ·rw[hD];exact hat zd
   ·exact absurd hk1 (h2 e1 he1)
  refine⟨z,clock,wz, ?_,z3,by rw[ez];exact(jJ hb _).2,⟨D.put kl zd,z2, ?_⟩,fun w2 val d ps hw2 hv=>?_⟩
  ·rw[ez];simp[Instr.mapEntry,run_underlying ht,MapKept.run_getObj_map hb,K.check w false hkey,h1,hz,MapKept.run_setObj_map _ hb,Result.andThen,setBlock]
  ·rw[miss,hD];exact Maps.atKey_put_same ⟨_,rfl⟩ (K.key hkey) _ _
  ·have hw2':w2.heap[b]?=some (.map (es.push ⟨key,z,clock⟩) (clock+1)):=by rw[hw2,ez];exact heap_setBlock_same hb _
   have hidx:(es.push ⟨key,z,clock⟩).findIdx? (fun e=>((e.born:Nat):Int)==((clock:Nat):Int))=some es.size:=by
    rw[findIdx_arr];refine findIdx_born (l:=(es.push ⟨key,z,clock⟩).toList) (j:=es.size) (e0:=⟨key,z,clock⟩) ?_ (by simp);simp only[Array.toList_push,List.map_append,List.map_cons,List.map_nil];refine List.nodup_append.2 ⟨s2,by simp,fun a ha c hc e1=>?_⟩;simp only[List.mem_singleton]at hc;obtain⟨x,hx,rfl⟩:=List.mem_map.1 ha;have:=s1 x hx;omega
   have hmod:(es.push ⟨key,z,clock⟩).modify es.size (fun e=>{e with val:=val})=es.push ⟨key,val,clock⟩:=by
    apply Array.ext'
    rw[Array.toList_modify,Array.toList_push,Array.toList_push,←Array.length_toList,modify_last]
   obtain⟨wv,v1,v2,_⟩:=hown.update K ht hn hkey hv;rw[up val]at v1;injection v1 with _ v1;refine⟨setBlock w2 b (.map (es.push ⟨key,val,clock⟩) (clock+1)), ?_,same v2 v1.symm ⟨_,_,hw2'⟩,(jJ hw2' _).1,(jJ hw2' _).2⟩;simp[Instr.entryStore,MapKept.run_getObj_map hw2',asInt,asIntOf,goInt,hidx,hmod,MapKept.run_setObj_map _ hw2',Result.andThen,setBlock]
 ·
  have hj:es[j]?=some e0:=by simpa using h2
  have hsame:es.modify j (fun e=>{e with key:=key})=es:=by
   apply Array.ext'
   rw[Array.toList_modify,modify_eq_set _ _ _ _ h2];have:({e0 with key:=key}:MapEntry)=e0:=by rw[←h3]
   rw[this];exact set_self _ _ _ h2
  have hw1:(setBlock w b (.map es clock)).heap[b]?=some (.map es clock):=heap_setBlock_same hb _;refine⟨e0.val,e0.born,setBlock w b (.map es clock), ?_,(jJ hb _).1,(jJ hb _).2,⟨D,(fC hown (hw1.trans hb.symm)).mono (Nat.le_succ _),rfl⟩,fun w2 val d ps hw2 hv=>?_⟩
  ·simp[Instr.mapEntry,run_underlying ht,MapKept.run_getObj_map hb,K.check w false hkey,h1,hj,h3,K.stays w hkey,hsame,MapKept.run_setObj_map _ hb,Result.andThen,setBlock]
  ·have hw2':w2.heap[b]?=some (.map es clock):=hw2.trans hw1;have hidx:es.findIdx? (fun e=>((e.born:Nat):Int)==((e0.born:Nat):Int))=some j:=by
    rw[findIdx_arr];exact findIdx_born s2 h2
   have hmod:es.modify j (fun e=>{e with val:=val})=es.modify j (fun e'=>{e' with key:=key,val:=val}):=by
    apply Array.ext'
    rw[Array.toList_modify,Array.toList_modify,modify_eq_set _ _ _ _ h2,modify_eq_set _ _ _ _ h2,←h3]
   obtain⟨wv,v1,v2,_⟩:=hown.update K ht hn hkey hv;have up:(Instr.mapUpdate t (.map (some b)) key val).run P w=.ok () (setBlock w b (.map (es.modify j (fun e'=>{e' with key:=key,val:=val})) clock)):=by
    simp[Instr.mapUpdate,run_underlying ht,MapKept.run_getObj_map hb,K.check w false hkey,h1,hj,h3,K.stays w hkey,MapKept.run_setObj_map _ hb,Result.andThen,setBlock]
   rw[up]at v1;injection v1 with _ v1;refine⟨setBlock w2 b (.map (es.modify j (fun e'=>{e' with key:=key,val:=val})) clock), ?_,same v2 v1.symm ⟨_,_,hw2'⟩,(jJ hw2' _).1,(jJ hw2' _).2⟩;simp[Instr.entryStore,MapKept.run_getObj_map hw2',asInt,asIntOf,goInt,hidx,hmod,MapKept.run_setObj_map _ hw2',Result.andThen,setBlock]
end
end Go.Proofs.YtfmnagcglhlicaaGreat
namespace Go.Proofs.YtfmnagcglhlicaaGreat
open Go.RowKit Go.Maps
def uO (x:dA):Value:=.agg #[.bool x.1,.int .i64 x.2]
theorem pC:Keyed Tryz.prog 204:=Keyed.of_law (deep_law_laid Facts.laidOut (m:=2) (by decide) (of_decide_eq_true (by kernel_rfl)) (by kernel_rfl) (by kernel_rfl))
theorem Fj:Tryz.prog.keyType 204=true:=by kernel_rfl
theorem Cf:Tryz.prog.cellsOf 204=2:=by kernel_rfl
theorem NC:Tryz.prog.cellsOf 4=1:=by kernel_rfl
theorem Q9:Tryz.prog.cellsOf 3=1:=by kernel_rfl
def y7 (x:dA):Lit:=.string (keyBytes [.bool x.1,.int .i64 (x.2:Int)])
theorem qG (x:dA)(h:x.2≤1000):keyOf Tryz.prog 204 (uO x)=some (y7 x):=by
 have hw:(Lit.int .i64 (x.2:Int)).wf=true:=WalkArith.wf_i64 (by omega);have hsz:∃m,Tryz.prog.types.size+1=m+2:=⟨Tryz.prog.types.size-1,by have:0<Tryz.prog.types.size:=of_decide_eq_true (by kernel_rfl);omega⟩;obtain⟨m,hm⟩:=hsz;unfold keyOf;rw[Tryz.underlying204];simp only[Fj,uO,Value.formed,Tryz.underlying204,Cf,hm];simp[Program.keyLits,Tryz.underlying204,Cf,NC,Q9,Tryz.underlying4,Tryz.underlying3,hw,Value.cells,y7]
theorem NH {x y:dA}(hx:x.2≤1000)(hy:y.2≤1000)(h:y7 x=y7 y):x=y:=by
 have:=pC.inj (qG x hx) (by rw[h];exact qG y hy);simp only[uO,Value.agg.injEq,Array.mk.injEq,List.cons.injEq,Value.bool.injEq,Value.int.injEq,true_and,and_true,Int.natCast_inj]at this;exact Prod.ext this.1 this.2
def pD (w:World)(b:Nat)(had:List dA):Prop :=
 ∃D:DataW Unit,w.ownsMap Tryz.prog 204 (plainElem Tryz.prog 3) b had.length D∧Maps.size D=had.length∧(∀x:dA,x.2≤1000→x∈had→∀z,D.atKey (y7 x) z=.lit (.int .i64 1))∧(∀x:dA,x.2≤1000→x∉had→Maps.has D (y7 x)=false)
theorem pD.made (w:World):pD (w.alloc (.map #[] 0)) w.heap.size [] :=
 ⟨.map [],World.ownsMap_made _ _ _ _,rfl,fun x _ h=>by simp at h,fun x _ _=>rfl⟩
theorem pD.of_block {w w':World}{b:Nat}{had:List dA}(h:pD w b had)(hb:w'.heap[b]?=w.heap[b]?):pD w' b had:=by
 obtain⟨D,h1,h2⟩:=h;exact⟨D,fC h1 hb,h2⟩
theorem pD.lt {w:World}{b:Nat}{had:List dA}(h:pD w b had):b<w.heap.size:=by
 obtain⟨D,h1,_⟩:=h;exact h1.lt
theorem pD.alloc {w:World}{b:Nat}{had:List dA}(h:pD w b had)(o:Obj):pD (w.alloc o) b had:=h.of_block (heap_alloc_old w o h.lt)
theorem pD.keep {w w':World}{b:Nat}{had:List dA}(h:pD w b had)(hb:Below w.heap.size w w'):pD w' b had:=h.of_block (hb.block b h.lt)
theorem Fo (w:World):(zeroValue 3).run Tryz.prog w=.ok (.int .i64 0) w:=by kernel_rfl
theorem pD.look {w:World}{b:Nat}{had:List dA}(h:pD w b had)(x:dA)(hx:x.2≤1000) :
  (Instr.lookup 145 (.map (some b)) (uO x) false).run Tryz.prog w=.ok (.int .i64 (if x∈had then 1 else 0)) w:=by
 obtain⟨D,h1,h2,h3,h4⟩:=h;obtain⟨c,iW,hat,_⟩:=h1.lookup_int pC Tryz.underlying145 Tryz.underlying3 (Fo w) (qG x hx);rw[iW];by_cases hm:x∈had
 ·rw[h3 x hx hm]at hat;simp only[DataW.lit.injEq,Lit.int.injEq,true_and]at hat;rw[if_pos hm,←hat]
 ·rw[Maps.atKey_of_not_has (h4 x hx hm)]at hat;simp only[DataW.lit.injEq,Lit.int.injEq,true_and]at hat;rw[if_neg hm,←hat]
theorem pD.len {w:World}{b:Nat}{had:List dA}(h:pD w b had)(ty:TypeId):(Builtin.len_ #[145] ty #[.map (some b)]).run Tryz.prog w=.ok (.int .i64 had.length) w:=by
 obtain⟨D,h1,h2,_⟩:=h;rw[h1.len Tryz.underlying145 ty,h2]
theorem pD.entry {w:World}{b:Nat}{had:List dA}(h:pD w b had)(x:dA)(hx:x.2≤1000)(hn:x∉had)(hl:had.length≤1000) :
  ∃(v0:Value) (st:Nat) (w1:World),(Instr.mapEntry 145 (.map (some b)) (uO x)).run Tryz.prog w=.ok (.tuple #[v0,.int .i64 st]) w1∧w.grownBy w1 (some b)∧w1.heap.size=w.heap.size ∧
   (Instr.lookup 145 (.map (some b)) (uO x) false).run Tryz.prog w1=.ok (.int .i64 0) w1 ∧
   ∃w3,(Instr.entryStore 145 (.map (some b)) (.int .i64 st) (.int .i64 1)).run Tryz.prog w1=.ok () w3∧pD w3 b (x::had)∧w1.grownBy w3 (some b)∧w3.heap.size=w1.heap.size:=by
 obtain⟨D,h1,h2,h3,h4⟩:=h;have hk:=qG x hx;have ne:∀y:dA,y.2≤1000→y≠x→y7 y≠y7 x:=fun y hy hne e=>hne (NH hy hx e)
 obtain⟨v0,st,w1,r1,r2,r3,⟨D1,o1,a1⟩,st3⟩:=Nz h1 pC Tryz.underlying145 (by simp only[maxLen];omega) Fo (plainElem_int Tryz.underlying3 (by decide)) hk;obtain⟨c,iW,hat,_⟩:=o1.lookup_int pC Tryz.underlying145 Tryz.underlying3 (Fo w1) hk;rw[a1,Maps.atKey_of_not_has (h4 x hx hn)]at hat;simp only[DataW.lit.injEq,Lit.int.injEq,true_and]at hat;obtain⟨w3,s1,s2,s3,s4⟩:=st3 w1 (.int .i64 1) (.lit (.int .i64 1)) [] rfl (plainElem_int Tryz.underlying3 (by decide));refine⟨v0,st,w1,r1,r2,r3,by rw[iW,←hat],w3,s1,⟨D.put (y7 x) (.lit (.int .i64 1)),s2, ?_, ?_, ?_⟩,s3,s4⟩
 ·rw[Maps.size_put (h1.tidy pC),h4 x hx hn,h2];rfl
 ·intro y hy hm z;rcases List.mem_cons.1 hm with rfl|hm
  ·exact Maps.atKey_put_same (h1.tidy pC).isMap (pC.key hk) _ _
  ·have hne:y≠x:=fun e=>hn (e▸hm)
   rw[Maps.atKey_put_other (ne y hy hne)];exact h3 y hy hm z
 ·intro y hy hm;have hne:y≠x:=fun e=>hm (by rw[e];simp)
  rw[Maps.has_put_other (ne y hy hne)];exact h4 y hy (fun h=>hm (by simp[h]))
abbrev Ij (bh bn bv:Nat):Value:=.func (.func 109) #[] #[.pointer (some ⟨bh,0,none⟩),.pointer (some ⟨bn,0,none⟩),.pointer (some ⟨bv,0,none⟩)]
theorem NJ (w:World)(row:Option Nat):w.grownBy w.drew row:=⟨rfl,rfl,rfl,Nat.le_refl _,fun _ _ _=>rfl⟩
theorem UI {w w':World}(h:Below w.heap.size w w')(row:Option Nat):w.grownBy w' row:=⟨h.os,h.tape,h.output,h.size,fun k hk _=>h.block k hk⟩
theorem pE {N:aS}(hok:cX N=true){x:dA}(h:x∈gG N):x.2≤24:=by
 have h1:=(aQ N).1 hok;rcases x with⟨b,k⟩
 cases b
 ·have:=bQ.1 h;simp only[];omega
 ·have:=cO.1 h;simp only[];omega
theorem NP {N:aS}(hok:cX N=true):(gG N).length≤40:=by
 have h1:=(aQ N).1 hok;rw[iD];omega
theorem NQ {α:Type} [DecidableEq α] {s:α→List α}{f:Nat}{had:List α}{x:α}(h:x∈had):dfs s f had x=had:=by
 cases f with
 | zero=>rfl
 | succ f=>rw[dfs,if_pos h]
theorem UJ {α:Type} [DecidableEq α] {s:α→List α}{f:Nat}{had:List α}{x:α}(h:x∉had):dfs s (f+1) had x=(s x).foldl (dfs s f) (x::had):=by rw[dfs,if_neg h]
theorem Ik {N:aS}(hok:cX N=true){f:Nat}{acc L:List dA}(hL:∀z∈L,z∈gG N)(hg:Had (gG N) acc)(hl:(gG N).length≤acc.length+f) :
  Had (gG N) (L.foldl (dfs (eX N) f) acc)∧(gG N).length≤(L.foldl (dfs (eX N) f) acc).length+f:=by
 obtain⟨F,_⟩:=yZ (fun had x=>BJ (sE hok) f had x) L acc hL hg hl;exact⟨F.good,by have:=F.len;omega⟩
theorem Ci {w:World}{bm bh bn bv:Nat}{had:List dA}{x:dA}(hx:x.2≤1000)(hin:x∈had)(hs:pD w bm had)(b1:Box w bh 145 #[.map (some bm)]) :
  Calls Tryz.prog 109 #[uO x,.pointer (some ⟨bh,0,none⟩),.pointer (some ⟨bn,0,none⟩),.pointer (some ⟨bv,0,none⟩)] w
   (fun e w'=>e=.returned (.tuple #[])∧pD w' bm had∧w.grownBy w' (some bm)):=by
 have HS:=aA (hs.alloc (.cells #[.bool x.1,.int .i64 x.2] 204));have LK:=HS.o.look x hx;rw[if_pos hin]at LK;have X1:=(b1.old (.cells #[.bool x.1,.int .i64 x.2] 204)).cell 0;obtain⟨xb,xn⟩:=x;simp only[List.getElem?_toArray,List.getElem?_cons_zero]at X1;clear hs b1 hin;show Calls Tryz.prog 109 #[.agg #[.bool xb,.int .i64 xn],.pointer (some ⟨bh,0,none⟩),.pointer (some ⟨bn,0,none⟩),.pointer (some ⟨bv,0,none⟩)] w _
 simp only[uO]at LK;go_enter Tryz.func109,Tryz.ntmps109
 go_wp2
 exact bodyPost_ret (v:=.tuple #[]) (by simp[results,Tryz.results109,go_sem]) rfl ⟨rfl,HS.o,World.grownBy_alloc _ _ _⟩
theorem Fp {w0:World}{P:Int}{A:OAd}{n c:Nat}{ts:List aI}(h0:bK w0 A n c ts)(hok:cX ⟨P,ts⟩=true){bm bh bn bv:Nat}(g1:w0.heap.size≤bm)(g2:bh≠bm)(g3:bn≠bm)(g4:bv≠bm) :
  ∀(f:Nat) (had:List dA) (x:dA) (w:World),Had (gG ⟨P,ts⟩) had→x∈gG ⟨P,ts⟩→(gG ⟨P,ts⟩).length≤had.length+f→pD w bm had →
   Box w bh 145 #[.map (some bm)]→Box w bn 24 #[.int .i64 P,.slice A n c]→Box w bv 202 #[Ij bh bn bv]→Below w0.heap.size w0 w →
   Calls Tryz.prog 109 #[uO x,.pointer (some ⟨bh,0,none⟩),.pointer (some ⟨bn,0,none⟩),.pointer (some ⟨bv,0,none⟩)] w
    (fun e w'=>e=.returned (.tuple #[])∧pD w' bm (dfs (eX ⟨P,ts⟩) f had x)∧w.grownBy w' (some bm)):=by
 intro f;induction f with
 | zero =>
  intro had x w hg hx hl hs b1 b2 b3 hb;have hin:x∈had:=rG hg.nodup hg.sub (by omega) hx;rw[NQ hin];exact Ci (by have:=pE hok hx;omega) hin hs b1
 | succ f ih =>
  intro had x w hg hx hl hs b1 b2 b3 hb;by_cases hin:x∈had
  ·rw[NQ hin];exact Ci (by have:=pE hok hx;omega) hin hs b1
  ·rw[UJ hin];have hx24:=pE hok hx;have hh:=qF _ _ hg.nodup hg.sub;have hn40:=NP hok;have HS:=aA (hs.alloc (.cells #[.bool x.1,.int .i64 x.2] 204));have LK:=HS.o.look x (by omega);rw[if_neg hin]at LK;obtain⟨v0,st,w2,r1,r2,r3,r4,w3,s1,s2,s3,s4⟩:=pD.entry (w:=(w.alloc (.cells #[.bool x.1,.int .i64 x.2] 204)).drew) HS.o x (by omega) hin (by omega);have X0:=aA (b1.old (.cells #[.bool x.1,.int .i64 x.2] 204));have X1:=aA (b2.old (.cells #[.bool x.1,.int .i64 x.2] 204));have X2:=aA (b3.old (.cells #[.bool x.1,.int .i64 x.2] 204));have X3:=aA (Box.new w #[.bool x.1,.int .i64 x.2] 204);have BW:=aA (hb.trans ((aB w (.cells #[.bool x.1,.int .i64 x.2] 204)).mono hb.size));have hbx:w.heap.size≠bm:=by have:=hs.lt;omega
   have GW:=aA (World.grownBy_alloc w (.cells #[.bool x.1,.int .i64 x.2] 204) (some bm));have HX:=aA hx;have HI:=aA hin;have HG:=aA (show Had (gG ⟨P,ts⟩) (x::had)from⟨List.nodup_cons.2 ⟨hin,hg.nodup⟩,fun y hy=>by
    rcases List.mem_cons.1 hy with rfl|hy
    ·exact hx
    ·exact hg.sub y hy⟩)
   have HL:=aA (show(gG ⟨P,ts⟩).length≤(x::had).length+f by simp only[List.length_cons];omega);have IH:=aA ih;have H0:=aA h0;have HO:=aA hok;have R2:=aA r2;have S2:=aA s2;have S3:=aA s3;obtain⟨xb,xn⟩:=x;simp only[uO]at LK r1 r4 s1;simp only[]at hx24;replace X3:Hid (Box (w.alloc (.cells #[.bool xb,.int .i64 xn] 204)) w.heap.size 204 #[.bool xb,.int .i64 xn]):=X3
   clear hs b1 b2 b3 hb hg hl hx hin h0 hok ih r2 r3 s2 s3 s4 hh hn40;show Calls Tryz.prog 109 #[.agg #[.bool xb,.int .i64 xn],.pointer (some ⟨bh,0,none⟩),.pointer (some ⟨bn,0,none⟩),.pointer (some ⟨bv,0,none⟩)] w _
   have x0:=X0.o.cell 0;simp only[List.getElem?_toArray,List.getElem?_cons_zero]at x0;obtain⟨x1,x2⟩:=X3.o.two;go_enter Tryz.func109,Tryz.ntmps109
   go_upto_region 2 with fail
   clear LK;have LK:=pD.look (w:=(w.alloc (.cells #[.bool xb,.int .i64 xn] 204)).drew) HS.o (xb,xn) (by show xn≤1000;omega);rw[if_neg HI.o]at LK;simp only[uO]at LK;generalize w.alloc (.cells #[.bool xb,.int .i64 xn] 204)=w1 at *
   have Y0:=aA (X0.o.drew.grown R2.o (by simp;omega));have Y1:=aA (X1.o.drew.grown R2.o (by simp;omega));have Y2:=aA (X2.o.drew.grown R2.o (by simp;omega));have Y3:=aA (X3.o.drew.grown R2.o (by simp;omega));have y0:=Y0.o.cell 0;simp only[List.getElem?_toArray,List.getElem?_cons_zero]at y0;obtain⟨y1,y2⟩:=Y3.o.two;refine aF 6 (.takes [0,1] (.two 2 (.take 3 (.one 4 (.take 5 (.fin 6 .done)))) 4 (.take 5 (.one 2 (.take 3 (.fin 6 .done)))))) (fun w'=>w'.cell? ⟨bh,0,none⟩=some (.map (some bm))∧w'.cell? ⟨w.heap.size,0,none⟩=some (.bool xb)∧w'.cell? ⟨w.heap.size,1,none⟩=some (.int .i64 xn)) (by kernel_rfl) (by kernel_rfl) (by kernel_rfl) (fun _ _ _ _ _ h=>h) ⟨x0,x1,x2⟩ (fun hH=>?_);simp only[Scr.takes]
   iterate 2
    refine aH (v:=?_) rfl (by rfl) hH (fun w' hSw=>?_) ?_
    rotate_left
    ·(go_simp;try with_reducible rfl)
    simp only[Act.put,aL,aM,aN]
   refine Ny (.fin 6 .done) (fun a0 a' w'=>a'=((((a0.put (some 15) (.int .i64 0)).put (some 16) (.int .i64 1)).put (some 17) (.tuple #[v0,.int .i64 st])).put (some 18) (.int .i64 st))∧w'=w2) ?_ (fun EN=>?_)
   ·rintro a' w' ⟨rfl,rfl⟩ hS;simp only[Act.put,aL,aM,aN];refine bF rfl (fun K hK=>?_);go_simp
    refine hK.out _ _ ?_;clear hK;refine bP ?_;have Z1:=aA (Y1.o.grown S3.o (by simp;omega));have Z2:=aA (Y2.o.grown S3.o (by simp;omega));have Z0:=aA (Y0.o.grown S3.o (by simp;omega));have Z3:=aA (Y3.o.grown S3.o (by simp;omega));have G3:=aA (GW.o.trans ((NJ w1 (some bm)).trans (R2.o.trans S3.o)));have B3:=aA (show Below w0.heap.size w0 w3 from(BW.o.drew.grown R2.o BW.o.size (fun k hk=>by cases hk;exact g1)).grown S3.o (Nat.le_trans BW.o.size R2.o.size) (fun k hk=>by cases hk;exact g1));have hszb:w.heap.size<w3.heap.size:=Z3.o.lt;clear s1 S3 R2 Y0 Y1 Y2 Y3 X0 X1 X2 X3 LK hH BW GW HS x0 x1 x2 HI hS r1 r4 y0 y1 y2;obtain⟨z0,z1⟩:=Z1.o.two;obtain⟨x1,x2⟩:=Z3.o.two;cases xb
    ·have hxP:xn<P.toNat:=bQ.1 HX.o;have HT:=aA (show eX ⟨P,ts⟩ (false,xn)=(Ih ts xn n).map fun k=>(true,k) by simp only[eX,H0.o.len]);have HN:=aA (show ∀j,j≤n→∀z∈(Ih ts xn j).map (fun k=>((true,k):dA)),z∈gG ⟨P,ts⟩from fun j hj z hz=>by
      simp only[Ih,List.mem_map,List.mem_filter,List.mem_range]at hz;obtain⟨q,⟨hq,_⟩,rfl⟩:=hz;refine cO.2 ?_;have:=H0.o.len;simp only[];omega)
     have hn:=H0.o.small;go_wp2
     go_loopw [44] (fun i wr=>∃j:Nat,j≤n∧i=.int .i64 j∧Hid (pD wr bm (((Ih ts xn j).map fun k=>((true,k):dA)).foldl (dfs (eX ⟨P,ts⟩) f) ((false,xn)::had)))∧Hid (w3.grownBy wr (some bm))) (fun i _=>n-(intOf i).toNat)
     case atStart=>exact⟨0,Nat.zero_le _,rfl,S2,World.grownBy.refl _ _⟩
     case round =>
      obtain⟨j,hj,rfl,SM,GR⟩:=hrel;clear z0 z1 x1 x2;have BR:=aA (show Below w0.heap.size w0 wr from B3.o.grown GR.o B3.o.size (fun k hk=>by cases hk;exact g1));by_cases hlt:j<n
      ·have hji:(j:Int)<(n:Int):=by omega
       obtain⟨bl,off,t,A1,n1,c1,A2,n2,c2,rfl,hbl,ht,q0',q1',q2',i1,i2,m1,m2⟩:=bK.get H0.o hlt;have q0:=(BR.o.cell (p:=⟨bl,off+j*3,none⟩) hbl).trans q0';have q1:=(BR.o.cell (p:=⟨bl,off+j*3+1,none⟩) hbl).trans q1';have q2:=(BR.o.cell (p:=⟨bl,off+j*3+2,none⟩) hbl).trans q2';have hxn:xn<n1:=by have:=(cB HO.o ht.o).2.2.1;rw[i1.len]at this;simp only[]at this;omega
       have hxi:(xn:Int)<(n1:Int):=by omega
       have SU:=aA (fun v (hv:t.pre[xn]?=some v)=>show((Ih ts xn (j+1)).map fun k=>((true,k):dA)).foldl (dfs (eX ⟨P,ts⟩) f) ((false,xn)::had)=if 0<v then dfs (eX ⟨P,ts⟩) f (((Ih ts xn j).map fun k=>((true,k):dA)).foldl (dfs (eX ⟨P,ts⟩) f) ((false,xn)::had)) (true,j)else((Ih ts xn j).map fun k=>((true,k):dA)).foldl (dfs (eX ⟨P,ts⟩) f) ((false,xn)::had) by
        rw[Nw _ _ _ ht.o,iQ hv];by_cases h:0<v <;> simp[h,List.foldl_append])
       have I1:=aA i1;clear i1 i2 q0' q1' q2';have bb:=aB wr (.cells #[.int .i64 t.label,.slice A1 n1 c1,.slice A2 n2 c2] 49);have hbxr:w.heap.size<wr.heap.size:=Nat.lt_of_lt_of_le hszb GR.o.size;have U0:=aA ((Z0.o.grown GR.o (by simp;omega)).old (.cells #[.int .i64 t.label,.slice A1 n1 c1,.slice A2 n2 c2] 49));have U1:=aA ((Z1.o.grown GR.o (by simp;omega)).old (.cells #[.int .i64 t.label,.slice A1 n1 c1,.slice A2 n2 c2] 49));have U2:=aA ((Z2.o.grown GR.o (by simp;omega)).old (.cells #[.int .i64 t.label,.slice A1 n1 c1,.slice A2 n2 c2] 49));have U3:=aA ((Z3.o.grown GR.o (by simp;omega)).old (.cells #[.int .i64 t.label,.slice A1 n1 c1,.slice A2 n2 c2] 49));have U4:=aA (Box.new wr #[.int .i64 t.label,.slice A1 n1 c1,.slice A2 n2 c2] 49);have SM1:=aA (SM.o.keep bb);have GR1:=aA (GR.o.trans (UI bb (some bm)));have BR1:=aA (BR.o.trans (bb.mono BR.o.size));clear bb;go_upto_region 13 with fail
       generalize wr.alloc (.cells #[.int .i64 t.label,.slice A1 n1 c1,.slice A2 n2 c2] 49)=w4 at *
       obtain⟨b1,o1,v,rfl,hb1,hv,qv⟩:=aJ.get (aJ.keep I1.o BR1.o) hxn;have SV:=aA (SU.o v hv.o);clear SU q0 q1 q2;obtain⟨x1,x2⟩:=U3.o.two;obtain⟨y0,y1,y2⟩:=U4.o.three;have fn0:=U2.o.cell 0;simp only[List.getElem?_toArray,List.getElem?_cons_zero]at fn0;by_cases hpos:0<v
       ·obtain⟨FH,FL⟩:=Ik (f:=f) HO.o (HN.o j hj) HG.o HL.o;have CL:=aA (IH.o _ (true,j) w4 FH (cO.2 (by have:=H0.o.len;simp only[];omega)) FL SM1.o U0.o U1.o U2.o BR1.o);clear FH FL;go_wp2_with fail
        refine CL.o.mono ?_;rintro e wn ⟨rfl,sm,gr⟩;have SN:=aA sm;have GN:=aA (GR1.o.trans gr);clear sm gr;go_wp2
        go_roundw
        case rel=>exact⟨j+1,by omega,by go_num,by rw[SV.o,if_pos hpos];exact SN,GN⟩
        case measure=>simp[intOf];omega
       ·go_wp2
        go_roundw
        case rel=>exact⟨j+1,by omega,by go_num,by rw[SV.o,if_neg hpos];exact SM1,GR1⟩
        case measure=>simp[intOf];omega
      ·obtain rfl:j=n:=by omega
       go_wp2
       exact bodyPost_end (v:=.tuple #[]) (by simp[results,Tryz.results109,go_sem]) rfl ⟨rfl,by rw[HT.o];exact SM.o,G3.o.trans GR.o⟩
    ·have hxn:xn<n:=by have h1:=cO.1 HX.o;have h2:=H0.o.len;simp only[]at h1;omega
     have hxi:(xn:Int)<(n:Int):=by omega
     obtain⟨bl,off,t,A1,n1,c1,A2,n2,c2,rfl,hbl,ht,q0',q1',q2',i1,i2,m1,m2⟩:=bK.get H0.o hxn;have q2:=(B3.o.cell (p:=⟨bl,off+xn*3+2,none⟩) hbl).trans q2';have I2:=aA i2;have HT:=aA (show eX ⟨P,ts⟩ (true,xn)=(Ig t.post n2).map fun p=>(false,p) by simp only[eX,ht.o,i2.len]);have HN:=aA (show ∀j,j≤n2→∀z∈(Ig t.post j).map (fun p=>((false,p):dA)),z∈gG ⟨P,ts⟩from fun j hj z hz=>by
      simp only[Ig,List.mem_map,List.mem_filter,List.mem_range]at hz;obtain⟨q,⟨hq,_⟩,rfl⟩:=hz;refine bQ.2 ?_;have:=(cB HO.o ht.o).2.2.2.1;rw[i2.len]at this;simp only[]at this ⊢;omega)
     clear i1 i2 q0' q1' q2';go_wp2
     go_loopw [29] (fun i wr=>∃j:Nat,j≤n2∧i=.int .i64 j∧Hid (pD wr bm (((Ig t.post j).map fun p=>((false,p):dA)).foldl (dfs (eX ⟨P,ts⟩) f) ((true,xn)::had)))∧Hid (w3.grownBy wr (some bm))) (fun i _=>n2-(intOf i).toNat)
     case atStart=>exact⟨0,Nat.zero_le _,rfl,S2,World.grownBy.refl _ _⟩
     case round =>
      obtain⟨j,hj,rfl,SM,GR⟩:=hrel;clear z0 z1 x1 x2 q2;have BR:=aA (show Below w0.heap.size w0 wr from B3.o.grown GR.o B3.o.size (fun k hk=>by cases hk;exact g1));have fn0:=(Z2.o.grown GR.o (by simp;omega)).cell 0;simp only[List.getElem?_toArray,List.getElem?_cons_zero]at fn0;by_cases hlt:j<n2
      ·have hji:(j:Int)<(n2:Int):=by omega
       obtain⟨b2,o2,v,rfl,hb2,hv,qv⟩:=aJ.get (aJ.keep I2.o BR.o) hlt;have SU:=aA (show((Ig t.post (j+1)).map fun p=>((false,p):dA)).foldl (dfs (eX ⟨P,ts⟩) f) ((true,xn)::had)=if 0<v then dfs (eX ⟨P,ts⟩) f (((Ig t.post j).map fun p=>((false,p):dA)).foldl (dfs (eX ⟨P,ts⟩) f) ((true,xn)::had)) (false,j)else((Ig t.post j).map fun p=>((false,p):dA)).foldl (dfs (eX ⟨P,ts⟩) f) ((true,xn)::had) by
        rw[BP,iQ hv.o];by_cases h:0<v <;> simp[h,List.foldl_append])
       by_cases hpos:0<v
       ·obtain⟨FH,FL⟩:=Ik (f:=f) HO.o (HN.o j hj) HG.o HL.o;have CL:=aA (IH.o _ (false,j) wr FH (HN.o (j+1) (by omega) _ (by rw[BP,iQ hv.o,if_pos hpos];simp)) FL SM.o (Z0.o.grown GR.o (by simp;omega)) (Z1.o.grown GR.o (by simp;omega)) (Z2.o.grown GR.o (by simp;omega)) BR.o);clear FH FL;go_wp2_with fail
        refine CL.o.mono ?_;rintro e wn ⟨rfl,sm,gr⟩;have SN:=aA sm;have GN:=aA (GR.o.trans gr);clear sm gr;go_wp2
        go_roundw
        case rel=>exact⟨j+1,by omega,by go_num,by rw[SU.o,if_pos hpos];exact SN,GN⟩
        case measure=>simp[intOf];omega
       ·go_wp2
        go_roundw
        case rel=>exact⟨j+1,by omega,by go_num,by rw[SU.o,if_neg hpos];exact SM,GR⟩
        case measure=>simp[intOf];omega
      ·obtain rfl:j=n2:=by omega
       go_wp2
       exact bodyPost_ret (v:=.tuple #[]) (by simp[results,Tryz.results109,go_sem]) rfl ⟨rfl,by rw[HT.o];exact SM.o,G3.o.trans GR.o⟩
   refine AY rfl rfl (fun K hK=>?_) (fun K hK=>?_)
   ·go_simp
    refine hK.out _ _ ⟨x0,x1,x2⟩ (fun hH=>?_);clear hK;try simp only[Act.put,aL,aM,aN]
    refine aH (v:=?_) rfl (by rfl) hH (fun w' hSw=>?_) ?_
    rotate_left
    ·(go_simp;try with_reducible rfl)
    simp only[Act.put,aL,aM,aN];refine bI rfl (fun K hK=>?_);go_simp
    refine hK.out _ _ ⟨y0,y1,y2⟩ (fun hH=>?_);clear hK;try simp only[Act.put,aL,aM,aN]
    refine aH (v:=?_) rfl (by rfl) hH (fun w' hSw=>?_) ?_
    rotate_left
    ·(go_simp;try with_reducible rfl)
    simp only[Act.put,aL,aM,aN];exact EN.o _ _ ⟨rfl,rfl⟩ hH
   ·go_simp
    refine hK.out _ _ ⟨y0,y1,y2⟩ (fun hH=>?_);clear hK;try simp only[Act.put,aL,aM,aN]
    refine aH (v:=?_) rfl (by rfl) hH (fun w' hSw=>?_) ?_
    rotate_left
    ·(go_simp;try with_reducible rfl)
    simp only[Act.put,aL,aM,aN];refine bI rfl (fun K hK=>?_);go_simp
    refine hK.out _ _ ⟨y0,y1,y2⟩ (fun hH=>?_);clear hK;try simp only[Act.put,aL,aM,aN]
    refine aH (v:=?_) rfl (by rfl) hH (fun w' hSw=>?_) ?_
    rotate_left
    ·(go_simp;try with_reducible rfl)
    simp only[Act.put,aL,aM,aN];exact EN.o _ _ ⟨rfl,rfl⟩ hH
structure Fq (F:FuncId)(cap:Array Value)(w:World)(ts:List aI)(p:aI→Bool):Prop where
 enters:∀args w,(callFunc F args).run Tryz.prog w=.ok (.enter F args) w
 calls:∀(wr:World) (t:aI) (A1:OAd) (n1 c1:Nat) (A2:OAd) (n2 c2:Nat),Below w.heap.size w wr→t∈ts→aJ wr A1 n1 c1 t.pre→aJ wr A2 n2 c2 t.post →
  Calls Tryz.prog F (#[.agg #[.int .i64 t.label,.slice A1 n1 c1,.slice A2 n2 c2]]++cap) wr fun e w'=>e=.returned (.bool (p t))∧Below wr.heap.size wr w'
theorem sX {w:World}{A:OAd}{n c:Nat}{ts:List aI}{F:FuncId}{cap:Array Value}{p:aI→Bool}(h:bK w A n c ts)(hp:Fq F cap w ts p) :
  Calls Tryz.prog 108 #[.slice A n c,.func (.func F) #[] cap] w fun e w'=>e=.returned (.int .i64 (cC p ts))∧Below w.heap.size w w':=by
 have hn:=h.small;have henter:=hp.enters;have H:=aA h;have HP:=aA hp;clear h hp;go_enter Tryz.func108,Tryz.ntmps108
 go_wp2
 go_loopw [8] (fun i wr=>∃k:Nat,k≤n∧i=.int .i64 k∧Hid (∀j,j<k→∀y,ts[j]?=some y→p y=false)∧Hid (Below w.heap.size w wr)) (fun i _=>n-(intOf i).toNat)
 case atStart=>exact⟨0,Nat.zero_le _,rfl,fun j hj=>absurd hj (by omega),Below.refl _ _⟩
 case round =>
  obtain⟨k,hk,rfl,hlow,D⟩:=hrel;by_cases hlt:k<n
  ·have hki:(k:Int)<(n:Int):=by omega
   obtain⟨b,off,t,A1,n1,c1,A2,n2,c2,rfl,hb,ht,q0,q1,q2,i1,i2,_,_⟩:=bK.get (H.o.keep D.o) hlt;have CL:=aA (HP.o.calls wr t A1 n1 c1 A2 n2 c2 D.o (List.mem_of_getElem? ht.o) i1 i2);obtain⟨v,hv⟩:∃v,p t=v:=⟨_,rfl⟩;have HV:=aA hv;rw[hv]at CL;clear i1 i2 hv;cases v
   ·go_wp2_with (refine CL.o.mono ?_;rintro e w' ⟨rfl,hb'⟩;have HB:=aA hb';clear hb')
    go_roundw
    case rel =>
     refine⟨k+1,by omega,by go_num,fun j hj y hy=>?_,D.o.trans (HB.o.mono D.o.size)⟩;by_cases hjk:j=k
     ·subst hjk;have:=ht.o;rw[hy]at this;injection this with this;rw[this];exact HV.o
     ·exact hlow.o j (by omega) y hy
    case measure=>simp[intOf];omega
   ·go_wp2_with (refine CL.o.mono ?_;rintro e w' ⟨rfl,hb'⟩;have HB:=aA hb';clear hb')
    go_ret
    exact⟨aT (cJ hlow.o ht.o HV.o).symm,D.o.trans (HB.o.mono D.o.size)⟩
  ·go_wp2
   go_ret
   exact⟨aT (cL (fun j hj y hy=>hlow.o j (by have:=H.o.len;omega) y hy)).symm,D.o⟩
theorem pF {w:World}{A:OAd}{n c:Nat}{ts:List aI}{F:FuncId}{cap:Array Value}{p:aI→Bool}(h:bK w A n c ts)(hp:Fq F cap w ts p) :
  Calls Tryz.prog 59 #[.slice A n c,.func (.func F) #[] cap] w fun e w'=>e=.returned (.bool (ts.any p))∧Below w.heap.size w w':=by
 have H:=aA h;have HP:=aA hp;clear h hp;go_enter Tryz.func59,Tryz.ntmps59
 go_wp2_with (refine(sX H.o HP.o).mono ?_;rintro e w' ⟨rfl,hb⟩)
 go_ret
 exact⟨aY (gW _ _),hb⟩
theorem NR {w:World}{N:aS}(hok:cX N=true){bi bo i o:Nat}(hi:(i:Int)<N.places)(ho:(o:Int)<N.places)(c1:Box w bi 3 #[.int .i64 i])(c2:Box w bo 3 #[.int .i64 o]) :
  Fq 60 #[.pointer (some ⟨bi,0,none⟩),.pointer (some ⟨bo,0,none⟩)] w N.trans (JI i o) where
 enters:=fun args w=>by kernel_rfl
 calls:=fun wr t A1 n1 d1 A2 n2 d2 hb ht i1 i2=>by
  obtain⟨k,hk,hkt⟩:=List.getElem_of_mem ht;have hT:=cB hok (show N.trans[k]?=some t by rw[List.getElem?_eq_getElem hk,hkt]);have e1:(n1:Int)=N.places:=by have:=hT.2.2.1;rw[i1.len]at this;exact this
  have e2:(n2:Int)=N.places:=by have:=hT.2.2.2.1;rw[i2.len]at this;exact this
  have bb:=aB wr (.cells #[.int .i64 t.label,.slice A1 n1 d1,.slice A2 n2 d2] 49);obtain⟨b1,o1,x,rfl,hb1,hx,q1⟩:=aJ.get (k:=o) (aJ.keep i1 bb) (by omega);obtain⟨b2,o2,y,rfl,hb2,hy,q2⟩:=aJ.get (k:=i) (aJ.keep i2 bb) (by omega);have y1:=((c1.keep hb).old (.cells #[.int .i64 t.label,.slice (some ⟨b1,o1,none⟩) n1 d1,.slice (some ⟨b2,o2,none⟩) n2 d2] 49)).cell 0;have y2:=((c2.keep hb).old (.cells #[.int .i64 t.label,.slice (some ⟨b1,o1,none⟩) n1 d1,.slice (some ⟨b2,o2,none⟩) n2 d2] 49)).cell 0;simp only[List.getElem?_toArray,List.getElem?_cons_zero]at y1 y2;have hi2:(i:Int)<(n2:Int):=by omega
  have ho1:(o:Int)<(n1:Int):=by omega
  have FN:=aA (show JI i o t=(decide (0<y)||decide (0<x)) by rw[JI,iQ hy.o,iQ hx.o]);have BB:=aA bb;clear hb ht hk hkt hT e1 e2 i1 i2 c1 c2 hi ho hok bb;show Calls Tryz.prog 60 #[.agg #[.int .i64 t.label,.slice (some ⟨b1,o1,none⟩) n1 d1,.slice (some ⟨b2,o2,none⟩) n2 d2],.pointer (some ⟨bi,0,none⟩),.pointer (some ⟨bo,0,none⟩)] wr _
  rw[FN.o];by_cases hpos:0<y
  ·go_enter Tryz.func60,Tryz.ntmps60
   go_wp2
   go_ret
   exact⟨aY (by simp[hpos]),BB.o⟩
  ·go_enter Tryz.func60,Tryz.ntmps60
   go_wp2
   all_goals
    go_ret
    exact⟨aY (by simp;omega),BB.o⟩
def Xu (had:List dA)(w:World)(e:Ending)(w':World):Prop:=∃b,e=.returned (.map (some b))∧pD w' b had∧Below w.heap.size w w'
theorem kY {w:World}{P:Int}{A:OAd}{n c:Nat}{ts:List aI}{i:Nat}(h:bK w A n c ts)(hok:cX ⟨P,ts⟩=true)(hi:i<P.toNat) :
  Calls Tryz.prog 61 #[.agg #[.int .i64 P,.slice A n c],.int .i64 i] w (Xu (Q8 ⟨P,ts⟩ i) w):=by
 have hmm:=@run_makeMap Tryz.prog;have H:=aA h;have HO:=aA hok;clear h hok;go_enter Tryz.func61,Tryz.ntmps61
 go_upto_region 3 with fail
 generalize hw4:(((w.alloc (.cells #[.int .i64 P,.slice A n c] 24)).alloc (.map #[] 0)).alloc (.cells #[.map (some (w.heap.size+1))] 145)).alloc (.cells #[.nilFunc] 202)=w4;have D4:Below w.heap.size w w4:=by rw[←hw4];exact((((Below.refl _ _).alloc (Nat.le_refl _) _).alloc (by simp) _).alloc (by simp;omega) _).alloc (by simp;omega) _
 have Y0:Box w4 w.heap.size 24 #[.int .i64 P,.slice A n c]:=by rw[←hw4];exact(((Box.new _ _ _).old _).old _).old _
 have Y1:pD w4 (w.heap.size+1) []:=by
  rw[←hw4];have:=pD.made (w.alloc (.cells #[.int .i64 P,.slice A n c] 24));rw[show(w.alloc (.cells #[.int .i64 P,.slice A n c] 24)).heap.size=w.heap.size+1 by simp]at this;exact(this.alloc _).alloc _
 have Y2:Box w4 (w.heap.size+1+1) 145 #[.map (some (w.heap.size+1))]:=by rw[←hw4];exact(Box.newAt (by simp) _ _).old _
 have Y3:Box w4 (w.heap.size+1+1+1) 202 #[.nilFunc]:=by rw[←hw4];exact Box.newAt (by simp) _ _
 clear hw4 hmm;have f0:=Y3.frozen 0;have n0:=Y3.cell 0;simp only[List.getElem?_toArray,List.getElem?_cons_zero]at n0;go_upto_region 4 with fail
 generalize hw5:w4.setCell ⟨w.heap.size+1+1+1,0,none⟩ (Ij (w.heap.size+1+1) w.heap.size (w.heap.size+1+1+1))=w5;have hbs:aK (w.heap.size+1+1+1) w4 w5:=by rw[←hw5];exact aK.set _ _ _ _
 have D5:=aA (show Below w.heap.size w w5 by rw[←hw5];exact D4.setCell (show w.heap.size≤w.heap.size+1+1+1 by omega) _);have Z0:=aA (hbs.box Y0 (by omega));have Z1:=aA (Y1.of_block (hbs.2 _ (by omega)));have Z2:=aA (hbs.box Y2 (by omega));have Z3:Box w5 (w.heap.size+1+1+1) 202 #[Ij (w.heap.size+1+1) w.heap.size (w.heap.size+1+1+1)]:=by rw[←hw5];simpa using Y3.set 0 (Ij (w.heap.size+1+1) w.heap.size (w.heap.size+1+1+1))
 have fn0:=Z3.cell 0;simp only[List.getElem?_toArray,List.getElem?_cons_zero]at fn0;have CL:=aA (Fp (P:=P) H.o HO.o (bm:=w.heap.size+1) (bh:=w.heap.size+1+1) (bn:=w.heap.size) (bv:=w.heap.size+1+1+1) (by omega) (by omega) (by omega) (by omega) (P.toNat+ts.length) [] (false,i) w5
  ⟨List.nodup_nil,fun x h=>by simp at h⟩ (bQ.2 hi) (by rw[iD];simp) Z1.o Z2.o Z0.o Z3 D5.o)
 clear hw5 hbs Y0 Y1 Y2 Y3 f0 n0 D4 Z3;go_wp2_with fail
 refine CL.o.mono ?_;rintro e w6 ⟨rfl,sm,gr⟩;have m0:=(Z2.o.grown gr (by simp)).cell 0;simp only[List.getElem?_toArray,List.getElem?_cons_zero]at m0;have SM:=aA sm;have D6:=aA (show Below w.heap.size w w6 from D5.o.grown gr D5.o.size (fun k hk=>by cases hk;omega));clear sm gr fn0;go_wp2
 go_ret
 exact⟨_,rfl,SM.o,D6.o⟩
theorem NV {N:aS}(h:cX N=true):cX (kR N)=true:=by
 obtain⟨h1,h2,h3,h4⟩:=(aQ N).1 h;refine(aQ _).2 ⟨h1,h2,by simpa [kR] using h3,fun t ht=>?_⟩;simp only[kR,List.mem_map]at ht;obtain⟨u,hu,rfl⟩:=ht;have:=(fL _ _).1 (h4 u hu);exact(fL _ _).2 ⟨this.1,this.2.1,this.2.2.2.1,this.2.2.1,this.2.2.2.2.2,this.2.2.2.2.1⟩
theorem lX {w:World}{P:Int}{A:OAd}{n c:Nat}{ts:List aI}(i o:Int)(h:bK w A n c ts)(hn:n≤2513169434916) :
  Calls Tryz.prog 24 #[.agg #[.int .i64 P,.slice A n c],.int .i64 i,.int .i64 o] w fun e w'=>e=.returned (.int .i64 (dV ⟨P,ts⟩ i o))∧Below w.heap.size w w':=by
 generalize hw0:((w.alloc (.cells #[.int .i64 P,.slice A n c] 24)).alloc (.cells #[.int .i64 i] 3)).alloc (.cells #[.int .i64 o] 3)=w0;have D0:=aA (show Below w.heap.size w w0 by rw[←hw0];exact(((Below.refl _ _).alloc (Nat.le_refl _) _).alloc (by simp) _).alloc (by simp;omega) _);have X0:=aA (show Box w0 w.heap.size 24 #[.int .i64 P,.slice A n c] by rw[←hw0];exact((Box.new _ _ _).old _).old _);have X1:=aA (show Box w0 (w.heap.size+1) 3 #[.int .i64 i] by rw[←hw0];exact(Box.newAt (by simp) _ _).old _);have X2:=aA (show Box w0 (w.heap.size+1+1) 3 #[.int .i64 o] by rw[←hw0];exact Box.newAt (by simp) _ _);have H:=aA h;have HL:=aA h.len;have hns:=h.small;clear h;have c0:=X0.o.two.1;cases hok:cX ⟨P,ts⟩
 ·have W0:=aA (fN hok);have FIN:=aA (show dV ⟨P,ts⟩ i o=2 by rw[dV,hok];rfl);clear hok;go_enter Tryz.func24,Tryz.ntmps24
  go_upto_region 1 with fail
  clear hw0;obtain⟨c0,c1⟩:=X0.o.two;go_wp2_with fail
  refine(cN _ P A n c ts (H.o.keep D0.o)).mono ?_;rw[W0.o];rintro e w1 ⟨rfl,hb⟩;have B1:=aA (D0.o.trans (hb.mono D0.o.size));clear hb;go_wp2
  go_ret
  exact⟨aT FIN.o.symm,B1.o⟩
 ·have W0:=aA (jA hok);have HO:=aA hok;clear hok;obtain⟨p,rfl⟩:∃p:Nat,P=(p:Int):=⟨P.toNat,by have:=((aQ _).1 HO.o).1;simp only[]at this;omega⟩;have hp16:p≤16:=by have:=((aQ _).1 HO.o).2.1;simp only[]at this;omega
  have hn24:n≤24:=by have:=((aQ _).1 HO.o).2.2.1;rw[HL.o]at this;exact this
  go_enter Tryz.func24,Tryz.ntmps24
  go_upto_region 1 with fail
  clear hw0 c0;obtain⟨c0,c1⟩:=X0.o.two;go_wp2_with fail
  refine(cN _ (p:Int) A n c ts (H.o.keep D0.o)).mono ?_;rw[W0.o];rintro e w1 ⟨rfl,hb⟩;have B1:=aA (D0.o.trans (hb.mono D0.o.size));have Y0:=aA (X0.o.keep hb);have Y1:=aA (X1.o.keep hb);have Y2:=aA (X2.o.keep hb);clear hb c0 c1 X0 X1 X2 D0;obtain⟨c0,c1⟩:=Y0.o.two;have ci:=Y1.o.cell 0;have co:=Y2.o.cell 0;simp only[List.getElem?_toArray,List.getElem?_cons_zero]at ci co;by_cases hin:inB ⟨p,ts⟩ i o=true
  ·simp only[inB,Bool.and_eq_true,decide_eq_true_eq]at hin;obtain⟨⟨⟨⟨h0,h1⟩,h2⟩,h3⟩,h4⟩:=hin;have IN:=aA (show inB ⟨p,ts⟩ i o=true by simp only[inB,Bool.and_eq_true,decide_eq_true_eq];exact⟨⟨⟨⟨h0,h1⟩,h2⟩,h3⟩,h4⟩);obtain⟨i,rfl⟩:∃k:Nat,i=(k:Int):=⟨i.toNat,by omega⟩;obtain⟨o,rfl⟩:∃k:Nat,o=(k:Int):=⟨o.toNat,by omega⟩;have hne:((i:Int)==(o:Int))=false:=by simpa using h4
   have PR:=aA (NR (w:=w1) (N:=⟨p,ts⟩) HO.o (i:=i) (o:=o) h2 h3 Y1.o Y2.o);have SH:=aA (show dV ⟨p,ts⟩ (i:Int) (o:Int)=(if ts.any (JI i o)=true then 1 else if lO ⟨p,ts⟩ i=true∧lO (kR ⟨p,ts⟩) o=true then 0 else 1) by
    rw[dV,if_pos HO.o,if_pos IN.o];rfl)
   clear h4 IN;go_wp2_with fail
   refine(pF (H.o.keep B1.o) PR.o).mono ?_;rintro e w2 ⟨rfl,hb⟩;have B2:=aA (B1.o.trans (hb.mono B1.o.size));have Z0:=aA (Y0.o.keep hb);have Z1:=aA (Y1.o.keep hb);have Z2:=aA (Y2.o.keep hb);clear hb c0 c1 ci co Y0 Y1 Y2 B1 PR hne;obtain⟨bk,hbk⟩:∃b,ts.any (JI i o)=b:=⟨_,rfl⟩;rw[hbk];rw[hbk]at SH;clear hbk;cases bk
   ·have KEEP:=aA (show ∀w',Below w2.heap.size w2 w'→w'.cell? ⟨w.heap.size,0,none⟩=some (.int .i64 p)∧w'.cell? ⟨w.heap.size,1,none⟩=some (.slice A n c)∧w'.cell? ⟨w.heap.size+1,0,none⟩=some (.int .i64 i)∧w'.cell? ⟨w.heap.size+1+1,0,none⟩=some (.int .i64 o)from fun w' hb=>by
     obtain⟨x0,x1⟩:=(Z0.o.keep hb).two;have x2:=(Z1.o.keep hb).cell 0;have x3:=(Z2.o.keep hb).cell 0;simp only[List.getElem?_toArray,List.getElem?_cons_zero]at x2 x3;exact⟨x0,x1,x2,x3⟩)
    have I1:=aA (show i<(p:Int).toNat by omega);have I2:=aA (show o<(p:Int).toNat by omega);have TO:=aA (show cX ⟨(p:Int),ts.map pU⟩=true from NV (N:=⟨p,ts⟩) HO.o);obtain⟨L1,hL1⟩:∃L,(Q8 ⟨p,ts⟩ i).length=L:=⟨_,rfl⟩;obtain⟨L2,hL2⟩:∃L,(Q8 ⟨(p:Int),ts.map pU⟩ o).length=L:=⟨_,rfl⟩;have W1:=Ce (N:=⟨p,ts⟩) HO.o (i:=i) I1.o;have W2:=Ce (N:=⟨(p:Int),ts.map pU⟩) TO.o (i:=o) I2.o;rw[hL1]at W1;rw[hL2]at W2;simp only[HL.o,List.length_map,Int.toNat_natCast]at W1 W2;have HL1:=aA hL1;have HL2:=aA hL2;have DR:=aA ((Below.refl w.heap.size w2).drew);have DR1:=aA ((Below.refl w2.heap.size w2).drew);clear hL1 hL2 Z0 Z1 Z2;obtain⟨x0,x1,x2,x3⟩:=KEEP.o w2 (Below.refl _ _);by_cases a1:lO ⟨p,ts⟩ i=true
    ·have d1:decide ((L1:Int)<(p:Int)+(n:Int))=false:=by have:=W1.2 a1;simp;omega
     by_cases a2:lO ⟨(p:Int),ts.map pU⟩ o=true
     ·have d2:decide ((L2:Int)<(p:Int)+(n:Int))=false:=by have:=W2.2 a2;simp;omega
      have FIN:=aA (show dV ⟨p,ts⟩ (i:Int) (o:Int)=0 by rw[SH.o,if_neg (by decide)];simp[a1,kR,a2]);clear W1 W2 a1 a2 SH;go_upto_region 9 with fail
      refine aF 14 (.takes [0,1,4] (.one 2 (.one 3 (.takes [5,6,7,9,12] (.one 8 (.one 10 (.one 11 (.take 13 (.fin 14 .done))))))))) (fun w'=>w'.cell? ⟨w.heap.size,0,none⟩=some (.int .i64 p)∧w'.cell? ⟨w.heap.size,1,none⟩=some (.slice A n c)∧w'.cell? ⟨w.heap.size+1,0,none⟩=some (.int .i64 i)∧w'.cell? ⟨w.heap.size+1+1,0,none⟩=some (.int .i64 o)) (by kernel_rfl) (by kernel_rfl) (by kernel_rfl) (fun _ _ _ _ _ h=>h) ⟨x0,x1,x2,x3⟩ (fun hH=>?_);simp only[Scr.takes]
      iterate 3
       refine aH (v:=?_) rfl (by rfl) hH (fun w' hSw=>?_) ?_
       rotate_left
       ·(go_simp;try with_reducible rfl)
       simp only[Act.put,aL,aM,aN]
      refine bI rfl (fun K hK=>?_);go_simp;go_at_call 61
      (with_reducible refine(kY (P:=(p:Int)) (ts:=ts) (A:=A) (n:=n) (c:=c) (i:=i) (H.o.keep (B2.o.trans DR.o)) HO.o I1.o).mono ?_)
      rintro e w3 ⟨bm,rfl,sm,hb⟩;have LN:=sm.len 3;rw[HL1.o]at LN;have F3:=aA (DR1.o.trans (hb.mono (Nat.le_refl _)));clear sm hb;clear x0 x1 x2 x3;obtain⟨x0,x1,x2,x3⟩:=KEEP.o w3 F3.o;refine hK.out _ _ ⟨x0,x1,x2,x3⟩ (fun hH=>?_);clear hK;try simp only[Act.put,aL,aM,aN]
      refine bI rfl (fun K hK=>?_);go_simp
      refine hK.out _ _ ⟨x0,x1,x2,x3⟩ (fun hH=>?_);clear hK;try simp only[Act.put,aL,aM,aN]
      refine aH (v:=.bool false) rfl (by rfl) hH (fun w' hSw=>?_) ?_
      ·go_simp
       try rw[d1]
      simp only[Act.put,aL,aM,aN];refine aH (v:=.bool false) rfl (by rfl) hH (fun w' hSw=>?_) ?_
      ·go_simp
       try rw[d1]
      simp only[Act.put,aL,aM,aN]
      iterate 3
       refine aH (v:=?_) rfl (by rfl) hH (fun w' hSw=>?_) ?_
       rotate_left
       ·(go_simp;try with_reducible rfl)
       simp only[Act.put,aL,aM,aN]
      refine bI rfl (fun K hK=>?_);go_simp;go_at_call 62
      (with_reducible refine(mK (P:=(p:Int)) (H.o.keep (B2.o.trans (F3.o.mono B2.o.size))) hn).mono ?_)
      rintro e w4 ⟨A4,n4,c4,rfl,t4,hb⟩;have T4:=aA t4;have F4:=aA (F3.o.trans (hb.mono F3.o.size));clear hb t4;rw[show(kR ⟨(p:Int),ts⟩).places=(p:Int)from rfl];clear x0 x1 x2 x3;obtain⟨x0,x1,x2,x3⟩:=KEEP.o w4 F4.o;refine hK.out _ _ ⟨x0,x1,x2,x3⟩ (fun hH=>?_);clear hK;try simp only[Act.put,aL,aM,aN]
      refine bI rfl (fun K hK=>?_);go_simp;go_at_call 61
      (with_reducible refine(kY (P:=(p:Int)) (ts:=ts.map pU) (A:=A4) (n:=n4) (c:=c4) (i:=o) T4.o TO.o I2.o).mono ?_)
      rintro e w5 ⟨bm2,rfl,sm,hb⟩;have LN2:=sm.len 3;rw[HL2.o]at LN2;have F5:=aA (F4.o.trans (hb.mono F4.o.size));clear sm hb;clear x0 x1 x2 x3;obtain⟨x0,x1,x2,x3⟩:=KEEP.o w5 F5.o;refine hK.out _ _ ⟨x0,x1,x2,x3⟩ (fun hH=>?_);clear hK;try simp only[Act.put,aL,aM,aN]
      refine bI rfl (fun K hK=>?_);go_simp
      refine hK.out _ _ ⟨x0,x1,x2,x3⟩ (fun hH=>?_);clear hK;try simp only[Act.put,aL,aM,aN]
      refine aH (v:=.bool false) rfl (by rfl) hH (fun w' hSw=>?_) ?_
      ·go_simp
       try rw[d2]
      simp only[Act.put,aL,aM,aN];refine bF rfl (fun K hK=>?_);go_simp
      refine hK.out _ _ ?_;clear hK;try simp only[Act.put,aL,aM,aN]
      refine bP ?_;go_wp2
      go_ret
      exact⟨aT FIN.o.symm,B2.o.trans (F5.o.mono B2.o.size)⟩
     ·have d2:decide ((L2:Int)<(p:Int)+(n:Int))=true:=by have:¬p+n≤L2:=fun e=>a2 (W2.1 e);simp;omega
      have FIN:=aA (show dV ⟨p,ts⟩ (i:Int) (o:Int)=1 by rw[SH.o,if_neg (by decide)];simp[a1,kR,a2]);clear W1 W2 a1 a2 SH;go_upto_region 9 with fail
      refine aF 14 (.takes [0,1,4] (.one 2 (.one 3 (.takes [5,6,7,9,12] (.one 8 (.one 10 (.one 11 (.take 13 (.fin 14 .done))))))))) (fun w'=>w'.cell? ⟨w.heap.size,0,none⟩=some (.int .i64 p)∧w'.cell? ⟨w.heap.size,1,none⟩=some (.slice A n c)∧w'.cell? ⟨w.heap.size+1,0,none⟩=some (.int .i64 i)∧w'.cell? ⟨w.heap.size+1+1,0,none⟩=some (.int .i64 o)) (by kernel_rfl) (by kernel_rfl) (by kernel_rfl) (fun _ _ _ _ _ h=>h) ⟨x0,x1,x2,x3⟩ (fun hH=>?_);simp only[Scr.takes]
      iterate 3
       refine aH (v:=?_) rfl (by rfl) hH (fun w' hSw=>?_) ?_
       rotate_left
       ·(go_simp;try with_reducible rfl)
       simp only[Act.put,aL,aM,aN]
      refine bI rfl (fun K hK=>?_);go_simp;go_at_call 61
      (with_reducible refine(kY (P:=(p:Int)) (ts:=ts) (A:=A) (n:=n) (c:=c) (i:=i) (H.o.keep (B2.o.trans DR.o)) HO.o I1.o).mono ?_)
      rintro e w3 ⟨bm,rfl,sm,hb⟩;have LN:=sm.len 3;rw[HL1.o]at LN;have F3:=aA (DR1.o.trans (hb.mono (Nat.le_refl _)));clear sm hb;clear x0 x1 x2 x3;obtain⟨x0,x1,x2,x3⟩:=KEEP.o w3 F3.o;refine hK.out _ _ ⟨x0,x1,x2,x3⟩ (fun hH=>?_);clear hK;try simp only[Act.put,aL,aM,aN]
      refine bI rfl (fun K hK=>?_);go_simp
      refine hK.out _ _ ⟨x0,x1,x2,x3⟩ (fun hH=>?_);clear hK;try simp only[Act.put,aL,aM,aN]
      refine aH (v:=.bool false) rfl (by rfl) hH (fun w' hSw=>?_) ?_
      ·go_simp
       try rw[d1]
      simp only[Act.put,aL,aM,aN];refine aH (v:=.bool false) rfl (by rfl) hH (fun w' hSw=>?_) ?_
      ·go_simp
       try rw[d1]
      simp only[Act.put,aL,aM,aN]
      iterate 3
       refine aH (v:=?_) rfl (by rfl) hH (fun w' hSw=>?_) ?_
       rotate_left
       ·(go_simp;try with_reducible rfl)
       simp only[Act.put,aL,aM,aN]
      refine bI rfl (fun K hK=>?_);go_simp;go_at_call 62
      (with_reducible refine(mK (P:=(p:Int)) (H.o.keep (B2.o.trans (F3.o.mono B2.o.size))) hn).mono ?_)
      rintro e w4 ⟨A4,n4,c4,rfl,t4,hb⟩;have T4:=aA t4;have F4:=aA (F3.o.trans (hb.mono F3.o.size));clear hb t4;rw[show(kR ⟨(p:Int),ts⟩).places=(p:Int)from rfl];clear x0 x1 x2 x3;obtain⟨x0,x1,x2,x3⟩:=KEEP.o w4 F4.o;refine hK.out _ _ ⟨x0,x1,x2,x3⟩ (fun hH=>?_);clear hK;try simp only[Act.put,aL,aM,aN]
      refine bI rfl (fun K hK=>?_);go_simp;go_at_call 61
      (with_reducible refine(kY (P:=(p:Int)) (ts:=ts.map pU) (A:=A4) (n:=n4) (c:=c4) (i:=o) T4.o TO.o I2.o).mono ?_)
      rintro e w5 ⟨bm2,rfl,sm,hb⟩;have LN2:=sm.len 3;rw[HL2.o]at LN2;have F5:=aA (F4.o.trans (hb.mono F4.o.size));clear sm hb;clear x0 x1 x2 x3;obtain⟨x0,x1,x2,x3⟩:=KEEP.o w5 F5.o;refine hK.out _ _ ⟨x0,x1,x2,x3⟩ (fun hH=>?_);clear hK;try simp only[Act.put,aL,aM,aN]
      refine bI rfl (fun K hK=>?_);go_simp
      refine hK.out _ _ ⟨x0,x1,x2,x3⟩ (fun hH=>?_);clear hK;try simp only[Act.put,aL,aM,aN]
      refine aH (v:=.bool true) rfl (by rfl) hH (fun w' hSw=>?_) ?_
      ·go_simp
       try rw[d2]
      simp only[Act.put,aL,aM,aN];refine bF rfl (fun K hK=>?_);go_simp
      refine hK.out _ _ ?_;clear hK;try simp only[Act.put,aL,aM,aN]
      refine bP ?_;go_wp2
      go_ret
      exact⟨aT FIN.o.symm,B2.o.trans (F5.o.mono B2.o.size)⟩
    ·have d1:decide ((L1:Int)<(p:Int)+(n:Int))=true:=by have:¬p+n≤L1:=fun e=>a1 (W1.1 e);simp;omega
     have FIN:=aA (show dV ⟨p,ts⟩ (i:Int) (o:Int)=1 by rw[SH.o,if_neg (by decide)];simp[a1]);clear W1 W2 a1 SH;go_upto_region 9 with fail
     refine aF 14 (.takes [0,1,4] (.one 2 (.one 3 (.takes [5,6,7,9,12] (.one 8 (.one 10 (.one 11 (.take 13 (.fin 14 .done))))))))) (fun w'=>w'.cell? ⟨w.heap.size,0,none⟩=some (.int .i64 p)∧w'.cell? ⟨w.heap.size,1,none⟩=some (.slice A n c)∧w'.cell? ⟨w.heap.size+1,0,none⟩=some (.int .i64 i)∧w'.cell? ⟨w.heap.size+1+1,0,none⟩=some (.int .i64 o)) (by kernel_rfl) (by kernel_rfl) (by kernel_rfl) (fun _ _ _ _ _ h=>h) ⟨x0,x1,x2,x3⟩ (fun hH=>?_);simp only[Scr.takes]
     iterate 3
      refine aH (v:=?_) rfl (by rfl) hH (fun w' hSw=>?_) ?_
      rotate_left
      ·(go_simp;try with_reducible rfl)
      simp only[Act.put,aL,aM,aN]
     refine bI rfl (fun K hK=>?_);go_simp;go_at_call 61
     (with_reducible refine(kY (P:=(p:Int)) (ts:=ts) (A:=A) (n:=n) (c:=c) (i:=i) (H.o.keep (B2.o.trans DR.o)) HO.o I1.o).mono ?_)
     rintro e w3 ⟨bm,rfl,sm,hb⟩;have LN:=sm.len 3;rw[HL1.o]at LN;have F3:=aA (DR1.o.trans (hb.mono (Nat.le_refl _)));clear sm hb;clear x0 x1 x2 x3;obtain⟨x0,x1,x2,x3⟩:=KEEP.o w3 F3.o;refine hK.out _ _ ⟨x0,x1,x2,x3⟩ (fun hH=>?_);clear hK;try simp only[Act.put,aL,aM,aN]
     refine bI rfl (fun K hK=>?_);go_simp
     refine hK.out _ _ ⟨x0,x1,x2,x3⟩ (fun hH=>?_);clear hK;try simp only[Act.put,aL,aM,aN]
     refine aH (v:=.bool true) rfl (by rfl) hH (fun w' hSw=>?_) ?_
     ·go_simp
      try rw[d1]
     simp only[Act.put,aL,aM,aN];refine aH (v:=.bool true) rfl (by rfl) hH (fun w' hSw=>?_) ?_
     ·go_simp
      try rw[d1]
     simp only[Act.put,aL,aM,aN]
     iterate 3
      refine Ub rfl (by rfl) hH ?_;simp only[Act.put,aL,aM,aN]
     refine bI rfl (fun K hK=>?_);go_simp
     refine hK.out _ _ ⟨x0,x1,x2,x3⟩ (fun hH=>?_);clear hK;try simp only[Act.put,aL,aM,aN]
     refine bI rfl (fun K hK=>?_);go_simp
     refine hK.out _ _ ⟨x0,x1,x2,x3⟩ (fun hH=>?_);clear hK;try simp only[Act.put,aL,aM,aN]
     refine bI rfl (fun K hK=>?_);go_simp
     refine hK.out _ _ ⟨x0,x1,x2,x3⟩ (fun hH=>?_);clear hK;try simp only[Act.put,aL,aM,aN]
     iterate 1
      refine Ub rfl (by rfl) hH ?_;simp only[Act.put,aL,aM,aN]
     refine bF rfl (fun K hK=>?_);go_simp
     refine hK.out _ _ ?_;clear hK;try simp only[Act.put,aL,aM,aN]
     refine bP ?_;go_wp2
     go_ret
     exact⟨aT FIN.o.symm,B2.o.trans (F3.o.mono B2.o.size)⟩
   ·go_wp2
    go_ret
    exact⟨aT SH.o.symm,B2.o⟩
  ·have FIN:=aA (show dV ⟨p,ts⟩ i o=1 by rw[dV,if_pos HO.o,if_neg hin]);simp only[inB,Bool.and_eq_true,decide_eq_true_eq]at hin;by_cases h0:0≤i
   ·by_cases h1:0≤o
    ·by_cases h2:i<(p:Int)
     ·by_cases h3:o<(p:Int)
      ·have h4:i=o:=Classical.byContradiction fun h4=>hin ⟨⟨⟨⟨h0,h1⟩,h2⟩,h3⟩,h4⟩
       subst h4;clear hin;go_wp2
       go_ret
       exact⟨aT FIN.o.symm,B1.o⟩
      ·clear hin;go_wp2
       go_ret
       exact⟨aT FIN.o.symm,B1.o⟩
     ·clear hin;go_wp2
      go_ret
      exact⟨aT FIN.o.symm,B1.o⟩
    ·clear hin;go_wp2
     go_ret
     exact⟨aT FIN.o.symm,B1.o⟩
   ·clear hin;go_wp2
    go_ret
    exact⟨aT FIN.o.symm,B1.o⟩
section
variable {w w':World} {b:Nat} {bs:List Bool}
end
end Go.Proofs.YtfmnagcglhlicaaGreat
