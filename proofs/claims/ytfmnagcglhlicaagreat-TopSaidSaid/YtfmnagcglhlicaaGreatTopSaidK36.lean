/- What can be reached in a finite graph: by looking deeper and deeper, each node once; in plain Lean. Conditions: none. | What chapter 8 says of a net that goes from one place to another, in plain Lean: places and transitions behind a place, round by round, and by looking deeper. Conditions: none. | m -/
import Derived.Maps.OwnSet
import Derived.Maps.OwnOps
import Derived.WideKeyEntry
import Derived.DeepKeys4
import Derived.Test.YtfmnagcglhlicaaGreatTopSaidK33
import Derived.Laws.EntriesVeiled
set_option maxRecDepth 100000
namespace Go.Proofs.YtfmnagcglhlicaaGreat
section
variable {α:Type} [DecidableEq α]
theorem ZfO:∀(l all:List α),l.Nodup→(∀x∈l,x∈all)→l.length≤all.length
 | [],_,_,_=>by simp
 | a::l,all,hn,hs=>by
  have ha:a∈all:=hs a (by simp)
  have hal:a∉l:=(List.nodup_cons.1 hn).1
  have:=ZfO l (all.erase a) (List.nodup_cons.1 hn).2 (fun x hx=>(List.mem_erase_of_ne (a:=x) (b:=a) (by intro e;subst e;exact hal hx)).2 (hs x (by simp[hx])))
  rw[List.length_erase_of_mem ha]at this
  have:0<all.length:=List.length_pos_of_mem ha
  simp only[List.length_cons]
  omega
theorem Zga {l all:List α}(hn:l.Nodup)(hs:∀x∈l,x∈all)(hl:all.length≤l.length){x:α}(hx:x∈all):x∈l:=by
 by_cases h:x∈l
 ·exact h
 ·exfalso
  have:=ZfO (x::l) all (List.nodup_cons.2 ⟨h,hn⟩) (fun y hy=>by
   rcases List.mem_cons.1 hy with rfl|hy
   ·exact hx
   ·exact hs y hy)
  simp only[List.length_cons]at this
  omega
inductive ZbJ (s:α→List α):α→α→Prop
 | refl (x:α):ZbJ s x x
 | step {x y z:α} (h:y∈s x) (g:ZbJ s y z):ZbJ s x z
omit [DecidableEq α] in
theorem ZbJ.last {s:α→List α}{x y z:α}(h:ZbJ s x y)(g:z∈s y):ZbJ s x z:=by
 induction h with
 | refl x=>exact .step g (.refl _)
 | step a _ ih=>exact .step a (ih g)
omit [DecidableEq α] in
theorem ZbJ.closed {s:α→List α}{R:List α}(hc:∀y∈R,∀z∈s y,z∈R){x y:α}(h:ZbJ s x y)(hx:x∈R):y∈R:=by
 induction h with
 | refl x=>exact hx
 | step a _ ih=>exact ih (hc _ hx _ a)
omit [DecidableEq α] in
theorem ZbJ.closedP {s:α→List α}{R:α→Prop}(hc:∀y,R y→∀z∈s y,R z){x y:α}(h:ZbJ s x y)(hx:R x):R y:=by
 induction h with
 | refl x=>exact hx
 | step a _ ih=>exact ih (hc _ hx _ a)
def dfs (s:α→List α):Nat→List α→α→List α
 | 0,had,_=>had
 | f+1,had,x=>if x∈had then had else(s x).foldl (dfs s f) (x::had)
structure Had (all had:List α):Prop where
 nodup:had.Nodup
 sub:∀x∈had,x∈all
structure Zsz (s:α→List α)(all had R:List α)(src:α→Prop):Prop where
 good:Had all R
 more:∀x∈had,x∈R
 seen:∀y∈R,y∈had∨∀z∈s y,z∈R
 from_:∀y∈R,y∈had∨∃x,src x∧ZbJ s x y
 len:had.length≤R.length
theorem Zju {s:α→List α}{all:List α}{f:Nat}(ih:∀(had:List α) (x:α),Had all had→x∈all→all.length≤had.length+f→Zsz s all had (dfs s f had x) (·=x)∧x∈dfs s f had x) :
  ∀(L acc:List α),(∀z∈L,z∈all)→Had all acc→all.length≤acc.length+f→Zsz s all acc (L.foldl (dfs s f) acc) (·∈L)∧∀z∈L,z∈L.foldl (dfs s f) acc
 | [],acc,_,hg,_=>⟨⟨hg,fun _ h=>h,fun y h=>.inl h,fun y h=>.inl h,Nat.le_refl _⟩,fun z h=>by simp at h⟩
 | a::L,acc,hL,hg,hl=>by
  obtain⟨F,hx⟩:=ih acc a hg (hL a (by simp)) hl
  obtain⟨G,hz⟩:=Zju ih L (dfs s f acc a) (fun z h=>hL z (by simp[h])) F.good (by have:=F.len;omega)
  refine⟨⟨G.good,fun x h=>G.more x (F.more x h),fun y h=>?_,fun y h=>?_,Nat.le_trans F.len G.len⟩,fun z h=>?_⟩
  ·rcases G.seen y h with h1|h1
   ·rcases F.seen y h1 with h2|h2
    ·exact .inl h2
    ·exact .inr fun z hz'=>G.more z (h2 z hz')
   ·exact .inr h1
  ·rcases G.from_ y h with h1|⟨x,h1,h2⟩
   ·rcases F.from_ y h1 with h3|⟨x,h3,h4⟩
    ·exact .inl h3
    ·exact .inr ⟨x,by simp[h3],h4⟩
   ·exact .inr ⟨x,by simp[h1],h2⟩
  ·rcases List.mem_cons.1 h with rfl|h
   ·exact G.more _ hx
   ·exact hz z h
theorem Zkq {s:α→List α}{all:List α}(hs:∀x∈all,∀y∈s x,y∈all):∀(f:Nat) (had:List α) (x:α),Had all had→x∈all→all.length≤had.length+f →
  Zsz s all had (dfs s f had x) (·=x)∧x∈dfs s f had x:=by
 intro f
 induction f with
 | zero =>
  intro had x hg hx hl
  have:x∈had:=Zga hg.nodup hg.sub (by omega) hx
  exact⟨⟨hg,fun _ h=>h,fun y h=>.inl h,fun y h=>.inl h,Nat.le_refl _⟩,this⟩
 | succ f ih =>
  intro had x hg hx hl
  unfold dfs
  by_cases h:x∈had
  ·rw[if_pos h]
   exact⟨⟨hg,fun _ h=>h,fun y h=>.inl h,fun y h=>.inl h,Nat.le_refl _⟩,h⟩
  ·rw[if_neg h]
   have hg':Had all (x::had):=⟨List.nodup_cons.2 ⟨h,hg.nodup⟩,fun y hy=>by
    rcases List.mem_cons.1 hy with rfl|hy
    ·exact hx
    ·exact hg.sub y hy⟩
   obtain⟨F,hz⟩:=Zju ih (s x) (x::had) (hs x hx) hg' (by simp only[List.length_cons];omega)
   refine⟨⟨F.good,fun y hy=>F.more y (by simp[hy]),fun y hy=>?_,fun y hy=>?_, ?_⟩,F.more x (by simp)⟩
   ·rcases F.seen y hy with h1|h1
    ·rcases List.mem_cons.1 h1 with rfl|h1
     ·exact .inr hz
     ·exact .inl h1
    ·exact .inr h1
   ·rcases F.from_ y hy with h1|⟨z,h1,h2⟩
    ·rcases List.mem_cons.1 h1 with rfl|h1
     ·exact .inr ⟨_,rfl,.refl _⟩
     ·exact .inl h1
    ·exact .inr ⟨x,rfl,.step h1 h2⟩
   ·have:=F.len;simp only[List.length_cons]at this;omega
theorem Zpt {s:α→List α}{all:List α}(hs:∀x∈all,∀y∈s x,y∈all)(x:α)(hx:x∈all)(f:Nat)(hf:all.length≤f) :
  Had all (dfs s f [] x)∧∀y,y∈dfs s f [] x↔ZbJ s x y:=by
 obtain⟨F,h⟩:=Zkq hs f [] x ⟨List.nodup_nil,fun x h=>by simp at h⟩ hx (by simpa using hf)
 refine⟨F.good,fun y=>⟨fun hy=>?_,fun hy=>?_⟩⟩
 ·rcases F.from_ y hy with h1|⟨z,rfl,h2⟩
  ·simp at h1
  ·exact h2
 ·refine hy.closed (fun y hy z hz=>?_) h
  rcases F.seen y hy with h1|h1
  ·simp at h1
  ·exact h1 z hz
theorem ZsA {s:α→List α}{all:List α}(hs:∀x∈all,∀y∈s x,y∈all)(hn:all.Nodup)(x:α)(hx:x∈all)(f:Nat)(hf:all.length≤f) :
  all.length≤(dfs s f [] x).length↔∀y∈all,ZbJ s x y:=by
 obtain⟨hg,hr⟩:=Zpt hs x hx f hf
 refine⟨fun hl y hy=>(hr y).1 (Zga hg.nodup hg.sub hl hy),fun h=>ZfO _ _ hn (fun y hy=>(hr y).2 (h y hy))⟩
end
end Go.Proofs.YtfmnagcglhlicaaGreat
namespace Go.Proofs.YtfmnagcglhlicaaGreat
def ZmK (xs:List Int)(j:Nat):List Nat:=(List.range j).filter fun p=>decide (0<atL xs p)
theorem Zkr (xs:List Int)(j:Nat):ZmK xs (j+1)=ZmK xs j++(if 0<atL xs j then [j]else []):=by
 unfold ZmK
 rw[List.range_succ,List.filter_append]
 congr 1
 by_cases h:0<atL xs j <;> simp[h]
def ZmL (ts:List Zak)(p j:Nat):List Nat:=(List.range j).filter fun k=>decide (0<atL ((ts[k]?).getD ⟨0,[],[]⟩).pre p)
theorem Zpu (ts:List Zak)(p j:Nat){t:Zak}(h:ts[j]?=some t):ZmL ts p (j+1)=ZmL ts p j++(if 0<atL t.pre p then [j]else []):=by
 unfold ZmL
 rw[List.range_succ,List.filter_append]
 congr 1
 by_cases h':0<atL t.pre p <;> simp[h,h']
abbrev Zbe:=Bool×Nat
def ZbZ (N:Zau):Zbe→List Zbe
 |(true,k)=>match N.trans[k]? with
  | none=>[]
  | some t=>(ZmK t.post t.post.length).map fun p=>(false,p)
 |(false,p)=>(ZmL N.trans p N.trans.length).map fun k=>(true,k)
def Zcs (N:Zau):List Zbe:=(List.range N.places.toNat).map (fun p=>(false,p))++(List.range N.trans.length).map fun k=>(true,k)
theorem ZcC (N:Zau):(Zcs N).length=N.places.toNat+N.trans.length:=by simp[Zcs]
theorem ZaO {N:Zau}{p:Nat}:((false,p):Zbe)∈Zcs N↔p<N.places.toNat:=by simp[Zcs]
theorem Za7 {N:Zau}{k:Nat}:((true,k):Zbe)∈Zcs N↔k<N.trans.length:=by simp[Zcs]
theorem ZlR (N:Zau):(Zcs N).Nodup:=by
 unfold Zcs
 rw[List.nodup_append]
 refine⟨?_, ?_, ?_⟩
 ·exact List.Pairwise.map _ (fun a b h e=>h (by simpa using e)) List.nodup_range
 ·exact List.Pairwise.map _ (fun a b h e=>h (by simpa using e)) List.nodup_range
 ·intro a ha b hb
  simp only[List.mem_map]at ha hb
  obtain⟨p,_,rfl⟩:=ha
  obtain⟨k,_,rfl⟩:=hb
  simp
theorem ZgB {N:Zau}(h:Za8 N=true):∀x∈Zcs N,∀y∈ZbZ N x,y∈Zcs N:=by
 intro x hx y hy
 rcases x with⟨b,k⟩
 cases b
 ·simp only[ZbZ,ZmL,List.mem_map,List.mem_filter,List.mem_range]at hy
  obtain⟨j,⟨hj,_⟩,rfl⟩:=hy
  exact Za7.2 hj
 ·simp only[ZbZ]at hy
  cases ht:N.trans[k]? with
  | none=>rw[ht]at hy;simp at hy
  | some t =>
   rw[ht]at hy
   simp only[ZmK,List.mem_map,List.mem_filter,List.mem_range]at hy
   obtain⟨j,⟨hj,_⟩,rfl⟩:=hy
   refine ZaO.2 ?_
   have:=(Za1 h ht).2.2.2.1
   omega
structure Zck where
 ps:List Bool
 ts:List Bool
def orT (ps:List Bool)(pre:List Int)(b:Bool)(j:Nat):Bool:=b||(List.range j).any fun p=>ps.getD p false&&decide (0<atL pre p)
def orP (ps:List Bool)(b:Bool)(post:List Int)(j:Nat):List Bool:=(List.range ps.length).map fun p=>ps.getD p false||(decide (p<j)&&(b&&decide (0<atL post p)))
theorem ZiN (ps:List Bool)(b:Bool)(post:List Int)(j:Nat):(orP ps b post j).length=ps.length:=by simp[orP]
theorem ZlS (ps:List Bool)(b:Bool)(post:List Int)(j p:Nat)(h:p<ps.length):(orP ps b post j).getD p false=(ps.getD p false||(decide (p<j)&&(b&&decide (0<atL post p)))):=by
 simp[orP,h]
def ZnR (t:Zak)(k:Nat)(s:Zck):Zck:=⟨orP s.ps (orT s.ps t.pre (s.ts.getD k false) s.ps.length) t.post s.ps.length,s.ts.set k (orT s.ps t.pre (s.ts.getD k false) s.ps.length)⟩
def Zlc (ts:List Zak)(j:Nat)(s:Zck):Zck:=(List.range j).foldl (fun s k=>ZnR ((ts[k]?).getD ⟨0,[],[]⟩) k s) s
theorem Zks (ts:List Zak)(j:Nat)(s:Zck){t:Zak}(h:ts[j]?=some t):Zlc ts (j+1) s=ZnR t j (Zlc ts j s):=by
 unfold Zlc
 rw[List.range_succ,List.foldl_append]
 simp[h]
def rounds (ts:List Zak):Nat→Zck→Zck
 | 0,s=>s
 | n+1,s=>Zlc ts ts.length (rounds ts n s)
def ZdY (N:Zau)(i:Nat):Zck:=⟨(List.replicate N.places.toNat false).set i true,List.replicate N.trans.length false⟩
def ZgR (N:Zau)(i:Nat):Zck:=rounds N.trans (N.places.toNat+N.trans.length) (ZdY N i)
def Zck.at (s:Zck):Zbe→Bool
 |(false,p)=>s.ps.getD p false
 |(true,k)=>s.ts.getD k false
def Zck.le (s s':Zck):Prop:=s.ps.length=s'.ps.length∧s.ts.length=s'.ts.length∧∀x,s.at x=true→s'.at x=true
theorem Zck.le.refl (s:Zck):s.le s:=⟨rfl,rfl,fun _ h=>h⟩
theorem Zck.le.trans {a b c:Zck}(h:a.le b)(g:b.le c):a.le c:=⟨h.1.trans g.1,h.2.1.trans g.2.1,fun x hx=>g.2.2 x (h.2.2 x hx)⟩
theorem Zck.ext' {s s':Zck}(h1:s.ps.length=s'.ps.length)(h2:s.ts.length=s'.ts.length)(h:∀x,s.at x=s'.at x):s=s':=by
 rcases s with⟨ps,ts⟩
 rcases s' with⟨ps',ts'⟩
 simp only at h1 h2
 congr 1
 ·apply List.ext_getElem h1
  intro i a b
  have:=h (false,i)
  simpa [Zck.at,a,b] using this
 ·apply List.ext_getElem h2
  intro i a b
  have:=h (true,i)
  simpa [Zck.at,a,b] using this
theorem Zck.le.antisymm {a b:Zck}(h:a.le b)(g:b.le a):a=b:=by
 refine Zck.ext' h.1 h.2.1 fun x=>?_
 cases ha:a.at x with
 | true=>exact(h.2.2 x ha).symm
 | false =>
  cases hb:b.at x with
  | false=>rfl
  | true=>have:=g.2.2 x hb;rw[ha]at this;cases this
theorem Zpv (t:Zak)(k:Nat)(s:Zck):s.le (ZnR t k s):=by
 refine⟨by simp[ZnR,ZiN],by simp[ZnR],fun x hx=>?_⟩
 rcases x with⟨b,p⟩
 cases b
 ·simp only[Zck.at]at hx ⊢
  have hp:p<s.ps.length:=by
   by_cases h:p<s.ps.length
   ·exact h
   ·rw[List.getD_eq_getElem?_getD,List.getElem?_eq_none (by omega)]at hx;simp at hx
  simp only[ZnR]
  rw[ZlS _ _ _ _ _ hp,hx];rfl
 ·simp only[Zck.at]at hx ⊢
  simp only[ZnR]
  by_cases hkp:k=p
  ·subst hkp
   have hk:k<s.ts.length:=by
    by_cases h:k<s.ts.length
    ·exact h
    ·rw[List.getD_eq_getElem?_getD,List.getElem?_eq_none (by omega)]at hx;simp at hx
   rw[List.getD_eq_getElem?_getD,List.getElem?_set_self hk,hx]
   simp[orT]
  ·rw[List.getD_eq_getElem?_getD,List.getElem?_set_ne hkp,←List.getD_eq_getElem?_getD];exact hx
theorem Zfh (ts:List Zak)(s:Zck):∀j,s.le (Zlc ts j s)
 | 0=>Zck.le.refl s
 | j+1=>by
  refine(Zfh ts s j).trans ?_
  unfold Zlc
  rw[List.range_succ,List.foldl_append]
  exact Zpv _ _ _
theorem ZmM (ts:List Zak)(s:Zck):∀{i j:Nat},i≤j→(Zlc ts i s).le (Zlc ts j s):=by
 intro i j h
 induction h with
 | refl=>exact Zck.le.refl _
 | @step m _ ih =>
  refine ih.trans ?_
  conv=>rhs;unfold Zlc
  rw[List.range_succ,List.foldl_append]
  exact Zpv _ _ _
theorem Zkt {N:Zau}(hok:Za8 N=true){s:Zck}(hp:s.ps.length=N.places.toNat)(ht:s.ts.length=N.trans.length)(hs:Zlc N.trans N.trans.length s=s) :
  ∀x,s.at x=true→∀y∈ZbZ N x,s.at y=true:=by
 have each:∀j (t:Zak),N.trans[j]?=some t→ZnR t j s=s:=by
  intro j t hj
  have hlt:j<N.trans.length:=(List.getElem?_eq_some_iff.1 hj).1
  have a1:Zlc N.trans j s=s:=by
   refine Zck.le.antisymm ?_ (Zfh _ _ _)
   have:=ZmM N.trans s (Nat.le_of_lt hlt)
   rwa[hs]at this
  have a2:Zlc N.trans (j+1) s=s:=by
   refine Zck.le.antisymm ?_ (Zfh _ _ _)
   have:=ZmM N.trans s (show j+1≤N.trans.length from hlt)
   rwa[hs]at this
  rw[Zks _ _ _ hj,a1]at a2
  exact a2
 intro x hx y hy
 rcases x with⟨b,k⟩
 cases b
 ·simp only[ZbZ,ZmL,List.mem_map,List.mem_filter,List.mem_range,decide_eq_true_eq]at hy
  obtain⟨j,⟨hj,hw⟩,rfl⟩:=hy
  have hg:=List.getElem?_eq_getElem hj
  rw[hg]at hw
  have e:=congrArg Zck.ts (each j _ hg)
  simp only[ZnR]at e
  have e2:s.ts.getD j false=orT s.ps N.trans[j].pre (s.ts.getD j false) s.ps.length:=by
   conv=>lhs;rw[←e]
   rw[List.getD_eq_getElem?_getD,List.getElem?_set_self (by omega)];rfl
  simp only[Zck.at]at hx ⊢
  rw[e2]
  unfold orT
  have hk:k<s.ps.length:=by
   by_cases h:k<s.ps.length
   ·exact h
   ·rw[List.getD_eq_getElem?_getD,List.getElem?_eq_none (by omega)]at hx;simp at hx
  simp only[Bool.or_eq_true,List.any_eq_true,List.mem_range,Bool.and_eq_true,decide_eq_true_eq]
  exact .inr ⟨k,hk,hx,hw⟩
 ·simp only[ZbZ]at hy
  cases hg:N.trans[k]? with
  | none=>rw[hg]at hy;simp at hy
  | some t =>
   rw[hg]at hy
   simp only[ZmK,List.mem_map,List.mem_filter,List.mem_range,decide_eq_true_eq]at hy
   obtain⟨p,⟨hpl,hw⟩,rfl⟩:=hy
   have hpp:p<s.ps.length:=by have:=(Za1 hok hg).2.2.2.1;omega
   have e:=congrArg Zck.ps (each k t hg)
   simp only[ZnR]at e
   simp only[Zck.at]at hx ⊢
   rw[←e,ZlS _ _ _ _ _ hpp,hx]
   simp[orT,hw,hpp]
theorem ZnS {N:Zau}{Q:Zbe→Prop}(hQ:∀x,Q x→∀y∈ZbZ N x,Q y){k:Nat}{t:Zak}(hk:N.trans[k]?=some t)(hl:t.post.length=N.places.toNat){s:Zck}(hp:s.ps.length=N.places.toNat)(h:∀x,s.at x=true→Q x):∀x,(ZnR t k s).at x=true→Q x:=by
 have hT:orT s.ps t.pre (s.ts.getD k false) s.ps.length=true→Q (true,k):=by
  intro e
  simp only[orT,Bool.or_eq_true,List.any_eq_true,List.mem_range,Bool.and_eq_true,decide_eq_true_eq]at e
  rcases e with e|⟨p,hpl,e1,e2⟩
  ·exact h (true,k) e
  ·refine hQ (false,p) (h (false,p) e1) _ ?_
   simp only[ZbZ,ZmL,List.mem_map,List.mem_filter,List.mem_range,decide_eq_true_eq]
   exact⟨k,⟨(List.getElem?_eq_some_iff.1 hk).1,by rw[hk];exact e2⟩,rfl⟩
 intro x hx
 rcases x with⟨b,p⟩
 cases b
 ·simp only[Zck.at,ZnR]at hx
  have hpl:p<s.ps.length:=by
   by_cases h:p<s.ps.length
   ·exact h
   ·rw[List.getD_eq_getElem?_getD,List.getElem?_eq_none (by rw[ZiN];omega)]at hx;simp at hx
  rw[ZlS _ _ _ _ _ hpl]at hx
  simp only[Bool.or_eq_true,Bool.and_eq_true,decide_eq_true_eq]at hx
  rcases hx with hx|⟨_,h1,h2⟩
  ·exact h (false,p) hx
  ·refine hQ (true,k) (hT h1) _ ?_
   simp only[ZbZ,hk,ZmK,List.mem_map,List.mem_filter,List.mem_range,decide_eq_true_eq]
   exact⟨p,⟨by omega,h2⟩,rfl⟩
 ·simp only[Zck.at,ZnR]at hx
  by_cases hkp:k=p
  ·subst hkp
   rw[List.getD_eq_getElem?_getD,List.getElem?_set]at hx
   by_cases hkl:k<s.ts.length
   ·rw[if_pos rfl,if_pos hkl]at hx
    exact hT hx
   ·rw[if_pos rfl,if_neg hkl]at hx;simp at hx
  ·rw[List.getD_eq_getElem?_getD,List.getElem?_set_ne hkp,←List.getD_eq_getElem?_getD]at hx
   exact h (true,p) hx
theorem ZiO {N:Zau}(hok:Za8 N=true){Q:Zbe→Prop}(hQ:∀x,Q x→∀y∈ZbZ N x,Q y){s:Zck}(hp:s.ps.length=N.places.toNat)(h:∀x,s.at x=true→Q x):∀j,j≤N.trans.length→∀x,(Zlc N.trans j s).at x=true→Q x
 | 0,_=>h
 | j+1,hj=>by
  have hg:=List.getElem?_eq_getElem (show j<N.trans.length by omega)
  rw[Zks _ _ _ hg]
  exact ZnS hQ hg (by have:=(Za1 hok hg).2.2.2.1;omega) (by rw[←(Zfh N.trans s j).1];exact hp) (ZiO hok hQ hp h j (by omega))
def Zck.cnt (s:Zck)(N:Zau):Nat:=((Zcs N).filter s.at).length
theorem Zku {α:Type}{p q:α→Bool}(h:∀x,p x=true→q x=true):∀l:List α,(l.filter p).length≤(l.filter q).length
 | []=>by simp
 | a::l=>by
  have:=Zku h l
  cases hp:p a with
  | true=>rw[List.filter_cons_of_pos hp,List.filter_cons_of_pos (h a hp)];simp;omega
  | false =>
   rw[List.filter_cons_of_neg (by simp[hp])]
   cases hq:q a with
   | true=>rw[List.filter_cons_of_pos hq];simp;omega
   | false=>rw[List.filter_cons_of_neg (by simp[hq])];exact this
theorem Zkv {α:Type}{p q:α→Bool}(h:∀x,p x=true→q x=true):∀{l:List α} {a:α},a∈l→p a=false→q a=true→(l.filter p).length<(l.filter q).length
 | b::l,a,ha,hp,hq=>by
  rcases List.mem_cons.1 ha with rfl|ha
  ·rw[List.filter_cons_of_neg (by simp[hp]),List.filter_cons_of_pos hq]
   have:=Zku h l
   simp;omega
  ·have:=Zkv h ha hp hq
   cases hpb:p b with
   | true=>rw[List.filter_cons_of_pos hpb,List.filter_cons_of_pos (h b hpb)];simp;omega
   | false =>
    rw[List.filter_cons_of_neg (by simp[hpb])]
    cases hqb:q b with
    | true=>rw[List.filter_cons_of_pos hqb];simp;omega
    | false=>rw[List.filter_cons_of_neg (by simp[hqb])];exact this
theorem Ztk {N:Zau}{s:Zck}(hp:s.ps.length=N.places.toNat)(ht:s.ts.length=N.trans.length){x:Zbe}(h:s.at x=true):x∈Zcs N:=by
 rcases x with⟨b,k⟩
 cases b
 ·refine ZaO.2 ?_
  by_cases hk:k<s.ps.length
  ·omega
  ·simp only[Zck.at]at h
   rw[List.getD_eq_getElem?_getD,List.getElem?_eq_none (by omega)]at h;simp at h
 ·refine Za7.2 ?_
  by_cases hk:k<s.ts.length
  ·omega
  ·simp only[Zck.at]at h
   rw[List.getD_eq_getElem?_getD,List.getElem?_eq_none (by omega)]at h;simp at h
theorem Zq3 {N:Zau}{s s':Zck}(h:s.le s')(hne:s≠s')(hp:s'.ps.length=N.places.toNat)(ht:s'.ts.length=N.trans.length):s.cnt N<s'.cnt N:=by
 have:∃x,s'.at x=true∧s.at x=false:=by
  refine Classical.byContradiction fun hn=>hne (h.antisymm ⟨h.1.symm,h.2.1.symm,fun x hx=>?_⟩)
  cases hs:s.at x with
  | true=>rfl
  | false=>exact absurd ⟨x,hx,hs⟩ hn
 obtain⟨x,h1,h2⟩:=this
 exact Zkv h.2.2 (Ztk hp ht h1) h2 h1
theorem Zct (ts:List Zak)(s:Zck):∀n,(rounds ts n s).ps.length=s.ps.length∧(rounds ts n s).ts.length=s.ts.length
 | 0=>⟨rfl,rfl⟩
 | n+1=>by
  have:=Zfh ts (rounds ts n s) ts.length
  exact⟨this.1.symm.trans (Zct ts s n).1,this.2.1.symm.trans (Zct ts s n).2⟩
theorem ZhM (N:Zau){s:Zck}(hp:s.ps.length=N.places.toNat)(ht:s.ts.length=N.trans.length):∀n,Zlc N.trans N.trans.length (rounds N.trans n s)=rounds N.trans n s∨n+s.cnt N≤(rounds N.trans n s).cnt N
 | 0=>.inr (by simp[rounds])
 | n+1=>by
  rcases ZhM N hp ht n with h|h
  ·left;rw[rounds,h,h]
  ·by_cases e:Zlc N.trans N.trans.length (rounds N.trans n s)=rounds N.trans n s
   ·left;rw[rounds,e,e]
   ·right
    have hl:=Zct N.trans s (n+1)
    have:=Zq3 (N:=N) (Zfh N.trans (rounds N.trans n s) N.trans.length) (fun h=>e h.symm) (by rw[rounds]at hl;omega) (by rw[rounds]at hl;omega)
    rw[rounds]
    omega
theorem ZlT {N:Zau}(hok:Za8 N=true){i:Nat}(hi:i<N.places.toNat)(x:Zbe):(ZgR N i).at x=true↔ZbJ (ZbZ N) (false,i) x:=by
 have l1:(ZdY N i).ps.length=N.places.toNat:=by simp[ZdY]
 have l2:(ZdY N i).ts.length=N.trans.length:=by simp[ZdY]
 have a0:(ZdY N i).at (false,i)=true:=by simp[ZdY,Zck.at,hi]
 have c0:0<(ZdY N i).cnt N:=List.length_pos_of_mem (List.mem_filter.2 ⟨ZaO.2 hi,a0⟩)
 have hl:=Zct N.trans (ZdY N i) (N.places.toNat+N.trans.length)
 have still:Zlc N.trans N.trans.length (ZgR N i)=ZgR N i:=by
  rcases ZhM N l1 l2 (N.places.toNat+N.trans.length)with h|h
  ·exact h
  ·exfalso
   have:(rounds N.trans (N.places.toNat+N.trans.length) (ZdY N i)).cnt N≤N.places.toNat+N.trans.length:=by
    rw[←ZcC];exact List.length_filter_le _ _
   omega
 have mono:∀n,(ZdY N i).le (rounds N.trans n (ZdY N i)):=by
  intro n
  induction n with
  | zero=>exact Zck.le.refl _
  | succ n ih=>exact ih.trans (Zfh _ _ _)
 constructor
 ·intro h
  have sound:∀n,∀x,(rounds N.trans n (ZdY N i)).at x=true→ZbJ (ZbZ N) (false,i) x:=by
   intro n
   induction n with
   | zero =>
    intro x hx
    rcases x with⟨b,k⟩
    cases b
    ·have:k=i:=by
      simp only[rounds,ZdY,Zck.at,List.getD_eq_getElem?_getD,List.getElem?_set]at hx
      by_cases e:i=k
      ·exact e.symm
      ·rw[if_neg e,List.getElem?_replicate]at hx
       split at hx <;> simp at hx
     subst this
     exact .refl _
    ·simp only[rounds,ZdY,Zck.at,List.getD_eq_getElem?_getD,List.getElem?_replicate]at hx
     split at hx <;> simp at hx
   | succ n ih =>
    exact ZiO hok (Q:=ZbJ (ZbZ N) (false,i)) (fun x hx y hy=>hx.last hy) (by have:=Zct N.trans (ZdY N i) n;omega) ih _ (Nat.le_refl _)
  exact sound _ x h
 ·intro h
  exact h.closedP (R:=fun x=>(ZgR N i).at x=true) (Zkt hok (by rw[ZgR];omega) (by rw[ZgR];omega) still) ((mono _).2.2 _ a0)
def ZdZ (N:Zau)(i:Nat):Bool:=(ZgR N i).ps.all id&&(ZgR N i).ts.all id
theorem ZlU {N:Zau}(hok:Za8 N=true){i:Nat}(hi:i<N.places.toNat):ZdZ N i=true↔∀x∈Zcs N,ZbJ (ZbZ N) (false,i) x:=by
 have hl:=Zct N.trans (ZdY N i) (N.places.toNat+N.trans.length)
 have l1:(ZgR N i).ps.length=N.places.toNat:=by rw[ZgR,hl.1];simp[ZdY]
 have l2:(ZgR N i).ts.length=N.trans.length:=by rw[ZgR,hl.2];simp[ZdY]
 unfold ZdZ
 simp only[Bool.and_eq_true,List.all_eq_true,id_eq]
 constructor
 ·rintro⟨h1,h2⟩ x hx
  refine(ZlT hok hi x).1 ?_
  rcases x with⟨b,k⟩
  cases b
  ·have hk:=ZaO.1 hx
   simp only[Zck.at]
   rw[List.getD_eq_getElem?_getD,List.getElem?_eq_getElem (by omega)]
   exact h1 _ (List.getElem_mem _)
  ·have hk:=Za7.1 hx
   simp only[Zck.at]
   rw[List.getD_eq_getElem?_getD,List.getElem?_eq_getElem (by omega)]
   exact h2 _ (List.getElem_mem _)
 ·intro h
  refine⟨fun x hx=>?_,fun x hx=>?_⟩
  ·obtain⟨k,hk,rfl⟩:=List.getElem_of_mem hx
   have:=(ZlT hok hi (false,k)).2 (h _ (ZaO.2 (by omega)))
   simpa [Zck.at,hk] using this
  ·obtain⟨k,hk,rfl⟩:=List.getElem_of_mem hx
   have:=(ZlT hok hi (true,k)).2 (h _ (Za7.2 (by omega)))
   simpa [Zck.at,hk] using this
def Zq4 (N:Zau)(i:Nat):List Zbe:=dfs (ZbZ N) (N.places.toNat+N.trans.length) [] (false,i)
theorem Zkw {N:Zau}(hok:Za8 N=true){i:Nat}(hi:i<N.places.toNat):N.places.toNat+N.trans.length≤(Zq4 N i).length↔ZdZ N i=true:=by
 rw[ZlU hok hi,←ZsA (ZgB hok) (ZlR N) (false,i) (ZaO.2 hi) _ (Nat.le_of_eq (ZcC N)),ZcC]
 rfl
def ZnT (i o:Nat)(t:Zak):Bool:=decide (0<atL t.post i)||decide (0<atL t.pre o)
def inB (N:Zau)(i o:Int):Bool:=decide (0≤i)&&decide (0≤o)&&decide (i<N.places)&&decide (o<N.places)&&decide (i≠o)
def Zbt (N:Zau)(i o:Int):Int :=
 if Za8 N=true then(if inB N i o=true then(if N.trans.any (ZnT i.toNat o.toNat)=true then 1 else if ZdZ N i.toNat=true∧ZdZ (Zdw N) o.toNat=true then 0 else 1)else 1)else 2
end Go.Proofs.YtfmnagcglhlicaaGreat
namespace Go.Proofs.YtfmnagcglhlicaaGreat
open Go.RowKit Go.Maps Go.MapKept Go.ChangeMaps Go.WideElems Go.ChangeShapes
theorem Zpw {P:Program} {ops:Array Oper} {Q:Exit→Act→World→Prop} {S:World→Prop} {T:Scr} (Tend:Scr) {a0:Act} {w0:World} (F:Act→Act→World→Prop) (hF:∀a' w',F a0 a' w'→S w'→Zbm P ops Q S Tend a' w')
  (h:Hid (∀a' w',F a0 a' w'→S w'→Zbm P ops Q S Tend a' w')→Zbm P ops Q S T a0 w0):Zbm P ops Q S T a0 w0:=h hF
theorem ZrY {P:Program} {ops:Array Oper} {Q:Exit→Act→World→Prop} {S:World→Prop} {i:Nat} {r:Scr} {a:Act} {w:World} {o:Oper} (ho:nth ops.toList i=some o) (hw:Region.wanted o (yielded ops a.tmps)=false) (hS:S w)
  (h:Zbm P ops Q S r (a.put o.dst undef) w):Zbm P ops Q S (.take i r) a w :=
 ⟨o,undef,Zcd ho,.inr ⟨hw,rfl⟩,hS,h⟩
section
variable {H:Type} {P:Program} {k t e:TypeId} {R:Value→Option (DataW H×List MemPlace)} {w:World} {b n:Nat} {D:DataW H}
theorem Zc1 {es:Array MapEntry}{clock:Nat}(hb:w.heap[b]?=some (.map es clock))(o:Obj):w.grownBy (setBlock w b o) (some b)∧(setBlock w b o).heap.size=w.heap.size :=
 ⟨⟨rfl,rfl,rfl,by simp[setBlock],fun i _ hi=>heap_setBlock_other hb _ (fun e=>hi (by rw[e]))⟩,by simp[setBlock]⟩
theorem Zb3 {w':World}(h:w.ownsMap P k R b n D)(hb:w'.heap[b]?=w.heap[b]?):w'.ownsMap P k R b n D:=by
 obtain⟨es,clock,h1,h2,h3,h4⟩:=h
 exact⟨es,clock,hb.trans h1,h2,h3,h4⟩
theorem Zpx (h:w.ownsMap P k R b n D) (K:Keyed P k) (ht:P.underlying t=some (.map k e)) (hn:n<maxLen) {z:Value} (hz:∀u:World,(zeroValue e).run P u=.ok z u) {zd:DataW H} {zp:List MemPlace} (hzd:R z=some (zd,zp))
  {key:Value} {kl:Lit} (hkey:keyOf P k key=some kl) :
  ∃(v0:Value) (st:Nat) (w1:World),(Instr.mapEntry t (.map (some b)) key).run P w=.ok (.tuple #[v0,goInt st]) w1∧w.grownBy w1 (some b)∧w1.heap.size=w.heap.size ∧
   (∃D1,w1.ownsMap P k R b (n+1) D1∧D1.atKey kl zd=D.atKey kl zd) ∧
   ∀(w2:World) (val:Value) (d:DataW H) (ps:List MemPlace),w2.heap[b]?=w1.heap[b]?→R val=some (d,ps) →
    ∃w3,(Instr.entryStore t (.map (some b)) (goInt st) val).run P w2=.ok () w3∧w3.ownsMap P k R b (n+1) (D.put kl d)∧w2.grownBy w3 (some b)∧w3.heap.size=w2.heap.size:=by
 have hown:=h
 obtain⟨es,clock,hb,F,hs,hD⟩:=h
 obtain⟨s1,s2,_⟩:=F.stamped
 have same:∀{w2 w':World} {es':Array MapEntry} {clock':Nat} {d:DataW H},w'.ownsMap P k R b (n+1) (D.put kl d)→w'=setBlock w b (.map es' clock')→(∃es2 c2,w2.heap[b]?=some (.map es2 c2))→(setBlock w2 b (.map es' clock')).ownsMap P k R b (n+1) (D.put kl d):=by
  rintro w2 w' es' clock' d h1 rfl ⟨es2,c2,h2⟩
  exact Zb3 h1 ((heap_setBlock_same h2 _).trans (heap_setBlock_same hb _).symm)
 rcases K.find w hkey es.toList F.keys with⟨h1,h2⟩|⟨j,e0,h1,h2,h3⟩
 ·
  obtain⟨wz,z1,z2,z3⟩:=hown.update K ht hn hkey hzd
  have up:∀val:Value,(Instr.mapUpdate t (.map (some b)) key val).run P w=.ok () (setBlock w b (.map (es.push ⟨key,val,clock⟩) (clock+1))):=fun val=>by
   simp[Instr.mapUpdate,run_underlying ht,MapKept.run_getObj_map hb,K.check w false hkey,h1,MapKept.run_setObj_map _ hb,Result.andThen,setBlock]
  have ez:wz=setBlock w b (.map (es.push ⟨key,z,clock⟩) (clock+1)):=by
   rw[up z]at z1
   injection z1 with _ z1
   exact z1.symm
  have miss:D.atKey kl zd=zd:=by
   rcases Maps.fit_look false K ht (hz w) hb F hkey with⟨_,_,hat⟩|⟨e1,y,he1,hk1,_⟩
   ·rw[hD];exact hat zd
   ·exact absurd hk1 (h2 e1 he1)
  refine⟨z,clock,wz, ?_,z3,by rw[ez];exact(Zc1 hb _).2,⟨D.put kl zd,z2, ?_⟩,fun w2 val d ps hw2 hv=>?_⟩
  ·rw[ez]
   simp[Instr.mapEntry,run_underlying ht,MapKept.run_getObj_map hb,K.check w false hkey,h1,hz,MapKept.run_setObj_map _ hb,Result.andThen,setBlock]
  ·rw[miss,hD]
   exact Maps.atKey_put_same ⟨_,rfl⟩ (K.key hkey) _ _
  ·have hw2':w2.heap[b]?=some (.map (es.push ⟨key,z,clock⟩) (clock+1)):=by rw[hw2,ez];exact heap_setBlock_same hb _
   have hidx:(es.push ⟨key,z,clock⟩).findIdx? (fun e=>((e.born:Nat):Int)==((clock:Nat):Int))=some es.size:=by
    rw[findIdx_arr]
    refine findIdx_born (l:=(es.push ⟨key,z,clock⟩).toList) (j:=es.size) (e0:=⟨key,z,clock⟩) ?_ (by simp)
    simp only[Array.toList_push,List.map_append,List.map_cons,List.map_nil]
    refine List.nodup_append.2 ⟨s2,by simp,fun a ha c hc e1=>?_⟩
    simp only[List.mem_singleton]at hc
    obtain⟨x,hx,rfl⟩:=List.mem_map.1 ha
    have:=s1 x hx
    omega
   have hmod:(es.push ⟨key,z,clock⟩).modify es.size (fun e=>{e with val:=val})=es.push ⟨key,val,clock⟩:=by
    apply Array.ext'
    rw[Array.toList_modify,Array.toList_push,Array.toList_push,←Array.length_toList,modify_last]
   obtain⟨wv,v1,v2,_⟩:=hown.update K ht hn hkey hv
   rw[up val]at v1
   injection v1 with _ v1
   refine⟨setBlock w2 b (.map (es.push ⟨key,val,clock⟩) (clock+1)), ?_,same v2 v1.symm ⟨_,_,hw2'⟩,(Zc1 hw2' _).1,(Zc1 hw2' _).2⟩
   simp[Instr.entryStore,MapKept.run_getObj_map hw2',asInt,asIntOf,goInt,hidx,hmod,MapKept.run_setObj_map _ hw2',Result.andThen,setBlock]
 ·
  have hj:es[j]?=some e0:=by simpa using h2
  have hsame:es.modify j (fun e=>{e with key:=key})=es:=by
   apply Array.ext'
   rw[Array.toList_modify,modify_eq_set _ _ _ _ h2]
   have:({e0 with key:=key}:MapEntry)=e0:=by rw[←h3]
   rw[this]
   exact set_self _ _ _ h2
  have hw1:(setBlock w b (.map es clock)).heap[b]?=some (.map es clock):=heap_setBlock_same hb _
  refine⟨e0.val,e0.born,setBlock w b (.map es clock), ?_,(Zc1 hb _).1,(Zc1 hb _).2,⟨D,(Zb3 hown (hw1.trans hb.symm)).mono (Nat.le_succ _),rfl⟩,fun w2 val d ps hw2 hv=>?_⟩
  ·simp[Instr.mapEntry,run_underlying ht,MapKept.run_getObj_map hb,K.check w false hkey,h1,hj,h3,K.stays w hkey,hsame,MapKept.run_setObj_map _ hb,Result.andThen,setBlock]
  ·have hw2':w2.heap[b]?=some (.map es clock):=hw2.trans hw1
   have hidx:es.findIdx? (fun e=>((e.born:Nat):Int)==((e0.born:Nat):Int))=some j:=by
    rw[findIdx_arr]
    exact findIdx_born s2 h2
   have hmod:es.modify j (fun e=>{e with val:=val})=es.modify j (fun e'=>{e' with key:=key,val:=val}):=by
    apply Array.ext'
    rw[Array.toList_modify,Array.toList_modify,modify_eq_set _ _ _ _ h2,modify_eq_set _ _ _ _ h2,←h3]
   obtain⟨wv,v1,v2,_⟩:=hown.update K ht hn hkey hv
   have up:(Instr.mapUpdate t (.map (some b)) key val).run P w=.ok () (setBlock w b (.map (es.modify j (fun e'=>{e' with key:=key,val:=val})) clock)):=by
    simp[Instr.mapUpdate,run_underlying ht,MapKept.run_getObj_map hb,K.check w false hkey,h1,hj,h3,K.stays w hkey,MapKept.run_setObj_map _ hb,Result.andThen,setBlock]
   rw[up]at v1
   injection v1 with _ v1
   refine⟨setBlock w2 b (.map (es.modify j (fun e'=>{e' with key:=key,val:=val})) clock), ?_,same v2 v1.symm ⟨_,_,hw2'⟩,(Zc1 hw2' _).1,(Zc1 hw2' _).2⟩
   simp[Instr.entryStore,MapKept.run_getObj_map hw2',asInt,asIntOf,goInt,hidx,hmod,MapKept.run_setObj_map _ hw2',Result.andThen,setBlock]
end
end Go.Proofs.YtfmnagcglhlicaaGreat
namespace Go.Proofs.YtfmnagcglhlicaaGreat
open Go.RowKit Go.Maps
def ZhN (x:Zbe):Value:=.agg #[.bool x.1,.int .i64 x.2]
theorem Zfi:Keyed Tryz.prog 204:=Keyed.of_law (deep_law_laid Facts.laidOut (m:=2) (by decide) (of_decide_eq_true (by kernel_rfl)) (by kernel_rfl) (by kernel_rfl))
theorem ZlV:Tryz.prog.keyType 204=true:=by kernel_rfl
theorem Zkx:Tryz.prog.cellsOf 204=2:=by kernel_rfl
theorem Zpy:Tryz.prog.cellsOf 4=1:=by kernel_rfl
theorem Zq5:Tryz.prog.cellsOf 3=1:=by kernel_rfl
def Zjv (x:Zbe):Lit:=.string (keyBytes [.bool x.1,.int .i64 (x.2:Int)])
theorem ZfP (x:Zbe)(h:x.2≤1000):keyOf Tryz.prog 204 (ZhN x)=some (Zjv x):=by
 have hw:(Lit.int .i64 (x.2:Int)).wf=true:=WalkArith.wf_i64 (by omega)
 have hsz:∃m,Tryz.prog.types.size+1=m+2:=⟨Tryz.prog.types.size-1,by have:0<Tryz.prog.types.size:=of_decide_eq_true (by kernel_rfl);omega⟩
 obtain⟨m,hm⟩:=hsz
 unfold keyOf
 rw[Tryz.underlying204]
 simp only[ZlV,ZhN,Value.formed,Tryz.underlying204,Zkx,hm]
 simp[Program.keyLits,Tryz.underlying204,Zkx,Zpy,Zq5,Tryz.underlying4,Tryz.underlying3,hw,Value.cells,Zjv]
theorem Zpz {x y:Zbe}(hx:x.2≤1000)(hy:y.2≤1000)(h:Zjv x=Zjv y):x=y:=by
 have:=Zfi.inj (ZfP x hx) (by rw[h];exact ZfP y hy)
 simp only[ZhN,Value.agg.injEq,Array.mk.injEq,List.cons.injEq,Value.bool.injEq,Value.int.injEq,true_and,and_true,Int.natCast_inj]at this
 exact Prod.ext this.1 this.2
def Zfj (w:World)(b:Nat)(had:List Zbe):Prop :=
 ∃D:DataW Unit,w.ownsMap Tryz.prog 204 (plainElem Tryz.prog 3) b had.length D∧Maps.size D=had.length∧(∀x:Zbe,x.2≤1000→x∈had→∀z,D.atKey (Zjv x) z=.lit (.int .i64 1))∧(∀x:Zbe,x.2≤1000→x∉had→Maps.has D (Zjv x)=false)
theorem Zfj.made (w:World):Zfj (w.alloc (.map #[] 0)) w.heap.size [] :=
 ⟨.map [],World.ownsMap_made _ _ _ _,rfl,fun x _ h=>by simp at h,fun x _ _=>rfl⟩
theorem Zfj.of_block {w w':World}{b:Nat}{had:List Zbe}(h:Zfj w b had)(hb:w'.heap[b]?=w.heap[b]?):Zfj w' b had:=by
 obtain⟨D,h1,h2⟩:=h
 exact⟨D,Zb3 h1 hb,h2⟩
theorem Zfj.lt {w:World}{b:Nat}{had:List Zbe}(h:Zfj w b had):b<w.heap.size:=by
 obtain⟨D,h1,_⟩:=h
 exact h1.lt
theorem Zfj.alloc {w:World}{b:Nat}{had:List Zbe}(h:Zfj w b had)(o:Obj):Zfj (w.alloc o) b had:=h.of_block (heap_alloc_old w o h.lt)
theorem Zfj.keep {w w':World}{b:Nat}{had:List Zbe}(h:Zfj w b had)(hb:Below w.heap.size w w'):Zfj w' b had:=h.of_block (hb.block b h.lt)
theorem ZlW (w:World):(zeroValue 3).run Tryz.prog w=.ok (.int .i64 0) w:=by kernel_rfl
theorem Zfj.look {w:World}{b:Nat}{had:List Zbe}(h:Zfj w b had)(x:Zbe)(hx:x.2≤1000) :
  (Instr.lookup 145 (.map (some b)) (ZhN x) false).run Tryz.prog w=.ok (.int .i64 (if x∈had then 1 else 0)) w:=by
 obtain⟨D,h1,h2,h3,h4⟩:=h
 obtain⟨c,hrun,hat,_⟩:=h1.lookup_int Zfi Tryz.underlying145 Tryz.underlying3 (ZlW w) (ZfP x hx)
 rw[hrun]
 by_cases hm:x∈had
 ·rw[h3 x hx hm]at hat
  simp only[DataW.lit.injEq,Lit.int.injEq,true_and]at hat
  rw[if_pos hm,←hat]
 ·rw[Maps.atKey_of_not_has (h4 x hx hm)]at hat
  simp only[DataW.lit.injEq,Lit.int.injEq,true_and]at hat
  rw[if_neg hm,←hat]
theorem Zfj.len {w:World}{b:Nat}{had:List Zbe}(h:Zfj w b had)(ty:TypeId):(Builtin.len_ #[145] ty #[.map (some b)]).run Tryz.prog w=.ok (.int .i64 had.length) w:=by
 obtain⟨D,h1,h2,_⟩:=h
 rw[h1.len Tryz.underlying145 ty,h2]
theorem Zfj.entry {w:World}{b:Nat}{had:List Zbe}(h:Zfj w b had)(x:Zbe)(hx:x.2≤1000)(hn:x∉had)(hl:had.length≤1000) :
  ∃(v0:Value) (st:Nat) (w1:World),(Instr.mapEntry 145 (.map (some b)) (ZhN x)).run Tryz.prog w=.ok (.tuple #[v0,.int .i64 st]) w1∧w.grownBy w1 (some b)∧w1.heap.size=w.heap.size ∧
   (Instr.lookup 145 (.map (some b)) (ZhN x) false).run Tryz.prog w1=.ok (.int .i64 0) w1 ∧
   ∃w3,(Instr.entryStore 145 (.map (some b)) (.int .i64 st) (.int .i64 1)).run Tryz.prog w1=.ok () w3∧Zfj w3 b (x::had)∧w1.grownBy w3 (some b)∧w3.heap.size=w1.heap.size:=by
 obtain⟨D,h1,h2,h3,h4⟩:=h
 have hk:=ZfP x hx
 have ne:∀y:Zbe,y.2≤1000→y≠x→Zjv y≠Zjv x:=fun y hy hne e=>hne (Zpz hy hx e)
 obtain⟨v0,st,w1,r1,r2,r3,⟨D1,o1,a1⟩,st3⟩:=Zpx h1 Zfi Tryz.underlying145 (by simp only[maxLen];omega) ZlW (plainElem_int Tryz.underlying3 (by decide)) hk
 obtain⟨c,hrun,hat,_⟩:=o1.lookup_int Zfi Tryz.underlying145 Tryz.underlying3 (ZlW w1) hk
 rw[a1,Maps.atKey_of_not_has (h4 x hx hn)]at hat
 simp only[DataW.lit.injEq,Lit.int.injEq,true_and]at hat
 obtain⟨w3,s1,s2,s3,s4⟩:=st3 w1 (.int .i64 1) (.lit (.int .i64 1)) [] rfl (plainElem_int Tryz.underlying3 (by decide))
 refine⟨v0,st,w1,r1,r2,r3,by rw[hrun,←hat],w3,s1,⟨D.put (Zjv x) (.lit (.int .i64 1)),s2, ?_, ?_, ?_⟩,s3,s4⟩
 ·rw[Maps.size_put (h1.tidy Zfi),h4 x hx hn,h2];rfl
 ·intro y hy hm z
  rcases List.mem_cons.1 hm with rfl|hm
  ·exact Maps.atKey_put_same (h1.tidy Zfi).isMap (Zfi.key hk) _ _
  ·have hne:y≠x:=fun e=>hn (e▸hm)
   rw[Maps.atKey_put_other (ne y hy hne)]
   exact h3 y hy hm z
 ·intro y hy hm
  have hne:y≠x:=fun e=>hm (by rw[e];simp)
  rw[Maps.has_put_other (ne y hy hne)]
  exact h4 y hy (fun h=>hm (by simp[h]))
abbrev ZmN (bh bn bv:Nat):Value:=.func (.func 109) #[] #[.pointer (some ⟨bh,0,none⟩),.pointer (some ⟨bn,0,none⟩),.pointer (some ⟨bv,0,none⟩)]
theorem ZpA (w:World)(row:Option Nat):w.grownBy w.drew row:=⟨rfl,rfl,rfl,Nat.le_refl _,fun _ _ _=>rfl⟩
theorem ZsB {w w':World}(h:Below w.heap.size w w')(row:Option Nat):w.grownBy w' row:=⟨h.os,h.tape,h.output,h.size,fun k hk _=>h.block k hk⟩
theorem Zfk {N:Zau}(hok:Za8 N=true){x:Zbe}(h:x∈Zcs N):x.2≤24:=by
 have h1:=(Zar N).1 hok
 rcases x with⟨b,k⟩
 cases b
 ·have:=ZaO.1 h;simp only[];omega
 ·have:=Za7.1 h;simp only[];omega
theorem ZpB {N:Zau}(hok:Za8 N=true):(Zcs N).length≤40:=by
 have h1:=(Zar N).1 hok
 rw[ZcC];omega
theorem ZpC {α:Type} [DecidableEq α] {s:α→List α}{f:Nat}{had:List α}{x:α}(h:x∈had):dfs s f had x=had:=by
 cases f with
 | zero=>rfl
 | succ f=>rw[dfs,if_pos h]
theorem ZsC {α:Type} [DecidableEq α] {s:α→List α}{f:Nat}{had:List α}{x:α}(h:x∉had):dfs s (f+1) had x=(s x).foldl (dfs s f) (x::had):=by rw[dfs,if_neg h]
theorem ZmO {N:Zau}(hok:Za8 N=true){f:Nat}{acc L:List Zbe}(hL:∀z∈L,z∈Zcs N)(hg:Had (Zcs N) acc)(hl:(Zcs N).length≤acc.length+f) :
  Had (Zcs N) (L.foldl (dfs (ZbZ N) f) acc)∧(Zcs N).length≤(L.foldl (dfs (ZbZ N) f) acc).length+f:=by
 obtain⟨F,_⟩:=Zju (fun had x=>Zkq (ZgB hok) f had x) L acc hL hg hl
 exact⟨F.good,by have:=F.len;omega⟩
theorem Zky {w:World}{bm bh bn bv:Nat}{had:List Zbe}{x:Zbe}(hx:x.2≤1000)(hin:x∈had)(hs:Zfj w bm had)(b1:Box w bh 145 #[.map (some bm)]) :
  Calls Tryz.prog 109 #[ZhN x,.pointer (some ⟨bh,0,none⟩),.pointer (some ⟨bn,0,none⟩),.pointer (some ⟨bv,0,none⟩)] w
   (fun e w'=>e=.returned (.tuple #[])∧Zfj w' bm had∧w.grownBy w' (some bm)):=by
 have HS:=Zaa (hs.alloc (.cells #[.bool x.1,.int .i64 x.2] 204))
 have LK:=HS.out.look x hx
 rw[if_pos hin]at LK
 have X1:=(b1.old (.cells #[.bool x.1,.int .i64 x.2] 204)).cell 0
 obtain⟨xb,xn⟩:=x
 simp only[List.getElem?_toArray,List.getElem?_cons_zero]at X1
 clear hs b1 hin
 show Calls Tryz.prog 109 #[.agg #[.bool xb,.int .i64 xn],.pointer (some ⟨bh,0,none⟩),.pointer (some ⟨bn,0,none⟩),.pointer (some ⟨bv,0,none⟩)] w _
 simp only[ZhN]at LK
 go_enter Tryz.func109,Tryz.ntmps109
 go_wp2
 exact bodyPost_ret (v:=.tuple #[]) (by simp[results,Tryz.results109,go_sem]) rfl ⟨rfl,HS.out,World.grownBy_alloc _ _ _⟩
set_option maxHeartbeats 4000000 in
theorem ZlX {w0:World}{P:Int}{A:Option Addr}{n c:Nat}{ts:List Zak}(h0:ZaP w0 A n c ts)(hok:Za8 ⟨P,ts⟩=true){bm bh bn bv:Nat}(g1:w0.heap.size≤bm)(g2:bh≠bm)(g3:bn≠bm)(g4:bv≠bm) :
  ∀(f:Nat) (had:List Zbe) (x:Zbe) (w:World),Had (Zcs ⟨P,ts⟩) had→x∈Zcs ⟨P,ts⟩→(Zcs ⟨P,ts⟩).length≤had.length+f→Zfj w bm had →
   Box w bh 145 #[.map (some bm)]→Box w bn 24 #[.int .i64 P,.slice A n c]→Box w bv 202 #[ZmN bh bn bv]→Below w0.heap.size w0 w →
   Calls Tryz.prog 109 #[ZhN x,.pointer (some ⟨bh,0,none⟩),.pointer (some ⟨bn,0,none⟩),.pointer (some ⟨bv,0,none⟩)] w
    (fun e w'=>e=.returned (.tuple #[])∧Zfj w' bm (dfs (ZbZ ⟨P,ts⟩) f had x)∧w.grownBy w' (some bm)):=by
 intro f
 induction f with
 | zero =>
  intro had x w hg hx hl hs b1 b2 b3 hb
  have hin:x∈had:=Zga hg.nodup hg.sub (by omega) hx
  rw[ZpC hin]
  exact Zky (by have:=Zfk hok hx;omega) hin hs b1
 | succ f ih =>
  intro had x w hg hx hl hs b1 b2 b3 hb
  by_cases hin:x∈had
  ·rw[ZpC hin]
   exact Zky (by have:=Zfk hok hx;omega) hin hs b1
  ·rw[ZsC hin]
   have hx24:=Zfk hok hx
   have hh:=ZfO _ _ hg.nodup hg.sub
   have hn40:=ZpB hok
   have HS:=Zaa (hs.alloc (.cells #[.bool x.1,.int .i64 x.2] 204))
   have LK:=HS.out.look x (by omega)
   rw[if_neg hin]at LK
   obtain⟨v0,st,w2,r1,r2,r3,r4,w3,s1,s2,s3,s4⟩:=Zfj.entry (w:=(w.alloc (.cells #[.bool x.1,.int .i64 x.2] 204)).drew) HS.out x (by omega) hin (by omega)
   have X0:=Zaa (b1.old (.cells #[.bool x.1,.int .i64 x.2] 204))
   have X1:=Zaa (b2.old (.cells #[.bool x.1,.int .i64 x.2] 204))
   have X2:=Zaa (b3.old (.cells #[.bool x.1,.int .i64 x.2] 204))
   have X3:=Zaa (Box.new w #[.bool x.1,.int .i64 x.2] 204)
   have BW:=Zaa (hb.trans ((Zab w (.cells #[.bool x.1,.int .i64 x.2] 204)).mono hb.size))
   have hbx:w.heap.size≠bm:=by have:=hs.lt;omega
   have GW:=Zaa (World.grownBy_alloc w (.cells #[.bool x.1,.int .i64 x.2] 204) (some bm))
   have HX:=Zaa hx
   have HI:=Zaa hin
   have HG:=Zaa (show Had (Zcs ⟨P,ts⟩) (x::had)from⟨List.nodup_cons.2 ⟨hin,hg.nodup⟩,fun y hy=>by
    rcases List.mem_cons.1 hy with rfl|hy
    ·exact hx
    ·exact hg.sub y hy⟩)
   have HL:=Zaa (show(Zcs ⟨P,ts⟩).length≤(x::had).length+f by simp only[List.length_cons];omega)
   have IH:=Zaa ih
   have H0:=Zaa h0
   have HO:=Zaa hok
   have R2:=Zaa r2
   have S2:=Zaa s2
   have S3:=Zaa s3
   obtain⟨xb,xn⟩:=x
   simp only[ZhN]at LK r1 r4 s1
   simp only[]at hx24
   replace X3:Hid (Box (w.alloc (.cells #[.bool xb,.int .i64 xn] 204)) w.heap.size 204 #[.bool xb,.int .i64 xn]):=X3
   clear hs b1 b2 b3 hb hg hl hx hin h0 hok ih r2 r3 s2 s3 s4 hh hn40
   show Calls Tryz.prog 109 #[.agg #[.bool xb,.int .i64 xn],.pointer (some ⟨bh,0,none⟩),.pointer (some ⟨bn,0,none⟩),.pointer (some ⟨bv,0,none⟩)] w _
   have x0:=X0.out.cell 0
   simp only[List.getElem?_toArray,List.getElem?_cons_zero]at x0
   obtain⟨x1,x2⟩:=X3.out.two
   go_enter Tryz.func109,Tryz.ntmps109
   go_upto_region 2 with fail
   clear LK
   have LK:=Zfj.look (w:=(w.alloc (.cells #[.bool xb,.int .i64 xn] 204)).drew) HS.out (xb,xn) (by show xn≤1000;omega)
   rw[if_neg HI.out]at LK
   simp only[ZhN]at LK
   generalize w.alloc (.cells #[.bool xb,.int .i64 xn] 204)=w1 at *
   have Y0:=Zaa (X0.out.drew.grown R2.out (by simp;omega))
   have Y1:=Zaa (X1.out.drew.grown R2.out (by simp;omega))
   have Y2:=Zaa (X2.out.drew.grown R2.out (by simp;omega))
   have Y3:=Zaa (X3.out.drew.grown R2.out (by simp;omega))
   have y0:=Y0.out.cell 0
   simp only[List.getElem?_toArray,List.getElem?_cons_zero]at y0
   obtain⟨y1,y2⟩:=Y3.out.two
   refine Zae 6 (.takes [0,1] (.two 2 (.take 3 (.one 4 (.take 5 (.fin 6 .done)))) 4 (.take 5 (.one 2 (.take 3 (.fin 6 .done)))))) (fun w'=>w'.cell? ⟨bh,0,none⟩=some (.map (some bm))∧w'.cell? ⟨w.heap.size,0,none⟩=some (.bool xb)∧w'.cell? ⟨w.heap.size,1,none⟩=some (.int .i64 xn)) (by kernel_rfl) (by kernel_rfl) (by kernel_rfl) (fun _ _ _ _ _ h=>h) ⟨x0,x1,x2⟩ (fun hHeld=>?_)
   simp only[Scr.takes]
   iterate 2
    refine Zac (v:=?_) rfl (by rfl) hHeld (fun w' hSw=>?_) ?_
    rotate_left
    ·(go_simp;try with_reducible rfl)
    simp only[Act.put,Zag,Zah,Zai]
   refine Zpw (.fin 6 .done) (fun a0 a' w'=>a'=((((a0.put (some 15) (.int .i64 0)).put (some 16) (.int .i64 1)).put (some 17) (.tuple #[v0,.int .i64 st])).put (some 18) (.int .i64 st))∧w'=w2) ?_ (fun EN=>?_)
   ·rintro a' w' ⟨rfl,rfl⟩ hS
    simp only[Act.put,Zag,Zah,Zai]
    refine Zaz rfl (fun K hK=>?_)
    go_simp
    refine hK.out _ _ ?_
    clear hK
    refine ZaH ?_
    have Z1:=Zaa (Y1.out.grown S3.out (by simp;omega))
    have Z2:=Zaa (Y2.out.grown S3.out (by simp;omega))
    have Z0:=Zaa (Y0.out.grown S3.out (by simp;omega))
    have Z3:=Zaa (Y3.out.grown S3.out (by simp;omega))
    have G3:=Zaa (GW.out.trans ((ZpA w1 (some bm)).trans (R2.out.trans S3.out)))
    have B3:=Zaa (show Below w0.heap.size w0 w3 from(BW.out.drew.grown R2.out BW.out.size (fun k hk=>by cases hk;exact g1)).grown S3.out (Nat.le_trans BW.out.size R2.out.size) (fun k hk=>by cases hk;exact g1))
    have hszb:w.heap.size<w3.heap.size:=Z3.out.lt
    clear s1 S3 R2 Y0 Y1 Y2 Y3 X0 X1 X2 X3 LK hHeld BW GW HS x0 x1 x2 HI hS r1 r4 y0 y1 y2
    obtain⟨z0,z1⟩:=Z1.out.two
    obtain⟨x1,x2⟩:=Z3.out.two
    cases xb
    ·have hxP:xn<P.toNat:=ZaO.1 HX.out
     have HT:=Zaa (show ZbZ ⟨P,ts⟩ (false,xn)=(ZmL ts xn n).map fun k=>(true,k) by simp only[ZbZ,H0.out.len])
     have HN:=Zaa (show ∀j,j≤n→∀z∈(ZmL ts xn j).map (fun k=>((true,k):Zbe)),z∈Zcs ⟨P,ts⟩from fun j hj z hz=>by
      simp only[ZmL,List.mem_map,List.mem_filter,List.mem_range]at hz
      obtain⟨q,⟨hq,_⟩,rfl⟩:=hz
      refine Za7.2 ?_
      have:=H0.out.len
      simp only[]
      omega)
     have hn:=H0.out.small
     go_wp2
     go_loopw [44] (fun i wr=>∃j:Nat,j≤n∧i=.int .i64 j∧Hid (Zfj wr bm (((ZmL ts xn j).map fun k=>((true,k):Zbe)).foldl (dfs (ZbZ ⟨P,ts⟩) f) ((false,xn)::had)))∧Hid (w3.grownBy wr (some bm))) (fun i _=>n-(intOf i).toNat)
     case atStart=>exact⟨0,Nat.zero_le _,rfl,S2,World.grownBy.refl _ _⟩
     case round =>
      obtain⟨j,hj,rfl,SM,GR⟩:=hrel
      clear z0 z1 x1 x2
      have BR:=Zaa (show Below w0.heap.size w0 wr from B3.out.grown GR.out B3.out.size (fun k hk=>by cases hk;exact g1))
      by_cases hlt:j<n
      ·have hji:(j:Int)<(n:Int):=by omega
       obtain⟨bl,off,t,A1,n1,c1,A2,n2,c2,rfl,hbl,ht,q0',q1',q2',i1,i2,m1,m2⟩:=ZaP.get H0.out hlt
       have q0:=(BR.out.cell (p:=⟨bl,off+j*3,none⟩) hbl).trans q0'
       have q1:=(BR.out.cell (p:=⟨bl,off+j*3+1,none⟩) hbl).trans q1'
       have q2:=(BR.out.cell (p:=⟨bl,off+j*3+2,none⟩) hbl).trans q2'
       have hxn:xn<n1:=by have:=(Za1 HO.out ht.out).2.2.1;rw[i1.len]at this;simp only[]at this;omega
       have hxi:(xn:Int)<(n1:Int):=by omega
       have SU:=Zaa (fun v (hv:t.pre[xn]?=some v)=>show((ZmL ts xn (j+1)).map fun k=>((true,k):Zbe)).foldl (dfs (ZbZ ⟨P,ts⟩) f) ((false,xn)::had)=if 0<v then dfs (ZbZ ⟨P,ts⟩) f (((ZmL ts xn j).map fun k=>((true,k):Zbe)).foldl (dfs (ZbZ ⟨P,ts⟩) f) ((false,xn)::had)) (true,j)else((ZmL ts xn j).map fun k=>((true,k):Zbe)).foldl (dfs (ZbZ ⟨P,ts⟩) f) ((false,xn)::had) by
        rw[Zpu _ _ _ ht.out,Zda hv]
        by_cases h:0<v <;> simp[h,List.foldl_append])
       have I1:=Zaa i1
       clear i1 i2 q0' q1' q2'
       have bb:=Zab wr (.cells #[.int .i64 t.label,.slice A1 n1 c1,.slice A2 n2 c2] 49)
       have hbxr:w.heap.size<wr.heap.size:=Nat.lt_of_lt_of_le hszb GR.out.size
       have U0:=Zaa ((Z0.out.grown GR.out (by simp;omega)).old (.cells #[.int .i64 t.label,.slice A1 n1 c1,.slice A2 n2 c2] 49))
       have U1:=Zaa ((Z1.out.grown GR.out (by simp;omega)).old (.cells #[.int .i64 t.label,.slice A1 n1 c1,.slice A2 n2 c2] 49))
       have U2:=Zaa ((Z2.out.grown GR.out (by simp;omega)).old (.cells #[.int .i64 t.label,.slice A1 n1 c1,.slice A2 n2 c2] 49))
       have U3:=Zaa ((Z3.out.grown GR.out (by simp;omega)).old (.cells #[.int .i64 t.label,.slice A1 n1 c1,.slice A2 n2 c2] 49))
       have U4:=Zaa (Box.new wr #[.int .i64 t.label,.slice A1 n1 c1,.slice A2 n2 c2] 49)
       have SM1:=Zaa (SM.out.keep bb)
       have GR1:=Zaa (GR.out.trans (ZsB bb (some bm)))
       have BR1:=Zaa (BR.out.trans (bb.mono BR.out.size))
       clear bb
       go_upto_region 13 with fail
       generalize wr.alloc (.cells #[.int .i64 t.label,.slice A1 n1 c1,.slice A2 n2 c2] 49)=w4 at *
       obtain⟨b1,o1,v,rfl,hb1,hv,qv⟩:=Zam.get (Zam.keep I1.out BR1.out) hxn
       have SV:=Zaa (SU.out v hv.out)
       clear SU q0 q1 q2
       obtain⟨x1,x2⟩:=U3.out.two
       obtain⟨y0,y1,y2⟩:=U4.out.three
       have fn0:=U2.out.cell 0
       simp only[List.getElem?_toArray,List.getElem?_cons_zero]at fn0
       by_cases hpos:0<v
       ·obtain⟨FH,FL⟩:=ZmO (f:=f) HO.out (HN.out j hj) HG.out HL.out
        have CL:=Zaa (IH.out _ (true,j) w4 FH (Za7.2 (by have:=H0.out.len;simp only[];omega)) FL SM1.out U0.out U1.out U2.out BR1.out)
        clear FH FL
        go_wp2_with fail
        refine CL.out.mono ?_
        rintro e wn ⟨rfl,sm,gr⟩
        have SN:=Zaa sm
        have GN:=Zaa (GR1.out.trans gr)
        clear sm gr
        go_wp2
        go_roundw
        case rel=>exact⟨j+1,by omega,by go_num,by rw[SV.out,if_pos hpos];exact SN,GN⟩
        case measure=>simp[intOf];omega
       ·go_wp2
        go_roundw
        case rel=>exact⟨j+1,by omega,by go_num,by rw[SV.out,if_neg hpos];exact SM1,GR1⟩
        case measure=>simp[intOf];omega
      ·obtain rfl:j=n:=by omega
       go_wp2
       exact bodyPost_end (v:=.tuple #[]) (by simp[results,Tryz.results109,go_sem]) rfl ⟨rfl,by rw[HT.out];exact SM.out,G3.out.trans GR.out⟩
    ·have hxn:xn<n:=by have h1:=Za7.1 HX.out;have h2:=H0.out.len;simp only[]at h1;omega
     have hxi:(xn:Int)<(n:Int):=by omega
     obtain⟨bl,off,t,A1,n1,c1,A2,n2,c2,rfl,hbl,ht,q0',q1',q2',i1,i2,m1,m2⟩:=ZaP.get H0.out hxn
     have q2:=(B3.out.cell (p:=⟨bl,off+xn*3+2,none⟩) hbl).trans q2'
     have I2:=Zaa i2
     have HT:=Zaa (show ZbZ ⟨P,ts⟩ (true,xn)=(ZmK t.post n2).map fun p=>(false,p) by simp only[ZbZ,ht.out,i2.len])
     have HN:=Zaa (show ∀j,j≤n2→∀z∈(ZmK t.post j).map (fun p=>((false,p):Zbe)),z∈Zcs ⟨P,ts⟩from fun j hj z hz=>by
      simp only[ZmK,List.mem_map,List.mem_filter,List.mem_range]at hz
      obtain⟨q,⟨hq,_⟩,rfl⟩:=hz
      refine ZaO.2 ?_
      have:=(Za1 HO.out ht.out).2.2.2.1
      rw[i2.len]at this
      simp only[]at this ⊢
      omega)
     clear i1 i2 q0' q1' q2'
     go_wp2
     go_loopw [29] (fun i wr=>∃j:Nat,j≤n2∧i=.int .i64 j∧Hid (Zfj wr bm (((ZmK t.post j).map fun p=>((false,p):Zbe)).foldl (dfs (ZbZ ⟨P,ts⟩) f) ((true,xn)::had)))∧Hid (w3.grownBy wr (some bm))) (fun i _=>n2-(intOf i).toNat)
     case atStart=>exact⟨0,Nat.zero_le _,rfl,S2,World.grownBy.refl _ _⟩
     case round =>
      obtain⟨j,hj,rfl,SM,GR⟩:=hrel
      clear z0 z1 x1 x2 q2
      have BR:=Zaa (show Below w0.heap.size w0 wr from B3.out.grown GR.out B3.out.size (fun k hk=>by cases hk;exact g1))
      have fn0:=(Z2.out.grown GR.out (by simp;omega)).cell 0
      simp only[List.getElem?_toArray,List.getElem?_cons_zero]at fn0
      by_cases hlt:j<n2
      ·have hji:(j:Int)<(n2:Int):=by omega
       obtain⟨b2,o2,v,rfl,hb2,hv,qv⟩:=Zam.get (Zam.keep I2.out BR.out) hlt
       have SU:=Zaa (show((ZmK t.post (j+1)).map fun p=>((false,p):Zbe)).foldl (dfs (ZbZ ⟨P,ts⟩) f) ((true,xn)::had)=if 0<v then dfs (ZbZ ⟨P,ts⟩) f (((ZmK t.post j).map fun p=>((false,p):Zbe)).foldl (dfs (ZbZ ⟨P,ts⟩) f) ((true,xn)::had)) (false,j)else((ZmK t.post j).map fun p=>((false,p):Zbe)).foldl (dfs (ZbZ ⟨P,ts⟩) f) ((true,xn)::had) by
        rw[Zkr,Zda hv.out]
        by_cases h:0<v <;> simp[h,List.foldl_append])
       by_cases hpos:0<v
       ·obtain⟨FH,FL⟩:=ZmO (f:=f) HO.out (HN.out j hj) HG.out HL.out
        have CL:=Zaa (IH.out _ (false,j) wr FH (HN.out (j+1) (by omega) _ (by rw[Zkr,Zda hv.out,if_pos hpos];simp)) FL SM.out (Z0.out.grown GR.out (by simp;omega)) (Z1.out.grown GR.out (by simp;omega)) (Z2.out.grown GR.out (by simp;omega)) BR.out)
        clear FH FL
        go_wp2_with fail
        refine CL.out.mono ?_
        rintro e wn ⟨rfl,sm,gr⟩
        have SN:=Zaa sm
        have GN:=Zaa (GR.out.trans gr)
        clear sm gr
        go_wp2
        go_roundw
        case rel=>exact⟨j+1,by omega,by go_num,by rw[SU.out,if_pos hpos];exact SN,GN⟩
        case measure=>simp[intOf];omega
       ·go_wp2
        go_roundw
        case rel=>exact⟨j+1,by omega,by go_num,by rw[SU.out,if_neg hpos];exact SM,GR⟩
        case measure=>simp[intOf];omega
      ·obtain rfl:j=n2:=by omega
       go_wp2
       exact bodyPost_ret (v:=.tuple #[]) (by simp[results,Tryz.results109,go_sem]) rfl ⟨rfl,by rw[HT.out];exact SM.out,G3.out.trans GR.out⟩
   refine ZjU rfl rfl (fun K hK=>?_) (fun K hK=>?_)
   ·go_simp
    refine hK.out _ _ ⟨x0,x1,x2⟩ (fun hHeld=>?_)
    clear hK
    try simp only[Act.put,Zag,Zah,Zai]
    refine Zac (v:=?_) rfl (by rfl) hHeld (fun w' hSw=>?_) ?_
    rotate_left
    ·(go_simp;try with_reducible rfl)
    simp only[Act.put,Zag,Zah,Zai]
    refine ZaC rfl (fun K hK=>?_)
    go_simp
    refine hK.out _ _ ⟨y0,y1,y2⟩ (fun hHeld=>?_)
    clear hK
    try simp only[Act.put,Zag,Zah,Zai]
    refine Zac (v:=?_) rfl (by rfl) hHeld (fun w' hSw=>?_) ?_
    rotate_left
    ·(go_simp;try with_reducible rfl)
    simp only[Act.put,Zag,Zah,Zai]
    exact EN.out _ _ ⟨rfl,rfl⟩ hHeld
   ·go_simp
    refine hK.out _ _ ⟨y0,y1,y2⟩ (fun hHeld=>?_)
    clear hK
    try simp only[Act.put,Zag,Zah,Zai]
    refine Zac (v:=?_) rfl (by rfl) hHeld (fun w' hSw=>?_) ?_
    rotate_left
    ·(go_simp;try with_reducible rfl)
    simp only[Act.put,Zag,Zah,Zai]
    refine ZaC rfl (fun K hK=>?_)
    go_simp
    refine hK.out _ _ ⟨y0,y1,y2⟩ (fun hHeld=>?_)
    clear hK
    try simp only[Act.put,Zag,Zah,Zai]
    refine Zac (v:=?_) rfl (by rfl) hHeld (fun w' hSw=>?_) ?_
    rotate_left
    ·(go_simp;try with_reducible rfl)
    simp only[Act.put,Zag,Zah,Zai]
    exact EN.out _ _ ⟨rfl,rfl⟩ hHeld
structure ZlY (F:FuncId)(cap:Array Value)(w:World)(ts:List Zak)(p:Zak→Bool):Prop where
 enters:∀args w,(callFunc F args).run Tryz.prog w=.ok (.enter F args) w
 calls:∀(wr:World) (t:Zak) (A1:Option Addr) (n1 c1:Nat) (A2:Option Addr) (n2 c2:Nat),Below w.heap.size w wr→t∈ts→Zam wr A1 n1 c1 t.pre→Zam wr A2 n2 c2 t.post →
  Calls Tryz.prog F (#[.agg #[.int .i64 t.label,.slice A1 n1 c1,.slice A2 n2 c2]]++cap) wr fun e w'=>e=.returned (.bool (p t))∧Below wr.heap.size wr w'
theorem ZgS {w:World}{A:Option Addr}{n c:Nat}{ts:List Zak}{F:FuncId}{cap:Array Value}{p:Zak→Bool}(h:ZaP w A n c ts)(hp:ZlY F cap w ts p) :
  Calls Tryz.prog 108 #[.slice A n c,.func (.func F) #[] cap] w fun e w'=>e=.returned (.int .i64 (ZaT p ts))∧Below w.heap.size w w':=by
 have hn:=h.small
 have henter:=hp.enters
 have H:=Zaa h
 have HP:=Zaa hp
 clear h hp
 go_enter Tryz.func108,Tryz.ntmps108
 go_wp2
 go_loopw [8] (fun i wr=>∃k:Nat,k≤n∧i=.int .i64 k∧Hid (∀j,j<k→∀y,ts[j]?=some y→p y=false)∧Hid (Below w.heap.size w wr)) (fun i _=>n-(intOf i).toNat)
 case atStart=>exact⟨0,Nat.zero_le _,rfl,fun j hj=>absurd hj (by omega),Below.refl _ _⟩
 case round =>
  obtain⟨k,hk,rfl,hlow,D⟩:=hrel
  by_cases hlt:k<n
  ·have hki:(k:Int)<(n:Int):=by omega
   obtain⟨b,off,t,A1,n1,c1,A2,n2,c2,rfl,hb,ht,q0,q1,q2,i1,i2,_,_⟩:=ZaP.get (H.out.keep D.out) hlt
   have CL:=Zaa (HP.out.calls wr t A1 n1 c1 A2 n2 c2 D.out (List.mem_of_getElem? ht.out) i1 i2)
   obtain⟨v,hv⟩:∃v,p t=v:=⟨_,rfl⟩
   have HV:=Zaa hv
   rw[hv]at CL
   clear i1 i2 hv
   cases v
   ·go_wp2_with (refine CL.out.mono ?_;rintro e w' ⟨rfl,hb'⟩;have HB:=Zaa hb';clear hb')
    go_roundw
    case rel =>
     refine⟨k+1,by omega,by go_num,fun j hj y hy=>?_,D.out.trans (HB.out.mono D.out.size)⟩
     by_cases hjk:j=k
     ·subst hjk
      have:=ht.out
      rw[hy]at this
      injection this with this
      rw[this]
      exact HV.out
     ·exact hlow.out j (by omega) y hy
    case measure=>simp[intOf];omega
   ·go_wp2_with (refine CL.out.mono ?_;rintro e w' ⟨rfl,hb'⟩;have HB:=Zaa hb';clear hb')
    go_ret
    exact⟨Zap (ZaW hlow.out ht.out HV.out).symm,D.out.trans (HB.out.mono D.out.size)⟩
  ·go_wp2
   go_ret
   exact⟨Zap (ZaX (fun j hj y hy=>hlow.out j (by have:=H.out.len;omega) y hy)).symm,D.out⟩
theorem Zfl {w:World}{A:Option Addr}{n c:Nat}{ts:List Zak}{F:FuncId}{cap:Array Value}{p:Zak→Bool}(h:ZaP w A n c ts)(hp:ZlY F cap w ts p) :
  Calls Tryz.prog 59 #[.slice A n c,.func (.func F) #[] cap] w fun e w'=>e=.returned (.bool (ts.any p))∧Below w.heap.size w w':=by
 have H:=Zaa h
 have HP:=Zaa hp
 clear h hp
 go_enter Tryz.func59,Tryz.ntmps59
 go_wp2_with (refine(ZgS H.out HP.out).mono ?_;rintro e w' ⟨rfl,hb⟩)
 go_ret
 exact⟨Zav (Zb7 _ _),hb⟩
theorem ZpD {w:World}{N:Zau}(hok:Za8 N=true){bi bo i o:Nat}(hi:(i:Int)<N.places)(ho:(o:Int)<N.places)(c1:Box w bi 3 #[.int .i64 i])(c2:Box w bo 3 #[.int .i64 o]) :
  ZlY 60 #[.pointer (some ⟨bi,0,none⟩),.pointer (some ⟨bo,0,none⟩)] w N.trans (ZnT i o) where
 enters:=fun args w=>by kernel_rfl
 calls:=fun wr t A1 n1 d1 A2 n2 d2 hb ht i1 i2=>by
  obtain⟨k,hk,hkt⟩:=List.getElem_of_mem ht
  have hT:=Za1 hok (show N.trans[k]?=some t by rw[List.getElem?_eq_getElem hk,hkt])
  have e1:(n1:Int)=N.places:=by have:=hT.2.2.1;rw[i1.len]at this;exact this
  have e2:(n2:Int)=N.places:=by have:=hT.2.2.2.1;rw[i2.len]at this;exact this
  have bb:=Zab wr (.cells #[.int .i64 t.label,.slice A1 n1 d1,.slice A2 n2 d2] 49)
  obtain⟨b1,o1,x,rfl,hb1,hx,q1⟩:=Zam.get (k:=o) (Zam.keep i1 bb) (by omega)
  obtain⟨b2,o2,y,rfl,hb2,hy,q2⟩:=Zam.get (k:=i) (Zam.keep i2 bb) (by omega)
  have y1:=((c1.keep hb).old (.cells #[.int .i64 t.label,.slice (some ⟨b1,o1,none⟩) n1 d1,.slice (some ⟨b2,o2,none⟩) n2 d2] 49)).cell 0
  have y2:=((c2.keep hb).old (.cells #[.int .i64 t.label,.slice (some ⟨b1,o1,none⟩) n1 d1,.slice (some ⟨b2,o2,none⟩) n2 d2] 49)).cell 0
  simp only[List.getElem?_toArray,List.getElem?_cons_zero]at y1 y2
  have hi2:(i:Int)<(n2:Int):=by omega
  have ho1:(o:Int)<(n1:Int):=by omega
  have FN:=Zaa (show ZnT i o t=(decide (0<y)||decide (0<x)) by rw[ZnT,Zda hy.out,Zda hx.out])
  have BB:=Zaa bb
  clear hb ht hk hkt hT e1 e2 i1 i2 c1 c2 hi ho hok bb
  show Calls Tryz.prog 60 #[.agg #[.int .i64 t.label,.slice (some ⟨b1,o1,none⟩) n1 d1,.slice (some ⟨b2,o2,none⟩) n2 d2],.pointer (some ⟨bi,0,none⟩),.pointer (some ⟨bo,0,none⟩)] wr _
  rw[FN.out]
  by_cases hpos:0<y
  ·go_enter Tryz.func60,Tryz.ntmps60
   go_wp2
   go_ret
   exact⟨Zav (by simp[hpos]),BB.out⟩
  ·go_enter Tryz.func60,Tryz.ntmps60
   go_wp2
   all_goals
    go_ret
    exact⟨Zav (by simp;omega),BB.out⟩
def Zuc (had:List Zbe)(w:World)(e:Ending)(w':World):Prop:=∃b,e=.returned (.map (some b))∧Zfj w' b had∧Below w.heap.size w w'
set_option maxHeartbeats 2000000 in
theorem ZdJ {w:World}{P:Int}{A:Option Addr}{n c:Nat}{ts:List Zak}{i:Nat}(h:ZaP w A n c ts)(hok:Za8 ⟨P,ts⟩=true)(hi:i<P.toNat) :
  Calls Tryz.prog 61 #[.agg #[.int .i64 P,.slice A n c],.int .i64 i] w (Zuc (Zq4 ⟨P,ts⟩ i) w):=by
 have hmm:=@run_makeMap Tryz.prog
 have H:=Zaa h
 have HO:=Zaa hok
 clear h hok
 go_enter Tryz.func61,Tryz.ntmps61
 go_upto_region 3 with fail
 generalize hw4:(((w.alloc (.cells #[.int .i64 P,.slice A n c] 24)).alloc (.map #[] 0)).alloc (.cells #[.map (some (w.heap.size+1))] 145)).alloc (.cells #[.nilFunc] 202)=w4
 have D4:Below w.heap.size w w4:=by rw[←hw4];exact((((Below.refl _ _).alloc (Nat.le_refl _) _).alloc (by simp) _).alloc (by simp;omega) _).alloc (by simp;omega) _
 have Y0:Box w4 w.heap.size 24 #[.int .i64 P,.slice A n c]:=by rw[←hw4];exact(((Box.new _ _ _).old _).old _).old _
 have Y1:Zfj w4 (w.heap.size+1) []:=by
  rw[←hw4]
  have:=Zfj.made (w.alloc (.cells #[.int .i64 P,.slice A n c] 24))
  rw[show(w.alloc (.cells #[.int .i64 P,.slice A n c] 24)).heap.size=w.heap.size+1 by simp]at this
  exact(this.alloc _).alloc _
 have Y2:Box w4 (w.heap.size+1+1) 145 #[.map (some (w.heap.size+1))]:=by rw[←hw4];exact(Box.newAt (by simp) _ _).old _
 have Y3:Box w4 (w.heap.size+1+1+1) 202 #[.nilFunc]:=by rw[←hw4];exact Box.newAt (by simp) _ _
 clear hw4 hmm
 have f0:=Y3.frozen 0
 have n0:=Y3.cell 0
 simp only[List.getElem?_toArray,List.getElem?_cons_zero]at n0
 go_upto_region 4 with fail
 generalize hw5:w4.setCell ⟨w.heap.size+1+1+1,0,none⟩ (ZmN (w.heap.size+1+1) w.heap.size (w.heap.size+1+1+1))=w5
 have hbs:Zan (w.heap.size+1+1+1) w4 w5:=by rw[←hw5];exact Zan.set _ _ _ _
 have D5:=Zaa (show Below w.heap.size w w5 by rw[←hw5];exact D4.setCell (show w.heap.size≤w.heap.size+1+1+1 by omega) _)
 have Z0:=Zaa (hbs.box Y0 (by omega))
 have Z1:=Zaa (Y1.of_block (hbs.2 _ (by omega)))
 have Z2:=Zaa (hbs.box Y2 (by omega))
 have Z3:Box w5 (w.heap.size+1+1+1) 202 #[ZmN (w.heap.size+1+1) w.heap.size (w.heap.size+1+1+1)]:=by rw[←hw5];simpa using Y3.set 0 (ZmN (w.heap.size+1+1) w.heap.size (w.heap.size+1+1+1))
 have fn0:=Z3.cell 0
 simp only[List.getElem?_toArray,List.getElem?_cons_zero]at fn0
 have CL:=Zaa (ZlX (P:=P) H.out HO.out (bm:=w.heap.size+1) (bh:=w.heap.size+1+1) (bn:=w.heap.size) (bv:=w.heap.size+1+1+1) (by omega) (by omega) (by omega) (by omega) (P.toNat+ts.length) [] (false,i) w5
  ⟨List.nodup_nil,fun x h=>by simp at h⟩ (ZaO.2 hi) (by rw[ZcC];simp) Z1.out Z2.out Z0.out Z3 D5.out)
 clear hw5 hbs Y0 Y1 Y2 Y3 f0 n0 D4 Z3
 go_wp2_with fail
 refine CL.out.mono ?_
 rintro e w6 ⟨rfl,sm,gr⟩
 have m0:=(Z2.out.grown gr (by simp)).cell 0
 simp only[List.getElem?_toArray,List.getElem?_cons_zero]at m0
 have SM:=Zaa sm
 have D6:=Zaa (show Below w.heap.size w w6 from D5.out.grown gr D5.out.size (fun k hk=>by cases hk;omega))
 clear sm gr fn0
 go_wp2
 go_ret
 exact⟨_,rfl,SM.out,D6.out⟩
theorem ZpE {N:Zau}(h:Za8 N=true):Za8 (Zdw N)=true:=by
 obtain⟨h1,h2,h3,h4⟩:=(Zar N).1 h
 refine(Zar _).2 ⟨h1,h2,by simpa [Zdw] using h3,fun t ht=>?_⟩
 simp only[Zdw,List.mem_map]at ht
 obtain⟨u,hu,rfl⟩:=ht
 have:=(ZbQ _ _).1 (h4 u hu)
 exact(ZbQ _ _).2 ⟨this.1,this.2.1,this.2.2.2.1,this.2.2.1,this.2.2.2.2.2,this.2.2.2.2.1⟩
set_option maxHeartbeats 4000000 in
theorem Zd7 {w:World}{P:Int}{A:Option Addr}{n c:Nat}{ts:List Zak}(i o:Int)(h:ZaP w A n c ts)(hn:n≤2513169434916) :
  Calls Tryz.prog 24 #[.agg #[.int .i64 P,.slice A n c],.int .i64 i,.int .i64 o] w fun e w'=>e=.returned (.int .i64 (Zbt ⟨P,ts⟩ i o))∧Below w.heap.size w w':=by
 generalize hw0:((w.alloc (.cells #[.int .i64 P,.slice A n c] 24)).alloc (.cells #[.int .i64 i] 3)).alloc (.cells #[.int .i64 o] 3)=w0
 have D0:=Zaa (show Below w.heap.size w w0 by rw[←hw0];exact(((Below.refl _ _).alloc (Nat.le_refl _) _).alloc (by simp) _).alloc (by simp;omega) _)
 have X0:=Zaa (show Box w0 w.heap.size 24 #[.int .i64 P,.slice A n c] by rw[←hw0];exact((Box.new _ _ _).old _).old _)
 have X1:=Zaa (show Box w0 (w.heap.size+1) 3 #[.int .i64 i] by rw[←hw0];exact(Box.newAt (by simp) _ _).old _)
 have X2:=Zaa (show Box w0 (w.heap.size+1+1) 3 #[.int .i64 o] by rw[←hw0];exact Box.newAt (by simp) _ _)
 have H:=Zaa h
 have HL:=Zaa h.len
 have hns:=h.small
 clear h
 have c0:=X0.out.two.1
 cases hok:Za8 ⟨P,ts⟩
 ·have W0:=Zaa (Zb8 hok)
  have FIN:=Zaa (show Zbt ⟨P,ts⟩ i o=2 by rw[Zbt,hok];rfl)
  clear hok
  go_enter Tryz.func24,Tryz.ntmps24
  go_upto_region 1 with fail
  clear hw0
  obtain⟨c0,c1⟩:=X0.out.two
  go_wp2_with fail
  refine(Za5 _ P A n c ts (H.out.keep D0.out)).mono ?_
  rw[W0.out]
  rintro e w1 ⟨rfl,hb⟩
  have B1:=Zaa (D0.out.trans (hb.mono D0.out.size))
  clear hb
  go_wp2
  go_ret
  exact⟨Zap FIN.out.symm,B1.out⟩
 ·have W0:=Zaa (ZcT hok)
  have HO:=Zaa hok
  clear hok
  obtain⟨p,rfl⟩:∃p:Nat,P=(p:Int):=⟨P.toNat,by have:=((Zar _).1 HO.out).1;simp only[]at this;omega⟩
  have hp16:p≤16:=by have:=((Zar _).1 HO.out).2.1;simp only[]at this;omega
  have hn24:n≤24:=by have:=((Zar _).1 HO.out).2.2.1;rw[HL.out]at this;exact this
  go_enter Tryz.func24,Tryz.ntmps24
  go_upto_region 1 with fail
  clear hw0 c0
  obtain⟨c0,c1⟩:=X0.out.two
  go_wp2_with fail
  refine(Za5 _ (p:Int) A n c ts (H.out.keep D0.out)).mono ?_
  rw[W0.out]
  rintro e w1 ⟨rfl,hb⟩
  have B1:=Zaa (D0.out.trans (hb.mono D0.out.size))
  have Y0:=Zaa (X0.out.keep hb)
  have Y1:=Zaa (X1.out.keep hb)
  have Y2:=Zaa (X2.out.keep hb)
  clear hb c0 c1 X0 X1 X2 D0
  obtain⟨c0,c1⟩:=Y0.out.two
  have ci:=Y1.out.cell 0
  have co:=Y2.out.cell 0
  simp only[List.getElem?_toArray,List.getElem?_cons_zero]at ci co
  by_cases hin:inB ⟨p,ts⟩ i o=true
  ·simp only[inB,Bool.and_eq_true,decide_eq_true_eq]at hin
   obtain⟨⟨⟨⟨h0,h1⟩,h2⟩,h3⟩,h4⟩:=hin
   have IN:=Zaa (show inB ⟨p,ts⟩ i o=true by simp only[inB,Bool.and_eq_true,decide_eq_true_eq];exact⟨⟨⟨⟨h0,h1⟩,h2⟩,h3⟩,h4⟩)
   obtain⟨i,rfl⟩:∃k:Nat,i=(k:Int):=⟨i.toNat,by omega⟩
   obtain⟨o,rfl⟩:∃k:Nat,o=(k:Int):=⟨o.toNat,by omega⟩
   have hne:((i:Int)==(o:Int))=false:=by simpa using h4
   have PR:=Zaa (ZpD (w:=w1) (N:=⟨p,ts⟩) HO.out (i:=i) (o:=o) h2 h3 Y1.out Y2.out)
   have SH:=Zaa (show Zbt ⟨p,ts⟩ (i:Int) (o:Int)=(if ts.any (ZnT i o)=true then 1 else if ZdZ ⟨p,ts⟩ i=true∧ZdZ (Zdw ⟨p,ts⟩) o=true then 0 else 1) by
    rw[Zbt,if_pos HO.out,if_pos IN.out];rfl)
   clear h4 IN
   go_wp2_with fail
   refine(Zfl (H.out.keep B1.out) PR.out).mono ?_
   rintro e w2 ⟨rfl,hb⟩
   have B2:=Zaa (B1.out.trans (hb.mono B1.out.size))
   have Z0:=Zaa (Y0.out.keep hb)
   have Z1:=Zaa (Y1.out.keep hb)
   have Z2:=Zaa (Y2.out.keep hb)
   clear hb c0 c1 ci co Y0 Y1 Y2 B1 PR hne
   obtain⟨bk,hbk⟩:∃b,ts.any (ZnT i o)=b:=⟨_,rfl⟩
   rw[hbk]
   rw[hbk]at SH
   clear hbk
   cases bk
   ·have KEEP:=Zaa (show ∀w',Below w2.heap.size w2 w'→w'.cell? ⟨w.heap.size,0,none⟩=some (.int .i64 p)∧w'.cell? ⟨w.heap.size,1,none⟩=some (.slice A n c)∧w'.cell? ⟨w.heap.size+1,0,none⟩=some (.int .i64 i)∧w'.cell? ⟨w.heap.size+1+1,0,none⟩=some (.int .i64 o)from fun w' hb=>by
     obtain⟨x0,x1⟩:=(Z0.out.keep hb).two
     have x2:=(Z1.out.keep hb).cell 0
     have x3:=(Z2.out.keep hb).cell 0
     simp only[List.getElem?_toArray,List.getElem?_cons_zero]at x2 x3
     exact⟨x0,x1,x2,x3⟩)
    have I1:=Zaa (show i<(p:Int).toNat by omega)
    have I2:=Zaa (show o<(p:Int).toNat by omega)
    have TO:=Zaa (show Za8 ⟨(p:Int),ts.map Zfw⟩=true from ZpE (N:=⟨p,ts⟩) HO.out)
    obtain⟨L1,hL1⟩:∃L,(Zq4 ⟨p,ts⟩ i).length=L:=⟨_,rfl⟩
    obtain⟨L2,hL2⟩:∃L,(Zq4 ⟨(p:Int),ts.map Zfw⟩ o).length=L:=⟨_,rfl⟩
    have W1:=Zkw (N:=⟨p,ts⟩) HO.out (i:=i) I1.out
    have W2:=Zkw (N:=⟨(p:Int),ts.map Zfw⟩) TO.out (i:=o) I2.out
    rw[hL1]at W1
    rw[hL2]at W2
    simp only[HL.out,List.length_map,Int.toNat_natCast]at W1 W2
    have HL1:=Zaa hL1
    have HL2:=Zaa hL2
    have DR:=Zaa ((Below.refl w.heap.size w2).drew)
    have DR1:=Zaa ((Below.refl w2.heap.size w2).drew)
    clear hL1 hL2 Z0 Z1 Z2
    obtain⟨x0,x1,x2,x3⟩:=KEEP.out w2 (Below.refl _ _)
    by_cases a1:ZdZ ⟨p,ts⟩ i=true
    ·have d1:decide ((L1:Int)<(p:Int)+(n:Int))=false:=by have:=W1.2 a1;simp;omega
     by_cases a2:ZdZ ⟨(p:Int),ts.map Zfw⟩ o=true
     ·have d2:decide ((L2:Int)<(p:Int)+(n:Int))=false:=by have:=W2.2 a2;simp;omega
      have FIN:=Zaa (show Zbt ⟨p,ts⟩ (i:Int) (o:Int)=0 by rw[SH.out,if_neg (by decide)];simp[a1,Zdw,a2])
      clear W1 W2 a1 a2 SH
      go_upto_region 9 with fail
      refine Zae 14 (.takes [0,1,4] (.one 2 (.one 3 (.takes [5,6,7,9,12] (.one 8 (.one 10 (.one 11 (.take 13 (.fin 14 .done))))))))) (fun w'=>w'.cell? ⟨w.heap.size,0,none⟩=some (.int .i64 p)∧w'.cell? ⟨w.heap.size,1,none⟩=some (.slice A n c)∧w'.cell? ⟨w.heap.size+1,0,none⟩=some (.int .i64 i)∧w'.cell? ⟨w.heap.size+1+1,0,none⟩=some (.int .i64 o)) (by kernel_rfl) (by kernel_rfl) (by kernel_rfl) (fun _ _ _ _ _ h=>h) ⟨x0,x1,x2,x3⟩ (fun hHeld=>?_)
      simp only[Scr.takes]
      iterate 3
       refine Zac (v:=?_) rfl (by rfl) hHeld (fun w' hSw=>?_) ?_
       rotate_left
       ·(go_simp;try with_reducible rfl)
       simp only[Act.put,Zag,Zah,Zai]
      refine ZaC rfl (fun K hK=>?_)
      go_simp;go_at_call 61
      (with_reducible refine(ZdJ (P:=(p:Int)) (ts:=ts) (A:=A) (n:=n) (c:=c) (i:=i) (H.out.keep (B2.out.trans DR.out)) HO.out I1.out).mono ?_)
      rintro e w3 ⟨bm,rfl,sm,hb⟩
      have LN:=sm.len 3
      rw[HL1.out]at LN
      have F3:=Zaa (DR1.out.trans (hb.mono (Nat.le_refl _)))
      clear sm hb
      clear x0 x1 x2 x3
      obtain⟨x0,x1,x2,x3⟩:=KEEP.out w3 F3.out
      refine hK.out _ _ ⟨x0,x1,x2,x3⟩ (fun hHeld=>?_)
      clear hK
      try simp only[Act.put,Zag,Zah,Zai]
      refine ZaC rfl (fun K hK=>?_)
      go_simp
      refine hK.out _ _ ⟨x0,x1,x2,x3⟩ (fun hHeld=>?_)
      clear hK
      try simp only[Act.put,Zag,Zah,Zai]
      refine Zac (v:=.bool false) rfl (by rfl) hHeld (fun w' hSw=>?_) ?_
      ·go_simp
       try rw[d1]
      simp only[Act.put,Zag,Zah,Zai]
      refine Zac (v:=.bool false) rfl (by rfl) hHeld (fun w' hSw=>?_) ?_
      ·go_simp
       try rw[d1]
      simp only[Act.put,Zag,Zah,Zai]
      iterate 3
       refine Zac (v:=?_) rfl (by rfl) hHeld (fun w' hSw=>?_) ?_
       rotate_left
       ·(go_simp;try with_reducible rfl)
       simp only[Act.put,Zag,Zah,Zai]
      refine ZaC rfl (fun K hK=>?_)
      go_simp;go_at_call 62
      (with_reducible refine(Zeu (P:=(p:Int)) (H.out.keep (B2.out.trans (F3.out.mono B2.out.size))) hn).mono ?_)
      rintro e w4 ⟨A4,n4,c4,rfl,t4,hb⟩
      have T4:=Zaa t4
      have F4:=Zaa (F3.out.trans (hb.mono F3.out.size))
      clear hb t4
      rw[show(Zdw ⟨(p:Int),ts⟩).places=(p:Int)from rfl]
      clear x0 x1 x2 x3
      obtain⟨x0,x1,x2,x3⟩:=KEEP.out w4 F4.out
      refine hK.out _ _ ⟨x0,x1,x2,x3⟩ (fun hHeld=>?_)
      clear hK
      try simp only[Act.put,Zag,Zah,Zai]
      refine ZaC rfl (fun K hK=>?_)
      go_simp;go_at_call 61
      (with_reducible refine(ZdJ (P:=(p:Int)) (ts:=ts.map Zfw) (A:=A4) (n:=n4) (c:=c4) (i:=o) T4.out TO.out I2.out).mono ?_)
      rintro e w5 ⟨bm2,rfl,sm,hb⟩
      have LN2:=sm.len 3
      rw[HL2.out]at LN2
      have F5:=Zaa (F4.out.trans (hb.mono F4.out.size))
      clear sm hb
      clear x0 x1 x2 x3
      obtain⟨x0,x1,x2,x3⟩:=KEEP.out w5 F5.out
      refine hK.out _ _ ⟨x0,x1,x2,x3⟩ (fun hHeld=>?_)
      clear hK
      try simp only[Act.put,Zag,Zah,Zai]
      refine ZaC rfl (fun K hK=>?_)
      go_simp
      refine hK.out _ _ ⟨x0,x1,x2,x3⟩ (fun hHeld=>?_)
      clear hK
      try simp only[Act.put,Zag,Zah,Zai]
      refine Zac (v:=.bool false) rfl (by rfl) hHeld (fun w' hSw=>?_) ?_
      ·go_simp
       try rw[d2]
      simp only[Act.put,Zag,Zah,Zai]
      refine Zaz rfl (fun K hK=>?_)
      go_simp
      refine hK.out _ _ ?_
      clear hK
      try simp only[Act.put,Zag,Zah,Zai]
      refine ZaH ?_
      go_wp2
      go_ret
      exact⟨Zap FIN.out.symm,B2.out.trans (F5.out.mono B2.out.size)⟩
     ·have d2:decide ((L2:Int)<(p:Int)+(n:Int))=true:=by have:¬p+n≤L2:=fun e=>a2 (W2.1 e);simp;omega
      have FIN:=Zaa (show Zbt ⟨p,ts⟩ (i:Int) (o:Int)=1 by rw[SH.out,if_neg (by decide)];simp[a1,Zdw,a2])
      clear W1 W2 a1 a2 SH
      go_upto_region 9 with fail
      refine Zae 14 (.takes [0,1,4] (.one 2 (.one 3 (.takes [5,6,7,9,12] (.one 8 (.one 10 (.one 11 (.take 13 (.fin 14 .done))))))))) (fun w'=>w'.cell? ⟨w.heap.size,0,none⟩=some (.int .i64 p)∧w'.cell? ⟨w.heap.size,1,none⟩=some (.slice A n c)∧w'.cell? ⟨w.heap.size+1,0,none⟩=some (.int .i64 i)∧w'.cell? ⟨w.heap.size+1+1,0,none⟩=some (.int .i64 o)) (by kernel_rfl) (by kernel_rfl) (by kernel_rfl) (fun _ _ _ _ _ h=>h) ⟨x0,x1,x2,x3⟩ (fun hHeld=>?_)
      simp only[Scr.takes]
      iterate 3
       refine Zac (v:=?_) rfl (by rfl) hHeld (fun w' hSw=>?_) ?_
       rotate_left
       ·(go_simp;try with_reducible rfl)
       simp only[Act.put,Zag,Zah,Zai]
      refine ZaC rfl (fun K hK=>?_)
      go_simp;go_at_call 61
      (with_reducible refine(ZdJ (P:=(p:Int)) (ts:=ts) (A:=A) (n:=n) (c:=c) (i:=i) (H.out.keep (B2.out.trans DR.out)) HO.out I1.out).mono ?_)
      rintro e w3 ⟨bm,rfl,sm,hb⟩
      have LN:=sm.len 3
      rw[HL1.out]at LN
      have F3:=Zaa (DR1.out.trans (hb.mono (Nat.le_refl _)))
      clear sm hb
      clear x0 x1 x2 x3
      obtain⟨x0,x1,x2,x3⟩:=KEEP.out w3 F3.out
      refine hK.out _ _ ⟨x0,x1,x2,x3⟩ (fun hHeld=>?_)
      clear hK
      try simp only[Act.put,Zag,Zah,Zai]
      refine ZaC rfl (fun K hK=>?_)
      go_simp
      refine hK.out _ _ ⟨x0,x1,x2,x3⟩ (fun hHeld=>?_)
      clear hK
      try simp only[Act.put,Zag,Zah,Zai]
      refine Zac (v:=.bool false) rfl (by rfl) hHeld (fun w' hSw=>?_) ?_
      ·go_simp
       try rw[d1]
      simp only[Act.put,Zag,Zah,Zai]
      refine Zac (v:=.bool false) rfl (by rfl) hHeld (fun w' hSw=>?_) ?_
      ·go_simp
       try rw[d1]
      simp only[Act.put,Zag,Zah,Zai]
      iterate 3
       refine Zac (v:=?_) rfl (by rfl) hHeld (fun w' hSw=>?_) ?_
       rotate_left
       ·(go_simp;try with_reducible rfl)
       simp only[Act.put,Zag,Zah,Zai]
      refine ZaC rfl (fun K hK=>?_)
      go_simp;go_at_call 62
      (with_reducible refine(Zeu (P:=(p:Int)) (H.out.keep (B2.out.trans (F3.out.mono B2.out.size))) hn).mono ?_)
      rintro e w4 ⟨A4,n4,c4,rfl,t4,hb⟩
      have T4:=Zaa t4
      have F4:=Zaa (F3.out.trans (hb.mono F3.out.size))
      clear hb t4
      rw[show(Zdw ⟨(p:Int),ts⟩).places=(p:Int)from rfl]
      clear x0 x1 x2 x3
      obtain⟨x0,x1,x2,x3⟩:=KEEP.out w4 F4.out
      refine hK.out _ _ ⟨x0,x1,x2,x3⟩ (fun hHeld=>?_)
      clear hK
      try simp only[Act.put,Zag,Zah,Zai]
      refine ZaC rfl (fun K hK=>?_)
      go_simp;go_at_call 61
      (with_reducible refine(ZdJ (P:=(p:Int)) (ts:=ts.map Zfw) (A:=A4) (n:=n4) (c:=c4) (i:=o) T4.out TO.out I2.out).mono ?_)
      rintro e w5 ⟨bm2,rfl,sm,hb⟩
      have LN2:=sm.len 3
      rw[HL2.out]at LN2
      have F5:=Zaa (F4.out.trans (hb.mono F4.out.size))
      clear sm hb
      clear x0 x1 x2 x3
      obtain⟨x0,x1,x2,x3⟩:=KEEP.out w5 F5.out
      refine hK.out _ _ ⟨x0,x1,x2,x3⟩ (fun hHeld=>?_)
      clear hK
      try simp only[Act.put,Zag,Zah,Zai]
      refine ZaC rfl (fun K hK=>?_)
      go_simp
      refine hK.out _ _ ⟨x0,x1,x2,x3⟩ (fun hHeld=>?_)
      clear hK
      try simp only[Act.put,Zag,Zah,Zai]
      refine Zac (v:=.bool true) rfl (by rfl) hHeld (fun w' hSw=>?_) ?_
      ·go_simp
       try rw[d2]
      simp only[Act.put,Zag,Zah,Zai]
      refine Zaz rfl (fun K hK=>?_)
      go_simp
      refine hK.out _ _ ?_
      clear hK
      try simp only[Act.put,Zag,Zah,Zai]
      refine ZaH ?_
      go_wp2
      go_ret
      exact⟨Zap FIN.out.symm,B2.out.trans (F5.out.mono B2.out.size)⟩
    ·have d1:decide ((L1:Int)<(p:Int)+(n:Int))=true:=by have:¬p+n≤L1:=fun e=>a1 (W1.1 e);simp;omega
     have FIN:=Zaa (show Zbt ⟨p,ts⟩ (i:Int) (o:Int)=1 by rw[SH.out,if_neg (by decide)];simp[a1])
     clear W1 W2 a1 SH
     go_upto_region 9 with fail
     refine Zae 14 (.takes [0,1,4] (.one 2 (.one 3 (.takes [5,6,7,9,12] (.one 8 (.one 10 (.one 11 (.take 13 (.fin 14 .done))))))))) (fun w'=>w'.cell? ⟨w.heap.size,0,none⟩=some (.int .i64 p)∧w'.cell? ⟨w.heap.size,1,none⟩=some (.slice A n c)∧w'.cell? ⟨w.heap.size+1,0,none⟩=some (.int .i64 i)∧w'.cell? ⟨w.heap.size+1+1,0,none⟩=some (.int .i64 o)) (by kernel_rfl) (by kernel_rfl) (by kernel_rfl) (fun _ _ _ _ _ h=>h) ⟨x0,x1,x2,x3⟩ (fun hHeld=>?_)
     simp only[Scr.takes]
     iterate 3
      refine Zac (v:=?_) rfl (by rfl) hHeld (fun w' hSw=>?_) ?_
      rotate_left
      ·(go_simp;try with_reducible rfl)
      simp only[Act.put,Zag,Zah,Zai]
     refine ZaC rfl (fun K hK=>?_)
     go_simp;go_at_call 61
     (with_reducible refine(ZdJ (P:=(p:Int)) (ts:=ts) (A:=A) (n:=n) (c:=c) (i:=i) (H.out.keep (B2.out.trans DR.out)) HO.out I1.out).mono ?_)
     rintro e w3 ⟨bm,rfl,sm,hb⟩
     have LN:=sm.len 3
     rw[HL1.out]at LN
     have F3:=Zaa (DR1.out.trans (hb.mono (Nat.le_refl _)))
     clear sm hb
     clear x0 x1 x2 x3
     obtain⟨x0,x1,x2,x3⟩:=KEEP.out w3 F3.out
     refine hK.out _ _ ⟨x0,x1,x2,x3⟩ (fun hHeld=>?_)
     clear hK
     try simp only[Act.put,Zag,Zah,Zai]
     refine ZaC rfl (fun K hK=>?_)
     go_simp
     refine hK.out _ _ ⟨x0,x1,x2,x3⟩ (fun hHeld=>?_)
     clear hK
     try simp only[Act.put,Zag,Zah,Zai]
     refine Zac (v:=.bool true) rfl (by rfl) hHeld (fun w' hSw=>?_) ?_
     ·go_simp
      try rw[d1]
     simp only[Act.put,Zag,Zah,Zai]
     refine Zac (v:=.bool true) rfl (by rfl) hHeld (fun w' hSw=>?_) ?_
     ·go_simp
      try rw[d1]
     simp only[Act.put,Zag,Zah,Zai]
     iterate 3
      refine ZrY rfl (by rfl) hHeld ?_
      simp only[Act.put,Zag,Zah,Zai]
     refine ZaC rfl (fun K hK=>?_)
     go_simp
     refine hK.out _ _ ⟨x0,x1,x2,x3⟩ (fun hHeld=>?_)
     clear hK
     try simp only[Act.put,Zag,Zah,Zai]
     refine ZaC rfl (fun K hK=>?_)
     go_simp
     refine hK.out _ _ ⟨x0,x1,x2,x3⟩ (fun hHeld=>?_)
     clear hK
     try simp only[Act.put,Zag,Zah,Zai]
     refine ZaC rfl (fun K hK=>?_)
     go_simp
     refine hK.out _ _ ⟨x0,x1,x2,x3⟩ (fun hHeld=>?_)
     clear hK
     try simp only[Act.put,Zag,Zah,Zai]
     iterate 1
      refine ZrY rfl (by rfl) hHeld ?_
      simp only[Act.put,Zag,Zah,Zai]
     refine Zaz rfl (fun K hK=>?_)
     go_simp
     refine hK.out _ _ ?_
     clear hK
     try simp only[Act.put,Zag,Zah,Zai]
     refine ZaH ?_
     go_wp2
     go_ret
     exact⟨Zap FIN.out.symm,B2.out.trans (F3.out.mono B2.out.size)⟩
   ·go_wp2
    go_ret
    exact⟨Zap SH.out.symm,B2.out⟩
  ·have FIN:=Zaa (show Zbt ⟨p,ts⟩ i o=1 by rw[Zbt,if_pos HO.out,if_neg hin])
   simp only[inB,Bool.and_eq_true,decide_eq_true_eq]at hin
   by_cases h0:0≤i
   ·by_cases h1:0≤o
    ·by_cases h2:i<(p:Int)
     ·by_cases h3:o<(p:Int)
      ·have h4:i=o:=Classical.byContradiction fun h4=>hin ⟨⟨⟨⟨h0,h1⟩,h2⟩,h3⟩,h4⟩
       subst h4
       clear hin
       go_wp2
       go_ret
       exact⟨Zap FIN.out.symm,B1.out⟩
      ·clear hin
       go_wp2
       go_ret
       exact⟨Zap FIN.out.symm,B1.out⟩
     ·clear hin
      go_wp2
      go_ret
      exact⟨Zap FIN.out.symm,B1.out⟩
    ·clear hin
     go_wp2
     go_ret
     exact⟨Zap FIN.out.symm,B1.out⟩
   ·clear hin
    go_wp2
    go_ret
    exact⟨Zap FIN.out.symm,B1.out⟩
end Go.Proofs.YtfmnagcglhlicaaGreat
namespace Go.Proofs.YtfmnagcglhlicaaGreat
open Go.RowKit
section
variable {w w':World} {b:Nat} {bs:List Bool}
end
end Go.Proofs.YtfmnagcglhlicaaGreat
