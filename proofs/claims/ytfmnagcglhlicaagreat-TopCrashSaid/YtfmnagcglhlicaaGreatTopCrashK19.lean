/- Texts melted into one: The contract of speak. Conditions: the net reads as a list. | The contracts of tongue.Has and tongue.Least. Conditions: the net and the word read as lists. | The memor -/
import Derived.Test.YtfmnagcglhlicaaGreatTopCrashK18
import Derived.Test.YtfmnagcglhlicaaGreatTopCrashK07
namespace Go.Proofs.YtfmnagcglhlicaaGreat
open Go.RowKit
theorem Oc {w:World}{A:OAd}{n c:Nat}{ts:List aI}(h:bK w A n c ts):bK w.drew A n c ts:=h.keep ⟨rfl,rfl,rfl,Nat.le_refl _,fun _ _=>rfl⟩
noncomputable def pL (N:aS)(i o:Int):PSp×Int:=if dV N i o=0 then bG N (gX (min N.places 16).toNat i) 300 else(PSp.nil,dV N i o)
theorem FQ {N:aS}{i o:Int}(h:dV N i o≠0):pL N i o=(PSp.nil,dV N i o):=by rw[pL,if_neg h]
theorem FZ {N:aS}{i o:Int}(h:dV N i o=0):pL N i o=bG N (gX (min N.places 16).toNat i) 300:=by rw[pL,if_pos h]
def QF (N:aS)(o:Int):LIn:=gX (min N.places 16).toNat o
def nM (N:aS):LIn:=N.trans.map fun t=>t.label
section
variable {N NE:Nat} {w0 w w':World} {A:OAd} {n c:Nat} {D:OAd} {m d:Nat} {vl:Value} {ll:LIn} {ve:Value} {el:List Bool}
end
abbrev Z0:Value:=.slice none 0 0
section
variable {w w':World} {B b8:Nat} {u v:Value} {ms:LLi} {ars:List bO}
end
def toV:Option Nat→Int
 | some k=>(k:Int)
 | none=>-1
section
variable {w w1:World} {B g K n:Nat} {M:List (List Bool)}
end
section
variable {ars:List bO} {lb:Int→Int} {wd:LIn} {M0:List (List Bool)} {q:Nat} {a:bO} {k:Nat}
end
open Go.ChangeShapes Go.WideShapes Go.ChangeAt Go.Deep
section
variable {H:Type} {enc:TypeId×Value→H} {W:World}
end
structure V7 (N:aS)(o:Int)(s:PSp):Prop where
 pos:0<s.marks.length
 small:s.marks.length≤300
 few:s.arcs.length≤7200
 nodup:s.marks.Nodup
 from_:∀a∈s.arcs,Inn s.marks.length a.from_
 to_:∀a∈s.arcs,Inn s.marks.length a.to_
 tran:∀a∈s.arcs,Inn N.trans.length a.tran
 label:∀a∈s.arcs,0≤atI (nM N) a.tran
theorem Rt {N:aS}{i o:Int}{s:PSp}(h:pL N i o=(s,0)):V7 N o s:=by
 unfold pL at h;split at h
 ·rename_i h0
  have hok:=(rL h0).2;have h2:(bG N (gX (min N.places 16).toNat i) 300).2=0:=by rw[h]
  obtain⟨_,SO⟩:=jG h2;have hA:=pI h2;rw[h]at SO hA;have hT:∀a∈s.arcs,Inn s.marks.length a.from_∧Inn N.trans.length a.tran∧Inn s.marks.length a.to_:=fun a ha=>by
   obtain⟨e1,e2,e3⟩:=SO.ends a ha;exact⟨e1,e2,e3⟩
  refine⟨SO.some_,SO.few,hA,SO.nodup,fun a ha=>(hT a ha).1,fun a ha=>(hT a ha).2.2,fun a ha=>(hT a ha).2.1,fun a ha=>?_⟩;obtain⟨r,er,hr⟩:=UN (hT a ha).2.1;have hx:N.trans[r]?=some N.trans[r]:=List.getElem?_eq_getElem hr;have:=(cB hok hx).1;unfold atI nM;rw[er,Int.toNat_natCast,List.getD_eq_getElem?_getD,List.getElem?_map,hx];exact this
 ·rename_i h0
  injection h with _ h;exact absurd h h0
end Go.Proofs.YtfmnagcglhlicaaGreat
namespace Go.Proofs.YtfmnagcglhlicaaGreat
section
variable {ars:List bO} {lb:Int→Int} {tr:LIn} {n:Nat} {p0:LLi×Bool}
end
def sZ (N:aS)(i o:Int)(tr:LIn)(c e:Int):Prop :=
 if(pL N i o).2≠0 then c=0∧e=(pL N i o).2 else if 60<tr.length then c=0∧e=2 else match eH (pL N i o).1.marks (QF N o) with
  | none=>c=0∧e=3
  | some k=>e=0∧Rf (Ed (pL N i o).1.arcs (atI (nM N)) tr) ((tr.length:Int),(k:Int)) c
theorem Dj {N:aS}{i o:Int}{tr:LIn}{s:PSp}{k:Int}(h:pL N i o=(s,k))(hk:k≠0):sZ N i o tr 0 k:=by
 unfold sZ;rw[h,if_pos hk];exact⟨rfl,rfl⟩
theorem J0 {N:aS}{i o:Int}{tr:LIn}{s:PSp}(h:pL N i o=(s,0))(hl:60<tr.length):sZ N i o tr 0 2:=by
 unfold sZ;rw[h,if_neg (by simp),if_pos hl];first|exact⟨rfl,rfl⟩|trivial
theorem J6 {N:aS}{i o:Int}{tr:LIn}{s:PSp}(h:pL N i o=(s,0))(hl:¬60<tr.length)(hf:eH s.marks (QF N o)=none):sZ N i o tr 0 3:=by
 unfold sZ;rw[h,if_neg (by simp),if_neg hl];simp only[hf];first|exact⟨rfl,rfl⟩|trivial
theorem J7 {N:aS}{i o:Int}{tr:LIn}{s:PSp}{k:Nat}{c:Int}(h:pL N i o=(s,0))(hl:¬60<tr.length)(hf:eH s.marks (QF N o)=some k)(hm:Rf (Ed s.arcs (atI (nM N)) tr) ((tr.length:Int),(k:Int)) c):sZ N i o tr c 0:=by
 unfold sZ;rw[h,if_neg (by simp),if_neg hl];simp only[hf];first|exact⟨rfl,hm⟩|exact⟨trivial,hm⟩
end Go.Proofs.YtfmnagcglhlicaaGreat
namespace Go.Proofs.YtfmnagcglhlicaaGreat
section
variable {N:aS} {most:Nat} {m0:LIn} {s:PSp}
theorem Dk (hN:cX N=true):(min N.places 16).toNat=N.places.toNat:=by
 have:=(aQ N).1 hN;omega
theorem J8 {i:Int}(h:(aZ N i).2=0):cX N=true∧(aZ N i).1.mark=gX (min N.places 16).toNat i:=by
 unfold aZ at h ⊢;split at h
 ·rename_i hN
  rw[if_pos hN,Dk hN];split at h
  ·rename_i h2
   rw[if_pos h2];exact⟨hN,rfl⟩
  ·simp at h
 ·simp at h
end
end Go.Proofs.YtfmnagcglhlicaaGreat
namespace Go.Proofs.YtfmnagcglhlicaaGreat
section
variable {N:aS} {most:Nat} {m0:LIn} {s:PSp}
theorem F6 {xs:LIn}{i p:Nat}{v:Int}(hi:i<xs.length):atL (xs.set i v) p=if i=p then v else atL xs p:=by
 unfold atL;rw[List.getD_eq_getElem?_getD,List.getElem?_set];split
 ·rfl
 ·rw[List.getD_eq_getElem?_getD]
theorem Oe {xs:LIn}(h:∀p,0≤atL xs p∧atL xs p≤1000000):aO xs=true:=by
 rw[bZ];intro x hx;obtain⟨p,hp⟩:=List.mem_iff_getElem?.1 hx;have:=h p;rw[iQ hp]at this;exact this
theorem V8 {c:a8}{t:Int}(hc:cI N c=true)(ht:inT N t)(hl:(eW N t).label≠0)(hb:1≤atL c.busy t.toNat)(hp:∀p,atL c.mark p+atL (eW N t).post p≤1000000):(doL N c 3 t).2=0:=by
 have h1:=(bB _ _).1 hc;unfold doL;rw[if_pos hc,if_pos (by omega),if_pos (show 0≤t∧t<(N.trans.length:Int)from ht),if_pos (show((3:Int)=1↔(eW N t).label=0)from⟨fun h=>by omega,fun h=>absurd h hl⟩)];show(sT c 3 (eW N t) t.toNat).2=0
 unfold sT;rw[(kX _).1,(kX _).2];have hm:pV 3=-1:=rfl;have hr:aO (jW (jW c.mark [] (-1)) (eW N t).post 1)=true:=Oe (fun p=>by
  simp only[EU,uK];have h2:=(bV h1.2.2.1 p).1;have h3:=(Ib h1.1 ht p).2;have h4:=hp p;omega)
 rw[hm,if_pos ⟨uB h1.2.2.1,by omega⟩,if_pos ⟨hr,uC h1.2.2.2.2 (by omega) (by have:=(bV h1.2.2.2.2 t.toNat).2;omega)⟩]
structure tA (N:aS)(k:aX):Prop where
 busy:∀i,i<N.trans.length→atL k.case_.busy i=Ic (EV i) k.items
 seen:∀it∈k.items,it.open_=true→(eW N it.tran).label≠0
theorem F7 (i:Nat):∀(l:List cQ),∀x∈l,0≤EV i x:=fun _ x _=>by unfold EV;split <;> omega
theorem Of {i:Nat}{u t:Int}:EV i ⟨u,t,false⟩=0:=by unfold EV;rw[if_neg (by simp)]
theorem tA.step {roles:LLi}{k:aX}{o:POp}(D:eK N k)(B:tA N k):tA N (cD N roles k o).1:=by
 have hw:=Br (N:=N) (roles:=roles) k o;generalize (cD N roles k o).1=k' at hw ⊢;generalize (cD N roles k o).2.2=e at hw;have hbl:=((bB _ _).1 D.case_).2.2.2.1;have mem_set:∀{l:List cQ} {j:Nat} {x y:cQ},y∈l.set j x→y∈l∨y=x:=fun h=>List.mem_or_eq_of_mem_set h
 cases hw with
 | no _=>exact B
 | @begin_ c' _ d =>
  have ht:=d.tran;refine⟨fun i hi=>?_,fun it hit=>?_⟩
  ·simp only;rw[d.busy,Bo,←B.busy i hi,F6 (by have:=ht.1;have:=ht.2;omega)];have hm:pV 2=1:=rfl;unfold EV;simp only[true_and];split
   ·rename_i h
    rw[if_pos (by have:=ht.1;omega),h,hm]
   ·rename_i h
    rw[if_neg (by have:=ht.1;omega)];omega
  ·rcases List.mem_append.1 hit with h|h
   ·exact B.seen it h
   ·rw[List.mem_singleton.1 h];exact fun _ e=>by have:=d.seen.2 e;omega
 | @give it u _ h2 =>
  refine⟨fun i hi=>?_,fun x hx hox=>?_⟩
  ·simp only;rw[nL _ _ _ _ _ h2,B.busy i hi];have:EV i ⟨u,it.tran,it.open_⟩=EV i it:=rfl;omega
  ·rcases mem_set hx with h|rfl
   ·exact B.seen x h hox
   ·exact B.seen it (List.mem_of_getElem? h2) hox
 | @change it c' h1 _ h3 h4 _ d =>
  have ht:=d.tran;refine⟨fun i hi=>?_,fun x hx hox=>?_⟩
  ·simp only;rw[d.busy,nL _ _ _ _ _ h3,←B.busy i hi,F6 (by have:=ht.1;have:=ht.2;omega),Of];have hm:pV (nV o)=-1:=by unfold nV pV;split <;> rfl
   unfold EV;rw[hm,h4];simp only[true_and];split
   ·rename_i h
    rw[if_pos (by have:=ht.1;omega),h];omega
   ·rename_i h
    rw[if_neg (by have:=ht.1;omega)];omega
  ·rcases mem_set hx with h|rfl
   ·exact B.seen x h hox
   ·cases hox
 | @skip c' h1 d =>
  refine⟨fun i hi=>?_,B.seen⟩;have ht:=d.tran;simp only;rw[d.busy,←B.busy i hi];have hm:pV 1=0:=rfl;rw[hm,Int.add_zero,HU]
theorem tA.start (i:Int)(h:(aZ N i).2=0):tA N ⟨(aZ N i).1,[]⟩:=by
 refine⟨fun j hj=>?_,fun it hit=>by cases hit⟩;unfold aZ at h ⊢;split at h
 ·rename_i hN
  rw[if_pos hN];split at h
  ·rename_i h2
   rw[if_pos h2];show atL (List.replicate N.trans.length 0) j=0
   unfold atL;simp[hj]
  ·simp at h
 ·simp at h
theorem tA.run {roles:LLi}:∀(l:List POp) (k:aX),eK N k→tA N k→tA N (jS N roles k l).1
 | [],_,_,B=>B
 | o::l,k,D,B=>tA.run l (cD N roles k o).1 (yV D) (B.step D)
def qJ (N:aS):a8→List cQ→Option a8
 | c,[]=>some c
 | c,it::r=>if it.open_=true then(if(doL N c 3 it.tran).2=0 then qJ N (doL N c 3 it.tran).1 r else none)else qJ N c r
theorem zD (F:o8 N most m0 s):∀(items:List cQ) (c:a8) (q:Nat),eK N ⟨c,items⟩→q<s.marks.length→wK N ⟨c,items⟩ (cH s q)→tA N ⟨c,items⟩ →
  ∃c' j,qJ N c items=some c'∧j<s.marks.length∧c'.mark=cH s j∧cI N c'=true
 | [],c,q,D,hq,A,B=>⟨c,q,rfl,hq,(A.shut (fun it hit=>by cases hit)).symm,D.case_⟩
 | it::r,c,q,D,hq,A,B=>by
  have hN:cX N=true:=((bB _ _).1 D.case_).1;have hbl:c.busy.length=N.trans.length:=((bB _ _).1 D.case_).2.2.2.1;by_cases ho:it.open_=true
  ·have ht:=D.trans it (by simp);have hge:=fun p=>jH (l:=r) (fun x hx=>o9 hN D.trans p x (by simp only;exact List.mem_cons_of_mem _ hx))
   have hat:∀p,atL (cH s q) p=atL c.mark p+(atL (eW N it.tran).pre p+Ic (Jx N p) r):=fun p=>by
    have h1:=A.at_ p;simp only[eD]at h1;rw[mJ ho]at h1;exact h1
   have hm0:=fun p=>(bV ((bB _ _).1 D.case_).2.2.1 p).1
   obtain⟨j,hj,_,hl,hmx,hm⟩:=uL F hq ht (fun p=>by
    have h1:=hat p;have h2:=hge p;have h3:=hm0 p;simp only at h3;omega)
   have hone:EV it.tran.toNat it=1:=by
    unfold EV;rw[if_pos ⟨ho,by have:=ht.1;omega⟩]
   have hbusy:1≤atL c.busy it.tran.toNat:=by
    have h1:=B.busy it.tran.toNat (by have:=ht.1;have:=ht.2;omega);simp only[eD]at h1;rw[hone]at h1;have h2:=jH (F7 it.tran.toNat r);omega
   have hd0:(doL N c 3 it.tran).2=0:=V8 D.case_ ht (B.seen it (by simp) ho) hbusy (fun p=>by
    have h1:=hmx p;have h2:=hm p;have h3:=hat p;have h4:=hge p;omega)
   have d:=tL hd0;have hbs:=d.busy;have hm3:pV 3=-1:=rfl;rw[hm3]at hbs;obtain⟨c',i,e,hi,h5,h6⟩:=zD F r (doL N c 3 it.tran).1 j ⟨d.ok',fun x hx=>D.trans x (by simp only at hx ⊢;exact List.mem_cons_of_mem _ hx)⟩ hj ⟨hl.trans (A.len.trans d.right.2.symm),fun p=>by
    have h1:=hat p;have h2:=hm p;have h3:=d.mark p;rw[(kX _).1,(kX _).2,uK]at h3;simp only;omega⟩ ⟨fun i hi=>by
    have h1:=B.busy i hi;simp only[eD]at h1;simp only;rw[hbs,F6 (by have:=ht.1;have:=ht.2;omega)];split
    ·rename_i h
     subst h;rw[hone]at h1;omega
    ·rename_i h
     have:EV i it=0:=by
      unfold EV;rw[if_neg (fun x=>by have:=ht.1;omega)]
     omega,fun x hx=>B.seen x (by simp only at hx ⊢;exact List.mem_cons_of_mem _ hx)⟩
   refine⟨c',i, ?_,hi,h5,h6⟩;unfold qJ;rw[if_pos ho,if_pos hd0];exact e
  ·have hcp:∀p,Jx N p it=0:=fun p=>by unfold Jx;rw[if_neg ho]
   have hcn:∀i,EV i it=0:=fun i=>by unfold EV;rw[if_neg (fun x=>ho x.1)]
   obtain⟨c',j,e,h⟩:=zD F r c q ⟨D.case_,fun x hx=>D.trans x (by simp only at hx ⊢;exact List.mem_cons_of_mem _ hx)⟩ hq ⟨A.len,fun p=>by
    have h1:=A.at_ p;simp only[eD]at h1;rw[hcp]at h1;simp only;omega⟩ ⟨fun i hi=>by
    have h1:=B.busy i hi;simp only[eD]at h1;rw[hcn]at h1;simp only;omega,fun x hx=>B.seen x (by simp only at hx ⊢;exact List.mem_cons_of_mem _ hx)⟩
   refine⟨c',j, ?_,h⟩;unfold qJ;rw[if_neg ho];exact e
theorem Og (F:o8 N most m0 s){x z:Int}(h:fG (nxt s.arcs) x z):EM N (cH s z.toNat) [] (cH s z.toNat)∧∃l,EM N (cH s z.toNat) l (cH s x.toNat):=by
 refine⟨.nil _, ?_⟩;induction h with
 | refl x=>exact⟨[],.nil _⟩
 | @step x y z h g ih =>
  obtain⟨l,hl⟩:=ih;obtain⟨a,ha,rfl⟩:=List.mem_map.1 h;obtain⟨ha1,ha2⟩:=List.mem_filter.1 ha;have:=F.arcs a ha1;have e:a.to_=x:=by simpa using ha2
  rw[e]at this;exact⟨_,hl.snoc this⟩
open Classical in
theorem F8 {i o:Int}(h:(dU N i o 300).2=0)(h1:(dU N i o 300).1.1=1):∃s,bG N (gX (min N.places 16).toNat i) 300=(s,0)∧∀z∈s.marks,∃l,EM N z l (gX (min N.places 16).toNat o):=by
 unfold dU at h h1;split at h
 ·rename_i hs
  rw[if_pos hs]at h1;split at h
  ·rename_i hg
   rw[if_pos hg]at h1;obtain⟨s,hsg⟩:∃s,bG N (gX (min N.places 16).toNat i) 300=(s,0):=⟨_,Prod.ext rfl hg⟩;rw[hsg]at h1;have F:=nK hsg;refine⟨s,hsg,fun z hz=>?_⟩;simp only at h1;generalize gX (min N.places 16).toNat o=e at h1 ⊢;unfold mN at h1;split at h1
   ·simp only at h1;omega
   ·split at h1
    ·simp only at h1;omega
    ·rename_i hon
     obtain⟨f,hf,rfl⟩:=qC hz;rw[List.findIdx?_eq_none_iff]at hon;have hb:decide (∃q∈JU (fun m=>m==e) s.marks s.marks.length,fG (nxt s.arcs) q (f:Int))=true:=by
      have h2:=hon (decide (∃q∈JU (fun m=>m==e) s.marks s.marks.length,fG (nxt s.arcs) q (f:Int))) (by
       unfold onL kC;exact List.mem_map.2 ⟨f,List.mem_range.2 hf,rfl⟩)
      cases hd:decide (∃q∈JU (fun m=>m==e) s.marks s.marks.length,fG (nxt s.arcs) q (f:Int))
      ·rw[hd]at h2;simp at h2
      ·rfl
     rw[decide_eq_true_eq]at hb;obtain⟨q,hq,hr⟩:=hb;obtain⟨_,l,hl⟩:=Og F hr;rw[Int.toNat_natCast]at hl;unfold JU at hq;obtain⟨j,hj,rfl⟩:=List.mem_map.1 hq;obtain⟨hj1,hj2⟩:=List.mem_filter.1 hj;have hj3:=List.mem_range.1 hj1;rw[fP hj3]at hj2;have hje:cH s j=e:=by simpa using hj2
     rw[Int.toNat_natCast,hje]at hl;exact⟨l,hl⟩
  ·rename_i hg
   exact absurd h hg
 ·rename_i hs
  exact absurd h hs
theorem Ru {m e:LIn}(hg:bG N m0 300=(s,0))(hm:m∈s.marks)(hl:∃l,EM N m l e):(o0 N m e 300).2=0∧MJ N m (o0 N m e 300).1=(e,0):=by
 obtain⟨x,hx⟩:=EP hg hm;have F:=nK hx;obtain⟨l,hl⟩:=hl;have he:e∈x.marks:=F.run hl (List.mem_of_getElem? F.first);obtain⟨k,hk,hke⟩:=qC he;have hf:eH x.marks e=some k:=QX F.ok.nodup (by rw[fP hk,hke]);rw[xN hx hf];have hr:=Ia F k hk;rw[hke]at hr;have h0:cH x 0=m:=nJ F.first;refine⟨rfl, ?_⟩;unfold MJ;rw[if_pos (F.ok.fits m (List.mem_of_getElem? F.first))];have h9:=(Ia F k hk);rw[hke]at h9;exact EM.loop h9
theorem Oh {roles:LLi}{i o:Int}(l:List POp)(hb:(aZ N i).2=0)(h:(dU N i o 300).2=0)(h1:(dU N i o 300).1.1=1) :
  ∃c,qJ N (jS N roles ⟨(aZ N i).1,[]⟩ l).1.case_ (jS N roles ⟨(aZ N i).1,[]⟩ l).1.items=some c∧cI N c=true ∧
   (o0 N c.mark (gX (min N.places 16).toNat o) 300).2=0∧MJ N c.mark (o0 N c.mark (gX (min N.places 16).toNat o) 300).1=(gX (min N.places 16).toNat o,0):=by
 obtain⟨s,hg,hs⟩:=F8 h h1;have F:=nK hg;obtain⟨hN,hbm⟩:=J8 hb;have h0:cH s 0=(aZ N i).1.mark:=by rw[hbm];exact nJ F.first
 obtain⟨j,hj,A,_⟩:=Ie (roles:=roles) F l ⟨(aZ N i).1,[]⟩ 0 0 [] (eK.start hb) F.ok.some_ (by rw[h0];exact wK.start i) .nil;have D:=(uF N roles l ⟨(aZ N i).1,[]⟩ (eK.start hb)).1;have B:=tA.run (roles:=roles) l ⟨(aZ N i).1,[]⟩ (eK.start hb) (tA.start i hb);obtain⟨c,q,e,hq,hm,hc⟩:=zD F _ _ j D hj A B;have hmem:c.mark∈s.marks:=by rw[hm];exact List.mem_of_getElem? (fP hq)
 have hp:=Ru hg hmem (hs _ hmem);exact⟨c,e,hc,hp.1,hp.2⟩
end
end Go.Proofs.YtfmnagcglhlicaaGreat
