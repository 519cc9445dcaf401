/- Texts melted into one: The plain law of turned nets and of runs. No program in sight. | What chapter 16 says, in plain Lean: cases, and what is done with them. Conditions: none. | What is do -/
import Derived.Test.YtfmnagcglhlicaaGreatTopCrashK02
import Derived.Deep.AppendLies
set_option maxRecDepth 100000
namespace Go.Proofs.YtfmnagcglhlicaaGreat
def pU (t:aI):aI:=⟨t.label,t.post,t.pre⟩
def kR (N:aS):aS:=⟨N.places,N.trans.map pU⟩
def uA (N:aS):LIn→LIn→LIn×Int
 | m,[]=>(m,0)
 | m,t::r=>if(bW N m t).2=0 then uA N (bW N m t).1 r else bW N m t
def MJ (N:aS)(m seq:LIn):LIn×Int:=if dS N m=true then uA N m seq else([],2)
theorem Jl {N:aS}{m:LIn}{t:aI}(h:dS N m=true)(hp:(t.pre.length:Int)=N.places)(hq:(t.post.length:Int)=N.places)(he:(kO m t).2=0):dS N (kO m t).1=true:=by
 have hf:=(bD _ _).1 h;unfold kO at he ⊢;split at he
 ·rename_i hc
  rw[if_pos hc];split at he
  ·rename_i hr
   rw[if_pos hr,bD];refine⟨hf.1, ?_,hr⟩;rw[gB,gB];omega
  ·simp at he
 ·simp at he
theorem AS {N:aS}{m:LIn}{t:Int}(he:(bW N m t).2≠0):(bW N m t).1=[]:=by
 unfold bW at he ⊢;split at he
 ·rename_i hf
  rw[if_pos hf];split at he
  ·rename_i ht
   rw[if_pos ht];unfold kO at he ⊢;split at he
   ·rename_i hc
    rw[if_pos hc];split at he
    ·simp at he
    ·rename_i hr
     rw[if_neg hr]
   ·rename_i hc
    rw[if_neg hc]
  ·rename_i ht
   rw[if_neg ht]
 ·rename_i hf
  rw[if_neg hf]
theorem Jm {N:aS}{m:LIn}{t:Int}(he:(bW N m t).2=0):dS N (bW N m t).1=true:=by
 unfold bW at he ⊢;split at he
 ·rename_i hf
  rw[if_pos hf];split at he
  ·rename_i ht
   rw[if_pos ht];have hlt:t.toNat<N.trans.length:=by omega
   have hx:N.trans[t.toNat]?=some (N.trans.getD t.toNat default):=by simp[List.getElem?_eq_getElem hlt]
   have hk:=cB ((bD _ _).1 hf).1 hx;exact Jl hf hk.2.2.1 hk.2.2.2.1 he
  ·simp at he
 ·simp at he
theorem MO {N:aS}{m:LIn}{t:Int}(h:dS N m=false):bW N m t=([],2):=by rw[bW,h];rfl
theorem AT {N:aS}{m:LIn}{t:Int}:(bW N m t).1.length≤16:=by
 by_cases he:(bW N m t).2=0
 ·have h:=(bD _ _).1 (Jm he);have:=((aQ _).1 h.1).2.1;omega
 ·rw[AS he];simp
theorem xG {N:aS}{m:LIn}{t:Int}{r:LIn}(he:(bW N m t).2=0):uA N m (t::r)=uA N (bW N m t).1 r:=by rw[uA,if_pos he]
theorem Jn {N:aS}{m:LIn}{t:Int}{r:LIn}(he:(bW N m t).2≠0):uA N m (t::r)=bW N m t:=by rw[uA,if_neg he]
theorem MP {α:Type}{xs:List α}{k:Nat}{x:α}(h:xs[k]?=some x):xs.drop k=x::xs.drop (k+1):=by
 obtain⟨hk,rfl⟩:=List.getElem?_eq_some_iff.1 h;exact List.drop_eq_getElem_cons hk
end Go.Proofs.YtfmnagcglhlicaaGreat
namespace Go.Proofs.YtfmnagcglhlicaaGreat
def gX (n:Nat)(i:Int):LIn:=(List.range n).map fun(p:Nat)=>if(p:Int)=i then 1 else 0
theorem EC (n:Nat)(i:Int):(gX n i).length=n:=by simp[gX]
theorem Jo (n:Nat)(i:Int):aO (gX n i)=true:=by
 rw[bZ];intro x hx;simp only[gX,List.mem_map,List.mem_range]at hx;obtain⟨p,_,rfl⟩:=hx;split <;> omega
theorem QS (n i:Nat):(List.replicate n (0:Int)).set i 1=gX n (i:Int):=by
 apply List.ext_getElem (by simp[gX])
 intro j h1 h2;by_cases hj:i=j
 ·subst hj;simp[gX]
 ·rw[List.getElem_set_ne hj];have:¬(j:Int)=(i:Int):=by omega
  simp[gX,this]
theorem QU (n:Nat)(i:Int)(h:¬(0≤i∧i<(n:Int))):List.replicate n (0:Int)=gX n i:=by
 apply List.ext_getElem (by simp[gX])
 intro j h1 h2;have:¬((j:Int)=i):=by simp at h1;omega
 simp[gX,this]
structure a8 where
 mark:LIn
 busy:LIn
deriving Inhabited,DecidableEq
def a8.nil:a8:=⟨[],[]⟩
def cI (N:aS)(c:a8):Bool:=dS N c.mark&&decide (c.busy.length=N.trans.length)&&aO c.busy
theorem bB (N:aS)(c:a8):cI N c=true↔cX N=true∧(c.mark.length:Int)=N.places∧aO c.mark=true∧c.busy.length=N.trans.length∧aO c.busy=true:=by
 simp[cI,dS,and_assoc]
def aZ (N:aS)(i:Int):a8×Int :=
 if cX N=true then(if 0≤i∧i<N.places then(⟨gX N.places.toNat i,List.replicate N.trans.length 0⟩,0)else(a8.nil,3))else(a8.nil,2)
def nU (k:Int)(T:aI):LIn:=if k=1∨k=2 then T.pre else []
def lL (k:Int)(T:aI):LIn:=if k=1∨k=3 then T.post else if k=4 then T.pre else []
def pV (k:Int):Int:=if k=1 then 0 else if k=2 then 1 else -1
def sT (c:a8)(k:Int)(T:aI)(i:Nat):a8×Int :=
 if cA c.mark (nU k T)=true∧0≤atL c.busy i+pV k then
  (if aO (jW (jW c.mark (nU k T) (-1)) (lL k T) 1)=true∧aO (c.busy.set i (atL c.busy i+pV k))=true then
   (⟨jW (jW c.mark (nU k T) (-1)) (lL k T) 1,c.busy.set i (atL c.busy i+pV k)⟩,0)else(a8.nil,4))
 else(a8.nil,3)
def doL (N:aS)(c:a8)(k t:Int):a8×Int :=
 if cI N c=true then(if 1≤k∧k≤4 then(if 0≤t∧t<(N.trans.length:Int) then
  (if(k=1↔(N.trans.getD t.toNat default).label=0)then sT c k (N.trans.getD t.toNat default) t.toNat else(a8.nil,1))else(a8.nil,3))else(a8.nil,5))else(a8.nil,2)
theorem oG (a:LIn)(t:Int):jW a [] t=a:=by
 apply List.ext_getElem (by simp[jW])
 intro i h1 h2;simp[jW,atL,h2]
theorem uB {a:LIn}(h:aO a=true):cA a []=true:=by
 rw[eJ];intro p;have:=bV h p;simp only[jV (xs:=[]) (p:=p) (by simp)];omega
theorem uC {b:LIn}{i:Nat}{x:Int}(h:aO b=true)(h0:0≤x)(h1:x≤1000000):aO (b.set i x)=true:=by
 rw[bZ]at h ⊢;intro y hy;rcases List.mem_or_eq_of_mem_set hy with hy|rfl
 ·exact h y hy
 ·exact⟨h0,h1⟩
theorem yR {b:LIn}{i:Nat}{x:Int}(hi:i<b.length)(h:x<0∨1000000<x):aO (b.set i x)=false:=by
 cases hc:aO (b.set i x)
 ·rfl
 ·have:=(bZ _).1 hc x (List.mem_iff_getElem.2 ⟨i,by simpa using hi,by simp⟩);omega
theorem HU {b:LIn}{i:Nat}:b.set i (atL b i)=b:=by
 apply List.ext_getElem (by simp)
 intro j h1 h2;by_cases hj:i=j
 ·subst hj;simp[atL,h2]
 ·rw[List.getElem_set_ne hj]
def pW (b:LIn)(i:Nat)(more:Int):LIn×Int:=if atL b i+more<0 then([],3)else if 1000000<atL b i+more then([],4)else(b.set i (atL b i+more),0)
theorem AU {N:aS}{c:a8}{k t:Int}(h:(doL N c k t).2=0):cI N (doL N c k t).1=true:=by
 unfold doL at h ⊢;split at h
 ·rename_i hc
  rw[if_pos hc];split at h
  ·rename_i hk
   rw[if_pos hk];split at h
   ·rename_i ht
    rw[if_pos ht];split at h
    ·rename_i hl
     rw[if_pos hl];unfold sT at h ⊢;split at h
     ·rename_i h1
      rw[if_pos h1];split at h
      ·rename_i h2
       rw[if_pos h2];rw[bB]at hc ⊢;have hx:N.trans[t.toNat]?=some (N.trans.getD t.toNat default):=by
        have hlt:t.toNat<N.trans.length:=by omega
        simp[List.getElem?_eq_getElem hlt]
       have hT:=cB hc.1 hx;refine⟨hc.1, ?_,h2.1,by simpa using hc.2.2.2.1,h2.2⟩;have e1:(nU k (N.trans.getD t.toNat default)).length≤c.mark.length:=by
        unfold nU;split
        ·omega
        ·simp
       have e2:(lL k (N.trans.getD t.toNat default)).length≤c.mark.length:=by
        unfold lL;split
        ·omega
        ·split
         ·omega
         ·simp
       simp only[gB];omega
      ·simp at h
     ·simp at h
    ·simp at h
   ·simp at h
  ·simp at h
 ·simp at h
theorem MQ {N:aS}{i:Int}(h:(aZ N i).2=0):cI N (aZ N i).1=true:=by
 unfold aZ at h ⊢;split at h
 ·rename_i h1
  rw[if_pos h1];split at h
  ·rename_i h2
   rw[if_pos h2,bB];have:=(aQ N).1 h1;refine⟨h1,by simp only[EC];omega,Jo _ _,by simp, ?_⟩;rw[bZ];intro x hx;obtain⟨_,rfl⟩:=List.mem_replicate.1 hx;omega
  ·simp at h
 ·simp at h
end Go.Proofs.YtfmnagcglhlicaaGreat
namespace Go.Proofs.YtfmnagcglhlicaaGreat
theorem Ur {N:aS}{p:a8}{k t:Int}(h:cI N p=false):doL N p k t=(a8.nil,2):=by rw[doL,h];rfl
theorem H7 {N:aS}{p:a8}{k t:Int}(h:cI N p=true)(hk:k<1∨4<k):doL N p k t=(a8.nil,5):=by rw[doL,if_pos h,if_neg (by omega)]
theorem H8 {N:aS}{p:a8}{k t:Int}(h:cI N p=true)(hk:1≤k∧k≤4)(ht:t<0∨(N.trans.length:Int)≤t):doL N p k t=(a8.nil,3):=by rw[doL,if_pos h,if_pos hk,if_neg (by omega)]
theorem AW {N:aS}{p:a8}{k:Int}{i:Nat}{T:aI}(h:cI N p=true)(hk:1≤k∧k≤4)(hT:N.trans[i]?=some T):doL N p k (i:Int)=if(k=1↔T.label=0)then sT p k T i else(a8.nil,1):=by
 have hlt:=(List.getElem?_eq_some_iff.1 hT).1;rw[doL,if_pos h,if_pos hk,if_pos (by omega)];have e:N.trans.getD (i:Int).toNat default=T:=by simp[List.getD_eq_getElem?_getD,hT]
 rw[e];rfl
theorem QV {N:aS}{m:LIn}{i:Nat}{T:aI}(h:dS N m=true)(hT:N.trans[i]?=some T):bW N m (i:Int)=kO m T:=by
 have hlt:=(List.getElem?_eq_some_iff.1 hT).1;rw[bW,if_pos h,if_pos (by omega)];have e:N.trans.getD (i:Int).toNat default=T:=by simp[List.getD_eq_getElem?_getD,hT]
 rw[e]
theorem H9 {b:LIn}(h:aO b=true)(i:Nat):0≤atL b i:=(bV h i).1
def wH (q:LIn×Int)(r:LIn×Int):a8×Int:=if q.2=0 then(if r.2=0 then(⟨q.1,r.1⟩,0)else(a8.nil,r.2))else(a8.nil,q.2)
def AX (r:LIn×Int)(q:LIn×Int):a8×Int:=if r.2=0 then(if q.2=0 then(⟨q.1,r.1⟩,0)else(a8.nil,q.2))else(a8.nil,r.2)
theorem WR {p:a8}{T:aI}{i:Nat}(hb:aO p.busy=true):sT p 1 T i=wH (kO p.mark T) (p.busy,0):=by
 have hi:=H9 hb i;unfold sT wH kO;simp only[nU,lL,pV,true_or,if_true,Int.add_zero,HU,hb,and_true,hi];by_cases hc:cA p.mark T.pre=true
 ·rw[if_pos hc,if_pos hc];by_cases hm:aO (jW (jW p.mark T.pre (-1)) T.post 1)=true
  ·rw[if_pos hm,if_pos hm];simp
  ·rw[if_neg hm,if_neg hm];simp
 ·rw[if_neg hc,if_neg hc];simp
theorem WS {p:a8}{T:aI}{i:Nat}(hm:aO p.mark=true)(hp:aO T.pre=true)(hb:aO p.busy=true)(hi:i<p.busy.length):sT p 2 T i=wH (sA p.mark T.pre) (pW p.busy i 1):=by
 have h0:=H9 hb i;rw[pT hm hp];unfold sT wH pW;simp only[nU,lL,pV,or_true,if_true,show ¬((2:Int)=1) by omega,show ¬((2:Int)=3) by omega,show ¬((2:Int)=4) by omega,or_false,if_false,oG];by_cases hc:cA p.mark T.pre=true
 ·rw[if_pos ⟨hc,by omega⟩,if_pos hc,if_neg (show ¬atL p.busy i+1<0 by omega)];have hr:=kP hm hp hc;by_cases hx:1000000<atL p.busy i+1
  ·rw[if_neg (fun h=>by rw[yR hi (.inr hx)]at h;exact absurd h.2 (by simp)),if_pos hx];simp
  ·rw[if_pos ⟨hr,uC hb (by omega) (by omega)⟩,if_neg hx];simp
 ·rw[if_neg (fun h=>hc h.1),if_neg hc];simp
theorem TZ {p:a8}{T:aI}{i:Nat}{k:Int}(hk:k=3∨k=4)(hm:aO p.mark=true)(hg:aO (lL k T)=true)(hb:aO p.busy=true) :
  sT p k T i=AX (pW p.busy i (-1)) (yQ p.mark (lL k T)):=by
 have h0:=bV hb i;have hmore:pV k=-1:=by unfold pV;rcases hk with rfl|rfl <;> simp
 have htake:nU k T=[]:=by unfold nU;rcases hk with rfl|rfl <;> simp
 rw[yQ,if_pos ⟨hm,hg⟩];unfold sT AX pW;rw[hmore,htake,oG,uB hm];by_cases hx:atL p.busy i+-1<0
 ·rw[if_neg (by omega),if_pos hx];simp
 ·rw[if_pos ⟨rfl,by omega⟩,if_neg hx,if_neg (show ¬1000000<atL p.busy i+-1 by omega)];by_cases hr:aO (jW p.mark (lL k T) 1)=true
  ·rw[if_pos ⟨hr,uC hb (by omega) (by omega)⟩,if_pos hr];simp
  ·rw[if_neg (fun h=>hr h.1),if_neg hr];simp
open Go.RowKit
theorem MR:mC 22 49 3 56:=mC.mk' (z:=.agg #[.int .i64 0,.slice none 0 0,.slice none 0 0]) Tryz.underlying22 (by kernel_rfl) rfl (by decide)
theorem gY {α:Type} {R:World→(Nat→Value)→α→Prop} {t e size bytes:Nat} (T:mC t e size bytes) (G:Jj R size) {ops:Array Oper} {rest:List Oper} {o:Oper} {a:Act} {Q:Exit→Act→World→Prop} (hgd:o.guard=none) (s x:Operand)
  (ho:o.op=.call {callee:=.builtin .append,args:=#[s,x],argTypes:=#[t,t]})
  {w0 w:World} {B:Nat} {v:Value} {n m c:Nat} {ad:Addr} {xs ys:List α} (hs:a.eval s=v) (hx:a.eval x=.slice (some ad) m c)
  (own:aC R size w B e v n xs) (src:Sl R size w (some ad) m c ys) (hb:Below B w0 w) (hB:B≤w.heap.size) (h63:n+m≤281474976710656) (hn:(n+m)*bytes≤140737488355328)
  (hkeep:∀w',w.grownBy w' v.ownBlock→∀vs y,R w vs y→R w' vs y)
  (K:∀v' w',aC R size w' B e v' (n+m) (xs++ys)→w.grownBy w' v.ownBlock→Below B w0 w'→wpList Tryz.prog ops Q rest (a.put o.dst v') w') :
  wpList Tryz.prog ops Q (o::rest) a w:=by
 obtain⟨i,z,h1,h2,h3,h4,h5⟩:=T.info;obtain⟨cells,o1,o2,o3⟩:=own;obtain⟨ds,d1,d2,d3,d4,d5⟩:=src.flat G;refine wpList_append_own _ hgd s x t ho B e i z size bytes T.und h1 h2 h3 h4 h5 T.pos v n cells hs o1 ad m c ds hx d1 (d3 ad rfl) d4 (by simp only[maxLen];omega) hn hB (fun v' w' h6 h7 _=>?_);refine K v' w' ⟨_,h6, ?_,by rw[List.length_append,o3,src.len]⟩ h7 (hb.grown h7 hB (fun k hk=>(o1.lt k hk).1));have:=o2.append d5;exact⟨this.1,fun i x hx=>by obtain⟨vs,a,b⟩:=this.2 i x hx;exact⟨vs,a,hkeep _ h7 _ _ b⟩⟩
theorem aC.empty {α:Type}{R:World→(Nat→Value)→α→Prop}{sz:Nat}{w:World}{B e:Nat}(hB:B≤w.heap.size):aC R sz (w.alloc (.cells #[] e)) B e (.slice (some ⟨w.heap.size,0,none⟩) 0 0) 0 ([]:List α) :=
 ⟨[],World.ownsRow_made w #[] 0 hB (by simp[maxLen]) (by simp),a6.nil,rfl⟩
def MS {α:Type}(R:World→(Nat→Value)→α→Prop)(sz e n:Nat)(xs:List α)(w:World)(e1:Ending)(w':World):Prop :=
 ∃v,e1=.returned v∧aC R sz w' w.heap.size e v n xs∧Below w.heap.size w w'
theorem bE {w:World}{A:OAd}{n c:Nat}{xs:LIn}(h:aJ w A n c xs)(hn:n≤17592186044416) :
  Calls Tryz.prog 73 #[.slice A n c] w (MS iG 1 3 n xs w):=by
 have HB:=aA (show ∀o,Below w.heap.size w (w.alloc o)from fun o=>(Below.refl _ _).alloc (Nat.le_refl _) _);rcases A with _|ad
 ·have hc:=h.nul rfl;have hn0:n=0:=by have:=h.le;omega
  subst hc hn0;have hx:=List.eq_nil_of_length_eq_zero h.len;subst hx;clear h;have he:=fun(w:World)=>Lib.run_eql_slice_nil (P:=Tryz.prog) w 28 3 none 0 0 0 0 Tryz.underlying28
  go_enter Tryz.func73,Tryz.ntmps73
  go_wp2
  go_ret
  exact⟨_,rfl,aC.nil,Below.refl _ _⟩
 ·have H:=aA h;have O:=aA (aC.empty (R:=iG) (sz:=1) (w:=w) (B:=w.heap.size) (e:=3) (Nat.le_refl _));clear h;have he:=fun(w:World)=>Lib.run_eql_slice_nil (P:=Tryz.prog) w 28 3 (some ad) n c 0 0 Tryz.underlying28
  go_enter Tryz.func73,Tryz.ntmps73
  go_wp2_with (at_builtin;refine gY kQ iG.good rfl _ _ rfl rfl rfl O.o (H.o.keep (HB.o _)) (HB.o _) (by simp) (by omega) (by omega) (fun _ _ _ _ h=>h) ?_;intro v1 w1 own1 hg1 hb1)
  go_ret
  exact⟨_,rfl,by simpa using own1,hb1⟩
theorem jD {α:Type} {R:World→(Nat→Value)→α→Prop} {t e size bytes:Nat} (T:mC t e size bytes) {ops:Array Oper} {o:Oper} {a:Act} {K:Act→World→Prop} {Q:Exit→Act→World→Prop} {E:Prop} (hgd:o.guard=none) (s x:Operand)
  (ho:o.op=.call {callee:=.builtin .append,args:=#[s,x],argTypes:=#[t,t]})
  {w0 w W:World} {B:Nat} {v:Value} {n m:Nat} {xs:List α} (ys:List α) (us:Array Value) {H:Nat} (hs:a.eval s=v) (hx:a.eval x=.slice (some ⟨H,0,none⟩) m m) (hH:H=w.heap.size) (hW:W=w.alloc (.cells us e)) (hus:us.size=m*size) (hm:0<m) (one:∀u∈us.toList,u.oneCell'=true)
  (own:aC R size w B e v n xs) (hread:a6 R size w us.toList ys) (hy:ys.length=m) (hb:Below B w0 w) (hB:B≤w.heap.size) (h63:n+m≤281474976710656) (hn:(n+m)*bytes≤140737488355328)
  (hkeep:∀w',w.grownBy w' v.ownBlock→∀vs y,R w vs y→R w' vs y)
  (hK:∀g cap w',aC R size w' B e (.slice (some ⟨g,0,none⟩) (n+m) cap) (n+m) (xs++ys)→w.grownBy w' v.ownBlock→Below B w0 w'→B≤g→g<w'.heap.size→K (a.put o.dst (.slice (some ⟨g,0,none⟩) (n+m) cap)) w') :
  if Region.wanted o (yielded ops a.tmps)=true then Oper.wp Tryz.prog o a W K Q else E:=by
 subst hH hW;obtain⟨i,z,h1,h2,h3,h4,h5⟩:=T.info;obtain⟨cells,o1,o2,o3⟩:=own;have hlt:∀k,v.ownBlock=some k→B≤k∧k<w.heap.size:=o1.lt;refine step_append_lies _ hgd s x t ho B e i z size bytes T.und h1 h2 h3 h4 h5 T.pos v n cells hs (o1.alloc _) ⟨w.heap.size,0,none⟩ m m us.toList hx (by simpa using hus) (fun j u hj=>?_) one hm (by simp only[maxLen];omega) hn (by simp;omega) _ rfl (fun g cap w' h6 h7 h8 h9=>?_)
 ·have hz:((⟨w.heap.size,0,none⟩:Addr).add j)=⟨w.heap.size,j,none⟩:=by unfold Addr.add;split <;> simp_all
  rw[hz];have:(w.alloc (.cells us e)).cell? ⟨w.heap.size,j,none⟩=us[j]?:=cell_of_row _ _ _ _ _ (0,0) (heap_alloc_new w _);rw[this];simpa using hj
 ·have hg:w.grownBy w' v.ownBlock:=⟨h7.os,h7.tape,h7.output,Nat.le_trans (by simp) h7.size,fun k hk hne=>(h7.block k (by simp;omega) hne).trans (heap_alloc_old w _ hk)⟩;refine hK g cap w' ⟨_,h6, ?_,by rw[List.length_append,o3,hy]⟩ hg (hb.grown hg hB (fun k hk=>(hlt k hk).1)) (h6.lt g rfl).1 h9;have:=o2.append hread;exact⟨this.1,fun i x hx=>by obtain⟨vs,a,b⟩:=this.2 i x hx;exact⟨vs,a,hkeep _ hg _ _ b⟩⟩
theorem aC.base {α:Type}{R:World→(Nat→Value)→α→Prop}{sz:Nat}{w:World}{B B' e:Nat}{v:Value}{n:Nat}{xs:List α}(h:aC R sz w B e v n xs)(hB:B'≤B):aC R sz w B' e v n xs:=by
 obtain⟨cells,⟨h0,h1⟩,h2,h3⟩:=h;refine⟨cells,⟨h0, ?_⟩,h2,h3⟩;rcases h1 with h1|⟨g,cap,cur,hv,hg,r⟩
 ·exact .inl h1
 ·exact .inr ⟨g,cap,cur,hv,by omega,r⟩
theorem fO {w:World}{B1 B2 e1 e2 s1 s2 n1 n2:Nat}{v1 v2:Value}{c1 c2:List Value}(h1:w.ownsRow B1 e1 s1 v1 n1 c1)(h2:w.ownsRow B2 e2 s2 v2 n2 c2)(hne:e1≠e2):v1.ownBlock=none∨v1.ownBlock≠v2.ownBlock:=by
 rcases h1.2 with⟨rfl,_⟩|⟨g1,cap1,cur1,rfl,_,hh1,_⟩
 ·exact .inl rfl
 ·refine .inr (fun e=>?_);rcases h2.2 with⟨rfl,_⟩|⟨g2,cap2,cur2,rfl,_,hh2,_⟩
  ·simp[Value.ownBlock]at e
  ·simp only[Value.ownBlock,Option.some.injEq]at e;subst e;rw[hh1]at hh2;injection hh2 with hh2;injection hh2 with _ ht;exact hne ht
def a7 (B:Nat):World→(Nat→Value)→aI→Prop:=fun w vs t =>
 vs 0=.int .i64 t.label∧∃n1 n2,aD w B (vs 1) n1 t.pre∧aD w B (vs 2) n2 t.post∧n1≤17592186044416∧n2≤17592186044416
theorem a7.kept (B:Nat):t8 (a7 B):=fun _ _ _ _ hb ⟨h0,n1,n2,h1,h2,h3⟩=>⟨h0,n1,n2,h1.keep iG.kept hb,h2.keep iG.kept hb,h3⟩
theorem a7.tran {B:Nat}{w:World}{vs:Nat→Value}{t:aI}(h:a7 B w vs t):wG w vs t:=by
 obtain⟨h0,n1,n2,h1,h2,h3,h4⟩:=h;obtain⟨A1,c1,e1,i1⟩:=h1.sl (by omega);obtain⟨A2,c2,e2,i2⟩:=h2.sl (by omega);exact⟨h0,A1,n1,c1,A2,n2,c2,e1,e2,i1,i2,h3,h4⟩
theorem a7.grown {B:Nat}{w w':World}{v:Value}{n:Nat}{cells:List Value}{B2:Nat}(hown:w.ownsRow B2 49 3 v n cells)(hg:w.grownBy w' v.ownBlock){vs:Nat→Value}{t:aI}(h:a7 B w vs t):a7 B w' vs t:=by
 obtain⟨h0,n1,n2,⟨c1,a1,a2,a3⟩,⟨c2,b1,b2,b3⟩,h3⟩:=h;exact⟨h0,n1,n2,⟨c1,a1.kept hg (fO a1 hown (by decide)),⟨a2.1,a2.2⟩,a3⟩,⟨c2,b1.kept hg (fO b1 hown (by decide)),⟨b2.1,b2.2⟩,b3⟩,h3⟩
theorem a7.far {B:Nat}{w w':World}{g:Nat}(hg:w.grownBy w' (some g))(hlt:g<B){vs:Nat→Value}{t:aI}(h:a7 B w vs t):a7 B w' vs t:=by
 obtain⟨h0,n1,n2,⟨c1,a1,a2,a3⟩,⟨c2,b1,b2,b3⟩,h3⟩:=h;refine⟨h0,n1,n2,⟨c1,a1.kept hg (.inr (fun e=>?_)),⟨a2.1,a2.2⟩,a3⟩,⟨c2,b1.kept hg (.inr (fun e=>?_)),⟨b2.1,b2.2⟩,b3⟩,h3⟩
 ·have:=(a1.lt g e).1;omega
 ·have:=(b1.lt g e).1;omega
end Go.Proofs.YtfmnagcglhlicaaGreat
