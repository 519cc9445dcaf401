/- Texts melted into one: The plain law of desks: who may do what, what is done, one thing behind the other. No program in sight. | The plain law of exploration: all marks that a net comes to,  -/
import Derived.Test.YtfmnagcglhlicaaGreatTopCrashK05
namespace Go.Proofs.YtfmnagcglhlicaaGreat
structure cQ where
 user:Int
 tran:Int
 open_:Bool
deriving Inhabited,DecidableEq
structure aX where
 case_:a8
 items:List cQ
def aX.nil:aX:=⟨a8.nil,[]⟩
def AD (roles:LLi)(u l:Int):Bool:=decide (0≤u)&&(decide (u<8)&&(roles.getD u.toNat []).any fun y=>l==y)
def kU (N:aS)(t:Int):Int:=(N.trans.getD t.toNat default).label
def inT (N:aS)(t:Int):Prop:=0≤t∧t<(N.trans.length:Int)
instance (N:aS) (t:Int):Decidable (inT N t):=by unfold inT;exact inferInstance
def iO (N:aS)(roles:LLi)(k:aX)(o:POp):aX×Int×Int :=
 if inT N o.tran then
  (if AD roles o.user (kU N o.tran)=true then
   (if(doL N k.case_ 2 o.tran).2=0 then(⟨(doL N k.case_ 2 o.tran).1,k.items++[⟨o.user,o.tran,true⟩]⟩,(k.items.length:Int),0)else(k,0,(doL N k.case_ 2 o.tran).2))
  else(k,0,6))
 else(k,0,3)
def kA (k:aX)(o:POp):Int :=
 if 0≤o.item∧o.item<(k.items.length:Int)∧(k.items.getD o.item.toNat default).open_=true then(if(k.items.getD o.item.toNat default).user=o.user then 0 else 7)else 3
def dF (k:aX)(o:POp):cQ:=k.items.getD o.item.toNat default
def nV (o:POp):Int:=if o.kind=3 then 4 else 3
def dW (N:aS)(roles:LLi)(k:aX)(o:POp):aX×Int×Int :=
 if kA k o=0 then
  (if o.kind=4 then
   (if AD roles o.to_ (kU N (dF k o).tran)=true then(⟨k.case_,k.items.set o.item.toNat ⟨o.to_,(dF k o).tran,(dF k o).open_⟩⟩,o.item,0)else(k,0,6))
  else
   (if(doL N k.case_ (nV o) (dF k o).tran).2=0 then(⟨(doL N k.case_ (nV o) (dF k o).tran).1,k.items.set o.item.toNat ⟨(dF k o).user,(dF k o).tran,false⟩⟩,o.item,0)
   else(k,0,(doL N k.case_ (nV o) (dF k o).tran).2)))
 else(k,0,kA k o)
def yU (N:aS)(k:aX)(o:POp):aX×Int×Int :=
 if(doL N k.case_ 1 o.tran).2=0 then(⟨(doL N k.case_ 1 o.tran).1,k.items⟩,0,0)else(k,0,(doL N k.case_ 1 o.tran).2)
def cD (N:aS)(roles:LLi)(k:aX)(o:POp):aX×Int×Int :=
 if o.kind=1 then iO N roles k o else if o.kind=2∨o.kind=3∨o.kind=4 then dW N roles k o else if o.kind=5 then yU N k o else(k,0,5)
structure eK (N:aS)(k:aX):Prop where
 case_:cI N k.case_=true
 trans:∀it∈k.items,inT N it.tran
theorem eK.set {N:aS}{k:aX}(h:eK N k)(i:Nat){c:a8}(hc:cI N c=true){x:cQ}(hx:inT N x.tran):eK N ⟨c,k.items.set i x⟩ :=
 ⟨hc,fun it hit=>by
  rcases List.mem_or_eq_of_mem_set hit with h1|rfl
  ·exact h.trans it h1
  ·exact hx⟩
theorem rB {k:aX}{o:POp}(h:kA k o=0):0≤o.item∧o.item<(k.items.length:Int)∧(dF k o).open_=true∧(dF k o).user=o.user∧k.items[o.item.toNat]?=some (dF k o):=by
 unfold kA at h;split at h
 ·rename_i h1
  split at h
  ·rename_i h2
   refine⟨h1.1,h1.2.1,h1.2.2,h2, ?_⟩;have:o.item.toNat<k.items.length:=by omega
   simp[dF,List.getElem?_eq_getElem this]
  ·simp at h
 ·simp at h
theorem yV {N:aS}{roles:LLi}{k:aX}{o:POp}(h:eK N k):eK N (cD N roles k o).1:=by
 unfold cD;split
 ·unfold iO;split
  ·rename_i ht
   split
   ·split
    ·rename_i hd
     refine⟨AU hd,fun it hit=>?_⟩;rcases List.mem_append.1 hit with h1|h1
     ·exact h.trans it h1
     ·rw[List.mem_singleton.1 h1];exact ht
    ·exact h
   ·exact h
  ·exact h
 ·split
  ·unfold dW;split
   ·rename_i hi
    have hx:=h.trans _ (List.mem_of_getElem? (rB hi).2.2.2.2);split
    ·split
     ·exact h.set _ h.case_ hx
     ·exact h
    ·split
     ·rename_i hd
      exact h.set _ (AU hd) hx
     ·exact h
   ·exact h
  ·split
   ·unfold yU;split
    ·rename_i hd
     exact⟨AU hd,h.trans⟩
    ·exact h
   ·exact h
theorem EH {N:aS}{roles:LLi}{k:aX}{o:POp}:(cD N roles k o).1.items.length≤k.items.length+1:=by
 unfold cD iO dW yU
 repeat' split
 all_goals simp
def jS (N:aS)(roles:LLi):aX→List POp→aX×List (Int×Int)
 | k,[]=>(k,[])
 | k,o::r=>((jS N roles (cD N roles k o).1 r).1,((cD N roles k o).2.2,(cD N roles k o).2.1)::(jS N roles (cD N roles k o).1 r).2)
theorem uE (N:aS)(roles:LLi):∀(l:List POp) (k:aX) (o:POp),jS N roles k (l++[o]) =
  ((cD N roles (jS N roles k l).1 o).1,(jS N roles k l).2++[((cD N roles (jS N roles k l).1 o).2.2,(cD N roles (jS N roles k l).1 o).2.1)])
 | [],_,_=>rfl
 | x::l,k,o=>by
  show((jS N roles (cD N roles k x).1 (l++[o])).1,_::(jS N roles (cD N roles k x).1 (l++[o])).2)=_
  rw[uE N roles l];rfl
theorem uF (N:aS)(roles:LLi):∀(l:List POp) (k:aX),eK N k→eK N (jS N roles k l).1∧(jS N roles k l).1.items.length≤k.items.length+l.length∧(jS N roles k l).2.length=l.length
 | [],k,h=>⟨h,Nat.le_refl _,rfl⟩
 | x::l,k,h=>by
  obtain⟨h1,h2,h3⟩:=uF N roles l (cD N roles k x).1 (yV h);refine⟨h1, ?_,by simp[jS,h3]⟩;have:=EH (N:=N) (roles:=roles) (k:=k) (o:=x);simp only[jS,List.length_cons];omega
def uG (N:aS)(roles:LLi)(i:Int)(l:List POp):aX×List (Int×Int)×Int :=
 if(aZ N i).2=0 then((jS N roles ⟨(aZ N i).1,[]⟩ l).1,(jS N roles ⟨(aZ N i).1,[]⟩ l).2,0)else(aX.nil,[],(aZ N i).2)
theorem eK.start {N:aS}{i:Int}(h:(aZ N i).2=0):eK N ⟨(aZ N i).1,[]⟩:=⟨MQ h,fun it hit=>by cases hit⟩
theorem eK.small {N:aS}{k:aX}(h:eK N k):k.case_.busy.length≤24∧k.case_.mark.length≤16∧N.trans.length≤24:=by
 have h1:=(bB N k.case_).1 h.case_;have h2:=(aQ N).1 h1.1;omega
end Go.Proofs.YtfmnagcglhlicaaGreat
namespace Go.Proofs.YtfmnagcglhlicaaGreat
structure bO where
 from_:Int
 tran:Int
 to_:Int
structure PSp where
 marks:LLi
 arcs:List bO
def PSp.nil:PSp:=⟨[],[]⟩
def eH (ms:LLi)(x:LIn):Option Nat:=ms.findIdx? fun y=>x==y
def pZ (most:Nat)(s:PSp)(f t:Int)(x:LIn):Option PSp :=
 match eH s.marks x with
 | some k=>some ⟨s.marks,s.arcs++[⟨f,t,(k:Int)⟩]⟩
 | none=>if s.marks.length=most then none else some ⟨s.marks++[x],s.arcs++[⟨f,t,(s.marks.length:Int)⟩]⟩
def cS (N:aS)(most:Nat)(m:LIn)(f:Int)(s:PSp)(t:Int):Option PSp :=
 if(bW N m t).2=3 then some s else if(bW N m t).2=0 then pZ most s f t (bW N m t).1 else none
def hJ (N:aS)(most:Nat)(m:LIn)(f:Int)(l:LIn)(o:Option PSp):Option PSp:=l.foldl (fun o t=>o.bind fun s=>cS N most m f s t) o
theorem rC (N:aS)(most:Nat)(m:LIn)(f:Int)(l:LIn)(t:Int)(o:Option PSp):hJ N most m f (l++[t]) o=(hJ N most m f l o).bind fun s=>cS N most m f s t:=by
 unfold hJ;rw[List.foldl_append];rfl
theorem nH (N:aS)(most:Nat)(m:LIn)(f:Int)(l:LIn):hJ N most m f l none=none:=by
 induction l with
 | nil=>rfl
 | cons t l ih=>exact ih
theorem EI {N:aS}{most:Nat}{m:LIn}{f:Int}{l:LIn}{o:Option PSp}(k:Nat)(h:hJ N most m f (l.take k) o=none):hJ N most m f l o=none:=by
 have e:=List.take_append_drop k l;rw[←e];unfold hJ at h ⊢;rw[List.foldl_append,h];exact nH N most m f _
def VG (n:Nat):LIn:=(List.range n).map fun(t:Nat)=>(t:Int)
theorem yW {N:aS}{most:Nat}{m:LIn}{f:Int}(hm:dS N m=true)(o:Option PSp):∀k,k≤N.trans.length→hJ N most m f (fE (N.trans.take k) m) o=hJ N most m f (VG k) o:=by
 intro k;induction k with
 | zero=>intro _;rfl
 | succ k ih =>
  intro hk;have hx:N.trans[k]?=some (N.trans[k]'(by omega)):=List.getElem?_eq_getElem _;rw[bL hx,q8,VG,List.range_succ,List.map_append,List.map_cons,List.map_nil,rC,←VG,←ih (by omega)];have hl:(N.trans.take k).length=k:=by rw[List.length_take];omega
  have hf:bW N m (k:Int)=kO m (N.trans[k]'(by omega)):=by
   rw[bW,if_pos hm,if_pos ⟨by omega,by omega⟩];simp[List.getD_eq_getElem?_getD,hx]
  by_cases hc:cA m (N.trans[k]'(by omega)).pre=true
  ·rw[if_pos hc,rC,hl]
  ·rw[if_neg hc,List.append_nil];cases hs:hJ N most m f (fE (N.trans.take k) m) o with
   | none=>rfl
   | some s =>
    show some s=cS N most m f s (k:Int)
    unfold cS;rw[hf,kO,if_neg hc];rfl
def yX (N:aS)(most f:Nat)(s:PSp):Option PSp:=hJ N most (s.marks.getD f []) (f:Int) (VG N.trans.length) (some s)
def goM (N:aS)(most:Nat):Nat→Nat→PSp→Option PSp
 | 0,_,s=>some s
 | g+1,f,s=>if f<s.marks.length then(yX N most f s).bind (goM N most g (f+1))else some s
def bG (N:aS)(m:LIn)(most:Int):PSp×Int :=
 if 1≤most∧most≤300∧dS N m=true then(match goM N most.toNat most.toNat 0 ⟨[m],[]⟩ with
  | some s=>(s,0)
  | none=>(PSp.nil,4))else(PSp.nil,2)
def uH (s:PSp)(k:Nat):Option Nat:=s.arcs.findIdx? fun a=>a.to_==(k:Int)
structure lW (N:aS)(most:Nat)(s:PSp):Prop where
 few:s.marks.length≤most
 some_:0<s.marks.length
 fits:∀x∈s.marks,dS N x=true
 nodup:s.marks.Nodup
 ends:∀a∈s.arcs,(0≤a.from_∧a.from_<(s.marks.length:Int))∧(0≤a.tran∧a.tran<(N.trans.length:Int))∧(0≤a.to_∧a.to_<(s.marks.length:Int))
 found:∀k,0<k→k<s.marks.length→∃(j:Nat) (a:bO),s.arcs[j]?=some a∧a.to_=(k:Int)∧a.from_<(k:Int)∧∀i,i<j→∀b:bO,s.arcs[i]?=some b→b.to_≠(k:Int)
theorem kV {ms:LLi}{x:LIn}{k:Nat}(h:eH ms x=some k):ms[k]?=some x:=by
 unfold eH at h;rw[List.findIdx?_eq_some_iff_getElem]at h;obtain⟨hk,hx,_⟩:=h;have:x=ms[k]:=by simpa using hx
 rw[List.getElem?_eq_getElem hk,this]
theorem rD {ms:LLi}{x:LIn}(h:eH ms x=none):x∉ms:=by
 unfold eH at h;rw[List.findIdx?_eq_none_iff]at h;intro hx;have:=h x hx;simp at this
theorem QX {ms:LLi}{x:LIn}{k:Nat}(hn:ms.Nodup)(h:ms[k]?=some x):eH ms x=some k:=by
 cases hf:eH ms x with
 | none=>exact absurd (List.mem_of_getElem? h) (rD hf)
 | some j =>
  have hj:=kV hf;obtain⟨hk1,hk2⟩:=List.getElem?_eq_some_iff.1 h;obtain⟨hj1,hj2⟩:=List.getElem?_eq_some_iff.1 hj;have:=(List.getElem_inj hn).1 (hj2.trans hk2.symm);rw[this]
theorem p8 {N:aS}{m:LIn}{t:Int}(hm:dS N m=true)(h:(bW N m t).2=0):dS N (bW N m t).1=true∧0≤t∧t<(N.trans.length:Int):=by
 have hm':=(bD N m).1 hm;unfold bW at h ⊢;rw[if_pos hm]at h ⊢;by_cases ht:0≤t∧t<(N.trans.length:Int)
 ·rw[if_pos ht]at h ⊢;have hx:N.trans[t.toNat]?=some (N.trans.getD t.toNat default):=by
   have hlt:t.toNat<N.trans.length:=by omega
   simp[List.getElem?_eq_getElem hlt]
  have hT:=cB hm'.1 hx;generalize N.trans.getD t.toNat default=T at *
  unfold kO at h ⊢;split at h
  ·rename_i h1
   rw[if_pos h1];split at h
   ·rename_i h2
    rw[if_pos h2];refine⟨(bD _ _).2 ⟨hm'.1, ?_,h2⟩,ht⟩;simp only[gB];omega
   ·simp at h
  ·simp at h
 ·rw[if_neg ht]at h;simp at h
theorem xK {s:PSp}{a0:bO}{k:Nat}(h:∃(j:Nat) (a:bO),s.arcs[j]?=some a∧a.to_=(k:Int)∧a.from_<(k:Int)∧∀i,i<j→∀b:bO,s.arcs[i]?=some b→b.to_≠(k:Int)) :
  ∃(j:Nat) (a:bO),(s.arcs++[a0])[j]?=some a∧a.to_=(k:Int)∧a.from_<(k:Int)∧∀i,i<j→∀b:bO,(s.arcs++[a0])[i]?=some b→b.to_≠(k:Int):=by
 obtain⟨j,a,h1,h2,h3,h4⟩:=h;have hj:=(List.getElem?_eq_some_iff.1 h1).1;refine⟨j,a,by rw[List.getElem?_append_left hj];exact h1,h2,h3,fun i hi b hb=>?_⟩;rw[List.getElem?_append_left (by omega)]at hb;exact h4 i hi b hb
theorem lW.meet {N:aS}{most:Nat}{s s':PSp}{f t:Nat}{x:LIn}(h:lW N most s)(hf:f<s.marks.length)(ht:t<N.trans.length)(hx:dS N x=true)(hm:pZ most s (f:Int) (t:Int) x=some s'):lW N most s'∧s.marks <+: s'.marks:=by
 unfold pZ at hm;cases hk:eH s.marks x with
 | some k =>
  rw[hk]at hm;simp only[Option.some.injEq]at hm;subst hm;have hkl:=(List.getElem?_eq_some_iff.1 (kV hk)).1;refine⟨⟨h.few,h.some_,h.fits,h.nodup,fun a ha=>?_,fun k' h1 h2=>xK (h.found k' h1 h2)⟩,List.prefix_rfl⟩;rcases List.mem_append.1 ha with h1|h1
  ·exact h.ends a h1
  ·rw[List.mem_singleton.1 h1];simp only;omega
 | none =>
  rw[hk]at hm;have hn:=rD hk;simp only at hm;split at hm
  ·cases hm
  ·rename_i hlm
   simp only[Option.some.injEq]at hm;subst hm;have hfew:=h.few;refine⟨⟨by simp;omega,by simp,fun y hy=>?_, ?_,fun a ha=>?_,fun k' h1 h2=>?_⟩,List.prefix_append _ _⟩
   ·rcases List.mem_append.1 hy with h1|h1
    ·exact h.fits y h1
    ·rw[List.mem_singleton.1 h1];exact hx
   ·rw[List.nodup_append];exact⟨h.nodup,by simp,fun a ha b hb e=>hn (by rw[List.mem_singleton.1 hb]at e;rw[←e];exact ha)⟩
   ·simp only[List.length_append,List.length_cons,List.length_nil];rcases List.mem_append.1 ha with h1|h1
    ·have:=h.ends a h1;omega
    ·rw[List.mem_singleton.1 h1];simp only;omega
   ·simp only[List.length_append,List.length_cons,List.length_nil]at h2;by_cases hk':k'<s.marks.length
    ·exact xK (h.found k' h1 hk')
    ·have hke:k'=s.marks.length:=by omega
     subst hke;refine⟨s.arcs.length,⟨(f:Int),(t:Int),(s.marks.length:Int)⟩,by simp,rfl,by simp only;omega,fun i hi b hb=>?_⟩;rw[List.getElem?_append_left hi]at hb;have:=(h.ends b (List.mem_of_getElem? hb)).2.2;omega
theorem lW.step {N:aS}{most:Nat}{s s':PSp}{f t:Nat}{m:LIn}(h:lW N most s)(hf:f<s.marks.length)(hm:dS N m=true)(hs:cS N most m (f:Int) s (t:Int)=some s'):lW N most s'∧s.marks <+: s'.marks:=by
 unfold cS at hs;split at hs
 ·simp only[Option.some.injEq]at hs;subst hs;exact⟨h,List.prefix_rfl⟩
 ·split at hs
  ·rename_i h0
   obtain⟨hx,_,ht⟩:=p8 hm h0;exact h.meet hf (by omega) hx hs
  ·cases hs
theorem EJ {a b:LLi}(h:a <+: b){f:Nat}(hf:f<a.length):b.getD f []=a.getD f []:=by
 obtain⟨c,rfl⟩:=h;simp[List.getD_eq_getElem?_getD,List.getElem?_append_left hf]
theorem lW.fold {N:aS}{most:Nat}{f:Nat}{m:LIn}(hm:dS N m=true):∀(l:List Nat) {s s':PSp} (_:lW N most s) (_:f<s.marks.length) (_:hJ N most m (f:Int) (l.map fun(t:Nat)=>(t:Int)) (some s)=some s'),lW N most s'∧s.marks <+: s'.marks:=by
 intro l;induction l with
 | nil =>
  intro s s' h hf hs;have:s=s':=by simpa [hJ] using hs
  subst this;exact⟨h,List.prefix_rfl⟩
 | cons t l ih =>
  intro s s' h hf hs;have hs':hJ N most m (f:Int) (l.map fun(t:Nat)=>(t:Int)) (cS N most m (f:Int) s (t:Int))=some s':=hs;cases h1:cS N most m (f:Int) s (t:Int) with
  | none=>rw[h1,nH]at hs';cases hs'
  | some s1 =>
   rw[h1]at hs';obtain⟨k1,k2⟩:=h.step hf hm h1;obtain⟨k3,k4⟩:=ih k1 (Nat.lt_of_lt_of_le hf k2.length_le) hs';exact⟨k3,k2.trans k4⟩
theorem lW.from_ {N:aS}{most f:Nat}{s s':PSp}(h:lW N most s)(hf:f<s.marks.length)(hs:yX N most f s=some s'):lW N most s'∧s.marks <+: s'.marks:=by
 refine lW.fold (h.fits _ ?_) (List.range N.trans.length) h hf hs;have:s.marks.getD f []=s.marks[f]:=by simp[List.getD_eq_getElem?_getD,List.getElem?_eq_getElem hf]
 rw[this];exact List.getElem_mem hf
theorem lW.start {N:aS}{m:LIn}{most:Nat}(hm:dS N m=true)(h:1≤most):lW N most ⟨[m],[]⟩ :=
 ⟨h,by simp,fun x hx=>by rw[List.mem_singleton.1 hx];exact hm,by simp,fun a ha=>by simp at ha,fun k h1 h2=>by simp at h2;omega⟩
theorem lW.go {N:aS}{most:Nat}:∀(g f:Nat) {s s':PSp} (_:lW N most s) (_:goM N most g f s=some s'),lW N most s'∧s.marks <+: s'.marks:=by
 intro g;induction g with
 | zero =>
  intro f s s' h hs;have:s=s':=by simpa [goM] using hs
  subst this;exact⟨h,List.prefix_rfl⟩
 | succ g ih =>
  intro f s s' h hs;unfold goM at hs;split at hs
  ·rename_i hf
   cases h1:yX N most f s with
   | none=>rw[h1]at hs;cases hs
   | some s1 =>
    rw[h1]at hs;obtain⟨k1,k2⟩:=h.from_ hf h1;obtain⟨k3,k4⟩:=ih (f+1) k1 hs;exact⟨k3,k2.trans k4⟩
  ·simp only[Option.some.injEq]at hs;subst hs;exact⟨h,List.prefix_rfl⟩
def kW (s:PSp):Nat→Nat→LIn
 | 0,_=>[]
 | g+1,k=>if k=0 then []else match s.arcs.find? fun a=>a.to_==(k:Int) with
  | some a=>kW s g a.from_.toNat++[a.tran]
  | none=>[]
def o0 (N:aS)(m goal:LIn)(most:Int):LIn×Int :=
 if(bG N m most).2=0 then(match eH (bG N m most).1.marks goal with
  | some k=>(kW (bG N m most).1 k k,0)
  | none=>([],3))else([],(bG N m most).2)
theorem lW.find {N:aS}{most:Nat}{s:PSp}(h:lW N most s){k:Nat}(h0:0<k)(hk:k<s.marks.length):∃(j:Nat) (a:bO),s.arcs[j]?=some a∧a.to_=(k:Int)∧0≤a.from_∧a.from_<(k:Int)∧(∀i,i<j→∀b:bO,s.arcs[i]?=some b→b.to_≠(k:Int))∧s.arcs.find? (fun a=>a.to_==(k:Int))=some a:=by
 obtain⟨j,a,h1,h2,h3,h4⟩:=h.found k h0 hk;refine⟨j,a,h1,h2,(h.ends a (List.mem_of_getElem? h1)).1.1,h3,h4, ?_⟩;obtain⟨hj,hja⟩:=List.getElem?_eq_some_iff.1 h1;rw[List.find?_eq_some_iff_getElem];refine⟨by simpa using h2,j,hj,hja,fun i hi=>?_⟩;have:=h4 i hi _ (List.getElem?_eq_getElem (by omega));simpa using this
theorem nI (s:PSp):∀g,kW s g 0=[]
 | 0=>rfl
 | _+1=>rfl
theorem Jr {N:aS}{most:Nat}{s:PSp}(h:lW N most s)(k:Nat):k<s.marks.length→∀g g',k≤g→k≤g'→kW s g k=kW s g' k:=by
 induction k using Nat.strongRecOn with
 | _ k ih =>
  intro hl g g' hg hg';by_cases h0:k=0
  ·subst h0;rw[nI,nI]
  ·obtain⟨j,a,_,_,hf0,hf1,_,hf⟩:=h.find (by omega) hl;obtain⟨g1,rfl⟩:∃g1,g=g1+1:=⟨g-1,by omega⟩;obtain⟨g2,rfl⟩:∃g2,g'=g2+1:=⟨g'-1,by omega⟩;have e1:kW s (g1+1) k=kW s g1 a.from_.toNat++[a.tran]:=by rw[kW,if_neg h0,hf]
   have e2:kW s (g2+1) k=kW s g2 a.from_.toNat++[a.tran]:=by rw[kW,if_neg h0,hf]
   rw[e1,e2,ih a.from_.toNat (by omega) (by omega) g1 g2 (by omega) (by omega)]
theorem xM {N:aS}{most:Nat}{s:PSp}(h:lW N most s){k:Nat}(h0:0<k)(hl:k<s.marks.length){a:bO}(ha:s.arcs.find? (fun a=>a.to_==(k:Int))=some a)(hf:0≤a.from_∧a.from_<(k:Int)):kW s k k=kW s a.from_.toNat a.from_.toNat++[a.tran]:=by
 obtain⟨k',rfl⟩:∃k',k=k'+1:=⟨k-1,by omega⟩;have e1:kW s (k'+1) (k'+1)=kW s k' a.from_.toNat++[a.tran]:=by rw[kW,if_neg (by omega),ha]
 rw[e1,Jr h a.from_.toNat (by omega) k' a.from_.toNat (by omega) (Nat.le_refl _)]
end Go.Proofs.YtfmnagcglhlicaaGreat
namespace Go.Proofs.YtfmnagcglhlicaaGreat
theorem MY {ts:List aI}{m:LIn}{t:Int}(h:t∈fE ts m):∃(i:Nat) (T:aI),t=(i:Int)∧ts[i]?=some T∧cA m T.pre=true:=by
 unfold fE at h;obtain⟨p,hp,rfl⟩:=List.mem_map.1 h;obtain⟨h1,h2⟩:=List.mem_filter.1 hp;exact⟨p.2,p.1,rfl,List.mem_zipIdx_iff_getElem?.1 h1,by simpa using h2⟩
theorem Js {N:aS}{m:LIn}{t:Int}(hf:dS N m=true)(h:t∈fE N.trans m):(∃i:Nat,i<N.trans.length∧t=(i:Int))∧((bW N m t).2=0∨(bW N m t).2=4):=by
 obtain⟨i,T,rfl,hT,hc⟩:=MY h;have hi:=(List.getElem?_eq_some_iff.1 hT).1;refine⟨⟨i,hi,rfl⟩, ?_⟩;have:bW N m (i:Int)=kO m T:=by
  rw[bW,if_pos hf,if_pos ⟨by omega,by omega⟩];simp[List.getD_eq_getElem?_getD,hT]
 rw[this,kO,if_pos hc];split
 ·exact .inl rfl
 ·exact .inr rfl
def mA (M:Nat)(ms:LLi)(fs:LIn)(x:LIn)(a:Int):LLi×LIn×Int×Bool :=
 match eH ms x with
 | some k=>(ms,fs,(k:Int),true)
 | none=>if ms.length=M then(ms,fs,0,false)else(ms++[x],fs++[a],(ms.length:Int),true)
structure EK (s:PSp)(fs:LIn):Prop where
 len:fs.length=s.marks.length
 at_:∀k,0<k→k<s.marks.length→∃j:Nat,fs[k]?=some (j:Int)∧uH s k=some j
theorem EK.start (m:LIn):EK ⟨[m],[]⟩ [-1]:=⟨rfl,fun k h1 h2=>by simp at h2;omega⟩
theorem uI {s:PSp}{a:bO}{k j:Nat}(h:uH s k=some j)(ms:LLi):uH ⟨ms,s.arcs++[a]⟩ k=some j:=by
 unfold uH at h ⊢;rw[List.findIdx?_append,h];rfl
theorem EK.meet {M:Nat}{s:PSp}{fs:LIn}{x:LIn}{f t:Int}(h:EK s fs)(he:∀a∈s.arcs,a.to_<(s.marks.length:Int)) :
  ((mA M s.marks fs x (s.arcs.length:Int)).2.2.2=false∧pZ M s f t x=none)∨((mA M s.marks fs x (s.arcs.length:Int)).2.2.2=true∧pZ M s f t x=some ⟨(mA M s.marks fs x (s.arcs.length:Int)).1,s.arcs++[⟨f,t,(mA M s.marks fs x (s.arcs.length:Int)).2.2.1⟩]⟩ ∧
   EK ⟨(mA M s.marks fs x (s.arcs.length:Int)).1,s.arcs++[⟨f,t,(mA M s.marks fs x (s.arcs.length:Int)).2.2.1⟩]⟩ (mA M s.marks fs x (s.arcs.length:Int)).2.1):=by
 unfold mA pZ;cases hf:eH s.marks x with
 | some k =>
  refine .inr ⟨rfl,rfl,⟨h.len,fun k' h1 h2=>?_⟩⟩;obtain⟨j,e1,e2⟩:=h.at_ k' h1 h2;exact⟨j,e1,uI e2 _⟩
 | none =>
  by_cases hl:s.marks.length=M
  ·refine .inl ?_;simp only[hl,if_true];exact⟨trivial,trivial⟩
  ·refine .inr ?_;simp only[hl,if_false];refine⟨trivial,trivial,⟨by simp[h.len],fun k' h1 h2=>?_⟩⟩;simp only[List.length_append,List.length_cons,List.length_nil]at h2;by_cases hk:k'<s.marks.length
   ·obtain⟨j,e1,e2⟩:=h.at_ k' h1 hk;exact⟨j,by rw[List.getElem?_append_left (by rw[h.len];exact hk)];exact e1,uI e2 _⟩
   ·obtain rfl:k'=s.marks.length:=by omega
    refine⟨s.arcs.length,by rw[←h.len];simp, ?_⟩;unfold uH;rw[List.findIdx?_append];have:s.arcs.findIdx? (fun a=>a.to_==(s.marks.length:Int))=none:=by
     rw[List.findIdx?_eq_none_iff];intro a ha;have:=he a ha;simp;omega
    rw[this];simp
theorem Na {M:Nat}{s s':PSp}{f t:Int}{x:LIn}(h:pZ M s f t x=some s'):s'.arcs.length=s.arcs.length+1:=by
 unfold pZ at h;split at h
 ·simp only[Option.some.injEq]at h;subst h;simp
 ·split at h
  ·cases h
  ·simp only[Option.some.injEq]at h;subst h;simp
end Go.Proofs.YtfmnagcglhlicaaGreat
namespace Go.Proofs.YtfmnagcglhlicaaGreat
def iS (xs ys:LIn)(i:Nat):Prop:=ys.length=xs.length∧∀p,p<xs.length→ys[p]?=if p<i∨xs.length≤p+i then xs[xs.length-1-p]? else xs[p]?
theorem iS.start (xs:LIn):iS xs xs 0:=⟨rfl,fun p hp=>by rw[if_neg (by omega)]⟩
theorem iS.step {xs ys:LIn}{i j:Nat}{u v:Int}(h:iS xs ys i)(hj:j+i+1=xs.length)(hi:i<j)(hu:ys[i]?=some u)(hv:ys[j]?=some v):iS xs ((ys.set i v).set j u) (i+1):=by
 refine⟨by simp[h.1],fun p hp=>?_⟩;have hl:=h.1;have h1:=h.2 i (by omega);have h2:=h.2 j (by omega);rw[if_neg (by omega)]at h1 h2;by_cases e1:p=j
 ·subst e1;rw[List.getElem?_set_self (by simp;omega),if_pos (by omega),show xs.length-1-p=i by omega,←h1,hu]
 ·rw[List.getElem?_set_ne (by omega)];by_cases e2:p=i
  ·subst e2;rw[List.getElem?_set_self (by omega),if_pos (by omega),show xs.length-1-p=j by omega,←h2,hv]
  ·rw[List.getElem?_set_ne (by omega),h.2 p hp];by_cases e3:p<i∨xs.length≤p+i
   ·rw[if_pos e3,if_pos (by omega)]
   ·rw[if_neg e3,if_neg (by omega)]
theorem iS.done {xs ys:LIn}{i:Nat}(h:iS xs ys i)(hi:xs.length≤2*i+1):ys=xs.reverse:=by
 refine List.ext_getElem? fun p=>?_
 by_cases hp:p<xs.length
 ·rw[h.2 p hp,List.getElem?_reverse hp];by_cases e:p<i∨xs.length≤p+i
  ·rw[if_pos e]
  ·rw[if_neg e,show xs.length-1-p=p by omega]
 ·rw[List.getElem?_eq_none (by rw[h.1];omega),List.getElem?_eq_none (by simp;omega)]
theorem Jt {s:PSp}{k j:Nat}(h:uH s k=some j):∃a,s.arcs[j]?=some a∧s.arcs.find? (fun a=>a.to_==(k:Int))=some a:=by
 unfold uH at h;rw[List.findIdx?_eq_some_iff_getElem]at h;obtain⟨hj,h1,h2⟩:=h;refine⟨s.arcs[j],List.getElem?_eq_getElem hj, ?_⟩;rw[List.find?_eq_some_iff_getElem];exact⟨h1,j,hj,rfl,fun i hi=>by simpa using h2 i hi⟩
theorem Bm (ms:LLi)(x:LIn):cC (fun y=>y==x) ms=match eH ms x with|some k=>(k:Int)|none=>-1:=by
 unfold cC eH;have:(fun y:LIn=>y==x)=(fun y=>x==y):=by funext y;exact Bool.beq_comm
 rw[this];cases List.findIdx? (fun y=>x==y) ms <;> rfl
theorem QY {ms:LLi}{x:LIn}{k:Nat}(h:eH ms x=some k):k<ms.length:=(List.getElem?_eq_some_iff.1 (kV h)).1
theorem Nb {N:aS}{m goal:LIn}{most:Int}{s:PSp}{k:Int}(h:bG N m most=(s,k))(hk:k≠0):o0 N m goal most=([],k):=by
 rw[o0,h,if_neg hk]
theorem Ju {N:aS}{m goal:LIn}{most:Int}{s:PSp}(h:bG N m most=(s,0))(hk:eH s.marks goal=none):o0 N m goal most=([],3):=by
 rw[o0,h,if_pos rfl];simp only[hk]
theorem xN {N:aS}{m goal:LIn}{most:Int}{s:PSp}{k:Nat}(h:bG N m most=(s,0))(hk:eH s.marks goal=some k):o0 N m goal most=(kW s k k,0):=by
 rw[o0,h,if_pos rfl];simp only[hk]
theorem jG {N:aS}{m:LIn}{most:Int}(h:(bG N m most).2=0):(1≤most∧most≤300)∧lW N most.toNat (bG N m most).1:=by
 unfold bG at h ⊢;split at h
 ·rename_i h1
  rw[if_pos h1];cases hg:goM N most.toNat most.toNat 0 ⟨[m],[]⟩ with
  | none=>rw[hg]at h;simp at h
  | some s1=>exact⟨⟨h1.1,h1.2.1⟩,(lW.go _ _ (lW.start h1.2.2 (by omega)) hg).1⟩
 ·simp at h
end Go.Proofs.YtfmnagcglhlicaaGreat
