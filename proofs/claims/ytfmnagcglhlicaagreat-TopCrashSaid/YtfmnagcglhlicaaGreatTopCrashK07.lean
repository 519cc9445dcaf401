/- Texts melted into one: The plain law of explored spaces: from each mark all that can fire leads to a mark that is there; each arc is a firing; an exploration from a mark that is there does n -/
import Derived.Test.YtfmnagcglhlicaaGreatTopCrashK06
namespace Go.Proofs.YtfmnagcglhlicaaGreat
section
variable {N:aS} {most:Nat}
def cH (s:PSp)(f:Nat):LIn:=s.marks.getD f []
theorem fP {s:PSp}{f:Nat}(h:f<s.marks.length):s.marks[f]?=some (cH s f):=by
 unfold cH;rw[List.getD_eq_getElem?_getD,List.getElem?_eq_getElem h];rfl
theorem nJ {s:PSp}{f:Nat}{x:LIn}(h:s.marks[f]?=some x):cH s f=x:=by
 unfold cH;rw[List.getD_eq_getElem?_getD,h];rfl
def mH (N:aS)(s:PSp)(f t:Nat):Prop :=
 (bW N (cH s f) (t:Int)).2=3∨((bW N (cH s f) (t:Int)).2=0∧∃j:Nat,j<s.marks.length∧cH s j=(bW N (cH s f) (t:Int)).1∧(⟨(f:Int),(t:Int),(j:Int)⟩:bO)∈s.arcs)
def mI (N:aS)(s:PSp):Prop:=∀a∈s.arcs,bW N (cH s a.from_.toNat) a.tran=(cH s a.to_.toNat,0)
structure wJ (s s':PSp):Prop where
 marks:s.marks <+: s'.marks
 arcs:∀a∈s.arcs,a∈s'.arcs
theorem wJ.refl (s:PSp):wJ s s:=⟨List.prefix_rfl,fun _ h=>h⟩
theorem wJ.trans {a b c:PSp}(h:wJ a b)(k:wJ b c):wJ a c:=⟨h.marks.trans k.marks,fun x hx=>k.arcs x (h.arcs x hx)⟩
theorem wJ.at {s s':PSp}(h:wJ s s'){f:Nat}(hf:f<s.marks.length):cH s' f=cH s f:=EJ h.marks hf
theorem mH.ext {s s':PSp}{f t:Nat}(h:mH N s f t)(hf:f<s.marks.length)(e:wJ s s'):mH N s' f t:=by
 unfold mH at h ⊢;rw[e.at hf];rcases h with h|⟨h,j,h1,h2,h3⟩
 ·exact .inl h
 ·exact .inr ⟨h,j,Nat.lt_of_lt_of_le h1 e.marks.length_le,by rw[e.at h1];exact h2,e.arcs _ h3⟩
theorem Nc {s s':PSp}{f t:Nat}{x:LIn}(h:lW N most s)(ha:mI N s)(hf:f<s.marks.length)(hx:bW N (cH s f) (t:Int)=(x,0))(hm:pZ most s (f:Int) (t:Int) x=some s'):mI N s'∧wJ s s'∧mH N s' f t:=by
 have old:∀s2:PSp,wJ s s2→∀a∈s.arcs,bW N (cH s2 a.from_.toNat) a.tran=(cH s2 a.to_.toNat,0):=fun s2 e a h1=>by
  have:=h.ends a h1;rw[e.at (by omega),e.at (by omega)];exact ha a h1
 unfold pZ at hm;cases hk:eH s.marks x with
 | some k =>
  rw[hk]at hm;simp only[Option.some.injEq]at hm;subst hm;have hs:=kV hk;have hkl:=(List.getElem?_eq_some_iff.1 hs).1;have e:wJ s ⟨s.marks,s.arcs++[⟨(f:Int),(t:Int),(k:Int)⟩]⟩:=⟨List.prefix_rfl,fun a h1=>List.mem_append.2 (.inl h1)⟩;have hfx:bW N (cH ⟨s.marks,s.arcs++[⟨(f:Int),(t:Int),(k:Int)⟩]⟩ f) (t:Int)=(x,0):=by rw[e.at hf];exact hx
  have hkx:cH ⟨s.marks,s.arcs++[⟨(f:Int),(t:Int),(k:Int)⟩]⟩ k=x:=nJ hs;refine⟨fun a h1=>?_,e,.inr ⟨by rw[hfx],k,hkl,by rw[hfx];exact hkx,by simp⟩⟩;rcases List.mem_append.1 h1 with h1|h1
  ·exact old _ e a h1
  ·rw[List.mem_singleton.1 h1];simp only[Int.toNat_natCast];rw[hfx,hkx]
 | none =>
  rw[hk]at hm;simp only at hm;split at hm
  ·cases hm
  ·simp only[Option.some.injEq]at hm;subst hm;have e:wJ s ⟨s.marks++[x],s.arcs++[⟨(f:Int),(t:Int),(s.marks.length:Int)⟩]⟩:=⟨List.prefix_append _ _,fun a h1=>List.mem_append.2 (.inl h1)⟩;have hfx:bW N (cH ⟨s.marks++[x],s.arcs++[⟨(f:Int),(t:Int),(s.marks.length:Int)⟩]⟩ f) (t:Int)=(x,0):=by rw[e.at hf];exact hx
   have hkx:cH ⟨s.marks++[x],s.arcs++[⟨(f:Int),(t:Int),(s.marks.length:Int)⟩]⟩ s.marks.length=x:=nJ (by simp);refine⟨fun a h1=>?_,e,.inr ⟨by rw[hfx],s.marks.length,by simp,by rw[hfx];exact hkx,by simp⟩⟩;rcases List.mem_append.1 h1 with h1|h1
   ·exact old _ e a h1
   ·rw[List.mem_singleton.1 h1];simp only[Int.toNat_natCast];rw[hfx,hkx]
theorem Nh {s s':PSp}{f t:Nat}(h:lW N most s)(ha:mI N s)(hf:f<s.marks.length)(hs:cS N most (cH s f) (f:Int) s (t:Int)=some s'):mI N s'∧wJ s s'∧mH N s' f t:=by
 unfold cS at hs;split at hs
 ·rename_i h3
  simp only[Option.some.injEq]at hs;subst hs;exact⟨ha,wJ.refl _,.inl h3⟩
 ·split at hs
  ·rename_i h0
   exact Nc h ha hf (Prod.ext rfl h0) hs
  ·cases hs
theorem Bn {s:PSp}(h:lW N most s){f:Nat}(hf:f<s.marks.length):dS N (cH s f)=true:=h.fits _ (List.mem_of_getElem? (fP hf))
theorem Ni {f:Nat}:∀(l:List Nat) {s s':PSp} (_:lW N most s) (_:mI N s) (_:f<s.marks.length) (_:hJ N most (cH s f) (f:Int) (l.map fun(t:Nat)=>(t:Int)) (some s)=some s'),mI N s'∧wJ s s'∧∀t∈l,mH N s' f t:=by
 intro l;induction l with
 | nil =>
  intro s s' h ha hf hs;have:s=s':=by simpa [hJ] using hs
  subst this;exact⟨ha,wJ.refl _,fun t ht=>by cases ht⟩
 | cons t l ih =>
  intro s s' h ha hf hs;have hs':hJ N most (cH s f) (f:Int) (l.map fun(t:Nat)=>(t:Int)) (cS N most (cH s f) (f:Int) s (t:Int))=some s':=hs;cases h1:cS N most (cH s f) (f:Int) s (t:Int) with
  | none=>rw[h1,nH]at hs';cases hs'
  | some s1 =>
   rw[h1]at hs';obtain⟨k1,_⟩:=h.step hf (Bn h hf) h1;obtain⟨a1,e1,d1⟩:=Nh h ha hf h1;have hf1:=Nat.lt_of_lt_of_le hf e1.marks.length_le;rw[←e1.at hf]at hs';obtain⟨a2,e2,d2⟩:=ih k1 a1 hf1 hs';refine⟨a2,e1.trans e2,fun u hu=>?_⟩;rcases List.mem_cons.1 hu with rfl|hu
   ·exact d1.ext hf1 e2
   ·exact d2 u hu
theorem Nj {f:Nat}{s s':PSp}(h:lW N most s)(ha:mI N s)(hf:f<s.marks.length)(hs:yX N most f s=some s'):mI N s'∧wJ s s'∧∀t,t<N.trans.length→mH N s' f t:=by
 obtain⟨a,e,d⟩:=Ni (List.range N.trans.length) h ha hf hs;exact⟨a,e,fun t ht=>d t (List.mem_range.2 ht)⟩
theorem Uy:∀(g f:Nat) {s s':PSp} (_:lW N most s) (_:mI N s) (_:∀f',f'<f→f'<s.marks.length→∀t,t<N.trans.length→mH N s f' t) (_:goM N most g f s=some s'),mI N s'∧wJ s s'∧∀f',f'<f+g→f'<s'.marks.length→∀t,t<N.trans.length→mH N s' f' t:=by
 intro g;induction g with
 | zero =>
  intro f s s' h ha hd hs;have:s=s':=by simpa [goM] using hs
  subst this;exact⟨ha,wJ.refl _,hd⟩
 | succ g ih =>
  intro f s s' h ha hd hs;unfold goM at hs;split at hs
  ·rename_i hf
   cases h1:yX N most f s with
   | none=>rw[h1]at hs;cases hs
   | some s1 =>
    rw[h1]at hs;obtain⟨k1,_⟩:=h.from_ hf h1;obtain⟨a1,e1,d1⟩:=Nj h ha hf h1;obtain⟨a2,e2,d2⟩:=ih (f+1) k1 a1 (fun f' hf' hl t ht=>by
     by_cases e:f'=f
     ·subst e;exact d1 t ht
     ·exact(hd f' (by omega) (by omega) t ht).ext (by omega) e1) hs
    exact⟨a2,e1.trans e2,fun f' hf'=>d2 f' (by omega)⟩
  ·rename_i hf
   simp only[Option.some.injEq]at hs;subst hs;exact⟨ha,wJ.refl _,fun f' _ hl=>hd f' (by omega) hl⟩
structure o8 (N:aS)(most:Nat)(m:LIn)(s:PSp):Prop where
 ok:lW N most s
 first:s.marks[0]?=some m
 arcs:mI N s
 done:∀f,f<s.marks.length→∀t,t<N.trans.length→mH N s f t
theorem nK {m:LIn}{most:Int}{s:PSp}(h:bG N m most=(s,0)):o8 N most.toNat m s:=by
 have h2:(bG N m most).2=0:=by rw[h]
 obtain⟨_,h3⟩:=jG h2;rw[h]at h3;unfold bG at h;split at h
 ·rename_i h1
  cases hg:goM N most.toNat most.toNat 0 ⟨[m],[]⟩ with
  | none=>rw[hg]at h;simp at h
  | some s1 =>
   rw[hg]at h;simp only[Prod.mk.injEq,and_true]at h;subst h;obtain⟨a,e,d⟩:=Uy most.toNat 0 (lW.start h1.2.2 (by omega)) (fun a ha=>by cases ha) (fun f' hf'=>by omega) hg;refine⟨h3, ?_,a,fun f hf t ht=>d f (by have h4:s1.marks.length≤most.toNat:=h3.few;omega) hf t ht⟩;obtain⟨c,hc⟩:=e.marks;rw[←hc];rfl
 ·simp at h
theorem o8.fire {m:LIn}{s:PSp}(F:o8 N most m s){f:Nat}(hf:f<s.marks.length){t:Int}(ht:0≤t∧t<(N.trans.length:Int))(h:(bW N (cH s f) t).2≠3):∃j:Nat,j<s.marks.length∧bW N (cH s f) t=(cH s j,0)∧(⟨(f:Int),t,(j:Int)⟩:bO)∈s.arcs:=by
 obtain⟨i,rfl⟩:∃i:Nat,t=(i:Int):=⟨t.toNat,by omega⟩;rcases F.done f hf i (by omega)with h1|⟨h1,j,h2,h3,h4⟩
 ·exact absurd h1 h
 ·exact⟨j,h2,by rw[h3];exact Prod.ext rfl h1,h4⟩
inductive EM (N:aS):LIn→LIn→LIn→Prop
 | nil (m:LIn):EM N m [] m
 | cons {m m' m'':LIn} {t:Int} {l:LIn}:bW N m t=(m',0)→EM N m' l m''→EM N m (t::l) m''
theorem EM.snoc {m m' m'':LIn}{t:Int}{l:LIn}(h:EM N m l m')(k:bW N m' t=(m'',0)):EM N m (l++[t]) m'':=by
 induction h with
 | nil m=>exact .cons k (.nil _)
 | cons h1 _ ih=>exact .cons h1 (ih k)
theorem EM.loop {m m':LIn}{l:LIn}(h:EM N m l m'):uA N m l=(m',0):=by
 induction h with
 | nil m=>rfl
 | cons h1 _ ih =>
  rw[xG (by rw[h1]),h1];exact ih
theorem Ia {m:LIn}{s:PSp}(F:o8 N most m s):∀k,k<s.marks.length→EM N m (kW s k k) (cH s k):=by
 intro k;induction k using Nat.strongRecOn with
 | ind k ih =>
  intro hk;by_cases h0:k=0
  ·subst h0;rw[nI,nJ F.first];exact .nil _
  ·obtain⟨j,a,h1,h2,h3,h4,_,h6⟩:=F.ok.find (Nat.pos_of_ne_zero h0) hk;rw[xM F.ok (Nat.pos_of_ne_zero h0) hk h6 ⟨h3,h4⟩];have hr:=ih a.from_.toNat (by omega) (by omega);have ha:=F.arcs a (List.mem_of_getElem? h1);rw[h2,Int.toNat_natCast]at ha;exact hr.snoc ha
theorem QZ {s x:PSp}{m y:LIn}{M:Nat}(F:o8 N M m s)(hM:M=most)(hn:x.marks.Nodup)(hs:∀z∈x.marks,z∈s.marks)(hy:y∈s.marks)(f t:Int):∃x',pZ most x f t y=some x'∧(∀z∈x'.marks,z∈s.marks)∧x'.marks.Nodup:=by
 unfold pZ;cases hk:eH x.marks y with
 | some k=>exact⟨_,rfl,hs,hn⟩
 | none =>
  have hny:=rD hk;have hlt:x.marks.length<s.marks.length:=by
   have hnd:(y::x.marks).Nodup:=List.nodup_cons.2 ⟨hny,hn⟩;have:=List.Nodup.length_le_of_subset hnd (l₂:=s.marks) (fun z hz=>by
    rcases List.mem_cons.1 hz with rfl|hz
    ·exact hy
    ·exact hs z hz)
   simp only[List.length_cons]at this;omega
  have hfew:=F.ok.few;rw[if_neg (by omega)];refine⟨_,rfl,fun z hz=>?_,List.nodup_append.2 ⟨hn,by simp,fun a ha b hb e=>hny (by rw[List.mem_singleton.1 hb]at e;rw[←e];exact ha)⟩⟩;rcases List.mem_append.1 hz with hz|hz
  ·exact hs z hz
  ·rw[List.mem_singleton.1 hz];exact hy
theorem qC {s:PSp}{z:LIn}(h:z∈s.marks):∃f:Nat,f<s.marks.length∧cH s f=z:=by
 obtain⟨f,hf⟩:=List.mem_iff_getElem?.1 h;exact⟨f,(List.getElem?_eq_some_iff.1 hf).1,nJ hf⟩
theorem Q4 {s x:PSp}{m y:LIn}(F:o8 N most m s)(hn:x.marks.Nodup)(hs:∀z∈x.marks,z∈s.marks)(hy:y∈s.marks)(f:Int){t:Nat}(ht:t<N.trans.length):∃x',cS N most y f x (t:Int)=some x'∧(∀z∈x'.marks,z∈s.marks)∧x'.marks.Nodup:=by
 obtain⟨g,hg,rfl⟩:=qC hy;unfold cS;by_cases h3:(bW N (cH s g) (t:Int)).2=3
 ·rw[if_pos h3];exact⟨x,rfl,hs,hn⟩
 ·rw[if_neg h3];obtain⟨j,hj,e,_⟩:=F.fire hg (t:=(t:Int)) ⟨by omega,by omega⟩ h3;rw[if_pos (by rw[e]),e];exact QZ F rfl hn hs (List.mem_of_getElem? (fP hj)) f _
theorem Q5 {s:PSp}{m y:LIn}(F:o8 N most m s)(hy:y∈s.marks)(f:Int):∀(l:List Nat) (x:PSp),(∀t∈l,t<N.trans.length)→x.marks.Nodup→(∀z∈x.marks,z∈s.marks)→∃x',hJ N most y f (l.map fun(t:Nat)=>(t:Int)) (some x)=some x'∧(∀z∈x'.marks,z∈s.marks)∧x'.marks.Nodup:=by
 intro l;induction l with
 | nil=>intro x _ hn hs;exact⟨x,rfl,hs,hn⟩
 | cons t l ih =>
  intro x hl hn hs;obtain⟨x1,e1,s1,n1⟩:=Q4 F hn hs hy f (hl t (by simp));obtain⟨x2,e2,s2,n2⟩:=ih x1 (fun u hu=>hl u (by simp[hu])) n1 s1;refine⟨x2, ?_,s2,n2⟩;show hJ N most y f (l.map fun(t:Nat)=>(t:Int)) (cS N most y f x (t:Int))=some x2
  rw[e1];exact e2
theorem VT {s:PSp}{m:LIn}(F:o8 N most m s):∀(g f:Nat) (x:PSp),x.marks.Nodup→(∀z∈x.marks,z∈s.marks)→∃x',goM N most g f x=some x'∧(∀z∈x'.marks,z∈s.marks):=by
 intro g;induction g with
 | zero=>intro f x hn hs;exact⟨x,rfl,hs⟩
 | succ g ih =>
  intro f x hn hs;unfold goM;by_cases hf:f<x.marks.length
  ·rw[if_pos hf];obtain⟨x1,e1,s1,n1⟩:=Q5 F (hs _ (List.mem_of_getElem? (fP hf))) (f:Int) (List.range N.trans.length) x (fun t ht=>List.mem_range.1 ht) hn hs;have e1':yX N most f x=some x1:=e1;rw[e1'];exact ih (f+1) x1 n1 s1
  ·rw[if_neg hf];exact⟨x,rfl,hs⟩
theorem EP {m y:LIn}{most:Int}{s:PSp}(h:bG N m most=(s,0))(hy:y∈s.marks):∃x,bG N y most=(x,0):=by
 have F:=nK h;have h2:(bG N m most).2=0:=by rw[h]
 obtain⟨h3,_⟩:=jG h2;obtain⟨x,hx,_⟩:=VT F most.toNat 0 ⟨[y],[]⟩ (by simp) (fun z hz=>by rw[List.mem_singleton.1 hz];exact hy);refine⟨x, ?_⟩;unfold bG;rw[if_pos ⟨h3.1,h3.2,F.ok.fits y hy⟩,hx]
theorem o8.run {m a b:LIn}{s:PSp}{l:LIn}(F:o8 N most m s)(h:EM N a l b)(ha:a∈s.marks):b∈s.marks:=by
 induction h with
 | nil m=>exact ha
 | @cons m m' m'' t l h1 _ ih =>
  obtain⟨g,hg,rfl⟩:=qC ha;have ht:0≤t∧t<(N.trans.length:Int):=(p8 (F.ok.fits _ (List.mem_of_getElem? (fP hg))) (by rw[h1])).2;obtain⟨j,hj,e,_⟩:=F.fire hg ht (by rw[h1];show ¬(0:Int)=3;decide);rw[h1]at e;injection e with e;exact ih (by rw[e];exact List.mem_of_getElem? (fP hj))
end
end Go.Proofs.YtfmnagcglhlicaaGreat
namespace Go.Proofs.YtfmnagcglhlicaaGreat
section
variable {N:aS}
abbrev eW (N:aS)(t:Int):aI:=N.trans.getD t.toNat default
theorem Jv {t:Int}(h:inT N t):N.trans[t.toNat]?=some (eW N t):=by
 have h1:t.toNat<N.trans.length:=by have:=h.1;have:=h.2;omega
 unfold eW;rw[List.getD_eq_getElem?_getD,List.getElem?_eq_getElem h1];rfl
theorem Ib (hN:cX N=true){t:Int}(h:inT N t):∀p,0≤atL (eW N t).pre p∧0≤atL (eW N t).post p:=fun p=>by
 have h1:=((aQ N).1 hN).2.2.2 _ (List.mem_of_getElem? (Jv h));have h2:=(fL _ _).1 h1;exact⟨(bV (dI h2.2.2.2.2.1) p).1,(bV (dI h2.2.2.2.2.2) p).1⟩
theorem EU (a b:LIn)(t:Int)(p:Nat):atL (jW a b t) p=atL a p+t*atL b p:=by
 by_cases hp:p<max a.length b.length
 ·exact iQ (yP hp)
 ·rw[jV (by rw[gB];omega),jV (xs:=a) (by omega),jV (xs:=b) (by omega)];simp
theorem Uz {a b:LIn}(hl:a.length=b.length)(h:∀p,atL a p=atL b p):a=b:=by
 apply List.ext_getElem hl
 intro i h1 h2;have:=h i;unfold atL at this;simpa [List.getD_eq_getElem?_getD,List.getElem?_eq_getElem h1,List.getElem?_eq_getElem h2] using this
structure Jw (N:aS)(c:a8)(k t:Int)(c':a8):Prop where
 ok:cI N c=true
 kind:1≤k∧k≤4
 tran:inT N t
 seen:k=1↔(eW N t).label=0
 cov:∀p,atL (nU k (eW N t)) p≤atL c.mark p
 mark:∀p,atL c'.mark p=atL c.mark p-atL (nU k (eW N t)) p+atL (lL k (eW N t)) p
 busy:c'.busy=c.busy.set t.toNat (atL c.busy t.toNat+pV k)
 ok':cI N c'=true
theorem tL {c:a8}{k t:Int}(h:(doL N c k t).2=0):Jw N c k t (doL N c k t).1:=by
 have h9:=AU h;unfold doL at h h9 ⊢;split at h
 ·rename_i hc
  rw[if_pos hc]at h9 ⊢;split at h
  ·rename_i hk
   rw[if_pos hk]at h9 ⊢;split at h
   ·rename_i ht
    rw[if_pos ht]at h9 ⊢;split at h
    ·rename_i hl
     rw[if_pos hl]at h9 ⊢;unfold sT at h h9 ⊢;split at h
     ·rename_i h1
      rw[if_pos h1]at h9 ⊢;split at h
      ·rename_i h2
       rw[if_pos h2]at h9 ⊢;refine⟨hc,hk,ht,hl,(eJ _ _).1 h1.1,fun p=>?_,rfl,h9⟩;show atL (jW (jW c.mark (nU k (eW N t)) (-1)) (lL k (eW N t)) 1) p=_
       simp only[EU];omega
      ·simp at h
     ·simp at h
    ·simp at h
   ·simp at h
  ·simp at h
 ·simp at h
theorem Jw.right {c c':a8}{k t:Int}(h:Jw N c k t c'):cX N=true∧c'.mark.length=c.mark.length:=by
 have h1:=(bB _ _).1 h.ok;have h2:=(bB _ _).1 h.ok';exact⟨h1.1,by omega⟩
theorem UC {m m':LIn}{t:Int}(h:bW N m t=(m',0)):dS N m=true∧dS N m'=true∧inT N t∧(∀p,atL (eW N t).pre p≤atL m p)∧∀p,atL m' p=atL m p-atL (eW N t).pre p+atL (eW N t).post p:=by
 have hf:dS N m=true:=by
  cases hf:dS N m
  ·rw[MO hf]at h;cases h
  ·rfl
 have h9:=p8 hf (t:=t) (by rw[h]);rw[h]at h9;refine⟨hf,h9.1,h9.2, ?_⟩;unfold bW at h;rw[if_pos hf,if_pos h9.2]at h;unfold kO at h;split at h
 ·rename_i h1
  split at h
  ·injection h with h _;subst h;refine⟨(eJ _ _).1 h1,fun p=>?_⟩;show atL (jW (jW m (eW N t).pre (-1)) (eW N t).post 1) p=_
   simp only[EU];omega
  ·cases h
 ·cases h
theorem Q6 {m:LIn}{t:Int}(hf:dS N m=true)(ht:inT N t)(hc:∀p,atL (eW N t).pre p≤atL m p):(bW N m t).2≠3:=by
 unfold bW;rw[if_pos hf,if_pos (show 0≤t∧t<(N.trans.length:Int)from ht)];unfold kO;rw[if_pos (show cA m (N.trans.getD t.toNat default).pre=true from(eJ _ _).2 hc)];split
 ·show ¬(0:Int)=3;decide
 ·show ¬(4:Int)=3;decide
def Ic (f:cQ→Int)(items:List cQ):Int:=(items.map f).sum
theorem Bo (f:cQ→Int)(l:List cQ)(x:cQ):Ic f (l++[x])=Ic f l+f x:=by
 unfold Ic;simp
theorem eD (f:cQ→Int)(l:List cQ)(x:cQ):Ic f (x::l)=f x+Ic f l:=by
 unfold Ic;simp
theorem nL (f:cQ→Int):∀(l:List cQ) (i:Nat) (x y:cQ),l[i]?=some y→Ic f (l.set i x)=Ic f l-f y+f x
 | [],i,x,y,h=>by simp at h
 | a::l,0,x,y,h=>by
  simp at h;subst h;rw[List.set_cons_zero,eD,eD];omega
 | a::l,i+1,x,y,h=>by
  simp at h;rw[List.set_cons_succ,eD,eD,nL f l i x y h];omega
theorem jH {f:cQ→Int}:∀{l:List cQ},(∀x∈l,0≤f x)→0≤Ic f l
 | [],_=>Int.le_refl _
 | a::l,h=>by
  have h1:=h a (by simp);have h2:=jH (l:=l) (fun x hx=>h x (by simp[hx]));rw[eD];omega
theorem Nk {f:cQ→Int}:∀{l:List cQ} {x:cQ},(∀x∈l,0≤f x)→x∈l→f x≤Ic f l
 | a::l,x,h,hx=>by
  have h1:=h a (by simp);have h3:=jH (l:=l) (fun x hx=>h x (by simp[hx]));rw[eD];rcases List.mem_cons.1 hx with rfl|hx
  ·omega
  ·have h2:=Nk (l:=l) (fun x hx=>h x (by simp[hx])) hx;omega
theorem Bq {f:cQ→Int}:∀{l:List cQ},(∀x∈l,f x=0)→Ic f l=0
 | [],_=>rfl
 | a::l,h=>by rw[eD,h a (by simp),Bq (fun x hx=>h x (by simp[hx]))];rfl
def Jx (N:aS)(p:Nat)(it:cQ):Int:=if it.open_=true then atL (eW N it.tran).pre p else 0
def EV (i:Nat)(it:cQ):Int:=if it.open_=true∧it.tran=(i:Int)then 1 else 0
structure wK (N:aS)(k:aX)(m:LIn):Prop where
 len:m.length=k.case_.mark.length
 at_:∀p,atL m p=atL k.case_.mark p+Ic (Jx N p) k.items
theorem o9 (hN:cX N=true){items:List cQ}(h:∀it∈items,inT N it.tran)(p:Nat):∀x∈items,0≤Jx N p x:=fun x hx=>by
 unfold Jx;split
 ·exact(Ib hN (h x hx) p).1
 ·omega
theorem uJ (T:aI):nU 2 T=T.pre∧lL 2 T=[]:=⟨rfl,rfl⟩
theorem kX (T:aI):nU 3 T=[]∧lL 3 T=T.post:=⟨rfl,rfl⟩
theorem xO (T:aI):nU 4 T=[]∧lL 4 T=T.pre:=⟨rfl,rfl⟩
theorem rE (T:aI):nU 1 T=T.pre∧lL 1 T=T.post:=⟨rfl,rfl⟩
theorem uK (p:Nat):atL [] p=0:=jV (by simp)
end
inductive VH (N:aS)(k:aX)(o:POp):aX→Int→Prop
 | no {e:Int}:e≠0→VH N k o k e
 | begin_ {c':a8}:o.kind=1→Jw N k.case_ 2 o.tran c'→VH N k o ⟨c',k.items++[⟨o.user,o.tran,true⟩]⟩ 0
 | give {it:cQ} {u:Int}:o.kind=4→k.items[o.item.toNat]?=some it→VH N k o ⟨k.case_,k.items.set o.item.toNat ⟨u,it.tran,it.open_⟩⟩ 0
 | change {it:cQ} {c':a8}:o.kind=2∨o.kind=3→0≤o.item→k.items[o.item.toNat]?=some it→it.open_=true→dF k o=it→Jw N k.case_ (nV o) it.tran c'→VH N k o ⟨c',k.items.set o.item.toNat ⟨it.user,it.tran,false⟩⟩ 0
 | skip {c':a8}:o.kind=5→Jw N k.case_ 1 o.tran c'→VH N k o ⟨c',k.items⟩ 0
theorem Br {N:aS}{roles:LLi}(k:aX)(o:POp):VH N k o (cD N roles k o).1 (cD N roles k o).2.2:=by
 unfold cD;split
 ·rename_i h1
  unfold iO;split
  ·split
   ·split
    ·rename_i hd
     exact .begin_ h1 (tL hd)
    ·rename_i hd
     exact .no hd
   ·exact .no (by show ¬(6:Int)=0;decide)
  ·exact .no (by show ¬(3:Int)=0;decide)
 ·split
  ·rename_i h2
   unfold dW;split
   ·rename_i hi
    obtain⟨i1,i2,i3,i4,i5⟩:=rB hi;split
    ·rename_i h4
     split
     ·exact .give h4 i5
     ·exact .no (by show ¬(6:Int)=0;decide)
    ·rename_i h4
     split
     ·rename_i hd
      exact .change (by omega) i1 i5 i3 rfl (tL hd)
     ·rename_i hd
      exact .no hd
   ·rename_i hi
    exact .no hi
  ·split
   ·rename_i h5
    unfold yU;split
    ·rename_i hd
     exact .skip h5 (tL hd)
    ·rename_i hd
     exact .no hd
   ·exact .no (by show ¬(5:Int)=0;decide)
def xP (N:aS)(k:aX)(o:POp)(e:Int):LIn:=if e=0∧o.kind=2 then [(eW N (dF k o).tran).label]else []
inductive Mv (N:aS)(s:PSp)(q:Nat):Nat→LIn→Prop
 | stay:Mv N s q q []
 | quiet {j:Nat} {t:Int}:(⟨(q:Int),t,(j:Int)⟩:bO)∈s.arcs→(eW N t).label=0→Mv N s q j []
 | heard {j:Nat} {t:Int}:(⟨(q:Int),t,(j:Int)⟩:bO)∈s.arcs→(eW N t).label≠0→Mv N s q j [(eW N t).label]
theorem mJ {N:aS}{p:Nat}{it:cQ}(h:it.open_=true):Jx N p it=atL (eW N it.tran).pre p:=by unfold Jx;rw[if_pos h]
theorem Bv {N:aS}{p:Nat}{u t:Int}:Jx N p ⟨u,t,false⟩=0:=by unfold Jx;rw[if_neg (by simp)]
section
variable {N:aS} {most:Nat} {m0:LIn} {s:PSp}
theorem uL {q:Nat}{t:Int}(F:o8 N most m0 s)(hq:q<s.marks.length)(ht:inT N t)(hc:∀p,atL (eW N t).pre p≤atL (cH s q) p) :
  ∃j:Nat,j<s.marks.length∧(⟨(q:Int),t,(j:Int)⟩:bO)∈s.arcs∧(cH s j).length=(cH s q).length∧(∀p,atL (cH s j) p≤1000000)∧∀p,atL (cH s j) p=atL (cH s q) p-atL (eW N t).pre p+atL (eW N t).post p:=by
 have hf:=Bn F.ok hq;obtain⟨j,hj,e,ha⟩:=F.fire hq ht (Q6 hf ht hc);obtain⟨_,h2,_,_,h5⟩:=UC e;have l1:=(bD _ _).1 hf;have l2:=(bD _ _).1 h2;exact⟨j,hj,ha,by omega,fun p=>(bV l2.2.2 p).2,h5⟩
theorem Nl {roles:LLi}{k:aX}{o:POp}{q:Nat}(F:o8 N most m0 s)(D:eK N k)(hq:q<s.marks.length)(A:wK N k (cH s q)) :
  ∃j:Nat,j<s.marks.length∧wK N (cD N roles k o).1 (cH s j)∧Mv N s q j (xP N k o (cD N roles k o).2.2):=by
 have hN:cX N=true:=((bB _ _).1 D.case_).1;have hw:=Br (N:=N) (roles:=roles) k o;generalize hk':(cD N roles k o).1=k' at hw;generalize he:(cD N roles k o).2.2=e at hw;have quiet:¬(e=0∧o.kind=2)→xP N k o e=[]:=fun h=>by unfold xP;rw[if_neg h]
 cases hw with
 | no h=>exact⟨q,hq,A,by rw[quiet (fun x=>h x.1)];exact .stay⟩
 | @begin_ c' h1 d =>
  refine⟨q,hq,⟨?_,fun p=>?_⟩,by rw[quiet (fun x=>by omega)];exact .stay⟩
  ·have:=d.right.2;have:=A.len;simp only;omega
  ·have h2:=A.at_ p;have h3:=d.mark p;rw[(uJ _).1,(uJ _).2,uK]at h3;simp only[Bo];rw[mJ (it:=⟨o.user,o.tran,true⟩) rfl];simp only;omega
 | @give it u h1 h2 =>
  refine⟨q,hq,⟨A.len,fun p=>?_⟩,by rw[quiet (fun x=>by omega)];exact .stay⟩;have h3:=A.at_ p;simp only;rw[nL _ _ _ _ _ h2];have:Jx N p ⟨u,it.tran,it.open_⟩=Jx N p it:=rfl;omega
 | @change it c' h1 h2 h3 h4 h5 d =>
  have hit:=D.trans it (List.mem_of_getElem? h3);have hge:=fun p=>Nk (o9 hN D.trans p) (List.mem_of_getElem? h3)
  by_cases hk:o.kind=3
  ·have hkd:nV o=4:=by unfold nV;rw[if_pos hk]
   rw[hkd]at d;refine⟨q,hq,⟨?_,fun p=>?_⟩,by rw[quiet (fun x=>by omega)];exact .stay⟩
   ·have:=d.right.2;have:=A.len;simp only;omega
   ·have h6:=A.at_ p;have h7:=d.mark p;rw[(xO _).1,(xO _).2,uK]at h7;simp only;rw[nL _ _ _ _ _ h3,Bv,mJ h4];omega
  ·have hkd:nV o=3:=by unfold nV;rw[if_neg hk]
   rw[hkd]at d;obtain⟨j,hj,ha,hl,_,hm⟩:=uL F hq hit (fun p=>by
    have h6:=A.at_ p;have h7:=hge p;rw[mJ h4]at h7;have h8:=bV ((bB _ _).1 D.case_).2.2.1 p;omega)
   refine⟨j,hj,⟨?_,fun p=>?_⟩, ?_⟩
   ·have:=d.right.2;have:=A.len;simp only;omega
   ·have h6:=A.at_ p;have h7:=d.mark p;rw[(kX _).1,(kX _).2,uK]at h7;simp only;rw[nL _ _ _ _ _ h3,Bv,mJ h4,hm p];omega
   ·unfold xP;rw[if_pos ⟨rfl,by omega⟩,h5];exact .heard ha (fun h=>by have:=d.seen.2 h;omega)
 | @skip c' h1 d =>
  obtain⟨j,hj,ha,hl,_,hm⟩:=uL F hq d.tran (fun p=>by
   have h6:=A.at_ p;have h7:=jH (o9 hN D.trans p);have h8:=d.cov p;rw[(rE _).1]at h8;omega)
  refine⟨j,hj,⟨?_,fun p=>?_⟩,by rw[quiet (fun x=>by omega)];exact .quiet ha (d.seen.1 rfl)⟩
  ·have:=d.right.2;have:=A.len;simp only;omega
  ·have h6:=A.at_ p;have h7:=d.mark p;rw[(rE _).1,(rE _).2]at h7;rw[hm p];simp only;omega
def Ua (N:aS)(roles:LLi):aX→List POp→LIn
 | _,[]=>[]
 | k,o::r=>xP N k o (cD N roles k o).2.2++Ua N roles (cD N roles k o).1 r
inductive Mvs (N:aS)(s:PSp)(q:Nat):Nat→LIn→Prop
 | nil:Mvs N s q q []
 | snoc {j i:Nat} {w v:LIn}:Mvs N s q j w→Mv N s j i v→Mvs N s q i (w++v)
theorem Ie {roles:LLi}(F:o8 N most m0 s):∀(l:List POp) (k:aX) (q0 q:Nat) (w:LIn),eK N k→q<s.marks.length→wK N k (cH s q)→Mvs N s q0 q w →
  ∃j:Nat,j<s.marks.length∧wK N (jS N roles k l).1 (cH s j)∧Mvs N s q0 j (w++Ua N roles k l)
 | [],k,q0,q,w,D,hq,A,M=>⟨q,hq,A,by show Mvs N s q0 q (w++[]);rw[List.append_nil];exact M⟩
 | o::l,k,q0,q,w,D,hq,A,M=>by
  obtain⟨j,hj,A1,M1⟩:=Nl (roles:=roles) (o:=o) F D hq A;obtain⟨i,hi,A2,M2⟩:=Ie F l (cD N roles k o).1 q0 j (w++xP N k o (cD N roles k o).2.2) (yV D) hj A1 (.snoc M M1);refine⟨i,hi,A2, ?_⟩;rw[List.append_assoc]at M2;exact M2
theorem wK.start (i:Int):wK N ⟨(aZ N i).1,[]⟩ (aZ N i).1.mark:=⟨rfl,fun _=>(Int.add_zero _).symm⟩
theorem wK.shut {k:aX}{m:LIn}(A:wK N k m)(h:∀it∈k.items,it.open_=false):m=k.case_.mark :=
 Uz A.len (fun p=>by
  have h1:=A.at_ p;rw[Bq (fun x hx=>by unfold Jx;rw[if_neg (by rw[h x hx];simp)])]at h1;omega)
end
end Go.Proofs.YtfmnagcglhlicaaGreat
