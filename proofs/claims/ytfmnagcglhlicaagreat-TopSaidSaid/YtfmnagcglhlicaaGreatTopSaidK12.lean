/- Texts melted into one: The plain law of what leads to what: closed by going over all triples (the program), or by going on from what was found (the reference). No program in sight. | The plain law of groups in order: of two groups exactly one leads to the other; what stands in order is told by that; -/
import Derived.Test.YtfmnagcglhlicaaGreatTopSaidK11
import Derived.Lib.SlicesCompact
namespace Go.Proofs.YtfmnagcglhlicaaGreat
inductive Via (R:Int→Int→Prop)(K:List Int):Int→Int→Prop
 | one {a b:Int} (h:R a b):Via R K a b
 | step {a c b:Int} (h:Via R K a c) (hc:c∈K) (hr:R c b):Via R K a b
section
variable {R:Int→Int→Prop} {K:List Int}
theorem Via.trans {a c b:Int}(h:Via R K a c)(hc:c∈K)(g:Via R K c b):Via R K a b:=by
 induction g with
 | one hr=>exact .step h hc hr
 | step _ hm hr ih=>exact .step ih hm hr
theorem Via.more {L:List Int}(hs:∀x∈K,x∈L){a b:Int}(h:Via R K a b):Via R L a b:=by
 induction h with
 | one hr=>exact .one hr
 | step _ hm hr ih=>exact .step ih (hs _ hm) hr
theorem Via.split {k a b:Int}(h:Via R (K++[k]) a b):Via R K a b∨(Via R K a k∧Via R K k b):=by
 induction h with
 | one hr=>exact .inl (.one hr)
 | @step c b h hm hr ih =>
  rcases List.mem_append.1 hm with hm|hm
  ·rcases ih with ih|⟨i1,i2⟩
   ·exact .inl (.step ih hm hr)
   ·exact .inr ⟨i1,.step i2 hm hr⟩
  ·have e:=List.mem_singleton.1 hm
   subst e
   rcases ih with ih|⟨i1,_⟩
   ·exact .inr ⟨ih,.one hr⟩
   ·exact .inr ⟨i1,.one hr⟩
end
def Ziy (S:Int→Int→Bool)(t:Int×Int×Int):Int→Int→Bool:=if S t.2.1 t.1=true∧S t.1 t.2.2=true then fun a b=>(decide (a=t.2.1∧b=t.2.2))||S a b else S
section
variable {R:Int→Int→Prop} {ls K:List Int} {k:Int}
structure Zng (R:Int→Int→Prop)(K:List Int)(k:Int)(S:Int→Int→Bool):Prop where
 snd:∀a b,S a b=true→Via R (K++[k]) a b
 old:∀a b,Via R K a b→S a b=true
theorem Zng.start {S:Int→Int→Bool}(h:∀a b,S a b=true↔Via R K a b):Zng R K k S:=⟨fun a b hs=>((h a b).1 hs).more (fun x hx=>by simp[hx]),fun a b hv=>(h a b).2 hv⟩
theorem Zng.next {S:Int→Int→Bool}(h:Zng R K k S)(a b:Int):Zng R K k (Ziy S (k,a,b))∧(∀x y,S x y=true→Ziy S (k,a,b) x y=true)∧(Via R K a k→Via R K k b→Ziy S (k,a,b) a b=true):=by
 have grow:∀x y,S x y=true→Ziy S (k,a,b) x y=true:=fun x y hs=>by
  unfold Ziy
  split
  ·simp[hs]
  ·exact hs
 refine⟨⟨fun x y hs=>?_,fun x y hv=>grow x y (h.old x y hv)⟩,grow,fun h1 h2=>?_⟩
 ·unfold Ziy at hs
  split at hs
  ·rename_i hc
   simp only[Bool.or_eq_true,decide_eq_true_eq]at hs
   rcases hs with⟨rfl,rfl⟩|hs
   ·exact(h.snd _ _ hc.1).trans (by simp) (h.snd _ _ hc.2)
   ·exact h.snd x y hs
  ·exact h.snd x y hs
 ·unfold Ziy
  rw[if_pos ⟨h.old _ _ h1,h.old _ _ h2⟩]
  simp
theorem Zng.all:∀(l:List (Int×Int)) {S:Int→Int→Bool},Zng R K k S→Zng R K k (l.foldl (fun S p=>Ziy S (k,p.1,p.2)) S)∧(∀x y,S x y=true→l.foldl (fun S p=>Ziy S (k,p.1,p.2)) S x y=true)∧∀p∈l,Via R K p.1 k→Via R K k p.2→l.foldl (fun S p=>Ziy S (k,p.1,p.2)) S p.1 p.2=true
 | [],S,h=>⟨h,fun x y hs=>hs,fun p hp=>by simp at hp⟩
 | q::l,S,h=>by
  obtain⟨n1,n2,n3⟩:=h.next q.1 q.2
  obtain⟨a1,a2,a3⟩:=Zng.all l n1
  rw[List.foldl_cons]
  refine⟨a1,fun x y hs=>a2 x y (n2 x y hs),fun p hp h1 h2=>?_⟩
  rcases List.mem_cons.1 hp with rfl|hp
  ·exact a2 _ _ (n3 h1 h2)
  ·exact a3 p hp h1 h2
theorem Zng.phase {S:Int→Int→Bool}(hR:∀a b,R a b→a∈ls∧b∈ls)(h:∀a b,S a b=true↔Via R K a b)(a b:Int):(ZoH ls).foldl (fun S p=>Ziy S (k,p.1,p.2)) S a b=true↔Via R (K++[k]) a b:=by
 obtain⟨a1,a2,a3⟩:=Zng.all (ZoH ls) (Zng.start (k:=k) h)
 refine⟨a1.snd a b,fun hv=>?_⟩
 rcases hv.split with h1|⟨h1,h2⟩
 ·exact a1.old a b h1
 ·have la:∀{x y:Int},Via R K x y→x∈ls∧y∈ls:=fun{x y} hv=>by
   induction hv with
   | one hr=>exact hR _ _ hr
   | step _ _ hr ih=>exact⟨ih.1,(hR _ _ hr).2⟩
  exact a3 (a,b) (ZfB.2 ⟨(la h1).1,(la h2).2⟩) h1 h2
def ZbU (ls:List Int)(S:Int→Int→Bool)(K:List Int):Int→Int→Bool:=K.foldl (fun S k=>(ZoH ls).foldl (fun S p=>Ziy S (k,p.1,p.2)) S) S
theorem ZoK {S:Int→Int→Bool}(hR:∀a b,R a b→a∈ls∧b∈ls)(h:∀a b,S a b=true↔R a b):∀K:List Int,∀a b,ZbU ls S K a b=true↔Via R K a b:=by
 have h0:∀a b,S a b=true↔Via R [] a b:=fun a b=>(h a b).trans ⟨fun hr=>.one hr,fun hv=>by
  cases hv with
  | one hr=>exact hr
  | step _ hm _=>simp at hm⟩
 have key:∀(K' K:List Int) (S:Int→Int→Bool),(∀a b,S a b=true↔Via R K a b)→∀a b,ZbU ls S K' a b=true↔Via R (K++K') a b:=fun K'=>by
  induction K' with
  | nil=>intro K S hs a b;simpa [ZbU] using hs a b
  | cons k K' ih =>
   intro K S hs a b
   have:=ih (K++[k]) _ (Zng.phase (k:=k) hR hs) a b
   simpa [ZbU] using this
 intro K a b
 simpa using key K [] S h0 a b
end
section
variable {R:Int→Int→Prop} {ls:List Int} {a:Int} {out todo:List Int}
end
end Go.Proofs.YtfmnagcglhlicaaGreat
namespace Go.Proofs.YtfmnagcglhlicaaGreat
def hdG (g:List Int):Int:=g.headD 0
section
variable {lk:Int→Int→Bool} {ls:List Int} {G:List (List Int)}
theorem Zf0 {g:List Int}(h:g≠[]):hdG g∈g:=by
 cases g with
 | nil=>exact absurd rfl h
 | cons a g=>simp[hdG]
theorem Zhl.same (h:Zhl lk ls G){g g':List Int}(hg:g∈G)(hg':g'∈G){y:Int}(h1:y∈g)(h2:y∈g'):g=g' :=
 Zei (h.asc g hg) (h.asc g' hg') (fun z=>⟨fun hz=>(h.cls g' hg' y h2 z (h.sub g hg z hz)).2 ((h.cls g hg y h1 z (h.sub g hg z hz)).1 hz),fun hz=>(h.cls g hg y h1 z (h.sub g' hg' z hz)).2 ((h.cls g' hg' y h2 z (h.sub g' hg' z hz)).1 hz)⟩)
theorem Zhl.nodup (h:Zhl lk ls G):G.Nodup:=by
 refine h.ord.imp (fun{a b} hab e=>?_)
 subst e
 obtain⟨x,y,e1,e2,hlt⟩:=hab
 rw[e1]at e2
 injection e2 with e2
 omega
end
section
variable {lds:Int→Int→Bool} {ls:List Int} {G:List (List Int)}
def ZbE (lds:Int→Int→Bool)(a b:Int):Bool:=lds a b==lds b a
theorem ZqH (a b:Int):lkB (ZbE lds) a b=true↔lds a b=lds b a:=by
 unfold lkB ZbE
 rw[Bool.or_eq_true,beq_iff_eq,beq_iff_eq]
 exact⟨fun h=>h.elim id Eq.symm,.inl⟩
theorem Zs6 (h:Zhl (ZbE lds) ls G){g g':List Int}(hg:g∈G)(hg':g'∈G)(hne:g≠g'){x y:Int}(hx:x∈g)(hy:y∈g'):lds x y=!lds y x:=by
 have:lds x y≠lds y x:=fun e=>hne (h.same hg hg' ((h.cls g hg x hx y (h.sub g' hg' y hy)).2 (.step (.refl (h.sub g hg x hx)) (h.sub g' hg' y hy) ((ZqH x y).2 e))) hy)
 cases e1:lds x y <;> cases e2:lds y x <;> simp_all
def ltG (lds:Int→Int→Bool)(g g':List Int):Prop:=lds (hdG g) (hdG g')=true
theorem ZoL (h:Zhl (ZbE lds) ls G){g g':List Int}(hg:g∈G)(hg':g'∈G)(hne:g≠g'):ltG lds g g'↔¬ltG lds g' g:=by
 unfold ltG
 rw[Zs6 h hg hg' hne (Zf0 (h.ne g hg)) (Zf0 (h.ne g' hg'))]
 cases lds (hdG g') (hdG g) <;> simp
theorem ZoM (ht:∀a b c,a∈ls→b∈ls→c∈ls→lds a b=true→lds b c=true→lds a c=true)(h:Zhl (ZbE lds) ls G){a b c:List Int}(ha:a∈G)(hb:b∈G)(hc:c∈G)(h1:ltG lds a b)(h2:ltG lds b c):ltG lds a c :=
 ht _ _ _ (h.sub a ha _ (Zf0 (h.ne a ha))) (h.sub b hb _ (Zf0 (h.ne b hb))) (h.sub c hc _ (Zf0 (h.ne c hc))) h1 h2
theorem Ziz (h:Zhl (ZbE lds) ls G):∀{M N:List (List Int)},(∀x∈M,x∈G)→M.Nodup→N.Nodup→M.Pairwise (ltG lds)→N.Pairwise (ltG lds)→(∀x,x∈M↔x∈N)→M=N
 | [],[],_,_,_,_,_,_=>rfl
 | [],y::N,_,_,_,_,_,hm=>by have:=(hm y).2 (by simp);simp at this
 | x::M,[],_,_,_,_,_,hm=>by have:=(hm x).1 (by simp);simp at this
 | x::M,y::N,hs,dM,dN,hM,hN,hm=>by
  obtain⟨m1,m2⟩:=List.pairwise_cons.1 hM
  obtain⟨n1,n2⟩:=List.pairwise_cons.1 hN
  obtain⟨d1,d2⟩:=List.nodup_cons.1 dM
  obtain⟨d3,d4⟩:=List.nodup_cons.1 dN
  have e:x=y:=by
   refine Classical.byContradiction (fun hne=>?_)
   have hx:x∈N:=(List.mem_cons.1 ((hm x).1 (by simp))).resolve_left hne
   have hy:y∈M:=(List.mem_cons.1 ((hm y).2 (by simp))).resolve_left (fun e=>hne e.symm)
   exact(ZoL h (hs x (by simp)) (hs y (by simp[hy])) hne).1 (m1 y hy) (n1 x hx)
  subst e
  rw[Ziz h (fun z hz=>hs z (by simp[hz])) d2 d4 m2 n2 (fun z=>⟨fun hz=>((List.mem_cons.1 ((hm z).1 (by simp[hz])))).resolve_left (fun e=>d1 (e▸hz)),fun hz=>((List.mem_cons.1 ((hm z).2 (by simp[hz])))).resolve_left (fun e=>d3 (e▸hz))⟩)]
end
end Go.Proofs.YtfmnagcglhlicaaGreat
namespace Go.Proofs.YtfmnagcglhlicaaGreat
theorem ZgZ:∀{xs ys:List Int},xs.Pairwise (·< ·)→ys.Pairwise (·< ·)→(∀x,x∈xs↔x∈ys)→xs=ys
 | [],[],_,_,_=>rfl
 | [],y::ys,_,_,h=>by have:=(h y).2 (by simp);simp at this
 | x::xs,[],_,_,h=>by have:=(h x).1 (by simp);simp at this
 | x::xs,y::ys,hx,hy,h=>by
  obtain⟨hx1,hx2⟩:=List.pairwise_cons.1 hx
  obtain⟨hy1,hy2⟩:=List.pairwise_cons.1 hy
  have e:x=y:=by
   rcases List.mem_cons.1 ((h x).1 (by simp))with e|e
   ·exact e
   ·rcases List.mem_cons.1 ((h y).2 (by simp))with e'|e'
    ·exact e'.symm
    ·have a:=hy1 x e
     have b:=hx1 y e'
     omega
  subst e
  rw[ZgZ hx2 hy2 (fun z=>?_)]
  constructor
  ·intro hz
   rcases List.mem_cons.1 ((h z).1 (by simp[hz]))with e|e
   ·have:=hx1 z hz;omega
   ·exact e
  ·intro hz
   rcases List.mem_cons.1 ((h z).2 (by simp[hz]))with e|e
   ·have:=hy1 z hz;omega
   ·exact e
end Go.Proofs.YtfmnagcglhlicaaGreat
namespace Go.Proofs.YtfmnagcglhlicaaGreat
def Zsf (a:Int):Bool:=decide (a<1)||decide (26<a)
def Zf1 (t:List Int):Bool:=decide (60<t.length)||t.any Zsf
def Za6 (log:List (List Int)):Int:=if 60<log.length then 4 else if log.any Zf1=true then 2 else 0
theorem Zln {log:List (List Int)}(h:60<log.length):Za6 log=4:=by rw[Za6,if_pos h]
theorem Znh {log:List (List Int)}(h:¬60<log.length){t:List Int}(ht:t∈log)(hb:Zf1 t=true):Za6 log=2:=by
 rw[Za6,if_neg h,if_pos (List.any_eq_true.2 ⟨t,ht,hb⟩)]
theorem ZoN {log:List (List Int)}(h:¬60<log.length)(hb:∀(j:Nat) (t:List Int),j<log.length→log[j]?=some t→Zf1 t=false):Za6 log=0:=by
 rw[Za6,if_neg h,if_neg]
 rw[Bool.not_eq_true,List.any_eq_false]
 intro t ht
 obtain⟨j,hj,rfl⟩:=List.getElem_of_mem ht
 rw[hb j _ hj (List.getElem?_eq_getElem hj)]
 simp
theorem Zhp {log:List (List Int)}(h:Za6 log=0):log.length≤60∧∀t∈log,t.length≤60∧∀x∈t,1≤x∧x≤26:=by
 unfold Za6 at h
 split at h
 ·omega
 ·split at h
  ·omega
  ·rename_i h1 h2
   refine⟨by omega,fun t ht=>?_⟩
   rw[Bool.not_eq_true,List.any_eq_false]at h2
   have:=h2 t ht
   unfold Zf1 at this
   rw[Bool.not_eq_true,Bool.or_eq_false_iff,decide_eq_false_iff_not,List.any_eq_false]at this
   refine⟨by omega,fun x hx=>?_⟩
   have:=this.2 x hx
   unfold Zsf at this
   simp only[Bool.or_eq_true,decide_eq_true_eq,not_or]at this
   omega
def inS (labels:List Int)(a:Int):Bool:=labels.any fun y=>a==y
def ZbO (log:List (List Int))(labels:List Int):List (List Int):=log.map fun t=>t.filter fun a=>inS labels a
theorem Zni (log:List (List Int))(labels t:List Int):ZbO (log++[t]) labels=ZbO log labels++[t.filter fun a=>inS labels a]:=by simp[ZbO]
theorem Zhq {α:Type}{R:α→α→Prop}(asy:∀a b,R a b→R b a→False):∀{xs ys:List α},xs.Pairwise R→ys.Pairwise R→(∀x,x∈xs↔x∈ys)→xs=ys
 | [],[],_,_,_=>rfl
 | [],y::ys,_,_,h=>by have:=(h y).2 (by simp);simp at this
 | x::xs,[],_,_,h=>by have:=(h x).1 (by simp);simp at this
 | x::xs,y::ys,hx,hy,h=>by
  obtain⟨hx1,hx2⟩:=List.pairwise_cons.1 hx
  obtain⟨hy1,hy2⟩:=List.pairwise_cons.1 hy
  have e:x=y:=by
   rcases List.mem_cons.1 ((h x).1 (by simp))with e|e
   ·exact e
   ·rcases List.mem_cons.1 ((h y).2 (by simp))with e'|e'
    ·exact e'.symm
    ·exact(asy _ _ (hy1 x e) (hx1 y e')).elim
  subst e
  rw[Zhq asy hx2 hy2 (fun z=>?_)]
  constructor
  ·intro hz
   rcases List.mem_cons.1 ((h z).1 (by simp[hz]))with e|e
   ·subst e
    exact(asy _ _ (hx1 z hz) (hx1 z hz)).elim
   ·exact e
  ·intro hz
   rcases List.mem_cons.1 ((h z).2 (by simp[hz]))with e|e
   ·subst e
    exact(asy _ _ (hy1 z hz) (hy1 z hz)).elim
   ·exact e
def Zd5 (p q:Int×Int):Prop:=p.1<q.1∨(p.1=q.1∧p.2<q.2)
theorem Zj9 (p q:Int×Int)(h:Zd5 p q)(g:Zd5 q p):False:=by unfold Zd5 at h g;omega
def ZsV (log:List (List Int))(x:Int):Prop:=∃t∈log,x∈t
def ZiA (log:List (List Int))(x:Int):Prop:=∃t∈log,t.head?=some x
def Znj (log:List (List Int))(x:Int):Prop:=∃t∈log,t.getLast?=some x
def ZsW (log:List (List Int))(p:Int×Int):Prop:=∃t∈log,∃k:Nat,t[k]?=some p.1∧t[k+1]?=some p.2
structure Zas where
 labels:List Int
 first:List Int
 last:List Int
 behind:List (Int×Int)
def Zmw:Zas:=⟨[],[],[],[]⟩
def Zbc (log:List (List Int))(p:Zas):Prop :=
 (p.labels.Pairwise (·< ·)∧∀x,x∈p.labels↔ZsV log x)∧(p.first.Pairwise (·< ·)∧∀x,x∈p.first↔ZiA log x)∧(p.last.Pairwise (·< ·)∧∀x,x∈p.last↔Znj log x)∧(p.behind.Pairwise Zd5∧∀x,x∈p.behind↔ZsW log x)
theorem Zbc.uniq {log:List (List Int)}{p q:Zas}(h:Zbc log p)(g:Zbc log q):p=q:=by
 obtain⟨⟨h1,h2⟩,⟨h3,h4⟩,⟨h5,h6⟩,⟨h7,h8⟩⟩:=h
 obtain⟨⟨g1,g2⟩,⟨g3,g4⟩,⟨g5,g6⟩,⟨g7,g8⟩⟩:=g
 have e1:p.labels=q.labels:=ZgZ h1 g1 (fun x=>(h2 x).trans (g2 x).symm)
 have e2:p.first=q.first:=ZgZ h3 g3 (fun x=>(h4 x).trans (g4 x).symm)
 have e3:p.last=q.last:=ZgZ h5 g5 (fun x=>(h6 x).trans (g6 x).symm)
 have e4:p.behind=q.behind:=Zhq Zj9 h7 g7 (fun x=>(h8 x).trans (g8 x).symm)
 cases p;cases q
 simp only at e1 e2 e3 e4
 subst e1 e2 e3 e4
 rfl
def OfP (log:List (List Int))(p:Zas)(e:Int):Prop:=e=Za6 log∧if Za6 log=0 then Zbc log p else p=Zmw
end Go.Proofs.YtfmnagcglhlicaaGreat
