/- Texts melted into one: The plain law of groups of labels: linked ones together, by their least ones; the program's way. No program in sight. | The plain law of groups of labels: the reference's way, by the least label that each is linked with. No program in sight. -/
import Derived.Test.YtfmnagcglhlicaaGreatTopSaidK01
namespace Go.Proofs.YtfmnagcglhlicaaGreat
def lkB (lk:Int→Int→Bool)(a b:Int):Bool:=lk a b||lk b a
inductive Zb5 (lk:Int→Int→Bool)(ls:List Int):Int→Int→Prop
 | refl {a:Int} (h:a∈ls):Zb5 lk ls a a
 | step {a b c:Int} (h:Zb5 lk ls a b) (hc:c∈ls) (hl:lkB lk b c=true):Zb5 lk ls a c
section
variable {lk:Int→Int→Bool} {ls:List Int}
theorem Zmv (a b:Int):lkB lk a b=lkB lk b a:=by unfold lkB;exact Bool.or_comm _ _
theorem Zb5.right {a b:Int}(h:Zb5 lk ls a b):b∈ls:=by
 cases h with
 | refl h=>exact h
 | step _ hc _=>exact hc
theorem Zb5.trans {a b c:Int}(h:Zb5 lk ls a b)(g:Zb5 lk ls b c):Zb5 lk ls a c:=by
 induction g with
 | refl _=>exact h
 | step _ hc hl ih=>exact .step ih hc hl
theorem Zb5.symm {a b:Int}(h:Zb5 lk ls a b):Zb5 lk ls b a:=by
 induction h with
 | refl h=>exact .refl h
 | step h hc hl ih=>exact Zb5.trans (.step (.refl hc) h.right (by rw[Zmv];exact hl)) ih
structure Zhl (lk:Int→Int→Bool)(ls:List Int)(G:List (List Int)):Prop where
 asc:∀g∈G,g.Pairwise (·< ·)
 ne:∀g∈G,g≠[]
 sub:∀g∈G,∀x∈g,x∈ls
 all:∀x∈ls,∃g∈G,x∈g
 cls:∀g∈G,∀x∈g,∀y∈ls,y∈g↔Zb5 lk ls x y
 ord:G.Pairwise (fun a b=>∃x y,a.head?=some x∧b.head?=some y∧x<y)
theorem Zei:∀{xs ys:List Int},xs.Pairwise (·< ·)→ys.Pairwise (·< ·)→(∀x,x∈xs↔x∈ys)→xs=ys
 | [],[],_,_,_=>rfl
 | [],y::ys,_,_,h=>by have:=(h y).2 (by simp);simp at this
 | x::xs,[],_,_,h=>by have:=(h x).1 (by simp);simp at this
 | x::xs,y::ys,hx,hy,h=>by
  obtain⟨hx1,hx2⟩:=List.pairwise_cons.1 hx
  obtain⟨hy1,hy2⟩:=List.pairwise_cons.1 hy
  have e:x=y:=by
   rcases List.mem_cons.1 ((h x).1 (by simp))with e|e
   ·exact e
   ·rcases List.mem_cons.1 ((h y).2 (by simp))with e'|e'
    ·exact e'.symm
    ·have:=hy1 x e;have:=hx1 y e';omega
  subst e
  rw[Zei hx2 hy2 (fun z=>⟨fun hz=>by
   rcases List.mem_cons.1 ((h z).1 (by simp[hz]))with e|e
   ·have:=hx1 z hz;omega
   ·exact e,fun hz=>by
   rcases List.mem_cons.1 ((h z).2 (by simp[hz]))with e|e
   ·have:=hy1 z hz;omega
   ·exact e⟩)]
theorem Zj8:∀{xs ys:List (List Int)},xs.Pairwise (fun a b=>∃x y,a.head?=some x∧b.head?=some y∧x<y)→ys.Pairwise (fun a b=>∃x y,a.head?=some x∧b.head?=some y∧x<y)→(∀x,x∈xs↔x∈ys)→xs=ys
 | [],[],_,_,_=>rfl
 | [],y::ys,_,_,h=>by have:=(h y).2 (by simp);simp at this
 | x::xs,[],_,_,h=>by have:=(h x).1 (by simp);simp at this
 | x::xs,y::ys,hx,hy,h=>by
  obtain⟨hx1,hx2⟩:=List.pairwise_cons.1 hx
  obtain⟨hy1,hy2⟩:=List.pairwise_cons.1 hy
  have no:∀{a b:List Int},(∃x y,a.head?=some x∧b.head?=some y∧x<y)→(∃x y,b.head?=some x∧a.head?=some y∧x<y)→False:=fun{a b} h g=>by
   obtain⟨x1,y1,e1,e2,h1⟩:=h
   obtain⟨x2,y2,e3,e4,h2⟩:=g
   rw[e1]at e4
   rw[e2]at e3
   injection e4 with e4
   injection e3 with e3
   omega
  have e:x=y:=by
   rcases List.mem_cons.1 ((h x).1 (by simp))with e|e
   ·exact e
   ·rcases List.mem_cons.1 ((h y).2 (by simp))with e'|e'
    ·exact e'.symm
    ·exact(no (hy1 x e) (hx1 y e')).elim
  subst e
  rw[Zj8 hx2 hy2 (fun z=>⟨fun hz=>by
   rcases List.mem_cons.1 ((h z).1 (by simp[hz]))with e|e
   ·subst e;exact(no (hx1 _ hz) (hx1 _ hz)).elim
   ·exact e,fun hz=>by
   rcases List.mem_cons.1 ((h z).2 (by simp[hz]))with e|e
   ·subst e;exact(no (hy1 _ hz) (hy1 _ hz)).elim
   ·exact e⟩)]
theorem Zhl.incl {G H:List (List Int)}(h:Zhl lk ls G)(k:Zhl lk ls H):∀g,g∈G→g∈H:=fun g hg=>by
 obtain⟨x,hx⟩:=List.exists_mem_of_ne_nil g (h.ne g hg)
 have hxl:=h.sub g hg x hx
 obtain⟨g',hg',hx'⟩:=k.all x hxl
 have:g=g':=Zei (h.asc g hg) (k.asc g' hg') (fun y=>⟨fun hy=>(k.cls g' hg' x hx' y (h.sub g hg y hy)).2 ((h.cls g hg x hx y (h.sub g hg y hy)).1 hy),fun hy=>(h.cls g hg x hx y (k.sub g' hg' y hy)).2 ((k.cls g' hg' x hx' y (k.sub g' hg' y hy)).1 hy)⟩)
 rw[this];exact hg'
theorem Zhl.uniq {G H:List (List Int)}(h:Zhl lk ls G)(k:Zhl lk ls H):G=H:=Zj8 h.ord k.ord (fun g=>⟨h.incl k g,k.incl h g⟩)
structure GrI (lk:Int→Int→Bool)(ls:List Int)(G:List (List Int))(left:List Int):Prop where
 lasc:left.Pairwise (·< ·)
 lsub:∀x∈left,x∈ls
 asc:∀g∈G,g.Pairwise (·< ·)
 ne:∀g∈G,g≠[]
 sub:∀g∈G,∀x∈g,x∈ls
 all:∀x∈ls,x∈left∨∃g∈G,x∈g
 clo:∀g∈G,∀x∈g,∀y∈ls,lkB lk x y=true→y∈g
 con:∀g∈G,∀x∈g,∀y∈g,Zb5 lk ls x y
 dis:∀g∈G,∀x∈g,x∉left
 ord:G.Pairwise (fun a b=>∃x y,a.head?=some x∧b.head?=some y∧x<y)
 low:∀g∈G,∃x,g.head?=some x∧∀y∈left,x<y
theorem GrI.start (h:ls.Pairwise (·< ·)):GrI lk ls [] ls where
 lasc:=h
 lsub:=fun _ h=>h
 asc:=fun g hg=>by simp at hg
 ne:=fun g hg=>by simp at hg
 sub:=fun g hg=>by simp at hg
 all:=fun x hx=>.inl hx
 clo:=fun g hg=>by simp at hg
 con:=fun g hg=>by simp at hg
 dis:=fun g hg=>by simp at hg
 ord:=.nil
 low:=fun g hg=>by simp at hg
theorem GrI.fin {G:List (List Int)}(h:GrI lk ls G []):Zhl lk ls G where
 asc:=h.asc
 ne:=h.ne
 sub:=h.sub
 all:=fun x hx=>(h.all x hx).elim (fun h=>by simp at h) id
 cls:=fun g hg x hx y hy=>⟨fun hyg=>h.con g hg x hx y hyg,fun hc=>by
  induction hc with
  | refl _=>exact hx
  | step hc hm hl ih=>exact h.clo g hg _ (ih hc.right) _ hm hl⟩
 ord:=h.ord
structure AbI (lk:Int→Int→Bool)(ls l0 grp left:List Int)(k:Nat):Prop where
 k1:k≤grp.length
 head:grp.head?=l0.head?
 ne:grp≠[]
 mem:∀x,x∈l0↔x∈grp∨x∈left
 dis:∀x∈grp,x∉left
 nd:grp.Nodup
 lasc:left.Pairwise (·< ·)
 con:∀x∈grp,∀a,grp.head?=some a→Zb5 lk ls a x
 done:∀i x,i<k→grp[i]?=some x→∀b∈left,lkB lk x b=false
theorem AbI.start {a:Int}{l:List Int}(hp:(a::l).Pairwise (·< ·))(ha:a∈ls):AbI lk ls (a::l) [a] l 0 where
 k1:=Nat.zero_le _
 head:=rfl
 ne:=by simp
 mem:=fun x=>by simp
 dis:=fun x hx hl=>by
  rw[List.mem_singleton.1 hx]at hl
  have:=(List.pairwise_cons.1 hp).1 a hl
  omega
 nd:=by simp
 lasc:=(List.pairwise_cons.1 hp).2
 con:=fun x hx b hb=>by
  rw[List.mem_singleton.1 hx]
  simp only[List.head?_cons,Option.some.injEq]at hb
  rw[←hb]
  exact .refl ha
 done:=fun i x hi=>by omega
theorem AbI.next {l0 grp left:List Int}{k:Nat}{x:Int}(h:AbI lk ls l0 grp left k)(hx:grp[k]?=some x)(hs:∀y∈l0,y∈ls):AbI lk ls l0 (grp++left.filter fun b=>lkB lk x b) (left.filter fun b=>!lkB lk x b) (k+1):=by
 have hk:=(List.getElem?_eq_some_iff.1 hx).1
 have hxm:=List.mem_of_getElem? hx
 have hh:(grp++left.filter fun b=>lkB lk x b).head?=grp.head?:=by
  cases grp with
  | nil=>simp at hk
  | cons a g=>rfl
 refine⟨by rw[List.length_append];omega,hh.trans h.head,by intro e;exact h.ne (List.append_eq_nil_iff.1 e).1,fun y=>?_,fun y hy=>?_, ?_,h.lasc.filter _,fun y hy a ha=>?_,fun i y hi hy b hb=>?_⟩
 ·rw[h.mem,List.mem_append,List.mem_filter,List.mem_filter]
  cases lkB lk x y <;> simp
 ·rw[List.mem_filter]
  rintro⟨h1,h2⟩
  rcases List.mem_append.1 hy with hy|hy
  ·exact h.dis y hy h1
  ·rw[(List.mem_filter.1 hy).2]at h2
   simp at h2
 ·refine List.nodup_append.2 ⟨h.nd,(h.lasc.imp (fun{a b} hab e=>by omega)).filter _,fun a ha b hb e=>?_⟩
  subst e
  exact h.dis a ha (List.mem_filter.1 hb).1
 ·rw[hh]at ha
  rcases List.mem_append.1 hy with hy|hy
  ·exact h.con y hy a ha
  ·obtain⟨h1,h2⟩:=List.mem_filter.1 hy
   exact .step (h.con x hxm a ha) (hs y ((h.mem y).2 (.inr h1))) h2
 ·obtain⟨h1,h2⟩:=List.mem_filter.1 hb
  by_cases e:i=k
  ·subst e
   rw[List.getElem?_append_left hk,hx]at hy
   injection hy with hy
   rw[←hy]
   simpa using h2
  ·rw[List.getElem?_append_left (by omega)]at hy
   exact h.done i y (by omega) hy b h1
theorem AbI.group {G:List (List Int)}{l0 grp left grp':List Int}(h:AbI lk ls l0 grp left grp.length)(g:GrI lk ls G l0)(hp:grp'.Perm grp)(hs:grp'.Pairwise (·< ·)):GrI lk ls (G++[grp']) left:=by
 have mem:∀x,x∈grp'↔x∈grp:=fun x=>hp.mem_iff
 obtain⟨a,ha⟩:∃a,grp.head?=some a:=by
  cases e:grp with
  | nil=>exact absurd e h.ne
  | cons a l=>exact⟨a,rfl⟩
 have ham:a∈grp:=List.mem_of_mem_head? (by rw[ha];rfl)
 have hl0:∀y∈l0,y≠a→a<y:=fun y hy hne=>by
  have:=h.head.symm.trans ha
  cases e:l0 with
  | nil=>rw[e]at this;simp at this
  | cons b l =>
   rw[e]at this hy
   simp only[List.head?_cons,Option.some.injEq]at this
   subst this
   rcases List.mem_cons.1 hy with e2|hy
   ·exact absurd e2 hne
   ·have:=g.lasc
    rw[e]at this
    exact(List.pairwise_cons.1 this).1 y hy
 have hgr:∀y∈grp,y∈l0:=fun y hy=>(h.mem y).2 (.inl hy)
 have hle:∀y∈left,y∈l0:=fun y hy=>(h.mem y).2 (.inr hy)
 have head':grp'.head?=some a:=by
  cases e:grp' with
  | nil =>
   have:=(mem a).2 ham
   rw[e]at this;simp at this
  | cons b l =>
   have hb:b∈grp:=(mem b).1 (by rw[e];simp)
   have hal:=(mem a).2 ham
   rw[e]at hs hal
   rcases List.mem_cons.1 hal with e2|h2
   ·rw[e2];rfl
   ·have h3:=(List.pairwise_cons.1 hs).1 a h2
    by_cases e3:b=a
    ·omega
    ·have:=hl0 b (hgr b hb) e3
     omega
 have nolink:∀x∈grp,∀b∈left,lkB lk x b=false:=fun x hx b hb=>by
  obtain⟨i,hi,rfl⟩:=List.getElem_of_mem hx
  exact h.done i _ hi (List.getElem?_eq_getElem hi) b hb
 have new:∀(q:List Int),q∈G++[grp']→q∈G∨q=grp':=fun q hq=>by
  rcases List.mem_append.1 hq with h|h
  ·exact .inl h
  ·exact .inr (List.mem_singleton.1 h)
 refine⟨h.lasc,fun x hx=>g.lsub x (hle x hx),fun q hq=>?_,fun q hq=>?_,fun q hq x hx=>?_,fun x hx=>?_,fun q hq x hx y hy hl=>?_,fun q hq x hx y hy=>?_,fun q hq x hx=>?_, ?_,fun q hq=>?_⟩
 ·rcases new q hq with h1|rfl
  ·exact g.asc q h1
  ·exact hs
 ·rcases new q hq with h1|rfl
  ·exact g.ne q h1
  ·intro e;rw[e]at head';simp at head'
 ·rcases new q hq with h1|rfl
  ·exact g.sub q h1 x hx
  ·exact g.lsub x (hgr x ((mem x).1 hx))
 ·rcases g.all x hx with h1|⟨q,hq,hxq⟩
  ·rcases(h.mem x).1 h1 with h2|h2
   ·exact .inr ⟨grp',by simp,(mem x).2 h2⟩
   ·exact .inl h2
  ·exact .inr ⟨q,by simp[hq],hxq⟩
 ·rcases new q hq with h1|rfl
  ·exact g.clo q h1 x hx y hy hl
  ·have hxg:=(mem x).1 hx
   rcases g.all y hy with h2|⟨q2,hq2,hyq⟩
   ·rcases(h.mem y).1 h2 with h3|h3
    ·exact(mem y).2 h3
    ·rw[nolink x hxg y h3]at hl
     cases hl
   ·have:=g.clo q2 hq2 y hyq x (g.lsub x (hgr x hxg)) (by rw[Zmv];exact hl)
    exact absurd (hgr x hxg) (g.dis q2 hq2 x this)
 ·rcases new q hq with h1|rfl
  ·exact g.con q h1 x hx y hy
  ·exact(h.con x ((mem x).1 hx) a ha).symm.trans (h.con y ((mem y).1 hy) a ha)
 ·rcases new q hq with h1|rfl
  ·exact fun hxl=>g.dis q h1 x hx (hle x hxl)
  ·exact h.dis x ((mem x).1 hx)
 ·refine List.pairwise_append.2 ⟨g.ord,by simp,fun q hq r hr=>?_⟩
  rw[List.mem_singleton.1 hr]
  obtain⟨x,hx,hlt⟩:=g.low q hq
  exact⟨x,a,hx,head',hlt a (hgr a ham)⟩
 ·rcases new q hq with h1|rfl
  ·obtain⟨x,hx,hlt⟩:=g.low q h1
   exact⟨x,hx,fun y hy=>hlt y (hle y hy)⟩
  ·exact⟨a,head',fun y hy=>hl0 y (hle y hy) (fun e=>h.dis a ham (e▸hy))⟩
end
end Go.Proofs.YtfmnagcglhlicaaGreat
namespace Go.Proofs.YtfmnagcglhlicaaGreat
open Classical
def hdF (lk:Int→Int→Bool)(h:Int→Int)(p:Int×Int):Int→Int:=if lk p.1 p.2=true then fun x=>if x=p.1∨x=p.2 then min (h p.1) (h p.2)else h x else h
def ZoH (ls:List Int):List (Int×Int):=ls.flatMap fun a=>ls.map fun b=>(a,b)
theorem ZfB {ls:List Int}{a b:Int}:(a,b)∈ZoH ls↔a∈ls∧b∈ls:=by
 unfold ZoH
 simp only[List.mem_flatMap,List.mem_map,Prod.mk.injEq]
 constructor
 ·rintro⟨x,hx,y,hy,rfl,rfl⟩;exact⟨hx,hy⟩
 ·rintro⟨ha,hb⟩;exact⟨a,ha,b,hb,rfl,rfl⟩
section
variable {lk:Int→Int→Bool} {ls:List Int}
structure HdI (lk:Int→Int→Bool)(ls:List Int)(h:Int→Int):Prop where
 con:∀x∈ls,Zb5 lk ls x (h x)
 le:∀x∈ls,h x≤x
theorem HdI.start:HdI lk ls (fun x=>x):=⟨fun _ hx=>.refl hx,fun x _=>Int.le_refl x⟩
theorem HdI.step {h:Int→Int}(H:HdI lk ls h){p:Int×Int}(h1:p.1∈ls)(h2:p.2∈ls):HdI lk ls (hdF lk h p)∧(∀x∈ls,hdF lk h p x≤h x)∧(lk p.1 p.2=true→hdF lk h p p.1≤h p.2∧hdF lk h p p.2≤h p.1):=by
 unfold hdF
 by_cases hl:lk p.1 p.2=true
 ·rw[if_pos hl]
  have c12:Zb5 lk ls p.1 p.2:=.step (.refl h1) h2 (by unfold lkB;rw[hl];rfl)
  have hm:min (h p.1) (h p.2)=h p.1∨min (h p.1) (h p.2)=h p.2:=by omega
  have key:∀x∈ls,x=p.1∨x=p.2→Zb5 lk ls x (min (h p.1) (h p.2)):=fun x _ hx=>by
   rcases hm with e|e <;> rw[e]
   ·rcases hx with rfl|rfl
    ·exact H.con _ h1
    ·exact c12.symm.trans (H.con _ h1)
   ·rcases hx with rfl|rfl
    ·exact c12.trans (H.con _ h2)
    ·exact H.con _ h2
  refine⟨⟨fun x hx=>?_,fun x hx=>?_⟩,fun x hx=>?_,fun _=>⟨?_, ?_⟩⟩
  ·show Zb5 lk ls x (if x=p.1∨x=p.2 then min (h p.1) (h p.2)else h x)
   split
   ·exact key x hx (by assumption)
   ·exact H.con x hx
  ·show(if x=p.1∨x=p.2 then min (h p.1) (h p.2)else h x)≤x
   have a:=H.le _ h1
   have b:=H.le _ h2
   split
   ·rename_i e
    rcases e with rfl|rfl <;> omega
   ·exact H.le x hx
  ·show(if x=p.1∨x=p.2 then min (h p.1) (h p.2)else h x)≤h x
   split
   ·rename_i e
    rcases e with rfl|rfl <;> omega
   ·exact Int.le_refl _
  ·show(if p.1=p.1∨p.1=p.2 then min (h p.1) (h p.2)else h p.1)≤h p.2
   rw[if_pos (.inl rfl)];omega
  ·show(if p.2=p.1∨p.2=p.2 then min (h p.1) (h p.2)else h p.2)≤h p.1
   rw[if_pos (.inr rfl)];omega
 ·rw[if_neg hl]
  exact⟨H,fun x _=>Int.le_refl _,fun h=>absurd h hl⟩
theorem HdI.all:∀(l:List (Int×Int)) {h:Int→Int},HdI lk ls h→(∀p∈l,p.1∈ls∧p.2∈ls)→HdI lk ls (l.foldl (hdF lk) h)∧(∀x∈ls,l.foldl (hdF lk) h x≤h x)∧∀p∈l,lk p.1 p.2=true→l.foldl (hdF lk) h p.1≤h p.2∧l.foldl (hdF lk) h p.2≤h p.1
 | [],h,H,_=>⟨H,fun x _=>Int.le_refl _,fun p hp=>by simp at hp⟩
 | q::l,h,H,hl=>by
  obtain⟨q1,q2⟩:=hl q (by simp)
  obtain⟨s1,s2,s3⟩:=H.step q1 q2
  obtain⟨a1,a2,a3⟩:=HdI.all l s1 (fun p hp=>hl p (by simp[hp]))
  rw[List.foldl_cons]
  refine⟨a1,fun x hx=>Int.le_trans (a2 x hx) (s2 x hx),fun p hp hlk=>?_⟩
  rcases List.mem_cons.1 hp with rfl|hp
  ·obtain⟨b1,b2⟩:=s3 hlk
   exact⟨Int.le_trans (a2 _ q1) b1,Int.le_trans (a2 _ q2) b2⟩
  ·obtain⟨b1,b2⟩:=a3 p hp hlk
   obtain⟨p1,p2⟩:=hl p (by simp[hp])
   exact⟨Int.le_trans b1 (s2 _ p2),Int.le_trans b2 (s2 _ p1)⟩
def Zhm (lk:Int→Int→Bool)(ls:List Int)(h:Int→Int):Int→Int:=(ZoH ls).foldl (hdF lk) h
def Zcf (lk:Int→Int→Bool)(ls:List Int)(k:Nat):Int→Int:=(List.range k).foldl (fun h _=>Zhm lk ls h) (fun x=>x)
theorem Zgt (k:Nat):Zcf lk ls (k+1)=Zhm lk ls (Zcf lk ls k):=by
 unfold Zcf
 rw[List.range_succ,List.foldl_append];rfl
theorem HdI.round {h:Int→Int}(H:HdI lk ls h):HdI lk ls (Zhm lk ls h)∧(∀x∈ls,Zhm lk ls h x≤h x)∧∀a∈ls,∀b∈ls,lkB lk a b=true→Zhm lk ls h b≤h a:=by
 obtain⟨a1,a2,a3⟩:=HdI.all (ZoH ls) H (fun p hp=>ZfB.1 (show(p.1,p.2)∈ZoH ls from hp))
 refine⟨a1,a2,fun a ha b hb hl=>?_⟩
 unfold lkB at hl
 rw[Bool.or_eq_true]at hl
 rcases hl with hl|hl
 ·exact(a3 (a,b) (ZfB.2 ⟨ha,hb⟩) hl).2
 ·exact(a3 (b,a) (ZfB.2 ⟨hb,ha⟩) hl).1
theorem HdI.rounds:∀k,HdI lk ls (Zcf lk ls k)
 | 0=>HdI.start
 | k+1=>by rw[Zgt];exact(HdI.rounds k).round.1
def Low (lk:Int→Int→Bool)(ls:List Int)(h:Int→Int)(x:Int):Prop:=∀y,Zb5 lk ls x y→h x≤y
noncomputable def lows (lk:Int→Int→Bool)(ls:List Int)(h:Int→Int):List Int:=ls.filter fun x=>decide (Low lk ls h x)
theorem Zhn {α:Type}{p q:α→Bool}:∀(l:List α),(∀x∈l,p x=true→q x=true)→(l.filter p).length≤(l.filter q).length∧((∃x∈l,p x=false∧q x=true)→(l.filter p).length<(l.filter q).length)
 | [],_=>⟨Nat.le_refl _,fun⟨x,hx,_⟩=>by simp at hx⟩
 | a::l,h=>by
  obtain⟨i1,i2⟩:=Zhn l (fun x hx=>h x (by simp[hx]))
  have ha:=h a (by simp)
  simp only[List.filter_cons]
  cases hp:p a <;> cases hq:q a
  ·exact⟨by simpa using i1,fun⟨x,hx,hpx,hqx⟩=>by
    rcases List.mem_cons.1 hx with rfl|hx
    ·rw[hq]at hqx;cases hqx
    ·simpa using i2 ⟨x,hx,hpx,hqx⟩⟩
  ·exact⟨by simp;omega,fun _=>by simp;omega⟩
  ·rw[ha hp]at hq;cases hq
  ·exact⟨by simpa using i1,fun⟨x,hx,hpx,hqx⟩=>by
    rcases List.mem_cons.1 hx with rfl|hx
    ·rw[hp]at hpx;cases hpx
    ·simpa using i2 ⟨x,hx,hpx,hqx⟩⟩
theorem Low.next {h:Int→Int}(H:HdI lk ls h){x:Int}(hx:x∈ls)(hl:Low lk ls h x):Low lk ls (Zhm lk ls h) x:=fun y hy=>Int.le_trans (H.round.2.1 x hx) (hl y hy)
theorem ZtK {h:Int→Int}{a b:Int}(hc:Zb5 lk ls a b)(ha:Low lk ls h a)(hb:¬Low lk ls h b):∃x y,x∈ls∧y∈ls∧lkB lk x y=true∧Low lk ls h x∧¬Low lk ls h y:=by
 induction hc with
 | refl _=>exact absurd ha hb
 | @step _ c hc hm hl ih =>
  rename_i b'
  by_cases hlo:Low lk ls h b'
  ·exact⟨_,_,hc.right,hm,hl,hlo,hb⟩
  ·exact ih hlo
theorem ZqF {a:Int}(ha:a∈ls):∃m,Zb5 lk ls a m∧∀y,Zb5 lk ls a y→m≤y:=by
 have key:∀l:List Int,(∃x∈l,Zb5 lk ls a x)→∃m,Zb5 lk ls a m∧∀y∈l,Zb5 lk ls a y→m≤y:=fun l=>by
  induction l with
  | nil=>rintro⟨x,hx,_⟩;simp at hx
  | cons b l ih =>
   rintro⟨x,hx,hc⟩
   by_cases hl:∃x∈l,Zb5 lk ls a x
   ·obtain⟨m,hm,hle⟩:=ih hl
    by_cases hb:Zb5 lk ls a b∧b<m
    ·exact⟨b,hb.1,fun y hy hcy=>by
      rcases List.mem_cons.1 hy with rfl|hy
      ·exact Int.le_refl _
      ·have:=hle y hy hcy;omega⟩
    ·exact⟨m,hm,fun y hy hcy=>by
      rcases List.mem_cons.1 hy with rfl|hy
      ·exact Int.not_lt.1 (fun hlt=>hb ⟨hcy,hlt⟩)
      ·exact hle y hy hcy⟩
   ·rcases List.mem_cons.1 hx with rfl|hx
    ·exact⟨x,hc,fun y hy hcy=>by
      rcases List.mem_cons.1 hy with rfl|hy
      ·exact Int.le_refl _
      ·exact absurd ⟨y,hy,hcy⟩ hl⟩
    ·exact absurd ⟨x,hx,hc⟩ hl
 obtain⟨m,hm,hle⟩:=key ls ⟨a,ha,.refl ha⟩
 exact⟨m,hm,fun y hy=>hle y hy.right hy⟩
theorem ZoI {h:Int→Int}(H:HdI lk ls h)(hno:∃x∈ls,¬Low lk ls h x):(lows lk ls h).length<(lows lk ls (Zhm lk ls h)).length:=by
 obtain⟨x,hx,hnx⟩:=hno
 obtain⟨m,hm,hle⟩:=ZqF (lk:=lk) hx
 have hml:Low lk ls h m:=fun y hy=>Int.le_trans (H.le m hm.right) (hle y (hm.trans hy))
 obtain⟨a,b,ha,hb,hl,hla,hnb⟩:=ZtK hm.symm hml hnx
 refine(Zhn ls (fun z hz hp=>?_)).2 ⟨b,hb,by simpa using hnb, ?_⟩
 ·simp only[decide_eq_true_eq]at hp ⊢
  exact hp.next H hz
 ·simp only[decide_eq_true_eq]
  intro y hy
  exact Int.le_trans (H.round.2.2 a ha b hb hl) (hla y (.trans (.step (.refl ha) hb hl) hy))
theorem ZqG (k:Nat):(∀x∈ls,Low lk ls (Zcf lk ls k) x)∨k≤(lows lk ls (Zcf lk ls k)).length:=by
 induction k with
 | zero=>exact .inr (Nat.zero_le _)
 | succ k ih =>
  rw[Zgt]
  by_cases hall:∀x∈ls,Low lk ls (Zcf lk ls k) x
  ·exact .inl (fun x hx=>(hall x hx).next (HdI.rounds k) hx)
  ·have hno:∃x∈ls,¬Low lk ls (Zcf lk ls k) x:=by
    obtain⟨x,hx⟩:=Classical.not_forall.1 hall
    exact⟨x,Classical.not_imp.1 hx⟩
   have:=ZoI (HdI.rounds k) hno
   rcases ih with ih|ih
   ·exact absurd ih hall
   ·exact .inr (by omega)
theorem ZoJ:∀x∈ls,Low lk ls (Zcf lk ls ls.length) x:=by
 rcases ZqG (lk:=lk) (ls:=ls) ls.length with h|h
 ·exact h
 ·have hl:(lows lk ls (Zcf lk ls ls.length)).length=ls.length:=Nat.le_antisymm (List.length_filter_le _ _) h
  have:=(List.filter_eq_self (l:=ls) (p:=fun x=>decide (Low lk ls (Zcf lk ls ls.length) x))).1 ((List.filter_sublist).eq_of_length hl)
  exact fun x hx=>by simpa using this x hx
def Zho (ls:List Int)(h:Int→Int):List (List Int):=(ls.map fun m=>ls.filter fun a=>h a==m).filter fun l=>decide (0<l.length)
theorem ZcS (hp:ls.Pairwise (·< ·)):Zhl lk ls (Zho ls (Zcf lk ls ls.length)):=by
 obtain⟨h,hh⟩:∃h,Zcf lk ls ls.length=h:=⟨_,rfl⟩
 have H:=HdI.rounds (lk:=lk) (ls:=ls) ls.length
 have lo:=ZoJ (lk:=lk) (ls:=ls)
 rw[hh]at H lo ⊢
 have hsame:∀x∈ls,∀y∈ls,h x=h y↔Zb5 lk ls x y:=fun x hx y hy=>⟨fun e=>(H.con x hx).trans (by rw[e];exact(H.con y hy).symm),fun hc=>Int.le_antisymm (lo x hx _ (hc.trans (H.con y hy))) (lo y hy _ (hc.symm.trans (H.con x hx)))⟩
 have hhm:∀x∈ls,h (h x)=h x:=fun x hx=>((hsame (h x) (H.con x hx).right x hx).2 (H.con x hx).symm)
 have mem:∀l,l∈Zho ls h↔∃m∈ls,l=ls.filter (fun a=>h a==m)∧l≠[]:=fun l=>by
  unfold Zho
  rw[List.mem_filter,List.mem_map]
  constructor
  ·rintro⟨⟨m,hm,rfl⟩,h0⟩
   exact⟨m,hm,rfl,fun e=>by rw[e]at h0;simp at h0⟩
  ·rintro⟨m,hm,rfl,h0⟩
   exact⟨⟨m,hm,rfl⟩,by simpa using List.length_pos_iff.2 h0⟩
 have head:∀m,∀l,l=ls.filter (fun a=>h a==m)→l≠[]→l.head?=some m:=fun m l e h0=>by
  obtain⟨x,hx⟩:=List.exists_mem_of_ne_nil l h0
  have hx2:=hx
  rw[e,List.mem_filter]at hx2
  have hxm:h x=m:=by simpa using hx2.2
  have hml:m∈ls:=by rw[←hxm];exact(H.con x hx2.1).right
  have hm:m∈l:=by
   rw[e,List.mem_filter]
   refine⟨hml, ?_⟩
   have:=hhm x hx2.1
   rw[hxm]at this
   simpa using this
  have hasc:l.Pairwise (·< ·):=by rw[e];exact hp.filter _
  cases hl:l with
  | nil=>exact absurd hl h0
  | cons b l' =>
   have hb:b∈l:=by rw[hl];simp
   rw[e,List.mem_filter]at hb
   have hbm:h b=m:=by simpa using hb.2
   have:=H.le b hb.1
   rw[hl]at hm hasc
   rcases List.mem_cons.1 hm with e2|h2
   ·rw[e2];rfl
   ·have:=(List.pairwise_cons.1 hasc).1 m h2
    omega
 refine⟨fun g hg=>?_,fun g hg=>?_,fun g hg x hx=>?_,fun x hx=>?_,fun g hg x hx y hy=>?_, ?_⟩
 ·obtain⟨m,_,rfl,_⟩:=(mem g).1 hg
  exact hp.filter _
 ·obtain⟨m,_,_,h0⟩:=(mem g).1 hg
  exact h0
 ·obtain⟨m,_,rfl,_⟩:=(mem g).1 hg
  exact(List.mem_filter.1 hx).1
 ·have hm:x∈ls.filter (fun a=>h a==h x):=List.mem_filter.2 ⟨hx,by simp⟩
  exact⟨_,(mem _).2 ⟨h x,(H.con x hx).right,rfl,fun e=>by rw[e]at hm;simp at hm⟩,hm⟩
 ·obtain⟨m,_,rfl,_⟩:=(mem g).1 hg
  obtain⟨hx1,hx2⟩:=List.mem_filter.1 hx
  have hxm:h x=m:=by simpa using hx2
  rw[List.mem_filter,←hsame x hx1 y hy]
  constructor
  ·rintro⟨_,h2⟩
   rw[hxm]
   exact(by simpa using h2:h y=m).symm
  ·intro e
   exact⟨hy,by rw[←e,hxm];simp⟩
 ·unfold Zho
  rw[List.pairwise_filter,List.pairwise_map]
  have pos:∀l:List Int,decide (0<l.length)=true→l≠[]:=fun l h0 e=>by rw[e]at h0;simp at h0
  exact hp.imp (fun{m m'} hlt h1 h2=>⟨m,m',head m _ rfl (pos _ h1),head m' _ rfl (pos _ h2),hlt⟩)
end
end Go.Proofs.YtfmnagcglhlicaaGreat
