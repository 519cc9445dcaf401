/- Texts melted into one: The plain law of groups of labels: linked ones together, by their least ones; the program's way. No program in sight. | The plain law of groups of labels: the referenc -/
import Derived.Test.YtfmnagcglhlicaaGreatTopCrashK01
import Derived.Lib.SlicesCompact
namespace Go.Proofs.YtfmnagcglhlicaaGreat
def lkB (lk:Int→Int→Bool)(a b:Int):Bool:=lk a b||lk b a
inductive fH (lk:Int→Int→Bool)(ls:LIn):Int→Int→Prop
 | refl {a:Int} (h:a∈ls):fH lk ls a a
 | step {a b c:Int} (h:fH lk ls a b) (hc:c∈ls) (hl:lkB lk b c=true):fH lk ls a c
section
variable {lk:Int→Int→Bool} {ls:LIn}
theorem It (a b:Int):lkB lk a b=lkB lk b a:=by unfold lkB;exact Bool.or_comm _ _
theorem fH.right {a b:Int}(h:fH lk ls a b):b∈ls:=by
 cases h with
 | refl h=>exact h
 | step _ hc _=>exact hc
theorem fH.trans {a b c:Int}(h:fH lk ls a b)(g:fH lk ls b c):fH lk ls a c:=by
 induction g with
 | refl _=>exact h
 | step _ hc hl ih=>exact .step ih hc hl
theorem fH.symm {a b:Int}(h:fH lk ls a b):fH lk ls b a:=by
 induction h with
 | refl h=>exact .refl h
 | step h hc hl ih=>exact fH.trans (.step (.refl hc) h.right (by rw[It];exact hl)) ih
structure uY (lk:Int→Int→Bool)(ls:LIn)(G:LLi):Prop where
 asc:∀g∈G,g.Pairwise (·< ·)
 ne:∀g∈G,g≠[]
 sub:∀g∈G,∀x∈g,x∈ls
 all:∀x∈ls,∃g∈G,x∈g
 cls:∀g∈G,∀x∈g,∀y∈ls,y∈g↔fH lk ls x y
 ord:G.Pairwise (fun a b=>∃x y,a.head?=some x∧b.head?=some y∧x<y)
theorem mP:∀{xs ys:LIn},xs.Pairwise (·< ·)→ys.Pairwise (·< ·)→(∀x,x∈xs↔x∈ys)→xs=ys
 | [],[],_,_,_=>rfl
 | [],y::ys,_,_,h=>by have:=(h y).2 (by simp);simp at this
 | x::xs,[],_,_,h=>by have:=(h x).1 (by simp);simp at this
 | x::xs,y::ys,hx,hy,h=>by
  obtain⟨hx1,hx2⟩:=List.pairwise_cons.1 hx;obtain⟨hy1,hy2⟩:=List.pairwise_cons.1 hy;have e:x=y:=by
   rcases List.mem_cons.1 ((h x).1 (by simp))with e|e
   ·exact e
   ·rcases List.mem_cons.1 ((h y).2 (by simp))with e'|e'
    ·exact e'.symm
    ·have:=hy1 x e;have:=hx1 y e';omega
  subst e;rw[mP hx2 hy2 (fun z=>⟨fun hz=>by
   rcases List.mem_cons.1 ((h z).1 (by simp[hz]))with e|e
   ·have:=hx1 z hz;omega
   ·exact e,fun hz=>by
   rcases List.mem_cons.1 ((h z).2 (by simp[hz]))with e|e
   ·have:=hy1 z hz;omega
   ·exact e⟩)]
theorem Dn:∀{xs ys:LLi},xs.Pairwise (fun a b=>∃x y,a.head?=some x∧b.head?=some y∧x<y)→ys.Pairwise (fun a b=>∃x y,a.head?=some x∧b.head?=some y∧x<y)→(∀x,x∈xs↔x∈ys)→xs=ys
 | [],[],_,_,_=>rfl
 | [],y::ys,_,_,h=>by have:=(h y).2 (by simp);simp at this
 | x::xs,[],_,_,h=>by have:=(h x).1 (by simp);simp at this
 | x::xs,y::ys,hx,hy,h=>by
  obtain⟨hx1,hx2⟩:=List.pairwise_cons.1 hx;obtain⟨hy1,hy2⟩:=List.pairwise_cons.1 hy;have no:∀{a b:LIn},(∃x y,a.head?=some x∧b.head?=some y∧x<y)→(∃x y,b.head?=some x∧a.head?=some y∧x<y)→False:=fun{a b} h g=>by
   obtain⟨x1,y1,e1,e2,h1⟩:=h;obtain⟨x2,y2,e3,e4,h2⟩:=g;rw[e1]at e4;rw[e2]at e3;injection e4 with e4;injection e3 with e3;omega
  have e:x=y:=by
   rcases List.mem_cons.1 ((h x).1 (by simp))with e|e
   ·exact e
   ·rcases List.mem_cons.1 ((h y).2 (by simp))with e'|e'
    ·exact e'.symm
    ·exact(no (hy1 x e) (hx1 y e')).elim
  subst e;rw[Dn hx2 hy2 (fun z=>⟨fun hz=>by
   rcases List.mem_cons.1 ((h z).1 (by simp[hz]))with e|e
   ·subst e;exact(no (hx1 _ hz) (hx1 _ hz)).elim
   ·exact e,fun hz=>by
   rcases List.mem_cons.1 ((h z).2 (by simp[hz]))with e|e
   ·subst e;exact(no (hy1 _ hz) (hy1 _ hz)).elim
   ·exact e⟩)]
theorem uY.incl {G H:LLi}(h:uY lk ls G)(k:uY lk ls H):∀g,g∈G→g∈H:=fun g hg=>by
 obtain⟨x,hx⟩:=List.exists_mem_of_ne_nil g (h.ne g hg);have hxl:=h.sub g hg x hx;obtain⟨g',hg',hx'⟩:=k.all x hxl;have:g=g':=mP (h.asc g hg) (k.asc g' hg') (fun y=>⟨fun hy=>(k.cls g' hg' x hx' y (h.sub g hg y hy)).2 ((h.cls g hg x hx y (h.sub g hg y hy)).1 hy),fun hy=>(h.cls g hg x hx y (k.sub g' hg' y hy)).2 ((k.cls g' hg' x hx' y (k.sub g' hg' y hy)).1 hy)⟩);rw[this];exact hg'
theorem uY.uniq {G H:LLi}(h:uY lk ls G)(k:uY lk ls H):G=H:=Dn h.ord k.ord (fun g=>⟨h.incl k g,k.incl h g⟩)
structure GrI (lk:Int→Int→Bool)(ls:LIn)(G:LLi)(left:LIn):Prop where
 lasc:left.Pairwise (·< ·)
 lsub:∀x∈left,x∈ls
 asc:∀g∈G,g.Pairwise (·< ·)
 ne:∀g∈G,g≠[]
 sub:∀g∈G,∀x∈g,x∈ls
 all:∀x∈ls,x∈left∨∃g∈G,x∈g
 clo:∀g∈G,∀x∈g,∀y∈ls,lkB lk x y=true→y∈g
 con:∀g∈G,∀x∈g,∀y∈g,fH lk ls x y
 dis:∀g∈G,∀x∈g,x∉left
 ord:G.Pairwise (fun a b=>∃x y,a.head?=some x∧b.head?=some y∧x<y)
 low:∀g∈G,∃x,g.head?=some x∧∀y∈left,x<y
theorem GrI.start (h:ls.Pairwise (·< ·)):GrI lk ls [] ls where
 lasc:=h
 lsub:=fun _ h=>h
 asc:=fun g hg=>by simp at hg
 ne:=fun g hg=>by simp at hg
 sub:=fun g hg=>by simp at hg
 all:=fun x hx=>.inl hx
 clo:=fun g hg=>by simp at hg
 con:=fun g hg=>by simp at hg
 dis:=fun g hg=>by simp at hg
 ord:=.nil
 low:=fun g hg=>by simp at hg
theorem GrI.fin {G:LLi}(h:GrI lk ls G []):uY lk ls G where
 asc:=h.asc
 ne:=h.ne
 sub:=h.sub
 all:=fun x hx=>(h.all x hx).elim (fun h=>by simp at h) id
 cls:=fun g hg x hx y hy=>⟨fun hyg=>h.con g hg x hx y hyg,fun hc=>by
  induction hc with
  | refl _=>exact hx
  | step hc hm hl ih=>exact h.clo g hg _ (ih hc.right) _ hm hl⟩
 ord:=h.ord
structure AbI (lk:Int→Int→Bool)(ls l0 grp left:LIn)(k:Nat):Prop where
 k1:k≤grp.length
 head:grp.head?=l0.head?
 ne:grp≠[]
 mem:∀x,x∈l0↔x∈grp∨x∈left
 dis:∀x∈grp,x∉left
 nd:grp.Nodup
 lasc:left.Pairwise (·< ·)
 con:∀x∈grp,∀a,grp.head?=some a→fH lk ls a x
 done:∀i x,i<k→grp[i]?=some x→∀b∈left,lkB lk x b=false
theorem AbI.start {a:Int}{l:LIn}(hp:(a::l).Pairwise (·< ·))(ha:a∈ls):AbI lk ls (a::l) [a] l 0 where
 k1:=Nat.zero_le _
 head:=rfl
 ne:=by simp
 mem:=fun x=>by simp
 dis:=fun x hx hl=>by
  rw[List.mem_singleton.1 hx]at hl;have:=(List.pairwise_cons.1 hp).1 a hl;omega
 nd:=by simp
 lasc:=(List.pairwise_cons.1 hp).2
 con:=fun x hx b hb=>by
  rw[List.mem_singleton.1 hx];simp only[List.head?_cons,Option.some.injEq]at hb;rw[←hb];exact .refl ha
 done:=fun i x hi=>by omega
theorem AbI.next {l0 grp left:LIn}{k:Nat}{x:Int}(h:AbI lk ls l0 grp left k)(hx:grp[k]?=some x)(hs:∀y∈l0,y∈ls):AbI lk ls l0 (grp++left.filter fun b=>lkB lk x b) (left.filter fun b=>!lkB lk x b) (k+1):=by
 have hk:=(List.getElem?_eq_some_iff.1 hx).1;have hxm:=List.mem_of_getElem? hx;have hh:(grp++left.filter fun b=>lkB lk x b).head?=grp.head?:=by
  cases grp with
  | nil=>simp at hk
  | cons a g=>rfl
 refine⟨by rw[List.length_append];omega,hh.trans h.head,by intro e;exact h.ne (List.append_eq_nil_iff.1 e).1,fun y=>?_,fun y hy=>?_, ?_,h.lasc.filter _,fun y hy a ha=>?_,fun i y hi hy b hb=>?_⟩
 ·rw[h.mem,List.mem_append,List.mem_filter,List.mem_filter];cases lkB lk x y <;> simp
 ·rw[List.mem_filter];rintro⟨h1,h2⟩;rcases List.mem_append.1 hy with hy|hy
  ·exact h.dis y hy h1
  ·rw[(List.mem_filter.1 hy).2]at h2;simp at h2
 ·refine List.nodup_append.2 ⟨h.nd,(h.lasc.imp (fun{a b} hab e=>by omega)).filter _,fun a ha b hb e=>?_⟩;subst e;exact h.dis a ha (List.mem_filter.1 hb).1
 ·rw[hh]at ha;rcases List.mem_append.1 hy with hy|hy
  ·exact h.con y hy a ha
  ·obtain⟨h1,h2⟩:=List.mem_filter.1 hy;exact .step (h.con x hxm a ha) (hs y ((h.mem y).2 (.inr h1))) h2
 ·obtain⟨h1,h2⟩:=List.mem_filter.1 hb;by_cases e:i=k
  ·subst e;rw[List.getElem?_append_left hk,hx]at hy;injection hy with hy;rw[←hy];simpa using h2
  ·rw[List.getElem?_append_left (by omega)]at hy;exact h.done i y (by omega) hy b h1
theorem AbI.group {G:LLi}{l0 grp left grp':LIn}(h:AbI lk ls l0 grp left grp.length)(g:GrI lk ls G l0)(hp:grp'.Perm grp)(hs:grp'.Pairwise (·< ·)):GrI lk ls (G++[grp']) left:=by
 have mem:∀x,x∈grp'↔x∈grp:=fun x=>hp.mem_iff
 obtain⟨a,ha⟩:∃a,grp.head?=some a:=by
  cases e:grp with
  | nil=>exact absurd e h.ne
  | cons a l=>exact⟨a,rfl⟩
 have ham:a∈grp:=List.mem_of_mem_head? (by rw[ha];rfl);have hl0:∀y∈l0,y≠a→a<y:=fun y hy hne=>by
  have:=h.head.symm.trans ha;cases e:l0 with
  | nil=>rw[e]at this;simp at this
  | cons b l =>
   rw[e]at this hy;simp only[List.head?_cons,Option.some.injEq]at this;subst this;rcases List.mem_cons.1 hy with e2|hy
   ·exact absurd e2 hne
   ·have:=g.lasc;rw[e]at this;exact(List.pairwise_cons.1 this).1 y hy
 have hgr:∀y∈grp,y∈l0:=fun y hy=>(h.mem y).2 (.inl hy)
 have hle:∀y∈left,y∈l0:=fun y hy=>(h.mem y).2 (.inr hy)
 have head':grp'.head?=some a:=by
  cases e:grp' with
  | nil =>
   have:=(mem a).2 ham;rw[e]at this;simp at this
  | cons b l =>
   have hb:b∈grp:=(mem b).1 (by rw[e];simp);have hal:=(mem a).2 ham;rw[e]at hs hal;rcases List.mem_cons.1 hal with e2|h2
   ·rw[e2];rfl
   ·have h3:=(List.pairwise_cons.1 hs).1 a h2;by_cases e3:b=a
    ·omega
    ·have:=hl0 b (hgr b hb) e3;omega
 have nolink:∀x∈grp,∀b∈left,lkB lk x b=false:=fun x hx b hb=>by
  obtain⟨i,hi,rfl⟩:=List.getElem_of_mem hx;exact h.done i _ hi (List.getElem?_eq_getElem hi) b hb
 have new:∀(q:LIn),q∈G++[grp']→q∈G∨q=grp':=fun q hq=>by
  rcases List.mem_append.1 hq with h|h
  ·exact .inl h
  ·exact .inr (List.mem_singleton.1 h)
 refine⟨h.lasc,fun x hx=>g.lsub x (hle x hx),fun q hq=>?_,fun q hq=>?_,fun q hq x hx=>?_,fun x hx=>?_,fun q hq x hx y hy hl=>?_,fun q hq x hx y hy=>?_,fun q hq x hx=>?_, ?_,fun q hq=>?_⟩
 ·rcases new q hq with h1|rfl
  ·exact g.asc q h1
  ·exact hs
 ·rcases new q hq with h1|rfl
  ·exact g.ne q h1
  ·intro e;rw[e]at head';simp at head'
 ·rcases new q hq with h1|rfl
  ·exact g.sub q h1 x hx
  ·exact g.lsub x (hgr x ((mem x).1 hx))
 ·rcases g.all x hx with h1|⟨q,hq,hxq⟩
  ·rcases(h.mem x).1 h1 with h2|h2
   ·exact .inr ⟨grp',by simp,(mem x).2 h2⟩
   ·exact .inl h2
  ·exact .inr ⟨q,by simp[hq],hxq⟩
 ·rcases new q hq with h1|rfl
  ·exact g.clo q h1 x hx y hy hl
  ·have hxg:=(mem x).1 hx;rcases g.all y hy with h2|⟨q2,hq2,hyq⟩
   ·rcases(h.mem y).1 h2 with h3|h3
    ·exact(mem y).2 h3
    ·rw[nolink x hxg y h3]at hl;cases hl
   ·have:=g.clo q2 hq2 y hyq x (g.lsub x (hgr x hxg)) (by rw[It];exact hl);exact absurd (hgr x hxg) (g.dis q2 hq2 x this)
 ·rcases new q hq with h1|rfl
  ·exact g.con q h1 x hx y hy
  ·exact(h.con x ((mem x).1 hx) a ha).symm.trans (h.con y ((mem y).1 hy) a ha)
 ·rcases new q hq with h1|rfl
  ·exact fun hxl=>g.dis q h1 x hx (hle x hxl)
  ·exact h.dis x ((mem x).1 hx)
 ·refine List.pairwise_append.2 ⟨g.ord,by simp,fun q hq r hr=>?_⟩;rw[List.mem_singleton.1 hr];obtain⟨x,hx,hlt⟩:=g.low q hq;exact⟨x,a,hx,head',hlt a (hgr a ham)⟩
 ·rcases new q hq with h1|rfl
  ·obtain⟨x,hx,hlt⟩:=g.low q h1;exact⟨x,hx,fun y hy=>hlt y (hle y hy)⟩
  ·exact⟨a,head',fun y hy=>hl0 y (hle y hy) (fun e=>h.dis a ham (e▸hy))⟩
end
end Go.Proofs.YtfmnagcglhlicaaGreat
namespace Go.Proofs.YtfmnagcglhlicaaGreat
open Classical
def hdF (lk:Int→Int→Bool)(h:Int→Int)(p:Int×Int):Int→Int:=if lk p.1 p.2=true then fun x=>if x=p.1∨x=p.2 then min (h p.1) (h p.2)else h x else h
def Oi (ls:LIn):List (Int×Int):=ls.flatMap fun a=>ls.map fun b=>(a,b)
theorem qL {ls:LIn}{a b:Int}:(a,b)∈Oi ls↔a∈ls∧b∈ls:=by
 unfold Oi;simp only[List.mem_flatMap,List.mem_map,Prod.mk.injEq];constructor
 ·rintro⟨x,hx,y,hy,rfl,rfl⟩;exact⟨hx,hy⟩
 ·rintro⟨ha,hb⟩;exact⟨a,ha,b,hb,rfl,rfl⟩
section
variable {lk:Int→Int→Bool} {ls:LIn}
structure HdI (lk:Int→Int→Bool)(ls:LIn)(h:Int→Int):Prop where
 con:∀x∈ls,fH lk ls x (h x)
 le:∀x∈ls,h x≤x
theorem HdI.start:HdI lk ls (fun x=>x):=⟨fun _ hx=>.refl hx,fun x _=>Int.le_refl x⟩
theorem HdI.step {h:Int→Int}(H:HdI lk ls h){p:Int×Int}(h1:p.1∈ls)(h2:p.2∈ls):HdI lk ls (hdF lk h p)∧(∀x∈ls,hdF lk h p x≤h x)∧(lk p.1 p.2=true→hdF lk h p p.1≤h p.2∧hdF lk h p p.2≤h p.1):=by
 unfold hdF;by_cases hl:lk p.1 p.2=true
 ·rw[if_pos hl];have c12:fH lk ls p.1 p.2:=.step (.refl h1) h2 (by unfold lkB;rw[hl];rfl);have hm:min (h p.1) (h p.2)=h p.1∨min (h p.1) (h p.2)=h p.2:=by omega
  have key:∀x∈ls,x=p.1∨x=p.2→fH lk ls x (min (h p.1) (h p.2)):=fun x _ hx=>by
   rcases hm with e|e <;> rw[e]
   ·rcases hx with rfl|rfl
    ·exact H.con _ h1
    ·exact c12.symm.trans (H.con _ h1)
   ·rcases hx with rfl|rfl
    ·exact c12.trans (H.con _ h2)
    ·exact H.con _ h2
  refine⟨⟨fun x hx=>?_,fun x hx=>?_⟩,fun x hx=>?_,fun _=>⟨?_, ?_⟩⟩
  ·show fH lk ls x (if x=p.1∨x=p.2 then min (h p.1) (h p.2)else h x)
   split
   ·exact key x hx (by assumption)
   ·exact H.con x hx
  ·show(if x=p.1∨x=p.2 then min (h p.1) (h p.2)else h x)≤x
   have a:=H.le _ h1;have b:=H.le _ h2;split
   ·rename_i e
    rcases e with rfl|rfl <;> omega
   ·exact H.le x hx
  ·show(if x=p.1∨x=p.2 then min (h p.1) (h p.2)else h x)≤h x
   split
   ·rename_i e
    rcases e with rfl|rfl <;> omega
   ·exact Int.le_refl _
  ·show(if p.1=p.1∨p.1=p.2 then min (h p.1) (h p.2)else h p.1)≤h p.2
   rw[if_pos (.inl rfl)];omega
  ·show(if p.2=p.1∨p.2=p.2 then min (h p.1) (h p.2)else h p.2)≤h p.1
   rw[if_pos (.inr rfl)];omega
 ·rw[if_neg hl];exact⟨H,fun x _=>Int.le_refl _,fun h=>absurd h hl⟩
theorem HdI.all:∀(l:List (Int×Int)) {h:Int→Int},HdI lk ls h→(∀p∈l,p.1∈ls∧p.2∈ls)→HdI lk ls (l.foldl (hdF lk) h)∧(∀x∈ls,l.foldl (hdF lk) h x≤h x)∧∀p∈l,lk p.1 p.2=true→l.foldl (hdF lk) h p.1≤h p.2∧l.foldl (hdF lk) h p.2≤h p.1
 | [],h,H,_=>⟨H,fun x _=>Int.le_refl _,fun p hp=>by simp at hp⟩
 | q::l,h,H,hl=>by
  obtain⟨q1,q2⟩:=hl q (by simp);obtain⟨s1,s2,s3⟩:=H.step q1 q2;obtain⟨a1,a2,a3⟩:=HdI.all l s1 (fun p hp=>hl p (by simp[hp]));rw[List.foldl_cons];refine⟨a1,fun x hx=>Int.le_trans (a2 x hx) (s2 x hx),fun p hp hlk=>?_⟩;rcases List.mem_cons.1 hp with rfl|hp
  ·obtain⟨b1,b2⟩:=s3 hlk;exact⟨Int.le_trans (a2 _ q1) b1,Int.le_trans (a2 _ q2) b2⟩
  ·obtain⟨b1,b2⟩:=a3 p hp hlk;obtain⟨p1,p2⟩:=hl p (by simp[hp]);exact⟨Int.le_trans b1 (s2 _ p2),Int.le_trans b2 (s2 _ p1)⟩
def uZ (lk:Int→Int→Bool)(ls:LIn)(h:Int→Int):Int→Int:=(Oi ls).foldl (hdF lk) h
def fX (lk:Int→Int→Bool)(ls:LIn)(k:Nat):Int→Int:=(List.range k).foldl (fun h _=>uZ lk ls h) (fun x=>x)
theorem sM (k:Nat):fX lk ls (k+1)=uZ lk ls (fX lk ls k):=by
 unfold fX;rw[List.range_succ,List.foldl_append];rfl
theorem HdI.round {h:Int→Int}(H:HdI lk ls h):HdI lk ls (uZ lk ls h)∧(∀x∈ls,uZ lk ls h x≤h x)∧∀a∈ls,∀b∈ls,lkB lk a b=true→uZ lk ls h b≤h a:=by
 obtain⟨a1,a2,a3⟩:=HdI.all (Oi ls) H (fun p hp=>qL.1 (show(p.1,p.2)∈Oi ls from hp));refine⟨a1,a2,fun a ha b hb hl=>?_⟩;unfold lkB at hl;rw[Bool.or_eq_true]at hl;rcases hl with hl|hl
 ·exact(a3 (a,b) (qL.2 ⟨ha,hb⟩) hl).2
 ·exact(a3 (b,a) (qL.2 ⟨hb,ha⟩) hl).1
theorem HdI.rounds:∀k,HdI lk ls (fX lk ls k)
 | 0=>HdI.start
 | k+1=>by rw[sM];exact(HdI.rounds k).round.1
def Low (lk:Int→Int→Bool)(ls:LIn)(h:Int→Int)(x:Int):Prop:=∀y,fH lk ls x y→h x≤y
noncomputable def lows (lk:Int→Int→Bool)(ls:LIn)(h:Int→Int):LIn:=ls.filter fun x=>decide (Low lk ls h x)
theorem u7 {α:Type}{p q:α→Bool}:∀(l:List α),(∀x∈l,p x=true→q x=true)→(l.filter p).length≤(l.filter q).length∧((∃x∈l,p x=false∧q x=true)→(l.filter p).length<(l.filter q).length)
 | [],_=>⟨Nat.le_refl _,fun⟨x,hx,_⟩=>by simp at hx⟩
 | a::l,h=>by
  obtain⟨i1,i2⟩:=u7 l (fun x hx=>h x (by simp[hx]));have ha:=h a (by simp);simp only[List.filter_cons];cases hp:p a <;> cases hq:q a
  ·exact⟨by simpa using i1,fun⟨x,hx,hpx,hqx⟩=>by
    rcases List.mem_cons.1 hx with rfl|hx
    ·rw[hq]at hqx;cases hqx
    ·simpa using i2 ⟨x,hx,hpx,hqx⟩⟩
  ·exact⟨by simp;omega,fun _=>by simp;omega⟩
  ·rw[ha hp]at hq;cases hq
  ·exact⟨by simpa using i1,fun⟨x,hx,hpx,hqx⟩=>by
    rcases List.mem_cons.1 hx with rfl|hx
    ·rw[hp]at hpx;cases hpx
    ·simpa using i2 ⟨x,hx,hpx,hqx⟩⟩
theorem Low.next {h:Int→Int}(H:HdI lk ls h){x:Int}(hx:x∈ls)(hl:Low lk ls h x):Low lk ls (uZ lk ls h) x:=fun y hy=>Int.le_trans (H.round.2.1 x hx) (hl y hy)
theorem Xb {h:Int→Int}{a b:Int}(hc:fH lk ls a b)(ha:Low lk ls h a)(hb:¬Low lk ls h b):∃x y,x∈ls∧y∈ls∧lkB lk x y=true∧Low lk ls h x∧¬Low lk ls h y:=by
 induction hc with
 | refl _=>exact absurd ha hb
 | @step _ c hc hm hl ih =>
  rename_i b'
  by_cases hlo:Low lk ls h b'
  ·exact⟨_,_,hc.right,hm,hl,hlo,hb⟩
  ·exact ih hlo
theorem Rw {a:Int}(ha:a∈ls):∃m,fH lk ls a m∧∀y,fH lk ls a y→m≤y:=by
 have key:∀l:LIn,(∃x∈l,fH lk ls a x)→∃m,fH lk ls a m∧∀y∈l,fH lk ls a y→m≤y:=fun l=>by
  induction l with
  | nil=>rintro⟨x,hx,_⟩;simp at hx
  | cons b l ih =>
   rintro⟨x,hx,hc⟩;by_cases hl:∃x∈l,fH lk ls a x
   ·obtain⟨m,hm,hle⟩:=ih hl;by_cases hb:fH lk ls a b∧b<m
    ·exact⟨b,hb.1,fun y hy hcy=>by
      rcases List.mem_cons.1 hy with rfl|hy
      ·exact Int.le_refl _
      ·have:=hle y hy hcy;omega⟩
    ·exact⟨m,hm,fun y hy hcy=>by
      rcases List.mem_cons.1 hy with rfl|hy
      ·exact Int.not_lt.1 (fun hlt=>hb ⟨hcy,hlt⟩)
      ·exact hle y hy hcy⟩
   ·rcases List.mem_cons.1 hx with rfl|hx
    ·exact⟨x,hc,fun y hy hcy=>by
      rcases List.mem_cons.1 hy with rfl|hy
      ·exact Int.le_refl _
      ·exact absurd ⟨y,hy,hcy⟩ hl⟩
    ·exact absurd ⟨x,hx,hc⟩ hl
 obtain⟨m,hm,hle⟩:=key ls ⟨a,ha,.refl ha⟩;exact⟨m,hm,fun y hy=>hle y hy.right hy⟩
theorem Oj {h:Int→Int}(H:HdI lk ls h)(hno:∃x∈ls,¬Low lk ls h x):(lows lk ls h).length<(lows lk ls (uZ lk ls h)).length:=by
 obtain⟨x,hx,hnx⟩:=hno;obtain⟨m,hm,hle⟩:=Rw (lk:=lk) hx;have hml:Low lk ls h m:=fun y hy=>Int.le_trans (H.le m hm.right) (hle y (hm.trans hy))
 obtain⟨a,b,ha,hb,hl,hla,hnb⟩:=Xb hm.symm hml hnx;refine(u7 ls (fun z hz hp=>?_)).2 ⟨b,hb,by simpa using hnb, ?_⟩
 ·simp only[decide_eq_true_eq]at hp ⊢;exact hp.next H hz
 ·simp only[decide_eq_true_eq];intro y hy;exact Int.le_trans (H.round.2.2 a ha b hb hl) (hla y (.trans (.step (.refl ha) hb hl) hy))
theorem Rx (k:Nat):(∀x∈ls,Low lk ls (fX lk ls k) x)∨k≤(lows lk ls (fX lk ls k)).length:=by
 induction k with
 | zero=>exact .inr (Nat.zero_le _)
 | succ k ih =>
  rw[sM];by_cases hall:∀x∈ls,Low lk ls (fX lk ls k) x
  ·exact .inl (fun x hx=>(hall x hx).next (HdI.rounds k) hx)
  ·have hno:∃x∈ls,¬Low lk ls (fX lk ls k) x:=by
    obtain⟨x,hx⟩:=Classical.not_forall.1 hall;exact⟨x,Classical.not_imp.1 hx⟩
   have:=Oj (HdI.rounds k) hno;rcases ih with ih|ih
   ·exact absurd ih hall
   ·exact .inr (by omega)
theorem Ol:∀x∈ls,Low lk ls (fX lk ls ls.length) x:=by
 rcases Rx (lk:=lk) (ls:=ls) ls.length with h|h
 ·exact h
 ·have hl:(lows lk ls (fX lk ls ls.length)).length=ls.length:=Nat.le_antisymm (List.length_filter_le _ _) h;have:=(List.filter_eq_self (l:=ls) (p:=fun x=>decide (Low lk ls (fX lk ls ls.length) x))).1 ((List.filter_sublist).eq_of_length hl);exact fun x hx=>by simpa using this x hx
def vA (ls:LIn)(h:Int→Int):LLi:=(ls.map fun m=>ls.filter fun a=>h a==m).filter fun l=>decide (0<l.length)
theorem iZ (hp:ls.Pairwise (·< ·)):uY lk ls (vA ls (fX lk ls ls.length)):=by
 obtain⟨h,hh⟩:∃h,fX lk ls ls.length=h:=⟨_,rfl⟩;have H:=HdI.rounds (lk:=lk) (ls:=ls) ls.length;have lo:=Ol (lk:=lk) (ls:=ls);rw[hh]at H lo ⊢;have hsame:∀x∈ls,∀y∈ls,h x=h y↔fH lk ls x y:=fun x hx y hy=>⟨fun e=>(H.con x hx).trans (by rw[e];exact(H.con y hy).symm),fun hc=>Int.le_antisymm (lo x hx _ (hc.trans (H.con y hy))) (lo y hy _ (hc.symm.trans (H.con x hx)))⟩
 have hhm:∀x∈ls,h (h x)=h x:=fun x hx=>((hsame (h x) (H.con x hx).right x hx).2 (H.con x hx).symm)
 have mem:∀l,l∈vA ls h↔∃m∈ls,l=ls.filter (fun a=>h a==m)∧l≠[]:=fun l=>by
  unfold vA;rw[List.mem_filter,List.mem_map];constructor
  ·rintro⟨⟨m,hm,rfl⟩,h0⟩;exact⟨m,hm,rfl,fun e=>by rw[e]at h0;simp at h0⟩
  ·rintro⟨m,hm,rfl,h0⟩;exact⟨⟨m,hm,rfl⟩,by simpa using List.length_pos_iff.2 h0⟩
 have head:∀m,∀l,l=ls.filter (fun a=>h a==m)→l≠[]→l.head?=some m:=fun m l e h0=>by
  obtain⟨x,hx⟩:=List.exists_mem_of_ne_nil l h0;have hx2:=hx;rw[e,List.mem_filter]at hx2;have hxm:h x=m:=by simpa using hx2.2
  have hml:m∈ls:=by rw[←hxm];exact(H.con x hx2.1).right
  have hm:m∈l:=by
   rw[e,List.mem_filter];refine⟨hml, ?_⟩;have:=hhm x hx2.1;rw[hxm]at this;simpa using this
  have hasc:l.Pairwise (·< ·):=by rw[e];exact hp.filter _
  cases hl:l with
  | nil=>exact absurd hl h0
  | cons b l' =>
   have hb:b∈l:=by rw[hl];simp
   rw[e,List.mem_filter]at hb;have hbm:h b=m:=by simpa using hb.2
   have:=H.le b hb.1;rw[hl]at hm hasc;rcases List.mem_cons.1 hm with e2|h2
   ·rw[e2];rfl
   ·have:=(List.pairwise_cons.1 hasc).1 m h2;omega
 refine⟨fun g hg=>?_,fun g hg=>?_,fun g hg x hx=>?_,fun x hx=>?_,fun g hg x hx y hy=>?_, ?_⟩
 ·obtain⟨m,_,rfl,_⟩:=(mem g).1 hg;exact hp.filter _
 ·obtain⟨m,_,_,h0⟩:=(mem g).1 hg;exact h0
 ·obtain⟨m,_,rfl,_⟩:=(mem g).1 hg;exact(List.mem_filter.1 hx).1
 ·have hm:x∈ls.filter (fun a=>h a==h x):=List.mem_filter.2 ⟨hx,by simp⟩;exact⟨_,(mem _).2 ⟨h x,(H.con x hx).right,rfl,fun e=>by rw[e]at hm;simp at hm⟩,hm⟩
 ·obtain⟨m,_,rfl,_⟩:=(mem g).1 hg;obtain⟨hx1,hx2⟩:=List.mem_filter.1 hx;have hxm:h x=m:=by simpa using hx2
  rw[List.mem_filter,←hsame x hx1 y hy];constructor
  ·rintro⟨_,h2⟩;rw[hxm];exact(by simpa using h2:h y=m).symm
  ·intro e;exact⟨hy,by rw[←e,hxm];simp⟩
 ·unfold vA;rw[List.pairwise_filter,List.pairwise_map];have pos:∀l:LIn,decide (0<l.length)=true→l≠[]:=fun l h0 e=>by rw[e]at h0;simp at h0
  exact hp.imp (fun{m m'} hlt h1 h2=>⟨m,m',head m _ rfl (pos _ h1),head m' _ rfl (pos _ h2),hlt⟩)
end
end Go.Proofs.YtfmnagcglhlicaaGreat
namespace Go.Proofs.YtfmnagcglhlicaaGreat
inductive Via (R:Int→Int→Prop)(K:LIn):Int→Int→Prop
 | one {a b:Int} (h:R a b):Via R K a b
 | step {a c b:Int} (h:Via R K a c) (hc:c∈K) (hr:R c b):Via R K a b
section
variable {R:Int→Int→Prop} {K:LIn}
theorem Via.trans {a c b:Int}(h:Via R K a c)(hc:c∈K)(g:Via R K c b):Via R K a b:=by
 induction g with
 | one hr=>exact .step h hc hr
 | step _ hm hr ih=>exact .step ih hm hr
theorem Via.more {L:LIn}(hs:∀x∈K,x∈L){a b:Int}(h:Via R K a b):Via R L a b:=by
 induction h with
 | one hr=>exact .one hr
 | step _ hm hr ih=>exact .step ih (hs _ hm) hr
theorem Via.split {k a b:Int}(h:Via R (K++[k]) a b):Via R K a b∨(Via R K a k∧Via R K k b):=by
 induction h with
 | one hr=>exact .inl (.one hr)
 | @step c b h hm hr ih =>
  rcases List.mem_append.1 hm with hm|hm
  ·rcases ih with ih|⟨i1,i2⟩
   ·exact .inl (.step ih hm hr)
   ·exact .inr ⟨i1,.step i2 hm hr⟩
  ·have e:=List.mem_singleton.1 hm;subst e;rcases ih with ih|⟨i1,_⟩
   ·exact .inr ⟨ih,.one hr⟩
   ·exact .inr ⟨i1,.one hr⟩
end
def x8 (S:Int→Int→Bool)(t:Int×Int×Int):Int→Int→Bool:=if S t.2.1 t.1=true∧S t.1 t.2.2=true then fun a b=>(decide (a=t.2.1∧b=t.2.2))||S a b else S
section
variable {R:Int→Int→Prop} {ls K:LIn} {k:Int}
structure J9 (R:Int→Int→Prop)(K:LIn)(k:Int)(S:Int→Int→Bool):Prop where
 snd:∀a b,S a b=true→Via R (K++[k]) a b
 old:∀a b,Via R K a b→S a b=true
theorem J9.start {S:Int→Int→Bool}(h:∀a b,S a b=true↔Via R K a b):J9 R K k S:=⟨fun a b hs=>((h a b).1 hs).more (fun x hx=>by simp[hx]),fun a b hv=>(h a b).2 hv⟩
theorem J9.next {S:Int→Int→Bool}(h:J9 R K k S)(a b:Int):J9 R K k (x8 S (k,a,b))∧(∀x y,S x y=true→x8 S (k,a,b) x y=true)∧(Via R K a k→Via R K k b→x8 S (k,a,b) a b=true):=by
 have grow:∀x y,S x y=true→x8 S (k,a,b) x y=true:=fun x y hs=>by
  unfold x8;split
  ·simp[hs]
  ·exact hs
 refine⟨⟨fun x y hs=>?_,fun x y hv=>grow x y (h.old x y hv)⟩,grow,fun h1 h2=>?_⟩
 ·unfold x8 at hs;split at hs
  ·rename_i hc
   simp only[Bool.or_eq_true,decide_eq_true_eq]at hs;rcases hs with⟨rfl,rfl⟩|hs
   ·exact(h.snd _ _ hc.1).trans (by simp) (h.snd _ _ hc.2)
   ·exact h.snd x y hs
  ·exact h.snd x y hs
 ·unfold x8;rw[if_pos ⟨h.old _ _ h1,h.old _ _ h2⟩];simp
theorem J9.all:∀(l:List (Int×Int)) {S:Int→Int→Bool},J9 R K k S→J9 R K k (l.foldl (fun S p=>x8 S (k,p.1,p.2)) S)∧(∀x y,S x y=true→l.foldl (fun S p=>x8 S (k,p.1,p.2)) S x y=true)∧∀p∈l,Via R K p.1 k→Via R K k p.2→l.foldl (fun S p=>x8 S (k,p.1,p.2)) S p.1 p.2=true
 | [],S,h=>⟨h,fun x y hs=>hs,fun p hp=>by simp at hp⟩
 | q::l,S,h=>by
  obtain⟨n1,n2,n3⟩:=h.next q.1 q.2;obtain⟨a1,a2,a3⟩:=J9.all l n1;rw[List.foldl_cons];refine⟨a1,fun x y hs=>a2 x y (n2 x y hs),fun p hp h1 h2=>?_⟩;rcases List.mem_cons.1 hp with rfl|hp
  ·exact a2 _ _ (n3 h1 h2)
  ·exact a3 p hp h1 h2
theorem J9.phase {S:Int→Int→Bool}(hR:∀a b,R a b→a∈ls∧b∈ls)(h:∀a b,S a b=true↔Via R K a b)(a b:Int):(Oi ls).foldl (fun S p=>x8 S (k,p.1,p.2)) S a b=true↔Via R (K++[k]) a b:=by
 obtain⟨a1,a2,a3⟩:=J9.all (Oi ls) (J9.start (k:=k) h);refine⟨a1.snd a b,fun hv=>?_⟩;rcases hv.split with h1|⟨h1,h2⟩
 ·exact a1.old a b h1
 ·have la:∀{x y:Int},Via R K x y→x∈ls∧y∈ls:=fun{x y} hv=>by
   induction hv with
   | one hr=>exact hR _ _ hr
   | step _ _ hr ih=>exact⟨ih.1,(hR _ _ hr).2⟩
  exact a3 (a,b) (qL.2 ⟨(la h1).1,(la h2).2⟩) h1 h2
def eU (ls:LIn)(S:Int→Int→Bool)(K:LIn):Int→Int→Bool:=K.foldl (fun S k=>(Oi ls).foldl (fun S p=>x8 S (k,p.1,p.2)) S) S
theorem Om {S:Int→Int→Bool}(hR:∀a b,R a b→a∈ls∧b∈ls)(h:∀a b,S a b=true↔R a b):∀K:LIn,∀a b,eU ls S K a b=true↔Via R K a b:=by
 have h0:∀a b,S a b=true↔Via R [] a b:=fun a b=>(h a b).trans ⟨fun hr=>.one hr,fun hv=>by
  cases hv with
  | one hr=>exact hr
  | step _ hm _=>simp at hm⟩
 have key:∀(K' K:LIn) (S:Int→Int→Bool),(∀a b,S a b=true↔Via R K a b)→∀a b,eU ls S K' a b=true↔Via R (K++K') a b:=fun K'=>by
  induction K' with
  | nil=>intro K S hs a b;simpa [eU] using hs a b
  | cons k K' ih =>
   intro K S hs a b;have:=ih (K++[k]) _ (J9.phase (k:=k) hR hs) a b;simpa [eU] using this
 intro K a b;simpa using key K [] S h0 a b
end
section
variable {R:Int→Int→Prop} {ls:LIn} {a:Int} {out todo:LIn}
end
end Go.Proofs.YtfmnagcglhlicaaGreat
namespace Go.Proofs.YtfmnagcglhlicaaGreat
def hdG (g:LIn):Int:=g.headD 0
section
variable {lk:Int→Int→Bool} {ls:LIn} {G:LLi}
theorem rN {g:LIn}(h:g≠[]):hdG g∈g:=by
 cases g with
 | nil=>exact absurd rfl h
 | cons a g=>simp[hdG]
theorem uY.same (h:uY lk ls G){g g':LIn}(hg:g∈G)(hg':g'∈G){y:Int}(h1:y∈g)(h2:y∈g'):g=g' :=
 mP (h.asc g hg) (h.asc g' hg') (fun z=>⟨fun hz=>(h.cls g' hg' y h2 z (h.sub g hg z hz)).2 ((h.cls g hg y h1 z (h.sub g hg z hz)).1 hz),fun hz=>(h.cls g hg y h1 z (h.sub g' hg' z hz)).2 ((h.cls g' hg' y h2 z (h.sub g' hg' z hz)).1 hz)⟩)
theorem uY.nodup (h:uY lk ls G):G.Nodup:=by
 refine h.ord.imp (fun{a b} hab e=>?_);subst e;obtain⟨x,y,e1,e2,hlt⟩:=hab;rw[e1]at e2;injection e2 with e2;omega
end
section
variable {lds:Int→Int→Bool} {ls:LIn} {G:LLi}
def eE (lds:Int→Int→Bool)(a b:Int):Bool:=lds a b==lds b a
theorem Ry (a b:Int):lkB (eE lds) a b=true↔lds a b=lds b a:=by
 unfold lkB eE;rw[Bool.or_eq_true,beq_iff_eq,beq_iff_eq];exact⟨fun h=>h.elim id Eq.symm,.inl⟩
theorem V9 (h:uY (eE lds) ls G){g g':LIn}(hg:g∈G)(hg':g'∈G)(hne:g≠g'){x y:Int}(hx:x∈g)(hy:y∈g'):lds x y=!lds y x:=by
 have:lds x y≠lds y x:=fun e=>hne (h.same hg hg' ((h.cls g hg x hx y (h.sub g' hg' y hy)).2 (.step (.refl (h.sub g hg x hx)) (h.sub g' hg' y hy) ((Ry x y).2 e))) hy)
 cases e1:lds x y <;> cases e2:lds y x <;> simp_all
def ltG (lds:Int→Int→Bool)(g g':LIn):Prop:=lds (hdG g) (hdG g')=true
theorem On (h:uY (eE lds) ls G){g g':LIn}(hg:g∈G)(hg':g'∈G)(hne:g≠g'):ltG lds g g'↔¬ltG lds g' g:=by
 unfold ltG;rw[V9 h hg hg' hne (rN (h.ne g hg)) (rN (h.ne g' hg'))];cases lds (hdG g') (hdG g) <;> simp
theorem Oo (ht:∀a b c,a∈ls→b∈ls→c∈ls→lds a b=true→lds b c=true→lds a c=true)(h:uY (eE lds) ls G){a b c:LIn}(ha:a∈G)(hb:b∈G)(hc:c∈G)(h1:ltG lds a b)(h2:ltG lds b c):ltG lds a c :=
 ht _ _ _ (h.sub a ha _ (rN (h.ne a ha))) (h.sub b hb _ (rN (h.ne b hb))) (h.sub c hc _ (rN (h.ne c hc))) h1 h2
theorem x9 (h:uY (eE lds) ls G):∀{M N:LLi},(∀x∈M,x∈G)→M.Nodup→N.Nodup→M.Pairwise (ltG lds)→N.Pairwise (ltG lds)→(∀x,x∈M↔x∈N)→M=N
 | [],[],_,_,_,_,_,_=>rfl
 | [],y::N,_,_,_,_,_,hm=>by have:=(hm y).2 (by simp);simp at this
 | x::M,[],_,_,_,_,_,hm=>by have:=(hm x).1 (by simp);simp at this
 | x::M,y::N,hs,dM,dN,hM,hN,hm=>by
  obtain⟨m1,m2⟩:=List.pairwise_cons.1 hM;obtain⟨n1,n2⟩:=List.pairwise_cons.1 hN;obtain⟨d1,d2⟩:=List.nodup_cons.1 dM;obtain⟨d3,d4⟩:=List.nodup_cons.1 dN;have e:x=y:=by
   refine Classical.byContradiction (fun hne=>?_);have hx:x∈N:=(List.mem_cons.1 ((hm x).1 (by simp))).resolve_left hne;have hy:y∈M:=(List.mem_cons.1 ((hm y).2 (by simp))).resolve_left (fun e=>hne e.symm);exact(On h (hs x (by simp)) (hs y (by simp[hy])) hne).1 (m1 y hy) (n1 x hx)
  subst e;rw[x9 h (fun z hz=>hs z (by simp[hz])) d2 d4 m2 n2 (fun z=>⟨fun hz=>((List.mem_cons.1 ((hm z).1 (by simp[hz])))).resolve_left (fun e=>d1 (e▸hz)),fun hz=>((List.mem_cons.1 ((hm z).2 (by simp[hz])))).resolve_left (fun e=>d3 (e▸hz))⟩)]
end
end Go.Proofs.YtfmnagcglhlicaaGreat
namespace Go.Proofs.YtfmnagcglhlicaaGreat
theorem tP:∀{xs ys:LIn},xs.Pairwise (·< ·)→ys.Pairwise (·< ·)→(∀x,x∈xs↔x∈ys)→xs=ys
 | [],[],_,_,_=>rfl
 | [],y::ys,_,_,h=>by have:=(h y).2 (by simp);simp at this
 | x::xs,[],_,_,h=>by have:=(h x).1 (by simp);simp at this
 | x::xs,y::ys,hx,hy,h=>by
  obtain⟨hx1,hx2⟩:=List.pairwise_cons.1 hx;obtain⟨hy1,hy2⟩:=List.pairwise_cons.1 hy;have e:x=y:=by
   rcases List.mem_cons.1 ((h x).1 (by simp))with e|e
   ·exact e
   ·rcases List.mem_cons.1 ((h y).2 (by simp))with e'|e'
    ·exact e'.symm
    ·have a:=hy1 x e;have b:=hx1 y e';omega
  subst e;rw[tP hx2 hy2 (fun z=>?_)];constructor
  ·intro hz;rcases List.mem_cons.1 ((h z).1 (by simp[hz]))with e|e
   ·have:=hx1 z hz;omega
   ·exact e
  ·intro hz;rcases List.mem_cons.1 ((h z).2 (by simp[hz]))with e|e
   ·have:=hy1 z hz;omega
   ·exact e
end Go.Proofs.YtfmnagcglhlicaaGreat
namespace Go.Proofs.YtfmnagcglhlicaaGreat
def UU (a:Int):Bool:=decide (a<1)||decide (26<a)
def rO (t:LIn):Bool:=decide (60<t.length)||t.any UU
def cP (log:LLi):Int:=if 60<log.length then 4 else if log.any rO=true then 2 else 0
theorem F9 {log:LLi}(h:60<log.length):cP log=4:=by rw[cP,if_pos h]
theorem Ko {log:LLi}(h:¬60<log.length){t:LIn}(ht:t∈log)(hb:rO t=true):cP log=2:=by
 rw[cP,if_neg h,if_pos (List.any_eq_true.2 ⟨t,ht,hb⟩)]
theorem Oq {log:LLi}(h:¬60<log.length)(hb:∀(j:Nat) (t:LIn),j<log.length→log[j]?=some t→rO t=false):cP log=0:=by
 rw[cP,if_neg h,if_neg];rw[Bool.not_eq_true,List.any_eq_false];intro t ht;obtain⟨j,hj,rfl⟩:=List.getElem_of_mem ht;rw[hb j _ hj (List.getElem?_eq_getElem hj)];simp
theorem vB {log:LLi}(h:cP log=0):log.length≤60∧∀t∈log,t.length≤60∧∀x∈t,1≤x∧x≤26:=by
 unfold cP at h;split at h
 ·omega
 ·split at h
  ·omega
  ·rename_i h1 h2
   refine⟨by omega,fun t ht=>?_⟩;rw[Bool.not_eq_true,List.any_eq_false]at h2;have:=h2 t ht;unfold rO at this;rw[Bool.not_eq_true,Bool.or_eq_false_iff,decide_eq_false_iff_not,List.any_eq_false]at this;refine⟨by omega,fun x hx=>?_⟩;have:=this.2 x hx;unfold UU at this;simp only[Bool.or_eq_true,decide_eq_true_eq,not_or]at this;omega
def inS (labels:LIn)(a:Int):Bool:=labels.any fun y=>a==y
def eP (log:LLi)(labels:LIn):LLi:=log.map fun t=>t.filter fun a=>inS labels a
theorem Kq (log:LLi)(labels t:LIn):eP (log++[t]) labels=eP log labels++[t.filter fun a=>inS labels a]:=by simp[eP]
theorem vC {α:Type}{R:α→α→Prop}(asy:∀a b,R a b→R b a→False):∀{xs ys:List α},xs.Pairwise R→ys.Pairwise R→(∀x,x∈xs↔x∈ys)→xs=ys
 | [],[],_,_,_=>rfl
 | [],y::ys,_,_,h=>by have:=(h y).2 (by simp);simp at this
 | x::xs,[],_,_,h=>by have:=(h x).1 (by simp);simp at this
 | x::xs,y::ys,hx,hy,h=>by
  obtain⟨hx1,hx2⟩:=List.pairwise_cons.1 hx;obtain⟨hy1,hy2⟩:=List.pairwise_cons.1 hy;have e:x=y:=by
   rcases List.mem_cons.1 ((h x).1 (by simp))with e|e
   ·exact e
   ·rcases List.mem_cons.1 ((h y).2 (by simp))with e'|e'
    ·exact e'.symm
    ·exact(asy _ _ (hy1 x e) (hx1 y e')).elim
  subst e;rw[vC asy hx2 hy2 (fun z=>?_)];constructor
  ·intro hz;rcases List.mem_cons.1 ((h z).1 (by simp[hz]))with e|e
   ·subst e;exact(asy _ _ (hx1 z hz) (hx1 z hz)).elim
   ·exact e
  ·intro hz;rcases List.mem_cons.1 ((h z).2 (by simp[hz]))with e|e
   ·subst e;exact(asy _ _ (hy1 z hz) (hy1 z hz)).elim
   ·exact e
def lZ (p q:Int×Int):Prop:=p.1<q.1∨(p.1=q.1∧p.2<q.2)
theorem Do (p q:Int×Int)(h:lZ p q)(g:lZ q p):False:=by unfold lZ at h g;omega
def VI (log:LLi)(x:Int):Prop:=∃t∈log,x∈t
def yA (log:LLi)(x:Int):Prop:=∃t∈log,t.head?=some x
def Kr (log:LLi)(x:Int):Prop:=∃t∈log,t.getLast?=some x
def VJ (log:LLi)(p:Int×Int):Prop:=∃t∈log,∃k:Nat,t[k]?=some p.1∧t[k+1]?=some p.2
structure aU where
 labels:LIn
 first:LIn
 last:LIn
 behind:List (Int×Int)
def Iu:aU:=⟨[],[],[],[]⟩
def cZ (log:LLi)(p:aU):Prop :=
 (p.labels.Pairwise (·< ·)∧∀x,x∈p.labels↔VI log x)∧(p.first.Pairwise (·< ·)∧∀x,x∈p.first↔yA log x)∧(p.last.Pairwise (·< ·)∧∀x,x∈p.last↔Kr log x)∧(p.behind.Pairwise lZ∧∀x,x∈p.behind↔VJ log x)
theorem cZ.uniq {log:LLi}{p q:aU}(h:cZ log p)(g:cZ log q):p=q:=by
 obtain⟨⟨h1,h2⟩,⟨h3,h4⟩,⟨h5,h6⟩,⟨h7,h8⟩⟩:=h;obtain⟨⟨g1,g2⟩,⟨g3,g4⟩,⟨g5,g6⟩,⟨g7,g8⟩⟩:=g;have e1:p.labels=q.labels:=tP h1 g1 (fun x=>(h2 x).trans (g2 x).symm);have e2:p.first=q.first:=tP h3 g3 (fun x=>(h4 x).trans (g4 x).symm);have e3:p.last=q.last:=tP h5 g5 (fun x=>(h6 x).trans (g6 x).symm);have e4:p.behind=q.behind:=vC Do h7 g7 (fun x=>(h8 x).trans (g8 x).symm);cases p;cases q
 simp only at e1 e2 e3 e4;subst e1 e2 e3 e4;rfl
def OfP (log:LLi)(p:aU)(e:Int):Prop:=e=cP log∧if cP log=0 then cZ log p else p=Iu
end Go.Proofs.YtfmnagcglhlicaaGreat
