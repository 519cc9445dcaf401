/- Texts melted into one: The plain law of what a desk's case is while things go on: with what the open items took it is a mark of the explored space; what was ended, in its order, is a run of the net. No program in sight. | The plain law of TopSaid: the labels of what was ended fit the net at no cost. -/
import Derived.Test.YtfmnagcglhlicaaGreatTopSaidK46
namespace Go.Proofs.YtfmnagcglhlicaaGreat
section
variable {N:Zau}
abbrev Zcj (N:Zau)(t:Int):Zak:=N.trans.getD t.toNat default
theorem Zgj {t:Int}(h:inT N t):N.trans[t.toNat]?=some (Zcj N t):=by
 have h1:t.toNat<N.trans.length:=by have:=h.1;have:=h.2;omega
 unfold Zcj
 rw[List.getD_eq_getElem?_getD,List.getElem?_eq_getElem h1]
 rfl
theorem ZrA (hN:Za8 N=true){t:Int}(h:inT N t):∀p,0≤atL (Zcj N t).pre p∧0≤atL (Zcj N t).post p:=fun p=>by
 have h1:=((Zar N).1 hN).2.2.2 _ (List.mem_of_getElem? (Zgj h))
 have h2:=(ZbQ _ _).1 h1
 exact⟨(ZaZ (Zbj h2.2.2.2.2.1) p).1,(ZaZ (Zbj h2.2.2.2.2.2) p).1⟩
theorem Zp7 (a b:List Int)(t:Int)(p:Nat):atL (Zdt a b t) p=atL a p+t*atL b p:=by
 by_cases hp:p<max a.length b.length
 ·exact Zda (Zi0 hp)
 ·rw[Zdb (by rw[ZdM];omega),Zdb (xs:=a) (by omega),Zdb (xs:=b) (by omega)]
  simp
theorem ZsN {a b:List Int}(hl:a.length=b.length)(h:∀p,atL a p=atL b p):a=b:=by
 apply List.ext_getElem hl
 intro i h1 h2
 have:=h i
 unfold atL at this
 simpa [List.getD_eq_getElem?_getD,List.getElem?_eq_getElem h1,List.getElem?_eq_getElem h2] using this
structure Zoa (N:Zau)(c:Zay)(k t:Int)(c':Zay):Prop where
 ok:Zbb N c=true
 kind:1≤k∧k≤4
 tran:inT N t
 seen:k=1↔(Zcj N t).label=0
 cov:∀p,atL (ZeN k (Zcj N t)) p≤atL c.mark p
 mark:∀p,atL c'.mark p=atL c.mark p-atL (ZeN k (Zcj N t)) p+atL (ZdO k (Zcj N t)) p
 busy:c'.busy=c.busy.set t.toNat (atL c.busy t.toNat+ZjQ k)
 ok':Zbb N c'=true
theorem ZjH {c:Zay}{k t:Int}(h:(doL N c k t).2=0):Zoa N c k t (doL N c k t).1:=by
 have h9:=Zmm h
 unfold doL at h h9 ⊢
 split at h
 ·rename_i hc
  rw[if_pos hc]at h9 ⊢
  split at h
  ·rename_i hk
   rw[if_pos hk]at h9 ⊢
   split at h
   ·rename_i ht
    rw[if_pos ht]at h9 ⊢
    split at h
    ·rename_i hl
     rw[if_pos hl]at h9 ⊢
     unfold Zib at h h9 ⊢
     split at h
     ·rename_i h1
      rw[if_pos h1]at h9 ⊢
      split at h
      ·rename_i h2
       rw[if_pos h2]at h9 ⊢
       refine⟨hc,hk,ht,hl,(ZbK _ _).1 h1.1,fun p=>?_,rfl,h9⟩
       show atL (Zdt (Zdt c.mark (ZeN k (Zcj N t)) (-1)) (ZdO k (Zcj N t)) 1) p=_
       simp only[Zp7]
       omega
      ·simp at h
     ·simp at h
    ·simp at h
   ·simp at h
  ·simp at h
 ·simp at h
theorem Zoa.right {c c':Zay}{k t:Int}(h:Zoa N c k t c'):Za8 N=true∧c'.mark.length=c.mark.length:=by
 have h1:=(ZaV _ _).1 h.ok
 have h2:=(ZaV _ _).1 h.ok'
 exact⟨h1.1,by omega⟩
theorem ZsO {m m':List Int}{t:Int}(h:Zbu N m t=(m',0)):ZbI N m=true∧ZbI N m'=true∧inT N t∧(∀p,atL (Zcj N t).pre p≤atL m p)∧∀p,atL m' p=atL m p-atL (Zcj N t).pre p+atL (Zcj N t).post p:=by
 have hf:ZbI N m=true:=by
  cases hf:ZbI N m
  ·rw[Zos hf]at h;cases h
  ·rfl
 have h9:=Zhg hf (t:=t) (by rw[h])
 rw[h]at h9
 refine⟨hf,h9.1,h9.2, ?_⟩
 unfold Zbu at h
 rw[if_pos hf,if_pos h9.2]at h
 unfold ZeL at h
 split at h
 ·rename_i h1
  split at h
  ·injection h with h _
   subst h
   refine⟨(ZbK _ _).1 h1,fun p=>?_⟩
   show atL (Zdt (Zdt m (Zcj N t).pre (-1)) (Zcj N t).post 1) p=_
   simp only[Zp7]
   omega
  ·cases h
 ·cases h
theorem ZrB {m:List Int}{t:Int}(hf:ZbI N m=true)(ht:inT N t)(hc:∀p,atL (Zcj N t).pre p≤atL m p):(Zbu N m t).2≠3:=by
 unfold Zbu
 rw[if_pos hf,if_pos (show 0≤t∧t<(N.trans.length:Int)from ht)]
 unfold ZeL
 rw[if_pos (show ZaU m (N.trans.getD t.toNat default).pre=true from(ZbK _ _).2 hc)]
 split
 ·show ¬(0:Int)=3;decide
 ·show ¬(4:Int)=3;decide
def Zon (f:Za3→Int)(items:List Za3):Int:=(items.map f).sum
theorem Zp8 (f:Za3→Int)(l:List Za3)(x:Za3):Zon f (l++[x])=Zon f l+f x:=by
 unfold Zon;simp
theorem Zc6 (f:Za3→Int)(l:List Za3)(x:Za3):Zon f (x::l)=f x+Zon f l:=by
 unfold Zon;simp
theorem Zg5 (f:Za3→Int):∀(l:List Za3) (i:Nat) (x y:Za3),l[i]?=some y→Zon f (l.set i x)=Zon f l-f y+f x
 | [],i,x,y,h=>by simp at h
 | a::l,0,x,y,h=>by
  simp at h
  subst h
  rw[List.set_cons_zero,Zc6,Zc6]
  omega
 | a::l,i+1,x,y,h=>by
  simp at h
  rw[List.set_cons_succ,Zc6,Zc6,Zg5 f l i x y h]
  omega
theorem Zft {f:Za3→Int}:∀{l:List Za3},(∀x∈l,0≤f x)→0≤Zon f l
 | [],_=>Int.le_refl _
 | a::l,h=>by
  have h1:=h a (by simp)
  have h2:=Zft (l:=l) (fun x hx=>h x (by simp[hx]))
  rw[Zc6]
  omega
theorem Zp9 {f:Za3→Int}:∀{l:List Za3} {x:Za3},(∀x∈l,0≤f x)→x∈l→f x≤Zon f l
 | a::l,x,h,hx=>by
  have h1:=h a (by simp)
  have h3:=Zft (l:=l) (fun x hx=>h x (by simp[hx]))
  rw[Zc6]
  rcases List.mem_cons.1 hx with rfl|hx
  ·omega
  ·have h2:=Zp9 (l:=l) (fun x hx=>h x (by simp[hx])) hx
   omega
theorem ZkW {f:Za3→Int}:∀{l:List Za3},(∀x∈l,f x=0)→Zon f l=0
 | [],_=>rfl
 | a::l,h=>by rw[Zc6,h a (by simp),ZkW (fun x hx=>h x (by simp[hx]))];rfl
def Zqq (N:Zau)(p:Nat)(it:Za3):Int:=if it.open_=true then atL (Zcj N it.tran).pre p else 0
structure ZjI (N:Zau)(k:ZaB)(m:List Int):Prop where
 len:m.length=k.case_.mark.length
 at_:∀p,atL m p=atL k.case_.mark p+Zon (Zqq N p) k.items
theorem ZhX (hN:Za8 N=true){items:List Za3}(h:∀it∈items,inT N it.tran)(p:Nat):∀x∈items,0≤Zqq N p x:=fun x hx=>by
 unfold Zqq
 split
 ·exact(ZrA hN (h x hx) p).1
 ·omega
theorem ZhY (T:Zak):ZeN 2 T=T.pre∧ZdO 2 T=[]:=⟨rfl,rfl⟩
theorem ZkX (T:Zak):ZeN 3 T=[]∧ZdO 3 T=T.post:=⟨rfl,rfl⟩
theorem ZiW (T:Zak):ZeN 4 T=[]∧ZdO 4 T=T.pre:=⟨rfl,rfl⟩
theorem Zgk (T:Zak):ZeN 1 T=T.pre∧ZdO 1 T=T.post:=⟨rfl,rfl⟩
theorem Zmd (p:Nat):atL [] p=0:=Zdb (by simp)
end
inductive Zs4 (N:Zau)(k:ZaB)(o:POp):ZaB→Int→Prop
 | no {e:Int}:e≠0→Zs4 N k o k e
 | begin_ {c':Zay}:o.kind=1→Zoa N k.case_ 2 o.tran c'→Zs4 N k o ⟨c',k.items++[⟨o.user,o.tran,true⟩]⟩ 0
 | give {it:Za3} {u:Int}:o.kind=4→k.items[o.item.toNat]?=some it→Zs4 N k o ⟨k.case_,k.items.set o.item.toNat ⟨u,it.tran,it.open_⟩⟩ 0
 | change {it:Za3} {c':Zay}:o.kind=2∨o.kind=3→0≤o.item→k.items[o.item.toNat]?=some it→it.open_=true→Zbd k o=it→Zoa N k.case_ (ZfR o) it.tran c'→Zs4 N k o ⟨c',k.items.set o.item.toNat ⟨it.user,it.tran,false⟩⟩ 0
 | skip {c':Zay}:o.kind=5→Zoa N k.case_ 1 o.tran c'→Zs4 N k o ⟨c',k.items⟩ 0
theorem ZhZ {N:Zau}{roles:List (List Int)}(k:ZaB)(o:POp):Zs4 N k o (Za4 N roles k o).1 (Za4 N roles k o).2.2:=by
 unfold Za4
 split
 ·rename_i h1
  unfold ZcL
  split
  ·split
   ·split
    ·rename_i hd
     exact .begin_ h1 (ZjH hd)
    ·rename_i hd
     exact .no hd
   ·exact .no (by show ¬(6:Int)=0;decide)
  ·exact .no (by show ¬(3:Int)=0;decide)
 ·split
  ·rename_i h2
   unfold ZbB
   split
   ·rename_i hi
    obtain⟨i1,i2,i3,i4,i5⟩:=Zgi hi
    split
    ·rename_i h4
     split
     ·exact .give h4 i5
     ·exact .no (by show ¬(6:Int)=0;decide)
    ·rename_i h4
     split
     ·rename_i hd
      exact .change (by omega) i1 i5 i3 rfl (ZjH hd)
     ·rename_i hd
      exact .no hd
   ·rename_i hi
    exact .no hi
  ·split
   ·rename_i h5
    unfold ZjE
    split
    ·rename_i hd
     exact .skip h5 (ZjH hd)
    ·rename_i hd
     exact .no hd
   ·exact .no (by show ¬(5:Int)=0;decide)
def ZgE (N:Zau)(k:ZaB)(o:POp)(e:Int):List Int:=if e=0∧o.kind=2 then [(Zcj N (Zbd k o).tran).label]else []
inductive Mv (N:Zau)(s:PSp)(q:Nat):Nat→List Int→Prop
 | stay:Mv N s q q []
 | quiet {j:Nat} {t:Int}:(⟨(q:Int),t,(j:Int)⟩:ZaD)∈s.arcs→(Zcj N t).label=0→Mv N s q j []
 | heard {j:Nat} {t:Int}:(⟨(q:Int),t,(j:Int)⟩:ZaD)∈s.arcs→(Zcj N t).label≠0→Mv N s q j [(Zcj N t).label]
theorem ZfS {N:Zau}{p:Nat}{it:Za3}(h:it.open_=true):Zqq N p it=atL (Zcj N it.tran).pre p:=by unfold Zqq;rw[if_pos h]
theorem ZkY {N:Zau}{p:Nat}{u t:Int}:Zqq N p ⟨u,t,false⟩=0:=by unfold Zqq;rw[if_neg (by simp)]
section
variable {N:Zau} {most:Nat} {m0:List Int} {s:PSp}
theorem ZkZ {q:Nat}{t:Int}(F:Zmc N most m0 s)(hq:q<s.marks.length)(ht:inT N t)(hc:∀p,atL (Zcj N t).pre p≤atL (ZbC s q) p) :
  ∃j:Nat,j<s.marks.length∧(⟨(q:Int),t,(j:Int)⟩:ZaD)∈s.arcs∧(ZbC s j).length=(ZbC s q).length∧(∀p,atL (ZbC s j) p≤1000000)∧∀p,atL (ZbC s j) p=atL (ZbC s q) p-atL (Zcj N t).pre p+atL (Zcj N t).post p:=by
 have hf:=ZkV F.ok hq
 obtain⟨j,hj,e,ha⟩:=F.fire hq ht (ZrB hf ht hc)
 obtain⟨_,h2,_,_,h5⟩:=ZsO e
 have l1:=(ZaG _ _).1 hf
 have l2:=(ZaG _ _).1 h2
 exact⟨j,hj,ha,by omega,fun p=>(ZaZ l2.2.2 p).2,h5⟩
theorem Zqa {roles:List (List Int)}{k:ZaB}{o:POp}{q:Nat}(F:Zmc N most m0 s)(D:Zci N k)(hq:q<s.marks.length)(A:ZjI N k (ZbC s q)) :
  ∃j:Nat,j<s.marks.length∧ZjI N (Za4 N roles k o).1 (ZbC s j)∧Mv N s q j (ZgE N k o (Za4 N roles k o).2.2):=by
 have hN:Za8 N=true:=((ZaV _ _).1 D.case_).1
 have hw:=ZhZ (N:=N) (roles:=roles) k o
 generalize hk':(Za4 N roles k o).1=k' at hw
 generalize he:(Za4 N roles k o).2.2=e at hw
 have quiet:¬(e=0∧o.kind=2)→ZgE N k o e=[]:=fun h=>by unfold ZgE;rw[if_neg h]
 cases hw with
 | no h=>exact⟨q,hq,A,by rw[quiet (fun x=>h x.1)];exact .stay⟩
 | @begin_ c' h1 d =>
  refine⟨q,hq,⟨?_,fun p=>?_⟩,by rw[quiet (fun x=>by omega)];exact .stay⟩
  ·have:=d.right.2;have:=A.len;simp only;omega
  ·have h2:=A.at_ p
   have h3:=d.mark p
   rw[(ZhY _).1,(ZhY _).2,Zmd]at h3
   simp only[Zp8]
   rw[ZfS (it:=⟨o.user,o.tran,true⟩) rfl]
   simp only
   omega
 | @give it u h1 h2 =>
  refine⟨q,hq,⟨A.len,fun p=>?_⟩,by rw[quiet (fun x=>by omega)];exact .stay⟩
  have h3:=A.at_ p
  simp only
  rw[Zg5 _ _ _ _ _ h2]
  have:Zqq N p ⟨u,it.tran,it.open_⟩=Zqq N p it:=rfl
  omega
 | @change it c' h1 h2 h3 h4 h5 d =>
  have hit:=D.trans it (List.mem_of_getElem? h3)
  have hge:=fun p=>Zp9 (ZhX hN D.trans p) (List.mem_of_getElem? h3)
  by_cases hk:o.kind=3
  ·have hkd:ZfR o=4:=by unfold ZfR;rw[if_pos hk]
   rw[hkd]at d
   refine⟨q,hq,⟨?_,fun p=>?_⟩,by rw[quiet (fun x=>by omega)];exact .stay⟩
   ·have:=d.right.2;have:=A.len;simp only;omega
   ·have h6:=A.at_ p
    have h7:=d.mark p
    rw[(ZiW _).1,(ZiW _).2,Zmd]at h7
    simp only
    rw[Zg5 _ _ _ _ _ h3,ZkY,ZfS h4]
    omega
  ·have hkd:ZfR o=3:=by unfold ZfR;rw[if_neg hk]
   rw[hkd]at d
   obtain⟨j,hj,ha,hl,_,hm⟩:=ZkZ F hq hit (fun p=>by
    have h6:=A.at_ p
    have h7:=hge p
    rw[ZfS h4]at h7
    have h8:=ZaZ ((ZaV _ _).1 D.case_).2.2.1 p
    omega)
   refine⟨j,hj,⟨?_,fun p=>?_⟩, ?_⟩
   ·have:=d.right.2;have:=A.len;simp only;omega
   ·have h6:=A.at_ p
    have h7:=d.mark p
    rw[(ZkX _).1,(ZkX _).2,Zmd]at h7
    simp only
    rw[Zg5 _ _ _ _ _ h3,ZkY,ZfS h4,hm p]
    omega
   ·unfold ZgE
    rw[if_pos ⟨rfl,by omega⟩,h5]
    exact .heard ha (fun h=>by have:=d.seen.2 h;omega)
 | @skip c' h1 d =>
  obtain⟨j,hj,ha,hl,_,hm⟩:=ZkZ F hq d.tran (fun p=>by
   have h6:=A.at_ p
   have h7:=Zft (ZhX hN D.trans p)
   have h8:=d.cov p
   rw[(Zgk _).1]at h8
   omega)
  refine⟨j,hj,⟨?_,fun p=>?_⟩,by rw[quiet (fun x=>by omega)];exact .quiet ha (d.seen.1 rfl)⟩
  ·have:=d.right.2;have:=A.len;simp only;omega
  ·have h6:=A.at_ p
   have h7:=d.mark p
   rw[(Zgk _).1,(Zgk _).2]at h7
   rw[hm p]
   simp only
   omega
def ZgF (N:Zau)(roles:List (List Int)):ZaB→List POp→List Int
 | _,[]=>[]
 | k,o::r=>ZgE N k o (Za4 N roles k o).2.2++ZgF N roles (Za4 N roles k o).1 r
inductive Mvs (N:Zau)(s:PSp)(q:Nat):Nat→List Int→Prop
 | nil:Mvs N s q q []
 | snoc {j i:Nat} {w v:List Int}:Mvs N s q j w→Mv N s j i v→Mvs N s q i (w++v)
theorem ZmZ {roles:List (List Int)}(F:Zmc N most m0 s):∀(l:List POp) (k:ZaB) (q0 q:Nat) (w:List Int),Zci N k→q<s.marks.length→ZjI N k (ZbC s q)→Mvs N s q0 q w →
  ∃j:Nat,j<s.marks.length∧ZjI N (Zd1 N roles k l).1 (ZbC s j)∧Mvs N s q0 j (w++ZgF N roles k l)
 | [],k,q0,q,w,D,hq,A,M=>⟨q,hq,A,by show Mvs N s q0 q (w++[]);rw[List.append_nil];exact M⟩
 | o::l,k,q0,q,w,D,hq,A,M=>by
  obtain⟨j,hj,A1,M1⟩:=Zqa (roles:=roles) (o:=o) F D hq A
  obtain⟨i,hi,A2,M2⟩:=ZmZ F l (Za4 N roles k o).1 q0 j (w++ZgE N k o (Za4 N roles k o).2.2) (ZjF D) hj A1 (.snoc M M1)
  refine⟨i,hi,A2, ?_⟩
  rw[List.append_assoc]at M2
  exact M2
theorem ZjI.start (i:Int):ZjI N ⟨(ZaQ N i).1,[]⟩ (ZaQ N i).1.mark:=⟨rfl,fun _=>(Int.add_zero _).symm⟩
theorem ZjI.shut {k:ZaB}{m:List Int}(A:ZjI N k m)(h:∀it∈k.items,it.open_=false):m=k.case_.mark :=
 ZsN A.len (fun p=>by
  have h1:=A.at_ p
  rw[ZkW (fun x hx=>by unfold Zqq;rw[if_neg (by rw[h x hx];simp)])]at h1
  omega)
end
end Go.Proofs.YtfmnagcglhlicaaGreat
namespace Go.Proofs.YtfmnagcglhlicaaGreat
section
variable {N:Zau} {most:Nat} {m0:List Int} {s:PSp}
theorem Zme {t:Int}(h:inT N t):atI (Zd8 N) t=(Zcj N t).label:=by
 have h1:=Zgj h
 unfold atI Zd8
 rw[List.getD_eq_getElem?_getD,List.getElem?_map,h1]
 rfl
theorem ZiX (hN:Za8 N=true){t:Int}(h:inT N t):0≤atI (Zd8 N) t:=by
 rw[Zme h]
 have h1:=((Zar N).1 hN).2.2.2 _ (List.mem_of_getElem? (Zgj h))
 exact((ZbQ _ _).1 h1).1
theorem Wk.nonneg {E:Sp→Sp→Int→Prop}(hE:∀u v c,E u v c→0≤c){v:Sp}{c:Int}(h:Wk E v c):0≤c:=by
 induction h with
 | nil=>omega
 | step _ h2 ih=>have:=hE _ _ _ h2;omega
theorem Mvs.wk (F:Zmc N most m0 s){j:Nat}{w:List Int}(h:Mvs N s 0 j w):∀r,Wk (Ed s.arcs (atI (Zd8 N)) (w++r)) ((w.length:Int),(j:Int)) 0:=by
 induction h with
 | nil=>intro r;exact .nil
 | @snoc j i w v h1 h2 ih =>
  intro r
  rw[List.append_assoc]
  cases h2 with
  | stay=>rw[List.append_nil];exact ih _
  | @quiet _ t ha hl =>
   have ht:=(F.ok.ends _ ha).2.1
   have hlab:=Zme (N:=N) (t:=t) ht
   rw[List.append_nil]
   have:=Wk.step (ih ([]++r)) (v:=((w.length:Int),(i:Int))) (d:=0) (.inr (.inl ⟨_,ha,rfl,rfl,by simp only;rw[hlab,hl];rfl⟩))
   simpa using this
  | @heard _ t ha hl =>
   have ht:=(F.ok.ends _ ha).2.1
   have hlab:=Zme (N:=N) (t:=t) ht
   have hN:Za8 N=true:=((ZaG _ _).1 (F.ok.fits _ (List.mem_of_getElem? F.first))).1
   have hpos:=ZiX hN (t:=t) ht
   have:=Wk.step (ih ([(Zcj N t).label]++r)) (v:=((w.length:Int)+1,(i:Int))) (d:=0) (.inr (.inr ⟨_,ha,rfl,by simp;omega,by simp only;omega,by simp[hlab],rfl,rfl⟩))
   rw[List.length_append]
   simpa using this
theorem Zk0 (hN:Za8 N=true):(min N.places 16).toNat=N.places.toNat:=by
 have:=(Zar N).1 hN
 omega
theorem Zob {i:Int}(h:(ZaQ N i).2=0):Za8 N=true∧(ZaQ N i).1.mark=ZcR (min N.places 16).toNat i:=by
 unfold ZaQ at h ⊢
 split at h
 ·rename_i hN
  rw[if_pos hN,Zk0 hN]
  split at h
  ·rename_i h2
   rw[if_pos h2]
   exact⟨hN,rfl⟩
  ·simp at h
 ·simp at h
theorem ZrC {roles:List (List Int)} {i o c e:Int} {l:List POp} (hb:(ZaQ N i).2=0)
  (hm:(Zd1 N roles ⟨(ZaQ N i).1,[]⟩ l).1.case_.mark=ZcR (min N.places 16).toNat o) (hs:∀it∈(Zd1 N roles ⟨(ZaQ N i).1,[]⟩ l).1.items,it.open_=false)
  (hl:(ZgF N roles ⟨(ZaQ N i).1,[]⟩ l).length≤60) (h:Zfr N i o (ZgF N roles ⟨(ZaQ N i).1,[]⟩ l) c e):e≠0∨c=0:=by
 unfold Zfr at h
 split at h
 ·rename_i h1
  exact .inl (by rw[h.2];exact h1)
 ·rename_i h1
  rw[if_neg (by omega)]at h
  have h1':(Zeb N i o).2=0:=Classical.not_not.1 h1
  obtain⟨s,hg⟩:∃s,Za2 N (ZcR (min N.places 16).toNat i) 300=(s,0)∧Zeb N i o=(s,0):=by
   unfold Zeb at h1' ⊢
   by_cases hsh:Zbt N i o=0
   ·rw[if_pos hsh]at h1' ⊢
    exact⟨_,Prod.ext rfl h1',Prod.ext rfl h1'⟩
   ·rw[if_neg hsh]at h1'
    exact absurd h1' hsh
  rw[hg.2]at h
  have F:=Zn9 hg.1
  obtain⟨hN,hbm⟩:=Zob hb
  have h0:ZbC s 0=(ZaQ N i).1.mark:=by rw[hbm];exact ZjG F.first
  obtain⟨j,hj,A,M⟩:=ZmZ (roles:=roles) F l ⟨(ZaQ N i).1,[]⟩ 0 0 [] (Zci.start hb) F.ok.some_ (by rw[h0];exact ZjI.start i) .nil
  rw[List.nil_append]at M
  have hjm:=A.shut hs
  rw[hm]at hjm
  have hf:Zcb s.marks (ZpO N o)=some j:=ZqA F.ok.nodup (by rw[ZiV hj,hjm];rfl)
  simp only[hf]at h
  refine .inr ?_
  have hw:=M.wk F []
  rw[List.append_nil]at hw
  have h2:=h.2.2 _ hw
  have h3:=h.2.1.nonneg (fun u v c he=>(he.low (fun a ha=>ZiX hN (F.ok.ends a ha).2.1)).1)
  omega
def wAt (N:Zau)(K:ZaB)(p:POp×(Int×Int)):List Int:=if p.2.1=0∧p.1.kind=2 then [(Zcj N (K.items.getD p.1.item.toNat default).tran).label]else []
theorem Zoc {roles:List (List Int)}(k:ZaB)(o:POp){j:Nat}{it:Za3}(h:k.items[j]?=some it):∃it',(Za4 N roles k o).1.items[j]?=some it'∧it'.tran=it.tran:=by
 have hw:=ZhZ (N:=N) (roles:=roles) k o
 have set_:∀(x y:Za3) (q:Nat),k.items[q]?=some y→x.tran=y.tran→∃it',(k.items.set q x)[j]?=some it'∧it'.tran=it.tran:=fun x y q hq hx=>by
  by_cases e:q=j
  ·subst e
   rw[h]at hq
   injection hq with hq
   subst hq
   exact⟨x,by rw[List.getElem?_set_self (List.getElem?_eq_some_iff.1 h).1],hx⟩
  ·exact⟨it,by rw[List.getElem?_set_ne e];exact h,rfl⟩
 generalize (Za4 N roles k o).1=k' at hw ⊢
 generalize (Za4 N roles k o).2.2=e at hw
 cases hw with
 | no _=>exact⟨it,h,rfl⟩
 | begin_ _ _=>exact⟨it,by simp only;rw[List.getElem?_append_left (List.getElem?_eq_some_iff.1 h).1];exact h,rfl⟩
 | give _ h2=>exact set_ _ _ _ h2 rfl
 | change _ _ h3 _ _ _=>exact set_ _ _ _ h3 rfl
 | skip _ _=>exact⟨it,h,rfl⟩
theorem Zk1 {roles:List (List Int)}:∀(l:List POp) (k:ZaB) {j:Nat} {it:Za3},k.items[j]?=some it→∃it',(Zd1 N roles k l).1.items[j]?=some it'∧it'.tran=it.tran
 | [],_,_,it,h=>⟨it,h,rfl⟩
 | o::l,k,_,_,h=>by
  obtain⟨i1,h1,e1⟩:=Zoc (roles:=roles) k o h
  obtain⟨i2,h2,e2⟩:=Zk1 (roles:=roles) l (Za4 N roles k o).1 h1
  exact⟨i2,h2,e2.trans e1⟩
theorem ZiY {roles:List (List Int)}:∀(l:List POp) (k:ZaB),Zci N k→ZgF N roles k l=(l.zip (Zd1 N roles k l).2).flatMap (wAt N (Zd1 N roles k l).1) ∧
  ∀p∈l.zip (Zd1 N roles k l).2,p.2.1=0→p.1.kind=2→(0≤p.1.item∧p.1.item<((Zd1 N roles k l).1.items.length:Int))∧inT N ((Zd1 N roles k l).1.items.getD p.1.item.toNat default).tran
 | [],k,_=>⟨rfl,fun p hp=>by cases hp⟩
 | o::l,k,D=>by
  obtain⟨h1,h2⟩:=ZiY (roles:=roles) l (Za4 N roles k o).1 (ZjF D)
  have key:(Za4 N roles k o).2.2=0→o.kind=2→(0≤o.item∧o.item<((Zd1 N roles k (o::l)).1.items.length:Int))∧∃it,k.items[o.item.toNat]?=some it∧Zbd k o=it∧inT N it.tran∧((Zd1 N roles k (o::l)).1.items.getD o.item.toNat default).tran=it.tran:=fun he hk=>by
   have hw:=ZhZ (N:=N) (roles:=roles) k o
   rw[he]at hw
   generalize hk':(Za4 N roles k o).1=k' at hw
   cases hw with
   | no h=>exact absurd rfl h
   | begin_ h _=>omega
   | give h _=>omega
   | @change it c' _ h0 h3 _ h5 _ =>
    obtain⟨it',h6,h7⟩:=Zk1 (N:=N) (roles:=roles) (o::l) k h3
    have hlt:=(List.getElem?_eq_some_iff.1 h6).1
    exact⟨⟨h0,by omega⟩,it,h3,h5,D.trans it (List.mem_of_getElem? h3),by rw[List.getD_eq_getElem?_getD,h6];exact h7⟩
   | skip h _=>omega
  refine⟨?_,fun p hp=>?_⟩
  ·show ZgE N k o (Za4 N roles k o).2.2++ZgF N roles (Za4 N roles k o).1 l=wAt N (Zd1 N roles k (o::l)).1 (o,((Za4 N roles k o).2.2,(Za4 N roles k o).2.1))++(l.zip (Zd1 N roles (Za4 N roles k o).1 l).2).flatMap (wAt N (Zd1 N roles k (o::l)).1)
   rw[h1]
   congr 1
   unfold ZgE wAt
   by_cases hc:(Za4 N roles k o).2.2=0∧o.kind=2
   ·rw[if_pos hc,if_pos hc]
    obtain⟨_,it,_,h5,_,h6⟩:=key hc.1 hc.2
    rw[h5,h6]
   ·rw[if_neg hc,if_neg hc]
  ·rcases List.mem_cons.1 hp with rfl|hp
   ·intro he hk
    obtain⟨k1,it,_,_,k2,k3⟩:=key he hk
    exact⟨k1,by rw[k3];exact k2⟩
   ·exact h2 p hp
end
end Go.Proofs.YtfmnagcglhlicaaGreat
