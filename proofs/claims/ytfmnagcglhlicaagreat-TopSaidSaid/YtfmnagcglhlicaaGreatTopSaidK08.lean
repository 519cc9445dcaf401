/- Texts melted into one: The plain law of exploration: all marks that a net comes to, in the order in which they are found, and arcs between them; a shortest run. No program in sight. | More of the plain law of exploration: who can fire, and the first arcs kept beside. No program in sight. | More plai -/
import Derived.Test.YtfmnagcglhlicaaGreatTopSaidK07
set_option maxRecDepth 100000
namespace Go.Proofs.YtfmnagcglhlicaaGreat
structure ZaD where
 from_:Int
 tran:Int
 to_:Int
structure PSp where
 marks:List (List Int)
 arcs:List ZaD
def PSp.nil:PSp:=⟨[],[]⟩
def Zcb (ms:List (List Int))(x:List Int):Option Nat:=ms.findIdx? fun y=>x==y
def ZgI (most:Nat)(s:PSp)(f t:Int)(x:List Int):Option PSp :=
 match Zcb s.marks x with
 | some k=>some ⟨s.marks,s.arcs++[⟨f,t,(k:Int)⟩]⟩
 | none=>if s.marks.length=most then none else some ⟨s.marks++[x],s.arcs++[⟨f,t,(s.marks.length:Int)⟩]⟩
def Zbr (N:Zau)(most:Nat)(m:List Int)(f:Int)(s:PSp)(t:Int):Option PSp :=
 if(Zbu N m t).2=3 then some s else if(Zbu N m t).2=0 then ZgI most s f t (Zbu N m t).1 else none
def ZcN (N:Zau)(most:Nat)(m:List Int)(f:Int)(l:List Int)(o:Option PSp):Option PSp:=l.foldl (fun o t=>o.bind fun s=>Zbr N most m f s t) o
theorem ZfW (N:Zau)(most:Nat)(m:List Int)(f:Int)(l:List Int)(t:Int)(o:Option PSp):ZcN N most m f (l++[t]) o=(ZcN N most m f l o).bind fun s=>Zbr N most m f s t:=by
 unfold ZcN;rw[List.foldl_append];rfl
theorem ZeB (N:Zau)(most:Nat)(m:List Int)(f:Int)(l:List Int):ZcN N most m f l none=none:=by
 induction l with
 | nil=>rfl
 | cons t l ih=>exact ih
theorem Zlk {N:Zau}{most:Nat}{m:List Int}{f:Int}{l:List Int}{o:Option PSp}(k:Nat)(h:ZcN N most m f (l.take k) o=none):ZcN N most m f l o=none:=by
 have e:=List.take_append_drop k l
 rw[←e]
 unfold ZcN at h ⊢
 rw[List.foldl_append,h]
 exact ZeB N most m f _
def ZsU (n:Nat):List Int:=(List.range n).map fun(t:Nat)=>(t:Int)
theorem Zi5 {N:Zau}{most:Nat}{m:List Int}{f:Int}(hm:ZbI N m=true)(o:Option PSp):∀k,k≤N.trans.length→ZcN N most m f (Zb4 (N.trans.take k) m) o=ZcN N most m f (ZsU k) o:=by
 intro k
 induction k with
 | zero=>intro _;rfl
 | succ k ih =>
  intro hk
  have hx:N.trans[k]?=some (N.trans[k]'(by omega)):=List.getElem?_eq_getElem _
  rw[ZaK hx,ZfU,ZsU,List.range_succ,List.map_append,List.map_cons,List.map_nil,ZfW,←ZsU,←ih (by omega)]
  have hl:(N.trans.take k).length=k:=by rw[List.length_take];omega
  have hf:Zbu N m (k:Int)=ZeL m (N.trans[k]'(by omega)):=by
   rw[Zbu,if_pos hm,if_pos ⟨by omega,by omega⟩]
   simp[List.getD_eq_getElem?_getD,hx]
  by_cases hc:ZaU m (N.trans[k]'(by omega)).pre=true
  ·rw[if_pos hc,ZfW,hl]
  ·rw[if_neg hc,List.append_nil]
   cases hs:ZcN N most m f (Zb4 (N.trans.take k) m) o with
   | none=>rfl
   | some s =>
    show some s=Zbr N most m f s (k:Int)
    unfold Zbr
    rw[hf,ZeL,if_neg hc]
    rfl
def Zj2 (N:Zau)(most f:Nat)(s:PSp):Option PSp:=ZcN N most (s.marks.getD f []) (f:Int) (ZsU N.trans.length) (some s)
def goM (N:Zau)(most:Nat):Nat→Nat→PSp→Option PSp
 | 0,_,s=>some s
 | g+1,f,s=>if f<s.marks.length then(Zj2 N most f s).bind (goM N most g (f+1))else some s
def Za2 (N:Zau)(m:List Int)(most:Int):PSp×Int :=
 if 1≤most∧most≤300∧ZbI N m=true then(match goM N most.toNat most.toNat 0 ⟨[m],[]⟩ with
  | some s=>(s,0)
  | none=>(PSp.nil,4))else(PSp.nil,2)
def Zj3 (s:PSp)(k:Nat):Option Nat:=s.arcs.findIdx? fun a=>a.to_==(k:Int)
structure ZeC (N:Zau)(most:Nat)(s:PSp):Prop where
 few:s.marks.length≤most
 some_:0<s.marks.length
 fits:∀x∈s.marks,ZbI N x=true
 nodup:s.marks.Nodup
 ends:∀a∈s.arcs,(0≤a.from_∧a.from_<(s.marks.length:Int))∧(0≤a.tran∧a.tran<(N.trans.length:Int))∧(0≤a.to_∧a.to_<(s.marks.length:Int))
 found:∀k,0<k→k<s.marks.length→∃(j:Nat) (a:ZaD),s.arcs[j]?=some a∧a.to_=(k:Int)∧a.from_<(k:Int)∧∀i,i<j→∀b:ZaD,s.arcs[i]?=some b→b.to_≠(k:Int)
theorem ZeD {ms:List (List Int)}{x:List Int}{k:Nat}(h:Zcb ms x=some k):ms[k]?=some x:=by
 unfold Zcb at h
 rw[List.findIdx?_eq_some_iff_getElem]at h
 obtain⟨hk,hx,_⟩:=h
 have:x=ms[k]:=by simpa using hx
 rw[List.getElem?_eq_getElem hk,this]
theorem Ziv {ms:List (List Int)}{x:List Int}(h:Zcb ms x=none):x∉ms:=by
 unfold Zcb at h
 rw[List.findIdx?_eq_none_iff]at h
 intro hx
 have:=h x hx
 simp at this
theorem ZqA {ms:List (List Int)}{x:List Int}{k:Nat}(hn:ms.Nodup)(h:ms[k]?=some x):Zcb ms x=some k:=by
 cases hf:Zcb ms x with
 | none=>exact absurd (List.mem_of_getElem? h) (Ziv hf)
 | some j =>
  have hj:=ZeD hf
  obtain⟨hk1,hk2⟩:=List.getElem?_eq_some_iff.1 h
  obtain⟨hj1,hj2⟩:=List.getElem?_eq_some_iff.1 hj
  have:=(List.getElem_inj hn).1 (hj2.trans hk2.symm)
  rw[this]
theorem Zhg {N:Zau}{m:List Int}{t:Int}(hm:ZbI N m=true)(h:(Zbu N m t).2=0):ZbI N (Zbu N m t).1=true∧0≤t∧t<(N.trans.length:Int):=by
 have hm':=(ZaG N m).1 hm
 unfold Zbu at h ⊢
 rw[if_pos hm]at h ⊢
 by_cases ht:0≤t∧t<(N.trans.length:Int)
 ·rw[if_pos ht]at h ⊢
  have hx:N.trans[t.toNat]?=some (N.trans.getD t.toNat default):=by
   have hlt:t.toNat<N.trans.length:=by omega
   simp[List.getElem?_eq_getElem hlt]
  have hT:=Za1 hm'.1 hx
  generalize N.trans.getD t.toNat default=T at *
  unfold ZeL at h ⊢
  split at h
  ·rename_i h1
   rw[if_pos h1]
   split at h
   ·rename_i h2
    rw[if_pos h2]
    refine⟨(ZaG _ _).2 ⟨hm'.1, ?_,h2⟩,ht⟩
    simp only[ZdM]
    omega
   ·simp at h
  ·simp at h
 ·rw[if_neg ht]at h
  simp at h
theorem Ziw {s:PSp}{a0:ZaD}{k:Nat}(h:∃(j:Nat) (a:ZaD),s.arcs[j]?=some a∧a.to_=(k:Int)∧a.from_<(k:Int)∧∀i,i<j→∀b:ZaD,s.arcs[i]?=some b→b.to_≠(k:Int)) :
  ∃(j:Nat) (a:ZaD),(s.arcs++[a0])[j]?=some a∧a.to_=(k:Int)∧a.from_<(k:Int)∧∀i,i<j→∀b:ZaD,(s.arcs++[a0])[i]?=some b→b.to_≠(k:Int):=by
 obtain⟨j,a,h1,h2,h3,h4⟩:=h
 have hj:=(List.getElem?_eq_some_iff.1 h1).1
 refine⟨j,a,by rw[List.getElem?_append_left hj];exact h1,h2,h3,fun i hi b hb=>?_⟩
 rw[List.getElem?_append_left (by omega)]at hb
 exact h4 i hi b hb
theorem ZeC.meet {N:Zau}{most:Nat}{s s':PSp}{f t:Nat}{x:List Int}(h:ZeC N most s)(hf:f<s.marks.length)(ht:t<N.trans.length)(hx:ZbI N x=true)(hm:ZgI most s (f:Int) (t:Int) x=some s'):ZeC N most s'∧s.marks <+: s'.marks:=by
 unfold ZgI at hm
 cases hk:Zcb s.marks x with
 | some k =>
  rw[hk]at hm
  simp only[Option.some.injEq]at hm
  subst hm
  have hkl:=(List.getElem?_eq_some_iff.1 (ZeD hk)).1
  refine⟨⟨h.few,h.some_,h.fits,h.nodup,fun a ha=>?_,fun k' h1 h2=>Ziw (h.found k' h1 h2)⟩,List.prefix_rfl⟩
  rcases List.mem_append.1 ha with h1|h1
  ·exact h.ends a h1
  ·rw[List.mem_singleton.1 h1]
   simp only
   omega
 | none =>
  rw[hk]at hm
  have hn:=Ziv hk
  simp only at hm
  split at hm
  ·cases hm
  ·rename_i hlm
   simp only[Option.some.injEq]at hm
   subst hm
   have hfew:=h.few
   refine⟨⟨by simp;omega,by simp,fun y hy=>?_, ?_,fun a ha=>?_,fun k' h1 h2=>?_⟩,List.prefix_append _ _⟩
   ·rcases List.mem_append.1 hy with h1|h1
    ·exact h.fits y h1
    ·rw[List.mem_singleton.1 h1];exact hx
   ·rw[List.nodup_append]
    exact⟨h.nodup,by simp,fun a ha b hb e=>hn (by rw[List.mem_singleton.1 hb]at e;rw[←e];exact ha)⟩
   ·simp only[List.length_append,List.length_cons,List.length_nil]
    rcases List.mem_append.1 ha with h1|h1
    ·have:=h.ends a h1;omega
    ·rw[List.mem_singleton.1 h1]
     simp only
     omega
   ·simp only[List.length_append,List.length_cons,List.length_nil]at h2
    by_cases hk':k'<s.marks.length
    ·exact Ziw (h.found k' h1 hk')
    ·have hke:k'=s.marks.length:=by omega
     subst hke
     refine⟨s.arcs.length,⟨(f:Int),(t:Int),(s.marks.length:Int)⟩,by simp,rfl,by simp only;omega,fun i hi b hb=>?_⟩
     rw[List.getElem?_append_left hi]at hb
     have:=(h.ends b (List.mem_of_getElem? hb)).2.2
     omega
theorem ZeC.step {N:Zau}{most:Nat}{s s':PSp}{f t:Nat}{m:List Int}(h:ZeC N most s)(hf:f<s.marks.length)(hm:ZbI N m=true)(hs:Zbr N most m (f:Int) s (t:Int)=some s'):ZeC N most s'∧s.marks <+: s'.marks:=by
 unfold Zbr at hs
 split at hs
 ·simp only[Option.some.injEq]at hs
  subst hs
  exact⟨h,List.prefix_rfl⟩
 ·split at hs
  ·rename_i h0
   obtain⟨hx,_,ht⟩:=Zhg hm h0
   exact h.meet hf (by omega) hx hs
  ·cases hs
theorem Zll {a b:List (List Int)}(h:a <+: b){f:Nat}(hf:f<a.length):b.getD f []=a.getD f []:=by
 obtain⟨c,rfl⟩:=h
 simp[List.getD_eq_getElem?_getD,List.getElem?_append_left hf]
theorem ZeC.fold {N:Zau}{most:Nat}{f:Nat}{m:List Int}(hm:ZbI N m=true):∀(l:List Nat) {s s':PSp} (_:ZeC N most s) (_:f<s.marks.length) (_:ZcN N most m (f:Int) (l.map fun(t:Nat)=>(t:Int)) (some s)=some s'),ZeC N most s'∧s.marks <+: s'.marks:=by
 intro l
 induction l with
 | nil =>
  intro s s' h hf hs
  have:s=s':=by simpa [ZcN] using hs
  subst this
  exact⟨h,List.prefix_rfl⟩
 | cons t l ih =>
  intro s s' h hf hs
  have hs':ZcN N most m (f:Int) (l.map fun(t:Nat)=>(t:Int)) (Zbr N most m (f:Int) s (t:Int))=some s':=hs
  cases h1:Zbr N most m (f:Int) s (t:Int) with
  | none=>rw[h1,ZeB]at hs';cases hs'
  | some s1 =>
   rw[h1]at hs'
   obtain⟨k1,k2⟩:=h.step hf hm h1
   obtain⟨k3,k4⟩:=ih k1 (Nat.lt_of_lt_of_le hf k2.length_le) hs'
   exact⟨k3,k2.trans k4⟩
theorem ZeC.from_ {N:Zau}{most f:Nat}{s s':PSp}(h:ZeC N most s)(hf:f<s.marks.length)(hs:Zj2 N most f s=some s'):ZeC N most s'∧s.marks <+: s'.marks:=by
 refine ZeC.fold (h.fits _ ?_) (List.range N.trans.length) h hf hs
 have:s.marks.getD f []=s.marks[f]:=by simp[List.getD_eq_getElem?_getD,List.getElem?_eq_getElem hf]
 rw[this]
 exact List.getElem_mem hf
theorem ZeC.start {N:Zau}{m:List Int}{most:Nat}(hm:ZbI N m=true)(h:1≤most):ZeC N most ⟨[m],[]⟩ :=
 ⟨h,by simp,fun x hx=>by rw[List.mem_singleton.1 hx];exact hm,by simp,fun a ha=>by simp at ha,fun k h1 h2=>by simp at h2;omega⟩
theorem ZeC.go {N:Zau}{most:Nat}:∀(g f:Nat) {s s':PSp} (_:ZeC N most s) (_:goM N most g f s=some s'),ZeC N most s'∧s.marks <+: s'.marks:=by
 intro g
 induction g with
 | zero =>
  intro f s s' h hs
  have:s=s':=by simpa [goM] using hs
  subst this
  exact⟨h,List.prefix_rfl⟩
 | succ g ih =>
  intro f s s' h hs
  unfold goM at hs
  split at hs
  ·rename_i hf
   cases h1:Zj2 N most f s with
   | none=>rw[h1]at hs;cases hs
   | some s1 =>
    rw[h1]at hs
    obtain⟨k1,k2⟩:=h.from_ hf h1
    obtain⟨k3,k4⟩:=ih (f+1) k1 hs
    exact⟨k3,k2.trans k4⟩
  ·simp only[Option.some.injEq]at hs
   subst hs
   exact⟨h,List.prefix_rfl⟩
end Go.Proofs.YtfmnagcglhlicaaGreat
namespace Go.Proofs.YtfmnagcglhlicaaGreat
theorem ZoB {ts:List Zak}{m:List Int}{t:Int}(h:t∈Zb4 ts m):∃(i:Nat) (T:Zak),t=(i:Int)∧ts[i]?=some T∧ZaU m T.pre=true:=by
 unfold Zb4 at h
 obtain⟨p,hp,rfl⟩:=List.mem_map.1 h
 obtain⟨h1,h2⟩:=List.mem_filter.1 hp
 exact⟨p.2,p.1,rfl,List.mem_zipIdx_iff_getElem?.1 h1,by simpa using h2⟩
theorem Znb {N:Zau}{m:List Int}{t:Int}(hf:ZbI N m=true)(h:t∈Zb4 N.trans m):(∃i:Nat,i<N.trans.length∧t=(i:Int))∧((Zbu N m t).2=0∨(Zbu N m t).2=4):=by
 obtain⟨i,T,rfl,hT,hc⟩:=ZoB h
 have hi:=(List.getElem?_eq_some_iff.1 hT).1
 refine⟨⟨i,hi,rfl⟩, ?_⟩
 have:Zbu N m (i:Int)=ZeL m T:=by
  rw[Zbu,if_pos hf,if_pos ⟨by omega,by omega⟩]
  simp[List.getD_eq_getElem?_getD,hT]
 rw[this,ZeL,if_pos hc]
 split
 ·exact .inl rfl
 ·exact .inr rfl
def Zd9 (M:Nat)(ms:List (List Int))(fs:List Int)(x:List Int)(a:Int):List (List Int)×List Int×Int×Bool :=
 match Zcb ms x with
 | some k=>(ms,fs,(k:Int),true)
 | none=>if ms.length=M then(ms,fs,0,false)else(ms++[x],fs++[a],(ms.length:Int),true)
structure Zlm (s:PSp)(fs:List Int):Prop where
 len:fs.length=s.marks.length
 at_:∀k,0<k→k<s.marks.length→∃j:Nat,fs[k]?=some (j:Int)∧Zj3 s k=some j
theorem Zlm.start (m:List Int):Zlm ⟨[m],[]⟩ [-1]:=⟨rfl,fun k h1 h2=>by simp at h2;omega⟩
theorem Zhh {s:PSp}{a:ZaD}{k j:Nat}(h:Zj3 s k=some j)(ms:List (List Int)):Zj3 ⟨ms,s.arcs++[a]⟩ k=some j:=by
 unfold Zj3 at h ⊢
 rw[List.findIdx?_append,h]
 rfl
theorem Zlm.meet {M:Nat}{s:PSp}{fs:List Int}{x:List Int}{f t:Int}(h:Zlm s fs)(he:∀a∈s.arcs,a.to_<(s.marks.length:Int)) :
  ((Zd9 M s.marks fs x (s.arcs.length:Int)).2.2.2=false∧ZgI M s f t x=none)∨((Zd9 M s.marks fs x (s.arcs.length:Int)).2.2.2=true∧ZgI M s f t x=some ⟨(Zd9 M s.marks fs x (s.arcs.length:Int)).1,s.arcs++[⟨f,t,(Zd9 M s.marks fs x (s.arcs.length:Int)).2.2.1⟩]⟩ ∧
   Zlm ⟨(Zd9 M s.marks fs x (s.arcs.length:Int)).1,s.arcs++[⟨f,t,(Zd9 M s.marks fs x (s.arcs.length:Int)).2.2.1⟩]⟩ (Zd9 M s.marks fs x (s.arcs.length:Int)).2.1):=by
 unfold Zd9 ZgI
 cases hf:Zcb s.marks x with
 | some k =>
  refine .inr ⟨rfl,rfl,⟨h.len,fun k' h1 h2=>?_⟩⟩
  obtain⟨j,e1,e2⟩:=h.at_ k' h1 h2
  exact⟨j,e1,Zhh e2 _⟩
 | none =>
  by_cases hl:s.marks.length=M
  ·refine .inl ?_
   simp only[hl,if_true]
   exact⟨trivial,trivial⟩
  ·refine .inr ?_
   simp only[hl,if_false]
   refine⟨trivial,trivial,⟨by simp[h.len],fun k' h1 h2=>?_⟩⟩
   simp only[List.length_append,List.length_cons,List.length_nil]at h2
   by_cases hk:k'<s.marks.length
   ·obtain⟨j,e1,e2⟩:=h.at_ k' h1 hk
    exact⟨j,by rw[List.getElem?_append_left (by rw[h.len];exact hk)];exact e1,Zhh e2 _⟩
   ·obtain rfl:k'=s.marks.length:=by omega
    refine⟨s.arcs.length,by rw[←h.len];simp, ?_⟩
    unfold Zj3
    rw[List.findIdx?_append]
    have:s.arcs.findIdx? (fun a=>a.to_==(s.marks.length:Int))=none:=by
     rw[List.findIdx?_eq_none_iff]
     intro a ha
     have:=he a ha
     simp
     omega
    rw[this]
    simp
theorem ZoC {M:Nat}{s s':PSp}{f t:Int}{x:List Int}(h:ZgI M s f t x=some s'):s'.arcs.length=s.arcs.length+1:=by
 unfold ZgI at h
 split at h
 ·simp only[Option.some.injEq]at h;subst h;simp
 ·split at h
  ·cases h
  ·simp only[Option.some.injEq]at h;subst h;simp
end Go.Proofs.YtfmnagcglhlicaaGreat
namespace Go.Proofs.YtfmnagcglhlicaaGreat
theorem ZoD (ms:List (List Int))(x:List Int):ZaT (fun y=>y==x) ms=match Zcb ms x with|some k=>(k:Int)|none=>-1:=by
 unfold ZaT Zcb
 have:(fun y:List Int=>y==x)=(fun y=>x==y):=by funext y;exact Bool.beq_comm
 rw[this]
 cases List.findIdx? (fun y=>x==y) ms <;> rfl
theorem ZdR {N:Zau}{m:List Int}{most:Int}(h:(Za2 N m most).2=0):(1≤most∧most≤300)∧ZeC N most.toNat (Za2 N m most).1:=by
 unfold Za2 at h ⊢
 split at h
 ·rename_i h1
  rw[if_pos h1]
  cases hg:goM N most.toNat most.toNat 0 ⟨[m],[]⟩ with
  | none=>rw[hg]at h;simp at h
  | some s1=>exact⟨⟨h1.1,h1.2.1⟩,(ZeC.go _ _ (ZeC.start h1.2.2 (by omega)) hg).1⟩
 ·simp at h
end Go.Proofs.YtfmnagcglhlicaaGreat
namespace Go.Proofs.YtfmnagcglhlicaaGreat
open Go.RowKit
theorem Zs5:ZeM 81 156 3 24:=ZeM.mk' (z:=.agg #[.int .i64 0,.int .i64 0,.int .i64 0]) Tryz.underlying81 (by kernel_rfl) rfl (by decide)
def Zh3:World→(Nat→Value)→ZaD→Prop:=fun _ vs a=>vs 0=.int .i64 a.from_∧vs 1=.int .i64 a.tran∧vs 2=.int .i64 a.to_∧(Lit.int .i64 a.tran).wf=true
theorem Zh3.kept:Zh9 Zh3:=fun _ _ _ _ _ h=>h
abbrev Zh4 (w:World)(A:Option Addr)(n c:Nat)(ars:List ZaD):Prop:=Sl Zh3 3 w A n c ars
theorem Zh4.get {w:World}{A:Option Addr}{n c k:Nat}{ars:List ZaD}(h:Zh4 w A n c ars)(hk:k<n) :
  ∃b off a,A=some ⟨b,off,none⟩∧b<w.heap.size∧Hid (ars[k]?=some a)∧w.cell? ⟨b,off+k*3,none⟩=some (.int .i64 a.from_)∧w.cell? ⟨b,off+k*3+1,none⟩=some (.int .i64 a.tran)∧w.cell? ⟨b,off+k*3+2,none⟩=some (.int .i64 a.to_)∧Hid ((Lit.int .i64 a.tran).wf=true):=by
 obtain⟨b,off,a,vs,h1,h2,h3,h4,e0,e1,e2,e3⟩:=Sl.get h hk
 refine⟨b,off,a,h1,h2,h3, ?_, ?_, ?_,e3⟩
 ·rw[←e0];exact h4 0 (by omega)
 ·rw[←e1];exact h4 1 (by omega)
 ·rw[←e2];exact h4 2 (by omega)
theorem ZbW {α:Type} {R:World→(Nat→Value)→α→Prop} {t e size bytes:Nat} (T:ZeM t e size bytes) {ops:Array Oper} {rest:List Oper} {o:Oper} {a:Act} {Q:Exit→Act→World→Prop} (hgd:o.guard=none) (s x:Operand)
  (ho:o.op=.call {callee:=.builtin .append,args:=#[s,x],argTypes:=#[t,t]})
  {w0 w:World} {B:Nat} {v:Value} {n m:Nat} {xs:List α} (ys:List α) (us:Array Value) {H:Nat} (hs:a.eval s=v) (hx:a.eval x=.slice (some ⟨H,0,none⟩) m m) (hH:H=w.heap.size) (hus:us.size=m*size) (hm:0<m) (one:∀u∈us.toList,u.oneCell'=true)
  (own:Zad R size w B e v n xs) (hread:Zax R size w us.toList ys) (hy:ys.length=m) (hb:Below B w0 w) (hB:B≤w.heap.size) (h63:n+m≤281474976710656) (hn:(n+m)*bytes≤140737488355328)
  (hkeep:∀w',w.grownBy w' v.ownBlock→∀vs y,R w vs y→R w' vs y)
  (hK:∀g cap w',Zad R size w' B e (.slice (some ⟨g,0,none⟩) (n+m) cap) (n+m) (xs++ys)→w.grownBy w' v.ownBlock→Below B w0 w'→(v.ownBlock=some g∨w.heap.size≤g)→wpList Tryz.prog ops Q rest (a.put o.dst (.slice (some ⟨g,0,none⟩) (n+m) cap)) w') :
  wpList Tryz.prog ops Q (o::rest) a (w.alloc (.cells us e)):=by
 subst hH
 obtain⟨i,z,h1,h2,h3,h4,h5⟩:=T.info
 obtain⟨cells,o1,o2,o3⟩:=own
 have hlt:∀k,v.ownBlock=some k→B≤k∧k<w.heap.size:=o1.lt
 refine wpList_append_lies _ hgd s x t ho B e i z size bytes T.und h1 h2 h3 h4 h5 T.pos v n cells hs (o1.alloc _) ⟨w.heap.size,0,none⟩ m m us.toList hx (by simpa using hus) (fun j u hj=>?_) one hm (by simp only[maxLen];omega) hn (by simp;omega) _ rfl (fun g cap w' h6 h7 h8 h9=>?_)
 ·have hz:((⟨w.heap.size,0,none⟩:Addr).add j)=⟨w.heap.size,j,none⟩:=by unfold Addr.add;split <;> simp_all
  rw[hz]
  have:(w.alloc (.cells us e)).cell? ⟨w.heap.size,j,none⟩=us[j]?:=cell_of_row _ _ _ _ _ (0,0) (heap_alloc_new w _)
  rw[this]
  simpa using hj
 ·have hg:w.grownBy w' v.ownBlock:=⟨h7.os,h7.tape,h7.output,Nat.le_trans (by simp) h7.size,fun k hk hne=>(h7.block k (by simp;omega) hne).trans (heap_alloc_old w _ hk)⟩
  refine hK g cap w' ⟨_,h6, ?_,by rw[List.length_append,o3,hy]⟩ hg (hb.grown hg hB (fun k hk=>(hlt k hk).1)) (h8.imp id (fun e=>by rw[e];simp))
  have:=o2.append hread
  exact⟨this.1,fun i x hx=>by obtain⟨vs,a,b⟩:=this.2 i x hx;exact⟨vs,a,hkeep _ hg _ _ b⟩⟩
theorem Zj4 {n m:Nat}(h1:n≤16)(h2:m≤16):max n m*8≤140737488355328:=by omega
set_option maxHeartbeats 1000000 in
theorem ZdS {w:World}{P:Int}{A B:Option Addr}{n c m d:Nat}{ts:List Zak}{xs:List Int}(h:ZaP w A n c ts)(g:Zam w B m d xs)(t:Int) :
  Calls Tryz.prog 74 #[.agg #[.int .i64 P,.slice A n c],.slice B m d,.int .i64 t] w (Zgp (Zbu ⟨P,ts⟩ xs t) w):=by
 have HB:=Zaa (Zab w)
 have hns:=h.small
 have G:=Zaa g
 have H:=Zaa h
 have HL:=Zaa h.len
 clear g h
 cases hok:ZbI ⟨P,ts⟩ xs
 ·have W0:=Zaa (Zdu hok)
  have FIN:=Zaa (show Zbu ⟨P,ts⟩ xs t=([],2)from by rw[Zbu,hok];rfl)
  clear hok
  go_enter Tryz.func74,Tryz.ntmps74
  go_wp2_with fail
  refine(ZbS (P:=P) (H.out.keep (HB.out _)) (G.out.keep (HB.out _))).mono ?_
  rw[W0.out]
  rintro e w1 ⟨rfl,hb⟩
  have B1:=Zaa ((HB.out (.cells #[.int .i64 P,.slice A n c] 24)).trans (hb.mono (by simp)))
  clear hb
  go_wp2
  go_ret2
  exact⟨none,0,0,by rw[FIN.out];rfl,by rw[FIN.out];exact Sl.nil0,B1.out,Zbn.none⟩
 ·have W0:=Zaa (ZgW hok)
  have FIN:=Zaa (show Zbu ⟨P,ts⟩ xs t=if 0≤t∧t<(ts.length:Int)then ZeL xs (ts.getD t.toNat default)else([],3)from by rw[Zbu,if_pos hok])
  have FB:=Zaa ((ZaG _ _).1 hok)
  clear hok
  go_enter Tryz.func74,Tryz.ntmps74
  go_wp2_with fail
  refine(ZbS (P:=P) (H.out.keep (HB.out _)) (G.out.keep (HB.out _))).mono ?_
  rw[W0.out]
  rintro e w1 ⟨rfl,hb⟩
  have B1:=Zaa ((HB.out (.cells #[.int .i64 P,.slice A n c] 24)).trans (hb.mono (by simp)))
  have hc1:w1.cell? ⟨w.heap.size,1,none⟩=some (.slice A n c):=(hb.cell (by simp)).trans (by simp)
  have hsz:w.heap.size<w1.heap.size:=by have:=hb.size;simp at this;omega
  have H1:=Zaa (H.out.keep B1.out)
  have G1:=Zaa (G.out.keep B1.out)
  clear hb
  by_cases ht:0≤t∧t<(n:Int)
  ·obtain⟨k,rfl⟩:=Int.eq_ofNat_of_zero_le ht.1
   have hlt:k<n:=by omega
   clear ht
   obtain⟨bl,off,tr,A1,n1,c1,A2,n2,c2,rfl,hbl,ht,q0,q1,q2,i1,i2,m1,m2⟩:=ZaP.get H1.out hlt
   have hok:=Za1 FB.out.1 (k:=k) (t:=tr) ht.out
   have hr1:=Zbj hok.2.2.2.2.1
   have hr2:=Zbj hok.2.2.2.2.2
   have hP:=((Zar _).1 FB.out.1).2.1
   have hn1:n1≤16:=by have:=hok.2.2.1;rw[i1.len]at this;simp only[]at this hP;omega
   have hn2:n2≤16:=by have:=hok.2.2.2.1;rw[i2.len]at this;simp only[]at this hP;omega
   have hm:m≤16:=by have:=FB.out.2.1;rw[G.out.len]at this;simp only[]at this hP;omega
   have FIN2:=Zaa (show Zbu ⟨P,ts⟩ xs (k:Int)=ZeL xs tr from by
    rw[FIN.out,if_pos (by rw[HL.out];omega)]
    have:ts.getD (k:Int).toNat default=tr:=by
     have:=ht.out
     simp[this]
    rw[this])
   have I2:=Zaa i2
   have hk0:(0:Int)≤(k:Int):=by omega
   have hkn:(k:Int)<(n:Int):=by omega
   have MC:=Zaa (Zfv FB.out.2.2 hr1)
   have PF:=Zaa (Zha (t:=tr) FB.out.2.2 hr1 hr2)
   have R1:=Zaa i1
   clear hok hr1 hr2 i2 i1 hP
   go_wp2_with fail
   refine(Zlh G1.out R1.out (Zj4 hm hn1)).mono ?_
   rw[MC.out]
   rintro e w2 ⟨C,l,kk,rfl,hi,hb⟩
   cases hc:ZaU xs tr.pre
   ·have FIN3:=Zaa (show Zbu ⟨P,ts⟩ xs (k:Int)=([],3)from by rw[FIN2.out,ZeL,hc];rfl)
    have B2:=Zaa (B1.out.trans (hb.mono B1.out.size))
    clear hc hi hb
    simp only[Bool.false_eq_true,if_false]
    go_wp2
    go_ret2
    exact⟨none,0,0,by rw[FIN3.out];rfl,by rw[FIN3.out];exact Sl.nil0,B2.out,Zbn.none⟩
   ·rw[hc]at hi
    simp only[if_true]at hi ⊢
    have hl:l≤16:=by have:=hi.len;rw[ZdM,G.out.len,R1.out.len]at this;omega
    have PF2:=Zaa (PF.out hc)
    have hc1':=(hb.cell (p:=⟨w.heap.size,1,none⟩) hsz).trans hc1
    have q2':=(hb.cell (p:=⟨bl,off+k*3+2,none⟩) hbl).trans q2
    have I2':=Zaa (I2.out.keep hb)
    have HI:=Zaa hi
    have HB2:=Zaa (B1.out.trans (hb.mono B1.out.size))
    clear hc hi hb
    go_wp2_with fail
    refine(Ze9 HI.out I2'.out (Zj4 hl hn2)).mono ?_
    rw[PF2.out]
    rintro e w3 ⟨C3,l3,k3,rfl,hi3,hb3,hf3⟩
    have B3:=Zaa (HB2.out.trans (hb3.mono HB2.out.size))
    have HI3:=Zaa hi3
    have HF3:=Zaa (hf3.mono HB2.out.size)
    clear hi3 hb3 hf3
    go_wp2
    go_ret2
    exact⟨C3,l3,k3,by rw[FIN2.out];rfl,by rw[FIN2.out];exact HI3.out,B3.out,HF3.out⟩
  ·have FIN2:=Zaa (show Zbu ⟨P,ts⟩ xs t=([],3)from by rw[FIN.out,if_neg (by rw[HL.out];exact ht)])
   by_cases h0:t<0
   ·go_wp2
    go_ret2
    exact⟨none,0,0,by rw[FIN2.out];rfl,by rw[FIN2.out];exact Sl.nil0,B1.out,Zbn.none⟩
   ·have h1:(n:Int)≤t:=by omega
    clear ht
    go_wp2
    go_ret2
    exact⟨none,0,0,by rw[FIN2.out];rfl,by rw[FIN2.out];exact Sl.nil0,B1.out,Zbn.none⟩
set_option maxHeartbeats 1000000 in
theorem Zid {w:World}{P:Int}{A B:Option Addr}{n c m d:Nat}{ts:List Zak}{xs:List Int}(h:ZaP w A n c ts)(g:Zam w B m d xs) :
  Calls Tryz.prog 110 #[.agg #[.int .i64 P,.slice A n c],.slice B m d] w (Zgp (Zbq ⟨P,ts⟩ xs) w):=by
 have HB:=Zaa (Zab w)
 have G:=Zaa g
 have H:=Zaa h
 have HL:=Zaa h.len
 clear g h
 cases hok:ZbI ⟨P,ts⟩ xs
 ·have W0:=Zaa (Zdu hok)
  have FIN:=Zaa (show Zbq ⟨P,ts⟩ xs=([],2)from by rw[Zbq,hok];rfl)
  clear hok
  go_enter Tryz.func110,Tryz.ntmps110
  go_wp2_with fail
  refine(ZbS (P:=P) (H.out.keep (HB.out _)) (G.out.keep (HB.out _))).mono ?_
  rw[W0.out]
  rintro e w1 ⟨rfl,hb⟩
  have B1:=Zaa ((HB.out (.cells #[.int .i64 P,.slice A n c] 24)).trans (hb.mono (by simp)))
  clear hb
  go_wp2
  go_ret2
  exact⟨none,0,0,by rw[FIN.out];rfl,by rw[FIN.out];exact Sl.nil0,B1.out,Zbn.none⟩
 ·have W0:=Zaa (ZgW hok)
  have FIN:=Zaa (show Zbq ⟨P,ts⟩ xs=(Zb4 ts xs,0)from by rw[Zbq,hok];rfl)
  have hn24:n≤24:=by have:=((Zar _).1 ((ZaG _ _).1 hok).1).2.2.1;simp only[]at this;rw[H.out.len]at this;exact this
  clear hok
  go_enter Tryz.func110,Tryz.ntmps110
  go_wp2_with fail
  refine(ZbS (P:=P) (H.out.keep (HB.out _)) (G.out.keep (HB.out _))).mono ?_
  rw[W0.out]
  rintro e w1 ⟨rfl,hb⟩
  have B1:=Zaa ((HB.out (.cells #[.int .i64 P,.slice A n c] 24)).trans (hb.mono (by simp)))
  have hc1:w1.cell? ⟨w.heap.size,1,none⟩=some (.slice A n c):=(hb.cell (by simp)).trans (by simp)
  have H1:=Zaa (H.out.keep B1.out)
  have G1:=Zaa (G.out.keep B1.out)
  clear hb
  go_wp2
  go_loopw [7,19] (fun v i wr=>∃k q:Nat,k≤n∧q≤k∧i=.int .i64 k∧Zaf wr w1.heap.size v q (Zb4 (ts.take k) xs)∧Below w1.heap.size w1 wr) (fun _ i _=>n-(intOf i).toNat)
  case atStart=>exact⟨0,0,Nat.zero_le _,Nat.zero_le _,rfl,Zad.nil,Below.refl _ _⟩
  case round =>
   obtain⟨k,q,hk,hq,rfl,own,hb⟩:=hrel
   by_cases hlt:k<n
   ·obtain⟨bl,off,t,A1,n1,c1,A2,n2,c2,rfl,hbl,ht,q0,q1,q2,i1,i2,m1,m2⟩:=ZaP.get (H1.out.keep hb) hlt
    have G2:=Zaa ((G1.out.keep hb).keep (Zab wr (.cells #[.int .i64 t.label,.slice A1 n1 c1,.slice A2 n2 c2] 49)))
    have I1:=Zaa (i1.keep (Zab wr (.cells #[.int .i64 t.label,.slice A1 n1 c1,.slice A2 n2 c2] 49)))
    have OW:=Zaa (own.keep ZcE.kept (Zab wr (.cells #[.int .i64 t.label,.slice A1 n1 c1,.slice A2 n2 c2] 49)))
    have HB1:=Zaa (hb.alloc hb.size (.cells #[.int .i64 t.label,.slice A1 n1 c1,.slice A2 n2 c2] 49))
    have hst:=Zaa (show Zb4 (ts.take (k+1)) xs=Zb4 (ts.take k) xs++(if ZaU xs t.pre=true then [(k:Int)]else [])from by
     rw[ZaK ht.out,ZfU,List.length_take,Nat.min_eq_left (by rw[HL.out];omega)])
    clear i1 i2 own hb
    cases hc:ZaU xs t.pre
    ·have HC:=Zaa hc
     clear hc
     go_wp2_with ((with_reducible refine(ZbL G2.out I1.out).mono ?_);rintro e w' ⟨rfl,rfl⟩;rw[HC.out])
     go_roundw
     case rel=>exact⟨k+1,q,by omega,by omega,by go_num,by rw[hst.out,HC.out];simpa using OW.out,HB1.out⟩
     case measure=>simp[intOf];omega
    ·have HC:=Zaa hc
     clear hc
     go_wp2_with (first
      |((with_reducible refine(ZbL G2.out I1.out).mono ?_);rintro e w' ⟨rfl,rfl⟩;rw[HC.out])
      |(at_builtin;refine Zbw rfl _ _ rfl rfl rfl (by simp) OW.out HB1.out HB1.out.size (by omega) ?_;intro v2 w2 own2 hg2 hb2))
     go_roundw
     case rel=>exact⟨k+1,q+1,by omega,by omega,by go_num,by rw[hst.out,HC.out];exact own2,hb2⟩
     case measure=>simp[intOf];omega
   ·have OW:=Zaa own
    have HB2:=Zaa (B1.out.trans (hb.mono B1.out.size))
    have hst:=Zaa (show Zb4 (ts.take k) xs=Zb4 ts xs from by rw[List.take_of_length_le (by rw[HL.out];omega)])
    clear own hb
    go_wp2
    go_ret2
    obtain⟨C,cc,hv,hi⟩:=OW.out.sl (by omega)
    rw[hst.out]at hi
    exact⟨C,q,cc,by rw[FIN.out,←hv];rfl,by rw[FIN.out];exact hi,HB2.out,fun ad had=>by
     have h1:=(OW.out.lt ad.block (by rw[hv,had];rfl)).1
     exact Nat.le_trans B1.out.size h1⟩
end Go.Proofs.YtfmnagcglhlicaaGreat
