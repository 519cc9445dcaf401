/- Texts melted into one: The contract of grow, on every right block. Conditions: the block reads as a tree and is right. | The contracts of Grow's deferred closure: of a Grow that panics, of one that returns. Conditions: the results' boxes lie apart. | The plain law of growing, further: a link's place -/
import Derived.Test.YtfmnagcglhlicaaGreatTopSaidK34
import Derived.Tactics
import Derived.Defers
import Derived.Recover
set_option maxRecDepth 100000
namespace Go.Proofs.YtfmnagcglhlicaaGreat
open Go.RowKit
theorem ZmI (w0:World)(bg:Nat):∀f,Zkn w0 bg f:=by
 intro f
 induction f with
 | zero =>
  intro d kd lb A n c had ks p q v g w hc
  rw[ZaR]at hc
  cases hc
 | succ f ih =>
  intro d kd lb A n c had ks p q v g w hc hK hG hB hf
  obtain⟨_,hhd,_⟩:=Zdi hc
  obtain⟨k1,k6,_,_⟩:=Zg1 hhd
  simp only[Zat.kind]at k1 k6
  have hk:kd=1∨kd=2∨kd=3∨kd=4∨kd=5∨kd=6:=by omega
  rcases hk with rfl|rfl|rfl|rfl|rfl|rfl
  ·exact Zko (.inl rfl) hG hB hf
  ·exact Zko (.inr rfl) hG hB hf
  ·exact ZqZ ih hc hK hG hB hf
  ·exact ZqY ih hc hK hG hB hf
  ·exact Zpn ih hc hK hG hB hf
  ·exact Zpl ih hc hK hG hB hf
def Zq1 (N b2 b3:Nat)(w:World)(e:Ending)(u':FrameMode)(w':World):Prop :=
 e=.returned (.tuple #[])∧u'=.panicking [{ZnI with recovered:=true}]∧Box w' b2 24 #[.int .i64 0,.slice none 0 0]∧Box w' b3 35 #[.int .i64 4]∧Below N w w'
set_option maxHeartbeats 4000000 in
theorem ZnM {N b2 b3:Nat}{w:World}{x y:Int}{v:Value}(h2:Box w b2 24 #[.int .i64 x,v])(h3:Box w b3 35 #[.int .i64 y])(n2:N≤b2)(n3:N≤b3)(hne:b2≠b3) :
  CallsD Tryz.prog 53 #[.pointer (some ⟨b2,0,none⟩),.pointer (some ⟨b3,0,none⟩)] (.panicking [ZnI]) w (Zq1 N b2 b3 w):=by
 have bb:=Zab w (.cells #[] 130)
 have H2:=Zaa (h2.keep bb)
 have H3:=Zaa (h3.keep bb)
 have HB:=Zaa (show Below N w (w.alloc (.cells #[] 130))from bb.mono (by have:=h2.lt;omega))
 clear h2 h3 bb
 have hrep:Array.replicate 15 undef=#[undef,undef,undef,undef,undef,undef,undef,undef,undef,undef,undef,undef,undef,undef,undef]:=rfl
 have hta:∀w:World,(Instr.typeAssert (.iface 130 (.agg #[])) 20 130 true).run Tryz.prog w=.ok (.tuple #[.agg #[],.bool true]) w:=fun w=>by kernel_rfl
 refine callsD_of_wpS Tryz.func53 rfl fun c₀ cs hu=>?_
 apply wpS_seq
 apply wpS_region
 simp[wpOpsS,go_sem,recoverD,hu,hrep,Tryz.ntmps53,Exit.thenS]
 refine wpS_of_wp ?_
 go_upto_region 5 with fail
 generalize w.alloc (.cells #[] 130)=u at *
 obtain⟨c0,c1⟩:=H2.out.two
 have f0:=H2.out.frozen 0
 have f1:=H2.out.frozen 1
 have d0:u.cell? ⟨b3,0,none⟩=some (.int .i64 y):=H3.out.cell 0
 have g0:=H3.out.frozen 0
 have n0:=Zaa n2
 have n1:=Zaa n3
 have ne:=Zaa hne
 clear n2 n3
 go_wp2
 obtain⟨fn,tm,td,df,md,kd,ro⟩:=c₀
 simp only at hu
 subst hu
 have S2:=(H2.out.set2 (.int .i64 0) (.slice none 0 0)).other (a:=⟨b3,0,none⟩) (.int .i64 4) ne.out
 have S3:=(((H3.out.other (a:=⟨b2,0,none⟩) (.int .i64 0) (fun e=>ne.out e.symm)).other (a:=⟨b2,1,none⟩) (.slice none 0 0) (fun e=>ne.out e.symm)).set 0 (.int .i64 4))
 refine⟨rfl,_,rfl,.tuple #[],(by simp[results,Tryz.results53,go_sem]), ?_⟩
 exact⟨rfl,rfl,S2,S3,((HB.out.setCell (p:=⟨b2,0,none⟩) n0.out _).setCell (p:=⟨b2,1,none⟩) n0.out _).setCell (p:=⟨b3,0,none⟩) n1.out _⟩
theorem ZnN {b2 b3:Nat}{w:World} :
  CallsD Tryz.prog 53 #[.pointer (some ⟨b2,0,none⟩),.pointer (some ⟨b3,0,none⟩)] .returning w (fun e u' w'=>e=.returned (.tuple #[])∧u'=.returning∧w'=w):=by
 have hrep:Array.replicate 15 undef=#[undef,undef,undef,undef,undef,undef,undef,undef,undef,undef,undef,undef,undef,undef,undef]:=rfl
 refine callsD_of_wpS Tryz.func53 rfl fun c₀ cs hu=>?_
 apply wpS_seq
 apply wpS_region
 simp[wpOpsS,go_sem,recoverD,hu,hrep,Tryz.ntmps53,Exit.thenS]
 refine wpS_of_wp ?_
 go_wp2
 obtain⟨fn,tm,td,df,md,kd,ro⟩:=c₀
 simp only at hu
 subst hu
 exact⟨rfl,_,rfl,.tuple #[],(by simp[results,Tryz.results53,go_sem]),rfl,rfl,rfl⟩
end Go.Proofs.YtfmnagcglhlicaaGreat
namespace Go.Proofs.YtfmnagcglhlicaaGreat
def ZnO (P:Nat)(l:List Int):Prop:=(∀x∈l,0≤x∧x<(P:Int))∧l.Nodup∧l.length≤P
theorem ZnO.mono {P Q:Nat}{l:List Int}(h:ZnO P l)(hQ:P≤Q):ZnO Q l:=⟨fun x hx=>by have:=h.1 x hx;omega,h.2.1,Nat.le_trans h.2.2 hQ⟩
theorem ZnO.one {P:Nat}{p:Int}(h0:0≤p)(h1:p<(P:Int)):ZnO P [p]:=⟨fun x hx=>by rw[List.mem_singleton]at hx;subst hx;exact⟨h0,h1⟩,by simp,by simp only[List.length_cons,List.length_nil];omega⟩
theorem Zkp {f:Nat→Int}(hf:∀a b,f a=f b→a=b)(n:Nat):((List.range n).map f).Nodup:=by
 induction n with
 | zero=>simp
 | succ n ih =>
  rw[List.range_succ,List.map_append,List.nodup_append]
  refine⟨ih,by simp,fun a ha b hb e=>?_⟩
  simp only[List.map_cons,List.map_nil,List.mem_singleton]at hb
  obtain⟨k,hk,rfl⟩:=List.mem_map.1 ha
  have:=hf k n (e.trans hb)
  have:=List.mem_range.1 hk
  omega
theorem Zsw (pl n:Nat):ZnO (pl+2*n) (Zlb pl n):=by
 refine⟨fun x hx=>?_,Zkp (fun a b h=>by omega) n,by rw[ZqS];omega⟩
 obtain⟨k,hk,rfl⟩:=List.mem_map.1 hx
 have:=List.mem_range.1 hk
 omega
theorem Zq2 (pl n:Nat):ZnO (pl+2*n) (ZfM pl n):=by
 refine⟨fun x hx=>?_,Zkp (fun a b h=>by omega) n,by rw[Zpe];omega⟩
 obtain⟨k,hk,rfl⟩:=List.mem_map.1 hx
 have:=List.mem_range.1 hk
 omega
def InK (g:KSt):Prop:=∀t∈g.links,ZnO g.places t.pre∧ZnO g.places t.post
theorem InK.more {g:KSt}(h:InK g)(k:Nat):InK (more g k):=fun t ht=>⟨(h t ht).1.mono (Nat.le_add_right _ _),(h t ht).2.mono (Nat.le_add_right _ _)⟩
theorem InK.lnk {g:KSt}(h:InK g){l:Int}{a b:List Int}(ha:ZnO g.places a)(hb:ZnO g.places b):InK (lnk g l a b):=fun t ht=>by
 simp only[Go.Proofs.YtfmnagcglhlicaaGreat.lnk,List.mem_append,List.mem_singleton]at ht
 rcases ht with ht|rfl
 ·exact h t ht
 ·exact⟨ha,hb⟩
theorem ZeK {σ β:Type}{J:σ→Prop}{F:σ→β→σ}:∀(l:List β) (s:σ),(∀(a:σ) (x:β),x∈l→J a→J (F a x))→J s→J (l.foldl F s)
 | [],_,_,h=>h
 | x::l,s,hF,h=>ZeK l (F s x) (fun s y hy=>hF s y (List.mem_cons_of_mem _ hy)) (hF s x (List.mem_cons_self ..) h)
theorem ZhJ:∀(f:Nat) (b:Zat) (p q:Int) (g:KSt),0≤p→p<(g.places:Int)→0≤q→q<(g.places:Int)→InK g→InK (kbB f b p q g)∧g.places≤(kbB f b p q g).places
 | 0,b,p,q,g,_,_,_,_,h=>⟨h,Nat.le_refl _⟩
 | f+1,b,p,q,g,p0,p1,q0,q1,h=>by
  unfold kbB
  split
  ·exact⟨h.lnk (.one p0 p1) (.one q0 q1),Nat.le_refl _⟩
  ·split
   ·exact⟨h.lnk (.one p0 p1) (.one q0 q1),Nat.le_refl _⟩
   ·split
    ·have:=ZeK (J:=fun s:KSt×Int=>InK s.1∧g.places≤s.1.places∧0≤s.2∧s.2<(s.1.places:Int)) (F:=Zpc (kbB f) b.kids.length q) b.kids.zipIdx (g,p) (fun s x _ hs=>by
      obtain⟨a1,a2,a3,a4⟩:=hs
      unfold Zpc
      split
      ·obtain⟨b1,b2⟩:=ZhJ f x.1 s.2 (s.1.places:Int) (more s.1 1) a3 (by simp only[more];omega) (by omega) (by simp only[more];omega) (a1.more 1)
       have b3:s.1.places+1≤(kbB f x.1 s.2 (s.1.places:Int) (more s.1 1)).places:=b2
       exact⟨b1,by simp only;omega,by simp only;omega,by simp only;omega⟩
      ·obtain⟨b1,b2⟩:=ZhJ f x.1 s.2 q s.1 a3 a4 q0 (by omega) a1
       exact⟨b1,by simp only;omega,q0,by simp only;omega⟩) ⟨h,Nat.le_refl _,p0,p1⟩
     exact⟨this.1,this.2.1⟩
    ·split
     ·exact ZeK (J:=fun s:KSt=>InK s∧g.places≤s.places) (F:=Zqn (kbB f) p q) b.kids g (fun s x _ hs=>by
       obtain⟨b1,b2⟩:=ZhJ f x p q s p0 (by have:=hs.2;omega) q0 (by have:=hs.2;omega) hs.1
       exact⟨b1,Nat.le_trans hs.2 b2⟩) ⟨h,Nat.le_refl _⟩
     ·split
      ·have:=ZeK (J:=fun s:KSt=>InK s∧g.places+2*b.kids.length≤s.places) (F:=Zil (kbB f) g.places) b.kids.zipIdx (lnk (more g (2*b.kids.length)) 0 [p] (Zlb g.places b.kids.length)) (fun s x hx hs=>by
        have hlt:x.2<b.kids.length:=by
         have:=List.mem_zipIdx hx
         omega
        obtain⟨b1,b2⟩:=ZhJ f x.1 ((g.places+2*x.2:Nat):Int) ((g.places+2*x.2+1:Nat):Int) s (by omega) (by have:=hs.2;omega) (by omega) (by have:=hs.2;omega) hs.1
        exact⟨b1,Nat.le_trans hs.2 b2⟩) ⟨(h.more _).lnk (.one p0 (by simp only[more];omega)) (Zsw _ _),Nat.le_refl _⟩
       exact⟨this.1.lnk ((Zq2 _ _).mono this.2) (.one q0 (by have:=this.2;omega)),Nat.le_trans (Nat.le_add_right _ _) this.2⟩
      ·have i1:InK (lnk (more g 2) 0 [p] [(g.places:Int)]):=(h.more 2).lnk (.one p0 (by simp only[more];omega)) (.one (by omega) (by simp only[more];omega))
       obtain⟨g1,hg1⟩:∃g1,lnk (more g 2) 0 [p] [(g.places:Int)]=g1:=⟨_,rfl⟩
       have e1:g1.places=g.places+2:=by rw[←hg1];rfl
       rw[hg1]at i1 ⊢
       obtain⟨b1,b2⟩:=ZhJ f (b.kids.getD 0 noB) (g.places:Int) ((g.places+1:Nat):Int) g1 (by omega) (by omega) (by omega) (by omega) i1
       obtain⟨c1,c2⟩:=ZhJ f (b.kids.getD 1 noB) ((g.places+1:Nat):Int) (g.places:Int) _ (by omega) (by omega) (by omega) (by omega) b1
       exact⟨c1.lnk (.one (by omega) (by omega)) (.one q0 (by omega)),by simp only[lnk];omega⟩
def Ze2 (b:Zat):KSt:=kbB 41 b 0 1 ⟨2,[]⟩
theorem Zpo (b:Zat):InK (Ze2 b):=(ZhJ 41 b 0 1 ⟨2,[]⟩ (by omega) (by decide) (by omega) (by decide) (fun t ht=>by cases ht)).1
def Zin (P:Nat)(t:Zak):Zak:=⟨t.label,ZqX P t.pre,ZqX P t.post⟩
def ZsZ (g:KSt):Zau:=⟨g.places,g.links.map (Zin g.places)⟩
instance (g:KSt):Decidable (ZaE g):=by unfold ZaE;infer_instance
def Zch (b:Zat):Zau×Int:=if ZbX b=0 then(if ZaE (Ze2 b)then(ZsZ (Ze2 b),0)else(⟨0,[]⟩,4))else(⟨0,[]⟩,ZbX b)
theorem ZhK {b:Zat}(h:ZbX b≠0):Zch b=(⟨0,[]⟩,ZbX b):=if_neg h
theorem ZiM {b:Zat}(h:ZbX b=0)(hf:¬ZaE (Ze2 b)):Zch b=(⟨0,[]⟩,4):=by rw[Zch,if_pos h,if_neg hf]
theorem ZmJ {b:Zat}(h:ZbX b=0)(hf:ZaE (Ze2 b)):Zch b=(ZsZ (Ze2 b),0):=by rw[Zch,if_pos h,if_pos hf]
theorem Zpp {P k:Nat}{l:List Zak}{t:Zak}(h:l[k]?=some t):(l.take (k+1)).map (Zin P)=(l.take k).map (Zin P)++[Zin P t]:=by
 rw[List.take_add_one,h,List.map_append];rfl
end Go.Proofs.YtfmnagcglhlicaaGreat
namespace Go.Proofs.YtfmnagcglhlicaaGreat
open Go.RowKit
def Zt5 (r:Zau×Int)(w:World)(e:Ending)(w':World):Prop :=
 ∃A n c,e=.returned (.tuple #[.agg #[.int .i64 r.1.places,.slice A n c],.int .i64 r.2])∧ZaP w' A n c r.1.trans∧Below w.heap.size w w'
structure ZrV (w u:World)(b:Nat)(blk:Array Value):Prop where
 below:Below w.heap.size w u
 arg:Box u b 71 blk
 net:Box u (b+1) 24 #[.int .i64 0,.slice none 0 0]
 err:Box u (b+1+1) 35 #[.int .i64 0]
 at_:b=w.heap.size
theorem ZrV.new (w:World)(blk:Array Value):ZrV w (((w.alloc (.cells blk 71)).alloc (.cells #[.int .i64 0,.slice none 0 0] 24)).alloc (.cells #[.int .i64 0] 35)) w.heap.size blk where
 below:=(((Below.refl _ _).alloc (Nat.le_refl _) _).alloc (by simp) _).alloc (by simp;omega) _
 arg:=((Box.new w blk _).old _).old _
 net:=(Box.newAt (by simp) _ _).old _
 err:=Box.newAt (by simp) _ _
 at_:=rfl
theorem ZrV.keep {w u u':World}{b:Nat}{blk:Array Value}(h:ZrV w u b blk)(hb:Below u.heap.size u u'):ZrV w u' b blk :=
 ⟨h.below.trans (hb.mono h.below.size),h.arg.keep hb,h.net.keep hb,h.err.keep hb,h.at_⟩
theorem Zt6 {w u:World}{b:Nat}{x y:Int}{v:Value}(hB:Below w.heap.size w u)(hb:w.heap.size≤b)(h2:Box u (b+1) 24 #[.int .i64 x,v])(h3:Box u (b+1+1) 35 #[.int .i64 y])(x' y':Int)(v':Value) :
  Box (((u.setCell ⟨b+1,0,none⟩ (.int .i64 x')).setCell ⟨b+1,1,none⟩ v').setCell ⟨b+1+1,0,none⟩ (.int .i64 y')) (b+1) 24 #[.int .i64 x',v'] ∧
  Box (((u.setCell ⟨b+1,0,none⟩ (.int .i64 x')).setCell ⟨b+1,1,none⟩ v').setCell ⟨b+1+1,0,none⟩ (.int .i64 y')) (b+1+1) 35 #[.int .i64 y'] ∧
  Below w.heap.size w (((u.setCell ⟨b+1,0,none⟩ (.int .i64 x')).setCell ⟨b+1,1,none⟩ v').setCell ⟨b+1+1,0,none⟩ (.int .i64 y')) :=
 ⟨(h2.set2 (.int .i64 x') v').other (a:=⟨b+1+1,0,none⟩) (.int .i64 y') (by simp only;omega),((h3.other (a:=⟨b+1,0,none⟩) (.int .i64 x') (by simp only;omega)).other (a:=⟨b+1,1,none⟩) v' (by simp only;omega)).set 0 (.int .i64 y'),
  ((hB.setCell (p:=⟨b+1,0,none⟩) (by simp only;omega) _).setCell (p:=⟨b+1,1,none⟩) (by simp only;omega) _).setCell (p:=⟨b+1+1,0,none⟩) (by simp only;omega) _⟩
set_option maxHeartbeats 4000000 in
theorem ZnP {d:Nat}{w:World}{kd lb:Int}{A:Option Addr}{n c:Nat}{ks:List Zat}(h:Zhr d w A n c ks)(hw:ZbX (.mk kd lb ks)≠0) :
  Calls Tryz.prog 19 #[.agg #[.int .i64 kd,.int .i64 lb,.slice A n c]] w (Zt5 (Zch (.mk kd lb ks)) w):=by
 have GP:=Zaa (ZhK hw)
 rw[GP.out]
 obtain⟨r,hr⟩:∃r,ZbX (.mk kd lb ks)=r:=⟨_,rfl⟩
 have LD:=Zaa (ZrV.new w #[.int .i64 kd,.int .i64 lb,.slice A n c])
 have CW:=Zaa (Zcy (h.keep LD.out.below) (kd:=kd) (lb:=lb))
 rw[hr]at hw ⊢
 rw[hr]at CW
 clear h GP hr
 go_enter_defers Tryz.func19,Tryz.ntmps19
 go_upto_region 1 with fail
 generalize ((w.alloc (.cells #[.int .i64 kd,.int .i64 lb,.slice A n c] 71)).alloc (.cells #[.int .i64 0,.slice none 0 0] 24)).alloc (.cells #[.int .i64 0] 35)=u at *
 have a0:=LD.out.arg.three
 go_upto_region 2 with(go_at_call 52;(with_reducible refine CW.out.mono ?_);rintro e w1 ⟨rfl,hb⟩;have L1:=Zaa (LD.out.keep hb);clear hb)
 obtain⟨c0,c1⟩:=L1.out.net.two
 have f0:=L1.out.net.frozen 0
 have f1:=L1.out.net.frozen 1
 have d0:w1.cell? ⟨w.heap.size+1+1,0,none⟩=some (.int .i64 0):=L1.out.err.cell 0
 have g0:=L1.out.err.frozen 0
 go_wp2
 obtain⟨t2,t3,tb⟩:=Zt6 L1.out.below (Nat.le_refl _) L1.out.net L1.out.err 0 r (.slice none 0 0)
 have e0:=t2.cell 0
 have e1:=t2.cell 1
 have e2:=t3.cell 0
 refine⟨.tuple #[.agg #[.int .i64 0,.slice none 0 0],.int .i64 r],(by simp[results,Tryz.results19,go_sem,e0,e1,e2]),none,0,0,rfl, ?_,tb⟩
 exact Sl.nil0
set_option maxHeartbeats 4000000 in
theorem Zpq {d:Nat}{w:World}{kd lb:Int}{A:Option Addr}{n c:Nat}{ks:List Zat}(h:Zhr d w A n c ks)(hw:ZbX (.mk kd lb ks)=0)(hf:¬ZaE (Ze2 (.mk kd lb ks))) :
  Calls Tryz.prog 19 #[.agg #[.int .i64 kd,.int .i64 lb,.slice A n c]] w (Zt5 (Zch (.mk kd lb ks)) w):=by
 have hmf:∀(fn:Fn) (first cap:Array Value) (w:World),(Instr.makeFunc fn first cap).run Tryz.prog w=.ok (.func fn first cap) w:=fun _ _ _ _=>rfl
 have GP:=Zaa (ZiM hw hf)
 rw[GP.out]
 have LD:=Zaa (ZrV.new w #[.int .i64 kd,.int .i64 lb,.slice A n c])
 have CW:=Zaa (Zcy (h.keep LD.out.below) (kd:=kd) (lb:=lb))
 have HW:=Zaa hw
 have HF:=Zaa hf
 have H:=Zaa h
 rw[hw]at CW
 clear h GP hw hf
 go_enter_defers Tryz.func19,Tryz.ntmps19
 go_upto_region 1 with fail
 generalize ((w.alloc (.cells #[.int .i64 kd,.int .i64 lb,.slice A n c] 71)).alloc (.cells #[.int .i64 0,.slice none 0 0] 24)).alloc (.cells #[.int .i64 0] 35)=u at *
 have a0:=LD.out.arg.three
 go_upto_region 5 with(go_at_call 52;(with_reducible refine CW.out.mono ?_);rintro e w1 ⟨rfl,hb⟩;have L1:=Zaa (LD.out.keep hb);clear hb)
 go_upto_region 6 with fail
 have bb:=Zab w1 (.cells #[.int .i64 2,.slice none 0 0] 135)
 have CG:=Zaa (ZcG (ZmI w1 w1.heap.size 41 d kd lb A n c 0 ks 0 1 (.slice none 0 0) ⟨2,[]⟩ _ HW.out (H.out.keep L1.out.below) ⟨Nat.le_refl _,Box.new w1 _ _,Zad.nil⟩ bb (by decide)) HF.out)
 generalize w1.alloc (.cells #[.int .i64 2,.slice none 0 0] 135)=w2 at *
 have a1:=(L1.out.keep bb).arg.three
 clear bb a0
 go_wp2_with (go_at_call 54;(with_reducible refine CG.out.mono ?_);rintro e w3 ⟨rfl,hb⟩;have L3:=Zaa (L1.out.keep hb);clear hb)
 refine leaves_cons (f:=53) (args:=#[.pointer (some ⟨w.heap.size+1,0,none⟩),.pointer (some ⟨w.heap.size+1+1,0,none⟩)]) (by simp) (by simp[go_sem]) ?_
 refine(ZnM (N:=w.heap.size) L3.out.net L3.out.err (by omega) (by omega) (by omega)).mono ?_
 rintro e u' w'' ⟨rfl,rfl,x2,x3,xb⟩
 have e0:=x2.cell 0
 have e1:=x2.cell 1
 have e2:=x3.cell 0
 refine⟨.tuple #[.agg #[.int .i64 0,.slice none 0 0],.int .i64 4],(by simp[results,Tryz.results19,go_sem,e0,e1,e2]),none,0,0,rfl, ?_,L3.out.below.trans xb⟩
 exact Sl.nil0
theorem ZrW {a b c:World}{r:Option Nat}(h:a.grownBy b r)(g:b.grownBy c r):a.grownBy c r :=
 ⟨g.os.trans h.os,g.tape.trans h.tape,g.output.trans h.output,Nat.le_trans h.size g.size,fun k hk hr=>(g.block k (Nat.lt_of_lt_of_le hk h.size) hr).trans (h.block k hk hr)⟩
theorem gOf {a b:World}{r:Option Nat}(h:Below a.heap.size a b):a.grownBy b r:=⟨h.os,h.tape,h.output,h.size,fun k hk _=>h.block k hk⟩
theorem Zpr {a b c:World}{r:Option Nat}(h:a.grownBy b r)(g:Below a.heap.size b c):a.grownBy c r :=
 ⟨g.os.trans h.os,g.tape.trans h.tape,g.output.trans h.output,Nat.le_trans h.size g.size,fun k hk hr=>(g.block k hk).trans (h.block k hk hr)⟩
theorem ZrX {a b:World}{g N:Nat}(h:a.grownBy b (some g))(hN:N≤g)(ha:N≤a.heap.size):Below N a b :=
 ⟨h.os,h.tape,h.output,h.size,fun k hk=>h.block k (by omega) (fun e=>by injection e with e;omega)⟩
theorem ZtD {a b:World}{g k ty:Nat}{cs:Array Value}(h:a.grownBy b (some g))(hx:Box a k ty cs)(hne:k≠g):Box b k ty cs:=(h.block k hx.lt (fun e=>by injection e with e;exact hne e)).trans hx
theorem Sl.save {N n c g:Nat}{w w':World}{C:Option Addr}{l:List Zak}{cs:Array Value}(h:Sl (ZcO N) 3 w C n c l)(hC:∀b off,C=some ⟨b,off,none⟩→0<n→b≠g)(hx:Box w g 24 cs)(hN:N≤g)(hs:w.grownBy w' (some g)):Sl (ZcO N) 3 w' C n c l:=by
 refine⟨h.len,h.le,h.cap,h.small,h.nul,fun hn=>?_⟩
 obtain⟨b,off,e,hlt,hc⟩:=h.cells hn
 refine⟨b,off,e,Nat.lt_of_lt_of_le hlt hs.size,fun i x hi=>?_⟩
 obtain⟨vs,h1,h2⟩:=hc i x hi
 exact⟨vs,fun q hq=>(World.cell?_of_block (hs.block b hlt (fun e'=>by injection e' with e';exact hC b off e hn e'))).trans (h1 q hq),h2.turn hN hx (by decide) hs⟩
theorem ZtV.get {N:Nat}{w:World}{A:Option Addr}{n c k:Nat}{ts:List Zak}(h:Sl (ZcO N) 3 w A n c ts)(hk:k<n) :
  ∃b off t A1 n1 c1 A2 n2 c2,A=some ⟨b,off,none⟩∧b<w.heap.size∧Hid (ts[k]?=some t)∧w.cell? ⟨b,off+k*3,none⟩=some (.int .i64 t.label) ∧
   w.cell? ⟨b,off+k*3+1,none⟩=some (.slice A1 n1 c1)∧w.cell? ⟨b,off+k*3+2,none⟩=some (.slice A2 n2 c2)∧Zam w A1 n1 c1 t.pre∧Zam w A2 n2 c2 t.post:=by
 obtain⟨b,off,t,vs,h1,h2,h3,h4,h0,A1,n1,c1,A2,n2,c2,e1,e2,i1,i2,_⟩:=Sl.get h hk
 refine⟨b,off,t,A1,n1,c1,A2,n2,c2,h1,h2,Zaa h3, ?_, ?_, ?_,i1,i2⟩
 ·rw[←h0];simpa using h4 0 (by omega)
 ·rw[←e1];simpa [Nat.add_assoc] using h4 1 (by omega)
 ·rw[←e2];simpa [Nat.add_assoc] using h4 2 (by omega)
def Zps (Q:Exit→Act→World→Prop):Exit→Act→World→Prop
 | .panic _,_,_=>False
 | e,a,w=>Q e a w
theorem Zsx {P:Program}{c:Code}{Q:Exit→Act→World→Prop}{a:Act}{w:World}(h:c.wp P (Zps Q) a w):c.wp P Q a w :=
 Code.wp_mono (fun e a w h=>by
  cases e <;> first|exact h|exact h.elim) h
def Zsy (r:Zau×Int)(w:World)(e:Ending)(w':World):Prop :=
 ∃A n c,e=.returned (.tuple #[.agg #[.int .i64 r.1.places,.slice A n c],.int .i64 r.2])∧Zad (Zaw w.heap.size) 3 w' w.heap.size 49 (.slice A n c) n r.1.trans∧Below w.heap.size w w'
set_option maxHeartbeats 4000000 in
theorem ZnQ {d:Nat}{w:World}{kd lb:Int}{A:Option Addr}{n c:Nat}{ks:List Zat}(h:Zhr d w A n c ks)(hw:ZbX (.mk kd lb ks)=0)(hf:ZaE (Ze2 (.mk kd lb ks))) :
  Calls Tryz.prog 19 #[.agg #[.int .i64 kd,.int .i64 lb,.slice A n c]] w (Zsy (Zch (.mk kd lb ks)) w):=by
 have hmf:∀(fn:Fn) (first cap:Array Value) (w:World),(Instr.makeFunc fn first cap).run Tryz.prog w=.ok (.func fn first cap) w:=fun _ _ _ _=>rfl
 have GP:=Zaa (ZmJ hw hf)
 rw[GP.out]
 have HI:=Zaa (Zpo (.mk kd lb ks))
 obtain⟨r,hr⟩:∃r,Ze2 (.mk kd lb ks)=r:=⟨_,rfl⟩
 have HR:=Zaa hr
 rw[hr]at hf ⊢
 rw[hr]at HI
 have LD:=Zaa (ZrV.new w #[.int .i64 kd,.int .i64 lb,.slice A n c])
 have CW:=Zaa (Zcy (h.keep LD.out.below) (kd:=kd) (lb:=lb))
 have HW:=Zaa hw
 have HF:=Zaa hf
 have H:=Zaa h
 rw[hw]at CW
 clear h GP hw hf hr
 go_enter_defers Tryz.func19,Tryz.ntmps19
 go_upto_region 1 with fail
 generalize ((w.alloc (.cells #[.int .i64 kd,.int .i64 lb,.slice A n c] 71)).alloc (.cells #[.int .i64 0,.slice none 0 0] 24)).alloc (.cells #[.int .i64 0] 35)=u at *
 have a0:=LD.out.arg.three
 go_upto_region 5 with(go_at_call 52;(with_reducible refine CW.out.mono ?_);rintro e w1 ⟨rfl,hb⟩;have L1:=Zaa (LD.out.keep hb);clear hb)
 go_upto_region 6 with fail
 have bb:=Zab w1 (.cells #[.int .i64 2,.slice none 0 0] 135)
 have CG:=Zaa (ZcF (ZmI w w1.heap.size 41 d kd lb A n c 0 ks 0 1 (.slice none 0 0) ⟨2,[]⟩ _ HW.out H.out ⟨L1.out.below.size,Box.new w1 _ _,Zad.nil⟩ (L1.out.keep bb).below (by decide)) (by have:=HF.out;rw[←HR.out]at this;exact this))
 obtain⟨bg,hbg⟩:∃bg,w1.heap.size=bg:=⟨_,rfl⟩
 have L2:=Zaa (L1.out.keep bb)
 have NE:=Zaa (show w.heap.size+1<bg from by rw[←hbg];exact L1.out.net.lt)
 rw[hbg]at CG
 generalize w1.alloc (.cells #[.int .i64 2,.slice none 0 0] 135)=w2 at *
 have a1:=L2.out.arg.three
 clear bb a0
 rw[hbg]
 clear hbg
 go_upto_region 7 with(go_at_call 54;(with_reducible refine CG.out.mono ?_);rintro e w3 ⟨rfl,⟨v',hG⟩,hb,hk⟩;have HG:=Zaa (show GrW w.heap.size bg w3 v' r by rw[←HR.out];exact hG);have HB:=Zaa hb;have X2:=Zaa (hk.box L2.out.net (by decide) (by decide));have X3:=Zaa (hk.box L2.out.err (by decide) (by decide));clear hG hb hk)
 obtain⟨P,hP⟩:∃P,r.places=P:=⟨_,rfl⟩
 obtain⟨L,hL⟩:∃L,r.links=L:=⟨_,rfl⟩
 obtain⟨K,hK⟩:∃K,L.length=K:=⟨_,rfl⟩
 have P16:P≤16:=by have:=HF.out.1;omega
 have K24:K≤24:=by have:=HF.out.2;rw[hL]at this;omega
 have NK:=Zaa (show ZsZ r=⟨P,L.map (Zin P)⟩ by unfold ZsZ;rw[hP,hL])
 have IK:=Zaa (show ∀t∈L,ZnO P t.pre∧ZnO P t.post by have:=HI.out;unfold InK at this;rw[hP,hL]at this;exact this)
 obtain⟨C,cc,rfl,hLS⟩:=HG.out.own.sl (by have:=HF.out.2;omega)
 have hown:=HG.out.own
 have hbox:=HG.out.box
 rw[hP]at hbox
 rw[hL,hK]at hbox hLS hown
 have XB:=Zaa hbox
 have LS:=Zaa hLS
 have CN:=Zaa (show ∀b off,C=some ⟨b,off,none⟩→0<K→b≠w.heap.size+1 from fun b off e hn e'=>by
  obtain⟨_,o1,_⟩:=id hown
  have:=ZdG o1 X2.out (by decide)
  subst e e'
  rcases o1.2 with⟨e,_⟩|⟨g',cap,cur,e,_⟩
  ·cases e
  ·injection e with e _ _
   injection e with e
   injection e with e _ _
   subst e
   exact this rfl)
 have HKL:=Zaa hK
 rw[NK.out]
 have GG:=Zce w3 (w.heap.size+1) 0 (.int .i64 P)
 have Z2:=Zaa (show Box (w3.setCell ⟨w.heap.size+1,0,none⟩ (.int .i64 P)) (w.heap.size+1) 24 #[.int .i64 P,.slice none 0 0] by simpa using X2.out.set 0 (.int .i64 P))
 have Z3:=Zaa (ZtD GG X3.out (by omega))
 have ZB:=Zaa (ZtD GG XB.out (by have:=NE.out;omega))
 have ZL:=Zaa (Sl.save LS.out CN.out X2.out (by omega) GG)
 have ZW:=Zaa (HB.out.trans (ZrX GG (by omega) HB.out.size))
 obtain⟨c0,c1⟩:=XB.out.two
 have y0:w3.cell? ⟨w.heap.size+1,0,none⟩=some (.int .i64 0):=X2.out.cell 0
 have yf:=X2.out.frozen 0
 clear hown hbox hLS hP hL hK GG XB LS X2 X3 HG HB a1
 go_upto_region 8 with fail
 generalize w3.setCell ⟨w.heap.size+1,0,none⟩ (.int .i64 P)=w4 at *
 clear c0 c1 y0 yf
 obtain⟨c0,c1⟩:=ZB.out.two
 go_wp2
 go_loopg [30] K (fun gk i wr=>∃(k:Nat) (A':Option Addr) (c':Nat),k+gk=K∧i=.int .i64 k∧Hid (Box wr (w.heap.size+1) 24 #[.int .i64 P,.slice A' k c'])∧Hid (Zad (Zaw w4.heap.size) 3 wr w4.heap.size 49 (.slice A' k c') k ((L.take k).map (Zin P)))∧Hid (w4.grownBy wr (some (w.heap.size+1))))
 case atStart=>exact⟨0,none,0,by omega,rfl,Z2,Zaa Zad.nil,Zaa (gOf (Below.refl _ _))⟩
 case round =>
  obtain⟨k,A',c',hk,rfl,BX,own,SV⟩:=hrel
  by_cases hlt:k<K
  ·have LW:=Sl.save ZL.out CN.out Z2.out (by omega) SV.out
   obtain⟨bl,off,t,A1,n1,c1',A2,n2,c2,rfl,hbl,ht,q0,q1,q2,i1,i2⟩:=ZtV.get LW hlt
   have bb:=Zab wr (.cells #[.int .i64 t.label,.slice A1 n1 c1',.slice A2 n2 c2] 138)
   have PK:=IK.out t (List.mem_of_getElem? ht.out)
   have hst:=Zaa (Zpp (P:=P) ht.out)
   have m1:n1≤1000:=by have:=i1.len;have:=PK.1.2.2;omega
   have m2:n2≤1000:=by have:=i2.len;have:=PK.2.2.2;omega
   have HX1:=Zaa PK.1.1
   have HX2:=Zaa PK.2.1
   have I1:=Zaa (i1.keep bb)
   have I2:=Zaa (i2.keep bb)
   have X:=Zaa (Box.new wr #[.int .i64 t.label,.slice A1 n1 c1',.slice A2 n2 c2] 138)
   have BXs:=Zaa (BX.out.keep bb)
   have GBs:=Zaa ((ZtD SV.out ZB.out (by have:=NE.out;omega)).keep bb)
   have ow5:=Zaa (own.out.keep (Zaw.kept _) bb)
   have SZ:=Zaa SV.out.size
   have SV5:=Zaa (Zpr SV.out (bb.mono SZ.out))
   have sz:w4.heap.size≤(wr.alloc (.cells #[.int .i64 t.label,.slice A1 n1 c1',.slice A2 n2 c2] 138)).heap.size:=Nat.le_trans SZ.out bb.size
   have SZ5:=Zaa sz
   have RX:=Zaa (show wr.heap.size<(wr.alloc (.cells #[.int .i64 t.label,.slice A1 n1 c1',.slice A2 n2 c2] 138)).heap.size by simp)
   obtain⟨bx,hbx⟩:∃bx,wr.heap.size=bx:=⟨_,rfl⟩
   rw[hbx]at X RX
   clear LW i1 i2 bb PK own BX SV sz
   go_upto_region 11 with fail
   clear hbx q0 q1 q2
   generalize wr.alloc (.cells #[.int .i64 t.label,.slice A1 n1 c1',.slice A2 n2 c2] 138)=w5 at *
   obtain⟨x0,x1,x2⟩:=X.out.three
   obtain⟨y0,y1⟩:=BXs.out.two
   obtain⟨z0,_⟩:=GBs.out.two
   have D1:=((Below.refl _ _).drew:Below w5.heap.size w5 w5.drew)
   have J1:=Zaa (I1.out.keep D1)
   have J2:=Zaa (I2.out.keep D1)
   have X5:=Zaa (X.out.keep D1)
   have B5:=Zaa (BXs.out.keep D1)
   have G5:=Zaa (GBs.out.keep D1)
   have O5:=Zaa (ow5.out.keep (Zaw.kept _) D1)
   have S5:=Zaa (Zpr SV5.out (D1.mono SZ5.out))
   clear D1
   refine Zsx ?_
   refine Zd3 20 [(0,0),(0,1),(0,2),(0,3),(0,4),(0,5),(0,6),(0,7),(0,8),(0,9),(0,11),(0,12),(0,13),(0,14),(0,15),(0,16),(1,10),(1,17),(0,18),(1,19),(2,20),(2,21),(2,22)] (fun w'=>w'.cell? ⟨bx,0,none⟩=some (.int .i64 t.label)∧w'.cell? ⟨bx,1,none⟩=some (.slice A1 n1 c1')∧w'.cell? ⟨bx,2,none⟩=some (.slice A2 n2 c2)∧w'.cell? ⟨w.heap.size+1,1,none⟩=some (.slice A' k c')∧w'.cell? ⟨bg,0,none⟩=some (.int .i64 P)) (by kernel_rfl) (by kernel_rfl) (by kernel_rfl) (fun _ _ _ _ _ h=>h) ⟨x0,x1,x2,y1,z0⟩ (fun hHeld=>?_)
   iterate 16
    refine Zee (v:=?_) rfl (by rfl) hHeld (fun w' hSw=>?_) ?_
    rotate_left
    ·(go_simp;try with_reducible rfl)
    simp only[Act.put,Zag,Zah,Zai]
   refine Zm6 rfl (fun K hK=>?_)
   go_simp;go_at_call 55
   (with_reducible refine(ZfN J1.out (by omega) m1 HX1.out).mono ?_)
   rintro e w6 ⟨g6,rfl,o6,b6⟩
   have X6:=Zaa (X5.out.keep b6)
   have B6:=Zaa (B5.out.keep b6)
   have G6:=Zaa (G5.out.keep b6)
   have O6:=Zaa (O5.out.keep (Zaw.kept _) b6)
   have K2:=Zaa (J2.out.keep b6)
   have S6:=Zaa (Zpr S5.out (b6.mono S5.out.size))
   have W6:=Zaa (Zad.base o6 S5.out.size)
   clear b6 o6
   refine hK.out _ _ ⟨X6.out.cell 0,X6.out.cell 1,X6.out.cell 2,B6.out.cell 1,G6.out.cell 0⟩ (fun hHeld=>?_)
   clear hK
   refine Zm6 rfl (fun K hK=>?_)
   go_simp;go_at_call 55
   (with_reducible refine(ZfN K2.out (by omega) m2 HX2.out).mono ?_)
   rintro e w7 ⟨g7,rfl,o7,b7⟩
   have X7:=Zaa (X6.out.keep b7)
   have B7:=Zaa (B6.out.keep b7)
   have G7:=Zaa (G6.out.keep b7)
   have O7:=Zaa (O6.out.keep (Zaw.kept _) b7)
   have S7:=Zaa (Zpr S6.out (b7.mono S6.out.size))
   have RD:=Zaa (show Zaw w4.heap.size w7 (fun j=>[Value.int .i64 t.label,.slice (some ⟨g6,0,none⟩) P P,.slice (some ⟨g7,0,none⟩) P P].getD j undef) (Zin P t)from⟨rfl,P,P,W6.out.keep ZcE.kept b7,Zad.base o7 S6.out.size,by omega,by omega⟩)
   have KP:=Zaa (ZmH O7.out)
   clear b7 o7
   refine hK.out _ _ ⟨X7.out.cell 0,X7.out.cell 1,X7.out.cell 2,B7.out.cell 1,G7.out.cell 0⟩ (fun hHeld=>?_)
   clear hK
   refine Zee (v:=?_) rfl (by rfl) hHeld (fun w' hSw=>?_) ?_
   rotate_left
   ·(go_simp;try with_reducible rfl)
   simp only[Act.put,Zag,Zah,Zai]
   refine Zm6 rfl (fun K hK=>?_)
   go_simp
   refine hK.out _ _ (by refine⟨(X7.out.old _).cell 0,(X7.out.old _).cell 1,(X7.out.old _).cell 2,(B7.out.old _).cell 1,(G7.out.old _).cell 0⟩) (fun hHeld=>?_)
   clear hK
   refine Zm7 rfl (fun K hK=>?_)
   refine ZdP Zou rfl (.tmp 35) (.tmp 53) rfl [Zin P t] #[.int .i64 t.label,.slice (some ⟨g6,0,none⟩) P P,.slice (some ⟨g7,0,none⟩) P P] rfl rfl (by first|rfl|simp) rfl rfl (by omega) (by simp[Value.oneCell']) O7.out (Zax.tran RD.out) rfl (Below.refl w4.heap.size w7) S7.out.size (by omega) (by omega) KP.out ?_
   intro g cap w8 own8 hg8 hb8 hBg hgl
   have B8:=Zaa (B7.out.grown hg8 (fun e=>by have:=(O7.out.lt _ e).1;have:=Z2.out.lt;omega))
   have O8:=Zaa own8
   have S8:=Zaa (Zpr S7.out hb8)
   have v0:w8.cell? ⟨w.heap.size+1,1,none⟩=some (.slice A' k c'):=B8.out.cell 1
   have v1:=B8.out.frozen 1
   clear own8 hg8 hb8
   refine hK.out _ _ ?_
   clear hK
   simp only[Act.put,Zag,Zah,Zai]
   refine Zm7 rfl (fun K hK=>?_)
   go_simp
   refine hK.out _ _ ?_
   clear hK
   refine Zm7 rfl (fun K hK=>?_)
   go_simp
   refine hK.out _ _ ?_
   clear hK
   simp only[ZbR,Zps]
   all_goals
    go_wp2
    go_roundg (gk-1)
    case measure=>omega
    case rel=>exact⟨k+1,some ⟨g,0,none⟩,cap,by omega,by go_num,Zaa (by simpa using B8.out.set 1 (.slice (some ⟨g,0,none⟩) (k+1) cap)),Zaa (by rw[hst.out];exact(ZcB O8.out Z2.out.lt).out),Zaa (ZrW S8.out (Zce w8 (w.heap.size+1) 1 _))⟩
  ·obtain rfl:k=K:=by omega
   have E3:=Zaa (ZtD SV.out Z3.out (by omega))
   have WB:=Zaa (ZW.out.trans (ZrX SV.out (by omega) ZW.out.size))
   have hst:=Zaa (show(L.take k).map (Zin P)=L.map (Zin P) by rw[List.take_of_length_le (by rw[HKL.out];omega)])
   have OW:=Zaa own.out
   have SW:=Zaa (Nat.lt_of_lt_of_le Z2.out.lt (Nat.le_refl w4.heap.size))
   obtain⟨y0,y1⟩:=BX.out.two
   have f0:=BX.out.frozen 0
   have f1:=BX.out.frozen 1
   have u0:wr.cell? ⟨w.heap.size+1+1,0,none⟩=some (.int .i64 0):=E3.out.cell 0
   have v0:=E3.out.frozen 0
   clear own SV
   go_wp2
   obtain⟨t2,t3,tb⟩:=Zt6 WB.out (Nat.le_refl _) BX.out E3.out P 0 (.slice A' k c')
   refine leaves_cons (f:=53) (args:=#[.pointer (some ⟨w.heap.size+1,0,none⟩),.pointer (some ⟨w.heap.size+1+1,0,none⟩)]) (by simp) (by simp[go_sem]) ?_
   refine ZnN.mono ?_
   rintro e u' w'' ⟨rfl,rfl,rfl⟩
   have e0:=t2.cell 0
   have e1:=t2.cell 1
   have e2:=t3.cell 0
   rw[NK.out]
   refine⟨.tuple #[.agg #[.int .i64 P,.slice A' k c'],.int .i64 0],(by simp[results,Tryz.results19,go_sem,e0,e1,e2]),A',k,c',rfl, ?_,tb⟩
   have s1:=(ZcB (j:=0) (u:=.int .i64 0) (ZcB (j:=1) (u:=.slice A' k c') (ZcB (j:=0) (u:=.int .i64 P) OW.out SW.out).out SW.out).out (show w.heap.size+1+1<w4.heap.size from Z3.out.lt)).out
   rw[hst.out]at s1
   have hle:w.heap.size≤w4.heap.size:=by have:=Z2.out.lt;omega
   obtain⟨cells,q1,q2,q3⟩:=s1.base hle
   exact⟨cells,q1,⟨q2.1,fun i x hx=>by obtain⟨vs,a,b⟩:=q2.2 i x hx;exact⟨vs,a,b.base hle⟩⟩,q3⟩
def Ztj (r:Zau×Int)(w:World)(e:Ending)(w':World):Prop :=
 ∃A n c,e=.returned (.tuple #[.agg #[.int .i64 r.1.places,.slice A n c],.int .i64 r.2])∧ZaP w' A n c r.1.trans∧(r.2=0→Zad (Zaw w.heap.size) 3 w' w.heap.size 49 (.slice A n c) n r.1.trans)∧Below w.heap.size w w'
theorem Zsy.net {r:Zau×Int}{w w':World}{e:Ending}(h:Zsy r w e w')(hn:r.1.trans.length≤24):Ztj r w e w':=by
 obtain⟨A,n,c,rfl,own,hb⟩:=h
 have hl:n≤24:=by rw[←own.len];exact hn
 obtain⟨C',c2,hv,hs⟩:=own.sl (by omega)
 injection hv with e1 e2 e3
 subst e1 e3
 exact⟨_,n,_,rfl,hs.imp (fun _ _ h=>h.tran),fun _=>own,hb⟩
theorem ZhL {d:Nat}{w:World}{kd lb:Int}{A:Option Addr}{n c:Nat}{ks:List Zat}(h:Zhr d w A n c ks) :
  Calls Tryz.prog 19 #[.agg #[.int .i64 kd,.int .i64 lb,.slice A n c]] w (Ztj (Zch (.mk kd lb ks)) w):=by
 by_cases hw:ZbX (.mk kd lb ks)=0
 ·by_cases hf:ZaE (Ze2 (.mk kd lb ks))
  ·refine(ZnQ h hw hf).mono fun e w' hA=>hA.net ?_
   rw[ZmJ hw hf]
   simp only[ZsZ,List.length_map]
   exact hf.2
  ·refine(Zpq h hw hf).mono fun e w' ⟨A,n,c,he,ht,hb⟩=>⟨A,n,c,he,ht,fun h0=>?_,hb⟩
   rw[ZiM hw hf]at h0
   cases h0
 ·refine(ZnP h hw).mono fun e w' ⟨A,n,c,he,ht,hb⟩=>⟨A,n,c,he,ht,fun h0=>?_,hb⟩
  rw[ZhK hw]at h0
  exact absurd h0 hw
end Go.Proofs.YtfmnagcglhlicaaGreat
