/- Texts melted into one: The contract of grow, on every right block. Conditions: the block reads as a tree and is right. | The contracts of Grow's deferred closure: of a Grow that panics, of o -/
import Derived.Test.YtfmnagcglhlicaaGreatTopCrashK40
import Derived.Tactics
import Derived.Defers
import Derived.Recover
set_option maxRecDepth 100000
set_option maxHeartbeats 4000000
namespace Go.Proofs.YtfmnagcglhlicaaGreat
open Go.RowKit
theorem IT (w0:World)(bg:Nat):∀f,DY w0 bg f:=by
 intro f;induction f with
 | zero =>
  intro d kd lb A n c had ks p q v g w hc;rw[bX]at hc;cases hc
 | succ f ih =>
  intro d kd lb A n c had ks p q v g w hc hK hG hB hf;obtain⟨_,hhd,_⟩:=j7 hc;obtain⟨k1,k6,_,_⟩:=tR hhd;simp only[aW.kind]at k1 k6;have hk:kd=1∨kd=2∨kd=3∨kd=4∨kd=5∨kd=6:=by omega
  rcases hk with rfl|rfl|rfl|rfl|rfl|rfl
  ·exact DZ (.inl rfl) hG hB hf
  ·exact DZ (.inr rfl) hG hB hf
  ·exact Sm ih hc hK hG hB hf
  ·exact Sj ih hc hK hG hB hf
  ·exact PZ ih hc hK hG hB hf
  ·exact PW ih hc hK hG hB hf
def Ss (N b2 b3:Nat)(w:World)(e:Ending)(u':FrameMode)(w':World):Prop :=
 e=.returned (.tuple #[])∧u'=.panicking [{Le with recovered:=true}]∧Box w' b2 24 #[.int .i64 0,.slice none 0 0]∧Box w' b3 35 #[.int .i64 4]∧Below N w w'
theorem Ll {N b2 b3:Nat}{w:World}{x y:Int}{v:Value}(h2:Box w b2 24 #[.int .i64 x,v])(h3:Box w b3 35 #[.int .i64 y])(n2:N≤b2)(n3:N≤b3)(hne:b2≠b3) :
  CallsD Tryz.prog 53 #[.pointer (some ⟨b2,0,none⟩),.pointer (some ⟨b3,0,none⟩)] (.panicking [Le]) w (Ss N b2 b3 w):=by
 have bb:=aB w (.cells #[] 130);have H2:=aA (h2.keep bb);have H3:=aA (h3.keep bb);have HB:=aA (show Below N w (w.alloc (.cells #[] 130))from bb.mono (by have:=h2.lt;omega));clear h2 h3 bb;have hrep:Array.replicate 15 undef=#[undef,undef,undef,undef,undef,undef,undef,undef,undef,undef,undef,undef,undef,undef,undef]:=rfl;have hta:∀w:World,(Instr.typeAssert (.iface 130 (.agg #[])) 20 130 true).run Tryz.prog w=.ok (.tuple #[.agg #[],.bool true]) w:=fun w=>by kernel_rfl
 refine callsD_of_wpS Tryz.func53 rfl fun c₀ cs hu=>?_
 apply wpS_seq
 apply wpS_region
 simp[wpOpsS,go_sem,recoverD,hu,hrep,Tryz.ntmps53,Exit.thenS];refine wpS_of_wp ?_;go_upto_region 5 with fail
 generalize w.alloc (.cells #[] 130)=u at *
 obtain⟨c0,c1⟩:=H2.o.two;have f0:=H2.o.frozen 0;have f1:=H2.o.frozen 1;have d0:u.cell? ⟨b3,0,none⟩=some (.int .i64 y):=H3.o.cell 0;have g0:=H3.o.frozen 0;have n0:=aA n2;have n1:=aA n3;have ne:=aA hne;clear n2 n3;go_wp2
 obtain⟨fn,tm,td,df,md,kd,ro⟩:=c₀;simp only at hu;subst hu;have S2:=(H2.o.set2 (.int .i64 0) (.slice none 0 0)).other (a:=⟨b3,0,none⟩) (.int .i64 4) ne.o;have S3:=(((H3.o.other (a:=⟨b2,0,none⟩) (.int .i64 0) (fun e=>ne.o e.symm)).other (a:=⟨b2,1,none⟩) (.slice none 0 0) (fun e=>ne.o e.symm)).set 0 (.int .i64 4));refine⟨rfl,_,rfl,.tuple #[],(by simp[results,Tryz.results53,go_sem]), ?_⟩;exact⟨rfl,rfl,S2,S3,((HB.o.setCell (p:=⟨b2,0,none⟩) n0.o _).setCell (p:=⟨b2,1,none⟩) n0.o _).setCell (p:=⟨b3,0,none⟩) n1.o _⟩
theorem Lm {b2 b3:Nat}{w:World} :
  CallsD Tryz.prog 53 #[.pointer (some ⟨b2,0,none⟩),.pointer (some ⟨b3,0,none⟩)] .returning w (fun e u' w'=>e=.returned (.tuple #[])∧u'=.returning∧w'=w):=by
 have hrep:Array.replicate 15 undef=#[undef,undef,undef,undef,undef,undef,undef,undef,undef,undef,undef,undef,undef,undef,undef]:=rfl;refine callsD_of_wpS Tryz.func53 rfl fun c₀ cs hu=>?_
 apply wpS_seq
 apply wpS_region
 simp[wpOpsS,go_sem,recoverD,hu,hrep,Tryz.ntmps53,Exit.thenS];refine wpS_of_wp ?_;go_wp2
 obtain⟨fn,tm,td,df,md,kd,ro⟩:=c₀;simp only at hu;subst hu;exact⟨rfl,_,rfl,.tuple #[],(by simp[results,Tryz.results53,go_sem]),rfl,rfl,rfl⟩
end Go.Proofs.YtfmnagcglhlicaaGreat
namespace Go.Proofs.YtfmnagcglhlicaaGreat
def Ln (P:Nat)(l:LIn):Prop:=(∀x∈l,0≤x∧x<(P:Int))∧l.Nodup∧l.length≤P
theorem Ln.mono {P Q:Nat}{l:LIn}(h:Ln P l)(hQ:P≤Q):Ln Q l:=⟨fun x hx=>by have:=h.1 x hx;omega,h.2.1,Nat.le_trans h.2.2 hQ⟩
theorem Ln.one {P:Nat}{p:Int}(h0:0≤p)(h1:p<(P:Int)):Ln P [p]:=⟨fun x hx=>by rw[List.mem_singleton]at hx;subst hx;exact⟨h0,h1⟩,by simp,by simp only[List.length_cons,List.length_nil];omega⟩
theorem D9 {f:Nat→Int}(hf:∀a b,f a=f b→a=b)(n:Nat):((List.range n).map f).Nodup:=by
 induction n with
 | zero=>simp
 | succ n ih =>
  rw[List.range_succ,List.map_append,List.nodup_append];refine⟨ih,by simp,fun a ha b hb e=>?_⟩;simp only[List.map_cons,List.map_nil,List.mem_singleton]at hb;obtain⟨k,hk,rfl⟩:=List.mem_map.1 ha;have:=hf k n (e.trans hb);have:=List.mem_range.1 hk;omega
theorem Vi (pl n:Nat):Ln (pl+2*n) (Ez pl n):=by
 refine⟨fun x hx=>?_,D9 (fun a b h=>by omega) n,by rw[RY];omega⟩;obtain⟨k,hk,rfl⟩:=List.mem_map.1 hx;have:=List.mem_range.1 hk;omega
theorem Su (pl n:Nat):Ln (pl+2*n) (qW pl n):=by
 refine⟨fun x hx=>?_,D9 (fun a b h=>by omega) n,by rw[PG];omega⟩;obtain⟨k,hk,rfl⟩:=List.mem_map.1 hx;have:=List.mem_range.1 hk;omega
def InK (g:KSt):Prop:=∀t∈g.links,Ln g.places t.pre∧Ln g.places t.post
theorem InK.more {g:KSt}(h:InK g)(k:Nat):InK (more g k):=fun t ht=>⟨(h t ht).1.mono (Nat.le_add_right _ _),(h t ht).2.mono (Nat.le_add_right _ _)⟩
theorem InK.lnk {g:KSt}(h:InK g){l:Int}{a b:LIn}(ha:Ln g.places a)(hb:Ln g.places b):InK (lnk g l a b):=fun t ht=>by
 simp only[Go.Proofs.YtfmnagcglhlicaaGreat.lnk,List.mem_append,List.mem_singleton]at ht;rcases ht with ht|rfl
 ·exact h t ht
 ·exact⟨ha,hb⟩
theorem nT {σ β:Type}{J:σ→Prop}{F:σ→β→σ}:∀(l:List β) (s:σ),(∀(a:σ) (x:β),x∈l→J a→J (F a x))→J s→J (l.foldl F s)
 | [],_,_,h=>h
 | x::l,s,hF,h=>nT l (F s x) (fun s y hy=>hF s y (List.mem_cons_of_mem _ hy)) (hF s x (List.mem_cons_self ..) h)
theorem vQ:∀(f:Nat) (b:aW) (p q:Int) (g:KSt),0≤p→p<(g.places:Int)→0≤q→q<(g.places:Int)→InK g→InK (kbB f b p q g)∧g.places≤(kbB f b p q g).places
 | 0,b,p,q,g,_,_,_,_,h=>⟨h,Nat.le_refl _⟩
 | f+1,b,p,q,g,p0,p1,q0,q1,h=>by
  unfold kbB;split
  ·exact⟨h.lnk (.one p0 p1) (.one q0 q1),Nat.le_refl _⟩
  ·split
   ·exact⟨h.lnk (.one p0 p1) (.one q0 q1),Nat.le_refl _⟩
   ·split
    ·have:=nT (J:=fun s:KSt×Int=>InK s.1∧g.places≤s.1.places∧0≤s.2∧s.2<(s.1.places:Int)) (F:=Pz (kbB f) b.kids.length q) b.kids.zipIdx (g,p) (fun s x _ hs=>by
      obtain⟨a1,a2,a3,a4⟩:=hs;unfold Pz;split
      ·obtain⟨b1,b2⟩:=vQ f x.1 s.2 (s.1.places:Int) (more s.1 1) a3 (by simp only[more];omega) (by omega) (by simp only[more];omega) (a1.more 1);have b3:s.1.places+1≤(kbB f x.1 s.2 (s.1.places:Int) (more s.1 1)).places:=b2;exact⟨b1,by simp only;omega,by simp only;omega,by simp only;omega⟩
      ·obtain⟨b1,b2⟩:=vQ f x.1 s.2 q s.1 a3 a4 q0 (by omega) a1;exact⟨b1,by simp only;omega,q0,by simp only;omega⟩) ⟨h,Nat.le_refl _,p0,p1⟩
     exact⟨this.1,this.2.1⟩
    ·split
     ·exact nT (J:=fun s:KSt=>InK s∧g.places≤s.places) (F:=QH (kbB f) p q) b.kids g (fun s x _ hs=>by
       obtain⟨b1,b2⟩:=vQ f x p q s p0 (by have:=hs.2;omega) q0 (by have:=hs.2;omega) hs.1;exact⟨b1,Nat.le_trans hs.2 b2⟩) ⟨h,Nat.le_refl _⟩
     ·split
      ·have:=nT (J:=fun s:KSt=>InK s∧g.places+2*b.kids.length≤s.places) (F:=wW (kbB f) g.places) b.kids.zipIdx (lnk (more g (2*b.kids.length)) 0 [p] (Ez g.places b.kids.length)) (fun s x hx hs=>by
        have hlt:x.2<b.kids.length:=by
         have:=List.mem_zipIdx hx;omega
        obtain⟨b1,b2⟩:=vQ f x.1 ((g.places+2*x.2:Nat):Int) ((g.places+2*x.2+1:Nat):Int) s (by omega) (by have:=hs.2;omega) (by omega) (by have:=hs.2;omega) hs.1;exact⟨b1,Nat.le_trans hs.2 b2⟩) ⟨(h.more _).lnk (.one p0 (by simp only[more];omega)) (Vi _ _),Nat.le_refl _⟩
       exact⟨this.1.lnk ((Su _ _).mono this.2) (.one q0 (by have:=this.2;omega)),Nat.le_trans (Nat.le_add_right _ _) this.2⟩
      ·have i1:InK (lnk (more g 2) 0 [p] [(g.places:Int)]):=(h.more 2).lnk (.one p0 (by simp only[more];omega)) (.one (by omega) (by simp only[more];omega));obtain⟨g1,hg1⟩:∃g1,lnk (more g 2) 0 [p] [(g.places:Int)]=g1:=⟨_,rfl⟩;have e1:g1.places=g.places+2:=by rw[←hg1];rfl
       rw[hg1]at i1 ⊢;obtain⟨b1,b2⟩:=vQ f (b.kids.getD 0 noB) (g.places:Int) ((g.places+1:Nat):Int) g1 (by omega) (by omega) (by omega) (by omega) i1;obtain⟨c1,c2⟩:=vQ f (b.kids.getD 1 noB) ((g.places+1:Nat):Int) (g.places:Int) _ (by omega) (by omega) (by omega) (by omega) b1;exact⟨c1.lnk (.one (by omega) (by omega)) (.one q0 (by omega)),by simp only[lnk];omega⟩
def oR (b:aW):KSt:=kbB 41 b 0 1 ⟨2,[]⟩
theorem P5 (b:aW):InK (oR b):=(vQ 41 b 0 1 ⟨2,[]⟩ (by omega) (by decide) (by omega) (by decide) (fun t ht=>by cases ht)).1
def wY (P:Nat)(t:aI):aI:=⟨t.label,Si P t.pre,Si P t.post⟩
def VP (g:KSt):aS:=⟨g.places,g.links.map (wY g.places)⟩
instance (g:KSt):Decidable (bJ g):=by unfold bJ;infer_instance
def fZ (b:aW):aS×Int:=if eZ b=0 then(if bJ (oR b)then(VP (oR b),0)else(⟨0,[]⟩,4))else(⟨0,[]⟩,eZ b)
theorem vR {b:aW}(h:eZ b≠0):fZ b=(⟨0,[]⟩,eZ b):=if_neg h
theorem yK {b:aW}(h:eZ b=0)(hf:¬bJ (oR b)):fZ b=(⟨0,[]⟩,4):=by rw[fZ,if_pos h,if_neg hf]
theorem IW {b:aW}(h:eZ b=0)(hf:bJ (oR b)):fZ b=(VP (oR b),0):=by rw[fZ,if_pos h,if_pos hf]
theorem P8 {P k:Nat}{l:List aI}{t:aI}(h:l[k]?=some t):(l.take (k+1)).map (wY P)=(l.take k).map (wY P)++[wY P t]:=by
 rw[List.take_add_one,h,List.map_append];rfl
open Go.RowKit
def Xq (r:aS×Int)(w:World)(e:Ending)(w':World):Prop :=
 ∃A n c,e=.returned (.tuple #[.agg #[.int .i64 r.1.places,.slice A n c],.int .i64 r.2])∧bK w' A n c r.1.trans∧Below w.heap.size w w'
structure Uk (w u:World)(b:Nat)(blk:Array Value):Prop where
 below:Below w.heap.size w u
 arg:Box u b 71 blk
 net:Box u (b+1) 24 #[.int .i64 0,.slice none 0 0]
 err:Box u (b+1+1) 35 #[.int .i64 0]
 at_:b=w.heap.size
theorem Uk.new (w:World)(blk:Array Value):Uk w (((w.alloc (.cells blk 71)).alloc (.cells #[.int .i64 0,.slice none 0 0] 24)).alloc (.cells #[.int .i64 0] 35)) w.heap.size blk where
 below:=(((Below.refl _ _).alloc (Nat.le_refl _) _).alloc (by simp) _).alloc (by simp;omega) _
 arg:=((Box.new w blk _).old _).old _
 net:=(Box.newAt (by simp) _ _).old _
 err:=Box.newAt (by simp) _ _
 at_:=rfl
theorem Uk.keep {w u u':World}{b:Nat}{blk:Array Value}(h:Uk w u b blk)(hb:Below u.heap.size u u'):Uk w u' b blk :=
 ⟨h.below.trans (hb.mono h.below.size),h.arg.keep hb,h.net.keep hb,h.err.keep hb,h.at_⟩
theorem Xs {w u:World}{b:Nat}{x y:Int}{v:Value}(hB:Below w.heap.size w u)(hb:w.heap.size≤b)(h2:Box u (b+1) 24 #[.int .i64 x,v])(h3:Box u (b+1+1) 35 #[.int .i64 y])(x' y':Int)(v':Value) :
  Box (((u.setCell ⟨b+1,0,none⟩ (.int .i64 x')).setCell ⟨b+1,1,none⟩ v').setCell ⟨b+1+1,0,none⟩ (.int .i64 y')) (b+1) 24 #[.int .i64 x',v'] ∧
  Box (((u.setCell ⟨b+1,0,none⟩ (.int .i64 x')).setCell ⟨b+1,1,none⟩ v').setCell ⟨b+1+1,0,none⟩ (.int .i64 y')) (b+1+1) 35 #[.int .i64 y'] ∧
  Below w.heap.size w (((u.setCell ⟨b+1,0,none⟩ (.int .i64 x')).setCell ⟨b+1,1,none⟩ v').setCell ⟨b+1+1,0,none⟩ (.int .i64 y')) :=
 ⟨(h2.set2 (.int .i64 x') v').other (a:=⟨b+1+1,0,none⟩) (.int .i64 y') (by simp only;omega),((h3.other (a:=⟨b+1,0,none⟩) (.int .i64 x') (by simp only;omega)).other (a:=⟨b+1,1,none⟩) v' (by simp only;omega)).set 0 (.int .i64 y'),
  ((hB.setCell (p:=⟨b+1,0,none⟩) (by simp only;omega) _).setCell (p:=⟨b+1,1,none⟩) (by simp only;omega) _).setCell (p:=⟨b+1+1,0,none⟩) (by simp only;omega) _⟩
theorem Lo {d:Nat}{w:World}{kd lb:Int}{A:OAd}{n c:Nat}{ks:List aW}(h:vD d w A n c ks)(hw:eZ (.mk kd lb ks)≠0) :
  Calls Tryz.prog 19 #[.agg #[.int .i64 kd,.int .i64 lb,.slice A n c]] w (Xq (fZ (.mk kd lb ks)) w):=by
 have GP:=aA (vR hw);rw[GP.o];obtain⟨r,hr⟩:∃r,eZ (.mk kd lb ks)=r:=⟨_,rfl⟩;have LD:=aA (Uk.new w #[.int .i64 kd,.int .i64 lb,.slice A n c]);have CW:=aA (gV (h.keep LD.o.below) (kd:=kd) (lb:=lb));rw[hr]at hw ⊢;rw[hr]at CW;clear h GP hr;go_enter_defers Tryz.func19,Tryz.ntmps19
 go_upto_region 1 with fail
 generalize ((w.alloc (.cells #[.int .i64 kd,.int .i64 lb,.slice A n c] 71)).alloc (.cells #[.int .i64 0,.slice none 0 0] 24)).alloc (.cells #[.int .i64 0] 35)=u at *
 have a0:=LD.o.arg.three;go_upto_region 2 with(go_at_call 52;(with_reducible refine CW.o.mono ?_);rintro e w1 ⟨rfl,hb⟩;have L1:=aA (LD.o.keep hb);clear hb)
 obtain⟨c0,c1⟩:=L1.o.net.two;have f0:=L1.o.net.frozen 0;have f1:=L1.o.net.frozen 1;have d0:w1.cell? ⟨w.heap.size+1+1,0,none⟩=some (.int .i64 0):=L1.o.err.cell 0;have g0:=L1.o.err.frozen 0;go_wp2
 obtain⟨t2,t3,tb⟩:=Xs L1.o.below (Nat.le_refl _) L1.o.net L1.o.err 0 r (.slice none 0 0);have e0:=t2.cell 0;have e1:=t2.cell 1;have e2:=t3.cell 0;refine⟨.tuple #[.agg #[.int .i64 0,.slice none 0 0],.int .i64 r],(by simp[results,Tryz.results19,go_sem,e0,e1,e2]),none,0,0,rfl, ?_,tb⟩;exact Sl.nil0
theorem P9 {d:Nat}{w:World}{kd lb:Int}{A:OAd}{n c:Nat}{ks:List aW}(h:vD d w A n c ks)(hw:eZ (.mk kd lb ks)=0)(hf:¬bJ (oR (.mk kd lb ks))) :
  Calls Tryz.prog 19 #[.agg #[.int .i64 kd,.int .i64 lb,.slice A n c]] w (Xq (fZ (.mk kd lb ks)) w):=by
 have hmf:∀(fn:Fn) (first cap:Array Value) (w:World),(Instr.makeFunc fn first cap).run Tryz.prog w=.ok (.func fn first cap) w:=fun _ _ _ _=>rfl
 have GP:=aA (yK hw hf);rw[GP.o];have LD:=aA (Uk.new w #[.int .i64 kd,.int .i64 lb,.slice A n c]);have CW:=aA (gV (h.keep LD.o.below) (kd:=kd) (lb:=lb));have HW:=aA hw;have HF:=aA hf;have H:=aA h;rw[hw]at CW;clear h GP hw hf;go_enter_defers Tryz.func19,Tryz.ntmps19
 go_upto_region 1 with fail
 generalize ((w.alloc (.cells #[.int .i64 kd,.int .i64 lb,.slice A n c] 71)).alloc (.cells #[.int .i64 0,.slice none 0 0] 24)).alloc (.cells #[.int .i64 0] 35)=u at *
 have a0:=LD.o.arg.three;go_upto_region 5 with(go_at_call 52;(with_reducible refine CW.o.mono ?_);rintro e w1 ⟨rfl,hb⟩;have L1:=aA (LD.o.keep hb);clear hb)
 go_upto_region 6 with fail
 have bb:=aB w1 (.cells #[.int .i64 2,.slice none 0 0] 135);have CG:=aA (iK (IT w1 w1.heap.size 41 d kd lb A n c 0 ks 0 1 (.slice none 0 0) ⟨2,[]⟩ _ HW.o (H.o.keep L1.o.below) ⟨Nat.le_refl _,Box.new w1 _ _,aC.nil⟩ bb (by decide)) HF.o);generalize w1.alloc (.cells #[.int .i64 2,.slice none 0 0] 135)=w2 at *
 have a1:=(L1.o.keep bb).arg.three;clear bb a0;go_wp2_with (go_at_call 54;(with_reducible refine CG.o.mono ?_);rintro e w3 ⟨rfl,hb⟩;have L3:=aA (L1.o.keep hb);clear hb)
 refine leaves_cons (f:=53) (args:=#[.pointer (some ⟨w.heap.size+1,0,none⟩),.pointer (some ⟨w.heap.size+1+1,0,none⟩)]) (by simp) (by simp[go_sem]) ?_;refine(Ll (N:=w.heap.size) L3.o.net L3.o.err (by omega) (by omega) (by omega)).mono ?_;rintro e u' w'' ⟨rfl,rfl,x2,x3,xb⟩;have e0:=x2.cell 0;have e1:=x2.cell 1;have e2:=x3.cell 0;refine⟨.tuple #[.agg #[.int .i64 0,.slice none 0 0],.int .i64 4],(by simp[results,Tryz.results19,go_sem,e0,e1,e2]),none,0,0,rfl, ?_,L3.o.below.trans xb⟩;exact Sl.nil0
theorem IZ {a b c:World}{r:Option Nat}(h:a.grownBy b r)(g:b.grownBy c r):a.grownBy c r :=
 ⟨g.os.trans h.os,g.tape.trans h.tape,g.output.trans h.output,Nat.le_trans h.size g.size,fun k hk hr=>(g.block k (Nat.lt_of_lt_of_le hk h.size) hr).trans (h.block k hk hr)⟩
theorem gOf {a b:World}{r:Option Nat}(h:Below a.heap.size a b):a.grownBy b r:=⟨h.os,h.tape,h.output,h.size,fun k hk _=>h.block k hk⟩
theorem Qa {a b c:World}{r:Option Nat}(h:a.grownBy b r)(g:Below a.heap.size b c):a.grownBy c r :=
 ⟨g.os.trans h.os,g.tape.trans h.tape,g.output.trans h.output,Nat.le_trans h.size g.size,fun k hk hr=>(g.block k hk).trans (h.block k hk hr)⟩
theorem Ul {a b:World}{g N:Nat}(h:a.grownBy b (some g))(hN:N≤g)(ha:N≤a.heap.size):Below N a b :=
 ⟨h.os,h.tape,h.output,h.size,fun k hk=>h.block k (by omega) (fun e=>by injection e with e;omega)⟩
theorem WP {a b:World}{g k ty:Nat}{cs:Array Value}(h:a.grownBy b (some g))(hx:Box a k ty cs)(hne:k≠g):Box b k ty cs:=(h.block k hx.lt (fun e=>by injection e with e;exact hne e)).trans hx
theorem Sl.save {N n c g:Nat}{w w':World}{C:OAd}{l:List aI}{cs:Array Value}(h:Sl (iU N) 3 w C n c l)(hC:∀b off,C=some ⟨b,off,none⟩→0<n→b≠g)(hx:Box w g 24 cs)(hN:N≤g)(hs:w.grownBy w' (some g)):Sl (iU N) 3 w' C n c l:=by
 refine⟨h.len,h.le,h.cap,h.small,h.nul,fun hn=>?_⟩;obtain⟨b,off,e,hlt,hc⟩:=h.cells hn;refine⟨b,off,e,Nat.lt_of_lt_of_le hlt hs.size,fun i x hi=>?_⟩;obtain⟨vs,h1,h2⟩:=hc i x hi;exact⟨vs,fun q hq=>(World.cell?_of_block (hs.block b hlt (fun e'=>by injection e' with e';exact hC b off e hn e'))).trans (h1 q hq),h2.turn hN hx (by decide) hs⟩
theorem Xm.get {N:Nat}{w:World}{A:OAd}{n c k:Nat}{ts:List aI}(h:Sl (iU N) 3 w A n c ts)(hk:k<n) :
  ∃b off t A1 n1 c1 A2 n2 c2,A=some ⟨b,off,none⟩∧b<w.heap.size∧Hid (ts[k]?=some t)∧w.cell? ⟨b,off+k*3,none⟩=some (.int .i64 t.label) ∧
   w.cell? ⟨b,off+k*3+1,none⟩=some (.slice A1 n1 c1)∧w.cell? ⟨b,off+k*3+2,none⟩=some (.slice A2 n2 c2)∧aJ w A1 n1 c1 t.pre∧aJ w A2 n2 c2 t.post:=by
 obtain⟨b,off,t,vs,h1,h2,h3,h4,h0,A1,n1,c1,A2,n2,c2,e1,e2,i1,i2,_⟩:=Sl.get h hk;refine⟨b,off,t,A1,n1,c1,A2,n2,c2,h1,h2,aA h3, ?_, ?_, ?_,i1,i2⟩
 ·rw[←h0];simpa using h4 0 (by omega)
 ·rw[←e1];simpa [Nat.add_assoc] using h4 1 (by omega)
 ·rw[←e2];simpa [Nat.add_assoc] using h4 2 (by omega)
def Qb (Q:Exit→Act→World→Prop):Exit→Act→World→Prop
 | .panic _,_,_=>False
 | e,a,w=>Q e a w
theorem Vj {P:Program}{c:Code}{Q:Exit→Act→World→Prop}{a:Act}{w:World}(h:c.wp P (Qb Q) a w):c.wp P Q a w :=
 Code.wp_mono (fun e a w h=>by
  cases e <;> first|exact h|exact h.elim) h
def Vk (r:aS×Int)(w:World)(e:Ending)(w':World):Prop :=
 ∃A n c,e=.returned (.tuple #[.agg #[.int .i64 r.1.places,.slice A n c],.int .i64 r.2])∧aC (a7 w.heap.size) 3 w' w.heap.size 49 (.slice A n c) n r.1.trans∧Below w.heap.size w w'
theorem Lp {d:Nat}{w:World}{kd lb:Int}{A:OAd}{n c:Nat}{ks:List aW}(h:vD d w A n c ks)(hw:eZ (.mk kd lb ks)=0)(hf:bJ (oR (.mk kd lb ks))) :
  Calls Tryz.prog 19 #[.agg #[.int .i64 kd,.int .i64 lb,.slice A n c]] w (Vk (fZ (.mk kd lb ks)) w):=by
 have hmf:∀(fn:Fn) (first cap:Array Value) (w:World),(Instr.makeFunc fn first cap).run Tryz.prog w=.ok (.func fn first cap) w:=fun _ _ _ _=>rfl
 have GP:=aA (IW hw hf);rw[GP.o];have HI:=aA (P5 (.mk kd lb ks));obtain⟨r,hr⟩:∃r,oR (.mk kd lb ks)=r:=⟨_,rfl⟩;have HR:=aA hr;rw[hr]at hf ⊢;rw[hr]at HI;have LD:=aA (Uk.new w #[.int .i64 kd,.int .i64 lb,.slice A n c]);have CW:=aA (gV (h.keep LD.o.below) (kd:=kd) (lb:=lb));have HW:=aA hw;have HF:=aA hf;have H:=aA h;rw[hw]at CW;clear h GP hw hf hr;go_enter_defers Tryz.func19,Tryz.ntmps19
 go_upto_region 1 with fail
 generalize ((w.alloc (.cells #[.int .i64 kd,.int .i64 lb,.slice A n c] 71)).alloc (.cells #[.int .i64 0,.slice none 0 0] 24)).alloc (.cells #[.int .i64 0] 35)=u at *
 have a0:=LD.o.arg.three;go_upto_region 5 with(go_at_call 52;(with_reducible refine CW.o.mono ?_);rintro e w1 ⟨rfl,hb⟩;have L1:=aA (LD.o.keep hb);clear hb)
 go_upto_region 6 with fail
 have bb:=aB w1 (.cells #[.int .i64 2,.slice none 0 0] 135);have CG:=aA (iJ (IT w w1.heap.size 41 d kd lb A n c 0 ks 0 1 (.slice none 0 0) ⟨2,[]⟩ _ HW.o H.o ⟨L1.o.below.size,Box.new w1 _ _,aC.nil⟩ (L1.o.keep bb).below (by decide)) (by have:=HF.o;rw[←HR.o]at this;exact this));obtain⟨bg,hbg⟩:∃bg,w1.heap.size=bg:=⟨_,rfl⟩;have L2:=aA (L1.o.keep bb);have NE:=aA (show w.heap.size+1<bg from by rw[←hbg];exact L1.o.net.lt);rw[hbg]at CG;generalize w1.alloc (.cells #[.int .i64 2,.slice none 0 0] 135)=w2 at *
 have a1:=L2.o.arg.three;clear bb a0;rw[hbg];clear hbg;go_upto_region 7 with(go_at_call 54;(with_reducible refine CG.o.mono ?_);rintro e w3 ⟨rfl,⟨v',hG⟩,hb,hk⟩;have HG:=aA (show GrW w.heap.size bg w3 v' r by rw[←HR.o];exact hG);have HB:=aA hb;have X2:=aA (hk.box L2.o.net (by decide) (by decide));have X3:=aA (hk.box L2.o.err (by decide) (by decide));clear hG hb hk)
 obtain⟨P,hP⟩:∃P,r.places=P:=⟨_,rfl⟩;obtain⟨L,hL⟩:∃L,r.links=L:=⟨_,rfl⟩;obtain⟨K,hK⟩:∃K,L.length=K:=⟨_,rfl⟩;have P16:P≤16:=by have:=HF.o.1;omega
 have K24:K≤24:=by have:=HF.o.2;rw[hL]at this;omega
 have NK:=aA (show VP r=⟨P,L.map (wY P)⟩ by unfold VP;rw[hP,hL]);have IK:=aA (show ∀t∈L,Ln P t.pre∧Ln P t.post by have:=HI.o;unfold InK at this;rw[hP,hL]at this;exact this);obtain⟨C,cc,rfl,hLS⟩:=HG.o.own.sl (by have:=HF.o.2;omega);have hown:=HG.o.own;have hbox:=HG.o.box;rw[hP]at hbox;rw[hL,hK]at hbox hLS hown;have XB:=aA hbox;have LS:=aA hLS;have CN:=aA (show ∀b off,C=some ⟨b,off,none⟩→0<K→b≠w.heap.size+1 from fun b off e hn e'=>by
  obtain⟨_,o1,_⟩:=id hown;have:=lH o1 X2.o (by decide);subst e e';rcases o1.2 with⟨e,_⟩|⟨g',cap,cur,e,_⟩
  ·cases e
  ·injection e with e _ _;injection e with e;injection e with e _ _;subst e;exact this rfl)
 have HKL:=aA hK;rw[NK.o];have GG:=fW w3 (w.heap.size+1) 0 (.int .i64 P);have Z2:=aA (show Box (w3.setCell ⟨w.heap.size+1,0,none⟩ (.int .i64 P)) (w.heap.size+1) 24 #[.int .i64 P,.slice none 0 0] by simpa using X2.o.set 0 (.int .i64 P));have Z3:=aA (WP GG X3.o (by omega));have ZB:=aA (WP GG XB.o (by have:=NE.o;omega));have ZL:=aA (Sl.save LS.o CN.o X2.o (by omega) GG);have ZW:=aA (HB.o.trans (Ul GG (by omega) HB.o.size));obtain⟨c0,c1⟩:=XB.o.two;have y0:w3.cell? ⟨w.heap.size+1,0,none⟩=some (.int .i64 0):=X2.o.cell 0;have yf:=X2.o.frozen 0;clear hown hbox hLS hP hL hK GG XB LS X2 X3 HG HB a1;go_upto_region 8 with fail
 generalize w3.setCell ⟨w.heap.size+1,0,none⟩ (.int .i64 P)=w4 at *
 clear c0 c1 y0 yf;obtain⟨c0,c1⟩:=ZB.o.two;go_wp2
 go_loopg [30] K (fun gk i wr=>∃(k:Nat) (A':OAd) (c':Nat),k+gk=K∧i=.int .i64 k∧Hid (Box wr (w.heap.size+1) 24 #[.int .i64 P,.slice A' k c'])∧Hid (aC (a7 w4.heap.size) 3 wr w4.heap.size 49 (.slice A' k c') k ((L.take k).map (wY P)))∧Hid (w4.grownBy wr (some (w.heap.size+1))))
 case atStart=>exact⟨0,none,0,by omega,rfl,Z2,aA aC.nil,aA (gOf (Below.refl _ _))⟩
 case round =>
  obtain⟨k,A',c',hk,rfl,BX,own,SV⟩:=hrel;by_cases hlt:k<K
  ·have LW:=Sl.save ZL.o CN.o Z2.o (by omega) SV.o;obtain⟨bl,off,t,A1,n1,c1',A2,n2,c2,rfl,hbl,ht,q0,q1,q2,i1,i2⟩:=Xm.get LW hlt;have bb:=aB wr (.cells #[.int .i64 t.label,.slice A1 n1 c1',.slice A2 n2 c2] 138);have PK:=IK.o t (List.mem_of_getElem? ht.o);have hst:=aA (P8 (P:=P) ht.o);have m1:n1≤1000:=by have:=i1.len;have:=PK.1.2.2;omega
   have m2:n2≤1000:=by have:=i2.len;have:=PK.2.2.2;omega
   have HX1:=aA PK.1.1;have HX2:=aA PK.2.1;have I1:=aA (i1.keep bb);have I2:=aA (i2.keep bb);have X:=aA (Box.new wr #[.int .i64 t.label,.slice A1 n1 c1',.slice A2 n2 c2] 138);have BXs:=aA (BX.o.keep bb);have GBs:=aA ((WP SV.o ZB.o (by have:=NE.o;omega)).keep bb);have ow5:=aA (own.o.keep (a7.kept _) bb);have SZ:=aA SV.o.size;have SV5:=aA (Qa SV.o (bb.mono SZ.o));have sz:w4.heap.size≤(wr.alloc (.cells #[.int .i64 t.label,.slice A1 n1 c1',.slice A2 n2 c2] 138)).heap.size:=Nat.le_trans SZ.o bb.size;have SZ5:=aA sz;have RX:=aA (show wr.heap.size<(wr.alloc (.cells #[.int .i64 t.label,.slice A1 n1 c1',.slice A2 n2 c2] 138)).heap.size by simp);obtain⟨bx,hbx⟩:∃bx,wr.heap.size=bx:=⟨_,rfl⟩;rw[hbx]at X RX;clear LW i1 i2 bb PK own BX SV sz;go_upto_region 11 with fail
   clear hbx q0 q1 q2;generalize wr.alloc (.cells #[.int .i64 t.label,.slice A1 n1 c1',.slice A2 n2 c2] 138)=w5 at *
   obtain⟨x0,x1,x2⟩:=X.o.three;obtain⟨y0,y1⟩:=BXs.o.two;obtain⟨z0,_⟩:=GBs.o.two;have D1:=((Below.refl _ _).drew:Below w5.heap.size w5 w5.drew);have J1:=aA (I1.o.keep D1);have J2:=aA (I2.o.keep D1);have X5:=aA (X.o.keep D1);have B5:=aA (BXs.o.keep D1);have G5:=aA (GBs.o.keep D1);have O5:=aA (ow5.o.keep (a7.kept _) D1);have S5:=aA (Qa SV5.o (D1.mono SZ5.o));clear D1;refine Vj ?_;refine lV 20 [(0,0),(0,1),(0,2),(0,3),(0,4),(0,5),(0,6),(0,7),(0,8),(0,9),(0,11),(0,12),(0,13),(0,14),(0,15),(0,16),(1,10),(1,17),(0,18),(1,19),(2,20),(2,21),(2,22)] (fun w'=>w'.cell? ⟨bx,0,none⟩=some (.int .i64 t.label)∧w'.cell? ⟨bx,1,none⟩=some (.slice A1 n1 c1')∧w'.cell? ⟨bx,2,none⟩=some (.slice A2 n2 c2)∧w'.cell? ⟨w.heap.size+1,1,none⟩=some (.slice A' k c')∧w'.cell? ⟨bg,0,none⟩=some (.int .i64 P)) (by kernel_rfl) (by kernel_rfl) (by kernel_rfl) (fun _ _ _ _ _ h=>h) ⟨x0,x1,x2,y1,z0⟩ (fun hH=>?_)
   iterate 16
    refine mE (v:=?_) rfl (by rfl) hH (fun w' hSw=>?_) ?_
    rotate_left
    ·(go_simp;try with_reducible rfl)
    simp only[Act.put,aL,aM,aN]
   refine Jp rfl (fun K hK=>?_);go_simp;go_at_call 55
   (with_reducible refine(qX J1.o (by omega) m1 HX1.o).mono ?_)
   rintro e w6 ⟨g6,rfl,o6,b6⟩;have X6:=aA (X5.o.keep b6);have B6:=aA (B5.o.keep b6);have G6:=aA (G5.o.keep b6);have O6:=aA (O5.o.keep (a7.kept _) b6);have K2:=aA (J2.o.keep b6);have S6:=aA (Qa S5.o (b6.mono S5.o.size));have W6:=aA (aC.base o6 S5.o.size);clear b6 o6;refine hK.out _ _ ⟨X6.o.cell 0,X6.o.cell 1,X6.o.cell 2,B6.o.cell 1,G6.o.cell 0⟩ (fun hH=>?_);clear hK;refine Jp rfl (fun K hK=>?_);go_simp;go_at_call 55
   (with_reducible refine(qX K2.o (by omega) m2 HX2.o).mono ?_)
   rintro e w7 ⟨g7,rfl,o7,b7⟩;have X7:=aA (X6.o.keep b7);have B7:=aA (B6.o.keep b7);have G7:=aA (G6.o.keep b7);have O7:=aA (O6.o.keep (a7.kept _) b7);have S7:=aA (Qa S6.o (b7.mono S6.o.size));have RD:=aA (show a7 w4.heap.size w7 (fun j=>[Value.int .i64 t.label,.slice (some ⟨g6,0,none⟩) P P,.slice (some ⟨g7,0,none⟩) P P].getD j undef) (wY P t)from⟨rfl,P,P,W6.o.keep iG.kept b7,aC.base o7 S6.o.size,by omega,by omega⟩);have KP:=aA (If O7.o);clear b7 o7;refine hK.out _ _ ⟨X7.o.cell 0,X7.o.cell 1,X7.o.cell 2,B7.o.cell 1,G7.o.cell 0⟩ (fun hH=>?_);clear hK;refine mE (v:=?_) rfl (by rfl) hH (fun w' hSw=>?_) ?_
   rotate_left
   ·(go_simp;try with_reducible rfl)
   simp only[Act.put,aL,aM,aN];refine Jp rfl (fun K hK=>?_);go_simp
   refine hK.out _ _ (by refine⟨(X7.o.old _).cell 0,(X7.o.old _).cell 1,(X7.o.old _).cell 2,(B7.o.old _).cell 1,(G7.o.old _).cell 0⟩) (fun hH=>?_);clear hK;refine Jq rfl (fun K hK=>?_);refine jD MR rfl (.tmp 35) (.tmp 53) rfl [wY P t] #[.int .i64 t.label,.slice (some ⟨g6,0,none⟩) P P,.slice (some ⟨g7,0,none⟩) P P] rfl rfl (by first|rfl|simp) rfl rfl (by omega) (by simp[Value.oneCell']) O7.o (a6.tran RD.o) rfl (Below.refl w4.heap.size w7) S7.o.size (by omega) (by omega) KP.o ?_;intro g cap w8 own8 hg8 hb8 hBg hgl;have B8:=aA (B7.o.grown hg8 (fun e=>by have:=(O7.o.lt _ e).1;have:=Z2.o.lt;omega));have O8:=aA own8;have S8:=aA (Qa S7.o hb8);have v0:w8.cell? ⟨w.heap.size+1,1,none⟩=some (.slice A' k c'):=B8.o.cell 1;have v1:=B8.o.frozen 1;clear own8 hg8 hb8;refine hK.out _ _ ?_;clear hK;simp only[Act.put,aL,aM,aN];refine Jq rfl (fun K hK=>?_);go_simp
   refine hK.out _ _ ?_;clear hK;refine Jq rfl (fun K hK=>?_);go_simp
   refine hK.out _ _ ?_;clear hK;simp only[eR,Qb]
   all_goals
    go_wp2
    go_roundg (gk-1)
    case measure=>omega
    case rel=>exact⟨k+1,some ⟨g,0,none⟩,cap,by omega,by go_num,aA (by simpa using B8.o.set 1 (.slice (some ⟨g,0,none⟩) (k+1) cap)),aA (by rw[hst.o];exact(iC O8.o Z2.o.lt).o),aA (IZ S8.o (fW w8 (w.heap.size+1) 1 _))⟩
  ·obtain rfl:k=K:=by omega
   have E3:=aA (WP SV.o Z3.o (by omega));have WB:=aA (ZW.o.trans (Ul SV.o (by omega) ZW.o.size));have hst:=aA (show(L.take k).map (wY P)=L.map (wY P) by rw[List.take_of_length_le (by rw[HKL.o];omega)]);have OW:=aA own.o;have SW:=aA (Nat.lt_of_lt_of_le Z2.o.lt (Nat.le_refl w4.heap.size));obtain⟨y0,y1⟩:=BX.o.two;have f0:=BX.o.frozen 0;have f1:=BX.o.frozen 1;have u0:wr.cell? ⟨w.heap.size+1+1,0,none⟩=some (.int .i64 0):=E3.o.cell 0;have v0:=E3.o.frozen 0;clear own SV;go_wp2
   obtain⟨t2,t3,tb⟩:=Xs WB.o (Nat.le_refl _) BX.o E3.o P 0 (.slice A' k c');refine leaves_cons (f:=53) (args:=#[.pointer (some ⟨w.heap.size+1,0,none⟩),.pointer (some ⟨w.heap.size+1+1,0,none⟩)]) (by simp) (by simp[go_sem]) ?_;refine Lm.mono ?_;rintro e u' w'' ⟨rfl,rfl,rfl⟩;have e0:=t2.cell 0;have e1:=t2.cell 1;have e2:=t3.cell 0;rw[NK.o];refine⟨.tuple #[.agg #[.int .i64 P,.slice A' k c'],.int .i64 0],(by simp[results,Tryz.results19,go_sem,e0,e1,e2]),A',k,c',rfl, ?_,tb⟩;have s1:=(iC (j:=0) (u:=.int .i64 0) (iC (j:=1) (u:=.slice A' k c') (iC (j:=0) (u:=.int .i64 P) OW.o SW.o).o SW.o).o (show w.heap.size+1+1<w4.heap.size from Z3.o.lt)).o;rw[hst.o]at s1;have hle:w.heap.size≤w4.heap.size:=by have:=Z2.o.lt;omega
   obtain⟨cells,q1,q2,q3⟩:=s1.base hle;exact⟨cells,q1,⟨q2.1,fun i x hx=>by obtain⟨vs,a,b⟩:=q2.2 i x hx;exact⟨vs,a,b.base hle⟩⟩,q3⟩
def Wn (r:aS×Int)(w:World)(e:Ending)(w':World):Prop :=
 ∃A n c,e=.returned (.tuple #[.agg #[.int .i64 r.1.places,.slice A n c],.int .i64 r.2])∧bK w' A n c r.1.trans∧(r.2=0→aC (a7 w.heap.size) 3 w' w.heap.size 49 (.slice A n c) n r.1.trans)∧Below w.heap.size w w'
theorem Vk.net {r:aS×Int}{w w':World}{e:Ending}(h:Vk r w e w')(hn:r.1.trans.length≤24):Wn r w e w':=by
 obtain⟨A,n,c,rfl,own,hb⟩:=h;have hl:n≤24:=by rw[←own.len];exact hn
 obtain⟨C',c2,hv,hs⟩:=own.sl (by omega);injection hv with e1 e2 e3;subst e1 e3;exact⟨_,n,_,rfl,hs.imp (fun _ _ h=>h.tran),fun _=>own,hb⟩
theorem vS {d:Nat}{w:World}{kd lb:Int}{A:OAd}{n c:Nat}{ks:List aW}(h:vD d w A n c ks) :
  Calls Tryz.prog 19 #[.agg #[.int .i64 kd,.int .i64 lb,.slice A n c]] w (Wn (fZ (.mk kd lb ks)) w):=by
 by_cases hw:eZ (.mk kd lb ks)=0
 ·by_cases hf:bJ (oR (.mk kd lb ks))
  ·refine(Lp h hw hf).mono fun e w' hA=>hA.net ?_
   rw[IW hw hf];simp only[VP,List.length_map];exact hf.2
  ·refine(P9 h hw hf).mono fun e w' ⟨A,n,c,he,ht,hb⟩=>⟨A,n,c,he,ht,fun h0=>?_,hb⟩
   rw[yK hw hf]at h0;cases h0
 ·refine(Lo h hw).mono fun e w' ⟨A,n,c,he,ht,hb⟩=>⟨A,n,c,he,ht,fun h0=>?_,hb⟩
  rw[vR hw]at h0;exact absurd h0 hw
end Go.Proofs.YtfmnagcglhlicaaGreat
