/- Texts melted into one: The contracts of blocks.Wrong and JWrong. Conditions: the block reads as a tree. | mine's Mine. Conditions: the log reads as lists. | The plain law of growing: the net -/
import Derived.Test.YtfmnagcglhlicaaGreatTopCrashK36
set_option maxRecDepth 100000
set_option maxHeartbeats 4000000
namespace Go.Proofs.YtfmnagcglhlicaaGreat
open Go.RowKit
theorem gV {d:Nat}{w:World}{kd lb:Int}{A:OAd}{n c:Nat}{ks:List aW}(h:vD d w A n c ks) :
  Calls Tryz.prog 52 #[.agg #[.int .i64 kd,.int .i64 lb,.slice A n c]] w (fun e w'=>e=.returned (.int .i64 (eZ (.mk kd lb ks)))∧Below w.heap.size w w'):=by
 have henter:∀(args:Array Value) (w:World),Sem.run Tryz.prog (callFunc 98 args) w=.ok (.enter 98 args) w:=fun args w=>by kernel_rfl
 obtain⟨r,hr⟩:∃r,bX 41 (.mk kd lb ks) 0=r:=⟨_,rfl⟩;have FIN:=aA (show eZ (.mk kd lb ks)=r.2 by unfold eZ;rw[hr]);have HR:=aA hr;have H:=aA h;clear hr h;go_enter Tryz.func52,Tryz.ntmps52
 go_upto_region 3 with fail
 generalize hw4:((w.alloc (.cells #[.int .i64 kd,.int .i64 lb,.slice A n c] 71)).alloc (.cells #[.int .i64 0] 3)).alloc (.cells #[.nilFunc] 128)=w4;have D4:Below w.heap.size w w4:=by rw[←hw4];exact(((Below.refl _ _).alloc (Nat.le_refl _) _).alloc (by simp) _).alloc (by simp;omega) _
 have Y0:Box w4 w.heap.size 71 #[.int .i64 kd,.int .i64 lb,.slice A n c]:=by rw[←hw4];exact((Box.new _ _ _).old _).old _
 have Y1:Box w4 (w.heap.size+1) 3 #[.int .i64 0]:=by rw[←hw4];exact(Box.newAt (by simp) _ _).old _
 have Y2:Box w4 (w.heap.size+1+1) 128 #[.nilFunc]:=by rw[←hw4];exact Box.newAt (by simp) _ _
 clear hw4;have f0:=Y2.frozen 0;have n0:=Y2.cell 0;simp only[List.getElem?_toArray,List.getElem?_cons_zero]at n0;go_upto_region 4 with fail
 generalize hw5:w4.setCell ⟨w.heap.size+1+1,0,none⟩ (.func (.func 98) #[] #[.pointer (some ⟨w.heap.size+1,0,none⟩),.pointer (some ⟨w.heap.size+1+1,0,none⟩)])=w5;have hmk:mR (w.heap.size+1) (w.heap.size+1+1)=(.func (.func 98) #[] #[.pointer (some ⟨w.heap.size+1,0,none⟩),.pointer (some ⟨w.heap.size+1+1,0,none⟩)]):=rfl;rw[←hmk]at hw5;have hbs:aK (w.heap.size+1+1) w4 w5:=by rw[←hw5];exact aK.set _ _ _ _
 have D5:=aA (show Below w.heap.size w w5 by rw[←hw5];exact D4.setCell (show w.heap.size≤w.heap.size+1+1 by omega) _);have Z0:=aA (hbs.box Y0 (by omega));have Z1:=aA (hbs.box Y1 (by omega));have Z2:Box w5 (w.heap.size+1+1) 128 #[mR (w.heap.size+1) (w.heap.size+1+1)]:=by rw[←hw5];simpa using Y2.set 0 (mR (w.heap.size+1) (w.heap.size+1+1))
 have fn0:=Z2.cell 0;simp only[List.getElem?_toArray,List.getElem?_cons_zero]at fn0;obtain⟨b0,b1,b2⟩:=Z0.o.three;have CL:=aA (Ge (w0:=w) (bn:=w.heap.size+1) (bc:=w.heap.size+1+1) (by omega) (by omega) 41 d kd lb A n c 0 ks w5 (by omega) (by omega) H.o Z1.o Z2 D5.o);rw[HR.o]at CL;clear hw5 hbs Y0 Y1 Y2 f0 n0 D4 Z2;go_wp2_with fail
 refine CL.o.mono ?_;rintro e w6 ⟨rfl,_,_,hb6⟩;have D6:=aA hb6;clear hb6 fn0;go_wp2
 go_ret
 rw[FIN.o];exact⟨by first|rfl|simp,D6.o⟩
open Go.Maps
noncomputable def eQ (log:LLi):Int×aW:=if cP log≠0 then(cP log,eV)else if eZ (aP 60 log)≠0 then(eZ (aP 60 log),eV)else(0,aP 60 log)
def Xp (w:World)(v:Value)(T:aW):Prop:=∃A n c,v=.agg #[.int .i64 T.kind,.int .i64 T.label,.slice A n c]∧vD 62 w A n c T.kids
theorem fJ.toV {P:Nat→Prop}{w:World}{v:Value}{T:aW}(h:fJ P 62 w v T):Xp w v T:=by
 obtain⟨A,n,c,e,s,_⟩:=h;exact⟨A,n,c,e,s.imp (fun _ _ r=>r.toD 62)⟩
def zZ (log:LLi)(w:World)(e:Ending)(w':World):Prop:=∃v,e=.returned (.tuple #[v,.int .i64 (eQ log).1])∧Xp w' v (eQ log).2∧Below w.heap.size w w'
theorem DU {w:World}{A:OAd}{n c:Nat}{log:LLi}(h:bT w A n c log) :
  Calls Tryz.prog 44 #[.slice A n c] w (zZ log w):=by
 have B0:=aA (aB w (.cells #[.int .i64 0,.int .i64 0,.slice none 0 0] 71));have X0:=aA (Box.new w #[.int .i64 0,.int .i64 0,.slice none 0 0] 71);have H:=aA (Sl.keep bH.kept h B0.o);clear h;go_enter Tryz.func44,Tryz.ntmps44
 go_upto_region 1 with fail
 generalize w.alloc (.cells #[.int .i64 0,.int .i64 0,.slice none 0 0] 71)=w1 at *
 have CW:=aA (lB H.o);go_wp2_with fail
 refine CW.o.mono ?_;rintro e w2 ⟨rfl,rfl⟩;have W1:=aA X0.o.lt;obtain⟨z,hz⟩:∃z,cP log=z:=⟨_,rfl⟩;have HZ:=aA hz;rw[hz];clear hz CW;by_cases h0:z=0
 ·have h0i:(z != 0)=false:=by simp[h0]
  have H0:=aA (show cP log=0 from HZ.o.trans h0);have CF:=aA (Uj 60 w1 A n c log H.o (vK.start H0.o));clear h0;go_wp2_with fail
  refine CF.o.mono ?_;rintro e w3 ⟨v3,rfl,⟨A3',n3',c3',rfl,s3,p3⟩,hb3⟩;have s3d:=s3.imp (fun _ _ r=>oM.toD 62 r);have BA:=aA (show fJ (fun q=>w1.heap.size≤q) 62 w3 (.agg #[.int .i64 (aP 60 log).kind,.int .i64 (aP 60 log).label,.slice A3' n3' c3']) (aP 60 log)from⟨A3',n3',c3',rfl,s3,p3⟩);have WE:=aA (show eZ (.mk (aP 60 log).kind (aP 60 log).label (aP 60 log).kids)=eZ (aP 60 log) by cases aP 60 log;rfl);obtain⟨kd,hkd⟩:∃x,x=(aP 60 log).kind:=⟨_,rfl⟩;obtain⟨lb,hlb⟩:∃x,x=(aP 60 log).label:=⟨_,rfl⟩;rw[←hkd,←hlb]at BA WE;rw[←hkd,←hlb];have BB:=aA (aB w3 (.cells #[.int .i64 kd,.int .i64 lb,.slice A3' n3' c3'] 71));have TB:=aA (Box.new w3 #[.int .i64 kd,.int .i64 lb,.slice A3' n3' c3'] 71);have CB:=aA (gV (kd:=kd) (lb:=lb) (vD.keep s3d BB.o));have H14:=aA (hb3.trans (BB.o.mono hb3.size));have BA4:=aA (BA.o.keep BB.o);clear s3 p3 s3d hb3 hkd hlb CF;go_upto_region 5 with fail
  generalize w3.alloc (.cells #[.int .i64 kd,.int .i64 lb,.slice A3' n3' c3'] 71)=w4 at *
  generalize w3.heap.size=bz at *
  obtain⟨t0,t1,t2⟩:=TB.o.three;obtain⟨y,hy⟩:∃y,eZ (aP 60 log)=y:=⟨_,rfl⟩;have HY:=aA hy;rw[WE.o,hy]at CB;clear hy;go_wp2_with fail
  refine CB.o.mono ?_;rintro e w5 ⟨rfl,hb5⟩;have H15:=aA (H14.o.trans (hb5.mono H14.o.size));have BA5:=aA (BA4.o.keep hb5);have X5:=aA (X0.o.keep H15.o);obtain⟨t0,t1,t2⟩:=(TB.o.keep hb5).three;clear hb5 CB;by_cases hy0:y=0
  ·have hy0i:(y != 0)=false:=by simp[hy0]
   have EQ:=aA (show eQ log=(0,aP 60 log) by unfold eQ;rw[if_neg (by rw[H0.o];exact fun h=>h rfl),if_neg (by rw[HY.o];exact fun h=>h hy0)]);have FB:=aA (show ∀(w':World) (v:Value),fJ (fun j=>w.heap.size≤j) 62 w' v (aP 60 log)→Below w.heap.size w w'→zZ log w (.returned (.tuple #[v,.int .i64 0])) w' from fun w' v hb hw=>⟨v,by rw[EQ.o],by rw[EQ.o];exact hb.toV,hw⟩);clear hy0;obtain⟨u0,u1,u2⟩:=X5.o.three;have fz:=fun q=>X5.o.frozen q
   have WW:=aA (d9 (w:=w) BA5.o X5.o H15.o B0.o W1.o (Nat.le_refl _));go_wp2
   generalize (((w5.setCell ⟨w.heap.size,0,none⟩ (.int .i64 kd)).setCell ⟨w.heap.size,1,none⟩ (.int .i64 lb)).setCell ⟨w.heap.size,2,none⟩ (.slice A3' n3' c3'))=ww at *
   obtain⟨z0,z1,z2⟩:=WW.o.1.three;exact bodyPost_ret (v:=.tuple #[.agg #[.int .i64 kd,.int .i64 lb,.slice A3' n3' c3'],.int .i64 0]) (by simp[results,Tryz.results44,go_sem,z0,z1,z2]) rfl (FB.o ww _ WW.o.2.1 WW.o.2.2)
  ·have hy0i:(y != 0)=true:=by simp[hy0]
   have EQ:=aA (show eQ log=(y,eV) by unfold eQ;rw[if_neg (by rw[H0.o];exact fun h=>h rfl),if_pos (by rw[HY.o];exact hy0),HY.o]);have FB:=aA (show ∀(w':World) (v:Value),fJ (fun j=>w.heap.size≤j) 62 w' v (eV)→Below w.heap.size w w'→zZ log w (.returned (.tuple #[v,.int .i64 y])) w' from fun w' v hb hw=>⟨v,by rw[EQ.o],by rw[EQ.o];exact hb.toV,hw⟩);have BZ:=aA (show fJ (fun q=>w1.heap.size≤q) 62 w5 (.agg #[.int .i64 0,.int .i64 0,.slice none 0 0]) eV from⟨none,0,0,rfl,Sl.nil0,fun h=>absurd h (by omega)⟩);clear hy0;obtain⟨u0,u1,u2⟩:=X5.o.three;have fz:=fun q=>X5.o.frozen q
   have WW:=aA (d9 (w:=w) BZ.o X5.o H15.o B0.o W1.o (Nat.le_refl _));go_wp2
   generalize (((w5.setCell ⟨w.heap.size,0,none⟩ (.int .i64 0)).setCell ⟨w.heap.size,1,none⟩ (.int .i64 0)).setCell ⟨w.heap.size,2,none⟩ (.slice none 0 0))=ww at *
   obtain⟨z0,z1,z2⟩:=WW.o.1.three;exact bodyPost_ret (v:=.tuple #[.agg #[.int .i64 0,.int .i64 0,.slice none 0 0],.int .i64 y]) (by simp[results,Tryz.results44,go_sem,z0,z1,z2]) rfl (FB.o ww _ WW.o.2.1 WW.o.2.2)
 ·have h0i:(z != 0)=true:=by simp[h0]
  have EQ:=aA (show eQ log=(z,eV) by unfold eQ;rw[if_pos (by rw[HZ.o];exact h0),HZ.o]);have FB:=aA (show ∀(w':World) (v:Value),fJ (fun j=>w.heap.size≤j) 62 w' v (eV)→Below w.heap.size w w'→zZ log w (.returned (.tuple #[v,.int .i64 z])) w' from fun w' v hb hw=>⟨v,by rw[EQ.o],by rw[EQ.o];exact hb.toV,hw⟩);have BZ:=aA (show fJ (fun q=>w1.heap.size≤q) 62 w1 (.agg #[.int .i64 0,.int .i64 0,.slice none 0 0]) eV from⟨none,0,0,rfl,Sl.nil0,fun h=>absurd h (by omega)⟩);clear h0;obtain⟨u0,u1,u2⟩:=X0.o.three;have fz:=fun q=>X0.o.frozen q
  have WW:=aA (d9 (w:=w) BZ.o X0.o (Below.refl _ _) B0.o W1.o (Nat.le_refl _));go_wp2
  generalize (((w1.setCell ⟨w.heap.size,0,none⟩ (.int .i64 0)).setCell ⟨w.heap.size,1,none⟩ (.int .i64 0)).setCell ⟨w.heap.size,2,none⟩ (.slice none 0 0))=ww at *
  obtain⟨z0,z1,z2⟩:=WW.o.1.three;exact bodyPost_ret (v:=.tuple #[.agg #[.int .i64 0,.int .i64 0,.slice none 0 0],.int .i64 z]) (by simp[results,Tryz.results44,go_sem,z0,z1,z2]) rfl (FB.o ww _ WW.o.2.1 WW.o.2.2)
end Go.Proofs.YtfmnagcglhlicaaGreat
namespace Go.Proofs.YtfmnagcglhlicaaGreat
structure KSt where
 places:Nat
 links:List aI
def lnk (g:KSt)(l:Int)(a b:LIn):KSt:=⟨g.places,g.links++[⟨l,a,b⟩]⟩
def more (g:KSt)(k:Nat):KSt:=⟨g.places+k,g.links⟩
abbrev WO:=aW→Int→Int→KSt→KSt
def Pz (r:WO)(n:Nat)(q:Int)(s:KSt×Int)(x:aW×Nat):KSt×Int :=
 if x.2+1<n then(r x.1 s.2 (s.1.places:Int) (more s.1 1),(s.1.places:Int))else(r x.1 s.2 q s.1,q)
def QH (r:WO)(p q:Int)(g:KSt)(k:aW):KSt:=r k p q g
def wW (r:WO)(pl:Nat)(g:KSt)(x:aW×Nat):KSt:=r x.1 ((pl+2*x.2:Nat):Int) ((pl+2*x.2+1:Nat):Int) g
def Ez (pl n:Nat):LIn:=(List.range n).map fun i=>((pl+2*i:Nat):Int)
def qW (pl n:Nat):LIn:=(List.range n).map fun i=>((pl+2*i+1:Nat):Int)
theorem PC (pl n:Nat):Ez pl (n+1)=Ez pl n++[((pl+2*n:Nat):Int)]:=by simp[Ez,List.range_succ]
theorem Ld (pl n:Nat):qW pl (n+1)=qW pl n++[((pl+2*n+1:Nat):Int)]:=by simp[qW,List.range_succ]
theorem RY (pl n:Nat):(Ez pl n).length=n:=by simp[Ez]
theorem PG (pl n:Nat):(qW pl n).length=n:=by simp[qW]
def noB:aW:=.mk 0 0 []
def kbB:Nat→aW→Int→Int→KSt→KSt
 | 0,_,_,_,g=>g
 | f+1,b,p,q,g =>
  if b.kind=1 then lnk g 0 [p] [q]else if b.kind=2 then lnk g b.label [p] [q]
  else if b.kind=3 then(b.kids.zipIdx.foldl (Pz (kbB f) b.kids.length q) (g,p)).1
  else if b.kind=4 then b.kids.foldl (QH (kbB f) p q) g
  else if b.kind=5 then lnk (b.kids.zipIdx.foldl (wW (kbB f) g.places) (lnk (more g (2*b.kids.length)) 0 [p] (Ez g.places b.kids.length))) 0 (qW g.places b.kids.length) [q]
  else lnk (kbB f (b.kids.getD 1 noB) ((g.places+1:Nat):Int) (g.places:Int) (kbB f (b.kids.getD 0 noB) (g.places:Int) ((g.places+1:Nat):Int) (lnk (more g 2) 0 [p] [(g.places:Int)]))) 0 [((g.places+1:Nat):Int)] [q]
structure Gr (a b:KSt)(k:Nat):Prop where
 up:a.places≤b.places
 few:b.places≤a.places+4*k
 pre:a.links <+: b.links
 short:b.links.length≤a.links.length+2*k
theorem Gr.refl (a:KSt)(k:Nat):Gr a a k:=⟨Nat.le_refl _,by omega,List.prefix_rfl,by omega⟩
theorem Gr.trans {a b c:KSt}{k l:Nat}(h:Gr a b k)(g:Gr b c l):Gr a c (k+l):=⟨Nat.le_trans h.up g.up,by have:=h.few;have:=g.few;omega,h.pre.trans g.pre,by have:=h.short;have:=g.short;omega⟩
def Gr1 (a b:KSt)(k:Nat):Prop:=Gr a b k∧b.places+2≤a.places+4*k
theorem RZ {α:Type}{l:List α}{i:Nat}{x:α}(h:l[i]?=some x):(l.take (i+1)).zipIdx=(l.take i).zipIdx++[(x,i)]:=by
 have hi:=(List.getElem?_eq_some_iff.1 h).1;rw[List.take_add_one,h,Option.toList_some,List.zipIdx_append];simp[List.length_take,Nat.min_eq_left (Nat.le_of_lt hi)]
theorem rU {σ:Type}{f:Nat}(view:σ→KSt)(F:σ→aW×Nat→σ)(hF:∀(s:σ) (x:aW×Nat) (hd:Nat),(bX f x.1 hd).2=0→Gr (view s) (view (F s x)) ((bX f x.1 hd).1-hd)) :
  ∀(l:List aW) (j hd h':Nat) (s:σ),l.foldl (bM (bX f)) (hd,0)=(h',0)→Gr (view s) (view ((l.zipIdx j).foldl F s)) (h'-hd)∧hd+l.length≤h'
 | [],j,hd,h',s,h=>by
  simp only[List.foldl_nil,Prod.mk.injEq,and_true]at h;subst h;exact⟨Gr.refl _ _,by simp⟩
 | k::l,j,hd,h',s,h=>by
  rw[List.foldl_cons,bM,if_pos rfl]at h;have h2:(bX f k hd).2=0:=by
   apply Classical.byContradiction
   intro hne;rw[nN hne]at h;rw[h]at hne;exact hne rfl
  obtain⟨e1,e2⟩:=gJ f k hd h2;have hpair:bX f k hd=((bX f k hd).1,0):=by rw[←h2]
  rw[hpair]at h;obtain⟨g1,g2⟩:=rU view F hF l (j+1) _ h' (F s (k,j)) h;have g0:=hF s (k,j) hd h2;simp only[List.zipIdx_cons,List.foldl_cons,List.length_cons];refine⟨?_,by omega⟩;have:=g0.trans g1;rwa[show(bX f k hd).1-hd+(h'-(bX f k hd).1)=h'-hd by omega]at this
theorem tR {k l:Int}{n:Nat}(h:dL k l n=0):1≤k∧k≤6∧(k=6→n=2)∧(3≤k→0<n):=by
 unfold dL at h;split at h
 ·cases h
 ·rename_i h1
  split at h
  ·cases h
  ·split at h
   ·cases h
   ·rename_i h3
    have h4:¬(k<1∨6<k):=h1;refine⟨by omega,by omega,fun e=>?_,fun e=>?_⟩
    ·apply Classical.byContradiction;intro h5;exact h3 (.inr (.inr ⟨e,h5⟩))
    ·apply Classical.byContradiction;intro h5;exact h3 (.inr (.inl ⟨e,by omega⟩))
theorem j7 {f:Nat}{b:aW}{had:Nat}(h:(bX (f+1) b had).2=0):had+1≤40∧dL b.kind b.label b.kids.length=0∧∃h',bX (f+1) b had=(h',0)∧b.kids.foldl (bM (bX f)) (had+1,0)=(h',0):=by
 rw[bX]at h ⊢;split at h
 ·cases h
 ·rename_i h1
  rw[if_neg h1];split at h
  ·rename_i h2;exact absurd h h2
  ·rename_i h2
   rw[if_neg h2];have e:b.kids.foldl (bM (bX f)) (had+1,0)=((b.kids.foldl (bM (bX f)) (had+1,0)).1,0):=Prod.ext rfl h;exact⟨by omega,by simpa using h2,_,e,e⟩
theorem lG:∀(f:Nat) (b:aW) (had:Nat) (p q:Int) (g:KSt),(bX f b had).2=0→Gr1 g (kbB f b p q g) ((bX f b had).1-had)
 | 0,b,had,p,q,g,h=>by rw[bX]at h;cases h
 | f+1,b,had,p,q,g,h=>by
  obtain⟨h1,h2,h',e1,e2⟩:=j7 h;obtain⟨k1,k6,k62,k30⟩:=tR h2;rw[e1];simp only;have hle:had+1+b.kids.length≤h':=(rU (f:=f) (fun g:KSt=>g) (fun s x=>s) (fun s x hd _=>Gr.refl _ _) b.kids 0 _ _ g e2).2;unfold kbB;split
  ·refine⟨⟨Nat.le_refl _,by simp[lnk],List.prefix_append _ _,by simp[lnk];omega⟩,by simp only[lnk];omega⟩
  ·split
   ·refine⟨⟨Nat.le_refl _,by simp[lnk],List.prefix_append _ _,by simp[lnk];omega⟩,by simp only[lnk];omega⟩
   ·split
    ·have:=(rU (f:=f) (fun s:KSt×Int=>s.1) (Pz (kbB f) b.kids.length q) (fun s x hd hx=>by
      unfold Pz;split
      ·have:=lG f x.1 hd s.2 (s.1.places:Int) (more s.1 1) hx;refine⟨by have:=this.1.up;simp only[more]at this ⊢;omega,by have:=this.2;simp only[more]at this ⊢;omega,this.1.pre,this.1.short⟩
      ·exact(lG f x.1 hd s.2 q s.1 hx).1) b.kids 0 _ _ (g,p) e2).1
     refine⟨⟨this.up,by have:=this.few;simp only at this;omega,this.pre,by have:=this.short;simp only at this;omega⟩,by have:=this.few;simp only at this;omega⟩
    ·split
     ·have key:=(rU (f:=f) (fun g:KSt=>g) (fun s x=>QH (kbB f) p q s x.1) (fun s x hd hx=>(lG f x.1 hd p q s hx).1) b.kids 0 _ _ g e2).1;have ez:∀(l:List aW) (j:Nat) (g:KSt),(l.zipIdx j).foldl (fun s x=>QH (kbB f) p q s x.1) g=l.foldl (QH (kbB f) p q) g:=fun l=>by
       induction l with
       | nil=>intro j g;rfl
       | cons a l ih=>intro j g;simp only[List.zipIdx_cons,List.foldl_cons];exact ih _ _
      rw[ez]at key;refine⟨⟨key.up,by have:=key.few;omega,key.pre,by have:=key.short;omega⟩,by have:=key.few;omega⟩
     ·split
      ·obtain⟨g1,hg1⟩:∃g1,lnk (more g (2*b.kids.length)) 0 [p] (Ez g.places b.kids.length)=g1:=⟨_,rfl⟩;have hp1:g1.places=g.places+2*b.kids.length:=by rw[←hg1];rfl
       have hl1:g1.links.length=g.links.length+1:=by rw[←hg1];simp[lnk,more]
       have hx1:g.links <+: g1.links:=by rw[←hg1];exact List.prefix_append _ _
       rw[hg1];have key:∀(l:List aW) (j hd h':Nat) (s:KSt),l.foldl (bM (bX f)) (hd,0)=(h',0)→Gr s ((l.zipIdx j).foldl (wW (kbB f) g.places) s) (h'-hd)∧((l.zipIdx j).foldl (wW (kbB f) g.places) s).places+2*l.length≤s.places+4*(h'-hd):=fun l=>by
        induction l with
        | nil =>
         intro j hd h' s hh;exact⟨Gr.refl _ _,by simp⟩
        | cons k l ih =>
         intro j hd h' s hh;rw[List.foldl_cons,bM,if_pos rfl]at hh;have hk:(bX f k hd).2=0:=by
          apply Classical.byContradiction
          intro hne;rw[nN hne]at hh;rw[hh]at hne;exact hne rfl
         obtain⟨o1,_⟩:=gJ f k hd hk;have hpair:bX f k hd=((bX f k hd).1,0):=by rw[←hk]
         rw[hpair]at hh;have hge:=(rU (f:=f) (fun g:KSt=>g) (fun s x=>s) (fun s x hd _=>Gr.refl _ _) l 0 _ _ s hh).2;obtain⟨i1,i2⟩:=ih (j+1) _ h' (wW (kbB f) g.places s (k,j)) hh;obtain⟨c1,c2⟩:=lG f k hd ((g.places+2*j:Nat):Int) ((g.places+2*j+1:Nat):Int) s hk;have c1':Gr s (wW (kbB f) g.places s (k,j)) ((bX f k hd).1-hd):=c1;have c2':(wW (kbB f) g.places s (k,j)).places+2≤s.places+4*((bX f k hd).1-hd):=c2;simp only[List.zipIdx_cons,List.foldl_cons,List.length_cons];have:=c1'.trans i1;rw[show(bX f k hd).1-hd+(h'-(bX f k hd).1)=h'-hd by omega]at this;exact⟨this,by omega⟩
       obtain⟨f1,f2⟩:=key b.kids 0 _ _ g1 e2;have f1u:=f1.up;have f1s:=f1.short;refine⟨⟨by simp only[lnk];omega,by simp only[lnk];omega,(hx1.trans f1.pre).trans (List.prefix_append _ _),by simp[lnk];omega⟩,by simp only[lnk];omega⟩
      ·have hk6:b.kind=6:=by omega
       have hn:=k62 hk6;obtain⟨a0,a1,ha⟩:∃a0 a1,b.kids=[a0,a1]:=by
        match hb:b.kids,hn with
        | [a0,a1],_=>exact⟨a0,a1,rfl⟩
       rw[ha]at e2 ⊢;simp only[List.foldl_cons,List.foldl_nil]at e2;rw[bM,bM,if_pos rfl]at e2;have c0:(bX f a0 (had+1)).2=0:=by
        apply Classical.byContradiction
        intro hne;rw[if_neg hne]at e2;rw[e2]at hne;exact hne rfl
       rw[if_pos c0]at e2;obtain⟨o1,_⟩:=gJ f a0 (had+1) c0;have c1:(bX f a1 (bX f a0 (had+1)).1).2=0:=by rw[e2]
       obtain⟨o2,_⟩:=gJ f a1 _ c1;rw[e2]at o2;simp only at o2;simp only[List.getD_cons_zero,List.getD_cons_succ];obtain⟨g1,hg1⟩:∃g1,lnk (more g 2) 0 [p] [(g.places:Int)]=g1:=⟨_,rfl⟩;have hp1:g1.places=g.places+2:=by rw[←hg1];rfl
       have hl1:g1.links.length=g.links.length+1:=by rw[←hg1];simp[lnk,more]
       have hx1:g.links <+: g1.links:=by rw[←hg1];exact List.prefix_append _ _
       rw[hg1];obtain⟨u1,u2⟩:=lG f a0 (had+1) (g.places:Int) ((g.places+1:Nat):Int) g1 c0;obtain⟨g2,hg2⟩:∃g2,kbB f a0 (g.places:Int) ((g.places+1:Nat):Int) g1=g2:=⟨_,rfl⟩;rw[hg2]at u1 u2 ⊢;obtain⟨v1,v2⟩:=lG f a1 _ ((g.places+1:Nat):Int) (g.places:Int) g2 c1;rw[e2]at v1 v2;simp only at v1 v2;obtain⟨g3,hg3⟩:∃g3,kbB f a1 ((g.places+1:Nat):Int) (g.places:Int) g2=g3:=⟨_,rfl⟩;rw[hg3]at v1 v2 ⊢;have a1':=u1.up;have a2':=u1.short;have a3':=v1.up;have a4':=v1.short;refine⟨⟨by simp only[lnk];omega,by simp only[lnk];omega,((hx1.trans u1.pre).trans v1.pre).trans (List.prefix_append _ _),by simp[lnk];omega⟩,by simp only[lnk];omega⟩
theorem GK {f hd0 h':Nat}{l:List aW}(h:l.foldl (bM (bX f)) (hd0,0)=(h',0))(i:Nat):∃hd,(l.take i).foldl (bM (bX f)) (hd0,0)=(hd,0):=by
 refine⟨((l.take i).foldl (bM (bX f)) (hd0,0)).1,Prod.ext rfl ?_⟩;apply Classical.byContradiction
 intro hne;have:=mQ hne;rw[h]at this;rw[←this]at hne;exact hne rfl
theorem j9 {f hd0 h' hd i:Nat}{l:List aW}{x:aW}(h:l.foldl (bM (bX f)) (hd0,0)=(h',0))(hx:l[i]?=some x)(hp:(l.take i).foldl (bM (bX f)) (hd0,0)=(hd,0)):∃hd',bX f x hd=(hd',0)∧(l.take (i+1)).foldl (bM (bX f)) (hd0,0)=(hd',0):=by
 obtain⟨hd',h1⟩:=GK h (i+1);have h2:=lA (g:=bX f) (s:=(hd0,0)) hx;rw[hp,bM,if_pos rfl]at h2;exact⟨hd',h2.symm.trans h1,h1⟩
theorem tU {σ:Type}{F:σ→aW×Nat→σ}{s:σ}{l:List aW}{i:Nat}{x:aW}(h:l[i]?=some x):(l.take (i+1)).zipIdx.foldl F s=F ((l.take i).zipIdx.foldl F s) (x,i):=by
 rw[RZ h,List.foldl_append];rfl
theorem GU {σ:Type}{F:σ→aW×Nat→σ}{s:σ}{l:List aW}{i:Nat}(h:l.length≤i):(l.take i).zipIdx.foldl F s=l.zipIdx.foldl F s:=by rw[List.take_of_length_le h]
theorem GY {σ:Type}{f:Nat}(view:σ→KSt)(F:σ→aW×Nat→σ)(hF:∀(s:σ) (x:aW×Nat) (hd:Nat),(bX f x.1 hd).2=0→Gr (view s) (view (F s x)) ((bX f x.1 hd).1-hd)){l:List aW}{i hd0 hd h':Nat}{s0:σ}(h1:(l.take i).foldl (bM (bX f)) (hd0,0)=(hd,0))(h2:l.foldl (bM (bX f)) (hd0,0)=(h',0)) :
  Gr (view ((l.take i).zipIdx.foldl F s0)) (view (l.zipIdx.foldl F s0)) (h'-hd):=by
 have e:=List.take_append_drop i l;have e2:l.zipIdx.foldl F s0=((l.drop i).zipIdx (0+(l.take i).length)).foldl F ((l.take i).zipIdx.foldl F s0):=by
  rw[←List.foldl_append,←List.zipIdx_append,e]
 rw[e2];refine(rU view F hF (l.drop i) _ hd h' _ ?_).1;rw[←h1,←List.foldl_append,e];exact h2
theorem Ve (r:WO)(p q:Int):∀(l:List aW) (j:Nat) (g:KSt),(l.zipIdx j).foldl (fun s x=>QH r p q s x.1) g=l.foldl (QH r p q) g:=fun l=>by
 induction l with
 | nil=>intro j g;rfl
 | cons a l ih=>intro j g;simp only[List.zipIdx_cons,List.foldl_cons];exact ih _ _
theorem R6 {f:Nat}{p q:Int}(s:KSt)(x:aW×Nat)(hd:Nat)(hx:(bX f x.1 hd).2=0):Gr s (QH (kbB f) p q s x.1) ((bX f x.1 hd).1-hd):=(lG f x.1 hd p q s hx).1
theorem R7 {f n:Nat}{q:Int}(s:KSt×Int)(x:aW×Nat)(hd:Nat)(hx:(bX f x.1 hd).2=0):Gr s.1 (Pz (kbB f) n q s x).1 ((bX f x.1 hd).1-hd):=by
 unfold Pz;split
 ·have:=lG f x.1 hd s.2 (s.1.places:Int) (more s.1 1) hx;exact⟨by have:=this.1.up;simp only[more]at this ⊢;omega,by have:=this.2;simp only[more]at this ⊢;omega,this.1.pre,this.1.short⟩
 ·exact(lG f x.1 hd s.2 q s.1 hx).1
theorem PI {f pl:Nat}(s:KSt)(x:aW×Nat)(hd:Nat)(hx:(bX f x.1 hd).2=0):Gr s (wW (kbB f) pl s x) ((bX f x.1 hd).1-hd):=(lG f x.1 hd _ _ s hx).1
section
variable {f:Nat} {lb p q:Int} {ks:List aW} {g:KSt}
theorem Xg:kbB (f+1) (.mk 1 lb ks) p q g=lnk g 0 [p] [q]:=by simp[kbB,aW.kind]
theorem Xh:kbB (f+1) (.mk 2 lb ks) p q g=lnk g lb [p] [q]:=by simp[kbB,aW.kind,aW.label]
theorem Xi:kbB (f+1) (.mk 3 lb ks) p q g=(ks.zipIdx.foldl (Pz (kbB f) ks.length q) (g,p)).1:=by simp[kbB,aW.kind,aW.kids]
theorem Xj:kbB (f+1) (.mk 4 lb ks) p q g=ks.foldl (QH (kbB f) p q) g:=by simp[kbB,aW.kind,aW.kids]
theorem Xk:kbB (f+1) (.mk 5 lb ks) p q g=lnk (ks.zipIdx.foldl (wW (kbB f) g.places) (lnk (more g (2*ks.length)) 0 [p] (Ez g.places ks.length))) 0 (qW g.places ks.length) [q]:=by simp[kbB,aW.kind,aW.kids]
theorem Xl {a0 a1:aW}:kbB (f+1) (.mk 6 lb [a0,a1]) p q g=lnk (kbB f a1 ((g.places+1:Nat):Int) (g.places:Int) (kbB f a0 (g.places:Int) ((g.places+1:Nat):Int) (lnk (more g 2) 0 [p] [(g.places:Int)]))) 0 [((g.places+1:Nat):Int)] [q]:=by simp[kbB,aW.kind,aW.kids]
end
def bJ (g:KSt):Prop:=g.places≤16∧g.links.length≤24
theorem Gr.fits {a b:KSt}{k:Nat}(h:Gr a b k)(hb:bJ b):bJ a:=⟨Nat.le_trans h.up hb.1,Nat.le_trans h.pre.length_le hb.2⟩
open Go.RowKit
end Go.Proofs.YtfmnagcglhlicaaGreat
