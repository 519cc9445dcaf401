/- Texts melted into one: The contracts of blocks.Wrong and JWrong. Conditions: the block reads as a tree. | mine's Mine. Conditions: the log reads as lists. | The plain law of growing: the net of a block, place by place and link by link. No program in sight. | Append of any list to one that the call o -/
import Derived.Test.YtfmnagcglhlicaaGreatTopSaidK29
set_option maxRecDepth 100000
namespace Go.Proofs.YtfmnagcglhlicaaGreat
open Go.RowKit
set_option maxHeartbeats 4000000 in
theorem Zcy {d:Nat}{w:World}{kd lb:Int}{A:Option Addr}{n c:Nat}{ks:List Zat}(h:Zhr d w A n c ks) :
  Calls Tryz.prog 52 #[.agg #[.int .i64 kd,.int .i64 lb,.slice A n c]] w (fun e w'=>e=.returned (.int .i64 (ZbX (.mk kd lb ks)))∧Below w.heap.size w w'):=by
 have henter:∀(args:Array Value) (w:World),Sem.run Tryz.prog (callFunc 98 args) w=.ok (.enter 98 args) w:=fun args w=>by kernel_rfl
 obtain⟨r,hr⟩:∃r,ZaR 41 (.mk kd lb ks) 0=r:=⟨_,rfl⟩
 have FIN:=Zaa (show ZbX (.mk kd lb ks)=r.2 by unfold ZbX;rw[hr])
 have HR:=Zaa hr
 have H:=Zaa h
 clear hr h
 go_enter Tryz.func52,Tryz.ntmps52
 go_upto_region 3 with fail
 generalize hw4:((w.alloc (.cells #[.int .i64 kd,.int .i64 lb,.slice A n c] 71)).alloc (.cells #[.int .i64 0] 3)).alloc (.cells #[.nilFunc] 128)=w4
 have D4:Below w.heap.size w w4:=by rw[←hw4];exact(((Below.refl _ _).alloc (Nat.le_refl _) _).alloc (by simp) _).alloc (by simp;omega) _
 have Y0:Box w4 w.heap.size 71 #[.int .i64 kd,.int .i64 lb,.slice A n c]:=by rw[←hw4];exact((Box.new _ _ _).old _).old _
 have Y1:Box w4 (w.heap.size+1) 3 #[.int .i64 0]:=by rw[←hw4];exact(Box.newAt (by simp) _ _).old _
 have Y2:Box w4 (w.heap.size+1+1) 128 #[.nilFunc]:=by rw[←hw4];exact Box.newAt (by simp) _ _
 clear hw4
 have f0:=Y2.frozen 0
 have n0:=Y2.cell 0
 simp only[List.getElem?_toArray,List.getElem?_cons_zero]at n0
 go_upto_region 4 with fail
 generalize hw5:w4.setCell ⟨w.heap.size+1+1,0,none⟩ (.func (.func 98) #[] #[.pointer (some ⟨w.heap.size+1,0,none⟩),.pointer (some ⟨w.heap.size+1+1,0,none⟩)])=w5
 have hmk:Zek (w.heap.size+1) (w.heap.size+1+1)=(.func (.func 98) #[] #[.pointer (some ⟨w.heap.size+1,0,none⟩),.pointer (some ⟨w.heap.size+1+1,0,none⟩)]):=rfl
 rw[←hmk]at hw5
 have hbs:Zan (w.heap.size+1+1) w4 w5:=by rw[←hw5];exact Zan.set _ _ _ _
 have D5:=Zaa (show Below w.heap.size w w5 by rw[←hw5];exact D4.setCell (show w.heap.size≤w.heap.size+1+1 by omega) _)
 have Z0:=Zaa (hbs.box Y0 (by omega))
 have Z1:=Zaa (hbs.box Y1 (by omega))
 have Z2:Box w5 (w.heap.size+1+1) 128 #[Zek (w.heap.size+1) (w.heap.size+1+1)]:=by rw[←hw5];simpa using Y2.set 0 (Zek (w.heap.size+1) (w.heap.size+1+1))
 have fn0:=Z2.cell 0
 simp only[List.getElem?_toArray,List.getElem?_cons_zero]at fn0
 obtain⟨b0,b1,b2⟩:=Z0.out.three
 have CL:=Zaa (Zlo (w0:=w) (bn:=w.heap.size+1) (bc:=w.heap.size+1+1) (by omega) (by omega) 41 d kd lb A n c 0 ks w5 (by omega) (by omega) H.out Z1.out Z2 D5.out)
 rw[HR.out]at CL
 clear hw5 hbs Y0 Y1 Y2 f0 n0 D4 Z2
 go_wp2_with fail
 refine CL.out.mono ?_
 rintro e w6 ⟨rfl,_,_,hb6⟩
 have D6:=Zaa hb6
 clear hb6 fn0
 go_wp2
 go_ret
 rw[FIN.out]
 exact⟨by first|rfl|simp,D6.out⟩
end Go.Proofs.YtfmnagcglhlicaaGreat
namespace Go.Proofs.YtfmnagcglhlicaaGreat
open Go.RowKit Go.Maps
noncomputable def ZbP (log:List (List Int)):Int×Zat:=if Za6 log≠0 then(Za6 log,ZbV)else if ZbX (Zao 60 log)≠0 then(ZbX (Zao 60 log),ZbV)else(0,Zao 60 log)
def Zt4 (w:World)(v:Value)(T:Zat):Prop:=∃A n c,v=.agg #[.int .i64 T.kind,.int .i64 T.label,.slice A n c]∧Zhr 62 w A n c T.kids
theorem Zb6.toV {P:Nat→Prop}{w:World}{v:Value}{T:Zat}(h:Zb6 P 62 w v T):Zt4 w v T:=by
 obtain⟨A,n,c,e,s,_⟩:=h
 exact⟨A,n,c,e,s.imp (fun _ _ r=>r.toD 62)⟩
def Zjs (log:List (List Int))(w:World)(e:Ending)(w':World):Prop:=∃v,e=.returned (.tuple #[v,.int .i64 (ZbP log).1])∧Zt4 w' v (ZbP log).2∧Below w.heap.size w w'
set_option maxHeartbeats 4000000 in
theorem Zkm {w:World}{A:Option Addr}{n c:Nat}{log:List (List Int)}(h:ZaS w A n c log) :
  Calls Tryz.prog 44 #[.slice A n c] w (Zjs log w):=by
 have B0:=Zaa (Zab w (.cells #[.int .i64 0,.int .i64 0,.slice none 0 0] 71))
 have X0:=Zaa (Box.new w #[.int .i64 0,.int .i64 0,.slice none 0 0] 71)
 have H:=Zaa (Sl.keep ZaL.kept h B0.out)
 clear h
 go_enter Tryz.func44,Tryz.ntmps44
 go_upto_region 1 with fail
 generalize w.alloc (.cells #[.int .i64 0,.int .i64 0,.slice none 0 0] 71)=w1 at *
 have CW:=Zaa (ZdA H.out)
 go_wp2_with fail
 refine CW.out.mono ?_
 rintro e w2 ⟨rfl,rfl⟩
 have W1:=Zaa X0.out.lt
 obtain⟨z,hz⟩:∃z,Za6 log=z:=⟨_,rfl⟩
 have HZ:=Zaa hz
 rw[hz]
 clear hz CW
 by_cases h0:z=0
 ·have h0i:(z != 0)=false:=by simp[h0]
  have H0:=Zaa (show Za6 log=0 from HZ.out.trans h0)
  have CF:=Zaa (ZrU 60 w1 A n c log H.out (ZhD.start H0.out))
  clear h0
  go_wp2_with fail
  refine CF.out.mono ?_
  rintro e w3 ⟨v3,rfl,⟨A3',n3',c3',rfl,s3,p3⟩,hb3⟩
  have s3d:=s3.imp (fun _ _ r=>ZeX.toD 62 r)
  have BA:=Zaa (show Zb6 (fun q=>w1.heap.size≤q) 62 w3 (.agg #[.int .i64 (Zao 60 log).kind,.int .i64 (Zao 60 log).label,.slice A3' n3' c3']) (Zao 60 log)from⟨A3',n3',c3',rfl,s3,p3⟩)
  have WE:=Zaa (show ZbX (.mk (Zao 60 log).kind (Zao 60 log).label (Zao 60 log).kids)=ZbX (Zao 60 log) by cases Zao 60 log;rfl)
  obtain⟨kd,hkd⟩:∃x,x=(Zao 60 log).kind:=⟨_,rfl⟩
  obtain⟨lb,hlb⟩:∃x,x=(Zao 60 log).label:=⟨_,rfl⟩
  rw[←hkd,←hlb]at BA WE
  rw[←hkd,←hlb]
  have BB:=Zaa (Zab w3 (.cells #[.int .i64 kd,.int .i64 lb,.slice A3' n3' c3'] 71))
  have TB:=Zaa (Box.new w3 #[.int .i64 kd,.int .i64 lb,.slice A3' n3' c3'] 71)
  have CB:=Zaa (Zcy (kd:=kd) (lb:=lb) (Zhr.keep s3d BB.out))
  have H14:=Zaa (hb3.trans (BB.out.mono hb3.size))
  have BA4:=Zaa (BA.out.keep BB.out)
  clear s3 p3 s3d hb3 hkd hlb CF
  go_upto_region 5 with fail
  generalize w3.alloc (.cells #[.int .i64 kd,.int .i64 lb,.slice A3' n3' c3'] 71)=w4 at *
  generalize w3.heap.size=bz at *
  obtain⟨t0,t1,t2⟩:=TB.out.three
  obtain⟨y,hy⟩:∃y,ZbX (Zao 60 log)=y:=⟨_,rfl⟩
  have HY:=Zaa hy
  rw[WE.out,hy]at CB
  clear hy
  go_wp2_with fail
  refine CB.out.mono ?_
  rintro e w5 ⟨rfl,hb5⟩
  have H15:=Zaa (H14.out.trans (hb5.mono H14.out.size))
  have BA5:=Zaa (BA4.out.keep hb5)
  have X5:=Zaa (X0.out.keep H15.out)
  obtain⟨t0,t1,t2⟩:=(TB.out.keep hb5).three
  clear hb5 CB
  by_cases hy0:y=0
  ·have hy0i:(y != 0)=false:=by simp[hy0]
   have EQ:=Zaa (show ZbP log=(0,Zao 60 log) by unfold ZbP;rw[if_neg (by rw[H0.out];exact fun h=>h rfl),if_neg (by rw[HY.out];exact fun h=>h hy0)])
   have FB:=Zaa (show ∀(w':World) (v:Value),Zb6 (fun j=>w.heap.size≤j) 62 w' v (Zao 60 log)→Below w.heap.size w w'→Zjs log w (.returned (.tuple #[v,.int .i64 0])) w' from fun w' v hb hw=>⟨v,by rw[EQ.out],by rw[EQ.out];exact hb.toV,hw⟩)
   clear hy0
   obtain⟨u0,u1,u2⟩:=X5.out.three
   have fz:=fun q=>X5.out.frozen q
   have WW:=Zaa (Zbz (w:=w) BA5.out X5.out H15.out B0.out W1.out (Nat.le_refl _))
   go_wp2
   generalize (((w5.setCell ⟨w.heap.size,0,none⟩ (.int .i64 kd)).setCell ⟨w.heap.size,1,none⟩ (.int .i64 lb)).setCell ⟨w.heap.size,2,none⟩ (.slice A3' n3' c3'))=ww at *
   obtain⟨z0,z1,z2⟩:=WW.out.1.three
   exact bodyPost_ret (v:=.tuple #[.agg #[.int .i64 kd,.int .i64 lb,.slice A3' n3' c3'],.int .i64 0]) (by simp[results,Tryz.results44,go_sem,z0,z1,z2]) rfl (FB.out ww _ WW.out.2.1 WW.out.2.2)
  ·have hy0i:(y != 0)=true:=by simp[hy0]
   have EQ:=Zaa (show ZbP log=(y,ZbV) by unfold ZbP;rw[if_neg (by rw[H0.out];exact fun h=>h rfl),if_pos (by rw[HY.out];exact hy0),HY.out])
   have FB:=Zaa (show ∀(w':World) (v:Value),Zb6 (fun j=>w.heap.size≤j) 62 w' v (ZbV)→Below w.heap.size w w'→Zjs log w (.returned (.tuple #[v,.int .i64 y])) w' from fun w' v hb hw=>⟨v,by rw[EQ.out],by rw[EQ.out];exact hb.toV,hw⟩)
   have BZ:=Zaa (show Zb6 (fun q=>w1.heap.size≤q) 62 w5 (.agg #[.int .i64 0,.int .i64 0,.slice none 0 0]) ZbV from⟨none,0,0,rfl,Sl.nil0,fun h=>absurd h (by omega)⟩)
   clear hy0
   obtain⟨u0,u1,u2⟩:=X5.out.three
   have fz:=fun q=>X5.out.frozen q
   have WW:=Zaa (Zbz (w:=w) BZ.out X5.out H15.out B0.out W1.out (Nat.le_refl _))
   go_wp2
   generalize (((w5.setCell ⟨w.heap.size,0,none⟩ (.int .i64 0)).setCell ⟨w.heap.size,1,none⟩ (.int .i64 0)).setCell ⟨w.heap.size,2,none⟩ (.slice none 0 0))=ww at *
   obtain⟨z0,z1,z2⟩:=WW.out.1.three
   exact bodyPost_ret (v:=.tuple #[.agg #[.int .i64 0,.int .i64 0,.slice none 0 0],.int .i64 y]) (by simp[results,Tryz.results44,go_sem,z0,z1,z2]) rfl (FB.out ww _ WW.out.2.1 WW.out.2.2)
 ·have h0i:(z != 0)=true:=by simp[h0]
  have EQ:=Zaa (show ZbP log=(z,ZbV) by unfold ZbP;rw[if_pos (by rw[HZ.out];exact h0),HZ.out])
  have FB:=Zaa (show ∀(w':World) (v:Value),Zb6 (fun j=>w.heap.size≤j) 62 w' v (ZbV)→Below w.heap.size w w'→Zjs log w (.returned (.tuple #[v,.int .i64 z])) w' from fun w' v hb hw=>⟨v,by rw[EQ.out],by rw[EQ.out];exact hb.toV,hw⟩)
  have BZ:=Zaa (show Zb6 (fun q=>w1.heap.size≤q) 62 w1 (.agg #[.int .i64 0,.int .i64 0,.slice none 0 0]) ZbV from⟨none,0,0,rfl,Sl.nil0,fun h=>absurd h (by omega)⟩)
  clear h0
  obtain⟨u0,u1,u2⟩:=X0.out.three
  have fz:=fun q=>X0.out.frozen q
  have WW:=Zaa (Zbz (w:=w) BZ.out X0.out (Below.refl _ _) B0.out W1.out (Nat.le_refl _))
  go_wp2
  generalize (((w1.setCell ⟨w.heap.size,0,none⟩ (.int .i64 0)).setCell ⟨w.heap.size,1,none⟩ (.int .i64 0)).setCell ⟨w.heap.size,2,none⟩ (.slice none 0 0))=ww at *
  obtain⟨z0,z1,z2⟩:=WW.out.1.three
  exact bodyPost_ret (v:=.tuple #[.agg #[.int .i64 0,.int .i64 0,.slice none 0 0],.int .i64 z]) (by simp[results,Tryz.results44,go_sem,z0,z1,z2]) rfl (FB.out ww _ WW.out.2.1 WW.out.2.2)
end Go.Proofs.YtfmnagcglhlicaaGreat
namespace Go.Proofs.YtfmnagcglhlicaaGreat
structure KSt where
 places:Nat
 links:List Zak
def lnk (g:KSt)(l:Int)(a b:List Int):KSt:=⟨g.places,g.links++[⟨l,a,b⟩]⟩
def more (g:KSt)(k:Nat):KSt:=⟨g.places+k,g.links⟩
abbrev ZtC:=Zat→Int→Int→KSt→KSt
def Zpc (r:ZtC)(n:Nat)(q:Int)(s:KSt×Int)(x:Zat×Nat):KSt×Int :=
 if x.2+1<n then(r x.1 s.2 (s.1.places:Int) (more s.1 1),(s.1.places:Int))else(r x.1 s.2 q s.1,q)
def Zqn (r:ZtC)(p q:Int)(g:KSt)(k:Zat):KSt:=r k p q g
def Zil (r:ZtC)(pl:Nat)(g:KSt)(x:Zat×Nat):KSt:=r x.1 ((pl+2*x.2:Nat):Int) ((pl+2*x.2+1:Nat):Int) g
def Zlb (pl n:Nat):List Int:=(List.range n).map fun i=>((pl+2*i:Nat):Int)
def ZfM (pl n:Nat):List Int:=(List.range n).map fun i=>((pl+2*i+1:Nat):Int)
theorem Zpd (pl n:Nat):Zlb pl (n+1)=Zlb pl n++[((pl+2*n:Nat):Int)]:=by simp[Zlb,List.range_succ]
theorem ZnH (pl n:Nat):ZfM pl (n+1)=ZfM pl n++[((pl+2*n+1:Nat):Int)]:=by simp[ZfM,List.range_succ]
theorem ZqS (pl n:Nat):(Zlb pl n).length=n:=by simp[Zlb]
theorem Zpe (pl n:Nat):(ZfM pl n).length=n:=by simp[ZfM]
def noB:Zat:=.mk 0 0 []
def kbB:Nat→Zat→Int→Int→KSt→KSt
 | 0,_,_,_,g=>g
 | f+1,b,p,q,g =>
  if b.kind=1 then lnk g 0 [p] [q]else if b.kind=2 then lnk g b.label [p] [q]
  else if b.kind=3 then(b.kids.zipIdx.foldl (Zpc (kbB f) b.kids.length q) (g,p)).1
  else if b.kind=4 then b.kids.foldl (Zqn (kbB f) p q) g
  else if b.kind=5 then lnk (b.kids.zipIdx.foldl (Zil (kbB f) g.places) (lnk (more g (2*b.kids.length)) 0 [p] (Zlb g.places b.kids.length))) 0 (ZfM g.places b.kids.length) [q]
  else lnk (kbB f (b.kids.getD 1 noB) ((g.places+1:Nat):Int) (g.places:Int) (kbB f (b.kids.getD 0 noB) (g.places:Int) ((g.places+1:Nat):Int) (lnk (more g 2) 0 [p] [(g.places:Int)]))) 0 [((g.places+1:Nat):Int)] [q]
structure Gr (a b:KSt)(k:Nat):Prop where
 up:a.places≤b.places
 few:b.places≤a.places+4*k
 pre:a.links <+: b.links
 short:b.links.length≤a.links.length+2*k
theorem Gr.refl (a:KSt)(k:Nat):Gr a a k:=⟨Nat.le_refl _,by omega,List.prefix_rfl,by omega⟩
theorem Gr.trans {a b c:KSt}{k l:Nat}(h:Gr a b k)(g:Gr b c l):Gr a c (k+l):=⟨Nat.le_trans h.up g.up,by have:=h.few;have:=g.few;omega,h.pre.trans g.pre,by have:=h.short;have:=g.short;omega⟩
def Gr1 (a b:KSt)(k:Nat):Prop:=Gr a b k∧b.places+2≤a.places+4*k
theorem ZqT {α:Type}{l:List α}{i:Nat}{x:α}(h:l[i]?=some x):(l.take (i+1)).zipIdx=(l.take i).zipIdx++[(x,i)]:=by
 have hi:=(List.getElem?_eq_some_iff.1 h).1
 rw[List.take_add_one,h,Option.toList_some,List.zipIdx_append]
 simp[List.length_take,Nat.min_eq_left (Nat.le_of_lt hi)]
theorem Zf8 {σ:Type}{f:Nat}(view:σ→KSt)(F:σ→Zat×Nat→σ)(hF:∀(s:σ) (x:Zat×Nat) (hd:Nat),(ZaR f x.1 hd).2=0→Gr (view s) (view (F s x)) ((ZaR f x.1 hd).1-hd)) :
  ∀(l:List Zat) (j hd h':Nat) (s:σ),l.foldl (ZaI (ZaR f)) (hd,0)=(h',0)→Gr (view s) (view ((l.zipIdx j).foldl F s)) (h'-hd)∧hd+l.length≤h'
 | [],j,hd,h',s,h=>by
  simp only[List.foldl_nil,Prod.mk.injEq,and_true]at h
  subst h
  exact⟨Gr.refl _ _,by simp⟩
 | k::l,j,hd,h',s,h=>by
  rw[List.foldl_cons,ZaI,if_pos rfl]at h
  have h2:(ZaR f k hd).2=0:=by
   apply Classical.byContradiction
   intro hne
   rw[ZeE hne]at h
   rw[h]at hne
   exact hne rfl
  obtain⟨e1,e2⟩:=Zcn f k hd h2
  have hpair:ZaR f k hd=((ZaR f k hd).1,0):=by rw[←h2]
  rw[hpair]at h
  obtain⟨g1,g2⟩:=Zf8 view F hF l (j+1) _ h' (F s (k,j)) h
  have g0:=hF s (k,j) hd h2
  simp only[List.zipIdx_cons,List.foldl_cons,List.length_cons]
  refine⟨?_,by omega⟩
  have:=g0.trans g1
  rwa[show(ZaR f k hd).1-hd+(h'-(ZaR f k hd).1)=h'-hd by omega]at this
theorem Zg1 {k l:Int}{n:Nat}(h:Zbk k l n=0):1≤k∧k≤6∧(k=6→n=2)∧(3≤k→0<n):=by
 unfold Zbk at h
 split at h
 ·cases h
 ·rename_i h1
  split at h
  ·cases h
  ·split at h
   ·cases h
   ·rename_i h3
    have h4:¬(k<1∨6<k):=h1
    refine⟨by omega,by omega,fun e=>?_,fun e=>?_⟩
    ·apply Classical.byContradiction;intro h5;exact h3 (.inr (.inr ⟨e,h5⟩))
    ·apply Classical.byContradiction;intro h5;exact h3 (.inr (.inl ⟨e,by omega⟩))
theorem Zdi {f:Nat}{b:Zat}{had:Nat}(h:(ZaR (f+1) b had).2=0):had+1≤40∧Zbk b.kind b.label b.kids.length=0∧∃h',ZaR (f+1) b had=(h',0)∧b.kids.foldl (ZaI (ZaR f)) (had+1,0)=(h',0):=by
 rw[ZaR]at h ⊢
 split at h
 ·cases h
 ·rename_i h1
  rw[if_neg h1]
  split at h
  ·rename_i h2;exact absurd h h2
  ·rename_i h2
   rw[if_neg h2]
   have e:b.kids.foldl (ZaI (ZaR f)) (had+1,0)=((b.kids.foldl (ZaI (ZaR f)) (had+1,0)).1,0):=Prod.ext rfl h
   exact⟨by omega,by simpa using h2,_,e,e⟩
theorem ZdF:∀(f:Nat) (b:Zat) (had:Nat) (p q:Int) (g:KSt),(ZaR f b had).2=0→Gr1 g (kbB f b p q g) ((ZaR f b had).1-had)
 | 0,b,had,p,q,g,h=>by rw[ZaR]at h;cases h
 | f+1,b,had,p,q,g,h=>by
  obtain⟨h1,h2,h',e1,e2⟩:=Zdi h
  obtain⟨k1,k6,k62,k30⟩:=Zg1 h2
  rw[e1]
  simp only
  have hle:had+1+b.kids.length≤h':=(Zf8 (f:=f) (fun g:KSt=>g) (fun s x=>s) (fun s x hd _=>Gr.refl _ _) b.kids 0 _ _ g e2).2
  unfold kbB
  split
  ·refine⟨⟨Nat.le_refl _,by simp[lnk],List.prefix_append _ _,by simp[lnk];omega⟩,by simp only[lnk];omega⟩
  ·split
   ·refine⟨⟨Nat.le_refl _,by simp[lnk],List.prefix_append _ _,by simp[lnk];omega⟩,by simp only[lnk];omega⟩
   ·split
    ·have:=(Zf8 (f:=f) (fun s:KSt×Int=>s.1) (Zpc (kbB f) b.kids.length q) (fun s x hd hx=>by
      unfold Zpc
      split
      ·have:=ZdF f x.1 hd s.2 (s.1.places:Int) (more s.1 1) hx
       refine⟨by have:=this.1.up;simp only[more]at this ⊢;omega,by have:=this.2;simp only[more]at this ⊢;omega,this.1.pre,this.1.short⟩
      ·exact(ZdF f x.1 hd s.2 q s.1 hx).1) b.kids 0 _ _ (g,p) e2).1
     refine⟨⟨this.up,by have:=this.few;simp only at this;omega,this.pre,by have:=this.short;simp only at this;omega⟩,by have:=this.few;simp only at this;omega⟩
    ·split
     ·have key:=(Zf8 (f:=f) (fun g:KSt=>g) (fun s x=>Zqn (kbB f) p q s x.1) (fun s x hd hx=>(ZdF f x.1 hd p q s hx).1) b.kids 0 _ _ g e2).1
      have ez:∀(l:List Zat) (j:Nat) (g:KSt),(l.zipIdx j).foldl (fun s x=>Zqn (kbB f) p q s x.1) g=l.foldl (Zqn (kbB f) p q) g:=fun l=>by
       induction l with
       | nil=>intro j g;rfl
       | cons a l ih=>intro j g;simp only[List.zipIdx_cons,List.foldl_cons];exact ih _ _
      rw[ez]at key
      refine⟨⟨key.up,by have:=key.few;omega,key.pre,by have:=key.short;omega⟩,by have:=key.few;omega⟩
     ·split
      ·obtain⟨g1,hg1⟩:∃g1,lnk (more g (2*b.kids.length)) 0 [p] (Zlb g.places b.kids.length)=g1:=⟨_,rfl⟩
       have hp1:g1.places=g.places+2*b.kids.length:=by rw[←hg1];rfl
       have hl1:g1.links.length=g.links.length+1:=by rw[←hg1];simp[lnk,more]
       have hx1:g.links <+: g1.links:=by rw[←hg1];exact List.prefix_append _ _
       rw[hg1]
       have key:∀(l:List Zat) (j hd h':Nat) (s:KSt),l.foldl (ZaI (ZaR f)) (hd,0)=(h',0)→Gr s ((l.zipIdx j).foldl (Zil (kbB f) g.places) s) (h'-hd)∧((l.zipIdx j).foldl (Zil (kbB f) g.places) s).places+2*l.length≤s.places+4*(h'-hd):=fun l=>by
        induction l with
        | nil =>
         intro j hd h' s hh
         exact⟨Gr.refl _ _,by simp⟩
        | cons k l ih =>
         intro j hd h' s hh
         rw[List.foldl_cons,ZaI,if_pos rfl]at hh
         have hk:(ZaR f k hd).2=0:=by
          apply Classical.byContradiction
          intro hne
          rw[ZeE hne]at hh
          rw[hh]at hne
          exact hne rfl
         obtain⟨o1,_⟩:=Zcn f k hd hk
         have hpair:ZaR f k hd=((ZaR f k hd).1,0):=by rw[←hk]
         rw[hpair]at hh
         have hge:=(Zf8 (f:=f) (fun g:KSt=>g) (fun s x=>s) (fun s x hd _=>Gr.refl _ _) l 0 _ _ s hh).2
         obtain⟨i1,i2⟩:=ih (j+1) _ h' (Zil (kbB f) g.places s (k,j)) hh
         obtain⟨c1,c2⟩:=ZdF f k hd ((g.places+2*j:Nat):Int) ((g.places+2*j+1:Nat):Int) s hk
         have c1':Gr s (Zil (kbB f) g.places s (k,j)) ((ZaR f k hd).1-hd):=c1
         have c2':(Zil (kbB f) g.places s (k,j)).places+2≤s.places+4*((ZaR f k hd).1-hd):=c2
         simp only[List.zipIdx_cons,List.foldl_cons,List.length_cons]
         have:=c1'.trans i1
         rw[show(ZaR f k hd).1-hd+(h'-(ZaR f k hd).1)=h'-hd by omega]at this
         exact⟨this,by omega⟩
       obtain⟨f1,f2⟩:=key b.kids 0 _ _ g1 e2
       have f1u:=f1.up
       have f1s:=f1.short
       refine⟨⟨by simp only[lnk];omega,by simp only[lnk];omega,(hx1.trans f1.pre).trans (List.prefix_append _ _),by simp[lnk];omega⟩,by simp only[lnk];omega⟩
      ·have hk6:b.kind=6:=by omega
       have hn:=k62 hk6
       obtain⟨a0,a1,ha⟩:∃a0 a1,b.kids=[a0,a1]:=by
        match hb:b.kids,hn with
        | [a0,a1],_=>exact⟨a0,a1,rfl⟩
       rw[ha]at e2 ⊢
       simp only[List.foldl_cons,List.foldl_nil]at e2
       rw[ZaI,ZaI,if_pos rfl]at e2
       have c0:(ZaR f a0 (had+1)).2=0:=by
        apply Classical.byContradiction
        intro hne
        rw[if_neg hne]at e2
        rw[e2]at hne
        exact hne rfl
       rw[if_pos c0]at e2
       obtain⟨o1,_⟩:=Zcn f a0 (had+1) c0
       have c1:(ZaR f a1 (ZaR f a0 (had+1)).1).2=0:=by rw[e2]
       obtain⟨o2,_⟩:=Zcn f a1 _ c1
       rw[e2]at o2
       simp only at o2
       simp only[List.getD_cons_zero,List.getD_cons_succ]
       obtain⟨g1,hg1⟩:∃g1,lnk (more g 2) 0 [p] [(g.places:Int)]=g1:=⟨_,rfl⟩
       have hp1:g1.places=g.places+2:=by rw[←hg1];rfl
       have hl1:g1.links.length=g.links.length+1:=by rw[←hg1];simp[lnk,more]
       have hx1:g.links <+: g1.links:=by rw[←hg1];exact List.prefix_append _ _
       rw[hg1]
       obtain⟨u1,u2⟩:=ZdF f a0 (had+1) (g.places:Int) ((g.places+1:Nat):Int) g1 c0
       obtain⟨g2,hg2⟩:∃g2,kbB f a0 (g.places:Int) ((g.places+1:Nat):Int) g1=g2:=⟨_,rfl⟩
       rw[hg2]at u1 u2 ⊢
       obtain⟨v1,v2⟩:=ZdF f a1 _ ((g.places+1:Nat):Int) (g.places:Int) g2 c1
       rw[e2]at v1 v2
       simp only at v1 v2
       obtain⟨g3,hg3⟩:∃g3,kbB f a1 ((g.places+1:Nat):Int) (g.places:Int) g2=g3:=⟨_,rfl⟩
       rw[hg3]at v1 v2 ⊢
       have a1':=u1.up
       have a2':=u1.short
       have a3':=v1.up
       have a4':=v1.short
       refine⟨⟨by simp only[lnk];omega,by simp only[lnk];omega,((hx1.trans u1.pre).trans v1.pre).trans (List.prefix_append _ _),by simp[lnk];omega⟩,by simp only[lnk];omega⟩
theorem ZlK {f hd0 h':Nat}{l:List Zat}(h:l.foldl (ZaI (ZaR f)) (hd0,0)=(h',0))(i:Nat):∃hd,(l.take i).foldl (ZaI (ZaR f)) (hd0,0)=(hd,0):=by
 refine⟨((l.take i).foldl (ZaI (ZaR f)) (hd0,0)).1,Prod.ext rfl ?_⟩
 apply Classical.byContradiction
 intro hne
 have:=Zej hne
 rw[h]at this
 rw[←this]at hne
 exact hne rfl
theorem Zdj {f hd0 h' hd i:Nat}{l:List Zat}{x:Zat}(h:l.foldl (ZaI (ZaR f)) (hd0,0)=(h',0))(hx:l[i]?=some x)(hp:(l.take i).foldl (ZaI (ZaR f)) (hd0,0)=(hd,0)):∃hd',ZaR f x hd=(hd',0)∧(l.take (i+1)).foldl (ZaI (ZaR f)) (hd0,0)=(hd',0):=by
 obtain⟨hd',h1⟩:=ZlK h (i+1)
 have h2:=Zdz (g:=ZaR f) (s:=(hd0,0)) hx
 rw[hp,ZaI,if_pos rfl]at h2
 exact⟨hd',h2.symm.trans h1,h1⟩
theorem Zg2 {σ:Type}{F:σ→Zat×Nat→σ}{s:σ}{l:List Zat}{i:Nat}{x:Zat}(h:l[i]?=some x):(l.take (i+1)).zipIdx.foldl F s=F ((l.take i).zipIdx.foldl F s) (x,i):=by
 rw[ZqT h,List.foldl_append];rfl
theorem ZlL {σ:Type}{F:σ→Zat×Nat→σ}{s:σ}{l:List Zat}{i:Nat}(h:l.length≤i):(l.take i).zipIdx.foldl F s=l.zipIdx.foldl F s:=by rw[List.take_of_length_le h]
theorem ZlM {σ:Type}{f:Nat}(view:σ→KSt)(F:σ→Zat×Nat→σ)(hF:∀(s:σ) (x:Zat×Nat) (hd:Nat),(ZaR f x.1 hd).2=0→Gr (view s) (view (F s x)) ((ZaR f x.1 hd).1-hd)){l:List Zat}{i hd0 hd h':Nat}{s0:σ}(h1:(l.take i).foldl (ZaI (ZaR f)) (hd0,0)=(hd,0))(h2:l.foldl (ZaI (ZaR f)) (hd0,0)=(h',0)) :
  Gr (view ((l.take i).zipIdx.foldl F s0)) (view (l.zipIdx.foldl F s0)) (h'-hd):=by
 have e:=List.take_append_drop i l
 have e2:l.zipIdx.foldl F s0=((l.drop i).zipIdx (0+(l.take i).length)).foldl F ((l.take i).zipIdx.foldl F s0):=by
  rw[←List.foldl_append,←List.zipIdx_append,e]
 rw[e2]
 refine(Zf8 view F hF (l.drop i) _ hd h' _ ?_).1
 rw[←h1,←List.foldl_append,e];exact h2
theorem Zsr (r:ZtC)(p q:Int):∀(l:List Zat) (j:Nat) (g:KSt),(l.zipIdx j).foldl (fun s x=>Zqn r p q s x.1) g=l.foldl (Zqn r p q) g:=fun l=>by
 induction l with
 | nil=>intro j g;rfl
 | cons a l ih=>intro j g;simp only[List.zipIdx_cons,List.foldl_cons];exact ih _ _
theorem ZqU {f:Nat}{p q:Int}(s:KSt)(x:Zat×Nat)(hd:Nat)(hx:(ZaR f x.1 hd).2=0):Gr s (Zqn (kbB f) p q s x.1) ((ZaR f x.1 hd).1-hd):=(ZdF f x.1 hd p q s hx).1
theorem ZqV {f n:Nat}{q:Int}(s:KSt×Int)(x:Zat×Nat)(hd:Nat)(hx:(ZaR f x.1 hd).2=0):Gr s.1 (Zpc (kbB f) n q s x).1 ((ZaR f x.1 hd).1-hd):=by
 unfold Zpc
 split
 ·have:=ZdF f x.1 hd s.2 (s.1.places:Int) (more s.1 1) hx
  exact⟨by have:=this.1.up;simp only[more]at this ⊢;omega,by have:=this.2;simp only[more]at this ⊢;omega,this.1.pre,this.1.short⟩
 ·exact(ZdF f x.1 hd s.2 q s.1 hx).1
theorem Zpf {f pl:Nat}(s:KSt)(x:Zat×Nat)(hd:Nat)(hx:(ZaR f x.1 hd).2=0):Gr s (Zil (kbB f) pl s x) ((ZaR f x.1 hd).1-hd):=(ZdF f x.1 hd _ _ s hx).1
section
variable {f:Nat} {lb p q:Int} {ks:List Zat} {g:KSt}
theorem ZtP:kbB (f+1) (.mk 1 lb ks) p q g=lnk g 0 [p] [q]:=by simp[kbB,Zat.kind]
theorem ZtQ:kbB (f+1) (.mk 2 lb ks) p q g=lnk g lb [p] [q]:=by simp[kbB,Zat.kind,Zat.label]
theorem ZtR:kbB (f+1) (.mk 3 lb ks) p q g=(ks.zipIdx.foldl (Zpc (kbB f) ks.length q) (g,p)).1:=by simp[kbB,Zat.kind,Zat.kids]
theorem ZtS:kbB (f+1) (.mk 4 lb ks) p q g=ks.foldl (Zqn (kbB f) p q) g:=by simp[kbB,Zat.kind,Zat.kids]
theorem ZtT:kbB (f+1) (.mk 5 lb ks) p q g=lnk (ks.zipIdx.foldl (Zil (kbB f) g.places) (lnk (more g (2*ks.length)) 0 [p] (Zlb g.places ks.length))) 0 (ZfM g.places ks.length) [q]:=by simp[kbB,Zat.kind,Zat.kids]
theorem ZtU {a0 a1:Zat}:kbB (f+1) (.mk 6 lb [a0,a1]) p q g=lnk (kbB f a1 ((g.places+1:Nat):Int) (g.places:Int) (kbB f a0 (g.places:Int) ((g.places+1:Nat):Int) (lnk (more g 2) 0 [p] [(g.places:Int)]))) 0 [((g.places+1:Nat):Int)] [q]:=by simp[kbB,Zat.kind,Zat.kids]
end
def ZaE (g:KSt):Prop:=g.places≤16∧g.links.length≤24
theorem Gr.fits {a b:KSt}{k:Nat}(h:Gr a b k)(hb:ZaE b):ZaE a:=⟨Nat.le_trans h.up hb.1,Nat.le_trans h.pre.length_le hb.2⟩
end Go.Proofs.YtfmnagcglhlicaaGreat
namespace Go.Proofs.YtfmnagcglhlicaaGreat
open Go.RowKit
end Go.Proofs.YtfmnagcglhlicaaGreat
