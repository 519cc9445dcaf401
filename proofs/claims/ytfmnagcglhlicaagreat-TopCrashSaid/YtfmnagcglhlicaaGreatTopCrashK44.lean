/- The contract of Align. Conditions: the net and the trace read as lists. -/
import Derived.Test.YtfmnagcglhlicaaGreatTopCrashK43
set_option maxRecDepth 100000
set_option maxHeartbeats 16000000
namespace Go.Proofs.YtfmnagcglhlicaaGreat
open Go.RowKit Go.Maps
def S9 (N:aS)(i o:Int)(tr:LIn)(w:World)(e:Ending)(w':World):Prop :=
 ∃A n c cst k,e=.returned (.tuple #[.slice A n c,.int .i64 cst,.int .i64 k])∧sZ N i o tr cst k∧(k≠0→n=0)∧Below w.heap.size w w'
theorem Hi {w:World}{P:Int}{A Q:OAd}{n c l q0:Nat}{ts:List aI}{tr:LIn}(i o:Int)(h:bK w A n c ts)(hn:n≤2513169434916)(g:aJ w Q l q0 tr) :
  Calls Tryz.prog 12 #[.agg #[.int .i64 P,.slice A n c],.int .i64 i,.int .i64 o,.slice Q l q0] w (S9 ⟨P,ts⟩ i o tr w):=by
 generalize hw:(w.alloc (.cells #[.int .i64 P,.slice A n c] 24)).alloc (.cells #[.int .i64 o] 3)=w0;have HB:=aA (show Below w.heap.size w w0 by rw[←hw];exact((Below.refl _ _).alloc (Nat.le_refl _) _).alloc (by simp) _);have X0:=aA (show Box w0 w.heap.size 24 #[.int .i64 P,.slice A n c] by rw[←hw];exact(Box.new _ _ _).old _);have X1:=aA (show Box w0 (w.heap.size+1) 3 #[.int .i64 o] by rw[←hw];exact Box.newAt (by simp) _ _);have G:=aA (g.keep HB.o);have GL:=aA g.len;have H:=aA (h.keep HB.o);have CW:=aA (lX (P:=P) i o H.o hn);have TW:=aA (FQ (N:=⟨P,ts⟩) (i:=i) (o:=o));have TG:=aA (FZ (N:=⟨P,ts⟩) (i:=i) (o:=o));have S2:=aA (fun hs=>rL (N:=⟨P,ts⟩) (i:=i) (o:=o) hs);have TL:=aA (show ts.length=n from h.len);clear h g;obtain⟨R,hR⟩:∃R,pL ⟨P,ts⟩ i o=R:=⟨_,rfl⟩;have HR:=aA hR;rw[hR]at TW TG;clear hR;obtain⟨sw,hsw⟩:∃sw,dV ⟨P,ts⟩ i o=sw:=⟨_,rfl⟩;rw[hsw]at TW TG CW S2;clear hsw;go_enter Tryz.func12,Tryz.ntmps12
 go_upto_region 1 with fail
 clear hw;obtain⟨a0,a1⟩:=X0.o.two;have b0:=X1.o.cell 0;simp only[List.getElem?_toArray,List.getElem?_cons_zero]at b0;by_cases hs0:sw=0
 ·subst hs0;obtain⟨p2,hok⟩:=S2.o rfl;go_upto_region 4 with(go_at_call 24;go_loud ((with_reducible refine CW.o.mono ?_);rintro e w1 ⟨rfl,hb1⟩;have B1:=aA hb1;clear hb1))
  have Y0:=aA (X0.o.keep B1.o).drew;have W1:=aA (X1.o.keep B1.o).drew;have G1:=aA ((G.o.keep B1.o).keep (show Below w1.heap.size w1 w1.drew from⟨rfl,rfl,rfl,Nat.le_refl _,fun _ _=>rfl⟩));have BZ:=aA (HB.o.trans (B1.o.mono HB.o.size)).drew;have H1:=aA (Oc (H.o.keep B1.o));obtain⟨pn,hpn⟩:∃pn,(min P 16).toNat=pn:=⟨_,rfl⟩;have HPN:=aA hpn;obtain⟨g,hg⟩:∃g,bG ⟨P,ts⟩ (gX pn i) 300=g:=⟨_,rfl⟩;have hp16:P≤16:=((aQ _).1 hok).2.1;have hn24:n≤24:=by
   have h3:ts.length≤24:=((aQ _).1 hok).2.2.1;have:=TL.o;omega
  have hpn2:2≤pn:=by omega
  have TR:=aA (show R=g by have:=TG.o (by trivial);simp only[hpn,hg]at this;exact this);have EL:=aA (show QF ⟨P,ts⟩ o=gX pn o by unfold QF;rw[hpn]);have NIL:=aA (fun(he:g.2≠0)=>show g.1=PSp.nil by rw[←hg];exact rK (by rw[hg];exact he));have SPK:=aA (fun(he:g.2=0)=>show lW ⟨P,ts⟩ (300:Int).toNat g.1 by rw[←hg];exact(jG (by rw[hg];exact he)).2);have ARC:=aA (fun(he:g.2=0)=>show g.1.arcs.length≤7200 by rw[←hg];exact pI (by rw[hg];exact he));have CG:=aA (fun(w':World) (C:OAd) (kc:Nat) (hb:Below w1.drew.heap.size w1.drew w') (hi:aJ w' C pn kc (gX pn i))=>show Calls _ _ _ _ (tO g w') by rw[←hg];exact uW (P:=P) 300 (H1.o.keep hb) hi);have BU0:=aA (Below.refl w1.drew.heap.size w1.drew);have ML:=aA (show ∀x∈g.1.marks,2≤x.length from fun x hx=>by
   by_cases he:g.2=0
   ·have:=((bD _ _).1 ((SPK.o he).fits x hx)).2.1;simp only at this;omega
   ·rw[NIL.o he]at hx;cases hx)
  clear hg hpn TW TG S2 X0 X1 G HB H B1 a0 a1 b0;obtain⟨s,k⟩:=g;simp only at NIL SPK ML ARC;obtain rfl:R=(s,k):=TR.o;clear TR;obtain⟨a0,a1⟩:=Y0.o.two;refine aF 10 (.takes [0,1,2] (.two 3 (.two 4 (.takes [5,6,7] (.one 8 (.one 9 (.fin 10 .done)))) 8 (.one 4 (.takes [5,6,7] (.one 9 (.fin 10 .done))))) 8 (.one 3 (.one 4 (.takes [5,6,7] (.one 9 (.fin 10 .done))))))) (fun w'=>w'.cell? ⟨w.heap.size,0,none⟩=some (.int .i64 P)∧w'.cell? ⟨w.heap.size,1,none⟩=some (.slice A n c)) (by kernel_rfl) (by kernel_rfl) (by kernel_rfl) (fun _ _ _ _ _ h=>h) ⟨a0,a1⟩ (fun hH=>?_);simp only[Scr.takes];generalize w1.drew=u0 at *
  iterate 3
   refine aH (v:=?_) rfl (by rfl) hH (fun w' hSw=>?_) ?_
   rotate_left
   ·(go_simp;try with_reducible rfl)
   try simp only[Act.put,aL,aM,aN]
  refine Ny (.fin 10 .done) (fun a0 a' w'=>∃(C:OAd) (kc:Nat) (U:OAd) (cu:Nat) (V:OAd) (cv b11:Nat),a'=((((((a0.put (some 33) (.slice C pn kc)).put (some 34) (.tuple #[.agg #[.slice U s.marks.length cu,.slice V s.arcs.length cv],.int .i64 k])).put (some 29) (.tuple #[.agg #[.slice U s.marks.length cu,.slice V s.arcs.length cv],.int .i64 k])).put (some 35) (.agg #[.slice U s.marks.length cu,.slice V s.arcs.length cv])).put (some 36) (.int .i64 k)).put (some 12) (.pointer (some ⟨b11,0,none⟩)))∧Hid (Box w' b11 83 #[.slice U s.marks.length cu,.slice V s.arcs.length cv])∧Hid (bT w' U s.marks.length cu s.marks)∧Hid (tN w' V s.arcs.length cv s.arcs)∧Hid (Below u0.heap.size u0 w')) ?_ (fun EN=>?_)
  rotate_left
  ·refine AY rfl rfl (fun Kf hKf=>?_) (fun Kf hKf=>?_)
   ·go_simp;go_at_call 9
    (with_reducible refine(dY u0 P i A n c).mono ?_)
    rw[HPN.o];rintro e u1 ⟨C,kc,rfl,hi,hb,_⟩;have Iu1:=aA hi;have Bu1:=aA (BU0.o.trans (hb.mono BU0.o.size));clear hi hb;refine hKf.out _ _ ⟨(Y0.o.keep Bu1.o).two.1,(Y0.o.keep Bu1.o).two.2⟩ (fun hH=>?_);clear hKf;try simp only[Act.put,aL,aM,aN]
    refine AY rfl rfl (fun Kf hKf=>?_) (fun Kf hKf=>?_)
    ·go_simp;go_at_call 25
     (with_reducible refine(CG.o u1 _ _ Bu1.o Iu1.o).mono ?_)
     rintro e u2 ⟨U,cu,V,cv,rfl,hL,hA,hb⟩;have Lu2:=aA hL;have Au2:=aA hA;have Bu2:=aA (Bu1.o.trans (hb.mono Bu1.o.size));clear hL hA hb;refine hKf.out _ _ ⟨(Y0.o.keep Bu2.o).two.1,(Y0.o.keep Bu2.o).two.2⟩ (fun hH=>?_);clear hKf
     iterate 3
      refine aH (v:=?_) rfl (by rfl) hH (fun w' hSw=>?_) ?_
      rotate_left
      ·(go_simp;try with_reducible rfl)
      try simp only[Act.put,aL,aM,aN]
     refine bI rfl (fun Kf hKf=>?_);go_simp
     have Bu3:=aA (show Below u0.heap.size u0 (u2.alloc (.cells #[.slice none 0 0,.slice none 0 0] 83))from Bu2.o.alloc Bu2.o.size _);have Xu3:=aA (show Box (u2.alloc (.cells #[.slice none 0 0,.slice none 0 0] 83)) u2.heap.size 83 #[.slice none 0 0,.slice none 0 0]from Box.new _ _ _);have Nu3:=aA (show u0.heap.size≤u2.heap.size from Bu2.o.size);have Lu3:=aA (Sl.keep bH.kept Lu2.o ((Below.refl u2.heap.size u2).alloc (Nat.le_refl _) (.cells #[.slice none 0 0,.slice none 0 0] 83)));have Au3:=aA (Sl.keep tM.kept Au2.o ((Below.refl u2.heap.size u2).alloc (Nat.le_refl _) (.cells #[.slice none 0 0,.slice none 0 0] 83)));refine hKf.out _ _ ⟨(Y0.o.keep Bu3.o).two.1,(Y0.o.keep Bu3.o).two.2⟩ (fun hH=>?_);clear hKf;try simp only[Act.put,aL,aM,aN]
     generalize u2.alloc (.cells #[.slice none 0 0,.slice none 0 0] 83)=u3 at *
     refine bI rfl (fun Kf hKf=>?_);obtain⟨s0,s1⟩:=Xu3.o.two;have sf0:=Xu3.o.frozen 0;have sf1:=Xu3.o.frozen 1;go_simp
     have BE:=aA (fR Bu3.o (Nat.le_refl _) Nu3.o (.slice U s.marks.length cu) (.slice V s.arcs.length cv));refine hKf.out _ _ ⟨(Y0.o.keep BE.o).two.1,(Y0.o.keep BE.o).two.2⟩ (fun hH=>?_);clear hKf;try simp only[Act.put,aL,aM,aN]
     exact EN.o _ _ ⟨C,kc,U,cu,V,cv,u2.heap.size,rfl,aA (Xu3.o.set2 _ _),aA (bT.besideZ Lu3.o ML.o Xu3.o _ _),aA (tN.besideZ Au3.o Xu3.o _ _),BE⟩ hH
    ·go_simp
     have Bu2:=aA (show Below u0.heap.size u0 (u1.alloc (.cells #[.slice none 0 0,.slice none 0 0] 83))from Bu1.o.alloc Bu1.o.size _);have Xu2:=aA (show Box (u1.alloc (.cells #[.slice none 0 0,.slice none 0 0] 83)) u1.heap.size 83 #[.slice none 0 0,.slice none 0 0]from Box.new _ _ _);have Nu2:=aA (show u0.heap.size≤u1.heap.size from Bu1.o.size);have Iu2:=aA (Sl.keep iG.kept Iu1.o ((Below.refl u1.heap.size u1).alloc (Nat.le_refl _) (.cells #[.slice none 0 0,.slice none 0 0] 83)));refine hKf.out _ _ ⟨(Y0.o.keep Bu2.o).two.1,(Y0.o.keep Bu2.o).two.2⟩ (fun hH=>?_);clear hKf;try simp only[Act.put,aL,aM,aN]
     generalize u1.alloc (.cells #[.slice none 0 0,.slice none 0 0] 83)=u2 at *
     refine bI rfl (fun Kf hKf=>?_);go_simp;go_at_call 25
     (with_reducible refine(CG.o u2 _ _ Bu2.o Iu2.o).mono ?_)
     rintro e u3 ⟨U,cu,V,cv,rfl,hL,hA,hb⟩;have Lu3:=aA hL;have Au3:=aA hA;have Xu3:=aA (Xu2.o.keep hb);have Bu3:=aA (Bu2.o.trans (hb.mono Bu2.o.size));clear hL hA hb;refine hKf.out _ _ ⟨(Y0.o.keep Bu3.o).two.1,(Y0.o.keep Bu3.o).two.2⟩ (fun hH=>?_);clear hKf
     iterate 3
      refine aH (v:=?_) rfl (by rfl) hH (fun w' hSw=>?_) ?_
      rotate_left
      ·(go_simp;try with_reducible rfl)
      try simp only[Act.put,aL,aM,aN]
     refine bI rfl (fun Kf hKf=>?_);obtain⟨s0,s1⟩:=Xu3.o.two;have sf0:=Xu3.o.frozen 0;have sf1:=Xu3.o.frozen 1;go_simp
     have BE:=aA (fR Bu3.o (Nat.le_refl _) Nu2.o (.slice U s.marks.length cu) (.slice V s.arcs.length cv));refine hKf.out _ _ ⟨(Y0.o.keep BE.o).two.1,(Y0.o.keep BE.o).two.2⟩ (fun hH=>?_);clear hKf;try simp only[Act.put,aL,aM,aN]
     exact EN.o _ _ ⟨C,kc,U,cu,V,cv,u1.heap.size,rfl,aA (Xu3.o.set2 _ _),aA (bT.besideZ Lu3.o ML.o Xu3.o _ _),aA (tN.besideZ Au3.o Xu3.o _ _),BE⟩ hH
   ·go_simp
    have Bu1:=aA (show Below u0.heap.size u0 (u0.alloc (.cells #[.slice none 0 0,.slice none 0 0] 83))from BU0.o.alloc BU0.o.size _);have Xu1:=aA (show Box (u0.alloc (.cells #[.slice none 0 0,.slice none 0 0] 83)) u0.heap.size 83 #[.slice none 0 0,.slice none 0 0]from Box.new _ _ _);have Nu1:=aA (show u0.heap.size≤u0.heap.size from BU0.o.size);refine hKf.out _ _ ⟨(Y0.o.keep Bu1.o).two.1,(Y0.o.keep Bu1.o).two.2⟩ (fun hH=>?_);clear hKf;try simp only[Act.put,aL,aM,aN]
    generalize u0.alloc (.cells #[.slice none 0 0,.slice none 0 0] 83)=u1 at *
    refine bI rfl (fun Kf hKf=>?_);go_simp;go_at_call 9
    (with_reducible refine(dY u1 P i A n c).mono ?_)
    rw[HPN.o];rintro e u2 ⟨C,kc,rfl,hi,hb,_⟩;have Iu2:=aA hi;have Xu2:=aA (Xu1.o.keep hb);have Bu2:=aA (Bu1.o.trans (hb.mono Bu1.o.size));clear hi hb;refine hKf.out _ _ ⟨(Y0.o.keep Bu2.o).two.1,(Y0.o.keep Bu2.o).two.2⟩ (fun hH=>?_);clear hKf;try simp only[Act.put,aL,aM,aN]
    refine bI rfl (fun Kf hKf=>?_);go_simp;go_at_call 25
    (with_reducible refine(CG.o u2 _ _ Bu2.o Iu2.o).mono ?_)
    rintro e u3 ⟨U,cu,V,cv,rfl,hL,hA,hb⟩;have Lu3:=aA hL;have Au3:=aA hA;have Xu3:=aA (Xu2.o.keep hb);have Bu3:=aA (Bu2.o.trans (hb.mono Bu2.o.size));clear hL hA hb;refine hKf.out _ _ ⟨(Y0.o.keep Bu3.o).two.1,(Y0.o.keep Bu3.o).two.2⟩ (fun hH=>?_);clear hKf
    iterate 3
     refine aH (v:=?_) rfl (by rfl) hH (fun w' hSw=>?_) ?_
     rotate_left
     ·(go_simp;try with_reducible rfl)
     try simp only[Act.put,aL,aM,aN]
    refine bI rfl (fun Kf hKf=>?_);obtain⟨s0,s1⟩:=Xu3.o.two;have sf0:=Xu3.o.frozen 0;have sf1:=Xu3.o.frozen 1;go_simp
    have BE:=aA (fR Bu3.o (Nat.le_refl _) Nu1.o (.slice U s.marks.length cu) (.slice V s.arcs.length cv));refine hKf.out _ _ ⟨(Y0.o.keep BE.o).two.1,(Y0.o.keep BE.o).two.2⟩ (fun hH=>?_);clear hKf;try simp only[Act.put,aL,aM,aN]
    exact EN.o _ _ ⟨C,kc,U,cu,V,cv,u0.heap.size,rfl,aA (Xu3.o.set2 _ _),aA (bT.besideZ Lu3.o ML.o Xu3.o _ _),aA (tN.besideZ Au3.o Xu3.o _ _),BE⟩ hH
  rintro a' w4 ⟨C,kc,U,cu,V,cv,b11,rfl,SX,SL,SA,SB⟩ hH;try simp only[Act.put,aL,aM,aN]
  refine bF rfl (fun Kf hKf=>?_);go_simp
  refine hKf.out _ _ ?_;clear hKf;try simp only[Act.put,aL,aM,aN]
  refine bP ?_;clear hH a0 a1;have Z0:=aA (Y0.o.keep SB.o);have H4:=aA (H1.o.keep SB.o);have B4:=aA (BZ.o.trans (SB.o.mono BZ.o.size));have Z1:=aA (W1.o.keep SB.o);have G4:=aA (G1.o.keep SB.o);clear Y0 W1 G1 H1 BZ SB CG BU0 CW;by_cases hk0:k=0
  ·subst hk0;by_cases hl60:60<l
   ·have hl60i:(60:Int)<(l:Int):=by omega
    have CP:=aA (J0 HR.o (by rw[GL.o];exact hl60));go_wp2
    go_ret3
    exact⟨none,0,0,0,2,rfl,CP.o,fun _=>rfl,B4.o⟩
   ·have hl60i:¬(60:Int)<(l:Int):=by omega
    have SO:=aA (SPK.o rfl);have T:=aA (Rt HR.o);have IDX:=aA (show Calls Tryz.prog 26 #[.slice U s.marks.length cu,.func (.func 27) #[] #[.pointer (some ⟨w.heap.size,0,none⟩),.pointer (some ⟨w.heap.size+1,0,none⟩)]] w4 (fun e w'=>e=.returned (.int .i64 (toV (eH s.marks (QF ⟨P,ts⟩ o))))∧Below w4.heap.size w4 w')from by
     have:=iI SL.o (SY (ts:=ts) Z0.o Z1.o);rw[Bm]at this;exact this)
    have hml:=SO.o.few;obtain⟨nm,hnm⟩:∃nm,s.marks.length=nm:=⟨_,rfl⟩;have HNM:=aA hnm;rw[hnm]at IDX SX SL hml;clear hnm;obtain⟨s0,s1⟩:=SX.o.two;have CN:=aA (fun hf=>J6 (tr:=tr) HR.o (by rw[GL.o];exact hl60) hf);cases hf:eH s.marks (QF ⟨P,ts⟩ o) with
    | none =>
     have CP:=aA (CN.o hf);rw[hf]at IDX;replace IDX:=aA (show Calls Tryz.prog 26 #[.slice U nm cu,.func (.func 27) #[] #[.pointer (some ⟨w.heap.size,0,none⟩),.pointer (some ⟨w.heap.size+1,0,none⟩)]] w4 (fun e w'=>e=.returned (.int .i64 (-1))∧Below w4.heap.size w4 w')from IDX.o)
     clear hf;go_wp2_with fail
     refine IDX.o.mono ?_;rintro e w5 ⟨rfl,hb5⟩;have B5:=aA (B4.o.trans (hb5.mono B4.o.size));clear hb5 s0 s1;go_wp2
     go_ret3
     exact⟨none,0,0,0,3,rfl,CP.o,fun _=>rfl,B5.o⟩
    | some j =>
     have CP:=aA (fun(cc:Int) hm=>J7 (c:=cc) HR.o (by rw[GL.o];exact hl60) hf hm);rw[hf]at IDX;replace IDX:=aA (show Calls Tryz.prog 26 #[.slice U nm cu,.func (.func 27) #[] #[.pointer (some ⟨w.heap.size,0,none⟩),.pointer (some ⟨w.heap.size+1,0,none⟩)]] w4 (fun e w'=>e=.returned (.int .i64 (j:Int))∧Below w4.heap.size w4 w')from IDX.o)
     have HJ:=aA (List.getElem?_eq_some_iff.1 (kV hf)).1;have hj0:¬(j:Int)<0:=by omega
     clear hf;go_wp2_with fail
     refine IDX.o.mono ?_;rintro e w5 ⟨rfl,hb5⟩;have B5:=aA (B4.o.trans (hb5.mono B4.o.size));have Y5:=aA (Z0.o.keep hb5);have S5:=aA (SX.o.keep hb5);have H5:=aA (H4.o.keep hb5);have G5:=aA (G4.o.keep hb5);have A5:=aA (Sl.keep tM.kept SA.o hb5);clear hb5 s0 s1;go_upto_region 12 with fail
     have LBL:=aA (show ∀a∈s.arcs,0≤atI (nM ⟨P,ts⟩) a.tran from T.o.label);have TOK:=aA (show ∀a∈s.arcs,Inn nm a.to_ from by rw[←HNM.o];exact T.o.to_);have TRN:=aA (show ∀a∈s.arcs,Inn n a.tran from by rw[←TL.o];exact T.o.tran);have FEW:=aA (show s.arcs.length≤7200 from T.o.few);have POS:=aA (show 0<nm by rw[←HNM.o];exact T.o.pos);have WAY:=aA (show ∃cc,Wk (Ed s.arcs (atI (nM ⟨P,ts⟩)) tr) ((l:Int),(j:Int)) cc from by
      obtain⟨cc,hc,_⟩:=Wk.marks (tr:=tr) SO.o LBL.o j j (Nat.le_refl _) HJ.o;exact⟨cc,by rw[←GL.o];exact hc⟩)
     have E0:=aA (show ∀u v cc,(Ed s.arcs (atI (nM ⟨P,ts⟩)) tr) u v cc→0≤cc from fun u v cc h=>(h.low LBL.o).1);have GOAL:=aA (show ∀cc,Rf (Ed s.arcs (atI (nM ⟨P,ts⟩)) tr) ((l:Int),(j:Int)) cc→sZ ⟨P,ts⟩ i o tr cc 0 from fun cc hm=>CP.o cc (by rw[GL.o];exact hm));have hnm3:nm≤300:=hml;have DR:=aA ((Below.refl w5.heap.size w5).drew);have Y6:=aA (Y5.o.keep DR.o);have S6:=aA (S5.o.keep DR.o);have H6:=aA (H5.o.keep DR.o);have G6:=aA (G5.o.keep DR.o);have A6:=aA (Sl.keep tM.kept A5.o DR.o);have B6:=aA (B5.o.trans (DR.o.mono B5.o.size));obtain⟨a0,a1⟩:=Y6.o.two;obtain⟨s0,s1⟩:=S6.o.two;refine aF 10 (.takes [0,1,2,4,5] (.one 3 (.one 6 (.takes [7,8] (.one 9 (.fin 10 .done)))))) (fun w'=>(w'.cell? ⟨w.heap.size,0,none⟩=some (.int .i64 P)∧w'.cell? ⟨w.heap.size,1,none⟩=some (.slice A n c))∧w'.cell? ⟨b11,0,none⟩=some (.slice U nm cu)∧w'.cell? ⟨b11,1,none⟩=some (.slice V s.arcs.length cv)) (by kernel_rfl) (by kernel_rfl) (by kernel_rfl) (fun _ _ _ _ _ h=>h) ⟨⟨a0,a1⟩,s0,s1⟩ (fun hH=>?_);simp only[Scr.takes];clear a0 a1 s0 s1 Y5 S5 H5 G5 A5 DR B5 CP SO T Z0 Z1 H4 G4 SA SL SX IDX CN NIL SPK ML ARC B4 EL HPN;generalize w5.drew=w6 at *
     iterate 5
      refine aH (v:=?_) rfl (by rfl) hH (fun w' hSw=>?_) ?_
      rotate_left
      ·(go_simp;try with_reducible rfl)
      try simp only[Act.put,aL,aM,aN]
     have b7:=aA (show Below w6.heap.size w6 (w6.alloc (.map #[] 0))from(Below.refl _ _).alloc (Nat.le_refl _) _);have M7:=aA (iF.made w6);have hmm:=@run_makeMap Tryz.prog;refine bI rfl (fun Kf hKf=>?_);go_simp
     refine hKf.out _ _ ⟨(Y6.o.keep b7.o).two,(S6.o.keep b7.o).two⟩ (fun hH=>?_);clear hKf hmm;try simp only[Act.put,aL,aM,aN]
     obtain⟨w8,iW,m8,g8⟩:=M7.o.update (v:=(0,0)) ⟨by simp,by simp⟩ kK (by simp[maxLen]);have M8:=aA (show iF w8 w6.heap.size uS 1 from m8);have b8:=aA (show Below w6.heap.size w6 w8 from b7.o.grown g8 (by simp) (fun k e=>by cases e;exact Nat.le_refl _));simp only[kvS,AE,kK]at iW;clear m8 g8;refine bI rfl (fun Kf hKf=>?_);go_simp
     refine hKf.out _ _ ⟨(Y6.o.keep b8.o).two,(S6.o.keep b8.o).two⟩ (fun hH=>?_);clear hKf iW;try simp only[Act.put,aL,aM,aN]
     iterate 2
      refine aH (v:=?_) rfl (by rfl) hH (fun w' hSw=>?_) ?_
      rotate_left
      ·(go_simp;try with_reducible rfl)
      try simp only[Act.put,aL,aM,aN]
     generalize hbm:w6.heap.size=bm at *
     have XA:=aA (Box.new w8 #[.int .i64 P,.slice A n c,.slice U nm cu,.slice V s.arcs.length cv,.slice Q l q0,.map (some bm)] 97);have M9:=aA (M8.o.alloc (.cells #[.int .i64 P,.slice A n c,.slice U nm cu,.slice V s.arcs.length cv,.slice Q l q0,.map (some bm)] 97));have b9:=aA (b8.o.alloc (by rw[←hbm];exact b8.o.size) (.cells #[.int .i64 P,.slice A n c,.slice U nm cu,.slice V s.arcs.length cv,.slice Q l q0,.map (some bm)] 97));have L9:=aA (show bm<w8.heap.size from M8.o.lt);refine bI rfl (fun Kf hKf=>?_);go_simp
     refine hKf.out _ _ ⟨(Y6.o.keepB b9.o (by rw[←hbm];exact Y6.o.lt)).two,(S6.o.keepB b9.o (by rw[←hbm];exact S6.o.lt)).two⟩ (fun hH=>?_);clear hKf;try simp only[Act.put,aL,aM,aN]
     refine bF rfl (fun Kf hKf=>?_);go_simp
     refine hKf.out _ _ ?_;clear hKf;try simp only[Act.put,aL,aM,aN]
     refine bP ?_;clear hH b7 b8 M7 M8 Y6 S6;generalize w8.alloc (.cells #[.int .i64 P,.slice A n c,.slice U nm cu,.slice V s.arcs.length cv,.slice Q l q0,.map (some bm)] 97)=w9 at *
     generalize w8.heap.size=ba at *
     go_upto_region 13 with fail
     have XG:=aA (Box.new w9 #[.int .i64 (l:Int),.int .i64 (j:Int)] 90);have bb:=aB w9 (.cells #[.int .i64 (l:Int),.int .i64 (j:Int)] 90);have XA1:=aA (XA.o.keep bb);have M10:=aA (M9.o.keep bb);have H10:=aA (b9.o.trans (bb.mono (by rw[←hbm];exact b9.o.size)));have B10:=aA (show Below w.heap.size w (w9.alloc (.cells #[.int .i64 (l:Int),.int .i64 (j:Int)] 90))from B6.o.trans ((show Below w6.heap.size w6 _ from by rw[hbm];exact H10.o).mono B6.o.size));have LG:=aA (show ba<w9.heap.size from XA.o.lt);have NMA:=aA (show bm≠ba∧bm≠w9.heap.size by have:=L9.o;have:=LG.o;omega);have NMW:=aA (show w.heap.size≤bm by rw[←hbm];exact B6.o.size);clear bb XA M9 b9;go_wp2
     generalize w9.alloc (.cells #[.int .i64 (l:Int),.int .i64 (j:Int)] 90)=w10 at *
     generalize w9.heap.size=bg at *
     have AI0:=aA (AlI.start (E:=(Ed s.arcs (atI (nM ⟨P,ts⟩)) tr)) (L:=tr.length) (n:=nm) (g:=((l:Int),(j:Int))) POS.o hnm3 (by rw[GL.o];omega) (by simp));go_loopg [] (JL tr.length nm []) (fun gk wr=>∃(f:SpM) (dn:List Sp) (q:Nat),Hid (AlI (Ed s.arcs (atI (nM ⟨P,ts⟩)) tr) tr.length nm ((l:Int),(j:Int)) f dn q∧JL tr.length nm dn=gk)∧Hid (iF wr bm f q)∧Hid (Box wr ba 97 #[.int .i64 P,.slice A n c,.slice U nm cu,.slice V s.arcs.length cv,.slice Q l q0,.map (some bm)])∧Hid (Box wr bg 90 #[.int .i64 (l:Int),.int .i64 (j:Int)])∧Hid (Below w.heap.size w wr)∧Hid (Below bm w6 wr))
     case atStart=>exact⟨uS,[],1,aA ⟨AI0.o,rfl⟩,M10,XA1,XG,B10,H10⟩
     case round =>
      clear AI0 M10 XA1 XG B10 H10;obtain⟨f,dn,q,AI,MW,XA,XG,BW,HW⟩:=hrel;go_wp2_with fail
      refine(z8 XA.o rfl MW.o).mono ?_;rintro e w11 ⟨hb,⟨b1,b2⟩,sm,rfl,hno,hyes⟩;cases sm with
      | false =>
       exfalso
       obtain⟨cc,hw⟩:=WAY.o;obtain⟨u,x,hx,hd⟩:=AI.o.1.di.none_left E0.o hw AI.o.1.ng;have:=hno rfl u x hx;rw[hd]at this;cases this
      | true =>
       obtain⟨⟨yc,⟨ys,ym⟩,yk,yl,yt,yd⟩,hx,hd,hmin⟩:=hyes rfl;simp only at hd;subst hd;have OKAT:=aA (MW.o.1 _ _ hx);obtain⟨k0,rfl⟩:∃k0:Nat,b1=(k0:Int):=⟨b1.toNat,by have:=(AI.o.1.di.snd _ _ hx).2.1.1;simp only at this;omega⟩;obtain⟨m0,rfl⟩:∃m0:Nat,b2=(m0:Int):=⟨b2.toNat,by have:=(AI.o.1.di.snd _ _ hx).2.2.1;simp only at this;omega⟩;have AP:=aA (show AlP (Ed s.arcs (atI (nM ⟨P,ts⟩)) tr) tr.length nm ((l:Int),(j:Int)) (rI f ((k0:Int),(m0:Int)) ⟨yc,(ys,ym),yk,yl,yt,true⟩) (((k0:Int),(m0:Int))::dn) ((k0:Int),(m0:Int)) yc (q+1) (JL tr.length nm dn)from AI.o.1.pop E0.o hx rfl hmin);have LESS:=aA AI.o.2;have MIN:=aA (fun(e:(((k0:Int),(m0:Int)):Sp)=((l:Int),(j:Int)))=>AI.o.1.di.goal E0.o (show f ((l:Int),(j:Int))=_ by rw[←e];exact hx) rfl hmin);have HLK:=aA (fun(w':World) (hm:iF w' bm f q)=>show(Instr.lookup 95 (.map (some bm)) (.agg #[.int .i64 (k0:Int),.int .i64 (m0:Int)]) false).run Tryz.prog w'=.ok (.agg #[.int .i64 yc,.int .i64 ys,.int .i64 ym,.int .i64 yk,.int .i64 yl,.int .i64 yt,.bool false]) w' from by
        have:=hm.at OKAT.o;rw[hx]at this;exact this)
       have XT:=aA (Box.new w11 #[.int .i64 (k0:Int),.int .i64 (m0:Int)] 90);have bb:=aB w11 (.cells #[.int .i64 (k0:Int),.int .i64 (m0:Int)] 90);have XA1:=aA ((XA.o.keep hb).keep bb);have XG1:=aA ((XG.o.keep hb).keep bb);have M1:=aA ((MW.o.keep hb).keep bb);have LM:=aA (show bm<w11.heap.size from(MW.o.keep hb).lt);have BW1:=aA ((BW.o.trans (hb.mono BW.o.size)).trans (bb.mono (Nat.le_trans BW.o.size hb.size)));have HW1:=aA ((HW.o.trans (hb.mono (Nat.le_of_lt MW.o.lt))).trans (bb.mono (Nat.le_of_lt LM.o)));simp only[kvS];clear hx hmin hno hyes hb bb AI MW XA XG BW HW;go_upto_region 17 with fail
       generalize w11.alloc (.cells #[.int .i64 (k0:Int),.int .i64 (m0:Int)] 90)=w12 at *
       generalize w11.heap.size=bt at *
       have DR:=aA ((Below.refl w12.heap.size w12).drew);have XT2:=aA (XT.o.keep DR.o);have XA2:=aA (XA1.o.keep DR.o);have XG2:=aA (XG1.o.keep DR.o);have M2:=aA (M1.o.keep DR.o);have LS:=aA (show bt<w12.heap.size from XT.o.lt);have BW2:=aA (BW1.o.trans (DR.o.mono BW1.o.size));have HW2:=aA (HW1.o.trans (DR.o.mono (Nat.le_of_lt M1.o.lt)));have a5:=XA2.o.cell 5;simp only[List.getElem?_toArray,List.getElem?_cons_zero,List.getElem?_cons_succ]at a5;obtain⟨z0,z1⟩:=XT2.o.two;refine aF 7 (.takes [0,1,2,3,4,5] (.one 6 (.fin 7 .done))) (fun w'=>w'.cell? ⟨ba,5,none⟩=some (.map (some bm))∧w'.cell? ⟨bt,0,none⟩=some (.int .i64 (k0:Int))∧w'.cell? ⟨bt,1,none⟩=some (.int .i64 (m0:Int))∧iF w' bm f q) (by kernel_rfl) (by kernel_rfl) (by kernel_rfl) (fun _ _ _ _ _ h=>h) ⟨a5,z0,z1,M2.o⟩ (fun hH=>?_);simp only[Scr.takes];clear a5 z0 z1 XT XA1 XG1 M1 BW1 HW1 DR;generalize w12.drew=w13 at *
       iterate 5
        refine aH (v:=?_) rfl (by rfl) hH (fun w' hSw=>?_) ?_
        rotate_left
        ·(go_simp;try with_reducible rfl)
        try simp only[Act.put,aL,aM,aN]
       refine aH (v:=?_) rfl (by rfl) hH (fun w' hSw=>?_) ?_
       rotate_left
       ·have hlk:=HLK.o w' hSw.2.2.2;go_simp
        try with_reducible rfl
       try simp only[Act.put,aL,aM,aN]
       have bz:=aA (aB w13 (.cells #[.int .i64 0,.int .i64 0,.int .i64 0,.int .i64 0,.int .i64 0,.int .i64 0,.bool false] 94));have a5:=(XA2.o.keep bz.o).cell 5;simp only[List.getElem?_toArray,List.getElem?_cons_zero,List.getElem?_cons_succ]at a5;refine bI rfl (fun Kf hKf=>?_);go_simp
       refine hKf.out _ _ ⟨a5,(XT2.o.keep bz.o).two.1,(XT2.o.keep bz.o).two.2,M2.o.keep bz.o⟩ (fun hH=>?_);clear hKf a5 bz;try simp only[Act.put,aL,aM,aN]
       have bb:=aB w13 (.cells #[.int .i64 yc,.int .i64 ys,.int .i64 ym,.int .i64 yk,.int .i64 yl,.int .i64 yt,.bool false] 94);have XX:=aA (Box.new w13 #[.int .i64 yc,.int .i64 ys,.int .i64 ym,.int .i64 yk,.int .i64 yl,.int .i64 yt,.bool false] 94);have XT3:=aA (XT2.o.keep bb);have XA3:=aA (XA2.o.keep bb);have XG3:=aA (XG2.o.keep bb);have M3:=aA (M2.o.keep bb);have BW3:=aA (BW2.o.trans (bb.mono BW2.o.size));have HW3:=aA (HW2.o.trans (bb.mono (Nat.le_of_lt M2.o.lt)));have BX:=aA (show w.heap.size≤w13.heap.size from BW2.o.size);have NE3:=aA (show bm<w13.heap.size∧bt<w13.heap.size∧ba<w13.heap.size∧bg<w13.heap.size from⟨M2.o.lt,XT2.o.lt,XA2.o.lt,XG2.o.lt⟩);refine bF rfl (fun Kf hKf=>?_);go_simp
       refine hKf.out _ _ ?_;clear hKf;refine bP ?_;clear hH bb XT2 XA2 XG2 M2 BW2 HW2 HLK LS;generalize w13.alloc (.cells #[.int .i64 yc,.int .i64 ys,.int .i64 ym,.int .i64 yk,.int .i64 yl,.int .i64 yt,.bool false] 94)=w14 at *
       generalize w13.heap.size=bx at *
       have xf:=XX.o.frozen 6;have x6:=XX.o.cell 6;simp only[List.getElem?_toArray,List.getElem?_cons_zero,List.getElem?_cons_succ]at x6;go_upto_region 19 with fail
       have NEX:=aA (show bm≠bx∧bt≠bx∧ba≠bx∧bg≠bx by have:=NE3.o;omega);have gx:=Jc w14 bx 6 (.bool true);have XX4:=aA (show Box (w14.setCell ⟨bx,6,none⟩ (.bool true)) bx 94 #[.int .i64 yc,.int .i64 ys,.int .i64 ym,.int .i64 yk,.int .i64 yl,.int .i64 yt,.bool true] by simpa using XX.o.set 6 (.bool true));have XT4:=aA (XT3.o.grown gx (by simp;exact fun e=>NEX.o.2.1 e.symm));have XA4:=aA (XA3.o.grown gx (by simp;exact fun e=>NEX.o.2.2.1 e.symm));have XG4:=aA (XG3.o.grown gx (by simp;exact fun e=>NEX.o.2.2.2 e.symm));have M4:=aA (M3.o.beside gx (by simp;exact NEX.o.1));have BW4:=aA (BW3.o.setCell (p:=⟨bx,6,none⟩) BX.o (.bool true));have HW4:=aA (HW3.o.setCell (p:=⟨bx,6,none⟩) (Nat.le_of_lt NE3.o.1) (.bool true));clear gx xf x6 XX XT3 XA3 XG3 M3 BW3 HW3;generalize w14.setCell ⟨bx,6,none⟩ (.bool true)=w15 at *
       have DR:=aA ((Below.refl w15.heap.size w15).drew);have XX5:=aA (XX4.o.keep DR.o);have XT5:=aA (XT4.o.keep DR.o);have XA5:=aA (XA4.o.keep DR.o);have XG5:=aA (XG4.o.keep DR.o);have M5:=aA (M4.o.keep DR.o);have BW5:=aA (BW4.o.trans (DR.o.mono BW4.o.size));have HW5:=aA (HW4.o.trans (DR.o.mono (Nat.le_of_lt M4.o.lt)));have a5:=XA5.o.cell 5;simp only[List.getElem?_toArray,List.getElem?_cons_zero,List.getElem?_cons_succ]at a5;obtain⟨z0,z1⟩:=XT5.o.two;obtain⟨s0,s1,s2,s3,s4,s5,s6⟩:=XX5.o.seven;refine aF 6 (.takes [0,1,2,3,4,5] (.fin 6 .done)) (fun w'=>w'.cell? ⟨ba,5,none⟩=some (.map (some bm))∧(w'.cell? ⟨bt,0,none⟩=some (.int .i64 (k0:Int))∧w'.cell? ⟨bt,1,none⟩=some (.int .i64 (m0:Int)))∧w'.cell? ⟨bx,0,none⟩=some (.int .i64 yc)∧w'.cell? ⟨bx,1,none⟩=some (.int .i64 ys)∧w'.cell? ⟨bx,2,none⟩=some (.int .i64 ym)∧w'.cell? ⟨bx,3,none⟩=some (.int .i64 yk)∧w'.cell? ⟨bx,4,none⟩=some (.int .i64 yl)∧w'.cell? ⟨bx,5,none⟩=some (.int .i64 yt)∧w'.cell? ⟨bx,6,none⟩=some (.bool true)) (by kernel_rfl) (by kernel_rfl) (by kernel_rfl) (fun _ _ _ _ _ h=>h) ⟨a5,⟨z0,z1⟩,s0,s1,s2,s3,s4,s5,s6⟩ (fun hH=>?_);simp only[Scr.takes];clear a5 z0 z1 s0 s1 s2 s3 s4 s5 s6 XX4 XT4 XA4 XG4 M4 BW4 HW4 DR XX5;generalize w15.drew=w16 at *
       iterate 6
        refine aH (v:=?_) rfl (by rfl) hH (fun w' hSw=>?_) ?_
        rotate_left
        ·(go_simp;try with_reducible rfl)
        try simp only[Act.put,aL,aM,aN]
       obtain⟨w17,iW,m6,g6⟩:=M5.o.update OKAT.o ⟨yc,(ys,ym),yk,yl,yt,true⟩ (show q<maxLen by have:=AP.o.few;simp only[maxLen];omega);have M6:=aA m6;have XT6:=aA (XT5.o.grown g6 (by simp;exact Nat.ne_of_lt LM.o));have XA6:=aA (XA5.o.grown g6 (by simp;exact NMA.o.1));have XG6:=aA (XG5.o.grown g6 (by simp;exact NMA.o.2));have BW6:=aA (BW5.o.grown g6 BW5.o.size (fun k e=>by cases e;exact NMW.o));have HW6:=aA (HW5.o.grown g6 (Nat.le_of_lt M5.o.lt) (fun k e=>by cases e;exact Nat.le_refl _));simp only[kvS,AE]at iW;clear m6 g6;refine bF rfl (fun Kf hKf=>?_);go_simp
       refine hKf.out _ _ ?_;clear hKf;refine bP ?_;clear iW hH XT5 XA5 XG5 M5 BW5 HW5;obtain⟨z0,z1⟩:=XT6.o.two;obtain⟨g0,g1⟩:=XG6.o.two;have hgd:=Eb;by_cases hg:k0=l∧m0=j
       ·obtain⟨rfl,rfl⟩:l=k0∧j=m0:=⟨hg.1.symm,hg.2.symm⟩;have hE:=fun(w':World)=>show(binOp .eql 90 (.agg #[.int .i64 (l:Int),.int .i64 (j:Int)]) (.agg #[.int .i64 (l:Int),.int .i64 (j:Int)])).run Tryz.prog w'=.ok (.bool true) w' by
         rw[Qh];simp
        have ANS:=aA (GOAL.o _ (MIN.o rfl));obtain⟨s0,bk⟩:=AP.o.back;have BK:=aA bk;have XB:=aA (Box.new w17 #[.int .i64 (l:Int),.int .i64 (j:Int)] 90);have bb:=aB w17 (.cells #[.int .i64 (l:Int),.int .i64 (j:Int)] 90);have XA7:=aA (XA6.o.keep bb);have XG7:=aA (XG6.o.keep bb);have M7:=aA (M6.o.keep bb);have BW7:=aA (BW6.o.trans (bb.mono BW6.o.size));have NB7:=aA (show bm<w17.heap.size∧ba<w17.heap.size∧bg<w17.heap.size from⟨M6.o.lt,XA6.o.lt,XG6.o.lt⟩);have OW0:=aA (show oS (w17.alloc (.cells #[.int .i64 (l:Int),.int .i64 (j:Int)] 90)) w17.heap.size (.slice none 0 0) 0 from⟨[],aC.nil⟩);have CST:=aA (AP.o.cost_at);clear hg bk bb MIN XA6 XG6 M6 BW6 HW6 XT6 NE3 NEX BX LM LESS E0 GOAL WAY POS FEW TRN TOK LBL H6 G6 A6;go_wp2
        clear hE hgd z0 z1 g0 g1;generalize w17.alloc (.cells #[.int .i64 (l:Int),.int .i64 (j:Int)] 90)=w18 at *
        generalize w17.heap.size=bs at *
        obtain⟨f2,hf2⟩:∃f2,rI f ((l:Int),(j:Int)) ⟨yc,(ys,ym),yk,yl,yt,true⟩=f2:=⟨_,rfl⟩;rw[hf2]at AP M7 BK CST;clear hf2;obtain⟨dn2,hdn2⟩:∃dn2,((l:Int),(j:Int))::dn=dn2:=⟨_,rfl⟩;rw[hdn2]at AP BK;clear hdn2;obtain⟨go,hgo⟩:∃go:Nat,go=gk:=⟨_,rfl⟩;subst hgo;go_loopg [20,21] s0 (fun gk u v wr=>∃(k b:Nat) (v1 v2:Int),v=.pointer (some ⟨b,0,none⟩)∧Hid (AlB (Ed s.arcs (atI (nM ⟨P,ts⟩)) tr) tr.length nm f2 dn2 (v1,v2) k gk)∧Hid (oS wr bs u k∧(∀kk,u.ownBlock=some kk→kk<b)∧bs≤b)∧Hid (Box wr b 90 #[.int .i64 v1,.int .i64 v2])∧Hid (iF wr bm f2 (q+1))∧Hid (Box wr ba 97 #[.int .i64 P,.slice A n c,.slice U nm cu,.slice V s.arcs.length cv,.slice Q l q0,.map (some bm)])∧Hid (Box wr bg 90 #[.int .i64 (l:Int),.int .i64 (j:Int)])∧Hid (Below w.heap.size w wr))
        case atStart=>exact⟨0,bs,l,j,rfl,BK,aA ⟨OW0.o,fun kk hk=>(by cases hk),Nat.le_refl _⟩,XB,M7,XA7,XG7,BW7⟩
        case round =>
         clear BK XB M7 XA7 XG7 BW7 OW0;obtain⟨k,b,v1,v2,rfl,AB,OW,XB,MB,XAB,XGB,BB⟩:=hrel;have OKV:=aA (show okS (v1,v2) by obtain⟨x,hx⟩:=AB.o.isIn;exact MB.o.1 _ _ hx);obtain⟨z0,z1⟩:=XB.o.two;have hgd:=Eb;by_cases hz:v1=0∧v2=0
         ·obtain⟨rfl,rfl⟩:=hz;have hE:=fun(w':World)=>show(binOp .neq 90 (.agg #[.int .i64 0,.int .i64 0]) (.agg #[.int .i64 0,.int .i64 0])).run Tryz.prog w'=.ok (.bool false) w' by
           rw[Qi];simp
          obtain⟨OA,oc,rfl⟩:=oS.form OW.o.1;go_wp2_with fail
          clear hE hgd z0 z1;refine(xA OW.o.1 (by have:=AB.o.few;omega)).mono ?_;rintro e w21 ⟨⟨yy,rfl⟩,hg⟩;have lo:∀kk,(Value.slice OA k oc).ownBlock=some kk→bs≤kk:=fun kk hk=>(oS.lo OW.o.1 kk hk)
          have XA8:=aA (XAB.o.grown hg (fun e=>by have:=lo _ e;have:=NB7.o;omega));have XG8:=aA (XGB.o.grown hg (fun e=>by have:=lo _ e;have:=NB7.o;omega));have M8:=aA (MB.o.beside hg (fun e=>by have:=lo _ e.symm;have:=NB7.o;omega));have B8:=aA (BB.o.grown hg BB.o.size (fun kk e=>by have:=lo _ e;have:=NB7.o;have:=NMW.o;omega));clear hg lo XB XAB XGB MB BB OW;go_upto_region 30 with fail
          have DR:=aA ((Below.refl w21.heap.size w21).drew);have XA9:=aA (XA8.o.keep DR.o);have XG9:=aA (XG8.o.keep DR.o);have M9:=aA (M8.o.keep DR.o);have B9:=aA (B8.o.trans (DR.o.mono B8.o.size));have a5:=XA9.o.cell 5;simp only[List.getElem?_toArray,List.getElem?_cons_zero,List.getElem?_cons_succ]at a5;obtain⟨g0,g1⟩:=XG9.o.two;obtain⟨⟨zc,⟨zs,zm⟩,zk,zl,zt,zd⟩,hx,hzc⟩:=CST.o;simp only at hzc;subst hzc;have OKG:=aA (M9.o.1 _ _ hx);have HLK:=aA (fun(w':World) (hm:iF w' bm f2 (q+1))=>show(Instr.lookup 95 (.map (some bm)) (.agg #[.int .i64 (l:Int),.int .i64 (j:Int)]) false).run Tryz.prog w'=.ok (.agg #[.int .i64 zc,.int .i64 zs,.int .i64 zm,.int .i64 zk,.int .i64 zl,.int .i64 zt,.bool zd]) w' from by
           have:=hm.at OKG.o;rw[hx]at this;exact this)
          clear hx;refine aF 9 (.takes [0,1,2,3,4,5,6,7,8] (.fin 9 (.fin 10 .done))) (fun w'=>w'.cell? ⟨ba,5,none⟩=some (.map (some bm))∧w'.cell? ⟨bg,0,none⟩=some (.int .i64 (l:Int))∧w'.cell? ⟨bg,1,none⟩=some (.int .i64 (j:Int))∧iF w' bm f2 (q+1)) (by kernel_rfl) (by kernel_rfl) (by kernel_rfl) (fun _ _ _ _ _ h=>h) ⟨a5,g0,g1,M9.o⟩ (fun hH=>?_);simp only[Scr.takes];clear a5 g0 g1;generalize w21.drew=w22 at *
          iterate 6
           refine aH (v:=?_) rfl (by rfl) hH (fun w' hSw=>?_) ?_
           rotate_left
           ·(go_simp;try with_reducible rfl)
           try simp only[Act.put,aL,aM,aN]
          refine aH (v:=?_) rfl (by rfl) hH (fun w' hSw=>?_) ?_
          rotate_left
          ·have hlk:=HLK.o w' hSw.2.2.2;go_simp
           try with_reducible rfl
          try simp only[Act.put,aL,aM,aN]
          have hfd:=Qe zc zs zm zk zl zt zd
          iterate 2
           refine aH (v:=?_) rfl (by rfl) hH (fun w' hSw=>?_) ?_
           rotate_left
           ·(go_simp;try with_reducible rfl)
           try simp only[Act.put,aL,aM,aN]
          refine bF rfl (fun Kf hKf=>?_);go_simp
          refine hKf.out _ _ ?_;clear hKf;try simp only[Act.put,aL,aM,aN]
          refine bF rfl (fun Kf hKf=>?_);go_simp
          refine hKf.out _ _ ?_;clear hKf;try simp only[Act.put,aL,aM,aN]
          refine bP ?_;go_wp2
          go_ret3
          exact⟨OA,k,oc,zc,0,rfl,ANS.o,fun h=>absurd rfl h,B9.o⟩
         ·have hE:=fun(w':World)=>show(binOp .neq 90 (.agg #[.int .i64 v1,.int .i64 v2]) (.agg #[.int .i64 0,.int .i64 0])).run Tryz.prog w'=.ok (.bool true) w' by
           rw[Qi];have:(v1==0&&v2==0)=false:=by
            cases h1:(v1==0) <;> cases h2:(v2==0) <;> simp_all
           rw[this];rfl
          obtain⟨⟨zc,⟨zs,zm⟩,zk,zl,zt,zd⟩,hx,s',hlt,ab⟩:=AP.o.back_next AB.o (fun e=>hz ⟨congrArg Prod.fst e,congrArg Prod.snd e⟩);have AB2:=aA ab;have HLT:=aA hlt;have HLK:=aA (fun(w':World) (hm:iF w' bm f2 (q+1))=>show(Instr.lookup 95 (.map (some bm)) (.agg #[.int .i64 v1,.int .i64 v2]) false).run Tryz.prog w'=.ok (.agg #[.int .i64 zc,.int .i64 zs,.int .i64 zm,.int .i64 zk,.int .i64 zl,.int .i64 zt,.bool zd]) w' from by
           have:=hm.at OKV.o;rw[hx]at this;exact this)
          clear hx hlt ab hz;go_upto_region 26 with fail
          clear hE hgd z0 z1;obtain⟨xs,OWx⟩:=OW.o.1;have DR:=aA ((Below.refl wr.heap.size wr).drew);have OW1:=aA (aC.keep QI.kept OWx DR.o);have OWB:=aA (show ∀kk,u20.ownBlock=some kk→bs≤kk∧kk<b from fun kk hk=>⟨oS.lo OW.o.1 kk hk,OW.o.2.1 kk hk⟩);have LB:=aA (show bs≤b from OW.o.2.2);have XB1:=aA (XB.o.keep DR.o);have XA1:=aA (XAB.o.keep DR.o);have XG1:=aA (XGB.o.keep DR.o);have M1:=aA (MB.o.keep DR.o);have BB1:=aA (BB.o.trans (DR.o.mono BB.o.size));have hk:=AB.o.few;have a5:=XA1.o.cell 5;simp only[List.getElem?_toArray,List.getElem?_cons_zero,List.getElem?_cons_succ]at a5;obtain⟨z0,z1⟩:=XB1.o.two;refine aF 9 (.takes [0,1,2,3,4,5,6,7] (.one 8 (.fin 9 (.fin 10 .done)))) (fun w'=>w'.cell? ⟨ba,5,none⟩=some (.map (some bm))∧w'.cell? ⟨b,0,none⟩=some (.int .i64 v1)∧w'.cell? ⟨b,1,none⟩=some (.int .i64 v2)∧iF w' bm f2 (q+1)) (by kernel_rfl) (by kernel_rfl) (by kernel_rfl) (fun _ _ _ _ _ h=>h) ⟨a5,z0,z1,M1.o⟩ (fun hH=>?_);simp only[Scr.takes];clear a5 z0 z1 OWx OW XB XAB XGB MB BB DR;generalize wr.drew=y1 at *
          iterate 6
           refine aH (v:=?_) rfl (by rfl) hH (fun w' hSw=>?_) ?_
           rotate_left
           ·(go_simp;try with_reducible rfl)
           try simp only[Act.put,aL,aM,aN]
          refine aH (v:=?_) rfl (by rfl) hH (fun w' hSw=>?_) ?_
          rotate_left
          ·have hlk:=HLK.o w' hSw.2.2.2;go_simp
           try with_reducible rfl
          try simp only[Act.put,aL,aM,aN]
          have hfd:=Qg zc zs zm zk zl zt zd;refine aH (v:=?_) rfl (by rfl) hH (fun w' hSw=>?_) ?_
          rotate_left
          ·(go_simp;try with_reducible rfl)
          try simp only[Act.put,aL,aM,aN]
          clear hfd;have bz:=aA (aB y1 (.cells #[.int .i64 zk,.int .i64 zl,.int .i64 zt] 92));have a5:=(XA1.o.keep bz.o).cell 5;simp only[List.getElem?_toArray,List.getElem?_cons_zero,List.getElem?_cons_succ]at a5;refine bI rfl (fun Kf hKf=>?_);go_simp
          refine hKf.out _ _ ⟨a5,(XB1.o.keep bz.o).two.1,(XB1.o.keep bz.o).two.2,M1.o.keep bz.o⟩ (fun hH=>?_);clear hKf a5 bz;try simp only[Act.put,aL,aM,aN]
          have LY:=aA (show bs≤y1.heap.size by have:=XB1.o.lt;have:=LB.o;omega);refine bF rfl (fun Kf hKf=>?_);refine jD (w0:=y1) Wp rfl (.tmp 99) (.tmp 107) rfl [()] #[.int .i64 zk,.int .i64 zl,.int .i64 zt] rfl rfl (by first|rfl|simp) rfl rfl (by omega) (by simp[Value.oneCell']) OW1.o (QI.reads _ _ _ _) rfl (Below.refl bs y1) LY.o (by omega) (by omega) (fun w' _ vs y h=>h) ?_;intro g cap wz ownz hgz hbz hBg hgl;have OWZ:=aA ownz;have XBZ:=aA (XB1.o.grown hgz (fun e=>by have:=OWB.o _ e;omega));have XAZ:=aA (XA1.o.grown hgz (fun e=>by have:=OWB.o _ e;have:=NB7.o;omega));have XGZ:=aA (XG1.o.grown hgz (fun e=>by have:=OWB.o _ e;have:=NB7.o;omega));have MZ:=aA (M1.o.beside hgz (fun e=>by have:=OWB.o _ e.symm;have:=NB7.o;omega));have BZ:=aA (BB1.o.grown hgz BB1.o.size (fun kk e=>by have:=OWB.o _ e;have:=NB7.o;have:=NMW.o;omega));have GZ:=aA (show bs≤g∧g<wz.heap.size from⟨hBg,hgl⟩);clear ownz hgz hbz hBg hgl OW1 XB1 XA1 XG1 M1 BB1 OWB;refine hKf.out _ _ ?_;clear hKf;try simp only[Act.put,aL,aM,aN]
          refine bF rfl (fun Kf hKf=>?_);go_simp
          refine hKf.out _ _ ?_;clear hKf;try simp only[Act.put,aL,aM,aN]
          refine bP ?_;clear hH;obtain⟨z0,z1⟩:=XBZ.o.two;go_upto_region 25 with fail
          clear z0 z1;have XN:=aA (Box.new wz #[.int .i64 v1,.int .i64 v2] 90);have bb:=aB wz (.cells #[.int .i64 v1,.int .i64 v2] 90);have XA2:=aA (XAZ.o.keep bb);have XG2:=aA (XGZ.o.keep bb);have M2:=aA (MZ.o.keep bb);have B2:=aA (BZ.o.trans (bb.mono BZ.o.size));have OW2:=aA (aC.keep QI.kept OWZ.o bb);have GW:=aA BZ.o.size;clear bb XBZ XAZ XGZ MZ BZ OWZ;generalize wz.alloc (.cells #[.int .i64 v1,.int .i64 v2] 90)=y2 at *
          generalize wz.heap.size=bn at *
          have DR:=aA ((Below.refl y2.heap.size y2).drew);have XN3:=aA (XN.o.keep DR.o);have XA3:=aA (XA2.o.keep DR.o);have XG3:=aA (XG2.o.keep DR.o);have M3:=aA (M2.o.keep DR.o);have B3:=aA (B2.o.trans (DR.o.mono B2.o.size));have OW3:=aA (aC.keep QI.kept OW2.o DR.o);have a5:=XA3.o.cell 5;simp only[List.getElem?_toArray,List.getElem?_cons_zero,List.getElem?_cons_succ]at a5;obtain⟨z0,z1⟩:=XN3.o.two;refine aF 7 (.takes [0,1,2,3,4,5,6] (.fin 7 .done)) (fun w'=>w'.cell? ⟨ba,5,none⟩=some (.map (some bm))∧w'.cell? ⟨bn,0,none⟩=some (.int .i64 v1)∧w'.cell? ⟨bn,1,none⟩=some (.int .i64 v2)∧iF w' bm f2 (q+1)) (by kernel_rfl) (by kernel_rfl) (by kernel_rfl) (fun _ _ _ _ _ h=>h) ⟨a5,z0,z1,M3.o⟩ (fun hH=>?_);simp only[Scr.takes];clear a5 z0 z1 XN XA2 XG2 M2 B2 OW2 DR;generalize y2.drew=y3 at *
          iterate 5
           refine aH (v:=?_) rfl (by rfl) hH (fun w' hSw=>?_) ?_
           rotate_left
           ·(go_simp;try with_reducible rfl)
           try simp only[Act.put,aL,aM,aN]
          refine aH (v:=?_) rfl (by rfl) hH (fun w' hSw=>?_) ?_
          rotate_left
          ·have hlk:=HLK.o w' hSw.2.2.2;go_simp
           try with_reducible rfl
          try simp only[Act.put,aL,aM,aN]
          have hfd:=Qf zc zs zm zk zl zt zd;refine aH (v:=?_) rfl (by rfl) hH (fun w' hSw=>?_) ?_
          rotate_left
          ·(go_simp;try with_reducible rfl)
          try simp only[Act.put,aL,aM,aN]
          clear hfd;obtain⟨z0,z1⟩:=XN3.o.two;have n0:=XN3.o.frozen 0;have n1:=XN3.o.frozen 1;have g4:=rX y3 bn (.int .i64 zs) (.int .i64 zm);have XN4:=aA (XN3.o.set2 (.int .i64 zs) (.int .i64 zm));have NE:=aA (show ba≠bn∧bg≠bn∧bm≠bn∧g≠bn∧bs≤bn∧g<bn by have:=NB7.o;have:=GZ.o;omega);have XA4:=aA (XA3.o.grown g4 (by simp;exact fun e=>NE.o.1 e.symm));have XG4:=aA (XG3.o.grown g4 (by simp;exact fun e=>NE.o.2.1 e.symm));have M4:=aA (M3.o.beside g4 (by simp;exact NE.o.2.2.1));have B4:=aA (B3.o.grown g4 B3.o.size (fun kk e=>by cases e;exact GW.o));have OW4:=aA (aC.kept OW3.o g4 (.inr (by simp[Value.ownBlock];exact NE.o.2.2.2.1)) (fun vs x h=>h));clear g4;refine bF rfl (fun Kf hKf=>?_);go_simp
          refine hKf.out _ _ ?_;clear hKf;try simp only[Act.put,aL,aM,aN]
          refine bP ?_;clear hH n0 n1 z0 z1 XN3 XA3 XG3 M3 B3 OW3;go_wp2
          go_roundg s'
          case measure=>exact HLT.o
          case rel=>exact⟨k+1,bn,zs,zm,rfl,AB2,aA ⟨⟨_,OW4.o⟩,fun kk hk=>(by injection hk with hk;rw[←hk];exact NE.o.2.2.2.2.2),NE.o.2.2.2.2.1⟩,XN4,M4,XA4,XG4,B4⟩
       ·have hE:=fun(w':World)=>show(binOp .eql 90 (.agg #[.int .i64 (k0:Int),.int .i64 (m0:Int)]) (.agg #[.int .i64 (l:Int),.int .i64 (j:Int)])).run Tryz.prog w'=.ok (.bool false) w' by
         rw[Qh];have:((k0:Int)==(l:Int)&&(m0:Int)==(j:Int))=false:=by
          cases h1:((k0:Int)==(l:Int)) <;> cases h2:((m0:Int)==(j:Int)) <;> simp_all <;> omega
         rw[this]
        have NG:=aA (show((l:Int),(j:Int))≠(((k0:Int),(m0:Int)):Sp)from fun e=>hg ⟨by have:=congrArg Prod.fst e;simp only at this;omega,by have:=congrArg Prod.snd e;simp only at this;omega⟩);clear hg;go_wp2_with fail
        clear hE hgd z0 z1 g0 g1;have hl60':l≤60:=by omega
        refine(Hh (wP:=w6) XA6.o M6.o (by rw[hbm];exact HW6.o) (by rw[hbm];exact Nat.le_refl _) NMA.o.1 H6.o A6.o G6.o TOK.o TRN.o LBL.o hnm3 hl60' FEW.o AP.o.inU AP.o.dl AP.o.few ⟨AP.o.c0.1,AP.o.c0.2.2⟩ AP.o.cost AP.o.c0.2.1).mono ?_;rintro e w18 ⟨⟨yy,rfl⟩,f',q',m7,hq7,d7,g7,c7⟩;have AI7:=aA (AP.o.next NG.o d7 (fun v d h=>h) hq7 c7);have M7:=aA m7;have XA7:=aA (XA6.o.grown g7 (by simp;exact NMA.o.1));have XG7:=aA (XG6.o.grown g7 (by simp;exact NMA.o.2));have BW7:=aA (BW6.o.grown g7 BW6.o.size (fun k e=>by cases e;exact NMW.o));have HW7:=aA (HW6.o.grown g7 (Nat.le_of_lt M6.o.lt) (fun k e=>by cases e;exact Nat.le_refl _));clear m7 hq7 d7 g7 c7 XA6 XG6 M6 BW6 HW6 XT6;go_wp2
        go_roundg (JL tr.length nm (((k0:Int),(m0:Int))::dn))
        case measure=>rw[←LESS.o];exact AP.o.less
        case rel=>exact⟨f',_,q',aA ⟨AI7.o,rfl⟩,M7,XA7,XG7,BW7,HW7⟩
  ·have CP:=aA (Dj (tr:=tr) HR.o hk0);have hkb:(k==0)=false:=by simpa using hk0
   go_wp2
   go_ret3
   exact⟨none,0,0,0,k,rfl,CP.o,fun _=>rfl,B4.o⟩
 ·have RW:=aA (TW.o hs0);have CP:=aA (Dj (tr:=tr) (HR.o.trans RW.o) hs0);have hsb:(sw==0)=false:=by simpa using hs0
  go_upto_region 2 with(go_at_call 24;((with_reducible refine CW.o.mono ?_);rintro e w1 ⟨rfl,hb1⟩;have B1:=aA hb1;clear hb1))
  go_wp2
  go_ret3
  exact⟨none,0,0,0,sw,rfl,CP.o,fun _=>rfl,HB.o.trans (B1.o.mono HB.o.size)⟩
end Go.Proofs.YtfmnagcglhlicaaGreat
