/- Texts melted into one: The contract of Align. Conditions: the net and the trace read as lists. | bench.Tell: what it answers. Conditions: the text is not too long. -/
import Derived.Test.YtgnljpnlolkalaaGreatBenchTellsK19
import Derived.Test.YtgnljpnlolkalaaGreatBenchTellsK13
set_option linter.all false
set_option maxRecDepth 100000
set_option maxHeartbeats 16000000
namespace Go.Proofs.YtgnljpnlolkalaaGreat
open Go.RowKit Go.Maps
def Vz (N:eB)(i o:Int)(tr:LIn)(w:World)(e:Ending)(w':World):Prop :=
 ∃A n c a k,e=.returned (.tuple #[.slice A n c,.int .i64 a,.int .i64 k])/\q6 N i o tr a k/\(k≠0->n=0)/\Below w.heap.size w w'
def LC {w:World}{P:Int}{A Q:OAd}{n c l q0:Nat}{ts:List bG}{tr:LIn}(i o:Int)(h:eC w A n c ts)(hn:n<=2513169434916)(g:aY w Q l q0 tr) :
  Calls Tryz.prog 13 #[.agg #[P,.slice A n c],i,o,.slice Q l q0] w (Vz ⟨P,ts⟩ i o tr w):=by
 generalize hw:(w.alloc (.cells #[P,.slice A n c] 41)).alloc (.cells #[o] 3)=w0;have HB:=aA (show Below w w w0 by rw[<-hw];exact((aH _ _).alloc (aB _) _).alloc (by simp) _);have X0:=aA (show Box w0 w 41 #[P,.slice A n c] by rw[<-hw];exact(Box.new _ _ _).old _);have X1:=aA (show Box w0 (w.heap.size+1) 3 #[o] by rw[<-hw];exact Box.newAt (by simp) _ _);have G:=aA (g.keep HB.o);have GL:=aA g.len;have H:=aA (h.keep HB.o);have CW:=aA (qW (P:=P) i o H.o hn);have TW:=aA (As (N:=⟨P,ts⟩) (i:=i) (o:=o));have TG:=aA (Av (N:=⟨P,ts⟩) (i:=i) (o:=o));have S2:=aA (λhs=>pL (N:=⟨P,ts⟩) (i:=i) (o:=o) hs);have TL:=aA (show ts.length=n from h.len);clear h g;obtain⟨R,hR⟩:=aK (pO ⟨P,ts⟩ i o);have HR:=aA hR;rw[hR]at TW TG;clear hR;obtain⟨sw,m3⟩:=aK (eE ⟨P,ts⟩ i o);rw[m3]at TW TG CW S2;clear m3;go_enter Tryz.func13,Tryz.ntmps13
 go_upto_region 1 with fail
 clear hw;obtain⟨a0,a1⟩:=X0.o.two;have b0:=X1.o.cell 0;simp only[aP,aQ]at b0;by_cases f0:sw=0
 .subst f0;obtain⟨p2,m4⟩:=S2.o rfl;go_upto_region 4 with(go_at_call 30;go_loud ((with_reducible refine CW.o.mono ?_);rintro e w1 ⟨rfl,d5⟩;have B1:=aA d5;clear d5))
  have K:=aA (X0.o.keep B1.o).drew;have W1:=aA (X1.o.keep B1.o).drew;have G1:=aA ((G.o.keep B1.o).keep (show Below w1 w1 w1.drew from⟨rfl,rfl,rfl,aB _,λ_ _=>rfl⟩));have BZ:=aA (HB.o.trans (B1.o.mono HB.o.size)).drew;have H1:=aA (Jm (H.o.keep B1.o));obtain⟨pn,f1⟩:=aK ((min P 16).toNat);have j0:=aA f1;obtain⟨g,X⟩:=aK (eD ⟨P,ts⟩ (lX pn i) 300);have A8:P<=16:=((bN _).1 m4).2.1;have A9:n<=24:=by
   have h3:ts.length<=24:=((bN _).1 m4).2.2.1;have:=TL.o;omega
  have B0:2<=pn:=by omega
  have TR:=aA (show R=g by have:=TG.o (by trivial);simp only[f1,X]at this;exact this);have EL:=aA (show Cb ⟨P,ts⟩ o=lX pn o by unfold Cb;rw[f1]);have j1:=aA (λ(he:g.2≠0)=>show g.1=PSp.nil by rw[<-X];exact o0 (by rw[X];exact he));have f3:=aA (λ(he:g.2=0)=>show tD ⟨P,ts⟩ (300:Int).toNat g.1 by rw[<-X];exact(kN (by rw[X];exact he)).2);have m5:=aA (λ(he:g.2=0)=>show g.1.arcs.length<=7200 by rw[<-X];exact qR (by rw[X];exact he));have CG:=aA (λ(w':World) (C:OAd) (kc:Nat) (I:Below w1.drew w1.drew w') (hi:aY w' C pn kc (lX pn i))=>show Calls _ _ _ _ (qH g w') by rw[<-X];exact zL (P:=P) 300 (H1.o.keep I) hi);have b6:=aA (aH w1.drew w1.drew);have ML:=aA (show ∀x∈g.1.marks,2<=x.length from λx W=>by
   by_cases he:g.2=0
   .have:=((cR _ _).1 ((f3.o he).fits x W)).2.1;simp only at this;omega
   rw[j1.o he]at W;cases W)
  clear X f1 TW TG S2 X0 X1 G HB H B1 a0 a1 b0;obtain⟨s,k⟩:=g;simp only at j1 f3 ML m5;obtain rfl:R=(s,k):=TR.o;clear TR;obtain⟨a0,a1⟩:=K.o.two;refine aN 10 (.takes [0,1,2] (.two 3 (.two 4 (.takes [5,6,7] (.one 8 (.one 9 (.fin 10 .done)))) 8 (.one 4 (.takes [5,6,7] (.one 9 (.fin 10 .done))))) 8 (.one 3 (.one 4 (.takes [5,6,7] (.one 9 (.fin 10 .done))))))) (λw'=>w'.cell? w=some (.int .i64 P)/\w'.cell? ⟨w,1,none⟩=some (.slice A n c)) (by kernel_rfl) (by kernel_rfl) (by kernel_rfl) (λ_ _ _ _ _ h=>h) ⟨a0,a1⟩ (λr=>?_);simp only[Scr.takes];generalize w1.drew=u0 at *
  iterate 3
   refine aM (v:=?_) rfl (by rfl) r (λw' z=>?_) ?_
   rotate_left
   ·(go_simp;try with_reducible rfl)
   try simp only[aC]
  refine DY (.fin 10 .done) (λa0 a' w'=>∃(C:OAd) (kc:Nat) (U:OAd) (M:Nat) (V:OAd) (cv d6:Nat),a'=((((((a0.put (some 33) (.slice C pn kc)).put (some 34) (.tuple #[.agg #[.slice U s.marks.length M,.slice V s.arcs.length cv],k])).put (some 29) (.tuple #[.agg #[.slice U s.marks.length M,.slice V s.arcs.length cv],k])).put (some 35) (.agg #[.slice U s.marks.length M,.slice V s.arcs.length cv])).put (some 36) k).put (some 12) (.pointer d6))/\Hid (Box w' d6 78 #[.slice U s.marks.length M,.slice V s.arcs.length cv])/\Hid (cQ w' U s.marks.length M s.marks)/\Hid (qD w' V s.arcs.length cv s.arcs)/\Hid (Below u0 u0 w')) ?_ (λEN=>?_)
  rotate_left
  .refine mN rfl rfl (λO m=>?_) (λO m=>?_)
   rotate_left
   .go_simp
    have J:=aA (show Below u0 u0 (u0.alloc (.cells #[(),()] 78))from b6.o.alloc b6.o.size _);have v5:=aA (show Box (u0.alloc (.cells #[(),()] 78)) u0 78 #[(),()]from Box.new _ _ _);have v6:=aA (show u0.heap.size<=u0.heap.size from b6.o.size);refine m.out _ _ ⟨(K.o.keep J.o).two.1,(K.o.keep J.o).two.2⟩ (λr=>?_);clear m;try simp only[aC]
    generalize u0.alloc (.cells #[(),()] 78)=u1 at *
    refine bK rfl (λO m=>?_);go_simp;go_at_call 32
    (with_reducible refine(kP u1 P i A n c).mono ?_)
    rw[j0.o];rintro e u2 ⟨C,kc,rfl,hi,I,_⟩;have j2:=aA hi;have k1:=aA (v5.o.keep I);have D:=aA (J.o.trans (I.mono J.o.size));clear hi I;refine m.out _ _ ⟨(K.o.keep D.o).two.1,(K.o.keep D.o).two.2⟩ (λr=>?_);clear m;try simp only[aC]
    refine bK rfl (λO m=>?_);go_simp;go_at_call 31
    (with_reducible refine(CG.o u2 _ _ D.o j2.o).mono ?_)
    rintro e u3 ⟨U,M,V,cv,rfl,hL,hA,I⟩;have e0:=aA hL;have e1:=aA hA;have B:=aA (k1.o.keep I);have S:=aA (D.o.trans (I.mono D.o.size));clear hL hA I;refine m.out _ _ ⟨(K.o.keep S.o).two.1,(K.o.keep S.o).two.2⟩ (λr=>?_);clear m
    iterate 3
     refine aM (v:=?_) rfl (by rfl) r (λw' z=>?_) ?_
     rotate_left
     ·(go_simp;try with_reducible rfl)
     try simp only[aC]
    refine bK rfl (λO m=>?_);obtain⟨s0,s1⟩:=B.o.two;have n5:=B.o.frozen 0;have n6:=B.o.frozen 1;go_simp
    have BE:=aA (cX S.o (aB _) v6.o (.slice U s.marks.length M) (.slice V s.arcs.length cv));refine m.out _ _ ⟨(K.o.keep BE.o).two.1,(K.o.keep BE.o).two.2⟩ (λr=>?_);clear m;try simp only[aC]
    exact EN.o _ _ ⟨C,kc,U,M,V,cv,u0.heap.size,rfl,aA (B.o.set2 _ _),aA (cQ.besideZ e0.o ML.o B.o _ _),aA (qD.besideZ e1.o B.o _ _),BE⟩ r
   go_simp;go_at_call 32
   (with_reducible refine(kP u0 P i A n c).mono ?_)
   rw[j0.o];rintro e u1 ⟨C,kc,rfl,hi,I,_⟩;have n7:=aA hi;have J:=aA (b6.o.trans (I.mono b6.o.size));clear hi I;refine m.out _ _ ⟨(K.o.keep J.o).two.1,(K.o.keep J.o).two.2⟩ (λr=>?_);clear m;try simp only[aC]
   refine mN rfl rfl (λO m=>?_) (λO m=>?_)
   .go_simp;go_at_call 31
    (with_reducible refine(CG.o u1 _ _ J.o n7.o).mono ?_)
    rintro e u2 ⟨U,M,V,cv,rfl,hL,hA,I⟩;have v7:=aA hL;have v8:=aA hA;have D:=aA (J.o.trans (I.mono J.o.size));clear hL hA I;refine m.out _ _ ⟨(K.o.keep D.o).two.1,(K.o.keep D.o).two.2⟩ (λr=>?_);clear m
    iterate 3
     refine aM (v:=?_) rfl (by rfl) r (λw' z=>?_) ?_
     rotate_left
     ·(go_simp;try with_reducible rfl)
     try simp only[aC]
    refine bK rfl (λO m=>?_);go_simp
    have S:=aA (show Below u0 u0 (u2.alloc (.cells #[(),()] 78))from D.o.alloc D.o.size _);have B:=aA (show Box (u2.alloc (.cells #[(),()] 78)) u2 78 #[(),()]from Box.new _ _ _);have v9:=aA (show u0.heap.size<=u2.heap.size from D.o.size);have e0:=aA (Sl.keep cS.kept v7.o ((aH u2 u2).alloc (aB _) (.cells #[(),()] 78)));have e1:=aA (Sl.keep qC.kept v8.o ((aH u2 u2).alloc (aB _) (.cells #[(),()] 78)));refine m.out _ _ ⟨(K.o.keep S.o).two.1,(K.o.keep S.o).two.2⟩ (λr=>?_);clear m;try simp only[aC]
    generalize u2.alloc (.cells #[(),()] 78)=u3 at *
    refine bK rfl (λO m=>?_);obtain⟨s0,s1⟩:=B.o.two;have n5:=B.o.frozen 0;have n6:=B.o.frozen 1;go_simp
    have BE:=aA (cX S.o (aB _) v9.o (.slice U s.marks.length M) (.slice V s.arcs.length cv));refine m.out _ _ ⟨(K.o.keep BE.o).two.1,(K.o.keep BE.o).two.2⟩ (λr=>?_);clear m;try simp only[aC]
    exact EN.o _ _ ⟨C,kc,U,M,V,cv,u2.heap.size,rfl,aA (B.o.set2 _ _),aA (cQ.besideZ e0.o ML.o B.o _ _),aA (qD.besideZ e1.o B.o _ _),BE⟩ r
   go_simp
   have D:=aA (show Below u0 u0 (u1.alloc (.cells #[(),()] 78))from J.o.alloc J.o.size _);have k1:=aA (show Box (u1.alloc (.cells #[(),()] 78)) u1 78 #[(),()]from Box.new _ _ _);have w2:=aA (show u0.heap.size<=u1.heap.size from J.o.size);have j2:=aA (Sl.keep fG.kept n7.o ((aH u1 u1).alloc (aB _) (.cells #[(),()] 78)));refine m.out _ _ ⟨(K.o.keep D.o).two.1,(K.o.keep D.o).two.2⟩ (λr=>?_);clear m;try simp only[aC]
   generalize u1.alloc (.cells #[(),()] 78)=u2 at *
   refine bK rfl (λO m=>?_);go_simp;go_at_call 31
   (with_reducible refine(CG.o u2 _ _ D.o j2.o).mono ?_)
   rintro e u3 ⟨U,M,V,cv,rfl,hL,hA,I⟩;have e0:=aA hL;have e1:=aA hA;have B:=aA (k1.o.keep I);have S:=aA (D.o.trans (I.mono D.o.size));clear hL hA I;refine m.out _ _ ⟨(K.o.keep S.o).two.1,(K.o.keep S.o).two.2⟩ (λr=>?_);clear m
   iterate 3
    refine aM (v:=?_) rfl (by rfl) r (λw' z=>?_) ?_
    rotate_left
    ·(go_simp;try with_reducible rfl)
    try simp only[aC]
   refine bK rfl (λO m=>?_);obtain⟨s0,s1⟩:=B.o.two;have n5:=B.o.frozen 0;have n6:=B.o.frozen 1;go_simp
   have BE:=aA (cX S.o (aB _) w2.o (.slice U s.marks.length M) (.slice V s.arcs.length cv));refine m.out _ _ ⟨(K.o.keep BE.o).two.1,(K.o.keep BE.o).two.2⟩ (λr=>?_);clear m;try simp only[aC]
   exact EN.o _ _ ⟨C,kc,U,M,V,cv,u1.heap.size,rfl,aA (B.o.set2 _ _),aA (cQ.besideZ e0.o ML.o B.o _ _),aA (qD.besideZ e1.o B.o _ _),BE⟩ r
  rintro a' w4 ⟨C,kc,U,M,V,cv,d6,rfl,SX,SL,SA,SB⟩ r;try simp only[aC]
  refine cH rfl (λO m=>?_);go_simp
  refine m.out _ _ ?_;clear m;try simp only[aC]
  refine cE ?_;clear r a0 a1;have Z0:=aA (K.o.keep SB.o);have H4:=aA (H1.o.keep SB.o);have B4:=aA (BZ.o.trans (SB.o.mono BZ.o.size));have Z1:=aA (W1.o.keep SB.o);have G4:=aA (G1.o.keep SB.o);clear K W1 G1 H1 BZ SB CG b6 CW;by_cases k2:k=0
  rotate_left
  .have CP:=aA (Az (tr:=tr) HR.o k2);have B7:(k==0)=false:=by simpa using k2
   go_wp2
   go_ret3
   exact⟨none,0,0,0,k,rfl,CP.o,λ_=>rfl,B4.o⟩
  subst k2;by_cases e2:60<l
  .have k3:(60:Int)<(l:Int):=by omega
   have CP:=aA (Ek HR.o (by rw[GL.o];exact e2));go_wp2
   go_ret3
   exact⟨none,0,0,0,2,rfl,CP.o,λ_=>rfl,B4.o⟩
  have k3:¬(60:Int)<(l:Int):=by omega
  have SO:=aA (f3.o rfl);have T:=aA (N7 HR.o);have Y:=aA (show Calls Tryz.prog 38 #[.slice U s.marks.length M,.func (.func 39) #[] #[.pointer w,.pointer (some ⟨w.heap.size+1,0,none⟩)]] w4 (λe w'=>e=.returned (.int .i64 (toV (eH s.marks (Cb ⟨P,ts⟩ o))))/\Below w4 w4 w')from by
   have:=yA SL.o (Vr (ts:=ts) Z0.o Z1.o);rw[Qo]at this;exact this)
  have n9:=SO.o.few;obtain⟨nm,k4⟩:=aK (s.marks.length);have o1:=aA k4;rw[k4]at Y SX SL n9;clear k4;obtain⟨s0,s1⟩:=SX.o.two;have CN:=aA (λhf=>Em (tr:=tr) HR.o (by rw[GL.o];exact e2) hf);cases hf:eH s.marks (Cb ⟨P,ts⟩ o) with
  | none =>
   have CP:=aA (CN.o hf);rw[hf]at Y;replace Y:=aA (show Calls Tryz.prog 38 #[.slice U nm M,.func (.func 39) #[] #[.pointer w,.pointer (some ⟨w.heap.size+1,0,none⟩)]] w4 (λe w'=>e=.returned (.int .i64 (-1))/\Below w4 w4 w')from Y.o)
   clear hf;go_wp2_with fail
   refine Y.o.mono ?_;rintro e w5 ⟨rfl,Z⟩;have B5:=aA (B4.o.trans (Z.mono B4.o.size));clear Z s0 s1;go_wp2
   go_ret3
   exact⟨none,0,0,0,3,rfl,CP.o,λ_=>rfl,B5.o⟩
  | some j =>
   have CP:=aA (λ(cc:Int) hm=>En (c:=cc) HR.o (by rw[GL.o];exact e2) hf hm);rw[hf]at Y;replace Y:=aA (show Calls Tryz.prog 38 #[.slice U nm M,.func (.func 39) #[] #[.pointer w,.pointer (some ⟨w.heap.size+1,0,none⟩)]] w4 (λe w'=>e=.returned (.int .i64 (j:Int))/\Below w4 w4 w')from Y.o)
   have HJ:=aA (aR.1 (kM hf)).1;have C0:¬(j:Int)<0:=by omega
   clear hf;go_wp2_with fail
   refine Y.o.mono ?_;rintro e w5 ⟨rfl,Z⟩;have B5:=aA (B4.o.trans (Z.mono B4.o.size));have Y5:=aA (Z0.o.keep Z);have S5:=aA (SX.o.keep Z);have H5:=aA (H4.o.keep Z);have G5:=aA (G4.o.keep Z);have A5:=aA (Sl.keep qC.kept SA.o Z);clear Z s0 s1;go_upto_region 12 with fail
   have f4:=aA (show ∀a∈s.arcs,0<=atI (jU ⟨P,ts⟩) a.tran from T.o.label);have o2:=aA (show ∀a∈s.arcs,Inn nm a.to_ from by rw[<-o1.o];exact T.o.to_);have o3:=aA (show ∀a∈s.arcs,Inn n a.tran from by rw[<-TL.o];exact T.o.tran);have o4:=aA (show s.arcs.length<=7200 from T.o.few);have o5:=aA (show 0<nm by rw[<-o1.o];exact T.o.pos);have o6:=aA (show ∃cc,Wk (Ed s.arcs (atI (jU ⟨P,ts⟩)) tr) ((l:Int),(j:Int)) cc from by
    obtain⟨cc,hc,_⟩:=Wk.marks (tr:=tr) SO.o f4.o j j (aB _) HJ.o;exact⟨cc,by rw[<-GL.o];exact hc⟩)
   have E0:=aA (show ∀u v cc,(Ed s.arcs (atI (jU ⟨P,ts⟩)) tr) u v cc->0<=cc from λu v cc h=>(h.low f4.o).1);have h9:=aA (show ∀cc,Gm (Ed s.arcs (atI (jU ⟨P,ts⟩)) tr) ((l:Int),(j:Int)) cc->q6 ⟨P,ts⟩ i o tr cc 0 from λcc hm=>CP.o cc (by rw[GL.o];exact hm));have i0:nm<=300:=n9;have t:=aA ((aH w5 w5).drew);have Y6:=aA (Y5.o.keep t.o);have S6:=aA (S5.o.keep t.o);have H6:=aA (H5.o.keep t.o);have G6:=aA (G5.o.keep t.o);have A6:=aA (Sl.keep qC.kept A5.o t.o);have B6:=aA (B5.o.trans (t.o.mono B5.o.size));obtain⟨a0,a1⟩:=Y6.o.two;obtain⟨s0,s1⟩:=S6.o.two;refine aN 10 (.takes [0,1,2,4,5] (.one 3 (.one 6 (.takes [7,8] (.one 9 (.fin 10 .done)))))) (λw'=>(w'.cell? w=some (.int .i64 P)/\w'.cell? ⟨w,1,none⟩=some (.slice A n c))/\w'.cell? d6=some (.slice U nm M)/\w'.cell? ⟨d6,1,none⟩=some (.slice V s.arcs.length cv)) (by kernel_rfl) (by kernel_rfl) (by kernel_rfl) (λ_ _ _ _ _ h=>h) ⟨⟨a0,a1⟩,s0,s1⟩ (λr=>?_);simp only[Scr.takes];clear a0 a1 s0 s1 Y5 S5 H5 G5 A5 t B5 CP SO T Z0 Z1 H4 G4 SA SL SX Y CN j1 f3 ML m5 B4 EL j0;generalize w5.drew=w6 at *
   iterate 5
    refine aM (v:=?_) rfl (by rfl) r (λw' z=>?_) ?_
    rotate_left
    ·(go_simp;try with_reducible rfl)
    try simp only[aC]
   have b7:=aA (show Below w6 w6 (w6.alloc (.map #[] 0))from(aH _ _).alloc (aB _) _);have M7:=aA (lM.made w6);have w3:=@run_makeMap Tryz.prog;refine bK rfl (λO m=>?_);go_simp
   refine m.out _ _ ⟨(Y6.o.keep b7.o).two,(S6.o.keep b7.o).two⟩ (λr=>?_);clear m w3;try simp only[aC]
   obtain⟨w8,a9,m8,g8⟩:=M7.o.update (v:=(0,0)) ⟨by simp,by simp⟩ oD (by simp[maxLen]);have M8:=aA (show lM w8 w6 Ar 1 from m8);have b8:=aA (show Below w6 w6 w8 from b7.o.grown g8 (by simp) (λk e=>by cases e;exact aB _));simp only[kvS,Gz,oD]at a9;clear m8 g8;refine bK rfl (λO m=>?_);go_simp
   refine m.out _ _ ⟨(Y6.o.keep b8.o).two,(S6.o.keep b8.o).two⟩ (λr=>?_);clear m a9;try simp only[aC]
   iterate 2
    refine aM (v:=?_) rfl (by rfl) r (λw' z=>?_) ?_
    rotate_left
    ·(go_simp;try with_reducible rfl)
    try simp only[aC]
   generalize b3:w6.heap.size=bm at *
   have XA:=aA (Box.new w8 #[P,.slice A n c,.slice U nm M,.slice V s.arcs.length cv,.slice Q l q0,.map (some bm)] 97);have M9:=aA (M8.o.alloc (.cells #[P,.slice A n c,.slice U nm M,.slice V s.arcs.length cv,.slice Q l q0,.map (some bm)] 97));have b9:=aA (b8.o.alloc (by rw[<-b3];exact b8.o.size) (.cells #[P,.slice A n c,.slice U nm M,.slice V s.arcs.length cv,.slice Q l q0,.map (some bm)] 97));have L9:=aA (show bm<w8.heap.size from M8.o.lt);refine bK rfl (λO m=>?_);go_simp
   refine m.out _ _ ⟨(Y6.o.keepB b9.o (by rw[<-b3];exact Y6.o.lt)).two,(S6.o.keepB b9.o (by rw[<-b3];exact S6.o.lt)).two⟩ (λr=>?_);clear m;try simp only[aC]
   refine cH rfl (λO m=>?_);go_simp
   refine m.out _ _ ?_;clear m;try simp only[aC]
   refine cE ?_;clear r b7 b8 M7 M8 Y6 S6;generalize w8.alloc (.cells #[P,.slice A n c,.slice U nm M,.slice V s.arcs.length cv,.slice Q l q0,.map (some bm)] 97)=w9 at *
   generalize w8.heap.size=ba at *
   go_upto_region 13 with fail
   have XG:=aA (Box.new w9 #[.int .i64 (l:Int),.int .i64 (j:Int)] 90);have F:=aF w9 (.cells #[.int .i64 (l:Int),.int .i64 (j:Int)] 90);have a2:=aA (XA.o.keep F);have o7:=aA (M9.o.keep F);have k5:=aA (b9.o.trans (F.mono (by rw[<-b3];exact b9.o.size)));have o8:=aA (show Below w w (w9.alloc (.cells #[.int .i64 (l:Int),.int .i64 (j:Int)] 90))from B6.o.trans ((show Below w6 w6 _ from by rw[b3];exact k5.o).mono B6.o.size));have LG:=aA (show ba<w9.heap.size from XA.o.lt);have e3:=aA (show bm≠ba/\bm≠w9.heap.size by have:=L9.o;have:=LG.o;omega);have f5:=aA (show w.heap.size<=bm by rw[<-b3];exact B6.o.size);clear F XA M9 b9;go_wp2
   generalize w9.alloc (.cells #[.int .i64 (l:Int),.int .i64 (j:Int)] 90)=C1 at *
   generalize w9.heap.size=bg at *
   have o9:=aA (AlI.start (E:=(Ed s.arcs (atI (jU ⟨P,ts⟩)) tr)) (L:=tr.length) (n:=nm) (g:=((l:Int),(j:Int))) o5.o i0 (by rw[GL.o];omega) (by simp));go_loopg [] (PQ tr.length nm []) (λgk wr=>∃(f:SpM) (dn:List Sp) (q:Nat),Hid (AlI (Ed s.arcs (atI (jU ⟨P,ts⟩)) tr) tr.length nm ((l:Int),(j:Int)) f dn q/\PQ tr.length nm dn=gk)/\Hid (lM wr bm f q)/\Hid (Box wr ba 97 #[P,.slice A n c,.slice U nm M,.slice V s.arcs.length cv,.slice Q l q0,.map (some bm)])/\Hid (Box wr bg 90 #[.int .i64 (l:Int),.int .i64 (j:Int)])/\Hid (Below w w wr)/\Hid (Below bm w6 wr))
   case atStart=>exact⟨Ar,[],1,aA ⟨o9.o,rfl⟩,o7,a2,XG,o8,k5⟩
   clear o9 o7 a2 XG o8 k5;obtain⟨f,dn,q,AI,MW,XA,XG,BW,HW⟩:=hrel;go_wp2_with fail
   refine(Gq XA.o rfl MW.o).mono ?_;rintro e e4 ⟨I,⟨b1,b2⟩,sm,rfl,p1,i1⟩;cases sm with
   | false =>
    exfalso
    obtain⟨cc,hw⟩:=o6.o;obtain⟨u,x,W,hd⟩:=AI.o.1.di.none_left E0.o hw AI.o.1.ng;have:=p1 rfl u x W;rw[hd]at this;cases this
   | true =>
    obtain⟨⟨yc,⟨ys,ym⟩,yk,yl,yt,yd⟩,W,hd,e5⟩:=i1 rfl;simp only at hd;subst hd;have i2:=aA (MW.o.1 _ _ W);obtain⟨k0,rfl⟩:∃k0:Nat,b1=(k0:Int):=⟨b1.toNat,by have:=(AI.o.1.di.snd _ _ W).2.1.1;simp only at this;omega⟩;obtain⟨m0,rfl⟩:∃m0:Nat,b2=(m0:Int):=⟨b2.toNat,by have:=(AI.o.1.di.snd _ _ W).2.2.1;simp only at this;omega⟩;have AP:=aA (show AlP (Ed s.arcs (atI (jU ⟨P,ts⟩)) tr) tr.length nm ((l:Int),(j:Int)) (wW f ((k0:Int),(m0:Int)) ⟨yc,(ys,ym),yk,yl,yt,true⟩) (((k0:Int),(m0:Int))::dn) ((k0:Int),(m0:Int)) yc (q+1) (PQ tr.length nm dn)from AI.o.1.pop E0.o W rfl e5);have i3:=aA AI.o.2;have p6:=aA (λ(e:(((k0:Int),(m0:Int)):Sp)=((l:Int),(j:Int)))=>AI.o.1.di.goal E0.o (show f ((l:Int),(j:Int))=_ by rw[<-e];exact W) rfl e5);have b5:=aA (λ(w':World) (hm:lM w' bm f q)=>show(Instr.lookup 95 (.map (some bm)) (.agg #[.int .i64 (k0:Int),.int .i64 (m0:Int)]) false).run Tryz.prog w'=.ok (.agg #[yc,ys,ym,yk,yl,yt,.bool false]) w' from by
     have:=hm.at i2.o;rw[W]at this;exact this)
    have XT:=aA (Box.new e4 #[.int .i64 (k0:Int),.int .i64 (m0:Int)] 90);have F:=aF e4 (.cells #[.int .i64 (k0:Int),.int .i64 (m0:Int)] 90);have a2:=aA ((XA.o.keep I).keep F);have e6:=aA ((XG.o.keep I).keep F);have M1:=aA ((MW.o.keep I).keep F);have LM:=aA (show bm<e4.heap.size from(MW.o.keep I).lt);have k6:=aA ((BW.o.trans (I.mono BW.o.size)).trans (F.mono (aT BW.o.size I.size)));have p7:=aA ((HW.o.trans (I.mono (fR MW.o.lt))).trans (F.mono (fR LM.o)));simp only[kvS];clear W e5 p1 i1 I F AI MW XA XG BW HW;go_upto_region 17 with fail
    generalize e4.alloc (.cells #[.int .i64 (k0:Int),.int .i64 (m0:Int)] 90)=f6 at *
    generalize e4.heap.size=bt at *
    have t:=aA ((aH f6 f6).drew);have c0:=aA (XT.o.keep t.o);have b4:=aA (a2.o.keep t.o);have c5:=aA (e6.o.keep t.o);have M2:=aA (M1.o.keep t.o);have LS:=aA (show bt<f6.heap.size from XT.o.lt);have g2:=aA (k6.o.trans (t.o.mono k6.o.size));have p8:=aA (p7.o.trans (t.o.mono (fR M1.o.lt)));have a5:=b4.o.cell 5;simp only[aP,aQ,cB]at a5;obtain⟨z0,z1⟩:=c0.o.two;refine aN 7 (.takes [0,1,2,3,4,5] (.one 6 (.fin 7 .done))) (λw'=>w'.cell? ⟨ba,5,none⟩=some (.map (some bm))/\w'.cell? bt=some (.int .i64 (k0:Int))/\w'.cell? ⟨bt,1,none⟩=some (.int .i64 (m0:Int))/\lM w' bm f q) (by kernel_rfl) (by kernel_rfl) (by kernel_rfl) (λ_ _ _ _ _ h=>h) ⟨a5,z0,z1,M2.o⟩ (λr=>?_);simp only[Scr.takes];clear a5 z0 z1 XT a2 e6 M1 k6 p7 t;generalize f6.drew=a3 at *
    iterate 5
     refine aM (v:=?_) rfl (by rfl) r (λw' z=>?_) ?_
     rotate_left
     ·(go_simp;try with_reducible rfl)
     try simp only[aC]
    refine aM (v:=?_) rfl (by rfl) r (λw' z=>?_) ?_
    rotate_left
    .have k7:=b5.o w' z.2.2.2;go_simp
     try with_reducible rfl
    try simp only[aC]
    have bz:=aA (aF a3 (.cells #[(0:Int),(0:Int),(0:Int),(0:Int),(0:Int),(0:Int),.bool false] 94));have a5:=(b4.o.keep bz.o).cell 5;simp only[aP,aQ,cB]at a5;refine bK rfl (λO m=>?_);go_simp
    refine m.out _ _ ⟨a5,(c0.o.keep bz.o).two.1,(c0.o.keep bz.o).two.2,M2.o.keep bz.o⟩ (λr=>?_);clear m a5 bz;try simp only[aC]
    have F:=aF a3 (.cells #[yc,ys,ym,yk,yl,yt,.bool false] 94);have XX:=aA (Box.new a3 #[yc,ys,ym,yk,yl,yt,.bool false] 94);have p9:=aA (c0.o.keep F);have c6:=aA (b4.o.keep F);have e7:=aA (c5.o.keep F);have M3:=aA (M2.o.keep F);have q1:=aA (g2.o.trans (F.mono g2.o.size));have q2:=aA (p8.o.trans (F.mono (fR M2.o.lt)));have BX:=aA (show w.heap.size<=a3.heap.size from g2.o.size);have k8:=aA (show bm<a3.heap.size/\bt<a3.heap.size/\ba<a3.heap.size/\bg<a3.heap.size from⟨M2.o.lt,c0.o.lt,b4.o.lt,c5.o.lt⟩);refine cH rfl (λO m=>?_);go_simp
    refine m.out _ _ ?_;clear m;refine cE ?_;clear r F c0 b4 c5 M2 g2 p8 b5 LS;generalize a3.alloc (.cells #[yc,ys,ym,yk,yl,yt,.bool false] 94)=k9 at *
    generalize a3.heap.size=bx at *
    have xf:=XX.o.frozen 6;have x6:=XX.o.cell 6;simp only[aP,aQ,cB]at x6;go_upto_region 19 with fail
    have e8:=aA (show bm≠bx/\bt≠bx/\ba≠bx/\bg≠bx by have:=k8.o;omega);have gx:=N5 k9 bx 6 (.bool true);have q3:=aA (show Box (k9.setCell ⟨bx,6,none⟩ (.bool true)) bx 94 #[yc,ys,ym,yk,yl,yt,.bool true] by simpa using XX.o.set 6 (.bool true));have q4:=aA (p9.o.grown gx (by simp;exact λe=>e8.o.2.1 e.symm));have g3:=aA (c6.o.grown gx (by simp;exact λe=>e8.o.2.2.1 e.symm));have g5:=aA (e7.o.grown gx (by simp;exact λe=>e8.o.2.2.2 e.symm));have M4:=aA (M3.o.beside gx (by simp;exact e8.o.1));have l0:=aA (q1.o.setCell (p:=⟨bx,6,none⟩) BX.o (.bool true));have q9:=aA (q2.o.setCell (p:=⟨bx,6,none⟩) (fR k8.o.1) (.bool true));clear gx xf x6 XX p9 c6 e7 M3 q1 q2;generalize k9.setCell ⟨bx,6,none⟩ (.bool true)=l1 at *
    have t:=aA ((aH l1 l1).drew);have r0:=aA (q3.o.keep t.o);have l2:=aA (q4.o.keep t.o);have l3:=aA (g3.o.keep t.o);have r1:=aA (g5.o.keep t.o);have M5:=aA (M4.o.keep t.o);have l4:=aA (l0.o.trans (t.o.mono l0.o.size));have r2:=aA (q9.o.trans (t.o.mono (fR M4.o.lt)));have a5:=l3.o.cell 5;simp only[aP,aQ,cB]at a5;obtain⟨z0,z1⟩:=l2.o.two;obtain⟨s0,s1,s2,s3,s4,s5,s6⟩:=r0.o.seven;refine aN 6 (.takes [0,1,2,3,4,5] (.fin 6 .done)) (λw'=>w'.cell? ⟨ba,5,none⟩=some (.map (some bm))/\(w'.cell? bt=some (.int .i64 (k0:Int))/\w'.cell? ⟨bt,1,none⟩=some (.int .i64 (m0:Int)))/\w'.cell? bx=some (.int .i64 yc)/\w'.cell? ⟨bx,1,none⟩=some (.int .i64 ys)/\w'.cell? ⟨bx,2,none⟩=some (.int .i64 ym)/\w'.cell? ⟨bx,3,none⟩=some (.int .i64 yk)/\w'.cell? ⟨bx,4,none⟩=some (.int .i64 yl)/\w'.cell? ⟨bx,5,none⟩=some (.int .i64 yt)/\w'.cell? ⟨bx,6,none⟩=some (.bool true)) (by kernel_rfl) (by kernel_rfl) (by kernel_rfl) (λ_ _ _ _ _ h=>h) ⟨a5,⟨z0,z1⟩,s0,s1,s2,s3,s4,s5,s6⟩ (λr=>?_);simp only[Scr.takes];clear a5 z0 z1 s0 s1 s2 s3 s4 s5 s6 q3 q4 g3 g5 M4 l0 q9 t r0;generalize l1.drew=C2 at *
    iterate 6
     refine aM (v:=?_) rfl (by rfl) r (λw' z=>?_) ?_
     rotate_left
     ·(go_simp;try with_reducible rfl)
     try simp only[aC]
    obtain⟨a4,a9,m6,g6⟩:=M5.o.update i2.o ⟨yc,(ys,ym),yk,yl,yt,true⟩ (show q<maxLen by have:=AP.o.few;simp only[maxLen];omega);have M6:=aA m6;have l8:=aA (l2.o.grown g6 (by simp;exact Nat.ne_of_lt LM.o));have c8:=aA (l3.o.grown g6 (by simp;exact e3.o.1));have c9:=aA (r1.o.grown g6 (by simp;exact e3.o.2));have d0:=aA (l4.o.grown g6 l4.o.size (λk e=>by cases e;exact f5.o));have g9:=aA (r2.o.grown g6 (fR M5.o.lt) (λk e=>by cases e;exact aB _));simp only[kvS,Gz]at a9;clear m6 g6;refine cH rfl (λO m=>?_);go_simp
    refine m.out _ _ ?_;clear m;refine cE ?_;clear a9 r l2 l3 r1 M5 l4 r2;obtain⟨z0,z1⟩:=l8.o.two;obtain⟨g0,g1⟩:=c9.o.two;have e9:=Jq;by_cases X:k0=l/\m0=j
    rotate_left
    .have hE:=λ(w':World)=>show(binOp .eql 90 (.agg #[.int .i64 (k0:Int),.int .i64 (m0:Int)]) (.agg #[.int .i64 (l:Int),.int .i64 (j:Int)])).run Tryz.prog w'=.ok (.bool false) w' by
      rw[Tj];have:((k0:Int)==(l:Int)&&(m0:Int)==(j:Int))=false:=by
       cases h1:((k0:Int)==(l:Int)) <;> cases h2:((m0:Int)==(j:Int)) <;> simp_all <;> omega
      rw[this]
     have NG:=aA (show((l:Int),(j:Int))≠(((k0:Int),(m0:Int)):Sp)from λe=>X ⟨by have:=aO Prod.fst e;simp only at this;omega,by have:=aO Prod.snd e;simp only at this;omega⟩);clear X;go_wp2_with fail
     clear hE e9 z0 z1 g0 g1;have l9:l<=60:=by omega
     refine(Lr (wP:=w6) c8.o M6.o (by rw[b3];exact g9.o) (by rw[b3];exact aB _) e3.o.1 H6.o A6.o G6.o o2.o o3.o f4.o i0 l9 o4.o AP.o.inU AP.o.dl AP.o.few ⟨AP.o.c0.1,AP.o.c0.2.2⟩ AP.o.cost AP.o.c0.2.1).mono ?_;rintro e w7 ⟨⟨yy,rfl⟩,f',q',m7,r3,d7,g7,c7⟩;have x0:=aA (AP.o.next NG.o d7 (λv d h=>h) r3 c7);have M7:=aA m7;have h0:=aA (c8.o.grown g7 (by simp;exact e3.o.1));have h4:=aA (c9.o.grown g7 (by simp;exact e3.o.2));have h5:=aA (d0.o.grown g7 d0.o.size (λk e=>by cases e;exact f5.o));have x1:=aA (g9.o.grown g7 (fR M6.o.lt) (λk e=>by cases e;exact aB _));clear m7 r3 d7 g7 c7 c8 c9 M6 d0 g9 l8;go_wp2
     go_roundg (PQ tr.length nm (((k0:Int),(m0:Int))::dn))
     case measure=>rw[<-i3.o];exact AP.o.less
     exact⟨f',_,q',aA ⟨x0.o,rfl⟩,M7,h0,h4,h5,x1⟩
    obtain⟨rfl,rfl⟩:l=k0/\j=m0:=⟨X.1.symm,X.2.symm⟩;have hE:=λ(w':World)=>show(binOp .eql 90 (.agg #[.int .i64 (l:Int),.int .i64 (j:Int)]) (.agg #[.int .i64 (l:Int),.int .i64 (j:Int)])).run Tryz.prog w'=.ok (.bool true) w' by
     rw[Tj];simp
    have x2:=aA (h9.o _ (p6.o rfl));obtain⟨s0,bk⟩:=AP.o.back;have BK:=aA bk;have XB:=aA (Box.new a4 #[.int .i64 (l:Int),.int .i64 (j:Int)] 90);have F:=aF a4 (.cells #[.int .i64 (l:Int),.int .i64 (j:Int)] 90);have h0:=aA (c8.o.keep F);have h4:=aA (c9.o.keep F);have M7:=aA (M6.o.keep F);have h5:=aA (d0.o.trans (F.mono d0.o.size));have a6:=aA (show bm<a4.heap.size/\ba<a4.heap.size/\bg<a4.heap.size from⟨M6.o.lt,c8.o.lt,c9.o.lt⟩);have r4:=aA (show tP (a4.alloc (.cells #[.int .i64 (l:Int),.int .i64 (j:Int)] 90)) a4 () 0 from⟨[],aJ.nil⟩);have r5:=aA (AP.o.cost_at);clear X bk F p6 c8 c9 M6 d0 g9 l8 k8 e8 BX LM i3 E0 h9 o6 o5 o4 o3 o2 f4 H6 G6 A6;go_wp2
    clear hE e9 z0 z1 g0 g1;generalize a4.alloc (.cells #[.int .i64 (l:Int),.int .i64 (j:Int)] 90)=w7 at *
    generalize a4.heap.size=bs at *
    obtain⟨f2,s7⟩:=aK (wW f ((l:Int),(j:Int)) ⟨yc,(ys,ym),yk,yl,yt,true⟩);rw[s7]at AP M7 BK r5;clear s7;obtain⟨x3,i4⟩:=aK (((l:Int),(j:Int))::dn);rw[i4]at AP BK;clear i4;obtain⟨go,x4⟩:∃go:Nat,go=gk:=⟨_,rfl⟩;subst x4;go_loopg [20,21] s0 (λgk u v wr=>∃(k b:Nat) (v1 v2:Int),v=.pointer b/\Hid (AlB (Ed s.arcs (atI (jU ⟨P,ts⟩)) tr) tr.length nm f2 x3 (v1,v2) k gk)/\Hid (tP wr bs u k/\(∀kk,u.ownBlock=some kk->kk<b)/\bs<=b)/\Hid (Box wr b 90 #[v1,v2])/\Hid (lM wr bm f2 (q+1))/\Hid (Box wr ba 97 #[P,.slice A n c,.slice U nm M,.slice V s.arcs.length cv,.slice Q l q0,.map (some bm)])/\Hid (Box wr bg 90 #[.int .i64 (l:Int),.int .i64 (j:Int)])/\Hid (Below w w wr))
    case atStart=>exact⟨0,bs,l,j,rfl,BK,aA ⟨r4.o,λkk hk=>(by cases hk),aB _⟩,XB,M7,h0,h4,h5⟩
    clear BK XB M7 h0 h4 h5 r4;obtain⟨k,b,v1,v2,rfl,AB,OW,XB,MB,h6,h7,BB⟩:=hrel;have y0:=aA (show okS (v1,v2) by obtain⟨x,W⟩:=AB.o.isIn;exact MB.o.1 _ _ W);obtain⟨z0,z1⟩:=XB.o.two;have e9:=Jq;by_cases hz:v1=0/\v2=0
    .obtain⟨rfl,rfl⟩:=hz;have hE:=λ(w':World)=>show(binOp .neq 90 (.agg #[(0:Int),(0:Int)]) (.agg #[(0:Int),(0:Int)])).run Tryz.prog w'=.ok (.bool false) w' by
      rw[Tm];simp
     obtain⟨OA,oc,rfl⟩:=tP.form OW.o.1;go_wp2_with fail
     clear hE e9 z0 z1;refine(Ce OW.o.1 (by have:=AB.o.few;omega)).mono ?_;rintro e m1 ⟨⟨yy,rfl⟩,X⟩;have lo:∀kk,(Value.slice OA k oc).ownBlock=some kk->bs<=kk:=λkk hk=>(tP.lo OW.o.1 kk hk)
     have y4:=aA (h6.o.grown X (λe=>by have:=lo _ e;have:=a6.o;omega));have y5:=aA (h7.o.grown X (λe=>by have:=lo _ e;have:=a6.o;omega));have M8:=aA (MB.o.beside X (λe=>by have:=lo _ e.symm;have:=a6.o;omega));have B8:=aA (BB.o.grown X BB.o.size (λkk e=>by have:=lo _ e;have:=a6.o;have:=f5.o;omega));clear X lo XB h6 h7 MB BB OW;go_upto_region 30 with fail
     have t:=aA ((aH m1 m1).drew);have y8:=aA (y4.o.keep t.o);have y9:=aA (y5.o.keep t.o);have M9:=aA (M8.o.keep t.o);have B9:=aA (B8.o.trans (t.o.mono B8.o.size));have a5:=y8.o.cell 5;simp only[aP,aQ,cB]at a5;obtain⟨g0,g1⟩:=y9.o.two;obtain⟨⟨zc,⟨zs,zm⟩,zk,zl,zt,zd⟩,W,s8⟩:=r5.o;simp only at s8;subst s8;have z2:=aA (M9.o.1 _ _ W);have b5:=aA (λ(w':World) (hm:lM w' bm f2 (q+1))=>show(Instr.lookup 95 (.map (some bm)) (.agg #[.int .i64 (l:Int),.int .i64 (j:Int)]) false).run Tryz.prog w'=.ok (.agg #[zc,zs,zm,zk,zl,zt,.bool zd]) w' from by
      have:=hm.at z2.o;rw[W]at this;exact this)
     clear W;refine aN 9 (.takes [0,1,2,3,4,5,6,7,8] (.fin 9 (.fin 10 .done))) (λw'=>w'.cell? ⟨ba,5,none⟩=some (.map (some bm))/\w'.cell? bg=some (.int .i64 (l:Int))/\w'.cell? ⟨bg,1,none⟩=some (.int .i64 (j:Int))/\lM w' bm f2 (q+1)) (by kernel_rfl) (by kernel_rfl) (by kernel_rfl) (λ_ _ _ _ _ h=>h) ⟨a5,g0,g1,M9.o⟩ (λr=>?_);simp only[Scr.takes];clear a5 g0 g1;generalize m1.drew=C3 at *
     iterate 6
      refine aM (v:=?_) rfl (by rfl) r (λw' z=>?_) ?_
      rotate_left
      ·(go_simp;try with_reducible rfl)
      try simp only[aC]
     refine aM (v:=?_) rfl (by rfl) r (λw' z=>?_) ?_
     rotate_left
     .have k7:=b5.o w' z.2.2.2;go_simp
      try with_reducible rfl
     try simp only[aC]
     have h8:=Td zc zs zm zk zl zt zd
     iterate 2
      refine aM (v:=?_) rfl (by rfl) r (λw' z=>?_) ?_
      rotate_left
      ·(go_simp;try with_reducible rfl)
      try simp only[aC]
     refine cH rfl (λO m=>?_);go_simp
     refine m.out _ _ ?_;clear m;try simp only[aC]
     refine cH rfl (λO m=>?_);go_simp
     refine m.out _ _ ?_;clear m;try simp only[aC]
     refine cE ?_;go_wp2
     go_ret3
     exact⟨OA,k,oc,zc,0,rfl,x2.o,λh=>absurd rfl h,B9.o⟩
    have hE:=λ(w':World)=>show(binOp .neq 90 (.agg #[v1,v2]) (.agg #[(0:Int),(0:Int)])).run Tryz.prog w'=.ok (.bool true) w' by
     rw[Tm];have:(v1==0&&v2==0)=false:=by
      cases h1:(v1==0) <;> cases h2:(v2==0) <;> simp_all
     rw[this];rfl
    obtain⟨⟨zc,⟨zs,zm⟩,zk,zl,zt,zd⟩,W,s',s9,ab⟩:=AP.o.back_next AB.o (λe=>hz ⟨aO Prod.fst e,aO Prod.snd e⟩);have z3:=aA ab;have z4:=aA s9;have b5:=aA (λ(w':World) (hm:lM w' bm f2 (q+1))=>show(Instr.lookup 95 (.map (some bm)) (.agg #[v1,v2]) false).run Tryz.prog w'=.ok (.agg #[zc,zs,zm,zk,zl,zt,.bool zd]) w' from by
     have:=hm.at y0.o;rw[W]at this;exact this)
    clear W s9 ab hz;go_upto_region 26 with fail
    clear hE e9 z0 z1;obtain⟨xs,t0⟩:=OW.o.1;have t:=aA ((aH wr wr).drew);have t1:=aA (aJ.keep Uc.kept t0 t.o);have d1:=aA (show ∀kk,u20.ownBlock=some kk->bs<=kk/\kk<b from λkk hk=>⟨tP.lo OW.o.1 kk hk,OW.o.2.1 kk hk⟩);have LB:=aA (show bs<=b from OW.o.2.2);have d2:=aA (XB.o.keep t.o);have a2:=aA (h6.o.keep t.o);have e6:=aA (h7.o.keep t.o);have M1:=aA (MB.o.keep t.o);have m2:=aA (BB.o.trans (t.o.mono BB.o.size));have hk:=AB.o.few;have a5:=a2.o.cell 5;simp only[aP,aQ,cB]at a5;obtain⟨z0,z1⟩:=d2.o.two;refine aN 9 (.takes [0,1,2,3,4,5,6,7] (.one 8 (.fin 9 (.fin 10 .done)))) (λw'=>w'.cell? ⟨ba,5,none⟩=some (.map (some bm))/\w'.cell? b=some (.int .i64 v1)/\w'.cell? ⟨b,1,none⟩=some (.int .i64 v2)/\lM w' bm f2 (q+1)) (by kernel_rfl) (by kernel_rfl) (by kernel_rfl) (λ_ _ _ _ _ h=>h) ⟨a5,z0,z1,M1.o⟩ (λr=>?_);simp only[Scr.takes];clear a5 z0 z1 t0 OW XB h6 h7 MB BB t;generalize wr.drew=y1 at *
    iterate 6
     refine aM (v:=?_) rfl (by rfl) r (λw' z=>?_) ?_
     rotate_left
     ·(go_simp;try with_reducible rfl)
     try simp only[aC]
    refine aM (v:=?_) rfl (by rfl) r (λw' z=>?_) ?_
    rotate_left
    .have k7:=b5.o w' z.2.2.2;go_simp
     try with_reducible rfl
    try simp only[aC]
    have h8:=Ti zc zs zm zk zl zt zd;refine aM (v:=?_) rfl (by rfl) r (λw' z=>?_) ?_
    rotate_left
    ·(go_simp;try with_reducible rfl)
    try simp only[aC]
    clear h8;have bz:=aA (aF y1 (.cells #[zk,zl,zt] 92));have a5:=(a2.o.keep bz.o).cell 5;simp only[aP,aQ,cB]at a5;refine bK rfl (λO m=>?_);go_simp
    refine m.out _ _ ⟨a5,(d2.o.keep bz.o).two.1,(d2.o.keep bz.o).two.2,M1.o.keep bz.o⟩ (λr=>?_);clear m a5 bz;try simp only[aC]
    have LY:=aA (show bs<=y1.heap.size by have:=d2.o.lt;have:=LB.o;omega);refine cH rfl (λO m=>?_);refine tQ (w0:=y1) Yw rfl (.tmp 99) (.tmp 107) rfl [()] #[zk,zl,zt] rfl rfl (by first|rfl|simp) rfl rfl (by omega) (by simp[Value.oneCell']) t1.o (Uc.reads _ _ _ _) rfl (aH bs y1) LY.o (by omega) (by omega) (λw' _ vs y h=>h) ?_;intro g cap wz i9 d3 z5 t2 t3;have t4:=aA i9;have t5:=aA (d2.o.grown d3 (λe=>by have:=d1.o _ e;omega));have t9:=aA (a2.o.grown d3 (λe=>by have:=d1.o _ e;have:=a6.o;omega));have v0:=aA (e6.o.grown d3 (λe=>by have:=d1.o _ e;have:=a6.o;omega));have MZ:=aA (M1.o.beside d3 (λe=>by have:=d1.o _ e.symm;have:=a6.o;omega));have BZ:=aA (m2.o.grown d3 m2.o.size (λkk e=>by have:=d1.o _ e;have:=a6.o;have:=f5.o;omega));have GZ:=aA (show bs<=g/\g<wz.heap.size from⟨t2,t3⟩);clear i9 d3 z5 t2 t3 t1 d2 a2 e6 M1 m2 d1;refine m.out _ _ ?_;clear m;try simp only[aC]
    refine cH rfl (λO m=>?_);go_simp
    refine m.out _ _ ?_;clear m;try simp only[aC]
    refine cE ?_;clear r;obtain⟨z0,z1⟩:=t5.o.two;go_upto_region 25 with fail
    clear z0 z1;have XN:=aA (Box.new wz #[v1,v2] 90);have F:=aF wz (.cells #[v1,v2] 90);have b4:=aA (t9.o.keep F);have c5:=aA (v0.o.keep F);have M2:=aA (MZ.o.keep F);have B2:=aA (BZ.o.trans (F.mono BZ.o.size));have v3:=aA (aJ.keep Uc.kept t4.o F);have GW:=aA BZ.o.size;clear F t5 t9 v0 MZ BZ t4;generalize wz.alloc (.cells #[v1,v2] 90)=y2 at *
    generalize wz.heap.size=bn at *
    have t:=aA ((aH y2 y2).drew);have d4:=aA (XN.o.keep t.o);have c6:=aA (b4.o.keep t.o);have e7:=aA (c5.o.keep t.o);have M3:=aA (M2.o.keep t.o);have B3:=aA (B2.o.trans (t.o.mono B2.o.size));have v4:=aA (aJ.keep Uc.kept v3.o t.o);have a5:=c6.o.cell 5;simp only[aP,aQ,cB]at a5;obtain⟨z0,z1⟩:=d4.o.two;refine aN 7 (.takes [0,1,2,3,4,5,6] (.fin 7 .done)) (λw'=>w'.cell? ⟨ba,5,none⟩=some (.map (some bm))/\w'.cell? bn=some (.int .i64 v1)/\w'.cell? ⟨bn,1,none⟩=some (.int .i64 v2)/\lM w' bm f2 (q+1)) (by kernel_rfl) (by kernel_rfl) (by kernel_rfl) (λ_ _ _ _ _ h=>h) ⟨a5,z0,z1,M3.o⟩ (λr=>?_);simp only[Scr.takes];clear a5 z0 z1 XN b4 c5 M2 B2 v3 t;generalize y2.drew=y3 at *
    iterate 5
     refine aM (v:=?_) rfl (by rfl) r (λw' z=>?_) ?_
     rotate_left
     ·(go_simp;try with_reducible rfl)
     try simp only[aC]
    refine aM (v:=?_) rfl (by rfl) r (λw' z=>?_) ?_
    rotate_left
    .have k7:=b5.o w' z.2.2.2;go_simp
     try with_reducible rfl
    try simp only[aC]
    have h8:=Tf zc zs zm zk zl zt zd;refine aM (v:=?_) rfl (by rfl) r (λw' z=>?_) ?_
    rotate_left
    ·(go_simp;try with_reducible rfl)
    try simp only[aC]
    clear h8;obtain⟨z0,z1⟩:=d4.o.two;have n0:=d4.o.frozen 0;have n1:=d4.o.frozen 1;have g4:=wY y3 bn zs zm;have z9:=aA (d4.o.set2 zs zm);have NE:=aA (show ba≠bn/\bg≠bn/\bm≠bn/\g≠bn/\bs<=bn/\g<bn by have:=a6.o;have:=GZ.o;omega);have g3:=aA (c6.o.grown g4 (by simp;exact λe=>NE.o.1 e.symm));have g5:=aA (e7.o.grown g4 (by simp;exact λe=>NE.o.2.1 e.symm));have M4:=aA (M3.o.beside g4 (by simp;exact NE.o.2.2.1));have B4:=aA (B3.o.grown g4 B3.o.size (λkk e=>by cases e;exact GW.o));have A7:=aA (aJ.kept v4.o g4 (.inr (by simp[Value.ownBlock];exact NE.o.2.2.2.1)) (λvs x h=>h));clear g4;refine cH rfl (λO m=>?_);go_simp
    refine m.out _ _ ?_;clear m;try simp only[aC]
    refine cE ?_;clear r n0 n1 z0 z1 d4 c6 e7 M3 B3 v4;go_wp2
    go_roundg s'
    case measure=>exact z4.o
    exact⟨k+1,bn,zs,zm,rfl,z3,aA ⟨⟨_,A7.o⟩,λkk hk=>(by injection hk with hk;rw[<-hk];exact NE.o.2.2.2.2.2),NE.o.2.2.2.2.1⟩,z9,M4,g3,g5,B4⟩
 .have RW:=aA (TW.o f0);have CP:=aA (Az (tr:=tr) (HR.o.trans RW.o) f0);have C4:(sw==0)=false:=by simpa using f0
  go_upto_region 2 with(go_at_call 30;((with_reducible refine CW.o.mono ?_);rintro e w1 ⟨rfl,d5⟩;have B1:=aA d5;clear d5))
  go_wp2
  go_ret3
  exact⟨none,0,0,0,sw,rfl,CP.o,λ_=>rfl,HB.o.trans (B1.o.mono HB.o.size)⟩
structure YX where
 err:Int
 line:Int
 text:List UInt8
 verdict:Int
 costs:LIn
def vL (N:eB)(log:LLi)(cs:LIn):Prop:=cs.length=log.length/\∀(k:Nat) t c,log[k]?=some t->cs[k]?=some c->∃e,q6 N 0 1 t c e
def vL.uniq {N:eB}{log:LLi}{cs ds:LIn}(h:vL N log cs)(g:vL N log ds):cs=ds:=by
 apply fP (by rw[h.1,g.1])
 intro k a c;have b:k<log.length:=by rw[<-h.1];exact a
 obtain⟨e,d⟩:=h.2 k log[k] cs[k] (aV b) (aV a);obtain⟨f,i⟩:=g.2 k log[k] ds[k] (aV b) (aV c);exact(d.uniq i).1
def lU (s:List UInt8)(r:YX):Prop :=
 if(jG s).2.2≠0 then r=⟨(jG s).2.2,(jG s).2.1,[],0,[]⟩
 else if(eL (jG s).1).1≠0 then r=⟨(eL (jG s).1).1,0,[],0,[]⟩
 else if(hJ (eL (jG s).1).2).2≠0 then r=⟨(hJ (eL (jG s).1).2).2,0,lZ 41 (eL (jG s).1).2,0,[]⟩
 else if(gP (hJ (eL (jG s).1).2).1 0 1 300).2≠0 then r=⟨(gP (hJ (eL (jG s).1).2).1 0 1 300).2,0,lZ 41 (eL (jG s).1).2,0,[]⟩
 else r.err=0/\r.line=0/\r.text=lZ 41 (eL (jG s).1).2/\r.verdict=(gP (hJ (eL (jG s).1).2).1 0 1 300).1.1/\vL (hJ (eL (jG s).1).2).1 (jG s).1 r.costs
def lU.uniq {s:List UInt8}{r q:YX}(h:lU s r)(g:lU s q):r=q:=by
 unfold lU at h g;split at h
 .rename_i a;rw[aG a]at g;rw[h,g]
 rename_i a
 rw[aD a]at g;split at h
 .rename_i b;rw[aG b]at g;rw[h,g]
 rename_i b
 rw[aD b]at g;split at h
 .rename_i c;rw[aG c]at g;rw[h,g]
 rename_i c
 rw[aD c]at g;split at h
 .rename_i d;rw[aG d]at g;rw[h,g]
 rename_i d
 rw[aD d]at g;obtain⟨a1,a2,a3,a4,a5⟩:=h;obtain⟨e,f,i,j,k⟩:=g;cases r;cases q
 simp only at a1 a2 a3 a4 a5 e f i j k;rw[a1,a2,a3,a4,e,f,i,j,a5.uniq k]
abbrev Tu (err b:Int)(d:List UInt8)(a:Int)(A:OAd)(n c:Nat):Value:=.agg #[.int .i64 err,.int .i64 b,.string ⟨d.toArray⟩,.int .i64 a,.slice A n c]
def oG (s:List UInt8)(w:World)(e:Ending)(w':World):Prop:=∃(r:YX) (A:OAd) (n c:Nat),e=.returned (Tu r.err r.line r.text r.verdict A n c)/\aY w' A n c r.costs/\lU s r/\Below w.heap.size w w'
def Box.fiveR {w:World}{b ty:Nat}{u0 u1 u2 u3 u4:Value}(h:Box w b ty #[u0,u1,u2,u3,u4]):w.cell? b=some u0/\w.cell? ⟨b,1,none⟩=some u1/\w.cell? ⟨b,2,none⟩=some u2/\w.cell? ⟨b,3,none⟩=some u3/\w.cell? ⟨b,4,none⟩=some u4:=⟨h.cell 0,h.cell 1,h.cell 2,h.cell 3,h.cell 4⟩
def Box.set5R {w:World}{b ty:Nat}{u0 u1 u2 u3 u4:Value}(h:Box w b ty #[u0,u1,u2,u3,u4])(v0 v1 v2 v3 v4:Value):Box (((((w.setCell b v0).setCell ⟨b,1,none⟩ v1).setCell ⟨b,2,none⟩ v2).setCell ⟨b,3,none⟩ v3).setCell ⟨b,4,none⟩ v4) b ty #[v0,v1,v2,v3,v4]:=by
 have:=((((h.set 0 v0).set 1 v1).set 2 v2).set 3 v3).set 4 v4;simpa using this
def iY (w:World)(b:Nat)(v0 v1 v2 v3 v4:Value):w.grownBy (((((w.setCell b v0).setCell ⟨b,1,none⟩ v1).setCell ⟨b,2,none⟩ v2).setCell ⟨b,3,none⟩ v3).setCell ⟨b,4,none⟩ v4) (some b) :=
 ((mK w b v0 v1 v2).trans (dI _ b 3 v3)).trans (dI _ b 4 v4)
def Es {w:World}{B B2 n c:Nat}{A:OAd}{xs:LLi}(h:aJ (cZ B) 1 w B2 24 (.slice A n c) n xs)(p:xs.length<=1048576):cQ w A n c xs:=by
 obtain⟨d,o,r,f⟩:=h;have g:aJ cS 1 w B2 24 (.slice A n c) n xs:=⟨d,o,⟨r.1,λi x j=>by obtain⟨vs,a,b⟩:=r.2 i x j;exact⟨vs,a,b.list⟩⟩,f⟩;subst f;obtain⟨q,s,e,k⟩:=g.sl (by omega);injection e with l _ m;subst l m;exact k
def Jt {log:LLi}(h:(eL log).1=0):eI log=0/\eK (eL log).2=0:=by
 unfold eL at h ⊢;split at h
 .rename_i a;exact absurd h a
 rename_i a
 rw[aD a];split at h
 .rename_i b;exact absurd h b
 rename_i b
 rw[aD b];exact⟨oP.1 a,oP.1 b⟩
def N8 {b:bH}(h:(hJ b).2=0):(hJ b).1.trans.length<=24:=by
 unfold hJ at h ⊢;split at h
 .rename_i a
  rw[aG a];split at h
  .rename_i c
   rw[aG c];simp only[UI,dQ];exact c.2
  cases h
 rename_i a;exact absurd h a
def N9 {s:List UInt8}:(jG s).1.length<=s.length:=by
 have key:∀(r:List UInt8) (out:LLi) (a:LIn),(Bd r out a).1.length<=out.length+r.length:=by
  intro r;induction r with
  | nil=>intro out a;rw[Bd];split <;> simp
  | cons c r b =>
   intro out a;rw[Bd];split
   .have:=b (out++[a]) [];simp at this ⊢;omega
   split
   .have:=b out (a++[Eh c]);simp at this ⊢;omega
   simp
 have:=key s [] [];simpa [jG] using this
def P6 (s:List UInt8)(hs:s.length<=1048576)(w:World):Calls Tryz.prog 5 #[.string ⟨s.toArray⟩] w (oG s w):=by
 have B0:=aA (aF w (.cells #[(0:Int),(0:Int),.string ⟨#[]⟩,(0:Int),()] 26));have X0:=aA (Box.new w #[(0:Int),(0:Int),.string ⟨#[]⟩,(0:Int),()] 26);have HS:=aA hs;clear hs;go_enter Tryz.func5,Tryz.ntmps5
 go_upto_region 1 with fail
 generalize w.alloc (.cells #[(0:Int),(0:Int),.string ⟨#[]⟩,(0:Int),()] 26)=w1 at *
 have W1:=aA X0.o.lt;have CL:=aA (SQ s HS.o w1);go_wp2_with fail
 refine CL.o.mono ?_;rintro e w2 ⟨A,n,c,rfl,own,a4⟩;have f6:=aA (show(jG s).1.length<=1048576 from aT N9 HS.o);have LL:=aA (Es own f6.o);have D2:=aA (B0.o.trans (a4.mono B0.o.size));have X2:=aA (X0.o.keep a4);have W2:=aA (bD W1.o a4.size);obtain⟨D,S⟩:=bS ((jG s).2.1);obtain⟨l,T⟩:=bS ((jG s).2.2);rw[<-S,<-T];have HL:=aA (And.intro S T);clear own a4 CL S T;by_cases E:l=0
 rotate_left
 .have g0:(l != 0)=true:=by simp[E]
  have EQ:=aA (show lU s ⟨l,D,[],0,[]⟩ by unfold lU;rw[aG (by rw[<-HL.o.2];exact E),HL.o.1,HL.o.2]);clear E;have IK:=aA (show ∀w',w2.grownBy w' (some w)->aY w' none 0 0 []from λw' _=>Sl.nil0);obtain⟨u0,u1,u2,u3,u4⟩:=Box.fiveR X2.o;have fz:=λq=>X2.o.frozen q
  have m:=iY w2 w l D (.string ⟨#[]⟩) (.int .i64 0) ();have WX:=aA (Box.set5R X2.o l D (.string ⟨#[]⟩) (.int .i64 0) ());have WD:=aA (D2.o.grown m D2.o.size (λq a=>by injection a with a;omega));have WI:=aA (show aY (((((w2.setCell w l).setCell ⟨w,1,none⟩ D).setCell ⟨w,2,none⟩ (.string ⟨#[]⟩)).setCell ⟨w,3,none⟩ (.int .i64 0)).setCell ⟨w,4,none⟩ ()) none 0 0 []from IK.o _ m);clear m;go_wp2
  generalize (((((w2.setCell w l).setCell ⟨w,1,none⟩ D).setCell ⟨w,2,none⟩ (.string ⟨#[]⟩)).setCell ⟨w,3,none⟩ (.int .i64 0)).setCell ⟨w,4,none⟩ ())=ww at *
  obtain⟨z0,U,z2,z3,z4⟩:=Box.fiveR WX.o;exact aU (v:=.agg #[l,D,.string ⟨#[]⟩,(0:Int),()]) (by simp[results,Tryz.results5,go_sem,z0,U,z2,z3,z4]) rfl ((λw' _ hw=>(⟨⟨l,D,[],0,[]⟩,none,0,0,rfl,Sl.nil0,EQ.o,hw⟩:oG s w (.returned (Tu (l) (D) ([]) (0) none 0 0)) w')) ww WI.o WD.o)
 have g0:(l != 0)=false:=by simp[E]
 have E1:=aA (show ¬(jG s).2.2≠0 by rw[<-HL.o.2,E];exact λh=>h rfl);have CM:=aA (Iq LL.o);clear E;go_wp2_with fail
 refine CM.o.mono ?_;rintro e w3 ⟨v3,rfl,⟨A3,n3,c3,rfl,s3⟩,b3⟩;have BV:=aA (show pQ 62 w3 A3 n3 c3 (eL (jG s).1).2.kids from s3);obtain⟨B,hB⟩:=bS ((eL (jG s).1).2);rw[<-hB]at BV;rw[<-hB];have b4:=aA hB;obtain⟨kd,lb,ks⟩:=B;simp only[bH.kids]at BV;simp only[bH.kind,bH.label];obtain⟨o,V⟩:=bS ((eL (jG s).1).1);rw[<-V];have HM:=aA V;have B4:=aA (aF w3 (.cells #[kd,lb,.slice A3 n3 c3] 35));have T6:=aA (Box.new w3 #[kd,lb,.slice A3 n3 c3] 35);have d6:=aA (pQ.keep BV.o B4.o);have a5:=aA (b3.trans (B4.o.mono b3.size));have X4:=aA (X2.o.keep a5.o);have D4:=aA (D2.o.trans (a5.o.mono D2.o.size));have d7:=aA (Sl.keep cS.kept LL.o a5.o);have W4:=aA (bD W2.o a5.o.size);clear s3 b3 hB V CM BV;go_upto_region 5 with fail
 generalize w3.alloc (.cells #[kd,lb,.slice A3 n3 c3] 35)=w4 at *
 generalize w3.heap.size=b6 at T6;by_cases K:o=0
 rotate_left
 .have g1:(o != 0)=true:=by simp[K]
  have EQ:=aA (show lU s ⟨o,0,[],0,[]⟩ by unfold lU;rw[aD E1.o,aG (by rw[<-HM.o];exact K),HM.o]);clear K;have IK:=aA (show ∀w',w4.grownBy w' (some w)->aY w' none 0 0 []from λw' _=>Sl.nil0);obtain⟨u0,u1,u2,u3,u4⟩:=Box.fiveR X4.o;have fz:=λq=>X4.o.frozen q
  have m:=iY w4 w o (.int .i64 0) (.string ⟨#[]⟩) (.int .i64 0) ();have WX:=aA (Box.set5R X4.o o (.int .i64 0) (.string ⟨#[]⟩) (.int .i64 0) ());have WD:=aA (D4.o.grown m D4.o.size (λq a=>by injection a with a;omega));have WI:=aA (show aY (((((w4.setCell w o).setCell ⟨w,1,none⟩ (.int .i64 0)).setCell ⟨w,2,none⟩ (.string ⟨#[]⟩)).setCell ⟨w,3,none⟩ (.int .i64 0)).setCell ⟨w,4,none⟩ ()) none 0 0 []from IK.o _ m);clear m;go_wp2
  generalize (((((w4.setCell w o).setCell ⟨w,1,none⟩ (.int .i64 0)).setCell ⟨w,2,none⟩ (.string ⟨#[]⟩)).setCell ⟨w,3,none⟩ (.int .i64 0)).setCell ⟨w,4,none⟩ ())=ww at *
  obtain⟨z0,U,z2,z3,z4⟩:=Box.fiveR WX.o;exact aU (v:=.agg #[o,(0:Int),.string ⟨#[]⟩,(0:Int),()]) (by simp[results,Tryz.results5,go_sem,z0,U,z2,z3,z4]) rfl ((λw' _ hw=>(⟨⟨o,0,[],0,[]⟩,none,0,0,rfl,Sl.nil0,EQ.o,hw⟩:oG s w (.returned (Tu (o) (0) ([]) (0) none 0 0)) w')) ww WI.o WD.o)
 have g1:(o != 0)=false:=by simp[K]
 have E2:=aA (show ¬(eL (jG s).1).1≠0 by rw[<-HM.o,K];exact λh=>h rfl);have e0:=aA (Jt (oP.1 E2.o));have HW:=aA (show(bY 41 (.mk kd lb ks) 0).2=0 from by have:=e0.o.2;rw[<-b4.o]at this;exact this);have CW:=aA (AD 41 62 kd lb A3 n3 c3 ks w4 0 d6.o HW.o);obtain⟨t0,R,t2⟩:=T6.o.three;clear K;go_wp2_with fail
 refine CW.o.mono ?_;rintro e w5 ⟨rfl,W⟩;obtain⟨f,b5⟩:=bS (lZ 41 (.mk kd lb ks));rw[<-b5];have c0:=aA (show f=lZ 41 (eL (jG s).1).2 by rw[b5,b4.o]);have B6:=aA (aF w5 (.cells #[(0:Int),(0:Int),.string ⟨f.toArray⟩,(0:Int),()] 26));have T7:=aA (Box.new w5 #[(0:Int),(0:Int),.string ⟨f.toArray⟩,(0:Int),()] 26);have L:=aA (W.trans (B6.o.mono W.size));have g2:=aA (pQ.keep d6.o L.o);have X6:=aA (X4.o.keep L.o);have D6:=aA (D4.o.trans (L.o.mono D4.o.size));have g3:=aA (Sl.keep cS.kept d7.o L.o);have W6:=aA (bD W4.o L.o.size);have g4:=aA (T6.o.keep L.o);have W7:=aA (show w5.heap.size<(w5.alloc (.cells #[(0:Int),(0:Int),.string ⟨f.toArray⟩,(0:Int),()] 26)).heap.size from T7.o.lt);have g5:=aA (Sl.keep cS.kept d7.o W);have e4:=aA B6.o;have p:=aA (show w.heap.size<w5.heap.size from bD W4.o W.size);clear W b5 CW t0 R t2;go_upto_region 8 with fail
 generalize w5.alloc (.cells #[(0:Int),(0:Int),.string ⟨f.toArray⟩,(0:Int),()] 26)=w6 at *
 obtain⟨i,I⟩:=bS (w5.heap.size);rw[<-I]at T7 W7 p;rw[<-I];have e5:=aA I;clear I;obtain⟨t0,R,t2⟩:=g4.o.three;have CG:=aA (Lq (kd:=kd) (lb:=lb) g2.o);go_wp2_with fail
 refine CG.o.mono ?_;rintro e w7 ⟨A7,n7,c7,rfl,c5,X,a6⟩;obtain⟨N,hN⟩:=bS ((hJ (.mk kd lb ks)).1);obtain⟨b,J⟩:=bS ((hJ (.mk kd lb ks)).2);rw[<-hN,<-J]at X;rw[<-hN]at c5;rw[<-hN,<-J];have HG:=aA (show N=(hJ (eL (jG s).1).2).1/\b=(hJ (eL (jG s).1).2).2 by rw[<-b4.o];exact⟨hN,J⟩);have B8:=aA (aF w7 (.cells #[.int .i64 N.places,.slice A7 n7 c7] 41));have T8:=aA (Box.new w7 #[.int .i64 N.places,.slice A7 n7 c7] 41);have Y:=aA (a6.trans (B8.o.mono a6.size));have c6:=aA (c5.keep B8.o);have X8:=aA (X6.o.keep Y.o);have D8:=aA (D6.o.trans (Y.o.mono D6.o.size));have g6:=aA (Sl.keep cS.kept g3.o Y.o);have Z:=aA (T7.o.keep Y.o);have e6:=aA (e4.o.trans (Y.o.mono e4.o.size));have g7:=aA (λh=>aJ.keep (bT.kept _) (X h) B8.o);have d0:=aA (show i<w7.heap.size from bD W7.o a6.size);clear c5 X a6 hN J CG t0 R t2;go_upto_region 9 with fail
 generalize w7.alloc (.cells #[.int .i64 N.places,.slice A7 n7 c7] 41)=w8 at *
 generalize w7.heap.size=b8 at T8 d0;by_cases h3:b=0
 rotate_left
 .have g8:(b != 0)=true:=by simp[h3]
  have EQ:=aA (show lU s ⟨b,0,f,0,[]⟩ by unfold lU;rw[aD E1.o,aD E2.o,aG (by rw[<-HG.o.2];exact h3),c0.o,HG.o.2]);clear h3;obtain⟨t0,R,t2,t3,t4⟩:=Box.fiveR Z.o;have fy:=Z.o.frozen 0;have M:=dI w8 i 0 b;have F:=aA (show Box (w8.setCell i b) i 26 #[b,(0:Int),.string ⟨f.toArray⟩,(0:Int),()]from by have:=Z.o.set 0 b;simpa using this);have XX:=aA (X8.o.grown M (λe=>by injection e with e;have:=p.o;omega));have DX:=aA (D8.o.grown M D8.o.size (λq a=>by injection a with a;have:=p.o;omega));clear M;go_upto_region 11 with fail
  clear t0 R t2 t3 t4 fy;generalize w8.setCell i b=wx at *
  obtain⟨t0,R,t2,t3,t4⟩:=Box.fiveR F.o;have IK:=aA (show ∀w',wx.grownBy w' (some w)->aY w' none 0 0 []from λw' _=>Sl.nil0);obtain⟨u0,u1,u2,u3,u4⟩:=Box.fiveR XX.o;have fz:=λq=>XX.o.frozen q
  have m:=iY wx w b (.int .i64 0) (.string ⟨f.toArray⟩) (.int .i64 0) ();have WX:=aA (Box.set5R XX.o b (.int .i64 0) (.string ⟨f.toArray⟩) (.int .i64 0) ());have WD:=aA (DX.o.grown m DX.o.size (λq a=>by injection a with a;omega));have WI:=aA (show aY (((((wx.setCell w b).setCell ⟨w,1,none⟩ (.int .i64 0)).setCell ⟨w,2,none⟩ (.string ⟨f.toArray⟩)).setCell ⟨w,3,none⟩ (.int .i64 0)).setCell ⟨w,4,none⟩ ()) none 0 0 []from IK.o _ m);clear m;go_wp2
  generalize (((((wx.setCell w b).setCell ⟨w,1,none⟩ (.int .i64 0)).setCell ⟨w,2,none⟩ (.string ⟨f.toArray⟩)).setCell ⟨w,3,none⟩ (.int .i64 0)).setCell ⟨w,4,none⟩ ())=ww at *
  obtain⟨z0,U,z2,z3,z4⟩:=Box.fiveR WX.o;exact aU (v:=.agg #[b,(0:Int),.string ⟨f.toArray⟩,(0:Int),()]) (by simp[results,Tryz.results5,go_sem,z0,U,z2,z3,z4]) rfl ((λw' _ hw=>(⟨⟨b,0,f,0,[]⟩,none,0,0,rfl,Sl.nil0,EQ.o,hw⟩:oG s w (.returned (Tu (b) (0) (f) (0) none 0 0)) w')) ww WI.o WD.o)
 have g8:(b != 0)=false:=by simp[h3]
 have E3:=aA (show ¬(hJ (eL (jG s).1).2).2≠0 by rw[<-HG.o.2,h3];exact λh=>h rfl);have g9:=aA h3;have a0:=aA (show n7<=24 from by have:=N8 (oP.1 E3.o);rw[<-HG.o.1,c6.o.len]at this;exact this);have CJ:=aA (KV (P:=N.places) 0 1 300 c6.o (by have:=a0.o;omega));have h0:=aA (show(⟨N.places,N.trans⟩:eB)=N from rfl);rw[h0.o]at CJ;obtain⟨t0,R⟩:=T8.o.two;clear h3;go_wp2_with fail
 refine CJ.o.mono ?_;rintro e w9 ⟨A9,n9,c9,rfl,i9,d1⟩;obtain⟨r,d2⟩:=bS ((gP N 0 1 300).1.1);obtain⟨jt,e7⟩:=bS ((gP N 0 1 300).1.2.2);obtain⟨d,a1⟩:=bS ((gP N 0 1 300).2);rw[<-d2,<-e7,<-a1];have HJ:=aA (show r=(gP (hJ (eL (jG s).1).2).1 0 1 300).1.1/\d=(gP (hJ (eL (jG s).1).2).1 0 1 300).2 by rw[<-HG.o.1];exact⟨d2,a1⟩);have h5:=aA (aF w9 (.cells #[r,.slice A9 n9 c9,jt] 45));have T9:=aA (Box.new w9 #[r,.slice A9 n9 c9,jt] 45);have g:=aA (d1.trans (h5.o.mono d1.size));have k8:=aA (c6.o.keep g.o);have e8:=aA (X8.o.keep g.o);have a9:=aA (D8.o.trans (g.o.mono D8.o.size));have k9:=aA (Sl.keep cS.kept g6.o g.o);have y:=aA (Z.o.keep g.o);have b1:=aA (e6.o.trans (g.o.mono e6.o.size));have e9:=aA (T8.o.keep g.o);have l1:=aA (bD Z.o.lt g.o.size);have f0:=aA (aJ.keep (bT.kept _) (g7.o g9.o) g.o);clear i9 d1 d2 e7 a1 CJ t0 R;go_upto_region 13 with fail
 generalize w9.alloc (.cells #[r,.slice A9 n9 c9,jt] 45)=G at *
 generalize w9.heap.size=b9 at T9;by_cases h4:d=0
 rotate_left
 .have h6:(d != 0)=true:=by simp[h4]
  have EQ:=aA (show lU s ⟨d,0,f,0,[]⟩ by unfold lU;rw[aD E1.o,aD E2.o,aD E3.o,aG (by rw[<-HJ.o.2];exact h4),c0.o,HJ.o.2]);clear h4;obtain⟨t0,R,t2,t3,t4⟩:=Box.fiveR y.o;have fy:=y.o.frozen 0;have M:=dI G i 0 d;have F:=aA (show Box (G.setCell i d) i 26 #[d,(0:Int),.string ⟨f.toArray⟩,(0:Int),()]from by have:=y.o.set 0 d;simpa using this);have XX:=aA (e8.o.grown M (λe=>by injection e with e;have:=p.o;omega));have DX:=aA (a9.o.grown M a9.o.size (λq a=>by injection a with a;have:=p.o;omega));clear M;go_upto_region 15 with fail
  clear t0 R t2 t3 t4 fy;generalize G.setCell i d=wx at *
  obtain⟨t0,R,t2,t3,t4⟩:=Box.fiveR F.o;have IK:=aA (show ∀w',wx.grownBy w' (some w)->aY w' none 0 0 []from λw' _=>Sl.nil0);obtain⟨u0,u1,u2,u3,u4⟩:=Box.fiveR XX.o;have fz:=λq=>XX.o.frozen q
  have m:=iY wx w d (.int .i64 0) (.string ⟨f.toArray⟩) (.int .i64 0) ();have WX:=aA (Box.set5R XX.o d (.int .i64 0) (.string ⟨f.toArray⟩) (.int .i64 0) ());have WD:=aA (DX.o.grown m DX.o.size (λq a=>by injection a with a;omega));have WI:=aA (show aY (((((wx.setCell w d).setCell ⟨w,1,none⟩ (.int .i64 0)).setCell ⟨w,2,none⟩ (.string ⟨f.toArray⟩)).setCell ⟨w,3,none⟩ (.int .i64 0)).setCell ⟨w,4,none⟩ ()) none 0 0 []from IK.o _ m);clear m;go_wp2
  generalize (((((wx.setCell w d).setCell ⟨w,1,none⟩ (.int .i64 0)).setCell ⟨w,2,none⟩ (.string ⟨f.toArray⟩)).setCell ⟨w,3,none⟩ (.int .i64 0)).setCell ⟨w,4,none⟩ ())=ww at *
  obtain⟨z0,U,z2,z3,z4⟩:=Box.fiveR WX.o;exact aU (v:=.agg #[d,(0:Int),.string ⟨f.toArray⟩,(0:Int),()]) (by simp[results,Tryz.results5,go_sem,z0,U,z2,z3,z4]) rfl ((λw' _ hw=>(⟨⟨d,0,f,0,[]⟩,none,0,0,rfl,Sl.nil0,EQ.o,hw⟩:oG s w (.returned (Tu (d) (0) (f) (0) none 0 0)) w')) ww WI.o WD.o)
 have h6:(d != 0)=false:=by simp[h4]
 have E4:=aA (show ¬(gP (hJ (eL (jG s).1).2).1 0 1 300).2≠0 by rw[<-HJ.o.2,h4];exact λh=>h rfl);clear h4;have t0:=T9.o.cell 0;obtain⟨v0,v1,v2,v3,v4⟩:=Box.fiveR y.o;have fy:=y.o.frozen 3;have M:=dI G i 3 r;have F:=aA (show Box (G.setCell ⟨i,3,none⟩ r) i 26 #[(0:Int),(0:Int),.string ⟨f.toArray⟩,r,()]from by have:=y.o.set 3 r;simpa using this);have XX:=aA (e8.o.grown M (λe=>by injection e with e;have:=p.o;omega));have h7:=aA (e9.o.grown M (λe=>by injection e with e;have:=d0.o;omega));have DX:=aA (a9.o.grown M a9.o.size (λq a=>by injection a with a;have:=p.o;omega));have f1:=aA (b1.o.grown M b1.o.size (λq a=>by injection a with a;have:=e5.o;omega));have f2:=aA (gK (j:=3) (u:=r) f0.o W7.o).o;have d3:=aA (show i<(G.setCell ⟨i,3,none⟩ r).heap.size from F.o.lt);clear M;go_upto_region 17 with fail
 clear v0 v1 v2 v3 v4 fy t0;generalize h8:G.setCell ⟨i,3,none⟩ r=wL at *
 clear h8;have a2:=aA (show(jG s).1.length=n/\n<=60 from⟨LL.o.len,by rw[<-LL.o.len];exact(fX.1 e0.o.1).1⟩);go_wp2
 go_loopg [63] n (λgk h9 wr=>∃(k:Nat) (v:Value) (cs:LIn),h9=.int .i64 (k:Nat)/\Hid (k+gk=n)/\Hid (aI wr wL v k cs)/\Hid (vL N ((jG s).1.take k) cs)/\Hid (wL.grownBy wr (some i))/\Hid (Box wr i 26 #[(0:Int),(0:Int),.string ⟨f.toArray⟩,r,v]))
 case atStart=>exact⟨0,_,[],rfl,aA (by omega),aA aJ.nil,aA ⟨rfl,λk t c h=>by simp at h⟩,aA ⟨rfl,rfl,rfl,aB _,λ_ _ _=>rfl⟩,F⟩
 clear F;obtain⟨k,v,cs,rfl,f3,OB,CP,O,TX⟩:=hrel;obtain⟨AV,cV,rfl,iv⟩:=OB.o.sl (by have:=f3.o;have:=a2.o;omega);have IV:=aA iv;have XR:=aA (XX.o.grown O.o (λe=>by injection e with e;have:=p.o;omega));have DR:=aA (DX.o.grown O.o DX.o.size (λq a=>by injection a with a;have:=p.o;omega));clear iv;by_cases hk:k<n
 rotate_left
 .have i0:¬(k:Int)<(n:Int):=by omega
  have EQ:=aA (show lU s ⟨0,0,f,r,cs⟩from by
   have E:=CP.o;rw[aW (by rw[a2.o.1];omega)]at E;unfold lU;rw[aD E1.o,aD E2.o,aD E3.o,aD E4.o];exact⟨rfl,rfl,c0.o,HJ.o.1,by rw[<-HG.o.1];exact E⟩)
  obtain⟨t0,R,t2,t3,t4⟩:=Box.fiveR TX.o;have IK:=aA (show ∀w',wr.grownBy w' (some w)->aY w' AV k cV cs from λw' hg=>aY.keepRow IV.o hg (.inr (λe=>by have:=(OB.o.lt _ e.symm).1;have:=d3.o;have:=p.o;omega)));clear hk;obtain⟨u0,u1,u2,u3,u4⟩:=Box.fiveR XR.o;have fz:=λq=>XR.o.frozen q
  have m:=iY wr w (.int .i64 0) (.int .i64 0) (.string ⟨f.toArray⟩) r (.slice AV k cV);have WX:=aA (Box.set5R XR.o (.int .i64 0) (.int .i64 0) (.string ⟨f.toArray⟩) r (.slice AV k cV));have WD:=aA (DR.o.grown m DR.o.size (λq a=>by injection a with a;omega));have WI:=aA (show aY (((((wr.setCell w (.int .i64 0)).setCell ⟨w,1,none⟩ (.int .i64 0)).setCell ⟨w,2,none⟩ (.string ⟨f.toArray⟩)).setCell ⟨w,3,none⟩ r).setCell ⟨w,4,none⟩ (.slice AV k cV)) AV k cV cs from IK.o _ m);clear m;go_wp2
  generalize (((((wr.setCell w (.int .i64 0)).setCell ⟨w,1,none⟩ (.int .i64 0)).setCell ⟨w,2,none⟩ (.string ⟨f.toArray⟩)).setCell ⟨w,3,none⟩ r).setCell ⟨w,4,none⟩ (.slice AV k cV))=ww at *
  obtain⟨z0,U,z2,z3,z4⟩:=Box.fiveR WX.o;exact aU (v:=.agg #[(0:Int),(0:Int),.string ⟨f.toArray⟩,r,.slice AV k cV]) (by simp[results,Tryz.results5,go_sem,z0,U,z2,z3,z4]) rfl ((λw' hi hw=>(⟨⟨0,0,f,r,cs⟩,AV,k,cV,rfl,hi,EQ.o,hw⟩:oG s w (.returned (Tu 0 0 f r AV k cV)) w')) ww WI.o WD.o)
 have i0:(k:Int)<(n:Int):=by omega
 have i1:=aA (Sl.keep cS.kept g5.o (f1.o.grown O.o f1.o.size (λq a=>by injection a with a;have:=e5.o;omega)));obtain⟨bb,l0,t,Bt,mt,dt,eA,i2,b2,q0,it,i3⟩:=cQ.get i1.o hk;subst eA;have b0:=aA (show gk-1<gk/\(k+1)+(gk-1)=n/\k<=60 by have:=f3.o;have:=a2.o;omega);have l2:IntKind.i64.wrap ((k:Int)+1)=((k+1:Nat):Int):=by
  have:=b0.o;simp[IntKind.wrap,IntKind.bits,IntKind.signed];omega
 have i4:=aA (aJ.kept f2.o O.o (.inr (λe=>by have:=(f2.o.lt _ e).1;have:=W7.o;omega)) (λvs x hx=>hx.far O.o W7.o));have j0:=aA (show eC wr A7 n7 c7 N.trans from by
  obtain⟨C',c2,hv,hs⟩:=i4.o.sl (by have:=a0.o;omega);injection hv with e1 e2 e3;subst e1 e3;exact hs.imp (λ_ _ h=>h.tran))
 have j1:=aA (h7.o.grown O.o (λe=>by injection e with e;have:=d0.o;omega));have CA:=aA (LC (P:=N.places) 0 1 j0.o (by have:=a0.o;omega) it);obtain⟨z0,U⟩:=j1.o.two;clear i2 it i3 hk;go_wp2_with fail
 refine CA.o.mono ?_;rintro e wq ⟨Aa,na,ca,z,kk,rfl,f4,_,C⟩;have j2:=aA (show q6 N 0 1 t z kk from f4);have f5:=aA (TX.o.keep C);have k0:=aA (aJ.keep fG.kept OB.o C);have Q:=aA (show wL.grownBy wq (some i)from⟨C.os.trans O.o.os,C.tape.trans O.o.tape,C.output.trans O.o.output,aT O.o.size C.size,λq a d4=>(C.block q (bD a O.o.size)).trans (O.o.block q a d4)⟩);have hB:wL.heap.size<=wq.heap.size:=aT O.o.size C.size;have k1:(k+1)*8<=140737488355328:=by have:=b0.o;omega
 have k2:k+1<=281474976710656:=by omega
 have d4:(Value.slice AV k cV).ownBlock≠some i:=λe=>by have:=(OB.o.lt _ e).1;have:=d3.o;omega
 have k3:=aA (show vL N ((jG s).1.take (k+1)) (cs++[z])from by
  refine⟨by rw[bL,CP.o.1,cP,b2.o];simp,λj t' c' E K=>?_⟩;rw[cP,b2.o]at E;have hl:((jG s).1.take k).length=cs.length:=CP.o.1.symm;by_cases hj:j<cs.length
  .rw[fO (by omega)]at E;rw[fO hj]at K;exact CP.o.2 j t' c' E K
  have k4:j=cs.length:=by have:=(aR.1 K).1;simp at this;omega
  subst k4;rw[j7 (by omega),hl,jL]at E;rw[j7 (by omega),jL]at K;simp at E K;subst E K;exact⟨kk,j2.o⟩)
 obtain⟨y0,y1,y2,y3,y4⟩:=Box.fiveR f5.o;have RD:=aA (show cD fG 1 wq [.int .i64 z] [z]from cD.one (vs:=λ_=>.int .i64 z) rfl rfl (λj hj=>by obtain rfl:j=0:=(by omega);rfl));clear f4 C CA z0 U q0;go_wp2_with (at_builtin;refine dJ (v:=.slice AV k cV) iO rfl _ _ rfl [z] #[z] rfl rfl rfl rfl (by simp[Value.oneCell']) k0.o RD.o rfl hB k2 k1 (λ_ _ _ _ h=>h) ?_;intro v8 w8 a3 H k5;obtain⟨A8,c8,rfl,_⟩:=a3.sl (by omega);have O8:=aA a3;have d5:=aA (f5.o.grown H d4);have G8:=aA (show wL.grownBy w8 (some i)from⟨H.os.trans Q.o.os,H.tape.trans Q.o.tape,H.output.trans Q.o.output,aT Q.o.size H.size,λq a k6=>(H.block q (bD a Q.o.size) (λe=>by have:=(OB.o.lt q e.symm).1;omega)).trans (Q.o.block q a k6)⟩);have l3:=d5.o.cell 4;have fy:=d5.o.frozen 4;clear a3 H k5)
 have m:=dI w8 i 4 (.slice A8 (k+1) c8);have O9:=aA (show aI (w8.setCell ⟨i,4,none⟩ (.slice A8 (k+1) c8)) wL (.slice A8 (k+1) c8) (k+1) (cs++[z])from by
  refine aJ.kept O8.o m ?_ (λ_ _ h=>h);cases hv:(Value.slice A8 (k+1) c8).ownBlock with
  | none=>exact .inl rfl
  | some q=>exact .inr (λe=>by injection e with e;have:=(O8.o.lt q hv).1;have:=d3.o;omega))
 have G9:=aA (show wL.grownBy (w8.setCell ⟨i,4,none⟩ (.slice A8 (k+1) c8)) (some i)from NW G8.o m);have k7:=aA (show Box (w8.setCell ⟨i,4,none⟩ (.slice A8 (k+1) c8)) i 26 #[(0:Int),(0:Int),.string ⟨f.toArray⟩,r,.slice A8 (k+1) c8]from by have:=d5.o.set 4 (.slice A8 (k+1) c8);simpa using this);clear m;go_roundg (gk-1)
 case measure=>exact b0.o.1
 exact⟨k+1,.slice A8 (k+1) c8,cs++[z],rfl,aA b0.o.2.1,O9,k3,G9,k7⟩
