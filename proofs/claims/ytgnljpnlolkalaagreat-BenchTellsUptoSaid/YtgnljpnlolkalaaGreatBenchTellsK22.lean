/- The contract of IJudge. Conditions: the net reads as a list. | The law SoundJudges as a call: it returns true. Conditions: the net reads as a list. -/
import Derived.Test.YtgnljpnlolkalaaGreatBenchTellsK16
import Derived.Test.YtgnljpnlolkalaaGreatBenchTellsK17
set_option linter.all false
set_option maxRecDepth 100000
set_option maxHeartbeats 4000000
namespace Go.Proofs.YtgnljpnlolkalaaGreat
open Go.RowKit
def Ju {bs:List Bool}{k:Nat}(h:∀i,i<k->bs[i]?=some true)(a:bs[k]?=some false):bs.findIdx? (λy=>false==y)=some k:=by
 rw[q8];obtain⟨b,c⟩:=aR.1 a;refine⟨b,by rw[c];rfl,λi d=>?_⟩;obtain⟨f,e⟩:=aR.1 (h i d);rw[e];simp
def Jv {bs:List Bool}(h:∀i,i<bs.length->bs[i]?=some true):bs.findIdx? (λy=>false==y)=none:=by
 rw[List.findIdx?_eq_none_iff];intro x b;obtain⟨j,a⟩:=l6.1 b;rw[h j (aR.1 a).1]at a;injection a with a;rw[<-a];rfl
def Tv {ms:LLi}{E:LIn}(g:ms.Nodup):∀k,k<=ms.length->U8 (λm=>m==E) ms k=(eH (ms.take k) E).elim [] (λa=>[(a:Int)]):=by
 intro k;induction k with
 | zero=>intro _;rfl
 | succ k i =>
  intro n;have c:ms[k]?=some (ms[k]'(by omega)):=aV _;rw[Je c,i (by omega),bX c,vT];by_cases b:E=ms[k]'(by omega)
  .have d:eH (ms.take k) E=none:=by
    cases d:eH (ms.take k) E with
    | none=>rfl
    | some a =>
     exfalso
     have e:=kM d;have j:=(aR.1 e).1;rw[dT]at j;rw[sB (by omega)]at e;have f:=yK g e;rw[b,yK g c]at f;injection f with f;omega
   rw[d];have l:(ms.take k).length=k:=by rw[dT];omega
   simp[<-b,l]
  have:((ms[k]'(by omega))==E)=false:=by simpa using λh=>b h.symm
  simp only[this];cases eH (ms.take k) E with
  | some a=>simp
  | none=>simp[b]
open Classical in
def YH {s:PSp}{E:LIn}(c:s.marks.Nodup){k:Nat}(b:k<s.marks.length):(onL s E)[k]?=some (match eH s.marks E with|some a=>decide (kV (nxt s.arcs) (a:Int) (k:Int))|none=>false):=by
 unfold onL;rw[Tv c _ (aB _),aW (aB _)];cases eH s.marks E with
 | some a=>simp[mV,b]
 | none=>simp[mV,b]
def Cf {w:World}{P:Int}{A:OAd}{n c:Nat}{ts:List bG}(i o most:Int)(h:eC w A n c ts)(hn:n<=2513169434916) :
  Calls Tryz.prog 18 #[.agg #[P,.slice A n c],.int .i64 i,o,most] w (Zx (gP ⟨P,ts⟩ i o most) w):=by
 generalize hw:((w.alloc (.cells #[P,.slice A n c] 41)).alloc (.cells #[(0:Int),(),(0:Int)] 45))=w0;have HB:=aA (show Below w w w0 by rw[<-hw];exact((aH _ _).alloc (aB _) _).alloc (by simp) _);have X0:=aA (show Box w0 w 41 #[P,.slice A n c] by rw[<-hw];exact(Box.new _ _ _).old _);have X1:=aA (show Box w0 (w.heap.size+1) 45 #[(0:Int),(),(0:Int)] by rw[<-hw];exact Box.newAt (by simp) _ _);have H:=aA (h.keep HB.o);have CW:=aA (mU (P:=P) i o H.o hn);have JW:=aA (xR (N:=⟨P,ts⟩) (i:=i) (o:=o) (most:=most));have JE:=aA (λ(g:PSp×Int)=>Ee (N:=⟨P,ts⟩) (i:=i) (o:=o) (most:=most) (g:=g));have JY:=aA (λ(s:PSp)=>Ef (N:=⟨P,ts⟩) (i:=i) (o:=o) (most:=most) (s:=s));clear h;obtain⟨R,hR⟩:=aK (gP ⟨P,ts⟩ i o most);rw[hR]at JW;simp only[hR]at JE JY;rw[hR];clear hR;have S2:=aA (λhs=>pL (N:=⟨P,ts⟩) (i:=i) (o:=o) hs);obtain⟨sw,c7⟩:=aK (eE ⟨P,ts⟩ i o);rw[c7]at JW CW S2;simp only[c7]at JE JY;clear c7;go_enter Tryz.func18,Tryz.ntmps18
 go_upto_region 1 with fail
 clear hw;obtain⟨a0,a1⟩:=X0.o.two;obtain⟨z0,z1,z2⟩:=X1.o.three;by_cases e8:sw=0
 .subst e8;obtain⟨p2,g6⟩:=S2.o rfl;go_upto_region 4 with(go_at_call 47;go_loud ((with_reducible refine CW.o.mono ?_);rintro e w1 ⟨rfl,a2⟩;have Z:=aA a2;clear a2))
  have r:=aA (X0.o.keep Z.o).drew;have Y1:=aA (X1.o.keep Z.o).drew;have BZ:=aA (HB.o.trans (Z.o.mono HB.o.size)).drew;have H1:=aA (show eC w1.drew A n c ts from(H.o.keep Z.o).keep ⟨rfl,rfl,rfl,aB _,λ_ _=>rfl⟩);obtain⟨pn,a3⟩:=aK ((min P 16).toNat);have c8:=aA a3;obtain⟨g,hg⟩:=aK (eD ⟨P,ts⟩ (lX pn i) most);have j1:P<=16:=((bN _).1 g6).2.1;have j2:2<=pn:=by omega
  have c9:=aA (λ(he:g.2≠0)=>JE.o g (by first|rfl|trivial) (by rw[a3];exact hg) he);have d0:=aA (λ(s:PSp) (he:g=(s,0))=>JY.o s (by first|rfl|trivial) (by rw[a3,hg];exact he));simp only[a3]at d0;have d1:=aA (λ(he:g.2≠0)=>show g.1=PSp.nil by rw[<-hg];exact o0 (by rw[hg];exact he));have b3:=aA (λ(he:g.2=0)=>show(1<=most/\most<=300)/\tD ⟨P,ts⟩ most.toNat g.1 by rw[<-hg];exact kN (by rw[hg];exact he));have d2:=aA (λ(he:g.2=0)=>show g.1.arcs.length<=7200 by rw[<-hg];exact qR (by rw[hg];exact he));have CG:=aA (λ(w':World) (C:OAd) (kc:Nat) (z:Below w1.drew w1.drew w') (D:aY w' C pn kc (lX pn i))=>show Calls _ _ _ _ (qH g w') by rw[<-hg];exact tN (P:=P) most (H1.o.keep z) D);have Q:=aA (aH w1.drew w1.drew);have ML:=aA (show ∀x∈g.1.marks,2<=x.length from λx S=>by
   by_cases he:g.2=0
   .have:=((cR _ _).1 ((b3.o he).2.fits x S)).2.1;simp only at this;omega
   rw[d1.o he]at S;cases S)
  clear hg a3 JE JY JW S2 X0 X1 HB H Z a0 a1 z0 z1 z2;obtain⟨s,k⟩:=g;simp only at d1 b3 ML c9 d2;obtain⟨a0,a1⟩:=r.o.two;refine aN 11 (.takes [0,1,2,4] (.two 3 (.two 5 (.takes [6,7,8] (.one 9 (.one 10 (.fin 11 .done)))) 9 (.one 5 (.takes [6,7,8] (.one 10 (.fin 11 .done))))) 9 (.one 3 (.one 5 (.takes [6,7,8] (.one 10 (.fin 11 .done))))))) (λw'=>w'.cell? w=some (.int .i64 P)/\w'.cell? ⟨w,1,none⟩=some (.slice A n c)) (by kernel_rfl) (by kernel_rfl) (by kernel_rfl) (λ_ _ _ _ _ h=>h) ⟨a0,a1⟩ (λF=>?_);simp only[Scr.takes];generalize w1.drew=u0 at *
  iterate 4
   refine aM (v:=?_) rfl (by rfl) F (λw' d3=>?_) ?_
   rotate_left
   ·(go_simp;try with_reducible rfl)
   try simp only[aC]
  refine DY (.fin 11 .done) (λa0 a' w'=>∃(C:OAd) (kc:Nat) (U:OAd) (J:Nat) (V:OAd) (cv b4:Nat),a'=((((((a0.put (some 34) (.slice C pn kc)).put (some 36) (.tuple #[.agg #[.slice U s.marks.length J,.slice V s.arcs.length cv],.int .i64 k])).put (some 30) (.tuple #[.agg #[.slice U s.marks.length J,.slice V s.arcs.length cv],.int .i64 k])).put (some 37) (.agg #[.slice U s.marks.length J,.slice V s.arcs.length cv])).put (some 38) (.int .i64 k)).put (some 11) (.pointer b4))/\Hid (Box w' b4 78 #[.slice U s.marks.length J,.slice V s.arcs.length cv])/\Hid (cQ w' U s.marks.length J s.marks)/\Hid (qD w' V s.arcs.length cv s.arcs)/\Hid (Below u0 u0 w')) ?_ (λEN=>?_)
  rotate_left
  .refine mN rfl rfl (λKf f=>?_) (λKf f=>?_)
   rotate_left
   .go_simp
    have u:=aA (show Below u0 u0 (u0.alloc (.cells #[(),()] 78))from Q.o.alloc Q.o.size _);have g8:=aA (show Box (u0.alloc (.cells #[(),()] 78)) u0 78 #[(),()]from Box.new _ _ _);have g9:=aA (show u0.heap.size<=u0.heap.size from Q.o.size);refine f.out _ _ ⟨(r.o.keep u.o).two.1,(r.o.keep u.o).two.2⟩ (λF=>?_);clear f;try simp only[aC]
    generalize u0.alloc (.cells #[(),()] 78)=u1 at *
    refine bK rfl (λKf f=>?_);go_simp;go_at_call 49
    (with_reducible refine(fU u1 P i A n c).mono ?_)
    rw[c8.o];rintro e u2 ⟨C,kc,rfl,D,z,_⟩;have d4:=aA D;have d5:=aA (g8.o.keep z);have m:=aA (u.o.trans (z.mono u.o.size));clear D z;refine f.out _ _ ⟨(r.o.keep m.o).two.1,(r.o.keep m.o).two.2⟩ (λF=>?_);clear f;try simp only[aC]
    refine bK rfl (λKf f=>?_);go_simp;go_at_call 48
    (with_reducible refine(CG.o u2 _ _ m.o d4.o).mono ?_)
    rintro e u3 ⟨U,J,V,cv,rfl,hL,hA,z⟩;have a4:=aA hL;have a5:=aA hA;have l:=aA (d5.o.keep z);have B:=aA (m.o.trans (z.mono m.o.size));clear hL hA z;refine f.out _ _ ⟨(r.o.keep B.o).two.1,(r.o.keep B.o).two.2⟩ (λF=>?_);clear f
    iterate 3
     refine aM (v:=?_) rfl (by rfl) F (λw' d3=>?_) ?_
     rotate_left
     ·(go_simp;try with_reducible rfl)
     try simp only[aC]
    refine bK rfl (λKf f=>?_);obtain⟨s0,s1⟩:=l.o.two;have e9:=l.o.frozen 0;have f3:=l.o.frozen 1;go_simp
    have G:=aA (cX B.o (aB _) g9.o (.slice U s.marks.length J) (.slice V s.arcs.length cv));refine f.out _ _ ⟨(r.o.keep G.o).two.1,(r.o.keep G.o).two.2⟩ (λF=>?_);clear f;try simp only[aC]
    exact EN.o _ _ ⟨C,kc,U,J,V,cv,u0.heap.size,rfl,aA (l.o.set2 _ _),aA (cQ.besideZ a4.o ML.o l.o _ _),aA (qD.besideZ a5.o l.o _ _),G⟩ F
   go_simp;go_at_call 49
   (with_reducible refine(fU u0 P i A n c).mono ?_)
   rw[c8.o];rintro e u1 ⟨C,kc,rfl,D,z,_⟩;have f4:=aA D;have u:=aA (Q.o.trans (z.mono Q.o.size));clear D z;refine f.out _ _ ⟨(r.o.keep u.o).two.1,(r.o.keep u.o).two.2⟩ (λF=>?_);clear f;try simp only[aC]
   refine mN rfl rfl (λKf f=>?_) (λKf f=>?_)
   .go_simp;go_at_call 48
    (with_reducible refine(CG.o u1 _ _ u.o f4.o).mono ?_)
    rintro e u2 ⟨U,J,V,cv,rfl,hL,hA,z⟩;have h0:=aA hL;have h1:=aA hA;have m:=aA (u.o.trans (z.mono u.o.size));clear hL hA z;refine f.out _ _ ⟨(r.o.keep m.o).two.1,(r.o.keep m.o).two.2⟩ (λF=>?_);clear f
    iterate 3
     refine aM (v:=?_) rfl (by rfl) F (λw' d3=>?_) ?_
     rotate_left
     ·(go_simp;try with_reducible rfl)
     try simp only[aC]
    refine bK rfl (λKf f=>?_);go_simp
    have B:=aA (show Below u0 u0 (u2.alloc (.cells #[(),()] 78))from m.o.alloc m.o.size _);have l:=aA (show Box (u2.alloc (.cells #[(),()] 78)) u2 78 #[(),()]from Box.new _ _ _);have h2:=aA (show u0.heap.size<=u2.heap.size from m.o.size);have a4:=aA (Sl.keep cS.kept h0.o ((aH u2 u2).alloc (aB _) (.cells #[(),()] 78)));have a5:=aA (Sl.keep qC.kept h1.o ((aH u2 u2).alloc (aB _) (.cells #[(),()] 78)));refine f.out _ _ ⟨(r.o.keep B.o).two.1,(r.o.keep B.o).two.2⟩ (λF=>?_);clear f;try simp only[aC]
    generalize u2.alloc (.cells #[(),()] 78)=u3 at *
    refine bK rfl (λKf f=>?_);obtain⟨s0,s1⟩:=l.o.two;have e9:=l.o.frozen 0;have f3:=l.o.frozen 1;go_simp
    have G:=aA (cX B.o (aB _) h2.o (.slice U s.marks.length J) (.slice V s.arcs.length cv));refine f.out _ _ ⟨(r.o.keep G.o).two.1,(r.o.keep G.o).two.2⟩ (λF=>?_);clear f;try simp only[aC]
    exact EN.o _ _ ⟨C,kc,U,J,V,cv,u2.heap.size,rfl,aA (l.o.set2 _ _),aA (cQ.besideZ a4.o ML.o l.o _ _),aA (qD.besideZ a5.o l.o _ _),G⟩ F
   go_simp
   have m:=aA (show Below u0 u0 (u1.alloc (.cells #[(),()] 78))from u.o.alloc u.o.size _);have d5:=aA (show Box (u1.alloc (.cells #[(),()] 78)) u1 78 #[(),()]from Box.new _ _ _);have h3:=aA (show u0.heap.size<=u1.heap.size from u.o.size);have d4:=aA (Sl.keep fG.kept f4.o ((aH u1 u1).alloc (aB _) (.cells #[(),()] 78)));refine f.out _ _ ⟨(r.o.keep m.o).two.1,(r.o.keep m.o).two.2⟩ (λF=>?_);clear f;try simp only[aC]
   generalize u1.alloc (.cells #[(),()] 78)=u2 at *
   refine bK rfl (λKf f=>?_);go_simp;go_at_call 48
   (with_reducible refine(CG.o u2 _ _ m.o d4.o).mono ?_)
   rintro e u3 ⟨U,J,V,cv,rfl,hL,hA,z⟩;have a4:=aA hL;have a5:=aA hA;have l:=aA (d5.o.keep z);have B:=aA (m.o.trans (z.mono m.o.size));clear hL hA z;refine f.out _ _ ⟨(r.o.keep B.o).two.1,(r.o.keep B.o).two.2⟩ (λF=>?_);clear f
   iterate 3
    refine aM (v:=?_) rfl (by rfl) F (λw' d3=>?_) ?_
    rotate_left
    ·(go_simp;try with_reducible rfl)
    try simp only[aC]
   refine bK rfl (λKf f=>?_);obtain⟨s0,s1⟩:=l.o.two;have e9:=l.o.frozen 0;have f3:=l.o.frozen 1;go_simp
   have G:=aA (cX B.o (aB _) h3.o (.slice U s.marks.length J) (.slice V s.arcs.length cv));refine f.out _ _ ⟨(r.o.keep G.o).two.1,(r.o.keep G.o).two.2⟩ (λF=>?_);clear f;try simp only[aC]
   exact EN.o _ _ ⟨C,kc,U,J,V,cv,u1.heap.size,rfl,aA (l.o.set2 _ _),aA (cQ.besideZ a4.o ML.o l.o _ _),aA (qD.besideZ a5.o l.o _ _),G⟩ F
  rintro a' w4 ⟨C,kc,U,J,V,cv,b4,rfl,SX,SL,SA,SB⟩ F;try simp only[aC]
  refine cH rfl (λKf f=>?_);go_simp
  refine f.out _ _ ?_;clear f;try simp only[aC]
  refine cE ?_;clear F a0 a1;have Z0:=aA (r.o.keep SB.o);have Z1:=aA (Y1.o.keep SB.o);have H4:=aA (H1.o.keep SB.o);have B4:=aA (BZ.o.trans (SB.o.mono BZ.o.size));have HN:=aA (show ts.length=n from H4.o.len);clear r Y1 H1 BZ SB CG Q;obtain⟨z0,z1,z2⟩:=Z1.o.three;have f0:=Z1.o.frozen 0;have f1:=Z1.o.frozen 1;have f2:=Z1.o.frozen 2;by_cases hk:k=0
  rotate_left
  .have RE:=aA (c9.o hk);go_wp2
   obtain⟨T,W,K⟩:=(Z1.o.set3 (.int .i64 0) () (.int .i64 0)).three;have X:=eW B4.o (show w.heap.size<=w.heap.size+1 by omega) (.int .i64 0) () (.int .i64 0);exact aU (v:=.tuple #[.agg #[(0:Int),(),(0:Int)],.int .i64 k]) (by simp[results,Tryz.results18,go_sem,T,W,K]) rfl (by rw[RE.o];exact⟨none,0,0,rfl,Sl.nil0,X⟩)
  subst hk;obtain⟨d6,d7⟩:=b3.o rfl;have SP:=aA d7;have f5:s.marks.length<=300:=by have:=d7.few;omega
  have RE:=aA (d0.o s rfl);have h4:s.arcs.length<=7200:=d2.o rfl;clear d7 b3 d1 c9 d0 d6 d2;obtain⟨a0,a1⟩:=Z0.o.two;go_upto_region 8 with(go_at_call 49;go_loud ((with_reducible refine(fU w4 P o A n c).mono ?_);rw[c8.o];rintro e w6 ⟨CE,kE,rfl,D,z,_⟩;have h5:=aA D;have D6:=aA z;clear D z))
  have X6:=aA (SX.o.keep D6.o);have L6:=aA (Sl.keep cS.kept SL.o D6.o);have A6:=aA (Sl.keep qC.kept SA.o D6.o);have r:=aA (Z0.o.keep D6.o);have Y1:=aA (Z1.o.keep D6.o);have B6:=aA (B4.o.trans (D6.o.mono B4.o.size));clear SX SL SA Z0 Z1 B4 D6 CW H4 z0 z1 z2 f0 f1 f2 a0 a1;generalize lX pn o=E at *
  obtain⟨DL,b5⟩:=aK (qQ s.arcs (min (ts.length:Int) 24).toNat);rw[b5]at RE;rw[HN.o]at b5;have h6:=aA b5;obtain⟨L1,e0⟩:=aK (s.marks.length);have L:=aA e0;rw[e0]at L6 X6 f5;have c0:w6.cell? b4=some (.slice U L1 J):=X6.o.cell 0;clear e0 b5;go_wp2
  go_loopw [14,49] (λtv jv wr=>∃j:Nat,j<=L1/\jv=j/\tv=.int .i64 (toV (eH (s.marks.take j) E))/\Hid (Below w6 w6 wr)/\Hid (∀i,i<j->∀y,s.marks[i]?=some y->iV E y=false)) (λ_ jv _=>L1-(intOf jv).toNat)
  case atStart=>exact⟨0,aL _,rfl,rfl,aA (aH _ _),aA (λi D=>absurd D (by omega))⟩
  obtain⟨j,hj,rfl,rfl,I,e1⟩:=hrel;by_cases h7:j<L1
  .have k3:(j:Int)<(L1:Int):=by omega
   obtain⟨b,h8,x,A2,n2,c2,rfl,z,S,q0,i2,_⟩:=cQ.get (Sl.keep cS.kept L6.o I.o) h7;have f6:=aA (show iV E x=false->∀i,i<j+1->∀y,s.marks[i]?=some y->iV E y=false from λhf i D y hy=>by
    by_cases h9:i=j
    .subst h9;rw[S.o]at hy;injection hy with hy;rw[<-hy];exact hf
    exact e1.o i (by omega) y hy)
   have b6:=aA (show 2<=n2 by have:=ML.o x (aS S.o);rw[i2.len]at this;exact this);have F_:=aA (show iV E x=true->s.marks.find? (iV E)=some x from λhf=>Jg e1.o S.o hf);have TS:=aA (Gl (x:=E) SP.o.nodup S.o);have I2:=aA i2;have a6:=aA (Sl.keep fG.kept h5.o I.o);clear S i2;cases heq:(x==E)
   .have b7:=aA heq;have e2:=aA (show toV (eH (s.marks.take (j+1)) E)=toV (eH (s.marks.take j) E) by rw[TS.o,Bool.beq_comm,heq];rfl);cases hcv:eJ x E
    .have e3:=aA hcv;have NX:=aA (f6.o (by unfold iV;rw[hcv];rfl));clear hcv heq;go_wp2_with (first
      |(go_at_call 50;(with_reducible refine(mO (Sl.keep fG.kept I2.o BD.o) (Sl.keep fG.kept a6.o BD.o)).mono ?_);rw[e3.o];rintro e w9 ⟨rfl,M⟩;have G:=aA M.below;clear M)
      |(go_at_call 20;(with_reducible refine(dD I2.o a6.o).mono ?_);rw[b7.o];rintro e w8 ⟨rfl,M⟩;have BD:=aA M.below;clear M))
     go_roundw
     case rel=>exact⟨j+1,by omega,by go_num,by rw[e2.o],aA ((I.o.trans (BD.o.mono I.o.size)).trans (G.o.mono (I.o.trans (BD.o.mono I.o.size)).size)),NX⟩
     simp[intOf];omega
    have e3:=aA hcv;have FX:=aA (F_.o (by unfold iV;rw[hcv,heq];rfl));clear hcv heq;go_wp2_with (first
     |(go_at_call 50;(with_reducible refine(mO (Sl.keep fG.kept I2.o BD.o) (Sl.keep fG.kept a6.o BD.o)).mono ?_);rw[e3.o];rintro e w9 ⟨rfl,M⟩;have G:=aA (BD.o.trans (M.below.mono BD.o.size));have q:=aA (Y1.o.keep (I.o.trans (G.o.mono I.o.size)));clear M;obtain⟨z0,z1,z2⟩:=q.o.three;have f0:=q.o.frozen 0;have f1:=q.o.frozen 1;have f2:=q.o.frozen 2)
     |(go_at_call 20;(with_reducible refine(dD I2.o a6.o).mono ?_);rw[b7.o];rintro e w8 ⟨rfl,M⟩;have BD:=aA M.below;clear M))
    obtain⟨T,W,K⟩:=(q.o.set3 (.int .i64 2) (.slice A2 n2 c2) (.int .i64 0)).three;have X:=eW (B6.o.trans ((I.o.trans (G.o.mono I.o.size)).mono B6.o.size)) (show w.heap.size<=w.heap.size+1 by omega) (.int .i64 2) (.slice A2 n2 c2) (.int .i64 0);exact aU (v:=.tuple #[.agg #[(2:Int),.slice A2 n2 c2,(0:Int)],(0:Int)]) (by simp[results,Tryz.results18,go_sem,T,W,K]) rfl (by rw[RE.o,xT FX.o];exact⟨A2,n2,c2,rfl,aY.setV (Sl.keep fG.kept I2.o G.o) b6.o q.o _ _ _,X⟩)
   have b7:=aA heq;have e2:=aA (show toV (eH (s.marks.take (j+1)) E)=(j:Int) by rw[TS.o,Bool.beq_comm,heq];rfl);have NX:=aA (f6.o (by unfold iV;rw[heq];simp));clear heq;go_wp2_with (go_at_call 20;(with_reducible refine(dD I2.o a6.o).mono ?_);rw[b7.o];rintro e w8 ⟨rfl,M⟩;have BD:=aA M.below;clear M)
   go_roundw
   case rel=>exact⟨j+1,by omega,by go_num,by rw[e2.o],aA (I.o.trans (BD.o.mono I.o.size)),NX⟩
   simp[intOf];omega
  obtain rfl:j=L1:=by omega
  have NF:=aA (Jh (p:=iV E) (ms:=s.marks) (λi D=>e1.o i (by rw[L.o]at D;exact D)));have IN:=aA (show(∀a∈s.arcs,Inn j a.from_)/\(∀a∈s.arcs,Inn j a.to_)from⟨λa ha=>by have:=(SP.o.ends a ha).1;rw[L.o]at this;exact this,λa ha=>by have:=(SP.o.ends a ha).2.2;rw[L.o]at this;exact this⟩);have a9:s.marks.take j=s.marks:=aW (by rw[L.o];exact aB _);rw[a9];have CR:=aA (BJ (Sl.keep cS.kept L6.o I.o) (Sl.keep qC.kept A6.o I.o) (by omega) IN.o.1 IN.o.2);have g0:=aA (λ(k:Nat) (hk:k<j)=>YH (E:=E) SP.o.nodup (show k<s.marks.length by rw[L.o];exact hk));have g1:=aA (show(onL s E).length=j by unfold onL;simp[mV];exact L.o);have IC:=aA (show ∀k,k<j->(T5 s.arcs j)[k]?=some (An s.arcs j k)from λk hk=>U5 hk);have i0:=aA (show(T5 s.arcs j).length=j by simp[T5]);generalize T5 s.arcs j=MM at *
  obtain⟨fa,c5⟩:=aK (eH s.marks E);have i1:=aA (show ∀a,fa=some a->a<j from λa ha=>by have:=Uh (c5.trans ha);rw[L.o]at this;exact this);simp only[c5]at g0;rw[c5];obtain⟨tv,e4⟩:=aK (toV fa);have g2:=aA e4;rw[e4];have k0:j<=300:=f5;clear a9 c0 c5 e4;obtain⟨c0,c1⟩:=(X6.o.keep I.o).two;obtain⟨wo,i3⟩:∃wo:World,wo=wr:=⟨_,rfl⟩;subst i3;go_wp2_with (go_at_call 51;(with_reducible refine CR.o.mono ?_);rintro e w7 ⟨g7,rfl,mo,g3⟩;have MO:=aA mo;have O:=aA (I.o.trans (g3.mono I.o.size));clear mo g3 c0 c1;obtain⟨c0,c1⟩:=(X6.o.keep O.o).two)
  clear c0 c1;go_loopw [69] (λkv wr=>∃k:Nat,k<=j/\kv=.int .i64 k/\wr=w7/\Hid (∀i,i<k->(onL s E)[i]?=some true)) (λkv _=>j-(intOf kv).toNat)
  case atStart=>exact⟨0,aL _,rfl,rfl,aA (λi D=>absurd D (by omega))⟩
  obtain⟨k,hk,rfl,rfl,e5⟩:=hrel;by_cases b0:k<j
  rotate_left
  .obtain rfl:k=j:=by omega
   have c6:=aA (Jv (bs:=onL s E) (λi D=>e5.o i (by rw[g1.o]at D;exact D)));have CD:=aA (show Calls _ _ _ _ (JL DL.length DL wr) by rw[<-h6.o];exact Gk (n:Int) (Sl.keep cS.kept L6.o O.o) (Sl.keep qC.kept A6.o O.o));obtain⟨c0,c1⟩:=(X6.o.keep O.o).two;obtain⟨a0,a1⟩:=(r.o.keep O.o).two;cases DL with
   | nil =>
    have JS:=aA (xW NF.o c6.o);go_wp2_with (go_at_call 52;(with_reducible refine CD.o.mono ?_);rintro e w8 ⟨CC,kk,rfl,ii,b1,_⟩;have B8:=aA (O.o.trans (b1.mono O.o.size));clear ii b1)
    go_loopw [95] (λjv wr=>jv=.int .i64 0/\wr=w8) (λ_ _=>0)
    case atStart=>exact⟨rfl,rfl⟩
    obtain⟨rfl,rfl⟩:=hrel;have q:=aA (Y1.o.keep B8.o);obtain⟨z0,z1,z2⟩:=q.o.three;have f0:=q.o.frozen 0;have f1:=q.o.frozen 1;have f2:=q.o.frozen 2;go_wp2
    obtain⟨T,W,K⟩:=(q.o.set3 (.int .i64 1) () (.int .i64 0)).three;have X:=eW (B6.o.trans (B8.o.mono B6.o.size)) (show w.heap.size<=w.heap.size+1 by omega) (.int .i64 1) () (.int .i64 0);exact aU (v:=.tuple #[.agg #[(1:Int),(),(0:Int)],(0:Int)]) (by simp[results,Tryz.results18,go_sem,T,W,K]) rfl (by rw[RE.o,JS.o];exact⟨none,0,0,rfl,Sl.nil0,X⟩)
   | cons t DT =>
    have JS:=aA (Ap (d:=DT) (t:=t) NF.o c6.o);have k4:(0:Int)<((t::DT).length:Int):=by simp
    go_wp2_with (go_at_call 52;(with_reducible refine CD.o.mono ?_);rintro e w8 ⟨CC,kk,rfl,ii,b1,_⟩;have B8:=aA (O.o.trans (b1.mono O.o.size));obtain⟨b9,k1,y9,rfl,_,g4,q9⟩:=aY.get ii (show 0<(t::DT).length by simp);obtain rfl:t=y9:=(by have:=g4.o;simpa using this);clear ii b1 g4;(simp only[eP]at q9))
    go_loopw [95] (λjv wr=>jv=.int .i64 0/\wr=w8) (λ_ _=>0)
    case atStart=>exact⟨rfl,rfl⟩
    obtain⟨rfl,rfl⟩:=hrel;have q:=aA (Y1.o.keep B8.o);obtain⟨z0,z1,z2⟩:=q.o.three;have f0:=q.o.frozen 0;have f1:=q.o.frozen 1;have f2:=q.o.frozen 2;go_wp2
    obtain⟨T,W,K⟩:=(q.o.set3 (.int .i64 4) () t).three;have X:=eW (B6.o.trans (B8.o.mono B6.o.size)) (show w.heap.size<=w.heap.size+1 by omega) (.int .i64 4) () t;exact aU (v:=.tuple #[.agg #[(4:Int),(),t],(0:Int)]) (by simp[results,Tryz.results18,go_sem,T,W,K]) rfl (by rw[RE.o,JS.o];exact⟨none,0,0,rfl,Sl.nil0,X⟩)
  have k2:(k:Int)<(j:Int):=by omega
  obtain⟨b,h8,x,A2,n2,c2,rfl,z,S,q0,i2,_⟩:=cQ.get (Sl.keep cS.kept L6.o O.o) b0;have b6:=aA (show 2<=n2 by have:=ML.o x (aS S.o);rw[i2.len]at this;exact this);have I2:=aA i2;have g5:=aA (show(onL s E)[k]?=some false->r6 s E DL=(3,x,0)from λhf=>xU NF.o (Ju e5.o hf) S.o);have OA:=aA (g0.o k b0);obtain⟨b2,K,Y,m0,e6⟩:=MO.o.get (k:=k) (by rw[i0.o];exact b0);clear S i2;cases fa with
  | none =>
   have i4:tv=-1:=g2.o.symm;subst i4;have q:=aA (Y1.o.keep O.o);have JS:=aA (g5.o OA.o);obtain⟨z0,z1,z2⟩:=q.o.three;have f0:=q.o.frozen 0;have f1:=q.o.frozen 1;have f2:=q.o.frozen 2;clear m0 e6 Y;go_wp2
   obtain⟨T,W,K⟩:=(q.o.set3 (.int .i64 3) (.slice A2 n2 c2) (.int .i64 0)).three;have X:=eW (B6.o.trans (O.o.mono B6.o.size)) (show w.heap.size<=w.heap.size+1 by omega) (.int .i64 3) (.slice A2 n2 c2) (.int .i64 0);exact aU (v:=.tuple #[.agg #[(3:Int),.slice A2 n2 c2,(0:Int)],(0:Int)]) (by simp[results,Tryz.results18,go_sem,T,W,K]) rfl (by rw[RE.o,JS.o];exact⟨A2,n2,c2,rfl,aY.setV I2.o b6.o q.o _ _ _,X⟩)
  | some a =>
   have ha:=i1.o a rfl;have k5:(a:Int)<(j:Int):=by omega
   obtain rfl:tv=(a:Int):=g2.o.symm;have e7:K[a]?=(onL s E)[k]?:=by
    rw[IC.o k b0]at Y;injection Y with Y;rw[<-Y,Eb ha,OA.o]
   obtain⟨v,hv⟩:∃v,(onL s E)[k]?=some v:=⟨_,aV (by rw[g1.o];exact b0)⟩;rw[hv]at e7;have m1:=e6.at e7;have HV:=aA hv;clear Y e7 hv e6;cases v with
   | false =>
    have q:=aA (Y1.o.keep O.o);have JS:=aA (g5.o HV.o);obtain⟨z0,z1,z2⟩:=q.o.three;have f0:=q.o.frozen 0;have f1:=q.o.frozen 1;have f2:=q.o.frozen 2;go_wp2
    obtain⟨T,W,K⟩:=(q.o.set3 (.int .i64 3) (.slice A2 n2 c2) (.int .i64 0)).three;have X:=eW (B6.o.trans (O.o.mono B6.o.size)) (show w.heap.size<=w.heap.size+1 by omega) (.int .i64 3) (.slice A2 n2 c2) (.int .i64 0);exact aU (v:=.tuple #[.agg #[(3:Int),.slice A2 n2 c2,(0:Int)],(0:Int)]) (by simp[results,Tryz.results18,go_sem,T,W,K]) rfl (by rw[RE.o,JS.o];exact⟨A2,n2,c2,rfl,aY.setV I2.o b6.o q.o _ _ _,X⟩)
   | true =>
    have i9:=aA (show ∀i,i<k+1->(onL s E)[i]?=some true from λi D=>by
     by_cases j0:i=k
     .subst j0;exact HV.o
     exact e5.o i (by omega))
    go_wp2
    go_roundw
    case rel=>exact⟨k+1,by omega,by go_num,by first|rfl|trivial,i9⟩
    simp[intOf];omega
 .have JF:=aA (JW.o e8);have f0:=X1.o.frozen 0;have f1:=X1.o.frozen 1;have f2:=X1.o.frozen 2;go_wp2_with (go_at_call 47;(with_reducible refine CW.o.mono ?_);rintro e w1 ⟨rfl,a2⟩;have Z:=aA a2;clear a2 a0 a1 z0 z1 z2 f0 f1 f2;obtain⟨z0,z1,z2⟩:=(X1.o.keep Z.o).three;have f0:=(X1.o.keep Z.o).frozen 0;have f1:=(X1.o.keep Z.o).frozen 1;have f2:=(X1.o.keep Z.o).frozen 2)
  obtain⟨T,W,K⟩:=((X1.o.keep Z.o).set3 (.int .i64 0) () (.int .i64 0)).three;have X:=eW (HB.o.trans (Z.o.mono HB.o.size)) (show w.heap.size<=w.heap.size+1 by omega) (.int .i64 0) () (.int .i64 0);exact aU (v:=.tuple #[.agg #[(0:Int),(),(0:Int)],.int .i64 sw]) (by simp[results,Tryz.results18,go_sem,T,W,K]) rfl (by rw[JF.o];exact⟨none,0,0,rfl,Sl.nil0,X⟩)
