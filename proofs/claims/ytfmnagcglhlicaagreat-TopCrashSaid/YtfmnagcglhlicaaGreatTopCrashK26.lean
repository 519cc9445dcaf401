/- Texts melted into one: The contract of tracks.Of. Conditions: the log reads as lists. | The contracts of tracks.Onto and of the reference's VOnto. Conditions: the log and the labels read as  -/
import Derived.Test.YtfmnagcglhlicaaGreatTopCrashK25
set_option maxRecDepth 100000
set_option maxHeartbeats 8000000
namespace Go.Proofs.YtfmnagcglhlicaaGreat
open Go.RowKit Go.Maps
def Xd (log:LLi)(w:World)(e:Ending)(w':World):Prop :=
 ∃(p:aU) (er:Int) (A1 A2 A3 A4:OAd) (n1 c1 n2 c2 n3 c3 n4 c4:Nat),OfP log p er∧e=.returned (.tuple #[.agg #[.slice A1 n1 c1,.slice A2 n2 c2,.slice A3 n3 c3,.slice A4 n4 c4],.int .i64 er]) ∧
  aJ w' A1 n1 c1 p.labels∧aJ w' A2 n2 c2 p.first∧aJ w' A3 n3 c3 p.last∧wT w' A4 n4 c4 p.behind∧Below w.heap.size w w'
theorem OfP.no {log:LLi}{e:Int}(h:cP log=e)(hne:e≠0):OfP log Iu e:=⟨h.symm,by rw[if_neg (by rw[h];exact hne)]⟩
structure lD (w:World)(B:Nat)(S1 S2 S3:LIn)(S4:List (Int×Int)):Prop where
 s1:RA w B S1
 s2:RA w (B+1) S2
 s3:RA w (B+1+1) S3
 s4:Wb w (B+1+1+1) S4
theorem lD.drop1 {w w':World}{B:Nat}{S1 T1 S2 S3:LIn}{S4:List (Int×Int)}(h:lD w B S1 S2 S3 S4)(g:RA w' B T1)(hg:w.grownBy w' (some B)):lD w' B T1 S2 S3 S4 :=
 ⟨g,h.s2.beside hg (by simp;try omega),h.s3.beside hg (by simp;try omega),h.s4.beside hg (by simp;try omega)⟩
theorem lD.drop2 {w w':World}{B:Nat}{S1 T2 S2 S3:LIn}{S4:List (Int×Int)}(h:lD w B S1 S2 S3 S4)(g:RA w' (B+1) T2)(hg:w.grownBy w' (some (B+1))):lD w' B S1 T2 S3 S4 :=
 ⟨h.s1.beside hg (by simp;try omega),g,h.s3.beside hg (by simp;try omega),h.s4.beside hg (by simp;try omega)⟩
theorem lD.drop3 {w w':World}{B:Nat}{S1 T3 S2 S3:LIn}{S4:List (Int×Int)}(h:lD w B S1 S2 S3 S4)(g:RA w' (B+1+1) T3)(hg:w.grownBy w' (some (B+1+1))):lD w' B S1 S2 T3 S4 :=
 ⟨h.s1.beside hg (by simp;try omega),h.s2.beside hg (by simp;try omega),g,h.s4.beside hg (by simp;try omega)⟩
theorem lD.drop4 {w w':World}{B:Nat}{S1 S2 S3:LIn}{S4 T4:List (Int×Int)}(h:lD w B S1 S2 S3 S4)(g:Wb w' (B+1+1+1) T4)(hg:w.grownBy w' (some (B+1+1+1))):lD w' B S1 S2 S3 T4 :=
 ⟨h.s1.beside hg (by simp;try omega),h.s2.beside hg (by simp;try omega),h.s3.beside hg (by simp;try omega),g⟩
theorem lD.keep {w w':World}{B:Nat}{S1 S2 S3:LIn}{S4:List (Int×Int)}(h:lD w B S1 S2 S3 S4)(hb:Below w.heap.size w w'):lD w' B S1 S2 S3 S4 :=
 ⟨h.s1.keep hb,h.s2.keep hb,h.s3.keep hb,h.s4.keep hb⟩
theorem lD.made {w:World}{B:Nat}(hB:w.heap.size=B):lD ((((w.alloc (.map #[] 0)).alloc (.map #[] 0)).alloc (.map #[] 0)).alloc (.map #[] 0)) B [] [] [] []:=by
 subst hB;refine⟨(((sN.made _ _ _ w).alloc _).alloc _).alloc _, ?_, ?_, ?_⟩
 ·have:=sN.made 3 okI kkI (w.alloc (.map #[] 0));rw[World.size_alloc]at this;exact(this.alloc _).alloc _
 ·have:=sN.made 3 okI kkI ((w.alloc (.map #[] 0)).alloc (.map #[] 0));rw[World.size_alloc,World.size_alloc]at this;exact this.alloc _
 ·have:=sN.made 240 okP kkP (((w.alloc (.map #[] 0)).alloc (.map #[] 0)).alloc (.map #[] 0));rw[World.size_alloc,World.size_alloc,World.size_alloc]at this;exact this
def lay4 (w:World)(b:Nat)(v0 v1 v2 v3:Value):World:=(((w.setCell ⟨b,0,none⟩ v0).setCell ⟨b,1,none⟩ v1).setCell ⟨b,2,none⟩ v2).setCell ⟨b,3,none⟩ v3
theorem Box.laid {w:World}{b ty:Nat}{u0 u1 u2 u3:Value}(h:Box w b ty #[u0,u1,u2,u3])(v0 v1 v2 v3:Value):Box (lay4 w b v0 v1 v2 v3) b ty #[v0,v1,v2,v3]:=by
 have:=(((h.set 0 v0).set 1 v1).set 2 v2).set 3 v3;unfold lay4;simpa using this
theorem aK.lay4 (w:World)(b:Nat)(v0 v1 v2 v3:Value):aK b w (lay4 w b v0 v1 v2 v3):=(((aK.set _ _ _ _).trans (aK.set _ _ _ _)).trans (aK.set _ _ _ _)).trans (aK.set _ _ _ _)
theorem yD {B:Nat}{w0 w:World}(h:Below B w0 w){b:Nat}(hb:B≤b)(v0 v1 v2 v3:Value):Below B w0 (lay4 w b v0 v1 v2 v3) :=
 (((h.setCell (p:=⟨b,0,none⟩) hb _).setCell (p:=⟨b,1,none⟩) hb _).setCell (p:=⟨b,2,none⟩) hb _).setCell (p:=⟨b,3,none⟩) hb _
theorem Wg {v0 v1 v2 v3:Value}(h0:∀x,v0≠.int .i64 x)(h1:∀x,v1≠.int .i64 x)(h2:∀x,v2≠.int .i64 x)(h3:∀x,v3≠.int .i64 x):∀(j:Nat) (x:Int),(#[v0,v1,v2,v3])[j]?≠some (.int .i64 x)
 | 0,x=>by simpa using h0 x
 | 1,x=>by simpa using h1 x
 | 2,x=>by simpa using h2 x
 | 3,x=>by simpa using h3 x
 | _+4,_=>by simp
theorem wT.beside {w w':World}{b ty:Nat}{cs:Array Value}{A:OAd}{n c:Nat}{xs:List (Int×Int)}(h:wT w A n c xs)(hb:Box w b ty cs)(hcs:∀(j:Nat) (x:Int),cs[j]?≠some (.int .i64 x))(hw:aK b w w'):wT w' A n c xs :=
 ⟨h.len,h.le,h.cap,h.small,h.nul,fun hn=>by
  obtain⟨b',off,e,hlt,hc⟩:=h.cells hn;refine⟨b',off,e,by rw[hw.1];exact hlt,fun i x hx=>?_⟩;obtain⟨vs,h1,h2⟩:=hc i x hx;refine⟨vs,fun j hj=>?_,h2⟩;have:=h1 j hj;by_cases hbb:b'=b
  ·subst hbb;exfalso
   have h0:=h1 0 (by omega);rw[hb.cell,h2.1]at h0;exact hcs _ _ h0
  ·rw[hw.cell (by simpa using hbb)];exact this⟩
theorem lE {w0 w w':World}{B b:Nat}(h:Below B w0 w)(hb:B≤b)(hs:B≤w.heap.size)(hg:w.grownBy w' (some b)):Below B w0 w':=h.grown hg hs (fun k e=>by cases e;exact hb)
theorem vG {w:World}{A:OAd}{n c:Nat}{log:LLi}(h:bT w A n c log) :
  Calls Tryz.prog 166 #[.slice A n c] w (Xd log w):=by
 have hns:=h.small;have X0:=aA (Box.new w #[.slice none 0 0,.slice none 0 0,.slice none 0 0,.slice none 0 0] 220);have B0:=aA (aB w (.cells #[.slice none 0 0,.slice none 0 0,.slice none 0 0,.slice none 0 0] 220));have HL:=aA h.len;have H:=aA h;clear h;have hmm:=@run_makeMap Tryz.prog;obtain⟨z,hz⟩:∃z,cP log=z:=⟨_,rfl⟩;have HZ:=aA hz;clear hz;go_enter Tryz.func166,Tryz.ntmps166
 go_upto_region 1 with fail
 generalize w.alloc (.cells #[.slice none 0 0,.slice none 0 0,.slice none 0 0,.slice none 0 0] 220)=w0 at *
 go_wp2_with fail
 refine(lB (Sl.keep bH.kept H.o B0.o)).mono ?_;rw[HZ.o];rintro e w1 ⟨rfl,rfl⟩;by_cases h0:z=0
 ·subst h0;obtain⟨hl60,hall⟩:=vB HZ.o;have hn60:n≤60:=by rw[←HL.o];exact hl60
  have HALL:=aA hall;clear hall hl60;have FS:=aA (lD.made (w:=w0) rfl);have BM:=aA (((((Below.refl w0.heap.size w0).alloc (Nat.le_refl _) (.map #[] 0)).alloc (by simp) (.map #[] 0)).alloc (by simp;omega) (.map #[] 0)).alloc (by simp;omega) (.map #[] 0));go_wp2
  have NB:=aA X0.o.lt;go_loopw [25] (fun v wr=>∃(k:Nat) (S1 S2 S3:LIn) (S4:List (Int×Int)),k≤n∧v=.int .i64 k∧Hid (TrP log k [] 0 S1 S2 S3 S4)∧Hid (lD wr w0.heap.size S1 S2 S3 S4)∧Hid (Below w0.heap.size w0 wr)) (fun v _=>n-(intOf v).toNat)
  case atStart=>exact⟨0,[],[],[],[],Nat.zero_le _,rfl,TrP.start log,FS,BM⟩
  case round =>
   clear FS BM;obtain⟨k,S1,S2,S3,S4,hk,rfl,TP,FS,D⟩:=hrel;by_cases hlt:k<n
   ·have hki:(k:Int)<(n:Int):=by omega
    obtain⟨b,off,x,A1,n1,c1,rfl,hb,hx,q0',i1,hn1⟩:=bT.get H.o hlt;have q0:=((B0.o.trans (D.o.mono B0.o.size)).cell (p:=⟨b,_,none⟩) hb).trans q0';clear q0';have IX:=aA i1;have LX:=aA i1.len;have HX:=aA hx.o;have OKX:=aA (HALL.o x (List.mem_of_getElem? hx.o));have h160:n1≤60:=by rw[←LX.o];exact OKX.o.1
    have TE:=aA (TP.o.enter x);clear i1 hx TP;go_wp2
    obtain⟨wo,hwo⟩:∃wo:World,wo=wr:=⟨_,rfl⟩;subst hwo;go_loopw [31] (fun v wq=>∃(j:Nat) (S1 S2 S3:LIn) (S4:List (Int×Int)),j≤n1∧v=.int .i64 j∧Hid (TrP log k x j S1 S2 S3 S4)∧Hid (lD wq w0.heap.size S1 S2 S3 S4)∧Hid (Below w0.heap.size w0 wq)) (fun v _=>n1-(intOf v).toNat)
    case atStart=>exact⟨0,S1,S2,S3,S4,Nat.zero_le _,rfl,TE,FS,D⟩
    case round =>
     have DO:=aA D.o;clear FS TE D S1 S2 S3 S4;obtain⟨j,S1,S2,S3,S4,hj,rfl,TP,FS,D⟩:=hrel;by_cases hjn:j<n1
     ·have hji:(j:Int)<(n1:Int):=by omega
      obtain⟨l1,hl1⟩:∃l1,n1=l1+1:=⟨n1-1,by omega⟩;have hsl:IntKind.i64.wrap ((n1:Int)-1)=(l1:Int):=by simp[IntKind.wrap,IntKind.bits,IntKind.signed];omega
      obtain⟨b2,off2,y,rfl,hb2,hy,qy⟩:=(IX.o.keep (B0.o.trans (D.o.mono B0.o.size))).get hjn;have HY:=aA hy.o;have HA:=aA (show okI y from OKX.o.2 y (List.mem_of_getElem? hy.o));have LL:=aA hl1;clear hy hl1;go_wp2_with fail
      refine(nP FS.o.s1 (by have:=TP.o.l1;omega) HA.o).mono ?_;rintro e u1 ⟨⟨v1,rfl⟩,t1,g1⟩;have F1:=aA (FS.o.drop1 t1 g1);have D1:=aA (lE D.o (Nat.le_refl _) D.o.size g1);clear t1 g1 qy;by_cases hj0:j=0
      ·have hj0i:(j:Int)=0:=by omega
       go_wp2_with fail
       refine(nP F1.o.s2 (by have:=TP.o.l2;omega) HA.o).mono ?_;rintro e u2 ⟨⟨v2,rfl⟩,t2,g2⟩;have F3:=aA (F1.o.drop2 t2 g2);have D3:=aA (lE D1.o (show w0.heap.size≤w0.heap.size+1 by omega) D1.o.size g2);clear t2 g2;by_cases hj1:j=l1
       ·have hj1b:(j:Int)=(l1:Int):=by omega
        go_wp2_with fail
        refine(nP F3.o.s3 (by have:=TP.o.l3;omega) HA.o).mono ?_;rintro e u3 ⟨⟨v3,rfl⟩,t3,g3⟩;have F4:=aA (F3.o.drop3 t3 g3);have D4:=aA (lE D3.o (show w0.heap.size≤w0.heap.size+1+1 by omega) D3.o.size g3);have TN:=aA (TP.o.step HY.o (T2:=y::S2) (T3:=y::S3) (T4:=S4) (by rw[if_pos hj0]) (by rw[if_pos (by have:=LX.o;have:=LL.o;omega)]) (.inl ⟨hj0,rfl⟩));clear t3 g3;go_wp2
        go_roundw
        case rel=>exact⟨j+1,_,_,_,_,by omega,by go_num,TN,F4,D4⟩
        case measure=>simp[intOf];omega
       ·have hj1b:((j:Int)==(l1:Int))=false:=by simp;omega
        have TN:=aA (TP.o.step HY.o (T2:=y::S2) (T3:=S3) (T4:=S4) (by rw[if_pos hj0]) (by rw[if_neg (by have:=LX.o;have:=LL.o;omega)]) (.inl ⟨hj0,rfl⟩));go_wp2
        go_roundw
        case rel=>exact⟨j+1,_,_,_,_,by omega,by go_num,TN,F3,D3⟩
        case measure=>simp[intOf];omega
      ·have hj0b:((j:Int)==0)=false:=by simp;omega
       obtain⟨i,hji2⟩:∃i,j=i+1:=⟨j-1,by omega⟩;have hin:i<n1:=by omega
       have hini:(i:Int)<(n1:Int):=by omega
       have hi0:(0:Int)≤(i:Int):=by omega
       have hsi:IntKind.i64.wrap ((j:Int)-1)=(i:Int):=by simp[IntKind.wrap,IntKind.bits,IntKind.signed];omega
       have hji2:=aA hji2;obtain⟨b3,off3,z,e3,hb3,hz3,qz⟩:=(IX.o.keep (B0.o.trans (D1.o.mono B0.o.size))).get hin;injection e3 with e3;injection e3 with e3 e4;subst e3 e4;have HZ2:=aA hz3.o;have HB:=aA (show okI z from OKX.o.2 z (List.mem_of_getElem? hz3.o));clear hz3;go_wp2_with fail
       refine(Ks (p:=(z,y)) F1.o.s4 (by have:=TP.o.l4;omega) ⟨HB.o,HA.o⟩).mono ?_;rintro e u2 ⟨⟨v2,rfl⟩,t2,g2⟩;have F3:=aA (F1.o.drop4 t2 g2);have D3:=aA (lE D1.o (show w0.heap.size≤w0.heap.size+1+1+1 by omega) D1.o.size g2);clear t2 g2 qz;by_cases hj1:j=l1
       ·have hj1b:(j:Int)=(l1:Int):=by omega
        go_wp2_with fail
        refine(nP F3.o.s3 (by have:=TP.o.l3;omega) HA.o).mono ?_;rintro e u3 ⟨⟨v3,rfl⟩,t3,g3⟩;have F4:=aA (F3.o.drop3 t3 g3);have D4:=aA (lE D3.o (show w0.heap.size≤w0.heap.size+1+1 by omega) D3.o.size g3);have TN:=aA (TP.o.step HY.o (T2:=S2) (T3:=y::S3) (T4:=(z,y)::S4) (by rw[if_neg hj0]) (by rw[if_pos (by have:=LX.o;have:=LL.o;omega)]) (.inr ⟨z,i,hji2.o,HZ2.o,rfl⟩));clear t3 g3;go_wp2
        go_roundw
        case rel=>exact⟨j+1,_,_,_,_,by omega,by go_num,TN,F4,D4⟩
        case measure=>simp[intOf];omega
       ·have hj1b:((j:Int)==(l1:Int))=false:=by simp;omega
        have TN:=aA (TP.o.step HY.o (T2:=S2) (T3:=S3) (T4:=(z,y)::S4) (by rw[if_neg hj0]) (by rw[if_neg (by have:=LX.o;have:=LL.o;omega)]) (.inr ⟨z,i,hji2.o,HZ2.o,rfl⟩));go_wp2
        go_roundw
        case rel=>exact⟨j+1,_,_,_,_,by omega,by go_num,TN,F3,D3⟩
        case measure=>simp[intOf];omega
     ·obtain rfl:j=n1:=by omega
      have TL:=aA (show TrP log (k+1) [] 0 S1 S2 S3 S4 from(by have:=TP.o;rw[←LX.o]at this;exact this.leave HX.o OKX.o.1));go_wp2
      go_roundw
      case rel=>exact⟨k+1,S1,S2,S3,S4,by omega,by go_num,TL,FS,D⟩
      case measure=>simp[intOf];omega
   ·obtain rfl:k=n:=by omega
    have TF:=aA (show(∀x,x∈S1↔VI log x)∧(∀x,x∈S2↔yA log x)∧(∀x,x∈S3↔Kr log x)∧∀p,p∈S4↔VJ log p from(by have:=TP.o;rw[←HL.o]at this;exact this.fin));have L1:=aA TP.o.l1;have L2:=aA TP.o.l2;have L3:=aA TP.o.l3;have L4:=aA TP.o.l4;have XR:=aA (X0.o.keepB D.o NB.o);have BR:=aA (B0.o.trans (D.o.mono B0.o.size));clear TP;go_wp2_with fail
    refine(lP FS.o.s1 (by have:=L1.o;omega)).mono ?_;rintro e u1 ⟨v1,m1,x1,rfl,o1,hm1,hx1,b1⟩;obtain⟨A1,c1,rfl,i1⟩:=o1.sl (by omega);have I1:=aA i1;have P1:=aA hx1;have F1:=aA (FS.o.keep b1);have X1:=aA (XR.o.keep b1);have E1:=aA (BR.o.trans (b1.mono BR.o.size));clear o1 i1 hx1 b1;go_wp2_with fail
    refine(lP F1.o.s2 (by have:=L2.o;omega)).mono ?_;rintro e u2 ⟨v2,m2,x2,rfl,o2,hm2,hx2,b2⟩;obtain⟨A2,c2,rfl,i2⟩:=o2.sl (by omega);have I2:=aA i2;have P2:=aA hx2;have I1:=aA (aJ.keep I1.o b2);have F2:=aA (F1.o.keep b2);have X2:=aA (X1.o.keep b2);have E2:=aA (E1.o.trans (b2.mono E1.o.size));clear o2 i2 hx2 b2;go_wp2_with fail
    refine(lP F2.o.s3 (by have:=L3.o;omega)).mono ?_;rintro e u3 ⟨v3,m3,x3,rfl,o3,hm3,hx3,b3⟩;obtain⟨A3,c3,rfl,i3⟩:=o3.sl (by omega);have I3:=aA i3;have P3:=aA hx3;have I1:=aA (aJ.keep I1.o b3);have I2:=aA (aJ.keep I2.o b3);have F3:=aA (F2.o.keep b3);have X3:=aA (X2.o.keep b3);have E3:=aA (E2.o.trans (b3.mono E2.o.size));clear o3 i3 hx3 b3;go_wp2_with fail
    refine(zK F3.o.s4 (by have:=L4.o;omega)).mono ?_;rintro e u4 ⟨v4,m4,x4,rfl,o4,hm4,hx4,b4⟩;obtain⟨A4,c4,rfl,i4⟩:=o4.sl (by omega);have I4:=aA i4;have P4:=aA hx4;have I1:=aA (aJ.keep I1.o b4);have I2:=aA (aJ.keep I2.o b4);have I3:=aA (aJ.keep I3.o b4);have X4:=aA (X3.o.keep b4);have E4:=aA (E3.o.trans (b4.mono E3.o.size));clear o4 i4 hx4 b4;have y0:=X4.o.cell 0;have y1:=X4.o.cell 1;have y2:=X4.o.cell 2;have y3:=X4.o.cell 3;have f0:=X4.o.frozen 0;have f1:=X4.o.frozen 1;have f2:=X4.o.frozen 2;have f3:=X4.o.frozen 3;simp only[List.getElem?_toArray,List.getElem?_cons_zero,List.getElem?_cons_succ]at y0 y1 y2 y3;have XE:=aA (X4.o.laid (.slice A1 m1 c1) (.slice A2 m2 c2) (.slice A3 m3 c3) (.slice A4 m4 c4));have BE:=aA (aK.lay4 u4 w.heap.size (.slice A1 m1 c1) (.slice A2 m2 c2) (.slice A3 m3 c3) (.slice A4 m4 c4));have EE:=aA (yD E4.o (Nat.le_refl _) (.slice A1 m1 c1) (.slice A2 m2 c2) (.slice A3 m3 c3) (.slice A4 m4 c4));have NI:=aA (Wg (v0:=.slice none 0 0) (v1:=.slice none 0 0) (v2:=.slice none 0 0) (v3:=.slice none 0 0) (fun x e=>(by cases e)) (fun x e=>(by cases e)) (fun x e=>(by cases e)) (fun x e=>(by cases e)));have OF:=aA (show OfP log ⟨x1,x2,x3,x4⟩ 0 from⟨HZ.o.symm,by
     rw[if_pos HZ.o];exact⟨⟨P1.o.1,fun x=>(P1.o.2 x).trans (TF.o.1 x)⟩,⟨P2.o.1,fun x=>(P2.o.2 x).trans (TF.o.2.1 x)⟩,⟨P3.o.1,fun x=>(P3.o.2 x).trans (TF.o.2.2.1 x)⟩,⟨P4.o.1,fun x=>(P4.o.2 x).trans (TF.o.2.2.2 x)⟩⟩⟩)
    go_wp2
    clear y0 y1 y2 y3 f0 f1 f2 f3;have e0:=XE.o.cell 0;have e1:=XE.o.cell 1;have e2:=XE.o.cell 2;have e3:=XE.o.cell 3;simp only[List.getElem?_toArray,List.getElem?_cons_zero,List.getElem?_cons_succ,lay4]at e0 e1 e2 e3;refine bodyPost_ret (v:=.tuple #[.agg #[.slice A1 m1 c1,.slice A2 m2 c2,.slice A3 m3 c3,.slice A4 m4 c4],.int .i64 0]) (by simp[results,Tryz.results166,go_sem,e0,e1,e2,e3]) rfl ?_;exact⟨⟨x1,x2,x3,x4⟩,0,A1,A2,A3,A4,m1,c1,m2,c2,m3,c3,m4,c4,OF.o,rfl,I1.o.beside X4.o NI.o BE.o,I2.o.beside X4.o NI.o BE.o,I3.o.beside X4.o NI.o BE.o,wT.beside I4.o X4.o NI.o BE.o,EE.o⟩
 ·have hzb:(z==0)=false:=by simpa using h0
  have x0:=X0.o.cell 0;have x1:=X0.o.cell 1;have x2:=X0.o.cell 2;have x3:=X0.o.cell 3;have f0:=X0.o.frozen 0;have f1:=X0.o.frozen 1;have f2:=X0.o.frozen 2;have f3:=X0.o.frozen 3;simp only[List.getElem?_toArray,List.getElem?_cons_zero,List.getElem?_cons_succ]at x0 x1 x2 x3;have NO:=aA (OfP.no HZ.o h0);have XE:=aA (X0.o.laid (.slice none 0 0) (.slice none 0 0) (.slice none 0 0) (.slice none 0 0));have EE:=aA (yD B0.o (Nat.le_refl _) (.slice none 0 0) (.slice none 0 0) (.slice none 0 0) (.slice none 0 0));go_wp2
  clear x0 x1 x2 x3 f0 f1 f2 f3;have e0:=XE.o.cell 0;have e1:=XE.o.cell 1;have e2:=XE.o.cell 2;have e3:=XE.o.cell 3;simp only[List.getElem?_toArray,List.getElem?_cons_zero,List.getElem?_cons_succ,lay4]at e0 e1 e2 e3;refine bodyPost_ret (v:=.tuple #[.agg #[.slice none 0 0,.slice none 0 0,.slice none 0 0,.slice none 0 0],.int .i64 z]) (by simp[results,Tryz.results166,go_sem,e0,e1,e2,e3]) rfl ?_;exact⟨Iu,z,none,none,none,none,0,0,0,0,0,0,0,0,NO.o,rfl,Sl.nil0,Sl.nil0,Sl.nil0,Sl.nil0,EE.o⟩
theorem Iy (log:LLi)(labels:LIn):(eP log labels).length=log.length:=by simp[eP]
theorem Kx {w:World}{A B:OAd}{n c m d:Nat}{log:LLi}{labels:LIn}(h:bT w A n c log)(g:aJ w B m d labels)(hn:n≤5864062014805) :
  Calls Tryz.prog 207 #[.slice A n c,.slice B m d] w fun e w'=>∃v n',e=.returned v∧aC (cF w.heap.size) 1 w' w.heap.size 28 v n' (eP log labels)∧n'≤5864062014805∧Below w.heap.size w w':=by
 have HL:=aA h.len;have H:=aA h;have G:=aA g;clear h g;go_enter Tryz.func207,Tryz.ntmps207
 go_wp2
 go_loopw [5,13] (fun u5 v wr=>∃(k m5:Nat),k≤n∧v=.int .i64 k∧Hid (aC (cF w.heap.size) 1 wr w.heap.size 28 u5 m5 (eP (log.take k) labels))∧Hid (Below w.heap.size w wr)) (fun _ v _=>n-(intOf v).toNat)
 case atStart=>exact⟨0,0,Nat.zero_le _,rfl,aC.nil,Below.refl _ _⟩
 case round =>
  obtain⟨k,m5,hk,rfl,O5,D⟩:=hrel;have h5:m5≤n:=by rw[←O5.o.len,Iy,List.length_take];omega
  by_cases hlt:k<n
  ·have hki:(k:Int)<(n:Int):=by omega
   have h5k:m5<n:=by rw[←O5.o.len,Iy,List.length_take];omega
   obtain⟨b,off,x,A1,n1,c1,rfl,hb,hx,q0,i1,hn1⟩:=bT.get (Sl.keep bH.kept H.o D.o) hlt;have IX:=aA i1;have TK:=aA (show eP (log.take (k+1)) labels=eP (log.take k) labels++[x.filter fun a=>inS labels a] by rw[bL hx.o,Kq]);clear i1 hx;go_wp2
   obtain⟨wo,hwo⟩:∃wo:World,wo=wr:=⟨_,rfl⟩;subst hwo;go_loopw [8,19] (fun u8 v wq=>∃(q m8:Nat),q≤n1∧v=.int .i64 q∧Hid (aD wq wo.heap.size u8 m8 ((x.take q).filter fun a=>inS labels a))∧Hid (Below wo.heap.size wo wq)) (fun _ v _=>n1-(intOf v).toNat)
   case atStart=>exact⟨0,0,Nat.zero_le _,rfl,aC.nil,Below.refl _ _⟩
   case round =>
    obtain⟨q,m8,hq,rfl,O8,E⟩:=hrel;have h8:m8≤q:=by
     rw[←O8.o.len];refine Nat.le_trans (List.length_filter_le _ _) ?_;rw[List.length_take];omega
    have DE:=aA (D.o.trans (E.o.mono D.o.size));by_cases hqn:q<n1
    ·have hqi:(q:Int)<(n1:Int):=by omega
     obtain⟨b',off',y,rfl,hb',hy,qy⟩:=(IX.o.keep E.o).get hqn;have FS:=aA (show(x.take (q+1)).filter (fun a=>inS labels a)=if inS labels y=true then(x.take q).filter (fun a=>inS labels a)++[y]else(x.take q).filter (fun a=>inS labels a) by
      rw[bL hy.o,List.filter_append];cases h:inS labels y <;> simp[h])
     obtain⟨s,hs⟩:∃s,(labels.any fun z=>y==z)=s:=⟨_,rfl⟩;have HS:=aA hs;have HI:=aA (show inS labels y=s from hs);clear hs hy;go_wp2_with fail
     refine(eT y (G.o.keep DE.o)).mono ?_;rw[HS.o];rintro e w' ⟨rfl,rfl⟩;cases s
     ·have F1:=aA (show(x.take (q+1)).filter (fun a=>inS labels a)=(x.take q).filter (fun a=>inS labels a) by rw[FS.o,HI.o];rfl);go_wp2
      go_roundw
      case rel=>exact⟨q+1,m8,by omega,by go_num,by rw[F1.o];exact O8,E⟩
      case measure=>simp[intOf];omega
     ·have F1:=aA (show(x.take (q+1)).filter (fun a=>inS labels a)=(x.take q).filter (fun a=>inS labels a)++[y] by rw[FS.o,HI.o];rfl);go_wp2_with (at_builtin;refine dE rfl _ _ rfl rfl rfl rfl O8.o E.o E.o.size (by omega) ?_;intro v8 w8 own8 hg8 hb8;have O98:=aA own8;have E8:=aA hb8;clear own8 hg8 hb8)
      go_roundw
      case rel=>exact⟨q+1,m8+1,by omega,by go_num,by rw[F1.o];exact O98,E8⟩
      case measure=>simp[intOf];omega
    ·obtain rfl:q=n1:=by omega
     have TX:x.take q=x:=List.take_of_length_le (by rw[IX.o.len];exact Nat.le_refl _);rw[TX]at O8;obtain⟨A8,c8,rfl,_⟩:=O8.o.sl (by omega);have O52:=aA (aC.keep (cF.kept _) O5.o E.o);have RX:=aA (show cF w.heap.size wr (fun _=>.slice A8 m8 c8) (x.filter fun a=>inS labels a)from⟨m8,O8.o.base D.o.size,by omega⟩);have KL:=aA (Dm O52.o);go_wp2_with (at_builtin;refine bY (v:=u5) uV rfl _ _ rfl [x.filter fun a=>inS labels a] #[.slice A8 m8 c8] rfl rfl rfl rfl (by simp[Value.oneCell']) O52.o (a6.list1 RX.o) rfl DE.o DE.o.size (by omega) (by omega) KL.o ?_;intro v9 w9 own9 hg9 hb9;have O9:=aA own9;have E9:=aA hb9;clear own9 hg9 hb9)
     go_roundw
     case rel=>exact⟨k+1,m5+1,by omega,by go_num,by rw[TK.o];exact O9,E9⟩
     case measure=>simp[intOf];omega
  ·obtain rfl:k=n:=by omega
   have TA:log.take k=log:=List.take_of_length_le (by rw[HL.o];exact Nat.le_refl _);rw[TA]at O5;go_wp2
   go_ret
   exact⟨_,m5,rfl,O5.o,by omega,D.o⟩
structure zL (F:FuncId)(cap:Array Value)(w:World)(p:LIn→Bool):Prop where
 enters:∀args w,(callFunc F args).run Tryz.prog w=.ok (.enter F args) w
 calls:∀(wr:World) (A:OAd) (n c:Nat) (y:LIn),Below w.heap.size w wr→aJ wr A n c y →
  Calls Tryz.prog F (#[.slice A n c]++cap) wr fun e w'=>e=.returned (.bool (p y))∧Below wr.heap.size wr w'
theorem Dv {w:World}{A:OAd}{n c:Nat}{ms:LLi}{F:FuncId}{cap:Array Value}{p:LIn→Bool}(h:bT w A n c ms)(hp:zL F cap w p) :
  Calls Tryz.prog 26 #[.slice A n c,.func (.func F) #[] cap] w fun e w'=>e=.returned (.int .i64 (cC p ms))∧Below w.heap.size w w':=by
 have hn:=h.small;have henter:=hp.enters;have H:=aA h;have HP:=aA hp;clear h hp;go_enter Tryz.func26,Tryz.ntmps26
 go_wp2
 go_loopw [8] (fun i wr=>∃k:Nat,k≤n∧i=.int .i64 k∧Hid (∀j,j<k→∀y,ms[j]?=some y→p y=false)∧Hid (Below w.heap.size w wr)) (fun i _=>n-(intOf i).toNat)
 case atStart=>exact⟨0,Nat.zero_le _,rfl,fun j hj=>absurd hj (by omega),Below.refl _ _⟩
 case round =>
  obtain⟨k,hk,rfl,hlow,D⟩:=hrel;by_cases hlt:k<n
  ·have hki:(k:Int)<(n:Int):=by omega
   obtain⟨b,off,t,vs,rfl,hb,ht,hc,A1,n1,c1,e1,i1,hn1⟩:=Sl.get (Sl.keep bH.kept H.o D.o) hlt;have q0:wr.cell? ⟨b,off+k,none⟩=some (.slice A1 n1 c1):=by have:=hc 0 (by omega);rw[e1]at this;simpa using this
   have CL:=aA (HP.o.calls wr A1 n1 c1 t D.o i1);have HT:=aA ht;obtain⟨v,hv⟩:∃v,p t=v:=⟨_,rfl⟩;have HV:=aA hv;rw[hv]at CL;clear hv hc e1 i1 ht;cases v
   ·go_wp2_with (refine CL.o.mono ?_;rintro e w' ⟨rfl,hb'⟩;have HB:=aA hb';clear hb')
    go_roundw
    case rel =>
     refine⟨k+1,by omega,by go_num,fun j hj y hy=>?_,D.o.trans (HB.o.mono D.o.size)⟩;by_cases hjk:j=k
     ·subst hjk;have:=HT.o;rw[hy]at this;injection this with this;rw[this];exact HV.o
     ·exact hlow.o j (by omega) y hy
    case measure=>simp[intOf];omega
   ·go_wp2_with (refine CL.o.mono ?_;rintro e w' ⟨rfl,hb'⟩;have HB:=aA hb';clear hb')
    go_ret
    exact⟨aT (cJ hlow.o HT.o HV.o).symm,D.o.trans (HB.o.mono D.o.size)⟩
  ·go_wp2
   go_ret
   exact⟨aT (cL (fun j hj y hy=>hlow.o j (by have:=H.o.len;omega) y hy)).symm,D.o⟩
theorem mS {w:World}{A:OAd}{n c:Nat}{ms:LLi}{F:FuncId}{cap:Array Value}{p:LIn→Bool}(h:bT w A n c ms)(hp:zL F cap w p) :
  Calls Tryz.prog 128 #[.slice A n c,.func (.func F) #[] cap] w fun e w'=>e=.returned (.bool (ms.any p))∧Below w.heap.size w w':=by
 have H:=aA h;have HP:=aA hp;clear h hp;go_enter Tryz.func128,Tryz.ntmps128
 go_wp2_with (refine(Dv H.o HP.o).mono ?_;rintro e w' ⟨rfl,hb'⟩;have HB:=aA hb';clear hb')
 go_ret
 exact⟨aY (gW _ _),HB.o⟩
def p2 (a:Int)(t:LIn):Bool:=t.any fun y=>a==y
def p3 (a:Int)(t:LIn):Bool:=decide (t.head?=some a)
def p4 (a:Int)(t:LIn):Bool:=decide (t.getLast?=some a)
def p5 (a b:Int)(t:LIn):Bool:=(List.range t.length).any fun j=>decide (t[j]?=some a)&&decide (t[j+1]?=some b)
theorem U6 {t:LIn}{a b:Int}{j:Nat}(h1:t[j]?=some a)(h2:t[j+1]?=some b):p5 a b t=true:=by
 unfold p5;rw[List.any_eq_true];refine⟨j,List.mem_range.2 (List.getElem?_eq_some_iff.1 h1).1, ?_⟩;rw[h1,h2];simp
theorem Ug {t:LIn}{a b:Int}:p5 a b t=true↔∃j:Nat,t[j]?=some a∧t[j+1]?=some b:=by
 constructor
 ·intro h;unfold p5 at h;rw[List.any_eq_true]at h;obtain⟨j,_,h⟩:=h;rw[Bool.and_eq_true,decide_eq_true_eq,decide_eq_true_eq]at h;exact⟨j,h⟩
 ·rintro⟨j,h1,h2⟩;exact U6 h1 h2
end Go.Proofs.YtfmnagcglhlicaaGreat
namespace Go.Proofs.YtfmnagcglhlicaaGreat
def rng (k:Nat):LIn:=(List.range k).map fun i:Nat=>(i:Int)+1
theorem Iz (k:Nat):rng (k+1)=rng k++[(k:Int)+1]:=by simp[rng,List.range_succ]
theorem rQ {k:Nat}{x:Int}:x∈rng k↔1≤x∧x≤k:=by
 unfold rng;rw[List.mem_map];constructor
 ·rintro⟨i,hi,rfl⟩;have:=List.mem_range.1 hi;omega
 ·rintro⟨h1,h2⟩;exact⟨(x-1).toNat,List.mem_range.2 (by omega),by omega⟩
theorem Gm:∀k:Nat,(rng k).Pairwise (·< ·)
 | 0=>by simp[rng]
 | k+1=>by
  rw[Iz,List.pairwise_append];refine⟨Gm k,List.pairwise_singleton _ _,fun a ha b hb=>?_⟩;have:=(rQ.1 ha).2;rw[List.mem_singleton]at hb;omega
def onR (log:LLi)(p:Int→LIn→Bool)(k:Nat):LIn:=(rng k).filter fun a=>log.any (p a)
theorem Gn (log:LLi)(p:Int→LIn→Bool)(k:Nat):(onR log p k).Pairwise (·< ·):=List.Pairwise.sublist List.filter_sublist (Gm k)
theorem Gp {log:LLi}{p:Int→LIn→Bool}{k:Nat}{x:Int}:x∈onR log p k↔(1≤x∧x≤k)∧∃t∈log,p x t=true:=by
 unfold onR;rw[List.mem_filter,rQ,List.any_eq_true]
def OH (log:LLi)(a:Int)(j:Nat):List (Int×Int):=((rng j).filter fun b=>log.any (p5 a b)).map fun b=>(a,b)
theorem zN {log:LLi}{a:Int}{j:Nat}{q:Int×Int}:q∈OH log a j↔q.1=a∧(1≤q.2∧q.2≤j)∧∃t∈log,p5 a q.2 t=true:=by
 unfold OH;rw[List.mem_map];constructor
 ·rintro⟨b,hb,rfl⟩;rw[List.mem_filter,rQ,List.any_eq_true]at hb;exact⟨rfl,hb⟩
 ·rintro⟨h1,h2,h3⟩;refine⟨q.2, ?_,by rw[←h1]⟩;rw[List.mem_filter,rQ,List.any_eq_true];exact⟨h2,h3⟩
theorem RH (log:LLi)(a:Int)(j:Nat):(OH log a j).Pairwise lZ:=by
 unfold OH;rw[List.pairwise_map];exact(List.Pairwise.sublist List.filter_sublist (Gm j)).imp fun h=>.inr ⟨rfl,h⟩
def L7 (log:LLi)(k:Nat):List (Int×Int):=(rng k).flatMap fun a=>OH log a 26
theorem OP (log:LLi)(k:Nat):L7 log (k+1)=L7 log k++OH log ((k:Int)+1) 26:=by
 unfold L7;rw[Iz,List.flatMap_append];simp
theorem ID {log:LLi}{k:Nat}{q:Int×Int}:q∈L7 log k↔(1≤q.1∧q.1≤k)∧(1≤q.2∧q.2≤26)∧∃t∈log,p5 q.1 q.2 t=true:=by
 unfold L7;rw[List.mem_flatMap];constructor
 ·rintro⟨a,ha,h⟩;obtain⟨e,h2,h3⟩:=zN.1 h;subst e;exact⟨rQ.1 ha,h2,h3⟩
 ·rintro⟨h1,h2,h3⟩;exact⟨q.1,rQ.2 h1,zN.2 ⟨rfl,h2,h3⟩⟩
theorem IF (log:LLi):∀k:Nat,(L7 log k).Pairwise lZ
 | 0=>by simp[L7,rng]
 | k+1=>by
  rw[OP,List.pairwise_append];refine⟨IF log k,RH _ _ _,fun a ha b hb=>?_⟩;have h1:=(ID.1 ha).1.2;have h2:=(zN.1 hb).1;exact .inl (by omega)
def Xe (log:LLi)(k1 k2 k3 k j:Nat):aU:=⟨onR log p2 k1,onR log p3 k2,onR log p4 k3,L7 log k++OH log ((k:Int)+1) j⟩
theorem yE {log:LLi}(h:cP log=0):OfP log (Xe log 26 26 26 26 0) 0:=by
 refine⟨h.symm, ?_⟩;rw[if_pos h];obtain⟨_,hall⟩:=vB h;have hd:∀{t:LIn} {x:Int},t∈log→x∈t→1≤x∧x≤(26:Nat):=fun ht hx=>(hall _ ht).2 _ hx
 have hb:L7 log 26++OH log (((26:Nat):Int)+1) 0=L7 log 26:=by simp[OH,rng]
 refine⟨⟨Gn _ _ _,fun x=>?_⟩,⟨Gn _ _ _,fun x=>?_⟩,⟨Gn _ _ _,fun x=>?_⟩, ?_⟩
 ·show x∈onR log p2 26↔_
  rw[Gp];unfold VI p2;constructor
  ·rintro⟨_,t,ht,hp⟩;obtain⟨y,hy,e⟩:=List.any_eq_true.1 hp;simp only[beq_iff_eq]at e;exact⟨t,ht,e▸hy⟩
  ·rintro⟨t,ht,hx⟩;exact⟨hd ht hx,t,ht,List.any_eq_true.2 ⟨x,hx,by simp⟩⟩
 ·show x∈onR log p3 26↔_
  rw[Gp];unfold yA p3;constructor
  ·rintro⟨_,t,ht,hp⟩;exact⟨t,ht,of_decide_eq_true hp⟩
  ·rintro⟨t,ht,hx⟩;exact⟨hd ht (List.mem_of_head? hx),t,ht,decide_eq_true hx⟩
 ·show x∈onR log p4 26↔_
  rw[Gp];unfold Kr p4;constructor
  ·rintro⟨_,t,ht,hp⟩;exact⟨t,ht,of_decide_eq_true hp⟩
  ·rintro⟨t,ht,hx⟩;exact⟨hd ht (List.mem_of_getLast? hx),t,ht,decide_eq_true hx⟩
 ·show(L7 log 26++OH log (((26:Nat):Int)+1) 0).Pairwise lZ∧∀x,x∈L7 log 26++OH log (((26:Nat):Int)+1) 0↔_
  rw[hb];refine⟨IF _ _,fun q=>?_⟩;rw[ID];unfold VJ;constructor
  ·rintro⟨_,_,t,ht,hp⟩;exact⟨t,ht,Ug.1 hp⟩
  ·rintro⟨t,ht,k,h1,h2⟩;exact⟨hd ht (List.mem_of_getElem? h1),hd ht (List.mem_of_getElem? h2),t,ht,Ug.2 ⟨k,h1,h2⟩⟩
open Go.RowKit
theorem fY {α:Type} {R:World→(Nat→Value)→α→Prop} {t e size bytes:Nat} (T:mC t e size bytes) {ops:Array Oper} {rest:List Oper} {o:Oper} {a:Act} {Q:Exit→Act→World→Prop} (hgd:o.guard=none) (s x:Operand)
  (ho:o.op=.call {callee:=.builtin .append,args:=#[s,x],argTypes:=#[t,t]})
  {w:World} {B:Nat} {v:Value} {n m:Nat} {xs:List α} (ys:List α) (us:Array Value) {H:Nat} (hs:a.eval s=v) (hx:a.eval x=.slice (some ⟨H,0,none⟩) m m) (hH:H=w.heap.size) (hus:us.size=m*size) (one:∀u∈us.toList,u.oneCell'=true)
  (own:aC R size w B e v n xs) (hread:a6 R size w us.toList ys) (hy:ys.length=m) (hB:B≤w.heap.size) (h63:n+m≤281474976710656) (hn:(n+m)*bytes≤140737488355328)
  (hkeep:∀w',w.grownBy w' v.ownBlock→∀vs y,R w vs y→R w' vs y)
  (K:∀v' w',aC R size w' B e v' (n+m) (xs++ys)→w.grownBy w' v.ownBlock→(v'.ownBlock=v.ownBlock∨v'.ownBlock=some (w.heap.size+1))→wpList Tryz.prog ops Q rest (a.put o.dst v') w') :
  wpList Tryz.prog ops Q (o::rest) a (w.alloc (.cells us e)):=by
 subst hH;obtain⟨i,z,h1,h2,h3,h4,h5⟩:=T.info;obtain⟨cells,o1,o2,o3⟩:=own;refine wpList_append_own_at (P:=Tryz.prog) _ hgd s x t ho B e i z size bytes T.und h1 h2 h3 h4 h5 T.pos v n cells hs (o1.alloc _) ⟨w.heap.size,0,none⟩ m m us.toList hx (by simpa using hus) (fun j u hj=>?_) one ?_ hn (by simp;omega) (fun v' w' h6 h7 _ h8=>?_)
 ·have hz:((⟨w.heap.size,0,none⟩:Addr).add j)=⟨w.heap.size,j,none⟩:=by unfold Addr.add;split <;> simp_all
  rw[hz];have:(w.alloc (.cells us e)).cell? ⟨w.heap.size,j,none⟩=us[j]?:=cell_of_row _ _ _ _ _ (0,0) (heap_alloc_new w _);rw[this];simpa using hj
 ·simp only[maxLen];omega
 ·have hg:w.grownBy w' v.ownBlock:=⟨h7.os,h7.tape,h7.output,Nat.le_trans (by simp) h7.size,fun k hk hne=>(h7.block k (by simp;omega) hne).trans (heap_alloc_old w _ hk)⟩;refine K v' w' ⟨_,h6, ?_,by rw[List.length_append,o3,hy]⟩ hg (by rw[World.size_alloc]at h8;exact h8);have:=o2.append hread;exact⟨this.1,fun i x hx=>by obtain⟨vs,a,b⟩:=this.2 i x hx;exact⟨vs,a,hkeep _ hg _ _ b⟩⟩
theorem mT {ops:Array Oper} {rest:List Oper} {o:Oper} {a:Act} {Q:Exit→Act→World→Prop} (hgd:o.guard=none) (s x:Operand)
  (ho:o.op=.call {callee:=.builtin .append,args:=#[s,x],argTypes:=#[28,28]})
  {w:World} {B:Nat} {v:Value} {n:Nat} {xs:LIn} {y:Int} {H:Nat} (hs:a.eval s=v) (hx:a.eval x=.slice (some ⟨H,0,none⟩) 1 1) (hH:H=w.heap.size)
  (own:aD w B v n xs) (hB:B≤w.heap.size) (hn:n≤26)
  (K:∀v' w',aD w' B v' (n+1) (xs++[y])→w.grownBy w' v.ownBlock→(v'.ownBlock=v.ownBlock∨v'.ownBlock=some (w.heap.size+1))→wpList Tryz.prog ops Q rest (a.put o.dst v') w') :
  wpList Tryz.prog ops Q (o::rest) a (w.alloc (.cells #[.int .i64 y] 3)) :=
 fY kQ hgd s x ho [y] #[.int .i64 y] hs hx hH rfl (by simp[Value.oneCell']) own (a6.one (vs:=fun _=>.int .i64 y) rfl rfl (fun j hj=>(by obtain rfl:j=0:=(by omega);rfl))) rfl hB (by omega) (by omega) (fun _ _ _ _ h=>h) K
theorem cR (w:World)(b i:Nat)(v:Value):w.grownBy (w.setCell ⟨b,i,none⟩ v) (some b) :=
 ⟨rfl,rfl,rfl,by simp[World.setCell],fun k _ hne=>heap_setCell_other _ _ _ _ (fun e=>hne (by rw[e]))⟩
section
variable {w w':World} {bl bp:Nat} {LA:Value} {g:aU} {s1 s2 s3 s4:Value} {n1 n2 n3 n4:Nat}
end
end Go.Proofs.YtfmnagcglhlicaaGreat
