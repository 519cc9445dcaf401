/- Texts melted into one: slices.SortStableFunc on rows of lists: merging where the first stretch holds one. Conditions: the row is the call's own, as its lists are; of two lists that differ th -/
import Derived.Test.YtfmnagcglhlicaaGreatTopCrashK31
import Derived.IntWalk
set_option maxRecDepth 100000
set_option maxHeartbeats 8000000
namespace Go.Proofs.YtfmnagcglhlicaaGreat
open Go.RowKit
theorem yG {α:Type}(f:Nat→α)(a b:Nat):dP f a b b=f:=by
 funext k
 unfold dP
 repeat' split
 all_goals first|rfl|(exfalso;omega)|(congr 1;omega)
theorem Dy {α:Type}(f:Nat→α)(a b:Nat):dP f a a b=f:=by
 funext k
 unfold dP
 repeat' split
 all_goals first|rfl|(exfalso;omega)|(congr 1;omega)
theorem Xf (i j n h:Nat)(hj:i+j≤2*n)(hn:n≤1000)(hh:h=(i+j) / 2):wrap64 (((i:Int)+(j:Int)) / 2)=(h:Int):=by
 rw[show((i:Int)+(j:Int)) / 2=(h:Int) by omega];simp[wrap64];omega
theorem WN (i j:Nat)(h:i+j≤2000):IntKind.u64.wrap ((i:Int)+(j:Int))=(i:Int)+(j:Int) :=
 IntWalk.u64_in _ ⟨by omega,Int.le_trans (show(i:Int)+(j:Int)≤2000 by omega) (by decide)⟩
theorem KG {w:World}{B B2 g n cap:Nat}{f:Nat→LIn}{F:FuncId}{cv:Array Value}{R:LIn→LIn→Prop}{S:LIn→Prop}(own:j6 w B B2 g n cap f)(a m b:Nat)(hm:m=a+1)(hmb:m<b)(hb:b≤n)(hn:n≤1000)(o:zS R S)(G:dQ S f n)(hF:l8 F cv w g R S)(s1:fA R f a m)(s2:fA R f m b) :
  Calls Tryz.prog 219 #[.slice (some ⟨g,0,none⟩) n cap,.int .i64 a,.int .i64 m,.int .i64 b,.func (.func F) #[] cv] w fun e w'=>(∃y,e=.returned y)∧(∃q,j6 w' B B2 g n cap q∧dQ S q n∧fA R q a b∧dO q f a b)∧w.grownBy w' (some g):=by
 have OW:=aA own;have henter:=hF.enters;have HF:=aA hF;have HO:=aA o;have GD:=aA G;have S1:=aA s1;have S2:=aA s2;clear own hF o G s1 s2;have hw0:IntKind.i64.wrap ((m:Int)-(a:Int))=1:=by rw[hm,show((a+1:Nat):Int)-(a:Int)=1 by omega];decide
 have HM:=aA hm;clear hm;go_enter Tryz.func219,Tryz.ntmps219
 go_wp2
 clear hw0;go_loopg [10,11] (b-m) (fun gk u v wr=>∃i j:Nat,u=.int .i64 i∧v=.int .i64 j∧Hid (j≤i+gk)∧Hid (tD R f a m b i j)∧Hid (j6 wr B B2 g n cap f)∧Hid (w.grownBy wr (some g)))
 case atStart=>exact⟨m,b,rfl,rfl,aA (by omega),aA (tD.start (by omega)),OW,aA (World.grownBy.refl _ _)⟩
 case round =>
  clear OW;obtain⟨i,j,rfl,rfl,hgk,FA,OL,GR⟩:=hrel;have LE:=FA.o.le;obtain⟨l1,l2,l3⟩:=LE;have ham:=HM.o;by_cases hlt:i<j
  ·have hlti:(i:Int)<(j:Int):=by omega
   obtain⟨h,hh⟩:∃h:Nat,h=(i+j) / 2:=⟨_,rfl⟩;have MID:=aA (show i≤h∧h<j by omega);have hhn:(h:Int)<(n:Int):=by omega
   have han:(a:Int)<(n:Int):=by omega
   have hw1:IntKind.i64.wrap ((i:Int)+(j:Int))=(i:Int)+(j:Int):=by simp[IntKind.wrap,IntKind.bits,IntKind.signed];omega
   have hw2:IntKind.u64.wrap ((i:Int)+(j:Int))=(i:Int)+(j:Int):=WN i j (by omega);have hw3:=Xf i j n h (by omega) hn hh;clear hh;clear ham;have ham:=aA HM.o;have hma:=HM.o;have mid:=MID.o;have OD:=aA (OL.o.keep ((Below.refl wr.heap.size wr).drew));have GX:=aA (GR.o.trans (iE ((Below.refl wr.heap.size wr).drew) (some g)));clear OL GR;obtain⟨Ax,mx,cx,q1,ix,hmx⟩:=OD.o.at (eB (f:=f) (show h<n by omega));obtain⟨Ay,my,cy,q2,iy,hmy⟩:=OD.o.at (eB (f:=f) (show a<n by omega));have CL:=aA (HF.o.calls wr.drew Ax Ay mx cx my cy (f (h)) (f (a)) GX.o (jT.ints ix hmx) (jT.ints iy hmy) (GD.o.mem _ (by omega)) (GD.o.mem _ (by omega)) (fun e=>by have:=GD.o.inj _ _ (by omega) (by omega) e;omega));clear ix iy;clear hma mid ham l1 l2 l3;go_upto_region 5 with fail
   refine aF 10 (.takes [0,1,2,3,4,5,6,7,8] (.one 9 (.fin 10 .done))) (fun w'=>w'.cell? ⟨g,h,none⟩=some (.slice Ax mx cx)∧w'.cell? ⟨g,a,none⟩=some (.slice Ay my cy)) (by kernel_rfl) (by kernel_rfl) (by kernel_rfl) (fun _ _ _ _ _ h=>h) ⟨q1,q2⟩ (fun hH=>?_);simp only[Scr.takes];clear q1 q2;generalize wr.drew=y1 at *
   have HGB:=aA (OD.o.lt g rfl).2
   iterate 9
    refine aH (v:=?_) rfl (by rfl) hH (fun w' hSw=>?_) ?_
    rotate_left
    ·(go_simp;try with_reducible rfl)
    try simp only[Act.put,aL,aM,aN]
   refine bI rfl (fun Kf hKf=>?_);go_simp
   refine CL.o.mono ?_;rintro e y2 ⟨cv2,rfl,hv,hb2⟩;refine hKf.out _ _ ⟨(hb2.cell (p:=⟨g,h,none⟩) HGB.o).trans hH.1,(hb2.cell (p:=⟨g,a,none⟩) HGB.o).trans hH.2⟩ (fun hH=>?_);clear hKf;try simp only[Act.put,aL,aM,aN]
   have O2:=aA (OD.o.keep hb2);have G2:=aA (GX.o.trans (iE hb2 (some g)));have HV:=aA hv;clear hb2 hv CL OD GX HGB;by_cases hneg:cv2<0
   ·refine bF rfl (fun Kf hKf=>?_);go_simp
    refine hKf.out _ _ ?_;clear hKf;try simp only[Act.put,aL,aM,aN]
    refine bP ?_;clear hH;have FN:=aA (FA.o.yes HO.o GD.o S2.o (by have:=HM.o;omega) hb MID.o.1 MID.o.2 (by simpa using HV.o.1 hneg));have HJ:=aA (show j≤(h+1)+(gk-1)∧gk-1<gk by have:=hgk.o;have:=MID.o;omega);have hw4:IntKind.i64.wrap ((h:Int)+1)=(h:Int)+1:=by simp[IntKind.wrap,IntKind.bits,IntKind.signed];omega
    clear hneg HV;go_wp2
    go_roundg (gk-1)
    case measure=>exact HJ.o.2
    case rel=>exact⟨h+1,j,by go_num,rfl,aA HJ.o.1,FN,O2,G2⟩
   ·refine bF rfl (fun Kf hKf=>?_);go_simp
    refine hKf.out _ _ ?_;clear hKf;try simp only[Act.put,aL,aM,aN]
    refine bP ?_;clear hH;have FN:=aA (FA.o.no HO.o GD.o S2.o (by have:=HM.o;omega) hb MID.o.1 MID.o.2 (by simpa using fun q=>hneg (HV.o.2 q)));have HJ:=aA (show h≤i+(gk-1)∧gk-1<gk by have:=hgk.o;have:=MID.o;omega);clear hneg HV;go_wp2
    go_roundg (gk-1)
    case measure=>exact HJ.o.2
    case rel=>exact⟨i,h,rfl,rfl,aA HJ.o.1,FN,O2,G2⟩
  ·obtain rfl:i=j:=by omega
   have hlti:¬(i:Int)<(i:Int):=by omega
   have hw4:IntKind.i64.wrap ((i:Int)-1)=(i:Int)-1:=by simp[IntKind.wrap,IntKind.bits,IntKind.signed];omega
   have LE:=aA (show m≤i∧i≤b∧m=a+1 by omega);clear l1 l2 l3 ham;go_wp2
   go_loopg [13] (i-a) (fun gk u wr=>∃k:Nat,u=.int .i64 k∧Hid (i≤k+1+gk)∧Hid (a≤k∧k+1≤i)∧Hid (j6 wr B B2 g n cap (dP f a (a+1) (k+1)))∧Hid (w.grownBy wr (some g)))
   case atStart=>exact⟨a,rfl,aA (by omega),aA (by have:=LE.o;omega),aA (by rw[yG];exact OL.o),GR⟩
   case round =>
    clear OL GR;obtain⟨k,rfl,hgk2,LK,OL,GR⟩:=hrel;by_cases hki:k+1<i
    ·have lk:=LK.o;have le:=LE.o;have hlt2:(k:Int)<(i:Int)-1:=by omega
     have hwk:IntKind.i64.wrap ((k:Int)+1)=(k:Int)+1:=by simp[IntKind.wrap,IntKind.bits,IntKind.signed];omega
     have hk0:0≤(k:Int)+1:=by omega
     have hk1:(k:Int)+1<(n:Int):=by omega
     have hk2:(k:Int)<(n:Int):=by omega
     have OD:=aA (OL.o.keep ((Below.refl wr.heap.size wr).drew));have GX:=aA (GR.o.trans (iE ((Below.refl wr.heap.size wr).drew) (some g)));obtain⟨Ax,mx,cx,q1,ix,hmx⟩:=OD.o.at (eB (f:=dP f a (a+1) (k+1)) (show k<n by omega));obtain⟨Ay,my,cy,q2,iy,hmy⟩:=OD.o.at (eB (f:=dP f a (a+1) (k+1)) (show k+1<n by omega));have IX:=aA ix;have IY:=aA iy;clear ix iy OL GR;clear lk le;go_upto_region 11 with fail
     refine gU 14 [2,3,4] 15 (.takes [0,1,5,6,7,8,9,10,11,12,13] (.fin 14 (.fin 15 (.fin 16 (.fin 17 .done))))) (fun w'=>w'.cell? ⟨g,k,none⟩=some (.slice Ax mx cx)∧w'.cell? ⟨g,k+1,none⟩=some (.slice Ay my cy)) (by kernel_rfl) (by kernel_rfl) (by kernel_rfl) rfl (by kernel_rfl) (fun _ _ _ _ _ h=>h) ⟨q1,q2⟩ (fun hH=>?_);generalize wr.drew=y3 at *
     iterate 3
      refine IQ (v:=?_) rfl (by rfl) (fun w'=>?_) ?_
      rotate_left
      ·(go_simp;try with_reducible rfl)
      try simp only[Act.put,aL,aM,aN]
     simp only[lR,Scr.takes]
     iterate 11
      refine aH (v:=?_) rfl (by rfl) hH (fun w' hSw=>?_) ?_
      rotate_left
      ·(go_simp;try with_reducible rfl)
      try simp only[Act.put,aL,aM,aN]
     clear q1 q2 hH;have z1:=OD.o.frozen (k);obtain⟨v1,y10⟩:=Option.isSome_iff_exists.1 (jT.anyCell OD.o (j:=k) (by omega));refine bF rfl (fun Kf hKf=>?_);go_simp
     refine hKf.out _ _ ?_;clear hKf;try simp only[Act.put,aL,aM,aN]
     refine bF rfl (fun Kf hKf=>?_);go_simp
     refine hKf.out _ _ ?_;clear hKf z1 y10;try simp only[Act.put,aL,aM,aN]
     have O2:=aA (jT.put OD.o (k) IY.o hmy);have G2:=aA (GX.o.trans (fW y3 g (k) (.slice Ay my cy)));have IX2:=aA (nO OD.o IX.o (k) (.slice Ay my cy));generalize y3.setCell ⟨g,k,none⟩ (.slice Ay my cy)=y4 at *
     have z2:=O2.o.frozen (k+1);obtain⟨v2,y20⟩:=Option.isSome_iff_exists.1 (jT.anyCell O2.o (j:=k+1) (by omega));refine bF rfl (fun Kf hKf=>?_);go_simp
     refine hKf.out _ _ ?_;clear hKf;try simp only[Act.put,aL,aM,aN]
     refine bF rfl (fun Kf hKf=>?_);go_simp
     refine hKf.out _ _ ?_;clear hKf z2 y20;try simp only[Act.put,aL,aM,aN]
     have O3:=aA (jT.put O2.o (k+1) IX2.o hmx);have G3:=aA (G2.o.trans (fW y4 g (k+1) (.slice Ax mx cx)));refine bP ?_;generalize y4.setCell ⟨g,k+1,none⟩ (.slice Ax mx cx)=y5 at *
     have lk:=LK.o;have O4:=aA (show j6 y5 B B2 g n cap (dP f a (a+1) (k+2)) by
      have:=O3.o;rw[qS (f:=dP f a (a+1) (k+1)) (show k<n by omega) (show k+1<n by omega),Pm (by omega)]at this;exact this)
     clear O2 O3 OD;clear lk;have HJ:=aA (show i≤(k+1)+1+(gk-1)∧gk-1<gk∧a≤k+1∧(k+1)+1≤i by have:=hgk2.o;have:=LK.o;omega);go_wp2
     go_roundg (gk-1)
     case measure=>exact HJ.o.2.1
     case rel=>exact⟨k+1,by go_num,aA HJ.o.1,aA HJ.o.2.2,O4,G3⟩
    ·have hik:=aA (show k+1=i by have:=LK.o;omega);have hlt2:¬(k:Int)<(i:Int)-1:=by have:=hik.o;omega
     have SG:=aA (show dQ S (dP f a (a+1) (k+1)) n∧fA R (dP f a (a+1) (k+1)) a b∧dO (dP f a (a+1) (k+1)) f a b by
      obtain⟨l1,l2,l3⟩:=LE.o;rw[hik.o];have FA:=FA.o;have S2:=S2.o;rw[l3]at FA S2 l1;exact⟨GD.o.rot (by omega) l1 (by omega),FA.done S2,(dO.rot f (by omega) l1).wide (by omega) l2⟩)
     go_wp2
     exact bodyPost_ret (v:=.tuple #[]) (by simp[results,Tryz.results219,go_sem]) rfl ⟨⟨_,rfl⟩,⟨_,OL.o,SG.o.1,SG.o.2.1,SG.o.2.2⟩,GR.o⟩
theorem KH {w:World}{B B2 g n cap:Nat}{f:Nat→LIn}{F:FuncId}{cv:Array Value}{R:LIn→LIn→Prop}{S:LIn→Prop}(own:j6 w B B2 g n cap f)(a m b:Nat)(hm:b=m+1)(ham:a+1<m)(hb:b≤n)(hn:n≤1000)(o:zS R S)(G:dQ S f n)(hF:l8 F cv w g R S)(s1:fA R f a m)(s2:fA R f m b) :
  Calls Tryz.prog 219 #[.slice (some ⟨g,0,none⟩) n cap,.int .i64 a,.int .i64 m,.int .i64 b,.func (.func F) #[] cv] w fun e w'=>(∃y,e=.returned y)∧(∃q,j6 w' B B2 g n cap q∧dQ S q n∧fA R q a b∧dO q f a b)∧w.grownBy w' (some g):=by
 have OW:=aA own;have henter:=hF.enters;have HF:=aA hF;have HO:=aA o;have GD:=aA G;have S1:=aA s1;have S2:=aA s2;clear own hF o G s1 s2;have hw0:IntKind.i64.wrap ((m:Int)-(a:Int))=(m:Int)-(a:Int):=by simp[IntKind.wrap,IntKind.bits,IntKind.signed];omega
 have hne:(((m:Int)-(a:Int))==1)=false:=by simp;omega
 have hw1:IntKind.i64.wrap ((b:Int)-(m:Int))=1:=by rw[hm,show((m+1:Nat):Int)-(m:Int)=1 by omega];decide
 have HM:=aA hm;clear hm;go_enter Tryz.func219,Tryz.ntmps219
 go_wp2
 clear hw0 hw1 hne;go_loopg [14,15] (m-a) (fun gk u v wr=>∃i j:Nat,u=.int .i64 i∧v=.int .i64 j∧Hid (j≤i+gk)∧Hid (tG R f a m i j)∧Hid (j6 wr B B2 g n cap f)∧Hid (w.grownBy wr (some g)))
 case atStart=>exact⟨a,m,rfl,rfl,aA (by omega),aA (tG.start (by omega)),OW,aA (World.grownBy.refl _ _)⟩
 case round =>
  clear OW;obtain⟨i,j,rfl,rfl,hgk,FA,OL,GR⟩:=hrel;have LE:=FA.o.le;obtain⟨l1,l2,l3⟩:=LE;have hbm:=HM.o;by_cases hlt:i<j
  ·have hlti:(i:Int)<(j:Int):=by omega
   obtain⟨h,hh⟩:∃h:Nat,h=(i+j) / 2:=⟨_,rfl⟩;have MID:=aA (show i≤h∧h<j by omega);have hhn:(h:Int)<(n:Int):=by omega
   have hmn:(m:Int)<(n:Int):=by omega
   have hw1:IntKind.i64.wrap ((i:Int)+(j:Int))=(i:Int)+(j:Int):=by simp[IntKind.wrap,IntKind.bits,IntKind.signed];omega
   have hw2:IntKind.u64.wrap ((i:Int)+(j:Int))=(i:Int)+(j:Int):=WN i j (by omega);have hw3:=Xf i j n h (by omega) hn hh;clear hh hbm;have hbm:=HM.o;have mid:=MID.o;have OD:=aA (OL.o.keep ((Below.refl wr.heap.size wr).drew));have GX:=aA (GR.o.trans (iE ((Below.refl wr.heap.size wr).drew) (some g)));clear OL GR;obtain⟨Ax,mx,cx,q1,ix,hmx⟩:=OD.o.at (eB (f:=f) (show m<n by omega));obtain⟨Ay,my,cy,q2,iy,hmy⟩:=OD.o.at (eB (f:=f) (show h<n by omega));have CL:=aA (HF.o.calls wr.drew Ax Ay mx cx my cy (f (m)) (f (h)) GX.o (jT.ints ix hmx) (jT.ints iy hmy) (GD.o.mem _ (by omega)) (GD.o.mem _ (by omega)) (fun e=>by have:=GD.o.inj _ _ (by omega) (by omega) e;omega));clear ix iy;clear hbm mid l1 l2 l3;go_upto_region 17 with fail
   refine aF 11 (.takes [0,1,2,3,4,5,6,7,8] (.one 9 (.take 10 (.fin 11 .done)))) (fun w'=>w'.cell? ⟨g,m,none⟩=some (.slice Ax mx cx)∧w'.cell? ⟨g,h,none⟩=some (.slice Ay my cy)) (by kernel_rfl) (by kernel_rfl) (by kernel_rfl) (fun _ _ _ _ _ h=>h) ⟨q1,q2⟩ (fun hH=>?_);simp only[Scr.takes];clear q1 q2;generalize wr.drew=y1 at *
   have HGB:=aA (OD.o.lt g rfl).2
   iterate 9
    refine aH (v:=?_) rfl (by rfl) hH (fun w' hSw=>?_) ?_
    rotate_left
    ·(go_simp;try with_reducible rfl)
    try simp only[Act.put,aL,aM,aN]
   refine bI rfl (fun Kf hKf=>?_);go_simp
   refine CL.o.mono ?_;rintro e y2 ⟨cv2,rfl,hv,hb2⟩;refine hKf.out _ _ ⟨(hb2.cell (p:=⟨g,m,none⟩) HGB.o).trans hH.1,(hb2.cell (p:=⟨g,h,none⟩) HGB.o).trans hH.2⟩ (fun hH=>?_);clear hKf;try simp only[Act.put,aL,aM,aN]
   have O2:=aA (OD.o.keep hb2);have G2:=aA (GX.o.trans (iE hb2 (some g)));have HV:=aA hv;clear hb2 hv CL OD GX HGB;by_cases hneg:cv2<0
   ·refine aH (v:=.bool true) rfl (by rfl) hH (fun w' hSw=>?_) ?_
    ·(go_simp;try with_reducible rfl)
    try simp only[Act.put,aL,aM,aN]
    refine bF rfl (fun Kf hKf=>?_);go_simp
    refine hKf.out _ _ ?_;clear hKf;try simp only[Act.put,aL,aM,aN]
    refine bP ?_;clear hH;have FN:=aA (FA.o.yes HO.o GD.o S1.o (by have:=HM.o;omega) MID.o.1 MID.o.2 (by simpa using HV.o.1 hneg));have HJ:=aA (show h≤i+(gk-1)∧gk-1<gk by have:=hgk.o;have:=MID.o;omega);clear hneg HV;go_wp2
    go_roundg (gk-1)
    case measure=>exact HJ.o.2
    case rel=>exact⟨i,h,rfl,rfl,aA HJ.o.1,FN,O2,G2⟩
   ·refine aH (v:=.bool false) rfl (by rfl) hH (fun w' hSw=>?_) ?_
    ·(go_simp;try with_reducible rfl)
    try simp only[Act.put,aL,aM,aN]
    refine bF rfl (fun Kf hKf=>?_);go_simp
    refine hKf.out _ _ ?_;clear hKf;try simp only[Act.put,aL,aM,aN]
    refine bP ?_;clear hH;have FN:=aA (FA.o.no HO.o GD.o S1.o (by have:=HM.o;omega) MID.o.1 MID.o.2 (by simpa using fun q=>hneg (HV.o.2 q)));have HJ:=aA (show j≤(h+1)+(gk-1)∧gk-1<gk by have:=hgk.o;have:=MID.o;omega);have hw4:IntKind.i64.wrap ((h:Int)+1)=(h:Int)+1:=by simp[IntKind.wrap,IntKind.bits,IntKind.signed];omega
    clear hneg HV;go_wp2
    go_roundg (gk-1)
    case measure=>exact HJ.o.2
    case rel=>exact⟨h+1,j,by go_num,rfl,aA HJ.o.1,FN,O2,G2⟩
  ·obtain rfl:i=j:=by omega
   have hlti:¬(i:Int)<(i:Int):=by omega
   have LE:=aA (show a≤i∧i≤m∧b=m+1 by omega);clear l1 l2 l3 hbm;go_wp2
   go_loopg [17] (m-i) (fun gk u wr=>∃k:Nat,u=.int .i64 k∧Hid (k≤i+gk)∧Hid (i≤k∧k≤m)∧Hid (j6 wr B B2 g n cap (dP f k m (m+1)))∧Hid (w.grownBy wr (some g)))
   case atStart=>exact⟨m,rfl,aA (by have:=LE.o;omega),aA (by have:=LE.o;omega),aA (by rw[Dy];exact OL.o),GR⟩
   case round =>
    clear OL GR;obtain⟨k,rfl,hgk2,LK,OL,GR⟩:=hrel;by_cases hki:i<k
    ·obtain⟨p,rfl⟩:∃p,k=p+1:=⟨k-1,by omega⟩;have lk:=LK.o;have le:=LE.o;have hlt2:(i:Int)<(p:Int)+1:=by omega
     have hp0:0≤(p:Int)+1:=by omega
     have hp1:(p:Int)+1<(n:Int):=by omega
     have hp2:(p:Int)<(n:Int):=by omega
     have hwp:IntKind.i64.wrap (p:Int)=(p:Int):=by simp[IntKind.wrap,IntKind.bits,IntKind.signed];omega
     have OD:=aA (OL.o.keep ((Below.refl wr.heap.size wr).drew));have GX:=aA (GR.o.trans (iE ((Below.refl wr.heap.size wr).drew) (some g)));obtain⟨Ax,mx,cx,q1,ix,hmx⟩:=OD.o.at (eB (f:=dP f (p+1) m (m+1)) (show p+1<n by omega));obtain⟨Ay,my,cy,q2,iy,hmy⟩:=OD.o.at (eB (f:=dP f (p+1) m (m+1)) (show p<n by omega));have IX:=aA ix;have IY:=aA iy;clear ix iy OL GR;clear lk le hki;go_upto_region 23 with fail
     refine gU 14 [2,3,4] 15 (.takes [0,1,5,6,7,8,9,10,11,12,13] (.fin 14 (.fin 15 (.fin 16 (.fin 17 .done))))) (fun w'=>w'.cell? ⟨g,p+1,none⟩=some (.slice Ax mx cx)∧w'.cell? ⟨g,p,none⟩=some (.slice Ay my cy)) (by kernel_rfl) (by kernel_rfl) (by kernel_rfl) rfl (by kernel_rfl) (fun _ _ _ _ _ h=>h) ⟨q1,q2⟩ (fun hH=>?_);generalize wr.drew=y3 at *
     iterate 3
      refine IQ (v:=?_) rfl (by rfl) (fun w'=>?_) ?_
      rotate_left
      ·(go_simp;try with_reducible rfl)
      try simp only[Act.put,aL,aM,aN]
     simp only[lR,Scr.takes]
     iterate 11
      refine aH (v:=?_) rfl (by rfl) hH (fun w' hSw=>?_) ?_
      rotate_left
      ·(go_simp;try with_reducible rfl)
      try simp only[Act.put,aL,aM,aN]
     clear q1 q2 hH;have z1:=OD.o.frozen (p+1);obtain⟨v1,y10⟩:=Option.isSome_iff_exists.1 (jT.anyCell OD.o (j:=p+1) (by omega));refine bF rfl (fun Kf hKf=>?_);go_simp
     refine hKf.out _ _ ?_;clear hKf;try simp only[Act.put,aL,aM,aN]
     refine bF rfl (fun Kf hKf=>?_);go_simp
     refine hKf.out _ _ ?_;clear hKf z1 y10;try simp only[Act.put,aL,aM,aN]
     have O2:=aA (jT.put OD.o (p+1) IY.o hmy);have G2:=aA (GX.o.trans (fW y3 g (p+1) (.slice Ay my cy)));have IX2:=aA (nO OD.o IX.o (p+1) (.slice Ay my cy));generalize y3.setCell ⟨g,p+1,none⟩ (.slice Ay my cy)=y4 at *
     have z2:=O2.o.frozen (p);obtain⟨v2,y20⟩:=Option.isSome_iff_exists.1 (jT.anyCell O2.o (j:=p) (by omega));refine bF rfl (fun Kf hKf=>?_);go_simp
     refine hKf.out _ _ ?_;clear hKf;try simp only[Act.put,aL,aM,aN]
     refine bF rfl (fun Kf hKf=>?_);go_simp
     refine hKf.out _ _ ?_;clear hKf z2 y20;try simp only[Act.put,aL,aM,aN]
     have O3:=aA (jT.put O2.o (p) IX2.o hmx);have G3:=aA (G2.o.trans (fW y4 g (p) (.slice Ax mx cx)));refine bP ?_;generalize y4.setCell ⟨g,p,none⟩ (.slice Ax mx cx)=y5 at *
     have lk:=LK.o;have O4:=aA (show j6 y5 B B2 g n cap (dP f p m (m+1)) by
      have:=O3.o;rw[qS (f:=dP f (p+1) m (m+1)) (show p+1<n by omega) (show p<n by omega),(show gP (dP f (p+1) m (m+1)) (p+1) p=dP f p m (m+1)from Pn (by omega) (by omega))]at this;exact this)
     clear O2 O3 OD;clear lk;have HJ:=aA (show p≤i+(gk-1)∧gk-1<gk∧i≤p∧p≤m by have:=hgk2.o;have:=LK.o;have:=hlt2;omega);go_wp2
     go_roundg (gk-1)
     case measure=>exact HJ.o.2.1
     case rel=>exact⟨p,by go_num,aA HJ.o.1,aA HJ.o.2.2,O4,G3⟩
    ·have hik:=aA (show k=i by have:=LK.o;omega);have hlt2:¬(i:Int)<(k:Int):=by have:=hik.o;omega
     have SG:=aA (show dQ S (dP f k m (m+1)) n∧fA R (dP f k m (m+1)) a b∧dO (dP f k m (m+1)) f a b by
      obtain⟨l1,l2,l3⟩:=LE.o;rw[hik.o,l3];exact⟨GD.o.rot l2 (by omega) (by omega),FA.o.done S1.o,(dO.rot f l2 (by omega)).wide l1 (by omega)⟩)
     go_wp2
     exact bodyPost_ret (v:=.tuple #[]) (by simp[results,Tryz.results219,go_sem]) rfl ⟨⟨_,rfl⟩,⟨_,OL.o,SG.o.1,SG.o.2.1,SG.o.2.2⟩,GR.o⟩
end Go.Proofs.YtfmnagcglhlicaaGreat
