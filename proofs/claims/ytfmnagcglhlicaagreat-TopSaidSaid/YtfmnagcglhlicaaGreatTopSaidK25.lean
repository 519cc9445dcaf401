/- Texts melted into one: slices.SortStableFunc on rows of lists: merging where the first stretch holds one. Conditions: the row is the call's own, as its lists are; of two lists that differ the comparison puts exactly one first. | slices.SortStableFunc on rows of lists: merging where the second stretc -/
import Derived.Test.YtfmnagcglhlicaaGreatTopSaidK24
import Derived.IntWalk
set_option maxRecDepth 100000
namespace Go.Proofs.YtfmnagcglhlicaaGreat
open Go.RowKit
theorem ZiI {α:Type}(f:Nat→α)(a b:Nat):Zbo f a b b=f:=by
 funext k
 unfold Zbo
 repeat' split
 all_goals first|rfl|(exfalso;omega)|(congr 1;omega)
theorem Zkh {α:Type}(f:Nat→α)(a b:Nat):Zbo f a a b=f:=by
 funext k
 unfold Zbo
 repeat' split
 all_goals first|rfl|(exfalso;omega)|(congr 1;omega)
theorem ZtO (i j n h:Nat)(hj:i+j≤2*n)(hn:n≤1000)(hh:h=(i+j) / 2):wrap64 (((i:Int)+(j:Int)) / 2)=(h:Int):=by
 rw[show((i:Int)+(j:Int)) / 2=(h:Int) by omega]
 simp[wrap64]
 omega
theorem ZtB (i j:Nat)(h:i+j≤2000):IntKind.u64.wrap ((i:Int)+(j:Int))=(i:Int)+(j:Int) :=
 IntWalk.u64_in _ ⟨by omega,Int.le_trans (show(i:Int)+(j:Int)≤2000 by omega) (by decide)⟩
set_option maxHeartbeats 8000000 in
theorem Znt {w:World}{B B2 g n cap:Nat}{f:Nat→List Int}{F:FuncId}{cv:Array Value}{R:List Int→List Int→Prop}{S:List Int→Prop}(own:Zdh w B B2 g n cap f)(a m b:Nat)(hm:m=a+1)(hmb:m<b)(hb:b≤n)(hn:n≤1000)(o:Zjl R S)(G:Zbp S f n)(hF:Zd6 F cv w g R S)(s1:ZbY R f a m)(s2:ZbY R f m b) :
  Calls Tryz.prog 219 #[.slice (some ⟨g,0,none⟩) n cap,.int .i64 a,.int .i64 m,.int .i64 b,.func (.func F) #[] cv] w fun e w'=>(∃y,e=.returned y)∧(∃q,Zdh w' B B2 g n cap q∧Zbp S q n∧ZbY R q a b∧Zbl q f a b)∧w.grownBy w' (some g):=by
 have OW:=Zaa own
 have henter:=hF.enters
 have HF:=Zaa hF
 have HO:=Zaa o
 have GD:=Zaa G
 have S1:=Zaa s1
 have S2:=Zaa s2
 clear own hF o G s1 s2
 have hw0:IntKind.i64.wrap ((m:Int)-(a:Int))=1:=by rw[hm,show((a+1:Nat):Int)-(a:Int)=1 by omega];decide
 have HM:=Zaa hm
 clear hm
 go_enter Tryz.func219,Tryz.ntmps219
 go_wp2
 clear hw0
 go_loopg [10,11] (b-m) (fun gk u v wr=>∃i j:Nat,u=.int .i64 i∧v=.int .i64 j∧Hid (j≤i+gk)∧Hid (ZgN R f a m b i j)∧Hid (Zdh wr B B2 g n cap f)∧Hid (w.grownBy wr (some g)))
 case atStart=>exact⟨m,b,rfl,rfl,Zaa (by omega),Zaa (ZgN.start (by omega)),OW,Zaa (World.grownBy.refl _ _)⟩
 case round =>
  clear OW
  obtain⟨i,j,rfl,rfl,hgk,FA,OL,GR⟩:=hrel
  have LE:=FA.out.le
  obtain⟨l1,l2,l3⟩:=LE
  have ham:=HM.out
  by_cases hlt:i<j
  ·have hlti:(i:Int)<(j:Int):=by omega
   obtain⟨h,hh⟩:∃h:Nat,h=(i+j) / 2:=⟨_,rfl⟩
   have MID:=Zaa (show i≤h∧h<j by omega)
   have hhn:(h:Int)<(n:Int):=by omega
   have han:(a:Int)<(n:Int):=by omega
   have hw1:IntKind.i64.wrap ((i:Int)+(j:Int))=(i:Int)+(j:Int):=by simp[IntKind.wrap,IntKind.bits,IntKind.signed];omega
   have hw2:IntKind.u64.wrap ((i:Int)+(j:Int))=(i:Int)+(j:Int):=ZtB i j (by omega)
   have hw3:=ZtO i j n h (by omega) hn hh
   clear hh
   clear ham
   have ham:=Zaa HM.out
   have hma:=HM.out
   have mid:=MID.out
   have OD:=Zaa (OL.out.keep ((Below.refl wr.heap.size wr).drew))
   have GX:=Zaa (GR.out.trans (ZcA ((Below.refl wr.heap.size wr).drew) (some g)))
   clear OL GR
   obtain⟨Ax,mx,cx,q1,ix,hmx⟩:=OD.out.at (ZbA (f:=f) (show h<n by omega))
   obtain⟨Ay,my,cy,q2,iy,hmy⟩:=OD.out.at (ZbA (f:=f) (show a<n by omega))
   have CL:=Zaa (HF.out.calls wr.drew Ax Ay mx cx my cy (f (h)) (f (a)) GX.out (Zc9.ints ix hmx) (Zc9.ints iy hmy) (GD.out.mem _ (by omega)) (GD.out.mem _ (by omega)) (fun e=>by have:=GD.out.inj _ _ (by omega) (by omega) e;omega))
   clear ix iy
   clear hma mid ham l1 l2 l3
   go_upto_region 5 with fail
   refine Zae 10 (.takes [0,1,2,3,4,5,6,7,8] (.one 9 (.fin 10 .done))) (fun w'=>w'.cell? ⟨g,h,none⟩=some (.slice Ax mx cx)∧w'.cell? ⟨g,a,none⟩=some (.slice Ay my cy)) (by kernel_rfl) (by kernel_rfl) (by kernel_rfl) (fun _ _ _ _ _ h=>h) ⟨q1,q2⟩ (fun hHeld=>?_)
   simp only[Scr.takes]
   clear q1 q2
   generalize wr.drew=y1 at *
   have HGB:=Zaa (OD.out.lt g rfl).2
   iterate 9
    refine Zac (v:=?_) rfl (by rfl) hHeld (fun w' hSw=>?_) ?_
    rotate_left
    ·(go_simp;try with_reducible rfl)
    try simp only[Act.put,Zag,Zah,Zai]
   refine ZaC rfl (fun Kf hKf=>?_)
   go_simp
   refine CL.out.mono ?_
   rintro e y2 ⟨cv2,rfl,hv,hb2⟩
   refine hKf.out _ _ ⟨(hb2.cell (p:=⟨g,h,none⟩) HGB.out).trans hHeld.1,(hb2.cell (p:=⟨g,a,none⟩) HGB.out).trans hHeld.2⟩ (fun hHeld=>?_)
   clear hKf
   try simp only[Act.put,Zag,Zah,Zai]
   have O2:=Zaa (OD.out.keep hb2)
   have G2:=Zaa (GX.out.trans (ZcA hb2 (some g)))
   have HV:=Zaa hv
   clear hb2 hv CL OD GX HGB
   by_cases hneg:cv2<0
   ·refine Zaz rfl (fun Kf hKf=>?_)
    go_simp
    refine hKf.out _ _ ?_
    clear hKf
    try simp only[Act.put,Zag,Zah,Zai]
    refine ZaH ?_
    clear hHeld
    have FN:=Zaa (FA.out.yes HO.out GD.out S2.out (by have:=HM.out;omega) hb MID.out.1 MID.out.2 (by simpa using HV.out.1 hneg))
    have HJ:=Zaa (show j≤(h+1)+(gk-1)∧gk-1<gk by have:=hgk.out;have:=MID.out;omega)
    have hw4:IntKind.i64.wrap ((h:Int)+1)=(h:Int)+1:=by simp[IntKind.wrap,IntKind.bits,IntKind.signed];omega
    clear hneg HV
    go_wp2
    go_roundg (gk-1)
    case measure=>exact HJ.out.2
    case rel=>exact⟨h+1,j,by go_num,rfl,Zaa HJ.out.1,FN,O2,G2⟩
   ·refine Zaz rfl (fun Kf hKf=>?_)
    go_simp
    refine hKf.out _ _ ?_
    clear hKf
    try simp only[Act.put,Zag,Zah,Zai]
    refine ZaH ?_
    clear hHeld
    have FN:=Zaa (FA.out.no HO.out GD.out S2.out (by have:=HM.out;omega) hb MID.out.1 MID.out.2 (by simpa using fun q=>hneg (HV.out.2 q)))
    have HJ:=Zaa (show h≤i+(gk-1)∧gk-1<gk by have:=hgk.out;have:=MID.out;omega)
    clear hneg HV
    go_wp2
    go_roundg (gk-1)
    case measure=>exact HJ.out.2
    case rel=>exact⟨i,h,rfl,rfl,Zaa HJ.out.1,FN,O2,G2⟩
  ·obtain rfl:i=j:=by omega
   have hlti:¬(i:Int)<(i:Int):=by omega
   have hw4:IntKind.i64.wrap ((i:Int)-1)=(i:Int)-1:=by simp[IntKind.wrap,IntKind.bits,IntKind.signed];omega
   have LE:=Zaa (show m≤i∧i≤b∧m=a+1 by omega)
   clear l1 l2 l3 ham
   go_wp2
   go_loopg [13] (i-a) (fun gk u wr=>∃k:Nat,u=.int .i64 k∧Hid (i≤k+1+gk)∧Hid (a≤k∧k+1≤i)∧Hid (Zdh wr B B2 g n cap (Zbo f a (a+1) (k+1)))∧Hid (w.grownBy wr (some g)))
   case atStart=>exact⟨a,rfl,Zaa (by omega),Zaa (by have:=LE.out;omega),Zaa (by rw[ZiI];exact OL.out),GR⟩
   case round =>
    clear OL GR
    obtain⟨k,rfl,hgk2,LK,OL,GR⟩:=hrel
    by_cases hki:k+1<i
    ·have lk:=LK.out
     have le:=LE.out
     have hlt2:(k:Int)<(i:Int)-1:=by omega
     have hwk:IntKind.i64.wrap ((k:Int)+1)=(k:Int)+1:=by simp[IntKind.wrap,IntKind.bits,IntKind.signed];omega
     have hk0:0≤(k:Int)+1:=by omega
     have hk1:(k:Int)+1<(n:Int):=by omega
     have hk2:(k:Int)<(n:Int):=by omega
     have OD:=Zaa (OL.out.keep ((Below.refl wr.heap.size wr).drew))
     have GX:=Zaa (GR.out.trans (ZcA ((Below.refl wr.heap.size wr).drew) (some g)))
     obtain⟨Ax,mx,cx,q1,ix,hmx⟩:=OD.out.at (ZbA (f:=Zbo f a (a+1) (k+1)) (show k<n by omega))
     obtain⟨Ay,my,cy,q2,iy,hmy⟩:=OD.out.at (ZbA (f:=Zbo f a (a+1) (k+1)) (show k+1<n by omega))
     have IX:=Zaa ix
     have IY:=Zaa iy
     clear ix iy OL GR
     clear lk le
     go_upto_region 11 with fail
     refine Zcx 14 [2,3,4] 15 (.takes [0,1,5,6,7,8,9,10,11,12,13] (.fin 14 (.fin 15 (.fin 16 (.fin 17 .done))))) (fun w'=>w'.cell? ⟨g,k,none⟩=some (.slice Ax mx cx)∧w'.cell? ⟨g,k+1,none⟩=some (.slice Ay my cy)) (by kernel_rfl) (by kernel_rfl) (by kernel_rfl) rfl (by kernel_rfl) (fun _ _ _ _ _ h=>h) ⟨q1,q2⟩ (fun hHeld=>?_)
     generalize wr.drew=y3 at *
     iterate 3
      refine ZmF (v:=?_) rfl (by rfl) (fun w'=>?_) ?_
      rotate_left
      ·(go_simp;try with_reducible rfl)
      try simp only[Act.put,Zag,Zah,Zai]
     simp only[ZdW,Scr.takes]
     iterate 11
      refine Zac (v:=?_) rfl (by rfl) hHeld (fun w' hSw=>?_) ?_
      rotate_left
      ·(go_simp;try with_reducible rfl)
      try simp only[Act.put,Zag,Zah,Zai]
     clear q1 q2 hHeld
     have z1:=OD.out.frozen (k)
     obtain⟨v1,y10⟩:=Option.isSome_iff_exists.1 (Zc9.anyCell OD.out (j:=k) (by omega))
     refine Zaz rfl (fun Kf hKf=>?_)
     go_simp
     refine hKf.out _ _ ?_
     clear hKf
     try simp only[Act.put,Zag,Zah,Zai]
     refine Zaz rfl (fun Kf hKf=>?_)
     go_simp
     refine hKf.out _ _ ?_
     clear hKf z1 y10
     try simp only[Act.put,Zag,Zah,Zai]
     have O2:=Zaa (Zc9.put OD.out (k) IY.out hmy)
     have G2:=Zaa (GX.out.trans (Zce y3 g (k) (.slice Ay my cy)))
     have IX2:=Zaa (ZeF OD.out IX.out (k) (.slice Ay my cy))
     generalize y3.setCell ⟨g,k,none⟩ (.slice Ay my cy)=y4 at *
     have z2:=O2.out.frozen (k+1)
     obtain⟨v2,y20⟩:=Option.isSome_iff_exists.1 (Zc9.anyCell O2.out (j:=k+1) (by omega))
     refine Zaz rfl (fun Kf hKf=>?_)
     go_simp
     refine hKf.out _ _ ?_
     clear hKf
     try simp only[Act.put,Zag,Zah,Zai]
     refine Zaz rfl (fun Kf hKf=>?_)
     go_simp
     refine hKf.out _ _ ?_
     clear hKf z2 y20
     try simp only[Act.put,Zag,Zah,Zai]
     have O3:=Zaa (Zc9.put O2.out (k+1) IX2.out hmx)
     have G3:=Zaa (G2.out.trans (Zce y4 g (k+1) (.slice Ax mx cx)))
     refine ZaH ?_
     generalize y4.setCell ⟨g,k+1,none⟩ (.slice Ax mx cx)=y5 at *
     have lk:=LK.out
     have O4:=Zaa (show Zdh y5 B B2 g n cap (Zbo f a (a+1) (k+2)) by
      have:=O3.out
      rw[ZfI (f:=Zbo f a (a+1) (k+1)) (show k<n by omega) (show k+1<n by omega),Zo6 (by omega)]at this
      exact this)
     clear O2 O3 OD
     clear lk
     have HJ:=Zaa (show i≤(k+1)+1+(gk-1)∧gk-1<gk∧a≤k+1∧(k+1)+1≤i by have:=hgk2.out;have:=LK.out;omega)
     go_wp2
     go_roundg (gk-1)
     case measure=>exact HJ.out.2.1
     case rel=>exact⟨k+1,by go_num,Zaa HJ.out.1,Zaa HJ.out.2.2,O4,G3⟩
    ·have hik:=Zaa (show k+1=i by have:=LK.out;omega)
     have hlt2:¬(k:Int)<(i:Int)-1:=by have:=hik.out;omega
     have SG:=Zaa (show Zbp S (Zbo f a (a+1) (k+1)) n∧ZbY R (Zbo f a (a+1) (k+1)) a b∧Zbl (Zbo f a (a+1) (k+1)) f a b by
      obtain⟨l1,l2,l3⟩:=LE.out
      rw[hik.out]
      have FA:=FA.out
      have S2:=S2.out
      rw[l3]at FA S2 l1
      exact⟨GD.out.rot (by omega) l1 (by omega),FA.done S2,(Zbl.rot f (by omega) l1).wide (by omega) l2⟩)
     go_wp2
     exact bodyPost_ret (v:=.tuple #[]) (by simp[results,Tryz.results219,go_sem]) rfl ⟨⟨_,rfl⟩,⟨_,OL.out,SG.out.1,SG.out.2.1,SG.out.2.2⟩,GR.out⟩
set_option maxHeartbeats 8000000 in
theorem Znu {w:World}{B B2 g n cap:Nat}{f:Nat→List Int}{F:FuncId}{cv:Array Value}{R:List Int→List Int→Prop}{S:List Int→Prop}(own:Zdh w B B2 g n cap f)(a m b:Nat)(hm:b=m+1)(ham:a+1<m)(hb:b≤n)(hn:n≤1000)(o:Zjl R S)(G:Zbp S f n)(hF:Zd6 F cv w g R S)(s1:ZbY R f a m)(s2:ZbY R f m b) :
  Calls Tryz.prog 219 #[.slice (some ⟨g,0,none⟩) n cap,.int .i64 a,.int .i64 m,.int .i64 b,.func (.func F) #[] cv] w fun e w'=>(∃y,e=.returned y)∧(∃q,Zdh w' B B2 g n cap q∧Zbp S q n∧ZbY R q a b∧Zbl q f a b)∧w.grownBy w' (some g):=by
 have OW:=Zaa own
 have henter:=hF.enters
 have HF:=Zaa hF
 have HO:=Zaa o
 have GD:=Zaa G
 have S1:=Zaa s1
 have S2:=Zaa s2
 clear own hF o G s1 s2
 have hw0:IntKind.i64.wrap ((m:Int)-(a:Int))=(m:Int)-(a:Int):=by simp[IntKind.wrap,IntKind.bits,IntKind.signed];omega
 have hne:(((m:Int)-(a:Int))==1)=false:=by simp;omega
 have hw1:IntKind.i64.wrap ((b:Int)-(m:Int))=1:=by rw[hm,show((m+1:Nat):Int)-(m:Int)=1 by omega];decide
 have HM:=Zaa hm
 clear hm
 go_enter Tryz.func219,Tryz.ntmps219
 go_wp2
 clear hw0 hw1 hne
 go_loopg [14,15] (m-a) (fun gk u v wr=>∃i j:Nat,u=.int .i64 i∧v=.int .i64 j∧Hid (j≤i+gk)∧Hid (ZgO R f a m i j)∧Hid (Zdh wr B B2 g n cap f)∧Hid (w.grownBy wr (some g)))
 case atStart=>exact⟨a,m,rfl,rfl,Zaa (by omega),Zaa (ZgO.start (by omega)),OW,Zaa (World.grownBy.refl _ _)⟩
 case round =>
  clear OW
  obtain⟨i,j,rfl,rfl,hgk,FA,OL,GR⟩:=hrel
  have LE:=FA.out.le
  obtain⟨l1,l2,l3⟩:=LE
  have hbm:=HM.out
  by_cases hlt:i<j
  ·have hlti:(i:Int)<(j:Int):=by omega
   obtain⟨h,hh⟩:∃h:Nat,h=(i+j) / 2:=⟨_,rfl⟩
   have MID:=Zaa (show i≤h∧h<j by omega)
   have hhn:(h:Int)<(n:Int):=by omega
   have hmn:(m:Int)<(n:Int):=by omega
   have hw1:IntKind.i64.wrap ((i:Int)+(j:Int))=(i:Int)+(j:Int):=by simp[IntKind.wrap,IntKind.bits,IntKind.signed];omega
   have hw2:IntKind.u64.wrap ((i:Int)+(j:Int))=(i:Int)+(j:Int):=ZtB i j (by omega)
   have hw3:=ZtO i j n h (by omega) hn hh
   clear hh hbm
   have hbm:=HM.out
   have mid:=MID.out
   have OD:=Zaa (OL.out.keep ((Below.refl wr.heap.size wr).drew))
   have GX:=Zaa (GR.out.trans (ZcA ((Below.refl wr.heap.size wr).drew) (some g)))
   clear OL GR
   obtain⟨Ax,mx,cx,q1,ix,hmx⟩:=OD.out.at (ZbA (f:=f) (show m<n by omega))
   obtain⟨Ay,my,cy,q2,iy,hmy⟩:=OD.out.at (ZbA (f:=f) (show h<n by omega))
   have CL:=Zaa (HF.out.calls wr.drew Ax Ay mx cx my cy (f (m)) (f (h)) GX.out (Zc9.ints ix hmx) (Zc9.ints iy hmy) (GD.out.mem _ (by omega)) (GD.out.mem _ (by omega)) (fun e=>by have:=GD.out.inj _ _ (by omega) (by omega) e;omega))
   clear ix iy
   clear hbm mid l1 l2 l3
   go_upto_region 17 with fail
   refine Zae 11 (.takes [0,1,2,3,4,5,6,7,8] (.one 9 (.take 10 (.fin 11 .done)))) (fun w'=>w'.cell? ⟨g,m,none⟩=some (.slice Ax mx cx)∧w'.cell? ⟨g,h,none⟩=some (.slice Ay my cy)) (by kernel_rfl) (by kernel_rfl) (by kernel_rfl) (fun _ _ _ _ _ h=>h) ⟨q1,q2⟩ (fun hHeld=>?_)
   simp only[Scr.takes]
   clear q1 q2
   generalize wr.drew=y1 at *
   have HGB:=Zaa (OD.out.lt g rfl).2
   iterate 9
    refine Zac (v:=?_) rfl (by rfl) hHeld (fun w' hSw=>?_) ?_
    rotate_left
    ·(go_simp;try with_reducible rfl)
    try simp only[Act.put,Zag,Zah,Zai]
   refine ZaC rfl (fun Kf hKf=>?_)
   go_simp
   refine CL.out.mono ?_
   rintro e y2 ⟨cv2,rfl,hv,hb2⟩
   refine hKf.out _ _ ⟨(hb2.cell (p:=⟨g,m,none⟩) HGB.out).trans hHeld.1,(hb2.cell (p:=⟨g,h,none⟩) HGB.out).trans hHeld.2⟩ (fun hHeld=>?_)
   clear hKf
   try simp only[Act.put,Zag,Zah,Zai]
   have O2:=Zaa (OD.out.keep hb2)
   have G2:=Zaa (GX.out.trans (ZcA hb2 (some g)))
   have HV:=Zaa hv
   clear hb2 hv CL OD GX HGB
   by_cases hneg:cv2<0
   ·refine Zac (v:=.bool true) rfl (by rfl) hHeld (fun w' hSw=>?_) ?_
    ·(go_simp;try with_reducible rfl)
    try simp only[Act.put,Zag,Zah,Zai]
    refine Zaz rfl (fun Kf hKf=>?_)
    go_simp
    refine hKf.out _ _ ?_
    clear hKf
    try simp only[Act.put,Zag,Zah,Zai]
    refine ZaH ?_
    clear hHeld
    have FN:=Zaa (FA.out.yes HO.out GD.out S1.out (by have:=HM.out;omega) MID.out.1 MID.out.2 (by simpa using HV.out.1 hneg))
    have HJ:=Zaa (show h≤i+(gk-1)∧gk-1<gk by have:=hgk.out;have:=MID.out;omega)
    clear hneg HV
    go_wp2
    go_roundg (gk-1)
    case measure=>exact HJ.out.2
    case rel=>exact⟨i,h,rfl,rfl,Zaa HJ.out.1,FN,O2,G2⟩
   ·refine Zac (v:=.bool false) rfl (by rfl) hHeld (fun w' hSw=>?_) ?_
    ·(go_simp;try with_reducible rfl)
    try simp only[Act.put,Zag,Zah,Zai]
    refine Zaz rfl (fun Kf hKf=>?_)
    go_simp
    refine hKf.out _ _ ?_
    clear hKf
    try simp only[Act.put,Zag,Zah,Zai]
    refine ZaH ?_
    clear hHeld
    have FN:=Zaa (FA.out.no HO.out GD.out S1.out (by have:=HM.out;omega) MID.out.1 MID.out.2 (by simpa using fun q=>hneg (HV.out.2 q)))
    have HJ:=Zaa (show j≤(h+1)+(gk-1)∧gk-1<gk by have:=hgk.out;have:=MID.out;omega)
    have hw4:IntKind.i64.wrap ((h:Int)+1)=(h:Int)+1:=by simp[IntKind.wrap,IntKind.bits,IntKind.signed];omega
    clear hneg HV
    go_wp2
    go_roundg (gk-1)
    case measure=>exact HJ.out.2
    case rel=>exact⟨h+1,j,by go_num,rfl,Zaa HJ.out.1,FN,O2,G2⟩
  ·obtain rfl:i=j:=by omega
   have hlti:¬(i:Int)<(i:Int):=by omega
   have LE:=Zaa (show a≤i∧i≤m∧b=m+1 by omega)
   clear l1 l2 l3 hbm
   go_wp2
   go_loopg [17] (m-i) (fun gk u wr=>∃k:Nat,u=.int .i64 k∧Hid (k≤i+gk)∧Hid (i≤k∧k≤m)∧Hid (Zdh wr B B2 g n cap (Zbo f k m (m+1)))∧Hid (w.grownBy wr (some g)))
   case atStart=>exact⟨m,rfl,Zaa (by have:=LE.out;omega),Zaa (by have:=LE.out;omega),Zaa (by rw[Zkh];exact OL.out),GR⟩
   case round =>
    clear OL GR
    obtain⟨k,rfl,hgk2,LK,OL,GR⟩:=hrel
    by_cases hki:i<k
    ·obtain⟨p,rfl⟩:∃p,k=p+1:=⟨k-1,by omega⟩
     have lk:=LK.out
     have le:=LE.out
     have hlt2:(i:Int)<(p:Int)+1:=by omega
     have hp0:0≤(p:Int)+1:=by omega
     have hp1:(p:Int)+1<(n:Int):=by omega
     have hp2:(p:Int)<(n:Int):=by omega
     have hwp:IntKind.i64.wrap (p:Int)=(p:Int):=by simp[IntKind.wrap,IntKind.bits,IntKind.signed];omega
     have OD:=Zaa (OL.out.keep ((Below.refl wr.heap.size wr).drew))
     have GX:=Zaa (GR.out.trans (ZcA ((Below.refl wr.heap.size wr).drew) (some g)))
     obtain⟨Ax,mx,cx,q1,ix,hmx⟩:=OD.out.at (ZbA (f:=Zbo f (p+1) m (m+1)) (show p+1<n by omega))
     obtain⟨Ay,my,cy,q2,iy,hmy⟩:=OD.out.at (ZbA (f:=Zbo f (p+1) m (m+1)) (show p<n by omega))
     have IX:=Zaa ix
     have IY:=Zaa iy
     clear ix iy OL GR
     clear lk le hki
     go_upto_region 23 with fail
     refine Zcx 14 [2,3,4] 15 (.takes [0,1,5,6,7,8,9,10,11,12,13] (.fin 14 (.fin 15 (.fin 16 (.fin 17 .done))))) (fun w'=>w'.cell? ⟨g,p+1,none⟩=some (.slice Ax mx cx)∧w'.cell? ⟨g,p,none⟩=some (.slice Ay my cy)) (by kernel_rfl) (by kernel_rfl) (by kernel_rfl) rfl (by kernel_rfl) (fun _ _ _ _ _ h=>h) ⟨q1,q2⟩ (fun hHeld=>?_)
     generalize wr.drew=y3 at *
     iterate 3
      refine ZmF (v:=?_) rfl (by rfl) (fun w'=>?_) ?_
      rotate_left
      ·(go_simp;try with_reducible rfl)
      try simp only[Act.put,Zag,Zah,Zai]
     simp only[ZdW,Scr.takes]
     iterate 11
      refine Zac (v:=?_) rfl (by rfl) hHeld (fun w' hSw=>?_) ?_
      rotate_left
      ·(go_simp;try with_reducible rfl)
      try simp only[Act.put,Zag,Zah,Zai]
     clear q1 q2 hHeld
     have z1:=OD.out.frozen (p+1)
     obtain⟨v1,y10⟩:=Option.isSome_iff_exists.1 (Zc9.anyCell OD.out (j:=p+1) (by omega))
     refine Zaz rfl (fun Kf hKf=>?_)
     go_simp
     refine hKf.out _ _ ?_
     clear hKf
     try simp only[Act.put,Zag,Zah,Zai]
     refine Zaz rfl (fun Kf hKf=>?_)
     go_simp
     refine hKf.out _ _ ?_
     clear hKf z1 y10
     try simp only[Act.put,Zag,Zah,Zai]
     have O2:=Zaa (Zc9.put OD.out (p+1) IY.out hmy)
     have G2:=Zaa (GX.out.trans (Zce y3 g (p+1) (.slice Ay my cy)))
     have IX2:=Zaa (ZeF OD.out IX.out (p+1) (.slice Ay my cy))
     generalize y3.setCell ⟨g,p+1,none⟩ (.slice Ay my cy)=y4 at *
     have z2:=O2.out.frozen (p)
     obtain⟨v2,y20⟩:=Option.isSome_iff_exists.1 (Zc9.anyCell O2.out (j:=p) (by omega))
     refine Zaz rfl (fun Kf hKf=>?_)
     go_simp
     refine hKf.out _ _ ?_
     clear hKf
     try simp only[Act.put,Zag,Zah,Zai]
     refine Zaz rfl (fun Kf hKf=>?_)
     go_simp
     refine hKf.out _ _ ?_
     clear hKf z2 y20
     try simp only[Act.put,Zag,Zah,Zai]
     have O3:=Zaa (Zc9.put O2.out (p) IX2.out hmx)
     have G3:=Zaa (G2.out.trans (Zce y4 g (p) (.slice Ax mx cx)))
     refine ZaH ?_
     generalize y4.setCell ⟨g,p,none⟩ (.slice Ax mx cx)=y5 at *
     have lk:=LK.out
     have O4:=Zaa (show Zdh y5 B B2 g n cap (Zbo f p m (m+1)) by
      have:=O3.out
      rw[ZfI (f:=Zbo f (p+1) m (m+1)) (show p+1<n by omega) (show p<n by omega),(show Zcp (Zbo f (p+1) m (m+1)) (p+1) p=Zbo f p m (m+1)from Zo7 (by omega) (by omega))]at this
      exact this)
     clear O2 O3 OD
     clear lk
     have HJ:=Zaa (show p≤i+(gk-1)∧gk-1<gk∧i≤p∧p≤m by have:=hgk2.out;have:=LK.out;have:=hlt2;omega)
     go_wp2
     go_roundg (gk-1)
     case measure=>exact HJ.out.2.1
     case rel=>exact⟨p,by go_num,Zaa HJ.out.1,Zaa HJ.out.2.2,O4,G3⟩
    ·have hik:=Zaa (show k=i by have:=LK.out;omega)
     have hlt2:¬(i:Int)<(k:Int):=by have:=hik.out;omega
     have SG:=Zaa (show Zbp S (Zbo f k m (m+1)) n∧ZbY R (Zbo f k m (m+1)) a b∧Zbl (Zbo f k m (m+1)) f a b by
      obtain⟨l1,l2,l3⟩:=LE.out
      rw[hik.out,l3]
      exact⟨GD.out.rot l2 (by omega) (by omega),FA.out.done S1.out,(Zbl.rot f l2 (by omega)).wide l1 (by omega)⟩)
     go_wp2
     exact bodyPost_ret (v:=.tuple #[]) (by simp[results,Tryz.results219,go_sem]) rfl ⟨⟨_,rfl⟩,⟨_,OL.out,SG.out.1,SG.out.2.1,SG.out.2.2⟩,GR.out⟩
end Go.Proofs.YtfmnagcglhlicaaGreat
