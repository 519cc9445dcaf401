/- slices.SortStableFunc on rows of lists: merging in place, any two stretches. Conditions: the row is the call's own, as its lists are; of two lists that differ the comparison puts exactly one -/
import Derived.Test.YtfmnagcglhlicaaGreatTopCrashK32
set_option maxRecDepth 100000
set_option maxHeartbeats 8000000
namespace Go.Proofs.YtfmnagcglhlicaaGreat
open Go.RowKit
def Mc (bb:Bool)(P:Prop):Prop:=bb=true↔P
theorem fA.same {R:LIn→LIn→Prop}{q q':Nat→LIn}{a b:Nat}(h:fA R q a b)(e:∀k,a≤k→k<b→q' k=q k):fA R q' a b:=fun i j h1 h2 h3=>by
 rw[e i h1 (by omega),e j (by omega) h3];exact h i j h1 h2 h3
theorem KI {w:World} {B B2 g n cap:Nat} {f:Nat→LIn} {F:FuncId} {cv:Array Value} {R:LIn→LIn→Prop} {S:LIn→Prop} (own:j6 w B B2 g n cap f) (a m b:Nat) (ham:a+1<m) (hmb:m+1<b) (hb:b≤n) (hn:n≤1000) (o:zS R S) (G:dQ S f n) (hF:l8 F cv w g R S) (s1:fA R f a m) (s2:fA R f m b)
  (IH:∀(w0:World) (q:Nat→LIn) (a' m' b':Nat),b'-a'<b-a→a'<m'→m'<b'→b'≤n→j6 w0 B B2 g n cap q→dQ S q n→l8 F cv w0 g R S→fA R q a' m'→fA R q m' b'→Calls Tryz.prog 219 #[.slice (some ⟨g,0,none⟩) n cap,.int .i64 a',.int .i64 m',.int .i64 b',.func (.func F) #[] cv] w0 fun e w'=>(∃y,e=.returned y)∧(∃q',j6 w' B B2 g n cap q'∧dQ S q' n∧fA R q' a' b'∧dO q' q a' b')∧w0.grownBy w' (some g)) :
  Calls Tryz.prog 219 #[.slice (some ⟨g,0,none⟩) n cap,.int .i64 a,.int .i64 m,.int .i64 b,.func (.func F) #[] cv] w fun e w'=>(∃y,e=.returned y)∧(∃q,j6 w' B B2 g n cap q∧dQ S q n∧fA R q a b∧dO q f a b)∧w.grownBy w' (some g):=by
 have OW:=aA own;have henter:=hF.enters;have HF:=aA hF;have HO:=aA o;have GD:=aA G;have S1:=aA s1;have S2:=aA s2;have IHH:=aA IH;clear IH own hF o G s1 s2;have hw0:IntKind.i64.wrap ((m:Int)-(a:Int))=(m:Int)-(a:Int):=by simp[IntKind.wrap,IntKind.bits,IntKind.signed];omega
 have hne0:(((m:Int)-(a:Int))==1)=false:=by simp;omega
 have hw1:IntKind.i64.wrap ((b:Int)-(m:Int))=(b:Int)-(m:Int):=by simp[IntKind.wrap,IntKind.bits,IntKind.signed];omega
 have hne1:(((b:Int)-(m:Int))==1)=false:=by simp;omega
 obtain⟨mid,hmid⟩:∃k:Nat,k=(a+b) / 2:=⟨_,rfl⟩;obtain⟨N,hN⟩:∃k:Nat,k=mid+m:=⟨_,rfl⟩;obtain⟨p,hp⟩:∃k:Nat,k+1=N:=⟨N-1,by omega⟩;have NU:=aA (show a<mid∧mid<b∧N=mid+m∧p+1=N∧2*mid≤a+b∧a+b≤2*mid+1 by omega);have hwN:IntKind.i64.wrap (((a:Int)+(b:Int)) / 2+(m:Int))=(N:Int):=by rw[hN,show((a:Int)+(b:Int)) / 2=(mid:Int) by omega];simp[IntKind.wrap,IntKind.bits,IntKind.signed];omega
 have hwp:IntKind.i64.wrap ((N:Int)-1)=(p:Int):=by rw[show(N:Int)-1=(p:Int) by omega];simp[IntKind.wrap,IntKind.bits,IntKind.signed];omega
 have hm1:IntKind.i64.wrap ((a:Int)+(b:Int))=(a:Int)+(b:Int):=by simp[IntKind.wrap,IntKind.bits,IntKind.signed];omega
 have hm2:IntKind.u64.wrap ((a:Int)+(b:Int))=(a:Int)+(b:Int):=WN a b (by omega);have hm4:((a:Int)+(b:Int)) / 2=(mid:Int):=by omega
 have HM4:=aA hm4;clear hmid hN hp hm4;go_enter Tryz.func219,Tryz.ntmps219
 go_upto_if 140 with fail
 clear hw0 hne0 hw1 hne1 hwN hm1 hm2;go_cut [20,21]from 138 to 140 (fun s20 s21 wx=>∃lo hi:Nat,s20=.int .i64 lo∧s21=.int .i64 hi∧wx=w∧Hid (lo≤hi∧a≤lo∧hi≤m∧hi≤mid∧(∀c,lo≤c→c<hi→a≤c∧c<m∧m≤p-c∧p-c<b∧c≤p)∧∀st en,lo≤st→st≤hi→st+en=N→m≤en∧en≤b∧(st=lo→en=b∨st=a)∧(st=hi→en=m∨st=m)))
 case first =>
  by_cases hgt:mid<m
  ·have hgti:((a:Int)+(b:Int)) / 2<(m:Int):=by rw[HM4.o];omega
   obtain⟨lo,hlo⟩:∃lo:Nat,lo+b=N:=⟨N-b,by have:=NU.o;omega⟩;have hwl:IntKind.i64.wrap ((N:Int)-(b:Int))=(lo:Int):=by rw[show(N:Int)-(b:Int)=(lo:Int) by omega];simp[IntKind.wrap,IntKind.bits,IntKind.signed];have:=NU.o;omega
   have FIN:=aA (show lo≤mid∧a≤lo∧mid≤m∧mid≤mid∧(∀c,lo≤c→c<mid→a≤c∧c<m∧m≤p-c∧p-c<b∧c≤p)∧∀st en,lo≤st→st≤mid→st+en=N→m≤en∧en≤b∧(st=lo→en=b∨st=a)∧(st=mid→en=m∨st=m) by
    have:=NU.o;refine⟨by omega,by omega,by omega,by omega,fun c h1 h2=>by omega,fun st en h1 h2 h3=>by omega⟩)
   clear hlo;go_wp2
   go_meet
   exact⟨lo,mid,rfl,congrArg (Value.int .i64) HM4.o,rfl,FIN⟩
  ·have hgti:¬((a:Int)+(b:Int)) / 2<(m:Int):=by rw[HM4.o];omega
   have FIN:=aA (show a≤m∧a≤a∧m≤m∧m≤mid∧(∀c,a≤c→c<m→a≤c∧c<m∧m≤p-c∧p-c<b∧c≤p)∧∀st en,a≤st→st≤m→st+en=N→m≤en∧en≤b∧(st=a→en=b∨st=a)∧(st=m→en=m∨st=m) by
    have:=NU.o;refine⟨by omega,by omega,by omega,by omega,fun c h1 h2=>by omega,fun st en h1 h2 h3=>by omega⟩)
   go_wp2
   go_meet
   exact⟨a,m,rfl,rfl,rfl,FIN⟩
 case rest =>
 obtain⟨lo,hi,rfl,rfl,rfl,LH⟩:=hcut;obtain⟨w,hwz⟩:∃x:World,x=wc:=⟨_,rfl⟩;subst hwz;have hm4:=HM4.o;simp only[hm4];clear hm4;go_wp2
 clear hwp;go_loopg [20,21] (hi-lo) (fun gk u v wr=>∃i j:Nat,u=.int .i64 i∧v=.int .i64 j∧Hid (j≤i+gk)∧Hid (tH R f p lo hi i j)∧Hid (j6 wr B B2 g n cap f)∧Hid (w.grownBy wr (some g)))
 case atStart=>exact⟨lo,hi,rfl,rfl,aA (by omega),aA (tH.start LH.o.1),OW,aA (World.grownBy.refl _ _)⟩
 case round =>
  clear OW;obtain⟨i,j,rfl,rfl,hgk,FA,OL,GR⟩:=hrel;have LE:=FA.o.le;obtain⟨l1,l2,l3⟩:=LE;by_cases hlt:i<j
  ·have hlti:(i:Int)<(j:Int):=by omega
   obtain⟨h,hh⟩:∃h:Nat,h=(i+j) / 2:=⟨_,rfl⟩;have MID:=aA (show i≤h∧h<j by omega);have b1:=LH.o.2.2.2.2.1 h (by omega) (by omega);have nu:=NU.o;obtain⟨d,hd⟩:∃d:Nat,d+h=p:=⟨p-h,by omega⟩;have DD:=aA (show d=p-h∧d≠h∧d<n∧h<n by omega);have hwd:IntKind.i64.wrap ((p:Int)-(h:Int))=(d:Int):=by rw[show(p:Int)-(h:Int)=(d:Int) by omega];simp[IntKind.wrap,IntKind.bits,IntKind.signed];omega
   have hhn:(h:Int)<(n:Int):=by omega
   have hdn:(d:Int)<(n:Int):=by omega
   have hji:i+j≤2*n:=by omega
   have hw1:IntKind.i64.wrap ((i:Int)+(j:Int))=(i:Int)+(j:Int):=by simp[IntKind.wrap,IntKind.bits,IntKind.signed];omega
   have hw2:IntKind.u64.wrap ((i:Int)+(j:Int))=(i:Int)+(j:Int):=WN i j (by omega);have hw3:=Xf i j n h hji hn hh;have HW3:=aA hw3;clear hw3 hh hd b1 nu hji;have dd:=DD.o;have OD:=aA (OL.o.keep ((Below.refl wr.heap.size wr).drew));have GX:=aA (GR.o.trans (iE ((Below.refl wr.heap.size wr).drew) (some g)));clear OL GR;obtain⟨Ax,mx,cx,q1,ix,hmx⟩:=OD.o.at (eB (f:=f) (show d<n by omega));obtain⟨Ay,my,cy,q2,iy,hmy⟩:=OD.o.at (eB (f:=f) (show h<n by omega));have CL:=aA (HF.o.calls wr.drew Ax Ay mx cx my cy (f (d)) (f (h)) GX.o (jT.ints ix hmx) (jT.ints iy hmy) (GD.o.mem _ (by omega)) (GD.o.mem _ (by omega)) (fun e=>by have:=GD.o.inj _ _ (by omega) (by omega) e;omega));clear ix iy;clear dd l1 l2 l3;have hw3:=HW3.o;go_upto_region 35 with fail
   simp only[hw3];clear hw1 hw2 hw3;refine aF 13 (.takes [0,1,2,3,4,5,6,7,8,9,10] (.one 11 (.take 12 (.fin 13 .done)))) (fun w'=>w'.cell? ⟨g,d,none⟩=some (.slice Ax mx cx)∧w'.cell? ⟨g,h,none⟩=some (.slice Ay my cy)) (by kernel_rfl) (by kernel_rfl) (by kernel_rfl) (fun _ _ _ _ _ h=>h) ⟨q1,q2⟩ (fun hH=>?_);simp only[Scr.takes];clear q1 q2;generalize wr.drew=y1 at *
   have HGB:=aA (OD.o.lt g rfl).2
   iterate 11
    refine aH (v:=?_) rfl (by rfl) hH (fun w' hSw=>?_) ?_
    rotate_left
    ·(go_simp;try with_reducible rfl)
    try simp only[Act.put,aL,aM,aN]
   refine bI rfl (fun Kf hKf=>?_);go_simp
   refine CL.o.mono ?_;rintro e y2 ⟨cv2,rfl,hv,hb2⟩;refine hKf.out _ _ ⟨(hb2.cell (p:=⟨g,d,none⟩) HGB.o).trans hH.1,(hb2.cell (p:=⟨g,h,none⟩) HGB.o).trans hH.2⟩ (fun hH=>?_);clear hKf;try simp only[Act.put,aL,aM,aN]
   have O2:=aA (OD.o.keep hb2);have G2:=aA (GX.o.trans (iE hb2 (some g)));have HV:=aA hv;clear hb2 hv CL OD GX HGB;by_cases hneg:cv2<0
   ·refine aH (v:=.bool true) rfl (by rfl) hH (fun w' hSw=>?_) ?_
    ·(go_simp;try with_reducible rfl)
    try simp only[Act.put,aL,aM,aN]
    refine bF rfl (fun Kf hKf=>?_);go_simp
    refine hKf.out _ _ ?_;clear hKf;try simp only[Act.put,aL,aM,aN]
    refine bP ?_;clear hH;have FN:=aA (FA.o.yes HO.o GD.o S1.o S2.o hb LH.o.2.2.2.2.1 MID.o.1 MID.o.2 (by rw[←DD.o.1];simpa using HV.o.1 hneg));have HJ:=aA (show h≤i+(gk-1)∧gk-1<gk by have:=hgk.o;have:=MID.o;omega);clear hneg HV;go_wp2
    go_roundg (gk-1)
    case measure=>exact HJ.o.2
    case rel=>exact⟨i,h,rfl,rfl,aA HJ.o.1,FN,O2,G2⟩
   ·refine aH (v:=.bool false) rfl (by rfl) hH (fun w' hSw=>?_) ?_
    ·(go_simp;try with_reducible rfl)
    try simp only[Act.put,aL,aM,aN]
    refine bF rfl (fun Kf hKf=>?_);go_simp
    refine hKf.out _ _ ?_;clear hKf;try simp only[Act.put,aL,aM,aN]
    refine bP ?_;clear hH;have FN:=aA (FA.o.no HO.o GD.o S1.o S2.o hb LH.o.2.2.2.2.1 MID.o.1 MID.o.2 (by rw[←DD.o.1];simpa using fun q=>hneg (HV.o.2 q)));have HJ:=aA (show j≤(h+1)+(gk-1)∧gk-1<gk by have:=hgk.o;have:=MID.o;omega);have hw4:IntKind.i64.wrap ((h:Int)+1)=(h:Int)+1:=by simp[IntKind.wrap,IntKind.bits,IntKind.signed];omega
    clear hneg HV;go_wp2
    go_roundg (gk-1)
    case measure=>exact HJ.o.2
    case rel=>exact⟨h+1,j,by go_num,rfl,aA HJ.o.1,FN,O2,G2⟩
  ·obtain rfl:i=j:=by omega
   have hlti:¬(i:Int)<(i:Int):=by omega
   obtain⟨en,hen⟩:∃en:Nat,i+en=N:=⟨N-i,by have:=NU.o;have:=LH.o;omega⟩;have hwe:IntKind.i64.wrap ((N:Int)-(i:Int))=(en:Int):=by rw[show(N:Int)-(i:Int)=(en:Int) by omega];simp[IntKind.wrap,IntKind.bits,IntKind.signed];have:=NU.o;omega
   have NM:=aA (show a≤i∧i≤m∧m≤en∧en≤b∧i≤mid∧mid≤en∧a<mid∧mid<b by
    have:=LH.o;have:=this.2.2.2.2.2 i en l1 l3 hen;have:=NU.o;omega)
   have FIN:=aA (show(fA R (dP f i m en) a i∧fA R (dP f i m en) i mid)∧(fA R (dP f i m en) mid en∧fA R (dP f i m en) en b)∧∀x y,a≤x→x<mid→mid≤y→y<b→R (dP f i m en x) (dP f i m en y) by
    have l:=LH.o.2.2.2.2.2 i en l1 l3 hen;have nu:=NU.o;exact FA.o.done HO.o GD.o S1.o S2.o hb LH.o.2.2.2.2.1 (by omega) (by omega) ⟨NM.o.1,NM.o.2.1,NM.o.2.2.1,NM.o.2.2.2.1⟩ l.2.2.1 l.2.2.2)
   have GQ:=aA (show dQ S (dP f i m en) n∧dO (dP f i m en) f a b from⟨GD.o.rot NM.o.2.1 NM.o.2.2.1 (by have:=NM.o;omega),(dO.rot f NM.o.2.1 NM.o.2.2.1).wide NM.o.1 NM.o.2.2.2.1⟩);clear hen l1 l2 l3 hlt;go_upto_region 39 with fail
   clear hwe;go_cut [185]from 185 to 185 (fun s wx=>∃bb:Bool,s=.bool bb∧wx=wr∧Hid (Mc bb (i<m∧m<en)))
   case first =>
    by_cases h1:i<m
    ·have h1i:(i:Int)<(m:Int):=by omega
     by_cases h2:m<en
     ·have h2i:(m:Int)<(en:Int):=by omega
      have BB:=aA (show Mc true (i<m∧m<en)from⟨fun _=>⟨h1,h2⟩,fun _=>rfl⟩);clear h1 h2;go_wp2
      go_meet
      exact⟨true,rfl,rfl,BB⟩
     ·have h2i:¬(m:Int)<(en:Int):=by omega
      have BB:=aA (show Mc false (i<m∧m<en)from⟨fun h=>(nomatch h),fun h=>absurd h.2 h2⟩);clear h1 h2;go_wp2
      go_meet
      exact⟨false,rfl,rfl,BB⟩
    ·have h1i:¬(i:Int)<(m:Int):=by omega
     have BB:=aA (show Mc false (i<m∧m<en)from⟨fun h=>(nomatch h),fun h=>absurd h.1 h1⟩);clear h1;go_wp2
     go_meet
     exact⟨false,rfl,rfl,BB⟩
   case rest =>
   obtain⟨bb,rfl,rfl,BB⟩:=hcut;obtain⟨wr,hzz⟩:∃x:World,x=wc:=⟨_,rfl⟩;subst hzz;go_upto_if 185 with fail
   go_cut []from 185 to 185 (fun wx=>Hid (j6 wx B B2 g n cap (dP f i m en))∧Hid (w.grownBy wx (some g)))
   case first =>
    cases bb
    ·have EQ:=aA (show dP f i m en=f by
      have h1:=NM.o;have h2:=BB.o;rcases Nat.lt_or_ge i m with h|h
      ·have:¬m<en:=fun h3=>Bool.noConfusion (h2.2 ⟨h,h3⟩)
       rw[show en=m by omega,yG]
      ·rw[show i=m by omega,Dy])
     go_wp2
     go_meet
     exact⟨aA (by rw[EQ.o];exact OL.o),GR⟩
    ·have CR:=aA (zU OL.o i m en (BB.o.1 rfl).1 (BB.o.1 rfl).2 (by have:=NM.o;omega) hn (.func (.func F) #[] cv));go_wp2_with fail
     refine CR.o.mono ?_;rintro e w1 ⟨⟨y,rfl⟩,o1,g1⟩;have O1:=aA o1;have G1:=aA (GR.o.trans g1);clear o1 g1 OL GR CR;go_wp2
     go_meet
     exact⟨O1,G1⟩
   case rest =>
   clear BB OL GR;obtain⟨OL,GR⟩:=hcut;obtain⟨wd,hwd⟩:∃x:World,x=wc:=⟨_,rfl⟩;subst hwd;go_upto_region 41 with fail
   go_cut [199]from 199 to 199 (fun s wx=>∃bb:Bool,s=.bool bb∧wx=wd∧Hid (Mc bb (a<i∧i<mid)))
   case first =>
    by_cases h1:a<i
    ·have h1i:(a:Int)<(i:Int):=by omega
     by_cases h2:i<mid
     ·have h2i:(i:Int)<(mid:Int):=by omega
      have BB:=aA (show Mc true (a<i∧i<mid)from⟨fun _=>⟨h1,h2⟩,fun _=>rfl⟩);clear h1 h2;go_wp2
      go_meet
      exact⟨true,rfl,rfl,BB⟩
     ·have h2i:¬(i:Int)<(mid:Int):=by omega
      have BB:=aA (show Mc false (a<i∧i<mid)from⟨fun h=>(nomatch h),fun h=>absurd h.2 h2⟩);clear h1 h2;go_wp2
      go_meet
      exact⟨false,rfl,rfl,BB⟩
    ·have h1i:¬(a:Int)<(i:Int):=by omega
     have BB:=aA (show Mc false (a<i∧i<mid)from⟨fun h=>(nomatch h),fun h=>absurd h.1 h1⟩);clear h1;go_wp2
     go_meet
     exact⟨false,rfl,rfl,BB⟩
   case rest =>
   obtain⟨bb,rfl,rfl,BB⟩:=hcut;obtain⟨wd,hzz⟩:∃x:World,x=wc:=⟨_,rfl⟩;subst hzz;go_upto_if 199 with fail
   go_cut []from 199 to 199 (fun wx=>∃q:Nat→LIn,Hid (j6 wx B B2 g n cap q)∧Hid (dQ S q n∧fA R q a mid∧dO q (dP f i m en) a mid)∧Hid (w.grownBy wx (some g)))
   case first =>
    cases bb
    ·have EQ:=aA (show fA R (dP f i m en) a mid by
      have h1:=NM.o;have h2:=BB.o;rcases Nat.lt_or_ge a i with h|h
      ·have:¬i<mid:=fun h3=>Bool.noConfusion (h2.2 ⟨h,h3⟩)
       rw[show mid=i by omega];exact FIN.o.1.1
      ·have h3:=FIN.o.1.2;rwa[show i=a by omega]at h3 ⊢)
     go_wp2
     go_meet
     exact⟨_,OL,aA ⟨GQ.o.1,EQ.o,dO.refl _ _ _⟩,GR⟩
    ·have CR:=aA (IHH.o wd (dP f i m en) a i mid (by have:=NM.o;omega) (BB.o.1 rfl).1 (BB.o.1 rfl).2 (by have:=NM.o;omega) OL.o GQ.o.1 (HF.o.later GR.o) FIN.o.1.1 FIN.o.1.2);go_wp2_with fail
     refine CR.o.mono ?_;rintro e w1 ⟨⟨y,rfl⟩,⟨q,o1,o2⟩,g1⟩;have O1:=aA o1;have O2:=aA o2;have G1:=aA (GR.o.trans g1);clear o1 o2 g1 OL GR CR;go_wp2
     go_meet
     exact⟨q,O1,O2,G1⟩
   case rest =>
   clear BB OL GR;obtain⟨q,OL,Q2,GR⟩:=hcut;obtain⟨we,hwe2⟩:∃x:World,x=wc:=⟨_,rfl⟩;subst hwe2;have E1:=aA (show fA R q mid en∧fA R q en b from⟨FIN.o.2.1.1.same (fun k h1 h2=>Q2.o.2.2.o k (by omega)),FIN.o.2.1.2.same (fun k h1 h2=>Q2.o.2.2.o k (by have:=NM.o;omega))⟩);have ENDS:Hid (∀q3:Nat→LIn,fA R q3 mid b→dO q3 q mid b→fA R q3 a b∧dO q3 f a b):=aA (fun q3 h1 h2=>by
    have nm:=NM.o;refine⟨fA.join (Q2.o.2.1.same (fun k k1 k2=>h2.o k (by omega))) h1 (dO.before Q2.o.2.2 h2 FIN.o.2.2),(h2.wide (by omega) (Nat.le_refl _)).trans ((Q2.o.2.2.wide (Nat.le_refl _) (by omega)).trans GQ.o.2)⟩)
   go_upto_region 43 with fail
   go_cut [213]from 213 to 213 (fun s wx=>∃bb:Bool,s=.bool bb∧wx=we∧Hid (Mc bb (mid<en∧en<b)))
   case first =>
    by_cases h1:mid<en
    ·have h1i:(mid:Int)<(en:Int):=by omega
     by_cases h2:en<b
     ·have h2i:(en:Int)<(b:Int):=by omega
      have BB:=aA (show Mc true (mid<en∧en<b)from⟨fun _=>⟨h1,h2⟩,fun _=>rfl⟩);clear h1 h2;go_wp2
      go_meet
      exact⟨true,rfl,rfl,BB⟩
     ·have h2i:¬(en:Int)<(b:Int):=by omega
      have BB:=aA (show Mc false (mid<en∧en<b)from⟨fun h=>(nomatch h),fun h=>absurd h.2 h2⟩);clear h1 h2;go_wp2
      go_meet
      exact⟨false,rfl,rfl,BB⟩
    ·have h1i:¬(mid:Int)<(en:Int):=by omega
     have BB:=aA (show Mc false (mid<en∧en<b)from⟨fun h=>(nomatch h),fun h=>absurd h.1 h1⟩);clear h1;go_wp2
     go_meet
     exact⟨false,rfl,rfl,BB⟩
   case rest =>
   obtain⟨bb,rfl,rfl,BB⟩:=hcut;obtain⟨we,hzz⟩:∃x:World,x=wc:=⟨_,rfl⟩;subst hzz;cases bb
   ·have EQ:=aA (show fA R q mid b by
     have h1:=NM.o;have h2:=BB.o;rcases Nat.lt_or_ge mid en with h|h
     ·have:¬en<b:=fun h3=>Bool.noConfusion (h2.2 ⟨h,h3⟩)
      have h3:=E1.o.1;rwa[show en=b by omega]at h3
     ·have h3:=E1.o.2;rwa[show en=mid by omega]at h3)
    have EE:=aA (ENDS.o q EQ.o (dO.refl _ _ _));go_wp2
    exact bodyPost_end (v:=.tuple #[]) (by simp[results,Tryz.results219,go_sem]) rfl ⟨⟨_,rfl⟩,⟨q,OL.o,Q2.o.1,EE.o.1,EE.o.2⟩,GR.o⟩
   ·have CR:=aA (IHH.o we q mid en b (by have:=NM.o;omega) (BB.o.1 rfl).1 (BB.o.1 rfl).2 hb OL.o Q2.o.1 (HF.o.later GR.o) E1.o.1 E1.o.2);go_wp2_with fail
    refine CR.o.mono ?_;rintro e w1 ⟨⟨y,rfl⟩,⟨q3,o1,o2,o3,o4⟩,g1⟩;have O1:=aA o1;have O2:=aA o2;have EE:=aA (ENDS.o q3 o3 o4);have G1:=aA (GR.o.trans g1);clear o1 o2 o3 o4 g1 OL GR CR;go_wp2
    exact bodyPost_end (v:=.tuple #[]) (by simp[results,Tryz.results219,go_sem]) rfl ⟨⟨_,rfl⟩,⟨q3,O1.o,O2.o,EE.o.1,EE.o.2⟩,G1.o⟩
theorem oN {B B2 g n cap:Nat}{F:FuncId}{cv:Array Value}{R:LIn→LIn→Prop}{S:LIn→Prop}(hn:n≤1000)(o:zS R S):∀(d:Nat) (w:World) (q:Nat→LIn) (a m b:Nat),b-a≤d→a<m→m<b→b≤n→j6 w B B2 g n cap q→dQ S q n→l8 F cv w g R S→fA R q a m→fA R q m b→Calls Tryz.prog 219 #[.slice (some ⟨g,0,none⟩) n cap,.int .i64 a,.int .i64 m,.int .i64 b,.func (.func F) #[] cv] w fun e w'=>(∃y,e=.returned y)∧(∃q',j6 w' B B2 g n cap q'∧dQ S q' n∧fA R q' a b∧dO q' q a b)∧w.grownBy w' (some g)
 | 0,w,q,a,m,b,h,h1,h2,_,_,_,_,_,_=>by omega
 | d+1,w,q,a,m,b,h,h1,h2,h3,own,G,hF,s1,s2=>by
  by_cases hA:m=a+1
  ·exact KG own a m b hA h2 h3 hn o G hF s1 s2
  ·by_cases hB:b=m+1
   ·exact KH own a m b hB (by omega) h3 hn o G hF s1 s2
   ·exact KI own a m b (by omega) (by omega) h3 hn o G hF s1 s2 (fun w0 q a' m' b' k1 k2 k3 k4 k5 k6 k7 k8 k9=>oN hn o d w0 q a' m' b' (by omega) k2 k3 k4 k5 k6 k7 k8 k9)
end Go.Proofs.YtfmnagcglhlicaaGreat
