/- slices.SortStableFunc on rows of lists: merging in place, any two stretches. Conditions: the row is the call's own, as its lists are; of two lists that differ the comparison puts exactly one first. -/
import Derived.Test.YtfmnagcglhlicaaGreatTopSaidK25
set_option maxRecDepth 100000
namespace Go.Proofs.YtfmnagcglhlicaaGreat
open Go.RowKit
def Zom (bb:Bool)(P:Prop):Prop:=bb=true↔P
theorem ZbY.same {R:List Int→List Int→Prop}{q q':Nat→List Int}{a b:Nat}(h:ZbY R q a b)(e:∀k,a≤k→k<b→q' k=q k):ZbY R q' a b:=fun i j h1 h2 h3=>by
 rw[e i h1 (by omega),e j (by omega) h3]
 exact h i j h1 h2 h3
set_option maxHeartbeats 8000000 in
theorem Znv {w:World} {B B2 g n cap:Nat} {f:Nat→List Int} {F:FuncId} {cv:Array Value} {R:List Int→List Int→Prop} {S:List Int→Prop} (own:Zdh w B B2 g n cap f) (a m b:Nat) (ham:a+1<m) (hmb:m+1<b) (hb:b≤n) (hn:n≤1000) (o:Zjl R S) (G:Zbp S f n) (hF:Zd6 F cv w g R S) (s1:ZbY R f a m) (s2:ZbY R f m b)
  (IH:∀(w0:World) (q:Nat→List Int) (a' m' b':Nat),b'-a'<b-a→a'<m'→m'<b'→b'≤n→Zdh w0 B B2 g n cap q→Zbp S q n→Zd6 F cv w0 g R S→ZbY R q a' m'→ZbY R q m' b'→Calls Tryz.prog 219 #[.slice (some ⟨g,0,none⟩) n cap,.int .i64 a',.int .i64 m',.int .i64 b',.func (.func F) #[] cv] w0 fun e w'=>(∃y,e=.returned y)∧(∃q',Zdh w' B B2 g n cap q'∧Zbp S q' n∧ZbY R q' a' b'∧Zbl q' q a' b')∧w0.grownBy w' (some g)) :
  Calls Tryz.prog 219 #[.slice (some ⟨g,0,none⟩) n cap,.int .i64 a,.int .i64 m,.int .i64 b,.func (.func F) #[] cv] w fun e w'=>(∃y,e=.returned y)∧(∃q,Zdh w' B B2 g n cap q∧Zbp S q n∧ZbY R q a b∧Zbl q f a b)∧w.grownBy w' (some g):=by
 have OW:=Zaa own
 have henter:=hF.enters
 have HF:=Zaa hF
 have HO:=Zaa o
 have GD:=Zaa G
 have S1:=Zaa s1
 have S2:=Zaa s2
 have IHH:=Zaa IH
 clear IH own hF o G s1 s2
 have hw0:IntKind.i64.wrap ((m:Int)-(a:Int))=(m:Int)-(a:Int):=by simp[IntKind.wrap,IntKind.bits,IntKind.signed];omega
 have hne0:(((m:Int)-(a:Int))==1)=false:=by simp;omega
 have hw1:IntKind.i64.wrap ((b:Int)-(m:Int))=(b:Int)-(m:Int):=by simp[IntKind.wrap,IntKind.bits,IntKind.signed];omega
 have hne1:(((b:Int)-(m:Int))==1)=false:=by simp;omega
 obtain⟨mid,hmid⟩:∃k:Nat,k=(a+b) / 2:=⟨_,rfl⟩
 obtain⟨N,hN⟩:∃k:Nat,k=mid+m:=⟨_,rfl⟩
 obtain⟨p,hp⟩:∃k:Nat,k+1=N:=⟨N-1,by omega⟩
 have NU:=Zaa (show a<mid∧mid<b∧N=mid+m∧p+1=N∧2*mid≤a+b∧a+b≤2*mid+1 by omega)
 have hwN:IntKind.i64.wrap (((a:Int)+(b:Int)) / 2+(m:Int))=(N:Int):=by rw[hN,show((a:Int)+(b:Int)) / 2=(mid:Int) by omega];simp[IntKind.wrap,IntKind.bits,IntKind.signed];omega
 have hwp:IntKind.i64.wrap ((N:Int)-1)=(p:Int):=by rw[show(N:Int)-1=(p:Int) by omega];simp[IntKind.wrap,IntKind.bits,IntKind.signed];omega
 have hm1:IntKind.i64.wrap ((a:Int)+(b:Int))=(a:Int)+(b:Int):=by simp[IntKind.wrap,IntKind.bits,IntKind.signed];omega
 have hm2:IntKind.u64.wrap ((a:Int)+(b:Int))=(a:Int)+(b:Int):=ZtB a b (by omega)
 have hm4:((a:Int)+(b:Int)) / 2=(mid:Int):=by omega
 have HM4:=Zaa hm4
 clear hmid hN hp hm4
 go_enter Tryz.func219,Tryz.ntmps219
 go_upto_if 140 with fail
 clear hw0 hne0 hw1 hne1 hwN hm1 hm2
 go_cut [20,21]from 138 to 140 (fun s20 s21 wx=>∃lo hi:Nat,s20=.int .i64 lo∧s21=.int .i64 hi∧wx=w∧Hid (lo≤hi∧a≤lo∧hi≤m∧hi≤mid∧(∀c,lo≤c→c<hi→a≤c∧c<m∧m≤p-c∧p-c<b∧c≤p)∧∀st en,lo≤st→st≤hi→st+en=N→m≤en∧en≤b∧(st=lo→en=b∨st=a)∧(st=hi→en=m∨st=m)))
 case first =>
  by_cases hgt:mid<m
  ·have hgti:((a:Int)+(b:Int)) / 2<(m:Int):=by rw[HM4.out];omega
   obtain⟨lo,hlo⟩:∃lo:Nat,lo+b=N:=⟨N-b,by have:=NU.out;omega⟩
   have hwl:IntKind.i64.wrap ((N:Int)-(b:Int))=(lo:Int):=by rw[show(N:Int)-(b:Int)=(lo:Int) by omega];simp[IntKind.wrap,IntKind.bits,IntKind.signed];have:=NU.out;omega
   have FIN:=Zaa (show lo≤mid∧a≤lo∧mid≤m∧mid≤mid∧(∀c,lo≤c→c<mid→a≤c∧c<m∧m≤p-c∧p-c<b∧c≤p)∧∀st en,lo≤st→st≤mid→st+en=N→m≤en∧en≤b∧(st=lo→en=b∨st=a)∧(st=mid→en=m∨st=m) by
    have:=NU.out
    refine⟨by omega,by omega,by omega,by omega,fun c h1 h2=>by omega,fun st en h1 h2 h3=>by omega⟩)
   clear hlo
   go_wp2
   go_meet
   exact⟨lo,mid,rfl,congrArg (Value.int .i64) HM4.out,rfl,FIN⟩
  ·have hgti:¬((a:Int)+(b:Int)) / 2<(m:Int):=by rw[HM4.out];omega
   have FIN:=Zaa (show a≤m∧a≤a∧m≤m∧m≤mid∧(∀c,a≤c→c<m→a≤c∧c<m∧m≤p-c∧p-c<b∧c≤p)∧∀st en,a≤st→st≤m→st+en=N→m≤en∧en≤b∧(st=a→en=b∨st=a)∧(st=m→en=m∨st=m) by
    have:=NU.out
    refine⟨by omega,by omega,by omega,by omega,fun c h1 h2=>by omega,fun st en h1 h2 h3=>by omega⟩)
   go_wp2
   go_meet
   exact⟨a,m,rfl,rfl,rfl,FIN⟩
 case rest =>
 obtain⟨lo,hi,rfl,rfl,rfl,LH⟩:=hcut
 obtain⟨w,hwz⟩:∃x:World,x=wc:=⟨_,rfl⟩
 subst hwz
 have hm4:=HM4.out
 simp only[hm4]
 clear hm4
 go_wp2
 clear hwp
 go_loopg [20,21] (hi-lo) (fun gk u v wr=>∃i j:Nat,u=.int .i64 i∧v=.int .i64 j∧Hid (j≤i+gk)∧Hid (ZgP R f p lo hi i j)∧Hid (Zdh wr B B2 g n cap f)∧Hid (w.grownBy wr (some g)))
 case atStart=>exact⟨lo,hi,rfl,rfl,Zaa (by omega),Zaa (ZgP.start LH.out.1),OW,Zaa (World.grownBy.refl _ _)⟩
 case round =>
  clear OW
  obtain⟨i,j,rfl,rfl,hgk,FA,OL,GR⟩:=hrel
  have LE:=FA.out.le
  obtain⟨l1,l2,l3⟩:=LE
  by_cases hlt:i<j
  ·have hlti:(i:Int)<(j:Int):=by omega
   obtain⟨h,hh⟩:∃h:Nat,h=(i+j) / 2:=⟨_,rfl⟩
   have MID:=Zaa (show i≤h∧h<j by omega)
   have b1:=LH.out.2.2.2.2.1 h (by omega) (by omega)
   have nu:=NU.out
   obtain⟨d,hd⟩:∃d:Nat,d+h=p:=⟨p-h,by omega⟩
   have DD:=Zaa (show d=p-h∧d≠h∧d<n∧h<n by omega)
   have hwd:IntKind.i64.wrap ((p:Int)-(h:Int))=(d:Int):=by rw[show(p:Int)-(h:Int)=(d:Int) by omega];simp[IntKind.wrap,IntKind.bits,IntKind.signed];omega
   have hhn:(h:Int)<(n:Int):=by omega
   have hdn:(d:Int)<(n:Int):=by omega
   have hji:i+j≤2*n:=by omega
   have hw1:IntKind.i64.wrap ((i:Int)+(j:Int))=(i:Int)+(j:Int):=by simp[IntKind.wrap,IntKind.bits,IntKind.signed];omega
   have hw2:IntKind.u64.wrap ((i:Int)+(j:Int))=(i:Int)+(j:Int):=ZtB i j (by omega)
   have hw3:=ZtO i j n h hji hn hh
   have HW3:=Zaa hw3
   clear hw3 hh hd b1 nu hji
   have dd:=DD.out
   have OD:=Zaa (OL.out.keep ((Below.refl wr.heap.size wr).drew))
   have GX:=Zaa (GR.out.trans (ZcA ((Below.refl wr.heap.size wr).drew) (some g)))
   clear OL GR
   obtain⟨Ax,mx,cx,q1,ix,hmx⟩:=OD.out.at (ZbA (f:=f) (show d<n by omega))
   obtain⟨Ay,my,cy,q2,iy,hmy⟩:=OD.out.at (ZbA (f:=f) (show h<n by omega))
   have CL:=Zaa (HF.out.calls wr.drew Ax Ay mx cx my cy (f (d)) (f (h)) GX.out (Zc9.ints ix hmx) (Zc9.ints iy hmy) (GD.out.mem _ (by omega)) (GD.out.mem _ (by omega)) (fun e=>by have:=GD.out.inj _ _ (by omega) (by omega) e;omega))
   clear ix iy
   clear dd l1 l2 l3
   have hw3:=HW3.out
   go_upto_region 35 with fail
   simp only[hw3]
   clear hw1 hw2 hw3
   refine Zae 13 (.takes [0,1,2,3,4,5,6,7,8,9,10] (.one 11 (.take 12 (.fin 13 .done)))) (fun w'=>w'.cell? ⟨g,d,none⟩=some (.slice Ax mx cx)∧w'.cell? ⟨g,h,none⟩=some (.slice Ay my cy)) (by kernel_rfl) (by kernel_rfl) (by kernel_rfl) (fun _ _ _ _ _ h=>h) ⟨q1,q2⟩ (fun hHeld=>?_)
   simp only[Scr.takes]
   clear q1 q2
   generalize wr.drew=y1 at *
   have HGB:=Zaa (OD.out.lt g rfl).2
   iterate 11
    refine Zac (v:=?_) rfl (by rfl) hHeld (fun w' hSw=>?_) ?_
    rotate_left
    ·(go_simp;try with_reducible rfl)
    try simp only[Act.put,Zag,Zah,Zai]
   refine ZaC rfl (fun Kf hKf=>?_)
   go_simp
   refine CL.out.mono ?_
   rintro e y2 ⟨cv2,rfl,hv,hb2⟩
   refine hKf.out _ _ ⟨(hb2.cell (p:=⟨g,d,none⟩) HGB.out).trans hHeld.1,(hb2.cell (p:=⟨g,h,none⟩) HGB.out).trans hHeld.2⟩ (fun hHeld=>?_)
   clear hKf
   try simp only[Act.put,Zag,Zah,Zai]
   have O2:=Zaa (OD.out.keep hb2)
   have G2:=Zaa (GX.out.trans (ZcA hb2 (some g)))
   have HV:=Zaa hv
   clear hb2 hv CL OD GX HGB
   by_cases hneg:cv2<0
   ·refine Zac (v:=.bool true) rfl (by rfl) hHeld (fun w' hSw=>?_) ?_
    ·(go_simp;try with_reducible rfl)
    try simp only[Act.put,Zag,Zah,Zai]
    refine Zaz rfl (fun Kf hKf=>?_)
    go_simp
    refine hKf.out _ _ ?_
    clear hKf
    try simp only[Act.put,Zag,Zah,Zai]
    refine ZaH ?_
    clear hHeld
    have FN:=Zaa (FA.out.yes HO.out GD.out S1.out S2.out hb LH.out.2.2.2.2.1 MID.out.1 MID.out.2 (by rw[←DD.out.1];simpa using HV.out.1 hneg))
    have HJ:=Zaa (show h≤i+(gk-1)∧gk-1<gk by have:=hgk.out;have:=MID.out;omega)
    clear hneg HV
    go_wp2
    go_roundg (gk-1)
    case measure=>exact HJ.out.2
    case rel=>exact⟨i,h,rfl,rfl,Zaa HJ.out.1,FN,O2,G2⟩
   ·refine Zac (v:=.bool false) rfl (by rfl) hHeld (fun w' hSw=>?_) ?_
    ·(go_simp;try with_reducible rfl)
    try simp only[Act.put,Zag,Zah,Zai]
    refine Zaz rfl (fun Kf hKf=>?_)
    go_simp
    refine hKf.out _ _ ?_
    clear hKf
    try simp only[Act.put,Zag,Zah,Zai]
    refine ZaH ?_
    clear hHeld
    have FN:=Zaa (FA.out.no HO.out GD.out S1.out S2.out hb LH.out.2.2.2.2.1 MID.out.1 MID.out.2 (by rw[←DD.out.1];simpa using fun q=>hneg (HV.out.2 q)))
    have HJ:=Zaa (show j≤(h+1)+(gk-1)∧gk-1<gk by have:=hgk.out;have:=MID.out;omega)
    have hw4:IntKind.i64.wrap ((h:Int)+1)=(h:Int)+1:=by simp[IntKind.wrap,IntKind.bits,IntKind.signed];omega
    clear hneg HV
    go_wp2
    go_roundg (gk-1)
    case measure=>exact HJ.out.2
    case rel=>exact⟨h+1,j,by go_num,rfl,Zaa HJ.out.1,FN,O2,G2⟩
  ·obtain rfl:i=j:=by omega
   have hlti:¬(i:Int)<(i:Int):=by omega
   obtain⟨en,hen⟩:∃en:Nat,i+en=N:=⟨N-i,by have:=NU.out;have:=LH.out;omega⟩
   have hwe:IntKind.i64.wrap ((N:Int)-(i:Int))=(en:Int):=by rw[show(N:Int)-(i:Int)=(en:Int) by omega];simp[IntKind.wrap,IntKind.bits,IntKind.signed];have:=NU.out;omega
   have NM:=Zaa (show a≤i∧i≤m∧m≤en∧en≤b∧i≤mid∧mid≤en∧a<mid∧mid<b by
    have:=LH.out
    have:=this.2.2.2.2.2 i en l1 l3 hen
    have:=NU.out
    omega)
   have FIN:=Zaa (show(ZbY R (Zbo f i m en) a i∧ZbY R (Zbo f i m en) i mid)∧(ZbY R (Zbo f i m en) mid en∧ZbY R (Zbo f i m en) en b)∧∀x y,a≤x→x<mid→mid≤y→y<b→R (Zbo f i m en x) (Zbo f i m en y) by
    have l:=LH.out.2.2.2.2.2 i en l1 l3 hen
    have nu:=NU.out
    exact FA.out.done HO.out GD.out S1.out S2.out hb LH.out.2.2.2.2.1 (by omega) (by omega) ⟨NM.out.1,NM.out.2.1,NM.out.2.2.1,NM.out.2.2.2.1⟩ l.2.2.1 l.2.2.2)
   have GQ:=Zaa (show Zbp S (Zbo f i m en) n∧Zbl (Zbo f i m en) f a b from⟨GD.out.rot NM.out.2.1 NM.out.2.2.1 (by have:=NM.out;omega),(Zbl.rot f NM.out.2.1 NM.out.2.2.1).wide NM.out.1 NM.out.2.2.2.1⟩)
   clear hen l1 l2 l3 hlt
   go_upto_region 39 with fail
   clear hwe
   go_cut [185]from 185 to 185 (fun s wx=>∃bb:Bool,s=.bool bb∧wx=wr∧Hid (Zom bb (i<m∧m<en)))
   case first =>
    by_cases h1:i<m
    ·have h1i:(i:Int)<(m:Int):=by omega
     by_cases h2:m<en
     ·have h2i:(m:Int)<(en:Int):=by omega
      have BB:=Zaa (show Zom true (i<m∧m<en)from⟨fun _=>⟨h1,h2⟩,fun _=>rfl⟩)
      clear h1 h2
      go_wp2
      go_meet
      exact⟨true,rfl,rfl,BB⟩
     ·have h2i:¬(m:Int)<(en:Int):=by omega
      have BB:=Zaa (show Zom false (i<m∧m<en)from⟨fun h=>(nomatch h),fun h=>absurd h.2 h2⟩)
      clear h1 h2
      go_wp2
      go_meet
      exact⟨false,rfl,rfl,BB⟩
    ·have h1i:¬(i:Int)<(m:Int):=by omega
     have BB:=Zaa (show Zom false (i<m∧m<en)from⟨fun h=>(nomatch h),fun h=>absurd h.1 h1⟩)
     clear h1
     go_wp2
     go_meet
     exact⟨false,rfl,rfl,BB⟩
   case rest =>
   obtain⟨bb,rfl,rfl,BB⟩:=hcut
   obtain⟨wr,hzz⟩:∃x:World,x=wc:=⟨_,rfl⟩
   subst hzz
   go_upto_if 185 with fail
   go_cut []from 185 to 185 (fun wx=>Hid (Zdh wx B B2 g n cap (Zbo f i m en))∧Hid (w.grownBy wx (some g)))
   case first =>
    cases bb
    ·have EQ:=Zaa (show Zbo f i m en=f by
      have h1:=NM.out
      have h2:=BB.out
      rcases Nat.lt_or_ge i m with h|h
      ·have:¬m<en:=fun h3=>Bool.noConfusion (h2.2 ⟨h,h3⟩)
       rw[show en=m by omega,ZiI]
      ·rw[show i=m by omega,Zkh])
     go_wp2
     go_meet
     exact⟨Zaa (by rw[EQ.out];exact OL.out),GR⟩
    ·have CR:=Zaa (Zjn OL.out i m en (BB.out.1 rfl).1 (BB.out.1 rfl).2 (by have:=NM.out;omega) hn (.func (.func F) #[] cv))
     go_wp2_with fail
     refine CR.out.mono ?_
     rintro e w1 ⟨⟨y,rfl⟩,o1,g1⟩
     have O1:=Zaa o1
     have G1:=Zaa (GR.out.trans g1)
     clear o1 g1 OL GR CR
     go_wp2
     go_meet
     exact⟨O1,G1⟩
   case rest =>
   clear BB OL GR
   obtain⟨OL,GR⟩:=hcut
   obtain⟨wd,hwd⟩:∃x:World,x=wc:=⟨_,rfl⟩
   subst hwd
   go_upto_region 41 with fail
   go_cut [199]from 199 to 199 (fun s wx=>∃bb:Bool,s=.bool bb∧wx=wd∧Hid (Zom bb (a<i∧i<mid)))
   case first =>
    by_cases h1:a<i
    ·have h1i:(a:Int)<(i:Int):=by omega
     by_cases h2:i<mid
     ·have h2i:(i:Int)<(mid:Int):=by omega
      have BB:=Zaa (show Zom true (a<i∧i<mid)from⟨fun _=>⟨h1,h2⟩,fun _=>rfl⟩)
      clear h1 h2
      go_wp2
      go_meet
      exact⟨true,rfl,rfl,BB⟩
     ·have h2i:¬(i:Int)<(mid:Int):=by omega
      have BB:=Zaa (show Zom false (a<i∧i<mid)from⟨fun h=>(nomatch h),fun h=>absurd h.2 h2⟩)
      clear h1 h2
      go_wp2
      go_meet
      exact⟨false,rfl,rfl,BB⟩
    ·have h1i:¬(a:Int)<(i:Int):=by omega
     have BB:=Zaa (show Zom false (a<i∧i<mid)from⟨fun h=>(nomatch h),fun h=>absurd h.1 h1⟩)
     clear h1
     go_wp2
     go_meet
     exact⟨false,rfl,rfl,BB⟩
   case rest =>
   obtain⟨bb,rfl,rfl,BB⟩:=hcut
   obtain⟨wd,hzz⟩:∃x:World,x=wc:=⟨_,rfl⟩
   subst hzz
   go_upto_if 199 with fail
   go_cut []from 199 to 199 (fun wx=>∃q:Nat→List Int,Hid (Zdh wx B B2 g n cap q)∧Hid (Zbp S q n∧ZbY R q a mid∧Zbl q (Zbo f i m en) a mid)∧Hid (w.grownBy wx (some g)))
   case first =>
    cases bb
    ·have EQ:=Zaa (show ZbY R (Zbo f i m en) a mid by
      have h1:=NM.out
      have h2:=BB.out
      rcases Nat.lt_or_ge a i with h|h
      ·have:¬i<mid:=fun h3=>Bool.noConfusion (h2.2 ⟨h,h3⟩)
       rw[show mid=i by omega]
       exact FIN.out.1.1
      ·have h3:=FIN.out.1.2
       rwa[show i=a by omega]at h3 ⊢)
     go_wp2
     go_meet
     exact⟨_,OL,Zaa ⟨GQ.out.1,EQ.out,Zbl.refl _ _ _⟩,GR⟩
    ·have CR:=Zaa (IHH.out wd (Zbo f i m en) a i mid (by have:=NM.out;omega) (BB.out.1 rfl).1 (BB.out.1 rfl).2 (by have:=NM.out;omega) OL.out GQ.out.1 (HF.out.later GR.out) FIN.out.1.1 FIN.out.1.2)
     go_wp2_with fail
     refine CR.out.mono ?_
     rintro e w1 ⟨⟨y,rfl⟩,⟨q,o1,o2⟩,g1⟩
     have O1:=Zaa o1
     have O2:=Zaa o2
     have G1:=Zaa (GR.out.trans g1)
     clear o1 o2 g1 OL GR CR
     go_wp2
     go_meet
     exact⟨q,O1,O2,G1⟩
   case rest =>
   clear BB OL GR
   obtain⟨q,OL,Q2,GR⟩:=hcut
   obtain⟨we,hwe2⟩:∃x:World,x=wc:=⟨_,rfl⟩
   subst hwe2
   have E1:=Zaa (show ZbY R q mid en∧ZbY R q en b from⟨FIN.out.2.1.1.same (fun k h1 h2=>Q2.out.2.2.out k (by omega)),FIN.out.2.1.2.same (fun k h1 h2=>Q2.out.2.2.out k (by have:=NM.out;omega))⟩)
   have ENDS:Hid (∀q3:Nat→List Int,ZbY R q3 mid b→Zbl q3 q mid b→ZbY R q3 a b∧Zbl q3 f a b):=Zaa (fun q3 h1 h2=>by
    have nm:=NM.out
    refine⟨ZbY.join (Q2.out.2.1.same (fun k k1 k2=>h2.out k (by omega))) h1 (Zbl.before Q2.out.2.2 h2 FIN.out.2.2),(h2.wide (by omega) (Nat.le_refl _)).trans ((Q2.out.2.2.wide (Nat.le_refl _) (by omega)).trans GQ.out.2)⟩)
   go_upto_region 43 with fail
   go_cut [213]from 213 to 213 (fun s wx=>∃bb:Bool,s=.bool bb∧wx=we∧Hid (Zom bb (mid<en∧en<b)))
   case first =>
    by_cases h1:mid<en
    ·have h1i:(mid:Int)<(en:Int):=by omega
     by_cases h2:en<b
     ·have h2i:(en:Int)<(b:Int):=by omega
      have BB:=Zaa (show Zom true (mid<en∧en<b)from⟨fun _=>⟨h1,h2⟩,fun _=>rfl⟩)
      clear h1 h2
      go_wp2
      go_meet
      exact⟨true,rfl,rfl,BB⟩
     ·have h2i:¬(en:Int)<(b:Int):=by omega
      have BB:=Zaa (show Zom false (mid<en∧en<b)from⟨fun h=>(nomatch h),fun h=>absurd h.2 h2⟩)
      clear h1 h2
      go_wp2
      go_meet
      exact⟨false,rfl,rfl,BB⟩
    ·have h1i:¬(mid:Int)<(en:Int):=by omega
     have BB:=Zaa (show Zom false (mid<en∧en<b)from⟨fun h=>(nomatch h),fun h=>absurd h.1 h1⟩)
     clear h1
     go_wp2
     go_meet
     exact⟨false,rfl,rfl,BB⟩
   case rest =>
   obtain⟨bb,rfl,rfl,BB⟩:=hcut
   obtain⟨we,hzz⟩:∃x:World,x=wc:=⟨_,rfl⟩
   subst hzz
   cases bb
   ·have EQ:=Zaa (show ZbY R q mid b by
     have h1:=NM.out
     have h2:=BB.out
     rcases Nat.lt_or_ge mid en with h|h
     ·have:¬en<b:=fun h3=>Bool.noConfusion (h2.2 ⟨h,h3⟩)
      have h3:=E1.out.1
      rwa[show en=b by omega]at h3
     ·have h3:=E1.out.2
      rwa[show en=mid by omega]at h3)
    have EE:=Zaa (ENDS.out q EQ.out (Zbl.refl _ _ _))
    go_wp2
    exact bodyPost_end (v:=.tuple #[]) (by simp[results,Tryz.results219,go_sem]) rfl ⟨⟨_,rfl⟩,⟨q,OL.out,Q2.out.1,EE.out.1,EE.out.2⟩,GR.out⟩
   ·have CR:=Zaa (IHH.out we q mid en b (by have:=NM.out;omega) (BB.out.1 rfl).1 (BB.out.1 rfl).2 hb OL.out Q2.out.1 (HF.out.later GR.out) E1.out.1 E1.out.2)
    go_wp2_with fail
    refine CR.out.mono ?_
    rintro e w1 ⟨⟨y,rfl⟩,⟨q3,o1,o2,o3,o4⟩,g1⟩
    have O1:=Zaa o1
    have O2:=Zaa o2
    have EE:=Zaa (ENDS.out q3 o3 o4)
    have G1:=Zaa (GR.out.trans g1)
    clear o1 o2 o3 o4 g1 OL GR CR
    go_wp2
    exact bodyPost_end (v:=.tuple #[]) (by simp[results,Tryz.results219,go_sem]) rfl ⟨⟨_,rfl⟩,⟨q3,O1.out,O2.out,EE.out.1,EE.out.2⟩,G1.out⟩
theorem ZeY {B B2 g n cap:Nat}{F:FuncId}{cv:Array Value}{R:List Int→List Int→Prop}{S:List Int→Prop}(hn:n≤1000)(o:Zjl R S):∀(d:Nat) (w:World) (q:Nat→List Int) (a m b:Nat),b-a≤d→a<m→m<b→b≤n→Zdh w B B2 g n cap q→Zbp S q n→Zd6 F cv w g R S→ZbY R q a m→ZbY R q m b→Calls Tryz.prog 219 #[.slice (some ⟨g,0,none⟩) n cap,.int .i64 a,.int .i64 m,.int .i64 b,.func (.func F) #[] cv] w fun e w'=>(∃y,e=.returned y)∧(∃q',Zdh w' B B2 g n cap q'∧Zbp S q' n∧ZbY R q' a b∧Zbl q' q a b)∧w.grownBy w' (some g)
 | 0,w,q,a,m,b,h,h1,h2,_,_,_,_,_,_=>by omega
 | d+1,w,q,a,m,b,h,h1,h2,h3,own,G,hF,s1,s2=>by
  by_cases hA:m=a+1
  ·exact Znt own a m b hA h2 h3 hn o G hF s1 s2
  ·by_cases hB:b=m+1
   ·exact Znu own a m b hB (by omega) h3 hn o G hF s1 s2
   ·exact Znv own a m b (by omega) (by omega) h3 hn o G hF s1 s2 (fun w0 q a' m' b' k1 k2 k3 k4 k5 k6 k7 k8 k9=>ZeY hn o d w0 q a' m' b' (by omega) k2 k3 k4 k5 k6 k7 k8 k9)
end Go.Proofs.YtfmnagcglhlicaaGreat
