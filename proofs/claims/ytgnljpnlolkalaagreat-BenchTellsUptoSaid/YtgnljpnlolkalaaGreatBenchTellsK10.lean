/- Texts melted into one: slices.SortStableFunc on rows of lists: merging where the first stretch holds one. Conditions: the row is the call's own, as its lists are; of two lists that differ the comparison puts exactly one first. | slices.SortStableFunc on rows of lists: merging where the second stretc -/
import Derived.Test.YtgnljpnlolkalaaGreatBenchTellsK06
import Derived.IntWalk
set_option linter.all false
set_option maxRecDepth 100000
set_option maxHeartbeats 8000000
namespace Go.Proofs.YtgnljpnlolkalaaGreat
open Go.RowKit
def Du {α:Type}(f:Nat->α)(a b:Nat):fZ f a b b=f:=by
 funext k
 unfold fZ
 repeat' split
 all_goals first|rfl|(exfalso;omega)|(congr 1;omega)
def Ih {α:Type}(f:Nat->α)(a b:Nat):fZ f a a b=f:=by
 funext k
 unfold fZ
 repeat' split
 all_goals first|rfl|(exfalso;omega)|(congr 1;omega)
def Zc (i j n h:Nat)(a:i+j<=2*n)(b:n<=1000)(c:h=(i+j) / 2):wrap64 (((i:Int)+(j:Int)) / 2)=(h:Int):=by
 rw[show((i:Int)+(j:Int)) / 2=(h:Int) by omega];simp[wrap64];omega
def YT (i j:Nat)(h:i+j<=2000):IntKind.u64.wrap ((i:Int)+(j:Int))=(i:Int)+(j:Int) :=
 IntWalk.u64_in _ ⟨by omega,mD (show(i:Int)+(j:Int)<=2000 by omega) (by decide)⟩
def OH {w:World}{B B2 g n cap:Nat}{f:Nat->LIn}{F:FuncId}{cv:Array Value}{R:LIn->LIn->Prop}{S:LIn->Prop}(own:nJ w B B2 g n cap f)(a m b:Nat)(hm:m=a+1)(b5:m<b)(hb:b<=n)(hn:n<=1000)(o:EG R S)(G:f7 S f n)(hF:qV F cv w g R S)(s1:jI R f a m)(s2:jI R f m b) :
  Calls Tryz.prog 178 #[.slice g n cap,a,m,b,.func (.func F) #[] cv] w λe w'=>(∃y,e=.returned y)/\(∃q,nJ w' B B2 g n cap q/\f7 S q n/\jI R q a b/\fS q f a b)/\w.grownBy w' (some g):=by
 have OW:=aA own;have a3:=hF.enters;have HF:=aA hF;have HO:=aA o;have N:=aA G;have S1:=aA s1;have S2:=aA s2;clear own hF o G s1 s2;have a4:IntKind.i64.wrap ((m:Int)-(a:Int))=1:=by rw[hm,show((a+1:Nat):Int)-(a:Int)=1 by omega];decide
 have V:=aA hm;clear hm;go_enter Tryz.func178,Tryz.ntmps178
 go_wp2
 clear a4;go_loopg [10,11] (b-m) (λgk u v wr=>∃i j:Nat,u=i/\v=j/\Hid (j<=i+gk)/\Hid (x7 R f a m b i j)/\Hid (nJ wr B B2 g n cap f)/\Hid (w.grownBy wr (some g)))
 case atStart=>exact⟨m,b,rfl,rfl,aA (by omega),aA (x7.start (by omega)),OW,aA (gU _ _)⟩
 case round =>
  clear OW;obtain⟨i,j,rfl,rfl,W,D,A,C⟩:=hrel;have X:=D.o.le;obtain⟨O,l2,l3⟩:=X;have t:=V.o;by_cases b6:i<j
  .have Y:(i:Int)<(j:Int):=by omega
   obtain⟨h,hh⟩:∃h:Nat,h=(i+j) / 2:=⟨_,rfl⟩;have d:=aA (show i<=h/\h<j by omega);have b7:(h:Int)<(n:Int):=by omega
   have b9:(a:Int)<(n:Int):=by omega
   have c0:IntKind.i64.wrap ((i:Int)+(j:Int))=(i:Int)+(j:Int):=by simp[IntKind.wrap,IntKind.bits,IntKind.signed];omega
   have c5:IntKind.u64.wrap ((i:Int)+(j:Int))=(i:Int)+(j:Int):=YT i j (by omega);have c6:=Zc i j n h (by omega) hn hh;clear hh;clear t;have t:=aA V.o;have a5:=V.o;have a6:=d.o;have r:=aA (A.o.keep ((aH wr wr).drew));have Z:=aA (C.o.trans (lH ((aH wr wr).drew) (some g)));clear A C;obtain⟨P,Q,T,q1,ix,E⟩:=r.o.at (gW (f:=f) (show h<n by omega));obtain⟨H,I,J,q2,iy,K⟩:=r.o.at (gW (f:=f) (show a<n by omega));have CL:=aA (HF.o.calls wr.drew P H Q T I J (f (h)) (f (a)) Z.o (mJ.ints ix E) (mJ.ints iy K) (N.o.mem _ (by omega)) (N.o.mem _ (by omega)) (λe=>by have:=N.o.inj _ _ (by omega) (by omega) e;omega));clear ix iy;clear a5 a6 t O l2 l3;go_upto_region 5 with fail
   refine aN 10 (.takes [0,1,2,3,4,5,6,7,8] (.one 9 (.fin 10 .done))) (λw'=>w'.cell? ⟨g,h,none⟩=some (.slice P Q T)/\w'.cell? ⟨g,a,none⟩=some (.slice H I J)) (by kernel_rfl) (by kernel_rfl) (by kernel_rfl) (λ_ _ _ _ _ h=>h) ⟨q1,q2⟩ (λx=>?_);simp only[Scr.takes];clear q1 q2;generalize wr.drew=y1 at *
   have L:=aA (r.o.lt g rfl).2
   iterate 9
    refine aM (v:=?_) rfl (by rfl) x (λw' a9=>?_) ?_
    rotate_left
    ·(go_simp;try with_reducible rfl)
    try simp only[aC]
   refine bK rfl (λU c=>?_);go_simp
   refine CL.o.mono ?_;rintro e y2 ⟨b0,rfl,hv,s⟩;refine c.out _ _ ⟨(s.cell (p:=⟨g,h,none⟩) L.o).trans x.1,(s.cell (p:=⟨g,a,none⟩) L.o).trans x.2⟩ (λx=>?_);clear c;try simp only[aC]
   have M:=aA (r.o.keep s);have G2:=aA (Z.o.trans (lH s (some g)));have HV:=aA hv;clear s hv CL r Z L;by_cases l:b0<0
   .refine cH rfl (λU c=>?_);go_simp
    refine c.out _ _ ?_;clear c;try simp only[aC]
    refine cE ?_;clear x;have FN:=aA (D.o.yes HO.o N.o S2.o (by have:=V.o;omega) hb d.o.1 d.o.2 (by simpa using HV.o.1 l));have z:=aA (show j<=(h+1)+(gk-1)/\gk-1<gk by have:=W.o;have:=d.o;omega);have b1:IntKind.i64.wrap ((h:Int)+1)=(h:Int)+1:=by simp[IntKind.wrap,IntKind.bits,IntKind.signed];omega
    clear l HV;go_wp2
    go_roundg (gk-1)
    case measure=>exact z.o.2
    exact⟨h+1,j,by go_num,rfl,aA z.o.1,FN,M,G2⟩
   refine cH rfl (λU c=>?_);go_simp
   refine c.out _ _ ?_;clear c;try simp only[aC]
   refine cE ?_;clear x;have FN:=aA (D.o.no HO.o N.o S2.o (by have:=V.o;omega) hb d.o.1 d.o.2 (by simpa using λq=>l (HV.o.2 q)));have z:=aA (show h<=i+(gk-1)/\gk-1<gk by have:=W.o;have:=d.o;omega);clear l HV;go_wp2
   go_roundg (gk-1)
   case measure=>exact z.o.2
   exact⟨i,h,rfl,rfl,aA z.o.1,FN,M,G2⟩
  obtain rfl:i=j:=by omega
  have Y:¬(i:Int)<(i:Int):=by omega
  have b1:IntKind.i64.wrap ((i:Int)-1)=(i:Int)-1:=by simp[IntKind.wrap,IntKind.bits,IntKind.signed];omega
  have X:=aA (show m<=i/\i<=b/\m=a+1 by omega);clear O l2 l3 t;go_wp2
  go_loopg [13] (i-a) (λgk u wr=>∃k:Nat,u=k/\Hid (i<=k+1+gk)/\Hid (a<=k/\k+1<=i)/\Hid (nJ wr B B2 g n cap (fZ f a (a+1) (k+1)))/\Hid (w.grownBy wr (some g)))
  case atStart=>exact⟨a,rfl,aA (by omega),aA (by have:=X.o;omega),aA (by rw[Du];exact A.o),C⟩
  clear A C;obtain⟨k,rfl,a0,LK,A,C⟩:=hrel;by_cases c7:k+1<i
  rotate_left
  .have a1:=aA (show k+1=i by have:=LK.o;omega);have a2:¬(k:Int)<(i:Int)-1:=by have:=a1.o;omega
   have SG:=aA (show f7 S (fZ f a (a+1) (k+1)) n/\jI R (fZ f a (a+1) (k+1)) a b/\fS (fZ f a (a+1) (k+1)) f a b by
    obtain⟨O,l2,l3⟩:=X.o;rw[a1.o];have D:=D.o;have S2:=S2.o;rw[l3]at D S2 O;exact⟨N.o.rot (by omega) O (by omega),D.done S2,(fS.rot f (by omega) O).wide (by omega) l2⟩)
   go_wp2
   exact aU (v:=.tuple #[]) (by simp[results,Tryz.results178,go_sem]) rfl ⟨⟨_,rfl⟩,⟨_,A.o,SG.o.1,SG.o.2.1,SG.o.2.2⟩,C.o⟩
  have lk:=LK.o;have le:=X.o;have a2:(k:Int)<(i:Int)-1:=by omega
  have c8:IntKind.i64.wrap ((k:Int)+1)=(k:Int)+1:=by simp[IntKind.wrap,IntKind.bits,IntKind.signed];omega
  have c9:0<=(k:Int)+1:=by omega
  have d0:(k:Int)+1<(n:Int):=by omega
  have d1:(k:Int)<(n:Int):=by omega
  have r:=aA (A.o.keep ((aH wr wr).drew));have Z:=aA (C.o.trans (lH ((aH wr wr).drew) (some g)));obtain⟨P,Q,T,q1,ix,E⟩:=r.o.at (gW (f:=fZ f a (a+1) (k+1)) (show k<n by omega));obtain⟨H,I,J,q2,iy,K⟩:=r.o.at (gW (f:=fZ f a (a+1) (k+1)) (show k+1<n by omega));have IX:=aA ix;have IY:=aA iy;clear ix iy A C;clear lk le;go_upto_region 11 with fail
  refine lF 14 [2,3,4] 15 (.takes [0,1,5,6,7,8,9,10,11,12,13] (.fin 14 (.fin 15 (.fin 16 (.fin 17 .done))))) (λw'=>w'.cell? ⟨g,k,none⟩=some (.slice P Q T)/\w'.cell? ⟨g,k+1,none⟩=some (.slice H I J)) (by kernel_rfl) (by kernel_rfl) (by kernel_rfl) rfl (by kernel_rfl) (λ_ _ _ _ _ h=>h) ⟨q1,q2⟩ (λx=>?_);generalize wr.drew=y3 at *
  iterate 3
   refine L8 (v:=?_) rfl (by rfl) (λw'=>?_) ?_
   rotate_left
   ·(go_simp;try with_reducible rfl)
   try simp only[aC]
  simp only[qE,Scr.takes]
  iterate 11
   refine aM (v:=?_) rfl (by rfl) x (λw' a9=>?_) ?_
   rotate_left
   ·(go_simp;try with_reducible rfl)
   try simp only[aC]
  clear q1 q2 x;have z1:=r.o.frozen (k);obtain⟨v1,b2⟩:=lB.1 (mJ.anyCell r.o (j:=k) (by omega));refine cH rfl (λU c=>?_);go_simp
  refine c.out _ _ ?_;clear c;try simp only[aC]
  refine cH rfl (λU c=>?_);go_simp
  refine c.out _ _ ?_;clear c z1 b2;try simp only[aC]
  have M:=aA (mJ.put r.o (k) IY.o K);have G2:=aA (Z.o.trans (kJ y3 g (k) (.slice H I J)));have b3:=aA (sJ r.o IX.o (k) (.slice H I J));generalize y3.setCell ⟨g,k,none⟩ (.slice H I J)=y4 at *
  have z2:=M.o.frozen (k+1);obtain⟨v2,b4⟩:=lB.1 (mJ.anyCell M.o (j:=k+1) (by omega));refine cH rfl (λU c=>?_);go_simp
  refine c.out _ _ ?_;clear c;try simp only[aC]
  refine cH rfl (λU c=>?_);go_simp
  refine c.out _ _ ?_;clear c z2 b4;try simp only[aC]
  have O3:=aA (mJ.put M.o (k+1) b3.o E);have G3:=aA (G2.o.trans (kJ y4 g (k+1) (.slice P Q T)));refine cE ?_;generalize y4.setCell ⟨g,k+1,none⟩ (.slice P Q T)=y5 at *
  have lk:=LK.o;have O4:=aA (show nJ y5 B B2 g n cap (fZ f a (a+1) (k+2)) by
   have:=O3.o;rw[uV (f:=fZ f a (a+1) (k+1)) (show k<n by omega) (show k+1<n by omega),Qz (by omega)]at this;exact this)
  clear M O3 r;clear lk;have z:=aA (show i<=(k+1)+1+(gk-1)/\gk-1<gk/\a<=k+1/\(k+1)+1<=i by have:=a0.o;have:=LK.o;omega);go_wp2
  go_roundg (gk-1)
  case measure=>exact z.o.2.1
  exact⟨k+1,by go_num,aA z.o.1,aA z.o.2.2,O4,G3⟩
def OP {w:World}{B B2 g n cap:Nat}{f:Nat->LIn}{F:FuncId}{cv:Array Value}{R:LIn->LIn->Prop}{S:LIn->Prop}(own:nJ w B B2 g n cap f)(a m b:Nat)(hm:b=m+1)(b3:a+1<m)(hb:b<=n)(hn:n<=1000)(o:EG R S)(G:f7 S f n)(hF:qV F cv w g R S)(s1:jI R f a m)(s2:jI R f m b) :
  Calls Tryz.prog 178 #[.slice g n cap,a,m,b,.func (.func F) #[] cv] w λe w'=>(∃y,e=.returned y)/\(∃q,nJ w' B B2 g n cap q/\f7 S q n/\jI R q a b/\fS q f a b)/\w.grownBy w' (some g):=by
 have OW:=aA own;have a2:=hF.enters;have HF:=aA hF;have HO:=aA o;have O:=aA G;have S1:=aA s1;have S2:=aA s2;clear own hF o G s1 s2;have a3:IntKind.i64.wrap ((m:Int)-(a:Int))=(m:Int)-(a:Int):=by simp[IntKind.wrap,IntKind.bits,IntKind.signed];omega
 have a4:(((m:Int)-(a:Int))==1)=false:=by simp;omega
 have W:IntKind.i64.wrap ((b:Int)-(m:Int))=1:=by rw[hm,show((m+1:Nat):Int)-(m:Int)=1 by omega];decide
 have HM:=aA hm;clear hm;go_enter Tryz.func178,Tryz.ntmps178
 go_wp2
 clear a3 W a4;go_loopg [14,15] (m-a) (λgk u v wr=>∃i j:Nat,u=i/\v=j/\Hid (j<=i+gk)/\Hid (x8 R f a m i j)/\Hid (nJ wr B B2 g n cap f)/\Hid (w.grownBy wr (some g)))
 case atStart=>exact⟨a,m,rfl,rfl,aA (by omega),aA (x8.start (by omega)),OW,aA (gU _ _)⟩
 case round =>
  clear OW;obtain⟨i,j,rfl,rfl,X,FA,A,C⟩:=hrel;have P:=FA.o.le;obtain⟨l1,Y,l3⟩:=P;have x:=HM.o;by_cases b4:i<j
  .have Z:(i:Int)<(j:Int):=by omega
   obtain⟨h,hh⟩:∃h:Nat,h=(i+j) / 2:=⟨_,rfl⟩;have d:=aA (show i<=h/\h<j by omega);have b5:(h:Int)<(n:Int):=by omega
   have b6:(m:Int)<(n:Int):=by omega
   have W:IntKind.i64.wrap ((i:Int)+(j:Int))=(i:Int)+(j:Int):=by simp[IntKind.wrap,IntKind.bits,IntKind.signed];omega
   have b7:IntKind.u64.wrap ((i:Int)+(j:Int))=(i:Int)+(j:Int):=YT i j (by omega);have b9:=Zc i j n h (by omega) hn hh;clear hh x;have x:=HM.o;have a5:=d.o;have r:=aA (A.o.keep ((aH wr wr).drew));have GX:=aA (C.o.trans (lH ((aH wr wr).drew) (some g)));clear A C;obtain⟨Q,T,U,q1,ix,E⟩:=r.o.at (gW (f:=f) (show m<n by omega));obtain⟨H,I,J,q2,iy,K⟩:=r.o.at (gW (f:=f) (show h<n by omega));have CL:=aA (HF.o.calls wr.drew Q H T U I J (f (m)) (f (h)) GX.o (mJ.ints ix E) (mJ.ints iy K) (O.o.mem _ (by omega)) (O.o.mem _ (by omega)) (λe=>by have:=O.o.inj _ _ (by omega) (by omega) e;omega));clear ix iy;clear x a5 l1 Y l3;go_upto_region 17 with fail
   refine aN 11 (.takes [0,1,2,3,4,5,6,7,8] (.one 9 (.take 10 (.fin 11 .done)))) (λw'=>w'.cell? ⟨g,m,none⟩=some (.slice Q T U)/\w'.cell? ⟨g,h,none⟩=some (.slice H I J)) (by kernel_rfl) (by kernel_rfl) (by kernel_rfl) (λ_ _ _ _ _ h=>h) ⟨q1,q2⟩ (λs=>?_);simp only[Scr.takes];clear q1 q2;generalize wr.drew=y1 at *
   have L:=aA (r.o.lt g rfl).2
   iterate 9
    refine aM (v:=?_) rfl (by rfl) s (λw' M=>?_) ?_
    rotate_left
    ·(go_simp;try with_reducible rfl)
    try simp only[aC]
   refine bK rfl (λV c=>?_);go_simp
   refine CL.o.mono ?_;rintro e y2 ⟨a6,rfl,hv,t⟩;refine c.out _ _ ⟨(t.cell (p:=⟨g,m,none⟩) L.o).trans s.1,(t.cell (p:=⟨g,h,none⟩) L.o).trans s.2⟩ (λs=>?_);clear c;try simp only[aC]
   have N:=aA (r.o.keep t);have G2:=aA (GX.o.trans (lH t (some g)));have HV:=aA hv;clear t hv CL r GX L;by_cases l:a6<0
   .refine aM (v:=.bool true) rfl (by rfl) s (λw' M=>?_) ?_
    ·(go_simp;try with_reducible rfl)
    try simp only[aC]
    refine cH rfl (λV c=>?_);go_simp
    refine c.out _ _ ?_;clear c;try simp only[aC]
    refine cE ?_;clear s;have FN:=aA (FA.o.yes HO.o O.o S1.o (by have:=HM.o;omega) d.o.1 d.o.2 (by simpa using HV.o.1 l));have z:=aA (show h<=i+(gk-1)/\gk-1<gk by have:=X.o;have:=d.o;omega);clear l HV;go_wp2
    go_roundg (gk-1)
    case measure=>exact z.o.2
    exact⟨i,h,rfl,rfl,aA z.o.1,FN,N,G2⟩
   refine aM (v:=.bool false) rfl (by rfl) s (λw' M=>?_) ?_
   ·(go_simp;try with_reducible rfl)
   try simp only[aC]
   refine cH rfl (λV c=>?_);go_simp
   refine c.out _ _ ?_;clear c;try simp only[aC]
   refine cE ?_;clear s;have FN:=aA (FA.o.no HO.o O.o S1.o (by have:=HM.o;omega) d.o.1 d.o.2 (by simpa using λq=>l (HV.o.2 q)));have z:=aA (show j<=(h+1)+(gk-1)/\gk-1<gk by have:=X.o;have:=d.o;omega);have c0:IntKind.i64.wrap ((h:Int)+1)=(h:Int)+1:=by simp[IntKind.wrap,IntKind.bits,IntKind.signed];omega
   clear l HV;go_wp2
   go_roundg (gk-1)
   case measure=>exact z.o.2
   exact⟨h+1,j,by go_num,rfl,aA z.o.1,FN,N,G2⟩
  obtain rfl:i=j:=by omega
  have Z:¬(i:Int)<(i:Int):=by omega
  have P:=aA (show a<=i/\i<=m/\b=m+1 by omega);clear l1 Y l3 x;go_wp2
  go_loopg [17] (m-i) (λgk u wr=>∃k:Nat,u=k/\Hid (k<=i+gk)/\Hid (i<=k/\k<=m)/\Hid (nJ wr B B2 g n cap (fZ f k m (m+1)))/\Hid (w.grownBy wr (some g)))
  case atStart=>exact⟨m,rfl,aA (by have:=P.o;omega),aA (by have:=P.o;omega),aA (by rw[Ih];exact A.o),C⟩
  clear A C;obtain⟨k,rfl,a0,LK,A,C⟩:=hrel;by_cases a9:i<k
  rotate_left
  .have a1:=aA (show k=i by have:=LK.o;omega);have D:¬(i:Int)<(k:Int):=by have:=a1.o;omega
   have SG:=aA (show f7 S (fZ f k m (m+1)) n/\jI R (fZ f k m (m+1)) a b/\fS (fZ f k m (m+1)) f a b by
    obtain⟨l1,Y,l3⟩:=P.o;rw[a1.o,l3];exact⟨O.o.rot Y (by omega) (by omega),FA.o.done S1.o,(fS.rot f Y (by omega)).wide l1 (by omega)⟩)
   go_wp2
   exact aU (v:=.tuple #[]) (by simp[results,Tryz.results178,go_sem]) rfl ⟨⟨_,rfl⟩,⟨_,A.o,SG.o.1,SG.o.2.1,SG.o.2.2⟩,C.o⟩
  obtain⟨p,rfl⟩:∃p,k=p+1:=⟨k-1,by omega⟩;have lk:=LK.o;have le:=P.o;have D:(i:Int)<(p:Int)+1:=by omega
  have c5:0<=(p:Int)+1:=by omega
  have c6:(p:Int)+1<(n:Int):=by omega
  have c7:(p:Int)<(n:Int):=by omega
  have c8:IntKind.i64.wrap (p:Int)=(p:Int):=by simp[IntKind.wrap,IntKind.bits,IntKind.signed];omega
  have r:=aA (A.o.keep ((aH wr wr).drew));have GX:=aA (C.o.trans (lH ((aH wr wr).drew) (some g)));obtain⟨Q,T,U,q1,ix,E⟩:=r.o.at (gW (f:=fZ f (p+1) m (m+1)) (show p+1<n by omega));obtain⟨H,I,J,q2,iy,K⟩:=r.o.at (gW (f:=fZ f (p+1) m (m+1)) (show p<n by omega));have IX:=aA ix;have IY:=aA iy;clear ix iy A C;clear lk le a9;go_upto_region 23 with fail
  refine lF 14 [2,3,4] 15 (.takes [0,1,5,6,7,8,9,10,11,12,13] (.fin 14 (.fin 15 (.fin 16 (.fin 17 .done))))) (λw'=>w'.cell? ⟨g,p+1,none⟩=some (.slice Q T U)/\w'.cell? ⟨g,p,none⟩=some (.slice H I J)) (by kernel_rfl) (by kernel_rfl) (by kernel_rfl) rfl (by kernel_rfl) (λ_ _ _ _ _ h=>h) ⟨q1,q2⟩ (λs=>?_);generalize wr.drew=y3 at *
  iterate 3
   refine L8 (v:=?_) rfl (by rfl) (λw'=>?_) ?_
   rotate_left
   ·(go_simp;try with_reducible rfl)
   try simp only[aC]
  simp only[qE,Scr.takes]
  iterate 11
   refine aM (v:=?_) rfl (by rfl) s (λw' M=>?_) ?_
   rotate_left
   ·(go_simp;try with_reducible rfl)
   try simp only[aC]
  clear q1 q2 s;have z1:=r.o.frozen (p+1);obtain⟨v1,b0⟩:=lB.1 (mJ.anyCell r.o (j:=p+1) (by omega));refine cH rfl (λV c=>?_);go_simp
  refine c.out _ _ ?_;clear c;try simp only[aC]
  refine cH rfl (λV c=>?_);go_simp
  refine c.out _ _ ?_;clear c z1 b0;try simp only[aC]
  have N:=aA (mJ.put r.o (p+1) IY.o K);have G2:=aA (GX.o.trans (kJ y3 g (p+1) (.slice H I J)));have b1:=aA (sJ r.o IX.o (p+1) (.slice H I J));generalize y3.setCell ⟨g,p+1,none⟩ (.slice H I J)=y4 at *
  have z2:=N.o.frozen (p);obtain⟨v2,b2⟩:=lB.1 (mJ.anyCell N.o (j:=p) (by omega));refine cH rfl (λV c=>?_);go_simp
  refine c.out _ _ ?_;clear c;try simp only[aC]
  refine cH rfl (λV c=>?_);go_simp
  refine c.out _ _ ?_;clear c z2 b2;try simp only[aC]
  have O3:=aA (mJ.put N.o (p) b1.o E);have G3:=aA (G2.o.trans (kJ y4 g (p) (.slice Q T U)));refine cE ?_;generalize y4.setCell ⟨g,p,none⟩ (.slice Q T U)=y5 at *
  have lk:=LK.o;have O4:=aA (show nJ y5 B B2 g n cap (fZ f p m (m+1)) by
   have:=O3.o;rw[uV (f:=fZ f (p+1) m (m+1)) (show p+1<n by omega) (show p<n by omega),(show kO (fZ f (p+1) m (m+1)) (p+1) p=fZ f p m (m+1)from QA (by omega) (by omega))]at this;exact this)
  clear N O3 r;clear lk;have z:=aA (show p<=i+(gk-1)/\gk-1<gk/\i<=p/\p<=m by have:=a0.o;have:=LK.o;have:=D;omega);go_wp2
  go_roundg (gk-1)
  case measure=>exact z.o.2.1
  exact⟨p,by go_num,aA z.o.1,aA z.o.2.2,O4,G3⟩
def Qe (a:Bool)(P:Prop):Prop:=a=true↔P
def jI.same {R:LIn->LIn->Prop}{q c:Nat->LIn}{a b:Nat}(h:jI R q a b)(e:∀k,a<=k->k<b->c k=q k):jI R c a b:=λi j d g f=>by
 rw[e i d (by omega),e j (by omega) f];exact h i j d g f
def OQ {w:World} {B B2 g n cap:Nat} {f:Nat->LIn} {F:FuncId} {cv:Array Value} {R:LIn->LIn->Prop} {S:LIn->Prop} (own:nJ w B B2 g n cap f) (a m b:Nat) (e3:a+1<m) (e4:m+1<b) (hb:b<=n) (hn:n<=1000) (o:EG R S) (G:f7 S f n) (hF:qV F cv w g R S) (s1:jI R f a m) (s2:jI R f m b)
  (IH:∀(w0:World) (q:Nat->LIn) (a' m' b':Nat),b'-a'<b-a->a'<m'->m'<b'->b'<=n->nJ w0 B B2 g n cap q->f7 S q n->qV F cv w0 g R S->jI R q a' m'->jI R q m' b'->Calls Tryz.prog 178 #[.slice g n cap,a',m',b',.func (.func F) #[] cv] w0 λe w'=>(∃y,e=.returned y)/\(∃q',nJ w' B B2 g n cap q'/\f7 S q' n/\jI R q' a' b'/\fS q' q a' b')/\w0.grownBy w' (some g)) :
  Calls Tryz.prog 178 #[.slice g n cap,a,m,b,.func (.func F) #[] cv] w λe w'=>(∃y,e=.returned y)/\(∃q,nJ w' B B2 g n cap q/\f7 S q n/\jI R q a b/\fS q f a b)/\w.grownBy w' (some g):=by
 have OW:=aA own;have c0:=hF.enters;have HF:=aA hF;have HO:=aA o;have GD:=aA G;have S1:=aA s1;have S2:=aA s2;have a5:=aA IH;clear IH own hF o G s1 s2;have c5:IntKind.i64.wrap ((m:Int)-(a:Int))=(m:Int)-(a:Int):=by simp[IntKind.wrap,IntKind.bits,IntKind.signed];omega
 have a6:(((m:Int)-(a:Int))==1)=false:=by simp;omega
 have a2:IntKind.i64.wrap ((b:Int)-(m:Int))=(b:Int)-(m:Int):=by simp[IntKind.wrap,IntKind.bits,IntKind.signed];omega
 have a9:(((b:Int)-(m:Int))==1)=false:=by simp;omega
 obtain⟨r,b0⟩:∃k:Nat,k=(a+b) / 2:=⟨_,rfl⟩;obtain⟨N,hN⟩:∃k:Nat,k=r+m:=⟨_,rfl⟩;obtain⟨p,hp⟩:∃k:Nat,k+1=N:=⟨N-1,by omega⟩;have NU:=aA (show a<r/\r<b/\N=r+m/\p+1=N/\2*r<=a+b/\a+b<=2*r+1 by omega);have c6:IntKind.i64.wrap (((a:Int)+(b:Int)) / 2+(m:Int))=(N:Int):=by rw[hN,show((a:Int)+(b:Int)) / 2=(r:Int) by omega];simp[IntKind.wrap,IntKind.bits,IntKind.signed];omega
 have c7:IntKind.i64.wrap ((N:Int)-1)=(p:Int):=by rw[show(N:Int)-1=(p:Int) by omega];simp[IntKind.wrap,IntKind.bits,IntKind.signed];omega
 have c8:IntKind.i64.wrap ((a:Int)+(b:Int))=(a:Int)+(b:Int):=by simp[IntKind.wrap,IntKind.bits,IntKind.signed];omega
 have c9:IntKind.u64.wrap ((a:Int)+(b:Int))=(a:Int)+(b:Int):=YT a b (by omega);have T:((a:Int)+(b:Int)) / 2=(r:Int):=by omega
 have a0:=aA T;clear b0 hN hp T;go_enter Tryz.func178,Tryz.ntmps178
 go_upto_if 140 with fail
 clear c5 a6 a2 a9 c6 c8 c9;go_cut [20,21]from 138 to 140 (λd0 d1 O=>∃lo U:Nat,d0=lo/\d1=U/\O=w/\Hid (lo<=U/\a<=lo/\U<=m/\U<=r/\(∀c,lo<=c->c<U->a<=c/\c<m/\m<=p-c/\p-c<b/\c<=p)/\∀D t,lo<=D->D<=U->D+t=N->m<=t/\t<=b/\(D=lo->t=b∨D=a)/\(D=U->t=m∨D=m)))
 case first =>
  by_cases e5:r<m
  .have b2:((a:Int)+(b:Int)) / 2<(m:Int):=by rw[a0.o];omega
   obtain⟨lo,d2⟩:∃lo:Nat,lo+b=N:=⟨N-b,by have:=NU.o;omega⟩;have e6:IntKind.i64.wrap ((N:Int)-(b:Int))=(lo:Int):=by rw[show(N:Int)-(b:Int)=(lo:Int) by omega];simp[IntKind.wrap,IntKind.bits,IntKind.signed];have:=NU.o;omega
   have E:=aA (show lo<=r/\a<=lo/\r<=m/\r<=r/\(∀c,lo<=c->c<r->a<=c/\c<m/\m<=p-c/\p-c<b/\c<=p)/\∀D t,lo<=D->D<=r->D+t=N->m<=t/\t<=b/\(D=lo->t=b∨D=a)/\(D=r->t=m∨D=m) by
    have:=NU.o;refine⟨by omega,by omega,by omega,by omega,λc C A=>by omega,λD t C A P=>by omega⟩)
   clear d2;go_wp2
   go_meet
   exact⟨lo,r,rfl,aO (Value.int .i64) a0.o,rfl,E⟩
  have b2:¬((a:Int)+(b:Int)) / 2<(m:Int):=by rw[a0.o];omega
  have E:=aA (show a<=m/\a<=a/\m<=m/\m<=r/\(∀c,a<=c->c<m->a<=c/\c<m/\m<=p-c/\p-c<b/\c<=p)/\∀D t,a<=D->D<=m->D+t=N->m<=t/\t<=b/\(D=a->t=b∨D=a)/\(D=m->t=m∨D=m) by
   have:=NU.o;refine⟨by omega,by omega,by omega,by omega,λc C A=>by omega,λD t C A P=>by omega⟩)
  go_wp2
  go_meet
  exact⟨a,m,rfl,rfl,rfl,E⟩
 case rest =>
 obtain⟨lo,U,rfl,rfl,rfl,LH⟩:=hcut;obtain⟨w,d3⟩:∃x:World,x=wc:=⟨_,rfl⟩;subst d3;have T:=a0.o;simp only[T];clear T;go_wp2
 clear c7;go_loopg [20,21] (U-lo) (λgk u v wr=>∃i j:Nat,u=i/\v=j/\Hid (j<=i+gk)/\Hid (x9 R f p lo U i j)/\Hid (nJ wr B B2 g n cap f)/\Hid (w.grownBy wr (some g)))
 case atStart=>exact⟨lo,U,rfl,rfl,aA (by omega),aA (x9.start LH.o.1),OW,aA (gU _ _)⟩
 case round =>
  clear OW;obtain⟨i,j,rfl,rfl,b3,FA,K,I⟩:=hrel;have LE:=FA.o.le;obtain⟨l1,l2,l3⟩:=LE;by_cases d4:i<j
  .have b4:(i:Int)<(j:Int):=by omega
   obtain⟨h,hh⟩:∃h:Nat,h=(i+j) / 2:=⟨_,rfl⟩;have Q:=aA (show i<=h/\h<j by omega);have b1:=LH.o.2.2.2.2.1 h (by omega) (by omega);have nu:=NU.o;obtain⟨d,hd⟩:∃d:Nat,d+h=p:=⟨p-h,by omega⟩;have DD:=aA (show d=p-h/\d≠h/\d<n/\h<n by omega);have b5:IntKind.i64.wrap ((p:Int)-(h:Int))=(d:Int):=by rw[show(p:Int)-(h:Int)=(d:Int) by omega];simp[IntKind.wrap,IntKind.bits,IntKind.signed];omega
   have e7:(h:Int)<(n:Int):=by omega
   have e8:(d:Int)<(n:Int):=by omega
   have b6:i+j<=2*n:=by omega
   have a2:IntKind.i64.wrap ((i:Int)+(j:Int))=(i:Int)+(j:Int):=by simp[IntKind.wrap,IntKind.bits,IntKind.signed];omega
   have d5:IntKind.u64.wrap ((i:Int)+(j:Int))=(i:Int)+(j:Int):=YT i j (by omega);have V:=Zc i j n h b6 hn hh;have d6:=aA V;clear V hh hd b1 nu b6;have dd:=DD.o;have OD:=aA (K.o.keep ((aH wr wr).drew));have GX:=aA (I.o.trans (lH ((aH wr wr).drew) (some g)));clear K I;obtain⟨Ax,mx,cx,q1,ix,d7⟩:=OD.o.at (gW (f:=f) (show d<n by omega));obtain⟨Ay,my,cy,q2,iy,e0⟩:=OD.o.at (gW (f:=f) (show h<n by omega));have CL:=aA (HF.o.calls wr.drew Ax Ay mx cx my cy (f (d)) (f (h)) GX.o (mJ.ints ix d7) (mJ.ints iy e0) (GD.o.mem _ (by omega)) (GD.o.mem _ (by omega)) (λe=>by have:=GD.o.inj _ _ (by omega) (by omega) e;omega));clear ix iy;clear dd l1 l2 l3;have V:=d6.o;go_upto_region 35 with fail
   simp only[V];clear a2 d5 V;refine aN 13 (.takes [0,1,2,3,4,5,6,7,8,9,10] (.one 11 (.take 12 (.fin 13 .done)))) (λw'=>w'.cell? ⟨g,d,none⟩=some (.slice Ax mx cx)/\w'.cell? ⟨g,h,none⟩=some (.slice Ay my cy)) (by kernel_rfl) (by kernel_rfl) (by kernel_rfl) (λ_ _ _ _ _ h=>h) ⟨q1,q2⟩ (λhH=>?_);simp only[Scr.takes];clear q1 q2;generalize wr.drew=y1 at *
   have a3:=aA (OD.o.lt g rfl).2
   iterate 11
    refine aM (v:=?_) rfl (by rfl) hH (λw' b7=>?_) ?_
    rotate_left
    ·(go_simp;try with_reducible rfl)
    try simp only[aC]
   refine bK rfl (λKf J=>?_);go_simp
   refine CL.o.mono ?_;rintro e y2 ⟨e1,rfl,hv,W⟩;refine J.out _ _ ⟨(W.cell (p:=⟨g,d,none⟩) a3.o).trans hH.1,(W.cell (p:=⟨g,h,none⟩) a3.o).trans hH.2⟩ (λhH=>?_);clear J;try simp only[aC]
   have O2:=aA (OD.o.keep W);have G2:=aA (GX.o.trans (lH W (some g)));have HV:=aA hv;clear W hv CL OD GX a3;by_cases L:e1<0
   .refine aM (v:=.bool true) rfl (by rfl) hH (λw' b7=>?_) ?_
    ·(go_simp;try with_reducible rfl)
    try simp only[aC]
    refine cH rfl (λKf J=>?_);go_simp
    refine J.out _ _ ?_;clear J;try simp only[aC]
    refine cE ?_;clear hH;have FN:=aA (FA.o.yes HO.o GD.o S1.o S2.o hb LH.o.2.2.2.2.1 Q.o.1 Q.o.2 (by rw[<-DD.o.1];simpa using HV.o.1 L));have HJ:=aA (show h<=i+(gk-1)/\gk-1<gk by have:=b3.o;have:=Q.o;omega);clear L HV;go_wp2
    go_roundg (gk-1)
    case measure=>exact HJ.o.2
    exact⟨i,h,rfl,rfl,aA HJ.o.1,FN,O2,G2⟩
   refine aM (v:=.bool false) rfl (by rfl) hH (λw' b7=>?_) ?_
   ·(go_simp;try with_reducible rfl)
   try simp only[aC]
   refine cH rfl (λKf J=>?_);go_simp
   refine J.out _ _ ?_;clear J;try simp only[aC]
   refine cE ?_;clear hH;have FN:=aA (FA.o.no HO.o GD.o S1.o S2.o hb LH.o.2.2.2.2.1 Q.o.1 Q.o.2 (by rw[<-DD.o.1];simpa using λq=>L (HV.o.2 q)));have HJ:=aA (show j<=(h+1)+(gk-1)/\gk-1<gk by have:=b3.o;have:=Q.o;omega);have e9:IntKind.i64.wrap ((h:Int)+1)=(h:Int)+1:=by simp[IntKind.wrap,IntKind.bits,IntKind.signed];omega
   clear L HV;go_wp2
   go_roundg (gk-1)
   case measure=>exact HJ.o.2
   exact⟨h+1,j,by go_num,rfl,aA HJ.o.1,FN,O2,G2⟩
  obtain rfl:i=j:=by omega
  have b4:¬(i:Int)<(i:Int):=by omega
  obtain⟨t,a4⟩:∃t:Nat,i+t=N:=⟨N-i,by have:=NU.o;have:=LH.o;omega⟩;have e2:IntKind.i64.wrap ((N:Int)-(i:Int))=(t:Int):=by rw[show(N:Int)-(i:Int)=(t:Int) by omega];simp[IntKind.wrap,IntKind.bits,IntKind.signed];have:=NU.o;omega
  have H:=aA (show a<=i/\i<=m/\m<=t/\t<=b/\i<=r/\r<=t/\a<r/\r<b by
   have:=LH.o;have:=this.2.2.2.2.2 i t l1 l3 a4;have:=NU.o;omega)
  have E:=aA (show(jI R (fZ f i m t) a i/\jI R (fZ f i m t) i r)/\(jI R (fZ f i m t) r t/\jI R (fZ f i m t) t b)/\∀x y,a<=x->x<r->r<=y->y<b->R (fZ f i m t x) (fZ f i m t y) by
   have l:=LH.o.2.2.2.2.2 i t l1 l3 a4;have nu:=NU.o;exact FA.o.done HO.o GD.o S1.o S2.o hb LH.o.2.2.2.2.1 (by omega) (by omega) ⟨H.o.1,H.o.2.1,H.o.2.2.1,H.o.2.2.2.1⟩ l.2.2.1 l.2.2.2)
  have GQ:=aA (show f7 S (fZ f i m t) n/\fS (fZ f i m t) f a b from⟨GD.o.rot H.o.2.1 H.o.2.2.1 (by have:=H.o;omega),(fS.rot f H.o.2.1 H.o.2.2.1).wide H.o.1 H.o.2.2.2.1⟩);clear a4 l1 l2 l3 d4;go_upto_region 39 with fail
  clear e2;go_cut [185]from 185 to 185 (λs O=>∃M:Bool,s=.bool M/\O=wr/\Hid (Qe M (i<m/\m<t)))
  case first =>
   by_cases C:i<m
   .have X:(i:Int)<(m:Int):=by omega
    by_cases A:m<t
    .have Y:(m:Int)<(t:Int):=by omega
     have z:=aA (show Qe true (i<m/\m<t)from⟨λ_=>⟨C,A⟩,λ_=>rfl⟩);clear C A;go_wp2
     go_meet
     exact⟨true,rfl,rfl,z⟩
    have Y:¬(m:Int)<(t:Int):=by omega
    have z:=aA (show Qe false (i<m/\m<t)from⟨λh=>(by cases h),λh=>absurd h.2 A⟩);clear C A;go_wp2
    go_meet
    exact⟨false,rfl,rfl,z⟩
   have X:¬(i:Int)<(m:Int):=by omega
   have z:=aA (show Qe false (i<m/\m<t)from⟨λh=>(by cases h),λh=>absurd h.1 C⟩);clear C;go_wp2
   go_meet
   exact⟨false,rfl,rfl,z⟩
  case rest =>
  obtain⟨M,rfl,rfl,z⟩:=hcut;obtain⟨wr,Z⟩:∃x:World,x=wc:=⟨_,rfl⟩;subst Z;go_upto_if 185 with fail
  go_cut []from 185 to 185 (λO=>Hid (nJ O B B2 g n cap (fZ f i m t))/\Hid (w.grownBy O (some g)))
  case first =>
   cases M
   .have EQ:=aA (show fZ f i m t=f by
     have C:=H.o;have A:=z.o;rcases Nat.lt_or_ge i m with h|h
     .have:¬m<t:=λP=>Bool.noConfusion (A.2 ⟨h,P⟩)
      rw[show t=m by omega,Du]
     rw[show i=m by omega,Ih])
    go_wp2
    go_meet
    exact⟨aA (by rw[EQ.o];exact K.o),I⟩
   have CR:=aA (EW K.o i m t (z.o.1 rfl).1 (z.o.1 rfl).2 (by have:=H.o;omega) hn (.func (.func F) #[] cv));go_wp2_with fail
   refine CR.o.mono ?_;rintro e w1 ⟨⟨y,rfl⟩,o1,g1⟩;have O1:=aA o1;have G1:=aA (I.o.trans g1);clear o1 g1 K I CR;go_wp2
   go_meet
   exact⟨O1,G1⟩
  case rest =>
  clear z K I;obtain⟨K,I⟩:=hcut;obtain⟨wd,b5⟩:∃x:World,x=wc:=⟨_,rfl⟩;subst b5;go_upto_region 41 with fail
  go_cut [199]from 199 to 199 (λs O=>∃M:Bool,s=.bool M/\O=wd/\Hid (Qe M (a<i/\i<r)))
  case first =>
   by_cases C:a<i
   .have X:(a:Int)<(i:Int):=by omega
    by_cases A:i<r
    .have Y:(i:Int)<(r:Int):=by omega
     have z:=aA (show Qe true (a<i/\i<r)from⟨λ_=>⟨C,A⟩,λ_=>rfl⟩);clear C A;go_wp2
     go_meet
     exact⟨true,rfl,rfl,z⟩
    have Y:¬(i:Int)<(r:Int):=by omega
    have z:=aA (show Qe false (a<i/\i<r)from⟨λh=>(by cases h),λh=>absurd h.2 A⟩);clear C A;go_wp2
    go_meet
    exact⟨false,rfl,rfl,z⟩
   have X:¬(a:Int)<(i:Int):=by omega
   have z:=aA (show Qe false (a<i/\i<r)from⟨λh=>(by cases h),λh=>absurd h.1 C⟩);clear C;go_wp2
   go_meet
   exact⟨false,rfl,rfl,z⟩
  case rest =>
  obtain⟨M,rfl,rfl,z⟩:=hcut;obtain⟨wd,Z⟩:∃x:World,x=wc:=⟨_,rfl⟩;subst Z;go_upto_if 199 with fail
  go_cut []from 199 to 199 (λO=>∃q:Nat->LIn,Hid (nJ O B B2 g n cap q)/\Hid (f7 S q n/\jI R q a r/\fS q (fZ f i m t) a r)/\Hid (w.grownBy O (some g)))
  case first =>
   cases M
   .have EQ:=aA (show jI R (fZ f i m t) a r by
     have C:=H.o;have A:=z.o;rcases Nat.lt_or_ge a i with h|h
     .have:¬i<r:=λP=>Bool.noConfusion (A.2 ⟨h,P⟩)
      rw[show r=i by omega];exact E.o.1.1
     have P:=E.o.1.2;rwa[show i=a by omega]at P ⊢)
    go_wp2
    go_meet
    exact⟨_,K,aA ⟨GQ.o.1,EQ.o,fS.refl _ _ _⟩,I⟩
   have CR:=aA (a5.o wd (fZ f i m t) a i r (by have:=H.o;omega) (z.o.1 rfl).1 (z.o.1 rfl).2 (by have:=H.o;omega) K.o GQ.o.1 (HF.o.later I.o) E.o.1.1 E.o.1.2);go_wp2_with fail
   refine CR.o.mono ?_;rintro e w1 ⟨⟨y,rfl⟩,⟨q,o1,o2⟩,g1⟩;have O1:=aA o1;have O2:=aA o2;have G1:=aA (I.o.trans g1);clear o1 o2 g1 K I CR;go_wp2
   go_meet
   exact⟨q,O1,O2,G1⟩
  case rest =>
  clear z K I;obtain⟨q,K,Q2,I⟩:=hcut;obtain⟨we,b9⟩:∃x:World,x=wc:=⟨_,rfl⟩;subst b9;have E1:=aA (show jI R q r t/\jI R q t b from⟨E.o.2.1.1.same (λk C A=>Q2.o.2.2.o k (by omega)),E.o.2.1.2.same (λk C A=>Q2.o.2.2.o k (by have:=H.o;omega))⟩);have a1:Hid (∀q3:Nat->LIn,jI R q3 r b->fS q3 q r b->jI R q3 a b/\fS q3 f a b):=aA (λq3 C A=>by
   have nm:=H.o;refine⟨jI.join (Q2.o.2.1.same (λk k1 k2=>A.o k (by omega))) C (fS.before Q2.o.2.2 A E.o.2.2),(A.wide (by omega) (aB _)).trans ((Q2.o.2.2.wide (aB _) (by omega)).trans GQ.o.2)⟩)
  go_upto_region 43 with fail
  go_cut [213]from 213 to 213 (λs O=>∃M:Bool,s=.bool M/\O=we/\Hid (Qe M (r<t/\t<b)))
  case first =>
   by_cases C:r<t
   .have X:(r:Int)<(t:Int):=by omega
    by_cases A:t<b
    .have Y:(t:Int)<(b:Int):=by omega
     have z:=aA (show Qe true (r<t/\t<b)from⟨λ_=>⟨C,A⟩,λ_=>rfl⟩);clear C A;go_wp2
     go_meet
     exact⟨true,rfl,rfl,z⟩
    have Y:¬(t:Int)<(b:Int):=by omega
    have z:=aA (show Qe false (r<t/\t<b)from⟨λh=>(by cases h),λh=>absurd h.2 A⟩);clear C A;go_wp2
    go_meet
    exact⟨false,rfl,rfl,z⟩
   have X:¬(r:Int)<(t:Int):=by omega
   have z:=aA (show Qe false (r<t/\t<b)from⟨λh=>(by cases h),λh=>absurd h.1 C⟩);clear C;go_wp2
   go_meet
   exact⟨false,rfl,rfl,z⟩
  case rest =>
  obtain⟨M,rfl,rfl,z⟩:=hcut;obtain⟨we,Z⟩:∃x:World,x=wc:=⟨_,rfl⟩;subst Z;cases M
  .have EQ:=aA (show jI R q r b by
    have C:=H.o;have A:=z.o;rcases Nat.lt_or_ge r t with h|h
    .have:¬t<b:=λP=>Bool.noConfusion (A.2 ⟨h,P⟩)
     have P:=E1.o.1;rwa[show t=b by omega]at P
    have P:=E1.o.2;rwa[show t=r by omega]at P)
   have EE:=aA (a1.o q EQ.o (fS.refl _ _ _));go_wp2
   exact eR (v:=.tuple #[]) (by simp[results,Tryz.results178,go_sem]) rfl ⟨⟨_,rfl⟩,⟨q,K.o,Q2.o.1,EE.o.1,EE.o.2⟩,I.o⟩
  have CR:=aA (a5.o we q r t b (by have:=H.o;omega) (z.o.1 rfl).1 (z.o.1 rfl).2 hb K.o Q2.o.1 (HF.o.later I.o) E1.o.1 E1.o.2);go_wp2_with fail
  refine CR.o.mono ?_;rintro e w1 ⟨⟨y,rfl⟩,⟨q3,o1,o2,o3,o4⟩,g1⟩;have O1:=aA o1;have O2:=aA o2;have EE:=aA (a1.o q3 o3 o4);have G1:=aA (I.o.trans g1);clear o1 o2 o3 o4 g1 K I CR;go_wp2
  exact eR (v:=.tuple #[]) (by simp[results,Tryz.results178,go_sem]) rfl ⟨⟨_,rfl⟩,⟨q3,O1.o,O2.o,EE.o.1,EE.o.2⟩,G1.o⟩
def tK {B B2 g n cap:Nat}{F:FuncId}{cv:Array Value}{R:LIn->LIn->Prop}{S:LIn->Prop}(c:n<=1000)(o:EG R S):∀(d:Nat) (w:World) (q:Nat->LIn) (a m b:Nat),b-a<=d->a<m->m<b->b<=n->nJ w B B2 g n cap q->f7 S q n->qV F cv w g R S->jI R q a m->jI R q m b->Calls Tryz.prog 178 #[.slice g n cap,a,m,b,.func (.func F) #[] cv] w λe w'=>(∃y,e=.returned y)/\(∃f,nJ w' B B2 g n cap f/\f7 S f n/\jI R f a b/\fS f q a b)/\w.grownBy w' (some g)
 | 0,w,q,a,m,b,h,k,j,_,_,_,_,_,_=>by omega
 | d+1,w,q,a,m,b,h,k,j,i,own,G,hF,s1,s2=>by
  by_cases l:m=a+1
  .exact OH own a m b l j i c o G hF s1 s2
  by_cases p:b=m+1
  .exact OP own a m b p (by omega) i c o G hF s1 s2
  exact OQ own a m b (by omega) (by omega) i c o G hF s1 s2 (λw0 q r s t k1 u v x z A C D E=>tK c o d w0 q r s t (by omega) u v x z A C D E)
