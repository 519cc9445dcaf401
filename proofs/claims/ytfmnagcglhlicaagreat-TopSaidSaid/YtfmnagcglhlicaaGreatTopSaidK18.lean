/- Texts melted into one: The contract of tracks.Of. Conditions: the log reads as lists. | The contracts of tracks.Onto and of the reference's VOnto. Conditions: the log and the labels read as lists. | The tests of the reference's VOf on one track, and `some` on the log. Conditions: the tracks read as  -/
import Derived.Test.YtfmnagcglhlicaaGreatTopSaidK17
set_option maxRecDepth 100000
namespace Go.Proofs.YtfmnagcglhlicaaGreat
open Go.RowKit Go.Maps
def ZtM (log:List (List Int))(w:World)(e:Ending)(w':World):Prop :=
 ∃(p:Zas) (er:Int) (A1 A2 A3 A4:Option Addr) (n1 c1 n2 c2 n3 c3 n4 c4:Nat),OfP log p er∧e=.returned (.tuple #[.agg #[.slice A1 n1 c1,.slice A2 n2 c2,.slice A3 n3 c3,.slice A4 n4 c4],.int .i64 er]) ∧
  Zam w' A1 n1 c1 p.labels∧Zam w' A2 n2 c2 p.first∧Zam w' A3 n3 c3 p.last∧Zii w' A4 n4 c4 p.behind∧Below w.heap.size w w'
theorem OfP.no {log:List (List Int)}{e:Int}(h:Za6 log=e)(hne:e≠0):OfP log Zmw e:=⟨h.symm,by rw[if_neg (by rw[h];exact hne)]⟩
structure ZdC (w:World)(B:Nat)(S1 S2 S3:List Int)(S4:List (Int×Int)):Prop where
 s1:ZqJ w B S1
 s2:ZqJ w (B+1) S2
 s3:ZqJ w (B+1+1) S3
 s4:Zs8 w (B+1+1+1) S4
theorem ZdC.drop1 {w w':World}{B:Nat}{S1 T1 S2 S3:List Int}{S4:List (Int×Int)}(h:ZdC w B S1 S2 S3 S4)(g:ZqJ w' B T1)(hg:w.grownBy w' (some B)):ZdC w' B T1 S2 S3 S4 :=
 ⟨g,h.s2.beside hg (by simp;try omega),h.s3.beside hg (by simp;try omega),h.s4.beside hg (by simp;try omega)⟩
theorem ZdC.drop2 {w w':World}{B:Nat}{S1 T2 S2 S3:List Int}{S4:List (Int×Int)}(h:ZdC w B S1 S2 S3 S4)(g:ZqJ w' (B+1) T2)(hg:w.grownBy w' (some (B+1))):ZdC w' B S1 T2 S3 S4 :=
 ⟨h.s1.beside hg (by simp;try omega),g,h.s3.beside hg (by simp;try omega),h.s4.beside hg (by simp;try omega)⟩
theorem ZdC.drop3 {w w':World}{B:Nat}{S1 T3 S2 S3:List Int}{S4:List (Int×Int)}(h:ZdC w B S1 S2 S3 S4)(g:ZqJ w' (B+1+1) T3)(hg:w.grownBy w' (some (B+1+1))):ZdC w' B S1 S2 T3 S4 :=
 ⟨h.s1.beside hg (by simp;try omega),h.s2.beside hg (by simp;try omega),g,h.s4.beside hg (by simp;try omega)⟩
theorem ZdC.drop4 {w w':World}{B:Nat}{S1 S2 S3:List Int}{S4 T4:List (Int×Int)}(h:ZdC w B S1 S2 S3 S4)(g:Zs8 w' (B+1+1+1) T4)(hg:w.grownBy w' (some (B+1+1+1))):ZdC w' B S1 S2 S3 T4 :=
 ⟨h.s1.beside hg (by simp;try omega),h.s2.beside hg (by simp;try omega),h.s3.beside hg (by simp;try omega),g⟩
theorem ZdC.keep {w w':World}{B:Nat}{S1 S2 S3:List Int}{S4:List (Int×Int)}(h:ZdC w B S1 S2 S3 S4)(hb:Below w.heap.size w w'):ZdC w' B S1 S2 S3 S4 :=
 ⟨h.s1.keep hb,h.s2.keep hb,h.s3.keep hb,h.s4.keep hb⟩
theorem ZdC.made {w:World}{B:Nat}(hB:w.heap.size=B):ZdC ((((w.alloc (.map #[] 0)).alloc (.map #[] 0)).alloc (.map #[] 0)).alloc (.map #[] 0)) B [] [] [] []:=by
 subst hB
 refine⟨(((Zgu.made _ _ _ w).alloc _).alloc _).alloc _, ?_, ?_, ?_⟩
 ·have:=Zgu.made 3 okI kkI (w.alloc (.map #[] 0))
  rw[World.size_alloc]at this
  exact(this.alloc _).alloc _
 ·have:=Zgu.made 3 okI kkI ((w.alloc (.map #[] 0)).alloc (.map #[] 0))
  rw[World.size_alloc,World.size_alloc]at this
  exact this.alloc _
 ·have:=Zgu.made 240 okP kkP (((w.alloc (.map #[] 0)).alloc (.map #[] 0)).alloc (.map #[] 0))
  rw[World.size_alloc,World.size_alloc,World.size_alloc]at this
  exact this
def lay4 (w:World)(b:Nat)(v0 v1 v2 v3:Value):World:=(((w.setCell ⟨b,0,none⟩ v0).setCell ⟨b,1,none⟩ v1).setCell ⟨b,2,none⟩ v2).setCell ⟨b,3,none⟩ v3
theorem Box.laid {w:World}{b ty:Nat}{u0 u1 u2 u3:Value}(h:Box w b ty #[u0,u1,u2,u3])(v0 v1 v2 v3:Value):Box (lay4 w b v0 v1 v2 v3) b ty #[v0,v1,v2,v3]:=by
 have:=(((h.set 0 v0).set 1 v1).set 2 v2).set 3 v3
 unfold lay4
 simpa using this
theorem Zan.lay4 (w:World)(b:Nat)(v0 v1 v2 v3:Value):Zan b w (lay4 w b v0 v1 v2 v3):=(((Zan.set _ _ _ _).trans (Zan.set _ _ _ _)).trans (Zan.set _ _ _ _)).trans (Zan.set _ _ _ _)
theorem ZiF {B:Nat}{w0 w:World}(h:Below B w0 w){b:Nat}(hb:B≤b)(v0 v1 v2 v3:Value):Below B w0 (lay4 w b v0 v1 v2 v3) :=
 (((h.setCell (p:=⟨b,0,none⟩) hb _).setCell (p:=⟨b,1,none⟩) hb _).setCell (p:=⟨b,2,none⟩) hb _).setCell (p:=⟨b,3,none⟩) hb _
theorem Ztb {v0 v1 v2 v3:Value}(h0:∀x,v0≠.int .i64 x)(h1:∀x,v1≠.int .i64 x)(h2:∀x,v2≠.int .i64 x)(h3:∀x,v3≠.int .i64 x):∀(j:Nat) (x:Int),(#[v0,v1,v2,v3])[j]?≠some (.int .i64 x)
 | 0,x=>by simpa using h0 x
 | 1,x=>by simpa using h1 x
 | 2,x=>by simpa using h2 x
 | 3,x=>by simpa using h3 x
 | _+4,_=>by simp
theorem Zii.beside {w w':World}{b ty:Nat}{cs:Array Value}{A:Option Addr}{n c:Nat}{xs:List (Int×Int)}(h:Zii w A n c xs)(hb:Box w b ty cs)(hcs:∀(j:Nat) (x:Int),cs[j]?≠some (.int .i64 x))(hw:Zan b w w'):Zii w' A n c xs :=
 ⟨h.len,h.le,h.cap,h.small,h.nul,fun hn=>by
  obtain⟨b',off,e,hlt,hc⟩:=h.cells hn
  refine⟨b',off,e,by rw[hw.1];exact hlt,fun i x hx=>?_⟩
  obtain⟨vs,h1,h2⟩:=hc i x hx
  refine⟨vs,fun j hj=>?_,h2⟩
  have:=h1 j hj
  by_cases hbb:b'=b
  ·subst hbb
   exfalso
   have h0:=h1 0 (by omega)
   rw[hb.cell,h2.1]at h0
   exact hcs _ _ h0
  ·rw[hw.cell (by simpa using hbb)];exact this⟩
theorem ZdD {w0 w w':World}{B b:Nat}(h:Below B w0 w)(hb:B≤b)(hs:B≤w.heap.size)(hg:w.grownBy w' (some b)):Below B w0 w':=h.grown hg hs (fun k e=>by cases e;exact hb)
set_option maxHeartbeats 8000000 in
theorem Zhz {w:World}{A:Option Addr}{n c:Nat}{log:List (List Int)}(h:ZaS w A n c log) :
  Calls Tryz.prog 166 #[.slice A n c] w (ZtM log w):=by
 have hns:=h.small
 have X0:=Zaa (Box.new w #[.slice none 0 0,.slice none 0 0,.slice none 0 0,.slice none 0 0] 220)
 have B0:=Zaa (Zab w (.cells #[.slice none 0 0,.slice none 0 0,.slice none 0 0,.slice none 0 0] 220))
 have HL:=Zaa h.len
 have H:=Zaa h
 clear h
 have hmm:=@run_makeMap Tryz.prog
 obtain⟨z,hz⟩:∃z,Za6 log=z:=⟨_,rfl⟩
 have HZ:=Zaa hz
 clear hz
 go_enter Tryz.func166,Tryz.ntmps166
 go_upto_region 1 with fail
 generalize w.alloc (.cells #[.slice none 0 0,.slice none 0 0,.slice none 0 0,.slice none 0 0] 220)=w0 at *
 go_wp2_with fail
 refine(ZdA (Sl.keep ZaL.kept H.out B0.out)).mono ?_
 rw[HZ.out]
 rintro e w1 ⟨rfl,rfl⟩
 by_cases h0:z=0
 ·subst h0
  obtain⟨hl60,hall⟩:=Zhp HZ.out
  have hn60:n≤60:=by rw[←HL.out];exact hl60
  have HALL:=Zaa hall
  clear hall hl60
  have FS:=Zaa (ZdC.made (w:=w0) rfl)
  have BM:=Zaa (((((Below.refl w0.heap.size w0).alloc (Nat.le_refl _) (.map #[] 0)).alloc (by simp) (.map #[] 0)).alloc (by simp;omega) (.map #[] 0)).alloc (by simp;omega) (.map #[] 0))
  go_wp2
  have NB:=Zaa X0.out.lt
  go_loopw [25] (fun v wr=>∃(k:Nat) (S1 S2 S3:List Int) (S4:List (Int×Int)),k≤n∧v=.int .i64 k∧Hid (TrP log k [] 0 S1 S2 S3 S4)∧Hid (ZdC wr w0.heap.size S1 S2 S3 S4)∧Hid (Below w0.heap.size w0 wr)) (fun v _=>n-(intOf v).toNat)
  case atStart=>exact⟨0,[],[],[],[],Nat.zero_le _,rfl,TrP.start log,FS,BM⟩
  case round =>
   clear FS BM
   obtain⟨k,S1,S2,S3,S4,hk,rfl,TP,FS,D⟩:=hrel
   by_cases hlt:k<n
   ·have hki:(k:Int)<(n:Int):=by omega
    obtain⟨b,off,x,A1,n1,c1,rfl,hb,hx,q0',i1,hn1⟩:=ZaS.get H.out hlt
    have q0:=((B0.out.trans (D.out.mono B0.out.size)).cell (p:=⟨b,_,none⟩) hb).trans q0'
    clear q0'
    have IX:=Zaa i1
    have LX:=Zaa i1.len
    have HX:=Zaa hx.out
    have OKX:=Zaa (HALL.out x (List.mem_of_getElem? hx.out))
    have h160:n1≤60:=by rw[←LX.out];exact OKX.out.1
    have TE:=Zaa (TP.out.enter x)
    clear i1 hx TP
    go_wp2
    obtain⟨wo,hwo⟩:∃wo:World,wo=wr:=⟨_,rfl⟩
    subst hwo
    go_loopw [31] (fun v wq=>∃(j:Nat) (S1 S2 S3:List Int) (S4:List (Int×Int)),j≤n1∧v=.int .i64 j∧Hid (TrP log k x j S1 S2 S3 S4)∧Hid (ZdC wq w0.heap.size S1 S2 S3 S4)∧Hid (Below w0.heap.size w0 wq)) (fun v _=>n1-(intOf v).toNat)
    case atStart=>exact⟨0,S1,S2,S3,S4,Nat.zero_le _,rfl,TE,FS,D⟩
    case round =>
     have DO:=Zaa D.out
     clear FS TE D S1 S2 S3 S4
     obtain⟨j,S1,S2,S3,S4,hj,rfl,TP,FS,D⟩:=hrel
     by_cases hjn:j<n1
     ·have hji:(j:Int)<(n1:Int):=by omega
      obtain⟨l1,hl1⟩:∃l1,n1=l1+1:=⟨n1-1,by omega⟩
      have hsl:IntKind.i64.wrap ((n1:Int)-1)=(l1:Int):=by simp[IntKind.wrap,IntKind.bits,IntKind.signed];omega
      obtain⟨b2,off2,y,rfl,hb2,hy,qy⟩:=(IX.out.keep (B0.out.trans (D.out.mono B0.out.size))).get hjn
      have HY:=Zaa hy.out
      have HA:=Zaa (show okI y from OKX.out.2 y (List.mem_of_getElem? hy.out))
      have LL:=Zaa hl1
      clear hy hl1
      go_wp2_with fail
      refine(ZeG FS.out.s1 (by have:=TP.out.l1;omega) HA.out).mono ?_
      rintro e u1 ⟨⟨v1,rfl⟩,t1,g1⟩
      have F1:=Zaa (FS.out.drop1 t1 g1)
      have D1:=Zaa (ZdD D.out (Nat.le_refl _) D.out.size g1)
      clear t1 g1 qy
      by_cases hj0:j=0
      ·have hj0i:(j:Int)=0:=by omega
       go_wp2_with fail
       refine(ZeG F1.out.s2 (by have:=TP.out.l2;omega) HA.out).mono ?_
       rintro e u2 ⟨⟨v2,rfl⟩,t2,g2⟩
       have F3:=Zaa (F1.out.drop2 t2 g2)
       have D3:=Zaa (ZdD D1.out (show w0.heap.size≤w0.heap.size+1 by omega) D1.out.size g2)
       clear t2 g2
       by_cases hj1:j=l1
       ·have hj1b:(j:Int)=(l1:Int):=by omega
        go_wp2_with fail
        refine(ZeG F3.out.s3 (by have:=TP.out.l3;omega) HA.out).mono ?_
        rintro e u3 ⟨⟨v3,rfl⟩,t3,g3⟩
        have F4:=Zaa (F3.out.drop3 t3 g3)
        have D4:=Zaa (ZdD D3.out (show w0.heap.size≤w0.heap.size+1+1 by omega) D3.out.size g3)
        have TN:=Zaa (TP.out.step HY.out (T2:=y::S2) (T3:=y::S3) (T4:=S4) (by rw[if_pos hj0]) (by rw[if_pos (by have:=LX.out;have:=LL.out;omega)]) (.inl ⟨hj0,rfl⟩))
        clear t3 g3
        go_wp2
        go_roundw
        case rel=>exact⟨j+1,_,_,_,_,by omega,by go_num,TN,F4,D4⟩
        case measure=>simp[intOf];omega
       ·have hj1b:((j:Int)==(l1:Int))=false:=by simp;omega
        have TN:=Zaa (TP.out.step HY.out (T2:=y::S2) (T3:=S3) (T4:=S4) (by rw[if_pos hj0]) (by rw[if_neg (by have:=LX.out;have:=LL.out;omega)]) (.inl ⟨hj0,rfl⟩))
        go_wp2
        go_roundw
        case rel=>exact⟨j+1,_,_,_,_,by omega,by go_num,TN,F3,D3⟩
        case measure=>simp[intOf];omega
      ·have hj0b:((j:Int)==0)=false:=by simp;omega
       obtain⟨i,hji2⟩:∃i,j=i+1:=⟨j-1,by omega⟩
       have hin:i<n1:=by omega
       have hini:(i:Int)<(n1:Int):=by omega
       have hi0:(0:Int)≤(i:Int):=by omega
       have hsi:IntKind.i64.wrap ((j:Int)-1)=(i:Int):=by simp[IntKind.wrap,IntKind.bits,IntKind.signed];omega
       have hji2:=Zaa hji2
       obtain⟨b3,off3,z,e3,hb3,hz3,qz⟩:=(IX.out.keep (B0.out.trans (D1.out.mono B0.out.size))).get hin
       injection e3 with e3
       injection e3 with e3 e4
       subst e3 e4
       have HZ2:=Zaa hz3.out
       have HB:=Zaa (show okI z from OKX.out.2 z (List.mem_of_getElem? hz3.out))
       clear hz3
       go_wp2_with fail
       refine(Znk (p:=(z,y)) F1.out.s4 (by have:=TP.out.l4;omega) ⟨HB.out,HA.out⟩).mono ?_
       rintro e u2 ⟨⟨v2,rfl⟩,t2,g2⟩
       have F3:=Zaa (F1.out.drop4 t2 g2)
       have D3:=Zaa (ZdD D1.out (show w0.heap.size≤w0.heap.size+1+1+1 by omega) D1.out.size g2)
       clear t2 g2 qz
       by_cases hj1:j=l1
       ·have hj1b:(j:Int)=(l1:Int):=by omega
        go_wp2_with fail
        refine(ZeG F3.out.s3 (by have:=TP.out.l3;omega) HA.out).mono ?_
        rintro e u3 ⟨⟨v3,rfl⟩,t3,g3⟩
        have F4:=Zaa (F3.out.drop3 t3 g3)
        have D4:=Zaa (ZdD D3.out (show w0.heap.size≤w0.heap.size+1+1 by omega) D3.out.size g3)
        have TN:=Zaa (TP.out.step HY.out (T2:=S2) (T3:=y::S3) (T4:=(z,y)::S4) (by rw[if_neg hj0]) (by rw[if_pos (by have:=LX.out;have:=LL.out;omega)]) (.inr ⟨z,i,hji2.out,HZ2.out,rfl⟩))
        clear t3 g3
        go_wp2
        go_roundw
        case rel=>exact⟨j+1,_,_,_,_,by omega,by go_num,TN,F4,D4⟩
        case measure=>simp[intOf];omega
       ·have hj1b:((j:Int)==(l1:Int))=false:=by simp;omega
        have TN:=Zaa (TP.out.step HY.out (T2:=S2) (T3:=S3) (T4:=(z,y)::S4) (by rw[if_neg hj0]) (by rw[if_neg (by have:=LX.out;have:=LL.out;omega)]) (.inr ⟨z,i,hji2.out,HZ2.out,rfl⟩))
        go_wp2
        go_roundw
        case rel=>exact⟨j+1,_,_,_,_,by omega,by go_num,TN,F3,D3⟩
        case measure=>simp[intOf];omega
     ·obtain rfl:j=n1:=by omega
      have TL:=Zaa (show TrP log (k+1) [] 0 S1 S2 S3 S4 from(by have:=TP.out;rw[←LX.out]at this;exact this.leave HX.out OKX.out.1))
      go_wp2
      go_roundw
      case rel=>exact⟨k+1,S1,S2,S3,S4,by omega,by go_num,TL,FS,D⟩
      case measure=>simp[intOf];omega
   ·obtain rfl:k=n:=by omega
    have TF:=Zaa (show(∀x,x∈S1↔ZsV log x)∧(∀x,x∈S2↔ZiA log x)∧(∀x,x∈S3↔Znj log x)∧∀p,p∈S4↔ZsW log p from(by have:=TP.out;rw[←HL.out]at this;exact this.fin))
    have L1:=Zaa TP.out.l1
    have L2:=Zaa TP.out.l2
    have L3:=Zaa TP.out.l3
    have L4:=Zaa TP.out.l4
    have XR:=Zaa (X0.out.keepB D.out NB.out)
    have BR:=Zaa (B0.out.trans (D.out.mono B0.out.size))
    clear TP
    go_wp2_with fail
    refine(ZdU FS.out.s1 (by have:=L1.out;omega)).mono ?_
    rintro e u1 ⟨v1,m1,x1,rfl,o1,hm1,hx1,b1⟩
    obtain⟨A1,c1,rfl,i1⟩:=o1.sl (by omega)
    have I1:=Zaa i1
    have P1:=Zaa hx1
    have F1:=Zaa (FS.out.keep b1)
    have X1:=Zaa (XR.out.keep b1)
    have E1:=Zaa (BR.out.trans (b1.mono BR.out.size))
    clear o1 i1 hx1 b1
    go_wp2_with fail
    refine(ZdU F1.out.s2 (by have:=L2.out;omega)).mono ?_
    rintro e u2 ⟨v2,m2,x2,rfl,o2,hm2,hx2,b2⟩
    obtain⟨A2,c2,rfl,i2⟩:=o2.sl (by omega)
    have I2:=Zaa i2
    have P2:=Zaa hx2
    have I1:=Zaa (Zam.keep I1.out b2)
    have F2:=Zaa (F1.out.keep b2)
    have X2:=Zaa (X1.out.keep b2)
    have E2:=Zaa (E1.out.trans (b2.mono E1.out.size))
    clear o2 i2 hx2 b2
    go_wp2_with fail
    refine(ZdU F2.out.s3 (by have:=L3.out;omega)).mono ?_
    rintro e u3 ⟨v3,m3,x3,rfl,o3,hm3,hx3,b3⟩
    obtain⟨A3,c3,rfl,i3⟩:=o3.sl (by omega)
    have I3:=Zaa i3
    have P3:=Zaa hx3
    have I1:=Zaa (Zam.keep I1.out b3)
    have I2:=Zaa (Zam.keep I2.out b3)
    have F3:=Zaa (F2.out.keep b3)
    have X3:=Zaa (X2.out.keep b3)
    have E3:=Zaa (E2.out.trans (b3.mono E2.out.size))
    clear o3 i3 hx3 b3
    go_wp2_with fail
    refine(Zje F3.out.s4 (by have:=L4.out;omega)).mono ?_
    rintro e u4 ⟨v4,m4,x4,rfl,o4,hm4,hx4,b4⟩
    obtain⟨A4,c4,rfl,i4⟩:=o4.sl (by omega)
    have I4:=Zaa i4
    have P4:=Zaa hx4
    have I1:=Zaa (Zam.keep I1.out b4)
    have I2:=Zaa (Zam.keep I2.out b4)
    have I3:=Zaa (Zam.keep I3.out b4)
    have X4:=Zaa (X3.out.keep b4)
    have E4:=Zaa (E3.out.trans (b4.mono E3.out.size))
    clear o4 i4 hx4 b4
    have y0:=X4.out.cell 0
    have y1:=X4.out.cell 1
    have y2:=X4.out.cell 2
    have y3:=X4.out.cell 3
    have f0:=X4.out.frozen 0
    have f1:=X4.out.frozen 1
    have f2:=X4.out.frozen 2
    have f3:=X4.out.frozen 3
    simp only[List.getElem?_toArray,List.getElem?_cons_zero,List.getElem?_cons_succ]at y0 y1 y2 y3
    have XE:=Zaa (X4.out.laid (.slice A1 m1 c1) (.slice A2 m2 c2) (.slice A3 m3 c3) (.slice A4 m4 c4))
    have BE:=Zaa (Zan.lay4 u4 w.heap.size (.slice A1 m1 c1) (.slice A2 m2 c2) (.slice A3 m3 c3) (.slice A4 m4 c4))
    have EE:=Zaa (ZiF E4.out (Nat.le_refl _) (.slice A1 m1 c1) (.slice A2 m2 c2) (.slice A3 m3 c3) (.slice A4 m4 c4))
    have NI:=Zaa (Ztb (v0:=.slice none 0 0) (v1:=.slice none 0 0) (v2:=.slice none 0 0) (v3:=.slice none 0 0) (fun x e=>(by cases e)) (fun x e=>(by cases e)) (fun x e=>(by cases e)) (fun x e=>(by cases e)))
    have OF:=Zaa (show OfP log ⟨x1,x2,x3,x4⟩ 0 from⟨HZ.out.symm,by
     rw[if_pos HZ.out]
     exact⟨⟨P1.out.1,fun x=>(P1.out.2 x).trans (TF.out.1 x)⟩,⟨P2.out.1,fun x=>(P2.out.2 x).trans (TF.out.2.1 x)⟩,⟨P3.out.1,fun x=>(P3.out.2 x).trans (TF.out.2.2.1 x)⟩,⟨P4.out.1,fun x=>(P4.out.2 x).trans (TF.out.2.2.2 x)⟩⟩⟩)
    go_wp2
    clear y0 y1 y2 y3 f0 f1 f2 f3
    have e0:=XE.out.cell 0
    have e1:=XE.out.cell 1
    have e2:=XE.out.cell 2
    have e3:=XE.out.cell 3
    simp only[List.getElem?_toArray,List.getElem?_cons_zero,List.getElem?_cons_succ,lay4]at e0 e1 e2 e3
    refine bodyPost_ret (v:=.tuple #[.agg #[.slice A1 m1 c1,.slice A2 m2 c2,.slice A3 m3 c3,.slice A4 m4 c4],.int .i64 0]) (by simp[results,Tryz.results166,go_sem,e0,e1,e2,e3]) rfl ?_
    exact⟨⟨x1,x2,x3,x4⟩,0,A1,A2,A3,A4,m1,c1,m2,c2,m3,c3,m4,c4,OF.out,rfl,I1.out.beside X4.out NI.out BE.out,I2.out.beside X4.out NI.out BE.out,I3.out.beside X4.out NI.out BE.out,Zii.beside I4.out X4.out NI.out BE.out,EE.out⟩
 ·have hzb:(z==0)=false:=by simpa using h0
  have x0:=X0.out.cell 0
  have x1:=X0.out.cell 1
  have x2:=X0.out.cell 2
  have x3:=X0.out.cell 3
  have f0:=X0.out.frozen 0
  have f1:=X0.out.frozen 1
  have f2:=X0.out.frozen 2
  have f3:=X0.out.frozen 3
  simp only[List.getElem?_toArray,List.getElem?_cons_zero,List.getElem?_cons_succ]at x0 x1 x2 x3
  have NO:=Zaa (OfP.no HZ.out h0)
  have XE:=Zaa (X0.out.laid (.slice none 0 0) (.slice none 0 0) (.slice none 0 0) (.slice none 0 0))
  have EE:=Zaa (ZiF B0.out (Nat.le_refl _) (.slice none 0 0) (.slice none 0 0) (.slice none 0 0) (.slice none 0 0))
  go_wp2
  clear x0 x1 x2 x3 f0 f1 f2 f3
  have e0:=XE.out.cell 0
  have e1:=XE.out.cell 1
  have e2:=XE.out.cell 2
  have e3:=XE.out.cell 3
  simp only[List.getElem?_toArray,List.getElem?_cons_zero,List.getElem?_cons_succ,lay4]at e0 e1 e2 e3
  refine bodyPost_ret (v:=.tuple #[.agg #[.slice none 0 0,.slice none 0 0,.slice none 0 0,.slice none 0 0],.int .i64 z]) (by simp[results,Tryz.results166,go_sem,e0,e1,e2,e3]) rfl ?_
  exact⟨Zmw,z,none,none,none,none,0,0,0,0,0,0,0,0,NO.out,rfl,Sl.nil0,Sl.nil0,Sl.nil0,Sl.nil0,EE.out⟩
end Go.Proofs.YtfmnagcglhlicaaGreat
namespace Go.Proofs.YtfmnagcglhlicaaGreat
open Go.RowKit
theorem Zmz (log:List (List Int))(labels:List Int):(ZbO log labels).length=log.length:=by simp[ZbO]
set_option maxHeartbeats 4000000 in
theorem Znp {w:World}{A B:Option Addr}{n c m d:Nat}{log:List (List Int)}{labels:List Int}(h:ZaS w A n c log)(g:Zam w B m d labels)(hn:n≤5864062014805) :
  Calls Tryz.prog 207 #[.slice A n c,.slice B m d] w fun e w'=>∃v n',e=.returned v∧Zad (ZaY w.heap.size) 1 w' w.heap.size 28 v n' (ZbO log labels)∧n'≤5864062014805∧Below w.heap.size w w':=by
 have HL:=Zaa h.len
 have H:=Zaa h
 have G:=Zaa g
 clear h g
 go_enter Tryz.func207,Tryz.ntmps207
 go_wp2
 go_loopw [5,13] (fun u5 v wr=>∃(k m5:Nat),k≤n∧v=.int .i64 k∧Hid (Zad (ZaY w.heap.size) 1 wr w.heap.size 28 u5 m5 (ZbO (log.take k) labels))∧Hid (Below w.heap.size w wr)) (fun _ v _=>n-(intOf v).toNat)
 case atStart=>exact⟨0,0,Nat.zero_le _,rfl,Zad.nil,Below.refl _ _⟩
 case round =>
  obtain⟨k,m5,hk,rfl,O5,D⟩:=hrel
  have h5:m5≤n:=by rw[←O5.out.len,Zmz,List.length_take];omega
  by_cases hlt:k<n
  ·have hki:(k:Int)<(n:Int):=by omega
   have h5k:m5<n:=by rw[←O5.out.len,Zmz,List.length_take];omega
   obtain⟨b,off,x,A1,n1,c1,rfl,hb,hx,q0,i1,hn1⟩:=ZaS.get (Sl.keep ZaL.kept H.out D.out) hlt
   have IX:=Zaa i1
   have TK:=Zaa (show ZbO (log.take (k+1)) labels=ZbO (log.take k) labels++[x.filter fun a=>inS labels a] by rw[ZaK hx.out,Zni])
   clear i1 hx
   go_wp2
   obtain⟨wo,hwo⟩:∃wo:World,wo=wr:=⟨_,rfl⟩
   subst hwo
   go_loopw [8,19] (fun u8 v wq=>∃(q m8:Nat),q≤n1∧v=.int .i64 q∧Hid (Zaf wq wo.heap.size u8 m8 ((x.take q).filter fun a=>inS labels a))∧Hid (Below wo.heap.size wo wq)) (fun _ v _=>n1-(intOf v).toNat)
   case atStart=>exact⟨0,0,Nat.zero_le _,rfl,Zad.nil,Below.refl _ _⟩
   case round =>
    obtain⟨q,m8,hq,rfl,O8,E⟩:=hrel
    have h8:m8≤q:=by
     rw[←O8.out.len]
     refine Nat.le_trans (List.length_filter_le _ _) ?_
     rw[List.length_take];omega
    have DE:=Zaa (D.out.trans (E.out.mono D.out.size))
    by_cases hqn:q<n1
    ·have hqi:(q:Int)<(n1:Int):=by omega
     obtain⟨b',off',y,rfl,hb',hy,qy⟩:=(IX.out.keep E.out).get hqn
     have FS:=Zaa (show(x.take (q+1)).filter (fun a=>inS labels a)=if inS labels y=true then(x.take q).filter (fun a=>inS labels a)++[y]else(x.take q).filter (fun a=>inS labels a) by
      rw[ZaK hy.out,List.filter_append]
      cases h:inS labels y <;> simp[h])
     obtain⟨s,hs⟩:∃s,(labels.any fun z=>y==z)=s:=⟨_,rfl⟩
     have HS:=Zaa hs
     have HI:=Zaa (show inS labels y=s from hs)
     clear hs hy
     go_wp2_with fail
     refine(ZbT y (G.out.keep DE.out)).mono ?_
     rw[HS.out]
     rintro e w' ⟨rfl,rfl⟩
     cases s
     ·have F1:=Zaa (show(x.take (q+1)).filter (fun a=>inS labels a)=(x.take q).filter (fun a=>inS labels a) by rw[FS.out,HI.out];rfl)
      go_wp2
      go_roundw
      case rel=>exact⟨q+1,m8,by omega,by go_num,by rw[F1.out];exact O8,E⟩
      case measure=>simp[intOf];omega
     ·have F1:=Zaa (show(x.take (q+1)).filter (fun a=>inS labels a)=(x.take q).filter (fun a=>inS labels a)++[y] by rw[FS.out,HI.out];rfl)
      go_wp2_with (at_builtin;refine Zbw rfl _ _ rfl rfl rfl rfl O8.out E.out E.out.size (by omega) ?_;intro v8 w8 own8 hg8 hb8;have O98:=Zaa own8;have E8:=Zaa hb8;clear own8 hg8 hb8)
      go_roundw
      case rel=>exact⟨q+1,m8+1,by omega,by go_num,by rw[F1.out];exact O98,E8⟩
      case measure=>simp[intOf];omega
    ·obtain rfl:q=n1:=by omega
     have TX:x.take q=x:=List.take_of_length_le (by rw[IX.out.len];exact Nat.le_refl _)
     rw[TX]at O8
     obtain⟨A8,c8,rfl,_⟩:=O8.out.sl (by omega)
     have O52:=Zaa (Zad.keep (ZaY.kept _) O5.out E.out)
     have RX:=Zaa (show ZaY w.heap.size wr (fun _=>.slice A8 m8 c8) (x.filter fun a=>inS labels a)from⟨m8,O8.out.base D.out.size,by omega⟩)
     have KL:=Zaa (Zj0 O52.out)
     go_wp2_with (at_builtin;refine Zbv (v:=u5) Zhe rfl _ _ rfl [x.filter fun a=>inS labels a] #[.slice A8 m8 c8] rfl rfl rfl rfl (by simp[Value.oneCell']) O52.out (Zax.list1 RX.out) rfl DE.out DE.out.size (by omega) (by omega) KL.out ?_;intro v9 w9 own9 hg9 hb9;have O9:=Zaa own9;have E9:=Zaa hb9;clear own9 hg9 hb9)
     go_roundw
     case rel=>exact⟨k+1,m5+1,by omega,by go_num,by rw[TK.out];exact O9,E9⟩
     case measure=>simp[intOf];omega
  ·obtain rfl:k=n:=by omega
   have TA:log.take k=log:=List.take_of_length_le (by rw[HL.out];exact Nat.le_refl _)
   rw[TA]at O5
   go_wp2
   go_ret
   exact⟨_,m5,rfl,O5.out,by omega,D.out⟩
structure Zjf (F:FuncId)(cap:Array Value)(w:World)(p:List Int→Bool):Prop where
 enters:∀args w,(callFunc F args).run Tryz.prog w=.ok (.enter F args) w
 calls:∀(wr:World) (A:Option Addr) (n c:Nat) (y:List Int),Below w.heap.size w wr→Zam wr A n c y →
  Calls Tryz.prog F (#[.slice A n c]++cap) wr fun e w'=>e=.returned (.bool (p y))∧Below wr.heap.size wr w'
theorem Zkf {w:World}{A:Option Addr}{n c:Nat}{ms:List (List Int)}{F:FuncId}{cap:Array Value}{p:List Int→Bool}(h:ZaS w A n c ms)(hp:Zjf F cap w p) :
  Calls Tryz.prog 26 #[.slice A n c,.func (.func F) #[] cap] w fun e w'=>e=.returned (.int .i64 (ZaT p ms))∧Below w.heap.size w w':=by
 have hn:=h.small
 have henter:=hp.enters
 have H:=Zaa h
 have HP:=Zaa hp
 clear h hp
 go_enter Tryz.func26,Tryz.ntmps26
 go_wp2
 go_loopw [8] (fun i wr=>∃k:Nat,k≤n∧i=.int .i64 k∧Hid (∀j,j<k→∀y,ms[j]?=some y→p y=false)∧Hid (Below w.heap.size w wr)) (fun i _=>n-(intOf i).toNat)
 case atStart=>exact⟨0,Nat.zero_le _,rfl,fun j hj=>absurd hj (by omega),Below.refl _ _⟩
 case round =>
  obtain⟨k,hk,rfl,hlow,D⟩:=hrel
  by_cases hlt:k<n
  ·have hki:(k:Int)<(n:Int):=by omega
   obtain⟨b,off,t,vs,rfl,hb,ht,hc,A1,n1,c1,e1,i1,hn1⟩:=Sl.get (Sl.keep ZaL.kept H.out D.out) hlt
   have q0:wr.cell? ⟨b,off+k,none⟩=some (.slice A1 n1 c1):=by have:=hc 0 (by omega);rw[e1]at this;simpa using this
   have CL:=Zaa (HP.out.calls wr A1 n1 c1 t D.out i1)
   have HT:=Zaa ht
   obtain⟨v,hv⟩:∃v,p t=v:=⟨_,rfl⟩
   have HV:=Zaa hv
   rw[hv]at CL
   clear hv hc e1 i1 ht
   cases v
   ·go_wp2_with (refine CL.out.mono ?_;rintro e w' ⟨rfl,hb'⟩;have HB:=Zaa hb';clear hb')
    go_roundw
    case rel =>
     refine⟨k+1,by omega,by go_num,fun j hj y hy=>?_,D.out.trans (HB.out.mono D.out.size)⟩
     by_cases hjk:j=k
     ·subst hjk
      have:=HT.out
      rw[hy]at this
      injection this with this
      rw[this]
      exact HV.out
     ·exact hlow.out j (by omega) y hy
    case measure=>simp[intOf];omega
   ·go_wp2_with (refine CL.out.mono ?_;rintro e w' ⟨rfl,hb'⟩;have HB:=Zaa hb';clear hb')
    go_ret
    exact⟨Zap (ZaW hlow.out HT.out HV.out).symm,D.out.trans (HB.out.mono D.out.size)⟩
  ·go_wp2
   go_ret
   exact⟨Zap (ZaX (fun j hj y hy=>hlow.out j (by have:=H.out.len;omega) y hy)).symm,D.out⟩
theorem Zel {w:World}{A:Option Addr}{n c:Nat}{ms:List (List Int)}{F:FuncId}{cap:Array Value}{p:List Int→Bool}(h:ZaS w A n c ms)(hp:Zjf F cap w p) :
  Calls Tryz.prog 128 #[.slice A n c,.func (.func F) #[] cap] w fun e w'=>e=.returned (.bool (ms.any p))∧Below w.heap.size w w':=by
 have H:=Zaa h
 have HP:=Zaa hp
 clear h hp
 go_enter Tryz.func128,Tryz.ntmps128
 go_wp2_with (refine(Zkf H.out HP.out).mono ?_;rintro e w' ⟨rfl,hb'⟩;have HB:=Zaa hb';clear hb')
 go_ret
 exact⟨Zav (Zb7 _ _),HB.out⟩
def p2 (a:Int)(t:List Int):Bool:=t.any fun y=>a==y
def p3 (a:Int)(t:List Int):Bool:=decide (t.head?=some a)
def p4 (a:Int)(t:List Int):Bool:=decide (t.getLast?=some a)
def p5 (a b:Int)(t:List Int):Bool:=(List.range t.length).any fun j=>decide (t[j]?=some a)&&decide (t[j+1]?=some b)
theorem Zsk {t:List Int}{a b:Int}{j:Nat}(h1:t[j]?=some a)(h2:t[j+1]?=some b):p5 a b t=true:=by
 unfold p5
 rw[List.any_eq_true]
 refine⟨j,List.mem_range.2 (List.getElem?_eq_some_iff.1 h1).1, ?_⟩
 rw[h1,h2]
 simp
theorem ZrR {t:List Int}{a b:Int}:p5 a b t=true↔∃j:Nat,t[j]?=some a∧t[j+1]?=some b:=by
 constructor
 ·intro h
  unfold p5 at h
  rw[List.any_eq_true]at h
  obtain⟨j,_,h⟩:=h
  rw[Bool.and_eq_true,decide_eq_true_eq,decide_eq_true_eq]at h
  exact⟨j,h⟩
 ·rintro⟨j,h1,h2⟩
  exact Zsk h1 h2
end Go.Proofs.YtfmnagcglhlicaaGreat
namespace Go.Proofs.YtfmnagcglhlicaaGreat
def rng (k:Nat):List Int:=(List.range k).map fun i:Nat=>(i:Int)+1
theorem ZmA (k:Nat):rng (k+1)=rng k++[(k:Int)+1]:=by simp[rng,List.range_succ]
theorem Zf3 {k:Nat}{x:Int}:x∈rng k↔1≤x∧x≤k:=by
 unfold rng
 rw[List.mem_map]
 constructor
 ·rintro⟨i,hi,rfl⟩
  have:=List.mem_range.1 hi
  omega
 ·rintro⟨h1,h2⟩
  exact⟨(x-1).toNat,List.mem_range.2 (by omega),by omega⟩
theorem Zlw:∀k:Nat,(rng k).Pairwise (·< ·)
 | 0=>by simp[rng]
 | k+1=>by
  rw[ZmA,List.pairwise_append]
  refine⟨Zlw k,List.pairwise_singleton _ _,fun a ha b hb=>?_⟩
  have:=(Zf3.1 ha).2
  rw[List.mem_singleton]at hb
  omega
def onR (log:List (List Int))(p:Int→List Int→Bool)(k:Nat):List Int:=(rng k).filter fun a=>log.any (p a)
theorem Zlx (log:List (List Int))(p:Int→List Int→Bool)(k:Nat):(onR log p k).Pairwise (·< ·):=List.Pairwise.sublist List.filter_sublist (Zlw k)
theorem Zly {log:List (List Int)}{p:Int→List Int→Bool}{k:Nat}{x:Int}:x∈onR log p k↔(1≤x∧x≤k)∧∃t∈log,p x t=true:=by
 unfold onR
 rw[List.mem_filter,Zf3,List.any_eq_true]
def ZoW (log:List (List Int))(a:Int)(j:Nat):List (Int×Int):=((rng j).filter fun b=>log.any (p5 a b)).map fun b=>(a,b)
theorem Zjg {log:List (List Int)}{a:Int}{j:Nat}{q:Int×Int}:q∈ZoW log a j↔q.1=a∧(1≤q.2∧q.2≤j)∧∃t∈log,p5 a q.2 t=true:=by
 unfold ZoW
 rw[List.mem_map]
 constructor
 ·rintro⟨b,hb,rfl⟩
  rw[List.mem_filter,Zf3,List.any_eq_true]at hb
  exact⟨rfl,hb⟩
 ·rintro⟨h1,h2,h3⟩
  refine⟨q.2, ?_,by rw[←h1]⟩
  rw[List.mem_filter,Zf3,List.any_eq_true]
  exact⟨h2,h3⟩
theorem ZqK (log:List (List Int))(a:Int)(j:Nat):(ZoW log a j).Pairwise Zd5:=by
 unfold ZoW
 rw[List.pairwise_map]
 exact(List.Pairwise.sublist List.filter_sublist (Zlw j)).imp fun h=>.inr ⟨rfl,h⟩
def Zok (log:List (List Int))(k:Nat):List (Int×Int):=(rng k).flatMap fun a=>ZoW log a 26
theorem ZoX (log:List (List Int))(k:Nat):Zok log (k+1)=Zok log k++ZoW log ((k:Int)+1) 26:=by
 unfold Zok
 rw[ZmA,List.flatMap_append]
 simp
theorem ZmB {log:List (List Int)}{k:Nat}{q:Int×Int}:q∈Zok log k↔(1≤q.1∧q.1≤k)∧(1≤q.2∧q.2≤26)∧∃t∈log,p5 q.1 q.2 t=true:=by
 unfold Zok
 rw[List.mem_flatMap]
 constructor
 ·rintro⟨a,ha,h⟩
  obtain⟨e,h2,h3⟩:=Zjg.1 h
  subst e
  exact⟨Zf3.1 ha,h2,h3⟩
 ·rintro⟨h1,h2,h3⟩
  exact⟨q.1,Zf3.2 h1,Zjg.2 ⟨rfl,h2,h3⟩⟩
theorem ZmC (log:List (List Int)):∀k:Nat,(Zok log k).Pairwise Zd5
 | 0=>by simp[Zok,rng]
 | k+1=>by
  rw[ZoX,List.pairwise_append]
  refine⟨ZmC log k,ZqK _ _ _,fun a ha b hb=>?_⟩
  have h1:=(ZmB.1 ha).1.2
  have h2:=(Zjg.1 hb).1
  exact .inl (by omega)
def ZtN (log:List (List Int))(k1 k2 k3 k j:Nat):Zas:=⟨onR log p2 k1,onR log p3 k2,onR log p4 k3,Zok log k++ZoW log ((k:Int)+1) j⟩
theorem ZiG {log:List (List Int)}(h:Za6 log=0):OfP log (ZtN log 26 26 26 26 0) 0:=by
 refine⟨h.symm, ?_⟩
 rw[if_pos h]
 obtain⟨_,hall⟩:=Zhp h
 have hd:∀{t:List Int} {x:Int},t∈log→x∈t→1≤x∧x≤(26:Nat):=fun ht hx=>(hall _ ht).2 _ hx
 have hb:Zok log 26++ZoW log (((26:Nat):Int)+1) 0=Zok log 26:=by simp[ZoW,rng]
 refine⟨⟨Zlx _ _ _,fun x=>?_⟩,⟨Zlx _ _ _,fun x=>?_⟩,⟨Zlx _ _ _,fun x=>?_⟩, ?_⟩
 ·show x∈onR log p2 26↔_
  rw[Zly]
  unfold ZsV p2
  constructor
  ·rintro⟨_,t,ht,hp⟩
   obtain⟨y,hy,e⟩:=List.any_eq_true.1 hp
   simp only[beq_iff_eq]at e
   exact⟨t,ht,e▸hy⟩
  ·rintro⟨t,ht,hx⟩
   exact⟨hd ht hx,t,ht,List.any_eq_true.2 ⟨x,hx,by simp⟩⟩
 ·show x∈onR log p3 26↔_
  rw[Zly]
  unfold ZiA p3
  constructor
  ·rintro⟨_,t,ht,hp⟩
   exact⟨t,ht,of_decide_eq_true hp⟩
  ·rintro⟨t,ht,hx⟩
   exact⟨hd ht (List.mem_of_head? hx),t,ht,decide_eq_true hx⟩
 ·show x∈onR log p4 26↔_
  rw[Zly]
  unfold Znj p4
  constructor
  ·rintro⟨_,t,ht,hp⟩
   exact⟨t,ht,of_decide_eq_true hp⟩
  ·rintro⟨t,ht,hx⟩
   exact⟨hd ht (List.mem_of_getLast? hx),t,ht,decide_eq_true hx⟩
 ·show(Zok log 26++ZoW log (((26:Nat):Int)+1) 0).Pairwise Zd5∧∀x,x∈Zok log 26++ZoW log (((26:Nat):Int)+1) 0↔_
  rw[hb]
  refine⟨ZmC _ _,fun q=>?_⟩
  rw[ZmB]
  unfold ZsW
  constructor
  ·rintro⟨_,_,t,ht,hp⟩
   exact⟨t,ht,ZrR.1 hp⟩
  ·rintro⟨t,ht,k,h1,h2⟩
   exact⟨hd ht (List.mem_of_getElem? h1),hd ht (List.mem_of_getElem? h2),t,ht,ZrR.2 ⟨k,h1,h2⟩⟩
end Go.Proofs.YtfmnagcglhlicaaGreat
namespace Go.Proofs.YtfmnagcglhlicaaGreat
open Go.RowKit
theorem Zcg {α:Type} {R:World→(Nat→Value)→α→Prop} {t e size bytes:Nat} (T:ZeM t e size bytes) {ops:Array Oper} {rest:List Oper} {o:Oper} {a:Act} {Q:Exit→Act→World→Prop} (hgd:o.guard=none) (s x:Operand)
  (ho:o.op=.call {callee:=.builtin .append,args:=#[s,x],argTypes:=#[t,t]})
  {w:World} {B:Nat} {v:Value} {n m:Nat} {xs:List α} (ys:List α) (us:Array Value) {H:Nat} (hs:a.eval s=v) (hx:a.eval x=.slice (some ⟨H,0,none⟩) m m) (hH:H=w.heap.size) (hus:us.size=m*size) (one:∀u∈us.toList,u.oneCell'=true)
  (own:Zad R size w B e v n xs) (hread:Zax R size w us.toList ys) (hy:ys.length=m) (hB:B≤w.heap.size) (h63:n+m≤281474976710656) (hn:(n+m)*bytes≤140737488355328)
  (hkeep:∀w',w.grownBy w' v.ownBlock→∀vs y,R w vs y→R w' vs y)
  (K:∀v' w',Zad R size w' B e v' (n+m) (xs++ys)→w.grownBy w' v.ownBlock→(v'.ownBlock=v.ownBlock∨v'.ownBlock=some (w.heap.size+1))→wpList Tryz.prog ops Q rest (a.put o.dst v') w') :
  wpList Tryz.prog ops Q (o::rest) a (w.alloc (.cells us e)):=by
 subst hH
 obtain⟨i,z,h1,h2,h3,h4,h5⟩:=T.info
 obtain⟨cells,o1,o2,o3⟩:=own
 refine wpList_append_own_at (P:=Tryz.prog) _ hgd s x t ho B e i z size bytes T.und h1 h2 h3 h4 h5 T.pos v n cells hs (o1.alloc _) ⟨w.heap.size,0,none⟩ m m us.toList hx (by simpa using hus) (fun j u hj=>?_) one ?_ hn (by simp;omega) (fun v' w' h6 h7 _ h8=>?_)
 ·have hz:((⟨w.heap.size,0,none⟩:Addr).add j)=⟨w.heap.size,j,none⟩:=by unfold Addr.add;split <;> simp_all
  rw[hz]
  have:(w.alloc (.cells us e)).cell? ⟨w.heap.size,j,none⟩=us[j]?:=cell_of_row _ _ _ _ _ (0,0) (heap_alloc_new w _)
  rw[this]
  simpa using hj
 ·simp only[maxLen];omega
 ·have hg:w.grownBy w' v.ownBlock:=⟨h7.os,h7.tape,h7.output,Nat.le_trans (by simp) h7.size,fun k hk hne=>(h7.block k (by simp;omega) hne).trans (heap_alloc_old w _ hk)⟩
  refine K v' w' ⟨_,h6, ?_,by rw[List.length_append,o3,hy]⟩ hg (by rw[World.size_alloc]at h8;exact h8)
  have:=o2.append hread
  exact⟨this.1,fun i x hx=>by obtain⟨vs,a,b⟩:=this.2 i x hx;exact⟨vs,a,hkeep _ hg _ _ b⟩⟩
theorem Zem {ops:Array Oper} {rest:List Oper} {o:Oper} {a:Act} {Q:Exit→Act→World→Prop} (hgd:o.guard=none) (s x:Operand)
  (ho:o.op=.call {callee:=.builtin .append,args:=#[s,x],argTypes:=#[28,28]})
  {w:World} {B:Nat} {v:Value} {n:Nat} {xs:List Int} {y:Int} {H:Nat} (hs:a.eval s=v) (hx:a.eval x=.slice (some ⟨H,0,none⟩) 1 1) (hH:H=w.heap.size)
  (own:Zaf w B v n xs) (hB:B≤w.heap.size) (hn:n≤26)
  (K:∀v' w',Zaf w' B v' (n+1) (xs++[y])→w.grownBy w' v.ownBlock→(v'.ownBlock=v.ownBlock∨v'.ownBlock=some (w.heap.size+1))→wpList Tryz.prog ops Q rest (a.put o.dst v') w') :
  wpList Tryz.prog ops Q (o::rest) a (w.alloc (.cells #[.int .i64 y] 3)) :=
 Zcg Zdc hgd s x ho [y] #[.int .i64 y] hs hx hH rfl (by simp[Value.oneCell']) own (Zax.one (vs:=fun _=>.int .i64 y) rfl rfl (fun j hj=>(by obtain rfl:j=0:=(by omega);rfl))) rfl hB (by omega) (by omega) (fun _ _ _ _ h=>h) K
theorem Zbs (w:World)(b i:Nat)(v:Value):w.grownBy (w.setCell ⟨b,i,none⟩ v) (some b) :=
 ⟨rfl,rfl,rfl,by simp[World.setCell],fun k _ hne=>heap_setCell_other _ _ _ _ (fun e=>hne (by rw[e]))⟩
section
variable {w w':World} {bl bp:Nat} {LA:Value} {g:Zas} {s1 s2 s3 s4:Value} {n1 n2 n3 n4:Nat}
end
end Go.Proofs.YtfmnagcglhlicaaGreat
