/- Blocks: plain, and as they lie in memory; what is wrong with a block; the contracts of blocks.Wrong and JWrong. Conditions: the block reads as a tree. -/
import Derived.Test.YtfmnagcglhlicaaGreatTopSaidK06
set_option maxRecDepth 100000
namespace Go.Proofs.YtfmnagcglhlicaaGreat
open Go.RowKit
inductive Zat where
 | mk (kind label:Int) (kids:List Zat)
def Zat.kind:Zat→Int| .mk k _ _=>k
def Zat.label:Zat→Int| .mk _ l _=>l
def Zat.kids:Zat→List Zat| .mk _ _ ks=>ks
def Zbk (k l:Int)(n:Nat):Int :=
 if k<1∨6<k then 5 else if k=2∧(l<1∨26<l)then 2 else if(k<3∧0<n)∨(3≤k∧n=0)∨(k=6∧n≠2)then 1 else 0
def ZaI (g:Zat→Nat→Nat×Int)(s:Nat×Int)(k:Zat):Nat×Int:=if s.2=0 then g k s.1 else s
def ZaR:Nat→Zat→Nat→Nat×Int
 | 0,_,had=>(had+1,4)
 | f+1,b,had=>if 40<had+1 then(had+1,4)else if Zbk b.kind b.label b.kids.length≠0 then(had+1,Zbk b.kind b.label b.kids.length)else b.kids.foldl (ZaI (ZaR f)) (had+1,0)
def ZbX (b:Zat):Int:=(ZaR 41 b 0).2
theorem ZeE {g:Zat→Nat→Nat×Int}{s:Nat×Int}(h:s.2≠0):∀l:List Zat,l.foldl (ZaI g) s=s:=fun l=>by
 induction l with
 | nil=>rfl
 | cons a l ih=>rw[List.foldl_cons,ZaI,if_neg h];exact ih
theorem Zdz {g:Zat→Nat→Nat×Int}{s:Nat×Int}{l:List Zat}{i:Nat}{x:Zat}(h:l[i]?=some x):(l.take (i+1)).foldl (ZaI g) s=ZaI g ((l.take i).foldl (ZaI g) s) x:=by
 rw[List.take_add_one,h,List.foldl_append];rfl
theorem Zej {g:Zat→Nat→Nat×Int}{s:Nat×Int}{l:List Zat}{i:Nat}(h:((l.take i).foldl (ZaI g) s).2≠0):l.foldl (ZaI g) s=(l.take i).foldl (ZaI g) s:=by
 have e:=List.take_append_drop i l
 rw[←e,List.foldl_append,e]
 exact ZeE h _
theorem Zcn:∀(f:Nat) (b:Zat) (had:Nat),(ZaR f b had).2=0→had+1≤(ZaR f b had).1∧(ZaR f b had).1≤40
 | 0,b,had,h=>by rw[ZaR]at h;cases h
 | f+1,b,had,h=>by
  have key:∀(l:List Zat) (s:Nat×Int),(l.foldl (ZaI (ZaR f)) s).2=0→s.2=0∧s.1≤(l.foldl (ZaI (ZaR f)) s).1∧(s.1≤40→(l.foldl (ZaI (ZaR f)) s).1≤40):=fun l=>by
   induction l with
   | nil=>exact fun s h=>⟨h,Nat.le_refl _,id⟩
   | cons a l ih =>
    intro s h
    rw[List.foldl_cons]at h ⊢
    obtain⟨i1,i2,i3⟩:=ih _ h
    by_cases hs:s.2=0
    ·rw[ZaI,if_pos hs]at i1 i2 i3 ⊢
     obtain⟨j1,j2⟩:=Zcn f a s.1 i1
     exact⟨hs,by omega,fun _=>i3 j2⟩
    ·rw[ZaI,if_neg hs]at i1
     exact absurd i1 hs
  rw[ZaR]at h ⊢
  split at h
  ·cases h
  ·rename_i h1
   rw[if_neg h1]
   split at h
   ·rename_i h2;exact absurd h h2
   ·rename_i h2
    rw[if_neg h2]
    obtain⟨_,k2,k3⟩:=key _ _ h
    exact⟨k2,k3 (by simp only;omega)⟩
def Zsg:Nat→World→(Nat→Value)→Zat→Prop
 | 0=>fun _ _ _=>False
 | d+1=>fun w vs b=>vs 0=.int .i64 b.kind∧vs 1=.int .i64 b.label∧∃A n c,vs 2=.slice A n c∧Sl (Zsg d) 3 w A n c b.kids
theorem Zsg.kept:∀d,Zh9 (Zsg d)
 | 0=>fun _ _ _ _ _ h=>h
 | d+1=>fun _ _ _ _ hb h=>by
  obtain⟨h0,h1,A,n,c,h2,h3⟩:=h
  exact⟨h0,h1,A,n,c,h2,h3.keep (Zsg.kept d) hb⟩
abbrev Zhr (d:Nat)(w:World)(A:Option Addr)(n c:Nat)(l:List Zat):Prop:=Sl (Zsg d) 3 w A n c l
theorem Zhr.keep {d:Nat}{w w':World}{A:Option Addr}{n c:Nat}{l:List Zat}(h:Zhr d w A n c l)(hb:Below w.heap.size w w'):Zhr d w' A n c l:=Sl.keep (Zsg.kept d) h hb
theorem Zhr.get {d:Nat}{w:World}{A:Option Addr}{n c k:Nat}{l:List Zat}(h:Zhr d w A n c l)(hk:k<n) :
  ∃b off kd lb ks B m e d',d=d'+1∧A=some ⟨b,off,none⟩∧b<w.heap.size∧Hid (l[k]?=some (.mk kd lb ks))∧w.cell? ⟨b,off+k*3,none⟩=some (.int .i64 kd)∧w.cell? ⟨b,off+k*3+1,none⟩=some (.int .i64 lb)∧w.cell? ⟨b,off+k*3+2,none⟩=some (.slice B m e)∧Hid (Zhr d' w B m e ks):=by
 obtain⟨b,off,x,vs,h1,h2,h3,h4,h5⟩:=Sl.get h hk
 match d,h5 with
 | d'+1,h5 =>
  obtain⟨e0,e1,B,m,e,e2,e3⟩:=h5
  obtain⟨kd,lb,ks⟩:=x
  refine⟨b,off,kd,lb,ks,B,m,e,d',rfl,h1,h2,h3, ?_, ?_, ?_,e3⟩
  ·have:=h4 0 (by omega);rw[e0]at this;simpa [Zat.kind] using this
  ·have:=h4 1 (by omega);rw[e1]at this;simpa [Zat.label,Nat.add_assoc] using this
  ·have:=h4 2 (by omega);rw[e2]at this;simpa [Nat.add_assoc] using this
def Zek (bn bc:Nat):Value:=.func (.func 98) #[] #[.pointer (some ⟨bn,0,none⟩),.pointer (some ⟨bc,0,none⟩)]
def Zs7 (r:Nat×Int)(B:Nat)(w0:World)(bn bc:Nat)(e:Ending)(w':World):Prop:=e=.returned (.int .i64 r.2)∧Box w' bn 3 #[.int .i64 r.1]∧Box w' bc 128 #[Zek bn bc]∧Below B w0 w'
set_option maxHeartbeats 16000000 in
theorem Zlo {w0:World}{bn bc:Nat}(g1:w0.heap.size≤bn)(g3:bn≠bc) :
  ∀(f d:Nat) (kd lb:Int) (A:Option Addr) (n c had:Nat) (ks:List Zat) (w:World),41≤had+f→had≤40→Zhr d w0 A n c ks→Box w bn 3 #[.int .i64 had]→Box w bc 128 #[Zek bn bc]→Below w0.heap.size w0 w →
   Calls Tryz.prog 98 #[.agg #[.int .i64 kd,.int .i64 lb,.slice A n c],.pointer (some ⟨bn,0,none⟩),.pointer (some ⟨bc,0,none⟩)] w (Zs7 (ZaR f (.mk kd lb ks) had) w0.heap.size w0 bn bc):=by
 have henter:∀(args:Array Value) (w:World),Sem.run Tryz.prog (callFunc 98 args) w=.ok (.enter 98 args) w:=fun args w=>by kernel_rfl
 intro f
 induction f with
 | zero =>
  intro d kd lb A n c had ks w hf h41 hK hN hC hB
  exact absurd hf (by omega)
 | succ f ih =>
  intro d kd lb A n c had ks w hf h41 hK hN hC hB
  obtain⟨h1,hh1⟩:∃h1:Nat,had+1=h1:=⟨_,rfl⟩
  have hh1i:(had:Int)+1=(h1:Int):=by omega
  have HL:=Zaa (show ks.length=n from hK.len)
  have FULL:=Zaa (show 40<had+1→ZaR (f+1) (.mk kd lb ks) had=(had+1,4)from fun h=>by rw[ZaR,if_pos h])
  have BAD:=Zaa (show ¬40<had+1→Zbk kd lb n≠0→ZaR (f+1) (.mk kd lb ks) had=(had+1,Zbk kd lb n)from fun h g=>by rw[ZaR,if_neg h];simp only[Zat.kind,Zat.label,Zat.kids,HL.out];rw[if_pos g])
  have GOOD:=Zaa (show ¬40<had+1→Zbk kd lb n=0→ZaR (f+1) (.mk kd lb ks) had=ks.foldl (ZaI (ZaR f)) (had+1,0)from fun h g=>by rw[ZaR,if_neg h];simp only[Zat.kind,Zat.label,Zat.kids,HL.out];rw[if_neg (by rw[g];simp)])
  have bb:=Zab w (.cells #[.int .i64 kd,.int .i64 lb,.slice A n c] 71)
  have BN:=Zaa (hN.keep bb)
  have BC:=Zaa (hC.keep bb)
  have BX:=Zaa (hB.trans (bb.mono hB.size))
  have BB:=Zaa (Box.new w #[.int .i64 kd,.int .i64 lb,.slice A n c] 71)
  have NEB:=Zaa (show w.heap.size≠bn from fun e=>by have:=hN.lt;omega)
  have G:=Zaa (show w0.heap.size≤bn∧bn≠bc∧w0.heap.size≤w.heap.size from⟨g1,g3,hB.size⟩)
  have hns:=hK.small
  have K:=Zaa hK
  clear hK hN hC hB bb g1 g3
  have IH:=Zaa ih
  clear ih
  go_enter Tryz.func98,Tryz.ntmps98
  go_upto_region 1 with fail
  generalize w.alloc (.cells #[.int .i64 kd,.int .i64 lb,.slice A n c] 71)=u at *
  generalize w.heap.size=bb at *
  have x0:=BN.out.cell 0
  have f0:=BN.out.frozen 0
  simp only[List.getElem?_toArray,List.getElem?_cons_zero]at x0
  have N2:=Zaa (show Box (u.setCell ⟨bn,0,none⟩ (.int .i64 (h1:Int))) bn 3 #[.int .i64 (h1:Int)] by simpa using BN.out.set 0 (.int .i64 (h1:Int)))
  have C2:=Zaa (BC.out.other (a:=⟨bn,0,none⟩) (.int .i64 (h1:Int)) G.out.2.1.symm)
  have X2:=Zaa (BX.out.setCell (p:=⟨bn,0,none⟩) G.out.1 (.int .i64 (h1:Int)))
  have B2:=Zaa (BB.out.other (a:=⟨bn,0,none⟩) (.int .i64 (h1:Int)) NEB.out)
  clear BN BC BX BB
  go_upto_region 2 with fail
  clear x0 f0
  generalize u.setCell ⟨bn,0,none⟩ (.int .i64 (h1:Int))=u2 at *
  have x0:=N2.out.cell 0
  simp only[List.getElem?_toArray,List.getElem?_cons_zero]at x0
  obtain⟨b0,b1,b2⟩:=B2.out.three
  by_cases hov:40<had+1
  ·have FIN:=Zaa (FULL.out hov)
   have hovi:(40:Int)<(h1:Int):=by omega
   go_wp2
   go_ret
   rw[FIN.out]
   exact⟨by first|rfl|simp,by rw[hh1];exact N2.out,C2.out,X2.out⟩
  ·have hovi:¬(40:Int)<(h1:Int):=by omega
   by_cases hk1:kd<1
   ·have HD:=Zaa (show Zbk kd lb n=5 by rw[Zbk,if_pos (.inl hk1)])
    have FIN:=Zaa (BAD.out (by omega) (by rw[HD.out];decide))
    rw[HD.out]at FIN
    go_wp2
    go_ret
    rw[FIN.out]
    exact⟨by first|rfl|simp,by rw[hh1];exact N2.out,C2.out,X2.out⟩
   ·by_cases hk6:6<kd
    ·have HD:=Zaa (show Zbk kd lb n=5 by rw[Zbk,if_pos (.inr hk6)])
     have FIN:=Zaa (BAD.out (by omega) (by rw[HD.out];decide))
     rw[HD.out]at FIN
     go_wp2
     go_ret
     rw[FIN.out]
     exact⟨by first|rfl|simp,by rw[hh1];exact N2.out,C2.out,X2.out⟩
    ·have hk:kd=1∨kd=2∨kd=3∨kd=4∨kd=5∨kd=6:=by omega
     clear hk1 hk6
     rcases hk with rfl|rfl|rfl|rfl|rfl|rfl
     ·by_cases hn0:n=0
      ·have hn0i:¬(0:Int)<(n:Int):=by omega
       have HD:=Zaa (show Zbk 1 lb n=0 by unfold Zbk;simp <;> omega)
       subst hn0
       have FIN:=Zaa (GOOD.out (by omega) HD.out)
       rw[hh1]at FIN
       clear FULL BAD GOOD HD
       go_upto_region 12 with fail
       clear x0 b0 b1 b2
       obtain⟨b0,b1,b2⟩:=B2.out.three
       go_wp2
       clear b0 b1 b2
       go_loopw [66] (fun v wr=>∃(i hd:Nat),i≤0∧v=.int .i64 i∧had+1≤hd∧hd≤40∧Hid ((ks.take i).foldl (ZaI (ZaR f)) (h1,0)=(hd,0))∧Hid (Box wr bn 3 #[.int .i64 hd])∧Hid (Box wr bc 128 #[Zek bn bc])∧Hid (Below w0.heap.size w0 wr)) (fun v _=>0-(intOf v).toNat)
       case atStart=>exact⟨0,h1,Nat.zero_le _,rfl,by omega,by omega,rfl,N2,C2,X2⟩
       case round =>
        clear N2 C2 X2 B2
        obtain⟨i,hd,hi,rfl,hd1,hd2,FO,N2,C2,X2⟩:=hrel
        by_cases hlt:i<0
        ·exact absurd hlt (by omega)
        ·obtain rfl:i=0:=by omega
         have FE:=Zaa (show ks.foldl (ZaI (ZaR f)) (h1,0)=(hd,0) by have:=FO.out;rwa[List.take_of_length_le (by rw[HL.out];exact Nat.le_refl _)]at this)
         go_wp2
         go_ret
         rw[FIN.out,FE.out]
         exact⟨by first|rfl|simp,N2.out,C2.out,X2.out⟩
      ·have hn0i:(0:Int)<(n:Int):=by omega
       have hn0j:¬(n:Int)=0:=by omega
       have HD:=Zaa (show Zbk 1 lb n=1 by unfold Zbk;simp <;> omega)
       have FIN:=Zaa (BAD.out (by omega) (by rw[HD.out];decide))
       rw[HD.out]at FIN
       go_wp2
       go_ret
       rw[FIN.out]
       exact⟨by first|rfl|simp,by rw[hh1];exact N2.out,C2.out,X2.out⟩
     ·by_cases hl1:lb<1
      ·skip
       have HD:=Zaa (show Zbk 2 lb n=2 by unfold Zbk;simp <;> omega)
       have FIN:=Zaa (BAD.out (by omega) (by rw[HD.out];decide))
       rw[HD.out]at FIN
       go_wp2
       go_ret
       rw[FIN.out]
       exact⟨by first|rfl|simp,by rw[hh1];exact N2.out,C2.out,X2.out⟩
      ·by_cases hl2:26<lb
       ·skip
        have HD:=Zaa (show Zbk 2 lb n=2 by unfold Zbk;simp <;> omega)
        have FIN:=Zaa (BAD.out (by omega) (by rw[HD.out];decide))
        rw[HD.out]at FIN
        go_wp2
        go_ret
        rw[FIN.out]
        exact⟨by first|rfl|simp,by rw[hh1];exact N2.out,C2.out,X2.out⟩
       ·by_cases hn0:n=0
        ·have hn0i:¬(0:Int)<(n:Int):=by omega
         have HD:=Zaa (show Zbk 2 lb n=0 by unfold Zbk;simp <;> omega)
         subst hn0
         have FIN:=Zaa (GOOD.out (by omega) HD.out)
         rw[hh1]at FIN
         clear FULL BAD GOOD HD
         go_upto_region 12 with fail
         clear x0 b0 b1 b2
         obtain⟨b0,b1,b2⟩:=B2.out.three
         go_wp2
         clear b0 b1 b2
         go_loopw [66] (fun v wr=>∃(i hd:Nat),i≤0∧v=.int .i64 i∧had+1≤hd∧hd≤40∧Hid ((ks.take i).foldl (ZaI (ZaR f)) (h1,0)=(hd,0))∧Hid (Box wr bn 3 #[.int .i64 hd])∧Hid (Box wr bc 128 #[Zek bn bc])∧Hid (Below w0.heap.size w0 wr)) (fun v _=>0-(intOf v).toNat)
         case atStart=>exact⟨0,h1,Nat.zero_le _,rfl,by omega,by omega,rfl,N2,C2,X2⟩
         case round =>
          clear N2 C2 X2 B2
          obtain⟨i,hd,hi,rfl,hd1,hd2,FO,N2,C2,X2⟩:=hrel
          by_cases hlt:i<0
          ·exact absurd hlt (by omega)
          ·obtain rfl:i=0:=by omega
           have FE:=Zaa (show ks.foldl (ZaI (ZaR f)) (h1,0)=(hd,0) by have:=FO.out;rwa[List.take_of_length_le (by rw[HL.out];exact Nat.le_refl _)]at this)
           go_wp2
           go_ret
           rw[FIN.out,FE.out]
           exact⟨by first|rfl|simp,N2.out,C2.out,X2.out⟩
        ·have hn0i:(0:Int)<(n:Int):=by omega
         have hn0j:¬(n:Int)=0:=by omega
         have HD:=Zaa (show Zbk 2 lb n=1 by unfold Zbk;simp <;> omega)
         have FIN:=Zaa (BAD.out (by omega) (by rw[HD.out];decide))
         rw[HD.out]at FIN
         go_wp2
         go_ret
         rw[FIN.out]
         exact⟨by first|rfl|simp,by rw[hh1];exact N2.out,C2.out,X2.out⟩
     ·by_cases hn0:n=0
      ·subst hn0
       have HD:=Zaa (show Zbk 3 lb 0=1 by unfold Zbk;simp)
       have FIN:=Zaa (BAD.out (by omega) (by rw[HD.out];decide))
       rw[HD.out]at FIN
       go_wp2
       go_ret
       rw[FIN.out]
       exact⟨by first|rfl|simp,by rw[hh1];exact N2.out,C2.out,X2.out⟩
      ·have hn0i:¬(n:Int)=0:=by omega
       have HD:=Zaa (show Zbk 3 lb n=0 by unfold Zbk;simp <;> omega)
       have FIN:=Zaa (GOOD.out (by omega) HD.out)
       rw[hh1]at FIN
       clear FULL BAD GOOD HD
       go_upto_region 12 with fail
       clear x0 b0 b1 b2
       obtain⟨b0,b1,b2⟩:=B2.out.three
       go_wp2
       clear b0 b1 b2
       go_loopw [66] (fun v wr=>∃(i hd:Nat),i≤n∧v=.int .i64 i∧had+1≤hd∧hd≤40∧Hid ((ks.take i).foldl (ZaI (ZaR f)) (h1,0)=(hd,0))∧Hid (Box wr bn 3 #[.int .i64 hd])∧Hid (Box wr bc 128 #[Zek bn bc])∧Hid (Below w0.heap.size w0 wr)) (fun v _=>n-(intOf v).toNat)
       case atStart=>exact⟨0,h1,Nat.zero_le _,rfl,by omega,by omega,rfl,N2,C2,X2⟩
       case round =>
        clear N2 C2 X2 B2
        obtain⟨i,hd,hi,rfl,hd1,hd2,FO,N2,C2,X2⟩:=hrel
        by_cases hlt:i<n
        ·have hki:(i:Int)<(n:Int):=by omega
         obtain⟨bl,off,kd',lb',ks',B',m',e',d',rfl,rfl,hbl,hx,p0,p1,p2,K'⟩:=K.out.get hlt
         have q0:=(X2.out.cell (p:=⟨bl,_,none⟩) hbl).trans p0
         have q1:=(X2.out.cell (p:=⟨bl,_,none⟩) hbl).trans p1
         have q2:=(X2.out.cell (p:=⟨bl,_,none⟩) hbl).trans p2
         have TK:=Zaa (Zdz (g:=ZaR f) (s:=(h1,0)) hx.out)
         rw[FO.out]at TK
         have TB:=Zaa (fun h=>Zej (g:=ZaR f) (s:=(h1,0)) (l:=ks) (i:=i+1) h)
         obtain⟨r,hr⟩:∃r,ZaR f (.mk kd' lb' ks') hd=r:=⟨_,rfl⟩
         have hst:ZaI (ZaR f) (hd,0) (.mk kd' lb' ks')=r:=by rw[ZaI,if_pos rfl];exact hr
         rw[hst]at TK
         rw[TK.out]at TB
         have GR:=Zaa (Zcn f (.mk kd' lb' ks') hd)
         rw[hr]at GR
         have bb2:=Zab wr (.cells #[.int .i64 kd',.int .i64 lb',.slice B' m' e'] 71)
         have N3:=Zaa (N2.out.keep bb2)
         have C3:=Zaa (C2.out.keep bb2)
         have X3:=Zaa (X2.out.trans (bb2.mono X2.out.size))
         have CI:=Zaa (IH.out d' kd' lb' B' m' e' hd ks' (wr.alloc (.cells #[.int .i64 kd',.int .i64 lb',.slice B' m' e'] 71)) (by omega) hd2 K'.out N3.out C3.out X3.out)
         rw[hr]at CI
         have xc:=C2.out.cell 0
         have xc3:=C3.out.cell 0
         simp only[List.getElem?_toArray,List.getElem?_cons_zero]at xc xc3
         clear p0 p1 p2 hr hst bb2 hx
         obtain⟨rh,re⟩:=r
         by_cases hre:re=0
         ·subst hre
          obtain⟨gr1,gr2⟩:=GR.out rfl
          simp only at gr1 gr2
          go_wp2_with (refine CI.out.mono ?_;rintro e w4 ⟨rfl,n4,c4,x4⟩;have N4:=Zaa n4;have C4:=Zaa c4;have X4:=Zaa x4;clear n4 c4 x4)
          go_roundw
          case rel=>exact⟨i+1,rh,by omega,by go_num,by omega,gr2,TK,N4,C4,X4⟩
          case measure=>simp[intOf];omega
         ·have FE:=Zaa (TB.out hre)
          go_wp2_with (refine CI.out.mono ?_;rintro e w4 ⟨rfl,n4,c4,x4⟩;have N4:=Zaa n4;have C4:=Zaa c4;have X4:=Zaa x4;clear n4 c4 x4)
          go_ret
          rw[FIN.out,FE.out]
          exact⟨by first|rfl|simp,N4.out,C4.out,X4.out⟩
        ·obtain rfl:i=n:=by omega
         have FE:=Zaa (show ks.foldl (ZaI (ZaR f)) (h1,0)=(hd,0) by have:=FO.out;rwa[List.take_of_length_le (by rw[HL.out];exact Nat.le_refl _)]at this)
         go_wp2
         go_ret
         rw[FIN.out,FE.out]
         exact⟨by first|rfl|simp,N2.out,C2.out,X2.out⟩
     ·by_cases hn0:n=0
      ·subst hn0
       have HD:=Zaa (show Zbk 4 lb 0=1 by unfold Zbk;simp)
       have FIN:=Zaa (BAD.out (by omega) (by rw[HD.out];decide))
       rw[HD.out]at FIN
       go_wp2
       go_ret
       rw[FIN.out]
       exact⟨by first|rfl|simp,by rw[hh1];exact N2.out,C2.out,X2.out⟩
      ·have hn0i:¬(n:Int)=0:=by omega
       have HD:=Zaa (show Zbk 4 lb n=0 by unfold Zbk;simp <;> omega)
       have FIN:=Zaa (GOOD.out (by omega) HD.out)
       rw[hh1]at FIN
       clear FULL BAD GOOD HD
       go_upto_region 12 with fail
       clear x0 b0 b1 b2
       obtain⟨b0,b1,b2⟩:=B2.out.three
       go_wp2
       clear b0 b1 b2
       go_loopw [66] (fun v wr=>∃(i hd:Nat),i≤n∧v=.int .i64 i∧had+1≤hd∧hd≤40∧Hid ((ks.take i).foldl (ZaI (ZaR f)) (h1,0)=(hd,0))∧Hid (Box wr bn 3 #[.int .i64 hd])∧Hid (Box wr bc 128 #[Zek bn bc])∧Hid (Below w0.heap.size w0 wr)) (fun v _=>n-(intOf v).toNat)
       case atStart=>exact⟨0,h1,Nat.zero_le _,rfl,by omega,by omega,rfl,N2,C2,X2⟩
       case round =>
        clear N2 C2 X2 B2
        obtain⟨i,hd,hi,rfl,hd1,hd2,FO,N2,C2,X2⟩:=hrel
        by_cases hlt:i<n
        ·have hki:(i:Int)<(n:Int):=by omega
         obtain⟨bl,off,kd',lb',ks',B',m',e',d',rfl,rfl,hbl,hx,p0,p1,p2,K'⟩:=K.out.get hlt
         have q0:=(X2.out.cell (p:=⟨bl,_,none⟩) hbl).trans p0
         have q1:=(X2.out.cell (p:=⟨bl,_,none⟩) hbl).trans p1
         have q2:=(X2.out.cell (p:=⟨bl,_,none⟩) hbl).trans p2
         have TK:=Zaa (Zdz (g:=ZaR f) (s:=(h1,0)) hx.out)
         rw[FO.out]at TK
         have TB:=Zaa (fun h=>Zej (g:=ZaR f) (s:=(h1,0)) (l:=ks) (i:=i+1) h)
         obtain⟨r,hr⟩:∃r,ZaR f (.mk kd' lb' ks') hd=r:=⟨_,rfl⟩
         have hst:ZaI (ZaR f) (hd,0) (.mk kd' lb' ks')=r:=by rw[ZaI,if_pos rfl];exact hr
         rw[hst]at TK
         rw[TK.out]at TB
         have GR:=Zaa (Zcn f (.mk kd' lb' ks') hd)
         rw[hr]at GR
         have bb2:=Zab wr (.cells #[.int .i64 kd',.int .i64 lb',.slice B' m' e'] 71)
         have N3:=Zaa (N2.out.keep bb2)
         have C3:=Zaa (C2.out.keep bb2)
         have X3:=Zaa (X2.out.trans (bb2.mono X2.out.size))
         have CI:=Zaa (IH.out d' kd' lb' B' m' e' hd ks' (wr.alloc (.cells #[.int .i64 kd',.int .i64 lb',.slice B' m' e'] 71)) (by omega) hd2 K'.out N3.out C3.out X3.out)
         rw[hr]at CI
         have xc:=C2.out.cell 0
         have xc3:=C3.out.cell 0
         simp only[List.getElem?_toArray,List.getElem?_cons_zero]at xc xc3
         clear p0 p1 p2 hr hst bb2 hx
         obtain⟨rh,re⟩:=r
         by_cases hre:re=0
         ·subst hre
          obtain⟨gr1,gr2⟩:=GR.out rfl
          simp only at gr1 gr2
          go_wp2_with (refine CI.out.mono ?_;rintro e w4 ⟨rfl,n4,c4,x4⟩;have N4:=Zaa n4;have C4:=Zaa c4;have X4:=Zaa x4;clear n4 c4 x4)
          go_roundw
          case rel=>exact⟨i+1,rh,by omega,by go_num,by omega,gr2,TK,N4,C4,X4⟩
          case measure=>simp[intOf];omega
         ·have FE:=Zaa (TB.out hre)
          go_wp2_with (refine CI.out.mono ?_;rintro e w4 ⟨rfl,n4,c4,x4⟩;have N4:=Zaa n4;have C4:=Zaa c4;have X4:=Zaa x4;clear n4 c4 x4)
          go_ret
          rw[FIN.out,FE.out]
          exact⟨by first|rfl|simp,N4.out,C4.out,X4.out⟩
        ·obtain rfl:i=n:=by omega
         have FE:=Zaa (show ks.foldl (ZaI (ZaR f)) (h1,0)=(hd,0) by have:=FO.out;rwa[List.take_of_length_le (by rw[HL.out];exact Nat.le_refl _)]at this)
         go_wp2
         go_ret
         rw[FIN.out,FE.out]
         exact⟨by first|rfl|simp,N2.out,C2.out,X2.out⟩
     ·by_cases hn0:n=0
      ·subst hn0
       have HD:=Zaa (show Zbk 5 lb 0=1 by unfold Zbk;simp)
       have FIN:=Zaa (BAD.out (by omega) (by rw[HD.out];decide))
       rw[HD.out]at FIN
       go_wp2
       go_ret
       rw[FIN.out]
       exact⟨by first|rfl|simp,by rw[hh1];exact N2.out,C2.out,X2.out⟩
      ·have hn0i:¬(n:Int)=0:=by omega
       have HD:=Zaa (show Zbk 5 lb n=0 by unfold Zbk;simp <;> omega)
       have FIN:=Zaa (GOOD.out (by omega) HD.out)
       rw[hh1]at FIN
       clear FULL BAD GOOD HD
       go_upto_region 12 with fail
       clear x0 b0 b1 b2
       obtain⟨b0,b1,b2⟩:=B2.out.three
       go_wp2
       clear b0 b1 b2
       go_loopw [66] (fun v wr=>∃(i hd:Nat),i≤n∧v=.int .i64 i∧had+1≤hd∧hd≤40∧Hid ((ks.take i).foldl (ZaI (ZaR f)) (h1,0)=(hd,0))∧Hid (Box wr bn 3 #[.int .i64 hd])∧Hid (Box wr bc 128 #[Zek bn bc])∧Hid (Below w0.heap.size w0 wr)) (fun v _=>n-(intOf v).toNat)
       case atStart=>exact⟨0,h1,Nat.zero_le _,rfl,by omega,by omega,rfl,N2,C2,X2⟩
       case round =>
        clear N2 C2 X2 B2
        obtain⟨i,hd,hi,rfl,hd1,hd2,FO,N2,C2,X2⟩:=hrel
        by_cases hlt:i<n
        ·have hki:(i:Int)<(n:Int):=by omega
         obtain⟨bl,off,kd',lb',ks',B',m',e',d',rfl,rfl,hbl,hx,p0,p1,p2,K'⟩:=K.out.get hlt
         have q0:=(X2.out.cell (p:=⟨bl,_,none⟩) hbl).trans p0
         have q1:=(X2.out.cell (p:=⟨bl,_,none⟩) hbl).trans p1
         have q2:=(X2.out.cell (p:=⟨bl,_,none⟩) hbl).trans p2
         have TK:=Zaa (Zdz (g:=ZaR f) (s:=(h1,0)) hx.out)
         rw[FO.out]at TK
         have TB:=Zaa (fun h=>Zej (g:=ZaR f) (s:=(h1,0)) (l:=ks) (i:=i+1) h)
         obtain⟨r,hr⟩:∃r,ZaR f (.mk kd' lb' ks') hd=r:=⟨_,rfl⟩
         have hst:ZaI (ZaR f) (hd,0) (.mk kd' lb' ks')=r:=by rw[ZaI,if_pos rfl];exact hr
         rw[hst]at TK
         rw[TK.out]at TB
         have GR:=Zaa (Zcn f (.mk kd' lb' ks') hd)
         rw[hr]at GR
         have bb2:=Zab wr (.cells #[.int .i64 kd',.int .i64 lb',.slice B' m' e'] 71)
         have N3:=Zaa (N2.out.keep bb2)
         have C3:=Zaa (C2.out.keep bb2)
         have X3:=Zaa (X2.out.trans (bb2.mono X2.out.size))
         have CI:=Zaa (IH.out d' kd' lb' B' m' e' hd ks' (wr.alloc (.cells #[.int .i64 kd',.int .i64 lb',.slice B' m' e'] 71)) (by omega) hd2 K'.out N3.out C3.out X3.out)
         rw[hr]at CI
         have xc:=C2.out.cell 0
         have xc3:=C3.out.cell 0
         simp only[List.getElem?_toArray,List.getElem?_cons_zero]at xc xc3
         clear p0 p1 p2 hr hst bb2 hx
         obtain⟨rh,re⟩:=r
         by_cases hre:re=0
         ·subst hre
          obtain⟨gr1,gr2⟩:=GR.out rfl
          simp only at gr1 gr2
          go_wp2_with (refine CI.out.mono ?_;rintro e w4 ⟨rfl,n4,c4,x4⟩;have N4:=Zaa n4;have C4:=Zaa c4;have X4:=Zaa x4;clear n4 c4 x4)
          go_roundw
          case rel=>exact⟨i+1,rh,by omega,by go_num,by omega,gr2,TK,N4,C4,X4⟩
          case measure=>simp[intOf];omega
         ·have FE:=Zaa (TB.out hre)
          go_wp2_with (refine CI.out.mono ?_;rintro e w4 ⟨rfl,n4,c4,x4⟩;have N4:=Zaa n4;have C4:=Zaa c4;have X4:=Zaa x4;clear n4 c4 x4)
          go_ret
          rw[FIN.out,FE.out]
          exact⟨by first|rfl|simp,N4.out,C4.out,X4.out⟩
        ·obtain rfl:i=n:=by omega
         have FE:=Zaa (show ks.foldl (ZaI (ZaR f)) (h1,0)=(hd,0) by have:=FO.out;rwa[List.take_of_length_le (by rw[HL.out];exact Nat.le_refl _)]at this)
         go_wp2
         go_ret
         rw[FIN.out,FE.out]
         exact⟨by first|rfl|simp,N2.out,C2.out,X2.out⟩
     ·by_cases hn0:n=2
      ·have hn0i:(n:Int)=2:=by omega
       have HD:=Zaa (show Zbk 6 lb n=0 by unfold Zbk;simp <;> omega)
       subst hn0
       have FIN:=Zaa (GOOD.out (by omega) HD.out)
       rw[hh1]at FIN
       clear FULL BAD GOOD HD
       go_upto_region 12 with fail
       clear x0 b0 b1 b2
       obtain⟨b0,b1,b2⟩:=B2.out.three
       go_wp2
       clear b0 b1 b2
       go_loopw [66] (fun v wr=>∃(i hd:Nat),i≤2∧v=.int .i64 i∧had+1≤hd∧hd≤40∧Hid ((ks.take i).foldl (ZaI (ZaR f)) (h1,0)=(hd,0))∧Hid (Box wr bn 3 #[.int .i64 hd])∧Hid (Box wr bc 128 #[Zek bn bc])∧Hid (Below w0.heap.size w0 wr)) (fun v _=>2-(intOf v).toNat)
       case atStart=>exact⟨0,h1,Nat.zero_le _,rfl,by omega,by omega,rfl,N2,C2,X2⟩
       case round =>
        clear N2 C2 X2 B2
        obtain⟨i,hd,hi,rfl,hd1,hd2,FO,N2,C2,X2⟩:=hrel
        by_cases hlt:i<2
        ·have hki:(i:Int)<(2:Int):=by omega
         obtain⟨bl,off,kd',lb',ks',B',m',e',d',rfl,rfl,hbl,hx,p0,p1,p2,K'⟩:=K.out.get hlt
         have q0:=(X2.out.cell (p:=⟨bl,_,none⟩) hbl).trans p0
         have q1:=(X2.out.cell (p:=⟨bl,_,none⟩) hbl).trans p1
         have q2:=(X2.out.cell (p:=⟨bl,_,none⟩) hbl).trans p2
         have TK:=Zaa (Zdz (g:=ZaR f) (s:=(h1,0)) hx.out)
         rw[FO.out]at TK
         have TB:=Zaa (fun h=>Zej (g:=ZaR f) (s:=(h1,0)) (l:=ks) (i:=i+1) h)
         obtain⟨r,hr⟩:∃r,ZaR f (.mk kd' lb' ks') hd=r:=⟨_,rfl⟩
         have hst:ZaI (ZaR f) (hd,0) (.mk kd' lb' ks')=r:=by rw[ZaI,if_pos rfl];exact hr
         rw[hst]at TK
         rw[TK.out]at TB
         have GR:=Zaa (Zcn f (.mk kd' lb' ks') hd)
         rw[hr]at GR
         have bb2:=Zab wr (.cells #[.int .i64 kd',.int .i64 lb',.slice B' m' e'] 71)
         have N3:=Zaa (N2.out.keep bb2)
         have C3:=Zaa (C2.out.keep bb2)
         have X3:=Zaa (X2.out.trans (bb2.mono X2.out.size))
         have CI:=Zaa (IH.out d' kd' lb' B' m' e' hd ks' (wr.alloc (.cells #[.int .i64 kd',.int .i64 lb',.slice B' m' e'] 71)) (by omega) hd2 K'.out N3.out C3.out X3.out)
         rw[hr]at CI
         have xc:=C2.out.cell 0
         have xc3:=C3.out.cell 0
         simp only[List.getElem?_toArray,List.getElem?_cons_zero]at xc xc3
         clear p0 p1 p2 hr hst bb2 hx
         obtain⟨rh,re⟩:=r
         by_cases hre:re=0
         ·subst hre
          obtain⟨gr1,gr2⟩:=GR.out rfl
          simp only at gr1 gr2
          go_wp2_with (refine CI.out.mono ?_;rintro e w4 ⟨rfl,n4,c4,x4⟩;have N4:=Zaa n4;have C4:=Zaa c4;have X4:=Zaa x4;clear n4 c4 x4)
          go_roundw
          case rel=>exact⟨i+1,rh,by omega,by go_num,by omega,gr2,TK,N4,C4,X4⟩
          case measure=>simp[intOf];omega
         ·have FE:=Zaa (TB.out hre)
          go_wp2_with (refine CI.out.mono ?_;rintro e w4 ⟨rfl,n4,c4,x4⟩;have N4:=Zaa n4;have C4:=Zaa c4;have X4:=Zaa x4;clear n4 c4 x4)
          go_ret
          rw[FIN.out,FE.out]
          exact⟨by first|rfl|simp,N4.out,C4.out,X4.out⟩
        ·obtain rfl:i=2:=by omega
         have FE:=Zaa (show ks.foldl (ZaI (ZaR f)) (h1,0)=(hd,0) by have:=FO.out;rwa[List.take_of_length_le (by rw[HL.out];exact Nat.le_refl _)]at this)
         go_wp2
         go_ret
         rw[FIN.out,FE.out]
         exact⟨by first|rfl|simp,N2.out,C2.out,X2.out⟩
      ·by_cases hn1:n=0
       ·subst hn1
        have HD:=Zaa (show Zbk 6 lb 0=1 by unfold Zbk;simp)
        have FIN:=Zaa (BAD.out (by omega) (by rw[HD.out];decide))
        rw[HD.out]at FIN
        go_wp2
        go_ret
        rw[FIN.out]
        exact⟨by first|rfl|simp,by rw[hh1];exact N2.out,C2.out,X2.out⟩
       ·have hn0i:¬(n:Int)=0:=by omega
        have hn2i:¬(n:Int)=2:=by omega
        have hnb:((n:Int) != 2)=true:=by simpa using hn2i
        have HD:=Zaa (show Zbk 6 lb n=1 by unfold Zbk;simp <;> omega)
        have FIN:=Zaa (BAD.out (by omega) (by rw[HD.out];decide))
        rw[HD.out]at FIN
        go_wp2
        go_ret
        rw[FIN.out]
        exact⟨by first|rfl|simp,by rw[hh1];exact N2.out,C2.out,X2.out⟩
end Go.Proofs.YtfmnagcglhlicaaGreat
