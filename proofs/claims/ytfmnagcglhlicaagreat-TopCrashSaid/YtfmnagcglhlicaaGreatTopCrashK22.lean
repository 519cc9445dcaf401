/- Blocks: plain, and as they lie in memory; what is wrong with a block; the contracts of blocks.Wrong and JWrong. Conditions: the block reads as a tree. -/
import Derived.Test.YtfmnagcglhlicaaGreatTopCrashK09
set_option maxRecDepth 100000
set_option maxHeartbeats 16000000
namespace Go.Proofs.YtfmnagcglhlicaaGreat
open Go.RowKit
inductive aW where
 | mk (kind label:Int) (kids:List aW)
def aW.kind:aW→Int| .mk k _ _=>k
def aW.label:aW→Int| .mk _ l _=>l
def aW.kids:aW→List aW| .mk _ _ ks=>ks
def dL (k l:Int)(n:Nat):Int :=
 if k<1∨6<k then 5 else if k=2∧(l<1∨26<l)then 2 else if(k<3∧0<n)∨(3≤k∧n=0)∨(k=6∧n≠2)then 1 else 0
def bM (g:aW→Nat→Nat×Int)(s:Nat×Int)(k:aW):Nat×Int:=if s.2=0 then g k s.1 else s
def bX:Nat→aW→Nat→Nat×Int
 | 0,_,had=>(had+1,4)
 | f+1,b,had=>if 40<had+1 then(had+1,4)else if dL b.kind b.label b.kids.length≠0 then(had+1,dL b.kind b.label b.kids.length)else b.kids.foldl (bM (bX f)) (had+1,0)
def eZ (b:aW):Int:=(bX 41 b 0).2
theorem nN {g:aW→Nat→Nat×Int}{s:Nat×Int}(h:s.2≠0):∀l:List aW,l.foldl (bM g) s=s:=fun l=>by
 induction l with
 | nil=>rfl
 | cons a l ih=>rw[List.foldl_cons,bM,if_neg h];exact ih
theorem lA {g:aW→Nat→Nat×Int}{s:Nat×Int}{l:List aW}{i:Nat}{x:aW}(h:l[i]?=some x):(l.take (i+1)).foldl (bM g) s=bM g ((l.take i).foldl (bM g) s) x:=by
 rw[List.take_add_one,h,List.foldl_append];rfl
theorem mQ {g:aW→Nat→Nat×Int}{s:Nat×Int}{l:List aW}{i:Nat}(h:((l.take i).foldl (bM g) s).2≠0):l.foldl (bM g) s=(l.take i).foldl (bM g) s:=by
 have e:=List.take_append_drop i l;rw[←e,List.foldl_append,e];exact nN h _
theorem gJ:∀(f:Nat) (b:aW) (had:Nat),(bX f b had).2=0→had+1≤(bX f b had).1∧(bX f b had).1≤40
 | 0,b,had,h=>by rw[bX]at h;cases h
 | f+1,b,had,h=>by
  have key:∀(l:List aW) (s:Nat×Int),(l.foldl (bM (bX f)) s).2=0→s.2=0∧s.1≤(l.foldl (bM (bX f)) s).1∧(s.1≤40→(l.foldl (bM (bX f)) s).1≤40):=fun l=>by
   induction l with
   | nil=>exact fun s h=>⟨h,Nat.le_refl _,id⟩
   | cons a l ih =>
    intro s h;rw[List.foldl_cons]at h ⊢;obtain⟨i1,i2,i3⟩:=ih _ h;by_cases hs:s.2=0
    ·rw[bM,if_pos hs]at i1 i2 i3 ⊢;obtain⟨j1,j2⟩:=gJ f a s.1 i1;exact⟨hs,by omega,fun _=>i3 j2⟩
    ·rw[bM,if_neg hs]at i1;exact absurd i1 hs
  rw[bX]at h ⊢;split at h
  ·cases h
  ·rename_i h1
   rw[if_neg h1];split at h
   ·rename_i h2;exact absurd h h2
   ·rename_i h2
    rw[if_neg h2];obtain⟨_,k2,k3⟩:=key _ _ h;exact⟨k2,k3 (by simp only;omega)⟩
def UV:Nat→World→(Nat→Value)→aW→Prop
 | 0=>fun _ _ _=>False
 | d+1=>fun w vs b=>vs 0=.int .i64 b.kind∧vs 1=.int .i64 b.label∧∃A n c,vs 2=.slice A n c∧Sl (UV d) 3 w A n c b.kids
theorem UV.kept:∀d,t8 (UV d)
 | 0=>fun _ _ _ _ _ h=>h
 | d+1=>fun _ _ _ _ hb h=>by
  obtain⟨h0,h1,A,n,c,h2,h3⟩:=h;exact⟨h0,h1,A,n,c,h2,h3.keep (UV.kept d) hb⟩
abbrev vD (d:Nat)(w:World)(A:OAd)(n c:Nat)(l:List aW):Prop:=Sl (UV d) 3 w A n c l
theorem vD.keep {d:Nat}{w w':World}{A:OAd}{n c:Nat}{l:List aW}(h:vD d w A n c l)(hb:Below w.heap.size w w'):vD d w' A n c l:=Sl.keep (UV.kept d) h hb
theorem vD.get {d:Nat}{w:World}{A:OAd}{n c k:Nat}{l:List aW}(h:vD d w A n c l)(hk:k<n) :
  ∃b off kd lb ks B m e d',d=d'+1∧A=some ⟨b,off,none⟩∧b<w.heap.size∧Hid (l[k]?=some (.mk kd lb ks))∧w.cell? ⟨b,off+k*3,none⟩=some (.int .i64 kd)∧w.cell? ⟨b,off+k*3+1,none⟩=some (.int .i64 lb)∧w.cell? ⟨b,off+k*3+2,none⟩=some (.slice B m e)∧Hid (vD d' w B m e ks):=by
 obtain⟨b,off,x,vs,h1,h2,h3,h4,h5⟩:=Sl.get h hk;match d,h5 with
 | d'+1,h5 =>
  obtain⟨e0,e1,B,m,e,e2,e3⟩:=h5;obtain⟨kd,lb,ks⟩:=x;refine⟨b,off,kd,lb,ks,B,m,e,d',rfl,h1,h2,h3, ?_, ?_, ?_,e3⟩
  ·have:=h4 0 (by omega);rw[e0]at this;simpa [aW.kind] using this
  ·have:=h4 1 (by omega);rw[e1]at this;simpa [aW.label,Nat.add_assoc] using this
  ·have:=h4 2 (by omega);rw[e2]at this;simpa [Nat.add_assoc] using this
def mR (bn bc:Nat):Value:=.func (.func 98) #[] #[.pointer (some ⟨bn,0,none⟩),.pointer (some ⟨bc,0,none⟩)]
def Wa (r:Nat×Int)(B:Nat)(w0:World)(bn bc:Nat)(e:Ending)(w':World):Prop:=e=.returned (.int .i64 r.2)∧Box w' bn 3 #[.int .i64 r.1]∧Box w' bc 128 #[mR bn bc]∧Below B w0 w'
theorem Ge {w0:World}{bn bc:Nat}(g1:w0.heap.size≤bn)(g3:bn≠bc) :
  ∀(f d:Nat) (kd lb:Int) (A:OAd) (n c had:Nat) (ks:List aW) (w:World),41≤had+f→had≤40→vD d w0 A n c ks→Box w bn 3 #[.int .i64 had]→Box w bc 128 #[mR bn bc]→Below w0.heap.size w0 w →
   Calls Tryz.prog 98 #[.agg #[.int .i64 kd,.int .i64 lb,.slice A n c],.pointer (some ⟨bn,0,none⟩),.pointer (some ⟨bc,0,none⟩)] w (Wa (bX f (.mk kd lb ks) had) w0.heap.size w0 bn bc):=by
 have henter:∀(args:Array Value) (w:World),Sem.run Tryz.prog (callFunc 98 args) w=.ok (.enter 98 args) w:=fun args w=>by kernel_rfl
 intro f;induction f with
 | zero =>
  intro d kd lb A n c had ks w hf h41 hK hN hC hB;exact absurd hf (by omega)
 | succ f ih =>
  intro d kd lb A n c had ks w hf h41 hK hN hC hB;obtain⟨h1,hh1⟩:∃h1:Nat,had+1=h1:=⟨_,rfl⟩;have hh1i:(had:Int)+1=(h1:Int):=by omega
  have HL:=aA (show ks.length=n from hK.len);have FULL:=aA (show 40<had+1→bX (f+1) (.mk kd lb ks) had=(had+1,4)from fun h=>by rw[bX,if_pos h]);have BAD:=aA (show ¬40<had+1→dL kd lb n≠0→bX (f+1) (.mk kd lb ks) had=(had+1,dL kd lb n)from fun h g=>by rw[bX,if_neg h];simp only[aW.kind,aW.label,aW.kids,HL.o];rw[if_pos g]);have GOOD:=aA (show ¬40<had+1→dL kd lb n=0→bX (f+1) (.mk kd lb ks) had=ks.foldl (bM (bX f)) (had+1,0)from fun h g=>by rw[bX,if_neg h];simp only[aW.kind,aW.label,aW.kids,HL.o];rw[if_neg (by rw[g];simp)]);have bb:=aB w (.cells #[.int .i64 kd,.int .i64 lb,.slice A n c] 71);have BN:=aA (hN.keep bb);have BC:=aA (hC.keep bb);have BX:=aA (hB.trans (bb.mono hB.size));have BB:=aA (Box.new w #[.int .i64 kd,.int .i64 lb,.slice A n c] 71);have NEB:=aA (show w.heap.size≠bn from fun e=>by have:=hN.lt;omega);have G:=aA (show w0.heap.size≤bn∧bn≠bc∧w0.heap.size≤w.heap.size from⟨g1,g3,hB.size⟩);have hns:=hK.small;have K:=aA hK;clear hK hN hC hB bb g1 g3;have IH:=aA ih;clear ih;go_enter Tryz.func98,Tryz.ntmps98
  go_upto_region 1 with fail
  generalize w.alloc (.cells #[.int .i64 kd,.int .i64 lb,.slice A n c] 71)=u at *
  generalize w.heap.size=bb at *
  have x0:=BN.o.cell 0;have f0:=BN.o.frozen 0;simp only[List.getElem?_toArray,List.getElem?_cons_zero]at x0;have N2:=aA (show Box (u.setCell ⟨bn,0,none⟩ (.int .i64 (h1:Int))) bn 3 #[.int .i64 (h1:Int)] by simpa using BN.o.set 0 (.int .i64 (h1:Int)));have C2:=aA (BC.o.other (a:=⟨bn,0,none⟩) (.int .i64 (h1:Int)) G.o.2.1.symm);have X2:=aA (BX.o.setCell (p:=⟨bn,0,none⟩) G.o.1 (.int .i64 (h1:Int)));have B2:=aA (BB.o.other (a:=⟨bn,0,none⟩) (.int .i64 (h1:Int)) NEB.o);clear BN BC BX BB;go_upto_region 2 with fail
  clear x0 f0;generalize u.setCell ⟨bn,0,none⟩ (.int .i64 (h1:Int))=u2 at *
  have x0:=N2.o.cell 0;simp only[List.getElem?_toArray,List.getElem?_cons_zero]at x0;obtain⟨b0,b1,b2⟩:=B2.o.three;by_cases hov:40<had+1
  ·have FIN:=aA (FULL.o hov);have hovi:(40:Int)<(h1:Int):=by omega
   go_wp2
   go_ret
   rw[FIN.o];exact⟨by first|rfl|simp,by rw[hh1];exact N2.o,C2.o,X2.o⟩
  ·have hovi:¬(40:Int)<(h1:Int):=by omega
   by_cases hk1:kd<1
   ·have HD:=aA (show dL kd lb n=5 by rw[dL,if_pos (.inl hk1)]);have FIN:=aA (BAD.o (by omega) (by rw[HD.o];decide));rw[HD.o]at FIN;go_wp2
    go_ret
    rw[FIN.o];exact⟨by first|rfl|simp,by rw[hh1];exact N2.o,C2.o,X2.o⟩
   ·by_cases hk6:6<kd
    ·have HD:=aA (show dL kd lb n=5 by rw[dL,if_pos (.inr hk6)]);have FIN:=aA (BAD.o (by omega) (by rw[HD.o];decide));rw[HD.o]at FIN;go_wp2
     go_ret
     rw[FIN.o];exact⟨by first|rfl|simp,by rw[hh1];exact N2.o,C2.o,X2.o⟩
    ·have hk:kd=1∨kd=2∨kd=3∨kd=4∨kd=5∨kd=6:=by omega
     clear hk1 hk6;rcases hk with rfl|rfl|rfl|rfl|rfl|rfl
     ·by_cases hn0:n=0
      ·have hn0i:¬(0:Int)<(n:Int):=by omega
       have HD:=aA (show dL 1 lb n=0 by unfold dL;simp <;> omega);subst hn0;have FIN:=aA (GOOD.o (by omega) HD.o);rw[hh1]at FIN;clear FULL BAD GOOD HD;go_upto_region 12 with fail
       clear x0 b0 b1 b2;obtain⟨b0,b1,b2⟩:=B2.o.three;go_wp2
       clear b0 b1 b2;go_loopw [66] (fun v wr=>∃(i hd:Nat),i≤0∧v=.int .i64 i∧had+1≤hd∧hd≤40∧Hid ((ks.take i).foldl (bM (bX f)) (h1,0)=(hd,0))∧Hid (Box wr bn 3 #[.int .i64 hd])∧Hid (Box wr bc 128 #[mR bn bc])∧Hid (Below w0.heap.size w0 wr)) (fun v _=>0-(intOf v).toNat)
       case atStart=>exact⟨0,h1,Nat.zero_le _,rfl,by omega,by omega,rfl,N2,C2,X2⟩
       case round =>
        clear N2 C2 X2 B2;obtain⟨i,hd,hi,rfl,hd1,hd2,FO,N2,C2,X2⟩:=hrel;by_cases hlt:i<0
        ·exact absurd hlt (by omega)
        ·obtain rfl:i=0:=by omega
         have FE:=aA (show ks.foldl (bM (bX f)) (h1,0)=(hd,0) by have:=FO.o;rwa[List.take_of_length_le (by rw[HL.o];exact Nat.le_refl _)]at this);go_wp2
         go_ret
         rw[FIN.o,FE.o];exact⟨by first|rfl|simp,N2.o,C2.o,X2.o⟩
      ·have hn0i:(0:Int)<(n:Int):=by omega
       have hn0j:¬(n:Int)=0:=by omega
       have HD:=aA (show dL 1 lb n=1 by unfold dL;simp <;> omega);have FIN:=aA (BAD.o (by omega) (by rw[HD.o];decide));rw[HD.o]at FIN;go_wp2
       go_ret
       rw[FIN.o];exact⟨by first|rfl|simp,by rw[hh1];exact N2.o,C2.o,X2.o⟩
     ·by_cases hl1:lb<1
      ·skip
       have HD:=aA (show dL 2 lb n=2 by unfold dL;simp <;> omega);have FIN:=aA (BAD.o (by omega) (by rw[HD.o];decide));rw[HD.o]at FIN;go_wp2
       go_ret
       rw[FIN.o];exact⟨by first|rfl|simp,by rw[hh1];exact N2.o,C2.o,X2.o⟩
      ·by_cases hl2:26<lb
       ·skip
        have HD:=aA (show dL 2 lb n=2 by unfold dL;simp <;> omega);have FIN:=aA (BAD.o (by omega) (by rw[HD.o];decide));rw[HD.o]at FIN;go_wp2
        go_ret
        rw[FIN.o];exact⟨by first|rfl|simp,by rw[hh1];exact N2.o,C2.o,X2.o⟩
       ·by_cases hn0:n=0
        ·have hn0i:¬(0:Int)<(n:Int):=by omega
         have HD:=aA (show dL 2 lb n=0 by unfold dL;simp <;> omega);subst hn0;have FIN:=aA (GOOD.o (by omega) HD.o);rw[hh1]at FIN;clear FULL BAD GOOD HD;go_upto_region 12 with fail
         clear x0 b0 b1 b2;obtain⟨b0,b1,b2⟩:=B2.o.three;go_wp2
         clear b0 b1 b2;go_loopw [66] (fun v wr=>∃(i hd:Nat),i≤0∧v=.int .i64 i∧had+1≤hd∧hd≤40∧Hid ((ks.take i).foldl (bM (bX f)) (h1,0)=(hd,0))∧Hid (Box wr bn 3 #[.int .i64 hd])∧Hid (Box wr bc 128 #[mR bn bc])∧Hid (Below w0.heap.size w0 wr)) (fun v _=>0-(intOf v).toNat)
         case atStart=>exact⟨0,h1,Nat.zero_le _,rfl,by omega,by omega,rfl,N2,C2,X2⟩
         case round =>
          clear N2 C2 X2 B2;obtain⟨i,hd,hi,rfl,hd1,hd2,FO,N2,C2,X2⟩:=hrel;by_cases hlt:i<0
          ·exact absurd hlt (by omega)
          ·obtain rfl:i=0:=by omega
           have FE:=aA (show ks.foldl (bM (bX f)) (h1,0)=(hd,0) by have:=FO.o;rwa[List.take_of_length_le (by rw[HL.o];exact Nat.le_refl _)]at this);go_wp2
           go_ret
           rw[FIN.o,FE.o];exact⟨by first|rfl|simp,N2.o,C2.o,X2.o⟩
        ·have hn0i:(0:Int)<(n:Int):=by omega
         have hn0j:¬(n:Int)=0:=by omega
         have HD:=aA (show dL 2 lb n=1 by unfold dL;simp <;> omega);have FIN:=aA (BAD.o (by omega) (by rw[HD.o];decide));rw[HD.o]at FIN;go_wp2
         go_ret
         rw[FIN.o];exact⟨by first|rfl|simp,by rw[hh1];exact N2.o,C2.o,X2.o⟩
     ·by_cases hn0:n=0
      ·subst hn0;have HD:=aA (show dL 3 lb 0=1 by unfold dL;simp);have FIN:=aA (BAD.o (by omega) (by rw[HD.o];decide));rw[HD.o]at FIN;go_wp2
       go_ret
       rw[FIN.o];exact⟨by first|rfl|simp,by rw[hh1];exact N2.o,C2.o,X2.o⟩
      ·have hn0i:¬(n:Int)=0:=by omega
       have HD:=aA (show dL 3 lb n=0 by unfold dL;simp <;> omega);have FIN:=aA (GOOD.o (by omega) HD.o);rw[hh1]at FIN;clear FULL BAD GOOD HD;go_upto_region 12 with fail
       clear x0 b0 b1 b2;obtain⟨b0,b1,b2⟩:=B2.o.three;go_wp2
       clear b0 b1 b2;go_loopw [66] (fun v wr=>∃(i hd:Nat),i≤n∧v=.int .i64 i∧had+1≤hd∧hd≤40∧Hid ((ks.take i).foldl (bM (bX f)) (h1,0)=(hd,0))∧Hid (Box wr bn 3 #[.int .i64 hd])∧Hid (Box wr bc 128 #[mR bn bc])∧Hid (Below w0.heap.size w0 wr)) (fun v _=>n-(intOf v).toNat)
       case atStart=>exact⟨0,h1,Nat.zero_le _,rfl,by omega,by omega,rfl,N2,C2,X2⟩
       case round =>
        clear N2 C2 X2 B2;obtain⟨i,hd,hi,rfl,hd1,hd2,FO,N2,C2,X2⟩:=hrel;by_cases hlt:i<n
        ·have hki:(i:Int)<(n:Int):=by omega
         obtain⟨bl,off,kd',lb',ks',B',m',e',d',rfl,rfl,hbl,hx,p0,p1,p2,K'⟩:=K.o.get hlt;have q0:=(X2.o.cell (p:=⟨bl,_,none⟩) hbl).trans p0;have q1:=(X2.o.cell (p:=⟨bl,_,none⟩) hbl).trans p1;have q2:=(X2.o.cell (p:=⟨bl,_,none⟩) hbl).trans p2;have TK:=aA (lA (g:=bX f) (s:=(h1,0)) hx.o);rw[FO.o]at TK;have TB:=aA (fun h=>mQ (g:=bX f) (s:=(h1,0)) (l:=ks) (i:=i+1) h);obtain⟨r,hr⟩:∃r,bX f (.mk kd' lb' ks') hd=r:=⟨_,rfl⟩;have hst:bM (bX f) (hd,0) (.mk kd' lb' ks')=r:=by rw[bM,if_pos rfl];exact hr
         rw[hst]at TK;rw[TK.o]at TB;have GR:=aA (gJ f (.mk kd' lb' ks') hd);rw[hr]at GR;have bb2:=aB wr (.cells #[.int .i64 kd',.int .i64 lb',.slice B' m' e'] 71);have N3:=aA (N2.o.keep bb2);have C3:=aA (C2.o.keep bb2);have X3:=aA (X2.o.trans (bb2.mono X2.o.size));have CI:=aA (IH.o d' kd' lb' B' m' e' hd ks' (wr.alloc (.cells #[.int .i64 kd',.int .i64 lb',.slice B' m' e'] 71)) (by omega) hd2 K'.o N3.o C3.o X3.o);rw[hr]at CI;have xc:=C2.o.cell 0;have xc3:=C3.o.cell 0;simp only[List.getElem?_toArray,List.getElem?_cons_zero]at xc xc3;clear p0 p1 p2 hr hst bb2 hx;obtain⟨rh,re⟩:=r;by_cases hre:re=0
         ·subst hre;obtain⟨gr1,gr2⟩:=GR.o rfl;simp only at gr1 gr2;go_wp2_with (refine CI.o.mono ?_;rintro e w4 ⟨rfl,n4,c4,x4⟩;have N4:=aA n4;have C4:=aA c4;have X4:=aA x4;clear n4 c4 x4)
          go_roundw
          case rel=>exact⟨i+1,rh,by omega,by go_num,by omega,gr2,TK,N4,C4,X4⟩
          case measure=>simp[intOf];omega
         ·have FE:=aA (TB.o hre);go_wp2_with (refine CI.o.mono ?_;rintro e w4 ⟨rfl,n4,c4,x4⟩;have N4:=aA n4;have C4:=aA c4;have X4:=aA x4;clear n4 c4 x4)
          go_ret
          rw[FIN.o,FE.o];exact⟨by first|rfl|simp,N4.o,C4.o,X4.o⟩
        ·obtain rfl:i=n:=by omega
         have FE:=aA (show ks.foldl (bM (bX f)) (h1,0)=(hd,0) by have:=FO.o;rwa[List.take_of_length_le (by rw[HL.o];exact Nat.le_refl _)]at this);go_wp2
         go_ret
         rw[FIN.o,FE.o];exact⟨by first|rfl|simp,N2.o,C2.o,X2.o⟩
     ·by_cases hn0:n=0
      ·subst hn0;have HD:=aA (show dL 4 lb 0=1 by unfold dL;simp);have FIN:=aA (BAD.o (by omega) (by rw[HD.o];decide));rw[HD.o]at FIN;go_wp2
       go_ret
       rw[FIN.o];exact⟨by first|rfl|simp,by rw[hh1];exact N2.o,C2.o,X2.o⟩
      ·have hn0i:¬(n:Int)=0:=by omega
       have HD:=aA (show dL 4 lb n=0 by unfold dL;simp <;> omega);have FIN:=aA (GOOD.o (by omega) HD.o);rw[hh1]at FIN;clear FULL BAD GOOD HD;go_upto_region 12 with fail
       clear x0 b0 b1 b2;obtain⟨b0,b1,b2⟩:=B2.o.three;go_wp2
       clear b0 b1 b2;go_loopw [66] (fun v wr=>∃(i hd:Nat),i≤n∧v=.int .i64 i∧had+1≤hd∧hd≤40∧Hid ((ks.take i).foldl (bM (bX f)) (h1,0)=(hd,0))∧Hid (Box wr bn 3 #[.int .i64 hd])∧Hid (Box wr bc 128 #[mR bn bc])∧Hid (Below w0.heap.size w0 wr)) (fun v _=>n-(intOf v).toNat)
       case atStart=>exact⟨0,h1,Nat.zero_le _,rfl,by omega,by omega,rfl,N2,C2,X2⟩
       case round =>
        clear N2 C2 X2 B2;obtain⟨i,hd,hi,rfl,hd1,hd2,FO,N2,C2,X2⟩:=hrel;by_cases hlt:i<n
        ·have hki:(i:Int)<(n:Int):=by omega
         obtain⟨bl,off,kd',lb',ks',B',m',e',d',rfl,rfl,hbl,hx,p0,p1,p2,K'⟩:=K.o.get hlt;have q0:=(X2.o.cell (p:=⟨bl,_,none⟩) hbl).trans p0;have q1:=(X2.o.cell (p:=⟨bl,_,none⟩) hbl).trans p1;have q2:=(X2.o.cell (p:=⟨bl,_,none⟩) hbl).trans p2;have TK:=aA (lA (g:=bX f) (s:=(h1,0)) hx.o);rw[FO.o]at TK;have TB:=aA (fun h=>mQ (g:=bX f) (s:=(h1,0)) (l:=ks) (i:=i+1) h);obtain⟨r,hr⟩:∃r,bX f (.mk kd' lb' ks') hd=r:=⟨_,rfl⟩;have hst:bM (bX f) (hd,0) (.mk kd' lb' ks')=r:=by rw[bM,if_pos rfl];exact hr
         rw[hst]at TK;rw[TK.o]at TB;have GR:=aA (gJ f (.mk kd' lb' ks') hd);rw[hr]at GR;have bb2:=aB wr (.cells #[.int .i64 kd',.int .i64 lb',.slice B' m' e'] 71);have N3:=aA (N2.o.keep bb2);have C3:=aA (C2.o.keep bb2);have X3:=aA (X2.o.trans (bb2.mono X2.o.size));have CI:=aA (IH.o d' kd' lb' B' m' e' hd ks' (wr.alloc (.cells #[.int .i64 kd',.int .i64 lb',.slice B' m' e'] 71)) (by omega) hd2 K'.o N3.o C3.o X3.o);rw[hr]at CI;have xc:=C2.o.cell 0;have xc3:=C3.o.cell 0;simp only[List.getElem?_toArray,List.getElem?_cons_zero]at xc xc3;clear p0 p1 p2 hr hst bb2 hx;obtain⟨rh,re⟩:=r;by_cases hre:re=0
         ·subst hre;obtain⟨gr1,gr2⟩:=GR.o rfl;simp only at gr1 gr2;go_wp2_with (refine CI.o.mono ?_;rintro e w4 ⟨rfl,n4,c4,x4⟩;have N4:=aA n4;have C4:=aA c4;have X4:=aA x4;clear n4 c4 x4)
          go_roundw
          case rel=>exact⟨i+1,rh,by omega,by go_num,by omega,gr2,TK,N4,C4,X4⟩
          case measure=>simp[intOf];omega
         ·have FE:=aA (TB.o hre);go_wp2_with (refine CI.o.mono ?_;rintro e w4 ⟨rfl,n4,c4,x4⟩;have N4:=aA n4;have C4:=aA c4;have X4:=aA x4;clear n4 c4 x4)
          go_ret
          rw[FIN.o,FE.o];exact⟨by first|rfl|simp,N4.o,C4.o,X4.o⟩
        ·obtain rfl:i=n:=by omega
         have FE:=aA (show ks.foldl (bM (bX f)) (h1,0)=(hd,0) by have:=FO.o;rwa[List.take_of_length_le (by rw[HL.o];exact Nat.le_refl _)]at this);go_wp2
         go_ret
         rw[FIN.o,FE.o];exact⟨by first|rfl|simp,N2.o,C2.o,X2.o⟩
     ·by_cases hn0:n=0
      ·subst hn0;have HD:=aA (show dL 5 lb 0=1 by unfold dL;simp);have FIN:=aA (BAD.o (by omega) (by rw[HD.o];decide));rw[HD.o]at FIN;go_wp2
       go_ret
       rw[FIN.o];exact⟨by first|rfl|simp,by rw[hh1];exact N2.o,C2.o,X2.o⟩
      ·have hn0i:¬(n:Int)=0:=by omega
       have HD:=aA (show dL 5 lb n=0 by unfold dL;simp <;> omega);have FIN:=aA (GOOD.o (by omega) HD.o);rw[hh1]at FIN;clear FULL BAD GOOD HD;go_upto_region 12 with fail
       clear x0 b0 b1 b2;obtain⟨b0,b1,b2⟩:=B2.o.three;go_wp2
       clear b0 b1 b2;go_loopw [66] (fun v wr=>∃(i hd:Nat),i≤n∧v=.int .i64 i∧had+1≤hd∧hd≤40∧Hid ((ks.take i).foldl (bM (bX f)) (h1,0)=(hd,0))∧Hid (Box wr bn 3 #[.int .i64 hd])∧Hid (Box wr bc 128 #[mR bn bc])∧Hid (Below w0.heap.size w0 wr)) (fun v _=>n-(intOf v).toNat)
       case atStart=>exact⟨0,h1,Nat.zero_le _,rfl,by omega,by omega,rfl,N2,C2,X2⟩
       case round =>
        clear N2 C2 X2 B2;obtain⟨i,hd,hi,rfl,hd1,hd2,FO,N2,C2,X2⟩:=hrel;by_cases hlt:i<n
        ·have hki:(i:Int)<(n:Int):=by omega
         obtain⟨bl,off,kd',lb',ks',B',m',e',d',rfl,rfl,hbl,hx,p0,p1,p2,K'⟩:=K.o.get hlt;have q0:=(X2.o.cell (p:=⟨bl,_,none⟩) hbl).trans p0;have q1:=(X2.o.cell (p:=⟨bl,_,none⟩) hbl).trans p1;have q2:=(X2.o.cell (p:=⟨bl,_,none⟩) hbl).trans p2;have TK:=aA (lA (g:=bX f) (s:=(h1,0)) hx.o);rw[FO.o]at TK;have TB:=aA (fun h=>mQ (g:=bX f) (s:=(h1,0)) (l:=ks) (i:=i+1) h);obtain⟨r,hr⟩:∃r,bX f (.mk kd' lb' ks') hd=r:=⟨_,rfl⟩;have hst:bM (bX f) (hd,0) (.mk kd' lb' ks')=r:=by rw[bM,if_pos rfl];exact hr
         rw[hst]at TK;rw[TK.o]at TB;have GR:=aA (gJ f (.mk kd' lb' ks') hd);rw[hr]at GR;have bb2:=aB wr (.cells #[.int .i64 kd',.int .i64 lb',.slice B' m' e'] 71);have N3:=aA (N2.o.keep bb2);have C3:=aA (C2.o.keep bb2);have X3:=aA (X2.o.trans (bb2.mono X2.o.size));have CI:=aA (IH.o d' kd' lb' B' m' e' hd ks' (wr.alloc (.cells #[.int .i64 kd',.int .i64 lb',.slice B' m' e'] 71)) (by omega) hd2 K'.o N3.o C3.o X3.o);rw[hr]at CI;have xc:=C2.o.cell 0;have xc3:=C3.o.cell 0;simp only[List.getElem?_toArray,List.getElem?_cons_zero]at xc xc3;clear p0 p1 p2 hr hst bb2 hx;obtain⟨rh,re⟩:=r;by_cases hre:re=0
         ·subst hre;obtain⟨gr1,gr2⟩:=GR.o rfl;simp only at gr1 gr2;go_wp2_with (refine CI.o.mono ?_;rintro e w4 ⟨rfl,n4,c4,x4⟩;have N4:=aA n4;have C4:=aA c4;have X4:=aA x4;clear n4 c4 x4)
          go_roundw
          case rel=>exact⟨i+1,rh,by omega,by go_num,by omega,gr2,TK,N4,C4,X4⟩
          case measure=>simp[intOf];omega
         ·have FE:=aA (TB.o hre);go_wp2_with (refine CI.o.mono ?_;rintro e w4 ⟨rfl,n4,c4,x4⟩;have N4:=aA n4;have C4:=aA c4;have X4:=aA x4;clear n4 c4 x4)
          go_ret
          rw[FIN.o,FE.o];exact⟨by first|rfl|simp,N4.o,C4.o,X4.o⟩
        ·obtain rfl:i=n:=by omega
         have FE:=aA (show ks.foldl (bM (bX f)) (h1,0)=(hd,0) by have:=FO.o;rwa[List.take_of_length_le (by rw[HL.o];exact Nat.le_refl _)]at this);go_wp2
         go_ret
         rw[FIN.o,FE.o];exact⟨by first|rfl|simp,N2.o,C2.o,X2.o⟩
     ·by_cases hn0:n=2
      ·have hn0i:(n:Int)=2:=by omega
       have HD:=aA (show dL 6 lb n=0 by unfold dL;simp <;> omega);subst hn0;have FIN:=aA (GOOD.o (by omega) HD.o);rw[hh1]at FIN;clear FULL BAD GOOD HD;go_upto_region 12 with fail
       clear x0 b0 b1 b2;obtain⟨b0,b1,b2⟩:=B2.o.three;go_wp2
       clear b0 b1 b2;go_loopw [66] (fun v wr=>∃(i hd:Nat),i≤2∧v=.int .i64 i∧had+1≤hd∧hd≤40∧Hid ((ks.take i).foldl (bM (bX f)) (h1,0)=(hd,0))∧Hid (Box wr bn 3 #[.int .i64 hd])∧Hid (Box wr bc 128 #[mR bn bc])∧Hid (Below w0.heap.size w0 wr)) (fun v _=>2-(intOf v).toNat)
       case atStart=>exact⟨0,h1,Nat.zero_le _,rfl,by omega,by omega,rfl,N2,C2,X2⟩
       case round =>
        clear N2 C2 X2 B2;obtain⟨i,hd,hi,rfl,hd1,hd2,FO,N2,C2,X2⟩:=hrel;by_cases hlt:i<2
        ·have hki:(i:Int)<(2:Int):=by omega
         obtain⟨bl,off,kd',lb',ks',B',m',e',d',rfl,rfl,hbl,hx,p0,p1,p2,K'⟩:=K.o.get hlt;have q0:=(X2.o.cell (p:=⟨bl,_,none⟩) hbl).trans p0;have q1:=(X2.o.cell (p:=⟨bl,_,none⟩) hbl).trans p1;have q2:=(X2.o.cell (p:=⟨bl,_,none⟩) hbl).trans p2;have TK:=aA (lA (g:=bX f) (s:=(h1,0)) hx.o);rw[FO.o]at TK;have TB:=aA (fun h=>mQ (g:=bX f) (s:=(h1,0)) (l:=ks) (i:=i+1) h);obtain⟨r,hr⟩:∃r,bX f (.mk kd' lb' ks') hd=r:=⟨_,rfl⟩;have hst:bM (bX f) (hd,0) (.mk kd' lb' ks')=r:=by rw[bM,if_pos rfl];exact hr
         rw[hst]at TK;rw[TK.o]at TB;have GR:=aA (gJ f (.mk kd' lb' ks') hd);rw[hr]at GR;have bb2:=aB wr (.cells #[.int .i64 kd',.int .i64 lb',.slice B' m' e'] 71);have N3:=aA (N2.o.keep bb2);have C3:=aA (C2.o.keep bb2);have X3:=aA (X2.o.trans (bb2.mono X2.o.size));have CI:=aA (IH.o d' kd' lb' B' m' e' hd ks' (wr.alloc (.cells #[.int .i64 kd',.int .i64 lb',.slice B' m' e'] 71)) (by omega) hd2 K'.o N3.o C3.o X3.o);rw[hr]at CI;have xc:=C2.o.cell 0;have xc3:=C3.o.cell 0;simp only[List.getElem?_toArray,List.getElem?_cons_zero]at xc xc3;clear p0 p1 p2 hr hst bb2 hx;obtain⟨rh,re⟩:=r;by_cases hre:re=0
         ·subst hre;obtain⟨gr1,gr2⟩:=GR.o rfl;simp only at gr1 gr2;go_wp2_with (refine CI.o.mono ?_;rintro e w4 ⟨rfl,n4,c4,x4⟩;have N4:=aA n4;have C4:=aA c4;have X4:=aA x4;clear n4 c4 x4)
          go_roundw
          case rel=>exact⟨i+1,rh,by omega,by go_num,by omega,gr2,TK,N4,C4,X4⟩
          case measure=>simp[intOf];omega
         ·have FE:=aA (TB.o hre);go_wp2_with (refine CI.o.mono ?_;rintro e w4 ⟨rfl,n4,c4,x4⟩;have N4:=aA n4;have C4:=aA c4;have X4:=aA x4;clear n4 c4 x4)
          go_ret
          rw[FIN.o,FE.o];exact⟨by first|rfl|simp,N4.o,C4.o,X4.o⟩
        ·obtain rfl:i=2:=by omega
         have FE:=aA (show ks.foldl (bM (bX f)) (h1,0)=(hd,0) by have:=FO.o;rwa[List.take_of_length_le (by rw[HL.o];exact Nat.le_refl _)]at this);go_wp2
         go_ret
         rw[FIN.o,FE.o];exact⟨by first|rfl|simp,N2.o,C2.o,X2.o⟩
      ·by_cases hn1:n=0
       ·subst hn1;have HD:=aA (show dL 6 lb 0=1 by unfold dL;simp);have FIN:=aA (BAD.o (by omega) (by rw[HD.o];decide));rw[HD.o]at FIN;go_wp2
        go_ret
        rw[FIN.o];exact⟨by first|rfl|simp,by rw[hh1];exact N2.o,C2.o,X2.o⟩
       ·have hn0i:¬(n:Int)=0:=by omega
        have hn2i:¬(n:Int)=2:=by omega
        have hnb:((n:Int) != 2)=true:=by simpa using hn2i
        have HD:=aA (show dL 6 lb n=1 by unfold dL;simp <;> omega);have FIN:=aA (BAD.o (by omega) (by rw[HD.o];decide));rw[HD.o]at FIN;go_wp2
        go_ret
        rw[FIN.o];exact⟨by first|rfl|simp,by rw[hh1];exact N2.o,C2.o,X2.o⟩
end Go.Proofs.YtfmnagcglhlicaaGreat
