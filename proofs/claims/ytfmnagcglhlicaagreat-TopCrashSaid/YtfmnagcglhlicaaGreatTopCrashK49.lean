/- Texts melted into one: The contract of cases.Do where something is done (ways [4]). Conditions: the net and the case read as lists. | The contract of PDo where nothing is done. Conditions: t -/
import Derived.Test.YtfmnagcglhlicaaGreatTopCrashK48
import Derived.Deep.RegionLawGrows
import Derived.Deep.CutBlock
import Derived.Test.YtfmnagcglhlicaaGreatTopCrashK47
set_option maxRecDepth 100000
set_option maxHeartbeats 8000000
namespace Go.Proofs.YtfmnagcglhlicaaGreat
open Go.RowKit
theorem Ya {w:World}{P:Int}{A B D:OAd}{n c m d l k:Nat}{ts:List aI}{p:a8}(i:Nat)(T:aI)(hT:ts[i]?=some T)(hok:cI ⟨P,ts⟩ p=true)(hl0:¬T.label=0)(h:bK w A n c ts)(g:aJ w B m d p.mark)(b:aJ w D l k p.busy)(hl:l≤17592186044416) :
  Calls Tryz.prog 39 #[.agg #[.int .i64 P,.slice A n c],.agg #[.slice B m d,.slice D l k],.agg #[.int .i64 4,.int .i64 i]] w (hZ (doL ⟨P,ts⟩ p 4 i) w):=by
 obtain⟨B0',X0,X1,X2,X3⟩:=Ej w #[.int .i64 P,.slice A n c] #[.slice B m d,.slice D l k] #[.int .i64 4,.int .i64 i] #[.slice none 0 0,.slice none 0 0] 24 30 117 30;have B0:=aA B0';have HX0:=aA X0;have HX1:=aA X1;have HX2:=aA X2;have HX3:=aA X3;clear B0' X0 X1 X2 X3;have hn:=h.small;have hm:=g.small;have H:=aA h;have G:=aA g;have BB:=aA b;have hin:i<n:=by rw[←h.len];exact(List.getElem?_eq_some_iff.1 hT).1
 have hini:(i:Int)<(n:Int):=by omega
 have hi0:(0:Int)≤(i:Int):=by omega
 have HT:=aA hT;have HO:=aA hok;have hcase:=(bB _ _).1 hok;have hnt:=cB hcase.1 hT;have hm16:m≤16:=by have h1:=((aQ _).1 hcase.1).2.1;have h2:=hcase.2.1;rw[g.len]at h2;simp only[]at h1 h2;omega
 have hil:i<l:=by have h1:=hcase.2.2.2.1;rw[b.len]at h1;simp only[]at h1;rw[h.len]at h1;omega
 have HRB:=aA hcase.2.2.2.2;obtain⟨r,hr⟩:∃r,pW p.busy i (-1)=r:=⟨_,rfl⟩;obtain⟨q,hq⟩:∃q,yQ p.mark T.pre=q:=⟨_,rfl⟩;have FIN:=aA (show doL ⟨P,ts⟩ p 4 (i:Int)=AX r q by
  have hg:lL 4 T=T.pre:=by simp[lL]
  rw[AW hok (by omega) hT,if_pos (by simp[hl0]),TZ (by simp) hcase.2.2.1 (by rw[hg];exact dI hnt.2.2.2.2.1) hcase.2.2.2.2,hg,hq,hr])
 have HQ:=aA hq;have HR:=aA hr;clear hq hr;clear hT hok hcase hnt h g b;go_enter Tryz.func39,Tryz.ntmps39
 go_wp2_with fail
 refine(eO (P:=P) (p:=p) (H.o.keep B0.o) (G.o.keep B0.o) (BB.o.keep B0.o)).mono ?_;rw[HO.o];rintro e w1 ⟨rfl,hb⟩;have B1:=aA (B0.o.trans (hb.mono B0.o.size));have Y0:=aA (HX0.o.keep hb);have Y1:=aA (HX1.o.keep hb);have Y2:=aA (HX2.o.keep hb);have Y3:=aA (HX3.o.keep hb);clear hb HX0 HX1 HX2 HX3;obtain⟨a0,a1⟩:=Y0.o.two;obtain⟨b0,b1⟩:=Y1.o.two;obtain⟨d0,d1⟩:=Y2.o.two;obtain⟨bl,off,T',A1,n1,c1,A2,n2,c2,rfl,hbl,hT',q0',q1',q2',i1,i2,m1,m2⟩:=bK.get H.o hin;obtain rfl:T'=T:=by have:=hT'.o;rw[HT.o]at this;injection this with this;exact this.symm
 have hne:(T'.label==0)=false:=by simpa using hl0
 have q0:=(B1.o.cell (p:=⟨bl,off+i*3,none⟩) hbl).trans q0';have q1:=(B1.o.cell (p:=⟨bl,off+i*3+1,none⟩) hbl).trans q1';have q2:=(B1.o.cell (p:=⟨bl,off+i*3+2,none⟩) hbl).trans q2';have I1:=aA i1;have I2:=aA i2;clear i1 i2 q0' q1' q2' hl0;go_wp2
 go_quiet (fail)
 have Z0:=aA (Y0.o.drewN nq);have Z1:=aA (Y1.o.drewN nq);have Z2:=aA (Y2.o.drewN nq);have Z3:=aA (Y3.o.drewN nq);have D2:=aA (B1.o.trans ((Drew.drewN w1 nq).below.mono B1.o.size));have e0:(w1.drewN nq).cell? ⟨bl,off+i*3,none⟩=some (.int .i64 T'.label):=q0;have e1:(w1.drewN nq).cell? ⟨bl,off+i*3+1,none⟩=some (.slice A1 n1 c1):=q1;have e2:(w1.drewN nq).cell? ⟨bl,off+i*3+2,none⟩=some (.slice A2 n2 c2):=q2;generalize w1.drewN nq=w2 at *
 clear Y0 Y1 Y2 Y3 a0 a1 b0 b1 d0 d1 q0 q1 q2;obtain⟨a0,a1⟩:=Z0.o.two;obtain⟨b0,b1⟩:=Z1.o.two;obtain⟨d0,d1⟩:=Z2.o.two;go_wp2
 generalize hw3:w2.alloc (.cells #[.int .i64 T'.label,.slice A1 n1 c1,.slice A2 n2 c2] 49)=w3;have V0:=aA (show Box w3 _ _ _ by rw[←hw3];exact Z0.o.old _);have V1:=aA (show Box w3 _ _ _ by rw[←hw3];exact Z1.o.old _);have V2:=aA (show Box w3 _ _ _ by rw[←hw3];exact Z2.o.old _);have V3:=aA (show Box w3 _ _ _ by rw[←hw3];exact Z3.o.old _);have V4:=aA (show Box w3 w2.heap.size 49 #[.int .i64 T'.label,.slice A1 n1 c1,.slice A2 n2 c2] by rw[←hw3];exact Box.new _ _ _);have D3:=aA (show Below w.heap.size w w3 by rw[←hw3];exact D2.o.alloc D2.o.size _);clear hw3 Z0 Z1 Z2 Z3 a0 a1 b0 b1 d0 d1 e0 e1 e2;obtain⟨bx,hbx⟩:∃bx,w2.heap.size=bx:=⟨_,rfl⟩;rw[hbx]at V4;rw[hbx];clear hbx D2 B1;obtain⟨b0,b1⟩:=V1.o.two;refine aF 5 (.takes [0,1,2,3] (.one 4 (.fins [5,6,7] .done))) (fun w'=>w'.cell? ⟨w.heap.size+1,0,none⟩=some (.slice B m d)∧w'.cell? ⟨w.heap.size+1,1,none⟩=some (.slice D l k)) (by kernel_rfl) (by kernel_rfl) (by kernel_rfl) (fun _ _ _ _ _ h=>h) ⟨b0,b1⟩ (fun hH=>?_);simp only[Scr.takes,Scr.fins]
 iterate 4
  refine aH (v:=?_) rfl (by rfl) hH (fun w' hSw=>?_) ?_
  rotate_left
  ·(go_simp;try with_reducible rfl)
  simp only[Act.put,aL,aM,aN]
 refine bI rfl (fun K hK=>?_);go_simp;go_at_call 73
 (with_reducible refine(bE (BB.o.keep (D3.o.trans (((Below.refl _ _).drew:Below w3.heap.size w3 w3.drew).mono D3.o.size))) hl).mono ?_)
 rintro e w4 ⟨v,rfl,own,hb4⟩;obtain⟨C4,k4,rfl,own4⟩:=own.sl (by omega);have hb4':Below w3.heap.size w3 w4:=((Below.refl _ _).drew:Below w3.heap.size w3 w3.drew).trans hb4;have U0:=aA (V0.o.keep hb4');have U1:=aA (V1.o.keep hb4');have U2:=aA (V2.o.keep hb4');have U3:=aA (V3.o.keep hb4');have U4:=aA (V4.o.keep hb4');have D4:=aA (D3.o.trans (hb4'.mono D3.o.size));have HF4:=aA ((aC.fresh own rfl).mono (show w.heap.size≤w3.drew.heap.size from D3.o.size));have O4:=aA (show aJ w4 C4 l k4 p.busy from own4);clear own own4 hb4 hb4' V0 V1 V2 V3 V4 b0 b1;obtain⟨a0,a1⟩:=U0.o.two;obtain⟨b0,b1⟩:=U1.o.two;obtain⟨d0,d1⟩:=U2.o.two;obtain⟨t0,t1,t2⟩:=U4.o.three;refine hK.out _ _ ⟨b0,b1⟩ (fun hH=>?_);clear hK
 iterate 3
  refine bF rfl (fun K hK=>?_);go_simp
  refine hK.out _ _ ?_;clear hK;try simp only[Act.put,aL,aM,aN]
 refine bP ?_;go_wp2_with fail
 refine(rF i (-1) (BB.o.keep D4.o) hl hil HRB.o (by omega) (by omega)).mono ?_;rw[HR.o];rintro e w5 ⟨C5,l5,k5,rfl,i5,hb,hf5⟩;have HF5:=aA (hf5.mono D4.o.size);clear hf5;have I5:=aA i5;have D5:=aA (D4.o.trans (hb.mono D4.o.size));have W0:=aA (U0.o.keep hb);have W1:=aA (U1.o.keep hb);have W2:=aA (U2.o.keep hb);have W3:=aA (U3.o.keep hb);have W4:=aA (U4.o.keep hb);clear hb i5 U0 U1 U2 U3 U4;clear a0 a1 b0 b1 d0 d1 t0 t1 t2;obtain⟨a0,a1⟩:=W0.o.two;obtain⟨b0,b1⟩:=W1.o.two;obtain⟨d0,d1⟩:=W2.o.two;obtain⟨t0,t1,t2⟩:=W4.o.three;by_cases hz:r.2=0
 ·have F1:=aA (show doL ⟨P,ts⟩ p 4 (i:Int)=if q.2=0 then(⟨q.1,r.1⟩,0)else(a8.nil,q.2) by rw[FIN.o,AX,if_pos hz]);rw[hz];clear hz;go_wp2_with fail
  refine(pA (G.o.keep D5.o) (I1.o.keep D5.o) (by omega)).mono ?_;rw[HQ.o];rintro e w6 ⟨C6,l6,k6,rfl,i6,hb,hf6⟩;have HF6:=aA (hf6.mono D5.o.size);clear hf6;have I6:=aA i6;have J5:=aA (I5.o.keep hb);have D6:=aA (D5.o.trans (hb.mono D5.o.size));have R0:=aA (W0.o.keep hb);have R1:=aA (W1.o.keep hb);have R2:=aA (W2.o.keep hb);have R3:=aA (W3.o.keep hb);have R4:=aA (W4.o.keep hb);clear hb i6 W0 W1 W2 W3 W4;clear a0 a1 b0 b1 d0 d1 t0 t1 t2;obtain⟨a0,a1⟩:=R0.o.two;obtain⟨b0,b1⟩:=R1.o.two;obtain⟨d0,d1⟩:=R2.o.two;obtain⟨t0,t1,t2⟩:=R4.o.three;by_cases hy:q.2=0
  ·have FE:=aA (show doL ⟨P,ts⟩ p 4 (i:Int)=(⟨q.1,r.1⟩,0) by rw[F1.o,if_pos hy]);rw[hy];clear hy;obtain⟨z0,z1⟩:=R3.o.two;have zf:=R3.o.frozen 0;have zg:=R3.o.frozen 1;go_wp2
   obtain⟨r0,r1⟩:=(R3.o.set2 (.slice C6 l6 k6) (.slice C5 l5 k5)).two;exact bodyPost_ret (v:=.tuple #[.agg #[.slice C6 l6 k6,.slice C5 l5 k5],.int .i64 0]) (by simp[results,Tryz.results39,go_sem,r0,r1]) rfl
    ⟨_,_,_,_,_,_,by rw[FE.o],by rw[FE.o];exact(I6.o).beside R3.o jF (aK.set2 _ _ _ _ _ _),by rw[FE.o];exact(J5.o).beside R3.o jF (aK.set2 _ _ _ _ _ _),(D6.o.setCell (by show w.heap.size≤w.heap.size+1+1+1;omega) _).setCell (by show w.heap.size≤w.heap.size+1+1+1;omega) _,HF6.o,HF5.o⟩
  ·have FE:=aA (show doL ⟨P,ts⟩ p 4 (i:Int)=(a8.nil,q.2) by rw[F1.o,if_neg hy]);have hne2:(q.2==0)=false:=by simpa using hy
   have hne3:(q.2 != 0)=true:=by simpa using hy
   clear hy;go_wp2_with fail
   refine(bN _ q.2).mono ?_;rintro e we ⟨rfl,hbe⟩;have Ze:=aA (R3.o.keep hbe);obtain⟨z0,z1⟩:=Ze.o.two;have zf:=Ze.o.frozen 0;have zg:=Ze.o.frozen 1;have Be:=aA (D6.o.trans (hbe.mono D6.o.size));clear hbe;go_wp2
   obtain⟨r0,r1⟩:=(Ze.o.set2 (.slice none 0 0) (.slice none 0 0)).two;exact bodyPost_ret (v:=.tuple #[.agg #[.slice none 0 0,.slice none 0 0],.int .i64 (q.2)]) (by simp[results,Tryz.results39,go_sem,r0,r1]) rfl (by rw[FE.o];exact hZ.no ((Be.o.setCell (by show w.heap.size≤w.heap.size+1+1+1;omega) _).setCell (by show w.heap.size≤w.heap.size+1+1+1;omega) _))
 ·have FE:=aA (show doL ⟨P,ts⟩ p 4 (i:Int)=(a8.nil,r.2) by rw[FIN.o,AX,if_neg hz]);have hne2:(r.2==0)=false:=by simpa using hz
  have hne3:(r.2 != 0)=true:=by simpa using hz
  clear hz;go_wp2_with fail
  refine(bN _ r.2).mono ?_;rintro e we ⟨rfl,hbe⟩;have Ze:=aA (W3.o.keep hbe);obtain⟨z0,z1⟩:=Ze.o.two;have zf:=Ze.o.frozen 0;have zg:=Ze.o.frozen 1;have Be:=aA (D5.o.trans (hbe.mono D5.o.size));clear hbe;go_wp2
  obtain⟨r0,r1⟩:=(Ze.o.set2 (.slice none 0 0) (.slice none 0 0)).two;exact bodyPost_ret (v:=.tuple #[.agg #[.slice none 0 0,.slice none 0 0],.int .i64 (r.2)]) (by simp[results,Tryz.results39,go_sem,r0,r1]) rfl (by rw[FE.o];exact hZ.no ((Be.o.setCell (by show w.heap.size≤w.heap.size+1+1+1;omega) _).setCell (by show w.heap.size≤w.heap.size+1+1+1;omega) _))
theorem qZ {w:World}{P:Int}{A B D:OAd}{n c m d l k:Nat}{ts:List aI}{p:a8}(kd t:Int)(h:bK w A n c ts)(g:aJ w B m d p.mark)(b:aJ w D l k p.busy)(hl:l≤17592186044416) :
  Calls Tryz.prog 39 #[.agg #[.int .i64 P,.slice A n c],.agg #[.slice B m d,.slice D l k],.agg #[.int .i64 kd,.int .i64 t]] w (hZ (doL ⟨P,ts⟩ p kd t) w):=by
 by_cases hg:∃(i:Nat) (T:aI),t=(i:Int)∧ts[i]?=some T∧cI ⟨P,ts⟩ p=true∧1≤kd∧kd≤4∧(kd=1↔T.label=0)
 ·obtain⟨i,T,rfl,hT,hok,h1,h4,hlk⟩:=hg;have hk:kd=1∨kd=2∨kd=3∨kd=4:=by omega
  rcases hk with rfl|rfl|rfl|rfl
  ·exact XV i T hT hok (hlk.1 rfl) h g b hl
  ·exact XW i T hT hok (fun e=>by have:=hlk.2 e;omega) h g b hl
  ·exact XZ i T hT hok (fun e=>by have:=hlk.2 e;omega) h g b hl
  ·exact Ya i T hT hok (fun e=>by have:=hlk.2 e;omega) h g b hl
 ·exact Wy kd t h g b (fun i T ht hT hok h1 h4 hlk=>hg ⟨i,T,ht,hT,hok,h1,h4,hlk⟩)
theorem Ek {w:World}{P:Int}{A B S:OAd}{n c m d l e0:Nat}{ts:List aI}{xs seq:LIn}(h:bK w A n c ts)(g:aJ w B m d xs)(hm:m≤17592186044416)(s:aJ w S l e0 seq) :
  Calls Tryz.prog 41 #[.agg #[.int .i64 P,.slice A n c],.slice B m d,.slice S l e0] w (Jz (MJ ⟨P,ts⟩ xs seq) w):=by
 have HB:=aA (aB w);have hl:=s.small;have G:=aA g;have H:=aA h;have SS:=aA s;have SL:=aA s.len;clear g h s;cases hok:dS ⟨P,ts⟩ xs
 ·have W0:=aA (jB hok);have FIN:=aA (show MJ ⟨P,ts⟩ xs seq=([],2)from by rw[MJ,hok];rfl);clear hok;go_enter Tryz.func41,Tryz.ntmps41
  go_wp2_with fail
  refine(dG (P:=P) (H.o.keep (HB.o _)) (G.o.keep (HB.o _))).mono ?_;rw[W0.o];rintro e w1 ⟨rfl,hb⟩;have B1:=aA ((HB.o (.cells #[.int .i64 P,.slice A n c] 24)).trans (hb.mono (by simp)));clear hb;go_wp2
  go_ret2
  exact⟨none,0,0,by rw[FIN.o];rfl,by rw[FIN.o];exact Sl.nil0,B1.o⟩
 ·have W0:=aA (pS hok);have FIN:=aA (show MJ ⟨P,ts⟩ xs seq=uA ⟨P,ts⟩ xs seq from by rw[MJ,if_pos hok]);clear hok;go_enter Tryz.func41,Tryz.ntmps41
  go_wp2_with fail
  refine(dG (P:=P) (H.o.keep (HB.o _)) (G.o.keep (HB.o _))).mono ?_;rw[W0.o];rintro e w1 ⟨rfl,hb⟩;have B1:=aA ((HB.o (.cells #[.int .i64 P,.slice A n c] 24)).trans (hb.mono (by simp)));have c10:w1.cell? ⟨w.heap.size,0,none⟩=some (.int .i64 P):=(hb.cell (by simp)).trans (by simp);have c11:w1.cell? ⟨w.heap.size,1,none⟩=some (.slice A n c):=(hb.cell (by simp)).trans (by simp);have hsz:w.heap.size<w1.heap.size:=by have:=hb.size;simp at this;omega
  clear hb;go_wp2_with fail
  refine(bE (G.o.keep B1.o) hm).mono ?_;rintro e w2 ⟨v2,rfl,own,hb2⟩;obtain⟨C,k2,hv,hi⟩:=own.sl (by omega);subst hv;have c20:=(hb2.cell (p:=⟨w.heap.size,0,none⟩) hsz).trans c10;have c21:=(hb2.cell (p:=⟨w.heap.size,1,none⟩) hsz).trans c11;have hsz2:=Nat.lt_of_lt_of_le hsz hb2.size;have HI:=aA hi;have B2:=aA (B1.o.trans (hb2.mono B1.o.size));clear own hb2 hi c10 c11;go_wp2
  go_loopw [1,23] (fun v i wr=>∃(k:Nat) (C:OAd) (q cc:Nat) (mk:LIn),k≤l∧i=.int .i64 k∧v=.slice C q cc∧Hid (aJ wr C q cc mk)∧Hid (Below w2.heap.size w2 wr)∧Hid (uA ⟨P,ts⟩ xs seq=uA ⟨P,ts⟩ mk (seq.drop k))) (fun _ i _=>l-(intOf i).toNat)
  case atStart=>exact⟨0,C,m,k2,xs,Nat.zero_le _,rfl,rfl,HI.o,Below.refl _ _,rfl⟩
  case round =>
   obtain⟨k,C1,q1,cc1,mk,hk,rfl,rfl,hI,hB,hL⟩:=hrel;by_cases hlt:k<l
   ·have BW:=aA (B2.o.trans (hB.o.mono B2.o.size));obtain⟨b,off,t,rfl,hbl,ht,hc⟩:=(SS.o.keep BW.o).get hlt;have d0:=(hB.o.cell (p:=⟨w.heap.size,0,none⟩) hsz2).trans c20;have d1:=(hB.o.cell (p:=⟨w.heap.size,1,none⟩) hsz2).trans c21;obtain⟨r,hr⟩:∃r,bW ⟨P,ts⟩ mk t=r:=⟨_,rfl⟩;have HR:=aA hr;have LL:=aA (show(bW ⟨P,ts⟩ mk t).1.length≤16 from AT);have DC:=aA (MP ht.o);go_wp2_with fail
    refine(JB (P:=P) (H.o.keep BW.o) hI.o t).mono ?_;rw[HR.o];rintro e w3 ⟨C3,l3,k3,rfl,i3,b3⟩;have I3:=aA i3;have B3:=aA (hB.o.trans (b3.mono hB.o.size));clear i3 b3 hr;by_cases he:r.2=0
    ·have HE:=aA he;have hr2:(r.2 != 0)=false:=by simp[he]
     clear he;go_wp2
     go_roundw
     case rel=>exact⟨k+1,C3,l3,k3,r.1,by omega,by go_num,rfl,I3,B3,aA (by rw[hL.o,DC.o,xG (by rw[HR.o];exact HE.o),HR.o])⟩
     case measure=>simp[intOf];omega
    ·have HE:=aA he;have hr2:(r.2 != 0)=true:=by simpa using he
     have FIN2:=aA (show MJ ⟨P,ts⟩ xs seq=([],r.2)from by
      rw[FIN.o,hL.o,DC.o,Jn (by rw[HR.o];exact he)];have:=AS (N:=⟨P,ts⟩) (m:=mk) (t:=t) (by rw[HR.o];exact he);rw[HR.o]at this ⊢;rw[←this])
     have BF:=aA (B2.o.trans (B3.o.mono B2.o.size));clear he;go_wp2
     go_ret2
     exact⟨none,0,0,by rw[FIN2.o];rfl,by rw[FIN2.o];exact Sl.nil0,BF.o⟩
   ·have FIN2:=aA (show MJ ⟨P,ts⟩ xs seq=(mk,0)from by
     rw[FIN.o,hL.o,List.drop_eq_nil_of_le (by rw[SL.o];omega)];rfl)
    have BF:=aA (B2.o.trans (hB.o.mono B2.o.size));go_wp2
    go_ret2
    exact⟨_,_,_,by rw[FIN2.o];rfl,by rw[FIN2.o];exact hI.o,BF.o⟩
open Go.Maps
theorem LC {N:aS}{c c':a8}{it:cQ}{r:List cQ}(h:qJ N c (it::r)=some c'):(it.open_=true∧(doL N c 3 it.tran).2=0∧qJ N (doL N c 3 it.tran).1 r=some c')∨(it.open_=false∧qJ N c r=some c'):=by
 unfold qJ at h;split at h
 ·rename_i ho
  split at h
  ·rename_i hd
   exact .inl ⟨ho,hd,h⟩
  ·cases h
 ·rename_i ho
  exact .inr ⟨by simpa using ho,h⟩
theorem Je {w:World}{C:OAd}{n c b:Nat}(h:dK w C)(hb:b<w.heap.size):some b≠(Value.slice C n c).ownBlock:=by
 cases C with
 | none=>exact fun e=>nomatch e
 | some a =>
  intro e;have:=h a rfl;injection e with e;omega
theorem Aq {w:World} {P:Int} {A B D I:OAd} {n c m d l f ni ci:Nat} {ts:List aI} {K:aX} {cf:a8} {E:LIn} (o:Int) (h:bK w A n c ts) (dw:f7 w B m d D l f I ni ci K)
  (hE:E=gX (min P 16).toNat o) (hs:K.case_.busy.length≤24∧K.case_.mark.length≤16∧ts.length≤24) (he:qJ ⟨P,ts⟩ K.case_ K.items=some cf) (hc:cf.mark.length≤16) (hp:(o0 ⟨P,ts⟩ cf.mark E 300).2=0) (hr:MJ ⟨P,ts⟩ cf.mark (o0 ⟨P,ts⟩ cf.mark E 300).1=(E,0)) :
  Calls Tryz.prog 15 #[.agg #[.int .i64 P,.slice A n c],.int .i64 o,.agg #[.slice B m d,.slice D l f,.slice I ni ci]] w fun e w'=>e=.returned (.bool true)∧Below w.heap.size w w':=by
 have B0:=aA ((aB w (.cells #[.int .i64 P,.slice A n c] 24)).alloc (by simp) (.cells #[.slice B m d,.slice D l f,.slice I ni ci] 33));have T3:=aA ((Box.new w #[.int .i64 P,.slice A n c] 24).old (.cells #[.slice B m d,.slice D l f,.slice I ni ci] 33));have T5:=aA (Box.newAt (w:=w.alloc (.cells #[.int .i64 P,.slice A n c] 24)) (n:=w.heap.size+1) (by simp) #[.slice B m d,.slice D l f,.slice I ni ci] 33);have H0:=aA (h.keep B0.o);have DW:=aA (dw.keep B0.o);have HE:=aA hE;have HS:=aA hs;have HEC:=aA he;have HC:=aA hc;have HP:=aA hp;have HR:=aA hr;clear h dw hE hs he hc hp hr;go_enter Tryz.func15,Tryz.ntmps15
 go_upto_region 1 with fail
 generalize (w.alloc (.cells #[.int .i64 P,.slice A n c] 24)).alloc (.cells #[.slice B m d,.slice D l f,.slice I ni ci] 33)=w1 at *
 generalize w.heap.size=b3 at T3 T5;obtain⟨d0,d1,d2⟩:=T5.o.three;have B7:=aA (aB w1 (.cells #[.slice B m d,.slice D l f] 30));have T7:=aA (Box.new w1 #[.slice B m d,.slice D l f] 30);have T37:=aA (T3.o.keep B7.o);have T57:=aA (T5.o.keep B7.o);have NE:=aA (show b3<w1.heap.size∧b3+1<w1.heap.size from⟨T3.o.lt,T5.o.lt⟩);have D7:=aA (B0.o.trans (B7.o.mono B0.o.size));have I1:=aA (DW.o.mark.keep B7.o);have I2:=aA (DW.o.busy.keep B7.o);go_upto_region 2 with fail
 clear d0 d1 d2;generalize hw2:w1.alloc (.cells #[.slice B m d,.slice D l f] 30)=w2 at *
 clear hw2;obtain⟨b7,hb7⟩:∃x,x=w1.heap.size:=⟨_,rfl⟩;rw[←hb7]at T7 NE;rw[←hb7];have HB7:=aA hb7;clear hb7;obtain⟨d0,d1,d2⟩:=T57.o.three;have HNI:=aA (show K.items.length=ni from DW.o.items.len);have SZ:=aA (show b7<w2.heap.size from T7.o.lt);go_wp2
 clear d0 d1 d2;go_loopg [20] ni (fun gk s20 wr=>∃(k:Nat) (cc:a8) (B' D':OAd) (m' d' l' f':Nat),s20=.int .i64 (k:Nat)∧Hid (k+gk=ni)∧Hid (qJ ⟨P,ts⟩ cc (K.items.drop k)=some cf∧cc.busy.length≤24)∧Hid (Box wr b7 30 #[.slice B' m' d',.slice D' l' f'])∧Hid (aJ wr B' m' d' cc.mark)∧Hid (aJ wr D' l' f' cc.busy)∧Hid (w2.grownBy wr (some b7)))
 case atStart=>exact⟨0,K.case_,B,D,m,d,l,f,rfl,aA (by omega),aA ⟨by rw[List.drop_zero];exact HEC.o,HS.o.1⟩,T7,I1,I2,aA ⟨rfl,rfl,rfl,Nat.le_refl _,fun _ _ _=>rfl⟩⟩
 case round =>
  clear T7 I1 I2;obtain⟨k,cc,B',D',m',d',l',f',rfl,hgk,HX,X7,J1,J2,GR⟩:=hrel;have DR:=aA (D7.o.grown GR.o D7.o.size (fun q hq=>by injection hq with hq;have:=HB7.o;have:=B0.o.size;omega));have B1r:=aA (B7.o.grown GR.o B7.o.size (fun q hq=>by injection hq with hq;have:=HB7.o;omega));have T3r:=aA (T37.o.grown GR.o (fun e=>by injection e with e;have:=NE.o.1;omega));have Hr:=aA (H0.o.keep B1r.o);by_cases hk:k<ni
  ·have hki:(k:Int)<(ni:Int):=by omega
   obtain⟨bi,oi,it,eI,hbi,hit,i0,i1,i2⟩:=Hm.get (Sl.keep iL.kept DW.o.items B1r.o) hk;subst eI;have HJ:=aA (show gk-1<gk∧(k+1)+(gk-1)=ni by have:=hgk.o;omega);have hwk:IntKind.i64.wrap ((k:Int)+1)=((k+1:Nat):Int):=by
    have:=DW.o.items.small;simp[IntKind.wrap,IntKind.bits,IntKind.signed];omega
   have HD:=aA (show K.items.drop k=it::K.items.drop (k+1) by
    have hlt:k<K.items.length:=by rw[HNI.o];exact hk
    rw[List.drop_eq_getElem_cons hlt];have h1:=hit.o;rw[List.getElem?_eq_getElem hlt]at h1;injection h1 with h1;rw[h1])
   have HCO:=aA (LC (by have:=HX.o.1;rw[HD.o]at this;exact this));have BA:=aA (aB wr (.cells #[.int .i64 it.user,.int .i64 it.tran,.bool it.open_] 42));have T9:=aA (Box.new wr #[.int .i64 it.user,.int .i64 it.tran,.bool it.open_] 42);have T3a:=aA (T3r.o.keep BA.o);have X7a:=aA (X7.o.keep BA.o);have J1a:=aA (J1.o.keep BA.o);have J2a:=aA (J2.o.keep BA.o);have Ha:=aA (Hr.o.keep BA.o);have GRa:=aA (show w2.grownBy (wr.alloc (.cells #[.int .i64 it.user,.int .i64 it.tran,.bool it.open_] 42)) (some b7)from⟨BA.o.os.trans GR.o.os,BA.o.tape.trans GR.o.tape,BA.o.output.trans GR.o.output,Nat.le_trans GR.o.size BA.o.size,fun q hq hne=>(BA.o.block q (Nat.lt_of_lt_of_le hq GR.o.size)).trans (GR.o.block q hq hne)⟩);clear hbi hit hk;go_upto_region 5 with fail
   clear i0 i1 i2;generalize hwA:wr.alloc (.cells #[.int .i64 it.user,.int .i64 it.tran,.bool it.open_] 42)=wA at *
   clear hwA;generalize wr.heap.size=b9 at T9;obtain⟨t0,t1,t2⟩:=T9.o.three;obtain⟨ov,hov⟩:∃v,it.open_=v:=⟨_,rfl⟩;rw[hov]at t2;have HOV:=aA hov;clear hov;cases ov
   ·have HN:=aA (show qJ ⟨P,ts⟩ cc (K.items.drop (k+1))=some cf from by
     rcases HCO.o with h1|h1
     ·rw[HOV.o]at h1;cases h1.1
     ·exact h1.2)
    go_wp2
    go_roundg (gk-1)
    case measure=>exact HJ.o.1
    case rel=>exact⟨k+1,cc,B',D',m',d',l',f',rfl,aA HJ.o.2,aA ⟨HN.o,HX.o.2⟩,X7a,J1a,J2a,GRa⟩
   ·have HN:=aA (show(doL ⟨P,ts⟩ cc 3 it.tran).2=0∧qJ ⟨P,ts⟩ (doL ⟨P,ts⟩ cc 3 it.tran).1 (K.items.drop (k+1))=some cf from by
     rcases HCO.o with h1|h1
     ·exact h1.2
     ·rw[HOV.o]at h1;cases h1.1)
    have CD:=aA (qZ (P:=P) 3 it.tran Ha.o J1a.o J2a.o (by have h1:=J2a.o.len;have h2:=HX.o.2;omega));obtain⟨pd,hpd⟩:∃q,doL ⟨P,ts⟩ cc 3 it.tran=q:=⟨_,rfl⟩;have HBL:=aA (show pd.1.busy.length≤24 from by
     have h1:=(bB _ _).1 (AU HN.o.1);rw[hpd]at h1;have h2:=h1.2.2.2.1;have h3:=HS.o.2.2;simp only at h2;omega)
    rw[hpd]at CD HN;obtain⟨pc,pe⟩:=pd;have hpe:pe=0:=HN.o.1;subst hpe;obtain⟨n0,n1⟩:=T3a.o.two;obtain⟨k0,k1⟩:=X7a.o.two;clear hpd;go_wp2_with fail
    refine CD.o.mono ?_;rintro e wq ⟨A8,n8,c8,B8,m8,d8,rfl,i8,j8,hbq,f8,g8⟩;have X7q:=aA (X7a.o.keep hbq);have SZq:=aA (show b7<wA.heap.size from X7a.o.lt);have G1:=cR wq b7 0 (.slice A8 n8 c8);have G2:=cR (wq.setCell ⟨b7,0,none⟩ (.slice A8 n8 c8)) b7 1 (.slice B8 m8 d8);have GG:=IZ G1 G2;have J1n:=aA (aJ.keepRow i8 GG (.inr (Je f8 SZq.o)));have J2n:=aA (aJ.keepRow j8 GG (.inr (Je g8 SZq.o)));have X7n:=aA (show Box ((wq.setCell ⟨b7,0,none⟩ (.slice A8 n8 c8)).setCell ⟨b7,1,none⟩ (.slice B8 m8 d8)) b7 30 #[.slice A8 n8 c8,.slice B8 m8 d8]from by have:=(X7q.o.set 0 (.slice A8 n8 c8)).set 1 (.slice B8 m8 d8);simpa using this);have GRn:=aA (show w2.grownBy ((wq.setCell ⟨b7,0,none⟩ (.slice A8 n8 c8)).setCell ⟨b7,1,none⟩ (.slice B8 m8 d8)) (some b7)from IZ ⟨hbq.os.trans GRa.o.os,hbq.tape.trans GRa.o.tape,hbq.output.trans GRa.o.output,Nat.le_trans GRa.o.size hbq.size,fun q hq hne=>(hbq.block q (Nat.lt_of_lt_of_le hq GRa.o.size)).trans (GRa.o.block q hq hne)⟩ GG);obtain⟨u0,u1⟩:=X7q.o.two;have fz:=fun q=>X7q.o.frozen q
    clear i8 j8 hbq f8 g8 G1 G2 GG CD n0 n1 k0 k1 t0 t1 t2;go_wp2
    go_roundg (gk-1)
    case measure=>exact HJ.o.1
    case rel=>exact⟨k+1,pc,A8,B8,n8,c8,m8,d8,rfl,aA HJ.o.2,aA ⟨HN.o.2,HBL.o⟩,X7n,J1n,J2n,GRn⟩
  ·have hki:¬(k:Int)<(ni:Int):=by omega
   have HCF:=aA (show cc=cf from by
    have h1:=HX.o.1;rw[List.drop_of_length_le (by rw[HNI.o];omega)]at h1;exact Option.some.inj h1)
   obtain rfl:cc=cf:=HCF.o;clear hk;have n0:=T3r.o.cell 0;have n1:=T3r.o.cell 1;have k0:=X7.o.cell 0;go_wp2_with fail
   have BD:=aA ((Below.refl wr.heap.size wr).drew);refine aF 11 (.takes [0,1,2,3,4] (.one 5 (.one 6 (.takes [7,8,9,10] (.fin 11 .done))))) (fun w'=>w'.cell? ⟨b3,0,none⟩=some (.int .i64 P)∧w'.cell? ⟨b3,1,none⟩=some (.slice A n c)∧w'.cell? ⟨b7,0,none⟩=some (.slice B' m' d')) (by kernel_rfl) (by kernel_rfl) (by kernel_rfl) (fun _ _ _ _ _ h=>h) ⟨n0,n1,k0⟩ (fun hH=>?_);simp only[Scr.takes];clear n0 n1 k0;generalize wr.drew=wd at *
   iterate 5
    refine aH (v:=?_) rfl (by rfl) hH (fun w' hSw=>?_) ?_
    rotate_left
    ·(go_simp;try with_reducible rfl)
    try simp only[Act.put,aL,aM,aN]
   refine bI rfl (fun Kf hKf=>?_);go_simp
   refine(dY wd P o A n c).mono ?_;rintro e w5 ⟨C5,k5,rfl,i5,hb5,_⟩;have E5:=aA (BD.o.trans (hb5.mono BD.o.size));have I5:=aA (show aJ w5 C5 (min P 16).toNat k5 E from by rw[HE.o];exact i5);clear i5 hb5;have n0w5:=(T3r.o.keep E5.o).cell 0;have n1w5:=(T3r.o.keep E5.o).cell 1;have k0w5:=(X7.o.keep E5.o).cell 0;refine hKf.out _ _ ⟨n0w5,n1w5,k0w5⟩ (fun hH=>?_);clear hKf n0w5 n1w5 k0w5;try simp only[Act.put,aL,aM,aN]
   have CPA:=aA (JR (P:=P) 300 (Hr.o.keep E5.o) (J1.o.keep E5.o) I5.o);obtain⟨pp,hpp⟩:∃q,o0 ⟨P,ts⟩ cc.mark E 300=q:=⟨_,rfl⟩;rw[hpp]at CPA HP HR;obtain⟨pl,pe⟩:=pp;have hpe:pe=0:=HP.o;subst hpe;clear hpp;refine bI rfl (fun Kf hKf=>?_);go_simp
   refine CPA.o.mono ?_;rintro e w6 ⟨C6,l6,k6,rfl,i6,hb6⟩;have E6:=aA (E5.o.trans (hb6.mono E5.o.size));have I6:=aA i6;clear i6 hb6 CPA;have n0w6:=(T3r.o.keep E6.o).cell 0;have n1w6:=(T3r.o.keep E6.o).cell 1;have k0w6:=(X7.o.keep E6.o).cell 0;refine hKf.out _ _ ⟨n0w6,n1w6,k0w6⟩ (fun hH=>?_);clear hKf n0w6 n1w6 k0w6
   iterate 4
    refine aH (v:=?_) rfl (by rfl) hH (fun w' hSw=>?_) ?_
    rotate_left
    ·(go_simp;try with_reducible rfl)
    try simp only[Act.put,aL,aM,aN]
   refine bF rfl (fun Kf hKf=>?_);go_simp
   refine hKf.out _ _ ?_;clear hKf;try simp only[Act.put,aL,aM,aN]
   refine bP ?_;clear hH;have n0:=(T3r.o.keep E6.o).cell 0;have n1:=(T3r.o.keep E6.o).cell 1;have k0:=(X7.o.keep E6.o).cell 0;have CR:=aA (Ek (P:=P) (Hr.o.keep E6.o) (J1.o.keep E6.o) (by have h1:=J1.o.len;have h2:=HC.o;omega) I6.o);rw[HR.o]at CR;go_wp2_with fail
   refine CR.o.mono ?_;rintro e w7 ⟨C7,l7,k7,rfl,i7,hb7⟩;have E7:=aA (E6.o.trans (hb7.mono E6.o.size));have I7:=aA i7;have n0:=(T3r.o.keep E7.o).cell 0;have n1:=(T3r.o.keep E7.o).cell 1;clear i7 hb7 CR;go_wp2_with fail
   refine(dY w7 P o A n c).mono ?_;rintro e w8 ⟨C8,k8,rfl,i8,hb8,_⟩;have E8:=aA (E7.o.trans (hb8.mono E7.o.size));have CE:=aA (dT (I7.o.keep hb8) (show aJ w8 C8 (min P 16).toNat k8 E from by rw[HE.o];exact i8));rw[show(E==E)=true by simp]at CE;clear i8 hb8;go_wp2_with fail
   refine CE.o.mono ?_;rintro e w9 ⟨rfl,dr⟩;have E9:=aA (E8.o.trans (dr.below.mono E8.o.size));clear dr CE;go_wp2
   go_ret
   exact⟨rfl,DR.o.trans (E9.o.mono DR.o.size)⟩
end Go.Proofs.YtfmnagcglhlicaaGreat
