/- Texts melted into one: The contract of cases.Do where something is done (ways [2]). Conditions: the net and the case read as lists. | The contract of cases.Do where something is done (ways [3]). Conditions: the net and the case read as lists. | The contract of cases.Do where something is done (ways  -/
import Derived.Test.YtfmnagcglhlicaaGreatTopSaidK48
import Derived.Deep.RegionLawGrows
import Derived.Deep.CutBlock
set_option maxRecDepth 100000
namespace Go.Proofs.YtfmnagcglhlicaaGreat
open Go.RowKit
set_option maxHeartbeats 4000000 in
theorem Zul {w:World}{P:Int}{A B D:Option Addr}{n c m d l k:Nat}{ts:List Zak}{p:Zay}(i:Nat)(T:Zak)(hT:ts[i]?=some T)(hok:Zbb ⟨P,ts⟩ p=true)(hl0:¬T.label=0)(h:ZaP w A n c ts)(g:Zam w B m d p.mark)(b:Zam w D l k p.busy)(hl:l≤17592186044416) :
  Calls Tryz.prog 39 #[.agg #[.int .i64 P,.slice A n c],.agg #[.slice B m d,.slice D l k],.agg #[.int .i64 2,.int .i64 i]] w (Zcz (doL ⟨P,ts⟩ p 2 i) w):=by
 obtain⟨B0',X0,X1,X2,X3⟩:=Zk4 w #[.int .i64 P,.slice A n c] #[.slice B m d,.slice D l k] #[.int .i64 2,.int .i64 i] #[.slice none 0 0,.slice none 0 0] 24 30 117 30
 have B0:=Zaa B0'
 have HX0:=Zaa X0
 have HX1:=Zaa X1
 have HX2:=Zaa X2
 have HX3:=Zaa X3
 clear B0' X0 X1 X2 X3
 have hn:=h.small
 have hm:=g.small
 have H:=Zaa h
 have G:=Zaa g
 have BB:=Zaa b
 have hin:i<n:=by rw[←h.len];exact(List.getElem?_eq_some_iff.1 hT).1
 have hini:(i:Int)<(n:Int):=by omega
 have hi0:(0:Int)≤(i:Int):=by omega
 have HT:=Zaa hT
 have HO:=Zaa hok
 have hcase:=(ZaV _ _).1 hok
 have hnt:=Za1 hcase.1 hT
 have hm16:m≤16:=by have h1:=((Zar _).1 hcase.1).2.1;have h2:=hcase.2.1;rw[g.len]at h2;simp only[]at h1 h2;omega
 have hil:i<l:=by have h1:=hcase.2.2.2.1;rw[b.len]at h1;simp only[]at h1;rw[h.len]at h1;omega
 have HRB:=Zaa hcase.2.2.2.2
 obtain⟨q,hq⟩:∃q,Zgm p.mark T.pre=q:=⟨_,rfl⟩
 obtain⟨r,hr⟩:∃r,Zfx p.busy i 1=r:=⟨_,rfl⟩
 have FIN:=Zaa (show doL ⟨P,ts⟩ p 2 (i:Int)=Zic q r by
  rw[ZjS hok (by omega) hT,if_pos (by simp[hl0]),ZtI hcase.2.2.1 (Zbj hnt.2.2.2.2.1) hcase.2.2.2.2 (by rw[hcase.2.2.2.1];exact(List.getElem?_eq_some_iff.1 hT).1),hq,hr])
 have HQ:=Zaa hq
 have HR:=Zaa hr
 clear hq hr
 clear hT hok hcase hnt h g b
 go_enter Tryz.func39,Tryz.ntmps39
 go_wp2_with fail
 refine(ZbN (P:=P) (p:=p) (H.out.keep B0.out) (G.out.keep B0.out) (BB.out.keep B0.out)).mono ?_
 rw[HO.out]
 rintro e w1 ⟨rfl,hb⟩
 have B1:=Zaa (B0.out.trans (hb.mono B0.out.size))
 have Y0:=Zaa (HX0.out.keep hb)
 have Y1:=Zaa (HX1.out.keep hb)
 have Y2:=Zaa (HX2.out.keep hb)
 have Y3:=Zaa (HX3.out.keep hb)
 clear hb HX0 HX1 HX2 HX3
 obtain⟨a0,a1⟩:=Y0.out.two
 obtain⟨b0,b1⟩:=Y1.out.two
 obtain⟨d0,d1⟩:=Y2.out.two
 obtain⟨bl,off,T',A1,n1,c1,A2,n2,c2,rfl,hbl,hT',q0',q1',q2',i1,i2,m1,m2⟩:=ZaP.get H.out hin
 obtain rfl:T'=T:=by have:=hT'.out;rw[HT.out]at this;injection this with this;exact this.symm
 have hne:(T'.label==0)=false:=by simpa using hl0
 have q0:=(B1.out.cell (p:=⟨bl,off+i*3,none⟩) hbl).trans q0'
 have q1:=(B1.out.cell (p:=⟨bl,off+i*3+1,none⟩) hbl).trans q1'
 have q2:=(B1.out.cell (p:=⟨bl,off+i*3+2,none⟩) hbl).trans q2'
 have I1:=Zaa i1
 have I2:=Zaa i2
 clear i1 i2 q0' q1' q2' hl0
 go_wp2
 go_quiet (fail)
 have Z0:=Zaa (Y0.out.drewN nq)
 have Z1:=Zaa (Y1.out.drewN nq)
 have Z2:=Zaa (Y2.out.drewN nq)
 have Z3:=Zaa (Y3.out.drewN nq)
 have D2:=Zaa (B1.out.trans ((Drew.drewN w1 nq).below.mono B1.out.size))
 have e0:(w1.drewN nq).cell? ⟨bl,off+i*3,none⟩=some (.int .i64 T'.label):=q0
 have e1:(w1.drewN nq).cell? ⟨bl,off+i*3+1,none⟩=some (.slice A1 n1 c1):=q1
 have e2:(w1.drewN nq).cell? ⟨bl,off+i*3+2,none⟩=some (.slice A2 n2 c2):=q2
 generalize w1.drewN nq=w2 at *
 clear Y0 Y1 Y2 Y3 a0 a1 b0 b1 d0 d1 q0 q1 q2
 obtain⟨a0,a1⟩:=Z0.out.two
 obtain⟨b0,b1⟩:=Z1.out.two
 obtain⟨d0,d1⟩:=Z2.out.two
 go_wp2
 generalize hw3:w2.alloc (.cells #[.int .i64 T'.label,.slice A1 n1 c1,.slice A2 n2 c2] 49)=w3
 have V0:=Zaa (show Box w3 _ _ _ by rw[←hw3];exact Z0.out.old _)
 have V1:=Zaa (show Box w3 _ _ _ by rw[←hw3];exact Z1.out.old _)
 have V2:=Zaa (show Box w3 _ _ _ by rw[←hw3];exact Z2.out.old _)
 have V3:=Zaa (show Box w3 _ _ _ by rw[←hw3];exact Z3.out.old _)
 have V4:=Zaa (show Box w3 w2.heap.size 49 #[.int .i64 T'.label,.slice A1 n1 c1,.slice A2 n2 c2] by rw[←hw3];exact Box.new _ _ _)
 have D3:=Zaa (show Below w.heap.size w w3 by rw[←hw3];exact D2.out.alloc D2.out.size _)
 clear hw3 Z0 Z1 Z2 Z3 a0 a1 b0 b1 d0 d1 e0 e1 e2
 obtain⟨bx,hbx⟩:∃bx,w2.heap.size=bx:=⟨_,rfl⟩
 rw[hbx]at V4
 rw[hbx]
 clear hbx D2 B1
 obtain⟨b0,b1⟩:=V1.out.two
 refine Zae 5 (.takes [0,1,2,3] (.one 4 (.fins [5,6,7] .done))) (fun w'=>w'.cell? ⟨w.heap.size+1,0,none⟩=some (.slice B m d)∧w'.cell? ⟨w.heap.size+1,1,none⟩=some (.slice D l k)) (by kernel_rfl) (by kernel_rfl) (by kernel_rfl) (fun _ _ _ _ _ h=>h) ⟨b0,b1⟩ (fun hHeld=>?_)
 simp only[Scr.takes,Scr.fins]
 iterate 4
  refine Zac (v:=?_) rfl (by rfl) hHeld (fun w' hSw=>?_) ?_
  rotate_left
  ·(go_simp;try with_reducible rfl)
  simp only[Act.put,Zag,Zah,Zai]
 refine ZaC rfl (fun K hK=>?_)
 go_simp;go_at_call 73
 (with_reducible refine(ZaA (BB.out.keep (D3.out.trans (((Below.refl _ _).drew:Below w3.heap.size w3 w3.drew).mono D3.out.size))) hl).mono ?_)
 rintro e w4 ⟨v,rfl,own,hb4⟩
 obtain⟨C4,k4,rfl,own4⟩:=own.sl (by omega)
 have hb4':Below w3.heap.size w3 w4:=((Below.refl _ _).drew:Below w3.heap.size w3 w3.drew).trans hb4
 have U0:=Zaa (V0.out.keep hb4')
 have U1:=Zaa (V1.out.keep hb4')
 have U2:=Zaa (V2.out.keep hb4')
 have U3:=Zaa (V3.out.keep hb4')
 have U4:=Zaa (V4.out.keep hb4')
 have D4:=Zaa (D3.out.trans (hb4'.mono D3.out.size))
 have HF4:=Zaa ((Zad.fresh own rfl).mono (show w.heap.size≤w3.drew.heap.size from D3.out.size))
 have O4:=Zaa (show Zam w4 C4 l k4 p.busy from own4)
 clear own own4 hb4 hb4' V0 V1 V2 V3 V4 b0 b1
 obtain⟨a0,a1⟩:=U0.out.two
 obtain⟨b0,b1⟩:=U1.out.two
 obtain⟨d0,d1⟩:=U2.out.two
 obtain⟨t0,t1,t2⟩:=U4.out.three
 refine hK.out _ _ ⟨b0,b1⟩ (fun hHeld=>?_)
 clear hK
 iterate 3
  refine Zaz rfl (fun K hK=>?_)
  go_simp
  refine hK.out _ _ ?_
  clear hK
  try simp only[Act.put,Zag,Zah,Zai]
 refine ZaH ?_
 go_wp2_with fail
 refine(Zgq (G.out.keep D4.out) (I1.out.keep D4.out) (by omega)).mono ?_
 rw[HQ.out]
 rintro e w5 ⟨C5,l5,k5,rfl,i5,hb,hf5⟩
 have HF5:=Zaa (hf5.mono D4.out.size)
 clear hf5
 have I5:=Zaa i5
 have D5:=Zaa (D4.out.trans (hb.mono D4.out.size))
 have W0:=Zaa (U0.out.keep hb)
 have W1:=Zaa (U1.out.keep hb)
 have W2:=Zaa (U2.out.keep hb)
 have W3:=Zaa (U3.out.keep hb)
 have W4:=Zaa (U4.out.keep hb)
 clear hb i5 U0 U1 U2 U3 U4
 clear a0 a1 b0 b1 d0 d1 t0 t1 t2
 obtain⟨a0,a1⟩:=W0.out.two
 obtain⟨b0,b1⟩:=W1.out.two
 obtain⟨d0,d1⟩:=W2.out.two
 obtain⟨t0,t1,t2⟩:=W4.out.three
 by_cases hz:q.2=0
 ·have F1:=Zaa (show doL ⟨P,ts⟩ p 2 (i:Int)=if r.2=0 then(⟨q.1,r.1⟩,0)else(Zay.nil,r.2) by rw[FIN.out,Zic,if_pos hz])
  rw[hz]
  clear hz
  go_wp2_with fail
  refine(ZfV i 1 (BB.out.keep D5.out) hl hil HRB.out (by omega) (by omega)).mono ?_
  rw[HR.out]
  rintro e w6 ⟨C6,l6,k6,rfl,i6,hb,hf6⟩
  have HF6:=Zaa (hf6.mono D5.out.size)
  clear hf6
  have I6:=Zaa i6
  have J5:=Zaa (I5.out.keep hb)
  have D6:=Zaa (D5.out.trans (hb.mono D5.out.size))
  have R0:=Zaa (W0.out.keep hb)
  have R1:=Zaa (W1.out.keep hb)
  have R2:=Zaa (W2.out.keep hb)
  have R3:=Zaa (W3.out.keep hb)
  have R4:=Zaa (W4.out.keep hb)
  clear hb i6 W0 W1 W2 W3 W4
  clear a0 a1 b0 b1 d0 d1 t0 t1 t2
  obtain⟨a0,a1⟩:=R0.out.two
  obtain⟨b0,b1⟩:=R1.out.two
  obtain⟨d0,d1⟩:=R2.out.two
  obtain⟨t0,t1,t2⟩:=R4.out.three
  by_cases hy:r.2=0
  ·have FE:=Zaa (show doL ⟨P,ts⟩ p 2 (i:Int)=(⟨q.1,r.1⟩,0) by rw[F1.out,if_pos hy])
   rw[hy]
   clear hy
   obtain⟨z0,z1⟩:=R3.out.two
   have zf:=R3.out.frozen 0
   have zg:=R3.out.frozen 1
   go_wp2
   obtain⟨r0,r1⟩:=(R3.out.set2 (.slice C5 l5 k5) (.slice C6 l6 k6)).two
   exact bodyPost_ret (v:=.tuple #[.agg #[.slice C5 l5 k5,.slice C6 l6 k6],.int .i64 0]) (by simp[results,Tryz.results39,go_sem,r0,r1]) rfl
    ⟨_,_,_,_,_,_,by rw[FE.out],by rw[FE.out];exact(J5.out).beside R3.out ZcX (Zan.set2 _ _ _ _ _ _),by rw[FE.out];exact(I6.out).beside R3.out ZcX (Zan.set2 _ _ _ _ _ _),(D6.out.setCell (by show w.heap.size≤w.heap.size+1+1+1;omega) _).setCell (by show w.heap.size≤w.heap.size+1+1+1;omega) _,HF5.out,HF6.out⟩
  ·have FE:=Zaa (show doL ⟨P,ts⟩ p 2 (i:Int)=(Zay.nil,r.2) by rw[F1.out,if_neg hy])
   have hne2:(r.2==0)=false:=by simpa using hy
   have hne3:(r.2 != 0)=true:=by simpa using hy
   clear hy
   go_wp2_with fail
   refine(ZaJ _ r.2).mono ?_
   rintro e we ⟨rfl,hbe⟩
   have Ze:=Zaa (R3.out.keep hbe)
   obtain⟨z0,z1⟩:=Ze.out.two
   have zf:=Ze.out.frozen 0
   have zg:=Ze.out.frozen 1
   have Be:=Zaa (D6.out.trans (hbe.mono D6.out.size))
   clear hbe
   go_wp2
   obtain⟨r0,r1⟩:=(Ze.out.set2 (.slice none 0 0) (.slice none 0 0)).two
   exact bodyPost_ret (v:=.tuple #[.agg #[.slice none 0 0,.slice none 0 0],.int .i64 (r.2)]) (by simp[results,Tryz.results39,go_sem,r0,r1]) rfl (by rw[FE.out];exact Zcz.no ((Be.out.setCell (by show w.heap.size≤w.heap.size+1+1+1;omega) _).setCell (by show w.heap.size≤w.heap.size+1+1+1;omega) _))
 ·have FE:=Zaa (show doL ⟨P,ts⟩ p 2 (i:Int)=(Zay.nil,q.2) by rw[FIN.out,Zic,if_neg hz])
  have hne2:(q.2==0)=false:=by simpa using hz
  have hne3:(q.2 != 0)=true:=by simpa using hz
  clear hz
  go_wp2_with fail
  refine(ZaJ _ q.2).mono ?_
  rintro e we ⟨rfl,hbe⟩
  have Ze:=Zaa (W3.out.keep hbe)
  obtain⟨z0,z1⟩:=Ze.out.two
  have zf:=Ze.out.frozen 0
  have zg:=Ze.out.frozen 1
  have Be:=Zaa (D5.out.trans (hbe.mono D5.out.size))
  clear hbe
  go_wp2
  obtain⟨r0,r1⟩:=(Ze.out.set2 (.slice none 0 0) (.slice none 0 0)).two
  exact bodyPost_ret (v:=.tuple #[.agg #[.slice none 0 0,.slice none 0 0],.int .i64 (q.2)]) (by simp[results,Tryz.results39,go_sem,r0,r1]) rfl (by rw[FE.out];exact Zcz.no ((Be.out.setCell (by show w.heap.size≤w.heap.size+1+1+1;omega) _).setCell (by show w.heap.size≤w.heap.size+1+1+1;omega) _))
set_option maxHeartbeats 4000000 in
theorem Zum {w:World}{P:Int}{A B D:Option Addr}{n c m d l k:Nat}{ts:List Zak}{p:Zay}(i:Nat)(T:Zak)(hT:ts[i]?=some T)(hok:Zbb ⟨P,ts⟩ p=true)(hl0:¬T.label=0)(h:ZaP w A n c ts)(g:Zam w B m d p.mark)(b:Zam w D l k p.busy)(hl:l≤17592186044416) :
  Calls Tryz.prog 39 #[.agg #[.int .i64 P,.slice A n c],.agg #[.slice B m d,.slice D l k],.agg #[.int .i64 3,.int .i64 i]] w (Zcz (doL ⟨P,ts⟩ p 3 i) w):=by
 obtain⟨B0',X0,X1,X2,X3⟩:=Zk4 w #[.int .i64 P,.slice A n c] #[.slice B m d,.slice D l k] #[.int .i64 3,.int .i64 i] #[.slice none 0 0,.slice none 0 0] 24 30 117 30
 have B0:=Zaa B0'
 have HX0:=Zaa X0
 have HX1:=Zaa X1
 have HX2:=Zaa X2
 have HX3:=Zaa X3
 clear B0' X0 X1 X2 X3
 have hn:=h.small
 have hm:=g.small
 have H:=Zaa h
 have G:=Zaa g
 have BB:=Zaa b
 have hin:i<n:=by rw[←h.len];exact(List.getElem?_eq_some_iff.1 hT).1
 have hini:(i:Int)<(n:Int):=by omega
 have hi0:(0:Int)≤(i:Int):=by omega
 have HT:=Zaa hT
 have HO:=Zaa hok
 have hcase:=(ZaV _ _).1 hok
 have hnt:=Za1 hcase.1 hT
 have hm16:m≤16:=by have h1:=((Zar _).1 hcase.1).2.1;have h2:=hcase.2.1;rw[g.len]at h2;simp only[]at h1 h2;omega
 have hil:i<l:=by have h1:=hcase.2.2.2.1;rw[b.len]at h1;simp only[]at h1;rw[h.len]at h1;omega
 have HRB:=Zaa hcase.2.2.2.2
 obtain⟨r,hr⟩:∃r,Zfx p.busy i (-1)=r:=⟨_,rfl⟩
 obtain⟨q,hq⟩:∃q,Zi1 p.mark T.post=q:=⟨_,rfl⟩
 have FIN:=Zaa (show doL ⟨P,ts⟩ p 3 (i:Int)=ZjT r q by
  have hg:ZdO 3 T=T.post:=by simp[ZdO]
  rw[ZjS hok (by omega) hT,if_pos (by simp[hl0]),ZrL (by simp) hcase.2.2.1 (by rw[hg];exact Zbj hnt.2.2.2.2.2) hcase.2.2.2.2,hg,hq,hr])
 have HQ:=Zaa hq
 have HR:=Zaa hr
 clear hq hr
 clear hT hok hcase hnt h g b
 go_enter Tryz.func39,Tryz.ntmps39
 go_wp2_with fail
 refine(ZbN (P:=P) (p:=p) (H.out.keep B0.out) (G.out.keep B0.out) (BB.out.keep B0.out)).mono ?_
 rw[HO.out]
 rintro e w1 ⟨rfl,hb⟩
 have B1:=Zaa (B0.out.trans (hb.mono B0.out.size))
 have Y0:=Zaa (HX0.out.keep hb)
 have Y1:=Zaa (HX1.out.keep hb)
 have Y2:=Zaa (HX2.out.keep hb)
 have Y3:=Zaa (HX3.out.keep hb)
 clear hb HX0 HX1 HX2 HX3
 obtain⟨a0,a1⟩:=Y0.out.two
 obtain⟨b0,b1⟩:=Y1.out.two
 obtain⟨d0,d1⟩:=Y2.out.two
 obtain⟨bl,off,T',A1,n1,c1,A2,n2,c2,rfl,hbl,hT',q0',q1',q2',i1,i2,m1,m2⟩:=ZaP.get H.out hin
 obtain rfl:T'=T:=by have:=hT'.out;rw[HT.out]at this;injection this with this;exact this.symm
 have hne:(T'.label==0)=false:=by simpa using hl0
 have q0:=(B1.out.cell (p:=⟨bl,off+i*3,none⟩) hbl).trans q0'
 have q1:=(B1.out.cell (p:=⟨bl,off+i*3+1,none⟩) hbl).trans q1'
 have q2:=(B1.out.cell (p:=⟨bl,off+i*3+2,none⟩) hbl).trans q2'
 have I1:=Zaa i1
 have I2:=Zaa i2
 clear i1 i2 q0' q1' q2' hl0
 go_wp2
 go_quiet (fail)
 have Z0:=Zaa (Y0.out.drewN nq)
 have Z1:=Zaa (Y1.out.drewN nq)
 have Z2:=Zaa (Y2.out.drewN nq)
 have Z3:=Zaa (Y3.out.drewN nq)
 have D2:=Zaa (B1.out.trans ((Drew.drewN w1 nq).below.mono B1.out.size))
 have e0:(w1.drewN nq).cell? ⟨bl,off+i*3,none⟩=some (.int .i64 T'.label):=q0
 have e1:(w1.drewN nq).cell? ⟨bl,off+i*3+1,none⟩=some (.slice A1 n1 c1):=q1
 have e2:(w1.drewN nq).cell? ⟨bl,off+i*3+2,none⟩=some (.slice A2 n2 c2):=q2
 generalize w1.drewN nq=w2 at *
 clear Y0 Y1 Y2 Y3 a0 a1 b0 b1 d0 d1 q0 q1 q2
 obtain⟨a0,a1⟩:=Z0.out.two
 obtain⟨b0,b1⟩:=Z1.out.two
 obtain⟨d0,d1⟩:=Z2.out.two
 go_wp2
 generalize hw3:w2.alloc (.cells #[.int .i64 T'.label,.slice A1 n1 c1,.slice A2 n2 c2] 49)=w3
 have V0:=Zaa (show Box w3 _ _ _ by rw[←hw3];exact Z0.out.old _)
 have V1:=Zaa (show Box w3 _ _ _ by rw[←hw3];exact Z1.out.old _)
 have V2:=Zaa (show Box w3 _ _ _ by rw[←hw3];exact Z2.out.old _)
 have V3:=Zaa (show Box w3 _ _ _ by rw[←hw3];exact Z3.out.old _)
 have V4:=Zaa (show Box w3 w2.heap.size 49 #[.int .i64 T'.label,.slice A1 n1 c1,.slice A2 n2 c2] by rw[←hw3];exact Box.new _ _ _)
 have D3:=Zaa (show Below w.heap.size w w3 by rw[←hw3];exact D2.out.alloc D2.out.size _)
 clear hw3 Z0 Z1 Z2 Z3 a0 a1 b0 b1 d0 d1 e0 e1 e2
 obtain⟨bx,hbx⟩:∃bx,w2.heap.size=bx:=⟨_,rfl⟩
 rw[hbx]at V4
 rw[hbx]
 clear hbx D2 B1
 obtain⟨b0,b1⟩:=V1.out.two
 refine Zae 5 (.takes [0,1,2,3] (.one 4 (.fins [5,6,7] .done))) (fun w'=>w'.cell? ⟨w.heap.size+1,0,none⟩=some (.slice B m d)∧w'.cell? ⟨w.heap.size+1,1,none⟩=some (.slice D l k)) (by kernel_rfl) (by kernel_rfl) (by kernel_rfl) (fun _ _ _ _ _ h=>h) ⟨b0,b1⟩ (fun hHeld=>?_)
 simp only[Scr.takes,Scr.fins]
 iterate 4
  refine Zac (v:=?_) rfl (by rfl) hHeld (fun w' hSw=>?_) ?_
  rotate_left
  ·(go_simp;try with_reducible rfl)
  simp only[Act.put,Zag,Zah,Zai]
 refine ZaC rfl (fun K hK=>?_)
 go_simp;go_at_call 73
 (with_reducible refine(ZaA (BB.out.keep (D3.out.trans (((Below.refl _ _).drew:Below w3.heap.size w3 w3.drew).mono D3.out.size))) hl).mono ?_)
 rintro e w4 ⟨v,rfl,own,hb4⟩
 obtain⟨C4,k4,rfl,own4⟩:=own.sl (by omega)
 have hb4':Below w3.heap.size w3 w4:=((Below.refl _ _).drew:Below w3.heap.size w3 w3.drew).trans hb4
 have U0:=Zaa (V0.out.keep hb4')
 have U1:=Zaa (V1.out.keep hb4')
 have U2:=Zaa (V2.out.keep hb4')
 have U3:=Zaa (V3.out.keep hb4')
 have U4:=Zaa (V4.out.keep hb4')
 have D4:=Zaa (D3.out.trans (hb4'.mono D3.out.size))
 have HF4:=Zaa ((Zad.fresh own rfl).mono (show w.heap.size≤w3.drew.heap.size from D3.out.size))
 have O4:=Zaa (show Zam w4 C4 l k4 p.busy from own4)
 clear own own4 hb4 hb4' V0 V1 V2 V3 V4 b0 b1
 obtain⟨a0,a1⟩:=U0.out.two
 obtain⟨b0,b1⟩:=U1.out.two
 obtain⟨d0,d1⟩:=U2.out.two
 obtain⟨t0,t1,t2⟩:=U4.out.three
 refine hK.out _ _ ⟨b0,b1⟩ (fun hHeld=>?_)
 clear hK
 iterate 3
  refine Zaz rfl (fun K hK=>?_)
  go_simp
  refine hK.out _ _ ?_
  clear hK
  try simp only[Act.put,Zag,Zah,Zai]
 refine ZaH ?_
 go_wp2_with fail
 refine(ZfV i (-1) (BB.out.keep D4.out) hl hil HRB.out (by omega) (by omega)).mono ?_
 rw[HR.out]
 rintro e w5 ⟨C5,l5,k5,rfl,i5,hb,hf5⟩
 have HF5:=Zaa (hf5.mono D4.out.size)
 clear hf5
 have I5:=Zaa i5
 have D5:=Zaa (D4.out.trans (hb.mono D4.out.size))
 have W0:=Zaa (U0.out.keep hb)
 have W1:=Zaa (U1.out.keep hb)
 have W2:=Zaa (U2.out.keep hb)
 have W3:=Zaa (U3.out.keep hb)
 have W4:=Zaa (U4.out.keep hb)
 clear hb i5 U0 U1 U2 U3 U4
 clear a0 a1 b0 b1 d0 d1 t0 t1 t2
 obtain⟨a0,a1⟩:=W0.out.two
 obtain⟨b0,b1⟩:=W1.out.two
 obtain⟨d0,d1⟩:=W2.out.two
 obtain⟨t0,t1,t2⟩:=W4.out.three
 by_cases hz:r.2=0
 ·have F1:=Zaa (show doL ⟨P,ts⟩ p 3 (i:Int)=if q.2=0 then(⟨q.1,r.1⟩,0)else(Zay.nil,q.2) by rw[FIN.out,ZjT,if_pos hz])
  rw[hz]
  clear hz
  go_wp2_with fail
  refine(Ze9 (G.out.keep D5.out) (I2.out.keep D5.out) (by omega)).mono ?_
  rw[HQ.out]
  rintro e w6 ⟨C6,l6,k6,rfl,i6,hb,hf6⟩
  have HF6:=Zaa (hf6.mono D5.out.size)
  clear hf6
  have I6:=Zaa i6
  have J5:=Zaa (I5.out.keep hb)
  have D6:=Zaa (D5.out.trans (hb.mono D5.out.size))
  have R0:=Zaa (W0.out.keep hb)
  have R1:=Zaa (W1.out.keep hb)
  have R2:=Zaa (W2.out.keep hb)
  have R3:=Zaa (W3.out.keep hb)
  have R4:=Zaa (W4.out.keep hb)
  clear hb i6 W0 W1 W2 W3 W4
  clear a0 a1 b0 b1 d0 d1 t0 t1 t2
  obtain⟨a0,a1⟩:=R0.out.two
  obtain⟨b0,b1⟩:=R1.out.two
  obtain⟨d0,d1⟩:=R2.out.two
  obtain⟨t0,t1,t2⟩:=R4.out.three
  by_cases hy:q.2=0
  ·have FE:=Zaa (show doL ⟨P,ts⟩ p 3 (i:Int)=(⟨q.1,r.1⟩,0) by rw[F1.out,if_pos hy])
   rw[hy]
   clear hy
   obtain⟨z0,z1⟩:=R3.out.two
   have zf:=R3.out.frozen 0
   have zg:=R3.out.frozen 1
   go_wp2
   obtain⟨r0,r1⟩:=(R3.out.set2 (.slice C6 l6 k6) (.slice C5 l5 k5)).two
   exact bodyPost_ret (v:=.tuple #[.agg #[.slice C6 l6 k6,.slice C5 l5 k5],.int .i64 0]) (by simp[results,Tryz.results39,go_sem,r0,r1]) rfl
    ⟨_,_,_,_,_,_,by rw[FE.out],by rw[FE.out];exact(I6.out).beside R3.out ZcX (Zan.set2 _ _ _ _ _ _),by rw[FE.out];exact(J5.out).beside R3.out ZcX (Zan.set2 _ _ _ _ _ _),(D6.out.setCell (by show w.heap.size≤w.heap.size+1+1+1;omega) _).setCell (by show w.heap.size≤w.heap.size+1+1+1;omega) _,HF6.out,HF5.out⟩
  ·have FE:=Zaa (show doL ⟨P,ts⟩ p 3 (i:Int)=(Zay.nil,q.2) by rw[F1.out,if_neg hy])
   have hne2:(q.2==0)=false:=by simpa using hy
   have hne3:(q.2 != 0)=true:=by simpa using hy
   clear hy
   go_wp2_with fail
   refine(ZaJ _ q.2).mono ?_
   rintro e we ⟨rfl,hbe⟩
   have Ze:=Zaa (R3.out.keep hbe)
   obtain⟨z0,z1⟩:=Ze.out.two
   have zf:=Ze.out.frozen 0
   have zg:=Ze.out.frozen 1
   have Be:=Zaa (D6.out.trans (hbe.mono D6.out.size))
   clear hbe
   go_wp2
   obtain⟨r0,r1⟩:=(Ze.out.set2 (.slice none 0 0) (.slice none 0 0)).two
   exact bodyPost_ret (v:=.tuple #[.agg #[.slice none 0 0,.slice none 0 0],.int .i64 (q.2)]) (by simp[results,Tryz.results39,go_sem,r0,r1]) rfl (by rw[FE.out];exact Zcz.no ((Be.out.setCell (by show w.heap.size≤w.heap.size+1+1+1;omega) _).setCell (by show w.heap.size≤w.heap.size+1+1+1;omega) _))
 ·have FE:=Zaa (show doL ⟨P,ts⟩ p 3 (i:Int)=(Zay.nil,r.2) by rw[FIN.out,ZjT,if_neg hz])
  have hne2:(r.2==0)=false:=by simpa using hz
  have hne3:(r.2 != 0)=true:=by simpa using hz
  clear hz
  go_wp2_with fail
  refine(ZaJ _ r.2).mono ?_
  rintro e we ⟨rfl,hbe⟩
  have Ze:=Zaa (W3.out.keep hbe)
  obtain⟨z0,z1⟩:=Ze.out.two
  have zf:=Ze.out.frozen 0
  have zg:=Ze.out.frozen 1
  have Be:=Zaa (D5.out.trans (hbe.mono D5.out.size))
  clear hbe
  go_wp2
  obtain⟨r0,r1⟩:=(Ze.out.set2 (.slice none 0 0) (.slice none 0 0)).two
  exact bodyPost_ret (v:=.tuple #[.agg #[.slice none 0 0,.slice none 0 0],.int .i64 (r.2)]) (by simp[results,Tryz.results39,go_sem,r0,r1]) rfl (by rw[FE.out];exact Zcz.no ((Be.out.setCell (by show w.heap.size≤w.heap.size+1+1+1;omega) _).setCell (by show w.heap.size≤w.heap.size+1+1+1;omega) _))
set_option maxHeartbeats 4000000 in
theorem Zun {w:World}{P:Int}{A B D:Option Addr}{n c m d l k:Nat}{ts:List Zak}{p:Zay}(i:Nat)(T:Zak)(hT:ts[i]?=some T)(hok:Zbb ⟨P,ts⟩ p=true)(hl0:¬T.label=0)(h:ZaP w A n c ts)(g:Zam w B m d p.mark)(b:Zam w D l k p.busy)(hl:l≤17592186044416) :
  Calls Tryz.prog 39 #[.agg #[.int .i64 P,.slice A n c],.agg #[.slice B m d,.slice D l k],.agg #[.int .i64 4,.int .i64 i]] w (Zcz (doL ⟨P,ts⟩ p 4 i) w):=by
 obtain⟨B0',X0,X1,X2,X3⟩:=Zk4 w #[.int .i64 P,.slice A n c] #[.slice B m d,.slice D l k] #[.int .i64 4,.int .i64 i] #[.slice none 0 0,.slice none 0 0] 24 30 117 30
 have B0:=Zaa B0'
 have HX0:=Zaa X0
 have HX1:=Zaa X1
 have HX2:=Zaa X2
 have HX3:=Zaa X3
 clear B0' X0 X1 X2 X3
 have hn:=h.small
 have hm:=g.small
 have H:=Zaa h
 have G:=Zaa g
 have BB:=Zaa b
 have hin:i<n:=by rw[←h.len];exact(List.getElem?_eq_some_iff.1 hT).1
 have hini:(i:Int)<(n:Int):=by omega
 have hi0:(0:Int)≤(i:Int):=by omega
 have HT:=Zaa hT
 have HO:=Zaa hok
 have hcase:=(ZaV _ _).1 hok
 have hnt:=Za1 hcase.1 hT
 have hm16:m≤16:=by have h1:=((Zar _).1 hcase.1).2.1;have h2:=hcase.2.1;rw[g.len]at h2;simp only[]at h1 h2;omega
 have hil:i<l:=by have h1:=hcase.2.2.2.1;rw[b.len]at h1;simp only[]at h1;rw[h.len]at h1;omega
 have HRB:=Zaa hcase.2.2.2.2
 obtain⟨r,hr⟩:∃r,Zfx p.busy i (-1)=r:=⟨_,rfl⟩
 obtain⟨q,hq⟩:∃q,Zi1 p.mark T.pre=q:=⟨_,rfl⟩
 have FIN:=Zaa (show doL ⟨P,ts⟩ p 4 (i:Int)=ZjT r q by
  have hg:ZdO 4 T=T.pre:=by simp[ZdO]
  rw[ZjS hok (by omega) hT,if_pos (by simp[hl0]),ZrL (by simp) hcase.2.2.1 (by rw[hg];exact Zbj hnt.2.2.2.2.1) hcase.2.2.2.2,hg,hq,hr])
 have HQ:=Zaa hq
 have HR:=Zaa hr
 clear hq hr
 clear hT hok hcase hnt h g b
 go_enter Tryz.func39,Tryz.ntmps39
 go_wp2_with fail
 refine(ZbN (P:=P) (p:=p) (H.out.keep B0.out) (G.out.keep B0.out) (BB.out.keep B0.out)).mono ?_
 rw[HO.out]
 rintro e w1 ⟨rfl,hb⟩
 have B1:=Zaa (B0.out.trans (hb.mono B0.out.size))
 have Y0:=Zaa (HX0.out.keep hb)
 have Y1:=Zaa (HX1.out.keep hb)
 have Y2:=Zaa (HX2.out.keep hb)
 have Y3:=Zaa (HX3.out.keep hb)
 clear hb HX0 HX1 HX2 HX3
 obtain⟨a0,a1⟩:=Y0.out.two
 obtain⟨b0,b1⟩:=Y1.out.two
 obtain⟨d0,d1⟩:=Y2.out.two
 obtain⟨bl,off,T',A1,n1,c1,A2,n2,c2,rfl,hbl,hT',q0',q1',q2',i1,i2,m1,m2⟩:=ZaP.get H.out hin
 obtain rfl:T'=T:=by have:=hT'.out;rw[HT.out]at this;injection this with this;exact this.symm
 have hne:(T'.label==0)=false:=by simpa using hl0
 have q0:=(B1.out.cell (p:=⟨bl,off+i*3,none⟩) hbl).trans q0'
 have q1:=(B1.out.cell (p:=⟨bl,off+i*3+1,none⟩) hbl).trans q1'
 have q2:=(B1.out.cell (p:=⟨bl,off+i*3+2,none⟩) hbl).trans q2'
 have I1:=Zaa i1
 have I2:=Zaa i2
 clear i1 i2 q0' q1' q2' hl0
 go_wp2
 go_quiet (fail)
 have Z0:=Zaa (Y0.out.drewN nq)
 have Z1:=Zaa (Y1.out.drewN nq)
 have Z2:=Zaa (Y2.out.drewN nq)
 have Z3:=Zaa (Y3.out.drewN nq)
 have D2:=Zaa (B1.out.trans ((Drew.drewN w1 nq).below.mono B1.out.size))
 have e0:(w1.drewN nq).cell? ⟨bl,off+i*3,none⟩=some (.int .i64 T'.label):=q0
 have e1:(w1.drewN nq).cell? ⟨bl,off+i*3+1,none⟩=some (.slice A1 n1 c1):=q1
 have e2:(w1.drewN nq).cell? ⟨bl,off+i*3+2,none⟩=some (.slice A2 n2 c2):=q2
 generalize w1.drewN nq=w2 at *
 clear Y0 Y1 Y2 Y3 a0 a1 b0 b1 d0 d1 q0 q1 q2
 obtain⟨a0,a1⟩:=Z0.out.two
 obtain⟨b0,b1⟩:=Z1.out.two
 obtain⟨d0,d1⟩:=Z2.out.two
 go_wp2
 generalize hw3:w2.alloc (.cells #[.int .i64 T'.label,.slice A1 n1 c1,.slice A2 n2 c2] 49)=w3
 have V0:=Zaa (show Box w3 _ _ _ by rw[←hw3];exact Z0.out.old _)
 have V1:=Zaa (show Box w3 _ _ _ by rw[←hw3];exact Z1.out.old _)
 have V2:=Zaa (show Box w3 _ _ _ by rw[←hw3];exact Z2.out.old _)
 have V3:=Zaa (show Box w3 _ _ _ by rw[←hw3];exact Z3.out.old _)
 have V4:=Zaa (show Box w3 w2.heap.size 49 #[.int .i64 T'.label,.slice A1 n1 c1,.slice A2 n2 c2] by rw[←hw3];exact Box.new _ _ _)
 have D3:=Zaa (show Below w.heap.size w w3 by rw[←hw3];exact D2.out.alloc D2.out.size _)
 clear hw3 Z0 Z1 Z2 Z3 a0 a1 b0 b1 d0 d1 e0 e1 e2
 obtain⟨bx,hbx⟩:∃bx,w2.heap.size=bx:=⟨_,rfl⟩
 rw[hbx]at V4
 rw[hbx]
 clear hbx D2 B1
 obtain⟨b0,b1⟩:=V1.out.two
 refine Zae 5 (.takes [0,1,2,3] (.one 4 (.fins [5,6,7] .done))) (fun w'=>w'.cell? ⟨w.heap.size+1,0,none⟩=some (.slice B m d)∧w'.cell? ⟨w.heap.size+1,1,none⟩=some (.slice D l k)) (by kernel_rfl) (by kernel_rfl) (by kernel_rfl) (fun _ _ _ _ _ h=>h) ⟨b0,b1⟩ (fun hHeld=>?_)
 simp only[Scr.takes,Scr.fins]
 iterate 4
  refine Zac (v:=?_) rfl (by rfl) hHeld (fun w' hSw=>?_) ?_
  rotate_left
  ·(go_simp;try with_reducible rfl)
  simp only[Act.put,Zag,Zah,Zai]
 refine ZaC rfl (fun K hK=>?_)
 go_simp;go_at_call 73
 (with_reducible refine(ZaA (BB.out.keep (D3.out.trans (((Below.refl _ _).drew:Below w3.heap.size w3 w3.drew).mono D3.out.size))) hl).mono ?_)
 rintro e w4 ⟨v,rfl,own,hb4⟩
 obtain⟨C4,k4,rfl,own4⟩:=own.sl (by omega)
 have hb4':Below w3.heap.size w3 w4:=((Below.refl _ _).drew:Below w3.heap.size w3 w3.drew).trans hb4
 have U0:=Zaa (V0.out.keep hb4')
 have U1:=Zaa (V1.out.keep hb4')
 have U2:=Zaa (V2.out.keep hb4')
 have U3:=Zaa (V3.out.keep hb4')
 have U4:=Zaa (V4.out.keep hb4')
 have D4:=Zaa (D3.out.trans (hb4'.mono D3.out.size))
 have HF4:=Zaa ((Zad.fresh own rfl).mono (show w.heap.size≤w3.drew.heap.size from D3.out.size))
 have O4:=Zaa (show Zam w4 C4 l k4 p.busy from own4)
 clear own own4 hb4 hb4' V0 V1 V2 V3 V4 b0 b1
 obtain⟨a0,a1⟩:=U0.out.two
 obtain⟨b0,b1⟩:=U1.out.two
 obtain⟨d0,d1⟩:=U2.out.two
 obtain⟨t0,t1,t2⟩:=U4.out.three
 refine hK.out _ _ ⟨b0,b1⟩ (fun hHeld=>?_)
 clear hK
 iterate 3
  refine Zaz rfl (fun K hK=>?_)
  go_simp
  refine hK.out _ _ ?_
  clear hK
  try simp only[Act.put,Zag,Zah,Zai]
 refine ZaH ?_
 go_wp2_with fail
 refine(ZfV i (-1) (BB.out.keep D4.out) hl hil HRB.out (by omega) (by omega)).mono ?_
 rw[HR.out]
 rintro e w5 ⟨C5,l5,k5,rfl,i5,hb,hf5⟩
 have HF5:=Zaa (hf5.mono D4.out.size)
 clear hf5
 have I5:=Zaa i5
 have D5:=Zaa (D4.out.trans (hb.mono D4.out.size))
 have W0:=Zaa (U0.out.keep hb)
 have W1:=Zaa (U1.out.keep hb)
 have W2:=Zaa (U2.out.keep hb)
 have W3:=Zaa (U3.out.keep hb)
 have W4:=Zaa (U4.out.keep hb)
 clear hb i5 U0 U1 U2 U3 U4
 clear a0 a1 b0 b1 d0 d1 t0 t1 t2
 obtain⟨a0,a1⟩:=W0.out.two
 obtain⟨b0,b1⟩:=W1.out.two
 obtain⟨d0,d1⟩:=W2.out.two
 obtain⟨t0,t1,t2⟩:=W4.out.three
 by_cases hz:r.2=0
 ·have F1:=Zaa (show doL ⟨P,ts⟩ p 4 (i:Int)=if q.2=0 then(⟨q.1,r.1⟩,0)else(Zay.nil,q.2) by rw[FIN.out,ZjT,if_pos hz])
  rw[hz]
  clear hz
  go_wp2_with fail
  refine(Ze9 (G.out.keep D5.out) (I1.out.keep D5.out) (by omega)).mono ?_
  rw[HQ.out]
  rintro e w6 ⟨C6,l6,k6,rfl,i6,hb,hf6⟩
  have HF6:=Zaa (hf6.mono D5.out.size)
  clear hf6
  have I6:=Zaa i6
  have J5:=Zaa (I5.out.keep hb)
  have D6:=Zaa (D5.out.trans (hb.mono D5.out.size))
  have R0:=Zaa (W0.out.keep hb)
  have R1:=Zaa (W1.out.keep hb)
  have R2:=Zaa (W2.out.keep hb)
  have R3:=Zaa (W3.out.keep hb)
  have R4:=Zaa (W4.out.keep hb)
  clear hb i6 W0 W1 W2 W3 W4
  clear a0 a1 b0 b1 d0 d1 t0 t1 t2
  obtain⟨a0,a1⟩:=R0.out.two
  obtain⟨b0,b1⟩:=R1.out.two
  obtain⟨d0,d1⟩:=R2.out.two
  obtain⟨t0,t1,t2⟩:=R4.out.three
  by_cases hy:q.2=0
  ·have FE:=Zaa (show doL ⟨P,ts⟩ p 4 (i:Int)=(⟨q.1,r.1⟩,0) by rw[F1.out,if_pos hy])
   rw[hy]
   clear hy
   obtain⟨z0,z1⟩:=R3.out.two
   have zf:=R3.out.frozen 0
   have zg:=R3.out.frozen 1
   go_wp2
   obtain⟨r0,r1⟩:=(R3.out.set2 (.slice C6 l6 k6) (.slice C5 l5 k5)).two
   exact bodyPost_ret (v:=.tuple #[.agg #[.slice C6 l6 k6,.slice C5 l5 k5],.int .i64 0]) (by simp[results,Tryz.results39,go_sem,r0,r1]) rfl
    ⟨_,_,_,_,_,_,by rw[FE.out],by rw[FE.out];exact(I6.out).beside R3.out ZcX (Zan.set2 _ _ _ _ _ _),by rw[FE.out];exact(J5.out).beside R3.out ZcX (Zan.set2 _ _ _ _ _ _),(D6.out.setCell (by show w.heap.size≤w.heap.size+1+1+1;omega) _).setCell (by show w.heap.size≤w.heap.size+1+1+1;omega) _,HF6.out,HF5.out⟩
  ·have FE:=Zaa (show doL ⟨P,ts⟩ p 4 (i:Int)=(Zay.nil,q.2) by rw[F1.out,if_neg hy])
   have hne2:(q.2==0)=false:=by simpa using hy
   have hne3:(q.2 != 0)=true:=by simpa using hy
   clear hy
   go_wp2_with fail
   refine(ZaJ _ q.2).mono ?_
   rintro e we ⟨rfl,hbe⟩
   have Ze:=Zaa (R3.out.keep hbe)
   obtain⟨z0,z1⟩:=Ze.out.two
   have zf:=Ze.out.frozen 0
   have zg:=Ze.out.frozen 1
   have Be:=Zaa (D6.out.trans (hbe.mono D6.out.size))
   clear hbe
   go_wp2
   obtain⟨r0,r1⟩:=(Ze.out.set2 (.slice none 0 0) (.slice none 0 0)).two
   exact bodyPost_ret (v:=.tuple #[.agg #[.slice none 0 0,.slice none 0 0],.int .i64 (q.2)]) (by simp[results,Tryz.results39,go_sem,r0,r1]) rfl (by rw[FE.out];exact Zcz.no ((Be.out.setCell (by show w.heap.size≤w.heap.size+1+1+1;omega) _).setCell (by show w.heap.size≤w.heap.size+1+1+1;omega) _))
 ·have FE:=Zaa (show doL ⟨P,ts⟩ p 4 (i:Int)=(Zay.nil,r.2) by rw[FIN.out,ZjT,if_neg hz])
  have hne2:(r.2==0)=false:=by simpa using hz
  have hne3:(r.2 != 0)=true:=by simpa using hz
  clear hz
  go_wp2_with fail
  refine(ZaJ _ r.2).mono ?_
  rintro e we ⟨rfl,hbe⟩
  have Ze:=Zaa (W3.out.keep hbe)
  obtain⟨z0,z1⟩:=Ze.out.two
  have zf:=Ze.out.frozen 0
  have zg:=Ze.out.frozen 1
  have Be:=Zaa (D5.out.trans (hbe.mono D5.out.size))
  clear hbe
  go_wp2
  obtain⟨r0,r1⟩:=(Ze.out.set2 (.slice none 0 0) (.slice none 0 0)).two
  exact bodyPost_ret (v:=.tuple #[.agg #[.slice none 0 0,.slice none 0 0],.int .i64 (r.2)]) (by simp[results,Tryz.results39,go_sem,r0,r1]) rfl (by rw[FE.out];exact Zcz.no ((Be.out.setCell (by show w.heap.size≤w.heap.size+1+1+1;omega) _).setCell (by show w.heap.size≤w.heap.size+1+1+1;omega) _))
theorem Zg6 {w:World}{P:Int}{A B D:Option Addr}{n c m d l k:Nat}{ts:List Zak}{p:Zay}(kd t:Int)(h:ZaP w A n c ts)(g:Zam w B m d p.mark)(b:Zam w D l k p.busy)(hl:l≤17592186044416) :
  Calls Tryz.prog 39 #[.agg #[.int .i64 P,.slice A n c],.agg #[.slice B m d,.slice D l k],.agg #[.int .i64 kd,.int .i64 t]] w (Zcz (doL ⟨P,ts⟩ p kd t) w):=by
 by_cases hg:∃(i:Nat) (T:Zak),t=(i:Int)∧ts[i]?=some T∧Zbb ⟨P,ts⟩ p=true∧1≤kd∧kd≤4∧(kd=1↔T.label=0)
 ·obtain⟨i,T,rfl,hT,hok,h1,h4,hlk⟩:=hg
  have hk:kd=1∨kd=2∨kd=3∨kd=4:=by omega
  rcases hk with rfl|rfl|rfl|rfl
  ·exact Zuk i T hT hok (hlk.1 rfl) h g b hl
  ·exact Zul i T hT hok (fun e=>by have:=hlk.2 e;omega) h g b hl
  ·exact Zum i T hT hok (fun e=>by have:=hlk.2 e;omega) h g b hl
  ·exact Zun i T hT hok (fun e=>by have:=hlk.2 e;omega) h g b hl
 ·exact Ztw kd t h g b (fun i T ht hT hok h1 h4 hlk=>hg ⟨i,T,ht,hT,hok,h1,h4,hlk⟩)
end Go.Proofs.YtfmnagcglhlicaaGreat
