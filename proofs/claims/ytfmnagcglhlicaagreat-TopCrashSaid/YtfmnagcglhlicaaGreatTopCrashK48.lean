/- Texts melted into one: The contract of cases.Do. Conditions: the net and the case read as lists. | The contract of cases.Do where something is done (ways [1]). Conditions: the net and the ca -/
import Derived.Test.YtfmnagcglhlicaaGreatTopCrashK09
set_option maxRecDepth 100000
set_option maxHeartbeats 4000000
namespace Go.Proofs.YtfmnagcglhlicaaGreat
open Go.RowKit
theorem Ej (w:World)(c0 c1 c2 c3:Array Value)(t0 t1 t2 t3:Nat) :
  Below w.heap.size w ((((w.alloc (.cells c0 t0)).alloc (.cells c1 t1)).alloc (.cells c2 t2)).alloc (.cells c3 t3)) ∧
  Box ((((w.alloc (.cells c0 t0)).alloc (.cells c1 t1)).alloc (.cells c2 t2)).alloc (.cells c3 t3)) w.heap.size t0 c0 ∧
  Box ((((w.alloc (.cells c0 t0)).alloc (.cells c1 t1)).alloc (.cells c2 t2)).alloc (.cells c3 t3)) (w.heap.size+1) t1 c1 ∧
  Box ((((w.alloc (.cells c0 t0)).alloc (.cells c1 t1)).alloc (.cells c2 t2)).alloc (.cells c3 t3)) (w.heap.size+1+1) t2 c2 ∧
  Box ((((w.alloc (.cells c0 t0)).alloc (.cells c1 t1)).alloc (.cells c2 t2)).alloc (.cells c3 t3)) (w.heap.size+1+1+1) t3 c3 :=
 ⟨((((Below.refl _ _).alloc (Nat.le_refl _) _).alloc (by simp) _).alloc (by simp;omega) _).alloc (by simp;omega) _,
  (((Box.new _ _ _).old _).old _).old _,((Box.newAt (by simp) _ _).old _).old _,(Box.newAt (by simp) _ _).old _,Box.newAt (by simp) _ _⟩
theorem Wy {w:World}{P:Int}{A B D:OAd}{n c m d l k:Nat}{ts:List aI}{p:a8}(kd t:Int)(h:bK w A n c ts)(g:aJ w B m d p.mark)(b:aJ w D l k p.busy)(hbad:∀(i:Nat) (T:aI),t=(i:Int)→ts[i]?=some T→cI ⟨P,ts⟩ p=true→1≤kd→kd≤4→¬(kd=1↔T.label=0)) :
  Calls Tryz.prog 39 #[.agg #[.int .i64 P,.slice A n c],.agg #[.slice B m d,.slice D l k],.agg #[.int .i64 kd,.int .i64 t]] w (hZ (doL ⟨P,ts⟩ p kd t) w):=by
 obtain⟨B0',X0,X1,X2,X3⟩:=Ej w #[.int .i64 P,.slice A n c] #[.slice B m d,.slice D l k] #[.int .i64 kd,.int .i64 t] #[.slice none 0 0,.slice none 0 0] 24 30 117 30;have B0:=aA B0';have HX0:=aA X0;have HX1:=aA X1;have HX2:=aA X2;have HX3:=aA X3;clear B0' X0 X1 X2 X3;have BAD:=aA hbad;clear hbad;have hn:=h.small;have hm:=g.small;have HL:=aA h.len;have GL:=aA g.len;have BL:=aA b.len;have H:=aA h;have G:=aA g;have BB:=aA b;clear h g b;obtain⟨ok,hok⟩:∃ok,cI ⟨P,ts⟩ p=ok:=⟨_,rfl⟩;have HO:=aA hok;clear hok;go_enter Tryz.func39,Tryz.ntmps39
 go_wp2_with fail
 refine(eO (P:=P) (p:=p) (H.o.keep B0.o) (G.o.keep B0.o) (BB.o.keep B0.o)).mono ?_;rw[HO.o];rintro e w1 ⟨rfl,hb⟩;have B1:=aA (B0.o.trans (hb.mono B0.o.size));have Y0:=aA (HX0.o.keep hb);have Y1:=aA (HX1.o.keep hb);have Y2:=aA (HX2.o.keep hb);have Y3:=aA (HX3.o.keep hb);clear hb HX0 HX1 HX2 HX3;obtain⟨a0,a1⟩:=Y0.o.two;obtain⟨b0,b1⟩:=Y1.o.two;obtain⟨c0,c1⟩:=Y2.o.two;cases ok
 ·have FIN:=aA (Ur (k:=kd) (t:=t) HO.o);go_wp2_with fail
  refine(bN _ 2).mono ?_;rintro e we ⟨rfl,hbe⟩;have Ze:=aA (Y3.o.keep hbe);obtain⟨z0,z1⟩:=Ze.o.two;have zf:=Ze.o.frozen 0;have zg:=Ze.o.frozen 1;have Be:=aA (B1.o.trans (hbe.mono B1.o.size));clear hbe;go_wp2
  obtain⟨r0,r1⟩:=(Ze.o.set2 (.slice none 0 0) (.slice none 0 0)).two;exact bodyPost_ret (v:=.tuple #[.agg #[.slice none 0 0,.slice none 0 0],.int .i64 (2)]) (by simp[results,Tryz.results39,go_sem,r0,r1]) rfl (by rw[FIN.o];exact hZ.no ((Be.o.setCell (by show w.heap.size≤w.heap.size+1+1+1;omega) _).setCell (by show w.heap.size≤w.heap.size+1+1+1;omega) _))
 ·by_cases hk1:kd<1
  ·have FIN:=aA (H7 (k:=kd) (t:=t) HO.o (.inl hk1));go_wp2_with fail
   refine(bN _ 5).mono ?_;rintro e we ⟨rfl,hbe⟩;have Ze:=aA (Y3.o.keep hbe);obtain⟨z0,z1⟩:=Ze.o.two;have zf:=Ze.o.frozen 0;have zg:=Ze.o.frozen 1;have Be:=aA (B1.o.trans (hbe.mono B1.o.size));clear hbe;go_wp2
   obtain⟨r0,r1⟩:=(Ze.o.set2 (.slice none 0 0) (.slice none 0 0)).two;exact bodyPost_ret (v:=.tuple #[.agg #[.slice none 0 0,.slice none 0 0],.int .i64 (5)]) (by simp[results,Tryz.results39,go_sem,r0,r1]) rfl (by rw[FIN.o];exact hZ.no ((Be.o.setCell (by show w.heap.size≤w.heap.size+1+1+1;omega) _).setCell (by show w.heap.size≤w.heap.size+1+1+1;omega) _))
  ·by_cases hk4:4<kd
   ·have FIN:=aA (H7 (k:=kd) (t:=t) HO.o (.inr hk4));go_wp2_with fail
    refine(bN _ 5).mono ?_;rintro e we ⟨rfl,hbe⟩;have Ze:=aA (Y3.o.keep hbe);obtain⟨z0,z1⟩:=Ze.o.two;have zf:=Ze.o.frozen 0;have zg:=Ze.o.frozen 1;have Be:=aA (B1.o.trans (hbe.mono B1.o.size));clear hbe;go_wp2
    obtain⟨r0,r1⟩:=(Ze.o.set2 (.slice none 0 0) (.slice none 0 0)).two;exact bodyPost_ret (v:=.tuple #[.agg #[.slice none 0 0,.slice none 0 0],.int .i64 (5)]) (by simp[results,Tryz.results39,go_sem,r0,r1]) rfl (by rw[FIN.o];exact hZ.no ((Be.o.setCell (by show w.heap.size≤w.heap.size+1+1+1;omega) _).setCell (by show w.heap.size≤w.heap.size+1+1+1;omega) _))
   ·have HK:=aA (show 1≤kd∧kd≤4 by omega);by_cases ht0:t<0
    ·have FIN:=aA (H8 HO.o HK.o (.inl ht0));go_wp2_with fail
     refine(bN _ 3).mono ?_;rintro e we ⟨rfl,hbe⟩;have Ze:=aA (Y3.o.keep hbe);obtain⟨z0,z1⟩:=Ze.o.two;have zf:=Ze.o.frozen 0;have zg:=Ze.o.frozen 1;have Be:=aA (B1.o.trans (hbe.mono B1.o.size));clear hbe;go_wp2
     obtain⟨r0,r1⟩:=(Ze.o.set2 (.slice none 0 0) (.slice none 0 0)).two;exact bodyPost_ret (v:=.tuple #[.agg #[.slice none 0 0,.slice none 0 0],.int .i64 (3)]) (by simp[results,Tryz.results39,go_sem,r0,r1]) rfl (by rw[FIN.o];exact hZ.no ((Be.o.setCell (by show w.heap.size≤w.heap.size+1+1+1;omega) _).setCell (by show w.heap.size≤w.heap.size+1+1+1;omega) _))
    ·by_cases htn:(n:Int)≤t
     ·have FIN:=aA (H8 HO.o HK.o (.inr (by simp only[];rw[HL.o];exact htn)));go_wp2_with fail
      refine(bN _ 3).mono ?_;rintro e we ⟨rfl,hbe⟩;have Ze:=aA (Y3.o.keep hbe);obtain⟨z0,z1⟩:=Ze.o.two;have zf:=Ze.o.frozen 0;have zg:=Ze.o.frozen 1;have Be:=aA (B1.o.trans (hbe.mono B1.o.size));clear hbe;go_wp2
      obtain⟨r0,r1⟩:=(Ze.o.set2 (.slice none 0 0) (.slice none 0 0)).two;exact bodyPost_ret (v:=.tuple #[.agg #[.slice none 0 0,.slice none 0 0],.int .i64 (3)]) (by simp[results,Tryz.results39,go_sem,r0,r1]) rfl (by rw[FIN.o];exact hZ.no ((Be.o.setCell (by show w.heap.size≤w.heap.size+1+1+1;omega) _).setCell (by show w.heap.size≤w.heap.size+1+1+1;omega) _))
     ·obtain⟨i,rfl⟩:∃i:Nat,t=(i:Int):=⟨t.toNat,by omega⟩;have hin:i<n:=by omega
      have hini:(i:Int)<(n:Int):=by omega
      have hi0:(0:Int)≤(i:Int):=by omega
      clear ht0 htn;obtain⟨bl,off,T,A1,n1,c1,A2,n2,c2,rfl,hbl,hT,q0,q1,q2,i1,i2,m1,m2⟩:=bK.get (H.o.keep B1.o) hin;have DIN:=aA (AW HO.o HK.o hT.o);have I1:=aA i1;have I2:=aA i2;clear i1 i2;have hk:kd=1∨kd=2∨kd=3∨kd=4:=by have:=HK.o;omega
      by_cases hl0:T.label=0
      ·have q0':w1.cell? ⟨bl,off+i*3,none⟩=some (.int .i64 0):=by rw[←hl0];exact q0
       rcases hk with rfl|rfl|rfl|rfl
       ·exact absurd (by simp[hl0]) (BAD.o i T rfl hT.o HO.o (by omega) (by omega))
       all_goals
        have FIN:=aA (show doL ⟨P,ts⟩ p _ (i:Int)=(a8.nil,1) by rw[DIN.o,if_neg (by rw[hl0];omega)]);clear DIN hl0 q0;go_wp2
        go_quiet (fail)
        go_wp2_with fail
        refine(bN _ 1).mono ?_;rintro e we ⟨rfl,hbe⟩;have Ze:=aA ((Y3.o.drewN _).keep hbe);obtain⟨z0,z1⟩:=Ze.o.two;have zf:=Ze.o.frozen 0;have zg:=Ze.o.frozen 1;have Be:=aA (B1.o.trans ((Drew.drewN _ _).below.trans hbe |>.mono B1.o.size));clear hbe;go_wp2
        obtain⟨r0,r1⟩:=(Ze.o.set2 (.slice none 0 0) (.slice none 0 0)).two;exact bodyPost_ret (v:=.tuple #[.agg #[.slice none 0 0,.slice none 0 0],.int .i64 (1)]) (by simp[results,Tryz.results39,go_sem,r0,r1]) rfl (by rw[FIN.o];exact hZ.no ((Be.o.setCell (by show w.heap.size≤w.heap.size+1+1+1;omega) _).setCell (by show w.heap.size≤w.heap.size+1+1+1;omega) _))
      ·rcases hk with rfl|rfl|rfl|rfl
       ·have FIN:=aA (show doL ⟨P,ts⟩ p 1 (i:Int)=(a8.nil,1) by rw[DIN.o,if_neg (by simpa using hl0)]);have hne:(T.label==0)=false:=by simpa using hl0
        clear DIN hl0;go_wp2
        go_quiet (fail)
        go_wp2_with fail
        refine(bN _ 1).mono ?_;rintro e we ⟨rfl,hbe⟩;have Ze:=aA ((Y3.o.drewN _).keep hbe);obtain⟨z0,z1⟩:=Ze.o.two;have zf:=Ze.o.frozen 0;have zg:=Ze.o.frozen 1;have Be:=aA (B1.o.trans ((Drew.drewN _ _).below.trans hbe |>.mono B1.o.size));clear hbe;go_wp2
        obtain⟨r0,r1⟩:=(Ze.o.set2 (.slice none 0 0) (.slice none 0 0)).two;exact bodyPost_ret (v:=.tuple #[.agg #[.slice none 0 0,.slice none 0 0],.int .i64 (1)]) (by simp[results,Tryz.results39,go_sem,r0,r1]) rfl (by rw[FIN.o];exact hZ.no ((Be.o.setCell (by show w.heap.size≤w.heap.size+1+1+1;omega) _).setCell (by show w.heap.size≤w.heap.size+1+1+1;omega) _))
       ·exact absurd (by simp[hl0]) (BAD.o i T rfl hT.o HO.o (by omega) (by omega))
       ·exact absurd (by simp[hl0]) (BAD.o i T rfl hT.o HO.o (by omega) (by omega))
       ·exact absurd (by simp[hl0]) (BAD.o i T rfl hT.o HO.o (by omega) (by omega))
theorem XV {w:World}{P:Int}{A B D:OAd}{n c m d l k:Nat}{ts:List aI}{p:a8}(i:Nat)(T:aI)(hT:ts[i]?=some T)(hok:cI ⟨P,ts⟩ p=true)(hl0:T.label=0)(h:bK w A n c ts)(g:aJ w B m d p.mark)(b:aJ w D l k p.busy)(hl:l≤17592186044416) :
  Calls Tryz.prog 39 #[.agg #[.int .i64 P,.slice A n c],.agg #[.slice B m d,.slice D l k],.agg #[.int .i64 1,.int .i64 i]] w (hZ (doL ⟨P,ts⟩ p 1 i) w):=by
 obtain⟨B0',X0,X1,X2,X3⟩:=Ej w #[.int .i64 P,.slice A n c] #[.slice B m d,.slice D l k] #[.int .i64 1,.int .i64 i] #[.slice none 0 0,.slice none 0 0] 24 30 117 30;have B0:=aA B0';have HX0:=aA X0;have HX1:=aA X1;have HX2:=aA X2;have HX3:=aA X3;clear B0' X0 X1 X2 X3;have hn:=h.small;have hm:=g.small;have H:=aA h;have G:=aA g;have BB:=aA b;have hin:i<n:=by rw[←h.len];exact(List.getElem?_eq_some_iff.1 hT).1
 have hini:(i:Int)<(n:Int):=by omega
 have hi0:(0:Int)≤(i:Int):=by omega
 have HT:=aA hT;have HO:=aA hok;have hcase:=(bB _ _).1 hok;have hnt:=cB hcase.1 hT;have hm16:m≤16:=by have h1:=((aQ _).1 hcase.1).2.1;have h2:=hcase.2.1;rw[g.len]at h2;simp only[]at h1 h2;omega
 have hil:i<l:=by have h1:=hcase.2.2.2.1;rw[b.len]at h1;simp only[]at h1;rw[h.len]at h1;omega
 have HRB:=aA hcase.2.2.2.2;obtain⟨q,hq⟩:∃q,bW ⟨P,ts⟩ p.mark (i:Int)=q:=⟨_,rfl⟩;have hfit:dS ⟨P,ts⟩ p.mark=true:=(bD _ _).2 ⟨hcase.1,hcase.2.1,hcase.2.2.1⟩;have FIN:=aA (show doL ⟨P,ts⟩ p 1 (i:Int)=wH q (p.busy,0) by
  rw[AW hok (by omega) hT,if_pos (by simp[hl0]),WR hcase.2.2.2.2,←hq,QV hfit hT])
 have HQ:=aA hq;clear hfit hq;clear hT hok hcase hnt h g b;go_enter Tryz.func39,Tryz.ntmps39
 go_wp2_with fail
 refine(eO (P:=P) (p:=p) (H.o.keep B0.o) (G.o.keep B0.o) (BB.o.keep B0.o)).mono ?_;rw[HO.o];rintro e w1 ⟨rfl,hb⟩;have B1:=aA (B0.o.trans (hb.mono B0.o.size));have Y0:=aA (HX0.o.keep hb);have Y1:=aA (HX1.o.keep hb);have Y2:=aA (HX2.o.keep hb);have Y3:=aA (HX3.o.keep hb);clear hb HX0 HX1 HX2 HX3;obtain⟨a0,a1⟩:=Y0.o.two;obtain⟨b0,b1⟩:=Y1.o.two;obtain⟨d0,d1⟩:=Y2.o.two;obtain⟨bl,off,T',A1,n1,c1,A2,n2,c2,rfl,hbl,hT',q0',q1',q2',i1,i2,m1,m2⟩:=bK.get H.o hin;obtain rfl:T'=T:=by have:=hT'.o;rw[HT.o]at this;injection this with this;exact this.symm
 rw[hl0]at q0';have q0:=(B1.o.cell (p:=⟨bl,off+i*3,none⟩) hbl).trans q0';have q1:=(B1.o.cell (p:=⟨bl,off+i*3+1,none⟩) hbl).trans q1';have q2:=(B1.o.cell (p:=⟨bl,off+i*3+2,none⟩) hbl).trans q2';have I1:=aA i1;have I2:=aA i2;clear i1 i2 q0' q1' q2' hl0;go_wp2
 go_quiet (fail)
 have Z0:=aA (Y0.o.drewN nq);have Z1:=aA (Y1.o.drewN nq);have Z2:=aA (Y2.o.drewN nq);have Z3:=aA (Y3.o.drewN nq);have D2:=aA (B1.o.trans ((Drew.drewN w1 nq).below.mono B1.o.size));have e0:(w1.drewN nq).cell? ⟨bl,off+i*3,none⟩=some (.int .i64 0):=q0;have e1:(w1.drewN nq).cell? ⟨bl,off+i*3+1,none⟩=some (.slice A1 n1 c1):=q1;have e2:(w1.drewN nq).cell? ⟨bl,off+i*3+2,none⟩=some (.slice A2 n2 c2):=q2;generalize w1.drewN nq=w2 at *
 clear Y0 Y1 Y2 Y3 a0 a1 b0 b1 d0 d1 q0 q1 q2;obtain⟨a0,a1⟩:=Z0.o.two;obtain⟨b0,b1⟩:=Z1.o.two;obtain⟨d0,d1⟩:=Z2.o.two;go_wp2
 generalize hw3:w2.alloc (.cells #[.int .i64 0,.slice A1 n1 c1,.slice A2 n2 c2] 49)=w3;have V0:=aA (show Box w3 _ _ _ by rw[←hw3];exact Z0.o.old _);have V1:=aA (show Box w3 _ _ _ by rw[←hw3];exact Z1.o.old _);have V2:=aA (show Box w3 _ _ _ by rw[←hw3];exact Z2.o.old _);have V3:=aA (show Box w3 _ _ _ by rw[←hw3];exact Z3.o.old _);have V4:=aA (show Box w3 w2.heap.size 49 #[.int .i64 0,.slice A1 n1 c1,.slice A2 n2 c2] by rw[←hw3];exact Box.new _ _ _);have D3:=aA (show Below w.heap.size w w3 by rw[←hw3];exact D2.o.alloc D2.o.size _);clear hw3 Z0 Z1 Z2 Z3 a0 a1 b0 b1 d0 d1 e0 e1 e2;obtain⟨bx,hbx⟩:∃bx,w2.heap.size=bx:=⟨_,rfl⟩;rw[hbx]at V4;rw[hbx];clear hbx D2 B1;obtain⟨b0,b1⟩:=V1.o.two;refine aF 5 (.takes [0,1,2,3] (.one 4 (.fins [5,6,7] .done))) (fun w'=>w'.cell? ⟨w.heap.size+1,0,none⟩=some (.slice B m d)∧w'.cell? ⟨w.heap.size+1,1,none⟩=some (.slice D l k)) (by kernel_rfl) (by kernel_rfl) (by kernel_rfl) (fun _ _ _ _ _ h=>h) ⟨b0,b1⟩ (fun hH=>?_);simp only[Scr.takes,Scr.fins]
 iterate 4
  refine aH (v:=?_) rfl (by rfl) hH (fun w' hSw=>?_) ?_
  rotate_left
  ·(go_simp;try with_reducible rfl)
  simp only[Act.put,aL,aM,aN]
 refine bI rfl (fun K hK=>?_);go_simp;go_at_call 73
 (with_reducible refine(bE (BB.o.keep (D3.o.trans (((Below.refl _ _).drew:Below w3.heap.size w3 w3.drew).mono D3.o.size))) hl).mono ?_)
 rintro e w4 ⟨v,rfl,own,hb4⟩;obtain⟨C4,k4,rfl,own4⟩:=own.sl (by omega);have hb4':Below w3.heap.size w3 w4:=((Below.refl _ _).drew:Below w3.heap.size w3 w3.drew).trans hb4;have U0:=aA (V0.o.keep hb4');have U1:=aA (V1.o.keep hb4');have U2:=aA (V2.o.keep hb4');have U3:=aA (V3.o.keep hb4');have U4:=aA (V4.o.keep hb4');have D4:=aA (D3.o.trans (hb4'.mono D3.o.size));have HF4:=aA ((aC.fresh own rfl).mono (show w.heap.size≤w3.drew.heap.size from D3.o.size));have O4:=aA (show aJ w4 C4 l k4 p.busy from own4);clear own own4 hb4 hb4' V0 V1 V2 V3 V4 b0 b1;obtain⟨a0,a1⟩:=U0.o.two;obtain⟨b0,b1⟩:=U1.o.two;obtain⟨d0,d1⟩:=U2.o.two;obtain⟨t0,t1,t2⟩:=U4.o.three;refine hK.out _ _ ⟨b0,b1⟩ (fun hH=>?_);clear hK
 iterate 3
  refine bF rfl (fun K hK=>?_);go_simp
  refine hK.out _ _ ?_;clear hK;try simp only[Act.put,aL,aM,aN]
 refine bP ?_;go_wp2_with fail
 refine(jI (P:=P) (H.o.keep D4.o) (G.o.keep D4.o) i).mono ?_;rw[HQ.o];rintro e w5 ⟨C5,l5,k5,rfl,i5,hb,hf5⟩;have HF5:=aA (hf5.mono D4.o.size);clear hf5;have I5:=aA i5;have O5:=aA (O4.o.keep hb);have D5:=aA (D4.o.trans (hb.mono D4.o.size));have W0:=aA (U0.o.keep hb);have W1:=aA (U1.o.keep hb);have W2:=aA (U2.o.keep hb);have W3:=aA (U3.o.keep hb);have W4:=aA (U4.o.keep hb);clear hb i5 U0 U1 U2 U3 U4;clear a0 a1 b0 b1 d0 d1 t0 t1 t2;obtain⟨a0,a1⟩:=W0.o.two;obtain⟨b0,b1⟩:=W1.o.two;obtain⟨d0,d1⟩:=W2.o.two;obtain⟨t0,t1,t2⟩:=W4.o.three;by_cases hz:q.2=0
 ·have FE:=aA (show doL ⟨P,ts⟩ p 1 (i:Int)=(⟨q.1,p.busy⟩,0) by rw[FIN.o,wH,if_pos hz];simp);rw[hz];clear hz;obtain⟨z0,z1⟩:=W3.o.two;have zf:=W3.o.frozen 0;have zg:=W3.o.frozen 1;go_wp2
  obtain⟨r0,r1⟩:=(W3.o.set2 (.slice C5 l5 k5) (.slice C4 l k4)).two;exact bodyPost_ret (v:=.tuple #[.agg #[.slice C5 l5 k5,.slice C4 l k4],.int .i64 0]) (by simp[results,Tryz.results39,go_sem,r0,r1]) rfl
   ⟨_,_,_,_,_,_,by rw[FE.o],by rw[FE.o];exact(I5.o).beside W3.o jF (aK.set2 _ _ _ _ _ _),by rw[FE.o];exact(O5.o).beside W3.o jF (aK.set2 _ _ _ _ _ _),(D5.o.setCell (by show w.heap.size≤w.heap.size+1+1+1;omega) _).setCell (by show w.heap.size≤w.heap.size+1+1+1;omega) _,HF5.o,HF4.o⟩
 ·have FE:=aA (show doL ⟨P,ts⟩ p 1 (i:Int)=(a8.nil,q.2) by rw[FIN.o,wH,if_neg hz]);have hne2:(q.2==0)=false:=by simpa using hz
  have hne3:(q.2 != 0)=true:=by simpa using hz
  clear hz;go_wp2_with fail
  refine(bN _ q.2).mono ?_;rintro e we ⟨rfl,hbe⟩;have Ze:=aA (W3.o.keep hbe);obtain⟨z0,z1⟩:=Ze.o.two;have zf:=Ze.o.frozen 0;have zg:=Ze.o.frozen 1;have Be:=aA (D5.o.trans (hbe.mono D5.o.size));clear hbe;go_wp2
  obtain⟨r0,r1⟩:=(Ze.o.set2 (.slice none 0 0) (.slice none 0 0)).two;exact bodyPost_ret (v:=.tuple #[.agg #[.slice none 0 0,.slice none 0 0],.int .i64 (q.2)]) (by simp[results,Tryz.results39,go_sem,r0,r1]) rfl (by rw[FE.o];exact hZ.no ((Be.o.setCell (by show w.heap.size≤w.heap.size+1+1+1;omega) _).setCell (by show w.heap.size≤w.heap.size+1+1+1;omega) _))
theorem XW {w:World}{P:Int}{A B D:OAd}{n c m d l k:Nat}{ts:List aI}{p:a8}(i:Nat)(T:aI)(hT:ts[i]?=some T)(hok:cI ⟨P,ts⟩ p=true)(hl0:¬T.label=0)(h:bK w A n c ts)(g:aJ w B m d p.mark)(b:aJ w D l k p.busy)(hl:l≤17592186044416) :
  Calls Tryz.prog 39 #[.agg #[.int .i64 P,.slice A n c],.agg #[.slice B m d,.slice D l k],.agg #[.int .i64 2,.int .i64 i]] w (hZ (doL ⟨P,ts⟩ p 2 i) w):=by
 obtain⟨B0',X0,X1,X2,X3⟩:=Ej w #[.int .i64 P,.slice A n c] #[.slice B m d,.slice D l k] #[.int .i64 2,.int .i64 i] #[.slice none 0 0,.slice none 0 0] 24 30 117 30;have B0:=aA B0';have HX0:=aA X0;have HX1:=aA X1;have HX2:=aA X2;have HX3:=aA X3;clear B0' X0 X1 X2 X3;have hn:=h.small;have hm:=g.small;have H:=aA h;have G:=aA g;have BB:=aA b;have hin:i<n:=by rw[←h.len];exact(List.getElem?_eq_some_iff.1 hT).1
 have hini:(i:Int)<(n:Int):=by omega
 have hi0:(0:Int)≤(i:Int):=by omega
 have HT:=aA hT;have HO:=aA hok;have hcase:=(bB _ _).1 hok;have hnt:=cB hcase.1 hT;have hm16:m≤16:=by have h1:=((aQ _).1 hcase.1).2.1;have h2:=hcase.2.1;rw[g.len]at h2;simp only[]at h1 h2;omega
 have hil:i<l:=by have h1:=hcase.2.2.2.1;rw[b.len]at h1;simp only[]at h1;rw[h.len]at h1;omega
 have HRB:=aA hcase.2.2.2.2;obtain⟨q,hq⟩:∃q,sA p.mark T.pre=q:=⟨_,rfl⟩;obtain⟨r,hr⟩:∃r,pW p.busy i 1=r:=⟨_,rfl⟩;have FIN:=aA (show doL ⟨P,ts⟩ p 2 (i:Int)=wH q r by
  rw[AW hok (by omega) hT,if_pos (by simp[hl0]),WS hcase.2.2.1 (dI hnt.2.2.2.2.1) hcase.2.2.2.2 (by rw[hcase.2.2.2.1];exact(List.getElem?_eq_some_iff.1 hT).1),hq,hr])
 have HQ:=aA hq;have HR:=aA hr;clear hq hr;clear hT hok hcase hnt h g b;go_enter Tryz.func39,Tryz.ntmps39
 go_wp2_with fail
 refine(eO (P:=P) (p:=p) (H.o.keep B0.o) (G.o.keep B0.o) (BB.o.keep B0.o)).mono ?_;rw[HO.o];rintro e w1 ⟨rfl,hb⟩;have B1:=aA (B0.o.trans (hb.mono B0.o.size));have Y0:=aA (HX0.o.keep hb);have Y1:=aA (HX1.o.keep hb);have Y2:=aA (HX2.o.keep hb);have Y3:=aA (HX3.o.keep hb);clear hb HX0 HX1 HX2 HX3;obtain⟨a0,a1⟩:=Y0.o.two;obtain⟨b0,b1⟩:=Y1.o.two;obtain⟨d0,d1⟩:=Y2.o.two;obtain⟨bl,off,T',A1,n1,c1,A2,n2,c2,rfl,hbl,hT',q0',q1',q2',i1,i2,m1,m2⟩:=bK.get H.o hin;obtain rfl:T'=T:=by have:=hT'.o;rw[HT.o]at this;injection this with this;exact this.symm
 have hne:(T'.label==0)=false:=by simpa using hl0
 have q0:=(B1.o.cell (p:=⟨bl,off+i*3,none⟩) hbl).trans q0';have q1:=(B1.o.cell (p:=⟨bl,off+i*3+1,none⟩) hbl).trans q1';have q2:=(B1.o.cell (p:=⟨bl,off+i*3+2,none⟩) hbl).trans q2';have I1:=aA i1;have I2:=aA i2;clear i1 i2 q0' q1' q2' hl0;go_wp2
 go_quiet (fail)
 have Z0:=aA (Y0.o.drewN nq);have Z1:=aA (Y1.o.drewN nq);have Z2:=aA (Y2.o.drewN nq);have Z3:=aA (Y3.o.drewN nq);have D2:=aA (B1.o.trans ((Drew.drewN w1 nq).below.mono B1.o.size));have e0:(w1.drewN nq).cell? ⟨bl,off+i*3,none⟩=some (.int .i64 T'.label):=q0;have e1:(w1.drewN nq).cell? ⟨bl,off+i*3+1,none⟩=some (.slice A1 n1 c1):=q1;have e2:(w1.drewN nq).cell? ⟨bl,off+i*3+2,none⟩=some (.slice A2 n2 c2):=q2;generalize w1.drewN nq=w2 at *
 clear Y0 Y1 Y2 Y3 a0 a1 b0 b1 d0 d1 q0 q1 q2;obtain⟨a0,a1⟩:=Z0.o.two;obtain⟨b0,b1⟩:=Z1.o.two;obtain⟨d0,d1⟩:=Z2.o.two;go_wp2
 generalize hw3:w2.alloc (.cells #[.int .i64 T'.label,.slice A1 n1 c1,.slice A2 n2 c2] 49)=w3;have V0:=aA (show Box w3 _ _ _ by rw[←hw3];exact Z0.o.old _);have V1:=aA (show Box w3 _ _ _ by rw[←hw3];exact Z1.o.old _);have V2:=aA (show Box w3 _ _ _ by rw[←hw3];exact Z2.o.old _);have V3:=aA (show Box w3 _ _ _ by rw[←hw3];exact Z3.o.old _);have V4:=aA (show Box w3 w2.heap.size 49 #[.int .i64 T'.label,.slice A1 n1 c1,.slice A2 n2 c2] by rw[←hw3];exact Box.new _ _ _);have D3:=aA (show Below w.heap.size w w3 by rw[←hw3];exact D2.o.alloc D2.o.size _);clear hw3 Z0 Z1 Z2 Z3 a0 a1 b0 b1 d0 d1 e0 e1 e2;obtain⟨bx,hbx⟩:∃bx,w2.heap.size=bx:=⟨_,rfl⟩;rw[hbx]at V4;rw[hbx];clear hbx D2 B1;obtain⟨b0,b1⟩:=V1.o.two;refine aF 5 (.takes [0,1,2,3] (.one 4 (.fins [5,6,7] .done))) (fun w'=>w'.cell? ⟨w.heap.size+1,0,none⟩=some (.slice B m d)∧w'.cell? ⟨w.heap.size+1,1,none⟩=some (.slice D l k)) (by kernel_rfl) (by kernel_rfl) (by kernel_rfl) (fun _ _ _ _ _ h=>h) ⟨b0,b1⟩ (fun hH=>?_);simp only[Scr.takes,Scr.fins]
 iterate 4
  refine aH (v:=?_) rfl (by rfl) hH (fun w' hSw=>?_) ?_
  rotate_left
  ·(go_simp;try with_reducible rfl)
  simp only[Act.put,aL,aM,aN]
 refine bI rfl (fun K hK=>?_);go_simp;go_at_call 73
 (with_reducible refine(bE (BB.o.keep (D3.o.trans (((Below.refl _ _).drew:Below w3.heap.size w3 w3.drew).mono D3.o.size))) hl).mono ?_)
 rintro e w4 ⟨v,rfl,own,hb4⟩;obtain⟨C4,k4,rfl,own4⟩:=own.sl (by omega);have hb4':Below w3.heap.size w3 w4:=((Below.refl _ _).drew:Below w3.heap.size w3 w3.drew).trans hb4;have U0:=aA (V0.o.keep hb4');have U1:=aA (V1.o.keep hb4');have U2:=aA (V2.o.keep hb4');have U3:=aA (V3.o.keep hb4');have U4:=aA (V4.o.keep hb4');have D4:=aA (D3.o.trans (hb4'.mono D3.o.size));have HF4:=aA ((aC.fresh own rfl).mono (show w.heap.size≤w3.drew.heap.size from D3.o.size));have O4:=aA (show aJ w4 C4 l k4 p.busy from own4);clear own own4 hb4 hb4' V0 V1 V2 V3 V4 b0 b1;obtain⟨a0,a1⟩:=U0.o.two;obtain⟨b0,b1⟩:=U1.o.two;obtain⟨d0,d1⟩:=U2.o.two;obtain⟨t0,t1,t2⟩:=U4.o.three;refine hK.out _ _ ⟨b0,b1⟩ (fun hH=>?_);clear hK
 iterate 3
  refine bF rfl (fun K hK=>?_);go_simp
  refine hK.out _ _ ?_;clear hK;try simp only[Act.put,aL,aM,aN]
 refine bP ?_;go_wp2_with fail
 refine(sD (G.o.keep D4.o) (I1.o.keep D4.o) (by omega)).mono ?_;rw[HQ.o];rintro e w5 ⟨C5,l5,k5,rfl,i5,hb,hf5⟩;have HF5:=aA (hf5.mono D4.o.size);clear hf5;have I5:=aA i5;have D5:=aA (D4.o.trans (hb.mono D4.o.size));have W0:=aA (U0.o.keep hb);have W1:=aA (U1.o.keep hb);have W2:=aA (U2.o.keep hb);have W3:=aA (U3.o.keep hb);have W4:=aA (U4.o.keep hb);clear hb i5 U0 U1 U2 U3 U4;clear a0 a1 b0 b1 d0 d1 t0 t1 t2;obtain⟨a0,a1⟩:=W0.o.two;obtain⟨b0,b1⟩:=W1.o.two;obtain⟨d0,d1⟩:=W2.o.two;obtain⟨t0,t1,t2⟩:=W4.o.three;by_cases hz:q.2=0
 ·have F1:=aA (show doL ⟨P,ts⟩ p 2 (i:Int)=if r.2=0 then(⟨q.1,r.1⟩,0)else(a8.nil,r.2) by rw[FIN.o,wH,if_pos hz]);rw[hz];clear hz;go_wp2_with fail
  refine(rF i 1 (BB.o.keep D5.o) hl hil HRB.o (by omega) (by omega)).mono ?_;rw[HR.o];rintro e w6 ⟨C6,l6,k6,rfl,i6,hb,hf6⟩;have HF6:=aA (hf6.mono D5.o.size);clear hf6;have I6:=aA i6;have J5:=aA (I5.o.keep hb);have D6:=aA (D5.o.trans (hb.mono D5.o.size));have R0:=aA (W0.o.keep hb);have R1:=aA (W1.o.keep hb);have R2:=aA (W2.o.keep hb);have R3:=aA (W3.o.keep hb);have R4:=aA (W4.o.keep hb);clear hb i6 W0 W1 W2 W3 W4;clear a0 a1 b0 b1 d0 d1 t0 t1 t2;obtain⟨a0,a1⟩:=R0.o.two;obtain⟨b0,b1⟩:=R1.o.two;obtain⟨d0,d1⟩:=R2.o.two;obtain⟨t0,t1,t2⟩:=R4.o.three;by_cases hy:r.2=0
  ·have FE:=aA (show doL ⟨P,ts⟩ p 2 (i:Int)=(⟨q.1,r.1⟩,0) by rw[F1.o,if_pos hy]);rw[hy];clear hy;obtain⟨z0,z1⟩:=R3.o.two;have zf:=R3.o.frozen 0;have zg:=R3.o.frozen 1;go_wp2
   obtain⟨r0,r1⟩:=(R3.o.set2 (.slice C5 l5 k5) (.slice C6 l6 k6)).two;exact bodyPost_ret (v:=.tuple #[.agg #[.slice C5 l5 k5,.slice C6 l6 k6],.int .i64 0]) (by simp[results,Tryz.results39,go_sem,r0,r1]) rfl
    ⟨_,_,_,_,_,_,by rw[FE.o],by rw[FE.o];exact(J5.o).beside R3.o jF (aK.set2 _ _ _ _ _ _),by rw[FE.o];exact(I6.o).beside R3.o jF (aK.set2 _ _ _ _ _ _),(D6.o.setCell (by show w.heap.size≤w.heap.size+1+1+1;omega) _).setCell (by show w.heap.size≤w.heap.size+1+1+1;omega) _,HF5.o,HF6.o⟩
  ·have FE:=aA (show doL ⟨P,ts⟩ p 2 (i:Int)=(a8.nil,r.2) by rw[F1.o,if_neg hy]);have hne2:(r.2==0)=false:=by simpa using hy
   have hne3:(r.2 != 0)=true:=by simpa using hy
   clear hy;go_wp2_with fail
   refine(bN _ r.2).mono ?_;rintro e we ⟨rfl,hbe⟩;have Ze:=aA (R3.o.keep hbe);obtain⟨z0,z1⟩:=Ze.o.two;have zf:=Ze.o.frozen 0;have zg:=Ze.o.frozen 1;have Be:=aA (D6.o.trans (hbe.mono D6.o.size));clear hbe;go_wp2
   obtain⟨r0,r1⟩:=(Ze.o.set2 (.slice none 0 0) (.slice none 0 0)).two;exact bodyPost_ret (v:=.tuple #[.agg #[.slice none 0 0,.slice none 0 0],.int .i64 (r.2)]) (by simp[results,Tryz.results39,go_sem,r0,r1]) rfl (by rw[FE.o];exact hZ.no ((Be.o.setCell (by show w.heap.size≤w.heap.size+1+1+1;omega) _).setCell (by show w.heap.size≤w.heap.size+1+1+1;omega) _))
 ·have FE:=aA (show doL ⟨P,ts⟩ p 2 (i:Int)=(a8.nil,q.2) by rw[FIN.o,wH,if_neg hz]);have hne2:(q.2==0)=false:=by simpa using hz
  have hne3:(q.2 != 0)=true:=by simpa using hz
  clear hz;go_wp2_with fail
  refine(bN _ q.2).mono ?_;rintro e we ⟨rfl,hbe⟩;have Ze:=aA (W3.o.keep hbe);obtain⟨z0,z1⟩:=Ze.o.two;have zf:=Ze.o.frozen 0;have zg:=Ze.o.frozen 1;have Be:=aA (D5.o.trans (hbe.mono D5.o.size));clear hbe;go_wp2
  obtain⟨r0,r1⟩:=(Ze.o.set2 (.slice none 0 0) (.slice none 0 0)).two;exact bodyPost_ret (v:=.tuple #[.agg #[.slice none 0 0,.slice none 0 0],.int .i64 (q.2)]) (by simp[results,Tryz.results39,go_sem,r0,r1]) rfl (by rw[FE.o];exact hZ.no ((Be.o.setCell (by show w.heap.size≤w.heap.size+1+1+1;omega) _).setCell (by show w.heap.size≤w.heap.size+1+1+1;omega) _))
theorem XZ {w:World}{P:Int}{A B D:OAd}{n c m d l k:Nat}{ts:List aI}{p:a8}(i:Nat)(T:aI)(hT:ts[i]?=some T)(hok:cI ⟨P,ts⟩ p=true)(hl0:¬T.label=0)(h:bK w A n c ts)(g:aJ w B m d p.mark)(b:aJ w D l k p.busy)(hl:l≤17592186044416) :
  Calls Tryz.prog 39 #[.agg #[.int .i64 P,.slice A n c],.agg #[.slice B m d,.slice D l k],.agg #[.int .i64 3,.int .i64 i]] w (hZ (doL ⟨P,ts⟩ p 3 i) w):=by
 obtain⟨B0',X0,X1,X2,X3⟩:=Ej w #[.int .i64 P,.slice A n c] #[.slice B m d,.slice D l k] #[.int .i64 3,.int .i64 i] #[.slice none 0 0,.slice none 0 0] 24 30 117 30;have B0:=aA B0';have HX0:=aA X0;have HX1:=aA X1;have HX2:=aA X2;have HX3:=aA X3;clear B0' X0 X1 X2 X3;have hn:=h.small;have hm:=g.small;have H:=aA h;have G:=aA g;have BB:=aA b;have hin:i<n:=by rw[←h.len];exact(List.getElem?_eq_some_iff.1 hT).1
 have hini:(i:Int)<(n:Int):=by omega
 have hi0:(0:Int)≤(i:Int):=by omega
 have HT:=aA hT;have HO:=aA hok;have hcase:=(bB _ _).1 hok;have hnt:=cB hcase.1 hT;have hm16:m≤16:=by have h1:=((aQ _).1 hcase.1).2.1;have h2:=hcase.2.1;rw[g.len]at h2;simp only[]at h1 h2;omega
 have hil:i<l:=by have h1:=hcase.2.2.2.1;rw[b.len]at h1;simp only[]at h1;rw[h.len]at h1;omega
 have HRB:=aA hcase.2.2.2.2;obtain⟨r,hr⟩:∃r,pW p.busy i (-1)=r:=⟨_,rfl⟩;obtain⟨q,hq⟩:∃q,yQ p.mark T.post=q:=⟨_,rfl⟩;have FIN:=aA (show doL ⟨P,ts⟩ p 3 (i:Int)=AX r q by
  have hg:lL 3 T=T.post:=by simp[lL]
  rw[AW hok (by omega) hT,if_pos (by simp[hl0]),TZ (by simp) hcase.2.2.1 (by rw[hg];exact dI hnt.2.2.2.2.2) hcase.2.2.2.2,hg,hq,hr])
 have HQ:=aA hq;have HR:=aA hr;clear hq hr;clear hT hok hcase hnt h g b;go_enter Tryz.func39,Tryz.ntmps39
 go_wp2_with fail
 refine(eO (P:=P) (p:=p) (H.o.keep B0.o) (G.o.keep B0.o) (BB.o.keep B0.o)).mono ?_;rw[HO.o];rintro e w1 ⟨rfl,hb⟩;have B1:=aA (B0.o.trans (hb.mono B0.o.size));have Y0:=aA (HX0.o.keep hb);have Y1:=aA (HX1.o.keep hb);have Y2:=aA (HX2.o.keep hb);have Y3:=aA (HX3.o.keep hb);clear hb HX0 HX1 HX2 HX3;obtain⟨a0,a1⟩:=Y0.o.two;obtain⟨b0,b1⟩:=Y1.o.two;obtain⟨d0,d1⟩:=Y2.o.two;obtain⟨bl,off,T',A1,n1,c1,A2,n2,c2,rfl,hbl,hT',q0',q1',q2',i1,i2,m1,m2⟩:=bK.get H.o hin;obtain rfl:T'=T:=by have:=hT'.o;rw[HT.o]at this;injection this with this;exact this.symm
 have hne:(T'.label==0)=false:=by simpa using hl0
 have q0:=(B1.o.cell (p:=⟨bl,off+i*3,none⟩) hbl).trans q0';have q1:=(B1.o.cell (p:=⟨bl,off+i*3+1,none⟩) hbl).trans q1';have q2:=(B1.o.cell (p:=⟨bl,off+i*3+2,none⟩) hbl).trans q2';have I1:=aA i1;have I2:=aA i2;clear i1 i2 q0' q1' q2' hl0;go_wp2
 go_quiet (fail)
 have Z0:=aA (Y0.o.drewN nq);have Z1:=aA (Y1.o.drewN nq);have Z2:=aA (Y2.o.drewN nq);have Z3:=aA (Y3.o.drewN nq);have D2:=aA (B1.o.trans ((Drew.drewN w1 nq).below.mono B1.o.size));have e0:(w1.drewN nq).cell? ⟨bl,off+i*3,none⟩=some (.int .i64 T'.label):=q0;have e1:(w1.drewN nq).cell? ⟨bl,off+i*3+1,none⟩=some (.slice A1 n1 c1):=q1;have e2:(w1.drewN nq).cell? ⟨bl,off+i*3+2,none⟩=some (.slice A2 n2 c2):=q2;generalize w1.drewN nq=w2 at *
 clear Y0 Y1 Y2 Y3 a0 a1 b0 b1 d0 d1 q0 q1 q2;obtain⟨a0,a1⟩:=Z0.o.two;obtain⟨b0,b1⟩:=Z1.o.two;obtain⟨d0,d1⟩:=Z2.o.two;go_wp2
 generalize hw3:w2.alloc (.cells #[.int .i64 T'.label,.slice A1 n1 c1,.slice A2 n2 c2] 49)=w3;have V0:=aA (show Box w3 _ _ _ by rw[←hw3];exact Z0.o.old _);have V1:=aA (show Box w3 _ _ _ by rw[←hw3];exact Z1.o.old _);have V2:=aA (show Box w3 _ _ _ by rw[←hw3];exact Z2.o.old _);have V3:=aA (show Box w3 _ _ _ by rw[←hw3];exact Z3.o.old _);have V4:=aA (show Box w3 w2.heap.size 49 #[.int .i64 T'.label,.slice A1 n1 c1,.slice A2 n2 c2] by rw[←hw3];exact Box.new _ _ _);have D3:=aA (show Below w.heap.size w w3 by rw[←hw3];exact D2.o.alloc D2.o.size _);clear hw3 Z0 Z1 Z2 Z3 a0 a1 b0 b1 d0 d1 e0 e1 e2;obtain⟨bx,hbx⟩:∃bx,w2.heap.size=bx:=⟨_,rfl⟩;rw[hbx]at V4;rw[hbx];clear hbx D2 B1;obtain⟨b0,b1⟩:=V1.o.two;refine aF 5 (.takes [0,1,2,3] (.one 4 (.fins [5,6,7] .done))) (fun w'=>w'.cell? ⟨w.heap.size+1,0,none⟩=some (.slice B m d)∧w'.cell? ⟨w.heap.size+1,1,none⟩=some (.slice D l k)) (by kernel_rfl) (by kernel_rfl) (by kernel_rfl) (fun _ _ _ _ _ h=>h) ⟨b0,b1⟩ (fun hH=>?_);simp only[Scr.takes,Scr.fins]
 iterate 4
  refine aH (v:=?_) rfl (by rfl) hH (fun w' hSw=>?_) ?_
  rotate_left
  ·(go_simp;try with_reducible rfl)
  simp only[Act.put,aL,aM,aN]
 refine bI rfl (fun K hK=>?_);go_simp;go_at_call 73
 (with_reducible refine(bE (BB.o.keep (D3.o.trans (((Below.refl _ _).drew:Below w3.heap.size w3 w3.drew).mono D3.o.size))) hl).mono ?_)
 rintro e w4 ⟨v,rfl,own,hb4⟩;obtain⟨C4,k4,rfl,own4⟩:=own.sl (by omega);have hb4':Below w3.heap.size w3 w4:=((Below.refl _ _).drew:Below w3.heap.size w3 w3.drew).trans hb4;have U0:=aA (V0.o.keep hb4');have U1:=aA (V1.o.keep hb4');have U2:=aA (V2.o.keep hb4');have U3:=aA (V3.o.keep hb4');have U4:=aA (V4.o.keep hb4');have D4:=aA (D3.o.trans (hb4'.mono D3.o.size));have HF4:=aA ((aC.fresh own rfl).mono (show w.heap.size≤w3.drew.heap.size from D3.o.size));have O4:=aA (show aJ w4 C4 l k4 p.busy from own4);clear own own4 hb4 hb4' V0 V1 V2 V3 V4 b0 b1;obtain⟨a0,a1⟩:=U0.o.two;obtain⟨b0,b1⟩:=U1.o.two;obtain⟨d0,d1⟩:=U2.o.two;obtain⟨t0,t1,t2⟩:=U4.o.three;refine hK.out _ _ ⟨b0,b1⟩ (fun hH=>?_);clear hK
 iterate 3
  refine bF rfl (fun K hK=>?_);go_simp
  refine hK.out _ _ ?_;clear hK;try simp only[Act.put,aL,aM,aN]
 refine bP ?_;go_wp2_with fail
 refine(rF i (-1) (BB.o.keep D4.o) hl hil HRB.o (by omega) (by omega)).mono ?_;rw[HR.o];rintro e w5 ⟨C5,l5,k5,rfl,i5,hb,hf5⟩;have HF5:=aA (hf5.mono D4.o.size);clear hf5;have I5:=aA i5;have D5:=aA (D4.o.trans (hb.mono D4.o.size));have W0:=aA (U0.o.keep hb);have W1:=aA (U1.o.keep hb);have W2:=aA (U2.o.keep hb);have W3:=aA (U3.o.keep hb);have W4:=aA (U4.o.keep hb);clear hb i5 U0 U1 U2 U3 U4;clear a0 a1 b0 b1 d0 d1 t0 t1 t2;obtain⟨a0,a1⟩:=W0.o.two;obtain⟨b0,b1⟩:=W1.o.two;obtain⟨d0,d1⟩:=W2.o.two;obtain⟨t0,t1,t2⟩:=W4.o.three;by_cases hz:r.2=0
 ·have F1:=aA (show doL ⟨P,ts⟩ p 3 (i:Int)=if q.2=0 then(⟨q.1,r.1⟩,0)else(a8.nil,q.2) by rw[FIN.o,AX,if_pos hz]);rw[hz];clear hz;go_wp2_with fail
  refine(pA (G.o.keep D5.o) (I2.o.keep D5.o) (by omega)).mono ?_;rw[HQ.o];rintro e w6 ⟨C6,l6,k6,rfl,i6,hb,hf6⟩;have HF6:=aA (hf6.mono D5.o.size);clear hf6;have I6:=aA i6;have J5:=aA (I5.o.keep hb);have D6:=aA (D5.o.trans (hb.mono D5.o.size));have R0:=aA (W0.o.keep hb);have R1:=aA (W1.o.keep hb);have R2:=aA (W2.o.keep hb);have R3:=aA (W3.o.keep hb);have R4:=aA (W4.o.keep hb);clear hb i6 W0 W1 W2 W3 W4;clear a0 a1 b0 b1 d0 d1 t0 t1 t2;obtain⟨a0,a1⟩:=R0.o.two;obtain⟨b0,b1⟩:=R1.o.two;obtain⟨d0,d1⟩:=R2.o.two;obtain⟨t0,t1,t2⟩:=R4.o.three;by_cases hy:q.2=0
  ·have FE:=aA (show doL ⟨P,ts⟩ p 3 (i:Int)=(⟨q.1,r.1⟩,0) by rw[F1.o,if_pos hy]);rw[hy];clear hy;obtain⟨z0,z1⟩:=R3.o.two;have zf:=R3.o.frozen 0;have zg:=R3.o.frozen 1;go_wp2
   obtain⟨r0,r1⟩:=(R3.o.set2 (.slice C6 l6 k6) (.slice C5 l5 k5)).two;exact bodyPost_ret (v:=.tuple #[.agg #[.slice C6 l6 k6,.slice C5 l5 k5],.int .i64 0]) (by simp[results,Tryz.results39,go_sem,r0,r1]) rfl
    ⟨_,_,_,_,_,_,by rw[FE.o],by rw[FE.o];exact(I6.o).beside R3.o jF (aK.set2 _ _ _ _ _ _),by rw[FE.o];exact(J5.o).beside R3.o jF (aK.set2 _ _ _ _ _ _),(D6.o.setCell (by show w.heap.size≤w.heap.size+1+1+1;omega) _).setCell (by show w.heap.size≤w.heap.size+1+1+1;omega) _,HF6.o,HF5.o⟩
  ·have FE:=aA (show doL ⟨P,ts⟩ p 3 (i:Int)=(a8.nil,q.2) by rw[F1.o,if_neg hy]);have hne2:(q.2==0)=false:=by simpa using hy
   have hne3:(q.2 != 0)=true:=by simpa using hy
   clear hy;go_wp2_with fail
   refine(bN _ q.2).mono ?_;rintro e we ⟨rfl,hbe⟩;have Ze:=aA (R3.o.keep hbe);obtain⟨z0,z1⟩:=Ze.o.two;have zf:=Ze.o.frozen 0;have zg:=Ze.o.frozen 1;have Be:=aA (D6.o.trans (hbe.mono D6.o.size));clear hbe;go_wp2
   obtain⟨r0,r1⟩:=(Ze.o.set2 (.slice none 0 0) (.slice none 0 0)).two;exact bodyPost_ret (v:=.tuple #[.agg #[.slice none 0 0,.slice none 0 0],.int .i64 (q.2)]) (by simp[results,Tryz.results39,go_sem,r0,r1]) rfl (by rw[FE.o];exact hZ.no ((Be.o.setCell (by show w.heap.size≤w.heap.size+1+1+1;omega) _).setCell (by show w.heap.size≤w.heap.size+1+1+1;omega) _))
 ·have FE:=aA (show doL ⟨P,ts⟩ p 3 (i:Int)=(a8.nil,r.2) by rw[FIN.o,AX,if_neg hz]);have hne2:(r.2==0)=false:=by simpa using hz
  have hne3:(r.2 != 0)=true:=by simpa using hz
  clear hz;go_wp2_with fail
  refine(bN _ r.2).mono ?_;rintro e we ⟨rfl,hbe⟩;have Ze:=aA (W3.o.keep hbe);obtain⟨z0,z1⟩:=Ze.o.two;have zf:=Ze.o.frozen 0;have zg:=Ze.o.frozen 1;have Be:=aA (D5.o.trans (hbe.mono D5.o.size));clear hbe;go_wp2
  obtain⟨r0,r1⟩:=(Ze.o.set2 (.slice none 0 0) (.slice none 0 0)).two;exact bodyPost_ret (v:=.tuple #[.agg #[.slice none 0 0,.slice none 0 0],.int .i64 (r.2)]) (by simp[results,Tryz.results39,go_sem,r0,r1]) rfl (by rw[FE.o];exact hZ.no ((Be.o.setCell (by show w.heap.size≤w.heap.size+1+1+1;omega) _).setCell (by show w.heap.size≤w.heap.size+1+1+1;omega) _))
end Go.Proofs.YtfmnagcglhlicaaGreat
