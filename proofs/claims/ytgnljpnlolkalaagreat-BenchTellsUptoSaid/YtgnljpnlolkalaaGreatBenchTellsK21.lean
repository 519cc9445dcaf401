/- The reference's WFind. Conditions: the log reads as lists, nothing is wrong with it, the fuel is enough. -/
import Derived.Test.YtgnljpnlolkalaaGreatBenchTellsK13
set_option linter.all false
set_option maxRecDepth 100000
set_option maxHeartbeats 16000000
namespace Go.Proofs.YtgnljpnlolkalaaGreat
open Go.RowKit Go.Maps
def P7 {log:LLi}{k:Nat}{t:LIn}(h:log[k]?=some t):bF (log.take (k+1))=bF (log.take k)++(if 0<t.length then [t]else []):=by
 unfold bF;rw[cP,h,dP];simp only[Option.toList_some];congr 1
 by_cases a:0<t.length
 .rw[aG a];simp[rQ];intro e;rw[e]at a;simp at a
 rw[aD a];have:t=[]:=dS (by omega);subst this;rfl
def P8 {f:Nat}(IH:F8 f):F8 (f+1):=λw A n c log h hf=>by
 have k1:=aA IH;have HF:=aA hf;have NN:=aA (show n<=60 by rw[<-h.len];exact hf.n);have HL:=aA h.len;have H:=aA h;have B0:=aA ((aF w (.cells #[(0:Int),(0:Int),()] 35)).alloc (by simp) (.cells #[()] 30));have X0:=aA ((Box.new w #[(0:Int),(0:Int),()] 35).old (.cells #[()] 30));have Y0:=aA (Box.newAt (w:=w.alloc (.cells #[(0:Int),(0:Int),()] 35)) (n:=w.heap.size+1) (by simp) #[()] 30);clear h hf IH;go_enter Tryz.func44,Tryz.ntmps44
 go_upto_region 2 with fail
 generalize (w.alloc (.cells #[(0:Int),(0:Int),()] 35)).alloc (.cells #[()] 30)=w1 at *
 have W1:=aA Y0.o.lt;go_wp2
 go_loopg [30] n (λgk u wr=>∃(k nl:Nat) (AF:OAd) (cF:Nat),u=.int .i64 (k:Nat)/\Hid (k+gk=n/\nl<=k)/\Hid (nY wr w.heap.size w1 (.slice AF nl cF) nl (bF (log.take k)))/\Hid (Below w.heap.size w wr/\w1.heap.size<=wr.heap.size)/\Hid (Box wr w.heap.size 35 #[(0:Int),(0:Int),()])/\Hid (Box wr (w.heap.size+1) 30 #[.slice AF nl cF]))
 case atStart=>exact⟨0,0,none,0,rfl,aA (by omega),aA aJ.nil,aA ⟨B0.o,aB _⟩,X0,Y0⟩
 clear X0 Y0;obtain⟨k,nl,AF,cF,rfl,a3,RO,O,X0,Y0⟩:=hrel;by_cases b5:k<n
 .have n7:(k:Int)<(n:Int):=by omega
  obtain⟨b,I2,t,vs,rfl,hb,ht,hc,mt,⟨Bt,dt,e1,it,lt⟩,k2⟩:=Sl.get (Sl.keep (tI.kept _) (Sl.lows H.o) O.o.1) b5;have q0:wr.cell? ⟨b,I2+k,none⟩=some (.slice Bt mt dt):=by have:=hc 0 (by omega);rw[e1]at this;simpa using this
  have K:=aA (show gk-1<gk/\(k+1)+(gk-1)=n/\k<=60/\nl+1<=k+1/\nl<=k+1 by have:=a3.o;have:=NN.o;omega);have I3:IntKind.i64.wrap ((k:Int)+1)=((k+1:Nat):Int):=by
   have:=K.o;simp[IntKind.wrap,IntKind.bits,IntKind.signed];omega
  have TL:=aA it.len;have FX:=aA (P7 (show log[k]?=some t from ht));have RD:=aA (show cD (tI w.heap.size) 1 wr [.slice Bt mt dt] [t]from cD.list1 ⟨mt,⟨_,dt,rfl,it,lt⟩,k2⟩);have y0:=Y0.o.cell 0;have hB:=O.o.2;have n9:(nl+1)*24<=140737488355328:=by have:=K.o;omega
  have o1:nl+1<=281474976710656:=by omega
  have KP:=aA (show ∀w',wr.grownBy w' (Value.slice AF nl cF).ownBlock->∀vs y,tI w.heap.size wr vs y->tI w.heap.size w' vs y from λw' hg vs y hy=>hy.grownR hg (λq R=>by have:=(RO.o.lt q R).1;have:=W1.o;omega));have S5:=W1.o;clear hc e1 it lt hb b5 ht;by_cases h0:0<mt
  .have I4:(0:Int)<(mt:Int):=by omega
   have o2:=aA (show bF (log.take (k+1))=bF (log.take k)++[t] by rw[FX.o,aG (by rw[TL.o];exact h0)]);clear h0;go_wp2_with (at_builtin;refine dJ (v:=.slice AF nl cF) lO rfl _ _ rfl [t] _ rfl rfl rfl rfl (by simp[Value.oneCell']) RO.o RD.o rfl hB o1 n9 KP.o ?_;intro v8 w8 F W t1;obtain⟨X,Y,rfl,_⟩:=F.sl (by omega);have O8:=aA F;have t2:(Value.slice AF nl cF).ownBlock≠some (w.heap.size+1):=(λe=>by have:=(RO.o.lt _ e).1;omega);have t3:(Value.slice AF nl cF).ownBlock≠some w.heap.size:=(λe=>by have:=(RO.o.lt _ e).1;omega);have X8:=aA (X0.o.grown W t3);have Y8:=aA (Y0.o.grown W t2);have D8:=aA (O.o.1.grown W O.o.1.size (λq R=>by have:=(RO.o.lt q R).1;omega));have S8:=aA (aT hB W.size);have y8:=Y8.o.cell 0;have fy:=Y8.o.frozen 0)
   have GG:=dI w8 (w.heap.size+1) 0 (.slice X (nl+1) Y);have O9:=aA (show nY (w8.setCell ⟨w.heap.size+1,0,none⟩ (.slice X (nl+1) Y)) w.heap.size w1 (.slice X (nl+1) Y) (nl+1) (bF (log.take (k+1)))from by
    rw[o2.o];refine aJ.kept O8.o GG ?_ (λvs x hx=>hx.grownR GG (λq R=>by injection R with R;omega));cases hv:(Value.slice X (nl+1) Y).ownBlock with
    | none=>exact .inl rfl
    | some q=>exact .inr (λe=>by injection e with e;have:=(O8.o.lt q hv).1;omega))
   have D9:=aA (show Below w.heap.size w (w8.setCell ⟨w.heap.size+1,0,none⟩ (.slice X (nl+1) Y))/\w1.heap.size<=(w8.setCell ⟨w.heap.size+1,0,none⟩ (.slice X (nl+1) Y)).heap.size from⟨D8.o.grown GG D8.o.size (λq R=>by injection R with R;omega),aT S8.o GG.size⟩);have X9:=aA (X8.o.grown GG (λe=>by injection e with e;omega));have Y9:=aA (show Box (w8.setCell ⟨w.heap.size+1,0,none⟩ (.slice X (nl+1) Y)) (w.heap.size+1) 30 #[.slice X (nl+1) Y]from by have:=Y8.o.set 0 (.slice X (nl+1) Y);simpa using this);clear GG;go_roundg (gk-1)
   case measure=>exact K.o.1
   exact⟨k+1,nl+1,X,Y,rfl,aA ⟨K.o.2.1,K.o.2.2.2.1⟩,O9,D9,X9,Y9⟩
  have I4:¬(0:Int)<(mt:Int):=by omega
  have o2:=aA (show bF (log.take (k+1))=bF (log.take k) by rw[FX.o,aD (by rw[TL.o];exact h0),j9]);clear h0;go_wp2
  go_roundg (gk-1)
  case measure=>exact K.o.1
  exact⟨k+1,nl,AF,cF,rfl,aA ⟨K.o.2.1,K.o.2.2.2.2⟩,aA (by rw[o2.o];exact RO.o),O,X0,Y0⟩
 have n7:¬(k:Int)<(n:Int):=by omega
 have RF:=aA (show nY wr w.heap.size w1 (.slice AF nl cF) nl (bF log)from by
  have:=RO.o;rwa[aW (by rw[HL.o];omega)]at this)
 obtain⟨w3,I5⟩:∃x:World,x=wr:=⟨_,rfl⟩;subst I5;obtain⟨A3,c3,e3,t4⟩:=nY.lists RF.o (by have:=a3.o;have:=NN.o;omega);injection e3 with f5 _ f6;subst f5 f6;have IL:=aA t4;have D0:=aA O.o.1;have X3:=aA X0.o;have KL:=aA (show(bF log).length=nl/\nl<=n from⟨RF.o.len,by rw[<-RF.o.len,<-HL.o];exact fC _ _⟩);have W3:=aA X0.o.lt;have y3:=Y0.o.cell 0;clear t4 RO O X0 b5 a3;by_cases g1:nl=0
 .have EQ:=aA (Il (f:=f) (log:=log) (by rw[KL.o.1];exact g1));have t5:((nl:Int)==0)=true:=by simp[g1]
  have FB:=aA (show ∀(w':World) (v:Value),fF (λj=>w.heap.size<=j) (f+3) w' v (bE)->Below w.heap.size w w'->iT (f+1+2) (aX (f+1) log) w (.returned v) w' from λw' v hb hw=>⟨v,rfl,by rw[EQ.o];exact hb,hw⟩);have BZ:=aA (show fF (λq=>w3.heap.size<=q) (f+3) w3 (.agg #[(1:Int),(0:Int),()]) bE from⟨none,0,0,rfl,Sl.nil0,λh=>absurd h (by omega)⟩);clear g1;obtain⟨u0,u1,u2⟩:=X3.o.three;have fz:=λq=>X3.o.frozen q
  have r:=aA (dR (w:=w) BZ.o X3.o (aH _ _) D0.o W3.o (aB _));go_wp2
  generalize (((w3.setCell ⟨w.heap.size,0,none⟩ (.int .i64 1)).setCell ⟨w.heap.size,1,none⟩ (.int .i64 0)).setCell ⟨w.heap.size,2,none⟩ ())=ww at *
  obtain⟨z0,z1,z2⟩:=r.o.1.three;exact aU (v:=.agg #[(1:Int),(0:Int),()]) (by simp[results,Tryz.results44,go_sem,z0,z1,z2]) rfl (FB.o ww _ r.o.2.1 r.o.2.2)
 have t5:((nl:Int)==0)=false:=by simp;omega
 have t9:=aA (show(bF log).length≠0 by rw[KL.o.1];exact g1);clear g1;by_cases o3:nl=n
 rotate_left
 .have o4:((nl:Int) !=(n:Int))=true:=by simp;omega
  have e7:=aA (show(bF log).length<log.length by have:=KL.o;have:=HL.o;omega);have EQ:=aA (Im (f:=f) t9.o e7.o);have FB:=aA (show ∀(w':World) (v:Value),fF (λj=>w.heap.size<=j) (f+3) w' v (.mk 4 0 [bE,aX f (bF log)])->Below w.heap.size w w'->iT (f+1+2) (aX (f+1) log) w (.returned v) w' from λw' v hb hw=>⟨v,rfl,by rw[EQ.o];exact hb,hw⟩);have CF:=aA (k1.o w3 AF nl cF (bF log) IL.o (HF.o.full e7.o));clear o3;go_wp2_with fail
  refine CF.o.mono ?_;rintro e w5 ⟨v5,rfl,⟨g2,g3,g4,rfl,s5,p5⟩,v0⟩;have e8:=aA (show fF (λq=>w3.heap.size<=q) (f+2) w5 (.agg #[.int .i64 (aX f (bF log)).kind,.int .i64 (aX f (bF log)).label,.slice g2 g3 g4]) (aX f (bF log))from⟨g2,g3,g4,rfl,s5,p5⟩);obtain⟨o5,I⟩:=bS ((aX f (bF log)).kind);obtain⟨o6,J⟩:=bS ((aX f (bF log)).label);rw[<-I,<-J]at e8;rw[<-I,<-J];have o7:=aA v0;clear s5 p5 v0 I J;have BS:=aA (show fF (λq=>w3.heap.size<=q) (f+2) w5 (.agg #[(1:Int),(0:Int),()]) bE from⟨none,0,0,rfl,Sl.nil0,λh=>absurd h (by omega)⟩);have RW:=aA (wN BS.o e8.o);have BR:=aA (aF w5 (.cells #[(1:Int),(0:Int),(),o5,o6,.slice g2 g3 g4] 35));have g5:=aA (o7.o.trans (BR.o.mono o7.o.size));have o8:=aA (show fF (λq=>w3.heap.size<=q) (f+3) (w5.alloc (.cells #[(1:Int),(0:Int),(),o5,o6,.slice g2 g3 g4] 35)) (.agg #[(4:Int),(0:Int),.slice w5 2 2]) (.mk 4 0 [bE,aX f (bF log)])from⟨_,2,2,rfl,RW.o,λ_ a S=>by injection S with S;subst S;exact o7.o.size⟩);have X6:=aA (X3.o.keep g5.o);obtain⟨u0,u1,u2⟩:=X6.o.three;have fz:=λq=>X6.o.frozen q
  have r:=aA (dR (w:=w) o8.o X6.o g5.o D0.o W3.o (aB _));go_wp2
  generalize ((((w5.alloc (.cells #[(1:Int),(0:Int),(),o5,o6,.slice g2 g3 g4] 35)).setCell ⟨w.heap.size,0,none⟩ (.int .i64 4)).setCell ⟨w.heap.size,1,none⟩ (.int .i64 0)).setCell ⟨w.heap.size,2,none⟩ (.slice w5 2 2))=ww at *
  obtain⟨z0,z1,z2⟩:=r.o.1.three;exact aU (v:=.agg #[(4:Int),(0:Int),.slice w5 2 2]) (by simp[results,Tryz.results44,go_sem,z0,z1,z2]) rfl (FB.o ww _ r.o.2.1 r.o.2.2)
 have o4:((nl:Int) !=(n:Int))=false:=by simp[o3]
 have v3:=aA (show ¬(bF log).length<log.length by have:=KL.o;have:=HL.o;omega);have e9:=aA (Dw (f:=f) t9.o v3.o);have v4:=aA (Dq v3.o);have FU:=aA (show vZ (f+1) (bF log) by rw[v4.o];exact HF.o);have HE:=aA (show ∀t∈bF log,t.length≠0 from λt ht=>(pE.1 ht).2);have CO:=aA (QV IL.o);have YL:=aA Y0.o;clear o3;go_wp2_with fail
 refine CO.o.mono ?_;rintro e w4 ⟨p,er,A1,A2,g6,A4,n1,c1,n2,c2,n3,g7,n4,c4,v6,rfl,i1,i2,i3,i4,o9⟩;have SP:=aA (show eZ (bF log) p from by have:=v6.2;rwa[aG FU.o.1]at this);have v9:=aA (aF w4 (.cells #[.slice A1 n1 c1,.slice A2 n2 c2,.slice g6 n3 g7,.slice A4 n4 c4] 123));have k3:=aA (o9.trans (v9.o.mono o9.size));have PI:=aA ((PrI.mk i1 i2 i3 i4).keep v9.o);have TB:=aA (Box.new w4 #[.slice A1 n1 c1,.slice A2 n2 c2,.slice g6 n3 g7,.slice A4 n4 c4] 123);have X5:=aA (X3.o.keep k3.o);have Y5:=aA (YL.o.keep k3.o);have J1:=aA (Sl.keep cS.kept IL.o k3.o);have D5:=aA (D0.o.trans (k3.o.mono D0.o.size));have W5:=aA (show w.heap.size<(w4.alloc (.cells #[.slice A1 n1 c1,.slice A2 n2 c2,.slice g6 n3 g7,.slice A4 n4 c4] 123)).heap.size from X5.o.lt);have LN:=aA (show p.labels.length=n1/\n1<=26 from⟨i1.len,by rw[<-i1.len];exact pD SP.o.1.1 (SP.o.lab FU.o.1)⟩);have L4:=aA i4.len;clear v6 i1 i2 i3 i4 o9 CO;go_upto_region 13 with fail
 generalize w4.alloc (.cells #[.slice A1 n1 c1,.slice A2 n2 c2,.slice g6 n3 g7,.slice A4 n4 c4] 123)=w5 at *
 generalize w4.heap.size=bp at *
 obtain⟨x0,x1,x2,x3⟩:=TB.o.four;by_cases b6:n1=1
 .have x4:=aA (show p.labels.length=1 by rw[LN.o.1];exact b6);have J2:((n1:Int)==1)=true:=by simp[b6]
  have J3:0<n1:=by omega
  obtain⟨b1,x6,a,rfl,p1,S,q1⟩:=aY.get PI.o.i1 J3;have HA:=aA (show p.labels.headD 0=a from by
   have G:=S.o;cases hc:p.labels with
   | nil=>rw[hc]at G;simp at G
   | cons x t=>rw[hc]at G;simpa using G)
  rw[eP]at q1;have e8:=aA (show fF (λq=>w5.heap.size<=q) (f+2) w5 (.agg #[(2:Int),.int .i64 a,()]) (dZ a)from⟨none,0,0,rfl,Sl.nil0,λh=>absurd h (by omega)⟩);have e4:=aA (aF w5 (.cells #[(2:Int),.int .i64 a,()] 35));have TS:=aA (Box.new w5 #[(2:Int),.int .i64 a,()] 35);have y4:=aA (e8.o.keep e4.o);have X7:=aA (X5.o.keep e4.o);have S6:=(TB.o.keep e4.o).cell 3;clear b6 p1 S;go_upto_region 15 with fail
  clear x0 x1 x2 x3 q1;generalize K0:w5.alloc (.cells #[(2:Int),.int .i64 a,()] 35)=w7 at *
  clear K0;obtain⟨s0,s1,s2⟩:=TS.o.three;by_cases h4:0<n4
  .have K1:(0:Int)<(n4:Int):=by omega
   have p6:=aA (show(bF log).any (λt=>decide (1<t.length))=true from(zT SP.o).2 (by rw[L4.o];exact h4));have EQ:=aA (show aX (f+1) log=.mk 6 0 [dZ a,bE]from by rw[e9.o,Dx SP.o x4.o p6.o,HA.o]);have FB:=aA (show ∀(w':World) (v:Value),fF (λj=>w.heap.size<=j) (f+3) w' v (.mk 6 0 [dZ a,bE])->Below w.heap.size w w'->iT (f+1+2) (aX (f+1) log) w (.returned v) w' from λw' v hb hw=>⟨v,rfl,by rw[EQ.o];exact hb,hw⟩);have BS:=aA (show fF (λq=>w5.heap.size<=q) (f+2) w7 (.agg #[(1:Int),(0:Int),()]) bE from⟨none,0,0,rfl,Sl.nil0,λh=>absurd h (by omega)⟩);have RW:=aA (wN y4.o BS.o);have BR:=aA (aF w7 (.cells #[(2:Int),.int .i64 a,(),(1:Int),(0:Int),()] 35));have y5:=aA (e4.o.trans (BR.o.mono e4.o.size));have K2:=aA e4.o.size;have f0:=aA (show fF (λq=>w5.heap.size<=q) (f+3) (w7.alloc (.cells #[(2:Int),.int .i64 a,(),(1:Int),(0:Int),()] 35)) (.agg #[(6:Int),(0:Int),.slice w7 2 2]) (.mk 6 0 [dZ a,bE])from⟨_,2,2,rfl,RW.o,λ_ a S=>by injection S with S;subst S;exact K2.o⟩);have X8:=aA (X5.o.keep y5.o);clear h4;obtain⟨u0,u1,u2⟩:=X8.o.three;have fz:=λq=>X8.o.frozen q
   have r:=aA (dR (w:=w) f0.o X8.o y5.o D5.o W5.o (aB _));go_wp2
   generalize ((((w7.alloc (.cells #[(2:Int),.int .i64 a,(),(1:Int),(0:Int),()] 35)).setCell ⟨w.heap.size,0,none⟩ (.int .i64 6)).setCell ⟨w.heap.size,1,none⟩ (.int .i64 0)).setCell ⟨w.heap.size,2,none⟩ (.slice w7 2 2))=ww at *
   obtain⟨z0,z1,z2⟩:=r.o.1.three;exact aU (v:=.agg #[(6:Int),(0:Int),.slice w7 2 2]) (by simp[results,Tryz.results44,go_sem,z0,z1,z2]) rfl (FB.o ww _ r.o.2.1 r.o.2.2)
  have K1:¬(0:Int)<(n4:Int):=by omega
  have p6:=aA (show(bF log).any (λt=>decide (1<t.length))=false from by
   cases hv:(bF log).any (λt=>decide (1<t.length)) with
   | false=>rfl
   | true=>exact absurd ((zT SP.o).1 hv) (by rw[L4.o];exact h4))
  have EQ:=aA (show aX (f+1) log=dZ a from by rw[e9.o,Dy SP.o x4.o p6.o,HA.o]);have FB:=aA (show ∀(w':World) (v:Value),fF (λj=>w.heap.size<=j) (f+3) w' v (dZ a)->Below w.heap.size w w'->iT (f+1+2) (aX (f+1) log) w (.returned v) w' from λw' v hb hw=>⟨v,rfl,by rw[EQ.o];exact hb,hw⟩);have f0:=aA (y4.o.flat (d':=f+3) rfl);clear h4;obtain⟨u0,u1,u2⟩:=X7.o.three;have fz:=λq=>X7.o.frozen q
  have r:=aA (dR (w:=w) f0.o X7.o e4.o D5.o W5.o (aB _));go_wp2
  generalize (((w7.setCell ⟨w.heap.size,0,none⟩ (.int .i64 2)).setCell ⟨w.heap.size,1,none⟩ (.int .i64 a)).setCell ⟨w.heap.size,2,none⟩ ())=ww at *
  obtain⟨z0,z1,z2⟩:=r.o.1.three;exact aU (v:=.agg #[(2:Int),.int .i64 a,()]) (by simp[results,Tryz.results44,go_sem,z0,z1,z2]) rfl (FB.o ww _ r.o.2.1 r.o.2.2)
 have k4:=aA (show p.labels.length≠1 by rw[LN.o.1];exact b6);have J2:((n1:Int)==1)=false:=by simp;omega
 have OK:=aA (show ∀x∈p.labels,okI x from SP.o.lab FU.o.1);have PB:=aA (show PrB w5 bp p from⟨A1,A2,g6,A4,n1,c1,n2,c2,n3,g7,n4,c4,TB.o,PI.o⟩);have LG:=aA (show LgB w5 (w.heap.size+1) (bF log)from⟨_,_,_,Y5.o,J1.o⟩);have p7:=aA (show(bF log).length<=60 from FU.o.n);have B6:=aA (aF w5 (.cells #[w1V bp] 166));have T9:=aA (Box.new w5 #[w1V bp] 166);have y9:=aA (PB.o.keep B6.o);have K3:=aA (LG.o.keep B6.o);have X6:=aA (X5.o.keep B6.o);have z3:=aA (TB.o.keep B6.o);have z4:=aA (PI.o.keep B6.o);have D6:=aA (D5.o.trans (B6.o.mono D5.o.size));have W6:=aA (bD W5.o B6.o.size);clear b6;go_upto_region 19 with fail
 clear x0 x1 x2 x3;generalize w5.alloc (.cells #[w1V bp] 166)=w6 at *
 generalize w5.heap.size=b9 at T9;have x0:=z3.o.cell 0;have CG:=aA (qP z4.o.i1 LN.o.2 SP.o.1.1 OK.o (Zd p.labels y9.o T9.o));go_wp2_with fail
 refine CG.o.mono ?_;rintro e w7 ⟨vo,m,rfl,hm,rg,hG,b2⟩;have z5:dY (λa b=>bhB p a b||bhB p b a) p.labels=dY (bhB p) p.labels:=Q1 SP.o.1.1;rw[z5]at rg;have ML:=aA (show(dY (bhB p) p.labels).length=m from aJ.len rg);obtain⟨AG,cG,rfl,ig⟩:=mJ.lists rg (by omega);have IG:=aA ig;have HM:=aA hm;have D7:=aA (D6.o.trans (b2.mono D6.o.size));have W7:=aA (bD W6.o b2.size);have X7:=aA (X6.o.keep b2);have z9:=aA (K3.o.keep b2);have K4:=aA (y9.o.keep b2);have K5:=aA (z3.o.keep b2);have K6:=aA (z4.o.keep b2);have K7:=aA (T9.o.keep b2);clear rg hG b2 hm ig CG z5 x0;by_cases p9:1<m
 .have K9:(1:Int)<(m:Int):=by omega
  have m6:=aA (show 2<=(dY (bhB p) p.labels).length by rw[ML.o];exact p9);have EQ:=aA (show aX (f+1) log=bH.mk 4 0 ((dY (bhB p) p.labels).map λg=>aX f ((bF log).filter λt=>inS g (t.headD 0)))from by rw[e9.o,xK SP.o k4.o m6.o]);have FB:=aA (show ∀(w':World) (v:Value),fF (λj=>w.heap.size<=j) (f+3) w' v (bH.mk 4 0 ((dY (bhB p) p.labels).map λg=>aX f ((bF log).filter λt=>inS g (t.headD 0))))->Below w.heap.size w w'->iT (f+1+2) (aX (f+1) log) w (.returned v) w' from λw' v hb hw=>⟨v,rfl,by rw[EQ.o];exact hb,hw⟩);have CP:=aA (rU k1.o IG.o 4 (WU z9.o p7.o HE.o) (λg hg=>FU.o.choose HE.o SP.o m6.o hg) HM.o);clear p9;go_wp2_with fail
  refine CP.o.mono ?_;rintro e w8 ⟨v8,rfl,⟨k5,k6,k7,rfl,s8,p8⟩,A6⟩;have f0:=aA (show fF (λq=>w7.heap.size<=q) (f+3) w8 (.agg #[.int .i64 (bH.mk 4 0 ((dY (bhB p) p.labels).map λg=>aX f ((bF log).filter λt=>inS g (t.headD 0)))).kind,.int .i64 (bH.mk 4 0 ((dY (bhB p) p.labels).map λg=>aX f ((bF log).filter λt=>inS g (t.headD 0)))).label,.slice k5 k6 k7]) (bH.mk 4 0 ((dY (bhB p) p.labels).map λg=>aX f ((bF log).filter λt=>inS g (t.headD 0))))from⟨k5,k6,k7,rfl,s8,p8⟩);obtain⟨A7,I⟩:=bS ((bH.mk 4 0 ((dY (bhB p) p.labels).map λg=>aX f ((bF log).filter λt=>inS g (t.headD 0)))).kind);obtain⟨A9,J⟩:=bS ((bH.mk 4 0 ((dY (bhB p) p.labels).map λg=>aX f ((bF log).filter λt=>inS g (t.headD 0)))).label);rw[<-I,<-J]at f0;rw[<-I,<-J];have B1:=aA A6;clear s8 p8 A6 I J;have XQ:=aA (X7.o.keep B1.o);clear CP;obtain⟨u0,u1,u2⟩:=XQ.o.three;have fz:=λq=>XQ.o.frozen q
  have r:=aA (dR (w:=w) f0.o XQ.o B1.o D7.o W7.o (aB _));go_wp2
  generalize (((w8.setCell ⟨w.heap.size,0,none⟩ A7).setCell ⟨w.heap.size,1,none⟩ A9).setCell ⟨w.heap.size,2,none⟩ (.slice k5 k6 k7))=ww at *
  obtain⟨z0,z1,z2⟩:=r.o.1.three;exact aU (v:=.agg #[A7,A9,.slice k5 k6 k7]) (by simp[results,Tryz.results44,go_sem,z0,z1,z2]) rfl (FB.o ww _ r.o.2.1 r.o.2.2)
 have K9:¬(1:Int)<(m:Int):=by omega
 have q2:=aA (show ¬2<=(dY (bhB p) p.labels).length by rw[ML.o];omega);clear p9;have B8:=aA (aF w7 (.cells #[w5V bp] 166));have q3:=aA (Box.new w7 #[w5V bp] 166);have L0:=aA (z9.o.keep B8.o);have B4:=aA (K4.o.keep B8.o);have B5:=aA (K5.o.keep B8.o);have B7:=aA (K6.o.keep B8.o);have L1:=aA (K7.o.keep B8.o);have X8:=aA (X7.o.keep B8.o);have D8:=aA (D7.o.trans (B8.o.mono D7.o.size));have W8:=aA (bD W7.o B8.o.size);go_upto_region 24 with fail
 generalize w7.alloc (.cells #[w5V bp] 166)=w8 at *
 generalize w7.heap.size=k8 at q3;have x0:=B5.o.cell 0;have CG:=aA (qP B7.o.i1 LN.o.2 SP.o.1.1 OK.o (Zf p.labels SP.o (by rw[LN.o.1];exact LN.o.2) B4.o q3.o));go_wp2_with fail
 refine CG.o.mono ?_;rintro e w9 ⟨S7,P,rfl,B9,q4,C0,a4⟩;have e6:=aA (show(dY (cY (dE p)) p.labels).length=P from aJ.len q4);obtain⟨T0,T1,rfl,C3⟩:=mJ.lists q4 (by omega);have C4:=aA C3;have b7:=aA C0;have q9:=aA B9;have D9:=aA (D8.o.trans (a4.mono D8.o.size));have W9:=aA (bD W8.o a4.size);have X9:=aA (X8.o.keep a4);have C5:=aA (L0.o.keep a4);have C6:=aA (B4.o.keep a4);have C8:=aA (B5.o.keep a4);have C9:=aA (B7.o.keep a4);have L2:=aA (L1.o.keep a4);have D1:=aA (q3.o.keep a4);clear q4 C0 a4 B9 C3 CG x0;by_cases g8:1<P
 rotate_left
 .have D2:¬(1:Int)<(P:Int):=by omega
  have D3:=aA (show ¬Gy p by unfold Gy;rw[e6.o];omega);have x0:=C8.o.cell 0;have CG:=aA (qP C9.o.i1 LN.o.2 SP.o.1.1 OK.o (Ze p.labels C6.o L2.o));clear g8;go_wp2_with fail
  refine CG.o.mono ?_;rintro e D4 ⟨T2,m3,rfl,E0,r0,L3,Z⟩;have E1:=aA (show(dY (j3 p) p.labels).length=m3 from aJ.len r0);obtain⟨T3,T4,rfl,E2⟩:=mJ.lists r0 (by omega);have E3:=aA E2;have E4:=aA E0;have k9:=aA (D9.o.trans (Z.mono D9.o.size));have l0:=aA (bD W9.o Z.size);have l1:=aA (X9.o.keep Z);have g9:=aA (C5.o.keep Z);have h3:=aA (C8.o.keep Z);have h6:=aA (C9.o.keep Z);clear r0 L3 Z E0 E2 CG x0;obtain⟨b0,r1⟩:∃b:Bool,b=decide (1<m3):=⟨_,rfl⟩;have L5:=aA r1;have L6:((m3:Int)>1)=(b0=true):=by rw[r1];simp;omega
  clear r1;go_upto_region 44 with fail
  clear L6;go_wp2
  go_loopg [22,167] m3 (λgk L9 E8 wr=>∃(b:Bool) (j:Nat),L9=.bool b/\E8=.int .i64 (j:Nat)/\Hid (j+gk=m3)/\Hid (b=(b0&&((dY (j3 p) p.labels).take j).all λg=>iS g p.first&&iS g p.last))/\Hid (wr=D4))
  case atStart=>exact⟨b0,0,rfl,rfl,aA (by omega),aA (by simp),aA rfl⟩
  obtain⟨b,j,rfl,rfl,a3,HB,HW⟩:=hrel;obtain rfl:wr=D4:=HW.o;by_cases hj:j<m3
  .have h7:(j:Int)<(m3:Int):=by omega
   obtain⟨bb,S0,g,Bg,mg,dg,rfl,M1,M2,q0,ig,T6⟩:=cQ.get E3.o hj;have K:=aA (show gk-1<gk/\(j+1)+(gk-1)=m3/\j<=26 by have:=a3.o;have:=E4.o;omega);have E9:IntKind.i64.wrap ((j:Int)+1)=((j+1:Nat):Int):=by
    have:=K.o;simp[IntKind.wrap,IntKind.bits,IntKind.signed];omega
   have y1:=h3.o.cell 1;have y2:=h3.o.cell 2;have C1:=aA (xM ig h6.o.i2);have C2:=aA (xM ig h6.o.i3);have TK:=aA (show(((dY (j3 p) p.labels).take (j+1)).all λg=>iS g p.first&&iS g p.last)=((((dY (j3 p) p.labels).take j).all λg=>iS g p.first&&iS g p.last)&&(iS g p.first&&iS g p.last)) by rw[cP,M2.o];simp);obtain⟨v1,F0⟩:=aK (iS g p.first);obtain⟨v2,F1⟩:=aK (iS g p.last);rw[F0]at C1 TK;rw[F1]at C2 TK;clear M1 ig hj F0 F1;cases b
   .have HN:=aA (show false=(b0&&((dY (j3 p) p.labels).take (j+1)).all λg=>iS g p.first&&iS g p.last) by rw[TK.o,<-iF,<-HB.o];rfl);go_wp2
    go_roundg (gk-1)
    case measure=>exact K.o.1
    exact⟨false,j+1,rfl,rfl,aA K.o.2.1,HN,aA rfl⟩
   cases v1
   .have HN:=aA (show false=(b0&&((dY (j3 p) p.labels).take (j+1)).all λg=>iS g p.first&&iS g p.last) by rw[TK.o,<-iF,<-HB.o];rfl);go_wp2_with fail
    refine C1.o.mono ?_;rintro e w' ⟨rfl,rfl⟩;go_wp2
    go_roundg (gk-1)
    case measure=>exact K.o.1
    exact⟨false,j+1,rfl,rfl,aA K.o.2.1,HN,aA rfl⟩
   have HN:=aA (show v2=(b0&&((dY (j3 p) p.labels).take (j+1)).all λg=>iS g p.first&&iS g p.last) by rw[TK.o,<-iF,<-HB.o];simp);go_wp2_with fail
   refine C1.o.mono ?_;rintro e w' ⟨rfl,rfl⟩;go_wp2_with fail
   refine C2.o.mono ?_;rintro e w' ⟨rfl,rfl⟩;go_wp2
   go_roundg (gk-1)
   case measure=>exact K.o.1
   exact⟨v2,j+1,rfl,rfl,aA K.o.2.1,HN,aA rfl⟩
  have h7:¬(j:Int)<(m3:Int):=by omega
  have l2:=aA (show b=true↔rS p from by
   have G:=HB.o;rw[aW (by rw[E1.o];omega)]at G;rw[G,L5.o,cA,bO];unfold rS;rw[E1.o];exact Iff.rfl)
  clear hj a3 HB;cases b
  rotate_left
  .have h8:=aA (show rS p from l2.o.1 rfl);have EQ:=aA (show aX (f+1) log=lQ f (bF log) p from by rw[e9.o,Dz SP.o k4.o q2.o D3.o h8.o]);have FB:=aA (show ∀(w':World) (v:Value),fF (λj=>w.heap.size<=j) (f+3) w' v (lQ f (bF log) p)->Below w.heap.size w w'->iT (f+1+2) (aX (f+1) log) w (.returned v) w' from λw' v hb hw=>⟨v,rfl,by rw[EQ.o];exact hb,hw⟩);have CP:=aA (rU k1.o E3.o 5 (Rl g9.o p7.o) (λg hg=>FU.o.onto SP.o h8.o.1 hg) E4.o);rw[show(bH.mk 5 0 ((dY (j3 p) p.labels).map λg=>aX f (fY (bF log) g)))=lQ f (bF log) p from rfl]at CP;clear l2;go_wp2_with fail
   refine CP.o.mono ?_;rintro e Q ⟨M3,rfl,⟨L,M,N,rfl,h9,i0⟩,c0⟩;have c6:=aA (show fF (λq=>wr.heap.size<=q) (f+3) Q (.agg #[.int .i64 (lQ f (bF log) p).kind,.int .i64 (lQ f (bF log) p).label,.slice L M N]) (lQ f (bF log) p)from⟨L,M,N,rfl,h9,i0⟩);obtain⟨c7,I⟩:=bS ((lQ f (bF log) p).kind);obtain⟨c9,J⟩:=bS ((lQ f (bF log) p).label);rw[<-I,<-J]at c6;rw[<-I,<-J];have d0:=aA c0;clear h9 i0 c0 I J;have XQ:=aA (l1.o.keep d0.o);clear CP;obtain⟨u0,u1,u2⟩:=XQ.o.three;have fz:=λq=>XQ.o.frozen q
   have r:=aA (dR (w:=w) c6.o XQ.o d0.o k9.o l0.o (aB _));go_wp2
   generalize (((Q.setCell ⟨w.heap.size,0,none⟩ c7).setCell ⟨w.heap.size,1,none⟩ c9).setCell ⟨w.heap.size,2,none⟩ (.slice L M N))=ww at *
   obtain⟨z0,z1,z2⟩:=r.o.1.three;exact aU (v:=.agg #[c7,c9,.slice L M N]) (by simp[results,Tryz.results44,go_sem,z0,z1,z2]) rfl (FB.o ww _ r.o.2.1 r.o.2.2)
  have M4:=aA (show ¬rS p from λh=>by have:=l2.o.2 h;cases this);have EQ:=aA (show aX (f+1) log=.mk 6 0 [bE,.mk 4 0 (p.labels.map dZ)]from by rw[e9.o,DG SP.o k4.o q2.o D3.o M4.o]);have FB:=aA (show ∀(w':World) (v:Value),fF (λj=>w.heap.size<=j) (f+3) w' v (.mk 6 0 [bE,.mk 4 0 (p.labels.map dZ)])->Below w.heap.size w w'->iT (f+1+2) (aX (f+1) log) w (.returned v) w' from λw' v hb hw=>⟨v,rfl,by rw[EQ.o];exact hb,hw⟩);clear l2;obtain⟨wE,M5⟩:∃x:World,x=wr:=⟨_,rfl⟩;subst M5;have F2:=aA (aF wE (.cells #[(4:Int),(0:Int),()] 35));have l3:=aA (Box.new wE #[(4:Int),(0:Int),()] 35);have F3:=aA (h3.o.keep F2.o);have l4:=aA (show wE.heap.size<(wE.alloc (.cells #[(4:Int),(0:Int),()] 35)).heap.size from l3.o.lt);go_upto_region 52 with fail
  generalize F4:wE.alloc (.cells #[(4:Int),(0:Int),()] 35)=Q at *
  clear F4;generalize m7:wE.heap.size=b3 at l3;have i9:=aA m7;clear m7;have x0:=F3.o.cell 0;go_wp2
  clear x0;go_loopg [193] n1 (λgk F5 wr=>∃(j:Nat) (v:Value),F5=.int .i64 (j:Nat)/\Hid (j+gk=n1)/\Hid (jE wr Q (f+2) v j ((p.labels.take j).map dZ))/\Hid (Below wE wE wr/\Q.heap.size<=wr.heap.size)/\Hid (Box wr b3 35 #[(4:Int),(0:Int),v]))
  case atStart=>exact⟨0,_,rfl,aA (by omega),aA aJ.nil,aA ⟨F2.o,aB _⟩,l3⟩
  clear l3;obtain⟨j,v,rfl,f1,OB,O,r2⟩:=hrel;obtain⟨AV,cV,rfl,_⟩:=OB.o.sl2 (by have:=f1.o;have:=LN.o;omega);have y2:=r2.o.cell 2;by_cases hj:j<n1
  .have h7:(j:Int)<(n1:Int):=by omega
   obtain⟨b1,x6,a,e1,p1,S,q1⟩:=aY.get (h6.o.i1.keep O.o.1) hj;subst e1;have K:=aA (show gk-1<gk/\(j+1)+(gk-1)=n1/\j<=26 by have:=f1.o;have:=LN.o;omega);have E9:IntKind.i64.wrap ((j:Int)+1)=((j+1:Nat):Int):=by
    have:=K.o;simp[IntKind.wrap,IntKind.bits,IntKind.signed];omega
   have TK:=aA (show(p.labels.take (j+1)).map dZ=(p.labels.take j).map dZ++[dZ a] by rw[cP,S.o];simp);have hB:=O.o.2;have M6:j<=100:=by have:=K.o;omega
   have o4:(Value.slice AV j cV).ownBlock≠some b3:=λe=>by have:=(OB.o.lt _ e).1;have:=i9.o;have:=l4.o;omega
   clear p1 hj;go_wp2_with (at_builtin;refine mF (v:=.slice AV j cV) (T:=dZ a) rfl _ _ rfl rfl rfl rfl OB.o rfl rfl Sl.nil0 (λh=>absurd h (by omega)) hB M6 ?_;intro v8 w8 F W;obtain⟨X,Y,rfl,_⟩:=F.sl2 (by omega);have O8:=aA F;have X8:=aA (r2.o.grown W o4);have D8:=aA (O.o.1.grown W O.o.1.size (λq R=>by have:=(OB.o.lt q R).1;have:=l4.o;omega));have S8:=aA (aT hB W.size);have y8:=X8.o.cell 2;have fy:=X8.o.frozen 2;clear F W)
   have GG:=dI w8 b3 2 (.slice X (j+1) Y);have O9:=aA (show jE (w8.setCell ⟨b3,2,none⟩ (.slice X (j+1) Y)) Q (f+2) (.slice X (j+1) Y) (j+1) ((p.labels.take (j+1)).map dZ)from by
    rw[TK.o];have b5:b3<Q.heap.size:=by have:=i9.o;have:=l4.o;omega
    refine aJ.kept O8.o GG ?_ (λvs x hx=>hx.grown GG (λq R hp=>by injection R with R;omega) (f+2));cases hv:(Value.slice X (j+1) Y).ownBlock with
    | none=>exact .inl rfl
    | some q=>exact .inr (λe=>by injection e with e;have:=(O8.o.lt q hv).1;omega))
   have M7:=aA (show Below wE wE (w8.setCell ⟨b3,2,none⟩ (.slice X (j+1) Y))/\Q.heap.size<=(w8.setCell ⟨b3,2,none⟩ (.slice X (j+1) Y)).heap.size from⟨D8.o.grown GG D8.o.size (λq R=>by injection R with R;have:=i9.o;omega),aT S8.o GG.size⟩);have M8:=aA (show Box (w8.setCell ⟨b3,2,none⟩ (.slice X (j+1) Y)) b3 35 #[(4:Int),(0:Int),.slice X (j+1) Y]from by have:=X8.o.set 2 (.slice X (j+1) Y);simpa using this);clear GG;go_roundg (gk-1)
   case measure=>exact K.o.1
   exact⟨j+1,.slice X (j+1) Y,rfl,aA K.o.2.1,O9,M7,M8⟩
  have h7:¬(j:Int)<(n1:Int):=by omega
  have OF:=aA (show jE wr Q (f+2) (.slice AV j cV) j (p.labels.map dZ)from by
   have:=OB.o;rwa[aW (by have:=LN.o.1;omega)]at this)
  have e8:=aA (show fF (λq=>wE.heap.size<=q) (f+2) wr (.agg #[(4:Int),(0:Int),.slice AV j cV]) (.mk 4 0 (p.labels.map dZ))from by
   obtain⟨A5,c5,e5,s5,p5⟩:=OF.o.sl2 (by have:=f1.o;have:=LN.o;omega);injection e5 with M9 _ N1;subst M9 N1;have h5:fF (λq=>Q.heap.size<=q) (f+2) wr (.agg #[(4:Int),(0:Int),.slice AV j cV]) (.mk 4 0 (p.labels.map dZ)):=⟨_,_,_,rfl,s5,λh a S=>(p5 h a S)⟩;exact h5.wide (λq _ R=>by have:=l4.o;omega))
  have BS:=aA (show fF (λq=>wE.heap.size<=q) (f+2) wr (.agg #[(1:Int),(0:Int),()]) bE from⟨none,0,0,rfl,Sl.nil0,λh=>absurd h (by omega)⟩);have RW:=aA (wN BS.o e8.o);have BR:=aA (aF wr (.cells #[(1:Int),(0:Int),(),(4:Int),(0:Int),.slice AV j cV] 35));have g5:=aA (O.o.1.trans (BR.o.mono O.o.1.size));have SE:=aA (show wE.heap.size<=wr.heap.size from O.o.1.size);have o8:=aA (show fF (λq=>wE.heap.size<=q) (f+3) (wr.alloc (.cells #[(1:Int),(0:Int),(),(4:Int),(0:Int),.slice AV j cV] 35)) (.agg #[(6:Int),(0:Int),.slice wr 2 2]) (.mk 6 0 [bE,.mk 4 0 (p.labels.map dZ)])from⟨_,2,2,rfl,RW.o,λ_ a S=>by injection S with S;subst S;exact SE.o⟩);have r3:=aA (l1.o.keep g5.o);obtain⟨T7,T8,U0⟩:=r2.o.three;clear hj OB;obtain⟨u0,u1,u2⟩:=r3.o.three;have fz:=λq=>r3.o.frozen q
  have r:=aA (dR (w:=w) o8.o r3.o g5.o k9.o l0.o (aB _));go_wp2
  generalize ((((wr.alloc (.cells #[(1:Int),(0:Int),(),(4:Int),(0:Int),.slice AV j cV] 35)).setCell ⟨w.heap.size,0,none⟩ (.int .i64 6)).setCell ⟨w.heap.size,1,none⟩ (.int .i64 0)).setCell ⟨w.heap.size,2,none⟩ (.slice wr 2 2))=ww at *
  obtain⟨z0,z1,z2⟩:=r.o.1.three;exact aU (v:=.agg #[(6:Int),(0:Int),.slice wr 2 2]) (by simp[results,Tryz.results44,go_sem,z0,z1,z2]) rfl (FB.o ww _ r.o.2.1 r.o.2.2)
 have D2:(1:Int)<(P:Int):=by omega
 have h8:=aA (show Gy p by unfold Gy;rw[e6.o];exact g8);have EQ:=aA (show aX (f+1) log=wK f (bF log) p from by rw[e9.o,Io SP.o k4.o q2.o h8.o]);have FB:=aA (show ∀(w':World) (v:Value),fF (λj=>w.heap.size<=j) (f+3) w' v (wK f (bF log) p)->Below w.heap.size w w'->iT (f+1+2) (aX (f+1) log) w (.returned v) w' from λw' v hb hw=>⟨v,rfl,by rw[EQ.o];exact hb,hw⟩);clear g8;have TR:=aA (show ∀a b c,a∈p.labels->b∈p.labels->c∈p.labels->dE p a b=true->dE p b c=true->dE p a c=true from λa b c _ hb _ G h2=>zU SP.o a b c hb G h2);go_wp2
 go_loopg [14] P (λgk r4 wr=>∃(inn:LLi) (AI:OAd) (ni cI:Nat),r4=.slice AI ni cI/\Hid (InI (dE p) (dY (cY (dE p)) p.labels) inn/\ni+gk=P)/\Hid (nY wr w9 w9 (.slice AI ni cI) ni inn)/\Hid (Below w9 w9 wr))
 case atStart=>exact⟨[],none,0,0,rfl,aA ⟨InI.nil,by omega⟩,aA aJ.nil,aA (aH _ _)⟩
 obtain⟨inn,AI,ni,cI,rfl,II,RO,O⟩:=hrel;have r5:=aA (show inn.length=ni from RO.o.len);by_cases b5:ni<P
 rotate_left
 .have n7:¬(ni:Int)<(P:Int):=by omega
  have F6:=aA (show inn.length=(dY (cY (dE p)) p.labels).length by
   have G:=II.o.1.len;rw[e6.o]at G ⊢;have h2:=r5.o;omega)
  have N2:=aA (InI.done b7.o II.o.1 F6.o);have G0:=aA (show ni<=26 by have:=II.o.2;have:=q9.o;omega);have LI:=aA (nY.lists RO.o (by have:=G0.o;omega));have IL:=aA (show cQ wr AI ni cI inn from by
   obtain⟨N3,N4,e3,il⟩:=LI.o;injection e3 with f5 _ f6;subst f5 f6;exact il)
  have l1:=aA (X9.o.keep O.o);have g9:=aA (C5.o.keep O.o);have k9:=aA (D9.o.trans (O.o.mono D9.o.size));have l0:=aA (bD W9.o O.o.size);have CP:=aA (rU k1.o IL.o 3 (Rl g9.o p7.o) (λg hg=>FU.o.onto SP.o h8.o (II.o.1.sub g hg)) G0.o);rw[show(bH.mk 3 0 (inn.map λg=>aX f (fY (bF log) g)))=wK f (bF log) p from by unfold wK;rw[N2.o]]at CP;clear b5 LI;go_wp2_with fail
  refine CP.o.mono ?_;rintro e Q ⟨M3,rfl,⟨L,M,N,rfl,h9,i0⟩,c0⟩;have c6:=aA (show fF (λq=>wr.heap.size<=q) (f+3) Q (.agg #[.int .i64 (wK f (bF log) p).kind,.int .i64 (wK f (bF log) p).label,.slice L M N]) (wK f (bF log) p)from⟨L,M,N,rfl,h9,i0⟩);obtain⟨c7,I⟩:=bS ((wK f (bF log) p).kind);obtain⟨c9,J⟩:=bS ((wK f (bF log) p).label);rw[<-I,<-J]at c6;rw[<-I,<-J];have d0:=aA c0;clear h9 i0 c0 I J;have XQ:=aA (l1.o.keep d0.o);clear CP;obtain⟨u0,u1,u2⟩:=XQ.o.three;have fz:=λq=>XQ.o.frozen q
  have r:=aA (dR (w:=w) c6.o XQ.o d0.o k9.o l0.o (aB _));go_wp2
  generalize (((Q.setCell ⟨w.heap.size,0,none⟩ c7).setCell ⟨w.heap.size,1,none⟩ c9).setCell ⟨w.heap.size,2,none⟩ (.slice L M N))=ww at *
  obtain⟨z0,z1,z2⟩:=r.o.1.three;exact aU (v:=.agg #[c7,c9,.slice L M N]) (by simp[results,Tryz.results44,go_sem,z0,z1,z2]) rfl (FB.o ww _ r.o.2.1 r.o.2.2)
 have n7:(ni:Int)<(P:Int):=by omega
 have e7:=aA b5;clear b5;obtain⟨wo,N6⟩:∃x:World,x=wr:=⟨_,rfl⟩;subst N6;obtain⟨go,O0⟩:∃x:Nat,x=gk:=⟨_,rfl⟩;subst O0;go_wp2
 go_loopg [14,106] P (λgk r4 G1 wr=>∃(d:LLi) (d1:OAd) (s d2 k:Nat),r4=.slice d1 s d2/\G1=.int .i64 (k:Nat)/\Hid (k+gk=P/\s<=P)/\Hid (wO (dE p) (dY (cY (dE p)) p.labels) inn d k)/\Hid (nY wr w9 w9 (.slice d1 s d2) s d)/\Hid (Below w9 w9 wr))
 case atStart=>exact⟨inn,AI,ni,cI,0,rfl,rfl,aA ⟨by omega,by have:=e7.o;omega⟩,aA (wO.start II.o.1),RO,O⟩
 clear RO O;obtain⟨d,d1,s,d2,k,rfl,rfl,a3,PA,RO,O⟩:=hrel;by_cases hk:k<P
 rotate_left
 .have O1:¬(k:Int)<(P:Int):=by omega
  have O2:=aA (show ni<s/\s<=P by
   have G:=wO.fin TR.o b7.o II.o.1 PA.o (by rw[e6.o];omega) (by rw[e6.o,r5.o];exact e7.o);rw[r5.o,RO.o.len]at G;exact⟨G,a3.o.2⟩)
  have HM:=aA (show P-s<go/\s+(P-s)=P by have:=II.o.2;have:=O2.o;have:=e7.o;omega);clear hk;go_wp2
  go_roundg (P-s)
  case measure=>exact HM.o.1
  exact⟨d,d1,s,d2,rfl,aA ⟨PA.o.I,HM.o.2⟩,RO,O⟩
 have O1:(k:Int)<(P:Int):=by omega
 obtain⟨bQ,oQ,t,vs,rfl,O3,ht,hc,mt,⟨Bt,dt,e1,it,lt⟩,k2⟩:=Sl.get (Sl.keep (tI.kept _) (Sl.lows C4.o) O.o) hk;have q0:wr.cell? ⟨bQ,oQ+k,none⟩=some (.slice Bt mt dt):=by have:=hc 0 (by omega);rw[e1]at this;simpa using this
 have HT:=aA (show(dY (cY (dE p)) p.labels)[k]?=some t from ht);have TG:=aA (show t∈(dY (cY (dE p)) p.labels)from aS ht);have K:=aA (show gk-1<gk/\(k+1)+(gk-1)=P/\k<=26/\s<=26 by have:=a3.o;have:=q9.o;omega);have I3:IntKind.i64.wrap ((k:Int)+1)=((k+1:Nat):Int):=by
  have:=K.o;simp[IntKind.wrap,IntKind.bits,IntKind.signed];omega
 have G2:=aA (show t≠[]from b7.o.ne t TG.o);have G3:0<mt:=by
  have G:t.length=mt:=it.len;have h2:=List.length_pos_iff.2 G2.o;omega
 obtain⟨bg,og,g0,rfl,O4,G4,qg⟩:=aY.get it G3;rw[eP]at qg;have IT:=aA it;have l8:=aA (show bg<w9.heap.size from lt G3 _ rfl);have O5:=aA (show t.headD 0=g0 from by
  have G:=G4.o;cases hc:t with
  | nil=>rw[hc]at G;simp at G
  | cons x y=>rw[hc]at G;simpa using G)
 have G5:=aA (show IsL wr w9 (.slice (some ⟨bg,og,none⟩) mt dt) mt t/\mt<=17592186043904 from⟨⟨_,dt,rfl,it,lt⟩,k2⟩);have QG:=aA qg;have j0:=aA (aF wr (.cells #[.slice (some ⟨bg,og,none⟩) mt dt] 24));have l9:=aA (Box.new wr #[.slice (some ⟨bg,og,none⟩) mt dt] 24);have S9:=aA O.o.size;clear hc e1 it lt O3 hk ht k2 O4 G4 qg;go_upto_region 31 with fail
 clear q0;generalize O6:wr.alloc (.cells #[.slice (some ⟨bg,og,none⟩) mt dt] 24)=wA at *
 clear O6;generalize m8:wr.heap.size=f2 at l9;have G6:=aA m8;clear m8;obtain⟨v7,s6⟩:=bS (d.any (nQ t));have O7:=aA s6;have LI:=aA (nY.lists (RO.o.keep j0.o) (by have:=K.o;omega));have IL:=aA (show cQ wA d1 s d2 d from by
  obtain⟨N3,N4,e3,il⟩:=LI.o;injection e3 with f5 _ f6;subst f5 f6;exact il)
 have C7:=aA (rV IL.o (WY (gr:=f2+1) (λy hy=>b7.o.ne y (PA.o.I.sub y hy)) G2.o l9.o (IT.o.keep j0.o) (by omega) (λa S=>by injection S with S;subst S;have:=l8.o;have:=G6.o;have:=S9.o;show bg≠f2+1;omega)));rw[<-s6]at C7;clear s6 LI;go_wp2_with fail
 refine C7.o.mono ?_;rintro e wB ⟨rfl,m0⟩;have BB:=aA (j0.o.trans (m0.mono j0.o.size));have n5:=aA (l9.o.keep m0);have P0:=aA (Sl.keep cS.kept IL.o m0);have j1:=aA (O.o.trans (BB.o.mono O.o.size));have P1:=aA (RO.o.keep BB.o);have U1:=aA (IT.o.keep BB.o);have P2:=aA (G5.o.1.keep BB.o);have P3:=aA ((BB.o.cell (p:=⟨bg,og,none⟩) (bD l8.o S9.o)).trans QG.o);clear m0 C7 IL l9 j0;obtain⟨gm,P4⟩:∃x:Nat,x=gk:=⟨_,rfl⟩;subst P4;obtain⟨wm,Q0⟩:∃x:World,x=wr:=⟨_,rfl⟩;subst Q0;go_wp2
 go_loopg [17,116] P (λgk Q2 G7 wr=>∃(b:Bool) (j:Nat),Q2=.bool b/\G7=.int .i64 (j:Nat)/\Hid (j+gk=P)/\Hid (b=(!v7&&((dY (cY (dE p)) p.labels).take j).all λk=>!iU (dE p) d t k))/\Hid (Below wB wB wr))
 case atStart=>exact⟨!v7,0,rfl,rfl,aA (by omega),aA (by simp),aA (aH _ _)⟩
 obtain⟨b,j,rfl,rfl,f1,HB,DJ⟩:=hrel;by_cases hj:j<P
 rotate_left
 .have h7:¬(j:Int)<(P:Int):=by omega
  have G8:=aA (show b=Ir (dE p) (dY (cY (dE p)) p.labels) d t from by
   have G:=HB.o;rw[aW (by rw[e6.o];omega),O7.o]at G;exact G)
  have j2:=aA (P1.o.keep DJ.o);have s7:=aA (j1.o.trans (DJ.o.mono j1.o.size));clear hj HB;cases b
  .have PN:=aA (PA.o.skip b7.o HT.o G8.o.symm);go_wp2
   go_roundg (gm-1)
   case measure=>exact K.o.1
   exact⟨d,d1,s,d2,k+1,rfl,rfl,aA ⟨K.o.2.1,a3.o.2⟩,PN,j2,s7⟩
  have PN:=aA (PA.o.take b7.o HT.o G8.o.symm);have Q3:=aA (show s+1<=P by
   have G:=PN.o.I.len;rw[e6.o,bL,j2.o.len]at G;simpa using G)
  have RD:=aA (show cD (tI w9) 1 wr [.slice (some ⟨bg,og,none⟩) mt dt] [t]from cD.list1 ⟨mt,P2.o.keep DJ.o,G5.o.2⟩);have hB:w9.heap.size<=wr.heap.size:=s7.o.size;have n9:(s+1)*24<=140737488355328:=by have:=K.o;omega
  have o1:s+1<=281474976710656:=by omega
  have KP:=aA (show ∀w',wr.grownBy w' (Value.slice d1 s d2).ownBlock->∀vs y,tI w9 wr vs y->tI w9 w' vs y from λw' hg vs y hy=>hy.grownR hg (λq R=>(j2.o.lt q R).1));have b4:=(n5.o.keep DJ.o).cell 0;go_wp2_with (at_builtin;refine dJ (v:=.slice d1 s d2) lO rfl _ _ rfl [t] _ rfl rfl rfl rfl (by simp[Value.oneCell']) j2.o RD.o rfl hB o1 n9 KP.o ?_;intro v8 w8 F W t1;obtain⟨X,Y,rfl,_⟩:=F.sl (by omega);have O8:=aA F;have D8:=aA (s7.o.grown W hB (λq R=>(j2.o.lt q R).1));clear F W t1)
  go_roundg (gm-1)
  case measure=>exact K.o.1
  exact⟨d++[t],X,s+1,Y,k+1,rfl,rfl,aA ⟨K.o.2.1,Q3.o⟩,PN,O8,D8⟩
 have h7:(j:Int)<(P:Int):=by omega
 have m1:=aA (j1.o.trans (DJ.o.mono j1.o.size));obtain⟨bx,ox,h,U2,eX,R1,s9,G9,mh,⟨Bh,dh,H0,m4,H1⟩,R2⟩:=Sl.get (Sl.keep (tI.kept _) (Sl.lows C4.o) m1.o) hj;have qx:wr.cell? ⟨bx,ox+j,none⟩=some (.slice Bh mh dh):=by have:=G9 0 (by omega);rw[H0]at this;simpa using this
 cases eX
 have E:=aA (show gk-1<gk/\(j+1)+(gk-1)=P by have:=f1.o;omega);have E9:IntKind.i64.wrap ((j:Int)+1)=((j+1:Nat):Int):=by
  have:=f1.o;have:=q9.o;simp[IntKind.wrap,IntKind.bits,IntKind.signed];omega
 have HG:=aA (show h∈(dY (cY (dE p)) p.labels)from aS s9);have H2:=aA (show h≠[]from b7.o.ne h HG.o);have TK:=aA (show((dY (cY (dE p)) p.labels).take (j+1)).all (λk=>!iU (dE p) d t k)=(((dY (cY (dE p)) p.labels).take j).all (λk=>!iU (dE p) d t k)&&!iU (dE p) d t h) by rw[cP,show(dY (cY (dE p)) p.labels)[j]?=some h from s9];simp);have H3:0<mh:=by
  have G:h.length=mh:=m4.len;have h2:=List.length_pos_iff.2 H2.o;omega
 obtain⟨bh,oh,h0,rfl,m5,H4,qh⟩:=aY.get m4 H3;rw[eP]at qh;have d3:=aA (show h.headD 0=h0/\t.headD 0=g0 from⟨by
  have G:=H4.o;cases hc:h with
  | nil=>rw[hc]at G;simp at G
  | cons x y=>rw[hc]at G;simpa using G,O5.o⟩)
 have z:=aA (aF wr (.cells #[.slice (some ⟨bh,oh,none⟩) mh dh] 24));have d4:=aA (Box.new wr #[.slice (some ⟨bh,oh,none⟩) mh dh] 24);have R3:=aA (m4.keep z.o);have U3:=aA (show bh<w9.heap.size from H1 H3 _ rfl);have CH:=aA ((z.o.cell (p:=⟨bh,oh,none⟩) m5).trans qh);have f3:=aA (((DJ.o.trans (z.o.mono DJ.o.size)).cell (p:=⟨bg,og,none⟩) (bD l8.o j1.o.size)).trans P3.o);have a5:=aA (show bh<(wr.alloc (.cells #[.slice (some ⟨bh,oh,none⟩) mh dh] 24)).heap.size/\bg<(wr.alloc (.cells #[.slice (some ⟨bh,oh,none⟩) mh dh] 24)).heap.size from⟨bD m5 z.o.size,bD l8.o (aT m1.o.size z.o.size)⟩);have n6:=aA (show bh<wr.heap.size from m5);have a6:=aA ((n5.o.keep DJ.o).keep z.o);have a9:=aA ((D1.o.keep m1.o).keep z.o);have R4:=aA (Sl.keep cS.kept (Sl.keep cS.kept P0.o DJ.o) z.o);have R5:=aA ((C6.o.keep m1.o).keep z.o);clear m4 H1 R1 hj R2 s9 G9 H0 m5 H4 qh;go_upto_region 35 with fail
 clear qx;generalize R7:wr.alloc (.cells #[.slice (some ⟨bh,oh,none⟩) mh dh] 24)=wC at *
 clear R7;generalize H5:wr.heap.size=f4 at d4 n6;clear H5;have BD:=aA ((aH wC wC).drew);have d5:=d4.o.cell 0;have b4:=a6.o.cell 0;have d6:=a9.o.cell 0;have ch:=CH.o;have cg:=f3.o;have H6:∀args w,(callFunc 98 args).run Tryz.prog w=.ok (.enter 98 args) w:=λargs w=>by kernel_rfl
 go_wp2_with fail
 by_cases he:h0=g0
 .have R8:(h0 != g0)=false:=by simp[he]
  have HW:=aA (show iU (dE p) d t h=false by unfold iU;rw[d3.o.1,d3.o.2,mB he];rfl);clear he;refine aN 23 (.takes [0,1,2,3,4,5,6,7,8,9,10,11,12,13,14,15,16,17,18,19,20,21,22] (.fin 23 .done)) (λw'=>w'.cell? f4=some (.slice (some ⟨bh,oh,none⟩) mh dh)/\w'.cell? f2=some (.slice (some ⟨bg,og,none⟩) mt dt)/\w'.cell? k8=some (w5V bp)/\w'.cell? ⟨bh,oh,none⟩=some (.int .i64 h0)/\w'.cell? ⟨bg,og,none⟩=some (.int .i64 g0)) (by kernel_rfl) (by kernel_rfl) (by kernel_rfl) (λ_ _ _ _ _ h=>h) ⟨d5,b4,d6,ch,cg⟩ (λo=>?_);simp only[Scr.takes];clear d5 b4 d6 ch cg;generalize wC.drew=wD at *
  iterate 6
   refine aM (v:=?_) rfl (by rfl) o (λw' i=>?_) ?_
   rotate_left
   ·(go_simp;try with_reducible rfl)
   try simp only[aC]
  refine aM (v:=.bool false) rfl (by rfl) o (λw' i=>?_) ?_
  ·(go_simp;try with_reducible rfl)
  try simp only[aC]
  refine aM (v:=.bool false) rfl (by rfl) o (λw' i=>?_) ?_
  ·(go_simp;try with_reducible rfl)
  try simp only[aC]
  iterate 8
   refine vV rfl (by rfl) o ?_;try simp only[aC]
  refine aM (v:=.bool false) rfl (by rfl) o (λw' i=>?_) ?_
  ·(go_simp;try with_reducible rfl)
  try simp only[aC]
  refine aM (v:=.bool false) rfl (by rfl) o (λw' i=>?_) ?_
  ·(go_simp;try with_reducible rfl)
  try simp only[aC]
  iterate 4
   refine vV rfl (by rfl) o ?_;try simp only[aC]
  refine aM (v:=.bool false) rfl (by rfl) o (λw' i=>?_) ?_
  ·(go_simp;try with_reducible rfl)
  try simp only[aC]
  refine cH rfl (λKf l=>?_);go_simp
  refine l.out _ _ ?_;clear l;try simp only[aC]
  refine cE ?_;clear o;have r:=aA (DJ.o.trans ((z.o.trans (BD.o.mono z.o.size)).mono DJ.o.size));cases b
  .have HN:=aA (show false=(!v7&&((dY (cY (dE p)) p.labels).take (j+1)).all λk=>!iU (dE p) d t k) by rw[TK.o,<-iF,<-HB.o,HW.o];rfl);go_wp2
   go_roundg (gk-1)
   case measure=>exact E.o.1
   exact⟨false,j+1,rfl,rfl,aA E.o.2,HN,r⟩
  have HN:=aA (show true=(!v7&&((dY (cY (dE p)) p.labels).take (j+1)).all λk=>!iU (dE p) d t k) by rw[TK.o,<-iF,<-HB.o,HW.o];rfl);go_wp2
  go_roundg (gk-1)
  case measure=>exact E.o.1
  exact⟨true,j+1,rfl,rfl,aA E.o.2,HN,r⟩
 have R8:(h0 != g0)=true:=by simp[he]
 obtain⟨v,hv⟩:=aK (dE p h0 g0);have HV:=aA hv;have I0:=aA (show decide (h0=g0)=false from mA he);have C1:=aA (F9 SP.o (by rw[LN.o.1];exact LN.o.2) h0 g0 (R5.o.keep BD.o));rw[hv]at C1;clear hv he;cases v
 .have HW:=aA (show iU (dE p) d t h=false by unfold iU;rw[d3.o.1,d3.o.2,HV.o];simp);refine aN 23 (.takes [0,1,2,3,4,5,6,7,8,9,10,11,12,13,14] (.one 15 (.takes [16,17,18,19,20,21,22] (.fin 23 .done)))) (λw'=>w'.cell? f4=some (.slice (some ⟨bh,oh,none⟩) mh dh)/\w'.cell? f2=some (.slice (some ⟨bg,og,none⟩) mt dt)/\w'.cell? k8=some (w5V bp)/\w'.cell? ⟨bh,oh,none⟩=some (.int .i64 h0)/\w'.cell? ⟨bg,og,none⟩=some (.int .i64 g0)) (by kernel_rfl) (by kernel_rfl) (by kernel_rfl) (λ_ _ _ _ _ h=>h) ⟨d5,b4,d6,ch,cg⟩ (λo=>?_);simp only[Scr.takes];clear d5 b4 d6 ch cg;generalize wC.drew=wD at *
  iterate 6
   refine aM (v:=?_) rfl (by rfl) o (λw' i=>?_) ?_
   rotate_left
   ·(go_simp;try with_reducible rfl)
   try simp only[aC]
  refine aM (v:=.bool true) rfl (by rfl) o (λw' i=>?_) ?_
  ·(go_simp;try with_reducible rfl)
  try simp only[aC]
  refine aM (v:=.bool true) rfl (by rfl) o (λw' i=>?_) ?_
  ·(go_simp;try with_reducible rfl)
  try simp only[aC]
  iterate 7
   refine aM (v:=?_) rfl (by rfl) o (λw' i=>?_) ?_
   rotate_left
   ·(go_simp;try with_reducible rfl)
   try simp only[aC]
  refine bK rfl (λKf l=>?_);go_simp
  refine C1.o.mono ?_;rintro e w2 ⟨rfl,d7⟩;have B2:=aA (BD.o.trans (d7.mono BD.o.size));have B:=(d4.o.keep B2.o).cell 0;have C:=(a6.o.keep B2.o).cell 0;have D:=(a9.o.keep B2.o).cell 0;have U:=(B2.o.cell (p:=⟨bh,oh,none⟩) a5.o.1).trans CH.o;have V:=(B2.o.cell (p:=⟨bg,og,none⟩) a5.o.2).trans f3.o;clear d7;refine l.out _ _ ⟨B,C,D,U,V⟩ (λo=>?_);clear l B C D U V;try simp only[aC]
  refine aM (v:=.bool false) rfl (by rfl) o (λw' i=>?_) ?_
  ·(go_simp;try with_reducible rfl)
  try simp only[aC]
  refine aM (v:=.bool false) rfl (by rfl) o (λw' i=>?_) ?_
  ·(go_simp;try with_reducible rfl)
  try simp only[aC]
  iterate 4
   refine vV rfl (by rfl) o ?_;try simp only[aC]
  refine aM (v:=.bool false) rfl (by rfl) o (λw' i=>?_) ?_
  ·(go_simp;try with_reducible rfl)
  try simp only[aC]
  refine cH rfl (λKf l=>?_);go_simp
  refine l.out _ _ ?_;clear l;try simp only[aC]
  refine cE ?_;clear o;have r:=aA (DJ.o.trans ((z.o.trans (B2.o.mono z.o.size)).mono DJ.o.size));cases b
  .have HN:=aA (show false=(!v7&&((dY (cY (dE p)) p.labels).take (j+1)).all λk=>!iU (dE p) d t k) by rw[TK.o,<-iF,<-HB.o,HW.o];rfl);go_wp2
   go_roundg (gk-1)
   case measure=>exact E.o.1
   exact⟨false,j+1,rfl,rfl,aA E.o.2,HN,r⟩
  have HN:=aA (show true=(!v7&&((dY (cY (dE p)) p.labels).take (j+1)).all λk=>!iU (dE p) d t k) by rw[TK.o,<-iF,<-HB.o,HW.o];rfl);go_wp2
  go_roundg (gk-1)
  case measure=>exact E.o.1
  exact⟨true,j+1,rfl,rfl,aA E.o.2,HN,r⟩
 obtain⟨v8,t0⟩:=aK (d.any (nQ h));have I1:=aA t0;have C2:=aA (λ(w2:World) (R:Below wC wC w2)=>rV (Sl.keep cS.kept R4.o R) (WZ (gr:=f4+1) (λy hy=>b7.o.ne y (PA.o.I.sub y hy)) H2.o (d4.o.keep R) (R3.o.keep R) (by omega) (λa S=>by injection S with S;subst S;have:=n6.o;show bh≠f4+1;omega)));rw[t0]at C2;clear t0;cases v8
 .have HW:=aA (show iU (dE p) d t h=true by unfold iU;rw[d3.o.1,d3.o.2,HV.o,I1.o,I0.o];rfl);refine aN 23 (.takes [0,1,2,3,4,5,6,7,8,9,10,11,12,13,14] (.one 15 (.takes [16,17,18,19] (.one 20 (.takes [21,22] (.fin 23 .done)))))) (λw'=>w'.cell? f4=some (.slice (some ⟨bh,oh,none⟩) mh dh)/\w'.cell? f2=some (.slice (some ⟨bg,og,none⟩) mt dt)/\w'.cell? k8=some (w5V bp)/\w'.cell? ⟨bh,oh,none⟩=some (.int .i64 h0)/\w'.cell? ⟨bg,og,none⟩=some (.int .i64 g0)) (by kernel_rfl) (by kernel_rfl) (by kernel_rfl) (λ_ _ _ _ _ h=>h) ⟨d5,b4,d6,ch,cg⟩ (λo=>?_);simp only[Scr.takes];clear d5 b4 d6 ch cg;generalize wC.drew=wD at *
  iterate 6
   refine aM (v:=?_) rfl (by rfl) o (λw' i=>?_) ?_
   rotate_left
   ·(go_simp;try with_reducible rfl)
   try simp only[aC]
  refine aM (v:=.bool true) rfl (by rfl) o (λw' i=>?_) ?_
  ·(go_simp;try with_reducible rfl)
  try simp only[aC]
  refine aM (v:=.bool true) rfl (by rfl) o (λw' i=>?_) ?_
  ·(go_simp;try with_reducible rfl)
  try simp only[aC]
  iterate 7
   refine aM (v:=?_) rfl (by rfl) o (λw' i=>?_) ?_
   rotate_left
   ·(go_simp;try with_reducible rfl)
   try simp only[aC]
  refine bK rfl (λKf l=>?_);go_simp
  refine C1.o.mono ?_;rintro e w2 ⟨rfl,d7⟩;have B2:=aA (BD.o.trans (d7.mono BD.o.size));have B:=(d4.o.keep B2.o).cell 0;have C:=(a6.o.keep B2.o).cell 0;have D:=(a9.o.keep B2.o).cell 0;have U:=(B2.o.cell (p:=⟨bh,oh,none⟩) a5.o.1).trans CH.o;have V:=(B2.o.cell (p:=⟨bg,og,none⟩) a5.o.2).trans f3.o;clear d7;refine l.out _ _ ⟨B,C,D,U,V⟩ (λo=>?_);clear l B C D U V;try simp only[aC]
  refine aM (v:=.bool true) rfl (by rfl) o (λw' i=>?_) ?_
  ·(go_simp;try with_reducible rfl)
  try simp only[aC]
  refine aM (v:=.bool true) rfl (by rfl) o (λw' i=>?_) ?_
  ·(go_simp;try with_reducible rfl)
  try simp only[aC]
  iterate 2
   refine aM (v:=?_) rfl (by rfl) o (λw' i=>?_) ?_
   rotate_left
   ·(go_simp;try with_reducible rfl)
   try simp only[aC]
  refine bK rfl (λKf l=>?_);go_simp
  refine(C2.o w2 B2.o).mono ?_;rintro e w3 ⟨rfl,k0⟩;have B3:=aA (B2.o.trans (k0.mono B2.o.size));have a0:=(d4.o.keep B3.o).cell 0;have a1:=(a6.o.keep B3.o).cell 0;have a2:=(a9.o.keep B3.o).cell 0;have e0:=(B3.o.cell (p:=⟨bh,oh,none⟩) a5.o.1).trans CH.o;have e2:=(B3.o.cell (p:=⟨bg,og,none⟩) a5.o.2).trans f3.o;clear k0;refine l.out _ _ ⟨a0,a1,a2,e0,e2⟩ (λo=>?_);clear l a0 a1 a2 e0 e2;try simp only[aC]
  refine aM (v:=.bool true) rfl (by rfl) o (λw' i=>?_) ?_
  ·(go_simp;try with_reducible rfl)
  try simp only[aC]
  refine aM (v:=.bool true) rfl (by rfl) o (λw' i=>?_) ?_
  ·(go_simp;try with_reducible rfl)
  try simp only[aC]
  refine cH rfl (λKf l=>?_);go_simp
  refine l.out _ _ ?_;clear l;try simp only[aC]
  refine cE ?_;clear o;have r:=aA (DJ.o.trans ((z.o.trans (B3.o.mono z.o.size)).mono DJ.o.size));cases b
  .have HN:=aA (show false=(!v7&&((dY (cY (dE p)) p.labels).take (j+1)).all λk=>!iU (dE p) d t k) by rw[TK.o,<-iF,<-HB.o,HW.o];rfl);go_wp2
   go_roundg (gk-1)
   case measure=>exact E.o.1
   exact⟨false,j+1,rfl,rfl,aA E.o.2,HN,r⟩
  have HN:=aA (show false=(!v7&&((dY (cY (dE p)) p.labels).take (j+1)).all λk=>!iU (dE p) d t k) by rw[TK.o,<-iF,<-HB.o,HW.o];rfl);go_wp2
  go_roundg (gk-1)
  case measure=>exact E.o.1
  exact⟨false,j+1,rfl,rfl,aA E.o.2,HN,r⟩
 have HW:=aA (show iU (dE p) d t h=false by unfold iU;rw[d3.o.1,d3.o.2,HV.o,I1.o,I0.o];rfl);refine aN 23 (.takes [0,1,2,3,4,5,6,7,8,9,10,11,12,13,14] (.one 15 (.takes [16,17,18,19] (.one 20 (.takes [21,22] (.fin 23 .done)))))) (λw'=>w'.cell? f4=some (.slice (some ⟨bh,oh,none⟩) mh dh)/\w'.cell? f2=some (.slice (some ⟨bg,og,none⟩) mt dt)/\w'.cell? k8=some (w5V bp)/\w'.cell? ⟨bh,oh,none⟩=some (.int .i64 h0)/\w'.cell? ⟨bg,og,none⟩=some (.int .i64 g0)) (by kernel_rfl) (by kernel_rfl) (by kernel_rfl) (λ_ _ _ _ _ h=>h) ⟨d5,b4,d6,ch,cg⟩ (λo=>?_);simp only[Scr.takes];clear d5 b4 d6 ch cg;generalize wC.drew=wD at *
 iterate 6
  refine aM (v:=?_) rfl (by rfl) o (λw' i=>?_) ?_
  rotate_left
  ·(go_simp;try with_reducible rfl)
  try simp only[aC]
 refine aM (v:=.bool true) rfl (by rfl) o (λw' i=>?_) ?_
 ·(go_simp;try with_reducible rfl)
 try simp only[aC]
 refine aM (v:=.bool true) rfl (by rfl) o (λw' i=>?_) ?_
 ·(go_simp;try with_reducible rfl)
 try simp only[aC]
 iterate 7
  refine aM (v:=?_) rfl (by rfl) o (λw' i=>?_) ?_
  rotate_left
  ·(go_simp;try with_reducible rfl)
  try simp only[aC]
 refine bK rfl (λKf l=>?_);go_simp
 refine C1.o.mono ?_;rintro e w2 ⟨rfl,d7⟩;have B2:=aA (BD.o.trans (d7.mono BD.o.size));have B:=(d4.o.keep B2.o).cell 0;have C:=(a6.o.keep B2.o).cell 0;have D:=(a9.o.keep B2.o).cell 0;have U:=(B2.o.cell (p:=⟨bh,oh,none⟩) a5.o.1).trans CH.o;have V:=(B2.o.cell (p:=⟨bg,og,none⟩) a5.o.2).trans f3.o;clear d7;refine l.out _ _ ⟨B,C,D,U,V⟩ (λo=>?_);clear l B C D U V;try simp only[aC]
 refine aM (v:=.bool true) rfl (by rfl) o (λw' i=>?_) ?_
 ·(go_simp;try with_reducible rfl)
 try simp only[aC]
 refine aM (v:=.bool true) rfl (by rfl) o (λw' i=>?_) ?_
 ·(go_simp;try with_reducible rfl)
 try simp only[aC]
 iterate 2
  refine aM (v:=?_) rfl (by rfl) o (λw' i=>?_) ?_
  rotate_left
  ·(go_simp;try with_reducible rfl)
  try simp only[aC]
 refine bK rfl (λKf l=>?_);go_simp
 refine(C2.o w2 B2.o).mono ?_;rintro e w3 ⟨rfl,k0⟩;have B3:=aA (B2.o.trans (k0.mono B2.o.size));have a0:=(d4.o.keep B3.o).cell 0;have a1:=(a6.o.keep B3.o).cell 0;have a2:=(a9.o.keep B3.o).cell 0;have e0:=(B3.o.cell (p:=⟨bh,oh,none⟩) a5.o.1).trans CH.o;have e2:=(B3.o.cell (p:=⟨bg,og,none⟩) a5.o.2).trans f3.o;clear k0;refine l.out _ _ ⟨a0,a1,a2,e0,e2⟩ (λo=>?_);clear l a0 a1 a2 e0 e2;try simp only[aC]
 refine aM (v:=.bool false) rfl (by rfl) o (λw' i=>?_) ?_
 ·(go_simp;try with_reducible rfl)
 try simp only[aC]
 refine aM (v:=.bool false) rfl (by rfl) o (λw' i=>?_) ?_
 ·(go_simp;try with_reducible rfl)
 try simp only[aC]
 refine cH rfl (λKf l=>?_);go_simp
 refine l.out _ _ ?_;clear l;try simp only[aC]
 refine cE ?_;clear o;have r:=aA (DJ.o.trans ((z.o.trans (B3.o.mono z.o.size)).mono DJ.o.size));cases b
 .have HN:=aA (show false=(!v7&&((dY (cY (dE p)) p.labels).take (j+1)).all λk=>!iU (dE p) d t k) by rw[TK.o,<-iF,<-HB.o,HW.o];rfl);go_wp2
  go_roundg (gk-1)
  case measure=>exact E.o.1
  exact⟨false,j+1,rfl,rfl,aA E.o.2,HN,r⟩
 have HN:=aA (show true=(!v7&&((dY (cY (dE p)) p.labels).take (j+1)).all λk=>!iU (dE p) d t k) by rw[TK.o,<-iF,<-HB.o,HW.o];rfl);go_wp2
 go_roundg (gk-1)
 case measure=>exact E.o.1
 exact⟨true,j+1,rfl,rfl,aA E.o.2,HN,r⟩
