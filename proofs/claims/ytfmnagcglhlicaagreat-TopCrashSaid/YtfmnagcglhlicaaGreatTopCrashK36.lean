/- mine's find. Conditions: the log reads as lists, nothing is wrong with it, the fuel is enough. -/
import Derived.Test.YtfmnagcglhlicaaGreatTopCrashK35
set_option maxRecDepth 100000
set_option maxHeartbeats 8000000
namespace Go.Proofs.YtfmnagcglhlicaaGreat
open Go.RowKit Go.Maps
section
variable {f:Nat} {log full:LLi} {p:aU}
theorem Px (h:(bR log).length=0):aP (f+1) log=aR:=by rw[aP,if_pos h]
theorem Py (h0:(bR log).length≠0)(h:(bR log).length<log.length):aP (f+1) log=.mk 4 0 [aR,aP f (bR log)]:=by rw[aP,if_neg h0,if_pos h]
theorem nS (h0:(bR log).length≠0)(h:¬(bR log).length<log.length):aP (f+1) log=qO (aP f) (bR log):=by rw[aP,if_neg h0,if_neg h]
variable (hp:cZ full p)
include hp
theorem K8 (h1:p.labels.length=1)(hv:full.any (fun t=>decide (1<t.length))=true):qO (aP f) full=.mk 6 0 [bS (p.labels.headD 0),aR]:=by
 unfold qO;rw[nQ hp,if_pos h1,if_pos hv]
theorem yJ (h1:p.labels.length=1)(hv:full.any (fun t=>decide (1<t.length))=false):qO (aP f) full=bS (p.labels.headD 0):=by
 unfold qO;rw[nQ hp,if_pos h1,if_neg (by rw[hv];exact fun h=>nomatch h)]
theorem sQ (h1:p.labels.length≠1)(h:2≤(eF (bhB p) p.labels).length):qO (aP f) full=.mk 4 0 ((eF (bhB p) p.labels).map fun g=>aP f (full.filter fun t=>inS g (t.headD 0))):=by
 unfold qO;rw[nQ hp,if_neg h1,if_pos h]
theorem DK (h1:p.labels.length≠1)(h:¬2≤(eF (bhB p) p.labels).length)(h2:Gy p):qO (aP f) full=zY f full p:=by
 unfold qO;rw[nQ hp,if_neg h1,if_neg h,if_pos (show 2≤(eF (eE (gQ p)) p.labels).length from h2)];rfl
theorem La (h1:p.labels.length≠1)(h:¬2≤(eF (bhB p) p.labels).length)(h2:¬Gy p)(h3:rT p):qO (aP f) full=mZ f full p:=by
 unfold qO;rw[nQ hp,if_neg h1,if_neg h,if_neg (show ¬2≤(eF (eE (gQ p)) p.labels).length from h2),if_pos (show 2≤(eF (mV p) p.labels).length∧((eF (mV p) p.labels).all fun g=>nX g p.first&&nX g p.last)=true from h3)];rfl
theorem Lc (h1:p.labels.length≠1)(h:¬2≤(eF (bhB p) p.labels).length)(h2:¬Gy p)(h3:¬rT p):qO (aP f) full=.mk 6 0 [aR,.mk 4 0 (p.labels.map bS)]:=by
 unfold qO;rw[nQ hp,if_neg h1,if_neg h,if_neg (show ¬2≤(eF (eE (gQ p)) p.labels).length from h2),if_neg (show ¬(2≤(eF (mV p) p.labels).length∧((eF (mV p) p.labels).all fun g=>nX g p.first&&nX g p.last)=true)from h3)]
end
theorem fJ.flat {P:Nat→Prop}{w:World}{d d':Nat}{v:Value}{T:aW}(h:fJ P d w v T)(hT:T.kids=[]):fJ P d' w v T:=by
 obtain⟨A,n,c,e,s,p⟩:=h;have hn:n=0:=by rw[←s.len,hT];rfl
 exact⟨A,n,c,e,⟨s.len,s.le,s.cap,s.small,s.nul,fun h=>absurd h (by omega)⟩,p⟩
theorem fJ.of_ans {w w0 w':World}{d:Nat}{v:Value}{T:aW}(h:fJ (fun k=>w.heap.size≤k) d w' v T)(hb:Below w0.heap.size w0 w):fJ (fun k=>w0.heap.size≤k) d w' v T:=h.wide (fun _ _ hk=>Nat.le_trans hb.size hk)
theorem GH {f:Nat}(IH:vN f):vN (f+1):=fun w A n c log h hf=>by
 have IHH:=aA IH;have HF:=aA hf;have NN:=aA (show n≤60 by rw[←h.len];exact hf.n);have HL:=aA h.len;have B0:=aA (aB w (.cells #[.int .i64 0,.int .i64 0,.slice none 0 0] 71));have X0:=aA (Box.new w #[.int .i64 0,.int .i64 0,.slice none 0 0] 71);have CC:=aA (lY (Sl.keep bH.kept h B0.o) (by have:=NN.o;omega));clear h hf IH;go_enter Tryz.func83,Tryz.ntmps83
 go_upto_region 1 with fail
 generalize w.alloc (.cells #[.int .i64 0,.int .i64 0,.slice none 0 0] 71)=w1 at *
 go_wp2_with fail
 refine CC.o.mono ?_;rintro e w2 ⟨v2,rfl,ow2,hb2⟩;have hl2:=ow2.lt;have CD:=aA (yH (F:=123) (cv:=#[]) (q:=oL) ow2 (by have:=NN.o;omega) (Nat.le_refl _) (fun args w=>by kernel_rfl) (fun gr _=>KR w2 gr log));have B2:=aA hb2;have HL2:=aA hl2;clear ow2 hb2 hl2 CC;go_wp2_with fail
 refine CD.o.mono ?_;rintro e w3 ⟨A3,k,c3,rfl,ow3,hg3⟩;rw[show(log.filter fun a=>!oL a)=bR log from rfl]at ow3;have D3:=aA (show Below w1.heap.size w1 w3 from B2.o.grown hg3 B2.o.size (fun q hq=>(HL2.o q hq).1));have KL:=aA (show(bR log).length=k from ow3.len);have KN:=aA (show k≤60 by rw[←KL.o];exact Nat.le_trans (List.length_filter_le _ _) HF.o.n);obtain⟨A4,c4,e4,il4⟩:=oI.lists ow3 (by have:=KN.o;omega);injection e4 with e41 _ e42;subst e41 e42;have IL:=aA il4;have D0:=aA (B0.o.trans (D3.o.mono B0.o.size));have X3:=aA (X0.o.keep D3.o);have W1:=aA (show w.heap.size<w1.heap.size from X0.o.lt);clear ow3 hg3 il4 CD;by_cases hk0:k=0
 ·have EQ:=aA (Px (f:=f) (log:=log) (by rw[KL.o];exact hk0));have CS:=aA (j5 w3 (f+3));have hki:((k:Int)==0)=true:=by simp[hk0]
  have FB:=aA (show ∀(w':World) (v:Value),fJ (fun j=>w.heap.size≤j) (f+3) w' v (aR)→Below w.heap.size w w'→lF (f+1+2) (aP (f+1) log) w (.returned v) w' from fun w' v hb hw=>⟨v,rfl,by rw[EQ.o];exact hb,hw⟩);clear hk0;go_wp2_with fail
  refine CS.o.mono ?_;rintro e w4 ⟨v4,rfl,⟨A4',n4',c4',rfl,s4,p4⟩,hb4⟩;have BA4:=aA (show fJ (fun q=>w3.heap.size≤q) (f+3) w4 (.agg #[.int .i64 (aR).kind,.int .i64 (aR).label,.slice A4' n4' c4']) (aR)from⟨A4',n4',c4',rfl,s4,p4⟩);obtain⟨kd4,hkd⟩:∃x,x=(aR).kind:=⟨_,rfl⟩;obtain⟨lb4,hlb⟩:∃x,x=(aR).label:=⟨_,rfl⟩;rw[←hkd,←hlb]at BA4;rw[←hkd,←hlb];have HB4:=aA hb4;clear s4 p4 hb4 hkd hlb;have X4:=aA (X3.o.keep HB4.o);obtain⟨u0,u1,u2⟩:=X4.o.three;have fz:=fun q=>X4.o.frozen q
  have WW:=aA (d9 (w:=w) BA4.o X4.o HB4.o D0.o (Nat.lt_of_lt_of_le W1.o D3.o.size) (Nat.le_refl _));go_wp2
  generalize (((w4.setCell ⟨w.heap.size,0,none⟩ (.int .i64 kd4)).setCell ⟨w.heap.size,1,none⟩ (.int .i64 lb4)).setCell ⟨w.heap.size,2,none⟩ (.slice A4' n4' c4'))=ww at *
  obtain⟨z0,z1,z2⟩:=WW.o.1.three;exact bodyPost_ret (v:=.agg #[.int .i64 kd4,.int .i64 lb4,.slice A4' n4' c4']) (by simp[results,Tryz.results83,go_sem,z0,z1,z2]) rfl (FB.o ww _ WW.o.2.1 WW.o.2.2)
 ·have hki:((k:Int)==0)=false:=by simp;omega
  have HK0:=aA (show(bR log).length≠0 by rw[KL.o];exact hk0);clear hk0;by_cases hkn:k<n
  ·have EQ:=aA (Py (f:=f) HK0.o (by rw[KL.o,HL.o];exact hkn));have FB:=aA (show ∀(w':World) (v:Value),fJ (fun j=>w.heap.size≤j) (f+3) w' v (.mk 4 0 [aR,aP f (bR log)])→Below w.heap.size w w'→lF (f+1+2) (aP (f+1) log) w (.returned v) w' from fun w' v hb hw=>⟨v,rfl,by rw[EQ.o];exact hb,hw⟩);have CS:=aA (j5 w3 (f+2));have FF:=aA (HF.o.full (by rw[KL.o,HL.o];exact hkn));have hkni:(k:Int)<(n:Int):=by omega
   clear hkn;go_wp2_with fail
   refine CS.o.mono ?_;rintro e w4 ⟨v4,rfl,⟨A4',n4',c4',rfl,s4,p4⟩,hb4⟩;have BA4:=aA (show fJ (fun q=>w3.heap.size≤q) (f+2) w4 (.agg #[.int .i64 (aR).kind,.int .i64 (aR).label,.slice A4' n4' c4']) (aR)from⟨A4',n4',c4',rfl,s4,p4⟩);obtain⟨kd4,hkd⟩:∃x,x=(aR).kind:=⟨_,rfl⟩;obtain⟨lb4,hlb⟩:∃x,x=(aR).label:=⟨_,rfl⟩;rw[←hkd,←hlb]at BA4;rw[←hkd,←hlb];have HB4:=aA hb4;clear s4 p4 hb4 hkd hlb;have CF:=aA (IHH.o w4 A3 k c3 (bR log) (Sl.keep bH.kept IL.o HB4.o) FF.o);go_wp2_with fail
   refine CF.o.mono ?_;rintro e w5 ⟨v5,rfl,⟨A5',n5',c5',rfl,s5,p5⟩,hb5⟩;have BA5:=aA (show fJ (fun q=>w4.heap.size≤q) (f+2) w5 (.agg #[.int .i64 (aP f (bR log)).kind,.int .i64 (aP f (bR log)).label,.slice A5' n5' c5']) (aP f (bR log))from⟨A5',n5',c5',rfl,s5,p5⟩);obtain⟨kd5,hkd⟩:∃x,x=(aP f (bR log)).kind:=⟨_,rfl⟩;obtain⟨lb5,hlb⟩:∃x,x=(aP f (bR log)).label:=⟨_,rfl⟩;rw[←hkd,←hlb]at BA5;rw[←hkd,←hlb];have HB5:=aA hb5;clear s5 p5 hb5 hkd hlb;have H35:=aA (HB4.o.trans (HB5.o.mono HB4.o.size));have RW:=aA (Gz (BA4.o.keep HB5.o) (BA5.o.of_ans HB4.o));have BR:=aA (aB w5 (.cells #[.int .i64 kd4,.int .i64 lb4,.slice A4' n4' c4',.int .i64 kd5,.int .i64 lb5,.slice A5' n5' c5'] 71));have H36:=aA (H35.o.trans (BR.o.mono H35.o.size));have CB:=aA (gR 4 RW.o (fun _ a ha=>by injection ha with ha;subst ha;exact H35.o.size) H36.o);go_wp2_with fail
   generalize w5.alloc (.cells #[.int .i64 kd4,.int .i64 lb4,.slice A4' n4' c4',.int .i64 kd5,.int .i64 lb5,.slice A5' n5' c5'] 71)=w5b at *
   refine CB.o.mono ?_;rintro e w6 ⟨h6,_⟩;obtain⟨v6,rfl,⟨A6',n6',c6',rfl,s6,p6⟩,hb6⟩:=h6;have BA6:=aA (show fJ (fun q=>w3.heap.size≤q) (f+3) w6 (.agg #[.int .i64 (aW.mk 4 0 [aR,aP f (bR log)]).kind,.int .i64 (aW.mk 4 0 [aR,aP f (bR log)]).label,.slice A6' n6' c6']) (.mk 4 0 [aR,aP f (bR log)])from⟨A6',n6',c6',rfl,s6,p6⟩);generalize (aW.mk 4 0 [aR,aP f (bR log)]).kind=kd6 at *
   generalize (aW.mk 4 0 [aR,aP f (bR log)]).label=lb6 at *
   have HB6:=aA hb6;clear s6 p6 hb6;have X6:=aA (X3.o.keep HB6.o);obtain⟨u0,u1,u2⟩:=X6.o.three;have fz:=fun q=>X6.o.frozen q
   have WW:=aA (d9 (w:=w) BA6.o X6.o HB6.o D0.o (Nat.lt_of_lt_of_le W1.o D3.o.size) (Nat.le_refl _));go_wp2
   generalize (((w6.setCell ⟨w.heap.size,0,none⟩ (.int .i64 kd6)).setCell ⟨w.heap.size,1,none⟩ (.int .i64 lb6)).setCell ⟨w.heap.size,2,none⟩ (.slice A6' n6' c6'))=ww at *
   obtain⟨z0,z1,z2⟩:=WW.o.1.three;exact bodyPost_ret (v:=.agg #[.int .i64 kd6,.int .i64 lb6,.slice A6' n6' c6']) (by simp[results,Tryz.results83,go_sem,z0,z1,z2]) rfl (FB.o ww _ WW.o.2.1 WW.o.2.2)
  ·have EQ0:=aA (nS (f:=f) HK0.o (by rw[KL.o,HL.o];exact hkn));have hkni:¬(k:Int)<(n:Int):=by omega
   have SAME:=aA (KF (log:=log) (by rw[KL.o,HL.o];exact hkn));have FU:=aA (show vK (f+1) (bR log) by rw[SAME.o];exact HF.o);have HE:=aA (show ∀t∈bR log,t.length≠0 from fun t ht=>(mX.1 ht).2);have CO:=aA (KZ IL.o FU.o.1);clear hkn;go_wp2_with fail
   refine CO.o.mono ?_;rintro e w4 ⟨p,A1,A2,A3b,A4,n1,c1,n2,c2,n3,c3b,n4,c4,rfl,li,sp,hb4⟩;have SP:=aA sp;have BB5:=aA (aB w4 (.cells #[.slice A3 k c3,.slice A1 n1 c1,.slice A2 n2 c2,.slice A3b n3 c3b,.slice A4 n4 c4] 222));have H45:=aA (hb4.trans (BB5.o.mono hb4.size));have LI:=aA (li.keep BB5.o);have TB:=aA (Box.new w4 #[.slice A3 k c3,.slice A1 n1 c1,.slice A2 n2 c2,.slice A3b n3 c3b,.slice A4 n4 c4] 222);have X5:=aA (X3.o.keep H45.o);have IL5:=aA (Sl.keep bH.kept IL.o H45.o);have D5:=aA (D0.o.trans (H45.o.mono D0.o.size));have W5:=aA (show w.heap.size<(w4.alloc (.cells #[.slice A3 k c3,.slice A1 n1 c1,.slice A2 n2 c2,.slice A3b n3 c3b,.slice A4 n4 c4] 222)).heap.size from X5.o.lt);have LN:=aA (show p.labels.length=n1∧n1≤26 from⟨li.ip.i1.len,by rw[←li.ip.i1.len];exact mW sp.1.1 (sp.lab FU.o.1)⟩);clear li sp hb4 CO;go_upto_region 7 with fail
   generalize w4.alloc (.cells #[.slice A3 k c3,.slice A1 n1 c1,.slice A2 n2 c2,.slice A3b n3 c3b,.slice A4 n4 c4] 222)=w5 at *
   generalize w4.heap.size=bl at *
   have x1:=TB.o.cell 1;by_cases hone:n1=1
   ·have ONE:=aA (show p.labels.length=1 by rw[LN.o.1];exact hone);have hni:((n1:Int)==1)=true:=by simp[hone]
    have hn0:0<n1:=by omega
    obtain⟨b1,off1,a,rfl,hb1,ha,q1⟩:=aJ.get LI.o.ip.i1 hn0;have HA:=aA (show p.labels.headD 0=a from by
     have h1:=ha.o;cases hc:p.labels with
     | nil=>rw[hc]at h1;simp at h1
     | cons x t=>rw[hc]at h1;simpa using h1)
    rw[Nat.add_zero]at q1;have CS:=aA (yF w5 (f+2) a);clear hone hb1 ha;go_wp2_with fail
    refine CS.o.mono ?_;rintro e w6 ⟨v6,rfl,⟨A6',n6',c6',rfl,s6,p6⟩,hb6⟩;have BA6:=aA (show fJ (fun q=>w5.heap.size≤q) (f+2) w6 (.agg #[.int .i64 (bS a).kind,.int .i64 (bS a).label,.slice A6' n6' c6']) (bS a)from⟨A6',n6',c6',rfl,s6,p6⟩);obtain⟨kd6,hkd⟩:∃x,x=(bS a).kind:=⟨_,rfl⟩;obtain⟨lb6,hlb⟩:∃x,x=(bS a).label:=⟨_,rfl⟩;rw[←hkd,←hlb]at BA6;rw[←hkd,←hlb];have HB6:=aA hb6;clear s6 p6 hb6 hkd hlb;have BB7:=aA (aB w6 (.cells #[.int .i64 kd6,.int .i64 lb6,.slice A6' n6' c6'] 71));have TS:=aA (Box.new w6 #[.int .i64 kd6,.int .i64 lb6,.slice A6' n6' c6'] 71);have H57:=aA (HB6.o.trans (BB7.o.mono HB6.o.size));have BA7:=aA (BA6.o.keep BB7.o);have CT:=aA (mS (Sl.keep bH.kept IL5.o H57.o) (KT _));have HBS:=aA (show w.heap.size≠w6.heap.size by have:=W5.o;have:=HB6.o.size;omega);clear x1 q1 CS;go_upto_region 9 with fail
    generalize w6.alloc (.cells #[.int .i64 kd6,.int .i64 lb6,.slice A6' n6' c6'] 71)=w7 at *
    generalize w6.heap.size=bs at *
    obtain⟨v,hv⟩:∃v,(bR log).any (fun y=>decide (1<y.length))=v:=⟨_,rfl⟩;have HV:=aA hv;rw[hv]at CT;clear hv;cases v
    ·have EQ:=aA (show aP (f+1) log=bS a from by rw[EQ0.o,yJ SP.o ONE.o HV.o,HA.o]);have FB:=aA (show ∀(w':World) (v:Value),fJ (fun j=>w.heap.size≤j) (f+3) w' v (bS a)→Below w.heap.size w w'→lF (f+1+2) (aP (f+1) log) w (.returned v) w' from fun w' v hb hw=>⟨v,rfl,by rw[EQ.o];exact hb,hw⟩);go_wp2_with fail
     refine CT.o.mono ?_;rintro e w8 ⟨rfl,hb8⟩;have H58:=aA (H57.o.trans (hb8.mono H57.o.size));have BA8:=aA ((BA7.o.keep hb8).flat (d':=f+3) rfl);have X8:=aA (X5.o.keep H58.o);obtain⟨s0,s1,s2⟩:=(TS.o.keep hb8).three;have HB8:=aA H58.o;clear hb8 CT;obtain⟨kd8,hkd8⟩:∃x,x=kd6:=⟨_,rfl⟩;obtain⟨lb8,hlb8⟩:∃x,x=lb6:=⟨_,rfl⟩;obtain⟨A8',hA8⟩:∃x,x=A6':=⟨_,rfl⟩;obtain⟨n8',hn8⟩:∃x,x=n6':=⟨_,rfl⟩;obtain⟨c8',hc8⟩:∃x,x=c6':=⟨_,rfl⟩;subst hkd8 hlb8 hA8 hn8 hc8;obtain⟨u0,u1,u2⟩:=X8.o.three;have fz:=fun q=>X8.o.frozen q
     have WW:=aA (d9 (w:=w) BA8.o X8.o HB8.o D5.o W5.o (Nat.le_refl _));go_wp2
     generalize (((w8.setCell ⟨w.heap.size,0,none⟩ (.int .i64 kd8)).setCell ⟨w.heap.size,1,none⟩ (.int .i64 lb8)).setCell ⟨w.heap.size,2,none⟩ (.slice A8' n8' c8'))=ww at *
     obtain⟨z0,z1,z2⟩:=WW.o.1.three;exact bodyPost_ret (v:=.agg #[.int .i64 kd8,.int .i64 lb8,.slice A8' n8' c8']) (by simp[results,Tryz.results83,go_sem,z0,z1,z2]) rfl (FB.o ww _ WW.o.2.1 WW.o.2.2)
    ·have EQ:=aA (show aP (f+1) log=.mk 6 0 [bS a,aR]from by rw[EQ0.o,K8 SP.o ONE.o HV.o,HA.o]);have FB:=aA (show ∀(w':World) (v:Value),fJ (fun j=>w.heap.size≤j) (f+3) w' v (.mk 6 0 [bS a,aR])→Below w.heap.size w w'→lF (f+1+2) (aP (f+1) log) w (.returned v) w' from fun w' v hb hw=>⟨v,rfl,by rw[EQ.o];exact hb,hw⟩);go_wp2_with fail
     refine CT.o.mono ?_;rintro e w8 ⟨rfl,hb8⟩;have H8d:=aA (hb8.trans ((Below.refl w8.heap.size w8).drew.mono hb8.size));have H58:=aA (H57.o.trans (H8d.o.mono H57.o.size));have BA8:=aA (BA7.o.keep H8d.o);have CS2:=aA (j5 w8.drew (f+2));obtain⟨s0,s1,s2⟩:=(TS.o.keep hb8).three;have TS8:=aA (TS.o.keep H8d.o);have hbs:=HBS.o;have hbs2:=Ne.symm HBS.o;clear hb8 CT;go_wp2_with fail
     go_region_held3 (fun w'=>w'.cell? ⟨bs,0,none⟩=some (.int .i64 kd6)∧w'.cell? ⟨bs,1,none⟩=some (.int .i64 lb6)∧w'.cell? ⟨bs,2,none⟩=some (.slice A6' n6' c6'))
      (first|go_keep)
      (first
       |(go_at_call 124;(with_reducible refine CS2.o.mono ?_);rintro e w9 ⟨v9,rfl,⟨A9',n9',c9',rfl,s9,p9⟩,hb9⟩;have BA9:=aA (show fJ (fun q=>w8.drew.heap.size≤q) (f+2) w9 (.agg #[.int .i64 (aR).kind,.int .i64 (aR).label,.slice A9' n9' c9']) (aR)from⟨A9',n9',c9',rfl,s9,p9⟩);obtain⟨kd9,hkd⟩:∃x,x=(aR).kind:=⟨_,rfl⟩;obtain⟨lb9,hlb⟩:∃x,x=(aR).label:=⟨_,rfl⟩;rw[←hkd,←hlb]at BA9;rw[←hkd,←hlb];have HB9:=aA hb9;clear s9 p9 hb9 hkd hlb;have RW:=aA (Gz (BA8.o.keep HB9.o) (BA9.o.of_ans H58.o));have BR:=aA (aB w9 (.cells #[.int .i64 kd6,.int .i64 lb6,.slice A6' n6' c6',.int .i64 kd9,.int .i64 lb9,.slice A9' n9' c9'] 71));have H59:=aA (H58.o.trans (HB9.o.mono H58.o.size));have H5r:=aA (H59.o.trans (BR.o.mono H59.o.size));have CB2:=aA (gR 6 RW.o (fun _ a ha=>by injection ha with ha;subst ha;exact H59.o.size) H5r.o);obtain⟨t0,t1,t2⟩:=(TS8.o.keep HB9.o).three)
       |(go_at_call 125;(with_reducible refine CB2.o.mono ?_);rintro e w10 ⟨⟨v10,rfl,⟨A10',n10',c10',rfl,s10,p10⟩,hb10⟩,hb11⟩;have BA10:=aA (show fJ (fun q=>w5.heap.size≤q) (f+3) w10 (.agg #[.int .i64 (aW.mk 6 0 [bS a,aR]).kind,.int .i64 (aW.mk 6 0 [bS a,aR]).label,.slice A10' n10' c10']) (.mk 6 0 [bS a,aR])from⟨A10',n10',c10',rfl,s10,p10⟩);obtain⟨kd10,hkd⟩:∃x,x=(aW.mk 6 0 [bS a,aR]).kind:=⟨_,rfl⟩;obtain⟨lb10,hlb⟩:∃x,x=(aW.mk 6 0 [bS a,aR]).label:=⟨_,rfl⟩;rw[←hkd,←hlb]at BA10;rw[←hkd,←hlb];have HB10:=aA hb10;obtain⟨q0,q1,q2⟩:=(TS8.o.keep (HB9.o.trans ((BR.o.trans (hb11.mono BR.o.size)).mono HB9.o.size))).three;have X10:=aA (X5.o.keep hb10);clear s10 p10 hb10 hb11 hkd hlb;obtain⟨u0,u1,u2⟩:=X10.o.three;have fz:=fun q=>X10.o.frozen q;have WW:=aA (d9 (w:=w) BA10.o X10.o HB10.o D5.o W5.o (Nat.le_refl _))))
     go_wp2
     generalize (((w10.setCell ⟨w.heap.size,0,none⟩ (.int .i64 kd10)).setCell ⟨w.heap.size,1,none⟩ (.int .i64 lb10)).setCell ⟨w.heap.size,2,none⟩ (.slice A10' n10' c10'))=ww at *
     obtain⟨z0,z1,z2⟩:=WW.o.1.three;exact bodyPost_ret (v:=.agg #[.int .i64 kd10,.int .i64 lb10,.slice A10' n10' c10']) (by simp[results,Tryz.results83,go_sem,z0,z1,z2]) rfl (FB.o ww _ WW.o.2.1 WW.o.2.2)
   ·have TWO:=aA (show p.labels.length≠1 by rw[LN.o.1];exact hone);have hni:((n1:Int)==1)=false:=by simp;omega
    have x0:=TB.o.cell 0;have x2:=TB.o.cell 2;have x3:=TB.o.cell 3;have x4:=TB.o.cell 4;have RB:=aA (Box.new w5 #[Value.func (.func 130) #[vM A3 A1 A2 A3b A4 k c3 n1 c1 n2 c2 n3 c3b n4 c4] #[],Value.func (.func 131) #[vM A3 A1 A2 A3b A4 k c3 n1 c1 n2 c2 n3 c3b n4 c4] #[],Value.func (.func 132) #[vM A3 A1 A2 A3b A4 k c3 n1 c1 n2 c2 n3 c3b n4 c4] #[]] 226);have B6:=aA (aB w5 (.cells #[Value.func (.func 130) #[vM A3 A1 A2 A3b A4 k c3 n1 c1 n2 c2 n3 c3b n4 c4] #[],Value.func (.func 131) #[vM A3 A1 A2 A3b A4 k c3 n1 c1 n2 c2 n3 c3b n4 c4] #[],Value.func (.func 132) #[vM A3 A1 A2 A3b A4 k c3 n1 c1 n2 c2 n3 c3b n4 c4] #[]] 226));have LI6:=aA (LI.o.keep B6.o);have X6:=aA (X5.o.keep B6.o);have TB6:=aA (TB.o.keep B6.o);have D6:=aA (D5.o.trans (B6.o.mono D5.o.size));have W6:=aA (Nat.lt_of_lt_of_le W5.o B6.o.size);clear hone;go_wp2
    clear x0 x1 x2 x3 x4;generalize w5.alloc (.cells #[Value.func (.func 130) #[vM A3 A1 A2 A3b A4 k c3 n1 c1 n2 c2 n3 c3b n4 c4] #[],Value.func (.func 131) #[vM A3 A1 A2 A3b A4 k c3 n1 c1 n2 c2 n3 c3b n4 c4] #[],Value.func (.func 132) #[vM A3 A1 A2 A3b A4 k c3 n1 c1 n2 c2 n3 c3b n4 c4] #[]] 226)=w6 at *
    generalize w5.heap.size=br at *
    go_loopg [60] 3 (fun gk s60 wr=>∃q:Nat,s60=.int .i64 (q:Nat)∧Hid (q+gk=3)∧Hid ((0<q→¬2≤(eF (bhB p) p.labels).length)∧(1<q→¬Gy p)∧(2<q→¬rT p))∧Hid (Below w6.heap.size w6 wr))
    case atStart=>exact⟨0,rfl,aA (by omega),aA ⟨fun h=>absurd h (by omega),fun h=>absurd h (by omega),fun h=>absurd h (by omega)⟩,aA (Below.refl _ _)⟩
    case round =>
     obtain⟨q,rfl,hgk,NOS,D6r⟩:=hrel;have LIr:=aA (LI6.o.keep D6r.o);have Xr:=aA (X6.o.keep D6r.o);have RBr:=aA (RB.o.keep D6r.o);have Dr:=aA (D6.o.trans (D6r.o.mono D6.o.size));have Wr:=aA (Nat.lt_of_lt_of_le W6.o D6r.o.size);by_cases hq:q<3
     ·rcases(show q=0∨q=1∨q=2 by omega)with rfl|rfl|rfl
      ·have y0:=RBr.o.cell 0;have HJ:=aA (show gk-1<gk∧1+(gk-1)=3 by have:=hgk.o;omega);by_cases hP:2≤(eF (bhB p) p.labels).length
       ·have EQ:=aA (show aP (f+1) log=aW.mk 4 0 ((eF (bhB p) p.labels).map fun g=>aP f ((bR log).filter fun t=>inS g (t.headD 0)))from by rw[EQ0.o,sQ SP.o TWO.o hP]);have FB:=aA (show ∀(w':World) (v:Value),fJ (fun j=>w.heap.size≤j) (f+3) w' v (aW.mk 4 0 ((eF (bhB p) p.labels).map fun g=>aP f ((bR log).filter fun t=>inS g (t.headD 0))))→Below w.heap.size w w'→lF (f+1+2) (aP (f+1) log) w (.returned v) w' from fun w' v hb hw=>⟨v,rfl,by rw[EQ.o];exact hb,hw⟩);have CC:=aA (show Calls Tryz.prog 130 #[vM A3 A1 A2 A3b A4 k c3 n1 c1 n2 c2 n3 c3b n4 c4] wr (qU (f+3) true (aW.mk 4 0 ((eF (bhB p) p.labels).map fun g=>aP f ((bR log).filter fun t=>inS g (t.headD 0)))) wr)from by have h9:=oO IHH.o LIr.o SP.o FU.o HE.o;rwa[decide_eq_true hP,if_pos hP]at h9);clear hP hq;go_wp2_with fail
        refine CC.o.mono ?_;rintro e w7 ⟨v7,rfl,⟨A7',n7',c7',rfl,s7,p7⟩,hb7⟩;have BA7:=aA (show fJ (fun q=>wr.heap.size≤q) (f+3) w7 (.agg #[.int .i64 (aW.mk 4 0 ((eF (bhB p) p.labels).map fun g=>aP f ((bR log).filter fun t=>inS g (t.headD 0)))).kind,.int .i64 (aW.mk 4 0 ((eF (bhB p) p.labels).map fun g=>aP f ((bR log).filter fun t=>inS g (t.headD 0)))).label,.slice A7' n7' c7']) (aW.mk 4 0 ((eF (bhB p) p.labels).map fun g=>aP f ((bR log).filter fun t=>inS g (t.headD 0))))from⟨A7',n7',c7',rfl,s7,p7⟩);obtain⟨kd7,hkd⟩:∃x,x=(aW.mk 4 0 ((eF (bhB p) p.labels).map fun g=>aP f ((bR log).filter fun t=>inS g (t.headD 0)))).kind:=⟨_,rfl⟩;obtain⟨lb7,hlb⟩:∃x,x=(aW.mk 4 0 ((eF (bhB p) p.labels).map fun g=>aP f ((bR log).filter fun t=>inS g (t.headD 0)))).label:=⟨_,rfl⟩;rw[←hkd,←hlb]at BA7;rw[←hkd,←hlb];have BB8:=aA (aB w7 (.cells #[.int .i64 kd7,.int .i64 lb7,.slice A7' n7' c7'] 71));have HB8:=aA (hb7.trans (BB8.o.mono hb7.size));have TS:=aA (Box.new w7 #[.int .i64 kd7,.int .i64 lb7,.slice A7' n7' c7'] 71);have BA8:=aA (BA7.o.keep BB8.o);have X8:=aA (Xr.o.keep HB8.o);clear s7 p7 hb7 hkd hlb CC;go_upto_region 16 with fail
        generalize w7.alloc (.cells #[.int .i64 kd7,.int .i64 lb7,.slice A7' n7' c7'] 71)=w8 at *
        generalize w7.heap.size=bz at *
        obtain⟨s0,s1,s2⟩:=TS.o.three;obtain⟨kd8,hkd8⟩:∃x,x=kd7:=⟨_,rfl⟩;obtain⟨lb8,hlb8⟩:∃x,x=lb7:=⟨_,rfl⟩;obtain⟨A8',hA8⟩:∃x,x=A7':=⟨_,rfl⟩;obtain⟨n8',hn8⟩:∃x,x=n7':=⟨_,rfl⟩;obtain⟨c8',hc8⟩:∃x,x=c7':=⟨_,rfl⟩;subst hkd8 hlb8 hA8 hn8 hc8;obtain⟨u0,u1,u2⟩:=X8.o.three;have fz:=fun q=>X8.o.frozen q
        have WW:=aA (d9 (w:=w) BA8.o X8.o HB8.o Dr.o Wr.o (Nat.le_refl _));go_wp2
        generalize (((w8.setCell ⟨w.heap.size,0,none⟩ (.int .i64 kd8)).setCell ⟨w.heap.size,1,none⟩ (.int .i64 lb8)).setCell ⟨w.heap.size,2,none⟩ (.slice A8' n8' c8'))=ww at *
        obtain⟨z0,z1,z2⟩:=WW.o.1.three;exact bodyPost_ret (v:=.agg #[.int .i64 kd8,.int .i64 lb8,.slice A8' n8' c8']) (by simp[results,Tryz.results83,go_sem,z0,z1,z2]) rfl (FB.o ww _ WW.o.2.1 WW.o.2.2)
       ·have NOS2:Hid ((0<1→¬2≤(eF (bhB p) p.labels).length)∧(1<1→¬Gy p)∧(2<1→¬rT p)):=aA ⟨fun _=>hP,fun h=>absurd h (by omega),fun h=>absurd h (by omega)⟩;have CC:=aA (show Calls Tryz.prog 130 #[vM A3 A1 A2 A3b A4 k c3 n1 c1 n2 c2 n3 c3b n4 c4] wr (qU (f+3) false (eV) wr)from by have h9:=oO IHH.o LIr.o SP.o FU.o HE.o;rwa[decide_eq_false hP,if_neg hP]at h9);clear hP hq;go_wp2_with fail
        refine CC.o.mono ?_;rintro e w7 ⟨v7,rfl,⟨A7',n7',c7',rfl,s7,p7⟩,hb7⟩;have BA7:=aA (show fJ (fun q=>wr.heap.size≤q) (f+3) w7 (.agg #[.int .i64 (eV).kind,.int .i64 (eV).label,.slice A7' n7' c7']) (eV)from⟨A7',n7',c7',rfl,s7,p7⟩);obtain⟨kd7,hkd⟩:∃x,x=(eV).kind:=⟨_,rfl⟩;obtain⟨lb7,hlb⟩:∃x,x=(eV).label:=⟨_,rfl⟩;rw[←hkd,←hlb]at BA7;rw[←hkd,←hlb];have BB8:=aA (aB w7 (.cells #[.int .i64 kd7,.int .i64 lb7,.slice A7' n7' c7'] 71));have HB8:=aA (hb7.trans (BB8.o.mono hb7.size));have H68:=aA (D6r.o.trans (HB8.o.mono D6r.o.size));clear s7 p7 hb7 hkd hlb CC;go_wp2
        go_roundg (gk-1)
        case measure=>exact HJ.o.1
        case rel=>exact⟨1,rfl,aA HJ.o.2,NOS2,H68⟩
      ·have y0:=RBr.o.cell 1;have HJ:=aA (show gk-1<gk∧2+(gk-1)=3 by have:=hgk.o;omega);by_cases hP:Gy p
       ·have EQ:=aA (show aP (f+1) log=zY f (bR log) p from by rw[EQ0.o,DK SP.o TWO.o (NOS.o.1 (by omega)) hP]);have FB:=aA (show ∀(w':World) (v:Value),fJ (fun j=>w.heap.size≤j) (f+3) w' v (zY f (bR log) p)→Below w.heap.size w w'→lF (f+1+2) (aP (f+1) log) w (.returned v) w' from fun w' v hb hw=>⟨v,rfl,by rw[EQ.o];exact hb,hw⟩);have CC:=aA (show Calls Tryz.prog 131 #[vM A3 A1 A2 A3b A4 k c3 n1 c1 n2 c2 n3 c3b n4 c4] wr (qU (f+3) true (zY f (bR log) p) wr)from(qV IHH.o LIr.o SP.o FU.o).mono (fun _ _ h=>h.1 hP));clear hP hq;go_wp2_with fail
        refine CC.o.mono ?_;rintro e w7 ⟨v7,rfl,⟨A7',n7',c7',rfl,s7,p7⟩,hb7⟩;have BA7:=aA (show fJ (fun q=>wr.heap.size≤q) (f+3) w7 (.agg #[.int .i64 (zY f (bR log) p).kind,.int .i64 (zY f (bR log) p).label,.slice A7' n7' c7']) (zY f (bR log) p)from⟨A7',n7',c7',rfl,s7,p7⟩);obtain⟨kd7,hkd⟩:∃x,x=(zY f (bR log) p).kind:=⟨_,rfl⟩;obtain⟨lb7,hlb⟩:∃x,x=(zY f (bR log) p).label:=⟨_,rfl⟩;rw[←hkd,←hlb]at BA7;rw[←hkd,←hlb];have BB8:=aA (aB w7 (.cells #[.int .i64 kd7,.int .i64 lb7,.slice A7' n7' c7'] 71));have HB8:=aA (hb7.trans (BB8.o.mono hb7.size));have TS:=aA (Box.new w7 #[.int .i64 kd7,.int .i64 lb7,.slice A7' n7' c7'] 71);have BA8:=aA (BA7.o.keep BB8.o);have X8:=aA (Xr.o.keep HB8.o);clear s7 p7 hb7 hkd hlb CC;go_upto_region 16 with fail
        generalize w7.alloc (.cells #[.int .i64 kd7,.int .i64 lb7,.slice A7' n7' c7'] 71)=w8 at *
        generalize w7.heap.size=bz at *
        obtain⟨s0,s1,s2⟩:=TS.o.three;obtain⟨kd8,hkd8⟩:∃x,x=kd7:=⟨_,rfl⟩;obtain⟨lb8,hlb8⟩:∃x,x=lb7:=⟨_,rfl⟩;obtain⟨A8',hA8⟩:∃x,x=A7':=⟨_,rfl⟩;obtain⟨n8',hn8⟩:∃x,x=n7':=⟨_,rfl⟩;obtain⟨c8',hc8⟩:∃x,x=c7':=⟨_,rfl⟩;subst hkd8 hlb8 hA8 hn8 hc8;obtain⟨u0,u1,u2⟩:=X8.o.three;have fz:=fun q=>X8.o.frozen q
        have WW:=aA (d9 (w:=w) BA8.o X8.o HB8.o Dr.o Wr.o (Nat.le_refl _));go_wp2
        generalize (((w8.setCell ⟨w.heap.size,0,none⟩ (.int .i64 kd8)).setCell ⟨w.heap.size,1,none⟩ (.int .i64 lb8)).setCell ⟨w.heap.size,2,none⟩ (.slice A8' n8' c8'))=ww at *
        obtain⟨z0,z1,z2⟩:=WW.o.1.three;exact bodyPost_ret (v:=.agg #[.int .i64 kd8,.int .i64 lb8,.slice A8' n8' c8']) (by simp[results,Tryz.results83,go_sem,z0,z1,z2]) rfl (FB.o ww _ WW.o.2.1 WW.o.2.2)
       ·have NOS2:Hid ((0<2→¬2≤(eF (bhB p) p.labels).length)∧(1<2→¬Gy p)∧(2<2→¬rT p)):=aA ⟨fun _=>NOS.o.1 (by omega),fun _=>hP,fun h=>absurd h (by omega)⟩;have CC:=aA (show Calls Tryz.prog 131 #[vM A3 A1 A2 A3b A4 k c3 n1 c1 n2 c2 n3 c3b n4 c4] wr (qU (f+3) false (eV) wr)from(qV IHH.o LIr.o SP.o FU.o).mono (fun _ _ h=>h.2 hP));clear hP hq;go_wp2_with fail
        refine CC.o.mono ?_;rintro e w7 ⟨v7,rfl,⟨A7',n7',c7',rfl,s7,p7⟩,hb7⟩;have BA7:=aA (show fJ (fun q=>wr.heap.size≤q) (f+3) w7 (.agg #[.int .i64 (eV).kind,.int .i64 (eV).label,.slice A7' n7' c7']) (eV)from⟨A7',n7',c7',rfl,s7,p7⟩);obtain⟨kd7,hkd⟩:∃x,x=(eV).kind:=⟨_,rfl⟩;obtain⟨lb7,hlb⟩:∃x,x=(eV).label:=⟨_,rfl⟩;rw[←hkd,←hlb]at BA7;rw[←hkd,←hlb];have BB8:=aA (aB w7 (.cells #[.int .i64 kd7,.int .i64 lb7,.slice A7' n7' c7'] 71));have HB8:=aA (hb7.trans (BB8.o.mono hb7.size));have H68:=aA (D6r.o.trans (HB8.o.mono D6r.o.size));clear s7 p7 hb7 hkd hlb CC;go_wp2
        go_roundg (gk-1)
        case measure=>exact HJ.o.1
        case rel=>exact⟨2,rfl,aA HJ.o.2,NOS2,H68⟩
      ·have y0:=RBr.o.cell 2;have HJ:=aA (show gk-1<gk∧3+(gk-1)=3 by have:=hgk.o;omega);by_cases hP:rT p
       ·have EQ:=aA (show aP (f+1) log=mZ f (bR log) p from by rw[EQ0.o,La SP.o TWO.o (NOS.o.1 (by omega)) (NOS.o.2.1 (by omega)) hP]);have FB:=aA (show ∀(w':World) (v:Value),fJ (fun j=>w.heap.size≤j) (f+3) w' v (mZ f (bR log) p)→Below w.heap.size w w'→lF (f+1+2) (aP (f+1) log) w (.returned v) w' from fun w' v hb hw=>⟨v,rfl,by rw[EQ.o];exact hb,hw⟩);have CC:=aA (show Calls Tryz.prog 132 #[vM A3 A1 A2 A3b A4 k c3 n1 c1 n2 c2 n3 c3b n4 c4] wr (qU (f+3) true (mZ f (bR log) p) wr)from(oP IHH.o LIr.o SP.o FU.o).mono (fun _ _ h=>h.1 hP));clear hP hq;go_wp2_with fail
        refine CC.o.mono ?_;rintro e w7 ⟨v7,rfl,⟨A7',n7',c7',rfl,s7,p7⟩,hb7⟩;have BA7:=aA (show fJ (fun q=>wr.heap.size≤q) (f+3) w7 (.agg #[.int .i64 (mZ f (bR log) p).kind,.int .i64 (mZ f (bR log) p).label,.slice A7' n7' c7']) (mZ f (bR log) p)from⟨A7',n7',c7',rfl,s7,p7⟩);obtain⟨kd7,hkd⟩:∃x,x=(mZ f (bR log) p).kind:=⟨_,rfl⟩;obtain⟨lb7,hlb⟩:∃x,x=(mZ f (bR log) p).label:=⟨_,rfl⟩;rw[←hkd,←hlb]at BA7;rw[←hkd,←hlb];have BB8:=aA (aB w7 (.cells #[.int .i64 kd7,.int .i64 lb7,.slice A7' n7' c7'] 71));have HB8:=aA (hb7.trans (BB8.o.mono hb7.size));have TS:=aA (Box.new w7 #[.int .i64 kd7,.int .i64 lb7,.slice A7' n7' c7'] 71);have BA8:=aA (BA7.o.keep BB8.o);have X8:=aA (Xr.o.keep HB8.o);clear s7 p7 hb7 hkd hlb CC;go_upto_region 16 with fail
        generalize w7.alloc (.cells #[.int .i64 kd7,.int .i64 lb7,.slice A7' n7' c7'] 71)=w8 at *
        generalize w7.heap.size=bz at *
        obtain⟨s0,s1,s2⟩:=TS.o.three;obtain⟨kd8,hkd8⟩:∃x,x=kd7:=⟨_,rfl⟩;obtain⟨lb8,hlb8⟩:∃x,x=lb7:=⟨_,rfl⟩;obtain⟨A8',hA8⟩:∃x,x=A7':=⟨_,rfl⟩;obtain⟨n8',hn8⟩:∃x,x=n7':=⟨_,rfl⟩;obtain⟨c8',hc8⟩:∃x,x=c7':=⟨_,rfl⟩;subst hkd8 hlb8 hA8 hn8 hc8;obtain⟨u0,u1,u2⟩:=X8.o.three;have fz:=fun q=>X8.o.frozen q
        have WW:=aA (d9 (w:=w) BA8.o X8.o HB8.o Dr.o Wr.o (Nat.le_refl _));go_wp2
        generalize (((w8.setCell ⟨w.heap.size,0,none⟩ (.int .i64 kd8)).setCell ⟨w.heap.size,1,none⟩ (.int .i64 lb8)).setCell ⟨w.heap.size,2,none⟩ (.slice A8' n8' c8'))=ww at *
        obtain⟨z0,z1,z2⟩:=WW.o.1.three;exact bodyPost_ret (v:=.agg #[.int .i64 kd8,.int .i64 lb8,.slice A8' n8' c8']) (by simp[results,Tryz.results83,go_sem,z0,z1,z2]) rfl (FB.o ww _ WW.o.2.1 WW.o.2.2)
       ·have NOS2:Hid ((0<3→¬2≤(eF (bhB p) p.labels).length)∧(1<3→¬Gy p)∧(2<3→¬rT p)):=aA ⟨fun _=>NOS.o.1 (by omega),fun _=>NOS.o.2.1 (by omega),fun _=>hP⟩;have CC:=aA (show Calls Tryz.prog 132 #[vM A3 A1 A2 A3b A4 k c3 n1 c1 n2 c2 n3 c3b n4 c4] wr (qU (f+3) false (eV) wr)from(oP IHH.o LIr.o SP.o FU.o).mono (fun _ _ h=>h.2 hP));clear hP hq;go_wp2_with fail
        refine CC.o.mono ?_;rintro e w7 ⟨v7,rfl,⟨A7',n7',c7',rfl,s7,p7⟩,hb7⟩;have BA7:=aA (show fJ (fun q=>wr.heap.size≤q) (f+3) w7 (.agg #[.int .i64 (eV).kind,.int .i64 (eV).label,.slice A7' n7' c7']) (eV)from⟨A7',n7',c7',rfl,s7,p7⟩);obtain⟨kd7,hkd⟩:∃x,x=(eV).kind:=⟨_,rfl⟩;obtain⟨lb7,hlb⟩:∃x,x=(eV).label:=⟨_,rfl⟩;rw[←hkd,←hlb]at BA7;rw[←hkd,←hlb];have BB8:=aA (aB w7 (.cells #[.int .i64 kd7,.int .i64 lb7,.slice A7' n7' c7'] 71));have HB8:=aA (hb7.trans (BB8.o.mono hb7.size));have H68:=aA (D6r.o.trans (HB8.o.mono D6r.o.size));clear s7 p7 hb7 hkd hlb CC;go_wp2
        go_roundg (gk-1)
        case measure=>exact HJ.o.1
        case rel=>exact⟨3,rfl,aA HJ.o.2,NOS2,H68⟩
     ·obtain rfl:q=3:=by have:=hgk.o;omega
      have EQ:=aA (show aP (f+1) log=.mk 6 0 [aR,.mk 4 0 (p.labels.map bS)]from by rw[EQ0.o,Lc SP.o TWO.o (NOS.o.1 (by omega)) (NOS.o.2.1 (by omega)) (NOS.o.2.2 (by omega))]);have FB:=aA (show ∀(w':World) (v:Value),fJ (fun j=>w.heap.size≤j) (f+3) w' v (.mk 6 0 [aR,.mk 4 0 (p.labels.map bS)])→Below w.heap.size w w'→lF (f+1+2) (aP (f+1) log) w (.returned v) w' from fun w' v hb hw=>⟨v,rfl,by rw[EQ.o];exact hb,hw⟩);have x1:=((TB6.o.keep D6r.o).cell 1);clear hq hgk NOS;obtain⟨wE,hwE⟩:∃x:World,x=wr:=⟨_,rfl⟩;subst hwE;obtain⟨go,hgo⟩:∃x:Nat,x=gk:=⟨_,rfl⟩;subst hgo;go_wp2
      go_loopg [10,76] n1 (fun gk s10 s76 wr=>∃v j,v=s10∧s76=.int .i64 (j:Nat)∧Hid (j+gk=n1)∧Hid (j4 wr wE.heap.size (f+2) v j ((p.labels.take j).map bS))∧Hid (Below wE.heap.size wE wr))
      case atStart=>exact⟨_,0,rfl,rfl,aA (by omega),aA aC.nil,aA (Below.refl _ _)⟩
      case round =>
       obtain⟨v,j,rfl,rfl,hgk,OB,DB⟩:=hrel;by_cases hj:j<n1
       ·have hji:(j:Int)<(n1:Int):=by omega
        obtain⟨b1,off1,a,rfl,hb1,ha,q1⟩:=aJ.get (LIr.o.ip.i1.keep DB.o) hj;have HJ:=aA (show gk-1<gk∧(j+1)+(gk-1)=n1∧j≤26 by have:=hgk.o;have:=LN.o;omega);have hwj:IntKind.i64.wrap ((j:Int)+1)=((j+1:Nat):Int):=by
         have:=HJ.o;simp[IntKind.wrap,IntKind.bits,IntKind.signed];omega
        have CS:=aA (yF wr (f+1) a);clear hb1;go_wp2_with fail
        refine CS.o.mono ?_;rintro e w7 ⟨v7,rfl,⟨A7',n7',c7',rfl,s7,p7⟩,hb7⟩;have KO:=aA (Pj OB.o DB.o.size s7 p7);have OB3:=aA (OB.o.keep hb7);have D3:=aA (DB.o.trans (hb7.mono DB.o.size));have hB3:=D3.o.size;have hj1:j≤100:=by have:=HJ.o;omega
        have TK:=aA (show(p.labels.take (j+1)).map bS=(p.labels.take j).map bS++[bS a] by rw[List.take_add_one,ha.o];simp);obtain⟨kd3,hkd⟩:∃x,x=(bS a).kind:=⟨_,rfl⟩;obtain⟨lb3,hlb⟩:∃x,x=(bS a).label:=⟨_,rfl⟩;rw[←hkd,←hlb];have HKL:=aA (And.intro hkd hlb);clear s7 p7 hb7 OB hkd hlb CS q1;go_wp2_with (at_builtin;refine lQ rfl _ _ rfl rfl rfl rfl OB3.o HKL.o.1 HKL.o.2 KO.o.1 KO.o.2 hB3 hj1 ?_;intro v8 w8 own8 hg8;have O8:=aA own8;have D8:=aA (D3.o.grown hg8 hB3 (fun k hk=>(OB3.o.lt k hk).1)))
        go_roundg (gk-1)
        case measure=>exact HJ.o.1
        case rel=>exact⟨v8,j+1,rfl,rfl,aA HJ.o.2.1,aA (by rw[TK.o];exact O8.o),D8⟩
       ·have hji:¬(j:Int)<(n1:Int):=by omega
        have OF:=aA (show j4 wr wE.heap.size (f+2) v j (p.labels.map bS)from by
         have:=OB.o;rwa[List.take_of_length_le (by have:=LN.o.1;omega)]at this)
        obtain⟨AK,cK,rfl,sK,pK⟩:=OF.o.sl2 (by have:=LN.o;have:=hgk.o;omega);have SK:=aA (And.intro sK pK);have CS:=aA (j5 wr (f+2));have HEr:=aA DB.o;clear sK pK OB hj hgk;go_wp2_with fail
        refine CS.o.mono ?_;rintro e w4 ⟨v4,rfl,⟨A4',n4',c4',rfl,s4,p4⟩,hb4⟩;have BA4:=aA (show fJ (fun q=>wr.heap.size≤q) (f+2) w4 (.agg #[.int .i64 (aR).kind,.int .i64 (aR).label,.slice A4' n4' c4']) (aR)from⟨A4',n4',c4',rfl,s4,p4⟩);obtain⟨kd4,hkd⟩:∃x,x=(aR).kind:=⟨_,rfl⟩;obtain⟨lb4,hlb⟩:∃x,x=(aR).label:=⟨_,rfl⟩;rw[←hkd,←hlb]at BA4;rw[←hkd,←hlb];have HB4:=aA hb4;clear s4 p4 hb4 hkd hlb;have HE4:=aA (HEr.o.trans (HB4.o.mono HEr.o.size));have CB:=aA (gR 4 (SK.o.1.keep (oM.kept _ _) HB4.o) SK.o.2 HE4.o);clear CS;go_wp2_with fail
        refine CB.o.mono ?_;rintro e w5b ⟨⟨v5,rfl,⟨A5',n5',c5',rfl,s5,p5⟩,hb5⟩,hb5b⟩;have BA5:=aA (show fJ (fun q=>wE.heap.size≤q) (f+2) w5b (.agg #[.int .i64 (aW.mk 4 0 (p.labels.map bS)).kind,.int .i64 (aW.mk 4 0 (p.labels.map bS)).label,.slice A5' n5' c5']) (.mk 4 0 (p.labels.map bS))from⟨A5',n5',c5',rfl,s5,p5⟩);obtain⟨kd5,hkd⟩:∃x,x=(aW.mk 4 0 (p.labels.map bS)).kind:=⟨_,rfl⟩;obtain⟨lb5,hlb⟩:∃x,x=(aW.mk 4 0 (p.labels.map bS)).label:=⟨_,rfl⟩;rw[←hkd,←hlb]at BA5;rw[←hkd,←hlb];have HE5:=aA hb5;have BA4b:=aA ((BA4.o.of_ans HEr.o).keep hb5b);have RW:=aA (Gz BA4b.o BA5.o);have BR:=aA (aB w5b (.cells #[.int .i64 kd4,.int .i64 lb4,.slice A4' n4' c4',.int .i64 kd5,.int .i64 lb5,.slice A5' n5' c5'] 71));have HE6:=aA (HE5.o.trans (BR.o.mono HE5.o.size));have CB2:=aA (gR 6 RW.o (fun _ a ha=>by injection ha with ha;subst ha;exact HE5.o.size) HE6.o);clear s5 p5 hb5 hb5b hkd hlb CB;go_wp2_with fail
        generalize w5b.alloc (.cells #[.int .i64 kd4,.int .i64 lb4,.slice A4' n4' c4',.int .i64 kd5,.int .i64 lb5,.slice A5' n5' c5'] 71)=w5c at *
        refine CB2.o.mono ?_;rintro e w10 ⟨⟨v10,rfl,⟨A10',n10',c10',rfl,s10,p10⟩,hb10⟩,hb11⟩;have BA10:=aA (show fJ (fun q=>wE.heap.size≤q) (f+3) w10 (.agg #[.int .i64 (aW.mk 6 0 [aR,.mk 4 0 (p.labels.map bS)]).kind,.int .i64 (aW.mk 6 0 [aR,.mk 4 0 (p.labels.map bS)]).label,.slice A10' n10' c10']) (.mk 6 0 [aR,.mk 4 0 (p.labels.map bS)])from⟨A10',n10',c10',rfl,s10,p10⟩);obtain⟨kd10,hkd⟩:∃x,x=(aW.mk 6 0 [aR,.mk 4 0 (p.labels.map bS)]).kind:=⟨_,rfl⟩;obtain⟨lb10,hlb⟩:∃x,x=(aW.mk 6 0 [aR,.mk 4 0 (p.labels.map bS)]).label:=⟨_,rfl⟩;rw[←hkd,←hlb]at BA10;rw[←hkd,←hlb];have HB10:=aA hb10;have X10:=aA (Xr.o.keep hb10);clear s10 p10 hb10 hb11 hkd hlb;obtain⟨u0,u1,u2⟩:=X10.o.three;have fz:=fun q=>X10.o.frozen q
        have WW:=aA (d9 (w:=w) BA10.o X10.o HB10.o Dr.o Wr.o (Nat.le_refl _));go_wp2
        generalize (((w10.setCell ⟨w.heap.size,0,none⟩ (.int .i64 kd10)).setCell ⟨w.heap.size,1,none⟩ (.int .i64 lb10)).setCell ⟨w.heap.size,2,none⟩ (.slice A10' n10' c10'))=ww at *
        obtain⟨z0,z1,z2⟩:=WW.o.1.three;exact bodyPost_ret (v:=.agg #[.int .i64 kd10,.int .i64 lb10,.slice A10' n10' c10']) (by simp[results,Tryz.results83,go_sem,z0,z1,z2]) rfl (FB.o ww _ WW.o.2.1 WW.o.2.2)
theorem Uj:∀f,vN f
 | 0=>fun w A n c log h hf=>by
  have hp:cZ log (Xe log 26 26 26 26 0):=by
   have:=(yE hf.1).2;rwa[if_pos hf.1]at this
  have:=hf.2 _ hp;omega
 | f+1=>GH (Uj f)
end Go.Proofs.YtfmnagcglhlicaaGreat
