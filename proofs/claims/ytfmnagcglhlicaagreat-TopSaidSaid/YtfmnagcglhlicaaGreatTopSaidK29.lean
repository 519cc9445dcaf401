/- mine's find. Conditions: the log reads as lists, nothing is wrong with it, the fuel is enough. -/
import Derived.Test.YtfmnagcglhlicaaGreatTopSaidK28
set_option maxRecDepth 100000
namespace Go.Proofs.YtfmnagcglhlicaaGreat
open Go.RowKit Go.Maps
section
variable {f:Nat} {log full:List (List Int)} {p:Zas}
theorem Zpa (h:(ZaM log).length=0):Zao (f+1) log=Zaq:=by rw[Zao,if_pos h]
theorem Zpb (h0:(ZaM log).length≠0)(h:(ZaM log).length<log.length):Zao (f+1) log=.mk 4 0 [Zaq,Zao f (ZaM log)]:=by rw[Zao,if_neg h0,if_pos h]
theorem ZeJ (h0:(ZaM log).length≠0)(h:¬(ZaM log).length<log.length):Zao (f+1) log=ZfE (Zao f) (ZaM log):=by rw[Zao,if_neg h0,if_neg h]
variable (hp:Zbc full p)
include hp
theorem ZnE (h1:p.labels.length=1)(hv:full.any (fun t=>decide (1<t.length))=true):ZfE (Zao f) full=.mk 6 0 [ZaN (p.labels.headD 0),Zaq]:=by
 unfold ZfE;rw[ZeH hp,if_pos h1,if_pos hv]
theorem ZiL (h1:p.labels.length=1)(hv:full.any (fun t=>decide (1<t.length))=false):ZfE (Zao f) full=ZaN (p.labels.headD 0):=by
 unfold ZfE;rw[ZeH hp,if_pos h1,if_neg (by rw[hv];exact fun h=>nomatch h)]
theorem ZgA (h1:p.labels.length≠1)(h:2≤(ZbG (bhB p) p.labels).length):ZfE (Zao f) full=.mk 4 0 ((ZbG (bhB p) p.labels).map fun g=>Zao f (full.filter fun t=>inS g (t.headD 0))):=by
 unfold ZfE;rw[ZeH hp,if_neg h1,if_pos h]
theorem Zkl (h1:p.labels.length≠1)(h:¬2≤(ZbG (bhB p) p.labels).length)(h2:ZlG p):ZfE (Zao f) full=Zjr f full p:=by
 unfold ZfE;rw[ZeH hp,if_neg h1,if_neg h,if_pos (show 2≤(ZbG (ZbE (Zcq p)) p.labels).length from h2)];rfl
theorem ZnF (h1:p.labels.length≠1)(h:¬2≤(ZbG (bhB p) p.labels).length)(h2:¬ZlG p)(h3:Zf7 p):ZfE (Zao f) full=Zes f full p:=by
 unfold ZfE;rw[ZeH hp,if_neg h1,if_neg h,if_neg (show ¬2≤(ZbG (ZbE (Zcq p)) p.labels).length from h2),if_pos (show 2≤(ZbG (Zeo p) p.labels).length∧((ZbG (Zeo p) p.labels).all fun g=>ZeP g p.first&&ZeP g p.last)=true from h3)];rfl
theorem ZnG (h1:p.labels.length≠1)(h:¬2≤(ZbG (bhB p) p.labels).length)(h2:¬ZlG p)(h3:¬Zf7 p):ZfE (Zao f) full=.mk 6 0 [Zaq,.mk 4 0 (p.labels.map ZaN)]:=by
 unfold ZfE;rw[ZeH hp,if_neg h1,if_neg h,if_neg (show ¬2≤(ZbG (ZbE (Zcq p)) p.labels).length from h2),if_neg (show ¬(2≤(ZbG (Zeo p) p.labels).length∧((ZbG (Zeo p) p.labels).all fun g=>ZeP g p.first&&ZeP g p.last)=true)from h3)]
end
theorem Zb6.flat {P:Nat→Prop}{w:World}{d d':Nat}{v:Value}{T:Zat}(h:Zb6 P d w v T)(hT:T.kids=[]):Zb6 P d' w v T:=by
 obtain⟨A,n,c,e,s,p⟩:=h
 have hn:n=0:=by rw[←s.len,hT];rfl
 exact⟨A,n,c,e,⟨s.len,s.le,s.cap,s.small,s.nul,fun h=>absurd h (by omega)⟩,p⟩
theorem Zb6.of_ans {w w0 w':World}{d:Nat}{v:Value}{T:Zat}(h:Zb6 (fun k=>w.heap.size≤k) d w' v T)(hb:Below w0.heap.size w0 w):Zb6 (fun k=>w0.heap.size≤k) d w' v T:=h.wide (fun _ _ hk=>Nat.le_trans hb.size hk)
set_option maxHeartbeats 8000000 in
theorem ZlJ {f:Nat}(IH:ZhG f):ZhG (f+1):=fun w A n c log h hf=>by
 have IHH:=Zaa IH
 have HF:=Zaa hf
 have NN:=Zaa (show n≤60 by rw[←h.len];exact hf.n)
 have HL:=Zaa h.len
 have B0:=Zaa (Zab w (.cells #[.int .i64 0,.int .i64 0,.slice none 0 0] 71))
 have X0:=Zaa (Box.new w #[.int .i64 0,.int .i64 0,.slice none 0 0] 71)
 have CC:=Zaa (Zd4 (Sl.keep ZaL.kept h B0.out) (by have:=NN.out;omega))
 clear h hf IH
 go_enter Tryz.func83,Tryz.ntmps83
 go_upto_region 1 with fail
 generalize w.alloc (.cells #[.int .i64 0,.int .i64 0,.slice none 0 0] 71)=w1 at *
 go_wp2_with fail
 refine CC.out.mono ?_
 rintro e w2 ⟨v2,rfl,ow2,hb2⟩
 have hl2:=ow2.lt
 have CD:=Zaa (ZiJ (F:=123) (cv:=#[]) (q:=ZeW) ow2 (by have:=NN.out;omega) (Nat.le_refl _) (fun args w=>by kernel_rfl) (fun gr _=>Zny w2 gr log))
 have B2:=Zaa hb2
 have HL2:=Zaa hl2
 clear ow2 hb2 hl2 CC
 go_wp2_with fail
 refine CD.out.mono ?_
 rintro e w3 ⟨A3,k,c3,rfl,ow3,hg3⟩
 rw[show(log.filter fun a=>!ZeW a)=ZaM log from rfl]at ow3
 have D3:=Zaa (show Below w1.heap.size w1 w3 from B2.out.grown hg3 B2.out.size (fun q hq=>(HL2.out q hq).1))
 have KL:=Zaa (show(ZaM log).length=k from ow3.len)
 have KN:=Zaa (show k≤60 by rw[←KL.out];exact Nat.le_trans (List.length_filter_le _ _) HF.out.n)
 obtain⟨A4,c4,e4,il4⟩:=ZeV.lists ow3 (by have:=KN.out;omega)
 injection e4 with e41 _ e42
 subst e41 e42
 have IL:=Zaa il4
 have D0:=Zaa (B0.out.trans (D3.out.mono B0.out.size))
 have X3:=Zaa (X0.out.keep D3.out)
 have W1:=Zaa (show w.heap.size<w1.heap.size from X0.out.lt)
 clear ow3 hg3 il4 CD
 by_cases hk0:k=0
 ·have EQ:=Zaa (Zpa (f:=f) (log:=log) (by rw[KL.out];exact hk0))
  have CS:=Zaa (Zdg w3 (f+3))
  have hki:((k:Int)==0)=true:=by simp[hk0]
  have FB:=Zaa (show ∀(w':World) (v:Value),Zb6 (fun j=>w.heap.size≤j) (f+3) w' v (Zaq)→Below w.heap.size w w'→ZdE (f+1+2) (Zao (f+1) log) w (.returned v) w' from fun w' v hb hw=>⟨v,rfl,by rw[EQ.out];exact hb,hw⟩)
  clear hk0
  go_wp2_with fail
  refine CS.out.mono ?_
  rintro e w4 ⟨v4,rfl,⟨A4',n4',c4',rfl,s4,p4⟩,hb4⟩
  have BA4:=Zaa (show Zb6 (fun q=>w3.heap.size≤q) (f+3) w4 (.agg #[.int .i64 (Zaq).kind,.int .i64 (Zaq).label,.slice A4' n4' c4']) (Zaq)from⟨A4',n4',c4',rfl,s4,p4⟩)
  obtain⟨kd4,hkd⟩:∃x,x=(Zaq).kind:=⟨_,rfl⟩
  obtain⟨lb4,hlb⟩:∃x,x=(Zaq).label:=⟨_,rfl⟩
  rw[←hkd,←hlb]at BA4
  rw[←hkd,←hlb]
  have HB4:=Zaa hb4
  clear s4 p4 hb4 hkd hlb
  have X4:=Zaa (X3.out.keep HB4.out)
  obtain⟨u0,u1,u2⟩:=X4.out.three
  have fz:=fun q=>X4.out.frozen q
  have WW:=Zaa (Zbz (w:=w) BA4.out X4.out HB4.out D0.out (Nat.lt_of_lt_of_le W1.out D3.out.size) (Nat.le_refl _))
  go_wp2
  generalize (((w4.setCell ⟨w.heap.size,0,none⟩ (.int .i64 kd4)).setCell ⟨w.heap.size,1,none⟩ (.int .i64 lb4)).setCell ⟨w.heap.size,2,none⟩ (.slice A4' n4' c4'))=ww at *
  obtain⟨z0,z1,z2⟩:=WW.out.1.three
  exact bodyPost_ret (v:=.agg #[.int .i64 kd4,.int .i64 lb4,.slice A4' n4' c4']) (by simp[results,Tryz.results83,go_sem,z0,z1,z2]) rfl (FB.out ww _ WW.out.2.1 WW.out.2.2)
 ·have hki:((k:Int)==0)=false:=by simp;omega
  have HK0:=Zaa (show(ZaM log).length≠0 by rw[KL.out];exact hk0)
  clear hk0
  by_cases hkn:k<n
  ·have EQ:=Zaa (Zpb (f:=f) HK0.out (by rw[KL.out,HL.out];exact hkn))
   have FB:=Zaa (show ∀(w':World) (v:Value),Zb6 (fun j=>w.heap.size≤j) (f+3) w' v (.mk 4 0 [Zaq,Zao f (ZaM log)])→Below w.heap.size w w'→ZdE (f+1+2) (Zao (f+1) log) w (.returned v) w' from fun w' v hb hw=>⟨v,rfl,by rw[EQ.out];exact hb,hw⟩)
   have CS:=Zaa (Zdg w3 (f+2))
   have FF:=Zaa (HF.out.full (by rw[KL.out,HL.out];exact hkn))
   have hkni:(k:Int)<(n:Int):=by omega
   clear hkn
   go_wp2_with fail
   refine CS.out.mono ?_
   rintro e w4 ⟨v4,rfl,⟨A4',n4',c4',rfl,s4,p4⟩,hb4⟩
   have BA4:=Zaa (show Zb6 (fun q=>w3.heap.size≤q) (f+2) w4 (.agg #[.int .i64 (Zaq).kind,.int .i64 (Zaq).label,.slice A4' n4' c4']) (Zaq)from⟨A4',n4',c4',rfl,s4,p4⟩)
   obtain⟨kd4,hkd⟩:∃x,x=(Zaq).kind:=⟨_,rfl⟩
   obtain⟨lb4,hlb⟩:∃x,x=(Zaq).label:=⟨_,rfl⟩
   rw[←hkd,←hlb]at BA4
   rw[←hkd,←hlb]
   have HB4:=Zaa hb4
   clear s4 p4 hb4 hkd hlb
   have CF:=Zaa (IHH.out w4 A3 k c3 (ZaM log) (Sl.keep ZaL.kept IL.out HB4.out) FF.out)
   go_wp2_with fail
   refine CF.out.mono ?_
   rintro e w5 ⟨v5,rfl,⟨A5',n5',c5',rfl,s5,p5⟩,hb5⟩
   have BA5:=Zaa (show Zb6 (fun q=>w4.heap.size≤q) (f+2) w5 (.agg #[.int .i64 (Zao f (ZaM log)).kind,.int .i64 (Zao f (ZaM log)).label,.slice A5' n5' c5']) (Zao f (ZaM log))from⟨A5',n5',c5',rfl,s5,p5⟩)
   obtain⟨kd5,hkd⟩:∃x,x=(Zao f (ZaM log)).kind:=⟨_,rfl⟩
   obtain⟨lb5,hlb⟩:∃x,x=(Zao f (ZaM log)).label:=⟨_,rfl⟩
   rw[←hkd,←hlb]at BA5
   rw[←hkd,←hlb]
   have HB5:=Zaa hb5
   clear s5 p5 hb5 hkd hlb
   have H35:=Zaa (HB4.out.trans (HB5.out.mono HB4.out.size))
   have RW:=Zaa (ZlH (BA4.out.keep HB5.out) (BA5.out.of_ans HB4.out))
   have BR:=Zaa (Zab w5 (.cells #[.int .i64 kd4,.int .i64 lb4,.slice A4' n4' c4',.int .i64 kd5,.int .i64 lb5,.slice A5' n5' c5'] 71))
   have H36:=Zaa (H35.out.trans (BR.out.mono H35.out.size))
   have CB:=Zaa (Zcr 4 RW.out (fun _ a ha=>by injection ha with ha;subst ha;exact H35.out.size) H36.out)
   go_wp2_with fail
   generalize w5.alloc (.cells #[.int .i64 kd4,.int .i64 lb4,.slice A4' n4' c4',.int .i64 kd5,.int .i64 lb5,.slice A5' n5' c5'] 71)=w5b at *
   refine CB.out.mono ?_
   rintro e w6 ⟨h6,_⟩
   obtain⟨v6,rfl,⟨A6',n6',c6',rfl,s6,p6⟩,hb6⟩:=h6
   have BA6:=Zaa (show Zb6 (fun q=>w3.heap.size≤q) (f+3) w6 (.agg #[.int .i64 (Zat.mk 4 0 [Zaq,Zao f (ZaM log)]).kind,.int .i64 (Zat.mk 4 0 [Zaq,Zao f (ZaM log)]).label,.slice A6' n6' c6']) (.mk 4 0 [Zaq,Zao f (ZaM log)])from⟨A6',n6',c6',rfl,s6,p6⟩)
   generalize (Zat.mk 4 0 [Zaq,Zao f (ZaM log)]).kind=kd6 at *
   generalize (Zat.mk 4 0 [Zaq,Zao f (ZaM log)]).label=lb6 at *
   have HB6:=Zaa hb6
   clear s6 p6 hb6
   have X6:=Zaa (X3.out.keep HB6.out)
   obtain⟨u0,u1,u2⟩:=X6.out.three
   have fz:=fun q=>X6.out.frozen q
   have WW:=Zaa (Zbz (w:=w) BA6.out X6.out HB6.out D0.out (Nat.lt_of_lt_of_le W1.out D3.out.size) (Nat.le_refl _))
   go_wp2
   generalize (((w6.setCell ⟨w.heap.size,0,none⟩ (.int .i64 kd6)).setCell ⟨w.heap.size,1,none⟩ (.int .i64 lb6)).setCell ⟨w.heap.size,2,none⟩ (.slice A6' n6' c6'))=ww at *
   obtain⟨z0,z1,z2⟩:=WW.out.1.three
   exact bodyPost_ret (v:=.agg #[.int .i64 kd6,.int .i64 lb6,.slice A6' n6' c6']) (by simp[results,Tryz.results83,go_sem,z0,z1,z2]) rfl (FB.out ww _ WW.out.2.1 WW.out.2.2)
  ·have EQ0:=Zaa (ZeJ (f:=f) HK0.out (by rw[KL.out,HL.out];exact hkn))
   have hkni:¬(k:Int)<(n:Int):=by omega
   have SAME:=Zaa (Zns (log:=log) (by rw[KL.out,HL.out];exact hkn))
   have FU:=Zaa (show ZhD (f+1) (ZaM log) by rw[SAME.out];exact HF.out)
   have HE:=Zaa (show ∀t∈ZaM log,t.length≠0 from fun t ht=>(Zeq.1 ht).2)
   have CO:=Zaa (ZnD IL.out FU.out.1)
   clear hkn
   go_wp2_with fail
   refine CO.out.mono ?_
   rintro e w4 ⟨p,A1,A2,A3b,A4,n1,c1,n2,c2,n3,c3b,n4,c4,rfl,li,sp,hb4⟩
   have SP:=Zaa sp
   have BB5:=Zaa (Zab w4 (.cells #[.slice A3 k c3,.slice A1 n1 c1,.slice A2 n2 c2,.slice A3b n3 c3b,.slice A4 n4 c4] 222))
   have H45:=Zaa (hb4.trans (BB5.out.mono hb4.size))
   have LI:=Zaa (li.keep BB5.out)
   have TB:=Zaa (Box.new w4 #[.slice A3 k c3,.slice A1 n1 c1,.slice A2 n2 c2,.slice A3b n3 c3b,.slice A4 n4 c4] 222)
   have X5:=Zaa (X3.out.keep H45.out)
   have IL5:=Zaa (Sl.keep ZaL.kept IL.out H45.out)
   have D5:=Zaa (D0.out.trans (H45.out.mono D0.out.size))
   have W5:=Zaa (show w.heap.size<(w4.alloc (.cells #[.slice A3 k c3,.slice A1 n1 c1,.slice A2 n2 c2,.slice A3b n3 c3b,.slice A4 n4 c4] 222)).heap.size from X5.out.lt)
   have LN:=Zaa (show p.labels.length=n1∧n1≤26 from⟨li.ip.i1.len,by rw[←li.ip.i1.len];exact Zep sp.1.1 (sp.lab FU.out.1)⟩)
   clear li sp hb4 CO
   go_upto_region 7 with fail
   generalize w4.alloc (.cells #[.slice A3 k c3,.slice A1 n1 c1,.slice A2 n2 c2,.slice A3b n3 c3b,.slice A4 n4 c4] 222)=w5 at *
   generalize w4.heap.size=bl at *
   have x1:=TB.out.cell 1
   by_cases hone:n1=1
   ·have ONE:=Zaa (show p.labels.length=1 by rw[LN.out.1];exact hone)
    have hni:((n1:Int)==1)=true:=by simp[hone]
    have hn0:0<n1:=by omega
    obtain⟨b1,off1,a,rfl,hb1,ha,q1⟩:=Zam.get LI.out.ip.i1 hn0
    have HA:=Zaa (show p.labels.headD 0=a from by
     have h1:=ha.out
     cases hc:p.labels with
     | nil=>rw[hc]at h1;simp at h1
     | cons x t=>rw[hc]at h1;simpa using h1)
    rw[Nat.add_zero]at q1
    have CS:=Zaa (ZiH w5 (f+2) a)
    clear hone hb1 ha
    go_wp2_with fail
    refine CS.out.mono ?_
    rintro e w6 ⟨v6,rfl,⟨A6',n6',c6',rfl,s6,p6⟩,hb6⟩
    have BA6:=Zaa (show Zb6 (fun q=>w5.heap.size≤q) (f+2) w6 (.agg #[.int .i64 (ZaN a).kind,.int .i64 (ZaN a).label,.slice A6' n6' c6']) (ZaN a)from⟨A6',n6',c6',rfl,s6,p6⟩)
    obtain⟨kd6,hkd⟩:∃x,x=(ZaN a).kind:=⟨_,rfl⟩
    obtain⟨lb6,hlb⟩:∃x,x=(ZaN a).label:=⟨_,rfl⟩
    rw[←hkd,←hlb]at BA6
    rw[←hkd,←hlb]
    have HB6:=Zaa hb6
    clear s6 p6 hb6 hkd hlb
    have BB7:=Zaa (Zab w6 (.cells #[.int .i64 kd6,.int .i64 lb6,.slice A6' n6' c6'] 71))
    have TS:=Zaa (Box.new w6 #[.int .i64 kd6,.int .i64 lb6,.slice A6' n6' c6'] 71)
    have H57:=Zaa (HB6.out.trans (BB7.out.mono HB6.out.size))
    have BA7:=Zaa (BA6.out.keep BB7.out)
    have CT:=Zaa (Zel (Sl.keep ZaL.kept IL5.out H57.out) (Znz _))
    have HBS:=Zaa (show w.heap.size≠w6.heap.size by have:=W5.out;have:=HB6.out.size;omega)
    clear x1 q1 CS
    go_upto_region 9 with fail
    generalize w6.alloc (.cells #[.int .i64 kd6,.int .i64 lb6,.slice A6' n6' c6'] 71)=w7 at *
    generalize w6.heap.size=bs at *
    obtain⟨v,hv⟩:∃v,(ZaM log).any (fun y=>decide (1<y.length))=v:=⟨_,rfl⟩
    have HV:=Zaa hv
    rw[hv]at CT
    clear hv
    cases v
    ·have EQ:=Zaa (show Zao (f+1) log=ZaN a from by rw[EQ0.out,ZiL SP.out ONE.out HV.out,HA.out])
     have FB:=Zaa (show ∀(w':World) (v:Value),Zb6 (fun j=>w.heap.size≤j) (f+3) w' v (ZaN a)→Below w.heap.size w w'→ZdE (f+1+2) (Zao (f+1) log) w (.returned v) w' from fun w' v hb hw=>⟨v,rfl,by rw[EQ.out];exact hb,hw⟩)
     go_wp2_with fail
     refine CT.out.mono ?_
     rintro e w8 ⟨rfl,hb8⟩
     have H58:=Zaa (H57.out.trans (hb8.mono H57.out.size))
     have BA8:=Zaa ((BA7.out.keep hb8).flat (d':=f+3) rfl)
     have X8:=Zaa (X5.out.keep H58.out)
     obtain⟨s0,s1,s2⟩:=(TS.out.keep hb8).three
     have HB8:=Zaa H58.out
     clear hb8 CT
     obtain⟨kd8,hkd8⟩:∃x,x=kd6:=⟨_,rfl⟩
     obtain⟨lb8,hlb8⟩:∃x,x=lb6:=⟨_,rfl⟩
     obtain⟨A8',hA8⟩:∃x,x=A6':=⟨_,rfl⟩
     obtain⟨n8',hn8⟩:∃x,x=n6':=⟨_,rfl⟩
     obtain⟨c8',hc8⟩:∃x,x=c6':=⟨_,rfl⟩
     subst hkd8 hlb8 hA8 hn8 hc8
     obtain⟨u0,u1,u2⟩:=X8.out.three
     have fz:=fun q=>X8.out.frozen q
     have WW:=Zaa (Zbz (w:=w) BA8.out X8.out HB8.out D5.out W5.out (Nat.le_refl _))
     go_wp2
     generalize (((w8.setCell ⟨w.heap.size,0,none⟩ (.int .i64 kd8)).setCell ⟨w.heap.size,1,none⟩ (.int .i64 lb8)).setCell ⟨w.heap.size,2,none⟩ (.slice A8' n8' c8'))=ww at *
     obtain⟨z0,z1,z2⟩:=WW.out.1.three
     exact bodyPost_ret (v:=.agg #[.int .i64 kd8,.int .i64 lb8,.slice A8' n8' c8']) (by simp[results,Tryz.results83,go_sem,z0,z1,z2]) rfl (FB.out ww _ WW.out.2.1 WW.out.2.2)
    ·have EQ:=Zaa (show Zao (f+1) log=.mk 6 0 [ZaN a,Zaq]from by rw[EQ0.out,ZnE SP.out ONE.out HV.out,HA.out])
     have FB:=Zaa (show ∀(w':World) (v:Value),Zb6 (fun j=>w.heap.size≤j) (f+3) w' v (.mk 6 0 [ZaN a,Zaq])→Below w.heap.size w w'→ZdE (f+1+2) (Zao (f+1) log) w (.returned v) w' from fun w' v hb hw=>⟨v,rfl,by rw[EQ.out];exact hb,hw⟩)
     go_wp2_with fail
     refine CT.out.mono ?_
     rintro e w8 ⟨rfl,hb8⟩
     have H8d:=Zaa (hb8.trans ((Below.refl w8.heap.size w8).drew.mono hb8.size))
     have H58:=Zaa (H57.out.trans (H8d.out.mono H57.out.size))
     have BA8:=Zaa (BA7.out.keep H8d.out)
     have CS2:=Zaa (Zdg w8.drew (f+2))
     obtain⟨s0,s1,s2⟩:=(TS.out.keep hb8).three
     have TS8:=Zaa (TS.out.keep H8d.out)
     have hbs:=HBS.out
     have hbs2:=Ne.symm HBS.out
     clear hb8 CT
     go_wp2_with fail
     go_region_held3 (fun w'=>w'.cell? ⟨bs,0,none⟩=some (.int .i64 kd6)∧w'.cell? ⟨bs,1,none⟩=some (.int .i64 lb6)∧w'.cell? ⟨bs,2,none⟩=some (.slice A6' n6' c6'))
      (first|go_keep)
      (first
       |(go_at_call 124;(with_reducible refine CS2.out.mono ?_);rintro e w9 ⟨v9,rfl,⟨A9',n9',c9',rfl,s9,p9⟩,hb9⟩;have BA9:=Zaa (show Zb6 (fun q=>w8.drew.heap.size≤q) (f+2) w9 (.agg #[.int .i64 (Zaq).kind,.int .i64 (Zaq).label,.slice A9' n9' c9']) (Zaq)from⟨A9',n9',c9',rfl,s9,p9⟩);obtain⟨kd9,hkd⟩:∃x,x=(Zaq).kind:=⟨_,rfl⟩;obtain⟨lb9,hlb⟩:∃x,x=(Zaq).label:=⟨_,rfl⟩;rw[←hkd,←hlb]at BA9;rw[←hkd,←hlb];have HB9:=Zaa hb9;clear s9 p9 hb9 hkd hlb;have RW:=Zaa (ZlH (BA8.out.keep HB9.out) (BA9.out.of_ans H58.out));have BR:=Zaa (Zab w9 (.cells #[.int .i64 kd6,.int .i64 lb6,.slice A6' n6' c6',.int .i64 kd9,.int .i64 lb9,.slice A9' n9' c9'] 71));have H59:=Zaa (H58.out.trans (HB9.out.mono H58.out.size));have H5r:=Zaa (H59.out.trans (BR.out.mono H59.out.size));have CB2:=Zaa (Zcr 6 RW.out (fun _ a ha=>by injection ha with ha;subst ha;exact H59.out.size) H5r.out);obtain⟨t0,t1,t2⟩:=(TS8.out.keep HB9.out).three)
       |(go_at_call 125;(with_reducible refine CB2.out.mono ?_);rintro e w10 ⟨⟨v10,rfl,⟨A10',n10',c10',rfl,s10,p10⟩,hb10⟩,hb11⟩;have BA10:=Zaa (show Zb6 (fun q=>w5.heap.size≤q) (f+3) w10 (.agg #[.int .i64 (Zat.mk 6 0 [ZaN a,Zaq]).kind,.int .i64 (Zat.mk 6 0 [ZaN a,Zaq]).label,.slice A10' n10' c10']) (.mk 6 0 [ZaN a,Zaq])from⟨A10',n10',c10',rfl,s10,p10⟩);obtain⟨kd10,hkd⟩:∃x,x=(Zat.mk 6 0 [ZaN a,Zaq]).kind:=⟨_,rfl⟩;obtain⟨lb10,hlb⟩:∃x,x=(Zat.mk 6 0 [ZaN a,Zaq]).label:=⟨_,rfl⟩;rw[←hkd,←hlb]at BA10;rw[←hkd,←hlb];have HB10:=Zaa hb10;obtain⟨q0,q1,q2⟩:=(TS8.out.keep (HB9.out.trans ((BR.out.trans (hb11.mono BR.out.size)).mono HB9.out.size))).three;have X10:=Zaa (X5.out.keep hb10);clear s10 p10 hb10 hb11 hkd hlb;obtain⟨u0,u1,u2⟩:=X10.out.three;have fz:=fun q=>X10.out.frozen q;have WW:=Zaa (Zbz (w:=w) BA10.out X10.out HB10.out D5.out W5.out (Nat.le_refl _))))
     go_wp2
     generalize (((w10.setCell ⟨w.heap.size,0,none⟩ (.int .i64 kd10)).setCell ⟨w.heap.size,1,none⟩ (.int .i64 lb10)).setCell ⟨w.heap.size,2,none⟩ (.slice A10' n10' c10'))=ww at *
     obtain⟨z0,z1,z2⟩:=WW.out.1.three
     exact bodyPost_ret (v:=.agg #[.int .i64 kd10,.int .i64 lb10,.slice A10' n10' c10']) (by simp[results,Tryz.results83,go_sem,z0,z1,z2]) rfl (FB.out ww _ WW.out.2.1 WW.out.2.2)
   ·have TWO:=Zaa (show p.labels.length≠1 by rw[LN.out.1];exact hone)
    have hni:((n1:Int)==1)=false:=by simp;omega
    have x0:=TB.out.cell 0
    have x2:=TB.out.cell 2
    have x3:=TB.out.cell 3
    have x4:=TB.out.cell 4
    have RB:=Zaa (Box.new w5 #[Value.func (.func 130) #[ZhF A3 A1 A2 A3b A4 k c3 n1 c1 n2 c2 n3 c3b n4 c4] #[],Value.func (.func 131) #[ZhF A3 A1 A2 A3b A4 k c3 n1 c1 n2 c2 n3 c3b n4 c4] #[],Value.func (.func 132) #[ZhF A3 A1 A2 A3b A4 k c3 n1 c1 n2 c2 n3 c3b n4 c4] #[]] 226)
    have B6:=Zaa (Zab w5 (.cells #[Value.func (.func 130) #[ZhF A3 A1 A2 A3b A4 k c3 n1 c1 n2 c2 n3 c3b n4 c4] #[],Value.func (.func 131) #[ZhF A3 A1 A2 A3b A4 k c3 n1 c1 n2 c2 n3 c3b n4 c4] #[],Value.func (.func 132) #[ZhF A3 A1 A2 A3b A4 k c3 n1 c1 n2 c2 n3 c3b n4 c4] #[]] 226))
    have LI6:=Zaa (LI.out.keep B6.out)
    have X6:=Zaa (X5.out.keep B6.out)
    have TB6:=Zaa (TB.out.keep B6.out)
    have D6:=Zaa (D5.out.trans (B6.out.mono D5.out.size))
    have W6:=Zaa (Nat.lt_of_lt_of_le W5.out B6.out.size)
    clear hone
    go_wp2
    clear x0 x1 x2 x3 x4
    generalize w5.alloc (.cells #[Value.func (.func 130) #[ZhF A3 A1 A2 A3b A4 k c3 n1 c1 n2 c2 n3 c3b n4 c4] #[],Value.func (.func 131) #[ZhF A3 A1 A2 A3b A4 k c3 n1 c1 n2 c2 n3 c3b n4 c4] #[],Value.func (.func 132) #[ZhF A3 A1 A2 A3b A4 k c3 n1 c1 n2 c2 n3 c3b n4 c4] #[]] 226)=w6 at *
    generalize w5.heap.size=br at *
    go_loopg [60] 3 (fun gk s60 wr=>∃q:Nat,s60=.int .i64 (q:Nat)∧Hid (q+gk=3)∧Hid ((0<q→¬2≤(ZbG (bhB p) p.labels).length)∧(1<q→¬ZlG p)∧(2<q→¬Zf7 p))∧Hid (Below w6.heap.size w6 wr))
    case atStart=>exact⟨0,rfl,Zaa (by omega),Zaa ⟨fun h=>absurd h (by omega),fun h=>absurd h (by omega),fun h=>absurd h (by omega)⟩,Zaa (Below.refl _ _)⟩
    case round =>
     obtain⟨q,rfl,hgk,NOS,D6r⟩:=hrel
     have LIr:=Zaa (LI6.out.keep D6r.out)
     have Xr:=Zaa (X6.out.keep D6r.out)
     have RBr:=Zaa (RB.out.keep D6r.out)
     have Dr:=Zaa (D6.out.trans (D6r.out.mono D6.out.size))
     have Wr:=Zaa (Nat.lt_of_lt_of_le W6.out D6r.out.size)
     by_cases hq:q<3
     ·rcases(show q=0∨q=1∨q=2 by omega)with rfl|rfl|rfl
      ·have y0:=RBr.out.cell 0
       have HJ:=Zaa (show gk-1<gk∧1+(gk-1)=3 by have:=hgk.out;omega)
       by_cases hP:2≤(ZbG (bhB p) p.labels).length
       ·have EQ:=Zaa (show Zao (f+1) log=Zat.mk 4 0 ((ZbG (bhB p) p.labels).map fun g=>Zao f ((ZaM log).filter fun t=>inS g (t.headD 0)))from by rw[EQ0.out,ZgA SP.out TWO.out hP])
        have FB:=Zaa (show ∀(w':World) (v:Value),Zb6 (fun j=>w.heap.size≤j) (f+3) w' v (Zat.mk 4 0 ((ZbG (bhB p) p.labels).map fun g=>Zao f ((ZaM log).filter fun t=>inS g (t.headD 0))))→Below w.heap.size w w'→ZdE (f+1+2) (Zao (f+1) log) w (.returned v) w' from fun w' v hb hw=>⟨v,rfl,by rw[EQ.out];exact hb,hw⟩)
        have CC:=Zaa (show Calls Tryz.prog 130 #[ZhF A3 A1 A2 A3b A4 k c3 n1 c1 n2 c2 n3 c3b n4 c4] wr (ZfK (f+3) true (Zat.mk 4 0 ((ZbG (bhB p) p.labels).map fun g=>Zao f ((ZaM log).filter fun t=>inS g (t.headD 0)))) wr)from by have h9:=ZeZ IHH.out LIr.out SP.out FU.out HE.out;rwa[decide_eq_true hP,if_pos hP]at h9)
        clear hP hq
        go_wp2_with fail
        refine CC.out.mono ?_
        rintro e w7 ⟨v7,rfl,⟨A7',n7',c7',rfl,s7,p7⟩,hb7⟩
        have BA7:=Zaa (show Zb6 (fun q=>wr.heap.size≤q) (f+3) w7 (.agg #[.int .i64 (Zat.mk 4 0 ((ZbG (bhB p) p.labels).map fun g=>Zao f ((ZaM log).filter fun t=>inS g (t.headD 0)))).kind,.int .i64 (Zat.mk 4 0 ((ZbG (bhB p) p.labels).map fun g=>Zao f ((ZaM log).filter fun t=>inS g (t.headD 0)))).label,.slice A7' n7' c7']) (Zat.mk 4 0 ((ZbG (bhB p) p.labels).map fun g=>Zao f ((ZaM log).filter fun t=>inS g (t.headD 0))))from⟨A7',n7',c7',rfl,s7,p7⟩)
        obtain⟨kd7,hkd⟩:∃x,x=(Zat.mk 4 0 ((ZbG (bhB p) p.labels).map fun g=>Zao f ((ZaM log).filter fun t=>inS g (t.headD 0)))).kind:=⟨_,rfl⟩
        obtain⟨lb7,hlb⟩:∃x,x=(Zat.mk 4 0 ((ZbG (bhB p) p.labels).map fun g=>Zao f ((ZaM log).filter fun t=>inS g (t.headD 0)))).label:=⟨_,rfl⟩
        rw[←hkd,←hlb]at BA7
        rw[←hkd,←hlb]
        have BB8:=Zaa (Zab w7 (.cells #[.int .i64 kd7,.int .i64 lb7,.slice A7' n7' c7'] 71))
        have HB8:=Zaa (hb7.trans (BB8.out.mono hb7.size))
        have TS:=Zaa (Box.new w7 #[.int .i64 kd7,.int .i64 lb7,.slice A7' n7' c7'] 71)
        have BA8:=Zaa (BA7.out.keep BB8.out)
        have X8:=Zaa (Xr.out.keep HB8.out)
        clear s7 p7 hb7 hkd hlb CC
        go_upto_region 16 with fail
        generalize w7.alloc (.cells #[.int .i64 kd7,.int .i64 lb7,.slice A7' n7' c7'] 71)=w8 at *
        generalize w7.heap.size=bz at *
        obtain⟨s0,s1,s2⟩:=TS.out.three
        obtain⟨kd8,hkd8⟩:∃x,x=kd7:=⟨_,rfl⟩
        obtain⟨lb8,hlb8⟩:∃x,x=lb7:=⟨_,rfl⟩
        obtain⟨A8',hA8⟩:∃x,x=A7':=⟨_,rfl⟩
        obtain⟨n8',hn8⟩:∃x,x=n7':=⟨_,rfl⟩
        obtain⟨c8',hc8⟩:∃x,x=c7':=⟨_,rfl⟩
        subst hkd8 hlb8 hA8 hn8 hc8
        obtain⟨u0,u1,u2⟩:=X8.out.three
        have fz:=fun q=>X8.out.frozen q
        have WW:=Zaa (Zbz (w:=w) BA8.out X8.out HB8.out Dr.out Wr.out (Nat.le_refl _))
        go_wp2
        generalize (((w8.setCell ⟨w.heap.size,0,none⟩ (.int .i64 kd8)).setCell ⟨w.heap.size,1,none⟩ (.int .i64 lb8)).setCell ⟨w.heap.size,2,none⟩ (.slice A8' n8' c8'))=ww at *
        obtain⟨z0,z1,z2⟩:=WW.out.1.three
        exact bodyPost_ret (v:=.agg #[.int .i64 kd8,.int .i64 lb8,.slice A8' n8' c8']) (by simp[results,Tryz.results83,go_sem,z0,z1,z2]) rfl (FB.out ww _ WW.out.2.1 WW.out.2.2)
       ·have NOS2:Hid ((0<1→¬2≤(ZbG (bhB p) p.labels).length)∧(1<1→¬ZlG p)∧(2<1→¬Zf7 p)):=Zaa ⟨fun _=>hP,fun h=>absurd h (by omega),fun h=>absurd h (by omega)⟩
        have CC:=Zaa (show Calls Tryz.prog 130 #[ZhF A3 A1 A2 A3b A4 k c3 n1 c1 n2 c2 n3 c3b n4 c4] wr (ZfK (f+3) false (ZbV) wr)from by have h9:=ZeZ IHH.out LIr.out SP.out FU.out HE.out;rwa[decide_eq_false hP,if_neg hP]at h9)
        clear hP hq
        go_wp2_with fail
        refine CC.out.mono ?_
        rintro e w7 ⟨v7,rfl,⟨A7',n7',c7',rfl,s7,p7⟩,hb7⟩
        have BA7:=Zaa (show Zb6 (fun q=>wr.heap.size≤q) (f+3) w7 (.agg #[.int .i64 (ZbV).kind,.int .i64 (ZbV).label,.slice A7' n7' c7']) (ZbV)from⟨A7',n7',c7',rfl,s7,p7⟩)
        obtain⟨kd7,hkd⟩:∃x,x=(ZbV).kind:=⟨_,rfl⟩
        obtain⟨lb7,hlb⟩:∃x,x=(ZbV).label:=⟨_,rfl⟩
        rw[←hkd,←hlb]at BA7
        rw[←hkd,←hlb]
        have BB8:=Zaa (Zab w7 (.cells #[.int .i64 kd7,.int .i64 lb7,.slice A7' n7' c7'] 71))
        have HB8:=Zaa (hb7.trans (BB8.out.mono hb7.size))
        have H68:=Zaa (D6r.out.trans (HB8.out.mono D6r.out.size))
        clear s7 p7 hb7 hkd hlb CC
        go_wp2
        go_roundg (gk-1)
        case measure=>exact HJ.out.1
        case rel=>exact⟨1,rfl,Zaa HJ.out.2,NOS2,H68⟩
      ·have y0:=RBr.out.cell 1
       have HJ:=Zaa (show gk-1<gk∧2+(gk-1)=3 by have:=hgk.out;omega)
       by_cases hP:ZlG p
       ·have EQ:=Zaa (show Zao (f+1) log=Zjr f (ZaM log) p from by rw[EQ0.out,Zkl SP.out TWO.out (NOS.out.1 (by omega)) hP])
        have FB:=Zaa (show ∀(w':World) (v:Value),Zb6 (fun j=>w.heap.size≤j) (f+3) w' v (Zjr f (ZaM log) p)→Below w.heap.size w w'→ZdE (f+1+2) (Zao (f+1) log) w (.returned v) w' from fun w' v hb hw=>⟨v,rfl,by rw[EQ.out];exact hb,hw⟩)
        have CC:=Zaa (show Calls Tryz.prog 131 #[ZhF A3 A1 A2 A3b A4 k c3 n1 c1 n2 c2 n3 c3b n4 c4] wr (ZfK (f+3) true (Zjr f (ZaM log) p) wr)from(ZfL IHH.out LIr.out SP.out FU.out).mono (fun _ _ h=>h.1 hP))
        clear hP hq
        go_wp2_with fail
        refine CC.out.mono ?_
        rintro e w7 ⟨v7,rfl,⟨A7',n7',c7',rfl,s7,p7⟩,hb7⟩
        have BA7:=Zaa (show Zb6 (fun q=>wr.heap.size≤q) (f+3) w7 (.agg #[.int .i64 (Zjr f (ZaM log) p).kind,.int .i64 (Zjr f (ZaM log) p).label,.slice A7' n7' c7']) (Zjr f (ZaM log) p)from⟨A7',n7',c7',rfl,s7,p7⟩)
        obtain⟨kd7,hkd⟩:∃x,x=(Zjr f (ZaM log) p).kind:=⟨_,rfl⟩
        obtain⟨lb7,hlb⟩:∃x,x=(Zjr f (ZaM log) p).label:=⟨_,rfl⟩
        rw[←hkd,←hlb]at BA7
        rw[←hkd,←hlb]
        have BB8:=Zaa (Zab w7 (.cells #[.int .i64 kd7,.int .i64 lb7,.slice A7' n7' c7'] 71))
        have HB8:=Zaa (hb7.trans (BB8.out.mono hb7.size))
        have TS:=Zaa (Box.new w7 #[.int .i64 kd7,.int .i64 lb7,.slice A7' n7' c7'] 71)
        have BA8:=Zaa (BA7.out.keep BB8.out)
        have X8:=Zaa (Xr.out.keep HB8.out)
        clear s7 p7 hb7 hkd hlb CC
        go_upto_region 16 with fail
        generalize w7.alloc (.cells #[.int .i64 kd7,.int .i64 lb7,.slice A7' n7' c7'] 71)=w8 at *
        generalize w7.heap.size=bz at *
        obtain⟨s0,s1,s2⟩:=TS.out.three
        obtain⟨kd8,hkd8⟩:∃x,x=kd7:=⟨_,rfl⟩
        obtain⟨lb8,hlb8⟩:∃x,x=lb7:=⟨_,rfl⟩
        obtain⟨A8',hA8⟩:∃x,x=A7':=⟨_,rfl⟩
        obtain⟨n8',hn8⟩:∃x,x=n7':=⟨_,rfl⟩
        obtain⟨c8',hc8⟩:∃x,x=c7':=⟨_,rfl⟩
        subst hkd8 hlb8 hA8 hn8 hc8
        obtain⟨u0,u1,u2⟩:=X8.out.three
        have fz:=fun q=>X8.out.frozen q
        have WW:=Zaa (Zbz (w:=w) BA8.out X8.out HB8.out Dr.out Wr.out (Nat.le_refl _))
        go_wp2
        generalize (((w8.setCell ⟨w.heap.size,0,none⟩ (.int .i64 kd8)).setCell ⟨w.heap.size,1,none⟩ (.int .i64 lb8)).setCell ⟨w.heap.size,2,none⟩ (.slice A8' n8' c8'))=ww at *
        obtain⟨z0,z1,z2⟩:=WW.out.1.three
        exact bodyPost_ret (v:=.agg #[.int .i64 kd8,.int .i64 lb8,.slice A8' n8' c8']) (by simp[results,Tryz.results83,go_sem,z0,z1,z2]) rfl (FB.out ww _ WW.out.2.1 WW.out.2.2)
       ·have NOS2:Hid ((0<2→¬2≤(ZbG (bhB p) p.labels).length)∧(1<2→¬ZlG p)∧(2<2→¬Zf7 p)):=Zaa ⟨fun _=>NOS.out.1 (by omega),fun _=>hP,fun h=>absurd h (by omega)⟩
        have CC:=Zaa (show Calls Tryz.prog 131 #[ZhF A3 A1 A2 A3b A4 k c3 n1 c1 n2 c2 n3 c3b n4 c4] wr (ZfK (f+3) false (ZbV) wr)from(ZfL IHH.out LIr.out SP.out FU.out).mono (fun _ _ h=>h.2 hP))
        clear hP hq
        go_wp2_with fail
        refine CC.out.mono ?_
        rintro e w7 ⟨v7,rfl,⟨A7',n7',c7',rfl,s7,p7⟩,hb7⟩
        have BA7:=Zaa (show Zb6 (fun q=>wr.heap.size≤q) (f+3) w7 (.agg #[.int .i64 (ZbV).kind,.int .i64 (ZbV).label,.slice A7' n7' c7']) (ZbV)from⟨A7',n7',c7',rfl,s7,p7⟩)
        obtain⟨kd7,hkd⟩:∃x,x=(ZbV).kind:=⟨_,rfl⟩
        obtain⟨lb7,hlb⟩:∃x,x=(ZbV).label:=⟨_,rfl⟩
        rw[←hkd,←hlb]at BA7
        rw[←hkd,←hlb]
        have BB8:=Zaa (Zab w7 (.cells #[.int .i64 kd7,.int .i64 lb7,.slice A7' n7' c7'] 71))
        have HB8:=Zaa (hb7.trans (BB8.out.mono hb7.size))
        have H68:=Zaa (D6r.out.trans (HB8.out.mono D6r.out.size))
        clear s7 p7 hb7 hkd hlb CC
        go_wp2
        go_roundg (gk-1)
        case measure=>exact HJ.out.1
        case rel=>exact⟨2,rfl,Zaa HJ.out.2,NOS2,H68⟩
      ·have y0:=RBr.out.cell 2
       have HJ:=Zaa (show gk-1<gk∧3+(gk-1)=3 by have:=hgk.out;omega)
       by_cases hP:Zf7 p
       ·have EQ:=Zaa (show Zao (f+1) log=Zes f (ZaM log) p from by rw[EQ0.out,ZnF SP.out TWO.out (NOS.out.1 (by omega)) (NOS.out.2.1 (by omega)) hP])
        have FB:=Zaa (show ∀(w':World) (v:Value),Zb6 (fun j=>w.heap.size≤j) (f+3) w' v (Zes f (ZaM log) p)→Below w.heap.size w w'→ZdE (f+1+2) (Zao (f+1) log) w (.returned v) w' from fun w' v hb hw=>⟨v,rfl,by rw[EQ.out];exact hb,hw⟩)
        have CC:=Zaa (show Calls Tryz.prog 132 #[ZhF A3 A1 A2 A3b A4 k c3 n1 c1 n2 c2 n3 c3b n4 c4] wr (ZfK (f+3) true (Zes f (ZaM log) p) wr)from(Ze0 IHH.out LIr.out SP.out FU.out).mono (fun _ _ h=>h.1 hP))
        clear hP hq
        go_wp2_with fail
        refine CC.out.mono ?_
        rintro e w7 ⟨v7,rfl,⟨A7',n7',c7',rfl,s7,p7⟩,hb7⟩
        have BA7:=Zaa (show Zb6 (fun q=>wr.heap.size≤q) (f+3) w7 (.agg #[.int .i64 (Zes f (ZaM log) p).kind,.int .i64 (Zes f (ZaM log) p).label,.slice A7' n7' c7']) (Zes f (ZaM log) p)from⟨A7',n7',c7',rfl,s7,p7⟩)
        obtain⟨kd7,hkd⟩:∃x,x=(Zes f (ZaM log) p).kind:=⟨_,rfl⟩
        obtain⟨lb7,hlb⟩:∃x,x=(Zes f (ZaM log) p).label:=⟨_,rfl⟩
        rw[←hkd,←hlb]at BA7
        rw[←hkd,←hlb]
        have BB8:=Zaa (Zab w7 (.cells #[.int .i64 kd7,.int .i64 lb7,.slice A7' n7' c7'] 71))
        have HB8:=Zaa (hb7.trans (BB8.out.mono hb7.size))
        have TS:=Zaa (Box.new w7 #[.int .i64 kd7,.int .i64 lb7,.slice A7' n7' c7'] 71)
        have BA8:=Zaa (BA7.out.keep BB8.out)
        have X8:=Zaa (Xr.out.keep HB8.out)
        clear s7 p7 hb7 hkd hlb CC
        go_upto_region 16 with fail
        generalize w7.alloc (.cells #[.int .i64 kd7,.int .i64 lb7,.slice A7' n7' c7'] 71)=w8 at *
        generalize w7.heap.size=bz at *
        obtain⟨s0,s1,s2⟩:=TS.out.three
        obtain⟨kd8,hkd8⟩:∃x,x=kd7:=⟨_,rfl⟩
        obtain⟨lb8,hlb8⟩:∃x,x=lb7:=⟨_,rfl⟩
        obtain⟨A8',hA8⟩:∃x,x=A7':=⟨_,rfl⟩
        obtain⟨n8',hn8⟩:∃x,x=n7':=⟨_,rfl⟩
        obtain⟨c8',hc8⟩:∃x,x=c7':=⟨_,rfl⟩
        subst hkd8 hlb8 hA8 hn8 hc8
        obtain⟨u0,u1,u2⟩:=X8.out.three
        have fz:=fun q=>X8.out.frozen q
        have WW:=Zaa (Zbz (w:=w) BA8.out X8.out HB8.out Dr.out Wr.out (Nat.le_refl _))
        go_wp2
        generalize (((w8.setCell ⟨w.heap.size,0,none⟩ (.int .i64 kd8)).setCell ⟨w.heap.size,1,none⟩ (.int .i64 lb8)).setCell ⟨w.heap.size,2,none⟩ (.slice A8' n8' c8'))=ww at *
        obtain⟨z0,z1,z2⟩:=WW.out.1.three
        exact bodyPost_ret (v:=.agg #[.int .i64 kd8,.int .i64 lb8,.slice A8' n8' c8']) (by simp[results,Tryz.results83,go_sem,z0,z1,z2]) rfl (FB.out ww _ WW.out.2.1 WW.out.2.2)
       ·have NOS2:Hid ((0<3→¬2≤(ZbG (bhB p) p.labels).length)∧(1<3→¬ZlG p)∧(2<3→¬Zf7 p)):=Zaa ⟨fun _=>NOS.out.1 (by omega),fun _=>NOS.out.2.1 (by omega),fun _=>hP⟩
        have CC:=Zaa (show Calls Tryz.prog 132 #[ZhF A3 A1 A2 A3b A4 k c3 n1 c1 n2 c2 n3 c3b n4 c4] wr (ZfK (f+3) false (ZbV) wr)from(Ze0 IHH.out LIr.out SP.out FU.out).mono (fun _ _ h=>h.2 hP))
        clear hP hq
        go_wp2_with fail
        refine CC.out.mono ?_
        rintro e w7 ⟨v7,rfl,⟨A7',n7',c7',rfl,s7,p7⟩,hb7⟩
        have BA7:=Zaa (show Zb6 (fun q=>wr.heap.size≤q) (f+3) w7 (.agg #[.int .i64 (ZbV).kind,.int .i64 (ZbV).label,.slice A7' n7' c7']) (ZbV)from⟨A7',n7',c7',rfl,s7,p7⟩)
        obtain⟨kd7,hkd⟩:∃x,x=(ZbV).kind:=⟨_,rfl⟩
        obtain⟨lb7,hlb⟩:∃x,x=(ZbV).label:=⟨_,rfl⟩
        rw[←hkd,←hlb]at BA7
        rw[←hkd,←hlb]
        have BB8:=Zaa (Zab w7 (.cells #[.int .i64 kd7,.int .i64 lb7,.slice A7' n7' c7'] 71))
        have HB8:=Zaa (hb7.trans (BB8.out.mono hb7.size))
        have H68:=Zaa (D6r.out.trans (HB8.out.mono D6r.out.size))
        clear s7 p7 hb7 hkd hlb CC
        go_wp2
        go_roundg (gk-1)
        case measure=>exact HJ.out.1
        case rel=>exact⟨3,rfl,Zaa HJ.out.2,NOS2,H68⟩
     ·obtain rfl:q=3:=by have:=hgk.out;omega
      have EQ:=Zaa (show Zao (f+1) log=.mk 6 0 [Zaq,.mk 4 0 (p.labels.map ZaN)]from by rw[EQ0.out,ZnG SP.out TWO.out (NOS.out.1 (by omega)) (NOS.out.2.1 (by omega)) (NOS.out.2.2 (by omega))])
      have FB:=Zaa (show ∀(w':World) (v:Value),Zb6 (fun j=>w.heap.size≤j) (f+3) w' v (.mk 6 0 [Zaq,.mk 4 0 (p.labels.map ZaN)])→Below w.heap.size w w'→ZdE (f+1+2) (Zao (f+1) log) w (.returned v) w' from fun w' v hb hw=>⟨v,rfl,by rw[EQ.out];exact hb,hw⟩)
      have x1:=((TB6.out.keep D6r.out).cell 1)
      clear hq hgk NOS
      obtain⟨wE,hwE⟩:∃x:World,x=wr:=⟨_,rfl⟩
      subst hwE
      obtain⟨go,hgo⟩:∃x:Nat,x=gk:=⟨_,rfl⟩
      subst hgo
      go_wp2
      go_loopg [10,76] n1 (fun gk s10 s76 wr=>∃v j,v=s10∧s76=.int .i64 (j:Nat)∧Hid (j+gk=n1)∧Hid (Zdf wr wE.heap.size (f+2) v j ((p.labels.take j).map ZaN))∧Hid (Below wE.heap.size wE wr))
      case atStart=>exact⟨_,0,rfl,rfl,Zaa (by omega),Zaa Zad.nil,Zaa (Below.refl _ _)⟩
      case round =>
       obtain⟨v,j,rfl,rfl,hgk,OB,DB⟩:=hrel
       by_cases hj:j<n1
       ·have hji:(j:Int)<(n1:Int):=by omega
        obtain⟨b1,off1,a,rfl,hb1,ha,q1⟩:=Zam.get (LIr.out.ip.i1.keep DB.out) hj
        have HJ:=Zaa (show gk-1<gk∧(j+1)+(gk-1)=n1∧j≤26 by have:=hgk.out;have:=LN.out;omega)
        have hwj:IntKind.i64.wrap ((j:Int)+1)=((j+1:Nat):Int):=by
         have:=HJ.out
         simp[IntKind.wrap,IntKind.bits,IntKind.signed];omega
        have CS:=Zaa (ZiH wr (f+1) a)
        clear hb1
        go_wp2_with fail
        refine CS.out.mono ?_
        rintro e w7 ⟨v7,rfl,⟨A7',n7',c7',rfl,s7,p7⟩,hb7⟩
        have KO:=Zaa (Zo5 OB.out DB.out.size s7 p7)
        have OB3:=Zaa (OB.out.keep hb7)
        have D3:=Zaa (DB.out.trans (hb7.mono DB.out.size))
        have hB3:=D3.out.size
        have hj1:j≤100:=by have:=HJ.out;omega
        have TK:=Zaa (show(p.labels.take (j+1)).map ZaN=(p.labels.take j).map ZaN++[ZaN a] by rw[List.take_add_one,ha.out];simp)
        obtain⟨kd3,hkd⟩:∃x,x=(ZaN a).kind:=⟨_,rfl⟩
        obtain⟨lb3,hlb⟩:∃x,x=(ZaN a).label:=⟨_,rfl⟩
        rw[←hkd,←hlb]
        have HKL:=Zaa (And.intro hkd hlb)
        clear s7 p7 hb7 OB hkd hlb CS q1
        go_wp2_with (at_builtin;refine ZdV rfl _ _ rfl rfl rfl rfl OB3.out HKL.out.1 HKL.out.2 KO.out.1 KO.out.2 hB3 hj1 ?_;intro v8 w8 own8 hg8;have O8:=Zaa own8;have D8:=Zaa (D3.out.grown hg8 hB3 (fun k hk=>(OB3.out.lt k hk).1)))
        go_roundg (gk-1)
        case measure=>exact HJ.out.1
        case rel=>exact⟨v8,j+1,rfl,rfl,Zaa HJ.out.2.1,Zaa (by rw[TK.out];exact O8.out),D8⟩
       ·have hji:¬(j:Int)<(n1:Int):=by omega
        have OF:=Zaa (show Zdf wr wE.heap.size (f+2) v j (p.labels.map ZaN)from by
         have:=OB.out
         rwa[List.take_of_length_le (by have:=LN.out.1;omega)]at this)
        obtain⟨AK,cK,rfl,sK,pK⟩:=OF.out.sl2 (by have:=LN.out;have:=hgk.out;omega)
        have SK:=Zaa (And.intro sK pK)
        have CS:=Zaa (Zdg wr (f+2))
        have HEr:=Zaa DB.out
        clear sK pK OB hj hgk
        go_wp2_with fail
        refine CS.out.mono ?_
        rintro e w4 ⟨v4,rfl,⟨A4',n4',c4',rfl,s4,p4⟩,hb4⟩
        have BA4:=Zaa (show Zb6 (fun q=>wr.heap.size≤q) (f+2) w4 (.agg #[.int .i64 (Zaq).kind,.int .i64 (Zaq).label,.slice A4' n4' c4']) (Zaq)from⟨A4',n4',c4',rfl,s4,p4⟩)
        obtain⟨kd4,hkd⟩:∃x,x=(Zaq).kind:=⟨_,rfl⟩
        obtain⟨lb4,hlb⟩:∃x,x=(Zaq).label:=⟨_,rfl⟩
        rw[←hkd,←hlb]at BA4
        rw[←hkd,←hlb]
        have HB4:=Zaa hb4
        clear s4 p4 hb4 hkd hlb
        have HE4:=Zaa (HEr.out.trans (HB4.out.mono HEr.out.size))
        have CB:=Zaa (Zcr 4 (SK.out.1.keep (ZeX.kept _ _) HB4.out) SK.out.2 HE4.out)
        clear CS
        go_wp2_with fail
        refine CB.out.mono ?_
        rintro e w5b ⟨⟨v5,rfl,⟨A5',n5',c5',rfl,s5,p5⟩,hb5⟩,hb5b⟩
        have BA5:=Zaa (show Zb6 (fun q=>wE.heap.size≤q) (f+2) w5b (.agg #[.int .i64 (Zat.mk 4 0 (p.labels.map ZaN)).kind,.int .i64 (Zat.mk 4 0 (p.labels.map ZaN)).label,.slice A5' n5' c5']) (.mk 4 0 (p.labels.map ZaN))from⟨A5',n5',c5',rfl,s5,p5⟩)
        obtain⟨kd5,hkd⟩:∃x,x=(Zat.mk 4 0 (p.labels.map ZaN)).kind:=⟨_,rfl⟩
        obtain⟨lb5,hlb⟩:∃x,x=(Zat.mk 4 0 (p.labels.map ZaN)).label:=⟨_,rfl⟩
        rw[←hkd,←hlb]at BA5
        rw[←hkd,←hlb]
        have HE5:=Zaa hb5
        have BA4b:=Zaa ((BA4.out.of_ans HEr.out).keep hb5b)
        have RW:=Zaa (ZlH BA4b.out BA5.out)
        have BR:=Zaa (Zab w5b (.cells #[.int .i64 kd4,.int .i64 lb4,.slice A4' n4' c4',.int .i64 kd5,.int .i64 lb5,.slice A5' n5' c5'] 71))
        have HE6:=Zaa (HE5.out.trans (BR.out.mono HE5.out.size))
        have CB2:=Zaa (Zcr 6 RW.out (fun _ a ha=>by injection ha with ha;subst ha;exact HE5.out.size) HE6.out)
        clear s5 p5 hb5 hb5b hkd hlb CB
        go_wp2_with fail
        generalize w5b.alloc (.cells #[.int .i64 kd4,.int .i64 lb4,.slice A4' n4' c4',.int .i64 kd5,.int .i64 lb5,.slice A5' n5' c5'] 71)=w5c at *
        refine CB2.out.mono ?_
        rintro e w10 ⟨⟨v10,rfl,⟨A10',n10',c10',rfl,s10,p10⟩,hb10⟩,hb11⟩
        have BA10:=Zaa (show Zb6 (fun q=>wE.heap.size≤q) (f+3) w10 (.agg #[.int .i64 (Zat.mk 6 0 [Zaq,.mk 4 0 (p.labels.map ZaN)]).kind,.int .i64 (Zat.mk 6 0 [Zaq,.mk 4 0 (p.labels.map ZaN)]).label,.slice A10' n10' c10']) (.mk 6 0 [Zaq,.mk 4 0 (p.labels.map ZaN)])from⟨A10',n10',c10',rfl,s10,p10⟩)
        obtain⟨kd10,hkd⟩:∃x,x=(Zat.mk 6 0 [Zaq,.mk 4 0 (p.labels.map ZaN)]).kind:=⟨_,rfl⟩
        obtain⟨lb10,hlb⟩:∃x,x=(Zat.mk 6 0 [Zaq,.mk 4 0 (p.labels.map ZaN)]).label:=⟨_,rfl⟩
        rw[←hkd,←hlb]at BA10
        rw[←hkd,←hlb]
        have HB10:=Zaa hb10
        have X10:=Zaa (Xr.out.keep hb10)
        clear s10 p10 hb10 hb11 hkd hlb
        obtain⟨u0,u1,u2⟩:=X10.out.three
        have fz:=fun q=>X10.out.frozen q
        have WW:=Zaa (Zbz (w:=w) BA10.out X10.out HB10.out Dr.out Wr.out (Nat.le_refl _))
        go_wp2
        generalize (((w10.setCell ⟨w.heap.size,0,none⟩ (.int .i64 kd10)).setCell ⟨w.heap.size,1,none⟩ (.int .i64 lb10)).setCell ⟨w.heap.size,2,none⟩ (.slice A10' n10' c10'))=ww at *
        obtain⟨z0,z1,z2⟩:=WW.out.1.three
        exact bodyPost_ret (v:=.agg #[.int .i64 kd10,.int .i64 lb10,.slice A10' n10' c10']) (by simp[results,Tryz.results83,go_sem,z0,z1,z2]) rfl (FB.out ww _ WW.out.2.1 WW.out.2.2)
theorem ZrU:∀f,ZhG f
 | 0=>fun w A n c log h hf=>by
  have hp:Zbc log (ZtN log 26 26 26 26 0):=by
   have:=(ZiG hf.1).2
   rwa[if_pos hf.1]at this
  have:=hf.2 _ hp
  omega
 | f+1=>ZlJ (ZrU f)
end Go.Proofs.YtfmnagcglhlicaaGreat
