/- The contract of desk.begin. Conditions: the net, the roles and the desk read as lists. -/
import Derived.Test.YtfmnagcglhlicaaGreatTopSaidK49
set_option maxRecDepth 100000
namespace Go.Proofs.YtfmnagcglhlicaaGreat
open Go.RowKit
def Old (w:World)(A0:Option Addr)(n0:Nat)(A:Option Addr)(n:Nat):Prop:=(A=A0∧n=n0)∨Zbn w A
theorem Old.far {α:Type}{R:World→(Nat→Value)→α→Prop}{sz:Nat}{w W:World}{A0 A:Option Addr}{n0 c0 n b:Nat}{xs:List α}(h:Old W A0 n0 A n)(hx:Sl R sz w A0 n0 c0 xs)(h1:w.heap.size≤b)(h2:b<W.heap.size):∀b' off,A=some ⟨b',off,none⟩→0<n→b'≠b:=by
 intro b' off e h0
 rcases h with⟨e1,e2⟩|h
 ·subst e2
  obtain⟨b2,o2,e3,hl,_⟩:=hx.cells h0
  rw[←e1,e]at e3
  injection e3 with e3
  injection e3 with e3
  omega
 ·have h3:W.heap.size≤b':=h _ e
  omega
def Zqc (B0:Option Addr)(m0:Nat)(D0:Option Addr)(l0:Nat)(I0:Option Addr)(n0:Nat)(p:ZaB×Int×Int)(w:World)(e:Ending)(w':World):Prop :=
 ∃B m d D l f I n c,e=.returned (.tuple #[.agg #[.slice B m d,.slice D l f,.slice I n c],.int .i64 p.2.1,.int .i64 p.2.2])∧Zcm w' B m d D l f I n c p.1∧Below w.heap.size w w'∧Old w B0 m0 B m∧Old w D0 l0 D l∧Old w I0 n0 I n
theorem Sl.beside {α:Type}{R:World→(Nat→Value)→α→Prop}{sz:Nat}{w w':World}{b ty:Nat}{cs:Array Value}{A:Option Addr}{n c:Nat}{xs:List α}(h:Sl R sz w A n c xs)(hsz:0<sz)(hR:∀vs x,R w vs x→(∃i,vs 0=.int .i64 i)∧R w' vs x)(hb:Box w b ty cs)(hcs:∀(j:Nat) (x:Int),cs[j]?≠some (.int .i64 x))(hw:Zan b w w'):Sl R sz w' A n c xs :=
 ⟨h.len,h.le,h.cap,h.small,h.nul,fun hn=>by
  obtain⟨b',off,e,hlt,hc⟩:=h.cells hn
  refine⟨b',off,e,by rw[hw.1];exact hlt,fun i x hx=>?_⟩
  obtain⟨vs,h1,h2⟩:=hc i x hx
  obtain⟨⟨v,hv⟩,h3⟩:=hR vs x h2
  refine⟨vs,fun j hj=>?_,h3⟩
  by_cases hbb:b'=b
  ·subst hbb
   exfalso
   have:=h1 0 hsz
   rw[hb.cell,hv]at this
   exact hcs _ _ this
  ·rw[hw.cell (by simpa using hbb)];exact h1 j hj⟩
theorem ZbF {A B C:Option Addr}{n c m d l e:Nat}:∀(j:Nat) (x:Int),(#[Value.slice A n c,Value.slice B m d,Value.slice C l e])[j]?≠some (.int .i64 x)
 | 0,_=>by simp
 | 1,_=>by simp
 | 2,_=>by simp
 | _+3,_=>by simp
theorem Zan.set3 (w:World)(b:Nat)(u v z:Value):Zan b w (((w.setCell ⟨b,0,none⟩ u).setCell ⟨b,1,none⟩ v).setCell ⟨b,2,none⟩ z):=((Zan.set _ _ _ _).trans (Zan.set _ _ _ _)).trans (Zan.set _ _ _ _)
theorem Zcm.beside {w w':World}{b ty:Nat}{cs:Array Value}{B D I:Option Addr}{m d l e n c:Nat}{k:ZaB}(h:Zcm w B m d D l e I n c k)(hb:Box w b ty cs)(hcs:∀(j:Nat) (x:Int),cs[j]?≠some (.int .i64 x))(hw:Zan b w w'):Zcm w' B m d D l e I n c k :=
 ⟨h.mark.beside hb hcs hw,h.busy.beside hb hcs hw,Sl.beside h.items (by omega) (fun vs x hx=>⟨⟨_,hx.1⟩,hx⟩) hb hcs hw⟩
theorem Zk5 {N:Zau}{t:Nat}{T:Zak}(h:N.trans[t]?=some T):ZdL N (t:Int)=T.label:=by
 unfold ZdL
 simp[List.getD_eq_getElem?_getD,h]
theorem Zoe {N:Zau}{roles:List (List Int)}{k:ZaB}{o:POp}(h:¬inT N o.tran):ZcL N roles k o=(k,0,3):=by rw[ZcL,if_neg h]
theorem Zof {N:Zau}{roles:List (List Int)}{k:ZaB}{o:POp}(h:inT N o.tran)(g:ZjM roles o.user (ZdL N o.tran)=false):ZcL N roles k o=(k,0,6):=by rw[ZcL,if_pos h,if_neg (by rw[g];decide)]
theorem Zog {N:Zau}{roles:List (List Int)}{k:ZaB}{o:POp}(h:inT N o.tran)(g:ZjM roles o.user (ZdL N o.tran)=true)(hd:(doL N k.case_ 2 o.tran).2≠0):ZcL N roles k o=(k,0,(doL N k.case_ 2 o.tran).2):=by rw[ZcL,if_pos h,if_pos g,if_neg hd]
theorem Zoh {N:Zau}{roles:List (List Int)}{k:ZaB}{o:POp}(h:inT N o.tran)(g:ZjM roles o.user (ZdL N o.tran)=true)(hd:(doL N k.case_ 2 o.tran).2=0):ZcL N roles k o=(⟨(doL N k.case_ 2 o.tran).1,k.items++[⟨o.user,o.tran,true⟩]⟩,(k.items.length:Int),0):=by rw[ZcL,if_pos h,if_pos g,if_pos hd]
theorem Zez {w:World}{A:Option Addr}{n c:Nat}(h:n≤c) :
  Calls Tryz.prog 105 #[.slice A n c] w fun e w'=>e=.returned (.slice A n n)∧w=w':=by
 go_enter Tryz.func105,Tryz.ntmps105
 have hi:(n:Int)≤(c:Int):=by omega
 go_wp2
 go_ret
 exact⟨by first|rfl|simp,rfl⟩
set_option maxHeartbeats 2000000 in
theorem Zh1 {w:World}{P:Int}{A R B D I:Option Addr}{n c r q m d l e ni ci:Nat}{ts:List Zak}{roles:List (List Int)}{k:ZaB}(o:POp)(h:ZaP w A n c ts)(g:ZaS w R r q roles)(x:Zcm w B m d D l e I ni ci k)(hl:l≤17592186044416)(hni:ni≤5864062014634) :
  Calls Tryz.prog 57 #[.agg #[.int .i64 P,.slice A n c,.slice R r q],.agg #[.slice B m d,.slice D l e,.slice I ni ci],.agg #[.int .i64 o.kind,.int .i64 o.user,.int .i64 o.tran,.int .i64 o.item,.int .i64 o.to_]] w (Zqc B m D l I ni (ZcL ⟨P,ts⟩ roles k o) w):=by
 obtain⟨it,hit⟩:∃it,o.tran=it:=⟨_,rfl⟩
 obtain⟨ou,hou⟩:∃it,o.user=it:=⟨_,rfl⟩
 have HIT:=Zaa hit
 have HOU:=Zaa hou
 rw[hit,hou]
 generalize hw:(((w.alloc (.cells #[.int .i64 P,.slice A n c,.slice R r q] 75)).alloc (.cells #[.slice B m d,.slice D l e,.slice I ni ci] 33)).alloc (.cells #[.int .i64 o.kind,.int .i64 ou,.int .i64 it,.int .i64 o.item,.int .i64 o.to_] 45)).alloc (.cells #[.slice none 0 0,.slice none 0 0,.slice none 0 0] 33)=w0
 have HB:=Zaa (show Below w.heap.size w w0 by rw[←hw];exact((((Below.refl _ _).alloc (Nat.le_refl _) _).alloc (by simp) _).alloc (by simp;omega) _).alloc (by simp;omega) _)
 have X0:=Zaa (show Box w0 w.heap.size 75 #[.int .i64 P,.slice A n c,.slice R r q] by rw[←hw];exact(((Box.new _ _ _).old _).old _).old _)
 have X1:=Zaa (show Box w0 (w.heap.size+1) 33 #[.slice B m d,.slice D l e,.slice I ni ci] by rw[←hw];exact((Box.newAt (by simp) _ _).old _).old _)
 have X2:=Zaa (show Box w0 (w.heap.size+1+1) 45 #[.int .i64 o.kind,.int .i64 ou,.int .i64 it,.int .i64 o.item,.int .i64 o.to_] by rw[←hw];exact(Box.newAt (by simp) _ _).old _)
 have X3:=Zaa (show Box w0 (w.heap.size+1+1+1) 33 #[.slice none 0 0,.slice none 0 0,.slice none 0 0] by rw[←hw];exact Box.newAt (by simp) _ _)
 have H:=Zaa (h.keep HB.out)
 have G:=Zaa (Sl.keep ZaL.kept g HB.out)
 have XO:=Zaa x
 have hn:=h.small
 have HL:=Zaa h.len
 clear h g x hit hou
 go_enter Tryz.func57,Tryz.ntmps57
 go_upto_region 1 with fail
 clear hw
 obtain⟨a0,a1,a2⟩:=X0.out.three
 obtain⟨c0,c1,c2⟩:=X1.out.three
 obtain⟨y0,y1,y2,y3,y4⟩:=X2.out.five
 obtain⟨z0,z1,z2⟩:=X3.out.three
 have f0:=X3.out.frozen 0
 have f1:=X3.out.frozen 1
 have f2:=X3.out.frozen 2
 have KX:=Zaa (show w0.heap.size≤w0.heap.size from Nat.le_refl _)
 by_cases hr:0≤it∧it<(n:Int)
 ·obtain⟨j,rfl⟩:∃j:Nat,it=(j:Int):=⟨it.toNat,by omega⟩
  have hjn:j<n:=by omega
  have hji:(j:Int)<(n:Int):=by omega
  have INT:=Zaa (show inT ⟨P,ts⟩ o.tran by rw[HIT.out];exact⟨by omega,by show(j:Int)<(ts.length:Int);rw[HL.out];exact hji⟩)
  obtain⟨b,off,t,A1,n1,c1',A2,n2,c2',rfl,hb,ht,q0,q1,q2,_⟩:=ZaP.get H.out hjn
  have LB:=Zaa (show ZdL ⟨P,ts⟩ o.tran=t.label by rw[HIT.out];exact Zk5 ht.out)
  clear hr q1 q2
  obtain⟨lb,hlb⟩:∃lb,t.label=lb:=⟨_,rfl⟩
  rw[hlb]at q0 LB
  obtain⟨mv,hmv⟩:∃v,ZjM roles ou lb=v:=⟨_,rfl⟩
  have CM:=Zaa (fun(w':World) (hb:Below w0.heap.size w0 w')=>Zk2 (P:=P) (A:=some ⟨b,off,none⟩) (n:=n) (c:=c) ou lb (Sl.keep ZaL.kept G.out hb))
  simp only[hmv]at CM
  have HMV:=Zaa (show ZjM roles o.user (ZdL ⟨P,ts⟩ o.tran)=mv by rw[LB.out,HOU.out];exact hmv)
  clear hmv hlb
  have KEEP:=Zaa (show ∀w',Below w0.heap.size w0 w'→w'.cell? ⟨w.heap.size,0,none⟩=some (.int .i64 P)∧w'.cell? ⟨w.heap.size,1,none⟩=some (.slice (some ⟨b,off,none⟩) n c)∧w'.cell? ⟨w.heap.size,2,none⟩=some (.slice R r q)∧w'.cell? ⟨w.heap.size+1+1,1,none⟩=some (.int .i64 ou)∧w'.cell? ⟨w.heap.size+1+1,2,none⟩=some (.int .i64 (j:Int))∧w'.cell? ⟨b,off+j*3,none⟩=some (.int .i64 lb)from fun w' hb'=>by
   obtain⟨e0,e1,e2⟩:=(X0.out.keep hb').three
   obtain⟨_,g1,g2,_,_⟩:=(X2.out.keep hb').five
   exact⟨e0,e1,e2,g1,g2,(hb'.cell (p:=⟨b,off+j*3,none⟩) hb).trans q0⟩)
  have DR:=Zaa ((Below.refl w0.heap.size w0).drew)
  go_upto_region 3 with fail
  cases mv
  ·have FN:=Zaa (Zof INT.out HMV.out (k:=k))
   go_region_held3 (fun w'=>w'.cell? ⟨w.heap.size,0,none⟩=some (.int .i64 P)∧w'.cell? ⟨w.heap.size,1,none⟩=some (.slice (some ⟨b,off,none⟩) n c)∧w'.cell? ⟨w.heap.size,2,none⟩=some (.slice R r q)∧w'.cell? ⟨w.heap.size+1+1,1,none⟩=some (.int .i64 ou)∧w'.cell? ⟨w.heap.size+1+1,2,none⟩=some (.int .i64 (j:Int))∧w'.cell? ⟨b,off+j*3,none⟩=some (.int .i64 lb))
    (first|go_keep)
    (first|(go_at_call 104;(with_reducible refine(CM.out _ DR.out).mono ?_);rintro e1 w1 ⟨rfl,hb1⟩;have F1:=Zaa (DR.out.trans (hb1.mono DR.out.size));clear hb1 a0 a1 a2 c0 c1 c2 y0 y1 y2 y3 y4 z0 z1 z2 q0;obtain⟨a0,a1,a2,y1,y2,q0⟩:=KEEP.out w1 F1.out))
   all_goals
    clear a0 a1 a2 y1 y2 q0 f0 f1 f2
    have Y0:=Zaa (X0.out.keep F1.out)
    have Y1:=Zaa (X1.out.keep F1.out)
    have Y2:=Zaa (X2.out.keep F1.out)
    have Y3:=Zaa (X3.out.keep F1.out)
    have HH:=Zaa (H.out.keep F1.out)
    have BB:=Zaa (HB.out.trans (F1.out.mono HB.out.size))
    have SZ:=Zaa (show w.heap.size+1+1+1+1≤w1.heap.size from Y3.out.lt)
    clear X0 X1 X2 X3 H HB F1 CM KEEP DR KX G
    obtain⟨a0,a1,a2⟩:=Y0.out.three
    obtain⟨c0,c1,c2⟩:=Y1.out.three
    obtain⟨y0,y1,y2,y3,y4⟩:=Y2.out.five
    obtain⟨z0,z1,z2⟩:=Y3.out.three
    have f0:=Y3.out.frozen 0
    have f1:=Y3.out.frozen 1
    have f2:=Y3.out.frozen 2
    go_wp2
    obtain⟨r0,r1,r2⟩:=(Y3.out.set3 (.slice B m d) (.slice D l e) (.slice I ni ci)).three
    have BZ:=Zaj BB.out (show w.heap.size≤w.heap.size+1+1+1 by omega) (.slice B m d) (.slice D l e) (.slice I ni ci)
    exact bodyPost_ret (v:=.tuple #[.agg #[.slice B m d,.slice D l e,.slice I ni ci],.int .i64 0,.int .i64 6]) (by simp[results,Tryz.results57,go_sem,r0,r1,r2]) rfl (by rw[FN.out];exact⟨B,m,d,D,l,e,I,ni,ci,rfl,XO.out.keep BZ,BZ,.inl ⟨rfl,rfl⟩,.inl ⟨rfl,rfl⟩,.inl ⟨rfl,rfl⟩⟩)
  ·have CD:=Zaa (fun(w':World) (hb:Below w0.heap.size w0 w')=>Zg6 (P:=P) 2 (j:Int) (H.out.keep hb) ((XO.out.keep (HB.out.trans (hb.mono HB.out.size))).mark) ((XO.out.keep (HB.out.trans (hb.mono HB.out.size))).busy) hl)
   obtain⟨p,hp⟩:∃p,doL ⟨P,ts⟩ k.case_ 2 (j:Int)=p:=⟨_,rfl⟩
   simp only[hp]at CD
   have HP:=Zaa (show doL ⟨P,ts⟩ k.case_ 2 o.tran=p by rw[HIT.out];exact hp)
   clear hp
   have CD2:=Zaa (fun(w1:World) (hb:Below w0.heap.size w0 w1)=>CD.out w1 hb)
   clear CD
   go_region_held3 (fun w'=>w'.cell? ⟨w.heap.size,0,none⟩=some (.int .i64 P)∧w'.cell? ⟨w.heap.size,1,none⟩=some (.slice (some ⟨b,off,none⟩) n c)∧w'.cell? ⟨w.heap.size,2,none⟩=some (.slice R r q)∧w'.cell? ⟨w.heap.size+1+1,1,none⟩=some (.int .i64 ou)∧w'.cell? ⟨w.heap.size+1+1,2,none⟩=some (.int .i64 (j:Int))∧w'.cell? ⟨b,off+j*3,none⟩=some (.int .i64 lb))
    (first|go_keep)
    (first|(go_at_call 104;(with_reducible refine(CM.out _ DR.out).mono ?_);rintro e1 w1 ⟨rfl,hb1⟩;have F1:=Zaa (DR.out.trans (hb1.mono DR.out.size));clear hb1 a0 a1 a2 c0 c1 c2 y0 y1 y2 y3 y4 z0 z1 z2 q0;obtain⟨a0,a1,a2,y1,y2,q0⟩:=KEEP.out w1 F1.out))
   all_goals
    clear a0 a1 a2 y1 y2 q0 f0 f1 f2
    have Y0:=Zaa (X0.out.keep F1.out)
    have Y1:=Zaa (X1.out.keep F1.out)
    have Y2:=Zaa (X2.out.keep F1.out)
    have Y3:=Zaa (X3.out.keep F1.out)
    have HH:=Zaa (H.out.keep F1.out)
    have BB:=Zaa (HB.out.trans (F1.out.mono HB.out.size))
    have SZ:=Zaa (show w.heap.size+1+1+1+1≤w1.heap.size from Y3.out.lt)
    have CX:=Zaa (CD2.out _ F1.out)
    clear CD2 X0 X1 X2 X3 H HB F1 CM KEEP DR KX G
    obtain⟨a0,a1,a2⟩:=Y0.out.three
    obtain⟨c0,c1,c2⟩:=Y1.out.three
    obtain⟨y0,y1,y2,y3,y4⟩:=Y2.out.five
    obtain⟨z0,z1,z2⟩:=Y3.out.three
    have f0:=Y3.out.frozen 0
    have f1:=Y3.out.frozen 1
    have f2:=Y3.out.frozen 2
    go_upto_region 6 with(go_at_call 39;(with_reducible refine CX.out.mono ?_);rintro e2 w2 ⟨A3,n3,k3,A4,n4,k4,rfl,i3,i4,hb2,fr3,fr4⟩;have FR3:=Zaa (fr3.mono (show w.heap.size≤w1.heap.size by have:=SZ.out;omega));have FR4:=Zaa (fr4.mono (show w.heap.size≤w1.heap.size by have:=SZ.out;omega));have I3:=Zaa i3;have I4:=Zaa i4;have B2:=Zaa hb2;clear i3 i4 hb2 fr3 fr4)
    have XC:=Zaa (Box.new w2 #[.slice A3 n3 k3,.slice A4 n4 k4] 30)
    have NB:=Zcv w2 (.cells #[.slice A3 n3 k3,.slice A4 n4 k4] 30)
    have bb:=B2.out.trans (NB.mono B2.out.size)
    have W1:=Zaa (Y1.out.keep bb)
    have W2:=Zaa (Y2.out.keep bb)
    have W3:=Zaa (Y3.out.keep bb)
    have J3:=Zaa (I3.out.keep NB)
    have J4:=Zaa (I4.out.keep NB)
    have BC:=Zaa (BB.out.trans (bb.mono BB.out.size))
    clear Y0 Y1 Y2 Y3 I3 I4 B2 NB bb a0 a1 a2 c0 c1 c2 y0 y1 y2 y3 y4 z0 z1 z2 f0 f1 f2 HH BB CX SZ
    generalize w2.alloc (.cells #[.slice A3 n3 k3,.slice A4 n4 k4] 30)=w3 at *
    generalize w2.heap.size=bx at *
    obtain⟨c0,c1,c2⟩:=W1.out.three
    obtain⟨z0,z1,z2⟩:=W3.out.three
    have f0:=W3.out.frozen 0
    have f1:=W3.out.frozen 1
    have f2:=W3.out.frozen 2
    by_cases he:p.2=0
    ·have FN:=Zaa (Zoh INT.out HMV.out (k:=k) (by rw[HP.out];exact he))
     rw[HP.out,HIT.out,HOU.out]at FN
     have hee:(p.2 != 0)=false:=by simpa using he
     clear he
     obtain⟨_,y1,y2,_,_⟩:=W2.out.five
     go_upto_region 8 with fail
     clear z0 z1 z2 f0 f1 f2 c0 c1 hee
     have XI:=Zaa (XO.out.items)
     have hle:=XO.out.items.le
     have hcp:=XO.out.items.cap
     have S0:w3.drew.cell? ⟨w.heap.size+1,2,none⟩=some (.slice I ni ci)∧w3.drew.cell? ⟨w.heap.size+1+1,1,none⟩=some (.int .i64 ou)∧w3.drew.cell? ⟨w.heap.size+1+1,2,none⟩=some (.int .i64 (j:Int)):=⟨c2,y1,y2⟩
     have DR:=Zaa ((Below.refl w3.heap.size w3).drew)
     have V2:=Zaa (W2.out.keep DR.out)
     have V3:=Zaa (W3.out.keep DR.out)
     have VC:=Zaa (XC.out.keep DR.out)
     have L3:=Zaa (J3.out.keep DR.out)
     have L4:=Zaa (J4.out.keep DR.out)
     have BD:=Zaa (BC.out.trans (DR.out.mono BC.out.size))
     have V1:=Zaa (W1.out.keep DR.out)
     refine Zae 9 (.takes [0,1,3,4,5,6,7] (.two 2 (.one 8 (.fins [9,10] .done)) 8 (.one 2 (.fins [9,10] .done)))) (fun w'=>w'.cell? ⟨w.heap.size+1,2,none⟩=some (.slice I ni ci)∧w'.cell? ⟨w.heap.size+1+1,1,none⟩=some (.int .i64 ou)∧w'.cell? ⟨w.heap.size+1+1,2,none⟩=some (.int .i64 (j:Int))) (by kernel_rfl) (by kernel_rfl) (by kernel_rfl) (fun _ _ _ _ _ h=>h) S0 (fun hHeld=>?_)
     simp only[Scr.takes,Scr.fins]
     clear W1 W2 W3 XC J3 J4 BC DR c2 y1 y2 S0
     generalize w3.drew=w4 at *
     iterate 7
      refine Zac (v:=?_) rfl (by rfl) hHeld (fun w' hSw=>?_) ?_
      rotate_left
      ·(go_simp;try with_reducible rfl)
      simp only[Act.put,Zag,Zah,Zai]
     have NX:=Zaa (Zcv w4 (.cells #[.int .i64 ou,.int .i64 (j:Int),.bool true] 42))
     have RD:=Zaa (Zax.item (w:=w4) (x:=⟨ou,(j:Int),true⟩))
     have XI4:=Zaa (show Zir w4 I ni ni k.items from⟨XI.out.len,Nat.le_refl _,by omega,XI.out.small,fun e=>by have:=XI.out.nul e;omega,(Sl.keep Zcl.kept XI.out BD.out).cells⟩)
     have hc2:=hHeld
     refine ZjU rfl rfl (fun K hK=>?_) (fun K hK=>?_)
     ·go_simp;go_at_call 105
      (with_reducible refine(Zez hle).mono ?_)
      rintro e5 w5 ⟨rfl,rfl⟩
      refine hK.out _ _ hHeld (fun hHeld=>?_)
      clear hK
      try simp only[Act.put,Zag,Zah,Zai]
      refine ZaC rfl (fun K hK=>?_)
      go_simp
      refine hK.out _ _ (by simp[*,World.cell?_alloc_some]) (fun _=>?_)
      clear hK
      refine Zaz rfl (fun K hK=>?_)
      refine ZgG Zmf Zcl.good rfl (.tmp 56) (.tmp 62) rfl [⟨ou,(j:Int),true⟩] #[.int .i64 ou,.int .i64 (j:Int),.bool true] rfl rfl (by first|rfl|simp) rfl rfl (by omega) (by simp[Value.oneCell']) XI4.out RD.out rfl (Below.refl w4.heap.size w4) (Nat.le_refl _) (by omega) (by omega) ?_
      intro g cap w6 own6 hb6
      have hgw:w.heap.size≤g:=Nat.le_trans BD.out.size (own6.lt g rfl).1
      obtain⟨A6,k6,hv6,s6⟩:=own6.sl (by omega)
      injection hv6 with e6 _ e7
      subst e6 e7
      have U3:=Zaa (V3.out.keep hb6)
      have UW:=Zaa (show Zcm w6 A3 n3 k3 A4 n4 k4 (some ⟨g,0,none⟩) (ni+1) cap ⟨p.1,k.items++[⟨ou,(j:Int),true⟩]⟩from⟨L3.out.keep hb6,L4.out.keep hb6,s6⟩)
      have BU:=Zaa (BD.out.trans (hb6.mono BD.out.size))
      obtain⟨t0,t1⟩:=(VC.out.keep hb6).two
      obtain⟨z0,z1,z2⟩:=U3.out.three
      have f0:=U3.out.frozen 0
      have f1:=U3.out.frozen 1
      have f2:=U3.out.frozen 2
      clear own6 hb6 s6 V1 V2 V3 VC L3 L4 BD hHeld hc2
      refine hK.out _ _ ?_
      clear hK
      simp only[Act.put,Zag,Zah,Zai]
      refine Zaz rfl (fun K hK=>?_)
      go_simp
      refine hK.out _ _ ?_
      clear hK
      simp only[Zbm]
      go_wp2
      obtain⟨r0,r1,r2⟩:=(U3.out.set3 (.slice A3 n3 k3) (.slice A4 n4 k4) (.slice (some ⟨g,0,none⟩) (ni+1) cap)).three
      exact bodyPost_ret (v:=.tuple #[.agg #[.slice A3 n3 k3,.slice A4 n4 k4,.slice (some ⟨g,0,none⟩) (ni+1) cap],.int .i64 ni,.int .i64 0]) (by simp[results,Tryz.results57,go_sem,r0,r1,r2]) rfl (by rw[FN.out,XI.out.len];exact⟨A3,n3,k3,A4,n4,k4,_,ni+1,cap,rfl,UW.out.beside U3.out ZbF (Zan.set3 _ _ _ _ _),Zaj BU.out (by omega) _ _ _,.inr FR3.out,.inr FR4.out,.inr (Zbn.at hgw)⟩)
     ·go_simp
      refine hK.out _ _ (by simp[*,World.cell?_alloc_some]) (fun hHeld=>?_)
      clear hK
      try simp only[Act.put,Zag,Zah,Zai]
      refine ZaC rfl (fun K hK=>?_)
      go_simp;go_at_call 105
      (with_reducible refine(Zez hle).mono ?_)
      rintro e5 w5 ⟨rfl,rfl⟩
      refine hK.out _ _ hHeld (fun _=>?_)
      clear hK
      try simp only[Act.put,Zag,Zah,Zai]
      refine Zaz rfl (fun K hK=>?_)
      refine ZgG Zmf Zcl.good rfl (.tmp 56) (.tmp 62) rfl [⟨ou,(j:Int),true⟩] #[.int .i64 ou,.int .i64 (j:Int),.bool true] rfl rfl (by first|rfl|simp) rfl rfl (by omega) (by simp[Value.oneCell']) XI4.out RD.out rfl (Below.refl w4.heap.size w4) (Nat.le_refl _) (by omega) (by omega) ?_
      intro g cap w6 own6 hb6
      have hgw:w.heap.size≤g:=Nat.le_trans BD.out.size (own6.lt g rfl).1
      obtain⟨A6,k6,hv6,s6⟩:=own6.sl (by omega)
      injection hv6 with e6 _ e7
      subst e6 e7
      have U3:=Zaa (V3.out.keep hb6)
      have UW:=Zaa (show Zcm w6 A3 n3 k3 A4 n4 k4 (some ⟨g,0,none⟩) (ni+1) cap ⟨p.1,k.items++[⟨ou,(j:Int),true⟩]⟩from⟨L3.out.keep hb6,L4.out.keep hb6,s6⟩)
      have BU:=Zaa (BD.out.trans (hb6.mono BD.out.size))
      obtain⟨t0,t1⟩:=(VC.out.keep hb6).two
      obtain⟨z0,z1,z2⟩:=U3.out.three
      have f0:=U3.out.frozen 0
      have f1:=U3.out.frozen 1
      have f2:=U3.out.frozen 2
      clear own6 hb6 s6 V1 V2 V3 VC L3 L4 BD hHeld hc2
      refine hK.out _ _ ?_
      clear hK
      simp only[Act.put,Zag,Zah,Zai]
      refine Zaz rfl (fun K hK=>?_)
      go_simp
      refine hK.out _ _ ?_
      clear hK
      simp only[Zbm]
      go_wp2
      obtain⟨r0,r1,r2⟩:=(U3.out.set3 (.slice A3 n3 k3) (.slice A4 n4 k4) (.slice (some ⟨g,0,none⟩) (ni+1) cap)).three
      exact bodyPost_ret (v:=.tuple #[.agg #[.slice A3 n3 k3,.slice A4 n4 k4,.slice (some ⟨g,0,none⟩) (ni+1) cap],.int .i64 ni,.int .i64 0]) (by simp[results,Tryz.results57,go_sem,r0,r1,r2]) rfl (by rw[FN.out,XI.out.len];exact⟨A3,n3,k3,A4,n4,k4,_,ni+1,cap,rfl,UW.out.beside U3.out ZbF (Zan.set3 _ _ _ _ _),Zaj BU.out (by omega) _ _ _,.inr FR3.out,.inr FR4.out,.inr (Zbn.at hgw)⟩)
    ·have FN:=Zaa (Zog INT.out HMV.out (k:=k) (by rw[HP.out];exact he))
     rw[HP.out]at FN
     have hee:(p.2 != 0)=true:=by simpa using he
     clear he
     go_wp2
     obtain⟨r0,r1,r2⟩:=(W3.out.set3 (.slice B m d) (.slice D l e) (.slice I ni ci)).three
     have BZ:=Zaj BC.out (show w.heap.size≤w.heap.size+1+1+1 by omega) (.slice B m d) (.slice D l e) (.slice I ni ci)
     exact bodyPost_ret (v:=.tuple #[.agg #[.slice B m d,.slice D l e,.slice I ni ci],.int .i64 0,.int .i64 p.2]) (by simp[results,Tryz.results57,go_sem,r0,r1,r2]) rfl (by rw[FN.out];exact⟨B,m,d,D,l,e,I,ni,ci,rfl,XO.out.keep BZ,BZ,.inl ⟨rfl,rfl⟩,.inl ⟨rfl,rfl⟩,.inl ⟨rfl,rfl⟩⟩)
 ·have FN:=Zaa (show ZcL ⟨P,ts⟩ roles k o=(k,0,3)from Zoe (by rw[HIT.out];unfold inT;show ¬(0≤it∧it<(ts.length:Int));rw[HL.out];exact hr))
  by_cases h0:it<0
  ·clear hr
   go_wp2
   obtain⟨r0,r1,r2⟩:=(X3.out.set3 (.slice B m d) (.slice D l e) (.slice I ni ci)).three
   have BZ:=Zaj HB.out (show w.heap.size≤w.heap.size+1+1+1 by omega) (.slice B m d) (.slice D l e) (.slice I ni ci)
   exact bodyPost_ret (v:=.tuple #[.agg #[.slice B m d,.slice D l e,.slice I ni ci],.int .i64 0,.int .i64 3]) (by simp[results,Tryz.results57,go_sem,r0,r1,r2]) rfl (by rw[FN.out];exact⟨B,m,d,D,l,e,I,ni,ci,rfl,XO.out.keep BZ,BZ,.inl ⟨rfl,rfl⟩,.inl ⟨rfl,rfl⟩,.inl ⟨rfl,rfl⟩⟩)
  ·have h1:(n:Int)≤it:=by omega
   clear hr
   go_wp2
   obtain⟨r0,r1,r2⟩:=(X3.out.set3 (.slice B m d) (.slice D l e) (.slice I ni ci)).three
   have BZ:=Zaj HB.out (show w.heap.size≤w.heap.size+1+1+1 by omega) (.slice B m d) (.slice D l e) (.slice I ni ci)
   exact bodyPost_ret (v:=.tuple #[.agg #[.slice B m d,.slice D l e,.slice I ni ci],.int .i64 0,.int .i64 3]) (by simp[results,Tryz.results57,go_sem,r0,r1,r2]) rfl (by rw[FN.out];exact⟨B,m,d,D,l,e,I,ni,ci,rfl,XO.out.keep BZ,BZ,.inl ⟨rfl,rfl⟩,.inl ⟨rfl,rfl⟩,.inl ⟨rfl,rfl⟩⟩)
end Go.Proofs.YtfmnagcglhlicaaGreat
