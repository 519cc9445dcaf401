/- The contract of desk.begin. Conditions: the net, the roles and the desk read as lists. -/
import Derived.Test.YtfmnagcglhlicaaGreatTopCrashK49
set_option maxRecDepth 100000
set_option maxHeartbeats 2000000
namespace Go.Proofs.YtfmnagcglhlicaaGreat
open Go.RowKit
def Old (w:World)(A0:OAd)(n0:Nat)(A:OAd)(n:Nat):Prop:=(A=A0∧n=n0)∨dK w A
theorem Old.far {α:Type}{R:World→(Nat→Value)→α→Prop}{sz:Nat}{w W:World}{A0 A:OAd}{n0 c0 n b:Nat}{xs:List α}(h:Old W A0 n0 A n)(hx:Sl R sz w A0 n0 c0 xs)(h1:w.heap.size≤b)(h2:b<W.heap.size):∀b' off,A=some ⟨b',off,none⟩→0<n→b'≠b:=by
 intro b' off e h0;rcases h with⟨e1,e2⟩|h
 ·subst e2;obtain⟨b2,o2,e3,hl,_⟩:=hx.cells h0;rw[←e1,e]at e3;injection e3 with e3;injection e3 with e3;omega
 ·have h3:W.heap.size≤b':=h _ e;omega
def Qs (B0:OAd)(m0:Nat)(D0:OAd)(l0:Nat)(I0:OAd)(n0:Nat)(p:aX×Int×Int)(w:World)(e:Ending)(w':World):Prop :=
 ∃B m d D l f I n c,e=.returned (.tuple #[.agg #[.slice B m d,.slice D l f,.slice I n c],.int .i64 p.2.1,.int .i64 p.2.2])∧f7 w' B m d D l f I n c p.1∧Below w.heap.size w w'∧Old w B0 m0 B m∧Old w D0 l0 D l∧Old w I0 n0 I n
theorem Sl.beside {α:Type}{R:World→(Nat→Value)→α→Prop}{sz:Nat}{w w':World}{b ty:Nat}{cs:Array Value}{A:OAd}{n c:Nat}{xs:List α}(h:Sl R sz w A n c xs)(hsz:0<sz)(hR:∀vs x,R w vs x→(∃i,vs 0=.int .i64 i)∧R w' vs x)(hb:Box w b ty cs)(hcs:∀(j:Nat) (x:Int),cs[j]?≠some (.int .i64 x))(hw:aK b w w'):Sl R sz w' A n c xs :=
 ⟨h.len,h.le,h.cap,h.small,h.nul,fun hn=>by
  obtain⟨b',off,e,hlt,hc⟩:=h.cells hn;refine⟨b',off,e,by rw[hw.1];exact hlt,fun i x hx=>?_⟩;obtain⟨vs,h1,h2⟩:=hc i x hx;obtain⟨⟨v,hv⟩,h3⟩:=hR vs x h2;refine⟨vs,fun j hj=>?_,h3⟩;by_cases hbb:b'=b
  ·subst hbb;exfalso
   have:=h1 0 hsz;rw[hb.cell,hv]at this;exact hcs _ _ this
  ·rw[hw.cell (by simpa using hbb)];exact h1 j hj⟩
theorem dH {A B C:OAd}{n c m d l e:Nat}:∀(j:Nat) (x:Int),(#[Value.slice A n c,Value.slice B m d,Value.slice C l e])[j]?≠some (.int .i64 x)
 | 0,_=>by simp
 | 1,_=>by simp
 | 2,_=>by simp
 | _+3,_=>by simp
theorem aK.set3 (w:World)(b:Nat)(u v z:Value):aK b w (((w.setCell ⟨b,0,none⟩ u).setCell ⟨b,1,none⟩ v).setCell ⟨b,2,none⟩ z):=((aK.set _ _ _ _).trans (aK.set _ _ _ _)).trans (aK.set _ _ _ _)
theorem f7.beside {w w':World}{b ty:Nat}{cs:Array Value}{B D I:OAd}{m d l e n c:Nat}{k:aX}(h:f7 w B m d D l e I n c k)(hb:Box w b ty cs)(hcs:∀(j:Nat) (x:Int),cs[j]?≠some (.int .i64 x))(hw:aK b w w'):f7 w' B m d D l e I n c k :=
 ⟨h.mark.beside hb hcs hw,h.busy.beside hb hcs hw,Sl.beside h.items (by omega) (fun vs x hx=>⟨⟨_,hx.1⟩,hx⟩) hb hcs hw⟩
theorem Em {N:aS}{t:Nat}{T:aI}(h:N.trans[t]?=some T):kU N (t:Int)=T.label:=by
 unfold kU;simp[List.getD_eq_getElem?_getD,h]
theorem LJ {N:aS}{roles:LLi}{k:aX}{o:POp}(h:¬inT N o.tran):iO N roles k o=(k,0,3):=by rw[iO,if_neg h]
theorem LO {N:aS}{roles:LLi}{k:aX}{o:POp}(h:inT N o.tran)(g:AD roles o.user (kU N o.tran)=false):iO N roles k o=(k,0,6):=by rw[iO,if_pos h,if_neg (by rw[g];decide)]
theorem LP {N:aS}{roles:LLi}{k:aX}{o:POp}(h:inT N o.tran)(g:AD roles o.user (kU N o.tran)=true)(hd:(doL N k.case_ 2 o.tran).2≠0):iO N roles k o=(k,0,(doL N k.case_ 2 o.tran).2):=by rw[iO,if_pos h,if_pos g,if_neg hd]
theorem LQ {N:aS}{roles:LLi}{k:aX}{o:POp}(h:inT N o.tran)(g:AD roles o.user (kU N o.tran)=true)(hd:(doL N k.case_ 2 o.tran).2=0):iO N roles k o=(⟨(doL N k.case_ 2 o.tran).1,k.items++[⟨o.user,o.tran,true⟩]⟩,(k.items.length:Int),0):=by rw[iO,if_pos h,if_pos g,if_pos hd]
theorem nC {w:World}{A:OAd}{n c:Nat}(h:n≤c) :
  Calls Tryz.prog 105 #[.slice A n c] w fun e w'=>e=.returned (.slice A n n)∧w=w':=by
 go_enter Tryz.func105,Tryz.ntmps105
 have hi:(n:Int)≤(c:Int):=by omega
 go_wp2
 go_ret
 exact⟨by first|rfl|simp,rfl⟩
theorem vX {w:World}{P:Int}{A R B D I:OAd}{n c r q m d l e ni ci:Nat}{ts:List aI}{roles:LLi}{k:aX}(o:POp)(h:bK w A n c ts)(g:bT w R r q roles)(x:f7 w B m d D l e I ni ci k)(hl:l≤17592186044416)(hni:ni≤5864062014634) :
  Calls Tryz.prog 57 #[.agg #[.int .i64 P,.slice A n c,.slice R r q],.agg #[.slice B m d,.slice D l e,.slice I ni ci],.agg #[.int .i64 o.kind,.int .i64 o.user,.int .i64 o.tran,.int .i64 o.item,.int .i64 o.to_]] w (Qs B m D l I ni (iO ⟨P,ts⟩ roles k o) w):=by
 obtain⟨it,hit⟩:∃it,o.tran=it:=⟨_,rfl⟩;obtain⟨ou,hou⟩:∃it,o.user=it:=⟨_,rfl⟩;have HIT:=aA hit;have HOU:=aA hou;rw[hit,hou];generalize hw:(((w.alloc (.cells #[.int .i64 P,.slice A n c,.slice R r q] 75)).alloc (.cells #[.slice B m d,.slice D l e,.slice I ni ci] 33)).alloc (.cells #[.int .i64 o.kind,.int .i64 ou,.int .i64 it,.int .i64 o.item,.int .i64 o.to_] 45)).alloc (.cells #[.slice none 0 0,.slice none 0 0,.slice none 0 0] 33)=w0;have HB:=aA (show Below w.heap.size w w0 by rw[←hw];exact((((Below.refl _ _).alloc (Nat.le_refl _) _).alloc (by simp) _).alloc (by simp;omega) _).alloc (by simp;omega) _);have X0:=aA (show Box w0 w.heap.size 75 #[.int .i64 P,.slice A n c,.slice R r q] by rw[←hw];exact(((Box.new _ _ _).old _).old _).old _);have X1:=aA (show Box w0 (w.heap.size+1) 33 #[.slice B m d,.slice D l e,.slice I ni ci] by rw[←hw];exact((Box.newAt (by simp) _ _).old _).old _);have X2:=aA (show Box w0 (w.heap.size+1+1) 45 #[.int .i64 o.kind,.int .i64 ou,.int .i64 it,.int .i64 o.item,.int .i64 o.to_] by rw[←hw];exact(Box.newAt (by simp) _ _).old _);have X3:=aA (show Box w0 (w.heap.size+1+1+1) 33 #[.slice none 0 0,.slice none 0 0,.slice none 0 0] by rw[←hw];exact Box.newAt (by simp) _ _);have H:=aA (h.keep HB.o);have G:=aA (Sl.keep bH.kept g HB.o);have XO:=aA x;have hn:=h.small;have HL:=aA h.len;clear h g x hit hou;go_enter Tryz.func57,Tryz.ntmps57
 go_upto_region 1 with fail
 clear hw;obtain⟨a0,a1,a2⟩:=X0.o.three;obtain⟨c0,c1,c2⟩:=X1.o.three;obtain⟨y0,y1,y2,y3,y4⟩:=X2.o.five;obtain⟨z0,z1,z2⟩:=X3.o.three;have f0:=X3.o.frozen 0;have f1:=X3.o.frozen 1;have f2:=X3.o.frozen 2;have KX:=aA (show w0.heap.size≤w0.heap.size from Nat.le_refl _);by_cases hr:0≤it∧it<(n:Int)
 ·obtain⟨j,rfl⟩:∃j:Nat,it=(j:Int):=⟨it.toNat,by omega⟩;have hjn:j<n:=by omega
  have hji:(j:Int)<(n:Int):=by omega
  have INT:=aA (show inT ⟨P,ts⟩ o.tran by rw[HIT.o];exact⟨by omega,by show(j:Int)<(ts.length:Int);rw[HL.o];exact hji⟩);obtain⟨b,off,t,A1,n1,c1',A2,n2,c2',rfl,hb,ht,q0,q1,q2,_⟩:=bK.get H.o hjn;have LB:=aA (show kU ⟨P,ts⟩ o.tran=t.label by rw[HIT.o];exact Em ht.o);clear hr q1 q2;obtain⟨lb,hlb⟩:∃lb,t.label=lb:=⟨_,rfl⟩;rw[hlb]at q0 LB;obtain⟨mv,hmv⟩:∃v,AD roles ou lb=v:=⟨_,rfl⟩;have CM:=aA (fun(w':World) (hb:Below w0.heap.size w0 w')=>Eh (P:=P) (A:=some ⟨b,off,none⟩) (n:=n) (c:=c) ou lb (Sl.keep bH.kept G.o hb));simp only[hmv]at CM;have HMV:=aA (show AD roles o.user (kU ⟨P,ts⟩ o.tran)=mv by rw[LB.o,HOU.o];exact hmv);clear hmv hlb;have KEEP:=aA (show ∀w',Below w0.heap.size w0 w'→w'.cell? ⟨w.heap.size,0,none⟩=some (.int .i64 P)∧w'.cell? ⟨w.heap.size,1,none⟩=some (.slice (some ⟨b,off,none⟩) n c)∧w'.cell? ⟨w.heap.size,2,none⟩=some (.slice R r q)∧w'.cell? ⟨w.heap.size+1+1,1,none⟩=some (.int .i64 ou)∧w'.cell? ⟨w.heap.size+1+1,2,none⟩=some (.int .i64 (j:Int))∧w'.cell? ⟨b,off+j*3,none⟩=some (.int .i64 lb)from fun w' hb'=>by
   obtain⟨e0,e1,e2⟩:=(X0.o.keep hb').three;obtain⟨_,g1,g2,_,_⟩:=(X2.o.keep hb').five;exact⟨e0,e1,e2,g1,g2,(hb'.cell (p:=⟨b,off+j*3,none⟩) hb).trans q0⟩)
  have DR:=aA ((Below.refl w0.heap.size w0).drew);go_upto_region 3 with fail
  cases mv
  ·have FN:=aA (LO INT.o HMV.o (k:=k));go_region_held3 (fun w'=>w'.cell? ⟨w.heap.size,0,none⟩=some (.int .i64 P)∧w'.cell? ⟨w.heap.size,1,none⟩=some (.slice (some ⟨b,off,none⟩) n c)∧w'.cell? ⟨w.heap.size,2,none⟩=some (.slice R r q)∧w'.cell? ⟨w.heap.size+1+1,1,none⟩=some (.int .i64 ou)∧w'.cell? ⟨w.heap.size+1+1,2,none⟩=some (.int .i64 (j:Int))∧w'.cell? ⟨b,off+j*3,none⟩=some (.int .i64 lb))
    (first|go_keep)
    (first|(go_at_call 104;(with_reducible refine(CM.o _ DR.o).mono ?_);rintro e1 w1 ⟨rfl,hb1⟩;have F1:=aA (DR.o.trans (hb1.mono DR.o.size));clear hb1 a0 a1 a2 c0 c1 c2 y0 y1 y2 y3 y4 z0 z1 z2 q0;obtain⟨a0,a1,a2,y1,y2,q0⟩:=KEEP.o w1 F1.o))
   all_goals
    clear a0 a1 a2 y1 y2 q0 f0 f1 f2;have Y0:=aA (X0.o.keep F1.o);have Y1:=aA (X1.o.keep F1.o);have Y2:=aA (X2.o.keep F1.o);have Y3:=aA (X3.o.keep F1.o);have HH:=aA (H.o.keep F1.o);have BB:=aA (HB.o.trans (F1.o.mono HB.o.size));have SZ:=aA (show w.heap.size+1+1+1+1≤w1.heap.size from Y3.o.lt);clear X0 X1 X2 X3 H HB F1 CM KEEP DR KX G;obtain⟨a0,a1,a2⟩:=Y0.o.three;obtain⟨c0,c1,c2⟩:=Y1.o.three;obtain⟨y0,y1,y2,y3,y4⟩:=Y2.o.five;obtain⟨z0,z1,z2⟩:=Y3.o.three;have f0:=Y3.o.frozen 0;have f1:=Y3.o.frozen 1;have f2:=Y3.o.frozen 2;go_wp2
    obtain⟨r0,r1,r2⟩:=(Y3.o.set3 (.slice B m d) (.slice D l e) (.slice I ni ci)).three;have BZ:=aG BB.o (show w.heap.size≤w.heap.size+1+1+1 by omega) (.slice B m d) (.slice D l e) (.slice I ni ci);exact bodyPost_ret (v:=.tuple #[.agg #[.slice B m d,.slice D l e,.slice I ni ci],.int .i64 0,.int .i64 6]) (by simp[results,Tryz.results57,go_sem,r0,r1,r2]) rfl (by rw[FN.o];exact⟨B,m,d,D,l,e,I,ni,ci,rfl,XO.o.keep BZ,BZ,.inl ⟨rfl,rfl⟩,.inl ⟨rfl,rfl⟩,.inl ⟨rfl,rfl⟩⟩)
  ·have CD:=aA (fun(w':World) (hb:Below w0.heap.size w0 w')=>qZ (P:=P) 2 (j:Int) (H.o.keep hb) ((XO.o.keep (HB.o.trans (hb.mono HB.o.size))).mark) ((XO.o.keep (HB.o.trans (hb.mono HB.o.size))).busy) hl);obtain⟨p,hp⟩:∃p,doL ⟨P,ts⟩ k.case_ 2 (j:Int)=p:=⟨_,rfl⟩;simp only[hp]at CD;have HP:=aA (show doL ⟨P,ts⟩ k.case_ 2 o.tran=p by rw[HIT.o];exact hp);clear hp;have CD2:=aA (fun(w1:World) (hb:Below w0.heap.size w0 w1)=>CD.o w1 hb);clear CD;go_region_held3 (fun w'=>w'.cell? ⟨w.heap.size,0,none⟩=some (.int .i64 P)∧w'.cell? ⟨w.heap.size,1,none⟩=some (.slice (some ⟨b,off,none⟩) n c)∧w'.cell? ⟨w.heap.size,2,none⟩=some (.slice R r q)∧w'.cell? ⟨w.heap.size+1+1,1,none⟩=some (.int .i64 ou)∧w'.cell? ⟨w.heap.size+1+1,2,none⟩=some (.int .i64 (j:Int))∧w'.cell? ⟨b,off+j*3,none⟩=some (.int .i64 lb))
    (first|go_keep)
    (first|(go_at_call 104;(with_reducible refine(CM.o _ DR.o).mono ?_);rintro e1 w1 ⟨rfl,hb1⟩;have F1:=aA (DR.o.trans (hb1.mono DR.o.size));clear hb1 a0 a1 a2 c0 c1 c2 y0 y1 y2 y3 y4 z0 z1 z2 q0;obtain⟨a0,a1,a2,y1,y2,q0⟩:=KEEP.o w1 F1.o))
   all_goals
    clear a0 a1 a2 y1 y2 q0 f0 f1 f2;have Y0:=aA (X0.o.keep F1.o);have Y1:=aA (X1.o.keep F1.o);have Y2:=aA (X2.o.keep F1.o);have Y3:=aA (X3.o.keep F1.o);have HH:=aA (H.o.keep F1.o);have BB:=aA (HB.o.trans (F1.o.mono HB.o.size));have SZ:=aA (show w.heap.size+1+1+1+1≤w1.heap.size from Y3.o.lt);have CX:=aA (CD2.o _ F1.o);clear CD2 X0 X1 X2 X3 H HB F1 CM KEEP DR KX G;obtain⟨a0,a1,a2⟩:=Y0.o.three;obtain⟨c0,c1,c2⟩:=Y1.o.three;obtain⟨y0,y1,y2,y3,y4⟩:=Y2.o.five;obtain⟨z0,z1,z2⟩:=Y3.o.three;have f0:=Y3.o.frozen 0;have f1:=Y3.o.frozen 1;have f2:=Y3.o.frozen 2;go_upto_region 6 with(go_at_call 39;(with_reducible refine CX.o.mono ?_);rintro e2 w2 ⟨A3,n3,k3,A4,n4,k4,rfl,i3,i4,hb2,fr3,fr4⟩;have FR3:=aA (fr3.mono (show w.heap.size≤w1.heap.size by have:=SZ.o;omega));have FR4:=aA (fr4.mono (show w.heap.size≤w1.heap.size by have:=SZ.o;omega));have I3:=aA i3;have I4:=aA i4;have B2:=aA hb2;clear i3 i4 hb2 fr3 fr4)
    have XC:=aA (Box.new w2 #[.slice A3 n3 k3,.slice A4 n4 k4] 30);have NB:=eS w2 (.cells #[.slice A3 n3 k3,.slice A4 n4 k4] 30);have bb:=B2.o.trans (NB.mono B2.o.size);have W1:=aA (Y1.o.keep bb);have W2:=aA (Y2.o.keep bb);have W3:=aA (Y3.o.keep bb);have J3:=aA (I3.o.keep NB);have J4:=aA (I4.o.keep NB);have BC:=aA (BB.o.trans (bb.mono BB.o.size));clear Y0 Y1 Y2 Y3 I3 I4 B2 NB bb a0 a1 a2 c0 c1 c2 y0 y1 y2 y3 y4 z0 z1 z2 f0 f1 f2 HH BB CX SZ;generalize w2.alloc (.cells #[.slice A3 n3 k3,.slice A4 n4 k4] 30)=w3 at *
    generalize w2.heap.size=bx at *
    obtain⟨c0,c1,c2⟩:=W1.o.three;obtain⟨z0,z1,z2⟩:=W3.o.three;have f0:=W3.o.frozen 0;have f1:=W3.o.frozen 1;have f2:=W3.o.frozen 2;by_cases he:p.2=0
    ·have FN:=aA (LQ INT.o HMV.o (k:=k) (by rw[HP.o];exact he));rw[HP.o,HIT.o,HOU.o]at FN;have hee:(p.2 != 0)=false:=by simpa using he
     clear he;obtain⟨_,y1,y2,_,_⟩:=W2.o.five;go_upto_region 8 with fail
     clear z0 z1 z2 f0 f1 f2 c0 c1 hee;have XI:=aA (XO.o.items);have hle:=XO.o.items.le;have hcp:=XO.o.items.cap;have S0:w3.drew.cell? ⟨w.heap.size+1,2,none⟩=some (.slice I ni ci)∧w3.drew.cell? ⟨w.heap.size+1+1,1,none⟩=some (.int .i64 ou)∧w3.drew.cell? ⟨w.heap.size+1+1,2,none⟩=some (.int .i64 (j:Int)):=⟨c2,y1,y2⟩;have DR:=aA ((Below.refl w3.heap.size w3).drew);have V2:=aA (W2.o.keep DR.o);have V3:=aA (W3.o.keep DR.o);have VC:=aA (XC.o.keep DR.o);have L3:=aA (J3.o.keep DR.o);have L4:=aA (J4.o.keep DR.o);have BD:=aA (BC.o.trans (DR.o.mono BC.o.size));have V1:=aA (W1.o.keep DR.o);refine aF 9 (.takes [0,1,3,4,5,6,7] (.two 2 (.one 8 (.fins [9,10] .done)) 8 (.one 2 (.fins [9,10] .done)))) (fun w'=>w'.cell? ⟨w.heap.size+1,2,none⟩=some (.slice I ni ci)∧w'.cell? ⟨w.heap.size+1+1,1,none⟩=some (.int .i64 ou)∧w'.cell? ⟨w.heap.size+1+1,2,none⟩=some (.int .i64 (j:Int))) (by kernel_rfl) (by kernel_rfl) (by kernel_rfl) (fun _ _ _ _ _ h=>h) S0 (fun hH=>?_);simp only[Scr.takes,Scr.fins];clear W1 W2 W3 XC J3 J4 BC DR c2 y1 y2 S0;generalize w3.drew=w4 at *
     iterate 7
      refine aH (v:=?_) rfl (by rfl) hH (fun w' hSw=>?_) ?_
      rotate_left
      ·(go_simp;try with_reducible rfl)
      simp only[Act.put,aL,aM,aN]
     have NX:=aA (eS w4 (.cells #[.int .i64 ou,.int .i64 (j:Int),.bool true] 42));have RD:=aA (a6.item (w:=w4) (x:=⟨ou,(j:Int),true⟩));have XI4:=aA (show Hm w4 I ni ni k.items from⟨XI.o.len,Nat.le_refl _,by omega,XI.o.small,fun e=>by have:=XI.o.nul e;omega,(Sl.keep iL.kept XI.o BD.o).cells⟩);have hc2:=hH;refine AY rfl rfl (fun K hK=>?_) (fun K hK=>?_)
     ·go_simp;go_at_call 105
      (with_reducible refine(nC hle).mono ?_)
      rintro e5 w5 ⟨rfl,rfl⟩;refine hK.out _ _ hH (fun hH=>?_);clear hK;try simp only[Act.put,aL,aM,aN]
      refine bI rfl (fun K hK=>?_);go_simp
      refine hK.out _ _ (by simp[*,World.cell?_alloc_some]) (fun _=>?_);clear hK;refine bF rfl (fun K hK=>?_);refine sR Hn iL.good rfl (.tmp 56) (.tmp 62) rfl [⟨ou,(j:Int),true⟩] #[.int .i64 ou,.int .i64 (j:Int),.bool true] rfl rfl (by first|rfl|simp) rfl rfl (by omega) (by simp[Value.oneCell']) XI4.o RD.o rfl (Below.refl w4.heap.size w4) (Nat.le_refl _) (by omega) (by omega) ?_;intro g cap w6 own6 hb6;have hgw:w.heap.size≤g:=Nat.le_trans BD.o.size (own6.lt g rfl).1;obtain⟨A6,k6,hv6,s6⟩:=own6.sl (by omega);injection hv6 with e6 _ e7;subst e6 e7;have U3:=aA (V3.o.keep hb6);have UW:=aA (show f7 w6 A3 n3 k3 A4 n4 k4 (some ⟨g,0,none⟩) (ni+1) cap ⟨p.1,k.items++[⟨ou,(j:Int),true⟩]⟩from⟨L3.o.keep hb6,L4.o.keep hb6,s6⟩);have BU:=aA (BD.o.trans (hb6.mono BD.o.size));obtain⟨t0,t1⟩:=(VC.o.keep hb6).two;obtain⟨z0,z1,z2⟩:=U3.o.three;have f0:=U3.o.frozen 0;have f1:=U3.o.frozen 1;have f2:=U3.o.frozen 2;clear own6 hb6 s6 V1 V2 V3 VC L3 L4 BD hH hc2;refine hK.out _ _ ?_;clear hK;simp only[Act.put,aL,aM,aN];refine bF rfl (fun K hK=>?_);go_simp
      refine hK.out _ _ ?_;clear hK;simp only[dJ];go_wp2
      obtain⟨r0,r1,r2⟩:=(U3.o.set3 (.slice A3 n3 k3) (.slice A4 n4 k4) (.slice (some ⟨g,0,none⟩) (ni+1) cap)).three;exact bodyPost_ret (v:=.tuple #[.agg #[.slice A3 n3 k3,.slice A4 n4 k4,.slice (some ⟨g,0,none⟩) (ni+1) cap],.int .i64 ni,.int .i64 0]) (by simp[results,Tryz.results57,go_sem,r0,r1,r2]) rfl (by rw[FN.o,XI.o.len];exact⟨A3,n3,k3,A4,n4,k4,_,ni+1,cap,rfl,UW.o.beside U3.o dH (aK.set3 _ _ _ _ _),aG BU.o (by omega) _ _ _,.inr FR3.o,.inr FR4.o,.inr (dK.at hgw)⟩)
     ·go_simp
      refine hK.out _ _ (by simp[*,World.cell?_alloc_some]) (fun hH=>?_);clear hK;try simp only[Act.put,aL,aM,aN]
      refine bI rfl (fun K hK=>?_);go_simp;go_at_call 105
      (with_reducible refine(nC hle).mono ?_)
      rintro e5 w5 ⟨rfl,rfl⟩;refine hK.out _ _ hH (fun _=>?_);clear hK;try simp only[Act.put,aL,aM,aN]
      refine bF rfl (fun K hK=>?_);refine sR Hn iL.good rfl (.tmp 56) (.tmp 62) rfl [⟨ou,(j:Int),true⟩] #[.int .i64 ou,.int .i64 (j:Int),.bool true] rfl rfl (by first|rfl|simp) rfl rfl (by omega) (by simp[Value.oneCell']) XI4.o RD.o rfl (Below.refl w4.heap.size w4) (Nat.le_refl _) (by omega) (by omega) ?_;intro g cap w6 own6 hb6;have hgw:w.heap.size≤g:=Nat.le_trans BD.o.size (own6.lt g rfl).1;obtain⟨A6,k6,hv6,s6⟩:=own6.sl (by omega);injection hv6 with e6 _ e7;subst e6 e7;have U3:=aA (V3.o.keep hb6);have UW:=aA (show f7 w6 A3 n3 k3 A4 n4 k4 (some ⟨g,0,none⟩) (ni+1) cap ⟨p.1,k.items++[⟨ou,(j:Int),true⟩]⟩from⟨L3.o.keep hb6,L4.o.keep hb6,s6⟩);have BU:=aA (BD.o.trans (hb6.mono BD.o.size));obtain⟨t0,t1⟩:=(VC.o.keep hb6).two;obtain⟨z0,z1,z2⟩:=U3.o.three;have f0:=U3.o.frozen 0;have f1:=U3.o.frozen 1;have f2:=U3.o.frozen 2;clear own6 hb6 s6 V1 V2 V3 VC L3 L4 BD hH hc2;refine hK.out _ _ ?_;clear hK;simp only[Act.put,aL,aM,aN];refine bF rfl (fun K hK=>?_);go_simp
      refine hK.out _ _ ?_;clear hK;simp only[dJ];go_wp2
      obtain⟨r0,r1,r2⟩:=(U3.o.set3 (.slice A3 n3 k3) (.slice A4 n4 k4) (.slice (some ⟨g,0,none⟩) (ni+1) cap)).three;exact bodyPost_ret (v:=.tuple #[.agg #[.slice A3 n3 k3,.slice A4 n4 k4,.slice (some ⟨g,0,none⟩) (ni+1) cap],.int .i64 ni,.int .i64 0]) (by simp[results,Tryz.results57,go_sem,r0,r1,r2]) rfl (by rw[FN.o,XI.o.len];exact⟨A3,n3,k3,A4,n4,k4,_,ni+1,cap,rfl,UW.o.beside U3.o dH (aK.set3 _ _ _ _ _),aG BU.o (by omega) _ _ _,.inr FR3.o,.inr FR4.o,.inr (dK.at hgw)⟩)
    ·have FN:=aA (LP INT.o HMV.o (k:=k) (by rw[HP.o];exact he));rw[HP.o]at FN;have hee:(p.2 != 0)=true:=by simpa using he
     clear he;go_wp2
     obtain⟨r0,r1,r2⟩:=(W3.o.set3 (.slice B m d) (.slice D l e) (.slice I ni ci)).three;have BZ:=aG BC.o (show w.heap.size≤w.heap.size+1+1+1 by omega) (.slice B m d) (.slice D l e) (.slice I ni ci);exact bodyPost_ret (v:=.tuple #[.agg #[.slice B m d,.slice D l e,.slice I ni ci],.int .i64 0,.int .i64 p.2]) (by simp[results,Tryz.results57,go_sem,r0,r1,r2]) rfl (by rw[FN.o];exact⟨B,m,d,D,l,e,I,ni,ci,rfl,XO.o.keep BZ,BZ,.inl ⟨rfl,rfl⟩,.inl ⟨rfl,rfl⟩,.inl ⟨rfl,rfl⟩⟩)
 ·have FN:=aA (show iO ⟨P,ts⟩ roles k o=(k,0,3)from LJ (by rw[HIT.o];unfold inT;show ¬(0≤it∧it<(ts.length:Int));rw[HL.o];exact hr));by_cases h0:it<0
  ·clear hr;go_wp2
   obtain⟨r0,r1,r2⟩:=(X3.o.set3 (.slice B m d) (.slice D l e) (.slice I ni ci)).three;have BZ:=aG HB.o (show w.heap.size≤w.heap.size+1+1+1 by omega) (.slice B m d) (.slice D l e) (.slice I ni ci);exact bodyPost_ret (v:=.tuple #[.agg #[.slice B m d,.slice D l e,.slice I ni ci],.int .i64 0,.int .i64 3]) (by simp[results,Tryz.results57,go_sem,r0,r1,r2]) rfl (by rw[FN.o];exact⟨B,m,d,D,l,e,I,ni,ci,rfl,XO.o.keep BZ,BZ,.inl ⟨rfl,rfl⟩,.inl ⟨rfl,rfl⟩,.inl ⟨rfl,rfl⟩⟩)
  ·have h1:(n:Int)≤it:=by omega
   clear hr;go_wp2
   obtain⟨r0,r1,r2⟩:=(X3.o.set3 (.slice B m d) (.slice D l e) (.slice I ni ci)).three;have BZ:=aG HB.o (show w.heap.size≤w.heap.size+1+1+1 by omega) (.slice B m d) (.slice D l e) (.slice I ni ci);exact bodyPost_ret (v:=.tuple #[.agg #[.slice B m d,.slice D l e,.slice I ni ci],.int .i64 0,.int .i64 3]) (by simp[results,Tryz.results57,go_sem,r0,r1,r2]) rfl (by rw[FN.o];exact⟨B,m,d,D,l,e,I,ni,ci,rfl,XO.o.keep BZ,BZ,.inl ⟨rfl,rfl⟩,.inl ⟨rfl,rfl⟩,.inl ⟨rfl,rfl⟩⟩)
end Go.Proofs.YtfmnagcglhlicaaGreat
