/- The contract of desk.do. Conditions: the net, the roles and the desk read as lists; each item is of a transition. -/
import Derived.Test.YtfmnagcglhlicaaGreatTopSaidK51
set_option maxRecDepth 100000
namespace Go.Proofs.YtfmnagcglhlicaaGreat
open Go.RowKit
theorem Old.down {w W:World}{A0 A:Option Addr}{n0 n:Nat}(h:Old W A0 n0 A n)(hs:w.heap.size≤W.heap.size):Old w A0 n0 A n:=h.imp id fun h=>h.mono hs
theorem Zcm.set {w:World}{B D I:Option Addr}{m d l e n c:Nat}{k:ZaB}{p:Addr}{v:Value}(h:Zcm w B m d D l e I n c k)(h1:∀b off,B=some ⟨b,off,none⟩→0<m→b≠p.block)(h2:∀b off,D=some ⟨b,off,none⟩→0<l→b≠p.block)(h3:∀b off,I=some ⟨b,off,none⟩→0<n→b≠p.block):Zcm (w.setCell p v) B m d D l e I n c k :=
 ⟨Zbf h.mark h1,Zbf h.busy h2,⟨h.items.len,h.items.le,h.items.cap,h.items.small,h.items.nul,fun hn=>by
  obtain⟨b,off,e,hlt,hc⟩:=h.items.cells hn
  have hbg:=h3 b off e hn
  refine⟨b,off,e,by simpa [World.setCell] using hlt,fun q x hx=>?_⟩
  obtain⟨vs,h1,h2⟩:=hc q x hx
  refine⟨vs,fun t ht=>?_,h2⟩
  rw[World.cell?_setCell_other _ _ _ _ (fun e=>hbg (congrArg Addr.block e).symm)]
  exact h1 t ht⟩⟩
def ZsQ (B0:Option Addr)(m0:Nat)(D0:Option Addr)(l0:Nat)(I0:Option Addr)(n0:Nat)(p:ZaB×Int×Int)(w:World)(e:Ending)(w':World):Prop :=
 ∃B m d D l f I n c,e=.returned (.tuple #[.agg #[.slice B m d,.slice D l f,.slice I n c],.agg #[.int .i64 p.2.2,.int .i64 p.2.1]])∧Zcm w' B m d D l f I n c p.1∧Below w.heap.size w w'∧Old w B0 m0 B m∧Old w D0 l0 D l∧Old w I0 n0 I n
theorem ZsR {N:Zau}{roles:List (List Int)}{k:ZaB}{o:POp}(h:o.kind=1):Za4 N roles k o=ZcL N roles k o:=by rw[Za4,if_pos h]
theorem Zmi {N:Zau}{roles:List (List Int)}{k:ZaB}{o:POp}(h:o.kind=2∨o.kind=3∨o.kind=4):Za4 N roles k o=ZbB N roles k o:=by rw[Za4,if_neg (by omega),if_pos h]
theorem ZsS {N:Zau}{roles:List (List Int)}{k:ZaB}{o:POp}(h:o.kind=5):Za4 N roles k o=ZjE N k o:=by rw[Za4,if_neg (by omega),if_neg (by omega),if_pos h]
theorem ZrG {N:Zau}{roles:List (List Int)}{k:ZaB}{o:POp}(h1:o.kind≠1)(h2:o.kind≠2)(h3:o.kind≠3)(h4:o.kind≠4)(h5:o.kind≠5):Za4 N roles k o=(k,0,5):=by rw[Za4,if_neg h1,if_neg (by omega),if_neg h5]
theorem Zqd {N:Zau}{k:ZaB}{o:POp}{p:Zay×Int}(hp:doL N k.case_ 1 o.tran=p)(he:p.2=0):ZjE N k o=(⟨p.1,k.items⟩,0,0):=by rw[ZjE,hp,if_pos he]
theorem Zqe {N:Zau}{k:ZaB}{o:POp}{p:Zay×Int}(hp:doL N k.case_ 1 o.tran=p)(he:p.2≠0):ZjE N k o=(k,0,p.2):=by rw[ZjE,hp,if_neg he]
set_option maxHeartbeats 8000000 in
theorem Zk7 {w:World}{P:Int}{A R B D I:Option Addr}{n c r q m d l e ni ci:Nat}{ts:List Zak}{roles:List (List Int)}{k:ZaB}(o:POp)(h:ZaP w A n c ts)(g:ZaS w R r q roles)(x:Zcm w B m d D l e I ni ci k)(hl:l≤17592186044416)(hni:ni≤5864062014634)(hin:∀it∈k.items,inT ⟨P,ts⟩ it.tran) :
  Calls Tryz.prog 21 #[.agg #[.int .i64 P,.slice A n c,.slice R r q],.agg #[.slice B m d,.slice D l e,.slice I ni ci],.agg #[.int .i64 o.kind,.int .i64 o.user,.int .i64 o.tran,.int .i64 o.item,.int .i64 o.to_]] w (ZsQ B m D l I ni (Za4 ⟨P,ts⟩ roles k o) w):=by
 obtain⟨kk,hkk⟩:∃it,o.kind=it:=⟨_,rfl⟩
 obtain⟨tr,htr⟩:∃it,o.tran=it:=⟨_,rfl⟩
 have HKK:=Zaa hkk
 have HTR:=Zaa htr
 have CB:=Zaa (fun(w':World) (hb:Below w.heap.size w w')=>Zh1 (P:=P) o (h.keep hb) (Sl.keep ZaL.kept g hb) (x.keep hb) hl hni)
 have CC:=Zaa (fun(w':World) (hb:Below w.heap.size w w')=>ZgU (P:=P) o (h.keep hb) (Sl.keep ZaL.kept g hb) (x.keep hb) hl hni hin)
 have CD:=Zaa (fun(w':World) (hb:Below w.heap.size w w')=>Zg6 (P:=P) 1 o.tran (h.keep hb) (x.mark.keep hb) (x.busy.keep hb) hl)
 rw[hkk,htr]at CB CC
 rw[htr]at CD
 rw[hkk,htr]
 generalize hw:((((w.alloc (.cells #[.int .i64 P,.slice A n c,.slice R r q] 75)).alloc (.cells #[.slice B m d,.slice D l e,.slice I ni ci] 33)).alloc (.cells #[.int .i64 kk,.int .i64 o.user,.int .i64 tr,.int .i64 o.item,.int .i64 o.to_] 45)).alloc (.cells #[.slice none 0 0,.slice none 0 0,.slice none 0 0] 33)).alloc (.cells #[.int .i64 0,.int .i64 0] 47)=w0
 have HB:=Zaa (show Below w.heap.size w w0 by rw[←hw];exact(((((Below.refl _ _).alloc (Nat.le_refl _) _).alloc (by simp) _).alloc (by simp;omega) _).alloc (by simp;omega) _).alloc (by simp;omega) _)
 have X0:=Zaa (show Box w0 w.heap.size 75 #[.int .i64 P,.slice A n c,.slice R r q] by rw[←hw];exact((((Box.new _ _ _).old _).old _).old _).old _)
 have X1:=Zaa (show Box w0 (w.heap.size+1) 33 #[.slice B m d,.slice D l e,.slice I ni ci] by rw[←hw];exact(((Box.newAt (by simp) _ _).old _).old _).old _)
 have X2:=Zaa (show Box w0 (w.heap.size+1+1) 45 #[.int .i64 kk,.int .i64 o.user,.int .i64 tr,.int .i64 o.item,.int .i64 o.to_] by rw[←hw];exact((Box.newAt (by simp) _ _).old _).old _)
 have X3:=Zaa (show Box w0 (w.heap.size+1+1+1) 33 #[.slice none 0 0,.slice none 0 0,.slice none 0 0] by rw[←hw];exact(Box.newAt (by simp) _ _).old _)
 have X4:=Zaa (show Box w0 (w.heap.size+1+1+1+1) 47 #[.int .i64 0,.int .i64 0] by rw[←hw];exact Box.newAt (by simp) _ _)
 have XO:=Zaa x
 clear h g x hkk htr hin
 go_enter Tryz.func21,Tryz.ntmps21
 go_upto_region 3 with fail
 clear hw
 obtain⟨a0,a1,a2⟩:=X0.out.three
 obtain⟨c0,c1,c2⟩:=X1.out.three
 obtain⟨y0,y1,y2,y3,y4⟩:=X2.out.five
 have k0:=X1.out.frozen 0
 have k1:=X1.out.frozen 1
 have k2:=X1.out.frozen 2
 by_cases h1:kk=1
 ·subst h1
  have FN:=Zaa (ZsR (N:=⟨P,ts⟩) (roles:=roles) (k:=k) HKK.out)
  obtain⟨p,hp⟩:∃p,ZcL ⟨P,ts⟩ roles k o=p:=⟨_,rfl⟩
  simp only[hp]at CB FN
  have CX:=Zaa (CB.out w0 HB.out)
  clear hp CB CC CD
  go_upto_region 16 with(go_at_call 57;(with_reducible refine CX.out.mono ?_);rintro e1 w1 ⟨B1,m1,d1,D1,l1,f1,I1,n1,c1',rfl,dw,hb1,od1,od2,od3⟩;have DW:=Zaa dw;have B2:=Zaa hb1;clear dw hb1 c0 c1 c2 k0 k1 k2;obtain⟨c0,c1,c2⟩:=(X1.out.keep B2.out).three;have k0:=(X1.out.keep B2.out).frozen 0;have k1:=(X1.out.keep B2.out).frozen 1;have k2:=(X1.out.keep B2.out).frozen 2)
  have OL:=Zaa (X4.out.lt)
  have FA:=Zaa (od1.far XO.out.mark (show w.heap.size≤w.heap.size+1+1+1+1 by omega) OL.out)
  have FB:=Zaa (od2.far XO.out.busy (show w.heap.size≤w.heap.size+1+1+1+1 by omega) OL.out)
  have FC:=Zaa (od3.far XO.out.items (show w.heap.size≤w.heap.size+1+1+1+1 by omega) OL.out)
  have O1:=Zaa (od1.down HB.out.size)
  have O2:=Zaa (od2.down HB.out.size)
  have O3:=Zaa (od3.down HB.out.size)
  have T1:=Zaa ((X1.out.keep B2.out).set3 (.slice B1 m1 d1) (.slice D1 l1 f1) (.slice I1 n1 c1'))
  have T3:=Zaa ((((X3.out.keep B2.out).other (a:=⟨w.heap.size+1,0,none⟩) (.slice B1 m1 d1) (by show w.heap.size+1+1+1≠w.heap.size+1;omega)).other (a:=⟨w.heap.size+1,1,none⟩) (.slice D1 l1 f1) (by show w.heap.size+1+1+1≠w.heap.size+1;omega)).other (a:=⟨w.heap.size+1,2,none⟩) (.slice I1 n1 c1') (by show w.heap.size+1+1+1≠w.heap.size+1;omega))
  have T4:=Zaa ((((X4.out.keep B2.out).other (a:=⟨w.heap.size+1,0,none⟩) (.slice B1 m1 d1) (by show w.heap.size+1+1+1+1≠w.heap.size+1;omega)).other (a:=⟨w.heap.size+1,1,none⟩) (.slice D1 l1 f1) (by show w.heap.size+1+1+1+1≠w.heap.size+1;omega)).other (a:=⟨w.heap.size+1,2,none⟩) (.slice I1 n1 c1') (by show w.heap.size+1+1+1+1≠w.heap.size+1;omega))
  have DX:=Zaa (DW.out.beside (X1.out.keep B2.out) ZbF (Zan.set3 _ _ (.slice B1 m1 d1) (.slice D1 l1 f1) (.slice I1 n1 c1')))
  have BX:=Zaa (Zaj (HB.out.trans (B2.out.mono HB.out.size)) (show w.heap.size≤w.heap.size+1 by omega) (.slice B1 m1 d1) (.slice D1 l1 f1) (.slice I1 n1 c1'))
  clear X0 X1 X2 X3 X4 DW B2 HB XO a0 a1 a2 c0 c1 c2 y0 y1 y2 y3 y4 k0 k1 k2 od1 od2 od3
  generalize ((w1.setCell ⟨w.heap.size+1,0,none⟩ (.slice B1 m1 d1)).setCell ⟨w.heap.size+1,1,none⟩ (.slice D1 l1 f1)).setCell ⟨w.heap.size+1,2,none⟩ (.slice I1 n1 c1')=wx at *
  obtain⟨c0,c1,c2⟩:=T1.out.three
  obtain⟨z0,z1,z2⟩:=T3.out.three
  obtain⟨v0,v1⟩:=T4.out.two
  have fz0:=T3.out.frozen 0
  have fz1:=T3.out.frozen 1
  have fz2:=T3.out.frozen 2
  have g0:=T4.out.frozen 0
  have g1:=T4.out.frozen 1
  have U3:=Zaa (((T3.out.set3 (.slice B1 m1 d1) (.slice D1 l1 f1) (.slice I1 n1 c1')).other (a:=⟨w.heap.size+1+1+1+1,0,none⟩) (.int .i64 p.2.2) (by show w.heap.size+1+1+1≠w.heap.size+1+1+1+1;omega)).other (a:=⟨w.heap.size+1+1+1+1,1,none⟩) (.int .i64 p.2.1) (by show w.heap.size+1+1+1≠w.heap.size+1+1+1+1;omega))
  have U4:=Zaa ((((T4.out.other (a:=⟨w.heap.size+1+1+1,0,none⟩) (.slice B1 m1 d1) (by show w.heap.size+1+1+1+1≠w.heap.size+1+1+1;omega)).other (a:=⟨w.heap.size+1+1+1,1,none⟩) (.slice D1 l1 f1) (by show w.heap.size+1+1+1+1≠w.heap.size+1+1+1;omega)).other (a:=⟨w.heap.size+1+1+1,2,none⟩) (.slice I1 n1 c1') (by show w.heap.size+1+1+1+1≠w.heap.size+1+1+1;omega)).set2 (.int .i64 p.2.2) (.int .i64 p.2.1))
  have UD:=Zaa (((DX.out.beside T3.out ZbF (Zan.set3 _ _ (.slice B1 m1 d1) (.slice D1 l1 f1) (.slice I1 n1 c1'))).set (p:=⟨w.heap.size+1+1+1+1,0,none⟩) (v:=.int .i64 p.2.2) FA.out FB.out FC.out).set (p:=⟨w.heap.size+1+1+1+1,1,none⟩) (v:=.int .i64 p.2.1) FA.out FB.out FC.out)
  have UB:=Zaa (((Zaj BX.out (show w.heap.size≤w.heap.size+1+1+1 by omega) (.slice B1 m1 d1) (.slice D1 l1 f1) (.slice I1 n1 c1')).setCell (p:=⟨w.heap.size+1+1+1+1,0,none⟩) (by show w.heap.size≤w.heap.size+1+1+1+1;omega) (.int .i64 p.2.2)).setCell (p:=⟨w.heap.size+1+1+1+1,1,none⟩) (by show w.heap.size≤w.heap.size+1+1+1+1;omega) (.int .i64 p.2.1))
  go_wp2
  obtain⟨r0,r1,r2⟩:=U3.out.three
  obtain⟨r3,r4⟩:=U4.out.two
  exact bodyPost_ret (v:=.tuple #[.agg #[.slice B1 m1 d1,.slice D1 l1 f1,.slice I1 n1 c1'],.agg #[.int .i64 p.2.2,.int .i64 p.2.1]]) (by simp[results,Tryz.results21,go_sem,r0,r1,r2,r3,r4]) rfl (by rw[FN.out];exact⟨_,_,_,_,_,_,_,_,_,rfl,UD.out,UB.out,O1.out,O2.out,O3.out⟩)
 ·by_cases h2:kk=2
  ·subst h2
   have FN:=Zaa (Zmi (N:=⟨P,ts⟩) (roles:=roles) (k:=k) (o:=o) (by have:=HKK.out;omega))
   obtain⟨p,hp⟩:∃p,ZbB ⟨P,ts⟩ roles k o=p:=⟨_,rfl⟩
   simp only[hp]at CC FN
   have CX:=Zaa (CC.out w0 HB.out)
   clear hp CB CC CD
   go_upto_region 16 with(go_at_call 58;(with_reducible refine CX.out.mono ?_);rintro e1 w1 ⟨B1,m1,d1,D1,l1,f1,I1,n1,c1',rfl,dw,hb1,od1,od2,od3⟩;have DW:=Zaa dw;have B2:=Zaa hb1;clear dw hb1 c0 c1 c2 k0 k1 k2;obtain⟨c0,c1,c2⟩:=(X1.out.keep B2.out).three;have k0:=(X1.out.keep B2.out).frozen 0;have k1:=(X1.out.keep B2.out).frozen 1;have k2:=(X1.out.keep B2.out).frozen 2)
   have OL:=Zaa (X4.out.lt)
   have FA:=Zaa (od1.far XO.out.mark (show w.heap.size≤w.heap.size+1+1+1+1 by omega) OL.out)
   have FB:=Zaa (od2.far XO.out.busy (show w.heap.size≤w.heap.size+1+1+1+1 by omega) OL.out)
   have FC:=Zaa (od3.far XO.out.items (show w.heap.size≤w.heap.size+1+1+1+1 by omega) OL.out)
   have O1:=Zaa (od1.down HB.out.size)
   have O2:=Zaa (od2.down HB.out.size)
   have O3:=Zaa (od3.down HB.out.size)
   have T1:=Zaa ((X1.out.keep B2.out).set3 (.slice B1 m1 d1) (.slice D1 l1 f1) (.slice I1 n1 c1'))
   have T3:=Zaa ((((X3.out.keep B2.out).other (a:=⟨w.heap.size+1,0,none⟩) (.slice B1 m1 d1) (by show w.heap.size+1+1+1≠w.heap.size+1;omega)).other (a:=⟨w.heap.size+1,1,none⟩) (.slice D1 l1 f1) (by show w.heap.size+1+1+1≠w.heap.size+1;omega)).other (a:=⟨w.heap.size+1,2,none⟩) (.slice I1 n1 c1') (by show w.heap.size+1+1+1≠w.heap.size+1;omega))
   have T4:=Zaa ((((X4.out.keep B2.out).other (a:=⟨w.heap.size+1,0,none⟩) (.slice B1 m1 d1) (by show w.heap.size+1+1+1+1≠w.heap.size+1;omega)).other (a:=⟨w.heap.size+1,1,none⟩) (.slice D1 l1 f1) (by show w.heap.size+1+1+1+1≠w.heap.size+1;omega)).other (a:=⟨w.heap.size+1,2,none⟩) (.slice I1 n1 c1') (by show w.heap.size+1+1+1+1≠w.heap.size+1;omega))
   have DX:=Zaa (DW.out.beside (X1.out.keep B2.out) ZbF (Zan.set3 _ _ (.slice B1 m1 d1) (.slice D1 l1 f1) (.slice I1 n1 c1')))
   have BX:=Zaa (Zaj (HB.out.trans (B2.out.mono HB.out.size)) (show w.heap.size≤w.heap.size+1 by omega) (.slice B1 m1 d1) (.slice D1 l1 f1) (.slice I1 n1 c1'))
   clear X0 X1 X2 X3 X4 DW B2 HB XO a0 a1 a2 c0 c1 c2 y0 y1 y2 y3 y4 k0 k1 k2 od1 od2 od3
   generalize ((w1.setCell ⟨w.heap.size+1,0,none⟩ (.slice B1 m1 d1)).setCell ⟨w.heap.size+1,1,none⟩ (.slice D1 l1 f1)).setCell ⟨w.heap.size+1,2,none⟩ (.slice I1 n1 c1')=wx at *
   obtain⟨c0,c1,c2⟩:=T1.out.three
   obtain⟨z0,z1,z2⟩:=T3.out.three
   obtain⟨v0,v1⟩:=T4.out.two
   have fz0:=T3.out.frozen 0
   have fz1:=T3.out.frozen 1
   have fz2:=T3.out.frozen 2
   have g0:=T4.out.frozen 0
   have g1:=T4.out.frozen 1
   have U3:=Zaa (((T3.out.set3 (.slice B1 m1 d1) (.slice D1 l1 f1) (.slice I1 n1 c1')).other (a:=⟨w.heap.size+1+1+1+1,0,none⟩) (.int .i64 p.2.2) (by show w.heap.size+1+1+1≠w.heap.size+1+1+1+1;omega)).other (a:=⟨w.heap.size+1+1+1+1,1,none⟩) (.int .i64 p.2.1) (by show w.heap.size+1+1+1≠w.heap.size+1+1+1+1;omega))
   have U4:=Zaa ((((T4.out.other (a:=⟨w.heap.size+1+1+1,0,none⟩) (.slice B1 m1 d1) (by show w.heap.size+1+1+1+1≠w.heap.size+1+1+1;omega)).other (a:=⟨w.heap.size+1+1+1,1,none⟩) (.slice D1 l1 f1) (by show w.heap.size+1+1+1+1≠w.heap.size+1+1+1;omega)).other (a:=⟨w.heap.size+1+1+1,2,none⟩) (.slice I1 n1 c1') (by show w.heap.size+1+1+1+1≠w.heap.size+1+1+1;omega)).set2 (.int .i64 p.2.2) (.int .i64 p.2.1))
   have UD:=Zaa (((DX.out.beside T3.out ZbF (Zan.set3 _ _ (.slice B1 m1 d1) (.slice D1 l1 f1) (.slice I1 n1 c1'))).set (p:=⟨w.heap.size+1+1+1+1,0,none⟩) (v:=.int .i64 p.2.2) FA.out FB.out FC.out).set (p:=⟨w.heap.size+1+1+1+1,1,none⟩) (v:=.int .i64 p.2.1) FA.out FB.out FC.out)
   have UB:=Zaa (((Zaj BX.out (show w.heap.size≤w.heap.size+1+1+1 by omega) (.slice B1 m1 d1) (.slice D1 l1 f1) (.slice I1 n1 c1')).setCell (p:=⟨w.heap.size+1+1+1+1,0,none⟩) (by show w.heap.size≤w.heap.size+1+1+1+1;omega) (.int .i64 p.2.2)).setCell (p:=⟨w.heap.size+1+1+1+1,1,none⟩) (by show w.heap.size≤w.heap.size+1+1+1+1;omega) (.int .i64 p.2.1))
   go_wp2
   obtain⟨r0,r1,r2⟩:=U3.out.three
   obtain⟨r3,r4⟩:=U4.out.two
   exact bodyPost_ret (v:=.tuple #[.agg #[.slice B1 m1 d1,.slice D1 l1 f1,.slice I1 n1 c1'],.agg #[.int .i64 p.2.2,.int .i64 p.2.1]]) (by simp[results,Tryz.results21,go_sem,r0,r1,r2,r3,r4]) rfl (by rw[FN.out];exact⟨_,_,_,_,_,_,_,_,_,rfl,UD.out,UB.out,O1.out,O2.out,O3.out⟩)
  ·by_cases h3:kk=3
   ·subst h3
    have FN:=Zaa (Zmi (N:=⟨P,ts⟩) (roles:=roles) (k:=k) (o:=o) (by have:=HKK.out;omega))
    obtain⟨p,hp⟩:∃p,ZbB ⟨P,ts⟩ roles k o=p:=⟨_,rfl⟩
    simp only[hp]at CC FN
    have CX:=Zaa (CC.out w0 HB.out)
    clear hp CB CC CD
    go_upto_region 16 with(go_at_call 58;(with_reducible refine CX.out.mono ?_);rintro e1 w1 ⟨B1,m1,d1,D1,l1,f1,I1,n1,c1',rfl,dw,hb1,od1,od2,od3⟩;have DW:=Zaa dw;have B2:=Zaa hb1;clear dw hb1 c0 c1 c2 k0 k1 k2;obtain⟨c0,c1,c2⟩:=(X1.out.keep B2.out).three;have k0:=(X1.out.keep B2.out).frozen 0;have k1:=(X1.out.keep B2.out).frozen 1;have k2:=(X1.out.keep B2.out).frozen 2)
    have OL:=Zaa (X4.out.lt)
    have FA:=Zaa (od1.far XO.out.mark (show w.heap.size≤w.heap.size+1+1+1+1 by omega) OL.out)
    have FB:=Zaa (od2.far XO.out.busy (show w.heap.size≤w.heap.size+1+1+1+1 by omega) OL.out)
    have FC:=Zaa (od3.far XO.out.items (show w.heap.size≤w.heap.size+1+1+1+1 by omega) OL.out)
    have O1:=Zaa (od1.down HB.out.size)
    have O2:=Zaa (od2.down HB.out.size)
    have O3:=Zaa (od3.down HB.out.size)
    have T1:=Zaa ((X1.out.keep B2.out).set3 (.slice B1 m1 d1) (.slice D1 l1 f1) (.slice I1 n1 c1'))
    have T3:=Zaa ((((X3.out.keep B2.out).other (a:=⟨w.heap.size+1,0,none⟩) (.slice B1 m1 d1) (by show w.heap.size+1+1+1≠w.heap.size+1;omega)).other (a:=⟨w.heap.size+1,1,none⟩) (.slice D1 l1 f1) (by show w.heap.size+1+1+1≠w.heap.size+1;omega)).other (a:=⟨w.heap.size+1,2,none⟩) (.slice I1 n1 c1') (by show w.heap.size+1+1+1≠w.heap.size+1;omega))
    have T4:=Zaa ((((X4.out.keep B2.out).other (a:=⟨w.heap.size+1,0,none⟩) (.slice B1 m1 d1) (by show w.heap.size+1+1+1+1≠w.heap.size+1;omega)).other (a:=⟨w.heap.size+1,1,none⟩) (.slice D1 l1 f1) (by show w.heap.size+1+1+1+1≠w.heap.size+1;omega)).other (a:=⟨w.heap.size+1,2,none⟩) (.slice I1 n1 c1') (by show w.heap.size+1+1+1+1≠w.heap.size+1;omega))
    have DX:=Zaa (DW.out.beside (X1.out.keep B2.out) ZbF (Zan.set3 _ _ (.slice B1 m1 d1) (.slice D1 l1 f1) (.slice I1 n1 c1')))
    have BX:=Zaa (Zaj (HB.out.trans (B2.out.mono HB.out.size)) (show w.heap.size≤w.heap.size+1 by omega) (.slice B1 m1 d1) (.slice D1 l1 f1) (.slice I1 n1 c1'))
    clear X0 X1 X2 X3 X4 DW B2 HB XO a0 a1 a2 c0 c1 c2 y0 y1 y2 y3 y4 k0 k1 k2 od1 od2 od3
    generalize ((w1.setCell ⟨w.heap.size+1,0,none⟩ (.slice B1 m1 d1)).setCell ⟨w.heap.size+1,1,none⟩ (.slice D1 l1 f1)).setCell ⟨w.heap.size+1,2,none⟩ (.slice I1 n1 c1')=wx at *
    obtain⟨c0,c1,c2⟩:=T1.out.three
    obtain⟨z0,z1,z2⟩:=T3.out.three
    obtain⟨v0,v1⟩:=T4.out.two
    have fz0:=T3.out.frozen 0
    have fz1:=T3.out.frozen 1
    have fz2:=T3.out.frozen 2
    have g0:=T4.out.frozen 0
    have g1:=T4.out.frozen 1
    have U3:=Zaa (((T3.out.set3 (.slice B1 m1 d1) (.slice D1 l1 f1) (.slice I1 n1 c1')).other (a:=⟨w.heap.size+1+1+1+1,0,none⟩) (.int .i64 p.2.2) (by show w.heap.size+1+1+1≠w.heap.size+1+1+1+1;omega)).other (a:=⟨w.heap.size+1+1+1+1,1,none⟩) (.int .i64 p.2.1) (by show w.heap.size+1+1+1≠w.heap.size+1+1+1+1;omega))
    have U4:=Zaa ((((T4.out.other (a:=⟨w.heap.size+1+1+1,0,none⟩) (.slice B1 m1 d1) (by show w.heap.size+1+1+1+1≠w.heap.size+1+1+1;omega)).other (a:=⟨w.heap.size+1+1+1,1,none⟩) (.slice D1 l1 f1) (by show w.heap.size+1+1+1+1≠w.heap.size+1+1+1;omega)).other (a:=⟨w.heap.size+1+1+1,2,none⟩) (.slice I1 n1 c1') (by show w.heap.size+1+1+1+1≠w.heap.size+1+1+1;omega)).set2 (.int .i64 p.2.2) (.int .i64 p.2.1))
    have UD:=Zaa (((DX.out.beside T3.out ZbF (Zan.set3 _ _ (.slice B1 m1 d1) (.slice D1 l1 f1) (.slice I1 n1 c1'))).set (p:=⟨w.heap.size+1+1+1+1,0,none⟩) (v:=.int .i64 p.2.2) FA.out FB.out FC.out).set (p:=⟨w.heap.size+1+1+1+1,1,none⟩) (v:=.int .i64 p.2.1) FA.out FB.out FC.out)
    have UB:=Zaa (((Zaj BX.out (show w.heap.size≤w.heap.size+1+1+1 by omega) (.slice B1 m1 d1) (.slice D1 l1 f1) (.slice I1 n1 c1')).setCell (p:=⟨w.heap.size+1+1+1+1,0,none⟩) (by show w.heap.size≤w.heap.size+1+1+1+1;omega) (.int .i64 p.2.2)).setCell (p:=⟨w.heap.size+1+1+1+1,1,none⟩) (by show w.heap.size≤w.heap.size+1+1+1+1;omega) (.int .i64 p.2.1))
    go_wp2
    obtain⟨r0,r1,r2⟩:=U3.out.three
    obtain⟨r3,r4⟩:=U4.out.two
    exact bodyPost_ret (v:=.tuple #[.agg #[.slice B1 m1 d1,.slice D1 l1 f1,.slice I1 n1 c1'],.agg #[.int .i64 p.2.2,.int .i64 p.2.1]]) (by simp[results,Tryz.results21,go_sem,r0,r1,r2,r3,r4]) rfl (by rw[FN.out];exact⟨_,_,_,_,_,_,_,_,_,rfl,UD.out,UB.out,O1.out,O2.out,O3.out⟩)
   ·by_cases h4:kk=4
    ·subst h4
     have FN:=Zaa (Zmi (N:=⟨P,ts⟩) (roles:=roles) (k:=k) (o:=o) (by have:=HKK.out;omega))
     obtain⟨p,hp⟩:∃p,ZbB ⟨P,ts⟩ roles k o=p:=⟨_,rfl⟩
     simp only[hp]at CC FN
     have CX:=Zaa (CC.out w0 HB.out)
     clear hp CB CC CD
     go_upto_region 16 with(go_at_call 58;(with_reducible refine CX.out.mono ?_);rintro e1 w1 ⟨B1,m1,d1,D1,l1,f1,I1,n1,c1',rfl,dw,hb1,od1,od2,od3⟩;have DW:=Zaa dw;have B2:=Zaa hb1;clear dw hb1 c0 c1 c2 k0 k1 k2;obtain⟨c0,c1,c2⟩:=(X1.out.keep B2.out).three;have k0:=(X1.out.keep B2.out).frozen 0;have k1:=(X1.out.keep B2.out).frozen 1;have k2:=(X1.out.keep B2.out).frozen 2)
     have OL:=Zaa (X4.out.lt)
     have FA:=Zaa (od1.far XO.out.mark (show w.heap.size≤w.heap.size+1+1+1+1 by omega) OL.out)
     have FB:=Zaa (od2.far XO.out.busy (show w.heap.size≤w.heap.size+1+1+1+1 by omega) OL.out)
     have FC:=Zaa (od3.far XO.out.items (show w.heap.size≤w.heap.size+1+1+1+1 by omega) OL.out)
     have O1:=Zaa (od1.down HB.out.size)
     have O2:=Zaa (od2.down HB.out.size)
     have O3:=Zaa (od3.down HB.out.size)
     have T1:=Zaa ((X1.out.keep B2.out).set3 (.slice B1 m1 d1) (.slice D1 l1 f1) (.slice I1 n1 c1'))
     have T3:=Zaa ((((X3.out.keep B2.out).other (a:=⟨w.heap.size+1,0,none⟩) (.slice B1 m1 d1) (by show w.heap.size+1+1+1≠w.heap.size+1;omega)).other (a:=⟨w.heap.size+1,1,none⟩) (.slice D1 l1 f1) (by show w.heap.size+1+1+1≠w.heap.size+1;omega)).other (a:=⟨w.heap.size+1,2,none⟩) (.slice I1 n1 c1') (by show w.heap.size+1+1+1≠w.heap.size+1;omega))
     have T4:=Zaa ((((X4.out.keep B2.out).other (a:=⟨w.heap.size+1,0,none⟩) (.slice B1 m1 d1) (by show w.heap.size+1+1+1+1≠w.heap.size+1;omega)).other (a:=⟨w.heap.size+1,1,none⟩) (.slice D1 l1 f1) (by show w.heap.size+1+1+1+1≠w.heap.size+1;omega)).other (a:=⟨w.heap.size+1,2,none⟩) (.slice I1 n1 c1') (by show w.heap.size+1+1+1+1≠w.heap.size+1;omega))
     have DX:=Zaa (DW.out.beside (X1.out.keep B2.out) ZbF (Zan.set3 _ _ (.slice B1 m1 d1) (.slice D1 l1 f1) (.slice I1 n1 c1')))
     have BX:=Zaa (Zaj (HB.out.trans (B2.out.mono HB.out.size)) (show w.heap.size≤w.heap.size+1 by omega) (.slice B1 m1 d1) (.slice D1 l1 f1) (.slice I1 n1 c1'))
     clear X0 X1 X2 X3 X4 DW B2 HB XO a0 a1 a2 c0 c1 c2 y0 y1 y2 y3 y4 k0 k1 k2 od1 od2 od3
     generalize ((w1.setCell ⟨w.heap.size+1,0,none⟩ (.slice B1 m1 d1)).setCell ⟨w.heap.size+1,1,none⟩ (.slice D1 l1 f1)).setCell ⟨w.heap.size+1,2,none⟩ (.slice I1 n1 c1')=wx at *
     obtain⟨c0,c1,c2⟩:=T1.out.three
     obtain⟨z0,z1,z2⟩:=T3.out.three
     obtain⟨v0,v1⟩:=T4.out.two
     have fz0:=T3.out.frozen 0
     have fz1:=T3.out.frozen 1
     have fz2:=T3.out.frozen 2
     have g0:=T4.out.frozen 0
     have g1:=T4.out.frozen 1
     have U3:=Zaa (((T3.out.set3 (.slice B1 m1 d1) (.slice D1 l1 f1) (.slice I1 n1 c1')).other (a:=⟨w.heap.size+1+1+1+1,0,none⟩) (.int .i64 p.2.2) (by show w.heap.size+1+1+1≠w.heap.size+1+1+1+1;omega)).other (a:=⟨w.heap.size+1+1+1+1,1,none⟩) (.int .i64 p.2.1) (by show w.heap.size+1+1+1≠w.heap.size+1+1+1+1;omega))
     have U4:=Zaa ((((T4.out.other (a:=⟨w.heap.size+1+1+1,0,none⟩) (.slice B1 m1 d1) (by show w.heap.size+1+1+1+1≠w.heap.size+1+1+1;omega)).other (a:=⟨w.heap.size+1+1+1,1,none⟩) (.slice D1 l1 f1) (by show w.heap.size+1+1+1+1≠w.heap.size+1+1+1;omega)).other (a:=⟨w.heap.size+1+1+1,2,none⟩) (.slice I1 n1 c1') (by show w.heap.size+1+1+1+1≠w.heap.size+1+1+1;omega)).set2 (.int .i64 p.2.2) (.int .i64 p.2.1))
     have UD:=Zaa (((DX.out.beside T3.out ZbF (Zan.set3 _ _ (.slice B1 m1 d1) (.slice D1 l1 f1) (.slice I1 n1 c1'))).set (p:=⟨w.heap.size+1+1+1+1,0,none⟩) (v:=.int .i64 p.2.2) FA.out FB.out FC.out).set (p:=⟨w.heap.size+1+1+1+1,1,none⟩) (v:=.int .i64 p.2.1) FA.out FB.out FC.out)
     have UB:=Zaa (((Zaj BX.out (show w.heap.size≤w.heap.size+1+1+1 by omega) (.slice B1 m1 d1) (.slice D1 l1 f1) (.slice I1 n1 c1')).setCell (p:=⟨w.heap.size+1+1+1+1,0,none⟩) (by show w.heap.size≤w.heap.size+1+1+1+1;omega) (.int .i64 p.2.2)).setCell (p:=⟨w.heap.size+1+1+1+1,1,none⟩) (by show w.heap.size≤w.heap.size+1+1+1+1;omega) (.int .i64 p.2.1))
     go_wp2
     obtain⟨r0,r1,r2⟩:=U3.out.three
     obtain⟨r3,r4⟩:=U4.out.two
     exact bodyPost_ret (v:=.tuple #[.agg #[.slice B1 m1 d1,.slice D1 l1 f1,.slice I1 n1 c1'],.agg #[.int .i64 p.2.2,.int .i64 p.2.1]]) (by simp[results,Tryz.results21,go_sem,r0,r1,r2,r3,r4]) rfl (by rw[FN.out];exact⟨_,_,_,_,_,_,_,_,_,rfl,UD.out,UB.out,O1.out,O2.out,O3.out⟩)
    ·have q1:(kk==1)=false:=by simpa using h1
     have q2:(kk==2)=false:=by simpa using h2
     have q3:(kk==3)=false:=by simpa using h3
     have q4:(kk==4)=false:=by simpa using h4
     by_cases h5:kk=5
     ·subst h5
      clear h1 h2 h3 h4 q1 q2 q3 q4
      have FN:=Zaa (ZsS (N:=⟨P,ts⟩) (roles:=roles) (k:=k) HKK.out)
      obtain⟨p,hp⟩:∃p,doL ⟨P,ts⟩ k.case_ 1 tr=p:=⟨_,rfl⟩
      have HP:=Zaa (show doL ⟨P,ts⟩ k.case_ 1 o.tran=p by rw[HTR.out];exact hp)
      have NB:=Zcv w0 (.cells #[.slice none 0 0,.slice none 0 0] 30)
      have XC:=Zaa (Box.new w0 #[.slice none 0 0,.slice none 0 0] 30)
      have Y0:=Zaa (X0.out.keep NB)
      have Y1:=Zaa (X1.out.keep NB)
      have Y2:=Zaa (X2.out.keep NB)
      have Y3:=Zaa (X3.out.keep NB)
      have Y4:=Zaa (X4.out.keep NB)
      have BN:=Zaa (HB.out.trans (NB.mono HB.out.size))
      have SZ:=Zaa (show w.heap.size+1+1+1+1<w0.heap.size from X4.out.lt)
      have CX:=Zaa (CD.out _ BN.out)
      rw[hp]at CX
      clear hp CB CC CD
      go_upto_region 13 with fail
      clear X0 X1 X2 X3 X4 NB a0 a1 a2 c0 c1 c2 y0 y1 y2 y3 y4 k0 k1 k2
      generalize w0.alloc (.cells #[.slice none 0 0,.slice none 0 0] 30)=wb at *
      generalize w0.heap.size=bc at *
      obtain⟨a0,a1,a2⟩:=Y0.out.three
      obtain⟨c0,c1,c2⟩:=Y1.out.three
      obtain⟨y0,y1,y2,y3,y4⟩:=Y2.out.five
      go_upto_region 14 with(go_at_call 39;(with_reducible refine CX.out.mono ?_);rintro e3 w3 ⟨A3,n3,k3,A4,n4,k4,rfl,i3,i4,hb3,fr3,fr4⟩;have I3:=Zaa i3;have I4:=Zaa i4;have B3:=Zaa hb3;have FR3:=Zaa fr3;have FR4:=Zaa fr4;clear i3 i4 hb3 fr3 fr4 a0 a1 a2 c0 c1 c2 y0 y1 y2 y3 y4;obtain⟨x0,x1⟩:=(XC.out.keep B3.out).two;have g0:=(XC.out.keep B3.out).frozen 0;have g1:=(XC.out.keep B3.out).frozen 1)
      have hbc:=XC.out.lt
      have hh4:=Y4.out.lt
      have W1:=Zaa (((Y1.out.keep B3.out).other (a:=⟨bc,0,none⟩) (.slice A3 n3 k3) (by show w.heap.size+1≠bc;have:=SZ.out;omega)).other (a:=⟨bc,1,none⟩) (.slice A4 n4 k4) (by show w.heap.size+1≠bc;have:=SZ.out;omega))
      have W3:=Zaa (((Y3.out.keep B3.out).other (a:=⟨bc,0,none⟩) (.slice A3 n3 k3) (by show w.heap.size+1+1+1≠bc;have:=SZ.out;omega)).other (a:=⟨bc,1,none⟩) (.slice A4 n4 k4) (by show w.heap.size+1+1+1≠bc;have:=SZ.out;omega))
      have W4:=Zaa (((Y4.out.keep B3.out).other (a:=⟨bc,0,none⟩) (.slice A3 n3 k3) (by show w.heap.size+1+1+1+1≠bc;have:=SZ.out;omega)).other (a:=⟨bc,1,none⟩) (.slice A4 n4 k4) (by show w.heap.size+1+1+1+1≠bc;have:=SZ.out;omega))
      have WC:=Zaa ((XC.out.keep B3.out).set2 (.slice A3 n3 k3) (.slice A4 n4 k4))
      have f3:∀b' off,A3=some ⟨b',off,none⟩→0<n3→wb.heap.size≤b':=fun b' off e' _=>FR3.out _ e'
      have f4:∀b' off,A4=some ⟨b',off,none⟩→0<n4→wb.heap.size≤b':=fun b' off e' _=>FR4.out _ e'
      have F3:=Zaa f3
      have F4:=Zaa f4
      have J3:=Zaa (Zbf (Zbf I3.out (p:=⟨bc,0,none⟩) (v:=.slice A3 n3 k3) (fun b' off e' h0=>by have:=f3 b' off e' h0;show b'≠bc;omega)) (p:=⟨bc,1,none⟩) (v:=.slice A4 n4 k4) (fun b' off e' h0=>by have:=f3 b' off e' h0;show b'≠bc;omega))
      have J4:=Zaa (Zbf (Zbf I4.out (p:=⟨bc,0,none⟩) (v:=.slice A3 n3 k3) (fun b' off e' h0=>by have:=f4 b' off e' h0;show b'≠bc;omega)) (p:=⟨bc,1,none⟩) (v:=.slice A4 n4 k4) (fun b' off e' h0=>by have:=f4 b' off e' h0;show b'≠bc;omega))
      have BC:=Zaa (((BN.out.trans (B3.out.mono BN.out.size)).setCell (p:=⟨bc,0,none⟩) (by show w.heap.size≤bc;have:=SZ.out;omega) (.slice A3 n3 k3)).setCell (p:=⟨bc,1,none⟩) (by show w.heap.size≤bc;have:=SZ.out;omega) (.slice A4 n4 k4))
      have O1F:=FR3.out.mono BN.out.size
      have O2F:=FR4.out.mono BN.out.size
      have OF1:=Zaa O1F
      have OF2:=Zaa O2F
      have hw4:w.heap.size+1+1+1+1<wb.heap.size:=hh4
      clear O1F O2F f3 f4 I3 I4 FR3 FR4 B3 XC Y0 Y1 Y2 Y3 Y4 x0 x1 g0 g1 CX BN
      generalize (w3.setCell ⟨bc,0,none⟩ (.slice A3 n3 k3)).setCell ⟨bc,1,none⟩ (.slice A4 n4 k4)=wq at *
      by_cases he:p.2=0
      ·rw[Zqd HP.out he]at FN
       have hee:(p.2==0)=true:=by simpa using he
       obtain⟨x0,x1⟩:=WC.out.two
       obtain⟨c0,c1,c2⟩:=W1.out.three
       have k0:=W1.out.frozen 0
       have k1:=W1.out.frozen 1
       have FN0:=Zaa (show Za4 ⟨P,ts⟩ roles k o=(⟨p.1,k.items⟩,0,p.2) by rw[FN.out,he])
       clear FN he
       have FN:=Zaa FN0.out
       clear FN0
       go_upto_region 16 with fail
       clear x0 x1 c0 c1 c2 k0 k1 hee
       have T1:=Zaa ((W1.out.set 0 (.slice A3 n3 k3)).set 1 (.slice A4 n4 k4))
       simp only[List.setIfInBounds_toArray,List.set_cons_zero,List.set_cons_succ]at T1
       have T3:=Zaa ((W3.out.other (a:=⟨w.heap.size+1,0,none⟩) (.slice A3 n3 k3) (by show w.heap.size+1+1+1≠w.heap.size+1;omega)).other (a:=⟨w.heap.size+1,1,none⟩) (.slice A4 n4 k4) (by show w.heap.size+1+1+1≠w.heap.size+1;omega))
       have T4:=Zaa ((W4.out.other (a:=⟨w.heap.size+1,0,none⟩) (.slice A3 n3 k3) (by show w.heap.size+1+1+1+1≠w.heap.size+1;omega)).other (a:=⟨w.heap.size+1,1,none⟩) (.slice A4 n4 k4) (by show w.heap.size+1+1+1+1≠w.heap.size+1;omega))
       have BX:=Zaa ((BC.out.setCell (p:=⟨w.heap.size+1,0,none⟩) (by show w.heap.size≤w.heap.size+1;omega) (.slice A3 n3 k3)).setCell (p:=⟨w.heap.size+1,1,none⟩) (by show w.heap.size≤w.heap.size+1;omega) (.slice A4 n4 k4))
       have DX:=Zaa (show Zcm _ A3 n3 k3 A4 n4 k4 I ni ci ⟨p.1,k.items⟩from⟨Zbf (Zbf J3.out (p:=⟨w.heap.size+1,0,none⟩) (v:=.slice A3 n3 k3) (fun b' off e' h0=>by have:=F3.out b' off e' h0;show b'≠w.heap.size+1;omega)) (p:=⟨w.heap.size+1,1,none⟩) (v:=.slice A4 n4 k4) (fun b' off e' h0=>by have:=F3.out b' off e' h0;show b'≠w.heap.size+1;omega),Zbf (Zbf J4.out (p:=⟨w.heap.size+1,0,none⟩) (v:=.slice A3 n3 k3) (fun b' off e' h0=>by have:=F4.out b' off e' h0;show b'≠w.heap.size+1;omega)) (p:=⟨w.heap.size+1,1,none⟩) (v:=.slice A4 n4 k4) (fun b' off e' h0=>by have:=F4.out b' off e' h0;show b'≠w.heap.size+1;omega),Sl.keep Zcl.kept XO.out.items BX.out⟩)
       have FA:=Zaa (show ∀b' off,A3=some ⟨b',off,none⟩→0<n3→b'≠w.heap.size+1+1+1+1 from fun b' off e' h0=>by have:=F3.out b' off e' h0;omega)
       have FB:=Zaa (show ∀b' off,A4=some ⟨b',off,none⟩→0<n4→b'≠w.heap.size+1+1+1+1 from fun b' off e' h0=>by have:=F4.out b' off e' h0;omega)
       have FC:=Zaa ((show Old wb I ni I ni from .inl ⟨rfl,rfl⟩).far XO.out.items (show w.heap.size≤w.heap.size+1+1+1+1 by omega) hw4)
       have O1:=Zaa (show Old w B m A3 n3 from .inr OF1.out)
       have O2:=Zaa (show Old w D l A4 n4 from .inr OF2.out)
       have O3:=Zaa (show Old w I ni I ni from .inl ⟨rfl,rfl⟩)
       clear W1 W3 W4 WC J3 J4 BC F3 F4 OF1 OF2 hbc hh4 HP XO
       generalize (wq.setCell ⟨w.heap.size+1,0,none⟩ (.slice A3 n3 k3)).setCell ⟨w.heap.size+1,1,none⟩ (.slice A4 n4 k4)=wx at *
       obtain⟨c0,c1,c2⟩:=T1.out.three
       obtain⟨z0,z1,z2⟩:=T3.out.three
       obtain⟨v0,v1⟩:=T4.out.two
       have fz0:=T3.out.frozen 0
       have fz1:=T3.out.frozen 1
       have fz2:=T3.out.frozen 2
       have g0:=T4.out.frozen 0
       have g1:=T4.out.frozen 1
       have U3:=Zaa (((T3.out.set3 (.slice A3 n3 k3) (.slice A4 n4 k4) (.slice I ni ci)).other (a:=⟨w.heap.size+1+1+1+1,0,none⟩) (.int .i64 p.2) (by show w.heap.size+1+1+1≠w.heap.size+1+1+1+1;omega)).other (a:=⟨w.heap.size+1+1+1+1,1,none⟩) (.int .i64 0) (by show w.heap.size+1+1+1≠w.heap.size+1+1+1+1;omega))
       have U4:=Zaa ((((T4.out.other (a:=⟨w.heap.size+1+1+1,0,none⟩) (.slice A3 n3 k3) (by show w.heap.size+1+1+1+1≠w.heap.size+1+1+1;omega)).other (a:=⟨w.heap.size+1+1+1,1,none⟩) (.slice A4 n4 k4) (by show w.heap.size+1+1+1+1≠w.heap.size+1+1+1;omega)).other (a:=⟨w.heap.size+1+1+1,2,none⟩) (.slice I ni ci) (by show w.heap.size+1+1+1+1≠w.heap.size+1+1+1;omega)).set2 (.int .i64 p.2) (.int .i64 0))
       have UD:=Zaa (((DX.out.beside T3.out ZbF (Zan.set3 _ _ (.slice A3 n3 k3) (.slice A4 n4 k4) (.slice I ni ci))).set (p:=⟨w.heap.size+1+1+1+1,0,none⟩) (v:=.int .i64 p.2) FA.out FB.out FC.out).set (p:=⟨w.heap.size+1+1+1+1,1,none⟩) (v:=.int .i64 0) FA.out FB.out FC.out)
       have UB:=Zaa (((Zaj BX.out (show w.heap.size≤w.heap.size+1+1+1 by omega) (.slice A3 n3 k3) (.slice A4 n4 k4) (.slice I ni ci)).setCell (p:=⟨w.heap.size+1+1+1+1,0,none⟩) (by show w.heap.size≤w.heap.size+1+1+1+1;omega) (.int .i64 p.2)).setCell (p:=⟨w.heap.size+1+1+1+1,1,none⟩) (by show w.heap.size≤w.heap.size+1+1+1+1;omega) (.int .i64 0))
       go_wp2
       obtain⟨r0,r1,r2⟩:=U3.out.three
       obtain⟨r3,r4⟩:=U4.out.two
       exact bodyPost_ret (v:=.tuple #[.agg #[.slice A3 n3 k3,.slice A4 n4 k4,.slice I ni ci],.agg #[.int .i64 p.2,.int .i64 0]]) (by simp[results,Tryz.results21,go_sem,r0,r1,r2,r3,r4]) rfl (by rw[FN.out];exact⟨_,_,_,_,_,_,_,_,_,rfl,UD.out,UB.out,O1.out,O2.out,O3.out⟩)
      ·rw[Zqe HP.out he]at FN
       have hee:(p.2==0)=false:=by simpa using he
       clear he
       go_upto_region 16 with fail
       clear hee
       have T1:=Zaa W1.out
       have T3:=Zaa W3.out
       have T4:=Zaa W4.out
       have BX:=Zaa BC.out
       have DX:=Zaa (XO.out.keep BX.out)
       have FA:=Zaa ((show Old wb B m B m from .inl ⟨rfl,rfl⟩).far XO.out.mark (show w.heap.size≤w.heap.size+1+1+1+1 by omega) hw4)
       have FB:=Zaa ((show Old wb D l D l from .inl ⟨rfl,rfl⟩).far XO.out.busy (show w.heap.size≤w.heap.size+1+1+1+1 by omega) hw4)
       have FC:=Zaa ((show Old wb I ni I ni from .inl ⟨rfl,rfl⟩).far XO.out.items (show w.heap.size≤w.heap.size+1+1+1+1 by omega) hw4)
       have O1:=Zaa (show Old w B m B m from .inl ⟨rfl,rfl⟩)
       have O2:=Zaa (show Old w D l D l from .inl ⟨rfl,rfl⟩)
       have O3:=Zaa (show Old w I ni I ni from .inl ⟨rfl,rfl⟩)
       clear W1 W3 W4 WC J3 J4 BC F3 F4 OF1 OF2 hbc hh4 HP XO
       obtain⟨c0,c1,c2⟩:=T1.out.three
       obtain⟨z0,z1,z2⟩:=T3.out.three
       obtain⟨v0,v1⟩:=T4.out.two
       have fz0:=T3.out.frozen 0
       have fz1:=T3.out.frozen 1
       have fz2:=T3.out.frozen 2
       have g0:=T4.out.frozen 0
       have g1:=T4.out.frozen 1
       have U3:=Zaa (((T3.out.set3 (.slice B m d) (.slice D l e) (.slice I ni ci)).other (a:=⟨w.heap.size+1+1+1+1,0,none⟩) (.int .i64 p.2) (by show w.heap.size+1+1+1≠w.heap.size+1+1+1+1;omega)).other (a:=⟨w.heap.size+1+1+1+1,1,none⟩) (.int .i64 0) (by show w.heap.size+1+1+1≠w.heap.size+1+1+1+1;omega))
       have U4:=Zaa ((((T4.out.other (a:=⟨w.heap.size+1+1+1,0,none⟩) (.slice B m d) (by show w.heap.size+1+1+1+1≠w.heap.size+1+1+1;omega)).other (a:=⟨w.heap.size+1+1+1,1,none⟩) (.slice D l e) (by show w.heap.size+1+1+1+1≠w.heap.size+1+1+1;omega)).other (a:=⟨w.heap.size+1+1+1,2,none⟩) (.slice I ni ci) (by show w.heap.size+1+1+1+1≠w.heap.size+1+1+1;omega)).set2 (.int .i64 p.2) (.int .i64 0))
       have UD:=Zaa (((DX.out.beside T3.out ZbF (Zan.set3 _ _ (.slice B m d) (.slice D l e) (.slice I ni ci))).set (p:=⟨w.heap.size+1+1+1+1,0,none⟩) (v:=.int .i64 p.2) FA.out FB.out FC.out).set (p:=⟨w.heap.size+1+1+1+1,1,none⟩) (v:=.int .i64 0) FA.out FB.out FC.out)
       have UB:=Zaa (((Zaj BX.out (show w.heap.size≤w.heap.size+1+1+1 by omega) (.slice B m d) (.slice D l e) (.slice I ni ci)).setCell (p:=⟨w.heap.size+1+1+1+1,0,none⟩) (by show w.heap.size≤w.heap.size+1+1+1+1;omega) (.int .i64 p.2)).setCell (p:=⟨w.heap.size+1+1+1+1,1,none⟩) (by show w.heap.size≤w.heap.size+1+1+1+1;omega) (.int .i64 0))
       go_wp2
       obtain⟨r0,r1,r2⟩:=U3.out.three
       obtain⟨r3,r4⟩:=U4.out.two
       exact bodyPost_ret (v:=.tuple #[.agg #[.slice B m d,.slice D l e,.slice I ni ci],.agg #[.int .i64 p.2,.int .i64 0]]) (by simp[results,Tryz.results21,go_sem,r0,r1,r2,r3,r4]) rfl (by rw[FN.out];exact⟨_,_,_,_,_,_,_,_,_,rfl,UD.out,UB.out,O1.out,O2.out,O3.out⟩)
     ·have q5:(kk==5)=false:=by simpa using h5
      have FN:=Zaa (ZrG (N:=⟨P,ts⟩) (roles:=roles) (k:=k) (o:=o) (by rw[HKK.out];exact h1) (by rw[HKK.out];exact h2) (by rw[HKK.out];exact h3) (by rw[HKK.out];exact h4) (by rw[HKK.out];exact h5))
      clear h1 h2 h3 h4 h5 CB CC CD
      have OL:=Zaa (X4.out.lt)
      have OX1:Old w B m B m:=.inl ⟨rfl,rfl⟩
      have OX2:Old w D l D l:=.inl ⟨rfl,rfl⟩
      have OX3:Old w I ni I ni:=.inl ⟨rfl,rfl⟩
      have O1:=Zaa OX1
      have O2:=Zaa OX2
      have O3:=Zaa OX3
      have FA:=Zaa ((show Old w0 B m B m from .inl ⟨rfl,rfl⟩).far XO.out.mark (show w.heap.size≤w.heap.size+1+1+1+1 by omega) OL.out)
      have FB:=Zaa ((show Old w0 D l D l from .inl ⟨rfl,rfl⟩).far XO.out.busy (show w.heap.size≤w.heap.size+1+1+1+1 by omega) OL.out)
      have FC:=Zaa ((show Old w0 I ni I ni from .inl ⟨rfl,rfl⟩).far XO.out.items (show w.heap.size≤w.heap.size+1+1+1+1 by omega) OL.out)
      have DX:=Zaa (XO.out.keep HB.out)
      have T1:=Zaa X1.out
      have T3:=Zaa X3.out
      have T4:=Zaa X4.out
      have BX:=Zaa HB.out
      go_upto_region 16 with fail
      clear X0 X1 X2 X3 X4 HB XO a0 a1 a2 c0 c1 c2 y0 y1 y2 y3 y4 k0 k1 k2 OX1 OX2 OX3 q1 q2 q3 q4 q5
      obtain⟨c0,c1,c2⟩:=T1.out.three
      obtain⟨z0,z1,z2⟩:=T3.out.three
      obtain⟨v0,v1⟩:=T4.out.two
      have fz0:=T3.out.frozen 0
      have fz1:=T3.out.frozen 1
      have fz2:=T3.out.frozen 2
      have g0:=T4.out.frozen 0
      have g1:=T4.out.frozen 1
      have U3:=Zaa (((T3.out.set3 (.slice B m d) (.slice D l e) (.slice I ni ci)).other (a:=⟨w.heap.size+1+1+1+1,0,none⟩) (.int .i64 5) (by show w.heap.size+1+1+1≠w.heap.size+1+1+1+1;omega)).other (a:=⟨w.heap.size+1+1+1+1,1,none⟩) (.int .i64 0) (by show w.heap.size+1+1+1≠w.heap.size+1+1+1+1;omega))
      have U4:=Zaa ((((T4.out.other (a:=⟨w.heap.size+1+1+1,0,none⟩) (.slice B m d) (by show w.heap.size+1+1+1+1≠w.heap.size+1+1+1;omega)).other (a:=⟨w.heap.size+1+1+1,1,none⟩) (.slice D l e) (by show w.heap.size+1+1+1+1≠w.heap.size+1+1+1;omega)).other (a:=⟨w.heap.size+1+1+1,2,none⟩) (.slice I ni ci) (by show w.heap.size+1+1+1+1≠w.heap.size+1+1+1;omega)).set2 (.int .i64 5) (.int .i64 0))
      have UD:=Zaa (((DX.out.beside T3.out ZbF (Zan.set3 _ _ (.slice B m d) (.slice D l e) (.slice I ni ci))).set (p:=⟨w.heap.size+1+1+1+1,0,none⟩) (v:=.int .i64 5) FA.out FB.out FC.out).set (p:=⟨w.heap.size+1+1+1+1,1,none⟩) (v:=.int .i64 0) FA.out FB.out FC.out)
      have UB:=Zaa (((Zaj BX.out (show w.heap.size≤w.heap.size+1+1+1 by omega) (.slice B m d) (.slice D l e) (.slice I ni ci)).setCell (p:=⟨w.heap.size+1+1+1+1,0,none⟩) (by show w.heap.size≤w.heap.size+1+1+1+1;omega) (.int .i64 5)).setCell (p:=⟨w.heap.size+1+1+1+1,1,none⟩) (by show w.heap.size≤w.heap.size+1+1+1+1;omega) (.int .i64 0))
      go_wp2
      obtain⟨r0,r1,r2⟩:=U3.out.three
      obtain⟨r3,r4⟩:=U4.out.two
      exact bodyPost_ret (v:=.tuple #[.agg #[.slice B m d,.slice D l e,.slice I ni ci],.agg #[.int .i64 5,.int .i64 0]]) (by simp[results,Tryz.results21,go_sem,r0,r1,r2,r3,r4]) rfl (by rw[FN.out];exact⟨_,_,_,_,_,_,_,_,_,rfl,UD.out,UB.out,O1.out,O2.out,O3.out⟩)
end Go.Proofs.YtfmnagcglhlicaaGreat
