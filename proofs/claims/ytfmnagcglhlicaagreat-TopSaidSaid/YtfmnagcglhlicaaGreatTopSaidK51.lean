/- The contract of desk.change. Conditions: the net, the roles and the desk read as lists; each item is of a transition. -/
import Derived.Test.YtfmnagcglhlicaaGreatTopSaidK50
set_option maxRecDepth 100000
namespace Go.Proofs.YtfmnagcglhlicaaGreat
open Go.RowKit
theorem Zad.frozenAt {α:Type}{R:World→(Nat→Value)→α→Prop}{sz:Nat}{w:World}{B e g n cap:Nat}{xs:List α}(h:Zad R sz w B e (.slice (some ⟨g,0,none⟩) n cap) n xs)(j:Nat):w.frozen? ⟨g,j,none⟩=false:=by
 obtain⟨cells,h1,_⟩:=h
 exact World.ownsRow.frozenAt h1 j
theorem Zad.someAt {α:Type}{R:World→(Nat→Value)→α→Prop}{sz:Nat}{w:World}{B e g n cap:Nat}{xs:List α}(h:Zad R sz w B e (.slice (some ⟨g,0,none⟩) n cap) n xs){j:Nat}(hj:j<n*sz):∃v,w.cell? ⟨g,j,none⟩=some v:=by
 obtain⟨cells,h1,_⟩:=h
 exact⟨_,by rw[World.ownsRow.cellAt h1 j hj,List.getElem?_eq_getElem (by have:=h1.1;omega)]⟩
def ZbH (w:World)(g i:Nat)(a:Za3):World:=((w.setCell ⟨g,i*3,none⟩ (.int .i64 a.user)).setCell ⟨g,i*3+1,none⟩ (.int .i64 a.tran)).setCell ⟨g,i*3+2,none⟩ (.bool a.open_)
theorem ZcQ.put {w:World}{B g n cap i:Nat}{L:List Za3}{a:Za3}(h:ZcQ w B (.slice (some ⟨g,0,none⟩) n cap) n L)(hi:i<n):ZcQ (ZbH w g i a) B (.slice (some ⟨g,0,none⟩) n cap) n (L.set i a):=by
 obtain⟨cells,h1,h2,h3⟩:=h
 have hl:=h1.1
 refine⟨_,((((h1.stored (i*3) (.int .i64 a.user)).1.stored (i*3+1) (.int .i64 a.tran)).1.stored (i*3+2) (.bool a.open_)).1),⟨by simp[h2.1],fun q x hx=>?_⟩,by rw[List.length_set];exact h3⟩
 by_cases e:q=i
 ·subst e
  rw[List.getElem?_set_self (by omega)]at hx
  injection hx with hx
  subst hx
  refine⟨fun j=>match j with|0=>.int .i64 a.user|1=>.int .i64 a.tran|_=>.bool a.open_,fun j hj=>?_,rfl,rfl,rfl⟩
  match j,hj with
  | 0,_ =>
   rw[List.getElem?_set_ne (by omega),List.getElem?_set_ne (by omega)]
   exact List.getElem?_set_self (by omega)
  | 1,_ =>
   rw[List.getElem?_set_ne (by omega)]
   exact List.getElem?_set_self (by simp;omega)
  | 2,_=>exact List.getElem?_set_self (by simp;omega)
 ·rw[List.getElem?_set_ne (fun e2=>e e2.symm)]at hx
  obtain⟨vs,a1,a2⟩:=h2.2 q x hx
  refine⟨vs,fun j hj=>?_,a2⟩
  rw[List.getElem?_set_ne (by omega),List.getElem?_set_ne (by omega),List.getElem?_set_ne (by omega)]
  exact a1 j hj
theorem ZbD {w:World}{g i b ty:Nat}{a:Za3}{cs:Array Value}(h:Box w b ty cs)(hne:b≠g):Box (ZbH w g i a) b ty cs:=((h.other _ hne).other _ hne).other _ hne
theorem Zd2 {B g i:Nat}{a:Za3}{w0 w:World}(h:Below B w0 w)(hg:B≤g):Below B w0 (ZbH w g i a):=((h.setCell hg _).setCell hg _).setCell hg _
theorem Sl.ltOf {α:Type}{R:World→(Nat→Value)→α→Prop}{sz:Nat}{w:World}{A:Option Addr}{n c:Nat}{xs:List α}(h:Sl R sz w A n c xs):∀b off,A=some ⟨b,off,none⟩→0<n→b<w.heap.size:=by
 intro b off e h0
 obtain⟨b2,o2,e2,hl,_⟩:=h.cells h0
 rw[e]at e2
 injection e2 with e2
 injection e2 with e2
 subst e2
 exact hl
theorem Zbf {w:World}{A:Option Addr}{na ca:Nat}{xs:List Int}(h:Zam w A na ca xs){p:Addr}{v:Value}(hne:∀b off,A=some ⟨b,off,none⟩→0<na→b≠p.block):Zam (w.setCell p v) A na ca xs :=
 ⟨h.len,h.le,h.cap,h.small,h.nul,fun hn=>by
  obtain⟨b,off,e,hlt,hc⟩:=h.cells hn
  have hbg:=hne b off e hn
  refine⟨b,off,e,by simpa [World.setCell] using hlt,fun q x hx=>?_⟩
  obtain⟨vs,h1,h2⟩:=hc q x hx
  refine⟨vs,fun t ht=>?_,h2⟩
  rw[World.cell?_setCell_other _ _ _ _ (fun e=>hbg (congrArg Addr.block e).symm)]
  exact h1 t ht⟩
theorem Zmg {α:Type}{R:World→(Nat→Value)→α→Prop}{sz:Nat}{w:World}{B e n:Nat}{v:Value}{xs:List α}(h:Zad R sz w B e v n xs)(hn:0<n):∃gg cap,v=.slice (some ⟨gg,0,none⟩) n cap∧B≤gg:=by
 obtain⟨cells,o1,_⟩:=h
 obtain⟨gg,cap,h1,h2,_⟩:=o1.form hn
 exact⟨gg,cap,h1,h2⟩
theorem Zgl {w:World}{g i:Nat}{a:Za3}{A:Option Addr}{na ca:Nat}{xs:List Int}(h:Zam w A na ca xs)(hne:∀b off,A=some ⟨b,off,none⟩→0<na→b≠g):Zam (ZbH w g i a) A na ca xs :=
 ⟨h.len,h.le,h.cap,h.small,h.nul,fun hn=>by
  obtain⟨b,off,e,hlt,hc⟩:=h.cells hn
  have hbg:=hne b off e hn
  refine⟨b,off,e,by simpa [ZbH,World.setCell] using hlt,fun q x hx=>?_⟩
  obtain⟨vs,h1,h2⟩:=hc q x hx
  refine⟨vs,fun t ht=>?_,h2⟩
  have:=h1 t ht
  unfold ZbH
  rw[World.cell?_setCell_other _ _ _ _ (fun e=>hbg (congrArg Addr.block e).symm),World.cell?_setCell_other _ _ _ _ (fun e=>hbg (congrArg Addr.block e).symm),World.cell?_setCell_other _ _ _ _ (fun e=>hbg (congrArg Addr.block e).symm)]
  exact this⟩
theorem ZcI {w:World}{A:Option Addr}{n c:Nat}{xs:List Za3}(h:Zir w A n c xs)(hn:n≤5864062014805) :
  Calls Tryz.prog 107 #[.slice A n c] w (ZrM Zcl 3 42 n xs w):=by
 have HB:=Zaa (show ∀o,Below w.heap.size w (w.alloc o)from fun o=>(Below.refl _ _).alloc (Nat.le_refl _) _)
 rcases A with _|ad
 ·have hc:=h.nul rfl
  have hn0:n=0:=by have:=h.le;omega
  subst hc hn0
  have hx:=List.eq_nil_of_length_eq_zero h.len
  subst hx
  clear h
  have he:=fun(w:World)=>Lib.run_eql_slice_nil (P:=Tryz.prog) w 31 42 none 0 0 0 0 Tryz.underlying31
  go_enter Tryz.func107,Tryz.ntmps107
  go_wp2
  go_ret
  exact⟨_,rfl,Zad.nil,Below.refl _ _⟩
 ·have H:=Zaa h
  have O:=Zaa (Zad.empty (R:=Zcl) (sz:=3) (w:=w) (B:=w.heap.size) (e:=42) (Nat.le_refl _))
  clear h
  have he:=fun(w:World)=>Lib.run_eql_slice_nil (P:=Tryz.prog) w 31 42 (some ad) n c 0 0 Tryz.underlying31
  go_enter Tryz.func107,Tryz.ntmps107
  go_wp2_with (at_builtin;refine Zec Zmf Zcl.good rfl _ _ rfl rfl rfl O.out (Sl.keep Zcl.kept H.out (HB.out _)) (HB.out _) (by simp) (by omega) (by omega) (fun _ _ _ _ h=>h) ?_;intro v1 w1 own1 hg1 hb1)
  go_ret
  exact⟨_,rfl,by simpa using own1,hb1⟩
theorem Zoi {N:Zau}{roles:List (List Int)}{k:ZaB}{o:POp}{x:Int}(h:Zdr k o=x)(h0:x≠0):ZbB N roles k o=(k,0,x):=by rw[ZbB,if_neg (by rw[h];exact h0),h]
theorem Zmh {N:Zau}{roles:List (List Int)}{k:ZaB}{o:POp}(h:Zdr k o=0)(h4:o.kind=4)(g:ZjM roles o.to_ (ZdL N (Zbd k o).tran)=false):ZbB N roles k o=(k,0,6):=by rw[ZbB,if_pos h,if_pos h4,if_neg (by rw[g];decide)]
theorem Zk6 {N:Zau}{roles:List (List Int)}{k:ZaB}{o:POp}(h:Zdr k o=0)(h4:o.kind=4)(g:ZjM roles o.to_ (ZdL N (Zbd k o).tran)=true):ZbB N roles k o=(⟨k.case_,k.items.set o.item.toNat ⟨o.to_,(Zbd k o).tran,(Zbd k o).open_⟩⟩,o.item,0):=by rw[ZbB,if_pos h,if_pos h4,if_pos g]
theorem Zh2 {N:Zau}{roles:List (List Int)}{k:ZaB}{o:POp}{kd:Int}{p:Zay×Int}(h:Zdr k o=0)(h4:o.kind≠4)(hk:ZfR o=kd)(hp:doL N k.case_ kd (Zbd k o).tran=p)(he:p.2≠0):ZbB N roles k o=(k,0,p.2):=by rw[ZbB,if_pos h,if_neg h4,hk,hp,if_neg he]
theorem ZgH {N:Zau}{roles:List (List Int)}{k:ZaB}{o:POp}{kd:Int}{p:Zay×Int}(h:Zdr k o=0)(h4:o.kind≠4)(hk:ZfR o=kd)(hp:doL N k.case_ kd (Zbd k o).tran=p)(he:p.2=0):ZbB N roles k o=(⟨p.1,k.items.set o.item.toNat ⟨(Zbd k o).user,(Zbd k o).tran,false⟩⟩,o.item,0):=by rw[ZbB,if_pos h,if_neg h4,hk,hp,if_pos he]
set_option maxHeartbeats 8000000 in
theorem ZgU {w:World}{P:Int}{A R B D I:Option Addr}{n c r q m d l e ni ci:Nat}{ts:List Zak}{roles:List (List Int)}{k:ZaB}(o:POp)(h:ZaP w A n c ts)(g:ZaS w R r q roles)(x:Zcm w B m d D l e I ni ci k)(hl:l≤17592186044416)(hni:ni≤5864062014634)(hin:∀it∈k.items,inT ⟨P,ts⟩ it.tran) :
  Calls Tryz.prog 58 #[.agg #[.int .i64 P,.slice A n c,.slice R r q],.agg #[.slice B m d,.slice D l e,.slice I ni ci],.agg #[.int .i64 o.kind,.int .i64 o.user,.int .i64 o.tran,.int .i64 o.item,.int .i64 o.to_]] w (Zqc B m D l I ni (ZbB ⟨P,ts⟩ roles k o) w):=by
 obtain⟨kk,hkk⟩:∃it,o.kind=it:=⟨_,rfl⟩
 obtain⟨it,hit⟩:∃it,o.item=it:=⟨_,rfl⟩
 obtain⟨ot,hot⟩:∃it,o.to_=it:=⟨_,rfl⟩
 have HKK:=Zaa hkk
 have HIT:=Zaa hit
 have HOT:=Zaa hot
 have CI:=Zaa (fun(w':World) (hb:Below w.heap.size w w')=>Zod o (x.keep hb))
 rw[hkk,hit,hot]at CI
 rw[hkk,hit,hot]
 generalize hw:(((w.alloc (.cells #[.int .i64 P,.slice A n c,.slice R r q] 75)).alloc (.cells #[.slice B m d,.slice D l e,.slice I ni ci] 33)).alloc (.cells #[.int .i64 kk,.int .i64 o.user,.int .i64 o.tran,.int .i64 it,.int .i64 ot] 45)).alloc (.cells #[.slice none 0 0,.slice none 0 0,.slice none 0 0] 33)=w0
 have HB:=Zaa (show Below w.heap.size w w0 by rw[←hw];exact((((Below.refl _ _).alloc (Nat.le_refl _) _).alloc (by simp) _).alloc (by simp;omega) _).alloc (by simp;omega) _)
 have X0:=Zaa (show Box w0 w.heap.size 75 #[.int .i64 P,.slice A n c,.slice R r q] by rw[←hw];exact(((Box.new _ _ _).old _).old _).old _)
 have X1:=Zaa (show Box w0 (w.heap.size+1) 33 #[.slice B m d,.slice D l e,.slice I ni ci] by rw[←hw];exact((Box.newAt (by simp) _ _).old _).old _)
 have X2:=Zaa (show Box w0 (w.heap.size+1+1) 45 #[.int .i64 kk,.int .i64 o.user,.int .i64 o.tran,.int .i64 it,.int .i64 ot] by rw[←hw];exact(Box.newAt (by simp) _ _).old _)
 have X3:=Zaa (show Box w0 (w.heap.size+1+1+1) 33 #[.slice none 0 0,.slice none 0 0,.slice none 0 0] by rw[←hw];exact Box.newAt (by simp) _ _)
 have HO:=Zaa h
 have GO:=Zaa g
 have XO:=Zaa x
 have HIN:=Zaa hin
 have hn:=h.small
 have HL:=Zaa h.len
 clear h g x hkk hit hot hin
 go_enter Tryz.func58,Tryz.ntmps58
 go_upto_region 1 with fail
 clear hw
 obtain⟨c0,c1,c2⟩:=X1.out.three
 obtain⟨y0,y1,y2,y3,y4⟩:=X2.out.five
 obtain⟨z0,z1,z2⟩:=X3.out.three
 obtain⟨ie,hie⟩:∃v,Zdr k o=v:=⟨_,rfl⟩
 obtain⟨iv,hiv⟩:∃v,Zk3 k o=v:=⟨_,rfl⟩
 have HIE:=Zaa hie
 have HIV:=Zaa hiv
 have CJ:=Zaa (CI.out w0 HB.out)
 unfold Zds at CJ
 rw[hie,hiv]at CJ
 clear hie hiv CI
 obtain⟨uu,tt,oo⟩:=iv
 go_upto_region 2 with(go_at_call 106;(with_reducible refine CJ.out.mono ?_);rintro e1 w1 ⟨rfl,hb1⟩;have F1:=Zaa hb1;clear hb1)
 have XT:=Zaa (Box.new w1 #[.int .i64 uu,.int .i64 tt,.bool oo] 42)
 have NB:=Zcv w1 (.cells #[.int .i64 uu,.int .i64 tt,.bool oo] 42)
 have bb:=F1.out.trans (NB.mono F1.out.size)
 have Y0:=Zaa (X0.out.keep bb)
 have Y1:=Zaa (X1.out.keep bb)
 have Y2:=Zaa (X2.out.keep bb)
 have Y3:=Zaa (X3.out.keep bb)
 have SB:=Zaa (show w.heap.size+1+1+1+1≤w1.heap.size from Nat.le_trans X3.out.lt F1.out.size)
 have BB:=Zaa (HB.out.trans (bb.mono HB.out.size))
 clear X0 X1 X2 X3 HB F1 NB bb c0 c1 c2 y0 y1 y2 y3 y4 z0 z1 z2 CJ
 generalize w1.alloc (.cells #[.int .i64 uu,.int .i64 tt,.bool oo] 42)=w2 at *
 generalize w1.heap.size=bx at *
 obtain⟨a0,a1,a2⟩:=Y0.out.three
 obtain⟨c0,c1,c2⟩:=Y1.out.three
 obtain⟨y0,y1,y2,y3,y4⟩:=Y2.out.five
 obtain⟨z0,z1,z2⟩:=Y3.out.three
 have f0:=Y3.out.frozen 0
 have f1:=Y3.out.frozen 1
 have f2:=Y3.out.frozen 2
 obtain⟨x0,x1,x2⟩:=XT.out.three
 have g0:=XT.out.frozen 0
 have g2:=XT.out.frozen 2
 have k0:=Y1.out.frozen 0
 have k1:=Y1.out.frozen 1
 have k2:=Y1.out.frozen 2
 by_cases hz:ie=0
 ·subst hz
  obtain⟨i0,i1,io,iu,ix⟩:=Zgi HIE.out
  have IV:=Zaa (show Zbd k o=⟨uu,tt,oo⟩ by have:=HIV.out;unfold Zk3 at this;rw[if_pos HIE.out]at this;exact this)
  obtain⟨j,hj⟩:∃j:Nat,it=(j:Int):=⟨it.toNat,by have:=HIT.out;omega⟩
  subst hj
  have hjn:j<ni:=by have:=HIT.out;have:=XO.out.items.len;omega
  have hji:(j:Int)<(ni:Int):=by omega
  have hint:=HIN.out _ (List.mem_of_getElem? ix)
  rw[IV.out]at hint ix io iu
  have OO:=Zaa (show oo=true from io)
  have JT:=Zaa (show o.item.toNat=j by rw[HIT.out];rfl)
  obtain⟨tj,rfl⟩:∃tj:Nat,tt=(tj:Int):=⟨tt.toNat,by have:=hint.1;simp only at this;omega⟩
  have htj:tj<n:=by have:=hint.2;have:=HL.out;simp only at *;omega
  have htji:(tj:Int)<(n:Int):=by omega
  clear i0 i1 io iu ix hint
  by_cases h4:kk=4
  ·subst h4
   have H2:=Zaa (HO.out.keep BB.out)
   obtain⟨b,off,t,A1,n1,c1',A2,n2,c2',rfl,hb,ht,q0,q1,q2,_⟩:=ZaP.get H2.out htj
   have LB:=Zaa (show ZdL ⟨P,ts⟩ (Zbd k o).tran=t.label by rw[IV.out];exact Zk5 ht.out)
   clear q1 q2
   obtain⟨lb,hlb⟩:∃lb,t.label=lb:=⟨_,rfl⟩
   rw[hlb]at q0 LB
   obtain⟨mv,hmv⟩:∃v,ZjM roles ot lb=v:=⟨_,rfl⟩
   have CM:=Zaa (fun(w':World) (hb:Below w2.heap.size w2 w')=>Zk2 (P:=P) (A:=some ⟨b,off,none⟩) (n:=n) (c:=c) ot lb (Sl.keep ZaL.kept GO.out (BB.out.trans (hb.mono BB.out.size))))
   simp only[hmv]at CM
   have HMV:=Zaa (show ZjM roles o.to_ (ZdL ⟨P,ts⟩ (Zbd k o).tran)=mv by rw[LB.out,HOT.out];exact hmv)
   clear hmv hlb
   have KEEP:=Zaa (show ∀w',Below w2.heap.size w2 w'→w'.cell? ⟨w.heap.size,0,none⟩=some (.int .i64 P)∧w'.cell? ⟨w.heap.size,1,none⟩=some (.slice (some ⟨b,off,none⟩) n c)∧w'.cell? ⟨w.heap.size,2,none⟩=some (.slice R r q)∧w'.cell? ⟨w.heap.size+1+1,4,none⟩=some (.int .i64 ot)∧w'.cell? ⟨bx,1,none⟩=some (.int .i64 (tj:Int))∧w'.cell? ⟨b,off+tj*3,none⟩=some (.int .i64 lb)from fun w' hb'=>by
    obtain⟨e0,e1,e2⟩:=(Y0.out.keep hb').three
    obtain⟨_,_,_,_,g4⟩:=(Y2.out.keep hb').five
    obtain⟨_,u1,_⟩:=(XT.out.keep hb').three
    exact⟨e0,e1,e2,g4,u1,(hb'.cell (p:=⟨b,off+tj*3,none⟩) hb).trans q0⟩)
   have DR:=Zaa ((Below.refl w2.heap.size w2).drew)
   go_upto_region 5 with fail
   go_region_held3 (fun w'=>w'.cell? ⟨w.heap.size,0,none⟩=some (.int .i64 P)∧w'.cell? ⟨w.heap.size,1,none⟩=some (.slice (some ⟨b,off,none⟩) n c)∧w'.cell? ⟨w.heap.size,2,none⟩=some (.slice R r q)∧w'.cell? ⟨w.heap.size+1+1,4,none⟩=some (.int .i64 ot)∧w'.cell? ⟨bx,1,none⟩=some (.int .i64 (tj:Int))∧w'.cell? ⟨b,off+tj*3,none⟩=some (.int .i64 lb))
    (first|go_keep)
    (first|(go_at_call 104;(with_reducible refine(CM.out _ DR.out).mono ?_);rintro e3 w3 ⟨rfl,hb3⟩;have F3:=Zaa (DR.out.trans (hb3.mono DR.out.size));clear hb3 a0 a1 a2 c0 c1 c2 y0 y1 y2 y3 y4 z0 z1 z2 q0 x0 x1 x2;obtain⟨a0,a1,a2,y4,x1,q0⟩:=KEEP.out w3 F3.out))
   all_goals
    clear a0 a1 a2 y4 x1 q0 f0 f1 f2 g0 g2 k0 k1 k2
    have Z1:=Zaa (Y1.out.keep F3.out)
    have Z2:=Zaa (Y2.out.keep F3.out)
    have Z3:=Zaa (Y3.out.keep F3.out)
    have ZT:=Zaa (XT.out.keep F3.out)
    have BC:=Zaa (BB.out.trans (F3.out.mono BB.out.size))
    clear Y0 Y1 Y2 Y3 XT BB F3 CM KEEP DR H2
    obtain⟨c0,c1,c2⟩:=Z1.out.three
    obtain⟨y0,y1,y2,y3,y4⟩:=Z2.out.five
    obtain⟨z0,z1,z2⟩:=Z3.out.three
    have f0:=Z3.out.frozen 0
    have f1:=Z3.out.frozen 1
    have f2:=Z3.out.frozen 2
    obtain⟨x0,x1,x2⟩:=ZT.out.three
    have g0:=ZT.out.frozen 0
    cases mv
    ·have FN:=Zaa (Zmh HIE.out (by rw[HKK.out]) HMV.out)
     go_wp2
     obtain⟨r0,r1,r2⟩:=(Z3.out.set3 (.slice B m d) (.slice D l e) (.slice I ni ci)).three
     have BZ:=Zaj BC.out (show w.heap.size≤w.heap.size+1+1+1 by omega) (.slice B m d) (.slice D l e) (.slice I ni ci)
     exact bodyPost_ret (v:=.tuple #[.agg #[.slice B m d,.slice D l e,.slice I ni ci],.int .i64 0,.int .i64 6]) (by simp[results,Tryz.results58,go_sem,r0,r1,r2]) rfl (by rw[FN.out];exact⟨B,m,d,D,l,e,I,ni,ci,rfl,XO.out.keep BZ,BZ,.inl ⟨rfl,rfl⟩,.inl ⟨rfl,rfl⟩,.inl ⟨rfl,rfl⟩⟩)
    ·have FN:=Zaa (Zk6 HIE.out (by rw[HKK.out]) HMV.out)
     rw[IV.out,HOT.out,HIT.out,show((j:Int)).toNat=j from rfl]at FN
     go_upto_region 15 with fail
     clear c0 c1 c2 y0 y1 y2 y3 y4 z0 z1 z2 f0 f1 f2 x0 x1 x2 g0
     have T1:=Zaa (Z1.out.other (a:=⟨bx,0,none⟩) (.int .i64 ot) (by show w.heap.size+1≠bx;have:=SB.out;omega))
     have T2:=Zaa (Z2.out.other (a:=⟨bx,0,none⟩) (.int .i64 ot) (by show w.heap.size+1+1≠bx;have:=SB.out;omega))
     have T3:=Zaa (Z3.out.other (a:=⟨bx,0,none⟩) (.int .i64 ot) (by show w.heap.size+1+1+1≠bx;have:=SB.out;omega))
     have TT:=Zaa (ZT.out.set 0 (.int .i64 ot))
     simp only[List.setIfInBounds_toArray,List.set_cons_zero]at TT
     have BX:=Zaa (BC.out.setCell (p:=⟨bx,0,none⟩) (by show w.heap.size≤bx;have:=SB.out;omega) (.int .i64 ot))
     have LM:=Zaa (XO.out.mark.keep BX.out)
     have LB:=Zaa (XO.out.busy.keep BX.out)
     clear Z1 Z2 Z3 ZT BC
     generalize w3.setCell ⟨bx,0,none⟩ (.int .i64 ot)=wx at *
     obtain⟨c0,c1,c2⟩:=T1.out.three
     have k2:=T1.out.frozen 2
     go_upto_region 16 with(go_at_call 107;(with_reducible refine(ZcI (Sl.keep Zcl.kept XO.out.items BX.out) (by omega)).mono ?_);rintro e5 w5 ⟨v5,rfl,own5,hb5⟩;obtain⟨gg,cap,rfl,hgg⟩:=Zmg own5 (by omega);have O5:=Zaa own5;have B5:=Zaa hb5;clear own5 hb5 c0 c1 c2 k2;obtain⟨c0,c1,c2⟩:=(T1.out.keep B5.out).three;have k2:=(T1.out.keep B5.out).frozen 2)
     have hgw:w.heap.size≤gg:=Nat.le_trans BX.out.size hgg
     have Q1:=Zaa ((T1.out.keep B5.out).set 2 (.slice (some ⟨gg,0,none⟩) ni cap))
     have Q2:=Zaa ((T2.out.keep B5.out).other (a:=⟨w.heap.size+1,2,none⟩) (.slice (some ⟨gg,0,none⟩) ni cap) (by show w.heap.size+1+1≠w.heap.size+1;omega))
     have Q3:=Zaa ((T3.out.keep B5.out).other (a:=⟨w.heap.size+1,2,none⟩) (.slice (some ⟨gg,0,none⟩) ni cap) (by show w.heap.size+1+1+1≠w.heap.size+1;omega))
     have QT:=Zaa ((TT.out.keep B5.out).other (a:=⟨w.heap.size+1,2,none⟩) (.slice (some ⟨gg,0,none⟩) ni cap) (by show bx≠w.heap.size+1;have:=SB.out;omega))
     have hlt1:=(T1.out.keep B5.out).lt
     have hlt3:=(T3.out.keep B5.out).lt
     have hltT:=TT.out.lt
     have NM:=Zaa (LM.out.ltOf)
     have NL:=Zaa (LB.out.ltOf)
     have QM:=Zaa ((LM.out.keep B5.out).beside (T1.out.keep B5.out) ZbF (Zan.set _ _ 2 (.slice (some ⟨gg,0,none⟩) ni cap)))
     have QB:=Zaa ((LB.out.keep B5.out).beside (T1.out.keep B5.out) ZbF (Zan.set _ _ 2 (.slice (some ⟨gg,0,none⟩) ni cap)))
     have hg1:=T1.out.lt
     have QO:=Zaa (show ZcQ (w5.setCell ⟨w.heap.size+1,2,none⟩ (.slice (some ⟨gg,0,none⟩) ni cap)) wx.heap.size (.slice (some ⟨gg,0,none⟩) ni cap) ni k.items from by
      obtain⟨cells,o1,o2,o3⟩:=O5.out
      exact⟨cells,ownsRow_setCell_other o1 (by simp only[Value.ownBlock,ne_eq,Option.some.injEq];omega) _,⟨o2.1,o2.2⟩,o3⟩)
     have BY:=Zaa ((BX.out.trans (B5.out.mono BX.out.size)).setCell (p:=⟨w.heap.size+1,2,none⟩) (by show w.heap.size≤w.heap.size+1;omega) (.slice (some ⟨gg,0,none⟩) ni cap))
     have SZ:=Zaa (show wx.heap.size≤(w5.setCell ⟨w.heap.size+1,2,none⟩ (.slice (some ⟨gg,0,none⟩) ni cap)).heap.size by have:=B5.out.size;simpa [World.setCell] using this)
     clear c0 c1 c2 k2 O5 B5 T1 T2 T3 TT LM LB BX hlt1 hlt3
     generalize w5.setCell ⟨w.heap.size+1,2,none⟩ (.slice (some ⟨gg,0,none⟩) ni cap)=w6 at *
     simp only[List.setIfInBounds_toArray,List.set_cons_succ,List.set_cons_zero]at Q1
     obtain⟨c0,c1,c2⟩:=Q1.out.three
     obtain⟨y0,y1,y2,y3,y4⟩:=Q2.out.five
     obtain⟨x0,x1,x2⟩:=QT.out.three
     obtain⟨v0,h0⟩:=QO.out.someAt (j:=j*3) (by omega)
     obtain⟨v1,h1⟩:=QO.out.someAt (j:=j*3+1) (by omega)
     obtain⟨v2,h2⟩:=QO.out.someAt (j:=j*3+2) (by omega)
     have m0:=QO.out.frozenAt (j*3)
     have m1:=QO.out.frozenAt (j*3+1)
     have m2:=QO.out.frozenAt (j*3+2)
     go_upto_region 17 with fail
     clear c0 c1 c2 y0 y1 y2 y3 y4 x0 x1 x2 h0 h1 h2 m0 m1 m2
     have hgs:=hg1
     have PO:=Zaa (ZcQ.put (a:=⟨ot,(tj:Int),oo⟩) QO.out hjn)
     have P1:=Zaa (ZbD (g:=gg) (i:=j) (a:=⟨ot,(tj:Int),oo⟩) Q1.out (by omega))
     have P2:=Zaa (ZbD (g:=gg) (i:=j) (a:=⟨ot,(tj:Int),oo⟩) Q2.out (by have:=SB.out;omega))
     have P3:=Zaa (ZbD (g:=gg) (i:=j) (a:=⟨ot,(tj:Int),oo⟩) Q3.out (by have:=SB.out;omega))
     have PB:=Zaa (Zd2 (i:=j) (a:=⟨ot,(tj:Int),oo⟩) BY.out (show w.heap.size≤gg by omega))
     have PM:=Zaa (show Zam (ZbH w6 gg j ⟨ot,(tj:Int),oo⟩) B m d k.case_.mark from Zgl QM.out (fun b' off' e' h0'=>by have:=NM.out b' off' e' h0';omega))
     have PX:=Zaa (show Zam (ZbH w6 gg j ⟨ot,(tj:Int),oo⟩) D l e k.case_.busy from Zgl QB.out (fun b' off' e' h0'=>by have:=NL.out b' off' e' h0';omega))
     clear Q1 Q2 Q3 QT QM QB QO BY SZ
     have hpw:((w6.setCell ⟨gg,j*3,none⟩ (.int .i64 ot)).setCell ⟨gg,j*3+1,none⟩ (.int .i64 (tj:Int))).setCell ⟨gg,j*3+2,none⟩ (.bool oo)=ZbH w6 gg j ⟨ot,(tj:Int),oo⟩:=rfl
     rw[hpw]
     clear hpw
     generalize ZbH w6 gg j ⟨ot,(tj:Int),oo⟩=w7 at *
     have hcj:Hid (w7.drew.cell? ⟨w.heap.size+1,0,none⟩=some (.slice B m d)∧w7.drew.cell? ⟨w.heap.size+1,1,none⟩=some (.slice D l e)∧w7.drew.cell? ⟨w.heap.size+1,2,none⟩=some (.slice (some ⟨gg,0,none⟩) ni cap)∧w7.drew.cell? ⟨w.heap.size+1+1,3,none⟩=some (.int .i64 (j:Int))):=by
      obtain⟨c0,c1,c2⟩:=P1.out.three
      obtain⟨_,_,_,y3,_⟩:=P2.out.five
      exact⟨c0,c1,c2,y3⟩
     refine Zae 4 (.takes [0,1,2] (.one 3 (.fin 4 (.fin 5 .done)))) (fun w'=>w'.cell? ⟨w.heap.size+1,0,none⟩=some (.slice B m d)∧w'.cell? ⟨w.heap.size+1,1,none⟩=some (.slice D l e)∧w'.cell? ⟨w.heap.size+1,2,none⟩=some (.slice (some ⟨gg,0,none⟩) ni cap)∧w'.cell? ⟨w.heap.size+1+1,3,none⟩=some (.int .i64 (j:Int))) (by kernel_rfl) (by kernel_rfl) (by kernel_rfl) (fun _ _ _ _ _ h=>h) hcj.out (fun hHeld=>?_)
     simp only[Scr.takes]
     have DR:=Zaa ((Below.refl w7.heap.size w7).drew)
     have R3:=Zaa (P3.out.keep DR.out)
     obtain⟨A9,c9,hv9,s9⟩:=PO.out.sl (by omega)
     injection hv9 with e9 _ e9c
     subst e9 e9c
     have DW:=Zaa (show Zcm w7.drew B m d D l e (some ⟨gg,0,none⟩) ni cap ⟨k.case_,k.items.set j ⟨ot,(tj:Int),oo⟩⟩from⟨PM.out.keep DR.out,PX.out.keep DR.out,Sl.keep Zcl.kept s9 DR.out⟩)
     have BE:=Zaa (PB.out.trans (DR.out.mono PB.out.size))
     clear PO P1 P2 P3 PB PM PX DR s9 hcj
     generalize w7.drew=w8 at *
     iterate 3
      refine Zac (v:=?_) rfl (by rfl) hHeld (fun w' hSw=>?_) ?_
      rotate_left
      ·(go_simp;try with_reducible rfl)
      simp only[Act.put,Zag,Zah,Zai]
     obtain⟨z0,z1,z2⟩:=R3.out.three
     have f0:=R3.out.frozen 0
     have f1:=R3.out.frozen 1
     have f2:=R3.out.frozen 2
     obtain⟨s0,s1,s2,s3⟩:=hHeld
     refine ZaC rfl (fun K hK=>?_)
     go_simp
     refine hK.out _ _ (by refine⟨?_, ?_, ?_, ?_⟩ <;>(rw[World.cell?_setCell_other _ _ _ _ (by simp),World.cell?_setCell_other _ _ _ _ (by simp),World.cell?_setCell_other _ _ _ _ (by simp)];assumption)) (fun _=>?_)
     clear hK z0 z1 z2 f0 f1 f2 s0 s1 s2 s3
     try simp only[Act.put,Zag,Zah,Zai]
     refine Zaz rfl (fun K hK=>?_)
     go_simp
     refine hK.out _ _ ?_
     clear hK
     refine Zaz rfl (fun K hK=>?_)
     go_simp
     refine hK.out _ _ ?_
     clear hK
     simp only[Zbm]
     go_wp2
     obtain⟨r0,r1,r2⟩:=(R3.out.set3 (.slice B m d) (.slice D l e) (.slice (some ⟨gg,0,none⟩) ni cap)).three
     exact bodyPost_ret (v:=.tuple #[.agg #[.slice B m d,.slice D l e,.slice (some ⟨gg,0,none⟩) ni cap],.int .i64 (j:Int),.int .i64 0]) (by simp[results,Tryz.results58,go_sem,r0,r1,r2]) rfl (by rw[FN.out];exact⟨B,m,d,D,l,e,some ⟨gg,0,none⟩,ni,cap,rfl,DW.out.beside R3.out ZbF (Zan.set3 _ _ _ _ _),Zaj BE.out (by omega) _ _ _,.inl ⟨rfl,rfl⟩,.inl ⟨rfl,rfl⟩,.inr (Zbn.at hgw)⟩)
  ·by_cases h3:kk=3
   ·subst h3
    have KD:=Zaa (show ZfR o=4 by unfold ZfR;rw[if_pos HKK.out])
    have CD:=Zaa (Zg6 (P:=P) 4 (tj:Int) (HO.out.keep BB.out) (XO.out.mark.keep BB.out) (XO.out.busy.keep BB.out) hl)
    obtain⟨p,hp⟩:∃p,doL ⟨P,ts⟩ k.case_ 4 (tj:Int)=p:=⟨_,rfl⟩
    rw[hp]at CD
    have HP:=Zaa (show doL ⟨P,ts⟩ k.case_ 4 (Zbd k o).tran=p by rw[IV.out];exact hp)
    clear hp
    go_upto_region 12 with(go_at_call 39;(with_reducible refine CD.out.mono ?_);rintro e3 w3 ⟨A3,n3,k3,A4,n4,k4,rfl,i3,i4,hb3,fr3,fr4⟩;have I3:=Zaa i3;have I4:=Zaa i4;have B3:=Zaa hb3;have FR3:=Zaa fr3;have FR4:=Zaa fr4;have FRA:=Zaa (fr3.mono BB.out.size);have FRB:=Zaa (fr4.mono BB.out.size);clear i3 i4 hb3 fr3 fr4)
    have XC:=Zaa (Box.new w3 #[.slice A3 n3 k3,.slice A4 n4 k4] 30)
    have NB:=Zcv w3 (.cells #[.slice A3 n3 k3,.slice A4 n4 k4] 30)
    have bb:=B3.out.trans (NB.mono B3.out.size)
    have hbx:=XT.out.lt
    have hd1:=Y1.out.lt
    have W1:=Zaa (Y1.out.keep bb)
    have W2:=Zaa (Y2.out.keep bb)
    have W3:=Zaa (Y3.out.keep bb)
    have WT:=Zaa (XT.out.keep bb)
    have J3:=Zaa (I3.out.keep NB)
    have J4:=Zaa (I4.out.keep NB)
    have BC:=Zaa (BB.out.trans (bb.mono BB.out.size))
    clear Y0 Y1 Y2 Y3 XT I3 I4 B3 NB bb a0 a1 a2 c0 c1 c2 y0 y1 y2 y3 y4 z0 z1 z2 f0 f1 f2 x0 x1 x2 g0 g2 k0 k1 k2 BB CD
    generalize w3.alloc (.cells #[.slice A3 n3 k3,.slice A4 n4 k4] 30)=wq at *
    generalize w3.heap.size=bq at *
    obtain⟨c0,c1,c2⟩:=W1.out.three
    obtain⟨z0,z1,z2⟩:=W3.out.three
    obtain⟨q0,q1⟩:=XC.out.two
    obtain⟨x0,x1,x2⟩:=WT.out.three
    have f0:=W3.out.frozen 0
    have f1:=W3.out.frozen 1
    have f2:=W3.out.frozen 2
    have k0:=W1.out.frozen 0
    have k1:=W1.out.frozen 1
    have g2:=WT.out.frozen 2
    by_cases he:p.2=0
    ·have FN:=Zaa (ZgH (roles:=roles) HIE.out (by rw[HKK.out];decide) KD.out HP.out he)
     rw[IV.out,HIT.out,show((j:Int)).toNat=j from rfl]at FN
     have hee:(p.2 != 0)=false:=by simpa using he
     clear he
     go_upto_region 15 with fail
     clear c0 c1 c2 z0 z1 z2 q0 q1 x0 x1 x2 f0 f1 f2 k0 k1 g2 hee
     have hb2x:w.heap.size+1≠bx:=by have:=SB.out;omega
     have T1:=Zaa (((W1.out.set 0 (.slice A3 n3 k3)).set 1 (.slice A4 n4 k4)).other (a:=⟨bx,2,none⟩) (.bool false) hb2x)
     simp only[List.setIfInBounds_toArray,List.set_cons_zero,List.set_cons_succ]at T1
     have T2:=Zaa (((W2.out.other (a:=⟨w.heap.size+1,0,none⟩) (.slice A3 n3 k3) (by show w.heap.size+1+1≠w.heap.size+1;omega)).other (a:=⟨w.heap.size+1,1,none⟩) (.slice A4 n4 k4) (by show w.heap.size+1+1≠w.heap.size+1;omega)).other (a:=⟨bx,2,none⟩) (.bool false) (by show w.heap.size+1+1≠bx;have:=SB.out;omega))
     have T3:=Zaa (((W3.out.other (a:=⟨w.heap.size+1,0,none⟩) (.slice A3 n3 k3) (by show w.heap.size+1+1+1≠w.heap.size+1;omega)).other (a:=⟨w.heap.size+1,1,none⟩) (.slice A4 n4 k4) (by show w.heap.size+1+1+1≠w.heap.size+1;omega)).other (a:=⟨bx,2,none⟩) (.bool false) (by show w.heap.size+1+1+1≠bx;have:=SB.out;omega))
     have TT:=Zaa (((WT.out.other (a:=⟨w.heap.size+1,0,none⟩) (.slice A3 n3 k3) hb2x.symm).other (a:=⟨w.heap.size+1,1,none⟩) (.slice A4 n4 k4) hb2x.symm).set 2 (.bool false))
     simp only[List.setIfInBounds_toArray,List.set_cons_zero,List.set_cons_succ]at TT
     have LM:=Zaa (Zbf (Zbf (Zbf J3.out (p:=⟨w.heap.size+1,0,none⟩) (v:=.slice A3 n3 k3) (fun b' off' e' h0'=>by have hq:w2.heap.size≤b':=FR3.out _ e';show b'≠w.heap.size+1;omega)) (p:=⟨w.heap.size+1,1,none⟩) (v:=.slice A4 n4 k4) (fun b' off' e' h0'=>by have hq:w2.heap.size≤b':=FR3.out _ e';show b'≠w.heap.size+1;omega)) (p:=⟨bx,2,none⟩) (v:=.bool false) (fun b' off' e' h0'=>by have hq:w2.heap.size≤b':=FR3.out _ e';show b'≠bx;omega))
     have LB:=Zaa (Zbf (Zbf (Zbf J4.out (p:=⟨w.heap.size+1,0,none⟩) (v:=.slice A3 n3 k3) (fun b' off' e' h0'=>by have hq:w2.heap.size≤b':=FR4.out _ e';show b'≠w.heap.size+1;omega)) (p:=⟨w.heap.size+1,1,none⟩) (v:=.slice A4 n4 k4) (fun b' off' e' h0'=>by have hq:w2.heap.size≤b':=FR4.out _ e';show b'≠w.heap.size+1;omega)) (p:=⟨bx,2,none⟩) (v:=.bool false) (fun b' off' e' h0'=>by have hq:w2.heap.size≤b':=FR4.out _ e';show b'≠bx;omega))
     have BX:=Zaa (((BC.out.setCell (p:=⟨w.heap.size+1,0,none⟩) (by show w.heap.size≤w.heap.size+1;omega) (.slice A3 n3 k3)).setCell (p:=⟨w.heap.size+1,1,none⟩) (by show w.heap.size≤w.heap.size+1;omega) (.slice A4 n4 k4)).setCell (p:=⟨bx,2,none⟩) (by show w.heap.size≤bx;have:=SB.out;omega) (.bool false))
     clear W1 W2 W3 WT XC J3 J4 BC hbx hd1 FR3 FR4
     generalize ((wq.setCell ⟨w.heap.size+1,0,none⟩ (.slice A3 n3 k3)).setCell ⟨w.heap.size+1,1,none⟩ (.slice A4 n4 k4)).setCell ⟨bx,2,none⟩ (.bool false)=wx at *
     obtain⟨c0,c1,c2⟩:=T1.out.three
     have k2:=T1.out.frozen 2
     go_upto_region 16 with(go_at_call 107;(with_reducible refine(ZcI (Sl.keep Zcl.kept XO.out.items BX.out) (by omega)).mono ?_);rintro e5 w5 ⟨v5,rfl,own5,hb5⟩;obtain⟨gg,cap,rfl,hgg⟩:=Zmg own5 (by omega);have O5:=Zaa own5;have B5:=Zaa hb5;clear own5 hb5 c0 c1 c2 k2;obtain⟨c0,c1,c2⟩:=(T1.out.keep B5.out).three;have k2:=(T1.out.keep B5.out).frozen 2)
     have hgw:w.heap.size≤gg:=Nat.le_trans BX.out.size hgg
     have Q1:=Zaa ((T1.out.keep B5.out).set 2 (.slice (some ⟨gg,0,none⟩) ni cap))
     have Q2:=Zaa ((T2.out.keep B5.out).other (a:=⟨w.heap.size+1,2,none⟩) (.slice (some ⟨gg,0,none⟩) ni cap) (by show w.heap.size+1+1≠w.heap.size+1;omega))
     have Q3:=Zaa ((T3.out.keep B5.out).other (a:=⟨w.heap.size+1,2,none⟩) (.slice (some ⟨gg,0,none⟩) ni cap) (by show w.heap.size+1+1+1≠w.heap.size+1;omega))
     have QT:=Zaa ((TT.out.keep B5.out).other (a:=⟨w.heap.size+1,2,none⟩) (.slice (some ⟨gg,0,none⟩) ni cap) (by show bx≠w.heap.size+1;have:=SB.out;omega))
     have hlt1:=(T1.out.keep B5.out).lt
     have hlt3:=(T3.out.keep B5.out).lt
     have hltT:=TT.out.lt
     have NM:=Zaa (LM.out.ltOf)
     have NL:=Zaa (LB.out.ltOf)
     have QM:=Zaa ((LM.out.keep B5.out).beside (T1.out.keep B5.out) ZbF (Zan.set _ _ 2 (.slice (some ⟨gg,0,none⟩) ni cap)))
     have QB:=Zaa ((LB.out.keep B5.out).beside (T1.out.keep B5.out) ZbF (Zan.set _ _ 2 (.slice (some ⟨gg,0,none⟩) ni cap)))
     have hg1:=T1.out.lt
     have QO:=Zaa (show ZcQ (w5.setCell ⟨w.heap.size+1,2,none⟩ (.slice (some ⟨gg,0,none⟩) ni cap)) wx.heap.size (.slice (some ⟨gg,0,none⟩) ni cap) ni k.items from by
      obtain⟨cells,o1,o2,o3⟩:=O5.out
      exact⟨cells,ownsRow_setCell_other o1 (by simp only[Value.ownBlock,ne_eq,Option.some.injEq];omega) _,⟨o2.1,o2.2⟩,o3⟩)
     have BY:=Zaa ((BX.out.trans (B5.out.mono BX.out.size)).setCell (p:=⟨w.heap.size+1,2,none⟩) (by show w.heap.size≤w.heap.size+1;omega) (.slice (some ⟨gg,0,none⟩) ni cap))
     have SZ:=Zaa (show wx.heap.size≤(w5.setCell ⟨w.heap.size+1,2,none⟩ (.slice (some ⟨gg,0,none⟩) ni cap)).heap.size by have:=B5.out.size;simpa [World.setCell] using this)
     clear c0 c1 c2 k2 O5 B5 T1 T2 T3 TT LM LB BX hlt1 hlt3
     generalize w5.setCell ⟨w.heap.size+1,2,none⟩ (.slice (some ⟨gg,0,none⟩) ni cap)=w6 at *
     simp only[List.setIfInBounds_toArray,List.set_cons_succ,List.set_cons_zero]at Q1
     obtain⟨c0,c1,c2⟩:=Q1.out.three
     obtain⟨y0,y1,y2,y3,y4⟩:=Q2.out.five
     obtain⟨x0,x1,x2⟩:=QT.out.three
     obtain⟨v0,h0⟩:=QO.out.someAt (j:=j*3) (by omega)
     obtain⟨v1,h1⟩:=QO.out.someAt (j:=j*3+1) (by omega)
     obtain⟨v2,h2⟩:=QO.out.someAt (j:=j*3+2) (by omega)
     have m0:=QO.out.frozenAt (j*3)
     have m1:=QO.out.frozenAt (j*3+1)
     have m2:=QO.out.frozenAt (j*3+2)
     go_upto_region 17 with fail
     clear c0 c1 c2 y0 y1 y2 y3 y4 x0 x1 x2 h0 h1 h2 m0 m1 m2
     have hgs:=hg1
     have PO:=Zaa (ZcQ.put (a:=⟨uu,(tj:Int),false⟩) QO.out hjn)
     have P1:=Zaa (ZbD (g:=gg) (i:=j) (a:=⟨uu,(tj:Int),false⟩) Q1.out (by omega))
     have P2:=Zaa (ZbD (g:=gg) (i:=j) (a:=⟨uu,(tj:Int),false⟩) Q2.out (by have:=SB.out;omega))
     have P3:=Zaa (ZbD (g:=gg) (i:=j) (a:=⟨uu,(tj:Int),false⟩) Q3.out (by have:=SB.out;omega))
     have PB:=Zaa (Zd2 (i:=j) (a:=⟨uu,(tj:Int),false⟩) BY.out (show w.heap.size≤gg by omega))
     have PM:=Zaa (show Zam (ZbH w6 gg j ⟨uu,(tj:Int),false⟩) A3 n3 k3 p.1.mark from Zgl QM.out (fun b' off' e' h0'=>by have:=NM.out b' off' e' h0';omega))
     have PX:=Zaa (show Zam (ZbH w6 gg j ⟨uu,(tj:Int),false⟩) A4 n4 k4 p.1.busy from Zgl QB.out (fun b' off' e' h0'=>by have:=NL.out b' off' e' h0';omega))
     clear Q1 Q2 Q3 QT QM QB QO BY SZ
     have hpw:((w6.setCell ⟨gg,j*3,none⟩ (.int .i64 uu)).setCell ⟨gg,j*3+1,none⟩ (.int .i64 (tj:Int))).setCell ⟨gg,j*3+2,none⟩ (.bool false)=ZbH w6 gg j ⟨uu,(tj:Int),false⟩:=rfl
     rw[hpw]
     clear hpw
     generalize ZbH w6 gg j ⟨uu,(tj:Int),false⟩=w7 at *
     have hcj:Hid (w7.drew.cell? ⟨w.heap.size+1,0,none⟩=some (.slice A3 n3 k3)∧w7.drew.cell? ⟨w.heap.size+1,1,none⟩=some (.slice A4 n4 k4)∧w7.drew.cell? ⟨w.heap.size+1,2,none⟩=some (.slice (some ⟨gg,0,none⟩) ni cap)∧w7.drew.cell? ⟨w.heap.size+1+1,3,none⟩=some (.int .i64 (j:Int))):=by
      obtain⟨c0,c1,c2⟩:=P1.out.three
      obtain⟨_,_,_,y3,_⟩:=P2.out.five
      exact⟨c0,c1,c2,y3⟩
     refine Zae 4 (.takes [0,1,2] (.one 3 (.fin 4 (.fin 5 .done)))) (fun w'=>w'.cell? ⟨w.heap.size+1,0,none⟩=some (.slice A3 n3 k3)∧w'.cell? ⟨w.heap.size+1,1,none⟩=some (.slice A4 n4 k4)∧w'.cell? ⟨w.heap.size+1,2,none⟩=some (.slice (some ⟨gg,0,none⟩) ni cap)∧w'.cell? ⟨w.heap.size+1+1,3,none⟩=some (.int .i64 (j:Int))) (by kernel_rfl) (by kernel_rfl) (by kernel_rfl) (fun _ _ _ _ _ h=>h) hcj.out (fun hHeld=>?_)
     simp only[Scr.takes]
     have DR:=Zaa ((Below.refl w7.heap.size w7).drew)
     have R3:=Zaa (P3.out.keep DR.out)
     obtain⟨A9,c9,hv9,s9⟩:=PO.out.sl (by omega)
     injection hv9 with e9 _ e9c
     subst e9 e9c
     have DW:=Zaa (show Zcm w7.drew A3 n3 k3 A4 n4 k4 (some ⟨gg,0,none⟩) ni cap ⟨p.1,k.items.set j ⟨uu,(tj:Int),false⟩⟩from⟨PM.out.keep DR.out,PX.out.keep DR.out,Sl.keep Zcl.kept s9 DR.out⟩)
     have BE:=Zaa (PB.out.trans (DR.out.mono PB.out.size))
     clear PO P1 P2 P3 PB PM PX DR s9 hcj
     generalize w7.drew=w8 at *
     iterate 3
      refine Zac (v:=?_) rfl (by rfl) hHeld (fun w' hSw=>?_) ?_
      rotate_left
      ·(go_simp;try with_reducible rfl)
      simp only[Act.put,Zag,Zah,Zai]
     obtain⟨z0,z1,z2⟩:=R3.out.three
     have f0:=R3.out.frozen 0
     have f1:=R3.out.frozen 1
     have f2:=R3.out.frozen 2
     obtain⟨s0,s1,s2,s3⟩:=hHeld
     refine ZaC rfl (fun K hK=>?_)
     go_simp
     refine hK.out _ _ (by refine⟨?_, ?_, ?_, ?_⟩ <;>(rw[World.cell?_setCell_other _ _ _ _ (by simp),World.cell?_setCell_other _ _ _ _ (by simp),World.cell?_setCell_other _ _ _ _ (by simp)];assumption)) (fun _=>?_)
     clear hK z0 z1 z2 f0 f1 f2 s0 s1 s2 s3
     try simp only[Act.put,Zag,Zah,Zai]
     refine Zaz rfl (fun K hK=>?_)
     go_simp
     refine hK.out _ _ ?_
     clear hK
     refine Zaz rfl (fun K hK=>?_)
     go_simp
     refine hK.out _ _ ?_
     clear hK
     simp only[Zbm]
     go_wp2
     obtain⟨r0,r1,r2⟩:=(R3.out.set3 (.slice A3 n3 k3) (.slice A4 n4 k4) (.slice (some ⟨gg,0,none⟩) ni cap)).three
     exact bodyPost_ret (v:=.tuple #[.agg #[.slice A3 n3 k3,.slice A4 n4 k4,.slice (some ⟨gg,0,none⟩) ni cap],.int .i64 (j:Int),.int .i64 0]) (by simp[results,Tryz.results58,go_sem,r0,r1,r2]) rfl (by rw[FN.out];exact⟨A3,n3,k3,A4,n4,k4,some ⟨gg,0,none⟩,ni,cap,rfl,DW.out.beside R3.out ZbF (Zan.set3 _ _ _ _ _),Zaj BE.out (by omega) _ _ _,.inr FRA.out,.inr FRB.out,.inr (Zbn.at hgw)⟩)
    ·have FN:=Zaa (Zh2 (roles:=roles) HIE.out (by rw[HKK.out];decide) KD.out HP.out he)
     have hee:(p.2 != 0)=true:=by simpa using he
     clear he
     go_wp2
     obtain⟨r0,r1,r2⟩:=(W3.out.set3 (.slice B m d) (.slice D l e) (.slice I ni ci)).three
     have BZ:=Zaj BC.out (show w.heap.size≤w.heap.size+1+1+1 by omega) (.slice B m d) (.slice D l e) (.slice I ni ci)
     exact bodyPost_ret (v:=.tuple #[.agg #[.slice B m d,.slice D l e,.slice I ni ci],.int .i64 0,.int .i64 p.2]) (by simp[results,Tryz.results58,go_sem,r0,r1,r2]) rfl (by rw[FN.out];exact⟨B,m,d,D,l,e,I,ni,ci,rfl,XO.out.keep BZ,BZ,.inl ⟨rfl,rfl⟩,.inl ⟨rfl,rfl⟩,.inl ⟨rfl,rfl⟩⟩)
   ·have KD:=Zaa (show ZfR o=3 by unfold ZfR;rw[if_neg (by rw[HKK.out];exact h3)])
    have hq3:(kk==3)=false:=by simpa using h3
    have hq4:(kk==4)=false:=by simpa using h4
    have HQ4:=Zaa h4
    clear h3 h4
    have CD:=Zaa (Zg6 (P:=P) 3 (tj:Int) (HO.out.keep BB.out) (XO.out.mark.keep BB.out) (XO.out.busy.keep BB.out) hl)
    obtain⟨p,hp⟩:∃p,doL ⟨P,ts⟩ k.case_ 3 (tj:Int)=p:=⟨_,rfl⟩
    rw[hp]at CD
    have HP:=Zaa (show doL ⟨P,ts⟩ k.case_ 3 (Zbd k o).tran=p by rw[IV.out];exact hp)
    clear hp
    go_upto_region 12 with(go_at_call 39;(with_reducible refine CD.out.mono ?_);rintro e3 w3 ⟨A3,n3,k3,A4,n4,k4,rfl,i3,i4,hb3,fr3,fr4⟩;have I3:=Zaa i3;have I4:=Zaa i4;have B3:=Zaa hb3;have FR3:=Zaa fr3;have FR4:=Zaa fr4;have FRA:=Zaa (fr3.mono BB.out.size);have FRB:=Zaa (fr4.mono BB.out.size);clear i3 i4 hb3 fr3 fr4)
    have XC:=Zaa (Box.new w3 #[.slice A3 n3 k3,.slice A4 n4 k4] 30)
    have NB:=Zcv w3 (.cells #[.slice A3 n3 k3,.slice A4 n4 k4] 30)
    have bb:=B3.out.trans (NB.mono B3.out.size)
    have hbx:=XT.out.lt
    have hd1:=Y1.out.lt
    have W1:=Zaa (Y1.out.keep bb)
    have W2:=Zaa (Y2.out.keep bb)
    have W3:=Zaa (Y3.out.keep bb)
    have WT:=Zaa (XT.out.keep bb)
    have J3:=Zaa (I3.out.keep NB)
    have J4:=Zaa (I4.out.keep NB)
    have BC:=Zaa (BB.out.trans (bb.mono BB.out.size))
    clear Y0 Y1 Y2 Y3 XT I3 I4 B3 NB bb a0 a1 a2 c0 c1 c2 y0 y1 y2 y3 y4 z0 z1 z2 f0 f1 f2 x0 x1 x2 g0 g2 k0 k1 k2 BB CD
    generalize w3.alloc (.cells #[.slice A3 n3 k3,.slice A4 n4 k4] 30)=wq at *
    generalize w3.heap.size=bq at *
    obtain⟨c0,c1,c2⟩:=W1.out.three
    obtain⟨z0,z1,z2⟩:=W3.out.three
    obtain⟨q0,q1⟩:=XC.out.two
    obtain⟨x0,x1,x2⟩:=WT.out.three
    have f0:=W3.out.frozen 0
    have f1:=W3.out.frozen 1
    have f2:=W3.out.frozen 2
    have k0:=W1.out.frozen 0
    have k1:=W1.out.frozen 1
    have g2:=WT.out.frozen 2
    by_cases he:p.2=0
    ·have FN:=Zaa (ZgH (roles:=roles) HIE.out (by rw[HKK.out];exact HQ4.out) KD.out HP.out he)
     rw[IV.out,HIT.out,show((j:Int)).toNat=j from rfl]at FN
     have hee:(p.2 != 0)=false:=by simpa using he
     clear he
     go_upto_region 15 with fail
     clear c0 c1 c2 z0 z1 z2 q0 q1 x0 x1 x2 f0 f1 f2 k0 k1 g2 hee
     have hb2x:w.heap.size+1≠bx:=by have:=SB.out;omega
     have T1:=Zaa (((W1.out.set 0 (.slice A3 n3 k3)).set 1 (.slice A4 n4 k4)).other (a:=⟨bx,2,none⟩) (.bool false) hb2x)
     simp only[List.setIfInBounds_toArray,List.set_cons_zero,List.set_cons_succ]at T1
     have T2:=Zaa (((W2.out.other (a:=⟨w.heap.size+1,0,none⟩) (.slice A3 n3 k3) (by show w.heap.size+1+1≠w.heap.size+1;omega)).other (a:=⟨w.heap.size+1,1,none⟩) (.slice A4 n4 k4) (by show w.heap.size+1+1≠w.heap.size+1;omega)).other (a:=⟨bx,2,none⟩) (.bool false) (by show w.heap.size+1+1≠bx;have:=SB.out;omega))
     have T3:=Zaa (((W3.out.other (a:=⟨w.heap.size+1,0,none⟩) (.slice A3 n3 k3) (by show w.heap.size+1+1+1≠w.heap.size+1;omega)).other (a:=⟨w.heap.size+1,1,none⟩) (.slice A4 n4 k4) (by show w.heap.size+1+1+1≠w.heap.size+1;omega)).other (a:=⟨bx,2,none⟩) (.bool false) (by show w.heap.size+1+1+1≠bx;have:=SB.out;omega))
     have TT:=Zaa (((WT.out.other (a:=⟨w.heap.size+1,0,none⟩) (.slice A3 n3 k3) hb2x.symm).other (a:=⟨w.heap.size+1,1,none⟩) (.slice A4 n4 k4) hb2x.symm).set 2 (.bool false))
     simp only[List.setIfInBounds_toArray,List.set_cons_zero,List.set_cons_succ]at TT
     have LM:=Zaa (Zbf (Zbf (Zbf J3.out (p:=⟨w.heap.size+1,0,none⟩) (v:=.slice A3 n3 k3) (fun b' off' e' h0'=>by have hq:w2.heap.size≤b':=FR3.out _ e';show b'≠w.heap.size+1;omega)) (p:=⟨w.heap.size+1,1,none⟩) (v:=.slice A4 n4 k4) (fun b' off' e' h0'=>by have hq:w2.heap.size≤b':=FR3.out _ e';show b'≠w.heap.size+1;omega)) (p:=⟨bx,2,none⟩) (v:=.bool false) (fun b' off' e' h0'=>by have hq:w2.heap.size≤b':=FR3.out _ e';show b'≠bx;omega))
     have LB:=Zaa (Zbf (Zbf (Zbf J4.out (p:=⟨w.heap.size+1,0,none⟩) (v:=.slice A3 n3 k3) (fun b' off' e' h0'=>by have hq:w2.heap.size≤b':=FR4.out _ e';show b'≠w.heap.size+1;omega)) (p:=⟨w.heap.size+1,1,none⟩) (v:=.slice A4 n4 k4) (fun b' off' e' h0'=>by have hq:w2.heap.size≤b':=FR4.out _ e';show b'≠w.heap.size+1;omega)) (p:=⟨bx,2,none⟩) (v:=.bool false) (fun b' off' e' h0'=>by have hq:w2.heap.size≤b':=FR4.out _ e';show b'≠bx;omega))
     have BX:=Zaa (((BC.out.setCell (p:=⟨w.heap.size+1,0,none⟩) (by show w.heap.size≤w.heap.size+1;omega) (.slice A3 n3 k3)).setCell (p:=⟨w.heap.size+1,1,none⟩) (by show w.heap.size≤w.heap.size+1;omega) (.slice A4 n4 k4)).setCell (p:=⟨bx,2,none⟩) (by show w.heap.size≤bx;have:=SB.out;omega) (.bool false))
     clear W1 W2 W3 WT XC J3 J4 BC hbx hd1 FR3 FR4
     generalize ((wq.setCell ⟨w.heap.size+1,0,none⟩ (.slice A3 n3 k3)).setCell ⟨w.heap.size+1,1,none⟩ (.slice A4 n4 k4)).setCell ⟨bx,2,none⟩ (.bool false)=wx at *
     obtain⟨c0,c1,c2⟩:=T1.out.three
     have k2:=T1.out.frozen 2
     go_upto_region 16 with(go_at_call 107;(with_reducible refine(ZcI (Sl.keep Zcl.kept XO.out.items BX.out) (by omega)).mono ?_);rintro e5 w5 ⟨v5,rfl,own5,hb5⟩;obtain⟨gg,cap,rfl,hgg⟩:=Zmg own5 (by omega);have O5:=Zaa own5;have B5:=Zaa hb5;clear own5 hb5 c0 c1 c2 k2;obtain⟨c0,c1,c2⟩:=(T1.out.keep B5.out).three;have k2:=(T1.out.keep B5.out).frozen 2)
     have hgw:w.heap.size≤gg:=Nat.le_trans BX.out.size hgg
     have Q1:=Zaa ((T1.out.keep B5.out).set 2 (.slice (some ⟨gg,0,none⟩) ni cap))
     have Q2:=Zaa ((T2.out.keep B5.out).other (a:=⟨w.heap.size+1,2,none⟩) (.slice (some ⟨gg,0,none⟩) ni cap) (by show w.heap.size+1+1≠w.heap.size+1;omega))
     have Q3:=Zaa ((T3.out.keep B5.out).other (a:=⟨w.heap.size+1,2,none⟩) (.slice (some ⟨gg,0,none⟩) ni cap) (by show w.heap.size+1+1+1≠w.heap.size+1;omega))
     have QT:=Zaa ((TT.out.keep B5.out).other (a:=⟨w.heap.size+1,2,none⟩) (.slice (some ⟨gg,0,none⟩) ni cap) (by show bx≠w.heap.size+1;have:=SB.out;omega))
     have hlt1:=(T1.out.keep B5.out).lt
     have hlt3:=(T3.out.keep B5.out).lt
     have hltT:=TT.out.lt
     have NM:=Zaa (LM.out.ltOf)
     have NL:=Zaa (LB.out.ltOf)
     have QM:=Zaa ((LM.out.keep B5.out).beside (T1.out.keep B5.out) ZbF (Zan.set _ _ 2 (.slice (some ⟨gg,0,none⟩) ni cap)))
     have QB:=Zaa ((LB.out.keep B5.out).beside (T1.out.keep B5.out) ZbF (Zan.set _ _ 2 (.slice (some ⟨gg,0,none⟩) ni cap)))
     have hg1:=T1.out.lt
     have QO:=Zaa (show ZcQ (w5.setCell ⟨w.heap.size+1,2,none⟩ (.slice (some ⟨gg,0,none⟩) ni cap)) wx.heap.size (.slice (some ⟨gg,0,none⟩) ni cap) ni k.items from by
      obtain⟨cells,o1,o2,o3⟩:=O5.out
      exact⟨cells,ownsRow_setCell_other o1 (by simp only[Value.ownBlock,ne_eq,Option.some.injEq];omega) _,⟨o2.1,o2.2⟩,o3⟩)
     have BY:=Zaa ((BX.out.trans (B5.out.mono BX.out.size)).setCell (p:=⟨w.heap.size+1,2,none⟩) (by show w.heap.size≤w.heap.size+1;omega) (.slice (some ⟨gg,0,none⟩) ni cap))
     have SZ:=Zaa (show wx.heap.size≤(w5.setCell ⟨w.heap.size+1,2,none⟩ (.slice (some ⟨gg,0,none⟩) ni cap)).heap.size by have:=B5.out.size;simpa [World.setCell] using this)
     clear c0 c1 c2 k2 O5 B5 T1 T2 T3 TT LM LB BX hlt1 hlt3
     generalize w5.setCell ⟨w.heap.size+1,2,none⟩ (.slice (some ⟨gg,0,none⟩) ni cap)=w6 at *
     simp only[List.setIfInBounds_toArray,List.set_cons_succ,List.set_cons_zero]at Q1
     obtain⟨c0,c1,c2⟩:=Q1.out.three
     obtain⟨y0,y1,y2,y3,y4⟩:=Q2.out.five
     obtain⟨x0,x1,x2⟩:=QT.out.three
     obtain⟨v0,h0⟩:=QO.out.someAt (j:=j*3) (by omega)
     obtain⟨v1,h1⟩:=QO.out.someAt (j:=j*3+1) (by omega)
     obtain⟨v2,h2⟩:=QO.out.someAt (j:=j*3+2) (by omega)
     have m0:=QO.out.frozenAt (j*3)
     have m1:=QO.out.frozenAt (j*3+1)
     have m2:=QO.out.frozenAt (j*3+2)
     go_upto_region 17 with fail
     clear c0 c1 c2 y0 y1 y2 y3 y4 x0 x1 x2 h0 h1 h2 m0 m1 m2
     have hgs:=hg1
     have PO:=Zaa (ZcQ.put (a:=⟨uu,(tj:Int),false⟩) QO.out hjn)
     have P1:=Zaa (ZbD (g:=gg) (i:=j) (a:=⟨uu,(tj:Int),false⟩) Q1.out (by omega))
     have P2:=Zaa (ZbD (g:=gg) (i:=j) (a:=⟨uu,(tj:Int),false⟩) Q2.out (by have:=SB.out;omega))
     have P3:=Zaa (ZbD (g:=gg) (i:=j) (a:=⟨uu,(tj:Int),false⟩) Q3.out (by have:=SB.out;omega))
     have PB:=Zaa (Zd2 (i:=j) (a:=⟨uu,(tj:Int),false⟩) BY.out (show w.heap.size≤gg by omega))
     have PM:=Zaa (show Zam (ZbH w6 gg j ⟨uu,(tj:Int),false⟩) A3 n3 k3 p.1.mark from Zgl QM.out (fun b' off' e' h0'=>by have:=NM.out b' off' e' h0';omega))
     have PX:=Zaa (show Zam (ZbH w6 gg j ⟨uu,(tj:Int),false⟩) A4 n4 k4 p.1.busy from Zgl QB.out (fun b' off' e' h0'=>by have:=NL.out b' off' e' h0';omega))
     clear Q1 Q2 Q3 QT QM QB QO BY SZ
     have hpw:((w6.setCell ⟨gg,j*3,none⟩ (.int .i64 uu)).setCell ⟨gg,j*3+1,none⟩ (.int .i64 (tj:Int))).setCell ⟨gg,j*3+2,none⟩ (.bool false)=ZbH w6 gg j ⟨uu,(tj:Int),false⟩:=rfl
     rw[hpw]
     clear hpw
     generalize ZbH w6 gg j ⟨uu,(tj:Int),false⟩=w7 at *
     have hcj:Hid (w7.drew.cell? ⟨w.heap.size+1,0,none⟩=some (.slice A3 n3 k3)∧w7.drew.cell? ⟨w.heap.size+1,1,none⟩=some (.slice A4 n4 k4)∧w7.drew.cell? ⟨w.heap.size+1,2,none⟩=some (.slice (some ⟨gg,0,none⟩) ni cap)∧w7.drew.cell? ⟨w.heap.size+1+1,3,none⟩=some (.int .i64 (j:Int))):=by
      obtain⟨c0,c1,c2⟩:=P1.out.three
      obtain⟨_,_,_,y3,_⟩:=P2.out.five
      exact⟨c0,c1,c2,y3⟩
     refine Zae 4 (.takes [0,1,2] (.one 3 (.fin 4 (.fin 5 .done)))) (fun w'=>w'.cell? ⟨w.heap.size+1,0,none⟩=some (.slice A3 n3 k3)∧w'.cell? ⟨w.heap.size+1,1,none⟩=some (.slice A4 n4 k4)∧w'.cell? ⟨w.heap.size+1,2,none⟩=some (.slice (some ⟨gg,0,none⟩) ni cap)∧w'.cell? ⟨w.heap.size+1+1,3,none⟩=some (.int .i64 (j:Int))) (by kernel_rfl) (by kernel_rfl) (by kernel_rfl) (fun _ _ _ _ _ h=>h) hcj.out (fun hHeld=>?_)
     simp only[Scr.takes]
     have DR:=Zaa ((Below.refl w7.heap.size w7).drew)
     have R3:=Zaa (P3.out.keep DR.out)
     obtain⟨A9,c9,hv9,s9⟩:=PO.out.sl (by omega)
     injection hv9 with e9 _ e9c
     subst e9 e9c
     have DW:=Zaa (show Zcm w7.drew A3 n3 k3 A4 n4 k4 (some ⟨gg,0,none⟩) ni cap ⟨p.1,k.items.set j ⟨uu,(tj:Int),false⟩⟩from⟨PM.out.keep DR.out,PX.out.keep DR.out,Sl.keep Zcl.kept s9 DR.out⟩)
     have BE:=Zaa (PB.out.trans (DR.out.mono PB.out.size))
     clear PO P1 P2 P3 PB PM PX DR s9 hcj
     generalize w7.drew=w8 at *
     iterate 3
      refine Zac (v:=?_) rfl (by rfl) hHeld (fun w' hSw=>?_) ?_
      rotate_left
      ·(go_simp;try with_reducible rfl)
      simp only[Act.put,Zag,Zah,Zai]
     obtain⟨z0,z1,z2⟩:=R3.out.three
     have f0:=R3.out.frozen 0
     have f1:=R3.out.frozen 1
     have f2:=R3.out.frozen 2
     obtain⟨s0,s1,s2,s3⟩:=hHeld
     refine ZaC rfl (fun K hK=>?_)
     go_simp
     refine hK.out _ _ (by refine⟨?_, ?_, ?_, ?_⟩ <;>(rw[World.cell?_setCell_other _ _ _ _ (by simp),World.cell?_setCell_other _ _ _ _ (by simp),World.cell?_setCell_other _ _ _ _ (by simp)];assumption)) (fun _=>?_)
     clear hK z0 z1 z2 f0 f1 f2 s0 s1 s2 s3
     try simp only[Act.put,Zag,Zah,Zai]
     refine Zaz rfl (fun K hK=>?_)
     go_simp
     refine hK.out _ _ ?_
     clear hK
     refine Zaz rfl (fun K hK=>?_)
     go_simp
     refine hK.out _ _ ?_
     clear hK
     simp only[Zbm]
     go_wp2
     obtain⟨r0,r1,r2⟩:=(R3.out.set3 (.slice A3 n3 k3) (.slice A4 n4 k4) (.slice (some ⟨gg,0,none⟩) ni cap)).three
     exact bodyPost_ret (v:=.tuple #[.agg #[.slice A3 n3 k3,.slice A4 n4 k4,.slice (some ⟨gg,0,none⟩) ni cap],.int .i64 (j:Int),.int .i64 0]) (by simp[results,Tryz.results58,go_sem,r0,r1,r2]) rfl (by rw[FN.out];exact⟨A3,n3,k3,A4,n4,k4,some ⟨gg,0,none⟩,ni,cap,rfl,DW.out.beside R3.out ZbF (Zan.set3 _ _ _ _ _),Zaj BE.out (by omega) _ _ _,.inr FRA.out,.inr FRB.out,.inr (Zbn.at hgw)⟩)
    ·have FN:=Zaa (Zh2 (roles:=roles) HIE.out (by rw[HKK.out];exact HQ4.out) KD.out HP.out he)
     have hee:(p.2 != 0)=true:=by simpa using he
     clear he
     go_wp2
     obtain⟨r0,r1,r2⟩:=(W3.out.set3 (.slice B m d) (.slice D l e) (.slice I ni ci)).three
     have BZ:=Zaj BC.out (show w.heap.size≤w.heap.size+1+1+1 by omega) (.slice B m d) (.slice D l e) (.slice I ni ci)
     exact bodyPost_ret (v:=.tuple #[.agg #[.slice B m d,.slice D l e,.slice I ni ci],.int .i64 0,.int .i64 p.2]) (by simp[results,Tryz.results58,go_sem,r0,r1,r2]) rfl (by rw[FN.out];exact⟨B,m,d,D,l,e,I,ni,ci,rfl,XO.out.keep BZ,BZ,.inl ⟨rfl,rfl⟩,.inl ⟨rfl,rfl⟩,.inl ⟨rfl,rfl⟩⟩)
 ·have FN:=Zaa (Zoi (N:=⟨P,ts⟩) (roles:=roles) HIE.out hz)
  have hzz:(ie != 0)=true:=by simpa using hz
  clear hz
  go_wp2
  obtain⟨r0,r1,r2⟩:=(Y3.out.set3 (.slice B m d) (.slice D l e) (.slice I ni ci)).three
  have BZ:=Zaj BB.out (show w.heap.size≤w.heap.size+1+1+1 by omega) (.slice B m d) (.slice D l e) (.slice I ni ci)
  exact bodyPost_ret (v:=.tuple #[.agg #[.slice B m d,.slice D l e,.slice I ni ci],.int .i64 0,.int .i64 ie]) (by simp[results,Tryz.results58,go_sem,r0,r1,r2]) rfl (by rw[FN.out];exact⟨B,m,d,D,l,e,I,ni,ci,rfl,XO.out.keep BZ,BZ,.inl ⟨rfl,rfl⟩,.inl ⟨rfl,rfl⟩,.inl ⟨rfl,rfl⟩⟩)
end Go.Proofs.YtfmnagcglhlicaaGreat
