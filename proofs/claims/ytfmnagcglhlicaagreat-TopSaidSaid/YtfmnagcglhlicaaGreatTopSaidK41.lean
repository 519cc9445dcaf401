/- Texts melted into one: The speaker as it lies in memory, and the contract of spread. Conditions: the speaker's arcs are between marks. | The contracts of first, hear, ends and hope. Conditions: the speaker's arcs are between marks. | The contract of far. Conditions: the speaker's arcs are between ma -/
import Derived.Test.YtfmnagcglhlicaaGreatTopSaidK38
import Derived.Test.YtfmnagcglhlicaaGreatTopSaidK40
set_option maxRecDepth 100000
namespace Go.Proofs.YtfmnagcglhlicaaGreat
open Go.RowKit
theorem Box.four {w:World}{b ty:Nat}{u0 u1 u2 u3:Value}(h:Box w b ty #[u0,u1,u2,u3]):w.cell? ⟨b,0,none⟩=some u0∧w.cell? ⟨b,1,none⟩=some u1∧w.cell? ⟨b,2,none⟩=some u2∧w.cell? ⟨b,3,none⟩=some u3:=⟨h.cell 0,h.cell 1,h.cell 2,h.cell 3⟩
open Classical in
noncomputable def Zup (w:World)(g n:Nat):Nat:=if h:∃bs,Zq7 w g n bs then ZtZ (Classical.choose h)else 0
section
variable {w:World} {bp:Nat} {A D Al Ae:Option Addr} {n c m d nl cl ce:Nat} {ars:List ZaD} {ls:List Int} {es:List Bool}
end
abbrev Zug (w:World)(g n:Nat)(xs:List Int):Prop:=xs.length=n∧∀(k:Nat) (x:Int),xs[k]?=some x→w.cell? ⟨g,k,none⟩=some (.int .i64 x)
open Classical in
noncomputable def Zuq (w:World)(g n:Nat):Nat:=if h:∃xs,Zug w g n xs then muS n (Classical.choose h)else 0
theorem ZpN {w:World}{A:Option Addr}{n c:Nat}{ts:List Zak}(h:ZaP w A n c ts):ZaP w.drew A n c ts:=h.keep ⟨rfl,rfl,rfl,Nat.le_refl _,fun _ _=>rfl⟩
noncomputable def Zeb (N:Zau)(i o:Int):PSp×Int:=if Zbt N i o=0 then Za2 N (ZcR (min N.places 16).toNat i) 300 else(PSp.nil,Zbt N i o)
theorem Zl5 {N:Zau}{i o:Int}(h:Zbt N i o≠0):Zeb N i o=(PSp.nil,Zbt N i o):=by rw[Zeb,if_neg h]
theorem Zl6 {N:Zau}{i o:Int}(h:Zbt N i o=0):Zeb N i o=Za2 N (ZcR (min N.places 16).toNat i) 300:=by rw[Zeb,if_pos h]
def ZpO (N:Zau)(o:Int):List Int:=ZcR (min N.places 16).toNat o
def Zd8 (N:Zau):List Int:=N.trans.map fun t=>t.label
section
variable {N NE:Nat} {w0 w w':World} {A:Option Addr} {n c:Nat} {D:Option Addr} {m d:Nat} {vl:Value} {ll:List Int} {ve:Value} {el:List Bool}
end
end Go.Proofs.YtfmnagcglhlicaaGreat
namespace Go.Proofs.YtfmnagcglhlicaaGreat
open Go.RowKit Go.Maps
def EdA (ars:List ZaD)(lb:Int→Int)(tr:List Int)(u:Sp)(q:Nat)(v:Sp)(d:Int):Prop :=
 (u.1<(tr.length:Int)∧v=(u.1+1,u.2)∧d=1)∨∃a∈ars.take q,a.from_=u.2∧((v=(u.1,a.to_)∧d=min (lb a.tran) 1)∨((u.1<(tr.length:Int)∧0<lb a.tran∧tr[u.1.toNat]?=some (lb a.tran))∧v=(u.1+1,a.to_)∧d=0))
section
variable {ars:List ZaD} {lb:Int→Int} {tr:List Int} {u v:Sp} {q:Nat} {a:ZaD} {d:Int}
theorem Zrf (h:Ed ars lb tr u v d):EdA ars lb tr u ars.length v d:=by
 rcases h with h|⟨a,ha,h1,h2,h3⟩|⟨a,ha,h1,h2,h3,h4,h5,h6⟩
 ·exact .inl h
 ·exact .inr ⟨a,by rw[List.take_length];exact ha,h1,.inl ⟨h2,h3⟩⟩
 ·exact .inr ⟨a,by rw[List.take_length];exact ha,h1,.inr ⟨⟨h2,h3,h4⟩,h5,h6⟩⟩
theorem ZmV (h:EdA ars lb tr u 0 v d):u.1<(tr.length:Int)∧v=(u.1+1,u.2)∧d=1:=by
 rcases h with h|⟨a,ha,_⟩
 ·exact h
 ·simp at ha
theorem Zrg (ha:ars[q]?=some a)(hne:a.from_≠u.2)(h:EdA ars lb tr u (q+1) v d):EdA ars lb tr u q v d:=by
 rcases h with h|⟨b,hb,h1,h2⟩
 ·exact .inl h
 ·rw[ZaK ha]at hb
  rcases List.mem_append.1 hb with hb|hb
  ·exact .inr ⟨b,hb,h1,h2⟩
  ·rw[List.mem_singleton.1 hb]at h1
   exact absurd h1 hne
theorem Zrh (ha:ars[q]?=some a)(h:EdA ars lb tr u (q+1) v d):EdA ars lb tr u q v d∨(v=(u.1,a.to_)∧d=min (lb a.tran) 1)∨((u.1<(tr.length:Int)∧0<lb a.tran∧tr[u.1.toNat]?=some (lb a.tran))∧v=(u.1+1,a.to_)∧d=0):=by
 rcases h with h|⟨b,hb,h1,h2⟩
 ·exact .inl (.inl h)
 ·rw[ZaK ha]at hb
  rcases List.mem_append.1 hb with hb|hb
  ·exact .inl (.inr ⟨b,hb,h1,h2⟩)
  ·rw[List.mem_singleton.1 hb]at h2
   exact .inr h2
end
theorem ZmW {L n:Nat}(hL:L≤60)(hn:n≤300){v:Sp}(h:InU L n v):okS v:=by
 obtain⟨⟨h1,h2⟩,h3,h4⟩:=h
 exact⟨⟨h1,by omega⟩,h3,by omega⟩
def Zri (E:Sp→Sp→Int→Prop)(U:Sp→Prop)(dn:List Sp)(at_:Sp)(c0 K:Int)(R:Sp→Int→Prop)(bm q:Nat)(w0 w:World):Prop :=
 ∃(f:SpM) (q':Nat),ZcD w bm f q'∧q'≤q∧DL E U f dn at_ c0 R∧w0.grownBy w (some bm)∧∀v x,f v=some x→x.cost≤K
theorem Zjy {f:SpM}{K:Int}(h:∀v x,f v=some x→x.cost≤K){v:Sp}{x:Zh6}(hx:x.cost≤K):∀u y,Zdk f v x u=some y→y.cost≤K:=fun u y hu=>by
 rcases ZkL f v x with⟨e,_⟩|⟨e,_⟩
 ·rw[e]at hu
  exact h u y hu
 ·rw[e]at hu
  unfold Zgd at hu
  split at hu
  ·injection hu with hu
   subst hu
   exact hx
  ·exact h u y hu
structure LvW (wP w wr:World)(ba bm b3 b4:Nat)(cs s3 s4:Array Value):Prop where
 x3:Box wr b3 90 s3
 x4:Box wr b4 94 s4
 xa:Box wr ba 97 cs
 hp:Below wP.heap.size wP wr
 gw:w.grownBy wr (some bm)
 ne:wP.heap.size≤bm∧bm≠ba∧bm≠b3∧bm≠b4
theorem LvW.grown {wP w wr w':World}{ba bm b3 b4:Nat}{cs s3 s4:Array Value}(h:LvW wP w wr ba bm b3 b4 cs s3 s4)(hg:wr.grownBy w' (some bm)):LvW wP w w' ba bm b3 b4 cs s3 s4:=by
 obtain⟨h1,h2,h3,h4⟩:=h.ne
 exact⟨h.x3.grown hg (by simpa using h3),h.x4.grown hg (by simpa using h4),h.xa.grown hg (by simpa using h2),h.hp.grown hg h.hp.size (fun k e=>by cases e;exact h1),h.gw.trans hg,h.ne⟩
theorem LvW.keep {wP w wr w':World}{ba bm b3 b4:Nat}{cs s3 s4:Array Value}(h:LvW wP w wr ba bm b3 b4 cs s3 s4)(hb:Below wr.heap.size wr w'):LvW wP w w' ba bm b3 b4 cs s3 s4 :=
 h.grown ⟨hb.os,hb.tape,hb.output,hb.size,fun k hk _=>hb.block k hk⟩
theorem ZcK (w:World)(q:Nat):Below w.heap.size w (w.drewN q):=⟨rfl,rfl,rfl,Nat.le_refl _,fun _ _=>rfl⟩
set_option maxHeartbeats 8000000 in
theorem Zl7 {wP w:World} {ba bm q:Nat} {P:Int} {A U V Q:Option Addr} {n0 c nm cu m cv l q0 n:Nat} {ts:List Zak} {ars:List ZaD} {tr:List Int} {f:SpM} {dn:List Sp} {k0 m0:Nat} {c0 Kc:Int}
  (X:Box w ba 97 #[.int .i64 P,.slice A n0 c,.slice U nm cu,.slice V m cv,.slice Q l q0,.map (some bm)]) (M:ZcD w bm f q) (hP:Below wP.heap.size wP w) (hbm:wP.heap.size≤bm) (hba:bm≠ba) (hT:ZaP wP A n0 c ts) (hA:Zh4 wP V m cv ars) (g:Zam wP Q l q0 tr)
  (ht:∀a∈ars,Inn n a.to_) (hr:∀a∈ars,Inn n0 a.tran) (hlb:∀a∈ars,0≤atI (Zd8 ⟨P,ts⟩) a.tran) (hn:n≤300) (hl:l≤60) (hm:m≤7200) (hat:InU tr.length n ((k0:Int),(m0:Int)))
  (D:DL (Ed ars (atI (Zd8 ⟨P,ts⟩)) tr) (InU tr.length n) f dn ((k0:Int),(m0:Int)) c0 (fun _ _=>False)) (hq:q≤900000000) (hc:0≤c0∧c0≤1000000) (hB:∀v x,f v=some x→x.cost≤Kc) (hK:c0+1≤Kc) :
  Calls Tryz.prog 29 #[.pointer (some ⟨ba,0,none⟩),.agg #[.int .i64 k0,.int .i64 m0]] w fun e w'=>(∃y,e=.returned y)∧Zri (Ed ars (atI (Zd8 ⟨P,ts⟩)) tr) (InU tr.length n) dn ((k0:Int),(m0:Int)) c0 Kc (Ed ars (atI (Zd8 ⟨P,ts⟩)) tr ((k0:Int),(m0:Int))) bm (q+14401) w w':=by
 obtain⟨xa,hxa,hda,hca⟩:=D.now
 have LM:=Zaa M.lt
 have LA:=Zaa X.lt
 have OKAT:=Zaa (ZmW (by rw[g.len];exact hl) hn hat)
 have X0:=Zaa (Box.new w #[.int .i64 k0,.int .i64 m0] 90)
 have B0:=Zaa (Zab w (.cells #[.int .i64 k0,.int .i64 m0] 90))
 obtain⟨yc,⟨ys,ym⟩,yk,yl,yt,yd⟩:=xa
 simp only at hca hda
 subst hca hda
 have HLK:=Zaa (fun(w':World) (hm:ZcD w' bm f q)=>show(Instr.lookup 95 (.map (some bm)) (.agg #[.int .i64 (k0:Int),.int .i64 (m0:Int)]) false).run Tryz.prog w'=.ok (.agg #[.int .i64 yc,.int .i64 ys,.int .i64 ym,.int .i64 yk,.int .i64 yl,.int .i64 yt,.bool true]) w' from by
  have:=hm.at OKAT.out
  rw[hxa]at this
  exact this)
 have XA:=Zaa (X.keep B0.out)
 have MA:=Zaa (M.keep B0.out)
 have HT:=Zaa hT
 have HA:=Zaa hA
 have G:=Zaa g
 have HP:=Zaa hP
 have HPS:=Zaa hP.size
 have GL:=Zaa g.len
 have AL:=Zaa hA.len
 have HD:=Zaa D
 have FT:=Zaa (show(∀a∈ars,Inn n a.to_)∧(∀a∈ars,Inn n0 a.tran)∧(∀a∈ars,0≤atI (Zd8 ⟨P,ts⟩) a.tran)from⟨ht,hr,hlb⟩)
 have HAT:=Zaa hat
 have HBD:=Zaa hB
 obtain⟨hc1,hc2⟩:=hc
 clear X M hP hT hA g ht hr hlb hat D hB hxa
 go_enter Tryz.func29,Tryz.ntmps29
 go_upto_region 1 with fail
 generalize w.alloc (.cells #[.int .i64 k0,.int .i64 m0] 90)=w0 at *
 have DR:=Zaa ((Below.refl w0.heap.size w0).drew)
 have Y0:=Zaa (X0.out.keep DR.out)
 have YA:=Zaa (XA.out.keep DR.out)
 have YM:=Zaa (MA.out.keep DR.out)
 have a5:=YA.out.cell 5
 simp only[List.getElem?_toArray,List.getElem?_cons_zero,List.getElem?_cons_succ]at a5
 obtain⟨z0,z1⟩:=Y0.out.two
 refine Zae 7 (.takes [0,1,2,3,4,5] (.one 6 (.fin 7 .done))) (fun w'=>w'.cell? ⟨ba,5,none⟩=some (.map (some bm))∧w'.cell? ⟨w.heap.size,0,none⟩=some (.int .i64 k0)∧w'.cell? ⟨w.heap.size,1,none⟩=some (.int .i64 m0)∧ZcD w' bm f q) (by kernel_rfl) (by kernel_rfl) (by kernel_rfl) (fun _ _ _ _ _ h=>h) ⟨a5,z0,z1,YM.out⟩ (fun hHeld=>?_)
 simp only[Scr.takes]
 clear a5 z0 z1
 generalize w0.drew=w1 at *
 iterate 5
  refine Zac (v:=?_) rfl (by rfl) hHeld (fun w' hSw=>?_) ?_
  rotate_left
  ·(go_simp;try with_reducible rfl)
  try simp only[Act.put,Zag,Zah,Zai]
 refine Zac (v:=?_) rfl (by rfl) hHeld (fun w' hSw=>?_) ?_
 rotate_left
 ·have hlk:=HLK.out w' hSw.2.2.2
  go_simp
  try with_reducible rfl
 try simp only[Act.put,Zag,Zah,Zai]
 have bz:=Zaa (Zab w1 (.cells #[.int .i64 0,.int .i64 0,.int .i64 0,.int .i64 0,.int .i64 0,.int .i64 0,.bool false] 94))
 have a5:=(YA.out.keep bz.out).cell 5
 simp only[List.getElem?_toArray,List.getElem?_cons_zero,List.getElem?_cons_succ]at a5
 refine ZaC rfl (fun Kf hKf=>?_)
 go_simp
 refine hKf.out _ _ ⟨a5,(Y0.out.keep bz.out).two.1,(Y0.out.keep bz.out).two.2,YM.out.keep bz.out⟩ (fun hHeld=>?_)
 clear hKf a5 bz
 try simp only[Act.put,Zag,Zah,Zai]
 have bb:=Zab w1 (.cells #[.int .i64 yc,.int .i64 ys,.int .i64 ym,.int .i64 yk,.int .i64 yl,.int .i64 yt,.bool true] 94)
 have X4:=Zaa (Box.new w1 #[.int .i64 yc,.int .i64 ys,.int .i64 ym,.int .i64 yk,.int .i64 yl,.int .i64 yt,.bool true] 94)
 have X3:=Zaa (Y0.out.keep bb)
 have B4:=Zaa (show w.heap.size≤w1.heap.size from Nat.le_of_lt (Y0.out.lt))
 have XA2:=Zaa (YA.out.keep bb)
 have M2:=Zaa (YM.out.keep bb)
 have BB:=Zaa (DR.out.trans (bb.mono DR.out.size))
 have BW:=Zaa (B0.out.trans (BB.out.mono B0.out.size))
 have HP2:=Zaa (HP.out.trans (BW.out.mono HPS.out))
 have GW:=Zaa (show w.grownBy (w1.alloc (.cells #[.int .i64 yc,.int .i64 ys,.int .i64 ym,.int .i64 yk,.int .i64 yl,.int .i64 yt,.bool true] 94)) (some bm)from⟨BW.out.os,BW.out.tape,BW.out.output,BW.out.size,fun k hk _=>BW.out.block k hk⟩)
 refine Zaz rfl (fun Kf hKf=>?_)
 go_simp
 refine hKf.out _ _ ?_
 clear hKf
 refine ZaH ?_
 clear hHeld bb YA YM Y0 BB BW MA XA X0 DR HLK B0 HP
 generalize w1.alloc (.cells #[.int .i64 yc,.int .i64 ys,.int .i64 ym,.int .i64 yk,.int .i64 yl,.int .i64 yt,.bool true] 94)=w2 at *
 generalize w1.heap.size=b4 at *
 have hbx:bm≠w.heap.size:=by have:=LM.out;omega
 obtain⟨z0,z1⟩:=X3.out.two
 have a4:=XA2.out.cell 4
 simp only[List.getElem?_toArray,List.getElem?_cons_zero,List.getElem?_cons_succ]at a4
 have HBB:=Zaa (show bm<b4 from Nat.lt_of_lt_of_le LM.out (by have:=B4.out;omega))
 go_upto_region 2 with fail
 go_quiet (fail)
 have LW:=Zaa (show LvW wP w w2 ba bm w.heap.size b4 #[.int .i64 P,.slice A n0 c,.slice U nm cu,.slice V m cv,.slice Q l q0,.map (some bm)] #[.int .i64 k0,.int .i64 m0] #[.int .i64 yc,.int .i64 ys,.int .i64 ym,.int .i64 yk,.int .i64 yl,.int .i64 yt,.bool true]from⟨X3.out,X4.out,XA2.out,HP2.out,GW.out,hbm,hba,hbx,Nat.ne_of_lt HBB.out⟩)
 have LW3:=Zaa (LW.out.keep (ZcK w2 nq))
 have M3:=Zaa (M2.out.keep (ZcK w2 nq))
 clear z0 z1 a4 X3 X4 XA2 HP2 GW LW M2
 generalize w2.drewN nq=w3 at *
 go_upto_if 23 with fail
 go_cut [] (fun wy=>∃(f':SpM) (q':Nat),Hid (LvW wP w wy ba bm w.heap.size b4 #[.int .i64 P,.slice A n0 c,.slice U nm cu,.slice V m cv,.slice Q l q0,.map (some bm)] #[.int .i64 k0,.int .i64 m0] #[.int .i64 yc,.int .i64 ys,.int .i64 ym,.int .i64 yk,.int .i64 yl,.int .i64 yt,.bool true])∧Hid (ZcD wy bm f' q')∧q'≤q+1∧Hid (DL (Ed ars (atI (Zd8 ⟨P,ts⟩)) tr) (InU tr.length n) f' dn ((k0:Int),(m0:Int)) yc (EdA ars (atI (Zd8 ⟨P,ts⟩)) tr ((k0:Int),(m0:Int)) 0))∧Hid (∀v x,f' v=some x→x.cost≤Kc))
 case first =>
  by_cases hkl:k0<l
  ·have hkli:(k0:Int)<(l:Int):=by omega
   obtain⟨bq,offq,y,rfl,hbq,hy,qy⟩:=(G.out.keep LW3.out.hp).get hkl
   have a4:=LW3.out.xa.cell 4
   obtain⟨z0,z1⟩:=LW3.out.x3.two
   simp only[List.getElem?_toArray,List.getElem?_cons_zero,List.getElem?_cons_succ]at a4
   go_upto_region 3 with fail
   go_quiet (fail)
   have LW4:=Zaa (LW3.out.keep (ZcK w3 nq))
   have M4:=Zaa (M3.out.keep (ZcK w3 nq))
   have hwk:IntKind.i64.wrap ((k0:Int)+1)=(k0:Int)+1:=by simp[IntKind.wrap,IntKind.bits,IntKind.signed];omega
   have hwc:IntKind.i64.wrap (yc+1)=yc+1:=by simp[IntKind.wrap,IntKind.bits,IntKind.signed];omega
   have EDG:=Zaa (show Ed ars (atI (Zd8 ⟨P,ts⟩)) tr ((k0:Int),(m0:Int)) ((k0:Int)+1,(m0:Int)) 1 from .inl ⟨by rw[GL.out];exact hkli,rfl,rfl⟩)
   have OKV:=Zaa (ZmW (by rw[GL.out];exact hl) hn (EDG.out.inU FT.out.1 HAT.out))
   clear z0 z1 a4 LW3 M3 qy hy
   generalize w3.drewN nq=w4 at *
   obtain⟨z0,z1⟩:=LW4.out.x3.two
   obtain⟨e0,e1,e2,e3,e4,e5,e6⟩:=LW4.out.x4.seven
   clear e1 e2 e3 e4 e5 e6
   go_wp2_with fail
   refine(Zfq LW4.out.xa rfl M4.out (v:=((k0:Int)+1,(m0:Int))) OKV.out ⟨yc+1,((k0:Int),(m0:Int)),2,y,0,false⟩ (by omega)).mono ?_
   rintro e w5 ⟨⟨yy,rfl⟩,m5,g5⟩
   have LW5:=Zaa (LW4.out.grown g5)
   have M5:=Zaa m5
   have D5:=Zaa ((HD.out.offer (fun u v c h=>(h.low FT.out.2.2).1) (fun u v c hu h=>h.inU FT.out.1 hu) EDG.out (x:=⟨yc+1,((k0:Int),(m0:Int)),2,y,0,false⟩) rfl rfl rfl).imp (R':=EdA ars (atI (Zd8 ⟨P,ts⟩)) tr ((k0:Int),(m0:Int)) 0) (fun v d h=>.inr (ZmV h).2))
   have C5:=Zaa (Zjy HBD.out (v:=((k0:Int)+1,(m0:Int))) (x:=⟨yc+1,((k0:Int),(m0:Int)),2,y,0,false⟩) hK)
   clear m5 g5 z0 z1 e0
   go_wp2
   go_meet
   exact⟨_,q+1,LW5,M5,by omega,D5,C5⟩
  ·have D0:=Zaa (HD.out.imp (R':=EdA ars (atI (Zd8 ⟨P,ts⟩)) tr ((k0:Int),(m0:Int)) 0) (fun v d h=>by have:=(ZmV h).1;simp only at this;have:=GL.out;omega))
   have hkli:¬(k0:Int)<(l:Int):=by omega
   go_wp2
   go_meet
   exact⟨f,q,LW3,M3,by omega,D0,HBD⟩
 case rest =>
  obtain⟨f1,q1,LW1,M1,hq1,D1,C1⟩:=hcut
  clear HD HBD LW3 M3
  have a3:=LW1.out.xa.cell 3
  simp only[List.getElem?_toArray,List.getElem?_cons_zero,List.getElem?_cons_succ]at a3
  go_wp2
  clear a3
  go_loopw [53] (fun v wr=>∃(qq:Nat) (f':SpM) (q':Nat),qq≤m∧v=.int .i64 qq∧Hid (LvW wP w wr ba bm w.heap.size b4 #[.int .i64 P,.slice A n0 c,.slice U nm cu,.slice V m cv,.slice Q l q0,.map (some bm)] #[.int .i64 k0,.int .i64 m0] #[.int .i64 yc,.int .i64 ys,.int .i64 ym,.int .i64 yk,.int .i64 yl,.int .i64 yt,.bool true])∧Hid (ZcD wr bm f' q')∧q'≤q+1+2*qq∧Hid (DL (Ed ars (atI (Zd8 ⟨P,ts⟩)) tr) (InU tr.length n) f' dn ((k0:Int),(m0:Int)) yc (EdA ars (atI (Zd8 ⟨P,ts⟩)) tr ((k0:Int),(m0:Int)) qq))∧Hid (∀v x,f' v=some x→x.cost≤Kc)) (fun v _=>m-(intOf v).toNat)
  case atStart=>exact⟨0,f1,q1,Nat.zero_le _,rfl,LW1,M1,by omega,D1,C1⟩
  case round =>
   clear LW1 M1 D1 C1 hq1 f1 q1
   obtain⟨qq,f1,q1,hqq,rfl,LW1,M1,hq1,D1,C1⟩:=hrel
   by_cases hlt:qq<m
   ·have hki:(qq:Int)<(m:Int):=by omega
    obtain⟨bl,off,a,rfl,hbl,ha,r0,r1,r2,_⟩:=Zh4.get (Sl.keep Zh3.kept HA.out LW1.out.hp) hlt
    have hmem:=List.mem_of_getElem? ha.out
    obtain⟨t,et,ht⟩:=ZsF (FT.out.1 a hmem)
    obtain⟨r,er,hr⟩:=ZsF (FT.out.2.1 a hmem)
    have hl0:=FT.out.2.2 a hmem
    have SKIPD:=Zaa (fun(hne:a.from_≠(m0:Int))=>D1.out.imp (fun v d=>Zrg ha.out hne))
    have STEP:=Zaa (fun v d=>Zrh (lb:=(atI (Zd8 ⟨P,ts⟩))) (tr:=tr) (u:=((k0:Int),(m0:Int))) (v:=v) (d:=d) ha.out)
    have HMEM:=Zaa hmem
    obtain⟨fr,hfr⟩:∃fr,a.from_=fr:=⟨_,rfl⟩
    have HFR:=Zaa hfr
    rw[hfr]at r0
    rw[er]at r1
    rw[et]at r2
    have bb:=Zab wr (.cells #[.int .i64 fr,.int .i64 r,.int .i64 t] 156)
    have WA:=Zaa (Box.new wr #[.int .i64 fr,.int .i64 r,.int .i64 t] 156)
    have LW2:=Zaa (LW1.out.keep bb)
    have M2:=Zaa (M1.out.keep bb)
    have HBX:=Zaa (show bm≠wr.heap.size from Nat.ne_of_lt M1.out.lt)
    have ET:=Zaa et
    have ER:=Zaa er
    clear hfr et er ha hmem LW1 M1
    go_upto_region 8 with fail
    clear bb r0 r1 r2
    generalize wr.alloc (.cells #[.int .i64 fr,.int .i64 r,.int .i64 t] 156)=u0 at *
    generalize wr.heap.size=bx at *
    obtain⟨t0,t1,t2⟩:=WA.out.three
    obtain⟨z0,z1⟩:=LW2.out.x3.two
    by_cases hfm:fr=(m0:Int)
    ·subst hfm
     go_upto_region 9 with fail
     have a1:=LW2.out.xa.cell 1
     simp only[List.getElem?_toArray,List.getElem?_cons_zero,List.getElem?_cons_succ]at a1
     obtain⟨bt,offt,t',A1',n1',c1',A2',n2',c2',rfl,hbt,ht',p0',_,_,_,_,_,_⟩:=(HT.out.keep LW2.out.hp).get hr
     have hrr:(r:Int)<(n0:Int):=by omega
     obtain⟨lab,hlab⟩:∃x,t'.label=x:=⟨_,rfl⟩
     have hLB:atI (Zd8 ⟨P,ts⟩) a.tran=lab:=by unfold atI Zd8;rw[ER.out,Int.toNat_natCast,List.getD_eq_getElem?_getD,List.getElem?_map,ht'.out,←hlab];rfl
     rw[hlab]at p0'
     rw[hLB]at hl0
     have LBE:=Zaa hLB
     clear hlab hLB ht'
     go_quiet (fail)
     have LW3:=Zaa (LW2.out.keep (ZcK u0 nq))
     have M3:=Zaa (M2.out.keep (ZcK u0 nq))
     have WA3:=Zaa (WA.out.keep (ZcK u0 nq))
     clear a1 p0' t0 t1 t2 z0 z1 LW2 M2 WA
     generalize u0.drewN nq=u1 at *
     obtain⟨W,hW⟩:∃W:Int,min lab 1=W:=⟨_,rfl⟩
     have HW:=Zaa hW
     have hW1:W≤1:=by omega
     have hW0:0≤W:=by omega
     have hwr:IntKind.i64.wrap (yc+W)=yc+W:=by simp[IntKind.wrap,IntKind.bits,IntKind.signed];omega
     have EG1:=Zaa (show Ed ars (atI (Zd8 ⟨P,ts⟩)) tr ((k0:Int),(m0:Int)) ((k0:Int),(t:Int)) W from .inr (.inl ⟨a,HMEM.out,HFR.out,by rw[ET.out],by rw[LBE.out,HW.out]⟩))
     have OK1:=Zaa (ZmW (by rw[GL.out];exact hl) hn (EG1.out.inU FT.out.1 HAT.out))
     obtain⟨t0,t1,t2⟩:=WA3.out.three
     obtain⟨z0,z1⟩:=LW3.out.x3.two
     obtain⟨e0,e1,e2,e3,e4,e5,e6⟩:=LW3.out.x4.seven
     clear e1 e2 e3 e4 e5 e6
     go_wp2_with fail
     refine(Zfq LW3.out.xa rfl M3.out (v:=((k0:Int),(t:Int))) OK1.out ⟨yc+W,((k0:Int),(m0:Int)),3,lab,r,false⟩ (by omega)).mono ?_
     rintro e u2 ⟨⟨yy,rfl⟩,m6,g6⟩
     have LW6:=Zaa (LW3.out.grown g6)
     have M6:=Zaa m6
     have WA6:=Zaa (WA3.out.grown g6 (by simpa using HBX.out))
     have D6:=Zaa (D1.out.offer (fun u v c h=>(h.low FT.out.2.2).1) (fun u v c hu h=>h.inU FT.out.1 hu) EG1.out (x:=⟨yc+W,((k0:Int),(m0:Int)),3,lab,r,false⟩) rfl rfl rfl)
     have C6:=Zaa (Zjy C1.out (v:=((k0:Int),(t:Int))) (x:=⟨yc+W,((k0:Int),(m0:Int)),3,lab,r,false⟩) (show yc+W≤Kc by omega))
     clear m6 g6 t0 t1 t2 z0 z1 e0 hwr hW LW3 M3 WA3 D1 C1
     go_upto_region 12 with fail
     have a4:=LW6.out.xa.cell 4
     simp only[List.getElem?_toArray,List.getElem?_cons_zero,List.getElem?_cons_succ]at a4
     obtain⟨t0,t1,t2⟩:=WA6.out.three
     obtain⟨z0,z1⟩:=LW6.out.x3.two
     by_cases hlab0:0<lab
     ·by_cases hkl:k0<l
      ·have hkli:(k0:Int)<(l:Int):=by omega
       obtain⟨bq,offq,y,rfl,hbq,hy,qy⟩:=(G.out.keep LW6.out.hp).get hkl
       by_cases hyl:y=lab
       ·have HY:=Zaa hy.out
        clear hy
        subst hyl
        have EG2:=Zaa (show Ed ars (atI (Zd8 ⟨P,ts⟩)) tr ((k0:Int),(m0:Int)) ((k0:Int)+1,(t:Int)) 0 from .inr (.inr ⟨a,HMEM.out,HFR.out,by rw[GL.out];exact hkli,by rw[LBE.out];exact hlab0,by rw[LBE.out];simpa using HY.out,by rw[ET.out],rfl⟩))
        have OK2:=Zaa (ZmW (by rw[GL.out];exact hl) hn (EG2.out.inU FT.out.1 HAT.out))
        have hwk:IntKind.i64.wrap ((k0:Int)+1)=(k0:Int)+1:=by simp[IntKind.wrap,IntKind.bits,IntKind.signed];omega
        go_quiet (fail)
        have LW7:=Zaa (LW6.out.keep (ZcK u2 nq))
        have M7:=Zaa (M6.out.keep (ZcK u2 nq))
        have WA7:=Zaa (WA6.out.keep (ZcK u2 nq))
        clear a4 z0 z1 t0 t1 t2 qy LW6 M6 WA6
        generalize u2.drewN nq=u3 at *
        obtain⟨t0,t1,t2⟩:=WA7.out.three
        obtain⟨z0,z1⟩:=LW7.out.x3.two
        obtain⟨e0,e1,e2,e3,e4,e5,e6⟩:=LW7.out.x4.seven
        clear e1 e2 e3 e4 e5 e6
        go_wp2_with fail
        refine(Zfq LW7.out.xa rfl M7.out (v:=((k0:Int)+1,(t:Int))) OK2.out ⟨yc,((k0:Int),(m0:Int)),1,y,r,false⟩ (by omega)).mono ?_
        rintro e u4 ⟨⟨yy',rfl⟩,m8,g8⟩
        have LW8:=Zaa (LW7.out.grown g8)
        have M8:=Zaa m8
        have D8:=Zaa ((D6.out.offer (fun u v c h=>(h.low FT.out.2.2).1) (fun u v c hu h=>h.inU FT.out.1 hu) EG2.out (x:=⟨yc,((k0:Int),(m0:Int)),1,y,r,false⟩) (show yc=yc+0 by omega) rfl rfl).imp (R':=EdA ars (atI (Zd8 ⟨P,ts⟩)) tr ((k0:Int),(m0:Int)) (qq+1)) (fun v d h=>by
         rcases STEP.out v d h with h|⟨h1,h2⟩|⟨_,h1,h2⟩
         ·exact .inl (.inl h)
         ·exact .inl (.inr ⟨by rw[h1,ET.out],by rw[h2,LBE.out,HW.out]⟩)
         ·exact .inr ⟨by rw[h1,ET.out],h2⟩))
        have C8:=Zaa (Zjy C6.out (v:=((k0:Int)+1,(t:Int))) (x:=⟨yc,((k0:Int),(m0:Int)),1,y,r,false⟩) (show yc≤Kc by omega))
        clear m8 g8 t0 t1 t2 z0 z1 e0
        go_wp2
        go_roundw
        case rel=>exact⟨qq+1,_,q1+1+1,by omega,by go_num,LW8,M8,by omega,D8,C8⟩
        case measure=>simp[intOf];omega
       ·have hyb:(y==lab)=false:=by simpa using hyl
        have HY:=Zaa hy.out
        clear hy
        have DN:=Zaa (D6.out.imp (R':=EdA ars (atI (Zd8 ⟨P,ts⟩)) tr ((k0:Int),(m0:Int)) (qq+1)) (fun v d h=>by
         rcases STEP.out v d h with h|⟨h1,h2⟩|⟨⟨g1,g2,g3⟩,_⟩
         ·exact .inl h
         ·exact .inr ⟨by rw[h1,ET.out],by rw[h2,LBE.out,HW.out]⟩
         ·exfalso
          simp only[LBE.out,Int.toNat_natCast]at g1 g2 g3
          rw[HY.out]at g3
          injection g3 with g3
          exact hyl g3))
        go_quiet (fail)
        have LW7:=Zaa (LW6.out.keep (ZcK u2 nq))
        have M7:=Zaa (M6.out.keep (ZcK u2 nq))
        clear a4 z0 z1 t0 t1 t2 LW6 M6 WA6
        generalize u2.drewN nq=u3 at *
        go_wp2
        go_roundw
        case rel=>exact⟨qq+1,_,q1+1,by omega,by go_num,LW7,M7,by omega,DN,C6⟩
        case measure=>simp[intOf];omega
      ·have hkli:¬(k0:Int)<(l:Int):=by omega
       have DN:=Zaa (D6.out.imp (R':=EdA ars (atI (Zd8 ⟨P,ts⟩)) tr ((k0:Int),(m0:Int)) (qq+1)) (fun v d h=>by
        rcases STEP.out v d h with h|⟨h1,h2⟩|⟨⟨g1,g2,g3⟩,_⟩
        ·exact .inl h
        ·exact .inr ⟨by rw[h1,ET.out],by rw[h2,LBE.out,HW.out]⟩
        ·exfalso
         simp only[LBE.out,Int.toNat_natCast]at g1 g2 g3
         have:=GL.out
         omega))
       go_quiet (fail)
       have LW7:=Zaa (LW6.out.keep (ZcK u2 nq))
       have M7:=Zaa (M6.out.keep (ZcK u2 nq))
       clear a4 z0 z1 t0 t1 t2 LW6 M6 WA6
       generalize u2.drewN nq=u3 at *
       go_wp2
       go_roundw
       case rel=>exact⟨qq+1,_,q1+1,by omega,by go_num,LW7,M7,by omega,DN,C6⟩
       case measure=>simp[intOf];omega
     ·skip
      have DN:=Zaa (D6.out.imp (R':=EdA ars (atI (Zd8 ⟨P,ts⟩)) tr ((k0:Int),(m0:Int)) (qq+1)) (fun v d h=>by
       rcases STEP.out v d h with h|⟨h1,h2⟩|⟨⟨g1,g2,g3⟩,_⟩
       ·exact .inl h
       ·exact .inr ⟨by rw[h1,ET.out],by rw[h2,LBE.out,HW.out]⟩
       ·exfalso
        simp only[LBE.out,Int.toNat_natCast]at g1 g2 g3
        omega))
      go_quiet (fail)
      have LW7:=Zaa (LW6.out.keep (ZcK u2 nq))
      have M7:=Zaa (M6.out.keep (ZcK u2 nq))
      clear a4 z0 z1 t0 t1 t2 LW6 M6 WA6
      generalize u2.drewN nq=u3 at *
      go_wp2
      go_roundw
      case rel=>exact⟨qq+1,_,q1+1,by omega,by go_num,LW7,M7,by omega,DN,C6⟩
      case measure=>simp[intOf];omega
    ·have hfb:(fr==(m0:Int))=false:=by simpa using hfm
     have DS:=Zaa (SKIPD.out (by rw[HFR.out];exact hfm))
     go_wp2
     go_roundw
     case rel=>exact⟨qq+1,f1,q1,by omega,by go_num,LW2,M2,by omega,DS,C1⟩
     case measure=>simp[intOf];omega
   ·obtain rfl:qq=m:=by omega
    have DF:=Zaa (D1.out.imp (R':=Ed ars (atI (Zd8 ⟨P,ts⟩)) tr ((k0:Int),(m0:Int))) (fun v d h=>by have:=Zrf h;rw[AL.out]at this;exact this))
    go_wp2
    go_end0
    exact⟨⟨_,rfl⟩,f1,q1,M1.out,by omega,DF.out,LW1.out.gw,C1.out⟩
end Go.Proofs.YtfmnagcglhlicaaGreat
