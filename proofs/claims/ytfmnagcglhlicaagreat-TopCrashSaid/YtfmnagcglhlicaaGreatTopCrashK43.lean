/- Texts melted into one: The contract of leave. Conditions: the aligner lies in a box; arcs are between marks. | The contract of Reverse on an own row of moves: it ends. Conditions: the row's  -/
import Derived.Test.YtfmnagcglhlicaaGreatTopCrashK42
import Derived.Test.YtfmnagcglhlicaaGreatTopCrashK19
import Derived.ChangeKeysEq
set_option maxRecDepth 100000
set_option maxHeartbeats 8000000
namespace Go.Proofs.YtfmnagcglhlicaaGreat
open Go.RowKit Go.Maps
def EdA (ars:List bO)(lb:Int→Int)(tr:LIn)(u:Sp)(q:Nat)(v:Sp)(d:Int):Prop :=
 (u.1<(tr.length:Int)∧v=(u.1+1,u.2)∧d=1)∨∃a∈ars.take q,a.from_=u.2∧((v=(u.1,a.to_)∧d=min (lb a.tran) 1)∨((u.1<(tr.length:Int)∧0<lb a.tran∧tr[u.1.toNat]?=some (lb a.tran))∧v=(u.1+1,a.to_)∧d=0))
section
variable {ars:List bO} {lb:Int→Int} {tr:LIn} {u v:Sp} {q:Nat} {a:bO} {d:Int}
theorem Sz (h:Ed ars lb tr u v d):EdA ars lb tr u ars.length v d:=by
 rcases h with h|⟨a,ha,h1,h2,h3⟩|⟨a,ha,h1,h2,h3,h4,h5,h6⟩
 ·exact .inl h
 ·exact .inr ⟨a,by rw[List.take_length];exact ha,h1,.inl ⟨h2,h3⟩⟩
 ·exact .inr ⟨a,by rw[List.take_length];exact ha,h1,.inr ⟨⟨h2,h3,h4⟩,h5,h6⟩⟩
theorem Ja (h:EdA ars lb tr u 0 v d):u.1<(tr.length:Int)∧v=(u.1+1,u.2)∧d=1:=by
 rcases h with h|⟨a,ha,_⟩
 ·exact h
 ·simp at ha
theorem SC (ha:ars[q]?=some a)(hne:a.from_≠u.2)(h:EdA ars lb tr u (q+1) v d):EdA ars lb tr u q v d:=by
 rcases h with h|⟨b,hb,h1,h2⟩
 ·exact .inl h
 ·rw[bL ha]at hb;rcases List.mem_append.1 hb with hb|hb
  ·exact .inr ⟨b,hb,h1,h2⟩
  ·rw[List.mem_singleton.1 hb]at h1;exact absurd h1 hne
theorem SI (ha:ars[q]?=some a)(h:EdA ars lb tr u (q+1) v d):EdA ars lb tr u q v d∨(v=(u.1,a.to_)∧d=min (lb a.tran) 1)∨((u.1<(tr.length:Int)∧0<lb a.tran∧tr[u.1.toNat]?=some (lb a.tran))∧v=(u.1+1,a.to_)∧d=0):=by
 rcases h with h|⟨b,hb,h1,h2⟩
 ·exact .inl (.inl h)
 ·rw[bL ha]at hb;rcases List.mem_append.1 hb with hb|hb
  ·exact .inl (.inr ⟨b,hb,h1,h2⟩)
  ·rw[List.mem_singleton.1 hb]at h2;exact .inr h2
end
theorem Jb {L n:Nat}(hL:L≤60)(hn:n≤300){v:Sp}(h:InU L n v):okS v:=by
 obtain⟨⟨h1,h2⟩,h3,h4⟩:=h;exact⟨⟨h1,by omega⟩,h3,by omega⟩
def SJ (E:Sp→Sp→Int→Prop)(U:Sp→Prop)(dn:List Sp)(at_:Sp)(c0 K:Int)(R:Sp→Int→Prop)(bm q:Nat)(w0 w:World):Prop :=
 ∃(f:SpM) (q':Nat),iF w bm f q'∧q'≤q∧DL E U f dn at_ c0 R∧w0.grownBy w (some bm)∧∀v x,f v=some x→x.cost≤K
theorem Af {f:SpM}{K:Int}(h:∀v x,f v=some x→x.cost≤K){v:Sp}{x:wB}(hx:x.cost≤K):∀u y,j3 f v x u=some y→y.cost≤K:=fun u y hu=>by
 rcases C9 f v x with⟨e,_⟩|⟨e,_⟩
 ·rw[e]at hu;exact h u y hu
 ·rw[e]at hu;unfold rI at hu;split at hu
  ·injection hu with hu;subst hu;exact hx
  ·exact h u y hu
structure LvW (wP w wr:World)(ba bm b3 b4:Nat)(cs s3 s4:Array Value):Prop where
 x3:Box wr b3 90 s3
 x4:Box wr b4 94 s4
 xa:Box wr ba 97 cs
 hp:Below wP.heap.size wP wr
 gw:w.grownBy wr (some bm)
 ne:wP.heap.size≤bm∧bm≠ba∧bm≠b3∧bm≠b4
theorem LvW.grown {wP w wr w':World}{ba bm b3 b4:Nat}{cs s3 s4:Array Value}(h:LvW wP w wr ba bm b3 b4 cs s3 s4)(hg:wr.grownBy w' (some bm)):LvW wP w w' ba bm b3 b4 cs s3 s4:=by
 obtain⟨h1,h2,h3,h4⟩:=h.ne;exact⟨h.x3.grown hg (by simpa using h3),h.x4.grown hg (by simpa using h4),h.xa.grown hg (by simpa using h2),h.hp.grown hg h.hp.size (fun k e=>by cases e;exact h1),h.gw.trans hg,h.ne⟩
theorem LvW.keep {wP w wr w':World}{ba bm b3 b4:Nat}{cs s3 s4:Array Value}(h:LvW wP w wr ba bm b3 b4 cs s3 s4)(hb:Below wr.heap.size wr w'):LvW wP w w' ba bm b3 b4 cs s3 s4 :=
 h.grown ⟨hb.os,hb.tape,hb.output,hb.size,fun k hk _=>hb.block k hk⟩
theorem iP (w:World)(q:Nat):Below w.heap.size w (w.drewN q):=⟨rfl,rfl,rfl,Nat.le_refl _,fun _ _=>rfl⟩
theorem Hh {wP w:World} {ba bm q:Nat} {P:Int} {A U V Q:OAd} {n0 c nm cu m cv l q0 n:Nat} {ts:List aI} {ars:List bO} {tr:LIn} {f:SpM} {dn:List Sp} {k0 m0:Nat} {c0 Kc:Int}
  (X:Box w ba 97 #[.int .i64 P,.slice A n0 c,.slice U nm cu,.slice V m cv,.slice Q l q0,.map (some bm)]) (M:iF w bm f q) (hP:Below wP.heap.size wP w) (hbm:wP.heap.size≤bm) (hba:bm≠ba) (hT:bK wP A n0 c ts) (hA:tN wP V m cv ars) (g:aJ wP Q l q0 tr)
  (ht:∀a∈ars,Inn n a.to_) (hr:∀a∈ars,Inn n0 a.tran) (hlb:∀a∈ars,0≤atI (nM ⟨P,ts⟩) a.tran) (hn:n≤300) (hl:l≤60) (hm:m≤7200) (hat:InU tr.length n ((k0:Int),(m0:Int)))
  (D:DL (Ed ars (atI (nM ⟨P,ts⟩)) tr) (InU tr.length n) f dn ((k0:Int),(m0:Int)) c0 (fun _ _=>False)) (hq:q≤900000000) (hc:0≤c0∧c0≤1000000) (hB:∀v x,f v=some x→x.cost≤Kc) (hK:c0+1≤Kc) :
  Calls Tryz.prog 29 #[.pointer (some ⟨ba,0,none⟩),.agg #[.int .i64 k0,.int .i64 m0]] w fun e w'=>(∃y,e=.returned y)∧SJ (Ed ars (atI (nM ⟨P,ts⟩)) tr) (InU tr.length n) dn ((k0:Int),(m0:Int)) c0 Kc (Ed ars (atI (nM ⟨P,ts⟩)) tr ((k0:Int),(m0:Int))) bm (q+14401) w w':=by
 obtain⟨xa,hxa,hda,hca⟩:=D.now;have LM:=aA M.lt;have LA:=aA X.lt;have OKAT:=aA (Jb (by rw[g.len];exact hl) hn hat);have X0:=aA (Box.new w #[.int .i64 k0,.int .i64 m0] 90);have B0:=aA (aB w (.cells #[.int .i64 k0,.int .i64 m0] 90));obtain⟨yc,⟨ys,ym⟩,yk,yl,yt,yd⟩:=xa;simp only at hca hda;subst hca hda;have HLK:=aA (fun(w':World) (hm:iF w' bm f q)=>show(Instr.lookup 95 (.map (some bm)) (.agg #[.int .i64 (k0:Int),.int .i64 (m0:Int)]) false).run Tryz.prog w'=.ok (.agg #[.int .i64 yc,.int .i64 ys,.int .i64 ym,.int .i64 yk,.int .i64 yl,.int .i64 yt,.bool true]) w' from by
  have:=hm.at OKAT.o;rw[hxa]at this;exact this)
 have XA:=aA (X.keep B0.o);have MA:=aA (M.keep B0.o);have HT:=aA hT;have HA:=aA hA;have G:=aA g;have HP:=aA hP;have HPS:=aA hP.size;have GL:=aA g.len;have AL:=aA hA.len;have HD:=aA D;have FT:=aA (show(∀a∈ars,Inn n a.to_)∧(∀a∈ars,Inn n0 a.tran)∧(∀a∈ars,0≤atI (nM ⟨P,ts⟩) a.tran)from⟨ht,hr,hlb⟩);have HAT:=aA hat;have HBD:=aA hB;obtain⟨hc1,hc2⟩:=hc;clear X M hP hT hA g ht hr hlb hat D hB hxa;go_enter Tryz.func29,Tryz.ntmps29
 go_upto_region 1 with fail
 generalize w.alloc (.cells #[.int .i64 k0,.int .i64 m0] 90)=w0 at *
 have DR:=aA ((Below.refl w0.heap.size w0).drew);have Y0:=aA (X0.o.keep DR.o);have YA:=aA (XA.o.keep DR.o);have YM:=aA (MA.o.keep DR.o);have a5:=YA.o.cell 5;simp only[List.getElem?_toArray,List.getElem?_cons_zero,List.getElem?_cons_succ]at a5;obtain⟨z0,z1⟩:=Y0.o.two;refine aF 7 (.takes [0,1,2,3,4,5] (.one 6 (.fin 7 .done))) (fun w'=>w'.cell? ⟨ba,5,none⟩=some (.map (some bm))∧w'.cell? ⟨w.heap.size,0,none⟩=some (.int .i64 k0)∧w'.cell? ⟨w.heap.size,1,none⟩=some (.int .i64 m0)∧iF w' bm f q) (by kernel_rfl) (by kernel_rfl) (by kernel_rfl) (fun _ _ _ _ _ h=>h) ⟨a5,z0,z1,YM.o⟩ (fun hH=>?_);simp only[Scr.takes];clear a5 z0 z1;generalize w0.drew=w1 at *
 iterate 5
  refine aH (v:=?_) rfl (by rfl) hH (fun w' hSw=>?_) ?_
  rotate_left
  ·(go_simp;try with_reducible rfl)
  try simp only[Act.put,aL,aM,aN]
 refine aH (v:=?_) rfl (by rfl) hH (fun w' hSw=>?_) ?_
 rotate_left
 ·have hlk:=HLK.o w' hSw.2.2.2;go_simp
  try with_reducible rfl
 try simp only[Act.put,aL,aM,aN]
 have bz:=aA (aB w1 (.cells #[.int .i64 0,.int .i64 0,.int .i64 0,.int .i64 0,.int .i64 0,.int .i64 0,.bool false] 94));have a5:=(YA.o.keep bz.o).cell 5;simp only[List.getElem?_toArray,List.getElem?_cons_zero,List.getElem?_cons_succ]at a5;refine bI rfl (fun Kf hKf=>?_);go_simp
 refine hKf.out _ _ ⟨a5,(Y0.o.keep bz.o).two.1,(Y0.o.keep bz.o).two.2,YM.o.keep bz.o⟩ (fun hH=>?_);clear hKf a5 bz;try simp only[Act.put,aL,aM,aN]
 have bb:=aB w1 (.cells #[.int .i64 yc,.int .i64 ys,.int .i64 ym,.int .i64 yk,.int .i64 yl,.int .i64 yt,.bool true] 94);have X4:=aA (Box.new w1 #[.int .i64 yc,.int .i64 ys,.int .i64 ym,.int .i64 yk,.int .i64 yl,.int .i64 yt,.bool true] 94);have X3:=aA (Y0.o.keep bb);have B4:=aA (show w.heap.size≤w1.heap.size from Nat.le_of_lt (Y0.o.lt));have XA2:=aA (YA.o.keep bb);have M2:=aA (YM.o.keep bb);have BB:=aA (DR.o.trans (bb.mono DR.o.size));have BW:=aA (B0.o.trans (BB.o.mono B0.o.size));have HP2:=aA (HP.o.trans (BW.o.mono HPS.o));have GW:=aA (show w.grownBy (w1.alloc (.cells #[.int .i64 yc,.int .i64 ys,.int .i64 ym,.int .i64 yk,.int .i64 yl,.int .i64 yt,.bool true] 94)) (some bm)from⟨BW.o.os,BW.o.tape,BW.o.output,BW.o.size,fun k hk _=>BW.o.block k hk⟩);refine bF rfl (fun Kf hKf=>?_);go_simp
 refine hKf.out _ _ ?_;clear hKf;refine bP ?_;clear hH bb YA YM Y0 BB BW MA XA X0 DR HLK B0 HP;generalize w1.alloc (.cells #[.int .i64 yc,.int .i64 ys,.int .i64 ym,.int .i64 yk,.int .i64 yl,.int .i64 yt,.bool true] 94)=w2 at *
 generalize w1.heap.size=b4 at *
 have hbx:bm≠w.heap.size:=by have:=LM.o;omega
 obtain⟨z0,z1⟩:=X3.o.two;have a4:=XA2.o.cell 4;simp only[List.getElem?_toArray,List.getElem?_cons_zero,List.getElem?_cons_succ]at a4;have HBB:=aA (show bm<b4 from Nat.lt_of_lt_of_le LM.o (by have:=B4.o;omega));go_upto_region 2 with fail
 go_quiet (fail)
 have LW:=aA (show LvW wP w w2 ba bm w.heap.size b4 #[.int .i64 P,.slice A n0 c,.slice U nm cu,.slice V m cv,.slice Q l q0,.map (some bm)] #[.int .i64 k0,.int .i64 m0] #[.int .i64 yc,.int .i64 ys,.int .i64 ym,.int .i64 yk,.int .i64 yl,.int .i64 yt,.bool true]from⟨X3.o,X4.o,XA2.o,HP2.o,GW.o,hbm,hba,hbx,Nat.ne_of_lt HBB.o⟩);have LW3:=aA (LW.o.keep (iP w2 nq));have M3:=aA (M2.o.keep (iP w2 nq));clear z0 z1 a4 X3 X4 XA2 HP2 GW LW M2;generalize w2.drewN nq=w3 at *
 go_upto_if 23 with fail
 go_cut [] (fun wy=>∃(f':SpM) (q':Nat),Hid (LvW wP w wy ba bm w.heap.size b4 #[.int .i64 P,.slice A n0 c,.slice U nm cu,.slice V m cv,.slice Q l q0,.map (some bm)] #[.int .i64 k0,.int .i64 m0] #[.int .i64 yc,.int .i64 ys,.int .i64 ym,.int .i64 yk,.int .i64 yl,.int .i64 yt,.bool true])∧Hid (iF wy bm f' q')∧q'≤q+1∧Hid (DL (Ed ars (atI (nM ⟨P,ts⟩)) tr) (InU tr.length n) f' dn ((k0:Int),(m0:Int)) yc (EdA ars (atI (nM ⟨P,ts⟩)) tr ((k0:Int),(m0:Int)) 0))∧Hid (∀v x,f' v=some x→x.cost≤Kc))
 case first =>
  by_cases hkl:k0<l
  ·have hkli:(k0:Int)<(l:Int):=by omega
   obtain⟨bq,offq,y,rfl,hbq,hy,qy⟩:=(G.o.keep LW3.o.hp).get hkl;have a4:=LW3.o.xa.cell 4;obtain⟨z0,z1⟩:=LW3.o.x3.two;simp only[List.getElem?_toArray,List.getElem?_cons_zero,List.getElem?_cons_succ]at a4;go_upto_region 3 with fail
   go_quiet (fail)
   have LW4:=aA (LW3.o.keep (iP w3 nq));have M4:=aA (M3.o.keep (iP w3 nq));have hwk:IntKind.i64.wrap ((k0:Int)+1)=(k0:Int)+1:=by simp[IntKind.wrap,IntKind.bits,IntKind.signed];omega
   have hwc:IntKind.i64.wrap (yc+1)=yc+1:=by simp[IntKind.wrap,IntKind.bits,IntKind.signed];omega
   have EDG:=aA (show Ed ars (atI (nM ⟨P,ts⟩)) tr ((k0:Int),(m0:Int)) ((k0:Int)+1,(m0:Int)) 1 from .inl ⟨by rw[GL.o];exact hkli,rfl,rfl⟩);have OKV:=aA (Jb (by rw[GL.o];exact hl) hn (EDG.o.inU FT.o.1 HAT.o));clear z0 z1 a4 LW3 M3 qy hy;generalize w3.drewN nq=w4 at *
   obtain⟨z0,z1⟩:=LW4.o.x3.two;obtain⟨e0,e1,e2,e3,e4,e5,e6⟩:=LW4.o.x4.seven;clear e1 e2 e3 e4 e5 e6;go_wp2_with fail
   refine(pP LW4.o.xa rfl M4.o (v:=((k0:Int)+1,(m0:Int))) OKV.o ⟨yc+1,((k0:Int),(m0:Int)),2,y,0,false⟩ (by omega)).mono ?_;rintro e w5 ⟨⟨yy,rfl⟩,m5,g5⟩;have LW5:=aA (LW4.o.grown g5);have M5:=aA m5;have D5:=aA ((HD.o.offer (fun u v c h=>(h.low FT.o.2.2).1) (fun u v c hu h=>h.inU FT.o.1 hu) EDG.o (x:=⟨yc+1,((k0:Int),(m0:Int)),2,y,0,false⟩) rfl rfl rfl).imp (R':=EdA ars (atI (nM ⟨P,ts⟩)) tr ((k0:Int),(m0:Int)) 0) (fun v d h=>.inr (Ja h).2));have C5:=aA (Af HBD.o (v:=((k0:Int)+1,(m0:Int))) (x:=⟨yc+1,((k0:Int),(m0:Int)),2,y,0,false⟩) hK);clear m5 g5 z0 z1 e0;go_wp2
   go_meet
   exact⟨_,q+1,LW5,M5,by omega,D5,C5⟩
  ·have D0:=aA (HD.o.imp (R':=EdA ars (atI (nM ⟨P,ts⟩)) tr ((k0:Int),(m0:Int)) 0) (fun v d h=>by have:=(Ja h).1;simp only at this;have:=GL.o;omega));have hkli:¬(k0:Int)<(l:Int):=by omega
   go_wp2
   go_meet
   exact⟨f,q,LW3,M3,by omega,D0,HBD⟩
 case rest =>
  obtain⟨f1,q1,LW1,M1,hq1,D1,C1⟩:=hcut;clear HD HBD LW3 M3;have a3:=LW1.o.xa.cell 3;simp only[List.getElem?_toArray,List.getElem?_cons_zero,List.getElem?_cons_succ]at a3;go_wp2
  clear a3;go_loopw [53] (fun v wr=>∃(qq:Nat) (f':SpM) (q':Nat),qq≤m∧v=.int .i64 qq∧Hid (LvW wP w wr ba bm w.heap.size b4 #[.int .i64 P,.slice A n0 c,.slice U nm cu,.slice V m cv,.slice Q l q0,.map (some bm)] #[.int .i64 k0,.int .i64 m0] #[.int .i64 yc,.int .i64 ys,.int .i64 ym,.int .i64 yk,.int .i64 yl,.int .i64 yt,.bool true])∧Hid (iF wr bm f' q')∧q'≤q+1+2*qq∧Hid (DL (Ed ars (atI (nM ⟨P,ts⟩)) tr) (InU tr.length n) f' dn ((k0:Int),(m0:Int)) yc (EdA ars (atI (nM ⟨P,ts⟩)) tr ((k0:Int),(m0:Int)) qq))∧Hid (∀v x,f' v=some x→x.cost≤Kc)) (fun v _=>m-(intOf v).toNat)
  case atStart=>exact⟨0,f1,q1,Nat.zero_le _,rfl,LW1,M1,by omega,D1,C1⟩
  case round =>
   clear LW1 M1 D1 C1 hq1 f1 q1;obtain⟨qq,f1,q1,hqq,rfl,LW1,M1,hq1,D1,C1⟩:=hrel;by_cases hlt:qq<m
   ·have hki:(qq:Int)<(m:Int):=by omega
    obtain⟨bl,off,a,rfl,hbl,ha,r0,r1,r2,_⟩:=tN.get (Sl.keep tM.kept HA.o LW1.o.hp) hlt;have hmem:=List.mem_of_getElem? ha.o;obtain⟨t,et,ht⟩:=UN (FT.o.1 a hmem);obtain⟨r,er,hr⟩:=UN (FT.o.2.1 a hmem);have hl0:=FT.o.2.2 a hmem;have SKIPD:=aA (fun(hne:a.from_≠(m0:Int))=>D1.o.imp (fun v d=>SC ha.o hne));have STEP:=aA (fun v d=>SI (lb:=(atI (nM ⟨P,ts⟩))) (tr:=tr) (u:=((k0:Int),(m0:Int))) (v:=v) (d:=d) ha.o);have HMEM:=aA hmem;obtain⟨fr,hfr⟩:∃fr,a.from_=fr:=⟨_,rfl⟩;have HFR:=aA hfr;rw[hfr]at r0;rw[er]at r1;rw[et]at r2;have bb:=aB wr (.cells #[.int .i64 fr,.int .i64 r,.int .i64 t] 156);have WA:=aA (Box.new wr #[.int .i64 fr,.int .i64 r,.int .i64 t] 156);have LW2:=aA (LW1.o.keep bb);have M2:=aA (M1.o.keep bb);have HBX:=aA (show bm≠wr.heap.size from Nat.ne_of_lt M1.o.lt);have ET:=aA et;have ER:=aA er;clear hfr et er ha hmem LW1 M1;go_upto_region 8 with fail
    clear bb r0 r1 r2;generalize wr.alloc (.cells #[.int .i64 fr,.int .i64 r,.int .i64 t] 156)=u0 at *
    generalize wr.heap.size=bx at *
    obtain⟨t0,t1,t2⟩:=WA.o.three;obtain⟨z0,z1⟩:=LW2.o.x3.two;by_cases hfm:fr=(m0:Int)
    ·subst hfm;go_upto_region 9 with fail
     have a1:=LW2.o.xa.cell 1;simp only[List.getElem?_toArray,List.getElem?_cons_zero,List.getElem?_cons_succ]at a1;obtain⟨bt,offt,t',A1',n1',c1',A2',n2',c2',rfl,hbt,ht',p0',_,_,_,_,_,_⟩:=(HT.o.keep LW2.o.hp).get hr;have hrr:(r:Int)<(n0:Int):=by omega
     obtain⟨lab,hlab⟩:∃x,t'.label=x:=⟨_,rfl⟩;have hLB:atI (nM ⟨P,ts⟩) a.tran=lab:=by unfold atI nM;rw[ER.o,Int.toNat_natCast,List.getD_eq_getElem?_getD,List.getElem?_map,ht'.o,←hlab];rfl
     rw[hlab]at p0';rw[hLB]at hl0;have LBE:=aA hLB;clear hlab hLB ht';go_quiet (fail)
     have LW3:=aA (LW2.o.keep (iP u0 nq));have M3:=aA (M2.o.keep (iP u0 nq));have WA3:=aA (WA.o.keep (iP u0 nq));clear a1 p0' t0 t1 t2 z0 z1 LW2 M2 WA;generalize u0.drewN nq=u1 at *
     obtain⟨W,hW⟩:∃W:Int,min lab 1=W:=⟨_,rfl⟩;have HW:=aA hW;have hW1:W≤1:=by omega
     have hW0:0≤W:=by omega
     have hwr:IntKind.i64.wrap (yc+W)=yc+W:=by simp[IntKind.wrap,IntKind.bits,IntKind.signed];omega
     have EG1:=aA (show Ed ars (atI (nM ⟨P,ts⟩)) tr ((k0:Int),(m0:Int)) ((k0:Int),(t:Int)) W from .inr (.inl ⟨a,HMEM.o,HFR.o,by rw[ET.o],by rw[LBE.o,HW.o]⟩));have OK1:=aA (Jb (by rw[GL.o];exact hl) hn (EG1.o.inU FT.o.1 HAT.o));obtain⟨t0,t1,t2⟩:=WA3.o.three;obtain⟨z0,z1⟩:=LW3.o.x3.two;obtain⟨e0,e1,e2,e3,e4,e5,e6⟩:=LW3.o.x4.seven;clear e1 e2 e3 e4 e5 e6;go_wp2_with fail
     refine(pP LW3.o.xa rfl M3.o (v:=((k0:Int),(t:Int))) OK1.o ⟨yc+W,((k0:Int),(m0:Int)),3,lab,r,false⟩ (by omega)).mono ?_;rintro e u2 ⟨⟨yy,rfl⟩,m6,g6⟩;have LW6:=aA (LW3.o.grown g6);have M6:=aA m6;have WA6:=aA (WA3.o.grown g6 (by simpa using HBX.o));have D6:=aA (D1.o.offer (fun u v c h=>(h.low FT.o.2.2).1) (fun u v c hu h=>h.inU FT.o.1 hu) EG1.o (x:=⟨yc+W,((k0:Int),(m0:Int)),3,lab,r,false⟩) rfl rfl rfl);have C6:=aA (Af C1.o (v:=((k0:Int),(t:Int))) (x:=⟨yc+W,((k0:Int),(m0:Int)),3,lab,r,false⟩) (show yc+W≤Kc by omega));clear m6 g6 t0 t1 t2 z0 z1 e0 hwr hW LW3 M3 WA3 D1 C1;go_upto_region 12 with fail
     have a4:=LW6.o.xa.cell 4;simp only[List.getElem?_toArray,List.getElem?_cons_zero,List.getElem?_cons_succ]at a4;obtain⟨t0,t1,t2⟩:=WA6.o.three;obtain⟨z0,z1⟩:=LW6.o.x3.two;by_cases hlab0:0<lab
     ·by_cases hkl:k0<l
      ·have hkli:(k0:Int)<(l:Int):=by omega
       obtain⟨bq,offq,y,rfl,hbq,hy,qy⟩:=(G.o.keep LW6.o.hp).get hkl;by_cases hyl:y=lab
       ·have HY:=aA hy.o;clear hy;subst hyl;have EG2:=aA (show Ed ars (atI (nM ⟨P,ts⟩)) tr ((k0:Int),(m0:Int)) ((k0:Int)+1,(t:Int)) 0 from .inr (.inr ⟨a,HMEM.o,HFR.o,by rw[GL.o];exact hkli,by rw[LBE.o];exact hlab0,by rw[LBE.o];simpa using HY.o,by rw[ET.o],rfl⟩));have OK2:=aA (Jb (by rw[GL.o];exact hl) hn (EG2.o.inU FT.o.1 HAT.o));have hwk:IntKind.i64.wrap ((k0:Int)+1)=(k0:Int)+1:=by simp[IntKind.wrap,IntKind.bits,IntKind.signed];omega
        go_quiet (fail)
        have LW7:=aA (LW6.o.keep (iP u2 nq));have M7:=aA (M6.o.keep (iP u2 nq));have WA7:=aA (WA6.o.keep (iP u2 nq));clear a4 z0 z1 t0 t1 t2 qy LW6 M6 WA6;generalize u2.drewN nq=u3 at *
        obtain⟨t0,t1,t2⟩:=WA7.o.three;obtain⟨z0,z1⟩:=LW7.o.x3.two;obtain⟨e0,e1,e2,e3,e4,e5,e6⟩:=LW7.o.x4.seven;clear e1 e2 e3 e4 e5 e6;go_wp2_with fail
        refine(pP LW7.o.xa rfl M7.o (v:=((k0:Int)+1,(t:Int))) OK2.o ⟨yc,((k0:Int),(m0:Int)),1,y,r,false⟩ (by omega)).mono ?_;rintro e u4 ⟨⟨yy',rfl⟩,m8,g8⟩;have LW8:=aA (LW7.o.grown g8);have M8:=aA m8;have D8:=aA ((D6.o.offer (fun u v c h=>(h.low FT.o.2.2).1) (fun u v c hu h=>h.inU FT.o.1 hu) EG2.o (x:=⟨yc,((k0:Int),(m0:Int)),1,y,r,false⟩) (show yc=yc+0 by omega) rfl rfl).imp (R':=EdA ars (atI (nM ⟨P,ts⟩)) tr ((k0:Int),(m0:Int)) (qq+1)) (fun v d h=>by
         rcases STEP.o v d h with h|⟨h1,h2⟩|⟨_,h1,h2⟩
         ·exact .inl (.inl h)
         ·exact .inl (.inr ⟨by rw[h1,ET.o],by rw[h2,LBE.o,HW.o]⟩)
         ·exact .inr ⟨by rw[h1,ET.o],h2⟩))
        have C8:=aA (Af C6.o (v:=((k0:Int)+1,(t:Int))) (x:=⟨yc,((k0:Int),(m0:Int)),1,y,r,false⟩) (show yc≤Kc by omega));clear m8 g8 t0 t1 t2 z0 z1 e0;go_wp2
        go_roundw
        case rel=>exact⟨qq+1,_,q1+1+1,by omega,by go_num,LW8,M8,by omega,D8,C8⟩
        case measure=>simp[intOf];omega
       ·have hyb:(y==lab)=false:=by simpa using hyl
        have HY:=aA hy.o;clear hy;have DN:=aA (D6.o.imp (R':=EdA ars (atI (nM ⟨P,ts⟩)) tr ((k0:Int),(m0:Int)) (qq+1)) (fun v d h=>by
         rcases STEP.o v d h with h|⟨h1,h2⟩|⟨⟨g1,g2,g3⟩,_⟩
         ·exact .inl h
         ·exact .inr ⟨by rw[h1,ET.o],by rw[h2,LBE.o,HW.o]⟩
         ·exfalso
          simp only[LBE.o,Int.toNat_natCast]at g1 g2 g3;rw[HY.o]at g3;injection g3 with g3;exact hyl g3))
        go_quiet (fail)
        have LW7:=aA (LW6.o.keep (iP u2 nq));have M7:=aA (M6.o.keep (iP u2 nq));clear a4 z0 z1 t0 t1 t2 LW6 M6 WA6;generalize u2.drewN nq=u3 at *
        go_wp2
        go_roundw
        case rel=>exact⟨qq+1,_,q1+1,by omega,by go_num,LW7,M7,by omega,DN,C6⟩
        case measure=>simp[intOf];omega
      ·have hkli:¬(k0:Int)<(l:Int):=by omega
       have DN:=aA (D6.o.imp (R':=EdA ars (atI (nM ⟨P,ts⟩)) tr ((k0:Int),(m0:Int)) (qq+1)) (fun v d h=>by
        rcases STEP.o v d h with h|⟨h1,h2⟩|⟨⟨g1,g2,g3⟩,_⟩
        ·exact .inl h
        ·exact .inr ⟨by rw[h1,ET.o],by rw[h2,LBE.o,HW.o]⟩
        ·exfalso
         simp only[LBE.o,Int.toNat_natCast]at g1 g2 g3;have:=GL.o;omega))
       go_quiet (fail)
       have LW7:=aA (LW6.o.keep (iP u2 nq));have M7:=aA (M6.o.keep (iP u2 nq));clear a4 z0 z1 t0 t1 t2 LW6 M6 WA6;generalize u2.drewN nq=u3 at *
       go_wp2
       go_roundw
       case rel=>exact⟨qq+1,_,q1+1,by omega,by go_num,LW7,M7,by omega,DN,C6⟩
       case measure=>simp[intOf];omega
     ·skip
      have DN:=aA (D6.o.imp (R':=EdA ars (atI (nM ⟨P,ts⟩)) tr ((k0:Int),(m0:Int)) (qq+1)) (fun v d h=>by
       rcases STEP.o v d h with h|⟨h1,h2⟩|⟨⟨g1,g2,g3⟩,_⟩
       ·exact .inl h
       ·exact .inr ⟨by rw[h1,ET.o],by rw[h2,LBE.o,HW.o]⟩
       ·exfalso
        simp only[LBE.o,Int.toNat_natCast]at g1 g2 g3;omega))
      go_quiet (fail)
      have LW7:=aA (LW6.o.keep (iP u2 nq));have M7:=aA (M6.o.keep (iP u2 nq));clear a4 z0 z1 t0 t1 t2 LW6 M6 WA6;generalize u2.drewN nq=u3 at *
      go_wp2
      go_roundw
      case rel=>exact⟨qq+1,_,q1+1,by omega,by go_num,LW7,M7,by omega,DN,C6⟩
      case measure=>simp[intOf];omega
    ·have hfb:(fr==(m0:Int))=false:=by simpa using hfm
     have DS:=aA (SKIPD.o (by rw[HFR.o];exact hfm));go_wp2
     go_roundw
     case rel=>exact⟨qq+1,f1,q1,by omega,by go_num,LW2,M2,by omega,DS,C1⟩
     case measure=>simp[intOf];omega
   ·obtain rfl:qq=m:=by omega
    have DF:=aA (D1.o.imp (R':=Ed ars (atI (nM ⟨P,ts⟩)) tr ((k0:Int),(m0:Int))) (fun v d h=>by have:=Sz h;rw[AL.o]at this;exact this));go_wp2
    go_end0
    exact⟨⟨_,rfl⟩,f1,q1,M1.o,by omega,DF.o,LW1.o.gw,C1.o⟩
def Ag (w:World)(g n:Nat):Prop:=∃cs:Array Value,Box w g 92 cs∧n*3≤cs.size∧∀(j:Nat) (v:Value),j<n*3→cs[j]?=some v→∃x:Int,v=.int .i64 x
section
variable {w w':World} {g n:Nat}
theorem Ag.at (h:Ag w g n){j:Nat}(hj:j<n*3):∃x:Int,w.cell? ⟨g,j,none⟩=some (.int .i64 x):=by
 obtain⟨cs,h1,h2,h3⟩:=h;obtain⟨x,hx⟩:=h3 j _ hj (Array.getElem?_eq_getElem (by omega));exact⟨x,by rw[h1.cell,Array.getElem?_eq_getElem (by omega),hx]⟩
theorem Ag.frozen (h:Ag w g n)(j:Nat):w.frozen? ⟨g,j,none⟩=false:=by
 obtain⟨cs,h1,_⟩:=h;exact h1.frozen j
theorem Ag.put (h:Ag w g n)(j:Nat)(x:Int):Ag (w.setCell ⟨g,j,none⟩ (.int .i64 x)) g n:=by
 obtain⟨cs,h1,h2,h3⟩:=h;refine⟨_,h1.set j (.int .i64 x),by simpa using h2,fun i v hi hv=>?_⟩;rw[Array.getElem?_setIfInBounds]at hv;split at hv
 ·split at hv
  ·injection hv with hv;exact⟨x,hv.symm⟩
  ·cases hv
 ·exact h3 i v hi hv
theorem Ag.keep (h:Ag w g n)(hb:Below w.heap.size w w'):Ag w' g n:=by
 obtain⟨cs,h1,h2⟩:=h;exact⟨cs,h1.keep hb,h2⟩
end
def VQ (w:World)(b j:Nat)(x0 x1 x2:Int):World:=((w.setCell ⟨b,j,none⟩ (.int .i64 x0)).setCell ⟨b,j+1,none⟩ (.int .i64 x1)).setCell ⟨b,j+2,none⟩ (.int .i64 x2)
theorem Ag.lay {w:World}{g n:Nat}(h:Ag w g n)(j:Nat)(x0 x1 x2:Int):Ag (VQ w g j x0 x1 x2) g n:=((h.put j x0).put (j+1) x1).put (j+2) x2
theorem Jc (w:World)(b j:Nat)(v:Value):w.grownBy (w.setCell ⟨b,j,none⟩ v) (some b) :=
 ⟨rfl,rfl,rfl,by simp[World.setCell],fun k _ hne=>heap_setCell_other _ _ _ _ (fun e=>hne (by rw[e]))⟩
theorem yL (w:World)(b j:Nat)(x0 x1 x2:Int):w.grownBy (VQ w b j x0 x1 x2) (some b):=((Jc w b j _).trans (Jc _ b (j+1) _)).trans (Jc _ b (j+2) _)
theorem wZ {w:World}{g n cap:Nat}(h:Ag w g n)(hn:n≤100000) :
  Calls Tryz.prog 30 #[.slice (some ⟨g,0,none⟩) n cap] w fun e w'=>(∃y,e=.returned y)∧Ag w' g n∧w.grownBy w' (some g):=by
 have H:=aA h;clear h;go_enter Tryz.func30,Tryz.ntmps30
 go_wp2
 go_loopw [2,3] (fun iv jv wr=>∃(i:Nat) (j:Int),iv=.int .i64 i∧jv=.int .i64 j∧j+i+1=n∧Hid (Ag wr g n)∧Hid (w.grownBy wr (some g))) (fun iv _ _=>n-(intOf iv).toNat)
 case atStart=>exact⟨0,(n:Int)-1,rfl,rfl,by omega,H,aA ⟨rfl,rfl,rfl,Nat.le_refl _,fun _ _ _=>rfl⟩⟩
 case round =>
  obtain⟨i,j,rfl,rfl,hij,O,D⟩:=hrel;by_cases hlt:(i:Int)<j
  ·obtain⟨j,rfl⟩:∃q:Nat,j=(q:Int):=⟨j.toNat,by omega⟩;have hjn:j<n:=by omega
   have hin:i<n:=by omega
   have hjni:(j:Int)<(n:Int):=by omega
   have hini:(i:Int)<(n:Int):=by omega
   have O1:=aA (O.o.keep (show Below wr.heap.size wr wr.drew from⟨rfl,rfl,rfl,Nat.le_refl _,fun _ _=>rfl⟩));have D1:=aA (show w.grownBy wr.drew (some g)from D.o.trans ⟨rfl,rfl,rfl,Nat.le_refl _,fun _ _ _=>rfl⟩);obtain⟨x0,i0⟩:=O1.o.at (j:=i*3) (by omega);obtain⟨x1,i1⟩:=O1.o.at (j:=i*3+1) (by omega);obtain⟨x2,i2⟩:=O1.o.at (j:=i*3+2) (by omega);obtain⟨y0,j0⟩:=O1.o.at (j:=j*3) (by omega);obtain⟨y1,j1⟩:=O1.o.at (j:=j*3+1) (by omega);obtain⟨y2,j2⟩:=O1.o.at (j:=j*3+2) (by omega);have hji:(j:Int)+i+1=n:=hij;clear hij O D;go_upto_region 3 with fail
   refine mF 13 2 3 14 (.takes [0,1,4,5,8,9,6,7,10,11] (.one 12 (.fin 13 (.fin 14 (.fin 15 .done))))) (fun w'=>(w'.cell? ⟨g,i*3,none⟩=some (.int .i64 x0)∧w'.cell? ⟨g,i*3+1,none⟩=some (.int .i64 x1)∧w'.cell? ⟨g,i*3+2,none⟩=some (.int .i64 x2))∧w'.cell? ⟨g,j*3,none⟩=some (.int .i64 y0)∧w'.cell? ⟨g,j*3+1,none⟩=some (.int .i64 y1)∧w'.cell? ⟨g,j*3+2,none⟩=some (.int .i64 y2)) (v:=?_) (u:=?_) (by kernel_rfl) (by kernel_rfl) (by kernel_rfl) rfl (by kernel_rfl) (fun _ _ _ _ _ h=>h) rfl (by rfl) (fun w'=>?_) rfl (by rfl) (fun w'=>?_) ⟨⟨i0,i1,i2⟩,j0,j1,j2⟩ (fun hH=>?_)
   rotate_left 2
   ·(go_simp;try with_reducible rfl)
   ·(go_simp;try with_reducible rfl)
   simp only[Act.put,aL,aM,aN];simp only[Scr.takes];generalize wr.drew=u0 at *
   iterate 10
    refine aH (v:=?_) rfl (by rfl) hH (fun w' hSw=>?_) ?_
    rotate_left
    ·(go_simp;try with_reducible rfl)
    simp only[Act.put,aL,aM,aN]
   have fi:=O1.o.frozen (i*3);have fi1:=O1.o.frozen (i*3+1);have fi2:=O1.o.frozen (i*3+2);refine bI rfl (fun K hK=>?_);go_simp
   refine hK.out _ _ ⟨⟨i0,i1,i2⟩,j0,j1,j2⟩ (fun hH=>?_);clear hK;try simp only[Act.put,aL,aM,aN]
   refine bF rfl (fun K hK=>?_);go_simp
   have O2:=aA (O1.o.lay (i*3) y0 y1 y2);have D2:=aA (D1.o.trans (yL u0 g (i*3) y0 y1 y2));rw[show((u0.setCell ⟨g,i*3,none⟩ (.int .i64 y0)).setCell ⟨g,i*3+1,none⟩ (.int .i64 y1)).setCell ⟨g,i*3+2,none⟩ (.int .i64 y2)=VQ u0 g (i*3) y0 y1 y2 from rfl];clear hH fi fi1 fi2 i0 i1 i2 j0 j1 j2;generalize VQ u0 g (i*3) y0 y1 y2=u2 at *
   refine hK.out _ _ ?_;clear hK;try simp only[Act.put,aL,aM,aN]
   refine bF rfl (fun K hK=>?_);go_simp
   refine hK.out _ _ ?_;clear hK;try simp only[Act.put,aL,aM,aN]
   obtain⟨w0,j0⟩:=O2.o.at (j:=j*3) (by omega);obtain⟨w1,j1⟩:=O2.o.at (j:=j*3+1) (by omega);obtain⟨w2,j2⟩:=O2.o.at (j:=j*3+2) (by omega);have fj:=O2.o.frozen (j*3);have fj1:=O2.o.frozen (j*3+1);have fj2:=O2.o.frozen (j*3+2);have O3:=aA (O2.o.lay (j*3) x0 x1 x2);have D3:=aA (D2.o.trans (yL u2 g (j*3) x0 x1 x2));refine bF rfl (fun K hK=>?_);go_simp
   rw[show((u2.setCell ⟨g,j*3,none⟩ (.int .i64 x0)).setCell ⟨g,j*3+1,none⟩ (.int .i64 x1)).setCell ⟨g,j*3+2,none⟩ (.int .i64 x2)=VQ u2 g (j*3) x0 x1 x2 from rfl];clear fj fj1 fj2 j0 j1 j2;generalize VQ u2 g (j*3) x0 x1 x2=u3 at *
   refine hK.out _ _ ?_;clear hK;try simp only[Act.put,aL,aM,aN]
   refine bP ?_;go_wp2
   go_roundw
   case rel=>exact⟨i+1,(j:Int)-1,by go_num,by go_num,by omega,O3,D3⟩
   case measure=>simp[intOf];omega
  ·go_wp2
   exact bodyPost_end (v:=.tuple #[]) (by simp[results,Tryz.results30,go_sem]) rfl ⟨⟨_,rfl⟩,O.o,D.o⟩
def QI:World→(Nat→Value)→Unit→Prop:=fun _ vs _=>∀j,j<3→∃x:Int,vs j=.int .i64 x
theorem QI.kept:t8 QI:=fun _ _ _ _ _ h=>h
theorem Wp:mC 50 92 3 24:=mC.mk' (z:=.agg #[.int .i64 0,.int .i64 0,.int .i64 0]) Tryz.underlying50 (by kernel_rfl) rfl (by decide)
abbrev oS (w:World)(B:Nat)(v:Value)(n:Nat):Prop:=∃xs:List Unit,aC QI 3 w B 92 v n xs
theorem QI.reads (w:World)(a b c:Int):a6 QI 3 w (#[Value.int .i64 a,.int .i64 b,.int .i64 c]:Array Value).toList [()] :=
 a6.one (vs:=fun j=>[Value.int .i64 a,.int .i64 b,.int .i64 c].getD j undef) (fun j hj=>by
  rcases(show j=0∨j=1∨j=2 by omega)with rfl|rfl|rfl
  ·exact⟨a,rfl⟩
  ·exact⟨b,rfl⟩
  ·exact⟨c,rfl⟩) rfl (fun j hj=>by
  rcases(show j=0∨j=1∨j=2 by omega)with rfl|rfl|rfl <;> rfl)
theorem Ag.of_own {w:World}{B g n cap:Nat}{xs:List Unit}(h:aC QI 3 w B 92 (.slice (some ⟨g,0,none⟩) n cap) n xs):Ag w g n:=by
 obtain⟨cells,⟨h1,h2⟩,h3,h4⟩:=h;rcases h2 with⟨e,_⟩|⟨g',cap',cur,e,hB,hh,hn,hc,hs,ht⟩
 ·cases e
 ·injection e with e1 e2 e3;injection e1 with e1;injection e1 with e1;subst e1;refine⟨cur,hh,by rw[hs];exact Nat.mul_le_mul_right _ hn,fun j v hj hv=>?_⟩;have hx:xs[j / 3]?=some ():=by
   rw[List.getElem?_eq_getElem (by rw[h4];omega)]
  obtain⟨vs,hvs,hR⟩:=h3.2 _ _ hx;obtain⟨x,hx⟩:=hR (j % 3) (by omega);have hcell:=hvs (j % 3) (by omega);rw[show j / 3*3+j % 3=j by omega]at hcell;rw[←ht,List.getElem?_take,if_pos hj,←Array.getElem?_toList]at *
  first
   | exact⟨x,by rw[hv]at hcell;injection hcell with hcell;rw[hcell,hx]⟩
   | skip
theorem oS.form {w:World}{B n:Nat}{v:Value}(h:oS w B v n):∃A c,v=.slice A n c:=by
 obtain⟨xs,cells,⟨h1,h2⟩,h3,h4⟩:=h;rcases h2 with⟨rfl,rfl⟩|⟨g,cap,cur,rfl,hB,hh,hc⟩
 ·exact⟨none,0,rfl⟩
 ·exact⟨_,_,rfl⟩
theorem oS.lo {w:World}{B n:Nat}{v:Value}(h:oS w B v n):∀k,v.ownBlock=some k→B≤k:=by
 obtain⟨xs,h⟩:=h;exact fun k hk=>(h.lt k hk).1
theorem vT (w:World) :
  Calls Tryz.prog 30 #[.slice none 0 0] w fun e w'=>(∃y,e=.returned y)∧Below w.heap.size w w':=by
 go_enter Tryz.func30,Tryz.ntmps30
 go_wp2
 go_loopw [2,3] (fun i j wr=>i=.int .i64 0∧j=.int .i64 (-1)∧wr=w) (fun _ _ _=>0)
 case atStart=>exact⟨rfl,rfl,rfl⟩
 case round =>
  obtain⟨rfl,rfl,rfl⟩:=hrel;go_wp2
  exact bodyPost_end (v:=.tuple #[]) (by simp[results,Tryz.results30,go_sem]) rfl ⟨⟨_,rfl⟩,Below.refl _ _⟩
theorem xA {w:World}{B n:Nat}{v:Value}(h:oS w B v n)(hn:n≤100000) :
  Calls Tryz.prog 30 #[v] w fun e w'=>(∃y,e=.returned y)∧w.grownBy w' v.ownBlock:=by
 obtain⟨xs,h⟩:=h;have h0:=h;obtain⟨cells,⟨h1,h2⟩,h3,h4⟩:=h0;rcases h2 with⟨rfl,rfl⟩|⟨g,cap,cur,rfl,hB,hh,hc⟩
 ·refine(vT w).mono ?_;rintro e w' ⟨hy,hb⟩;exact⟨hy,hb.os,hb.tape,hb.output,hb.size,fun k hk _=>hb.block k hk⟩
 ·refine(wZ (cap:=cap) (Ag.of_own h) hn).mono ?_;rintro e w' ⟨hy,_,hg⟩;exact⟨hy,hg⟩
theorem Un (w:World)(a b c d:Int):(Op.equalIn 10000 90 (.agg #[.int .i64 a,.int .i64 b]) (.agg #[.int .i64 c,.int .i64 d])).run Tryz.prog w=.ok (a==c&&b==d) w:=by
 have hu:Tryz.prog.underlying 90=some (.struct (Tryz.prog.fieldsOf 90)):=by
  simp[Program.fieldsOf,Tryz.underlying90]
 have hp:∀(xs:Array Value) (k:Nat) (x:Int),xs[k]?=some (.int .i64 x)→(part 3 xs k).run Tryz.prog w=.ok (.int .i64 x) w:=fun xs k x hx=>run_part_plain w (show Tryz.prog.plainKey 3=true by kernel_rfl) hx
 have he:∀x y:Int,(Op.equalIn 9999 3 (.int .i64 x) (.int .i64 y)).run Tryz.prog w=.ok (x==y) w:=fun x y=>run_equalIn_int w 9998 3 .i64 .i64 x y Tryz.underlying3
 rw[show(10000:Nat)=9999+1 from rfl,run_equalIn_struct w 9999 _ _ _ hu (by kernel_rfl)];simp only[Program.fieldsOf,Tryz.underlying90,Op.eqFields];generalize (9999:Nat)=q at *
 cases hac:(a==c) <;> cases hbd:(b==d) <;> simp[hp,he,hac,hbd]
theorem Qe (a b c d e f:Int)(g:Bool)(w:World):(Instr.field 94 (.agg #[.int .i64 a,.int .i64 b,.int .i64 c,.int .i64 d,.int .i64 e,.int .i64 f,.bool g]) 0).run Tryz.prog w=.ok (.int .i64 a) w:=by kernel_rfl
theorem Qf (a b c d e f:Int)(g:Bool)(w:World):(Instr.field 94 (.agg #[.int .i64 a,.int .i64 b,.int .i64 c,.int .i64 d,.int .i64 e,.int .i64 f,.bool g]) 1).run Tryz.prog w=.ok (.agg #[.int .i64 b,.int .i64 c]) w:=by kernel_rfl
theorem Qg (a b c d e f:Int)(g:Bool)(w:World):(Instr.field 94 (.agg #[.int .i64 a,.int .i64 b,.int .i64 c,.int .i64 d,.int .i64 e,.int .i64 f,.bool g]) 2).run Tryz.prog w=.ok (.agg #[.int .i64 d,.int .i64 e,.int .i64 f]) w:=by kernel_rfl
theorem Eb:Tryz.prog.eqGuardType Tryz.prog.depth 90=false:=by kernel_rfl
theorem Qh (w:World)(a b c d:Int):(binOp .eql 90 (.agg #[.int .i64 a,.int .i64 b]) (.agg #[.int .i64 c,.int .i64 d])).run Tryz.prog w=.ok (.bool (a==c&&b==d)) w:=by
 rw[run_eql_struct,Un];rfl
theorem Qi (w:World)(a b c d:Int):(binOp .neq 90 (.agg #[.int .i64 a,.int .i64 b]) (.agg #[.int .i64 c,.int .i64 d])).run Tryz.prog w=.ok (.bool (!(a==c&&b==d))) w:=by
 rw[run_neq_struct,Un];rfl
theorem SY {w:World}{bn bo n c:Nat}{A:OAd}{P o:Int}{ts:List aI}(x:Box w bn 24 #[.int .i64 P,.slice A n c])(y:Box w bo 3 #[.int .i64 o]):uX 27 #[.pointer (some ⟨bn,0,none⟩),.pointer (some ⟨bo,0,none⟩)] w (fun m=>m==QF ⟨P,ts⟩ o) where
 enters:=fun args w=>by kernel_rfl
 calls:=fun wr A1 n1 c1 m hb hi=>by
  obtain⟨x0,x1⟩:=(x.keep hb).two;have y0:=(y.keep hb).cell 0;simp only[List.getElem?_toArray,List.getElem?_cons_zero]at y0;have HI:=aA hi;have EL:=aA (show QF ⟨P,ts⟩ o=gX (min P 16).toNat o from rfl);show Calls Tryz.prog 27 #[.slice A1 n1 c1,.pointer (some ⟨bn,0,none⟩),.pointer (some ⟨bo,0,none⟩)] wr _
  clear hb x y hi;obtain⟨pn,hpn⟩:∃pn,(min P 16).toNat=pn:=⟨_,rfl⟩;have HPN:=aA hpn;rw[hpn]at EL;clear hpn;obtain⟨s,hs⟩:∃s,(m==gX pn o)=s:=⟨_,rfl⟩;have HS:=aA hs;have HS2:=aA (show(m==QF ⟨P,ts⟩ o)=s by rw[EL.o];exact hs);clear hs;go_enter Tryz.func27,Tryz.ntmps27
  go_wp2_with fail
  refine(dY wr P o A n c).mono ?_;rw[HPN.o];rintro e w5 ⟨C,kc,rfl,hi5,hb5,_⟩;have I5:=aA hi5;have H5:=aA (HI.o.keep hb5);have B5:=aA hb5;clear hi5 hb5 x0 x1 y0;go_wp2_with fail
  refine(dT H5.o I5.o).mono ?_;rw[HS.o];rintro e w6 ⟨rfl,dr⟩;have B6:=aA (B5.o.trans (dr.below.mono B5.o.size));clear dr;go_wp2
  go_ret
  exact⟨by rw[HS2.o];rfl,B6.o⟩
end Go.Proofs.YtfmnagcglhlicaaGreat
