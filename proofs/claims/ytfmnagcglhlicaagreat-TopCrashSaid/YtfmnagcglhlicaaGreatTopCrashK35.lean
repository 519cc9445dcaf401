/- Texts melted into one: mine's order and beside. Conditions: the log reads as lists and prints; what is found with less fuel is told. | mine's of; two blocks side by side in a row. Conditions -/
import Derived.Test.YtfmnagcglhlicaaGreatTopCrashK34
set_option maxRecDepth 100000
set_option maxHeartbeats 4000000
namespace Go.Proofs.YtfmnagcglhlicaaGreat
open Go.RowKit Go.Maps
theorem yI {α:Type} [DecidableEq α]:∀(l all:List α),l.Nodup→(∀x∈l,x∈all)→l.length≤all.length
 | [],_,_,_=>by simp
 | a::l,all,hn,hs=>by
  have ha:a∈all:=hs a (by simp);have hal:a∉l:=(List.nodup_cons.1 hn).1;have:=yI l (all.erase a) (List.nodup_cons.1 hn).2 (fun x hx=>(List.mem_erase_of_ne (a:=x) (b:=a) (by intro e;subst e;exact hal hx)).2 (hs x (by simp[hx])));rw[List.length_erase_of_mem ha]at this;have:0<all.length:=List.length_pos_of_mem ha;simp only[List.length_cons];omega
theorem DJ {log:LLi}{p:aU}(hp:cZ log p)(h0:cP log=0):p.behind.length≤1000:=by
 have h:=yI p.behind (Oi ((List.range 26).map fun i:Nat=>(i:Int)+1)) (hp.2.2.2.1.imp (fun{a b} hab e=>by subst e;unfold lZ at hab;omega)) (fun q hq=>by
  obtain⟨t,ht,k,h1,h2⟩:=(hp.2.2.2.2 q).1 hq;have a1:=hp.lab h0 q.1 ((hp.1.2 _).2 ⟨t,ht,List.mem_of_getElem? h1⟩);have a2:=hp.lab h0 q.2 ((hp.1.2 _).2 ⟨t,ht,List.mem_of_getElem? h2⟩);have m:∀a:Int,1≤a∧a≤26→a∈(List.range 26).map fun i:Nat=>(i:Int)+1:=fun a ha=>List.mem_map.2 ⟨(a-1).toNat,by rw[List.mem_range];omega,by omega⟩
  exact qL.2 ⟨m _ a1,m _ a2⟩)
 have e:(Oi ((List.range 26).map fun i:Nat=>(i:Int)+1)).length=676:=by decide +kernel
 omega
def zX (d:Nat)(P:Prop)(T:aW)(w:World)(e:Ending)(w':World):Prop:=(P→qU d true T w e w')∧(¬P→qU d false eV w e w')
theorem IR (d:Nat)(P:Prop)(T:aW)(w:World):(∀{w':World} (v:Value),P→fJ (fun k=>w.heap.size≤k) d w' v T→Below w.heap.size w w'→zX d P T w (.returned (.tuple #[v,.bool true])) w')∧(∀{w':World} (v:Value),¬P→fJ (fun k=>w.heap.size≤k) d w' v eV→Below w.heap.size w w'→zX d P T w (.returned (.tuple #[v,.bool false])) w') :=
 ⟨fun v hP hb hw=>⟨fun _=>⟨v,rfl,hb,hw⟩,fun h=>absurd hP h⟩,fun v hP hb hw=>⟨fun h=>absurd h hP,fun _=>⟨v,rfl,hb,hw⟩⟩⟩
noncomputable def zY (f:Nat)(log:LLi)(p:aU):aW:=.mk 3 0 ((VL (gQ p) (eF (eE (gQ p)) p.labels)).map fun g=>aP f (eP log g))
noncomputable def mZ (f:Nat)(log:LLi)(p:aU):aW:=.mk 5 0 ((eF (mV p) p.labels).map fun g=>aP f (eP log g))
def Gy (p:aU):Prop:=2≤(eF (eE (gQ p)) p.labels).length
def rT (p:aU):Prop:=2≤(eF (mV p) p.labels).length∧((eF (mV p) p.labels).all fun g=>nX g p.first&&nX g p.last)=true
theorem Vb (G:LLi):Gv (fun k=>(G[k]?).getD []) G.length=G:=by
 apply List.ext_getElem?
 intro k;by_cases hk:k<G.length
 ·rw[eB hk,List.getElem?_eq_getElem hk];rfl
 ·rw[List.getElem?_eq_none (by rw[qR];omega),List.getElem?_eq_none (by omega)]
theorem Vd {G:LLi}(h:G.Nodup):dQ (fun x=>x∈G) (fun k=>(G[k]?).getD []) G.length where
 mem:=fun k hk=>by simp only[List.getElem?_eq_getElem hk,Option.getD_some];exact List.getElem_mem hk
 inj:=fun i j hi hj e=>by
  simp only[List.getElem?_eq_getElem hi,List.getElem?_eq_getElem hj,Option.getD_some]at e;rcases Nat.lt_trichotomy i j with h1|h1|h1
  ·exact absurd e (List.pairwise_iff_getElem.1 h i j hi hj h1)
  ·exact h1
  ·exact absurd e.symm (List.pairwise_iff_getElem.1 h j i hj hi h1)
theorem RV {lds:Int→Int→Bool}{ls:LIn}{G:LLi}(hG:uY (eE lds) ls G){q:Nat→LIn}(h1:dQ (fun x=>x∈G) q G.length)(h2:fA (ltG lds) q 0 G.length)(h3:dO q (fun k=>(G[k]?).getD []) 0 G.length):VL lds G=Gv q G.length:=by
 refine OZ hG ?_ ?_ (fun x=>?_)
 ·unfold Gv;refine List.nodup_iff_pairwise_ne.2 (List.pairwise_map.2 ((List.pairwise_lt_range).imp_of_mem (fun{a b} ha hb hab e=>?_)));have:=h1.inj a b (List.mem_range.1 ha) (List.mem_range.1 hb) e;omega
 ·unfold Gv;exact List.pairwise_map.2 ((List.pairwise_lt_range).imp_of_mem (fun{a b} ha hb hab=>h2 a b (Nat.zero_le _) hab (List.mem_range.1 hb)))
 ·unfold Gv;rw[List.mem_map];constructor
  ·rintro⟨k,hk,rfl⟩;exact h1.mem k (List.mem_range.1 hk)
  ·intro hx;obtain⟨k,hk,rfl⟩:=List.getElem_of_mem hx;obtain⟨j,_,j2,e⟩:=h3.all k (Nat.zero_le _) hk;exact⟨j,List.mem_range.2 j2,by rw[e];simp[List.getElem?_eq_getElem hk]⟩
theorem qV {f:Nat}(IH:vN f){w:World}{A A1 A2 A3 A4:OAd}{n c n1 c1 n2 c2 n3 c3 n4 c4:Nat}{log:LLi}{p:aU}(h:IP w A A1 A2 A3 A4 n c n1 c1 n2 c2 n3 c3 n4 c4 log p)(hp:cZ log p)(hf:vK (f+1) log) :
  Calls Tryz.prog 131 #[vM A A1 A2 A3 A4 n c n1 c1 n2 c2 n3 c3 n4 c4] w (zX (f+3) (Gy p) (zY f log p) w):=by
 have CUT:=aA (IR (f+3) (Gy p) (zY f log p) w);have H:=aA h;have HSP:=aA hp;have HFU:=aA hf;have NN:=aA (show n≤60∧p.labels.length≤26∧p.labels.Pairwise (·< ·)from⟨by rw[←h.il.len];exact hf.n,mW hp.1.1 (hp.lab hf.1),hp.1.1⟩);have OK:=aA (show(∀a∈p.labels,okI a)∧(∀q∈p.behind,okP q)from⟨hp.lab hf.1,fun q hq=>by
  obtain⟨t,ht,k,h1,h2⟩:=(hp.2.2.2.2 q).1 hq;exact⟨hp.lab hf.1 q.1 ((hp.1.2 _).2 ⟨t,ht,List.mem_of_getElem? h1⟩),hp.lab hf.1 q.2 ((hp.1.2 _).2 ⟨t,ht,List.mem_of_getElem? h2⟩)⟩⟩)
 have IHH:=aA IH;clear h hp hf IH;obtain⟨LV,hLV⟩:∃LV:Array Value,LV=#[.slice A n c,.slice A1 n1 c1,.slice A2 n2 c2,.slice A3 n3 c3,.slice A4 n4 c4]:=⟨_,rfl⟩;have B0:=aA ((aB w (.cells #[.slice A n c,.slice A1 n1 c1,.slice A2 n2 c2,.slice A3 n3 c3,.slice A4 n4 c4] 222)).alloc (by simp) (.cells #[.int .i64 0,.int .i64 0,.slice none 0 0] 71));have X0:=aA (show Box ((w.alloc (.cells #[.slice A n c,.slice A1 n1 c1,.slice A2 n2 c2,.slice A3 n3 c3,.slice A4 n4 c4] 222)).alloc (.cells #[.int .i64 0,.int .i64 0,.slice none 0 0] 71)) w.heap.size 222 LV from by subst hLV;exact(Box.new w _ _).old _);have X1:=aA (show Box ((w.alloc (.cells #[.slice A n c,.slice A1 n1 c1,.slice A2 n2 c2,.slice A3 n3 c3,.slice A4 n4 c4] 222)).alloc (.cells #[.int .i64 0,.int .i64 0,.slice none 0 0] 71)) (w.heap.size+1) 71 #[.int .i64 0,.int .i64 0,.slice none 0 0]from Box.newAt (by simp) _ _);have HLV:=aA hLV;clear hLV;go_enter Tryz.func131,Tryz.ntmps131
 go_upto_region 1 with fail
 generalize ((w.alloc (.cells #[.slice A n c,.slice A1 n1 c1,.slice A2 n2 c2,.slice A3 n3 c3,.slice A4 n4 c4] 222)).alloc (.cells #[.int .i64 0,.int .i64 0,.slice none 0 0] 71))=w1 at *
 have x0:w1.cell? ⟨w.heap.size,0,none⟩=some (.slice A n c):=(X0.o.cell 0).trans (by rw[HLV.o];rfl);have x1:w1.cell? ⟨w.heap.size,1,none⟩=some (.slice A1 n1 c1):=(X0.o.cell 1).trans (by rw[HLV.o];rfl);have x2:w1.cell? ⟨w.heap.size,2,none⟩=some (.slice A2 n2 c2):=(X0.o.cell 2).trans (by rw[HLV.o];rfl);have x3:w1.cell? ⟨w.heap.size,3,none⟩=some (.slice A3 n3 c3):=(X0.o.cell 3).trans (by rw[HLV.o];rfl);have x4:w1.cell? ⟨w.heap.size,4,none⟩=some (.slice A4 n4 c4):=(X0.o.cell 4).trans (by rw[HLV.o];rfl);have CL:=aA (zR (H.o.keep B0.o) OK.o.1 OK.o.2 (by rw[←H.o.ip.i1.len];exact NN.o.2.1) (by rw[←H.o.ip.i4.len];exact DJ HSP.o HFU.o.1));go_wp2_with fail
 refine CL.o.mono ?_;rintro e w2 ⟨b,bm,q,rfl,xb,mb,hb2⟩;have LF2:=aA (show LdF w2 b bm (gQ p)from⟨xb,q,mb⟩);have LT2:=aA (And.intro (And.intro xb.lt mb.lt) hb2.size);have D2:=aA (B0.o.trans (hb2.mono B0.o.size));have B3:=aA (aB w2 (.cells #[ldV b] 197));have TB:=aA (Box.new w2 #[ldV b] 197);have D3:=aA (D2.o.trans (B3.o.mono D2.o.size));have X2:=aA ((X0.o.keep hb2).keep B3.o);have X3:=aA ((X1.o.keep hb2).keep B3.o);have y0:w2.cell? ⟨w.heap.size,0,none⟩=some (.slice A n c):=((X0.o.keep hb2).cell 0).trans (by rw[HLV.o];rfl);clear x0 x1 x2 x3 x4 xb mb hb2 CL;go_upto_region 2 with fail
 clear y0;have HS3:=aA (show(w2.alloc (.cells #[ldV b] 197)).heap.size=w2.heap.size+1 by simp);generalize hw3:w2.alloc (.cells #[ldV b] 197)=w3 at *
 clear hw3;have x1:w3.cell? ⟨w.heap.size,1,none⟩=some (.slice A1 n1 c1):=(X2.o.cell 1).trans (by rw[HLV.o];rfl);have CG:=aA (mU (H.o.keep D3.o).ip.i1 (by rw[←H.o.ip.i1.len];exact NN.o.2.1) NN.o.2.2 (Pv OK.o.1 TB.o (LF2.o.keep B3.o)));go_wp2_with fail
 refine CG.o.mono ?_;rintro e w4 ⟨vo,m,rfl,hm,rg,hG,hb4⟩;have ML:=aA (show(eF (eE (gQ p)) p.labels).length=m from aC.len rg);have RG:=aA rg;have GR:=aA hG;have HM:=aA hm;have B4:=aA hb4;have D4:=aA (D3.o.trans (hb4.mono D3.o.size));have X4:=aA (X2.o.keep hb4);have X5:=aA (X3.o.keep hb4);have TB4:=aA (TB.o.keep hb4);have LF4:=aA ((LF2.o.keep B3.o).keep hb4);clear x1 hG hb4 hm CG;by_cases hlt:m<2
 ·have hmi:(m:Int)<2:=by omega
  have NO:=aA (show ¬Gy p by unfold Gy;rw[ML.o];omega);obtain⟨AG,cG,rfl,_⟩:=jT.lists rg (by omega);clear rg hlt;have BA:=aA (show fJ (fun k=>w4.heap.size≤k) (f+3) w4 (.agg #[.int .i64 0,.int .i64 0,.slice none 0 0]) eV from⟨none,0,0,rfl,Sl.nil0,fun h=>absurd h (by omega)⟩);have hgt:=X5.o.lt;obtain⟨u0,u1,u2⟩:=X5.o.three;have fz:=fun j=>X5.o.frozen j
  have W5:=aA (d9 (w:=w) BA.o X5.o (Below.refl _ _) D4.o (by omega) (by omega));clear hgt;go_wp2
  generalize (((w4.setCell ⟨w.heap.size+1,0,none⟩ (.int .i64 0)).setCell ⟨w.heap.size+1,1,none⟩ (.int .i64 0)).setCell ⟨w.heap.size+1,2,none⟩ (.slice none 0 0))=w5 at *
  obtain⟨z0,z1,z2⟩:=W5.o.1.three;exact bodyPost_ret (v:=.tuple #[.agg #[.int .i64 0,.int .i64 0,.slice none 0 0],.bool false]) (by simp[results,Tryz.results131,go_sem,z0,z1,z2]) rfl (CUT.o.2 _ NO.o W5.o.2.1 W5.o.2.2)
 ·have hmi:¬(m:Int)<2:=by omega
  have YES:=aA (show Gy p by unfold Gy;rw[ML.o];omega);obtain⟨g,cap,rfl,hgB,hgl⟩:∃g cap,vo=.slice (some ⟨g,0,none⟩) m cap∧w3.heap.size≤g∧g<w4.heap.size:=by
   obtain⟨cells,o1,_⟩:=rg;exact o1.form (by omega)
  have RF:=aA (show j6 w4 w3.heap.size w3.heap.size g m cap (fun k=>((eF (eE (gQ p)) p.labels)[k]?).getD [])from by
   have e:=Vb (eF (eE (gQ p)) p.labels);rw[ML.o]at e;show aC _ _ _ _ _ _ _ (Gv _ m)
   rw[e];exact RG.o)
  have tr:=fun a b c (_:a∈p.labels) (hb:b∈p.labels) (_:c∈p.labels) h1 h2=>Gt HSP.o a b c hb h1 h2
  have CS:=aA (rS (R:=ltG (gQ p)) (S:=fun x=>x∈eF (eE (gQ p)) p.labels) RF.o HM.o
   ⟨fun x y hx hy hne=>On GR.o hx hy hne,fun x y z hx hy hz h1 h2=>Oo tr GR.o hx hy hz h1 h2⟩
   (by have:=Vd (GR.o.nodup);rwa[ML.o]at this)
   (KQ (b:=b) (bm:=bm) (fun x hx=>⟨GR.o.ne x hx,fun a ha=>OK.o.1 a (GR.o.sub x hx a ha)⟩) TB4.o LF4.o (by have:=HS3.o;omega) (by have:=HS3.o;have:=LT2.o.1;omega) (by have:=HS3.o;have:=LT2.o.1;omega)))
  have HGB:=aA (And.intro hgB hgl);clear rg hlt tr hgB hgl;go_wp2_with fail
  refine CS.o.mono ?_;rintro e w5 ⟨⟨y,rfl⟩,⟨q2,r1,r2,r3,r4⟩,hg5⟩;have EO:=aA (show VL (gQ p) (eF (eE (gQ p)) p.labels)=Gv q2 m from by
   have:=RV GR.o (q:=q2);rw[ML.o]at this;exact this r2 r3 r4)
  have hgw:∀k,some g=some k→w.heap.size+2≤k:=fun k hk=>by
   injection hk with hk;have:=HGB.o.1;have:=HS3.o;have:=X1.o.lt;have h9:w1.heap.size≤w2.heap.size:=LT2.o.2;omega
  have D5:=aA (show Below w.heap.size w w5 from D4.o.grown hg5 D4.o.size (fun k hk=>by have:=hgw k hk;omega));have X6:=aA (X4.o.grown hg5 (fun e=>by have:=hgw _ e;omega));have X7:=aA (X5.o.grown hg5 (fun e=>by have:=hgw _ e;omega));obtain⟨AM,cM,eM,il5⟩:=jT.lists r1 (by have:=HM.o;omega);injection eM with eM1 _ eM2;subst eM1 eM2;have x0:w5.cell? ⟨w.heap.size,0,none⟩=some (.slice A n c):=(X6.o.cell 0).trans (by rw[HLV.o];rfl);have x1:w5.cell? ⟨w.heap.size,1,none⟩=some (.slice A1 n1 c1):=(X6.o.cell 1).trans (by rw[HLV.o];rfl);have x2:w5.cell? ⟨w.heap.size,2,none⟩=some (.slice A2 n2 c2):=(X6.o.cell 2).trans (by rw[HLV.o];rfl);have x3:w5.cell? ⟨w.heap.size,3,none⟩=some (.slice A3 n3 c3):=(X6.o.cell 3).trans (by rw[HLV.o];rfl);have x4:w5.cell? ⟨w.heap.size,4,none⟩=some (.slice A4 n4 c4):=(X6.o.cell 4).trans (by rw[HLV.o];rfl);have CP:=aA (qQ IHH.o (H.o.keep D5.o) il5 3 (fun gx hgx=>HFU.o.onto HSP.o YES.o (by
   obtain⟨k,hk,rfl⟩:=List.mem_map.1 hgx;exact r2.mem k (List.mem_range.1 hk))) HM.o NN.o.1)
  rw[show(aW.mk 3 0 ((Gv q2 m).map fun g=>aP f (eP log g)))=zY f log p by unfold zY;rw[EO.o]]at CP;clear r1 r2 r3 r4 hg5 il5 hgw CS;go_wp2_with fail
  refine CP.o.mono ?_;rintro e w6 ⟨v6,rfl,⟨A6,n6,c6,rfl,s6,p6⟩,hb6⟩;have X6:=aA (X7.o.keep hb6);have BA:=aA (show fJ (fun k=>w5.heap.size≤k) (f+3) w6 (.agg #[.int .i64 (zY f log p).kind,.int .i64 (zY f log p).label,.slice A6 n6 c6]) (zY f log p)from⟨A6,n6,c6,rfl,s6,p6⟩);generalize (zY f log p).kind=kd3 at *
  generalize (zY f log p).label=lb3 at *
  have D6:=aA hb6;have hgt:=X7.o.lt;obtain⟨u0,u1,u2⟩:=X6.o.three;have fz:=fun j=>X6.o.frozen j
  have W7:=aA (d9 (w:=w) BA.o X6.o D6.o D5.o (by omega) (by omega));clear s6 p6 hb6 hgt CP;go_wp2
  generalize (((w6.setCell ⟨w.heap.size+1,0,none⟩ (.int .i64 kd3)).setCell ⟨w.heap.size+1,1,none⟩ (.int .i64 lb3)).setCell ⟨w.heap.size+1,2,none⟩ (.slice A6 n6 c6))=w7 at *
  obtain⟨z0,z1,z2⟩:=W7.o.1.three;exact bodyPost_ret (v:=.tuple #[.agg #[.int .i64 kd3,.int .i64 lb3,.slice A6 n6 c6],.bool true]) (by simp[results,Tryz.results131,go_sem,z0,z1,z2]) rfl (CUT.o.1 _ YES.o W7.o.2.1 W7.o.2.2)
theorem oP {f:Nat}(IH:vN f){w:World}{A A1 A2 A3 A4:OAd}{n c n1 c1 n2 c2 n3 c3 n4 c4:Nat}{log:LLi}{p:aU}(h:IP w A A1 A2 A3 A4 n c n1 c1 n2 c2 n3 c3 n4 c4 log p)(hp:cZ log p)(hf:vK (f+1) log) :
  Calls Tryz.prog 132 #[vM A A1 A2 A3 A4 n c n1 c1 n2 c2 n3 c3 n4 c4] w (zX (f+3) (rT p) (mZ f log p) w):=by
 have CUT:=aA (IR (f+3) (rT p) (mZ f log p) w);have H:=aA h;have HSP:=aA hp;have HFU:=aA hf;have NN:=aA (show n≤60∧p.labels.length≤26∧p.labels.Pairwise (·< ·)from⟨by rw[←h.il.len];exact hf.n,mW hp.1.1 (hp.lab hf.1),hp.1.1⟩);have OK:=aA (show(∀a∈p.labels,okI a)∧(∀q∈p.behind,okP q)from⟨hp.lab hf.1,fun q hq=>by
  obtain⟨t,ht,k,h1,h2⟩:=(hp.2.2.2.2 q).1 hq;exact⟨hp.lab hf.1 q.1 ((hp.1.2 _).2 ⟨t,ht,List.mem_of_getElem? h1⟩),hp.lab hf.1 q.2 ((hp.1.2 _).2 ⟨t,ht,List.mem_of_getElem? h2⟩)⟩⟩)
 have IHH:=aA IH;clear h hp hf IH;obtain⟨LV,hLV⟩:∃LV:Array Value,LV=#[.slice A n c,.slice A1 n1 c1,.slice A2 n2 c2,.slice A3 n3 c3,.slice A4 n4 c4]:=⟨_,rfl⟩;have B0:=aA ((aB w (.cells #[.slice A n c,.slice A1 n1 c1,.slice A2 n2 c2,.slice A3 n3 c3,.slice A4 n4 c4] 222)).alloc (by simp) (.cells #[.int .i64 0,.int .i64 0,.slice none 0 0] 71));have X0:=aA (show Box ((w.alloc (.cells #[.slice A n c,.slice A1 n1 c1,.slice A2 n2 c2,.slice A3 n3 c3,.slice A4 n4 c4] 222)).alloc (.cells #[.int .i64 0,.int .i64 0,.slice none 0 0] 71)) w.heap.size 222 LV from by subst hLV;exact(Box.new w _ _).old _);have X1:=aA (show Box ((w.alloc (.cells #[.slice A n c,.slice A1 n1 c1,.slice A2 n2 c2,.slice A3 n3 c3,.slice A4 n4 c4] 222)).alloc (.cells #[.int .i64 0,.int .i64 0,.slice none 0 0] 71)) (w.heap.size+1) 71 #[.int .i64 0,.int .i64 0,.slice none 0 0]from Box.newAt (by simp) _ _);have HLV:=aA hLV;clear hLV;go_enter Tryz.func132,Tryz.ntmps132
 go_upto_region 1 with fail
 generalize ((w.alloc (.cells #[.slice A n c,.slice A1 n1 c1,.slice A2 n2 c2,.slice A3 n3 c3,.slice A4 n4 c4] 222)).alloc (.cells #[.int .i64 0,.int .i64 0,.slice none 0 0] 71))=w1 at *
 have x0:w1.cell? ⟨w.heap.size,0,none⟩=some (.slice A n c):=(X0.o.cell 0).trans (by rw[HLV.o];rfl);have x1:w1.cell? ⟨w.heap.size,1,none⟩=some (.slice A1 n1 c1):=(X0.o.cell 1).trans (by rw[HLV.o];rfl);have x2:w1.cell? ⟨w.heap.size,2,none⟩=some (.slice A2 n2 c2):=(X0.o.cell 2).trans (by rw[HLV.o];rfl);have x3:w1.cell? ⟨w.heap.size,3,none⟩=some (.slice A3 n3 c3):=(X0.o.cell 3).trans (by rw[HLV.o];rfl);have x4:w1.cell? ⟨w.heap.size,4,none⟩=some (.slice A4 n4 c4):=(X0.o.cell 4).trans (by rw[HLV.o];rfl);have CG:=aA (mU (H.o.keep B0.o).ip.i1 (by rw[←H.o.ip.i1.len];exact NN.o.2.1) NN.o.2.2 (KJ p.labels (H.o.keep B0.o) (by rw[←HLV.o];exact X0.o)));go_wp2_with fail
 refine CG.o.mono ?_;rintro e w2 ⟨vo,m,rfl,hm,rg,hG,hb2⟩;have ML:=aA (show(eF (mV p) p.labels).length=m from aC.len rg);obtain⟨AG,cG,rfl,ig⟩:=jT.lists rg (by omega);have FV:=aA (show Value.func (.func 176) #[] #[]=Value.func (.func 176) #[] #[]from rfl);have B3:=aA (aB w2 (.cells #[.func (.func 176) #[] #[]] 38));have TB:=aA (Box.new w2 #[.func (.func 176) #[] #[]] 38);have D3:=aA ((B0.o.trans (hb2.mono B0.o.size)).trans (B3.o.mono (Nat.le_trans B0.o.size hb2.size)));have IG:=aA (Sl.keep bH.kept ig B3.o);have HM:=aA hm;have GR:=aA hG;have X2:=aA ((X0.o.keep hb2).keep B3.o);have X3:=aA ((X1.o.keep hb2).keep B3.o);clear x0 x1 x2 x3 x4 rg hG hb2 hm ig CG;go_upto_region 3 with fail
 generalize w2.alloc (.cells #[.func (.func 176) #[] #[]] 38)=w3 at *
 by_cases hlt:m<2
 ·have hmi:(m:Int)<2:=by omega
  have NO:=aA (show ¬rT p by unfold rT;rw[ML.o];omega);clear hlt;have BA:=aA (show fJ (fun k=>w3.heap.size≤k) (f+3) w3 (.agg #[.int .i64 0,.int .i64 0,.slice none 0 0]) eV from⟨none,0,0,rfl,Sl.nil0,fun h=>absurd h (by omega)⟩);have hgt:=X3.o.lt;obtain⟨u0,u1,u2⟩:=X3.o.three;have fz:=fun j=>X3.o.frozen j
  have W5:=aA (d9 (w:=w) BA.o X3.o (Below.refl _ _) D3.o (by omega) (by omega));clear hgt;go_wp2
  generalize (((w3.setCell ⟨w.heap.size+1,0,none⟩ (.int .i64 0)).setCell ⟨w.heap.size+1,1,none⟩ (.int .i64 0)).setCell ⟨w.heap.size+1,2,none⟩ (.slice none 0 0))=w5 at *
  obtain⟨z0,z1,z2⟩:=W5.o.1.three;exact bodyPost_ret (v:=.tuple #[.agg #[.int .i64 0,.int .i64 0,.slice none 0 0],.bool false]) (by simp[results,Tryz.results132,go_sem,z0,z1,z2]) rfl (CUT.o.2 _ NO.o W5.o.2.1 W5.o.2.2)
 ·have hmi:¬(m:Int)<2:=by omega
  have TWO:=aA (show 2≤(eF (mV p) p.labels).length by rw[ML.o];omega);have CC:=aA (mS IG.o (DG (bx:=w.heap.size) (bf:=w2.heap.size) (H.o.keep D3.o) (by rw[←HLV.o];exact X2.o) TB.o));obtain⟨v,hv⟩:∃v,(eF (mV p) p.labels).any (KU p)=v:=⟨_,rfl⟩;have HV:=aA hv;rw[hv]at CC;clear hlt hv;cases v
  ·have YES:=aA (show rT p from⟨TWO.o,by
    rw[List.all_eq_true];intro g hg;have:=List.any_eq_false.1 HV.o g hg;unfold KU at this;cases h1:nX g p.first <;> cases h2:nX g p.last <;> simp[h1,h2]at this ⊢⟩)
   go_wp2_with fail
   refine CC.o.mono ?_;rintro e w5 ⟨rfl,hb5⟩;have D5:=aA (D3.o.trans (hb5.mono D3.o.size));have X6:=aA (X2.o.keep hb5);have X7:=aA (X3.o.keep hb5);have IG5:=aA (Sl.keep bH.kept IG.o hb5);have x0:w5.cell? ⟨w.heap.size,0,none⟩=some (.slice A n c):=(X6.o.cell 0).trans (by rw[HLV.o];rfl);have x1:w5.cell? ⟨w.heap.size,1,none⟩=some (.slice A1 n1 c1):=(X6.o.cell 1).trans (by rw[HLV.o];rfl);have x2:w5.cell? ⟨w.heap.size,2,none⟩=some (.slice A2 n2 c2):=(X6.o.cell 2).trans (by rw[HLV.o];rfl);have x3:w5.cell? ⟨w.heap.size,3,none⟩=some (.slice A3 n3 c3):=(X6.o.cell 3).trans (by rw[HLV.o];rfl);have x4:w5.cell? ⟨w.heap.size,4,none⟩=some (.slice A4 n4 c4):=(X6.o.cell 4).trans (by rw[HLV.o];rfl);have CP:=aA (qQ IHH.o (H.o.keep D5.o) IG5.o 5 (fun gx hgx=>HFU.o.onto HSP.o TWO.o hgx) HM.o NN.o.1);rw[show(aW.mk 5 0 ((eF (mV p) p.labels).map fun g=>aP f (eP log g)))=mZ f log p from rfl]at CP;clear hb5 CC;go_wp2_with fail
   refine CP.o.mono ?_;rintro e w6 ⟨v6,rfl,⟨A6,n6,c6,rfl,s6,p6⟩,hb6⟩;have X6:=aA (X7.o.keep hb6);have BA:=aA (show fJ (fun k=>w5.heap.size≤k) (f+3) w6 (.agg #[.int .i64 (mZ f log p).kind,.int .i64 (mZ f log p).label,.slice A6 n6 c6]) (mZ f log p)from⟨A6,n6,c6,rfl,s6,p6⟩);generalize (mZ f log p).kind=kd3 at *
   generalize (mZ f log p).label=lb3 at *
   have D6:=aA hb6;have hgt:=X7.o.lt;obtain⟨u0,u1,u2⟩:=X6.o.three;have fz:=fun j=>X6.o.frozen j
   have W7:=aA (d9 (w:=w) BA.o X6.o D6.o D5.o (by omega) (by omega));clear s6 p6 hb6 hgt CP;go_wp2
   generalize (((w6.setCell ⟨w.heap.size+1,0,none⟩ (.int .i64 kd3)).setCell ⟨w.heap.size+1,1,none⟩ (.int .i64 lb3)).setCell ⟨w.heap.size+1,2,none⟩ (.slice A6 n6 c6))=w7 at *
   obtain⟨z0,z1,z2⟩:=W7.o.1.three;exact bodyPost_ret (v:=.tuple #[.agg #[.int .i64 kd3,.int .i64 lb3,.slice A6 n6 c6],.bool true]) (by simp[results,Tryz.results132,go_sem,z0,z1,z2]) rfl (CUT.o.1 _ YES.o W7.o.2.1 W7.o.2.2)
  ·have NO:=aA (show ¬rT p from fun h=>by
    obtain⟨g,hg,hw⟩:=List.any_eq_true.1 HV.o;have:=List.all_eq_true.1 h.2 g hg;unfold KU at hw;cases h1:nX g p.first <;> cases h2:nX g p.last <;> simp[h1,h2]at this hw)
   go_wp2_with fail
   refine CC.o.mono ?_;rintro e w5 ⟨rfl,hb5⟩;have D5:=aA (D3.o.trans (hb5.mono D3.o.size));have X7:=aA (X3.o.keep hb5);clear hb5 CC;have BA:=aA (show fJ (fun k=>w5.heap.size≤k) (f+3) w5 (.agg #[.int .i64 0,.int .i64 0,.slice none 0 0]) eV from⟨none,0,0,rfl,Sl.nil0,fun h=>absurd h (by omega)⟩);have hgt:=X7.o.lt;obtain⟨u0,u1,u2⟩:=X7.o.three;have fz:=fun j=>X7.o.frozen j
   have W5:=aA (d9 (w:=w) BA.o X7.o (Below.refl _ _) D5.o (by omega) (by omega));clear hgt;go_wp2
   generalize (((w5.setCell ⟨w.heap.size+1,0,none⟩ (.int .i64 0)).setCell ⟨w.heap.size+1,1,none⟩ (.int .i64 0)).setCell ⟨w.heap.size+1,2,none⟩ (.slice none 0 0))=w5 at *
   obtain⟨z0,z1,z2⟩:=W5.o.1.three;exact bodyPost_ret (v:=.tuple #[.agg #[.int .i64 0,.int .i64 0,.slice none 0 0],.bool false]) (by simp[results,Tryz.results132,go_sem,z0,z1,z2]) rfl (CUT.o.2 _ NO.o W5.o.2.1 W5.o.2.2)
def Wl (log:LLi)(A:OAd)(n c:Nat)(w:World)(e:Ending)(w':World):Prop :=
 ∃(p:aU) (A1 A2 A3 A4:OAd) (n1 c1 n2 c2 n3 c3 n4 c4:Nat),e=.returned (vM A A1 A2 A3 A4 n c n1 c1 n2 c2 n3 c3 n4 c4)∧IP w' A A1 A2 A3 A4 n c n1 c1 n2 c2 n3 c3 n4 c4 log p∧cZ log p∧Below w.heap.size w w'
theorem Box.set5m {w:World}{b ty:Nat}{u0 u1 u2 u3 u4:Value}(h:Box w b ty #[u0,u1,u2,u3,u4])(v0 v1 v2 v3 v4:Value):Box (((((w.setCell ⟨b,0,none⟩ v0).setCell ⟨b,1,none⟩ v1).setCell ⟨b,2,none⟩ v2).setCell ⟨b,3,none⟩ v3).setCell ⟨b,4,none⟩ v4) b ty #[v0,v1,v2,v3,v4]:=by
 have:=((((h.set 0 v0).set 1 v1).set 2 v2).set 3 v3).set 4 v4;simpa using this
theorem KV (w:World)(b:Nat)(v0 v1 v2 v3 v4:Value):w.grownBy (((((w.setCell ⟨b,0,none⟩ v0).setCell ⟨b,1,none⟩ v1).setCell ⟨b,2,none⟩ v2).setCell ⟨b,3,none⟩ v3).setCell ⟨b,4,none⟩ v4) (some b) :=
 ((nR w b v0 v1 v2).trans (cR _ b 3 v3)).trans (cR _ b 4 v4)
theorem Gz {P:Nat→Prop}{w:World}{d:Nat}{k1 l1 k2 l2:Int}{S1 S2:OAd}{m1 d1 m2 d2:Nat}{T1 T2:aW}(h1:fJ P d w (.agg #[.int .i64 k1,.int .i64 l1,.slice S1 m1 d1]) T1)(h2:fJ P d w (.agg #[.int .i64 k2,.int .i64 l2,.slice S2 m2 d2]) T2) :
  Sl (oM P (d+1)) 3 (w.alloc (.cells #[.int .i64 k1,.int .i64 l1,.slice S1 m1 d1,.int .i64 k2,.int .i64 l2,.slice S2 m2 d2] 71)) (some ⟨w.heap.size,0,none⟩) 2 2 [T1,T2]:=by
 have bb:=aB w (.cells #[.int .i64 k1,.int .i64 l1,.slice S1 m1 d1,.int .i64 k2,.int .i64 l2,.slice S2 m2 d2] 71);have hb:=Box.new w #[.int .i64 k1,.int .i64 l1,.slice S1 m1 d1,.int .i64 k2,.int .i64 l2,.slice S2 m2 d2] 71;obtain⟨A,n,c,e,s,p⟩:=h1.keep bb;obtain⟨A',n',c',e',s',p'⟩:=h2.keep bb;simp only[Value.agg.injEq,Array.mk.injEq,List.cons.injEq,Value.int.injEq,Value.slice.injEq,true_and,and_true]at e e';obtain⟨a1,a2,a3,a4,a5⟩:=e;obtain⟨b1,b2,b3,b4,b5⟩:=e';subst a3 a4 a5 b3 b4 b5;refine⟨rfl,Nat.le_refl _,by simp[maxLen],by omega,fun h=>(by cases h),fun _=>⟨w.heap.size,0,rfl,hb.lt,fun i x hx=>?_⟩⟩;match i,hx with
 | 0,hx =>
  injection hx with hx;subst hx;refine⟨vs3 (.int .i64 k1) (.int .i64 l1) (.slice S1 m1 d1),fun j hj=>?_,by rw[a1];rfl,by rw[a2];rfl,S1,m1,d1,rfl,s,p⟩;rw[show 0+(0*3+j)=j by omega,hb.cell j];match j,hj with
  | 0,_=>rfl
  | 1,_=>rfl
  | 2,_=>rfl
 | 1,hx =>
  injection hx with hx;subst hx;refine⟨vs3 (.int .i64 k2) (.int .i64 l2) (.slice S2 m2 d2),fun j hj=>?_,by rw[b1];rfl,by rw[b2];rfl,S2,m2,d2,rfl,s',p'⟩;rw[show 0+(1*3+j)=3+j by omega,hb.cell (3+j)];match j,hj with
  | 0,_=>rfl
  | 1,_=>rfl
  | 2,_=>rfl
 | i+2,hx=>simp at hx
theorem KY {w:World}{A:OAd}{m d b ty:Nat}{l:LIn}{cs:Array Value}(i:aJ w A m d l)(x:Box w b ty cs)(hcs:∀(j:Nat) (z:Int),cs[j]?≠some (Value.int .i64 z))(hm:0<m):∀a,A=some a→a.block≠b:=fun a ha e=>by
 obtain⟨b',off,y,rfl,_,_,q⟩:=aJ.get i hm;injection ha with ha;subst ha;change b'=b at e
 subst e;rw[x.cell]at q;exact hcs _ _ q
theorem GF {w:World}{A:OAd}{m d b ty:Nat}{l:List (Int×Int)}{cs:Array Value}(i:wT w A m d l)(x:Box w b ty cs)(hcs:∀(j:Nat) (z:Int),cs[j]?≠some (Value.int .i64 z))(hm:0<m):∀a,A=some a→a.block≠b:=fun a ha e=>by
 obtain⟨b',off,t,vs,rfl,_,_,hc,e0,_⟩:=Sl.get i hm;injection ha with ha;subst ha;change b'=b at e
 subst e;have:=hc 0 (by omega);rw[x.cell,e0]at this;exact hcs _ _ this
theorem KZ {w:World}{A:OAd}{n c:Nat}{log:LLi}(h:bT w A n c log)(h0:cP log=0) :
  Calls Tryz.prog 126 #[.slice A n c] w (Wl log A n c w):=by
 have B0:=aA (aB w (.cells #[.slice none 0 0,.slice none 0 0,.slice none 0 0,.slice none 0 0,.slice none 0 0] 222));have X0:=aA (Box.new w #[.slice none 0 0,.slice none 0 0,.slice none 0 0,.slice none 0 0,.slice none 0 0] 222);have H:=aA (Sl.keep bH.kept h B0.o);have H0:=aA h0;have HW:=aA h;have CO:=aA (vG (Sl.keep bH.kept h B0.o));clear h h0;go_enter Tryz.func126,Tryz.ntmps126
 go_upto_region 1 with fail
 generalize hw1:w.alloc (.cells #[.slice none 0 0,.slice none 0 0,.slice none 0 0,.slice none 0 0,.slice none 0 0] 222)=w1 at *
 clear hw1;go_wp2_with fail
 refine CO.o.mono ?_;rintro e w2 ⟨p,er,A1,A2,A3,A4,n1,c1,n2,c2,n3,c3,n4,c4,hof,rfl,i1,i2,i3,i4,hb2⟩;have SP:=aA (show cZ log p from by have:=hof.2;rwa[if_pos H0.o]at this);have BB:=aA (aB w2 (.cells #[.slice A1 n1 c1,.slice A2 n2 c2,.slice A3 n3 c3,.slice A4 n4 c4] 220));have B2:=aA (hb2.trans (BB.o.mono hb2.size));have LI:=aA (show IP (w2.alloc (.cells #[.slice A1 n1 c1,.slice A2 n2 c2,.slice A3 n3 c3,.slice A4 n4 c4] 220)) A A1 A2 A3 A4 n c n1 c1 n2 c2 n3 c3 n4 c4 log p from⟨Sl.keep bH.kept H.o B2.o,(PrI.mk i1 i2 i3 i4).keep BB.o⟩);have TB:=aA (Box.new w2 #[.slice A1 n1 c1,.slice A2 n2 c2,.slice A3 n3 c3,.slice A4 n4 c4] 220);have X2:=aA (X0.o.keep B2.o);clear hof i1 i2 i3 i4 hb2 CO;go_upto_region 2 with fail
 generalize w2.alloc (.cells #[.slice A1 n1 c1,.slice A2 n2 c2,.slice A3 n3 c3,.slice A4 n4 c4] 220)=w3 at *
 generalize w2.heap.size=bx at *
 obtain⟨t0,t1,t2,t3⟩:=TB.o.four;have x0:=X2.o.cell 0;have x1:=X2.o.cell 1;have x2:=X2.o.cell 2;have x3:=X2.o.cell 3;have x4:=X2.o.cell 4;have fz:=fun j=>X2.o.frozen j
 have X3:=aA (X2.o.set5m (.slice A n c) (.slice A1 n1 c1) (.slice A2 n2 c2) (.slice A3 n3 c3) (.slice A4 n4 c4));have G3:=aA (KV w3 w.heap.size (.slice A n c) (.slice A1 n1 c1) (.slice A2 n2 c2) (.slice A3 n3 c3) (.slice A4 n4 c4));go_wp2
 generalize (((((w3.setCell ⟨w.heap.size,0,none⟩ (.slice A n c)).setCell ⟨w.heap.size,1,none⟩ (.slice A1 n1 c1)).setCell ⟨w.heap.size,2,none⟩ (.slice A2 n2 c2)).setCell ⟨w.heap.size,3,none⟩ (.slice A3 n3 c3)).setCell ⟨w.heap.size,4,none⟩ (.slice A4 n4 c4))=w4 at *
 have z0:=X3.o.cell 0;have z1:=X3.o.cell 1;have z2:=X3.o.cell 2;have z3:=X3.o.cell 3;have z4:=X3.o.cell 4;have D4:Below w.heap.size w w4:=(B0.o.trans (B2.o.mono B0.o.size)).grown G3.o (Nat.le_trans B0.o.size B2.o.size) (fun k hk=>by injection hk with hk;omega);have hcs:∀(j:Nat) (z:Int),(#[.slice none 0 0,.slice none 0 0,.slice none 0 0,.slice none 0 0,.slice none 0 0]:Array Value)[j]?≠some (Value.int .i64 z):=fun j z e=>by
  match j,e with
  | 0,e=>cases e
  | 1,e=>cases e
  | 2,e=>cases e
  | 3,e=>cases e
  | 4,e=>cases e
  | j+5,e=>simp at e
 have ne:∀{A:OAd} {m d:Nat} {l:LIn},aJ w3 A m d l→aJ w4 A m d l:=fun i=>aJ.same i G3.o.size (fun b off e hn hb=>G3.o.block b hb (fun e2=>by
  injection e2 with e2;exact KY i X2.o hcs hn _ e e2))
 have np:wT w4 A4 n4 c4 p.behind:=LI.o.ip.i4.far G3.o.size (fun hn a ha=>by
  obtain⟨b,off,e,hb,_⟩:=LI.o.ip.i4.cells hn;have h1:=GF LI.o.ip.i4 X2.o hcs hn a ha;rw[e]at ha;injection ha with ha;subst ha;exact G3.o.block b hb (fun e2=>h1 (by injection e2))) (fun _ _ r=>r)
 exact bodyPost_ret (v:=.agg #[.slice A n c,.slice A1 n1 c1,.slice A2 n2 c2,.slice A3 n3 c3,.slice A4 n4 c4]) (by simp[results,Tryz.results126,go_sem,z0,z1,z2,z3,z4]) rfl ⟨p,A1,A2,A3,A4,n1,c1,n2,c2,n3,c3,n4,c4,rfl,⟨Sl.keep bH.kept HW.o D4,ne LI.o.ip.i1,ne LI.o.ip.i2,ne LI.o.ip.i3,np⟩,SP.o,D4⟩
end Go.Proofs.YtfmnagcglhlicaaGreat
