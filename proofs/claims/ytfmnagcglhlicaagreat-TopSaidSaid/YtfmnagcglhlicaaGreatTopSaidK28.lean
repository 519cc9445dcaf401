/- Texts melted into one: mine's order and beside. Conditions: the log reads as lists and prints; what is found with less fuel is told. | mine's of; two blocks side by side in a row. Conditions: the log reads as lists and nothing is wrong with it. -/
import Derived.Test.YtfmnagcglhlicaaGreatTopSaidK27
import Derived.Laws.EntriesVeiled
set_option maxRecDepth 100000
namespace Go.Proofs.YtfmnagcglhlicaaGreat
open Go.RowKit Go.Maps
theorem ZiK {α:Type} [DecidableEq α]:∀(l all:List α),l.Nodup→(∀x∈l,x∈all)→l.length≤all.length
 | [],_,_,_=>by simp
 | a::l,all,hn,hs=>by
  have ha:a∈all:=hs a (by simp)
  have hal:a∉l:=(List.nodup_cons.1 hn).1
  have:=ZiK l (all.erase a) (List.nodup_cons.1 hn).2 (fun x hx=>(List.mem_erase_of_ne (a:=x) (b:=a) (by intro e;subst e;exact hal hx)).2 (hs x (by simp[hx])))
  rw[List.length_erase_of_mem ha]at this
  have:0<all.length:=List.length_pos_of_mem ha
  simp only[List.length_cons]
  omega
theorem Zkk {log:List (List Int)}{p:Zas}(hp:Zbc log p)(h0:Za6 log=0):p.behind.length≤1000:=by
 have h:=ZiK p.behind (ZoH ((List.range 26).map fun i:Nat=>(i:Int)+1)) (hp.2.2.2.1.imp (fun{a b} hab e=>by subst e;unfold Zd5 at hab;omega)) (fun q hq=>by
  obtain⟨t,ht,k,h1,h2⟩:=(hp.2.2.2.2 q).1 hq
  have a1:=hp.lab h0 q.1 ((hp.1.2 _).2 ⟨t,ht,List.mem_of_getElem? h1⟩)
  have a2:=hp.lab h0 q.2 ((hp.1.2 _).2 ⟨t,ht,List.mem_of_getElem? h2⟩)
  have m:∀a:Int,1≤a∧a≤26→a∈(List.range 26).map fun i:Nat=>(i:Int)+1:=fun a ha=>List.mem_map.2 ⟨(a-1).toNat,by rw[List.mem_range];omega,by omega⟩
  exact ZfB.2 ⟨m _ a1,m _ a2⟩)
 have e:(ZoH ((List.range 26).map fun i:Nat=>(i:Int)+1)).length=676:=by decide +kernel
 omega
def Zjq (d:Nat)(P:Prop)(T:Zat)(w:World)(e:Ending)(w':World):Prop:=(P→ZfK d true T w e w')∧(¬P→ZfK d false ZbV w e w')
theorem ZmG (d:Nat)(P:Prop)(T:Zat)(w:World):(∀{w':World} (v:Value),P→Zb6 (fun k=>w.heap.size≤k) d w' v T→Below w.heap.size w w'→Zjq d P T w (.returned (.tuple #[v,.bool true])) w')∧(∀{w':World} (v:Value),¬P→Zb6 (fun k=>w.heap.size≤k) d w' v ZbV→Below w.heap.size w w'→Zjq d P T w (.returned (.tuple #[v,.bool false])) w') :=
 ⟨fun v hP hb hw=>⟨fun _=>⟨v,rfl,hb,hw⟩,fun h=>absurd hP h⟩,fun v hP hb hw=>⟨fun h=>absurd h hP,fun _=>⟨v,rfl,hb,hw⟩⟩⟩
noncomputable def Zjr (f:Nat)(log:List (List Int))(p:Zas):Zat:=.mk 3 0 ((ZsX (Zcq p) (ZbG (ZbE (Zcq p)) p.labels)).map fun g=>Zao f (ZbO log g))
noncomputable def Zes (f:Nat)(log:List (List Int))(p:Zas):Zat:=.mk 5 0 ((ZbG (Zeo p) p.labels).map fun g=>Zao f (ZbO log g))
def ZlG (p:Zas):Prop:=2≤(ZbG (ZbE (Zcq p)) p.labels).length
def Zf7 (p:Zas):Prop:=2≤(ZbG (Zeo p) p.labels).length∧((ZbG (Zeo p) p.labels).all fun g=>ZeP g p.first&&ZeP g p.last)=true
theorem Zsp (G:List (List Int)):ZlD (fun k=>(G[k]?).getD []) G.length=G:=by
 apply List.ext_getElem?
 intro k
 by_cases hk:k<G.length
 ·rw[ZbA hk,List.getElem?_eq_getElem hk];rfl
 ·rw[List.getElem?_eq_none (by rw[ZfH];omega),List.getElem?_eq_none (by omega)]
theorem Zsq {G:List (List Int)}(h:G.Nodup):Zbp (fun x=>x∈G) (fun k=>(G[k]?).getD []) G.length where
 mem:=fun k hk=>by simp only[List.getElem?_eq_getElem hk,Option.getD_some];exact List.getElem_mem hk
 inj:=fun i j hi hj e=>by
  simp only[List.getElem?_eq_getElem hi,List.getElem?_eq_getElem hj,Option.getD_some]at e
  rcases Nat.lt_trichotomy i j with h1|h1|h1
  ·exact absurd e (List.pairwise_iff_getElem.1 h i j hi hj h1)
  ·exact h1
  ·exact absurd e.symm (List.pairwise_iff_getElem.1 h j i hj hi h1)
theorem ZqR {lds:Int→Int→Bool}{ls:List Int}{G:List (List Int)}(hG:Zhl (ZbE lds) ls G){q:Nat→List Int}(h1:Zbp (fun x=>x∈G) q G.length)(h2:ZbY (ltG lds) q 0 G.length)(h3:Zbl q (fun k=>(G[k]?).getD []) 0 G.length):ZsX lds G=ZlD q G.length:=by
 refine Zo0 hG ?_ ?_ (fun x=>?_)
 ·unfold ZlD
  refine List.nodup_iff_pairwise_ne.2 (List.pairwise_map.2 ((List.pairwise_lt_range).imp_of_mem (fun{a b} ha hb hab e=>?_)))
  have:=h1.inj a b (List.mem_range.1 ha) (List.mem_range.1 hb) e
  omega
 ·unfold ZlD
  exact List.pairwise_map.2 ((List.pairwise_lt_range).imp_of_mem (fun{a b} ha hb hab=>h2 a b (Nat.zero_le _) hab (List.mem_range.1 hb)))
 ·unfold ZlD
  rw[List.mem_map]
  constructor
  ·rintro⟨k,hk,rfl⟩
   exact h1.mem k (List.mem_range.1 hk)
  ·intro hx
   obtain⟨k,hk,rfl⟩:=List.getElem_of_mem hx
   obtain⟨j,_,j2,e⟩:=h3.all k (Nat.zero_le _) hk
   exact⟨j,List.mem_range.2 j2,by rw[e];simp[List.getElem?_eq_getElem hk]⟩
set_option maxHeartbeats 4000000 in
theorem ZfL {f:Nat}(IH:ZhG f){w:World}{A A1 A2 A3 A4:Option Addr}{n c n1 c1 n2 c2 n3 c3 n4 c4:Nat}{log:List (List Int)}{p:Zas}(h:ZmE w A A1 A2 A3 A4 n c n1 c1 n2 c2 n3 c3 n4 c4 log p)(hp:Zbc log p)(hf:ZhD (f+1) log) :
  Calls Tryz.prog 131 #[ZhF A A1 A2 A3 A4 n c n1 c1 n2 c2 n3 c3 n4 c4] w (Zjq (f+3) (ZlG p) (Zjr f log p) w):=by
 have CUT:=Zaa (ZmG (f+3) (ZlG p) (Zjr f log p) w)
 have H:=Zaa h
 have HSP:=Zaa hp
 have HFU:=Zaa hf
 have NN:=Zaa (show n≤60∧p.labels.length≤26∧p.labels.Pairwise (·< ·)from⟨by rw[←h.il.len];exact hf.n,Zep hp.1.1 (hp.lab hf.1),hp.1.1⟩)
 have OK:=Zaa (show(∀a∈p.labels,okI a)∧(∀q∈p.behind,okP q)from⟨hp.lab hf.1,fun q hq=>by
  obtain⟨t,ht,k,h1,h2⟩:=(hp.2.2.2.2 q).1 hq
  exact⟨hp.lab hf.1 q.1 ((hp.1.2 _).2 ⟨t,ht,List.mem_of_getElem? h1⟩),hp.lab hf.1 q.2 ((hp.1.2 _).2 ⟨t,ht,List.mem_of_getElem? h2⟩)⟩⟩)
 have IHH:=Zaa IH
 clear h hp hf IH
 obtain⟨LV,hLV⟩:∃LV:Array Value,LV=#[.slice A n c,.slice A1 n1 c1,.slice A2 n2 c2,.slice A3 n3 c3,.slice A4 n4 c4]:=⟨_,rfl⟩
 have B0:=Zaa ((Zab w (.cells #[.slice A n c,.slice A1 n1 c1,.slice A2 n2 c2,.slice A3 n3 c3,.slice A4 n4 c4] 222)).alloc (by simp) (.cells #[.int .i64 0,.int .i64 0,.slice none 0 0] 71))
 have X0:=Zaa (show Box ((w.alloc (.cells #[.slice A n c,.slice A1 n1 c1,.slice A2 n2 c2,.slice A3 n3 c3,.slice A4 n4 c4] 222)).alloc (.cells #[.int .i64 0,.int .i64 0,.slice none 0 0] 71)) w.heap.size 222 LV from by subst hLV;exact(Box.new w _ _).old _)
 have X1:=Zaa (show Box ((w.alloc (.cells #[.slice A n c,.slice A1 n1 c1,.slice A2 n2 c2,.slice A3 n3 c3,.slice A4 n4 c4] 222)).alloc (.cells #[.int .i64 0,.int .i64 0,.slice none 0 0] 71)) (w.heap.size+1) 71 #[.int .i64 0,.int .i64 0,.slice none 0 0]from Box.newAt (by simp) _ _)
 have HLV:=Zaa hLV
 clear hLV
 go_enter Tryz.func131,Tryz.ntmps131
 go_upto_region 1 with fail
 generalize ((w.alloc (.cells #[.slice A n c,.slice A1 n1 c1,.slice A2 n2 c2,.slice A3 n3 c3,.slice A4 n4 c4] 222)).alloc (.cells #[.int .i64 0,.int .i64 0,.slice none 0 0] 71))=w1 at *
 have x0:w1.cell? ⟨w.heap.size,0,none⟩=some (.slice A n c):=(X0.out.cell 0).trans (by rw[HLV.out];rfl)
 have x1:w1.cell? ⟨w.heap.size,1,none⟩=some (.slice A1 n1 c1):=(X0.out.cell 1).trans (by rw[HLV.out];rfl)
 have x2:w1.cell? ⟨w.heap.size,2,none⟩=some (.slice A2 n2 c2):=(X0.out.cell 2).trans (by rw[HLV.out];rfl)
 have x3:w1.cell? ⟨w.heap.size,3,none⟩=some (.slice A3 n3 c3):=(X0.out.cell 3).trans (by rw[HLV.out];rfl)
 have x4:w1.cell? ⟨w.heap.size,4,none⟩=some (.slice A4 n4 c4):=(X0.out.cell 4).trans (by rw[HLV.out];rfl)
 have CL:=Zaa (Zjk (H.out.keep B0.out) OK.out.1 OK.out.2 (by rw[←H.out.ip.i1.len];exact NN.out.2.1) (by rw[←H.out.ip.i4.len];exact Zkk HSP.out HFU.out.1))
 go_wp2_with fail
 refine CL.out.mono ?_
 rintro e w2 ⟨b,bm,q,rfl,xb,mb,hb2⟩
 have LF2:=Zaa (show LdF w2 b bm (Zcq p)from⟨xb,q,mb⟩)
 have LT2:=Zaa (And.intro (And.intro xb.lt mb.lt) hb2.size)
 have D2:=Zaa (B0.out.trans (hb2.mono B0.out.size))
 have B3:=Zaa (Zab w2 (.cells #[ldV b] 197))
 have TB:=Zaa (Box.new w2 #[ldV b] 197)
 have D3:=Zaa (D2.out.trans (B3.out.mono D2.out.size))
 have X2:=Zaa ((X0.out.keep hb2).keep B3.out)
 have X3:=Zaa ((X1.out.keep hb2).keep B3.out)
 have y0:w2.cell? ⟨w.heap.size,0,none⟩=some (.slice A n c):=((X0.out.keep hb2).cell 0).trans (by rw[HLV.out];rfl)
 clear x0 x1 x2 x3 x4 xb mb hb2 CL
 go_upto_region 2 with fail
 clear y0
 have HS3:=Zaa (show(w2.alloc (.cells #[ldV b] 197)).heap.size=w2.heap.size+1 by simp)
 generalize hw3:w2.alloc (.cells #[ldV b] 197)=w3 at *
 clear hw3
 have x1:w3.cell? ⟨w.heap.size,1,none⟩=some (.slice A1 n1 c1):=(X2.out.cell 1).trans (by rw[HLV.out];rfl)
 have CG:=Zaa (Zen (H.out.keep D3.out).ip.i1 (by rw[←H.out.ip.i1.len];exact NN.out.2.1) NN.out.2.2 (Zo9 OK.out.1 TB.out (LF2.out.keep B3.out)))
 go_wp2_with fail
 refine CG.out.mono ?_
 rintro e w4 ⟨vo,m,rfl,hm,rg,hG,hb4⟩
 have ML:=Zaa (show(ZbG (ZbE (Zcq p)) p.labels).length=m from Zad.len rg)
 have RG:=Zaa rg
 have GR:=Zaa hG
 have HM:=Zaa hm
 have B4:=Zaa hb4
 have D4:=Zaa (D3.out.trans (hb4.mono D3.out.size))
 have X4:=Zaa (X2.out.keep hb4)
 have X5:=Zaa (X3.out.keep hb4)
 have TB4:=Zaa (TB.out.keep hb4)
 have LF4:=Zaa ((LF2.out.keep B3.out).keep hb4)
 clear x1 hG hb4 hm CG
 by_cases hlt:m<2
 ·have hmi:(m:Int)<2:=by omega
  have NO:=Zaa (show ¬ZlG p by unfold ZlG;rw[ML.out];omega)
  obtain⟨AG,cG,rfl,_⟩:=Zc9.lists rg (by omega)
  clear rg hlt
  have BA:=Zaa (show Zb6 (fun k=>w4.heap.size≤k) (f+3) w4 (.agg #[.int .i64 0,.int .i64 0,.slice none 0 0]) ZbV from⟨none,0,0,rfl,Sl.nil0,fun h=>absurd h (by omega)⟩)
  have hgt:=X5.out.lt
  obtain⟨u0,u1,u2⟩:=X5.out.three
  have fz:=fun j=>X5.out.frozen j
  have W5:=Zaa (Zbz (w:=w) BA.out X5.out (Below.refl _ _) D4.out (by omega) (by omega))
  clear hgt
  go_wp2
  generalize (((w4.setCell ⟨w.heap.size+1,0,none⟩ (.int .i64 0)).setCell ⟨w.heap.size+1,1,none⟩ (.int .i64 0)).setCell ⟨w.heap.size+1,2,none⟩ (.slice none 0 0))=w5 at *
  obtain⟨z0,z1,z2⟩:=W5.out.1.three
  exact bodyPost_ret (v:=.tuple #[.agg #[.int .i64 0,.int .i64 0,.slice none 0 0],.bool false]) (by simp[results,Tryz.results131,go_sem,z0,z1,z2]) rfl (CUT.out.2 _ NO.out W5.out.2.1 W5.out.2.2)
 ·have hmi:¬(m:Int)<2:=by omega
  have YES:=Zaa (show ZlG p by unfold ZlG;rw[ML.out];omega)
  obtain⟨g,cap,rfl,hgB,hgl⟩:∃g cap,vo=.slice (some ⟨g,0,none⟩) m cap∧w3.heap.size≤g∧g<w4.heap.size:=by
   obtain⟨cells,o1,_⟩:=rg
   exact o1.form (by omega)
  have RF:=Zaa (show Zdh w4 w3.heap.size w3.heap.size g m cap (fun k=>((ZbG (ZbE (Zcq p)) p.labels)[k]?).getD [])from by
   have e:=Zsp (ZbG (ZbE (Zcq p)) p.labels)
   rw[ML.out]at e
   show Zad _ _ _ _ _ _ _ (ZlD _ m)
   rw[e]
   exact RG.out)
  have tr:=fun a b c (_:a∈p.labels) (hb:b∈p.labels) (_:c∈p.labels) h1 h2=>ZlB HSP.out a b c hb h1 h2
  have CS:=Zaa (Zf6 (R:=ltG (Zcq p)) (S:=fun x=>x∈ZbG (ZbE (Zcq p)) p.labels) RF.out HM.out
   ⟨fun x y hx hy hne=>ZoL GR.out hx hy hne,fun x y z hx hy hz h1 h2=>ZoM tr GR.out hx hy hz h1 h2⟩
   (by have:=Zsq (GR.out.nodup);rwa[ML.out]at this)
   (Znx (b:=b) (bm:=bm) (fun x hx=>⟨GR.out.ne x hx,fun a ha=>OK.out.1 a (GR.out.sub x hx a ha)⟩) TB4.out LF4.out (by have:=HS3.out;omega) (by have:=HS3.out;have:=LT2.out.1;omega) (by have:=HS3.out;have:=LT2.out.1;omega)))
  have HGB:=Zaa (And.intro hgB hgl)
  clear rg hlt tr hgB hgl
  go_wp2_with fail
  refine CS.out.mono ?_
  rintro e w5 ⟨⟨y,rfl⟩,⟨q2,r1,r2,r3,r4⟩,hg5⟩
  have EO:=Zaa (show ZsX (Zcq p) (ZbG (ZbE (Zcq p)) p.labels)=ZlD q2 m from by
   have:=ZqR GR.out (q:=q2)
   rw[ML.out]at this
   exact this r2 r3 r4)
  have hgw:∀k,some g=some k→w.heap.size+2≤k:=fun k hk=>by
   injection hk with hk
   have:=HGB.out.1
   have:=HS3.out
   have:=X1.out.lt
   have h9:w1.heap.size≤w2.heap.size:=LT2.out.2
   omega
  have D5:=Zaa (show Below w.heap.size w w5 from D4.out.grown hg5 D4.out.size (fun k hk=>by have:=hgw k hk;omega))
  have X6:=Zaa (X4.out.grown hg5 (fun e=>by have:=hgw _ e;omega))
  have X7:=Zaa (X5.out.grown hg5 (fun e=>by have:=hgw _ e;omega))
  obtain⟨AM,cM,eM,il5⟩:=Zc9.lists r1 (by have:=HM.out;omega)
  injection eM with eM1 _ eM2
  subst eM1 eM2
  have x0:w5.cell? ⟨w.heap.size,0,none⟩=some (.slice A n c):=(X6.out.cell 0).trans (by rw[HLV.out];rfl)
  have x1:w5.cell? ⟨w.heap.size,1,none⟩=some (.slice A1 n1 c1):=(X6.out.cell 1).trans (by rw[HLV.out];rfl)
  have x2:w5.cell? ⟨w.heap.size,2,none⟩=some (.slice A2 n2 c2):=(X6.out.cell 2).trans (by rw[HLV.out];rfl)
  have x3:w5.cell? ⟨w.heap.size,3,none⟩=some (.slice A3 n3 c3):=(X6.out.cell 3).trans (by rw[HLV.out];rfl)
  have x4:w5.cell? ⟨w.heap.size,4,none⟩=some (.slice A4 n4 c4):=(X6.out.cell 4).trans (by rw[HLV.out];rfl)
  have CP:=Zaa (ZfG IHH.out (H.out.keep D5.out) il5 3 (fun gx hgx=>HFU.out.onto HSP.out YES.out (by
   obtain⟨k,hk,rfl⟩:=List.mem_map.1 hgx
   exact r2.mem k (List.mem_range.1 hk))) HM.out NN.out.1)
  rw[show(Zat.mk 3 0 ((ZlD q2 m).map fun g=>Zao f (ZbO log g)))=Zjr f log p by unfold Zjr;rw[EO.out]]at CP
  clear r1 r2 r3 r4 hg5 il5 hgw CS
  go_wp2_with fail
  refine CP.out.mono ?_
  rintro e w6 ⟨v6,rfl,⟨A6,n6,c6,rfl,s6,p6⟩,hb6⟩
  have X6:=Zaa (X7.out.keep hb6)
  have BA:=Zaa (show Zb6 (fun k=>w5.heap.size≤k) (f+3) w6 (.agg #[.int .i64 (Zjr f log p).kind,.int .i64 (Zjr f log p).label,.slice A6 n6 c6]) (Zjr f log p)from⟨A6,n6,c6,rfl,s6,p6⟩)
  generalize (Zjr f log p).kind=kd3 at *
  generalize (Zjr f log p).label=lb3 at *
  have D6:=Zaa hb6
  have hgt:=X7.out.lt
  obtain⟨u0,u1,u2⟩:=X6.out.three
  have fz:=fun j=>X6.out.frozen j
  have W7:=Zaa (Zbz (w:=w) BA.out X6.out D6.out D5.out (by omega) (by omega))
  clear s6 p6 hb6 hgt CP
  go_wp2
  generalize (((w6.setCell ⟨w.heap.size+1,0,none⟩ (.int .i64 kd3)).setCell ⟨w.heap.size+1,1,none⟩ (.int .i64 lb3)).setCell ⟨w.heap.size+1,2,none⟩ (.slice A6 n6 c6))=w7 at *
  obtain⟨z0,z1,z2⟩:=W7.out.1.three
  exact bodyPost_ret (v:=.tuple #[.agg #[.int .i64 kd3,.int .i64 lb3,.slice A6 n6 c6],.bool true]) (by simp[results,Tryz.results131,go_sem,z0,z1,z2]) rfl (CUT.out.1 _ YES.out W7.out.2.1 W7.out.2.2)
set_option maxHeartbeats 4000000 in
theorem Ze0 {f:Nat}(IH:ZhG f){w:World}{A A1 A2 A3 A4:Option Addr}{n c n1 c1 n2 c2 n3 c3 n4 c4:Nat}{log:List (List Int)}{p:Zas}(h:ZmE w A A1 A2 A3 A4 n c n1 c1 n2 c2 n3 c3 n4 c4 log p)(hp:Zbc log p)(hf:ZhD (f+1) log) :
  Calls Tryz.prog 132 #[ZhF A A1 A2 A3 A4 n c n1 c1 n2 c2 n3 c3 n4 c4] w (Zjq (f+3) (Zf7 p) (Zes f log p) w):=by
 have CUT:=Zaa (ZmG (f+3) (Zf7 p) (Zes f log p) w)
 have H:=Zaa h
 have HSP:=Zaa hp
 have HFU:=Zaa hf
 have NN:=Zaa (show n≤60∧p.labels.length≤26∧p.labels.Pairwise (·< ·)from⟨by rw[←h.il.len];exact hf.n,Zep hp.1.1 (hp.lab hf.1),hp.1.1⟩)
 have OK:=Zaa (show(∀a∈p.labels,okI a)∧(∀q∈p.behind,okP q)from⟨hp.lab hf.1,fun q hq=>by
  obtain⟨t,ht,k,h1,h2⟩:=(hp.2.2.2.2 q).1 hq
  exact⟨hp.lab hf.1 q.1 ((hp.1.2 _).2 ⟨t,ht,List.mem_of_getElem? h1⟩),hp.lab hf.1 q.2 ((hp.1.2 _).2 ⟨t,ht,List.mem_of_getElem? h2⟩)⟩⟩)
 have IHH:=Zaa IH
 clear h hp hf IH
 obtain⟨LV,hLV⟩:∃LV:Array Value,LV=#[.slice A n c,.slice A1 n1 c1,.slice A2 n2 c2,.slice A3 n3 c3,.slice A4 n4 c4]:=⟨_,rfl⟩
 have B0:=Zaa ((Zab w (.cells #[.slice A n c,.slice A1 n1 c1,.slice A2 n2 c2,.slice A3 n3 c3,.slice A4 n4 c4] 222)).alloc (by simp) (.cells #[.int .i64 0,.int .i64 0,.slice none 0 0] 71))
 have X0:=Zaa (show Box ((w.alloc (.cells #[.slice A n c,.slice A1 n1 c1,.slice A2 n2 c2,.slice A3 n3 c3,.slice A4 n4 c4] 222)).alloc (.cells #[.int .i64 0,.int .i64 0,.slice none 0 0] 71)) w.heap.size 222 LV from by subst hLV;exact(Box.new w _ _).old _)
 have X1:=Zaa (show Box ((w.alloc (.cells #[.slice A n c,.slice A1 n1 c1,.slice A2 n2 c2,.slice A3 n3 c3,.slice A4 n4 c4] 222)).alloc (.cells #[.int .i64 0,.int .i64 0,.slice none 0 0] 71)) (w.heap.size+1) 71 #[.int .i64 0,.int .i64 0,.slice none 0 0]from Box.newAt (by simp) _ _)
 have HLV:=Zaa hLV
 clear hLV
 go_enter Tryz.func132,Tryz.ntmps132
 go_upto_region 1 with fail
 generalize ((w.alloc (.cells #[.slice A n c,.slice A1 n1 c1,.slice A2 n2 c2,.slice A3 n3 c3,.slice A4 n4 c4] 222)).alloc (.cells #[.int .i64 0,.int .i64 0,.slice none 0 0] 71))=w1 at *
 have x0:w1.cell? ⟨w.heap.size,0,none⟩=some (.slice A n c):=(X0.out.cell 0).trans (by rw[HLV.out];rfl)
 have x1:w1.cell? ⟨w.heap.size,1,none⟩=some (.slice A1 n1 c1):=(X0.out.cell 1).trans (by rw[HLV.out];rfl)
 have x2:w1.cell? ⟨w.heap.size,2,none⟩=some (.slice A2 n2 c2):=(X0.out.cell 2).trans (by rw[HLV.out];rfl)
 have x3:w1.cell? ⟨w.heap.size,3,none⟩=some (.slice A3 n3 c3):=(X0.out.cell 3).trans (by rw[HLV.out];rfl)
 have x4:w1.cell? ⟨w.heap.size,4,none⟩=some (.slice A4 n4 c4):=(X0.out.cell 4).trans (by rw[HLV.out];rfl)
 have CG:=Zaa (Zen (H.out.keep B0.out).ip.i1 (by rw[←H.out.ip.i1.len];exact NN.out.2.1) NN.out.2.2 (Znw p.labels (H.out.keep B0.out) (by rw[←HLV.out];exact X0.out)))
 go_wp2_with fail
 refine CG.out.mono ?_
 rintro e w2 ⟨vo,m,rfl,hm,rg,hG,hb2⟩
 have ML:=Zaa (show(ZbG (Zeo p) p.labels).length=m from Zad.len rg)
 obtain⟨AG,cG,rfl,ig⟩:=Zc9.lists rg (by omega)
 have FV:=Zaa (show Value.func (.func 176) #[] #[]=Value.func (.func 176) #[] #[]from rfl)
 have B3:=Zaa (Zab w2 (.cells #[.func (.func 176) #[] #[]] 38))
 have TB:=Zaa (Box.new w2 #[.func (.func 176) #[] #[]] 38)
 have D3:=Zaa ((B0.out.trans (hb2.mono B0.out.size)).trans (B3.out.mono (Nat.le_trans B0.out.size hb2.size)))
 have IG:=Zaa (Sl.keep ZaL.kept ig B3.out)
 have HM:=Zaa hm
 have GR:=Zaa hG
 have X2:=Zaa ((X0.out.keep hb2).keep B3.out)
 have X3:=Zaa ((X1.out.keep hb2).keep B3.out)
 clear x0 x1 x2 x3 x4 rg hG hb2 hm ig CG
 go_upto_region 3 with fail
 generalize w2.alloc (.cells #[.func (.func 176) #[] #[]] 38)=w3 at *
 by_cases hlt:m<2
 ·have hmi:(m:Int)<2:=by omega
  have NO:=Zaa (show ¬Zf7 p by unfold Zf7;rw[ML.out];omega)
  clear hlt
  have BA:=Zaa (show Zb6 (fun k=>w3.heap.size≤k) (f+3) w3 (.agg #[.int .i64 0,.int .i64 0,.slice none 0 0]) ZbV from⟨none,0,0,rfl,Sl.nil0,fun h=>absurd h (by omega)⟩)
  have hgt:=X3.out.lt
  obtain⟨u0,u1,u2⟩:=X3.out.three
  have fz:=fun j=>X3.out.frozen j
  have W5:=Zaa (Zbz (w:=w) BA.out X3.out (Below.refl _ _) D3.out (by omega) (by omega))
  clear hgt
  go_wp2
  generalize (((w3.setCell ⟨w.heap.size+1,0,none⟩ (.int .i64 0)).setCell ⟨w.heap.size+1,1,none⟩ (.int .i64 0)).setCell ⟨w.heap.size+1,2,none⟩ (.slice none 0 0))=w5 at *
  obtain⟨z0,z1,z2⟩:=W5.out.1.three
  exact bodyPost_ret (v:=.tuple #[.agg #[.int .i64 0,.int .i64 0,.slice none 0 0],.bool false]) (by simp[results,Tryz.results132,go_sem,z0,z1,z2]) rfl (CUT.out.2 _ NO.out W5.out.2.1 W5.out.2.2)
 ·have hmi:¬(m:Int)<2:=by omega
  have TWO:=Zaa (show 2≤(ZbG (Zeo p) p.labels).length by rw[ML.out];omega)
  have CC:=Zaa (Zel IG.out (Zkj (bx:=w.heap.size) (bf:=w2.heap.size) (H.out.keep D3.out) (by rw[←HLV.out];exact X2.out) TB.out))
  obtain⟨v,hv⟩:∃v,(ZbG (Zeo p) p.labels).any (ZnA p)=v:=⟨_,rfl⟩
  have HV:=Zaa hv
  rw[hv]at CC
  clear hlt hv
  cases v
  ·have YES:=Zaa (show Zf7 p from⟨TWO.out,by
    rw[List.all_eq_true]
    intro g hg
    have:=List.any_eq_false.1 HV.out g hg
    unfold ZnA at this
    cases h1:ZeP g p.first <;> cases h2:ZeP g p.last <;> simp[h1,h2]at this ⊢⟩)
   go_wp2_with fail
   refine CC.out.mono ?_
   rintro e w5 ⟨rfl,hb5⟩
   have D5:=Zaa (D3.out.trans (hb5.mono D3.out.size))
   have X6:=Zaa (X2.out.keep hb5)
   have X7:=Zaa (X3.out.keep hb5)
   have IG5:=Zaa (Sl.keep ZaL.kept IG.out hb5)
   have x0:w5.cell? ⟨w.heap.size,0,none⟩=some (.slice A n c):=(X6.out.cell 0).trans (by rw[HLV.out];rfl)
   have x1:w5.cell? ⟨w.heap.size,1,none⟩=some (.slice A1 n1 c1):=(X6.out.cell 1).trans (by rw[HLV.out];rfl)
   have x2:w5.cell? ⟨w.heap.size,2,none⟩=some (.slice A2 n2 c2):=(X6.out.cell 2).trans (by rw[HLV.out];rfl)
   have x3:w5.cell? ⟨w.heap.size,3,none⟩=some (.slice A3 n3 c3):=(X6.out.cell 3).trans (by rw[HLV.out];rfl)
   have x4:w5.cell? ⟨w.heap.size,4,none⟩=some (.slice A4 n4 c4):=(X6.out.cell 4).trans (by rw[HLV.out];rfl)
   have CP:=Zaa (ZfG IHH.out (H.out.keep D5.out) IG5.out 5 (fun gx hgx=>HFU.out.onto HSP.out TWO.out hgx) HM.out NN.out.1)
   rw[show(Zat.mk 5 0 ((ZbG (Zeo p) p.labels).map fun g=>Zao f (ZbO log g)))=Zes f log p from rfl]at CP
   clear hb5 CC
   go_wp2_with fail
   refine CP.out.mono ?_
   rintro e w6 ⟨v6,rfl,⟨A6,n6,c6,rfl,s6,p6⟩,hb6⟩
   have X6:=Zaa (X7.out.keep hb6)
   have BA:=Zaa (show Zb6 (fun k=>w5.heap.size≤k) (f+3) w6 (.agg #[.int .i64 (Zes f log p).kind,.int .i64 (Zes f log p).label,.slice A6 n6 c6]) (Zes f log p)from⟨A6,n6,c6,rfl,s6,p6⟩)
   generalize (Zes f log p).kind=kd3 at *
   generalize (Zes f log p).label=lb3 at *
   have D6:=Zaa hb6
   have hgt:=X7.out.lt
   obtain⟨u0,u1,u2⟩:=X6.out.three
   have fz:=fun j=>X6.out.frozen j
   have W7:=Zaa (Zbz (w:=w) BA.out X6.out D6.out D5.out (by omega) (by omega))
   clear s6 p6 hb6 hgt CP
   go_wp2
   generalize (((w6.setCell ⟨w.heap.size+1,0,none⟩ (.int .i64 kd3)).setCell ⟨w.heap.size+1,1,none⟩ (.int .i64 lb3)).setCell ⟨w.heap.size+1,2,none⟩ (.slice A6 n6 c6))=w7 at *
   obtain⟨z0,z1,z2⟩:=W7.out.1.three
   exact bodyPost_ret (v:=.tuple #[.agg #[.int .i64 kd3,.int .i64 lb3,.slice A6 n6 c6],.bool true]) (by simp[results,Tryz.results132,go_sem,z0,z1,z2]) rfl (CUT.out.1 _ YES.out W7.out.2.1 W7.out.2.2)
  ·have NO:=Zaa (show ¬Zf7 p from fun h=>by
    obtain⟨g,hg,hw⟩:=List.any_eq_true.1 HV.out
    have:=List.all_eq_true.1 h.2 g hg
    unfold ZnA at hw
    cases h1:ZeP g p.first <;> cases h2:ZeP g p.last <;> simp[h1,h2]at this hw)
   go_wp2_with fail
   refine CC.out.mono ?_
   rintro e w5 ⟨rfl,hb5⟩
   have D5:=Zaa (D3.out.trans (hb5.mono D3.out.size))
   have X7:=Zaa (X3.out.keep hb5)
   clear hb5 CC
   have BA:=Zaa (show Zb6 (fun k=>w5.heap.size≤k) (f+3) w5 (.agg #[.int .i64 0,.int .i64 0,.slice none 0 0]) ZbV from⟨none,0,0,rfl,Sl.nil0,fun h=>absurd h (by omega)⟩)
   have hgt:=X7.out.lt
   obtain⟨u0,u1,u2⟩:=X7.out.three
   have fz:=fun j=>X7.out.frozen j
   have W5:=Zaa (Zbz (w:=w) BA.out X7.out (Below.refl _ _) D5.out (by omega) (by omega))
   clear hgt
   go_wp2
   generalize (((w5.setCell ⟨w.heap.size+1,0,none⟩ (.int .i64 0)).setCell ⟨w.heap.size+1,1,none⟩ (.int .i64 0)).setCell ⟨w.heap.size+1,2,none⟩ (.slice none 0 0))=w5 at *
   obtain⟨z0,z1,z2⟩:=W5.out.1.three
   exact bodyPost_ret (v:=.tuple #[.agg #[.int .i64 0,.int .i64 0,.slice none 0 0],.bool false]) (by simp[results,Tryz.results132,go_sem,z0,z1,z2]) rfl (CUT.out.2 _ NO.out W5.out.2.1 W5.out.2.2)
def Ztf (log:List (List Int))(A:Option Addr)(n c:Nat)(w:World)(e:Ending)(w':World):Prop :=
 ∃(p:Zas) (A1 A2 A3 A4:Option Addr) (n1 c1 n2 c2 n3 c3 n4 c4:Nat),e=.returned (ZhF A A1 A2 A3 A4 n c n1 c1 n2 c2 n3 c3 n4 c4)∧ZmE w' A A1 A2 A3 A4 n c n1 c1 n2 c2 n3 c3 n4 c4 log p∧Zbc log p∧Below w.heap.size w w'
theorem Box.set5m {w:World}{b ty:Nat}{u0 u1 u2 u3 u4:Value}(h:Box w b ty #[u0,u1,u2,u3,u4])(v0 v1 v2 v3 v4:Value):Box (((((w.setCell ⟨b,0,none⟩ v0).setCell ⟨b,1,none⟩ v1).setCell ⟨b,2,none⟩ v2).setCell ⟨b,3,none⟩ v3).setCell ⟨b,4,none⟩ v4) b ty #[v0,v1,v2,v3,v4]:=by
 have:=((((h.set 0 v0).set 1 v1).set 2 v2).set 3 v3).set 4 v4
 simpa using this
theorem ZnB (w:World)(b:Nat)(v0 v1 v2 v3 v4:Value):w.grownBy (((((w.setCell ⟨b,0,none⟩ v0).setCell ⟨b,1,none⟩ v1).setCell ⟨b,2,none⟩ v2).setCell ⟨b,3,none⟩ v3).setCell ⟨b,4,none⟩ v4) (some b) :=
 ((ZeI w b v0 v1 v2).trans (Zbs _ b 3 v3)).trans (Zbs _ b 4 v4)
theorem ZlH {P:Nat→Prop}{w:World}{d:Nat}{k1 l1 k2 l2:Int}{S1 S2:Option Addr}{m1 d1 m2 d2:Nat}{T1 T2:Zat}(h1:Zb6 P d w (.agg #[.int .i64 k1,.int .i64 l1,.slice S1 m1 d1]) T1)(h2:Zb6 P d w (.agg #[.int .i64 k2,.int .i64 l2,.slice S2 m2 d2]) T2) :
  Sl (ZeX P (d+1)) 3 (w.alloc (.cells #[.int .i64 k1,.int .i64 l1,.slice S1 m1 d1,.int .i64 k2,.int .i64 l2,.slice S2 m2 d2] 71)) (some ⟨w.heap.size,0,none⟩) 2 2 [T1,T2]:=by
 have bb:=Zab w (.cells #[.int .i64 k1,.int .i64 l1,.slice S1 m1 d1,.int .i64 k2,.int .i64 l2,.slice S2 m2 d2] 71)
 have hb:=Box.new w #[.int .i64 k1,.int .i64 l1,.slice S1 m1 d1,.int .i64 k2,.int .i64 l2,.slice S2 m2 d2] 71
 obtain⟨A,n,c,e,s,p⟩:=h1.keep bb
 obtain⟨A',n',c',e',s',p'⟩:=h2.keep bb
 simp only[Value.agg.injEq,Array.mk.injEq,List.cons.injEq,Value.int.injEq,Value.slice.injEq,true_and,and_true]at e e'
 obtain⟨a1,a2,a3,a4,a5⟩:=e
 obtain⟨b1,b2,b3,b4,b5⟩:=e'
 subst a3 a4 a5 b3 b4 b5
 refine⟨rfl,Nat.le_refl _,by simp[maxLen],by omega,fun h=>(by cases h),fun _=>⟨w.heap.size,0,rfl,hb.lt,fun i x hx=>?_⟩⟩
 match i,hx with
 | 0,hx =>
  injection hx with hx
  subst hx
  refine⟨vs3 (.int .i64 k1) (.int .i64 l1) (.slice S1 m1 d1),fun j hj=>?_,by rw[a1];rfl,by rw[a2];rfl,S1,m1,d1,rfl,s,p⟩
  rw[show 0+(0*3+j)=j by omega,hb.cell j]
  match j,hj with
  | 0,_=>rfl
  | 1,_=>rfl
  | 2,_=>rfl
 | 1,hx =>
  injection hx with hx
  subst hx
  refine⟨vs3 (.int .i64 k2) (.int .i64 l2) (.slice S2 m2 d2),fun j hj=>?_,by rw[b1];rfl,by rw[b2];rfl,S2,m2,d2,rfl,s',p'⟩
  rw[show 0+(1*3+j)=3+j by omega,hb.cell (3+j)]
  match j,hj with
  | 0,_=>rfl
  | 1,_=>rfl
  | 2,_=>rfl
 | i+2,hx=>simp at hx
theorem ZnC {w:World}{A:Option Addr}{m d b ty:Nat}{l:List Int}{cs:Array Value}(i:Zam w A m d l)(x:Box w b ty cs)(hcs:∀(j:Nat) (z:Int),cs[j]?≠some (Value.int .i64 z))(hm:0<m):∀a,A=some a→a.block≠b:=fun a ha e=>by
 obtain⟨b',off,y,rfl,_,_,q⟩:=Zam.get i hm
 injection ha with ha
 subst ha
 change b'=b at e
 subst e
 rw[x.cell]at q
 exact hcs _ _ q
theorem ZlI {w:World}{A:Option Addr}{m d b ty:Nat}{l:List (Int×Int)}{cs:Array Value}(i:Zii w A m d l)(x:Box w b ty cs)(hcs:∀(j:Nat) (z:Int),cs[j]?≠some (Value.int .i64 z))(hm:0<m):∀a,A=some a→a.block≠b:=fun a ha e=>by
 obtain⟨b',off,t,vs,rfl,_,_,hc,e0,_⟩:=Sl.get i hm
 injection ha with ha
 subst ha
 change b'=b at e
 subst e
 have:=hc 0 (by omega)
 rw[x.cell,e0]at this
 exact hcs _ _ this
set_option maxHeartbeats 2000000 in
theorem ZnD {w:World}{A:Option Addr}{n c:Nat}{log:List (List Int)}(h:ZaS w A n c log)(h0:Za6 log=0) :
  Calls Tryz.prog 126 #[.slice A n c] w (Ztf log A n c w):=by
 have B0:=Zaa (Zab w (.cells #[.slice none 0 0,.slice none 0 0,.slice none 0 0,.slice none 0 0,.slice none 0 0] 222))
 have X0:=Zaa (Box.new w #[.slice none 0 0,.slice none 0 0,.slice none 0 0,.slice none 0 0,.slice none 0 0] 222)
 have H:=Zaa (Sl.keep ZaL.kept h B0.out)
 have H0:=Zaa h0
 have HW:=Zaa h
 have CO:=Zaa (Zhz (Sl.keep ZaL.kept h B0.out))
 clear h h0
 go_enter Tryz.func126,Tryz.ntmps126
 go_upto_region 1 with fail
 generalize hw1:w.alloc (.cells #[.slice none 0 0,.slice none 0 0,.slice none 0 0,.slice none 0 0,.slice none 0 0] 222)=w1 at *
 clear hw1
 go_wp2_with fail
 refine CO.out.mono ?_
 rintro e w2 ⟨p,er,A1,A2,A3,A4,n1,c1,n2,c2,n3,c3,n4,c4,hof,rfl,i1,i2,i3,i4,hb2⟩
 have SP:=Zaa (show Zbc log p from by have:=hof.2;rwa[if_pos H0.out]at this)
 have BB:=Zaa (Zab w2 (.cells #[.slice A1 n1 c1,.slice A2 n2 c2,.slice A3 n3 c3,.slice A4 n4 c4] 220))
 have B2:=Zaa (hb2.trans (BB.out.mono hb2.size))
 have LI:=Zaa (show ZmE (w2.alloc (.cells #[.slice A1 n1 c1,.slice A2 n2 c2,.slice A3 n3 c3,.slice A4 n4 c4] 220)) A A1 A2 A3 A4 n c n1 c1 n2 c2 n3 c3 n4 c4 log p from⟨Sl.keep ZaL.kept H.out B2.out,(PrI.mk i1 i2 i3 i4).keep BB.out⟩)
 have TB:=Zaa (Box.new w2 #[.slice A1 n1 c1,.slice A2 n2 c2,.slice A3 n3 c3,.slice A4 n4 c4] 220)
 have X2:=Zaa (X0.out.keep B2.out)
 clear hof i1 i2 i3 i4 hb2 CO
 go_upto_region 2 with fail
 generalize w2.alloc (.cells #[.slice A1 n1 c1,.slice A2 n2 c2,.slice A3 n3 c3,.slice A4 n4 c4] 220)=w3 at *
 generalize w2.heap.size=bx at *
 obtain⟨t0,t1,t2,t3⟩:=TB.out.four
 have x0:=X2.out.cell 0
 have x1:=X2.out.cell 1
 have x2:=X2.out.cell 2
 have x3:=X2.out.cell 3
 have x4:=X2.out.cell 4
 have fz:=fun j=>X2.out.frozen j
 have X3:=Zaa (X2.out.set5m (.slice A n c) (.slice A1 n1 c1) (.slice A2 n2 c2) (.slice A3 n3 c3) (.slice A4 n4 c4))
 have G3:=Zaa (ZnB w3 w.heap.size (.slice A n c) (.slice A1 n1 c1) (.slice A2 n2 c2) (.slice A3 n3 c3) (.slice A4 n4 c4))
 go_wp2
 generalize (((((w3.setCell ⟨w.heap.size,0,none⟩ (.slice A n c)).setCell ⟨w.heap.size,1,none⟩ (.slice A1 n1 c1)).setCell ⟨w.heap.size,2,none⟩ (.slice A2 n2 c2)).setCell ⟨w.heap.size,3,none⟩ (.slice A3 n3 c3)).setCell ⟨w.heap.size,4,none⟩ (.slice A4 n4 c4))=w4 at *
 have z0:=X3.out.cell 0
 have z1:=X3.out.cell 1
 have z2:=X3.out.cell 2
 have z3:=X3.out.cell 3
 have z4:=X3.out.cell 4
 have D4:Below w.heap.size w w4:=(B0.out.trans (B2.out.mono B0.out.size)).grown G3.out (Nat.le_trans B0.out.size B2.out.size) (fun k hk=>by injection hk with hk;omega)
 have hcs:∀(j:Nat) (z:Int),(#[.slice none 0 0,.slice none 0 0,.slice none 0 0,.slice none 0 0,.slice none 0 0]:Array Value)[j]?≠some (Value.int .i64 z):=fun j z e=>by
  match j,e with
  | 0,e=>cases e
  | 1,e=>cases e
  | 2,e=>cases e
  | 3,e=>cases e
  | 4,e=>cases e
  | j+5,e=>simp at e
 have ne:∀{A:Option Addr} {m d:Nat} {l:List Int},Zam w3 A m d l→Zam w4 A m d l:=fun i=>Zam.same i G3.out.size (fun b off e hn hb=>G3.out.block b hb (fun e2=>by
  injection e2 with e2
  exact ZnC i X2.out hcs hn _ e e2))
 have np:Zii w4 A4 n4 c4 p.behind:=LI.out.ip.i4.far G3.out.size (fun hn a ha=>by
  obtain⟨b,off,e,hb,_⟩:=LI.out.ip.i4.cells hn
  have h1:=ZlI LI.out.ip.i4 X2.out hcs hn a ha
  rw[e]at ha
  injection ha with ha
  subst ha
  exact G3.out.block b hb (fun e2=>h1 (by injection e2))) (fun _ _ r=>r)
 exact bodyPost_ret (v:=.agg #[.slice A n c,.slice A1 n1 c1,.slice A2 n2 c2,.slice A3 n3 c3,.slice A4 n4 c4]) (by simp[results,Tryz.results126,go_sem,z0,z1,z2,z3,z4]) rfl ⟨p,A1,A2,A3,A4,n1,c1,n2,c2,n3,c3,n4,c4,rfl,⟨Sl.keep ZaL.kept HW.out D4,ne LI.out.ip.i1,ne LI.out.ip.i2,ne LI.out.ip.i3,np⟩,SP.out,D4⟩
end Go.Proofs.YtfmnagcglhlicaaGreat
