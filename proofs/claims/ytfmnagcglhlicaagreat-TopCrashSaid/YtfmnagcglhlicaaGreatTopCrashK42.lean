/- The map of spots in memory. Conditions: the spots are small. | The contract of offer. Conditions: the aligner lies in a box; the spot is small. | The contract of nearest. Conditions: the ali -/
import Derived.Test.YtfmnagcglhlicaaGreatTopCrashK14
import Derived.Maps.RangeWalk
import Derived.Sort.OwnSorted
set_option maxRecDepth 100000
set_option maxHeartbeats 8000000
namespace Go.Proofs.YtfmnagcglhlicaaGreat
open Go.RowKit Go.Maps
def AE (x:wB):Value:=.agg #[.int .i64 x.cost,.int .i64 x.from_.1,.int .i64 x.from_.2,.int .i64 x.kind,.int .i64 x.label,.int .i64 x.tran,.bool x.done]
def Um (x:wB):DataW Unit:=.agg [.lit (.int .i64 x.cost),.lit (.int .i64 x.from_.1),.lit (.int .i64 x.from_.2),.lit (.int .i64 x.kind),.lit (.int .i64 x.label),.lit (.int .i64 x.tran),.lit (.bool x.done)]
theorem Sv {x y:wB}(h:AE x=AE y):x=y:=by
 obtain⟨a,⟨b,c⟩,d,e,f,g⟩:=x;obtain⟨a',⟨b',c'⟩,d',e',f',g'⟩:=y;simp only[AE,Value.agg.injEq,Array.mk.injEq,List.cons.injEq,Value.int.injEq,Value.bool.injEq,true_and,and_true]at h;obtain⟨rfl,rfl,rfl,rfl,rfl,rfl,rfl⟩:=h;rfl
open Classical in
noncomputable def nA (v:Value):Option (DataW Unit×List MemPlace):=if h:∃x,v=AE x then some (Um (Classical.choose h),[])else none
theorem rW (x:wB):nA (AE x)=some (Um x,[]):=by
 have hex:∃y,AE x=AE y:=⟨x,rfl⟩;unfold nA;rw[dif_pos hex,←Sv (Classical.choose_spec hex)]
theorem pO {v:Value}{d:DataW Unit}{ps:List MemPlace}(h:nA v=some (d,ps)):∃x,v=AE x∧d=Um x:=by
 unfold nA at h;split at h
 ·rename_i hex
  simp only[Option.some.injEq,Prod.mk.injEq]at h;exact⟨_,Classical.choose_spec hex,h.1.symm⟩
 ·cases h
theorem qY {x y:wB}(h:Um x=Um y):x=y:=by
 obtain⟨a,⟨b,c⟩,d,e,f,g⟩:=x;obtain⟨a',⟨b',c'⟩,d',e',f',g'⟩:=y;simp[Um]at h;obtain⟨rfl,rfl,rfl,rfl,rfl,rfl,rfl⟩:=h;rfl
def okS (v:Sp):Prop:=(0≤v.1∧v.1≤1000)∧0≤v.2∧v.2≤1000
def kvS (v:Sp):Value:=.agg #[.int .i64 v.1,.int .i64 v.2]
def kkS (v:Sp):Lit:=.string (keyBytes [.int .i64 v.1,.int .i64 v.2])
theorem lT:Keyed Tryz.prog 90:=Keyed.of_law (deep_law_laid Facts.laidOut (m:=2) (by decide) (of_decide_eq_true (by kernel_rfl)) (by kernel_rfl) (by kernel_rfl))
theorem Hg:Tryz.prog.keyType 90=true:=by kernel_rfl
theorem Ea:Tryz.prog.cellsOf 90=2:=by kernel_rfl
theorem Qc:Tryz.prog.cellsOf 3=1:=by kernel_rfl
theorem kJ (p:Sp)(h:okS p):keyOf Tryz.prog 90 (kvS p)=some (kkS p):=by
 have hw1:(Lit.int .i64 p.1).wf=true:=WalkArith.wf_i64 (by unfold okS at h;omega);have hw2:(Lit.int .i64 p.2).wf=true:=WalkArith.wf_i64 (by unfold okS at h;omega);have hsz:∃m,Tryz.prog.types.size+1=m+2:=⟨Tryz.prog.types.size-1,by have:0<Tryz.prog.types.size:=of_decide_eq_true (by kernel_rfl);omega⟩;obtain⟨m,hm⟩:=hsz;unfold keyOf;rw[Tryz.underlying90];simp only[Hg,kvS,Value.formed,Tryz.underlying90,Ea,hm];simp[Program.keyLits,Tryz.underlying90,Ea,Qc,Tryz.underlying3,hw1,hw2,Value.cells,kkS]
theorem z7 {p q:Sp}(hp:okS p)(hq:okS q)(h:kkS p=kkS q):p=q:=by
 have:=lT.inj (kJ p hp) (by rw[h];exact kJ q hq);simp only[kvS,Value.agg.injEq,Array.mk.injEq,List.cons.injEq,Value.int.injEq,true_and,and_true]at this;exact Prod.ext this.1 this.2
def kK:wB:=⟨0,(0,0),0,0,0,false⟩
theorem I8 (w:World):(zeroValue 94).run Tryz.prog w=.ok (AE kK) w:=by
 obtain⟨i,hi,hz,_⟩:=info_parts (show(Tryz.prog.info? 94).map (fun i=>(i.zero,i.size,i.bytes))=some (some (AE kK),7,56)from by kernel_rfl);simp[zeroValue,typeInfo,hi,hz]
def iF (w:World)(b:Nat)(f:SpM)(q:Nat):Prop :=
 (∀v x,f v=some x→okS v)∧∃(D:DataW Unit) (n:Nat),w.ownsMap Tryz.prog 90 nA b n D∧n≤q ∧
  (∀v x,f v=some x→Maps.has D (kkS v)=true∧∀z,D.atKey (kkS v) z=Um x) ∧
  (∀key kl,keyOf Tryz.prog 90 key=some kl→Maps.has D kl=true→∃v x,f v=some x∧kl=kkS v)
section
variable {w w':World} {b q:Nat} {f:SpM}
theorem Qd {H:Type}{P:Program}{k:TypeId}{R:Value→Option (DataW H×List MemPlace)}{n:Nat}{D:DataW H}(h:w.ownsMap P k R b n D)(hb:w'.heap[b]?=w.heap[b]?):w'.ownsMap P k R b n D:=by
 obtain⟨es,clock,h1,h2⟩:=h;exact⟨es,clock,hb.trans h1,h2⟩
theorem iF.made (w:World):iF (w.alloc (.map #[] 0)) w.heap.size (fun _=>none) 0 :=
 ⟨fun v x h=>(by cases h),.map [],0,World.ownsMap_made _ _ _ _,Nat.le_refl _,fun v x h=>(by cases h),fun key kl _ h=>by simp[Maps.has]at h⟩
theorem iF.lt (h:iF w b f q):b<w.heap.size:=by
 obtain⟨_,D,n,h1,_⟩:=h;exact h1.lt
theorem iF.of_block (h:iF w b f q)(hb:w'.heap[b]?=w.heap[b]?):iF w' b f q:=by
 obtain⟨h0,D,n,h1,h2⟩:=h;exact⟨h0,D,n,Qd h1 hb,h2⟩
theorem iF.keep (h:iF w b f q)(hb:Below w.heap.size w w'):iF w' b f q:=h.of_block (hb.block b h.lt)
theorem iF.alloc (h:iF w b f q)(o:Obj):iF (w.alloc o) b f q:=h.of_block (heap_alloc_old w o h.lt)
theorem iF.beside {row:Option Nat}(h:iF w b f q)(hg:w.grownBy w' row)(hne:some b≠row):iF w' b f q:=h.of_block (hg.block b h.lt hne)
theorem iF.mono (h:iF w b f q){q':Nat}(hq:q≤q'):iF w b f q':=by
 obtain⟨h0,D,n,h1,h2,h3⟩:=h;exact⟨h0,D,n,h1,Nat.le_trans h2 hq,h3⟩
theorem iF.look (h:iF w b f q){v:Sp}(hv:okS v):(Instr.lookup 95 (.map (some b)) (kvS v) true).run Tryz.prog w=.ok (.tuple #[AE ((f v).getD kK),.bool (f v).isSome]) w:=by
 obtain⟨h0,D,n,h1,_,h3,h4⟩:=h;obtain⟨y,ps,iW,hR⟩:=h1.look_ok lT Tryz.underlying95 (I8 w) (rW kK) (kJ v hv);rw[iW];obtain⟨x,rfl,e⟩:=pO hR;cases hf:f v with
 | some z =>
  obtain⟨g1,g2⟩:=h3 v z hf;rw[g1];have:=e.symm.trans (g2 _);rw[qY this];rfl
 | none =>
  have hn:Maps.has D (kkS v)=false:=by
   cases hh:Maps.has D (kkS v)
   ·rfl
   ·obtain⟨u,y,hu,e2⟩:=h4 _ _ (kJ v hv) hh;rw[z7 hv (h0 u y hu) e2,hu]at hf;cases hf
  rw[hn];have:=e.symm.trans (Maps.atKey_of_not_has hn _);rw[qY this];rfl
theorem iF.at (h:iF w b f q){v:Sp}(hv:okS v):(Instr.lookup 95 (.map (some b)) (kvS v) false).run Tryz.prog w=.ok (AE ((f v).getD kK)) w:=by
 obtain⟨h0,D,n,h1,_,h3,h4⟩:=h;obtain⟨y,ps,iW,hR⟩:=h1.lookup lT Tryz.underlying95 (I8 w) (rW kK) (kJ v hv);rw[iW];obtain⟨x,rfl,e⟩:=pO hR;cases hf:f v with
 | some z =>
  obtain⟨g1,g2⟩:=h3 v z hf;have:=e.symm.trans (g2 _);rw[qY this];rfl
 | none =>
  have hn:Maps.has D (kkS v)=false:=by
   cases hh:Maps.has D (kkS v)
   ·rfl
   ·obtain⟨u,y,hu,e2⟩:=h4 _ _ (kJ v hv) hh;rw[z7 hv (h0 u y hu) e2,hu]at hf;cases hf
  have:=e.symm.trans (Maps.atKey_of_not_has hn _);rw[qY this];rfl
theorem iF.update (h:iF w b f q){v:Sp}(hv:okS v)(x:wB)(hq:q<maxLen):∃w',(Instr.mapUpdate 95 (.map (some b)) (kvS v) (AE x)).run Tryz.prog w=.ok () w'∧iF w' b (rI f v x) (q+1)∧w.grownBy w' (some b):=by
 obtain⟨h0,D,n,h1,h2,h3,h4⟩:=h;obtain⟨w',iW,r1,r2⟩:=h1.update lT Tryz.underlying95 (Nat.lt_of_le_of_lt h2 hq) (kJ v hv) (rW x);have hm:=h1.isMap;have hk:=lT.key (kJ v hv);refine⟨w',iW,⟨fun u y hu=>?_,D.put (kkS v) (Um x),n+1,r1,by omega,fun u y hu=>?_,fun key kl hkl hh=>?_⟩,r2⟩
 ·unfold rI at hu;split at hu
  ·rename_i e
   rw[e];exact hv
  ·exact h0 u y hu
 ·unfold rI at hu;split at hu
  ·rename_i e
   injection hu with hu;subst e hu;exact⟨Maps.has_put_same hm hk _,fun z=>Maps.atKey_put_same hm hk _ z⟩
  ·rename_i e
   obtain⟨g1,g2⟩:=h3 u y hu;have hne:kkS u≠kkS v:=fun e2=>e (z7 (h0 u y hu) hv e2)
   exact⟨(Maps.has_put_other hne _).trans g1,fun z=>(Maps.atKey_put_other hne _ z).trans (g2 z)⟩
 ·by_cases e:kl=kkS v
  ·exact⟨v,x,jL _ _ _,e⟩
  ·rw[Maps.has_put_other e]at hh;obtain⟨u,y,hu,e2⟩:=h4 key kl hkl hh;exact⟨u,y,by rw[pH (fun e3=>e (by rw[e2,e3]))];exact hu,e2⟩
end
def Xn (w:World)(b:Nat)(v0 v1 v2 v3 v4 v5 v6:Value):World:=((((((w.setCell ⟨b,0,none⟩ v0).setCell ⟨b,1,none⟩ v1).setCell ⟨b,2,none⟩ v2).setCell ⟨b,3,none⟩ v3).setCell ⟨b,4,none⟩ v4).setCell ⟨b,5,none⟩ v5).setCell ⟨b,6,none⟩ v6
theorem Box.laid7 {w:World}{b ty:Nat}{u0 u1 u2 u3 u4 u5 u6:Value}(h:Box w b ty #[u0,u1,u2,u3,u4,u5,u6])(v0 v1 v2 v3 v4 v5 v6:Value):Box (Xn w b v0 v1 v2 v3 v4 v5 v6) b ty #[v0,v1,v2,v3,v4,v5,v6]:=by
 have:=((((((h.set 0 v0).set 1 v1).set 2 v2).set 3 v3).set 4 v4).set 5 v5).set 6 v6;unfold Xn;simpa using this
theorem Lq {B:Nat}{w0 w:World}(h:Below B w0 w){b:Nat}(hb:B≤b)(v0 v1 v2 v3 v4 v5 v6:Value):Below B w0 (Xn w b v0 v1 v2 v3 v4 v5 v6) :=
 ((((((h.setCell (p:=⟨b,0,none⟩) hb _).setCell (p:=⟨b,1,none⟩) hb _).setCell (p:=⟨b,2,none⟩) hb _).setCell (p:=⟨b,3,none⟩) hb _).setCell (p:=⟨b,4,none⟩) hb _).setCell (p:=⟨b,5,none⟩) hb _).setCell (p:=⟨b,6,none⟩) hb _
theorem Box.seven {w:World}{b ty:Nat}{u0 u1 u2 u3 u4 u5 u6:Value}(h:Box w b ty #[u0,u1,u2,u3,u4,u5,u6]):w.cell? ⟨b,0,none⟩=some u0∧w.cell? ⟨b,1,none⟩=some u1∧w.cell? ⟨b,2,none⟩=some u2∧w.cell? ⟨b,3,none⟩=some u3∧w.cell? ⟨b,4,none⟩=some u4∧w.cell? ⟨b,5,none⟩=some u5∧w.cell? ⟨b,6,none⟩=some u6:=⟨h.cell 0,h.cell 1,h.cell 2,h.cell 3,h.cell 4,h.cell 5,h.cell 6⟩
theorem pP {w:World}{ba bm q:Nat}{f:SpM}{cs:Array Value}(X:Box w ba 97 cs)(hcs:cs[5]?=some (.map (some bm)))(M:iF w bm f q){v:Sp}(hv:okS v)(x:wB)(hq:q<1000000000) :
  Calls Tryz.prog 64 #[.pointer (some ⟨ba,0,none⟩),kvS v,AE x] w fun e w'=>(∃y,e=.returned y)∧iF w' bm (j3 f v x) (q+1)∧w.grownBy w' (some bm):=by
 obtain⟨v1,v2⟩:=v;obtain⟨xc,⟨xs,xm⟩,xk,xl,xt,xd⟩:=x;show Calls Tryz.prog 64 #[.pointer (some ⟨ba,0,none⟩),.agg #[.int .i64 v1,.int .i64 v2],.agg #[.int .i64 xc,.int .i64 xs,.int .i64 xm,.int .i64 xk,.int .i64 xl,.int .i64 xt,.bool xd]] w _
 have X0:=aA ((Box.new w #[.int .i64 v1,.int .i64 v2] 90).old (.cells #[.int .i64 xc,.int .i64 xs,.int .i64 xm,.int .i64 xk,.int .i64 xl,.int .i64 xt,.bool xd] 94));have X1:=aA (Box.newAt (w:=w.alloc (.cells #[.int .i64 v1,.int .i64 v2] 90)) (n:=w.heap.size+1) (by simp) #[.int .i64 xc,.int .i64 xs,.int .i64 xm,.int .i64 xk,.int .i64 xl,.int .i64 xt,.bool xd] 94);have B0:=aA ((aB w (.cells #[.int .i64 v1,.int .i64 v2] 90)).alloc (by simp) (.cells #[.int .i64 xc,.int .i64 xs,.int .i64 xm,.int .i64 xk,.int .i64 xl,.int .i64 xt,.bool xd] 94));have XA:=aA (X.keep B0.o);have MA:=aA (M.keep B0.o);have HC:=aA hcs;have HV:=aA hv;obtain⟨y,hy⟩:∃y,(f (v1,v2)).getD kK=y:=⟨_,rfl⟩;obtain⟨sb,hsb⟩:∃sb,(f (v1,v2)).isSome=sb:=⟨_,rfl⟩;have FY:=aA (show f (v1,v2)=if sb=true then some y else none by
  cases hf:f (v1,v2) with
  | none=>rw[hf]at hsb;rw[←hsb];rfl
  | some z=>rw[hf]at hsb hy;rw[←hsb,←hy];rfl)
 obtain⟨yc,⟨ys,ym⟩,yk,yl,yt,yd⟩:=y;have HLK:=aA (fun(w':World) (hm:iF w' bm f q)=>show(Instr.lookup 95 (.map (some bm)) (.agg #[.int .i64 v1,.int .i64 v2]) true).run Tryz.prog w'=.ok (.tuple #[.agg #[.int .i64 yc,.int .i64 ys,.int .i64 ym,.int .i64 yk,.int .i64 yl,.int .i64 yt,.bool yd],.bool sb]) w' from by
  have:=hm.look hv;rw[hy,hsb]at this;exact this)
 clear X M hcs hv hy hsb;go_enter Tryz.func64,Tryz.ntmps64
 go_upto_region 1 with fail
 generalize (w.alloc (.cells #[.int .i64 v1,.int .i64 v2] 90)).alloc (.cells #[.int .i64 xc,.int .i64 xs,.int .i64 xm,.int .i64 xk,.int .i64 xl,.int .i64 xt,.bool xd] 94)=w0 at *
 have DR:=aA ((Below.refl w0.heap.size w0).drew);have Y0:=aA (X0.o.keep DR.o);have Y1:=aA (X1.o.keep DR.o);have YA:=aA (XA.o.keep DR.o);have YM:=aA (MA.o.keep DR.o);have a5:=(YA.o.cell 5).trans HC.o;obtain⟨z0,z1⟩:=Y0.o.two;refine aF 11 (.takes [0,1,2,3,4,5,6,7,8] (.one 9 (.one 10 (.fin 11 .done)))) (fun w'=>w'.cell? ⟨ba,5,none⟩=some (.map (some bm))∧w'.cell? ⟨w.heap.size,0,none⟩=some (.int .i64 v1)∧w'.cell? ⟨w.heap.size,1,none⟩=some (.int .i64 v2)∧iF w' bm f q) (by kernel_rfl) (by kernel_rfl) (by kernel_rfl) (fun _ _ _ _ _ h=>h) ⟨a5,z0,z1,YM.o⟩ (fun hH=>?_);simp only[Scr.takes];clear a5 z0 z1;generalize w0.drew=w1 at *
 iterate 5
  refine aH (v:=?_) rfl (by rfl) hH (fun w' hSw=>?_) ?_
  rotate_left
  ·(go_simp;try with_reducible rfl)
  try simp only[Act.put,aL,aM,aN]
 refine aH (v:=?_) rfl (by rfl) hH (fun w' hSw=>?_) ?_
 rotate_left
 ·have hlk:=HLK.o w' hSw.2.2.2;go_simp
  try with_reducible rfl
 try simp only[Act.put,aL,aM,aN]
 iterate 3
  refine aH (v:=?_) rfl (by rfl) hH (fun w' hSw=>?_) ?_
  rotate_left
  ·(go_simp;try with_reducible rfl)
  try simp only[Act.put,aL,aM,aN]
 have Z0:=aA (Box.new w1 #[.int .i64 0,.int .i64 0,.int .i64 0,.int .i64 0,.int .i64 0,.int .i64 0,.bool false] 94);have bb:=aA (aB w1 (.cells #[.int .i64 0,.int .i64 0,.int .i64 0,.int .i64 0,.int .i64 0,.int .i64 0,.bool false] 94));have L0:=aA (Lq bb.o (Nat.le_refl _) (.int .i64 yc) (.int .i64 ys) (.int .i64 ym) (.int .i64 yk) (.int .i64 yl) (.int .i64 yt) (.bool yd));have Z1:=aA (Z0.o.laid7 (.int .i64 yc) (.int .i64 ys) (.int .i64 ym) (.int .i64 yk) (.int .i64 yl) (.int .i64 yt) (.bool yd));refine bI rfl (fun Kf hKf=>?_);go_simp
 refine hKf.out _ _ ⟨((YA.o.keep bb.o).cell 5).trans HC.o,(Y0.o.keep bb.o).two.1,(Y0.o.keep bb.o).two.2,YM.o.keep bb.o⟩ (fun hH=>?_);clear hKf;try simp only[Act.put,aL,aM,aN]
 refine bI rfl (fun Kf hKf=>?_);have Z2:=aA (Box.new w1 #[.int .i64 yc,.int .i64 ys,.int .i64 ym,.int .i64 yk,.int .i64 yl,.int .i64 yt,.bool yd] 94);have b2:=aA (aB w1 (.cells #[.int .i64 yc,.int .i64 ys,.int .i64 ym,.int .i64 yk,.int .i64 yl,.int .i64 yt,.bool yd] 94));go_simp
 refine hKf.out _ _ ⟨((YA.o.keep b2.o).cell 5).trans HC.o,(Y0.o.keep b2.o).two.1,(Y0.o.keep b2.o).two.2,YM.o.keep b2.o⟩ (fun hH=>?_);clear hKf;try simp only[Act.put,aL,aM,aN]
 refine bF rfl (fun Kf hKf=>?_);go_simp
 refine hKf.out _ _ ?_;clear hKf;refine bP ?_;have V0:=aA (Y0.o.keep b2.o);have V1:=aA (Y1.o.keep b2.o);have VA:=aA (YA.o.keep b2.o);have VM:=aA (YM.o.keep b2.o);have BW:=aA (B0.o.trans ((DR.o.trans (b2.o.mono DR.o.size)).mono B0.o.size));have GW:=aA (show w.grownBy (w1.alloc (.cells #[.int .i64 yc,.int .i64 ys,.int .i64 ym,.int .i64 yk,.int .i64 yl,.int .i64 yt,.bool yd] 94)) (some bm)from⟨BW.o.os,BW.o.tape,BW.o.output,BW.o.size,fun k hk _=>BW.o.block k hk⟩);clear hH Z0 Z1 bb L0 Y0 Y1 YA YM DR X0 X1 XA MA HLK BW;generalize w1.alloc (.cells #[.int .i64 yc,.int .i64 ys,.int .i64 ym,.int .i64 yk,.int .i64 yl,.int .i64 yt,.bool yd] 94)=w2 at *
 obtain⟨d0,d1,d2,d3,d4,d5,d6⟩:=V1.o.seven;generalize w1.heap.size=b6 at *
 obtain⟨e0,e1,e2,e3,e4,e5,e6⟩:=Z2.o.seven;cases sb
 ·have OF:=aA (show j3 f (v1,v2) ⟨xc,(xs,xm),xk,xl,xt,xd⟩=rI f (v1,v2) ⟨xc,(xs,xm),xk,xl,xt,xd⟩ by unfold j3;rw[FY.o];rfl);go_upto_region 3 with fail
  have DR3:=aA ((Below.refl w2.heap.size w2).drew);have U0:=aA (V0.o.keep DR3.o);have U1:=aA (V1.o.keep DR3.o);have UA:=aA (VA.o.keep DR3.o);have UM:=aA (VM.o.keep DR3.o);have a5:=(UA.o.cell 5).trans HC.o;obtain⟨z0,z1⟩:=U0.o.two;obtain⟨s0,s1,s2,s3,s4,s5,s6⟩:=U1.o.seven;clear d0 d1 d2 d3 d4 d5 d6 e0 e1 e2 e3 e4 e5 e6;refine aF 6 (.takes [0,1,2,3,4,5] (.fin 6 .done)) (fun w'=>w'.cell? ⟨ba,5,none⟩=some (.map (some bm))∧(w'.cell? ⟨w.heap.size,0,none⟩=some (.int .i64 v1)∧w'.cell? ⟨w.heap.size,1,none⟩=some (.int .i64 v2))∧w'.cell? ⟨w.heap.size+1,0,none⟩=some (.int .i64 xc)∧w'.cell? ⟨w.heap.size+1,1,none⟩=some (.int .i64 xs)∧w'.cell? ⟨w.heap.size+1,2,none⟩=some (.int .i64 xm)∧w'.cell? ⟨w.heap.size+1,3,none⟩=some (.int .i64 xk)∧w'.cell? ⟨w.heap.size+1,4,none⟩=some (.int .i64 xl)∧w'.cell? ⟨w.heap.size+1,5,none⟩=some (.int .i64 xt)∧w'.cell? ⟨w.heap.size+1,6,none⟩=some (.bool xd)) (by kernel_rfl) (by kernel_rfl) (by kernel_rfl) (fun _ _ _ _ _ h=>h) ⟨a5,⟨z0,z1⟩,s0,s1,s2,s3,s4,s5,s6⟩ (fun hH=>?_);simp only[Scr.takes];clear a5 z0 z1 s0 s1 s2 s3 s4 s5 s6;have GD:=aA (show w.grownBy w2.drew (some bm)from GW.o.trans ⟨rfl,rfl,rfl,Nat.le_refl _,fun _ _ _=>rfl⟩);generalize w2.drew=w3 at *
  iterate 6
   refine aH (v:=?_) rfl (by rfl) hH (fun w' hSw=>?_) ?_
   rotate_left
   ·(go_simp;try with_reducible rfl)
   try simp only[Act.put,aL,aM,aN]
  obtain⟨w4,iW,M4,g4⟩:=UM.o.update HV.o ⟨xc,(xs,xm),xk,xl,xt,xd⟩ (show q<maxLen by simp only[maxLen];omega);have N4:=aA (show iF w4 bm (j3 f (v1,v2) ⟨xc,(xs,xm),xk,xl,xt,xd⟩) (q+1) by rw[OF.o];exact M4);have H4:=aA g4;simp only[kvS,AE]at iW;clear M4 g4;refine bF rfl (fun Kf hKf=>?_);go_simp
  refine hKf.out _ _ ?_;clear hKf;refine bP ?_;clear iW hH;go_wp2
  go_end0
  exact⟨⟨_,rfl⟩,N4.o,GD.o.trans H4.o⟩
 ·by_cases hlt:xc<yc
  ·have OF:=aA (show j3 f (v1,v2) ⟨xc,(xs,xm),xk,xl,xt,xd⟩=rI f (v1,v2) ⟨xc,(xs,xm),xk,xl,xt,xd⟩ by unfold j3;rw[FY.o];simp only[if_true,if_pos hlt]);go_upto_region 3 with fail
   have DR3:=aA ((Below.refl w2.heap.size w2).drew);have U0:=aA (V0.o.keep DR3.o);have U1:=aA (V1.o.keep DR3.o);have UA:=aA (VA.o.keep DR3.o);have UM:=aA (VM.o.keep DR3.o);have a5:=(UA.o.cell 5).trans HC.o;obtain⟨z0,z1⟩:=U0.o.two;obtain⟨s0,s1,s2,s3,s4,s5,s6⟩:=U1.o.seven;clear d0 d1 d2 d3 d4 d5 d6 e0 e1 e2 e3 e4 e5 e6;refine aF 6 (.takes [0,1,2,3,4,5] (.fin 6 .done)) (fun w'=>w'.cell? ⟨ba,5,none⟩=some (.map (some bm))∧(w'.cell? ⟨w.heap.size,0,none⟩=some (.int .i64 v1)∧w'.cell? ⟨w.heap.size,1,none⟩=some (.int .i64 v2))∧w'.cell? ⟨w.heap.size+1,0,none⟩=some (.int .i64 xc)∧w'.cell? ⟨w.heap.size+1,1,none⟩=some (.int .i64 xs)∧w'.cell? ⟨w.heap.size+1,2,none⟩=some (.int .i64 xm)∧w'.cell? ⟨w.heap.size+1,3,none⟩=some (.int .i64 xk)∧w'.cell? ⟨w.heap.size+1,4,none⟩=some (.int .i64 xl)∧w'.cell? ⟨w.heap.size+1,5,none⟩=some (.int .i64 xt)∧w'.cell? ⟨w.heap.size+1,6,none⟩=some (.bool xd)) (by kernel_rfl) (by kernel_rfl) (by kernel_rfl) (fun _ _ _ _ _ h=>h) ⟨a5,⟨z0,z1⟩,s0,s1,s2,s3,s4,s5,s6⟩ (fun hH=>?_);simp only[Scr.takes];clear a5 z0 z1 s0 s1 s2 s3 s4 s5 s6;have GD:=aA (show w.grownBy w2.drew (some bm)from GW.o.trans ⟨rfl,rfl,rfl,Nat.le_refl _,fun _ _ _=>rfl⟩);generalize w2.drew=w3 at *
   iterate 6
    refine aH (v:=?_) rfl (by rfl) hH (fun w' hSw=>?_) ?_
    rotate_left
    ·(go_simp;try with_reducible rfl)
    try simp only[Act.put,aL,aM,aN]
   obtain⟨w4,iW,M4,g4⟩:=UM.o.update HV.o ⟨xc,(xs,xm),xk,xl,xt,xd⟩ (show q<maxLen by simp only[maxLen];omega);have N4:=aA (show iF w4 bm (j3 f (v1,v2) ⟨xc,(xs,xm),xk,xl,xt,xd⟩) (q+1) by rw[OF.o];exact M4);have H4:=aA g4;simp only[kvS,AE]at iW;clear M4 g4;refine bF rfl (fun Kf hKf=>?_);go_simp
   refine hKf.out _ _ ?_;clear hKf;refine bP ?_;clear iW hH;go_wp2
   go_end0
   exact⟨⟨_,rfl⟩,N4.o,GD.o.trans H4.o⟩
  ·have OF:=aA (show j3 f (v1,v2) ⟨xc,(xs,xm),xk,xl,xt,xd⟩=f by unfold j3;rw[FY.o];simp only[if_true,if_neg hlt]);clear e1 e2 e3 e4 e5 e6 d1 d2 d3 d4 d5 d6;go_wp2
   go_end0
   exact⟨⟨_,rfl⟩,by rw[OF.o];exact VM.o.mono (Nat.le_succ _),GW.o⟩
def tI (f:SpM)(left:Lit→Bool)(best:Sp)(sm:Bool):Prop :=
 (sm=false→best=(0,0))∧(sm=true→∃x,f best=some x∧x.done=false) ∧
 ∀v x,f v=some x→x.done=false→left (kkS v)=false→sm=true∧∃y,f best=some y∧y.cost≤x.cost
theorem tI.small {f:SpM}{left:Lit→Bool}{best:Sp}{sm:Bool}(h:tI f left best sm)(h0:∀v x,f v=some x→okS v):okS best:=by
 cases sm
 ·rw[h.1 rfl];exact⟨by simp,by simp⟩
 ·obtain⟨x,hx,_⟩:=h.2.1 rfl;exact h0 _ _ hx
section
variable {f:SpM} {left:Lit→Bool} {best v:Sp} {sm:Bool} {x:wB}
theorem I9 (h0:∀v x,f v=some x→okS v)(hv:f v=some x){u:Sp}{y:wB}(hu:f u=some y)(h:(left (kkS u)&&!(kkS u).sameKey (kkS v))=false):u=v∨left (kkS u)=false:=by
 cases hl:left (kkS u)
 ·exact .inr rfl
 ·rw[hl]at h;simp only[Bool.true_and,Bool.not_eq_false']at h;exact .inl (z7 (h0 _ _ hu) (h0 _ _ hv) ((WideAt.sameKey_iff (lT.key (kJ v (h0 _ _ hv)))).1 h))
theorem tI.skip (h:tI f left best sm)(h0:∀v x,f v=some x→okS v)(hv:f v=some x)(hs:x.done=true∨(sm=true∧∃y,f best=some y∧y.cost≤x.cost)):tI f (fun z=>left z&&!z.sameKey (kkS v)) best sm:=by
 refine⟨h.1,h.2.1,fun u y hu hd hl=>?_⟩;rcases I9 h0 hv hu hl with rfl|hl
 ·rw[hv]at hu;injection hu with hu;subst hu;rcases hs with hs|hs
  ·rw[hs]at hd;cases hd
  ·exact hs
 ·exact h.2.2 u y hu hd hl
theorem tI.take (h:tI f left best sm)(h0:∀v x,f v=some x→okS v)(hv:f v=some x)(hd:x.done=false)(hs:sm=false∨∃y,f best=some y∧x.cost≤y.cost):tI f (fun z=>left z&&!z.sameKey (kkS v)) v true:=by
 refine⟨fun e=>(by cases e),fun _=>⟨x,hv,hd⟩,fun u y hu hyd hl=>⟨rfl,x,hv, ?_⟩⟩;rcases I9 h0 hv hu hl with rfl|hl
 ·rw[hv]at hu;injection hu with hu;subst hu;exact Int.le_refl _
 ·obtain⟨h1,z,h2,h3⟩:=h.2.2 u y hu hyd hl;rcases hs with hs|⟨z',h4,h5⟩
  ·rw[h1]at hs;cases hs
  ·rw[h2]at h4;injection h4 with h4;subst h4;omega
end
theorem Vl {w w':World}(hb:Below w.heap.size w w'):w.grownBy w' none:=⟨hb.os,hb.tape,hb.output,hb.size,fun k hk _=>hb.block k hk⟩
theorem rX (w:World)(b:Nat)(u v:Value):w.grownBy ((w.setCell ⟨b,0,none⟩ u).setCell ⟨b,1,none⟩ v) (some b) :=
 ⟨rfl,rfl,rfl,by simp[World.setCell],fun k _ hne=>(heap_setCell_other _ _ _ _ (fun e=>hne (by rw[e]))).trans (heap_setCell_other _ _ _ _ (fun e=>hne (by rw[e])))⟩
def Vm (f:SpM)(w:World)(e:Ending)(w':World):Prop :=
 Below w.heap.size w w'∧∃best sm,e=.returned (.tuple #[kvS best,.bool sm])∧(sm=false→∀v x,f v=some x→x.done=true) ∧
  (sm=true→∃x,f best=some x∧x.done=false∧∀v y,f v=some y→y.done=false→x.cost≤y.cost)
theorem tI.fin {f:SpM}{left:Lit→Bool}{best:Sp}{sm:Bool}(h:tI f left best sm)(hl:∀kl,left kl=false):(sm=false→∀v x,f v=some x→x.done=true)∧(sm=true→∃x,f best=some x∧x.done=false∧∀v y,f v=some y→y.done=false→x.cost≤y.cost):=by
 refine⟨fun hs v x hx=>?_,fun hs=>?_⟩
 ·cases hd:x.done
  ·have:=(h.2.2 v x hx hd (hl _)).1;rw[hs]at this;cases this
  ·rfl
 ·obtain⟨x,hx,hd⟩:=h.2.1 hs;refine⟨x,hx,hd,fun v y hv hyd=>?_⟩;obtain⟨_,z,h1,h2⟩:=h.2.2 v y hv hyd (hl _);rw[hx]at h1;injection h1 with h1;subst h1;exact h2
theorem z8 {w:World}{ba bm q:Nat}{f:SpM}{cs:Array Value}(X:Box w ba 97 cs)(hcs:cs[5]?=some (.map (some bm)))(M:iF w bm f q) :
  Calls Tryz.prog 28 #[.pointer (some ⟨ba,0,none⟩)] w (Vm f w):=by
 have XR:=aA ((Box.new w #[.int .i64 0,.int .i64 0] 90).old (.cells #[.int .i64 0,.int .i64 0] 90));have XB:=aA (Box.newAt (w:=w.alloc (.cells #[.int .i64 0,.int .i64 0] 90)) (n:=w.heap.size+1) (by simp) #[.int .i64 0,.int .i64 0] 90);have B0:=aA ((aB w (.cells #[.int .i64 0,.int .i64 0] 90)).alloc (by simp) (.cells #[.int .i64 0,.int .i64 0] 90));have S0:=aA (show((w.alloc (.cells #[.int .i64 0,.int .i64 0] 90)).alloc (.cells #[.int .i64 0,.int .i64 0] 90)).heap.size=w.heap.size+1+1 by simp);have LA:=aA X.lt;have XA:=aA X;have MA:=aA (M.keep B0.o);have HC:=aA hcs;have OK0:=aA M.1;have LB:=aA M.lt;clear X M hcs;go_enter Tryz.func28,Tryz.ntmps28
 go_upto_region 2 with fail
 generalize (w.alloc (.cells #[.int .i64 0,.int .i64 0] 90)).alloc (.cells #[.int .i64 0,.int .i64 0] 90)=w0 at *
 obtain⟨h0,D,n,h1,hn,h3,h4⟩:=MA.o;have H3:=aA h3;have H4:=aA h4;have a5:=((XA.o.keep B0.o).cell 5).trans HC.o;clear h0 h3 h4;go_wp2_with (at_range;refine wpList_range_own _ rfl _ 95 rfl 90 _ lT Tryz.underlying95 nA bm n D rfl h1 ?_;intro w1 hrg0 hg0 hs0)
 go_frame
 have I0:=aA (show tI f (Maps.has D) (0,0) false from⟨fun _=>rfl,fun e=>(by cases e),fun v x hv _ hl=>by
  have:=(H3.o v x hv).1;rw[this]at hl;cases hl⟩)
 have XB1:=aA (XB.o.grown hg0 (by simp));have XR1:=aA (XR.o.grown hg0 (by simp));have B1:=aA (B0.o.grown hg0 B0.o.size (fun j hj=>by cases hj));have M1:=aA (MA.o.beside hg0 (by simp));clear a5 XB XR hg0 hs0 h1;go_loopw [5] (fun u5 wr=>∃(left:Lit→Bool) (cnt:Nat) (b1 b2:Int) (sm:Bool),u5=.bool sm∧wr.ranges Tryz.prog 90 nA bm w0.heap.size n D left cnt∧Hid (tI f left (b1,b2) sm)∧Hid (Box wr (w.heap.size+1) 90 #[.int .i64 b1,.int .i64 b2])∧Hid (Box wr w.heap.size 90 #[.int .i64 0,.int .i64 0])∧Hid (Below w.heap.size w wr)∧Hid (iF wr bm f q)) (fun _ wr=>wr.rangeLeft bm w0.heap.size)
 case atStart=>exact⟨_,_,0,0,false,rfl,hrg0,I0,XB1,XR1,B1,M1⟩
 case round =>
  clear hrg0 I0 XB1 XR1 B1 M1 B0 MA;obtain⟨left,cnt,b1,b2,sm,rfl,hrg,NI,XB,XR,BW,MW⟩:=hrel;go_wp2_with (at_next;refine wpList_next_ranges _ rfl _ rfl 90 lT nA (fun v=>v) (fun v=>v) (fun key kl hk=>⟨key,rfl⟩) (fun v y hv=>⟨v,rfl⟩) bm w0.heap.size n D left cnt rfl hrg ?_ ?_)
  ·intro hc0 hl0;have FN:=aA (NI.o.fin hl0);have b0:=XB.o.two.1;have b1':=XB.o.two.2;have f0:=XR.o.frozen 0;have f1:=XR.o.frozen 1;obtain⟨r0,r1⟩:=XR.o.two;have XE:=aA (XR.o.set2 (.int .i64 b1) (.int .i64 b2));have BE:=aA ((BW.o.setCell (p:=⟨w.heap.size,0,none⟩) (Nat.le_refl _) (.int .i64 b1)).setCell (p:=⟨w.heap.size,1,none⟩) (Nat.le_refl _) (.int .i64 b2));clear hl0 hrg;go_wp2
   obtain⟨z0,z1⟩:=XE.o.two;exact bodyPost_ret (v:=.tuple #[.agg #[.int .i64 b1,.int .i64 b2],.bool sm]) (by simp[results,Tryz.results28,go_sem,z0,z1]) rfl ⟨BE.o,(b1,b2),sm,rfl,FN.o.1,FN.o.2⟩
  ·intro xk xv kl yd yp w2 cnt2 hkey hlk hv hat hrg2 hlt hg2 hs2 hen;obtain⟨⟨k1,k2⟩,⟨xc,⟨xs,xm⟩,xkd,xl,xt,xd⟩,hv',ekl⟩:=H4.o xk kl hkey (Maps.has_true_of_atKey hat);subst ekl;have okv:=OK0.o _ _ hv';obtain rfl:xk=.agg #[.int .i64 k1,.int .i64 k2]:=lT.inj hkey (kJ _ okv);obtain⟨x',ex,ed⟩:=pO hv;have exx:=qY (ed.symm.trans ((hat (.agg [])).symm.trans ((H3.o _ _ hv').2 (.agg []))));subst exx;obtain rfl:xv=.agg #[.int .i64 xc,.int .i64 xs,.int .i64 xm,.int .i64 xkd,.int .i64 xl,.int .i64 xt,.bool xd]:=ex;have hit:w0.heap.size≠w.heap.size+1:=by have:=S0.o;omega
   have hir:w0.heap.size≠w.heap.size:=by have:=S0.o;omega
   have SKIP:=aA (fun hs=>NI.o.skip OK0.o hv' hs);have TAKE:=aA (fun hs=>NI.o.take OK0.o hv' hs);have OKB:=aA (NI.o.small OK0.o);have XB2:=aA (XB.o.grown hg2 (by simpa using hit));have XR2:=aA (XR.o.grown hg2 (by simpa using hir));have B2:=aA (BW.o.grown hg2 BW.o.size (fun k e=>by cases e;have:=S0.o;omega));have M2:=aA (MW.o.beside hg2 (by have:=LB.o;have:=S0.o;simp;omega));have RG:=aA hrg2;have LTC:=aA hlt;have HLE:=aA hrg.left_eq;have HIT:=aA hit;have NII:=aA NI.o;have bb:=(aB w2 (.cells #[.int .i64 k1,.int .i64 k2] 90)).alloc (by simp) (.cells #[.int .i64 xc,.int .i64 xs,.int .i64 xm,.int .i64 xkd,.int .i64 xl,.int .i64 xt,.bool xd] 94);have XK:=aA ((Box.new w2 #[.int .i64 k1,.int .i64 k2] 90).old (.cells #[.int .i64 xc,.int .i64 xs,.int .i64 xm,.int .i64 xkd,.int .i64 xl,.int .i64 xt,.bool xd] 94));have XS:=aA (Box.newAt (w:=w2.alloc (.cells #[.int .i64 k1,.int .i64 k2] 90)) (n:=w2.heap.size+1) (by simp) #[.int .i64 xc,.int .i64 xs,.int .i64 xm,.int .i64 xkd,.int .i64 xl,.int .i64 xt,.bool xd] 94);have XB3:=aA (XB2.o.keep bb);have XR3:=aA (XR2.o.keep bb);have B3:=aA (B2.o.trans (bb.mono B2.o.size));have M3:=aA (M2.o.keep bb);have R3:=aA (RG.o.kept (Vl bb) (by simp) (by simp));clear hs2 hkey hlk hv hat hrg2 hg2 hrg hlt bb ed okv hit hir XB XR BW MW NI;go_upto_region 6 with fail
   clear hen;generalize (w2.alloc (.cells #[.int .i64 k1,.int .i64 k2] 90)).alloc (.cells #[.int .i64 xc,.int .i64 xs,.int .i64 xm,.int .i64 xkd,.int .i64 xl,.int .i64 xt,.bool xd] 94)=w3 at *
   obtain⟨s0,s1,s2,s3,s4,s5,s6⟩:=XS.o.seven;cases xd
   ·go_upto_region 7 with fail
    obtain⟨y,hy⟩:∃y,(f (b1,b2)).getD kK=y:=⟨_,rfl⟩;have YS:=aA (show sm=true→f (b1,b2)=some y from fun e=>by
     obtain⟨z,hz,_⟩:=NII.o.2.1 e;rw[hz]at hy ⊢;exact congrArg some hy)
    obtain⟨yc,⟨ys,ym⟩,yk,yl,yt,yd⟩:=y;have HLK:=aA (fun(w':World) (hm:iF w' bm f q)=>show(Instr.lookup 95 (.map (some bm)) (.agg #[.int .i64 b1,.int .i64 b2]) false).run Tryz.prog w'=.ok (.agg #[.int .i64 yc,.int .i64 ys,.int .i64 ym,.int .i64 yk,.int .i64 yl,.int .i64 yt,.bool yd]) w' from by
     have:=hm.at OKB.o;rw[hy]at this;exact this)
    clear hy s0 s1 s2 s3 s4 s5 s6;have DR:=aA ((Below.refl w3.heap.size w3).drew);have XAD:=aA (XA.o.keepB (B3.o.trans (DR.o.mono B3.o.size)) LA.o);have XBD:=aA (XB3.o.keep DR.o);have XRD:=aA (XR3.o.keep DR.o);have XKD:=aA (XK.o.keep DR.o);have XSD:=aA (XS.o.keep DR.o);have MD:=aA (M3.o.keep DR.o);have BD:=aA (B3.o.trans (DR.o.mono B3.o.size));have RD:=aA (R3.o.kept (Vl DR.o) (by simp) (by simp));have a5:=(XAD.o.cell 5).trans HC.o;obtain⟨z0,z1⟩:=XBD.o.two;refine aF 7 (.takes [0,1,2,3,4,5] (.one 6 (.fin 7 .done))) (fun w'=>w'.cell? ⟨ba,5,none⟩=some (.map (some bm))∧w'.cell? ⟨w.heap.size+1,0,none⟩=some (.int .i64 b1)∧w'.cell? ⟨w.heap.size+1,1,none⟩=some (.int .i64 b2)∧iF w' bm f q) (by kernel_rfl) (by kernel_rfl) (by kernel_rfl) (fun _ _ _ _ _ h=>h) ⟨a5,z0,z1,MD.o⟩ (fun hH=>?_);simp only[Scr.takes];clear a5 z0 z1 XB3 XR3 XK XS M3 B3 R3 DR;generalize w3.drew=w4 at *
    iterate 5
     refine aH (v:=?_) rfl (by rfl) hH (fun w' hSw=>?_) ?_
     rotate_left
     ·(go_simp;try with_reducible rfl)
     try simp only[Act.put,aL,aM,aN]
    refine aH (v:=?_) rfl (by rfl) hH (fun w' hSw=>?_) ?_
    rotate_left
    ·have hlk:=HLK.o w' hSw.2.2.2;go_simp
     try with_reducible rfl
    try simp only[Act.put,aL,aM,aN]
    have Z0:=aA (Box.new w4 #[.int .i64 0,.int .i64 0,.int .i64 0,.int .i64 0,.int .i64 0,.int .i64 0,.bool false] 94);have z1:=aA (aB w4 (.cells #[.int .i64 0,.int .i64 0,.int .i64 0,.int .i64 0,.int .i64 0,.int .i64 0,.bool false] 94));refine bI rfl (fun Kf hKf=>?_);go_simp
    refine hKf.out _ _ ⟨((XAD.o.keep z1.o).cell 5).trans HC.o,(XBD.o.keep z1.o).two.1,(XBD.o.keep z1.o).two.2,MD.o.keep z1.o⟩ (fun hH=>?_);clear hKf;try simp only[Act.put,aL,aM,aN]
    refine bF rfl (fun Kf hKf=>?_);have bb:=aB w4 (.cells #[.int .i64 yc,.int .i64 ys,.int .i64 ym,.int .i64 yk,.int .i64 yl,.int .i64 yt,.bool yd] 94);have XY:=aA (Box.new w4 #[.int .i64 yc,.int .i64 ys,.int .i64 ym,.int .i64 yk,.int .i64 yl,.int .i64 yt,.bool yd] 94);have XB4:=aA (XBD.o.keep bb);have XR4:=aA (XRD.o.keep bb);have XK4:=aA (XKD.o.keep bb);have XS4:=aA (XSD.o.keep bb);have M4:=aA (MD.o.keep bb);have B4:=aA (BD.o.trans (bb.mono BD.o.size));have R4:=aA (RD.o.kept (Vl bb) (by simp) (by simp));go_simp
    refine hKf.out _ _ ?_;clear hKf;refine bP ?_;clear hH Z0 z1 bb XAD XBD XRD XKD XSD MD BD RD HLK;generalize w4.alloc (.cells #[.int .i64 yc,.int .i64 ys,.int .i64 ym,.int .i64 yk,.int .i64 yl,.int .i64 yt,.bool yd] 94)=w5 at *
    generalize w4.heap.size=b8 at *
    obtain⟨e0,e1,e2,e3,e4,e5,e6⟩:=XY.o.seven;obtain⟨s0,s1,s2,s3,s4,s5,s6⟩:=XS4.o.seven;obtain⟨k0,k1'⟩:=XK4.o.two;obtain⟨z0,z1⟩:=XB4.o.two;clear e1 e2 e3 e4 e5 e6 s1 s2 s3 s4 s5 s6;cases sm
    ·skip
     have NS:=aA (TAKE.o rfl (.inl rfl));have g0:=XB4.o.frozen 0;have g1:=XB4.o.frozen 1;have XN:=aA (XB4.o.set2 (.int .i64 k1) (.int .i64 k2));have XRN:=aA (XR4.o.grown (rX w5 (w.heap.size+1) (.int .i64 k1) (.int .i64 k2)) (by simp));have BN:=aA ((B4.o.setCell (p:=⟨w.heap.size+1,0,none⟩) (Nat.le_succ _) (.int .i64 k1)).setCell (p:=⟨w.heap.size+1,1,none⟩) (Nat.le_succ _) (.int .i64 k2));have MN:=aA (M4.o.beside (rX w5 (w.heap.size+1) (.int .i64 k1) (.int .i64 k2)) (by have:=LB.o;simp;omega));have RN:=aA (R4.o.kept (rX w5 (w.heap.size+1) (.int .i64 k1) (.int .i64 k2)) (by have:=LB.o;simp;omega) (by have:=HIT.o;simpa using this));clear R4;go_wp2
     go_roundw
     case rel=>exact⟨_,cnt2,k1,k2,true,rfl,RN.o,NS,XN,XRN,BN,MN⟩
     case measure=>rw[RN.o.left_eq,HLE.o];exact LTC.o
    ·by_cases hc1:xc<yc
     ·skip
      have NS:=aA (TAKE.o rfl (.inr ⟨_,YS.o rfl,by simp only;omega⟩));have g0:=XB4.o.frozen 0;have g1:=XB4.o.frozen 1;have XN:=aA (XB4.o.set2 (.int .i64 k1) (.int .i64 k2));have XRN:=aA (XR4.o.grown (rX w5 (w.heap.size+1) (.int .i64 k1) (.int .i64 k2)) (by simp));have BN:=aA ((B4.o.setCell (p:=⟨w.heap.size+1,0,none⟩) (Nat.le_succ _) (.int .i64 k1)).setCell (p:=⟨w.heap.size+1,1,none⟩) (Nat.le_succ _) (.int .i64 k2));have MN:=aA (M4.o.beside (rX w5 (w.heap.size+1) (.int .i64 k1) (.int .i64 k2)) (by have:=LB.o;simp;omega));have RN:=aA (R4.o.kept (rX w5 (w.heap.size+1) (.int .i64 k1) (.int .i64 k2)) (by have:=LB.o;simp;omega) (by have:=HIT.o;simpa using this));clear R4;go_wp2
      go_roundw
      case rel=>exact⟨_,cnt2,k1,k2,true,rfl,RN.o,NS,XN,XRN,BN,MN⟩
      case measure=>rw[RN.o.left_eq,HLE.o];exact LTC.o
     ·by_cases hc2:xc=yc
      ·subst hc2;by_cases hc3:k1<b1
       ·skip
        have NS:=aA (TAKE.o rfl (.inr ⟨_,YS.o rfl,Int.le_refl _⟩));have g0:=XB4.o.frozen 0;have g1:=XB4.o.frozen 1;have XN:=aA (XB4.o.set2 (.int .i64 k1) (.int .i64 k2));have XRN:=aA (XR4.o.grown (rX w5 (w.heap.size+1) (.int .i64 k1) (.int .i64 k2)) (by simp));have BN:=aA ((B4.o.setCell (p:=⟨w.heap.size+1,0,none⟩) (Nat.le_succ _) (.int .i64 k1)).setCell (p:=⟨w.heap.size+1,1,none⟩) (Nat.le_succ _) (.int .i64 k2));have MN:=aA (M4.o.beside (rX w5 (w.heap.size+1) (.int .i64 k1) (.int .i64 k2)) (by have:=LB.o;simp;omega));have RN:=aA (R4.o.kept (rX w5 (w.heap.size+1) (.int .i64 k1) (.int .i64 k2)) (by have:=LB.o;simp;omega) (by have:=HIT.o;simpa using this));clear R4;go_wp2
        go_roundw
        case rel=>exact⟨_,cnt2,k1,k2,true,rfl,RN.o,NS,XN,XRN,BN,MN⟩
        case measure=>rw[RN.o.left_eq,HLE.o];exact LTC.o
       ·by_cases hc4:k1=b1
        ·subst hc4;by_cases hc5:k2<b2
         ·skip
          have NS:=aA (TAKE.o rfl (.inr ⟨_,YS.o rfl,Int.le_refl _⟩));have g0:=XB4.o.frozen 0;have g1:=XB4.o.frozen 1;have XN:=aA (XB4.o.set2 (.int .i64 k1) (.int .i64 k2));have XRN:=aA (XR4.o.grown (rX w5 (w.heap.size+1) (.int .i64 k1) (.int .i64 k2)) (by simp));have BN:=aA ((B4.o.setCell (p:=⟨w.heap.size+1,0,none⟩) (Nat.le_succ _) (.int .i64 k1)).setCell (p:=⟨w.heap.size+1,1,none⟩) (Nat.le_succ _) (.int .i64 k2));have MN:=aA (M4.o.beside (rX w5 (w.heap.size+1) (.int .i64 k1) (.int .i64 k2)) (by have:=LB.o;simp;omega));have RN:=aA (R4.o.kept (rX w5 (w.heap.size+1) (.int .i64 k1) (.int .i64 k2)) (by have:=LB.o;simp;omega) (by have:=HIT.o;simpa using this));clear R4;go_wp2
          go_roundw
          case rel=>exact⟨_,cnt2,k1,k2,true,rfl,RN.o,NS,XN,XRN,BN,MN⟩
          case measure=>rw[RN.o.left_eq,HLE.o];exact LTC.o
         ·skip
          have NS:=aA (SKIP.o (.inr ⟨rfl,_,YS.o rfl,Int.le_refl _⟩));have R5:=aA (R4.o);clear R4;go_wp2
          go_roundw
          case rel=>exact⟨_,cnt2,k1,b2,true,rfl,R5.o,NS,XB4,XR4,B4,M4⟩
          case measure=>rw[R5.o.left_eq,HLE.o];exact LTC.o
        ·have hb4:(k1==b1)=false:=by simpa using hc4
         have NS:=aA (SKIP.o (.inr ⟨rfl,_,YS.o rfl,Int.le_refl _⟩));have R5:=aA (R4.o);clear R4;go_wp2
         go_roundw
         case rel=>exact⟨_,cnt2,b1,b2,true,rfl,R5.o,NS,XB4,XR4,B4,M4⟩
         case measure=>rw[R5.o.left_eq,HLE.o];exact LTC.o
      ·have hb2:(xc==yc)=false:=by simpa using hc2
       have NS:=aA (SKIP.o (.inr ⟨rfl,_,YS.o rfl,by simp only;omega⟩));have R5:=aA (R4.o);clear R4;go_wp2
       go_roundw
       case rel=>exact⟨_,cnt2,b1,b2,true,rfl,R5.o,NS,XB4,XR4,B4,M4⟩
       case measure=>rw[R5.o.left_eq,HLE.o];exact LTC.o
   ·have NS:=aA (SKIP.o (.inl rfl));clear s1 s2 s3 s4 s5;go_wp2
    go_roundw
    case rel=>exact⟨_,cnt2,b1,b2,sm,rfl,R3.o,NS,XB3,XR3,B3,M3⟩
    case measure=>rw[R3.o.left_eq,HLE.o];exact LTC.o
end Go.Proofs.YtfmnagcglhlicaaGreat
