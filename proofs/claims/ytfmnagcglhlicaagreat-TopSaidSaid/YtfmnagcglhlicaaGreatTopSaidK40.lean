/- The map of spots in memory. Conditions: the spots are small. | The contract of offer. Conditions: the aligner lies in a box; the spot is small. | The contract of nearest. Conditions: the aligner lies in a box. -/
import Derived.Test.YtfmnagcglhlicaaGreatTopSaidK39
import Derived.Maps.RangeWalk
import Derived.Sort.OwnSorted
set_option maxRecDepth 100000
namespace Go.Proofs.YtfmnagcglhlicaaGreat
open Go.RowKit Go.Maps
def ZjL (x:Zh6):Value:=.agg #[.int .i64 x.cost,.int .i64 x.from_.1,.int .i64 x.from_.2,.int .i64 x.kind,.int .i64 x.label,.int .i64 x.tran,.bool x.done]
def Zr2 (x:Zh6):DataW Unit:=.agg [.lit (.int .i64 x.cost),.lit (.int .i64 x.from_.1),.lit (.int .i64 x.from_.2),.lit (.int .i64 x.kind),.lit (.int .i64 x.label),.lit (.int .i64 x.tran),.lit (.bool x.done)]
theorem Zre {x y:Zh6}(h:ZjL x=ZjL y):x=y:=by
 obtain⟨a,⟨b,c⟩,d,e,f,g⟩:=x
 obtain⟨a',⟨b',c'⟩,d',e',f',g'⟩:=y
 simp only[ZjL,Value.agg.injEq,Array.mk.injEq,List.cons.injEq,Value.int.injEq,Value.bool.injEq,true_and,and_true]at h
 obtain⟨rfl,rfl,rfl,rfl,rfl,rfl,rfl⟩:=h
 rfl
open Classical in
noncomputable def Zev (v:Value):Option (DataW Unit×List MemPlace):=if h:∃x,v=ZjL x then some (Zr2 (Classical.choose h),[])else none
theorem Zge (x:Zh6):Zev (ZjL x)=some (Zr2 x,[]):=by
 have hex:∃y,ZjL x=ZjL y:=⟨x,rfl⟩
 unfold Zev
 rw[dif_pos hex,←Zre (Classical.choose_spec hex)]
theorem Zfp {v:Value}{d:DataW Unit}{ps:List MemPlace}(h:Zev v=some (d,ps)):∃x,v=ZjL x∧d=Zr2 x:=by
 unfold Zev at h
 split at h
 ·rename_i hex
  simp only[Option.some.injEq,Prod.mk.injEq]at h
  exact⟨_,Classical.choose_spec hex,h.1.symm⟩
 ·cases h
theorem ZfQ {x y:Zh6}(h:Zr2 x=Zr2 y):x=y:=by
 obtain⟨a,⟨b,c⟩,d,e,f,g⟩:=x
 obtain⟨a',⟨b',c'⟩,d',e',f',g'⟩:=y
 simp[Zr2]at h
 obtain⟨rfl,rfl,rfl,rfl,rfl,rfl,rfl⟩:=h
 rfl
def okS (v:Sp):Prop:=(0≤v.1∧v.1≤1000)∧0≤v.2∧v.2≤1000
def kvS (v:Sp):Value:=.agg #[.int .i64 v.1,.int .i64 v.2]
def kkS (v:Sp):Lit:=.string (keyBytes [.int .i64 v.1,.int .i64 v.2])
theorem Zd0:Keyed Tryz.prog 90:=Keyed.of_law (deep_law_laid Facts.laidOut (m:=2) (by decide) (of_decide_eq_true (by kernel_rfl)) (by kernel_rfl) (by kernel_rfl))
theorem Zl4:Tryz.prog.keyType 90=true:=by kernel_rfl
theorem ZkM:Tryz.prog.cellsOf 90=2:=by kernel_rfl
theorem ZpL:Tryz.prog.cellsOf 3=1:=by kernel_rfl
theorem Zdp (p:Sp)(h:okS p):keyOf Tryz.prog 90 (kvS p)=some (kkS p):=by
 have hw1:(Lit.int .i64 p.1).wf=true:=WalkArith.wf_i64 (by unfold okS at h;omega)
 have hw2:(Lit.int .i64 p.2).wf=true:=WalkArith.wf_i64 (by unfold okS at h;omega)
 have hsz:∃m,Tryz.prog.types.size+1=m+2:=⟨Tryz.prog.types.size-1,by have:0<Tryz.prog.types.size:=of_decide_eq_true (by kernel_rfl);omega⟩
 obtain⟨m,hm⟩:=hsz
 unfold keyOf
 rw[Tryz.underlying90]
 simp only[Zl4,kvS,Value.formed,Tryz.underlying90,ZkM,hm]
 simp[Program.keyLits,Tryz.underlying90,ZkM,ZpL,Tryz.underlying3,hw1,hw2,Value.cells,kkS]
theorem Zjw {p q:Sp}(hp:okS p)(hq:okS q)(h:kkS p=kkS q):p=q:=by
 have:=Zd0.inj (Zdp p hp) (by rw[h];exact Zdp q hq)
 simp only[kvS,Value.agg.injEq,Array.mk.injEq,List.cons.injEq,Value.int.injEq,true_and,and_true]at this
 exact Prod.ext this.1 this.2
def Zdq:Zh6:=⟨0,(0,0),0,0,0,false⟩
theorem ZmT (w:World):(zeroValue 94).run Tryz.prog w=.ok (ZjL Zdq) w:=by
 obtain⟨i,hi,hz,_⟩:=info_parts (show(Tryz.prog.info? 94).map (fun i=>(i.zero,i.size,i.bytes))=some (some (ZjL Zdq),7,56)from by kernel_rfl)
 simp[zeroValue,typeInfo,hi,hz]
def ZcD (w:World)(b:Nat)(f:SpM)(q:Nat):Prop :=
 (∀v x,f v=some x→okS v)∧∃(D:DataW Unit) (n:Nat),w.ownsMap Tryz.prog 90 Zev b n D∧n≤q ∧
  (∀v x,f v=some x→Maps.has D (kkS v)=true∧∀z,D.atKey (kkS v) z=Zr2 x) ∧
  (∀key kl,keyOf Tryz.prog 90 key=some kl→Maps.has D kl=true→∃v x,f v=some x∧kl=kkS v)
section
variable {w w':World} {b q:Nat} {f:SpM}
theorem ZpM {H:Type}{P:Program}{k:TypeId}{R:Value→Option (DataW H×List MemPlace)}{n:Nat}{D:DataW H}(h:w.ownsMap P k R b n D)(hb:w'.heap[b]?=w.heap[b]?):w'.ownsMap P k R b n D:=by
 obtain⟨es,clock,h1,h2⟩:=h
 exact⟨es,clock,hb.trans h1,h2⟩
theorem ZcD.made (w:World):ZcD (w.alloc (.map #[] 0)) w.heap.size (fun _=>none) 0 :=
 ⟨fun v x h=>(by cases h),.map [],0,World.ownsMap_made _ _ _ _,Nat.le_refl _,fun v x h=>(by cases h),fun key kl _ h=>by simp[Maps.has]at h⟩
theorem ZcD.lt (h:ZcD w b f q):b<w.heap.size:=by
 obtain⟨_,D,n,h1,_⟩:=h
 exact h1.lt
theorem ZcD.of_block (h:ZcD w b f q)(hb:w'.heap[b]?=w.heap[b]?):ZcD w' b f q:=by
 obtain⟨h0,D,n,h1,h2⟩:=h
 exact⟨h0,D,n,ZpM h1 hb,h2⟩
theorem ZcD.keep (h:ZcD w b f q)(hb:Below w.heap.size w w'):ZcD w' b f q:=h.of_block (hb.block b h.lt)
theorem ZcD.alloc (h:ZcD w b f q)(o:Obj):ZcD (w.alloc o) b f q:=h.of_block (heap_alloc_old w o h.lt)
theorem ZcD.beside {row:Option Nat}(h:ZcD w b f q)(hg:w.grownBy w' row)(hne:some b≠row):ZcD w' b f q:=h.of_block (hg.block b h.lt hne)
theorem ZcD.mono (h:ZcD w b f q){q':Nat}(hq:q≤q'):ZcD w b f q':=by
 obtain⟨h0,D,n,h1,h2,h3⟩:=h
 exact⟨h0,D,n,h1,Nat.le_trans h2 hq,h3⟩
theorem ZcD.look (h:ZcD w b f q){v:Sp}(hv:okS v):(Instr.lookup 95 (.map (some b)) (kvS v) true).run Tryz.prog w=.ok (.tuple #[ZjL ((f v).getD Zdq),.bool (f v).isSome]) w:=by
 obtain⟨h0,D,n,h1,_,h3,h4⟩:=h
 obtain⟨y,ps,hrun,hR⟩:=h1.look_ok Zd0 Tryz.underlying95 (ZmT w) (Zge Zdq) (Zdp v hv)
 rw[hrun]
 obtain⟨x,rfl,e⟩:=Zfp hR
 cases hf:f v with
 | some z =>
  obtain⟨g1,g2⟩:=h3 v z hf
  rw[g1]
  have:=e.symm.trans (g2 _)
  rw[ZfQ this]
  rfl
 | none =>
  have hn:Maps.has D (kkS v)=false:=by
   cases hh:Maps.has D (kkS v)
   ·rfl
   ·obtain⟨u,y,hu,e2⟩:=h4 _ _ (Zdp v hv) hh
    rw[Zjw hv (h0 u y hu) e2,hu]at hf
    cases hf
  rw[hn]
  have:=e.symm.trans (Maps.atKey_of_not_has hn _)
  rw[ZfQ this]
  rfl
theorem ZcD.at (h:ZcD w b f q){v:Sp}(hv:okS v):(Instr.lookup 95 (.map (some b)) (kvS v) false).run Tryz.prog w=.ok (ZjL ((f v).getD Zdq)) w:=by
 obtain⟨h0,D,n,h1,_,h3,h4⟩:=h
 obtain⟨y,ps,hrun,hR⟩:=h1.lookup Zd0 Tryz.underlying95 (ZmT w) (Zge Zdq) (Zdp v hv)
 rw[hrun]
 obtain⟨x,rfl,e⟩:=Zfp hR
 cases hf:f v with
 | some z =>
  obtain⟨g1,g2⟩:=h3 v z hf
  have:=e.symm.trans (g2 _)
  rw[ZfQ this]
  rfl
 | none =>
  have hn:Maps.has D (kkS v)=false:=by
   cases hh:Maps.has D (kkS v)
   ·rfl
   ·obtain⟨u,y,hu,e2⟩:=h4 _ _ (Zdp v hv) hh
    rw[Zjw hv (h0 u y hu) e2,hu]at hf
    cases hf
  have:=e.symm.trans (Maps.atKey_of_not_has hn _)
  rw[ZfQ this]
  rfl
theorem ZcD.update (h:ZcD w b f q){v:Sp}(hv:okS v)(x:Zh6)(hq:q<maxLen):∃w',(Instr.mapUpdate 95 (.map (some b)) (kvS v) (ZjL x)).run Tryz.prog w=.ok () w'∧ZcD w' b (Zgd f v x) (q+1)∧w.grownBy w' (some b):=by
 obtain⟨h0,D,n,h1,h2,h3,h4⟩:=h
 obtain⟨w',hrun,r1,r2⟩:=h1.update Zd0 Tryz.underlying95 (Nat.lt_of_le_of_lt h2 hq) (Zdp v hv) (Zge x)
 have hm:=h1.isMap
 have hk:=Zd0.key (Zdp v hv)
 refine⟨w',hrun,⟨fun u y hu=>?_,D.put (kkS v) (Zr2 x),n+1,r1,by omega,fun u y hu=>?_,fun key kl hkl hh=>?_⟩,r2⟩
 ·unfold Zgd at hu
  split at hu
  ·rename_i e
   rw[e];exact hv
  ·exact h0 u y hu
 ·unfold Zgd at hu
  split at hu
  ·rename_i e
   injection hu with hu
   subst e hu
   exact⟨Maps.has_put_same hm hk _,fun z=>Maps.atKey_put_same hm hk _ z⟩
  ·rename_i e
   obtain⟨g1,g2⟩:=h3 u y hu
   have hne:kkS u≠kkS v:=fun e2=>e (Zjw (h0 u y hu) hv e2)
   exact⟨(Maps.has_put_other hne _).trans g1,fun z=>(Maps.atKey_put_other hne _ z).trans (g2 z)⟩
 ·by_cases e:kl=kkS v
  ·exact⟨v,x,Zc4 _ _ _,e⟩
  ·rw[Maps.has_put_other e]at hh
   obtain⟨u,y,hu,e2⟩:=h4 key kl hkl hh
   exact⟨u,y,by rw[Zfo (fun e3=>e (by rw[e2,e3]))];exact hu,e2⟩
end
def Zt2 (w:World)(b:Nat)(v0 v1 v2 v3 v4 v5 v6:Value):World:=((((((w.setCell ⟨b,0,none⟩ v0).setCell ⟨b,1,none⟩ v1).setCell ⟨b,2,none⟩ v2).setCell ⟨b,3,none⟩ v3).setCell ⟨b,4,none⟩ v4).setCell ⟨b,5,none⟩ v5).setCell ⟨b,6,none⟩ v6
theorem Box.laid7 {w:World}{b ty:Nat}{u0 u1 u2 u3 u4 u5 u6:Value}(h:Box w b ty #[u0,u1,u2,u3,u4,u5,u6])(v0 v1 v2 v3 v4 v5 v6:Value):Box (Zt2 w b v0 v1 v2 v3 v4 v5 v6) b ty #[v0,v1,v2,v3,v4,v5,v6]:=by
 have:=((((((h.set 0 v0).set 1 v1).set 2 v2).set 3 v3).set 4 v4).set 5 v5).set 6 v6
 unfold Zt2
 simpa using this
theorem Zn1 {B:Nat}{w0 w:World}(h:Below B w0 w){b:Nat}(hb:B≤b)(v0 v1 v2 v3 v4 v5 v6:Value):Below B w0 (Zt2 w b v0 v1 v2 v3 v4 v5 v6) :=
 ((((((h.setCell (p:=⟨b,0,none⟩) hb _).setCell (p:=⟨b,1,none⟩) hb _).setCell (p:=⟨b,2,none⟩) hb _).setCell (p:=⟨b,3,none⟩) hb _).setCell (p:=⟨b,4,none⟩) hb _).setCell (p:=⟨b,5,none⟩) hb _).setCell (p:=⟨b,6,none⟩) hb _
theorem Box.seven {w:World}{b ty:Nat}{u0 u1 u2 u3 u4 u5 u6:Value}(h:Box w b ty #[u0,u1,u2,u3,u4,u5,u6]):w.cell? ⟨b,0,none⟩=some u0∧w.cell? ⟨b,1,none⟩=some u1∧w.cell? ⟨b,2,none⟩=some u2∧w.cell? ⟨b,3,none⟩=some u3∧w.cell? ⟨b,4,none⟩=some u4∧w.cell? ⟨b,5,none⟩=some u5∧w.cell? ⟨b,6,none⟩=some u6:=⟨h.cell 0,h.cell 1,h.cell 2,h.cell 3,h.cell 4,h.cell 5,h.cell 6⟩
set_option maxHeartbeats 4000000 in
theorem Zfq {w:World}{ba bm q:Nat}{f:SpM}{cs:Array Value}(X:Box w ba 97 cs)(hcs:cs[5]?=some (.map (some bm)))(M:ZcD w bm f q){v:Sp}(hv:okS v)(x:Zh6)(hq:q<1000000000) :
  Calls Tryz.prog 64 #[.pointer (some ⟨ba,0,none⟩),kvS v,ZjL x] w fun e w'=>(∃y,e=.returned y)∧ZcD w' bm (Zdk f v x) (q+1)∧w.grownBy w' (some bm):=by
 obtain⟨v1,v2⟩:=v
 obtain⟨xc,⟨xs,xm⟩,xk,xl,xt,xd⟩:=x
 show Calls Tryz.prog 64 #[.pointer (some ⟨ba,0,none⟩),.agg #[.int .i64 v1,.int .i64 v2],.agg #[.int .i64 xc,.int .i64 xs,.int .i64 xm,.int .i64 xk,.int .i64 xl,.int .i64 xt,.bool xd]] w _
 have X0:=Zaa ((Box.new w #[.int .i64 v1,.int .i64 v2] 90).old (.cells #[.int .i64 xc,.int .i64 xs,.int .i64 xm,.int .i64 xk,.int .i64 xl,.int .i64 xt,.bool xd] 94))
 have X1:=Zaa (Box.newAt (w:=w.alloc (.cells #[.int .i64 v1,.int .i64 v2] 90)) (n:=w.heap.size+1) (by simp) #[.int .i64 xc,.int .i64 xs,.int .i64 xm,.int .i64 xk,.int .i64 xl,.int .i64 xt,.bool xd] 94)
 have B0:=Zaa ((Zab w (.cells #[.int .i64 v1,.int .i64 v2] 90)).alloc (by simp) (.cells #[.int .i64 xc,.int .i64 xs,.int .i64 xm,.int .i64 xk,.int .i64 xl,.int .i64 xt,.bool xd] 94))
 have XA:=Zaa (X.keep B0.out)
 have MA:=Zaa (M.keep B0.out)
 have HC:=Zaa hcs
 have HV:=Zaa hv
 obtain⟨y,hy⟩:∃y,(f (v1,v2)).getD Zdq=y:=⟨_,rfl⟩
 obtain⟨sb,hsb⟩:∃sb,(f (v1,v2)).isSome=sb:=⟨_,rfl⟩
 have FY:=Zaa (show f (v1,v2)=if sb=true then some y else none by
  cases hf:f (v1,v2) with
  | none=>rw[hf]at hsb;rw[←hsb];rfl
  | some z=>rw[hf]at hsb hy;rw[←hsb,←hy];rfl)
 obtain⟨yc,⟨ys,ym⟩,yk,yl,yt,yd⟩:=y
 have HLK:=Zaa (fun(w':World) (hm:ZcD w' bm f q)=>show(Instr.lookup 95 (.map (some bm)) (.agg #[.int .i64 v1,.int .i64 v2]) true).run Tryz.prog w'=.ok (.tuple #[.agg #[.int .i64 yc,.int .i64 ys,.int .i64 ym,.int .i64 yk,.int .i64 yl,.int .i64 yt,.bool yd],.bool sb]) w' from by
  have:=hm.look hv
  rw[hy,hsb]at this
  exact this)
 clear X M hcs hv hy hsb
 go_enter Tryz.func64,Tryz.ntmps64
 go_upto_region 1 with fail
 generalize (w.alloc (.cells #[.int .i64 v1,.int .i64 v2] 90)).alloc (.cells #[.int .i64 xc,.int .i64 xs,.int .i64 xm,.int .i64 xk,.int .i64 xl,.int .i64 xt,.bool xd] 94)=w0 at *
 have DR:=Zaa ((Below.refl w0.heap.size w0).drew)
 have Y0:=Zaa (X0.out.keep DR.out)
 have Y1:=Zaa (X1.out.keep DR.out)
 have YA:=Zaa (XA.out.keep DR.out)
 have YM:=Zaa (MA.out.keep DR.out)
 have a5:=(YA.out.cell 5).trans HC.out
 obtain⟨z0,z1⟩:=Y0.out.two
 refine Zae 11 (.takes [0,1,2,3,4,5,6,7,8] (.one 9 (.one 10 (.fin 11 .done)))) (fun w'=>w'.cell? ⟨ba,5,none⟩=some (.map (some bm))∧w'.cell? ⟨w.heap.size,0,none⟩=some (.int .i64 v1)∧w'.cell? ⟨w.heap.size,1,none⟩=some (.int .i64 v2)∧ZcD w' bm f q) (by kernel_rfl) (by kernel_rfl) (by kernel_rfl) (fun _ _ _ _ _ h=>h) ⟨a5,z0,z1,YM.out⟩ (fun hHeld=>?_)
 simp only[Scr.takes]
 clear a5 z0 z1
 generalize w0.drew=w1 at *
 iterate 5
  refine Zac (v:=?_) rfl (by rfl) hHeld (fun w' hSw=>?_) ?_
  rotate_left
  ·(go_simp;try with_reducible rfl)
  try simp only[Act.put,Zag,Zah,Zai]
 refine Zac (v:=?_) rfl (by rfl) hHeld (fun w' hSw=>?_) ?_
 rotate_left
 ·have hlk:=HLK.out w' hSw.2.2.2
  go_simp
  try with_reducible rfl
 try simp only[Act.put,Zag,Zah,Zai]
 iterate 3
  refine Zac (v:=?_) rfl (by rfl) hHeld (fun w' hSw=>?_) ?_
  rotate_left
  ·(go_simp;try with_reducible rfl)
  try simp only[Act.put,Zag,Zah,Zai]
 have Z0:=Zaa (Box.new w1 #[.int .i64 0,.int .i64 0,.int .i64 0,.int .i64 0,.int .i64 0,.int .i64 0,.bool false] 94)
 have bb:=Zaa (Zab w1 (.cells #[.int .i64 0,.int .i64 0,.int .i64 0,.int .i64 0,.int .i64 0,.int .i64 0,.bool false] 94))
 have L0:=Zaa (Zn1 bb.out (Nat.le_refl _) (.int .i64 yc) (.int .i64 ys) (.int .i64 ym) (.int .i64 yk) (.int .i64 yl) (.int .i64 yt) (.bool yd))
 have Z1:=Zaa (Z0.out.laid7 (.int .i64 yc) (.int .i64 ys) (.int .i64 ym) (.int .i64 yk) (.int .i64 yl) (.int .i64 yt) (.bool yd))
 refine ZaC rfl (fun Kf hKf=>?_)
 go_simp
 refine hKf.out _ _ ⟨((YA.out.keep bb.out).cell 5).trans HC.out,(Y0.out.keep bb.out).two.1,(Y0.out.keep bb.out).two.2,YM.out.keep bb.out⟩ (fun hHeld=>?_)
 clear hKf
 try simp only[Act.put,Zag,Zah,Zai]
 refine ZaC rfl (fun Kf hKf=>?_)
 have Z2:=Zaa (Box.new w1 #[.int .i64 yc,.int .i64 ys,.int .i64 ym,.int .i64 yk,.int .i64 yl,.int .i64 yt,.bool yd] 94)
 have b2:=Zaa (Zab w1 (.cells #[.int .i64 yc,.int .i64 ys,.int .i64 ym,.int .i64 yk,.int .i64 yl,.int .i64 yt,.bool yd] 94))
 go_simp
 refine hKf.out _ _ ⟨((YA.out.keep b2.out).cell 5).trans HC.out,(Y0.out.keep b2.out).two.1,(Y0.out.keep b2.out).two.2,YM.out.keep b2.out⟩ (fun hHeld=>?_)
 clear hKf
 try simp only[Act.put,Zag,Zah,Zai]
 refine Zaz rfl (fun Kf hKf=>?_)
 go_simp
 refine hKf.out _ _ ?_
 clear hKf
 refine ZaH ?_
 have V0:=Zaa (Y0.out.keep b2.out)
 have V1:=Zaa (Y1.out.keep b2.out)
 have VA:=Zaa (YA.out.keep b2.out)
 have VM:=Zaa (YM.out.keep b2.out)
 have BW:=Zaa (B0.out.trans ((DR.out.trans (b2.out.mono DR.out.size)).mono B0.out.size))
 have GW:=Zaa (show w.grownBy (w1.alloc (.cells #[.int .i64 yc,.int .i64 ys,.int .i64 ym,.int .i64 yk,.int .i64 yl,.int .i64 yt,.bool yd] 94)) (some bm)from⟨BW.out.os,BW.out.tape,BW.out.output,BW.out.size,fun k hk _=>BW.out.block k hk⟩)
 clear hHeld Z0 Z1 bb L0 Y0 Y1 YA YM DR X0 X1 XA MA HLK BW
 generalize w1.alloc (.cells #[.int .i64 yc,.int .i64 ys,.int .i64 ym,.int .i64 yk,.int .i64 yl,.int .i64 yt,.bool yd] 94)=w2 at *
 obtain⟨d0,d1,d2,d3,d4,d5,d6⟩:=V1.out.seven
 generalize w1.heap.size=b6 at *
 obtain⟨e0,e1,e2,e3,e4,e5,e6⟩:=Z2.out.seven
 cases sb
 ·have OF:=Zaa (show Zdk f (v1,v2) ⟨xc,(xs,xm),xk,xl,xt,xd⟩=Zgd f (v1,v2) ⟨xc,(xs,xm),xk,xl,xt,xd⟩ by unfold Zdk;rw[FY.out];rfl)
  go_upto_region 3 with fail
  have DR3:=Zaa ((Below.refl w2.heap.size w2).drew)
  have U0:=Zaa (V0.out.keep DR3.out)
  have U1:=Zaa (V1.out.keep DR3.out)
  have UA:=Zaa (VA.out.keep DR3.out)
  have UM:=Zaa (VM.out.keep DR3.out)
  have a5:=(UA.out.cell 5).trans HC.out
  obtain⟨z0,z1⟩:=U0.out.two
  obtain⟨s0,s1,s2,s3,s4,s5,s6⟩:=U1.out.seven
  clear d0 d1 d2 d3 d4 d5 d6 e0 e1 e2 e3 e4 e5 e6
  refine Zae 6 (.takes [0,1,2,3,4,5] (.fin 6 .done)) (fun w'=>w'.cell? ⟨ba,5,none⟩=some (.map (some bm))∧(w'.cell? ⟨w.heap.size,0,none⟩=some (.int .i64 v1)∧w'.cell? ⟨w.heap.size,1,none⟩=some (.int .i64 v2))∧w'.cell? ⟨w.heap.size+1,0,none⟩=some (.int .i64 xc)∧w'.cell? ⟨w.heap.size+1,1,none⟩=some (.int .i64 xs)∧w'.cell? ⟨w.heap.size+1,2,none⟩=some (.int .i64 xm)∧w'.cell? ⟨w.heap.size+1,3,none⟩=some (.int .i64 xk)∧w'.cell? ⟨w.heap.size+1,4,none⟩=some (.int .i64 xl)∧w'.cell? ⟨w.heap.size+1,5,none⟩=some (.int .i64 xt)∧w'.cell? ⟨w.heap.size+1,6,none⟩=some (.bool xd)) (by kernel_rfl) (by kernel_rfl) (by kernel_rfl) (fun _ _ _ _ _ h=>h) ⟨a5,⟨z0,z1⟩,s0,s1,s2,s3,s4,s5,s6⟩ (fun hHeld=>?_)
  simp only[Scr.takes]
  clear a5 z0 z1 s0 s1 s2 s3 s4 s5 s6
  have GD:=Zaa (show w.grownBy w2.drew (some bm)from GW.out.trans ⟨rfl,rfl,rfl,Nat.le_refl _,fun _ _ _=>rfl⟩)
  generalize w2.drew=w3 at *
  iterate 6
   refine Zac (v:=?_) rfl (by rfl) hHeld (fun w' hSw=>?_) ?_
   rotate_left
   ·(go_simp;try with_reducible rfl)
   try simp only[Act.put,Zag,Zah,Zai]
  obtain⟨w4,hrun,M4,g4⟩:=UM.out.update HV.out ⟨xc,(xs,xm),xk,xl,xt,xd⟩ (show q<maxLen by simp only[maxLen];omega)
  have N4:=Zaa (show ZcD w4 bm (Zdk f (v1,v2) ⟨xc,(xs,xm),xk,xl,xt,xd⟩) (q+1) by rw[OF.out];exact M4)
  have H4:=Zaa g4
  simp only[kvS,ZjL]at hrun
  clear M4 g4
  refine Zaz rfl (fun Kf hKf=>?_)
  go_simp
  refine hKf.out _ _ ?_
  clear hKf
  refine ZaH ?_
  clear hrun hHeld
  go_wp2
  go_end0
  exact⟨⟨_,rfl⟩,N4.out,GD.out.trans H4.out⟩
 ·by_cases hlt:xc<yc
  ·have OF:=Zaa (show Zdk f (v1,v2) ⟨xc,(xs,xm),xk,xl,xt,xd⟩=Zgd f (v1,v2) ⟨xc,(xs,xm),xk,xl,xt,xd⟩ by unfold Zdk;rw[FY.out];simp only[if_true,if_pos hlt])
   go_upto_region 3 with fail
   have DR3:=Zaa ((Below.refl w2.heap.size w2).drew)
   have U0:=Zaa (V0.out.keep DR3.out)
   have U1:=Zaa (V1.out.keep DR3.out)
   have UA:=Zaa (VA.out.keep DR3.out)
   have UM:=Zaa (VM.out.keep DR3.out)
   have a5:=(UA.out.cell 5).trans HC.out
   obtain⟨z0,z1⟩:=U0.out.two
   obtain⟨s0,s1,s2,s3,s4,s5,s6⟩:=U1.out.seven
   clear d0 d1 d2 d3 d4 d5 d6 e0 e1 e2 e3 e4 e5 e6
   refine Zae 6 (.takes [0,1,2,3,4,5] (.fin 6 .done)) (fun w'=>w'.cell? ⟨ba,5,none⟩=some (.map (some bm))∧(w'.cell? ⟨w.heap.size,0,none⟩=some (.int .i64 v1)∧w'.cell? ⟨w.heap.size,1,none⟩=some (.int .i64 v2))∧w'.cell? ⟨w.heap.size+1,0,none⟩=some (.int .i64 xc)∧w'.cell? ⟨w.heap.size+1,1,none⟩=some (.int .i64 xs)∧w'.cell? ⟨w.heap.size+1,2,none⟩=some (.int .i64 xm)∧w'.cell? ⟨w.heap.size+1,3,none⟩=some (.int .i64 xk)∧w'.cell? ⟨w.heap.size+1,4,none⟩=some (.int .i64 xl)∧w'.cell? ⟨w.heap.size+1,5,none⟩=some (.int .i64 xt)∧w'.cell? ⟨w.heap.size+1,6,none⟩=some (.bool xd)) (by kernel_rfl) (by kernel_rfl) (by kernel_rfl) (fun _ _ _ _ _ h=>h) ⟨a5,⟨z0,z1⟩,s0,s1,s2,s3,s4,s5,s6⟩ (fun hHeld=>?_)
   simp only[Scr.takes]
   clear a5 z0 z1 s0 s1 s2 s3 s4 s5 s6
   have GD:=Zaa (show w.grownBy w2.drew (some bm)from GW.out.trans ⟨rfl,rfl,rfl,Nat.le_refl _,fun _ _ _=>rfl⟩)
   generalize w2.drew=w3 at *
   iterate 6
    refine Zac (v:=?_) rfl (by rfl) hHeld (fun w' hSw=>?_) ?_
    rotate_left
    ·(go_simp;try with_reducible rfl)
    try simp only[Act.put,Zag,Zah,Zai]
   obtain⟨w4,hrun,M4,g4⟩:=UM.out.update HV.out ⟨xc,(xs,xm),xk,xl,xt,xd⟩ (show q<maxLen by simp only[maxLen];omega)
   have N4:=Zaa (show ZcD w4 bm (Zdk f (v1,v2) ⟨xc,(xs,xm),xk,xl,xt,xd⟩) (q+1) by rw[OF.out];exact M4)
   have H4:=Zaa g4
   simp only[kvS,ZjL]at hrun
   clear M4 g4
   refine Zaz rfl (fun Kf hKf=>?_)
   go_simp
   refine hKf.out _ _ ?_
   clear hKf
   refine ZaH ?_
   clear hrun hHeld
   go_wp2
   go_end0
   exact⟨⟨_,rfl⟩,N4.out,GD.out.trans H4.out⟩
  ·have OF:=Zaa (show Zdk f (v1,v2) ⟨xc,(xs,xm),xk,xl,xt,xd⟩=f by unfold Zdk;rw[FY.out];simp only[if_true,if_neg hlt])
   clear e1 e2 e3 e4 e5 e6 d1 d2 d3 d4 d5 d6
   go_wp2
   go_end0
   exact⟨⟨_,rfl⟩,by rw[OF.out];exact VM.out.mono (Nat.le_succ _),GW.out⟩
def ZgT (f:SpM)(left:Lit→Bool)(best:Sp)(sm:Bool):Prop :=
 (sm=false→best=(0,0))∧(sm=true→∃x,f best=some x∧x.done=false) ∧
 ∀v x,f v=some x→x.done=false→left (kkS v)=false→sm=true∧∃y,f best=some y∧y.cost≤x.cost
theorem ZgT.small {f:SpM}{left:Lit→Bool}{best:Sp}{sm:Bool}(h:ZgT f left best sm)(h0:∀v x,f v=some x→okS v):okS best:=by
 cases sm
 ·rw[h.1 rfl]
  exact⟨by simp,by simp⟩
 ·obtain⟨x,hx,_⟩:=h.2.1 rfl
  exact h0 _ _ hx
section
variable {f:SpM} {left:Lit→Bool} {best v:Sp} {sm:Bool} {x:Zh6}
theorem ZmU (h0:∀v x,f v=some x→okS v)(hv:f v=some x){u:Sp}{y:Zh6}(hu:f u=some y)(h:(left (kkS u)&&!(kkS u).sameKey (kkS v))=false):u=v∨left (kkS u)=false:=by
 cases hl:left (kkS u)
 ·exact .inr rfl
 ·rw[hl]at h
  simp only[Bool.true_and,Bool.not_eq_false']at h
  exact .inl (Zjw (h0 _ _ hu) (h0 _ _ hv) ((WideAt.sameKey_iff (Zd0.key (Zdp v (h0 _ _ hv)))).1 h))
theorem ZgT.skip (h:ZgT f left best sm)(h0:∀v x,f v=some x→okS v)(hv:f v=some x)(hs:x.done=true∨(sm=true∧∃y,f best=some y∧y.cost≤x.cost)):ZgT f (fun z=>left z&&!z.sameKey (kkS v)) best sm:=by
 refine⟨h.1,h.2.1,fun u y hu hd hl=>?_⟩
 rcases ZmU h0 hv hu hl with rfl|hl
 ·rw[hv]at hu
  injection hu with hu
  subst hu
  rcases hs with hs|hs
  ·rw[hs]at hd;cases hd
  ·exact hs
 ·exact h.2.2 u y hu hd hl
theorem ZgT.take (h:ZgT f left best sm)(h0:∀v x,f v=some x→okS v)(hv:f v=some x)(hd:x.done=false)(hs:sm=false∨∃y,f best=some y∧x.cost≤y.cost):ZgT f (fun z=>left z&&!z.sameKey (kkS v)) v true:=by
 refine⟨fun e=>(by cases e),fun _=>⟨x,hv,hd⟩,fun u y hu hyd hl=>⟨rfl,x,hv, ?_⟩⟩
 rcases ZmU h0 hv hu hl with rfl|hl
 ·rw[hv]at hu
  injection hu with hu
  subst hu
  exact Int.le_refl _
 ·obtain⟨h1,z,h2,h3⟩:=h.2.2 u y hu hyd hl
  rcases hs with hs|⟨z',h4,h5⟩
  ·rw[h1]at hs;cases hs
  ·rw[h2]at h4
   injection h4 with h4
   subst h4
   omega
end
theorem ZsG {w w':World}(hb:Below w.heap.size w w'):w.grownBy w' none:=⟨hb.os,hb.tape,hb.output,hb.size,fun k hk _=>hb.block k hk⟩
theorem Zgf (w:World)(b:Nat)(u v:Value):w.grownBy ((w.setCell ⟨b,0,none⟩ u).setCell ⟨b,1,none⟩ v) (some b) :=
 ⟨rfl,rfl,rfl,by simp[World.setCell],fun k _ hne=>(heap_setCell_other _ _ _ _ (fun e=>hne (by rw[e]))).trans (heap_setCell_other _ _ _ _ (fun e=>hne (by rw[e])))⟩
def ZsH (f:SpM)(w:World)(e:Ending)(w':World):Prop :=
 Below w.heap.size w w'∧∃best sm,e=.returned (.tuple #[kvS best,.bool sm])∧(sm=false→∀v x,f v=some x→x.done=true) ∧
  (sm=true→∃x,f best=some x∧x.done=false∧∀v y,f v=some y→y.done=false→x.cost≤y.cost)
theorem ZgT.fin {f:SpM}{left:Lit→Bool}{best:Sp}{sm:Bool}(h:ZgT f left best sm)(hl:∀kl,left kl=false):(sm=false→∀v x,f v=some x→x.done=true)∧(sm=true→∃x,f best=some x∧x.done=false∧∀v y,f v=some y→y.done=false→x.cost≤y.cost):=by
 refine⟨fun hs v x hx=>?_,fun hs=>?_⟩
 ·cases hd:x.done
  ·have:=(h.2.2 v x hx hd (hl _)).1
   rw[hs]at this;cases this
  ·rfl
 ·obtain⟨x,hx,hd⟩:=h.2.1 hs
  refine⟨x,hx,hd,fun v y hv hyd=>?_⟩
  obtain⟨_,z,h1,h2⟩:=h.2.2 v y hv hyd (hl _)
  rw[hx]at h1
  injection h1 with h1
  subst h1
  exact h2
set_option maxHeartbeats 8000000 in
theorem Zjx {w:World}{ba bm q:Nat}{f:SpM}{cs:Array Value}(X:Box w ba 97 cs)(hcs:cs[5]?=some (.map (some bm)))(M:ZcD w bm f q) :
  Calls Tryz.prog 28 #[.pointer (some ⟨ba,0,none⟩)] w (ZsH f w):=by
 have XR:=Zaa ((Box.new w #[.int .i64 0,.int .i64 0] 90).old (.cells #[.int .i64 0,.int .i64 0] 90))
 have XB:=Zaa (Box.newAt (w:=w.alloc (.cells #[.int .i64 0,.int .i64 0] 90)) (n:=w.heap.size+1) (by simp) #[.int .i64 0,.int .i64 0] 90)
 have B0:=Zaa ((Zab w (.cells #[.int .i64 0,.int .i64 0] 90)).alloc (by simp) (.cells #[.int .i64 0,.int .i64 0] 90))
 have S0:=Zaa (show((w.alloc (.cells #[.int .i64 0,.int .i64 0] 90)).alloc (.cells #[.int .i64 0,.int .i64 0] 90)).heap.size=w.heap.size+1+1 by simp)
 have LA:=Zaa X.lt
 have XA:=Zaa X
 have MA:=Zaa (M.keep B0.out)
 have HC:=Zaa hcs
 have OK0:=Zaa M.1
 have LB:=Zaa M.lt
 clear X M hcs
 go_enter Tryz.func28,Tryz.ntmps28
 go_upto_region 2 with fail
 generalize (w.alloc (.cells #[.int .i64 0,.int .i64 0] 90)).alloc (.cells #[.int .i64 0,.int .i64 0] 90)=w0 at *
 obtain⟨h0,D,n,h1,hn,h3,h4⟩:=MA.out
 have H3:=Zaa h3
 have H4:=Zaa h4
 have a5:=((XA.out.keep B0.out).cell 5).trans HC.out
 clear h0 h3 h4
 go_wp2_with (at_range;refine wpList_range_own _ rfl _ 95 rfl 90 _ Zd0 Tryz.underlying95 Zev bm n D rfl h1 ?_;intro w1 hrg0 hg0 hs0)
 go_frame
 have I0:=Zaa (show ZgT f (Maps.has D) (0,0) false from⟨fun _=>rfl,fun e=>(by cases e),fun v x hv _ hl=>by
  have:=(H3.out v x hv).1
  rw[this]at hl
  cases hl⟩)
 have XB1:=Zaa (XB.out.grown hg0 (by simp))
 have XR1:=Zaa (XR.out.grown hg0 (by simp))
 have B1:=Zaa (B0.out.grown hg0 B0.out.size (fun j hj=>by cases hj))
 have M1:=Zaa (MA.out.beside hg0 (by simp))
 clear a5 XB XR hg0 hs0 h1
 go_loopw [5] (fun u5 wr=>∃(left:Lit→Bool) (cnt:Nat) (b1 b2:Int) (sm:Bool),u5=.bool sm∧wr.ranges Tryz.prog 90 Zev bm w0.heap.size n D left cnt∧Hid (ZgT f left (b1,b2) sm)∧Hid (Box wr (w.heap.size+1) 90 #[.int .i64 b1,.int .i64 b2])∧Hid (Box wr w.heap.size 90 #[.int .i64 0,.int .i64 0])∧Hid (Below w.heap.size w wr)∧Hid (ZcD wr bm f q)) (fun _ wr=>wr.rangeLeft bm w0.heap.size)
 case atStart=>exact⟨_,_,0,0,false,rfl,hrg0,I0,XB1,XR1,B1,M1⟩
 case round =>
  clear hrg0 I0 XB1 XR1 B1 M1 B0 MA
  obtain⟨left,cnt,b1,b2,sm,rfl,hrg,NI,XB,XR,BW,MW⟩:=hrel
  go_wp2_with (at_next;refine wpList_next_ranges _ rfl _ rfl 90 Zd0 Zev (fun v=>v) (fun v=>v) (fun key kl hk=>⟨key,rfl⟩) (fun v y hv=>⟨v,rfl⟩) bm w0.heap.size n D left cnt rfl hrg ?_ ?_)
  ·intro hc0 hl0
   have FN:=Zaa (NI.out.fin hl0)
   have b0:=XB.out.two.1
   have b1':=XB.out.two.2
   have f0:=XR.out.frozen 0
   have f1:=XR.out.frozen 1
   obtain⟨r0,r1⟩:=XR.out.two
   have XE:=Zaa (XR.out.set2 (.int .i64 b1) (.int .i64 b2))
   have BE:=Zaa ((BW.out.setCell (p:=⟨w.heap.size,0,none⟩) (Nat.le_refl _) (.int .i64 b1)).setCell (p:=⟨w.heap.size,1,none⟩) (Nat.le_refl _) (.int .i64 b2))
   clear hl0 hrg
   go_wp2
   obtain⟨z0,z1⟩:=XE.out.two
   exact bodyPost_ret (v:=.tuple #[.agg #[.int .i64 b1,.int .i64 b2],.bool sm]) (by simp[results,Tryz.results28,go_sem,z0,z1]) rfl ⟨BE.out,(b1,b2),sm,rfl,FN.out.1,FN.out.2⟩
  ·intro xk xv kl yd yp w2 cnt2 hkey hlk hv hat hrg2 hlt hg2 hs2 hen
   obtain⟨⟨k1,k2⟩,⟨xc,⟨xs,xm⟩,xkd,xl,xt,xd⟩,hv',ekl⟩:=H4.out xk kl hkey (Maps.has_true_of_atKey hat)
   subst ekl
   have okv:=OK0.out _ _ hv'
   obtain rfl:xk=.agg #[.int .i64 k1,.int .i64 k2]:=Zd0.inj hkey (Zdp _ okv)
   obtain⟨x',ex,ed⟩:=Zfp hv
   have exx:=ZfQ (ed.symm.trans ((hat (.agg [])).symm.trans ((H3.out _ _ hv').2 (.agg []))))
   subst exx
   obtain rfl:xv=.agg #[.int .i64 xc,.int .i64 xs,.int .i64 xm,.int .i64 xkd,.int .i64 xl,.int .i64 xt,.bool xd]:=ex
   have hit:w0.heap.size≠w.heap.size+1:=by have:=S0.out;omega
   have hir:w0.heap.size≠w.heap.size:=by have:=S0.out;omega
   have SKIP:=Zaa (fun hs=>NI.out.skip OK0.out hv' hs)
   have TAKE:=Zaa (fun hs=>NI.out.take OK0.out hv' hs)
   have OKB:=Zaa (NI.out.small OK0.out)
   have XB2:=Zaa (XB.out.grown hg2 (by simpa using hit))
   have XR2:=Zaa (XR.out.grown hg2 (by simpa using hir))
   have B2:=Zaa (BW.out.grown hg2 BW.out.size (fun k e=>by cases e;have:=S0.out;omega))
   have M2:=Zaa (MW.out.beside hg2 (by have:=LB.out;have:=S0.out;simp;omega))
   have RG:=Zaa hrg2
   have LTC:=Zaa hlt
   have HLE:=Zaa hrg.left_eq
   have HIT:=Zaa hit
   have NII:=Zaa NI.out
   have bb:=(Zab w2 (.cells #[.int .i64 k1,.int .i64 k2] 90)).alloc (by simp) (.cells #[.int .i64 xc,.int .i64 xs,.int .i64 xm,.int .i64 xkd,.int .i64 xl,.int .i64 xt,.bool xd] 94)
   have XK:=Zaa ((Box.new w2 #[.int .i64 k1,.int .i64 k2] 90).old (.cells #[.int .i64 xc,.int .i64 xs,.int .i64 xm,.int .i64 xkd,.int .i64 xl,.int .i64 xt,.bool xd] 94))
   have XS:=Zaa (Box.newAt (w:=w2.alloc (.cells #[.int .i64 k1,.int .i64 k2] 90)) (n:=w2.heap.size+1) (by simp) #[.int .i64 xc,.int .i64 xs,.int .i64 xm,.int .i64 xkd,.int .i64 xl,.int .i64 xt,.bool xd] 94)
   have XB3:=Zaa (XB2.out.keep bb)
   have XR3:=Zaa (XR2.out.keep bb)
   have B3:=Zaa (B2.out.trans (bb.mono B2.out.size))
   have M3:=Zaa (M2.out.keep bb)
   have R3:=Zaa (RG.out.kept (ZsG bb) (by simp) (by simp))
   clear hs2 hkey hlk hv hat hrg2 hg2 hrg hlt bb ed okv hit hir XB XR BW MW NI
   go_upto_region 6 with fail
   clear hen
   generalize (w2.alloc (.cells #[.int .i64 k1,.int .i64 k2] 90)).alloc (.cells #[.int .i64 xc,.int .i64 xs,.int .i64 xm,.int .i64 xkd,.int .i64 xl,.int .i64 xt,.bool xd] 94)=w3 at *
   obtain⟨s0,s1,s2,s3,s4,s5,s6⟩:=XS.out.seven
   cases xd
   ·go_upto_region 7 with fail
    obtain⟨y,hy⟩:∃y,(f (b1,b2)).getD Zdq=y:=⟨_,rfl⟩
    have YS:=Zaa (show sm=true→f (b1,b2)=some y from fun e=>by
     obtain⟨z,hz,_⟩:=NII.out.2.1 e
     rw[hz]at hy ⊢
     exact congrArg some hy)
    obtain⟨yc,⟨ys,ym⟩,yk,yl,yt,yd⟩:=y
    have HLK:=Zaa (fun(w':World) (hm:ZcD w' bm f q)=>show(Instr.lookup 95 (.map (some bm)) (.agg #[.int .i64 b1,.int .i64 b2]) false).run Tryz.prog w'=.ok (.agg #[.int .i64 yc,.int .i64 ys,.int .i64 ym,.int .i64 yk,.int .i64 yl,.int .i64 yt,.bool yd]) w' from by
     have:=hm.at OKB.out
     rw[hy]at this
     exact this)
    clear hy s0 s1 s2 s3 s4 s5 s6
    have DR:=Zaa ((Below.refl w3.heap.size w3).drew)
    have XAD:=Zaa (XA.out.keepB (B3.out.trans (DR.out.mono B3.out.size)) LA.out)
    have XBD:=Zaa (XB3.out.keep DR.out)
    have XRD:=Zaa (XR3.out.keep DR.out)
    have XKD:=Zaa (XK.out.keep DR.out)
    have XSD:=Zaa (XS.out.keep DR.out)
    have MD:=Zaa (M3.out.keep DR.out)
    have BD:=Zaa (B3.out.trans (DR.out.mono B3.out.size))
    have RD:=Zaa (R3.out.kept (ZsG DR.out) (by simp) (by simp))
    have a5:=(XAD.out.cell 5).trans HC.out
    obtain⟨z0,z1⟩:=XBD.out.two
    refine Zae 7 (.takes [0,1,2,3,4,5] (.one 6 (.fin 7 .done))) (fun w'=>w'.cell? ⟨ba,5,none⟩=some (.map (some bm))∧w'.cell? ⟨w.heap.size+1,0,none⟩=some (.int .i64 b1)∧w'.cell? ⟨w.heap.size+1,1,none⟩=some (.int .i64 b2)∧ZcD w' bm f q) (by kernel_rfl) (by kernel_rfl) (by kernel_rfl) (fun _ _ _ _ _ h=>h) ⟨a5,z0,z1,MD.out⟩ (fun hHeld=>?_)
    simp only[Scr.takes]
    clear a5 z0 z1 XB3 XR3 XK XS M3 B3 R3 DR
    generalize w3.drew=w4 at *
    iterate 5
     refine Zac (v:=?_) rfl (by rfl) hHeld (fun w' hSw=>?_) ?_
     rotate_left
     ·(go_simp;try with_reducible rfl)
     try simp only[Act.put,Zag,Zah,Zai]
    refine Zac (v:=?_) rfl (by rfl) hHeld (fun w' hSw=>?_) ?_
    rotate_left
    ·have hlk:=HLK.out w' hSw.2.2.2
     go_simp
     try with_reducible rfl
    try simp only[Act.put,Zag,Zah,Zai]
    have Z0:=Zaa (Box.new w4 #[.int .i64 0,.int .i64 0,.int .i64 0,.int .i64 0,.int .i64 0,.int .i64 0,.bool false] 94)
    have z1:=Zaa (Zab w4 (.cells #[.int .i64 0,.int .i64 0,.int .i64 0,.int .i64 0,.int .i64 0,.int .i64 0,.bool false] 94))
    refine ZaC rfl (fun Kf hKf=>?_)
    go_simp
    refine hKf.out _ _ ⟨((XAD.out.keep z1.out).cell 5).trans HC.out,(XBD.out.keep z1.out).two.1,(XBD.out.keep z1.out).two.2,MD.out.keep z1.out⟩ (fun hHeld=>?_)
    clear hKf
    try simp only[Act.put,Zag,Zah,Zai]
    refine Zaz rfl (fun Kf hKf=>?_)
    have bb:=Zab w4 (.cells #[.int .i64 yc,.int .i64 ys,.int .i64 ym,.int .i64 yk,.int .i64 yl,.int .i64 yt,.bool yd] 94)
    have XY:=Zaa (Box.new w4 #[.int .i64 yc,.int .i64 ys,.int .i64 ym,.int .i64 yk,.int .i64 yl,.int .i64 yt,.bool yd] 94)
    have XB4:=Zaa (XBD.out.keep bb)
    have XR4:=Zaa (XRD.out.keep bb)
    have XK4:=Zaa (XKD.out.keep bb)
    have XS4:=Zaa (XSD.out.keep bb)
    have M4:=Zaa (MD.out.keep bb)
    have B4:=Zaa (BD.out.trans (bb.mono BD.out.size))
    have R4:=Zaa (RD.out.kept (ZsG bb) (by simp) (by simp))
    go_simp
    refine hKf.out _ _ ?_
    clear hKf
    refine ZaH ?_
    clear hHeld Z0 z1 bb XAD XBD XRD XKD XSD MD BD RD HLK
    generalize w4.alloc (.cells #[.int .i64 yc,.int .i64 ys,.int .i64 ym,.int .i64 yk,.int .i64 yl,.int .i64 yt,.bool yd] 94)=w5 at *
    generalize w4.heap.size=b8 at *
    obtain⟨e0,e1,e2,e3,e4,e5,e6⟩:=XY.out.seven
    obtain⟨s0,s1,s2,s3,s4,s5,s6⟩:=XS4.out.seven
    obtain⟨k0,k1'⟩:=XK4.out.two
    obtain⟨z0,z1⟩:=XB4.out.two
    clear e1 e2 e3 e4 e5 e6 s1 s2 s3 s4 s5 s6
    cases sm
    ·skip
     have NS:=Zaa (TAKE.out rfl (.inl rfl))
     have g0:=XB4.out.frozen 0
     have g1:=XB4.out.frozen 1
     have XN:=Zaa (XB4.out.set2 (.int .i64 k1) (.int .i64 k2))
     have XRN:=Zaa (XR4.out.grown (Zgf w5 (w.heap.size+1) (.int .i64 k1) (.int .i64 k2)) (by simp))
     have BN:=Zaa ((B4.out.setCell (p:=⟨w.heap.size+1,0,none⟩) (Nat.le_succ _) (.int .i64 k1)).setCell (p:=⟨w.heap.size+1,1,none⟩) (Nat.le_succ _) (.int .i64 k2))
     have MN:=Zaa (M4.out.beside (Zgf w5 (w.heap.size+1) (.int .i64 k1) (.int .i64 k2)) (by have:=LB.out;simp;omega))
     have RN:=Zaa (R4.out.kept (Zgf w5 (w.heap.size+1) (.int .i64 k1) (.int .i64 k2)) (by have:=LB.out;simp;omega) (by have:=HIT.out;simpa using this))
     clear R4
     go_wp2
     go_roundw
     case rel=>exact⟨_,cnt2,k1,k2,true,rfl,RN.out,NS,XN,XRN,BN,MN⟩
     case measure=>rw[RN.out.left_eq,HLE.out];exact LTC.out
    ·by_cases hc1:xc<yc
     ·skip
      have NS:=Zaa (TAKE.out rfl (.inr ⟨_,YS.out rfl,by simp only;omega⟩))
      have g0:=XB4.out.frozen 0
      have g1:=XB4.out.frozen 1
      have XN:=Zaa (XB4.out.set2 (.int .i64 k1) (.int .i64 k2))
      have XRN:=Zaa (XR4.out.grown (Zgf w5 (w.heap.size+1) (.int .i64 k1) (.int .i64 k2)) (by simp))
      have BN:=Zaa ((B4.out.setCell (p:=⟨w.heap.size+1,0,none⟩) (Nat.le_succ _) (.int .i64 k1)).setCell (p:=⟨w.heap.size+1,1,none⟩) (Nat.le_succ _) (.int .i64 k2))
      have MN:=Zaa (M4.out.beside (Zgf w5 (w.heap.size+1) (.int .i64 k1) (.int .i64 k2)) (by have:=LB.out;simp;omega))
      have RN:=Zaa (R4.out.kept (Zgf w5 (w.heap.size+1) (.int .i64 k1) (.int .i64 k2)) (by have:=LB.out;simp;omega) (by have:=HIT.out;simpa using this))
      clear R4
      go_wp2
      go_roundw
      case rel=>exact⟨_,cnt2,k1,k2,true,rfl,RN.out,NS,XN,XRN,BN,MN⟩
      case measure=>rw[RN.out.left_eq,HLE.out];exact LTC.out
     ·by_cases hc2:xc=yc
      ·subst hc2
       by_cases hc3:k1<b1
       ·skip
        have NS:=Zaa (TAKE.out rfl (.inr ⟨_,YS.out rfl,Int.le_refl _⟩))
        have g0:=XB4.out.frozen 0
        have g1:=XB4.out.frozen 1
        have XN:=Zaa (XB4.out.set2 (.int .i64 k1) (.int .i64 k2))
        have XRN:=Zaa (XR4.out.grown (Zgf w5 (w.heap.size+1) (.int .i64 k1) (.int .i64 k2)) (by simp))
        have BN:=Zaa ((B4.out.setCell (p:=⟨w.heap.size+1,0,none⟩) (Nat.le_succ _) (.int .i64 k1)).setCell (p:=⟨w.heap.size+1,1,none⟩) (Nat.le_succ _) (.int .i64 k2))
        have MN:=Zaa (M4.out.beside (Zgf w5 (w.heap.size+1) (.int .i64 k1) (.int .i64 k2)) (by have:=LB.out;simp;omega))
        have RN:=Zaa (R4.out.kept (Zgf w5 (w.heap.size+1) (.int .i64 k1) (.int .i64 k2)) (by have:=LB.out;simp;omega) (by have:=HIT.out;simpa using this))
        clear R4
        go_wp2
        go_roundw
        case rel=>exact⟨_,cnt2,k1,k2,true,rfl,RN.out,NS,XN,XRN,BN,MN⟩
        case measure=>rw[RN.out.left_eq,HLE.out];exact LTC.out
       ·by_cases hc4:k1=b1
        ·subst hc4
         by_cases hc5:k2<b2
         ·skip
          have NS:=Zaa (TAKE.out rfl (.inr ⟨_,YS.out rfl,Int.le_refl _⟩))
          have g0:=XB4.out.frozen 0
          have g1:=XB4.out.frozen 1
          have XN:=Zaa (XB4.out.set2 (.int .i64 k1) (.int .i64 k2))
          have XRN:=Zaa (XR4.out.grown (Zgf w5 (w.heap.size+1) (.int .i64 k1) (.int .i64 k2)) (by simp))
          have BN:=Zaa ((B4.out.setCell (p:=⟨w.heap.size+1,0,none⟩) (Nat.le_succ _) (.int .i64 k1)).setCell (p:=⟨w.heap.size+1,1,none⟩) (Nat.le_succ _) (.int .i64 k2))
          have MN:=Zaa (M4.out.beside (Zgf w5 (w.heap.size+1) (.int .i64 k1) (.int .i64 k2)) (by have:=LB.out;simp;omega))
          have RN:=Zaa (R4.out.kept (Zgf w5 (w.heap.size+1) (.int .i64 k1) (.int .i64 k2)) (by have:=LB.out;simp;omega) (by have:=HIT.out;simpa using this))
          clear R4
          go_wp2
          go_roundw
          case rel=>exact⟨_,cnt2,k1,k2,true,rfl,RN.out,NS,XN,XRN,BN,MN⟩
          case measure=>rw[RN.out.left_eq,HLE.out];exact LTC.out
         ·skip
          have NS:=Zaa (SKIP.out (.inr ⟨rfl,_,YS.out rfl,Int.le_refl _⟩))
          have R5:=Zaa (R4.out)
          clear R4
          go_wp2
          go_roundw
          case rel=>exact⟨_,cnt2,k1,b2,true,rfl,R5.out,NS,XB4,XR4,B4,M4⟩
          case measure=>rw[R5.out.left_eq,HLE.out];exact LTC.out
        ·have hb4:(k1==b1)=false:=by simpa using hc4
         have NS:=Zaa (SKIP.out (.inr ⟨rfl,_,YS.out rfl,Int.le_refl _⟩))
         have R5:=Zaa (R4.out)
         clear R4
         go_wp2
         go_roundw
         case rel=>exact⟨_,cnt2,b1,b2,true,rfl,R5.out,NS,XB4,XR4,B4,M4⟩
         case measure=>rw[R5.out.left_eq,HLE.out];exact LTC.out
      ·have hb2:(xc==yc)=false:=by simpa using hc2
       have NS:=Zaa (SKIP.out (.inr ⟨rfl,_,YS.out rfl,by simp only;omega⟩))
       have R5:=Zaa (R4.out)
       clear R4
       go_wp2
       go_roundw
       case rel=>exact⟨_,cnt2,b1,b2,true,rfl,R5.out,NS,XB4,XR4,B4,M4⟩
       case measure=>rw[R5.out.left_eq,HLE.out];exact LTC.out
   ·have NS:=Zaa (SKIP.out (.inl rfl))
    clear s1 s2 s3 s4 s5
    go_wp2
    go_roundw
    case rel=>exact⟨_,cnt2,b1,b2,sm,rfl,R3.out,NS,XB3,XR3,B3,M3⟩
    case measure=>rw[R3.out.left_eq,HLE.out];exact LTC.out
end Go.Proofs.YtfmnagcglhlicaaGreat
