/- Texts melted into one: The contract of Reverse on an own row of moves: it ends. Conditions: the row's cells are numbers. | The moves as they are appended; Reverse on them; spots side by side. Conditions: the row is the call's own. | The test of Align on marks: is it the end? Conditions: the net and  -/
import Derived.Test.YtfmnagcglhlicaaGreatTopSaidK41
import Derived.ChangeKeysEq
set_option maxRecDepth 100000
namespace Go.Proofs.YtfmnagcglhlicaaGreat
open Go.RowKit
def Zjz (w:World)(g n:Nat):Prop:=∃cs:Array Value,Box w g 92 cs∧n*3≤cs.size∧∀(j:Nat) (v:Value),j<n*3→cs[j]?=some v→∃x:Int,v=.int .i64 x
section
variable {w w':World} {g n:Nat}
theorem Zjz.at (h:Zjz w g n){j:Nat}(hj:j<n*3):∃x:Int,w.cell? ⟨g,j,none⟩=some (.int .i64 x):=by
 obtain⟨cs,h1,h2,h3⟩:=h
 obtain⟨x,hx⟩:=h3 j _ hj (Array.getElem?_eq_getElem (by omega))
 exact⟨x,by rw[h1.cell,Array.getElem?_eq_getElem (by omega),hx]⟩
theorem Zjz.frozen (h:Zjz w g n)(j:Nat):w.frozen? ⟨g,j,none⟩=false:=by
 obtain⟨cs,h1,_⟩:=h
 exact h1.frozen j
theorem Zjz.put (h:Zjz w g n)(j:Nat)(x:Int):Zjz (w.setCell ⟨g,j,none⟩ (.int .i64 x)) g n:=by
 obtain⟨cs,h1,h2,h3⟩:=h
 refine⟨_,h1.set j (.int .i64 x),by simpa using h2,fun i v hi hv=>?_⟩
 rw[Array.getElem?_setIfInBounds]at hv
 split at hv
 ·split at hv
  ·injection hv with hv;exact⟨x,hv.symm⟩
  ·cases hv
 ·exact h3 i v hi hv
theorem Zjz.keep (h:Zjz w g n)(hb:Below w.heap.size w w'):Zjz w' g n:=by
 obtain⟨cs,h1,h2⟩:=h
 exact⟨cs,h1.keep hb,h2⟩
end
def Zs2 (w:World)(b j:Nat)(x0 x1 x2:Int):World:=((w.setCell ⟨b,j,none⟩ (.int .i64 x0)).setCell ⟨b,j+1,none⟩ (.int .i64 x1)).setCell ⟨b,j+2,none⟩ (.int .i64 x2)
theorem Zjz.lay {w:World}{g n:Nat}(h:Zjz w g n)(j:Nat)(x0 x1 x2:Int):Zjz (Zs2 w g j x0 x1 x2) g n:=((h.put j x0).put (j+1) x1).put (j+2) x2
theorem ZmX (w:World)(b j:Nat)(v:Value):w.grownBy (w.setCell ⟨b,j,none⟩ v) (some b) :=
 ⟨rfl,rfl,rfl,by simp[World.setCell],fun k _ hne=>heap_setCell_other _ _ _ _ (fun e=>hne (by rw[e]))⟩
theorem ZiT (w:World)(b j:Nat)(x0 x1 x2:Int):w.grownBy (Zs2 w b j x0 x1 x2) (some b):=((ZmX w b j _).trans (ZmX _ b (j+1) _)).trans (ZmX _ b (j+2) _)
set_option maxHeartbeats 4000000 in
theorem Zio {w:World}{g n cap:Nat}(h:Zjz w g n)(hn:n≤100000) :
  Calls Tryz.prog 30 #[.slice (some ⟨g,0,none⟩) n cap] w fun e w'=>(∃y,e=.returned y)∧Zjz w' g n∧w.grownBy w' (some g):=by
 have H:=Zaa h
 clear h
 go_enter Tryz.func30,Tryz.ntmps30
 go_wp2
 go_loopw [2,3] (fun iv jv wr=>∃(i:Nat) (j:Int),iv=.int .i64 i∧jv=.int .i64 j∧j+i+1=n∧Hid (Zjz wr g n)∧Hid (w.grownBy wr (some g))) (fun iv _ _=>n-(intOf iv).toNat)
 case atStart=>exact⟨0,(n:Int)-1,rfl,rfl,by omega,H,Zaa ⟨rfl,rfl,rfl,Nat.le_refl _,fun _ _ _=>rfl⟩⟩
 case round =>
  obtain⟨i,j,rfl,rfl,hij,O,D⟩:=hrel
  by_cases hlt:(i:Int)<j
  ·obtain⟨j,rfl⟩:∃q:Nat,j=(q:Int):=⟨j.toNat,by omega⟩
   have hjn:j<n:=by omega
   have hin:i<n:=by omega
   have hjni:(j:Int)<(n:Int):=by omega
   have hini:(i:Int)<(n:Int):=by omega
   have O1:=Zaa (O.out.keep (show Below wr.heap.size wr wr.drew from⟨rfl,rfl,rfl,Nat.le_refl _,fun _ _=>rfl⟩))
   have D1:=Zaa (show w.grownBy wr.drew (some g)from D.out.trans ⟨rfl,rfl,rfl,Nat.le_refl _,fun _ _ _=>rfl⟩)
   obtain⟨x0,i0⟩:=O1.out.at (j:=i*3) (by omega)
   obtain⟨x1,i1⟩:=O1.out.at (j:=i*3+1) (by omega)
   obtain⟨x2,i2⟩:=O1.out.at (j:=i*3+2) (by omega)
   obtain⟨y0,j0⟩:=O1.out.at (j:=j*3) (by omega)
   obtain⟨y1,j1⟩:=O1.out.at (j:=j*3+1) (by omega)
   obtain⟨y2,j2⟩:=O1.out.at (j:=j*3+2) (by omega)
   have hji:(j:Int)+i+1=n:=hij
   clear hij O D
   go_upto_region 3 with fail
   refine Zhc 13 2 3 14 (.takes [0,1,4,5,8,9,6,7,10,11] (.one 12 (.fin 13 (.fin 14 (.fin 15 .done))))) (fun w'=>(w'.cell? ⟨g,i*3,none⟩=some (.int .i64 x0)∧w'.cell? ⟨g,i*3+1,none⟩=some (.int .i64 x1)∧w'.cell? ⟨g,i*3+2,none⟩=some (.int .i64 x2))∧w'.cell? ⟨g,j*3,none⟩=some (.int .i64 y0)∧w'.cell? ⟨g,j*3+1,none⟩=some (.int .i64 y1)∧w'.cell? ⟨g,j*3+2,none⟩=some (.int .i64 y2)) (v:=?_) (u:=?_) (by kernel_rfl) (by kernel_rfl) (by kernel_rfl) rfl (by kernel_rfl) (fun _ _ _ _ _ h=>h) rfl (by rfl) (fun w'=>?_) rfl (by rfl) (fun w'=>?_) ⟨⟨i0,i1,i2⟩,j0,j1,j2⟩ (fun hHeld=>?_)
   rotate_left 2
   ·(go_simp;try with_reducible rfl)
   ·(go_simp;try with_reducible rfl)
   simp only[Act.put,Zag,Zah,Zai]
   simp only[Scr.takes]
   generalize wr.drew=u0 at *
   iterate 10
    refine Zac (v:=?_) rfl (by rfl) hHeld (fun w' hSw=>?_) ?_
    rotate_left
    ·(go_simp;try with_reducible rfl)
    simp only[Act.put,Zag,Zah,Zai]
   have fi:=O1.out.frozen (i*3)
   have fi1:=O1.out.frozen (i*3+1)
   have fi2:=O1.out.frozen (i*3+2)
   refine ZaC rfl (fun K hK=>?_)
   go_simp
   refine hK.out _ _ ⟨⟨i0,i1,i2⟩,j0,j1,j2⟩ (fun hHeld=>?_)
   clear hK
   try simp only[Act.put,Zag,Zah,Zai]
   refine Zaz rfl (fun K hK=>?_)
   go_simp
   have O2:=Zaa (O1.out.lay (i*3) y0 y1 y2)
   have D2:=Zaa (D1.out.trans (ZiT u0 g (i*3) y0 y1 y2))
   rw[show((u0.setCell ⟨g,i*3,none⟩ (.int .i64 y0)).setCell ⟨g,i*3+1,none⟩ (.int .i64 y1)).setCell ⟨g,i*3+2,none⟩ (.int .i64 y2)=Zs2 u0 g (i*3) y0 y1 y2 from rfl]
   clear hHeld fi fi1 fi2 i0 i1 i2 j0 j1 j2
   generalize Zs2 u0 g (i*3) y0 y1 y2=u2 at *
   refine hK.out _ _ ?_
   clear hK
   try simp only[Act.put,Zag,Zah,Zai]
   refine Zaz rfl (fun K hK=>?_)
   go_simp
   refine hK.out _ _ ?_
   clear hK
   try simp only[Act.put,Zag,Zah,Zai]
   obtain⟨w0,j0⟩:=O2.out.at (j:=j*3) (by omega)
   obtain⟨w1,j1⟩:=O2.out.at (j:=j*3+1) (by omega)
   obtain⟨w2,j2⟩:=O2.out.at (j:=j*3+2) (by omega)
   have fj:=O2.out.frozen (j*3)
   have fj1:=O2.out.frozen (j*3+1)
   have fj2:=O2.out.frozen (j*3+2)
   have O3:=Zaa (O2.out.lay (j*3) x0 x1 x2)
   have D3:=Zaa (D2.out.trans (ZiT u2 g (j*3) x0 x1 x2))
   refine Zaz rfl (fun K hK=>?_)
   go_simp
   rw[show((u2.setCell ⟨g,j*3,none⟩ (.int .i64 x0)).setCell ⟨g,j*3+1,none⟩ (.int .i64 x1)).setCell ⟨g,j*3+2,none⟩ (.int .i64 x2)=Zs2 u2 g (j*3) x0 x1 x2 from rfl]
   clear fj fj1 fj2 j0 j1 j2
   generalize Zs2 u2 g (j*3) x0 x1 x2=u3 at *
   refine hK.out _ _ ?_
   clear hK
   try simp only[Act.put,Zag,Zah,Zai]
   refine ZaH ?_
   go_wp2
   go_roundw
   case rel=>exact⟨i+1,(j:Int)-1,by go_num,by go_num,by omega,O3,D3⟩
   case measure=>simp[intOf];omega
  ·go_wp2
   exact bodyPost_end (v:=.tuple #[]) (by simp[results,Tryz.results30,go_sem]) rfl ⟨⟨_,rfl⟩,O.out,D.out⟩
def Zqo:World→(Nat→Value)→Unit→Prop:=fun _ vs _=>∀j,j<3→∃x:Int,vs j=.int .i64 x
theorem Zqo.kept:Zh9 Zqo:=fun _ _ _ _ _ h=>h
theorem Ztn:ZeM 50 92 3 24:=ZeM.mk' (z:=.agg #[.int .i64 0,.int .i64 0,.int .i64 0]) Tryz.underlying50 (by kernel_rfl) rfl (by decide)
abbrev Ze4 (w:World)(B:Nat)(v:Value)(n:Nat):Prop:=∃xs:List Unit,Zad Zqo 3 w B 92 v n xs
theorem Zqo.reads (w:World)(a b c:Int):Zax Zqo 3 w (#[Value.int .i64 a,.int .i64 b,.int .i64 c]:Array Value).toList [()] :=
 Zax.one (vs:=fun j=>[Value.int .i64 a,.int .i64 b,.int .i64 c].getD j undef) (fun j hj=>by
  rcases(show j=0∨j=1∨j=2 by omega)with rfl|rfl|rfl
  ·exact⟨a,rfl⟩
  ·exact⟨b,rfl⟩
  ·exact⟨c,rfl⟩) rfl (fun j hj=>by
  rcases(show j=0∨j=1∨j=2 by omega)with rfl|rfl|rfl <;> rfl)
theorem Zjz.of_own {w:World}{B g n cap:Nat}{xs:List Unit}(h:Zad Zqo 3 w B 92 (.slice (some ⟨g,0,none⟩) n cap) n xs):Zjz w g n:=by
 obtain⟨cells,⟨h1,h2⟩,h3,h4⟩:=h
 rcases h2 with⟨e,_⟩|⟨g',cap',cur,e,hB,hh,hn,hc,hs,ht⟩
 ·cases e
 ·injection e with e1 e2 e3
  injection e1 with e1
  injection e1 with e1
  subst e1
  refine⟨cur,hh,by rw[hs];exact Nat.mul_le_mul_right _ hn,fun j v hj hv=>?_⟩
  have hx:xs[j / 3]?=some ():=by
   rw[List.getElem?_eq_getElem (by rw[h4];omega)]
  obtain⟨vs,hvs,hR⟩:=h3.2 _ _ hx
  obtain⟨x,hx⟩:=hR (j % 3) (by omega)
  have hcell:=hvs (j % 3) (by omega)
  rw[show j / 3*3+j % 3=j by omega]at hcell
  rw[←ht,List.getElem?_take,if_pos hj,←Array.getElem?_toList]at *
  first
   | exact⟨x,by rw[hv]at hcell;injection hcell with hcell;rw[hcell,hx]⟩
   | skip
theorem Ze4.form {w:World}{B n:Nat}{v:Value}(h:Ze4 w B v n):∃A c,v=.slice A n c:=by
 obtain⟨xs,cells,⟨h1,h2⟩,h3,h4⟩:=h
 rcases h2 with⟨rfl,rfl⟩|⟨g,cap,cur,rfl,hB,hh,hc⟩
 ·exact⟨none,0,rfl⟩
 ·exact⟨_,_,rfl⟩
theorem Ze4.lo {w:World}{B n:Nat}{v:Value}(h:Ze4 w B v n):∀k,v.ownBlock=some k→B≤k:=by
 obtain⟨xs,h⟩:=h
 exact fun k hk=>(h.lt k hk).1
theorem ZhT (w:World) :
  Calls Tryz.prog 30 #[.slice none 0 0] w fun e w'=>(∃y,e=.returned y)∧Below w.heap.size w w':=by
 go_enter Tryz.func30,Tryz.ntmps30
 go_wp2
 go_loopw [2,3] (fun i j wr=>i=.int .i64 0∧j=.int .i64 (-1)∧wr=w) (fun _ _ _=>0)
 case atStart=>exact⟨rfl,rfl,rfl⟩
 case round =>
  obtain⟨rfl,rfl,rfl⟩:=hrel
  go_wp2
  exact bodyPost_end (v:=.tuple #[]) (by simp[results,Tryz.results30,go_sem]) rfl ⟨⟨_,rfl⟩,Below.refl _ _⟩
theorem Zip {w:World}{B n:Nat}{v:Value}(h:Ze4 w B v n)(hn:n≤100000) :
  Calls Tryz.prog 30 #[v] w fun e w'=>(∃y,e=.returned y)∧w.grownBy w' v.ownBlock:=by
 obtain⟨xs,h⟩:=h
 have h0:=h
 obtain⟨cells,⟨h1,h2⟩,h3,h4⟩:=h0
 rcases h2 with⟨rfl,rfl⟩|⟨g,cap,cur,rfl,hB,hh,hc⟩
 ·refine(ZhT w).mono ?_
  rintro e w' ⟨hy,hb⟩
  exact⟨hy,hb.os,hb.tape,hb.output,hb.size,fun k hk _=>hb.block k hk⟩
 ·refine(Zio (cap:=cap) (Zjz.of_own h) hn).mono ?_
  rintro e w' ⟨hy,_,hg⟩
  exact⟨hy,hg⟩
theorem Zr3 (w:World)(a b c d:Int):(Op.equalIn 10000 90 (.agg #[.int .i64 a,.int .i64 b]) (.agg #[.int .i64 c,.int .i64 d])).run Tryz.prog w=.ok (a==c&&b==d) w:=by
 have hu:Tryz.prog.underlying 90=some (.struct (Tryz.prog.fieldsOf 90)):=by
  simp[Program.fieldsOf,Tryz.underlying90]
 have hp:∀(xs:Array Value) (k:Nat) (x:Int),xs[k]?=some (.int .i64 x)→(part 3 xs k).run Tryz.prog w=.ok (.int .i64 x) w:=fun xs k x hx=>run_part_plain w (show Tryz.prog.plainKey 3=true by kernel_rfl) hx
 have he:∀x y:Int,(Op.equalIn 9999 3 (.int .i64 x) (.int .i64 y)).run Tryz.prog w=.ok (x==y) w:=fun x y=>run_equalIn_int w 9998 3 .i64 .i64 x y Tryz.underlying3
 rw[show(10000:Nat)=9999+1 from rfl,run_equalIn_struct w 9999 _ _ _ hu (by kernel_rfl)]
 simp only[Program.fieldsOf,Tryz.underlying90,Op.eqFields]
 generalize (9999:Nat)=q at *
 cases hac:(a==c) <;> cases hbd:(b==d) <;> simp[hp,he,hac,hbd]
theorem ZpP (a b c d e f:Int)(g:Bool)(w:World):(Instr.field 94 (.agg #[.int .i64 a,.int .i64 b,.int .i64 c,.int .i64 d,.int .i64 e,.int .i64 f,.bool g]) 0).run Tryz.prog w=.ok (.int .i64 a) w:=by kernel_rfl
theorem ZpQ (a b c d e f:Int)(g:Bool)(w:World):(Instr.field 94 (.agg #[.int .i64 a,.int .i64 b,.int .i64 c,.int .i64 d,.int .i64 e,.int .i64 f,.bool g]) 1).run Tryz.prog w=.ok (.agg #[.int .i64 b,.int .i64 c]) w:=by kernel_rfl
theorem ZpR (a b c d e f:Int)(g:Bool)(w:World):(Instr.field 94 (.agg #[.int .i64 a,.int .i64 b,.int .i64 c,.int .i64 d,.int .i64 e,.int .i64 f,.bool g]) 2).run Tryz.prog w=.ok (.agg #[.int .i64 d,.int .i64 e,.int .i64 f]) w:=by kernel_rfl
theorem ZkN:Tryz.prog.eqGuardType Tryz.prog.depth 90=false:=by kernel_rfl
theorem ZpS (w:World)(a b c d:Int):(binOp .eql 90 (.agg #[.int .i64 a,.int .i64 b]) (.agg #[.int .i64 c,.int .i64 d])).run Tryz.prog w=.ok (.bool (a==c&&b==d)) w:=by
 rw[run_eql_struct,Zr3];rfl
theorem ZpT (w:World)(a b c d:Int):(binOp .neq 90 (.agg #[.int .i64 a,.int .i64 b]) (.agg #[.int .i64 c,.int .i64 d])).run Tryz.prog w=.ok (.bool (!(a==c&&b==d))) w:=by
 rw[run_neq_struct,Zr3];rfl
theorem Zrj {w:World}{bn bo n c:Nat}{A:Option Addr}{P o:Int}{ts:List Zak}(x:Box w bn 24 #[.int .i64 P,.slice A n c])(y:Box w bo 3 #[.int .i64 o]):Zi8 27 #[.pointer (some ⟨bn,0,none⟩),.pointer (some ⟨bo,0,none⟩)] w (fun m=>m==ZpO ⟨P,ts⟩ o) where
 enters:=fun args w=>by kernel_rfl
 calls:=fun wr A1 n1 c1 m hb hi=>by
  obtain⟨x0,x1⟩:=(x.keep hb).two
  have y0:=(y.keep hb).cell 0
  simp only[List.getElem?_toArray,List.getElem?_cons_zero]at y0
  have HI:=Zaa hi
  have EL:=Zaa (show ZpO ⟨P,ts⟩ o=ZcR (min P 16).toNat o from rfl)
  show Calls Tryz.prog 27 #[.slice A1 n1 c1,.pointer (some ⟨bn,0,none⟩),.pointer (some ⟨bo,0,none⟩)] wr _
  clear hb x y hi
  obtain⟨pn,hpn⟩:∃pn,(min P 16).toNat=pn:=⟨_,rfl⟩
  have HPN:=Zaa hpn
  rw[hpn]at EL
  clear hpn
  obtain⟨s,hs⟩:∃s,(m==ZcR pn o)=s:=⟨_,rfl⟩
  have HS:=Zaa hs
  have HS2:=Zaa (show(m==ZpO ⟨P,ts⟩ o)=s by rw[EL.out];exact hs)
  clear hs
  go_enter Tryz.func27,Tryz.ntmps27
  go_wp2_with fail
  refine(ZbM wr P o A n c).mono ?_
  rw[HPN.out]
  rintro e w5 ⟨C,kc,rfl,hi5,hb5,_⟩
  have I5:=Zaa hi5
  have H5:=Zaa (HI.out.keep hb5)
  have B5:=Zaa hb5
  clear hi5 hb5 x0 x1 y0
  go_wp2_with fail
  refine(Za9 H5.out I5.out).mono ?_
  rw[HS.out]
  rintro e w6 ⟨rfl,dr⟩
  have B6:=Zaa (B5.out.trans (dr.below.mono B5.out.size))
  clear dr
  go_wp2
  go_ret
  exact⟨by rw[HS2.out];rfl,B6.out⟩
abbrev Z0:Value:=.slice none 0 0
section
variable {w w':World} {B b8:Nat} {u v:Value} {ms:List (List Int)} {ars:List ZaD}
end
def toV:Option Nat→Int
 | some k=>(k:Int)
 | none=>-1
def Zuh (w:World)(B g K n:Nat)(M:List (List Bool)):Prop :=
 ∃(cells:List Value) (bl:Nat→Nat),w.ownsRow B 102 1 (.slice (some ⟨g,0,none⟩) K K) K cells∧M.length≤K∧(∀(k:Nat) (x:List Bool),M[k]?=some x→cells[k]?=some (.slice (some ⟨bl k,0,none⟩) n n)∧ZaF w B (bl k) n x) ∧
  (∀k l:Nat,k<M.length→l<M.length→k≠l→bl k≠bl l)
section
variable {w w1:World} {B g K n:Nat} {M:List (List Bool)}
end
open Classical in
noncomputable def Zur (w:World)(B g K n:Nat):Nat:=if h:∃M,Zuh w B g K n M∧M.length=K then Zt0 (Classical.choose h)else 0
section
variable {ars:List ZaD} {lb:Int→Int} {wd:List Int} {M0:List (List Bool)} {q:Nat} {a:ZaD} {k:Nat}
end
end Go.Proofs.YtfmnagcglhlicaaGreat
namespace Go.Proofs.YtfmnagcglhlicaaGreat
open Go.ChangeShapes Go.WideShapes Go.ChangeAt Go.RowKit Go.Deep
section
variable {H:Type} {enc:TypeId×Value→H} {W:World}
end
end Go.Proofs.YtfmnagcglhlicaaGreat
namespace Go.Proofs.YtfmnagcglhlicaaGreat
open Go.RowKit
structure Zto (N:Zau)(o:Int)(s:PSp):Prop where
 pos:0<s.marks.length
 small:s.marks.length≤300
 few:s.arcs.length≤7200
 nodup:s.marks.Nodup
 from_:∀a∈s.arcs,Inn s.marks.length a.from_
 to_:∀a∈s.arcs,Inn s.marks.length a.to_
 tran:∀a∈s.arcs,Inn N.trans.length a.tran
 label:∀a∈s.arcs,0≤atI (Zd8 N) a.tran
theorem Zrk {N:Zau}{i o:Int}{s:PSp}(h:Zeb N i o=(s,0)):Zto N o s:=by
 unfold Zeb at h
 split at h
 ·rename_i h0
  have hok:=(Zgc h0).2
  have h2:(Za2 N (ZcR (min N.places 16).toNat i) 300).2=0:=by rw[h]
  obtain⟨_,SO⟩:=ZdR h2
  have hA:=Zfn h2
  rw[h]at SO hA
  have hT:∀a∈s.arcs,Inn s.marks.length a.from_∧Inn N.trans.length a.tran∧Inn s.marks.length a.to_:=fun a ha=>by
   obtain⟨e1,e2,e3⟩:=SO.ends a ha
   exact⟨e1,e2,e3⟩
  refine⟨SO.some_,SO.few,hA,SO.nodup,fun a ha=>(hT a ha).1,fun a ha=>(hT a ha).2.2,fun a ha=>(hT a ha).2.1,fun a ha=>?_⟩
  obtain⟨r,er,hr⟩:=ZsF (hT a ha).2.1
  have hx:N.trans[r]?=some N.trans[r]:=List.getElem?_eq_getElem hr
  have:=(Za1 hok hx).1
  unfold atI Zd8
  rw[er,Int.toNat_natCast,List.getD_eq_getElem?_getD,List.getElem?_map,hx]
  exact this
 ·rename_i h0
  injection h with _ h
  exact absurd h h0
end Go.Proofs.YtfmnagcglhlicaaGreat
namespace Go.Proofs.YtfmnagcglhlicaaGreat
section
variable {ars:List ZaD} {lb:Int→Int} {tr:List Int} {n:Nat} {p0:List (List Int)×Bool}
end
def Zfr (N:Zau)(i o:Int)(tr:List Int)(c e:Int):Prop :=
 if(Zeb N i o).2≠0 then c=0∧e=(Zeb N i o).2 else if 60<tr.length then c=0∧e=2 else match Zcb (Zeb N i o).1.marks (ZpO N o) with
  | none=>c=0∧e=3
  | some k=>e=0∧Zra (Ed (Zeb N i o).1.arcs (atI (Zd8 N)) tr) ((tr.length:Int),(k:Int)) c
theorem ZkO {N:Zau}{i o:Int}{tr:List Int}{s:PSp}{k:Int}(h:Zeb N i o=(s,k))(hk:k≠0):Zfr N i o tr 0 k:=by
 unfold Zfr
 rw[h,if_pos hk]
 exact⟨rfl,rfl⟩
theorem Zn2 {N:Zau}{i o:Int}{tr:List Int}{s:PSp}(h:Zeb N i o=(s,0))(hl:60<tr.length):Zfr N i o tr 0 2:=by
 unfold Zfr
 rw[h,if_neg (by simp),if_pos hl]
 first|exact⟨rfl,rfl⟩|trivial
theorem Zn3 {N:Zau}{i o:Int}{tr:List Int}{s:PSp}(h:Zeb N i o=(s,0))(hl:¬60<tr.length)(hf:Zcb s.marks (ZpO N o)=none):Zfr N i o tr 0 3:=by
 unfold Zfr
 rw[h,if_neg (by simp),if_neg hl]
 simp only[hf]
 first|exact⟨rfl,rfl⟩|trivial
theorem Zn4 {N:Zau}{i o:Int}{tr:List Int}{s:PSp}{k:Nat}{c:Int}(h:Zeb N i o=(s,0))(hl:¬60<tr.length)(hf:Zcb s.marks (ZpO N o)=some k)(hm:Zra (Ed s.arcs (atI (Zd8 N)) tr) ((tr.length:Int),(k:Int)) c):Zfr N i o tr c 0:=by
 unfold Zfr
 rw[h,if_neg (by simp),if_neg hl]
 simp only[hf]
 first|exact⟨rfl,hm⟩|exact⟨trivial,hm⟩
end Go.Proofs.YtfmnagcglhlicaaGreat
