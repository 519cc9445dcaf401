/- Texts melted into one: Contracts of cases.Begin and PBegin. Conditions: the net reads as a list. | The contract of PBegin. Conditions: the net reads as a list. | Contracts of cases.busy and of the closure no of cases.Do; integers that the call owns, one turned. Conditions: the slices read as lists o -/
import Derived.Test.YtfmnagcglhlicaaGreatTopSaidK06
import Derived.Lib.SliceRun
import Derived.Lib.LazyBuf
import Derived.Laws.BitsAllLaws
import Derived.Laws.Shifts
import Derived.Laws.BytesArg
import Derived.Maps.AppendAt
set_option maxRecDepth 100000
namespace Go.Proofs.YtfmnagcglhlicaaGreat
open Go.RowKit
def Zcz (p:Zay×Int)(w:World)(e:Ending)(w':World):Prop :=
 ∃A n c B m d,e=.returned (.tuple #[.agg #[.slice A n c,.slice B m d],.int .i64 p.2])∧Zam w' A n c p.1.mark∧Zam w' B m d p.1.busy∧Below w.heap.size w w'∧Zbn w A∧Zbn w B
theorem Zcz.no {e:Int}{w w':World}(hb:Below w.heap.size w w'):Zcz (Zay.nil,e) w (.returned (.tuple #[.agg #[.slice none 0 0,.slice none 0 0],.int .i64 e])) w' :=
 ⟨none,0,0,none,0,0,rfl,Sl.nil0,Sl.nil0,hb,Zbn.none,Zbn.none⟩
theorem Zhd (w:World)(P i:Int)(A:Option Addr)(n c:Nat)(hP:P≤16) :
  Calls Tryz.prog 9 #[.agg #[.int .i64 P,.slice A n c],.int .i64 i] w (Zoz P.toNat (ZcR P.toNat i) w):=by
 have:=ZbM w P i A n c
 rwa[show min P 16=P by omega]at this
theorem ZjX {w:World}{B n:Nat}{a:Addr}(own:w.ownsRow B 3 1 (.slice (some a) n n) n (List.replicate n (.int .i64 0)))(hn:n≤281474976710656):Zam w (some a) n n (List.replicate n 0):=by
 rw[show List.replicate n (Value.int .i64 0)=(List.replicate n (0:Int)).map (Value.int .i64) by rw[List.map_replicate]]at own
 obtain⟨C,cc,hv,hi⟩:=Zam.of_own own hn
 injection hv with h1 h2 h3
 subst h1 h3
 exact hi
theorem ZjY {N:Zau}{i:Int}(h:Za8 N=false):ZaQ N i=(Zay.nil,2):=by rw[ZaQ,h];rfl
theorem Zli {N:Zau}{i:Int}(h:Za8 N=true)(hi:¬(0≤i∧i<N.places)):ZaQ N i=(Zay.nil,3):=by rw[ZaQ,if_pos h,if_neg hi]
theorem Zna {N:Zau}{i:Int}(h:Za8 N=true)(hi:0≤i∧i<N.places):ZaQ N i=(⟨ZcR N.places.toNat i,List.replicate N.trans.length 0⟩,0):=by rw[ZaQ,if_pos h,if_pos hi]
set_option maxHeartbeats 1000000 in
theorem Zlj {w:World}{P:Int}{A:Option Addr}{n c:Nat}{ts:List Zak}(i:Int)(h:ZaP w A n c ts) :
  Calls Tryz.prog 20 #[.agg #[.int .i64 P,.slice A n c],.int .i64 i] w (Zcz (ZaQ ⟨P,ts⟩ i) w):=by
 have B0:=Zaa (((Below.refl _ _).alloc (Nat.le_refl _) (.cells #[.int .i64 P,.slice A n c] 24)).alloc (by simp) (.cells #[.slice none 0 0,.slice none 0 0] 30):Below w.heap.size w _)
 have X0:Box ((w.alloc (.cells #[.int .i64 P,.slice A n c] 24)).alloc (.cells #[.slice none 0 0,.slice none 0 0] 30)) w.heap.size 24 #[.int .i64 P,.slice A n c]:=(Box.new _ _ _).old _
 have X1:Box ((w.alloc (.cells #[.int .i64 P,.slice A n c] 24)).alloc (.cells #[.slice none 0 0,.slice none 0 0] 30)) (w.heap.size+1) 30 #[.slice none 0 0,.slice none 0 0]:=Box.newAt (by simp) _ _
 have hn:=h.small
 have HL:=Zaa h.len
 have H:=Zaa h
 clear h
 cases hok:Za8 ⟨P,ts⟩
 ·have W0:=Zaa (Zb8 hok)
  rw[ZjY hok]
  clear hok
  go_enter Tryz.func20,Tryz.ntmps20
  go_wp2_with fail
  refine(Za5 _ P A n c ts (H.out.keep B0.out)).mono ?_
  rw[W0.out]
  rintro e w1 ⟨rfl,hb⟩
  have B1:=Zaa (B0.out.trans (hb.mono B0.out.size))
  have Y1:=Zaa (X1.keep hb)
  obtain⟨c2,c3⟩:=Y1.out.two
  have cf:=Y1.out.frozen 0
  have cg:=Y1.out.frozen 1
  clear hb X0 X1
  go_wp2
  obtain⟨r0,r1⟩:=(Y1.out.set2 (.slice none 0 0) (.slice none 0 0)).two
  exact bodyPost_ret (v:=.tuple #[.agg #[.slice none 0 0,.slice none 0 0],.int .i64 2]) (by simp[results,Tryz.results20,go_sem,r0,r1]) rfl (Zcz.no ((B1.out.setCell (by simp) _).setCell (by simp) _))
 ·have W0:=Zaa (ZcT hok)
  have HO:=Zaa hok
  clear hok
  go_enter Tryz.func20,Tryz.ntmps20
  go_wp2_with fail
  refine(Za5 _ P A n c ts (H.out.keep B0.out)).mono ?_
  rw[W0.out]
  rintro e w1 ⟨rfl,hb⟩
  have B1:=Zaa (B0.out.trans (hb.mono B0.out.size))
  have Y0:=Zaa (X0.keep hb)
  have Y1:=Zaa (X1.keep hb)
  obtain⟨c0,c1⟩:=Y0.out.two
  obtain⟨c2,c3⟩:=Y1.out.two
  have cf:=Y1.out.frozen 0
  have cg:=Y1.out.frozen 1
  clear hb X0 X1
  by_cases hi:0≤i∧i<P
  ·obtain⟨hi0,hi1⟩:=hi
   have hP16:P≤16:=((Zar _).1 HO.out).2.1
   have hn24:n≤24:=by have:=((Zar _).1 HO.out).2.2.1;rw[HL.out]at this;exact this
   have FIN:=Zaa (Zna HO.out ⟨hi0,hi1⟩)
   go_wp2_with fail
   refine Zae 8 (.takes [0,1,3,4,5] (.two 2 (.one 6 (.take 7 (.fins [8,9] .done))) 6 (.one 2 (.take 7 (.fins [8,9] .done))))) (fun w'=>w'.cell? ⟨w.heap.size,0,none⟩=some (.int .i64 P)∧w'.cell? ⟨w.heap.size,1,none⟩=some (.slice A n c)) (by kernel_rfl) (by kernel_rfl) (by kernel_rfl) (fun _ _ _ _ _ h=>h) ⟨c0,c1⟩ (fun hHeld=>?_)
   simp only[Scr.takes,Scr.fins]
   iterate 5
    refine Zac (v:=?_) rfl (by rfl) hHeld (fun w' hSw=>?_) ?_
    rotate_left
    ·(go_simp;try with_reducible rfl)
    simp only[Act.put,Zag,Zah,Zai]
   refine ZjU rfl rfl (fun K hK=>?_) (fun K hK=>?_)
   ·go_simp;go_at_call 9
    (with_reducible refine(Zhd w1.drew P i A n c hP16).mono ?_)
    rintro e w2 ⟨C,k2,rfl,hi2,hb2,hf2⟩
    have HF:=Zaa (hf2.mono (show w.heap.size≤_ from B1.out.size))
    have Z2:=Zaa (Y1.out.drew.keep hb2)
    have p0:=(Y0.out.drew.keep hb2).two.1
    have p1:=(Y0.out.drew.keep hb2).two.2
    have V2:=Zaa (Y0.out.drew.keep hb2)
    have B2:=Zaa (B1.out.trans (((Below.refl _ _).drew.trans hb2:Below w1.heap.size w1 w2).mono B1.out.size))
    have I2:=Zaa hi2
    clear hb2 hi2 hf2
    refine hK.out _ _ ⟨p0,p1⟩ (fun hHeld=>?_)
    clear hK
    refine ZaC rfl (fun K hK=>?_)
    refine Zov Tryz.underlying28 Ze7 rfl rfl _ _ rfl n rfl rfl rfl rfl (by omega) (by omega) (Below.refl w2.heap.size w2) (Nat.le_refl _) ?_
    intro w3 own3 hg3 hb3
    have q0:=(V2.out.keep hb3).two.1
    have q1:=(V2.out.keep hb3).two.2
    have Z3:=Zaa (Z2.out.keep hb3)
    have HI:=Zaa (I2.out.keep hb3)
    have HJ:=Zaa (ZjX own3 (by omega))
    have B3:=Zaa (B2.out.trans (hb3.mono B2.out.size))
    obtain⟨z0,z1⟩:=Z3.out.two
    have zf:=Z3.out.frozen 0
    have zg:=Z3.out.frozen 1
    clear own3 hg3 hb3
    refine hK.out _ _ ⟨q0,q1⟩ (fun hHeld=>?_)
    clear hK
    simp only[Act.put,Zag,Zah,Zai]
    refine Zac (v:=?_) rfl (by rfl) hHeld (fun w' hSw=>?_) ?_
    rotate_left
    ·(go_simp;try with_reducible rfl)
    simp only[Act.put,Zag,Zah,Zai]
    iterate 2
     refine Zaz rfl (fun K hK=>?_)
     go_simp
     refine hK.out _ _ ?_
     clear hK
    refine ZaH ?_
    go_wp2
    obtain⟨r0,r1⟩:=(Z3.out.set2 (.slice C P.toNat k2) (.slice (some ⟨w2.heap.size,0,none⟩) n n)).two
    exact bodyPost_ret (v:=.tuple #[.agg #[.slice C P.toNat k2,.slice (some ⟨w2.heap.size,0,none⟩) n n],.int .i64 0]) (by simp[results,Tryz.results20,go_sem,r0,r1]) rfl
     ⟨_,_,_,_,_,_,by rw[FIN.out],by rw[FIN.out];have:=(HI.out.beside Z3.out ZcX (Zan.set2 _ _ 0 1 (.slice C P.toNat k2) (.slice (some ⟨w2.heap.size,0,none⟩) n n)));exact this,by rw[FIN.out];simp only[];rw[HL.out];exact HJ.out.beside Z3.out ZcX (Zan.set2 _ _ _ _ _ _),(B3.out.setCell (by simp) _).setCell (by simp) _,HF.out,Zbn.at B2.out.size⟩
   ·refine Zov Tryz.underlying28 Ze7 rfl rfl _ _ rfl n rfl rfl rfl rfl (by omega) (by omega) (Below.refl w1.drew.heap.size w1.drew) (Nat.le_refl _) ?_
    intro w2 own2 hg2 hb2
    have Z2:=Zaa (Y1.out.drew.keep hb2)
    have V2:=Zaa (Y0.out.drew.keep hb2)
    have p0:=V2.out.two.1
    have p1:=V2.out.two.2
    have B2:=Zaa (B1.out.trans (((Below.refl _ _).drew.trans hb2:Below w1.heap.size w1 w2).mono B1.out.size))
    have J2:=Zaa (ZjX own2 (by omega))
    clear hb2 own2 hg2
    refine hK.out _ _ ⟨p0,p1⟩ (fun hHeld=>?_)
    clear hK
    simp only[Act.put,Zag,Zah,Zai]
    refine ZaC rfl (fun K hK=>?_)
    go_simp;go_at_call 9
    (with_reducible refine(Zhd w2 P i A n c hP16).mono ?_)
    rintro e w3 ⟨C,k2,rfl,hi3,hb3,hf3⟩
    have HF:=Zaa (hf3.mono B2.out.size)
    have q0:=(V2.out.keep hb3).two.1
    have q1:=(V2.out.keep hb3).two.2
    have Z3:=Zaa (Z2.out.keep hb3)
    have HI:=Zaa hi3
    have HJ:=Zaa (J2.out.keep hb3)
    have B3:=Zaa (B2.out.trans (hb3.mono B2.out.size))
    obtain⟨z0,z1⟩:=Z3.out.two
    have zf:=Z3.out.frozen 0
    have zg:=Z3.out.frozen 1
    clear hi3 hb3 hf3
    refine hK.out _ _ ⟨q0,q1⟩ (fun hHeld=>?_)
    clear hK
    refine Zac (v:=?_) rfl (by rfl) hHeld (fun w' hSw=>?_) ?_
    rotate_left
    ·(go_simp;try with_reducible rfl)
    simp only[Act.put,Zag,Zah,Zai]
    iterate 2
     refine Zaz rfl (fun K hK=>?_)
     go_simp
     refine hK.out _ _ ?_
     clear hK
    refine ZaH ?_
    go_wp2
    obtain⟨r0,r1⟩:=(Z3.out.set2 (.slice C P.toNat k2) (.slice (some ⟨w1.heap.size,0,none⟩) n n)).two
    exact bodyPost_ret (v:=.tuple #[.agg #[.slice C P.toNat k2,.slice (some ⟨w1.heap.size,0,none⟩) n n],.int .i64 0]) (by simp[results,Tryz.results20,go_sem,r0,r1]) rfl
     ⟨_,_,_,_,_,_,by rw[FIN.out],by rw[FIN.out];have:=(HI.out.beside Z3.out ZcX (Zan.set2 _ _ 0 1 (.slice C P.toNat k2) (.slice (some ⟨w1.heap.size,0,none⟩) n n)));exact this,by rw[FIN.out];simp only[];rw[HL.out];exact HJ.out.beside Z3.out ZcX (Zan.set2 _ _ _ _ _ _),(B3.out.setCell (by simp) _).setCell (by simp) _,HF.out,Zbn.at B1.out.size⟩
  ·have FIN:=Zaa (Zli HO.out hi)
   by_cases hi0:0≤i
   ·have hi1:P≤i:=by omega
    clear hi
    go_wp2
    obtain⟨r0,r1⟩:=(Y1.out.set2 (.slice none 0 0) (.slice none 0 0)).two
    exact bodyPost_ret (v:=.tuple #[.agg #[.slice none 0 0,.slice none 0 0],.int .i64 3]) (by simp[results,Tryz.results20,go_sem,r0,r1]) rfl (by rw[FIN.out];exact Zcz.no ((B1.out.setCell (by simp) _).setCell (by simp) _))
   ·clear hi
    go_wp2
    obtain⟨r0,r1⟩:=(Y1.out.set2 (.slice none 0 0) (.slice none 0 0)).two
    exact bodyPost_ret (v:=.tuple #[.agg #[.slice none 0 0,.slice none 0 0],.int .i64 3]) (by simp[results,Tryz.results20,go_sem,r0,r1]) rfl (by rw[FIN.out];exact Zcz.no ((B1.out.setCell (by simp) _).setCell (by simp) _))
theorem Zaf.row {w:World}{B:Nat}{v:Value}{n:Nat}{xs:List Int}(h:Zaf w B v n xs):w.ownsRow B 3 1 v n (xs.map (Value.int .i64)):=by
 obtain⟨cells,h1,h2,h3⟩:=h
 have e:cells=xs.map (Value.int .i64):=by
  apply List.ext_getElem?
  intro j
  cases hx:xs[j]? with
  | none =>
   rw[List.getElem?_map,hx,List.getElem?_eq_none (by have:=h2.1;have:=List.getElem?_eq_none_iff.1 hx;omega)];rfl
  | some x =>
   obtain⟨vs,a,b⟩:=h2.2 j x hx
   have:=a 0 (by omega)
   simp only[Nat.mul_one,Nat.add_zero]at this
   rw[this,List.getElem?_map,hx,b];rfl
 rw[←e];exact h1
theorem Zaf.form {w:World}{B:Nat}{v:Value}{n:Nat}{xs:List Int}(h:Zaf w B v n xs)(hn:0<n):∃g cap,v=.slice (some ⟨g,0,none⟩) n cap∧B≤g∧g<w.heap.size:=h.row.form hn
section
variable {w:World} {B g cap n:Nat} {xs:List Int}
theorem Zaf.at (h:Zaf w B (.slice (some ⟨g,0,none⟩) n cap) n xs){j:Nat}{x:Int}(hx:xs[j]?=some x):w.cell? ⟨g,j,none⟩=some (.int .i64 x):=by
 have hj:j<n:=by rw[←h.len];exact(List.getElem?_eq_some_iff.1 hx).1
 rw[h.row.cellAt j (by omega),List.getElem?_map,hx];rfl
theorem Zaf.frozen (h:Zaf w B (.slice (some ⟨g,0,none⟩) n cap) n xs)(j:Nat):w.frozen? ⟨g,j,none⟩=false:=h.row.frozenAt j
theorem Zaf.put (h:Zaf w B (.slice (some ⟨g,0,none⟩) n cap) n xs)(j:Nat)(y:Int):Zaf (w.setCell ⟨g,j,none⟩ (.int .i64 y)) B (.slice (some ⟨g,0,none⟩) n cap) n (xs.set j y):=by
 have:=(h.row.stored j (.int .i64 y)).1
 rw[←List.map_set]at this
 exact Zaf.of_row this
theorem Zaf.ints (h:Zaf w B (.slice (some ⟨g,0,none⟩) n cap) n xs)(hn:n≤281474976710656):Zam w (some ⟨g,0,none⟩) n cap xs:=by
 obtain⟨A,c,hv,hi⟩:=h.sl hn
 injection hv with h1 h2 h3
 subst h1 h3
 exact hi
end
theorem ZaJ (w:World)(e:Int):Calls Tryz.prog 71 #[.int .i64 e] w fun x w'=>x=.returned (.tuple #[.agg #[.slice none 0 0,.slice none 0 0],.int .i64 e])∧Below w.heap.size w w':=by
 have X1:Box (w.alloc (.cells #[.slice none 0 0,.slice none 0 0] 30)) w.heap.size 30 #[.slice none 0 0,.slice none 0 0]:=Box.new _ _ _
 go_enter Tryz.func71,Tryz.ntmps71
 go_wp2
 obtain⟨r0,r1⟩:=X1.two
 exact bodyPost_ret (v:=.tuple #[.agg #[.slice none 0 0,.slice none 0 0],.int .i64 e]) (by simp[results,Tryz.results71,go_sem,r0,r1]) rfl ⟨rfl,Zab w _⟩
set_option maxHeartbeats 1000000 in
theorem ZfV {w:World}{B D:Option Addr}{m d l k:Nat}{ys:List Int}(i:Nat)(more:Int)(h:Zam w D l k ys)(hl:l≤17592186044416)(hi:i<l)(hr:Zal ys=true)(m0:-1≤more)(m1:more≤1) :
  Calls Tryz.prog 76 #[.agg #[.slice B m d,.slice D l k],.int .i64 i,.int .i64 more] w (Zgp (Zfx ys i more) w):=by
 have HB:=Zaa (Zab w (.cells #[.slice B m d,.slice D l k] 30))
 have H:=Zaa (h.keep HB.out)
 have hL:=h.len
 obtain⟨z,hz⟩:∃z,ys[i]?=some z:=⟨ys[i]'(by omega),List.getElem?_eq_getElem _⟩
 have hzr:=(Za0 _).1 hr z (List.mem_iff_getElem?.2 ⟨i,hz⟩)
 have z0:=hzr.1
 have z1:=hzr.2
 have hat:atL ys i=z:=Zda hz
 have HZ:=Zaa hz
 have HL:=Zaa hL
 have F1:=Zaa (show z+more<0→Zfx ys i more=([],3)from fun h=>by rw[Zfx,hat,if_pos h])
 have F2:=Zaa (show 1000000<z+more→Zfx ys i more=([],4)from fun h=>by rw[Zfx,hat,if_neg (by omega),if_pos h])
 have F3:=Zaa (show ¬z+more<0→¬1000000<z+more→Zfx ys i more=(ys.set i (z+more),0)from fun h g=>by rw[Zfx,hat,if_neg h,if_neg g])
 have hii:(i:Int)<(l:Int):=by omega
 have hi0:(0:Int)≤(i:Int):=by omega
 clear h hat hz hzr hr hL
 go_enter Tryz.func76,Tryz.ntmps76
 go_wp2_with fail
 refine(ZaA H.out hl).mono ?_
 rintro e w1 ⟨v,rfl,own,hb⟩
 obtain⟨g,cap,rfl,hg,hgl⟩:=Zaf.form own (by omega)
 have c0:=Zaf.at own HZ.out
 have cf:=Zaf.frozen own i
 have OW:=Zaa (Zaf.put own i (z+more))
 have B1:=Zaa (HB.out.trans (hb.mono HB.out.size))
 have hgw:w.heap.size≤g:=Nat.le_trans HB.out.size hg
 have hlc:l≤cap:=(Zaf.ints own (by omega)).le
 clear own hb
 by_cases hneg:z+more<0
 ·have FIN:=Zaa (F1.out hneg)
  go_wp2
  go_ret2
  exact⟨none,0,0,by rw[FIN.out];rfl,by rw[FIN.out];exact Sl.nil0,B1.out.setCell hgw _,Zbn.none⟩
 ·by_cases hbig:1000000<z+more
  ·have FIN:=Zaa (F2.out hbig)
   go_wp2
   go_ret2
   exact⟨none,0,0,by rw[FIN.out];rfl,by rw[FIN.out];exact Sl.nil0,B1.out.setCell hgw _,Zbn.none⟩
  ·have FIN:=Zaa (F3.out (by omega) (by omega))
   go_wp2
   go_ret2
   exact⟨_,_,_,by rw[FIN.out];rfl,by rw[FIN.out];exact Zaf.ints OW.out (by omega),B1.out.setCell hgw _,Zbn.at hgw⟩
structure Zqm {α:Type}(p:α→Bool)(ars L:List α)(i j:Nat):Prop where
 len:L.length=ars.length
 le:i≤j
 kept:L.take i=(ars.take j).filter fun a=>!p a
 rest:∀q,j≤q→L[q]?=ars[q]?
section
variable {α:Type} {p:α→Bool} {ars L:List α} {i j:Nat} {a:α}
theorem Zqm.skip (h:Zqm p ars L i j)(ha:ars[j]?=some a)(hp:p a=true):Zqm p ars L i (j+1) where
 len:=h.len
 le:=by have:=h.le;omega
 kept:=by rw[ZaK ha,List.filter_append,h.kept];simp[hp]
 rest:=fun q hq=>h.rest q (by omega)
theorem Zqm.take (h:Zqm p ars L i j)(ha:ars[j]?=some a)(hp:p a=false):Zqm p ars (L.set i a) (i+1) (j+1) where
 len:=by rw[List.length_set];exact h.len
 le:=by have:=h.le;omega
 kept:=by
  have hj:=(List.getElem?_eq_some_iff.1 ha).1
  have hl:=h.len
  have hle:=h.le
  rw[ZaK ha,List.filter_append,←h.kept,ZaK (x:=a) (List.getElem?_set_self (by omega)),List.take_set_of_le (Nat.le_refl _)]
  simp[hp]
 rest:=fun q hq=>by
  have:=h.le
  rw[List.getElem?_set_ne (by omega)]
  exact h.rest q (by omega)
theorem ZjZ (p:α→Bool):∀ars:List α,(∀(j:Nat) (y:α),ars[j]?=some y→p y=false)∨∃(k:Nat) (x:α),ars[k]?=some x∧p x=true∧∀(j:Nat),j<k→∀y,ars[j]?=some y→p y=false
 | []=>.inl fun j y h=>by simp at h
 | a::l=>by
  cases h:p a
  ·rcases ZjZ p l with h1|⟨k,x,h1,h2,h3⟩
   ·refine .inl fun j y hy=>?_
    match j,hy with
    | 0,hy=>simp only[List.getElem?_cons_zero,Option.some.injEq]at hy;rw[←hy];exact h
    | j+1,hy=>exact h1 j y (by simpa using hy)
   ·refine .inr ⟨k+1,x,by simpa using h1,h2,fun j hj y hy=>?_⟩
    match j,hj,hy with
    | 0,_,hy=>simp only[List.getElem?_cons_zero,Option.some.injEq]at hy;rw[←hy];exact h
    | j+1,hj,hy=>exact h3 j (by omega) y (by simpa using hy)
  ·exact .inr ⟨0,a,rfl,h,fun j hj=>absurd hj (by omega)⟩
theorem Zgr {l:List α}(h:∀(j:Nat) (y:α),l[j]?=some y→p y=false):l.filter (fun a=>!p a)=l:=by
 rw[List.filter_eq_self]
 intro a ha
 obtain⟨j,hj,rfl⟩:=List.getElem_of_mem ha
 rw[h j _ (List.getElem?_eq_getElem hj)]
 rfl
theorem Zqm.start {k:Nat}{x:α}(hx:ars[k]?=some x)(hp:p x=true)(lo:∀(j:Nat),j<k→∀y,ars[j]?=some y→p y=false):Zqm p ars ars k (k+1) where
 len:=rfl
 le:=by omega
 kept:=by
  rw[ZaK hx,List.filter_append,Zgr (fun j y hy=>?_)]
  ·simp[hp]
  ·rw[List.getElem?_take]at hy
   split at hy
   ·exact lo j (by assumption) y hy
   ·cases hy
 rest:=fun q _=>rfl
end
theorem Zgs {B e g n cap:Nat}:∀(vs:List Value) (o:Nat) (w:World) (cells:List Value),w.ownsRow B e 1 (.slice (some ⟨g,0,none⟩) n cap) n cells →
  ∃cells',(w.setCells g o vs).ownsRow B e 1 (.slice (some ⟨g,0,none⟩) n cap) n cells'∧cells'.take o=cells.take o
 | [],o,w,cells,h=>⟨cells,h,rfl⟩
 | v::r,o,w,cells,h=>by
  obtain⟨c2,h1,h2⟩:=Zgs r (o+1) (w.setCell ⟨g,o,none⟩ v) _ (h.stored o v).1
  refine⟨c2,h1, ?_⟩
  have e1:c2.take o=(c2.take (o+1)).take o:=by rw[List.take_take];congr 1;omega
  rw[e1,h2,List.take_take,Nat.min_eq_left (by omega),List.take_set_of_le (Nat.le_refl _)]
theorem Zsa {w:World}{B e n k g cap:Nat}{cells:List Value}(h:w.ownsRow B e 1 (.slice (some ⟨g,0,none⟩) n cap) n cells)(hk:k≤n):w.ownsRow B e 1 (.slice (some ⟨g,0,none⟩) k cap) k (cells.take k):=by
 obtain⟨h0,h1⟩:=h
 refine⟨by rw[List.length_take];omega, ?_⟩
 rcases h1 with⟨hv,_⟩|⟨g',cap',cur,hv,hg,hb,a1,a2,a3,a4⟩
 ·cases hv
 ·injection hv with e1 e2 e3
  subst e3
  injection e1 with e1
  injection e1 with e1
  subst e1
  refine .inr ⟨g,cap,cur,rfl,hg,hb,by omega,a2,a3, ?_⟩
  rw[←a4,List.take_take]
  congr 1
  omega
def ZaY (B:Nat):World→(Nat→Value)→List Int→Prop:=fun w vs xs=>∃n,Zaf w B (vs 0) n xs∧n≤17592186043904
theorem ZaY.kept (B:Nat):Zh9 (ZaY B):=fun _ _ _ _ hb ⟨n,h,l⟩=>⟨n,h.keep ZcE.kept hb,l⟩
theorem ZaY.list {B:Nat}{w:World}{vs:Nat→Value}{xs:List Int}(h:ZaY B w vs xs):ZaL w vs xs:=by
 obtain⟨n,o,l⟩:=h
 obtain⟨A,c,e,i⟩:=o.sl (by omega)
 exact⟨A,n,c,e,i,l⟩
theorem ZaY.grown {B B2 size n e:Nat}{w w':World}{v:Value}{cells:List Value}(hown:w.ownsRow B2 e size v n cells)(hne:3≠e)(hg:w.grownBy w' v.ownBlock){vs:Nat→Value}{xs:List Int}(h:ZaY B w vs xs):ZaY B w' vs xs:=by
 obtain⟨m,⟨c1,a1,a2,a3⟩,l⟩:=h
 exact⟨m,⟨c1,a1.kept hg (ZcV a1 hown hne),⟨a2.1,a2.2⟩,a3⟩,l⟩
theorem Zhe:ZeM 25 28 1 24:=ZeM.mk' (z:=.slice none 0 0) Tryz.underlying25 (by kernel_rfl) rfl (by decide)
theorem Zj0 {B B2 n:Nat}{w:World}{v:Value}{xs:List (List Int)}(h:Zad (ZaY B) 1 w B2 28 v n xs):∀w',w.grownBy w' v.ownBlock→∀vs y,ZaY B w vs y→ZaY B w' vs y:=by
 obtain⟨cells,h1,_⟩:=h
 exact fun w' hg vs y hy=>hy.grown h1 (by decide) hg
theorem Zax.list1 {R:World→(Nat→Value)→List Int→Prop}{w:World}{v:Value}{xs:List Int}(h:R w (fun _=>v) xs):Zax R 1 w [v] [xs] :=
 Zax.one h rfl (fun j hj=>by cases j with|zero=>rfl|succ j=>omega)
end Go.Proofs.YtfmnagcglhlicaaGreat
namespace Go.Proofs.YtfmnagcglhlicaaGreat
structure POp where
 kind:Int
 user:Int
 tran:Int
 item:Int
 to_:Int
end Go.Proofs.YtfmnagcglhlicaaGreat
namespace Go.Proofs.YtfmnagcglhlicaaGreat
open Go.RowKit
theorem Zcv (w:World)(o:Obj):Below w.heap.size w (w.alloc o):=(Below.refl _ _).alloc (Nat.le_refl _) _
theorem Zj1 (w:World)(q:Nat):Below w.heap.size w (w.drewN q):=⟨rfl,rfl,rfl,Nat.le_refl _,fun _ _=>rfl⟩
def Zsb:World→(Nat→Value)→Nat→Prop:=fun _ vs b=>vs 0=.int .u8 (b:Int)∧b<256
abbrev Bts (w:World)(A:Option Addr)(n c:Nat)(bs:List Nat):Prop:=Sl Zsb 1 w A n c bs
theorem Bts.get {w:World}{A:Option Addr}{n c k:Nat}{bs:List Nat}(h:Bts w A n c bs)(hk:k<n) :
  ∃b off x,A=some ⟨b,off,none⟩∧b<w.heap.size∧Hid (bs[k]?=some x)∧w.cell? ⟨b,off+k,none⟩=some (.int .u8 (x:Int))∧x<256:=by
 obtain⟨b,off,x,vs,h1,h2,h3,h4,h5,h6⟩:=Sl.get h hk
 refine⟨b,off,x,h1,h2,h3, ?_,h6⟩
 have:=h4 0 (by omega)
 rw[h5]at this
 simpa using this
theorem Zsc:ZeM 107 5 1 1:=ZeM.mk' (z:=.int .u8 0) Tryz.underlying107 (by kernel_rfl) rfl (by decide)
theorem Box.five {w:World}{b ty:Nat}{u0 u1 u2 u3 u4:Value}(h:Box w b ty #[u0,u1,u2,u3,u4]):w.cell? ⟨b,0,none⟩=some u0∧w.cell? ⟨b,1,none⟩=some u1∧w.cell? ⟨b,2,none⟩=some u2∧w.cell? ⟨b,3,none⟩=some u3∧w.cell? ⟨b,4,none⟩=some u4:=⟨h.cell 0,h.cell 1,h.cell 2,h.cell 3,h.cell 4⟩
abbrev ZgX (w:World)(B:Nat)(v:Value)(n:Nat)(bs:List Nat):Prop:=Zad Zsb 1 w B 5 v n bs
theorem Zax.bytes {w:World}{us:List Value}{bs:List Nat}(h:us=bs.map fun b:Nat=>Value.int .u8 (b:Int))(hb:∀b∈bs,b<256):Zax Zsb 1 w us bs:=by
 subst h
 refine⟨by simp,fun i x hx=>⟨fun _=>.int .u8 (x:Int),fun j hj=>?_,rfl,hb x (List.mem_of_getElem? hx)⟩⟩
 obtain rfl:j=0:=by omega
 simp[hx]
theorem Zhf {ops:Array Oper} {rest:List Oper} {o:Oper} {a:Act} {Q:Exit→Act→World→Prop} (hgd:o.guard=none) (s x:Operand)
  (ho:o.op=.call {callee:=.builtin .append,args:=#[s,x],argTypes:=#[107,107]})
  {w0 w:World} {B:Nat} {v:Value} {n m:Nat} {xs ys:List Nat} {us:Array Value} {H:Nat} (hs:a.eval s=v) (hx:a.eval x=.slice (some ⟨H,0,none⟩) m m) (hH:H=w.heap.size) (hus:us.toList=ys.map fun b:Nat=>Value.int .u8 (b:Int)) (hy:ys.length=m) (hlt:∀b∈ys,b<256)
  (own:ZgX w B v n xs) (hb:Below B w0 w) (hB:B≤w.heap.size) (hn:n+m≤1000)
  (K:∀v' w',ZgX w' B v' (n+m) (xs++ys)→w.grownBy w' v.ownBlock→Below B w0 w'→wpList Tryz.prog ops Q rest (a.put o.dst v') w') :
  wpList Tryz.prog ops Q (o::rest) a (w.alloc (.cells us 5)) :=
 Zbv Zsc hgd s x ho ys us hs hx hH (by rw[←Array.length_toList,hus,List.length_map,hy,Nat.mul_one]) (by rw[hus];intro u hu;obtain⟨b,_,rfl⟩:=List.mem_map.1 hu;rfl) own (Zax.bytes hus hlt) hy hb hB (by omega) (by omega) (fun _ _ _ _ h=>h) K
theorem Zad.notBox {α:Type}{R:World→(Nat→Value)→α→Prop}{sz:Nat}{w:World}{B e:Nat}{v:Value}{n:Nat}{xs:List α}{b ty:Nat}{cs:Array Value}(own:Zad R sz w B e v n xs)(x:Box w b ty cs)(hne:e≠ty):v.ownBlock≠some b:=by
 intro hv
 obtain⟨cells,o1,_⟩:=own
 rcases o1.2 with⟨rfl,_⟩|⟨g,cap,cur,rfl,_,hh,_⟩
 ·cases hv
 ·simp only[Value.ownBlock,Option.some.injEq]at hv
  subst hv
  have h2:w.heap[g]?=some (.cells cs ty (0,0)):=x
  rw[hh]at h2
  injection h2 with h2
  injection h2 with _ ht
  exact hne ht
def Zmq:World→(Nat→Value)→POp→Prop:=fun _ vs o=>vs 0=.int .i64 o.kind∧vs 1=.int .i64 o.user∧vs 2=.int .i64 o.tran∧vs 3=.int .i64 o.item∧vs 4=.int .i64 o.to_
theorem Zmq.kept:Zh9 Zmq:=fun _ _ _ _ _ h=>h
theorem Zmq.good:Zql Zmq 5 where
 kept:=Zmq.kept
 one:=fun w vs x h j hj=>by
  obtain⟨h0,h1,h2,h3,h4⟩:=h
  match j,hj with
  | 0,_=>rw[h0];rfl
  | 1,_=>rw[h1];rfl
  | 2,_=>rw[h2];rfl
  | 3,_=>rw[h3];rfl
  | 4,_=>rw[h4];rfl
 pos:=by omega
abbrev ZrO (w:World)(A:Option Addr)(n c:Nat)(os:List POp):Prop:=Sl Zmq 5 w A n c os
def ZrP (bs:List Nat):ByteArray:=strOfNums (bs.map fun b:Nat=>(b:Int))
theorem Bts.str {w:World}{A:Option Addr}{n c:Nat}{bs:List Nat}(h:Bts w A n c bs):(convert 107 9 (.slice A n c)).run Tryz.prog w=.ok (.string (ZrP bs)) w:=by
 rcases Nat.eq_zero_or_pos n with h0|h0
 ·subst h0
  have hx:=List.eq_nil_of_length_eq_zero h.len
  subst hx
  rcases A with _|⟨b,off,s⟩
  ·exact run_convert_bytes_nil w 107 5 Tryz.underlying107 Tryz.underlying5 0 c 9 Tryz.underlying9
  ·rw[run_convert_bytes_string w 107 9 5 _ 0 c Tryz.underlying107 Tryz.underlying5 Tryz.underlying9,run_bytesToString w _ 0 c [] (by
    have:=run_loadCells_list (P:=Tryz.prog) w ⟨b,off,s⟩ [] (fun j v hj=>by simp at hj)
    simpa using this)]
   rfl
 ·obtain⟨b,off,e,_,hc⟩:=h.cells h0
  subst e
  refine run_convert_bytes_arg w 107 5 Tryz.underlying107 Tryz.underlying5 b off n c _ (by rw[List.length_map,h.len]) (fun i hi=>?_) 9 Tryz.underlying9
  obtain⟨b',off',x,e,_,hx,hcx,_⟩:=Bts.get h hi
  injection e with e
  injection e with e1 e2
  subst e1 e2
  rw[hcx,List.getD_eq_getElem?_getD,List.getElem?_map,hx.out]
  rfl
end Go.Proofs.YtfmnagcglhlicaaGreat
