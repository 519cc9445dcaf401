/- The contract of grow on what goes side by side, given what it does within. Conditions: the block reads as a tree and is right. -/
import Derived.Test.YtfmnagcglhlicaaGreatTopSaidK32
import Derived.Test.YtfmnagcglhlicaaGreatTopSaidK33
import Derived.Maps.Range
set_option maxRecDepth 100000
namespace Go.Proofs.YtfmnagcglhlicaaGreat
open Go.RowKit
def ZlQ (u v:Value):Prop:=u.ownBlock=none∨u.ownBlock≠v.ownBlock
theorem Zsv {pl n i:Nat}(h:i<n):(Zlb pl n)[i]?=some (((pl+2*i:Nat)):Int):=by simp[Zlb,h]
theorem Zq0 {pl n i:Nat}(h:i<n):(ZfM pl n)[i]?=some (((pl+2*i+1:Nat)):Int):=by simp[ZfM,h]
theorem Zf9 {w w':World}(hb:Below w.heap.size w w'):w.grownBy w' none:=⟨hb.os,hb.tape,hb.output,hb.size,fun k hk _=>hb.block k hk⟩
theorem ZlQ.other {u v:Value}(h:ZlQ u v):v.ownBlock=none∨v.ownBlock≠u.ownBlock:=by
 rcases h with h|h
 ·cases hv:v.ownBlock with
  | none=>exact .inl rfl
  | some k=>exact .inr (by rw[h];simp)
 ·exact .inr (fun e=>h e.symm)
theorem Kp.jump {w u w':World}{bg:Nat}{cs:Array Value}(h:Kp w u)(hg:u.grownBy w' (some bg))(hx:Box u bg 135 cs):Kp w w':=h.trans ⟨hg.size,fun b cs' ty fr _ h2 hb=>hg.block b (Array.getElem?_eq_some_iff.1 hb).1 (fun e=>by
 injection e with e
 subst e
 unfold Box at hx
 rw[hx]at hb
 injection hb with hb
 injection hb with _ hb
 exact h2 hb.symm)⟩
theorem Zjt {u wa w8:World}{bg i j B:Nat}{vi vo v8:Value}{xs ys:List Int}{cs:Array Value}(hB:B=u.heap.size)(hbg:bg<u.heap.size)(OI:Zaf wa B vi i xs)(OO:Zaf wa B vo j ys)(DV:ZlQ vi vo)(GB:u.grownBy wa (some bg))(XB:Box wa bg 135 cs)(hg:wa.grownBy w8 vi.ownBlock)(hat:v8.ownBlock=vi.ownBlock∨v8.ownBlock=some wa.heap.size) :
  Zaf w8 B vo j ys∧ZlQ v8 vo∧u.grownBy w8 (some bg)∧Box w8 bg 135 cs:=by
 subst hB
 refine⟨Zad.kept OO hg DV.other (fun _ _ h=>h), ?_,GB.andThen hg (fun k hk=>.inl (Zad.lt OI k hk).1),XB.grown hg (fun e=>by have:=(Zad.lt OI bg e).1;omega)⟩
 rcases hat with h|h
 ·unfold ZlQ;rw[h];exact DV
 ·refine .inr (fun e=>?_)
  rw[h]at e
  have:=(Zad.lt OO _ e.symm).2
  omega
set_option maxHeartbeats 8000000 in
theorem Zpn {w0:World}{bg f d had:Nat}(IH0:Zkn w0 bg f){lb:Int}{A:Option Addr}{n c:Nat}{ks:List Zat}{p q:Int}{v:Value}{g:KSt}{w:World}(hc:(ZaR (f+1) (.mk 5 lb ks) had).2=0)(hK:Zhr d w0 A n c ks)(hG:GrW w0.heap.size bg w v g)(hB:Below w0.heap.size w0 w)(hf:ZaE g) :
  Calls Tryz.prog 54 #[.pointer (some ⟨bg,0,none⟩),.agg #[.int .i64 5,.int .i64 lb,.slice A n c],.int .i64 p,.int .i64 q] w (Zc0 w0 bg w (kbB (f+1) (.mk 5 lb ks) p q g)):=by
 have hent:∀(args:Array Value) (w:World),Sem.run Tryz.prog (callFunc 99 args) w=.ok (.enter 99 args) w:=fun args w=>by kernel_rfl
 obtain⟨_,_,h',_,hfold⟩:=Zdi hc
 replace hfold:ks.foldl (ZaI (ZaR f)) (had+1,0)=(h',0):=hfold
 have IH:=Zaa IH0
 have FO:=Zaa hfold
 obtain⟨pl,hpl⟩:∃pl,g.places=pl:=⟨_,rfl⟩
 obtain⟨F,hF⟩:∃F:KSt→Zat×Nat→KSt,F=Zil (kbB f) pl:=⟨_,rfl⟩
 obtain⟨g1,hg1⟩:∃g1,lnk (more g (2*n)) 0 [p] (Zlb pl n)=g1:=⟨_,rfl⟩
 obtain⟨g5,hg5⟩:∃g5,lnk (ks.zipIdx.foldl F g1) 0 (ZfM pl n) [q]=g5:=⟨_,rfl⟩
 have HFD:=Zaa hF
 have HLs:=hK.len
 have HR:=Zaa (show kbB (f+1) (.mk 5 lb ks) p q g=g5 by rw[ZtT,HLs,hpl,hg1,←hF,hg5])
 have TG:=Zaa (fun(i hd:Nat) (h1:(ks.take i).foldl (ZaI (ZaR f)) (had+1,0)=(hd,0))=>show Gr ((ks.take i).zipIdx.foldl F g1) (ks.zipIdx.foldl F g1) (h'-hd)from by
  rw[hF];exact ZlM (fun s=>s) _ Zpf h1 hfold)
 rw[HR.out]
 have F5:=Zaa (show ZaE g5→ZaE (ks.zipIdx.foldl F g1)from fun h=>Zg3 (by rw[hg5];exact h))
 have F1:=Zaa (show ZaE g5→ZaE g1 from fun h=>(TG.out 0 (had+1) rfl).fits (F5.out h))
 have F0:=Zaa (show ZaE g1→ZaE (more g (2*n))from fun h=>Zg3 (by rw[hg1];exact h))
 have bb:=Zab w (.cells #[.int .i64 5,.int .i64 lb,.slice A n c] 71)
 have BB:=Zaa (Box.new w #[.int .i64 5,.int .i64 lb,.slice A n c] 71)
 have GW:=Zaa (hG.keep bb)
 have BX:=Zaa (hB.trans (bb.mono hB.size))
 have KW:=Zaa (Kp.below bb)
 have HL:=Zaa HLs
 have hns:=hK.small
 have K:=Zaa hK
 have HFT:=Zaa hf
 have LK1:=Zaa hg1
 have LK5:=Zaa hg5
 have HPL:=Zaa hpl
 have hn16:2*n≤16∨¬ZaE (more g (2*n)):=by
  by_cases h:2*n≤16
  ·exact .inl h
  ·exact .inr fun hh=>h (by have:=hh.1;simp only[more]at this;omega)
 clear hG hB bb hK hc IH0 hfold hF hf HLs hg1 hg5 hpl
 go_enter Tryz.func54,Tryz.ntmps54
 go_upto_region 1 with fail
 generalize w.alloc (.cells #[.int .i64 5,.int .i64 lb,.slice A n c] 71)=u at *
 obtain⟨b0,b1,b2⟩:=BB.out.three
 have bgl:=Zaa GW.out.lt
 have XB0:=Zaa (show Box u bg 135 #[.int .i64 ((g.places+0:Nat):Int),v]from GW.out.box)
 have MF0:=Zaa (show ZaE (more g 0)from HFT.out)
 go_wp2
 clear b0 b1 b2
 have BXat:=Zaa (fun(wr:World) (hg:u.grownBy wr (some bg))=>show Below w0.heap.size w0 wr from BX.out.grown hg BX.out.size (fun k hk=>by cases hk;exact GW.out.lo))
 have KWat:=Zaa (fun(wr:World) (hg:u.grownBy wr (some bg))=>KW.out.jump hg GW.out.box)
 have BBat:=Zaa (fun(wr:World) (hg:u.grownBy wr (some bg))=>show Box wr w.heap.size 71 #[.int .i64 5,.int .i64 lb,.slice A n c]from BB.out.grown hg (fun e=>by
  injection e with e
  have h1:=GW.out.box
  have h2:=BB.out
  rw[e]at h1
  unfold Box at h1 h2
  rw[h2]at h1
  injection h1 with h1
  injection h1 with _ h1
  exact absurd h1 (by decide)))
 have hNu:=Zaa BX.out.size
 clear BX KW BB
 go_loopw [15,16,95] (fun vi vo iv wr=>∃(i:Nat),i≤n∧iv=.int .i64 i∧Hid (Zaf wr u.heap.size vi i (Zlb pl i))∧Hid (Zaf wr u.heap.size vo i (ZfM pl i))∧Hid (ZlQ vi vo)∧Hid (u.grownBy wr (some bg))∧Hid (Box wr bg 135 #[.int .i64 ((g.places+2*i:Nat):Int),v])∧Hid (ZaE (more g (2*i)))) (fun _ _ iv _=>n-(intOf iv).toNat)
 case atStart=>exact⟨0,Nat.zero_le _,rfl,Zad.nil,Zad.nil,.inl rfl,World.grownBy.refl _ _,XB0,MF0⟩
 case round =>
  clear XB0 MF0
  obtain⟨i,hi,rfl,OI,OO,DV,GB,XB,MF⟩:=hrel
  by_cases hlt:i<n
  ·have hki:(i:Int)<(n:Int):=by omega
   have G1:=Zaa (GW.out.far GB.out XB.out)
   have BX:=Zaa (BXat.out wr GB.out)
   obtain⟨X,hX⟩:∃X:Int,((pl+2*i:Nat):Int)=X:=⟨_,rfl⟩
   obtain⟨Y,hY⟩:∃Y:Int,((pl+2*i+1:Nat):Int)=Y:=⟨_,rfl⟩
   have IS:=Zaa (Zpd pl i)
   have OS:=Zaa (ZnH pl i)
   rw[hX]at IS
   rw[hY]at OS
   have hi4:i+1≤17592186044416:=by
    have:=MF.out.1
    simp only[more]at this
    omega
   by_cases h1:ZaE (more g (2*i+1))
   ·have P1:=Zaa (ZdH G1.out BX.out h1)
    rw[show(more g (2*i)).places=pl+2*i by simp only[more,HPL.out],hX]at P1
    by_cases h2:ZaE (more g (2*i+2))
    ·have P2:=Zaa (fun(w5:World) (hg5:u.grownBy w5 (some bg)) (hx5:Box w5 bg 135 #[.int .i64 ((g.places+(2*i+1):Nat):Int),v])=>show Calls Tryz.prog _ _ w5 (fun e w'=>e=.returned (.int .i64 Y)∧GrW w0.heap.size bg w' v (more g (2*i+2))∧Below w0.heap.size w0 w'∧Kp w5 w'∧w5.grownBy w' (some bg))from by
      have:=ZdH (GW.out.far hg5 hx5) (BXat.out w5 hg5) h2
      rw[show(more g (2*i+1)).places=pl+2*i+1 by simp only[more,HPL.out];omega,hY]at this
      exact this)
     clear hX hY hki G1 BX
     have hki:(i:Int)<(n:Int):=by omega
     go_wp2_with (first
      |(at_builtin;refine ZcP rfl _ _ rfl rfl rfl OOd.out SRd.out (Nat.le_trans GBd.out.size (Nat.le_refl _)) hi4 (BXat.out _ GBd.out) hNu.out ?_;intro v11 w11 own11 hg11 hb11 hat11;obtain⟨q1,q2,q3,q4⟩:=Zjt rfl bgl.out OOd.out OId.out DV8.out.other GBd.out XBd.out hg11 hat11;have OO11:=Zaa own11;have OI11:=Zaa q1;have DV11:=Zaa (ZlQ.other q2);have GB11:=Zaa q3;have XB11:=Zaa q4;clear own11 hg11 hb11 hat11 q1 q2 q3 q4)
      |(at_builtin;refine ZcP rfl _ _ rfl rfl rfl OIa.out SRa.out GBa.out.size hi4 (BXat.out _ GBa.out) hNu.out ?_;intro v8 w8 own8 hg8 hb8 hat8;obtain⟨q1,q2,q3,q4⟩:=Zjt rfl bgl.out OIa.out OOa.out DV.out GBa.out XBa.out hg8 hat8;have OI8:=Zaa own8;have OO8:=Zaa q1;have DV8:=Zaa q2;have GB8:=Zaa q3;have XB8:=Zaa q4;clear own8 hg8 hb8 hat8 q1 q2 q3 q4)
      |(go_at_call 101;(with_reducible refine(P2.out _ GB8.out XB8.out).mono ?_);rintro e w9 ⟨rfl,hg9,_,_,hgb9⟩;have bb9:=Zab w9 (.cells #[.int .i64 Y] 3);have GBd:=Zaa ((GB8.out.andThen hgb9 (fun j hj=>.inr hj)).andThen (Zf9 bb9) (fun j hj=>by cases hj));have XBd:=Zaa (show Box (w9.alloc (.cells #[.int .i64 Y] 3)) bg 135 #[.int .i64 ((g.places+(2*i+2):Nat):Int),v]from hg9.box.keep bb9);have OId:=Zaa (Zad.keep ZcE.kept (Zad.kept OI8.out hgb9 (.inr (fun e=>by have:=(Zad.lt OI8.out _ e).1;have:=bgl.out;omega)) (fun _ _ h=>h)) bb9);have OOd:=Zaa (Zad.keep ZcE.kept (Zad.kept OO8.out hgb9 (.inr (fun e=>by have:=(Zad.lt OO8.out _ e).1;have:=bgl.out;omega)) (fun _ _ h=>h)) bb9);have SRd:=Zaa (Zpk w0.heap.size w9 Y).1;clear bb9 hg9 hgb9)
      |(go_at_call 101;(with_reducible refine P1.out.mono ?_);rintro e w6 ⟨rfl,hg6,_,_,hgb6⟩;have bb6:=Zab w6 (.cells #[.int .i64 X] 3);have GBa:=Zaa ((GB.out.andThen hgb6 (fun j hj=>.inr hj)).andThen (Zf9 bb6) (fun j hj=>by cases hj));have XBa:=Zaa (show Box (w6.alloc (.cells #[.int .i64 X] 3)) bg 135 #[.int .i64 ((g.places+(2*i+1):Nat):Int),v]from hg6.box.keep bb6);have OIa:=Zaa (Zad.keep ZcE.kept (Zad.kept OI.out hgb6 (.inr (fun e=>by have:=(Zad.lt OI.out _ e).1;have:=bgl.out;omega)) (fun _ _ h=>h)) bb6);have OOa:=Zaa (Zad.keep ZcE.kept (Zad.kept OO.out hgb6 (.inr (fun e=>by have:=(Zad.lt OO.out _ e).1;have:=bgl.out;omega)) (fun _ _ h=>h)) bb6);have SRa:=Zaa (Zpk w0.heap.size w6 X).1;clear bb6 hg6 hgb6))
     go_roundw
     case rel=>exact⟨i+1,by omega,by go_num,Zaa (by rw[IS.out];exact OI11.out),Zaa (by rw[OS.out];exact OO11.out),DV11,GB11,XB11,Zaa h2⟩
     case measure=>simp[intOf];omega
    ·have P2:=Zaa (fun(w5:World) (hg5:u.grownBy w5 (some bg)) (hx5:Box w5 bg 135 #[.int .i64 ((g.places+(2*i+1):Nat):Int),v])=>show Calls Tryz.prog _ _ w5 (Zpj w0)from ZdI (GW.out.far hg5 hx5) (BXat.out w5 hg5) h1 h2)
     have NF:=Zaa (fun h=>h2 (ZhI (F0.out (F1.out h)) (by omega)))
     clear hX hY G1 BX
     go_wp2_with (first
      |(at_builtin;refine ZcP rfl _ _ rfl rfl rfl OIa.out SRa.out GBa.out.size hi4 (BXat.out _ GBa.out) hNu.out ?_;intro v8 w8 own8 hg8 hb8 hat8;obtain⟨q1,q2,q3,q4⟩:=Zjt rfl bgl.out OIa.out OOa.out DV.out GBa.out XBa.out hg8 hat8;have OI8:=Zaa own8;have OO8:=Zaa q1;have DV8:=Zaa q2;have GB8:=Zaa q3;have XB8:=Zaa q4;clear own8 hg8 hb8 hat8 q1 q2 q3 q4)
      |(go_at_call 101;(with_reducible refine(P2.out _ GB8.out XB8.out).mono ?_);rintro e w9 ⟨rfl,hb9⟩;have X9:=Zaa hb9;clear hb9)
      |(go_at_call 101;(with_reducible refine P1.out.mono ?_);rintro e w6 ⟨rfl,hg6,_,_,hgb6⟩;have bb6:=Zab w6 (.cells #[.int .i64 X] 3);have GBa:=Zaa ((GB.out.andThen hgb6 (fun j hj=>.inr hj)).andThen (Zf9 bb6) (fun j hj=>by cases hj));have XBa:=Zaa (show Box (w6.alloc (.cells #[.int .i64 X] 3)) bg 135 #[.int .i64 ((g.places+(2*i+1):Nat):Int),v]from hg6.box.keep bb6);have OIa:=Zaa (Zad.keep ZcE.kept (Zad.kept OI.out hgb6 (.inr (fun e=>by have:=(Zad.lt OI.out _ e).1;have:=bgl.out;omega)) (fun _ _ h=>h)) bb6);have OOa:=Zaa (Zad.keep ZcE.kept (Zad.kept OO.out hgb6 (.inr (fun e=>by have:=(Zad.lt OO.out _ e).1;have:=bgl.out;omega)) (fun _ _ h=>h)) bb6);have SRa:=Zaa (Zpk w0.heap.size w6 X).1;clear bb6 hg6 hgb6))
     exact⟨rfl,.inr ⟨NF.out,rfl,X9.out⟩⟩
   ·have P1:=Zaa (ZdI G1.out BX.out MF.out h1)
    have NF:=Zaa (fun h=>h1 (ZhI (F0.out (F1.out h)) (by omega)))
    go_wp2_with (go_at_call 101;(with_reducible refine P1.out.mono ?_);rintro e w7 ⟨rfl,hb7⟩;have X7:=Zaa hb7;clear hb7)
    exact⟨rfl,.inr ⟨NF.out,rfl,X7.out⟩⟩
  ·obtain rfl:i=n:=by omega
   have G1:=Zaa (GW.out.far GB.out XB.out)
   have BX:=Zaa (BXat.out wr GB.out)
   have KW:=Zaa (KWat.out wr GB.out)
   have BB:=Zaa (BBat.out wr GB.out)
   have hi16:i≤16:=by
    have:=MF.out.1
    simp only[more]at this
    omega
   obtain⟨Ai,ci,rfl,ii⟩:=Zad.sl OI.out (by omega)
   obtain⟨Ao,co,rfl,io⟩:=Zad.sl OO.out (by omega)
   have fi:=Zim.own (N:=w0.heap.size) OI.out
   have fo:=Zim.own (N:=w0.heap.size) OO.out
   have bb1:=Zab wr (.cells #[.int .i64 p] 3)
   have I1:=Zpk w0.heap.size wr p
   have II:=Zaa (fi.same ii bb1.size (fun b hb _=>bb1.block b hb))
   have IO:=Zaa (fo.same io bb1.size (fun b hb _=>bb1.block b hb))
   have CL:=Zaa (Zet 0 (G1.out.keep bb1) (BX.out.trans (bb1.mono BX.out.size)) I1.1 II.out.2 I1.2 II.out.1 MF.out)
   rw[LK1.out]at CL
   have X1:=Zaa (BX.out.trans (bb1.mono BX.out.size))
   have K1:=Zaa (KW.out.trans (Kp.below bb1))
   have B1:=Zaa (BB.out.keep bb1)
   obtain⟨c0,c1,c2⟩:=BB.out.three
   clear OI OO DV GB XB G1 BX KW BB ii io fi fo bb1 I1 BXat KWat BBat hlt hn16
   by_cases h1:ZaE g1
   ·have CK:=Zaa (ZcF CL.out h1)
    have FT0:=Zaa (show ZaE ((ks.take 0).zipIdx.foldl F g1)from h1)
    clear CL
    go_upto_region 31 with(first
     |(go_at_call 99;(with_reducible refine(Zbh _ _).mono ?_);rintro e w1 ⟨rfl,rfl⟩)
     |(go_at_call 100;(with_reducible refine CK.out.mono ?_);rintro e wa ⟨rfl,⟨va,hga⟩,hba,hka⟩;have GA:=Zaa (show GrW w0.heap.size bg wa va ((ks.take 0).zipIdx.foldl F g1)from hga);have XA:=Zaa hba;have KA:=Zaa (K1.out.trans hka);have BBA:=Zaa (hka.box B1.out (by decide) (by decide));have IIa:=Zaa (II.out.1.kp II.out.2 hka X1.out hba);have IOa:=Zaa (IO.out.1.kp IO.out.2 hka X1.out hba);clear hga hba hka))
    clear c0 c1 c2 II IO X1 K1 B1 CK
    obtain⟨c0,c1,c2⟩:=BBA.out.three
    go_wp2
    clear c0 c1 c2
    go_loopw [117] (fun iv wr=>∃(j hd:Nat) (v:Value),j≤i∧iv=.int .i64 j∧Hid (GrW w0.heap.size bg wr v ((ks.take j).zipIdx.foldl F g1))∧Hid ((ks.take j).foldl (ZaI (ZaR f)) (had+1,0)=(hd,0))∧Hid (ZaE ((ks.take j).zipIdx.foldl F g1))∧Hid (Below w0.heap.size w0 wr)∧Hid (Kp w wr)∧Hid (Zim w0.heap.size wr Ai i∧Zam wr Ai i ci (Zlb pl i))∧Hid (Zim w0.heap.size wr Ao i∧Zam wr Ao i co (ZfM pl i))) (fun iv _=>i-(intOf iv).toNat)
    case atStart=>exact⟨0,had+1,va,Nat.zero_le _,rfl,GA,rfl,FT0,XA,KA,IIa,IOa⟩
    case round =>
     clear GA FT0 XA KA IIa IOa BBA
     obtain⟨j,hd,v,hj,rfl,GW,CK,FT,BX,KW,II,IO⟩:=hrel
     by_cases hlt:j<i
     ·have hki:(j:Int)<(i:Int):=by omega
      obtain⟨bl,off,kd',lb',ks',B',m',e',d',rfl,rfl,hbl,hx,p0,p1,p2,K'⟩:=K.out.get hlt
      have q0:=(BX.out.cell (p:=⟨bl,_,none⟩) hbl).trans p0
      have q1:=(BX.out.cell (p:=⟨bl,_,none⟩) hbl).trans p1
      have q2:=(BX.out.cell (p:=⟨bl,_,none⟩) hbl).trans p2
      obtain⟨hd',hk1,hk2⟩:=Zdj FO.out hx.out CK.out
      have CK2:=Zaa hk2
      have ZS:=Zaa (Zg2 (F:=F) (s:=g1) hx.out)
      have bb2:=Zab wr (.cells #[.int .i64 kd',.int .i64 lb',.slice B' m' e'] 71)
      have X3:=Zaa (BX.out.trans (bb2.mono BX.out.size)).drew
      have G3:=Zaa ((GW.out.keep bb2).keep (Below.refl _ _).drew)
      have K3:=Zaa ((KW.out.trans (Kp.below bb2)).trans (Kp.below (Below.refl _ _).drew))
      have II3:=Zaa (show Zim w0.heap.size (wr.alloc (.cells #[.int .i64 kd',.int .i64 lb',.slice B' m' e'] 71)).drew Ai i∧Zam (wr.alloc (.cells #[.int .i64 kd',.int .i64 lb',.slice B' m' e'] 71)).drew Ai i ci (Zlb pl i)from by
       have h1:=II.out.1.same II.out.2 bb2.size (fun b hb _=>bb2.block b hb)
       exact⟨h1.1,Zam.keep h1.2 (Below.refl _ _).drew⟩)
      have IO3:=Zaa (show Zim w0.heap.size (wr.alloc (.cells #[.int .i64 kd',.int .i64 lb',.slice B' m' e'] 71)).drew Ao i∧Zam (wr.alloc (.cells #[.int .i64 kd',.int .i64 lb',.slice B' m' e'] 71)).drew Ao i co (ZfM pl i)from by
       have h1:=IO.out.1.same IO.out.2 bb2.size (fun b hb _=>bb2.block b hb)
       exact⟨h1.1,Zam.keep h1.2 (Below.refl _ _).drew⟩)
      have XB:=Zaa (Box.new wr #[.int .i64 kd',.int .i64 lb',.slice B' m' e'] 71)
      obtain⟨X,hX⟩:∃X:Int,((pl+2*j:Nat):Int)=X:=⟨_,rfl⟩
      obtain⟨Y,hY⟩:∃Y:Int,((pl+2*j+1:Nat):Int)=Y:=⟨_,rfl⟩
      have CI:=Zaa (IH.out d' kd' lb' B' m' e' hd ks' X Y v _ (wr.alloc (.cells #[.int .i64 kd',.int .i64 lb',.slice B' m' e'] 71)).drew (by rw[hk1]) K'.out G3.out X3.out FT.out)
      have HZ:=Zaa (show kbB f (.mk kd' lb' ks') X Y ((ks.take j).zipIdx.foldl F g1)=(ks.take (j+1)).zipIdx.foldl F g1 by rw[ZS.out,HFD.out,←hX,←hY];rfl)
      rw[HZ.out]at CI
      obtain⟨bi,ofi,xi,hAi,hbi,hxi,ci0⟩:=II3.out.2.get hlt
      obtain⟨bo,ofo,xo,hAo,hbo,hxo,co0⟩:=IO3.out.2.get hlt
      obtain rfl:X=xi:=by have:=hxi.out;rw[Zsv hlt,hX]at this;injection this
      obtain rfl:Y=xo:=by have:=hxo.out;rw[Zq0 hlt,hY]at this;injection this
      subst hAi hAo
      have TGI:=Zaa (TG.out (j+1) hd' hk2)
      clear p0 p1 p2 hk1 hk2 bb2 hx K' HZ ZS hX hY hxi hxo hbi hbo II IO GW KW
      go_upto_region 34 with fail
      clear q0 q1 q2
      obtain⟨t0,t1,t2⟩:=XB.out.three
      refine Zae 10 (.takes [0,1,2,3,4,5,6,7,8,9] (.fin 10 .done)) (fun w'=>w'.cell? ⟨wr.heap.size,0,none⟩=some (.int .i64 kd')∧w'.cell? ⟨wr.heap.size,1,none⟩=some (.int .i64 lb')∧w'.cell? ⟨wr.heap.size,2,none⟩=some (.slice B' m' e')∧w'.cell? ⟨bi,ofi+j,none⟩=some (.int .i64 X)∧w'.cell? ⟨bo,ofo+j,none⟩=some (.int .i64 Y)) (by kernel_rfl) (by kernel_rfl) (by kernel_rfl) (fun _ _ _ _ _ h=>h) ⟨t0,t1,t2,ci0,co0⟩ (fun hHeld=>?_)
      simp only[Scr.takes]
      generalize (wr.alloc (.cells #[.int .i64 kd',.int .i64 lb',.slice B' m' e'] 71)).drew=u5 at *
      iterate 10
       refine Zac (v:=?_) rfl (by rfl) hHeld (fun w' hSw=>?_) ?_
       rotate_left
       ·(go_simp;try with_reducible rfl)
       try simp only[Act.put,Zag,Zah,Zai]
      by_cases hfit:ZaE ((ks.take (j+1)).zipIdx.foldl F g1)
      ·have CJ:=Zaa (ZcF CI.out hfit)
       have FT2:=Zaa hfit
       clear CI hfit
       refine Zaz rfl (fun Kf hKf=>?_)
       go_simp;go_at_call 54
       (with_reducible refine CJ.out.mono ?_)
       rintro e w4 ⟨rfl,⟨v4,hg4⟩,hb4,hk4⟩
       have G4:=Zaa hg4
       have X4:=Zaa hb4
       have K4:=Zaa (K3.out.trans hk4)
       have II4:=Zaa (II3.out.1.kp II3.out.2 hk4 X3.out hb4)
       have IO4:=Zaa (IO3.out.1.kp IO3.out.2 hk4 X3.out hb4)
       clear hg4 hb4 hk4 hHeld
       refine hKf.out _ _ ?_
       clear hKf
       try simp only[Act.put,Zag,Zah,Zai]
       refine ZaH ?_
       go_wp2
       go_roundw
       case rel=>exact⟨j+1,hd',v4,by omega,by go_num,G4,CK2,FT2,X4,K4,II4,IO4⟩
       case measure=>simp[intOf];omega
      ·have CJ:=Zaa (ZcG CI.out hfit)
       have NF:=Zaa (fun h=>hfit (TGI.out.fits (F5.out h)))
       clear CI hfit
       refine Zaz rfl (fun Kf hKf=>?_)
       go_simp;go_at_call 54
       (with_reducible refine CJ.out.mono ?_)
       rintro e w4 ⟨rfl,hb4⟩
       have X4:=Zaa hb4
       clear hb4 hHeld hKf
       exact And.intro rfl (Or.inr ⟨NF.out,rfl,X4.out⟩)
     ·obtain rfl:j=i:=by omega
      have ZA:=Zaa (ZlL (F:=F) (s:=g1) (l:=ks) (i:=j) (by rw[HL.out];exact Nat.le_refl _))
      rw[ZA.out]at GW FT
      have bb1:=Zab wr (.cells #[.int .i64 q] 3)
      have I1:=Zpk w0.heap.size wr q
      have IO1:=Zaa (IO.out.1.same IO.out.2 bb1.size (fun b hb _=>bb1.block b hb))
      have CL:=Zaa (Zet 0 (GW.out.keep bb1) (BX.out.trans (bb1.mono BX.out.size)) IO1.out.2 I1.1 IO1.out.1 I1.2 FT.out)
      rw[LK5.out]at CL
      have K1:=Zaa (KW.out.trans (Kp.below bb1))
      clear bb1 I1 II IO GW KW
      by_cases h5:ZaE g5
      ·have CJ:=Zaa (ZcF CL.out h5)
       have FT5:=Zaa h5
       clear CL
       go_wp2_with (first
        |(go_at_call 99;(with_reducible refine(Zbh _ _).mono ?_);rintro e w1 ⟨rfl,rfl⟩)
        |(go_at_call 100;(with_reducible refine CJ.out.mono ?_);rintro e we ⟨rfl,hge,hbe,hke⟩;have GE:=Zaa hge;have XE:=Zaa hbe;have KE:=Zaa (K1.out.trans hke);clear hge hbe hke))
       exact bodyPost_end (v:=.tuple #[]) (by simp[results,Tryz.results54,go_sem]) rfl (.inl ⟨FT5.out,rfl,GE.out,XE.out,KE.out⟩)
      ·have CJ:=Zaa (ZcG CL.out h5)
       have NF:=Zaa h5
       clear CL
       go_wp2_with (first
        |(go_at_call 99;(with_reducible refine(Zbh _ _).mono ?_);rintro e w1 ⟨rfl,rfl⟩)
        |(go_at_call 100;(with_reducible refine CJ.out.mono ?_);rintro e we ⟨rfl,hbe⟩;have XE:=Zaa hbe;clear hbe))
       exact⟨rfl,.inr ⟨NF.out,rfl,XE.out⟩⟩
   ·have CK:=Zaa (ZcG CL.out h1)
    have NF:=Zaa (fun h=>h1 (F1.out h))
    clear CL
    go_wp2_with (first
     |(go_at_call 99;(with_reducible refine(Zbh _ _).mono ?_);rintro e w1 ⟨rfl,rfl⟩)
     |(go_at_call 100;(with_reducible refine CK.out.mono ?_);rintro e we ⟨rfl,hbe⟩;have XE:=Zaa hbe;clear hbe))
    exact⟨rfl,.inr ⟨NF.out,rfl,XE.out⟩⟩
end Go.Proofs.YtfmnagcglhlicaaGreat
