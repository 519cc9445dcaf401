/- The contract of grow on what goes side by side, given what it does within. Conditions: the block reads as a tree and is right. -/
import Derived.Test.YtfmnagcglhlicaaGreatTopCrashK39
import Derived.Maps.Range
set_option maxRecDepth 100000
set_option maxHeartbeats 8000000
namespace Go.Proofs.YtfmnagcglhlicaaGreat
open Go.RowKit
def Hf (u v:Value):Prop:=u.ownBlock=none∨u.ownBlock≠v.ownBlock
theorem Vh {pl n i:Nat}(h:i<n):(Ez pl n)[i]?=some (((pl+2*i:Nat)):Int):=by simp[Ez,h]
theorem Sr {pl n i:Nat}(h:i<n):(qW pl n)[i]?=some (((pl+2*i+1:Nat)):Int):=by simp[qW,h]
theorem rV {w w':World}(hb:Below w.heap.size w w'):w.grownBy w' none:=⟨hb.os,hb.tape,hb.output,hb.size,fun k hk _=>hb.block k hk⟩
theorem Hf.other {u v:Value}(h:Hf u v):v.ownBlock=none∨v.ownBlock≠u.ownBlock:=by
 rcases h with h|h
 ·cases hv:v.ownBlock with
  | none=>exact .inl rfl
  | some k=>exact .inr (by rw[h];simp)
 ·exact .inr (fun e=>h e.symm)
theorem Kp.jump {w u w':World}{bg:Nat}{cs:Array Value}(h:Kp w u)(hg:u.grownBy w' (some bg))(hx:Box u bg 135 cs):Kp w w':=h.trans ⟨hg.size,fun b cs' ty fr _ h2 hb=>hg.block b (Array.getElem?_eq_some_iff.1 hb).1 (fun e=>by
 injection e with e;subst e;unfold Box at hx;rw[hx]at hb;injection hb with hb;injection hb with _ hb;exact h2 hb.symm)⟩
theorem z6 {u wa w8:World}{bg i j B:Nat}{vi vo v8:Value}{xs ys:LIn}{cs:Array Value}(hB:B=u.heap.size)(hbg:bg<u.heap.size)(OI:aD wa B vi i xs)(OO:aD wa B vo j ys)(DV:Hf vi vo)(GB:u.grownBy wa (some bg))(XB:Box wa bg 135 cs)(hg:wa.grownBy w8 vi.ownBlock)(hat:v8.ownBlock=vi.ownBlock∨v8.ownBlock=some wa.heap.size) :
  aD w8 B vo j ys∧Hf v8 vo∧u.grownBy w8 (some bg)∧Box w8 bg 135 cs:=by
 subst hB;refine⟨aC.kept OO hg DV.other (fun _ _ h=>h), ?_,GB.andThen hg (fun k hk=>.inl (aC.lt OI k hk).1),XB.grown hg (fun e=>by have:=(aC.lt OI bg e).1;omega)⟩;rcases hat with h|h
 ·unfold Hf;rw[h];exact DV
 ·refine .inr (fun e=>?_);rw[h]at e;have:=(aC.lt OO _ e.symm).2;omega
theorem PZ {w0:World}{bg f d had:Nat}(IH0:DY w0 bg f){lb:Int}{A:OAd}{n c:Nat}{ks:List aW}{p q:Int}{v:Value}{g:KSt}{w:World}(hc:(bX (f+1) (.mk 5 lb ks) had).2=0)(hK:vD d w0 A n c ks)(hG:GrW w0.heap.size bg w v g)(hB:Below w0.heap.size w0 w)(hf:bJ g) :
  Calls Tryz.prog 54 #[.pointer (some ⟨bg,0,none⟩),.agg #[.int .i64 5,.int .i64 lb,.slice A n c],.int .i64 p,.int .i64 q] w (jP w0 bg w (kbB (f+1) (.mk 5 lb ks) p q g)):=by
 have hent:∀(args:Array Value) (w:World),Sem.run Tryz.prog (callFunc 99 args) w=.ok (.enter 99 args) w:=fun args w=>by kernel_rfl
 obtain⟨_,_,h',_,hfold⟩:=j7 hc;replace hfold:ks.foldl (bM (bX f)) (had+1,0)=(h',0):=hfold
 have IH:=aA IH0;have FO:=aA hfold;obtain⟨pl,hpl⟩:∃pl,g.places=pl:=⟨_,rfl⟩;obtain⟨F,hF⟩:∃F:KSt→aW×Nat→KSt,F=wW (kbB f) pl:=⟨_,rfl⟩;obtain⟨g1,hg1⟩:∃g1,lnk (more g (2*n)) 0 [p] (Ez pl n)=g1:=⟨_,rfl⟩;obtain⟨g5,hg5⟩:∃g5,lnk (ks.zipIdx.foldl F g1) 0 (qW pl n) [q]=g5:=⟨_,rfl⟩;have HFD:=aA hF;have HLs:=hK.len;have HR:=aA (show kbB (f+1) (.mk 5 lb ks) p q g=g5 by rw[Xk,HLs,hpl,hg1,←hF,hg5]);have TG:=aA (fun(i hd:Nat) (h1:(ks.take i).foldl (bM (bX f)) (had+1,0)=(hd,0))=>show Gr ((ks.take i).zipIdx.foldl F g1) (ks.zipIdx.foldl F g1) (h'-hd)from by
  rw[hF];exact GY (fun s=>s) _ PI h1 hfold)
 rw[HR.o];have F5:=aA (show bJ g5→bJ (ks.zipIdx.foldl F g1)from fun h=>tV (by rw[hg5];exact h));have F1:=aA (show bJ g5→bJ g1 from fun h=>(TG.o 0 (had+1) rfl).fits (F5.o h));have F0:=aA (show bJ g1→bJ (more g (2*n))from fun h=>tV (by rw[hg1];exact h));have bb:=aB w (.cells #[.int .i64 5,.int .i64 lb,.slice A n c] 71);have BB:=aA (Box.new w #[.int .i64 5,.int .i64 lb,.slice A n c] 71);have GW:=aA (hG.keep bb);have BX:=aA (hB.trans (bb.mono hB.size));have KW:=aA (Kp.below bb);have HL:=aA HLs;have hns:=hK.small;have K:=aA hK;have HFT:=aA hf;have LK1:=aA hg1;have LK5:=aA hg5;have HPL:=aA hpl;have hn16:2*n≤16∨¬bJ (more g (2*n)):=by
  by_cases h:2*n≤16
  ·exact .inl h
  ·exact .inr fun hh=>h (by have:=hh.1;simp only[more]at this;omega)
 clear hG hB bb hK hc IH0 hfold hF hf HLs hg1 hg5 hpl;go_enter Tryz.func54,Tryz.ntmps54
 go_upto_region 1 with fail
 generalize w.alloc (.cells #[.int .i64 5,.int .i64 lb,.slice A n c] 71)=u at *
 obtain⟨b0,b1,b2⟩:=BB.o.three;have bgl:=aA GW.o.lt;have XB0:=aA (show Box u bg 135 #[.int .i64 ((g.places+0:Nat):Int),v]from GW.o.box);have MF0:=aA (show bJ (more g 0)from HFT.o);go_wp2
 clear b0 b1 b2;have BXat:=aA (fun(wr:World) (hg:u.grownBy wr (some bg))=>show Below w0.heap.size w0 wr from BX.o.grown hg BX.o.size (fun k hk=>by cases hk;exact GW.o.lo));have KWat:=aA (fun(wr:World) (hg:u.grownBy wr (some bg))=>KW.o.jump hg GW.o.box);have BBat:=aA (fun(wr:World) (hg:u.grownBy wr (some bg))=>show Box wr w.heap.size 71 #[.int .i64 5,.int .i64 lb,.slice A n c]from BB.o.grown hg (fun e=>by
  injection e with e;have h1:=GW.o.box;have h2:=BB.o;rw[e]at h1;unfold Box at h1 h2;rw[h2]at h1;injection h1 with h1;injection h1 with _ h1;exact absurd h1 (by decide)))
 have hNu:=aA BX.o.size;clear BX KW BB;go_loopw [15,16,95] (fun vi vo iv wr=>∃(i:Nat),i≤n∧iv=.int .i64 i∧Hid (aD wr u.heap.size vi i (Ez pl i))∧Hid (aD wr u.heap.size vo i (qW pl i))∧Hid (Hf vi vo)∧Hid (u.grownBy wr (some bg))∧Hid (Box wr bg 135 #[.int .i64 ((g.places+2*i:Nat):Int),v])∧Hid (bJ (more g (2*i)))) (fun _ _ iv _=>n-(intOf iv).toNat)
 case atStart=>exact⟨0,Nat.zero_le _,rfl,aC.nil,aC.nil,.inl rfl,World.grownBy.refl _ _,XB0,MF0⟩
 case round =>
  clear XB0 MF0;obtain⟨i,hi,rfl,OI,OO,DV,GB,XB,MF⟩:=hrel;by_cases hlt:i<n
  ·have hki:(i:Int)<(n:Int):=by omega
   have G1:=aA (GW.o.far GB.o XB.o);have BX:=aA (BXat.o wr GB.o);obtain⟨X,hX⟩:∃X:Int,((pl+2*i:Nat):Int)=X:=⟨_,rfl⟩;obtain⟨Y,hY⟩:∃Y:Int,((pl+2*i+1:Nat):Int)=Y:=⟨_,rfl⟩;have IS:=aA (PC pl i);have OS:=aA (Ld pl i);rw[hX]at IS;rw[hY]at OS;have hi4:i+1≤17592186044416:=by
    have:=MF.o.1;simp only[more]at this;omega
   by_cases h1:bJ (more g (2*i+1))
   ·have P1:=aA (lI G1.o BX.o h1);rw[show(more g (2*i)).places=pl+2*i by simp only[more,HPL.o],hX]at P1;by_cases h2:bJ (more g (2*i+2))
    ·have P2:=aA (fun(w5:World) (hg5:u.grownBy w5 (some bg)) (hx5:Box w5 bg 135 #[.int .i64 ((g.places+(2*i+1):Nat):Int),v])=>show Calls Tryz.prog _ _ w5 (fun e w'=>e=.returned (.int .i64 Y)∧GrW w0.heap.size bg w' v (more g (2*i+2))∧Below w0.heap.size w0 w'∧Kp w5 w'∧w5.grownBy w' (some bg))from by
      have:=lI (GW.o.far hg5 hx5) (BXat.o w5 hg5) h2;rw[show(more g (2*i+1)).places=pl+2*i+1 by simp only[more,HPL.o];omega,hY]at this;exact this)
     clear hX hY hki G1 BX;have hki:(i:Int)<(n:Int):=by omega
     go_wp2_with (first
      |(at_builtin;refine iT rfl _ _ rfl rfl rfl OOd.o SRd.o (Nat.le_trans GBd.o.size (Nat.le_refl _)) hi4 (BXat.o _ GBd.o) hNu.o ?_;intro v11 w11 own11 hg11 hb11 hat11;obtain⟨q1,q2,q3,q4⟩:=z6 rfl bgl.o OOd.o OId.o DV8.o.other GBd.o XBd.o hg11 hat11;have OO11:=aA own11;have OI11:=aA q1;have DV11:=aA (Hf.other q2);have GB11:=aA q3;have XB11:=aA q4;clear own11 hg11 hb11 hat11 q1 q2 q3 q4)
      |(at_builtin;refine iT rfl _ _ rfl rfl rfl OIa.o SRa.o GBa.o.size hi4 (BXat.o _ GBa.o) hNu.o ?_;intro v8 w8 own8 hg8 hb8 hat8;obtain⟨q1,q2,q3,q4⟩:=z6 rfl bgl.o OIa.o OOa.o DV.o GBa.o XBa.o hg8 hat8;have OI8:=aA own8;have OO8:=aA q1;have DV8:=aA q2;have GB8:=aA q3;have XB8:=aA q4;clear own8 hg8 hb8 hat8 q1 q2 q3 q4)
      |(go_at_call 101;(with_reducible refine(P2.o _ GB8.o XB8.o).mono ?_);rintro e w9 ⟨rfl,hg9,_,_,hgb9⟩;have bb9:=aB w9 (.cells #[.int .i64 Y] 3);have GBd:=aA ((GB8.o.andThen hgb9 (fun j hj=>.inr hj)).andThen (rV bb9) (fun j hj=>by cases hj));have XBd:=aA (show Box (w9.alloc (.cells #[.int .i64 Y] 3)) bg 135 #[.int .i64 ((g.places+(2*i+2):Nat):Int),v]from hg9.box.keep bb9);have OId:=aA (aC.keep iG.kept (aC.kept OI8.o hgb9 (.inr (fun e=>by have:=(aC.lt OI8.o _ e).1;have:=bgl.o;omega)) (fun _ _ h=>h)) bb9);have OOd:=aA (aC.keep iG.kept (aC.kept OO8.o hgb9 (.inr (fun e=>by have:=(aC.lt OO8.o _ e).1;have:=bgl.o;omega)) (fun _ _ h=>h)) bb9);have SRd:=aA (PV w0.heap.size w9 Y).1;clear bb9 hg9 hgb9)
      |(go_at_call 101;(with_reducible refine P1.o.mono ?_);rintro e w6 ⟨rfl,hg6,_,_,hgb6⟩;have bb6:=aB w6 (.cells #[.int .i64 X] 3);have GBa:=aA ((GB.o.andThen hgb6 (fun j hj=>.inr hj)).andThen (rV bb6) (fun j hj=>by cases hj));have XBa:=aA (show Box (w6.alloc (.cells #[.int .i64 X] 3)) bg 135 #[.int .i64 ((g.places+(2*i+1):Nat):Int),v]from hg6.box.keep bb6);have OIa:=aA (aC.keep iG.kept (aC.kept OI.o hgb6 (.inr (fun e=>by have:=(aC.lt OI.o _ e).1;have:=bgl.o;omega)) (fun _ _ h=>h)) bb6);have OOa:=aA (aC.keep iG.kept (aC.kept OO.o hgb6 (.inr (fun e=>by have:=(aC.lt OO.o _ e).1;have:=bgl.o;omega)) (fun _ _ h=>h)) bb6);have SRa:=aA (PV w0.heap.size w6 X).1;clear bb6 hg6 hgb6))
     go_roundw
     case rel=>exact⟨i+1,by omega,by go_num,aA (by rw[IS.o];exact OI11.o),aA (by rw[OS.o];exact OO11.o),DV11,GB11,XB11,aA h2⟩
     case measure=>simp[intOf];omega
    ·have P2:=aA (fun(w5:World) (hg5:u.grownBy w5 (some bg)) (hx5:Box w5 bg 135 #[.int .i64 ((g.places+(2*i+1):Nat):Int),v])=>show Calls Tryz.prog _ _ w5 (PU w0)from lJ (GW.o.far hg5 hx5) (BXat.o w5 hg5) h1 h2);have NF:=aA (fun h=>h2 (vP (F0.o (F1.o h)) (by omega)));clear hX hY G1 BX;go_wp2_with (first
      |(at_builtin;refine iT rfl _ _ rfl rfl rfl OIa.o SRa.o GBa.o.size hi4 (BXat.o _ GBa.o) hNu.o ?_;intro v8 w8 own8 hg8 hb8 hat8;obtain⟨q1,q2,q3,q4⟩:=z6 rfl bgl.o OIa.o OOa.o DV.o GBa.o XBa.o hg8 hat8;have OI8:=aA own8;have OO8:=aA q1;have DV8:=aA q2;have GB8:=aA q3;have XB8:=aA q4;clear own8 hg8 hb8 hat8 q1 q2 q3 q4)
      |(go_at_call 101;(with_reducible refine(P2.o _ GB8.o XB8.o).mono ?_);rintro e w9 ⟨rfl,hb9⟩;have X9:=aA hb9;clear hb9)
      |(go_at_call 101;(with_reducible refine P1.o.mono ?_);rintro e w6 ⟨rfl,hg6,_,_,hgb6⟩;have bb6:=aB w6 (.cells #[.int .i64 X] 3);have GBa:=aA ((GB.o.andThen hgb6 (fun j hj=>.inr hj)).andThen (rV bb6) (fun j hj=>by cases hj));have XBa:=aA (show Box (w6.alloc (.cells #[.int .i64 X] 3)) bg 135 #[.int .i64 ((g.places+(2*i+1):Nat):Int),v]from hg6.box.keep bb6);have OIa:=aA (aC.keep iG.kept (aC.kept OI.o hgb6 (.inr (fun e=>by have:=(aC.lt OI.o _ e).1;have:=bgl.o;omega)) (fun _ _ h=>h)) bb6);have OOa:=aA (aC.keep iG.kept (aC.kept OO.o hgb6 (.inr (fun e=>by have:=(aC.lt OO.o _ e).1;have:=bgl.o;omega)) (fun _ _ h=>h)) bb6);have SRa:=aA (PV w0.heap.size w6 X).1;clear bb6 hg6 hgb6))
     exact⟨rfl,.inr ⟨NF.o,rfl,X9.o⟩⟩
   ·have P1:=aA (lJ G1.o BX.o MF.o h1);have NF:=aA (fun h=>h1 (vP (F0.o (F1.o h)) (by omega)));go_wp2_with (go_at_call 101;(with_reducible refine P1.o.mono ?_);rintro e w7 ⟨rfl,hb7⟩;have X7:=aA hb7;clear hb7)
    exact⟨rfl,.inr ⟨NF.o,rfl,X7.o⟩⟩
  ·obtain rfl:i=n:=by omega
   have G1:=aA (GW.o.far GB.o XB.o);have BX:=aA (BXat.o wr GB.o);have KW:=aA (KWat.o wr GB.o);have BB:=aA (BBat.o wr GB.o);have hi16:i≤16:=by
    have:=MF.o.1;simp only[more]at this;omega
   obtain⟨Ai,ci,rfl,ii⟩:=aC.sl OI.o (by omega);obtain⟨Ao,co,rfl,io⟩:=aC.sl OO.o (by omega);have fi:=wX.own (N:=w0.heap.size) OI.o;have fo:=wX.own (N:=w0.heap.size) OO.o;have bb1:=aB wr (.cells #[.int .i64 p] 3);have I1:=PV w0.heap.size wr p;have II:=aA (fi.same ii bb1.size (fun b hb _=>bb1.block b hb));have IO:=aA (fo.same io bb1.size (fun b hb _=>bb1.block b hb));have CL:=aA (m9 0 (G1.o.keep bb1) (BX.o.trans (bb1.mono BX.o.size)) I1.1 II.o.2 I1.2 II.o.1 MF.o);rw[LK1.o]at CL;have X1:=aA (BX.o.trans (bb1.mono BX.o.size));have K1:=aA (KW.o.trans (Kp.below bb1));have B1:=aA (BB.o.keep bb1);obtain⟨c0,c1,c2⟩:=BB.o.three;clear OI OO DV GB XB G1 BX KW BB ii io fi fo bb1 I1 BXat KWat BBat hlt hn16;by_cases h1:bJ g1
   ·have CK:=aA (iJ CL.o h1);have FT0:=aA (show bJ ((ks.take 0).zipIdx.foldl F g1)from h1);clear CL;go_upto_region 31 with(first
     |(go_at_call 99;(with_reducible refine(dD _ _).mono ?_);rintro e w1 ⟨rfl,rfl⟩)
     |(go_at_call 100;(with_reducible refine CK.o.mono ?_);rintro e wa ⟨rfl,⟨va,hga⟩,hba,hka⟩;have GA:=aA (show GrW w0.heap.size bg wa va ((ks.take 0).zipIdx.foldl F g1)from hga);have XA:=aA hba;have KA:=aA (K1.o.trans hka);have BBA:=aA (hka.box B1.o (by decide) (by decide));have IIa:=aA (II.o.1.kp II.o.2 hka X1.o hba);have IOa:=aA (IO.o.1.kp IO.o.2 hka X1.o hba);clear hga hba hka))
    clear c0 c1 c2 II IO X1 K1 B1 CK;obtain⟨c0,c1,c2⟩:=BBA.o.three;go_wp2
    clear c0 c1 c2;go_loopw [117] (fun iv wr=>∃(j hd:Nat) (v:Value),j≤i∧iv=.int .i64 j∧Hid (GrW w0.heap.size bg wr v ((ks.take j).zipIdx.foldl F g1))∧Hid ((ks.take j).foldl (bM (bX f)) (had+1,0)=(hd,0))∧Hid (bJ ((ks.take j).zipIdx.foldl F g1))∧Hid (Below w0.heap.size w0 wr)∧Hid (Kp w wr)∧Hid (wX w0.heap.size wr Ai i∧aJ wr Ai i ci (Ez pl i))∧Hid (wX w0.heap.size wr Ao i∧aJ wr Ao i co (qW pl i))) (fun iv _=>i-(intOf iv).toNat)
    case atStart=>exact⟨0,had+1,va,Nat.zero_le _,rfl,GA,rfl,FT0,XA,KA,IIa,IOa⟩
    case round =>
     clear GA FT0 XA KA IIa IOa BBA;obtain⟨j,hd,v,hj,rfl,GW,CK,FT,BX,KW,II,IO⟩:=hrel;by_cases hlt:j<i
     ·have hki:(j:Int)<(i:Int):=by omega
      obtain⟨bl,off,kd',lb',ks',B',m',e',d',rfl,rfl,hbl,hx,p0,p1,p2,K'⟩:=K.o.get hlt;have q0:=(BX.o.cell (p:=⟨bl,_,none⟩) hbl).trans p0;have q1:=(BX.o.cell (p:=⟨bl,_,none⟩) hbl).trans p1;have q2:=(BX.o.cell (p:=⟨bl,_,none⟩) hbl).trans p2;obtain⟨hd',hk1,hk2⟩:=j9 FO.o hx.o CK.o;have CK2:=aA hk2;have ZS:=aA (tU (F:=F) (s:=g1) hx.o);have bb2:=aB wr (.cells #[.int .i64 kd',.int .i64 lb',.slice B' m' e'] 71);have X3:=aA (BX.o.trans (bb2.mono BX.o.size)).drew;have G3:=aA ((GW.o.keep bb2).keep (Below.refl _ _).drew);have K3:=aA ((KW.o.trans (Kp.below bb2)).trans (Kp.below (Below.refl _ _).drew));have II3:=aA (show wX w0.heap.size (wr.alloc (.cells #[.int .i64 kd',.int .i64 lb',.slice B' m' e'] 71)).drew Ai i∧aJ (wr.alloc (.cells #[.int .i64 kd',.int .i64 lb',.slice B' m' e'] 71)).drew Ai i ci (Ez pl i)from by
       have h1:=II.o.1.same II.o.2 bb2.size (fun b hb _=>bb2.block b hb);exact⟨h1.1,aJ.keep h1.2 (Below.refl _ _).drew⟩)
      have IO3:=aA (show wX w0.heap.size (wr.alloc (.cells #[.int .i64 kd',.int .i64 lb',.slice B' m' e'] 71)).drew Ao i∧aJ (wr.alloc (.cells #[.int .i64 kd',.int .i64 lb',.slice B' m' e'] 71)).drew Ao i co (qW pl i)from by
       have h1:=IO.o.1.same IO.o.2 bb2.size (fun b hb _=>bb2.block b hb);exact⟨h1.1,aJ.keep h1.2 (Below.refl _ _).drew⟩)
      have XB:=aA (Box.new wr #[.int .i64 kd',.int .i64 lb',.slice B' m' e'] 71);obtain⟨X,hX⟩:∃X:Int,((pl+2*j:Nat):Int)=X:=⟨_,rfl⟩;obtain⟨Y,hY⟩:∃Y:Int,((pl+2*j+1:Nat):Int)=Y:=⟨_,rfl⟩;have CI:=aA (IH.o d' kd' lb' B' m' e' hd ks' X Y v _ (wr.alloc (.cells #[.int .i64 kd',.int .i64 lb',.slice B' m' e'] 71)).drew (by rw[hk1]) K'.o G3.o X3.o FT.o);have HZ:=aA (show kbB f (.mk kd' lb' ks') X Y ((ks.take j).zipIdx.foldl F g1)=(ks.take (j+1)).zipIdx.foldl F g1 by rw[ZS.o,HFD.o,←hX,←hY];rfl);rw[HZ.o]at CI;obtain⟨bi,ofi,xi,hAi,hbi,hxi,ci0⟩:=II3.o.2.get hlt;obtain⟨bo,ofo,xo,hAo,hbo,hxo,co0⟩:=IO3.o.2.get hlt;obtain rfl:X=xi:=by have:=hxi.o;rw[Vh hlt,hX]at this;injection this
      obtain rfl:Y=xo:=by have:=hxo.o;rw[Sr hlt,hY]at this;injection this
      subst hAi hAo;have TGI:=aA (TG.o (j+1) hd' hk2);clear p0 p1 p2 hk1 hk2 bb2 hx K' HZ ZS hX hY hxi hxo hbi hbo II IO GW KW;go_upto_region 34 with fail
      clear q0 q1 q2;obtain⟨t0,t1,t2⟩:=XB.o.three;refine aF 10 (.takes [0,1,2,3,4,5,6,7,8,9] (.fin 10 .done)) (fun w'=>w'.cell? ⟨wr.heap.size,0,none⟩=some (.int .i64 kd')∧w'.cell? ⟨wr.heap.size,1,none⟩=some (.int .i64 lb')∧w'.cell? ⟨wr.heap.size,2,none⟩=some (.slice B' m' e')∧w'.cell? ⟨bi,ofi+j,none⟩=some (.int .i64 X)∧w'.cell? ⟨bo,ofo+j,none⟩=some (.int .i64 Y)) (by kernel_rfl) (by kernel_rfl) (by kernel_rfl) (fun _ _ _ _ _ h=>h) ⟨t0,t1,t2,ci0,co0⟩ (fun hH=>?_);simp only[Scr.takes];generalize (wr.alloc (.cells #[.int .i64 kd',.int .i64 lb',.slice B' m' e'] 71)).drew=u5 at *
      iterate 10
       refine aH (v:=?_) rfl (by rfl) hH (fun w' hSw=>?_) ?_
       rotate_left
       ·(go_simp;try with_reducible rfl)
       try simp only[Act.put,aL,aM,aN]
      by_cases hfit:bJ ((ks.take (j+1)).zipIdx.foldl F g1)
      ·have CJ:=aA (iJ CI.o hfit);have FT2:=aA hfit;clear CI hfit;refine bF rfl (fun Kf hKf=>?_);go_simp;go_at_call 54
       (with_reducible refine CJ.o.mono ?_)
       rintro e w4 ⟨rfl,⟨v4,hg4⟩,hb4,hk4⟩;have G4:=aA hg4;have X4:=aA hb4;have K4:=aA (K3.o.trans hk4);have II4:=aA (II3.o.1.kp II3.o.2 hk4 X3.o hb4);have IO4:=aA (IO3.o.1.kp IO3.o.2 hk4 X3.o hb4);clear hg4 hb4 hk4 hH;refine hKf.out _ _ ?_;clear hKf;try simp only[Act.put,aL,aM,aN]
       refine bP ?_;go_wp2
       go_roundw
       case rel=>exact⟨j+1,hd',v4,by omega,by go_num,G4,CK2,FT2,X4,K4,II4,IO4⟩
       case measure=>simp[intOf];omega
      ·have CJ:=aA (iK CI.o hfit);have NF:=aA (fun h=>hfit (TGI.o.fits (F5.o h)));clear CI hfit;refine bF rfl (fun Kf hKf=>?_);go_simp;go_at_call 54
       (with_reducible refine CJ.o.mono ?_)
       rintro e w4 ⟨rfl,hb4⟩;have X4:=aA hb4;clear hb4 hH hKf;exact And.intro rfl (Or.inr ⟨NF.o,rfl,X4.o⟩)
     ·obtain rfl:j=i:=by omega
      have ZA:=aA (GU (F:=F) (s:=g1) (l:=ks) (i:=j) (by rw[HL.o];exact Nat.le_refl _));rw[ZA.o]at GW FT;have bb1:=aB wr (.cells #[.int .i64 q] 3);have I1:=PV w0.heap.size wr q;have IO1:=aA (IO.o.1.same IO.o.2 bb1.size (fun b hb _=>bb1.block b hb));have CL:=aA (m9 0 (GW.o.keep bb1) (BX.o.trans (bb1.mono BX.o.size)) IO1.o.2 I1.1 IO1.o.1 I1.2 FT.o);rw[LK5.o]at CL;have K1:=aA (KW.o.trans (Kp.below bb1));clear bb1 I1 II IO GW KW;by_cases h5:bJ g5
      ·have CJ:=aA (iJ CL.o h5);have FT5:=aA h5;clear CL;go_wp2_with (first
        |(go_at_call 99;(with_reducible refine(dD _ _).mono ?_);rintro e w1 ⟨rfl,rfl⟩)
        |(go_at_call 100;(with_reducible refine CJ.o.mono ?_);rintro e we ⟨rfl,hge,hbe,hke⟩;have GE:=aA hge;have XE:=aA hbe;have KE:=aA (K1.o.trans hke);clear hge hbe hke))
       exact bodyPost_end (v:=.tuple #[]) (by simp[results,Tryz.results54,go_sem]) rfl (.inl ⟨FT5.o,rfl,GE.o,XE.o,KE.o⟩)
      ·have CJ:=aA (iK CL.o h5);have NF:=aA h5;clear CL;go_wp2_with (first
        |(go_at_call 99;(with_reducible refine(dD _ _).mono ?_);rintro e w1 ⟨rfl,rfl⟩)
        |(go_at_call 100;(with_reducible refine CJ.o.mono ?_);rintro e we ⟨rfl,hbe⟩;have XE:=aA hbe;clear hbe))
       exact⟨rfl,.inr ⟨NF.o,rfl,XE.o⟩⟩
   ·have CK:=aA (iK CL.o h1);have NF:=aA (fun h=>h1 (F1.o h));clear CL;go_wp2_with (first
     |(go_at_call 99;(with_reducible refine(dD _ _).mono ?_);rintro e w1 ⟨rfl,rfl⟩)
     |(go_at_call 100;(with_reducible refine CK.o.mono ?_);rintro e we ⟨rfl,hbe⟩;have XE:=aA hbe;clear hbe))
    exact⟨rfl,.inr ⟨NF.o,rfl,XE.o⟩⟩
end Go.Proofs.YtfmnagcglhlicaaGreat
