/- The contract of grow on leaves, on choices and on loops, given what it does within. Conditions: the block reads as a tree and is right. | The contract of grow on choices, given what it does  -/
import Derived.Test.YtfmnagcglhlicaaGreatTopCrashK38
set_option maxRecDepth 100000
set_option maxHeartbeats 8000000
namespace Go.Proofs.YtfmnagcglhlicaaGreat
open Go.RowKit
def jP (w0:World)(bg:Nat)(w:World)(r:KSt)(e:Ending)(w':World):Prop :=
 (bJ r∧e=.returned (.tuple #[])∧(∃v',GrW w0.heap.size bg w' v' r)∧Below w0.heap.size w0 w'∧Kp w w')∨(¬bJ r∧e=.panicked [Le]∧Below w0.heap.size w0 w')
def Wm (w0:World)(bg:Nat)(w:World)(r:KSt)(e:Ending)(w':World):Prop:=e=.returned (.tuple #[])∧(∃v',GrW w0.heap.size bg w' v' r)∧Below w0.heap.size w0 w'∧Kp w w'
def PU (w0:World)(e:Ending)(w':World):Prop:=e=.panicked [Le]∧Below w0.heap.size w0 w'
section
variable {w0 w:World} {bg F:Nat} {args:Array Value} {r:KSt}
theorem iJ (h:Calls Tryz.prog F args w (jP w0 bg w r))(hf:bJ r):Calls Tryz.prog F args w (Wm w0 bg w r):=h.mono fun e w' h=>by
 rcases h with⟨_,h⟩|⟨h,_⟩
 ·exact h
 ·exact absurd hf h
theorem iK (h:Calls Tryz.prog F args w (jP w0 bg w r))(hf:¬bJ r):Calls Tryz.prog F args w (PU w0):=h.mono fun e w' h=>by
 rcases h with⟨h,_⟩|⟨_,h⟩
 ·exact absurd h hf
 ·exact h
end
theorem m9 {w0 w:World}{bg:Nat}{v:Value}{g:KSt}{A1 A2:OAd}{n1 c1 n2 c2:Nat}{xs ys:LIn}(l:Int)(h:GrW w0.heap.size bg w v g)(hb:Below w0.heap.size w0 w)(i1:aJ w A1 n1 c1 xs)(i2:aJ w A2 n2 c2 ys)(f1:wX w0.heap.size w A1 n1)(f2:wX w0.heap.size w A2 n2)(hf:bJ g) :
  Calls Tryz.prog 100 #[.pointer (some ⟨bg,0,none⟩),.int .i64 l,.slice A1 n1 c1,.slice A2 n2 c2] w (jP w0 bg w (lnk g l xs ys)):=by
 by_cases hl:g.links.length<24
 ·exact(Vg l h hb hb.size i1 i2 f1 f2 hl).mono fun e w' h=>.inl ⟨⟨hf.1,by simp only[lnk,List.length_append,List.length_cons,List.length_nil];omega⟩,h⟩
 ·exact(PT l h hb (by have:=hf.2;omega)).mono fun e w' h=>.inr ⟨fun hh=>hl (by have:=hh.2;simp only[lnk,List.length_append,List.length_cons,List.length_nil]at this;omega),h⟩
theorem PV (N:Nat)(w:World)(p:Int):aJ (w.alloc (.cells #[.int .i64 p] 3)) (some ⟨w.heap.size,0,none⟩) 1 1 [p]∧wX N (w.alloc (.cells #[.int .i64 p] 3)) (some ⟨w.heap.size,0,none⟩) 1:=by
 have hx:=Box.new w #[.int .i64 p] 3;refine⟨⟨rfl,Nat.le_refl _,by simp[maxLen],by omega,fun h=>(by cases h),fun _=>⟨w.heap.size,0,rfl,hx.lt,fun j x hx'=>?_⟩⟩,fun b off e _=>?_⟩
 ·obtain rfl:j=0:=by
   have:=(List.getElem?_eq_some_iff.1 hx').1;simpa using this
  simp only[List.getElem?_cons_zero,Option.some.injEq]at hx';subst hx';refine⟨fun _=>.int .i64 p,fun q hq=>?_,rfl⟩;obtain rfl:q=0:=by omega
  exact hx.cell 0
 ·injection e with e;injection e with e _;subst e;exact .inr ⟨_,_,hx⟩
def DY (w0:World)(bg f:Nat):Prop :=
 ∀(d:Nat) (kd lb:Int) (A:OAd) (n c had:Nat) (ks:List aW) (p q:Int) (v:Value) (g:KSt) (w:World),(bX f (.mk kd lb ks) had).2=0→vD d w0 A n c ks→GrW w0.heap.size bg w v g→Below w0.heap.size w0 w→bJ g →
  Calls Tryz.prog 54 #[.pointer (some ⟨bg,0,none⟩),.agg #[.int .i64 kd,.int .i64 lb,.slice A n c],.int .i64 p,.int .i64 q] w (jP w0 bg w (kbB f (.mk kd lb ks) p q g))
theorem DZ {w0:World}{bg f:Nat}{kd lb:Int}{A:OAd}{n c:Nat}{ks:List aW}{p q:Int}{v:Value}{g:KSt}{w:World}(hk:kd=1∨kd=2)(hG:GrW w0.heap.size bg w v g)(hB:Below w0.heap.size w0 w)(hf:bJ g) :
  Calls Tryz.prog 54 #[.pointer (some ⟨bg,0,none⟩),.agg #[.int .i64 kd,.int .i64 lb,.slice A n c],.int .i64 p,.int .i64 q] w (jP w0 bg w (kbB (f+1) (.mk kd lb ks) p q g)):=by
 have hent:∀(args:Array Value) (w:World),Sem.run Tryz.prog (callFunc 99 args) w=.ok (.enter 99 args) w:=fun args w=>by kernel_rfl
 obtain⟨l,hl⟩:∃l,(if kd=1 then 0 else lb)=l:=⟨_,rfl⟩;have HR:=aA (show kbB (f+1) (.mk kd lb ks) p q g=lnk g l [p] [q] by
  rcases hk with rfl|rfl
  ·rw[Xg,←hl,if_pos rfl]
  ·rw[Xh,←hl,if_neg (by decide)])
 rw[HR.o];have bb:=aB w (.cells #[.int .i64 kd,.int .i64 lb,.slice A n c] 71);have BB:=aA (Box.new w #[.int .i64 kd,.int .i64 lb,.slice A n c] 71);have GW:=aA (hG.keep bb);have BX:=aA (hB.trans (bb.mono hB.size));have KW0:=aA (Kp.below bb);have HL:=aA hl;clear hG hB bb hl;go_enter Tryz.func54,Tryz.ntmps54
 go_upto_region 1 with fail
 generalize w.alloc (.cells #[.int .i64 kd,.int .i64 lb,.slice A n c] 71)=u at *
 obtain⟨b0,b1,b2⟩:=BB.o.three;have bb1:=aB u (.cells #[.int .i64 p] 3);have bb2:=aB (u.alloc (.cells #[.int .i64 p] 3)) (.cells #[.int .i64 q] 3);have I1:=PV w0.heap.size u p;have I2:=PV w0.heap.size (u.alloc (.cells #[.int .i64 p] 3)) q;have CL:=aA (m9 l ((GW.o.keep bb1).keep bb2) ((BX.o.trans (bb1.mono BX.o.size)).trans (bb2.mono (BX.o.trans (bb1.mono BX.o.size)).size)) (I1.1.keep bb2) I2.1 (I1.2.same I1.1 bb2.size (fun b hb _=>bb2.block b hb)).1 I2.2 hf);rw[show(u.alloc (.cells #[.int .i64 p] 3)).heap.size=u.heap.size+1 by simp]at CL;have KW:=aA ((KW0.o.trans (Kp.below bb1)).trans (Kp.below bb2));clear bb1 bb2 I1 I2 KW0;by_cases hfit:bJ (lnk g l [p] [q])
 ·have CK:=aA (iJ CL.o hfit);have FT:=aA hfit;clear CL hfit;rcases hk with rfl|rfl
  ·obtain rfl:l=0:=by rw[←HL.o];rfl
   go_wp2_with (first
    |(go_at_call 99;(with_reducible refine(dD _ _).mono ?_);rintro e w1 ⟨rfl,rfl⟩)
    |(go_at_call 100;(with_reducible refine CK.o.mono ?_);rintro e w2 ⟨rfl,hv,hb,hk⟩;have HV:=aA hv;have HB:=aA hb;have HK:=aA (KW.o.trans hk);clear hv hb hk))
   exact bodyPost_end (v:=.tuple #[]) (by simp[results,Tryz.results54,go_sem]) rfl (.inl ⟨FT.o,rfl,HV.o,HB.o,HK.o⟩)
  ·obtain rfl:l=lb:=by rw[←HL.o];rfl
   go_wp2_with (first
    |(go_at_call 99;(with_reducible refine(dD _ _).mono ?_);rintro e w1 ⟨rfl,rfl⟩)
    |(go_at_call 100;(with_reducible refine CK.o.mono ?_);rintro e w2 ⟨rfl,hv,hb,hk⟩;have HV:=aA hv;have HB:=aA hb;have HK:=aA (KW.o.trans hk);clear hv hb hk))
   exact bodyPost_end (v:=.tuple #[]) (by simp[results,Tryz.results54,go_sem]) rfl (.inl ⟨FT.o,rfl,HV.o,HB.o,HK.o⟩)
 ·have CK:=aA (iK CL.o hfit);have FT:=aA hfit;clear CL hfit;rcases hk with rfl|rfl
  ·obtain rfl:l=0:=by rw[←HL.o];rfl
   go_wp2_with (first
    |(go_at_call 99;(with_reducible refine(dD _ _).mono ?_);rintro e w1 ⟨rfl,rfl⟩)
    |(go_at_call 100;(with_reducible refine CK.o.mono ?_);rintro e w2 ⟨rfl,hb⟩;have HB:=aA hb;clear hb))
   exact⟨rfl,.inr ⟨FT.o,rfl,HB.o⟩⟩
  ·obtain rfl:l=lb:=by rw[←HL.o];rfl
   go_wp2_with (first
    |(go_at_call 99;(with_reducible refine(dD _ _).mono ?_);rintro e w1 ⟨rfl,rfl⟩)
    |(go_at_call 100;(with_reducible refine CK.o.mono ?_);rintro e w2 ⟨rfl,hb⟩;have HB:=aA hb;clear hb))
   exact⟨rfl,.inr ⟨FT.o,rfl,HB.o⟩⟩
theorem Sj {w0:World}{bg f d had:Nat}(IH0:DY w0 bg f){lb:Int}{A:OAd}{n c:Nat}{ks:List aW}{p q:Int}{v:Value}{g:KSt}{w:World}(hc:(bX (f+1) (.mk 4 lb ks) had).2=0)(hK:vD d w0 A n c ks)(hG:GrW w0.heap.size bg w v g)(hB:Below w0.heap.size w0 w)(hf:bJ g) :
  Calls Tryz.prog 54 #[.pointer (some ⟨bg,0,none⟩),.agg #[.int .i64 4,.int .i64 lb,.slice A n c],.int .i64 p,.int .i64 q] w (jP w0 bg w (kbB (f+1) (.mk 4 lb ks) p q g)):=by
 obtain⟨_,_,h',_,hfold⟩:=j7 hc;replace hfold:ks.foldl (bM (bX f)) (had+1,0)=(h',0):=hfold
 have IH:=aA IH0;have FO:=aA hfold;obtain⟨F,hF⟩:∃F:KSt→aW×Nat→KSt,F=fun s x=>QH (kbB f) p q s x.1:=⟨_,rfl⟩
 have HFD:=aA hF;have HR:=aA (show kbB (f+1) (.mk 4 lb ks) p q g=ks.zipIdx.foldl F g by rw[Xj,hF,Ve]);have TG:=aA (fun(i hd:Nat) (h1:(ks.take i).foldl (bM (bX f)) (had+1,0)=(hd,0))=>show Gr ((ks.take i).zipIdx.foldl F g) (ks.zipIdx.foldl F g) (h'-hd)from by
  rw[hF];exact GY (fun s=>s) _ R6 h1 hfold)
 rw[HR.o];have bb:=aB w (.cells #[.int .i64 4,.int .i64 lb,.slice A n c] 71);have BB:=aA (Box.new w #[.int .i64 4,.int .i64 lb,.slice A n c] 71);have GW:=aA (hG.keep bb);have BX:=aA (hB.trans (bb.mono hB.size));have HL:=aA (show ks.length=n from hK.len);have hns:=hK.small;have K:=aA hK;have HFT:=aA hf;have KW:=aA (Kp.below bb);clear hG hB bb hK hc IH0 hfold hF hf;go_enter Tryz.func54,Tryz.ntmps54
 go_upto_region 1 with fail
 generalize w.alloc (.cells #[.int .i64 4,.int .i64 lb,.slice A n c] 71)=u at *
 obtain⟨b0,b1,b2⟩:=BB.o.three;have G0:=aA (show GrW w0.heap.size bg u v ((ks.take 0).zipIdx.foldl F g)from GW.o);clear GW;go_wp2
 clear b0 b1 b2;go_loopw [80] (fun iv wr=>∃(i hd:Nat) (v:Value),i≤n∧iv=.int .i64 i∧Hid (GrW w0.heap.size bg wr v ((ks.take i).zipIdx.foldl F g))∧Hid ((ks.take i).foldl (bM (bX f)) (had+1,0)=(hd,0))∧Hid (bJ ((ks.take i).zipIdx.foldl F g))∧Hid (Below w0.heap.size w0 wr)∧Hid (Kp w wr)) (fun iv _=>n-(intOf iv).toNat)
 case atStart=>exact⟨0,had+1,v,Nat.zero_le _,rfl,G0,rfl,HFT,BX,KW⟩
 case round =>
  clear G0 BX BB KW;obtain⟨i,hd,v,hi,rfl,GW,CK,FT,BX,KW⟩:=hrel;by_cases hlt:i<n
  ·have hki:(i:Int)<(n:Int):=by omega
   obtain⟨bl,off,kd',lb',ks',B',m',e',d',rfl,rfl,hbl,hx,p0,p1,p2,K'⟩:=K.o.get hlt;have q0:=(BX.o.cell (p:=⟨bl,_,none⟩) hbl).trans p0;have q1:=(BX.o.cell (p:=⟨bl,_,none⟩) hbl).trans p1;have q2:=(BX.o.cell (p:=⟨bl,_,none⟩) hbl).trans p2;obtain⟨hd',hk1,hk2⟩:=j9 FO.o hx.o CK.o;have CK2:=aA hk2;have ZS:=aA (tU (F:=F) (s:=g) hx.o);have bb2:=aB wr (.cells #[.int .i64 kd',.int .i64 lb',.slice B' m' e'] 71);have X3:=aA (BX.o.trans (bb2.mono BX.o.size));have K3:=aA (KW.o.trans (Kp.below bb2));have CI:=aA (IH.o d' kd' lb' B' m' e' hd ks' p q v _ (wr.alloc (.cells #[.int .i64 kd',.int .i64 lb',.slice B' m' e'] 71)) (by rw[hk1]) K'.o (GW.o.keep bb2) X3.o FT.o);have HZ:=aA (show kbB f (.mk kd' lb' ks') p q ((ks.take i).zipIdx.foldl F g)=(ks.take (i+1)).zipIdx.foldl F g by rw[ZS.o,HFD.o];rfl);rw[HZ.o]at CI;clear p0 p1 p2 hk1 hk2 bb2 hx K' HZ ZS;by_cases hfit:bJ ((ks.take (i+1)).zipIdx.foldl F g)
   ·have CJ:=aA (iJ CI.o hfit);have FT2:=aA hfit;clear CI hfit;go_wp2_with (go_at_call 54;(with_reducible refine CJ.o.mono ?_);rintro e w4 ⟨rfl,⟨v4,hg4⟩,hb4,hk4⟩;have G4:=aA hg4;have X4:=aA hb4;have K4:=aA (K3.o.trans hk4);clear hg4 hb4 hk4)
    go_roundw
    case rel=>exact⟨i+1,hd',v4,by omega,by go_num,G4,CK2,FT2,X4,K4⟩
    case measure=>simp[intOf];omega
   ·have CJ:=aA (iK CI.o hfit);have NF:=aA (show ¬bJ (ks.zipIdx.foldl F g)from fun h=>hfit ((TG.o (i+1) hd' CK2.o).fits h));clear CI hfit;go_wp2_with (go_at_call 54;(with_reducible refine CJ.o.mono ?_);rintro e w4 ⟨rfl,hb4⟩;have X4:=aA hb4;clear hb4)
    exact⟨rfl,.inr ⟨NF.o,rfl,X4.o⟩⟩
  ·obtain rfl:i=n:=by omega
   have ZA:=aA (GU (F:=F) (s:=g) (l:=ks) (i:=i) (by rw[HL.o];exact Nat.le_refl _));rw[ZA.o]at GW FT;go_wp2
   exact bodyPost_end (v:=.tuple #[]) (by simp[results,Tryz.results54,go_sem]) rfl (.inl ⟨FT.o,rfl,⟨v,GW.o⟩,BX.o,KW.o⟩)
theorem lI {w0 w:World}{bg:Nat}{v:Value}{g:KSt}(h:GrW w0.heap.size bg w v g)(hb:Below w0.heap.size w0 w)(hf:bJ (more g 1)) :
  Calls Tryz.prog 101 #[.pointer (some ⟨bg,0,none⟩)] w (fun e w'=>e=.returned (.int .i64 g.places)∧GrW w0.heap.size bg w' v (more g 1)∧Below w0.heap.size w0 w'∧Kp w w'∧w.grownBy w' (some bg)) :=
 R9 h hb (by have:=hf.1;simp only[more]at this;omega)
theorem lJ {w0 w:World}{bg:Nat}{v:Value}{g:KSt}(h:GrW w0.heap.size bg w v g)(hb:Below w0.heap.size w0 w)(hg:bJ g)(hf:¬bJ (more g 1)) :
  Calls Tryz.prog 101 #[.pointer (some ⟨bg,0,none⟩)] w (PU w0) :=
 Lh h hb (by
  have:=hg.1;have h2:=hg.2;apply Classical.byContradiction
  intro hne;exact hf ⟨by simp only[more];omega,by simpa only [more] using h2⟩)
theorem Sm {w0:World}{bg f d had:Nat}(IH0:DY w0 bg f){lb:Int}{A:OAd}{n c:Nat}{ks:List aW}{p q:Int}{v:Value}{g:KSt}{w:World}(hc:(bX (f+1) (.mk 3 lb ks) had).2=0)(hK:vD d w0 A n c ks)(hG:GrW w0.heap.size bg w v g)(hB:Below w0.heap.size w0 w)(hf:bJ g) :
  Calls Tryz.prog 54 #[.pointer (some ⟨bg,0,none⟩),.agg #[.int .i64 3,.int .i64 lb,.slice A n c],.int .i64 p,.int .i64 q] w (jP w0 bg w (kbB (f+1) (.mk 3 lb ks) p q g)):=by
 obtain⟨_,hhd,h',_,hfold⟩:=j7 hc;replace hfold:ks.foldl (bM (bX f)) (had+1,0)=(h',0):=hfold
 have hn0:0<n:=by
  have:=(tR hhd).2.2.2 (by show(3:Int)≤3;omega);have h2:=hK.len;simp only[aW.kids]at this;omega
 obtain⟨m,rfl⟩:∃m,n=m+1:=⟨n-1,by omega⟩;have IH:=aA IH0;have FO:=aA hfold;obtain⟨F,hF⟩:∃F:KSt×Int→aW×Nat→KSt×Int,F=Pz (kbB f) (m+1) q:=⟨_,rfl⟩;have HFD:=aA hF;have HLs:=hK.len;have HR:=aA (show kbB (f+1) (.mk 3 lb ks) p q g=(ks.zipIdx.foldl F (g,p)).1 by rw[Xi,hF,HLs]);have TG:=aA (fun(i hd:Nat) (h1:(ks.take i).foldl (bM (bX f)) (had+1,0)=(hd,0))=>show Gr ((ks.take i).zipIdx.foldl F (g,p)).1 (ks.zipIdx.foldl F (g,p)).1 (h'-hd)from by
  rw[hF];exact GY (fun s:KSt×Int=>s.1) _ R7 h1 hfold)
 rw[HR.o];have bb:=aB w (.cells #[.int .i64 3,.int .i64 lb,.slice A (m+1) c] 71);have BB:=aA (Box.new w #[.int .i64 3,.int .i64 lb,.slice A (m+1) c] 71);have GW:=aA (hG.keep bb);have BX:=aA (hB.trans (bb.mono hB.size));have HL:=aA HLs;have hns:=hK.small;have hcap:=hK.le;have hcap2:=hK.cap;have K:=aA hK;have HFT:=aA hf;have hBN:=aA (show w0.heap.size≤w.heap.size from hB.size);obtain⟨bA,offA,hA,_⟩:=hK.cells hn0;subst hA;have KW:=aA (Kp.below bb);clear hG hB bb hK hc IH0 hfold hF hf hhd HLs hn0;go_enter Tryz.func54,Tryz.ntmps54
 go_upto_region 1 with fail
 have BBL:=aA BB.o.lt;generalize w.alloc (.cells #[.int .i64 3,.int .i64 lb,.slice (some ⟨bA,offA,none⟩) (m+1) c] 71)=u at *
 obtain⟨b0,b1,b2⟩:=BB.o.three;have G0:=aA (show GrW w0.heap.size bg u v ((ks.take 0).zipIdx.foldl F (g,p)).1 from GW.o);have hm1:((m+1:Nat):Int)-1=(m:Int):=by omega
 have hmc:(m:Int)≤(c:Int):=by omega
 clear GW;go_wp2
 clear b0 b1 b2;go_loopw [2,50] (fun pv iv wr=>∃(i hd:Nat) (v:Value) (s:KSt×Int),i≤m∧iv=.int .i64 i∧pv=.int .i64 s.2∧Hid ((ks.take i).zipIdx.foldl F (g,p)=s)∧Hid (GrW w0.heap.size bg wr v s.1)∧Hid ((ks.take i).foldl (bM (bX f)) (had+1,0)=(hd,0))∧Hid (bJ s.1)∧Hid (Below w0.heap.size w0 wr)∧Hid (Kp w wr)∧Hid (Box wr w.heap.size 71 #[.int .i64 3,.int .i64 lb,.slice (some ⟨bA,offA,none⟩) (m+1) c])) (fun _ iv _=>m-(intOf iv).toNat)
 case atStart=>exact⟨0,had+1,v,(g,p),Nat.zero_le _,rfl,rfl,rfl,G0,rfl,HFT,BX,KW,BB⟩
 case round =>
  clear G0 BX BB BBL KW;obtain⟨i,hd,v,s,hi,rfl,rfl,HS,GW,CK,FT,BX,KW,BB⟩:=hrel;obtain⟨g1,p1⟩:=s;simp only at GW FT ⊢;by_cases hlt:i<m
  ·have hki:(i:Int)<(m:Int):=by omega
   obtain⟨bl,off,kd',lb',ks',B',m',e',d',rfl,hA',hbl,hx,p0,p1',p2,K'⟩:=K.o.get (show i<m+1 by omega);injection hA' with hA';injection hA' with e1 e2;subst e1 e2;have q0:=(BX.o.cell (p:=⟨bA,_,none⟩) hbl).trans p0;have q1:=(BX.o.cell (p:=⟨bA,_,none⟩) hbl).trans p1';have q2:=(BX.o.cell (p:=⟨bA,_,none⟩) hbl).trans p2;obtain⟨hd',hk1,hk2⟩:=j9 FO.o hx.o CK.o;have CK2:=aA hk2;have ZS:=aA (tU (F:=F) (s:=(g,p)) hx.o);have bb2:=aB wr (.cells #[.int .i64 kd',.int .i64 lb',.slice B' m' e'] 71);have X3:=aA (BX.o.trans (bb2.mono BX.o.size));have G3:=aA (GW.o.keep bb2);have BB3:=aA (BB.o.keep bb2);have XB:=aA (Box.new wr #[.int .i64 kd',.int .i64 lb',.slice B' m' e'] 71);have HN:=aA (show w0.heap.size≤wr.heap.size from BX.o.size);have HZ:=aA (show(ks.take (i+1)).zipIdx.foldl F (g,p)=(kbB f (.mk kd' lb' ks') p1 (g1.places:Int) (more g1 1),(g1.places:Int)) by rw[ZS.o,HS.o,HFD.o,Pz,if_pos (by simp only;omega)]);have TGI:=aA (TG.o (i+1) hd' hk2);rw[HZ.o]at TGI;simp only at TGI;have GRK:=aA (lG f (.mk kd' lb' ks') hd p1 (g1.places:Int) (more g1 1) (by rw[hk1]));have HK1:=aA hk1;have K3:=aA (KW.o.trans (Kp.below bb2));by_cases hpl:bJ (more g1 1)
   ·have CP:=aA (lI G3.o X3.o hpl);have CI:=aA (fun(w5:World) (hG5:GrW w0.heap.size bg w5 v (more g1 1)) (hB5:Below w0.heap.size w0 w5)=>IH.o d' kd' lb' B' m' e' hd ks' p1 (g1.places:Int) v _ w5 (by rw[HK1.o]) K'.o hG5 hB5 hpl);clear p0 p1' p2 hk1 hk2 hx hpl;go_upto_region 13 with fail
    clear q0 q1 q2 bb2;generalize wr.alloc (.cells #[.int .i64 kd',.int .i64 lb',.slice B' m' e'] 71)=w5 at *
    generalize wr.heap.size=b5 at *
    go_upto_region 14 with(go_at_call 101;(with_reducible refine CP.o.mono ?_);rintro e w6 ⟨rfl,hg6,hb6,hk6,_⟩;have G6:=aA hg6;have X6:=aA hb6;have BB6:=aA (hk6.box BB3.o (by decide) (by decide));have XB6:=aA (hk6.box XB.o (by decide) (by decide));have K6:=aA (K3.o.trans hk6);clear hg6 hb6 hk6)
    obtain⟨t0,t1,t2⟩:=XB6.o.three;by_cases hfit:bJ (kbB f (.mk kd' lb' ks') p1 (g1.places:Int) (more g1 1))
    ·have CJ:=aA (iJ (CI.o w6 G6.o X6.o) hfit);have FT2:=aA hfit;clear hfit CI;go_wp2_with (go_at_call 54;(with_reducible refine CJ.o.mono ?_);rintro e w7 ⟨rfl,⟨v7,hg7⟩,hb7,hk7⟩;have G7:=aA hg7;have X7:=aA hb7;have BB7:=aA (hk7.box BB6.o (by decide) (by decide));have K7:=aA (K6.o.trans hk7);clear hg7 hb7 hk7)
     go_roundw
     case rel=>exact⟨i+1,hd',v7,_,by omega,by go_num,rfl,HZ,G7,CK2,FT2,X7,K7,BB7⟩
     case measure=>simp[intOf];omega
    ·have CJ:=aA (iK (CI.o w6 G6.o X6.o) hfit);have NF:=aA (show ¬bJ (ks.zipIdx.foldl F (g,p)).1 from fun h=>hfit (TGI.o.fits h));clear hfit CI;go_wp2_with (go_at_call 54;(with_reducible refine CJ.o.mono ?_);rintro e w7 ⟨rfl,hb7⟩;have X7:=aA hb7;clear hb7)
     exact⟨rfl,.inr ⟨NF.o,rfl,X7.o⟩⟩
   ·have CP:=aA (lJ G3.o X3.o FT.o hpl);have NF:=aA (show ¬bJ (ks.zipIdx.foldl F (g,p)).1 from fun h=>hpl (GRK.o.1.fits (TGI.o.fits h)));clear p0 p1' p2 hk1 hk2 hx hpl;go_upto_region 13 with fail
    clear q0 q1 q2 bb2;generalize wr.alloc (.cells #[.int .i64 kd',.int .i64 lb',.slice B' m' e'] 71)=w5 at *
    generalize wr.heap.size=b5 at *
    go_wp2_with (go_at_call 101;(with_reducible refine CP.o.mono ?_);rintro e w6 ⟨rfl,hb6⟩;have X6:=aA hb6;clear hb6)
    exact⟨rfl,.inr ⟨NF.o,rfl,X6.o⟩⟩
  ·obtain rfl:i=m:=by omega
   obtain⟨bl,off,kd',lb',ks',B',m',e',d',rfl,hA',hbl,hx,p0,p1',p2,K'⟩:=K.o.get (show i<i+1 by omega);injection hA' with hA';injection hA' with e1 e2;subst e1 e2;have q0:=(BX.o.cell (p:=⟨bA,_,none⟩) hbl).trans p0;have q1:=(BX.o.cell (p:=⟨bA,_,none⟩) hbl).trans p1';have q2:=(BX.o.cell (p:=⟨bA,_,none⟩) hbl).trans p2;obtain⟨hd',hk1,hk2⟩:=j9 FO.o hx.o CK.o;have ZS:=aA (tU (F:=F) (s:=(g,p)) hx.o);have HZ:=aA (show(ks.zipIdx.foldl F (g,p))=(kbB f (.mk kd' lb' ks') p1 q g1,q) by
    rw[←GU (i:=i+1) (by rw[HL.o];exact Nat.le_refl _),ZS.o,HS.o,HFD.o,Pz,if_neg (by simp only;omega)])
   have CI:=aA (IH.o d' kd' lb' B' m' e' hd ks' p1 q v _ wr (by rw[hk1]) K'.o GW.o BX.o FT.o);obtain⟨b0,b1,b2⟩:=BB.o.three;have hbnd:(i:Int)<((i+1:Nat):Int):=by omega
   clear p0 p1' p2 hk1 hk2 hx;by_cases hfit:bJ (kbB f (.mk kd' lb' ks') p1 q g1)
   ·have CJ:=aA (iJ CI.o hfit);have FT2:=aA hfit;clear hfit CI;go_wp2_with (go_at_call 54;(with_reducible refine CJ.o.mono ?_);rintro e w7 ⟨rfl,hg7,hb7,hk7⟩;have G7:=aA hg7;have X7:=aA hb7;have K7:=aA (KW.o.trans hk7);clear hg7 hb7 hk7)
    exact bodyPost_end (v:=.tuple #[]) (by simp[results,Tryz.results54,go_sem]) rfl (.inl ⟨by rw[HZ.o];exact FT2.o,rfl,by rw[HZ.o];exact G7.o,X7.o,K7.o⟩)
   ·have CJ:=aA (iK CI.o hfit);have NF:=aA hfit;clear hfit CI;go_wp2_with (go_at_call 54;(with_reducible refine CJ.o.mono ?_);rintro e w7 ⟨rfl,hb7⟩;have X7:=aA hb7;clear hb7)
    exact⟨rfl,.inr ⟨by rw[HZ.o];exact NF.o,rfl,X7.o⟩⟩
theorem tV {g:KSt}{l:Int}{a b:LIn}(h:bJ (lnk g l a b)):bJ g:=⟨h.1,by have:=h.2;simp only[lnk,List.length_append,List.length_cons,List.length_nil]at this;omega⟩
theorem vP {g:KSt}{k j:Nat}(h:bJ (more g k))(hj:j≤k):bJ (more g j):=⟨by have:=h.1;simp only[more]at this ⊢;omega,h.2⟩
theorem PW {w0:World}{bg f d had:Nat}(IH0:DY w0 bg f){lb:Int}{A:OAd}{n c:Nat}{ks:List aW}{p q:Int}{v:Value}{g:KSt}{w:World}(hc:(bX (f+1) (.mk 6 lb ks) had).2=0)(hK:vD d w0 A n c ks)(hG:GrW w0.heap.size bg w v g)(hB:Below w0.heap.size w0 w)(hf:bJ g) :
  Calls Tryz.prog 54 #[.pointer (some ⟨bg,0,none⟩),.agg #[.int .i64 6,.int .i64 lb,.slice A n c],.int .i64 p,.int .i64 q] w (jP w0 bg w (kbB (f+1) (.mk 6 lb ks) p q g)):=by
 have hent:∀(args:Array Value) (w:World),Sem.run Tryz.prog (callFunc 99 args) w=.ok (.enter 99 args) w:=fun args w=>by kernel_rfl
 obtain⟨_,hhd,h',_,hfold⟩:=j7 hc;replace hfold:ks.foldl (bM (bX f)) (had+1,0)=(h',0):=hfold
 have hn2:=(tR hhd).2.2.1 rfl;simp only[aW.kids]at hn2;have hnn:n=2:=by have:=hK.len;omega
 subst hnn;obtain⟨b0,ofA,k0,l0,s0,B0,m0,e0,d0,hd0,hA,hbA,hx0,p00,p01,p02,K0⟩:=hK.get (show 0<2 by omega);obtain⟨b0',ofA',k1,l1,s1,B1,m1,e1,d1,hd1,hA',_,hx1,p10,p11,p12,K1⟩:=hK.get (show 1<2 by omega);subst hA;injection hA' with hA';injection hA' with z1 z2;subst z1 z2;have hks:ks=[.mk k0 l0 s0,.mk k1 l1 s1]:=by
  apply List.ext_getElem?
  intro j;match j with
  | 0=>rw[hx0.o];rfl
  | 1=>rw[hx1.o];rfl
  | j+2=>rw[List.getElem?_eq_none (by omega)];rfl
 obtain⟨hda,ha1,ha2⟩:=j9 hfold hx0.o (by rfl:(ks.take 0).foldl (bM (bX f)) (had+1,0)=(had+1,0));obtain⟨hdb,hb1,_⟩:=j9 hfold hx1.o ha2;have IH:=aA IH0;obtain⟨pl,hpl⟩:∃pl,g.places=pl:=⟨_,rfl⟩;obtain⟨g1,hg1⟩:∃g1,lnk (more g 2) 0 [p] [(pl:Int)]=g1:=⟨_,rfl⟩;obtain⟨g2,hg2⟩:∃g2,kbB f (.mk k0 l0 s0) (pl:Int) ((pl:Int)+1) g1=g2:=⟨_,rfl⟩;obtain⟨g3,hg3⟩:∃g3,kbB f (.mk k1 l1 s1) ((pl:Int)+1) (pl:Int) g2=g3:=⟨_,rfl⟩;obtain⟨g4,hg4⟩:∃g4,lnk g3 0 [((pl:Int)+1)] [q]=g4:=⟨_,rfl⟩;have HR:=aA (show kbB (f+1) (.mk 6 lb ks) p q g=g4 by rw[hks,Xl,hpl,show((pl+1:Nat):Int)=(pl:Int)+1 from by omega,hg1,hg2,hg3,hg4]);rw[HR.o];have F3:=aA (show bJ g4→bJ g3 from fun h=>tV (by rw[hg4];exact h));have F2:=aA (show bJ g3→bJ g2 from fun h=>(lG f (.mk k1 l1 s1) hda _ _ g2 (by rw[hb1])).1.fits (by rw[hg3];exact h));have F1:=aA (show bJ g2→bJ g1 from fun h=>(lG f (.mk k0 l0 s0) (had+1) _ _ g1 (by rw[ha1])).1.fits (by rw[hg2];exact h));have F0:=aA (show bJ g1→bJ (more g 2)from fun h=>tV (by rw[hg1];exact h));have bb:=aB w (.cells #[.int .i64 6,.int .i64 lb,.slice (some ⟨b0,ofA,none⟩) 2 c] 71);have BB:=aA (Box.new w #[.int .i64 6,.int .i64 lb,.slice (some ⟨b0,ofA,none⟩) 2 c] 71);have GW:=aA (hG.keep bb);have BX:=aA (hB.trans (bb.mono hB.size));have KW:=aA (Kp.below bb);have HFT:=aA hf;have HPL:=aA hpl;have CELL0:=aA (show ∀wr,Below w0.heap.size w0 wr→wr.cell? ⟨b0,ofA,none⟩=some (.int .i64 k0)∧wr.cell? ⟨b0,ofA+1,none⟩=some (.int .i64 l0)∧wr.cell? ⟨b0,ofA+2,none⟩=some (.slice B0 m0 e0)from fun wr hb=>⟨(hb.cell (p:=⟨b0,ofA,none⟩) hbA).trans (by simpa using p00),(hb.cell (p:=⟨b0,ofA+1,none⟩) hbA).trans (by simpa using p01),(hb.cell (p:=⟨b0,ofA+2,none⟩) hbA).trans (by simpa using p02)⟩);have CELL1:=aA (show ∀wr,Below w0.heap.size w0 wr→wr.cell? ⟨b0,ofA+3,none⟩=some (.int .i64 k1)∧wr.cell? ⟨b0,ofA+3+1,none⟩=some (.int .i64 l1)∧wr.cell? ⟨b0,ofA+3+2,none⟩=some (.slice B1 m1 e1)from fun wr hb=>⟨(hb.cell (p:=⟨b0,ofA+3,none⟩) hbA).trans (by simpa using p10),(hb.cell (p:=⟨b0,ofA+3+1,none⟩) hbA).trans (by simpa using p11),(hb.cell (p:=⟨b0,ofA+3+2,none⟩) hbA).trans (by simpa using p12)⟩);have C0:=aA (fun(w5:World) (v5:Value) (hG5:GrW w0.heap.size bg w5 v5 g1) (hB5:Below w0.heap.size w0 w5) (hf5:bJ g1)=>show Calls Tryz.prog _ _ _ (jP w0 bg w5 g2)from by rw[←hg2];exact IH.o d0 k0 l0 B0 m0 e0 (had+1) s0 (pl:Int) ((pl:Int)+1) v5 g1 w5 (by rw[ha1]) K0.o hG5 hB5 hf5);have C1:=aA (fun(w5:World) (v5:Value) (hG5:GrW w0.heap.size bg w5 v5 g2) (hB5:Below w0.heap.size w0 w5) (hf5:bJ g2)=>show Calls Tryz.prog _ _ _ (jP w0 bg w5 g3)from by rw[←hg3];exact IH.o d1 k1 l1 B1 m1 e1 hda s1 ((pl:Int)+1) (pl:Int) v5 g2 w5 (by rw[hb1]) K1.o hG5 hB5 hf5);have LK1:=aA hg1;have LK4:=aA hg4;clear hG hB bb hK hc IH0 hfold hf hhd hn2 hx0 hx1 p00 p01 p02 p10 p11 p12 hks ha1 ha2 hb1 hpl hg1 hg2 hg3 hg4 K0 K1 hd0 hd1 hbA IH;go_enter Tryz.func54,Tryz.ntmps54
 go_upto_region 1 with fail
 generalize w.alloc (.cells #[.int .i64 6,.int .i64 lb,.slice (some ⟨b0,ofA,none⟩) 2 c] 71)=u at *
 obtain⟨c0,c1,c2⟩:=BB.o.three;by_cases h1:bJ (more g 1)
 ·have P1:=aA (lI GW.o BX.o h1);rw[HPL.o]at P1;by_cases h2:bJ (more g 2)
  ·have P2:=aA (fun(w5:World) (hG5:GrW w0.heap.size bg w5 v (more g 1)) (hB5:Below w0.heap.size w0 w5)=>show Calls Tryz.prog _ _ w5 (fun e w'=>e=.returned (.int .i64 ((pl:Int)+1))∧GrW w0.heap.size bg w' v (more g 2)∧Below w0.heap.size w0 w'∧Kp w5 w'∧w5.grownBy w' (some bg))from by
    have:=lI hG5 hB5 h2;rw[show(more g 1).places=pl+1 by simp only[more,HPL.o],show((pl+1:Nat):Int)=(pl:Int)+1 from by omega]at this;exact this)
   go_upto_region 39 with(first
    |(go_at_call 101;(with_reducible refine P1.o.mono ?_);rintro e w6 ⟨rfl,hg6,hb6,hk6,_⟩;have G6:=aA hg6;have X6:=aA hb6;have K6:=aA (KW.o.trans hk6);have BB6:=aA (hk6.box BB.o (by decide) (by decide));clear hg6 hb6 hk6)
    |(go_at_call 101;(with_reducible refine(P2.o _ G6.o X6.o).mono ?_);rintro e w7 ⟨rfl,hg7,hb7,hk7,_⟩;have G7:=aA hg7;have X7:=aA hb7;have K7:=aA (K6.o.trans hk7);have BB7:=aA (hk7.box BB6.o (by decide) (by decide));clear hg7 hb7 hk7))
   clear c0 c1 c2 GW BX KW BB;have bb1:=aB w7 (.cells #[.int .i64 p] 3);have bb2:=aB (w7.alloc (.cells #[.int .i64 p] 3)) (.cells #[.int .i64 pl] 3);have I1:=PV w0.heap.size w7 p;have I2:=PV w0.heap.size (w7.alloc (.cells #[.int .i64 p] 3)) (pl:Int);have CL:=aA (m9 0 ((G7.o.keep bb1).keep bb2) ((X7.o.trans (bb1.mono X7.o.size)).trans (bb2.mono (X7.o.trans (bb1.mono X7.o.size)).size)) (I1.1.keep bb2) I2.1 (I1.2.same I1.1 bb2.size (fun b hb _=>bb2.block b hb)).1 I2.2 h2);rw[LK1.o,show(w7.alloc (.cells #[.int .i64 p] 3)).heap.size=w7.heap.size+1 by simp]at CL;have K9:=aA ((K7.o.trans (Kp.below bb1)).trans (Kp.below bb2));have BB9:=aA ((BB7.o.keep bb1).keep bb2);clear bb1 bb2 I1 I2;by_cases h3:bJ g1
   ·have CK:=aA (iJ CL.o h3);clear CL;go_upto_region 40 with(first
     |(go_at_call 99;(with_reducible refine(dD _ _).mono ?_);rintro e w1 ⟨rfl,rfl⟩)
     |(go_at_call 100;(with_reducible refine CK.o.mono ?_);rintro e wa ⟨rfl,⟨va,hga⟩,hba,hka⟩;have GA:=aA hga;have XA:=aA hba;have KA:=aA (K9.o.trans hka);have BBA:=aA (hka.box BB9.o (by decide) (by decide));clear hga hba hka))
    clear G7 X7 K7 BB7 BB9 K9 CK;obtain⟨c0,c1,c2⟩:=BBA.o.three;obtain⟨q0,q1,q2⟩:=CELL0.o wa XA.o;by_cases h4:bJ g2
    ·have CJ:=aA (iJ (C0.o wa va GA.o XA.o h3) h4);go_upto_region 41 with(go_at_call 54;(with_reducible refine CJ.o.mono ?_);rintro e wb ⟨rfl,⟨vb,hgb⟩,hbb,hkb⟩;have GB:=aA hgb;have XB:=aA hbb;have KB:=aA (KA.o.trans hkb);have BBB:=aA (hkb.box BBA.o (by decide) (by decide));clear hgb hbb hkb)
     clear c0 c1 c2 q0 q1 q2 GA XA KA BBA CJ;obtain⟨c0,c1,c2⟩:=BBB.o.three;obtain⟨q0,q1,q2⟩:=CELL1.o wb XB.o;by_cases h5:bJ g3
     ·have CJ:=aA (iJ (C1.o wb vb GB.o XB.o h4) h5);go_upto_region 42 with(go_at_call 54;(with_reducible refine CJ.o.mono ?_);rintro e wc ⟨rfl,⟨vc,hgc⟩,hbc,hkc⟩;have GC:=aA hgc;have XC:=aA hbc;have KC:=aA (KB.o.trans hkc);clear hgc hbc hkc)
      clear c0 c1 c2 q0 q1 q2 GB XB KB BBB CJ;have bb1:=aB wc (.cells #[.int .i64 ((pl:Int)+1)] 3);have bb2:=aB (wc.alloc (.cells #[.int .i64 ((pl:Int)+1)] 3)) (.cells #[.int .i64 q] 3);have I1:=PV w0.heap.size wc ((pl:Int)+1);have I2:=PV w0.heap.size (wc.alloc (.cells #[.int .i64 ((pl:Int)+1)] 3)) q;have CL:=aA (m9 0 ((GC.o.keep bb1).keep bb2) ((XC.o.trans (bb1.mono XC.o.size)).trans (bb2.mono (XC.o.trans (bb1.mono XC.o.size)).size)) (I1.1.keep bb2) I2.1 (I1.2.same I1.1 bb2.size (fun b hb _=>bb2.block b hb)).1 I2.2 h5);rw[LK4.o,show(wc.alloc (.cells #[.int .i64 ((pl:Int)+1)] 3)).heap.size=wc.heap.size+1 by simp]at CL;have KD:=aA ((KC.o.trans (Kp.below bb1)).trans (Kp.below bb2));clear bb1 bb2 I1 I2;by_cases h6:bJ g4
      ·have CK:=aA (iJ CL.o h6);have FT6:=aA h6;clear CL;go_wp2_with (first
        |(go_at_call 99;(with_reducible refine(dD _ _).mono ?_);rintro e w1 ⟨rfl,rfl⟩)
        |(go_at_call 100;(with_reducible refine CK.o.mono ?_);rintro e we ⟨rfl,hge,hbe,hke⟩;have GE:=aA hge;have XE:=aA hbe;have KE:=aA (KD.o.trans hke);clear hge hbe hke))
       exact bodyPost_end (v:=.tuple #[]) (by simp[results,Tryz.results54,go_sem]) rfl (.inl ⟨FT6.o,rfl,GE.o,XE.o,KE.o⟩)
      ·have CK:=aA (iK CL.o h6);have NF:=aA h6;clear CL;go_wp2_with (first
        |(go_at_call 99;(with_reducible refine(dD _ _).mono ?_);rintro e w1 ⟨rfl,rfl⟩)
        |(go_at_call 100;(with_reducible refine CK.o.mono ?_);rintro e we ⟨rfl,hbe⟩;have XE:=aA hbe;clear hbe))
       exact⟨rfl,.inr ⟨NF.o,rfl,XE.o⟩⟩
     ·have CJ:=aA (iK (C1.o wb vb GB.o XB.o h4) h5);have NF:=aA (fun h=>h5 (F3.o h));go_wp2_with (go_at_call 54;(with_reducible refine CJ.o.mono ?_);rintro e wc ⟨rfl,hbc⟩;have XC:=aA hbc;clear hbc)
      exact⟨rfl,.inr ⟨NF.o,rfl,XC.o⟩⟩
    ·have CJ:=aA (iK (C0.o wa va GA.o XA.o h3) h4);have NF:=aA (fun h=>h4 (F2.o (F3.o h)));go_wp2_with (go_at_call 54;(with_reducible refine CJ.o.mono ?_);rintro e wc ⟨rfl,hbc⟩;have XC:=aA hbc;clear hbc)
     exact⟨rfl,.inr ⟨NF.o,rfl,XC.o⟩⟩
   ·have CK:=aA (iK CL.o h3);have NF:=aA (fun h=>h3 (F1.o (F2.o (F3.o h))));clear CL;go_wp2_with (first
     |(go_at_call 99;(with_reducible refine(dD _ _).mono ?_);rintro e w1 ⟨rfl,rfl⟩)
     |(go_at_call 100;(with_reducible refine CK.o.mono ?_);rintro e we ⟨rfl,hbe⟩;have XE:=aA hbe;clear hbe))
    exact⟨rfl,.inr ⟨NF.o,rfl,XE.o⟩⟩
  ·have P2:=aA (fun(w5:World) (hG5:GrW w0.heap.size bg w5 v (more g 1)) (hB5:Below w0.heap.size w0 w5)=>lJ hG5 hB5 h1 h2);have NF:=aA (fun h=>h2 (F0.o (F1.o (F2.o (F3.o h)))));go_wp2_with (first
    |(go_at_call 101;(with_reducible refine P1.o.mono ?_);rintro e w6 ⟨rfl,hg6,hb6,hk6,_⟩;have G6:=aA hg6;have X6:=aA hb6;clear hg6 hb6 hk6)
    |(go_at_call 101;(with_reducible refine(P2.o _ G6.o X6.o).mono ?_);rintro e w7 ⟨rfl,hb7⟩;have X7:=aA hb7;clear hb7))
   exact⟨rfl,.inr ⟨NF.o,rfl,X7.o⟩⟩
 ·have P1:=aA (lJ GW.o BX.o HFT.o h1);have NF:=aA (fun h=>h1 (vP (F0.o (F1.o (F2.o (F3.o h)))) (by omega)));go_wp2_with (go_at_call 101;(with_reducible refine P1.o.mono ?_);rintro e w7 ⟨rfl,hb7⟩;have X7:=aA hb7;clear hb7)
  exact⟨rfl,.inr ⟨NF.o,rfl,X7.o⟩⟩
end Go.Proofs.YtfmnagcglhlicaaGreat
