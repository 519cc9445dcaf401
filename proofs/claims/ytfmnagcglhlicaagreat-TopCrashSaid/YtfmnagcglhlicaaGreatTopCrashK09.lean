/- Texts melted into one: Contracts of net.fits, BFits, net.Enabled and BEnabled. Conditions: the net and the mark read as lists. | Contracts of net.Enabled and BEnabled. Conditions: the net an -/
import Derived.Test.YtfmnagcglhlicaaGreatTopCrashK08
import Derived.Test.YtfmnagcglhlicaaGreatTopCrashK05
set_option maxRecDepth 100000
set_option maxHeartbeats 1000000
namespace Go.Proofs.YtfmnagcglhlicaaGreat
open Go.RowKit
theorem aB (w:World)(o:Obj):Below w.heap.size w (w.alloc o):=(Below.refl _ _).alloc (Nat.le_refl _) _
theorem JA {P:Int}{ts:List aI}{xs:LIn}(h:¬cX ⟨P,ts⟩=true):dS ⟨P,ts⟩ xs=false:=by
 cases hc:dS ⟨P,ts⟩ xs
 ·rfl
 ·exact absurd ((bD _ _).1 hc).1 h
theorem dG {w:World}{P:Int}{A B:OAd}{n c m d:Nat}{ts:List aI}{xs:LIn}(h:bK w A n c ts)(g:aJ w B m d xs) :
  Calls Tryz.prog 80 #[.agg #[.int .i64 P,.slice A n c],.slice B m d] w fun e w'=>e=.returned (.int .i64 (AO ⟨P,ts⟩ xs))∧Below w.heap.size w w':=by
 have HB:=aA (aB w);have gm:=g.small;have GL:=aA g.len;have G:=aA g;have H:=aA h;clear g h;by_cases hok:cX ⟨P,ts⟩=true
 ·have W0:=aA (jA hok);have HO:=aA hok;clear hok;go_enter Tryz.func80,Tryz.ntmps80
  go_wp2_with fail
  refine(cN _ P A n c ts (H.o.keep (HB.o _))).mono ?_;rw[W0.o];rintro e w1 ⟨rfl,hb⟩;have B1:=aA ((HB.o (.cells #[.int .i64 P,.slice A n c] 24)).trans (hb.mono (by simp)));have hc0:w1.cell? ⟨w.heap.size,0,none⟩=some (.int .i64 P):=(hb.cell (by simp)).trans (by simp);clear hb;by_cases hl:(m:Int)=P
  ·cases hr:aO xs
   ·have HR:=aA hr;have FIN:=aA (show AO ⟨P,ts⟩ xs=2 from jB (by
     cases hc:dS ⟨P,ts⟩ xs
     ·rfl
     ·have:=((bD _ _).1 hc).2.2;rw[hr]at this;cases this))
    clear hr;go_wp2_with fail
    refine(dX (G.o.keep B1.o)).mono ?_;rintro e w' ⟨rfl,rfl⟩;rw[HR.o];go_wp2
    go_ret
    exact⟨aT FIN.o.symm,B1.o⟩
   ·have HR:=aA hr;have FIN:=aA (show AO ⟨P,ts⟩ xs=0 from pS ((bD _ _).2 ⟨HO.o,by rw[GL.o];exact hl,hr⟩));clear hr;go_wp2_with fail
    refine(dX (G.o.keep B1.o)).mono ?_;rintro e w' ⟨rfl,rfl⟩;rw[HR.o];go_wp2
    go_ret
    exact⟨aT FIN.o.symm,B1.o⟩
  ·have FIN:=aA (show AO ⟨P,ts⟩ xs=2 from jB (by
    cases hc:dS ⟨P,ts⟩ xs
    ·rfl
    ·have:=((bD _ _).1 hc).2.1;rw[GL.o]at this;exact absurd this hl))
   go_wp2
   go_ret
   exact⟨aT FIN.o.symm,B1.o⟩
 ·have W0:=aA (fN (by simpa using hok));have FIN:=aA (jB (JA (xs:=xs) hok));clear hok;go_enter Tryz.func80,Tryz.ntmps80
  go_wp2_with fail
  refine(cN _ P A n c ts (H.o.keep (HB.o _))).mono ?_;rw[W0.o];rintro e w1 ⟨rfl,hb⟩;have B1:=aA ((HB.o (.cells #[.int .i64 P,.slice A n c] 24)).trans (hb.mono (by simp)));clear hb;go_wp2
  go_ret
  exact⟨aT FIN.o.symm,B1.o⟩
theorem qE {w:World}{P:Int}{A B:OAd}{n c m d:Nat}{ts:List aI}{xs:LIn}(h:bK w A n c ts)(g:aJ w B m d xs) :
  Calls Tryz.prog 110 #[.agg #[.int .i64 P,.slice A n c],.slice B m d] w (Jz (dR ⟨P,ts⟩ xs) w):=by
 have HB:=aA (aB w);have G:=aA g;have H:=aA h;have HL:=aA h.len;clear g h;cases hok:dS ⟨P,ts⟩ xs
 ·have W0:=aA (jB hok);have FIN:=aA (show dR ⟨P,ts⟩ xs=([],2)from by rw[dR,hok];rfl);clear hok;go_enter Tryz.func110,Tryz.ntmps110
  go_wp2_with fail
  refine(dG (P:=P) (H.o.keep (HB.o _)) (G.o.keep (HB.o _))).mono ?_;rw[W0.o];rintro e w1 ⟨rfl,hb⟩;have B1:=aA ((HB.o (.cells #[.int .i64 P,.slice A n c] 24)).trans (hb.mono (by simp)));clear hb;go_wp2
  go_ret2
  exact⟨none,0,0,by rw[FIN.o];rfl,by rw[FIN.o];exact Sl.nil0,B1.o⟩
 ·have W0:=aA (pS hok);have FIN:=aA (show dR ⟨P,ts⟩ xs=(fE ts xs,0)from by rw[dR,hok];rfl);have hn24:n≤24:=by have:=((aQ _).1 ((bD _ _).1 hok).1).2.2.1;simp only[]at this;rw[H.o.len]at this;exact this
  clear hok;go_enter Tryz.func110,Tryz.ntmps110
  go_wp2_with fail
  refine(dG (P:=P) (H.o.keep (HB.o _)) (G.o.keep (HB.o _))).mono ?_;rw[W0.o];rintro e w1 ⟨rfl,hb⟩;have B1:=aA ((HB.o (.cells #[.int .i64 P,.slice A n c] 24)).trans (hb.mono (by simp)));have hc1:w1.cell? ⟨w.heap.size,1,none⟩=some (.slice A n c):=(hb.cell (by simp)).trans (by simp);have H1:=aA (H.o.keep B1.o);have G1:=aA (G.o.keep B1.o);clear hb;go_wp2
  go_loopw [7,19] (fun v i wr=>∃k q:Nat,k≤n∧q≤k∧i=.int .i64 k∧aD wr w1.heap.size v q (fE (ts.take k) xs)∧Below w1.heap.size w1 wr) (fun _ i _=>n-(intOf i).toNat)
  case atStart=>exact⟨0,0,Nat.zero_le _,Nat.zero_le _,rfl,aC.nil,Below.refl _ _⟩
  case round =>
   obtain⟨k,q,hk,hq,rfl,own,hb⟩:=hrel;by_cases hlt:k<n
   ·obtain⟨bl,off,t,A1,n1,c1,A2,n2,c2,rfl,hbl,ht,q0,q1,q2,i1,i2,m1,m2⟩:=bK.get (H1.o.keep hb) hlt;have G2:=aA ((G1.o.keep hb).keep (aB wr (.cells #[.int .i64 t.label,.slice A1 n1 c1,.slice A2 n2 c2] 49)));have I1:=aA (i1.keep (aB wr (.cells #[.int .i64 t.label,.slice A1 n1 c1,.slice A2 n2 c2] 49)));have OW:=aA (own.keep iG.kept (aB wr (.cells #[.int .i64 t.label,.slice A1 n1 c1,.slice A2 n2 c2] 49)));have HB1:=aA (hb.alloc hb.size (.cells #[.int .i64 t.label,.slice A1 n1 c1,.slice A2 n2 c2] 49));have hst:=aA (show fE (ts.take (k+1)) xs=fE (ts.take k) xs++(if cA xs t.pre=true then [(k:Int)]else [])from by
     rw[bL ht.o,q8,List.length_take,Nat.min_eq_left (by rw[HL.o];omega)])
    clear i1 i2 own hb;cases hc:cA xs t.pre
    ·have HC:=aA hc;clear hc;go_wp2_with ((with_reducible refine(eN G2.o I1.o).mono ?_);rintro e w' ⟨rfl,rfl⟩;rw[HC.o])
     go_roundw
     case rel=>exact⟨k+1,q,by omega,by omega,by go_num,by rw[hst.o,HC.o];simpa using OW.o,HB1.o⟩
     case measure=>simp[intOf];omega
    ·have HC:=aA hc;clear hc;go_wp2_with (first
      |((with_reducible refine(eN G2.o I1.o).mono ?_);rintro e w' ⟨rfl,rfl⟩;rw[HC.o])
      |(at_builtin;refine dE rfl _ _ rfl rfl rfl (by simp) OW.o HB1.o HB1.o.size (by omega) ?_;intro v2 w2 own2 hg2 hb2))
     go_roundw
     case rel=>exact⟨k+1,q+1,by omega,by omega,by go_num,by rw[hst.o,HC.o];exact own2,hb2⟩
     case measure=>simp[intOf];omega
   ·have OW:=aA own;have HB2:=aA (B1.o.trans (hb.mono B1.o.size));have hst:=aA (show fE (ts.take k) xs=fE ts xs from by rw[List.take_of_length_le (by rw[HL.o];omega)]);clear own hb;go_wp2
    go_ret2
    obtain⟨C,cc,hv,hi⟩:=OW.o.sl (by omega);rw[hst.o]at hi;exact⟨C,q,cc,by rw[FIN.o,←hv];rfl,by rw[FIN.o];exact hi,HB2.o⟩
theorem Bz {n m:Nat}(h1:n≤16)(h2:m≤16):max n m*8≤140737488355328:=by omega
theorem jI {w:World}{P:Int}{A B:OAd}{n c m d:Nat}{ts:List aI}{xs:LIn}(h:bK w A n c ts)(g:aJ w B m d xs)(t:Int) :
  Calls Tryz.prog 74 #[.agg #[.int .i64 P,.slice A n c],.slice B m d,.int .i64 t] w (qD (bW ⟨P,ts⟩ xs t) w):=by
 have HB:=aA (aB w);have hns:=h.small;have G:=aA g;have H:=aA h;have HL:=aA h.len;clear g h;cases hok:dS ⟨P,ts⟩ xs
 ·have W0:=aA (jB hok);have FIN:=aA (show bW ⟨P,ts⟩ xs t=([],2)from by rw[bW,hok];rfl);clear hok;go_enter Tryz.func74,Tryz.ntmps74
  go_wp2_with fail
  refine(dG (P:=P) (H.o.keep (HB.o _)) (G.o.keep (HB.o _))).mono ?_;rw[W0.o];rintro e w1 ⟨rfl,hb⟩;have B1:=aA ((HB.o (.cells #[.int .i64 P,.slice A n c] 24)).trans (hb.mono (by simp)));clear hb;go_wp2
  go_ret2
  exact⟨none,0,0,by rw[FIN.o];rfl,by rw[FIN.o];exact Sl.nil0,B1.o,dK.none⟩
 ·have W0:=aA (pS hok);have FIN:=aA (show bW ⟨P,ts⟩ xs t=if 0≤t∧t<(ts.length:Int)then kO xs (ts.getD t.toNat default)else([],3)from by rw[bW,if_pos hok]);have FB:=aA ((bD _ _).1 hok);clear hok;go_enter Tryz.func74,Tryz.ntmps74
  go_wp2_with fail
  refine(dG (P:=P) (H.o.keep (HB.o _)) (G.o.keep (HB.o _))).mono ?_;rw[W0.o];rintro e w1 ⟨rfl,hb⟩;have B1:=aA ((HB.o (.cells #[.int .i64 P,.slice A n c] 24)).trans (hb.mono (by simp)));have hc1:w1.cell? ⟨w.heap.size,1,none⟩=some (.slice A n c):=(hb.cell (by simp)).trans (by simp);have hsz:w.heap.size<w1.heap.size:=by have:=hb.size;simp at this;omega
  have H1:=aA (H.o.keep B1.o);have G1:=aA (G.o.keep B1.o);clear hb;by_cases ht:0≤t∧t<(n:Int)
  ·obtain⟨k,rfl⟩:=Int.eq_ofNat_of_zero_le ht.1;have hlt:k<n:=by omega
   clear ht;obtain⟨bl,off,tr,A1,n1,c1,A2,n2,c2,rfl,hbl,ht,q0,q1,q2,i1,i2,m1,m2⟩:=bK.get H1.o hlt;have hok:=cB FB.o.1 (k:=k) (t:=tr) ht.o;have hr1:=dI hok.2.2.2.2.1;have hr2:=dI hok.2.2.2.2.2;have hP:=((aQ _).1 FB.o.1).2.1;have hn1:n1≤16:=by have:=hok.2.2.1;rw[i1.len]at this;simp only[]at this hP;omega
   have hn2:n2≤16:=by have:=hok.2.2.2.1;rw[i2.len]at this;simp only[]at this hP;omega
   have hm:m≤16:=by have:=FB.o.2.1;rw[G.o.len]at this;simp only[]at this hP;omega
   have FIN2:=aA (show bW ⟨P,ts⟩ xs (k:Int)=kO xs tr from by
    rw[FIN.o,if_pos (by rw[HL.o];omega)];have:ts.getD (k:Int).toNat default=tr:=by
     have:=ht.o;simp[this]
    rw[this])
   have I2:=aA i2;have hk0:(0:Int)≤(k:Int):=by omega
   have hkn:(k:Int)<(n:Int):=by omega
   have MC:=aA (pT FB.o.2.2 hr1);have PF:=aA (t7 (t:=tr) FB.o.2.2 hr1 hr2);have R1:=aA i1;clear hok hr1 hr2 i2 i1 hP;go_wp2_with fail
   refine(EW G1.o R1.o (Bz hm hn1)).mono ?_;rw[MC.o];rintro e w2 ⟨C,l,kk,rfl,hi,hb⟩;cases hc:cA xs tr.pre
   ·have FIN3:=aA (show bW ⟨P,ts⟩ xs (k:Int)=([],3)from by rw[FIN2.o,kO,hc];rfl);have B2:=aA (B1.o.trans (hb.mono B1.o.size));clear hc hi hb;simp only[Bool.false_eq_true,if_false];go_wp2
    go_ret2
    exact⟨none,0,0,by rw[FIN3.o];rfl,by rw[FIN3.o];exact Sl.nil0,B2.o,dK.none⟩
   ·rw[hc]at hi;simp only[if_true]at hi ⊢;have hl:l≤16:=by have:=hi.len;rw[gB,G.o.len,R1.o.len]at this;omega
    have PF2:=aA (PF.o hc);have hc1':=(hb.cell (p:=⟨w.heap.size,1,none⟩) hsz).trans hc1;have q2':=(hb.cell (p:=⟨bl,off+k*3+2,none⟩) hbl).trans q2;have I2':=aA (I2.o.keep hb);have HI:=aA hi;have HB2:=aA (B1.o.trans (hb.mono B1.o.size));clear hc hi hb;go_wp2_with fail
    refine(pA HI.o I2'.o (Bz hl hn2)).mono ?_;rw[PF2.o];rintro e w3 ⟨C3,l3,k3,rfl,hi3,hb3,hf3⟩;have B3:=aA (HB2.o.trans (hb3.mono HB2.o.size));have HI3:=aA hi3;have HF3:=aA (hf3.mono HB2.o.size);clear hi3 hb3 hf3;go_wp2
    go_ret2
    exact⟨C3,l3,k3,by rw[FIN2.o];rfl,by rw[FIN2.o];exact HI3.o,B3.o,HF3.o⟩
  ·have FIN2:=aA (show bW ⟨P,ts⟩ xs t=([],3)from by rw[FIN.o,if_neg (by rw[HL.o];exact ht)]);by_cases h0:t<0
   ·go_wp2
    go_ret2
    exact⟨none,0,0,by rw[FIN2.o];rfl,by rw[FIN2.o];exact Sl.nil0,B1.o,dK.none⟩
   ·have h1:(n:Int)≤t:=by omega
    clear ht;go_wp2
    go_ret2
    exact⟨none,0,0,by rw[FIN2.o];rfl,by rw[FIN2.o];exact Sl.nil0,B1.o,dK.none⟩
theorem JB {w:World}{P:Int}{A B:OAd}{n c m d:Nat}{ts:List aI}{xs:LIn}(h:bK w A n c ts)(g:aJ w B m d xs)(t:Int) :
  Calls Tryz.prog 74 #[.agg #[.int .i64 P,.slice A n c],.slice B m d,.int .i64 t] w (Jz (bW ⟨P,ts⟩ xs t) w):=(jI h g t).mono fun _ _=>qD.ie
theorem aC.fresh {α:Type}{R:World→(Nat→Value)→α→Prop}{sz:Nat}{w w':World}{e n n' c:Nat}{v:Value}{xs:List α}{A:OAd}(h:aC R sz w' w.heap.size e v n xs)(hv:v=.slice A n' c):dK w A:=by
 obtain⟨cells,h1,_⟩:=h;rcases h1.2 with⟨rfl,_⟩|⟨g,cap,cur,rfl,hg,_⟩
 ·cases hv;exact dK.none
 ·cases hv;exact dK.at hg
def Nr (n:Nat)(xs:LIn)(w:World)(e:Ending)(w':World):Prop :=
 ∃C k,e=.returned (.slice C n k)∧aJ w' C n k xs∧Below w.heap.size w w'∧dK w C
theorem Ns (w:World)(P i:Int)(hP:P≤16) :
  Calls Tryz.prog 22 #[.int .i64 P,.int .i64 i] w (Nr P.toNat (gX P.toNat i) w):=by
 obtain⟨n,hn⟩:∃n:Nat,P.toNat=n:=⟨_,rfl⟩;have hm:max P 0=(n:Int):=by omega
 have hn16:n≤16:=by omega
 rw[hn];clear hn;go_enter Tryz.func22,Tryz.ntmps22
 by_cases h:0≤i∧i<(n:Int)
 ·obtain⟨k,rfl⟩:∃k:Nat,i=(k:Int):=⟨i.toNat,by omega⟩;have hk:k<n:=by omega
  have hki:(k:Int)<(n:Int):=by omega
  have hk0:(0:Int)≤(k:Int):=by omega
  clear h;go_wp2_with (at_make;refine jC Tryz.underlying28 oW rfl rfl _ _ rfl n rfl rfl (by first|rfl|exact hm) (by first|rfl|exact hm) (by omega) (by omega) (Below.refl _ _) (Nat.le_refl _) ?_;intro w1 own1 hg1 hb1;have hcell:w1.cell? ⟨w.heap.size,k,none⟩=some (.int .i64 0):=(by rw[own1.cellAt k (by omega)];simp[hk]);have hfz:w1.frozen? ⟨w.heap.size,k,none⟩=false:=own1.frozenAt k)
  have HST:=aA (own1.stored k (.int .i64 1)).1;go_ret
  have o2:=HST.o;rw[show(List.replicate n (Value.int .i64 0)).set k (.int .i64 1)=(gX n (k:Int)).map (Value.int .i64) by rw[←QS,List.map_set,List.map_replicate]]at o2;obtain⟨C,cc,hv,hi⟩:=aJ.of_own o2 (by omega);exact⟨C,cc,by rw[←hv];rfl,hi,hb1.setCell (Nat.le_refl _) _,by cases hv;exact dK.at (Nat.le_refl _)⟩
 ·have HF:=aA (QU n i h);by_cases h0:0≤i
  ·have h1:(n:Int)≤i:=by omega
   clear h;go_wp2_with (at_make;refine jC Tryz.underlying28 oW rfl rfl _ _ rfl n rfl rfl (by first|rfl|exact hm) (by first|rfl|exact hm) (by omega) (by omega) (Below.refl _ _) (Nat.le_refl _) ?_;intro w1 own1 hg1 hb1)
   go_ret
   have o2:=own1;rw[show List.replicate n (Value.int .i64 0)=(gX n i).map (Value.int .i64) by rw[←HF.o,List.map_replicate]]at o2;obtain⟨C,cc,hv,hi⟩:=aJ.of_own o2 (by omega);exact⟨C,cc,by rw[←hv];rfl,hi,hb1,by cases hv;exact dK.at (Nat.le_refl _)⟩
  ·clear h;go_wp2_with (at_make;refine jC Tryz.underlying28 oW rfl rfl _ _ rfl n rfl rfl (by first|rfl|exact hm) (by first|rfl|exact hm) (by omega) (by omega) (Below.refl _ _) (Nat.le_refl _) ?_;intro w1 own1 hg1 hb1)
   go_ret
   have o2:=own1;rw[show List.replicate n (Value.int .i64 0)=(gX n i).map (Value.int .i64) by rw[←HF.o,List.map_replicate]]at o2;obtain⟨C,cc,hv,hi⟩:=aJ.of_own o2 (by omega);exact⟨C,cc,by rw[←hv];rfl,hi,hb1,by cases hv;exact dK.at (Nat.le_refl _)⟩
theorem dY (w:World)(P i:Int)(A:OAd)(n c:Nat) :
  Calls Tryz.prog 9 #[.agg #[.int .i64 P,.slice A n c],.int .i64 i] w (Nr (min P 16).toNat (gX (min P 16).toNat i) w):=by
 have HB:=aA (aB w);obtain⟨m,hm⟩:∃m:Int,min P 16=m:=⟨_,rfl⟩;have h16:m≤16:=by omega
 rw[show(min P 16).toNat=m.toNat by rw[hm]];go_enter Tryz.func9,Tryz.ntmps9
 go_wp2_with fail
 refine(Ns _ m i h16).mono ?_;rintro e w1 ⟨C,k,rfl,hi,hb,hf⟩;clear hm;have HI:=aA hi;have HF:=aA (hf.mono (show w.heap.size≤_ by simp));have B1:=aA ((HB.o (.cells #[.int .i64 P,.slice A n c] 24)).trans (hb.mono (by simp)));clear hi hb hf;go_wp2
 go_ret
 exact⟨C,k,rfl,HI.o,B1.o,HF.o⟩
theorem eO {w:World}{P:Int}{A B D:OAd}{n c m d l k:Nat}{ts:List aI}{p:a8}(h:bK w A n c ts)(g:aJ w B m d p.mark)(b:aJ w D l k p.busy) :
  Calls Tryz.prog 72 #[.agg #[.int .i64 P,.slice A n c],.agg #[.slice B m d,.slice D l k]] w fun e w'=>e=.returned (.bool (cI ⟨P,ts⟩ p))∧Below w.heap.size w w':=by
 have B0:=aA (((Below.refl _ _).alloc (Nat.le_refl _) (.cells #[.int .i64 P,.slice A n c] 24)).alloc (by simp) (.cells #[.slice B m d,.slice D l k] 30):Below w.heap.size w _);have X0:Box ((w.alloc (.cells #[.int .i64 P,.slice A n c] 24)).alloc (.cells #[.slice B m d,.slice D l k] 30)) w.heap.size 24 #[.int .i64 P,.slice A n c]:=(Box.new _ _ _).old _;have X1:Box ((w.alloc (.cells #[.int .i64 P,.slice A n c] 24)).alloc (.cells #[.slice B m d,.slice D l k] 30)) (w.heap.size+1) 30 #[.slice B m d,.slice D l k]:=Box.newAt (by simp) _ _;have hm:=g.small;have hn:=h.small;have hl:=b.small;have GL:=aA g.len;have BL:=aA b.len;have HL:=aA h.len;have H:=aA h;have G:=aA g;have BB:=aA b;clear h g b;by_cases hok:cX ⟨P,ts⟩=true
 ·have W0:=aA (jA hok);have HO:=aA hok;clear hok;go_enter Tryz.func72,Tryz.ntmps72
  go_wp2_with fail
  refine(cN _ P A n c ts (H.o.keep B0.o)).mono ?_;rw[W0.o];rintro e w1 ⟨rfl,hb⟩;have B1:=aA (B0.o.trans (hb.mono B0.o.size));obtain⟨c0,c1⟩:=(X0.keep hb).two;obtain⟨c2,c3⟩:=(X1.keep hb).two;clear hb X0 X1;by_cases hmp:(m:Int)=P
  ·by_cases hln:l=n
   ·subst hmp;subst hln;have F0:=aA (show cI ⟨(m:Int),ts⟩ p=(aO p.mark&&aO p.busy) by
     rw[Bool.eq_iff_iff,bB,Bool.and_eq_true];exact⟨fun h=>⟨h.2.2.1,h.2.2.2.2⟩,fun h=>⟨HO.o,by rw[GL.o],h.1,by rw[BL.o,HL.o],h.2⟩⟩)
    go_wp2_with fail
    refine(dX (G.o.keep B1.o)).mono ?_;rintro e w' ⟨rfl,rfl⟩;cases hr:aO p.mark
    ·have FIN:=aA (show cI ⟨(m:Int),ts⟩ p=false by rw[F0.o,hr];rfl);clear hr;go_wp2
     go_ret
     exact⟨aY FIN.o.symm,B1.o⟩
    ·have FIN:=aA (show cI ⟨(m:Int),ts⟩ p=aO p.busy by rw[F0.o,hr];rfl);clear hr;go_wp2_with fail
     refine(dX (BB.o.keep B1.o)).mono ?_;rintro e w' ⟨rfl,rfl⟩;go_wp2
     go_ret
     exact⟨aY FIN.o.symm,B1.o⟩
   ·have FIN:=aA (show cI ⟨P,ts⟩ p=false by
     cases hc:cI ⟨P,ts⟩ p
     ·rfl
     ·have:=((bB _ _).1 hc).2.2.2.1;rw[BL.o]at this;simp only[]at this;rw[HL.o]at this;exact absurd this hln)
    have hne:((l:Int)==(n:Int))=false:=by simp;omega
    clear hln;go_wp2
    go_ret
    exact⟨aY FIN.o.symm,B1.o⟩
  ·have FIN:=aA (show cI ⟨P,ts⟩ p=false by
    cases hc:cI ⟨P,ts⟩ p
    ·rfl
    ·have:=((bB _ _).1 hc).2.1;rw[GL.o]at this;exact absurd this hmp)
   have hne:((m:Int)==P)=false:=by simpa using hmp
   clear hmp;go_wp2
   go_ret
   exact⟨aY FIN.o.symm,B1.o⟩
 ·have W0:=aA (fN (by simpa using hok));have FIN:=aA (show cI ⟨P,ts⟩ p=false by
   cases hc:cI ⟨P,ts⟩ p
   ·rfl
   ·exact absurd ((bB _ _).1 hc).1 hok)
  clear hok;go_enter Tryz.func72,Tryz.ntmps72
  go_wp2_with fail
  refine(cN _ P A n c ts (H.o.keep B0.o)).mono ?_;rw[W0.o];rintro e w1 ⟨rfl,hb⟩;have B1:=aA (B0.o.trans (hb.mono B0.o.size));clear hb;go_wp2
  go_ret
  exact⟨aY FIN.o.symm,B1.o⟩
def hZ (p:a8×Int)(w:World)(e:Ending)(w':World):Prop :=
 ∃A n c B m d,e=.returned (.tuple #[.agg #[.slice A n c,.slice B m d],.int .i64 p.2])∧aJ w' A n c p.1.mark∧aJ w' B m d p.1.busy∧Below w.heap.size w w'∧dK w A∧dK w B
theorem hZ.no {e:Int}{w w':World}(hb:Below w.heap.size w w'):hZ (a8.nil,e) w (.returned (.tuple #[.agg #[.slice none 0 0,.slice none 0 0],.int .i64 e])) w' :=
 ⟨none,0,0,none,0,0,rfl,Sl.nil0,Sl.nil0,hb,dK.none,dK.none⟩
theorem uM (w:World)(P i:Int)(A:OAd)(n c:Nat)(hP:P≤16) :
  Calls Tryz.prog 9 #[.agg #[.int .i64 P,.slice A n c],.int .i64 i] w (Nr P.toNat (gX P.toNat i) w):=by
 have:=dY w P i A n c;rwa[show min P 16=P by omega]at this
theorem BG {w:World}{B n:Nat}{a:Addr}(own:w.ownsRow B 3 1 (.slice (some a) n n) n (List.replicate n (.int .i64 0)))(hn:n≤281474976710656):aJ w (some a) n n (List.replicate n 0):=by
 rw[show List.replicate n (Value.int .i64 0)=(List.replicate n (0:Int)).map (Value.int .i64) by rw[List.map_replicate]]at own;obtain⟨C,cc,hv,hi⟩:=aJ.of_own own hn;injection hv with h1 h2 h3;subst h1 h3;exact hi
theorem BH {N:aS}{i:Int}(h:cX N=false):aZ N i=(a8.nil,2):=by rw[aZ,h];rfl
theorem EY {N:aS}{i:Int}(h:cX N=true)(hi:¬(0≤i∧i<N.places)):aZ N i=(a8.nil,3):=by rw[aZ,if_pos h,if_neg hi]
theorem JC {N:aS}{i:Int}(h:cX N=true)(hi:0≤i∧i<N.places):aZ N i=(⟨gX N.places.toNat i,List.replicate N.trans.length 0⟩,0):=by rw[aZ,if_pos h,if_pos hi]
theorem EZ {w:World}{P:Int}{A:OAd}{n c:Nat}{ts:List aI}(i:Int)(h:bK w A n c ts) :
  Calls Tryz.prog 20 #[.agg #[.int .i64 P,.slice A n c],.int .i64 i] w (hZ (aZ ⟨P,ts⟩ i) w):=by
 have B0:=aA (((Below.refl _ _).alloc (Nat.le_refl _) (.cells #[.int .i64 P,.slice A n c] 24)).alloc (by simp) (.cells #[.slice none 0 0,.slice none 0 0] 30):Below w.heap.size w _);have X0:Box ((w.alloc (.cells #[.int .i64 P,.slice A n c] 24)).alloc (.cells #[.slice none 0 0,.slice none 0 0] 30)) w.heap.size 24 #[.int .i64 P,.slice A n c]:=(Box.new _ _ _).old _;have X1:Box ((w.alloc (.cells #[.int .i64 P,.slice A n c] 24)).alloc (.cells #[.slice none 0 0,.slice none 0 0] 30)) (w.heap.size+1) 30 #[.slice none 0 0,.slice none 0 0]:=Box.newAt (by simp) _ _;have hn:=h.small;have HL:=aA h.len;have H:=aA h;clear h;cases hok:cX ⟨P,ts⟩
 ·have W0:=aA (fN hok);rw[BH hok];clear hok;go_enter Tryz.func20,Tryz.ntmps20
  go_wp2_with fail
  refine(cN _ P A n c ts (H.o.keep B0.o)).mono ?_;rw[W0.o];rintro e w1 ⟨rfl,hb⟩;have B1:=aA (B0.o.trans (hb.mono B0.o.size));have Y1:=aA (X1.keep hb);obtain⟨c2,c3⟩:=Y1.o.two;have cf:=Y1.o.frozen 0;have cg:=Y1.o.frozen 1;clear hb X0 X1;go_wp2
  obtain⟨r0,r1⟩:=(Y1.o.set2 (.slice none 0 0) (.slice none 0 0)).two;exact bodyPost_ret (v:=.tuple #[.agg #[.slice none 0 0,.slice none 0 0],.int .i64 2]) (by simp[results,Tryz.results20,go_sem,r0,r1]) rfl (hZ.no ((B1.o.setCell (by simp) _).setCell (by simp) _))
 ·have W0:=aA (jA hok);have HO:=aA hok;clear hok;go_enter Tryz.func20,Tryz.ntmps20
  go_wp2_with fail
  refine(cN _ P A n c ts (H.o.keep B0.o)).mono ?_;rw[W0.o];rintro e w1 ⟨rfl,hb⟩;have B1:=aA (B0.o.trans (hb.mono B0.o.size));have Y0:=aA (X0.keep hb);have Y1:=aA (X1.keep hb);obtain⟨c0,c1⟩:=Y0.o.two;obtain⟨c2,c3⟩:=Y1.o.two;have cf:=Y1.o.frozen 0;have cg:=Y1.o.frozen 1;clear hb X0 X1;by_cases hi:0≤i∧i<P
  ·obtain⟨hi0,hi1⟩:=hi;have hP16:P≤16:=((aQ _).1 HO.o).2.1;have hn24:n≤24:=by have:=((aQ _).1 HO.o).2.2.1;rw[HL.o]at this;exact this
   have FIN:=aA (JC HO.o ⟨hi0,hi1⟩);go_wp2_with fail
   refine aF 8 (.takes [0,1,3,4,5] (.two 2 (.one 6 (.take 7 (.fins [8,9] .done))) 6 (.one 2 (.take 7 (.fins [8,9] .done))))) (fun w'=>w'.cell? ⟨w.heap.size,0,none⟩=some (.int .i64 P)∧w'.cell? ⟨w.heap.size,1,none⟩=some (.slice A n c)) (by kernel_rfl) (by kernel_rfl) (by kernel_rfl) (fun _ _ _ _ _ h=>h) ⟨c0,c1⟩ (fun hH=>?_);simp only[Scr.takes,Scr.fins]
   iterate 5
    refine aH (v:=?_) rfl (by rfl) hH (fun w' hSw=>?_) ?_
    rotate_left
    ·(go_simp;try with_reducible rfl)
    simp only[Act.put,aL,aM,aN]
   refine AY rfl rfl (fun K hK=>?_) (fun K hK=>?_)
   ·go_simp;go_at_call 9
    (with_reducible refine(uM w1.drew P i A n c hP16).mono ?_)
    rintro e w2 ⟨C,k2,rfl,hi2,hb2,hf2⟩;have HF:=aA (hf2.mono (show w.heap.size≤_ from B1.o.size));have Z2:=aA (Y1.o.drew.keep hb2);have p0:=(Y0.o.drew.keep hb2).two.1;have p1:=(Y0.o.drew.keep hb2).two.2;have V2:=aA (Y0.o.drew.keep hb2);have B2:=aA (B1.o.trans (((Below.refl _ _).drew.trans hb2:Below w1.heap.size w1 w2).mono B1.o.size));have I2:=aA hi2;clear hb2 hi2 hf2;refine hK.out _ _ ⟨p0,p1⟩ (fun hH=>?_);clear hK;refine bI rfl (fun K hK=>?_);refine MU Tryz.underlying28 oW rfl rfl _ _ rfl n rfl rfl rfl rfl (by omega) (by omega) (Below.refl w2.heap.size w2) (Nat.le_refl _) ?_;intro w3 own3 hg3 hb3;have q0:=(V2.o.keep hb3).two.1;have q1:=(V2.o.keep hb3).two.2;have Z3:=aA (Z2.o.keep hb3);have HI:=aA (I2.o.keep hb3);have HJ:=aA (BG own3 (by omega));have B3:=aA (B2.o.trans (hb3.mono B2.o.size));obtain⟨z0,z1⟩:=Z3.o.two;have zf:=Z3.o.frozen 0;have zg:=Z3.o.frozen 1;clear own3 hg3 hb3;refine hK.out _ _ ⟨q0,q1⟩ (fun hH=>?_);clear hK;simp only[Act.put,aL,aM,aN];refine aH (v:=?_) rfl (by rfl) hH (fun w' hSw=>?_) ?_
    rotate_left
    ·(go_simp;try with_reducible rfl)
    simp only[Act.put,aL,aM,aN]
    iterate 2
     refine bF rfl (fun K hK=>?_);go_simp
     refine hK.out _ _ ?_;clear hK
    refine bP ?_;go_wp2
    obtain⟨r0,r1⟩:=(Z3.o.set2 (.slice C P.toNat k2) (.slice (some ⟨w2.heap.size,0,none⟩) n n)).two;exact bodyPost_ret (v:=.tuple #[.agg #[.slice C P.toNat k2,.slice (some ⟨w2.heap.size,0,none⟩) n n],.int .i64 0]) (by simp[results,Tryz.results20,go_sem,r0,r1]) rfl
     ⟨_,_,_,_,_,_,by rw[FIN.o],by rw[FIN.o];have:=(HI.o.beside Z3.o jF (aK.set2 _ _ 0 1 (.slice C P.toNat k2) (.slice (some ⟨w2.heap.size,0,none⟩) n n)));exact this,by rw[FIN.o];simp only[];rw[HL.o];exact HJ.o.beside Z3.o jF (aK.set2 _ _ _ _ _ _),(B3.o.setCell (by simp) _).setCell (by simp) _,HF.o,dK.at B2.o.size⟩
   ·refine MU Tryz.underlying28 oW rfl rfl _ _ rfl n rfl rfl rfl rfl (by omega) (by omega) (Below.refl w1.drew.heap.size w1.drew) (Nat.le_refl _) ?_;intro w2 own2 hg2 hb2;have Z2:=aA (Y1.o.drew.keep hb2);have V2:=aA (Y0.o.drew.keep hb2);have p0:=V2.o.two.1;have p1:=V2.o.two.2;have B2:=aA (B1.o.trans (((Below.refl _ _).drew.trans hb2:Below w1.heap.size w1 w2).mono B1.o.size));have J2:=aA (BG own2 (by omega));clear hb2 own2 hg2;refine hK.out _ _ ⟨p0,p1⟩ (fun hH=>?_);clear hK;simp only[Act.put,aL,aM,aN];refine bI rfl (fun K hK=>?_);go_simp;go_at_call 9
    (with_reducible refine(uM w2 P i A n c hP16).mono ?_)
    rintro e w3 ⟨C,k2,rfl,hi3,hb3,hf3⟩;have HF:=aA (hf3.mono B2.o.size);have q0:=(V2.o.keep hb3).two.1;have q1:=(V2.o.keep hb3).two.2;have Z3:=aA (Z2.o.keep hb3);have HI:=aA hi3;have HJ:=aA (J2.o.keep hb3);have B3:=aA (B2.o.trans (hb3.mono B2.o.size));obtain⟨z0,z1⟩:=Z3.o.two;have zf:=Z3.o.frozen 0;have zg:=Z3.o.frozen 1;clear hi3 hb3 hf3;refine hK.out _ _ ⟨q0,q1⟩ (fun hH=>?_);clear hK;refine aH (v:=?_) rfl (by rfl) hH (fun w' hSw=>?_) ?_
    rotate_left
    ·(go_simp;try with_reducible rfl)
    simp only[Act.put,aL,aM,aN]
    iterate 2
     refine bF rfl (fun K hK=>?_);go_simp
     refine hK.out _ _ ?_;clear hK
    refine bP ?_;go_wp2
    obtain⟨r0,r1⟩:=(Z3.o.set2 (.slice C P.toNat k2) (.slice (some ⟨w1.heap.size,0,none⟩) n n)).two;exact bodyPost_ret (v:=.tuple #[.agg #[.slice C P.toNat k2,.slice (some ⟨w1.heap.size,0,none⟩) n n],.int .i64 0]) (by simp[results,Tryz.results20,go_sem,r0,r1]) rfl
     ⟨_,_,_,_,_,_,by rw[FIN.o],by rw[FIN.o];have:=(HI.o.beside Z3.o jF (aK.set2 _ _ 0 1 (.slice C P.toNat k2) (.slice (some ⟨w1.heap.size,0,none⟩) n n)));exact this,by rw[FIN.o];simp only[];rw[HL.o];exact HJ.o.beside Z3.o jF (aK.set2 _ _ _ _ _ _),(B3.o.setCell (by simp) _).setCell (by simp) _,HF.o,dK.at B1.o.size⟩
  ·have FIN:=aA (EY HO.o hi);by_cases hi0:0≤i
   ·have hi1:P≤i:=by omega
    clear hi;go_wp2
    obtain⟨r0,r1⟩:=(Y1.o.set2 (.slice none 0 0) (.slice none 0 0)).two;exact bodyPost_ret (v:=.tuple #[.agg #[.slice none 0 0,.slice none 0 0],.int .i64 3]) (by simp[results,Tryz.results20,go_sem,r0,r1]) rfl (by rw[FIN.o];exact hZ.no ((B1.o.setCell (by simp) _).setCell (by simp) _))
   ·clear hi;go_wp2
    obtain⟨r0,r1⟩:=(Y1.o.set2 (.slice none 0 0) (.slice none 0 0)).two;exact bodyPost_ret (v:=.tuple #[.agg #[.slice none 0 0,.slice none 0 0],.int .i64 3]) (by simp[results,Tryz.results20,go_sem,r0,r1]) rfl (by rw[FIN.o];exact hZ.no ((B1.o.setCell (by simp) _).setCell (by simp) _))
theorem aD.row {w:World}{B:Nat}{v:Value}{n:Nat}{xs:LIn}(h:aD w B v n xs):w.ownsRow B 3 1 v n (xs.map (Value.int .i64)):=by
 obtain⟨cells,h1,h2,h3⟩:=h;have e:cells=xs.map (Value.int .i64):=by
  apply List.ext_getElem?
  intro j;cases hx:xs[j]? with
  | none =>
   rw[List.getElem?_map,hx,List.getElem?_eq_none (by have:=h2.1;have:=List.getElem?_eq_none_iff.1 hx;omega)];rfl
  | some x =>
   obtain⟨vs,a,b⟩:=h2.2 j x hx;have:=a 0 (by omega);simp only[Nat.mul_one,Nat.add_zero]at this;rw[this,List.getElem?_map,hx,b];rfl
 rw[←e];exact h1
theorem aD.form {w:World}{B:Nat}{v:Value}{n:Nat}{xs:LIn}(h:aD w B v n xs)(hn:0<n):∃g cap,v=.slice (some ⟨g,0,none⟩) n cap∧B≤g∧g<w.heap.size:=h.row.form hn
section
variable {w:World} {B g cap n:Nat} {xs:LIn}
theorem aD.at (h:aD w B (.slice (some ⟨g,0,none⟩) n cap) n xs){j:Nat}{x:Int}(hx:xs[j]?=some x):w.cell? ⟨g,j,none⟩=some (.int .i64 x):=by
 have hj:j<n:=by rw[←h.len];exact(List.getElem?_eq_some_iff.1 hx).1
 rw[h.row.cellAt j (by omega),List.getElem?_map,hx];rfl
theorem aD.frozen (h:aD w B (.slice (some ⟨g,0,none⟩) n cap) n xs)(j:Nat):w.frozen? ⟨g,j,none⟩=false:=h.row.frozenAt j
theorem aD.put (h:aD w B (.slice (some ⟨g,0,none⟩) n cap) n xs)(j:Nat)(y:Int):aD (w.setCell ⟨g,j,none⟩ (.int .i64 y)) B (.slice (some ⟨g,0,none⟩) n cap) n (xs.set j y):=by
 have:=(h.row.stored j (.int .i64 y)).1;rw[←List.map_set]at this;exact aD.of_row this
theorem aD.ints (h:aD w B (.slice (some ⟨g,0,none⟩) n cap) n xs)(hn:n≤281474976710656):aJ w (some ⟨g,0,none⟩) n cap xs:=by
 obtain⟨A,c,hv,hi⟩:=h.sl hn;injection hv with h1 h2 h3;subst h1 h3;exact hi
end
theorem bN (w:World)(e:Int):Calls Tryz.prog 71 #[.int .i64 e] w fun x w'=>x=.returned (.tuple #[.agg #[.slice none 0 0,.slice none 0 0],.int .i64 e])∧Below w.heap.size w w':=by
 have X1:Box (w.alloc (.cells #[.slice none 0 0,.slice none 0 0] 30)) w.heap.size 30 #[.slice none 0 0,.slice none 0 0]:=Box.new _ _ _;go_enter Tryz.func71,Tryz.ntmps71
 go_wp2
 obtain⟨r0,r1⟩:=X1.two;exact bodyPost_ret (v:=.tuple #[.agg #[.slice none 0 0,.slice none 0 0],.int .i64 e]) (by simp[results,Tryz.results71,go_sem,r0,r1]) rfl ⟨rfl,aB w _⟩
theorem rF {w:World}{B D:OAd}{m d l k:Nat}{ys:LIn}(i:Nat)(more:Int)(h:aJ w D l k ys)(hl:l≤17592186044416)(hi:i<l)(hr:aO ys=true)(m0:-1≤more)(m1:more≤1) :
  Calls Tryz.prog 76 #[.agg #[.slice B m d,.slice D l k],.int .i64 i,.int .i64 more] w (qD (pW ys i more) w):=by
 have HB:=aA (aB w (.cells #[.slice B m d,.slice D l k] 30));have H:=aA (h.keep HB.o);have hL:=h.len;obtain⟨z,hz⟩:∃z,ys[i]?=some z:=⟨ys[i]'(by omega),List.getElem?_eq_getElem _⟩;have hzr:=(bZ _).1 hr z (List.mem_iff_getElem?.2 ⟨i,hz⟩);have z0:=hzr.1;have z1:=hzr.2;have hat:atL ys i=z:=iQ hz;have HZ:=aA hz;have HL:=aA hL;have F1:=aA (show z+more<0→pW ys i more=([],3)from fun h=>by rw[pW,hat,if_pos h]);have F2:=aA (show 1000000<z+more→pW ys i more=([],4)from fun h=>by rw[pW,hat,if_neg (by omega),if_pos h]);have F3:=aA (show ¬z+more<0→¬1000000<z+more→pW ys i more=(ys.set i (z+more),0)from fun h g=>by rw[pW,hat,if_neg h,if_neg g]);have hii:(i:Int)<(l:Int):=by omega
 have hi0:(0:Int)≤(i:Int):=by omega
 clear h hat hz hzr hr hL;go_enter Tryz.func76,Tryz.ntmps76
 go_wp2_with fail
 refine(bE H.o hl).mono ?_;rintro e w1 ⟨v,rfl,own,hb⟩;obtain⟨g,cap,rfl,hg,hgl⟩:=aD.form own (by omega);have c0:=aD.at own HZ.o;have cf:=aD.frozen own i;have OW:=aA (aD.put own i (z+more));have B1:=aA (HB.o.trans (hb.mono HB.o.size));have hgw:w.heap.size≤g:=Nat.le_trans HB.o.size hg;have hlc:l≤cap:=(aD.ints own (by omega)).le;clear own hb;by_cases hneg:z+more<0
 ·have FIN:=aA (F1.o hneg);go_wp2
  go_ret2
  exact⟨none,0,0,by rw[FIN.o];rfl,by rw[FIN.o];exact Sl.nil0,B1.o.setCell hgw _,dK.none⟩
 ·by_cases hbig:1000000<z+more
  ·have FIN:=aA (F2.o hbig);go_wp2
   go_ret2
   exact⟨none,0,0,by rw[FIN.o];rfl,by rw[FIN.o];exact Sl.nil0,B1.o.setCell hgw _,dK.none⟩
  ·have FIN:=aA (F3.o (by omega) (by omega));go_wp2
   go_ret2
   exact⟨_,_,_,by rw[FIN.o];rfl,by rw[FIN.o];exact aD.ints OW.o (by omega),B1.o.setCell hgw _,dK.at hgw⟩
end Go.Proofs.YtfmnagcglhlicaaGreat
