/- Texts melted into one: Contracts of net.fits, BFits, net.Enabled and BEnabled. Conditions: the net and the mark read as lists. | Contracts of net.Enabled and BEnabled. Conditions: the net and the mark read as lists. | Contracts of shape.Start, HStart, SameInts and of the library's Equal on error num -/
import Derived.Test.YtfmnagcglhlicaaGreatTopSaidK05
set_option maxRecDepth 100000
namespace Go.Proofs.YtfmnagcglhlicaaGreat
open Go.RowKit
theorem Zab (w:World)(o:Obj):Below w.heap.size w (w.alloc o):=(Below.refl _ _).alloc (Nat.le_refl _) _
theorem Zm9 {P:Int}{ts:List Zak}{xs:List Int}(h:¬Za8 ⟨P,ts⟩=true):ZbI ⟨P,ts⟩ xs=false:=by
 cases hc:ZbI ⟨P,ts⟩ xs
 ·rfl
 ·exact absurd ((ZaG _ _).1 hc).1 h
theorem ZbS {w:World}{P:Int}{A B:Option Addr}{n c m d:Nat}{ts:List Zak}{xs:List Int}(h:ZaP w A n c ts)(g:Zam w B m d xs) :
  Calls Tryz.prog 80 #[.agg #[.int .i64 P,.slice A n c],.slice B m d] w fun e w'=>e=.returned (.int .i64 (ZjO ⟨P,ts⟩ xs))∧Below w.heap.size w w':=by
 have HB:=Zaa (Zab w)
 have gm:=g.small
 have GL:=Zaa g.len
 have G:=Zaa g
 have H:=Zaa h
 clear g h
 by_cases hok:Za8 ⟨P,ts⟩=true
 ·have W0:=Zaa (ZcT hok)
  have HO:=Zaa hok
  clear hok
  go_enter Tryz.func80,Tryz.ntmps80
  go_wp2_with fail
  refine(Za5 _ P A n c ts (H.out.keep (HB.out _))).mono ?_
  rw[W0.out]
  rintro e w1 ⟨rfl,hb⟩
  have B1:=Zaa ((HB.out (.cells #[.int .i64 P,.slice A n c] 24)).trans (hb.mono (by simp)))
  have hc0:w1.cell? ⟨w.heap.size,0,none⟩=some (.int .i64 P):=(hb.cell (by simp)).trans (by simp)
  clear hb
  by_cases hl:(m:Int)=P
  ·cases hr:Zal xs
   ·have HR:=Zaa hr
    have FIN:=Zaa (show ZjO ⟨P,ts⟩ xs=2 from Zdu (by
     cases hc:ZbI ⟨P,ts⟩ xs
     ·rfl
     ·have:=((ZaG _ _).1 hc).2.2;rw[hr]at this;cases this))
    clear hr
    go_wp2_with fail
    refine(Zbx (G.out.keep B1.out)).mono ?_;rintro e w' ⟨rfl,rfl⟩;rw[HR.out]
    go_wp2
    go_ret
    exact⟨Zap FIN.out.symm,B1.out⟩
   ·have HR:=Zaa hr
    have FIN:=Zaa (show ZjO ⟨P,ts⟩ xs=0 from ZgW ((ZaG _ _).2 ⟨HO.out,by rw[GL.out];exact hl,hr⟩))
    clear hr
    go_wp2_with fail
    refine(Zbx (G.out.keep B1.out)).mono ?_;rintro e w' ⟨rfl,rfl⟩;rw[HR.out]
    go_wp2
    go_ret
    exact⟨Zap FIN.out.symm,B1.out⟩
  ·have FIN:=Zaa (show ZjO ⟨P,ts⟩ xs=2 from Zdu (by
    cases hc:ZbI ⟨P,ts⟩ xs
    ·rfl
    ·have:=((ZaG _ _).1 hc).2.1;rw[GL.out]at this;exact absurd this hl))
   go_wp2
   go_ret
   exact⟨Zap FIN.out.symm,B1.out⟩
 ·have W0:=Zaa (Zb8 (by simpa using hok))
  have FIN:=Zaa (Zdu (Zm9 (xs:=xs) hok))
  clear hok
  go_enter Tryz.func80,Tryz.ntmps80
  go_wp2_with fail
  refine(Za5 _ P A n c ts (H.out.keep (HB.out _))).mono ?_
  rw[W0.out]
  rintro e w1 ⟨rfl,hb⟩
  have B1:=Zaa ((HB.out (.cells #[.int .i64 P,.slice A n c] 24)).trans (hb.mono (by simp)))
  clear hb
  go_wp2
  go_ret
  exact⟨Zap FIN.out.symm,B1.out⟩
set_option maxHeartbeats 1000000 in
theorem Zfz {w:World}{P:Int}{A B:Option Addr}{n c m d:Nat}{ts:List Zak}{xs:List Int}(h:ZaP w A n c ts)(g:Zam w B m d xs) :
  Calls Tryz.prog 110 #[.agg #[.int .i64 P,.slice A n c],.slice B m d] w (Zr9 (Zbq ⟨P,ts⟩ xs) w):=by
 have HB:=Zaa (Zab w)
 have G:=Zaa g
 have H:=Zaa h
 have HL:=Zaa h.len
 clear g h
 cases hok:ZbI ⟨P,ts⟩ xs
 ·have W0:=Zaa (Zdu hok)
  have FIN:=Zaa (show Zbq ⟨P,ts⟩ xs=([],2)from by rw[Zbq,hok];rfl)
  clear hok
  go_enter Tryz.func110,Tryz.ntmps110
  go_wp2_with fail
  refine(ZbS (P:=P) (H.out.keep (HB.out _)) (G.out.keep (HB.out _))).mono ?_
  rw[W0.out]
  rintro e w1 ⟨rfl,hb⟩
  have B1:=Zaa ((HB.out (.cells #[.int .i64 P,.slice A n c] 24)).trans (hb.mono (by simp)))
  clear hb
  go_wp2
  go_ret2
  exact⟨none,0,0,by rw[FIN.out];rfl,by rw[FIN.out];exact Sl.nil0,B1.out⟩
 ·have W0:=Zaa (ZgW hok)
  have FIN:=Zaa (show Zbq ⟨P,ts⟩ xs=(Zb4 ts xs,0)from by rw[Zbq,hok];rfl)
  have hn24:n≤24:=by have:=((Zar _).1 ((ZaG _ _).1 hok).1).2.2.1;simp only[]at this;rw[H.out.len]at this;exact this
  clear hok
  go_enter Tryz.func110,Tryz.ntmps110
  go_wp2_with fail
  refine(ZbS (P:=P) (H.out.keep (HB.out _)) (G.out.keep (HB.out _))).mono ?_
  rw[W0.out]
  rintro e w1 ⟨rfl,hb⟩
  have B1:=Zaa ((HB.out (.cells #[.int .i64 P,.slice A n c] 24)).trans (hb.mono (by simp)))
  have hc1:w1.cell? ⟨w.heap.size,1,none⟩=some (.slice A n c):=(hb.cell (by simp)).trans (by simp)
  have H1:=Zaa (H.out.keep B1.out)
  have G1:=Zaa (G.out.keep B1.out)
  clear hb
  go_wp2
  go_loopw [7,19] (fun v i wr=>∃k q:Nat,k≤n∧q≤k∧i=.int .i64 k∧Zaf wr w1.heap.size v q (Zb4 (ts.take k) xs)∧Below w1.heap.size w1 wr) (fun _ i _=>n-(intOf i).toNat)
  case atStart=>exact⟨0,0,Nat.zero_le _,Nat.zero_le _,rfl,Zad.nil,Below.refl _ _⟩
  case round =>
   obtain⟨k,q,hk,hq,rfl,own,hb⟩:=hrel
   by_cases hlt:k<n
   ·obtain⟨bl,off,t,A1,n1,c1,A2,n2,c2,rfl,hbl,ht,q0,q1,q2,i1,i2,m1,m2⟩:=ZaP.get (H1.out.keep hb) hlt
    have G2:=Zaa ((G1.out.keep hb).keep (Zab wr (.cells #[.int .i64 t.label,.slice A1 n1 c1,.slice A2 n2 c2] 49)))
    have I1:=Zaa (i1.keep (Zab wr (.cells #[.int .i64 t.label,.slice A1 n1 c1,.slice A2 n2 c2] 49)))
    have OW:=Zaa (own.keep ZcE.kept (Zab wr (.cells #[.int .i64 t.label,.slice A1 n1 c1,.slice A2 n2 c2] 49)))
    have HB1:=Zaa (hb.alloc hb.size (.cells #[.int .i64 t.label,.slice A1 n1 c1,.slice A2 n2 c2] 49))
    have hst:=Zaa (show Zb4 (ts.take (k+1)) xs=Zb4 (ts.take k) xs++(if ZaU xs t.pre=true then [(k:Int)]else [])from by
     rw[ZaK ht.out,ZfU,List.length_take,Nat.min_eq_left (by rw[HL.out];omega)])
    clear i1 i2 own hb
    cases hc:ZaU xs t.pre
    ·have HC:=Zaa hc
     clear hc
     go_wp2_with ((with_reducible refine(ZbL G2.out I1.out).mono ?_);rintro e w' ⟨rfl,rfl⟩;rw[HC.out])
     go_roundw
     case rel=>exact⟨k+1,q,by omega,by omega,by go_num,by rw[hst.out,HC.out];simpa using OW.out,HB1.out⟩
     case measure=>simp[intOf];omega
    ·have HC:=Zaa hc
     clear hc
     go_wp2_with (first
      |((with_reducible refine(ZbL G2.out I1.out).mono ?_);rintro e w' ⟨rfl,rfl⟩;rw[HC.out])
      |(at_builtin;refine Zbw rfl _ _ rfl rfl rfl (by simp) OW.out HB1.out HB1.out.size (by omega) ?_;intro v2 w2 own2 hg2 hb2))
     go_roundw
     case rel=>exact⟨k+1,q+1,by omega,by omega,by go_num,by rw[hst.out,HC.out];exact own2,hb2⟩
     case measure=>simp[intOf];omega
   ·have OW:=Zaa own
    have HB2:=Zaa (B1.out.trans (hb.mono B1.out.size))
    have hst:=Zaa (show Zb4 (ts.take k) xs=Zb4 ts xs from by rw[List.take_of_length_le (by rw[HL.out];omega)])
    clear own hb
    go_wp2
    go_ret2
    obtain⟨C,cc,hv,hi⟩:=OW.out.sl (by omega)
    rw[hst.out]at hi
    exact⟨C,q,cc,by rw[FIN.out,←hv];rfl,by rw[FIN.out];exact hi,HB2.out⟩
theorem Zad.fresh {α:Type}{R:World→(Nat→Value)→α→Prop}{sz:Nat}{w w':World}{e n n' c:Nat}{v:Value}{xs:List α}{A:Option Addr}(h:Zad R sz w' w.heap.size e v n xs)(hv:v=.slice A n' c):Zbn w A:=by
 obtain⟨cells,h1,_⟩:=h
 rcases h1.2 with⟨rfl,_⟩|⟨g,cap,cur,rfl,hg,_⟩
 ·cases hv;exact Zbn.none
 ·cases hv;exact Zbn.at hg
def Zoz (n:Nat)(xs:List Int)(w:World)(e:Ending)(w':World):Prop :=
 ∃C k,e=.returned (.slice C n k)∧Zam w' C n k xs∧Below w.heap.size w w'∧Zbn w C
theorem ZoA (w:World)(P i:Int)(hP:P≤16) :
  Calls Tryz.prog 22 #[.int .i64 P,.int .i64 i] w (Zoz P.toNat (ZcR P.toNat i) w):=by
 obtain⟨n,hn⟩:∃n:Nat,P.toNat=n:=⟨_,rfl⟩
 have hm:max P 0=(n:Int):=by omega
 have hn16:n≤16:=by omega
 rw[hn]
 clear hn
 go_enter Tryz.func22,Tryz.ntmps22
 by_cases h:0≤i∧i<(n:Int)
 ·obtain⟨k,rfl⟩:∃k:Nat,i=(k:Int):=⟨i.toNat,by omega⟩
  have hk:k<n:=by omega
  have hki:(k:Int)<(n:Int):=by omega
  have hk0:(0:Int)≤(k:Int):=by omega
  clear h
  go_wp2_with (at_make;refine ZcU Tryz.underlying28 Ze7 rfl rfl _ _ rfl n rfl rfl (by first|rfl|exact hm) (by first|rfl|exact hm) (by omega) (by omega) (Below.refl _ _) (Nat.le_refl _) ?_;intro w1 own1 hg1 hb1;have hcell:w1.cell? ⟨w.heap.size,k,none⟩=some (.int .i64 0):=(by rw[own1.cellAt k (by omega)];simp[hk]);have hfz:w1.frozen? ⟨w.heap.size,k,none⟩=false:=own1.frozenAt k)
  have HST:=Zaa (own1.stored k (.int .i64 1)).1
  go_ret
  have o2:=HST.out
  rw[show(List.replicate n (Value.int .i64 0)).set k (.int .i64 1)=(ZcR n (k:Int)).map (Value.int .i64) by rw[←Zqw,List.map_set,List.map_replicate]]at o2
  obtain⟨C,cc,hv,hi⟩:=Zam.of_own o2 (by omega)
  exact⟨C,cc,by rw[←hv];rfl,hi,hb1.setCell (Nat.le_refl _) _,by cases hv;exact Zbn.at (Nat.le_refl _)⟩
 ·have HF:=Zaa (Zqx n i h)
  by_cases h0:0≤i
  ·have h1:(n:Int)≤i:=by omega
   clear h
   go_wp2_with (at_make;refine ZcU Tryz.underlying28 Ze7 rfl rfl _ _ rfl n rfl rfl (by first|rfl|exact hm) (by first|rfl|exact hm) (by omega) (by omega) (Below.refl _ _) (Nat.le_refl _) ?_;intro w1 own1 hg1 hb1)
   go_ret
   have o2:=own1
   rw[show List.replicate n (Value.int .i64 0)=(ZcR n i).map (Value.int .i64) by rw[←HF.out,List.map_replicate]]at o2
   obtain⟨C,cc,hv,hi⟩:=Zam.of_own o2 (by omega)
   exact⟨C,cc,by rw[←hv];rfl,hi,hb1,by cases hv;exact Zbn.at (Nat.le_refl _)⟩
  ·clear h
   go_wp2_with (at_make;refine ZcU Tryz.underlying28 Ze7 rfl rfl _ _ rfl n rfl rfl (by first|rfl|exact hm) (by first|rfl|exact hm) (by omega) (by omega) (Below.refl _ _) (Nat.le_refl _) ?_;intro w1 own1 hg1 hb1)
   go_ret
   have o2:=own1
   rw[show List.replicate n (Value.int .i64 0)=(ZcR n i).map (Value.int .i64) by rw[←HF.out,List.map_replicate]]at o2
   obtain⟨C,cc,hv,hi⟩:=Zam.of_own o2 (by omega)
   exact⟨C,cc,by rw[←hv];rfl,hi,hb1,by cases hv;exact Zbn.at (Nat.le_refl _)⟩
theorem ZbM (w:World)(P i:Int)(A:Option Addr)(n c:Nat) :
  Calls Tryz.prog 9 #[.agg #[.int .i64 P,.slice A n c],.int .i64 i] w (Zoz (min P 16).toNat (ZcR (min P 16).toNat i) w):=by
 have HB:=Zaa (Zab w)
 obtain⟨m,hm⟩:∃m:Int,min P 16=m:=⟨_,rfl⟩
 have h16:m≤16:=by omega
 rw[show(min P 16).toNat=m.toNat by rw[hm]]
 go_enter Tryz.func9,Tryz.ntmps9
 go_wp2_with fail
 refine(ZoA _ m i h16).mono ?_
 rintro e w1 ⟨C,k,rfl,hi,hb,hf⟩
 clear hm
 have HI:=Zaa hi
 have HF:=Zaa (hf.mono (show w.heap.size≤_ by simp))
 have B1:=Zaa ((HB.out (.cells #[.int .i64 P,.slice A n c] 24)).trans (hb.mono (by simp)))
 clear hi hb hf
 go_wp2
 go_ret
 exact⟨C,k,rfl,HI.out,B1.out,HF.out⟩
theorem ZbN {w:World}{P:Int}{A B D:Option Addr}{n c m d l k:Nat}{ts:List Zak}{p:Zay}(h:ZaP w A n c ts)(g:Zam w B m d p.mark)(b:Zam w D l k p.busy) :
  Calls Tryz.prog 72 #[.agg #[.int .i64 P,.slice A n c],.agg #[.slice B m d,.slice D l k]] w fun e w'=>e=.returned (.bool (Zbb ⟨P,ts⟩ p))∧Below w.heap.size w w':=by
 have B0:=Zaa (((Below.refl _ _).alloc (Nat.le_refl _) (.cells #[.int .i64 P,.slice A n c] 24)).alloc (by simp) (.cells #[.slice B m d,.slice D l k] 30):Below w.heap.size w _)
 have X0:Box ((w.alloc (.cells #[.int .i64 P,.slice A n c] 24)).alloc (.cells #[.slice B m d,.slice D l k] 30)) w.heap.size 24 #[.int .i64 P,.slice A n c]:=(Box.new _ _ _).old _
 have X1:Box ((w.alloc (.cells #[.int .i64 P,.slice A n c] 24)).alloc (.cells #[.slice B m d,.slice D l k] 30)) (w.heap.size+1) 30 #[.slice B m d,.slice D l k]:=Box.newAt (by simp) _ _
 have hm:=g.small
 have hn:=h.small
 have hl:=b.small
 have GL:=Zaa g.len
 have BL:=Zaa b.len
 have HL:=Zaa h.len
 have H:=Zaa h
 have G:=Zaa g
 have BB:=Zaa b
 clear h g b
 by_cases hok:Za8 ⟨P,ts⟩=true
 ·have W0:=Zaa (ZcT hok)
  have HO:=Zaa hok
  clear hok
  go_enter Tryz.func72,Tryz.ntmps72
  go_wp2_with fail
  refine(Za5 _ P A n c ts (H.out.keep B0.out)).mono ?_
  rw[W0.out]
  rintro e w1 ⟨rfl,hb⟩
  have B1:=Zaa (B0.out.trans (hb.mono B0.out.size))
  obtain⟨c0,c1⟩:=(X0.keep hb).two
  obtain⟨c2,c3⟩:=(X1.keep hb).two
  clear hb X0 X1
  by_cases hmp:(m:Int)=P
  ·by_cases hln:l=n
   ·subst hmp
    subst hln
    have F0:=Zaa (show Zbb ⟨(m:Int),ts⟩ p=(Zal p.mark&&Zal p.busy) by
     rw[Bool.eq_iff_iff,ZaV,Bool.and_eq_true]
     exact⟨fun h=>⟨h.2.2.1,h.2.2.2.2⟩,fun h=>⟨HO.out,by rw[GL.out],h.1,by rw[BL.out,HL.out],h.2⟩⟩)
    go_wp2_with fail
    refine(Zbx (G.out.keep B1.out)).mono ?_;rintro e w' ⟨rfl,rfl⟩
    cases hr:Zal p.mark
    ·have FIN:=Zaa (show Zbb ⟨(m:Int),ts⟩ p=false by rw[F0.out,hr];rfl)
     clear hr
     go_wp2
     go_ret
     exact⟨Zav FIN.out.symm,B1.out⟩
    ·have FIN:=Zaa (show Zbb ⟨(m:Int),ts⟩ p=Zal p.busy by rw[F0.out,hr];rfl)
     clear hr
     go_wp2_with fail
     refine(Zbx (BB.out.keep B1.out)).mono ?_;rintro e w' ⟨rfl,rfl⟩
     go_wp2
     go_ret
     exact⟨Zav FIN.out.symm,B1.out⟩
   ·have FIN:=Zaa (show Zbb ⟨P,ts⟩ p=false by
     cases hc:Zbb ⟨P,ts⟩ p
     ·rfl
     ·have:=((ZaV _ _).1 hc).2.2.2.1;rw[BL.out]at this;simp only[]at this;rw[HL.out]at this;exact absurd this hln)
    have hne:((l:Int)==(n:Int))=false:=by simp;omega
    clear hln
    go_wp2
    go_ret
    exact⟨Zav FIN.out.symm,B1.out⟩
  ·have FIN:=Zaa (show Zbb ⟨P,ts⟩ p=false by
    cases hc:Zbb ⟨P,ts⟩ p
    ·rfl
    ·have:=((ZaV _ _).1 hc).2.1;rw[GL.out]at this;exact absurd this hmp)
   have hne:((m:Int)==P)=false:=by simpa using hmp
   clear hmp
   go_wp2
   go_ret
   exact⟨Zav FIN.out.symm,B1.out⟩
 ·have W0:=Zaa (Zb8 (by simpa using hok))
  have FIN:=Zaa (show Zbb ⟨P,ts⟩ p=false by
   cases hc:Zbb ⟨P,ts⟩ p
   ·rfl
   ·exact absurd ((ZaV _ _).1 hc).1 hok)
  clear hok
  go_enter Tryz.func72,Tryz.ntmps72
  go_wp2_with fail
  refine(Za5 _ P A n c ts (H.out.keep B0.out)).mono ?_
  rw[W0.out]
  rintro e w1 ⟨rfl,hb⟩
  have B1:=Zaa (B0.out.trans (hb.mono B0.out.size))
  clear hb
  go_wp2
  go_ret
  exact⟨Zav FIN.out.symm,B1.out⟩
end Go.Proofs.YtfmnagcglhlicaaGreat
