/- The contract of grow on leaves, on choices and on loops, given what it does within. Conditions: the block reads as a tree and is right. | The contract of grow on choices, given what it does within. Conditions: the block reads as a tree and is right. | The contract of grow on rows, given what it does -/
import Derived.Test.YtfmnagcglhlicaaGreatTopSaidK31
set_option maxRecDepth 100000
namespace Go.Proofs.YtfmnagcglhlicaaGreat
open Go.RowKit
def Zc0 (w0:World)(bg:Nat)(w:World)(r:KSt)(e:Ending)(w':World):Prop :=
 (ZaE r∧e=.returned (.tuple #[])∧(∃v',GrW w0.heap.size bg w' v' r)∧Below w0.heap.size w0 w'∧Kp w w')∨(¬ZaE r∧e=.panicked [ZnI]∧Below w0.heap.size w0 w')
def Ztg (w0:World)(bg:Nat)(w:World)(r:KSt)(e:Ending)(w':World):Prop:=e=.returned (.tuple #[])∧(∃v',GrW w0.heap.size bg w' v' r)∧Below w0.heap.size w0 w'∧Kp w w'
def Zpj (w0:World)(e:Ending)(w':World):Prop:=e=.panicked [ZnI]∧Below w0.heap.size w0 w'
section
variable {w0 w:World} {bg F:Nat} {args:Array Value} {r:KSt}
theorem ZcF (h:Calls Tryz.prog F args w (Zc0 w0 bg w r))(hf:ZaE r):Calls Tryz.prog F args w (Ztg w0 bg w r):=h.mono fun e w' h=>by
 rcases h with⟨_,h⟩|⟨h,_⟩
 ·exact h
 ·exact absurd hf h
theorem ZcG (h:Calls Tryz.prog F args w (Zc0 w0 bg w r))(hf:¬ZaE r):Calls Tryz.prog F args w (Zpj w0):=h.mono fun e w' h=>by
 rcases h with⟨h,_⟩|⟨_,h⟩
 ·exact absurd h hf
 ·exact h
end
theorem Zet {w0 w:World}{bg:Nat}{v:Value}{g:KSt}{A1 A2:Option Addr}{n1 c1 n2 c2:Nat}{xs ys:List Int}(l:Int)(h:GrW w0.heap.size bg w v g)(hb:Below w0.heap.size w0 w)(i1:Zam w A1 n1 c1 xs)(i2:Zam w A2 n2 c2 ys)(f1:Zim w0.heap.size w A1 n1)(f2:Zim w0.heap.size w A2 n2)(hf:ZaE g) :
  Calls Tryz.prog 100 #[.pointer (some ⟨bg,0,none⟩),.int .i64 l,.slice A1 n1 c1,.slice A2 n2 c2] w (Zc0 w0 bg w (lnk g l xs ys)):=by
 by_cases hl:g.links.length<24
 ·exact(Zst l h hb hb.size i1 i2 f1 f2 hl).mono fun e w' h=>.inl ⟨⟨hf.1,by simp only[lnk,List.length_append,List.length_cons,List.length_nil];omega⟩,h⟩
 ·exact(Zpi l h hb (by have:=hf.2;omega)).mono fun e w' h=>.inr ⟨fun hh=>hl (by have:=hh.2;simp only[lnk,List.length_append,List.length_cons,List.length_nil]at this;omega),h⟩
theorem Zpk (N:Nat)(w:World)(p:Int):Zam (w.alloc (.cells #[.int .i64 p] 3)) (some ⟨w.heap.size,0,none⟩) 1 1 [p]∧Zim N (w.alloc (.cells #[.int .i64 p] 3)) (some ⟨w.heap.size,0,none⟩) 1:=by
 have hx:=Box.new w #[.int .i64 p] 3
 refine⟨⟨rfl,Nat.le_refl _,by simp[maxLen],by omega,fun h=>(by cases h),fun _=>⟨w.heap.size,0,rfl,hx.lt,fun j x hx'=>?_⟩⟩,fun b off e _=>?_⟩
 ·obtain rfl:j=0:=by
   have:=(List.getElem?_eq_some_iff.1 hx').1
   simpa using this
  simp only[List.getElem?_cons_zero,Option.some.injEq]at hx'
  subst hx'
  refine⟨fun _=>.int .i64 p,fun q hq=>?_,rfl⟩
  obtain rfl:q=0:=by omega
  exact hx.cell 0
 ·injection e with e
  injection e with e _
  subst e
  exact .inr ⟨_,_,hx⟩
def Zkn (w0:World)(bg f:Nat):Prop :=
 ∀(d:Nat) (kd lb:Int) (A:Option Addr) (n c had:Nat) (ks:List Zat) (p q:Int) (v:Value) (g:KSt) (w:World),(ZaR f (.mk kd lb ks) had).2=0→Zhr d w0 A n c ks→GrW w0.heap.size bg w v g→Below w0.heap.size w0 w→ZaE g →
  Calls Tryz.prog 54 #[.pointer (some ⟨bg,0,none⟩),.agg #[.int .i64 kd,.int .i64 lb,.slice A n c],.int .i64 p,.int .i64 q] w (Zc0 w0 bg w (kbB f (.mk kd lb ks) p q g))
set_option maxHeartbeats 4000000 in
theorem Zko {w0:World}{bg f:Nat}{kd lb:Int}{A:Option Addr}{n c:Nat}{ks:List Zat}{p q:Int}{v:Value}{g:KSt}{w:World}(hk:kd=1∨kd=2)(hG:GrW w0.heap.size bg w v g)(hB:Below w0.heap.size w0 w)(hf:ZaE g) :
  Calls Tryz.prog 54 #[.pointer (some ⟨bg,0,none⟩),.agg #[.int .i64 kd,.int .i64 lb,.slice A n c],.int .i64 p,.int .i64 q] w (Zc0 w0 bg w (kbB (f+1) (.mk kd lb ks) p q g)):=by
 have hent:∀(args:Array Value) (w:World),Sem.run Tryz.prog (callFunc 99 args) w=.ok (.enter 99 args) w:=fun args w=>by kernel_rfl
 obtain⟨l,hl⟩:∃l,(if kd=1 then 0 else lb)=l:=⟨_,rfl⟩
 have HR:=Zaa (show kbB (f+1) (.mk kd lb ks) p q g=lnk g l [p] [q] by
  rcases hk with rfl|rfl
  ·rw[ZtP,←hl,if_pos rfl]
  ·rw[ZtQ,←hl,if_neg (by decide)])
 rw[HR.out]
 have bb:=Zab w (.cells #[.int .i64 kd,.int .i64 lb,.slice A n c] 71)
 have BB:=Zaa (Box.new w #[.int .i64 kd,.int .i64 lb,.slice A n c] 71)
 have GW:=Zaa (hG.keep bb)
 have BX:=Zaa (hB.trans (bb.mono hB.size))
 have KW0:=Zaa (Kp.below bb)
 have HL:=Zaa hl
 clear hG hB bb hl
 go_enter Tryz.func54,Tryz.ntmps54
 go_upto_region 1 with fail
 generalize w.alloc (.cells #[.int .i64 kd,.int .i64 lb,.slice A n c] 71)=u at *
 obtain⟨b0,b1,b2⟩:=BB.out.three
 have bb1:=Zab u (.cells #[.int .i64 p] 3)
 have bb2:=Zab (u.alloc (.cells #[.int .i64 p] 3)) (.cells #[.int .i64 q] 3)
 have I1:=Zpk w0.heap.size u p
 have I2:=Zpk w0.heap.size (u.alloc (.cells #[.int .i64 p] 3)) q
 have CL:=Zaa (Zet l ((GW.out.keep bb1).keep bb2) ((BX.out.trans (bb1.mono BX.out.size)).trans (bb2.mono (BX.out.trans (bb1.mono BX.out.size)).size)) (I1.1.keep bb2) I2.1 (I1.2.same I1.1 bb2.size (fun b hb _=>bb2.block b hb)).1 I2.2 hf)
 rw[show(u.alloc (.cells #[.int .i64 p] 3)).heap.size=u.heap.size+1 by simp]at CL
 have KW:=Zaa ((KW0.out.trans (Kp.below bb1)).trans (Kp.below bb2))
 clear bb1 bb2 I1 I2 KW0
 by_cases hfit:ZaE (lnk g l [p] [q])
 ·have CK:=Zaa (ZcF CL.out hfit)
  have FT:=Zaa hfit
  clear CL hfit
  rcases hk with rfl|rfl
  ·obtain rfl:l=0:=by rw[←HL.out];rfl
   go_wp2_with (first
    |(go_at_call 99;(with_reducible refine(Zbh _ _).mono ?_);rintro e w1 ⟨rfl,rfl⟩)
    |(go_at_call 100;(with_reducible refine CK.out.mono ?_);rintro e w2 ⟨rfl,hv,hb,hk⟩;have HV:=Zaa hv;have HB:=Zaa hb;have HK:=Zaa (KW.out.trans hk);clear hv hb hk))
   exact bodyPost_end (v:=.tuple #[]) (by simp[results,Tryz.results54,go_sem]) rfl (.inl ⟨FT.out,rfl,HV.out,HB.out,HK.out⟩)
  ·obtain rfl:l=lb:=by rw[←HL.out];rfl
   go_wp2_with (first
    |(go_at_call 99;(with_reducible refine(Zbh _ _).mono ?_);rintro e w1 ⟨rfl,rfl⟩)
    |(go_at_call 100;(with_reducible refine CK.out.mono ?_);rintro e w2 ⟨rfl,hv,hb,hk⟩;have HV:=Zaa hv;have HB:=Zaa hb;have HK:=Zaa (KW.out.trans hk);clear hv hb hk))
   exact bodyPost_end (v:=.tuple #[]) (by simp[results,Tryz.results54,go_sem]) rfl (.inl ⟨FT.out,rfl,HV.out,HB.out,HK.out⟩)
 ·have CK:=Zaa (ZcG CL.out hfit)
  have FT:=Zaa hfit
  clear CL hfit
  rcases hk with rfl|rfl
  ·obtain rfl:l=0:=by rw[←HL.out];rfl
   go_wp2_with (first
    |(go_at_call 99;(with_reducible refine(Zbh _ _).mono ?_);rintro e w1 ⟨rfl,rfl⟩)
    |(go_at_call 100;(with_reducible refine CK.out.mono ?_);rintro e w2 ⟨rfl,hb⟩;have HB:=Zaa hb;clear hb))
   exact⟨rfl,.inr ⟨FT.out,rfl,HB.out⟩⟩
  ·obtain rfl:l=lb:=by rw[←HL.out];rfl
   go_wp2_with (first
    |(go_at_call 99;(with_reducible refine(Zbh _ _).mono ?_);rintro e w1 ⟨rfl,rfl⟩)
    |(go_at_call 100;(with_reducible refine CK.out.mono ?_);rintro e w2 ⟨rfl,hb⟩;have HB:=Zaa hb;clear hb))
   exact⟨rfl,.inr ⟨FT.out,rfl,HB.out⟩⟩
set_option maxHeartbeats 4000000 in
theorem ZqY {w0:World}{bg f d had:Nat}(IH0:Zkn w0 bg f){lb:Int}{A:Option Addr}{n c:Nat}{ks:List Zat}{p q:Int}{v:Value}{g:KSt}{w:World}(hc:(ZaR (f+1) (.mk 4 lb ks) had).2=0)(hK:Zhr d w0 A n c ks)(hG:GrW w0.heap.size bg w v g)(hB:Below w0.heap.size w0 w)(hf:ZaE g) :
  Calls Tryz.prog 54 #[.pointer (some ⟨bg,0,none⟩),.agg #[.int .i64 4,.int .i64 lb,.slice A n c],.int .i64 p,.int .i64 q] w (Zc0 w0 bg w (kbB (f+1) (.mk 4 lb ks) p q g)):=by
 obtain⟨_,_,h',_,hfold⟩:=Zdi hc
 replace hfold:ks.foldl (ZaI (ZaR f)) (had+1,0)=(h',0):=hfold
 have IH:=Zaa IH0
 have FO:=Zaa hfold
 obtain⟨F,hF⟩:∃F:KSt→Zat×Nat→KSt,F=fun s x=>Zqn (kbB f) p q s x.1:=⟨_,rfl⟩
 have HFD:=Zaa hF
 have HR:=Zaa (show kbB (f+1) (.mk 4 lb ks) p q g=ks.zipIdx.foldl F g by rw[ZtS,hF,Zsr])
 have TG:=Zaa (fun(i hd:Nat) (h1:(ks.take i).foldl (ZaI (ZaR f)) (had+1,0)=(hd,0))=>show Gr ((ks.take i).zipIdx.foldl F g) (ks.zipIdx.foldl F g) (h'-hd)from by
  rw[hF];exact ZlM (fun s=>s) _ ZqU h1 hfold)
 rw[HR.out]
 have bb:=Zab w (.cells #[.int .i64 4,.int .i64 lb,.slice A n c] 71)
 have BB:=Zaa (Box.new w #[.int .i64 4,.int .i64 lb,.slice A n c] 71)
 have GW:=Zaa (hG.keep bb)
 have BX:=Zaa (hB.trans (bb.mono hB.size))
 have HL:=Zaa (show ks.length=n from hK.len)
 have hns:=hK.small
 have K:=Zaa hK
 have HFT:=Zaa hf
 have KW:=Zaa (Kp.below bb)
 clear hG hB bb hK hc IH0 hfold hF hf
 go_enter Tryz.func54,Tryz.ntmps54
 go_upto_region 1 with fail
 generalize w.alloc (.cells #[.int .i64 4,.int .i64 lb,.slice A n c] 71)=u at *
 obtain⟨b0,b1,b2⟩:=BB.out.three
 have G0:=Zaa (show GrW w0.heap.size bg u v ((ks.take 0).zipIdx.foldl F g)from GW.out)
 clear GW
 go_wp2
 clear b0 b1 b2
 go_loopw [80] (fun iv wr=>∃(i hd:Nat) (v:Value),i≤n∧iv=.int .i64 i∧Hid (GrW w0.heap.size bg wr v ((ks.take i).zipIdx.foldl F g))∧Hid ((ks.take i).foldl (ZaI (ZaR f)) (had+1,0)=(hd,0))∧Hid (ZaE ((ks.take i).zipIdx.foldl F g))∧Hid (Below w0.heap.size w0 wr)∧Hid (Kp w wr)) (fun iv _=>n-(intOf iv).toNat)
 case atStart=>exact⟨0,had+1,v,Nat.zero_le _,rfl,G0,rfl,HFT,BX,KW⟩
 case round =>
  clear G0 BX BB KW
  obtain⟨i,hd,v,hi,rfl,GW,CK,FT,BX,KW⟩:=hrel
  by_cases hlt:i<n
  ·have hki:(i:Int)<(n:Int):=by omega
   obtain⟨bl,off,kd',lb',ks',B',m',e',d',rfl,rfl,hbl,hx,p0,p1,p2,K'⟩:=K.out.get hlt
   have q0:=(BX.out.cell (p:=⟨bl,_,none⟩) hbl).trans p0
   have q1:=(BX.out.cell (p:=⟨bl,_,none⟩) hbl).trans p1
   have q2:=(BX.out.cell (p:=⟨bl,_,none⟩) hbl).trans p2
   obtain⟨hd',hk1,hk2⟩:=Zdj FO.out hx.out CK.out
   have CK2:=Zaa hk2
   have ZS:=Zaa (Zg2 (F:=F) (s:=g) hx.out)
   have bb2:=Zab wr (.cells #[.int .i64 kd',.int .i64 lb',.slice B' m' e'] 71)
   have X3:=Zaa (BX.out.trans (bb2.mono BX.out.size))
   have K3:=Zaa (KW.out.trans (Kp.below bb2))
   have CI:=Zaa (IH.out d' kd' lb' B' m' e' hd ks' p q v _ (wr.alloc (.cells #[.int .i64 kd',.int .i64 lb',.slice B' m' e'] 71)) (by rw[hk1]) K'.out (GW.out.keep bb2) X3.out FT.out)
   have HZ:=Zaa (show kbB f (.mk kd' lb' ks') p q ((ks.take i).zipIdx.foldl F g)=(ks.take (i+1)).zipIdx.foldl F g by rw[ZS.out,HFD.out];rfl)
   rw[HZ.out]at CI
   clear p0 p1 p2 hk1 hk2 bb2 hx K' HZ ZS
   by_cases hfit:ZaE ((ks.take (i+1)).zipIdx.foldl F g)
   ·have CJ:=Zaa (ZcF CI.out hfit)
    have FT2:=Zaa hfit
    clear CI hfit
    go_wp2_with (go_at_call 54;(with_reducible refine CJ.out.mono ?_);rintro e w4 ⟨rfl,⟨v4,hg4⟩,hb4,hk4⟩;have G4:=Zaa hg4;have X4:=Zaa hb4;have K4:=Zaa (K3.out.trans hk4);clear hg4 hb4 hk4)
    go_roundw
    case rel=>exact⟨i+1,hd',v4,by omega,by go_num,G4,CK2,FT2,X4,K4⟩
    case measure=>simp[intOf];omega
   ·have CJ:=Zaa (ZcG CI.out hfit)
    have NF:=Zaa (show ¬ZaE (ks.zipIdx.foldl F g)from fun h=>hfit ((TG.out (i+1) hd' CK2.out).fits h))
    clear CI hfit
    go_wp2_with (go_at_call 54;(with_reducible refine CJ.out.mono ?_);rintro e w4 ⟨rfl,hb4⟩;have X4:=Zaa hb4;clear hb4)
    exact⟨rfl,.inr ⟨NF.out,rfl,X4.out⟩⟩
  ·obtain rfl:i=n:=by omega
   have ZA:=Zaa (ZlL (F:=F) (s:=g) (l:=ks) (i:=i) (by rw[HL.out];exact Nat.le_refl _))
   rw[ZA.out]at GW FT
   go_wp2
   exact bodyPost_end (v:=.tuple #[]) (by simp[results,Tryz.results54,go_sem]) rfl (.inl ⟨FT.out,rfl,⟨v,GW.out⟩,BX.out,KW.out⟩)
theorem ZdH {w0 w:World}{bg:Nat}{v:Value}{g:KSt}(h:GrW w0.heap.size bg w v g)(hb:Below w0.heap.size w0 w)(hf:ZaE (more g 1)) :
  Calls Tryz.prog 101 #[.pointer (some ⟨bg,0,none⟩)] w (fun e w'=>e=.returned (.int .i64 g.places)∧GrW w0.heap.size bg w' v (more g 1)∧Below w0.heap.size w0 w'∧Kp w w'∧w.grownBy w' (some bg)) :=
 ZqW h hb (by have:=hf.1;simp only[more]at this;omega)
theorem ZdI {w0 w:World}{bg:Nat}{v:Value}{g:KSt}(h:GrW w0.heap.size bg w v g)(hb:Below w0.heap.size w0 w)(hg:ZaE g)(hf:¬ZaE (more g 1)) :
  Calls Tryz.prog 101 #[.pointer (some ⟨bg,0,none⟩)] w (Zpj w0) :=
 ZnJ h hb (by
  have:=hg.1
  have h2:=hg.2
  apply Classical.byContradiction
  intro hne
  exact hf ⟨by simp only[more];omega,by simpa only [more] using h2⟩)
set_option maxHeartbeats 4000000 in
theorem ZqZ {w0:World}{bg f d had:Nat}(IH0:Zkn w0 bg f){lb:Int}{A:Option Addr}{n c:Nat}{ks:List Zat}{p q:Int}{v:Value}{g:KSt}{w:World}(hc:(ZaR (f+1) (.mk 3 lb ks) had).2=0)(hK:Zhr d w0 A n c ks)(hG:GrW w0.heap.size bg w v g)(hB:Below w0.heap.size w0 w)(hf:ZaE g) :
  Calls Tryz.prog 54 #[.pointer (some ⟨bg,0,none⟩),.agg #[.int .i64 3,.int .i64 lb,.slice A n c],.int .i64 p,.int .i64 q] w (Zc0 w0 bg w (kbB (f+1) (.mk 3 lb ks) p q g)):=by
 obtain⟨_,hhd,h',_,hfold⟩:=Zdi hc
 replace hfold:ks.foldl (ZaI (ZaR f)) (had+1,0)=(h',0):=hfold
 have hn0:0<n:=by
  have:=(Zg1 hhd).2.2.2 (by show(3:Int)≤3;omega)
  have h2:=hK.len
  simp only[Zat.kids]at this
  omega
 obtain⟨m,rfl⟩:∃m,n=m+1:=⟨n-1,by omega⟩
 have IH:=Zaa IH0
 have FO:=Zaa hfold
 obtain⟨F,hF⟩:∃F:KSt×Int→Zat×Nat→KSt×Int,F=Zpc (kbB f) (m+1) q:=⟨_,rfl⟩
 have HFD:=Zaa hF
 have HLs:=hK.len
 have HR:=Zaa (show kbB (f+1) (.mk 3 lb ks) p q g=(ks.zipIdx.foldl F (g,p)).1 by rw[ZtR,hF,HLs])
 have TG:=Zaa (fun(i hd:Nat) (h1:(ks.take i).foldl (ZaI (ZaR f)) (had+1,0)=(hd,0))=>show Gr ((ks.take i).zipIdx.foldl F (g,p)).1 (ks.zipIdx.foldl F (g,p)).1 (h'-hd)from by
  rw[hF];exact ZlM (fun s:KSt×Int=>s.1) _ ZqV h1 hfold)
 rw[HR.out]
 have bb:=Zab w (.cells #[.int .i64 3,.int .i64 lb,.slice A (m+1) c] 71)
 have BB:=Zaa (Box.new w #[.int .i64 3,.int .i64 lb,.slice A (m+1) c] 71)
 have GW:=Zaa (hG.keep bb)
 have BX:=Zaa (hB.trans (bb.mono hB.size))
 have HL:=Zaa HLs
 have hns:=hK.small
 have hcap:=hK.le
 have hcap2:=hK.cap
 have K:=Zaa hK
 have HFT:=Zaa hf
 have hBN:=Zaa (show w0.heap.size≤w.heap.size from hB.size)
 obtain⟨bA,offA,hA,_⟩:=hK.cells hn0
 subst hA
 have KW:=Zaa (Kp.below bb)
 clear hG hB bb hK hc IH0 hfold hF hf hhd HLs hn0
 go_enter Tryz.func54,Tryz.ntmps54
 go_upto_region 1 with fail
 have BBL:=Zaa BB.out.lt
 generalize w.alloc (.cells #[.int .i64 3,.int .i64 lb,.slice (some ⟨bA,offA,none⟩) (m+1) c] 71)=u at *
 obtain⟨b0,b1,b2⟩:=BB.out.three
 have G0:=Zaa (show GrW w0.heap.size bg u v ((ks.take 0).zipIdx.foldl F (g,p)).1 from GW.out)
 have hm1:((m+1:Nat):Int)-1=(m:Int):=by omega
 have hmc:(m:Int)≤(c:Int):=by omega
 clear GW
 go_wp2
 clear b0 b1 b2
 go_loopw [2,50] (fun pv iv wr=>∃(i hd:Nat) (v:Value) (s:KSt×Int),i≤m∧iv=.int .i64 i∧pv=.int .i64 s.2∧Hid ((ks.take i).zipIdx.foldl F (g,p)=s)∧Hid (GrW w0.heap.size bg wr v s.1)∧Hid ((ks.take i).foldl (ZaI (ZaR f)) (had+1,0)=(hd,0))∧Hid (ZaE s.1)∧Hid (Below w0.heap.size w0 wr)∧Hid (Kp w wr)∧Hid (Box wr w.heap.size 71 #[.int .i64 3,.int .i64 lb,.slice (some ⟨bA,offA,none⟩) (m+1) c])) (fun _ iv _=>m-(intOf iv).toNat)
 case atStart=>exact⟨0,had+1,v,(g,p),Nat.zero_le _,rfl,rfl,rfl,G0,rfl,HFT,BX,KW,BB⟩
 case round =>
  clear G0 BX BB BBL KW
  obtain⟨i,hd,v,s,hi,rfl,rfl,HS,GW,CK,FT,BX,KW,BB⟩:=hrel
  obtain⟨g1,p1⟩:=s
  simp only at GW FT ⊢
  by_cases hlt:i<m
  ·have hki:(i:Int)<(m:Int):=by omega
   obtain⟨bl,off,kd',lb',ks',B',m',e',d',rfl,hA',hbl,hx,p0,p1',p2,K'⟩:=K.out.get (show i<m+1 by omega)
   injection hA' with hA'
   injection hA' with e1 e2
   subst e1 e2
   have q0:=(BX.out.cell (p:=⟨bA,_,none⟩) hbl).trans p0
   have q1:=(BX.out.cell (p:=⟨bA,_,none⟩) hbl).trans p1'
   have q2:=(BX.out.cell (p:=⟨bA,_,none⟩) hbl).trans p2
   obtain⟨hd',hk1,hk2⟩:=Zdj FO.out hx.out CK.out
   have CK2:=Zaa hk2
   have ZS:=Zaa (Zg2 (F:=F) (s:=(g,p)) hx.out)
   have bb2:=Zab wr (.cells #[.int .i64 kd',.int .i64 lb',.slice B' m' e'] 71)
   have X3:=Zaa (BX.out.trans (bb2.mono BX.out.size))
   have G3:=Zaa (GW.out.keep bb2)
   have BB3:=Zaa (BB.out.keep bb2)
   have XB:=Zaa (Box.new wr #[.int .i64 kd',.int .i64 lb',.slice B' m' e'] 71)
   have HN:=Zaa (show w0.heap.size≤wr.heap.size from BX.out.size)
   have HZ:=Zaa (show(ks.take (i+1)).zipIdx.foldl F (g,p)=(kbB f (.mk kd' lb' ks') p1 (g1.places:Int) (more g1 1),(g1.places:Int)) by rw[ZS.out,HS.out,HFD.out,Zpc,if_pos (by simp only;omega)])
   have TGI:=Zaa (TG.out (i+1) hd' hk2)
   rw[HZ.out]at TGI
   simp only at TGI
   have GRK:=Zaa (ZdF f (.mk kd' lb' ks') hd p1 (g1.places:Int) (more g1 1) (by rw[hk1]))
   have HK1:=Zaa hk1
   have K3:=Zaa (KW.out.trans (Kp.below bb2))
   by_cases hpl:ZaE (more g1 1)
   ·have CP:=Zaa (ZdH G3.out X3.out hpl)
    have CI:=Zaa (fun(w5:World) (hG5:GrW w0.heap.size bg w5 v (more g1 1)) (hB5:Below w0.heap.size w0 w5)=>IH.out d' kd' lb' B' m' e' hd ks' p1 (g1.places:Int) v _ w5 (by rw[HK1.out]) K'.out hG5 hB5 hpl)
    clear p0 p1' p2 hk1 hk2 hx hpl
    go_upto_region 13 with fail
    clear q0 q1 q2 bb2
    generalize wr.alloc (.cells #[.int .i64 kd',.int .i64 lb',.slice B' m' e'] 71)=w5 at *
    generalize wr.heap.size=b5 at *
    go_upto_region 14 with(go_at_call 101;(with_reducible refine CP.out.mono ?_);rintro e w6 ⟨rfl,hg6,hb6,hk6,_⟩;have G6:=Zaa hg6;have X6:=Zaa hb6;have BB6:=Zaa (hk6.box BB3.out (by decide) (by decide));have XB6:=Zaa (hk6.box XB.out (by decide) (by decide));have K6:=Zaa (K3.out.trans hk6);clear hg6 hb6 hk6)
    obtain⟨t0,t1,t2⟩:=XB6.out.three
    by_cases hfit:ZaE (kbB f (.mk kd' lb' ks') p1 (g1.places:Int) (more g1 1))
    ·have CJ:=Zaa (ZcF (CI.out w6 G6.out X6.out) hfit)
     have FT2:=Zaa hfit
     clear hfit CI
     go_wp2_with (go_at_call 54;(with_reducible refine CJ.out.mono ?_);rintro e w7 ⟨rfl,⟨v7,hg7⟩,hb7,hk7⟩;have G7:=Zaa hg7;have X7:=Zaa hb7;have BB7:=Zaa (hk7.box BB6.out (by decide) (by decide));have K7:=Zaa (K6.out.trans hk7);clear hg7 hb7 hk7)
     go_roundw
     case rel=>exact⟨i+1,hd',v7,_,by omega,by go_num,rfl,HZ,G7,CK2,FT2,X7,K7,BB7⟩
     case measure=>simp[intOf];omega
    ·have CJ:=Zaa (ZcG (CI.out w6 G6.out X6.out) hfit)
     have NF:=Zaa (show ¬ZaE (ks.zipIdx.foldl F (g,p)).1 from fun h=>hfit (TGI.out.fits h))
     clear hfit CI
     go_wp2_with (go_at_call 54;(with_reducible refine CJ.out.mono ?_);rintro e w7 ⟨rfl,hb7⟩;have X7:=Zaa hb7;clear hb7)
     exact⟨rfl,.inr ⟨NF.out,rfl,X7.out⟩⟩
   ·have CP:=Zaa (ZdI G3.out X3.out FT.out hpl)
    have NF:=Zaa (show ¬ZaE (ks.zipIdx.foldl F (g,p)).1 from fun h=>hpl (GRK.out.1.fits (TGI.out.fits h)))
    clear p0 p1' p2 hk1 hk2 hx hpl
    go_upto_region 13 with fail
    clear q0 q1 q2 bb2
    generalize wr.alloc (.cells #[.int .i64 kd',.int .i64 lb',.slice B' m' e'] 71)=w5 at *
    generalize wr.heap.size=b5 at *
    go_wp2_with (go_at_call 101;(with_reducible refine CP.out.mono ?_);rintro e w6 ⟨rfl,hb6⟩;have X6:=Zaa hb6;clear hb6)
    exact⟨rfl,.inr ⟨NF.out,rfl,X6.out⟩⟩
  ·obtain rfl:i=m:=by omega
   obtain⟨bl,off,kd',lb',ks',B',m',e',d',rfl,hA',hbl,hx,p0,p1',p2,K'⟩:=K.out.get (show i<i+1 by omega)
   injection hA' with hA'
   injection hA' with e1 e2
   subst e1 e2
   have q0:=(BX.out.cell (p:=⟨bA,_,none⟩) hbl).trans p0
   have q1:=(BX.out.cell (p:=⟨bA,_,none⟩) hbl).trans p1'
   have q2:=(BX.out.cell (p:=⟨bA,_,none⟩) hbl).trans p2
   obtain⟨hd',hk1,hk2⟩:=Zdj FO.out hx.out CK.out
   have ZS:=Zaa (Zg2 (F:=F) (s:=(g,p)) hx.out)
   have HZ:=Zaa (show(ks.zipIdx.foldl F (g,p))=(kbB f (.mk kd' lb' ks') p1 q g1,q) by
    rw[←ZlL (i:=i+1) (by rw[HL.out];exact Nat.le_refl _),ZS.out,HS.out,HFD.out,Zpc,if_neg (by simp only;omega)])
   have CI:=Zaa (IH.out d' kd' lb' B' m' e' hd ks' p1 q v _ wr (by rw[hk1]) K'.out GW.out BX.out FT.out)
   obtain⟨b0,b1,b2⟩:=BB.out.three
   have hbnd:(i:Int)<((i+1:Nat):Int):=by omega
   clear p0 p1' p2 hk1 hk2 hx
   by_cases hfit:ZaE (kbB f (.mk kd' lb' ks') p1 q g1)
   ·have CJ:=Zaa (ZcF CI.out hfit)
    have FT2:=Zaa hfit
    clear hfit CI
    go_wp2_with (go_at_call 54;(with_reducible refine CJ.out.mono ?_);rintro e w7 ⟨rfl,hg7,hb7,hk7⟩;have G7:=Zaa hg7;have X7:=Zaa hb7;have K7:=Zaa (KW.out.trans hk7);clear hg7 hb7 hk7)
    exact bodyPost_end (v:=.tuple #[]) (by simp[results,Tryz.results54,go_sem]) rfl (.inl ⟨by rw[HZ.out];exact FT2.out,rfl,by rw[HZ.out];exact G7.out,X7.out,K7.out⟩)
   ·have CJ:=Zaa (ZcG CI.out hfit)
    have NF:=Zaa hfit
    clear hfit CI
    go_wp2_with (go_at_call 54;(with_reducible refine CJ.out.mono ?_);rintro e w7 ⟨rfl,hb7⟩;have X7:=Zaa hb7;clear hb7)
    exact⟨rfl,.inr ⟨by rw[HZ.out];exact NF.out,rfl,X7.out⟩⟩
theorem Zg3 {g:KSt}{l:Int}{a b:List Int}(h:ZaE (lnk g l a b)):ZaE g:=⟨h.1,by have:=h.2;simp only[lnk,List.length_append,List.length_cons,List.length_nil]at this;omega⟩
theorem ZhI {g:KSt}{k j:Nat}(h:ZaE (more g k))(hj:j≤k):ZaE (more g j):=⟨by have:=h.1;simp only[more]at this ⊢;omega,h.2⟩
set_option maxHeartbeats 8000000 in
theorem Zpl {w0:World}{bg f d had:Nat}(IH0:Zkn w0 bg f){lb:Int}{A:Option Addr}{n c:Nat}{ks:List Zat}{p q:Int}{v:Value}{g:KSt}{w:World}(hc:(ZaR (f+1) (.mk 6 lb ks) had).2=0)(hK:Zhr d w0 A n c ks)(hG:GrW w0.heap.size bg w v g)(hB:Below w0.heap.size w0 w)(hf:ZaE g) :
  Calls Tryz.prog 54 #[.pointer (some ⟨bg,0,none⟩),.agg #[.int .i64 6,.int .i64 lb,.slice A n c],.int .i64 p,.int .i64 q] w (Zc0 w0 bg w (kbB (f+1) (.mk 6 lb ks) p q g)):=by
 have hent:∀(args:Array Value) (w:World),Sem.run Tryz.prog (callFunc 99 args) w=.ok (.enter 99 args) w:=fun args w=>by kernel_rfl
 obtain⟨_,hhd,h',_,hfold⟩:=Zdi hc
 replace hfold:ks.foldl (ZaI (ZaR f)) (had+1,0)=(h',0):=hfold
 have hn2:=(Zg1 hhd).2.2.1 rfl
 simp only[Zat.kids]at hn2
 have hnn:n=2:=by have:=hK.len;omega
 subst hnn
 obtain⟨b0,ofA,k0,l0,s0,B0,m0,e0,d0,hd0,hA,hbA,hx0,p00,p01,p02,K0⟩:=hK.get (show 0<2 by omega)
 obtain⟨b0',ofA',k1,l1,s1,B1,m1,e1,d1,hd1,hA',_,hx1,p10,p11,p12,K1⟩:=hK.get (show 1<2 by omega)
 subst hA
 injection hA' with hA'
 injection hA' with z1 z2
 subst z1 z2
 have hks:ks=[.mk k0 l0 s0,.mk k1 l1 s1]:=by
  apply List.ext_getElem?
  intro j
  match j with
  | 0=>rw[hx0.out];rfl
  | 1=>rw[hx1.out];rfl
  | j+2=>rw[List.getElem?_eq_none (by omega)];rfl
 obtain⟨hda,ha1,ha2⟩:=Zdj hfold hx0.out (by rfl:(ks.take 0).foldl (ZaI (ZaR f)) (had+1,0)=(had+1,0))
 obtain⟨hdb,hb1,_⟩:=Zdj hfold hx1.out ha2
 have IH:=Zaa IH0
 obtain⟨pl,hpl⟩:∃pl,g.places=pl:=⟨_,rfl⟩
 obtain⟨g1,hg1⟩:∃g1,lnk (more g 2) 0 [p] [(pl:Int)]=g1:=⟨_,rfl⟩
 obtain⟨g2,hg2⟩:∃g2,kbB f (.mk k0 l0 s0) (pl:Int) ((pl:Int)+1) g1=g2:=⟨_,rfl⟩
 obtain⟨g3,hg3⟩:∃g3,kbB f (.mk k1 l1 s1) ((pl:Int)+1) (pl:Int) g2=g3:=⟨_,rfl⟩
 obtain⟨g4,hg4⟩:∃g4,lnk g3 0 [((pl:Int)+1)] [q]=g4:=⟨_,rfl⟩
 have HR:=Zaa (show kbB (f+1) (.mk 6 lb ks) p q g=g4 by rw[hks,ZtU,hpl,show((pl+1:Nat):Int)=(pl:Int)+1 from by omega,hg1,hg2,hg3,hg4])
 rw[HR.out]
 have F3:=Zaa (show ZaE g4→ZaE g3 from fun h=>Zg3 (by rw[hg4];exact h))
 have F2:=Zaa (show ZaE g3→ZaE g2 from fun h=>(ZdF f (.mk k1 l1 s1) hda _ _ g2 (by rw[hb1])).1.fits (by rw[hg3];exact h))
 have F1:=Zaa (show ZaE g2→ZaE g1 from fun h=>(ZdF f (.mk k0 l0 s0) (had+1) _ _ g1 (by rw[ha1])).1.fits (by rw[hg2];exact h))
 have F0:=Zaa (show ZaE g1→ZaE (more g 2)from fun h=>Zg3 (by rw[hg1];exact h))
 have bb:=Zab w (.cells #[.int .i64 6,.int .i64 lb,.slice (some ⟨b0,ofA,none⟩) 2 c] 71)
 have BB:=Zaa (Box.new w #[.int .i64 6,.int .i64 lb,.slice (some ⟨b0,ofA,none⟩) 2 c] 71)
 have GW:=Zaa (hG.keep bb)
 have BX:=Zaa (hB.trans (bb.mono hB.size))
 have KW:=Zaa (Kp.below bb)
 have HFT:=Zaa hf
 have HPL:=Zaa hpl
 have CELL0:=Zaa (show ∀wr,Below w0.heap.size w0 wr→wr.cell? ⟨b0,ofA,none⟩=some (.int .i64 k0)∧wr.cell? ⟨b0,ofA+1,none⟩=some (.int .i64 l0)∧wr.cell? ⟨b0,ofA+2,none⟩=some (.slice B0 m0 e0)from fun wr hb=>⟨(hb.cell (p:=⟨b0,ofA,none⟩) hbA).trans (by simpa using p00),(hb.cell (p:=⟨b0,ofA+1,none⟩) hbA).trans (by simpa using p01),(hb.cell (p:=⟨b0,ofA+2,none⟩) hbA).trans (by simpa using p02)⟩)
 have CELL1:=Zaa (show ∀wr,Below w0.heap.size w0 wr→wr.cell? ⟨b0,ofA+3,none⟩=some (.int .i64 k1)∧wr.cell? ⟨b0,ofA+3+1,none⟩=some (.int .i64 l1)∧wr.cell? ⟨b0,ofA+3+2,none⟩=some (.slice B1 m1 e1)from fun wr hb=>⟨(hb.cell (p:=⟨b0,ofA+3,none⟩) hbA).trans (by simpa using p10),(hb.cell (p:=⟨b0,ofA+3+1,none⟩) hbA).trans (by simpa using p11),(hb.cell (p:=⟨b0,ofA+3+2,none⟩) hbA).trans (by simpa using p12)⟩)
 have C0:=Zaa (fun(w5:World) (v5:Value) (hG5:GrW w0.heap.size bg w5 v5 g1) (hB5:Below w0.heap.size w0 w5) (hf5:ZaE g1)=>show Calls Tryz.prog _ _ _ (Zc0 w0 bg w5 g2)from by rw[←hg2];exact IH.out d0 k0 l0 B0 m0 e0 (had+1) s0 (pl:Int) ((pl:Int)+1) v5 g1 w5 (by rw[ha1]) K0.out hG5 hB5 hf5)
 have C1:=Zaa (fun(w5:World) (v5:Value) (hG5:GrW w0.heap.size bg w5 v5 g2) (hB5:Below w0.heap.size w0 w5) (hf5:ZaE g2)=>show Calls Tryz.prog _ _ _ (Zc0 w0 bg w5 g3)from by rw[←hg3];exact IH.out d1 k1 l1 B1 m1 e1 hda s1 ((pl:Int)+1) (pl:Int) v5 g2 w5 (by rw[hb1]) K1.out hG5 hB5 hf5)
 have LK1:=Zaa hg1
 have LK4:=Zaa hg4
 clear hG hB bb hK hc IH0 hfold hf hhd hn2 hx0 hx1 p00 p01 p02 p10 p11 p12 hks ha1 ha2 hb1 hpl hg1 hg2 hg3 hg4 K0 K1 hd0 hd1 hbA IH
 go_enter Tryz.func54,Tryz.ntmps54
 go_upto_region 1 with fail
 generalize w.alloc (.cells #[.int .i64 6,.int .i64 lb,.slice (some ⟨b0,ofA,none⟩) 2 c] 71)=u at *
 obtain⟨c0,c1,c2⟩:=BB.out.three
 by_cases h1:ZaE (more g 1)
 ·have P1:=Zaa (ZdH GW.out BX.out h1)
  rw[HPL.out]at P1
  by_cases h2:ZaE (more g 2)
  ·have P2:=Zaa (fun(w5:World) (hG5:GrW w0.heap.size bg w5 v (more g 1)) (hB5:Below w0.heap.size w0 w5)=>show Calls Tryz.prog _ _ w5 (fun e w'=>e=.returned (.int .i64 ((pl:Int)+1))∧GrW w0.heap.size bg w' v (more g 2)∧Below w0.heap.size w0 w'∧Kp w5 w'∧w5.grownBy w' (some bg))from by
    have:=ZdH hG5 hB5 h2
    rw[show(more g 1).places=pl+1 by simp only[more,HPL.out],show((pl+1:Nat):Int)=(pl:Int)+1 from by omega]at this
    exact this)
   go_upto_region 39 with(first
    |(go_at_call 101;(with_reducible refine P1.out.mono ?_);rintro e w6 ⟨rfl,hg6,hb6,hk6,_⟩;have G6:=Zaa hg6;have X6:=Zaa hb6;have K6:=Zaa (KW.out.trans hk6);have BB6:=Zaa (hk6.box BB.out (by decide) (by decide));clear hg6 hb6 hk6)
    |(go_at_call 101;(with_reducible refine(P2.out _ G6.out X6.out).mono ?_);rintro e w7 ⟨rfl,hg7,hb7,hk7,_⟩;have G7:=Zaa hg7;have X7:=Zaa hb7;have K7:=Zaa (K6.out.trans hk7);have BB7:=Zaa (hk7.box BB6.out (by decide) (by decide));clear hg7 hb7 hk7))
   clear c0 c1 c2 GW BX KW BB
   have bb1:=Zab w7 (.cells #[.int .i64 p] 3)
   have bb2:=Zab (w7.alloc (.cells #[.int .i64 p] 3)) (.cells #[.int .i64 pl] 3)
   have I1:=Zpk w0.heap.size w7 p
   have I2:=Zpk w0.heap.size (w7.alloc (.cells #[.int .i64 p] 3)) (pl:Int)
   have CL:=Zaa (Zet 0 ((G7.out.keep bb1).keep bb2) ((X7.out.trans (bb1.mono X7.out.size)).trans (bb2.mono (X7.out.trans (bb1.mono X7.out.size)).size)) (I1.1.keep bb2) I2.1 (I1.2.same I1.1 bb2.size (fun b hb _=>bb2.block b hb)).1 I2.2 h2)
   rw[LK1.out,show(w7.alloc (.cells #[.int .i64 p] 3)).heap.size=w7.heap.size+1 by simp]at CL
   have K9:=Zaa ((K7.out.trans (Kp.below bb1)).trans (Kp.below bb2))
   have BB9:=Zaa ((BB7.out.keep bb1).keep bb2)
   clear bb1 bb2 I1 I2
   by_cases h3:ZaE g1
   ·have CK:=Zaa (ZcF CL.out h3)
    clear CL
    go_upto_region 40 with(first
     |(go_at_call 99;(with_reducible refine(Zbh _ _).mono ?_);rintro e w1 ⟨rfl,rfl⟩)
     |(go_at_call 100;(with_reducible refine CK.out.mono ?_);rintro e wa ⟨rfl,⟨va,hga⟩,hba,hka⟩;have GA:=Zaa hga;have XA:=Zaa hba;have KA:=Zaa (K9.out.trans hka);have BBA:=Zaa (hka.box BB9.out (by decide) (by decide));clear hga hba hka))
    clear G7 X7 K7 BB7 BB9 K9 CK
    obtain⟨c0,c1,c2⟩:=BBA.out.three
    obtain⟨q0,q1,q2⟩:=CELL0.out wa XA.out
    by_cases h4:ZaE g2
    ·have CJ:=Zaa (ZcF (C0.out wa va GA.out XA.out h3) h4)
     go_upto_region 41 with(go_at_call 54;(with_reducible refine CJ.out.mono ?_);rintro e wb ⟨rfl,⟨vb,hgb⟩,hbb,hkb⟩;have GB:=Zaa hgb;have XB:=Zaa hbb;have KB:=Zaa (KA.out.trans hkb);have BBB:=Zaa (hkb.box BBA.out (by decide) (by decide));clear hgb hbb hkb)
     clear c0 c1 c2 q0 q1 q2 GA XA KA BBA CJ
     obtain⟨c0,c1,c2⟩:=BBB.out.three
     obtain⟨q0,q1,q2⟩:=CELL1.out wb XB.out
     by_cases h5:ZaE g3
     ·have CJ:=Zaa (ZcF (C1.out wb vb GB.out XB.out h4) h5)
      go_upto_region 42 with(go_at_call 54;(with_reducible refine CJ.out.mono ?_);rintro e wc ⟨rfl,⟨vc,hgc⟩,hbc,hkc⟩;have GC:=Zaa hgc;have XC:=Zaa hbc;have KC:=Zaa (KB.out.trans hkc);clear hgc hbc hkc)
      clear c0 c1 c2 q0 q1 q2 GB XB KB BBB CJ
      have bb1:=Zab wc (.cells #[.int .i64 ((pl:Int)+1)] 3)
      have bb2:=Zab (wc.alloc (.cells #[.int .i64 ((pl:Int)+1)] 3)) (.cells #[.int .i64 q] 3)
      have I1:=Zpk w0.heap.size wc ((pl:Int)+1)
      have I2:=Zpk w0.heap.size (wc.alloc (.cells #[.int .i64 ((pl:Int)+1)] 3)) q
      have CL:=Zaa (Zet 0 ((GC.out.keep bb1).keep bb2) ((XC.out.trans (bb1.mono XC.out.size)).trans (bb2.mono (XC.out.trans (bb1.mono XC.out.size)).size)) (I1.1.keep bb2) I2.1 (I1.2.same I1.1 bb2.size (fun b hb _=>bb2.block b hb)).1 I2.2 h5)
      rw[LK4.out,show(wc.alloc (.cells #[.int .i64 ((pl:Int)+1)] 3)).heap.size=wc.heap.size+1 by simp]at CL
      have KD:=Zaa ((KC.out.trans (Kp.below bb1)).trans (Kp.below bb2))
      clear bb1 bb2 I1 I2
      by_cases h6:ZaE g4
      ·have CK:=Zaa (ZcF CL.out h6)
       have FT6:=Zaa h6
       clear CL
       go_wp2_with (first
        |(go_at_call 99;(with_reducible refine(Zbh _ _).mono ?_);rintro e w1 ⟨rfl,rfl⟩)
        |(go_at_call 100;(with_reducible refine CK.out.mono ?_);rintro e we ⟨rfl,hge,hbe,hke⟩;have GE:=Zaa hge;have XE:=Zaa hbe;have KE:=Zaa (KD.out.trans hke);clear hge hbe hke))
       exact bodyPost_end (v:=.tuple #[]) (by simp[results,Tryz.results54,go_sem]) rfl (.inl ⟨FT6.out,rfl,GE.out,XE.out,KE.out⟩)
      ·have CK:=Zaa (ZcG CL.out h6)
       have NF:=Zaa h6
       clear CL
       go_wp2_with (first
        |(go_at_call 99;(with_reducible refine(Zbh _ _).mono ?_);rintro e w1 ⟨rfl,rfl⟩)
        |(go_at_call 100;(with_reducible refine CK.out.mono ?_);rintro e we ⟨rfl,hbe⟩;have XE:=Zaa hbe;clear hbe))
       exact⟨rfl,.inr ⟨NF.out,rfl,XE.out⟩⟩
     ·have CJ:=Zaa (ZcG (C1.out wb vb GB.out XB.out h4) h5)
      have NF:=Zaa (fun h=>h5 (F3.out h))
      go_wp2_with (go_at_call 54;(with_reducible refine CJ.out.mono ?_);rintro e wc ⟨rfl,hbc⟩;have XC:=Zaa hbc;clear hbc)
      exact⟨rfl,.inr ⟨NF.out,rfl,XC.out⟩⟩
    ·have CJ:=Zaa (ZcG (C0.out wa va GA.out XA.out h3) h4)
     have NF:=Zaa (fun h=>h4 (F2.out (F3.out h)))
     go_wp2_with (go_at_call 54;(with_reducible refine CJ.out.mono ?_);rintro e wc ⟨rfl,hbc⟩;have XC:=Zaa hbc;clear hbc)
     exact⟨rfl,.inr ⟨NF.out,rfl,XC.out⟩⟩
   ·have CK:=Zaa (ZcG CL.out h3)
    have NF:=Zaa (fun h=>h3 (F1.out (F2.out (F3.out h))))
    clear CL
    go_wp2_with (first
     |(go_at_call 99;(with_reducible refine(Zbh _ _).mono ?_);rintro e w1 ⟨rfl,rfl⟩)
     |(go_at_call 100;(with_reducible refine CK.out.mono ?_);rintro e we ⟨rfl,hbe⟩;have XE:=Zaa hbe;clear hbe))
    exact⟨rfl,.inr ⟨NF.out,rfl,XE.out⟩⟩
  ·have P2:=Zaa (fun(w5:World) (hG5:GrW w0.heap.size bg w5 v (more g 1)) (hB5:Below w0.heap.size w0 w5)=>ZdI hG5 hB5 h1 h2)
   have NF:=Zaa (fun h=>h2 (F0.out (F1.out (F2.out (F3.out h)))))
   go_wp2_with (first
    |(go_at_call 101;(with_reducible refine P1.out.mono ?_);rintro e w6 ⟨rfl,hg6,hb6,hk6,_⟩;have G6:=Zaa hg6;have X6:=Zaa hb6;clear hg6 hb6 hk6)
    |(go_at_call 101;(with_reducible refine(P2.out _ G6.out X6.out).mono ?_);rintro e w7 ⟨rfl,hb7⟩;have X7:=Zaa hb7;clear hb7))
   exact⟨rfl,.inr ⟨NF.out,rfl,X7.out⟩⟩
 ·have P1:=Zaa (ZdI GW.out BX.out HFT.out h1)
  have NF:=Zaa (fun h=>h1 (ZhI (F0.out (F1.out (F2.out (F3.out h)))) (by omega)))
  go_wp2_with (go_at_call 101;(with_reducible refine P1.out.mono ?_);rintro e w7 ⟨rfl,hb7⟩;have X7:=Zaa hb7;clear hb7)
  exact⟨rfl,.inr ⟨NF.out,rfl,X7.out⟩⟩
end Go.Proofs.YtfmnagcglhlicaaGreat
