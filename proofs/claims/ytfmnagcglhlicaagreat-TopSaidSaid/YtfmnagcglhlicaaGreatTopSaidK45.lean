/- bench.Tell: what it answers. Conditions: the text is not too long. -/
import Derived.Test.YtfmnagcglhlicaaGreatTopSaidK35
import Derived.Test.YtfmnagcglhlicaaGreatTopSaidK43
import Derived.Test.YtfmnagcglhlicaaGreatTopSaidK44
set_option maxRecDepth 100000
namespace Go.Proofs.YtfmnagcglhlicaaGreat
open Go.RowKit Go.Maps
structure Zt3 where
 err:Int
 line:Int
 text:List UInt8
 verdict:Int
 costs:List Int
def ZpZ (N:Zau)(log:List (List Int))(cs:List Int):Prop:=cs.length=log.length∧∀(k:Nat) t c,log[k]?=some t→cs[k]?=some c→∃e,Zfr N 0 1 t c e
def Zgg (s:List UInt8)(r:Zt3):Prop :=
 if(Zc8 s).2.2≠0 then r=⟨(Zc8 s).2.2,(Zc8 s).2.1,[],0,[]⟩
 else if(ZbP (Zc8 s).1).1≠0 then r=⟨(ZbP (Zc8 s).1).1,0,[],0,[]⟩
 else if(Zch (ZbP (Zc8 s).1).2).2≠0 then r=⟨(Zch (ZbP (Zc8 s).1).2).2,0,Zfs 41 (ZbP (Zc8 s).1).2,0,[]⟩
 else if(Zb0 (Zch (ZbP (Zc8 s).1).2).1 0 1 300).2≠0 then r=⟨(Zb0 (Zch (ZbP (Zc8 s).1).2).1 0 1 300).2,0,Zfs 41 (ZbP (Zc8 s).1).2,0,[]⟩
 else r.err=0∧r.line=0∧r.text=Zfs 41 (ZbP (Zc8 s).1).2∧r.verdict=(Zb0 (Zch (ZbP (Zc8 s).1).2).1 0 1 300).1.1∧ZpZ (Zch (ZbP (Zc8 s).1).2).1 (Zc8 s).1 r.costs
abbrev Zs3 (err line:Int)(text:List UInt8)(verdict:Int)(A:Option Addr)(n c:Nat):Value:=.agg #[.int .i64 err,.int .i64 line,.string ⟨text.toArray⟩,.int .i64 verdict,.slice A n c]
def Zgh (s:List UInt8)(w:World)(e:Ending)(w':World):Prop:=∃(r:Zt3) (A:Option Addr) (n c:Nat),e=.returned (Zs3 r.err r.line r.text r.verdict A n c)∧Zam w' A n c r.costs∧Zgg s r∧Below w.heap.size w w'
theorem Box.fiveR {w:World}{b ty:Nat}{u0 u1 u2 u3 u4:Value}(h:Box w b ty #[u0,u1,u2,u3,u4]):w.cell? ⟨b,0,none⟩=some u0∧w.cell? ⟨b,1,none⟩=some u1∧w.cell? ⟨b,2,none⟩=some u2∧w.cell? ⟨b,3,none⟩=some u3∧w.cell? ⟨b,4,none⟩=some u4:=⟨h.cell 0,h.cell 1,h.cell 2,h.cell 3,h.cell 4⟩
theorem Box.set5R {w:World}{b ty:Nat}{u0 u1 u2 u3 u4:Value}(h:Box w b ty #[u0,u1,u2,u3,u4])(v0 v1 v2 v3 v4:Value):Box (((((w.setCell ⟨b,0,none⟩ v0).setCell ⟨b,1,none⟩ v1).setCell ⟨b,2,none⟩ v2).setCell ⟨b,3,none⟩ v3).setCell ⟨b,4,none⟩ v4) b ty #[v0,v1,v2,v3,v4]:=by
 have:=((((h.set 0 v0).set 1 v1).set 2 v2).set 3 v3).set 4 v4
 simpa using this
theorem Zc5 (w:World)(b:Nat)(v0 v1 v2 v3 v4:Value):w.grownBy (((((w.setCell ⟨b,0,none⟩ v0).setCell ⟨b,1,none⟩ v1).setCell ⟨b,2,none⟩ v2).setCell ⟨b,3,none⟩ v3).setCell ⟨b,4,none⟩ v4) (some b) :=
 ((ZeI w b v0 v1 v2).trans (Zbs _ b 3 v3)).trans (Zbs _ b 4 v4)
theorem Zn7 {w:World}{B B2 n c:Nat}{A:Option Addr}{xs:List (List Int)}(h:Zad (ZaY B) 1 w B2 28 (.slice A n c) n xs)(hn:xs.length≤1048576):ZaS w A n c xs:=by
 obtain⟨cells,o,r,hl⟩:=h
 have h2:Zad ZaL 1 w B2 28 (.slice A n c) n xs:=⟨cells,o,⟨r.1,fun i x hx=>by obtain⟨vs,a,b⟩:=r.2 i x hx;exact⟨vs,a,b.list⟩⟩,hl⟩
 subst hl
 obtain⟨A',c',e,hi⟩:=h2.sl (by omega)
 injection e with e1 _ e3
 subst e1 e3
 exact hi
theorem Zp0 {log:List (List Int)}(h:(ZbP log).1=0):Za6 log=0∧ZbX (ZbP log).2=0:=by
 unfold ZbP at h ⊢
 split at h
 ·rename_i h1;exact absurd h h1
 ·rename_i h1
  rw[if_neg h1]
  split at h
  ·rename_i h2;exact absurd h h2
  ·rename_i h2
   rw[if_neg h2]
   exact⟨Classical.not_not.1 h1,Classical.not_not.1 h2⟩
theorem Zrr {b:Zat}(h:(Zch b).2=0):(Zch b).1.trans.length≤24:=by
 unfold Zch at h ⊢
 split at h
 ·rename_i h1
  rw[if_pos h1]
  split at h
  ·rename_i h2
   rw[if_pos h2]
   simp only[ZsZ,List.length_map]
   exact h2.2
  ·cases h
 ·rename_i h1;exact absurd h h1
theorem Zrs {s:List UInt8}:(Zc8 s).1.length≤s.length:=by
 have key:∀(r:List UInt8) (out:List (List Int)) (now:List Int),(Zle r out now).1.length≤out.length+r.length:=by
  intro r
  induction r with
  | nil=>intro out now;rw[Zle];split <;> simp
  | cons c r ih =>
   intro out now
   rw[Zle]
   split
   ·have:=ih (out++[now]) []
    simp at this ⊢
    omega
   ·split
    ·have:=ih out (now++[Zld c])
     simp at this ⊢
     omega
    ·simp
 have:=key s [] []
 simpa [Zc8] using this
set_option maxHeartbeats 16000000 in
theorem Zn8 (s:List UInt8)(hs:s.length≤1048576)(w:World):Calls Tryz.prog 17 #[.string ⟨s.toArray⟩] w (Zgh s w):=by
 have B0:=Zaa (Zab w (.cells #[.int .i64 0,.int .i64 0,.string ⟨#[]⟩,.int .i64 0,.slice none 0 0] 64))
 have X0:=Zaa (Box.new w #[.int .i64 0,.int .i64 0,.string ⟨#[]⟩,.int .i64 0,.slice none 0 0] 64)
 have HS:=Zaa hs
 clear hs
 go_enter Tryz.func17,Tryz.ntmps17
 go_upto_region 1 with fail
 generalize w.alloc (.cells #[.int .i64 0,.int .i64 0,.string ⟨#[]⟩,.int .i64 0,.slice none 0 0] 64)=w1 at *
 have W1:=Zaa X0.out.lt
 have CL:=Zaa (ZpW s HS.out w1)
 go_wp2_with fail
 refine CL.out.mono ?_
 rintro e w2 ⟨A,n,c,rfl,own,hb2⟩
 have HLe:=Zaa (show(Zc8 s).1.length≤1048576 from Nat.le_trans Zrs HS.out)
 have LL:=Zaa (Zn7 own HLe.out)
 have D2:=Zaa (B0.out.trans (hb2.mono B0.out.size))
 have X2:=Zaa (X0.out.keep hb2)
 have W2:=Zaa (Nat.lt_of_lt_of_le W1.out hb2.size)
 obtain⟨lin,hlin⟩:∃x,x=(Zc8 s).2.1:=⟨_,rfl⟩
 obtain⟨ler,hler⟩:∃x,x=(Zc8 s).2.2:=⟨_,rfl⟩
 rw[←hlin,←hler]
 have HL:=Zaa (And.intro hlin hler)
 clear own hb2 CL hlin hler
 by_cases h1:ler=0
 ·have h1i:(ler != 0)=false:=by simp[h1]
  have E1:=Zaa (show ¬(Zc8 s).2.2≠0 by rw[←HL.out.2,h1];exact fun h=>h rfl)
  have CM:=Zaa (Zkm LL.out)
  clear h1
  go_wp2_with fail
  refine CM.out.mono ?_
  rintro e w3 ⟨v3,rfl,⟨A3,n3,c3,rfl,s3⟩,hb3⟩
  have BV:=Zaa (show Zhr 62 w3 A3 n3 c3 (ZbP (Zc8 s).1).2.kids from s3)
  obtain⟨B,hB⟩:∃B,B=(ZbP (Zc8 s).1).2:=⟨_,rfl⟩
  rw[←hB]at BV
  rw[←hB]
  have HBq:=Zaa hB
  obtain⟨kd,lb,ks⟩:=B
  simp only[Zat.kids]at BV
  simp only[Zat.kind,Zat.label]
  obtain⟨mer,hmer⟩:∃x,x=(ZbP (Zc8 s).1).1:=⟨_,rfl⟩
  rw[←hmer]
  have HM:=Zaa hmer
  have B4:=Zaa (Zab w3 (.cells #[.int .i64 kd,.int .i64 lb,.slice A3 n3 c3] 71))
  have T6:=Zaa (Box.new w3 #[.int .i64 kd,.int .i64 lb,.slice A3 n3 c3] 71)
  have BV4:=Zaa (Zhr.keep BV.out B4.out)
  have H24:=Zaa (hb3.trans (B4.out.mono hb3.size))
  have X4:=Zaa (X2.out.keep H24.out)
  have D4:=Zaa (D2.out.trans (H24.out.mono D2.out.size))
  have LL4:=Zaa (Sl.keep ZaL.kept LL.out H24.out)
  have W4:=Zaa (Nat.lt_of_lt_of_le W2.out H24.out.size)
  clear s3 hb3 hB hmer CM BV
  go_upto_region 5 with fail
  generalize w3.alloc (.cells #[.int .i64 kd,.int .i64 lb,.slice A3 n3 c3] 71)=w4 at *
  generalize w3.heap.size=b6 at T6
  by_cases h2:mer=0
  ·have h2i:(mer != 0)=false:=by simp[h2]
   have E2:=Zaa (show ¬(ZbP (Zc8 s).1).1≠0 by rw[←HM.out,h2];exact fun h=>h rfl)
   have FIN:=Zaa (Zp0 (Classical.not_not.1 E2.out))
   have HW:=Zaa (show(ZaR 41 (.mk kd lb ks) 0).2=0 from by have:=FIN.out.2;rw[←HBq.out]at this;exact this)
   have CW:=Zaa (ZhW 41 62 kd lb A3 n3 c3 ks w4 0 BV4.out HW.out)
   obtain⟨t0,t1,t2⟩:=T6.out.three
   clear h2
   go_wp2_with fail
   refine CW.out.mono ?_
   rintro e w5 ⟨rfl,hb5⟩
   obtain⟨tx,htx⟩:∃x,x=Zfs 41 (.mk kd lb ks):=⟨_,rfl⟩
   rw[←htx]
   have HTX:=Zaa (show tx=Zfs 41 (ZbP (Zc8 s).1).2 by rw[htx,HBq.out])
   have B6:=Zaa (Zab w5 (.cells #[.int .i64 0,.int .i64 0,.string ⟨tx.toArray⟩,.int .i64 0,.slice none 0 0] 64))
   have T7:=Zaa (Box.new w5 #[.int .i64 0,.int .i64 0,.string ⟨tx.toArray⟩,.int .i64 0,.slice none 0 0] 64)
   have H46:=Zaa (hb5.trans (B6.out.mono hb5.size))
   have BV6:=Zaa (Zhr.keep BV4.out H46.out)
   have X6:=Zaa (X4.out.keep H46.out)
   have D6:=Zaa (D4.out.trans (H46.out.mono D4.out.size))
   have LL6:=Zaa (Sl.keep ZaL.kept LL4.out H46.out)
   have W6:=Zaa (Nat.lt_of_lt_of_le W4.out H46.out.size)
   have T66:=Zaa (T6.out.keep H46.out)
   have W7:=Zaa (show w5.heap.size<(w5.alloc (.cells #[.int .i64 0,.int .i64 0,.string ⟨tx.toArray⟩,.int .i64 0,.slice none 0 0] 64)).heap.size from T7.out.lt)
   have LL5:=Zaa (Sl.keep ZaL.kept LL4.out hb5)
   have B56:=Zaa B6.out
   have WB7:=Zaa (show w.heap.size<w5.heap.size from Nat.lt_of_lt_of_le W4.out hb5.size)
   clear hb5 htx CW t0 t1 t2
   go_upto_region 8 with fail
   generalize w5.alloc (.cells #[.int .i64 0,.int .i64 0,.string ⟨tx.toArray⟩,.int .i64 0,.slice none 0 0] 64)=w6 at *
   obtain⟨b7,hb7q⟩:∃x,x=w5.heap.size:=⟨_,rfl⟩
   rw[←hb7q]at T7 W7 WB7
   rw[←hb7q]
   have HB7:=Zaa hb7q
   clear hb7q
   obtain⟨t0,t1,t2⟩:=T66.out.three
   have CG:=Zaa (ZhL (kd:=kd) (lb:=lb) BV6.out)
   go_wp2_with fail
   refine CG.out.mono ?_
   rintro e w7 ⟨A7,n7,c7,rfl,tr7,own7,hb7⟩
   obtain⟨N,hN⟩:∃x,x=(Zch (.mk kd lb ks)).1:=⟨_,rfl⟩
   obtain⟨ger,hger⟩:∃x,x=(Zch (.mk kd lb ks)).2:=⟨_,rfl⟩
   rw[←hN,←hger]at own7
   rw[←hN]at tr7
   rw[←hN,←hger]
   have HG:=Zaa (show N=(Zch (ZbP (Zc8 s).1).2).1∧ger=(Zch (ZbP (Zc8 s).1).2).2 by rw[←HBq.out];exact⟨hN,hger⟩)
   have B8:=Zaa (Zab w7 (.cells #[.int .i64 N.places,.slice A7 n7 c7] 24))
   have T8:=Zaa (Box.new w7 #[.int .i64 N.places,.slice A7 n7 c7] 24)
   have H68:=Zaa (hb7.trans (B8.out.mono hb7.size))
   have TR8:=Zaa (tr7.keep B8.out)
   have X8:=Zaa (X6.out.keep H68.out)
   have D8:=Zaa (D6.out.trans (H68.out.mono D6.out.size))
   have LL8:=Zaa (Sl.keep ZaL.kept LL6.out H68.out)
   have T78:=Zaa (T7.out.keep H68.out)
   have B58:=Zaa (B56.out.trans (H68.out.mono B56.out.size))
   have OW8:=Zaa (fun h=>Zad.keep (Zaw.kept _) (own7 h) B8.out)
   have W78:=Zaa (show b7<w7.heap.size from Nat.lt_of_lt_of_le W7.out hb7.size)
   clear tr7 own7 hb7 hN hger CG t0 t1 t2
   go_upto_region 9 with fail
   generalize w7.alloc (.cells #[.int .i64 N.places,.slice A7 n7 c7] 24)=w8 at *
   generalize w7.heap.size=b8 at T8 W78
   by_cases h3:ger=0
   ·have h3i:(ger != 0)=false:=by simp[h3]
    have E3:=Zaa (show ¬(Zch (ZbP (Zc8 s).1).2).2≠0 by rw[←HG.out.2,h3];exact fun h=>h rfl)
    have H30:=Zaa h3
    have HFEW:=Zaa (show n7≤24 from by have:=Zrr (Classical.not_not.1 E3.out);rw[←HG.out.1,TR8.out.len]at this;exact this)
    have CJ:=Zaa (ZhR (P:=N.places) 0 1 300 TR8.out (by have:=HFEW.out;omega))
    have HNE:=Zaa (show(⟨N.places,N.trans⟩:Zau)=N from rfl)
    rw[HNE.out]at CJ
    obtain⟨t0,t1⟩:=T8.out.two
    clear h3
    go_wp2_with fail
    refine CJ.out.mono ?_
    rintro e w9 ⟨A9,n9,c9,rfl,i9,hb9⟩
    obtain⟨jv,hjv⟩:∃x,x=(Zb0 N 0 1 300).1.1:=⟨_,rfl⟩
    obtain⟨jt,hjt⟩:∃x,x=(Zb0 N 0 1 300).1.2.2:=⟨_,rfl⟩
    obtain⟨jer,hjer⟩:∃x,x=(Zb0 N 0 1 300).2:=⟨_,rfl⟩
    rw[←hjv,←hjt,←hjer]
    have HJ:=Zaa (show jv=(Zb0 (Zch (ZbP (Zc8 s).1).2).1 0 1 300).1.1∧jer=(Zb0 (Zch (ZbP (Zc8 s).1).2).1 0 1 300).2 by rw[←HG.out.1];exact⟨hjv,hjer⟩)
    have B10:=Zaa (Zab w9 (.cells #[.int .i64 jv,.slice A9 n9 c9,.int .i64 jt] 56))
    have T9:=Zaa (Box.new w9 #[.int .i64 jv,.slice A9 n9 c9,.int .i64 jt] 56)
    have H810:=Zaa (hb9.trans (B10.out.mono hb9.size))
    have TR10:=Zaa (TR8.out.keep H810.out)
    have X10:=Zaa (X8.out.keep H810.out)
    have D10:=Zaa (D8.out.trans (H810.out.mono D8.out.size))
    have LL10:=Zaa (Sl.keep ZaL.kept LL8.out H810.out)
    have T710:=Zaa (T78.out.keep H810.out)
    have B510:=Zaa (B58.out.trans (H810.out.mono B58.out.size))
    have T810:=Zaa (T8.out.keep H810.out)
    have W10:=Zaa (Nat.lt_of_lt_of_le T78.out.lt H810.out.size)
    have OW10:=Zaa (Zad.keep (Zaw.kept _) (OW8.out H30.out) H810.out)
    clear i9 hb9 hjv hjt hjer CJ t0 t1
    go_upto_region 13 with fail
    generalize w9.alloc (.cells #[.int .i64 jv,.slice A9 n9 c9,.int .i64 jt] 56)=w10 at *
    generalize w9.heap.size=b9 at T9
    by_cases h4:jer=0
    ·have h4i:(jer != 0)=false:=by simp[h4]
     have E4:=Zaa (show ¬(Zb0 (Zch (ZbP (Zc8 s).1).2).1 0 1 300).2≠0 by rw[←HJ.out.2,h4];exact fun h=>h rfl)
     clear h4
     have t0:=T9.out.cell 0
     obtain⟨v0,v1,v2,v3,v4⟩:=Box.fiveR T710.out
     have fy:=T710.out.frozen 3
     have GX:=Zbs w10 b7 3 (.int .i64 jv)
     have T7x:=Zaa (show Box (w10.setCell ⟨b7,3,none⟩ (.int .i64 jv)) b7 64 #[.int .i64 0,.int .i64 0,.string ⟨tx.toArray⟩,.int .i64 jv,.slice none 0 0]from by have:=T710.out.set 3 (.int .i64 jv);simpa using this)
     have XX:=Zaa (X10.out.grown GX (fun e=>by injection e with e;have:=WB7.out;omega))
     have T8x:=Zaa (T810.out.grown GX (fun e=>by injection e with e;have:=W78.out;omega))
     have DX:=Zaa (D10.out.grown GX D10.out.size (fun q hq=>by injection hq with hq;have:=WB7.out;omega))
     have B5x:=Zaa (B510.out.grown GX B510.out.size (fun q hq=>by injection hq with hq;have:=HB7.out;omega))
     have OWx:=Zaa (ZcB (j:=3) (u:=.int .i64 jv) OW10.out W7.out).out
     have SZx:=Zaa (show b7<(w10.setCell ⟨b7,3,none⟩ (.int .i64 jv)).heap.size from T7x.out.lt)
     clear GX
     go_upto_region 17 with fail
     clear v0 v1 v2 v3 v4 fy t0
     generalize hwL:w10.setCell ⟨b7,3,none⟩ (.int .i64 jv)=wL at *
     clear hwL
     have HLEN:=Zaa (show(Zc8 s).1.length=n∧n≤60 from⟨LL.out.len,by rw[←LL.out.len];exact(Zby.1 FIN.out.1).1⟩)
     go_wp2
     go_loopg [63] n (fun gk s63 wr=>∃(k:Nat) (v:Value) (cs:List Int),s63=.int .i64 (k:Nat)∧Hid (k+gk=n)∧Hid (Zaf wr wL.heap.size v k cs)∧Hid (ZpZ N ((Zc8 s).1.take k) cs)∧Hid (wL.grownBy wr (some b7))∧Hid (Box wr b7 64 #[.int .i64 0,.int .i64 0,.string ⟨tx.toArray⟩,.int .i64 jv,v]))
     case atStart=>exact⟨0,_,[],rfl,Zaa (by omega),Zaa Zad.nil,Zaa ⟨rfl,fun k t c h=>by simp at h⟩,Zaa ⟨rfl,rfl,rfl,Nat.le_refl _,fun _ _ _=>rfl⟩,T7x⟩
     case round =>
      clear T7x
      obtain⟨k,v,cs,rfl,hgk,OB,CP,GR,TX⟩:=hrel
      obtain⟨AV,cV,rfl,iv⟩:=OB.out.sl (by have:=hgk.out;have:=HLEN.out;omega)
      have IV:=Zaa iv
      have XR:=Zaa (XX.out.grown GR.out (fun e=>by injection e with e;have:=WB7.out;omega))
      have DR:=Zaa (DX.out.grown GR.out DX.out.size (fun q hq=>by injection hq with hq;have:=WB7.out;omega))
      clear iv
      by_cases hk:k<n
      ·have hki:(k:Int)<(n:Int):=by omega
       have LLr:=Zaa (Sl.keep ZaL.kept LL5.out (B5x.out.grown GR.out B5x.out.size (fun q hq=>by injection hq with hq;have:=HB7.out;omega)))
       obtain⟨bb,offb,t,Bt,mt,dt,eA,hbb,htx2,q0,it,hmt⟩:=ZaS.get LLr.out hk
       subst eA
       have HJ2:=Zaa (show gk-1<gk∧(k+1)+(gk-1)=n∧k≤60 by have:=hgk.out;have:=HLEN.out;omega)
       have hwk:IntKind.i64.wrap ((k:Int)+1)=((k+1:Nat):Int):=by
        have:=HJ2.out
        simp[IntKind.wrap,IntKind.bits,IntKind.signed];omega
       have OWr:=Zaa (Zad.kept OWx.out GR.out (.inr (fun e=>by have:=(OWx.out.lt _ e).1;have:=W7.out;omega)) (fun vs x hx=>hx.far GR.out W7.out))
       have TRr:=Zaa (show ZaP wr A7 n7 c7 N.trans from by
        obtain⟨C',c2,hv,hs⟩:=OWr.out.sl (by have:=HFEW.out;omega)
        injection hv with e1 e2 e3
        subst e1 e3
        exact hs.imp (fun _ _ h=>h.tran))
       have T8r:=Zaa (T8x.out.grown GR.out (fun e=>by injection e with e;have:=W78.out;omega))
       have CA:=Zaa (ZhU (P:=N.places) 0 1 TRr.out (by have:=HFEW.out;omega) it)
       obtain⟨z0,z1⟩:=T8r.out.two
       clear hbb it hmt hk
       go_wp2_with fail
       refine CA.out.mono ?_
       rintro e wq ⟨Aa,na,ca,cst,kk,rfl,hcp,_,hbq⟩
       have HCP:=Zaa (show Zfr N 0 1 t cst kk from hcp)
       have TXq:=Zaa (TX.out.keep hbq)
       have OBq:=Zaa (Zad.keep ZcE.kept OB.out hbq)
       have GRq:=Zaa (show wL.grownBy wq (some b7)from⟨hbq.os.trans GR.out.os,hbq.tape.trans GR.out.tape,hbq.output.trans GR.out.output,Nat.le_trans GR.out.size hbq.size,fun q hq hne=>(hbq.block q (Nat.lt_of_lt_of_le hq GR.out.size)).trans (GR.out.block q hq hne)⟩)
       have hB:wL.heap.size≤wq.heap.size:=Nat.le_trans GR.out.size hbq.size
       have h24:(k+1)*8≤140737488355328:=by have:=HJ2.out;omega
       have h26:k+1≤281474976710656:=by omega
       have hne:(Value.slice AV k cV).ownBlock≠some b7:=fun e=>by have:=(OB.out.lt _ e).1;have:=SZx.out;omega
       have CPn:=Zaa (show ZpZ N ((Zc8 s).1.take (k+1)) (cs++[cst])from by
        refine⟨by rw[List.length_append,CP.out.1,List.take_add_one,htx2.out];simp,fun j t' c' h1 h2=>?_⟩
        rw[List.take_add_one,htx2.out]at h1
        have hl:((Zc8 s).1.take k).length=cs.length:=CP.out.1.symm
        by_cases hj:j<cs.length
        ·rw[List.getElem?_append_left (by omega)]at h1
         rw[List.getElem?_append_left hj]at h2
         exact CP.out.2 j t' c' h1 h2
        ·have hj2:j=cs.length:=by have:=(List.getElem?_eq_some_iff.1 h2).1;simp at this;omega
         subst hj2
         rw[List.getElem?_append_right (by omega),hl,Nat.sub_self]at h1
         rw[List.getElem?_append_right (by omega),Nat.sub_self]at h2
         simp at h1 h2
         subst h1 h2
         exact⟨kk,HCP.out⟩)
       obtain⟨y0,y1,y2,y3,y4⟩:=Box.fiveR TXq.out
       have RD:=Zaa (show Zax ZcE 1 wq [.int .i64 cst] [cst]from Zax.one (vs:=fun _=>.int .i64 cst) rfl rfl (fun j hj=>by obtain rfl:j=0:=(by omega);rfl))
       clear hcp hbq CA z0 z1 q0
       go_wp2_with (at_builtin;refine Zcg (v:=.slice AV k cV) Zdc rfl _ _ rfl [cst] #[.int .i64 cst] rfl rfl rfl rfl (by simp[Value.oneCell']) OBq.out RD.out rfl hB h26 h24 (fun _ _ _ _ h=>h) ?_;intro v8 w8 own8 hg8 hl8;obtain⟨A8,c8,rfl,_⟩:=own8.sl (by omega);have O8:=Zaa own8;have TX8:=Zaa (TXq.out.grown hg8 hne);have G8:=Zaa (show wL.grownBy w8 (some b7)from⟨hg8.os.trans GRq.out.os,hg8.tape.trans GRq.out.tape,hg8.output.trans GRq.out.output,Nat.le_trans GRq.out.size hg8.size,fun q hq hqn=>(hg8.block q (Nat.lt_of_lt_of_le hq GRq.out.size) (fun e=>by have:=(OB.out.lt q e.symm).1;omega)).trans (GRq.out.block q hq hqn)⟩);have y84:=TX8.out.cell 4;have fy:=TX8.out.frozen 4;clear own8 hg8 hl8)
       have GG:=Zbs w8 b7 4 (.slice A8 (k+1) c8)
       have O9:=Zaa (show Zaf (w8.setCell ⟨b7,4,none⟩ (.slice A8 (k+1) c8)) wL.heap.size (.slice A8 (k+1) c8) (k+1) (cs++[cst])from by
        refine Zad.kept O8.out GG ?_ (fun _ _ h=>h)
        cases hv:(Value.slice A8 (k+1) c8).ownBlock with
        | none=>exact .inl rfl
        | some q=>exact .inr (fun e=>by injection e with e;have:=(O8.out.lt q hv).1;have:=SZx.out;omega))
       have G9:=Zaa (show wL.grownBy (w8.setCell ⟨b7,4,none⟩ (.slice A8 (k+1) c8)) (some b7)from ZrW G8.out GG)
       have T9x:=Zaa (show Box (w8.setCell ⟨b7,4,none⟩ (.slice A8 (k+1) c8)) b7 64 #[.int .i64 0,.int .i64 0,.string ⟨tx.toArray⟩,.int .i64 jv,.slice A8 (k+1) c8]from by have:=TX8.out.set 4 (.slice A8 (k+1) c8);simpa using this)
       clear GG
       go_roundg (gk-1)
       case measure=>exact HJ2.out.1
       case rel=>exact⟨k+1,.slice A8 (k+1) c8,cs++[cst],rfl,Zaa HJ2.out.2.1,O9,CPn,G9,T9x⟩
      ·have hki:¬(k:Int)<(n:Int):=by omega
       have EQ:=Zaa (show Zgg s ⟨0,0,tx,jv,cs⟩from by
        have h1:=CP.out
        rw[List.take_of_length_le (by rw[HLEN.out.1];omega)]at h1
        unfold Zgg
        rw[if_neg E1.out,if_neg E2.out,if_neg E3.out,if_neg E4.out]
        exact⟨rfl,rfl,HTX.out,HJ.out.1,by rw[←HG.out.1];exact h1⟩)
       obtain⟨t0,t1,t2,t3,t4⟩:=Box.fiveR TX.out
       have IK:=Zaa (show ∀w',wr.grownBy w' (some w.heap.size)→Zam w' AV k cV cs from fun w' hg=>Zam.keepRow IV.out hg (.inr (fun e=>by have:=(OB.out.lt _ e.symm).1;have:=SZx.out;have:=WB7.out;omega)))
       clear hk
       obtain⟨u0,u1,u2,u3,u4⟩:=Box.fiveR XR.out
       have fz:=fun q=>XR.out.frozen q
       have GG:=Zc5 wr w.heap.size (.int .i64 0) (.int .i64 0) (.string ⟨tx.toArray⟩) (.int .i64 jv) (.slice AV k cV)
       have WX:=Zaa (Box.set5R XR.out (.int .i64 0) (.int .i64 0) (.string ⟨tx.toArray⟩) (.int .i64 jv) (.slice AV k cV))
       have WD:=Zaa (DR.out.grown GG DR.out.size (fun q hq=>by injection hq with hq;omega))
       have WI:=Zaa (show Zam (((((wr.setCell ⟨w.heap.size,0,none⟩ (.int .i64 0)).setCell ⟨w.heap.size,1,none⟩ (.int .i64 0)).setCell ⟨w.heap.size,2,none⟩ (.string ⟨tx.toArray⟩)).setCell ⟨w.heap.size,3,none⟩ (.int .i64 jv)).setCell ⟨w.heap.size,4,none⟩ (.slice AV k cV)) AV k cV cs from IK.out _ GG)
       clear GG
       go_wp2
       generalize (((((wr.setCell ⟨w.heap.size,0,none⟩ (.int .i64 0)).setCell ⟨w.heap.size,1,none⟩ (.int .i64 0)).setCell ⟨w.heap.size,2,none⟩ (.string ⟨tx.toArray⟩)).setCell ⟨w.heap.size,3,none⟩ (.int .i64 jv)).setCell ⟨w.heap.size,4,none⟩ (.slice AV k cV))=ww at *
       obtain⟨z0,z1,z2,z3,z4⟩:=Box.fiveR WX.out
       exact bodyPost_ret (v:=.agg #[.int .i64 0,.int .i64 0,.string ⟨tx.toArray⟩,.int .i64 jv,.slice AV k cV]) (by simp[results,Tryz.results17,go_sem,z0,z1,z2,z3,z4]) rfl ((fun w' hi hw=>(⟨⟨0,0,tx,jv,cs⟩,AV,k,cV,rfl,hi,EQ.out,hw⟩:Zgh s w (.returned (Zs3 0 0 tx jv AV k cV)) w')) ww WI.out WD.out)
    ·have h4i:(jer != 0)=true:=by simp[h4]
     have EQ:=Zaa (show Zgg s ⟨jer,0,tx,0,[]⟩ by unfold Zgg;rw[if_neg E1.out,if_neg E2.out,if_neg E3.out,if_pos (by rw[←HJ.out.2];exact h4),HTX.out,HJ.out.2])
     clear h4
     obtain⟨t0,t1,t2,t3,t4⟩:=Box.fiveR T710.out
     have fy:=T710.out.frozen 0
     have GX:=Zbs w10 b7 0 (.int .i64 jer)
     have T7x:=Zaa (show Box (w10.setCell ⟨b7,0,none⟩ (.int .i64 jer)) b7 64 #[.int .i64 jer,.int .i64 0,.string ⟨tx.toArray⟩,.int .i64 0,.slice none 0 0]from by have:=T710.out.set 0 (.int .i64 jer);simpa using this)
     have XX:=Zaa (X10.out.grown GX (fun e=>by injection e with e;have:=WB7.out;omega))
     have DX:=Zaa (D10.out.grown GX D10.out.size (fun q hq=>by injection hq with hq;have:=WB7.out;omega))
     clear GX
     go_upto_region 15 with fail
     clear t0 t1 t2 t3 t4 fy
     generalize w10.setCell ⟨b7,0,none⟩ (.int .i64 jer)=wx at *
     obtain⟨t0,t1,t2,t3,t4⟩:=Box.fiveR T7x.out
     have IK:=Zaa (show ∀w',wx.grownBy w' (some w.heap.size)→Zam w' none 0 0 []from fun w' _=>Sl.nil0)
     obtain⟨u0,u1,u2,u3,u4⟩:=Box.fiveR XX.out
     have fz:=fun q=>XX.out.frozen q
     have GG:=Zc5 wx w.heap.size (.int .i64 jer) (.int .i64 0) (.string ⟨tx.toArray⟩) (.int .i64 0) (.slice none 0 0)
     have WX:=Zaa (Box.set5R XX.out (.int .i64 jer) (.int .i64 0) (.string ⟨tx.toArray⟩) (.int .i64 0) (.slice none 0 0))
     have WD:=Zaa (DX.out.grown GG DX.out.size (fun q hq=>by injection hq with hq;omega))
     have WI:=Zaa (show Zam (((((wx.setCell ⟨w.heap.size,0,none⟩ (.int .i64 jer)).setCell ⟨w.heap.size,1,none⟩ (.int .i64 0)).setCell ⟨w.heap.size,2,none⟩ (.string ⟨tx.toArray⟩)).setCell ⟨w.heap.size,3,none⟩ (.int .i64 0)).setCell ⟨w.heap.size,4,none⟩ (.slice none 0 0)) none 0 0 []from IK.out _ GG)
     clear GG
     go_wp2
     generalize (((((wx.setCell ⟨w.heap.size,0,none⟩ (.int .i64 jer)).setCell ⟨w.heap.size,1,none⟩ (.int .i64 0)).setCell ⟨w.heap.size,2,none⟩ (.string ⟨tx.toArray⟩)).setCell ⟨w.heap.size,3,none⟩ (.int .i64 0)).setCell ⟨w.heap.size,4,none⟩ (.slice none 0 0))=ww at *
     obtain⟨z0,z1,z2,z3,z4⟩:=Box.fiveR WX.out
     exact bodyPost_ret (v:=.agg #[.int .i64 jer,.int .i64 0,.string ⟨tx.toArray⟩,.int .i64 0,.slice none 0 0]) (by simp[results,Tryz.results17,go_sem,z0,z1,z2,z3,z4]) rfl ((fun w' _ hw=>(⟨⟨jer,0,tx,0,[]⟩,none,0,0,rfl,Sl.nil0,EQ.out,hw⟩:Zgh s w (.returned (Zs3 (jer) (0) (tx) (0) none 0 0)) w')) ww WI.out WD.out)
   ·have h3i:(ger != 0)=true:=by simp[h3]
    have EQ:=Zaa (show Zgg s ⟨ger,0,tx,0,[]⟩ by unfold Zgg;rw[if_neg E1.out,if_neg E2.out,if_pos (by rw[←HG.out.2];exact h3),HTX.out,HG.out.2])
    clear h3
    obtain⟨t0,t1,t2,t3,t4⟩:=Box.fiveR T78.out
    have fy:=T78.out.frozen 0
    have GX:=Zbs w8 b7 0 (.int .i64 ger)
    have T7x:=Zaa (show Box (w8.setCell ⟨b7,0,none⟩ (.int .i64 ger)) b7 64 #[.int .i64 ger,.int .i64 0,.string ⟨tx.toArray⟩,.int .i64 0,.slice none 0 0]from by have:=T78.out.set 0 (.int .i64 ger);simpa using this)
    have XX:=Zaa (X8.out.grown GX (fun e=>by injection e with e;have:=WB7.out;omega))
    have DX:=Zaa (D8.out.grown GX D8.out.size (fun q hq=>by injection hq with hq;have:=WB7.out;omega))
    clear GX
    go_upto_region 11 with fail
    clear t0 t1 t2 t3 t4 fy
    generalize w8.setCell ⟨b7,0,none⟩ (.int .i64 ger)=wx at *
    obtain⟨t0,t1,t2,t3,t4⟩:=Box.fiveR T7x.out
    have IK:=Zaa (show ∀w',wx.grownBy w' (some w.heap.size)→Zam w' none 0 0 []from fun w' _=>Sl.nil0)
    obtain⟨u0,u1,u2,u3,u4⟩:=Box.fiveR XX.out
    have fz:=fun q=>XX.out.frozen q
    have GG:=Zc5 wx w.heap.size (.int .i64 ger) (.int .i64 0) (.string ⟨tx.toArray⟩) (.int .i64 0) (.slice none 0 0)
    have WX:=Zaa (Box.set5R XX.out (.int .i64 ger) (.int .i64 0) (.string ⟨tx.toArray⟩) (.int .i64 0) (.slice none 0 0))
    have WD:=Zaa (DX.out.grown GG DX.out.size (fun q hq=>by injection hq with hq;omega))
    have WI:=Zaa (show Zam (((((wx.setCell ⟨w.heap.size,0,none⟩ (.int .i64 ger)).setCell ⟨w.heap.size,1,none⟩ (.int .i64 0)).setCell ⟨w.heap.size,2,none⟩ (.string ⟨tx.toArray⟩)).setCell ⟨w.heap.size,3,none⟩ (.int .i64 0)).setCell ⟨w.heap.size,4,none⟩ (.slice none 0 0)) none 0 0 []from IK.out _ GG)
    clear GG
    go_wp2
    generalize (((((wx.setCell ⟨w.heap.size,0,none⟩ (.int .i64 ger)).setCell ⟨w.heap.size,1,none⟩ (.int .i64 0)).setCell ⟨w.heap.size,2,none⟩ (.string ⟨tx.toArray⟩)).setCell ⟨w.heap.size,3,none⟩ (.int .i64 0)).setCell ⟨w.heap.size,4,none⟩ (.slice none 0 0))=ww at *
    obtain⟨z0,z1,z2,z3,z4⟩:=Box.fiveR WX.out
    exact bodyPost_ret (v:=.agg #[.int .i64 ger,.int .i64 0,.string ⟨tx.toArray⟩,.int .i64 0,.slice none 0 0]) (by simp[results,Tryz.results17,go_sem,z0,z1,z2,z3,z4]) rfl ((fun w' _ hw=>(⟨⟨ger,0,tx,0,[]⟩,none,0,0,rfl,Sl.nil0,EQ.out,hw⟩:Zgh s w (.returned (Zs3 (ger) (0) (tx) (0) none 0 0)) w')) ww WI.out WD.out)
  ·have h2i:(mer != 0)=true:=by simp[h2]
   have EQ:=Zaa (show Zgg s ⟨mer,0,[],0,[]⟩ by unfold Zgg;rw[if_neg E1.out,if_pos (by rw[←HM.out];exact h2),HM.out])
   clear h2
   have IK:=Zaa (show ∀w',w4.grownBy w' (some w.heap.size)→Zam w' none 0 0 []from fun w' _=>Sl.nil0)
   obtain⟨u0,u1,u2,u3,u4⟩:=Box.fiveR X4.out
   have fz:=fun q=>X4.out.frozen q
   have GG:=Zc5 w4 w.heap.size (.int .i64 mer) (.int .i64 0) (.string ⟨#[]⟩) (.int .i64 0) (.slice none 0 0)
   have WX:=Zaa (Box.set5R X4.out (.int .i64 mer) (.int .i64 0) (.string ⟨#[]⟩) (.int .i64 0) (.slice none 0 0))
   have WD:=Zaa (D4.out.grown GG D4.out.size (fun q hq=>by injection hq with hq;omega))
   have WI:=Zaa (show Zam (((((w4.setCell ⟨w.heap.size,0,none⟩ (.int .i64 mer)).setCell ⟨w.heap.size,1,none⟩ (.int .i64 0)).setCell ⟨w.heap.size,2,none⟩ (.string ⟨#[]⟩)).setCell ⟨w.heap.size,3,none⟩ (.int .i64 0)).setCell ⟨w.heap.size,4,none⟩ (.slice none 0 0)) none 0 0 []from IK.out _ GG)
   clear GG
   go_wp2
   generalize (((((w4.setCell ⟨w.heap.size,0,none⟩ (.int .i64 mer)).setCell ⟨w.heap.size,1,none⟩ (.int .i64 0)).setCell ⟨w.heap.size,2,none⟩ (.string ⟨#[]⟩)).setCell ⟨w.heap.size,3,none⟩ (.int .i64 0)).setCell ⟨w.heap.size,4,none⟩ (.slice none 0 0))=ww at *
   obtain⟨z0,z1,z2,z3,z4⟩:=Box.fiveR WX.out
   exact bodyPost_ret (v:=.agg #[.int .i64 mer,.int .i64 0,.string ⟨#[]⟩,.int .i64 0,.slice none 0 0]) (by simp[results,Tryz.results17,go_sem,z0,z1,z2,z3,z4]) rfl ((fun w' _ hw=>(⟨⟨mer,0,[],0,[]⟩,none,0,0,rfl,Sl.nil0,EQ.out,hw⟩:Zgh s w (.returned (Zs3 (mer) (0) ([]) (0) none 0 0)) w')) ww WI.out WD.out)
 ·have h1i:(ler != 0)=true:=by simp[h1]
  have EQ:=Zaa (show Zgg s ⟨ler,lin,[],0,[]⟩ by unfold Zgg;rw[if_pos (by rw[←HL.out.2];exact h1),HL.out.1,HL.out.2])
  clear h1
  have IK:=Zaa (show ∀w',w2.grownBy w' (some w.heap.size)→Zam w' none 0 0 []from fun w' _=>Sl.nil0)
  obtain⟨u0,u1,u2,u3,u4⟩:=Box.fiveR X2.out
  have fz:=fun q=>X2.out.frozen q
  have GG:=Zc5 w2 w.heap.size (.int .i64 ler) (.int .i64 lin) (.string ⟨#[]⟩) (.int .i64 0) (.slice none 0 0)
  have WX:=Zaa (Box.set5R X2.out (.int .i64 ler) (.int .i64 lin) (.string ⟨#[]⟩) (.int .i64 0) (.slice none 0 0))
  have WD:=Zaa (D2.out.grown GG D2.out.size (fun q hq=>by injection hq with hq;omega))
  have WI:=Zaa (show Zam (((((w2.setCell ⟨w.heap.size,0,none⟩ (.int .i64 ler)).setCell ⟨w.heap.size,1,none⟩ (.int .i64 lin)).setCell ⟨w.heap.size,2,none⟩ (.string ⟨#[]⟩)).setCell ⟨w.heap.size,3,none⟩ (.int .i64 0)).setCell ⟨w.heap.size,4,none⟩ (.slice none 0 0)) none 0 0 []from IK.out _ GG)
  clear GG
  go_wp2
  generalize (((((w2.setCell ⟨w.heap.size,0,none⟩ (.int .i64 ler)).setCell ⟨w.heap.size,1,none⟩ (.int .i64 lin)).setCell ⟨w.heap.size,2,none⟩ (.string ⟨#[]⟩)).setCell ⟨w.heap.size,3,none⟩ (.int .i64 0)).setCell ⟨w.heap.size,4,none⟩ (.slice none 0 0))=ww at *
  obtain⟨z0,z1,z2,z3,z4⟩:=Box.fiveR WX.out
  exact bodyPost_ret (v:=.agg #[.int .i64 ler,.int .i64 lin,.string ⟨#[]⟩,.int .i64 0,.slice none 0 0]) (by simp[results,Tryz.results17,go_sem,z0,z1,z2,z3,z4]) rfl ((fun w' _ hw=>(⟨⟨ler,lin,[],0,[]⟩,none,0,0,rfl,Sl.nil0,EQ.out,hw⟩:Zgh s w (.returned (Zs3 (ler) (lin) ([]) (0) none 0 0)) w')) ww WI.out WD.out)
end Go.Proofs.YtfmnagcglhlicaaGreat
