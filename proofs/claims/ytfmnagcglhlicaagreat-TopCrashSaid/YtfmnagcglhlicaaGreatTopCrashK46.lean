/- bench.Tell: what it answers. Conditions: the text is not too long. -/
import Derived.Test.YtfmnagcglhlicaaGreatTopCrashK41
import Derived.Test.YtfmnagcglhlicaaGreatTopCrashK44
import Derived.Test.YtfmnagcglhlicaaGreatTopCrashK45
set_option maxRecDepth 100000
set_option maxHeartbeats 16000000
namespace Go.Proofs.YtfmnagcglhlicaaGreat
open Go.RowKit Go.Maps
structure Xo where
 err:Int
 line:Int
 text:List UInt8
 verdict:Int
 costs:LIn
def Qn (N:aS)(log:LLi)(cs:LIn):Prop:=cs.length=log.length∧∀(k:Nat) t c,log[k]?=some t→cs[k]?=some c→∃e,sZ N 0 1 t c e
def rZ (s:List UInt8)(r:Xo):Prop :=
 if(jR s).2.2≠0 then r=⟨(jR s).2.2,(jR s).2.1,[],0,[]⟩
 else if(eQ (jR s).1).1≠0 then r=⟨(eQ (jR s).1).1,0,[],0,[]⟩
 else if(fZ (eQ (jR s).1).2).2≠0 then r=⟨(fZ (eQ (jR s).1).2).2,0,pQ 41 (eQ (jR s).1).2,0,[]⟩
 else if(dU (fZ (eQ (jR s).1).2).1 0 1 300).2≠0 then r=⟨(dU (fZ (eQ (jR s).1).2).1 0 1 300).2,0,pQ 41 (eQ (jR s).1).2,0,[]⟩
 else r.err=0∧r.line=0∧r.text=pQ 41 (eQ (jR s).1).2∧r.verdict=(dU (fZ (eQ (jR s).1).2).1 0 1 300).1.1∧Qn (fZ (eQ (jR s).1).2).1 (jR s).1 r.costs
abbrev VS (err line:Int)(text:List UInt8)(verdict:Int)(A:OAd)(n c:Nat):Value:=.agg #[.int .i64 err,.int .i64 line,.string ⟨text.toArray⟩,.int .i64 verdict,.slice A n c]
def r6 (s:List UInt8)(w:World)(e:Ending)(w':World):Prop:=∃(r:Xo) (A:OAd) (n c:Nat),e=.returned (VS r.err r.line r.text r.verdict A n c)∧aJ w' A n c r.costs∧rZ s r∧Below w.heap.size w w'
theorem Box.fiveR {w:World}{b ty:Nat}{u0 u1 u2 u3 u4:Value}(h:Box w b ty #[u0,u1,u2,u3,u4]):w.cell? ⟨b,0,none⟩=some u0∧w.cell? ⟨b,1,none⟩=some u1∧w.cell? ⟨b,2,none⟩=some u2∧w.cell? ⟨b,3,none⟩=some u3∧w.cell? ⟨b,4,none⟩=some u4:=⟨h.cell 0,h.cell 1,h.cell 2,h.cell 3,h.cell 4⟩
theorem Box.set5R {w:World}{b ty:Nat}{u0 u1 u2 u3 u4:Value}(h:Box w b ty #[u0,u1,u2,u3,u4])(v0 v1 v2 v3 v4:Value):Box (((((w.setCell ⟨b,0,none⟩ v0).setCell ⟨b,1,none⟩ v1).setCell ⟨b,2,none⟩ v2).setCell ⟨b,3,none⟩ v3).setCell ⟨b,4,none⟩ v4) b ty #[v0,v1,v2,v3,v4]:=by
 have:=((((h.set 0 v0).set 1 v1).set 2 v2).set 3 v3).set 4 v4;simpa using this
theorem jQ (w:World)(b:Nat)(v0 v1 v2 v3 v4:Value):w.grownBy (((((w.setCell ⟨b,0,none⟩ v0).setCell ⟨b,1,none⟩ v1).setCell ⟨b,2,none⟩ v2).setCell ⟨b,3,none⟩ v3).setCell ⟨b,4,none⟩ v4) (some b) :=
 ((nR w b v0 v1 v2).trans (cR _ b 3 v3)).trans (cR _ b 4 v4)
theorem Lu {w:World}{B B2 n c:Nat}{A:OAd}{xs:LLi}(h:aC (cF B) 1 w B2 28 (.slice A n c) n xs)(hn:xs.length≤1048576):bT w A n c xs:=by
 obtain⟨cells,o,r,hl⟩:=h;have h2:aC bH 1 w B2 28 (.slice A n c) n xs:=⟨cells,o,⟨r.1,fun i x hx=>by obtain⟨vs,a,b⟩:=r.2 i x hx;exact⟨vs,a,b.list⟩⟩,hl⟩;subst hl;obtain⟨A',c',e,hi⟩:=h2.sl (by omega);injection e with e1 _ e3;subst e1 e3;exact hi
theorem Qo {log:LLi}(h:(eQ log).1=0):cP log=0∧eZ (eQ log).2=0:=by
 unfold eQ at h ⊢;split at h
 ·rename_i h1;exact absurd h h1
 ·rename_i h1
  rw[if_neg h1];split at h
  ·rename_i h2;exact absurd h h2
  ·rename_i h2
   rw[if_neg h2];exact⟨Classical.not_not.1 h1,Classical.not_not.1 h2⟩
theorem Tj {b:aW}(h:(fZ b).2=0):(fZ b).1.trans.length≤24:=by
 unfold fZ at h ⊢;split at h
 ·rename_i h1
  rw[if_pos h1];split at h
  ·rename_i h2
   rw[if_pos h2];simp only[VP,List.length_map];exact h2.2
  ·cases h
 ·rename_i h1;exact absurd h h1
theorem Tm {s:List UInt8}:(jR s).1.length≤s.length:=by
 have key:∀(r:List UInt8) (out:LLi) (now:LIn),(EB r out now).1.length≤out.length+r.length:=by
  intro r;induction r with
  | nil=>intro out now;rw[EB];split <;> simp
  | cons c r ih =>
   intro out now;rw[EB];split
   ·have:=ih (out++[now]) [];simp at this ⊢;omega
   ·split
    ·have:=ih out (now++[EA c]);simp at this ⊢;omega
    ·simp
 have:=key s [] [];simpa [jR] using this
theorem Lx (s:List UInt8)(hs:s.length≤1048576)(w:World):Calls Tryz.prog 17 #[.string ⟨s.toArray⟩] w (r6 s w):=by
 have B0:=aA (aB w (.cells #[.int .i64 0,.int .i64 0,.string ⟨#[]⟩,.int .i64 0,.slice none 0 0] 64));have X0:=aA (Box.new w #[.int .i64 0,.int .i64 0,.string ⟨#[]⟩,.int .i64 0,.slice none 0 0] 64);have HS:=aA hs;clear hs;go_enter Tryz.func17,Tryz.ntmps17
 go_upto_region 1 with fail
 generalize w.alloc (.cells #[.int .i64 0,.int .i64 0,.string ⟨#[]⟩,.int .i64 0,.slice none 0 0] 64)=w1 at *
 have W1:=aA X0.o.lt;have CL:=aA (Ql s HS.o w1);go_wp2_with fail
 refine CL.o.mono ?_;rintro e w2 ⟨A,n,c,rfl,own,hb2⟩;have HLe:=aA (show(jR s).1.length≤1048576 from Nat.le_trans Tm HS.o);have LL:=aA (Lu own HLe.o);have D2:=aA (B0.o.trans (hb2.mono B0.o.size));have X2:=aA (X0.o.keep hb2);have W2:=aA (Nat.lt_of_lt_of_le W1.o hb2.size);obtain⟨lin,hlin⟩:∃x,x=(jR s).2.1:=⟨_,rfl⟩;obtain⟨ler,hler⟩:∃x,x=(jR s).2.2:=⟨_,rfl⟩;rw[←hlin,←hler];have HL:=aA (And.intro hlin hler);clear own hb2 CL hlin hler;by_cases h1:ler=0
 ·have h1i:(ler != 0)=false:=by simp[h1]
  have E1:=aA (show ¬(jR s).2.2≠0 by rw[←HL.o.2,h1];exact fun h=>h rfl);have CM:=aA (DU LL.o);clear h1;go_wp2_with fail
  refine CM.o.mono ?_;rintro e w3 ⟨v3,rfl,⟨A3,n3,c3,rfl,s3⟩,hb3⟩;have BV:=aA (show vD 62 w3 A3 n3 c3 (eQ (jR s).1).2.kids from s3);obtain⟨B,hB⟩:∃B,B=(eQ (jR s).1).2:=⟨_,rfl⟩;rw[←hB]at BV;rw[←hB];have HBq:=aA hB;obtain⟨kd,lb,ks⟩:=B;simp only[aW.kids]at BV;simp only[aW.kind,aW.label];obtain⟨mer,hmer⟩:∃x,x=(eQ (jR s).1).1:=⟨_,rfl⟩;rw[←hmer];have HM:=aA hmer;have B4:=aA (aB w3 (.cells #[.int .i64 kd,.int .i64 lb,.slice A3 n3 c3] 71));have T6:=aA (Box.new w3 #[.int .i64 kd,.int .i64 lb,.slice A3 n3 c3] 71);have BV4:=aA (vD.keep BV.o B4.o);have H24:=aA (hb3.trans (B4.o.mono hb3.size));have X4:=aA (X2.o.keep H24.o);have D4:=aA (D2.o.trans (H24.o.mono D2.o.size));have LL4:=aA (Sl.keep bH.kept LL.o H24.o);have W4:=aA (Nat.lt_of_lt_of_le W2.o H24.o.size);clear s3 hb3 hB hmer CM BV;go_upto_region 5 with fail
  generalize w3.alloc (.cells #[.int .i64 kd,.int .i64 lb,.slice A3 n3 c3] 71)=w4 at *
  generalize w3.heap.size=b6 at T6;by_cases h2:mer=0
  ·have h2i:(mer != 0)=false:=by simp[h2]
   have E2:=aA (show ¬(eQ (jR s).1).1≠0 by rw[←HM.o,h2];exact fun h=>h rfl);have FIN:=aA (Qo (Classical.not_not.1 E2.o));have HW:=aA (show(bX 41 (.mk kd lb ks) 0).2=0 from by have:=FIN.o.2;rw[←HBq.o]at this;exact this);have CW:=aA (vV 41 62 kd lb A3 n3 c3 ks w4 0 BV4.o HW.o);obtain⟨t0,t1,t2⟩:=T6.o.three;clear h2;go_wp2_with fail
   refine CW.o.mono ?_;rintro e w5 ⟨rfl,hb5⟩;obtain⟨tx,htx⟩:∃x,x=pQ 41 (.mk kd lb ks):=⟨_,rfl⟩;rw[←htx];have HTX:=aA (show tx=pQ 41 (eQ (jR s).1).2 by rw[htx,HBq.o]);have B6:=aA (aB w5 (.cells #[.int .i64 0,.int .i64 0,.string ⟨tx.toArray⟩,.int .i64 0,.slice none 0 0] 64));have T7:=aA (Box.new w5 #[.int .i64 0,.int .i64 0,.string ⟨tx.toArray⟩,.int .i64 0,.slice none 0 0] 64);have H46:=aA (hb5.trans (B6.o.mono hb5.size));have BV6:=aA (vD.keep BV4.o H46.o);have X6:=aA (X4.o.keep H46.o);have D6:=aA (D4.o.trans (H46.o.mono D4.o.size));have LL6:=aA (Sl.keep bH.kept LL4.o H46.o);have W6:=aA (Nat.lt_of_lt_of_le W4.o H46.o.size);have T66:=aA (T6.o.keep H46.o);have W7:=aA (show w5.heap.size<(w5.alloc (.cells #[.int .i64 0,.int .i64 0,.string ⟨tx.toArray⟩,.int .i64 0,.slice none 0 0] 64)).heap.size from T7.o.lt);have LL5:=aA (Sl.keep bH.kept LL4.o hb5);have B56:=aA B6.o;have WB7:=aA (show w.heap.size<w5.heap.size from Nat.lt_of_lt_of_le W4.o hb5.size);clear hb5 htx CW t0 t1 t2;go_upto_region 8 with fail
   generalize w5.alloc (.cells #[.int .i64 0,.int .i64 0,.string ⟨tx.toArray⟩,.int .i64 0,.slice none 0 0] 64)=w6 at *
   obtain⟨b7,hb7q⟩:∃x,x=w5.heap.size:=⟨_,rfl⟩;rw[←hb7q]at T7 W7 WB7;rw[←hb7q];have HB7:=aA hb7q;clear hb7q;obtain⟨t0,t1,t2⟩:=T66.o.three;have CG:=aA (vS (kd:=kd) (lb:=lb) BV6.o);go_wp2_with fail
   refine CG.o.mono ?_;rintro e w7 ⟨A7,n7,c7,rfl,tr7,own7,hb7⟩;obtain⟨N,hN⟩:∃x,x=(fZ (.mk kd lb ks)).1:=⟨_,rfl⟩;obtain⟨ger,hger⟩:∃x,x=(fZ (.mk kd lb ks)).2:=⟨_,rfl⟩;rw[←hN,←hger]at own7;rw[←hN]at tr7;rw[←hN,←hger];have HG:=aA (show N=(fZ (eQ (jR s).1).2).1∧ger=(fZ (eQ (jR s).1).2).2 by rw[←HBq.o];exact⟨hN,hger⟩);have B8:=aA (aB w7 (.cells #[.int .i64 N.places,.slice A7 n7 c7] 24));have T8:=aA (Box.new w7 #[.int .i64 N.places,.slice A7 n7 c7] 24);have H68:=aA (hb7.trans (B8.o.mono hb7.size));have TR8:=aA (tr7.keep B8.o);have X8:=aA (X6.o.keep H68.o);have D8:=aA (D6.o.trans (H68.o.mono D6.o.size));have LL8:=aA (Sl.keep bH.kept LL6.o H68.o);have T78:=aA (T7.o.keep H68.o);have B58:=aA (B56.o.trans (H68.o.mono B56.o.size));have OW8:=aA (fun h=>aC.keep (a7.kept _) (own7 h) B8.o);have W78:=aA (show b7<w7.heap.size from Nat.lt_of_lt_of_le W7.o hb7.size);clear tr7 own7 hb7 hN hger CG t0 t1 t2;go_upto_region 9 with fail
   generalize w7.alloc (.cells #[.int .i64 N.places,.slice A7 n7 c7] 24)=w8 at *
   generalize w7.heap.size=b8 at T8 W78;by_cases h3:ger=0
   ·have h3i:(ger != 0)=false:=by simp[h3]
    have E3:=aA (show ¬(fZ (eQ (jR s).1).2).2≠0 by rw[←HG.o.2,h3];exact fun h=>h rfl);have H30:=aA h3;have HFEW:=aA (show n7≤24 from by have:=Tj (Classical.not_not.1 E3.o);rw[←HG.o.1,TR8.o.len]at this;exact this);have CJ:=aA (pJ (P:=N.places) 0 1 300 TR8.o (by have:=HFEW.o;omega));have HNE:=aA (show(⟨N.places,N.trans⟩:aS)=N from rfl);rw[HNE.o]at CJ;obtain⟨t0,t1⟩:=T8.o.two;clear h3;go_wp2_with fail
    refine CJ.o.mono ?_;rintro e w9 ⟨A9,n9,c9,rfl,i9,hb9⟩;obtain⟨jv,hjv⟩:∃x,x=(dU N 0 1 300).1.1:=⟨_,rfl⟩;obtain⟨jt,hjt⟩:∃x,x=(dU N 0 1 300).1.2.2:=⟨_,rfl⟩;obtain⟨jer,hjer⟩:∃x,x=(dU N 0 1 300).2:=⟨_,rfl⟩;rw[←hjv,←hjt,←hjer];have HJ:=aA (show jv=(dU (fZ (eQ (jR s).1).2).1 0 1 300).1.1∧jer=(dU (fZ (eQ (jR s).1).2).1 0 1 300).2 by rw[←HG.o.1];exact⟨hjv,hjer⟩);have B10:=aA (aB w9 (.cells #[.int .i64 jv,.slice A9 n9 c9,.int .i64 jt] 56));have T9:=aA (Box.new w9 #[.int .i64 jv,.slice A9 n9 c9,.int .i64 jt] 56);have H810:=aA (hb9.trans (B10.o.mono hb9.size));have TR10:=aA (TR8.o.keep H810.o);have X10:=aA (X8.o.keep H810.o);have D10:=aA (D8.o.trans (H810.o.mono D8.o.size));have LL10:=aA (Sl.keep bH.kept LL8.o H810.o);have T710:=aA (T78.o.keep H810.o);have B510:=aA (B58.o.trans (H810.o.mono B58.o.size));have T810:=aA (T8.o.keep H810.o);have W10:=aA (Nat.lt_of_lt_of_le T78.o.lt H810.o.size);have OW10:=aA (aC.keep (a7.kept _) (OW8.o H30.o) H810.o);clear i9 hb9 hjv hjt hjer CJ t0 t1;go_upto_region 13 with fail
    generalize w9.alloc (.cells #[.int .i64 jv,.slice A9 n9 c9,.int .i64 jt] 56)=w10 at *
    generalize w9.heap.size=b9 at T9;by_cases h4:jer=0
    ·have h4i:(jer != 0)=false:=by simp[h4]
     have E4:=aA (show ¬(dU (fZ (eQ (jR s).1).2).1 0 1 300).2≠0 by rw[←HJ.o.2,h4];exact fun h=>h rfl);clear h4;have t0:=T9.o.cell 0;obtain⟨v0,v1,v2,v3,v4⟩:=Box.fiveR T710.o;have fy:=T710.o.frozen 3;have GX:=cR w10 b7 3 (.int .i64 jv);have T7x:=aA (show Box (w10.setCell ⟨b7,3,none⟩ (.int .i64 jv)) b7 64 #[.int .i64 0,.int .i64 0,.string ⟨tx.toArray⟩,.int .i64 jv,.slice none 0 0]from by have:=T710.o.set 3 (.int .i64 jv);simpa using this);have XX:=aA (X10.o.grown GX (fun e=>by injection e with e;have:=WB7.o;omega));have T8x:=aA (T810.o.grown GX (fun e=>by injection e with e;have:=W78.o;omega));have DX:=aA (D10.o.grown GX D10.o.size (fun q hq=>by injection hq with hq;have:=WB7.o;omega));have B5x:=aA (B510.o.grown GX B510.o.size (fun q hq=>by injection hq with hq;have:=HB7.o;omega));have OWx:=aA (iC (j:=3) (u:=.int .i64 jv) OW10.o W7.o).o;have SZx:=aA (show b7<(w10.setCell ⟨b7,3,none⟩ (.int .i64 jv)).heap.size from T7x.o.lt);clear GX;go_upto_region 17 with fail
     clear v0 v1 v2 v3 v4 fy t0;generalize hwL:w10.setCell ⟨b7,3,none⟩ (.int .i64 jv)=wL at *
     clear hwL;have HLEN:=aA (show(jR s).1.length=n∧n≤60 from⟨LL.o.len,by rw[←LL.o.len];exact(dZ.1 FIN.o.1).1⟩);go_wp2
     go_loopg [63] n (fun gk s63 wr=>∃(k:Nat) (v:Value) (cs:LIn),s63=.int .i64 (k:Nat)∧Hid (k+gk=n)∧Hid (aD wr wL.heap.size v k cs)∧Hid (Qn N ((jR s).1.take k) cs)∧Hid (wL.grownBy wr (some b7))∧Hid (Box wr b7 64 #[.int .i64 0,.int .i64 0,.string ⟨tx.toArray⟩,.int .i64 jv,v]))
     case atStart=>exact⟨0,_,[],rfl,aA (by omega),aA aC.nil,aA ⟨rfl,fun k t c h=>by simp at h⟩,aA ⟨rfl,rfl,rfl,Nat.le_refl _,fun _ _ _=>rfl⟩,T7x⟩
     case round =>
      clear T7x;obtain⟨k,v,cs,rfl,hgk,OB,CP,GR,TX⟩:=hrel;obtain⟨AV,cV,rfl,iv⟩:=OB.o.sl (by have:=hgk.o;have:=HLEN.o;omega);have IV:=aA iv;have XR:=aA (XX.o.grown GR.o (fun e=>by injection e with e;have:=WB7.o;omega));have DR:=aA (DX.o.grown GR.o DX.o.size (fun q hq=>by injection hq with hq;have:=WB7.o;omega));clear iv;by_cases hk:k<n
      ·have hki:(k:Int)<(n:Int):=by omega
       have LLr:=aA (Sl.keep bH.kept LL5.o (B5x.o.grown GR.o B5x.o.size (fun q hq=>by injection hq with hq;have:=HB7.o;omega)));obtain⟨bb,offb,t,Bt,mt,dt,eA,hbb,htx2,q0,it,hmt⟩:=bT.get LLr.o hk;subst eA;have HJ2:=aA (show gk-1<gk∧(k+1)+(gk-1)=n∧k≤60 by have:=hgk.o;have:=HLEN.o;omega);have hwk:IntKind.i64.wrap ((k:Int)+1)=((k+1:Nat):Int):=by
        have:=HJ2.o;simp[IntKind.wrap,IntKind.bits,IntKind.signed];omega
       have OWr:=aA (aC.kept OWx.o GR.o (.inr (fun e=>by have:=(OWx.o.lt _ e).1;have:=W7.o;omega)) (fun vs x hx=>hx.far GR.o W7.o));have TRr:=aA (show bK wr A7 n7 c7 N.trans from by
        obtain⟨C',c2,hv,hs⟩:=OWr.o.sl (by have:=HFEW.o;omega);injection hv with e1 e2 e3;subst e1 e3;exact hs.imp (fun _ _ h=>h.tran))
       have T8r:=aA (T8x.o.grown GR.o (fun e=>by injection e with e;have:=W78.o;omega));have CA:=aA (Hi (P:=N.places) 0 1 TRr.o (by have:=HFEW.o;omega) it);obtain⟨z0,z1⟩:=T8r.o.two;clear hbb it hmt hk;go_wp2_with fail
       refine CA.o.mono ?_;rintro e wq ⟨Aa,na,ca,cst,kk,rfl,hcp,_,hbq⟩;have HCP:=aA (show sZ N 0 1 t cst kk from hcp);have TXq:=aA (TX.o.keep hbq);have OBq:=aA (aC.keep iG.kept OB.o hbq);have GRq:=aA (show wL.grownBy wq (some b7)from⟨hbq.os.trans GR.o.os,hbq.tape.trans GR.o.tape,hbq.output.trans GR.o.output,Nat.le_trans GR.o.size hbq.size,fun q hq hne=>(hbq.block q (Nat.lt_of_lt_of_le hq GR.o.size)).trans (GR.o.block q hq hne)⟩);have hB:wL.heap.size≤wq.heap.size:=Nat.le_trans GR.o.size hbq.size;have h24:(k+1)*8≤140737488355328:=by have:=HJ2.o;omega
       have h26:k+1≤281474976710656:=by omega
       have hne:(Value.slice AV k cV).ownBlock≠some b7:=fun e=>by have:=(OB.o.lt _ e).1;have:=SZx.o;omega
       have CPn:=aA (show Qn N ((jR s).1.take (k+1)) (cs++[cst])from by
        refine⟨by rw[List.length_append,CP.o.1,List.take_add_one,htx2.o];simp,fun j t' c' h1 h2=>?_⟩;rw[List.take_add_one,htx2.o]at h1;have hl:((jR s).1.take k).length=cs.length:=CP.o.1.symm;by_cases hj:j<cs.length
        ·rw[List.getElem?_append_left (by omega)]at h1;rw[List.getElem?_append_left hj]at h2;exact CP.o.2 j t' c' h1 h2
        ·have hj2:j=cs.length:=by have:=(List.getElem?_eq_some_iff.1 h2).1;simp at this;omega
         subst hj2;rw[List.getElem?_append_right (by omega),hl,Nat.sub_self]at h1;rw[List.getElem?_append_right (by omega),Nat.sub_self]at h2;simp at h1 h2;subst h1 h2;exact⟨kk,HCP.o⟩)
       obtain⟨y0,y1,y2,y3,y4⟩:=Box.fiveR TXq.o;have RD:=aA (show a6 iG 1 wq [.int .i64 cst] [cst]from a6.one (vs:=fun _=>.int .i64 cst) rfl rfl (fun j hj=>by obtain rfl:j=0:=(by omega);rfl));clear hcp hbq CA z0 z1 q0;go_wp2_with (at_builtin;refine fY (v:=.slice AV k cV) kQ rfl _ _ rfl [cst] #[.int .i64 cst] rfl rfl rfl rfl (by simp[Value.oneCell']) OBq.o RD.o rfl hB h26 h24 (fun _ _ _ _ h=>h) ?_;intro v8 w8 own8 hg8 hl8;obtain⟨A8,c8,rfl,_⟩:=own8.sl (by omega);have O8:=aA own8;have TX8:=aA (TXq.o.grown hg8 hne);have G8:=aA (show wL.grownBy w8 (some b7)from⟨hg8.os.trans GRq.o.os,hg8.tape.trans GRq.o.tape,hg8.output.trans GRq.o.output,Nat.le_trans GRq.o.size hg8.size,fun q hq hqn=>(hg8.block q (Nat.lt_of_lt_of_le hq GRq.o.size) (fun e=>by have:=(OB.o.lt q e.symm).1;omega)).trans (GRq.o.block q hq hqn)⟩);have y84:=TX8.o.cell 4;have fy:=TX8.o.frozen 4;clear own8 hg8 hl8)
       have GG:=cR w8 b7 4 (.slice A8 (k+1) c8);have O9:=aA (show aD (w8.setCell ⟨b7,4,none⟩ (.slice A8 (k+1) c8)) wL.heap.size (.slice A8 (k+1) c8) (k+1) (cs++[cst])from by
        refine aC.kept O8.o GG ?_ (fun _ _ h=>h);cases hv:(Value.slice A8 (k+1) c8).ownBlock with
        | none=>exact .inl rfl
        | some q=>exact .inr (fun e=>by injection e with e;have:=(O8.o.lt q hv).1;have:=SZx.o;omega))
       have G9:=aA (show wL.grownBy (w8.setCell ⟨b7,4,none⟩ (.slice A8 (k+1) c8)) (some b7)from IZ G8.o GG);have T9x:=aA (show Box (w8.setCell ⟨b7,4,none⟩ (.slice A8 (k+1) c8)) b7 64 #[.int .i64 0,.int .i64 0,.string ⟨tx.toArray⟩,.int .i64 jv,.slice A8 (k+1) c8]from by have:=TX8.o.set 4 (.slice A8 (k+1) c8);simpa using this);clear GG;go_roundg (gk-1)
       case measure=>exact HJ2.o.1
       case rel=>exact⟨k+1,.slice A8 (k+1) c8,cs++[cst],rfl,aA HJ2.o.2.1,O9,CPn,G9,T9x⟩
      ·have hki:¬(k:Int)<(n:Int):=by omega
       have EQ:=aA (show rZ s ⟨0,0,tx,jv,cs⟩from by
        have h1:=CP.o;rw[List.take_of_length_le (by rw[HLEN.o.1];omega)]at h1;unfold rZ;rw[if_neg E1.o,if_neg E2.o,if_neg E3.o,if_neg E4.o];exact⟨rfl,rfl,HTX.o,HJ.o.1,by rw[←HG.o.1];exact h1⟩)
       obtain⟨t0,t1,t2,t3,t4⟩:=Box.fiveR TX.o;have IK:=aA (show ∀w',wr.grownBy w' (some w.heap.size)→aJ w' AV k cV cs from fun w' hg=>aJ.keepRow IV.o hg (.inr (fun e=>by have:=(OB.o.lt _ e.symm).1;have:=SZx.o;have:=WB7.o;omega)));clear hk;obtain⟨u0,u1,u2,u3,u4⟩:=Box.fiveR XR.o;have fz:=fun q=>XR.o.frozen q
       have GG:=jQ wr w.heap.size (.int .i64 0) (.int .i64 0) (.string ⟨tx.toArray⟩) (.int .i64 jv) (.slice AV k cV);have WX:=aA (Box.set5R XR.o (.int .i64 0) (.int .i64 0) (.string ⟨tx.toArray⟩) (.int .i64 jv) (.slice AV k cV));have WD:=aA (DR.o.grown GG DR.o.size (fun q hq=>by injection hq with hq;omega));have WI:=aA (show aJ (((((wr.setCell ⟨w.heap.size,0,none⟩ (.int .i64 0)).setCell ⟨w.heap.size,1,none⟩ (.int .i64 0)).setCell ⟨w.heap.size,2,none⟩ (.string ⟨tx.toArray⟩)).setCell ⟨w.heap.size,3,none⟩ (.int .i64 jv)).setCell ⟨w.heap.size,4,none⟩ (.slice AV k cV)) AV k cV cs from IK.o _ GG);clear GG;go_wp2
       generalize (((((wr.setCell ⟨w.heap.size,0,none⟩ (.int .i64 0)).setCell ⟨w.heap.size,1,none⟩ (.int .i64 0)).setCell ⟨w.heap.size,2,none⟩ (.string ⟨tx.toArray⟩)).setCell ⟨w.heap.size,3,none⟩ (.int .i64 jv)).setCell ⟨w.heap.size,4,none⟩ (.slice AV k cV))=ww at *
       obtain⟨z0,z1,z2,z3,z4⟩:=Box.fiveR WX.o;exact bodyPost_ret (v:=.agg #[.int .i64 0,.int .i64 0,.string ⟨tx.toArray⟩,.int .i64 jv,.slice AV k cV]) (by simp[results,Tryz.results17,go_sem,z0,z1,z2,z3,z4]) rfl ((fun w' hi hw=>(⟨⟨0,0,tx,jv,cs⟩,AV,k,cV,rfl,hi,EQ.o,hw⟩:r6 s w (.returned (VS 0 0 tx jv AV k cV)) w')) ww WI.o WD.o)
    ·have h4i:(jer != 0)=true:=by simp[h4]
     have EQ:=aA (show rZ s ⟨jer,0,tx,0,[]⟩ by unfold rZ;rw[if_neg E1.o,if_neg E2.o,if_neg E3.o,if_pos (by rw[←HJ.o.2];exact h4),HTX.o,HJ.o.2]);clear h4;obtain⟨t0,t1,t2,t3,t4⟩:=Box.fiveR T710.o;have fy:=T710.o.frozen 0;have GX:=cR w10 b7 0 (.int .i64 jer);have T7x:=aA (show Box (w10.setCell ⟨b7,0,none⟩ (.int .i64 jer)) b7 64 #[.int .i64 jer,.int .i64 0,.string ⟨tx.toArray⟩,.int .i64 0,.slice none 0 0]from by have:=T710.o.set 0 (.int .i64 jer);simpa using this);have XX:=aA (X10.o.grown GX (fun e=>by injection e with e;have:=WB7.o;omega));have DX:=aA (D10.o.grown GX D10.o.size (fun q hq=>by injection hq with hq;have:=WB7.o;omega));clear GX;go_upto_region 15 with fail
     clear t0 t1 t2 t3 t4 fy;generalize w10.setCell ⟨b7,0,none⟩ (.int .i64 jer)=wx at *
     obtain⟨t0,t1,t2,t3,t4⟩:=Box.fiveR T7x.o;have IK:=aA (show ∀w',wx.grownBy w' (some w.heap.size)→aJ w' none 0 0 []from fun w' _=>Sl.nil0);obtain⟨u0,u1,u2,u3,u4⟩:=Box.fiveR XX.o;have fz:=fun q=>XX.o.frozen q
     have GG:=jQ wx w.heap.size (.int .i64 jer) (.int .i64 0) (.string ⟨tx.toArray⟩) (.int .i64 0) (.slice none 0 0);have WX:=aA (Box.set5R XX.o (.int .i64 jer) (.int .i64 0) (.string ⟨tx.toArray⟩) (.int .i64 0) (.slice none 0 0));have WD:=aA (DX.o.grown GG DX.o.size (fun q hq=>by injection hq with hq;omega));have WI:=aA (show aJ (((((wx.setCell ⟨w.heap.size,0,none⟩ (.int .i64 jer)).setCell ⟨w.heap.size,1,none⟩ (.int .i64 0)).setCell ⟨w.heap.size,2,none⟩ (.string ⟨tx.toArray⟩)).setCell ⟨w.heap.size,3,none⟩ (.int .i64 0)).setCell ⟨w.heap.size,4,none⟩ (.slice none 0 0)) none 0 0 []from IK.o _ GG);clear GG;go_wp2
     generalize (((((wx.setCell ⟨w.heap.size,0,none⟩ (.int .i64 jer)).setCell ⟨w.heap.size,1,none⟩ (.int .i64 0)).setCell ⟨w.heap.size,2,none⟩ (.string ⟨tx.toArray⟩)).setCell ⟨w.heap.size,3,none⟩ (.int .i64 0)).setCell ⟨w.heap.size,4,none⟩ (.slice none 0 0))=ww at *
     obtain⟨z0,z1,z2,z3,z4⟩:=Box.fiveR WX.o;exact bodyPost_ret (v:=.agg #[.int .i64 jer,.int .i64 0,.string ⟨tx.toArray⟩,.int .i64 0,.slice none 0 0]) (by simp[results,Tryz.results17,go_sem,z0,z1,z2,z3,z4]) rfl ((fun w' _ hw=>(⟨⟨jer,0,tx,0,[]⟩,none,0,0,rfl,Sl.nil0,EQ.o,hw⟩:r6 s w (.returned (VS (jer) (0) (tx) (0) none 0 0)) w')) ww WI.o WD.o)
   ·have h3i:(ger != 0)=true:=by simp[h3]
    have EQ:=aA (show rZ s ⟨ger,0,tx,0,[]⟩ by unfold rZ;rw[if_neg E1.o,if_neg E2.o,if_pos (by rw[←HG.o.2];exact h3),HTX.o,HG.o.2]);clear h3;obtain⟨t0,t1,t2,t3,t4⟩:=Box.fiveR T78.o;have fy:=T78.o.frozen 0;have GX:=cR w8 b7 0 (.int .i64 ger);have T7x:=aA (show Box (w8.setCell ⟨b7,0,none⟩ (.int .i64 ger)) b7 64 #[.int .i64 ger,.int .i64 0,.string ⟨tx.toArray⟩,.int .i64 0,.slice none 0 0]from by have:=T78.o.set 0 (.int .i64 ger);simpa using this);have XX:=aA (X8.o.grown GX (fun e=>by injection e with e;have:=WB7.o;omega));have DX:=aA (D8.o.grown GX D8.o.size (fun q hq=>by injection hq with hq;have:=WB7.o;omega));clear GX;go_upto_region 11 with fail
    clear t0 t1 t2 t3 t4 fy;generalize w8.setCell ⟨b7,0,none⟩ (.int .i64 ger)=wx at *
    obtain⟨t0,t1,t2,t3,t4⟩:=Box.fiveR T7x.o;have IK:=aA (show ∀w',wx.grownBy w' (some w.heap.size)→aJ w' none 0 0 []from fun w' _=>Sl.nil0);obtain⟨u0,u1,u2,u3,u4⟩:=Box.fiveR XX.o;have fz:=fun q=>XX.o.frozen q
    have GG:=jQ wx w.heap.size (.int .i64 ger) (.int .i64 0) (.string ⟨tx.toArray⟩) (.int .i64 0) (.slice none 0 0);have WX:=aA (Box.set5R XX.o (.int .i64 ger) (.int .i64 0) (.string ⟨tx.toArray⟩) (.int .i64 0) (.slice none 0 0));have WD:=aA (DX.o.grown GG DX.o.size (fun q hq=>by injection hq with hq;omega));have WI:=aA (show aJ (((((wx.setCell ⟨w.heap.size,0,none⟩ (.int .i64 ger)).setCell ⟨w.heap.size,1,none⟩ (.int .i64 0)).setCell ⟨w.heap.size,2,none⟩ (.string ⟨tx.toArray⟩)).setCell ⟨w.heap.size,3,none⟩ (.int .i64 0)).setCell ⟨w.heap.size,4,none⟩ (.slice none 0 0)) none 0 0 []from IK.o _ GG);clear GG;go_wp2
    generalize (((((wx.setCell ⟨w.heap.size,0,none⟩ (.int .i64 ger)).setCell ⟨w.heap.size,1,none⟩ (.int .i64 0)).setCell ⟨w.heap.size,2,none⟩ (.string ⟨tx.toArray⟩)).setCell ⟨w.heap.size,3,none⟩ (.int .i64 0)).setCell ⟨w.heap.size,4,none⟩ (.slice none 0 0))=ww at *
    obtain⟨z0,z1,z2,z3,z4⟩:=Box.fiveR WX.o;exact bodyPost_ret (v:=.agg #[.int .i64 ger,.int .i64 0,.string ⟨tx.toArray⟩,.int .i64 0,.slice none 0 0]) (by simp[results,Tryz.results17,go_sem,z0,z1,z2,z3,z4]) rfl ((fun w' _ hw=>(⟨⟨ger,0,tx,0,[]⟩,none,0,0,rfl,Sl.nil0,EQ.o,hw⟩:r6 s w (.returned (VS (ger) (0) (tx) (0) none 0 0)) w')) ww WI.o WD.o)
  ·have h2i:(mer != 0)=true:=by simp[h2]
   have EQ:=aA (show rZ s ⟨mer,0,[],0,[]⟩ by unfold rZ;rw[if_neg E1.o,if_pos (by rw[←HM.o];exact h2),HM.o]);clear h2;have IK:=aA (show ∀w',w4.grownBy w' (some w.heap.size)→aJ w' none 0 0 []from fun w' _=>Sl.nil0);obtain⟨u0,u1,u2,u3,u4⟩:=Box.fiveR X4.o;have fz:=fun q=>X4.o.frozen q
   have GG:=jQ w4 w.heap.size (.int .i64 mer) (.int .i64 0) (.string ⟨#[]⟩) (.int .i64 0) (.slice none 0 0);have WX:=aA (Box.set5R X4.o (.int .i64 mer) (.int .i64 0) (.string ⟨#[]⟩) (.int .i64 0) (.slice none 0 0));have WD:=aA (D4.o.grown GG D4.o.size (fun q hq=>by injection hq with hq;omega));have WI:=aA (show aJ (((((w4.setCell ⟨w.heap.size,0,none⟩ (.int .i64 mer)).setCell ⟨w.heap.size,1,none⟩ (.int .i64 0)).setCell ⟨w.heap.size,2,none⟩ (.string ⟨#[]⟩)).setCell ⟨w.heap.size,3,none⟩ (.int .i64 0)).setCell ⟨w.heap.size,4,none⟩ (.slice none 0 0)) none 0 0 []from IK.o _ GG);clear GG;go_wp2
   generalize (((((w4.setCell ⟨w.heap.size,0,none⟩ (.int .i64 mer)).setCell ⟨w.heap.size,1,none⟩ (.int .i64 0)).setCell ⟨w.heap.size,2,none⟩ (.string ⟨#[]⟩)).setCell ⟨w.heap.size,3,none⟩ (.int .i64 0)).setCell ⟨w.heap.size,4,none⟩ (.slice none 0 0))=ww at *
   obtain⟨z0,z1,z2,z3,z4⟩:=Box.fiveR WX.o;exact bodyPost_ret (v:=.agg #[.int .i64 mer,.int .i64 0,.string ⟨#[]⟩,.int .i64 0,.slice none 0 0]) (by simp[results,Tryz.results17,go_sem,z0,z1,z2,z3,z4]) rfl ((fun w' _ hw=>(⟨⟨mer,0,[],0,[]⟩,none,0,0,rfl,Sl.nil0,EQ.o,hw⟩:r6 s w (.returned (VS (mer) (0) ([]) (0) none 0 0)) w')) ww WI.o WD.o)
 ·have h1i:(ler != 0)=true:=by simp[h1]
  have EQ:=aA (show rZ s ⟨ler,lin,[],0,[]⟩ by unfold rZ;rw[if_pos (by rw[←HL.o.2];exact h1),HL.o.1,HL.o.2]);clear h1;have IK:=aA (show ∀w',w2.grownBy w' (some w.heap.size)→aJ w' none 0 0 []from fun w' _=>Sl.nil0);obtain⟨u0,u1,u2,u3,u4⟩:=Box.fiveR X2.o;have fz:=fun q=>X2.o.frozen q
  have GG:=jQ w2 w.heap.size (.int .i64 ler) (.int .i64 lin) (.string ⟨#[]⟩) (.int .i64 0) (.slice none 0 0);have WX:=aA (Box.set5R X2.o (.int .i64 ler) (.int .i64 lin) (.string ⟨#[]⟩) (.int .i64 0) (.slice none 0 0));have WD:=aA (D2.o.grown GG D2.o.size (fun q hq=>by injection hq with hq;omega));have WI:=aA (show aJ (((((w2.setCell ⟨w.heap.size,0,none⟩ (.int .i64 ler)).setCell ⟨w.heap.size,1,none⟩ (.int .i64 lin)).setCell ⟨w.heap.size,2,none⟩ (.string ⟨#[]⟩)).setCell ⟨w.heap.size,3,none⟩ (.int .i64 0)).setCell ⟨w.heap.size,4,none⟩ (.slice none 0 0)) none 0 0 []from IK.o _ GG);clear GG;go_wp2
  generalize (((((w2.setCell ⟨w.heap.size,0,none⟩ (.int .i64 ler)).setCell ⟨w.heap.size,1,none⟩ (.int .i64 lin)).setCell ⟨w.heap.size,2,none⟩ (.string ⟨#[]⟩)).setCell ⟨w.heap.size,3,none⟩ (.int .i64 0)).setCell ⟨w.heap.size,4,none⟩ (.slice none 0 0))=ww at *
  obtain⟨z0,z1,z2,z3,z4⟩:=Box.fiveR WX.o;exact bodyPost_ret (v:=.agg #[.int .i64 ler,.int .i64 lin,.string ⟨#[]⟩,.int .i64 0,.slice none 0 0]) (by simp[results,Tryz.results17,go_sem,z0,z1,z2,z3,z4]) rfl ((fun w' _ hw=>(⟨⟨ler,lin,[],0,[]⟩,none,0,0,rfl,Sl.nil0,EQ.o,hw⟩:r6 s w (.returned (VS (ler) (lin) ([]) (0) none 0 0)) w')) ww WI.o WD.o)
end Go.Proofs.YtfmnagcglhlicaaGreat
