/- Texts melted into one: The reference's WMine. Conditions: the log reads as lists. | XTell: what it answers. Conditions: the text is not too long. | The law BenchTells as a call: it returns true. Conditions: the text is not too long. -/
import Derived.Test.YtgnljpnlolkalaaGreatBenchTellsK21
import Derived.Test.YtgnljpnlolkalaaGreatBenchTellsK20
import Derived.Test.YtgnljpnlolkalaaGreatBenchTellsK23
import Derived.Test.YtgnljpnlolkalaaGreatBenchTellsK22
set_option linter.all false
set_option maxRecDepth 100000
set_option maxHeartbeats 16000000
namespace Go.Proofs.YtgnljpnlolkalaaGreat
open Go.RowKit Go.Maps
def YN:∀f,F8 f
 | 0=>λw A n c log h a=>by
  have hp:eZ log (q7 log 26 26 26 26 0):=by
   have:=(vY a.1).2;rwa[aG a.1]at this
  have:=a.2 _ hp;omega
 | f+1=>P8 (YN f)
def LP {w:World}{A:OAd}{n c:Nat}{log:LLi}(h:cQ w A n c log) :
  Calls Tryz.prog 15 #[.slice A n c] w (rT log w):=by
 have L:=aA (aF w (.cells #[(0:Int),(0:Int),()] 35));have u:=aA (Box.new w #[(0:Int),(0:Int),()] 35);have H:=aA (Sl.keep cS.kept h L.o);clear h;go_enter Tryz.func15,Tryz.ntmps15
 go_upto_region 1 with fail
 generalize w.alloc (.cells #[(0:Int),(0:Int),()] 35)=w1 at *
 have Z:=aA (xF H.o);go_wp2_with fail
 refine Z.o.mono ?_;rintro e w2 ⟨rfl,rfl⟩;have M:=aA u.o.lt;obtain⟨z,N⟩:=aK (eI log);have O:=aA N;rw[N];clear N Z;by_cases s:z=0
 .have P:(z != 0)=false:=by simp[s]
  have Q:=aA (show eI log=0 from O.o.trans s);have CF:=aA (YN 60 w1 A n c log H.o (vZ.start Q.o));clear s;go_wp2_with fail
  refine CF.o.mono ?_;rintro e x ⟨v3,rfl,⟨a,b,d,rfl,s3,p3⟩,l⟩;have B:=s3.imp (λ_ _ r=>qM.toD 62 r);have BA:=aA (show fF (λq=>w1.heap.size<=q) 62 x (.agg #[.int .i64 (aX 60 log).kind,.int .i64 (aX 60 log).label,.slice a b d]) (aX 60 log)from⟨a,b,d,rfl,s3,p3⟩);have WE:=aA (show eK (.mk (aX 60 log).kind (aX 60 log).label (aX 60 log).kids)=eK (aX 60 log) by cases aX 60 log;rfl);obtain⟨kd,m⟩:=bS ((aX 60 log).kind);obtain⟨lb,o⟩:=bS ((aX 60 log).label);rw[<-m,<-o]at BA WE;rw[<-m,<-o];have R:=aA (aF x (.cells #[kd,lb,.slice a b d] 35));have TB:=aA (Box.new x #[kd,lb,.slice a b d] 35);have S:=aA (nP (kd:=kd) (lb:=lb) (pQ.keep B R.o));have C:=aA (l.trans (R.o.mono l.size));have T:=aA (BA.o.keep R.o);clear s3 p3 B l m o CF;go_upto_region 5 with fail
  generalize x.alloc (.cells #[kd,lb,.slice a b d] 35)=w4 at *
  generalize x.heap.size=bz at *
  obtain⟨t0,t1,t2⟩:=TB.o.three;obtain⟨y,U⟩:=aK (eK (aX 60 log));have V:=aA U;rw[WE.o,U]at S;clear U;go_wp2_with fail
  refine S.o.mono ?_;rintro e W ⟨rfl,i⟩;have p:=aA (C.o.trans (i.mono C.o.size));have X:=aA (T.o.keep i);have t:=aA (u.o.keep p.o);obtain⟨t0,t1,t2⟩:=(TB.o.keep i).three;clear i S;by_cases f:y=0
  .have D:(y != 0)=false:=by simp[f]
   have k:=aA (show eL log=(0,aX 60 log) by unfold eL;rw[aD (by rw[Q.o];exact λh=>h rfl),aD (by rw[V.o];exact λh=>h f)]);have E:=aA (show ∀(w':World) (v:Value),fF (λj=>w.heap.size<=j) 62 w' v (aX 60 log)->Below w w w'->rT log w (.returned (.tuple #[v,(0:Int)])) w' from λw' v F G=>⟨v,by rw[k.o],by rw[k.o];exact F.toV,G⟩);clear f;obtain⟨u0,u1,u2⟩:=t.o.three;have fz:=λq=>t.o.frozen q
   have g:=aA (dR (w:=w) X.o t.o p.o L.o M.o (aB _));go_wp2
   generalize (((W.setCell w kd).setCell ⟨w,1,none⟩ lb).setCell ⟨w,2,none⟩ (.slice a b d))=I at *
   obtain⟨z0,J,K⟩:=g.o.1.three;exact aU (v:=.tuple #[.agg #[kd,lb,.slice a b d],(0:Int)]) (by simp[results,Tryz.results15,go_sem,z0,J,K]) rfl (E.o I _ g.o.2.1 g.o.2.2)
  have D:(y != 0)=true:=by simp[f]
  have k:=aA (show eL log=(y,gX) by unfold eL;rw[aD (by rw[Q.o];exact λh=>h rfl),aG (by rw[V.o];exact f),V.o]);have E:=aA (show ∀(w':World) (v:Value),fF (λj=>w.heap.size<=j) 62 w' v (gX)->Below w w w'->rT log w (.returned (.tuple #[v,.int .i64 y])) w' from λw' v F G=>⟨v,by rw[k.o],by rw[k.o];exact F.toV,G⟩);have Y:=aA (show fF (λq=>w1.heap.size<=q) 62 W (.agg #[(0:Int),(0:Int),()]) gX from⟨none,0,0,rfl,Sl.nil0,λh=>absurd h (by omega)⟩);clear f;obtain⟨u0,u1,u2⟩:=t.o.three;have fz:=λq=>t.o.frozen q
  have g:=aA (dR (w:=w) Y.o t.o p.o L.o M.o (aB _));go_wp2
  generalize (((W.setCell w (.int .i64 0)).setCell ⟨w,1,none⟩ (.int .i64 0)).setCell ⟨w,2,none⟩ ())=I at *
  obtain⟨z0,J,K⟩:=g.o.1.three;exact aU (v:=.tuple #[.agg #[(0:Int),(0:Int),()],.int .i64 y]) (by simp[results,Tryz.results15,go_sem,z0,J,K]) rfl (E.o I _ g.o.2.1 g.o.2.2)
 .have P:(z != 0)=true:=by simp[s]
  have k:=aA (show eL log=(z,gX) by unfold eL;rw[aG (by rw[O.o];exact s),O.o]);have E:=aA (show ∀(w':World) (v:Value),fF (λj=>w.heap.size<=j) 62 w' v (gX)->Below w w w'->rT log w (.returned (.tuple #[v,.int .i64 z])) w' from λw' v F G=>⟨v,by rw[k.o],by rw[k.o];exact F.toV,G⟩);have Y:=aA (show fF (λq=>w1.heap.size<=q) 62 w1 (.agg #[(0:Int),(0:Int),()]) gX from⟨none,0,0,rfl,Sl.nil0,λh=>absurd h (by omega)⟩);clear s;obtain⟨u0,u1,u2⟩:=u.o.three;have fz:=λq=>u.o.frozen q
  have g:=aA (dR (w:=w) Y.o u.o (aH _ _) L.o M.o (aB _));go_wp2
  generalize (((w1.setCell w (.int .i64 0)).setCell ⟨w,1,none⟩ (.int .i64 0)).setCell ⟨w,2,none⟩ ())=I at *
  obtain⟨z0,J,K⟩:=g.o.1.three;exact aU (v:=.tuple #[.agg #[(0:Int),(0:Int),()],.int .i64 z]) (by simp[results,Tryz.results15,go_sem,z0,J,K]) rfl (E.o I _ g.o.2.1 g.o.2.2)
def Qa {N:eB}{i o most:Int}(h:(gP N i o most).2≠0):(gP N i o most).1.1=0:=by
 unfold gP at h ⊢;split
 .rename_i a
  rw[aG a]at h;split
  .rename_i b;rw[aG b]at h;exact absurd rfl h
  rfl
 rfl
def LQ (s:List UInt8)(hs:s.length<=1048576)(w:World):Calls Tryz.prog 6 #[.string ⟨s.toArray⟩] w (oG s w):=by
 have B0:=aA (aF w (.cells #[(0:Int),(0:Int),.string ⟨#[]⟩,(0:Int),()] 26));have X0:=aA (Box.new w #[(0:Int),(0:Int),.string ⟨#[]⟩,(0:Int),()] 26);have HS:=aA hs;clear hs;go_enter Tryz.func6,Tryz.ntmps6
 go_upto_region 1 with fail
 generalize w.alloc (.cells #[(0:Int),(0:Int),.string ⟨#[]⟩,(0:Int),()] 26)=w1 at *
 have W1:=aA X0.o.lt;have CL:=aA (PV s HS.o w1);go_wp2_with fail
 refine CL.o.mono ?_;rintro e w2 ⟨A,n,c,rfl,own,a3⟩;have h5:=aA (show(jG s).1.length<=1048576 from aT N9 HS.o);have LL:=aA (Es own h5.o);have D2:=aA (B0.o.trans (a3.mono B0.o.size));have X2:=aA (X0.o.keep a3);have W2:=aA (bD W1.o a3.size);obtain⟨y,Q⟩:=bS ((jG s).2.1);obtain⟨f,R⟩:=bS ((jG s).2.2);rw[<-Q,<-R];have HL:=aA (And.intro Q R);clear own a3 CL Q R;by_cases r:f=0
 rotate_left
 .have h6:(f != 0)=true:=by simp[r]
  have EQ:=aA (show lU s ⟨f,y,[],0,[]⟩ by unfold lU;rw[aG (by rw[<-HL.o.2];exact r),HL.o.1,HL.o.2]);clear r;have IK:=aA (show ∀w',w2.grownBy w' (some w)->aY w' none 0 0 []from λw' _=>Sl.nil0);obtain⟨u0,u1,u2,u3,u4⟩:=Box.fiveR X2.o;have fz:=λq=>X2.o.frozen q
  have C:=iY w2 w f y (.string ⟨#[]⟩) (.int .i64 0) ();have WX:=aA (Box.set5R X2.o f y (.string ⟨#[]⟩) (.int .i64 0) ());have WD:=aA (D2.o.grown C D2.o.size (λq a=>by injection a with a;omega));have WI:=aA (show aY (((((w2.setCell w f).setCell ⟨w,1,none⟩ y).setCell ⟨w,2,none⟩ (.string ⟨#[]⟩)).setCell ⟨w,3,none⟩ (.int .i64 0)).setCell ⟨w,4,none⟩ ()) none 0 0 []from IK.o _ C);clear C;go_wp2
  generalize (((((w2.setCell w f).setCell ⟨w,1,none⟩ y).setCell ⟨w,2,none⟩ (.string ⟨#[]⟩)).setCell ⟨w,3,none⟩ (.int .i64 0)).setCell ⟨w,4,none⟩ ())=ww at *
  obtain⟨z0,z1,z2,z3,z4⟩:=Box.fiveR WX.o;exact aU (v:=.agg #[f,y,.string ⟨#[]⟩,(0:Int),()]) (by simp[results,Tryz.results6,go_sem,z0,z1,z2,z3,z4]) rfl ((λw' _ hw=>(⟨⟨f,y,[],0,[]⟩,none,0,0,rfl,Sl.nil0,EQ.o,hw⟩:oG s w (.returned (Tu (f) (y) ([]) (0) none 0 0)) w')) ww WI.o WD.o)
 have h6:(f != 0)=false:=by simp[r]
 have E1:=aA (show ¬(jG s).2.2≠0 by rw[<-HL.o.2,r];exact λh=>h rfl);have CM:=aA (LP LL.o);clear r;go_wp2_with fail
 refine CM.o.mono ?_;rintro e w3 ⟨v3,rfl,⟨A3,n3,c3,rfl,s3⟩,c6⟩;have BV:=aA (show pQ 62 w3 A3 n3 c3 (eL (jG s).1).2.kids from s3);obtain⟨B,hB⟩:=bS ((eL (jG s).1).2);rw[<-hB]at BV;rw[<-hB];have d0:=aA hB;obtain⟨kd,lb,ks⟩:=B;simp only[bH.kids]at BV;simp only[bH.kind,bH.label];obtain⟨g,S⟩:=bS ((eL (jG s).1).1);rw[<-S];have HM:=aA S;have B4:=aA (aF w3 (.cells #[kd,lb,.slice A3 n3 c3] 35));have T6:=aA (Box.new w3 #[kd,lb,.slice A3 n3 c3] 35);have f0:=aA (pQ.keep BV.o B4.o);have a4:=aA (c6.trans (B4.o.mono c6.size));have X4:=aA (X2.o.keep a4.o);have D4:=aA (D2.o.trans (a4.o.mono D2.o.size));have f1:=aA (Sl.keep cS.kept LL.o a4.o);have W4:=aA (bD W2.o a4.o.size);clear s3 c6 hB S CM BV;go_upto_region 5 with fail
 generalize w3.alloc (.cells #[kd,lb,.slice A3 n3 c3] 35)=w4 at *
 generalize w3.heap.size=b6 at T6;by_cases H:g=0
 rotate_left
 .have h7:(g != 0)=true:=by simp[H]
  have EQ:=aA (show lU s ⟨g,0,[],0,[]⟩ by unfold lU;rw[aD E1.o,aG (by rw[<-HM.o];exact H),HM.o]);clear H;have IK:=aA (show ∀w',w4.grownBy w' (some w)->aY w' none 0 0 []from λw' _=>Sl.nil0);obtain⟨u0,u1,u2,u3,u4⟩:=Box.fiveR X4.o;have fz:=λq=>X4.o.frozen q
  have C:=iY w4 w g (.int .i64 0) (.string ⟨#[]⟩) (.int .i64 0) ();have WX:=aA (Box.set5R X4.o g (.int .i64 0) (.string ⟨#[]⟩) (.int .i64 0) ());have WD:=aA (D4.o.grown C D4.o.size (λq a=>by injection a with a;omega));have WI:=aA (show aY (((((w4.setCell w g).setCell ⟨w,1,none⟩ (.int .i64 0)).setCell ⟨w,2,none⟩ (.string ⟨#[]⟩)).setCell ⟨w,3,none⟩ (.int .i64 0)).setCell ⟨w,4,none⟩ ()) none 0 0 []from IK.o _ C);clear C;go_wp2
  generalize (((((w4.setCell w g).setCell ⟨w,1,none⟩ (.int .i64 0)).setCell ⟨w,2,none⟩ (.string ⟨#[]⟩)).setCell ⟨w,3,none⟩ (.int .i64 0)).setCell ⟨w,4,none⟩ ())=ww at *
  obtain⟨z0,z1,z2,z3,z4⟩:=Box.fiveR WX.o;exact aU (v:=.agg #[g,(0:Int),.string ⟨#[]⟩,(0:Int),()]) (by simp[results,Tryz.results6,go_sem,z0,z1,z2,z3,z4]) rfl ((λw' _ hw=>(⟨⟨g,0,[],0,[]⟩,none,0,0,rfl,Sl.nil0,EQ.o,hw⟩:oG s w (.returned (Tu (g) (0) ([]) (0) none 0 0)) w')) ww WI.o WD.o)
 have h7:(g != 0)=false:=by simp[H]
 have E2:=aA (show ¬(eL (jG s).1).1≠0 by rw[<-HM.o,H];exact λh=>h rfl);have f2:=aA (Jt (oP.1 E2.o));have HW:=aA (show(bY 41 (.mk kd lb ks) 0).2=0 from by have:=f2.o.2;rw[<-d0.o]at this;exact this);have CW:=aA (AH 41 62 kd lb A3 n3 c3 ks w4 0 f0.o HW.o);obtain⟨t0,t1,t2⟩:=T6.o.three;clear H;go_wp2_with fail
 refine CW.o.mono ?_;rintro e w5 ⟨rfl,T⟩;obtain⟨l,d1⟩:=bS (lZ 41 (.mk kd lb ks));rw[<-d1];have d2:=aA (show l=lZ 41 (eL (jG s).1).2 by rw[d1,d0.o]);have B6:=aA (aF w5 (.cells #[(0:Int),(0:Int),.string ⟨l.toArray⟩,(0:Int),()] 26));have T7:=aA (Box.new w5 #[(0:Int),(0:Int),.string ⟨l.toArray⟩,(0:Int),()] 26);have I:=aA (T.trans (B6.o.mono T.size));have h8:=aA (pQ.keep f0.o I.o);have X6:=aA (X4.o.keep I.o);have D6:=aA (D4.o.trans (I.o.mono D4.o.size));have m3:=aA (Sl.keep cS.kept f1.o I.o);have W6:=aA (bD W4.o I.o.size);have h9:=aA (T6.o.keep I.o);have W7:=aA (show w5.heap.size<(w5.alloc (.cells #[(0:Int),(0:Int),.string ⟨l.toArray⟩,(0:Int),()] 26)).heap.size from T7.o.lt);have i0:=aA (Sl.keep cS.kept f1.o T);have f3:=aA B6.o;have z:=aA (show w.heap.size<w5.heap.size from bD W4.o T.size);clear T d1 CW t0 t1 t2;go_upto_region 8 with fail
 generalize w5.alloc (.cells #[(0:Int),(0:Int),.string ⟨l.toArray⟩,(0:Int),()] 26)=w6 at *
 obtain⟨i,E⟩:=bS (w5.heap.size);rw[<-E]at T7 W7 z;rw[<-E];have d3:=aA E;clear E;obtain⟨t0,t1,t2⟩:=h9.o.three;have CG:=aA (Jx (kd:=kd) (lb:=lb) h8.o);go_wp2_with fail
 refine CG.o.mono ?_;rintro e w7 ⟨A7,U,c7,rfl,d4,V,a5⟩;obtain⟨N,hN⟩:=bS ((hJ (.mk kd lb ks)).1);obtain⟨J,F⟩:=bS ((hJ (.mk kd lb ks)).2);rw[<-hN,<-F]at V;rw[<-hN]at d4;rw[<-hN,<-F];have HG:=aA (show N=(hJ (eL (jG s).1).2).1/\J=(hJ (eL (jG s).1).2).2 by rw[<-d0.o];exact⟨hN,F⟩);have B8:=aA (aF w7 (.cells #[.int .i64 N.places,.slice A7 U c7] 41));have T8:=aA (Box.new w7 #[.int .i64 N.places,.slice A7 U c7] 41);have a6:=aA (a5.trans (B8.o.mono a5.size));have f4:=aA (d4.keep B8.o);have X8:=aA (X6.o.keep a6.o);have D8:=aA (D6.o.trans (a6.o.mono D6.o.size));have f5:=aA (T7.o.keep a6.o);have d5:=aA (f3.o.trans (a6.o.mono f3.o.size));have f6:=aA (λh:J=0=>aJ.keep (bT.kept _) (V h) B8.o);have a9:=aA (show i<w7.heap.size from bD W7.o a5.size);clear d4 V a5 hN F CG t0 t1 t2;go_upto_region 9 with fail
 generalize w7.alloc (.cells #[.int .i64 N.places,.slice A7 U c7] 41)=W at *
 generalize w7.heap.size=b8 at T8 a9;have X:=aA (show(jG s).1.length=n/\n<=60 from⟨LL.o.len,by rw[<-LL.o.len];exact(fX.1 f2.o.1).1⟩);go_upto_if 42 with fail
 go_cut [5] (λs5 wx=>∃b d:Int,s5=b/\Hid ((b=0->U<=24/\N=(hJ (eL (jG s).1).2).1/\∀cs,vL N (jG s).1 cs->lU s ⟨0,0,l,d,cs⟩)/\(b≠0->lU s ⟨b,0,l,d,[]⟩))/\Hid (Box wx i 26 #[(0:Int),(0:Int),.string ⟨l.toArray⟩,d,()])/\Hid (Box wx w 26 #[(0:Int),(0:Int),.string ⟨#[]⟩,(0:Int),()])/\Hid (Below w w wx)/\Hid (Box wx b8 41 #[.int .i64 N.places,.slice A7 U c7])/\Hid (Below w5 w5 wx)/\Hid (b=0->aJ (bT w6) 3 wx w6 74 (.slice A7 U c7) U N.trans))
 case first =>
  by_cases h3:J=0
  rotate_left
  .have i1:(J==0)=false:=by simp[h3]
   go_wp2
   go_meet
   refine⟨J,0,rfl,aA ⟨λh=>absurd h h3,λh4=>?_⟩,f5,X8,D8,T8,d5,f6⟩;unfold lU;rw[aD E1.o,aD E2.o,aG (by rw[<-HG.o.2];exact h3),d2.o,HG.o.2]
  have i1:(J==0)=true:=by simp[h3]
  have E3:=aA (show ¬(hJ (eL (jG s).1).2).2≠0 by rw[<-HG.o.2,h3];exact λh=>h rfl);have i2:=aA h3;have b3:=aA (show U<=24 from by have:=N8 (oP.1 E3.o);rw[<-HG.o.1,f4.o.len]at this;exact this);have B9:=aA (aF W (.cells #[(0:Int),(),(0:Int)] 45));have T9:=aA (Box.new W #[(0:Int),(),(0:Int)] 45);have CJ:=aA (Cf (P:=N.places) 0 1 300 (f4.o.keep B9.o) (by have:=b3.o;omega));have i3:=aA (show(⟨N.places,N.trans⟩:eB)=N from rfl);rw[i3.o]at CJ;obtain⟨t0,t1⟩:=(T8.o.keep B9.o).two;clear h3;go_upto_region 11 with fail
  generalize W.alloc (.cells #[(0:Int),(),(0:Int)] 45)=wv at *
  have i4:=aA (show b8<W.heap.size from T8.o.lt);obtain⟨b9,G⟩:=bS (W.heap.size);rw[<-G]at T9;try rw[<-G]
  have j0:=aA G;clear G i4;go_wp2_with fail
  refine CJ.o.mono ?_;rintro e w9 ⟨A9,n9,c9,rfl,i9,d6⟩;obtain⟨d,d7⟩:=bS ((gP N 0 1 300).1.1);obtain⟨jt,g0⟩:=bS ((gP N 0 1 300).1.2.2);obtain⟨g1,Y⟩:=bS ((gP N 0 1 300).2);rw[<-d7,<-g0,<-Y];have HJ:=aA (show d=(gP (hJ (eL (jG s).1).2).1 0 1 300).1.1/\g1=(gP (hJ (eL (jG s).1).2).1 0 1 300).2 by rw[<-HG.o.1];exact⟨d7,Y⟩);have g2:=aA (B9.o.trans (d6.mono B9.o.size));have e0:=aA (T9.o.keep d6);have S9:=mK w9 b9 d (.slice A9 n9 c9) jt;have TV:=aA (show Box (((w9.setCell b9 d).setCell ⟨b9,1,none⟩ (.slice A9 n9 c9)).setCell ⟨b9,2,none⟩ jt) b9 45 #[d,.slice A9 n9 c9,jt]from by have:=((e0.o.set 0 d).set 1 (.slice A9 n9 c9)).set 2 jt;simpa using this);obtain⟨c0,c1,c2⟩:=e0.o.three;have fz:=λq=>e0.o.frozen q
  have BZ:=aA (g2.o.grown S9 g2.o.size (λq a=>by injection a with a;have:=j0.o;omega));clear i9 d6 d7 g0 Y CJ t0 t1 S9;go_upto_region 12 with fail
  clear c0 c1 c2 fz;generalize ((w9.setCell b9 d).setCell ⟨b9,1,none⟩ (.slice A9 n9 c9)).setCell ⟨b9,2,none⟩ jt=g3 at *
  have Z:=aA (f5.o.keep BZ.o);have g4:=aA (D8.o.trans (BZ.o.mono D8.o.size));have b4:=aA (d5.o.trans (BZ.o.mono d5.o.size));have c0:=TV.o.cell 0;obtain⟨v0,v1,v2,v3,v4⟩:=Box.fiveR Z.o;have fy:=Z.o.frozen 3;have GX:=dI g3 i 3 d;have a0:=aA (show Box (g3.setCell ⟨i,3,none⟩ d) i 26 #[(0:Int),(0:Int),.string ⟨l.toArray⟩,d,()]from by have:=Z.o.set 3 d;simpa using this);have XX:=aA ((X8.o.keep BZ.o).grown GX (λe=>by injection e with e;have:=z.o;omega));have e4:=aA ((T8.o.keep BZ.o).grown GX (λe=>by injection e with e;have:=a9.o;omega));have DX:=aA (g4.o.grown GX g4.o.size (λq a=>by injection a with a;have:=z.o;omega));have b0:=aA (b4.o.grown GX b4.o.size (λq a=>by injection a with a;have:=d3.o;omega));have b1:=aA (gK (j:=3) (u:=d) (aJ.keep (bT.kept _) (f6.o i2.o) BZ.o) W7.o).o;clear GX;go_wp2
  go_meet
  refine⟨g1,d,rfl,aA ⟨λh4=>⟨b3.o,HG.o.1,λcs j1=>?_⟩,λh4=>?_⟩,a0,XX,DX,e4,b0,aA (λ_=>b1.o)⟩
  .unfold lU;rw[aD E1.o,aD E2.o,aD E3.o,aD (by rw[<-HJ.o.2,h4];exact λh=>h rfl)];exact⟨rfl,rfl,d2.o,HJ.o.1,by rw[<-HG.o.1];exact j1⟩
  have hz:d=0:=by rw[HJ.o.1];exact Qa (by rw[<-HJ.o.2];exact h4)
  unfold lU;rw[aD E1.o,aD E2.o,aD E3.o,aG (by rw[<-HJ.o.2];exact h4),d2.o,HJ.o.2,hz]
 obtain⟨b,d,rfl,FT,e5,Xc,Dc,j2,g5,k0⟩:=hcut;obtain⟨wd,k1⟩:∃wd:World,wd=wc:=⟨_,rfl⟩;subst k1;obtain⟨t0,t1,t2,t3,t4⟩:=Box.fiveR e5.o;have fy:=e5.o.frozen 0;have GX:=dI wd i 0 b;have a0:=aA (show Box (wd.setCell i b) i 26 #[b,(0:Int),.string ⟨l.toArray⟩,d,()]from by have:=e5.o.set 0 b;simpa using this);have XX:=aA (Xc.o.grown GX (λe=>by injection e with e;have:=z.o;omega));have e4:=aA (j2.o.grown GX (λe=>by injection e with e;have:=a9.o;omega));have DX:=aA (Dc.o.grown GX Dc.o.size (λq a=>by injection a with a;have:=z.o;omega));have b0:=aA (g5.o.grown GX g5.o.size (λq a=>by injection a with a;have:=d3.o;omega));have b1:=aA (λh:b=0=>(gK (j:=0) (u:=b) (k0.o h) W7.o).o);have e6:=aA (show i<(wd.setCell i b).heap.size from a0.o.lt);clear GX;go_upto_region 14 with fail
 clear t0 t1 t2 t3 t4 fy;generalize k2:wd.setCell i b=wL at *
 clear k2;go_wp2
 go_loopg [10,11,12] n (λgk k3 _ _ wr=>∃(k:Nat) (v:Value) (cs:LIn),k3=.int .i64 (k:Nat)/\Hid (k+gk=n)/\Hid (b≠0->k=0)/\Hid (aI wr wL v k cs)/\Hid (vL N ((jG s).1.take k) cs)/\Hid (wL.grownBy wr (some i))/\Hid (Box wr i 26 #[b,(0:Int),.string ⟨l.toArray⟩,d,v]))
 case atStart=>exact⟨0,_,[],rfl,aA (by omega),aA (λ_=>rfl),aA aJ.nil,aA ⟨rfl,λk t c h=>by simp at h⟩,aA ⟨rfl,rfl,rfl,aB _,λ_ _ _=>rfl⟩,a0⟩
 clear a0;obtain⟨k,v,cs,rfl,e7,k4,OB,CP,K,TX⟩:=hrel;obtain⟨AV,cV,rfl,iv⟩:=OB.o.sl (by have:=e7.o;have:=X.o;omega);have IV:=aA iv;have XR:=aA (XX.o.grown K.o (λe=>by injection e with e;have:=z.o;omega));have DR:=aA (DX.o.grown K.o DX.o.size (λq a=>by injection a with a;have:=z.o;omega));clear iv;by_cases L:b=0/\k<n
 rotate_left
 .have EQ:Hid (lU s ⟨b,0,l,d,cs⟩)/\(((b==0)=false)∨((b==0)=true/\¬(k:Int)<(n:Int))):=by
   by_cases h0:b=0
   .have k5:k=n:=by have:=e7.o;exact Nat.le_antisymm (by omega) (Nat.le_of_not_lt λh=>L ⟨h0,h⟩)
    have r:=CP.o;rw[aW (by rw[X.o.1,k5];exact aB _)]at r;refine⟨aA ?_,.inr ⟨by simp[h0],by omega⟩⟩;rw[h0];exact(FT.o.1 h0).2.2 cs r
   obtain rfl:=k4.o h0;have r:=CP.o.1;obtain rfl:cs=[]:=dS r;exact⟨aA (FT.o.2 h0),.inl (by simp[h0])⟩
  obtain⟨EQ,hE⟩:=EQ;clear L;obtain⟨t0,t1,t2,t3,t4⟩:=Box.fiveR TX.o;have IK:=aA (show ∀w',wr.grownBy w' (some w)->aY w' AV k cV cs from λw' hg=>aY.keepRow IV.o hg (.inr (λe=>by have:=(OB.o.lt _ e.symm).1;have:=e6.o;have:=z.o;omega)));obtain⟨u0,u1,u2,u3,u4⟩:=Box.fiveR XR.o;have fz:=λq=>XR.o.frozen q
  have C:=iY wr w b (.int .i64 0) (.string ⟨l.toArray⟩) d (.slice AV k cV);have WX:=aA (Box.set5R XR.o b (.int .i64 0) (.string ⟨l.toArray⟩) d (.slice AV k cV));have WD:=aA (DR.o.grown C DR.o.size (λq a=>by injection a with a;omega));have WI:=aA (IK.o _ C);clear C IK;rcases hE with hE|⟨hE,k6⟩
  all_goals
   go_wp2
   generalize (((((wr.setCell w b).setCell ⟨w,1,none⟩ (.int .i64 0)).setCell ⟨w,2,none⟩ (.string ⟨l.toArray⟩)).setCell ⟨w,3,none⟩ d).setCell ⟨w,4,none⟩ (.slice AV k cV))=ww at *
   obtain⟨z0,z1,z2,z3,z4⟩:=Box.fiveR WX.o;exact aU (v:=.agg #[b,(0:Int),.string ⟨l.toArray⟩,d,.slice AV k cV]) (by simp[results,Tryz.results6,go_sem,z0,z1,z2,z3,z4]) rfl ((λw' hi hw=>(⟨⟨b,0,l,d,cs⟩,AV,k,cV,rfl,hi,EQ.o,hw⟩:oG s w (.returned (Tu b 0 l d AV k cV)) w')) ww WI.o WD.o)
 have hE:(b==0)=true:=by simp[L.1]
 have k6:(k:Int)<(n:Int):=by have:=L.2;omega
 have M:=aA L;clear L;have HF:=aA (FT.o.1 M.o.1);have k7:=aA (Sl.keep cS.kept i0.o (b0.o.grown K.o b0.o.size (λq a=>by injection a with a;have:=d3.o;omega)));obtain⟨bb,b5,t,Bt,mt,dt,eA,g6,c5,q0,it,k8⟩:=cQ.get k7.o M.o.2;subst eA;have b2:=aA (show gk-1<gk/\(k+1)+(gk-1)=n/\k<=60 by have:=M.o.2;have:=e7.o;have:=X.o;omega);have m4:IntKind.i64.wrap ((k:Int)+1)=((k+1:Nat):Int):=by
  have:=b2.o;simp[IntKind.wrap,IntKind.bits,IntKind.signed];omega
 have k9:=aA (aJ.kept (b1.o M.o.1) K.o (.inr (λe=>by have:=((b1.o M.o.1).lt _ e).1;have:=W7.o;omega)) (λvs x hx=>hx.far K.o W7.o));have l0:=aA (show eC wr A7 U c7 N.trans from by
  obtain⟨C',c2,hv,hs⟩:=k9.o.sl (by have:=HF.o.1;omega);injection hv with e1 e2 e3;subst e1 e3;exact hs.imp (λ_ _ h=>h.tran))
 have g7:=aA (e4.o.grown K.o (λe=>by injection e with e;have:=a9.o;omega));have HD:=aA ((aH wr wr).drew);have CA:=aA (LO (P:=N.places) 0 1 (l0.o.keep HD.o) (by have:=HF.o.1;omega) (it.keep HD.o));have a1:=aA (show ∀w',Below wr wr w'->w'.cell? b8=some (.int .i64 N.places)/\w'.cell? ⟨b8,1,none⟩=some (.slice A7 U c7)/\w'.cell? ⟨bb,b5+k,none⟩=some (.slice Bt mt dt)from λw' hb=>⟨(g7.o.keep hb).two.1,(g7.o.keep hb).two.2,(hb.cell (p:=⟨bb,_,none⟩) g6).trans q0⟩);clear g6 it k8 q0;obtain⟨z0,z1,q0⟩:=a1.o wr.drew HD.o;go_wp2
 go_region_held3 (λw'=>w'.cell? b8=some (.int .i64 N.places)/\w'.cell? ⟨b8,1,none⟩=some (.slice A7 U c7)/\w'.cell? ⟨bb,b5+k,none⟩=some (.slice Bt mt dt))
  (first|go_keep)
  (first|(go_at_call 19;(with_reducible refine CA.o.mono ?_);rintro e wq ⟨m,kk,g8,rfl,hb⟩;have FQ:=aA (HD.o.trans (hb.mono HD.o.size));have l1:=aA (show q6 N 0 1 t m kk from g8);clear hb g8 z0 z1 q0;obtain⟨z0,z1,q0⟩:=a1.o wq FQ.o))
 all_goals
  have o:=FQ.o;have g9:=aA (TX.o.keep o);have l2:=aA (aJ.keep fG.kept OB.o o);have O:=aA (show wL.grownBy wq (some i)from⟨o.os.trans K.o.os,o.tape.trans K.o.tape,o.output.trans K.o.output,aT K.o.size o.size,λq a e8=>(o.block q (bD a K.o.size)).trans (K.o.block q a e8)⟩);have hB:wL.heap.size<=wq.heap.size:=aT K.o.size o.size;have l3:(k+1)*8<=140737488355328:=by have:=b2.o;omega
  have l4:k+1<=281474976710656:=by omega
  have e8:(Value.slice AV k cV).ownBlock≠some i:=λe=>by have:=(OB.o.lt _ e).1;have:=e6.o;omega
  have l8:=aA (show vL N ((jG s).1.take (k+1)) (cs++[m])from by
   refine⟨by rw[bL,CP.o.1,cP,c5.o];simp,λj t' c' r H=>?_⟩;rw[cP,c5.o]at r;have hl:((jG s).1.take k).length=cs.length:=CP.o.1.symm;by_cases hj:j<cs.length
   .rw[fO (by omega)]at r;rw[fO hj]at H;exact CP.o.2 j t' c' r H
   have l9:j=cs.length:=by have:=(aR.1 H).1;simp at this;omega
   subst l9;rw[j7 (by omega),hl,jL]at r;rw[j7 (by omega),jL]at H;simp at r H;subst r H;exact⟨kk,l1.o⟩)
  obtain⟨y0,y1,y2,y3,y4⟩:=Box.fiveR g9.o;have RD:=aA (show cD fG 1 wq [.int .i64 m] [m]from cD.one (vs:=λ_=>.int .i64 m) rfl rfl (λj hj=>by obtain rfl:j=0:=(by omega);rfl));clear o CA z0 z1 q0 a1;go_wp2_with (at_builtin;refine dJ (v:=.slice AV k cV) iO rfl _ _ rfl [m] #[m] rfl rfl rfl rfl (by simp[Value.oneCell']) l2.o RD.o rfl hB l4 l3 (λ_ _ _ _ h=>h) ?_;intro v8 W a2 D m0;obtain⟨A8,c8,rfl,_⟩:=a2.sl (by omega);have O8:=aA a2;have e9:=aA (g9.o.grown D e8);have G8:=aA (show wL.grownBy W (some i)from⟨D.os.trans O.o.os,D.tape.trans O.o.tape,D.output.trans O.o.output,aT O.o.size D.size,λq a m1=>(D.block q (bD a O.o.size) (λe=>by have:=(OB.o.lt q e.symm).1;omega)).trans (O.o.block q a m1)⟩);have m5:=e9.o.cell 4;have fy:=e9.o.frozen 4;clear a2 D m0)
  have C:=dI W i 4 (.slice A8 (k+1) c8);have O9:=aA (show aI (W.setCell ⟨i,4,none⟩ (.slice A8 (k+1) c8)) wL (.slice A8 (k+1) c8) (k+1) (cs++[m])from by
   refine aJ.kept O8.o C ?_ (λ_ _ h=>h);cases hv:(Value.slice A8 (k+1) c8).ownBlock with
   | none=>exact .inl rfl
   | some q=>exact .inr (λe=>by injection e with e;have:=(O8.o.lt q hv).1;have:=e6.o;omega))
  have G9:=aA (show wL.grownBy (W.setCell ⟨i,4,none⟩ (.slice A8 (k+1) c8)) (some i)from NW G8.o C);have m2:=aA (show Box (W.setCell ⟨i,4,none⟩ (.slice A8 (k+1) c8)) i 26 #[b,(0:Int),.string ⟨l.toArray⟩,d,.slice A8 (k+1) c8]from by have:=e9.o.set 4 (.slice A8 (k+1) c8);simpa using this);clear C;go_roundg (gk-1)
  case measure=>exact b2.o.1
  case rel=>exact⟨k+1,.slice A8 (k+1) c8,cs++[m],rfl,aA b2.o.2.1,aA (λh=>absurd M.o.1 h),O9,l8,G9,m2⟩
def AS {w:World}(r:YX){A B:OAd}{n c m d:Nat}(h:aY w A n c r.costs)(g:aY w B m d r.costs) :
  Calls Tryz.prog 4 #[Tu r.err r.line r.text r.verdict A n c,Tu r.err r.line r.text r.verdict B m d] w (λe w'=>e=.returned (.bool true)/\Below w w w'):=by
 obtain⟨x,y,t,z,l⟩:=r;simp only at h g ⊢;generalize a:((w.alloc (.cells #[x,y,.string ⟨t.toArray⟩,z,.slice A n c] 26)).alloc (.cells #[x,y,.string ⟨t.toArray⟩,z,.slice B m d] 26))=w0;have b:=aA (show Below w w w0 by rw[<-a];exact((aH _ _).alloc (aB _) _).alloc (by simp) _);have i:=aA (show Box w0 w 26 #[x,y,.string ⟨t.toArray⟩,z,.slice A n c] by rw[<-a];exact(Box.new _ _ _).old _);have j:=aA (show Box w0 (w.heap.size+1) 26 #[x,y,.string ⟨t.toArray⟩,z,.slice B m d] by rw[<-a];exact Box.newAt (by simp) _ _);have k:=aA (Bq (h.keep b.o) (g.keep b.o));clear h g;go_enter Tryz.func4,Tryz.ntmps4
 go_upto_region 1 with fail
 clear a;obtain⟨a0,a1,a2,a3,a4⟩:=Box.fiveR i.o;obtain⟨z0,p,q,z3,z4⟩:=Box.fiveR j.o;go_wp2_with (go_at_call 7;(with_reducible refine k.o.mono ?_);rintro e s ⟨rfl,f⟩;rw[beq_self_eq_true];have o:=aA f.below;clear f)
 go_ret
 exact⟨by first|rfl|simp,b.o.trans (o.o.mono b.o.size)⟩
def AU {w:World}(s:List UInt8)(a:s.length<=1048576):Calls Tryz.prog 3 #[.string ⟨s.toArray⟩] w (λe w'=>e=.returned (.bool true)/\Below w w w'):=by
 have l:=aA (P6 s a);have o:=aA (LQ s a);clear a;go_enter Tryz.func3,Tryz.ntmps3
 go_upto_region 1 with fail
 go_wp2_with fail
 refine(l.o _).mono ?_;rintro e w1 ⟨r,A,n,c,rfl,f,g,h⟩;have p:=aA f;have t:=aA g;have i:=aA h;clear f g h;go_wp2_with fail
 refine(o.o _).mono ?_;rintro e x ⟨q,B,m,d,rfl,j,T2,b⟩;obtain rfl:=t.o.uniq T2;have u:=aA (AS r (p.o.keep b) j);have B2:=aA (i.o.trans (b.mono i.o.size));clear j T2 b;go_wp2_with fail
 refine u.o.mono ?_;rintro e y ⟨rfl,k⟩;have v:=aA k;clear k;go_wp2
 go_ret
 exact⟨by first|rfl|simp,B2.o.trans (v.o.mono B2.o.size)⟩
