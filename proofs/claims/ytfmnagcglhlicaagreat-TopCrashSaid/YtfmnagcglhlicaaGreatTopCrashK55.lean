/- Texts melted into one: TopCrash: the law's walk. Conditions: the arguments read as a net, roles and what happens in a hall. | A slice of things to do at a desk, read. Conditions: none. | A s -/
import Derived.Test.YtfmnagcglhlicaaGreatTopCrashK54
set_option maxRecDepth 100000
set_option maxHeartbeats 8000000
namespace Go.Proofs.YtfmnagcglhlicaaGreat
open Go.RowKit Go.Maps
theorem xE {w:World}{P:Int}{A R O:OAd}{n c r q s so:Nat}{ts:List aI}{roles:LLi}{os:List HOp}(i o:Int)(h:bK w A n c ts)(hn:n≤2513169434916)(g:bT w R r q roles)(x:VE w O s so os)(hs:s≤2513169434916) :
  Calls Tryz.prog 4 #[.agg #[.int .i64 P,.slice A n c],.int .i64 i,.int .i64 o,.slice R r q,.slice O s so] w fun e w'=>e=.returned (.bool true)∧Below w.heap.size w w':=by
 have HB:=aA (aB w (.cells #[.int .i64 P,.slice A n c] 24));have X0:=aA (Box.new w #[.int .i64 P,.slice A n c] 24);have H0:=aA (h.keep HB.o);have G0:=aA (Sl.keep bH.kept g HB.o);have O0:=aA (Sl.keep Md.kept x HB.o);have HN:=aA hn;have HS:=aA hs;clear h g x hn hs;go_enter Tryz.func4,Tryz.ntmps4
 go_upto_region 1 with fail
 generalize w.alloc (.cells #[.int .i64 P,.slice A n c] 24)=w1 at *
 generalize w.heap.size=b5 at X0;have CA:=aA (Hk w1);go_wp2_with fail
 refine CA.o.mono ?_;rintro e w2 ⟨rfl,hb2⟩;have D2:=aA (HB.o.trans (hb2.mono HB.o.size));have T52:=aA (X0.o.keep hb2);have H2:=aA (H0.o.keep hb2);have G2:=aA (Sl.keep bH.kept G0.o hb2);have O2:=aA (Sl.keep Md.kept O0.o hb2);have CJ:=aA (pJ (P:=P) i o 300 H2.o HN.o);obtain⟨jj,hjj⟩:∃q,dU ⟨P,ts⟩ i o 300=q:=⟨_,rfl⟩;have HJJ:=aA hjj;rw[hjj]at CJ;obtain⟨⟨jv,jm,jt⟩,je⟩:=jj;obtain⟨n0,n1⟩:=T52.o.two;clear hb2 hjj CA;go_wp2_with fail
 refine CJ.o.mono ?_;rintro e w3 ⟨Aj,nj,cj,rfl,ij,hb3⟩;have B3:=aA (aB w3 (.cells #[.int .i64 jv,.slice Aj nj cj,.int .i64 jt] 56));have T11:=aA (Box.new w3 #[.int .i64 jv,.slice Aj nj cj,.int .i64 jt] 56);have E3:=aA (hb3.trans (B3.o.mono hb3.size));have T53:=aA (T52.o.keep E3.o);have H3:=aA (H2.o.keep E3.o);have G3:=aA (Sl.keep bH.kept G2.o E3.o);have O3:=aA (Sl.keep Md.kept O2.o E3.o);have D3:=aA (D2.o.trans (E3.o.mono D2.o.size));clear ij hb3 n0 n1 CJ;go_upto_region 4 with fail
 generalize w3.alloc (.cells #[.int .i64 jv,.slice Aj nj cj,.int .i64 jt] 56)=w4 at *
 generalize w3.heap.size=b11 at T11;have CH:=aA (xC (P:=P) i H3.o G3.o O3.o HS.o);obtain⟨pp,hpp⟩:∃q,As ⟨P,ts⟩ roles i os=q:=⟨_,rfl⟩;have HPP:=aA hpp;rw[hpp]at CH;obtain⟨K,al,fe⟩:=pp;obtain⟨n0,n1⟩:=T53.o.two;clear hpp;go_wp2_with fail
 refine CH.o.mono ?_;rintro e w5 ⟨B,m,d,D,l,f,I,ni,ci,An,na,ca,rfl,dw,_,hb5⟩;have B5:=aA (aB w5 (.cells #[.slice B m d,.slice D l f,.slice I ni ci] 33));have T13:=aA (Box.new w5 #[.slice B m d,.slice D l f,.slice I ni ci] 33);have E5:=aA (hb5.trans (B5.o.mono hb5.size));have DW:=aA (dw.keep B5.o);have T55:=aA (T53.o.keep E5.o);have T115:=aA (T11.o.keep E5.o);have H5:=aA (H3.o.keep E5.o);have D5:=aA (D3.o.trans (E5.o.mono D3.o.size));clear dw hb5 n0 n1 CH;go_upto_region 5 with fail
 generalize w5.alloc (.cells #[.slice B m d,.slice D l f,.slice I ni ci] 33)=w6 at *
 generalize w5.heap.size=b13 at T13;have v0:=T115.o.cell 0;by_cases h1:je=0
 ·have h1i:(je != 0)=false:=by simp[h1]
  by_cases h2:fe=0
  ·have h2i:(fe != 0)=false:=by simp[h2]
   by_cases h3:jv=1
   ·have h3i:(jv != 1)=false:=by simp[h3]
    have HB0:=aA (show(aZ ⟨P,ts⟩ i).2=0 from by
     have h4:=HPP.o;unfold As at h4;split at h4
     ·rename_i h5;exact h5
     ·rename_i h5
      injection h4 with _ h4;injection h4 with _ h4;exact absurd (h4.trans h2) h5)
    obtain⟨dn,hdn⟩:∃dn,dn=(iW ⟨P,ts⟩ roles ⟨(aZ ⟨P,ts⟩ i).1,[]⟩ ([],0) os).1.1:=⟨_,rfl⟩;have HK:=aA (show(jS ⟨P,ts⟩ roles ⟨(aZ ⟨P,ts⟩ i).1,[]⟩ dn).1=K from by
     have h4:=HPP.o;unfold As at h4;rw[if_pos HB0.o,←hdn]at h4;injection h4)
    have LAW:=aA (Oh (N:=⟨P,ts⟩) (roles:=roles) (i:=i) (o:=o) dn HB0.o (by rw[HJJ.o];exact h1) (by rw[HJJ.o];exact h3));rw[HK.o]at LAW;have SM:=aA (show K.case_.busy.length≤24∧K.case_.mark.length≤16∧ts.length≤24 from by
     have h4:=((uF ⟨P,ts⟩ roles dn ⟨(aZ ⟨P,ts⟩ i).1,[]⟩ (eK.start HB0.o)).1).small;rw[HK.o]at h4;exact h4)
    obtain⟨cf,l1,l2,l3,l4⟩:=LAW.o;have HC:=aA (show cf.mark.length≤16 from by
     have h4:=(bB _ _).1 l2;have h5:=(aQ _).1 h4.1;have h6:=h4.2.1;omega)
    have CE:=aA (Aq (P:=P) (E:=gX (min P 16).toNat o) o H5.o DW.o rfl SM.o l1 HC.o l3 l4);obtain⟨n0,n1⟩:=T55.o.two;obtain⟨d0,d1,d2⟩:=T13.o.three;clear h1 h2 h3 l1 l2 l3 l4 LAW hdn;go_wp2_with fail
    refine CE.o.mono ?_;rintro e w7 ⟨rfl,hb7⟩;have D7:=aA (D5.o.trans (hb7.mono D5.o.size));clear hb7 CE;go_wp2
    go_ret
    exact⟨rfl,D7.o⟩
   ·have h3i:(jv != 1)=true:=by simp[h3]
    clear h1 h2 h3;go_wp2
    go_ret
    exact⟨rfl,D5.o⟩
  ·have h2i:(fe != 0)=true:=by simp[h2]
   clear h1 h2;go_wp2
   go_ret
   exact⟨rfl,D5.o⟩
 ·have h1i:(je != 0)=true:=by simp[h1]
  clear h1;go_wp2
  go_ret
  exact⟨rfl,D5.o⟩
theorem Aw {w:World}(P:Int){A R O:OAd}{n c r q s so:Nat}{ts:List aI}{roles:LLi}{os:List HOp}(h:bK w A n c ts)(hn:n≤2513169434916)(i:Int)(_:(Lit.int .i64 i).wf=true)(o:Int)(_:(Lit.int .i64 o).wf=true)(g:bT w R r q roles)(_:r≤5864062014634)(x:VE w O s so os)(hs:s≤2513169434916) :
  Calls Tryz.prog 4 #[.agg #[.int .i64 P,.slice A n c],.int .i64 i,.int .i64 o,.slice R r q,.slice O s so] w fun e w'=>e=.returned (.bool true)∧Below w.heap.size w w':=xE i o h hn g x hs
open Go.ChangeShapes Go.WideShapes Go.ChangeAt Go.Deep
section
variable {H:Type} {enc:TypeId×Value→H} {W:World}
theorem TV:rA xY 5 40 45:=by
 refine⟨xY.good,by kernel_rfl,by kernel_rfl,by omega,fun enc W fuel cs d pl h hw hl=>?_⟩;obtain⟨n,hg⟩:=lK Tryz.underlying45 (by kernel_rfl) h hw hl;obtain⟨v0,y0,e0,t0,_⟩:=hg 0 _ rfl;obtain⟨v1,y1,e1,t1,_⟩:=hg 1 _ rfl;obtain⟨v2,y2,e2,t2,_⟩:=hg 2 _ rfl;obtain⟨v3,y3,e3,t3,_⟩:=hg 3 _ rfl;obtain⟨v4,y4,e4,t4,_⟩:=hg 4 _ rfl;obtain⟨k,hk,_,_⟩:=DataW.trod_int Tryz.underlying3 t0;obtain⟨u,hu,_,_⟩:=DataW.trod_int Tryz.underlying3 t1;obtain⟨t,ht,_,_⟩:=DataW.trod_int Tryz.underlying3 t2;obtain⟨i,hi,_,_⟩:=DataW.trod_int Tryz.underlying3 t3;obtain⟨o,ho,_,_⟩:=DataW.trod_int Tryz.underlying3 t4;injection hk with hk;injection hu with hu;injection ht with ht;injection hi with hi;injection ho with ho;exact⟨⟨k,u,t,i,o⟩,by show cs.getD 0 undef=_;rw[e0,hk],by show cs.getD 1 undef=_;rw[e1,hu],by show cs.getD 2 undef=_;rw[e2,ht],by show cs.getD 3 undef=_;rw[e3,hi],by show cs.getD 4 undef=_;rw[e4,ho]⟩
end
section
variable {H:Type} {enc:TypeId×Value→H} {W:World}
theorem TY:rA Md 7 56 112:=by
 refine⟨Md.good,by kernel_rfl,by kernel_rfl,by omega,fun enc W fuel cs d pl h hw hl=>?_⟩;obtain⟨xs,n,_,hx,_,hlen,hg⟩:=DataW.trod_struct Tryz.underlying112 h;injection hx with hx1 hx2;subst hx1;obtain⟨x0,x1,x2,rfl⟩:∃x0 x1 x2,xs=[x0,x1,x2]:=by
  match xs,hlen with
  | [a,b,c],_=>exact⟨a,b,c,rfl⟩
 obtain⟨c0,c1,c2,c3,c4,c5,c6,rfl⟩:∃c0 c1 c2 c3 c4 c5 c6,cs=[c0,c1,c2,c3,c4,c5,c6]:=by
  match cs,hl with
  | [a,b,c,d,e,f,g],_=>exact⟨a,b,c,d,e,f,g,rfl⟩
 have g0:=hg 0 _ rfl;have g1:=hg 1 _ rfl;have g2:=hg 2 _ rfl;simp only[List.getElem?_cons_zero,List.getElem?_cons_succ]at g0 g1 g2;obtain⟨k,hk,_,_⟩:=DataW.trod_int Tryz.underlying3 g0;obtain⟨u,hu,_,wf⟩:=DataW.trod_int Tryz.underlying3 g1;injection hk with hk;injection hu with hu;have hw2:∀x∈x2.1.weights Tryz.prog 45,x≤reachBytes:=fun x hx=>hw x (by
  unfold DataW.weights;rw[Tryz.underlying112];exact DataW.weights_mem_each (j:=2) (t:=45) (d:=x2.1) rfl rfl x hx)
 obtain⟨o,h0,h1,h2,h3,h4⟩:=TV.2.2.2.2 enc W n [c2,c3,c4,c5,c6] x2.1 x2.2 g2 hw2 rfl;exact⟨⟨k,u,o⟩,hk,hu,h0,h1,h2,h3,h4,wf⟩
end
end Go.Proofs.YtfmnagcglhlicaaGreat
