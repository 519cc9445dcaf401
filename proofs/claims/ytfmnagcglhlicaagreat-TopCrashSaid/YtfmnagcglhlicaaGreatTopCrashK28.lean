/- Texts melted into one: The contract of mine.groups. Conditions: the labels read as a list, in order; the function that links two labels tells so in each later world. | What is found in a log -/
import Derived.Test.YtfmnagcglhlicaaGreatTopCrashK27
import Derived.Test.YtfmnagcglhlicaaGreatTopCrashK22
set_option maxRecDepth 100000
set_option maxHeartbeats 8000000
namespace Go.Proofs.YtfmnagcglhlicaaGreat
open Go.RowKit
structure WM (F:FuncId)(bd cv:Array Value)(w:World)(ls:LIn)(lk:Int→Int→Bool):Prop where
 enters:∀args w,(callFunc F args).run Tryz.prog w=.ok (.enter F args) w
 calls:∀(wr:World) (a b:Int),a∈ls→b∈ls→Below w.heap.size w wr→Calls Tryz.prog F (bd++(#[.int .i64 a,.int .i64 b]++cv)) wr fun e w'=>e=.returned (.bool (lk a b))∧Below wr.heap.size wr w'
def eF (lk:Int→Int→Bool)(ls:LIn):LLi:=vA ls (fX lk ls ls.length)
def Uh (lk:Int→Int→Bool)(ls:LIn)(w:World)(e:Ending)(w':World):Prop :=
 ∃vo n,e=.returned vo∧n≤26∧jT w' w.heap.size w.heap.size vo n (eF lk ls)∧uY lk ls (eF lk ls)∧Below w.heap.size w w'
theorem Gq {l:LIn}(h:l.Nodup):(l.mergeSort fun x y=>decide (x≤y)).Pairwise (·< ·):=by
 have h1:=List.pairwise_mergeSort (le:=fun(x y:Int)=>decide (x≤y)) (fun a b c h1 h2=>by simp at *;omega) (fun a b=>by simp;omega) l;have h2:(l.mergeSort fun x y=>decide (x≤y)).Nodup:=(List.mergeSort_perm l _).symm.nodup h;exact(List.pairwise_and_iff.2 ⟨h1,h2⟩).imp (fun{a b} hab=>by have:=hab.1;have:=hab.2;simp at *;omega)
theorem mU {w:World}{A:OAd}{n c:Nat}{ls:LIn}{F:FuncId}{bd cv:Array Value}{lk:Int→Int→Bool}(h:aJ w A n c ls)(hn:n≤26)(hs:ls.Pairwise (·< ·))(hF:WM F bd cv w ls lk) :
  Calls Tryz.prog 167 #[.slice A n c,.func (.func F) bd cv] w (Uh lk ls w):=by
 have H:=aA h;have HN:=aA (And.intro hn hs);have henter:=hF.enters;have HF:=aA hF;have hl:=aA h.len;clear h hn hs hF;go_enter Tryz.func167,Tryz.ntmps167
 go_wp2_with fail
 refine(bE H.o (by have:=HN.o.1;omega)).mono ?_;rintro e w1 ⟨v0,rfl,own,hb⟩;have OS:=aA (show WJ w w1 v0 (.slice none 0 0) n 0 ls []from⟨hb,own,aC.nil⟩);clear own hb;go_wp2
 go_loopg [5,6] n (fun gk s5 s6 wr=>∃vo vl n' n3 l G,vo=s5∧vl=s6∧Hid (n'≤gk∧n3+n'≤n)∧Hid (WJ w wr vl vo n' n3 l G)∧Hid (GrI lk ls G l))
 case atStart=>exact⟨_,_,n,0,ls,[],rfl,rfl,aA (by omega),OS,aA (GrI.start HN.o.2)⟩
 case round =>
  clear OS;obtain⟨vo,vl,n',n3,l,G,rfl,rfl,hgk,OS,GI⟩:=hrel;cases l with
  | nil =>
   have FIN:=aA (show Uh lk ls w (.returned vo) wr from by
    have e:=(GI.o.fin).uniq (iZ HN.o.2);subst e;exact⟨vo,n3,rfl,by have:=hgk.o;have:=HN.o;omega,OS.o.ou.wide (fun k _ hp=>hp.1),iZ HN.o.2,OS.o.bel⟩)
   obtain rfl:n'=0:=OS.o.lf.len.symm;obtain⟨A1,c1,rfl,_⟩:=OS.o.lf.sl (by omega);clear OS GI hgk;go_wp2
   go_ret
   exact FIN.o
  | cons x l =>
   have hn':=OS.o.lf.len;obtain⟨m0,rfl⟩:∃m0,n'=m0+1:=⟨l.length,by rw[←hn'];rfl⟩;obtain⟨g,cap,rfl,hgB,hgl⟩:=OS.o.lf.form (by omega);have hc1:=(tB.of_own OS.o.lf).1.le;have GM:=aA (OS.o.start (by have:=hgk.o;have:=HN.o;omega));have L0:=aA (show l.length=m0 by simpa using hn');have AB:=aA (show AbI lk ls (x::l) [x] l 0 from AbI.start GI.o.lasc (GI.o.lsub x (by simp)));have hpos:(0:Int)<((m0+1:Nat):Int):=by omega
   have hcap:(1:Int)≤(cap:Int):=by omega
   clear hn' hgB hgl;go_upto_region 5 with fail
   go_cut [6]from 19 to 20 (fun s6 wx=>s6=.slice (if cap=1 then some ⟨g,0,none⟩else some ⟨g,1,none⟩) m0 (cap-1)∧wx=wr)
   case first =>
    by_cases hc:cap=1
    ·subst hc;clear hc1;go_wp2
     go_meet
     exact⟨by simp,rfl⟩
    ·have HC:=aA hc;have hc2:1<cap:=by omega
     clear hc hc1;go_wp2
     go_meet
     exact⟨by rw[if_neg HC.o],rfl⟩
   case rest =>
   obtain⟨rfl,rfl⟩:=hcut;obtain⟨wo,hwo⟩:∃x:World,x=wc:=⟨_,rfl⟩;subst hwo;obtain⟨go,hgo⟩:∃x:Nat,x=gk:=⟨_,rfl⟩;subst hgo;rw[Nat.add_sub_cancel]at GM;obtain⟨vl,hvl⟩:∃v:Value,v=.slice (if cap=1 then some ⟨g,0,none⟩else some ⟨g,1,none⟩) m0 (cap-1):=⟨_,rfl⟩;rw[←hvl]at GM;rw[←hvl];clear hvl;obtain⟨L,hL⟩:∃L,L=x::l:=⟨_,rfl⟩;have LS:=aA (show ∀y∈L,y∈ls from hL▸GI.o.lsub);rw[←hL]at GI AB;clear hL OS;go_wp2
   go_loopg [6,7,8] (m0+1) (fun gk s6 s7 s8 wr=>∃vl vg m n1 k l grp,vl=s6∧vg=s7∧s8=.int .i64 (k:Nat)∧Hid (m0+1≤k+gk∧n1+m=m0+1)∧Hid (AbI lk ls L grp l k)∧Hid (GrM w wr vl vg (.slice none 0 0) vo m n1 0 n3 l grp [] G)∧Hid (0<k→vg.ownBlock≠vl.ownBlock∧aD wr w.heap.size vl m l))
   case atStart=>exact⟨_,_,m0,1,0,l,[x],rfl,rfl,rfl,aA (by omega),AB,GM,aA (fun h=>absurd h (by omega))⟩
   case round =>
    clear AB GM;obtain⟨vl,vg,m,n1,k,l,grp,rfl,rfl,rfl,HK,AB,GM,NE⟩:=hrel;obtain⟨gg,gc,rfl,hG,hGB⟩:=GM.o.gi;have hgl:=hG.len;have hgn:=hG.le;by_cases hk:k<n1
    ·have hki:(k:Int)<(n1:Int):=by omega
     obtain⟨z,hz⟩:∃z,grp[k]?=some z:=⟨_,List.getElem?_eq_getElem (by omega)⟩;have HZ:=aA (show grp[k]?=some z∧k<grp.length from⟨hz,by omega⟩);obtain⟨A3,c3,rfl,hI⟩:=GM.o.lf;have HL:=aA hI.len;have HKM:=aA (show m≤26∧k≤26 by have:=HK.o;have:=HN.o;have:=hgk.o;omega);have HG0:=aA (show gk-1<gk∧m0+1≤(k+1)+(gk-1) by have:=HK.o;omega);obtain⟨g2,hg2⟩:∃x:Nat,x=gk:=⟨_,rfl⟩;subst hg2;clear hG hGB hgl hgn hz hI hk;go_wp2
     go_loopg [7,9,29] m (fun gk s7 s9 s29 wr=>∃vg vr n1' n2 i,vg=s7∧vr=s9∧s29=.int .i64 (i:Nat)∧Hid (i+gk=m∧n1'+n2+gk=m0+1)∧Hid (GrM w wr (.slice A3 m c3) vg vr vo m n1' n2 n3 l (grp++(l.take i).filter (lkB lk z)) ((l.take i).filter fun b=>!lkB lk z b) G))
     case atStart=>exact⟨_,_,n1,0,0,rfl,rfl,rfl,aA (by have:=HK.o;omega),aA (by simpa using GM.o)⟩
     case round =>
      clear GM NE;obtain⟨vg,vr,n1',n2,i,rfl,rfl,rfl,HI,GN⟩:=hrel;by_cases hi:i<m
      ·have him:(i:Int)<(m:Int):=by omega
       obtain⟨A4,c4,e4,hI⟩:=GN.o.lf;injection e4 with e41 _ e42;subst e41 e42;obtain⟨b,off,y,eA,hbl,hy,hc⟩:=hI.get hi;subst eA;obtain⟨g3,c5,rfl,hG3,_⟩:=GN.o.gi;have hcz:=hG3.cell (i:=k) (x:=z) (by rw[List.getElem?_append_left HZ.o.2];exact HZ.o.1);have hk3:(k:Int)<(n1':Int):=by
        have:=hG3.len;rw[List.length_append]at this;have:=HZ.o.2;omega
       have hg3:=hG3.lt;have HY:=aA (show l[i]?=some y from hy);have zM:=LS.o z ((AB.o.mem z).2 (.inl (List.mem_of_getElem? HZ.o.1)));have yM:=LS.o y ((AB.o.mem y).2 (.inr (List.mem_of_getElem? hy)));have CL1:=aA (HF.o.calls wr z y zM yM GN.o.bel);have CL2:=aA (fun(w2:World) (hb:Below wr.heap.size wr w2)=>HF.o.calls w2 y z yM zM (GN.o.bel.trans (hb.mono GN.o.bel.size)));have HJ:=aA (show gk-1<gk∧(i+1)+(gk-1)=m∧(n1'+1)+n2+(gk-1)=m0+1∧n1'+(n2+1)+(gk-1)=m0+1∧n1'≤25∧n2≤25 by have:=HI.o;have:=HN.o;have:=hgk.o;have:=hl.o;omega);clear hG3 hI hy hi zM yM;go_upto_region 13 with fail
       go_cut [48]from 48 to 48 (fun s wx=>∃bb:Bool,s=.bool bb∧Hid (bb=lkB lk z y)∧Hid (Below wr.heap.size wr wx))
       case first =>
        cases h1:lk z y
        ·have HB:=aA h1;clear h1;go_wp2_with fail
         refine CL1.o.mono ?_;rw[HB.o];rintro e w2 ⟨rfl,hb2⟩;have hcz2:=(hb2.cell (p:=⟨g3,k,none⟩) hg3).trans hcz;have BB:=aA hb2;clear hb2 hcz hc;go_wp2_with fail
         refine(CL2.o w2 BB.o).mono ?_;rintro e w3 ⟨rfl,hb3⟩;have B3:=aA (BB.o.trans (hb3.mono BB.o.size));clear hb3;go_wp2
         go_meet
         exact⟨lk y z,rfl,aA (by unfold lkB;rw[HB.o];rfl),B3⟩
        ·have HB:=aA h1;clear h1;go_wp2_with fail
         refine CL1.o.mono ?_;rw[HB.o];rintro e w2 ⟨rfl,hb2⟩;have BB:=aA hb2;clear hb2;go_wp2
         go_meet
         exact⟨true,rfl,aA (by unfold lkB;rw[HB.o];rfl),BB⟩
       case rest =>
       obtain⟨bb,rfl,HB,BB⟩:=hcut;have GN:=aA (GN.o.keep BB.o);have TK:=aA (show l.take (i+1)=l.take i++[y] by rw[List.take_add_one,HY.o];rfl);have hB:=GN.o.bel.size;clear hc hcz BB;have hwi:IntKind.i64.wrap ((i:Int)+1)=((i+1:Nat):Int):=by
        have:=HJ.o.2.1;have:=HKM.o;simp[IntKind.wrap,IntKind.bits,IntKind.signed];omega
       have hn1:n1'≤26:=by have:=HJ.o;omega
       have hn2:n2≤26:=by have:=HJ.o;omega
       cases bb
       ·have FN:=aA (show(l.take (i+1)).filter (lkB lk z)=(l.take i).filter (lkB lk z)∧(l.take (i+1)).filter (fun b=>!lkB lk z b)=(l.take i).filter (fun b=>!lkB lk z b)++[y] by
         rw[TK.o,List.filter_append,List.filter_append];have:=HB.o;simp[←this])
        clear HB TK;go_wp2_with (at_builtin;refine mT rfl _ _ rfl rfl rfl rfl GN.o.rs hB hn2 ?_;intro v8 w8 own8 hg8 hl8;have GV:=aA (GN.o.appR own8 hg8 hl8))
        go_roundg (gk-1)
        case measure=>exact HJ.o.1
        case rel=>exact⟨_,v8,n1',n2+1,i+1,rfl,rfl,rfl,aA ⟨HJ.o.2.1,HJ.o.2.2.2.1⟩,aA (by rw[FN.o.1,FN.o.2];exact GV.o)⟩
       ·have FN:=aA (show grp++(l.take (i+1)).filter (lkB lk z)=grp++(l.take i).filter (lkB lk z)++[y]∧(l.take (i+1)).filter (fun b=>!lkB lk z b)=(l.take i).filter (fun b=>!lkB lk z b) by
         rw[TK.o,List.filter_append,List.filter_append];have:=HB.o;simp[←this])
        clear HB TK;rcases GN.o.gw with⟨o,ne⟩|⟨h1,g6,e6⟩
        ·have NE:=aA ne;clear ne;go_wp2_with (at_builtin;refine mT rfl _ _ rfl rfl rfl rfl o hB hn1 ?_;intro v8 w8 own8 hg8 hl8;have GV:=aA (GN.o.appG ⟨o,NE.o⟩ own8 hg8 hl8))
         go_roundg (gk-1)
         case measure=>exact HJ.o.1
         case rel=>exact⟨v8,_,n1'+1,n2,i+1,rfl,rfl,rfl,aA ⟨HJ.o.2.1,HJ.o.2.2.1⟩,aA (by rw[FN.o.1,FN.o.2];exact GV.o)⟩
        ·subst h1;injection e6 with e61 _ e62;subst e62;have SRC:aJ wc (some ⟨g3,0,none⟩) 1 1 (grp++(l.take i).filter (lkB lk z)):=by
          obtain⟨g7,c7,e7,h7,_⟩:=GN.o.gi;injection e7 with e71 _ e72;subst e72;injection e71 with e71;injection e71 with e71;subst e71;exact h7.ints (by omega)
         clear e61;go_wp2_with (at_builtin;refine vI rfl _ _ rfl rfl rfl rfl SRC (by omega) ?_;intro g8 c8 w8 own8 hb8;have GV:=aA (GN.o.appC own8 hb8))
         go_roundg (gk-1)
         case measure=>exact HJ.o.1
         case rel=>exact⟨_,_,1+1,n2,i+1,rfl,rfl,rfl,aA ⟨HJ.o.2.1,HJ.o.2.2.1⟩,aA (by rw[FN.o.1,FN.o.2];exact GV.o)⟩
      ·have hie:l.take i=l:=List.take_of_length_le (by have:=HL.o;omega);have him:¬(i:Int)<(m:Int):=by omega
       rw[hie]at GN;have HI2:=aA (show n1'+n2=m0+1 by have:=HI.o;omega);have GT:=aA (GN.o.turn (by have:=HI2.o;have:=HN.o;have:=hgk.o;have:=hl.o;omega));have NE2:=aA (show vg.ownBlock≠vr.ownBlock by
        obtain⟨g9,c9,e9,_⟩:=GN.o.gi;rcases GT.o.2 with e|e
        ·rw[e,e9];exact fun e=>nomatch e
        ·exact fun e2=>e e2.symm)
       have RS:=aA GN.o.rs;have AN:=aA (AB.o.next HZ.o.1 LS.o);have hwk:IntKind.i64.wrap ((k:Int)+1)=((k+1:Nat):Int):=by
        have:=HKM.o;simp[IntKind.wrap,IntKind.bits,IntKind.signed];omega
       clear hie hi GN HI;go_wp2
       go_roundg (g2-1)
       case measure=>exact HG0.o.1
       case rel=>exact⟨vr,vg,n2,n1',k+1,_,_,rfl,rfl,rfl,aA ⟨HG0.o.2,HI2.o⟩,AN,aA GT.o.1,aA (fun _=>⟨NE2.o,RS.o⟩)⟩
    ·have hki:¬(k:Int)<(n1:Int):=by omega
     have HK2:=aA (show k=grp.length∧0<k∧n1≤26∧n3≤25∧m≤go-1∧go-1<go∧(n3+1)+m≤n by
      have h1:=AB.o.k1;have h2:=HK.o;have h3:=hgk.o;have h4:=HN.o;have h5:grp.length≠0:=fun e=>AB.o.ne (List.length_eq_zero_iff.1 e)
      omega)
     have GB0:=aA hGB;have CS:=aA (zO (P:=fun q=>w.heap.size≤q∧vl.ownBlock≠some q) ⟨gg,gc,rfl,hG,hGB,fun e=>(NE.o HK2.o.2.1).1 e.symm⟩ (by have:=HK2.o;omega));have OL:=aA (NE.o HK2.o.2.1);have hB:=GM.o.bel.size;clear hG hgl hgn hk NE;go_wp2_with fail
     refine CS.o.mono ?_;rintro e w2 ⟨rfl,hs2,hg2⟩;obtain⟨c1,o1,_⟩:=GM.o.ou;have hne:vo.ownBlock=none∨vo.ownBlock≠some gg:=by
      obtain⟨g8,c8,e8,h8,_⟩:=GM.o.gi;injection e8 with e8 _ _;injection e8 with e8;injection e8 with e8;subst e8;obtain⟨cur,hcur,_⟩:=h8.blk;rcases o1.2 with⟨e,_⟩|⟨g9,cap9,cur9,e,_,hb9,_⟩
      ·exact .inl (by rw[e];rfl)
      ·refine .inr ?_;rw[e];intro e2;injection e2 with e2;change g9=gg at e2
       subst e2;rw[hb9]at hcur;injection hcur with hcur;injection hcur with _ hcur _;exact absurd hcur (by decide)
     have OU:=aA (show Gf w2 (fun q=>w.heap.size≤q∧vl.ownBlock≠some q) w.heap.size vo n3 G from
      (GM.o.ou.grown hg2 (fun k hk hp=>hp.2.2.1 hk) hne).wide (fun k _ hp=>⟨hp.1,hp.2.1⟩))
     have LF:=aA (show aD w2 w.heap.size vl m l from OL.o.2.kept hg2 (.inr (fun e=>OL.o.1 e.symm)) (fun _ _ x=>x));have BE:=aA (show Below w.heap.size w w2 from GM.o.bel.grown hg2 hB (fun k hk=>by injection hk with hk;rw[←hk];exact GB0.o));obtain⟨gs,cs,es,hs3,hs4⟩:=hs2;injection es with es1 _ es2;injection es1 with es1;injection es1 with es1;subst es1 es2;have RD:=aA (show a6 (ApR (fun q=>w.heap.size≤q∧vl.ownBlock≠some q)) 1 w2 [.slice (some ⟨gg,0,none⟩) n1 gc] [grp.mergeSort fun x y=>decide (x≤y)]from a6.list1 ⟨gg,n1,gc,rfl,hs3,hs4,by have:=HK2.o;omega⟩);have GI2:=aA (show GrI lk ls (G++[grp.mergeSort fun x y=>decide (x≤y)]) l from(HK2.o.1▸AB.o).group GI.o (List.mergeSort_perm _ _) (Gq AB.o.nd));have hB2:=BE.o.size;have h24:(n3+1)*24≤140737488355328:=by have:=HK2.o;omega
     have h26:n3+1≤281474976710656:=by omega
     have KP:=aA (show ∀w',w2.grownBy w' vo.ownBlock→∀vs y,ApR (fun q=>w.heap.size≤q∧vl.ownBlock≠some q) w2 vs y→ApR (fun q=>w.heap.size≤q∧vl.ownBlock≠some q) w' vs y from by
      obtain⟨c2,o2,_⟩:=OU.o;exact fun w' hg vs y hy=>hy.grownRow o2 (by decide) hg)
     clear hs3 hs4 hne o1 hg2;go_wp2_with (at_builtin;refine fY (v:=vo) uV rfl _ _ rfl [grp.mergeSort fun x y=>decide (x≤y)] _ rfl rfl rfl rfl (by simp[Value.oneCell']) OU.o RD.o rfl hB2 h26 h24 KP.o ?_;intro v9 w9 own9 hg9 hl9;have O9:=aA own9;have G9:=aA hg9)
     go_roundg (go-1)
     case measure=>exact HK2.o.2.2.2.2.2.1
     case rel =>
      refine⟨v9,vl,m,n3+1,l,_,rfl,rfl,aA ⟨HK2.o.2.2.2.2.1,HK2.o.2.2.2.2.2.2⟩,aA ⟨BE.o.grown G9.o hB2 (fun k hk=>(OU.o.lt k hk).1), ?_,O9.o⟩,GI2⟩;obtain⟨c2,o2,_⟩:=OU.o;obtain⟨c3,o3,o4,o5⟩:=LF.o;exact aC.kept ⟨c3,o3,o4,o5⟩ G9.o (vH o3 o2 (by decide)) (fun _ _ x=>x)
end Go.Proofs.YtfmnagcglhlicaaGreat
namespace Go.Proofs.YtfmnagcglhlicaaGreat
def oL (t:LIn):Bool:=decide (t.length=0)
def bR (log:LLi):LLi:=log.filter fun t=>!oL t
noncomputable def jN (log:LLi):aU:=open Classical in if h:∃p,cZ log p then Classical.choose h else Iu
theorem nQ {log:LLi}{p:aU}(h:cZ log p):jN log=p:=by
 have he:∃p,cZ log p:=⟨p,h⟩;unfold jN;rw[dif_pos he];exact(Classical.choose_spec he).uniq h
def bhB (p:aU)(a b:Int):Bool:=p.behind.any fun q=>decide ((a,b)=q)
def gQ (p:aU):Int→Int→Bool:=eU p.labels (bhB p) p.labels
def mV (p:aU)(a b:Int):Bool:=!bhB p a b||!bhB p b a
def nX (g l:LIn):Bool:=g.any fun a=>inS l a
noncomputable def VL (lds:Int→Int→Bool)(G:LLi):LLi:=open Classical in if h:∃M:LLi,M.Nodup∧M.Pairwise (ltG lds)∧∀x,x∈M↔x∈G then Classical.choose h else []
theorem OZ {lds:Int→Int→Bool}{ls:LIn}{G M:LLi}(hG:uY (eE lds) ls G)(h1:M.Nodup)(h2:M.Pairwise (ltG lds))(h3:∀x,x∈M↔x∈G):VL lds G=M:=by
 have he:∃M:LLi,M.Nodup∧M.Pairwise (ltG lds)∧∀x,x∈M↔x∈G:=⟨M,h1,h2,h3⟩;unfold VL;rw[dif_pos he];obtain⟨g1,g2,g3⟩:=Classical.choose_spec he;exact x9 hG (fun x hx=>(g3 x).1 hx) g1 h1 g2 h2 (fun x=>(g3 x).trans (h3 x).symm)
def aR:aW:=.mk 1 0 []
def bS (a:Int):aW:=.mk 2 a []
noncomputable def qO (rec:LLi→aW)(full:LLi):aW :=
 if(jN full).labels.length=1 then(if full.any (fun t=>decide (1<t.length))=true then .mk 6 0 [bS ((jN full).labels.headD 0),aR]else bS ((jN full).labels.headD 0))
 else if 2≤(eF (bhB (jN full)) (jN full).labels).length then .mk 4 0 ((eF (bhB (jN full)) (jN full).labels).map fun g=>rec (full.filter fun t=>inS g (t.headD 0)))
 else if 2≤(eF (eE (gQ (jN full))) (jN full).labels).length then .mk 3 0 ((VL (gQ (jN full)) (eF (eE (gQ (jN full))) (jN full).labels)).map fun g=>rec (eP full g))
 else if 2≤(eF (mV (jN full)) (jN full).labels).length∧((eF (mV (jN full)) (jN full).labels).all fun g=>nX g (jN full).first&&nX g (jN full).last)=true then .mk 5 0 ((eF (mV (jN full)) (jN full).labels).map fun g=>rec (eP full g))
 else .mk 6 0 [aR,.mk 4 0 ((jN full).labels.map bS)]
noncomputable def aP:Nat→LLi→aW
 | 0,_=>aR
 | f+1,log=>if(bR log).length=0 then aR else if(bR log).length<log.length then .mk 4 0 [aR,aP f (bR log)]else qO (aP f) (bR log)
theorem vJ {xs ys:LIn}(h1:xs.Pairwise (·< ·))(h2:ys.Pairwise (·< ·))(h:∀x∈xs,x∈ys):xs.length≤ys.length:=by
 have e:xs=ys.filter fun y=>decide (y∈xs):=mP h1 (h2.filter _) (fun x=>by
  rw[List.mem_filter];simp only[decide_eq_true_eq];exact⟨fun hx=>⟨h x hx,hx⟩,fun hx=>hx.2⟩)
 rw[e];exact List.length_filter_le _ _
theorem Ky {xs ys:LIn}(h1:xs.Pairwise (·< ·))(h2:ys.Pairwise (·< ·))(h:∀x∈xs,x∈ys){y:Int}(hy:y∈ys)(hn:y∉xs):xs.length<ys.length:=by
 have e:xs=ys.filter fun y=>decide (y∈xs):=mP h1 (h2.filter _) (fun x=>by
  rw[List.mem_filter];simp only[decide_eq_true_eq];exact⟨fun hx=>⟨h x hx,hx⟩,fun hx=>hx.2⟩)
 rw[e];exact List.length_filter_lt_length_iff_exists.2 ⟨y,hy,by simpa using hn⟩
theorem uY.lt {lk:Int→Int→Bool}{ls:LIn}{G:LLi}(h:uY lk ls G)(hs:ls.Pairwise (·< ·))(h2:2≤G.length){g:LIn}(hg:g∈G):g.length<ls.length:=by
 obtain⟨g',hg',hne⟩:∃g'∈G,g'≠g:=by
  have hn:=h.nodup;match G,h2,hn with
  | a::b::r,_,hn =>
   by_cases e:a=g
   ·subst e;refine⟨b,by simp,fun e=>?_⟩;subst e;have:=(List.nodup_cons.1 hn).1;simp at this
   ·exact⟨a,by simp,e⟩
 obtain⟨y,hy⟩:∃y,y∈g':=⟨_,rN (h.ne g' hg')⟩;exact Ky (h.asc g hg) hs (h.sub g hg) (h.sub g' hg' y hy) (fun hy2=>hne (h.same hg' hg hy hy2))
def vK (f:Nat)(log:LLi):Prop:=cP log=0∧∀p,cZ log p→2*p.labels.length+(if ∃t∈log,t.length=0 then 1 else 0)<f
theorem dZ {log:LLi}:cP log=0↔log.length≤60∧∀t∈log,rO t=false:=by
 unfold cP;split
 ·rename_i h
  exact⟨fun h=>(by cases h),fun h2=>(by omega)⟩
 ·rename_i h
  split
  ·rename_i h2
   obtain⟨t,ht,hb⟩:=List.any_eq_true.1 h2;exact⟨fun h=>(by cases h),fun h3=>(by rw[h3.2 t ht]at hb;cases hb)⟩
  ·rename_i h2
   refine⟨fun _=>⟨by omega,fun t ht=>?_⟩,fun _=>rfl⟩;cases hb:rO t
   ·rfl
   ·exact absurd (List.any_eq_true.2 ⟨t,ht,hb⟩) h2
theorem rR {t:LIn}:rO t=false↔t.length≤60∧∀a∈t,1≤a∧a≤26:=by
 unfold rO UU;rw[Bool.or_eq_false_iff,decide_eq_false_iff_not];refine⟨fun h=>⟨by omega,fun a ha=>?_⟩,fun h=>⟨by omega, ?_⟩⟩
 ·have:=h.2;rw[List.any_eq_false]at this;have:=this a ha;simp at this;omega
 ·rw[List.any_eq_false];intro a ha;have:=h.2 a ha;simp;omega
theorem cZ.lab {log:LLi}{p:aU}(h:cZ log p)(h0:cP log=0):∀a∈p.labels,1≤a∧a≤26:=fun a ha=>by
 obtain⟨t,ht,hat⟩:=(h.1.2 a).1 ha;exact(rR.1 ((dZ.1 h0).2 t ht)).2 a hat
theorem mW {l:LIn}(h:l.Pairwise (·< ·))(hb:∀a∈l,1≤a∧a≤26):l.length≤26:=by
 have:=vJ h (ys:=(List.range 26).map fun i:Nat=>(i:Int)+1) (by decide) (fun a ha=>by
  obtain⟨h1,h2⟩:=hb a ha;rw[List.mem_map];exact⟨(a-1).toNat,by rw[List.mem_range];omega,by omega⟩)
 simpa using this
theorem vK.start {log:LLi}(h:cP log=0):vK 60 log:=⟨h,fun p hp=>by
 have:=mW hp.1.1 (hp.lab h);split <;> omega⟩
theorem mX {log:LLi}{t:LIn}:t∈bR log↔t∈log∧t.length≠0:=by
 unfold bR oL;rw[List.mem_filter];simp
theorem Kz {log:LLi}{p:aU}(h:cZ (bR log) p):cZ log p:=by
 have m:∀(P:LIn→Prop),(∀t,P t→t.length≠0)→((∃t∈bR log,P t)↔∃t∈log,P t):=fun P hP =>
  ⟨fun⟨t,h1,h2⟩=>⟨t,(mX.1 h1).1,h2⟩,fun⟨t,h1,h2⟩=>⟨t,mX.2 ⟨h1,hP t h2⟩,h2⟩⟩
 refine⟨⟨h.1.1,fun x=>(h.1.2 x).trans (m _ (fun t ht e=>?_))⟩,⟨h.2.1.1,fun x=>(h.2.1.2 x).trans (m _ (fun t ht e=>?_))⟩,⟨h.2.2.1.1,fun x=>(h.2.2.1.2 x).trans (m _ (fun t ht e=>?_))⟩,⟨h.2.2.2.1,fun x=>(h.2.2.2.2 x).trans (m _ (fun t ht e=>?_))⟩⟩
 ·rw[List.eq_nil_of_length_eq_zero e]at ht;cases ht
 ·rw[List.eq_nil_of_length_eq_zero e]at ht;cases ht
 ·rw[List.eq_nil_of_length_eq_zero e]at ht;cases ht
 ·rw[List.eq_nil_of_length_eq_zero e]at ht;obtain⟨k,hk,_⟩:=ht;simp at hk
theorem vK.full {f:Nat}{log:LLi}(h:vK (f+1) log)(hl:(bR log).length<log.length):vK f (bR log):=by
 obtain⟨h1,h2⟩:=h;have hw:=dZ.1 h1;refine⟨dZ.2 ⟨by omega,fun t ht=>hw.2 t (mX.1 ht).1⟩,fun p hp=>?_⟩;have:=h2 p (Kz hp);have he:∃t∈log,t.length=0:=by
  obtain⟨t,ht,h3⟩:=List.length_filter_lt_length_iff_exists.1 hl;exact⟨t,ht,by unfold oL at h3;simpa using h3⟩
 rw[if_pos he]at this;rw[if_neg (fun⟨t,ht,e⟩=>(mX.1 ht).2 e)];omega
theorem KF {log:LLi}(h:¬(bR log).length<log.length):bR log=log:=by
 unfold bR at *
 refine List.filter_eq_self.2 (fun t ht=>?_);cases e:!oL t
 ·exact absurd (List.length_filter_lt_length_iff_exists.2 ⟨t,ht,by simp[e]⟩) h
 ·rfl
theorem vK.sub {f:Nat}{log sub:LLi}{p:aU}{lk:Int→Int→Bool}{g:LIn}(h:vK (f+1) log)(hp:cZ log p)(h2:2≤(eF lk p.labels).length)(hg:g∈eF lk p.labels)(hw:cP sub=0)(hs:∀t∈sub,∀a∈t,a∈g):vK f sub:=by
 refine⟨hw,fun q hq=>?_⟩;have hG:=iZ (lk:=lk) hp.1.1;have l1:=hG.lt hp.1.1 h2 hg;have l2:=vJ hq.1.1 (hG.asc g hg) (fun x hx=>by
  obtain⟨t,ht,hx⟩:=(hq.1.2 x).1 hx;exact hs t ht x hx)
 have:=h.2 p hp;split <;> split at this <;> omega
theorem zP {log:LLi}(h:cP log=0)(q:LIn→Bool):cP (log.filter q)=0:=by
 have hw:=dZ.1 h;exact dZ.2 ⟨Nat.le_trans (List.length_filter_le _ _) hw.1,fun t ht=>hw.2 t (List.mem_filter.1 ht).1⟩
theorem Gs {log:LLi}(h:cP log=0)(g:LIn):cP (eP log g)=0:=by
 have hw:=dZ.1 h;refine dZ.2 ⟨by unfold eP;rw[List.length_map];exact hw.1,fun t ht=>?_⟩;unfold eP at ht;obtain⟨u,hu,rfl⟩:=List.mem_map.1 ht;have:=rR.1 (hw.2 u hu);exact rR.2 ⟨Nat.le_trans (List.length_filter_le _ _) this.1,fun a ha=>this.2 a (List.mem_filter.1 ha).1⟩
theorem IJ {l:LIn}{a:Int}:inS l a=true↔a∈l:=by
 unfold inS;rw[List.any_eq_true];exact⟨fun⟨x,hx,e⟩=>by rw[beq_iff_eq]at e;rw[e];exact hx,fun h=>⟨a,h,by simp⟩⟩
theorem vK.onto {f:Nat}{log:LLi}{p:aU}{lk:Int→Int→Bool}{g:LIn}(h:vK (f+1) log)(hp:cZ log p)(h2:2≤(eF lk p.labels).length)(hg:g∈eF lk p.labels):vK f (eP log g) :=
 h.sub hp h2 hg (Gs h.1 g) (fun t ht a ha=>by
  unfold eP at ht;obtain⟨u,hu,rfl⟩:=List.mem_map.1 ht;exact IJ.1 (List.mem_filter.1 ha).2)
theorem Pe {p:aU}{a b:Int}:bhB p a b=true↔(a,b)∈p.behind:=by
 unfold bhB;rw[List.any_eq_true];exact⟨fun⟨x,hx,e⟩=>by rw[decide_eq_true_eq]at e;rw[e];exact hx,fun h=>⟨_,h,by simp⟩⟩
theorem Pg {log:LLi}{p:aU}(hp:cZ log p){t:LIn}(ht:t∈log){x:Int}(hx:t.head?=some x){g:LIn}(hg:g∈eF (bhB p) p.labels)(hxg:x∈g):∀a∈t,a∈g:=by
 have hG:=iZ (lk:=bhB p) hp.1.1;have lab:∀a∈t,a∈p.labels:=fun a ha=>(hp.1.2 a).2 ⟨t,ht,ha⟩
 have main:∀(k:Nat) (a:Int),t[k]?=some a→fH (bhB p) p.labels x a:=by
  intro k;induction k with
  | zero =>
   intro a ha;have:t.head?=t[0]?:=by cases t <;> rfl
   rw[←this,hx]at ha;injection ha with ha;rw[←ha];exact .refl (hG.sub g hg x hxg)
  | succ k ih =>
   intro a ha;have hk:k<t.length:=by have:=(List.getElem?_eq_some_iff.1 ha).1;omega
   have hb:t[k]?=some t[k]:=List.getElem?_eq_getElem hk;refine .step (ih _ hb) (lab a (List.mem_of_getElem? ha)) ?_;unfold lkB;rw[Pe.2 ((hp.2.2.2.2 _).2 ⟨t,ht,k,hb,ha⟩)];rfl
 intro a ha;obtain⟨k,hk,rfl⟩:=List.getElem_of_mem ha;exact(hG.cls g hg x hxg _ (lab _ ha)).2 (main k _ (List.getElem?_eq_getElem hk))
theorem vK.choose {f:Nat}{log:LLi}{p:aU}{g:LIn}(h:vK (f+1) log)(hf:∀t∈log,t.length≠0)(hp:cZ log p)(h2:2≤(eF (bhB p) p.labels).length)(hg:g∈eF (bhB p) p.labels):vK f (log.filter fun t=>inS g (t.headD 0)) :=
 h.sub hp h2 hg (zP h.1 _) (fun t ht=>by
  obtain⟨h1,h2⟩:=List.mem_filter.1 ht;cases t with
  | nil=>exact absurd rfl (hf _ h1)
  | cons x t=>exact Pg hp h1 rfl hg (IJ.1 h2))
theorem zQ {log:LLi}{p:aU}(hp:cZ log p)(a b:Int):gQ p a b=true↔Via (fun a b=>(a,b)∈p.behind) p.labels a b:=by
 refine Om (R:=fun a b=>(a,b)∈p.behind) (fun a b hab=>?_) (fun a b=>Pe) p.labels a b;obtain⟨t,ht,k,h1,h2⟩:=(hp.2.2.2.2 _).1 hab;exact⟨(hp.1.2 a).2 ⟨t,ht,List.mem_of_getElem? h1⟩,(hp.1.2 b).2 ⟨t,ht,List.mem_of_getElem? h2⟩⟩
theorem Gt {log:LLi}{p:aU}(hp:cZ log p)(a b c:Int)(hb:b∈p.labels)(h1:gQ p a b=true)(h2:gQ p b c=true):gQ p a c=true :=
 (zQ hp a c).2 (((zQ hp a b).1 h1).trans hb ((zQ hp b c).1 h2))
end Go.Proofs.YtfmnagcglhlicaaGreat
