/- What a space reads ars: lists of lists of integers, and arcs; live.Right and GRight. Conditions: the slices read ars lists. | The contracts of GRight, live.Dead and GDead. Conditions: the slices read as lists. | The contracts of GDead, GStuck, slices.Max, live.Bound and GBound. Conditions: the slice -/
import Derived.Test.YtfmnagcglhlicaaGreatTopSaidK36
set_option maxRecDepth 100000
namespace Go.Proofs.YtfmnagcglhlicaaGreat
open Go.RowKit
end Go.Proofs.YtfmnagcglhlicaaGreat
namespace Go.Proofs.YtfmnagcglhlicaaGreat
open Go.RowKit Go.Maps
def ZmP (ars:List ZaD)(t:Int):Nat:=(ars.filter fun a=>a.tran==t).length
theorem ZpF (l:List ZaD)(a:ZaD)(t:Int):ZmP (l++[a]) t=ZmP l t+if a.tran=t then 1 else 0:=by
 unfold ZmP
 rw[List.filter_append,List.length_append]
 by_cases h:a.tran=t <;> simp[h]
def Zfm (ars:List ZaD)(N:Nat):List Int:=((List.range N).filter fun(t:Nat)=>ZmP ars (t:Int)==0).map fun(t:Nat)=>(t:Int)
theorem ZnU (ars:List ZaD)(k:Nat):Zfm ars (k+1)=Zfm ars k++if ZmP ars (k:Int)=0 then [(k:Int)]else []:=by
 unfold Zfm
 rw[List.range_succ,List.filter_append,List.map_append]
 congr 1
 by_cases h:ZmP ars (k:Int)=0 <;> simp[h]
theorem Zkz (ars:List ZaD)(k:Nat):(Zfm ars k).length≤k:=by
 unfold Zfm
 rw[List.length_map]
 exact Nat.le_trans (List.length_filter_le _ _) (by simp)
def Zca (w:World)(b:Nat)(l:List ZaD):Prop :=
 ∃D:DataW Unit,w.ownsMap Tryz.prog 3 (plainElem Tryz.prog 3) b l.length D∧∀t:Int,(Lit.int .i64 t).wf=true→D.atKey (.int .i64 t) (.lit (.int .i64 0))=.lit (.int .i64 (ZmP l t))
theorem ZmQ:Keyed Tryz.prog 3:=int_keyed Tryz.underlying3
theorem Zq6 (w:World):(zeroValue 3).run Tryz.prog w=.ok (.int .i64 0) w:=by kernel_rfl
theorem Zca.made (w:World):Zca (w.alloc (.map #[] 0)) w.heap.size []:=⟨.map [],World.ownsMap_made _ _ _ _,fun _ _=>rfl⟩
theorem Zca.of_block {w w':World}{b:Nat}{l:List ZaD}(h:Zca w b l)(hb:w'.heap[b]?=w.heap[b]?):Zca w' b l:=by
 obtain⟨D,h1,h2⟩:=h
 exact⟨D,Zb3 h1 hb,h2⟩
theorem Zca.lt {w:World}{b:Nat}{l:List ZaD}(h:Zca w b l):b<w.heap.size:=by
 obtain⟨D,h1,_⟩:=h
 exact h1.lt
theorem Zca.keep {w w':World}{b:Nat}{l:List ZaD}(h:Zca w b l)(hb:Below w.heap.size w w'):Zca w' b l:=h.of_block (hb.block b h.lt)
theorem Zca.look {w:World}{b:Nat}{l:List ZaD}(h:Zca w b l){t:Int}(ht:(Lit.int .i64 t).wf=true):(Instr.lookup 160 (.map (some b)) (.int .i64 t) false).run Tryz.prog w=.ok (.int .i64 (ZmP l t)) w:=by
 obtain⟨D,h1,h2⟩:=h
 obtain⟨c,hrun,hat,_⟩:=h1.lookup_int ZmQ Tryz.underlying160 Tryz.underlying3 (Zq6 w) (keyOf_int_mk Tryz.underlying3 ht)
 rw[h2 t ht]at hat
 simp only[DataW.lit.injEq,Lit.int.injEq,true_and]at hat
 rw[hrun,←hat]
theorem Zca.more {w:World}{b:Nat}{l:List ZaD}(h:Zca w b l){a:ZaD}(ht:(Lit.int .i64 a.tran).wf=true)(hl:l.length≤17592186044416) :
  ∃w',(Instr.mapUpdate 160 (.map (some b)) (.int .i64 a.tran) (.int .i64 ((ZmP l a.tran:Int)+1))).run Tryz.prog w=.ok () w'∧Zca w' b (l++[a])∧w.grownBy w' (some b):=by
 obtain⟨D,h1,h2⟩:=h
 have hc:ZmP l a.tran≤l.length:=List.length_filter_le _ _
 have hk:=keyOf_int_mk Tryz.underlying3 ht
 obtain⟨w',r1,r2,r3⟩:=h1.update ZmQ Tryz.underlying160 (by rw[maxLen];omega) hk (plainElem_int Tryz.underlying3 (a:=(ZmP l a.tran:Int)+1) (WalkArith.wf_i64 (by omega)))
 refine⟨w',r1,⟨_,by rw[List.length_append];exact r2,fun t hw=>?_⟩,r3⟩
 rw[ZpF]
 by_cases e:a.tran=t
 ·subst e
  rw[Maps.atKey_put_same (h1.tidy ZmQ).isMap (ZmQ.key hk),if_pos rfl]
  simp
 ·rw[Maps.atKey_put_other (fun e'=>e (by injection e' with _ e';exact e'.symm)),h2 t hw,if_neg e,Nat.add_zero]
set_option maxHeartbeats 2000000 in
theorem ZnV {w:World}{A D:Option Addr}{n c m d:Nat}{ms:List (List Int)}{ars:List ZaD}(tr:Int)(h:ZaS w A n c ms)(g:Zh4 w D m d ars)(hm:m≤17592186044416) :
  Calls Tryz.prog 35 #[.agg #[.slice A n c,.slice D m d],.int .i64 tr] w (Zoz (Zfm ars (min tr 24).toNat).length (Zfm ars (min tr 24).toNat) w):=by
 obtain⟨M,hM⟩:∃M,min tr 24=M:=⟨_,rfl⟩
 have hmm:=@run_makeMap Tryz.prog
 have G:=Zaa g
 rw[hM]
 have hM24:M≤24:=by omega
 have hn:=h.small
 clear h g
 go_enter Tryz.func35,Tryz.ntmps35
 go_upto_region 3 with fail
 clear hM hmm
 generalize hw1:(w.alloc (.cells #[.slice A n c,.slice D m d] 83)).alloc (.map #[] 0)=w1
 have D1:=Zaa (show Below w.heap.size w w1 by rw[←hw1];exact((Below.refl _ _).alloc (Nat.le_refl _) _).alloc (by simp) _)
 have X0:=Zaa (show Box w1 w.heap.size 83 #[.slice A n c,.slice D m d] by rw[←hw1];exact(Box.new _ _ _).old _)
 have X1:=Zaa (show Zca w1 (w.heap.size+1) [] by
  rw[←hw1]
  have:=Zca.made (w.alloc (.cells #[.slice A n c,.slice D m d] 83))
  rwa[show(w.alloc (.cells #[.slice A n c,.slice D m d] 83)).heap.size=w.heap.size+1 by simp]at this)
 clear hw1
 obtain⟨c0,c1⟩:=X0.out.two
 go_wp2
 go_loopw [16] (fun v wr=>∃k:Nat,k≤m∧v=.int .i64 k∧Hid (Zca wr (w.heap.size+1) (ars.take k))∧Hid (Below w.heap.size w wr)) (fun v _=>m-(intOf v).toNat)
 case atStart=>exact⟨0,Nat.zero_le _,rfl,X1,D1⟩
 case round =>
  clear c0 c1
  obtain⟨k,hk,rfl,CM,BR⟩:=hrel
  by_cases hlt:k<m
  ·have hki:(k:Int)<(m:Int):=by omega
   obtain⟨bl,off,a,rfl,hbl,ha,q0,q1,q2,hwf⟩:=Zh4.get (Sl.keep Zh3.kept G.out BR.out) hlt
   have bb:=Zab wr (.cells #[.int .i64 a.from_,.int .i64 a.tran,.int .i64 a.to_] 156)
   have WA:=Zaa (Box.new wr #[.int .i64 a.from_,.int .i64 a.tran,.int .i64 a.to_] 156)
   have CW:=Zaa (CM.out.keep bb)
   have BW:=Zaa (BR.out.trans (bb.mono BR.out.size))
   go_upto_region 6 with fail
   clear bb q0 q1 q2 CM BR
   generalize wr.alloc (.cells #[.int .i64 a.from_,.int .i64 a.tran,.int .i64 a.to_] 156)=u0 at *
   generalize wr.heap.size=bx at *
   obtain⟨t0,t1,t2⟩:=WA.out.three
   have LK:=CW.out.look hwf.out
   obtain⟨u1,up,cm,gr⟩:=CW.out.more hwf.out (by rw[List.length_take];omega)
   have CX:=Zaa (show Zca u1 (w.heap.size+1) (ars.take (k+1)) by rw[ZaK ha.out];exact cm)
   have BX:=Zaa (BW.out.grown gr BW.out.size (fun k hk=>by cases hk;omega))
   have hcb:ZmP (ars.take k) a.tran≤k:=Nat.le_trans (List.length_filter_le _ _) (by rw[List.length_take];omega)
   obtain⟨cc,hcc⟩:∃x,ZmP (ars.take k) a.tran=x:=⟨_,rfl⟩
   rw[hcc]at LK up hcb
   clear hcc cm gr
   go_wp2
   go_roundw
   case rel=>exact⟨k+1,by omega,by go_num,CX,BX⟩
   case measure=>simp[intOf];omega
  ·obtain rfl:k=m:=by omega
   have CF:=Zaa (show Zca wr (w.heap.size+1) ars by have:=CM.out;rwa[List.take_of_length_le (by rw[G.out.len];exact Nat.le_refl _)]at this)
   obtain⟨wq,hwq⟩:∃wq:World,wq=wr:=⟨_,rfl⟩
   subst hwq
   obtain⟨N,hN⟩:∃N,M.toNat=N:=⟨_,rfl⟩
   have HN:=Zaa hN
   have hN24:N≤24:=by omega
   clear hN
   go_wp2
   go_loopw [8,27] (fun u v wr=>∃j:Nat,j≤N∧v=.int .i64 j∧Hid (Zaf wr wq.heap.size u (Zfm ars j).length (Zfm ars j))∧Hid (Below wq.heap.size wq wr)) (fun _ v _=>N-(intOf v).toNat)
   case atStart=>exact⟨0,Nat.zero_le _,rfl,Zad.nil,Below.refl _ _⟩
   case round =>
    obtain⟨j,hj,rfl,OW,BQ⟩:=hrel
    by_cases hlj:j<N
    ·have hji:(j:Int)<M:=by have:=HN.out;omega
     have LK:=(CF.out.keep BQ.out).look (t:=(j:Int)) (WalkArith.wf_i64 (by omega))
     have DS:=Zaa (ZnU ars j)
     have hdl:=Zkz ars j
     obtain⟨cc,hcc⟩:∃x,ZmP ars (j:Int)=x:=⟨_,rfl⟩
     rw[hcc]at LK DS
     clear hcc
     by_cases hz:cc=0
     ·subst hz
      rw[if_pos rfl]at DS
      have HDL:=Zaa (show(Zfm ars (j+1)).length=(Zfm ars j).length+1 by rw[DS.out];simp)
      go_wp2_with (at_builtin;refine Zbw rfl _ _ rfl rfl rfl (by first|rfl|simp) OW.out BQ.out BQ.out.size (by omega) ?_;intro v2 w2 own2' hg2 hb2';have own2:=Zaa own2';have hb2:=Zaa hb2';clear own2' hg2 hb2')
      go_roundw
      case rel=>exact⟨j+1,by omega,by go_num,by rw[HDL.out,DS.out];exact own2,hb2⟩
      case measure=>simp[intOf];omega
     ·have hne:((cc:Int)==0)=false:=by simp;omega
      rw[if_neg hz,List.append_nil]at DS
      clear hz
      go_wp2
      go_roundw
      case rel=>exact⟨j+1,by omega,by go_num,by rw[DS.out];exact OW,BQ⟩
      case measure=>simp[intOf];omega
    ·obtain rfl:N=j:=by omega
     have hji:M≤(N:Int):=by have:=HN.out;omega
     have hdl:=Zkz ars N
     obtain⟨Au,cu,hu,iu⟩:=OW.out.sl (by omega)
     have hfr:=OW.out.fresh hu
     have FR:=Zaa (hfr.mono BR.out.size)
     have IU:=Zaa iu
     have BF:=Zaa (BR.out.trans (BQ.out.mono BR.out.size))
     subst hu
     clear iu hfr
     go_wp2
     go_ret
     rw[HN.out]
     exact⟨Au,cu,rfl,IU.out,BF.out,FR.out⟩
end Go.Proofs.YtfmnagcglhlicaaGreat
namespace Go.Proofs.YtfmnagcglhlicaaGreat
open Go.RowKit
def Zdo (w:World)(B g n:Nat)(ls:List (List Int)):Prop :=
 ∃cells:List Value,w.ownsRow B 28 1 (.slice (some ⟨g,0,none⟩) n n) n cells∧ls.length=n∧(∀(k:Nat) (x:List Int),ls[k]?=some x→∃v,cells[k]?=some v∧Zaf w B v x.length x) ∧
  (∀(k l:Nat) (u v:Value),k≠l→cells[k]?=some u→cells[l]?=some v→u.ownBlock=none∨u.ownBlock≠v.ownBlock)
section
variable {w w':World} {B g n:Nat} {ls:List (List Int)}
theorem Zdo.made (h:w.ownsRow B 28 1 (.slice (some ⟨g,0,none⟩) n n) n (List.replicate n (.slice none 0 0))):Zdo w B g n (List.replicate n []):=by
 refine⟨_,h,List.length_replicate,fun k x hx=>?_,fun k l u v _ hu _=>?_⟩
 ·obtain⟨hk,rfl⟩:=List.getElem?_eq_some_iff.1 hx
  rw[List.length_replicate]at hk
  refine⟨_,List.getElem?_replicate_of_lt hk, ?_⟩
  rw[List.getElem_replicate]
  exact Zad.nil
 ·obtain⟨hk,rfl⟩:=List.getElem?_eq_some_iff.1 hu
  rw[List.getElem_replicate]
  exact .inl rfl
theorem Zdo.keep (h:Zdo w B g n ls)(hb:Below w.heap.size w w'):Zdo w' B g n ls:=by
 obtain⟨cells,h1,h2,h3,h4⟩:=h
 refine⟨cells,h1.kept (row:=none) ⟨hb.os,hb.tape,hb.output,hb.size,fun k hk _=>hb.block k hk⟩ (.inr (by simp[Value.ownBlock])),h2,fun k x hx=>?_,h4⟩
 obtain⟨v,a,b⟩:=h3 k x hx
 exact⟨v,a,b.keep ZcE.kept hb⟩
theorem Zdo.base {B':Nat}(h:Zdo w B g n ls)(hB:B'≤B):Zdo w B' g n ls:=by
 obtain⟨cells,h1,h2,h3,h4⟩:=h
 refine⟨cells,⟨h1.1, ?_⟩,h2,fun k x hx=>?_,h4⟩
 ·rcases h1.2 with e|⟨g1,cap,cur,e1,e2,e3⟩
  ·exact .inl e
  ·exact .inr ⟨g1,cap,cur,e1,Nat.le_trans hB e2,e3⟩
 obtain⟨v,a,b⟩:=h3 k x hx
 exact⟨v,a,b.base hB⟩
theorem Zdo.lt (h:Zdo w B g n ls):B≤g∧g<w.heap.size:=by
 obtain⟨cells,h1,_⟩:=h
 exact h1.lt g rfl
theorem Zdo.get (h:Zdo w B g n ls){k:Nat}(hk:k<n):∃v x,ls[k]?=some x∧w.cell? ⟨g,k,none⟩=some v∧Zaf w B v x.length x:=by
 obtain⟨cells,h1,h2,h3,_⟩:=h
 have hx:ls[k]?=some (ls[k]'(by omega)):=List.getElem?_eq_getElem _
 obtain⟨v,a,b⟩:=h3 k _ hx
 exact⟨v,_,hx,by rw[h1.cellAt k (by omega)];exact a,b⟩
theorem Zdo.put {w1:World} (h:Zdo w B g n ls) {i g' cap:Nat} {x:List Int} {y:Int} {v:Value} (hx:ls[i]?=some x) (hv:w.cell? ⟨g,i,none⟩=some v) (hg:w.grownBy w1 v.ownBlock)
  (own:Zaf w1 B (.slice (some ⟨g',0,none⟩) (x.length+1) cap) (x.length+1) (x++[y])) (lies:v.ownBlock=some g'∨w.heap.size≤g') :
  w1.cell? ⟨g,i,none⟩=some v∧w1.frozen? ⟨g,i,none⟩=false∧Zdo (w1.setCell ⟨g,i,none⟩ (.slice (some ⟨g',0,none⟩) (x.length+1) cap)) B g n (ls.set i (x++[y])):=by
 obtain⟨cells,h1,h2,h3,h4⟩:=h
 have hi:i<n:=by rw[←h2];exact(List.getElem?_eq_some_iff.1 hx).1
 obtain⟨v',a,b⟩:=h3 i x hx
 have hvv:v'=v:=by
  rw[h1.cellAt i (by omega),a]at hv
  injection hv
 subst hvv
 have r1:=h1.kept hg (by
  obtain⟨cs,b1,_⟩:=b
  rcases ZcV b1 h1 (by decide)with e|e
  ·exact .inr (by rw[e];simp[Value.ownBlock])
  ·exact .inr (fun e2=>e e2.symm))
 have hgne:g≠g':=by
  intro e
  subst e
  obtain⟨cs,b1,_⟩:=own
  rcases ZcV b1 r1 (by decide)with e|e
  ·cases e
  ·exact e rfl
 have hlt:=(h1.lt g rfl).2
 refine⟨by rw[r1.cellAt i (by omega)];exact a,r1.frozenAt i,⟨_,(r1.stored i _).1,by rw[List.length_set];exact h2,fun k z hz=>?_,fun k l u t hkl hu ht=>?_⟩⟩
 ·by_cases hki:k=i
  ·subst hki
   rw[List.getElem?_set_self (by omega)]at hz
   injection hz with hz
   subst hz
   refine⟨_,List.getElem?_set_self (by have:=h1.1;omega), ?_⟩
   rw[List.length_append]
   refine Zaf.of_row (ownsRow_setCell_other own.row (fun e=>?_) _)
   simp only[Value.ownBlock,Option.some.injEq]at e
   exact hgne e.symm
  ·rw[List.getElem?_set_ne (fun e=>hki e.symm)]at hz
   obtain⟨t,c,d⟩:=h3 k z hz
   refine⟨t,by rw[List.getElem?_set_ne (fun e=>hki e.symm)];exact c, ?_⟩
   refine Zaf.of_row (ownsRow_setCell_other ((d.row).kept hg (h4 k i t v' hki c a)) ?_ _)
   obtain⟨cs,d1,_⟩:=d
   rcases ZcV d1 h1 (by decide)with e|e
   ·rw[e];simp
   ·exact e
 ·by_cases hki:k=i
  ·subst hki
   rw[List.getElem?_set_self (by have:=h1.1;omega)]at hu
   rw[List.getElem?_set_ne hkl]at ht
   injection hu with hu
   subst hu
   refine .inr (fun e=>?_)
   rcases lies with e2|e2
   ·rcases h4 k l v' t hkl a ht with e3|e3
    ·rw[e3]at e2;cases e2
    ·exact e3 (by rw[e2];exact e)
   ·have hl:l<ls.length:=by have:=(List.getElem?_eq_some_iff.1 ht).1;have:=h1.1;omega
    obtain⟨t',c,d⟩:=h3 l _ (List.getElem?_eq_getElem hl)
    rw[ht]at c
    injection c with c
    subst c
    have:=(d.lt g' e.symm).2
    omega
  ·rw[List.getElem?_set_ne (fun e=>hki e.symm)]at hu
   by_cases hli:l=i
   ·subst hli
    rw[List.getElem?_set_self (by have:=h1.1;omega)]at ht
    injection ht with ht
    subst ht
    have hl:k<ls.length:=by have:=(List.getElem?_eq_some_iff.1 hu).1;have:=h1.1;omega
    obtain⟨t',c,d⟩:=h3 k _ (List.getElem?_eq_getElem hl)
    rw[hu]at c
    injection c with c
    subst c
    rcases lies with e2|e2
    ·rcases h4 k l u v' hki hu a with e3|e3
     ·exact .inl e3
     ·exact .inr (fun e=>e3 (e.trans e2.symm))
    ·refine .inr (fun e=>?_)
     have:=(d.lt g' e).2
     omega
   ·rw[List.getElem?_set_ne (fun e=>hli e.symm)]at ht
    exact h4 k l u t hkl hu ht
theorem Zdo.lists (h:Zdo w B g n ls)(hn:n≤281474976710656)(hl:∀x∈ls,x.length≤17592186043904):ZaS w (some ⟨g,0,none⟩) n n ls:=by
 obtain⟨cells,h1,h2,h3,h4⟩:=h
 have hr:Zax ZaL 1 w cells ls:=by
  refine⟨by rw[h1.1,h2],fun i x hx=>?_⟩
  obtain⟨v,a,b⟩:=h3 i x hx
  have hlen:=hl x (List.mem_of_getElem? hx)
  obtain⟨A,c,e,s⟩:=b.sl (by omega)
  exact⟨fun _=>v,fun j hj=>(by
   obtain rfl:j=0:=by omega
   simpa using a),A,x.length,c,e,s,hlen⟩
 obtain⟨A,c,e,s⟩:=Zad.sl (⟨cells,h1,hr,h2⟩:Zad ZaL 1 w B 28 (.slice (some ⟨g,0,none⟩) n n) n ls) hn
 injection e with e1 e2 e3
 subst e1 e3
 exact s
end
def ZcJ (key val:ZaD→Int)(ars:List ZaD)(k:Int):List Int:=(ars.filter fun a=>key a==k).map val
def ZcH (key val:ZaD→Int)(ars:List ZaD)(n:Nat):List (List Int):=(List.range n).map fun(k:Nat)=>ZcJ key val ars (k:Int)
theorem ZkA (key val:ZaD→Int)(n:Nat):ZcH key val [] n=List.replicate n []:=by
 apply List.ext_getElem (by simp[ZcH])
 intro i h1 h2
 simp[ZcH,ZcJ]
theorem ZhO {key val:ZaD→Int}{ars:List ZaD}{n k:Nat}(hk:k<n):(ZcH key val ars n)[k]?=some (ZcJ key val ars (k:Int)):=by simp[ZcH,hk]
theorem ZhP (key val:ZaD→Int)(l:List ZaD)(a:ZaD)(k:Int):ZcJ key val (l++[a]) k=ZcJ key val l k++if key a=k then [val a]else []:=by
 unfold ZcJ
 rw[List.filter_append,List.map_append]
 congr 1
 by_cases h:key a=k <;> simp[h]
theorem ZiP {key val:ZaD→Int}{l:List ZaD}{a:ZaD}{n i:Nat}(hi:key a=(i:Int)):ZcH key val (l++[a]) n=(ZcH key val l n).set i (ZcJ key val l (i:Int)++[val a]):=by
 apply List.ext_getElem (by simp[ZcH])
 intro j h1 h2
 by_cases hj:i=j
 ·subst hj
  rw[List.getElem_set_self]
  simp only[ZcH,List.getElem_map,List.getElem_range]
  rw[ZhP,if_pos hi]
 ·rw[List.getElem_set_ne hj]
  simp only[ZcH,List.getElem_map,List.getElem_range]
  rw[ZhP,if_neg (by rw[hi];omega),List.append_nil]
theorem ZiQ (key val:ZaD→Int)(l:List ZaD)(k:Int):(ZcJ key val l k).length≤l.length:=by
 unfold ZcJ
 rw[List.length_map]
 exact List.length_filter_le _ _
theorem ZgC (key val:ZaD→Int)(l:List ZaD)(n:Nat):(ZcH key val l n).length=n:=by simp[ZcH]
theorem ZlZ {key val:ZaD→Int}{l:List ZaD}{n:Nat}{x:List Int}(hx:x∈ZcH key val l n):x.length≤l.length:=by
 obtain⟨k,_,rfl⟩:=List.mem_map.1 hx
 exact ZiQ _ _ _ _
theorem Zl0:(Tryz.prog.info? 28).map (fun i=>(i.zero,i.size,i.bytes))=some (some (.slice none 0 0),1,24):=by kernel_rfl
def ZsD (ls:List (List Int))(n:Nat)(w:World)(e:Ending)(w':World):Prop :=
 ∃g,e=.returned (.slice (some ⟨g,0,none⟩) n n)∧Zdo w' w.heap.size g n ls∧Below w.heap.size w w'
set_option maxHeartbeats 2000000 in
theorem ZhQ {w:World}{A D:Option Addr}{n c m d:Nat}{ms:List (List Int)}{ars:List ZaD}(_:ZaS w A n c ms)(g:Zh4 w D m d ars)(hn:n≤5864062014634)(hm:m≤5864062014634)(hin:∀(k:Nat) (a:ZaD),ars[k]?=some a→0≤a.to_∧a.to_<(n:Int)) :
  Calls Tryz.prog 67 #[.agg #[.slice A n c,.slice D m d],.bool true] w (ZsD (ZcH ZaD.to_ ZaD.from_ ars n) n w):=by
 have HB:=Zaa (Zab w (.cells #[.slice A n c,.slice D m d] 83))
 have HIN:=Zaa hin
 clear hin
 go_enter Tryz.func67,Tryz.ntmps67
 go_upto_region 1 with fail
 generalize hw0:w.alloc (.cells #[.slice A n c,.slice D m d] 83)=w0
 have D0:=Zaa (show Below w.heap.size w w0 by rw[←hw0];exact HB.out)
 have X0:=Zaa (show Box w0 w.heap.size 83 #[.slice A n c,.slice D m d] by rw[←hw0];exact Box.new _ _ _)
 have G:=Zaa (Sl.keep Zh3.kept g D0.out)
 have hms:=g.small
 clear hw0 g
 obtain⟨c0,c1⟩:=X0.out.two
 go_upto_region 3 with(at_make;refine ZcU Tryz.underlying25 Zl0 rfl rfl _ _ rfl n rfl rfl rfl rfl (by omega) (by omega) (Below.refl w0.heap.size w0) (Nat.le_refl _) ?_;intro w2 own2 hg2 hb2;have L2:=Zaa (Zdo.made own2);have B2:=Zaa hb2;have gg:=Zaa L2.out.lt;have c1':=(X0.out.keep B2.out).two.2;clear own2 hg2 hb2)
 clear c0 c1
 go_loopw [17] (fun v wr=>∃k:Nat,k≤m∧v=.int .i64 k∧Hid (Zdo wr w0.heap.size w0.heap.size n (ZcH ZaD.to_ ZaD.from_ (ars.take k) n))∧Hid (Below w0.heap.size w0 wr)) (fun v _=>m-(intOf v).toNat)
 case atStart=>exact⟨0,Nat.zero_le _,rfl,Zaa (by rw[List.take_zero,ZkA];exact L2.out),B2⟩
 case round =>
  obtain⟨k,hk,rfl,LW,BR⟩:=hrel
  by_cases hlt:k<m
  ·have hki:(k:Int)<(m:Int):=by omega
   obtain⟨bl,off,a,rfl,hbl,ha,q0,q1,q2,_⟩:=Zh4.get (Sl.keep Zh3.kept G.out BR.out) hlt
   have bb:=Zab wr (.cells #[.int .i64 a.from_,.int .i64 a.tran,.int .i64 a.to_] 156)
   have WA:=Zaa (Box.new wr #[.int .i64 a.from_,.int .i64 a.tran,.int .i64 a.to_] 156)
   have BW:=Zaa (BR.out.trans (bb.mono BR.out.size))
   have LX:=Zaa (LW.out.keep bb)
   go_upto_region 5 with fail
   clear bb q0 q1 q2 BR LW
   generalize wr.alloc (.cells #[.int .i64 a.from_,.int .i64 a.tran,.int .i64 a.to_] 156)=u0 at *
   generalize wr.heap.size=bx at *
   obtain⟨t0,t1,t2⟩:=WA.out.three
   obtain⟨hi0,hi1⟩:=HIN.out k a ha.out
   obtain⟨i,hi⟩:∃i:Nat,a.to_=(i:Int):=⟨a.to_.toNat,by omega⟩
   have hin:i<n:=by omega
   have hii:(i:Int)<(n:Int):=by omega
   have NX:=Zaa (show ZcH ZaD.to_ ZaD.from_ (ars.take (k+1)) n=(ZcH ZaD.to_ ZaD.from_ (ars.take k) n).set i (ZcJ ZaD.to_ ZaD.from_ (ars.take k) (i:Int)++[a.from_]) by rw[ZaK ha.out];exact ZiP hi)
   have hlen:(ZcJ ZaD.to_ ZaD.from_ (ars.take k) (i:Int)).length≤k:=Nat.le_trans (ZiQ _ _ _ _) (by rw[List.length_take];omega)
   obtain⟨y,hy⟩:∃y,a.from_=y:=⟨_,rfl⟩
   rw[hi]at t2
   rw[hy]at t0
   rw[hy]at NX
   clear hi0 hi1 hi hy
   go_wp2
   go_quiet (fail)
   clear t0 t1 t2
   have LD:=Zaa (LX.out.keep (Drew.drewN u0 nq).below)
   have BE:=Zaa (BW.out.trans ((Drew.drewN u0 nq).below.mono BW.out.size))
   generalize u0.drewN nq=u1 at *
   obtain⟨v,x,hx,hc,ov⟩:=LD.out.get hin
   obtain rfl:x=ZcJ ZaD.to_ ZaD.from_ (ars.take k) (i:Int):=by
    have h:=ZhO (key:=ZaD.to_) (val:=ZaD.from_) (ars:=ars.take k) hin
    rw[h]at hx
    injection hx with hx
    exact hx.symm
   have HX:=Zaa hx
   have OV:=Zaa ov
   generalize ZcJ ZaD.to_ ZaD.from_ (ars.take k) (i:Int)=z at *
   have HC:=Zaa hc
   clear ov hx LX BW
   go_wp2_with (at_builtin;refine ZbW Zdc rfl _ _ rfl [y] #[.int .i64 y] rfl rfl (by first|rfl|simp) rfl (by omega) (by simp[Value.oneCell']) OV.out (Zax.one (vs:=fun _=>.int .i64 y) rfl rfl (fun j hj=>(by obtain rfl:j=0:=(by omega);rfl))) rfl BE.out BE.out.size (by omega) (by omega) (fun _ _ _ _ h=>h) ?_;intro g' cap w5 own5 hg5 hb5 lies5;obtain⟨p1,p2,p3⟩:=LD.out.put HX.out HC.out hg5 own5 lies5;have P3:=Zaa p3;have B5:=Zaa hb5;clear own5 hg5 hb5 lies5 p3 hc)
   go_roundw
   case rel=>exact⟨k+1,by omega,by go_num,Zaa (by rw[NX.out];exact P3.out),Zaa (B5.out.setCell (Nat.le_refl _) _)⟩
   case measure=>simp[intOf];omega
  ·obtain rfl:k=m:=by omega
   have LF:=Zaa (show Zdo wr w.heap.size w0.heap.size n (ZcH ZaD.to_ ZaD.from_ ars n) by
    have:=LW.out.base D0.out.size
    rwa[List.take_of_length_le (by rw[G.out.len];exact Nat.le_refl _)]at this)
   go_wp2
   go_ret
   exact⟨_,rfl,LF.out,D0.out.trans (BR.out.mono D0.out.size)⟩
def nxt (ars:List ZaD)(k:Int):List Int:=ZcJ ZaD.to_ ZaD.from_ ars k
def Inn (n:Nat)(x:Int):Prop:=0≤x∧x<(n:Int)
theorem ZrZ {ars:List ZaD}{n:Nat}(h:∀a∈ars,Inn n a.from_){k z:Int}(hz:z∈nxt ars k):Inn n z:=by
 obtain⟨a,ha,rfl⟩:=List.mem_map.1 hz
 exact h a (List.mem_filter.1 ha).1
structure SpI (ars:List ZaD)(n:Nat)(src:List Int)(bs:List Bool)(todo:List Int):Prop where
 len:bs.length=n
 had:∀k:Nat,bs[k]?=some true→∃s∈src,ZbJ (nxt ars) s (k:Int)
 due:∀x∈todo,Inn n x∧∃s∈src,ZbJ (nxt ars) s x
 from_:∀s∈src,s∈todo∨bs[s.toNat]?=some true
 next:∀k:Nat,bs[k]?=some true→∀z∈nxt ars (k:Int),z∈todo∨bs[z.toNat]?=some true
section
variable {ars:List ZaD} {n:Nat} {src todo:List Int} {bs:List Bool} {x:Int}
theorem SpI.start (h:∀s∈src,Inn n s):SpI ars n src (List.replicate n false) src where
 len:=by simp
 had:=fun k hk=>by
  obtain⟨hl,e⟩:=List.getElem?_eq_some_iff.1 hk
  rw[List.getElem_replicate]at e
  cases e
 due:=fun x hx=>⟨h x hx,x,hx,.refl _⟩
 from_:=fun s hs=>.inl hs
 next:=fun k hk=>by
  obtain⟨hl,e⟩:=List.getElem?_eq_some_iff.1 hk
  rw[List.getElem_replicate]at e
  cases e
theorem SpI.skip (h:SpI ars n src bs (todo++[x]))(hx:bs[x.toNat]?=some true):SpI ars n src bs todo where
 len:=h.len
 had:=h.had
 due:=fun y hy=>h.due y (List.mem_append_left _ hy)
 from_:=fun s hs=>by
  rcases h.from_ s hs with a|a
  ·rcases List.mem_append.1 a with b|b
   ·exact .inl b
   ·rw[List.mem_singleton.1 b];exact .inr hx
  ·exact .inr a
 next:=fun k hk z hz=>by
  rcases h.next k hk z hz with a|a
  ·rcases List.mem_append.1 a with b|b
   ·exact .inl b
   ·rw[List.mem_singleton.1 b];exact .inr hx
  ·exact .inr a
theorem SpI.take (h:SpI ars n src bs (todo++[x]))(ha:∀a∈ars,Inn n a.from_):SpI ars n src (bs.set x.toNat true) (todo++nxt ars x):=by
 obtain⟨hxn,s0,hs0,hr0⟩:=h.due x (List.mem_append_right _ (List.mem_singleton.2 rfl))
 have hxl:x.toNat<bs.length:=by have:=h.len;have:=hxn.1;have:=hxn.2;omega
 have hset:(bs.set x.toNat true)[x.toNat]?=some true:=List.getElem?_set_self hxl
 have hmore:∀j:Nat,bs[j]?=some true→(bs.set x.toNat true)[j]?=some true:=fun j hj=>by
  by_cases e:x.toNat=j
  ·subst e;exact hset
  ·rw[List.getElem?_set_ne e];exact hj
 have hback:∀j:Nat,(bs.set x.toNat true)[j]?=some true→(j:Int)=x∨bs[j]?=some true:=fun j hj=>by
  by_cases e:x.toNat=j
  ·left;have:=hxn.1;omega
  ·rw[List.getElem?_set_ne e]at hj;exact .inr hj
 have hmove:∀z:Int,z∈todo++[x]∨bs[z.toNat]?=some true→z∈todo++nxt ars x∨(bs.set x.toNat true)[z.toNat]?=some true:=fun z hz=>by
  rcases hz with a|a
  ·rcases List.mem_append.1 a with b|b
   ·exact .inl (List.mem_append_left _ b)
   ·rw[List.mem_singleton.1 b];exact .inr hset
  ·exact .inr (hmore _ a)
 refine⟨by rw[List.length_set];exact h.len,fun k hk=>?_,fun y hy=>?_,fun s hs=>hmove s (h.from_ s hs),fun k hk z hz=>?_⟩
 ·rcases hback k hk with e|e
  ·rw[e];exact⟨s0,hs0,hr0⟩
  ·exact h.had k e
 ·rcases List.mem_append.1 hy with b|b
  ·exact h.due y (List.mem_append_left _ b)
  ·exact⟨ZrZ ha b,s0,hs0,hr0.last b⟩
 ·rcases hback k hk with e|e
  ·rw[e]at hz;exact .inl (List.mem_append_right _ hz)
  ·exact hmove z (h.next k e z hz)
theorem SpI.done (h:SpI ars n src bs [])(hs:∀s∈src,Inn n s)(ha:∀a∈ars,Inn n a.from_)(k:Nat)(_:k<n):bs[k]?=some true↔∃s∈src,ZbJ (nxt ars) s (k:Int):=by
 refine⟨h.had k,fun⟨s,h1,h2⟩=>?_⟩
 have hc:∀y:Int,(Inn n y∧bs[y.toNat]?=some true)→∀z∈nxt ars y,(Inn n z∧bs[z.toNat]?=some true):=fun y hy z hz=>by
  refine⟨ZrZ ha hz, ?_⟩
  rcases h.next y.toNat hy.2 z (by rw[Int.toNat_of_nonneg hy.1.1];exact hz)with a|a
  ·simp at a
  ·exact a
 have:=(h2.closedP hc ⟨hs s h1,by
  rcases h.from_ s h1 with a|a
  ·simp at a
  ·exact a⟩).2
 simpa using this
end
def Zgb:List Bool→List (List Int)→Nat
 | b::bs,l::ls=>(if b=true then 0 else l.length)+Zgb bs ls
 | _,_=>0
theorem ZkB:∀(bs:List Bool) (ls:List (List Int)) (k:Nat) (l:List Int),bs[k]?=some false→ls[k]?=some l→Zgb (bs.set k true) ls+l.length=Zgb bs ls
 | b::bs,m::ls,0,l,hb,hl=>by
  simp only[List.getElem?_cons_zero,Option.some.injEq]at hb hl
  subst hb hl
  simp[Zgb];omega
 | b::bs,m::ls,k+1,l,hb,hl=>by
  simp only[List.getElem?_cons_succ]at hb hl
  have:=ZkB bs ls k l hb hl
  simp only[List.set_cons_succ,Zgb]
  omega
 | [],_,_,_,hb,_=>by simp at hb
 | _::_,[],_,_,_,hl=>by simp at hl
def ZpG:List (List Int)→Nat
 | []=>0
 | l::ls=>l.length+ZpG ls
theorem ZkC:∀(bs:List Bool) (ls:List (List Int)),Zgb bs ls≤ZpG ls
 | [],ls=>by simp[Zgb]
 | b::bs,[]=>by simp[Zgb]
 | b::bs,l::ls=>by
  have:=ZkC bs ls
  simp only[Zgb,ZpG]
  split <;> omega
theorem ZmR:∀(ls:List (List Int)) (k:Nat) (l:List Int) (y:Int),ls[k]?=some l→ZpG (ls.set k (l++[y]))=ZpG ls+1
 | m::ls,0,l,y,hl=>by
  simp only[List.getElem?_cons_zero,Option.some.injEq]at hl
  subst hl
  simp[ZpG];omega
 | m::ls,k+1,l,y,hl=>by
  simp only[List.getElem?_cons_succ]at hl
  have:=ZmR ls k l y hl
  simp only[List.set_cons_succ,ZpG]
  omega
 | [],_,_,_,hl=>by simp at hl
theorem ZmS:∀n,ZpG (List.replicate n ([]:List Int))=0
 | 0=>rfl
 | n+1=>by rw[List.replicate_succ];simp[ZpG,ZmS n]
theorem ZkD {key val:ZaD→Int}{n:Nat}(ars:List ZaD)(h:∀a∈ars,Inn n (key a)):∀k,k≤ars.length→ZpG (ZcH key val (ars.take k) n)=k
 | 0,_=>by rw[List.take_zero,ZkA,ZmS]
 | k+1,hk=>by
  have hg:ars[k]?=some (ars[k]'(by omega)):=List.getElem?_eq_getElem _
  have hin:=h _ (List.mem_of_getElem? hg)
  obtain⟨i,hi⟩:∃i:Nat,key (ars[k]'(by omega))=(i:Int):=⟨_,(Int.toNat_of_nonneg hin.1).symm⟩
  have hii:i<n:=by have:=hin.2;omega
  rw[ZaK hg,ZiP hi,ZmR _ _ _ _ (ZhO hii),ZkD ars h k (by omega)]
def Ztl (w:World)(g:Nat):Nat→List (List Int)→Nat
 | _,[]=>0
 | j,l::ls=>(match w.cell? ⟨g,j,none⟩ with
  | some (.bool true)=>0
  | _=>l.length)+Ztl w g (j+1) ls
theorem ZkE (w:World)(g:Nat):∀(j:Nat) (bs:List Bool) (ls:List (List Int)),bs.length=ls.length→(∀(i:Nat) (b:Bool),bs[i]?=some b→w.cell? ⟨g,j+i,none⟩=some (.bool b))→Ztl w g j ls=Zgb bs ls
 | _,[],[],_,_=>rfl
 | _,[],_::_,hl,_=>by simp at hl
 | _,_::_,[],hl,_=>by simp at hl
 | j,b::bs,l::ls,hl,h=>by
  have h0:=h 0 b rfl
  rw[Nat.add_zero]at h0
  have ih:=ZkE w g (j+1) bs ls (by simpa using hl) (fun i c hc=>by rw[Nat.add_assoc,Nat.add_comm 1 i];exact h (i+1) c hc)
  unfold Ztl Zgb
  rw[h0,ih]
  cases b <;> rfl
open Classical in
noncomputable def Zcu (ars:List ZaD)(n:Nat)(src:List Int):List Bool:=(List.range n).map fun(k:Nat)=>decide (∃s∈src,ZbJ (nxt ars) s (k:Int))
theorem SpI.list {ars:List ZaD}{n:Nat}{src:List Int}{bs:List Bool}(h:SpI ars n src bs [])(hs:∀s∈src,Inn n s)(ha:∀a∈ars,Inn n a.from_):bs=Zcu ars n src:=by
 apply List.ext_getElem (by rw[h.len];simp[Zcu])
 intro k h1 h2
 have hk:k<n:=by have:=h.len;omega
 have hd:=h.done hs ha k hk
 rw[List.getElem?_eq_getElem h1,Option.some.injEq]at hd
 rw[Bool.eq_iff_iff,hd]
 simp[Zcu]
theorem Zl1 {α:Type}(l:List α):l=[]∨∃L b,l=L++[b]:=by
 rcases List.eq_nil_or_concat l with h|⟨L,b,h⟩
 ·exact .inl h
 ·exact .inr ⟨L,b,by rw[h,List.concat_eq_append]⟩
def ZtW:Value→Nat
 | .slice _ n _=>n
 | _=>0
theorem Zaf.init {w:World}{B g n cap:Nat}{xs:List Int}{y:Int}(h:Zaf w B (.slice (some ⟨g,0,none⟩) (n+1) cap) (n+1) (xs++[y])):Zaf w B (.slice (some ⟨g,0,none⟩) n cap) n xs:=by
 have hl:xs.length=n:=by have:=h.len;simpa using this
 have hr:=h.row
 refine Zaf.of_row ⟨by simp[hl], ?_⟩
 rcases hr.2 with⟨e,_⟩|⟨g',cap',cur,e,h1,h2,h3,h4,h5,h6⟩
 ·cases e
 ·injection e with e1 e2 e3
  subst e3
  injection e1 with e1
  injection e1 with e1
  subst e1
  refine .inr ⟨_,_,cur,rfl,h1,h2,by omega,h4,h5, ?_⟩
  have:cur.toList.take (n*1)=(cur.toList.take ((n+1)*1)).take (n*1):=by
   rw[List.take_take]
   congr 1
   omega
  rw[this,h6,List.map_append]
  rw[List.take_append_of_le_length (by simp[hl])]
  exact List.take_of_length_le (by simp[hl])
def ZaF (w:World)(B g n:Nat)(bs:List Bool):Prop:=w.ownsRow B 4 1 (.slice (some ⟨g,0,none⟩) n n) n (bs.map Value.bool)
section
variable {w w':World} {B g n:Nat} {bs:List Bool}
theorem ZaF.len (h:ZaF w B g n bs):bs.length=n:=by have:=h.1;simpa using this
theorem ZaF.at (h:ZaF w B g n bs){k:Nat}{b:Bool}(hk:bs[k]?=some b):w.cell? ⟨g,k,none⟩=some (.bool b):=by
 have hl:=(List.getElem?_eq_some_iff.1 hk).1
 have:=h.len
 rw[World.ownsRow.cellAt h k (by omega),List.getElem?_map,hk];rfl
theorem ZaF.frozen (h:ZaF w B g n bs)(k:Nat):w.frozen? ⟨g,k,none⟩=false:=World.ownsRow.frozenAt h k
theorem ZaF.keep (h:ZaF w B g n bs)(hb:Below w.heap.size w w'):ZaF w' B g n bs :=
 World.ownsRow.kept h (row:=none) ⟨hb.os,hb.tape,hb.output,hb.size,fun k hk _=>hb.block k hk⟩ (.inr (by simp[Value.ownBlock]))
theorem ZaF.put (h:ZaF w B g n bs)(k:Nat)(b:Bool):ZaF (w.setCell ⟨g,k,none⟩ (.bool b)) B g n (bs.set k b):=by
 have:=(World.ownsRow.stored h k (.bool b)).1
 rw[←List.map_set]at this
 exact this
theorem ZaF.grown (h:ZaF w B g n bs){B2 m:Nat}{v:Value}{xs:List Int}(own:Zaf w B2 v m xs)(hg:w.grownBy w' v.ownBlock):ZaF w' B g n bs:=by
 refine World.ownsRow.kept h hg ?_
 obtain⟨cs,b1,_⟩:=own
 rcases ZcV b1 h (by decide)with e|e
 ·exact .inr (by rw[e];simp[Value.ownBlock])
 ·exact .inr (fun e2=>e e2.symm)
theorem ZaF.phi (h:ZaF w B g n bs){ls:List (List Int)}(hl:ls.length=n):Ztl w g 0 ls=Zgb bs ls :=
 ZkE w g 0 bs ls (by rw[h.len,hl]) (fun i b hb=>by rw[Nat.zero_add];exact h.at hb)
theorem ZaF.besideInts (h:ZaF w B g n bs){B2 m:Nat}{v:Value}{xs:List Int}(own:Zaf w B2 v m xs)(k:Nat)(u:Value):Zaf (w.setCell ⟨g,k,none⟩ u) B2 v m xs:=by
 refine Zaf.of_row (ownsRow_setCell_other own.row ?_ _)
 obtain⟨cs,b1,_⟩:=own
 rcases ZcV b1 h (by decide)with e|e
 ·rw[e];simp
 ·exact e
end
def ZtX (bs:List Bool)(n:Nat)(w:World)(e:Ending)(w':World):Prop:=∃g,e=.returned (.slice (some ⟨g,0,none⟩) n n)∧ZaF w' w.heap.size g n bs∧Below w.heap.size w w'
set_option maxHeartbeats 2000000 in
theorem ZkF {w:World} {A D:Option Addr} {n c m d:Nat} {src:List Int} {ars:List ZaD} (h:ZaS w A n c (ZcH ZaD.to_ ZaD.from_ ars n)) (g:Zam w D m d src) (hn:n≤5864062014634) (ham:ars.length≤5864062014634) (hm:m≤5864062014634)
  (hs:∀s∈src,Inn n s) (ha:∀a∈ars,Inn n a.from_) (hto:∀a∈ars,Inn n a.to_) :
  Calls Tryz.prog 66 #[.slice A n c,.slice D m d] w (ZtX (Zcu ars n src) n w):=by
 have H:=Zaa h
 have G:=Zaa g
 have HS:=Zaa hs
 have HA:=Zaa ha
 have TOT:=Zaa (show ZpG (ZcH ZaD.to_ ZaD.from_ ars n)≤5864062014634 by
  have:=ZkD (n:=n) (val:=ZaD.from_) ars hto ars.length (Nat.le_refl _)
  rw[List.take_of_length_le (Nat.le_refl _)]at this
  omega)
 clear h g hs ha hto ham
 go_enter Tryz.func66,Tryz.ntmps66
 go_upto_region 2 with(at_make;refine ZcU Tryz.underlying102 Zqt rfl rfl _ _ rfl n rfl rfl rfl rfl (by omega) (by omega) (Below.refl w.heap.size w) (Nat.le_refl _) ?_;intro w1 own1 hg1 hb1;have OB:=Zaa (show ZaF w1 w.heap.size w.heap.size n (List.replicate n false) by unfold ZaF;rw[List.map_replicate];exact own1);have B1:=Zaa hb1;clear own1 hg1 hb1)
 go_wp2_with (refine(ZaA (G.out.keep B1.out) (by omega)).mono ?_;rintro e w2 ⟨v2,rfl,O2,b2⟩;have OW:=Zaa (show Zaf w2 w.heap.size v2 src.length src by rw[G.out.len];exact O2.base B1.out.size);have OB2:=Zaa (OB.out.keep b2);have B2:=Zaa (B1.out.trans (b2.mono B1.out.size));clear O2 b2)
 go_loopw [6] (fun v wr=>∃(bs:List Bool) (todo:List Int),Hid (Zaf wr w.heap.size v todo.length todo)∧Hid (ZaF wr w.heap.size w.heap.size n bs)∧Hid (SpI ars n src bs todo)∧Hid (Below w.heap.size w wr)∧Hid (todo.length+Zgb bs (ZcH ZaD.to_ ZaD.from_ ars n)≤11728124029268)) (fun v wr=>ZtW v+Ztl wr w.heap.size 0 (ZcH ZaD.to_ ZaD.from_ ars n))
 case atStart=>exact⟨_,_,OW,OB2,SpI.start HS.out,B2,Zaa (by have:=ZkC (List.replicate n false) (ZcH ZaD.to_ ZaD.from_ ars n);have:=TOT.out;have:=G.out.len;omega)⟩
 case round =>
  obtain⟨bs,todo,OI,OBr,SP,BR,PH⟩:=hrel
  rcases Zl1 todo with rfl|⟨todo,x,rfl⟩
  ·obtain⟨Au,cu,hu,_⟩:=OI.out.sl (by simp)
   subst hu
   have FN:=Zaa (SP.out.list HS.out HA.out)
   go_wp2
   go_ret
   exact⟨_,rfl,by rw[←FN.out];exact OBr.out,BR.out⟩
  ·obtain⟨g2,cap,rfl,hlo,hhi⟩:=OI.out.form (by simp)
   obtain⟨k,hk⟩:∃k,todo.length=k:=⟨_,rfl⟩
   have OJ:=OI.out
   have PJ:=PH.out
   rw[show(todo++[x]).length=k+1 by simp[hk]]at OJ PJ
   rw[show(todo++[x]).length=k+1 by simp[hk]]
   have PJ2:=Zaa PJ
   have hcap:=Zaa OJ
   have cx:=OJ.at (j:=k) (x:=x) (by rw[←hk];simp)
   obtain⟨⟨hx0,hx1⟩,_⟩:=SP.out.due x (List.mem_append_right _ (List.mem_singleton.2 rfl))
   obtain⟨q,rfl⟩:∃q:Nat,x=(q:Int):=⟨x.toNat,by omega⟩
   have hq:q<n:=by omega
   obtain⟨b,hb⟩:∃b,bs[q]?=some b:=⟨_,List.getElem?_eq_getElem (by rw[SP.out.len];exact hq)⟩
   have cb:=OBr.out.at hb
   have fb:=OBr.out.frozen q
   have HB:=Zaa hb
   have hk1:k≤11728124029268:=by omega
   have hle:=(OJ.ints (by omega)).le
   have hkc:k≤cap:=by omega
   have hkc1:(k:Int)≤(cap:Int):=by omega
   have hkc0:¬cap=0:=by omega
   clear OJ PJ hb OI PH hx0
   cases b
   ·have B3':Below w.heap.size w (wr.setCell ⟨w.heap.size,q,none⟩ (.bool true)):=BR.out.setCell (Nat.le_refl _) _
    have OB3':=OBr.out.put q true
    have OI3':=OBr.out.besideInts hcap.out.init q (.bool true)
    have PHI:=Zaa (OBr.out.phi (ZgC ZaD.to_ ZaD.from_ ars n))
    go_upto_region 8 with fail
    generalize wr.setCell ⟨w.heap.size,q,none⟩ (.bool true)=w3 at *
    have B3:=Zaa B3'
    have OB3:=Zaa OB3'
    have OI3:=Zaa OI3'
    clear B3' OB3' OI3' cx fb cb
    obtain⟨bl,off,l,Bl,ml,dl,rfl,hbl,hl,hc,il,hml⟩:=ZaS.get (Sl.keep ZaL.kept H.out B3.out) hq
    have IL:=Zaa il
    have RS:=Zaa (ZkB bs _ q l HB.out hl.out)
    have hll:=il.len
    have hle2:k+ml≤17592186044416:=by have:=RS.out;have:=PJ2.out;omega
    have HL:=Zaa (show l=nxt ars (q:Int) by
     have h1:=hl.out
     rw[ZhO hq]at h1
     injection h1 with h1
     exact h1.symm)
    clear il
    go_wp2_with (at_builtin;refine ZcP rfl _ _ rfl rfl rfl OI3.out IL.out B3.out.size hle2 B3.out (Nat.le_refl _) ?_;intro v4 w4 own4 hg4 hb4 _;obtain⟨A4,c4,rfl,_⟩:=own4.sl (by omega);have OI4:=Zaa own4;have OB4:=Zaa (OB3.out.grown OI3.out hg4);have B4:=Zaa hb4;clear own4 hg4 hb4)
    go_roundw
    case rel =>
     refine⟨_,todo++l,Zaa ?_,OB4,Zaa ?_,B4,Zaa ?_⟩
     ·rw[List.length_append,hk,hll];exact OI4.out
     ·rw[HL.out];exact SP.out.take HA.out
     ·rw[List.length_append,hk];have:=RS.out;have:=PJ2.out;omega
    case measure =>
     rw[OB4.out.phi (ZgC _ _ _ _),PHI.out]
     show k+ml+_<k+1+_
     have:=RS.out
     omega
   ·have OI3:=Zaa hcap.out.init
    go_wp2
    go_roundw
    case rel=>exact⟨bs,todo,Zaa (by rw[hk];exact OI3.out),OBr,SP.out.skip HB.out,BR,Zaa (by rw[hk];have:=PJ2.out;omega)⟩
    case measure =>
     show k+_<k+1+_
     omega
abbrev Zq7 (w:World)(g n:Nat)(bs:List Bool):Prop:=bs.length=n∧∀(k:Nat) (b:Bool),bs[k]?=some b→w.cell? ⟨g,k,none⟩=some (.bool b)
theorem ZaF.s {w:World}{B g n:Nat}{bs:List Bool}(h:ZaF w B g n bs):Zq7 w g n bs:=⟨h.len,fun _ _ hb=>h.at hb⟩
theorem Zc2 {w:World}{g n:Nat}{bs:List Bool}(x:Bool)(h:Zq7 w g n bs)(hn:n≤281474976710656) :
  Calls Tryz.prog 34 #[.slice (some ⟨g,0,none⟩) n n,.bool x] w fun e w'=>e=.returned (.int .i64 (ZaT (fun y=>x==y) bs))∧w=w':=by
 have H:=Zaa h
 clear h
 go_enter Tryz.func34,Tryz.ntmps34
 go_wp2
 go_loop [8] (fun v=>∃k:Nat,k≤n∧v=.int .i64 k∧Hid (∀j,j<k→∀y,bs[j]?=some y→(x==y)=false)) (fun v=>n-(intOf v).toNat)
 case atStart=>exact⟨0,Nat.zero_le _,rfl,fun j hj=>absurd hj (by omega)⟩
 case round =>
  obtain⟨k,hk,rfl,lo⟩:=hrel
  by_cases hlt:k<n
  ·have hki:(k:Int)<(n:Int):=by omega
   obtain⟨y,hy0⟩:∃y,bs[k]?=some y:=⟨_,List.getElem?_eq_getElem (by rw[H.out.1];exact hlt)⟩
   have qy:=H.out.2 k y hy0
   have hy:=Zaa hy0
   clear hy0
   by_cases he:x=y
   ·subst he
    go_wp2
    go_ret
    exact⟨Zap (ZaW lo.out hy.out (by simp)).symm,rfl⟩
   ·have hne:(x==y)=false:=by simpa using he
    have HN:=Zaa hne
    clear he
    go_wp2
    go_round
    case rel =>
     refine⟨k+1,by omega,by go_num,fun j hj z hz=>?_⟩
     by_cases hjk:j=k
     ·subst hjk
      have:=hy.out
      rw[hz]at this
      injection this with this
      rw[this]
      exact HN.out
     ·exact lo.out j (by omega) z hz
    case measure=>simp[intOf];omega
  ·go_wp2
   go_ret
   exact⟨Zap (ZaX (fun j hj z hz=>lo.out j (by have:=H.out.1;omega) z hz)).symm,rfl⟩
noncomputable def Zr0 (ars:List ZaD)(n k:Nat):Bool:=!(Zcu ars n [(k:Int)]).any fun y=>false==y
noncomputable def Zr1 (ars:List ZaD)(n t:Nat):Bool:=!(Zcu ars n (ZcJ ZaD.tran ZaD.from_ ars (t:Int))).any fun y=>false==y
def at2 (M:List (List Bool))(i j:Nat):Option Bool:=(M[i]?).bind fun r=>r[j]?
structure ZtE (ars:List ZaD)(n:Nat)(M:List (List Bool)):Prop where
 len:M.length=n
 row:∀(i:Nat) (r:List Bool),M[i]?=some r→r.length=n
 diag:∀i:Nat,i<n→at2 M i i=some true
 sound:∀i j:Nat,at2 M i j=some true→ZbJ (nxt ars) (j:Int) (i:Int)
def Zt7 (ars:List ZaD)(M:List (List Bool)):Prop:=∀a∈ars,∀k:Nat,at2 M k a.from_.toNat=some true→at2 M k a.to_.toNat=some true
open Classical in
noncomputable def ZkG (ars:List ZaD)(n i:Nat):List Bool:=(List.range n).map fun(j:Nat)=>decide (ZbJ (nxt ars) (j:Int) (i:Int))
noncomputable def ZtY (ars:List ZaD)(n:Nat):List (List Bool):=(List.range n).map fun(i:Nat)=>ZkG ars n i
open Classical in
theorem ZnW {ars:List ZaD}{n i j:Nat}(hj:j<n):(ZkG ars n i)[j]?=some (decide (ZbJ (nxt ars) (j:Int) (i:Int))):=by simp[ZkG,hj]
section
variable {ars:List ZaD} {n:Nat} {M:List (List Bool)}
theorem ZtE.full (h:ZtE ars n M)(ha:∀a∈ars,Inn n a.from_)(hc:Zt7 ars M){x z:Int}(hr:ZbJ (nxt ars) x z):Inn n x→at2 M z.toNat x.toNat=some true:=by
 induction hr with
 | refl x=>exact fun hx=>h.diag x.toNat (by have:=hx.1;have:=hx.2;omega)
 | @step x y z hy _ ih =>
  intro _
  obtain⟨a,hm,rfl⟩:=List.mem_map.1 hy
  obtain⟨hm,he⟩:=List.mem_filter.1 hm
  have he':a.to_=x:=by simpa using he
  rw[←he']
  exact hc a hm _ (ih (ha a hm))
open Classical in
theorem ZtE.done (h:ZtE ars n M)(ha:∀a∈ars,Inn n a.from_)(hc:Zt7 ars M):M=ZtY ars n:=by
 apply List.ext_getElem (by rw[h.len];simp[ZtY])
 intro i h1 h2
 have hi:i<n:=by have:=h.len;omega
 have hrow:M[i]?=some (M[i]'h1):=List.getElem?_eq_getElem _
 have hlr:=h.row i _ hrow
 simp only[ZtY,List.getElem_map,List.getElem_range]
 apply List.ext_getElem (by rw[hlr];simp[ZkG])
 intro j h3 h4
 have hj:j<n:=by omega
 have e2:at2 M i j=some ((M[i]'h1)[j]'h3):=by unfold at2;rw[hrow];exact List.getElem?_eq_getElem _
 have e3:(ZkG ars n i)[j]'h4=decide (ZbJ (nxt ars) (j:Int) (i:Int)):=by
  have:=ZnW (ars:=ars) (n:=n) (i:=i) hj
  rw[List.getElem?_eq_getElem h4]at this
  injection this
 rw[e3,Bool.eq_iff_iff,decide_eq_true_eq]
 constructor
 ·intro e
  exact h.sound i j (by rw[e2,e])
 ·intro e
  have:=h.full ha hc e ⟨by omega,by omega⟩
  simp only[Int.toNat_natCast]at this
  rw[e2]at this
  injection this
end
open Classical in
theorem Zs0 (ars:List ZaD)(n k:Nat):Zr0 ars n k=true↔∀i:Nat,i<n→ZbJ (nxt ars) (k:Int) (i:Int):=by
 unfold Zr0 Zcu
 simp only[Bool.not_eq_true',List.any_eq_false,List.mem_map,List.mem_range,List.mem_singleton,exists_eq_left]
 constructor
 ·intro h i hi
  have:=h _ ⟨i,hi,rfl⟩
  simpa using this
 ·rintro h _ ⟨i,hi,rfl⟩
  simpa using h i hi
open Classical in
theorem Zs1 (ars:List ZaD)(n t:Nat):Zr1 ars n t=true↔∀i:Nat,i<n→∃a∈ars,a.tran=(t:Int)∧ZbJ (nxt ars) a.from_ (i:Int):=by
 have key:∀i:Nat,(∃s∈ZcJ ZaD.tran ZaD.from_ ars (t:Int),ZbJ (nxt ars) s (i:Int))↔∃a∈ars,a.tran=(t:Int)∧ZbJ (nxt ars) a.from_ (i:Int):=by
  intro i
  constructor
  ·rintro⟨s,hs,hr⟩
   obtain⟨a,ha,rfl⟩:=List.mem_map.1 hs
   obtain⟨ha,he⟩:=List.mem_filter.1 ha
   exact⟨a,ha,by simpa using he,hr⟩
  ·rintro⟨a,ha,he,hr⟩
   exact⟨a.from_,List.mem_map.2 ⟨a,List.mem_filter.2 ⟨ha,by simpa using he⟩,rfl⟩,hr⟩
 unfold Zr1 Zcu
 simp only[Bool.not_eq_true',List.any_eq_false,List.mem_map,List.mem_range]
 constructor
 ·intro h i hi
  have:=h _ ⟨i,hi,rfl⟩
  exact(key i).1 (by simpa using this)
 ·rintro h _ ⟨i,hi,rfl⟩
  simpa using (key i).2 (h i hi)
def Zud (w:World)(B g n:Nat)(M:List (List Bool)):Prop :=
 ∃(cells:List Value) (bl:Nat→Nat),w.ownsRow B 102 1 (.slice (some ⟨g,0,none⟩) n n) n cells∧M.length≤n∧(∀(k:Nat) (x:List Bool),M[k]?=some x→cells[k]?=some (.slice (some ⟨bl k,0,none⟩) n n)∧ZaF w B (bl k) n x) ∧
  (∀k l:Nat,k<M.length→l<M.length→k≠l→bl k≠bl l)
section
variable {w w1:World} {B g n:Nat} {M:List (List Bool)}
end
def ZtZ:List Bool→Nat
 | []=>0
 | b::bs=>(if b=true then 0 else 1)+ZtZ bs
def Zt0:List (List Bool)→Nat
 | []=>0
 | r::M=>ZtZ r+Zt0 M
open Classical in
noncomputable def Zuo (w:World)(B g n:Nat):Nat:=if h:∃M,Zud w B g n M∧M.length=n then Zt0 (Classical.choose h)else 0
def CL (M:List (List Bool))(a:ZaD)(K:Nat):Prop:=∀k:Nat,k<K→at2 M k a.from_.toNat=some true→at2 M k a.to_.toNat=some true
open Classical
open Classical
end Go.Proofs.YtfmnagcglhlicaaGreat
