/- What a space reads ars: lists of lists of integers, and arcs; live.Right and GRight. Conditions: the slices read ars lists. | The contracts of GRight, live.Dead and GDead. Conditions: the sl -/
import Derived.Test.YtfmnagcglhlicaaGreatTopCrashK11
import Derived.Test.YtfmnagcglhlicaaGreatTopCrashK12
set_option maxRecDepth 100000
set_option maxHeartbeats 2000000
namespace Go.Proofs.YtfmnagcglhlicaaGreat
open Go.RowKit
open Go.Maps
def Il (ars:List bO)(t:Int):Nat:=(ars.filter fun a=>a.tran==t).length
theorem NW (l:List bO)(a:bO)(t:Int):Il (l++[a]) t=Il l t+if a.tran=t then 1 else 0:=by
 unfold Il;rw[List.filter_append,List.length_append];by_cases h:a.tran=t <;> simp[h]
def pG (ars:List bO)(N:Nat):LIn:=((List.range N).filter fun(t:Nat)=>Il ars (t:Int)==0).map fun(t:Nat)=>(t:Int)
theorem JJ (ars:List bO)(k:Nat):pG ars (k+1)=pG ars k++if Il ars (k:Int)=0 then [(k:Int)]else []:=by
 unfold pG;rw[List.range_succ,List.filter_append,List.map_append];congr 1
 by_cases h:Il ars (k:Int)=0 <;> simp[h]
theorem Cj (ars:List bO)(k:Nat):(pG ars k).length≤k:=by
 unfold pG;rw[List.length_map];exact Nat.le_trans (List.length_filter_le _ _) (by simp)
def fQ (w:World)(b:Nat)(l:List bO):Prop :=
 ∃D:DataW Unit,w.ownsMap Tryz.prog 3 (plainElem Tryz.prog 3) b l.length D∧∀t:Int,(Lit.int .i64 t).wf=true→D.atKey (.int .i64 t) (.lit (.int .i64 0))=.lit (.int .i64 (Il l t))
theorem Im:Keyed Tryz.prog 3:=int_keyed Tryz.underlying3
theorem Rb (w:World):(zeroValue 3).run Tryz.prog w=.ok (.int .i64 0) w:=by kernel_rfl
theorem fQ.made (w:World):fQ (w.alloc (.map #[] 0)) w.heap.size []:=⟨.map [],World.ownsMap_made _ _ _ _,fun _ _=>rfl⟩
theorem fQ.of_block {w w':World}{b:Nat}{l:List bO}(h:fQ w b l)(hb:w'.heap[b]?=w.heap[b]?):fQ w' b l:=by
 obtain⟨D,h1,h2⟩:=h;exact⟨D,fC h1 hb,h2⟩
theorem fQ.lt {w:World}{b:Nat}{l:List bO}(h:fQ w b l):b<w.heap.size:=by
 obtain⟨D,h1,_⟩:=h;exact h1.lt
theorem fQ.keep {w w':World}{b:Nat}{l:List bO}(h:fQ w b l)(hb:Below w.heap.size w w'):fQ w' b l:=h.of_block (hb.block b h.lt)
theorem fQ.look {w:World}{b:Nat}{l:List bO}(h:fQ w b l){t:Int}(ht:(Lit.int .i64 t).wf=true):(Instr.lookup 160 (.map (some b)) (.int .i64 t) false).run Tryz.prog w=.ok (.int .i64 (Il l t)) w:=by
 obtain⟨D,h1,h2⟩:=h;obtain⟨c,iW,hat,_⟩:=h1.lookup_int Im Tryz.underlying160 Tryz.underlying3 (Rb w) (keyOf_int_mk Tryz.underlying3 ht);rw[h2 t ht]at hat;simp only[DataW.lit.injEq,Lit.int.injEq,true_and]at hat;rw[iW,←hat]
theorem fQ.more {w:World}{b:Nat}{l:List bO}(h:fQ w b l){a:bO}(ht:(Lit.int .i64 a.tran).wf=true)(hl:l.length≤17592186044416) :
  ∃w',(Instr.mapUpdate 160 (.map (some b)) (.int .i64 a.tran) (.int .i64 ((Il l a.tran:Int)+1))).run Tryz.prog w=.ok () w'∧fQ w' b (l++[a])∧w.grownBy w' (some b):=by
 obtain⟨D,h1,h2⟩:=h;have hc:Il l a.tran≤l.length:=List.length_filter_le _ _;have hk:=keyOf_int_mk Tryz.underlying3 ht;obtain⟨w',r1,r2,r3⟩:=h1.update Im Tryz.underlying160 (by rw[maxLen];omega) hk (plainElem_int Tryz.underlying3 (a:=(Il l a.tran:Int)+1) (WalkArith.wf_i64 (by omega)));refine⟨w',r1,⟨_,by rw[List.length_append];exact r2,fun t hw=>?_⟩,r3⟩;rw[NW];by_cases e:a.tran=t
 ·subst e;rw[Maps.atKey_put_same (h1.tidy Im).isMap (Im.key hk),if_pos rfl];simp
 ·rw[Maps.atKey_put_other (fun e'=>e (by injection e' with _ e';exact e'.symm)),h2 t hw,if_neg e,Nat.add_zero]
theorem JK {w:World}{A D:OAd}{n c m d:Nat}{ms:LLi}{ars:List bO}(tr:Int)(h:bT w A n c ms)(g:tN w D m d ars)(hm:m≤17592186044416) :
  Calls Tryz.prog 35 #[.agg #[.slice A n c,.slice D m d],.int .i64 tr] w (Nr (pG ars (min tr 24).toNat).length (pG ars (min tr 24).toNat) w):=by
 obtain⟨M,hM⟩:∃M,min tr 24=M:=⟨_,rfl⟩;have hmm:=@run_makeMap Tryz.prog;have G:=aA g;rw[hM];have hM24:M≤24:=by omega
 have hn:=h.small;clear h g;go_enter Tryz.func35,Tryz.ntmps35
 go_upto_region 3 with fail
 clear hM hmm;generalize hw1:(w.alloc (.cells #[.slice A n c,.slice D m d] 83)).alloc (.map #[] 0)=w1;have D1:=aA (show Below w.heap.size w w1 by rw[←hw1];exact((Below.refl _ _).alloc (Nat.le_refl _) _).alloc (by simp) _);have X0:=aA (show Box w1 w.heap.size 83 #[.slice A n c,.slice D m d] by rw[←hw1];exact(Box.new _ _ _).old _);have X1:=aA (show fQ w1 (w.heap.size+1) [] by
  rw[←hw1];have:=fQ.made (w.alloc (.cells #[.slice A n c,.slice D m d] 83));rwa[show(w.alloc (.cells #[.slice A n c,.slice D m d] 83)).heap.size=w.heap.size+1 by simp]at this)
 clear hw1;obtain⟨c0,c1⟩:=X0.o.two;go_wp2
 go_loopw [16] (fun v wr=>∃k:Nat,k≤m∧v=.int .i64 k∧Hid (fQ wr (w.heap.size+1) (ars.take k))∧Hid (Below w.heap.size w wr)) (fun v _=>m-(intOf v).toNat)
 case atStart=>exact⟨0,Nat.zero_le _,rfl,X1,D1⟩
 case round =>
  clear c0 c1;obtain⟨k,hk,rfl,CM,BR⟩:=hrel;by_cases hlt:k<m
  ·have hki:(k:Int)<(m:Int):=by omega
   obtain⟨bl,off,a,rfl,hbl,ha,q0,q1,q2,hwf⟩:=tN.get (Sl.keep tM.kept G.o BR.o) hlt;have bb:=aB wr (.cells #[.int .i64 a.from_,.int .i64 a.tran,.int .i64 a.to_] 156);have WA:=aA (Box.new wr #[.int .i64 a.from_,.int .i64 a.tran,.int .i64 a.to_] 156);have CW:=aA (CM.o.keep bb);have BW:=aA (BR.o.trans (bb.mono BR.o.size));go_upto_region 6 with fail
   clear bb q0 q1 q2 CM BR;generalize wr.alloc (.cells #[.int .i64 a.from_,.int .i64 a.tran,.int .i64 a.to_] 156)=u0 at *
   generalize wr.heap.size=bx at *
   obtain⟨t0,t1,t2⟩:=WA.o.three;have LK:=CW.o.look hwf.o;obtain⟨u1,up,cm,gr⟩:=CW.o.more hwf.o (by rw[List.length_take];omega);have CX:=aA (show fQ u1 (w.heap.size+1) (ars.take (k+1)) by rw[bL ha.o];exact cm);have BX:=aA (BW.o.grown gr BW.o.size (fun k hk=>by cases hk;omega));have hcb:Il (ars.take k) a.tran≤k:=Nat.le_trans (List.length_filter_le _ _) (by rw[List.length_take];omega);obtain⟨cc,hcc⟩:∃x,Il (ars.take k) a.tran=x:=⟨_,rfl⟩;rw[hcc]at LK up hcb;clear hcc cm gr;go_wp2
   go_roundw
   case rel=>exact⟨k+1,by omega,by go_num,CX,BX⟩
   case measure=>simp[intOf];omega
  ·obtain rfl:k=m:=by omega
   have CF:=aA (show fQ wr (w.heap.size+1) ars by have:=CM.o;rwa[List.take_of_length_le (by rw[G.o.len];exact Nat.le_refl _)]at this);obtain⟨wq,hwq⟩:∃wq:World,wq=wr:=⟨_,rfl⟩;subst hwq;obtain⟨N,hN⟩:∃N,M.toNat=N:=⟨_,rfl⟩;have HN:=aA hN;have hN24:N≤24:=by omega
   clear hN;go_wp2
   go_loopw [8,27] (fun u v wr=>∃j:Nat,j≤N∧v=.int .i64 j∧Hid (aD wr wq.heap.size u (pG ars j).length (pG ars j))∧Hid (Below wq.heap.size wq wr)) (fun _ v _=>N-(intOf v).toNat)
   case atStart=>exact⟨0,Nat.zero_le _,rfl,aC.nil,Below.refl _ _⟩
   case round =>
    obtain⟨j,hj,rfl,OW,BQ⟩:=hrel;by_cases hlj:j<N
    ·have hji:(j:Int)<M:=by have:=HN.o;omega
     have LK:=(CF.o.keep BQ.o).look (t:=(j:Int)) (WalkArith.wf_i64 (by omega));have DS:=aA (JJ ars j);have hdl:=Cj ars j;obtain⟨cc,hcc⟩:∃x,Il ars (j:Int)=x:=⟨_,rfl⟩;rw[hcc]at LK DS;clear hcc;by_cases hz:cc=0
     ·subst hz;rw[if_pos rfl]at DS;have HDL:=aA (show(pG ars (j+1)).length=(pG ars j).length+1 by rw[DS.o];simp);go_wp2_with (at_builtin;refine dE rfl _ _ rfl rfl rfl (by first|rfl|simp) OW.o BQ.o BQ.o.size (by omega) ?_;intro v2 w2 own2' hg2 hb2';have own2:=aA own2';have hb2:=aA hb2';clear own2' hg2 hb2')
      go_roundw
      case rel=>exact⟨j+1,by omega,by go_num,by rw[HDL.o,DS.o];exact own2,hb2⟩
      case measure=>simp[intOf];omega
     ·have hne:((cc:Int)==0)=false:=by simp;omega
      rw[if_neg hz,List.append_nil]at DS;clear hz;go_wp2
      go_roundw
      case rel=>exact⟨j+1,by omega,by go_num,by rw[DS.o];exact OW,BQ⟩
      case measure=>simp[intOf];omega
    ·obtain rfl:N=j:=by omega
     have hji:M≤(N:Int):=by have:=HN.o;omega
     have hdl:=Cj ars N;obtain⟨Au,cu,hu,iu⟩:=OW.o.sl (by omega);have hfr:=OW.o.fresh hu;have FR:=aA (hfr.mono BR.o.size);have IU:=aA iu;have BF:=aA (BR.o.trans (BQ.o.mono BR.o.size));subst hu;clear iu hfr;go_wp2
     go_ret
     rw[HN.o];exact⟨Au,cu,rfl,IU.o,BF.o,FR.o⟩
def kB (w:World)(B g n:Nat)(ls:LLi):Prop :=
 ∃cells:List Value,w.ownsRow B 28 1 (.slice (some ⟨g,0,none⟩) n n) n cells∧ls.length=n∧(∀(k:Nat) (x:LIn),ls[k]?=some x→∃v,cells[k]?=some v∧aD w B v x.length x) ∧
  (∀(k l:Nat) (u v:Value),k≠l→cells[k]?=some u→cells[l]?=some v→u.ownBlock=none∨u.ownBlock≠v.ownBlock)
section
variable {w w':World} {B g n:Nat} {ls:LLi}
theorem kB.made (h:w.ownsRow B 28 1 (.slice (some ⟨g,0,none⟩) n n) n (List.replicate n (.slice none 0 0))):kB w B g n (List.replicate n []):=by
 refine⟨_,h,List.length_replicate,fun k x hx=>?_,fun k l u v _ hu _=>?_⟩
 ·obtain⟨hk,rfl⟩:=List.getElem?_eq_some_iff.1 hx;rw[List.length_replicate]at hk;refine⟨_,List.getElem?_replicate_of_lt hk, ?_⟩;rw[List.getElem_replicate];exact aC.nil
 ·obtain⟨hk,rfl⟩:=List.getElem?_eq_some_iff.1 hu;rw[List.getElem_replicate];exact .inl rfl
theorem kB.keep (h:kB w B g n ls)(hb:Below w.heap.size w w'):kB w' B g n ls:=by
 obtain⟨cells,h1,h2,h3,h4⟩:=h;refine⟨cells,h1.kept (row:=none) ⟨hb.os,hb.tape,hb.output,hb.size,fun k hk _=>hb.block k hk⟩ (.inr (by simp[Value.ownBlock])),h2,fun k x hx=>?_,h4⟩;obtain⟨v,a,b⟩:=h3 k x hx;exact⟨v,a,b.keep iG.kept hb⟩
theorem kB.base {B':Nat}(h:kB w B g n ls)(hB:B'≤B):kB w B' g n ls:=by
 obtain⟨cells,h1,h2,h3,h4⟩:=h;refine⟨cells,⟨h1.1, ?_⟩,h2,fun k x hx=>?_,h4⟩
 ·rcases h1.2 with e|⟨g1,cap,cur,e1,e2,e3⟩
  ·exact .inl e
  ·exact .inr ⟨g1,cap,cur,e1,Nat.le_trans hB e2,e3⟩
 obtain⟨v,a,b⟩:=h3 k x hx;exact⟨v,a,b.base hB⟩
theorem kB.lt (h:kB w B g n ls):B≤g∧g<w.heap.size:=by
 obtain⟨cells,h1,_⟩:=h;exact h1.lt g rfl
theorem kB.get (h:kB w B g n ls){k:Nat}(hk:k<n):∃v x,ls[k]?=some x∧w.cell? ⟨g,k,none⟩=some v∧aD w B v x.length x:=by
 obtain⟨cells,h1,h2,h3,_⟩:=h;have hx:ls[k]?=some (ls[k]'(by omega)):=List.getElem?_eq_getElem _;obtain⟨v,a,b⟩:=h3 k _ hx;exact⟨v,_,hx,by rw[h1.cellAt k (by omega)];exact a,b⟩
theorem kB.put {w1:World} (h:kB w B g n ls) {i g' cap:Nat} {x:LIn} {y:Int} {v:Value} (hx:ls[i]?=some x) (hv:w.cell? ⟨g,i,none⟩=some v) (hg:w.grownBy w1 v.ownBlock)
  (own:aD w1 B (.slice (some ⟨g',0,none⟩) (x.length+1) cap) (x.length+1) (x++[y])) (lies:v.ownBlock=some g'∨w.heap.size≤g') :
  w1.cell? ⟨g,i,none⟩=some v∧w1.frozen? ⟨g,i,none⟩=false∧kB (w1.setCell ⟨g,i,none⟩ (.slice (some ⟨g',0,none⟩) (x.length+1) cap)) B g n (ls.set i (x++[y])):=by
 obtain⟨cells,h1,h2,h3,h4⟩:=h;have hi:i<n:=by rw[←h2];exact(List.getElem?_eq_some_iff.1 hx).1
 obtain⟨v',a,b⟩:=h3 i x hx;have hvv:v'=v:=by
  rw[h1.cellAt i (by omega),a]at hv;injection hv
 subst hvv;have r1:=h1.kept hg (by
  obtain⟨cs,b1,_⟩:=b;rcases fO b1 h1 (by decide)with e|e
  ·exact .inr (by rw[e];simp[Value.ownBlock])
  ·exact .inr (fun e2=>e e2.symm))
 have hgne:g≠g':=by
  intro e;subst e;obtain⟨cs,b1,_⟩:=own;rcases fO b1 r1 (by decide)with e|e
  ·cases e
  ·exact e rfl
 have hlt:=(h1.lt g rfl).2;refine⟨by rw[r1.cellAt i (by omega)];exact a,r1.frozenAt i,⟨_,(r1.stored i _).1,by rw[List.length_set];exact h2,fun k z hz=>?_,fun k l u t hkl hu ht=>?_⟩⟩
 ·by_cases hki:k=i
  ·subst hki;rw[List.getElem?_set_self (by omega)]at hz;injection hz with hz;subst hz;refine⟨_,List.getElem?_set_self (by have:=h1.1;omega), ?_⟩;rw[List.length_append];refine aD.of_row (ownsRow_setCell_other own.row (fun e=>?_) _);simp only[Value.ownBlock,Option.some.injEq]at e;exact hgne e.symm
  ·rw[List.getElem?_set_ne (fun e=>hki e.symm)]at hz;obtain⟨t,c,d⟩:=h3 k z hz;refine⟨t,by rw[List.getElem?_set_ne (fun e=>hki e.symm)];exact c, ?_⟩;refine aD.of_row (ownsRow_setCell_other ((d.row).kept hg (h4 k i t v' hki c a)) ?_ _);obtain⟨cs,d1,_⟩:=d;rcases fO d1 h1 (by decide)with e|e
   ·rw[e];simp
   ·exact e
 ·by_cases hki:k=i
  ·subst hki;rw[List.getElem?_set_self (by have:=h1.1;omega)]at hu;rw[List.getElem?_set_ne hkl]at ht;injection hu with hu;subst hu;refine .inr (fun e=>?_);rcases lies with e2|e2
   ·rcases h4 k l v' t hkl a ht with e3|e3
    ·rw[e3]at e2;cases e2
    ·exact e3 (by rw[e2];exact e)
   ·have hl:l<ls.length:=by have:=(List.getElem?_eq_some_iff.1 ht).1;have:=h1.1;omega
    obtain⟨t',c,d⟩:=h3 l _ (List.getElem?_eq_getElem hl);rw[ht]at c;injection c with c;subst c;have:=(d.lt g' e.symm).2;omega
  ·rw[List.getElem?_set_ne (fun e=>hki e.symm)]at hu;by_cases hli:l=i
   ·subst hli;rw[List.getElem?_set_self (by have:=h1.1;omega)]at ht;injection ht with ht;subst ht;have hl:k<ls.length:=by have:=(List.getElem?_eq_some_iff.1 hu).1;have:=h1.1;omega
    obtain⟨t',c,d⟩:=h3 k _ (List.getElem?_eq_getElem hl);rw[hu]at c;injection c with c;subst c;rcases lies with e2|e2
    ·rcases h4 k l u v' hki hu a with e3|e3
     ·exact .inl e3
     ·exact .inr (fun e=>e3 (e.trans e2.symm))
    ·refine .inr (fun e=>?_);have:=(d.lt g' e).2;omega
   ·rw[List.getElem?_set_ne (fun e=>hli e.symm)]at ht;exact h4 k l u t hkl hu ht
theorem kB.lists (h:kB w B g n ls)(hn:n≤281474976710656)(hl:∀x∈ls,x.length≤17592186043904):bT w (some ⟨g,0,none⟩) n n ls:=by
 obtain⟨cells,h1,h2,h3,h4⟩:=h;have hr:a6 bH 1 w cells ls:=by
  refine⟨by rw[h1.1,h2],fun i x hx=>?_⟩;obtain⟨v,a,b⟩:=h3 i x hx;have hlen:=hl x (List.mem_of_getElem? hx);obtain⟨A,c,e,s⟩:=b.sl (by omega);exact⟨fun _=>v,fun j hj=>(by
   obtain rfl:j=0:=by omega
   simpa using a),A,x.length,c,e,s,hlen⟩
 obtain⟨A,c,e,s⟩:=aC.sl (⟨cells,h1,hr,h2⟩:aC bH 1 w B 28 (.slice (some ⟨g,0,none⟩) n n) n ls) hn;injection e with e1 e2 e3;subst e1 e3;exact s
end
def jZ (key val:bO→Int)(ars:List bO)(k:Int):LIn:=(ars.filter fun a=>key a==k).map val
def iH (key val:bO→Int)(ars:List bO)(n:Nat):LLi:=(List.range n).map fun(k:Nat)=>jZ key val ars (k:Int)
theorem Cm (key val:bO→Int)(n:Nat):iH key val [] n=List.replicate n []:=by
 apply List.ext_getElem (by simp[iH])
 intro i h1 h2;simp[iH,jZ]
theorem uP {key val:bO→Int}{ars:List bO}{n k:Nat}(hk:k<n):(iH key val ars n)[k]?=some (jZ key val ars (k:Int)):=by simp[iH,hk]
theorem uQ (key val:bO→Int)(l:List bO)(a:bO)(k:Int):jZ key val (l++[a]) k=jZ key val l k++if key a=k then [val a]else []:=by
 unfold jZ;rw[List.filter_append,List.map_append];congr 1
 by_cases h:key a=k <;> simp[h]
theorem xU {key val:bO→Int}{l:List bO}{a:bO}{n i:Nat}(hi:key a=(i:Int)):iH key val (l++[a]) n=(iH key val l n).set i (jZ key val l (i:Int)++[val a]):=by
 apply List.ext_getElem (by simp[iH])
 intro j h1 h2;by_cases hj:i=j
 ·subst hj;rw[List.getElem_set_self];simp only[iH,List.getElem_map,List.getElem_range];rw[uQ,if_pos hi]
 ·rw[List.getElem_set_ne hj];simp only[iH,List.getElem_map,List.getElem_range];rw[uQ,if_neg (by rw[hi];omega),List.append_nil]
theorem xW (key val:bO→Int)(l:List bO)(k:Int):(jZ key val l k).length≤l.length:=by
 unfold jZ;rw[List.length_map];exact List.length_filter_le _ _
theorem sF (key val:bO→Int)(l:List bO)(n:Nat):(iH key val l n).length=n:=by simp[iH]
theorem Ft {key val:bO→Int}{l:List bO}{n:Nat}{x:LIn}(hx:x∈iH key val l n):x.length≤l.length:=by
 obtain⟨k,_,rfl⟩:=List.mem_map.1 hx;exact xW _ _ _ _
theorem Fv:(Tryz.prog.info? 28).map (fun i=>(i.zero,i.size,i.bytes))=some (some (.slice none 0 0),1,24):=by kernel_rfl
def UK (ls:LLi)(n:Nat)(w:World)(e:Ending)(w':World):Prop :=
 ∃g,e=.returned (.slice (some ⟨g,0,none⟩) n n)∧kB w' w.heap.size g n ls∧Below w.heap.size w w'
theorem uR {w:World}{A D:OAd}{n c m d:Nat}{ms:LLi}{ars:List bO}(_:bT w A n c ms)(g:tN w D m d ars)(hn:n≤5864062014634)(hm:m≤5864062014634)(hin:∀(k:Nat) (a:bO),ars[k]?=some a→0≤a.to_∧a.to_<(n:Int)) :
  Calls Tryz.prog 67 #[.agg #[.slice A n c,.slice D m d],.bool true] w (UK (iH bO.to_ bO.from_ ars n) n w):=by
 have HB:=aA (aB w (.cells #[.slice A n c,.slice D m d] 83));have HIN:=aA hin;clear hin;go_enter Tryz.func67,Tryz.ntmps67
 go_upto_region 1 with fail
 generalize hw0:w.alloc (.cells #[.slice A n c,.slice D m d] 83)=w0;have D0:=aA (show Below w.heap.size w w0 by rw[←hw0];exact HB.o);have X0:=aA (show Box w0 w.heap.size 83 #[.slice A n c,.slice D m d] by rw[←hw0];exact Box.new _ _ _);have G:=aA (Sl.keep tM.kept g D0.o);have hms:=g.small;clear hw0 g;obtain⟨c0,c1⟩:=X0.o.two;go_upto_region 3 with(at_make;refine jC Tryz.underlying25 Fv rfl rfl _ _ rfl n rfl rfl rfl rfl (by omega) (by omega) (Below.refl w0.heap.size w0) (Nat.le_refl _) ?_;intro w2 own2 hg2 hb2;have L2:=aA (kB.made own2);have B2:=aA hb2;have gg:=aA L2.o.lt;have c1':=(X0.o.keep B2.o).two.2;clear own2 hg2 hb2)
 clear c0 c1;go_loopw [17] (fun v wr=>∃k:Nat,k≤m∧v=.int .i64 k∧Hid (kB wr w0.heap.size w0.heap.size n (iH bO.to_ bO.from_ (ars.take k) n))∧Hid (Below w0.heap.size w0 wr)) (fun v _=>m-(intOf v).toNat)
 case atStart=>exact⟨0,Nat.zero_le _,rfl,aA (by rw[List.take_zero,Cm];exact L2.o),B2⟩
 case round =>
  obtain⟨k,hk,rfl,LW,BR⟩:=hrel;by_cases hlt:k<m
  ·have hki:(k:Int)<(m:Int):=by omega
   obtain⟨bl,off,a,rfl,hbl,ha,q0,q1,q2,_⟩:=tN.get (Sl.keep tM.kept G.o BR.o) hlt;have bb:=aB wr (.cells #[.int .i64 a.from_,.int .i64 a.tran,.int .i64 a.to_] 156);have WA:=aA (Box.new wr #[.int .i64 a.from_,.int .i64 a.tran,.int .i64 a.to_] 156);have BW:=aA (BR.o.trans (bb.mono BR.o.size));have LX:=aA (LW.o.keep bb);go_upto_region 5 with fail
   clear bb q0 q1 q2 BR LW;generalize wr.alloc (.cells #[.int .i64 a.from_,.int .i64 a.tran,.int .i64 a.to_] 156)=u0 at *
   generalize wr.heap.size=bx at *
   obtain⟨t0,t1,t2⟩:=WA.o.three;obtain⟨hi0,hi1⟩:=HIN.o k a ha.o;obtain⟨i,hi⟩:∃i:Nat,a.to_=(i:Int):=⟨a.to_.toNat,by omega⟩;have hin:i<n:=by omega
   have hii:(i:Int)<(n:Int):=by omega
   have NX:=aA (show iH bO.to_ bO.from_ (ars.take (k+1)) n=(iH bO.to_ bO.from_ (ars.take k) n).set i (jZ bO.to_ bO.from_ (ars.take k) (i:Int)++[a.from_]) by rw[bL ha.o];exact xU hi);have hlen:(jZ bO.to_ bO.from_ (ars.take k) (i:Int)).length≤k:=Nat.le_trans (xW _ _ _ _) (by rw[List.length_take];omega);obtain⟨y,hy⟩:∃y,a.from_=y:=⟨_,rfl⟩;rw[hi]at t2;rw[hy]at t0;rw[hy]at NX;clear hi0 hi1 hi hy;go_wp2
   go_quiet (fail)
   clear t0 t1 t2;have LD:=aA (LX.o.keep (Drew.drewN u0 nq).below);have BE:=aA (BW.o.trans ((Drew.drewN u0 nq).below.mono BW.o.size));generalize u0.drewN nq=u1 at *
   obtain⟨v,x,hx,hc,ov⟩:=LD.o.get hin;obtain rfl:x=jZ bO.to_ bO.from_ (ars.take k) (i:Int):=by
    have h:=uP (key:=bO.to_) (val:=bO.from_) (ars:=ars.take k) hin;rw[h]at hx;injection hx with hx;exact hx.symm
   have HX:=aA hx;have OV:=aA ov;generalize jZ bO.to_ bO.from_ (ars.take k) (i:Int)=z at *
   have HC:=aA hc;clear ov hx LX BW;go_wp2_with (at_builtin;refine eY kQ rfl _ _ rfl [y] #[.int .i64 y] rfl rfl (by first|rfl|simp) rfl (by omega) (by simp[Value.oneCell']) OV.o (a6.one (vs:=fun _=>.int .i64 y) rfl rfl (fun j hj=>(by obtain rfl:j=0:=(by omega);rfl))) rfl BE.o BE.o.size (by omega) (by omega) (fun _ _ _ _ h=>h) ?_;intro g' cap w5 own5 hg5 hb5 lies5;obtain⟨p1,p2,p3⟩:=LD.o.put HX.o HC.o hg5 own5 lies5;have P3:=aA p3;have B5:=aA hb5;clear own5 hg5 hb5 lies5 p3 hc)
   go_roundw
   case rel=>exact⟨k+1,by omega,by go_num,aA (by rw[NX.o];exact P3.o),aA (B5.o.setCell (Nat.le_refl _) _)⟩
   case measure=>simp[intOf];omega
  ·obtain rfl:k=m:=by omega
   have LF:=aA (show kB wr w.heap.size w0.heap.size n (iH bO.to_ bO.from_ ars n) by
    have:=LW.o.base D0.o.size;rwa[List.take_of_length_le (by rw[G.o.len];exact Nat.le_refl _)]at this)
   go_wp2
   go_ret
   exact⟨_,rfl,LF.o,D0.o.trans (BR.o.mono D0.o.size)⟩
def nxt (ars:List bO)(k:Int):LIn:=jZ bO.to_ bO.from_ ars k
def Inn (n:Nat)(x:Int):Prop:=0≤x∧x<(n:Int)
theorem Uc {ars:List bO}{n:Nat}(h:∀a∈ars,Inn n a.from_){k z:Int}(hz:z∈nxt ars k):Inn n z:=by
 obtain⟨a,ha,rfl⟩:=List.mem_map.1 hz;exact h a (List.mem_filter.1 ha).1
structure SpI (ars:List bO)(n:Nat)(src:LIn)(bs:List Bool)(todo:LIn):Prop where
 len:bs.length=n
 had:∀k:Nat,bs[k]?=some true→∃s∈src,fG (nxt ars) s (k:Int)
 due:∀x∈todo,Inn n x∧∃s∈src,fG (nxt ars) s x
 from_:∀s∈src,s∈todo∨bs[s.toNat]?=some true
 next:∀k:Nat,bs[k]?=some true→∀z∈nxt ars (k:Int),z∈todo∨bs[z.toNat]?=some true
section
variable {ars:List bO} {n:Nat} {src todo:LIn} {bs:List Bool} {x:Int}
theorem SpI.start (h:∀s∈src,Inn n s):SpI ars n src (List.replicate n false) src where
 len:=by simp
 had:=fun k hk=>by
  obtain⟨hl,e⟩:=List.getElem?_eq_some_iff.1 hk;rw[List.getElem_replicate]at e;cases e
 due:=fun x hx=>⟨h x hx,x,hx,.refl _⟩
 from_:=fun s hs=>.inl hs
 next:=fun k hk=>by
  obtain⟨hl,e⟩:=List.getElem?_eq_some_iff.1 hk;rw[List.getElem_replicate]at e;cases e
theorem SpI.skip (h:SpI ars n src bs (todo++[x]))(hx:bs[x.toNat]?=some true):SpI ars n src bs todo where
 len:=h.len
 had:=h.had
 due:=fun y hy=>h.due y (List.mem_append_left _ hy)
 from_:=fun s hs=>by
  rcases h.from_ s hs with a|a
  ·rcases List.mem_append.1 a with b|b
   ·exact .inl b
   ·rw[List.mem_singleton.1 b];exact .inr hx
  ·exact .inr a
 next:=fun k hk z hz=>by
  rcases h.next k hk z hz with a|a
  ·rcases List.mem_append.1 a with b|b
   ·exact .inl b
   ·rw[List.mem_singleton.1 b];exact .inr hx
  ·exact .inr a
theorem SpI.take (h:SpI ars n src bs (todo++[x]))(ha:∀a∈ars,Inn n a.from_):SpI ars n src (bs.set x.toNat true) (todo++nxt ars x):=by
 obtain⟨hxn,s0,hs0,hr0⟩:=h.due x (List.mem_append_right _ (List.mem_singleton.2 rfl));have hxl:x.toNat<bs.length:=by have:=h.len;have:=hxn.1;have:=hxn.2;omega
 have hset:(bs.set x.toNat true)[x.toNat]?=some true:=List.getElem?_set_self hxl;have hmore:∀j:Nat,bs[j]?=some true→(bs.set x.toNat true)[j]?=some true:=fun j hj=>by
  by_cases e:x.toNat=j
  ·subst e;exact hset
  ·rw[List.getElem?_set_ne e];exact hj
 have hback:∀j:Nat,(bs.set x.toNat true)[j]?=some true→(j:Int)=x∨bs[j]?=some true:=fun j hj=>by
  by_cases e:x.toNat=j
  ·left;have:=hxn.1;omega
  ·rw[List.getElem?_set_ne e]at hj;exact .inr hj
 have hmove:∀z:Int,z∈todo++[x]∨bs[z.toNat]?=some true→z∈todo++nxt ars x∨(bs.set x.toNat true)[z.toNat]?=some true:=fun z hz=>by
  rcases hz with a|a
  ·rcases List.mem_append.1 a with b|b
   ·exact .inl (List.mem_append_left _ b)
   ·rw[List.mem_singleton.1 b];exact .inr hset
  ·exact .inr (hmore _ a)
 refine⟨by rw[List.length_set];exact h.len,fun k hk=>?_,fun y hy=>?_,fun s hs=>hmove s (h.from_ s hs),fun k hk z hz=>?_⟩
 ·rcases hback k hk with e|e
  ·rw[e];exact⟨s0,hs0,hr0⟩
  ·exact h.had k e
 ·rcases List.mem_append.1 hy with b|b
  ·exact h.due y (List.mem_append_left _ b)
  ·exact⟨Uc ha b,s0,hs0,hr0.last b⟩
 ·rcases hback k hk with e|e
  ·rw[e]at hz;exact .inl (List.mem_append_right _ hz)
  ·exact hmove z (h.next k e z hz)
theorem SpI.done (h:SpI ars n src bs [])(hs:∀s∈src,Inn n s)(ha:∀a∈ars,Inn n a.from_)(k:Nat)(_:k<n):bs[k]?=some true↔∃s∈src,fG (nxt ars) s (k:Int):=by
 refine⟨h.had k,fun⟨s,h1,h2⟩=>?_⟩;have hc:∀y:Int,(Inn n y∧bs[y.toNat]?=some true)→∀z∈nxt ars y,(Inn n z∧bs[z.toNat]?=some true):=fun y hy z hz=>by
  refine⟨Uc ha hz, ?_⟩;rcases h.next y.toNat hy.2 z (by rw[Int.toNat_of_nonneg hy.1.1];exact hz)with a|a
  ·simp at a
  ·exact a
 have:=(h2.closedP hc ⟨hs s h1,by
  rcases h.from_ s h1 with a|a
  ·simp at a
  ·exact a⟩).2
 simpa using this
end
def rH:List Bool→LLi→Nat
 | b::bs,l::ls=>(if b=true then 0 else l.length)+rH bs ls
 | _,_=>0
theorem CQ:∀(bs:List Bool) (ls:LLi) (k:Nat) (l:LIn),bs[k]?=some false→ls[k]?=some l→rH (bs.set k true) ls+l.length=rH bs ls
 | b::bs,m::ls,0,l,hb,hl=>by
  simp only[List.getElem?_cons_zero,Option.some.injEq]at hb hl;subst hb hl;simp[rH];omega
 | b::bs,m::ls,k+1,l,hb,hl=>by
  simp only[List.getElem?_cons_succ]at hb hl;have:=CQ bs ls k l hb hl;simp only[List.set_cons_succ,rH];omega
 | [],_,_,_,hb,_=>by simp at hb
 | _::_,[],_,_,_,hl=>by simp at hl
def NY:LLi→Nat
 | []=>0
 | l::ls=>l.length+NY ls
theorem CU:∀(bs:List Bool) (ls:LLi),rH bs ls≤NY ls
 | [],ls=>by simp[rH]
 | b::bs,[]=>by simp[rH]
 | b::bs,l::ls=>by
  have:=CU bs ls;simp only[rH,NY];split <;> omega
theorem Io:∀(ls:LLi) (k:Nat) (l:LIn) (y:Int),ls[k]?=some l→NY (ls.set k (l++[y]))=NY ls+1
 | m::ls,0,l,y,hl=>by
  simp only[List.getElem?_cons_zero,Option.some.injEq]at hl;subst hl;simp[NY];omega
 | m::ls,k+1,l,y,hl=>by
  simp only[List.getElem?_cons_succ]at hl;have:=Io ls k l y hl;simp only[List.set_cons_succ,NY];omega
 | [],_,_,_,hl=>by simp at hl
theorem Ip:∀n,NY (List.replicate n ([]:LIn))=0
 | 0=>rfl
 | n+1=>by rw[List.replicate_succ];simp[NY,Ip n]
theorem CV {key val:bO→Int}{n:Nat}(ars:List bO)(h:∀a∈ars,Inn n (key a)):∀k,k≤ars.length→NY (iH key val (ars.take k) n)=k
 | 0,_=>by rw[List.take_zero,Cm,Ip]
 | k+1,hk=>by
  have hg:ars[k]?=some (ars[k]'(by omega)):=List.getElem?_eq_getElem _;have hin:=h _ (List.mem_of_getElem? hg);obtain⟨i,hi⟩:∃i:Nat,key (ars[k]'(by omega))=(i:Int):=⟨_,(Int.toNat_of_nonneg hin.1).symm⟩;have hii:i<n:=by have:=hin.2;omega
  rw[bL hg,xU hi,Io _ _ _ _ (uP hii),CV ars h k (by omega)]
def VY (w:World)(g:Nat):Nat→LLi→Nat
 | _,[]=>0
 | j,l::ls=>(match w.cell? ⟨g,j,none⟩ with
  | some (.bool true)=>0
  | _=>l.length)+VY w g (j+1) ls
theorem CY (w:World)(g:Nat):∀(j:Nat) (bs:List Bool) (ls:LLi),bs.length=ls.length→(∀(i:Nat) (b:Bool),bs[i]?=some b→w.cell? ⟨g,j+i,none⟩=some (.bool b))→VY w g j ls=rH bs ls
 | _,[],[],_,_=>rfl
 | _,[],_::_,hl,_=>by simp at hl
 | _,_::_,[],hl,_=>by simp at hl
 | j,b::bs,l::ls,hl,h=>by
  have h0:=h 0 b rfl;rw[Nat.add_zero]at h0;have ih:=CY w g (j+1) bs ls (by simpa using hl) (fun i c hc=>by rw[Nat.add_assoc,Nat.add_comm 1 i];exact h (i+1) c hc);unfold VY rH;rw[h0,ih];cases b <;> rfl
open Classical in
noncomputable def kC (ars:List bO)(n:Nat)(src:LIn):List Bool:=(List.range n).map fun(k:Nat)=>decide (∃s∈src,fG (nxt ars) s (k:Int))
theorem SpI.list {ars:List bO}{n:Nat}{src:LIn}{bs:List Bool}(h:SpI ars n src bs [])(hs:∀s∈src,Inn n s)(ha:∀a∈ars,Inn n a.from_):bs=kC ars n src:=by
 apply List.ext_getElem (by rw[h.len];simp[kC])
 intro k h1 h2;have hk:k<n:=by have:=h.len;omega
 have hd:=h.done hs ha k hk;rw[List.getElem?_eq_getElem h1,Option.some.injEq]at hd;rw[Bool.eq_iff_iff,hd];simp[kC]
theorem Fz {α:Type}(l:List α):l=[]∨∃L b,l=L++[b]:=by
 rcases List.eq_nil_or_concat l with h|⟨L,b,h⟩
 ·exact .inl h
 ·exact .inr ⟨L,b,by rw[h,List.concat_eq_append]⟩
def WZ:Value→Nat
 | .slice _ n _=>n
 | _=>0
theorem aD.init {w:World}{B g n cap:Nat}{xs:LIn}{y:Int}(h:aD w B (.slice (some ⟨g,0,none⟩) (n+1) cap) (n+1) (xs++[y])):aD w B (.slice (some ⟨g,0,none⟩) n cap) n xs:=by
 have hl:xs.length=n:=by have:=h.len;simpa using this
 have hr:=h.row;refine aD.of_row ⟨by simp[hl], ?_⟩;rcases hr.2 with⟨e,_⟩|⟨g',cap',cur,e,h1,h2,h3,h4,h5,h6⟩
 ·cases e
 ·injection e with e1 e2 e3;subst e3;injection e1 with e1;injection e1 with e1;subst e1;refine .inr ⟨_,_,cur,rfl,h1,h2,by omega,h4,h5, ?_⟩;have:cur.toList.take (n*1)=(cur.toList.take ((n+1)*1)).take (n*1):=by
   rw[List.take_take];congr 1
   omega
  rw[this,h6,List.map_append];rw[List.take_append_of_le_length (by simp[hl])];exact List.take_of_length_le (by simp[hl])
def bU (w:World)(B g n:Nat)(bs:List Bool):Prop:=w.ownsRow B 4 1 (.slice (some ⟨g,0,none⟩) n n) n (bs.map Value.bool)
section
variable {w w':World} {B g n:Nat} {bs:List Bool}
theorem bU.len (h:bU w B g n bs):bs.length=n:=by have:=h.1;simpa using this
theorem bU.at (h:bU w B g n bs){k:Nat}{b:Bool}(hk:bs[k]?=some b):w.cell? ⟨g,k,none⟩=some (.bool b):=by
 have hl:=(List.getElem?_eq_some_iff.1 hk).1;have:=h.len;rw[World.ownsRow.cellAt h k (by omega),List.getElem?_map,hk];rfl
theorem bU.frozen (h:bU w B g n bs)(k:Nat):w.frozen? ⟨g,k,none⟩=false:=World.ownsRow.frozenAt h k
theorem bU.keep (h:bU w B g n bs)(hb:Below w.heap.size w w'):bU w' B g n bs :=
 World.ownsRow.kept h (row:=none) ⟨hb.os,hb.tape,hb.output,hb.size,fun k hk _=>hb.block k hk⟩ (.inr (by simp[Value.ownBlock]))
theorem bU.put (h:bU w B g n bs)(k:Nat)(b:Bool):bU (w.setCell ⟨g,k,none⟩ (.bool b)) B g n (bs.set k b):=by
 have:=(World.ownsRow.stored h k (.bool b)).1;rw[←List.map_set]at this;exact this
theorem bU.grown (h:bU w B g n bs){B2 m:Nat}{v:Value}{xs:LIn}(own:aD w B2 v m xs)(hg:w.grownBy w' v.ownBlock):bU w' B g n bs:=by
 refine World.ownsRow.kept h hg ?_;obtain⟨cs,b1,_⟩:=own;rcases fO b1 h (by decide)with e|e
 ·exact .inr (by rw[e];simp[Value.ownBlock])
 ·exact .inr (fun e2=>e e2.symm)
theorem bU.phi (h:bU w B g n bs){ls:LLi}(hl:ls.length=n):VY w g 0 ls=rH bs ls :=
 CY w g 0 bs ls (by rw[h.len,hl]) (fun i b hb=>by rw[Nat.zero_add];exact h.at hb)
theorem bU.besideInts (h:bU w B g n bs){B2 m:Nat}{v:Value}{xs:LIn}(own:aD w B2 v m xs)(k:Nat)(u:Value):aD (w.setCell ⟨g,k,none⟩ u) B2 v m xs:=by
 refine aD.of_row (ownsRow_setCell_other own.row ?_ _);obtain⟨cs,b1,_⟩:=own;rcases fO b1 h (by decide)with e|e
 ·rw[e];simp
 ·exact e
end
def W8 (bs:List Bool)(n:Nat)(w:World)(e:Ending)(w':World):Prop:=∃g,e=.returned (.slice (some ⟨g,0,none⟩) n n)∧bU w' w.heap.size g n bs∧Below w.heap.size w w'
theorem CZ {w:World} {A D:OAd} {n c m d:Nat} {src:LIn} {ars:List bO} (h:bT w A n c (iH bO.to_ bO.from_ ars n)) (g:aJ w D m d src) (hn:n≤5864062014634) (ham:ars.length≤5864062014634) (hm:m≤5864062014634)
  (hs:∀s∈src,Inn n s) (ha:∀a∈ars,Inn n a.from_) (hto:∀a∈ars,Inn n a.to_) :
  Calls Tryz.prog 66 #[.slice A n c,.slice D m d] w (W8 (kC ars n src) n w):=by
 have H:=aA h;have G:=aA g;have HS:=aA hs;have HA:=aA ha;have TOT:=aA (show NY (iH bO.to_ bO.from_ ars n)≤5864062014634 by
  have:=CV (n:=n) (val:=bO.from_) ars hto ars.length (Nat.le_refl _);rw[List.take_of_length_le (Nat.le_refl _)]at this;omega)
 clear h g hs ha hto ham;go_enter Tryz.func66,Tryz.ntmps66
 go_upto_region 2 with(at_make;refine jC Tryz.underlying102 QN rfl rfl _ _ rfl n rfl rfl rfl rfl (by omega) (by omega) (Below.refl w.heap.size w) (Nat.le_refl _) ?_;intro w1 own1 hg1 hb1;have OB:=aA (show bU w1 w.heap.size w.heap.size n (List.replicate n false) by unfold bU;rw[List.map_replicate];exact own1);have B1:=aA hb1;clear own1 hg1 hb1)
 go_wp2_with (refine(bE (G.o.keep B1.o) (by omega)).mono ?_;rintro e w2 ⟨v2,rfl,O2,b2⟩;have OW:=aA (show aD w2 w.heap.size v2 src.length src by rw[G.o.len];exact O2.base B1.o.size);have OB2:=aA (OB.o.keep b2);have B2:=aA (B1.o.trans (b2.mono B1.o.size));clear O2 b2)
 go_loopw [6] (fun v wr=>∃(bs:List Bool) (todo:LIn),Hid (aD wr w.heap.size v todo.length todo)∧Hid (bU wr w.heap.size w.heap.size n bs)∧Hid (SpI ars n src bs todo)∧Hid (Below w.heap.size w wr)∧Hid (todo.length+rH bs (iH bO.to_ bO.from_ ars n)≤11728124029268)) (fun v wr=>WZ v+VY wr w.heap.size 0 (iH bO.to_ bO.from_ ars n))
 case atStart=>exact⟨_,_,OW,OB2,SpI.start HS.o,B2,aA (by have:=CU (List.replicate n false) (iH bO.to_ bO.from_ ars n);have:=TOT.o;have:=G.o.len;omega)⟩
 case round =>
  obtain⟨bs,todo,OI,OBr,SP,BR,PH⟩:=hrel;rcases Fz todo with rfl|⟨todo,x,rfl⟩
  ·obtain⟨Au,cu,hu,_⟩:=OI.o.sl (by simp);subst hu;have FN:=aA (SP.o.list HS.o HA.o);go_wp2
   go_ret
   exact⟨_,rfl,by rw[←FN.o];exact OBr.o,BR.o⟩
  ·obtain⟨g2,cap,rfl,hlo,hhi⟩:=OI.o.form (by simp);obtain⟨k,hk⟩:∃k,todo.length=k:=⟨_,rfl⟩;have OJ:=OI.o;have PJ:=PH.o;rw[show(todo++[x]).length=k+1 by simp[hk]]at OJ PJ;rw[show(todo++[x]).length=k+1 by simp[hk]];have PJ2:=aA PJ;have hcap:=aA OJ;have cx:=OJ.at (j:=k) (x:=x) (by rw[←hk];simp);obtain⟨⟨hx0,hx1⟩,_⟩:=SP.o.due x (List.mem_append_right _ (List.mem_singleton.2 rfl));obtain⟨q,rfl⟩:∃q:Nat,x=(q:Int):=⟨x.toNat,by omega⟩;have hq:q<n:=by omega
   obtain⟨b,hb⟩:∃b,bs[q]?=some b:=⟨_,List.getElem?_eq_getElem (by rw[SP.o.len];exact hq)⟩;have cb:=OBr.o.at hb;have fb:=OBr.o.frozen q;have HB:=aA hb;have hk1:k≤11728124029268:=by omega
   have hle:=(OJ.ints (by omega)).le;have hkc:k≤cap:=by omega
   have hkc1:(k:Int)≤(cap:Int):=by omega
   have hkc0:¬cap=0:=by omega
   clear OJ PJ hb OI PH hx0;cases b
   ·have B3':Below w.heap.size w (wr.setCell ⟨w.heap.size,q,none⟩ (.bool true)):=BR.o.setCell (Nat.le_refl _) _;have OB3':=OBr.o.put q true;have OI3':=OBr.o.besideInts hcap.o.init q (.bool true);have PHI:=aA (OBr.o.phi (sF bO.to_ bO.from_ ars n));go_upto_region 8 with fail
    generalize wr.setCell ⟨w.heap.size,q,none⟩ (.bool true)=w3 at *
    have B3:=aA B3';have OB3:=aA OB3';have OI3:=aA OI3';clear B3' OB3' OI3' cx fb cb;obtain⟨bl,off,l,Bl,ml,dl,rfl,hbl,hl,hc,il,hml⟩:=bT.get (Sl.keep bH.kept H.o B3.o) hq;have IL:=aA il;have RS:=aA (CQ bs _ q l HB.o hl.o);have hll:=il.len;have hle2:k+ml≤17592186044416:=by have:=RS.o;have:=PJ2.o;omega
    have HL:=aA (show l=nxt ars (q:Int) by
     have h1:=hl.o;rw[uP hq]at h1;injection h1 with h1;exact h1.symm)
    clear il;go_wp2_with (at_builtin;refine iT rfl _ _ rfl rfl rfl OI3.o IL.o B3.o.size hle2 B3.o (Nat.le_refl _) ?_;intro v4 w4 own4 hg4 hb4 _;obtain⟨A4,c4,rfl,_⟩:=own4.sl (by omega);have OI4:=aA own4;have OB4:=aA (OB3.o.grown OI3.o hg4);have B4:=aA hb4;clear own4 hg4 hb4)
    go_roundw
    case rel =>
     refine⟨_,todo++l,aA ?_,OB4,aA ?_,B4,aA ?_⟩
     ·rw[List.length_append,hk,hll];exact OI4.o
     ·rw[HL.o];exact SP.o.take HA.o
     ·rw[List.length_append,hk];have:=RS.o;have:=PJ2.o;omega
    case measure =>
     rw[OB4.o.phi (sF _ _ _ _),PHI.o];show k+ml+_<k+1+_
     have:=RS.o;omega
   ·have OI3:=aA hcap.o.init;go_wp2
    go_roundw
    case rel=>exact⟨bs,todo,aA (by rw[hk];exact OI3.o),OBr,SP.o.skip HB.o,BR,aA (by rw[hk];have:=PJ2.o;omega)⟩
    case measure =>
     show k+_<k+1+_
     omega
abbrev UL (w:World)(g n:Nat)(bs:List Bool):Prop:=bs.length=n∧∀(k:Nat) (b:Bool),bs[k]?=some b→w.cell? ⟨g,k,none⟩=some (.bool b)
theorem bU.s {w:World}{B g n:Nat}{bs:List Bool}(h:bU w B g n bs):UL w g n bs:=⟨h.len,fun _ _ hb=>h.at hb⟩
theorem jK {w:World}{g n:Nat}{bs:List Bool}(x:Bool)(h:UL w g n bs)(hn:n≤281474976710656) :
  Calls Tryz.prog 34 #[.slice (some ⟨g,0,none⟩) n n,.bool x] w fun e w'=>e=.returned (.int .i64 (cC (fun y=>x==y) bs))∧w=w':=by
 have H:=aA h;clear h;go_enter Tryz.func34,Tryz.ntmps34
 go_wp2
 go_loop [8] (fun v=>∃k:Nat,k≤n∧v=.int .i64 k∧Hid (∀j,j<k→∀y,bs[j]?=some y→(x==y)=false)) (fun v=>n-(intOf v).toNat)
 case atStart=>exact⟨0,Nat.zero_le _,rfl,fun j hj=>absurd hj (by omega)⟩
 case round =>
  obtain⟨k,hk,rfl,lo⟩:=hrel;by_cases hlt:k<n
  ·have hki:(k:Int)<(n:Int):=by omega
   obtain⟨y,hy0⟩:∃y,bs[k]?=some y:=⟨_,List.getElem?_eq_getElem (by rw[H.o.1];exact hlt)⟩;have qy:=H.o.2 k y hy0;have hy:=aA hy0;clear hy0;by_cases he:x=y
   ·subst he;go_wp2
    go_ret
    exact⟨aT (cJ lo.o hy.o (by simp)).symm,rfl⟩
   ·have hne:(x==y)=false:=by simpa using he
    have HN:=aA hne;clear he;go_wp2
    go_round
    case rel =>
     refine⟨k+1,by omega,by go_num,fun j hj z hz=>?_⟩;by_cases hjk:j=k
     ·subst hjk;have:=hy.o;rw[hz]at this;injection this with this;rw[this];exact HN.o
     ·exact lo.o j (by omega) z hz
    case measure=>simp[intOf];omega
  ·go_wp2
   go_ret
   exact⟨aT (cL (fun j hj z hz=>lo.o j (by have:=H.o.1;omega) z hz)).symm,rfl⟩
def at2 (M:List (List Bool))(i j:Nat):Option Bool:=(M[i]?).bind fun r=>r[j]?
section
variable {ars:List bO} {n:Nat} {M:List (List Bool)}
end
section
variable {w w1:World} {B g n:Nat} {M:List (List Bool)}
end
def CL (M:List (List Bool))(a:bO)(K:Nat):Prop:=∀k:Nat,k<K→at2 M k a.from_.toNat=some true→at2 M k a.to_.toNat=some true
open Classical
open Classical
end Go.Proofs.YtfmnagcglhlicaaGreat
