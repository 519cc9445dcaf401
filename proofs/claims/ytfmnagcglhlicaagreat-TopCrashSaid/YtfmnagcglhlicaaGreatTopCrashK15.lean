/- Texts melted into one: The speaker as it lies in memory, and the contract of spread. Conditions: the speaker's arcs are between marks. | The contracts of first, hear, ends and hope. Conditio -/
import Derived.Test.YtfmnagcglhlicaaGreatTopCrashK14
set_option maxRecDepth 100000
set_option maxHeartbeats 2000000
namespace Go.Proofs.YtfmnagcglhlicaaGreat
open Go.RowKit
theorem Box.four {w:World}{b ty:Nat}{u0 u1 u2 u3:Value}(h:Box w b ty #[u0,u1,u2,u3]):w.cell? ⟨b,0,none⟩=some u0∧w.cell? ⟨b,1,none⟩=some u1∧w.cell? ⟨b,2,none⟩=some u2∧w.cell? ⟨b,3,none⟩=some u3:=⟨h.cell 0,h.cell 1,h.cell 2,h.cell 3⟩
section
variable {w:World} {bp:Nat} {A D Al Ae:OAd} {n c m d nl cl ce:Nat} {ars:List bO} {ls:LIn} {es:List Bool}
end
def xY:World→(Nat→Value)→POp→Prop:=fun _ vs o=>vs 0=.int .i64 o.kind∧vs 1=.int .i64 o.user∧vs 2=.int .i64 o.tran∧vs 3=.int .i64 o.item∧vs 4=.int .i64 o.to_
theorem xY.kept:t8 xY:=fun _ _ _ _ _ h=>h
theorem xY.good:Jj xY 5 where
 kept:=xY.kept
 one:=fun w vs x h j hj=>by
  obtain⟨h0,h1,h2,h3,h4⟩:=h;match j,hj with
  | 0,_=>rw[h0];rfl
  | 1,_=>rw[h1];rfl
  | 2,_=>rw[h2];rfl
  | 3,_=>rw[h3];rfl
  | 4,_=>rw[h4];rfl
 pos:=by omega
abbrev V5 (w:World)(A:OAd)(n c:Nat)(os:List POp):Prop:=Sl xY 5 w A n c os
abbrev kD (w:World)(B:Nat)(v:Value)(n:Nat)(os:List POp):Prop:=aC xY 5 w B 45 v n os
theorem Ud:mC 26 45 5 40:=mC.mk' (z:=.agg #[.int .i64 0,.int .i64 0,.int .i64 0,.int .i64 0,.int .i64 0]) Tryz.underlying26 (by kernel_rfl) rfl (by decide)
theorem a6.dop {w:World}{o:POp}:a6 xY 5 w [.int .i64 o.kind,.int .i64 o.user,.int .i64 o.tran,.int .i64 o.item,.int .i64 o.to_] [o] :=
 a6.one (vs:=fun j=>[Value.int .i64 o.kind,.int .i64 o.user,.int .i64 o.tran,.int .i64 o.item,.int .i64 o.to_].getD j undef) ⟨rfl,rfl,rfl,rfl,rfl⟩ rfl (fun j hj=>by
  match j,hj with
  | 0,_=>rfl
  | 1,_=>rfl
  | 2,_=>rfl
  | 3,_=>rfl
  | 4,_=>rfl)
theorem V6 (a b:Nat)(ha:a<256)(hb:b<256):bits .or .i64 ((a:Int)*256) (b:Int)=((a*256+b:Nat):Int):=by
 have hx:a*256 ||| b=a*256+b:=by
  have:=Nat.shiftLeft_add_eq_or_of_lt (i:=8) (b:=b) (by omega) a;rw[Nat.shiftLeft_eq]at this;exact this.symm
 have h1:(BitVec.ofInt 64 ((a:Int)*256)).toNat=a*256:=by
  rw[show(a:Int)*256=((a*256:Nat):Int) by omega,BitVec.ofInt_natCast,BitVec.toNat_ofNat];exact Nat.mod_eq_of_lt (by omega)
 have h2:(BitVec.ofInt 64 (b:Int)).toNat=b:=by
  rw[BitVec.ofInt_natCast,BitVec.toNat_ofNat];exact Nat.mod_eq_of_lt (by omega)
 show IntKind.i64.wrap ((BitVec.ofInt 64 ((a:Int)*256) ||| BitVec.ofInt 64 (b:Int)).toNat:Int)=_
 rw[BitVec.toNat_or,h1,h2,hx];simp[IntKind.wrap,IntKind.bits,IntKind.signed];omega
theorem Bts.seven {w:World}{b off c:Nat}{L:List Nat}(h:Bts w (some ⟨b,off,none⟩) 7 c L) :
  ∃b0 b1 b2 b3 b4 b5 b6,L=[b0,b1,b2,b3,b4,b5,b6]∧w.cell? ⟨b,off,none⟩=some (.int .u8 (b0:Int))∧w.cell? ⟨b,off+1,none⟩=some (.int .u8 (b1:Int))∧w.cell? ⟨b,off+2,none⟩=some (.int .u8 (b2:Int))∧w.cell? ⟨b,off+3,none⟩=some (.int .u8 (b3:Int)) ∧
   w.cell? ⟨b,off+4,none⟩=some (.int .u8 (b4:Int))∧w.cell? ⟨b,off+5,none⟩=some (.int .u8 (b5:Int))∧w.cell? ⟨b,off+6,none⟩=some (.int .u8 (b6:Int))∧b0<256∧b1<256∧b2<256∧b3<256∧b4<256∧b5<256∧b6<256:=by
 have key:∀k,k<7→∃x:Nat,L[k]?=some x∧w.cell? ⟨b,off+k,none⟩=some (.int .u8 (x:Int))∧x<256:=fun k hk=>by
  obtain⟨b',off',x,e,_,hx,hc,hlt⟩:=Bts.get h hk;injection e with e;injection e with e1 e2;subst e1 e2;exact⟨x,hx.o,hc,hlt⟩
 obtain⟨x0,h0,c0,l0⟩:=key 0 (by omega);obtain⟨x1,h1,c1,l1⟩:=key 1 (by omega);obtain⟨x2,h2,c2,l2⟩:=key 2 (by omega);obtain⟨x3,h3,c3,l3⟩:=key 3 (by omega);obtain⟨x4,h4,c4,l4⟩:=key 4 (by omega);obtain⟨x5,h5,c5,l5⟩:=key 5 (by omega);obtain⟨x6,h6,c6,l6⟩:=key 6 (by omega);refine⟨x0,x1,x2,x3,x4,x5,x6, ?_,c0,c1,c2,c3,c4,c5,c6,l0,l1,l2,l3,l4,l5,l6⟩;have hl:=h.len;match L,hl with
 | [y0,y1,y2,y3,y4,y5,y6],_ =>
  simp at h0 h1 h2 h3 h4 h5 h6;rw[h0,h1,h2,h3,h4,h5,h6]
theorem iY {b:Nat}(h:b<256):IntKind.i64.wrap (b:Int)=(b:Int):=by rw[IntKind.wrap_i64];omega
theorem UO {b:Nat}(h:b<256):IntKind.i64.wrap ((b:Int)*256)=(b:Int)*256:=by rw[IntKind.wrap_i64];omega
theorem Rk {L:List Nat}{b0 b1 b2 b3 b4 b5 b6:Nat}(h:L.take 7=[b0,b1,b2,b3,b4,b5,b6]) :
  L.take 6=[b0,b1,b2,b3,b4,b5]∧L.getD 6 0=b6∧VF L=⟨b0,b1,b2,((b4*256+b5:Nat):Int),b3⟩:=by
 have e:L=b0::b1::b2::b3::b4::b5::b6::L.drop 7:=by
  have:=List.take_append_drop 7 L;rw[h]at this;exact this.symm
 rw[e];exact⟨rfl,rfl,rfl⟩
def Rl (p:List POp×Int×Int)(w:World)(e:Ending)(w':World):Prop :=
 ∃A n c,e=.returned (.tuple #[.slice A n c,.int .i64 p.2.1,.int .i64 p.2.2])∧kD w' w.heap.size (.slice A n c) n p.1∧Below w.heap.size w w'
theorem qH {w:World}{A:OAd}{n c:Nat}{bs:List Nat}(h:Bts w A n c bs)(hn:n≤17592186044416) :
  Calls Tryz.prog 69 #[.slice A n c] w (Rl (gZ bs) w):=by
 have H:=aA h;have hle:=h.le;have hcap:=h.cap;have HL:=aA h.len;clear h;go_enter Tryz.func69,Tryz.ntmps69
 go_wp2
 go_loopw [5,6] (fun u v wr=>∃j q:Nat,q≤n∧v=.int .i64 q∧Hid (q=7*j)∧∃out,Hid (kD wr w.heap.size u j out)∧Hid (sU bs j out)∧Hid (Below w.heap.size w wr)) (fun _ v _=>n-(intOf v).toNat)
 case atStart=>exact⟨0,0,Nat.zero_le _,rfl,rfl,[],aC.nil,sU.start bs,Below.refl _ _⟩
 case round =>
  obtain⟨j,q,hq,rfl,HQ,out,OW,RI,BR⟩:=hrel;by_cases hlt:q+7≤n
  ·have hki:(7:Int)≤(n:Int)-(q:Int):=by omega
   obtain⟨b,off,eA⟩:∃b off,A=some ⟨b,off,none⟩:=by obtain⟨b,off,e,_⟩:=H.o.cells (by omega);exact⟨b,off,e⟩
   subst eA;have P7:=aA (Sl.piece (Sl.keep gC.kept H.o BR.o) hlt (by omega));have P6:=aA (Sl.piece (Sl.keep gC.kept H.o BR.o) (show q+6≤n by omega) (by omega));obtain⟨b0,b1,b2,b3,b4,b5,b6,eL,x0,x1,x2,x3,x4,x5,x6,l0,l1,l2,l3,l4,l5,l6⟩:=Bts.seven P7.o;have hcq:¬c=q:=by omega
   have hqc:q+7≤c:=by omega
   obtain⟨t6,g6,go⟩:=Rk eL;have T6:=aA t6;have G6:=aA g6;have GO:=aA go;have P6D:=aA (Sl.keep gC.kept P6.o ((Below.refl wr.heap.size wr).drew));rw[t6]at P6D;have SQ:=aA (show q+7-q=7 from by omega);clear eL t6 g6 go P6 P7;have hd:7≤c-q:=by omega
   have hd6:(6:Int)≤((c-q:Nat):Int):=by omega
   go_upto_region 6 with fail
   rw[SQ.o];clear SQ hcq hqc;generalize off+q=pp at *
   generalize c-q=d at *
   have HC:=aA (show wr.cell? ⟨b,pp,none⟩=some (.int .u8 (b0:Int))∧wr.cell? ⟨b,pp+1,none⟩=some (.int .u8 (b1:Int))∧wr.cell? ⟨b,pp+2,none⟩=some (.int .u8 (b2:Int))∧wr.cell? ⟨b,pp+3,none⟩=some (.int .u8 (b3:Int))∧wr.cell? ⟨b,pp+4,none⟩=some (.int .u8 (b4:Int))∧wr.cell? ⟨b,pp+5,none⟩=some (.int .u8 (b5:Int))from⟨x0,x1,x2,x3,x4,x5⟩);clear x0 x1 x2 x3 x4 x5;obtain⟨sm,hsm⟩:∃sm,uD [b0,b1,b2,b3,b4,b5]=sm:=⟨_,rfl⟩;have SM:=aA hsm;have CS:=aA (pY P6D.o (by omega));rw[hsm]at CS;clear hsm P6D;have DR:=aA ((Below.refl wr.heap.size wr).drew);have BD:=aA (BR.o.trans (DR.o.mono BR.o.size));have OD:=aA (aC.keep xY.kept OW.o DR.o);have HD:=aA (show wr.drew.cell? ⟨b,pp,none⟩=some (.int .u8 (b0:Int))∧wr.drew.cell? ⟨b,pp+1,none⟩=some (.int .u8 (b1:Int))∧wr.drew.cell? ⟨b,pp+2,none⟩=some (.int .u8 (b2:Int))∧wr.drew.cell? ⟨b,pp+3,none⟩=some (.int .u8 (b3:Int))∧wr.drew.cell? ⟨b,pp+4,none⟩=some (.int .u8 (b4:Int))∧wr.drew.cell? ⟨b,pp+5,none⟩=some (.int .u8 (b5:Int))from HC.o);clear HC BR OW DR;by_cases hs:sm=b6
   ·have hs1:(sm:Int)=(b6:Int):=by omega
    have HS:=aA (show uD ((bs.drop q).take 6)=(bs.drop q).getD 6 0 by rw[T6.o,G6.o,SM.o,hs]);have RN:=aA (show sU bs (j+1) (out++[⟨b0,b1,b2,((b4*256+b5:Nat):Int),b3⟩]) by
     have hq7:=HQ.o;have h:=RI.o.next (by rw[HL.o];omega) (by rw[←hq7];exact HS.o);rw[←hq7,GO.o]at h;exact h)
    rw[hs1]at CS;clear hs hs1 HS;go_region_held3 (fun w'=>w'.cell? ⟨b,pp+6,none⟩=some (.int .u8 (b6:Int)))
     (first|go_keep)
     (first|(go_at_call 114;(with_reducible refine CS.o.mono ?_);rintro e w1 ⟨rfl,rfl⟩))
    all_goals
     generalize wr.drew=wd at *
     obtain⟨x0,x1,x2,x3,x4,x5⟩:=HD.o;have hor:=V6 b4 b5 l4 l5;have w0:=iY l0;have w1:=iY l1;have w2:=iY l2;have w3:=iY l3;have w4:=iY l4;have w5:=iY l5;have w6:=UO l4;go_upto_region 8 with fail
     refine aF 29 (.takes [0,1,2,3,4,5,6,7,8,9,10,11,12,13,14,15,16,17,18,19,20,21,22,23,24,25,26,27] (.one 28 (.fins [29,30] .done))) (fun w'=>w'.cell? ⟨b,pp,none⟩=some (.int .u8 (b0:Int))∧w'.cell? ⟨b,pp+1,none⟩=some (.int .u8 (b1:Int))∧w'.cell? ⟨b,pp+2,none⟩=some (.int .u8 (b2:Int))∧w'.cell? ⟨b,pp+3,none⟩=some (.int .u8 (b3:Int))∧w'.cell? ⟨b,pp+4,none⟩=some (.int .u8 (b4:Int))∧w'.cell? ⟨b,pp+5,none⟩=some (.int .u8 (b5:Int))) (by kernel_rfl) (by kernel_rfl) (by kernel_rfl) (fun _ _ _ _ _ h=>h) ⟨x0,x1,x2,x3,x4,x5⟩ (fun hH=>?_);simp only[Scr.takes,Scr.fins];have DR:=aA ((Below.refl wd.heap.size wd).drew);have BE:=aA (BD.o.trans (DR.o.mono BD.o.size));have OE:=aA (aC.keep xY.kept OD.o DR.o);have hj9:j≤n:=by have:=HQ.o;omega
     clear BD OD DR x0 x1 x2 x3 x4 x5 x6 HD;generalize wd.drew=we at *
     have HE:=aA hH
     iterate 28
      refine aH (v:=?_) rfl (by rfl) hH (fun w' hSw=>?_) ?_
      rotate_left
      ·(go_simp;try with_reducible rfl)
      simp only[Act.put,aL,aM,aN]
     clear hH;refine bI rfl (fun K hK=>?_);go_simp
     have hc0:=HE.o;refine hK.out _ _ (by simp[*,World.cell?_alloc_some]) (fun _=>?_);clear hK hc0 w0 w1 w2 w3 w4 w5 w6;refine bF rfl (fun K hK=>?_);refine jD Ud rfl (.tmp 29) (.tmp 57) rfl [⟨b0,b1,b2,((b4*256+b5:Nat):Int),b3⟩] #[.int .i64 (b0:Int),.int .i64 (b1:Int),.int .i64 (b2:Int),.int .i64 ((b4:Int)*256+(b5:Int)),.int .i64 (b3:Int)] rfl rfl (by first|rfl|simp) rfl rfl (by omega) (by simp[Value.oneCell']) OE.o (by have h:=a6.dop (w:=we) (o:=⟨b0,b1,b2,((b4*256+b5:Nat):Int),b3⟩);simpa using h) rfl BE.o BE.o.size (by have:=HQ.o;omega) (by have:=HQ.o;omega) (fun _ _ _ _ h=>h) ?_;intro g cap w9 own9 hg9 hb9 _ _;have O9:=aA own9;have B9:=aA hb9;clear own9 hg9 hb9 BE OE;refine hK.out _ _ ?_;clear hK;simp only[Act.put,aL,aM,aN];refine bF rfl (fun K hK=>?_);go_simp
     refine hK.out _ _ ?_;clear hK;simp only[dJ];go_wp2
     go_roundw
     case rel=>exact⟨j+1,q+7,by omega,by go_num,aA (by have:=HQ.o;omega),_,O9,RN,B9⟩
     case measure=>simp[intOf];omega
   ·have hs1:((sm:Int) !=(b6:Int))=true:=by simp;omega
    have HS:=aA (show uD ((bs.drop q).take 6)≠(bs.drop q).getD 6 0 by rw[T6.o,G6.o,SM.o];exact hs);have FN:=aA (show gZ bs=(out,((7*j:Nat):Int),8)from RI.o.bad (by have:=HQ.o;have:=HL.o;omega) (by have hq7:=HQ.o;rw[←hq7];exact HS.o));rw[←HQ.o]at FN;clear hs HS;obtain⟨Ao,co,rfl,so⟩:=OD.o.sl (by have:=HQ.o;omega);clear so;have SO:=OD;go_region_held3 (fun w'=>w'.cell? ⟨b,pp+6,none⟩=some (.int .u8 (b6:Int)))
     (first|go_keep)
     (first|(go_at_call 114;(with_reducible refine CS.o.mono ?_);rintro e w1 ⟨rfl,rfl⟩))
    all_goals
     go_wp2
     go_ret3
     rw[FN.o];exact⟨Ao,j,co,rfl,SO.o,BD.o⟩
  ·have FN:=aA (show gZ bs=(out,((7*j:Nat):Int),0)from RI.o.fin (by have:=HQ.o;have:=HL.o;omega));rw[←HQ.o]at FN;have hki:¬(7:Int)≤(n:Int)-(q:Int):=by omega
   obtain⟨Ao,co,rfl,so⟩:=OW.o.sl (by have:=HQ.o;omega);clear so;have SO:=OW;go_wp2
   go_ret3
   rw[FN.o];exact⟨Ao,j,co,rfl,SO.o,BR.o⟩
def Ue (bs:List Nat):ByteArray:=strOfNums (bs.map fun b:Nat=>(b:Int))
theorem Bts.str {w:World}{A:OAd}{n c:Nat}{bs:List Nat}(h:Bts w A n c bs):(convert 107 9 (.slice A n c)).run Tryz.prog w=.ok (.string (Ue bs)) w:=by
 rcases Nat.eq_zero_or_pos n with h0|h0
 ·subst h0;have hx:=List.eq_nil_of_length_eq_zero h.len;subst hx;rcases A with _|⟨b,off,s⟩
  ·exact run_convert_bytes_nil w 107 5 Tryz.underlying107 Tryz.underlying5 0 c 9 Tryz.underlying9
  ·rw[run_convert_bytes_string w 107 9 5 _ 0 c Tryz.underlying107 Tryz.underlying5 Tryz.underlying9,run_bytesToString w _ 0 c [] (by
    have:=run_loadCells_list (P:=Tryz.prog) w ⟨b,off,s⟩ [] (fun j v hj=>by simp at hj);simpa using this)]
   rfl
 ·obtain⟨b,off,e,_,hc⟩:=h.cells h0;subst e;refine run_convert_bytes_arg w 107 5 Tryz.underlying107 Tryz.underlying5 b off n c _ (by rw[List.length_map,h.len]) (fun i hi=>?_) 9 Tryz.underlying9;obtain⟨b',off',x,e,_,hx,hcx,_⟩:=Bts.get h hi;injection e with e;injection e with e1 e2;subst e1 e2;rw[hcx,List.getD_eq_getElem?_getD,List.getElem?_map,hx.o];rfl
theorem y8 {α:Type} {R:World→(Nat→Value)→α→Prop} {t e size bytes:Nat} (T:mC t e size bytes) (G:Jj R size) {ops:Array Oper} {rest:List Oper} {o:Oper} {a:Act} {Q:Exit→Act→World→Prop} (hgd:o.guard=none) (s x:Operand)
  (ho:o.op=.call {callee:=.builtin .append,args:=#[s,x],argTypes:=#[t,t]})
  {w0 w:World} {B:Nat} {v:Value} {n m c:Nat} {A:OAd} {xs ys:List α} (hs:a.eval s=v) (hx:a.eval x=.slice A m c)
  (own:aC R size w B e v n xs) (src:Sl R size w A m c ys) (hb:Below B w0 w) (hB:B≤w.heap.size) (h63:n+m≤281474976710656) (hn:(n+m)*bytes≤140737488355328)
  (hkeep:∀w',w.grownBy w' v.ownBlock→∀vs y,R w vs y→R w' vs y)
  (K:∀v' w',aC R size w' B e v' (n+m) (xs++ys)→w.grownBy w' v.ownBlock→Below B w0 w'→wpList Tryz.prog ops Q rest (a.put o.dst v') w') :
  wpList Tryz.prog ops Q (o::rest) a w:=by
 cases hA:A with
 | some ad =>
  subst hA;exact gY T G hgd s x ho hs hx own src hb hB h63 hn hkeep K
 | none =>
  subst hA;have hc:=src.nul rfl;have hm:m=0:=by have:=src.le;omega
  subst hc hm;have hy:=List.eq_nil_of_length_eq_zero src.len;subst hy;obtain⟨i,z,h1,h2,h3,h4,h5⟩:=T.info;have hr:=fun ty=>run_append_owned_none (P:=Tryz.prog) (w:=w) B t ty e i size T.und h1 v n _ own.choose_spec.1
  have h:=K v w (by simpa using own) (World.grownBy.refl _ _) hb;refine wpList_plain hgd fun K' hK'=>?_
  unfold Oper.wp execOp;simp only[ho,resolve,invoke,builtin,Sem.run_bind,Sem.run_pure,Result.andThen_ok,List.map_toArray,List.map_cons,List.map_nil,hs,hx,hr];exact hK' _ _ h
theorem wM {w:World}{P:Int}{A B:OAd}{n c m d:Nat}{ts:List aI}{xs:LIn}(h:bK w A n c ts)(g:aJ w B m d xs) :
  Calls Tryz.prog 110 #[.agg #[.int .i64 P,.slice A n c],.slice B m d] w (qD (dR ⟨P,ts⟩ xs) w):=by
 have HB:=aA (aB w);have G:=aA g;have H:=aA h;have HL:=aA h.len;clear g h;cases hok:dS ⟨P,ts⟩ xs
 ·have W0:=aA (jB hok);have FIN:=aA (show dR ⟨P,ts⟩ xs=([],2)from by rw[dR,hok];rfl);clear hok;go_enter Tryz.func110,Tryz.ntmps110
  go_wp2_with fail
  refine(dG (P:=P) (H.o.keep (HB.o _)) (G.o.keep (HB.o _))).mono ?_;rw[W0.o];rintro e w1 ⟨rfl,hb⟩;have B1:=aA ((HB.o (.cells #[.int .i64 P,.slice A n c] 24)).trans (hb.mono (by simp)));clear hb;go_wp2
  go_ret2
  exact⟨none,0,0,by rw[FIN.o];rfl,by rw[FIN.o];exact Sl.nil0,B1.o,dK.none⟩
 ·have W0:=aA (pS hok);have FIN:=aA (show dR ⟨P,ts⟩ xs=(fE ts xs,0)from by rw[dR,hok];rfl);have hn24:n≤24:=by have:=((aQ _).1 ((bD _ _).1 hok).1).2.2.1;simp only[]at this;rw[H.o.len]at this;exact this
  clear hok;go_enter Tryz.func110,Tryz.ntmps110
  go_wp2_with fail
  refine(dG (P:=P) (H.o.keep (HB.o _)) (G.o.keep (HB.o _))).mono ?_;rw[W0.o];rintro e w1 ⟨rfl,hb⟩;have B1:=aA ((HB.o (.cells #[.int .i64 P,.slice A n c] 24)).trans (hb.mono (by simp)));have hc1:w1.cell? ⟨w.heap.size,1,none⟩=some (.slice A n c):=(hb.cell (by simp)).trans (by simp);have H1:=aA (H.o.keep B1.o);have G1:=aA (G.o.keep B1.o);clear hb;go_wp2
  go_loopw [7,19] (fun v i wr=>∃k q:Nat,k≤n∧q≤k∧i=.int .i64 k∧aD wr w1.heap.size v q (fE (ts.take k) xs)∧Below w1.heap.size w1 wr) (fun _ i _=>n-(intOf i).toNat)
  case atStart=>exact⟨0,0,Nat.zero_le _,Nat.zero_le _,rfl,aC.nil,Below.refl _ _⟩
  case round =>
   obtain⟨k,q,hk,hq,rfl,own,hb⟩:=hrel;by_cases hlt:k<n
   ·obtain⟨bl,off,t,A1,n1,c1,A2,n2,c2,rfl,hbl,ht,q0,q1,q2,i1,i2,m1,m2⟩:=bK.get (H1.o.keep hb) hlt;have G2:=aA ((G1.o.keep hb).keep (aB wr (.cells #[.int .i64 t.label,.slice A1 n1 c1,.slice A2 n2 c2] 49)));have I1:=aA (i1.keep (aB wr (.cells #[.int .i64 t.label,.slice A1 n1 c1,.slice A2 n2 c2] 49)));have OW:=aA (own.keep iG.kept (aB wr (.cells #[.int .i64 t.label,.slice A1 n1 c1,.slice A2 n2 c2] 49)));have HB1:=aA (hb.alloc hb.size (.cells #[.int .i64 t.label,.slice A1 n1 c1,.slice A2 n2 c2] 49));have hst:=aA (show fE (ts.take (k+1)) xs=fE (ts.take k) xs++(if cA xs t.pre=true then [(k:Int)]else [])from by
     rw[bL ht.o,q8,List.length_take,Nat.min_eq_left (by rw[HL.o];omega)])
    clear i1 i2 own hb;cases hc:cA xs t.pre
    ·have HC:=aA hc;clear hc;go_wp2_with ((with_reducible refine(eN G2.o I1.o).mono ?_);rintro e w' ⟨rfl,rfl⟩;rw[HC.o])
     go_roundw
     case rel=>exact⟨k+1,q,by omega,by omega,by go_num,by rw[hst.o,HC.o];simpa using OW.o,HB1.o⟩
     case measure=>simp[intOf];omega
    ·have HC:=aA hc;clear hc;go_wp2_with (first
      |((with_reducible refine(eN G2.o I1.o).mono ?_);rintro e w' ⟨rfl,rfl⟩;rw[HC.o])
      |(at_builtin;refine dE rfl _ _ rfl rfl rfl (by simp) OW.o HB1.o HB1.o.size (by omega) ?_;intro v2 w2 own2 hg2 hb2))
     go_roundw
     case rel=>exact⟨k+1,q+1,by omega,by omega,by go_num,by rw[hst.o,HC.o];exact own2,hb2⟩
     case measure=>simp[intOf];omega
   ·have OW:=aA own;have HB2:=aA (B1.o.trans (hb.mono B1.o.size));have hst:=aA (show fE (ts.take k) xs=fE ts xs from by rw[List.take_of_length_le (by rw[HL.o];omega)]);clear own hb;go_wp2
    go_ret2
    obtain⟨C,cc,hv,hi⟩:=OW.o.sl (by omega);rw[hst.o]at hi;exact⟨C,q,cc,by rw[FIN.o,←hv];rfl,by rw[FIN.o];exact hi,HB2.o,fun ad had=>by
     have h1:=(OW.o.lt ad.block (by rw[hv,had];rfl)).1;exact Nat.le_trans B1.o.size h1⟩
end Go.Proofs.YtfmnagcglhlicaaGreat
