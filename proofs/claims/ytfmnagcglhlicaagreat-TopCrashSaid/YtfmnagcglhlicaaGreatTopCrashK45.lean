/- Texts melted into one: The plain law of logs' texts: a block's text, and the log that a text is. No program in sight. | The contracts of strings.Cut at one byte, and below it; bytes out of a -/
import Derived.Test.YtfmnagcglhlicaaGreatTopCrashK37
import Derived.Lib.Join
import Derived.Laws.Externs
import Derived.Lib.Bytealg
import Derived.Lib.ConvBytes
import Derived.Shelf.Strings.OnBuilder
set_option maxRecDepth 100000
set_option maxHeartbeats 8000000
namespace Go.Proofs.YtfmnagcglhlicaaGreat
def Ta (k:Int):UInt8:=if k=3 then 62 else if k=4 then 63 else if k=5 then 38 else 42
def pQ:Nat→aW→List UInt8
 | 0,_=>[]
 | f+1,b=>if b.kind=1 then [45]else if b.kind=2 then [UInt8.ofNat (96+b.label.toNat)]else Ta b.kind::40::(Lib.join (b.kids.map (pQ f)) [44]++[41])
theorem Wq {f:Nat}{lb:Int}{ks:List aW}:pQ (f+1) (.mk 1 lb ks)=[45]:=by simp[pQ,aW.kind]
theorem Ws {f:Nat}{lb:Int}{ks:List aW}:pQ (f+1) (.mk 2 lb ks)=[UInt8.ofNat (96+lb.toNat)]:=by simp[pQ,aW.kind,aW.label]
theorem Uo {f:Nat}{kd lb:Int}{ks:List aW}(h:3≤kd):pQ (f+1) (.mk kd lb ks)=Ta kd::40::(Lib.join (ks.map (pQ f)) [44]++[41]):=by
 unfold pQ;rw[if_neg (by simp only[aW.kind];omega),if_neg (by simp only[aW.kind];omega)];rfl
theorem Tc:∀xs:List (List UInt8),(Lib.join xs [44]).length≤(xs.map (fun x=>x.length+1)).sum
 | []=>by simp[Lib.join_nil]
 | x::r=>by
  rw[Lib.join_cons];have:(Lib.joinTail [44] r).length=(r.map (fun x=>x.length+1)).sum:=by
   induction r with
   | nil=>rfl
   | cons y r ih=>simp[Lib.joinTail]at ih ⊢;omega
  simp[this]
theorem Qj:∀(f:Nat) (b:aW) (had:Nat),(bX f b had).2=0→(pQ f b).length+1≤4*((bX f b had).1-had)
 | 0,b,had,h=>by rw[bX]at h;cases h
 | f+1,b,had,h=>by
  have hok:=(gJ (f+1) b had h).1;obtain⟨h1,h2,h',h3,h4⟩:=j7 h;have key:∀i,∀hd,(b.kids.take i).foldl (bM (bX f)) (had+1,0)=(hd,0)→had+1≤hd∧((b.kids.take i).map (fun k=>(pQ f k).length+1)).sum≤4*(hd-(had+1)):=by
   intro i;induction i with
   | zero=>intro hd e;simp at e;simp[e]
   | succ i ih =>
    intro hd e;cases hx:b.kids[i]? with
    | none =>
     have hlen:b.kids.length≤i:=by simpa using hx
     have e2:b.kids.take (i+1)=b.kids.take i:=by rw[List.take_of_length_le (by omega),List.take_of_length_le hlen]
     rw[e2]at e ⊢;exact ih hd e
    | some x =>
     obtain⟨hd0,e0⟩:=GK h4 i;obtain⟨hd',e1,e2⟩:=j9 h4 hx e0;rw[e2]at e;injection e with e _;subst e;obtain⟨i1,i2⟩:=ih hd0 e0;have ht:=Qj f x hd0 (by rw[e1]);have hc:=(gJ f x hd0 (by rw[e1])).1;rw[e1]at ht hc;simp only at ht hc;obtain⟨hk,rfl⟩:=List.getElem?_eq_some_iff.1 hx;rw[List.take_succ_eq_append_getElem hk,List.map_append,List.sum_append];simp only[List.map_cons,List.map_nil,List.sum_cons,List.sum_nil];omega
  have kall:=key b.kids.length h' (by rw[List.take_length];exact h4);rw[List.take_length]at kall;have hj:=Tc (b.kids.map (pQ f));rw[List.map_map]at hj;have hj':(Lib.join (b.kids.map (pQ f)) [44]).length≤(b.kids.map (fun k=>(pQ f k).length+1)).sum:=hj;rw[h3];simp only;unfold pQ;split
  ·simp;omega
  ·split
   ·simp;omega
   ·simp;omega
def QJ (c:UInt8):Bool:=decide (97≤c.toNat)&&decide (c.toNat≤122)
def EA (c:UInt8):Int:=(c.toNat:Int)-96
def EB:List UInt8→LLi→LIn→LLi×Int×Int
 | [],out,now=>if now=[]then(out,0,0)else([],(out.length:Int),1)
 | c::r,out,now=>if c=10 then EB r (out++[now]) []else if QJ c=true then EB r out (now++[EA c])else([],(out.length:Int),1)
def jR (s:List UInt8):LLi×Int×Int:=EB s [] []
theorem Ec (r:List UInt8)(out:LLi):∀(l:List UInt8) (now:LIn),(∀c∈l,c≠10)→EB (l++10::r) out now=if l.all QJ=true then EB r (out++[now++l.map EA]) []else([],(out.length:Int),1)
 | [],now,_=>by simp[EB]
 | c::l,now,h=>by
  have hc:c≠10:=h c (by simp);rw[List.cons_append,EB,if_neg hc];by_cases hl:QJ c=true
  ·rw[if_pos hl,Ec r out l _ (fun x hx=>h x (by simp[hx]))];simp[hl,List.append_assoc]
  ·rw[if_neg hl,if_neg];simp[hl]
theorem Ee (out:LLi):∀(l:List UInt8) (now:LIn),(∀c∈l,c≠10)→(l≠[]∨now≠[])→EB l out now=([],(out.length:Int),1)
 | [],now,_,h=>by
  rcases h with h|h
  ·exact absurd rfl h
  ·rw[EB,if_neg h]
 | c::l,now,h,_=>by
  have hc:c≠10:=h c (by simp);rw[EB,if_neg hc];split
  ·exact Ee out l _ (fun x hx=>h x (by simp[hx])) (.inr (by simp))
  ·rfl
open Go.RowKit
def tW:List UInt8→List UInt8×List UInt8×Bool
 | []=>([],[],false)
 | c::r=>if c=10 then([],r,true)else(c::(tW r).1,(tW r).2.1,(tW r).2.2)
theorem Jd:∀s:List UInt8,(Lib.indexByte s 10=-1∧tW s=(s,[],false))∨∃k:Nat,Lib.indexByte s 10=(k:Int)∧k<s.length∧tW s=(s.take k,s.drop (k+1),true)
 | []=>.inl ⟨rfl,rfl⟩
 | c::r=>by
  by_cases h:c=10
  ·subst h;exact .inr ⟨0,by simp[Lib.indexByte],by simp,by simp[tW]⟩
  ·have hb:(c==10)=false:=by simpa using h
   rcases Jd r with⟨h1,h2⟩|⟨k,h1,h2,h3⟩
   ·refine .inl ⟨by simp[Lib.indexByte,h1,h],by simp[tW,h,h2]⟩
   ·refine .inr ⟨k+1, ?_,by simp;omega,by simp[tW,h,h3]⟩;simp only[Lib.indexByte,hb,h1];have:((k:Int)==-1)=false:=by simp
    simp[this]
theorem yN:∀s:List UInt8,((tW s).2.2=true→s=(tW s).1++10::(tW s).2.1)∧((tW s).2.2=false→(tW s).1=s)∧∀c∈(tW s).1,c≠10
 | []=>⟨fun h=>(by cases h),fun _=>rfl,fun c hc=>(by cases hc)⟩
 | c::r=>by
  by_cases h:c=10
  ·subst h;simp[tW]
  ·obtain⟨h1,h2,h3⟩:=yN r;simp only[tW,if_neg h];refine⟨fun e=>?_,fun e=>?_,fun x hx=>?_⟩
   ·rw[List.cons_append,←h1 e]
   ·rw[h2 e]
   ·rcases List.mem_cons.1 hx with rfl|hx
    ·exact h
    ·exact h3 x hx
theorem Td (s:List UInt8)(w:World):Sem.run Tryz.prog (callFunc 211 #[.string ⟨s.toArray⟩,.int .u8 10]) w=.ok (.value (.int .i64 (Lib.indexByte s 10))) w:=by
 rw[run_callFunc_extern (fn:=Tryz.f211) (e:=Extern.BytealgIndexByte.indexByte) Tryz.func211 (by kernel_rfl) (by kernel_rfl) (by kernel_rfl) (by kernel_rfl),run_indexByte_string,Lib.firstIdx_eq];rfl
theorem Ah (s:List UInt8)(w:World) :
  Calls Tryz.prog 194 #[.string ⟨s.toArray⟩,.int .u8 10] w (fun e w'=>e=.returned (.int .i64 (Lib.indexByte s 10))∧w'=w):=by
 have hx:=Td s;generalize Lib.indexByte s 10=k at *
 go_enter Tryz.func194,Tryz.ntmps194
 go_wp2
 go_ret
 exact⟨rfl,rfl⟩
theorem Hj (s:List UInt8)(w:World) :
  Calls Tryz.prog 165 #[.string ⟨s.toArray⟩,.string ⟨#[10]⟩] w (fun e w'=>e=.returned (.int .i64 (Lib.indexByte s 10))∧w'=w):=by
 by_cases hs:s=[10]
 ·subst hs;have he:(([10]:List UInt8)==[10])=true:=rfl;go_enter Tryz.func165,Tryz.ntmps165
  go_wp2
  go_ret
  exact⟨rfl,rfl⟩
 ·have he:(([10]:List UInt8)==s)=false:=by simp;exact fun h=>hs h.symm
  have CI:=aA (fun w=>Ah s w);generalize Lib.indexByte s 10=k at *
  go_enter Tryz.func165,Tryz.ntmps165
  go_wp2_with (go_at_call 194;refine(CI.o _).mono ?_;rintro e w4 ⟨rfl,rfl⟩)
  go_ret
  exact⟨rfl,rfl⟩
theorem Xt (s:List UInt8)(i j:Nat):(⟨s.toArray⟩:ByteArray).extract i j=⟨((s.take j).drop i).toArray⟩:=by
 apply ByteArray.ext
 apply Array.ext'
 rw[ByteArray.data_extract,Array.toList_extract];simp only[List.extract_eq_take_drop,List.drop_take]
theorem Ak (s:List UInt8)(hs:s.length≤8388608)(w:World) :
  Calls Tryz.prog 119 #[.string ⟨s.toArray⟩,.string ⟨#[10]⟩] w (fun e w'=>e=.returned (.tuple #[.string ⟨(tW s).1.toArray⟩,.string ⟨(tW s).2.1.toArray⟩,.bool (tW s).2.2])∧Below w.heap.size w w'):=by
 have CI:=aA (fun w=>Hj s w);rcases Jd s with⟨h1,h2⟩|⟨k,h1,h2,h3⟩
 ·rw[h1]at CI;have H2:=aA h2;clear h1 h2;go_enter Tryz.func119,Tryz.ntmps119
  go_wp2_with (go_at_call 165;(with_reducible refine(CI.o _).mono ?_);rintro e w4 ⟨rfl,rfl⟩)
  go_ret3
  exact⟨by rw[H2.o];rfl,Below.refl _ _⟩
 ·rw[h1]at CI;have H3:=aA h3;clear h1 h3;go_enter Tryz.func119,Tryz.ntmps119
  go_wp2_with (go_at_call 165;(with_reducible refine(CI.o _).mono ?_);rintro e w4 ⟨rfl,rfl⟩)
  go_quiet (fail)
  go_wp2
  rw[Xt,Xt,List.take_length,List.drop_zero];go_ret3
  exact⟨by rw[H3.o];rfl,xI _ _⟩
theorem Qk (s:List UInt8)(hs:s.length≤8388608)(w:World) :
  Calls Tryz.prog 81 #[.string ⟨s.toArray⟩,.string ⟨#[10]⟩] w (fun e w'=>e=.returned (.tuple #[.string ⟨(tW s).1.toArray⟩,.string ⟨(tW s).2.1.toArray⟩,.bool (tW s).2.2])∧Below w.heap.size w w'):=by
 have CI:=aA (Ak s hs w);obtain⟨⟨l,r,b⟩,hr⟩:∃x,tW s=x:=⟨_,rfl⟩;rw[hr]at CI ⊢;clear hr;go_enter Tryz.func81,Tryz.ntmps81
 go_wp2_with (go_at_call 119;(with_reducible refine CI.o.mono ?_);rintro e w4 ⟨rfl,hb⟩)
 go_ret3
 exact⟨rfl,hb⟩
def Am (w:World)(b:Nat)(l:List UInt8):Prop:=∃cs fr,w.heap[b]?=some (.cells cs 5 fr)∧∀(j:Nat) (x:UInt8),l[j]?=some x→cs[j]?=some (.int .u8 (x.toNat:Int))
theorem Am.cell {w:World}{b:Nat}{l:List UInt8}(h:Am w b l){j:Nat}{x:UInt8}(hx:l[j]?=some x):w.cell? ⟨b,j,none⟩=some (.int .u8 (x.toNat:Int)):=by
 obtain⟨cs,fr,h1,h2⟩:=h;rw[cell_of_row _ _ _ _ _ fr h1];exact h2 j x hx
theorem Am.lt {w:World}{b:Nat}{l:List UInt8}(h:Am w b l):b<w.heap.size:=by
 obtain⟨cs,fr,h1,h2⟩:=h;exact(Array.getElem?_eq_some_iff.1 h1).1
theorem Am.grown {α:Type}{R:World→(Nat→Value)→α→Prop}{sz e:Nat}{w w':World}{b:Nat}{l:List UInt8}(h:Am w b l)(hne:e≠5){B n:Nat}{v:Value}{xs:List α}(own:aC R sz w B e v n xs)(hg:w.grownBy w' v.ownBlock):Am w' b l:=by
 have hl:=h.lt;obtain⟨cs,fr,h1,h2⟩:=h;refine⟨cs,fr,(hg.block b hl (fun e=>?_)).trans h1,h2⟩;obtain⟨cells,o,_⟩:=own;rcases o.2 with⟨rfl,_⟩|⟨g,cap,cur,rfl,_,hh,_⟩
 ·cases e
 ·injection e with e;subst e;rw[hh]at h1;injection h1 with h1;injection h1 with _ ht;exact absurd ht hne
theorem Tf (l:List UInt8)(w:World):∃c w',(convert 9 107 (.string ⟨l.toArray⟩)).run Tryz.prog w=.ok (.slice (some ⟨w.heap.size,0,none⟩) l.length c) w'∧Am w' w.heap.size l∧Below w.heap.size w w':=by
 refine⟨_,_,Lib.run_convert_string_bytes w 9 107 5 ⟨l.toArray⟩ Tryz.underlying9 Tryz.underlying107 Tryz.underlying5,⟨_,_,Lib.bytesWorld_at_new _ _ _,fun j x hj=>?_⟩, ?_⟩
 ·obtain⟨hlt,rfl⟩:=List.getElem?_eq_some_iff.1 hj;unfold Lib.bytesCells;rw[Array.getElem?_append_left (by simpa using hlt)];simp[hlt]
 ·refine⟨?_, ?_, ?_,by rw[Lib.bytesWorld_size];omega,fun k hk=>Lib.bytesWorld_at_old _ _ _ _ hk⟩
  all_goals (unfold Lib.bytesWorld World.freeze;split <;> rfl)
theorem Ti (x:UInt8)(h:QJ x=true):IntKind.u8.wrap ((x.toNat:Int)-97)=(x.toNat:Int)-97∧IntKind.i64.wrap ((x.toNat:Int)-97)=(x.toNat:Int)-97∧(x.toNat:Int)-97+1=EA x∧¬(x.toNat:Int)<97∧¬122<(x.toNat:Int):=by
 unfold QJ at h;simp only[Bool.and_eq_true,decide_eq_true_eq]at h;refine⟨?_, ?_,by unfold EA;omega,by omega,by omega⟩
 ·simp[IntKind.wrap,go_sem];omega
 ·rw[IntKind.wrap_i64];omega
def Vn (s:List UInt8)(w:World)(e:Ending)(w':World):Prop :=
 ∃A n c,e=.returned (.tuple #[.slice A n c,.int .i64 (jR s).2.1,.int .i64 (jR s).2.2])∧aC (cF w.heap.size) 1 w' w.heap.size 28 (.slice A n c) n (jR s).1∧Below w.heap.size w w'
theorem Ql (s:List UInt8)(hs:s.length≤1048576)(w:World) :
  Calls Tryz.prog 43 #[.string ⟨s.toArray⟩] w (Vn s w):=by
 go_enter Tryz.func43,Tryz.ntmps43
 go_upto_region 3 with fail
 go_loopg [0,5,6] (s.length+1) (fun gk u0 u5 u6 wr=>∃(r:List UInt8) (out:LLi),u0=.string ⟨r.toArray⟩∧u6=.int .i64 (out.length:Int)∧r.length<gk∧gk+out.length=s.length+1∧Hid (EB r out []=jR s)∧Hid (aC (cF w.heap.size) 1 wr w.heap.size 28 u5 out.length out)∧Hid (Below w.heap.size w wr))
 case atStart=>exact⟨s,[],rfl,rfl,by omega,by simp,rfl,aC.nil,Below.refl _ _⟩
 case round =>
  obtain⟨r,out,rfl,rfl,hrg,hgo,HL,OW,X⟩:=hrel;by_cases hr0:r=[]
  ·subst hr0;have HF:=aA (show jR s=(out,0,0) by rw[←HL.o];rfl);obtain⟨A,c,rfl,_⟩:=OW.o.sl (by omega);go_wp2
   go_ret3
   exact⟨A,out.length,c,by rw[HF.o];rfl,by rw[HF.o];exact OW.o,X.o⟩
  ·have hrl:0<r.length:=List.length_pos_iff.2 hr0;have hrl':(0:Int)<(r.length:Int):=by omega
   have CC:=aA (Qk r (by omega) wr);obtain⟨p1,p2,p3⟩:=yN r;obtain⟨⟨l,rr,b⟩,hcut⟩:∃x,tW r=x:=⟨_,rfl⟩;rw[hcut]at CC p1 p2 p3;simp only at p1 p2 p3 CC;clear hcut;cases b with
   | false =>
    have HF:=aA (show jR s=([],(out.length:Int),1) by rw[←HL.o];rw[p2 rfl]at p3;exact Ee out r [] p3 (.inl hr0));clear p1 p2 p3;go_wp2_with (go_at_call 81;(with_reducible refine CC.o.mono ?_);rintro e w4 ⟨rfl,hb⟩;have X4:=aA (X.o.trans (hb.mono X.o.size));clear hb)
    go_ret3
    exact⟨none,0,0,by rw[HF.o];rfl,by rw[HF.o];exact aC.nil,X4.o⟩
   | true =>
    have hre:=p1 rfl;have hll:l.length+rr.length+1=r.length:=by rw[hre];simp;omega
    have HLN:=aA (show jR s=if l.all QJ=true then EB rr (out++[l.map EA]) []else([],(out.length:Int),1) by rw[←HL.o,hre,Ec rr out l [] p3];rfl);clear p1 p2 p3 hre hr0;go_upto_region 8 with(go_at_call 81;(with_reducible refine CC.o.mono ?_);rintro e w4 ⟨rfl,hb⟩;have X4:=aA (X.o.trans (hb.mono X.o.size));have OW4:=aA (OW.o.keep (cF.kept _) hb);clear hb)
    have O0:=aA (aC.empty (R:=iG) (sz:=1) (w:=w4) (B:=w4.heap.size) (e:=3) (Nat.le_refl _));have B5:=aA (eS w4 (.cells #[] 3));go_upto_region 10 with fail
    generalize hw5:w4.alloc (.cells #[] 3)=w5 at *
    obtain⟨H,hH⟩:∃q,w5.heap.size=q:=⟨_,rfl⟩;obtain⟨cc,w6,hconv,hbt,hb6⟩:=Tf l w5;rw[hH]at hconv hbt;have BT6:=aA hbt;have B6:=aA (B5.o.trans (hb6.mono B5.o.size));have O6:=aA (aC.keep iG.kept O0.o hb6);clear hbt hb6 hw5 O0;go_upto_region 11 with fail
    clear hconv;go_loopw [10,32] (fun u10 u32 wi=>∃j:Nat,j≤l.length∧u32=.int .i64 (j:Int)∧Hid ((l.take j).all QJ=true)∧Hid (aD wi w4.heap.size u10 j ((l.take j).map EA))∧Hid (Am wi H l)∧Hid (Below w4.heap.size w4 wi)) (fun _ v _=>l.length-(intOf v).toNat)
    case atStart=>exact⟨0,Nat.zero_le _,rfl,rfl,O6,BT6,B6⟩
    case round =>
     clear O6 BT6 B6 B5;obtain⟨j,hj,rfl,AL,OI,BT,BI⟩:=hrel;by_cases hlt:j<l.length
     ·have hji:(j:Int)<(l.length:Int):=by omega
      obtain⟨x,hx⟩:∃x,l[j]?=some x:=⟨_,List.getElem?_eq_getElem hlt⟩;have c0:=BT.o.cell hx;have HX:=aA hx;have hx0:x.toNat<256:=x.toNat_lt;by_cases hlet:QJ x=true
      ·obtain⟨n1,n2,n3,n4,n5⟩:=Ti x hlet;have HT:=aA (show(l.take (j+1)).map EA=(l.take j).map EA++[EA x] by rw[List.take_add_one,hx];simp);have HA:=aA (show(l.take (j+1)).all QJ=true by rw[List.take_add_one,hx,List.all_append,AL.o];simp[hlet]);clear hx;go_wp2_with (at_builtin;refine dE (y:=EA x) rfl _ _ rfl rfl rfl (by first|rfl|simp) OI.o BI.o BI.o.size (by omega) ?_;intro v2 w2 own2 hg2 hb2;have O2:=aA own2;have BT2:=aA (BT.o.grown (by decide) OI.o hg2);have BI2:=aA hb2;clear own2 hg2 hb2)
       go_roundw
       case rel=>exact⟨j+1,by omega,by go_num,HA,by rw[HT.o];exact O2,BT2,BI2⟩
       case measure=>simp[intOf];omega
      ·have HF:=aA (show jR s=([],(out.length:Int),1) by
        rw[HLN.o,if_neg];intro ha;exact hlet (List.all_eq_true.1 ha x (List.mem_of_getElem? hx)))
       have XF:=aA (X4.o.trans (BI.o.mono X4.o.size));clear hx;by_cases h97:(x.toNat:Int)<97
       ·go_wp2
        go_ret3
        exact⟨none,0,0,by rw[HF.o];rfl,by rw[HF.o];exact aC.nil,XF.o⟩
       ·have h122:122<(x.toNat:Int):=by
         have:¬(97≤x.toNat∧x.toNat≤122):=fun hh=>hlet (by unfold QJ;simp[hh.1,hh.2])
         omega
        go_wp2
        go_ret3
        exact⟨none,0,0,by rw[HF.o];rfl,by rw[HF.o];exact aC.nil,XF.o⟩
     ·obtain rfl:j=l.length:=by omega
      have HF:=aA (show EB rr (out++[l.map EA]) []=jR s by
       have:=AL.o;rw[List.take_length]at this;rw[HLN.o,if_pos this])
      obtain⟨A,m,rfl,_⟩:=OI.o.sl (by omega);have OI':=aA (show aD wr w.heap.size (.slice A l.length m) l.length (l.map EA) by have:=OI.o;rw[List.take_length]at this;exact this.base X4.o.size);have OWI:=aA (OW4.o.keep (cF.kept _) BI.o);have XI:=aA (X4.o.trans (BI.o.mono X4.o.size));have RD:=aA (show a6 (cF w.heap.size) 1 wr [.slice A l.length m] [l.map EA]from a6.list1 ⟨l.length,OI'.o,by omega⟩);have KP:=aA (Dm OWI.o);clear AL OI BT BI OW4 X4 HLN;go_wp2_with (at_builtin;refine bY (v:=u5) uV rfl _ _ rfl [l.map EA] #[.slice A l.length m] rfl rfl (by first|rfl|simp) rfl (by simp[Value.oneCell']) OWI.o RD.o rfl XI.o XI.o.size (by omega) (by omega) KP.o ?_;intro v1 w1 own1 hg1 hb1;have O1:=aA own1;have X1:=aA hb1;clear own1 hg1 hb1)
      go_roundg (gk-1)
      case measure=>omega
      case rel=>exact⟨rr,out++[l.map EA],rfl,by simp,by omega,by simp;omega,HF,by simpa using O1,X1⟩
end Go.Proofs.YtfmnagcglhlicaaGreat
namespace Go.Proofs.YtfmnagcglhlicaaGreat
open Go.Shelf
def vU:Go.Shelf.Ren:=⟨fun|156=>85|165=>133|166=>134|169=>135|240=>179|241=>180|276=>208|277=>209|n=>n,fun|31=>178|9=>9|3=>3|4=>4|0=>0|20=>20|72=>231|76=>234|70=>229|37=>107|75=>233|127=>260|164=>280|5=>5|80=>236|n=>n,fun|n=>n⟩
theorem Vo:Go.Proofs.Lays.n156 Tryz.prog vU:={
 mixed:=by kernel_rfl
 f156:=Tryz.func85.trans (congrArg some (by kernel_rfl))
 f165:=Tryz.func133.trans (congrArg some (by kernel_rfl))
 f166:=Tryz.func134.trans (congrArg some (by kernel_rfl))
 f169:=Tryz.func135.trans (congrArg some (by kernel_rfl))
 f240:=Tryz.func179.trans (congrArg some (by kernel_rfl))
 f241:=Tryz.func180.trans (congrArg some (by kernel_rfl))
 f276:=Tryz.func208.trans (congrArg some (by kernel_rfl))
 f277:=Tryz.func209.trans (congrArg some (by kernel_rfl))
 t0:=Tryz.underlying0
 a0:=Tryz.isAgg0
 z0:=Tryz.sizeOf0
 v0:=Tryz.zeroValue0
 t3:=Tryz.underlying3
 a3:=Tryz.isAgg3
 z3:=Tryz.sizeOf3
 v3:=Tryz.zeroValue3
 t4:=Tryz.underlying4
 a4:=Tryz.isAgg4
 z4:=Tryz.sizeOf4
 v4:=Tryz.zeroValue4
 t9:=Tryz.underlying9
 a9:=Tryz.isAgg9
 z9:=Tryz.sizeOf9
 v9:=Tryz.zeroValue9
 t20:=Tryz.underlying20
 a20:=Tryz.isAgg20
 z20:=Tryz.sizeOf20
 v20:=Tryz.zeroValue20
 t31:=Tryz.underlying178
 a31:=Tryz.isAgg178
 z31:=Tryz.sizeOf178
 v31:=Tryz.zeroValue178
 t37:=Tryz.underlying107
 a37:=Tryz.isAgg107
 z37:=Tryz.sizeOf107
 v37:=Tryz.zeroValue107
 t70:=Tryz.underlying229
 a70:=Tryz.isAgg229
 z70:=Tryz.sizeOf229
 v70:=Tryz.zeroValue229
 t72:=Tryz.underlying231
 a72:=Tryz.isAgg231
 z72:=Tryz.sizeOf231
 v72:=Tryz.zeroValue231
 t75:=Tryz.underlying233
 a75:=Tryz.isAgg233
 z75:=Tryz.sizeOf233
 v75:=Tryz.zeroValue233
 t76:=Tryz.underlying234
 a76:=Tryz.isAgg234
 z76:=Tryz.sizeOf234
 v76:=Tryz.zeroValue234
 t127:=Tryz.underlying260
 a127:=Tryz.isAgg260
 z127:=Tryz.sizeOf260
 v127:=Tryz.zeroValue260
 t164:=Tryz.underlying280
 a164:=Tryz.isAgg280
 z164:=Tryz.sizeOf280
 v164:=Tryz.zeroValue280}
theorem rY:Builder.Extra Tryz.prog vU:={
 sizeBuilder:=by kernel_rfl
 liesBuilder:=by kernel_rfl
 t5:=Tryz.underlying5
 a5:=Tryz.isAgg5
 z5:=Tryz.sizeOf5
 v5:=Tryz.zeroValue5
 infoByte:=by kernel_rfl
 cellsByte:=by kernel_rfl
 sizeByte:=by kernel_rfl
 neB5:=by decide}
open Go.RowKit in
theorem strings_Join (bk o c:Nat)(xs:List ByteArray)(sep:ByteArray)(w:World)(hcells:∀(j:Nat) x,xs[j]?=some x→w.cell? ⟨bk,o+j,none⟩=some (.string x))(hbk:bk<w.heap.size)(hN:xs.length≤140737488355328)(hcap:xs.length≤c)(hlen:(Lib.join (xs.map (·.data.toList)) sep.data.toList).length≤140737488355328) :
  Calls Tryz.prog 85 #[.slice (some ⟨bk,o,none⟩) xs.length c,.string sep] w fun e w'=>e=.returned (.string ⟨(Lib.join (xs.map (·.data.toList)) sep.data.toList).toArray⟩)∧Below w.heap.size w w':=Any.strings_Join Vo rY bk o c xs sep w hcells hbk hN hcap hlen
end Go.Proofs.YtfmnagcglhlicaaGreat
namespace Go.Proofs.YtfmnagcglhlicaaGreat
open Go.RowKit
def Wt:World→(Nat→Value)→List UInt8→Prop:=fun _ vs x=>vs 0=.string ⟨x.toArray⟩
theorem Wu:mC 178 9 1 16:=mC.mk' (z:=.string ⟨#[]⟩) Tryz.underlying178 (by kernel_rfl) rfl (by decide)
theorem XM (a b:List UInt8):(⟨a.toArray⟩:ByteArray)++⟨b.toArray⟩=⟨(a++b).toArray⟩:=by
 apply ByteArray.ext
 simp[ByteArray.data_append]
theorem Qm {w:World}{B g n cap:Nat}{xs:List (List UInt8)}(h:aC Wt 1 w B 9 (.slice (some ⟨g,0,none⟩) n cap) n xs):∀(j:Nat) (x:ByteArray),(xs.map fun l=>(⟨l.toArray⟩:ByteArray))[j]?=some x→w.cell? ⟨g,0+j,none⟩=some (.string x):=by
 intro j x hx;obtain⟨cells,o,r,hl⟩:=h;rw[List.getElem?_map]at hx;obtain⟨l,hl',rfl⟩:=Option.map_eq_some_iff.1 hx;obtain⟨vs,a,e⟩:=r.2 j l hl';have hj:j<n*1:=by rw[Nat.mul_one,←hl];exact(List.getElem?_eq_some_iff.1 hl').1
 rw[Nat.zero_add,o.cellAt j hj];have:=a 0 (by omega);rw[Nat.mul_one,Nat.add_zero]at this;rw[this];exact congrArg some e
theorem Lr (w:World)(k:Int)(h3:3≤k)(h6:k≤6) :
  Calls Tryz.prog 84 #[.int .i64 k] w (fun e w'=>e=.returned (.string ⟨[Ta k].toArray⟩)∧w'=w):=by
 have:k=3∨k=4∨k=5∨k=6:=by omega
 rcases this with rfl|rfl|rfl|rfl
 all_goals
  go_enter Tryz.func84,Tryz.ntmps84
  go_wp2
  go_ret
  exact⟨by rfl,rfl⟩
theorem Ef {f:Nat}:∀(l:List aW) (a h':Nat),l.foldl (bM (bX f)) (a,0)=(h',0)→a+l.length≤h'
 | [],a,h',h=>by simp at h;simp[h]
 | k::l,a,h',h=>by
  rw[List.foldl_cons,bM,if_pos rfl]at h;have e0:(bX f k a).2=0:=by
   apply Classical.byContradiction
   intro hne;rw[nN hne]at h;rw[h]at hne;exact hne rfl
  have h1:=(gJ f k a e0).1;obtain⟨b,hb⟩:∃b,bX f k a=(b,0):=⟨_,Prod.ext rfl e0⟩;rw[hb]at h h1;have:=Ef l b h' h;rw[List.length_cons];simp only at h1;omega
theorem aC.formS {w:World}{B e:Nat}{v:Value}{n:Nat}{xs:List (List UInt8)}(h:aC Wt 1 w B e v n xs)(hn:0<n):∃g cap,v=.slice (some ⟨g,0,none⟩) n cap∧g<w.heap.size∧n≤cap:=by
 obtain⟨cells,o,r,hl⟩:=h;rcases o.2 with⟨_,e0⟩|⟨g,cap,cur,rfl,hg,hh,hnc,_⟩
 ·omega
 ·exact⟨g,cap,rfl,(Array.getElem?_eq_some_iff.1 hh).1,hnc⟩
theorem Ls {w:World}{B:Nat}{v:Value}{n:Nat}{xs:List (List UInt8)}(h:aC Wt 1 w B 9 v n xs)(h0:0<n)(hn:n≤1000)(hl:(Lib.join xs [44]).length≤1000) :
  Calls Tryz.prog 85 #[v,.string ⟨#[44]⟩] w (fun e w'=>e=.returned (.string ⟨(Lib.join xs [44]).toArray⟩)∧Below w.heap.size w w'):=by
 obtain⟨g,cap,rfl,hg,hc⟩:=h.formS h0;have hcell:=Qm h;obtain rfl:=h.len;have e1:(xs.map fun l=>(⟨l.toArray⟩:ByteArray)).map (fun x=>x.data.toList)=xs:=by
  rw[List.map_map];exact(List.map_congr_left (fun x _=>by simp)).trans (List.map_id _)
 have e2:(⟨#[44]⟩:ByteArray).data.toList=[44]:=rfl;have:=strings_Join g 0 cap (xs.map fun l=>(⟨l.toArray⟩:ByteArray)) ⟨#[44]⟩ w hcell hg (by rw[List.length_map];omega) (by rw[List.length_map];exact hc) (by rw[e1,e2];omega);rw[List.length_map]at this;rw[e1,e2]at this;exact this
theorem XU (lb:Int)(h1:1≤lb)(h2:lb≤26):Utf8.encode (97+lb-1)=⟨#[UInt8.ofNat (96+lb.toNat)]⟩:=by
 have key:∀k:Fin 26,Utf8.encode (97+((k.val:Int)+1)-1)=⟨#[UInt8.ofNat (96+((k.val:Int)+1).toNat)]⟩:=by decide
 have:=key ⟨(lb-1).toNat,by omega⟩;have e:(((lb-1).toNat:Int))+1=lb:=by omega
 rw[show(((⟨(lb-1).toNat,by omega⟩:Fin 26).val:Nat):Int)+1=lb from e]at this;exact this
theorem vV:∀(f d:Nat) (kd lb:Int) (A:OAd) (n c:Nat) (ks:List aW) (w:World) (had:Nat),vD d w A n c ks→(bX f (.mk kd lb ks) had).2=0 →
  Calls Tryz.prog 45 #[.agg #[.int .i64 kd,.int .i64 lb,.slice A n c]] w (fun e w'=>e=.returned (.string ⟨(pQ f (.mk kd lb ks)).toArray⟩)∧Below w.heap.size w w')
 | 0,d,kd,lb,A,n,c,ks,w,had,h,hc=>by rw[bX]at hc;cases hc
 | f+1,d,kd,lb,A,n,c,ks,w,had,h,hc=>by
  have HTL:=aA (Qj (f+1) _ had hc);have HOK:=aA (gJ (f+1) _ had hc);obtain⟨h1,h2,h',h3,h4⟩:=j7 hc;have IH:=aA (vV f);have H:=aA h;have HL:=aA h.len;have HF:=aA h4;simp only[aW.kind,aW.label,aW.kids]at h2 HF;have hn:ks.length=n:=h.len;have hd:1≤kd∧kd≤6∧(kd=2→1≤lb∧lb≤26)∧(3≤kd→0<n):=by
   unfold dL at h2;rw[hn]at h2;split at h2
   ·cases h2
   ·split at h2
    ·cases h2
    ·split at h2
     ·cases h2
     ·omega
  obtain⟨k1,k6,k2,kn⟩:=hd;rw[h3]at HOK HTL;have n40:n≤40:=by
   have a1:=Ef ks (had+1) h' HF.o;have a2:=HOK.o.2;simp only at a2;omega
  have X0:=aA (Box.new w #[.int .i64 kd,.int .i64 lb,.slice A n c] 71);have B0:=aA (aB w (.cells #[.int .i64 kd,.int .i64 lb,.slice A n c] 71));have H0:=aA (h.keep B0.o);clear h hc h2 h3 h4 hn;generalize hw0:w.alloc (.cells #[.int .i64 kd,.int .i64 lb,.slice A n c] 71)=w0 at *
  obtain⟨c0,c1,c2⟩:=X0.o.three;by_cases e1:kd=1
  ·subst e1;go_enter Tryz.func45,Tryz.ntmps45
   go_wp2
   go_ret
   exact⟨by rw[Wq];rfl,B0.o⟩
  ·by_cases e2:kd=2
   ·subst e2;have hlb:=k2 rfl;have hb1:=hlb.1;have hb2:=hlb.2;clear hlb k2;go_enter Tryz.func45,Tryz.ntmps45
    go_wp2
    rw[XU lb hb1 hb2];go_ret
    exact⟨by rw[Ws];rfl,B0.o⟩
   ·have k3:3≤kd:=by omega
    have e1':(kd==1)=false:=by simpa using e1
    have e2':(kd==2)=false:=by simpa using e2
    have hn0:=kn k3;have CS:=aA (fun w=>Lr w kd k3 k6);have HJ:=aA (show(Ta kd::40::(Lib.join (ks.map (pQ f)) [44]++[41])).length+1≤4*(h'-had) by have:=HTL.o;rw[Uo k3]at this;exact this);have hjl:(Lib.join (ks.map (pQ f)) [44]).length≤1000:=by
     have a1:=HJ.o;have a2:=HOK.o.2;simp only[List.length_cons,List.length_append,List.length_nil]at a1 a2;omega
    clear HTL HJ;clear k2 kn e1 e2;go_enter Tryz.func45,Tryz.ntmps45
    go_upto_region 8 with fail
    clear c0 c1 c2;go_loopw [3,21] (fun sv v wr=>∃i:Nat,i≤n∧v=.int .i64 i∧Hid (aC Wt 1 wr w0.heap.size 9 sv i ((ks.take i).map (pQ f)))∧Hid (Below w0.heap.size w0 wr)) (fun _ v _=>n-(intOf v).toNat)
    case atStart=>exact⟨0,Nat.zero_le _,rfl,aC.nil,Below.refl _ _⟩
    case round =>
     obtain⟨i,hi,rfl,OW,X2⟩:=hrel;by_cases hlt:i<n
     ·have hki:(i:Int)<(n:Int):=by omega
      obtain⟨bl,off,kd',lb',ks',B',m',e',d',rfl,rfl,hbl,hx,q0,q1,q2,K'⟩:=(H0.o.keep X2.o).get hlt;obtain⟨hd0,e0⟩:=GK HF.o i;obtain⟨hd',e1,_⟩:=j9 HF.o hx.o e0;have bb2:=aB wr (.cells #[.int .i64 kd',.int .i64 lb',.slice B' m' e'] 71);have X3:=aA (X2.o.trans (bb2.mono X2.o.size));have OW3:=aA (OW.o.keep (fun _ _ _ _ _ h=>h) bb2);have CI:=aA (IH.o d' kd' lb' B' m' e' ks' (wr.alloc (.cells #[.int .i64 kd',.int .i64 lb',.slice B' m' e'] 71)) hd0 (K'.o.keep bb2) (by rw[e1]));have HT:=aA (show(ks.take (i+1)).map (pQ f)=(ks.take i).map (pQ f)++[pQ f (.mk kd' lb' ks')] by rw[List.take_add_one,hx.o];simp);clear e0 e1 hx bb2;go_wp2_with (first
       |(go_at_call 45;(with_reducible refine CI.o.mono ?_);rintro e w4 ⟨rfl,hb4⟩;have X4:=aA (X3.o.trans (hb4.mono X3.o.size));have OW4:=aA (OW3.o.keep (fun _ _ _ _ _ h=>h) hb4);clear hb4)
       |(at_builtin;refine bY Wu rfl _ _ rfl [pQ f (.mk kd' lb' ks')] #[.string ⟨(pQ f (.mk kd' lb' ks')).toArray⟩] rfl rfl (by first|rfl|simp) rfl (by simp[Value.oneCell']) OW4.o (a6.one (vs:=fun _=>.string ⟨(pQ f (.mk kd' lb' ks')).toArray⟩) rfl rfl (fun j hj=>(by obtain rfl:j=0:=(by omega);rfl))) rfl X4.o X4.o.size (by omega) (by omega) (fun _ _ _ _ h=>h) ?_;intro v1 w1 own1 hg1 hb1;have OW5:=aA own1;have X5:=aA hb1;clear own1 hg1 hb1))
      go_roundw
      case rel=>exact⟨i+1,by omega,by go_num,by rw[HT.o];exact OW5,X5⟩
      case measure=>simp[intOf];omega
     ·obtain rfl:i=n:=by omega
      have OWF:=aA (show aC Wt 1 wr w0.heap.size 9 u3 i (ks.map (pQ f)) by have:=OW.o;rwa[List.take_of_length_le (by rw[HL.o];exact Nat.le_refl _)]at this);have XJ:=aA (Ls OWF.o hn0 (by omega) hjl);clear OW;have c0:wr.cell? ⟨w.heap.size,0,none⟩=some (.int .i64 kd):=((X0.o.keep X2.o).three).1;go_wp2_with (first
       |(go_at_call 84;(with_reducible refine(CS.o _).mono ?_);rintro e w4 ⟨rfl,rfl⟩)
       |(go_at_call 85;(with_reducible refine XJ.o.mono ?_);rintro e w5 ⟨rfl,hb5⟩;have X6:=aA (X2.o.trans (hb5.mono X2.o.size));clear hb5))
      go_ret
      exact⟨by rw[Uo k3];simp[XM],(B0.o.trans (X6.o.mono B0.o.size))⟩
end Go.Proofs.YtfmnagcglhlicaaGreat
