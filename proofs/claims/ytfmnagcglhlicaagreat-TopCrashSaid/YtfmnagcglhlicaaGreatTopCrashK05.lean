/- Texts melted into one: Blocks that are known whole: boxes of struct values, what stays of them and beside them; make in a region that draws its order. Conditions: none; plain lemmas on memor -/
import Derived.Test.YtfmnagcglhlicaaGreatTopCrashK04
import Derived.Laws.BitsAllLaws
import Derived.Laws.Shifts
import Derived.Laws.BytesArg
import Derived.Deep.DeepCutAuto
set_option maxRecDepth 100000
set_option maxHeartbeats 2000000
namespace Go.Proofs.YtfmnagcglhlicaaGreat
open Go.RowKit
def Box (w:World)(b ty:Nat)(cs:Array Value):Prop:=w.heap[b]?=some (.cells cs ty (0,0))
section
variable {w w':World} {b ty:Nat} {cs:Array Value}
theorem Box.lt (h:Box w b ty cs):b<w.heap.size:=(Array.getElem?_eq_some_iff.1 h).1
theorem Box.cell (h:Box w b ty cs)(j:Nat):w.cell? ⟨b,j,none⟩=cs[j]?:=cell_of_row _ _ _ _ _ (0,0) h
theorem Box.frozen (h:Box w b ty cs)(j:Nat):w.frozen? ⟨b,j,none⟩=false:=frozen_of_row _ _ _ _ _ h
theorem Box.keepB (h:Box w b ty cs){B:Nat}(hb:Below B w w')(hB:b<B):Box w' b ty cs:=(hb.block b hB).trans h
theorem Box.keep (h:Box w b ty cs)(hb:Below w.heap.size w w'):Box w' b ty cs:=h.keepB hb h.lt
theorem Box.new (w:World)(cs:Array Value)(ty:Nat):Box (w.alloc (.cells cs ty)) w.heap.size ty cs:=heap_alloc_new w _
theorem Box.newAt {n:Nat}(hn:w.heap.size=n)(cs:Array Value)(ty:Nat):Box (w.alloc (.cells cs ty)) n ty cs:=by subst hn;exact heap_alloc_new w _
theorem Box.old (h:Box w b ty cs)(o:Obj):Box (w.alloc o) b ty cs:=(heap_alloc_old w o h.lt).trans h
theorem Box.drew (h:Box w b ty cs):Box w.drew b ty cs:=h
theorem Box.drewN (h:Box w b ty cs)(n:Nat):Box (w.drewN n) b ty cs:=h
theorem Box.set (h:Box w b ty cs)(i:Nat)(v:Value):Box (w.setCell ⟨b,i,none⟩ v) b ty (cs.setIfInBounds i v):=heap_setCell_same _ _ _ _ _ _ h
theorem Box.other (h:Box w b ty cs){a:Addr}(v:Value)(hne:b≠a.block):Box (w.setCell a v) b ty cs:=(heap_setCell_other _ _ _ _ hne).trans h
theorem Box.set2 {u0 u1:Value}(h:Box w b ty #[u0,u1])(v0 v1:Value):Box ((w.setCell ⟨b,0,none⟩ v0).setCell ⟨b,1,none⟩ v1) b ty #[v0,v1]:=by
 have:=(h.set 0 v0).set 1 v1;simpa using this
theorem Box.two {u0 u1:Value}(h:Box w b ty #[u0,u1]):w.cell? ⟨b,0,none⟩=some u0∧w.cell? ⟨b,1,none⟩=some u1:=⟨h.cell 0,h.cell 1⟩
theorem Box.three {u0 u1 u2:Value}(h:Box w b ty #[u0,u1,u2]):w.cell? ⟨b,0,none⟩=some u0∧w.cell? ⟨b,1,none⟩=some u1∧w.cell? ⟨b,2,none⟩=some u2:=⟨h.cell 0,h.cell 1,h.cell 2⟩
theorem Box.grown {row:Option Nat}(h:Box w b ty cs)(hg:w.grownBy w' row)(hne:row≠some b):Box w' b ty cs:=(hg.block b h.lt (fun e=>hne e.symm)).trans h
end
def aK (b:Nat)(w w':World):Prop:=w'.heap.size=w.heap.size∧∀k,k≠b→w'.heap[k]?=w.heap[k]?
theorem aK.set (w:World)(b i:Nat)(v:Value):aK b w (w.setCell ⟨b,i,none⟩ v):=⟨by simp[World.setCell],fun _ hk=>heap_setCell_other _ _ _ _ hk⟩
theorem aK.trans {b:Nat}{w w' w'':World}(h:aK b w w')(g:aK b w' w''):aK b w w'':=⟨g.1.trans h.1,fun k hk=>(g.2 k hk).trans (h.2 k hk)⟩
theorem aK.set2 (w:World)(b i j:Nat)(u v:Value):aK b w ((w.setCell ⟨b,i,none⟩ u).setCell ⟨b,j,none⟩ v):=(aK.set _ _ _ _).trans (aK.set _ _ _ _)
theorem aK.cell {b:Nat}{w w':World}(h:aK b w w'){p:Addr}(hp:p.block≠b):w'.cell? p=w.cell? p:=World.cell?_of_block (h.2 _ hp)
theorem aK.box {b k ty:Nat}{cs:Array Value}{w w':World}(h:aK b w w')(g:Box w k ty cs)(hk:k≠b):Box w' k ty cs:=(h.2 k hk).trans g
theorem aJ.beside {w w':World}{b ty:Nat}{cs:Array Value}{A:OAd}{n c:Nat}{xs:LIn}(h:aJ w A n c xs)(hb:Box w b ty cs)(hcs:∀(j:Nat) (x:Int),cs[j]?≠some (.int .i64 x))(hw:aK b w w'):aJ w' A n c xs :=
 ⟨h.len,h.le,h.cap,h.small,h.nul,fun hn=>by
  obtain⟨b',off,e,hlt,hc⟩:=h.cells hn;refine⟨b',off,e,by rw[hw.1];exact hlt,fun i x hx=>?_⟩;obtain⟨vs,h1,h2⟩:=hc i x hx;refine⟨vs,fun j hj=>?_,h2⟩;have:=h1 j hj;by_cases hbb:b'=b
  ·subst hbb;exfalso
   obtain rfl:j=0:=by omega
   rw[hb.cell,h2]at this;exact hcs _ _ this
  ·rw[hw.cell (by simpa using hbb)];exact this⟩
theorem jF {A B:OAd}{n c m d:Nat}:∀(j:Nat) (x:Int),(#[Value.slice A n c,Value.slice B m d])[j]?≠some (.int .i64 x)
 | 0,_=>by simp
 | 1,_=>by simp
 | _+2,_=>by simp
theorem MU {t e bytes:Nat} {z:Value} (h1:Tryz.prog.underlying t=some (.slice e)) (h2:(Tryz.prog.info? e).map (fun i=>(i.zero,i.size,i.bytes))=some (some z,1,bytes)) (hz:z.cells=#[z]) {ops:Array Oper} {o:Oper} {a:Act} {K:Act→World→Prop} {Q:Exit→Act→World→Prop} {E:Prop}
  (hg:o.guard=none) (l c:Operand) (hop:o.op=Op.makeSlice t l c) {w0 w:World} {B:Nat} {L C:Int} (n:Nat) (hl:a.eval l=.int .i64 L) (hc:a.eval c=.int .i64 C) (hL:L=(n:Int)) (hC:C=(n:Int))
  (hn:n≤281474976710656) (hbytes:bytes*n≤281474976710656) (hb:Below B w0 w) (hB:B≤w.heap.size)
  (hK:∀w',w'.ownsRow B e 1 (.slice (some ⟨w.heap.size,0,none⟩) n n) n (List.replicate n z)→w.grownBy w' none→Below B w0 w'→K (a.put o.dst (.slice (some ⟨w.heap.size,0,none⟩) n n)) w') :
  if Region.wanted o (yielded ops a.tmps)=true then Oper.wp Tryz.prog o a w K Q else E:=by
 obtain⟨i,hi,hz0,hz1,hz2⟩:=info_parts h2;obtain⟨w',iW,r1,r2⟩:=run_make_full (P:=Tryz.prog) w B t e i z 1 h1 hi hz0 hz1 .i64 .i64 n (by rw[hz2];exact hbytes) (by simp only[maxLen];omega) hB;rw[hz,Nat.mul_one,toList_madeCells_one]at r1;have h:=hK w' r1 r2 (hb.grown r2 hB (fun k hk=>by cases hk));subst hL;subst hC;rw[if_pos (by simp[Region.wanted,hg])];unfold Oper.wp;simp[execOp,hop,hl,hc,iW,Result.andThen];exact h
theorem Box.set3 {w:World}{b ty:Nat}{u0 u1 u2:Value}(h:Box w b ty #[u0,u1,u2])(v0 v1 v2:Value):Box (((w.setCell ⟨b,0,none⟩ v0).setCell ⟨b,1,none⟩ v1).setCell ⟨b,2,none⟩ v2) b ty #[v0,v1,v2]:=by
 have:=((h.set 0 v0).set 1 v1).set 2 v2;simpa using this
theorem aG {B b:Nat}{w0 w:World}(h:Below B w0 w)(hb:B≤b)(v0 v1 v2:Value):Below B w0 (((w.setCell ⟨b,0,none⟩ v0).setCell ⟨b,1,none⟩ v1).setCell ⟨b,2,none⟩ v2) :=
 ((h.setCell hb _).setCell hb _).setCell hb _
end Go.Proofs.YtfmnagcglhlicaaGreat
namespace Go.Proofs.YtfmnagcglhlicaaGreat
def WU (b:Nat):Nat:=b*2 % 256+b / 128
def QE (b:Nat):Nat→Nat
 | 0=>b
 | k+1=>WU (QE b k)
theorem Ut {b:Nat}(h:b<256):WU b<256:=by unfold WU;omega
theorem ED {b:Nat}(h:b<256):∀k,QE b k<256
 | 0=>h
 | k+1=>Ut (ED h k)
def uD (bs:List Nat):Nat:=bs.zipIdx.foldl (fun x p=>x ^^^ QE p.1 p.2) 90
theorem AZ (bs:List Nat)(b:Nat):uD (bs++[b])=uD bs ^^^ QE b bs.length:=by
 unfold uD;rw[List.zipIdx_append,List.foldl_append];simp
theorem Uu {bs:List Nat}(h:∀b∈bs,b<256):uD bs<256:=by
 have key:∀n,∀l:List Nat,l.length=n→(∀b∈l,b<256)→uD l<256:=by
  intro n;induction n with
  | zero=>intro l hl _;rw[List.eq_nil_of_length_eq_zero hl];decide
  | succ n ih =>
   intro l hl hb;obtain⟨a,b,rfl⟩:∃a b,l=a++[b]:=⟨l.dropLast,l.getLast (by intro e;subst e;simp at hl),(List.dropLast_concat_getLast _).symm⟩;rw[AZ];exact Nat.xor_lt_two_pow (n:=8) (ih a (by simpa using hl) (fun x hx=>hb x (List.mem_append_left _ hx))) (ED (hb b (by simp)) _)
 exact key _ bs rfl h
structure POp where
 kind:Int
 user:Int
 tran:Int
 item:Int
 to_:Int
def fV (n:Int):Bool:=decide (0≤n)&&decide (n≤255)
theorem kT (n:Int):fV n=true↔0≤n∧n≤255:=by simp[fV]
def Uw (n:Int):Bool:=decide (0≤n)&&decide (n≤65535)
theorem Bd (n:Int):Uw n=true↔0≤n∧n≤65535:=by simp[Uw]
def Bf (o:POp):Bool:=fV o.kind&&fV o.user&&fV o.tran&&fV o.to_&&Uw o.item
def Bh (o:POp):List Nat:=[o.kind.toNat,o.user.toNat,o.tran.toNat,o.to_.toNat,o.item.toNat / 256,o.item.toNat % 256]
def cY (o:POp):List Nat×Int:=if Bf o=true then(Bh o++[uD (Bh o)],0)else([],2)
theorem yT (o:POp):Bf o=true↔(0≤o.kind∧o.kind≤255)∧(0≤o.user∧o.user≤255)∧(0≤o.tran∧o.tran≤255)∧(0≤o.to_∧o.to_≤255)∧(0≤o.item∧o.item≤65535):=by
 unfold Bf;simp only[Bool.and_eq_true,kT,Bd,and_assoc]
theorem Ux {o:POp}(h:Bf o=true):∀b∈Bh o,b<256:=by
 rw[yT]at h;intro b hb;simp only[Bh,List.mem_cons,List.not_mem_nil,or_false]at hb;omega
def VF (bs:List Nat):POp:=⟨bs.getD 0 0,bs.getD 1 0,bs.getD 2 0,((bs.getD 4 0*256+bs.getD 5 0:Nat):Int),bs.getD 3 0⟩
def gZ (bs:List Nat):List POp×Int×Int :=
 if h:bs.length<7 then([],0,0)
 else if uD (bs.take 6)=bs.getD 6 0 then(VF bs::(gZ (bs.drop 7)).1,(gZ (bs.drop 7)).2.1+7,(gZ (bs.drop 7)).2.2)
 else([],0,8)
termination_by bs.length
decreasing_by all_goals (rw[List.length_drop];omega)
theorem oZ {bs:List Nat}(h:bs.length<7):gZ bs=([],0,0):=by rw[gZ,dif_pos h]
theorem MV {bs:List Nat}(h:¬bs.length<7)(hs:uD (bs.take 6)≠bs.getD 6 0):gZ bs=([],0,8):=by rw[gZ,dif_neg h,if_neg hs]
theorem xH {bs:List Nat}(h:¬bs.length<7)(hs:uD (bs.take 6)=bs.getD 6 0):gZ bs=(VF bs::(gZ (bs.drop 7)).1,(gZ (bs.drop 7)).2.1+7,(gZ (bs.drop 7)).2.2):=by rw[gZ,dif_neg h,if_pos hs]
structure sU (bs:List Nat)(j:Nat)(out:List POp):Prop where
 eq:gZ bs=(out++(gZ (bs.drop (7*j))).1,((7*j:Nat):Int)+(gZ (bs.drop (7*j))).2.1,(gZ (bs.drop (7*j))).2.2)
 len:out.length=j
theorem sU.start (bs:List Nat):sU bs 0 []:=⟨by simp,rfl⟩
theorem sU.next {bs:List Nat}{j:Nat}{out:List POp}(h:sU bs j out)(hl:7*j+7≤bs.length)(hs:uD ((bs.drop (7*j)).take 6)=(bs.drop (7*j)).getD 6 0):sU bs (j+1) (out++[VF (bs.drop (7*j))]):=by
 refine⟨?_,by simp[h.len]⟩;rw[h.eq,xH (by rw[List.length_drop];omega) hs,List.drop_drop,show 7*j+7=7*(j+1)from by omega];simp only[List.append_assoc,List.singleton_append,Prod.mk.injEq,true_and,and_true];omega
theorem sU.bad {bs:List Nat}{j:Nat}{out:List POp}(h:sU bs j out)(hl:7*j+7≤bs.length)(hs:uD ((bs.drop (7*j)).take 6)≠(bs.drop (7*j)).getD 6 0):gZ bs=(out,((7*j:Nat):Int),8):=by
 rw[h.eq,MV (by rw[List.length_drop];omega) hs];simp
theorem sU.fin {bs:List Nat}{j:Nat}{out:List POp}(h:sU bs j out)(hl:bs.length<7*j+7):gZ bs=(out,((7*j:Nat):Int),0):=by
 rw[h.eq,oZ (by rw[List.length_drop];omega)];simp
open Go.RowKit
theorem eS (w:World)(o:Obj):Below w.heap.size w (w.alloc o):=(Below.refl _ _).alloc (Nat.le_refl _) _
theorem xI (w:World)(q:Nat):Below w.heap.size w (w.drewN q):=⟨rfl,rfl,rfl,Nat.le_refl _,fun _ _=>rfl⟩
def gC:World→(Nat→Value)→Nat→Prop:=fun _ vs b=>vs 0=.int .u8 (b:Int)∧b<256
theorem gC.kept:t8 gC:=fun _ _ _ _ _ h=>h
theorem gC.good:Jj gC 1 where
 kept:=gC.kept
 one:=fun w vs x h j hj=>by
  obtain rfl:j=0:=by omega
  rw[h.1];rfl
 pos:=by omega
abbrev Bts (w:World)(A:OAd)(n c:Nat)(bs:List Nat):Prop:=Sl gC 1 w A n c bs
theorem Bts.get {w:World}{A:OAd}{n c k:Nat}{bs:List Nat}(h:Bts w A n c bs)(hk:k<n) :
  ∃b off x,A=some ⟨b,off,none⟩∧b<w.heap.size∧Hid (bs[k]?=some x)∧w.cell? ⟨b,off+k,none⟩=some (.int .u8 (x:Int))∧x<256:=by
 obtain⟨b,off,x,vs,h1,h2,h3,h4,h5,h6⟩:=Sl.get h hk;refine⟨b,off,x,h1,h2,h3, ?_,h6⟩;have:=h4 0 (by omega);rw[h5]at this;simpa using this
theorem Sl.piece {α:Type}{R:World→(Nat→Value)→α→Prop}{w:World}{b off n c i k:Nat}{xs:List α}(h:Sl R 1 w (some ⟨b,off,none⟩) n c xs)(hik:i+k≤n)(hk:0<k) :
  Sl R 1 w (some ⟨b,off+i,none⟩) k (c-i) ((xs.drop i).take k):=by
 have hl:=h.len;have hle:=h.le;have hcap:=h.cap;have hsm:=h.small;refine⟨by rw[List.length_take,List.length_drop];omega,by omega,by omega,by omega,fun e=>(by cases e),fun _=>?_⟩;obtain⟨b',off',e,hb,hc⟩:=h.cells (by omega);injection e with e;injection e with e1 e2;subst e1 e2;refine⟨b,off+i,rfl,hb,fun j x hx=>?_⟩;rw[List.getElem?_take]at hx;split at hx
 ·rw[List.getElem?_drop]at hx;obtain⟨vs,a1,a2⟩:=hc _ _ hx;refine⟨vs,fun q hq=>?_,a2⟩;have:=a1 q hq;rw[show off+((i+j)*1+q)=off+i+(j*1+q)from by omega]at this;exact this
 ·cases hx
theorem EG:mC 107 5 1 1:=mC.mk' (z:=.int .u8 0) Tryz.underlying107 (by kernel_rfl) rfl (by decide)
theorem QW:∀k,k<8→∀b,b<256→(b*2 ^ k % 256) |||(b / 2 ^ (8-k))=QE b k:=by decide +kernel
theorem Bi {w:World}(b k:Nat)(hb:b<256)(hk:k<8) :
  Calls Tryz.prog 163 #[.int .u8 (b:Int),.int .i64 (k:Int)] w fun e w'=>e=.returned (.int .u8 ((QE b k:Nat):Int))∧w=w':=by
 have T:=QW k hk b hb;have hk':k=0∨k=1∨k=2∨k=3∨k=4∨k=5∨k=6∨k=7:=by omega
 rcases hk' with rfl|rfl|rfl|rfl|rfl|rfl|rfl|rfl
 all_goals
  have HT:=aA ((u8_or_nat _ _ (Nat.mod_lt _ (by omega)) (Nat.lt_of_le_of_lt (Nat.div_le_self _ _) hb)).trans (congrArg (fun x:Nat=>(x:Int)) T));clear T hk;have e0:bits .and .u64 0 7=0:=by rfl
  have e1:bits .and .u64 1 7=1:=by rfl
  have e2:bits .and .u64 2 7=2:=by rfl
  have e3:bits .and .u64 3 7=3:=by rfl
  have e4:bits .and .u64 4 7=4:=by rfl
  have e5:bits .and .u64 5 7=5:=by rfl
  have e6:bits .and .u64 6 7=6:=by rfl
  have e7:bits .and .u64 7 7=7:=by rfl
  go_enter Tryz.func163,Tryz.ntmps163
  go_wp2
  go_ret
  refine⟨congrArg (fun x=>Ending.returned (.int .u8 x)) ?_,rfl⟩;have h:=HT.o;clear HT e0 e1 e2 e3 e4 e5 e6 e7;have hm:(b:Int) % 256=b:=by omega
  simpa [hm] using h
theorem pY {w:World}{A:OAd}{n c:Nat}{bs:List Nat}(h:Bts w A n c bs)(hn:n≤8) :
  Calls Tryz.prog 114 #[.slice A n c] w fun e w'=>e=.returned (.int .u8 ((uD bs:Nat):Int))∧w=w':=by
 have H:=aA h;clear h;go_enter Tryz.func114,Tryz.ntmps114
 go_wp2
 go_loop [3,8] (fun v i=>∃k:Nat,k≤n∧i=.int .i64 k∧∃x:Nat,x<256∧v=.int .u8 (x:Int)∧Hid (x=uD (bs.take k))) (fun _ i=>n-(intOf i).toNat)
 case atStart=>exact⟨0,Nat.zero_le _,rfl,90,by decide,rfl,rfl⟩
 case round =>
  obtain⟨k,hk,rfl,x,hx,rfl,hv⟩:=hrel;by_cases hlt:k<n
  ·have hki:(k:Int)<(n:Int):=by omega
   obtain⟨b,off,y,rfl,hb,hy,hc,hy256⟩:=Bts.get H.o hlt;have hr:=ED hy256 k;have NX:=aA (show x ^^^ QE y k=uD (bs.take (k+1)) by rw[bL hy.o,AZ,←hv.o,List.length_take,Nat.min_eq_left (by rw[H.o.len];omega)]);have HX:=aA (u8_xor_nat x (QE y k) hx hr);have hx2:x ^^^ QE y k<256:=Nat.xor_lt_two_pow (n:=8) hx hr;go_wp2_with (refine(Bi y k hy256 (by omega)).mono ?_;rintro e w' ⟨rfl,rfl⟩)
   go_round
   case rel=>exact⟨k+1,by omega,by go_num,x ^^^ QE y k,hx2,by rw[HX.o],NX⟩
   case measure=>simp[intOf];omega
  ·obtain rfl:k=n:=by omega
   have hv':=hv.o;rw[List.take_of_length_le (by rw[H.o.len];exact Nat.le_refl _)]at hv';subst hv';go_wp2
   go_ret
   exact⟨rfl,rfl⟩
theorem fF {w:World}(n:Int) :
  Calls Tryz.prog 113 #[.int .i64 n] w fun e w'=>e=.returned (.bool (fV n))∧w=w':=by
 by_cases h1:0≤n
 ·have FN:=aA (show fV n=decide (n≤255) by simp[fV,h1]);go_enter Tryz.func113,Tryz.ntmps113
  go_wp2
  go_ret
  exact⟨aY (by rw[FN.o]),rfl⟩
 ·have FN:=aA (show fV n=false by simp[fV,h1]);go_enter Tryz.func113,Tryz.ntmps113
  go_wp2
  go_ret
  exact⟨aY (by rw[FN.o]),rfl⟩
theorem Box.five {w:World}{b ty:Nat}{u0 u1 u2 u3 u4:Value}(h:Box w b ty #[u0,u1,u2,u3,u4]):w.cell? ⟨b,0,none⟩=some u0∧w.cell? ⟨b,1,none⟩=some u1∧w.cell? ⟨b,2,none⟩=some u2∧w.cell? ⟨b,3,none⟩=some u3∧w.cell? ⟨b,4,none⟩=some u4:=⟨h.cell 0,h.cell 1,h.cell 2,h.cell 3,h.cell 4⟩
def wI (p:List Nat×Int)(w:World)(e:Ending)(w':World):Prop :=
 ∃A n c,e=.returned (.tuple #[.slice A n c,.int .i64 p.2])∧Bts w' A n c p.1∧Below w.heap.size w w'
theorem wI.no {e:Int}{w w':World}(hb:Below w.heap.size w w'):wI ([],e) w (.returned (.tuple #[.slice none 0 0,.int .i64 e])) w':=⟨none,0,0,rfl,Sl.nil0,hb⟩
def WV (p:List Nat×Int)(w:World)(e:Ending)(w':World):Prop :=
 ∃A n c,e=.returned (.tuple #[.slice A n c,.int .i64 p.2])∧aC gC 1 w' w.heap.size 5 (.slice A n c) n p.1∧Below w.heap.size w w'
theorem aC.row {α:Type}{R:World→(Nat→Value)→α→Prop}{sz:Nat}{w:World}{B e n:Nat}{us:Array Value}{xs:List α}(hB:B≤w.heap.size)(hus:us.size=n*sz)(hn:n≤maxLen)(hr:a6 R sz (w.alloc (.cells us e)) us.toList xs)(hl:xs.length=n) :
  aC R sz (w.alloc (.cells us e)) B e (.slice (some ⟨w.heap.size,0,none⟩) n n) n xs :=
 ⟨us.toList,⟨by simpa using hus,.inr ⟨w.heap.size,n,us,rfl,hB,heap_alloc_new w _,Nat.le_refl _,hn,hus,by rw[List.take_of_length_le (by simp[hus])]⟩⟩,hr,hl⟩
theorem aC.arr {α:Type}{R:World→(Nat→Value)→α→Prop}{sz:Nat}{w:World}{B e n c:Nat}{a:Addr}{xs:List α}(h:aC R sz w B e (.slice (some a) n c) n xs)(hn:n≤281474976710656):Sl R sz w (some a) n c xs:=by
 obtain⟨A,k,hv,s⟩:=h.sl hn;injection hv with h1 h2 h3;subst h1 h3;exact s
abbrev tK (w:World)(B:Nat)(v:Value)(n:Nat)(bs:List Nat):Prop:=aC gC 1 w B 5 v n bs
theorem a6.bytes {w:World}{us:List Value}{bs:List Nat}(h:us=bs.map fun b:Nat=>Value.int .u8 (b:Int))(hb:∀b∈bs,b<256):a6 gC 1 w us bs:=by
 subst h;refine⟨by simp,fun i x hx=>⟨fun _=>.int .u8 (x:Int),fun j hj=>?_,rfl,hb x (List.mem_of_getElem? hx)⟩⟩;obtain rfl:j=0:=by omega
 simp[hx]
theorem mG {ops:Array Oper} {rest:List Oper} {o:Oper} {a:Act} {Q:Exit→Act→World→Prop} (hgd:o.guard=none) (s x:Operand)
  (ho:o.op=.call {callee:=.builtin .append,args:=#[s,x],argTypes:=#[107,107]})
  {w0 w:World} {B:Nat} {v:Value} {n m:Nat} {xs ys:List Nat} {us:Array Value} {H:Nat} (hs:a.eval s=v) (hx:a.eval x=.slice (some ⟨H,0,none⟩) m m) (hH:H=w.heap.size) (hus:us.toList=ys.map fun b:Nat=>Value.int .u8 (b:Int)) (hy:ys.length=m) (hlt:∀b∈ys,b<256)
  (own:tK w B v n xs) (hb:Below B w0 w) (hB:B≤w.heap.size) (hn:n+m≤1000)
  (K:∀v' w',tK w' B v' (n+m) (xs++ys)→w.grownBy w' v.ownBlock→Below B w0 w'→wpList Tryz.prog ops Q rest (a.put o.dst v') w') :
  wpList Tryz.prog ops Q (o::rest) a (w.alloc (.cells us 5)) :=
 bY EG hgd s x ho ys us hs hx hH (by rw[←Array.length_toList,hus,List.length_map,hy,Nat.mul_one]) (by rw[hus];intro u hu;obtain⟨b,_,rfl⟩:=List.mem_map.1 hu;rfl) own (a6.bytes hus hlt) hy hb hB (by omega) (by omega) (fun _ _ _ _ h=>h) K
theorem WY {o:POp}(h:Bf o=true):∃K U T I D:Nat,o=⟨K,U,T,I,D⟩∧K<256∧U<256∧T<256∧D<256∧I<65536:=by
 rw[yT]at h;obtain⟨k,u,t,i,d⟩:=o;simp only at h;exact⟨k.toNat,u.toNat,t.toNat,i.toNat,d.toNat,by simp only[POp.mk.injEq];omega,by omega,by omega,by omega,by omega,by omega⟩
theorem MX {w:World}(o:POp)(h:¬Bf o=true):Calls Tryz.prog 68 #[.agg #[.int .i64 o.kind,.int .i64 o.user,.int .i64 o.tran,.int .i64 o.item,.int .i64 o.to_]] w (wI (cY o) w):=by
 have FN:=aA (show cY o=([],2) by unfold cY;rw[if_neg h]);have HB:=aA (eS w (.cells #[.int .i64 o.kind,.int .i64 o.user,.int .i64 o.tran,.int .i64 o.item,.int .i64 o.to_] 45));rw[FN.o];obtain⟨k,u,t,i,d⟩:=o;simp only at HB ⊢;simp only[Bf,Bool.and_eq_true,Bd,not_and,and_imp]at h;have HH:=aA h;clear h FN;obtain⟨v1,h1⟩:∃v,fV k=v:=⟨_,rfl⟩;obtain⟨v2,h2⟩:∃v,fV u=v:=⟨_,rfl⟩;obtain⟨v3,h3⟩:∃v,fV t=v:=⟨_,rfl⟩;obtain⟨v4,h4⟩:∃v,fV d=v:=⟨_,rfl⟩;have H1:=aA h1;have H2:=aA h2;have H3:=aA h3;have H4:=aA h4;clear h1 h2 h3 h4;cases v1
 ·go_enter Tryz.func68,Tryz.ntmps68
  go_upto_region 1 with fail
  obtain⟨c0,c1,c2,c3,c4⟩:=(Box.new w #[.int .i64 k,.int .i64 u,.int .i64 t,.int .i64 i,.int .i64 d] 45).five;generalize w.alloc (.cells #[.int .i64 k,.int .i64 u,.int .i64 t,.int .i64 i,.int .i64 d] 45)=w0 at *
  go_wp2_with (refine(fF _).mono ?_;rintro e w' ⟨rfl,rfl⟩;first|rw[H1.o]|rw[H2.o]|rw[H3.o]|rw[H4.o])
  go_ret2
  exact wI.no HB.o
 ·
  cases v2
  ·go_enter Tryz.func68,Tryz.ntmps68
   go_upto_region 1 with fail
   obtain⟨c0,c1,c2,c3,c4⟩:=(Box.new w #[.int .i64 k,.int .i64 u,.int .i64 t,.int .i64 i,.int .i64 d] 45).five;generalize w.alloc (.cells #[.int .i64 k,.int .i64 u,.int .i64 t,.int .i64 i,.int .i64 d] 45)=w0 at *
   go_wp2_with (refine(fF _).mono ?_;rintro e w' ⟨rfl,rfl⟩;first|rw[H1.o]|rw[H2.o]|rw[H3.o]|rw[H4.o])
   go_ret2
   exact wI.no HB.o
  ·
   cases v3
   ·go_enter Tryz.func68,Tryz.ntmps68
    go_upto_region 1 with fail
    obtain⟨c0,c1,c2,c3,c4⟩:=(Box.new w #[.int .i64 k,.int .i64 u,.int .i64 t,.int .i64 i,.int .i64 d] 45).five;generalize w.alloc (.cells #[.int .i64 k,.int .i64 u,.int .i64 t,.int .i64 i,.int .i64 d] 45)=w0 at *
    go_wp2_with (refine(fF _).mono ?_;rintro e w' ⟨rfl,rfl⟩;first|rw[H1.o]|rw[H2.o]|rw[H3.o]|rw[H4.o])
    go_ret2
    exact wI.no HB.o
   ·
    cases v4
    ·go_enter Tryz.func68,Tryz.ntmps68
     go_upto_region 1 with fail
     obtain⟨c0,c1,c2,c3,c4⟩:=(Box.new w #[.int .i64 k,.int .i64 u,.int .i64 t,.int .i64 i,.int .i64 d] 45).five;generalize w.alloc (.cells #[.int .i64 k,.int .i64 u,.int .i64 t,.int .i64 i,.int .i64 d] 45)=w0 at *
     go_wp2_with (refine(fF _).mono ?_;rintro e w' ⟨rfl,rfl⟩;first|rw[H1.o]|rw[H2.o]|rw[H3.o]|rw[H4.o])
     go_ret2
     exact wI.no HB.o
    ·by_cases h5:i<0
     ·go_enter Tryz.func68,Tryz.ntmps68
      go_upto_region 1 with fail
      obtain⟨c0,c1,c2,c3,c4⟩:=(Box.new w #[.int .i64 k,.int .i64 u,.int .i64 t,.int .i64 i,.int .i64 d] 45).five;generalize w.alloc (.cells #[.int .i64 k,.int .i64 u,.int .i64 t,.int .i64 i,.int .i64 d] 45)=w0 at *
      go_wp2_with (refine(fF _).mono ?_;rintro e w' ⟨rfl,rfl⟩;first|rw[H1.o]|rw[H2.o]|rw[H3.o]|rw[H4.o])
      go_ret2
      exact wI.no HB.o
     ·have h6:65535<i:=by have:=HH.o H1.o H2.o H3.o H4.o;omega
      go_enter Tryz.func68,Tryz.ntmps68
      go_upto_region 1 with fail
      obtain⟨c0,c1,c2,c3,c4⟩:=(Box.new w #[.int .i64 k,.int .i64 u,.int .i64 t,.int .i64 i,.int .i64 d] 45).five;generalize w.alloc (.cells #[.int .i64 k,.int .i64 u,.int .i64 t,.int .i64 i,.int .i64 d] 45)=w0 at *
      go_wp2_with (refine(fF _).mono ?_;rintro e w' ⟨rfl,rfl⟩;first|rw[H1.o]|rw[H2.o]|rw[H3.o]|rw[H4.o])
      go_ret2
      exact wI.no HB.o
theorem xJ {w:World}(o:POp)(h:Bf o=true):Calls Tryz.prog 68 #[.agg #[.int .i64 o.kind,.int .i64 o.user,.int .i64 o.tran,.int .i64 o.item,.int .i64 o.to_]] w (WV (cY o) w):=by
 have FN:=aA (show cY o=(Bh o++[uD (Bh o)],0) by unfold cY;rw[if_pos h]);have LT:=aA (Ux h);obtain⟨k,u,t,i,d,rfl,hk,hu,ht,hd,hi⟩:=WY h;rw[FN.o];have H1:=aA (show fV (k:Int)=true by rw[kT];omega);have H2:=aA (show fV (u:Int)=true by rw[kT];omega);have H3:=aA (show fV (t:Int)=true by rw[kT];omega);have H4:=aA (show fV (d:Int)=true by rw[kT];omega);have HB:=aA (eS w (.cells #[.int .i64 (k:Int),.int .i64 (u:Int),.int .i64 (t:Int),.int .i64 (i:Int),.int .i64 (d:Int)] 45));have SX:=aA (show Bh ⟨k,u,t,i,d⟩=[k,u,t,d,i / 256,i % 256] by simp[Bh]);clear h FN;show Calls Tryz.prog 68 #[.agg #[.int .i64 (k:Int),.int .i64 (u:Int),.int .i64 (t:Int),.int .i64 (i:Int),.int .i64 (d:Int)]] w _
 rw[SX.o]at LT ⊢;clear SX;go_enter Tryz.func68,Tryz.ntmps68
 go_upto_region 1 with fail
 obtain⟨c0,c1,c2,c3,c4⟩:=(Box.new w #[.int .i64 (k:Int),.int .i64 (u:Int),.int .i64 (t:Int),.int .i64 (i:Int),.int .i64 (d:Int)] 45).five;generalize w.alloc (.cells #[.int .i64 (k:Int),.int .i64 (u:Int),.int .i64 (t:Int),.int .i64 (i:Int),.int .i64 (d:Int)] 45)=w0 at *
 have OW:=aA (aC.row (R:=gC) (sz:=1) (w:=w0) (B:=w.heap.size) (e:=5) (n:=6) (us:=#[.int .u8 (k:Int),.int .u8 (u:Int),.int .u8 (t:Int),.int .u8 (d:Int),.int .u8 ((i:Int) / 256),.int .u8 ((i:Int) % 256)]) (xs:=[k,u,t,d,i / 256,i % 256]) HB.o.size rfl (by decide) (a6.bytes (by simp) LT.o) rfl);have S1:=aA (OW.o.arr (by omega));have LS:=aA (show ∀b∈[uD [k,u,t,d,i / 256,i % 256]],b<256 from fun b hb=>by rw[List.mem_singleton.1 hb];exact Uu LT.o);have B1:=aA (HB.o.trans ((eS w0 (.cells #[.int .u8 (k:Int),.int .u8 (u:Int),.int .u8 (t:Int),.int .u8 (d:Int),.int .u8 ((i:Int) / 256),.int .u8 ((i:Int) % 256)] 5)).mono HB.o.size));go_wp2_with (first
  |((with_reducible refine(fF _).mono ?_);rintro e w' ⟨rfl,rfl⟩;first|rw[H1.o]|rw[H2.o]|rw[H3.o]|rw[H4.o])
  |((with_reducible refine(pY S1.o (by omega)).mono ?_);rintro e w' ⟨rfl,rfl⟩;clear c0 c1 c2 c3 c4;generalize w0.alloc (.cells #[.int .u8 (k:Int),.int .u8 (u:Int),.int .u8 (t:Int),.int .u8 (d:Int),.int .u8 ((i:Int) / 256),.int .u8 ((i:Int) % 256)] 5)=w1 at *;generalize w0.heap.size=g at *;generalize hy:uD [k,u,t,d,i / 256,i % 256]=y at *)
  |(at_builtin;refine mG rfl _ _ rfl (m:=1) (ys:=[y]) rfl rfl (by first|rfl|simp) (by first|rfl|simp) rfl LS.o OW.o B1.o B1.o.size (by omega) ?_;intro v2 w2 own2 hg2 hb2))
 obtain⟨A2,c2,hv2,_⟩:=own2.sl (by omega);subst hv2;go_ret2
 exact⟨A2,7,c2,rfl,own2,hb2⟩
theorem Bj {w:World}(o:POp):Calls Tryz.prog 68 #[.agg #[.int .i64 o.kind,.int .i64 o.user,.int .i64 o.tran,.int .i64 o.item,.int .i64 o.to_]] w (wI (cY o) w):=by
 by_cases h:Bf o=true
 ·refine(xJ o h).mono ?_;rintro e w' ⟨A,n,c,rfl,own,hb⟩;have hn:n=7:=by rw[←own.len,cY,if_pos h];rfl
  obtain⟨A2,c2,hv,s2⟩:=own.sl (by omega);injection hv with e1 _ e2;subst e1 e2;exact⟨A,n,c,rfl,s2,hb⟩
 ·exact MX o h
theorem aC.notBox {α:Type}{R:World→(Nat→Value)→α→Prop}{sz:Nat}{w:World}{B e:Nat}{v:Value}{n:Nat}{xs:List α}{b ty:Nat}{cs:Array Value}(own:aC R sz w B e v n xs)(x:Box w b ty cs)(hne:e≠ty):v.ownBlock≠some b:=by
 intro hv;obtain⟨cells,o1,_⟩:=own;rcases o1.2 with⟨rfl,_⟩|⟨g,cap,cur,rfl,_,hh,_⟩
 ·cases hv
 ·simp only[Value.ownBlock,Option.some.injEq]at hv;subst hv;have h2:w.heap[g]?=some (.cells cs ty (0,0)):=x;rw[hh]at h2;injection h2 with h2;injection h2 with _ ht;exact hne ht
end Go.Proofs.YtfmnagcglhlicaaGreat
