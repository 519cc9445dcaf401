/- Texts melted into one: Blocks that are known whole: boxes of struct values, what stays of them and beside them; make in a region that draws its order. Conditions: none; plain lemmas on memory. | A box of three cells, stored anew. Conditions: none. | Contracts of package mark, of the references of ch -/
import Derived.Test.YtfmnagcglhlicaaGreatTopSaidK04
import Derived.Deep.QuietTactic
import Derived.BigQuiet
import Derived.Lib.AppendZeros
import Derived.Handy
import Derived.Deep.DeepCutAuto
import Derived.Deep.LoopGhost
set_option maxRecDepth 100000
namespace Go.Proofs.YtfmnagcglhlicaaGreat
open Go.RowKit
def Box (w:World)(b ty:Nat)(cs:Array Value):Prop:=w.heap[b]?=some (.cells cs ty (0,0))
section
variable {w w':World} {b ty:Nat} {cs:Array Value}
theorem Box.lt (h:Box w b ty cs):b<w.heap.size:=(Array.getElem?_eq_some_iff.1 h).1
theorem Box.cell (h:Box w b ty cs)(j:Nat):w.cell? ⟨b,j,none⟩=cs[j]?:=cell_of_row _ _ _ _ _ (0,0) h
theorem Box.frozen (h:Box w b ty cs)(j:Nat):w.frozen? ⟨b,j,none⟩=false:=frozen_of_row _ _ _ _ _ h
theorem Box.keepB (h:Box w b ty cs){B:Nat}(hb:Below B w w')(hB:b<B):Box w' b ty cs:=(hb.block b hB).trans h
theorem Box.keep (h:Box w b ty cs)(hb:Below w.heap.size w w'):Box w' b ty cs:=h.keepB hb h.lt
theorem Box.new (w:World)(cs:Array Value)(ty:Nat):Box (w.alloc (.cells cs ty)) w.heap.size ty cs:=heap_alloc_new w _
theorem Box.newAt {n:Nat}(hn:w.heap.size=n)(cs:Array Value)(ty:Nat):Box (w.alloc (.cells cs ty)) n ty cs:=by subst hn;exact heap_alloc_new w _
theorem Box.old (h:Box w b ty cs)(o:Obj):Box (w.alloc o) b ty cs:=(heap_alloc_old w o h.lt).trans h
theorem Box.drew (h:Box w b ty cs):Box w.drew b ty cs:=h
theorem Box.drewN (h:Box w b ty cs)(n:Nat):Box (w.drewN n) b ty cs:=h
theorem Box.set (h:Box w b ty cs)(i:Nat)(v:Value):Box (w.setCell ⟨b,i,none⟩ v) b ty (cs.setIfInBounds i v):=heap_setCell_same _ _ _ _ _ _ h
theorem Box.other (h:Box w b ty cs){a:Addr}(v:Value)(hne:b≠a.block):Box (w.setCell a v) b ty cs:=(heap_setCell_other _ _ _ _ hne).trans h
theorem Box.set2 {u0 u1:Value}(h:Box w b ty #[u0,u1])(v0 v1:Value):Box ((w.setCell ⟨b,0,none⟩ v0).setCell ⟨b,1,none⟩ v1) b ty #[v0,v1]:=by
 have:=(h.set 0 v0).set 1 v1
 simpa using this
theorem Box.two {u0 u1:Value}(h:Box w b ty #[u0,u1]):w.cell? ⟨b,0,none⟩=some u0∧w.cell? ⟨b,1,none⟩=some u1:=⟨h.cell 0,h.cell 1⟩
theorem Box.three {u0 u1 u2:Value}(h:Box w b ty #[u0,u1,u2]):w.cell? ⟨b,0,none⟩=some u0∧w.cell? ⟨b,1,none⟩=some u1∧w.cell? ⟨b,2,none⟩=some u2:=⟨h.cell 0,h.cell 1,h.cell 2⟩
theorem Box.grown {row:Option Nat}(h:Box w b ty cs)(hg:w.grownBy w' row)(hne:row≠some b):Box w' b ty cs:=(hg.block b h.lt (fun e=>hne e.symm)).trans h
end
def Zan (b:Nat)(w w':World):Prop:=w'.heap.size=w.heap.size∧∀k,k≠b→w'.heap[k]?=w.heap[k]?
theorem Zan.set (w:World)(b i:Nat)(v:Value):Zan b w (w.setCell ⟨b,i,none⟩ v):=⟨by simp[World.setCell],fun _ hk=>heap_setCell_other _ _ _ _ hk⟩
theorem Zan.trans {b:Nat}{w w' w'':World}(h:Zan b w w')(g:Zan b w' w''):Zan b w w'':=⟨g.1.trans h.1,fun k hk=>(g.2 k hk).trans (h.2 k hk)⟩
theorem Zan.set2 (w:World)(b i j:Nat)(u v:Value):Zan b w ((w.setCell ⟨b,i,none⟩ u).setCell ⟨b,j,none⟩ v):=(Zan.set _ _ _ _).trans (Zan.set _ _ _ _)
theorem Zan.cell {b:Nat}{w w':World}(h:Zan b w w'){p:Addr}(hp:p.block≠b):w'.cell? p=w.cell? p:=World.cell?_of_block (h.2 _ hp)
theorem Zan.box {b k ty:Nat}{cs:Array Value}{w w':World}(h:Zan b w w')(g:Box w k ty cs)(hk:k≠b):Box w' k ty cs:=(h.2 k hk).trans g
theorem Zam.beside {w w':World}{b ty:Nat}{cs:Array Value}{A:Option Addr}{n c:Nat}{xs:List Int}(h:Zam w A n c xs)(hb:Box w b ty cs)(hcs:∀(j:Nat) (x:Int),cs[j]?≠some (.int .i64 x))(hw:Zan b w w'):Zam w' A n c xs :=
 ⟨h.len,h.le,h.cap,h.small,h.nul,fun hn=>by
  obtain⟨b',off,e,hlt,hc⟩:=h.cells hn
  refine⟨b',off,e,by rw[hw.1];exact hlt,fun i x hx=>?_⟩
  obtain⟨vs,h1,h2⟩:=hc i x hx
  refine⟨vs,fun j hj=>?_,h2⟩
  have:=h1 j hj
  by_cases hbb:b'=b
  ·subst hbb
   exfalso
   obtain rfl:j=0:=by omega
   rw[hb.cell,h2]at this
   exact hcs _ _ this
  ·rw[hw.cell (by simpa using hbb)];exact this⟩
theorem ZcX {A B:Option Addr}{n c m d:Nat}:∀(j:Nat) (x:Int),(#[Value.slice A n c,Value.slice B m d])[j]?≠some (.int .i64 x)
 | 0,_=>by simp
 | 1,_=>by simp
 | _+2,_=>by simp
theorem Zov {t e bytes:Nat} {z:Value} (h1:Tryz.prog.underlying t=some (.slice e)) (h2:(Tryz.prog.info? e).map (fun i=>(i.zero,i.size,i.bytes))=some (some z,1,bytes)) (hz:z.cells=#[z]) {ops:Array Oper} {o:Oper} {a:Act} {K:Act→World→Prop} {Q:Exit→Act→World→Prop} {E:Prop}
  (hg:o.guard=none) (l c:Operand) (hop:o.op=Op.makeSlice t l c) {w0 w:World} {B:Nat} {L C:Int} (n:Nat) (hl:a.eval l=.int .i64 L) (hc:a.eval c=.int .i64 C) (hL:L=(n:Int)) (hC:C=(n:Int))
  (hn:n≤281474976710656) (hbytes:bytes*n≤281474976710656) (hb:Below B w0 w) (hB:B≤w.heap.size)
  (hK:∀w',w'.ownsRow B e 1 (.slice (some ⟨w.heap.size,0,none⟩) n n) n (List.replicate n z)→w.grownBy w' none→Below B w0 w'→K (a.put o.dst (.slice (some ⟨w.heap.size,0,none⟩) n n)) w') :
  if Region.wanted o (yielded ops a.tmps)=true then Oper.wp Tryz.prog o a w K Q else E:=by
 obtain⟨i,hi,hz0,hz1,hz2⟩:=info_parts h2
 obtain⟨w',hrun,r1,r2⟩:=run_make_full (P:=Tryz.prog) w B t e i z 1 h1 hi hz0 hz1 .i64 .i64 n (by rw[hz2];exact hbytes) (by simp only[maxLen];omega) hB
 rw[hz,Nat.mul_one,toList_madeCells_one]at r1
 have h:=hK w' r1 r2 (hb.grown r2 hB (fun k hk=>by cases hk))
 subst hL
 subst hC
 rw[if_pos (by simp[Region.wanted,hg])]
 unfold Oper.wp
 simp[execOp,hop,hl,hc,hrun,Result.andThen]
 exact h
theorem Box.set3 {w:World}{b ty:Nat}{u0 u1 u2:Value}(h:Box w b ty #[u0,u1,u2])(v0 v1 v2:Value):Box (((w.setCell ⟨b,0,none⟩ v0).setCell ⟨b,1,none⟩ v1).setCell ⟨b,2,none⟩ v2) b ty #[v0,v1,v2]:=by
 have:=((h.set 0 v0).set 1 v1).set 2 v2
 simpa using this
theorem Zaj {B b:Nat}{w0 w:World}(h:Below B w0 w)(hb:B≤b)(v0 v1 v2:Value):Below B w0 (((w.setCell ⟨b,0,none⟩ v0).setCell ⟨b,1,none⟩ v1).setCell ⟨b,2,none⟩ v2) :=
 ((h.setCell hb _).setCell hb _).setCell hb _
structure Ziu (F:FuncId)(cap:Array Value)(w:World)(p:Int→Bool):Prop where
 enters:∀args w,(callFunc F args).run Tryz.prog w=.ok (.enter F args) w
 calls:∀x,Calls Tryz.prog F (#[.int .i64 x]++cap) w fun e w'=>e=.returned (.bool (p x))∧w=w'
theorem Zi4 {w:World}{A:Option Addr}{n c:Nat}{xs:List Int}{F:FuncId}{cap:Array Value}{p:Int→Bool}(h:Zam w A n c xs)(hp:Ziu F cap w p) :
  Calls Tryz.prog 161 #[.slice A n c,.func (.func F) #[] cap] w fun e w'=>e=.returned (.int .i64 (ZaT p xs))∧w=w':=by
 have hn:=h.small
 have henter:=hp.enters
 go_enter Tryz.func161,Tryz.ntmps161
 go_wp2
 go_loop [8] (fun i=>∃k:Nat,k≤n∧i=.int .i64 k∧Hid (∀j,j<k→∀y,xs[j]?=some y→p y=false)) (fun i=>n-(intOf i).toNat)
 case atStart=>exact⟨0,Nat.zero_le _,rfl,fun j hj=>absurd hj (by omega)⟩
 case round =>
  obtain⟨k,hk,rfl,hlow⟩:=hrel
  by_cases hlt:k<n
  ·obtain⟨b,off,x,rfl,hb,hx,hc⟩:=h.get hlt
   have hl:=h.len
   have hL:=Zaa hl
   clear hl
   by_cases hpx:p x=true
   ·have HP:=Zaa hpx
    clear hpx
    clear h
    go_wp2_with (refine(hp.calls x).mono ?_;rintro e w' ⟨rfl,rfl⟩;rw[HP.out])
    go_ret
    exact⟨Zap (ZaW hlow.out hx.out HP.out).symm,rfl⟩
   ·have HP:=Zaa (show p x=false by simpa using hpx)
    clear h hpx
    go_wp2_with (refine(hp.calls x).mono ?_;rintro e w' ⟨rfl,rfl⟩;rw[HP.out])
    go_round
    case rel =>
     refine⟨k+1,by omega,by go_num,fun j hj y hy=>?_⟩
     by_cases hjk:j=k
     ·subst hjk
      have:=hx.out
      rw[hy]at this
      injection this with this
      rw[this]
      exact HP.out
     ·exact hlow.out j (by omega) y hy
    case measure=>simp[intOf];omega
  ·have hL:=Zaa h.len
   go_wp2
   go_ret
   exact⟨Zap (ZaX (fun j hj y hy=>hlow.out j (by have:=hL.out;omega) y hy)).symm,rfl⟩
theorem Zbg {w:World}{A:Option Addr}{n c:Nat}{xs:List Int}{F:FuncId}{cap:Array Value}{p:Int→Bool}(h:Zam w A n c xs)(hp:Ziu F cap w p) :
  Calls Tryz.prog 103 #[.slice A n c,.func (.func F) #[] cap] w fun e w'=>e=.returned (.bool (xs.any p))∧w=w':=by
 go_enter Tryz.func103,Tryz.ntmps103
 go_wp2_with (refine(Zi4 h hp).mono ?_;rintro e w' ⟨rfl,rfl⟩)
 go_ret
 exact⟨Zav (Zb7 _ _),rfl⟩
theorem Zow (w:World):Ziu 164 #[] w Ztx where
 enters:=fun args w=>by kernel_rfl
 calls:=fun x=>by
  go_enter Tryz.func164,Tryz.ntmps164
  go_wp2
  all_goals
   go_ret
   exact⟨Zav (by simp[Ztx];try omega),rfl⟩
theorem Zbx {w:World}{A:Option Addr}{n c:Nat}{xs:List Int}(h:Zam w A n c xs) :
  Calls Tryz.prog 115 #[.slice A n c] w fun e w'=>e=.returned (.bool (Zal xs))∧w=w':=by
 go_enter Tryz.func115,Tryz.ntmps115
 go_wp2_with (refine(Zbg h (Zow w)).mono ?_;rintro e w' ⟨rfl,rfl⟩)
 go_ret
 exact⟨rfl,rfl⟩
theorem Zde {w:World}{A:Option Addr}{n c:Nat}{xs:List Int}(h:Zam w A n c xs)(p:Nat) :
  Calls Tryz.prog 65 #[.slice A n c,.int .i64 p] w fun e w'=>e=.returned (.int .i64 (atL xs p))∧w=w':=by
 have hn:=h.small
 by_cases hlt:p<n
 ·obtain⟨b,off,x,rfl,hb,hx,hc⟩:=h.get hlt
  clear h
  go_enter Tryz.func65,Tryz.ntmps65
  go_wp2
  go_ret
  exact⟨Zap (Zda hx.out).symm,rfl⟩
 ·have hL:=Zaa h.len
  clear h
  go_enter Tryz.func65,Tryz.ntmps65
  go_wp2
  go_ret
  exact⟨Zap (Zdb (by have:=hL.out;omega)).symm,rfl⟩
theorem ZbL {w:World}{A B:Option Addr}{n c m d:Nat}{xs ys:List Int}(h:Zam w A n c xs)(g:Zam w B m d ys) :
  Calls Tryz.prog 31 #[.slice A n c,.slice B m d] w fun e w'=>e=.returned (.bool (ZaU xs ys))∧w=w':=by
 have hn:=h.small
 have hm:=g.small
 obtain⟨M,hM⟩:∃M:Nat,max n m=M:=⟨_,rfl⟩
 have hMb:M≤281474976710656:=by omega
 have hmx:max (n:Int) (m:Int)=(M:Int):=by omega
 have HM:=Zaa hM
 clear hM
 go_enter Tryz.func31,Tryz.ntmps31
 go_wp2
 clear hmx
 go_loop [11] (fun i=>∃k:Nat,k≤M∧i=.int .i64 k∧Hid (∀j,j<k→atL ys j≤atL xs j)) (fun i=>M-(intOf i).toNat)
 case atStart=>exact⟨0,Nat.zero_le _,rfl,fun j hj=>absurd hj (by omega)⟩
 case round =>
  obtain⟨k,hk,rfl,hlow⟩:=hrel
  by_cases hlt:k<M
  ·by_cases hc:atL xs k<atL ys k
   ·go_wp2_with (first|((with_reducible refine(Zde h k).mono ?_);rintro e w' ⟨rfl,rfl⟩)|((with_reducible refine(Zde g k).mono ?_);rintro e w' ⟨rfl,rfl⟩))
    go_ret
    exact⟨Zav (ZiZ hc).symm,rfl⟩
   ·go_wp2_with (first|((with_reducible refine(Zde h k).mono ?_);rintro e w' ⟨rfl,rfl⟩)|((with_reducible refine(Zde g k).mono ?_);rintro e w' ⟨rfl,rfl⟩))
    go_round
    case rel =>
     refine⟨k+1,by omega,by go_num,fun j hj=>?_⟩
     by_cases hjk:j=k
     ·subst hjk;omega
     ·exact hlow.out j (by omega)
    case measure=>simp[intOf];omega
  ·have hL:=Zaa h.len
   have gL:=Zaa g.len
   go_wp2
   go_ret
   refine⟨Zav ?_,rfl⟩
   symm
   rw[Ze6]
   intro p hp
   exact hlow.out p (by have:=hL.out;have:=gL.out;have:=HM.out;omega)
structure Zr8 (F:FuncId)(f:Int→Int→Int×Int)(E:Int):Prop where
 enters:∀args w,(callFunc F args).run Tryz.prog w=.ok (.enter F args) w
 calls:∀x y w,0≤x→x≤1000000→0≤y→y≤1000000→Calls Tryz.prog F #[.int .i64 x,.int .i64 y] w fun e w'=>e=.returned (.tuple #[.int .i64 (f x y).1,.int .i64 (f x y).2])∧w=w'
 err:∀x y,(f x y).2=0∨(f x y).2=E
 ne:0<E
def Zbn (w:World)(C:Option Addr):Prop:=∀a,C=some a→w.heap.size≤a.block
theorem Zbn.none {w:World}:Zbn w none:=fun _ h=>by cases h
theorem Zbn.at {w:World}{b off:Nat}{s:Option Nat}(h:w.heap.size≤b):Zbn w (some ⟨b,off,s⟩):=fun a e=>by injection e with e;subst e;exact h
theorem Zbn.mono {w w':World}{C:Option Addr}(h:Zbn w' C)(hs:w.heap.size≤w'.heap.size):Zbn w C:=fun a e=>Nat.le_trans hs (h a e)
set_option maxHeartbeats 400000 in
theorem ZjV {w:World}{A B:Option Addr}{n c m d:Nat}{xs ys:List Int}(h:Zam w A n c xs)(g:Zam w B m d ys){F:FuncId}{f:Int→Int→Int×Int}{E:Int}(hf:Zr8 F f E)(hM8:max n m*8≤140737488355328) :
  Calls Tryz.prog 116 #[.slice A n c,.slice B m d,.func (.func F) #[] #[]] w fun e w'=>∃C l k,e=.returned (.tuple #[.slice C l k,.int .i64 (Zmk f E xs ys).2])∧Zam w' C l k (Zmk f E xs ys).1∧Below w.heap.size w w'∧Zbn w C:=by
 have hn:=h.small
 have hm:=g.small
 obtain⟨M,hM⟩:∃M:Nat,max n m=M:=⟨_,rfl⟩
 have hMb:M≤281474976710656:=by omega
 have hM8':M*8≤140737488355328:=by omega
 have hmx:max (n:Int) (m:Int)=(M:Int):=by omega
 have hlen:max xs.length ys.length=M:=by rw[h.len,g.len,hM]
 have HL:=Zaa hlen
 clear hM hM8 hlen
 cases hx:Zal xs
 ·have H0:=Zaa hx
  have FIN:=Zaa (show Zmk f E xs ys=([],2)from by rw[Zmk,if_neg (by rw[hx];simp)])
  clear hx hmx
  go_enter Tryz.func116,Tryz.ntmps116
  go_wp2_with ((with_reducible refine(Zbx h).mono ?_);rintro e w' ⟨rfl,rfl⟩;rw[H0.out])
  go_ret2
  exact⟨none,0,0,by rw[FIN.out];rfl,by rw[FIN.out];exact Sl.nil0,Below.refl _ _,Zbn.none⟩
 ·cases hy:Zal ys
  ·have H0:=Zaa hx
   have H1:=Zaa hy
   have FIN:=Zaa (show Zmk f E xs ys=([],2)from by rw[Zmk,if_neg (by rw[hy];simp)])
   clear hx hy hmx
   go_enter Tryz.func116,Tryz.ntmps116
   go_wp2_with fail
   refine(Zbx h).mono ?_;rintro e w' ⟨rfl,rfl⟩;rw[H0.out]
   go_wp2_with fail
   refine(Zbx g).mono ?_;rintro e w' ⟨rfl,rfl⟩;rw[H1.out]
   go_wp2
   go_ret2
   exact⟨none,0,0,by rw[FIN.out];rfl,by rw[FIN.out];exact Sl.nil0,Below.refl _ _,Zbn.none⟩
  ·have H0:=Zaa hx
   have H1:=Zaa hy
   clear hx hy
   go_enter Tryz.func116,Tryz.ntmps116
   go_wp2_with fail
   refine(Zbx h).mono ?_;rintro e w' ⟨rfl,rfl⟩;rw[H0.out]
   go_wp2_with fail
   refine(Zbx g).mono ?_;rintro e w' ⟨rfl,rfl⟩;rw[H1.out]
   go_wp2_with (at_make;refine ZcU Tryz.underlying28 Ze7 rfl rfl _ _ rfl M rfl rfl rfl rfl hMb (by omega) (Below.refl _ _) (Nat.le_refl _) ?_;intro w1 own1 hg1 hb1)
   clear hmx
   have hg:=w.heap.size
   go_loopw [28] (fun i wr=>∃k:Nat,k≤M∧i=.int .i64 k∧wr.ownsRow w.heap.size 3 1 (.slice (some ⟨w.heap.size,0,none⟩) M M) M (((ZjK f xs ys).take k++List.replicate (M-k) 0).map (Value.int .i64))∧Below w.heap.size w wr∧Hid (∀j,j<k→(f (atL xs j) (atL ys j)).2=0)) (fun i _=>M-(intOf i).toNat)
   case atStart=>exact⟨0,Nat.zero_le _,rfl,by simpa using own1,hb1,fun j hj=>absurd hj (by omega)⟩
   case round =>
    obtain⟨k,hk,rfl,own,hb,hok⟩:=hrel
    by_cases hlt:k<M
    ·have b1:=ZaZ H0.out k
     have b2:=ZaZ H1.out k
     have h':=h.keep hb
     have g':=g.keep hb
     have hcell:∃u,wr.cell? ⟨w.heap.size,k,none⟩=some u:=by
      have hl:(((ZjK f xs ys).take k++List.replicate (M-k) 0).map (Value.int .i64)).length=M:=by simpa using own.1
      exact⟨_,(own.cellAt k (by omega)).trans (List.getElem?_eq_getElem (by omega))⟩
     obtain⟨u,hcell⟩:=hcell
     have hfz:wr.frozen? ⟨w.heap.size,k,none⟩=false:=own.frozenAt k
     have hst:=own.stored k (.int .i64 (f (atL xs k) (atL ys k)).1)
     have HST:=Zaa hst
     have hent:=hf.enters
     have hcl:=hf.calls
     have HC:=Zaa hcl
     clear h g hst hcl own
     rcases hf.err (atL xs k) (atL ys k)with he|he
     ·have HE:=Zaa he
      clear he
      go_wp2_with (first
       |((with_reducible refine(Zde h' k).mono ?_);rintro e w' ⟨rfl,rfl⟩)
       |((with_reducible refine(Zde g' k).mono ?_);rintro e w' ⟨rfl,rfl⟩)
       |(refine(HC.out _ _ _ b1.1 b1.2 b2.1 b2.2).mono ?_;rintro e w' ⟨rfl,rfl⟩;rw[HE.out]))
      go_roundw
      case rel =>
       refine⟨k+1,by omega,by go_num, ?_,hb.setCell (Nat.le_refl _) _,fun j hj=>?_⟩
       ·have:=HST.out.1
        have e:((((ZjK f xs ys).take k++List.replicate (M-k) 0).map (Value.int .i64)).set k (.int .i64 (f (atL xs k) (atL ys k)).1))=(((ZjK f xs ys).take (k+1)++List.replicate (M-(k+1)) 0).map (Value.int .i64)):=by
         have hz:(ZjK f xs ys).length=M:=by rw[Zg7,HL.out]
         rw[ZaK (Zqs (by rw[HL.out];exact hlt)),←List.map_set]
         congr 1
         rw[List.set_append_right _ _ (by simp;omega)]
         have hm:k-(List.take k (ZjK f xs ys)).length=0:=by simp;omega
         rw[hm]
         obtain⟨q,hq⟩:∃q,M-k=q+1:=⟨M-k-1,by omega⟩
         rw[hq,List.replicate_succ,show M-(k+1)=q from by omega]
         simp
        rw[e]at this
        exact this
       ·by_cases hjk:j=k
        ·subst hjk;exact HE.out
        ·exact hok.out j (by omega)
      case measure=>simp[intOf];omega
     ·have HE:=Zaa he
      have hE:=hf.ne
      have hE0:¬E=0:=by omega
      have FIN:=Zaa (show Zmk f E xs ys=([],E)from by rw[Zmk,if_pos ⟨H0.out,H1.out⟩,Zg8 (p:=k) (by rw[HL.out];exact hlt) (by rw[he];exact hE0)];rfl)
      clear he hok hf
      go_wp2_with (first
       |((with_reducible refine(Zde h' k).mono ?_);rintro e w' ⟨rfl,rfl⟩)
       |((with_reducible refine(Zde g' k).mono ?_);rintro e w' ⟨rfl,rfl⟩)
       |(refine(HC.out _ _ _ b1.1 b1.2 b2.1 b2.2).mono ?_;rintro e w' ⟨rfl,rfl⟩;rw[HE.out]))
      go_ret2
      exact⟨none,0,0,by rw[FIN.out];rfl,by rw[FIN.out];exact Sl.nil0,hb,Zbn.none⟩
    ·obtain rfl:k=M:=by omega
     have hall:=Zaa (show Zmk f E xs ys=(ZjK f xs ys,0)from by rw[Zmk,if_pos ⟨H0.out,H1.out⟩,if_pos (Zg9 (fun p hp=>hok.out p (by rw[HL.out]at hp;exact hp)))])
     have hfull:=Zaa (show(ZjK f xs ys).take k++List.replicate (k-k) 0=ZjK f xs ys from by rw[Nat.sub_self,List.replicate_zero,List.append_nil];exact List.take_of_length_le (by rw[Zg7,HL.out];exact Nat.le_refl _))
     have ownH:=Zaa own
     clear own hok
     go_wp2
     go_ret2
     have own2:=ownH.out
     rw[hfull.out]at own2
     obtain⟨C,cc,hv,hi⟩:=Zam.of_own own2 hMb
     injection hv with hC hk' hc
     subst hC hc
     exact⟨_,_,_,by rw[hall.out];rfl,by rw[hall.out];exact hi,hb,Zbn.at (Nat.le_refl _)⟩
theorem Zox:Zr8 118 Zh7 4 where
 enters:=fun args w=>by kernel_rfl
 calls:=fun x y w h1 h2 h3 h4=>by
  by_cases hc:1000000<x+y
  ·go_enter Tryz.func118,Tryz.ntmps118
   go_wp2
   go_ret2
   exact⟨by unfold Zh7;rw[if_pos hc];rfl,rfl⟩
  ·go_enter Tryz.func118,Tryz.ntmps118
   go_wp2
   go_ret2
   exact⟨by unfold Zh7;rw[if_neg (by omega)];rfl,rfl⟩
 err:=fun x y=>by unfold Zh7;split <;> simp
 ne:=by decide
theorem Zm8:Zr8 117 ZeR 3 where
 enters:=fun args w=>by kernel_rfl
 calls:=fun x y w h1 h2 h3 h4=>by
  by_cases hc:x<y
  ·go_enter Tryz.func117,Tryz.ntmps117
   go_wp2
   go_ret2
   exact⟨by unfold ZeR;rw[if_pos hc];rfl,rfl⟩
  ·go_enter Tryz.func117,Tryz.ntmps117
   go_wp2
   go_ret2
   exact⟨by unfold ZeR;rw[if_neg (by omega)];rfl,rfl⟩
 err:=fun x y=>by unfold ZeR;split <;> simp
 ne:=by decide
def Zr9 (p:List Int×Int)(w:World)(e:Ending)(w':World):Prop :=
 ∃C l k,e=.returned (.tuple #[.slice C l k,.int .i64 p.2])∧Zam w' C l k p.1∧Below w.heap.size w w'
def Zgp (p:List Int×Int)(w:World)(e:Ending)(w':World):Prop :=
 ∃C l k,e=.returned (.tuple #[.slice C l k,.int .i64 p.2])∧Zam w' C l k p.1∧Below w.heap.size w w'∧Zbn w C
theorem Zgp.ie {p:List Int×Int}{w w':World}{e:Ending}:Zgp p w e w'→Zr9 p w e w':=fun⟨C,l,k,h1,h2,h3,_⟩=>⟨C,l,k,h1,h2,h3⟩
theorem Ze9 {w:World}{A B:Option Addr}{n c m d:Nat}{xs ys:List Int}(h:Zam w A n c xs)(g:Zam w B m d ys)(hM8:max n m*8≤140737488355328) :
  Calls Tryz.prog 77 #[.slice A n c,.slice B m d] w (Zgp (Zi1 xs ys) w):=by
 go_enter Tryz.func77,Tryz.ntmps77
 go_wp2_with fail
 refine(ZjV h g Zox hM8).mono ?_
 rintro e w' ⟨C,l,k,rfl,hi,hb,hf⟩
 have HF:=Zaa hf
 clear hf
 go_wp2
 go_ret2
 rw[ZjN]at hi
 exact⟨C,l,k,by rw[←ZjN];rfl,hi,hb,HF.out⟩
theorem Zgq {w:World}{A B:Option Addr}{n c m d:Nat}{xs ys:List Int}(h:Zam w A n c xs)(g:Zam w B m d ys)(hM8:max n m*8≤140737488355328) :
  Calls Tryz.prog 75 #[.slice A n c,.slice B m d] w (Zgp (Zgm xs ys) w):=by
 go_enter Tryz.func75,Tryz.ntmps75
 go_wp2_with fail
 refine(ZjV h g Zm8 hM8).mono ?_
 rintro e w' ⟨C,l,k,rfl,hi,hb,hf⟩
 have HF:=Zaa hf
 clear hf
 go_wp2
 go_ret2
 rw[Zit]at hi
 exact⟨C,l,k,by rw[←Zit];rfl,hi,hb,HF.out⟩
theorem Zlh {w:World}{A B:Option Addr}{n c m d:Nat}{xs ys:List Int}(h:Zam w A n c xs)(g:Zam w B m d ys)(hM8:max n m*8≤140737488355328) :
  Calls Tryz.prog 75 #[.slice A n c,.slice B m d] w (Zr9 (Zgm xs ys) w):=(Zgq h g hM8).mono fun _ _=>Zgp.ie
def Drew (w w':World):Prop:=∃k,w'=w.drewN k
theorem Drew.below {w w':World}(h:Drew w w'):Below w.heap.size w w':=by
 obtain⟨k,rfl⟩:=h
 exact⟨rfl,rfl,rfl,Nat.le_refl _,fun _ _=>rfl⟩
theorem Drew.drewN (w:World)(k:Nat):Drew w (w.drewN k):=⟨k,rfl⟩
theorem Zoy {P:Program}{f:FuncId}{args:Array Value}{w:World}{n:Nat}{v:Value}(h:Calls P f args (w.drewN n) fun e w'=>e=.returned v∧w.drewN n=w') :
  Calls P f args (w.drewN n) fun e w''=>e=.returned v∧∃m,w''=w.drewN m :=
 h.mono fun _ _ hh=>⟨hh.1,n,hh.2.symm⟩
theorem Za9 {w:World}{A B:Option Addr}{n c m d:Nat}{xs ys:List Int}(h:Zam w A n c xs)(g:Zam w B m d ys) :
  Calls Tryz.prog 8 #[.slice A n c,.slice B m d] w fun e w'=>e=.returned (.bool (xs==ys))∧Drew w w':=by
 have hn:=h.small
 have hm:=g.small
 have HL:=Zaa h.len
 have GL:=Zaa g.len
 by_cases hnm:n=m
 ·subst hnm
  go_enter Tryz.func8,Tryz.ntmps8
  go_wp2
  go_loopw [13] (fun i wr=>∃k:Nat,k≤n∧i=.int .i64 k∧Hid (∀j,j<k→xs[j]?=ys[j]?)∧∃q,wr=w.drewN q) (fun i _=>n-(intOf i).toNat)
  case atStart=>exact⟨0,Nat.zero_le _,rfl,fun j hj=>absurd hj (by omega),0,rfl⟩
  case round =>
   obtain⟨k,hk,rfl,hlow,q,rfl⟩:=hrel
   by_cases hlt:k<n
   ·obtain⟨b,off,x,rfl,hb,hx,hc⟩:=h.get hlt
    obtain⟨b',off',y,rfl,hb',hy,hc'⟩:=g.get hlt
    clear h g
    have hi:(k:Int)<(n:Int):=by omega
    by_cases hxy:x=y
    ·subst hxy
     go_wp2
     go_quiet (fail)
     go_wp2
     go_roundw
     case rel =>
      refine⟨k+1,by omega,by go_num,fun j hj=>?_,_,rfl⟩
      by_cases hjk:j=k
      ·subst hjk;rw[hx.out,hy.out]
      ·exact hlow.out j (by omega)
     case measure=>simp[intOf];omega
    ·have hne:(x != y)=true:=by simpa using hxy
     have HN:=Zaa hxy
     clear hxy
     go_wp2
     go_quiet (fail)
     go_wp2
     go_ret
     refine⟨Zav ?_,_,World.drewN_drewN _ _ _⟩
     symm
     rw[beq_eq_false_iff_ne]
     intro e
     have h1:=hx.out
     rw[e,hy.out]at h1
     injection h1 with h1
     exact HN.out h1.symm
   ·clear h g
    go_wp2
    go_ret
    refine⟨Zav ?_,_,rfl⟩
    symm
    rw[beq_iff_eq]
    apply List.ext_getElem?
    intro j
    by_cases hj:j<k
    ·exact hlow.out j hj
    ·rw[List.getElem?_eq_none (by have:=HL.out;omega),List.getElem?_eq_none (by have:=GL.out;omega)]
 ·clear h g
  have hne:((n:Int) !=(m:Int))=true:=by simp;omega
  have HN:=Zaa hnm
  clear hnm
  go_enter Tryz.func8,Tryz.ntmps8
  go_wp2
  go_ret
  refine⟨Zav ?_,0,rfl⟩
  symm
  rw[beq_eq_false_iff_ne]
  intro e
  have:=HL.out
  have:=GL.out
  exact HN.out (by rw[e]at *;omega)
theorem ZjW (w:World):Ziu 102 #[] w Zm1 where
 enters:=fun args w=>by kernel_rfl
 calls:=fun x=>by
  go_enter Tryz.func102,Tryz.ntmps102
  go_wp2
  all_goals
   go_ret
   exact⟨Zav (by simp[Zm1];try omega),rfl⟩
set_option maxHeartbeats 1000000 in
theorem Za5 (w:World)(P:Int)(A:Option Addr)(n c:Nat)(ts:List Zak)(h:ZaP w A n c ts) :
  Calls Tryz.prog 56 #[.agg #[.int .i64 P,.slice A n c]] w fun e w'=>e=.returned (.int .i64 (Zcc ⟨P,ts⟩))∧Below w.heap.size w w':=by
 have hn:=h.small
 have HL:=Zaa h.len
 have boxB:∀o,Below w.heap.size w (w.alloc o):=fun o=>(Below.refl _ _).alloc (Nat.le_refl _) _
 have BB:=Zaa boxB
 clear boxB
 by_cases g0:P<0∨16<P∨24<n
 ·have FIN:=Zaa (show Zcc ⟨P,ts⟩=2 from Zb8 (Zoo (by have:=HL.out;simp only[];omega)))
  clear h
  rcases g0 with g0|g0|g0
  all_goals
   go_enter Tryz.func56,Tryz.ntmps56
   go_wp2
   all_goals
    go_ret
    exact⟨Zap FIN.out.symm,BB.out _⟩
 ·have g1:0≤P:=by omega
  have g2:P≤16:=by omega
  have g3:n≤24:=by omega
  clear g0
  go_enter Tryz.func56,Tryz.ntmps56
  go_wp2
  go_loopw [23] (fun i wr=>∃k:Nat,k≤n∧i=.int .i64 k∧Below (w.heap.size+1) (w.alloc (.cells #[.int .i64 P,.slice A n c] 24)) wr∧Hid (∀(j:Nat) (t:Zak),j<k→ts[j]?=some t→ZeS P t=true)) (fun i _=>n-(intOf i).toNat)
  case atStart=>exact⟨0,Nat.zero_le _,rfl,Below.refl _ _,fun j t hj=>absurd hj (by omega)⟩
  case round =>
   obtain⟨k,hk,rfl,hb,hok⟩:=hrel
   have hbw:Below w.heap.size w wr:=(BB.out _).trans (hb.mono (by simp))
   by_cases hlt:k<n
   ·obtain⟨b,off,t,A1,n1,c1,A2,n2,c2,rfl,hbl,ht,q0,q1,q2,i1,i2,m1,m2⟩:=ZaP.get (h.keep hbw) hlt
    have hc0:wr.cell? ⟨w.heap.size,0,none⟩=some (.int .i64 P):=(hb.cell (by simp)).trans (by simp)
    have hc1:wr.cell? ⟨w.heap.size,1,none⟩=some (.slice (some ⟨b,off,none⟩) n c):=(hb.cell (by simp)).trans (by simp)
    have hsz:w.heap.size<wr.heap.size:=by have:=hb.size;simp at this;omega
    have FIN:=Zaa (show ZeS P t=false→Zcc ⟨P,ts⟩=2 from fun hf=>Zb8 (Zh8 ht.out hf))
    have L1:=Zaa i1.len
    have L2:=Zaa i2.len
    have hal:∀o,Below wr.heap.size wr (wr.alloc o):=fun o=>(Below.refl _ _).alloc (Nat.le_refl _) _
    have HAL:=Zaa hal
    have HBW:=Zaa hbw
    have HB:=Zaa hb
    have I1:=Zaa i1
    have I2:=Zaa i2
    clear h i1 i2 hal hb hbw
    have NO:=Zaa (show(t.label<0∨26<t.label∨¬(n1:Int)=P∨¬(n2:Int)=P)→Zcc ⟨P,ts⟩=2 from fun p0=>FIN.out (by
      cases hc:ZeS P t
      ·rfl
      ·have:=(ZbQ P t).1 hc
       have:=L1.out
       have:=L2.out
       omega))
    go_wp2_with fail
    all_goals
     first
     |(go_ret;exact⟨Zap (NO.out (by omega)).symm,HBW.out.trans ((HAL.out _).mono HBW.out.size)⟩)
     | skip
    have e1:(n1:Int)=P:=by assumption
    have e2:(n2:Int)=P:=by assumption
    have l1:0≤t.label:=by assumption
    have l2:t.label≤26:=by assumption
    refine(Zbg (I1.out.keep (HAL.out _)) (ZjW _)).mono ?_
    rintro e w' ⟨rfl,rfl⟩
    cases a1:t.pre.any Zm1
    ·have A1':=Zaa a1
     clear a1
     go_wp2_with fail
     refine(Zbg (I2.out.keep (HAL.out _)) (ZjW _)).mono ?_
     rintro e w' ⟨rfl,rfl⟩
     cases a2:t.post.any Zm1
     ·have A2':=Zaa a2
      clear a2
      have E1:=Zaa e1
      have E2:=Zaa e2
      go_wp2
      go_roundw
      case rel =>
       refine⟨k+1,by omega,by go_num, ?_,fun j t' hj ht'=>?_⟩
       ·exact HB.out.trans ((HAL.out _).mono (by have:=HB.out.size;simpa using this))
       ·by_cases hjk:j=k
        ·subst hjk
         have:=ht.out
         rw[ht']at this
         injection this with this
         subst this
         rw[ZbQ]
         exact⟨l1,l2,by rw[L1.out];exact E1.out,by rw[L2.out];exact E2.out,A1'.out,A2'.out⟩
        ·exact hok.out j t' (by omega) ht'
      case measure=>simp[intOf];omega
     ·have NO2:=Zaa (show Zcc ⟨P,ts⟩=2 from FIN.out (by
       cases hc:ZeS P t
       ·rfl
       ·have:=((ZbQ P t).1 hc).2.2.2.2.2
        rw[a2]at this;cases this))
      clear a2
      go_wp2
      go_ret
      exact⟨Zap NO2.out.symm,HBW.out.trans ((HAL.out _).mono HBW.out.size)⟩
    ·have NO2:=Zaa (show Zcc ⟨P,ts⟩=2 from FIN.out (by
      cases hc:ZeS P t
      ·rfl
      ·have:=((ZbQ P t).1 hc).2.2.2.2.1
       rw[a1]at this;cases this))
     clear a1
     go_wp2
     go_ret
     exact⟨Zap NO2.out.symm,HBW.out.trans ((HAL.out _).mono HBW.out.size)⟩
   ·have FIN:=Zaa (show Zcc ⟨P,ts⟩=0 from ZcT ((Zar _).2 ⟨g1,g2,by have:=HL.out;simp only[];omega,Zm3.2 (fun j t hj=>hok.out j t (by have:=HL.out;have:=(List.getElem?_eq_some_iff.1 hj).1;simp only[]at this;omega) hj)⟩))
    have HBW:=Zaa hbw
    clear h hb hbw
    go_wp2
    go_ret
    exact⟨Zap FIN.out.symm,HBW.out⟩
end Go.Proofs.YtfmnagcglhlicaaGreat
