/- Texts melted into one: Rows of lists whose cells stand at the head of blocks of integers, of the call's own or longer: read, laid anew. Conditions: none; plain lemmas on memory. | The contra -/
import Derived.Test.YtfmnagcglhlicaaGreatTopCrashK20
import Derived.Shelf.Sort.Plain
import Derived.Shelf.Slices.In.SortNone
import Derived.Test.YtfmnagcglhlicaaGreatTopCrashK21
import Derived.Maps.RangeWalk
import Derived.Sort.OwnSorted
set_option maxRecDepth 100000
set_option maxHeartbeats 1000000
namespace Go.Proofs.YtfmnagcglhlicaaGreat
open Go.RowKit
theorem Sl.tail1 {α:Type}{R:World→(Nat→Value)→α→Prop}{w:World}{b off n c:Nat}{x:α}{xs:List α}(h:Sl R 1 w (some ⟨b,off,none⟩) n c (x::xs)) :
  Sl R 1 w (if c=1 then some ⟨b,off,none⟩else some ⟨b,off+1,none⟩) (n-1) (c-1) xs:=by
 have hl:=h.len;simp at hl;refine⟨by omega,by have:=h.le;omega,by have:=h.cap;omega,by have:=h.small;omega,fun hn=>?_,fun hn=>?_⟩
 ·split at hn <;> cases hn
 ·have hc:c≠1:=by have:=h.le;omega
  rw[if_neg hc];obtain⟨b',off',e,hb,hcell⟩:=h.cells (by omega);injection e with e;injection e with e1 e2 _;subst e1 e2;refine⟨b,off+1,rfl,hb,fun i y hy=>?_⟩;obtain⟨vs,h1,h2⟩:=hcell (i+1) y (by simpa using hy);refine⟨vs,fun j hj=>?_,h2⟩;have:=h1 j hj;rw[show off+((i+1)*1+j)=off+1+(i*1+j)from by omega]at this;exact this
structure tB (w:World)(g n cap:Nat)(xs:LIn):Prop where
 len:xs.length=n
 le:n≤cap
 cap:cap≤maxLen
 blk:∃cur,w.heap[g]?=some (.cells cur 3 (0,0))∧cur.toList.take n=xs.map (Value.int .i64)
section
variable {w w':World} {g n cap:Nat} {xs:LIn}
theorem tB.lt (h:tB w g n cap xs):g<w.heap.size:=by
 obtain⟨cur,hb,_⟩:=h.blk;exact(Array.getElem?_eq_some_iff.1 hb).1
theorem tB.cell (h:tB w g n cap xs){i:Nat}{x:Int}(hx:xs[i]?=some x):w.cell? ⟨g,i,none⟩=some (.int .i64 x):=by
 obtain⟨cur,hb,ht⟩:=h.blk;have hi:i<n:=by rw[←h.len];exact(List.getElem?_eq_some_iff.1 hx).1
 have h1:(cur.toList.take n)[i]?=(xs.map (Value.int .i64))[i]?:=by rw[ht]
 rw[List.getElem?_take_of_lt hi,List.getElem?_map,hx]at h1;simp only[World.cell?,hb];simp only[Option.isSome_none,Bool.false_eq_true,if_false];rw[←Array.getElem?_toList,h1];rfl
theorem tB.ints (h:tB w g n cap xs)(hn:n≤281474976710656):aJ w (some ⟨g,0,none⟩) n cap xs :=
 ⟨h.len,h.le,h.cap,hn,fun e=>(by cases e),fun _=>⟨g,0,rfl,h.lt,fun i x hx=>⟨fun _=>.int .i64 x,fun j hj=>by
  obtain rfl:j=0:=by omega
  rw[show 0+(i*1+0)=i by omega];exact h.cell hx,rfl⟩⟩⟩
theorem tB.same (h:tB w g n cap xs)(hb:w'.heap[g]?=w.heap[g]?):tB w' g n cap xs:=by
 obtain⟨cur,h1,h2⟩:=h.blk;exact⟨h.len,h.le,h.cap,cur,hb.trans h1,h2⟩
theorem tB.kept (h:tB w g n cap xs){row:Option Nat}(hg:w.grownBy w' row)(hne:row≠some g):tB w' g n cap xs:=h.same (hg.block g h.lt (Ne.symm hne))
theorem tB.keep (h:tB w g n cap xs)(hb:Below w.heap.size w w'):tB w' g n cap xs:=h.same (hb.block g h.lt)
theorem tB.of_own {B:Nat}(h:aD w B (.slice (some ⟨g,0,none⟩) n cap) n xs):tB w g n cap xs∧B≤g:=by
 have h3:=h.len;have h1:=h.row;rcases h1.2 with⟨e,_⟩|⟨g',cap',cur,e,hB,hb,a1,a2,a3,a4⟩
 ·cases e
 ·injection e with e1 _ e3;injection e1 with e1;injection e1 with e1;subst e1 e3;exact⟨⟨h3,a1,a2,cur,hb,by rw[Nat.mul_one]at a4;exact a4⟩,hB⟩
theorem tB.one {x:Int}(h:tB w g n cap (x::xs)):tB w g 1 1 [x]:=by
 obtain⟨cur,h1,h2⟩:=h.blk;refine⟨rfl,Nat.le_refl _,by simp[maxLen],cur,h1, ?_⟩;have hn:n=xs.length+1:=by rw[←h.len];rfl
 have h3:=congrArg (List.take 1) h2;rw[List.take_take,show min 1 n=1 by omega]at h3;simpa using h3
end
def ApR (P:Nat→Prop):World→(Nat→Value)→LIn→Prop:=fun w vs xs=>∃g n cap,vs 0=.slice (some ⟨g,0,none⟩) n cap∧tB w g n cap xs∧P g∧n≤17592186043904
theorem ApR.kept (P:Nat→Prop):t8 (ApR P):=fun _ _ _ _ hb ⟨g,n,cap,e,h,p,l⟩=>⟨g,n,cap,e,h.keep hb,p,l⟩
theorem ApR.list {P:Nat→Prop}{w:World}{vs:Nat→Value}{xs:LIn}(h:ApR P w vs xs):bH w vs xs:=by
 obtain⟨g,n,cap,e,h,p,l⟩:=h;exact⟨_,n,cap,e,h.ints (by omega),l⟩
theorem ApR.wide {P Q:Nat→Prop}{w:World}(hp:∀k,k<w.heap.size→P k→Q k){vs:Nat→Value}{xs:LIn}(h:ApR P w vs xs):ApR Q w vs xs:=by
 obtain⟨g,n,cap,e,h,p,l⟩:=h;exact⟨g,n,cap,e,h,hp g h.lt p,l⟩
theorem ApR.grown {P:Nat→Prop}{w w':World}{row:Option Nat}(hg:w.grownBy w' row)(hne:∀k,row=some k→¬P k){vs:Nat→Value}{xs:LIn}(h:ApR P w vs xs):ApR P w' vs xs:=by
 obtain⟨g,n,cap,e,h,p,l⟩:=h;exact⟨g,n,cap,e,h.kept hg (fun e=>hne g e p),p,l⟩
theorem ApR.grownRow {P:Nat→Prop}{w w':World}{B2 size n e:Nat}{v:Value}{cells:List Value}(hown:w.ownsRow B2 e size v n cells)(hne:3≠e)(hg:w.grownBy w' v.ownBlock){vs:Nat→Value}{xs:LIn}(h:ApR P w vs xs):ApR P w' vs xs:=by
 obtain⟨g,n,cap,ev,h,p,l⟩:=h;refine⟨g,n,cap,ev,h.kept hg (fun e=>?_),p,l⟩;obtain⟨cur,h1,_⟩:=h.blk;rcases hown.2 with⟨rfl,_⟩|⟨g',cap',cur',rfl,_,hb,_⟩
 ·cases e
 ·injection e with e;change g'=g at e
  subst e;rw[hb]at h1;injection h1 with h1;injection h1 with _ h1 _;exact hne h1.symm
abbrev Gf (w:World)(P:Nat→Prop)(B2:Nat)(v:Value)(n:Nat)(L:LLi):Prop:=aC (ApR P) 1 w B2 28 v n L
abbrev jT (w:World)(B B2:Nat)(v:Value)(n:Nat)(L:LLi):Prop:=Gf w (fun k=>B≤k) B2 v n L
def IsI (w:World)(P:Nat→Prop)(v:Value)(n:Nat)(xs:LIn):Prop:=∃g cap,v=.slice (some ⟨g,0,none⟩) n cap∧tB w g n cap xs∧P g
section
variable {w w':World} {P:Nat→Prop} {B B2 g n cap:Nat} {L:LLi}
theorem Gf.keep {v:Value}(h:Gf w P B2 v n L)(hb:Below w.heap.size w w'):Gf w' P B2 v n L:=aC.keep (ApR.kept _) h hb
theorem Gf.wide {Q:Nat→Prop}{v:Value}(hp:∀k,k<w.heap.size→P k→Q k)(h:Gf w P B2 v n L):Gf w Q B2 v n L:=by
 obtain⟨cells,h1,h2,h3⟩:=h;exact⟨cells,h1,⟨h2.1,fun i x hx=>by obtain⟨vs,a,r⟩:=h2.2 i x hx;exact⟨vs,a,r.wide hp⟩⟩,h3⟩
theorem Gf.grown {v:Value}(h:Gf w P B2 v n L){row:Option Nat}(hg:w.grownBy w' row)(hne:∀k,row=some k→¬P k)(hv:v.ownBlock=none∨v.ownBlock≠row):Gf w' P B2 v n L :=
 aC.kept h hg hv (fun _ _ hx=>hx.grown hg hne)
theorem jT.keep {v:Value}(h:jT w B B2 v n L)(hb:Below w.heap.size w w'):jT w' B B2 v n L:=aC.keep (ApR.kept _) h hb
theorem jT.lists {v:Value}(h:Gf w P B2 v n L)(hn:n≤5864062014805):∃A c,v=.slice A n c∧bT w A n c L:=by
 obtain⟨A,c,rfl,s⟩:=h.sl (by omega);exact⟨A,c,rfl,s.len,s.le,s.cap,s.small,s.nul,fun hn=>by
  obtain⟨b,off,e,hb,hx⟩:=s.cells hn;exact⟨b,off,e,hb,fun i x hi=>by obtain⟨vs,a,r⟩:=hx i x hi;exact⟨vs,a,r.list⟩⟩⟩
theorem jT.at (h:jT w B B2 (.slice (some ⟨g,0,none⟩) n cap) n L){j:Nat}{a:LIn}(ha:L[j]?=some a):∃A m c,w.cell? ⟨g,j,none⟩=some (.slice A m c)∧IsI w (fun k=>B≤k) (.slice A m c) m a∧m≤17592186043904:=by
 obtain⟨cells,h1,h2,h3⟩:=h;obtain⟨vs,e,b,m,c,ev,hm,hp,hl⟩:=h2.2 j a ha;have e0:=e 0 (by omega);rw[ev]at e0;have hj:j<n:=by rw[←h3];exact(List.getElem?_eq_some_iff.1 ha).1
 exact⟨_,m,c,by rw[h1.cellAt j (by omega)];simpa using e0,⟨b,c,rfl,hm,hp⟩,hl⟩
theorem jT.frozen (h:jT w B B2 (.slice (some ⟨g,0,none⟩) n cap) n L)(j:Nat):w.frozen? ⟨g,j,none⟩=false:=by
 obtain⟨cells,h1,_⟩:=h;exact h1.frozenAt j
theorem IsI.put {v u:Value}{m i:Nat}{x:LIn}(h:Gf w P B2 (.slice (some ⟨g,0,none⟩) n cap) n L)(o:IsI w P v m x):IsI (w.setCell ⟨g,i,none⟩ u) P v m x:=by
 obtain⟨cells,h1,_⟩:=h;obtain⟨b,c,e,hh,hp⟩:=o;have r:ApR (fun k=>k=b) w (fun _=>.slice (some ⟨b,0,none⟩) 0 c) []:=⟨b,0,c,rfl,⟨rfl,Nat.zero_le _,hh.cap,by obtain⟨cur,q,_⟩:=hh.blk;exact⟨cur,q,by simp⟩⟩,rfl,by omega⟩;have hg:=fW w g i u;by_cases e2:g=b
 ·subst e2;exfalso
  obtain⟨cur,q,_⟩:=hh.blk;rcases h1.2 with⟨e,_⟩|⟨g',cap',cur',e,_,hb,_⟩
  ·cases e
  ·injection e with e1;injection e1 with e1;injection e1 with e1;subst e1;rw[hb]at q;injection q with q;injection q with _ q _;exact absurd q (by decide)
 ·exact⟨b,c,e,hh.kept hg (fun e3=>e2 (by injection e3)),hp⟩
theorem nO {v:Value}{m:Nat}{x:LIn}(h:jT w B B2 (.slice (some ⟨g,0,none⟩) n cap) n L)(o:IsI w (fun k=>B≤k) v m x)(i:Nat)(u:Value):IsI (w.setCell ⟨g,i,none⟩ u) (fun k=>B≤k) v m x:=o.put h
theorem jT.put (h:jT w B B2 (.slice (some ⟨g,0,none⟩) n cap) n L)(i:Nat){v:Value}{m:Nat}{a:LIn}(hv:IsI w (fun k=>B≤k) v m a)(hm:m≤17592186043904):jT (w.setCell ⟨g,i,none⟩ v) B B2 (.slice (some ⟨g,0,none⟩) n cap) n (L.set i a):=by
 have hv2:=hv.put (i:=i) (u:=v) h;obtain⟨cells,h1,h2,h3⟩:=h;have hg:w.grownBy (w.setCell ⟨g,i,none⟩ v) (Value.slice (some ⟨g,0,none⟩) n cap).ownBlock:=⟨rfl,rfl,rfl,by simp[World.setCell],fun k _ hne=>heap_setCell_other _ _ _ _ (fun e=>hne (by rw[e];rfl))⟩;refine⟨_,(h1.stored i v).1,⟨by simpa using h2.1,fun k x hx=>?_⟩,by simpa using h3⟩;rw[List.getElem?_set]at hx;split at hx
 ·rename_i e
  subst e;split at hx
  ·rename_i hlt
   injection hx with hx;subst hx;obtain⟨b,c,e1,e2,e3⟩:=hv2;refine⟨fun _=>v,fun j hj=>?_,b,m,c,e1,e2,e3,hm⟩;obtain rfl:j=0:=by omega
   rw[List.getElem?_set,if_pos (by omega),if_pos (by have:=h2.1;omega)]
  ·cases hx
 ·rename_i hne
  obtain⟨vs,e,hR⟩:=h2.2 k x hx;refine⟨vs,fun j hj=>?_,ApR.grownRow h1 (by decide) hg hR⟩;rw[List.getElem?_set,if_neg (by omega)];exact e j hj
theorem jT.anyCell (h:jT w B B2 (.slice (some ⟨g,0,none⟩) n cap) n L){j:Nat}(hj:j<n):(w.cell? ⟨g,j,none⟩).isSome=true:=by
 obtain⟨A,m,c,e,_⟩:=h.at (j:=j) (List.getElem?_eq_getElem (by rw[h.len];exact hj));rw[e];rfl
theorem jT.ints {m c:Nat}{A:OAd}{a:LIn}(h:IsI w P (.slice A m c) m a)(hm:m≤17592186043904):aJ w A m c a:=by
 obtain⟨b,c',e,i,_⟩:=h;injection e with e1 _ e2;rw[e1,e2];exact i.ints (by omega)
theorem IsI.keep {v:Value}{a:LIn}(h:IsI w P v n a)(hb:Below w.heap.size w w'):IsI w' P v n a:=by
 obtain⟨b,c',e,i,p⟩:=h;exact⟨b,c',e,i.keep hb,p⟩
end
end Go.Proofs.YtfmnagcglhlicaaGreat
namespace Go.Proofs.YtfmnagcglhlicaaGreat
open Go.Shelf
def Gg:Go.Shelf.Ren:=⟨fun|189=>204|125=>217|257=>216|128=>232|129=>233|294=>223|295=>224|296=>225|297=>226|298=>227|299=>228|216=>229|300=>230|301=>231|328=>252|329=>253|330=>254|331=>255|332=>256|215=>251|343=>264|n=>n,fun|28=>28|3=>3|46=>210|0=>0|51=>284|53=>303|4=>4|183=>297|182=>296|131=>206|5=>5|9=>9|218=>314|222=>318|228=>324|229=>325|n=>n,fun|n=>n⟩
theorem UX:Go.Proofs.Lays.n189 Tryz.prog Gg:={
 mixed:=by kernel_rfl
 f125:=Tryz.func217.trans (congrArg some (by kernel_rfl))
 f128:=Tryz.func232.trans (congrArg some (by kernel_rfl))
 f129:=Tryz.func233.trans (congrArg some (by kernel_rfl))
 f189:=Tryz.func204.trans (congrArg some (by kernel_rfl))
 f215:=Tryz.func251.trans (congrArg some (by kernel_rfl))
 f216:=Tryz.func229.trans (congrArg some (by kernel_rfl))
 f257:=Tryz.func216.trans (congrArg some (by kernel_rfl))
 f294:=Tryz.func223.trans (congrArg some (by kernel_rfl))
 f295:=Tryz.func224.trans (congrArg some (by kernel_rfl))
 f296:=Tryz.func225.trans (congrArg some (by kernel_rfl))
 f297:=Tryz.func226.trans (congrArg some (by kernel_rfl))
 f298:=Tryz.func227.trans (congrArg some (by kernel_rfl))
 f299:=Tryz.func228.trans (congrArg some (by kernel_rfl))
 f300:=Tryz.func230.trans (congrArg some (by kernel_rfl))
 f301:=Tryz.func231.trans (congrArg some (by kernel_rfl))
 f328:=Tryz.func252.trans (congrArg some (by kernel_rfl))
 f329:=Tryz.func253.trans (congrArg some (by kernel_rfl))
 f330:=Tryz.func254.trans (congrArg some (by kernel_rfl))
 f331:=Tryz.func255.trans (congrArg some (by kernel_rfl))
 f332:=Tryz.func256.trans (congrArg some (by kernel_rfl))
 f343:=Tryz.func264.trans (congrArg some (by kernel_rfl))
 t0:=Tryz.underlying0
 a0:=Tryz.isAgg0
 z0:=Tryz.sizeOf0
 v0:=Tryz.zeroValue0
 t3:=Tryz.underlying3
 a3:=Tryz.isAgg3
 z3:=Tryz.sizeOf3
 v3:=Tryz.zeroValue3
 t4:=Tryz.underlying4
 a4:=Tryz.isAgg4
 z4:=Tryz.sizeOf4
 v4:=Tryz.zeroValue4
 t5:=Tryz.underlying5
 a5:=Tryz.isAgg5
 z5:=Tryz.sizeOf5
 v5:=Tryz.zeroValue5
 t9:=Tryz.underlying9
 a9:=Tryz.isAgg9
 z9:=Tryz.sizeOf9
 v9:=Tryz.zeroValue9
 t28:=Tryz.underlying28
 a28:=Tryz.isAgg28
 z28:=Tryz.sizeOf28
 v28:=Tryz.zeroValue28
 t46:=Tryz.underlying210
 a46:=Tryz.isAgg210
 z46:=Tryz.sizeOf210
 v46:=Tryz.zeroValue210
 t51:=Tryz.underlying284
 a51:=Tryz.isAgg284
 z51:=Tryz.sizeOf284
 v51:=Tryz.zeroValue284
 t53:=Tryz.underlying303
 a53:=Tryz.isAgg303
 z53:=Tryz.sizeOf303
 v53:=Tryz.zeroValue303
 t131:=Tryz.underlying206
 a131:=Tryz.isAgg206
 z131:=Tryz.sizeOf206
 v131:=Tryz.zeroValue206
 t182:=Tryz.underlying296
 a182:=Tryz.isAgg296
 z182:=Tryz.sizeOf296
 v182:=Tryz.zeroValue296
 t183:=Tryz.underlying297
 a183:=Tryz.isAgg297
 z183:=Tryz.sizeOf297
 v183:=Tryz.zeroValue297
 t218:=Tryz.underlying314
 a218:=Tryz.isAgg314
 z218:=Tryz.sizeOf314
 v218:=Tryz.zeroValue314
 t222:=Tryz.underlying318
 a222:=Tryz.isAgg318
 z222:=Tryz.sizeOf318
 v222:=Tryz.zeroValue318
 t228:=Tryz.underlying324
 a228:=Tryz.isAgg324
 z228:=Tryz.sizeOf324
 v228:=Tryz.zeroValue324
 t229:=Tryz.underlying325
 a229:=Tryz.isAgg325
 z229:=Tryz.sizeOf325
 v229:=Tryz.zeroValue325}
open Go.Sort Go.RowKit in
theorem slices_Sort_int (blk off cap:Nat)(zs:LIn)(w:World)(hH:Holds (Value.int .i64) w blk off zs.toArray)(hblk:blk<w.heap.size)(hsz:zs.length<4611686018427387904) :
  Calls Tryz.prog 204 #[.slice (some ⟨blk,off,none⟩) zs.length cap] w fun e w' =>
   e=.returned (.tuple #[])∧∃n os,w'=grow (putRow (Value.int .i64) (Sort.ahead w n) blk off (zs.mergeSort fun x y=>decide (x≤y)).toArray) os:=Any.slices_Sort_int UX blk off cap zs w hH hblk hsz
end Go.Proofs.YtfmnagcglhlicaaGreat
namespace Go.Proofs.YtfmnagcglhlicaaGreat
open Go.RowKit
theorem Dp (w:World):xQ 120 #[] w UU where
 enters:=fun args w=>by kernel_rfl
 calls:=fun x=>by
  go_enter Tryz.func120,Tryz.ntmps120
  go_wp2
  all_goals
   go_ret
   exact⟨aY (by simp[UU];try omega),rfl⟩
theorem lB {w:World}{A:OAd}{n c:Nat}{log:LLi}(h:bT w A n c log) :
  Calls Tryz.prog 82 #[.slice A n c] w fun e w'=>e=.returned (.int .i64 (cP log))∧w=w':=by
 have hn:=h.small;have HL:=aA h.len;have H:=aA h;clear h;by_cases h60:60<n
 ·have FN:=aA (F9 (log:=log) (by rw[HL.o];exact h60));have h60i:(60:Int)<(n:Int):=by omega
  go_enter Tryz.func82,Tryz.ntmps82
  go_wp2
  go_ret
  exact⟨aT FN.o.symm,rfl⟩
 ·have NL:=aA (show ¬60<log.length by rw[HL.o];exact h60);have h60i:¬(60:Int)<(n:Int):=by omega
  go_enter Tryz.func82,Tryz.ntmps82
  go_wp2
  go_loop [10] (fun i=>∃k:Nat,k≤n∧i=.int .i64 k∧Hid (∀(j:Nat) (t:LIn),j<k→log[j]?=some t→rO t=false)) (fun i=>n-(intOf i).toNat)
  case atStart=>exact⟨0,Nat.zero_le _,rfl,fun j t hj=>absurd hj (by omega)⟩
  case round =>
   obtain⟨k,hk,rfl,hlow⟩:=hrel;by_cases hlt:k<n
   ·have hki:(k:Int)<(n:Int):=by omega
    obtain⟨b,off,x,A1,n1,c1,rfl,hb,hx,q0,i1,hn1⟩:=bT.get H.o hlt;have IX:=aA i1;have BT:=aA (show rO x=(decide (60<n1)||x.any UU) by rw[rO,i1.len]);have NX:=aA (show rO x=false→∀(j:Nat) (t:LIn),j<k+1→log[j]?=some t→rO t=false from fun hf j t hj ht=>by
     by_cases e:j=k
     ·subst e;have:=hx.o;rw[ht]at this;injection this with this;rw[this];exact hf
     ·exact hlow.o j t (by omega) ht)
    have FB:=aA (fun hb=>Ko NL.o (List.mem_of_getElem? hx.o) hb);clear i1 hlow hx;by_cases h1:60<n1
    ·have FN:=aA (FB.o (by rw[BT.o];simp[h1]));have h1i:(60:Int)<(n1:Int):=by omega
     go_wp2
     go_ret
     exact⟨aT FN.o.symm,rfl⟩
    ·have h1i:¬(60:Int)<(n1:Int):=by omega
     obtain⟨s,hs⟩:∃s,x.any UU=s:=⟨_,rfl⟩;have HS:=aA hs;clear hs;cases s
     ·have N1:=aA (NX.o (by rw[BT.o,HS.o];simp[h1]));go_wp2_with (refine(dC IX.o (Dp _)).mono ?_;rintro e w' ⟨rfl,rfl⟩;rw[HS.o])
      go_round
      case rel=>exact⟨k+1,by omega,by go_num,N1⟩
      case measure=>simp[intOf];omega
     ·have FN:=aA (FB.o (by rw[BT.o,HS.o];simp));go_wp2_with (refine(dC IX.o (Dp _)).mono ?_;rintro e w' ⟨rfl,rfl⟩;rw[HS.o])
      go_ret
      exact⟨aT FN.o.symm,rfl⟩
   ·obtain rfl:k=n:=by omega
    have FN:=aA (Oq NL.o (fun j t hj ht=>hlow.o j t (by rw[←HL.o];exact hj) ht));clear hlow;go_wp2
    go_ret
    exact⟨aT FN.o.symm,rfl⟩
open Go.Maps
structure UY {α:Type}(k:TypeId)(ok:α→Prop)(kv:α→Value)(kk:α→Lit):Prop where
 law:Keyed Tryz.prog k
 key:∀x,ok x→keyOf Tryz.prog k (kv x)=some (kk x)
 back:∀x y,ok x→ok y→kk x=kk y→x=y
def sN {α:Type}(k:TypeId)(ok:α→Prop)(kk:α→Lit)(w:World)(b:Nat)(S:List α):Prop :=
 (∀x∈S,ok x)∧∃(D:DataW Unit) (m:Nat),w.ownsMap Tryz.prog k unitElem b m D∧m≤S.length∧Maps.size D≤S.length∧∀key kl,keyOf Tryz.prog k key=some kl→(Maps.has D kl=true↔∃x∈S,kl=kk x)
section
variable {α:Type} {k:TypeId} {ok:α→Prop} {kv:α→Value} {kk:α→Lit} {w w':World} {b:Nat} {S:List α}
theorem pM {H:Type}{P:Program}{R:Value→Option (DataW H×List MemPlace)}{n:Nat}{D:DataW H}(h:w.ownsMap P k R b n D)(hb:w'.heap[b]?=w.heap[b]?):w'.ownsMap P k R b n D:=by
 obtain⟨es,clock,h1,h2⟩:=h;exact⟨es,clock,hb.trans h1,h2⟩
theorem sN.made (k:TypeId)(ok:α→Prop)(kk:α→Lit)(w:World):sN k ok kk (w.alloc (.map #[] 0)) w.heap.size [] :=
 ⟨fun x h=>(by cases h),.map [],0,World.ownsMap_made _ _ _ _,Nat.le_refl _,Nat.zero_le _,fun key kl _=>⟨fun h=>by simp[Maps.has]at h,fun⟨x,hx,_⟩=>(by cases hx)⟩⟩
theorem sN.of_block (h:sN k ok kk w b S)(hb:w'.heap[b]?=w.heap[b]?):sN k ok kk w' b S:=by
 obtain⟨h0,D,m,h1,h2⟩:=h;exact⟨h0,D,m,pM h1 hb,h2⟩
theorem sN.lt (h:sN k ok kk w b S):b<w.heap.size:=by
 obtain⟨_,D,m,h1,_⟩:=h;exact h1.lt
theorem sN.keep (h:sN k ok kk w b S)(hb:Below w.heap.size w w'):sN k ok kk w' b S:=h.of_block (hb.block b h.lt)
theorem sN.alloc (h:sN k ok kk w b S)(o:Obj):sN k ok kk (w.alloc o) b S:=h.of_block (heap_alloc_old w o h.lt)
theorem sN.beside {row:Option Nat}(h:sN k ok kk w b S)(hg:w.grownBy w' row)(hne:some b≠row):sN k ok kk w' b S:=h.of_block (hg.block b h.lt hne)
theorem sN.put (K:UY k ok kv kk) {D:DataW Unit} {m:Nat} (h0:∀x∈S,ok x) (h1:w.ownsMap Tryz.prog k unitElem b m D) (hm:m≤S.length) (hs:Maps.size D≤S.length) (h2:∀key kl,keyOf Tryz.prog k key=some kl→(Maps.has D kl=true↔∃x∈S,kl=kk x))
  {x:α} (hx:ok x) (h3:w'.ownsMap Tryz.prog k unitElem b (m+1) (D.put (kk x) (.agg []))):sN k ok kk w' b (x::S):=by
 refine⟨fun y hy=>?_,_,m+1,h3,by simpa using hm, ?_,fun key kl hk=>?_⟩
 ·rcases List.mem_cons.1 hy with rfl|hy
  ·exact hx
  ·exact h0 y hy
 ·rw[Maps.size_put (h1.tidy K.law),List.length_cons];split <;> omega
 ·by_cases e:kl=kk x
  ·subst e;rw[Maps.has_put_same (h1.tidy K.law).isMap (K.law.key hk)];exact⟨fun _=>⟨x,by simp,rfl⟩,fun _=>rfl⟩
  ·rw[Maps.has_put_other e,h2 key kl hk];constructor
   ·rintro⟨y,hy,e2⟩;exact⟨y,by simp[hy],e2⟩
   ·rintro⟨y,hy,e2⟩;rcases List.mem_cons.1 hy with rfl|hy
    ·exact absurd e2 e
    ·exact⟨y,hy,e2⟩
def Ot (k:TypeId)(kk:α→Lit)(D:DataW Unit)(left:Lit→Bool)(S ss:List α):Prop :=
 ss.Nodup∧(∀x∈ss,x∈S)∧∀key kl,keyOf Tryz.prog k key=some kl→(left kl=true↔Maps.has D kl=true∧∀x∈ss,kl≠kk x)
theorem Ot.start (D:DataW Unit)(S:List α):Ot k kk D (Maps.has D) S []:=⟨List.nodup_nil,fun x h=>(by cases h),fun key kl _=>⟨fun h=>⟨h,fun x hx=>(by cases hx)⟩,fun h=>h.1⟩⟩
theorem Ot.step (K:UY k ok kv kk){D:DataW Unit}{left:Lit→Bool}{ss:List α}(h:Ot k kk D left S ss){x:α}(hx:x∈S)(hk:ok x)(hlk:left (kk x)=true):Ot k kk D (fun z=>left z&&!z.sameKey (kk x)) S (ss++[x]):=by
 obtain⟨h1,h2,h3⟩:=h;have hkx:=K.key x hk;have hl:=(h3 _ _ hkx).1 hlk;refine⟨List.nodup_append.2 ⟨h1,by simp,fun a ha c hc e=>?_⟩,fun y hy=>?_,fun key kl hkl=>?_⟩
 ·rw[List.mem_singleton]at hc;subst hc;exact hl.2 a ha (by rw[e])
 ·rcases List.mem_append.1 hy with hy|hy
  ·exact h2 y hy
  ·rw[List.mem_singleton.1 hy];exact hx
 ·simp only[Bool.and_eq_true,Bool.not_eq_true'];rw[h3 key kl hkl];have hiff:=WideAt.sameKey_iff (a:=kl) (K.law.key hkx);constructor
  ·rintro⟨⟨g1,g2⟩,g3⟩;refine⟨g1,fun y hy=>?_⟩;rcases List.mem_append.1 hy with hy|hy
   ·exact g2 y hy
   ·rw[List.mem_singleton.1 hy];intro e;rw[hiff.2 e]at g3;cases g3
  ·rintro⟨g1,g2⟩;refine⟨⟨g1,fun y hy=>g2 y (by simp[hy])⟩, ?_⟩;cases hs:kl.sameKey (kk x)
   ·rfl
   ·exact absurd (hiff.1 hs) (g2 x (by simp))
theorem Ot.fin (K:UY k ok kv kk){D:DataW Unit}{left:Lit→Bool}{ss:List α}(h:Ot k kk D left S ss)(h0:∀x∈S,ok x)(hD:∀key kl,keyOf Tryz.prog k key=some kl→(Maps.has D kl=true↔∃x∈S,kl=kk x))(hl:∀kl,left kl=false):ss.Nodup∧∀x,x∈ss↔x∈S:=by
 obtain⟨h1,h2,h3⟩:=h;refine⟨h1,fun x=>⟨h2 x,fun hx=>?_⟩⟩;have hkx:=K.key x (h0 x hx);apply Classical.byContradiction
 intro hn;have:=(h3 _ _ hkx).2 ⟨(hD _ _ hkx).2 ⟨x,hx,rfl⟩,fun y hy e=>hn (by rw[K.back x y (h0 x hx) (h0 y (h2 y hy)) e];exact hy)⟩;rw[hl]at this;cases this
end
def okI (x:Int):Prop:=1≤x∧x≤26
def kkI (x:Int):Lit:=.int .i64 x
theorem Rz:UY 3 okI (Value.int .i64) kkI where
 law:=int_keyed Tryz.underlying3
 key:=fun x hx=>keyOf_int_mk Tryz.underlying3 (WalkArith.wf_i64 (by unfold okI at hx;omega))
 back:=fun x y _ _ h=>by unfold kkI at h;injection h
abbrev RA (w:World)(b:Nat)(S:LIn):Prop:=sN 3 okI kkI w b S
def okP (p:Int×Int):Prop:=okI p.1∧okI p.2
def kvP (p:Int×Int):Value:=.agg #[.int .i64 p.1,.int .i64 p.2]
def kkP (p:Int×Int):Lit:=.string (keyBytes [.int .i64 p.1,.int .i64 p.2])
theorem Ou:Keyed Tryz.prog 240:=Keyed.of_law (deep_law_laid Facts.laidOut (m:=2) (by decide) (of_decide_eq_true (by kernel_rfl)) (by kernel_rfl) (by kernel_rfl))
theorem Gh:Tryz.prog.keyType 240=true:=by kernel_rfl
theorem Dq:Tryz.prog.cellsOf 240=2:=by kernel_rfl
theorem Ov:Tryz.prog.cellsOf 3=1:=by kernel_rfl
theorem Gi (p:Int×Int)(h:okP p):keyOf Tryz.prog 240 (kvP p)=some (kkP p):=by
 have hw1:(Lit.int .i64 p.1).wf=true:=WalkArith.wf_i64 (by unfold okP okI at h;omega);have hw2:(Lit.int .i64 p.2).wf=true:=WalkArith.wf_i64 (by unfold okP okI at h;omega);have hsz:∃m,Tryz.prog.types.size+1=m+2:=⟨Tryz.prog.types.size-1,by have:0<Tryz.prog.types.size:=of_decide_eq_true (by kernel_rfl);omega⟩;obtain⟨m,hm⟩:=hsz;unfold keyOf;rw[Tryz.underlying240];simp only[Gh,kvP,Value.formed,Tryz.underlying240,Dq,hm];simp[Program.keyLits,Tryz.underlying240,Dq,Ov,Tryz.underlying3,hw1,hw2,Value.cells,kkP,show List.range 2=[0,1]from rfl]
theorem Ox:UY 240 okP kvP kkP where
 law:=Ou
 key:=Gi
 back:=fun x y hx hy h=>by
  have:=Ou.inj (Gi x hx) (by rw[h];exact Gi y hy);simp only[kvP,Value.agg.injEq,Array.mk.injEq,List.cons.injEq,Value.int.injEq,true_and,and_true]at this;exact Prod.ext this.1 this.2
abbrev Wb (w:World)(b:Nat)(S:List (Int×Int)):Prop:=sN 240 okP kkP w b S
theorem nP {w:World}{b:Nat}{S:LIn}(h:RA w b S)(hl:S.length≤10000){x:Int}(hx:okI x) :
  Calls Tryz.prog 198 #[.map (some b),.int .i64 x] w fun e w'=>(∃v,e=.returned v)∧RA w' b (x::S)∧w.grownBy w' (some b):=by
 obtain⟨h0,D,m,h1,hm,hs,h2⟩:=h;go_enter Tryz.func198,Tryz.ntmps198
 go_wp2_with (at_mapUpdate;refine wpList_mapUpdate_own _ rfl _ _ _ 270 rfl 3 _ Rz.law Tryz.underlying270 _ b m _ rfl h1 (by simp only[maxLen];omega) _ _ _ rfl rfl (Rz.key x hx) _ [] unitElem_mk ?_;intro w1 h3 hg)
 go_end0
 exact⟨⟨_,rfl⟩,sN.put Rz h0 h1 hm hs h2 hx h3,hg⟩
theorem Ks {w:World}{b:Nat}{S:List (Int×Int)}(h:Wb w b S)(hl:S.length≤10000){p:Int×Int}(hx:okP p) :
  Calls Tryz.prog 199 #[.map (some b),.agg #[.int .i64 p.1,.int .i64 p.2]] w fun e w'=>(∃v,e=.returned v)∧Wb w' b (p::S)∧w.grownBy w' (some b):=by
 have G0:=aA (World.grownBy_alloc w (.cells #[.int .i64 p.1,.int .i64 p.2] 240) (some b));obtain⟨h0,D,m,h1,hm,hs,h2⟩:=h;have X0:=Box.new w #[.int .i64 p.1,.int .i64 p.2] 240;have h1':=pM h1 (heap_alloc_old w (.cells #[.int .i64 p.1,.int .i64 p.2] 240) h1.lt);obtain⟨c0,c1⟩:=X0.two;go_enter Tryz.func199,Tryz.ntmps199
 go_wp2_with (at_mapUpdate;refine wpList_mapUpdate_own _ rfl _ _ _ 272 rfl 240 _ Ox.law Tryz.underlying272 _ b m _ rfl h1' (by simp only[maxLen];omega) _ _ _ rfl rfl (Ox.key p hx) _ [] unitElem_mk ?_;intro w1 h3 hg)
 go_end0
 exact⟨⟨_,rfl⟩,sN.put Ox h0 h1' hm hs h2 hx h3,G0.o.trans hg⟩
end Go.Proofs.YtfmnagcglhlicaaGreat
namespace Go.Proofs.YtfmnagcglhlicaaGreat
section
variable {sh:Nat→Nat→Bool} {n:Nat}
def lC:LIn→LIn→Int
 | [],[]=>0
 | [],_::_=>-1
 | _::_,[]=>1
 | x::xs,y::ys=>if x<y then -1 else if y<x then 1 else lC xs ys
end
end Go.Proofs.YtfmnagcglhlicaaGreat
