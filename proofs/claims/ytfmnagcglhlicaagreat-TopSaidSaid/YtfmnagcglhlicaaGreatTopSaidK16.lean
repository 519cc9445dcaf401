/- Texts melted into one: slices.Compare on integers; slices.SortFunc by it, on rows of lists of the call's own. Conditions: the lists are the call's own. | The contracts of tracks.number, pair, and of sorted at both types: what is in a set, in order. Conditions: the labels are 1 to 26. -/
import Derived.Test.YtfmnagcglhlicaaGreatTopSaidK14
import Derived.Test.YtfmnagcglhlicaaGreatTopSaidK15
set_option maxRecDepth 100000
namespace Go.Proofs.YtfmnagcglhlicaaGreat
open Go.RowKit
def Znl (x y:Int):Int:=if x<y then -1 else if y<x then 1 else 0
theorem ZoT (x y:Int)(xs ys:List Int):ZdB (x::xs) (y::ys)=if Znl x y=0 then ZdB xs ys else Znl x y:=by
 rw[ZdB,Znl]
 by_cases h1:x<y
 ·rw[if_pos h1,if_pos h1,if_neg (by omega)]
 ·rw[if_neg h1,if_neg h1]
  by_cases h2:y<x
  ·rw[if_pos h2,if_pos h2,if_neg (by omega)]
  ·rw[if_neg h2,if_neg h2,if_pos rfl]
theorem Zjb {xs:List Int}{k:Nat}{x:Int}(h:xs[k]?=some x):xs.drop k=x::xs.drop (k+1):=by
 obtain⟨hk,rfl⟩:=List.getElem?_eq_some_iff.1 h
 exact List.drop_eq_getElem_cons hk
theorem Zco (w:World)(x:Int):Calls Tryz.prog 251 #[.int .i64 x] w fun e w'=>e=.returned (.bool false)∧w=w':=by
 go_enter Tryz.func251,Tryz.ntmps251
 go_wp2
 go_ret
 exact⟨Zav (by first|rfl|simp),rfl⟩
theorem Zgy (w:World)(x y:Int):Calls Tryz.prog 222 #[.int .i64 x,.int .i64 y] w fun e w'=>e=.returned (.int .i64 (Znl x y))∧w=w':=by
 by_cases h1:x<y
 ·have F:=Zaa (show Znl x y=-1 by rw[Znl,if_pos h1])
  go_enter Tryz.func222,Tryz.ntmps222
  go_wp2_with (first|(refine(Zco _ x).mono ?_;rintro e w' ⟨rfl,rfl⟩)|(refine(Zco _ y).mono ?_;rintro e w' ⟨rfl,rfl⟩))
  go_ret
  exact⟨Zap F.out.symm,rfl⟩
 ·by_cases h2:y<x
  ·have F:=Zaa (show Znl x y=1 by rw[Znl,if_neg h1,if_pos h2])
   go_enter Tryz.func222,Tryz.ntmps222
   go_wp2_with (first|(refine(Zco _ x).mono ?_;rintro e w' ⟨rfl,rfl⟩)|(refine(Zco _ y).mono ?_;rintro e w' ⟨rfl,rfl⟩))
   go_ret
   exact⟨Zap F.out.symm,rfl⟩
  ·have F:=Zaa (show Znl x y=0 by rw[Znl,if_neg h1,if_neg h2])
   go_enter Tryz.func222,Tryz.ntmps222
   go_wp2_with (first|(refine(Zco _ x).mono ?_;rintro e w' ⟨rfl,rfl⟩)|(refine(Zco _ y).mono ?_;rintro e w' ⟨rfl,rfl⟩))
   go_ret
   exact⟨Zap F.out.symm,rfl⟩
set_option maxHeartbeats 1000000 in
theorem Zjc {w:World}{A B:Option Addr}{n c m d:Nat}{xs ys:List Int}(h:Zam w A n c xs)(g:Zam w B m d ys) :
  Calls Tryz.prog 215 #[.slice A n c,.slice B m d] w fun e w'=>e=.returned (.int .i64 (ZdB xs ys))∧w=w':=by
 have hn:=h.small
 have hm:=g.small
 have HL:=Zaa h.len
 have GL:=Zaa g.len
 have H:=Zaa h
 have G:=Zaa g
 clear h g
 go_enter Tryz.func215,Tryz.ntmps215
 go_wp2
 go_loop [11] (fun i=>∃k:Nat,k≤n∧k≤m∧i=.int .i64 k∧Hid (ZdB xs ys=ZdB (xs.drop k) (ys.drop k))) (fun i=>n-(intOf i).toNat)
 case atStart=>exact⟨0,Nat.zero_le _,Nat.zero_le _,rfl,rfl⟩
 case round =>
  obtain⟨k,hk,hkm,rfl,hlow⟩:=hrel
  by_cases hlt:k<n
  ·have hki:(k:Int)<(n:Int):=by omega
   obtain⟨b,off,x,rfl,hb,hx,hc⟩:=H.out.get hlt
   by_cases hltm:k<m
   ·have hkj:(k:Int)<(m:Int):=by omega
    obtain⟨b',off',y,rfl,hb',hy,hc'⟩:=G.out.get hltm
    have ST:=Zaa (show ZdB xs ys=if Znl x y=0 then ZdB (xs.drop (k+1)) (ys.drop (k+1))else Znl x y by rw[hlow.out,Zjb hx.out,Zjb hy.out,ZoT])
    obtain⟨z,hz⟩:∃z,Znl x y=z:=⟨_,rfl⟩
    have HZ:=Zaa hz
    clear hlow hx hy hz
    by_cases hz0:z=0
    ·subst hz0
     have N1:=Zaa (show ZdB xs ys=ZdB (xs.drop (k+1)) (ys.drop (k+1)) by rw[ST.out,if_pos HZ.out])
     go_wp2_with (refine(Zgy _ x y).mono ?_;rintro e w' ⟨rfl,rfl⟩;rw[HZ.out])
     go_round
     case rel=>exact⟨k+1,by omega,by omega,by go_num,N1⟩
     case measure=>simp[intOf];omega
    ·have FN:=Zaa (show ZdB xs ys=z by rw[ST.out,HZ.out,if_neg hz0])
     have hzb:(z==0)=false:=by simpa using hz0
     go_wp2_with (refine(Zgy _ x y).mono ?_;rintro e w' ⟨rfl,rfl⟩;rw[HZ.out])
     go_ret
     exact⟨Zap FN.out.symm,rfl⟩
   ·obtain rfl:k=m:=by omega
    have FN:=Zaa (show ZdB xs ys=1 by rw[hlow.out,Zjb hx.out,show ys.drop k=[]from List.drop_eq_nil_of_le (by rw[GL.out];exact Nat.le_refl _)];rfl)
    clear hlow hx
    go_wp2
    go_ret
    exact⟨Zap FN.out.symm,rfl⟩
  ·obtain rfl:k=n:=by omega
   by_cases hnm:k<m
   ·have hki:(k:Int)<(m:Int):=by omega
    obtain⟨b',off',y,rfl,hb',hy,hc'⟩:=G.out.get hnm
    have FN:=Zaa (show ZdB xs ys=-1 by rw[hlow.out,show xs.drop k=[]from List.drop_eq_nil_of_le (by rw[HL.out];exact Nat.le_refl _),Zjb hy.out];rfl)
    clear hlow hy
    go_wp2
    go_ret
    exact⟨Zap FN.out.symm,rfl⟩
   ·obtain rfl:k=m:=by omega
    have FN:=Zaa (show ZdB xs ys=0 by rw[hlow.out,show xs.drop k=[]from List.drop_eq_nil_of_le (by rw[HL.out];exact Nat.le_refl _),show ys.drop k=[]from List.drop_eq_nil_of_le (by rw[GL.out];exact Nat.le_refl _)];rfl)
    clear hlow
    go_wp2
    go_ret
    exact⟨Zap FN.out.symm,rfl⟩
theorem Zkc:∀x:List Int,ZdB x x=0
 | []=>rfl
 | a::x=>by rw[ZdB,if_neg (by omega),if_neg (by omega)];exact Zkc x
theorem ZiD:∀x y z:List Int,ZdB x y<0→ZdB y z<0→ZdB x z<0
 | [],[],_,h,_=>by rw[ZdB]at h;omega
 | [],_::_,[],_,h=>by rw[ZdB]at h;omega
 | [],_::_,_::_,_,_=>by rw[ZdB];omega
 | _::_,[],_,h,_=>by rw[ZdB]at h;omega
 | _::_,_::_,[],_,h=>by rw[ZdB]at h;omega
 | a::x,b::y,c::z,h,g=>by
  rw[ZdB]at h g ⊢
  have ih:=ZiD x y z
  split at h
  ·split at g
   ·rw[if_pos (by omega)];omega
   ·split at g
    ·omega
    ·rw[if_pos (by omega)];omega
  ·split at h
   ·omega
   ·split at g
    ·rw[if_pos (by omega)];omega
    ·split at g
     ·omega
     ·rw[if_neg (by omega),if_neg (by omega)];exact ih h g
theorem Zhx:∀x y z:List Int,¬ZdB x y<0→¬ZdB y z<0→¬ZdB x z<0
 | [],[],[],_,_=>by rw[ZdB];omega
 | [],[],_::_,_,h=>by rw[ZdB]at h;omega
 | [],_::_,_,h,_=>by rw[ZdB]at h;omega
 | _::_,[],[],_,_=>by rw[ZdB];omega
 | _::_,[],_::_,_,h=>by rw[ZdB]at h;omega
 | _::_,_::_,[],_,_=>by rw[ZdB];omega
 | a::x,b::y,c::z,h,g=>by
  rw[ZdB]at h g ⊢
  have ih:=Zhx x y z
  split at h
  ·omega
  ·split at h
   ·split at g
    ·omega
    ·split at g
     ·rw[if_neg (by omega),if_pos (by omega)];omega
     ·rw[if_neg (by omega),if_pos (by omega)];omega
   ·split at g
    ·omega
    ·split at g
     ·rw[if_neg (by omega),if_pos (by omega)];omega
     ·rw[if_neg (by omega),if_neg (by omega)];exact ih h g
section
open Go.Sort
variable {α:Type} [Inhabited α] {enc:α→Value} {w:World}
theorem ZiE (g n:Nat)(d:Array α)(os:Array Obj):w.grownBy (sortWorld enc w g 0 n d os) (some g):=by
 refine⟨rfl,rfl,rfl,by simp[sortWorld],fun k hk hne=>?_⟩
 unfold sortWorld
 rw[heap_grow_old _ _ (by simpa using hk)]
 have:g≠k:=fun e=>hne (by rw[e])
 simp[putRow,mapBlock,Sort.ahead,Array.getElem?_modify,this]
theorem ZoU {g n:Nat}{os:Array Obj}{cur:Array Value}{e:TypeId}{fr:Nat×Nat}(d:Array α)(hb:w.heap[g]?=some (.cells cur e fr)) :
  (sortWorld enc w g 0 n d os).heap[g]?=some (.cells (putCells enc 0 d cur) e fr):=by
 have hg:g<w.heap.size:=(Array.getElem?_eq_some_iff.1 hb).1
 unfold sortWorld
 rw[heap_grow_old _ _ (by simpa using hg)]
 simp[putRow,mapBlock,Sort.ahead,Array.getElem?_modify,hb,onCells]
theorem ZoV (cur:Array Value)(ts:List α)(h:ts.length≤cur.size):(putCells enc 0 ts.toArray cur).toList.take ts.length=ts.map enc:=by
 apply List.ext_getElem?
 intro j
 by_cases hj:j<ts.length
 ·rw[List.getElem?_take_of_lt hj,Array.getElem?_toList]
  simp[putCells,hj,show j<cur.size by omega]
 ·rw[List.getElem?_take_eq_none (by omega),List.getElem?_eq_none (by simp;omega)]
theorem Znm {base g cap n m:Nat} {e:TypeId} {os:Array Obj} {cur:Array Value} {ts:List α} (hl:ts.length=m) (hbase:base≤g) (hb:w.heap[g]?=some (.cells cur e (0,0)))
  (h1:m≤cap) (h2:cap≤maxLen) (h3:cur.size=cap*1) :
  (sortWorld enc w g 0 n ts.toArray os).ownsRow base e 1 (.slice (some ⟨g,0,none⟩) m cap) m (ts.map enc):=by
 subst hl
 exact⟨by simp,.inr ⟨g,cap,_,rfl,hbase,ZoU _ hb,h1,h2,by simp[putCells,h3],by rw[Nat.mul_one];exact ZoV cur ts (by omega)⟩⟩
theorem Zmx {g:Nat}{cur:Array Value}{e:TypeId}{ss:List α}(hb:w.heap[g]?=some (.cells cur e (0,0)))(ht:cur.toList.take ss.length=ss.map enc):Holds enc w g 0 ss.toArray:=by
 intro j hj
 have hj':j<ss.length:=by simpa using hj
 refine⟨?_,by simp[World.frozen?,hb]⟩
 have h1:(cur.toList.take ss.length)[j]?=(ss.map enc)[j]?:=by rw[ht]
 rw[List.getElem?_take_of_lt hj']at h1
 simp only[World.cell?,hb,Nat.zero_add]
 simp only[Option.isSome_none,Bool.false_eq_true,if_false]
 rw[←Array.getElem?_toList,h1]
 simp[hj']
end
theorem ZtL {α:Type}{P:Nat→α→Prop}:∀(n:Nat),(∀i,i<n→∃x,P i x)→∃l:List α,l.length=n∧∀(i:Nat) (x:α),l[i]?=some x→P i x
 | 0,_=>⟨[],rfl,fun i x h=>by simp at h⟩
 | n+1,h=>by
  obtain⟨l,hl,hp⟩:=ZtL n (fun i hi=>h i (by omega))
  obtain⟨x,hx⟩:=h n (by omega)
  refine⟨l++[x],by simp[hl],fun i y hy=>?_⟩
  by_cases hi:i<n
  ·rw[List.getElem?_append_left (by omega)]at hy
   exact hp i y hy
  ·have hi2:=(List.getElem?_eq_some_iff.1 hy).1
   rw[List.length_append,hl]at hi2
   simp only[List.length_cons,List.length_nil]at hi2
   obtain rfl:i=n:=by omega
   rw[List.getElem?_append_right (by omega),hl]at hy
   simp only[Nat.sub_self,List.getElem?_cons_zero,Option.some.injEq]at hy
   rw[←hy];exact hx
abbrev Zt9 (w:World)(B:Nat):={x:(Option Addr×Nat×Nat)×List Int // Zaf w B (.slice x.1.1 x.1.2.1 x.1.2.2) x.1.2.1 x.2∧x.1.2.1≤17592186043904}
instance {w:World} {B:Nat}:Inhabited (Zt9 w B):=⟨⟨((none,0,0),[]),Zad.nil,Nat.zero_le _⟩⟩
end Go.Proofs.YtfmnagcglhlicaaGreat
namespace Go.Proofs.YtfmnagcglhlicaaGreat
open Go.RowKit Go.Maps
abbrev Zs9:={x:Int // okI x}
instance:Inhabited Zs9:=⟨⟨1,by decide,by decide⟩⟩
def Zty (x:Zs9):Value:=.int .i64 x.1
def Zsi (x y:Zs9):Int:=x.1-y.1
theorem Zua:Sort.SWO (ltOf Zsi) where
 irrefl:=fun x=>decide_eq_false (by unfold Zsi;omega)
 trans:=fun x y z h g=>decide_eq_true (by have:=of_decide_eq_true h;have:=of_decide_eq_true g;unfold Zsi at *;omega)
 ntrans:=fun x y z h g=>decide_eq_false (by have:=of_decide_eq_false h;have:=of_decide_eq_false g;unfold Zsi at *;omega)
theorem Zkd (w:World)(x y:Int)(hx:okI x)(hy:okI y):Calls Tryz.prog 201 #[.int .i64 x,.int .i64 y] w fun e w'=>e=.returned (.int .i64 (x-y))∧w=w':=by
 have hw:IntKind.i64.wrap (x-y)=x-y:=by unfold okI at *;simp[IntKind.wrap,IntKind.bits,IntKind.signed];omega
 go_enter Tryz.func201,Tryz.ntmps201
 go_wp2
 go_ret
 exact⟨Zap (by first|rfl|exact hw),rfl⟩
set_option maxHeartbeats 1000000 in
theorem Zjd {w:World}{B n:Nat}{v:Value}{xs:List Int}(h:Zaf w B v n xs)(hok:∀x∈xs,okI x)(hn:n≤17592186044416) :
  Calls Tryz.prog 213 #[v,.func (.func 201) #[] #[]] w fun e w'=>e=.returned (.tuple #[])∧∃ys,ys.Perm xs∧ys.Pairwise (fun a b=>¬b<a)∧Zaf w' B v n ys∧w.grownBy w' v.ownBlock:=by
 have hl:=h.len
 have o1:=h.row
 rcases o1.2 with⟨rfl,h0⟩|⟨g,cap,cur,rfl,hg,hb,h1,h2,h3,h4⟩
 ·obtain rfl:n=0:=by simpa using h0
  have hx:xs=[]:=List.eq_nil_of_length_eq_zero hl
  subst hx
  refine(Zdm (α:=Nat) none 0 _ w).mono ?_
  rintro e w' ⟨rfl,rfl⟩
  exact⟨rfl,[],.refl _,.nil,h,World.grownBy.refl _ _⟩
 ·obtain⟨ds,dl,dp⟩:=ZtL (α:=Zs9) (P:=fun i x=>xs[i]?=some x.1) n (fun i hi=>by
   have hx:xs[i]?=some (xs[i]'(by omega)):=List.getElem?_eq_getElem _
   exact⟨⟨_,hok _ (List.getElem_mem (by omega))⟩,hx⟩)
  have exs:xs=ds.map (·.1):=by
   apply List.ext_getElem?
   intro i
   rw[List.getElem?_map]
   cases hd:ds[i]? with
   | none =>
    have:ds.length≤i:=by simpa using hd
    rw[List.getElem?_eq_none (by omega)]
    rfl
   | some x=>rw[dp i x hd];rfl
  subst dl
  have ecells:xs.map (Value.int .i64)=ds.map Zty:=by rw[exs,List.map_map];rfl
  have hcmp:CmpLays1 Tryz.prog 201 #[] Zty Zsi g 0 ds.toArray.size w:=by
   intro m os dk hdk x y
   refine(Zkd _ x.1 y.1 x.2 y.2).mono ?_
   rintro e w' ⟨rfl,rfl⟩
   exact⟨rfl,0,#[],by simp[World.drewN]⟩
  refine(ZeO (α:=Zs9) Zty (fun x=>rfl) Zsi Zua 201 #[] g 0 cap ds.toArray w (fun args w=>by kernel_rfl) hcmp (Zmx hb (by rw[←ecells];simpa using h4)) (Array.getElem?_eq_some_iff.1 hb).1 (by simp;omega)).mono ?_
  rintro e w' ⟨rfl,d',q,os,hp,hs,rfl⟩
  obtain⟨hsz,_,hperm⟩:=hp
  have hsz':d'.size=ds.length:=by simpa using hsz
  have hp2:d'.toList.Perm ds:=by
   have e1:(d'.extract 0 ds.toArray.size).toList=d'.toList:=by simp[←hsz']
   have e2:(ds.toArray.extract 0 ds.toArray.size).toList=ds:=by simp
   rw[e1,e2]at hperm
   exact hperm
  refine⟨rfl,d'.toList.map (·.1), ?_, ?_, ?_,ZiE _ _ _ _⟩
  ·rw[exs];exact hp2.map _
  ·rw[List.pairwise_map,List.pairwise_iff_getElem]
   intro i j hi hj hij
   have:=hs i j (Nat.zero_le _) hij (by simp at hj;simp;omega)
   have hi':i<d'.size:=by simpa using hi
   have hj':j<d'.size:=by simpa using hj
   rw[getElem!_pos d' i hi',getElem!_pos d' j hj']at this
   unfold ltOf Zsi at this
   have:=of_decide_eq_false this
   simp only[Array.getElem_toList]
   omega
  ·have row:=Znm (enc:=Zty) (w:=w) (n:=q) (os:=os) (ts:=d'.toList) (m:=ds.length) (base:=B) (by simp[hsz']) hg hb h1 h2 h3
   rw[show d'.toList.toArray=d' from by simp]at row
   refine Zaf.of_row ?_
   rw[List.map_map]
   exact row
set_option maxHeartbeats 2000000 in
theorem ZdU {w:World}{b:Nat}{S:List Int}(h:ZqJ w b S)(hl:S.length≤10000) :
  Calls Tryz.prog 200 #[.map (some b),.func (.func 201) #[] #[]] w fun e w'=>∃v n xs,e=.returned v∧Zaf w' w.heap.size v n xs∧n≤10000∧(xs.Pairwise (·< ·)∧∀x,x∈xs↔x∈S)∧Below w.heap.size w w':=by
 obtain⟨h0,D,m,h1,hm,hs,h2⟩:=h
 have hbl:=h1.lt
 have H0:=Zaa h0
 have H2:=Zaa h2
 have SZ:=Zaa hs
 clear h0 h2 hs
 go_enter Tryz.func200,Tryz.ntmps200
 go_wp2_with (at_range;refine wpList_range_own _ rfl _ 270 rfl 3 _ ZqI.law Tryz.underlying270 unitElem b m D rfl h1 ?_;intro w0 hrg0 hg0 hs0)
 go_frame
 go_loopw [5] (fun u5 wr=>∃(left:Lit→Bool) (cnt n:Nat) (ss:List Int),wr.ranges Tryz.prog 3 unitElem b w.heap.size m D left cnt∧Hid (ss.length+cnt≤Maps.size D)∧Hid (ZoP 3 kkI D left S ss)∧Hid (Zaf wr w.heap.size u5 n ss)∧Hid (Below w.heap.size w wr)) (fun _ wr=>wr.rangeLeft b w.heap.size)
 case atStart=>exact⟨_,_,0,[],hrg0,by show 0+_≤_;omega,ZoP.start D S,Zad.nil,(Below.refl _ _).grown hg0 (Nat.le_refl _) (fun j hj=>by cases hj)⟩
 case round =>
  obtain⟨left,cnt,n,ss,hrg,hcs,hC,hO,hB⟩:=hrel
  go_wp2_with (at_next;refine wpList_next_ranges _ rfl _ rfl 3 ZqI.law unitElem (fun v=>v) (fun v=>v) (fun key kl hk=>⟨key,rfl⟩) (fun v y hv=>⟨v,rfl⟩) b w.heap.size m D left cnt rfl hrg ?_ ?_)
  ·intro hc0 hl0
   obtain⟨nd,mem⟩:=hC.out.fin ZqI H0.out H2.out hl0
   have ND:=Zaa nd
   have ME:=Zaa mem
   have hn:n≤10000:=by have:=hcs.out;have:=SZ.out;rw[←hO.out.len];omega
   clear nd mem hl0
   go_wp2_with fail
   refine(Zjd hO.out (fun x hx=>H0.out x ((ME.out x).1 hx)) (by omega)).mono ?_
   rintro e w' ⟨rfl,ys,hp,hso,own,hg⟩
   have OY:=Zaa own
   have BY:=Zaa (hB.out.grown hg hB.out.size (fun k e=>(hO.out.lt k e).1))
   have FY:=Zaa (show ys.Pairwise (·< ·)∧∀x,x∈ys↔x∈S from⟨(List.Pairwise.and hso (hp.nodup_iff.2 ND.out)).imp (fun{a b} ⟨e1,e2⟩=>by omega),fun x=>(hp.mem_iff).trans (ME.out x)⟩)
   clear own hg hp hso
   go_wp2
   go_ret
   exact⟨_,n,ys,rfl,OY.out,hn,FY.out,BY.out⟩
  ·intro x c kl yd yp w2 cnt2 hkey hlk hv hat hrg2 hlt hg2 hs2 hen
   obtain⟨z,hz,ekl⟩:=(H2.out x kl hkey).1 (has_true_of_atKey hat)
   subst ekl
   have hok:=H0.out z hz
   obtain rfl:x=.int .i64 z:=ZqI.law.inj hkey (ZqI.key z hok)
   obtain⟨rfl,_⟩:=unitElem_inv hv
   have hCn:=Zaa (hC.out.step ZqI hz hok hlk)
   have hO2:=Zaa (Zad.kept hO.out hg2 (by
    have:=row_ne_iter (Exists.choose_spec hO.out).1 hrg
    exact .inr (fun e=>this e.symm)) (fun _ _ h=>h))
   have hB2:=Zaa (hB.out.grown hg2 hB.out.size (fun k e=>by cases e;exact Nat.le_refl _))
   have RG:=Zaa hrg2
   have LTC:=Zaa hlt
   have HLE:=Zaa hrg.left_eq
   have hn:n≤10000:=by have:=hcs.out;have:=SZ.out;rw[←hO.out.len];omega
   clear hs2 hkey hlk hv hat hrg2 hg2 hrg hlt hz
   go_wp2_with (at_builtin;refine Zbw rfl _ _ rfl rfl rfl rfl hO2.out hB2.out hB2.out.size (by omega) ?_;intro v8 w8 own8 hg8 hb8;have O8:=Zaa own8;have E8:=Zaa hb8;have R8:=Zaa (RG.out.kept hg8 (row_ne_low (Exists.choose_spec hO2.out).1 hbl) (row_ne_iter (Exists.choose_spec hO2.out).1 RG.out));clear own8 hg8 hb8)
   go_roundw
   case rel=>exact⟨_,cnt2,n+1,ss++[z],R8.out,by have h1:=hcs.out;have h2:=LTC.out;show(ss++[z]).length+cnt2≤_;simp;omega,hCn,O8,E8⟩
   case measure=>rw[R8.out.left_eq,HLE.out];exact LTC.out
end Go.Proofs.YtfmnagcglhlicaaGreat
