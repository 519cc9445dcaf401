/- Texts melted into one: The contracts of tracks.pair and of sorted at pairs. Conditions: the labels are 1 to 26. | What the sets of tracks.Of hold so far: the plain law. No program in sight. -/
import Derived.Test.YtfmnagcglhlicaaGreatTopSaidK16
set_option maxRecDepth 100000
namespace Go.Proofs.YtfmnagcglhlicaaGreat
open Go.RowKit Go.Maps
open Go.Sort (flatK get_flatK size_flatK HoldsK)
def Zhy:World→(Nat→Value)→Int×Int→Prop:=fun _ vs p=>vs 0=.int .i64 p.1∧vs 1=.int .i64 p.2
theorem Zhy.kept:Zh9 Zhy:=fun _ _ _ _ _ h=>h
abbrev Zii (w:World)(A:Option Addr)(n c:Nat)(ps:List (Int×Int)):Prop:=Sl Zhy 2 w A n c ps
theorem Zsj:ZeM 218 240 2 16:=ZeM.mk' (z:=.agg #[.int .i64 0,.int .i64 0]) Tryz.underlying218 (by kernel_rfl) rfl (by decide)
abbrev Zg0 (w:World)(B:Nat)(v:Value)(n:Nat)(ps:List (Int×Int)):Prop:=Zad Zhy 2 w B 240 v n ps
theorem Zax.pair {w:World}(p:Int×Int):Zax Zhy 2 w [.int .i64 p.1,.int .i64 p.2] [p] :=
 Zax.one (vs:=fun j=>match j with|0=>.int .i64 p.1|_=>.int .i64 p.2) ⟨rfl,rfl⟩ rfl (fun j hj=>by
  match j,hj with
  | 0,_=>rfl
  | 1,_=>rfl)
theorem Zke {w:World}{b ty:Nat}{x y:Int}(h:Box w b ty #[.int .i64 x,.int .i64 y]):Zam w (some ⟨b,0,none⟩) 2 2 [x,y] :=
 ⟨rfl,Nat.le_refl _,by simp[maxLen],by omega,fun e=>(by cases e),fun _=>⟨b,0,rfl,h.lt,fun i z hz=>⟨fun _=>.int .i64 z,fun j hj=>by
  obtain rfl:j=0:=by omega
  match i,hz with
  | 0,hz=>simp only[List.getElem?_cons_zero,Option.some.injEq]at hz;subst hz;exact h.cell 0
  | 1,hz=>simp only[List.getElem?_cons_succ,List.getElem?_cons_zero,Option.some.injEq]at hz;subst hz;exact h.cell 1
  | i+2,hz=>simp at hz,rfl⟩⟩⟩
set_option maxHeartbeats 1000000 in
theorem Znn (w:World)(a b c d:Int) :
  Calls Tryz.prog 203 #[.agg #[.int .i64 a,.int .i64 b],.agg #[.int .i64 c,.int .i64 d]] w fun e w'=>e=.returned (.int .i64 (ZdB [a,b] [c,d])) ∧
   ∃q,w'=((w.alloc (.cells #[.int .i64 a,.int .i64 b] 240)).alloc (.cells #[.int .i64 c,.int .i64 d] 240)).drewN q:=by
 generalize hw0:(w.alloc (.cells #[.int .i64 a,.int .i64 b] 240)).alloc (.cells #[.int .i64 c,.int .i64 d] 240)=w0
 have X0:=Zaa (show Box w0 w.heap.size 240 #[.int .i64 a,.int .i64 b] by rw[←hw0];exact(Box.new _ _ _).old _)
 have X1:=Zaa (show Box w0 (w.heap.size+1) 240 #[.int .i64 c,.int .i64 d] by rw[←hw0];exact Box.newAt (by simp) _ _)
 have CM:=Zaa (fun q=>Zjc (Zke (X0.out.drewN q)) (Zke (X1.out.drewN q)))
 obtain⟨x0,x1⟩:=X0.out.two
 obtain⟨y0,y1⟩:=X1.out.two
 go_enter Tryz.func203,Tryz.ntmps203
 go_upto_region 1 with fail
 clear hw0
 go_quiet ((go_at_call 215;exact Zoy (CM.out _)))
 go_wp2
 go_ret
 exact⟨rfl,_,rfl⟩
abbrev Zlt:={p:Int×Int // okP p}
instance:Inhabited Zlt:=⟨⟨(1,1),⟨by decide,by decide⟩,⟨by decide,by decide⟩⟩⟩
def Zla (x:Zlt):List Value:=[.int .i64 x.1.1,.int .i64 x.1.2]
def Zta (x y:Zlt):Int:=ZdB [x.1.1,x.1.2] [y.1.1,y.1.2]
theorem Zub:Sort.SWO (ltOf Zta) where
 irrefl:=fun x=>decide_eq_false (by rw[Zta,Zkc];omega)
 trans:=fun x y z h g=>decide_eq_true (ZiD _ _ _ (of_decide_eq_true h) (of_decide_eq_true g))
 ntrans:=fun x y z h g=>decide_eq_false (Zhx _ _ _ (of_decide_eq_false h) (of_decide_eq_false g))
theorem Zlu {p q:Int×Int}(h:¬ZdB [q.1,q.2] [p.1,p.2]<0)(hne:p≠q):Zd5 p q:=by
 unfold Zd5
 simp only[ZdB]at h
 have hne2:p.1≠q.1∨p.2≠q.2:=by
  by_cases e:p.1=q.1
  ·right
   intro e2
   exact hne (Prod.ext e e2)
  ·exact .inl e
 split at h
 ·omega
 ·split at h
  ·omega
  ·split at h
   ·omega
   ·split at h
    ·omega
    ·omega
section
open Go.Sort
theorem Zlv {w:World} {base g cap n m size:Nat} {e:TypeId} {os:Array Obj} {cur:Array Value} {ts:List Value} (hl:ts.length=m*size) (hbase:base≤g) (hb:w.heap[g]?=some (.cells cur e (0,0)))
  (h1:m≤cap) (h2:cap≤maxLen) (h3:cur.size=cap*size) :
  (sortWorld id w g 0 n ts.toArray os).ownsRow base e size (.slice (some ⟨g,0,none⟩) m cap) m ts:=by
 refine⟨hl,.inr ⟨g,cap,_,rfl,hbase,ZoU _ hb,h1,h2,by simp[putCells,h3], ?_⟩⟩
 have:=ZoV (enc:=id) cur ts (by rw[hl,h3];exact Nat.mul_le_mul_right _ h1)
 rw[hl,List.map_id]at this
 exact this
end
theorem Zmy {d:Array Zlt}{i j:Nat}(hi:i<d.size)(hj:j<2):(flatK Zla 2 d).toList[i*2+j]?=some (Zla d[i])[j]!:=by
 have ht:i*2+j<d.size*2:=by omega
 have h1:=get_flatK Zla 2 d (i*2+j) ht
 rw[show(i*2+j) / 2=i by omega,show(i*2+j) % 2=j by omega,getElem!_pos d i hi]at h1
 rw[Array.getElem?_toList,←h1,getElem!_pos _ _ (by simp;omega),Array.getElem?_eq_getElem]
theorem Zno (w:World)(d:Array Zlt):Zax Zhy 2 w (flatK Zla 2 d).toList (d.toList.map (·.1)):=by
 refine⟨by simp,fun i x hx=>?_⟩
 rw[List.getElem?_map]at hx
 obtain⟨z,hz,rfl⟩:=Option.map_eq_some_iff.1 hx
 have hi:i<d.size:=by
  have:=(List.getElem?_eq_some_iff.1 hz).1
  simpa using this
 have ez:d[i]=z:=by
  rw[Array.getElem?_toList,Array.getElem?_eq_getElem hi]at hz
  injection hz
 refine⟨fun j=>(Zla z)[j]!,fun j hj=>?_,rfl,rfl⟩
 rw[Zmy hi hj,ez]
set_option maxHeartbeats 2000000 in
theorem Zij {w:World}{B n:Nat}{v:Value}{xs:List (Int×Int)}(h:Zg0 w B v n xs)(hok:∀x∈xs,okP x)(hn:n≤17592186044416) :
  Calls Tryz.prog 214 #[v,.func (.func 203) #[] #[]] w fun e w'=>e=.returned (.tuple #[])∧∃ys,ys.Perm xs∧ys.Pairwise (fun p q=>¬ZdB [q.1,q.2] [p.1,p.2]<0)∧Zg0 w' B v n ys∧w.grownBy w' v.ownBlock:=by
 obtain⟨cells,o1,o2,o3⟩:=h
 rcases o1.2 with⟨rfl,h0⟩|⟨g,cap,cur,rfl,hg,hb,h1,h2,h3,h4⟩
 ·obtain rfl:n=0:=by simpa using h0
  have hx:xs=[]:=List.eq_nil_of_length_eq_zero o3
  subst hx
  refine(Zdn (α:=Nat) none 0 _ w).mono ?_
  rintro e w' ⟨rfl,rfl⟩
  exact⟨rfl,[],.refl _,.nil,⟨cells,o1,o2,o3⟩,World.grownBy.refl _ _⟩
 ·obtain⟨ds,dl,dp⟩:=ZtL (α:=Zlt) (P:=fun i x=>xs[i]?=some x.1) n (fun i hi=>by
   have hx:xs[i]?=some (xs[i]'(by omega)):=List.getElem?_eq_getElem _
   exact⟨⟨_,hok _ (List.getElem_mem (by omega))⟩,hx⟩)
  have exs:xs=ds.map (·.1):=by
   apply List.ext_getElem?
   intro i
   rw[List.getElem?_map]
   cases hd:ds[i]? with
   | none =>
    have:ds.length≤i:=by simpa using hd
    rw[List.getElem?_eq_none (by omega)]
    rfl
   | some x=>rw[dp i x hd];rfl
  subst dl
  have ecells:cells=(flatK Zla 2 ds.toArray).toList:=by
   apply List.ext_getElem?
   intro t
   by_cases ht:t<ds.length*2
   ·obtain⟨i,j,rfl,hj⟩:∃i j,t=i*2+j∧j<2:=⟨t / 2,t % 2,by omega,by omega⟩
    have hi:i<ds.length:=by omega
    have hx:=dp i _ (List.getElem?_eq_getElem hi)
    obtain⟨vs,a1,a2,a3⟩:=o2.2 i _ hx
    rw[a1 j hj,Zmy (by simpa using hi) hj]
    match j,hj with
    | 0,_=>rw[a2];rfl
    | 1,_=>rw[a3];rfl
   ·rw[List.getElem?_eq_none (by rw[o1.1];omega),List.getElem?_eq_none (by simp;omega)]
  have hcmp:CmpLays Tryz.prog 203 #[] Zla 2 Zta g 0 ds.toArray.size w:=by
   intro m os dk hdk x y
   refine(Znn _ x.1.1 x.1.2 y.1.1 y.1.2).mono ?_
   rintro e w' ⟨rfl,q,rfl⟩
   refine⟨rfl,q,#[.cells #[.int .i64 x.1.1,.int .i64 x.1.2] 240,.cells #[.int .i64 y.1.1,.int .i64 y.1.2] 240], ?_⟩
   rw[Sort.alloc_eq_grow,Sort.alloc_eq_grow,Sort.grow_grow]
   rfl
  have hH:HoldsK Zla 2 w g 0 ds.toArray:=by
   have:=Zmx (enc:=(id:Value→Value)) (w:=w) (g:=g) (ss:=(flatK Zla 2 ds.toArray).toList) hb (by rw[←ecells,List.map_id,o1.1];exact h4)
   rw[show(flatK Zla 2 ds.toArray).toList.toArray=flatK Zla 2 ds.toArray from by simp]at this
   exact this
  refine(slices_SortFunc (α:=Zlt) 2 (fun w=>by kernel_rfl) (fun w=>by kernel_rfl) Zla (fun x=>rfl) (fun x v hv=>by
   rcases List.mem_cons.1 hv with rfl|hv
   ·rfl
   ·rw[List.mem_singleton.1 hv];rfl) Zta Zub 203 #[] g 0 cap ds.toArray w (fun args w=>by kernel_rfl) hcmp hH (Array.getElem?_eq_some_iff.1 hb).1 (by simp;omega)).mono ?_
  rintro e w' ⟨rfl,d',q,os,hp,hs,rfl⟩
  obtain⟨hsz,_,hperm⟩:=hp
  have hsz':d'.size=ds.length:=by simpa using hsz
  have hp2:d'.toList.Perm ds:=by
   have e1:(d'.extract 0 ds.toArray.size).toList=d'.toList:=by simp[←hsz']
   have e2:(ds.toArray.extract 0 ds.toArray.size).toList=ds:=by simp
   rw[e1,e2]at hperm
   exact hperm
  refine⟨rfl,d'.toList.map (·.1), ?_, ?_, ?_,ZiE (enc:=(id:Value→Value)) g q (flatK Zla 2 d') os⟩
  ·rw[exs];exact hp2.map _
  ·rw[List.pairwise_map,List.pairwise_iff_getElem]
   intro i j hi hj hij
   have:=hs i j (Nat.zero_le _) hij (by simp at hj;simp;omega)
   have hi':i<d'.size:=by simpa using hi
   have hj':j<d'.size:=by simpa using hj
   rw[getElem!_pos d' i hi',getElem!_pos d' j hj']at this
   unfold ltOf Zta at this
   have:=of_decide_eq_false this
   simpa using this
  ·have row:=Zlv (w:=w) (n:=q) (os:=os) (ts:=(flatK Zla 2 d').toList) (m:=ds.length) (size:=2) (base:=B) (by simp[hsz']) hg hb h1 h2 h3
   rw[show(flatK Zla 2 d').toList.toArray=flatK Zla 2 d' from by simp]at row
   exact⟨_,row,Zno _ d',by simp[hsz']⟩
set_option maxHeartbeats 2000000 in
theorem Zje {w:World}{b:Nat}{S:List (Int×Int)}(h:Zs8 w b S)(hl:S.length≤10000) :
  Calls Tryz.prog 202 #[.map (some b),.func (.func 203) #[] #[]] w fun e w'=>∃v n xs,e=.returned v∧Zg0 w' w.heap.size v n xs∧n≤10000∧(xs.Pairwise Zd5∧∀x,x∈xs↔x∈S)∧Below w.heap.size w w':=by
 obtain⟨h0,D,m,h1,hm,hs,h2⟩:=h
 have hbl:=h1.lt
 have H0:=Zaa h0
 have H2:=Zaa h2
 have SZ:=Zaa hs
 clear h0 h2 hs
 go_enter Tryz.func202,Tryz.ntmps202
 go_wp2_with (at_range;refine wpList_range_own _ rfl _ 272 rfl 240 _ ZoS.law Tryz.underlying272 unitElem b m D rfl h1 ?_;intro w0 hrg0 hg0 hs0)
 go_frame
 go_loopw [5] (fun u5 wr=>∃(left:Lit→Bool) (cnt n:Nat) (ss:List (Int×Int)),wr.ranges Tryz.prog 240 unitElem b w.heap.size m D left cnt∧Hid (ss.length+cnt≤Maps.size D)∧Hid (ZoP 240 kkP D left S ss)∧Hid (Zg0 wr w.heap.size u5 n ss)∧Hid (Below w.heap.size w wr)) (fun _ wr=>wr.rangeLeft b w.heap.size)
 case atStart=>exact⟨_,_,0,[],hrg0,by show 0+_≤_;omega,ZoP.start D S,Zad.nil,(Below.refl _ _).grown hg0 (Nat.le_refl _) (fun j hj=>by cases hj)⟩
 case round =>
  obtain⟨left,cnt,n,ss,hrg,hcs,hC,hO,hB⟩:=hrel
  go_wp2_with (at_next;refine wpList_next_ranges _ rfl _ rfl 240 ZoS.law unitElem (fun v=>v) (fun v=>v) (fun key kl hk=>⟨key,rfl⟩) (fun v y hv=>⟨v,rfl⟩) b w.heap.size m D left cnt rfl hrg ?_ ?_)
  ·intro hc0 hl0
   obtain⟨nd,mem⟩:=hC.out.fin ZoS H0.out H2.out hl0
   have ND:=Zaa nd
   have ME:=Zaa mem
   have hn:n≤10000:=by have:=hcs.out;have:=SZ.out;rw[←hO.out.len];omega
   clear nd mem hl0
   go_wp2_with fail
   refine(Zij hO.out (fun x hx=>H0.out x ((ME.out x).1 hx)) (by omega)).mono ?_
   rintro e w' ⟨rfl,ys,hp,hso,own,hg⟩
   have OY:=Zaa own
   have BY:=Zaa (hB.out.grown hg hB.out.size (fun k e=>(hO.out.lt k e).1))
   have FY:=Zaa (show ys.Pairwise Zd5∧∀x,x∈ys↔x∈S from⟨(List.Pairwise.and hso (hp.nodup_iff.2 ND.out)).imp (fun{a b} ⟨e1,e2⟩=>Zlu e1 e2),fun x=>(hp.mem_iff).trans (ME.out x)⟩)
   clear own hg hp hso
   go_wp2
   go_ret
   exact⟨_,n,ys,rfl,OY.out,hn,FY.out,BY.out⟩
  ·intro x c kl yd yp w2 cnt2 hkey hlk hv hat hrg2 hlt hg2 hs2 hen
   obtain⟨z,hz,ekl⟩:=(H2.out x kl hkey).1 (has_true_of_atKey hat)
   subst ekl
   have hok:=H0.out z hz
   obtain rfl:x=.agg #[.int .i64 z.1,.int .i64 z.2]:=ZoS.law.inj hkey (ZoS.key z hok)
   obtain⟨rfl,_⟩:=unitElem_inv hv
   have hCn:=Zaa (hC.out.step ZoS hz hok hlk)
   have hO2:=Zaa (Zad.kept hO.out hg2 (by
    have:=row_ne_iter (Exists.choose_spec hO.out).1 hrg
    exact .inr (fun e=>this e.symm)) (fun _ _ h=>h))
   have hB2:=Zaa (hB.out.grown hg2 hB.out.size (fun k e=>by cases e;exact Nat.le_refl _))
   have bb:=Zab w2 (.cells #[.int .i64 z.1,.int .i64 z.2] 240)
   have RG:=Zaa (hrg2.alloc (.cells #[.int .i64 z.1,.int .i64 z.2] 240))
   have XB:=Zaa (Box.new w2 #[.int .i64 z.1,.int .i64 z.2] 240)
   have O3:=Zaa (Zad.keep Zhy.kept hO2.out bb)
   have B3:=Zaa (hB2.out.trans (bb.mono hB2.out.size))
   have LTC:=Zaa hlt
   have HLE:=Zaa hrg.left_eq
   have hn:n≤10000:=by have:=hcs.out;have:=SZ.out;rw[←hO.out.len];omega
   clear hs2 hkey hlk hv hat hrg2 hg2 hrg hlt hz bb
   go_upto_region 5 with fail
   generalize w2.alloc (.cells #[.int .i64 z.1,.int .i64 z.2] 240)=w3 at *
   obtain⟨z0,z1⟩:=XB.out.two
   go_wp2_with (at_builtin;refine Zbv (v:=u5) Zsj rfl _ _ rfl [z] #[.int .i64 z.1,.int .i64 z.2] rfl rfl rfl rfl (by simp[Value.oneCell']) O3.out (Zax.pair z) rfl B3.out B3.out.size (by omega) (by omega) (fun _ _ _ _ h=>h) ?_;intro v8 w8 own8 hg8 hb8;have O8:=Zaa own8;have E8:=Zaa hb8;have R8:=Zaa (RG.out.kept hg8 (row_ne_low (Exists.choose_spec O3.out).1 hbl) (row_ne_iter (Exists.choose_spec O3.out).1 RG.out));clear own8 hg8 hb8)
   go_roundw
   case rel=>exact⟨_,cnt2,n+1,ss++[z],R8.out,by have h1:=hcs.out;have h2:=LTC.out;show(ss++[z]).length+cnt2≤_;simp;omega,hCn,O8,E8⟩
   case measure=>rw[R8.out.left_eq,HLE.out];exact LTC.out
end Go.Proofs.YtfmnagcglhlicaaGreat
namespace Go.Proofs.YtfmnagcglhlicaaGreat
structure TrP (log:List (List Int))(k:Nat)(t:List Int)(j:Nat)(S1 S2 S3:List Int)(S4:List (Int×Int)):Prop where
 m1:∀x,x∈S1↔(ZsV (log.take k) x∨x∈t.take j)
 m2:∀x,x∈S2↔(ZiA (log.take k) x∨(0<j∧t.head?=some x))
 m3:∀x,x∈S3↔(Znj (log.take k) x∨(0<j∧j=t.length∧t.getLast?=some x))
 m4:∀p:Int×Int,p∈S4↔(ZsW (log.take k) p∨∃i,i+1<j∧t[i]?=some p.1∧t[i+1]?=some p.2)
 l1:S1.length≤61*k+j
 l2:S2.length≤61*k+j
 l3:S3.length≤61*k+j
 l4:S4.length≤61*k+j
section
variable {log:List (List Int)} {k:Nat} {t:List Int} {j:Nat} {S1 S2 S3:List Int} {S4:List (Int×Int)}
theorem TrP.start (log:List (List Int)):TrP log 0 [] 0 [] [] [] []:=by
 refine⟨fun x=>?_,fun x=>?_,fun x=>?_,fun p=>?_,by simp,by simp,by simp,by simp⟩
 ·constructor
  ·intro h;cases h
  ·rintro(⟨t,ht,_⟩|h)
   ·simp at ht
   ·simp at h
 ·constructor
  ·intro h;cases h
  ·rintro(⟨t,ht,_⟩|h)
   ·simp at ht
   ·omega
 ·constructor
  ·intro h;cases h
  ·rintro(⟨t,ht,_⟩|h)
   ·simp at ht
   ·omega
 ·constructor
  ·intro h;cases h
  ·rintro(⟨t,ht,_⟩|⟨i,h,_⟩)
   ·simp at ht
   ·omega
theorem TrP.enter (h:TrP log k [] 0 S1 S2 S3 S4)(t:List Int):TrP log k t 0 S1 S2 S3 S4:=by
 obtain⟨h1,h2,h3,h4,l1,l2,l3,l4⟩:=h
 refine⟨fun x=>by rw[h1];simp,fun x=>by rw[h2];simp,fun x=>by rw[h3];simp,fun p=>by rw[h4];simp,l1,l2,l3,l4⟩
theorem TrP.step (h:TrP log k t j S1 S2 S3 S4) {a:Int} (ha:t[j]?=some a) {T2 T3:List Int} {T4:List (Int×Int)}
  (e2:T2=if j=0 then a::S2 else S2) (e3:T3=if j+1=t.length then a::S3 else S3) (e4:(j=0∧T4=S4)∨∃b i,j=i+1∧t[i]?=some b∧T4=(b,a)::S4):TrP log k t (j+1) (a::S1) T2 T3 T4:=by
 obtain⟨h1,h2,h3,h4,l1,l2,l3,l4⟩:=h
 have hj:=(List.getElem?_eq_some_iff.1 ha).1
 refine⟨fun x=>?_,fun x=>?_,fun x=>?_,fun p=>?_,by rw[List.length_cons];omega, ?_, ?_, ?_⟩
 ·rw[List.mem_cons,h1,ZaK ha,List.mem_append,List.mem_singleton]
  constructor
  ·rintro(h|h|h)
   ·exact .inr (.inr h)
   ·exact .inl h
   ·exact .inr (.inl h)
  ·rintro(h|h|h)
   ·exact .inr (.inl h)
   ·exact .inr (.inr h)
   ·exact .inl h
 ·subst e2
  split
  ·rename_i e
   subst e
   rw[List.mem_cons,h2]
   have hh:t.head?=some a:=by
    cases t with
    | nil=>simp at hj
    | cons b t=>simpa using ha
   rw[hh]
   constructor
   ·rintro(h|h|h)
    ·exact .inr ⟨by omega,by rw[h]⟩
    ·exact .inl h
    ·omega
   ·rintro(h|⟨_,h⟩)
    ·exact .inr (.inl h)
    ·injection h with h
     exact .inl h.symm
  ·rename_i e
   rw[h2]
   constructor
   ·rintro(h|h)
    ·exact .inl h
    ·exact .inr ⟨by omega,h.2⟩
   ·rintro(h|h)
    ·exact .inl h
    ·exact .inr ⟨by omega,h.2⟩
 ·subst e3
  split
  ·rename_i e
   have hh:t.getLast?=some a:=by
    rw[List.getLast?_eq_getElem?,show t.length-1=j by omega];exact ha
   rw[List.mem_cons,h3,hh]
   constructor
   ·rintro(h|h|h)
    ·exact .inr ⟨by omega,e,by rw[h]⟩
    ·exact .inl h
    ·omega
   ·rintro(h|⟨_,_,h⟩)
    ·exact .inr (.inl h)
    ·injection h with h
     exact .inl h.symm
  ·rename_i e
   rw[h3]
   constructor
   ·rintro(h|h)
    ·exact .inl h
    ·omega
   ·rintro(h|h)
    ·exact .inl h
    ·omega
 ·rcases e4 with⟨e,rfl⟩|⟨b,i,e,hb,rfl⟩
  ·subst e
   rw[h4]
   constructor
   ·rintro(h|⟨i,h,_⟩)
    ·exact .inl h
    ·omega
   ·rintro(h|⟨i,h,_⟩)
    ·exact .inl h
    ·omega
  ·subst e
   rw[List.mem_cons,h4]
   constructor
   ·rintro(h|h|⟨q,h,g⟩)
    ·subst h
     exact .inr ⟨i,by omega,hb,ha⟩
    ·exact .inl h
    ·exact .inr ⟨q,by omega,g⟩
   ·rintro(h|⟨q,h,g1,g2⟩)
    ·exact .inr (.inl h)
    ·by_cases eq:q=i
     ·subst eq
      rw[hb]at g1
      rw[ha]at g2
      injection g1 with g1
      injection g2 with g2
      exact .inl (Prod.ext g1.symm g2.symm)
     ·exact .inr (.inr ⟨q,by omega,g1,g2⟩)
 ·subst e2
  split
  ·rw[List.length_cons];omega
  ·omega
 ·subst e3
  split
  ·rw[List.length_cons];omega
  ·omega
 ·rcases e4 with⟨_,rfl⟩|⟨b,i,_,_,rfl⟩
  ·omega
  ·rw[List.length_cons];omega
theorem Zb2 {log:List (List Int)}{k:Nat}{t:List Int}(h:log[k]?=some t)(u:List Int):u∈log.take (k+1)↔u∈log.take k∨u=t:=by
 rw[ZaK h,List.mem_append,List.mem_singleton]
theorem TrP.leave (h:TrP log k t t.length S1 S2 S3 S4)(ht:log[k]?=some t)(hl:t.length≤60):TrP log (k+1) [] 0 S1 S2 S3 S4:=by
 obtain⟨h1,h2,h3,h4,l1,l2,l3,l4⟩:=h
 refine⟨fun x=>?_,fun x=>?_,fun x=>?_,fun p=>?_,by omega,by omega,by omega,by omega⟩
 ·rw[h1,List.take_length]
  unfold ZsV
  constructor
  ·rintro(⟨u,hu,hx⟩|hx)
   ·exact .inl ⟨u,(Zb2 ht u).2 (.inl hu),hx⟩
   ·exact .inl ⟨t,(Zb2 ht t).2 (.inr rfl),hx⟩
  ·rintro(⟨u,hu,hx⟩|hx)
   ·rcases(Zb2 ht u).1 hu with hu|rfl
    ·exact .inl ⟨u,hu,hx⟩
    ·exact .inr hx
   ·simp at hx
 ·rw[h2]
  unfold ZiA
  constructor
  ·rintro(⟨u,hu,hx⟩|⟨_,hx⟩)
   ·exact .inl ⟨u,(Zb2 ht u).2 (.inl hu),hx⟩
   ·exact .inl ⟨t,(Zb2 ht t).2 (.inr rfl),hx⟩
  ·rintro(⟨u,hu,hx⟩|hx)
   ·rcases(Zb2 ht u).1 hu with hu|rfl
    ·exact .inl ⟨u,hu,hx⟩
    ·refine .inr ⟨?_,hx⟩
     cases u with
     | nil=>cases hx
     | cons b u=>simp
   ·omega
 ·rw[h3]
  unfold Znj
  constructor
  ·rintro(⟨u,hu,hx⟩|⟨_,_,hx⟩)
   ·exact .inl ⟨u,(Zb2 ht u).2 (.inl hu),hx⟩
   ·exact .inl ⟨t,(Zb2 ht t).2 (.inr rfl),hx⟩
  ·rintro(⟨u,hu,hx⟩|hx)
   ·rcases(Zb2 ht u).1 hu with hu|rfl
    ·exact .inl ⟨u,hu,hx⟩
    ·refine .inr ⟨?_,rfl,hx⟩
     cases u with
     | nil=>cases hx
     | cons b u=>simp
   ·omega
 ·rw[h4]
  unfold ZsW
  constructor
  ·rintro(⟨u,hu,hx⟩|⟨i,_,hx⟩)
   ·exact .inl ⟨u,(Zb2 ht u).2 (.inl hu),hx⟩
   ·exact .inl ⟨t,(Zb2 ht t).2 (.inr rfl),i,hx⟩
  ·rintro(⟨u,hu,i,hx⟩|⟨i,h,_⟩)
   ·rcases(Zb2 ht u).1 hu with hu|rfl
    ·exact .inl ⟨u,hu,i,hx⟩
    ·exact .inr ⟨i,(List.getElem?_eq_some_iff.1 hx.2).1,hx⟩
   ·omega
theorem TrP.fin (h:TrP log log.length [] 0 S1 S2 S3 S4):(∀x,x∈S1↔ZsV log x)∧(∀x,x∈S2↔ZiA log x)∧(∀x,x∈S3↔Znj log x)∧∀p,p∈S4↔ZsW log p:=by
 obtain⟨h1,h2,h3,h4,_⟩:=h
 rw[List.take_length]at h1 h2 h3 h4
 refine⟨fun x=>by rw[h1];simp,fun x=>by rw[h2];simp,fun x=>by rw[h3];simp,fun p=>by rw[h4];simp⟩
end
end Go.Proofs.YtfmnagcglhlicaaGreat
