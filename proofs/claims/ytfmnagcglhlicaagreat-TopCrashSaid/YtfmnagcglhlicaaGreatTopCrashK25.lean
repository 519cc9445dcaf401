/- Texts melted into one: The contracts of tracks.pair and of sorted at pairs. Conditions: the labels are 1 to 26. | What the sets of tracks.Of hold so far: the plain law. No program in sight. -/
import Derived.Test.YtfmnagcglhlicaaGreatTopCrashK24
set_option maxRecDepth 100000
set_option maxHeartbeats 2000000
namespace Go.Proofs.YtfmnagcglhlicaaGreat
open Go.RowKit Go.Maps
open Go.Sort (flatK get_flatK size_flatK HoldsK)
def vF:World→(Nat→Value)→Int×Int→Prop:=fun _ vs p=>vs 0=.int .i64 p.1∧vs 1=.int .i64 p.2
theorem vF.kept:t8 vF:=fun _ _ _ _ _ h=>h
abbrev wT (w:World)(A:OAd)(n c:Nat)(ps:List (Int×Int)):Prop:=Sl vF 2 w A n c ps
theorem U5:mC 218 240 2 16:=mC.mk' (z:=.agg #[.int .i64 0,.int .i64 0]) Tryz.underlying218 (by kernel_rfl) rfl (by decide)
abbrev tQ (w:World)(B:Nat)(v:Value)(n:Nat)(ps:List (Int×Int)):Prop:=aC vF 2 w B 240 v n ps
theorem a6.pair {w:World}(p:Int×Int):a6 vF 2 w [.int .i64 p.1,.int .i64 p.2] [p] :=
 a6.one (vs:=fun j=>match j with|0=>.int .i64 p.1|_=>.int .i64 p.2) ⟨rfl,rfl⟩ rfl (fun j hj=>by
  match j,hj with
  | 0,_=>rfl
  | 1,_=>rfl)
theorem Du {w:World}{b ty:Nat}{x y:Int}(h:Box w b ty #[.int .i64 x,.int .i64 y]):aJ w (some ⟨b,0,none⟩) 2 2 [x,y] :=
 ⟨rfl,Nat.le_refl _,by simp[maxLen],by omega,fun e=>(by cases e),fun _=>⟨b,0,rfl,h.lt,fun i z hz=>⟨fun _=>.int .i64 z,fun j hj=>by
  obtain rfl:j=0:=by omega
  match i,hz with
  | 0,hz=>simp only[List.getElem?_cons_zero,Option.some.injEq]at hz;subst hz;exact h.cell 0
  | 1,hz=>simp only[List.getElem?_cons_succ,List.getElem?_cons_zero,Option.some.injEq]at hz;subst hz;exact h.cell 1
  | i+2,hz=>simp at hz,rfl⟩⟩⟩
theorem Kv (w:World)(a b c d:Int) :
  Calls Tryz.prog 203 #[.agg #[.int .i64 a,.int .i64 b],.agg #[.int .i64 c,.int .i64 d]] w fun e w'=>e=.returned (.int .i64 (lC [a,b] [c,d])) ∧
   ∃q,w'=((w.alloc (.cells #[.int .i64 a,.int .i64 b] 240)).alloc (.cells #[.int .i64 c,.int .i64 d] 240)).drewN q:=by
 generalize hw0:(w.alloc (.cells #[.int .i64 a,.int .i64 b] 240)).alloc (.cells #[.int .i64 c,.int .i64 d] 240)=w0;have X0:=aA (show Box w0 w.heap.size 240 #[.int .i64 a,.int .i64 b] by rw[←hw0];exact(Box.new _ _ _).old _);have X1:=aA (show Box w0 (w.heap.size+1) 240 #[.int .i64 c,.int .i64 d] by rw[←hw0];exact Box.newAt (by simp) _ _);have CM:=aA (fun q=>zI (Du (X0.o.drewN q)) (Du (X1.o.drewN q)));obtain⟨x0,x1⟩:=X0.o.two;obtain⟨y0,y1⟩:=X1.o.two;go_enter Tryz.func203,Tryz.ntmps203
 go_upto_region 1 with fail
 clear hw0;go_quiet ((go_at_call 215;exact Nq (CM.o _)))
 go_wp2
 go_ret
 exact⟨rfl,_,rfl⟩
abbrev Gj:={p:Int×Int // okP p}
instance:Inhabited Gj:=⟨⟨(1,1),⟨by decide,by decide⟩,⟨by decide,by decide⟩⟩⟩
def Ey (x:Gj):List Value:=[.int .i64 x.1.1,.int .i64 x.1.2]
def We (x y:Gj):Int:=lC [x.1.1,x.1.2] [y.1.1,y.1.2]
theorem Xz:Sort.SWO (ltOf We) where
 irrefl:=fun x=>decide_eq_false (by rw[We,Ds];omega)
 trans:=fun x y z h g=>decide_eq_true (yB _ _ _ (of_decide_eq_true h) (of_decide_eq_true g))
 ntrans:=fun x y z h g=>decide_eq_false (vE _ _ _ (of_decide_eq_false h) (of_decide_eq_false g))
theorem Gk {p q:Int×Int}(h:¬lC [q.1,q.2] [p.1,p.2]<0)(hne:p≠q):lZ p q:=by
 unfold lZ;simp only[lC]at h;have hne2:p.1≠q.1∨p.2≠q.2:=by
  by_cases e:p.1=q.1
  ·right
   intro e2;exact hne (Prod.ext e e2)
  ·exact .inl e
 split at h
 ·omega
 ·split at h
  ·omega
  ·split at h
   ·omega
   ·split at h
    ·omega
    ·omega
section
open Go.Sort
theorem Gl {w:World} {base g cap n m size:Nat} {e:TypeId} {os:Array Obj} {cur:Array Value} {ts:List Value} (hl:ts.length=m*size) (hbase:base≤g) (hb:w.heap[g]?=some (.cells cur e (0,0)))
  (h1:m≤cap) (h2:cap≤maxLen) (h3:cur.size=cap*size) :
  (sortWorld id w g 0 n ts.toArray os).ownsRow base e size (.slice (some ⟨g,0,none⟩) m cap) m ts:=by
 refine⟨hl,.inr ⟨g,cap,_,rfl,hbase,Oz _ hb,h1,h2,by simp[putCells,h3], ?_⟩⟩;have:=OG (enc:=id) cur ts (by rw[hl,h3];exact Nat.mul_le_mul_right _ h1);rw[hl,List.map_id]at this;exact this
end
theorem Ix {d:Array Gj}{i j:Nat}(hi:i<d.size)(hj:j<2):(flatK Ey 2 d).toList[i*2+j]?=some (Ey d[i])[j]!:=by
 have ht:i*2+j<d.size*2:=by omega
 have h1:=get_flatK Ey 2 d (i*2+j) ht;rw[show(i*2+j) / 2=i by omega,show(i*2+j) % 2=j by omega,getElem!_pos d i hi]at h1;rw[Array.getElem?_toList,←h1,getElem!_pos _ _ (by simp;omega),Array.getElem?_eq_getElem]
theorem Kw (w:World)(d:Array Gj):a6 vF 2 w (flatK Ey 2 d).toList (d.toList.map (·.1)):=by
 refine⟨by simp,fun i x hx=>?_⟩;rw[List.getElem?_map]at hx;obtain⟨z,hz,rfl⟩:=Option.map_eq_some_iff.1 hx;have hi:i<d.size:=by
  have:=(List.getElem?_eq_some_iff.1 hz).1;simpa using this
 have ez:d[i]=z:=by
  rw[Array.getElem?_toList,Array.getElem?_eq_getElem hi]at hz;injection hz
 refine⟨fun j=>(Ey z)[j]!,fun j hj=>?_,rfl,rfl⟩;rw[Ix hi hj,ez]
theorem wU {w:World}{B n:Nat}{v:Value}{xs:List (Int×Int)}(h:tQ w B v n xs)(hok:∀x∈xs,okP x)(hn:n≤17592186044416) :
  Calls Tryz.prog 214 #[v,.func (.func 203) #[] #[]] w fun e w'=>e=.returned (.tuple #[])∧∃ys,ys.Perm xs∧ys.Pairwise (fun p q=>¬lC [q.1,q.2] [p.1,p.2]<0)∧tQ w' B v n ys∧w.grownBy w' v.ownBlock:=by
 obtain⟨cells,o1,o2,o3⟩:=h;rcases o1.2 with⟨rfl,h0⟩|⟨g,cap,cur,rfl,hg,hb,h1,h2,h3,h4⟩
 ·obtain rfl:n=0:=by simpa using h0
  have hx:xs=[]:=List.eq_nil_of_length_eq_zero o3;subst hx;refine(kH (α:=Nat) none 0 _ w).mono ?_;rintro e w' ⟨rfl,rfl⟩;exact⟨rfl,[],.refl _,.nil,⟨cells,o1,o2,o3⟩,World.grownBy.refl _ _⟩
 ·obtain⟨ds,dl,dp⟩:=Xc (α:=Gj) (P:=fun i x=>xs[i]?=some x.1) n (fun i hi=>by
   have hx:xs[i]?=some (xs[i]'(by omega)):=List.getElem?_eq_getElem _;exact⟨⟨_,hok _ (List.getElem_mem (by omega))⟩,hx⟩)
  have exs:xs=ds.map (·.1):=by
   apply List.ext_getElem?
   intro i;rw[List.getElem?_map];cases hd:ds[i]? with
   | none =>
    have:ds.length≤i:=by simpa using hd
    rw[List.getElem?_eq_none (by omega)];rfl
   | some x=>rw[dp i x hd];rfl
  subst dl;have ecells:cells=(flatK Ey 2 ds.toArray).toList:=by
   apply List.ext_getElem?
   intro t;by_cases ht:t<ds.length*2
   ·obtain⟨i,j,rfl,hj⟩:∃i j,t=i*2+j∧j<2:=⟨t / 2,t % 2,by omega,by omega⟩;have hi:i<ds.length:=by omega
    have hx:=dp i _ (List.getElem?_eq_getElem hi);obtain⟨vs,a1,a2,a3⟩:=o2.2 i _ hx;rw[a1 j hj,Ix (by simpa using hi) hj];match j,hj with
    | 0,_=>rw[a2];rfl
    | 1,_=>rw[a3];rfl
   ·rw[List.getElem?_eq_none (by rw[o1.1];omega),List.getElem?_eq_none (by simp;omega)]
  have hcmp:CmpLays Tryz.prog 203 #[] Ey 2 We g 0 ds.toArray.size w:=by
   intro m os dk hdk x y;refine(Kv _ x.1.1 x.1.2 y.1.1 y.1.2).mono ?_;rintro e w' ⟨rfl,q,rfl⟩;refine⟨rfl,q,#[.cells #[.int .i64 x.1.1,.int .i64 x.1.2] 240,.cells #[.int .i64 y.1.1,.int .i64 y.1.2] 240], ?_⟩;rw[Sort.alloc_eq_grow,Sort.alloc_eq_grow,Sort.grow_grow];rfl
  have hH:HoldsK Ey 2 w g 0 ds.toArray:=by
   have:=Iw (enc:=(id:Value→Value)) (w:=w) (g:=g) (ss:=(flatK Ey 2 ds.toArray).toList) hb (by rw[←ecells,List.map_id,o1.1];exact h4);rw[show(flatK Ey 2 ds.toArray).toList.toArray=flatK Ey 2 ds.toArray from by simp]at this;exact this
  refine(slices_SortFunc (α:=Gj) 2 (fun w=>by kernel_rfl) (fun w=>by kernel_rfl) Ey (fun x=>rfl) (fun x v hv=>by
   rcases List.mem_cons.1 hv with rfl|hv
   ·rfl
   ·rw[List.mem_singleton.1 hv];rfl) We Xz 203 #[] g 0 cap ds.toArray w (fun args w=>by kernel_rfl) hcmp hH (Array.getElem?_eq_some_iff.1 hb).1 (by simp;omega)).mono ?_
  rintro e w' ⟨rfl,d',q,os,hp,hs,rfl⟩;obtain⟨hsz,_,hperm⟩:=hp;have hsz':d'.size=ds.length:=by simpa using hsz
  have hp2:d'.toList.Perm ds:=by
   have e1:(d'.extract 0 ds.toArray.size).toList=d'.toList:=by simp[←hsz']
   have e2:(ds.toArray.extract 0 ds.toArray.size).toList=ds:=by simp
   rw[e1,e2]at hperm;exact hperm
  refine⟨rfl,d'.toList.map (·.1), ?_, ?_, ?_,yC (enc:=(id:Value→Value)) g q (flatK Ey 2 d') os⟩
  ·rw[exs];exact hp2.map _
  ·rw[List.pairwise_map,List.pairwise_iff_getElem];intro i j hi hj hij;have:=hs i j (Nat.zero_le _) hij (by simp at hj;simp;omega);have hi':i<d'.size:=by simpa using hi
   have hj':j<d'.size:=by simpa using hj
   rw[getElem!_pos d' i hi',getElem!_pos d' j hj']at this;unfold ltOf We at this;have:=of_decide_eq_false this;simpa using this
  ·have row:=Gl (w:=w) (n:=q) (os:=os) (ts:=(flatK Ey 2 d').toList) (m:=ds.length) (size:=2) (base:=B) (by simp[hsz']) hg hb h1 h2 h3;rw[show(flatK Ey 2 d').toList.toArray=flatK Ey 2 d' from by simp]at row;exact⟨_,row,Kw _ d',by simp[hsz']⟩
theorem zK {w:World}{b:Nat}{S:List (Int×Int)}(h:Wb w b S)(hl:S.length≤10000) :
  Calls Tryz.prog 202 #[.map (some b),.func (.func 203) #[] #[]] w fun e w'=>∃v n xs,e=.returned v∧tQ w' w.heap.size v n xs∧n≤10000∧(xs.Pairwise lZ∧∀x,x∈xs↔x∈S)∧Below w.heap.size w w':=by
 obtain⟨h0,D,m,h1,hm,hs,h2⟩:=h;have hbl:=h1.lt;have H0:=aA h0;have H2:=aA h2;have SZ:=aA hs;clear h0 h2 hs;go_enter Tryz.func202,Tryz.ntmps202
 go_wp2_with (at_range;refine wpList_range_own _ rfl _ 272 rfl 240 _ Ox.law Tryz.underlying272 unitElem b m D rfl h1 ?_;intro w0 hrg0 hg0 hs0)
 go_frame
 go_loopw [5] (fun u5 wr=>∃(left:Lit→Bool) (cnt n:Nat) (ss:List (Int×Int)),wr.ranges Tryz.prog 240 unitElem b w.heap.size m D left cnt∧Hid (ss.length+cnt≤Maps.size D)∧Hid (Ot 240 kkP D left S ss)∧Hid (tQ wr w.heap.size u5 n ss)∧Hid (Below w.heap.size w wr)) (fun _ wr=>wr.rangeLeft b w.heap.size)
 case atStart=>exact⟨_,_,0,[],hrg0,by show 0+_≤_;omega,Ot.start D S,aC.nil,(Below.refl _ _).grown hg0 (Nat.le_refl _) (fun j hj=>by cases hj)⟩
 case round =>
  obtain⟨left,cnt,n,ss,hrg,hcs,hC,hO,hB⟩:=hrel;go_wp2_with (at_next;refine wpList_next_ranges _ rfl _ rfl 240 Ox.law unitElem (fun v=>v) (fun v=>v) (fun key kl hk=>⟨key,rfl⟩) (fun v y hv=>⟨v,rfl⟩) b w.heap.size m D left cnt rfl hrg ?_ ?_)
  ·intro hc0 hl0;obtain⟨nd,mem⟩:=hC.o.fin Ox H0.o H2.o hl0;have ND:=aA nd;have ME:=aA mem;have hn:n≤10000:=by have:=hcs.o;have:=SZ.o;rw[←hO.o.len];omega
   clear nd mem hl0;go_wp2_with fail
   refine(wU hO.o (fun x hx=>H0.o x ((ME.o x).1 hx)) (by omega)).mono ?_;rintro e w' ⟨rfl,ys,hp,hso,own,hg⟩;have OY:=aA own;have BY:=aA (hB.o.grown hg hB.o.size (fun k e=>(hO.o.lt k e).1));have FY:=aA (show ys.Pairwise lZ∧∀x,x∈ys↔x∈S from⟨(List.Pairwise.and hso (hp.nodup_iff.2 ND.o)).imp (fun{a b} ⟨e1,e2⟩=>Gk e1 e2),fun x=>(hp.mem_iff).trans (ME.o x)⟩);clear own hg hp hso;go_wp2
   go_ret
   exact⟨_,n,ys,rfl,OY.o,hn,FY.o,BY.o⟩
  ·intro x c kl yd yp w2 cnt2 hkey hlk hv hat hrg2 hlt hg2 hs2 hen;obtain⟨z,hz,ekl⟩:=(H2.o x kl hkey).1 (has_true_of_atKey hat);subst ekl;have hok:=H0.o z hz;obtain rfl:x=.agg #[.int .i64 z.1,.int .i64 z.2]:=Ox.law.inj hkey (Ox.key z hok);obtain⟨rfl,_⟩:=unitElem_inv hv;have hCn:=aA (hC.o.step Ox hz hok hlk);have hO2:=aA (aC.kept hO.o hg2 (by
    have:=row_ne_iter (Exists.choose_spec hO.o).1 hrg;exact .inr (fun e=>this e.symm)) (fun _ _ h=>h))
   have hB2:=aA (hB.o.grown hg2 hB.o.size (fun k e=>by cases e;exact Nat.le_refl _));have bb:=aB w2 (.cells #[.int .i64 z.1,.int .i64 z.2] 240);have RG:=aA (hrg2.alloc (.cells #[.int .i64 z.1,.int .i64 z.2] 240));have XB:=aA (Box.new w2 #[.int .i64 z.1,.int .i64 z.2] 240);have O3:=aA (aC.keep vF.kept hO2.o bb);have B3:=aA (hB2.o.trans (bb.mono hB2.o.size));have LTC:=aA hlt;have HLE:=aA hrg.left_eq;have hn:n≤10000:=by have:=hcs.o;have:=SZ.o;rw[←hO.o.len];omega
   clear hs2 hkey hlk hv hat hrg2 hg2 hrg hlt hz bb;go_upto_region 5 with fail
   generalize w2.alloc (.cells #[.int .i64 z.1,.int .i64 z.2] 240)=w3 at *
   obtain⟨z0,z1⟩:=XB.o.two;go_wp2_with (at_builtin;refine bY (v:=u5) U5 rfl _ _ rfl [z] #[.int .i64 z.1,.int .i64 z.2] rfl rfl rfl rfl (by simp[Value.oneCell']) O3.o (a6.pair z) rfl B3.o B3.o.size (by omega) (by omega) (fun _ _ _ _ h=>h) ?_;intro v8 w8 own8 hg8 hb8;have O8:=aA own8;have E8:=aA hb8;have R8:=aA (RG.o.kept hg8 (row_ne_low (Exists.choose_spec O3.o).1 hbl) (row_ne_iter (Exists.choose_spec O3.o).1 RG.o));clear own8 hg8 hb8)
   go_roundw
   case rel=>exact⟨_,cnt2,n+1,ss++[z],R8.o,by have h1:=hcs.o;have h2:=LTC.o;show(ss++[z]).length+cnt2≤_;simp;omega,hCn,O8,E8⟩
   case measure=>rw[R8.o.left_eq,HLE.o];exact LTC.o
end Go.Proofs.YtfmnagcglhlicaaGreat
namespace Go.Proofs.YtfmnagcglhlicaaGreat
structure TrP (log:LLi)(k:Nat)(t:LIn)(j:Nat)(S1 S2 S3:LIn)(S4:List (Int×Int)):Prop where
 m1:∀x,x∈S1↔(VI (log.take k) x∨x∈t.take j)
 m2:∀x,x∈S2↔(yA (log.take k) x∨(0<j∧t.head?=some x))
 m3:∀x,x∈S3↔(Kr (log.take k) x∨(0<j∧j=t.length∧t.getLast?=some x))
 m4:∀p:Int×Int,p∈S4↔(VJ (log.take k) p∨∃i,i+1<j∧t[i]?=some p.1∧t[i+1]?=some p.2)
 l1:S1.length≤61*k+j
 l2:S2.length≤61*k+j
 l3:S3.length≤61*k+j
 l4:S4.length≤61*k+j
section
variable {log:LLi} {k:Nat} {t:LIn} {j:Nat} {S1 S2 S3:LIn} {S4:List (Int×Int)}
theorem TrP.start (log:LLi):TrP log 0 [] 0 [] [] [] []:=by
 refine⟨fun x=>?_,fun x=>?_,fun x=>?_,fun p=>?_,by simp,by simp,by simp,by simp⟩
 ·constructor
  ·intro h;cases h
  ·rintro(⟨t,ht,_⟩|h)
   ·simp at ht
   ·simp at h
 ·constructor
  ·intro h;cases h
  ·rintro(⟨t,ht,_⟩|h)
   ·simp at ht
   ·omega
 ·constructor
  ·intro h;cases h
  ·rintro(⟨t,ht,_⟩|h)
   ·simp at ht
   ·omega
 ·constructor
  ·intro h;cases h
  ·rintro(⟨t,ht,_⟩|⟨i,h,_⟩)
   ·simp at ht
   ·omega
theorem TrP.enter (h:TrP log k [] 0 S1 S2 S3 S4)(t:LIn):TrP log k t 0 S1 S2 S3 S4:=by
 obtain⟨h1,h2,h3,h4,l1,l2,l3,l4⟩:=h;refine⟨fun x=>by rw[h1];simp,fun x=>by rw[h2];simp,fun x=>by rw[h3];simp,fun p=>by rw[h4];simp,l1,l2,l3,l4⟩
theorem TrP.step (h:TrP log k t j S1 S2 S3 S4) {a:Int} (ha:t[j]?=some a) {T2 T3:LIn} {T4:List (Int×Int)}
  (e2:T2=if j=0 then a::S2 else S2) (e3:T3=if j+1=t.length then a::S3 else S3) (e4:(j=0∧T4=S4)∨∃b i,j=i+1∧t[i]?=some b∧T4=(b,a)::S4):TrP log k t (j+1) (a::S1) T2 T3 T4:=by
 obtain⟨h1,h2,h3,h4,l1,l2,l3,l4⟩:=h;have hj:=(List.getElem?_eq_some_iff.1 ha).1;refine⟨fun x=>?_,fun x=>?_,fun x=>?_,fun p=>?_,by rw[List.length_cons];omega, ?_, ?_, ?_⟩
 ·rw[List.mem_cons,h1,bL ha,List.mem_append,List.mem_singleton];constructor
  ·rintro(h|h|h)
   ·exact .inr (.inr h)
   ·exact .inl h
   ·exact .inr (.inl h)
  ·rintro(h|h|h)
   ·exact .inr (.inl h)
   ·exact .inr (.inr h)
   ·exact .inl h
 ·subst e2;split
  ·rename_i e
   subst e;rw[List.mem_cons,h2];have hh:t.head?=some a:=by
    cases t with
    | nil=>simp at hj
    | cons b t=>simpa using ha
   rw[hh];constructor
   ·rintro(h|h|h)
    ·exact .inr ⟨by omega,by rw[h]⟩
    ·exact .inl h
    ·omega
   ·rintro(h|⟨_,h⟩)
    ·exact .inr (.inl h)
    ·injection h with h;exact .inl h.symm
  ·rename_i e
   rw[h2];constructor
   ·rintro(h|h)
    ·exact .inl h
    ·exact .inr ⟨by omega,h.2⟩
   ·rintro(h|h)
    ·exact .inl h
    ·exact .inr ⟨by omega,h.2⟩
 ·subst e3;split
  ·rename_i e
   have hh:t.getLast?=some a:=by
    rw[List.getLast?_eq_getElem?,show t.length-1=j by omega];exact ha
   rw[List.mem_cons,h3,hh];constructor
   ·rintro(h|h|h)
    ·exact .inr ⟨by omega,e,by rw[h]⟩
    ·exact .inl h
    ·omega
   ·rintro(h|⟨_,_,h⟩)
    ·exact .inr (.inl h)
    ·injection h with h;exact .inl h.symm
  ·rename_i e
   rw[h3];constructor
   ·rintro(h|h)
    ·exact .inl h
    ·omega
   ·rintro(h|h)
    ·exact .inl h
    ·omega
 ·rcases e4 with⟨e,rfl⟩|⟨b,i,e,hb,rfl⟩
  ·subst e;rw[h4];constructor
   ·rintro(h|⟨i,h,_⟩)
    ·exact .inl h
    ·omega
   ·rintro(h|⟨i,h,_⟩)
    ·exact .inl h
    ·omega
  ·subst e;rw[List.mem_cons,h4];constructor
   ·rintro(h|h|⟨q,h,g⟩)
    ·subst h;exact .inr ⟨i,by omega,hb,ha⟩
    ·exact .inl h
    ·exact .inr ⟨q,by omega,g⟩
   ·rintro(h|⟨q,h,g1,g2⟩)
    ·exact .inr (.inl h)
    ·by_cases eq:q=i
     ·subst eq;rw[hb]at g1;rw[ha]at g2;injection g1 with g1;injection g2 with g2;exact .inl (Prod.ext g1.symm g2.symm)
     ·exact .inr (.inr ⟨q,by omega,g1,g2⟩)
 ·subst e2;split
  ·rw[List.length_cons];omega
  ·omega
 ·subst e3;split
  ·rw[List.length_cons];omega
  ·omega
 ·rcases e4 with⟨_,rfl⟩|⟨b,i,_,_,rfl⟩
  ·omega
  ·rw[List.length_cons];omega
theorem fD {log:LLi}{k:Nat}{t:LIn}(h:log[k]?=some t)(u:LIn):u∈log.take (k+1)↔u∈log.take k∨u=t:=by
 rw[bL h,List.mem_append,List.mem_singleton]
theorem TrP.leave (h:TrP log k t t.length S1 S2 S3 S4)(ht:log[k]?=some t)(hl:t.length≤60):TrP log (k+1) [] 0 S1 S2 S3 S4:=by
 obtain⟨h1,h2,h3,h4,l1,l2,l3,l4⟩:=h;refine⟨fun x=>?_,fun x=>?_,fun x=>?_,fun p=>?_,by omega,by omega,by omega,by omega⟩
 ·rw[h1,List.take_length];unfold VI;constructor
  ·rintro(⟨u,hu,hx⟩|hx)
   ·exact .inl ⟨u,(fD ht u).2 (.inl hu),hx⟩
   ·exact .inl ⟨t,(fD ht t).2 (.inr rfl),hx⟩
  ·rintro(⟨u,hu,hx⟩|hx)
   ·rcases(fD ht u).1 hu with hu|rfl
    ·exact .inl ⟨u,hu,hx⟩
    ·exact .inr hx
   ·simp at hx
 ·rw[h2];unfold yA;constructor
  ·rintro(⟨u,hu,hx⟩|⟨_,hx⟩)
   ·exact .inl ⟨u,(fD ht u).2 (.inl hu),hx⟩
   ·exact .inl ⟨t,(fD ht t).2 (.inr rfl),hx⟩
  ·rintro(⟨u,hu,hx⟩|hx)
   ·rcases(fD ht u).1 hu with hu|rfl
    ·exact .inl ⟨u,hu,hx⟩
    ·refine .inr ⟨?_,hx⟩;cases u with
     | nil=>cases hx
     | cons b u=>simp
   ·omega
 ·rw[h3];unfold Kr;constructor
  ·rintro(⟨u,hu,hx⟩|⟨_,_,hx⟩)
   ·exact .inl ⟨u,(fD ht u).2 (.inl hu),hx⟩
   ·exact .inl ⟨t,(fD ht t).2 (.inr rfl),hx⟩
  ·rintro(⟨u,hu,hx⟩|hx)
   ·rcases(fD ht u).1 hu with hu|rfl
    ·exact .inl ⟨u,hu,hx⟩
    ·refine .inr ⟨?_,rfl,hx⟩;cases u with
     | nil=>cases hx
     | cons b u=>simp
   ·omega
 ·rw[h4];unfold VJ;constructor
  ·rintro(⟨u,hu,hx⟩|⟨i,_,hx⟩)
   ·exact .inl ⟨u,(fD ht u).2 (.inl hu),hx⟩
   ·exact .inl ⟨t,(fD ht t).2 (.inr rfl),i,hx⟩
  ·rintro(⟨u,hu,i,hx⟩|⟨i,h,_⟩)
   ·rcases(fD ht u).1 hu with hu|rfl
    ·exact .inl ⟨u,hu,i,hx⟩
    ·exact .inr ⟨i,(List.getElem?_eq_some_iff.1 hx.2).1,hx⟩
   ·omega
theorem TrP.fin (h:TrP log log.length [] 0 S1 S2 S3 S4):(∀x,x∈S1↔VI log x)∧(∀x,x∈S2↔yA log x)∧(∀x,x∈S3↔Kr log x)∧∀p,p∈S4↔VJ log p:=by
 obtain⟨h1,h2,h3,h4,_⟩:=h;rw[List.take_length]at h1 h2 h3 h4;refine⟨fun x=>by rw[h1];simp,fun x=>by rw[h2];simp,fun x=>by rw[h3];simp,fun p=>by rw[h4];simp⟩
end
end Go.Proofs.YtfmnagcglhlicaaGreat
