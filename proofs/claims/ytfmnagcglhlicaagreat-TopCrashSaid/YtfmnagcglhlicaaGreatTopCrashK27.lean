/- Texts melted into one: The memory of mine.groups: what is left, the group, what is not linked, the groups so far. Conditions: none; plain lemmas on memory. | The plain law of a stable sort b -/
import Derived.Test.YtfmnagcglhlicaaGreatTopCrashK26
import Derived.Sort.OwnSortedInts
namespace Go.Proofs.YtfmnagcglhlicaaGreat
open Go.RowKit Go.Shelf
theorem aJ.keepRow {w w':World}{A:OAd}{n c:Nat}{xs:LIn}(h:aJ w A n c xs){row:Option Nat}(hg:w.grownBy w' row)(hne:row=none∨row≠(Value.slice A n c).ownBlock):aJ w' A n c xs :=
 aJ.same h hg.size (fun b off e _ hb=>hg.block b hb (by subst e;rcases hne with h|h;rw[h];exact fun e=>nomatch e;exact fun e=>h e.symm))
theorem vH {w:World}{B B2 e e2 s s2 n n2:Nat}{v v2:Value}{c c2:List Value}(h:w.ownsRow B e s v n c)(h2:w.ownsRow B2 e2 s2 v2 n2 c2)(hne:e≠e2):v.ownBlock=none∨v.ownBlock≠v2.ownBlock:=fO h h2 hne
theorem tC {P:Program} {w:World} (t ty e:TypeId) (i:TypeInfo) (z:Value) (size bytes:Nat) (ht:P.underlying t=some (.slice e)) (hi:P.info? e=some i) (hz:i.zero=some z)
  (hsize:i.size=size) (hby:i.bytes=bytes) (hzs:z.cells.size=size) (hsz:0<size)
  (A:OAd) (n:Nat) (xs:List Value) (hx:xs.length=n*size) (hnone:A=none→n=0) (hcell:∀ad,A=some ad→∀j u,xs[j]?=some u→w.cell? (ad.add j)=some u)
  (a:Addr) (m c:Nat) (news:List Value) (hl:news.length=m*size) (hm:0<m) (hnews:∀j u,news[j]?=some u→w.cell? (a.add j)=some u) (h1:∀u∈news,u.oneCell'=true)
  (h63:n+m≤maxLen) (hbytes:(n+m)*bytes≤140737488355328) :
  ∃v' w',(Builtin.append_ #[t,t] ty #[.slice A n n,.slice (some a) m c]).run P w=.ok v' w'∧w'.ownsRow w.heap.size e size v' (n+m) (xs++news)∧w.grownBy w' none:=by
 cases hA:A with
 | none =>
  have hn:=hnone hA;subst hn;have hx0:xs=[]:=List.eq_nil_of_length_eq_zero (by simpa using hx);subst hx0;obtain⟨v',w',r1,r2,r3,_⟩:=run_append_own_at (P:=P) w w.heap.size t ty e i z size bytes ht hi hz hsize hby hzs hsz (.slice none 0 0) 0 [] (World.ownsRow_nil _ _ _ _) a m c news hl hnews h1 h63 hbytes (Nat.le_refl _);exact⟨v',w',r1,r2,r3⟩
 | some ad =>
  subst hsize hby;have hsmall:n+m≤9223372036854775807:=by simp only[maxLen]at h63;omega
  have hlen:(xs++news).length=(n+m)*i.size:=by rw[List.length_append,hx,hl,Nat.add_mul]
  have hr:=run_append_grow (P:=P) w t ty e i z ht hi hz ad n n xs hx (hcell ad hA) a m c news hl hnews (by omega) (by omega) (growslice_fits (by omega) hbytes);have hge:=grownCap_ge w (n+m) n e;have hcm:grownCap w (n+m) n e≤maxLen:=grownCap_le_maxLen w (n+m) n e h63;refine⟨_,_,hr,⟨hlen,.inr ⟨w.heap.size,_,_,rfl,Nat.le_refl _,heap_alloc_new w.drew _,hge,hcm, ?_, ?_⟩⟩,⟨rfl,rfl,rfl,by simp,fun k hk _=>heap_alloc_old w.drew _ hk⟩⟩
  ·simp only[Array.size_append,List.size_toArray,size_zeroCells,hzs,hx,hl,←Nat.add_mul];congr 1
   omega
  ·simp only[Array.toList_append,List.append_assoc];rw[←List.append_assoc,←hlen];exact List.take_left
theorem vI {ops:Array Oper} {rest:List Oper} {o:Oper} {a:Act} {Q:Exit→Act→World→Prop} (hgd:o.guard=none) (s x:Operand)
  (ho:o.op=.call {callee:=.builtin .append,args:=#[s,x],argTypes:=#[28,28]})
  {w:World} {A:OAd} {n H:Nat} {xs:LIn} {y:Int} (hs:a.eval s=.slice A n n) (hx:a.eval x=.slice (some ⟨H,0,none⟩) 1 1) (hH:H=w.heap.size)
  (src:aJ w A n n xs) (hn:n≤1000000)
  (K:∀g cap w',aD w' w.heap.size (.slice (some ⟨g,0,none⟩) (n+1) cap) (n+1) (xs++[y])→Below w.heap.size w w'→wpList Tryz.prog ops Q rest (a.put o.dst (.slice (some ⟨g,0,none⟩) (n+1) cap)) w') :
  wpList Tryz.prog ops Q (o::rest) a (w.alloc (.cells #[.int .i64 y] 3)):=by
 subst hH;obtain⟨i,z,h1,h2,h3,h4,h5⟩:=kQ.info;have na:Below w.heap.size w (w.alloc (.cells #[.int .i64 y] 3)):=aB w _;have src':=aJ.keep src na;obtain⟨ds,d1,d2,d3,d4,d5⟩:=Sl.flat iG.good src';obtain⟨v',w',hr,r1,r2⟩:=tC (P:=Tryz.prog) (w:=w.alloc (.cells #[.int .i64 y] 3)) 28 o.type 3 i z 1 8 kQ.und h1 h2 h3 h4 h5 kQ.pos A n ds d1 (fun e=>(d2 e).1) d3 ⟨w.heap.size,0,none⟩ 1 1 [.int .i64 y] rfl (by omega) (fun j u hj=>by
  have hz:((⟨w.heap.size,0,none⟩:Addr).add j)=⟨w.heap.size,j,none⟩:=by unfold Addr.add;split <;> simp_all
  rw[hz];have:(w.alloc (.cells #[.int .i64 y] 3)).cell? ⟨w.heap.size,j,none⟩=(#[Value.int .i64 y]:Array Value)[j]?:=cell_of_row _ _ _ _ _ (0,0) (heap_alloc_new w _);rw[this];simpa using hj) (by simp[Value.oneCell']) (by simp only[maxLen];omega) (by omega)
 obtain⟨g,cap,hv,hBg,hgl⟩:∃g cap,v'=.slice (some ⟨g,0,none⟩) (n+1) cap∧(w.alloc (.cells #[.int .i64 y] 3)).heap.size≤g∧g<w'.heap.size:=r1.form (by omega);subst hv;have hb2:Below (w.alloc (.cells #[.int .i64 y] 3)).heap.size (w.alloc (.cells #[.int .i64 y] 3)) w':=(Below.refl _ _).grown r2 (Nat.le_refl _) (fun k hk=>by cases hk);have hb3:Below w.heap.size w w':=na.trans (hb2.mono na.size);have hy:a6 iG 1 (w.alloc (.cells #[.int .i64 y] 3)) [.int .i64 y] [y]:=a6.one (vs:=fun _=>.int .i64 y) rfl rfl (fun j hj=>by cases j with|zero=>rfl|succ j=>omega);have ap:=d5.append hy;have own2:aD w' (w.alloc (.cells #[.int .i64 y] 3)).heap.size (.slice (some ⟨g,0,none⟩) (n+1) cap) (n+1) (xs++[y]) :=
  ⟨_,r1,ap.keep iG.kept hb2,by rw[List.length_append,src.len];rfl⟩
 exact Lib.wpList_append_run _ hgd s x _ _ ho _ _ hs hx _ _ hr (K g cap w' (own2.base na.size) hb3)
def PO (B:Nat)(vl vg vr:Value)(k:Nat):Prop:=B≤k∧vl.ownBlock≠some k∧vg.ownBlock≠some k∧vr.ownBlock≠some k
structure GrM (w0 w:World)(vl vg vr vo:Value)(m n1 n2 n3:Nat)(l grp rest:LIn)(out:LLi):Prop where
 bel:Below w0.heap.size w0 w
 lf:∃A c,vl=.slice A m c∧aJ w A m c l
 lb:∀k,vl.ownBlock=some k→k<w.heap.size
 gi:IsI w (fun k=>w0.heap.size≤k) vg n1 grp
 gw:(aD w w0.heap.size vg n1 grp∧vg.ownBlock≠vl.ownBlock)∨(n1=1∧∃g,vg=.slice (some ⟨g,0,none⟩) 1 1)
 rs:aD w w0.heap.size vr n2 rest
 a1:vr.ownBlock=none∨vr.ownBlock≠vl.ownBlock
 a2:vr.ownBlock=none∨vr.ownBlock≠vg.ownBlock
 ou:Gf w (PO w0.heap.size vl vg vr) w0.heap.size vo n3 out
section
variable {w0 w w':World} {vl vg vr vo:Value} {m n1 n2 n3:Nat} {l grp rest:LIn} {out:LLi}
theorem GrM.keep (h:GrM w0 w vl vg vr vo m n1 n2 n3 l grp rest out)(hb:Below w.heap.size w w'):GrM w0 w' vl vg vr vo m n1 n2 n3 l grp rest out where
 bel:=h.bel.trans (hb.mono h.bel.size)
 lf:=by obtain⟨A,c,e,i⟩:=h.lf;exact⟨A,c,e,i.keep hb⟩
 lb:=fun k hk=>Nat.lt_of_lt_of_le (h.lb k hk) hb.size
 gi:=h.gi.keep hb
 gw:=h.gw.imp (fun⟨a,b⟩=>⟨a.keep iG.kept hb,b⟩) id
 rs:=h.rs.keep iG.kept hb
 a1:=h.a1
 a2:=h.a2
 ou:=h.ou.keep hb
theorem IsI.of_own {B:Nat}{v:Value}{n:Nat}{xs:LIn}(h:aD w B v n xs)(hn:0<n):IsI w (fun k=>B≤k) v n xs:=by
 obtain⟨g,cap,e,hB,_⟩:=h.form hn;subst e;exact⟨g,cap,rfl,(tB.of_own h).1,hB⟩
theorem GrM.appG (h:GrM w0 w vl vg vr vo m n1 n2 n3 l grp rest out)(ho:aD w w0.heap.size vg n1 grp∧vg.ownBlock≠vl.ownBlock){v':Value}{y:Int}(o:aD w' w0.heap.size v' (n1+1) (grp++[y]))(hg:w.grownBy w' vg.ownBlock)(hv:v'.ownBlock=vg.ownBlock∨v'.ownBlock=some (w.heap.size+1)):GrM w0 w' vl v' vr vo m (n1+1) n2 n3 l (grp++[y]) rest out where
 bel:=h.bel.grown hg h.bel.size (fun k hk=>(ho.1.lt k hk).1)
 lf:=by obtain⟨A,c,e,i⟩:=h.lf;subst e;exact⟨A,c,rfl,i.keepRow hg (.inr ho.2)⟩
 lb:=fun k hk=>Nat.lt_of_lt_of_le (h.lb k hk) hg.size
 gi:=IsI.of_own o (by omega)
 gw:=.inl ⟨o,by
  rcases hv with e|e
  ·rw[e];exact ho.2
  ·rw[e];intro e2;have:=h.lb _ e2.symm;omega⟩
 rs:=h.rs.kept hg (h.a2) (fun _ _ x=>x)
 a1:=h.a1
 a2:=by
  rcases h.a2 with e|e
  ·exact .inl e
  ·rcases hv with e2|e2
   ·rw[e2];exact .inr e
   ·refine .inr ?_;rw[e2];intro e3;have:=(h.rs.lt _ e3).2;omega
 ou:=by
  obtain⟨c1,o1,_⟩:=h.ou;obtain⟨c2,o2,_⟩:=ho.1;refine((h.ou.wide (Q:=fun k=>PO w0.heap.size vl vg vr k∧PO w0.heap.size vl v' vr k) (fun k hk hp=>⟨hp,hp.1,hp.2.1, ?_,hp.2.2.2⟩)).grown hg (fun k hk hp=>hp.1.2.2.1 hk) (vH o1 o2 (by decide))).wide (fun k _ hp=>hp.2);rcases hv with e|e
  ·rw[e];exact hp.2.2.1
  ·rw[e];intro e2;injection e2 with e2;omega
theorem GrM.appC (h:GrM w0 w vl vg vr vo m n1 n2 n3 l grp rest out){v':Value}{y:Int}(o:aD w' w.heap.size v' (n1+1) (grp++[y]))(hb:Below w.heap.size w w'):GrM w0 w' vl v' vr vo m (n1+1) n2 n3 l (grp++[y]) rest out:=by
 have hB:=h.bel.size;have hf:∀k,v'.ownBlock=some k→w.heap.size≤k:=fun k hk=>(o.lt k hk).1
 refine⟨h.bel.trans (hb.mono hB), ?_,fun k hk=>Nat.lt_of_lt_of_le (h.lb k hk) hb.size,IsI.of_own (o.base hB) (by omega),.inl ⟨o.base hB,fun e=>?_⟩,h.rs.keep iG.kept hb,h.a1, ?_, ?_⟩
 ·obtain⟨A,c,e,i⟩:=h.lf;exact⟨A,c,e,i.keep hb⟩
 ·obtain⟨g,c,e1,_⟩:=o.form (by omega);have h1:=hf g (by rw[e1];rfl);have:=h.lb g (by rw[←e,e1];rfl);omega
 ·rcases h.a2 with e|_
  ·exact .inl e
  ·cases hr:vr.ownBlock with
   | none=>exact .inl rfl
   | some k =>
    refine .inr fun e=>?_
    have:=hf k e.symm;have:=(h.rs.lt k hr).2;omega
 ·refine(h.ou.wide (fun k hk hp=>⟨hp.1,hp.2.1,fun e=>?_,hp.2.2.2⟩)).keep hb;have:=hf k e;omega
theorem GrM.appR (h:GrM w0 w vl vg vr vo m n1 n2 n3 l grp rest out){v':Value}{y:Int}(o:aD w' w0.heap.size v' (n2+1) (rest++[y]))(hg:w.grownBy w' vr.ownBlock)(hv:v'.ownBlock=vr.ownBlock∨v'.ownBlock=some (w.heap.size+1)):GrM w0 w' vl vg v' vo m n1 (n2+1) n3 l grp (rest++[y]) out:=by
 obtain⟨gg,gc,eg,hG,hgB⟩:=h.gi;refine⟨h.bel.grown hg h.bel.size (fun k hk=>(h.rs.lt k hk).1), ?_,fun k hk=>Nat.lt_of_lt_of_le (h.lb k hk) hg.size, ?_, ?_,o, ?_, ?_, ?_⟩
 ·obtain⟨A,c,e,i⟩:=h.lf;subst e;exact⟨A,c,rfl,i.keepRow hg h.a1⟩
 ·refine⟨gg,gc,eg,hG.kept hg ?_,hgB⟩;rcases h.a2 with e|e
  ·rw[e];exact fun e=>nomatch e
  ·rw[eg]at e;exact e
 ·rcases h.gw with⟨a,b⟩|c
  ·exact .inl ⟨a.kept hg (by rcases h.a2 with e|e;exact .inr (by rw[e,eg];exact fun e=>nomatch e);exact .inr (fun e2=>e e2.symm)) (fun _ _ x=>x),b⟩
  ·exact .inr c
 ·refine .inr ?_;rcases hv with e|e
  ·rw[e];rcases h.a1 with e1|e1
   ·exfalso
    obtain⟨g',c',e3,_⟩:=o.form (by omega);rw[e1,e3]at e;cases e
   ·exact e1
  ·rw[e];intro e2;have:=h.lb _ e2.symm;omega
 ·refine .inr ?_;rcases hv with e|e
  ·rw[e];rcases h.a2 with e1|e1
   ·exfalso
    obtain⟨g',c',e3,_⟩:=o.form (by omega);rw[e1,e3]at e;cases e
   ·exact e1
  ·rw[e,eg];intro e2;injection e2 with e2;change w.heap.size+1=gg at e2;have:=hG.lt;omega
 ·obtain⟨c1,o1,_⟩:=h.ou;obtain⟨c2,o2,_⟩:=h.rs;refine((h.ou.wide (Q:=fun k=>PO w0.heap.size vl vg vr k∧PO w0.heap.size vl vg v' k) (fun k hk hp=>⟨hp,hp.1,hp.2.1,hp.2.2.1, ?_⟩)).grown hg (fun k hk hp=>hp.1.2.2.2 hk) (vH o1 o2 (by decide))).wide (fun k _ hp=>hp.2);rcases hv with e|e
  ·rw[e];exact hp.2.2.2
  ·rw[e];intro e2;injection e2 with e2;omega
theorem GrM.turn (h:GrM w0 w vl vg vr vo m n1 n2 n3 l grp rest out)(hn:n2≤281474976710656):GrM w0 w vr vg (.slice none 0 0) vo n2 n1 0 n3 rest grp [] out∧(vr.ownBlock=none∨vr.ownBlock≠vg.ownBlock):=by
 obtain⟨gg,gc,eg,hG,hgB⟩:=h.gi;refine⟨⟨h.bel, ?_,fun k hk=>(h.rs.lt k hk).2,h.gi, ?_,aC.nil,.inl rfl,.inl rfl,h.ou.wide (fun k _ hp=>⟨hp.1,hp.2.2.2,hp.2.2.1,fun e=>nomatch e⟩)⟩,h.a2⟩
 ·obtain⟨A,c,e,i⟩:=h.rs.sl hn;exact⟨A,c,e,i⟩
 ·rcases h.gw with⟨a,_⟩|c
  ·refine .inl ⟨a, ?_⟩;rcases h.a2 with e|e
   ·rw[e,eg];exact fun e=>nomatch e
   ·exact fun e2=>e e2.symm
  ·exact .inr c
end
structure WJ (w0 w:World)(vl vo:Value)(n n3:Nat)(l:LIn)(out:LLi):Prop where
 bel:Below w0.heap.size w0 w
 lf:aD w w0.heap.size vl n l
 ou:Gf w (fun k=>w0.heap.size≤k∧vl.ownBlock≠some k) w0.heap.size vo n3 out
theorem WJ.start {w0 w:World}{vo:Value}{g cap n n3:Nat}{x:Int}{l:LIn}{out:LLi}(h:WJ w0 w (.slice (some ⟨g,0,none⟩) n cap) vo n n3 (x::l) out)(hn:n≤281474976710656) :
  GrM w0 w (.slice (if cap=1 then some ⟨g,0,none⟩else some ⟨g,1,none⟩) (n-1) (cap-1)) (.slice (some ⟨g,0,none⟩) 1 1) (.slice none 0 0) vo (n-1) 1 0 n3 l [x] [] out:=by
 have hh:=tB.of_own h.lf;have hi:=Sl.tail1 (hh.1.ints hn);have eb:(Value.slice (if cap=1 then some ⟨g,0,none⟩else some ⟨g,1,none⟩) (n-1) (cap-1)).ownBlock=some g:=by
  by_cases hc:cap=1
  ·rw[if_pos hc];rfl
  ·rw[if_neg hc];rfl
 refine⟨h.bel,⟨_,_,rfl,by simpa using hi⟩,fun k hk=>?_,⟨g,1,rfl,hh.1.one,hh.2⟩,.inr ⟨rfl,g,rfl⟩,aC.nil,.inl rfl,.inl rfl,h.ou.wide (fun k _ hp=>⟨hp.1,by rw[eb];exact hp.2,hp.2,fun e=>nomatch e⟩)⟩;rw[eb]at hk;injection hk with hk;subst hk;exact hh.1.lt
theorem zO {w:World}{P:Nat→Prop}{v:Value}{n:Nat}{xs:LIn}(h:IsI w P v n xs)(hn:n≤1000) :
  Calls Tryz.prog 204 #[v] w fun e w'=>e=.returned (.tuple #[])∧IsI w' P v n (xs.mergeSort fun x y=>decide (x≤y))∧w.grownBy w' v.ownBlock:=by
 obtain⟨g,cap,rfl,hh,hp⟩:=h;obtain⟨cur,hb,ht⟩:=hh.blk;have hl:=hh.len;subst hl;refine(slices_Sort_int g 0 cap xs w (holds_of_blockI hb ht) hh.lt (by omega)).mono ?_;rintro e w' ⟨rfl,q,os,rfl⟩;have hcur:xs.length≤cur.size:=by
  have:=congrArg List.length ht;rw[List.length_take,List.length_map]at this;have e:cur.toList.length=cur.size:=by simp
  omega
 refine⟨rfl,⟨g,cap,rfl,⟨by simp,hh.le,hh.cap,_,heap_sortedI _ hb, ?_⟩,hp⟩,grownBy_sortedI _⟩;have:=take_putCellsI cur (xs.mergeSort fun x y=>decide (x≤y)) (by simpa using hcur);simpa using this
end Go.Proofs.YtfmnagcglhlicaaGreat
namespace Go.Proofs.YtfmnagcglhlicaaGreat
section
variable {α:Type}
def gP (f:Nat→α)(i j:Nat):Nat→α:=fun k=>if k=i then f j else if k=j then f i else f k
def wV (f:Nat→α)(a b n:Nat):Nat→α:=fun k=>if a≤k∧k<a+n then f (b+(k-a))else if b≤k∧k<b+n then f (a+(k-b))else f k
theorem OQ (f:Nat→α)(a b:Nat):wV f a b 0=f:=by
 funext k
 unfold wV;rw[if_neg (by omega),if_neg (by omega)]
theorem OT {f:Nat→α}{a b n:Nat}(h:a+n<b∨b+n<a):gP (wV f a b n) (a+n) (b+n)=wV f a b (n+1):=by
 funext k
 unfold gP;by_cases h1:k=a+n
 ·subst h1;rw[if_pos rfl];unfold wV;rw[if_neg (by omega),if_neg (by omega),if_pos (by omega)];congr 1
  omega
 ·rw[if_neg h1];by_cases h2:k=b+n
  ·subst h2;rw[if_pos rfl];unfold wV;rw[if_neg (by omega),if_neg (by omega),if_neg (by omega),if_pos (by omega)];congr 1
   omega
  ·rw[if_neg h2];unfold wV;by_cases h3:a≤k∧k<a+n
   ·rw[if_pos h3,if_pos (by omega)]
   ·rw[if_neg h3];by_cases h4:b≤k∧k<b+n
    ·rw[if_pos h4,if_neg (by omega),if_pos (by omega)]
    ·rw[if_neg h4,if_neg (by omega),if_neg (by omega)]
def dP (f:Nat→α)(a m b:Nat):Nat→α:=fun k=>if a≤k∧k<a+(b-m)then f (m+(k-a))else if a+(b-m)≤k∧k<b then f (a+(k-(a+(b-m))))else f k
def L8 (f g:Nat→α)(a m b i j:Nat):Prop:=i≤m-a∧j≤b-m∧0<i∧0<j∧dP g (m-i) m (m+j)=dP f a m b
theorem L8.start {f:Nat→α}{a m b:Nat}(h1:a<m)(h2:m<b):L8 f f a m b (m-a) (b-m) :=
 ⟨Nat.le_refl _,Nat.le_refl _,by omega,by omega,by rw[show m-(m-a)=a by omega,show m+(b-m)=b by omega]⟩
theorem L8.left {f g:Nat→α}{a m b i j:Nat}(h:L8 f g a m b i j)(ha:a<m)(hij:j<i):L8 f (wV g (m-i) m j) a m b (i-j) j:=by
 obtain⟨h1,h2,h3,h4,h5⟩:=h;refine⟨by omega,h2,by omega,h4, ?_⟩;rw[←h5];funext k
 unfold dP wV
 repeat' split
 all_goals first|rfl|(exfalso;omega)|(congr 1;omega)
theorem L8.right {f g:Nat→α}{a m b i j:Nat}(h:L8 f g a m b i j)(ha:a<m)(hij:i<j):L8 f (wV g (m-i) (m+j-i) i) a m b i (j-i):=by
 obtain⟨h1,h2,h3,h4,h5⟩:=h;refine⟨h1,by omega,h3,by omega, ?_⟩;rw[←h5];funext k
 unfold dP wV
 repeat' split
 all_goals first|rfl|(exfalso;omega)|(congr 1;omega)
theorem L8.fin {f g:Nat→α}{a m b i:Nat}(h:L8 f g a m b i i)(ha:a<m):wV g (m-i) m i=dP f a m b:=by
 obtain⟨h1,h2,h3,h4,h5⟩:=h;rw[←h5];funext k
 unfold dP wV
 repeat' split
 all_goals first|rfl|(exfalso;omega)|(congr 1;omega)
end
section
variable {α:Type} {R:α→α→Prop}
def fA (R:α→α→Prop)(f:Nat→α)(a b:Nat):Prop:=∀i j,a≤i→i<j→j<b→R (f i) (f j)
structure dO (f g:Nat→α)(a b:Nat):Prop where
 o:∀k,¬(a≤k∧k<b)→f k=g k
 inn:∀k,a≤k→k<b→∃q,a≤q∧q<b∧f k=g q
 all:∀q,a≤q→q<b→∃k,a≤k∧k<b∧f k=g q
theorem dO.refl (f:Nat→α)(a b:Nat):dO f f a b:=⟨fun _ _=>rfl,fun k h1 h2=>⟨k,h1,h2,rfl⟩,fun k h1 h2=>⟨k,h1,h2,rfl⟩⟩
theorem dO.trans {f g h:Nat→α}{a b:Nat}(x:dO f g a b)(y:dO g h a b):dO f h a b where
 o:=fun k hk=>(x.o k hk).trans (y.o k hk)
 inn:=fun k h1 h2=>by
  obtain⟨q,q1,q2,e⟩:=x.inn k h1 h2;obtain⟨r,r1,r2,e2⟩:=y.inn q q1 q2;exact⟨r,r1,r2,e.trans e2⟩
 all:=fun q h1 h2=>by
  obtain⟨k,k1,k2,e⟩:=y.all q h1 h2;obtain⟨r,r1,r2,e2⟩:=x.all k k1 k2;exact⟨r,r1,r2,e2.trans e⟩
theorem dO.wide {f g:Nat→α}{a b c d:Nat}(x:dO f g a b)(h1:c≤a)(h2:b≤d):dO f g c d where
 o:=fun k hk=>x.o k (by omega)
 inn:=fun k k1 k2=>by
  by_cases h:a≤k∧k<b
  ·obtain⟨q,q1,q2,e⟩:=x.inn k h.1 h.2;exact⟨q,by omega,by omega,e⟩
  ·exact⟨k,k1,k2,x.o k h⟩
 all:=fun k k1 k2=>by
  by_cases h:a≤k∧k<b
  ·obtain⟨q,q1,q2,e⟩:=x.all k h.1 h.2;exact⟨q,by omega,by omega,e⟩
  ·exact⟨k,k1,k2,x.o k h⟩
theorem dO.swap (f:Nat→α){a b i j:Nat}(hi:a≤i∧i<b)(hj:a≤j∧j<b):dO (gP f i j) f a b where
 o:=fun k hk=>by
  unfold gP;rw[if_neg (by rintro rfl;exact hk hi),if_neg (by rintro rfl;exact hk hj)]
 inn:=fun k k1 k2=>by
  unfold gP;split
  ·exact⟨j,hj.1,hj.2,rfl⟩
  ·split
   ·exact⟨i,hi.1,hi.2,rfl⟩
   ·exact⟨k,k1,k2,rfl⟩
 all:=fun q q1 q2=>by
  by_cases h1:q=i
  ·subst h1;by_cases h2:j=q
   ·subst h2;exact⟨j,q1,q2,by unfold gP;rw[if_pos rfl]⟩
   ·exact⟨j,hj.1,hj.2,by unfold gP;rw[if_neg h2,if_pos rfl]⟩
  ·by_cases h2:q=j
   ·subst h2;exact⟨i,hi.1,hi.2,by unfold gP;rw[if_pos rfl]⟩
   ·exact⟨q,q1,q2,by unfold gP;rw[if_neg h1,if_neg h2]⟩
theorem dO.rot (f:Nat→α){a m b:Nat}(h1:a≤m)(h2:m≤b):dO (dP f a m b) f a b where
 o:=fun k hk=>by
  unfold dP;rw[if_neg (by omega),if_neg (by omega)]
 inn:=fun k k1 k2=>by
  unfold dP;split
  ·exact⟨_,by omega,by omega,rfl⟩
  ·split
   ·exact⟨_,by omega,by omega,rfl⟩
   ·exact⟨k,k1,k2,rfl⟩
 all:=fun q q1 q2=>by
  by_cases h:q<m
  ·refine⟨a+(b-m)+(q-a),by omega,by omega, ?_⟩;unfold dP;rw[if_neg (by omega),if_pos (by omega)];congr 1
   omega
  ·refine⟨a+(q-m),by omega,by omega, ?_⟩;unfold dP;rw[if_pos (by omega)];congr 1
   omega
theorem fA.join {f:Nat→α}{a m b:Nat}(h1:fA R f a m)(h2:fA R f m b)(h:∀i j,a≤i→i<m→m≤j→j<b→R (f i) (f j)):fA R f a b:=fun i j hi hij hj=>by
 by_cases c1:j<m
 ·exact h1 i j hi hij c1
 ·by_cases c2:i<m
  ·exact h i j hi c2 (by omega) hj
  ·exact h2 i j (by omega) hij hj
theorem dO.before {f g:Nat→α}{a m b:Nat}(x:dO f g a m){h:Nat→α}(y:dO h f m b)(hR:∀i j,a≤i→i<m→m≤j→j<b→R (g i) (g j)):∀i j,a≤i→i<m→m≤j→j<b→R (h i) (h j):=fun i j h1 h2 h3 h4=>by
 rw[y.o i (by omega)];obtain⟨q,q1,q2,e⟩:=y.inn j h3 h4;obtain⟨r,r1,r2,e2⟩:=x.inn i h1 h2;rw[e,e2,x.o q (by omega)];exact hR r q r1 r2 q1 q2
end
end Go.Proofs.YtfmnagcglhlicaaGreat
