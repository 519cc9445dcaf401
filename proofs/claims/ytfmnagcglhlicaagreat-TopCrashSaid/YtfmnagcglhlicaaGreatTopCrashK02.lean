/- Texts melted into one: Slices that a call makes for itself: appended to, or made whole; what they read as when they are handed back. Conditions: the lengths stay below what memory bears. | W -/
import Derived.Test.YtfmnagcglhlicaaGreatTopCrashK01
import Derived.ProofKit
import Derived.OpenShut
import Derived.SizedLaws
import Derived.Deep.Slices
import Derived.Deep.Fields
import Derived.Lib.SmallJoins
set_option maxRecDepth 100000
namespace Go.Proofs.YtfmnagcglhlicaaGreat
open Go.RowKit
structure mC (t e size bytes:Nat):Prop where
 und:Tryz.prog.underlying t=some (.slice e)
 info:∃i z,Tryz.prog.info? e=some i∧i.zero=some z∧i.size=size∧i.bytes=bytes∧z.cells.size=size
 pos:0<size
theorem mC.mk' {t e size bytes:Nat}{z:Value}(h1:Tryz.prog.underlying t=some (.slice e))(h2:(Tryz.prog.info? e).map (fun i=>(i.zero,i.size,i.bytes))=some (some z,size,bytes))(h3:z.cells.size=size)(h4:0<size):mC t e size bytes:=by
 obtain⟨i,hi,hz0,hz1,hz2⟩:=info_parts h2;exact⟨h1,⟨i,z,hi,hz0,hz1,hz2,h3⟩,h4⟩
theorem kQ:mC 28 3 1 8:=mC.mk' (z:=.int .i64 0) Tryz.underlying28 (by kernel_rfl) rfl (by decide)
theorem Jk {t e size bytes:Nat} (T:mC t e size bytes) {ops:Array Oper} {rest:List Oper} {o:Oper} {a:Act} {Q:Exit→Act→World→Prop} (hgd:o.guard=none) (s x:Operand)
  (ho:o.op=.call {callee:=.builtin .append,args:=#[s,x],argTypes:=#[t,t]})
  {w0 w:World} {B:Nat} {v:Value} {n m:Nat} {xs:List Value} (us:Array Value) {H:Nat} (hs:a.eval s=v) (hx:a.eval x=.slice (some ⟨H,0,none⟩) m m) (hH:H=w.heap.size) (hus:us.size=m*size) (one:∀u∈us.toList,u.oneCell'=true)
  (own:w.ownsRow B e size v n xs) (hb:Below B w0 w) (hB:B≤w.heap.size) (h63:n+m≤281474976710656) (hn:(n+m)*bytes≤140737488355328)
  (K:∀v' w',w'.ownsRow B e size v' (n+m) (xs++us.toList)→w.grownBy w' v.ownBlock→Below B w0 w'→wpList Tryz.prog ops Q rest (a.put o.dst v') w') :
  wpList Tryz.prog ops Q (o::rest) a (w.alloc (.cells us e)):=by
 subst hH;obtain⟨i,z,h1,h2,h3,h4,h5⟩:=T.info;have hlt:∀k,v.ownBlock=some k→B≤k∧k<w.heap.size:=own.lt;refine wpList_append_own _ hgd s x t ho B e i z size bytes T.und h1 h2 h3 h4 h5 T.pos v n xs hs (own.alloc _) ⟨w.heap.size,0,none⟩ m m us.toList hx (by simpa using hus) (fun j u hj=>?_) one ?_ hn (by simp;omega) (fun v' w' h6 h7 h8=>?_)
 ·have hz:((⟨w.heap.size,0,none⟩:Addr).add j)=⟨w.heap.size,j,none⟩:=by unfold Addr.add;split <;> simp_all
  rw[hz];have:(w.alloc (.cells us e)).cell? ⟨w.heap.size,j,none⟩=us[j]?:=cell_of_row _ _ _ _ _ (0,0) (heap_alloc_new w _);rw[this];simpa using hj
 ·simp only[maxLen];omega
 ·have hg:w.grownBy w' v.ownBlock:=⟨h7.os,h7.tape,h7.output,Nat.le_trans (by simp) h7.size,fun k hk hne=>(h7.block k (by simp;omega) hne).trans (heap_alloc_old w _ hk)⟩;exact K v' w' h6 hg (hb.grown hg hB (fun k hk=>(hlt k hk).1))
theorem jC {t e bytes:Nat} {z:Value} (h1:Tryz.prog.underlying t=some (.slice e)) (h2:(Tryz.prog.info? e).map (fun i=>(i.zero,i.size,i.bytes))=some (some z,1,bytes)) (hz:z.cells=#[z]) {ops:Array Oper} {rest:List Oper} {o:Oper} {a:Act} {Q:Exit→Act→World→Prop}
  (hg:o.guard=none) (l c:Operand) (hop:o.op=Op.makeSlice t l c) {w0 w:World} {B:Nat} {L C:Int} (n:Nat) (hl:a.eval l=.int .i64 L) (hc:a.eval c=.int .i64 C) (hL:L=(n:Int)) (hC:C=(n:Int))
  (hn:n≤281474976710656) (hbytes:bytes*n≤281474976710656) (hb:Below B w0 w) (hB:B≤w.heap.size)
  (K:∀w',w'.ownsRow B e 1 (.slice (some ⟨w.heap.size,0,none⟩) n n) n (List.replicate n z)→w.grownBy w' none→Below B w0 w'→wpList Tryz.prog ops Q rest (a.put o.dst (.slice (some ⟨w.heap.size,0,none⟩) n n)) w') :
  wpList Tryz.prog ops Q (o::rest) a w:=by
 obtain⟨i,hi,hz0,hz1,hz2⟩:=info_parts h2;refine wpList_make_full w hg l c t hop B e i z 1 h1 hi hz0 hz1 .i64 .i64 L C n hl hc hL hC (by rw[hz2];exact hbytes) (by simp only[maxLen];omega) hB (fun w' h3 h4=>?_);rw[hz,Nat.mul_one,toList_madeCells_one]at h3;exact K w' h3 h4 (hb.grown h4 hB (fun k hk=>by cases hk))
theorem oW:(Tryz.prog.info? 3).map (fun i=>(i.zero,i.size,i.bytes))=some (some (.int .i64 0),1,8):=by kernel_rfl
theorem QN:(Tryz.prog.info? 4).map (fun i=>(i.zero,i.size,i.bytes))=some (some (.bool false),1,1):=by kernel_rfl
def aC {α:Type}(R:World→(Nat→Value)→α→Prop)(sz:Nat)(w:World)(B e:Nat)(v:Value)(n:Nat)(xs:List α):Prop :=
 ∃cells,w.ownsRow B e sz v n cells∧a6 R sz w cells xs∧xs.length=n
abbrev aD (w:World)(B:Nat)(v:Value)(n:Nat)(xs:LIn):Prop:=aC iG 1 w B 3 v n xs
section
variable {α:Type} {R:World→(Nat→Value)→α→Prop} {sz:Nat} {w w':World} {B e:Nat} {v:Value} {n:Nat} {xs:List α}
theorem aC.nil:aC R sz w B e (.slice none 0 0) 0 []:=⟨[],World.ownsRow_nil _ _ _ _,a6.nil,rfl⟩
theorem aC.lt (h:aC R sz w B e v n xs):∀k,v.ownBlock=some k→B≤k∧k<w.heap.size:=by
 obtain⟨cells,h1,h2⟩:=h;exact h1.lt
theorem aC.kept (h:aC R sz w B e v n xs){row:Option Nat}(hg:w.grownBy w' row)(hne:v.ownBlock=none∨v.ownBlock≠row)(hb:∀vs x,R w vs x→R w' vs x):aC R sz w' B e v n xs:=by
 obtain⟨cells,h1,h2,h3⟩:=h;exact⟨cells,h1.kept hg hne,⟨h2.1,fun i x hx=>by obtain⟨vs,a,b⟩:=h2.2 i x hx;exact⟨vs,a,hb _ _ b⟩⟩,h3⟩
theorem aC.keep (hR:t8 R)(h:aC R sz w B e v n xs)(hb:Below w.heap.size w w'):aC R sz w' B e v n xs:=by
 refine h.kept (row:=none) ⟨hb.os,hb.tape,hb.output,hb.size,fun k hk _=>hb.block k hk⟩ ?_ (fun vs x hx=>hR _ _ _ _ hb hx);cases v.ownBlock <;> simp
theorem aC.sl (h:aC R sz w B e v n xs)(hn:n≤281474976710656):∃A c,v=.slice A n c∧Sl R sz w A n c xs:=by
 obtain⟨cells,h1,h2,h3⟩:=h;rcases h1.2 with⟨rfl,rfl⟩|⟨g,cap,cur,rfl,hg,hh,hnc,hcap,hcs,htake⟩
 ·exact⟨none,0,rfl,h3,Nat.le_refl _,by simp[maxLen],by omega,fun _=>rfl,fun h=>absurd h (by omega)⟩
 ·refine⟨_,cap,rfl,h3,hnc,hcap,hn,fun h=>(by cases h),fun _=>⟨g,0,rfl,(Array.getElem?_eq_some_iff.1 hh).1,fun i x hx=>?_⟩⟩;obtain⟨vs,h4,h5⟩:=h2.2 i x hx;refine⟨vs,fun j hj=>?_,h5⟩;have hi:i<n:=by have:=(List.getElem?_eq_some_iff.1 hx).1;omega
  have hlt:i*sz+j<n*sz:=by
   have:(i+1)*sz≤n*sz:=Nat.mul_le_mul_right _ hi;rw[Nat.add_mul]at this;omega
  rw[Nat.zero_add,h1.cellAt _ hlt];exact h4 j hj
theorem aC.len (h:aC R sz w B e v n xs):xs.length=n:=h.choose_spec.2.2
end
theorem aD.of_row {w:World}{B:Nat}{v:Value}{n:Nat}{xs:LIn}(h:w.ownsRow B 3 1 v n (xs.map (Value.int .i64))):aD w B v n xs:=by
 have hl:xs.length=n:=by have:=h.1;simpa using this
 refine⟨_,h,⟨by simp,fun i x hx=>⟨fun _=>.int .i64 x,fun j hj=>?_,rfl⟩⟩,hl⟩;have:j=0:=by omega
 subst this;simp[List.getElem?_map,hx]
theorem aJ.of_own {w:World}{B:Nat}{v:Value}{n:Nat}{xs:LIn}(h:w.ownsRow B 3 1 v n (xs.map (Value.int .i64)))(hn:n≤281474976710656):∃A c,v=.slice A n c∧aJ w A n c xs :=
 aC.sl (aD.of_row h) hn
theorem bY {α:Type} {R:World→(Nat→Value)→α→Prop} {t e size bytes:Nat} (T:mC t e size bytes) {ops:Array Oper} {rest:List Oper} {o:Oper} {a:Act} {Q:Exit→Act→World→Prop} (hgd:o.guard=none) (s x:Operand)
  (ho:o.op=.call {callee:=.builtin .append,args:=#[s,x],argTypes:=#[t,t]})
  {w0 w:World} {B:Nat} {v:Value} {n m:Nat} {xs:List α} (ys:List α) (us:Array Value) {H:Nat} (hs:a.eval s=v) (hx:a.eval x=.slice (some ⟨H,0,none⟩) m m) (hH:H=w.heap.size) (hus:us.size=m*size) (one:∀u∈us.toList,u.oneCell'=true)
  (own:aC R size w B e v n xs) (hread:a6 R size w us.toList ys) (hy:ys.length=m) (hb:Below B w0 w) (hB:B≤w.heap.size) (h63:n+m≤281474976710656) (hn:(n+m)*bytes≤140737488355328)
  (hkeep:∀w',w.grownBy w' v.ownBlock→∀vs y,R w vs y→R w' vs y)
  (K:∀v' w',aC R size w' B e v' (n+m) (xs++ys)→w.grownBy w' v.ownBlock→Below B w0 w'→wpList Tryz.prog ops Q rest (a.put o.dst v') w') :
  wpList Tryz.prog ops Q (o::rest) a (w.alloc (.cells us e)):=by
 obtain⟨cells,h1,h2,h3⟩:=own;refine Jk T hgd s x ho us hs hx hH hus one h1 hb hB h63 hn (fun v' w' h4 h5 h6=>K v' w' ⟨_,h4, ?_,by rw[List.length_append,h3,hy]⟩ h5 h6);have:=h2.append hread;exact⟨this.1,fun i x hx=>by obtain⟨vs,a,b⟩:=this.2 i x hx;exact⟨vs,a,hkeep _ h5 _ _ b⟩⟩
theorem dE {ops:Array Oper} {rest:List Oper} {o:Oper} {a:Act} {Q:Exit→Act→World→Prop} (hgd:o.guard=none) (s x:Operand)
  (ho:o.op=.call {callee:=.builtin .append,args:=#[s,x],argTypes:=#[28,28]})
  {w0 w:World} {B:Nat} {v:Value} {n:Nat} {xs:LIn} {y:Int} {H:Nat} (hs:a.eval s=v) (hx:a.eval x=.slice (some ⟨H,0,none⟩) 1 1) (hH:H=w.heap.size)
  (own:aD w B v n xs) (hb:Below B w0 w) (hB:B≤w.heap.size) (hn:(n+1)*8≤140737488355328)
  (K:∀v' w',aD w' B v' (n+1) (xs++[y])→w.grownBy w' v.ownBlock→Below B w0 w'→wpList Tryz.prog ops Q rest (a.put o.dst v') w') :
  wpList Tryz.prog ops Q (o::rest) a (w.alloc (.cells #[.int .i64 y] 3)) :=
 bY kQ hgd s x ho [y] #[.int .i64 y] hs hx hH rfl (by simp[Value.oneCell']) own (a6.one (vs:=fun _=>.int .i64 y) rfl rfl (fun j hj=>(by obtain rfl:j=0:=(by omega);rfl))) rfl hb hB (by omega) hn (fun _ _ _ _ h=>h) K
def bH:World→(Nat→Value)→LIn→Prop:=fun w vs xs=>∃A n c,vs 0=.slice A n c∧aJ w A n c xs∧n≤17592186043904
theorem bH.kept:t8 bH:=fun _ _ _ _ hb ⟨A,n,c,e,i,l⟩=>⟨A,n,c,e,i.keep hb,l⟩
theorem bH.good:Jj bH 1 where
 kept:=bH.kept
 one:=fun w vs x h j hj=>by
  obtain rfl:j=0:=by omega
  obtain⟨A,n,c,e,_⟩:=h;rw[e];rfl
 pos:=by omega
abbrev bT (w:World)(A:OAd)(n c:Nat)(xs:LLi):Prop:=Sl bH 1 w A n c xs
theorem bT.get {w:World}{A:OAd}{n c k:Nat}{xs:LLi}(h:bT w A n c xs)(hk:k<n) :
  ∃b off x B m d,A=some ⟨b,off,none⟩∧b<w.heap.size∧Hid (xs[k]?=some x)∧w.cell? ⟨b,off+k,none⟩=some (.slice B m d)∧aJ w B m d x∧m≤17592186043904:=by
 obtain⟨b,off,x,vs,h1,h2,h3,h4,B,m,d,e,i,l⟩:=Sl.get h hk;refine⟨b,off,x,B,m,d,h1,h2,h3, ?_,i,l⟩;have:=h4 0 (by omega);rw[e]at this;simpa using this
open Go.ChangeShapes Go.WideShapes Go.ChangeAt Go.Deep
section
variable {H:Type} {enc:TypeId×Value→H} {W:World}
def rA {α:Type}(R:World→(Nat→Value)→α→Prop)(sz bytes e:Nat):Prop :=
 Jj R sz∧Tryz.prog.cellsOf e=sz∧Tryz.prog.bytesOf e=bytes∧0<bytes ∧
 ∀{H:Type} (enc:TypeId×Value→H) (W:World) (fuel:Nat) (cs:List Value) (d:DataW H) (pl:List MemPlace),DataW.trod enc Tryz.prog W 0 (fun _=>true) true fuel e cs=some (d,pl) →
  (∀x∈d.weights Tryz.prog e,x≤reachBytes)→cs.length=sz→∃x,R W (fun j=>cs.getD j undef) x
theorem oD {e:TypeId}:∀{l:List (DataW H)} {d:DataW H},d∈l→∀x∈d.weights Tryz.prog e,x∈DataW.weightsAll Tryz.prog e l
 | d0::l,d,hd,x,hx=>by
  unfold DataW.weightsAll;rw[List.mem_append];rcases List.mem_cons.1 hd with rfl|h
  ·exact .inl hx
  ·exact .inr (oD h x hx)
theorem QP {b off:Nat}{s:Option Nat}{q:Nat}{w:World}{v:Value}(h:w.cell? ((⟨b,off,s⟩:Addr).add q)=some v)(h0:s=none):w.cell? ⟨b,off+q,none⟩=some v:=by
 subst h0;unfold Addr.add at h;by_cases hq:q=0
 ·subst hq;simpa using h
 ·rw[if_neg hq]at h;exact h
theorem Sl.of_trod {α:Type} {R:World→(Nat→Value)→α→Prop} {t e sz bytes:Nat} (ht:Tryz.prog.underlying t=some (.slice e)) (hR:rA R sz bytes e) {fuel:Nat} {v:Value} {D:DataW H} {pl:List MemPlace}
  (h:DataW.trod enc Tryz.prog W 0 (fun _=>true) true fuel t [v]=some (D,pl)) (hw:∀x∈D.weights Tryz.prog t,x≤reachBytes) :
  ∃A n c xs,v=.slice A n c∧Sl R sz W A n c xs∧c*bytes≤reachBytes:=by
 obtain⟨G,h1,h2,h3,h4⟩:=hR;rcases open_slice ht h with⟨hcs,hx⟩|⟨a,len,cap,m,fu,Dx,Pl,hcs,_,hl,hm,hmm,hx,hel⟩
 ·injection hcs with hcs;exact⟨none,0,0,[],hcs,Sl.nil0,by omega⟩
 ·injection hcs with hcs;simp only[if_true]at hmm;subst hmm;injection hx with hx1 hx2;subst hx1;have hcap:m*bytes≤reachBytes:=by
   have:=hw _ (by
    unfold DataW.weights;rw[ht];exact List.mem_cons_self ..)
   simp only[List.length_map,List.length_range,h2]at this;rw[show len+(m-len)=m from by omega]at this;exact this
  have hb:m≤281474976710656:=by
   have:m*1≤m*bytes:=Nat.mul_le_mul_left _ h3;simp only[reachBytes]at hcap;omega
  have key:∀i,i<len→∃x,∃cs':List Value,(∀j,j<sz→W.cell? (a.add (i*sz+j))=some (cs'.getD j undef))∧R W (fun j=>cs'.getD j undef) x:=by
   intro i hi;obtain⟨cs',hc,ht'⟩:=hel i (by omega);rw[h1]at hc;obtain⟨_,hcl,hat⟩:=World.cells?_some hc;obtain⟨x,hx⟩:=h4 enc W fu cs' _ _ ht' (fun y hy=>hw y (by
    unfold DataW.weights;rw[ht];refine List.mem_cons_of_mem _ (List.mem_append_left _ (oD (d:=Dx i) ?_ y hy));exact List.mem_map.2 ⟨i,List.mem_range.2 hi,rfl⟩)) hcl
   refine⟨x,cs',fun j hj=>?_,hx⟩;rw[←add_add,hat j hj,List.getElem?_eq_getElem (by omega)];simp[List.getD,List.getElem?_eq_getElem (show j<cs'.length by omega)]
  have hxs:∃xs:List α,xs.length=len∧∀i x,xs[i]?=some x→∃cs':List Value,(∀j,j<sz→W.cell? (a.add (i*sz+j))=some (cs'.getD j undef))∧R W (fun j=>cs'.getD j undef) x:=by
   clear hcs hel hw hcap hb hl hm h;induction len with
   | zero=>exact⟨[],rfl,fun i x hx=>by simp at hx⟩
   | succ n ih =>
    obtain⟨xs,hl,hxs⟩:=ih (fun i hi=>key i (by omega));obtain⟨x,hx⟩:=key n (by omega);refine⟨xs++[x],by simp[hl],fun i y hy=>?_⟩;by_cases hi:i<n
    ·rw[List.getElem?_append_left (by omega)]at hy;exact hxs i y hy
    ·have hin:i=n:=by
      have:=(List.getElem?_eq_some_iff.1 hy).1;simp at this;omega
     subst hin;rw[List.getElem?_append_right (by omega),hl,Nat.sub_self]at hy;simp only[List.getElem?_cons_zero,Option.some.injEq]at hy;subst hy;exact hx
  obtain⟨xs,hlen,hxs⟩:=hxs;refine⟨some a,len,m,xs,hcs,⟨hlen,hl,hm,by omega,fun h=>(by cases h),fun hn=>?_⟩,hcap⟩;obtain⟨b,off,s⟩:=a;have h0:xs[0]?=some (xs[0]'(by omega)):=List.getElem?_eq_getElem _;obtain⟨cs',hc',_⟩:=hxs 0 _ h0;have hc0:=hc' 0 G.pos;have hz:(⟨b,off,s⟩:Addr).add (0*sz+0)=⟨b,off,s⟩:=by simp[Addr.add]
  rw[hz]at hc0;have hs:s=none:=World.cell?_spot hc0;refine⟨b,off,by rw[hs],World.block_lt_of_cell? W _ hc0,fun i x hx=>?_⟩;obtain⟨cs'',hc'',hR''⟩:=hxs i x hx;exact⟨fun j=>cs''.getD j undef,fun j hj=>QP (hc'' j hj) hs,hR''⟩
theorem lK {t:TypeId} {fs:Array Field} {fuel:Nat} {cs:List Value} {d:DataW H} {pl:List MemPlace} (hs:Tryz.prog.underlying t=some (.struct fs)) (hone:oneCellFields Tryz.prog fs=true)
  (h:DataW.trod enc Tryz.prog W 0 (fun _=>true) true fuel t cs=some (d,pl)) (hw:∀x∈d.weights Tryz.prog t,x≤reachBytes) (hl:cs.length=fs.size) :
  ∃n,∀j f,fs[j]?=some f→∃v y,cs.getD j undef=v∧DataW.trod enc Tryz.prog W 0 (fun _=>true) true n f.type [v]=some y∧∀x∈y.1.weights Tryz.prog f.type,x≤reachBytes:=by
 obtain⟨xs,n,_,hx,_,hlen,hg⟩:=DataW.trod_struct hs h;injection hx with hx1 hx2;subst hx1;refine⟨n,fun j f hj=>?_⟩;obtain⟨ho,hk⟩:=hone_of hone j f hj;have hjl:j<fs.size:=(Array.getElem?_eq_some_iff.1 hj).1;have h1:=hg j f hj;rw[ho,hk]at h1;have hv:(cs.drop j).take 1=[cs.getD j undef]:=by
  have e:cs.getD j undef=cs[j]'(by omega):=by rw[List.getD,List.getElem?_eq_getElem (show j<cs.length by omega)];rfl
  rw[e,List.drop_eq_getElem_cons (by omega)];rfl
 rw[hv]at h1;have hys:xs[j]?=some (xs[j]'(by omega)):=List.getElem?_eq_getElem (by omega);rw[hys]at h1;refine⟨_,_,rfl,h1,fun x hx=>hw x ?_⟩;unfold DataW.weights;rw[hs];refine DataW.weights_mem_each (j:=j) (t:=f.type) (d:=(xs[j]'(by omega)).1) ?_ ?_ x hx
 ·simp[List.getElem?_map,Array.getElem?_toList,hj]
 ·simp[List.getElem?_map,hys]
theorem Hz:rA iG 1 8 3:=by
 refine⟨iG.good,by kernel_rfl,by kernel_rfl,by omega,fun enc W fuel cs d pl h _ hl=>?_⟩;obtain⟨n,rfl,_,_⟩:=DataW.trod_int Tryz.underlying3 h;exact⟨n,rfl⟩
theorem aJ.of_trod {fuel:Nat}{v:Value}{D:DataW H}{pl:List MemPlace}(h:DataW.trod enc Tryz.prog W 0 (fun _=>true) true fuel 28 [v]=some (D,pl))(hw:∀x∈D.weights Tryz.prog 28,x≤reachBytes) :
  ∃A n c xs,v=.slice A n c∧aJ W A n c xs∧n≤17592186044416:=by
 obtain⟨A,n,c,xs,h1,h2,h3⟩:=Sl.of_trod Tryz.underlying28 Hz h hw;exact⟨A,n,c,xs,h1,h2,by have:=h2.le;simp only[reachBytes]at h3;omega⟩
theorem MH:rA wG 3 56 49:=by
 refine⟨wG.good,by kernel_rfl,by kernel_rfl,by omega,fun enc W fuel cs d pl h hw hl=>?_⟩;obtain⟨n,hf⟩:=lK Tryz.underlying49 (by kernel_rfl) h hw hl;obtain⟨v0,y0,e0,t0,w0⟩:=hf 0 _ rfl;obtain⟨v1,y1,e1,t1,w1⟩:=hf 1 _ rfl;obtain⟨v2,y2,e2,t2,w2⟩:=hf 2 _ rfl;obtain⟨l,hl0,_,_⟩:=DataW.trod_int Tryz.underlying3 t0;obtain⟨A1,n1,c1,xs,h1,i1,b1⟩:=aJ.of_trod t1 w1;obtain⟨A2,n2,c2,ys,h2,i2,b2⟩:=aJ.of_trod t2 w2;injection hl0 with hl0;exact⟨⟨l,xs,ys⟩,by show cs.getD 0 undef=_;rw[e0,hl0],A1,n1,c1,A2,n2,c2,by show cs.getD 1 undef=_;rw[e1,h1],by show cs.getD 2 undef=_;rw[e2,h2],i1,i2,b1,b2⟩
theorem QR:Tryz.prog.cellsOf 24=2:=by kernel_rfl
theorem WQ {base:Nat}{v:Value}{d:DataW H}{p:List MemPlace}(hv:Value.okWide Tryz.prog W .any base 24 v)(h:DataW.Trod enc Tryz.prog W 0 (fun _=>true) true 24 v d p)(hw:∀x∈d.weights Tryz.prog 24,x≤reachBytes) :
  ∃P A n c ts,v=.agg #[.int .i64 P,.slice A n c]∧bK W A n c ts∧n≤2513169434916:=by
 obtain⟨cs,rfl,hsz⟩:=okWide_struct Tryz.underlying24 hv;obtain⟨fuel,hf⟩:=h;have hl:cs.toList.length=2:=by rw[Array.length_toList,hsz,QR]
 obtain⟨n,hg⟩:=lK Tryz.underlying24 (by kernel_rfl) hf hw hl;obtain⟨v0,y0,e0,t0,w0⟩:=hg 0 _ rfl;obtain⟨v1,y1,e1,t1,w1⟩:=hg 1 _ rfl;obtain⟨P,hP,_,_⟩:=DataW.trod_int Tryz.underlying3 t0;obtain⟨A,n,c,ts,hs,hS,hb⟩:=Sl.of_trod Tryz.underlying22 MH t1 w1;injection hP with hP;have hcs:cs=#[.int .i64 P,.slice A n c]:=by
  have:cs.toList=[.int .i64 P,.slice A n c]:=by
   match hcl:cs.toList,hl with
   | [a,b],_ =>
    have e0':cs.toList.getD 0 undef=v0:=e0;have e1':cs.toList.getD 1 undef=v1:=e1;rw[hcl]at e0' e1';have e2:a=v0:=e0';have e3:b=v1:=e1';rw[e2,e3,hP,hs]
  exact Array.toList_inj.1 (by rw[this])
 subst hcs;exact⟨P,A,n,c,ts,rfl,hS,by have:=hS.le;simp only[reachBytes]at hb;omega⟩
end
section
variable {H:Type} {enc:TypeId×Value→H} {W:World}
theorem MI:rA bH 1 24 28:=by
 refine⟨bH.good,by kernel_rfl,by kernel_rfl,by omega,fun enc W fuel cs d pl h hw hl=>?_⟩;match cs,hl with
 | [v],_ =>
  obtain⟨A,n,c,xs,h1,i1,b1⟩:=Sl.of_trod Tryz.underlying28 Hz h hw;exact⟨xs,A,n,c,h1,i1,by have:=i1.le;simp only[reachBytes]at b1;omega⟩
end
end Go.Proofs.YtfmnagcglhlicaaGreat
