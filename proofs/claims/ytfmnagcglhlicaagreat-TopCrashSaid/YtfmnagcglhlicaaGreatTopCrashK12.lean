/- Texts melted into one: What arcs read as. Conditions: none. | Lists of things to do, as they read; what Play answers. Conditions: none. -/
import Derived.Test.YtfmnagcglhlicaaGreatTopCrashK06
import Derived.Test.YtfmnagcglhlicaaGreatTopCrashK09
namespace Go.Proofs.YtfmnagcglhlicaaGreat
open Go.RowKit
theorem VX:mC 81 156 3 24:=mC.mk' (z:=.agg #[.int .i64 0,.int .i64 0,.int .i64 0]) Tryz.underlying81 (by kernel_rfl) rfl (by decide)
def tM:World→(Nat→Value)→bO→Prop:=fun _ vs a=>vs 0=.int .i64 a.from_∧vs 1=.int .i64 a.tran∧vs 2=.int .i64 a.to_∧(Lit.int .i64 a.tran).wf=true
theorem tM.kept:t8 tM:=fun _ _ _ _ _ h=>h
abbrev tN (w:World)(A:OAd)(n c:Nat)(ars:List bO):Prop:=Sl tM 3 w A n c ars
theorem tN.get {w:World}{A:OAd}{n c k:Nat}{ars:List bO}(h:tN w A n c ars)(hk:k<n) :
  ∃b off a,A=some ⟨b,off,none⟩∧b<w.heap.size∧Hid (ars[k]?=some a)∧w.cell? ⟨b,off+k*3,none⟩=some (.int .i64 a.from_)∧w.cell? ⟨b,off+k*3+1,none⟩=some (.int .i64 a.tran)∧w.cell? ⟨b,off+k*3+2,none⟩=some (.int .i64 a.to_)∧Hid ((Lit.int .i64 a.tran).wf=true):=by
 obtain⟨b,off,a,vs,h1,h2,h3,h4,e0,e1,e2,e3⟩:=Sl.get h hk;refine⟨b,off,a,h1,h2,h3, ?_, ?_, ?_,e3⟩
 ·rw[←e0];exact h4 0 (by omega)
 ·rw[←e1];exact h4 1 (by omega)
 ·rw[←e2];exact h4 2 (by omega)
theorem eY {α:Type} {R:World→(Nat→Value)→α→Prop} {t e size bytes:Nat} (T:mC t e size bytes) {ops:Array Oper} {rest:List Oper} {o:Oper} {a:Act} {Q:Exit→Act→World→Prop} (hgd:o.guard=none) (s x:Operand)
  (ho:o.op=.call {callee:=.builtin .append,args:=#[s,x],argTypes:=#[t,t]})
  {w0 w:World} {B:Nat} {v:Value} {n m:Nat} {xs:List α} (ys:List α) (us:Array Value) {H:Nat} (hs:a.eval s=v) (hx:a.eval x=.slice (some ⟨H,0,none⟩) m m) (hH:H=w.heap.size) (hus:us.size=m*size) (hm:0<m) (one:∀u∈us.toList,u.oneCell'=true)
  (own:aC R size w B e v n xs) (hread:a6 R size w us.toList ys) (hy:ys.length=m) (hb:Below B w0 w) (hB:B≤w.heap.size) (h63:n+m≤281474976710656) (hn:(n+m)*bytes≤140737488355328)
  (hkeep:∀w',w.grownBy w' v.ownBlock→∀vs y,R w vs y→R w' vs y)
  (hK:∀g cap w',aC R size w' B e (.slice (some ⟨g,0,none⟩) (n+m) cap) (n+m) (xs++ys)→w.grownBy w' v.ownBlock→Below B w0 w'→(v.ownBlock=some g∨w.heap.size≤g)→wpList Tryz.prog ops Q rest (a.put o.dst (.slice (some ⟨g,0,none⟩) (n+m) cap)) w') :
  wpList Tryz.prog ops Q (o::rest) a (w.alloc (.cells us e)):=by
 subst hH;obtain⟨i,z,h1,h2,h3,h4,h5⟩:=T.info;obtain⟨cells,o1,o2,o3⟩:=own;have hlt:∀k,v.ownBlock=some k→B≤k∧k<w.heap.size:=o1.lt;refine wpList_append_lies _ hgd s x t ho B e i z size bytes T.und h1 h2 h3 h4 h5 T.pos v n cells hs (o1.alloc _) ⟨w.heap.size,0,none⟩ m m us.toList hx (by simpa using hus) (fun j u hj=>?_) one hm (by simp only[maxLen];omega) hn (by simp;omega) _ rfl (fun g cap w' h6 h7 h8 h9=>?_)
 ·have hz:((⟨w.heap.size,0,none⟩:Addr).add j)=⟨w.heap.size,j,none⟩:=by unfold Addr.add;split <;> simp_all
  rw[hz];have:(w.alloc (.cells us e)).cell? ⟨w.heap.size,j,none⟩=us[j]?:=cell_of_row _ _ _ _ _ (0,0) (heap_alloc_new w _);rw[this];simpa using hj
 ·have hg:w.grownBy w' v.ownBlock:=⟨h7.os,h7.tape,h7.output,Nat.le_trans (by simp) h7.size,fun k hk hne=>(h7.block k (by simp;omega) hne).trans (heap_alloc_old w _ hk)⟩;refine hK g cap w' ⟨_,h6, ?_,by rw[List.length_append,o3,hy]⟩ hg (hb.grown hg hB (fun k hk=>(hlt k hk).1)) (h8.imp id (fun e=>by rw[e];simp));have:=o2.append hread;exact⟨this.1,fun i x hx=>by obtain⟨vs,a,b⟩:=this.2 i x hx;exact⟨vs,a,hkeep _ hg _ _ b⟩⟩
end Go.Proofs.YtfmnagcglhlicaaGreat
