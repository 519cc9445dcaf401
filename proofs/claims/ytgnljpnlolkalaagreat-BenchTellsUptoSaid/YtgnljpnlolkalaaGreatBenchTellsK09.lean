/- Texts melted into one: The memory of mine.groups: what is left, the group, what is not linked, the groups so far. Conditions: none; plain lemmas on memory. | The contract of mine.groups. Conditions: the labels read as a list, in order; the function that links two labels tells so in each later world. -/
import Derived.Test.YtgnljpnlolkalaaGreatBenchTellsK06
import Derived.Sort.OwnSortedInts
import Derived.Test.YtgnljpnlolkalaaGreatBenchTellsK08
import Derived.Test.YtgnljpnlolkalaaGreatBenchTellsK07
import Derived.ChangeKeysEq
import Derived.Deep.MidRow
set_option linter.all false
set_option maxRecDepth 100000
set_option maxHeartbeats 8000000
namespace Go.Proofs.YtgnljpnlolkalaaGreat
open Go.RowKit Go.Shelf
def aY.keepRow {w w':World}{A:OAd}{n c:Nat}{xs:LIn}(h:aY w A n c xs){row:Option Nat}(d:w.grownBy w' row)(a:row=none∨row≠(Value.slice A n c).ownBlock):aY w' A n c xs :=
 aY.same h d.size (λb f e _ g=>d.block b g (by subst e;rcases a with h|h;rw[h];exact λe=>(by cases e);exact λe=>h e.symm))
def uZ {w:World}{B B2 e b s s2 n n2:Nat}{v v2:Value}{c c2:List Value}(h:w.ownsRow B e s v n c)(d:w.ownsRow B2 b s2 v2 n2 c2)(a:e≠b):v.ownBlock=none∨v.ownBlock≠v2.ownBlock:=jC h d a
def yD {P:Program} {w:World} (t ty e:TypeId) (i:TypeInfo) (z:Value) (size d:Nat) (G:P.underlying t=some (.slice e)) (H:P.info? e=some i) (I:i.zero=some z)
  (g:i.size=size) (r:i.bytes=d) (s:z.cells.size=size) (C:0<size)
  (A:OAd) (n:Nat) (xs:List Value) (x:xs.length=n*size) (o:A=none->n=0) (p:∀v,A=some v->∀j u,xs[j]?=some u->w.cell? (v.add j)=some u)
  (a:Addr) (m c:Nat) (b:List Value) (y:b.length=m*size) (R:0<m) (h:∀j u,b[j]?=some u->w.cell? (a.add j)=some u) (J:∀u∈b,u.oneCell'=true)
  (q:n+m<=maxLen) (f:(n+m)*d<=140737488355328) :
  ∃v' w',(Builtin.append_ #[t,t] ty #[.slice A n n,.slice (some a) m c]).run P w=.ok v' w'/\w'.ownsRow w e size v' (n+m) (xs++b)/\w.grownBy w' none:=by
 cases hA:A with
 | none =>
  have K:=o hA;subst K;have D:xs=[]:=dS (by simpa using x);subst D;obtain⟨v',w',L,M,N,_⟩:=run_append_own_at (P:=P) w w t ty e i z size d G H I g r s C () 0 [] (World.ownsRow_nil _ _ _ _) a m c b y h J q f (aB _);exact⟨v',w',L,M,N⟩
 | some v =>
  subst g r;have B:n+m<=9223372036854775807:=by simp only[maxLen]at q;omega
  have l:(xs++b).length=(n+m)*i.size:=by rw[bL,x,y,Nat.add_mul]
  have O:=run_append_grow (P:=P) w t ty e i z G H I v n n xs x (p v hA) a m c b y h (by omega) (by omega) (growslice_fits (by omega) f);have E:=grownCap_ge w (n+m) n e;have F:grownCap w (n+m) n e<=maxLen:=grownCap_le_maxLen w (n+m) n e q;refine⟨_,_,O,⟨l,.inr ⟨w.heap.size,_,_,rfl,aB _,iD w.drew _,E,F, ?_, ?_⟩⟩,⟨rfl,rfl,rfl,by simp,λk Q _=>heap_alloc_old w.drew _ Q⟩⟩
  .simp only[Array.size_append,List.size_toArray,size_zeroCells,s,x,y,<-Nat.add_mul];congr 1
   omega
  simp only[Array.toList_append,nC];rw[<-nC,<-l];exact List.take_left
def zR {ops:Array Oper} {rest:List Oper} {o:Oper} {a:Act} {Q:Exit->Act->World->Prop} (h:o.guard=none) (s x:Operand)
  (q:o.op=.call {callee:=.builtin .append,args:=#[s,x],argTypes:=#[24,24]})
  {w:World} {A:OAd} {n H:Nat} {xs:LIn} {y:Int} (r:a.eval s=.slice A n n) (t:a.eval x=.slice H 1 1) (v:H=w.heap.size)
  (src:aY w A n n xs) (X:n<=1000000)
  (K:∀g cap w',aI w' w (.slice (some ⟨g,0,none⟩) (n+1) cap) (n+1) (xs++[y])->Below w w w'->wpList Tryz.prog ops Q rest (a.put o.dst (.slice (some ⟨g,0,none⟩) (n+1) cap)) w') :
  wpList Tryz.prog ops Q (o::rest) a (w.alloc (.cells #[y] 3)):=by
 subst v;obtain⟨i,z,B,C,D,E,F⟩:=iO.info;have f:Below w w (w.alloc (.cells #[y] 3)):=aF w _;have b:=aY.keep src f;obtain⟨ds,G,I,J,Y,L⟩:=Sl.flat fG.good b;obtain⟨v',w',M,m,N⟩:=yD (P:=Tryz.prog) (w:=w.alloc (.cells #[y] 3)) 24 o.type 3 i z 1 8 iO.und B C D E F iO.pos A n ds G (λe=>(I e).1) J ⟨w,0,none⟩ 1 1 [.int .i64 y] rfl (by omega) (λj u p=>by
  have O:((⟨w,0,none⟩:Addr).add j)=⟨w.heap.size,j,none⟩:=by unfold Addr.add;split <;> simp_all
  rw[O];have:(w.alloc (.cells #[y] 3)).cell? ⟨w.heap.size,j,none⟩=(#[Value.int .i64 y]:Array Value)[j]?:=cell_of_row _ _ _ _ _ (0,0) (iD w _);rw[this];simpa using p) (by simp[Value.oneCell']) (by simp only[maxLen];omega) (by omega)
 obtain⟨g,cap,R,S,T⟩:∃g cap,v'=.slice (some ⟨g,0,none⟩) (n+1) cap/\(w.alloc (.cells #[y] 3)).heap.size<=g/\g<w'.heap.size:=m.form (by omega);subst R;have c:Below (w.alloc (.cells #[y] 3)).heap.size (w.alloc (.cells #[y] 3)) w':=(aH _ _).grown N (aB _) (λk U=>by cases U);have l:Below w w w':=f.trans (c.mono f.size);have V:cD fG 1 (w.alloc (.cells #[y] 3)) [.int .i64 y] [y]:=cD.one (vs:=λ_=>.int .i64 y) rfl rfl (λj p=>by cases j with|zero=>rfl|succ j=>omega);have W:=L.append V;have d:aI w' (w.alloc (.cells #[y] 3)).heap.size (.slice (some ⟨g,0,none⟩) (n+1) cap) (n+1) (xs++[y]) :=
  ⟨_,m,W.keep fG.kept c,by rw[bL,src.len];rfl⟩
 exact Lib.wpList_append_run _ h s x _ _ q _ _ r t _ _ M (K g cap w' (d.base f.size) l)
def PO (B:Nat)(vl vg vr:Value)(k:Nat):Prop:=B<=k/\vl.ownBlock≠some k/\vg.ownBlock≠some k/\vr.ownBlock≠some k
structure GrM (w0 w:World)(vl vg vr vo:Value)(m n1 n2 n3:Nat)(l grp rest:LIn)(out:LLi):Prop where
 bel:Below w0.heap.size w0 w
 lf:∃A c,vl=.slice A m c/\aY w A m c l
 lb:∀k,vl.ownBlock=some k->k<w.heap.size
 gi:IsI w (λk=>w0.heap.size<=k) vg n1 grp
 gw:(aI w w0.heap.size vg n1 grp/\vg.ownBlock≠vl.ownBlock)∨(n1=1/\∃g,vg=.slice (some ⟨g,0,none⟩) 1 1)
 rs:aI w w0.heap.size vr n2 rest
 a1:vr.ownBlock=none∨vr.ownBlock≠vl.ownBlock
 a2:vr.ownBlock=none∨vr.ownBlock≠vg.ownBlock
 ou:Hy w (PO w0.heap.size vl vg vr) w0.heap.size vo n3 out
section
variable {w0 w w':World} {vl vg vr vo:Value} {m n1 n2 n3:Nat} {l grp rest:LIn} {out:LLi}
def GrM.keep (h:GrM w0 w vl vg vr vo m n1 n2 n3 l grp rest out)(d:Below w w w'):GrM w0 w' vl vg vr vo m n1 n2 n3 l grp rest out where
 bel:=h.bel.trans (d.mono h.bel.size)
 lf:=by obtain⟨A,c,e,i⟩:=h.lf;exact⟨A,c,e,i.keep d⟩
 lb:=λk f=>bD (h.lb k f) d.size
 gi:=h.gi.keep d
 gw:=h.gw.imp (λ⟨a,b⟩=>⟨a.keep fG.kept d,b⟩) id
 rs:=h.rs.keep fG.kept d
 a1:=h.a1
 a2:=h.a2
 ou:=h.ou.keep d
def IsI.of_own {B:Nat}{v:Value}{n:Nat}{xs:LIn}(h:aI w B v n xs)(a:0<n):IsI w (λk=>B<=k) v n xs:=by
 obtain⟨g,cap,e,b,_⟩:=h.form a;subst e;exact⟨g,cap,rfl,(xJ.of_own h).1,b⟩
def GrM.appG (h:GrM w0 w vl vg vr vo m n1 n2 n3 l grp rest out)(f:aI w w0 vg n1 grp/\vg.ownBlock≠vl.ownBlock){v':Value}{y:Int}(o:aI w' w0 v' (n1+1) (grp++[y]))(d:w.grownBy w' vg.ownBlock)(g:v'.ownBlock=vg.ownBlock∨v'.ownBlock=some (w.heap.size+1)):GrM w0 w' vl v' vr vo m (n1+1) n2 n3 l (grp++[y]) rest out where
 bel:=h.bel.grown d h.bel.size (λk b=>(f.1.lt k b).1)
 lf:=by obtain⟨A,c,e,i⟩:=h.lf;subst e;exact⟨A,c,rfl,i.keepRow d (.inr f.2)⟩
 lb:=λk b=>bD (h.lb k b) d.size
 gi:=IsI.of_own o (by omega)
 gw:=.inl ⟨o,by
  rcases g with e|e
  .rw[e];exact f.2
  rw[e];intro a;have:=h.lb _ a.symm;omega⟩
 rs:=h.rs.kept d (h.a2) (λ_ _ x=>x)
 a1:=h.a1
 a2:=by
  rcases h.a2 with e|e
  .exact .inl e
  rcases g with a|a
  .rw[a];exact .inr e
  refine .inr ?_;rw[a];intro j;have:=(h.rs.lt _ j).2;omega
 ou:=by
  obtain⟨c1,n,_⟩:=h.ou;obtain⟨c2,p,_⟩:=f.1;refine((h.ou.wide (Q:=λk=>PO w0 vl vg vr k/\PO w0 vl v' vr k) (λk b hp=>⟨hp,hp.1,hp.2.1, ?_,hp.2.2.2⟩)).grown d (λk b hp=>hp.1.2.2.1 b) (uZ n p (by decide))).wide (λk _ hp=>hp.2);rcases g with e|e
  .rw[e];exact hp.2.2.1
  rw[e];intro a;injection a with a;omega
def GrM.appC (h:GrM w0 w vl vg vr vo m n1 n2 n3 l grp rest out){v':Value}{y:Int}(o:aI w' w v' (n1+1) (grp++[y]))(a:Below w w w'):GrM w0 w' vl v' vr vo m (n1+1) n2 n3 l (grp++[y]) rest out:=by
 have d:=h.bel.size;have f:∀k,v'.ownBlock=some k->w.heap.size<=k:=λk b=>(o.lt k b).1
 refine⟨h.bel.trans (a.mono d), ?_,λk b=>bD (h.lb k b) a.size,IsI.of_own (o.base d) (by omega),.inl ⟨o.base d,λe=>?_⟩,h.rs.keep fG.kept a,h.a1, ?_, ?_⟩
 .obtain⟨A,c,e,i⟩:=h.lf;exact⟨A,c,e,i.keep a⟩
 .obtain⟨g,c,j,_⟩:=o.form (by omega);have n:=f g (by rw[j];rfl);have:=h.lb g (by rw[<-e,j];rfl);omega
 .rcases h.a2 with e|_
  .exact .inl e
  cases hr:vr.ownBlock with
  | none=>exact .inl rfl
  | some k =>
   refine .inr λe=>?_
   have:=f k e.symm;have:=(h.rs.lt k hr).2;omega
 refine(h.ou.wide (λk b hp=>⟨hp.1,hp.2.1,λe=>?_,hp.2.2.2⟩)).keep a;have:=f k e;omega
def GrM.appR (h:GrM w0 w vl vg vr vo m n1 n2 n3 l grp rest out){v':Value}{y:Int}(o:aI w' w0 v' (n2+1) (rest++[y]))(g:w.grownBy w' vr.ownBlock)(p:v'.ownBlock=vr.ownBlock∨v'.ownBlock=some (w.heap.size+1)):GrM w0 w' vl vg v' vo m n1 (n2+1) n3 l grp (rest++[y]) out:=by
 obtain⟨s,u,n,t,q⟩:=h.gi;refine⟨h.bel.grown g h.bel.size (λk j=>(h.rs.lt k j).1), ?_,λk j=>bD (h.lb k j) g.size, ?_, ?_,o, ?_, ?_, ?_⟩
 .obtain⟨A,c,e,i⟩:=h.lf;subst e;exact⟨A,c,rfl,i.keepRow g h.a1⟩
 .refine⟨s,u,n,t.kept g ?_,q⟩;rcases h.a2 with e|e
  .rw[e];exact λe=>(by cases e)
  rw[n]at e;exact e
 .rcases h.gw with⟨a,b⟩|c
  .exact .inl ⟨a.kept g (by rcases h.a2 with e|e;exact .inr (by rw[e,n];exact λe=>(by cases e));exact .inr (λd=>e d.symm)) (λ_ _ x=>x),b⟩
  exact .inr c
 .refine .inr ?_;rcases p with e|e
  .rw[e];rcases h.a1 with f|f
   .exfalso
    obtain⟨v,z,r,_⟩:=o.form (by omega);rw[f,r]at e;cases e
   exact f
  rw[e];intro d;have:=h.lb _ d.symm;omega
 .refine .inr ?_;rcases p with e|e
  .rw[e];rcases h.a2 with f|f
   .exfalso
    obtain⟨v,z,r,_⟩:=o.form (by omega);rw[f,r]at e;cases e
   exact f
  rw[e,n];intro d;injection d with d;change w.heap.size+1=s at d;have:=t.lt;omega
 obtain⟨c1,B,_⟩:=h.ou;obtain⟨c2,C,_⟩:=h.rs;refine((h.ou.wide (Q:=λk=>PO w0 vl vg vr k/\PO w0 vl vg v' k) (λk j hp=>⟨hp,hp.1,hp.2.1,hp.2.2.1, ?_⟩)).grown g (λk j hp=>hp.1.2.2.2 j) (uZ B C (by decide))).wide (λk _ hp=>hp.2);rcases p with e|e
 .rw[e];exact hp.2.2.2
 rw[e];intro d;injection d with d;omega
def GrM.turn (h:GrM w0 w vl vg vr vo m n1 n2 n3 l grp rest out)(b:n2<=281474976710656):GrM w0 w vr vg () vo n2 n1 0 n3 rest grp [] out/\(vr.ownBlock=none∨vr.ownBlock≠vg.ownBlock):=by
 obtain⟨n,o,d,p,f⟩:=h.gi;refine⟨⟨h.bel, ?_,λk g=>(h.rs.lt k g).2,h.gi, ?_,aJ.nil,.inl rfl,.inl rfl,h.ou.wide (λk _ hp=>⟨hp.1,hp.2.2.2,hp.2.2.1,λe=>(by cases e)⟩)⟩,h.a2⟩
 .obtain⟨A,c,e,i⟩:=h.rs.sl b;exact⟨A,c,e,i⟩
 rcases h.gw with⟨a,_⟩|c
 .refine .inl ⟨a, ?_⟩;rcases h.a2 with e|e
  .rw[e,d];exact λe=>(by cases e)
  exact λj=>e j.symm
 exact .inr c
end
structure Uy (w0 w:World)(vl vo:Value)(n n3:Nat)(l:LIn)(out:LLi):Prop where
 bel:Below w0.heap.size w0 w
 lf:aI w w0.heap.size vl n l
 ou:Hy w (λk=>w0.heap.size<=k/\vl.ownBlock≠some k) w0.heap.size vo n3 out
def Uy.start {w0 w:World}{vo:Value}{g cap n n3:Nat}{x:Int}{l:LIn}{out:LLi}(h:Uy w0 w (.slice g n cap) vo n n3 (x::l) out)(f:n<=281474976710656) :
  GrM w0 w (.slice (if cap=1 then some ⟨g,0,none⟩else some ⟨g,1,none⟩) (n-1) (cap-1)) (.slice g 1 1) () vo (n-1) 1 0 n3 l [x] [] out:=by
 have a:=xJ.of_own h.lf;have i:=Sl.tail1 (a.1.ints f);have c:(Value.slice (if cap=1 then some ⟨g,0,none⟩else some ⟨g,1,none⟩) (n-1) (cap-1)).ownBlock=some g:=by
  by_cases d:cap=1
  .rw[aG d];rfl
  rw[aD d];rfl
 refine⟨h.bel,⟨_,_,rfl,by simpa using i⟩,λk b=>?_,⟨g,1,rfl,a.1.one,a.2⟩,.inr ⟨rfl,g,rfl⟩,aJ.nil,.inl rfl,.inl rfl,h.ou.wide (λk _ hp=>⟨hp.1,by rw[c];exact hp.2,hp.2,λe=>(by cases e)⟩)⟩;rw[c]at b;injection b with b;subst b;exact a.1.lt
def Fp {w:World}{P:Nat->Prop}{v:Value}{n:Nat}{xs:LIn}(h:IsI w P v n xs)(j:n<=1000) :
  Calls Tryz.prog 160 #[v] w λe w'=>e=.returned (.tuple #[])/\IsI w' P v n (xs.mergeSort λx y=>decide (x<=y))/\w.grownBy w' v.ownBlock:=by
 obtain⟨g,cap,rfl,b,hp⟩:=h;obtain⟨a,d,f⟩:=b.blk;have i:=b.len;subst i;refine(slices_Sort_int g 0 cap xs w (holds_of_blockI d f) b.lt (by omega)).mono ?_;rintro e w' ⟨rfl,q,os,rfl⟩;have c:xs.length<=a.size:=by
  have:=aO List.length f;rw[dT,dQ]at this;have e:a.toList.length=a.size:=by simp
  omega
 refine⟨rfl,⟨g,cap,rfl,⟨by simp,b.le,b.cap,_,heap_sortedI _ d, ?_⟩,hp⟩,grownBy_sortedI _⟩;have:=take_putCellsI a (xs.mergeSort λx y=>decide (x<=y)) (by simpa using c);simpa using this
end Go.Proofs.YtgnljpnlolkalaaGreat
namespace Go.Proofs.YtgnljpnlolkalaaGreat
open Go.RowKit
structure VQ (F:FuncId)(bd cv:Array Value)(w:World)(ls:LIn)(lk:Int->Int->Bool):Prop where
 enters:∀args w,(callFunc F args).run Tryz.prog w=.ok (.enter F args) w
 calls:∀(wr:World) (a b:Int),a∈ls->b∈ls->Below w.heap.size w wr->Calls Tryz.prog F (bd++(#[.int .i64 a,.int .i64 b]++cv)) wr λe w'=>e=.returned (.bool (lk a b))/\Below wr.heap.size wr w'
def dY (lk:Int->Int->Bool)(ls:LIn):LLi:=vW ls (gI lk ls ls.length)
def Na (lk:Int->Int->Bool)(ls:LIn)(w:World)(e:Ending)(w':World):Prop :=
 ∃vo n,e=.returned vo/\n<=26/\mJ w' w.heap.size w.heap.size vo n (dY lk ls)/\tW lk ls (dY lk ls)/\Below w.heap.size w w'
def J9 {l:LIn}(h:l.Nodup):(l.mergeSort λx y=>decide (x<=y)).Pairwise (.< .):=by
 have e:=List.pairwise_mergeSort (le:=λ(x y:Int)=>decide (x<=y)) (λa b c e f=>by simp at *;omega) (λa b=>by simp;omega) l;have f:(l.mergeSort λx y=>decide (x<=y)).Nodup:=(List.mergeSort_perm l _).symm.nodup h;exact(List.pairwise_and_iff.2 ⟨e,f⟩).imp (λ{a b} d=>by have:=d.1;have:=d.2;simp at *;omega)
def rP {w:World}{A:OAd}{n c:Nat}{ls:LIn}{F:FuncId}{bd cv:Array Value}{lk:Int->Int->Bool}(h:aY w A n c ls)(hn:n<=26)(hs:ls.Pairwise (.< .))(hF:VQ F bd cv w ls lk) :
  Calls Tryz.prog 116 #[.slice A n c,.func (.func F) bd cv] w (Na lk ls w):=by
 have H:=aA h;have O:=aA (And.intro hn hs);have b9:=hF.enters;have HF:=aA hF;have hl:=aA h.len;clear h hn hs hF;go_enter Tryz.func116,Tryz.ntmps116
 go_wp2_with fail
 refine(eY H.o (by have:=O.o.1;omega)).mono ?_;rintro e w1 ⟨v0,rfl,own,hb⟩;have C:=aA (show Uy w w1 v0 () n 0 ls []from⟨hb,own,aJ.nil⟩);clear own hb;go_wp2
 go_loopg [5,6] n (λgk s5 s6 wr=>∃vo vl n' n3 l G,vo=s5/\vl=s6/\Hid (n'<=gk/\n3+n'<=n)/\Hid (Uy w wr vl vo n' n3 l G)/\Hid (GrI lk ls G l))
 case atStart=>exact⟨_,_,n,0,ls,[],rfl,rfl,aA (by omega),C,aA (GrI.start O.o.2)⟩
 case round =>
  clear C;obtain⟨vo,vl,n',n3,l,G,rfl,rfl,t,C,V⟩:=hrel;cases l with
  | nil =>
   have c0:=aA (show Na lk ls w (.returned vo) wr from by
    have e:=(V.o.fin).uniq (jX O.o.2);subst e;exact⟨vo,n3,rfl,by have:=t.o;have:=O.o;omega,C.o.ou.wide (λk _ hp=>hp.1),jX O.o.2,C.o.bel⟩)
   obtain rfl:n'=0:=C.o.lf.len.symm;obtain⟨A1,c1,rfl,_⟩:=C.o.lf.sl (by omega);clear C V t;go_wp2
   go_ret
   exact c0.o
  | cons x l =>
   have W:=C.o.lf.len;obtain⟨u,rfl⟩:∃u,n'=u+1:=⟨l.length,by rw[<-W];rfl⟩;obtain⟨g,cap,rfl,c6,S⟩:=C.o.lf.form (by omega);have a3:=(xJ.of_own C.o.lf).1.le;have B:=aA (C.o.start (by have:=t.o;have:=O.o;omega));have L0:=aA (show l.length=u by simpa using W);have K:=aA (show AbI lk ls (x::l) [x] l 0 from AbI.start V.o.lasc (V.o.lsub x (by simp)));have h9:(0:Int)<((u+1:Nat):Int):=by omega
   have i0:(1:Int)<=(cap:Int):=by omega
   clear W c6 S;go_upto_region 5 with fail
   go_cut [6]from 19 to 20 (λs6 wx=>s6=.slice (if cap=1 then some ⟨g,0,none⟩else some ⟨g,1,none⟩) u (cap-1)/\wx=wr)
   case first =>
    by_cases hc:cap=1
    .subst hc;clear a3;go_wp2
     go_meet
     exact⟨by simp,rfl⟩
    have HC:=aA hc;have i4:1<cap:=by omega
    clear hc a3;go_wp2
    go_meet
    exact⟨by rw[aD HC.o],rfl⟩
   case rest =>
   obtain⟨rfl,rfl⟩:=hcut;obtain⟨wo,d0⟩:∃x:World,x=wc:=⟨_,rfl⟩;subst d0;obtain⟨go,d1⟩:∃x:Nat,x=gk:=⟨_,rfl⟩;subst d1;rw[Nat.add_sub_cancel]at B;obtain⟨vl,X⟩:∃v:Value,v=.slice (if cap=1 then some ⟨g,0,none⟩else some ⟨g,1,none⟩) u (cap-1):=⟨_,rfl⟩;rw[<-X]at B;rw[<-X];clear X;obtain⟨L,hL⟩:=bS (x::l);have LS:=aA (show ∀y∈L,y∈ls from hL▸V.o.lsub);rw[<-hL]at V K;clear hL C;go_wp2
   go_loopg [6,7,8] (u+1) (λgk s6 s7 s8 wr=>∃vl vg m n1 k l grp,vl=s6/\vg=s7/\s8=.int .i64 (k:Nat)/\Hid (u+1<=k+gk/\n1+m=u+1)/\Hid (AbI lk ls L grp l k)/\Hid (GrM w wr vl vg () vo m n1 0 n3 l grp [] G)/\Hid (0<k->vg.ownBlock≠vl.ownBlock/\aI wr w vl m l))
   case atStart=>exact⟨_,_,u,1,0,l,[x],rfl,rfl,rfl,aA (by omega),K,B,aA (λh=>absurd h (by omega))⟩
   clear K B;obtain⟨vl,vg,m,n1,k,l,grp,rfl,rfl,rfl,HK,K,B,NE⟩:=hrel;obtain⟨gg,gc,rfl,hG,Y⟩:=B.o.gi;have S:=hG.len;have a4:=hG.le;by_cases Q:k<n1
   rotate_left
   .have d2:¬(k:Int)<(n1:Int):=by omega
    have f:=aA (show k=grp.length/\0<k/\n1<=26/\n3<=25/\m<=go-1/\go-1<go/\(n3+1)+m<=n by
     have Z:=K.o.k1;have h2:=HK.o;have h3:=t.o;have h4:=O.o;have h5:grp.length≠0:=λe=>K.o.ne (List.length_eq_zero_iff.1 e)
     omega)
    have d3:=aA Y;have CS:=aA (Fp (P:=λq=>w.heap.size<=q/\vl.ownBlock≠some q) ⟨gg,gc,rfl,hG,Y,λe=>(NE.o f.o.2.1).1 e.symm⟩ (by have:=f.o;omega));have OL:=aA (NE.o f.o.2.1);have hB:=B.o.bel.size;clear hG S a4 Q NE;go_wp2_with fail
    refine CS.o.mono ?_;rintro e I ⟨rfl,d4,D⟩;obtain⟨c1,o1,_⟩:=B.o.ou;have a5:vo.ownBlock=none∨vo.ownBlock≠some gg:=by
     obtain⟨g8,c8,e8,h8,_⟩:=B.o.gi;injection e8 with e8 _ _;injection e8 with e8;injection e8 with e8;subst e8;obtain⟨i9,d,_⟩:=h8.blk;rcases o1.2 with⟨e,_⟩|⟨g9,i1,i2,e,_,d5,_⟩
     .exact .inl (by rw[e];rfl)
     refine .inr ?_;rw[e];intro e2;injection e2 with e2;change g9=gg at e2
     subst e2;rw[d5]at d;injection d with d;injection d with _ d _;exact absurd d (by decide)
    have OU:=aA (show Hy I (λq=>w.heap.size<=q/\vl.ownBlock≠some q) w vo n3 G from
     (B.o.ou.grown D (λk Q hp=>hp.2.2.1 Q) a5).wide (λk _ hp=>⟨hp.1,hp.2.1⟩))
    have LF:=aA (show aI I w vl m l from OL.o.2.kept D (.inr (λe=>OL.o.1 e.symm)) (λ_ _ x=>x));have BE:=aA (show Below w w I from B.o.bel.grown D hB (λk Q=>by injection Q with Q;rw[<-Q];exact d3.o));obtain⟨gs,cs,es,a6,a9⟩:=d4;injection es with M _ d6;injection M with M;injection M with M;subst M d6;have RD:=aA (show cD (ApR (λq=>w.heap.size<=q/\vl.ownBlock≠some q)) 1 I [.slice gg n1 gc] [grp.mergeSort λx y=>decide (x<=y)]from cD.list1 ⟨gg,n1,gc,rfl,a6,a9,by have:=f.o;omega⟩);have d7:=aA (show GrI lk ls (G++[grp.mergeSort λx y=>decide (x<=y)]) l from(f.o.1▸K.o).group V.o (List.mergeSort_perm _ _) (J9 K.o.nd));have b0:=BE.o.size;have e0:(n3+1)*24<=140737488355328:=by have:=f.o;omega
    have e1:n3+1<=281474976710656:=by omega
    have KP:=aA (show ∀w',I.grownBy w' vo.ownBlock->∀vs y,ApR (λq=>w.heap.size<=q/\vl.ownBlock≠some q) I vs y->ApR (λq=>w.heap.size<=q/\vl.ownBlock≠some q) w' vs y from by
     obtain⟨c2,o2,_⟩:=OU.o;exact λw' hg vs y hy=>hy.grownRow o2 (by decide) hg)
    clear a6 a9 a5 o1 D;go_wp2_with (at_builtin;refine dJ (v:=vo) lO rfl _ _ rfl [grp.mergeSort λx y=>decide (x<=y)] _ rfl rfl rfl rfl (by simp[Value.oneCell']) OU.o RD.o rfl b0 e1 e0 KP.o ?_;intro v9 w9 b1 e3 j0;have O9:=aA b1;have G9:=aA e3)
    go_roundg (go-1)
    case measure=>exact f.o.2.2.2.2.2.1
    refine⟨v9,vl,m,n3+1,l,_,rfl,rfl,aA ⟨f.o.2.2.2.2.1,f.o.2.2.2.2.2.2⟩,aA ⟨BE.o.grown G9.o b0 (λk Q=>(OU.o.lt k Q).1), ?_,O9.o⟩,d7⟩;obtain⟨c2,o2,_⟩:=OU.o;obtain⟨c3,o3,o4,o5⟩:=LF.o;exact aJ.kept ⟨c3,o3,o4,o5⟩ G9.o (uZ o3 o2 (by decide)) (λ_ _ x=>x)
   have d2:(k:Int)<(n1:Int):=by omega
   obtain⟨z,hz⟩:∃z,grp[k]?=some z:=⟨_,aV (by omega)⟩;have HZ:=aA (show grp[k]?=some z/\k<grp.length from⟨hz,by omega⟩);obtain⟨A3,c3,rfl,hI⟩:=B.o.lf;have HL:=aA hI.len;have b2:=aA (show m<=26/\k<=26 by have:=HK.o;have:=O.o;have:=t.o;omega);have b3:=aA (show gk-1<gk/\u+1<=(k+1)+(gk-1) by have:=HK.o;omega);obtain⟨g2,D⟩:∃x:Nat,x=gk:=⟨_,rfl⟩;subst D;clear hG Y S a4 hz hI Q;go_wp2
   go_loopg [7,9,29] m (λgk s7 s9 e5 wr=>∃vg vr a n2 i,vg=s7/\vr=s9/\e5=.int .i64 (i:Nat)/\Hid (i+gk=m/\a+n2+gk=u+1)/\Hid (GrM w wr (.slice A3 m c3) vg vr vo m a n2 n3 l (grp++(l.take i).filter (lkB lk z)) ((l.take i).filter λb=>!lkB lk z b) G))
   case atStart=>exact⟨_,_,n1,0,0,rfl,rfl,rfl,aA (by have:=HK.o;omega),aA (by simpa using B.o)⟩
   clear B NE;obtain⟨vg,vr,a,n2,i,rfl,rfl,rfl,HI,j⟩:=hrel;by_cases hi:i<m
   rotate_left
   .have b4:l.take i=l:=aW (by have:=HL.o;omega);have f0:¬(i:Int)<(m:Int):=by omega
    rw[b4]at j;have b5:=aA (show a+n2=u+1 by have:=HI.o;omega);have GT:=aA (j.o.turn (by have:=b5.o;have:=O.o;have:=t.o;have:=hl.o;omega));have f1:=aA (show vg.ownBlock≠vr.ownBlock by
     obtain⟨g9,c9,e9,_⟩:=j.o.gi;rcases GT.o.2 with e|e
     .rw[e,e9];exact λe=>(by cases e)
     exact λe2=>e e2.symm)
    have RS:=aA j.o.rs;have AN:=aA (K.o.next HZ.o.1 LS.o);have j1:IntKind.i64.wrap ((k:Int)+1)=((k+1:Nat):Int):=by
     have:=b2.o;simp[IntKind.wrap,IntKind.bits,IntKind.signed];omega
    clear b4 hi j HI;go_wp2
    go_roundg (g2-1)
    case measure=>exact b3.o.1
    exact⟨vr,vg,n2,a,k+1,_,_,rfl,rfl,rfl,aA ⟨b3.o.2,b5.o⟩,AN,aA GT.o.1,aA (λ_=>⟨f1.o,RS.o⟩)⟩
   have f0:(i:Int)<(m:Int):=by omega
   obtain⟨A4,c4,e4,hI⟩:=j.o.lf;injection e4 with f2 _ f3;subst f2 f3;obtain⟨b,j2,y,eA,k0,hy,hc⟩:=hI.get hi;subst eA;obtain⟨g3,c5,rfl,T,_⟩:=j.o.gi;have a0:=T.cell (i:=k) (x:=z) (by rw[fO HZ.o.2];exact HZ.o.1);have k1:(k:Int)<(a:Int):=by
    have:=T.len;rw[bL]at this;have:=HZ.o.2;omega
   have f4:=T.lt;have HY:=aA (show l[i]?=some y from hy);have zM:=LS.o z ((K.o.mem z).2 (.inl (aS HZ.o.1)));have yM:=LS.o y ((K.o.mem y).2 (.inr (aS hy)));have b6:=aA (HF.o.calls wr z y zM yM j.o.bel);have f5:=aA (λ(I:World) (hb:Below wr wr I)=>HF.o.calls I y z yM zM (j.o.bel.trans (hb.mono j.o.bel.size)));have J:=aA (show gk-1<gk/\(i+1)+(gk-1)=m/\(a+1)+n2+(gk-1)=u+1/\a+(n2+1)+(gk-1)=u+1/\a<=25/\n2<=25 by have:=HI.o;have:=O.o;have:=t.o;have:=hl.o;omega);clear T hI hy hi zM yM;go_upto_region 13 with fail
   go_cut [48]from 48 to 48 (λs wx=>∃bb:Bool,s=.bool bb/\Hid (bb=lkB lk z y)/\Hid (Below wr wr wx))
   case first =>
    cases Z:lk z y
    .have R:=aA Z;clear Z;go_wp2_with fail
     refine b6.o.mono ?_;rw[R.o];rintro e I ⟨rfl,E⟩;have i3:=(E.cell (p:=⟨g3,k,none⟩) f4).trans a0;have U:=aA E;clear E a0 hc;go_wp2_with fail
     refine(f5.o I U.o).mono ?_;rintro e w3 ⟨rfl,b7⟩;have B3:=aA (U.o.trans (b7.mono U.o.size));clear b7;go_wp2
     go_meet
     exact⟨lk y z,rfl,aA (by unfold lkB;rw[R.o];rfl),B3⟩
    have R:=aA Z;clear Z;go_wp2_with fail
    refine b6.o.mono ?_;rw[R.o];rintro e I ⟨rfl,E⟩;have U:=aA E;clear E;go_wp2
    go_meet
    exact⟨true,rfl,aA (by unfold lkB;rw[R.o];rfl),U⟩
   case rest =>
   obtain⟨bb,rfl,R,U⟩:=hcut;have j:=aA (j.o.keep U.o);have TK:=aA (show l.take (i+1)=l.take i++[y] by rw[cP,HY.o];rfl);have hB:=j.o.bel.size;clear hc a0 U;have k2:IntKind.i64.wrap ((i:Int)+1)=((i+1:Nat):Int):=by
    have:=J.o.2.1;have:=b2.o;simp[IntKind.wrap,IntKind.bits,IntKind.signed];omega
   have f6:a<=26:=by have:=J.o;omega
   have g0:n2<=26:=by have:=J.o;omega
   cases bb
   .have FN:=aA (show(l.take (i+1)).filter (lkB lk z)=(l.take i).filter (lkB lk z)/\(l.take (i+1)).filter (λb=>!lkB lk z b)=(l.take i).filter (λb=>!lkB lk z b)++[y] by
     rw[TK.o,dP,dP];have:=R.o;simp[<-this])
    clear R TK;go_wp2_with (at_builtin;refine gJ rfl _ _ rfl rfl rfl rfl j.o.rs hB g0 ?_;intro v8 w8 r a1 a2;have GV:=aA (j.o.appR r a1 a2))
    go_roundg (gk-1)
    case measure=>exact J.o.1
    exact⟨_,v8,a,n2+1,i+1,rfl,rfl,rfl,aA ⟨J.o.2.1,J.o.2.2.2.1⟩,aA (by rw[FN.o.1,FN.o.2];exact GV.o)⟩
   have FN:=aA (show grp++(l.take (i+1)).filter (lkB lk z)=grp++(l.take i).filter (lkB lk z)++[y]/\(l.take (i+1)).filter (λb=>!lkB lk z b)=(l.take i).filter (λb=>!lkB lk z b) by
    rw[TK.o,dP,dP];have:=R.o;simp[<-this])
   clear R TK;rcases j.o.gw with⟨o,ne⟩|⟨Z,g6,e6⟩
   .have NE:=aA ne;clear ne;go_wp2_with (at_builtin;refine gJ rfl _ _ rfl rfl rfl rfl o hB f6 ?_;intro v8 w8 r a1 a2;have GV:=aA (j.o.appG ⟨o,NE.o⟩ r a1 a2))
    go_roundg (gk-1)
    case measure=>exact J.o.1
    exact⟨v8,_,a+1,n2,i+1,rfl,rfl,rfl,aA ⟨J.o.2.1,J.o.2.2.1⟩,aA (by rw[FN.o.1,FN.o.2];exact GV.o)⟩
   subst Z;injection e6 with g1 _ g4;subst g4;have g5:aY wc (some ⟨g3,0,none⟩) 1 1 (grp++(l.take i).filter (lkB lk z)):=by
    obtain⟨g7,c7,e7,h7,_⟩:=j.o.gi;injection e7 with N _ h0;subst h0;injection N with N;injection N with N;subst N;exact h7.ints (by omega)
   clear g1;go_wp2_with (at_builtin;refine zR rfl _ _ rfl rfl rfl rfl g5 (by omega) ?_;intro g8 c8 w8 r h6;have GV:=aA (j.o.appC r h6))
   go_roundg (gk-1)
   case measure=>exact J.o.1
   exact⟨_,_,1+1,n2,i+1,rfl,rfl,rfl,aA ⟨J.o.2.1,J.o.2.2.1⟩,aA (by rw[FN.o.1,FN.o.2];exact GV.o)⟩
end Go.Proofs.YtgnljpnlolkalaaGreat
namespace Go.Proofs.YtgnljpnlolkalaaGreat
def rQ (t:LIn):Bool:=decide (t.length=0)
def bF (log:LLi):LLi:=log.filter λt=>!rQ t
noncomputable def mR (log:LLi):bI:=open Classical in if h:∃p,eZ log p then Classical.choose h else zG
def sO {log:LLi}{p:bI}(h:eZ log p):mR log=p:=by
 have a:∃p,eZ log p:=⟨p,h⟩;unfold mR;rw[dif_pos a];exact(nD a).uniq h
def bhB (p:bI)(a b:Int):Bool:=p.behind.any λq=>decide ((a,b)=q)
def dE (p:bI):Int->Int->Bool:=jD p.labels (bhB p) p.labels
def j3 (p:bI)(a b:Int):Bool:=!bhB p a b||!bhB p b a
def iS (g l:LIn):Bool:=g.any λa=>inS l a
noncomputable def Wz (lds:Int->Int->Bool)(G:LLi):LLi:=open Classical in if h:∃M:LLi,M.Nodup/\M.Pairwise (ltG lds)/\∀x,x∈M↔x∈G then Classical.choose h else []
def QW {lds:Int->Int->Bool}{ls:LIn}{G M:LLi}(f:tW (cY lds) ls G)(a:M.Nodup)(b:M.Pairwise (ltG lds))(c:∀x,x∈M↔x∈G):Wz lds G=M:=by
 have d:∃M:LLi,M.Nodup/\M.Pairwise (ltG lds)/\∀x,x∈M↔x∈G:=⟨M,a,b,c⟩;unfold Wz;rw[dif_pos d];obtain⟨g,h,e⟩:=nD d;exact Do f (λx i=>(e x).1 i) g a h b (λx=>(e x).trans (c x).symm)
def bE:bH:=.mk 1 0 []
def dZ (a:Int):bH:=.mk 2 a []
noncomputable def vA (a:LLi->bH)(full:LLi):bH :=
 if(mR full).labels.length=1 then(if full.any (λt=>decide (1<t.length))=true then .mk 6 0 [dZ ((mR full).labels.headD 0),bE]else dZ ((mR full).labels.headD 0))
 else if 2<=(dY (bhB (mR full)) (mR full).labels).length then .mk 4 0 ((dY (bhB (mR full)) (mR full).labels).map λg=>a (full.filter λt=>inS g (t.headD 0)))
 else if 2<=(dY (cY (dE (mR full))) (mR full).labels).length then .mk 3 0 ((Wz (dE (mR full)) (dY (cY (dE (mR full))) (mR full).labels)).map λg=>a (fY full g))
 else if 2<=(dY (j3 (mR full)) (mR full).labels).length/\((dY (j3 (mR full)) (mR full).labels).all λg=>iS g (mR full).first&&iS g (mR full).last)=true then .mk 5 0 ((dY (j3 (mR full)) (mR full).labels).map λg=>a (fY full g))
 else .mk 6 0 [bE,.mk 4 0 ((mR full).labels.map dZ)]
noncomputable def aX:Nat->LLi->bH
 | 0,_=>bE
 | f+1,log=>if(bF log).length=0 then bE else if(bF log).length<log.length then .mk 4 0 [bE,aX f (bF log)]else vA (aX f) (bF log)
def zS {xs ys:LIn}(b:xs.Pairwise (.< .))(c:ys.Pairwise (.< .))(h:∀x∈xs,x∈ys):xs.length<=ys.length:=by
 have e:xs=ys.filter λy=>decide (y∈xs):=rJ b (c.filter _) (λx=>by
  rw[bR];simp only[bO];exact⟨λa=>⟨h x a,a⟩,λa=>a.2⟩)
 rw[e];exact fC _ _
def Oy {xs ys:LIn}(b:xs.Pairwise (.< .))(c:ys.Pairwise (.< .))(h:∀x∈xs,x∈ys){y:Int}(d:y∈ys)(f:y∉xs):xs.length<ys.length:=by
 have e:xs=ys.filter λy=>decide (y∈xs):=rJ b (c.filter _) (λx=>by
  rw[bR];simp only[bO];exact⟨λa=>⟨h x a,a⟩,λa=>a.2⟩)
 rw[e];exact List.length_filter_lt_length_iff_exists.2 ⟨y,d,by simpa using f⟩
def tW.lt {lk:Int->Int->Bool}{ls:LIn}{G:LLi}(h:tW lk ls G)(m:ls.Pairwise (.< .))(n:2<=G.length){g:LIn}(f:g∈G):g.length<ls.length:=by
 obtain⟨d,c,i⟩:∃d∈G,d≠g:=by
  have j:=h.nodup;match G,n,j with
  | a::b::r,_,j =>
   by_cases e:a=g
   .subst e;refine⟨b,by simp,λe=>?_⟩;subst e;have:=(kC.1 j).1;simp at this
   exact⟨a,by simp,e⟩
 obtain⟨y,l⟩:∃y,y∈d:=⟨_,rO (h.ne d c)⟩;exact Oy (h.asc g f) m (h.sub g f) (h.sub d c y l) (λk=>i (h.same c f l k))
def vZ (f:Nat)(log:LLi):Prop:=eI log=0/\∀p,eZ log p->2*p.labels.length+(if ∃t∈log,t.length=0 then 1 else 0)<f
def fX {log:LLi}:eI log=0↔log.length<=60/\∀t∈log,oU t=false:=by
 unfold eI;split
 .rename_i h
  exact⟨λh=>(by cases h),λa=>(by omega)⟩
 rename_i h
 split
 .rename_i a
  obtain⟨t,c,b⟩:=dO.1 a;exact⟨λh=>(by cases h),λd=>(by rw[d.2 t c]at b;cases b)⟩
 rename_i a
 refine⟨λ_=>⟨by omega,λt c=>?_⟩,λ_=>rfl⟩;cases b:oU t
 .rfl
 exact absurd (dO.2 ⟨t,c,b⟩) a
def wF {t:LIn}:oU t=false↔t.length<=60/\∀a∈t,1<=a/\a<=26:=by
 unfold oU JH;rw[Bool.or_eq_false_iff,decide_eq_false_iff_not];refine⟨λh=>⟨by omega,λa b=>?_⟩,λh=>⟨by omega, ?_⟩⟩
 .have:=h.2;rw[iC]at this;have:=this a b;simp at this;omega
 rw[iC];intro a b;have:=h.2 a b;simp;omega
def eZ.lab {log:LLi}{p:bI}(h:eZ log p)(c:eI log=0):∀a∈p.labels,1<=a/\a<=26:=λa d=>by
 obtain⟨t,e,b⟩:=(h.1.2 a).1 d;exact(wF.1 ((fX.1 c).2 t e)).2 a b
def pD {l:LIn}(h:l.Pairwise (.< .))(b:∀a∈l,1<=a/\a<=26):l.length<=26:=by
 have:=zS h (ys:=(List.range 26).map λi:Nat=>(i:Int)+1) (by decide) (λa c=>by
  obtain⟨d,e⟩:=b a c;rw[bZ];exact⟨(a-1).toNat,by rw[bM];omega,by omega⟩)
 simpa using this
def vZ.start {log:LLi}(h:eI log=0):vZ 60 log:=⟨h,λp hp=>by
 have:=pD hp.1.1 (hp.lab h);split <;> omega⟩
def pE {log:LLi}{t:LIn}:t∈bF log↔t∈log/\t.length≠0:=by
 unfold bF rQ;rw[bR];simp
def Oz {log:LLi}{p:bI}(h:eZ (bF log) p):eZ log p:=by
 have m:∀(P:LIn->Prop),(∀t,P t->t.length≠0)->((∃t∈bF log,P t)↔∃t∈log,P t):=λP d =>
  ⟨λ⟨t,c,b⟩=>⟨t,(pE.1 c).1,b⟩,λ⟨t,c,b⟩=>⟨t,pE.2 ⟨c,d t b⟩,b⟩⟩
 refine⟨⟨h.1.1,λx=>(h.1.2 x).trans (m _ (λt a e=>?_))⟩,⟨h.2.1.1,λx=>(h.2.1.2 x).trans (m _ (λt a e=>?_))⟩,⟨h.2.2.1.1,λx=>(h.2.2.1.2 x).trans (m _ (λt a e=>?_))⟩,⟨h.2.2.2.1,λx=>(h.2.2.2.2 x).trans (m _ (λt a e=>?_))⟩⟩
 .rw[dS e]at a;cases a
 .rw[dS e]at a;cases a
 .rw[dS e]at a;cases a
 rw[dS e]at a;obtain⟨k,f,_⟩:=a;simp at f
def vZ.full {f:Nat}{log:LLi}(h:vZ (f+1) log)(c:(bF log).length<log.length):vZ f (bF log):=by
 obtain⟨d,g⟩:=h;have i:=fX.1 d;refine⟨fX.2 ⟨by omega,λt a=>i.2 t (pE.1 a).1⟩,λp hp=>?_⟩;have:=g p (Oz hp);have j:∃t∈log,t.length=0:=by
  obtain⟨t,a,b⟩:=List.length_filter_lt_length_iff_exists.1 c;exact⟨t,a,by unfold rQ at b;simpa using b⟩
 rw[aG j]at this;rw[aD (λ⟨t,a,e⟩=>(pE.1 a).2 e)];omega
def Dq {log:LLi}(h:¬(bF log).length<log.length):bF log=log:=by
 unfold bF at *
 refine List.filter_eq_self.2 (λt a=>?_);cases e:!rQ t
 .exact absurd (List.length_filter_lt_length_iff_exists.2 ⟨t,a,by simp[e]⟩) h
 rfl
def vZ.sub {f:Nat}{log sub:LLi}{p:bI}{lk:Int->Int->Bool}{g:LIn}(h:vZ (f+1) log)(hp:eZ log p)(i:2<=(dY lk p.labels).length)(c:g∈dY lk p.labels)(j:eI sub=0)(k:∀t∈sub,∀a∈t,a∈g):vZ f sub:=by
 refine⟨j,λq d=>?_⟩;have e:=jX (lk:=lk) hp.1.1;have m:=e.lt hp.1.1 i c;have n:=zS d.1.1 (e.asc g c) (λx b=>by
  obtain⟨t,l,b⟩:=(d.1.2 x).1 b;exact k t l x b)
 have:=h.2 p hp;split <;> split at this <;> omega
def Fq {log:LLi}(h:eI log=0)(q:LIn->Bool):eI (log.filter q)=0:=by
 have a:=fX.1 h;exact fX.2 ⟨aT (fC _ _) a.1,λt b=>a.2 t (bR.1 b).1⟩
def Ko {log:LLi}(h:eI log=0)(g:LIn):eI (fY log g)=0:=by
 have b:=fX.1 h;refine fX.2 ⟨by unfold fY;rw[dQ];exact b.1,λt c=>?_⟩;unfold fY at c;obtain⟨u,d,rfl⟩:=bZ.1 c;have:=wF.1 (b.2 u d);exact wF.2 ⟨aT (fC _ _) this.1,λa e=>this.2 a (bR.1 e).1⟩
def Nb {l:LIn}{a:Int}:inS l a=true↔a∈l:=by
 unfold inS;rw[dO];exact⟨λ⟨x,b,e⟩=>by rw[fA]at e;rw[e];exact b,λh=>⟨a,h,by simp⟩⟩
def vZ.onto {f:Nat}{log:LLi}{p:bI}{lk:Int->Int->Bool}{g:LIn}(h:vZ (f+1) log)(hp:eZ log p)(c:2<=(dY lk p.labels).length)(d:g∈dY lk p.labels):vZ f (fY log g) :=
 h.sub hp c d (Ko h.1 g) (λt b a e=>by
  unfold fY at b;obtain⟨u,i,rfl⟩:=bZ.1 b;exact Nb.1 (bR.1 e).2)
def QX {p:bI}{a b:Int}:bhB p a b=true↔(a,b)∈p.behind:=by
 unfold bhB;rw[dO];exact⟨λ⟨x,c,e⟩=>by rw[bO]at e;rw[e];exact c,λh=>⟨_,h,by simp⟩⟩
def QY {log:LLi}{p:bI}(hp:eZ log p){t:LIn}(h:t∈log){x:Int}(m:t.head?=some x){g:LIn}(i:g∈dY (bhB p) p.labels)(c:x∈g):∀a∈t,a∈g:=by
 have j:=jX (lk:=bhB p) hp.1.1;have d:∀a∈t,a∈p.labels:=λa b=>(hp.1.2 a).2 ⟨t,h,b⟩
 have e:∀(k:Nat) (a:Int),t[k]?=some a->jB (bhB p) p.labels x a:=by
  intro k;induction k with
  | zero =>
   intro a b;have:t.head?=t[0]?:=by cases t <;> rfl
   rw[<-this,m]at b;injection b with b;rw[<-b];exact .refl (j.sub g i x c)
  | succ k n =>
   intro a b;have f:k<t.length:=by have:=(aR.1 b).1;omega
   have l:t[k]?=some t[k]:=aV f;refine .step (n _ l) (d a (aS b)) ?_;unfold lkB;rw[QX.2 ((hp.2.2.2.2 _).2 ⟨t,h,k,l,b⟩)];rfl
 intro a b;obtain⟨k,f,rfl⟩:=hZ b;exact(j.cls g i x c _ (d _ b)).2 (e k _ (aV f))
def vZ.choose {f:Nat}{log:LLi}{p:bI}{g:LIn}(h:vZ (f+1) log)(d:∀t∈log,t.length≠0)(hp:eZ log p)(a:2<=(dY (bhB p) p.labels).length)(b:g∈dY (bhB p) p.labels):vZ f (log.filter λt=>inS g (t.headD 0)) :=
 h.sub hp a b (Fq h.1 _) (λt e=>by
  obtain⟨c,a⟩:=bR.1 e;cases t with
  | nil=>exact absurd rfl (d _ c)
  | cons x t=>exact QY hp c rfl b (Nb.1 a))
def zT {log:LLi}{p:bI}(hp:eZ log p):(log.any λt=>decide (1<t.length))=true↔0<p.behind.length:=by
 rw[dO];constructor
 .rintro⟨t,a,b⟩;rw[bO]at b;exact oL ((hp.2.2.2.2 (t[0],t[1])).2 ⟨t,a,0,aV (by omega),aV (by omega)⟩)
 intro h;obtain⟨q,c⟩:∃q,q∈p.behind:=⟨_,j5 h⟩;obtain⟨t,a,k,e,d⟩:=(hp.2.2.2.2 q).1 c;have:=(aR.1 d).1;exact⟨t,a,by rw[bO];omega⟩
def jB.like {lk d:Int->Int->Bool}{ls:LIn}(h:∀a b,lkB lk a b=lkB d a b){a b:Int}(c:jB lk ls a b):jB d ls a b:=by
 induction c with
 | refl e=>exact .refl e
 | step _ f g i=>exact .step i f (by rw[<-h];exact g)
def QZ {lk d:Int->Int->Bool}{ls:LIn}(f:ls.Pairwise (.< .))(h:∀a b,lkB lk a b=lkB d a b):dY lk ls=dY d ls:=by
 have e:=jX (lk:=lk) f;have i:=jX (lk:=d) f;refine tW.uniq (lk:=d) ⟨e.asc,e.ne,e.sub,e.all,λg j x k y l=>?_,e.ord⟩ i;exact(e.cls g j x k y l).trans ⟨λc=>c.like h,λc=>c.like (λa b=>(h a b).symm)⟩
def Q1 {lk:Int->Int->Bool}{ls:LIn}(c:ls.Pairwise (.< .)):dY (λa b=>lk a b||lk b a) ls=dY lk ls :=
 QZ c (λa b=>by
  show((lk a b||lk b a)||(lk b a||lk a b))=(lk a b||lk b a)
  cases lk a b <;> cases lk b a <;> rfl)
def yO {log:LLi}{p:bI}(hp:eZ log p)(a b:Int):dE p a b=true↔Via (λa b=>(a,b)∈p.behind) p.labels a b:=by
 refine QO (R:=λa b=>(a,b)∈p.behind) (λa b c=>?_) (λa b=>QX) p.labels a b;obtain⟨t,d,k,e,f⟩:=(hp.2.2.2.2 _).1 c;exact⟨(hp.1.2 a).2 ⟨t,d,aS e⟩,(hp.1.2 b).2 ⟨t,d,aS f⟩⟩
def zU {log:LLi}{p:bI}(hp:eZ log p)(a b c:Int)(d:b∈p.labels)(e:dE p a b=true)(f:dE p b c=true):dE p a c=true :=
 (yO hp a c).2 (((yO hp a b).1 e).trans d ((yO hp b c).1 f))
open Go.RowKit
def qM (P:Nat->Prop):Nat->World->(Nat->Value)->bH->Prop
 | 0=>λ_ _ _=>False
 | d+1=>λw vs b=>vs 0=.int .i64 b.kind/\vs 1=.int .i64 b.label/\∃A n c,vs 2=.slice A n c/\Sl (qM P d) 3 w A n c b.kids/\(0<n->∀a,A=some a->P a.block)
def qM.kept (P:Nat->Prop):∀d,CU (qM P d)
 | 0=>λ_ _ _ _ _ h=>h
 | d+1=>λ_ _ _ _ a h=>by
  obtain⟨b,e,A,n,c,f,g,i⟩:=h;exact⟨b,e,A,n,c,f,g.keep (qM.kept P d) a,i⟩
def Sl.imp {α:Type}{R Q:World->(Nat->Value)->α->Prop}{sz:Nat}{w:World}{A:OAd}{n c:Nat}{xs:List α}(h:Sl R sz w A n c xs)(f:∀vs x,R w vs x->Q w vs x):Sl Q sz w A n c xs :=
 ⟨h.len,h.le,h.cap,h.small,h.nul,λg=>by
  obtain⟨b,d,e,j,k⟩:=h.cells g;exact⟨b,d,e,j,λi x l=>by obtain⟨vs,a,r⟩:=k i x l;exact⟨vs,a,f _ _ r⟩⟩⟩
def qM.toD {P:Nat->Prop}:∀(d:Nat) {w:World} {vs:Nat->Value} {b:bH},qM P d w vs b->Wx d w vs b
 | 0,_,_,_,h=>h
 | d+1,_,_,_,h=>by
  obtain⟨a,e,A,n,c,f,g,i⟩:=h;exact⟨a,e,A,n,c,f,g.imp (λ_ _ r=>qM.toD d r)⟩
def qM.wide {P Q:Nat->Prop}{w:World}(hp:∀k,k<w.heap.size->P k->Q k):∀(d:Nat) {vs:Nat->Value} {b:bH},qM P d w vs b->qM Q d w vs b
 | 0,_,_,h=>h
 | d+1,_,_,h=>by
  obtain⟨j,l,A,n,c,m,g,o⟩:=h;refine⟨j,l,A,n,c,m,g.imp (λ_ _ r=>qM.wide hp d r),λi a f=>hp _ ?_ (o i a f)⟩;obtain⟨b,p,e,q,_⟩:=g.cells i;rw[e]at f;injection f with f;rw[<-f];exact q
def Sl.far {α:Type}{R Q:World->(Nat->Value)->α->Prop}{sz:Nat}{w w':World}{A:OAd}{n c:Nat}{xs:List α}(h:Sl R sz w A n c xs)(k:w.heap.size<=w'.heap.size)(l:0<n->∀a,A=some a->w'.heap[a.block]?=w.heap[a.block]?)(m:∀vs x,R w vs x->Q w' vs x):Sl Q sz w' A n c xs :=
 ⟨h.len,h.le,h.cap,h.small,h.nul,λg=>by
  obtain⟨b,d,e,f,o⟩:=h.cells g;exact⟨b,d,e,bD f k,λi x p=>by
   obtain⟨vs,a,r⟩:=o i x p;refine⟨vs,λj q=>?_,m _ _ r⟩;rw[<-a j q];have:=l g _ e;simp only[World.cell?];rw[this]⟩⟩
def qM.grown {P:Nat->Prop}{w w':World}{row:Option Nat}(i:w.grownBy w' row)(f:∀k,row=some k->¬P k):∀(d:Nat) {vs:Nat->Value} {b:bH},qM P d w vs b->qM P d w' vs b
 | 0,_,_,h=>h
 | d+1,_,_,h=>by
  obtain⟨o,p,A,n,c,q,j,l⟩:=h;refine⟨o,p,A,n,c,q,j.far i.size (λm a g=>?_) (λ_ _ r=>qM.grown i f d r),l⟩;obtain⟨b,s,e,t,_⟩:=j.cells m;have hp:=l m a g;rw[e]at g;injection g with g;subst g;exact i.block b t (λe=>f b e.symm hp)
def fF (P:Nat->Prop)(d:Nat)(w:World)(v:Value)(T:bH):Prop:=∃A n c,v=.agg #[.int .i64 T.kind,.int .i64 T.label,.slice A n c]/\Sl (qM P d) 3 w A n c T.kids/\(0<n->∀a,A=some a->P a.block)
def iT (d:Nat)(T:bH)(w:World)(e:Ending)(w':World):Prop:=∃v,e=.returned v/\fF (λk=>w.heap.size<=k) d w' v T/\Below w.heap.size w w'
def vs3 (a b c:Value):Nat->Value
 | 0=>a
 | 1=>b
 | _=>c
def fF.keep {P:Nat->Prop}{d:Nat}{w w':World}{v:Value}{T:bH}(h:fF P d w v T)(a:Below w w w'):fF P d w' v T:=by
 obtain⟨A,n,c,e,s,p⟩:=h;exact⟨A,n,c,e,s.keep (qM.kept P d) a,p⟩
def fF.wide {P Q:Nat->Prop}{d:Nat}{w:World}{v:Value}{T:bH}(hp:∀k,k<w.heap.size->P k->Q k)(h:fF P d w v T):fF Q d w v T:=by
 obtain⟨A,n,c,e,s,p⟩:=h;refine⟨A,n,c,e,s.imp (λ_ _ r=>r.wide hp d),λg a f=>hp _ ?_ (p g a f)⟩;obtain⟨b,i,e,j,_⟩:=s.cells g;rw[e]at f;injection f with f;rw[<-f];exact j
def fF.grown {P:Nat->Prop}{d:Nat}{w w':World}{v:Value}{T:bH}{row:Option Nat}(i:w.grownBy w' row)(a:∀k,row=some k->¬P k)(h:fF P d w v T):fF P d w' v T:=by
 obtain⟨A,n,c,e,s,p⟩:=h;have q:qM P (d+1) w (vs3 (.int .i64 T.kind) (.int .i64 T.label) (.slice A n c)) T:=⟨rfl,rfl,A,n,c,rfl,s,p⟩;obtain⟨_,_,A2,n2,c2,j,s2,p2⟩:=q.grown i a;injection j with b f g;subst b f g;exact⟨A,n,c,e,s2,p2⟩
def VR:sT 33 35 3 40:=sT.mk' (z:=.agg #[(0:Int),(0:Int),()]) Tryz.underlying33 (by kernel_rfl) rfl (by decide)
def cD.blk {P:Nat->Prop}{d:Nat}{w:World}{A:OAd}{n c:Nat}{T:bH}{kd lb:Int}(b:kd=T.kind)(e:lb=T.label)(s:Sl (qM P d) 3 w A n c T.kids)(p:0<n->∀a,A=some a->P a.block):cD (qM P (d+1)) 3 w [.int .i64 kd,lb,.slice A n c] [T] :=
 cD.one (vs:=vs3 kd lb (.slice A n c)) ⟨by rw[<-b];rfl,by rw[<-e];rfl,A,n,c,rfl,s,p⟩ rfl (λj f=>by
  match j,f with
  | 0,_=>rfl
  | 1,_=>rfl
  | 2,_=>rfl)
abbrev jE (w:World)(B d:Nat)(v:Value)(n:Nat)(ks:List bH):Prop:=aJ (qM (λk=>B<=k/\v.ownBlock≠some k) d) 3 w B 35 v n ks
def jE.keep {w w':World}{B d n:Nat}{v:Value}{ks:List bH}(h:jE w B d v n ks)(a:Below w w w'):jE w' B d v n ks:=aJ.keep (qM.kept _ d) h a
def aJ.imp {α:Type}{R Q:World->(Nat->Value)->α->Prop}{sz B e:Nat}{w:World}{v:Value}{n:Nat}{xs:List α}(h:aJ R sz w B e v n xs)(f:∀vs x,R w vs x->Q w vs x):aJ Q sz w B e v n xs:=by
 obtain⟨c,g,d,j⟩:=h;exact⟨c,g,⟨d.1,λi x k=>by obtain⟨vs,a,b⟩:=d.2 i x k;exact⟨vs,a,f _ _ b⟩⟩,j⟩
def mF {ops:Array Oper} {rest:List Oper} {o:Oper} {a:Act} {Q:Exit->Act->World->Prop} (i:o.guard=none) (s x:Operand)
  (q:o.op=.call {callee:=.builtin .append,args:=#[s,x],argTypes:=#[33,33]})
  {w:World} {B d n H m c:Nat} {v:Value} {ks:List bH} {A:OAd} {T:bH} {kd lb:Int} (u:a.eval s=v) (z:a.eval x=.slice H 1 1) (C:H=w.heap.size)
  (own:jE w B (d+1) v n ks) (f:kd=T.kind) (D:lb=T.label) (t:Sl (qM (λk=>B<=k/\v.ownBlock≠some k) d) 3 w A m c T.kids) (p:0<m->∀a,A=some a->B<=a.block/\v.ownBlock≠some a.block) (E:B<=w.heap.size) (j:n<=100)
  (K:∀v' w',jE w' B (d+1) v' (n+1) (ks++[T])->w.grownBy w' v.ownBlock->wpList Tryz.prog ops Q rest (a.put o.dst v') w') :
  wpList Tryz.prog ops Q (o::rest) a (w.alloc (.cells #[kd,lb,.slice A m c] 35)):=by
 have g:∀k,k<w.heap.size->(B<=k/\v.ownBlock≠some k)->(k<w.heap.size/\B<=k/\v.ownBlock≠some k):=λk f hp=>⟨f,hp⟩
 have F:cD (qM (λk=>k<w.heap.size/\B<=k/\v.ownBlock≠some k) (d+1)) 3 w [.int .i64 kd,lb,.slice A m c] [T]:=cD.blk f D (t.imp (λ_ _ r=>r.wide g d)) (λj a h=>by
  obtain⟨b,G,e,I,_⟩:=t.cells j;have:=p j a h;rw[e]at h;injection h with h;subst h;exact⟨I,this⟩)
 refine dJ (v:=v) VR i s x q [T] #[kd,lb,.slice A m c] u z C rfl (by simp[Value.oneCell']) (own.imp (λ_ _ r=>r.wide g (d+1))) F rfl E (by omega) (by omega) (λw' J vs y L=>L.grown J (λk f hp=>hp.2.2 f) (d+1)) (λv' w' M N O=>K v' w' (M.imp (λ_ _ r=>r.wide (λk _ hp=>⟨hp.2.1, ?_⟩) (d+1))) N);rcases O with e|e
 .rw[e];exact hp.2.2
 .rw[e];intro l;injection l with l;omega
def nM (w:World)(d:Nat):Calls Tryz.prog 61 #[] w (iT d bE w):=by
 have a:=aA (aF w (.cells #[(1:Int),(0:Int),()] 35));go_enter Tryz.func61,Tryz.ntmps61
 go_wp2
 have b:=aA (Box.new w #[(1:Int),(0:Int),()] 35);generalize w.alloc (.cells #[(1:Int),(0:Int),()] 35)=w1 at *
 obtain⟨z0,c,e⟩:=b.o.three;exact aU (v:=.agg #[(1:Int),(0:Int),()]) (by simp[results,Tryz.results61,go_sem,z0,c,e]) rfl ⟨_,rfl,⟨none,0,0,rfl,Sl.nil0,λh=>absurd h (by omega)⟩,a.o⟩
def Ds (w:World)(d:Nat)(a:Int):Calls Tryz.prog 64 #[a] w (iT d (dZ a) w):=by
 have b:=aA (aF w (.cells #[(2:Int),a,()] 35));go_enter Tryz.func64,Tryz.ntmps64
 go_wp2
 have c:=aA (Box.new w #[(2:Int),a,()] 35);generalize w.alloc (.cells #[(2:Int),a,()] 35)=w1 at *
 obtain⟨z0,e,f⟩:=c.o.three;exact aU (v:=.agg #[(2:Int),a,()]) (by simp[results,Tryz.results64,go_sem,z0,e,f]) rfl ⟨_,rfl,⟨none,0,0,rfl,Sl.nil0,λh=>absurd h (by omega)⟩,b.o⟩
def kR {w0 w:World}{d n c:Nat}{A:OAd}{ks:List bH}(kd:Int)(h:Sl (qM (λk=>w0.heap.size<=k) d) 3 w A n c ks)(hp:0<n->∀a,A=some a->w0.heap.size<=a.block)(f:Below w0 w0 w):Calls Tryz.prog 62 #[kd,.slice A n c] w λe w'=>iT d (.mk kd 0 ks) w0 e w'/\Below w w w':=by
 have b:=aA (aF w (.cells #[kd,(0:Int),.slice A n c] 35));have g:=aA f;have i:=aA hp;have H:=aA (h.keep (qM.kept _ d) b.o);clear h hp f;go_enter Tryz.func62,Tryz.ntmps62
 go_wp2
 have j:=aA (Box.new w #[kd,(0:Int),.slice A n c] 35);generalize w.alloc (.cells #[kd,(0:Int),.slice A n c] 35)=w1 at *
 obtain⟨z0,l,m⟩:=j.o.three;exact aU (v:=.agg #[kd,(0:Int),.slice A n c]) (by simp[results,Tryz.results62,go_sem,z0,l,m]) rfl ⟨⟨_,rfl,⟨A,n,c,rfl,H.o,i.o⟩,g.o.trans (b.o.mono g.o.size)⟩,b.o⟩
def WC:Tryz.prog.underlying 165=some (.array 2 3):=by kernel_rfl
def Q4:Tryz.prog.eqGuardType Tryz.prog.depth 165=false:=by kernel_rfl
structure PrI (w:World)(A1 A2 A3 A4:OAd)(n1 c1 n2 c2 n3 c3 n4 c4:Nat)(p:bI):Prop where
 i1:aY w A1 n1 c1 p.labels
 i2:aY w A2 n2 c2 p.first
 i3:aY w A3 n3 c3 p.last
 i4:zO w A4 n4 c4 p.behind
def PrI.keep {w w':World}{A1 A2 A3 A4:OAd}{n1 c1 n2 c2 n3 c3 n4 c4:Nat}{p:bI}(h:PrI w A1 A2 A3 A4 n1 c1 n2 c2 n3 c3 n4 c4 p)(a:Below w w w'):PrI w' A1 A2 A3 A4 n1 c1 n2 c2 n3 c3 n4 c4 p :=
 ⟨h.i1.keep a,h.i2.keep a,h.i3.keep a,Sl.keep yB.kept h.i4 a⟩
def Box.four {w:World}{b ty:Nat}{u0 u1 u2 u3:Value}(h:Box w b ty #[u0,u1,u2,u3]):w.cell? b=some u0/\w.cell? ⟨b,1,none⟩=some u1/\w.cell? ⟨b,2,none⟩=some u2/\w.cell? ⟨b,3,none⟩=some u3:=⟨h.cell 0,h.cell 1,h.cell 2,h.cell 3⟩
open Go.Maps
def Uz (a b c d:Int)(w:World):(binOp .eql 165 (.agg #[a,b]) (.agg #[c,d])).run Tryz.prog w=.ok (.bool (decide ((a,b)=(c,d)))) w:=by
 obtain⟨i,h⟩:=info_of_underlying (P:=Tryz.prog) (t:=3) Tryz.underlying3;have j:Tryz.prog.cellsOf 3=1:=by kernel_rfl
 rw[run_eql_struct,run_equalIn_array w 9999 _ _ WC h,j];have e:decide ((a,b)=(c,d))=(a==c&&b==d):=by
  by_cases f:a=c <;> by_cases g:b=d <;> simp[f,g]
 rw[e];by_cases f:a=c <;> by_cases g:b=d <;> simp[Op.eqItems,eF,part,isAgg,run_underlying Tryz.underlying3,run_equalIn_int w 9998 3 .i64 .i64 _ _ Tryz.underlying3,f,g]
def zV {w:World}{A:OAd}{n c:Nat}{xs:List (Int×Int)}(x y:Int)(h:zO w A n c xs) :
  Calls Tryz.prog 143 #[.slice A n c,.agg #[x,y]] w λe w'=>e=.returned (.int .i64 (dL (λq=>decide ((x,y)=q)) xs))/\Below w w w':=by
 have L:=h.small;have I:=Q4;have u:=aA (aF w (.cells #[x,y] 165));have d:=aA (Box.new w #[x,y] 165);have H:=aA h;clear h;go_enter Tryz.func143,Tryz.ntmps143
 go_upto_region 1 with fail
 generalize w.alloc (.cells #[x,y] 165)=w0 at *
 go_wp2
 go_loopw [8] (λi wr=>∃k:Nat,k<=n/\i=k/\Hid (∀j,j<k->∀B,xs[j]?=some B->decide ((x,y)=B)=false)/\Hid (Below w0 w0 wr)) (λi _=>n-(intOf i).toNat)
 case atStart=>exact⟨0,aL _,rfl,λj l=>absurd l (by omega),aA (aH _ _)⟩
 case round =>
  obtain⟨k,M,rfl,lo,D⟩:=hrel;have f:=aA (u.o.trans (D.o.mono u.o.size));by_cases m:k<n
  rotate_left
  .go_wp2
   go_ret
   exact⟨a8 (dV (λj l z g=>lo.o j (by have:=H.o.len;omega) z g)).symm,f.o⟩
  have J:(k:Int)<(n:Int):=by omega
  obtain⟨b,a,t,vs,rfl,N,C,o,e0,E⟩:=Sl.get (Sl.keep yB.kept H.o f.o) m;have O:wr.cell? ⟨b,a+k*2,none⟩=some (.int .i64 t.1):=by have:=o 0 (by omega);rw[e0]at this;simpa using this
  have P:wr.cell? ⟨b,a+k*2+1,none⟩=some (.int .i64 t.2):=by have:=o 1 (by omega);rw[E]at this;simpa [Nat.add_assoc] using this
  have Q:=(D.o.cell (p:=⟨w,0,none⟩) d.o.lt).trans (d.o.cell 0);have R:=(D.o.cell (p:=⟨w,1,none⟩) d.o.lt).trans (d.o.cell 1);have F:=aA C;obtain⟨v,r⟩:∃v,decide ((x,y)=t)=v:=⟨_,rfl⟩;have G:=aA r;have K:∀w:World,(binOp .eql 165 (.agg #[x,y]) (.agg #[.int .i64 t.1,.int .i64 t.2])).run Tryz.prog w=.ok (.bool v) w:=λw=>by rw[Uz,<-r]
  clear o e0 E C r;cases v
  .go_wp2
   go_quiet (fail)
   go_wp2
   go_roundw
   case rel =>
    refine⟨k+1,by omega,by go_num,λj l z g=>?_,aA (D.o.trans ((show Below wr wr (wr.drewN nq)from⟨rfl,rfl,rfl,aB _,λ_ _=>rfl⟩).mono D.o.size))⟩;by_cases s:j=k
    .subst s;have:=F.o;rw[g]at this;injection this with this;rw[this];exact G.o
    exact lo.o j (by omega) z g
   simp[intOf];omega
  go_wp2
  go_quiet (fail)
  go_wp2
  go_ret
  exact⟨a8 (dU lo.o F.o G.o).symm,f.o.trans ((show Below wr wr (wr.drewN nq)from⟨rfl,rfl,rfl,aB _,λ_ _=>rfl⟩).mono f.o.size)⟩
def nN {w:World}{A:OAd}{n c:Nat}{xs:List (Int×Int)}(x y:Int)(h:zO w A n c xs) :
  Calls Tryz.prog 90 #[.slice A n c,.agg #[x,y]] w λe w'=>e=.returned (.bool (xs.any λq=>decide ((x,y)=q)))/\Below w w w':=by
 have a:=aA (aF w (.cells #[x,y] 165));have b:=aA (Box.new w #[x,y] 165);have H:=aA (Sl.keep yB.kept h a.o);clear h;go_enter Tryz.func90,Tryz.ntmps90
 go_upto_region 1 with fail
 generalize w.alloc (.cells #[x,y] 165)=w0 at *
 have g:=b.o.cell 0;have i:=b.o.cell 1;go_wp2_with (refine(zV x y H.o).mono ?_;rintro e w' ⟨rfl,d⟩;have f:=aA d;clear d)
 go_ret
 exact⟨bB (jV _ _),a.o.trans (f.o.mono a.o.size)⟩
structure Nc (w:World)(A A1 A2 A3 A4:OAd)(n c n1 c1 n2 c2 n3 c3 n4 c4:Nat)(log:LLi)(p:bI):Prop where
 il:cQ w A n c log
 ip:PrI w A1 A2 A3 A4 n1 c1 n2 c2 n3 c3 n4 c4 p
def Nc.keep {w w':World}{A A1 A2 A3 A4:OAd}{n c n1 c1 n2 c2 n3 c3 n4 c4:Nat}{log:LLi}{p:bI}(h:Nc w A A1 A2 A3 A4 n c n1 c1 n2 c2 n3 c3 n4 c4 log p)(a:Below w w w'):Nc w' A A1 A2 A3 A4 n c n1 c1 n2 c2 n3 c3 n4 c4 log p :=
 ⟨Sl.keep cS.kept h.il a,h.ip.keep a⟩
abbrev zW (A A1 A2 A3 A4:OAd)(n c n1 c1 n2 c2 n3 c3 n4 c4:Nat):Value:=.agg #[.slice A n c,.slice A1 n1 c1,.slice A2 n2 c2,.slice A3 n3 c3,.slice A4 n4 c4]
section
variable {w:World} {A A1 A2 A3 A4:OAd} {n c n1 c1 n2 c2 n3 c3 n4 c4:Nat} {log:LLi} {p:bI}
def rR (a b:Int)(h:Nc w A A1 A2 A3 A4 n c n1 c1 n2 c2 n3 c3 n4 c4 log p) :
  Calls Tryz.prog 117 #[zW A A1 A2 A3 A4 n c n1 c1 n2 c2 n3 c3 n4 c4,a,b] w λe w'=>e=.returned (.bool (bhB p a b))/\Below w w w':=by
 have d:=aA (aF w (.cells #[.slice A n c,.slice A1 n1 c1,.slice A2 n2 c2,.slice A3 n3 c3,.slice A4 n4 c4] 125));have g:=aA (Box.new w #[.slice A n c,.slice A1 n1 c1,.slice A2 n2 c2,.slice A3 n3 c3,.slice A4 n4 c4] 125);have H:=aA (h.keep d.o);clear h;go_enter Tryz.func117,Tryz.ntmps117
 go_upto_region 1 with fail
 generalize w.alloc (.cells #[.slice A n c,.slice A1 n1 c1,.slice A2 n2 c2,.slice A3 n3 c3,.slice A4 n4 c4] 125)=w0 at *
 have j:=g.o.cell 4;go_wp2_with (refine(nN a b H.o.ip.i4).mono ?_;rintro e w' ⟨rfl,f⟩;have i:=aA f;clear f)
 go_ret
 exact⟨rfl,d.o.trans (i.o.mono d.o.size)⟩
end
abbrev H9 (w:World)(b:Nat)(S:Int->Int->Bool)(q:Nat):Prop:=VJ w b (λz=>if S z.1 z.2=true then 1 else 0) q
def H9.look1 {w:World}{b q:Nat}{S:Int->Int->Bool}(h:H9 w b S q){x y:Int}(a:okI x)(c:okI y){v:Bool}(d:S x y=v):(Instr.lookup 216 (.map (some b)) (.agg #[x,y]) false).run Tryz.prog w=.ok (.int .i64 (if v=true then 1 else 0)) w:=by
 rw[VJ.look h a c];simp[d]
def H9.put1 {w:World}{b q:Nat}{S:Int->Int->Bool}(h:H9 w b S q){x y:Int}(d:okI x)(f:okI y)(k:q<=1000000) :
  ∃w',(Instr.mapUpdate 216 (.map (some b)) (.agg #[x,y]) (.int .i64 1)).run Tryz.prog w=.ok () w'/\H9 w' b (λa c=>decide (a=x/\c=y)||S a c) (q+1)/\w.grownBy w' (some b):=by
 obtain⟨w',g,i,j⟩:=VJ.one h d f (by simp only[maxLen];omega);refine⟨w',g,i.same (λz _=>?_),j⟩;by_cases e:z=(x,y)
 .subst e;simp
 .have:¬(z.1=x/\z.2=y):=λh=>e (Prod.ext h.1 h.2)
  simp[this,e]
def WF {S:Int->Int->Bool}{k a b:Int}(h:¬(S a k=true/\S k b=true)):Dn S (k,a,b)=S:=by
 unfold Dn;exact aD h
def UB {S:Int->Int->Bool}{k a b:Int}(h:S a k=true/\S k b=true):Dn S (k,a,b)=λx y=>decide (x=a/\y=b)||S x y:=by
 unfold Dn;rw[aG h]
def ldB (ls:LIn)(S:Int->Int->Bool)(k a:Int)(j l:Nat):Int->Int->Bool:=((ls.take l).map λb=>(a,b)).foldl (λS p=>Dn S (k,p.1,p.2)) (((ls.take j).flatMap λa=>ls.map λb=>(a,b)).foldl (λS p=>Dn S (k,p.1,p.2)) S)
def ldA (ls:LIn)(S:Int->Int->Bool)(k:Int)(j:Nat):Int->Int->Bool:=((ls.take j).flatMap λa=>ls.map λb=>(a,b)).foldl (λS p=>Dn S (k,p.1,p.2)) S
section
variable {ls:LIn} {S:Int->Int->Bool} {k a b:Int} {j l:Nat}
def UC (h:ls[l]?=some b):ldB ls S k a j (l+1)=Dn (ldB ls S k a j l) (k,a,b):=by
 unfold ldB;rw[cP,h];simp
def WG (b:ls[j]?=some a)(h:ls.length<=l):ldB ls S k a j l=ldA ls S k (j+1):=by
 unfold ldB ldA;rw[aW h,cP,b];simp
def WH {K:LIn}{i:Nat}(h:ls.length<=j)(a:K[i]?=some k):ldA ls (jD ls S (K.take i)) k j=jD ls S (K.take (i+1)):=by
 unfold ldA jD Qd;rw[aW h,cP,a];simp
end
structure LdS (w:World)(LV:Array Value)(wr:World)(S:Int->Int->Bool)(q:Nat):Prop where
 d:Below w.heap.size w wr
 x:Box wr w.heap.size 125 LV
 y:Box wr (w.heap.size+1+1) 216 #[.map (some (w.heap.size+1))]
 m:H9 wr (w.heap.size+1) S q
def LdS.keep {w wr w':World}{b:Array Value}{S:Int->Int->Bool}{q:Nat}(h:LdS w b wr S q)(a:Below wr wr w'):LdS w b w' S q :=
 ⟨h.d.trans (a.mono h.d.size),h.x.keep a,h.y.keep a,h.m.keep a⟩
def LdS.upd {w wr w':World}{b:Array Value}{S c:Int->Int->Bool}{q d:Nat}(h:LdS w b wr S q)(g:H9 w' (w.heap.size+1) c d)(a:wr.grownBy w' (some (w.heap.size+1))):LdS w b w' c d :=
 ⟨h.d.grown a h.d.size (λk f=>by injection f with f;omega),h.x.grown a (by intro e;injection e with e;omega),h.y.grown a (by intro e;injection e with e;omega),g⟩
def LdS.mono {w wr:World}{a:Array Value}{S:Int->Int->Bool}{q b:Nat}(h:LdS w a wr S q)(c:q<=b):LdS w a wr S b:=⟨h.d,h.x,h.y,h.m.mono c⟩
def LdS.like {w wr:World}{d:Array Value}{S c:Int->Int->Bool}{q:Nat}(h:LdS w d wr S q)(e:∀a b,c a b=S a b):LdS w d wr c q:=by
 have:c=S:=funext λa=>funext λb=>e a b
 rw[this];exact h
def Xx (p:bI)(k:Nat)(a b:Int):Bool:=(p.behind.take k).any λq=>decide ((a,b)=q)
def Q5 {p:bI}{k:Nat}{x:Int×Int}(h:p.behind[k]?=some x)(a b:Int):Xx p (k+1) a b=(decide (a=x.1/\b=x.2)||Xx p k a b):=by
 unfold Xx;rw[cP,h,List.any_append,Bool.or_comm];congr 1
 by_cases c:a=x.1 <;> by_cases d:b=x.2 <;> simp[c,d,Prod.ext_iff]
def UD {p:bI}{k:Nat}(h:p.behind.length<=k)(a b:Int):bhB p a b=Xx p k a b:=by
 unfold Xx bhB;rw[aW h]
def Yf (p:bI)(w:World)(e:Ending)(w':World):Prop :=
 ∃b bm q,e=.returned (.func (.func 161) #[] #[.pointer (some ⟨b,0,none⟩)])/\Box w' b 216 #[.map (some bm)]/\H9 w' bm (dE p) q/\Below w.heap.size w w'
def Ft {w:World}{A A1 A2 A3 A4:OAd}{n c n1 c1 n2 c2 n3 c3 n4 c4:Nat}{log:LLi}{p:bI}(h:Nc w A A1 A2 A3 A4 n c n1 c1 n2 c2 n3 c3 n4 c4 log p)(hl:∀a∈p.labels,okI a)(hb:∀q∈p.behind,okP q)(Q:n1<=26)(R:n4<=1000) :
  Calls Tryz.prog 119 #[zW A A1 A2 A3 A4 n c n1 c1 n2 c2 n3 c3 n4 c4] w (Yf p w):=by
 have a0:=@run_makeMap Tryz.prog;have H:=aA h;have U:=aA (And.intro hl hb);have O:=aA (And.intro Q R);clear h hl hb Q R;obtain⟨f,I⟩:∃f:Array Value,f=#[.slice A n c,.slice A1 n1 c1,.slice A2 n2 c2,.slice A3 n3 c3,.slice A4 n4 c4]:=⟨_,rfl⟩;have S0:=aA (show LdS w f (((w.alloc (.cells #[.slice A n c,.slice A1 n1 c1,.slice A2 n2 c2,.slice A3 n3 c3,.slice A4 n4 c4] 125)).alloc (.map #[] 0)).alloc (.cells #[.map (some (w.heap.size+1))] 216)) (λ_ _=>false) 0 from by
  subst I;refine⟨((aF w _).alloc (by simp) _).alloc (by simp;omega) _,((Box.new w _ _).old _).old _,Box.newAt (by simp) _ _, ?_⟩;have:=tH.made 165 okP kkP (w.alloc (.cells #[.slice A n c,.slice A1 n1 c1,.slice A2 n2 c2,.slice A3 n3 c3,.slice A4 n4 c4] 125));rw[show(w.alloc (.cells #[.slice A n c,.slice A1 n1 c1,.slice A2 n2 c2,.slice A3 n3 c3,.slice A4 n4 c4] 125)).heap.size=w.heap.size+1 by simp]at this;exact(this.keep (aF _ _)).same (λ_ _=>by simp))
 go_enter Tryz.func119,Tryz.ntmps119
 go_upto_region 2 with fail
 have y:=aA I;clear a0 I;generalize (((w.alloc (.cells #[.slice A n c,.slice A1 n1 c1,.slice A2 n2 c2,.slice A3 n3 c3,.slice A4 n4 c4] 125)).alloc (.map #[] 0)).alloc (.cells #[.map (some (w.heap.size+1))] 216))=w1 at *
 have x4:w1.cell? ⟨w,4,none⟩=some (.slice A4 n4 c4):=(S0.o.x.cell 4).trans (by rw[y.o];rfl);go_wp2
 clear x4;go_loopg [17] n4 (λgk u wr=>∃k:Nat,u=k/\Hid (k+gk=n4)/\Hid (LdS w f wr (Xx p k) k))
 case atStart=>exact⟨0,rfl,aA (by omega),aA (S0.o.like (λ_ _=>rfl))⟩
 case round =>
  clear S0;obtain⟨k,rfl,m,d⟩:=hrel;by_cases o:k<n4
  .have J:(k:Int)<(n4:Int):=by omega
   obtain⟨b,V,t,vs,rfl,hb,ht,hc,e0,e1⟩:=Sl.get (Sl.keep yB.kept H.o.ip.i4 d.o.d) o;have q0:wr.cell? ⟨b,V+k*2,none⟩=some (.int .i64 t.1):=by have:=hc 0 (by omega);rw[e0]at this;simpa using this
   have q1:wr.cell? ⟨b,V+k*2+1,none⟩=some (.int .i64 t.2):=by have:=hc 1 (by omega);rw[e1]at this;simpa [Nat.add_assoc] using this
   have HT:=aA (show p.behind[k]?=some t from ht);have z:=aA (show gk-1<gk/\(k+1)+(gk-1)=n4/\k<=1000 by have:=m.o;have:=O.o;omega);have c5:IntKind.i64.wrap ((k:Int)+1)=((k+1:Nat):Int):=by
    have:=z.o;simp[IntKind.wrap,IntKind.bits,IntKind.signed];omega
   have TB:=aA (Box.new wr #[.int .i64 t.1,.int .i64 t.2] 165);have SB:=aA (d.o.keep (aF wr (.cells #[.int .i64 t.1,.int .i64 t.2] 165)));clear hc e0 e1 ht;go_upto_region 5 with fail
   clear q0 q1;generalize wr.alloc (.cells #[.int .i64 t.1,.int .i64 t.2] 165)=w2 at *
   generalize wr.heap.size=bx at *
   have z0:=TB.o.cell 0;have z1:=TB.o.cell 1;have y0:=SB.o.y.cell 0;obtain⟨w3,up,W,X⟩:=H9.put1 SB.o.m (U.o.2 t (aS HT.o)).1 (U.o.2 t (aS HT.o)).2 (by have:=z.o;omega);have r:=aA (LdS.like (SB.o.upd W X) (Q5 HT.o));clear W X;go_wp2
   go_roundg (gk-1)
   case measure=>exact z.o.1
   exact⟨k+1,rfl,aA z.o.2.1,r⟩
  have J:¬(k:Int)<(n4:Int):=by omega
  have C:=aA (show LdS w f wr (jD p.labels (bhB p) (p.labels.take 0)) n4 from(d.o.mono (by have:=m.o;omega)).like (λa b=>UD (by rw[H.o.ip.i4.len];omega) a b));have Y:wr.cell? ⟨w,1,none⟩=some (.slice A1 n1 c1):=(d.o.x.cell 1).trans (by rw[y.o];rfl);clear d o m;obtain⟨go,a1⟩:∃x:Nat,x=gk:=⟨_,rfl⟩;subst a1;go_wp2
  clear Y;go_loopg [28] n1 (λgk u wr=>∃i:Nat,u=i/\Hid (i+gk=n1)/\Hid (LdS w f wr (jD p.labels (bhB p) (p.labels.take i)) (n4+676*i)))
  case atStart=>exact⟨0,rfl,aA (by omega),C⟩
  clear C;obtain⟨i,rfl,m,d⟩:=hrel;by_cases o:i<n1
  rotate_left
  .have J:¬(i:Int)<(n1:Int):=by omega
   have L:=aA (show LdS w f wr (dE p) (n4+676*i)from by
    have:=d.o;rw[aW (by rw[H.o.ip.i1.len];omega)]at this;exact this)
   clear d o m;go_wp2
   go_ret
   exact⟨_,_,_,rfl,L.o.y,L.o.m,L.o.d⟩
  have J:(i:Int)<(n1:Int):=by omega
  obtain⟨b1,D,K,rfl,a2,hK,qK⟩:=aY.get (H.o.ip.i1.keep d.o.d) o;have z:=aA (show gk-1<gk/\(i+1)+(gk-1)=n1/\i<=26 by have:=m.o;have:=O.o;omega);have c6:IntKind.i64.wrap ((i:Int)+1)=((i+1:Nat):Int):=by
   have:=z.o;simp[IntKind.wrap,IntKind.bits,IntKind.signed];omega
  have Y:wr.cell? ⟨w,1,none⟩=some (.slice (some ⟨b1,D,none⟩) n1 c1):=(d.o.x.cell 1).trans (by rw[y.o];rfl);have C:=aA (show LdS w f wr (ldA p.labels (jD p.labels (bhB p) (p.labels.take i)) K 0) (n4+676*i+26*0)from d.o);obtain⟨g1,a3⟩:∃x:Nat,x=gk:=⟨_,rfl⟩;subst a3;clear d a2;go_wp2
  clear Y qK;go_loopg [36] n1 (λgk u wr=>∃j:Nat,u=j/\Hid (j+gk=n1)/\Hid (LdS w f wr (ldA p.labels (jD p.labels (bhB p) (p.labels.take i)) K j) (n4+676*i+26*j)))
  case atStart=>exact⟨0,rfl,aA (by omega),C⟩
  clear C;obtain⟨j,rfl,s,d⟩:=hrel;by_cases E:j<n1
  rotate_left
  .have a4:¬(j:Int)<(n1:Int):=by omega
   have r:=aA (show LdS w f wr (jD p.labels (bhB p) (p.labels.take (i+1))) (n4+676*(i+1))from by
    have:=d.o;rw[WH (by rw[H.o.ip.i1.len];omega) hK.out]at this;exact this.mono (by have:=O.o;have:=s.o;omega))
   clear d E s;go_wp2
   go_roundg (g1-1)
   case measure=>exact z.o.1
   exact⟨i+1,rfl,aA z.o.2.1,r⟩
  have a4:(j:Int)<(n1:Int):=by omega
  obtain⟨b2,b9,a,e2,a5,ha,qA⟩:=aY.get (H.o.ip.i1.keep d.o.d) E;injection e2 with e2;injection e2 with a6 a9;subst a6 a9;have B:=aA (show gk-1<gk/\(j+1)+(gk-1)=n1/\j<=26 by have:=s.o;have:=O.o;omega);have c7:IntKind.i64.wrap ((j:Int)+1)=((j+1:Nat):Int):=by
   have:=B.o;simp[IntKind.wrap,IntKind.bits,IntKind.signed];omega
  have Y:wr.cell? ⟨w,1,none⟩=some (.slice (some ⟨b1,D,none⟩) n1 c1):=(d.o.x.cell 1).trans (by rw[y.o];rfl);have C:=aA (show LdS w f wr (ldB p.labels (jD p.labels (bhB p) (p.labels.take i)) K a j 0) (n4+676*i+26*j+0)from d.o);obtain⟨g2,b0⟩:∃x:Nat,x=gk:=⟨_,rfl⟩;subst b0;clear d a5;go_wp2
  clear Y qA;go_loopg [44] n1 (λgk u wr=>∃l:Nat,u=l/\Hid (l+gk=n1)/\Hid (LdS w f wr (ldB p.labels (jD p.labels (bhB p) (p.labels.take i)) K a j l) (n4+676*i+26*j+l)))
  case atStart=>exact⟨0,rfl,aA (by omega),C⟩
  clear C;obtain⟨l,rfl,v,d⟩:=hrel;by_cases F:l<n1
  rotate_left
  .have b4:¬(l:Int)<(n1:Int):=by omega
   have r:=aA (show LdS w f wr (ldA p.labels (jD p.labels (bhB p) (p.labels.take i)) K (j+1)) (n4+676*i+26*(j+1))from by
    have:=d.o;rw[WG ha.o (by rw[H.o.ip.i1.len];omega)]at this;exact this.mono (by have:=O.o;have:=v.o;omega))
   clear d F v;go_wp2
   go_roundg (g2-1)
   case measure=>exact B.o.1
   exact⟨j+1,rfl,aA B.o.2.1,r⟩
  have b4:(l:Int)<(n1:Int):=by omega
  obtain⟨b3,c0,b,e3,M,hB,qB⟩:=aY.get (H.o.ip.i1.keep d.o.d) F;injection e3 with e3;injection e3 with b5 b6;subst b5 b6;have e:=aA (show gk-1<gk/\(l+1)+(gk-1)=n1/\l<=26/\n4+676*i+26*j+l<=1000000 by have:=v.o;have:=O.o;have:=z.o;have:=B.o;omega);have c8:IntKind.i64.wrap ((l:Int)+1)=((l+1:Nat):Int):=by
   have:=e.o;simp[IntKind.wrap,IntKind.bits,IntKind.signed];omega
  have y0:=d.o.y.cell 0;have G:=U.o.1 K (aS hK.out);have N:=U.o.1 a (aS ha.o);have P:=U.o.1 b (aS hB.o);have NX:=aA (UC (ls:=p.labels) (S:=jD p.labels (bhB p) (p.labels.take i)) (k:=K) (a:=a) (j:=j) hB.o);have g:¬(ldB p.labels (jD p.labels (bhB p) (p.labels.take i)) K a j l a K=true/\ldB p.labels (jD p.labels (bhB p) (p.labels.take i)) K a j l K b=true)->Hid (LdS w f wr (ldB p.labels (jD p.labels (bhB p) (p.labels.take i)) K a j (l+1)) (n4+676*i+26*j+(l+1))):=λh=>aA (by rw[NX.o,WF h];exact d.o.mono (by omega))
  have SK:=aA g;obtain⟨T,hT⟩:=aK (ldB p.labels (jD p.labels (bhB p) (p.labels.take i)) K a j l);rw[hT]at d NX SK;cases h1:T a K
  .have r:=SK.o (by rw[h1];exact λh=>(by cases h.1));have Z:=H9.look1 d.o.m N G h1;clear G N P g hT h1 M;go_wp2
   go_roundg (gk-1)
   case measure=>exact e.o.1
   exact⟨l+1,rfl,aA e.o.2.1,r⟩
  cases h2:T K b
  .have r:=SK.o (by rw[h2];exact λh=>(by cases h.2));have Z:=H9.look1 d.o.m N G h1;have b7:=H9.look1 d.o.m G P h2;clear G N P g hT h1 h2 M;go_wp2
   go_roundg (gk-1)
   case measure=>exact e.o.1
   exact⟨l+1,rfl,aA e.o.2.1,r⟩
  have Z:=H9.look1 d.o.m N G h1;have b7:=H9.look1 d.o.m G P h2;obtain⟨w3,up,W,X⟩:=H9.put1 d.o.m N P e.o.2.2.2;have r:=aA (show LdS w f w3 (ldB p.labels (jD p.labels (bhB p) (p.labels.take i)) K a j (l+1)) (n4+676*i+26*j+(l+1))from by rw[NX.o,UB ⟨h1,h2⟩];exact d.o.upd W X);clear G N P g hT h1 h2 M W X;go_wp2
  go_roundg (gk-1)
  case measure=>exact e.o.1
  exact⟨l+1,rfl,aA e.o.2.1,r⟩
def zX (f:Nat):Prop:=∀(w:World) (A:OAd) (n c:Nat) (log:LLi),cQ w A n c log->vZ f log->Calls Tryz.prog 23 #[.slice A n c] w (iT (f+2) (aX f log) w)
def mK (w:World)(b:Nat)(v0 v1 v2:Value):w.grownBy (((w.setCell b v0).setCell ⟨b,1,none⟩ v1).setCell ⟨b,2,none⟩ v2) (some b) :=
 ((dI w b 0 v0).trans (dI _ b 1 v1)).trans (dI _ b 2 v2)
def vZ.n {f:Nat}{log:LLi}(h:vZ f log):log.length<=60:=(fX.1 h.1).1
def dR {w w1 f:World}{g d:Nat}{a b c u0 u1 u2:Value}{T:bH}(h:fF (λk=>w1.heap.size<=k) d f (.agg #[a,b,c]) T)(x:Box f g 35 #[u0,u1,u2])(j:Below w1 w1 f)(e:Below w w w1)(l:g<w1.heap.size)(m:w.heap.size<=g) :
  Box (((f.setCell g a).setCell ⟨g,1,none⟩ b).setCell ⟨g,2,none⟩ c) g 35 #[a,b,c]/\fF (λk=>w.heap.size<=k) d (((f.setCell g a).setCell ⟨g,1,none⟩ b).setCell ⟨g,2,none⟩ c) (.agg #[a,b,c]) T/\Below w w (((f.setCell g a).setCell ⟨g,1,none⟩ b).setCell ⟨g,2,none⟩ c) :=
 ⟨x.set3 a b c,(h.grown (mK f g a b c) (λk i hp=>by injection i with i;omega)).wide (λk _ i=>aT e.size i),(e.trans (j.mono e.size)).grown (mK f g a b c) (aT e.size j.size) (λk i=>by injection i with i;omega)⟩
def Q6 {w w':World}{B d n m c:Nat}{v:Value}{ks:List bH}{A:OAd}{T:bH}(own:jE w B d v n ks)(g:B<=w.heap.size){d':Nat}(s:Sl (qM (λk=>w.heap.size<=k) d') 3 w' A m c T.kids)(p:0<m->∀a,A=some a->w.heap.size<=a.block):Sl (qM (λk=>B<=k/\v.ownBlock≠some k) d') 3 w' A m c T.kids/\(0<m->∀a,A=some a->B<=a.block/\v.ownBlock≠some a.block):=by
 have q:∀k,w.heap.size<=k->B<=k/\v.ownBlock≠some k:=λk i=>⟨by omega,λe=>by have:=(own.lt k e).2;omega⟩
 exact⟨s.imp (λ_ _ r=>r.wide (λk _ h=>q k h) d'),λb a f=>q _ (p b a f)⟩
def jE.sl2 {w:World}{B d n:Nat}{v:Value}{ks:List bH}(own:jE w B d v n ks)(b:n<=281474976710656):∃A c,v=.slice A n c/\Sl (qM (λk=>B<=k) d) 3 w A n c ks/\(0<n->∀a,A=some a->B<=a.block):=by
 have f:=own.lt;obtain⟨A,c,e,s⟩:=aJ.sl own b;exact⟨A,c,e,s.imp (λ_ _ r=>r.wide (λk _ h=>h.1) d),λ_ a g=>(f a.block (by rw[e,g];rfl)).1⟩
def vB {f:Nat}(IH:zX f){w:World}{A A1 A2 A3 A4 B:OAd}{n c n1 c1 n2 c2 n3 c3 n4 c4 m d:Nat}{log i:LLi}{p:bI}(h:Nc w A A1 A2 A3 A4 n c n1 c1 n2 c2 n3 c3 n4 c4 log p)(hg:cQ w B m d i)(kd:Int)(hF:∀g∈i,vZ f (fY log g))(hm:m<=26)(Q:n<=60) :
  Calls Tryz.prog 123 #[zW A A1 A2 A3 A4 n c n1 c1 n2 c2 n3 c3 n4 c4,kd,.slice B m d] w (iT (f+3) (.mk kd 0 (i.map λg=>aX f (fY log g))) w):=by
 have H:=aA h;have G:=aA hg;have FU:=aA hF;have T:=aA (And.intro hm Q);have U:=aA IH;clear h hg hF hm Q IH;obtain⟨V,u⟩:∃V:Array Value,V=#[.slice A n c,.slice A1 n1 c1,.slice A2 n2 c2,.slice A3 n3 c3,.slice A4 n4 c4]:=⟨_,rfl⟩;have W:=aA ((aF w (.cells #[.slice A n c,.slice A1 n1 c1,.slice A2 n2 c2,.slice A3 n3 c3,.slice A4 n4 c4] 125)).alloc (by simp) (.cells #[(0:Int),(0:Int),()] 35));have X0:=aA (show Box ((w.alloc (.cells #[.slice A n c,.slice A1 n1 c1,.slice A2 n2 c2,.slice A3 n3 c3,.slice A4 n4 c4] 125)).alloc (.cells #[(0:Int),(0:Int),()] 35)) w 125 V from by subst u;exact(Box.new w _ _).old _);have X1:=aA (show Box ((w.alloc (.cells #[.slice A n c,.slice A1 n1 c1,.slice A2 n2 c2,.slice A3 n3 c3,.slice A4 n4 c4] 125)).alloc (.cells #[(0:Int),(0:Int),()] 35)) (w.heap.size+1) 35 #[(0:Int),(0:Int),()]from Box.newAt (by simp) _ _);have X:=aA u;clear u;go_enter Tryz.func123,Tryz.ntmps123
 go_upto_region 1 with fail
 generalize ((w.alloc (.cells #[.slice A n c,.slice A1 n1 c1,.slice A2 n2 c2,.slice A3 n3 c3,.slice A4 n4 c4] 125)).alloc (.cells #[(0:Int),(0:Int),()] 35))=w1 at *
 go_wp2
 go_loopg [7,12] m (λgk s7 Y wr=>∃v k,v=s7/\Y=.int .i64 (k:Nat)/\Hid (k+gk=m)/\Hid (jE wr w1 (f+3) v k ((i.take k).map λg=>aX f (fY log g)))/\Hid (Below w1 w1 wr))
 case atStart=>exact⟨_,0,rfl,rfl,aA (by omega),aA aJ.nil,aA (aH _ _)⟩
 case round =>
  obtain⟨v,k,rfl,rfl,x,E,t⟩:=hrel;have DW:=aA (W.o.trans (t.o.mono W.o.size));by_cases F:k<m
  .have Z:(k:Int)<(m:Int):=by omega
   obtain⟨b,a6,g,Bg,mg,dg,rfl,hb,I,q0,ig,a9⟩:=cQ.get (Sl.keep cS.kept G.o DW.o) F;have R:=aA (show gk-1<gk/\(k+1)+(gk-1)=m/\k<=26 by have:=x.o;have:=T.o;omega);have b0:IntKind.i64.wrap ((k:Int)+1)=((k+1:Nat):Int):=by
    have:=R.o;simp[IntKind.wrap,IntKind.bits,IntKind.signed];omega
   have x0:wr.cell? w=some (.slice A n c):=((X0.o.keep t.o).cell 0).trans (by rw[X.o];rfl);have IG:=aA ig;have CO:=aA (Ol (Sl.keep cS.kept H.o.il DW.o) ig (by have:=T.o;omega));have FG:=aA (FU.o g (aS I.o));clear ig hb;go_wp2_with fail
   refine CO.o.mono ?_;rintro e w2 ⟨v2,m2,rfl,ow,a0,J⟩;obtain⟨a1,a2,rfl,K⟩:=YQ.lists ow a0;have B2:=aA J;have CF:=aA (U.o w2 a1 m2 a2 (fY log g) K FG.o);clear ow J K;go_wp2_with fail
   refine CF.o.mono ?_;rintro e w3 ⟨v3,rfl,⟨l,o,q,rfl,s3,p3⟩,s⟩;have B3:=aA (B2.o.trans (s.mono B2.o.size));have KO:=aA (Q6 (E.o) t.o.size (s3.imp (λ_ _ r=>r.wide (λk _ hk=>aT B2.o.size hk) (f+2))) (λQ a ha=>aT B2.o.size (p3 Q a ha)));have L:=aA (E.o.keep B3.o);have S:=aA (t.o.trans (B3.o.mono t.o.size));have M:=S.o.size;have a3:k<=100:=by have:=R.o;omega
   have TK:=aA (show(i.take (k+1)).map (λg=>aX f (fY log g))=(i.take k).map (λg=>aX f (fY log g))++[aX f (fY log g)] by rw[cP,I.o];simp);obtain⟨y,z⟩:=bS ((aX f (fY log g)).kind);obtain⟨C,D⟩:=bS ((aX f (fY log g)).label);rw[<-z,<-D];have N:=aA (And.intro z D);clear s3 p3 s E t z D;go_wp2_with (at_builtin;refine mF rfl _ _ rfl rfl rfl rfl L.o N.o.1 N.o.2 KO.o.1 KO.o.2 M a3 ?_;intro v8 w8 O a4;have O8:=aA O;have D8:=aA (S.o.grown a4 M (λk hk=>(L.o.lt k hk).1)))
   go_roundg (gk-1)
   case measure=>exact R.o.1
   exact⟨v8,k+1,rfl,rfl,aA R.o.2.1,aA (by rw[TK.o];exact O8.o),D8⟩
  have Z:¬(k:Int)<(m:Int):=by omega
  have OF:=aA (show jE wr w1 (f+3) v k (i.map λg=>aX f (fY log g))from by
   have:=E.o;rwa[aW (by rw[G.o.len];omega)]at this)
  obtain⟨AK,cK,rfl,sK,pK⟩:=OF.o.sl2 (by have:=T.o;have:=x.o;omega);have CB:=aA (kR kd sK pK t.o);have X3:=aA (X1.o.keep t.o);clear sK pK E F x;go_wp2_with fail
  refine CB.o.mono ?_;rintro e w3 ⟨⟨v3,rfl,⟨l,o,q,rfl,s3,p3⟩,s⟩,P⟩;have X4:=aA (X3.o.keep P);have BA:=aA (show fF (λk=>w1.heap.size<=k) (f+3) w3 (.agg #[.int .i64 (bH.mk kd 0 (i.map λg=>aX f (fY log g))).kind,.int .i64 (bH.mk kd 0 (i.map λg=>aX f (fY log g))).label,.slice l o q]) (.mk kd 0 (i.map λg=>aX f (fY log g)))from⟨l,o,q,rfl,s3,p3⟩);generalize (bH.mk kd 0 (i.map λg=>aX f (fY log g))).kind=y at *
  generalize (bH.mk kd 0 (i.map λg=>aX f (fY log g))).label=C at *
  have S:=aA s;have a5:=X1.o.lt;obtain⟨u0,u1,u2⟩:=X4.o.three;have fz:=λj=>X4.o.frozen j
  have W5:=aA (dR (w:=w) BA.o X4.o S.o W.o (by omega) (by omega));clear s3 p3 s P a5;go_wp2
  generalize (((w3.setCell ⟨w.heap.size+1,0,none⟩ y).setCell ⟨w.heap.size+1,1,none⟩ C).setCell ⟨w.heap.size+1,2,none⟩ (.slice l o q))=w5 at *
  obtain⟨z0,z1,z2⟩:=W5.o.1.three;exact aU (v:=.agg #[y,C,.slice l o q]) (by simp[results,Tryz.results123,go_sem,z0,z1,z2]) rfl ⟨_,rfl,W5.o.2.1,W5.o.2.2⟩
end Go.Proofs.YtgnljpnlolkalaaGreat
namespace Go.Proofs.YtgnljpnlolkalaaGreat
structure KSt where
 places:Nat
 links:List bG
def lnk (g:KSt)(l:Int)(a b:LIn):KSt:=⟨g.places,g.links++[⟨l,a,b⟩]⟩
def more (g:KSt)(k:Nat):KSt:=⟨g.places+k,g.links⟩
abbrev YR:=bH->Int->Int->KSt->KSt
def Nh (r:YR)(n:Nat)(q:Int)(s:KSt×Int)(x:bH×Nat):KSt×Int :=
 if x.2+1<n then(r x.1 s.2 (s.1.places:Int) (more s.1 1),(s.1.places:Int))else(r x.1 s.2 q s.1,q)
def Q7 (r:YR)(p q:Int)(g:KSt)(k:bH):KSt:=r k p q g
def zY (r:YR)(a:Nat)(g:KSt)(x:bH×Nat):KSt:=r x.1 ((a+2*x.2:Nat):Int) ((a+2*x.2+1:Nat):Int) g
def AY (a n:Nat):LIn:=(List.range n).map λi=>((a+2*i:Nat):Int)
def pF (a n:Nat):LIn:=(List.range n).map λi=>((a+2*i+1:Nat):Int)
def Ia (a n:Nat):AY a (n+1)=AY a n++[((a+2*n:Nat):Int)]:=by simp[AY,eF]
def Dt (a n:Nat):pF a (n+1)=pF a n++[((a+2*n+1:Nat):Int)]:=by simp[pF,eF]
def UE (a n:Nat):(AY a n).length=n:=by simp[AY]
def Q8 (a n:Nat):(pF a n).length=n:=by simp[pF]
def noB:bH:=.mk 0 0 []
def kbB:Nat->bH->Int->Int->KSt->KSt
 | 0,_,_,_,g=>g
 | f+1,b,p,q,g =>
  if b.kind=1 then lnk g 0 [p] [q]else if b.kind=2 then lnk g b.label [p] [q]
  else if b.kind=3 then(b.kids.zipIdx.foldl (Nh (kbB f) b.kids.length q) (g,p)).1
  else if b.kind=4 then b.kids.foldl (Q7 (kbB f) p q) g
  else if b.kind=5 then lnk (b.kids.zipIdx.foldl (zY (kbB f) g.places) (lnk (more g (2*b.kids.length)) 0 [p] (AY g.places b.kids.length))) 0 (pF g.places b.kids.length) [q]
  else lnk (kbB f (b.kids.getD 1 noB) ((g.places+1:Nat):Int) (g.places:Int) (kbB f (b.kids.getD 0 noB) (g.places:Int) ((g.places+1:Nat):Int) (lnk (more g 2) 0 [p] [(g.places:Int)]))) 0 [((g.places+1:Nat):Int)] [q]
structure Gr (a b:KSt)(k:Nat):Prop where
 up:a.places<=b.places
 few:b.places<=a.places+4*k
 pre:a.links <+: b.links
 short:b.links.length<=a.links.length+2*k
def Gr.refl (a:KSt)(k:Nat):Gr a a k:=⟨aB _,by omega,List.prefix_rfl,by omega⟩
def Gr.trans {a b c:KSt}{k l:Nat}(h:Gr a b k)(g:Gr b c l):Gr a c (k+l):=⟨aT h.up g.up,by have:=h.few;have:=g.few;omega,h.pre.trans g.pre,by have:=h.short;have:=g.short;omega⟩
def Gr1 (a b:KSt)(k:Nat):Prop:=Gr a b k/\b.places+2<=a.places+4*k
def UF {α:Type}{l:List α}{i:Nat}{x:α}(h:l[i]?=some x):(l.take (i+1)).zipIdx=(l.take i).zipIdx++[(x,i)]:=by
 have a:=(aR.1 h).1;rw[cP,h,Option.toList_some,List.zipIdx_append];simp[dT,Nat.min_eq_left (fR a)]
def wG {σ:Type}{f:Nat}(b:σ->KSt)(F:σ->bH×Nat->σ)(hF:∀(s:σ) (x:bH×Nat) (a:Nat),(bY f x.1 a).2=0->Gr (b s) (b (F s x)) ((bY f x.1 a).1-a)) :
  ∀(l:List bH) (j a c:Nat) (s:σ),l.foldl (bU (bY f)) (a,0)=(c,0)->Gr (b s) (b ((l.zipIdx j).foldl F s)) (c-a)/\a+l.length<=c
 | [],j,a,c,s,h=>by
  simp only[List.foldl_nil,Prod.mk.injEq,and_true]at h;subst h;exact⟨Gr.refl _ _,by simp⟩
 | k::l,j,a,c,s,h=>by
  rw[f9,bU,aG rfl]at h;have g:(bY f k a).2=0:=by
   apply eO
   intro d;rw[sG d]at h;rw[h]at d;exact d rfl
  obtain⟨n,o⟩:=gG f k a g;have e:bY f k a=((bY f k a).1,0):=by rw[<-g]
  rw[e]at h;obtain⟨i,p⟩:=wG b F hF l (j+1) _ c (F s (k,j)) h;have m:=hF s (k,j) a g;simp only[List.zipIdx_cons,f9,bP];refine⟨?_,by omega⟩;have:=m.trans i;rwa[show(bY f k a).1-a+(c-(bY f k a).1)=c-a by omega]at this
def sP {k l:Int}{n:Nat}(h:cU k l n=0):1<=k/\k<=6/\(k=6->n=2)/\(3<=k->0<n):=by
 unfold cU at h;split at h
 .cases h
 rename_i c
 split at h
 .cases h
 split at h
 .cases h
 rename_i a
 have d:¬(k<1∨6<k):=c;refine⟨by omega,by omega,λe=>?_,λe=>?_⟩
 .apply eO;intro b;exact a (.inr (.inr ⟨e,b⟩))
 apply eO;intro b;exact a (.inr (.inl ⟨e,by omega⟩))
def iK {f:Nat}{b:bH}{had:Nat}(h:(bY (f+1) b had).2=0):had+1<=40/\cU b.kind b.label b.kids.length=0/\∃c,bY (f+1) b had=(c,0)/\b.kids.foldl (bU (bY f)) (had+1,0)=(c,0):=by
 rw[bY]at h ⊢;split at h
 .cases h
 rename_i d
 rw[aD d];split at h
 .rename_i a;exact absurd h a
 rename_i a
 rw[aD a];have e:b.kids.foldl (bU (bY f)) (had+1,0)=((b.kids.foldl (bU (bY f)) (had+1,0)).1,0):=Prod.ext rfl h;exact⟨by omega,by simpa using a,_,e,e⟩
def lI:∀(f:Nat) (b:bH) (had:Nat) (p q:Int) (g:KSt),(bY f b had).2=0->Gr1 g (kbB f b p q g) ((bY f b had).1-had)
 | 0,b,had,p,q,g,h=>by rw[bY]at h;cases h
 | f+1,b,had,p,q,g,h=>by
  obtain⟨h1,J,m,K,i⟩:=iK h;obtain⟨k1,k6,v,L⟩:=sP J;rw[K];simp only;have M:had+1+b.kids.length<=m:=(wG (f:=f) (λg:KSt=>g) (λs x=>s) (λs x c _=>Gr.refl _ _) b.kids 0 _ _ g i).2;unfold kbB;split
  .refine⟨⟨aB _,by simp[lnk],pS _ _,by simp[lnk];omega⟩,by simp only[lnk];omega⟩
  split
  .refine⟨⟨aB _,by simp[lnk],pS _ _,by simp[lnk];omega⟩,by simp only[lnk];omega⟩
  split
  .have:=(wG (f:=f) (λs:KSt×Int=>s.1) (Nh (kbB f) b.kids.length q) (λs x c u=>by
    unfold Nh;split
    .have:=lI f x.1 c s.2 (s.1.places:Int) (more s.1 1) u;refine⟨by have:=this.1.up;simp only[more]at this ⊢;omega,by have:=this.2;simp only[more]at this ⊢;omega,this.1.pre,this.1.short⟩
    exact(lI f x.1 c s.2 q s.1 u).1) b.kids 0 _ _ (g,p) i).1
   refine⟨⟨this.up,by have:=this.few;simp only at this;omega,this.pre,by have:=this.short;simp only at this;omega⟩,by have:=this.few;simp only at this;omega⟩
  split
  .have key:=(wG (f:=f) (λg:KSt=>g) (λs x=>Q7 (kbB f) p q s x.1) (λs x c u=>(lI f x.1 c p q s u).1) b.kids 0 _ _ g i).1;have N:∀(l:List bH) (j:Nat) (g:KSt),(l.zipIdx j).foldl (λs x=>Q7 (kbB f) p q s x.1) g=l.foldl (Q7 (kbB f) p q) g:=λl=>by
    induction l with
    | nil=>intro j g;rfl
    | cons a l w=>intro j g;simp only[List.zipIdx_cons,f9];exact w _ _
   rw[N]at key;refine⟨⟨key.up,by have:=key.few;omega,key.pre,by have:=key.short;omega⟩,by have:=key.few;omega⟩
  split
  .obtain⟨n,d⟩:=aK (lnk (more g (2*b.kids.length)) 0 [p] (AY g.places b.kids.length));have y:n.places=g.places+2*b.kids.length:=by rw[<-d];rfl
   have z:n.links.length=g.links.length+1:=by rw[<-d];simp[lnk,more]
   have o:g.links <+: n.links:=by rw[<-d];exact pS _ _
   rw[d];have key:∀(l:List bH) (j c m:Nat) (s:KSt),l.foldl (bU (bY f)) (c,0)=(m,0)->Gr s ((l.zipIdx j).foldl (zY (kbB f) g.places) s) (m-c)/\((l.zipIdx j).foldl (zY (kbB f) g.places) s).places+2*l.length<=s.places+4*(m-c):=λl=>by
    induction l with
    | nil =>
     intro j c m s r;exact⟨Gr.refl _ _,by simp⟩
    | cons k l w =>
     intro j c m s r;rw[f9,bU,aG rfl]at r;have A:(bY f k c).2=0:=by
      apply eO
      intro e;rw[sG e]at r;rw[r]at e;exact e rfl
     obtain⟨O,_⟩:=gG f k c A;have t:bY f k c=((bY f k c).1,0):=by rw[<-A]
     rw[t]at r;have P:=(wG (f:=f) (λg:KSt=>g) (λs x=>s) (λs x c _=>Gr.refl _ _) l 0 _ _ s r).2;obtain⟨Q,i2⟩:=w (j+1) _ m (zY (kbB f) g.places s (k,j)) r;obtain⟨c1,c2⟩:=lI f k c ((g.places+2*j:Nat):Int) ((g.places+2*j+1:Nat):Int) s A;have B:Gr s (zY (kbB f) g.places s (k,j)) ((bY f k c).1-c):=c1;have R:(zY (kbB f) g.places s (k,j)).places+2<=s.places+4*((bY f k c).1-c):=c2;simp only[List.zipIdx_cons,f9,bP];have:=B.trans Q;rw[show(bY f k c).1-c+(m-(bY f k c).1)=m-c by omega]at this;exact⟨this,by omega⟩
   obtain⟨C,f2⟩:=key b.kids 0 _ _ n i;have S:=C.up;have T:=C.short;refine⟨⟨by simp only[lnk];omega,by simp only[lnk];omega,(o.trans C.pre).trans (pS _ _),by simp[lnk];omega⟩,by simp only[lnk];omega⟩
  have D:b.kind=6:=by omega
  have U:=v D;obtain⟨a0,a1,V⟩:∃a0 a1,b.kids=[a0,a1]:=by
   match hb:b.kids,U with
   | [a0,a1],_=>exact⟨a0,a1,rfl⟩
  rw[V]at i ⊢;simp only[f9,List.foldl_nil]at i;rw[bU,bU,aG rfl]at i;have E:(bY f a0 (had+1)).2=0:=by
   apply eO
   intro e;rw[aD e]at i;rw[i]at e;exact e rfl
  rw[aG E]at i;obtain⟨O,_⟩:=gG f a0 (had+1) E;have c1:(bY f a1 (bY f a0 (had+1)).1).2=0:=by rw[i]
  obtain⟨H,_⟩:=gG f a1 _ c1;rw[i]at H;simp only at H;simp only[List.getD_cons_zero,List.getD_cons_succ];obtain⟨n,d⟩:=aK (lnk (more g 2) 0 [p] [(g.places:Int)]);have y:n.places=g.places+2:=by rw[<-d];rfl
  have z:n.links.length=g.links.length+1:=by rw[<-d];simp[lnk,more]
  have o:g.links <+: n.links:=by rw[<-d];exact pS _ _
  rw[d];obtain⟨u1,u2⟩:=lI f a0 (had+1) (g.places:Int) ((g.places+1:Nat):Int) n E;obtain⟨I,F⟩:=aK (kbB f a0 (g.places:Int) ((g.places+1:Nat):Int) n);rw[F]at u1 u2 ⊢;obtain⟨v1,v2⟩:=lI f a1 _ ((g.places+1:Nat):Int) (g.places:Int) I c1;rw[i]at v1 v2;simp only at v1 v2;obtain⟨g3,G⟩:=aK (kbB f a1 ((g.places+1:Nat):Int) (g.places:Int) I);rw[G]at v1 v2 ⊢;have W:=u1.up;have X:=u1.short;have Y:=v1.up;have Z:=v1.short;refine⟨⟨by simp only[lnk];omega,by simp only[lnk];omega,((o.trans u1.pre).trans v1.pre).trans (pS _ _),by simp[lnk];omega⟩,by simp only[lnk];omega⟩
def Fv {f a c:Nat}{l:List bH}(h:l.foldl (bU (bY f)) (a,0)=(c,0))(i:Nat):∃d,(l.take i).foldl (bU (bY f)) (a,0)=(d,0):=by
 refine⟨((l.take i).foldl (bU (bY f)) (a,0)).1,Prod.ext rfl ?_⟩;apply eO
 intro b;have:=kH b;rw[h]at this;rw[<-this]at b;exact b rfl
def iL {f a j c i:Nat}{l:List bH}{x:bH}(h:l.foldl (bU (bY f)) (a,0)=(j,0))(k:l[i]?=some x)(hp:(l.take i).foldl (bU (bY f)) (a,0)=(c,0)):∃b,bY f x c=(b,0)/\(l.take (i+1)).foldl (bU (bY f)) (a,0)=(b,0):=by
 obtain⟨b,d⟩:=Fv h (i+1);have e:=jA (g:=bY f) (s:=(a,0)) k;rw[hp,bU,aG rfl]at e;exact⟨b,e.symm.trans d,d⟩
def qN {σ:Type}{F:σ->bH×Nat->σ}{s:σ}{l:List bH}{i:Nat}{x:bH}(h:l[i]?=some x):(l.take (i+1)).zipIdx.foldl F s=F ((l.take i).zipIdx.foldl F s) (x,i):=by
 rw[UF h,fD];rfl
def wH {σ:Type}{F:σ->bH×Nat->σ}{s:σ}{l:List bH}{i:Nat}(h:l.length<=i):(l.take i).zipIdx.foldl F s=l.zipIdx.foldl F s:=by rw[aW h]
def wI {σ:Type}{f:Nat}(a:σ->KSt)(F:σ->bH×Nat->σ)(hF:∀(s:σ) (x:bH×Nat) (b:Nat),(bY f x.1 b).2=0->Gr (a s) (a (F s x)) ((bY f x.1 b).1-b)){l:List bH}{i c b g:Nat}{d:σ}(h:(l.take i).foldl (bU (bY f)) (c,0)=(b,0))(j:l.foldl (bU (bY f)) (c,0)=(g,0)) :
  Gr (a ((l.take i).zipIdx.foldl F d)) (a (l.zipIdx.foldl F d)) (g-b):=by
 have e:=List.take_append_drop i l;have k:l.zipIdx.foldl F d=((l.drop i).zipIdx (0+(l.take i).length)).foldl F ((l.take i).zipIdx.foldl F d):=by
  rw[<-fD,<-List.zipIdx_append,e]
 rw[k];refine(wG a F hF (l.drop i) _ b g _ ?_).1;rw[<-h,<-fD,e];exact j
def Q9 (r:YR)(p q:Int):∀(l:List bH) (j:Nat) (g:KSt),(l.zipIdx j).foldl (λs x=>Q7 r p q s x.1) g=l.foldl (Q7 r p q) g:=λl=>by
 induction l with
 | nil=>intro j g;rfl
 | cons a l b=>intro j g;simp only[List.zipIdx_cons,f9];exact b _ _
def Ni {f:Nat}{p q:Int}(s:KSt)(x:bH×Nat)(a:Nat)(b:(bY f x.1 a).2=0):Gr s (Q7 (kbB f) p q s x.1) ((bY f x.1 a).1-a):=(lI f x.1 a p q s b).1
def Nj {f n:Nat}{q:Int}(s:KSt×Int)(x:bH×Nat)(a:Nat)(b:(bY f x.1 a).2=0):Gr s.1 (Nh (kbB f) n q s x).1 ((bY f x.1 a).1-a):=by
 unfold Nh;split
 .have:=lI f x.1 a s.2 (s.1.places:Int) (more s.1 1) b;exact⟨by have:=this.1.up;simp only[more]at this ⊢;omega,by have:=this.2;simp only[more]at this ⊢;omega,this.1.pre,this.1.short⟩
 exact(lI f x.1 a s.2 q s.1 b).1
def Ib {f b:Nat}(s:KSt)(x:bH×Nat)(a:Nat)(c:(bY f x.1 a).2=0):Gr s (zY (kbB f) b s x) ((bY f x.1 a).1-a):=(lI f x.1 a _ _ s c).1
section
variable {f:Nat} {lb p q:Int} {ks:List bH} {g:KSt}
def Yg:kbB (f+1) (.mk 1 lb ks) p q g=lnk g 0 [p] [q]:=by simp[kbB,bH.kind]
def Yh:kbB (f+1) (.mk 2 lb ks) p q g=lnk g lb [p] [q]:=by simp[kbB,bH.kind,bH.label]
def Yi:kbB (f+1) (.mk 3 lb ks) p q g=(ks.zipIdx.foldl (Nh (kbB f) ks.length q) (g,p)).1:=by simp[kbB,bH.kind,bH.kids]
def Yj:kbB (f+1) (.mk 4 lb ks) p q g=ks.foldl (Q7 (kbB f) p q) g:=by simp[kbB,bH.kind,bH.kids]
def Yk:kbB (f+1) (.mk 5 lb ks) p q g=lnk (ks.zipIdx.foldl (zY (kbB f) g.places) (lnk (more g (2*ks.length)) 0 [p] (AY g.places ks.length))) 0 (pF g.places ks.length) [q]:=by simp[kbB,bH.kind,bH.kids]
def Yl {a0 a1:bH}:kbB (f+1) (.mk 6 lb [a0,a1]) p q g=lnk (kbB f a1 ((g.places+1:Nat):Int) (g.places:Int) (kbB f a0 (g.places:Int) ((g.places+1:Nat):Int) (lnk (more g 2) 0 [p] [(g.places:Int)]))) 0 [((g.places+1:Nat):Int)] [q]:=by simp[kbB,bH.kind,bH.kids]
end
def dB (g:KSt):Prop:=g.places<=16/\g.links.length<=24
def Gr.fits {a b:KSt}{k:Nat}(h:Gr a b k)(c:dB b):dB a:=⟨aT h.up c.1,aT h.pre.length_le c.2⟩
open Go.RowKit
def Rb (N:Nat)(w:World)(b:Nat):Prop:=b<N∨∃cs a,w.heap[b]?=some (.cells cs 3 a)
def jY (N:Nat)(w:World)(A:OAd)(n:Nat):Prop:=∀b a,A=some ⟨b,a,none⟩->0<n->Rb N w b
def Rb.ne {N:Nat}{w:World}{b g:Nat}(h:Rb N w b)(i:N<=g){cs:Array Value}{ty:Nat}{c:Nat×Nat}(d:w.heap[g]?=some (.cells cs ty c))(a:ty≠3):b≠g:=by
 rintro rfl;rcases h with h|⟨e,f,h⟩
 .omega
 rw[d]at h;injection h with h;injection h with _ h;exact a h
def jY.same {N:Nat}{w w':World}{A:OAd}{n c:Nat}{xs:LIn}(h:jY N w A n)(i:aY w A n c xs)(p:w.heap.size<=w'.heap.size)(l:∀b,b<w.heap.size->Rb N w b->w'.heap[b]?=w.heap[b]?):jY N w' A n/\aY w' A n c xs:=by
 constructor
 .intro b a m g;obtain⟨v,o,e,d,_⟩:=i.cells g;rw[m]at e;injection e with e;injection e with e _;subst e;have f:=h b a m g;have k:=l b d f;rcases f with f|⟨cs,r,f⟩
  .exact .inl f
  exact .inr ⟨cs,r,k.trans f⟩
 refine⟨i.len,i.le,i.cap,i.small,i.nul,λg=>?_⟩;obtain⟨b,a,e,d,s⟩:=i.cells g;refine⟨b,a,e,bD d p,λj x t=>?_⟩;obtain⟨vs,f,k⟩:=s j x t;exact⟨vs,λq u=>(sA (l b d (h b a e g))).trans (f q u),k⟩
def jY.own {N B n c:Nat}{w:World}{A:OAd}{xs:LIn}(h:aI w B (.slice A n c) n xs):jY N w A n:=by
 intro b j i m;obtain⟨d,k,_⟩:=h;rcases k.2 with⟨e,_⟩|⟨g,cap,f,e,_,l,_⟩
 .subst i;cases e
 subst i;injection e with a _ _;injection a with a;injection a with a;subst a;exact .inr ⟨f,_,l⟩
def jF (N:Nat):World->(Nat->Value)->bG->Prop:=λw vs t =>
 vs 0=.int .i64 t.label/\∃A1 n1 c1 A2 n2 c2,vs 1=.slice A1 n1 c1/\vs 2=.slice A2 n2 c2/\aY w A1 n1 c1 t.pre/\aY w A2 n2 c2 t.post/\jY N w A1 n1/\jY N w A2 n2
def jF.same {N:Nat}{w w':World}(a:w.heap.size<=w'.heap.size)(c:∀b,b<w.heap.size->Rb N w b->w'.heap[b]?=w.heap[b]?){vs:Nat->Value}{t:bG}(h:jF N w vs t):jF N w' vs t:=by
 obtain⟨f,A1,n1,c1,A2,n2,c2,g,i,j,k,l,m⟩:=h;have d:=l.same j a c;have e:=m.same k a c;exact⟨f,A1,n1,c1,A2,n2,c2,g,i,d.2,e.2,d.1,e.1⟩
def jF.kept (N:Nat):CU (jF N):=λ_ _ _ _ c h=>jF.same c.size (λb a _=>c.block b a) h
def jF.good (N:Nat):Qi (jF N) 3 where
 kept:=jF.kept N
 one:=λw vs x h j a=>by
  obtain⟨b,A1,n1,c1,A2,n2,c2,c,d,_⟩:=h;match j,a with
  | 0,_=>rw[b];rfl
  | 1,_=>rw[c];rfl
  | 2,_=>rw[d];rfl
 pos:=by omega
def Fz {w:World}{B e s n:Nat}{v:Value}{c:List Value}(h:w.ownsRow B e s v n c){g:Nat}(b:v.ownBlock=some g):B<=g/\∃a,w.heap[g]?=some (.cells a e (0,0)):=by
 rcases h.2 with⟨rfl,_⟩|⟨i,cap,a,rfl,d,f,_⟩
 .cases b
 simp only[Value.ownBlock,aZ]at b;subst b;exact⟨d,a,f⟩
def WJ:sT 66 71 3 56:=sT.mk' (z:=.agg #[(0:Int),(),()]) Tryz.underlying66 (by kernel_rfl) rfl (by decide)
structure GrW (N bg:Nat)(w:World)(v:Value)(g:KSt):Prop where
 lo:N<=bg
 box:Box w bg 68 #[.int .i64 g.places,v]
 own:aJ (jF N) 3 w N 71 v g.links.length g.links
section
variable {N bg:Nat} {w0 w w':World} {v v':Value} {g:KSt}
def GrW.lt (h:GrW N bg w v g):bg<w.heap.size:=h.box.lt
def GrW.keep (h:GrW N bg w v g)(a:Below w w w'):GrW N bg w' v g:=⟨h.lo,h.box.keep a,h.own.keep (jF.kept N) a⟩
def jF.turn {b:Nat}(g:N<=b){cs:Array Value}{ty:Nat}(d:Box w b ty cs)(a:ty≠3)(f:w.grownBy w' (some b)){vs:Nat->Value}{t:bG}(h:jF N w vs t):jF N w' vs t :=
 jF.same f.size (λi c j=>f.block i c (λe=>by
  injection e with e;subst e;unfold Box at d;exact j.ne g d a rfl)) h
def jF.grown {n:Nat}{a:List Value}(f:w.ownsRow N 71 3 v n a)(d:w.grownBy w' v.ownBlock){vs:Nat->Value}{t:bG}(h:jF N w vs t):jF N w' vs t :=
 jF.same d.size (λb c g=>d.block b c (λe=>by
  obtain⟨i,j,k⟩:=Fz f e.symm;exact g.ne i k (by decide) rfl)) h
def pG {B e s n b ty:Nat}{c:List Value}{cs:Array Value}(h:w.ownsRow B e s v n c)(i:Box w b ty cs)(d:e≠ty):v.ownBlock≠some b:=by
 intro f;rcases h.2 with⟨rfl,_⟩|⟨g,cap,j,rfl,_,a,_⟩
 .cases f
 simp only[Value.ownBlock,aZ]at f;subst f;unfold Box at i;rw[i]at a;injection a with a;injection a with _ a;exact d a.symm
def GrW.place (h:GrW N bg w v g)(k:Nat):GrW N bg (w.setCell bg (.int .i64 ((g.places+k:Nat):Int))) v (more g k):=by
 obtain⟨_,a,_⟩:=id h.own;refine⟨h.lo,by simpa [more] using h.box.set 0 (.int .i64 ((g.places+k:Nat):Int)), ?_⟩;exact h.own.kept (kJ w bg 0 _) (.inr (pG a h.box (by decide))) (λvs x b=>b.turn h.lo h.box (by decide) (kJ w bg 0 _))
def GrW.far (h:GrW N bg w v g)(b:w.grownBy w' (some bg)){k:Nat}(a:Box w' bg 68 #[.int .i64 ((g.places+k:Nat):Int),v]):GrW N bg w' v (more g k):=by
 obtain⟨_,c,_⟩:=id h.own;exact⟨h.lo,a,h.own.kept b (.inr (pG c h.box (by decide))) (λvs x a=>a.turn h.lo h.box (by decide) b)⟩
def GrW.link (h:GrW N bg w v g){t:bG}{b k cap:Nat}(c:k=g.links.length+1)(own:aJ (jF N) 3 w' N 71 (.slice b k cap) k (g.links++[t]))(d:w.grownBy w' v.ownBlock) :
  Box w' bg 68 #[.int .i64 g.places,v]/\GrW N bg (w'.setCell ⟨bg,1,none⟩ (.slice b k cap)) (.slice b k cap) (lnk g t.label t.pre t.post):=by
 obtain⟨_,f,_⟩:=id h.own;obtain⟨_,i,_⟩:=id own;have a:=h.box.grown d (pG f h.box (by decide));refine⟨a,h.lo,by simpa [lnk] using a.set 1 (.slice b k cap), ?_⟩;have e:(lnk g t.label t.pre t.post).links.length=k:=by simp[lnk,c]
 rw[e];exact own.kept (kJ w' bg 1 _) (.inr (pG i a (by decide))) (λvs x j=>j.turn h.lo a (by decide) (kJ w' bg 1 _))
end
def Kp (w w':World):Prop:=w.heap.size<=w'.heap.size/\∀(b:Nat) (cs:Array Value) (ty:Nat) (a:Nat×Nat),ty≠71->ty≠68->w.heap[b]?=some (.cells cs ty a)->w'.heap[b]?=w.heap[b]?
def Kp.trans {a b c:World}(h:Kp a b)(g:Kp b c):Kp a c:=⟨aT h.1 g.1,λk cs ty d f i j=>by
 have e:=h.2 k cs ty d f i j;exact(g.2 k cs ty d f i (e.trans j)).trans e⟩
def Kp.below {w w':World}(h:Below w w w'):Kp w w':=⟨h.size,λb _ _ _ _ _ a=>h.block b (f8.1 a).1⟩
def Kp.grown {w w':World}{B e s n:Nat}{v:Value}{c:List Value}(h:w.ownsRow B e s v n c)(g:e=71)(d:w.grownBy w' v.ownBlock):Kp w w':=⟨d.size,λb cs ty l i _ f=>d.block b (f8.1 f).1 (λj=>by
 obtain⟨_,k,a⟩:=Fz h j.symm;rw[f]at a;injection a with a;injection a with _ a;exact i (a.trans g))⟩
def Kp.set {w:World}{b:Nat}{cs:Array Value}(a:Box w b 68 cs)(i:Nat)(v:Value):Kp w (w.setCell ⟨b,i,none⟩ v):=⟨by simp[World.setCell],λg d ty h _ f c=>eN _ _ _ _ (λe=>by
 simp only at e;subst e;unfold Box at a;rw[c]at a;injection a with a;injection a with _ a;exact f a)⟩
def Kp.box {w w':World}(h:Kp w w'){b ty:Nat}{cs:Array Value}(a:Box w b ty cs)(c:ty≠71)(d:ty≠68):Box w' b ty cs:=(h.2 b cs ty _ c d a).trans a
def jY.kp {N n c:Nat}{w0 w w':World}{A:OAd}{xs:LIn}(h:jY N w A n)(i:aY w A n c xs)(e:Kp w w')(f:Below N w0 w)(d:Below N w0 w'):jY N w' A n/\aY w' A n c xs :=
 h.same i e.1 (λb g a=>by
  rcases a with a|⟨cs,j,a⟩
  .exact(d.block b a).trans (f.block b a).symm
  exact e.2 b cs _ j (by decide) (by decide) a)
abbrev OC:PanicEntry:={v:=.iface 63 (.agg #[]),recovered:=false}
def fN (w:World)(p:Int):Calls Tryz.prog 74 #[p] w (λe w'=>e=.returned (.slice w 1 1)/\w'=w.alloc (.cells #[p] 3)):=by
 go_enter Tryz.func74,Tryz.ntmps74
 go_wp2
 go_ret
 exact⟨rfl,rfl⟩
def UG {N bg:Nat}{w0 w:World}{v:Value}{g:KSt}(h:GrW N bg w v g)(b:Below N w0 w)(hp:g.places<16) :
  Calls Tryz.prog 76 #[.pointer bg] w (λe w'=>e=.returned (.int .i64 g.places)/\GrW N bg w' v (more g 1)/\Below N w0 w'/\Kp w w'/\w.grownBy w' (some bg)):=by
 have H:=aA h;have B:=aA b;obtain⟨d,c1⟩:=h.box.two;have j:=h.box.frozen 0;obtain⟨P,a⟩:=aK (g.places);have f:=aA (show Hid (GrW N bg (w.setCell bg (.int .i64 ((P:Int)+1))) v (more g 1))from aA (by have:=h.place 1;rw[a]at this;exact this));have i:=aA (b.setCell (p:=⟨bg,0,none⟩) h.lo (.int .i64 ((P:Int)+1)));have c:=aA (Kp.set h.box 0 (.int .i64 ((P:Int)+1)));rw[a]at d hp;rw[a];clear h b a;go_enter Tryz.func76,Tryz.ntmps76
 go_wp2
 go_ret
 exact⟨by first|rfl|simp,f.o.o,i.o,c.o,kJ _ _ _ _⟩
def OE {N bg:Nat}{w0 w:World}{v:Value}{g:KSt}(h:GrW N bg w v g)(a:Below N w0 w)(hp:g.places=16) :
  Calls Tryz.prog 76 #[.pointer bg] w (λe w'=>e=.panicked [OC]/\Below N w0 w'):=by
 have H:=aA h;obtain⟨b,c1⟩:=h.box.two;have d:=h.box.frozen 0;rw[hp]at b;have c:=aA (a.setCell (p:=⟨bg,0,none⟩) h.lo (.int .i64 17));clear h a hp;go_enter Tryz.func76,Tryz.ntmps76
 go_wp2
 exact⟨rfl,rfl,c.o⟩
def WM {N bg:Nat}{w0 w:World}{v:Value}{g:KSt}{A1 A2:OAd}{n1 c1 n2 c2:Nat}{xs ys:LIn}(l:Int)(h:GrW N bg w v g)(x:Below N w0 w)(L:N<=w.heap.size)(z:aY w A1 n1 c1 xs)(A:aY w A2 n2 c2 ys)(k:jY N w A1 n1)(D:jY N w A2 n2)(hp:g.links.length<24) :
  Calls Tryz.prog 75 #[.pointer (some ⟨bg,0,none⟩),.int .i64 l,.slice A1 n1 c1,.slice A2 n2 c2] w (λe w'=>e=.returned (.tuple #[])/\(∃v',GrW N bg w' v' (lnk g l xs ys))/\Below N w0 w'/\Kp w w'):=by
 have H:=aA h;have B:=aA x;obtain⟨C,m,rfl,_⟩:=h.own.sl (by omega);obtain⟨c0,n⟩:=h.box.two;have M:=aA (show jF N w (λj=>match j with|0=>.int .i64 l|1=>.slice A1 n1 c1|_=>.slice A2 n2 c2) ⟨l,xs,ys⟩from⟨rfl,A1,n1,c1,A2,n2,c2,rfl,rfl,z,A,k,D⟩);have O:=aA (show cD (jF N) 3 w #[.int .i64 l,.slice A1 n1 c1,.slice A2 n2 c2].toList [(⟨l,xs,ys⟩:bG)]from cD.one (vs:=λj=>match j with|0=>.int .i64 l|1=>.slice A1 n1 c1|_=>.slice A2 n2 c2) M.o rfl (λj P=>by
  match j,P with
  | 0,_=>rfl
  | 1,_=>rfl
  | 2,_=>rfl))
 have E:=aA (show ∀w',w.grownBy w' (Value.slice C g.links.length m).ownBlock->∀vs y,jF N w vs y->jF N w' vs y from by
  obtain⟨_,o,_⟩:=id h.own;exact λw' q vs y Q=>Q.grown o q)
 obtain⟨K,hK⟩:=aK (g.links.length);have F:=aA hK;have i:=h.own;have b:=E.o;rw[hK]at n hp i b;have r:=aA i;have s:=aA b;have R:=aA (show ∀w',w.grownBy w' (Value.slice C K m).ownBlock->Kp w w' from by
  obtain⟨_,o,_⟩:=id i;exact λw' q=>Kp.grown o rfl q)
 clear h x z A k D hK E i b;go_enter Tryz.func75,Tryz.ntmps75
 have S:¬(K:Int)=24:=by omega
 go_wp2_with (at_builtin;refine dW (v:=.slice C K m) WJ rfl _ _ rfl [(⟨l,xs,ys⟩:bG)] #[.int .i64 l,.slice A1 n1 c1,.slice A2 n2 c2] rfl rfl (by first|rfl|simp) rfl (by simp[Value.oneCell']) r.o O.o rfl B.o L (by omega) (by omega) s.o ?_;intro v1 w1 a c d;obtain⟨T,U,f,_⟩:=a.sl (by omega);obtain⟨G,V⟩:∃G,T=some ⟨G,0,none⟩:=(by subst f;obtain⟨_,W,_⟩:=id a;rcases W.2 with⟨e,_⟩|⟨X,cap,Y,e,_⟩;(cases e);(injection e with e _ _;exact⟨X,e⟩));subst f V;obtain⟨I,J⟩:=H.o.link (t:=⟨l,xs,ys⟩) (by rw[F.o]) a (by rw[F.o];exact c);have Z:=aA J;have u:=aA I;have B1:=aA d;have K1:=aA (R.o _ c);clear a c d J I;have x1:=u.o.cell 1;have k:=u.o.frozen 1)
 exact eR (v:=.tuple #[]) (by simp[results,Tryz.results75,go_sem]) rfl ⟨rfl,⟨_,Z.o⟩,B1.o.setCell (p:=⟨bg,1,none⟩) H.o.lo _,K1.o.trans (Kp.set u.o 1 _)⟩
def Rf {N bg:Nat}{w0 w:World}{v:Value}{g:KSt}{A1 A2:OAd}{n1 c1 n2 c2:Nat}(l:Int)(h:GrW N bg w v g)(b:Below N w0 w)(hp:g.links.length=24) :
  Calls Tryz.prog 75 #[.pointer bg,l,.slice A1 n1 c1,.slice A2 n2 c2] w (λe w'=>e=.panicked [OC]/\Below N w0 w'):=by
 have B:=aA b;obtain⟨C,c,rfl,_⟩:=h.own.sl (by omega);obtain⟨d,a⟩:=h.box.two;rw[hp]at a;clear h b hp;go_enter Tryz.func75,Tryz.ntmps75
 go_wp2
 exact⟨rfl,rfl,B.o⟩
def lY (n:Nat)(l:LIn)(k:Nat):LIn:=(l.take k).foldl (λo p=>o.set p.toNat 1) (List.replicate n 0)
def tY {n k:Nat}{l:LIn}{x:Int}(h:l[k]?=some x):lY n l (k+1)=(lY n l k).set x.toNat 1:=by
 unfold lY;rw[cP,h,fD];rfl
def OG (n:Nat)(l:LIn)(k:Nat):(lY n l k).length=n:=by
 unfold lY;have:∀(l:LIn) (o:LIn),(l.foldl (λo (p:Int)=>o.set p.toNat 1) o).length=o.length:=λl=>by
  induction l with
  | nil=>exact λo=>rfl
  | cons a l b=>intro o;rw[f9,b];simp
 rw[this];simp
def FC (n:Nat)(l:LIn):LIn:=lY n l l.length
def vC {w:World}{P n c:Nat}{A:OAd}{xs:LIn}(h:aY w A n c xs)(J:P<=1000)(K:n<=1000)(f:∀x∈xs,0<=x/\x<(P:Int)) :
  Calls Tryz.prog 29 #[P,.slice A n c] w (λe w'=>∃g,e=.returned (.slice (some ⟨g,0,none⟩) P P)/\aI w' w (.slice (some ⟨g,0,none⟩) P P) P (FC P xs)/\Below w w w'):=by
 have H:=aA h;have t:=aA f;have u:=aA (show xs.length=n from h.len);clear h f;go_enter Tryz.func29,Tryz.ntmps29
 go_upto_region 2 with(at_make;refine jH Tryz.underlying24 iP rfl rfl _ _ rfl P rfl rfl rfl rfl (by omega) (by omega) (aH w w) (aB _) ?_;intro w1 a j i;have d:=aA (show aI w1 w (.slice w P P) P (lY P xs 0)from aI.of_row (by unfold lY;rw[List.take_zero,List.foldl_nil,fE];exact a));have q:=aA i;clear a j i)
 go_wp2
 go_loopw [12] (λv wr=>∃k:Nat,k<=n/\v=k/\Hid (aI wr w (.slice w P P) P (lY P xs k))/\Hid (Below w w wr)) (λv _=>n-(intOf v).toNat)
 case atStart=>exact⟨0,aL _,rfl,d,q⟩
 case round =>
  clear d q;obtain⟨k,L,rfl,d,l⟩:=hrel;by_cases m:k<n
  .have z:(k:Int)<(n:Int):=by omega
   obtain⟨b,B,x,rfl,C,f,D⟩:=(aY.keep H.o l.o).get m;obtain⟨E,F⟩:=t.o x (aS f.o);obtain⟨p,hp⟩:∃p:Nat,x=(p:Int):=⟨x.toNat,by omega⟩;have r:=aA (tY (n:=P) f.o);rw[hp,d9]at r;rw[hp]at D F;have o:p<P:=by omega
   obtain⟨y,s⟩:∃y,(lY P xs k)[p]?=some y:=⟨_,aV (by rw[OG];exact o)⟩;have M:wr.cell? ⟨w.heap.size,p,none⟩=some (.int .i64 y):=aI.at d.o s;have N:wr.frozen? ⟨w.heap.size,p,none⟩=false:=aI.frozen d.o p;have G:=aA (aI.put d.o p 1);have I:=aA (l.o.setCell (p:=⟨w.heap.size,p,none⟩) (aB _) (.int .i64 1));clear f s hp E;go_wp2
   go_roundw
   case rel=>exact⟨k+1,by omega,by go_num,aA (by rw[r.o];exact G.o),I⟩
   simp[intOf];omega
  obtain rfl:k=n:=by omega
  go_wp2
  go_ret
  exact⟨_,rfl,by unfold FC;rw[u.o];exact d.o,l.o⟩
end Go.Proofs.YtgnljpnlolkalaaGreat
namespace Go.Proofs.YtgnljpnlolkalaaGreat
def JA (P:Nat)(l:LIn):Prop:=(∀x∈l,0<=x/\x<(P:Int))/\l.Nodup/\l.length<=P
def JA.mono {P Q:Nat}{l:LIn}(h:JA P l)(a:P<=Q):JA Q l:=⟨λx b=>by have:=h.1 x b;omega,h.2.1,aT h.2.2 a⟩
def JA.one {P:Nat}{p:Int}(b:0<=p)(c:p<(P:Int)):JA P [p]:=⟨λx a=>by rw[bJ]at a;subst a;exact⟨b,c⟩,by simp,by simp only[bP,fQ];omega⟩
def Ic {f:Nat->Int}(d:∀a b,f a=f b->a=b)(n:Nat):((List.range n).map f).Nodup:=by
 induction n with
 | zero=>simp
 | succ n g =>
  rw[eF,fB,nB];refine⟨g,by simp,λa h b c e=>?_⟩;simp only[kZ,lA,bJ]at c;obtain⟨k,i,rfl⟩:=bZ.1 h;have:=d k n (e.trans c);have:=bM.1 i;omega
def WN (c n:Nat):JA (c+2*n) (AY c n):=by
 refine⟨λx d=>?_,Ic (λa b h=>by omega) n,by rw[UE];omega⟩;obtain⟨k,e,rfl⟩:=bZ.1 d;have:=bM.1 e;omega
def UH (c n:Nat):JA (c+2*n) (pF c n):=by
 refine⟨λx d=>?_,Ic (λa b h=>by omega) n,by rw[Q8];omega⟩;obtain⟨k,e,rfl⟩:=bZ.1 d;have:=bM.1 e;omega
def InK (g:KSt):Prop:=∀t∈g.links,JA g.places t.pre/\JA g.places t.post
def InK.more {g:KSt}(h:InK g)(k:Nat):InK (more g k):=λt a=>⟨(h t a).1.mono (Nat.le_add_right _ _),(h t a).2.mono (Nat.le_add_right _ _)⟩
def InK.lnk {g:KSt}(h:InK g){l:Int}{a b:LIn}(d:JA g.places a)(e:JA g.places b):InK (lnk g l a b):=λt c=>by
 simp only[Go.Proofs.YtgnljpnlolkalaaGreat.lnk,cN,bJ]at c;rcases c with c|rfl
 .exact h t c
 exact⟨d,e⟩
def sQ {σ β:Type}{J:σ->Prop}{F:σ->β->σ}:∀(l:List β) (s:σ),(∀(a:σ) (x:β),x∈l->J a->J (F a x))->J s->J (l.foldl F s)
 | [],_,_,h=>h
 | x::l,s,hF,h=>sQ l (F s x) (λs y b=>hF s y (List.mem_cons_of_mem _ b)) (hF s x (List.mem_cons_self ..) h)
def zZ:∀(f:Nat) (b:bH) (p q:Int) (g:KSt),0<=p->p<(g.places:Int)->0<=q->q<(g.places:Int)->InK g->InK (kbB f b p q g)/\g.places<=(kbB f b p q g).places
 | 0,b,p,q,g,_,_,_,_,h=>⟨h,aB _⟩
 | f+1,b,p,q,g,p0,j,d,k,h=>by
  unfold kbB;split
  .exact⟨h.lnk (.one p0 j) (.one d k),aB _⟩
  split
  .exact⟨h.lnk (.one p0 j) (.one d k),aB _⟩
  split
  .have:=sQ (J:=λs:KSt×Int=>InK s.1/\g.places<=s.1.places/\0<=s.2/\s.2<(s.1.places:Int)) (F:=Nh (kbB f) b.kids.length q) b.kids.zipIdx (g,p) (λs x _ a=>by
    obtain⟨a1,a2,a3,a4⟩:=a;unfold Nh;split
    .obtain⟨c,e⟩:=zZ f x.1 s.2 (s.1.places:Int) (more s.1 1) a3 (by simp only[more];omega) (by omega) (by simp only[more];omega) (a1.more 1);have r:s.1.places+1<=(kbB f x.1 s.2 (s.1.places:Int) (more s.1 1)).places:=e;exact⟨c,by simp only;omega,by simp only;omega,by simp only;omega⟩
    obtain⟨c,e⟩:=zZ f x.1 s.2 q s.1 a3 a4 d (by omega) a1;exact⟨c,by simp only;omega,d,by simp only;omega⟩) ⟨h,aB _,p0,j⟩
   exact⟨this.1,this.2.1⟩
  split
  .exact sQ (J:=λs:KSt=>InK s/\g.places<=s.places) (F:=Q7 (kbB f) p q) b.kids g (λs x _ a=>by
    obtain⟨c,e⟩:=zZ f x p q s p0 (by have:=a.2;omega) d (by have:=a.2;omega) a.1;exact⟨c,aT a.2 e⟩) ⟨h,aB _⟩
  split
  .have:=sQ (J:=λs:KSt=>InK s/\g.places+2*b.kids.length<=s.places) (F:=zY (kbB f) g.places) b.kids.zipIdx (lnk (more g (2*b.kids.length)) 0 [p] (AY g.places b.kids.length)) (λs x n a=>by
    have o:x.2<b.kids.length:=by
     have:=List.mem_zipIdx n;omega
    obtain⟨c,e⟩:=zZ f x.1 ((g.places+2*x.2:Nat):Int) ((g.places+2*x.2+1:Nat):Int) s (by omega) (by have:=a.2;omega) (by omega) (by have:=a.2;omega) a.1;exact⟨c,aT a.2 e⟩) ⟨(h.more _).lnk (.one p0 (by simp only[more];omega)) (WN _ _),aB _⟩
   exact⟨this.1.lnk ((UH _ _).mono this.2) (.one d (by have:=this.2;omega)),aT (Nat.le_add_right _ _) this.2⟩
  have l:InK (lnk (more g 2) 0 [p] [(g.places:Int)]):=(h.more 2).lnk (.one p0 (by simp only[more];omega)) (.one (by omega) (by simp only[more];omega));obtain⟨m,i⟩:=aK (lnk (more g 2) 0 [p] [(g.places:Int)]);have t:m.places=g.places+2:=by rw[<-i];rfl
  rw[i]at l ⊢;obtain⟨c,e⟩:=zZ f (b.kids.getD 0 noB) (g.places:Int) ((g.places+1:Nat):Int) m (by omega) (by omega) (by omega) (by omega) l;obtain⟨c1,c2⟩:=zZ f (b.kids.getD 1 noB) ((g.places+1:Nat):Int) (g.places:Int) _ (by omega) (by omega) (by omega) (by omega) c;exact⟨c1.lnk (.one (by omega) (by omega)) (.one d (by omega)),by simp only[lnk];omega⟩
def jJ (b:bH):KSt:=kbB 41 b 0 1 ⟨2,[]⟩
def Ie (b:bH):InK (jJ b):=(zZ 41 b 0 1 ⟨2,[]⟩ (by omega) (by decide) (by omega) (by decide) (λt a=>by cases a)).1
def If {b:bH}(h:eK b=0):(jJ b).places<=162/\(jJ b).links.length<=80:=by
 have d:=(lI 41 b 0 0 1 ⟨2,[]⟩ h).1;have e:=(gG 41 b 0 h).2;have a:=d.few;have c:=d.short;simp only[fQ]at a c;unfold jJ;omega
def sV (P:Nat)(t:bG):bG:=⟨t.label,FC P t.pre,FC P t.post⟩
def UI (g:KSt):eB:=⟨g.places,g.links.map (sV g.places)⟩
instance (g:KSt):Decidable (dB g):=by unfold dB;infer_instance
def hJ (b:bH):eB×Int:=if eK b=0 then(if dB (jJ b)then(UI (jJ b),0)else(⟨0,[]⟩,4))else(⟨0,[]⟩,eK b)
def qO {b:bH}(h:eK b≠0):hJ b=(⟨0,[]⟩,eK b):=aD h
def sR {b:bH}(h:eK b=0)(a:¬dB (jJ b)):hJ b=(⟨0,[]⟩,4):=by rw[hJ,aG h,aD a]
def yP {b:bH}(h:eK b=0)(a:dB (jJ b)):hJ b=(UI (jJ b),0):=by rw[hJ,aG h,aG a]
def Ig {P k:Nat}{l:List bG}{t:bG}(h:l[k]?=some t):(l.take (k+1)).map (sV P)=(l.take k).map (sV P)++[sV P t]:=by
 rw[cP,h,fB];rfl
open Go.RowKit
def A0 (w:World)(B:Nat)(v:Value)(n:Nat)(xs:LIn):Prop :=
 ∃g a cap b,v=.slice (some ⟨g,a,none⟩) n cap/\B<=g/\w.heap[g]?=some (.cells b 3 (0,0))/\n<=cap/\cap<=maxLen/\a+cap<=b.size/\xs.length=n/\(b.toList.drop a).take n=xs.map (Value.int .i64)
section
variable {w w':World} {B n:Nat} {v:Value} {xs:LIn}
def A0.lt (h:A0 w B v n xs):∀k,v.ownBlock=some k->B<=k/\k<w.heap.size:=λk a=>by
 obtain⟨g,b,cap,c,rfl,d,e,_⟩:=h;injection a with a;subst a;exact⟨d,(f8.1 e).1⟩
def A0.kept (h:A0 w B v n xs){row:Option Nat}(e:w.grownBy w' row)(a:v.ownBlock≠row):A0 w' B v n xs:=by
 obtain⟨g,b,cap,c,rfl,f,d,i⟩:=h;exact⟨g,b,cap,c,rfl,f,(e.block g (f8.1 d).1 a).trans d,i⟩
def A0.keep (h:A0 w B v n xs)(d:Below w w w'):A0 w' B v n xs:=by
 obtain⟨g,a,cap,b,rfl,e,c,f⟩:=h;exact⟨g,a,cap,b,rfl,e,(d.block g (f8.1 c).1).trans c,f⟩
def A0.cell {g a cap:Nat}(h:A0 w B (.slice (some ⟨g,a,none⟩) n cap) n xs){i:Nat}{x:Int}(d:xs[i]?=some x):w.cell? ⟨g,a+i,none⟩=some (.int .i64 x):=by
 obtain⟨s,f,j,c,e,t,l,u,v,y,m,o⟩:=h;injection e with b _ p;injection b with b;injection b with b q;subst b q p;have r:i<n:=by rw[<-m];exact(aR.1 d).1
 have k:((c.toList.drop a).take n)[i]?=(xs.map (Value.int .i64))[i]?:=by rw[o]
 rw[sB r,dF,d,List.getElem?_drop]at k;simp only[World.cell?,l];simp only[Option.isSome_none,Bool.false_eq_true,if_false];rw[<-nA,k];rfl
def A0.tail {g a cap:Nat}{x:Int}(h:A0 w B (.slice (some ⟨g,a,none⟩) (n+1) cap) (n+1) (x::xs)):A0 w B (.slice (if cap=1 then some ⟨g,a,none⟩else some ⟨g,a+1,none⟩) n (cap-1)) n xs:=by
 obtain⟨t,d,f,b,e,i,j,u,v,y,o,p⟩:=h;injection e with c _ q;injection c with c;injection c with c r;subst c r q;have k:xs.length=n:=by simpa using o
 by_cases l:cap=1
 .subst l;have s:n=0:=by omega
  subst s;have:xs=[]:=dS k;subst this;exact⟨g,a,0,b,by simp,i,j,by omega,by omega,by omega,rfl,by simp⟩
 refine⟨g,a+1,cap-1,b,by rw[aD l],i,j,by omega,by omega,by omega,k, ?_⟩;have m:=aO (List.drop 1) p;rw[List.drop_take,List.drop_drop]at m;simpa [Nat.add_comm] using m
def BH {P:Program} {w:World} (t ty e:TypeId) (i:TypeInfo) (q:P.underlying t=some (.slice e)) (r:P.info? e=some i)
  (g f d h:Nat) (k:Array Value) (s:w.heap[g]?=some (.cells k e (0,0)))
  (a:Addr) (m c:Nat) (b:List Value) (v:b.length=m*i.size) (l:∀j u,b[j]?=some u->w.cell? (a.add j)=some u) (x:∀u∈b,u.oneCell'=true)
  (n:d+m<=h) (o:f+d*i.size+b.length<=k.size) :
  (Builtin.append_ #[t,t] ty #[.slice (some ⟨g,f,none⟩) d h,.slice (some a) m c]).run P w =
   .ok (.slice (some ⟨g,f,none⟩) (d+m) h) (w.setRow g (k.toList.take (f+d*i.size)++b++k.toList.drop (f+d*i.size+b.length)).toArray):=by
 have y:=run_firstCells_some (P:=P) w i.size m a m c b v l;have p:=run_storeCells_at P g (f+d*i.size) e b 0 k w s (by simpa using o) x;simp only[eP]at p;simp[Builtin.append_,run_underlying q,sizeOf,typeInfo,r,Builtin.lenOf,n,y,Addr.add_mid,p]
def UJ {α:Type}{L xs:List α}{a n:Nat}{y:α}(h:(L.drop a).take n=xs)(b:xs.length=n)(d:a+n<=L.length)(R:List α):((L.take (a+n)++[y]++R).drop a).take (n+1)=xs++[y]:=by
 have c:(L.take (a+n)).drop a=xs:=by rw[List.drop_take,show a+n-a=n by omega];exact h
 rw[nC,List.drop_append_of_le_length (by rw[dT];omega),c,<-nC];exact List.take_left' (by simp[b])
def UK (h:A0 w B v n xs){ty H c:Nat}{y:Int}(I:w.cell? H=some (.int .i64 y))(J:B<=w.heap.size)(R:n<=1000000) :
  ∃v' w',(Builtin.append_ #[24,24] ty #[v,.slice H 1 c]).run Tryz.prog w=.ok v' w'/\A0 w' B v' (n+1) (xs++[y])/\w.grownBy w' v.ownBlock/\(v'.ownBlock=v.ownBlock∨v'.ownBlock=some w):=by
 obtain⟨i,z,k1,K,o,L,M⟩:=iO.info;have a:∀j u,[Value.int .i64 y][j]?=some u->w.cell? ((⟨H,0,none⟩:Addr).add j)=some u:=λj u b=>by
  match j,b with
  | 0,b =>
   rw[Addr.add_mid];simp only[aQ,aZ]at b;subst b;exact I
  | j+1,b=>simp at b
 have r:∀u∈[Value.int .i64 y],u.oneCell'=true:=λu b=>by rw[bJ.1 b];rfl
 obtain⟨g,d,cap,l,rfl,E,s,N,F,O,p,G⟩:=h;have q:(xs.map (Value.int .i64)).length=n:=by rw[dQ];exact p
 by_cases f:n+1<=cap
 .have t:=BH (P:=Tryz.prog) (w:=w) 24 ty 3 i iO.und k1 g d n cap l s ⟨H,0,none⟩ 1 c [Value.int .i64 y] (by rw[o];rfl) a r f (by rw[o];simp;omega);refine⟨_,_,t,⟨g,d,cap,_,rfl,E,setRow_heap w g l _ _ _ s,f,F, ?_,by simp[p], ?_⟩,⟨rfl,rfl,rfl,by simp,λk _ A=>setRow_other w g k _ (λe=>A (by simp[Value.ownBlock,e]))⟩,.inl rfl⟩
  .simp only[List.size_toArray,bL,dT,List.length_drop,Array.length_toList,o];simp;omega
  rw[o,j8,fB];exact UJ G q (by rw[Array.length_toList];omega) _
 .have m:∀j u,(xs.map (Value.int .i64))[j]?=some u->w.cell? ((⟨g,d,none⟩:Addr).add j)=some u:=λj u b=>by
   rw[Addr.add_mid];rw[dF]at b;obtain⟨x,Q,rfl⟩:=Option.map_eq_some_iff.1 b;exact A0.cell ⟨g,d,cap,l,rfl,E,s,N,F,O,p,G⟩ Q
  have t:=run_append_grow (P:=Tryz.prog) w 24 ty 3 i z iO.und k1 K ⟨g,d,none⟩ n cap (xs.map (Value.int .i64)) (by rw[q,o,j8]) m ⟨H,0,none⟩ 1 c [Value.int .i64 y] (by rw[o];rfl) a (by omega) (by omega) (growslice_fits (by omega) (by rw[L];omega));have C:=grownCap_ge w (n+1) cap 3;have D:grownCap w (n+1) cap 3<=maxLen:=grownCap_le_maxLen w (n+1) cap 3 (by simp only[maxLen];omega);refine⟨_,_,t,⟨w.heap.size,0,_,_,rfl,J,iD w.drew _,C,D, ?_,by simp[p], ?_⟩,⟨rfl,rfl,rfl,by simp,λk A _=>heap_alloc_old w.drew _ A⟩,.inr rfl⟩
  .simp only[Array.size_append,List.size_toArray,size_zeroCells,M,dQ,p,List.length_singleton];omega
  simp only[Array.toList_append,nC,List.drop_zero];rw[<-nC,fB];exact List.take_left' (by simp[p])
def Rh {ops:Array Oper} {o:Oper} {a:Act} {K:Act->World->Prop} {Q:Exit->Act->World->Prop} {E:Prop} (b:o.guard=none) (s x:Operand)
  (d:o.op=.call {callee:=.builtin .append,args:=#[s,x],argTypes:=#[24,24]})
  {H c:Nat} {y:Int} (e:a.eval s=v) (f:a.eval x=.slice H 1 c) (own:A0 w B v n xs) (g:w.cell? H=some (.int .i64 y)) (i:B<=w.heap.size) (j:n<=1000000)
  (hK:∀v' w',A0 w' B v' (n+1) (xs++[y])->w.grownBy w' v.ownBlock->(v'.ownBlock=v.ownBlock∨v'.ownBlock=some w)->K (a.put o.dst v') w') :
  if Region.wanted o (yielded ops a.tmps)=true then Oper.wp Tryz.prog o a w K Q else E:=by
 rw[aG (by simp[Region.wanted,b])];obtain⟨v',w',k,l,m,p⟩:=UK own (ty:=o.type) (c:=c) g i j;have h:=hK v' w' l m p;unfold Oper.wp execOp;simp only[d,resolve,invoke,builtin,Sem.run_bind,Sem.run_pure,Result.andThen_ok,List.map_toArray,kZ,lA,e,f,k];exact h
