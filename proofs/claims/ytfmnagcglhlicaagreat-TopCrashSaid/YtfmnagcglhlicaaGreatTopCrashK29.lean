/- Texts melted into one: Blocks that a call makes: rows of blocks, appended to; mine's block, silent, step. Conditions: the kids are blocks of the call's own. | The contract of the reference's -/
import Derived.Test.YtfmnagcglhlicaaGreatTopCrashK28
import Derived.ChangeKeysEq
set_option maxRecDepth 100000
set_option maxHeartbeats 8000000
namespace Go.Proofs.YtfmnagcglhlicaaGreat
open Go.RowKit
def oM (P:Nat→Prop):Nat→World→(Nat→Value)→aW→Prop
 | 0=>fun _ _ _=>False
 | d+1=>fun w vs b=>vs 0=.int .i64 b.kind∧vs 1=.int .i64 b.label∧∃A n c,vs 2=.slice A n c∧Sl (oM P d) 3 w A n c b.kids∧(0<n→∀a,A=some a→P a.block)
theorem oM.kept (P:Nat→Prop):∀d,t8 (oM P d)
 | 0=>fun _ _ _ _ _ h=>h
 | d+1=>fun _ _ _ _ hb h=>by
  obtain⟨h0,h1,A,n,c,h2,h3,h4⟩:=h;exact⟨h0,h1,A,n,c,h2,h3.keep (oM.kept P d) hb,h4⟩
theorem oM.toD {P:Nat→Prop}:∀(d:Nat) {w:World} {vs:Nat→Value} {b:aW},oM P d w vs b→UV d w vs b
 | 0,_,_,_,h=>h
 | d+1,_,_,_,h=>by
  obtain⟨h0,h1,A,n,c,h2,h3,h4⟩:=h;exact⟨h0,h1,A,n,c,h2,h3.imp (fun _ _ r=>oM.toD d r)⟩
theorem oM.wide {P Q:Nat→Prop}{w:World}(hp:∀k,k<w.heap.size→P k→Q k):∀(d:Nat) {vs:Nat→Value} {b:aW},oM P d w vs b→oM Q d w vs b
 | 0,_,_,h=>h
 | d+1,_,_,h=>by
  obtain⟨h0,h1,A,n,c,h2,h3,h4⟩:=h;refine⟨h0,h1,A,n,c,h2,h3.imp (fun _ _ r=>oM.wide hp d r),fun hn a ha=>hp _ ?_ (h4 hn a ha)⟩;obtain⟨b,off,e,hb,_⟩:=h3.cells hn;rw[e]at ha;injection ha with ha;rw[←ha];exact hb
theorem Sl.far {α:Type}{R Q:World→(Nat→Value)→α→Prop}{sz:Nat}{w w':World}{A:OAd}{n c:Nat}{xs:List α}(h:Sl R sz w A n c xs)(hs:w.heap.size≤w'.heap.size)(hb:0<n→∀a,A=some a→w'.heap[a.block]?=w.heap[a.block]?)(hq:∀vs x,R w vs x→Q w' vs x):Sl Q sz w' A n c xs :=
 ⟨h.len,h.le,h.cap,h.small,h.nul,fun hn=>by
  obtain⟨b,off,e,hbl,hx⟩:=h.cells hn;exact⟨b,off,e,Nat.lt_of_lt_of_le hbl hs,fun i x hi=>by
   obtain⟨vs,a,r⟩:=hx i x hi;refine⟨vs,fun j hj=>?_,hq _ _ r⟩;rw[←a j hj];have:=hb hn _ e;simp only[World.cell?];rw[this]⟩⟩
theorem oM.grown {P:Nat→Prop}{w w':World}{row:Option Nat}(hg:w.grownBy w' row)(hne:∀k,row=some k→¬P k):∀(d:Nat) {vs:Nat→Value} {b:aW},oM P d w vs b→oM P d w' vs b
 | 0,_,_,h=>h
 | d+1,_,_,h=>by
  obtain⟨h0,h1,A,n,c,h2,h3,h4⟩:=h;refine⟨h0,h1,A,n,c,h2,h3.far hg.size (fun hn a ha=>?_) (fun _ _ r=>oM.grown hg hne d r),h4⟩;obtain⟨b,off,e,hb,_⟩:=h3.cells hn;have hp:=h4 hn a ha;rw[e]at ha;injection ha with ha;subst ha;exact hg.block b hb (fun e=>hne b e.symm hp)
def fJ (P:Nat→Prop)(d:Nat)(w:World)(v:Value)(T:aW):Prop:=∃A n c,v=.agg #[.int .i64 T.kind,.int .i64 T.label,.slice A n c]∧Sl (oM P d) 3 w A n c T.kids∧(0<n→∀a,A=some a→P a.block)
def lF (d:Nat)(T:aW)(w:World)(e:Ending)(w':World):Prop:=∃v,e=.returned v∧fJ (fun k=>w.heap.size≤k) d w' v T∧Below w.heap.size w w'
def vs3 (a b c:Value):Nat→Value
 | 0=>a
 | 1=>b
 | _=>c
theorem fJ.keep {P:Nat→Prop}{d:Nat}{w w':World}{v:Value}{T:aW}(h:fJ P d w v T)(hb:Below w.heap.size w w'):fJ P d w' v T:=by
 obtain⟨A,n,c,e,s,p⟩:=h;exact⟨A,n,c,e,s.keep (oM.kept P d) hb,p⟩
theorem fJ.wide {P Q:Nat→Prop}{d:Nat}{w:World}{v:Value}{T:aW}(hp:∀k,k<w.heap.size→P k→Q k)(h:fJ P d w v T):fJ Q d w v T:=by
 obtain⟨A,n,c,e,s,p⟩:=h;refine⟨A,n,c,e,s.imp (fun _ _ r=>r.wide hp d),fun hn a ha=>hp _ ?_ (p hn a ha)⟩;obtain⟨b,off,e,hb,_⟩:=s.cells hn;rw[e]at ha;injection ha with ha;rw[←ha];exact hb
theorem fJ.grown {P:Nat→Prop}{d:Nat}{w w':World}{v:Value}{T:aW}{row:Option Nat}(hg:w.grownBy w' row)(hne:∀k,row=some k→¬P k)(h:fJ P d w v T):fJ P d w' v T:=by
 obtain⟨A,n,c,e,s,p⟩:=h;have q:oM P (d+1) w (vs3 (.int .i64 T.kind) (.int .i64 T.label) (.slice A n c)) T:=⟨rfl,rfl,A,n,c,rfl,s,p⟩;obtain⟨_,_,A2,n2,c2,e2,s2,p2⟩:=q.grown hg hne;injection e2 with e21 e22 e23;subst e21 e22 e23;exact⟨A,n,c,e,s2,p2⟩
theorem Wh:mC 69 71 3 40:=mC.mk' (z:=.agg #[.int .i64 0,.int .i64 0,.slice none 0 0]) Tryz.underlying69 (by kernel_rfl) rfl (by decide)
theorem a6.blk {P:Nat→Prop}{d:Nat}{w:World}{A:OAd}{n c:Nat}{T:aW}{kd lb:Int}(hk:kd=T.kind)(hl:lb=T.label)(s:Sl (oM P d) 3 w A n c T.kids)(p:0<n→∀a,A=some a→P a.block):a6 (oM P (d+1)) 3 w [.int .i64 kd,.int .i64 lb,.slice A n c] [T] :=
 a6.one (vs:=vs3 (.int .i64 kd) (.int .i64 lb) (.slice A n c)) ⟨by rw[←hk];rfl,by rw[←hl];rfl,A,n,c,rfl,s,p⟩ rfl (fun j hj=>by
  match j,hj with
  | 0,_=>rfl
  | 1,_=>rfl
  | 2,_=>rfl)
abbrev j4 (w:World)(B d:Nat)(v:Value)(n:Nat)(ks:List aW):Prop:=aC (oM (fun k=>B≤k∧v.ownBlock≠some k) d) 3 w B 71 v n ks
theorem j4.keep {w w':World}{B d n:Nat}{v:Value}{ks:List aW}(h:j4 w B d v n ks)(hb:Below w.heap.size w w'):j4 w' B d v n ks:=aC.keep (oM.kept _ d) h hb
theorem aC.imp {α:Type}{R Q:World→(Nat→Value)→α→Prop}{sz B e:Nat}{w:World}{v:Value}{n:Nat}{xs:List α}(h:aC R sz w B e v n xs)(hq:∀vs x,R w vs x→Q w vs x):aC Q sz w B e v n xs:=by
 obtain⟨cells,h1,h2,h3⟩:=h;exact⟨cells,h1,⟨h2.1,fun i x hx=>by obtain⟨vs,a,b⟩:=h2.2 i x hx;exact⟨vs,a,hq _ _ b⟩⟩,h3⟩
theorem lQ {ops:Array Oper} {rest:List Oper} {o:Oper} {a:Act} {Q:Exit→Act→World→Prop} (hgd:o.guard=none) (s x:Operand)
  (ho:o.op=.call {callee:=.builtin .append,args:=#[s,x],argTypes:=#[69,69]})
  {w:World} {B d n H m c:Nat} {v:Value} {ks:List aW} {A:OAd} {T:aW} {kd lb:Int} (hs:a.eval s=v) (hx:a.eval x=.slice (some ⟨H,0,none⟩) 1 1) (hH:H=w.heap.size)
  (own:j4 w B (d+1) v n ks) (hk:kd=T.kind) (hl:lb=T.label) (t:Sl (oM (fun k=>B≤k∧v.ownBlock≠some k) d) 3 w A m c T.kids) (p:0<m→∀a,A=some a→B≤a.block∧v.ownBlock≠some a.block) (hB:B≤w.heap.size) (hn:n≤100)
  (K:∀v' w',j4 w' B (d+1) v' (n+1) (ks++[T])→w.grownBy w' v.ownBlock→wpList Tryz.prog ops Q rest (a.put o.dst v') w') :
  wpList Tryz.prog ops Q (o::rest) a (w.alloc (.cells #[.int .i64 kd,.int .i64 lb,.slice A m c] 71)):=by
 have hlt:∀k,k<w.heap.size→(B≤k∧v.ownBlock≠some k)→(k<w.heap.size∧B≤k∧v.ownBlock≠some k):=fun k hk hp=>⟨hk,hp⟩
 have rd:a6 (oM (fun k=>k<w.heap.size∧B≤k∧v.ownBlock≠some k) (d+1)) 3 w [.int .i64 kd,.int .i64 lb,.slice A m c] [T]:=a6.blk hk hl (t.imp (fun _ _ r=>r.wide hlt d)) (fun hn a ha=>by
  obtain⟨b,off,e,hb,_⟩:=t.cells hn;have:=p hn a ha;rw[e]at ha;injection ha with ha;subst ha;exact⟨hb,this⟩)
 refine fY (v:=v) Wh hgd s x ho [T] #[.int .i64 kd,.int .i64 lb,.slice A m c] hs hx hH rfl (by simp[Value.oneCell']) (own.imp (fun _ _ r=>r.wide hlt (d+1))) rd rfl hB (by omega) (by omega) (fun w' hg vs y hy=>hy.grown hg (fun k hk hp=>hp.2.2 hk) (d+1)) (fun v' w' o1 o2 o3=>K v' w' (o1.imp (fun _ _ r=>r.wide (fun k _ hp=>⟨hp.2.1, ?_⟩) (d+1))) o2);rcases o3 with e|e
 ·rw[e];exact hp.2.2
 ·rw[e];intro e2;injection e2 with e2;omega
theorem j5 (w:World)(d:Nat):Calls Tryz.prog 124 #[] w (lF d aR w):=by
 have B0:=aA (aB w (.cells #[.int .i64 1,.int .i64 0,.slice none 0 0] 71));go_enter Tryz.func124,Tryz.ntmps124
 go_wp2
 have X0:=aA (Box.new w #[.int .i64 1,.int .i64 0,.slice none 0 0] 71);generalize w.alloc (.cells #[.int .i64 1,.int .i64 0,.slice none 0 0] 71)=w1 at *
 obtain⟨z0,z1,z2⟩:=X0.o.three;exact bodyPost_ret (v:=.agg #[.int .i64 1,.int .i64 0,.slice none 0 0]) (by simp[results,Tryz.results124,go_sem,z0,z1,z2]) rfl ⟨_,rfl,⟨none,0,0,rfl,Sl.nil0,fun h=>absurd h (by omega)⟩,B0.o⟩
theorem yF (w:World)(d:Nat)(a:Int):Calls Tryz.prog 127 #[.int .i64 a] w (lF d (bS a) w):=by
 have B0:=aA (aB w (.cells #[.int .i64 2,.int .i64 a,.slice none 0 0] 71));go_enter Tryz.func127,Tryz.ntmps127
 go_wp2
 have X0:=aA (Box.new w #[.int .i64 2,.int .i64 a,.slice none 0 0] 71);generalize w.alloc (.cells #[.int .i64 2,.int .i64 a,.slice none 0 0] 71)=w1 at *
 obtain⟨z0,z1,z2⟩:=X0.o.three;exact bodyPost_ret (v:=.agg #[.int .i64 2,.int .i64 a,.slice none 0 0]) (by simp[results,Tryz.results127,go_sem,z0,z1,z2]) rfl ⟨_,rfl,⟨none,0,0,rfl,Sl.nil0,fun h=>absurd h (by omega)⟩,B0.o⟩
theorem gR {w0 w:World}{d n c:Nat}{A:OAd}{ks:List aW}(kd:Int)(h:Sl (oM (fun k=>w0.heap.size≤k) d) 3 w A n c ks)(hp:0<n→∀a,A=some a→w0.heap.size≤a.block)(hb:Below w0.heap.size w0 w):Calls Tryz.prog 125 #[.int .i64 kd,.slice A n c] w fun e w'=>lF d (.mk kd 0 ks) w0 e w'∧Below w.heap.size w w':=by
 have B0:=aA (aB w (.cells #[.int .i64 kd,.int .i64 0,.slice A n c] 71));have BB:=aA hb;have PP:=aA hp;have H:=aA (h.keep (oM.kept _ d) B0.o);clear h hp hb;go_enter Tryz.func125,Tryz.ntmps125
 go_wp2
 have X0:=aA (Box.new w #[.int .i64 kd,.int .i64 0,.slice A n c] 71);generalize w.alloc (.cells #[.int .i64 kd,.int .i64 0,.slice A n c] 71)=w1 at *
 obtain⟨z0,z1,z2⟩:=X0.o.three;exact bodyPost_ret (v:=.agg #[.int .i64 kd,.int .i64 0,.slice A n c]) (by simp[results,Tryz.results125,go_sem,z0,z1,z2]) rfl ⟨⟨_,rfl,⟨A,n,c,rfl,H.o,PP.o⟩,BB.o.trans (B0.o.mono BB.o.size)⟩,B0.o⟩
theorem U7:Tryz.prog.underlying 240=some (.array 2 3):=by kernel_rfl
theorem Ph:Tryz.prog.eqGuardType Tryz.prog.depth 240=false:=by kernel_rfl
structure PrI (w:World)(A1 A2 A3 A4:OAd)(n1 c1 n2 c2 n3 c3 n4 c4:Nat)(p:aU):Prop where
 i1:aJ w A1 n1 c1 p.labels
 i2:aJ w A2 n2 c2 p.first
 i3:aJ w A3 n3 c3 p.last
 i4:wT w A4 n4 c4 p.behind
theorem PrI.keep {w w':World}{A1 A2 A3 A4:OAd}{n1 c1 n2 c2 n3 c3 n4 c4:Nat}{p:aU}(h:PrI w A1 A2 A3 A4 n1 c1 n2 c2 n3 c3 n4 c4 p)(hb:Below w.heap.size w w'):PrI w' A1 A2 A3 A4 n1 c1 n2 c2 n3 c3 n4 c4 p :=
 ⟨h.i1.keep hb,h.i2.keep hb,h.i3.keep hb,Sl.keep vF.kept h.i4 hb⟩
open Go.Maps
def q7 {α:Type}(k:TypeId)(ok:α→Prop)(kk:α→Lit)(w:World)(b:Nat)(f:α→Int)(q:Nat):Prop :=
 ∃(D:DataW Unit) (n:Nat),w.ownsMap Tryz.prog k (plainElem Tryz.prog 3) b n D∧n≤q∧∀x,ok x→D.atKey (kk x) (.lit (.int .i64 0))=.lit (.int .i64 (f x))
theorem RJ (w:World):(zeroValue 3).run Tryz.prog w=.ok (.int .i64 0) w:=by kernel_rfl
section
variable {α:Type} {k:TypeId} {ok:α→Prop} {kv:α→Value} {kk:α→Lit} {w w':World} {b q:Nat} {f:α→Int}
theorem q7.made (k:TypeId)(ok:α→Prop)(kk:α→Lit)(w:World):q7 k ok kk (w.alloc (.map #[] 0)) w.heap.size (fun _=>0) 0:=⟨.map [],0,World.ownsMap_made _ _ _ _,Nat.le_refl _,fun _ _=>rfl⟩
theorem q7.of_block (h:q7 k ok kk w b f q)(hb:w'.heap[b]?=w.heap[b]?):q7 k ok kk w' b f q:=by
 obtain⟨D,n,h1,h2⟩:=h;exact⟨D,n,pM h1 hb,h2⟩
theorem q7.lt (h:q7 k ok kk w b f q):b<w.heap.size:=by
 obtain⟨D,n,h1,_⟩:=h;exact h1.lt
theorem q7.keep (h:q7 k ok kk w b f q)(hb:Below w.heap.size w w'):q7 k ok kk w' b f q:=h.of_block (hb.block b h.lt)
theorem q7.beside {row:Option Nat}(h:q7 k ok kk w b f q)(hg:w.grownBy w' row)(hne:some b≠row):q7 k ok kk w' b f q:=h.of_block (hg.block b h.lt hne)
theorem q7.mono {q':Nat}(h:q7 k ok kk w b f q)(hq:q≤q'):q7 k ok kk w b f q':=by
 obtain⟨D,n,h1,h2,h3⟩:=h;exact⟨D,n,h1,Nat.le_trans h2 hq,h3⟩
theorem q7.same {f':α→Int}(h:q7 k ok kk w b f q)(e:∀x,ok x→f' x=f x):q7 k ok kk w b f' q:=by
 obtain⟨D,n,h1,h2,h3⟩:=h;exact⟨D,n,h1,h2,fun x hx=>by rw[e x hx];exact h3 x hx⟩
theorem q7.look (K:UY k ok kv kk){t:TypeId}(ht:Tryz.prog.underlying t=some (.map k 3))(h:q7 k ok kk w b f q){x:α}(hx:ok x):(Instr.lookup t (.map (some b)) (kv x) false).run Tryz.prog w=.ok (.int .i64 (f x)) w:=by
 obtain⟨D,n,h1,h2,h3⟩:=h;obtain⟨c,iW,hat,_⟩:=h1.lookup_int K.law ht Tryz.underlying3 (RJ w) (K.key x hx);rw[h3 x hx]at hat;simp only[DataW.lit.injEq,Lit.int.injEq,true_and]at hat;rw[iW,←hat]
theorem q7.update [DecidableEq α] (K:UY k ok kv kk){t:TypeId}(ht:Tryz.prog.underlying t=some (.map k 3))(h:q7 k ok kk w b f q){x:α}(hx:ok x)(y:Int)(hy:(Lit.int .i64 y).wf=true)(hq:q<maxLen) :
  ∃w',(Instr.mapUpdate t (.map (some b)) (kv x) (.int .i64 y)).run Tryz.prog w=.ok () w'∧q7 k ok kk w' b (fun z=>if z=x then y else f z) (q+1)∧w.grownBy w' (some b):=by
 obtain⟨D,n,h1,h2,h3⟩:=h;obtain⟨w',r1,r2,r3⟩:=h1.update K.law ht (by omega) (K.key x hx) (plainElem_int Tryz.underlying3 hy);refine⟨w',r1,⟨_,n+1,r2,by omega,fun z hz=>?_⟩,r3⟩;by_cases e:z=x
 ·subst e;rw[Maps.atKey_put_same (h1.tidy K.law).isMap (K.law.key (K.key z hz))];simp
 ·rw[Maps.atKey_put_other (fun e'=>e (K.back z x hz hx e')),h3 z hz];simp[e]
end
abbrev Ui (w:World)(b:Nat)(f:Int×Int→Int)(q:Nat):Prop:=q7 240 okP kkP w b f q
theorem Ui.look {w:World}{b q:Nat}{f:Int×Int→Int}(h:Ui w b f q){x y:Int}(hx:okI x)(hy:okI y):(Instr.lookup 278 (.map (some b)) (.agg #[.int .i64 x,.int .i64 y]) false).run Tryz.prog w=.ok (.int .i64 (f (x,y))) w:=q7.look Ox Tryz.underlying278 h (x:=(x,y)) ⟨hx,hy⟩
theorem Ui.one {w:World}{b q:Nat}{f:Int×Int→Int}(h:Ui w b f q){x y:Int}(hx:okI x)(hy:okI y)(hq:q<maxLen) :
  ∃w',(Instr.mapUpdate 278 (.map (some b)) (.agg #[.int .i64 x,.int .i64 y]) (.int .i64 1)).run Tryz.prog w=.ok () w'∧Ui w' b (fun z=>if z=(x,y)then 1 else f z) (q+1)∧w.grownBy w' (some b):=q7.update Ox Tryz.underlying278 h (x:=(x,y)) ⟨hx,hy⟩ 1 (by decide) hq
theorem RL (a b c d:Int)(w:World):(binOp .eql 240 (.agg #[.int .i64 a,.int .i64 b]) (.agg #[.int .i64 c,.int .i64 d])).run Tryz.prog w=.ok (.bool (decide ((a,b)=(c,d)))) w:=by
 obtain⟨i,hi⟩:=info_of_underlying (P:=Tryz.prog) (t:=3) Tryz.underlying3;have hc:Tryz.prog.cellsOf 3=1:=by kernel_rfl
 rw[run_eql_struct,run_equalIn_array w 9999 _ _ U7 hi,hc];have e:decide ((a,b)=(c,d))=(a==c&&b==d):=by
  by_cases h1:a=c <;> by_cases h2:b=d <;> simp[h1,h2]
 rw[e];by_cases h1:a=c <;> by_cases h2:b=d <;> simp[Op.eqItems,List.range_succ,part,isAgg,run_underlying Tryz.underlying3,run_equalIn_int w 9998 3 .i64 .i64 _ _ Tryz.underlying3,h1,h2]
theorem vL {w:World}{A:OAd}{n c:Nat}{xs:List (Int×Int)}(x y:Int)(h:wT w A n c xs) :
  Calls Tryz.prog 187 #[.slice A n c,.agg #[.int .i64 x,.int .i64 y]] w fun e w'=>e=.returned (.int .i64 (cC (fun q=>decide ((x,y)=q)) xs))∧Below w.heap.size w w':=by
 have hn:=h.small;have hgd:=Ph;have B0:=aA (aB w (.cells #[.int .i64 x,.int .i64 y] 240));have X0:=aA (Box.new w #[.int .i64 x,.int .i64 y] 240);have H:=aA h;clear h;go_enter Tryz.func187,Tryz.ntmps187
 go_upto_region 1 with fail
 generalize w.alloc (.cells #[.int .i64 x,.int .i64 y] 240)=w0 at *
 go_wp2
 go_loopw [8] (fun i wr=>∃k:Nat,k≤n∧i=.int .i64 k∧Hid (∀j,j<k→∀y',xs[j]?=some y'→decide ((x,y)=y')=false)∧Hid (Below w0.heap.size w0 wr)) (fun i _=>n-(intOf i).toNat)
 case atStart=>exact⟨0,Nat.zero_le _,rfl,fun j hj=>absurd hj (by omega),aA (Below.refl _ _)⟩
 case round =>
  obtain⟨k,hk,rfl,lo,D⟩:=hrel;have DW:=aA (B0.o.trans (D.o.mono B0.o.size));by_cases hlt:k<n
  ·have hki:(k:Int)<(n:Int):=by omega
   obtain⟨b,off,t,vs,rfl,hb,ht,hc,e0,e1⟩:=Sl.get (Sl.keep vF.kept H.o DW.o) hlt;have q0:wr.cell? ⟨b,off+k*2,none⟩=some (.int .i64 t.1):=by have:=hc 0 (by omega);rw[e0]at this;simpa using this
   have q1:wr.cell? ⟨b,off+k*2+1,none⟩=some (.int .i64 t.2):=by have:=hc 1 (by omega);rw[e1]at this;simpa [Nat.add_assoc] using this
   have x0:=(D.o.cell (p:=⟨w.heap.size,0,none⟩) X0.o.lt).trans (X0.o.cell 0);have x1:=(D.o.cell (p:=⟨w.heap.size,1,none⟩) X0.o.lt).trans (X0.o.cell 1);have HT:=aA ht;obtain⟨v,hv⟩:∃v,decide ((x,y)=t)=v:=⟨_,rfl⟩;have HV:=aA hv;have hne:∀w:World,(binOp .eql 240 (.agg #[.int .i64 x,.int .i64 y]) (.agg #[.int .i64 t.1,.int .i64 t.2])).run Tryz.prog w=.ok (.bool v) w:=fun w=>by rw[RL,←hv]
   clear hc e0 e1 ht hv;cases v
   ·go_wp2
    go_quiet (fail)
    go_wp2
    go_roundw
    case rel =>
     refine⟨k+1,by omega,by go_num,fun j hj z hz=>?_,aA (D.o.trans ((show Below wr.heap.size wr (wr.drewN nq)from⟨rfl,rfl,rfl,Nat.le_refl _,fun _ _=>rfl⟩).mono D.o.size))⟩;by_cases hjk:j=k
     ·subst hjk;have:=HT.o;rw[hz]at this;injection this with this;rw[this];exact HV.o
     ·exact lo.o j (by omega) z hz
    case measure=>simp[intOf];omega
   ·go_wp2
    go_quiet (fail)
    go_wp2
    go_ret
    exact⟨aT (cJ lo.o HT.o HV.o).symm,DW.o.trans ((show Below wr.heap.size wr (wr.drewN nq)from⟨rfl,rfl,rfl,Nat.le_refl _,fun _ _=>rfl⟩).mono DW.o.size)⟩
  ·go_wp2
   go_ret
   exact⟨aT (cL (fun j hj z hz=>lo.o j (by have:=H.o.len;omega) z hz)).symm,DW.o⟩
theorem qP {w:World}{A:OAd}{n c:Nat}{xs:List (Int×Int)}(x y:Int)(h:wT w A n c xs) :
  Calls Tryz.prog 138 #[.slice A n c,.agg #[.int .i64 x,.int .i64 y]] w fun e w'=>e=.returned (.bool (xs.any fun q=>decide ((x,y)=q)))∧Below w.heap.size w w':=by
 have B0:=aA (aB w (.cells #[.int .i64 x,.int .i64 y] 240));have X0:=aA (Box.new w #[.int .i64 x,.int .i64 y] 240);have H:=aA (Sl.keep vF.kept h B0.o);clear h;go_enter Tryz.func138,Tryz.ntmps138
 go_upto_region 1 with fail
 generalize w.alloc (.cells #[.int .i64 x,.int .i64 y] 240)=w0 at *
 have x0:=X0.o.cell 0;have x1:=X0.o.cell 1;go_wp2_with (refine(vL x y H.o).mono ?_;rintro e w' ⟨rfl,hb⟩;have HB:=aA hb;clear hb)
 go_ret
 exact⟨aY (gW _ _),B0.o.trans (HB.o.mono B0.o.size)⟩
structure IP (w:World)(A A1 A2 A3 A4:OAd)(n c n1 c1 n2 c2 n3 c3 n4 c4:Nat)(log:LLi)(p:aU):Prop where
 il:bT w A n c log
 ip:PrI w A1 A2 A3 A4 n1 c1 n2 c2 n3 c3 n4 c4 p
theorem IP.keep {w w':World}{A A1 A2 A3 A4:OAd}{n c n1 c1 n2 c2 n3 c3 n4 c4:Nat}{log:LLi}{p:aU}(h:IP w A A1 A2 A3 A4 n c n1 c1 n2 c2 n3 c3 n4 c4 log p)(hb:Below w.heap.size w w'):IP w' A A1 A2 A3 A4 n c n1 c1 n2 c2 n3 c3 n4 c4 log p :=
 ⟨Sl.keep bH.kept h.il hb,h.ip.keep hb⟩
abbrev vM (A A1 A2 A3 A4:OAd)(n c n1 c1 n2 c2 n3 c3 n4 c4:Nat):Value:=.agg #[.slice A n c,.slice A1 n1 c1,.slice A2 n2 c2,.slice A3 n3 c3,.slice A4 n4 c4]
section
variable {w:World} {A A1 A2 A3 A4:OAd} {n c n1 c1 n2 c2 n3 c3 n4 c4:Nat} {log:LLi} {p:aU}
theorem mY (a b:Int)(h:IP w A A1 A2 A3 A4 n c n1 c1 n2 c2 n3 c3 n4 c4 log p) :
  Calls Tryz.prog 168 #[vM A A1 A2 A3 A4 n c n1 c1 n2 c2 n3 c3 n4 c4,.int .i64 a,.int .i64 b] w fun e w'=>e=.returned (.bool (bhB p a b))∧Below w.heap.size w w':=by
 have B0:=aA (aB w (.cells #[.slice A n c,.slice A1 n1 c1,.slice A2 n2 c2,.slice A3 n3 c3,.slice A4 n4 c4] 222));have X0:=aA (Box.new w #[.slice A n c,.slice A1 n1 c1,.slice A2 n2 c2,.slice A3 n3 c3,.slice A4 n4 c4] 222);have H:=aA (h.keep B0.o);clear h;go_enter Tryz.func168,Tryz.ntmps168
 go_upto_region 1 with fail
 generalize w.alloc (.cells #[.slice A n c,.slice A1 n1 c1,.slice A2 n2 c2,.slice A3 n3 c3,.slice A4 n4 c4] 222)=w0 at *
 have x4:=X0.o.cell 4;go_wp2_with (refine(qP a b H.o.ip.i4).mono ?_;rintro e w' ⟨rfl,hb⟩;have HB:=aA hb;clear hb)
 go_ret
 exact⟨rfl,B0.o.trans (HB.o.mono B0.o.size)⟩
end
abbrev Dw (w:World)(b:Nat)(S:Int→Int→Bool)(q:Nat):Prop:=Ui w b (fun z=>if S z.1 z.2=true then 1 else 0) q
theorem Dw.look1 {w:World}{b q:Nat}{S:Int→Int→Bool}(h:Dw w b S q){x y:Int}(hx:okI x)(hy:okI y){v:Bool}(hv:S x y=v):(Instr.lookup 278 (.map (some b)) (.agg #[.int .i64 x,.int .i64 y]) false).run Tryz.prog w=.ok (.int .i64 (if v=true then 1 else 0)) w:=by
 rw[Ui.look h hx hy];simp[hv]
theorem Dw.put1 {w:World}{b q:Nat}{S:Int→Int→Bool}(h:Dw w b S q){x y:Int}(hx:okI x)(hy:okI y)(hq:q≤1000000) :
  ∃w',(Instr.mapUpdate 278 (.map (some b)) (.agg #[.int .i64 x,.int .i64 y]) (.int .i64 1)).run Tryz.prog w=.ok () w'∧Dw w' b (fun a c=>decide (a=x∧c=y)||S a c) (q+1)∧w.grownBy w' (some b):=by
 obtain⟨w',h1,h2,h3⟩:=Ui.one h hx hy (by simp only[maxLen];omega);refine⟨w',h1,h2.same (fun z _=>?_),h3⟩;by_cases e:z=(x,y)
 ·subst e;simp
 ·have:¬(z.1=x∧z.2=y):=fun h=>e (Prod.ext h.1 h.2)
  simp[this,e]
theorem U8 {S:Int→Int→Bool}{k a b:Int}(h:¬(S a k=true∧S k b=true)):x8 S (k,a,b)=S:=by
 unfold x8;exact if_neg h
theorem RO {S:Int→Int→Bool}{k a b:Int}(h:S a k=true∧S k b=true):x8 S (k,a,b)=fun x y=>decide (x=a∧y=b)||S x y:=by
 unfold x8;rw[if_pos h]
def ldB (ls:LIn)(S:Int→Int→Bool)(k a:Int)(j l:Nat):Int→Int→Bool:=((ls.take l).map fun b=>(a,b)).foldl (fun S p=>x8 S (k,p.1,p.2)) (((ls.take j).flatMap fun a=>ls.map fun b=>(a,b)).foldl (fun S p=>x8 S (k,p.1,p.2)) S)
def ldA (ls:LIn)(S:Int→Int→Bool)(k:Int)(j:Nat):Int→Int→Bool:=((ls.take j).flatMap fun a=>ls.map fun b=>(a,b)).foldl (fun S p=>x8 S (k,p.1,p.2)) S
section
variable {ls:LIn} {S:Int→Int→Bool} {k a b:Int} {j l:Nat}
theorem RP (h:ls[l]?=some b):ldB ls S k a j (l+1)=x8 (ldB ls S k a j l) (k,a,b):=by
 unfold ldB;rw[List.take_add_one,h];simp
theorem U9 (ha:ls[j]?=some a)(h:ls.length≤l):ldB ls S k a j l=ldA ls S k (j+1):=by
 unfold ldB ldA;rw[List.take_of_length_le h,List.take_add_one,ha];simp
theorem Va {K:LIn}{i:Nat}(h:ls.length≤j)(hk:K[i]?=some k):ldA ls (eU ls S (K.take i)) k j=eU ls S (K.take (i+1)):=by
 unfold ldA eU Oi;rw[List.take_of_length_le h,List.take_add_one,hk];simp
end
structure LdS (w:World)(LV:Array Value)(wr:World)(S:Int→Int→Bool)(q:Nat):Prop where
 d:Below w.heap.size w wr
 x:Box wr w.heap.size 222 LV
 y:Box wr (w.heap.size+1+1) 278 #[.map (some (w.heap.size+1))]
 m:Dw wr (w.heap.size+1) S q
theorem LdS.keep {w wr w':World}{LV:Array Value}{S:Int→Int→Bool}{q:Nat}(h:LdS w LV wr S q)(hb:Below wr.heap.size wr w'):LdS w LV w' S q :=
 ⟨h.d.trans (hb.mono h.d.size),h.x.keep hb,h.y.keep hb,h.m.keep hb⟩
theorem LdS.upd {w wr w':World}{LV:Array Value}{S S':Int→Int→Bool}{q q':Nat}(h:LdS w LV wr S q)(hm:Dw w' (w.heap.size+1) S' q')(hg:wr.grownBy w' (some (w.heap.size+1))):LdS w LV w' S' q' :=
 ⟨h.d.grown hg h.d.size (fun k hk=>by injection hk with hk;omega),h.x.grown hg (by intro e;injection e with e;omega),h.y.grown hg (by intro e;injection e with e;omega),hm⟩
theorem LdS.mono {w wr:World}{LV:Array Value}{S:Int→Int→Bool}{q q':Nat}(h:LdS w LV wr S q)(hq:q≤q'):LdS w LV wr S q':=⟨h.d,h.x,h.y,h.m.mono hq⟩
theorem LdS.like {w wr:World}{LV:Array Value}{S S':Int→Int→Bool}{q:Nat}(h:LdS w LV wr S q)(e:∀a b,S' a b=S a b):LdS w LV wr S' q:=by
 have:S'=S:=funext fun a=>funext fun b=>e a b
 rw[this];exact h
def VO (p:aU)(k:Nat)(a b:Int):Bool:=(p.behind.take k).any fun q=>decide ((a,b)=q)
theorem Pi {p:aU}{k:Nat}{x:Int×Int}(h:p.behind[k]?=some x)(a b:Int):VO p (k+1) a b=(decide (a=x.1∧b=x.2)||VO p k a b):=by
 unfold VO;rw[List.take_add_one,h,List.any_append,Bool.or_comm];congr 1
 by_cases h1:a=x.1 <;> by_cases h2:b=x.2 <;> simp[h1,h2,Prod.ext_iff]
theorem RQ {p:aU}{k:Nat}(h:p.behind.length≤k)(a b:Int):bhB p a b=VO p k a b:=by
 unfold VO bhB;rw[List.take_of_length_le h]
def Wi (p:aU)(w:World)(e:Ending)(w':World):Prop :=
 ∃b bm q,e=.returned (.func (.func 205) #[] #[.pointer (some ⟨b,0,none⟩)])∧Box w' b 278 #[.map (some bm)]∧Dw w' bm (gQ p) q∧Below w.heap.size w w'
theorem zR {w:World}{A A1 A2 A3 A4:OAd}{n c n1 c1 n2 c2 n3 c3 n4 c4:Nat}{log:LLi}{p:aU}(h:IP w A A1 A2 A3 A4 n c n1 c1 n2 c2 n3 c3 n4 c4 log p)(hl:∀a∈p.labels,okI a)(hb:∀q∈p.behind,okP q)(hn1:n1≤26)(hn4:n4≤1000) :
  Calls Tryz.prog 170 #[vM A A1 A2 A3 A4 n c n1 c1 n2 c2 n3 c3 n4 c4] w (Wi p w):=by
 have hmm:=@run_makeMap Tryz.prog;have H:=aA h;have OK:=aA (And.intro hl hb);have NN:=aA (And.intro hn1 hn4);clear h hl hb hn1 hn4;obtain⟨LV,hLV⟩:∃LV:Array Value,LV=#[.slice A n c,.slice A1 n1 c1,.slice A2 n2 c2,.slice A3 n3 c3,.slice A4 n4 c4]:=⟨_,rfl⟩;have S0:=aA (show LdS w LV (((w.alloc (.cells #[.slice A n c,.slice A1 n1 c1,.slice A2 n2 c2,.slice A3 n3 c3,.slice A4 n4 c4] 222)).alloc (.map #[] 0)).alloc (.cells #[.map (some (w.heap.size+1))] 278)) (fun _ _=>false) 0 from by
  subst hLV;refine⟨((aB w _).alloc (by simp) _).alloc (by simp;omega) _,((Box.new w _ _).old _).old _,Box.newAt (by simp) _ _, ?_⟩;have:=q7.made 240 okP kkP (w.alloc (.cells #[.slice A n c,.slice A1 n1 c1,.slice A2 n2 c2,.slice A3 n3 c3,.slice A4 n4 c4] 222));rw[show(w.alloc (.cells #[.slice A n c,.slice A1 n1 c1,.slice A2 n2 c2,.slice A3 n3 c3,.slice A4 n4 c4] 222)).heap.size=w.heap.size+1 by simp]at this;exact(this.keep (aB _ _)).same (fun _ _=>by simp))
 go_enter Tryz.func170,Tryz.ntmps170
 go_upto_region 2 with fail
 have HLV:=aA hLV;clear hmm hLV;generalize (((w.alloc (.cells #[.slice A n c,.slice A1 n1 c1,.slice A2 n2 c2,.slice A3 n3 c3,.slice A4 n4 c4] 222)).alloc (.map #[] 0)).alloc (.cells #[.map (some (w.heap.size+1))] 278))=w1 at *
 have x4:w1.cell? ⟨w.heap.size,4,none⟩=some (.slice A4 n4 c4):=(S0.o.x.cell 4).trans (by rw[HLV.o];rfl);go_wp2
 clear x4;go_loopg [17] n4 (fun gk u wr=>∃k:Nat,u=.int .i64 k∧Hid (k+gk=n4)∧Hid (LdS w LV wr (VO p k) k))
 case atStart=>exact⟨0,rfl,aA (by omega),aA (S0.o.like (fun _ _=>rfl))⟩
 case round =>
  clear S0;obtain⟨k,rfl,hgk,SS⟩:=hrel;by_cases hlt:k<n4
  ·have hki:(k:Int)<(n4:Int):=by omega
   obtain⟨b,off,t,vs,rfl,hb,ht,hc,e0,e1⟩:=Sl.get (Sl.keep vF.kept H.o.ip.i4 SS.o.d) hlt;have q0:wr.cell? ⟨b,off+k*2,none⟩=some (.int .i64 t.1):=by have:=hc 0 (by omega);rw[e0]at this;simpa using this
   have q1:wr.cell? ⟨b,off+k*2+1,none⟩=some (.int .i64 t.2):=by have:=hc 1 (by omega);rw[e1]at this;simpa [Nat.add_assoc] using this
   have HT:=aA (show p.behind[k]?=some t from ht);have HJ:=aA (show gk-1<gk∧(k+1)+(gk-1)=n4∧k≤1000 by have:=hgk.o;have:=NN.o;omega);have hwk:IntKind.i64.wrap ((k:Int)+1)=((k+1:Nat):Int):=by
    have:=HJ.o;simp[IntKind.wrap,IntKind.bits,IntKind.signed];omega
   have TB:=aA (Box.new wr #[.int .i64 t.1,.int .i64 t.2] 240);have SB:=aA (SS.o.keep (aB wr (.cells #[.int .i64 t.1,.int .i64 t.2] 240)));clear hc e0 e1 ht;go_upto_region 5 with fail
   clear q0 q1;generalize wr.alloc (.cells #[.int .i64 t.1,.int .i64 t.2] 240)=w2 at *
   generalize wr.heap.size=bx at *
   have z0:=TB.o.cell 0;have z1:=TB.o.cell 1;have y0:=SB.o.y.cell 0;obtain⟨w3,up,m3,g3⟩:=Dw.put1 SB.o.m (OK.o.2 t (List.mem_of_getElem? HT.o)).1 (OK.o.2 t (List.mem_of_getElem? HT.o)).2 (by have:=HJ.o;omega);have SN:=aA (LdS.like (SB.o.upd m3 g3) (Pi HT.o));clear m3 g3;go_wp2
   go_roundg (gk-1)
   case measure=>exact HJ.o.1
   case rel=>exact⟨k+1,rfl,aA HJ.o.2.1,SN⟩
  ·have hki:¬(k:Int)<(n4:Int):=by omega
   have SA:=aA (show LdS w LV wr (eU p.labels (bhB p) (p.labels.take 0)) n4 from(SS.o.mono (by have:=hgk.o;omega)).like (fun a b=>RQ (by rw[H.o.ip.i4.len];omega) a b));have x1:wr.cell? ⟨w.heap.size,1,none⟩=some (.slice A1 n1 c1):=(SS.o.x.cell 1).trans (by rw[HLV.o];rfl);clear SS hlt hgk;obtain⟨go,hgo⟩:∃x:Nat,x=gk:=⟨_,rfl⟩;subst hgo;go_wp2
   clear x1;go_loopg [28] n1 (fun gk u wr=>∃i:Nat,u=.int .i64 i∧Hid (i+gk=n1)∧Hid (LdS w LV wr (eU p.labels (bhB p) (p.labels.take i)) (n4+676*i)))
   case atStart=>exact⟨0,rfl,aA (by omega),SA⟩
   case round =>
    clear SA;obtain⟨i,rfl,hgk,SS⟩:=hrel;by_cases hlt:i<n1
    ·have hki:(i:Int)<(n1:Int):=by omega
     obtain⟨b1,off1,K,rfl,hb1,hK,qK⟩:=aJ.get (H.o.ip.i1.keep SS.o.d) hlt;have HJ:=aA (show gk-1<gk∧(i+1)+(gk-1)=n1∧i≤26 by have:=hgk.o;have:=NN.o;omega);have hwi:IntKind.i64.wrap ((i:Int)+1)=((i+1:Nat):Int):=by
      have:=HJ.o;simp[IntKind.wrap,IntKind.bits,IntKind.signed];omega
     have x1:wr.cell? ⟨w.heap.size,1,none⟩=some (.slice (some ⟨b1,off1,none⟩) n1 c1):=(SS.o.x.cell 1).trans (by rw[HLV.o];rfl);have SA:=aA (show LdS w LV wr (ldA p.labels (eU p.labels (bhB p) (p.labels.take i)) K 0) (n4+676*i+26*0)from SS.o);obtain⟨g1,hg1⟩:∃x:Nat,x=gk:=⟨_,rfl⟩;subst hg1;clear SS hb1;go_wp2
     clear x1 qK;go_loopg [36] n1 (fun gk u wr=>∃j:Nat,u=.int .i64 j∧Hid (j+gk=n1)∧Hid (LdS w LV wr (ldA p.labels (eU p.labels (bhB p) (p.labels.take i)) K j) (n4+676*i+26*j)))
     case atStart=>exact⟨0,rfl,aA (by omega),SA⟩
     case round =>
      clear SA;obtain⟨j,rfl,hgk2,SS⟩:=hrel;by_cases hlt2:j<n1
      ·have hkj:(j:Int)<(n1:Int):=by omega
       obtain⟨b2,off2,a,e2,hb2,ha,qA⟩:=aJ.get (H.o.ip.i1.keep SS.o.d) hlt2;injection e2 with e2;injection e2 with e21 e22;subst e21 e22;have HJ2:=aA (show gk-1<gk∧(j+1)+(gk-1)=n1∧j≤26 by have:=hgk2.o;have:=NN.o;omega);have hwj:IntKind.i64.wrap ((j:Int)+1)=((j+1:Nat):Int):=by
        have:=HJ2.o;simp[IntKind.wrap,IntKind.bits,IntKind.signed];omega
       have x1:wr.cell? ⟨w.heap.size,1,none⟩=some (.slice (some ⟨b1,off1,none⟩) n1 c1):=(SS.o.x.cell 1).trans (by rw[HLV.o];rfl);have SA:=aA (show LdS w LV wr (ldB p.labels (eU p.labels (bhB p) (p.labels.take i)) K a j 0) (n4+676*i+26*j+0)from SS.o);obtain⟨g2,hg2⟩:∃x:Nat,x=gk:=⟨_,rfl⟩;subst hg2;clear SS hb2;go_wp2
       clear x1 qA;go_loopg [44] n1 (fun gk u wr=>∃l:Nat,u=.int .i64 l∧Hid (l+gk=n1)∧Hid (LdS w LV wr (ldB p.labels (eU p.labels (bhB p) (p.labels.take i)) K a j l) (n4+676*i+26*j+l)))
       case atStart=>exact⟨0,rfl,aA (by omega),SA⟩
       case round =>
        clear SA;obtain⟨l,rfl,hgk3,SS⟩:=hrel;by_cases hlt3:l<n1
        ·have hkl:(l:Int)<(n1:Int):=by omega
         obtain⟨b3,off3,b,e3,hb3,hB,qB⟩:=aJ.get (H.o.ip.i1.keep SS.o.d) hlt3;injection e3 with e3;injection e3 with e31 e32;subst e31 e32;have HJ3:=aA (show gk-1<gk∧(l+1)+(gk-1)=n1∧l≤26∧n4+676*i+26*j+l≤1000000 by have:=hgk3.o;have:=NN.o;have:=HJ.o;have:=HJ2.o;omega);have hwl:IntKind.i64.wrap ((l:Int)+1)=((l+1:Nat):Int):=by
          have:=HJ3.o;simp[IntKind.wrap,IntKind.bits,IntKind.signed];omega
         have y0:=SS.o.y.cell 0;have oK:=OK.o.1 K (List.mem_of_getElem? hK.out);have oA:=OK.o.1 a (List.mem_of_getElem? ha.o);have oB:=OK.o.1 b (List.mem_of_getElem? hB.o);have NX:=aA (RP (ls:=p.labels) (S:=eU p.labels (bhB p) (p.labels.take i)) (k:=K) (a:=a) (j:=j) hB.o);have skip:¬(ldB p.labels (eU p.labels (bhB p) (p.labels.take i)) K a j l a K=true∧ldB p.labels (eU p.labels (bhB p) (p.labels.take i)) K a j l K b=true)→Hid (LdS w LV wr (ldB p.labels (eU p.labels (bhB p) (p.labels.take i)) K a j (l+1)) (n4+676*i+26*j+(l+1))):=fun h=>aA (by rw[NX.o,U8 h];exact SS.o.mono (by omega))
         have SK:=aA skip;obtain⟨T,hT⟩:∃T,ldB p.labels (eU p.labels (bhB p) (p.labels.take i)) K a j l=T:=⟨_,rfl⟩;rw[hT]at SS NX SK;cases h1:T a K
         ·have SN:=SK.o (by rw[h1];exact fun h=>(nomatch h.1));have lk1:=Dw.look1 SS.o.m oA oK h1;clear oK oA oB skip hT h1 hb3;go_wp2
          go_roundg (gk-1)
          case measure=>exact HJ3.o.1
          case rel=>exact⟨l+1,rfl,aA HJ3.o.2.1,SN⟩
         ·cases h2:T K b
          ·have SN:=SK.o (by rw[h2];exact fun h=>(nomatch h.2));have lk1:=Dw.look1 SS.o.m oA oK h1;have lk2:=Dw.look1 SS.o.m oK oB h2;clear oK oA oB skip hT h1 h2 hb3;go_wp2
           go_roundg (gk-1)
           case measure=>exact HJ3.o.1
           case rel=>exact⟨l+1,rfl,aA HJ3.o.2.1,SN⟩
          ·have lk1:=Dw.look1 SS.o.m oA oK h1;have lk2:=Dw.look1 SS.o.m oK oB h2;obtain⟨w3,up,m3,g3⟩:=Dw.put1 SS.o.m oA oB HJ3.o.2.2.2;have SN:=aA (show LdS w LV w3 (ldB p.labels (eU p.labels (bhB p) (p.labels.take i)) K a j (l+1)) (n4+676*i+26*j+(l+1))from by rw[NX.o,RO ⟨h1,h2⟩];exact SS.o.upd m3 g3);clear oK oA oB skip hT h1 h2 hb3 m3 g3;go_wp2
           go_roundg (gk-1)
           case measure=>exact HJ3.o.1
           case rel=>exact⟨l+1,rfl,aA HJ3.o.2.1,SN⟩
        ·have hkl:¬(l:Int)<(n1:Int):=by omega
         have SN:=aA (show LdS w LV wr (ldA p.labels (eU p.labels (bhB p) (p.labels.take i)) K (j+1)) (n4+676*i+26*(j+1))from by
          have:=SS.o;rw[U9 ha.o (by rw[H.o.ip.i1.len];omega)]at this;exact this.mono (by have:=NN.o;have:=hgk3.o;omega))
         clear SS hlt3 hgk3;go_wp2
         go_roundg (g2-1)
         case measure=>exact HJ2.o.1
         case rel=>exact⟨j+1,rfl,aA HJ2.o.2.1,SN⟩
      ·have hkj:¬(j:Int)<(n1:Int):=by omega
       have SN:=aA (show LdS w LV wr (eU p.labels (bhB p) (p.labels.take (i+1))) (n4+676*(i+1))from by
        have:=SS.o;rw[Va (by rw[H.o.ip.i1.len];omega) hK.out]at this;exact this.mono (by have:=NN.o;have:=hgk2.o;omega))
       clear SS hlt2 hgk2;go_wp2
       go_roundg (g1-1)
       case measure=>exact HJ.o.1
       case rel=>exact⟨i+1,rfl,aA HJ.o.2.1,SN⟩
    ·have hki:¬(i:Int)<(n1:Int):=by omega
     have FIN:=aA (show LdS w LV wr (gQ p) (n4+676*i)from by
      have:=SS.o;rw[List.take_of_length_le (by rw[H.o.ip.i1.len];omega)]at this;exact this)
     clear SS hlt hgk;go_wp2
     go_ret
     exact⟨_,_,_,rfl,FIN.o.y,FIN.o.m,FIN.o.d⟩
end Go.Proofs.YtfmnagcglhlicaaGreat
