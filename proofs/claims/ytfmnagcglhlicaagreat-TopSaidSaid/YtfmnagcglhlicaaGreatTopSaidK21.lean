/- Texts melted into one: Blocks that a call makes: rows of blocks, appended to; mine's block, silent, step. Conditions: the kids are blocks of the call's own. | The contract of the reference's VOf: the walk. Conditions: the log reads as lists. | The contract of SameLists on lists of lists that read as -/
import Derived.Test.YtfmnagcglhlicaaGreatTopSaidK20
import Derived.ChangeKeysEq
set_option maxRecDepth 100000
namespace Go.Proofs.YtfmnagcglhlicaaGreat
open Go.RowKit
def ZeX (P:Nat→Prop):Nat→World→(Nat→Value)→Zat→Prop
 | 0=>fun _ _ _=>False
 | d+1=>fun w vs b=>vs 0=.int .i64 b.kind∧vs 1=.int .i64 b.label∧∃A n c,vs 2=.slice A n c∧Sl (ZeX P d) 3 w A n c b.kids∧(0<n→∀a,A=some a→P a.block)
theorem ZeX.kept (P:Nat→Prop):∀d,Zh9 (ZeX P d)
 | 0=>fun _ _ _ _ _ h=>h
 | d+1=>fun _ _ _ _ hb h=>by
  obtain⟨h0,h1,A,n,c,h2,h3,h4⟩:=h
  exact⟨h0,h1,A,n,c,h2,h3.keep (ZeX.kept P d) hb,h4⟩
theorem Sl.imp {α:Type}{R Q:World→(Nat→Value)→α→Prop}{sz:Nat}{w:World}{A:Option Addr}{n c:Nat}{xs:List α}(h:Sl R sz w A n c xs)(hq:∀vs x,R w vs x→Q w vs x):Sl Q sz w A n c xs :=
 ⟨h.len,h.le,h.cap,h.small,h.nul,fun hn=>by
  obtain⟨b,off,e,hb,hx⟩:=h.cells hn
  exact⟨b,off,e,hb,fun i x hi=>by obtain⟨vs,a,r⟩:=hx i x hi;exact⟨vs,a,hq _ _ r⟩⟩⟩
theorem ZeX.toD {P:Nat→Prop}:∀(d:Nat) {w:World} {vs:Nat→Value} {b:Zat},ZeX P d w vs b→Zsg d w vs b
 | 0,_,_,_,h=>h
 | d+1,_,_,_,h=>by
  obtain⟨h0,h1,A,n,c,h2,h3,h4⟩:=h
  exact⟨h0,h1,A,n,c,h2,h3.imp (fun _ _ r=>ZeX.toD d r)⟩
theorem ZeX.wide {P Q:Nat→Prop}{w:World}(hp:∀k,k<w.heap.size→P k→Q k):∀(d:Nat) {vs:Nat→Value} {b:Zat},ZeX P d w vs b→ZeX Q d w vs b
 | 0,_,_,h=>h
 | d+1,_,_,h=>by
  obtain⟨h0,h1,A,n,c,h2,h3,h4⟩:=h
  refine⟨h0,h1,A,n,c,h2,h3.imp (fun _ _ r=>ZeX.wide hp d r),fun hn a ha=>hp _ ?_ (h4 hn a ha)⟩
  obtain⟨b,off,e,hb,_⟩:=h3.cells hn
  rw[e]at ha
  injection ha with ha
  rw[←ha]
  exact hb
theorem Sl.far {α:Type}{R Q:World→(Nat→Value)→α→Prop}{sz:Nat}{w w':World}{A:Option Addr}{n c:Nat}{xs:List α}(h:Sl R sz w A n c xs)(hs:w.heap.size≤w'.heap.size)(hb:0<n→∀a,A=some a→w'.heap[a.block]?=w.heap[a.block]?)(hq:∀vs x,R w vs x→Q w' vs x):Sl Q sz w' A n c xs :=
 ⟨h.len,h.le,h.cap,h.small,h.nul,fun hn=>by
  obtain⟨b,off,e,hbl,hx⟩:=h.cells hn
  exact⟨b,off,e,Nat.lt_of_lt_of_le hbl hs,fun i x hi=>by
   obtain⟨vs,a,r⟩:=hx i x hi
   refine⟨vs,fun j hj=>?_,hq _ _ r⟩
   rw[←a j hj]
   have:=hb hn _ e
   simp only[World.cell?]
   rw[this]⟩⟩
theorem ZeX.grown {P:Nat→Prop}{w w':World}{row:Option Nat}(hg:w.grownBy w' row)(hne:∀k,row=some k→¬P k):∀(d:Nat) {vs:Nat→Value} {b:Zat},ZeX P d w vs b→ZeX P d w' vs b
 | 0,_,_,h=>h
 | d+1,_,_,h=>by
  obtain⟨h0,h1,A,n,c,h2,h3,h4⟩:=h
  refine⟨h0,h1,A,n,c,h2,h3.far hg.size (fun hn a ha=>?_) (fun _ _ r=>ZeX.grown hg hne d r),h4⟩
  obtain⟨b,off,e,hb,_⟩:=h3.cells hn
  have hp:=h4 hn a ha
  rw[e]at ha
  injection ha with ha
  subst ha
  exact hg.block b hb (fun e=>hne b e.symm hp)
def Zb6 (P:Nat→Prop)(d:Nat)(w:World)(v:Value)(T:Zat):Prop:=∃A n c,v=.agg #[.int .i64 T.kind,.int .i64 T.label,.slice A n c]∧Sl (ZeX P d) 3 w A n c T.kids∧(0<n→∀a,A=some a→P a.block)
def ZdE (d:Nat)(T:Zat)(w:World)(e:Ending)(w':World):Prop:=∃v,e=.returned v∧Zb6 (fun k=>w.heap.size≤k) d w' v T∧Below w.heap.size w w'
def vs3 (a b c:Value):Nat→Value
 | 0=>a
 | 1=>b
 | _=>c
theorem Zb6.keep {P:Nat→Prop}{d:Nat}{w w':World}{v:Value}{T:Zat}(h:Zb6 P d w v T)(hb:Below w.heap.size w w'):Zb6 P d w' v T:=by
 obtain⟨A,n,c,e,s,p⟩:=h
 exact⟨A,n,c,e,s.keep (ZeX.kept P d) hb,p⟩
theorem Zb6.wide {P Q:Nat→Prop}{d:Nat}{w:World}{v:Value}{T:Zat}(hp:∀k,k<w.heap.size→P k→Q k)(h:Zb6 P d w v T):Zb6 Q d w v T:=by
 obtain⟨A,n,c,e,s,p⟩:=h
 refine⟨A,n,c,e,s.imp (fun _ _ r=>r.wide hp d),fun hn a ha=>hp _ ?_ (p hn a ha)⟩
 obtain⟨b,off,e,hb,_⟩:=s.cells hn
 rw[e]at ha
 injection ha with ha
 rw[←ha]
 exact hb
theorem Zb6.grown {P:Nat→Prop}{d:Nat}{w w':World}{v:Value}{T:Zat}{row:Option Nat}(hg:w.grownBy w' row)(hne:∀k,row=some k→¬P k)(h:Zb6 P d w v T):Zb6 P d w' v T:=by
 obtain⟨A,n,c,e,s,p⟩:=h
 have q:ZeX P (d+1) w (vs3 (.int .i64 T.kind) (.int .i64 T.label) (.slice A n c)) T:=⟨rfl,rfl,A,n,c,rfl,s,p⟩
 obtain⟨_,_,A2,n2,c2,e2,s2,p2⟩:=q.grown hg hne
 injection e2 with e21 e22 e23
 subst e21 e22 e23
 exact⟨A,n,c,e,s2,p2⟩
theorem Ztc:ZeM 69 71 3 40:=ZeM.mk' (z:=.agg #[.int .i64 0,.int .i64 0,.slice none 0 0]) Tryz.underlying69 (by kernel_rfl) rfl (by decide)
theorem Zax.blk {P:Nat→Prop}{d:Nat}{w:World}{A:Option Addr}{n c:Nat}{T:Zat}{kd lb:Int}(hk:kd=T.kind)(hl:lb=T.label)(s:Sl (ZeX P d) 3 w A n c T.kids)(p:0<n→∀a,A=some a→P a.block):Zax (ZeX P (d+1)) 3 w [.int .i64 kd,.int .i64 lb,.slice A n c] [T] :=
 Zax.one (vs:=vs3 (.int .i64 kd) (.int .i64 lb) (.slice A n c)) ⟨by rw[←hk];rfl,by rw[←hl];rfl,A,n,c,rfl,s,p⟩ rfl (fun j hj=>by
  match j,hj with
  | 0,_=>rfl
  | 1,_=>rfl
  | 2,_=>rfl)
abbrev Zdf (w:World)(B d:Nat)(v:Value)(n:Nat)(ks:List Zat):Prop:=Zad (ZeX (fun k=>B≤k∧v.ownBlock≠some k) d) 3 w B 71 v n ks
theorem Zdf.keep {w w':World}{B d n:Nat}{v:Value}{ks:List Zat}(h:Zdf w B d v n ks)(hb:Below w.heap.size w w'):Zdf w' B d v n ks:=Zad.keep (ZeX.kept _ d) h hb
theorem Zad.imp {α:Type}{R Q:World→(Nat→Value)→α→Prop}{sz B e:Nat}{w:World}{v:Value}{n:Nat}{xs:List α}(h:Zad R sz w B e v n xs)(hq:∀vs x,R w vs x→Q w vs x):Zad Q sz w B e v n xs:=by
 obtain⟨cells,h1,h2,h3⟩:=h
 exact⟨cells,h1,⟨h2.1,fun i x hx=>by obtain⟨vs,a,b⟩:=h2.2 i x hx;exact⟨vs,a,hq _ _ b⟩⟩,h3⟩
theorem ZdV {ops:Array Oper} {rest:List Oper} {o:Oper} {a:Act} {Q:Exit→Act→World→Prop} (hgd:o.guard=none) (s x:Operand)
  (ho:o.op=.call {callee:=.builtin .append,args:=#[s,x],argTypes:=#[69,69]})
  {w:World} {B d n H m c:Nat} {v:Value} {ks:List Zat} {A:Option Addr} {T:Zat} {kd lb:Int} (hs:a.eval s=v) (hx:a.eval x=.slice (some ⟨H,0,none⟩) 1 1) (hH:H=w.heap.size)
  (own:Zdf w B (d+1) v n ks) (hk:kd=T.kind) (hl:lb=T.label) (t:Sl (ZeX (fun k=>B≤k∧v.ownBlock≠some k) d) 3 w A m c T.kids) (p:0<m→∀a,A=some a→B≤a.block∧v.ownBlock≠some a.block) (hB:B≤w.heap.size) (hn:n≤100)
  (K:∀v' w',Zdf w' B (d+1) v' (n+1) (ks++[T])→w.grownBy w' v.ownBlock→wpList Tryz.prog ops Q rest (a.put o.dst v') w') :
  wpList Tryz.prog ops Q (o::rest) a (w.alloc (.cells #[.int .i64 kd,.int .i64 lb,.slice A m c] 71)):=by
 have hlt:∀k,k<w.heap.size→(B≤k∧v.ownBlock≠some k)→(k<w.heap.size∧B≤k∧v.ownBlock≠some k):=fun k hk hp=>⟨hk,hp⟩
 have rd:Zax (ZeX (fun k=>k<w.heap.size∧B≤k∧v.ownBlock≠some k) (d+1)) 3 w [.int .i64 kd,.int .i64 lb,.slice A m c] [T]:=Zax.blk hk hl (t.imp (fun _ _ r=>r.wide hlt d)) (fun hn a ha=>by
  obtain⟨b,off,e,hb,_⟩:=t.cells hn
  have:=p hn a ha
  rw[e]at ha
  injection ha with ha
  subst ha
  exact⟨hb,this⟩)
 refine Zcg (v:=v) Ztc hgd s x ho [T] #[.int .i64 kd,.int .i64 lb,.slice A m c] hs hx hH rfl (by simp[Value.oneCell']) (own.imp (fun _ _ r=>r.wide hlt (d+1))) rd rfl hB (by omega) (by omega) (fun w' hg vs y hy=>hy.grown hg (fun k hk hp=>hp.2.2 hk) (d+1)) (fun v' w' o1 o2 o3=>K v' w' (o1.imp (fun _ _ r=>r.wide (fun k _ hp=>⟨hp.2.1, ?_⟩) (d+1))) o2)
 rcases o3 with e|e
 ·rw[e];exact hp.2.2
 ·rw[e];intro e2;injection e2 with e2;omega
theorem Zdg (w:World)(d:Nat):Calls Tryz.prog 124 #[] w (ZdE d Zaq w):=by
 have B0:=Zaa (Zab w (.cells #[.int .i64 1,.int .i64 0,.slice none 0 0] 71))
 go_enter Tryz.func124,Tryz.ntmps124
 go_wp2
 have X0:=Zaa (Box.new w #[.int .i64 1,.int .i64 0,.slice none 0 0] 71)
 generalize w.alloc (.cells #[.int .i64 1,.int .i64 0,.slice none 0 0] 71)=w1 at *
 obtain⟨z0,z1,z2⟩:=X0.out.three
 exact bodyPost_ret (v:=.agg #[.int .i64 1,.int .i64 0,.slice none 0 0]) (by simp[results,Tryz.results124,go_sem,z0,z1,z2]) rfl ⟨_,rfl,⟨none,0,0,rfl,Sl.nil0,fun h=>absurd h (by omega)⟩,B0.out⟩
theorem ZiH (w:World)(d:Nat)(a:Int):Calls Tryz.prog 127 #[.int .i64 a] w (ZdE d (ZaN a) w):=by
 have B0:=Zaa (Zab w (.cells #[.int .i64 2,.int .i64 a,.slice none 0 0] 71))
 go_enter Tryz.func127,Tryz.ntmps127
 go_wp2
 have X0:=Zaa (Box.new w #[.int .i64 2,.int .i64 a,.slice none 0 0] 71)
 generalize w.alloc (.cells #[.int .i64 2,.int .i64 a,.slice none 0 0] 71)=w1 at *
 obtain⟨z0,z1,z2⟩:=X0.out.three
 exact bodyPost_ret (v:=.agg #[.int .i64 2,.int .i64 a,.slice none 0 0]) (by simp[results,Tryz.results127,go_sem,z0,z1,z2]) rfl ⟨_,rfl,⟨none,0,0,rfl,Sl.nil0,fun h=>absurd h (by omega)⟩,B0.out⟩
theorem Zcr {w0 w:World}{d n c:Nat}{A:Option Addr}{ks:List Zat}(kd:Int)(h:Sl (ZeX (fun k=>w0.heap.size≤k) d) 3 w A n c ks)(hp:0<n→∀a,A=some a→w0.heap.size≤a.block)(hb:Below w0.heap.size w0 w):Calls Tryz.prog 125 #[.int .i64 kd,.slice A n c] w fun e w'=>ZdE d (.mk kd 0 ks) w0 e w'∧Below w.heap.size w w':=by
 have B0:=Zaa (Zab w (.cells #[.int .i64 kd,.int .i64 0,.slice A n c] 71))
 have BB:=Zaa hb
 have PP:=Zaa hp
 have H:=Zaa (h.keep (ZeX.kept _ d) B0.out)
 clear h hp hb
 go_enter Tryz.func125,Tryz.ntmps125
 go_wp2
 have X0:=Zaa (Box.new w #[.int .i64 kd,.int .i64 0,.slice A n c] 71)
 generalize w.alloc (.cells #[.int .i64 kd,.int .i64 0,.slice A n c] 71)=w1 at *
 obtain⟨z0,z1,z2⟩:=X0.out.three
 exact bodyPost_ret (v:=.agg #[.int .i64 kd,.int .i64 0,.slice A n c]) (by simp[results,Tryz.results125,go_sem,z0,z1,z2]) rfl ⟨⟨_,rfl,⟨A,n,c,rfl,H.out,PP.out⟩,BB.out.trans (B0.out.mono BB.out.size)⟩,B0.out⟩
theorem Zsl:Tryz.prog.underlying 240=some (.array 2 3):=by kernel_rfl
theorem Zo3:Tryz.prog.eqGuardType Tryz.prog.depth 240=false:=by kernel_rfl
structure PrI (w:World)(A1 A2 A3 A4:Option Addr)(n1 c1 n2 c2 n3 c3 n4 c4:Nat)(p:Zas):Prop where
 i1:Zam w A1 n1 c1 p.labels
 i2:Zam w A2 n2 c2 p.first
 i3:Zam w A3 n3 c3 p.last
 i4:Zii w A4 n4 c4 p.behind
theorem PrI.keep {w w':World}{A1 A2 A3 A4:Option Addr}{n1 c1 n2 c2 n3 c3 n4 c4:Nat}{p:Zas}(h:PrI w A1 A2 A3 A4 n1 c1 n2 c2 n3 c3 n4 c4 p)(hb:Below w.heap.size w w'):PrI w' A1 A2 A3 A4 n1 c1 n2 c2 n3 c3 n4 c4 p :=
 ⟨h.i1.keep hb,h.i2.keep hb,h.i3.keep hb,Sl.keep Zhy.kept h.i4 hb⟩
theorem Box.four {w:World}{b ty:Nat}{u0 u1 u2 u3:Value}(h:Box w b ty #[u0,u1,u2,u3]):w.cell? ⟨b,0,none⟩=some u0∧w.cell? ⟨b,1,none⟩=some u1∧w.cell? ⟨b,2,none⟩=some u2∧w.cell? ⟨b,3,none⟩=some u3:=⟨h.cell 0,h.cell 1,h.cell 2,h.cell 3⟩
end Go.Proofs.YtfmnagcglhlicaaGreat
namespace Go.Proofs.YtfmnagcglhlicaaGreat
open Go.RowKit Go.Maps
def ZfT {α:Type}(k:TypeId)(ok:α→Prop)(kk:α→Lit)(w:World)(b:Nat)(f:α→Int)(q:Nat):Prop :=
 ∃(D:DataW Unit) (n:Nat),w.ownsMap Tryz.prog k (plainElem Tryz.prog 3) b n D∧n≤q∧∀x,ok x→D.atKey (kk x) (.lit (.int .i64 0))=.lit (.int .i64 (f x))
theorem ZqL (w:World):(zeroValue 3).run Tryz.prog w=.ok (.int .i64 0) w:=by kernel_rfl
section
variable {α:Type} {k:TypeId} {ok:α→Prop} {kv:α→Value} {kk:α→Lit} {w w':World} {b q:Nat} {f:α→Int}
theorem ZfT.made (k:TypeId)(ok:α→Prop)(kk:α→Lit)(w:World):ZfT k ok kk (w.alloc (.map #[] 0)) w.heap.size (fun _=>0) 0:=⟨.map [],0,World.ownsMap_made _ _ _ _,Nat.le_refl _,fun _ _=>rfl⟩
theorem ZfT.of_block (h:ZfT k ok kk w b f q)(hb:w'.heap[b]?=w.heap[b]?):ZfT k ok kk w' b f q:=by
 obtain⟨D,n,h1,h2⟩:=h
 exact⟨D,n,Zfa h1 hb,h2⟩
theorem ZfT.lt (h:ZfT k ok kk w b f q):b<w.heap.size:=by
 obtain⟨D,n,h1,_⟩:=h
 exact h1.lt
theorem ZfT.keep (h:ZfT k ok kk w b f q)(hb:Below w.heap.size w w'):ZfT k ok kk w' b f q:=h.of_block (hb.block b h.lt)
theorem ZfT.beside {row:Option Nat}(h:ZfT k ok kk w b f q)(hg:w.grownBy w' row)(hne:some b≠row):ZfT k ok kk w' b f q:=h.of_block (hg.block b h.lt hne)
theorem ZfT.mono {q':Nat}(h:ZfT k ok kk w b f q)(hq:q≤q'):ZfT k ok kk w b f q':=by
 obtain⟨D,n,h1,h2,h3⟩:=h
 exact⟨D,n,h1,Nat.le_trans h2 hq,h3⟩
theorem ZfT.same {f':α→Int}(h:ZfT k ok kk w b f q)(e:∀x,ok x→f' x=f x):ZfT k ok kk w b f' q:=by
 obtain⟨D,n,h1,h2,h3⟩:=h
 exact⟨D,n,h1,h2,fun x hx=>by rw[e x hx];exact h3 x hx⟩
theorem ZfT.look (K:Zsh k ok kv kk){t:TypeId}(ht:Tryz.prog.underlying t=some (.map k 3))(h:ZfT k ok kk w b f q){x:α}(hx:ok x):(Instr.lookup t (.map (some b)) (kv x) false).run Tryz.prog w=.ok (.int .i64 (f x)) w:=by
 obtain⟨D,n,h1,h2,h3⟩:=h
 obtain⟨c,hrun,hat,_⟩:=h1.lookup_int K.law ht Tryz.underlying3 (ZqL w) (K.key x hx)
 rw[h3 x hx]at hat
 simp only[DataW.lit.injEq,Lit.int.injEq,true_and]at hat
 rw[hrun,←hat]
theorem ZfT.update [DecidableEq α] (K:Zsh k ok kv kk){t:TypeId}(ht:Tryz.prog.underlying t=some (.map k 3))(h:ZfT k ok kk w b f q){x:α}(hx:ok x)(y:Int)(hy:(Lit.int .i64 y).wf=true)(hq:q<maxLen) :
  ∃w',(Instr.mapUpdate t (.map (some b)) (kv x) (.int .i64 y)).run Tryz.prog w=.ok () w'∧ZfT k ok kk w' b (fun z=>if z=x then y else f z) (q+1)∧w.grownBy w' (some b):=by
 obtain⟨D,n,h1,h2,h3⟩:=h
 obtain⟨w',r1,r2,r3⟩:=h1.update K.law ht (by omega) (K.key x hx) (plainElem_int Tryz.underlying3 hy)
 refine⟨w',r1,⟨_,n+1,r2,by omega,fun z hz=>?_⟩,r3⟩
 by_cases e:z=x
 ·subst e
  rw[Maps.atKey_put_same (h1.tidy K.law).isMap (K.law.key (K.key z hz))]
  simp
 ·rw[Maps.atKey_put_other (fun e'=>e (K.back z x hz hx e')),h3 z hz]
  simp[e]
end
abbrev ZrT (w:World)(b:Nat)(f:Int×Int→Int)(q:Nat):Prop:=ZfT 240 okP kkP w b f q
theorem ZrT.look {w:World}{b q:Nat}{f:Int×Int→Int}(h:ZrT w b f q){x y:Int}(hx:okI x)(hy:okI y):(Instr.lookup 278 (.map (some b)) (.agg #[.int .i64 x,.int .i64 y]) false).run Tryz.prog w=.ok (.int .i64 (f (x,y))) w:=ZfT.look ZoS Tryz.underlying278 h (x:=(x,y)) ⟨hx,hy⟩
theorem ZrT.one {w:World}{b q:Nat}{f:Int×Int→Int}(h:ZrT w b f q){x y:Int}(hx:okI x)(hy:okI y)(hq:q<maxLen) :
  ∃w',(Instr.mapUpdate 278 (.map (some b)) (.agg #[.int .i64 x,.int .i64 y]) (.int .i64 1)).run Tryz.prog w=.ok () w'∧ZrT w' b (fun z=>if z=(x,y)then 1 else f z) (q+1)∧w.grownBy w' (some b):=ZfT.update ZoS Tryz.underlying278 h (x:=(x,y)) ⟨hx,hy⟩ 1 (by decide) hq
theorem ZqM (a b c d:Int)(w:World):(binOp .eql 240 (.agg #[.int .i64 a,.int .i64 b]) (.agg #[.int .i64 c,.int .i64 d])).run Tryz.prog w=.ok (.bool (decide ((a,b)=(c,d)))) w:=by
 obtain⟨i,hi⟩:=info_of_underlying (P:=Tryz.prog) (t:=3) Tryz.underlying3
 have hc:Tryz.prog.cellsOf 3=1:=by kernel_rfl
 rw[run_eql_struct,run_equalIn_array w 9999 _ _ Zsl hi,hc]
 have e:decide ((a,b)=(c,d))=(a==c&&b==d):=by
  by_cases h1:a=c <;> by_cases h2:b=d <;> simp[h1,h2]
 rw[e]
 by_cases h1:a=c <;> by_cases h2:b=d <;> simp[Op.eqItems,List.range_succ,part,isAgg,run_underlying Tryz.underlying3,run_equalIn_int w 9998 3 .i64 .i64 _ _ Tryz.underlying3,h1,h2]
theorem ZhE {w:World}{A:Option Addr}{n c:Nat}{xs:List (Int×Int)}(x y:Int)(h:Zii w A n c xs) :
  Calls Tryz.prog 187 #[.slice A n c,.agg #[.int .i64 x,.int .i64 y]] w fun e w'=>e=.returned (.int .i64 (ZaT (fun q=>decide ((x,y)=q)) xs))∧Below w.heap.size w w':=by
 have hn:=h.small
 have hgd:=Zo3
 have B0:=Zaa (Zab w (.cells #[.int .i64 x,.int .i64 y] 240))
 have X0:=Zaa (Box.new w #[.int .i64 x,.int .i64 y] 240)
 have H:=Zaa h
 clear h
 go_enter Tryz.func187,Tryz.ntmps187
 go_upto_region 1 with fail
 generalize w.alloc (.cells #[.int .i64 x,.int .i64 y] 240)=w0 at *
 go_wp2
 go_loopw [8] (fun i wr=>∃k:Nat,k≤n∧i=.int .i64 k∧Hid (∀j,j<k→∀y',xs[j]?=some y'→decide ((x,y)=y')=false)∧Hid (Below w0.heap.size w0 wr)) (fun i _=>n-(intOf i).toNat)
 case atStart=>exact⟨0,Nat.zero_le _,rfl,fun j hj=>absurd hj (by omega),Zaa (Below.refl _ _)⟩
 case round =>
  obtain⟨k,hk,rfl,lo,D⟩:=hrel
  have DW:=Zaa (B0.out.trans (D.out.mono B0.out.size))
  by_cases hlt:k<n
  ·have hki:(k:Int)<(n:Int):=by omega
   obtain⟨b,off,t,vs,rfl,hb,ht,hc,e0,e1⟩:=Sl.get (Sl.keep Zhy.kept H.out DW.out) hlt
   have q0:wr.cell? ⟨b,off+k*2,none⟩=some (.int .i64 t.1):=by have:=hc 0 (by omega);rw[e0]at this;simpa using this
   have q1:wr.cell? ⟨b,off+k*2+1,none⟩=some (.int .i64 t.2):=by have:=hc 1 (by omega);rw[e1]at this;simpa [Nat.add_assoc] using this
   have x0:=(D.out.cell (p:=⟨w.heap.size,0,none⟩) X0.out.lt).trans (X0.out.cell 0)
   have x1:=(D.out.cell (p:=⟨w.heap.size,1,none⟩) X0.out.lt).trans (X0.out.cell 1)
   have HT:=Zaa ht
   obtain⟨v,hv⟩:∃v,decide ((x,y)=t)=v:=⟨_,rfl⟩
   have HV:=Zaa hv
   have hne:∀w:World,(binOp .eql 240 (.agg #[.int .i64 x,.int .i64 y]) (.agg #[.int .i64 t.1,.int .i64 t.2])).run Tryz.prog w=.ok (.bool v) w:=fun w=>by rw[ZqM,←hv]
   clear hc e0 e1 ht hv
   cases v
   ·go_wp2
    go_quiet (fail)
    go_wp2
    go_roundw
    case rel =>
     refine⟨k+1,by omega,by go_num,fun j hj z hz=>?_,Zaa (D.out.trans ((show Below wr.heap.size wr (wr.drewN nq)from⟨rfl,rfl,rfl,Nat.le_refl _,fun _ _=>rfl⟩).mono D.out.size))⟩
     by_cases hjk:j=k
     ·subst hjk
      have:=HT.out
      rw[hz]at this
      injection this with this
      rw[this]
      exact HV.out
     ·exact lo.out j (by omega) z hz
    case measure=>simp[intOf];omega
   ·go_wp2
    go_quiet (fail)
    go_wp2
    go_ret
    exact⟨Zap (ZaW lo.out HT.out HV.out).symm,DW.out.trans ((show Below wr.heap.size wr (wr.drewN nq)from⟨rfl,rfl,rfl,Nat.le_refl _,fun _ _=>rfl⟩).mono DW.out.size)⟩
  ·go_wp2
   go_ret
   exact⟨Zap (ZaX (fun j hj z hz=>lo.out j (by have:=H.out.len;omega) z hz)).symm,DW.out⟩
theorem ZfF {w:World}{A:Option Addr}{n c:Nat}{xs:List (Int×Int)}(x y:Int)(h:Zii w A n c xs) :
  Calls Tryz.prog 138 #[.slice A n c,.agg #[.int .i64 x,.int .i64 y]] w fun e w'=>e=.returned (.bool (xs.any fun q=>decide ((x,y)=q)))∧Below w.heap.size w w':=by
 have B0:=Zaa (Zab w (.cells #[.int .i64 x,.int .i64 y] 240))
 have X0:=Zaa (Box.new w #[.int .i64 x,.int .i64 y] 240)
 have H:=Zaa (Sl.keep Zhy.kept h B0.out)
 clear h
 go_enter Tryz.func138,Tryz.ntmps138
 go_upto_region 1 with fail
 generalize w.alloc (.cells #[.int .i64 x,.int .i64 y] 240)=w0 at *
 have x0:=X0.out.cell 0
 have x1:=X0.out.cell 1
 go_wp2_with (refine(ZhE x y H.out).mono ?_;rintro e w' ⟨rfl,hb⟩;have HB:=Zaa hb;clear hb)
 go_ret
 exact⟨Zav (Zb7 _ _),B0.out.trans (HB.out.mono B0.out.size)⟩
structure ZmE (w:World)(A A1 A2 A3 A4:Option Addr)(n c n1 c1 n2 c2 n3 c3 n4 c4:Nat)(log:List (List Int))(p:Zas):Prop where
 il:ZaS w A n c log
 ip:PrI w A1 A2 A3 A4 n1 c1 n2 c2 n3 c3 n4 c4 p
theorem ZmE.keep {w w':World}{A A1 A2 A3 A4:Option Addr}{n c n1 c1 n2 c2 n3 c3 n4 c4:Nat}{log:List (List Int)}{p:Zas}(h:ZmE w A A1 A2 A3 A4 n c n1 c1 n2 c2 n3 c3 n4 c4 log p)(hb:Below w.heap.size w w'):ZmE w' A A1 A2 A3 A4 n c n1 c1 n2 c2 n3 c3 n4 c4 log p :=
 ⟨Sl.keep ZaL.kept h.il hb,h.ip.keep hb⟩
abbrev ZhF (A A1 A2 A3 A4:Option Addr)(n c n1 c1 n2 c2 n3 c3 n4 c4:Nat):Value:=.agg #[.slice A n c,.slice A1 n1 c1,.slice A2 n2 c2,.slice A3 n3 c3,.slice A4 n4 c4]
section
variable {w:World} {A A1 A2 A3 A4:Option Addr} {n c n1 c1 n2 c2 n3 c3 n4 c4:Nat} {log:List (List Int)} {p:Zas}
theorem Zer (a b:Int)(h:ZmE w A A1 A2 A3 A4 n c n1 c1 n2 c2 n3 c3 n4 c4 log p) :
  Calls Tryz.prog 168 #[ZhF A A1 A2 A3 A4 n c n1 c1 n2 c2 n3 c3 n4 c4,.int .i64 a,.int .i64 b] w fun e w'=>e=.returned (.bool (bhB p a b))∧Below w.heap.size w w':=by
 have B0:=Zaa (Zab w (.cells #[.slice A n c,.slice A1 n1 c1,.slice A2 n2 c2,.slice A3 n3 c3,.slice A4 n4 c4] 222))
 have X0:=Zaa (Box.new w #[.slice A n c,.slice A1 n1 c1,.slice A2 n2 c2,.slice A3 n3 c3,.slice A4 n4 c4] 222)
 have H:=Zaa (h.keep B0.out)
 clear h
 go_enter Tryz.func168,Tryz.ntmps168
 go_upto_region 1 with fail
 generalize w.alloc (.cells #[.slice A n c,.slice A1 n1 c1,.slice A2 n2 c2,.slice A3 n3 c3,.slice A4 n4 c4] 222)=w0 at *
 have x4:=X0.out.cell 4
 go_wp2_with (refine(ZfF a b H.out.ip.i4).mono ?_;rintro e w' ⟨rfl,hb⟩;have HB:=Zaa hb;clear hb)
 go_ret
 exact⟨rfl,B0.out.trans (HB.out.mono B0.out.size)⟩
end
end Go.Proofs.YtfmnagcglhlicaaGreat
