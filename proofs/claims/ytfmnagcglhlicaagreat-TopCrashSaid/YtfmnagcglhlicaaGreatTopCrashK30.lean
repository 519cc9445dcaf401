/- Texts melted into one: mine's parts. Conditions: the log reads as lists and prints; what is found onto each group is told. | The plain law of merging in place: each step of insertion and of  -/
import Derived.Test.YtfmnagcglhlicaaGreatTopCrashK29
set_option maxRecDepth 100000
set_option maxHeartbeats 4000000
namespace Go.Proofs.YtfmnagcglhlicaaGreat
open Go.RowKit
def vN (f:Nat):Prop:=∀(w:World) (A:OAd) (n c:Nat) (log:LLi),bT w A n c log→vK f log→Calls Tryz.prog 83 #[.slice A n c] w (lF (f+2) (aP f log) w)
theorem nR (w:World)(b:Nat)(v0 v1 v2:Value):w.grownBy (((w.setCell ⟨b,0,none⟩ v0).setCell ⟨b,1,none⟩ v1).setCell ⟨b,2,none⟩ v2) (some b) :=
 ((cR w b 0 v0).trans (cR _ b 1 v1)).trans (cR _ b 2 v2)
theorem vK.n {f:Nat}{log:LLi}(h:vK f log):log.length≤60:=(dZ.1 h.1).1
theorem d9 {w w1 w3:World}{g d:Nat}{a b c u0 u1 u2:Value}{T:aW}(h:fJ (fun k=>w1.heap.size≤k) d w3 (.agg #[a,b,c]) T)(x:Box w3 g 71 #[u0,u1,u2])(hb:Below w1.heap.size w1 w3)(hb0:Below w.heap.size w w1)(h1:g<w1.heap.size)(h2:w.heap.size≤g) :
  Box (((w3.setCell ⟨g,0,none⟩ a).setCell ⟨g,1,none⟩ b).setCell ⟨g,2,none⟩ c) g 71 #[a,b,c]∧fJ (fun k=>w.heap.size≤k) d (((w3.setCell ⟨g,0,none⟩ a).setCell ⟨g,1,none⟩ b).setCell ⟨g,2,none⟩ c) (.agg #[a,b,c]) T∧Below w.heap.size w (((w3.setCell ⟨g,0,none⟩ a).setCell ⟨g,1,none⟩ b).setCell ⟨g,2,none⟩ c) :=
 ⟨x.set3 a b c,(h.grown (nR w3 g a b c) (fun k hk hp=>by injection hk with hk;omega)).wide (fun k _ hk=>Nat.le_trans hb0.size hk),(hb0.trans (hb.mono hb0.size)).grown (nR w3 g a b c) (Nat.le_trans hb0.size hb.size) (fun k hk=>by injection hk with hk;omega)⟩
theorem Pj {w w':World}{B d n m c:Nat}{v:Value}{ks:List aW}{A:OAd}{T:aW}(own:j4 w B d v n ks)(hB:B≤w.heap.size){d':Nat}(s:Sl (oM (fun k=>w.heap.size≤k) d') 3 w' A m c T.kids)(p:0<m→∀a,A=some a→w.heap.size≤a.block):Sl (oM (fun k=>B≤k∧v.ownBlock≠some k) d') 3 w' A m c T.kids∧(0<m→∀a,A=some a→B≤a.block∧v.ownBlock≠some a.block):=by
 have q:∀k,w.heap.size≤k→B≤k∧v.ownBlock≠some k:=fun k hk=>⟨by omega,fun e=>by have:=(own.lt k e).2;omega⟩
 exact⟨s.imp (fun _ _ r=>r.wide (fun k _ h=>q k h) d'),fun hm a ha=>q _ (p hm a ha)⟩
theorem j4.sl2 {w:World}{B d n:Nat}{v:Value}{ks:List aW}(own:j4 w B d v n ks)(hn:n≤281474976710656):∃A c,v=.slice A n c∧Sl (oM (fun k=>B≤k) d) 3 w A n c ks∧(0<n→∀a,A=some a→B≤a.block):=by
 have hl:=own.lt;obtain⟨A,c,e,s⟩:=aC.sl own hn;exact⟨A,c,e,s.imp (fun _ _ r=>r.wide (fun k _ h=>h.1) d),fun _ a ha=>(hl a.block (by rw[e,ha];rfl)).1⟩
theorem qQ {f:Nat}(IH:vN f){w:World}{A A1 A2 A3 A4 B:OAd}{n c n1 c1 n2 c2 n3 c3 n4 c4 m d:Nat}{log gs:LLi}{p:aU}(h:IP w A A1 A2 A3 A4 n c n1 c1 n2 c2 n3 c3 n4 c4 log p)(hg:bT w B m d gs)(kd:Int)(hF:∀g∈gs,vK f (eP log g))(hm:m≤26)(hn:n≤60) :
  Calls Tryz.prog 174 #[vM A A1 A2 A3 A4 n c n1 c1 n2 c2 n3 c3 n4 c4,.int .i64 kd,.slice B m d] w (lF (f+3) (.mk kd 0 (gs.map fun g=>aP f (eP log g))) w):=by
 have H:=aA h;have G:=aA hg;have FU:=aA hF;have NN:=aA (And.intro hm hn);have IHH:=aA IH;clear h hg hF hm hn IH;obtain⟨LV,hLV⟩:∃LV:Array Value,LV=#[.slice A n c,.slice A1 n1 c1,.slice A2 n2 c2,.slice A3 n3 c3,.slice A4 n4 c4]:=⟨_,rfl⟩;have B0:=aA ((aB w (.cells #[.slice A n c,.slice A1 n1 c1,.slice A2 n2 c2,.slice A3 n3 c3,.slice A4 n4 c4] 222)).alloc (by simp) (.cells #[.int .i64 0,.int .i64 0,.slice none 0 0] 71));have X0:=aA (show Box ((w.alloc (.cells #[.slice A n c,.slice A1 n1 c1,.slice A2 n2 c2,.slice A3 n3 c3,.slice A4 n4 c4] 222)).alloc (.cells #[.int .i64 0,.int .i64 0,.slice none 0 0] 71)) w.heap.size 222 LV from by subst hLV;exact(Box.new w _ _).old _);have X1:=aA (show Box ((w.alloc (.cells #[.slice A n c,.slice A1 n1 c1,.slice A2 n2 c2,.slice A3 n3 c3,.slice A4 n4 c4] 222)).alloc (.cells #[.int .i64 0,.int .i64 0,.slice none 0 0] 71)) (w.heap.size+1) 71 #[.int .i64 0,.int .i64 0,.slice none 0 0]from Box.newAt (by simp) _ _);have HLV:=aA hLV;clear hLV;go_enter Tryz.func174,Tryz.ntmps174
 go_upto_region 1 with fail
 generalize ((w.alloc (.cells #[.slice A n c,.slice A1 n1 c1,.slice A2 n2 c2,.slice A3 n3 c3,.slice A4 n4 c4] 222)).alloc (.cells #[.int .i64 0,.int .i64 0,.slice none 0 0] 71))=w1 at *
 go_wp2
 go_loopg [7,12] m (fun gk s7 s12 wr=>∃v k,v=s7∧s12=.int .i64 (k:Nat)∧Hid (k+gk=m)∧Hid (j4 wr w1.heap.size (f+3) v k ((gs.take k).map fun g=>aP f (eP log g)))∧Hid (Below w1.heap.size w1 wr))
 case atStart=>exact⟨_,0,rfl,rfl,aA (by omega),aA aC.nil,aA (Below.refl _ _)⟩
 case round =>
  obtain⟨v,k,rfl,rfl,hgk,OB,DB⟩:=hrel;have DW:=aA (B0.o.trans (DB.o.mono B0.o.size));by_cases hlt:k<m
  ·have hki:(k:Int)<(m:Int):=by omega
   obtain⟨b,off,g,Bg,mg,dg,rfl,hb,hgx,q0,ig,hmg⟩:=bT.get (Sl.keep bH.kept G.o DW.o) hlt;have HJ:=aA (show gk-1<gk∧(k+1)+(gk-1)=m∧k≤26 by have:=hgk.o;have:=NN.o;omega);have hwk:IntKind.i64.wrap ((k:Int)+1)=((k+1:Nat):Int):=by
    have:=HJ.o;simp[IntKind.wrap,IntKind.bits,IntKind.signed];omega
   have x0:wr.cell? ⟨w.heap.size,0,none⟩=some (.slice A n c):=((X0.o.keep DB.o).cell 0).trans (by rw[HLV.o];rfl);have IG:=aA ig;have CO:=aA (Kx (Sl.keep bH.kept H.o.il DW.o) ig (by have:=NN.o;omega));have FG:=aA (FU.o g (List.mem_of_getElem? hgx.o));clear ig hb;go_wp2_with fail
   refine CO.o.mono ?_;rintro e w2 ⟨v2,m2,rfl,ow,hm2,hb2⟩;obtain⟨A2',c2',rfl,is2⟩:=Xa.lists ow hm2;have B2:=aA hb2;have CF:=aA (IHH.o w2 A2' m2 c2' (eP log g) is2 FG.o);clear ow hb2 is2;go_wp2_with fail
   refine CF.o.mono ?_;rintro e w3 ⟨v3,rfl,⟨A3',n3',c3',rfl,s3,p3⟩,hb3⟩;have B3:=aA (B2.o.trans (hb3.mono B2.o.size));have KO:=aA (Pj (OB.o) DB.o.size (s3.imp (fun _ _ r=>r.wide (fun k _ hk=>Nat.le_trans B2.o.size hk) (f+2))) (fun hn a ha=>Nat.le_trans B2.o.size (p3 hn a ha)));have OB3:=aA (OB.o.keep B3.o);have D3:=aA (DB.o.trans (B3.o.mono DB.o.size));have hB3:=D3.o.size;have hk1:k≤100:=by have:=HJ.o;omega
   have TK:=aA (show(gs.take (k+1)).map (fun g=>aP f (eP log g))=(gs.take k).map (fun g=>aP f (eP log g))++[aP f (eP log g)] by rw[List.take_add_one,hgx.o];simp);obtain⟨kd3,hkd⟩:∃x,x=(aP f (eP log g)).kind:=⟨_,rfl⟩;obtain⟨lb3,hlb⟩:∃x,x=(aP f (eP log g)).label:=⟨_,rfl⟩;rw[←hkd,←hlb];have HKL:=aA (And.intro hkd hlb);clear s3 p3 hb3 OB DB hkd hlb;go_wp2_with (at_builtin;refine lQ rfl _ _ rfl rfl rfl rfl OB3.o HKL.o.1 HKL.o.2 KO.o.1 KO.o.2 hB3 hk1 ?_;intro v8 w8 own8 hg8;have O8:=aA own8;have D8:=aA (D3.o.grown hg8 hB3 (fun k hk=>(OB3.o.lt k hk).1)))
   go_roundg (gk-1)
   case measure=>exact HJ.o.1
   case rel=>exact⟨v8,k+1,rfl,rfl,aA HJ.o.2.1,aA (by rw[TK.o];exact O8.o),D8⟩
  ·have hki:¬(k:Int)<(m:Int):=by omega
   have OF:=aA (show j4 wr w1.heap.size (f+3) v k (gs.map fun g=>aP f (eP log g))from by
    have:=OB.o;rwa[List.take_of_length_le (by rw[G.o.len];omega)]at this)
   obtain⟨AK,cK,rfl,sK,pK⟩:=OF.o.sl2 (by have:=NN.o;have:=hgk.o;omega);have CB:=aA (gR kd sK pK DB.o);have X3:=aA (X1.o.keep DB.o);clear sK pK OB hlt hgk;go_wp2_with fail
   refine CB.o.mono ?_;rintro e w3 ⟨⟨v3,rfl,⟨A3',n3',c3',rfl,s3,p3⟩,hb3⟩,hb4⟩;have X4:=aA (X3.o.keep hb4);have BA:=aA (show fJ (fun k=>w1.heap.size≤k) (f+3) w3 (.agg #[.int .i64 (aW.mk kd 0 (gs.map fun g=>aP f (eP log g))).kind,.int .i64 (aW.mk kd 0 (gs.map fun g=>aP f (eP log g))).label,.slice A3' n3' c3']) (.mk kd 0 (gs.map fun g=>aP f (eP log g)))from⟨A3',n3',c3',rfl,s3,p3⟩);generalize (aW.mk kd 0 (gs.map fun g=>aP f (eP log g))).kind=kd3 at *
   generalize (aW.mk kd 0 (gs.map fun g=>aP f (eP log g))).label=lb3 at *
   have D3:=aA hb3;have hgt:=X1.o.lt;obtain⟨u0,u1,u2⟩:=X4.o.three;have fz:=fun j=>X4.o.frozen j
   have W5:=aA (d9 (w:=w) BA.o X4.o D3.o B0.o (by omega) (by omega));clear s3 p3 hb3 hb4 hgt;go_wp2
   generalize (((w3.setCell ⟨w.heap.size+1,0,none⟩ (.int .i64 kd3)).setCell ⟨w.heap.size+1,1,none⟩ (.int .i64 lb3)).setCell ⟨w.heap.size+1,2,none⟩ (.slice A3' n3' c3'))=w5 at *
   obtain⟨z0,z1,z2⟩:=W5.o.1.three;exact bodyPost_ret (v:=.agg #[.int .i64 kd3,.int .i64 lb3,.slice A3' n3' c3']) (by simp[results,Tryz.results174,go_sem,z0,z1,z2]) rfl ⟨_,rfl,W5.o.2.1,W5.o.2.2⟩
end Go.Proofs.YtfmnagcglhlicaaGreat
namespace Go.Proofs.YtfmnagcglhlicaaGreat
section
variable {α:Type} {R:α→α→Prop} {S:α→Prop}
structure zS (R:α→α→Prop)(S:α→Prop):Prop where
 tot:∀x y,S x→S y→x≠y→(R x y↔¬R y x)
 tra:∀x y z,S x→S y→S z→R x y→R y z→R x z
structure dQ (S:α→Prop)(f:Nat→α)(n:Nat):Prop where
 mem:∀k,k<n→S (f k)
 inj:∀i j,i<n→j<n→f i=f j→i=j
theorem dQ.swap {f:Nat→α}{n i j:Nat}(h:dQ S f n)(hi:i<n)(hj:j<n):dQ S (gP f i j) n where
 mem:=fun k hk=>by
  unfold gP;split
  ·exact h.mem j hj
  ·split
   ·exact h.mem i hi
   ·exact h.mem k hk
 inj:=fun p q hp hq e=>by
  unfold gP at e
  repeat' split at e
  all_goals first
   | omega
   |(have:=h.inj _ _ (by omega) (by omega) e;omega)
theorem dQ.rot {f:Nat→α}{n a m b:Nat}(h:dQ S f n)(h1:a≤m)(h2:m≤b)(hb:b≤n):dQ S (dP f a m b) n where
 mem:=fun k hk=>by
  unfold dP
  repeat' split
  all_goals exact h.mem _ (by omega)
 inj:=fun p q hp hq e=>by
  unfold dP at e
  repeat' split at e
  all_goals (have:=h.inj _ _ (by omega) (by omega) e;omega)
variable {f:Nat→α} {n:Nat}
theorem zS.at (o:zS R S)(h:dQ S f n){i j:Nat}(hi:i<n)(hj:j<n)(hne:i≠j):R (f i) (f j)↔¬R (f j) (f i):=o.tot _ _ (h.mem i hi) (h.mem j hj) (fun e=>hne (h.inj i j hi hj e))
theorem zS.tr (o:zS R S)(h:dQ S f n){i j k:Nat}(hi:i<n)(hj:j<n)(hk:k<n)(h1:R (f i) (f j))(h2:R (f j) (f k)):R (f i) (f k):=o.tra _ _ _ (h.mem i hi) (h.mem j hj) (h.mem k hk) h1 h2
structure RU (R:α→α→Prop)(f:Nat→α)(a j i:Nat):Prop where
 le:a≤j∧j≤i
 oth:∀p q,a≤p→p<q→q≤i→p≠j→q≠j→R (f p) (f q)
 up:∀q,j<q→q≤i→R (f j) (f q)
theorem RU.start {a i:Nat}(h:fA R f a i)(ha:a≤i):RU R f a i i :=
 ⟨⟨ha,Nat.le_refl _⟩,fun p q h1 h2 h3 h4 h5=>h p q h1 h2 (by omega),fun q h1 h2=>by omega⟩
theorem RU.down {a j i:Nat}(h:RU R f a j i)(ha:a<j)(hR:R (f j) (f (j-1))):RU R (gP f j (j-1)) a (j-1) i:=by
 have hl:=h.le;have e1:gP f j (j-1) (j-1)=f j:=by unfold gP;rw[if_neg (by omega),if_pos rfl]
 have e2:gP f j (j-1) j=f (j-1):=by unfold gP;rw[if_pos rfl]
 have e3:∀k,k≠j→k≠j-1→gP f j (j-1) k=f k:=fun k h1 h2=>by unfold gP;rw[if_neg h1,if_neg h2]
 refine⟨by omega,fun p q h1 h2 h3 h4 h5=>?_,fun q h1 h2=>?_⟩
 ·by_cases hp:p=j
  ·subst hp;rw[e2,e3 q (by omega) h5];exact h.oth (p-1) q (by omega) (by omega) h3 (by omega) (by omega)
  ·by_cases hq:q=j
   ·subst hq;rw[e2,e3 p hp h4];exact h.oth p (q-1) h1 (by omega) (by omega) hp (by omega)
   ·rw[e3 p hp h4,e3 q hq h5];exact h.oth p q h1 h2 h3 hp hq
 ·rw[e1];by_cases hq:q=j
  ·subst hq;rw[e2];exact hR
  ·rw[e3 q hq (by omega)];exact h.up q (by omega) h2
theorem RU.stop (o:zS R S)(g:dQ S f n){a j i:Nat}(h:RU R f a j i)(hi:i<n)(hR:a<j→¬R (f j) (f (j-1))):fA R f a (i+1):=by
 have hl:=h.le;have low:∀p,a≤p→p<j→R (f p) (f j):=fun p h1 h2=>by
  have h3:R (f (j-1)) (f j):=(o.at g (by omega) (by omega) (by omega)).2 (hR (by omega));by_cases e:p=j-1
  ·rw[e];exact h3
  ·exact o.tr g (by omega) (j:=j-1) (by omega) (by omega) (h.oth p (j-1) h1 (by omega) (by omega) (by omega) (by omega)) h3
 intro p q h1 h2 h3;by_cases hp:p=j
 ·subst hp;exact h.up q h2 (by omega)
 ·by_cases hq:q=j
  ·subst hq;exact low p h1 h2
  ·exact h.oth p q h1 h2 (by omega) hp hq
structure tD (R:α→α→Prop)(f:Nat→α)(a m b i j:Nat):Prop where
 le:m≤i∧i≤j∧j≤b
 lo:∀h,m≤h→h<i→R (f h) (f a)
 hi:∀h,j≤h→h<b→R (f a) (f h)
theorem tD.start {a m b:Nat}(h:m≤b):tD R f a m b m b:=⟨⟨Nat.le_refl _,h,Nat.le_refl _⟩,fun h h1 h2=>by omega,fun h h1 h2=>by omega⟩
theorem tD.yes (o:zS R S)(g:dQ S f n){a m b i j h:Nat}(F:tD R f a m b i j)(s:fA R f m b)(ha:a<m)(hb:b≤n)(h1:i≤h)(h2:h<j)(hR:R (f h) (f a)):tD R f a m b (h+1) j :=
 ⟨by have:=F.le;omega,fun k k1 k2=>by
  have:=F.le;by_cases e:k=h
  ·rw[e];exact hR
  ·exact o.tr g (by omega) (j:=h) (by omega) (by omega) (s k h k1 (by omega) (by omega)) hR,F.hi⟩
theorem tD.no (o:zS R S)(g:dQ S f n){a m b i j h:Nat}(F:tD R f a m b i j)(s:fA R f m b)(ha:a<m)(hb:b≤n)(h1:i≤h)(h2:h<j)(hR:¬R (f h) (f a)):tD R f a m b i h :=
 ⟨by have:=F.le;omega,F.lo,fun k k1 k2=>by
  have:=F.le;have h3:R (f a) (f h):=(o.at g (by omega) (by omega) (by omega)).2 hR;by_cases e:k=h
  ·rw[e];exact h3
  ·exact o.tr g (by omega) (j:=h) (by omega) (by omega) h3 (s h k (by omega) (by omega) k2)⟩
theorem tD.done {a b i:Nat}(F:tD R f a (a+1) b i i)(s:fA R f (a+1) b):fA R (dP f a (a+1) i) a b:=by
 have hl:=F.le;have e1:∀k,a≤k→k<i-1→dP f a (a+1) i k=f (k+1):=fun k h1 h2=>by
  unfold dP;rw[if_pos (by omega)];congr 1;omega
 have e2:dP f a (a+1) i (i-1)=f a:=by
  unfold dP;rw[if_neg (by omega),if_pos (by omega)];congr 1;omega
 have e3:∀k,i≤k→dP f a (a+1) i k=f k:=fun k h1=>by
  unfold dP;rw[if_neg (by omega),if_neg (by omega)]
 intro p q h1 h2 h3;by_cases c1:p<i-1
 ·rw[e1 p h1 c1];by_cases c2:q<i-1
  ·rw[e1 q (by omega) c2];exact s _ _ (by omega) (by omega) (by omega)
  ·by_cases c3:q=i-1
   ·rw[c3,e2];exact F.lo _ (by omega) (by omega)
   ·rw[e3 q (by omega)];exact s _ _ (by omega) (by omega) h3
 ·by_cases c2:p=i-1
  ·rw[c2,e2,e3 q (by omega)];exact F.hi q (by omega) h3
  ·rw[e3 p (by omega),e3 q (by omega)];exact s _ _ (by omega) h2 h3
theorem Pm {a k:Nat}(h:a≤k):gP (dP f a (a+1) (k+1)) k (k+1)=dP f a (a+1) (k+2):=by
 funext x
 unfold gP dP
 repeat' split
 all_goals first|rfl|(exfalso;omega)|(congr 1;omega)
structure tG (R:α→α→Prop)(f:Nat→α)(a m i j:Nat):Prop where
 le:a≤i∧i≤j∧j≤m
 lo:∀h,a≤h→h<i→R (f h) (f m)
 hi:∀h,j≤h→h<m→R (f m) (f h)
theorem tG.start {a m:Nat}(h:a≤m):tG R f a m a m:=⟨⟨Nat.le_refl _,h,Nat.le_refl _⟩,fun h h1 h2=>by omega,fun h h1 h2=>by omega⟩
theorem tG.no (o:zS R S)(g:dQ S f n){a m i j h:Nat}(F:tG R f a m i j)(s:fA R f a m)(hm:m<n)(h1:i≤h)(h2:h<j)(hR:¬R (f m) (f h)):tG R f a m (h+1) j :=
 ⟨by have:=F.le;omega,fun k k1 k2=>by
  have:=F.le;have h3:R (f h) (f m):=(o.at g (by omega) (by omega) (by omega)).2 hR;by_cases e:k=h
  ·rw[e];exact h3
  ·exact o.tr g (by omega) (j:=h) (by omega) (by omega) (s k h k1 (by omega) (by omega)) h3,F.hi⟩
theorem tG.yes (o:zS R S)(g:dQ S f n){a m i j h:Nat}(F:tG R f a m i j)(s:fA R f a m)(hm:m<n)(h1:i≤h)(h2:h<j)(hR:R (f m) (f h)):tG R f a m i h :=
 ⟨by have:=F.le;omega,F.lo,fun k k1 k2=>by
  have:=F.le;by_cases e:k=h
  ·rw[e];exact hR
  ·exact o.tr g (by omega) (j:=h) (by omega) (by omega) hR (s h k (by omega) (by omega) k2)⟩
theorem tG.done {a m i:Nat}(F:tG R f a m i i)(s:fA R f a m):fA R (dP f i m (m+1)) a (m+1):=by
 have hl:=F.le;have e1:∀k,k<i→dP f i m (m+1) k=f k:=fun k h1=>by
  unfold dP;rw[if_neg (by omega),if_neg (by omega)]
 have e2:dP f i m (m+1) i=f m:=by
  unfold dP;rw[if_pos (by omega)];congr 1;omega
 have e3:∀k,i<k→k<m+1→dP f i m (m+1) k=f (k-1):=fun k h1 h2=>by
  unfold dP;rw[if_neg (by omega),if_pos (by omega)];congr 1;omega
 intro p q h1 h2 h3;by_cases c1:p<i
 ·rw[e1 p c1];by_cases c2:q<i
  ·rw[e1 q c2];exact s _ _ h1 h2 (by omega)
  ·by_cases c3:q=i
   ·rw[c3,e2];exact F.lo p h1 c1
   ·rw[e3 q (by omega) h3];exact s _ _ h1 (by omega) (by omega)
 ·by_cases c2:p=i
  ·rw[c2,e2,e3 q (by omega) h3];exact F.hi _ (by omega) (by omega)
  ·rw[e3 p (by omega) (by omega),e3 q (by omega) h3];exact s _ _ (by omega) (by omega) (by omega)
theorem Pn {m k:Nat}(h:0<k)(hk:k≤m):gP (dP f k m (m+1)) k (k-1)=dP f (k-1) m (m+1):=by
 funext x
 unfold gP dP
 repeat' split
 all_goals first|rfl|(exfalso;omega)|(congr 1;omega)
structure tH (R:α→α→Prop)(f:Nat→α)(p lo hi s r:Nat):Prop where
 le:lo≤s∧s≤r∧r≤hi
 dn:∀c,lo≤c→c<s→R (f c) (f (p-c))
 up:∀c,r≤c→c<hi→R (f (p-c)) (f c)
theorem tH.start {p lo hi:Nat}(h:lo≤hi):tH R f p lo hi lo hi:=⟨⟨Nat.le_refl _,h,Nat.le_refl _⟩,fun c h1 h2=>by omega,fun c h1 h2=>by omega⟩
theorem tH.no (o:zS R S)(g:dQ S f n){a m b p lo hi s r h:Nat}(F:tH R f p lo hi s r)(s1:fA R f a m)(s2:fA R f m b)(hb:b≤n)(hr:∀c,lo≤c→c<hi→a≤c∧c<m∧m≤p-c∧p-c<b∧c≤p)(h1:s≤h)(h2:h<r)(hR:¬R (f (p-h)) (f h)):tH R f p lo hi (h+1) r :=
 ⟨by have:=F.le;omega,fun c c1 c2=>by
  have hl:=F.le;have b1:=hr h (by omega) (by omega);have b2:=hr c c1 (by omega);have h3:R (f h) (f (p-h)):=(o.at g (by omega) (by omega) (by omega)).2 hR;by_cases e:c=h
  ·rw[e];exact h3
  ·exact o.tr g (by omega) (j:=h) (by omega) (by omega) (s1 c h (by omega) (by omega) (by omega)) (o.tr g (by omega) (j:=p-h) (by omega) (by omega) h3 (s2 _ _ (by omega) (by omega) (by omega))),F.up⟩
theorem tH.yes (o:zS R S)(g:dQ S f n){a m b p lo hi s r h:Nat}(F:tH R f p lo hi s r)(s1:fA R f a m)(s2:fA R f m b)(hb:b≤n)(hr:∀c,lo≤c→c<hi→a≤c∧c<m∧m≤p-c∧p-c<b∧c≤p)(h1:s≤h)(h2:h<r)(hR:R (f (p-h)) (f h)):tH R f p lo hi s h :=
 ⟨by have:=F.le;omega,F.dn,fun c c1 c2=>by
  have hl:=F.le;have b1:=hr h (by omega) (by omega);have b2:=hr c (by omega) c2;by_cases e:c=h
  ·rw[e];exact hR
  ·exact o.tr g (by omega) (j:=p-h) (by omega) (by omega) (s2 _ _ (by omega) (by omega) (by omega)) (o.tr g (by omega) (j:=h) (by omega) (by omega) hR (s1 h c (by omega) (by omega) (by omega)))⟩
theorem tH.done (o:zS R S) (g:dQ S f n) {a m b p lo hi st en mid:Nat} (F:tH R f p lo hi st st) (s1:fA R f a m) (s2:fA R f m b) (hb:b≤n) (hr:∀c,lo≤c→c<hi→a≤c∧c<m∧m≤p-c∧p-c<b∧c≤p)
  (hen:st+en=p+1) (hmid:mid+m=p+1) (ha:a≤st∧st≤m∧m≤en∧en≤b) (hlo:st=lo→en=b∨st=a) (hhi:st=hi→en=m∨st=m) :
  (fA R (dP f st m en) a st∧fA R (dP f st m en) st mid)∧(fA R (dP f st m en) mid en∧fA R (dP f st m en) en b)∧∀i j,a≤i→i<mid→mid≤j→j<b→R (dP f st m en i) (dP f st m en j):=by
 have hl:=F.le;have e1:∀k,k<st→dP f st m en k=f k:=fun k h1=>by
  unfold dP;rw[if_neg (by omega),if_neg (by omega)]
 have e2:∀k,st≤k→k<mid→dP f st m en k=f (m+(k-st)):=fun k h1 h2=>by
  unfold dP;rw[if_pos (by omega)]
 have e3:∀k,mid≤k→k<en→dP f st m en k=f (st+(k-mid)):=fun k h1 h2=>by
  unfold dP;rw[if_neg (by omega),if_pos (by omega)];congr 1;omega
 have e4:∀k,en≤k→dP f st m en k=f k:=fun k h1=>by
  unfold dP;rw[if_neg (by omega),if_neg (by omega)]
 refine⟨⟨fun i j h1 h2 h3=>?_,fun i j h1 h2 h3=>?_⟩,⟨fun i j h1 h2 h3=>?_,fun i j h1 h2 h3=>?_⟩,fun i j h1 h2 h3 h4=>?_⟩
 ·rw[e1 i (by omega),e1 j h3];exact s1 _ _ h1 h2 (by omega)
 ·rw[e2 i h1 (by omega),e2 j (by omega) h3];exact s2 _ _ (by omega) (by omega) (by omega)
 ·rw[e3 i h1 (by omega),e3 j (by omega) h3];exact s1 _ _ (by omega) (by omega) (by omega)
 ·rw[e4 i h1,e4 j (by omega)];exact s2 _ _ (by omega) h2 h3
 ·by_cases c1:i<st
  ·rw[e1 i c1];by_cases c2:j<en
   ·rw[e3 j h3 c2];exact s1 _ _ h1 (by omega) (by omega)
   ·rw[e4 j (by omega)];by_cases c3:st=lo
    ·rcases hlo c3 with h|h <;> omega
    ·have b1:=hr (st-1) (by omega) (by omega);have h5:=F.dn (st-1) (by omega) (by omega);rw[show p-(st-1)=en by omega]at h5;have h6:R (f i) (f en):=by
      by_cases e:i=st-1
      ·rw[e];exact h5
      ·exact o.tr g (by omega) (j:=st-1) (by omega) (by omega) (s1 _ _ h1 (by omega) (by omega)) h5
     by_cases e:j=en
     ·rw[e];exact h6
     ·exact o.tr g (by omega) (j:=en) (by omega) (by omega) h6 (s2 _ _ (by omega) (by omega) h4)
  ·rw[e2 i (by omega) h2];by_cases c2:j<en
   ·rw[e3 j h3 c2];by_cases c3:st=hi
    ·rcases hhi c3 with h|h <;> omega
    ·have b1:=hr st (by omega) (by omega);have h5:=F.up st (by omega) (by omega);rw[show p-st=en-1 by omega]at h5;have h6:R (f (m+(i-st))) (f st):=by
      by_cases e:m+(i-st)=en-1
      ·rw[e];exact h5
      ·exact o.tr g (by omega) (j:=en-1) (by omega) (by omega) (s2 _ _ (by omega) (by omega) (by omega)) h5
     by_cases e:st+(j-mid)=st
     ·rw[e];exact h6
     ·exact o.tr g (by omega) (j:=st) (by omega) (by omega) h6 (s1 _ _ (by omega) (by omega) (by omega))
   ·rw[e4 j (by omega)];exact s2 _ _ (by omega) (by omega) h4
end
end Go.Proofs.YtfmnagcglhlicaaGreat
