/- The contract of BTurned. Conditions: the net's transitions read as a list. | The contract of net.Turned. Conditions: the net's transitions read as a list. | Append of any list of integers (n -/
import Derived.Test.YtfmnagcglhlicaaGreatTopCrashK09
import Derived.Maps.AppendAt
set_option maxRecDepth 100000
set_option maxHeartbeats 4000000
namespace Go.Proofs.YtfmnagcglhlicaaGreat
open Go.RowKit
def VU (N:aS)(w:World)(e:Ending)(w':World):Prop :=
 ∃A n c,e=.returned (.agg #[.int .i64 N.places,.slice A n c])∧bK w' A n c N.trans∧Below w.heap.size w w'
theorem a6.tran {w:World}{v0 v1 v2:Value}{t:aI}{R:World→(Nat→Value)→aI→Prop}(h:R w (fun j=>[v0,v1,v2].getD j undef) t):a6 R 3 w [v0,v1,v2] [t] :=
 a6.one h rfl (fun j hj=>by
  match j,hj with
  | 0,_=>rfl
  | 1,_=>rfl
  | 2,_=>rfl)
theorem Fa {ts:List aI}{k:Nat}{t:aI}(h:ts[k]?=some t):(ts.take (k+1)).map pU=(ts.take k).map pU++[pU t]:=by
 rw[bL h,List.map_append];rfl
theorem VV (w:World)(x y z:Array Value)(tx ty tz:Nat) :
  (∀j,(((w.alloc (.cells x tx)).alloc (.cells y ty)).alloc (.cells z tz)).cell? ⟨w.heap.size,j,none⟩=x[j]?) ∧
  (∀j,(((w.alloc (.cells x tx)).alloc (.cells y ty)).alloc (.cells z tz)).cell? ⟨w.heap.size+1,j,none⟩=y[j]?) ∧
  (∀j,(((w.alloc (.cells x tx)).alloc (.cells y ty)).alloc (.cells z tz)).cell? ⟨w.heap.size+1+1,j,none⟩=z[j]?) ∧
  (∀j,(((w.alloc (.cells x tx)).alloc (.cells y ty)).alloc (.cells z tz)).frozen? ⟨w.heap.size+1,j,none⟩=false) ∧
  (∀j,(((w.alloc (.cells x tx)).alloc (.cells y ty)).alloc (.cells z tz)).frozen? ⟨w.heap.size+1+1,j,none⟩=false) ∧
  (((w.alloc (.cells x tx)).alloc (.cells y ty)).alloc (.cells z tz)).heap.size=w.heap.size+3:=by
 have s1:(w.alloc (.cells x tx)).heap.size=w.heap.size+1:=by simp
 have s2:((w.alloc (.cells x tx)).alloc (.cells y ty)).heap.size=w.heap.size+1+1:=by simp
 have h1:(((w.alloc (.cells x tx)).alloc (.cells y ty)).alloc (.cells z tz)).heap[w.heap.size]?=some (.cells x tx (0,0)):=by
  rw[heap_alloc_old _ _ (by omega),heap_alloc_old _ _ (by omega)];exact heap_alloc_new w _
 have h2:(((w.alloc (.cells x tx)).alloc (.cells y ty)).alloc (.cells z tz)).heap[w.heap.size+1]?=some (.cells y ty (0,0)):=by
  rw[heap_alloc_old _ _ (by omega),←s1];exact heap_alloc_new _ _
 have h3:(((w.alloc (.cells x tx)).alloc (.cells y ty)).alloc (.cells z tz)).heap[w.heap.size+1+1]?=some (.cells z tz (0,0)):=by
  rw[←s2];exact heap_alloc_new _ _
 exact⟨fun j=>cell_of_row _ _ _ _ _ (0,0) h1,fun j=>cell_of_row _ _ _ _ _ (0,0) h2,fun j=>cell_of_row _ _ _ _ _ (0,0) h3,fun j=>frozen_of_row _ _ _ _ _ h2,fun j=>frozen_of_row _ _ _ _ _ h3,by simp⟩
theorem iC {B g0:Nat}{w:World}{v u:Value}{n:Nat}{xs:List aI}{j:Nat}(h:aC (a7 B) 3 w B 49 v n xs)(hg:g0<B):Hid (aC (a7 B) 3 (w.setCell ⟨g0,j,none⟩ u) B 49 v n xs):=by
 have gr:w.grownBy (w.setCell ⟨g0,j,none⟩ u) (some g0):=⟨rfl,rfl,rfl,by simp[World.setCell],fun k _ hk=>Below.heap_setCell _ _ _ _ (fun e=>hk (by rw[e]))⟩;exact h.kept gr (.inr (fun e=>by have:=(h.lt _ e).1;omega)) (fun vs x hx=>hx.far gr hg)
theorem Fb {B:Nat}{w1 w2 w4 w5:World}{j:Nat}{u:Value}(h1:Below B w1 w2)(h5:Below w1.heap.size w4 w5)(h4:Below w2.heap.size w2 w4)(hB:B<w1.heap.size):Hid (Below B w1 (w5.setCell ⟨B,j,none⟩ u)) :=
 ((h1.trans (h4.mono (by have:=h1.size;omega))).trans (h5.mono (by omega))).setCell (by simp) _
theorem Sl.imp {α:Type}{R R':World→(Nat→Value)→α→Prop}{sz:Nat}{w:World}{A:OAd}{n c:Nat}{xs:List α}(h:Sl R sz w A n c xs)(hR:∀vs x,R w vs x→R' w vs x):Sl R' sz w A n c xs :=
 ⟨h.len,h.le,h.cap,h.small,h.nul,fun hn=>by obtain⟨b,off,e,hb,hx⟩:=h.cells hn;exact⟨b,off,e,hb,fun i x hi=>by obtain⟨vs,a,r⟩:=hx i x hi;exact⟨vs,a,hR _ _ r⟩⟩⟩
theorem If {B:Nat}{w:World}{v:Value}{n:Nat}{xs:List aI}(h:aC (a7 B) 3 w B 49 v n xs):∀w',w.grownBy w' v.ownBlock→∀vs y,a7 B w vs y→a7 B w' vs y:=by
 obtain⟨cells,h1,_⟩:=h;exact fun w' hg vs y hy=>hy.grown h1 hg
def UF (N:aS)(w:World)(e:Ending)(w':World):Prop :=
 ∃A n c,e=.returned (.agg #[.int .i64 N.places,.slice A n c])∧aC (a7 w.heap.size) 3 w' w.heap.size 49 (.slice A n c) n N.trans∧Below w.heap.size w w'
theorem a7.base {B B':Nat}(hB:B'≤B){w:World}{vs:Nat→Value}{t:aI}(h:a7 B w vs t):a7 B' w vs t:=by
 obtain⟨h0,n1,n2,h1,h2,h3⟩:=h;exact⟨h0,n1,n2,h1.base hB,h2.base hB,h3⟩
theorem sV {w:World}{P:Int}{A:OAd}{n c:Nat}{ts:List aI}(h:bK w A n c ts)(hn:n≤2513169434916) :
  Calls Tryz.prog 62 #[.agg #[.int .i64 P,.slice A n c]] w (UF (kR ⟨P,ts⟩) w):=by
 have HB:=aA (aB w);have H:=aA h;have HL:=aA h.len;clear h;go_enter Tryz.func62,Tryz.ntmps62
 go_wp2
 generalize hw1:((w.alloc (.cells #[.int .i64 P,.slice A n c] 24)).alloc (.cells #[.int .i64 0,.slice none 0 0] 24)).alloc (.cells #[.int .i64 P,.slice none 0 0] 24)=w1;have hb1:Below w.heap.size w w1:=by rw[←hw1];exact(((Below.refl _ _).alloc (Nat.le_refl _) _).alloc (by simp) _).alloc (by simp;omega) _
 obtain⟨f1,f2,f3,f4,f5,f6⟩:=VV w #[.int .i64 P,.slice A n c] #[.int .i64 0,.slice none 0 0] #[.int .i64 P,.slice none 0 0] 24 24 24;rw[hw1]at f1 f2 f3 f4 f5 f6;have hz0:w1.cell? ⟨w.heap.size+1,0,none⟩=some (.int .i64 0):=f2 0;have hz1:w1.cell? ⟨w.heap.size+1,1,none⟩=some (.slice none 0 0):=f2 1;have hf0:w1.frozen? ⟨w.heap.size+1,0,none⟩=false:=f4 0;have hf1:w1.frozen? ⟨w.heap.size+1,1,none⟩=false:=f4 1;have ho0:w1.cell? ⟨w.heap.size+1+1,0,none⟩=some (.int .i64 P):=f3 0;have ho1:w1.cell? ⟨w.heap.size+1+1,1,none⟩=some (.slice none 0 0):=f3 1;have hof:w1.frozen? ⟨w.heap.size+1+1,1,none⟩=false:=f5 1;have hs1:w1.heap.size=w.heap.size+3:=f6;clear f1 f2 f3 f4 f5 f6;have HS1:=aA hs1;have hs2:w.heap.size+2<w1.heap.size:=by omega
 have B1:=aA hb1;clear hw1 hb1 hs1;go_loopg [12] n (fun gk i wr=>∃(k:Nat) (A':OAd) (c':Nat),k+gk=n∧i=.int .i64 k∧wr.cell? ⟨w.heap.size+1+1,0,none⟩=some (.int .i64 P)∧wr.cell? ⟨w.heap.size+1+1,1,none⟩=some (.slice A' k c')∧wr.frozen? ⟨w.heap.size+1+1,1,none⟩=false ∧
  Hid (aC (a7 w1.heap.size) 3 wr w1.heap.size 49 (.slice A' k c') k ((ts.take k).map pU))∧Hid (Below (w.heap.size+2) w1 wr)∧w1.heap.size≤wr.heap.size)
 case atStart=>exact⟨0,none,0,by omega,rfl,ho0,ho1,hof,aC.nil,Below.refl _ _,Nat.le_refl _⟩
 case round =>
  obtain⟨k,A',c',hk,rfl,u0,u1,uf,own,hb,hsz⟩:=hrel;by_cases hlt:k<n
  ·obtain⟨bl,off,t,A1,n1,c1,A2,n2,c2,rfl,hbl,ht,q0,q1,q2,i1,i2,m1,m2⟩:=bK.get H.o hlt;have hbw:=B1.o.trans (hb.o.mono (by omega));have q0':=(hbw.cell (p:=⟨bl,off+k*3,none⟩) hbl).trans q0;have q1':=(hbw.cell (p:=⟨bl,off+k*3+1,none⟩) hbl).trans q1;have q2':=(hbw.cell (p:=⟨bl,off+k*3+2,none⟩) hbl).trans q2;have I1:=aA (i1.keep hbw);have I2:=aA (i2.keep hbw);have hst:=aA (Fa ht.o);clear hbw q0 q1 q2 i1 i2;go_upto_region 5 with fail
   generalize hw2:wr.alloc (.cells #[.int .i64 t.label,.slice A1 n1 c1,.slice A2 n2 c2] 49)=w2;have hb2:Below wr.heap.size wr w2:=by rw[←hw2];exact aB _ _
   have x0:w2.cell? ⟨wr.heap.size,0,none⟩=some (.int .i64 t.label):=by rw[←hw2];simp
   have x1:w2.cell? ⟨wr.heap.size,1,none⟩=some (.slice A1 n1 c1):=by rw[←hw2];simp
   have x2:w2.cell? ⟨wr.heap.size,2,none⟩=some (.slice A2 n2 c2):=by rw[←hw2];simp
   have sz2:wr.heap.size<w2.heap.size:=by rw[←hw2];simp
   have y1:w2.cell? ⟨w.heap.size+1+1,1,none⟩=some (.slice A' k c'):=(hb2.cell (p:=⟨w.heap.size+1+1,1,none⟩) (by show w.heap.size+1+1<wr.heap.size;omega)).trans u1;have y0:w2.cell? ⟨w.heap.size+1+1,0,none⟩=some (.int .i64 P):=(hb2.cell (p:=⟨w.heap.size+1+1,0,none⟩) (by show w.heap.size+1+1<wr.heap.size;omega)).trans u0;have yf:w2.frozen? ⟨w.heap.size+1+1,1,none⟩=false:=(hb2.frozen (p:=⟨w.heap.size+1+1,1,none⟩) (by show w.heap.size+1+1<wr.heap.size;omega)).trans uf;have D0:=aA (hb2.trans ((Below.refl _ _).drew:Below wr.heap.size w2 w2.drew));have D1:=aA ((Below.refl _ _).drew:Below w2.heap.size w2 w2.drew);have J1:=aA (I1.o.keep D0.o);have J2:=aA (I2.o.keep D0.o);have ow2:=aA (own.o.keep (a7.kept _) D0.o);have sob:w.heap.size+1+1<w2.heap.size:=by omega
   have sb:w1.heap.size≤w2.heap.size:=by omega
   have hbx:=aA (hb.o.trans (D0.o.mono (by omega)));have Y0:=aA y0;have SOB:=aA (show w.heap.size+1+1<w1.heap.size by omega);have YF:=aA yf;clear hw2 hb2 u0 u1 uf own hb y0 yf;refine lV 12 [(0,0),(0,1),(0,2),(0,3),(0,4),(0,5),(0,7),(0,8),(1,6),(1,9),(0,10),(1,11),(2,12),(2,13),(2,14)] (fun w'=>w'.cell? ⟨wr.heap.size,0,none⟩=some (.int .i64 t.label)∧w'.cell? ⟨wr.heap.size,1,none⟩=some (.slice A1 n1 c1)∧w'.cell? ⟨wr.heap.size,2,none⟩=some (.slice A2 n2 c2)∧w'.cell? ⟨w.heap.size+1+1,1,none⟩=some (.slice A' k c')) (by kernel_rfl) (by kernel_rfl) (by kernel_rfl) (fun _ _ _ _ _ h=>h) ⟨x0,x1,x2,y1⟩ (fun hH=>?_);refine mE (v:=?_) rfl (by rfl) hH (fun w' hSw=>?_) ?_
   rotate_left
   ·(go_simp;try with_reducible rfl)
   simp only[Act.put,aL,aM,aN];refine mE (v:=?_) rfl (by rfl) hH (fun w' hSw=>?_) ?_
   rotate_left
   ·(go_simp;try with_reducible rfl)
   simp only[Act.put,aL,aM,aN];refine mE (v:=?_) rfl (by rfl) hH (fun w' hSw=>?_) ?_
   rotate_left
   ·(go_simp;try with_reducible rfl)
   simp only[Act.put,aL,aM,aN];refine mE (v:=?_) rfl (by rfl) hH (fun w' hSw=>?_) ?_
   rotate_left
   ·(go_simp;try with_reducible rfl)
   simp only[Act.put,aL,aM,aN];refine mE (v:=?_) rfl (by rfl) hH (fun w' hSw=>?_) ?_
   rotate_left
   ·(go_simp;try with_reducible rfl)
   simp only[Act.put,aL,aM,aN];refine mE (v:=?_) rfl (by rfl) hH (fun w' hSw=>?_) ?_
   rotate_left
   ·(go_simp;try with_reducible rfl)
   simp only[Act.put,aL,aM,aN];refine mE (v:=?_) rfl (by rfl) hH (fun w' hSw=>?_) ?_
   rotate_left
   ·(go_simp;try with_reducible rfl)
   simp only[Act.put,aL,aM,aN];refine mE (v:=?_) rfl (by rfl) hH (fun w' hSw=>?_) ?_
   rotate_left
   ·(go_simp;try with_reducible rfl)
   simp only[Act.put,aL,aM,aN];refine Jp rfl (fun K hK=>?_);go_simp;go_at_call 73
   (with_reducible refine(bE J2.o m2).mono ?_)
   rintro e w3 ⟨v3,rfl,o3,b3⟩;obtain⟨C3,k3,hv3,_⟩:=o3.sl (by omega);subst hv3;have p0:=(b3.cell (p:=⟨wr.heap.size,0,none⟩) sz2).trans x0;have p1:=(b3.cell (p:=⟨wr.heap.size,1,none⟩) sz2).trans x1;have p3:=(b3.cell (p:=⟨wr.heap.size,2,none⟩) sz2).trans x2;have p2:=(b3.cell (p:=⟨w.heap.size+1+1,1,none⟩) sob).trans y1;have O3:=aA o3;have E3:=aA b3;have K1:=aA (J1.o.keep b3);have sz3:=Nat.lt_of_lt_of_le sz2 b3.size;have sob3:=Nat.lt_of_lt_of_le sob b3.size;clear b3 o3;refine hK.out _ _ ⟨p0,p1,p3,p2⟩ (fun hH=>?_);clear hK;refine Jp rfl (fun K hK=>?_);go_simp;go_at_call 73
   (with_reducible refine(bE K1.o m1).mono ?_)
   rintro e w4 ⟨v4,rfl,o4,b4⟩;obtain⟨C4,k4,hv4,_⟩:=o4.sl (by omega);subst hv4;have r0:=(b4.cell (p:=⟨wr.heap.size,0,none⟩) sz3).trans p0;have r1:=(b4.cell (p:=⟨wr.heap.size,1,none⟩) sz3).trans p1;have r3:=(b4.cell (p:=⟨wr.heap.size,2,none⟩) sz3).trans p3;have r2:=(b4.cell (p:=⟨w.heap.size+1+1,1,none⟩) sob3).trans p2;have E4:=aA (E3.o.trans (b4.mono E3.o.size));have s0:=(E4.o.cell (p:=⟨w.heap.size+1+1,0,none⟩) sob).trans Y0.o;have sf:=(E4.o.frozen (p:=⟨w.heap.size+1+1,1,none⟩) sob).trans YF.o;have OW4:=aA (ow2.o.keep (a7.kept _) E4.o);have SB4:=aA (Nat.le_trans sb E4.o.size);have so4:=Nat.lt_of_lt_of_le sob E4.o.size;have sz4:=Nat.lt_of_lt_of_le sz2 E4.o.size;have KP4:=aA (If OW4.o);have RD4:=aA (show a7 w1.heap.size w4 (fun j=>[Value.int .i64 t.label,.slice C3 n2 k3,.slice C4 n1 k4].getD j undef) (pU t)from⟨rfl,n2,n1,(O3.o.keep iG.kept b4).base sb,o4.base (Nat.le_trans sb E3.o.size),m2,m1⟩);clear b4 o4;refine hK.out _ _ ⟨r0,r1,r3,r2⟩ (fun hH=>?_);clear hK;refine mE (v:=?_) rfl (by rfl) hH (fun w' hSw=>?_) ?_
   rotate_left
   ·(go_simp;try with_reducible rfl)
   simp only[Act.put,aL,aM,aN];refine Jp rfl (fun K hK=>?_);go_simp
   refine hK.out _ _ (by simp[*,World.cell?_alloc_some]) (fun hH=>?_);clear hK;refine Jq rfl (fun K hK=>?_);refine jD MR rfl (.tmp 17) (.tmp 27) rfl [pU t] #[.int .i64 t.label,.slice C3 n2 k3,.slice C4 n1 k4] rfl rfl (by first|rfl|simp) rfl rfl (by omega) (by simp[Value.oneCell']) OW4.o (a6.tran RD4.o) rfl (Below.refl w1.heap.size w4) SB4.o (by omega) (by omega) KP4.o ?_;intro g cap w5 own5 hg5 hb5 hBg hgl;have t0:=(hb5.cell (p:=⟨w.heap.size+1+1,0,none⟩) SOB.o).trans s0;have t1:=(hb5.cell (p:=⟨w.heap.size+1+1,1,none⟩) SOB.o).trans r2;have t2:=(hb5.frozen (p:=⟨w.heap.size+1+1,1,none⟩) SOB.o).trans sf;have O5:=aA own5;have HB5:=aA hb5;clear own5 hg5 hb5;refine hK.out _ _ ?_;clear hK;simp only[Act.put,aL,aM,aN];refine Jq rfl (fun K hK=>?_);go_simp
   refine hK.out _ _ ?_;clear hK;refine Jq rfl (fun K hK=>?_);go_simp
   refine hK.out _ _ ?_;clear hK;simp only[eR]
   all_goals
    go_wp2
    go_roundg (gk-1)
    case measure=>omega
    case rel =>
     refine⟨k+1,some ⟨g,0,none⟩,cap,by omega, ?_, ?_, ?_, ?_,by rw[hst.o];exact iC O5.o (by omega),Fb hbx.o HB5.o E4.o (by omega),by have:=HB5.o.size;have:=SB4.o;simp[World.setCell];omega⟩
     ·simp
     ·exact(World.cell?_setCell_other _ _ _ _ (by simp)).trans t0
     ·exact World.cell?_setCell_same _ _ _ t1
     ·rw[World.frozen?_setCell];exact t2
  ·obtain rfl:k=n:=by omega
   have hst:=aA (show(ts.take k).map pU=(kR ⟨P,ts⟩).trans by rw[List.take_of_length_le (by rw[HL.o];omega)];rfl);have hbw:=B1.o.trans (hb.o.mono (by omega));have z0:=(hb.o.cell (p:=⟨w.heap.size+1,0,none⟩) (by show w.heap.size+1<w.heap.size+2;omega)).trans hz0;have z1:=(hb.o.cell (p:=⟨w.heap.size+1,1,none⟩) (by show w.heap.size+1<w.heap.size+2;omega)).trans hz1;have zf0:=(hb.o.frozen (p:=⟨w.heap.size+1,0,none⟩) (by show w.heap.size+1<w.heap.size+2;omega)).trans hf0;have zf1:=(hb.o.frozen (p:=⟨w.heap.size+1,1,none⟩) (by show w.heap.size+1<w.heap.size+2;omega)).trans hf1;have HBW:=aA hbw;have OW:=aA own.o;have SW:=aA HS1.o;clear own hb hbw;go_wp2
   have r0:((wr.setCell ⟨w.heap.size+1,0,none⟩ (.int .i64 P)).setCell ⟨w.heap.size+1,1,none⟩ (.slice A' k c')).cell? ⟨w.heap.size+1,0,none⟩=some (.int .i64 P):=by
    rw[World.cell?_setCell_other _ _ _ _ (by simp),World.cell?_setCell_same _ _ _ z0]
   have r1:((wr.setCell ⟨w.heap.size+1,0,none⟩ (.int .i64 P)).setCell ⟨w.heap.size+1,1,none⟩ (.slice A' k c')).cell? ⟨w.heap.size+1,1,none⟩=some (.slice A' k c'):=by
    rw[World.cell?_setCell_same _ _ _ ((World.cell?_setCell_other _ _ _ _ (by simp)).trans z1)]
   refine bodyPost_ret (v:=.agg #[.int .i64 P,.slice A' k c']) (by simp[results,Tryz.results62,go_sem,r0,r1]) rfl ?_;refine⟨A',k,c',rfl, ?_,(HBW.o.setCell (by simp) _).setCell (by simp) _⟩;have s1:=(iC (j:=0) (u:=.int .i64 P) OW.o (show w.heap.size+1<w1.heap.size by have:=SW.o;omega)).o;have s2:=(iC (j:=1) (u:=.slice A' k c') s1 (show w.heap.size+1<w1.heap.size by have:=SW.o;omega)).o;rw[hst.o]at s2;obtain⟨cells,q1,q2,q3⟩:=s2.base (show w.heap.size≤w1.heap.size by have:=SW.o;omega);exact⟨cells,q1,⟨q2.1,fun i x hx=>by obtain⟨vs,a,b⟩:=q2.2 i x hx;exact⟨vs,a,b.base (by have:=SW.o;omega)⟩⟩,q3⟩
theorem mK {w:World}{P:Int}{A:OAd}{n c:Nat}{ts:List aI}(h:bK w A n c ts)(hn:n≤2513169434916) :
  Calls Tryz.prog 62 #[.agg #[.int .i64 P,.slice A n c]] w (VU (kR ⟨P,ts⟩) w):=by
 refine(sV h hn).mono ?_;rintro e w' ⟨A',n',c',rfl,own,hb⟩;have hn':n'≤2513169434916:=by
  have h1:=own.len;have h2:=h.len;simp only[kR,List.length_map]at h1;omega
 obtain⟨C,cc,hv,hs⟩:=own.sl (by omega);injection hv with e1 e2 e3;subst e1 e3;exact⟨_,_,_,rfl,hs.imp fun _ _ h=>h.tran,hb⟩
theorem JD {w:World}{B:Nat}{v:Value}{n m c:Nat}{A:OAd}{xs ys:LIn}(ty:TypeId)(own:aD w B v n xs)(src:aJ w A m c ys)(hB:B≤w.heap.size)(h63:n+m≤17592186044416) :
  ∃v' w',(Builtin.append_ #[28,28] ty #[v,.slice A m c]).run Tryz.prog w=.ok v' w'∧aD w' B v' (n+m) (xs++ys)∧w.grownBy w' v.ownBlock∧(v'.ownBlock=v.ownBlock∨v'.ownBlock=some w.heap.size):=by
 obtain⟨i,z,h1,h2,h3,h4,h5⟩:=kQ.info;cases hA:A with
 | none =>
  subst hA;have hc:=src.nul rfl;have hm:m=0:=by have:=src.le;omega
  subst hc hm;have hy:=List.eq_nil_of_length_eq_zero src.len;subst hy;refine⟨v,w,run_append_owned_none (P:=Tryz.prog) (w:=w) B 28 ty 3 i 1 kQ.und h1 v n _ own.row,by simpa using own,World.grownBy.refl _ _,.inl rfl⟩
 | some ad =>
  subst hA;obtain⟨ds,d1,d2,d3,d4,d5⟩:=Sl.flat iG.good src;obtain⟨v',w',hr,r1,r2,_,r5⟩:=run_append_own_at (P:=Tryz.prog) w B 28 ty 3 i z 1 8 kQ.und h1 h2 h3 h4 h5 kQ.pos v n (xs.map (Value.int .i64)) own.row ad m c ds (by simpa using d1) (d3 ad rfl) d4 (by simp only[maxLen];omega) (by omega) hB;have DS:ds=ys.map (Value.int .i64):=by
   apply List.ext_getElem?
   intro j;cases hx:ys[j]? with
   | none =>
    rw[List.getElem?_map,hx,List.getElem?_eq_none (by have:=d5.1;have:=List.getElem?_eq_none_iff.1 hx;omega)];rfl
   | some x =>
    obtain⟨vs,a,e⟩:=d5.2 j x hx;have:=a 0 (by omega);simp only[Nat.mul_one,Nat.add_zero]at this;rw[this,List.getElem?_map,hx,e];rfl
  rw[DS,←List.map_append]at r1;exact⟨v',w',hr,aD.of_row r1,r2,r5⟩
theorem Nu {o:Oper} {a:Act} {K:Act→World→Prop} {Q:Exit→Act→World→Prop} (s x:Operand)
  (ho:o.op=.call {callee:=.builtin .append,args:=#[s,x],argTypes:=#[28,28]})
  {w0 w:World} {B B0:Nat} {v:Value} {n m c:Nat} {A:OAd} {xs ys:LIn} (hs:a.eval s=v) (hx:a.eval x=.slice A m c) (own:aD w B v n xs) (src:aJ w A m c ys) (hB:B≤w.heap.size) (h63:n+m≤17592186044416)
  (hb:Below B0 w0 w) (hB0:B0≤B)
  (hK:∀v' w',aD w' B v' (n+m) (xs++ys)→w.grownBy w' v.ownBlock→Below B0 w0 w'→(v'.ownBlock=v.ownBlock∨v'.ownBlock=some w.heap.size)→K (a.put o.dst v') w'):o.wp Tryz.prog a w K Q:=by
 obtain⟨v',w',hr,r1,r2,r5⟩:=JD o.type own src hB h63;have h:=hK v' w' r1 r2 (hb.grown r2 (Nat.le_trans hB0 hB) (fun k hk=>Nat.le_trans hB0 (own.lt k hk).1)) r5;unfold Oper.wp execOp;simp only[ho,resolve,invoke,builtin,Sem.run_bind,Sem.run_pure,Result.andThen_ok,List.map_toArray,List.map_cons,List.map_nil,hs,hx,hr];exact h
theorem iT {ops:Array Oper} {rest:List Oper} {o:Oper} {a:Act} {Q:Exit→Act→World→Prop} (hgd:o.guard=none) (s x:Operand)
  (ho:o.op=.call {callee:=.builtin .append,args:=#[s,x],argTypes:=#[28,28]})
  {w0 w:World} {B B0:Nat} {v:Value} {n m c:Nat} {A:OAd} {xs ys:LIn} (hs:a.eval s=v) (hx:a.eval x=.slice A m c) (own:aD w B v n xs) (src:aJ w A m c ys) (hB:B≤w.heap.size) (h63:n+m≤17592186044416)
  (hb:Below B0 w0 w) (hB0:B0≤B)
  (hK:∀v' w',aD w' B v' (n+m) (xs++ys)→w.grownBy w' v.ownBlock→Below B0 w0 w'→(v'.ownBlock=v.ownBlock∨v'.ownBlock=some w.heap.size)→wpList Tryz.prog ops Q rest (a.put o.dst v') w'):wpList Tryz.prog ops Q (o::rest) a w :=
 wpList_plain hgd fun _ hK'=>Nu s x ho hs hx own src hB h63 hb hB0 fun v' w' h1 h2 h3 h4=>hK' _ _ (hK v' w' h1 h2 h3 h4)
end Go.Proofs.YtfmnagcglhlicaaGreat
