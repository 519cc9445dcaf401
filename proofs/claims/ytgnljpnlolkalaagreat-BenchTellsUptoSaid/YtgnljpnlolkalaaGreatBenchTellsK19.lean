/- Texts melted into one: The contract of Grow. Conditions: the block reads as a tree. | The contract of leave. Conditions: the aligner lies in a box; arcs are between marks. | The contract of Reverse on an own row of moves: it ends. Conditions: the row's cells are numbers. | The moves as they are appe -/
import Derived.Test.YtgnljpnlolkalaaGreatBenchTellsK18
set_option linter.all false
set_option maxRecDepth 100000
set_option maxHeartbeats 16000000
namespace Go.Proofs.YtgnljpnlolkalaaGreat
open Go.RowKit
def NW {a b c:World}{r:Option Nat}(h:a.grownBy b r)(g:b.grownBy c r):a.grownBy c r :=
 ⟨g.os.trans h.os,g.tape.trans h.tape,g.output.trans h.output,aT h.size g.size,λk d e=>(g.block k (bD d h.size) e).trans (h.block k d e)⟩
def gOf {a b:World}{r:Option Nat}(h:Below a a b):a.grownBy b r:=⟨h.os,h.tape,h.output,h.size,λk c _=>h.block k c⟩
def Lp {a b c:World}{r:Option Nat}(h:a.grownBy b r)(g:Below a b c):a.grownBy c r :=
 ⟨g.os.trans h.os,g.tape.trans h.tape,g.output.trans h.output,aT h.size g.size,λk d e=>(g.block k d).trans (h.block k d e)⟩
def Ta {a b:World}{g N:Nat}(h:a.grownBy b (some g))(c:N<=g)(d:N<=a.heap.size):Below N a b :=
 ⟨h.os,h.tape,h.output,h.size,λk f=>h.block k (by omega) (λe=>by injection e with e;omega)⟩
def Xz {a b:World}{g k ty:Nat}{cs:Array Value}(h:a.grownBy b (some g))(d:Box a k ty cs)(c:k≠g):Box b k ty cs:=(h.block k d.lt (λe=>by injection e with e;exact c e)).trans d
def Sl.save {N n c g:Nat}{w w':World}{C:OAd}{l:List bG}{cs:Array Value}(h:Sl (jF N) 3 w C n c l)(m:∀b a,C=some ⟨b,a,none⟩->0<n->b≠g)(o:Box w g 41 cs)(p:N<=g)(f:w.grownBy w' (some g)):Sl (jF N) 3 w' C n c l:=by
 refine⟨h.len,h.le,h.cap,h.small,h.nul,λk=>?_⟩;obtain⟨b,a,e,d,r⟩:=h.cells k;refine⟨b,a,e,bD d f.size,λi x s=>?_⟩;obtain⟨vs,t,u⟩:=r i x s;exact⟨vs,λq v=>(sA (f.block b d (λj=>by injection j with j;exact m b a e k j))).trans (t q v),u.turn p o (by decide) f⟩
def Yv.get {N:Nat}{w:World}{A:OAd}{n c k:Nat}{ts:List bG}(h:Sl (jF N) 3 w A n c ts)(e:k<n) :
  ∃b a t A1 n1 c1 A2 n2 c2,A=some ⟨b,a,none⟩/\b<w.heap.size/\Hid (ts[k]?=some t)/\w.cell? ⟨b,a+k*3,none⟩=some (.int .i64 t.label) /\
   w.cell? ⟨b,a+k*3+1,none⟩=some (.slice A1 n1 c1)/\w.cell? ⟨b,a+k*3+2,none⟩=some (.slice A2 n2 c2)/\aY w A1 n1 c1 t.pre/\aY w A2 n2 c2 t.post:=by
 obtain⟨b,a,t,vs,f,g,i,d,j,A1,n1,c1,A2,n2,c2,l,m,o,p,_⟩:=Sl.get h e;refine⟨b,a,t,A1,n1,c1,A2,n2,c2,f,g,aA i, ?_, ?_, ?_,o,p⟩
 .rw[<-j];simpa using d 0 (by omega)
 .rw[<-l];simpa [Nat.add_assoc] using d 1 (by omega)
 .rw[<-m];simpa [Nat.add_assoc] using d 2 (by omega)
def Tc (Q:Exit->Act->World->Prop):Exit->Act->World->Prop
 | .panic _,_,_=>False
 | e,a,w=>Q e a w
def Xn {P:Program}{c:Code}{Q:Exit->Act->World->Prop}{a:Act}{w:World}(h:c.wp P (Tc Q) a w):c.wp P Q a w :=
 Code.wp_mono (λe a w h=>by
  cases e <;> first|exact h|exact h.elim) h
def Vm (r:eB×Int)(w:World)(e:Ending)(w':World):Prop :=
 ∃A n c,e=.returned (.tuple #[.agg #[.int .i64 r.1.places,.slice A n c],.int .i64 r.2])/\aJ (bT w.heap.size) 3 w' w.heap.size 74 (.slice A n c) n r.1.trans/\Below w.heap.size w w'
def PW {d:Nat}{w:World}{kd lb:Int}{A:OAd}{n c:Nat}{ks:List bH}(h:pQ d w A n c ks)(hw:eK (.mk kd lb ks)=0)(hf:dB (jJ (.mk kd lb ks))) :
  Calls Tryz.prog 11 #[.agg #[kd,lb,.slice A n c]] w (Vm (hJ (.mk kd lb ks)) w):=by
 have c5:∀(fn:Fn) (first cap:Array Value) (w:World),(Instr.makeFunc fn first cap).run Tryz.prog w=.ok (.func fn first cap) w:=λ_ _ _ _=>rfl
 have GP:=aA (yP hw hf);rw[GP.o];have HI:=aA (Ie (.mk kd lb ks));obtain⟨r,hr⟩:=aK (jJ (.mk kd lb ks));have HR:=aA hr;rw[hr]at hf ⊢;rw[hr]at HI;have LD:=aA (V6.new w #[kd,lb,.slice A n c]);have CW:=aA (lG (h.keep LD.o.below) (kd:=kd) (lb:=lb));have HW:=aA hw;have HF:=aA hf;have H:=aA h;rw[hw]at CW;clear h GP hw hf hr;go_enter_defers Tryz.func11,Tryz.ntmps11
 go_upto_region 1 with fail
 generalize ((w.alloc (.cells #[kd,lb,.slice A n c] 35)).alloc (.cells #[(0:Int),()] 41)).alloc (.cells #[(0:Int)] 23)=u at *
 have a0:=LD.o.arg.three;go_upto_region 5 with(go_at_call 24;(with_reducible refine CW.o.mono ?_);rintro e w1 ⟨rfl,T⟩;have L1:=aA (LD.o.keep T);clear T)
 go_upto_region 6 with fail
 have o:=aF w1 (.cells #[(2:Int),()] 68);have CG:=aA (lR (NP w w1 41 d kd lb A n c 0 ks 0 1 () ⟨2,[]⟩ _ HW.o H.o ⟨L1.o.below.size,Box.new w1 _ _,aJ.nil⟩ (L1.o.keep o).below (by decide)) (by have:=HF.o;rw[<-HR.o]at this;exact this));obtain⟨bg,q⟩:=aK (w1.heap.size);have L2:=aA (L1.o.keep o);have NE:=aA (show w.heap.size+1<bg from by rw[<-q];exact L1.o.net.lt);rw[q]at CG;generalize w1.alloc (.cells #[(2:Int),()] 68)=w2 at *
 have a1:=L2.o.arg.three;clear o a0;rw[q];clear q;go_upto_region 7 with(go_at_call 28;(with_reducible refine CG.o.mono ?_);rintro e U ⟨rfl,⟨v',hG⟩,T,hk⟩;have HG:=aA (show GrW w bg U v' r by rw[<-HR.o];exact hG);have HB:=aA T;have O:=aA (hk.box L2.o.net (by decide) (by decide));have X3:=aA (hk.box L2.o.err (by decide) (by decide));clear hG T hk)
 obtain⟨P,hP⟩:=aK (r.places);obtain⟨L,V⟩:=aK (r.links);obtain⟨K,hK⟩:=aK (L.length);have c6:P<=16:=by have:=HF.o.1;omega
 have c7:K<=24:=by have:=HF.o.2;rw[V]at this;omega
 have NK:=aA (show UI r=⟨P,L.map (sV P)⟩ by unfold UI;rw[hP,V]);have IK:=aA (show ∀t∈L,JA P t.pre/\JA P t.post by have:=HI.o;unfold InK at this;rw[hP,V]at this;exact this);obtain⟨C,cc,rfl,F⟩:=HG.o.own.sl (by have:=HF.o.2;omega);have p:=HG.o.own;have l:=HG.o.box;rw[hP]at l;rw[V,hK]at l F p;have XB:=aA l;have LS:=aA F;have CN:=aA (show ∀b G,C=some ⟨b,G,none⟩->0<K->b≠w.heap.size+1 from λb G e hn e'=>by
  obtain⟨_,o1,_⟩:=id p;have:=pG o1 O.o (by decide);subst e e';rcases o1.2 with⟨e,_⟩|⟨g',cap,c8,e,_⟩
  .cases e
  injection e with e _ _;injection e with e;injection e with e _ _;subst e;exact this rfl)
 have a9:=aA hK;rw[NK.o];have W:=kJ U (w.heap.size+1) 0 (.int .i64 P);have Q:=aA (show Box (U.setCell ⟨w.heap.size+1,0,none⟩ (.int .i64 P)) (w.heap.size+1) 41 #[.int .i64 P,()] by simpa using O.o.set 0 (.int .i64 P));have Z3:=aA (Xz W X3.o (by omega));have ZB:=aA (Xz W XB.o (by have:=NE.o;omega));have ZL:=aA (Sl.save LS.o CN.o O.o (by omega) W);have ZW:=aA (HB.o.trans (Ta W (by omega) HB.o.size));obtain⟨c0,c1⟩:=XB.o.two;have y0:U.cell? ⟨w.heap.size+1,0,none⟩=some (.int .i64 0):=O.o.cell 0;have yf:=O.o.frozen 0;clear p l F hP V hK W XB LS O X3 HG HB a1;go_upto_region 8 with fail
 generalize U.setCell ⟨w.heap.size+1,0,none⟩ (.int .i64 P)=s at *
 clear c0 c1 y0 yf;obtain⟨c0,c1⟩:=ZB.o.two;go_wp2
 go_loopg [30] K (λgk i wr=>∃(k:Nat) (y:OAd) (z:Nat),k+gk=K/\i=k/\Hid (Box wr (w.heap.size+1) 41 #[.int .i64 P,.slice y k z])/\Hid (aJ (bT s) 3 wr s 74 (.slice y k z) k ((L.take k).map (sV P)))/\Hid (s.grownBy wr (some (w.heap.size+1))))
 case atStart=>exact⟨0,none,0,by omega,rfl,Q,aA aJ.nil,aA (gOf (aH _ _))⟩
 case round =>
  obtain⟨k,y,z,hk,rfl,R,own,B⟩:=hrel;by_cases b0:k<K
  rotate_left
  .obtain rfl:k=K:=by omega
   have E3:=aA (Xz B.o Z3.o (by omega));have WB:=aA (ZW.o.trans (Ta B.o (by omega) ZW.o.size));have I:=aA (show(L.take k).map (sV P)=L.map (sV P) by rw[aW (by rw[a9.o];omega)]);have OW:=aA own.o;have SW:=aA (bD Q.o.lt (aB s));obtain⟨y0,y1⟩:=R.o.two;have f0:=R.o.frozen 0;have f1:=R.o.frozen 1;have u0:wr.cell? ⟨w.heap.size+1+1,0,none⟩=some (.int .i64 0):=E3.o.cell 0;have v0:=E3.o.frozen 0;clear own B;go_wp2
   obtain⟨t2,t3,tb⟩:=Zy WB.o (aB _) R.o E3.o P 0 (.slice y k z);refine leaves_cons (f:=27) (args:=#[.pointer (some ⟨w.heap.size+1,0,none⟩),.pointer (some ⟨w.heap.size+1+1,0,none⟩)]) (by simp) (by simp[go_sem]) ?_;refine PL.mono ?_;rintro e u' c9 ⟨rfl,rfl,rfl⟩;have e0:=t2.cell 0;have e1:=t2.cell 1;have e2:=t3.cell 0;rw[NK.o];refine⟨.tuple #[.agg #[.int .i64 P,.slice y k z],(0:Int)],(by simp[results,Tryz.results11,go_sem,e0,e1,e2]),y,k,z,rfl, ?_,tb⟩;have s1:=(gK (j:=0) (u:=.int .i64 0) (gK (j:=1) (u:=.slice y k z) (gK (j:=0) (u:=.int .i64 P) OW.o SW.o).o SW.o).o (show w.heap.size+1+1<s.heap.size from Z3.o.lt)).o;rw[I.o]at s1;have Y:w.heap.size<=s.heap.size:=by have:=Q.o.lt;omega
   obtain⟨J,q1,q2,q3⟩:=s1.base Y;exact⟨J,q1,⟨q2.1,λi x hx=>by obtain⟨vs,a,b⟩:=q2.2 i x hx;exact⟨vs,a,b.base Y⟩⟩,q3⟩
  have LW:=Sl.save ZL.o CN.o Q.o (by omega) B.o;obtain⟨bl,G,t,A1,n1,m,A2,n2,c2,rfl,d0,ht,q0,q1,q2,i1,i2⟩:=Yv.get LW b0;have o:=aF wr (.cells #[.int .i64 t.label,.slice A1 n1 m,.slice A2 n2 c2] 71);have Z:=IK.o t (aS ht.o);have I:=aA (Ig (P:=P) ht.o);have m1:n1<=1000:=by have:=i1.len;have:=Z.1.2.2;omega
  have m2:n2<=1000:=by have:=i2.len;have:=Z.2.2.2;omega
  have b1:=aA Z.1.1;have b2:=aA Z.2.1;have I1:=aA (i1.keep o);have I2:=aA (i2.keep o);have X:=aA (Box.new wr #[.int .i64 t.label,.slice A1 n1 m,.slice A2 n2 c2] 71);have a2:=aA (R.o.keep o);have a3:=aA ((Xz B.o ZB.o (by have:=NE.o;omega)).keep o);have b3:=aA (own.o.keep (bT.kept _) o);have SZ:=aA B.o.size;have b4:=aA (Lp B.o (o.mono SZ.o));have sz:s.heap.size<=(wr.alloc (.cells #[.int .i64 t.label,.slice A1 n1 m,.slice A2 n2 c2] 71)).heap.size:=aT SZ.o o.size;have b5:=aA sz;have RX:=aA (show wr.heap.size<(wr.alloc (.cells #[.int .i64 t.label,.slice A1 n1 m,.slice A2 n2 c2] 71)).heap.size by simp);obtain⟨bx,a4⟩:=aK (wr.heap.size);rw[a4]at X RX;clear LW i1 i2 o Z own R B sz;go_upto_region 11 with fail
  clear a4 q0 q1 q2;generalize wr.alloc (.cells #[.int .i64 t.label,.slice A1 n1 m,.slice A2 n2 c2] 71)=w5 at *
  obtain⟨x0,x1,x2⟩:=X.o.three;obtain⟨y0,y1⟩:=a2.o.two;obtain⟨z0,_⟩:=a3.o.two;have D:=((aH _ _).drew:Below w5 w5 w5.drew);have J1:=aA (I1.o.keep D);have J2:=aA (I2.o.keep D);have X5:=aA (X.o.keep D);have B5:=aA (a2.o.keep D);have G5:=aA (a3.o.keep D);have O5:=aA (b3.o.keep (bT.kept _) D);have S5:=aA (Lp b4.o (D.mono b5.o));clear D;refine Xn ?_;refine gZ 20 [(0,0),(0,1),(0,2),(0,3),(0,4),(0,5),(0,6),(0,7),(0,8),(0,9),(0,11),(0,12),(0,13),(0,14),(0,15),(0,16),(1,10),(1,17),(0,18),(1,19),(2,20),(2,21),(2,22)] (λw'=>w'.cell? ⟨bx,0,none⟩=some (.int .i64 t.label)/\w'.cell? ⟨bx,1,none⟩=some (.slice A1 n1 m)/\w'.cell? ⟨bx,2,none⟩=some (.slice A2 n2 c2)/\w'.cell? ⟨w.heap.size+1,1,none⟩=some (.slice y k z)/\w'.cell? ⟨bg,0,none⟩=some (.int .i64 P)) (by kernel_rfl) (by kernel_rfl) (by kernel_rfl) (λ_ _ _ _ _ h=>h) ⟨x0,x1,x2,y1,z0⟩ (λhH=>?_)
  iterate 16
   refine nG (v:=?_) rfl (by rfl) hH (λw' b9=>?_) ?_
   rotate_left
   ·(go_simp;try with_reducible rfl)
   simp only[aC]
  refine Oc rfl (λK hK=>?_);go_simp;go_at_call 29
  (with_reducible refine(vC J1.o (by omega) m1 b1.o).mono ?_)
  rintro e w6 ⟨g6,rfl,o6,M⟩;have X6:=aA (X5.o.keep M);have B6:=aA (B5.o.keep M);have G6:=aA (G5.o.keep M);have O6:=aA (O5.o.keep (bT.kept _) M);have K2:=aA (J2.o.keep M);have S6:=aA (Lp S5.o (M.mono S5.o.size));have W6:=aA (aJ.base o6 S5.o.size);clear M o6;refine hK.out _ _ ⟨X6.o.cell 0,X6.o.cell 1,X6.o.cell 2,B6.o.cell 1,G6.o.cell 0⟩ (λhH=>?_);clear hK;refine Oc rfl (λK hK=>?_);go_simp;go_at_call 29
  (with_reducible refine(vC K2.o (by omega) m2 b2.o).mono ?_)
  rintro e w7 ⟨g7,rfl,o7,N⟩;have S:=aA (X6.o.keep N);have B7:=aA (B6.o.keep N);have G7:=aA (G6.o.keep N);have O7:=aA (O6.o.keep (bT.kept _) N);have S7:=aA (Lp S6.o (N.mono S6.o.size));have RD:=aA (show bT s w7 (λj=>[Value.int .i64 t.label,.slice g6 P P,.slice g7 P P].getD j undef) (sV P t)from⟨rfl,P,P,W6.o.keep fG.kept N,aJ.base o7 S6.o.size,by omega,by omega⟩);have KP:=aA (Ge O7.o);clear N o7;refine hK.out _ _ ⟨S.o.cell 0,S.o.cell 1,S.o.cell 2,B7.o.cell 1,G7.o.cell 0⟩ (λhH=>?_);clear hK;refine nG (v:=?_) rfl (by rfl) hH (λw' b9=>?_) ?_
  rotate_left
  ·(go_simp;try with_reducible rfl)
  simp only[aC];refine Oc rfl (λK hK=>?_);go_simp
  refine hK.out _ _ (by refine⟨(S.o.old _).cell 0,(S.o.old _).cell 1,(S.o.old _).cell 2,(B7.o.old _).cell 1,(G7.o.old _).cell 0⟩) (λhH=>?_);clear hK;refine x5 rfl (λK hK=>?_);refine tQ Ew rfl (.tmp 35) (.tmp 53) rfl [sV P t] #[.int .i64 t.label,.slice g6 P P,.slice g7 P P] rfl rfl (by first|rfl|simp) rfl rfl (by omega) (by simp[Value.oneCell']) O7.o (cD.tran RD.o) rfl (aH s w7) S7.o.size (by omega) (by omega) KP.o ?_;intro g cap w8 E a5 a6 d1 d2;have B8:=aA (B7.o.grown a5 (λe=>by have:=(O7.o.lt _ e).1;have:=Q.o.lt;omega));have O8:=aA E;have S8:=aA (Lp S7.o a6);have v0:w8.cell? ⟨w.heap.size+1,1,none⟩=some (.slice y k z):=B8.o.cell 1;have v1:=B8.o.frozen 1;clear E a5 a6;refine hK.out _ _ ?_;clear hK;simp only[aC];refine x5 rfl (λK hK=>?_);go_simp
  refine hK.out _ _ ?_;clear hK;refine x5 rfl (λK hK=>?_);go_simp
  refine hK.out _ _ ?_;clear hK;simp only[gB,Tc]
  all_goals
   go_wp2
   go_roundg (gk-1)
   case measure=>omega
   case rel=>exact⟨k+1,some ⟨g,0,none⟩,cap,by omega,by go_num,aA (by simpa using B8.o.set 1 (.slice g (k+1) cap)),aA (by rw[I.o];exact(gK O8.o Q.o.lt).o),aA (NW S8.o (kJ w8 (w.heap.size+1) 1 _))⟩
def Xo (r:eB×Int)(w:World)(e:Ending)(w':World):Prop :=
 ∃A n c,e=.returned (.tuple #[.agg #[.int .i64 r.1.places,.slice A n c],.int .i64 r.2])/\eC w' A n c r.1.trans/\(r.2=0->aJ (bT w.heap.size) 3 w' w.heap.size 74 (.slice A n c) n r.1.trans)/\Below w.heap.size w w'
def Vm.net {r:eB×Int}{w w':World}{e:Ending}(h:Vm r w e w')(a:r.1.trans.length<=24):Xo r w e w':=by
 obtain⟨A,n,c,rfl,own,b⟩:=h;have j:n<=24:=by rw[<-own.len];exact a
 obtain⟨k,c2,d,f⟩:=own.sl (by omega);injection d with g l i;subst g i;exact⟨_,n,_,rfl,f.imp (λ_ _ h=>h.tran),λ_=>own,b⟩
def Lq {d:Nat}{w:World}{kd lb:Int}{A:OAd}{n c:Nat}{ks:List bH}(h:pQ d w A n c ks) :
  Calls Tryz.prog 11 #[.agg #[kd,lb,.slice A n c]] w (Xo (hJ (.mk kd lb ks)) w):=by
 by_cases a:eK (.mk kd lb ks)=0
 .by_cases b:dB (jJ (.mk kd lb ks))
  .refine(PW h a b).mono λe w' k=>k.net ?_
   rw[yP a b];simp only[UI,dQ];exact b.2
  refine(Sm h a b).mono λe w' ⟨A,n,c,g,i,j⟩=>⟨A,n,c,g,i,λf=>?_,j⟩
  rw[sR a b]at f;cases f
 .refine(PM h a).mono λe w' ⟨A,n,c,g,i,j⟩=>⟨A,n,c,g,i,λf=>?_,j⟩
  rw[qO a]at f;exact absurd f a
open Go.Maps
def EdA (ars:List cC)(lb:Int->Int)(tr:LIn)(u:Sp)(q:Nat)(v:Sp)(d:Int):Prop :=
 (u.1<(tr.length:Int)/\v=(u.1+1,u.2)/\d=1)∨∃a∈ars.take q,a.from_=u.2/\((v=(u.1,a.to_)/\d=min (lb a.tran) 1)∨((u.1<(tr.length:Int)/\0<lb a.tran/\tr[u.1.toNat]?=some (lb a.tran))/\v=(u.1+1,a.to_)/\d=0))
section
variable {ars:List cC} {lb:Int->Int} {tr:LIn} {u v:Sp} {q:Nat} {a:cC} {d:Int}
def Vn (h:Ed ars lb tr u v d):EdA ars lb tr u ars.length v d:=by
 rcases h with h|⟨a,b,c,e,f⟩|⟨a,b,c,e,f,g,i,j⟩
 .exact .inl h
 .exact .inr ⟨a,by rw[kA];exact b,c,.inl ⟨e,f⟩⟩
 exact .inr ⟨a,by rw[kA];exact b,c,.inr ⟨⟨e,f,g⟩,i,j⟩⟩
def NZ (h:EdA ars lb tr u 0 v d):u.1<(tr.length:Int)/\v=(u.1+1,u.2)/\d=1:=by
 rcases h with h|⟨a,b,_⟩
 .exact h
 simp at b
def Vo (g:ars[q]?=some a)(e:a.from_≠u.2)(h:EdA ars lb tr u (q+1) v d):EdA ars lb tr u q v d:=by
 rcases h with h|⟨b,c,f,i⟩
 .exact .inl h
 rw[bX g]at c;rcases cN.1 c with c|c
 .exact .inr ⟨b,c,f,i⟩
 rw[bJ.1 c]at f;exact absurd f e
def Vp (f:ars[q]?=some a)(h:EdA ars lb tr u (q+1) v d):EdA ars lb tr u q v d∨(v=(u.1,a.to_)/\d=min (lb a.tran) 1)∨((u.1<(tr.length:Int)/\0<lb a.tran/\tr[u.1.toNat]?=some (lb a.tran))/\v=(u.1+1,a.to_)/\d=0):=by
 rcases h with h|⟨b,c,g,e⟩
 .exact .inl (.inl h)
 rw[bX f]at c;rcases cN.1 c with c|c
 .exact .inl (.inr ⟨b,c,g,e⟩)
 rw[bJ.1 c]at e;exact .inr e
end
def N0 {L n:Nat}(c:L<=60)(d:n<=300){v:Sp}(h:InU L n v):okS v:=by
 obtain⟨⟨a,e⟩,b,f⟩:=h;exact⟨⟨a,by omega⟩,b,by omega⟩
def Vq (E:Sp->Sp->Int->Prop)(U:Sp->Prop)(dn:List Sp)(at_:Sp)(b K:Int)(R:Sp->Int->Prop)(bm q:Nat)(w0 w:World):Prop :=
 ∃(f:SpM) (a:Nat),lM w bm f a/\a<=q/\DL E U f dn at_ b R/\w0.grownBy w (some bm)/\∀v x,f v=some x->x.cost<=K
def Gv {f:SpM}{K:Int}(h:∀v x,f v=some x->x.cost<=K){v:Sp}{x:Bc}(b:x.cost<=K):∀u y,nS f v x u=some y->y.cost<=K:=λu y a=>by
 rcases Jj f v x with⟨e,_⟩|⟨e,_⟩
 .rw[e]at a;exact h u y a
 rw[e]at a;unfold wW at a;split at a
 .injection a with a;subst a;exact b
 exact h u y a
structure LvW (wP w wr:World)(ba bm b3 b4:Nat)(cs s3 s4:Array Value):Prop where
 x3:Box wr b3 90 s3
 x4:Box wr b4 94 s4
 xa:Box wr ba 97 cs
 hp:Below wP.heap.size wP wr
 gw:w.grownBy wr (some bm)
 ne:wP.heap.size<=bm/\bm≠ba/\bm≠b3/\bm≠b4
def LvW.grown {wP w wr w':World}{b bm c d:Nat}{cs s3 s4:Array Value}(h:LvW wP w wr b bm c d cs s3 s4)(a:wr.grownBy w' (some bm)):LvW wP w w' b bm c d cs s3 s4:=by
 obtain⟨f,g,i,j⟩:=h.ne;exact⟨h.x3.grown a (by simpa using i),h.x4.grown a (by simpa using j),h.xa.grown a (by simpa using g),h.hp.grown a h.hp.size (λk e=>by cases e;exact f),h.gw.trans a,h.ne⟩
def LvW.keep {wP w wr w':World}{b bm c d:Nat}{cs s3 s4:Array Value}(h:LvW wP w wr b bm c d cs s3 s4)(a:Below wr wr w'):LvW wP w w' b bm c d cs s3 s4 :=
 h.grown ⟨a.os,a.tape,a.output,a.size,λk e _=>a.block k e⟩
def l5 (w:World)(q:Nat):Below w w (w.drewN q):=⟨rfl,rfl,rfl,aB _,λ_ _=>rfl⟩
def Lr {wP w:World} {ba bm q:Nat} {P:Int} {A U V Q:OAd} {n0 c nm cu m cv l q0 n:Nat} {ts:List bG} {ars:List cC} {tr:LIn} {f:SpM} {dn:List Sp} {b i:Nat} {c0 Kc:Int}
  (X:Box w ba 97 #[P,.slice A n0 c,.slice U nm cu,.slice V m cv,.slice Q l q0,.map (some bm)]) (M:lM w bm f q) (hP:Below wP wP w) (f2:wP.heap.size<=bm) (f3:bm≠ba) (hT:eC wP A n0 c ts) (hA:qD wP V m cv ars) (g:aY wP Q l q0 tr)
  (ht:∀a∈ars,Inn n a.to_) (hr:∀a∈ars,Inn n0 a.tran) (c7:∀a∈ars,0<=atI (jU ⟨P,ts⟩) a.tran) (hn:n<=300) (hl:l<=60) (hm:m<=7200) (a2:InU tr.length n ((b:Int),(i:Int)))
  (D:DL (Ed ars (atI (jU ⟨P,ts⟩)) tr) (InU tr.length n) f dn ((b:Int),(i:Int)) c0 (λ_ _=>False)) (hq:q<=900000000) (hc:0<=c0/\c0<=1000000) (hB:∀v x,f v=some x->x.cost<=Kc) (hK:c0+1<=Kc) :
  Calls Tryz.prog 41 #[.pointer ba,.agg #[b,i]] w λe w'=>(∃y,e=.returned y)/\Vq (Ed ars (atI (jU ⟨P,ts⟩)) tr) (InU tr.length n) dn ((b:Int),(i:Int)) c0 Kc (Ed ars (atI (jU ⟨P,ts⟩)) tr ((b:Int),(i:Int))) bm (q+14401) w w':=by
 obtain⟨xa,c8,c9,d0⟩:=D.now;have LM:=aA M.lt;have LA:=aA X.lt;have d1:=aA (N0 (by rw[g.len];exact hl) hn a2);have X0:=aA (Box.new w #[b,i] 90);have B0:=aA (aF w (.cells #[b,i] 90));obtain⟨j,⟨ys,ym⟩,yk,yl,yt,yd⟩:=xa;simp only at d0 c9;subst d0 c9;have d2:=aA (λ(w':World) (hm:lM w' bm f q)=>show(Instr.lookup 95 (.map (some bm)) (.agg #[.int .i64 (b:Int),.int .i64 (i:Int)]) false).run Tryz.prog w'=.ok (.agg #[j,ys,ym,yk,yl,yt,.bool true]) w' from by
  have:=hm.at d1.o;rw[c8]at this;exact this)
 have XA:=aA (X.keep B0.o);have MA:=aA (M.keep B0.o);have HT:=aA hT;have HA:=aA hA;have G:=aA g;have HP:=aA hP;have f4:=aA hP.size;have GL:=aA g.len;have AL:=aA hA.len;have HD:=aA D;have N:=aA (show(∀a∈ars,Inn n a.to_)/\(∀a∈ars,Inn n0 a.tran)/\(∀a∈ars,0<=atI (jU ⟨P,ts⟩) a.tran)from⟨ht,hr,c7⟩);have a6:=aA a2;have a9:=aA hB;obtain⟨i2,i3⟩:=hc;clear X M hP hT hA g ht hr c7 a2 D hB c8;go_enter Tryz.func41,Tryz.ntmps41
 go_upto_region 1 with fail
 generalize w.alloc (.cells #[b,i] 90)=w0 at *
 have DR:=aA ((aH w0 w0).drew);have Y0:=aA (X0.o.keep DR.o);have YA:=aA (XA.o.keep DR.o);have YM:=aA (MA.o.keep DR.o);have a5:=YA.o.cell 5;simp only[aP,aQ,cB]at a5;obtain⟨z0,B⟩:=Y0.o.two;refine aN 7 (.takes [0,1,2,3,4,5] (.one 6 (.fin 7 .done))) (λw'=>w'.cell? ⟨ba,5,none⟩=some (.map (some bm))/\w'.cell? w=some (.int .i64 b)/\w'.cell? ⟨w,1,none⟩=some (.int .i64 i)/\lM w' bm f q) (by kernel_rfl) (by kernel_rfl) (by kernel_rfl) (λ_ _ _ _ _ h=>h) ⟨a5,z0,B,YM.o⟩ (λhH=>?_);simp only[Scr.takes];clear a5 z0 B;generalize w0.drew=w1 at *
 iterate 5
  refine aM (v:=?_) rfl (by rfl) hH (λw' d3=>?_) ?_
  rotate_left
  ·(go_simp;try with_reducible rfl)
  try simp only[aC]
 refine aM (v:=?_) rfl (by rfl) hH (λw' d3=>?_) ?_
 rotate_left
 .have i4:=d2.o w' d3.2.2.2;go_simp
  try with_reducible rfl
 try simp only[aC]
 have bz:=aA (aF w1 (.cells #[(0:Int),(0:Int),(0:Int),(0:Int),(0:Int),(0:Int),.bool false] 94));have a5:=(YA.o.keep bz.o).cell 5;simp only[aP,aQ,cB]at a5;refine bK rfl (λKf O=>?_);go_simp
 refine O.out _ _ ⟨a5,(Y0.o.keep bz.o).two.1,(Y0.o.keep bz.o).two.2,YM.o.keep bz.o⟩ (λhH=>?_);clear O a5 bz;try simp only[aC]
 have Y:=aF w1 (.cells #[j,ys,ym,yk,yl,yt,.bool true] 94);have X4:=aA (Box.new w1 #[j,ys,ym,yk,yl,yt,.bool true] 94);have X3:=aA (Y0.o.keep Y);have B4:=aA (show w.heap.size<=w1.heap.size from fR (Y0.o.lt));have b0:=aA (YA.o.keep Y);have M2:=aA (YM.o.keep Y);have BB:=aA (DR.o.trans (Y.mono DR.o.size));have BW:=aA (B0.o.trans (BB.o.mono B0.o.size));have d4:=aA (HP.o.trans (BW.o.mono f4.o));have GW:=aA (show w.grownBy (w1.alloc (.cells #[j,ys,ym,yk,yl,yt,.bool true] 94)) (some bm)from⟨BW.o.os,BW.o.tape,BW.o.output,BW.o.size,λk hk _=>BW.o.block k hk⟩);refine cH rfl (λKf O=>?_);go_simp
 refine O.out _ _ ?_;clear O;refine cE ?_;clear hH Y YA YM Y0 BB BW MA XA X0 DR d2 B0 HP;generalize w1.alloc (.cells #[j,ys,ym,yk,yl,yt,.bool true] 94)=w2 at *
 generalize w1.heap.size=b4 at *
 have f5:bm≠w.heap.size:=by have:=LM.o;omega
 obtain⟨z0,B⟩:=X3.o.two;have a4:=b0.o.cell 4;simp only[aP,aQ,cB]at a4;have f6:=aA (show bm<b4 from bD LM.o (by have:=B4.o;omega));go_upto_region 2 with fail
 go_quiet (fail)
 have LW:=aA (show LvW wP w w2 ba bm w b4 #[P,.slice A n0 c,.slice U nm cu,.slice V m cv,.slice Q l q0,.map (some bm)] #[b,i] #[j,ys,ym,yk,yl,yt,.bool true]from⟨X3.o,X4.o,b0.o,d4.o,GW.o,f2,f3,f5,Nat.ne_of_lt f6.o⟩);have o:=aA (LW.o.keep (l5 w2 nq));have M3:=aA (M2.o.keep (l5 w2 nq));clear z0 B a4 X3 X4 b0 d4 GW LW M2;generalize w2.drewN nq=w3 at *
 go_upto_if 23 with fail
 go_cut [] (λwy=>∃(f':SpM) (q':Nat),Hid (LvW wP w wy ba bm w b4 #[P,.slice A n0 c,.slice U nm cu,.slice V m cv,.slice Q l q0,.map (some bm)] #[b,i] #[j,ys,ym,yk,yl,yt,.bool true])/\Hid (lM wy bm f' q')/\q'<=q+1/\Hid (DL (Ed ars (atI (jU ⟨P,ts⟩)) tr) (InU tr.length n) f' dn ((b:Int),(i:Int)) j (EdA ars (atI (jU ⟨P,ts⟩)) tr ((b:Int),(i:Int)) 0))/\Hid (∀v x,f' v=some x->x.cost<=Kc))
 case first =>
  by_cases b1:b<l
  rotate_left
  .have D0:=aA (HD.o.imp (R':=EdA ars (atI (jU ⟨P,ts⟩)) tr ((b:Int),(i:Int)) 0) (λv d h=>by have:=(NZ h).1;simp only at this;have:=GL.o;omega));have C:¬(b:Int)<(l:Int):=by omega
   go_wp2
   go_meet
   exact⟨f,q,o,M3,by omega,D0,a9⟩
  have C:(b:Int)<(l:Int):=by omega
  obtain⟨bq,d5,y,rfl,g0,hy,qy⟩:=(G.o.keep o.o.hp).get b1;have a4:=o.o.xa.cell 4;obtain⟨z0,B⟩:=o.o.x3.two;simp only[aP,aQ,cB]at a4;go_upto_region 3 with fail
  go_quiet (fail)
  have Z:=aA (o.o.keep (l5 w3 nq));have M4:=aA (M3.o.keep (l5 w3 nq));have g4:IntKind.i64.wrap ((b:Int)+1)=(b:Int)+1:=by simp[IntKind.wrap,IntKind.bits,IntKind.signed];omega
  have i9:IntKind.i64.wrap (j+1)=j+1:=by simp[IntKind.wrap,IntKind.bits,IntKind.signed];omega
  have d6:=aA (show Ed ars (atI (jU ⟨P,ts⟩)) tr ((b:Int),(i:Int)) ((b:Int)+1,(i:Int)) 1 from .inl ⟨by rw[GL.o];exact C,rfl,rfl⟩);have g7:=aA (N0 (by rw[GL.o];exact hl) hn (d6.o.inU N.o.1 a6.o));clear z0 B a4 o M3 qy hy;generalize w3.drewN nq=w4 at *
  obtain⟨z0,B⟩:=Z.o.x3.two;obtain⟨e0,e1,e2,e3,e4,e5,e6⟩:=Z.o.x4.seven;clear e1 e2 e3 e4 e5 e6;go_wp2_with fail
  refine(uF Z.o.xa rfl M4.o (v:=((b:Int)+1,(i:Int))) g7.o ⟨j+1,((b:Int),(i:Int)),2,y,0,false⟩ (by omega)).mono ?_;rintro e w5 ⟨⟨yy,rfl⟩,m5,g5⟩;have g9:=aA (Z.o.grown g5);have M5:=aA m5;have D5:=aA ((HD.o.offer (λu v c h=>(h.low N.o.2.2).1) (λu v c hu h=>h.inU N.o.1 hu) d6.o (x:=⟨j+1,((b:Int),(i:Int)),2,y,0,false⟩) rfl rfl rfl).imp (R':=EdA ars (atI (jU ⟨P,ts⟩)) tr ((b:Int),(i:Int)) 0) (λv d h=>.inr (NZ h).2));have C5:=aA (Gv a9.o (v:=((b:Int)+1,(i:Int))) (x:=⟨j+1,((b:Int),(i:Int)),2,y,0,false⟩) hK);clear m5 g5 z0 B e0;go_wp2
  go_meet
  exact⟨_,q+1,g9,M5,by omega,D5,C5⟩
 case rest =>
  obtain⟨f1,q1,E,M1,d7,D1,C1⟩:=hcut;clear HD a9 o M3;have a3:=E.o.xa.cell 3;simp only[aP,aQ,cB]at a3;go_wp2
  clear a3;go_loopw [53] (λv wr=>∃(F:Nat) (f':SpM) (q':Nat),F<=m/\v=F/\Hid (LvW wP w wr ba bm w b4 #[P,.slice A n0 c,.slice U nm cu,.slice V m cv,.slice Q l q0,.map (some bm)] #[b,i] #[j,ys,ym,yk,yl,yt,.bool true])/\Hid (lM wr bm f' q')/\q'<=q+1+2*F/\Hid (DL (Ed ars (atI (jU ⟨P,ts⟩)) tr) (InU tr.length n) f' dn ((b:Int),(i:Int)) j (EdA ars (atI (jU ⟨P,ts⟩)) tr ((b:Int),(i:Int)) F))/\Hid (∀v x,f' v=some x->x.cost<=Kc)) (λv _=>m-(intOf v).toNat)
  case atStart=>exact⟨0,f1,q1,aL _,rfl,E,M1,by omega,D1,C1⟩
  clear E M1 D1 C1 d7 f1 q1;obtain⟨F,f1,q1,j0,rfl,E,M1,d7,D1,C1⟩:=hrel;by_cases h0:F<m
  rotate_left
  .obtain rfl:F=m:=by omega
   have DF:=aA (D1.o.imp (R':=Ed ars (atI (jU ⟨P,ts⟩)) tr ((b:Int),(i:Int))) (λv d h=>by have:=Vn h;rw[AL.o]at this;exact this));go_wp2
   go_end0
   exact⟨⟨_,rfl⟩,f1,q1,M1.o,by omega,DF.o,E.o.gw,C1.o⟩
  have j1:(F:Int)<(m:Int):=by omega
  obtain⟨bl,j2,a,rfl,k1,ha,r0,r1,r2,_⟩:=qD.get (Sl.keep qC.kept HA.o E.o.hp) h0;have H:=aS ha.o;obtain⟨t,et,ht⟩:=BL (N.o.1 a H);obtain⟨r,er,hr⟩:=BL (N.o.2.1 a H);have h3:=N.o.2.2 a H;have b2:=aA (λ(h4:a.from_≠(i:Int))=>D1.o.imp (λv d=>Vo ha.o h4));have J:=aA (λv d=>Vp (lb:=(atI (jU ⟨P,ts⟩))) (tr:=tr) (u:=((b:Int),(i:Int))) (v:=v) (d:=d) ha.o);have a0:=aA H;obtain⟨fr,b3⟩:=aK (a.from_);have b5:=aA b3;rw[b3]at r0;rw[er]at r1;rw[et]at r2;have Y:=aF wr (.cells #[.int .i64 fr,r,t] 114);have WA:=aA (Box.new wr #[.int .i64 fr,r,t] 114);have K:=aA (E.o.keep Y);have M2:=aA (M1.o.keep Y);have h5:=aA (show bm≠wr.heap.size from Nat.ne_of_lt M1.o.lt);have ET:=aA et;have ER:=aA er;clear b3 et er ha H E M1;go_upto_region 8 with fail
  clear Y r0 r1 r2;generalize wr.alloc (.cells #[.int .i64 fr,r,t] 114)=u0 at *
  generalize wr.heap.size=bx at *
  obtain⟨t0,S,T⟩:=WA.o.three;obtain⟨z0,B⟩:=K.o.x3.two;by_cases b6:fr=(i:Int)
  rotate_left
  .have k2:(fr==(i:Int))=false:=by simpa using b6
   have DS:=aA (b2.o (by rw[b5.o];exact b6));go_wp2
   go_roundw
   case rel=>exact⟨F+1,f1,q1,by omega,by go_num,K,M2,by omega,DS,C1⟩
   simp[intOf];omega
  subst b6;go_upto_region 9 with fail
  have a1:=K.o.xa.cell 1;simp only[aP,aQ,cB]at a1;obtain⟨bt,i1,t',k3,k4,k5,k6,k7,k8,rfl,k9,e7,e8,_,_,_,_,_,_⟩:=(HT.o.keep K.o.hp).get hr;have l0:(r:Int)<(n0:Int):=by omega
  obtain⟨I,R⟩:=aK (t'.label);have b7:atI (jU ⟨P,ts⟩) a.tran=I:=by unfold atI jU;rw[ER.o,d9,cJ,dF,e7.o,<-R];rfl
  rw[R]at e8;rw[b7]at h3;have s:=aA b7;clear R b7 e7;go_quiet (fail)
  have o:=aA (K.o.keep (l5 u0 nq));have M3:=aA (M2.o.keep (l5 u0 nq));have b9:=aA (WA.o.keep (l5 u0 nq));clear a1 e8 t0 S T z0 B K M2 WA;generalize u0.drewN nq=u1 at *
  obtain⟨W,hW⟩:∃W:Int,min I 1=W:=⟨_,rfl⟩;have HW:=aA hW;have l1:W<=1:=by omega
  have l2:0<=W:=by omega
  have h6:IntKind.i64.wrap (j+W)=j+W:=by simp[IntKind.wrap,IntKind.bits,IntKind.signed];omega
  have e9:=aA (show Ed ars (atI (jU ⟨P,ts⟩)) tr ((b:Int),(i:Int)) ((b:Int),(t:Int)) W from .inr (.inl ⟨a,a0.o,b5.o,by rw[ET.o],by rw[s.o,HW.o]⟩));have h7:=aA (N0 (by rw[GL.o];exact hl) hn (e9.o.inU N.o.1 a6.o));obtain⟨t0,S,T⟩:=b9.o.three;obtain⟨z0,B⟩:=o.o.x3.two;obtain⟨e0,e1,e2,e3,e4,e5,e6⟩:=o.o.x4.seven;clear e1 e2 e3 e4 e5 e6;go_wp2_with fail
  refine(uF o.o.xa rfl M3.o (v:=((b:Int),(t:Int))) h7.o ⟨j+W,((b:Int),(i:Int)),3,I,r,false⟩ (by omega)).mono ?_;rintro e u2 ⟨⟨yy,rfl⟩,m6,g6⟩;have p:=aA (o.o.grown g6);have M6:=aA m6;have L:=aA (b9.o.grown g6 (by simpa using h5.o));have D6:=aA (D1.o.offer (λu v c h=>(h.low N.o.2.2).1) (λu v c hu h=>h.inU N.o.1 hu) e9.o (x:=⟨j+W,((b:Int),(i:Int)),3,I,r,false⟩) rfl rfl rfl);have C6:=aA (Gv C1.o (v:=((b:Int),(t:Int))) (x:=⟨j+W,((b:Int),(i:Int)),3,I,r,false⟩) (show j+W<=Kc by omega));clear m6 g6 t0 S T z0 B e0 h6 hW o M3 b9 D1 C1;go_upto_region 12 with fail
  have a4:=p.o.xa.cell 4;simp only[aP,aQ,cB]at a4;obtain⟨t0,S,T⟩:=L.o.three;obtain⟨z0,B⟩:=p.o.x3.two;by_cases c5:0<I
  rotate_left
  .skip
   have DN:=aA (D6.o.imp (R':=EdA ars (atI (jU ⟨P,ts⟩)) tr ((b:Int),(i:Int)) (F+1)) (λv d h=>by
    rcases J.o v d h with h|⟨h1,h2⟩|⟨⟨g1,g2,g3⟩,_⟩
    .exact .inl h
    .exact .inr ⟨by rw[h1,ET.o],by rw[h2,s.o,HW.o]⟩
    exfalso
    simp only[s.o,d9]at g1 g2 g3;omega))
   go_quiet (fail)
   have z:=aA (p.o.keep (l5 u2 nq));have M7:=aA (M6.o.keep (l5 u2 nq));clear a4 z0 B t0 S T p M6 L;generalize u2.drewN nq=u3 at *
   go_wp2
   go_roundw
   case rel=>exact⟨F+1,_,q1+1,by omega,by go_num,z,M7,by omega,DN,C6⟩
   simp[intOf];omega
  by_cases b1:b<l
  rotate_left
  .have C:¬(b:Int)<(l:Int):=by omega
   have DN:=aA (D6.o.imp (R':=EdA ars (atI (jU ⟨P,ts⟩)) tr ((b:Int),(i:Int)) (F+1)) (λv d h=>by
    rcases J.o v d h with h|⟨h1,h2⟩|⟨⟨g1,g2,g3⟩,_⟩
    .exact .inl h
    .exact .inr ⟨by rw[h1,ET.o],by rw[h2,s.o,HW.o]⟩
    exfalso
    simp only[s.o,d9]at g1 g2 g3;have:=GL.o;omega))
   go_quiet (fail)
   have z:=aA (p.o.keep (l5 u2 nq));have M7:=aA (M6.o.keep (l5 u2 nq));clear a4 z0 B t0 S T p M6 L;generalize u2.drewN nq=u3 at *
   go_wp2
   go_roundw
   case rel=>exact⟨F+1,_,q1+1,by omega,by go_num,z,M7,by omega,DN,C6⟩
   simp[intOf];omega
  have C:(b:Int)<(l:Int):=by omega
  obtain⟨bq,d5,y,rfl,g0,hy,qy⟩:=(G.o.keep p.o.hp).get b1;by_cases c6:y=I
  .have HY:=aA hy.o;clear hy;subst c6;have f0:=aA (show Ed ars (atI (jU ⟨P,ts⟩)) tr ((b:Int),(i:Int)) ((b:Int)+1,(t:Int)) 0 from .inr (.inr ⟨a,a0.o,b5.o,by rw[GL.o];exact C,by rw[s.o];exact c5,by rw[s.o];simpa using HY.o,by rw[ET.o],rfl⟩));have h8:=aA (N0 (by rw[GL.o];exact hl) hn (f0.o.inU N.o.1 a6.o));have g4:IntKind.i64.wrap ((b:Int)+1)=(b:Int)+1:=by simp[IntKind.wrap,IntKind.bits,IntKind.signed];omega
   go_quiet (fail)
   have z:=aA (p.o.keep (l5 u2 nq));have M7:=aA (M6.o.keep (l5 u2 nq));have h9:=aA (L.o.keep (l5 u2 nq));clear a4 z0 B t0 S T qy p M6 L;generalize u2.drewN nq=u3 at *
   obtain⟨t0,S,T⟩:=h9.o.three;obtain⟨z0,B⟩:=z.o.x3.two;obtain⟨e0,e1,e2,e3,e4,e5,e6⟩:=z.o.x4.seven;clear e1 e2 e3 e4 e5 e6;go_wp2_with fail
   refine(uF z.o.xa rfl M7.o (v:=((b:Int)+1,(t:Int))) h8.o ⟨j,((b:Int),(i:Int)),1,y,r,false⟩ (by omega)).mono ?_;rintro e u4 ⟨⟨l3,rfl⟩,m8,g8⟩;have i0:=aA (z.o.grown g8);have M8:=aA m8;have D8:=aA ((D6.o.offer (λu v c h=>(h.low N.o.2.2).1) (λu v c hu h=>h.inU N.o.1 hu) f0.o (x:=⟨j,((b:Int),(i:Int)),1,y,r,false⟩) (show j=j+0 by omega) rfl rfl).imp (R':=EdA ars (atI (jU ⟨P,ts⟩)) tr ((b:Int),(i:Int)) (F+1)) (λv d h=>by
    rcases J.o v d h with h|⟨h1,h2⟩|⟨_,h1,h2⟩
    .exact .inl (.inl h)
    .exact .inl (.inr ⟨by rw[h1,ET.o],by rw[h2,s.o,HW.o]⟩)
    exact .inr ⟨by rw[h1,ET.o],h2⟩))
   have C8:=aA (Gv C6.o (v:=((b:Int)+1,(t:Int))) (x:=⟨j,((b:Int),(i:Int)),1,y,r,false⟩) (show j<=Kc by omega));clear m8 g8 t0 S T z0 B e0;go_wp2
   go_roundw
   case rel=>exact⟨F+1,_,q1+1+1,by omega,by go_num,i0,M8,by omega,D8,C8⟩
   simp[intOf];omega
  have l4:(y==I)=false:=by simpa using c6
  have HY:=aA hy.o;clear hy;have DN:=aA (D6.o.imp (R':=EdA ars (atI (jU ⟨P,ts⟩)) tr ((b:Int),(i:Int)) (F+1)) (λv d h=>by
   rcases J.o v d h with h|⟨h1,h2⟩|⟨⟨g1,g2,g3⟩,_⟩
   .exact .inl h
   .exact .inr ⟨by rw[h1,ET.o],by rw[h2,s.o,HW.o]⟩
   exfalso
   simp only[s.o,d9]at g1 g2 g3;rw[HY.o]at g3;injection g3 with g3;exact c6 g3))
  go_quiet (fail)
  have z:=aA (p.o.keep (l5 u2 nq));have M7:=aA (M6.o.keep (l5 u2 nq));clear a4 z0 B t0 S T p M6 L;generalize u2.drewN nq=u3 at *
  go_wp2
  go_roundw
  case rel=>exact⟨F+1,_,q1+1,by omega,by go_num,z,M7,by omega,DN,C6⟩
  simp[intOf];omega
def Gw (w:World)(g n:Nat):Prop:=∃cs:Array Value,Box w g 92 cs/\n*3<=cs.size/\∀(j:Nat) (v:Value),j<n*3->cs[j]?=some v->∃x:Int,v=.int .i64 x
section
variable {w w':World} {g n:Nat}
def Gw.at (h:Gw w g n){j:Nat}(a:j<n*3):∃x:Int,w.cell? ⟨g,j,none⟩=some (.int .i64 x):=by
 obtain⟨cs,b,e,c⟩:=h;obtain⟨x,d⟩:=c j _ a (Array.getElem?_eq_getElem (by omega));exact⟨x,by rw[b.cell,Array.getElem?_eq_getElem (by omega),d]⟩
def Gw.frozen (h:Gw w g n)(j:Nat):w.frozen? ⟨g,j,none⟩=false:=by
 obtain⟨cs,a,_⟩:=h;exact a.frozen j
def Gw.put (h:Gw w g n)(j:Nat)(x:Int):Gw (w.setCell ⟨g,j,none⟩ x) g n:=by
 obtain⟨cs,b,c,d⟩:=h;refine⟨_,b.set j x,by simpa using c,λi v e a=>?_⟩;rw[Array.getElem?_setIfInBounds]at a;split at a
 .split at a
  .injection a with a;exact⟨x,a.symm⟩
  cases a
 exact d i v e a
def Gw.keep (h:Gw w g n)(a:Below w w w'):Gw w' g n:=by
 obtain⟨cs,b,c⟩:=h;exact⟨cs,b.keep a,c⟩
end
def XH (w:World)(b j:Nat)(a c d:Int):World:=((w.setCell ⟨b,j,none⟩ (.int .i64 a)).setCell ⟨b,j+1,none⟩ (.int .i64 c)).setCell ⟨b,j+2,none⟩ (.int .i64 d)
def Gw.lay {w:World}{g n:Nat}(h:Gw w g n)(j:Nat)(a b c:Int):Gw (XH w g j a b c) g n:=((h.put j a).put (j+1) b).put (j+2) c
def N5 (w:World)(b j:Nat)(v:Value):w.grownBy (w.setCell ⟨b,j,none⟩ v) (some b) :=
 ⟨rfl,rfl,rfl,by simp[World.setCell],λk _ a=>eN _ _ _ _ (λe=>a (by rw[e]))⟩
def Ej (w:World)(b j:Nat)(a c d:Int):w.grownBy (XH w b j a c d) (some b):=((N5 w b j _).trans (N5 _ b (j+1) _)).trans (N5 _ b (j+2) _)
def Cd {w:World}{g n cap:Nat}(h:Gw w g n)(Y:n<=100000) :
  Calls Tryz.prog 42 #[.slice g n cap] w λe w'=>(∃y,e=.returned y)/\Gw w' g n/\w.grownBy w' (some g):=by
 have H:=aA h;clear h;go_enter Tryz.func42,Tryz.ntmps42
 go_wp2
 go_loopw [2,3] (λt L wr=>∃(i:Nat) (j:Int),t=i/\L=j/\j+i+1=n/\Hid (Gw wr g n)/\Hid (w.grownBy wr (some g))) (λt _ _=>n-(intOf t).toNat)
 case atStart=>exact⟨0,(n:Int)-1,rfl,rfl,by omega,H,aA ⟨rfl,rfl,rfl,aB _,λ_ _ _=>rfl⟩⟩
 case round =>
  obtain⟨i,j,rfl,rfl,o,O,D⟩:=hrel;by_cases M:(i:Int)<j
  rotate_left
  .go_wp2
   exact eR (v:=.tuple #[]) (by simp[results,Tryz.results42,go_sem]) rfl ⟨⟨_,rfl⟩,O.o,D.o⟩
  obtain⟨j,rfl⟩:∃q:Nat,j=(q:Int):=⟨j.toNat,by omega⟩;have N:j<n:=by omega
  have P:i<n:=by omega
  have I:(j:Int)<(n:Int):=by omega
  have J:(i:Int)<(n:Int):=by omega
  have a:=aA (O.o.keep (show Below wr wr wr.drew from⟨rfl,rfl,rfl,aB _,λ_ _=>rfl⟩));have Q:=aA (show w.grownBy wr.drew (some g)from D.o.trans ⟨rfl,rfl,rfl,aB _,λ_ _ _=>rfl⟩);obtain⟨c,x⟩:=a.o.at (j:=i*3) (by omega);obtain⟨d,z⟩:=a.o.at (j:=i*3+1) (by omega);obtain⟨f,A⟩:=a.o.at (j:=i*3+2) (by omega);obtain⟨k,p⟩:=a.o.at (j:=j*3) (by omega);obtain⟨l,r⟩:=a.o.at (j:=j*3+1) (by omega);obtain⟨m,s⟩:=a.o.at (j:=j*3+2) (by omega);have R:(j:Int)+i+1=n:=o;clear o O D;go_upto_region 3 with fail
  refine yY 13 2 3 14 (.takes [0,1,4,5,8,9,6,7,10,11] (.one 12 (.fin 13 (.fin 14 (.fin 15 .done))))) (λw'=>(w'.cell? ⟨g,i*3,none⟩=some (.int .i64 c)/\w'.cell? ⟨g,i*3+1,none⟩=some (.int .i64 d)/\w'.cell? ⟨g,i*3+2,none⟩=some (.int .i64 f))/\w'.cell? ⟨g,j*3,none⟩=some (.int .i64 k)/\w'.cell? ⟨g,j*3+1,none⟩=some (.int .i64 l)/\w'.cell? ⟨g,j*3+2,none⟩=some (.int .i64 m)) (v:=?_) (u:=?_) (by kernel_rfl) (by kernel_rfl) (by kernel_rfl) rfl (by kernel_rfl) (λ_ _ _ _ _ h=>h) rfl (by rfl) (λw'=>?_) rfl (by rfl) (λw'=>?_) ⟨⟨x,z,A⟩,p,r,s⟩ (λB=>?_)
  rotate_left 2
  ·(go_simp;try with_reducible rfl)
  ·(go_simp;try with_reducible rfl)
  simp only[aC];simp only[Scr.takes];generalize wr.drew=u0 at *
  iterate 10
   refine aM (v:=?_) rfl (by rfl) B (λw' S=>?_) ?_
   rotate_left
   ·(go_simp;try with_reducible rfl)
   simp only[aC]
  have T:=a.o.frozen (i*3);have C:=a.o.frozen (i*3+1);have E:=a.o.frozen (i*3+2);refine bK rfl (λK hK=>?_);go_simp
  refine hK.out _ _ ⟨⟨x,z,A⟩,p,r,s⟩ (λB=>?_);clear hK;try simp only[aC]
  refine cH rfl (λK hK=>?_);go_simp
  have b:=aA (a.o.lay (i*3) k l m);have U:=aA (Q.o.trans (Ej u0 g (i*3) k l m));rw[show((u0.setCell ⟨g,i*3,none⟩ k).setCell ⟨g,i*3+1,none⟩ l).setCell ⟨g,i*3+2,none⟩ m=XH u0 g (i*3) k l m from rfl];clear B T C E x z A p r s;generalize XH u0 g (i*3) k l m=u2 at *
  refine hK.out _ _ ?_;clear hK;try simp only[aC]
  refine cH rfl (λK hK=>?_);go_simp
  refine hK.out _ _ ?_;clear hK;try simp only[aC]
  obtain⟨w0,p⟩:=b.o.at (j:=j*3) (by omega);obtain⟨w1,r⟩:=b.o.at (j:=j*3+1) (by omega);obtain⟨Z,s⟩:=b.o.at (j:=j*3+2) (by omega);have V:=b.o.frozen (j*3);have F:=b.o.frozen (j*3+1);have G:=b.o.frozen (j*3+2);have W:=aA (b.o.lay (j*3) c d f);have X:=aA (U.o.trans (Ej u2 g (j*3) c d f));refine cH rfl (λK hK=>?_);go_simp
  rw[show((u2.setCell ⟨g,j*3,none⟩ c).setCell ⟨g,j*3+1,none⟩ d).setCell ⟨g,j*3+2,none⟩ f=XH u2 g (j*3) c d f from rfl];clear V F G p r s;generalize XH u2 g (j*3) c d f=u3 at *
  refine hK.out _ _ ?_;clear hK;try simp only[aC]
  refine cE ?_;go_wp2
  go_roundw
  case rel=>exact⟨i+1,(j:Int)-1,by go_num,by go_num,by omega,W,X⟩
  simp[intOf];omega
def Uc:World->(Nat->Value)->Unit->Prop:=λ_ vs _=>∀j,j<3->∃x:Int,vs j=.int .i64 x
def Uc.kept:CU Uc:=λ_ _ _ _ _ h=>h
def Yw:sT 48 92 3 24:=sT.mk' (z:=.agg #[(0:Int),(0:Int),(0:Int)]) Tryz.underlying48 (by kernel_rfl) rfl (by decide)
abbrev tP (w:World)(B:Nat)(v:Value)(n:Nat):Prop:=∃xs:List Unit,aJ Uc 3 w B 92 v n xs
def Uc.reads (w:World)(a b c:Int):cD Uc 3 w (#[Value.int .i64 a,b,c]:Array Value).toList [()] :=
 cD.one (vs:=λj=>[Value.int .i64 a,b,c].getD j undef) (λj d=>by
  rcases(show j=0∨j=1∨j=2 by omega)with rfl|rfl|rfl
  .exact⟨a,rfl⟩
  .exact⟨b,rfl⟩
  .exact⟨c,rfl⟩) rfl (λj d=>by
  rcases(show j=0∨j=1∨j=2 by omega)with rfl|rfl|rfl <;> rfl)
def Gw.of_own {w:World}{B g n cap:Nat}{xs:List Unit}(h:aJ Uc 3 w B 92 (.slice g n cap) n xs):Gw w g n:=by
 obtain⟨c,⟨z,l⟩,m,o⟩:=h;rcases l with⟨e,_⟩|⟨A,k,d,e,C,p,q,D,r,s⟩
 .cases e
 injection e with b E F;injection b with b;injection b with b;subst b;refine⟨d,p,by rw[r];exact Nat.mul_le_mul_right _ q,λj v t u=>?_⟩;have f:xs[j / 3]?=some ():=by
  rw[aV (by rw[o];omega)]
 obtain⟨vs,i,y⟩:=m.2 _ _ f;obtain⟨x,f⟩:=y (j % 3) (by omega);have a:=i (j % 3) (by omega);rw[show j / 3*3+j % 3=j by omega]at a;rw[<-s,uH,aG t,<-nA]at *
 first
  | exact⟨x,by rw[u]at a;injection a with a;rw[a,f]⟩
  | skip
def tP.form {w:World}{B n:Nat}{v:Value}(h:tP w B v n):∃A c,v=.slice A n c:=by
 obtain⟨xs,a,⟨e,b⟩,f,i⟩:=h;rcases b with⟨rfl,rfl⟩|⟨g,cap,d,rfl,j,k,l⟩
 .exact⟨none,0,rfl⟩
 exact⟨_,_,rfl⟩
def tP.lo {w:World}{B n:Nat}{v:Value}(h:tP w B v n):∀k,v.ownBlock=some k->B<=k:=by
 obtain⟨xs,h⟩:=h;exact λk a=>(h.lt k a).1
def Aw (w:World) :
  Calls Tryz.prog 42 #[()] w λe w'=>(∃y,e=.returned y)/\Below w w w':=by
 go_enter Tryz.func42,Tryz.ntmps42
 go_wp2
 go_loopw [2,3] (λi j wr=>i=.int .i64 0/\j=.int .i64 (-1)/\wr=w) (λ_ _ _=>0)
 case atStart=>exact⟨rfl,rfl,rfl⟩
 case round =>
  obtain⟨rfl,rfl,rfl⟩:=hrel;go_wp2
  exact eR (v:=.tuple #[]) (by simp[results,Tryz.results42,go_sem]) rfl ⟨⟨_,rfl⟩,aH _ _⟩
def Ce {w:World}{B n:Nat}{v:Value}(h:tP w B v n)(d:n<=100000) :
  Calls Tryz.prog 42 #[v] w λe w'=>(∃y,e=.returned y)/\w.grownBy w' v.ownBlock:=by
 obtain⟨xs,h⟩:=h;have f:=h;obtain⟨b,⟨o,i⟩,p,q⟩:=f;rcases i with⟨rfl,rfl⟩|⟨g,cap,j,rfl,r,s,t⟩
 .refine(Aw w).mono ?_;rintro e w' ⟨c,a⟩;exact⟨c,a.os,a.tape,a.output,a.size,λk l _=>a.block k l⟩
 .refine(Cd (cap:=cap) (Gw.of_own h) d).mono ?_;rintro e w' ⟨c,_,m⟩;exact⟨c,m⟩
def Wg (w:World)(a b c d:Int):(Op.equalIn 10000 90 (.agg #[a,b]) (.agg #[c,d])).run Tryz.prog w=.ok (a==c&&b==d) w:=by
 have e:Tryz.prog.underlying 90=some (.struct (Tryz.prog.fieldsOf 90)):=by
  simp[Program.fieldsOf,Tryz.underlying90]
 have hp:∀(xs:Array Value) (k:Nat) (x:Int),xs[k]?=some (.int .i64 x)->(part 3 xs k).run Tryz.prog w=.ok x w:=λxs k x f=>run_part_plain w (show Tryz.prog.plainKey 3=true by kernel_rfl) f
 have g:∀x y:Int,(Op.equalIn 9999 3 x y).run Tryz.prog w=.ok (x==y) w:=λx y=>run_equalIn_int w 9998 3 .i64 .i64 x y Tryz.underlying3
 rw[show(10000:Nat)=9999+1 from rfl,run_equalIn_struct w 9999 _ _ _ e (by kernel_rfl)];simp only[Program.fieldsOf,Tryz.underlying90,Op.eqFields];generalize (9999:Nat)=q at *
 cases hac:(a==c) <;> cases hbd:(b==d) <;> simp[hp,g,hac,hbd]
def Td (a b c d e f:Int)(g:Bool)(w:World):(Instr.field 94 (.agg #[a,b,c,d,e,f,.bool g]) 0).run Tryz.prog w=.ok a w:=by kernel_rfl
def Tf (a b c d e f:Int)(g:Bool)(w:World):(Instr.field 94 (.agg #[a,b,c,d,e,f,.bool g]) 1).run Tryz.prog w=.ok (.agg #[b,c]) w:=by kernel_rfl
def Ti (a b c d e f:Int)(g:Bool)(w:World):(Instr.field 94 (.agg #[a,b,c,d,e,f,.bool g]) 2).run Tryz.prog w=.ok (.agg #[d,e,f]) w:=by kernel_rfl
def Jq:Tryz.prog.eqGuardType Tryz.prog.depth 90=false:=by kernel_rfl
def Tj (w:World)(a b c d:Int):(binOp .eql 90 (.agg #[a,b]) (.agg #[c,d])).run Tryz.prog w=.ok (.bool (a==c&&b==d)) w:=by
 rw[run_eql_struct,Wg];rfl
def Tm (w:World)(a b c d:Int):(binOp .neq 90 (.agg #[a,b]) (.agg #[c,d])).run Tryz.prog w=.ok (.bool (!(a==c&&b==d))) w:=by
 rw[run_neq_struct,Wg];rfl
def Vr {w:World}{bn f n c:Nat}{A:OAd}{P o:Int}{ts:List bG}(x:Box w bn 41 #[P,.slice A n c])(y:Box w f 3 #[o]):EV 39 #[.pointer bn,.pointer f] w (λm=>m==Cb ⟨P,ts⟩ o) where
 enters:=λargs w=>by kernel_rfl
 calls:=λwr A1 n1 c1 m g k=>by
  obtain⟨t,u⟩:=(x.keep g).two;have l:=(y.keep g).cell 0;simp only[aP,aQ]at l;have v:=aA k;have p:=aA (show Cb ⟨P,ts⟩ o=lX (min P 16).toNat o from rfl);show Calls Tryz.prog 39 #[.slice A1 n1 c1,.pointer bn,.pointer f] wr _
  clear g x y k;obtain⟨z,a⟩:=aK ((min P 16).toNat);have h:=aA a;rw[a]at p;clear a;obtain⟨s,i⟩:=aK ((m==lX z o));have B:=aA i;have j:=aA (show(m==Cb ⟨P,ts⟩ o)=s by rw[p.o];exact i);clear i;go_enter Tryz.func39,Tryz.ntmps39
  go_wp2_with fail
  refine(kP wr P o A n c).mono ?_;rw[h.o];rintro e G ⟨C,H,rfl,d,b,_⟩;have D:=aA d;have E:=aA (v.o.keep b);have q:=aA b;clear d b t u l;go_wp2_with fail
  refine(dD E.o D.o).mono ?_;rw[B.o];rintro e I ⟨rfl,r⟩;have F:=aA (q.o.trans (r.below.mono q.o.size));clear r;go_wp2
  go_ret
  exact⟨by rw[j.o];rfl,F.o⟩
structure Yx (N:eB)(o:Int)(s:PSp):Prop where
 pos:0<s.marks.length
 small:s.marks.length<=300
 few:s.arcs.length<=7200
 nodup:s.marks.Nodup
 from_:∀a∈s.arcs,Inn s.marks.length a.from_
 to_:∀a∈s.arcs,Inn s.marks.length a.to_
 tran:∀a∈s.arcs,Inn N.trans.length a.tran
 label:∀a∈s.arcs,0<=atI (jU N) a.tran
def N7 {N:eB}{i o:Int}{s:PSp}(h:pO N i o=(s,0)):Yx N o s:=by
 unfold pO at h;split at h
 .rename_i e
  have f:=(pL e).2;have g:(eD N (lX (min N.places 16).toNat i) 300).2=0:=by rw[h]
  obtain⟨_,c⟩:=kN g;have j:=qR g;rw[h]at c j;have d:∀a∈s.arcs,Inn s.marks.length a.from_/\Inn N.trans.length a.tran/\Inn s.marks.length a.to_:=λa b=>by
   obtain⟨l,m,n⟩:=c.ends a b;exact⟨l,m,n⟩
  refine⟨c.some_,c.few,j,c.nodup,λa b=>(d a b).1,λa b=>(d a b).2.2,λa b=>(d a b).2.1,λa b=>?_⟩;obtain⟨r,p,q⟩:=BL (d a b).2.1;have k:N.trans[r]?=some N.trans[r]:=aV q;have:=(fK f k).1;unfold atI jU;rw[p,d9,cJ,dF,k];exact this
 rename_i e
 injection h with _ h;exact absurd h e
def iM (n k:Nat):LIn:=(List.range n).map λj=>if j<k then 1073741824 else 0
def PX (n k:Nat):(iM n k).length=n:=by simp[iM]
def Ls (n:Nat):iM n 0=List.replicate n 0:=by
 apply fP (by simp[iM])
 intro j a b;simp[iM]
def Lu {n k:Nat}:iM n (k+1)=(iM n k).set k 1073741824:=by
 apply fP (by simp[iM])
 intro j a b;rw[List.getElem_set];simp only[iM,List.getElem_map,uJ];by_cases e:k=j
 .subst e;simp
 rw[aD e];have:(j<k+1)↔(j<k):=⟨λh=>by omega,λh=>by omega⟩;exact ite_congr (propext this) (λ_=>rfl) (λ_=>rfl)
end Go.Proofs.YtgnljpnlolkalaaGreat
namespace Go.Proofs.YtgnljpnlolkalaaGreat
section
variable {ars:List cC} {lb:Int->Int} {tr:LIn} {n:Nat} {p0:LLi×Bool}
def stK (ars:List cC)(lb:Int->Int)(tr:LIn)(n:Nat)(p0:LLi×Bool)(k:Nat):LLi×Bool:=((List.range k).flatMap (edK ars lb tr n)).foldl tO p0
def stA (ars:List cC)(lb:Int->Int)(tr:LIn)(n:Nat)(p0:LLi×Bool)(k q:Nat):LLi×Bool:=((ars.take q).flatMap (edA lb tr k)).foldl tO (stK ars lb tr n p0 k)
def stM (ars:List cC)(lb:Int->Int)(tr:LIn)(n:Nat)(p0:LLi×Bool)(k m:Nat):LLi×Bool:=((List.range m).flatMap (edM tr k)).foldl tO (stA ars lb tr n p0 k ars.length)
def Vs (k:Nat):stA ars lb tr n p0 k 0=stK ars lb tr n p0 k:=by simp[stA]
def Vt {k q:Nat}{a:cC}(h:ars[q]?=some a):stA ars lb tr n p0 k (q+1)=(edA lb tr k a).foldl tO (stA ars lb tr n p0 k q):=by
 unfold stA;rw[bX h,List.flatMap_append,fD];simp
def Vu (k:Nat):stM ars lb tr n p0 k 0=stA ars lb tr n p0 k ars.length:=by simp[stM]
def Vv (k m:Nat):stM ars lb tr n p0 k (m+1)=(edM tr k m).foldl tO (stM ars lb tr n p0 k m):=by
 unfold stM;rw[eF,List.flatMap_append,fD];simp
def Vw (k:Nat):stM ars lb tr n p0 k n=stK ars lb tr n p0 (k+1):=by
 unfold stM stA stK;rw[kA,<-fD,<-fD,eF,List.flatMap_append];congr 1
 simp[edK]
def Xp:stK ars lb tr n p0 (tr.length+1)=(q5 ars lb tr n).foldl tO p0:=rfl
def Zo {k:Nat}(c:k<=tr.length+1):∀e∈(List.range k).flatMap (edK ars lb tr n),e∈q5 ars lb tr n:=λe a=>by
 unfold q5;obtain⟨j,b,h⟩:=iZ.1 a;exact iZ.2 ⟨j,bM.2 (by have:=bM.1 b;omega),h⟩
def Zp {k q:Nat}(b:k<tr.length+1):∀e∈(ars.take q).flatMap (edA lb tr k),e∈q5 ars lb tr n:=λe c=>by
 obtain⟨a,d,h⟩:=iZ.1 c;exact mY.2 ⟨k,b,.inl ⟨a,List.mem_of_mem_take d,h⟩⟩
def Zq {k m:Nat}(a:k<tr.length+1)(d:m<=n):∀e∈(List.range m).flatMap (edM tr k),e∈q5 ars lb tr n:=λe b=>by
 obtain⟨j,c,h⟩:=iZ.1 b;exact mY.2 ⟨k,a,.inr ⟨j,by have:=bM.1 c;omega,h⟩⟩
def Zr (M:Vb tO (q5 ars lb tr n) (yS (Ed ars lb tr) tr.length n) Ub)(h:yS (Ed ars lb tr) tr.length n p0.1){k:Nat}(a:k<=tr.length+1):yS (Ed ars lb tr) tr.length n (stK ars lb tr n p0 k).1:=(M.passTo _ (Zo a) p0 h).inv
def Yy (M:Vb tO (q5 ars lb tr n) (yS (Ed ars lb tr) tr.length n) Ub)(h:yS (Ed ars lb tr) tr.length n p0.1){k:Nat}(a:k<tr.length+1)(q:Nat):yS (Ed ars lb tr) tr.length n (stA ars lb tr n p0 k q).1:=(M.passTo _ (Zp a) _ (Zr M h (fR a))).inv
def Zs (M:Vb tO (q5 ars lb tr n) (yS (Ed ars lb tr) tr.length n) Ub)(h:yS (Ed ars lb tr) tr.length n p0.1){k m:Nat}(a:k<tr.length+1)(b:m<=n):yS (Ed ars lb tr) tr.length n (stM ars lb tr n p0 k m).1:=(M.passTo _ (Zq a b) _ (Yy M h a _)).inv
def Zt (M:Vb tO (q5 ars lb tr n) (yS (Ed ars lb tr) tr.length n) Ub){p:LLi×Bool}(h:yS (Ed ars lb tr) tr.length n p.1){e:Ua}(a:e∈q5 ars lb tr n):yS (Ed ars lb tr) tr.length n (tO p e).1:=(M.passTo [e] (λx b=>by rw[bJ.1 b];exact a) p h).inv
def wZ (n k:Nat):LLi:=List.replicate k (List.replicate n far)
def Tn (n k:Nat):wZ n (k+1)=wZ n k++[List.replicate n far]:=by simp[wZ,List.replicate_succ']
def qX (n k:Nat):LLi:=V9 (wZ n k) 0 0 0
def Lx {n k i m:Nat}(a:i<k)(b:m<n):(wZ n k)[i]?=some (List.replicate n far)/\(List.replicate n far)[m]?=some far:=⟨by simp[wZ,a],by simp[b]⟩
def yS.start (g:0<n):yS (Ed ars lb tr) tr.length n (qX n (tr.length+1)):=by
 obtain⟨d,h⟩:=Lx (n:=n) (k:=tr.length+1) (i:=0) (m:=0) (by omega) g;have key:∀i m,i<tr.length+1->m<n->atT (qX n (tr.length+1)) i m=if i=0/\m=0 then 0 else far:=λi m j b=>by
  unfold qX;rw[Gn d h];split
  .rfl
  obtain⟨l,o⟩:=Lx (n:=n) (k:=tr.length+1) j b;exact xX l o
 refine⟨by unfold qX;rw[n8 d];simp[wZ],λk r a=>?_,λk m f b=>?_,λk m f b c=>?_, ?_⟩
 .unfold qX at a;rw[n8 d,iG]at a;split at a
  .split at a
   .injection a with a;subst a;simp
   cases a
  have:=aS a;unfold wZ at this;rw[List.eq_of_mem_replicate this];simp
 .rw[key k m f b];unfold far;split <;> omega
 .rw[key k m f b]at c ⊢;split
  .rename_i e
   obtain⟨rfl,rfl⟩:=e;exact .nil
  rename_i e
  rw[aD e]at c;omega
 rw[key 0 0 (by omega) g,aG ⟨rfl,rfl⟩]
end
def q6 (N:eB)(i o:Int)(tr:LIn)(c e:Int):Prop :=
 if(pO N i o).2≠0 then c=0/\e=(pO N i o).2 else if 60<tr.length then c=0/\e=2 else match eH (pO N i o).1.marks (Cb N o) with
  | none=>c=0/\e=3
  | some k=>e=0/\Gm (Ed (pO N i o).1.arcs (atI (jU N)) tr) ((tr.length:Int),(k:Int)) c
def q6.uniq {N:eB}{i o:Int}{tr:LIn}{c e d f:Int}(h:q6 N i o tr c e)(g:q6 N i o tr d f):c=d/\e=f:=by
 unfold q6 at h g;split at h
 .rename_i a
  rw[aG a]at g;omega
 rename_i a
 rw[aD a]at g;split at h
 .rename_i b
  rw[aG b]at g;omega
 rename_i b
 rw[aD b]at g;split at h
 .rename_i j
  rw[j]at g;simp only at g;omega
 rename_i k j
 rw[j]at g;simp only at g;exact⟨h.2.uniq g.2,by omega⟩
def Vx {N:eB}{i o:Int}{s:PSp}(h:pO N i o=(s,0)):tD N 300 s:=by
 unfold pO at h;split at h
 .have a:(eD N (lX (min N.places 16).toNat i) 300).2=0:=by rw[h]
  have:=(kN a).2;rw[h]at this;exact this
 rename_i b
 injection h with _ a;exact absurd a b
def Az {N:eB}{i o:Int}{tr:LIn}{s:PSp}{k:Int}(h:pO N i o=(s,k))(a:k≠0):q6 N i o tr 0 k:=by
 unfold q6;rw[h,aG a];exact⟨rfl,rfl⟩
def Ek {N:eB}{i o:Int}{tr:LIn}{s:PSp}(h:pO N i o=(s,0))(a:60<tr.length):q6 N i o tr 0 2:=by
 unfold q6;rw[h,aD (by simp),aG a];first|exact⟨rfl,rfl⟩|trivial
def Em {N:eB}{i o:Int}{tr:LIn}{s:PSp}(h:pO N i o=(s,0))(a:¬60<tr.length)(b:eH s.marks (Cb N o)=none):q6 N i o tr 0 3:=by
 unfold q6;rw[h,aD (by simp),aD a];simp only[b];first|exact⟨rfl,rfl⟩|trivial
def En {N:eB}{i o:Int}{tr:LIn}{s:PSp}{k:Nat}{c:Int}(h:pO N i o=(s,0))(b:¬60<tr.length)(d:eH s.marks (Cb N o)=some k)(a:Gm (Ed s.arcs (atI (jU N)) tr) ((tr.length:Int),(k:Int)) c):q6 N i o tr c 0:=by
 unfold q6;rw[h,aD (by simp),aD b];simp only[d];first|exact⟨rfl,a⟩|exact⟨trivial,a⟩
open Go.RowKit
def Yz:World->(Nat->Value)->List UInt8->Prop:=λ_ vs x=>vs 0=.string ⟨x.toArray⟩
def YB:sT 59 9 1 16:=sT.mk' (z:=.string ⟨#[]⟩) Tryz.underlying59 (by kernel_rfl) rfl (by decide)
def app2 (a b:List UInt8):(⟨a.toArray⟩:ByteArray)++⟨b.toArray⟩=⟨(a++b).toArray⟩:=by
 apply ByteArray.ext
 simp[ByteArray.data_append]
def To {w:World}{B g n cap:Nat}{xs:List (List UInt8)}(h:aJ Yz 1 w B 9 (.slice g n cap) n xs):∀(j:Nat) (x:ByteArray),(xs.map λl=>(⟨l.toArray⟩:ByteArray))[j]?=some x->w.cell? ⟨g,0+j,none⟩=some (.string x):=by
 intro j x d;obtain⟨c,o,r,f⟩:=h;rw[dF]at d;obtain⟨l,b,rfl⟩:=Option.map_eq_some_iff.1 d;obtain⟨vs,a,e⟩:=r.2 j l b;have i:j<n*1:=by rw[j8,<-f];exact(aR.1 b).1
 rw[Nat.zero_add,o.cellAt j i];have:=a 0 (by omega);rw[j8,eP]at this;rw[this];exact aO some e
def PY (w:World)(k:Int)(a:3<=k)(b:k<=6) :
  Calls Tryz.prog 25 #[k] w (λe w'=>e=.returned (.string ⟨[PU k].toArray⟩)/\w'=w):=by
 have:k=3∨k=4∨k=5∨k=6:=by omega
 rcases this with rfl|rfl|rfl|rfl
 all_goals
  go_enter Tryz.func25,Tryz.ntmps25
  go_wp2
  go_ret
  exact⟨by rfl,rfl⟩
def Jr {f:Nat}:∀(l:List bH) (a d:Nat),l.foldl (bU (bY f)) (a,0)=(d,0)->a+l.length<=d
 | [],a,d,h=>by simp at h;simp[h]
 | k::l,a,d,h=>by
  rw[f9,bU,aG rfl]at h;have e0:(bY f k a).2=0:=by
   apply eO
   intro c;rw[sG c]at h;rw[h]at c;exact c rfl
  have e:=(gG f k a e0).1;obtain⟨b,g⟩:∃b,bY f k a=(b,0):=⟨_,Prod.ext rfl e0⟩;rw[g]at h e;have:=Jr l b d h;rw[bP];simp only at e;omega
def aJ.formS {w:World}{B e:Nat}{v:Value}{n:Nat}{xs:List (List UInt8)}(h:aJ Yz 1 w B e v n xs)(f:0<n):∃g cap,v=.slice (some ⟨g,0,none⟩) n cap/\g<w.heap.size/\n<=cap:=by
 obtain⟨a,o,r,i⟩:=h;rcases o.2 with⟨_,e0⟩|⟨g,cap,c,rfl,j,d,b,_⟩
 .omega
 exact⟨g,cap,rfl,(f8.1 d).1,b⟩
def PZ {w:World}{B:Nat}{v:Value}{n:Nat}{xs:List (List UInt8)}(h:aJ Yz 1 w B 9 v n xs)(d:0<n)(j:n<=1000)(k:(Lib.join xs [44]).length<=1000) :
  Calls Tryz.prog 26 #[v,.string ⟨#[44]⟩] w (λe w'=>e=.returned (.string ⟨(Lib.join xs [44]).toArray⟩)/\Below w w w'):=by
 obtain⟨g,cap,rfl,f,i⟩:=h.formS d;have a:=To h;obtain rfl:=h.len;have b:(xs.map λl=>(⟨l.toArray⟩:ByteArray)).map (λx=>x.data.toList)=xs:=by
  rw[List.map_map];exact(List.map_congr_left (λx _=>by simp)).trans (List.map_id _)
 have c:(⟨#[44]⟩:ByteArray).data.toList=[44]:=rfl;have:=strings_Join g 0 cap (xs.map λl=>(⟨l.toArray⟩:ByteArray)) ⟨#[44]⟩ w a f (by rw[dQ];omega) (by rw[dQ];exact i) (by rw[b,c];omega);rw[dQ]at this;rw[b,c]at this;exact this
def ZJ (lb:Int)(a:1<=lb)(b:lb<=26):Utf8.encode (97+lb-1)=⟨#[UInt8.ofNat (96+lb.toNat)]⟩:=by
 have key:∀k:Fin 26,Utf8.encode (97+((k.val:Int)+1)-1)=⟨#[UInt8.ofNat (96+((k.val:Int)+1).toNat)]⟩:=by decide
 have:=key ⟨(lb-1).toNat,by omega⟩;have e:(((lb-1).toNat:Int))+1=lb:=by omega
 rw[show(((⟨(lb-1).toNat,by omega⟩:Fin 26).val:Nat):Int)+1=lb from e]at this;exact this
def AD:∀(f d:Nat) (kd lb:Int) (A:OAd) (n c:Nat) (ks:List bH) (w:World) (had:Nat),pQ d w A n c ks->(bY f (.mk kd lb ks) had).2=0 ->
  Calls Tryz.prog 10 #[.agg #[kd,lb,.slice A n c]] w (λe w'=>e=.returned (.string ⟨(lZ f (.mk kd lb ks)).toArray⟩)/\Below w w w')
 | 0,d,kd,lb,A,n,c,ks,w,had,h,p=>by rw[bY]at p;cases p
 | f+1,d,kd,lb,A,n,c,ks,w,had,h,p=>by
  have q:=aA (Gs (f+1) _ had p);have r:=aA (gG (f+1) _ had p);obtain⟨h1,k,V,W,X⟩:=iK p;have IH:=aA (AD f);have H:=aA h;have HL:=aA h.len;have B:=aA X;simp only[bH.kind,bH.label,bH.kids]at k B;have Y:ks.length=n:=h.len;have hd:1<=kd/\kd<=6/\(kd=2->1<=lb/\lb<=26)/\(3<=kd->0<n):=by
   unfold cU at k;rw[Y]at k;split at k
   .cases k
   split at k
   .cases k
   split at k
   .cases k
   omega
  obtain⟨k1,k6,D,Z⟩:=hd;rw[W]at r q;have a0:n<=40:=by
   have a1:=Jr ks (had+1) V B.o;have a2:=r.o.2;simp only at a2;omega
  have X0:=aA (Box.new w #[kd,lb,.slice A n c] 35);have y:=aA (aF w (.cells #[kd,lb,.slice A n c] 35));have H0:=aA (h.keep y.o);clear h p k W X Y;generalize a3:w.alloc (.cells #[kd,lb,.slice A n c] 35)=w0 at *
  obtain⟨c0,c1,c2⟩:=X0.o.three;by_cases u:kd=1
  .subst u;go_enter Tryz.func10,Tryz.ntmps10
   go_wp2
   go_ret
   exact⟨by rw[Wc];rfl,y.o⟩
  by_cases E:kd=2
  .subst E;have s:=D rfl;have l:=s.1;have F:=s.2;clear s D;go_enter Tryz.func10,Tryz.ntmps10
   go_wp2
   rw[ZJ lb l F];go_ret
   exact⟨by rw[We];rfl,y.o⟩
  have C:3<=kd:=by omega
  have a4:(kd==1)=false:=by simpa using u
  have a5:(kd==2)=false:=by simpa using E
  have G:=Z C;have CS:=aA (λw=>PY w kd C k6);have HJ:=aA (show(PU kd::40::(Lib.join (ks.map (lZ f)) [44]++[41])).length+1<=4*(V-had) by have:=q.o;rw[SC C]at this;exact this);have I:(Lib.join (ks.map (lZ f)) [44]).length<=1000:=by
   have a1:=HJ.o;have a2:=r.o.2;simp only[bP,bL,fQ]at a1 a2;omega
  clear q HJ;clear D Z u E;go_enter Tryz.func10,Tryz.ntmps10
  go_upto_region 8 with fail
  clear c0 c1 c2;go_loopw [3,21] (λsv v wr=>∃i:Nat,i<=n/\v=i/\Hid (aJ Yz 1 wr w0 9 sv i ((ks.take i).map (lZ f)))/\Hid (Below w0 w0 wr)) (λ_ v _=>n-(intOf v).toNat)
  case atStart=>exact⟨0,aL _,rfl,aJ.nil,aH _ _⟩
  obtain⟨i,hi,rfl,J,x⟩:=hrel;by_cases K:i<n
  .have a6:(i:Int)<(n:Int):=by omega
   obtain⟨bl,a9,a,b,g,L,M,N,d',rfl,rfl,b0,O,q0,q1,q2,K'⟩:=(H0.o.keep x.o).get K;obtain⟨P,e0⟩:=Fv B.o i;obtain⟨b1,u,_⟩:=iL B.o O.o e0;have m:=aF wr (.cells #[a,b,.slice L M N] 35);have X3:=aA (x.o.trans (m.mono x.o.size));have Q:=aA (J.o.keep (λ_ _ _ _ _ h=>h) m);have CI:=aA (IH.o d' a b L M N g (wr.alloc (.cells #[a,b,.slice L M N] 35)) P (K'.o.keep m) (by rw[u]));have HT:=aA (show(ks.take (i+1)).map (lZ f)=(ks.take i).map (lZ f)++[lZ f (.mk a b g)] by rw[cP,O.o];simp);clear e0 u O m;go_wp2_with (first
    |(go_at_call 10;(with_reducible refine CI.o.mono ?_);rintro e w4 ⟨rfl,t⟩;have X4:=aA (X3.o.trans (t.mono X3.o.size));have R:=aA (Q.o.keep (λ_ _ _ _ _ h=>h) t);clear t)
    |(at_builtin;refine dW YB rfl _ _ rfl [lZ f (.mk a b g)] #[.string ⟨(lZ f (.mk a b g)).toArray⟩] rfl rfl (by first|rfl|simp) rfl (by simp[Value.oneCell']) R.o (cD.one (vs:=λ_=>.string ⟨(lZ f (.mk a b g)).toArray⟩) rfl rfl (λj hj=>(by obtain rfl:j=0:=(by omega);rfl))) rfl X4.o X4.o.size (by omega) (by omega) (λ_ _ _ _ h=>h) ?_;intro v1 w1 o S l;have T:=aA o;have X5:=aA l;clear o S l))
   go_roundw
   case rel=>exact⟨i+1,by omega,by go_num,by rw[HT.o];exact T,X5⟩
   simp[intOf];omega
  obtain rfl:i=n:=by omega
  have U:=aA (show aJ Yz 1 wr w0 9 u3 i (ks.map (lZ f)) by have:=J.o;rwa[aW (by rw[HL.o];exact aB _)]at this);have XJ:=aA (PZ U.o G (by omega) I);clear J;have c0:wr.cell? w=some (.int .i64 kd):=((X0.o.keep x.o).three).1;go_wp2_with (first
   |(go_at_call 25;(with_reducible refine(CS.o _).mono ?_);rintro e w4 ⟨rfl,rfl⟩)
   |(go_at_call 26;(with_reducible refine XJ.o.mono ?_);rintro e w5 ⟨rfl,z⟩;have X6:=aA (x.o.trans (z.mono x.o.size));clear z))
  go_ret
  exact⟨by rw[SC C];simp[app2],(y.o.trans (X6.o.mono y.o.size))⟩
def few (g:KSt):Prop:=g.places<=300/\g.links.length<=300
def Eo {a b:KSt}{k:Nat}(h:Gr a b k)(c:few b):few a:=⟨aT h.up c.1,aT h.pre.length_le c.2⟩
def AE {g:KSt}{l:Int}{a b:LIn}(h:few (lnk g l a b)):few g:=⟨h.1,by have:=h.2;simp only[lnk,bL]at this;omega⟩
structure KFr (N s:Nat)(w wr:World)(blk:Array Value)(P:Nat)(v:Value):Prop where
 blk:Box wr s 35 blk
 kg:Box wr (s+1) 104 #[.int .i64 P,v]
 res:Box wr (s+1+1) 104 #[.int .i64 0,.slice none 0 0]
 below:Below w.heap.size w wr
 sz:w.heap.size=s
 lo:N<=s
section
variable {N s P P':Nat} {w wr wr':World} {blk:Array Value} {v:Value}
def KFr.new (N:Nat)(w:World)(blk:Array Value)(P:Nat)(v:Value)(a:N<=w.heap.size):KFr N w w (((w.alloc (.cells blk 35)).alloc (.cells #[P,v] 104)).alloc (.cells #[(0:Int),()] 104)) blk P v where
 blk:=((Box.new w blk _).old _).old _
 kg:=(Box.newAt (by simp) _ _).old _
 res:=Box.newAt (by simp) _ _
 below:=(((aH _ _).alloc (aB _) _).alloc (by simp) _).alloc (by simp;omega) _
 sz:=rfl
 lo:=a
def KFr.keep (h:KFr N s w wr blk P v)(a:Below wr wr wr'):KFr N s w wr' blk P v :=
 ⟨h.blk.keep a,h.kg.keep a,h.res.keep a,h.below.trans (a.mono h.below.size),h.sz,h.lo⟩
def KFr.set (h:KFr N s w wr blk P v)(P':Nat)(v':Value):KFr N s w ((wr.setCell ⟨s+1,0,none⟩ P').setCell ⟨s+1,1,none⟩ v') blk P' v' where
 blk:=(h.blk.other _ (by simp)).other _ (by simp)
 kg:=h.kg.set2 _ _
 res:=(h.res.other _ (by simp)).other _ (by simp)
 below:=(h.below.setCell (p:=⟨s+1,0,none⟩) (by have:=h.sz;simp only;omega) _).setCell (p:=⟨s+1,1,none⟩) (by have:=h.sz;simp only;omega) _
 sz:=h.sz
 lo:=h.lo
def KFr.setP (h:KFr N s w wr blk P v)(P':Nat):KFr N s w (wr.setCell ⟨s+1,0,none⟩ P') blk P' v where
 blk:=h.blk.other _ (by simp)
 kg:=by simpa using h.kg.set 0 P'
 res:=h.res.other _ (by simp)
 below:=h.below.setCell (p:=⟨s+1,0,none⟩) (by have:=h.sz;simp only;omega) _
 sz:=h.sz
 lo:=h.lo
def LkM.setK {K c:Nat}{C:OAd}{l:List bG}(x:LkM N wr C K c l)(h:KFr N s w wr blk P v)(P':Nat)(v':Value):LkM N ((wr.setCell ⟨s+1,0,none⟩ P').setCell ⟨s+1,1,none⟩ v') C K c l :=
 x.turn h.kg (by decide) (by decide) (by have:=h.lo;omega) (kT wr ⟨s+1,0,none⟩ ⟨s+1,1,none⟩ _ _ rfl)
def LkM.setP {K c:Nat}{C:OAd}{l:List bG}(x:LkM N wr C K c l)(h:KFr N s w wr blk P v)(P':Nat):LkM N (wr.setCell ⟨s+1,0,none⟩ P') C K c l :=
 x.turn h.kg (by decide) (by decide) (by have:=h.lo;omega) (nU _ _ _ _)
def KFr.done {K c:Nat}{C:OAd}{l:List bG}(h:KFr N s w wr blk P v)(x:LkM N wr C K c l)(P':Nat)(v':Value) :
  Box ((wr.setCell ⟨s+1+1,0,none⟩ P').setCell ⟨s+1+1,1,none⟩ v') (s+1+1) 104 #[P',v']/\LkM N ((wr.setCell ⟨s+1+1,0,none⟩ P').setCell ⟨s+1+1,1,none⟩ v') C K c l/\Below w w ((wr.setCell ⟨s+1+1,0,none⟩ P').setCell ⟨s+1+1,1,none⟩ v') :=
 ⟨h.res.set2 _ _,x.turn h.res (by decide) (by decide) (by have:=h.lo;omega) (kT wr ⟨s+1+1,0,none⟩ ⟨s+1+1,1,none⟩ _ _ rfl),
  (h.below.setCell (p:=⟨s+1+1,0,none⟩) (by have:=h.sz;simp only;omega) _).setCell (p:=⟨s+1+1,1,none⟩) (by have:=h.sz;simp only;omega) _⟩
end
def YC (w0:World)(f:Nat):Prop :=
 ∀(d:Nat) (kd lb:Int) (A:OAd) (n c had:Nat) (ks:List bH) (p q:Int) (C:OAd) (a:Nat) (g:KSt) (w:World),(bY f (.mk kd lb ks) had).2=0->pQ d w0 A n c ks->LkM w0.heap.size w C g.links.length a g.links->Below w0.heap.size w0 w->few (kbB f (.mk kd lb ks) p q g) ->
  Calls Tryz.prog 46 #[.agg #[.int .i64 kd,.int .i64 lb,.slice A n c],.int .i64 p,.int .i64 q,.agg #[.int .i64 g.places,.slice C g.links.length a]] w (Lo w0.heap.size (kbB f (.mk kd lb ks) p q g) w)
def Tq {w0:World}{f:Nat}{kd lb:Int}{A:OAd}{n c:Nat}{ks:List bH}{p q:Int}{C:OAd}{s:Nat}{g:KSt}{w:World}(N:kd=1∨kd=2)(O:LkM w0 w C g.links.length s g.links)(Q:Below w0 w0 w)(x:few (kbB (f+1) (.mk kd lb ks) p q g)) :
  Calls Tryz.prog 46 #[.agg #[kd,lb,.slice A n c],p,q,.agg #[.int .i64 g.places,.slice C g.links.length s]] w (Lo w0 (kbB (f+1) (.mk kd lb ks) p q g) w):=by
 have R:∀(args:Array Value) (w:World),Sem.run Tryz.prog (callFunc 106 args) w=.ok (.enter 106 args) w:=λargs w=>by kernel_rfl
 obtain⟨l,t⟩:∃l,(if kd=1 then 0 else lb)=l:=⟨_,rfl⟩;have S:=aA (show kbB (f+1) (.mk kd lb ks) p q g=lnk g l [p] [q] by
  rcases N with rfl|rfl
  .rw[Yg,<-t,aG rfl]
  rw[Yh,<-t,aD (by decide)])
 obtain⟨r,y⟩:=aK (lnk g l [p] [q]);rw[S.o]at x ⊢;have U:=(AE x).2;have z:=aA y;rw[y];have j:=aA (KFr.new w0 w #[kd,lb,.slice A n c] g.places (.slice C g.links.length s) Q.size);have B:=aA (O.keep j.o.below);obtain⟨P,D⟩:=aK (g.places);obtain⟨K,hK⟩:=aK (g.links.length);have V:=aA D;have HK:=aA hK;have k:=aA t;rw[D,hK]at j B ⊢;rw[hK]at U;clear O Q x t D hK S y;go_enter Tryz.func46,Tryz.ntmps46
 go_upto_region 1 with fail
 generalize ((w.alloc (.cells #[kd,lb,.slice A n c] 35)).alloc (.cells #[.int .i64 P,.slice C K s] 104)).alloc (.cells #[(0:Int),()] 104)=u at *
 obtain⟨b0,b1,b2⟩:=j.o.blk.three;obtain⟨c0,c1⟩:=j.o.kg.two;have h:=aF u (.cells #[p] 3);have a:=aF (u.alloc (.cells #[p] 3)) (.cells #[q] 3);have E:=It w0 u p;have F:=It w0 (u.alloc (.cells #[p] 3)) q;have G:=(E.2.same E.1 a.size (λb W _=>a.block b W));have CL:=aA (mZ (g:=g) l ((B.o.keep h).keep a) G.2 F.1 G.1 F.2 (by omega));rw[V.o]at CL;rw[show(u.alloc (.cells #[p] 3)).heap.size=u.heap.size+1 by simp]at CL;have T:=aA ((j.o.keep h).keep a);clear h a E F G j B;rw[z.o]at CL;rcases N with rfl|rfl
 .obtain rfl:l=0:=by rw[<-k.o];rfl
  go_wp2_with (go_at_call 106;(with_reducible refine CL.o.mono ?_);rintro e X ⟨i,c3,rfl,m,bl⟩;have d:=aA (T.o.keep bl);have H:=aA m;clear m bl;obtain⟨Y,Z⟩:=d.o.res.two;have z0:=d.o.res.frozen 0;have z1:=d.o.res.frozen 1)
  obtain⟨o,I,J⟩:=d.o.done H.o r.places (.slice i r.links.length c3);have L:=o.cell 0;have M:=o.cell 1;exact aU (v:=.agg #[.int .i64 r.places,.slice i r.links.length c3]) (by simp[results,Tryz.results46,go_sem,L,M]) rfl ⟨i,c3,rfl,I,J⟩
 .obtain rfl:l=lb:=by rw[<-k.o];rfl
  go_wp2_with (go_at_call 106;(with_reducible refine CL.o.mono ?_);rintro e X ⟨i,c3,rfl,m,bl⟩;have d:=aA (T.o.keep bl);have H:=aA m;clear m bl;obtain⟨Y,Z⟩:=d.o.res.two;have z0:=d.o.res.frozen 0;have z1:=d.o.res.frozen 1)
  obtain⟨o,I,J⟩:=d.o.done H.o r.places (.slice i r.links.length c3);have L:=o.cell 0;have M:=o.cell 1;exact aU (v:=.agg #[.int .i64 r.places,.slice i r.links.length c3]) (by simp[results,Tryz.results46,go_sem,L,M]) rfl ⟨i,c3,rfl,I,J⟩
def YD {w0:World}{f d had:Nat}(B:YC w0 f){lb:Int}{A:OAd}{n c:Nat}{ks:List bH}{p q:Int}{C:OAd}{D:Nat}{g:KSt}{w:World}(hc:(bY (f+1) (.mk 4 lb ks) had).2=0)(hK:pQ d w0 A n c ks)(hL:LkM w0 w C g.links.length D g.links)(Q:Below w0 w0 w)(R:few (kbB (f+1) (.mk 4 lb ks) p q g)) :
  Calls Tryz.prog 46 #[.agg #[(4:Int),lb,.slice A n c],p,q,.agg #[.int .i64 g.places,.slice C g.links.length D]] w (Lo w0 (kbB (f+1) (.mk 4 lb ks) p q g) w):=by
 obtain⟨_,_,h',_,a⟩:=iK hc;replace a:ks.foldl (bU (bY f)) (had+1,0)=(h',0):=a
 have IH:=aA B;have FO:=aA a;obtain⟨F,hF⟩:∃F:KSt->bH×Nat->KSt,F=λs x=>Q7 (kbB f) p q s x.1:=⟨_,rfl⟩
 have S:=aA hF;have HR:=aA (show kbB (f+1) (.mk 4 lb ks) p q g=ks.zipIdx.foldl F g by rw[Yj,hF,Q9]);rw[HR.o]at R ⊢;have TG:=aA (λ(i E:Nat) (h1:(ks.take i).foldl (bU (bY f)) (had+1,0)=(E,0))=>show few ((ks.take i).zipIdx.foldl F g)from Eo (by
  rw[hF];exact wI (λs=>s) _ Ni h1 a) R)
 have h:=aA (KFr.new w0 w #[(4:Int),lb,.slice A n c] g.places (.slice C g.links.length D) Q.size);have y:=aA (hL.keep h.o.below);have HL:=aA (show ks.length=n from hK.len);have a0:=hK.small;have K:=aA hK;have HB:=aA Q;clear hL Q hK hc B a hF R;go_enter Tryz.func46,Tryz.ntmps46
 go_upto_region 1 with fail
 generalize ((w.alloc (.cells #[(4:Int),lb,.slice A n c] 35)).alloc (.cells #[.int .i64 g.places,.slice C g.links.length D] 104)).alloc (.cells #[(0:Int),()] 104)=u at *
 obtain⟨b0,b1,b2⟩:=h.o.blk.three;go_wp2
 clear b0 b1 b2;go_loopw [79] (λT wr=>∃(i E:Nat) (m:OAd) (b:Nat) (gi:KSt),i<=n/\T=i/\Hid ((ks.take i).zipIdx.foldl F g=gi)/\Hid ((ks.take i).foldl (bU (bY f)) (had+1,0)=(E,0))/\Hid (KFr w0 w w wr #[(4:Int),lb,.slice A n c] gi.places (.slice m gi.links.length b))/\Hid (LkM w0 wr m gi.links.length b gi.links)) (λT _=>n-(intOf T).toNat)
 case atStart=>exact⟨0,had+1,C,D,g,aL _,rfl,rfl,rfl,h,y⟩
 case round =>
  clear h y;obtain⟨i,E,m,b,gi,hi,rfl,GI,CK,h,y⟩:=hrel;by_cases U:i<n
  rotate_left
  .obtain rfl:i=n:=by omega
   have ZA:=aA (show ks.zipIdx.foldl F g=gi by rw[<-wH (i:=i) (by rw[HL.o];exact aB _)];exact GI.o);obtain⟨V,W⟩:=h.o.kg.two;obtain⟨v0,v1⟩:=h.o.res.two;have z0:=h.o.res.frozen 0;have z1:=h.o.res.frozen 1;go_wp2
   obtain⟨d1,d2,d3⟩:=h.o.done y.o gi.places (.slice m gi.links.length b);have r0:=d1.cell 0;have r1:=d1.cell 1;rw[ZA.o];exact aU (v:=.agg #[.int .i64 gi.places,.slice m gi.links.length b]) (by simp[results,Tryz.results46,go_sem,r0,r1]) rfl ⟨m,b,rfl,d2,d3⟩
  have a1:(i:Int)<(n:Int):=by omega
  obtain⟨bl,a2,j,k,G,H,I,J,d',rfl,rfl,o,X,p0,p1,p2,K'⟩:=K.o.get U;have z:=aA (HB.o.trans (h.o.below.mono HB.o.size));have q0:=(z.o.cell (p:=⟨bl,_,none⟩) o).trans p0;have q1:=(z.o.cell (p:=⟨bl,_,none⟩) o).trans p1;have q2:=(z.o.cell (p:=⟨bl,_,none⟩) o).trans p2;obtain⟨L,M,t⟩:=iL FO.o X.o CK.o;have Y:=aA t;obtain⟨r,P⟩:=aK (kbB f (.mk j k G) p q gi);have HZ:=aA (show(ks.take (i+1)).zipIdx.foldl F g=r by rw[qN X.o,GI.o,S.o];exact P);have Z:=TG.o (i+1) L t;rw[HZ.o]at Z;have l:=aF wr (.cells #[j,k,.slice H I J] 35);have XB:=aA (Box.new wr #[j,k,.slice H I J] 35);have F3:=aA (h.o.keep l);have CI:=aA (IH.o d' j k H I J E G p q m b gi (wr.alloc (.cells #[j,k,.slice H I J] 35)) (by rw[M]) K'.o (y.o.keep l) (z.o.trans (l.mono z.o.size)) (by rw[P];exact Z));rw[P]at CI;clear p0 p1 p2 M t l X K' P Z h y z;go_upto_region 22 with fail
  clear q0 q1 q2;generalize wr.alloc (.cells #[j,k,.slice H I J] 35)=w5 at *
  generalize wr.heap.size=b5 at *
  obtain⟨x0,x1,x2⟩:=XB.o.three;obtain⟨V,W⟩:=F3.o.kg.two;go_wp2_with (go_at_call 46;(with_reducible refine CI.o.mono ?_);rintro e w6 ⟨C6,c6,rfl,lm,N⟩;have O:=aA (F3.o.keep N);have L6:=aA lm;clear lm N x0 x1 x2 V W;obtain⟨V,W⟩:=O.o.kg.two;have z0:=O.o.kg.frozen 0;have z1:=O.o.kg.frozen 1)
  go_roundw
  case rel=>exact⟨i+1,L,C6,c6,r,by omega,by go_num,HZ,Y,aA (O.o.set _ _),aA (L6.o.setK O.o _ _)⟩
  simp[intOf];omega
def YE {w0:World}{f d had:Nat}(U:YC w0 f){lb:Int}{A:OAd}{n c:Nat}{ks:List bH}{p q:Int}{C:OAd}{V:Nat}{g:KSt}{w:World}(hc:(bY (f+1) (.mk 3 lb ks) had).2=0)(hK:pQ d w0 A n c ks)(hL:LkM w0 w C g.links.length V g.links)(hB:Below w0 w0 w)(hf:few (kbB (f+1) (.mk 3 lb ks) p q g)) :
  Calls Tryz.prog 46 #[.agg #[(3:Int),lb,.slice A n c],p,q,.agg #[.int .i64 g.places,.slice C g.links.length V]] w (Lo w0 (kbB (f+1) (.mk 3 lb ks) p q g) w):=by
 obtain⟨_,_,h',_,b⟩:=iK hc;replace b:ks.foldl (bU (bY f)) (had+1,0)=(h',0):=b
 have IH:=aA U;have FO:=aA b;obtain⟨F,hF⟩:∃F:KSt×Int->bH×Nat->KSt×Int,F=Nh (kbB f) n q:=⟨_,rfl⟩;have W:=aA hF;have X:=hK.len;have HR:=aA (show kbB (f+1) (.mk 3 lb ks) p q g=(ks.zipIdx.foldl F (g,p)).1 by rw[Yi,hF,X]);clear X;rw[HR.o]at hf ⊢;have TG:=aA (λ(i J:Nat) (h1:(ks.take i).foldl (bU (bY f)) (had+1,0)=(J,0))=>show few ((ks.take i).zipIdx.foldl F (g,p)).1 from Eo (by
  rw[hF];exact wI (λs:KSt×Int=>s.1) _ Nj h1 b) (by rw[<-hF];exact hf))
 have l:=aA (KFr.new w0 w #[(3:Int),lb,.slice A n c] g.places (.slice C g.links.length V) hB.size);have L:=aA (hL.keep l.o.below);have HL:=aA (show ks.length=n from hK.len);have a9:=hK.small;have K:=aA hK;have Q:=aA hB;clear hL hB hK hc U b hF hf;go_enter Tryz.func46,Tryz.ntmps46
 go_upto_region 1 with fail
 generalize ((w.alloc (.cells #[(3:Int),lb,.slice A n c] 35)).alloc (.cells #[.int .i64 g.places,.slice C g.links.length V] 104)).alloc (.cells #[(0:Int),()] 104)=u at *
 obtain⟨Y,Z,b2⟩:=l.o.blk.three;go_wp2
 clear Y Z b2;go_loopw [1,49] (λpv iv wr=>∃(i J:Nat) (E:OAd) (k:Nat) (gi:KSt) (G:Int),i<=n/\iv=i/\pv=G/\Hid ((ks.take i).zipIdx.foldl F (g,p)=(gi,G))/\Hid ((ks.take i).foldl (bU (bY f)) (had+1,0)=(J,0))/\Hid (KFr w0 w w wr #[(3:Int),lb,.slice A n c] gi.places (.slice E gi.links.length k))/\Hid (LkM w0 wr E gi.links.length k gi.links)) (λ_ iv _=>n-(intOf iv).toNat)
 case atStart=>exact⟨0,had+1,C,V,g,p,aL _,rfl,rfl,rfl,rfl,l,L⟩
 case round =>
  clear l L;obtain⟨i,J,E,k,gi,G,hi,rfl,rfl,GI,CK,l,L⟩:=hrel;by_cases a3:i<n
  rotate_left
  .obtain rfl:i=n:=by omega
   have ZA:=aA (show(ks.zipIdx.foldl F (g,p)).1=gi by rw[<-wH (i:=i) (by rw[HL.o];exact aB _),GI.o]);obtain⟨H,I⟩:=l.o.kg.two;obtain⟨v0,v1⟩:=l.o.res.two;have z0:=l.o.res.frozen 0;have z1:=l.o.res.frozen 1;go_wp2
   obtain⟨d1,d2,d3⟩:=l.o.done L.o gi.places (.slice E gi.links.length k);have r0:=d1.cell 0;have r1:=d1.cell 1;rw[ZA.o];exact aU (v:=.agg #[.int .i64 gi.places,.slice E gi.links.length k]) (by simp[results,Tryz.results46,go_sem,r0,r1]) rfl ⟨E,k,rfl,d2,d3⟩
  have b3:(i:Int)<(n:Int):=by omega
  obtain⟨bl,b4,h,j,o,R,S,T,d',rfl,rfl,M,hx,t0,t1,t2,K'⟩:=K.o.get a3;have BX:=aA (Q.o.trans (l.o.below.mono Q.o.size));have q0:=(BX.o.cell (p:=⟨bl,_,none⟩) M).trans t0;have q1:=(BX.o.cell (p:=⟨bl,_,none⟩) M).trans t1;have q2:=(BX.o.cell (p:=⟨bl,_,none⟩) M).trans t2;obtain⟨N,m,z⟩:=iL FO.o hx.o CK.o;have a0:=aA z;have O:=TG.o (i+1) N z;have ZS:=aA (qN (F:=F) (s:=(g,p)) hx.o);have B:=aF wr (.cells #[h,j,.slice R S T] 35);have XB:=aA (Box.new wr #[h,j,.slice R S T] 35);have D:=aA (l.o.keep B);have L3:=aA (L.o.keep B);have b6:=aA m;by_cases a4:i+1<n
  .have a5:(i:Int)<(n:Int)-1:=by omega
   obtain⟨P,a1⟩:=aK (gi.places+1);obtain⟨r,y⟩:=aK (kbB f (.mk h j o) G (gi.places:Int) (more gi 1));have HZ:=aA (show(ks.take (i+1)).zipIdx.foldl F (g,p)=(r,(gi.places:Int)) by rw[ZS.o,GI.o,W.o,Nh,aG (by simp only;omega),y]);rw[HZ.o]at O;have a2:few (more gi 1):=Eo (lI f (.mk h j o) J G (gi.places:Int) (more gi 1) (by rw[m])).1 (by rw[y];exact O);have b7:P<=300:=by have:=a2.1;simp only[more]at this;omega
   have F4:=aA (D.o.setP P);have L4:=aA (L3.o.setP D.o P);have X4:=aA (XB.o.other (a:=⟨w.heap.size+1,0,none⟩) (.int .i64 P) (by have:=l.o.kg.lt;simp only;omega));have CI:=aA (IH.o d' h j R S T J o G (gi.places:Int) E k (more gi 1) _ (by rw[m]) K'.o L4.o (Q.o.trans (F4.o.below.mono Q.o.size)) (by rw[y];exact O));rw[y,show(more gi 1).places=P from a1,show(more gi 1).links=gi.links from rfl]at CI;have a6:(gi.places:Int)+1=(P:Int):=by omega
   obtain⟨H,I⟩:=D.o.kg.two;have z0:=D.o.kg.frozen 0;clear t0 t1 t2 m z B hx K' y O l L BX a2 a1 L3;go_upto_region 12 with fail
   clear q0 q1 q2;obtain⟨Y,Z,b2⟩:=D.o.blk.three;generalize wr.alloc (.cells #[h,j,.slice R S T] 35)=w5 at *
   generalize wr.heap.size=b5 at *
   go_upto_region 15 with fail
   generalize w5.setCell ⟨w.heap.size+1,0,none⟩ (.int .i64 P)=w6 at *
   clear H I z0 Y Z b2;obtain⟨x0,x1,x2⟩:=X4.o.three;obtain⟨H,I⟩:=F4.o.kg.two;go_wp2_with (go_at_call 46;(with_reducible refine CI.o.mono ?_);rintro e w7 ⟨C6,c6,rfl,lm,t⟩;have x:=aA (F4.o.keep t);have L6:=aA lm;clear lm t x0 x1 x2 H I;obtain⟨H,I⟩:=x.o.kg.two;have z0:=x.o.kg.frozen 0;have z1:=x.o.kg.frozen 1)
   go_roundw
   case rel=>exact⟨i+1,N,C6,c6,r,(gi.places:Int),by omega,by go_num,rfl,HZ,a0,aA (x.o.set _ _),aA (L6.o.setK x.o _ _)⟩
   simp[intOf];omega
  have a5:¬(i:Int)<(n:Int)-1:=by omega
  obtain⟨r,y⟩:=aK (kbB f (.mk h j o) G q gi);have HZ:=aA (show(ks.take (i+1)).zipIdx.foldl F (g,p)=(r,q) by rw[ZS.o,GI.o,W.o,Nh,aD (by simp only;omega),y]);rw[HZ.o]at O;have CI:=aA (IH.o d' h j R S T J o G q E k gi _ (by rw[m]) K'.o L3.o (Q.o.trans (D.o.below.mono Q.o.size)) (by rw[y];exact O));rw[y]at CI;clear t0 t1 t2 m z B hx K' y O l L BX L3;go_upto_region 12 with fail
  clear q0 q1 q2;obtain⟨Y,Z,b2⟩:=D.o.blk.three;generalize wr.alloc (.cells #[h,j,.slice R S T] 35)=w5 at *
  generalize wr.heap.size=b5 at *
  obtain⟨x0,x1,x2⟩:=XB.o.three;obtain⟨H,I⟩:=D.o.kg.two;go_wp2_with (go_at_call 46;(with_reducible refine CI.o.mono ?_);rintro e w7 ⟨C6,c6,rfl,lm,t⟩;have x:=aA (D.o.keep t);have L6:=aA lm;clear lm t x0 x1 x2 H I Y Z b2;obtain⟨H,I⟩:=x.o.kg.two;have z0:=x.o.kg.frozen 0;have z1:=x.o.kg.frozen 1)
  go_roundw
  case rel=>exact⟨i+1,N,C6,c6,r,q,by omega,by go_num,rfl,HZ,a0,aA (x.o.set _ _),aA (L6.o.setK x.o _ _)⟩
  simp[intOf];omega
def Tt (N:Nat)(w:World)(p q:Int):Below w w ((w.alloc (.cells #[p] 3)).alloc (.cells #[q] 3)) /\
  aY ((w.alloc (.cells #[p] 3)).alloc (.cells #[q] 3)) (some ⟨w,0,none⟩) 1 1 [p]/\jY N ((w.alloc (.cells #[p] 3)).alloc (.cells #[q] 3)) (some ⟨w,0,none⟩) 1 /\
  aY ((w.alloc (.cells #[p] 3)).alloc (.cells #[q] 3)) (some ⟨w.heap.size+1,0,none⟩) 1 1 [q]/\jY N ((w.alloc (.cells #[p] 3)).alloc (.cells #[q] 3)) (some ⟨w.heap.size+1,0,none⟩) 1:=by
 have c:=aF w (.cells #[p] 3);have a:=aF (w.alloc (.cells #[p] 3)) (.cells #[q] 3);have e:=It N w p;have d:=It N (w.alloc (.cells #[p] 3)) q;rw[show(w.alloc (.cells #[p] 3)).heap.size=w.heap.size+1 by simp]at d;have f:=(e.2.same e.1 a.size (λb g _=>a.block b g));exact⟨c.trans (a.mono c.size),f.2,f.1,d.1,d.2⟩
def Xq {w0:World}{f d had:Nat}(N:YC w0 f){lb:Int}{A:OAd}{n c:Nat}{ks:List bH}{p q:Int}{C:OAd}{cc:Nat}{g:KSt}{w:World}(hc:(bY (f+1) (.mk 6 lb ks) had).2=0)(hK:pQ d w0 A n c ks)(hL:LkM w0 w C g.links.length cc g.links)(hB:Below w0 w0 w)(hf:few (kbB (f+1) (.mk 6 lb ks) p q g)) :
  Calls Tryz.prog 46 #[.agg #[(6:Int),lb,.slice A n c],p,q,.agg #[.int .i64 g.places,.slice C g.links.length cc]] w (Lo w0 (kbB (f+1) (.mk 6 lb ks) p q g) w):=by
 have f0:∀(args:Array Value) (w:World),Sem.run Tryz.prog (callFunc 106 args) w=.ok (.enter 106 args) w:=λargs w=>by kernel_rfl
 obtain⟨_,a0,h',_,i⟩:=iK hc;replace i:ks.foldl (bU (bY f)) (had+1,0)=(h',0):=i
 have a1:=(sP a0).2.2.1 rfl;simp only[bH.kids]at a1;have d6:n=2:=by have:=hK.len;omega
 subst d6;obtain⟨k,a,k0,l0,s0,B0,m0,e0,d0,d7,hA,r,O,a2,a3,a4,K0⟩:=hK.get (show 0<2 by omega);obtain⟨f4,f3,k1,l1,s1,B1,m1,e1,d1,e2,P,_,Q,a5,a6,a9,K1⟩:=hK.get (show 1<2 by omega);subst hA;injection P with P;injection P with H z2;subst H z2;have b1:ks=[.mk k0 l0 s0,.mk k1 l1 s1]:=by
  apply iE
  intro j;match j with
  | 0=>rw[O.o];rfl
  | 1=>rw[Q.o];rfl
  | j+2=>rw[dC (by omega)];rfl
 obtain⟨b2,R,b3⟩:=iL i O.o (by rfl:(ks.take 0).foldl (bU (bY f)) (had+1,0)=(had+1,0));obtain⟨f5,S,_⟩:=iL i Q.o b3;obtain⟨y,T⟩:=aK (g.places);obtain⟨I,b4⟩:=aK (y+1);obtain⟨X2,e3⟩:=aK (y+2);obtain⟨s,J⟩:=aK (lnk (more g 2) 0 [p] [(y:Int)]);obtain⟨t,D⟩:=aK (kbB f (.mk k0 l0 s0) (y:Int) (I:Int) s);obtain⟨z,E⟩:=aK (kbB f (.mk k1 l1 s1) (I:Int) (y:Int) t);obtain⟨B,L⟩:=aK (lnk z 0 [(I:Int)] [q]);have HR:=aA (show kbB (f+1) (.mk 6 lb ks) p q g=B by rw[b1,Yl,T,b4,J,D,E,L]);rw[HR.o]at hf ⊢;have W3:few z:=AE (by rw[L];exact hf);have W2:few t:=Eo (lI f (.mk k1 l1 s1) b2 _ _ t (by rw[S])).1 (by rw[E];exact W3);have W1:few s:=Eo (lI f (.mk k0 l0 s0) (had+1) _ _ s (by rw[R])).1 (by rw[D];exact W2);have W0:few (more g 2):=AE (by rw[J];exact W1);have b5:=W0.2;have e4:=W3.2;have f6:X2<=300:=by have:=W0.1;simp only[more]at this;omega
 have FR:=aA (KFr.new w0 w #[(6:Int),lb,.slice (some ⟨k,a,none⟩) 2 c] g.places (.slice C g.links.length cc) hB.size);have LM:=aA (hL.keep FR.o.below);have M:=aA hB;have U:=aA (show ∀wr,Below w0 w0 wr->wr.cell? ⟨k,a,none⟩=some (.int .i64 k0)/\wr.cell? ⟨k,a+1,none⟩=some (.int .i64 l0)/\wr.cell? ⟨k,a+2,none⟩=some (.slice B0 m0 e0)from λwr V=>⟨(V.cell (p:=⟨k,a,none⟩) r).trans (by simpa using a2),(V.cell (p:=⟨k,a+1,none⟩) r).trans (by simpa using a3),(V.cell (p:=⟨k,a+2,none⟩) r).trans (by simpa using a4)⟩);have W:=aA (show ∀wr,Below w0 w0 wr->wr.cell? ⟨k,a+3,none⟩=some (.int .i64 k1)/\wr.cell? ⟨k,a+3+1,none⟩=some (.int .i64 l1)/\wr.cell? ⟨k,a+3+2,none⟩=some (.slice B1 m1 e1)from λwr V=>⟨(V.cell (p:=⟨k,a+3,none⟩) r).trans (by simpa using a5),(V.cell (p:=⟨k,a+3+1,none⟩) r).trans (by simpa using a6),(V.cell (p:=⟨k,a+3+2,none⟩) r).trans (by simpa using a9)⟩);have b6:=aA (show(more g 2).places=X2/\(more g 2).links=g.links by simp only[more];exact⟨by omega,trivial⟩);have C0:=aA (λ(b:World) (o:OAd) (x:Nat) (X:LkM w0 b o s.links.length x s.links) (Y:Below w0 w0 b)=>show Calls Tryz.prog _ _ _ (Lo w0 t b)from by rw[<-D];exact N d0 k0 l0 B0 m0 e0 (had+1) s0 (y:Int) (I:Int) o x s b (by rw[R]) K0.o X Y (by rw[D];exact W2));have C1:=aA (λ(b:World) (o:OAd) (x:Nat) (X:LkM w0 b o t.links.length x t.links) (Y:Below w0 w0 b)=>show Calls Tryz.prog _ _ _ (Lo w0 z b)from by rw[<-E];exact N d1 k1 l1 B1 m1 e1 b2 s1 (I:Int) (y:Int) o x t b (by rw[S]) K1.o X Y (by rw[E];exact W3));have e5:=aA (λ(b:World) (o A1 A2:OAd) (x:Nat) (X:LkM w0 b o g.links.length x g.links) (i1:aY b A1 1 1 [p]) (f1:jY w0 b A1 1) (i2:aY b A2 1 1 [(y:Int)]) (f2:jY w0 b A2 1)=>show Calls Tryz.prog _ _ _ (Lo w0 s b)from by
  rw[<-J];have:=mZ (g:=more g 2) 0 (C:=o) X i1 i2 f1 f2 (by show g.links.length<=1000;have:g.links.length<=300:=b5;omega);rw[b6.o.1]at this;exact this)
 have e6:=aA (λ(b:World) (o A1 A2:OAd) (x:Nat) (X:LkM w0 b o z.links.length x z.links) (i1:aY b A1 1 1 [(I:Int)]) (f1:jY w0 b A1 1) (i2:aY b A2 1 1 [q]) (f2:jY w0 b A2 1)=>show Calls Tryz.prog _ _ _ (Lo w0 B b)from by
  rw[<-L];exact mZ (g:=z) 0 (C:=o) X i1 i2 f1 f2 (by omega))
 have e7:(y:Int)+1=(I:Int):=by omega
 have e8:(y:Int)+2=(X2:Int):=by omega
 rw[T]at FR LM ⊢;clear hL hB hK hc N i hf a0 a1 O Q a2 a3 a4 a5 a6 a9 b1 R b3 S T J D E L K0 K1 d7 e2 r b5 e4 W0 W1 W2 W3 HR b4 e3 b6;go_enter Tryz.func46,Tryz.ntmps46
 go_upto_region 1 with fail
 generalize ((w.alloc (.cells #[(6:Int),lb,.slice (some ⟨k,a,none⟩) 2 c] 35)).alloc (.cells #[.int .i64 y,.slice C g.links.length cc] 104)).alloc (.cells #[(0:Int),()] 104)=u at *
 obtain⟨c0,c1,c2⟩:=FR.o.blk.three;obtain⟨l,m⟩:=FR.o.kg.two;go_upto_region 40 with fail
 go_region_held3 (λw'=>w'.cell? ⟨w.heap.size+1,0,none⟩=some (.int .i64 y)) (first|go_keep) (fail)
 have b7:IntKind.i64.wrap (I:Int)=(I:Int):=by rw[pU];omega
 rw[b7];clear b7 c0 c1 c2 l m;have Fa:=aA (FR.o.keep (aH _ _).drew);have La:=aA (LM.o.keep (aH _ _).drew);clear FR LM;generalize u.drew=ua at *
 obtain⟨l,m⟩:=Fa.o.kg.two;have z0:=Fa.o.kg.frozen 0;have Fb:=aA (Fa.o.setP X2);have Lb:=aA (La.o.setP Fa.o X2);go_upto_region 42 with fail
 clear l m z0 La;clear Fa;generalize ua.setCell ⟨w.heap.size+1,0,none⟩ (.int .i64 X2)=ub at *
 obtain⟨l,m⟩:=Fb.o.kg.two;obtain⟨Z,t2,t3,t4,t5⟩:=Tt w0 ub p (y:Int);have b9:=aA (e5.o _ C _ _ cc (Lb.o.keep Z) t2 t3 t4 t5);have Fc:=aA (Fb.o.keep Z);clear Z t2 t3 t4 t5 Fb Lb;go_upto_region 43 with(go_at_call 106;(with_reducible refine b9.o.mono ?_);rintro e w3 ⟨C3,c3,rfl,F,c7⟩;have Fd:=aA (Fc.o.keep c7);have Ld:=aA F;clear F c7 l m;obtain⟨l,m⟩:=Fd.o.kg.two;have z0:=Fd.o.kg.frozen 0;have H:=Fd.o.kg.frozen 1;have Fe:=aA (Fd.o.set s.places (.slice C3 s.links.length c3));have Le:=aA (Ld.o.setK Fd.o s.places (.slice C3 s.links.length c3)))
 clear l m z0 H Ld Fc b9;clear Fd;generalize (w3.setCell ⟨w.heap.size+1,0,none⟩ (.int .i64 s.places)).setCell ⟨w.heap.size+1,1,none⟩ (.slice C3 s.links.length c3)=we at *
 have BE:=M.o.trans (Fe.o.below.mono M.o.size);obtain⟨q0,q1,q2⟩:=U.o _ BE;obtain⟨c0,c1,c2⟩:=Fe.o.blk.three;obtain⟨l,m⟩:=Fe.o.kg.two;have Ff:=aA (Fe.o.keep (aH _ _).drew);have BF:=M.o.trans (Ff.o.below.mono M.o.size);have c8:=aA (C0.o _ C3 c3 (Le.o.keep (aH _ _).drew) BF);clear BE BF Fe Le;refine gZ 7 [(0,0),(0,1),(0,2),(0,3),(0,4),(0,5),(0,6),(2,7),(2,8)] (λw'=>w'.cell? ⟨w,2,none⟩=some (.slice (some ⟨k,a,none⟩) 2 c)/\w'.cell? ⟨k,a,none⟩=some (.int .i64 k0)/\w'.cell? ⟨k,a+1,none⟩=some (.int .i64 l0)/\w'.cell? ⟨k,a+2,none⟩=some (.slice B0 m0 e0)/\w'.cell? ⟨w.heap.size+1,0,none⟩=some (.int .i64 s.places)/\w'.cell? ⟨w.heap.size+1,1,none⟩=some (.slice C3 s.links.length c3)) (by kernel_rfl) (by kernel_rfl) (by kernel_rfl) (λ_ _ _ _ _ h=>h) ⟨c2,q0,q1,q2,l,m⟩ (λhH=>?_)
 iterate 7
  refine nG (v:=?_) rfl (by rfl) hH (λw' e9=>?_) ?_
  rotate_left
  ·(go_simp;try with_reducible rfl)
  simp only[aC]
 refine x5 rfl (λK hK=>?_);go_simp;go_at_call 46
 (with_reducible refine c8.o.mono ?_)
 rintro e w4 ⟨C4,c4,rfl,F,G⟩;clear c0 c1 c2 q0 q1 q2 l m hH;have Fg:=aA (Ff.o.keep G);have Lg:=aA F;clear F G;obtain⟨l,m⟩:=Fg.o.kg.two;have z0:=Fg.o.kg.frozen 0;have H:=Fg.o.kg.frozen 1;refine hK.out _ _ ?_;clear hK;try simp only[aC]
 refine x5 rfl (λK hK=>?_);go_simp
 refine hK.out _ _ ?_;clear hK;simp only[gB];have Fh:=aA (Fg.o.set t.places (.slice C4 t.links.length c4));have Lh:=aA (Lg.o.setK Fg.o t.places (.slice C4 t.links.length c4));clear l m z0 H Fg Lg c8 Ff;go_upto_region 44 with fail
 generalize (w4.setCell ⟨w.heap.size+1,0,none⟩ (.int .i64 t.places)).setCell ⟨w.heap.size+1,1,none⟩ (.slice C4 t.links.length c4)=wh at *
 have BE:=M.o.trans (Fh.o.below.mono M.o.size);obtain⟨q0,q1,q2⟩:=W.o _ BE;obtain⟨c0,c1,c2⟩:=Fh.o.blk.three;obtain⟨l,m⟩:=Fh.o.kg.two;have Fi:=aA (Fh.o.keep (aH _ _).drew);have BF:=M.o.trans (Fi.o.below.mono M.o.size);have c9:=aA (C1.o _ C4 c4 (Lh.o.keep (aH _ _).drew) BF);clear BE BF Fh Lh;refine gZ 7 [(0,0),(0,1),(0,2),(0,3),(0,4),(0,5),(0,6),(2,7),(2,8)] (λw'=>w'.cell? ⟨w,2,none⟩=some (.slice (some ⟨k,a,none⟩) 2 c)/\w'.cell? ⟨k,a+3,none⟩=some (.int .i64 k1)/\w'.cell? ⟨k,a+3+1,none⟩=some (.int .i64 l1)/\w'.cell? ⟨k,a+3+2,none⟩=some (.slice B1 m1 e1)/\w'.cell? ⟨w.heap.size+1,0,none⟩=some (.int .i64 t.places)/\w'.cell? ⟨w.heap.size+1,1,none⟩=some (.slice C4 t.links.length c4)) (by kernel_rfl) (by kernel_rfl) (by kernel_rfl) (λ_ _ _ _ _ h=>h) ⟨c2,q0,q1,q2,l,m⟩ (λhH=>?_)
 iterate 7
  refine nG (v:=?_) rfl (by rfl) hH (λw' e9=>?_) ?_
  rotate_left
  ·(go_simp;try with_reducible rfl)
  simp only[aC]
 refine x5 rfl (λK hK=>?_);go_simp;go_at_call 46
 (with_reducible refine c9.o.mono ?_)
 rintro e b ⟨o,x,rfl,F,G⟩;clear c0 c1 c2 q0 q1 q2 l m hH;have Fj:=aA (Fi.o.keep G);have Lj:=aA F;clear F G;obtain⟨l,m⟩:=Fj.o.kg.two;have z0:=Fj.o.kg.frozen 0;have H:=Fj.o.kg.frozen 1;refine hK.out _ _ ?_;clear hK;try simp only[aC]
 refine x5 rfl (λK hK=>?_);go_simp
 refine hK.out _ _ ?_;clear hK;simp only[gB];have Fk:=aA (Fj.o.set z.places (.slice o z.links.length x));have Lk:=aA (Lj.o.setK Fj.o z.places (.slice o z.links.length x));clear l m z0 H Fj Lj c9 Fi;go_upto_region 45 with fail
 generalize (b.setCell ⟨w.heap.size+1,0,none⟩ (.int .i64 z.places)).setCell ⟨w.heap.size+1,1,none⟩ (.slice o z.links.length x)=wk at *
 obtain⟨l,m⟩:=Fk.o.kg.two;obtain⟨Z,t2,t3,t4,t5⟩:=Tt w0 wk (I:Int) q;have d4:=aA (e6.o _ o _ _ x (Lk.o.keep Z) t2 t3 t4 t5);have Fl:=aA (Fk.o.keep Z);clear Z t2 t3 t4 t5 Fk Lk;go_upto_region 46 with(go_at_call 106;(with_reducible refine d4.o.mono ?_);rintro e w6 ⟨C6,c6,rfl,F,d5⟩;have Fm:=aA (Fl.o.keep d5);have Lm:=aA F;clear F d5 l m;obtain⟨l,m⟩:=Fm.o.kg.two;have z0:=Fm.o.kg.frozen 0;have H:=Fm.o.kg.frozen 1;have Fn:=aA (Fm.o.set B.places (.slice C6 B.links.length c6));have Ln:=aA (Lm.o.setK Fm.o B.places (.slice C6 B.links.length c6)))
 clear l m z0 H Lm Fl d4;clear Fm;generalize (w6.setCell ⟨w.heap.size+1,0,none⟩ (.int .i64 B.places)).setCell ⟨w.heap.size+1,1,none⟩ (.slice C6 B.links.length c6)=wn at *
 obtain⟨l,m⟩:=Fn.o.kg.two;obtain⟨v0,v1⟩:=Fn.o.res.two;have z0:=Fn.o.res.frozen 0;have H:=Fn.o.res.frozen 1;go_wp2
 obtain⟨d1,d2,d3⟩:=Fn.o.done Ln.o B.places (.slice C6 B.links.length c6);have r0:=d1.cell 0;have r1:=d1.cell 1;exact aU (v:=.agg #[.int .i64 B.places,.slice C6 B.links.length c6]) (by simp[results,Tryz.results46,go_sem,r0,r1]) rfl ⟨C6,c6,rfl,d2,d3⟩
def Ep {w:World}{b:Nat}{p:Int}(c:Box w b 3 #[p]):aY w (some ⟨b,0,none⟩) 1 1 [p]:=by
 refine⟨rfl,aB _,by simp[maxLen],by omega,λh=>(by cases h),λ_=>⟨b,0,rfl,c.lt,λj x a=>?_⟩⟩;obtain rfl:j=0:=by
  have:=(aR.1 a).1;simpa using this
 simp only[aQ,aZ]at a;subst a;refine⟨λ_=>.int .i64 p,λq d=>?_,rfl⟩;obtain rfl:q=0:=by omega
 exact c.cell 0
def pP {a f:World}{i j B:Nat}{b vo c:Value}{xs ys:LIn}(_:aI a B b i xs)(g:aI a B vo j ys)(k:t6 b vo)(l:a.grownBy f b.ownBlock)(d:c.ownBlock=b.ownBlock∨c.ownBlock=some a) :
  aI f B vo j ys/\t6 c vo:=by
 refine⟨aJ.kept g l k.other (λ_ _ h=>h), ?_⟩;rcases d with h|h
 .unfold t6;rw[h];exact k
 .refine .inr (λe=>?_);rw[h]at e;have:=(aJ.lt g _ e.symm).2;omega
def jY.turn {N n c g ty:Nat}{w w':World}{A:OAd}{xs:LIn}{cs:Array Value}(h:jY N w A n/\aY w A n c xs)(f:Box w g ty cs)(a:ty≠3)(j:N<=g)(i:w.grownBy w' (some g)):jY N w' A n/\aY w' A n c xs :=
 h.1.same h.2 i.size (λb d k=>i.block b d (λe=>by
  injection e with e;subst e;unfold Box at f;exact k.ne j f a rfl))
def jY.keep {N n c:Nat}{w w':World}{A:OAd}{xs:LIn}(h:jY N w A n/\aY w A n c xs)(d:Below w w w'):jY N w' A n/\aY w' A n c xs :=
 h.1.same h.2 d.size (λb a _=>d.block b a)
def Xs {w0:World}{f d had:Nat}(d7:YC w0 f){lb:Int}{A:OAd}{n c:Nat}{ks:List bH}{p q:Int}{C:OAd}{cc:Nat}{g:KSt}{w:World}(hc:(bY (f+1) (.mk 5 lb ks) had).2=0)(hK:pQ d w0 A n c ks)(hL:LkM w0 w C g.links.length cc g.links)(hB:Below w0 w0 w)(hf:few (kbB (f+1) (.mk 5 lb ks) p q g)) :
  Calls Tryz.prog 46 #[.agg #[(5:Int),lb,.slice A n c],p,q,.agg #[.int .i64 g.places,.slice C g.links.length cc]] w (Lo w0 (kbB (f+1) (.mk 5 lb ks) p q g) w):=by
 have k3:∀(args:Array Value) (w:World),Sem.run Tryz.prog (callFunc 106 args) w=.ok (.enter 106 args) w:=λargs w=>by kernel_rfl
 obtain⟨_,_,h',_,B⟩:=iK hc;replace B:ks.foldl (bU (bY f)) (had+1,0)=(h',0):=B
 have IH:=aA d7;have FO:=aA B;obtain⟨D,c8⟩:=aK (g.places);obtain⟨F,hF⟩:∃F:KSt->bH×Nat->KSt,F=zY (kbB f) D:=⟨_,rfl⟩;obtain⟨I,b4⟩:=aK (lnk (more g (2*n)) 0 [p] (AY D n));obtain⟨g4,b5⟩:=aK (ks.zipIdx.foldl F I);obtain⟨W,b6⟩:=aK (lnk g4 0 (pF D n) [q]);have h0:=aA hF;have c9:=hK.len;have HR:=aA (show kbB (f+1) (.mk 5 lb ks) p q g=W by rw[Yk,c9,c8,b4,<-hF,b5,b6]);rw[HR.o]at hf ⊢;have W4:few g4:=AE (by rw[b6];exact hf);have TG:=aA (λ(i hd:Nat) (h1:(ks.take i).foldl (bU (bY f)) (had+1,0)=(hd,0))=>show few ((ks.take i).zipIdx.foldl F I)from Eo (by
  rw[hF];exact wI (λs=>s) _ Ib h1 B) (by rw[<-hF,b5];exact W4))
 have W1:few I:=TG.o 0 (had+1) rfl;have W0:few (more g (2*n)):=AE (by rw[b4];exact W1);have h2:g.links.length<=300:=W0.2;have h3:=W4.2;obtain⟨M,hM⟩:=aK (2*n);obtain⟨Pn,h4⟩:=aK (D+M);have k5:Pn<=300:=by have:=W0.1;simp only[more]at this;omega
 have h6:=aA (λ(R:World) (C5 A1 A2:OAd) (c5 c6:Nat) (h5:LkM w0 R C5 g.links.length c5 g.links) (i1:aY R A1 1 1 [p]) (f1:jY w0 R A1 1) (i2:aY R A2 n c6 (AY D n)) (f2:jY w0 R A2 n)=>show Calls Tryz.prog _ _ _ (Lo w0 I R)from by
  rw[<-b4];have:=mZ (g:=more g (2*n)) 0 (C:=C5) h5 i1 i2 f1 f2 (by show g.links.length<=1000;omega);rw[show(more g (2*n)).places=Pn by simp only[more];omega]at this;exact this)
 have h7:=aA (λ(R:World) (C5 A1 A2:OAd) (c5 c6:Nat) (h5:LkM w0 R C5 g4.links.length c5 g4.links) (i1:aY R A1 n c6 (pF D n)) (f1:jY w0 R A1 n) (i2:aY R A2 1 1 [q]) (f2:jY w0 R A2 1)=>show Calls Tryz.prog _ _ _ (Lo w0 W R)from by
  rw[<-b6];exact mZ (g:=g4) 0 (C:=C5) h5 i1 i2 f1 f2 (by omega))
 have z:=aA (KFr.new w0 w #[(5:Int),lb,.slice A n c] g.places (.slice C g.links.length cc) hB.size);have LM:=aA (hL.keep z.o.below);have HL:=aA c9;have k6:n<=150:=by omega
 have K:=aA hK;have HB:=aA hB;have H4:=aA b5;have k4:(2:Int)*(n:Int)=(M:Int):=by omega
 have h8:(D:Int)+(M:Int)=(Pn:Int):=by omega
 have k7:M<=300:=by omega
 rw[c8]at z LM ⊢;clear hL hB hK hc d7 B hF hf c8 b4 b5 b6 HR W0 W1 W4 hM h4 h2 h3 c9;go_enter Tryz.func46,Tryz.ntmps46
 go_upto_region 1 with fail
 generalize ((w.alloc (.cells #[(5:Int),lb,.slice A n c] 35)).alloc (.cells #[.int .i64 D,.slice C g.links.length cc] 104)).alloc (.cells #[(0:Int),()] 104)=u at *
 obtain⟨b0,b1,b2⟩:=z.o.blk.three;go_wp2
 clear b0 b1 b2;go_loopw [15,16,94] (λvi vo iv wr=>∃i:Nat,i<=n/\iv=i/\Hid (aI wr u vi i (AY D i))/\Hid (aI wr u vo i (pF D i))/\Hid (t6 vi vo)/\Hid (Below u u wr)) (λ_ _ iv _=>n-(intOf iv).toNat)
 case atStart=>exact⟨0,aL _,rfl,aJ.nil,aJ.nil,.inl rfl,aH _ _⟩
 case round =>
  obtain⟨i,hi,rfl,OI,OO,J,k⟩:=hrel;by_cases O:i<n
  rotate_left
  .obtain rfl:i=n:=by omega
   obtain⟨Ai,ci,rfl,ii⟩:=aJ.sl OI.o (by omega);obtain⟨Ao,co,rfl,io⟩:=aJ.sl OO.o (by omega);have II:=aA (show jY w0 wr Ai i/\aY wr Ai i ci (AY D i)from⟨jY.own OI.o,ii⟩);have I_:=aA (show jY w0 wr Ao i/\aY wr Ao i co (pF D i)from⟨jY.own OO.o,io⟩);have Fa:=aA (z.o.keep k.o);have La:=aA (LM.o.keep k.o);have S:w0.heap.size<=w.heap.size+1:=by have:=HB.o.size;omega
   clear OI OO J k ii io z LM O;obtain⟨b0,b1,b2⟩:=Fa.o.blk.three;obtain⟨Z,y1⟩:=Fa.o.kg.two;have z0:=Fa.o.kg.frozen 0;have Fb:=aA (Fa.o.setP Pn);have Lb:=aA (La.o.setP Fa.o Pn);have e0:=aA (jY.turn II.o Fa.o.kg (by decide) S (nU wr (w.heap.size+1) 0 (.int .i64 Pn)));have e3:=aA (jY.turn I_.o Fa.o.kg (by decide) S (nU wr (w.heap.size+1) 0 (.int .i64 Pn)));clear II I_ La;go_upto_region 32 with fail
   clear Z y1 z0 b0 b1 b2;clear Fa;generalize wr.setCell ⟨w.heap.size+1,0,none⟩ (.int .i64 Pn)=wb at *
   obtain⟨Z,y1⟩:=Fb.o.kg.two;have G:=aF wb (.cells #[p] 3);have I1:=It w0 wb p;have b7:=aA (jY.keep e0.o G);have e4:=aA (jY.keep e3.o G);have e5:=aA (h6.o _ C _ Ai cc ci (Lb.o.keep G) I1.1 I1.2 b7.o.2 b7.o.1);have Fc:=aA (Fb.o.keep G);clear G I1 Fb Lb e0 e3;go_upto_region 33 with(go_at_call 106;(with_reducible refine e5.o.mono ?_);rintro e w3 ⟨C3,c3,rfl,lm,b9⟩;have Fd:=aA (Fc.o.keep b9);have Ld:=aA lm;have e6:=aA (jY.keep b7.o b9);have e7:=aA (jY.keep e4.o b9);clear lm b9 Z y1;obtain⟨Z,y1⟩:=Fd.o.kg.two;have z0:=Fd.o.kg.frozen 0;have z1:=Fd.o.kg.frozen 1;have Fe:=aA (Fd.o.set I.places (.slice C3 I.links.length c3));have Le:=aA (Ld.o.setK Fd.o I.places (.slice C3 I.links.length c3));have e8:=aA (jY.turn e6.o Fd.o.kg (by decide) S (kT w3 ⟨w.heap.size+1,0,none⟩ ⟨w.heap.size+1,1,none⟩ (.int .i64 I.places) (.slice C3 I.links.length c3) rfl));have e9:=aA (jY.turn e7.o Fd.o.kg (by decide) S (kT w3 ⟨w.heap.size+1,0,none⟩ ⟨w.heap.size+1,1,none⟩ (.int .i64 I.places) (.slice C3 I.links.length c3) rfl)))
   clear Z y1 z0 z1 Ld Fc e5 e6 e7 b7 e4;clear Fd;generalize (w3.setCell ⟨w.heap.size+1,0,none⟩ (.int .i64 I.places)).setCell ⟨w.heap.size+1,1,none⟩ (.slice C3 I.links.length c3)=we at *
   obtain⟨b0,b1,b2⟩:=Fe.o.blk.three;go_wp2
   clear b0 b1 b2;go_loopw [132] (λiv wr=>∃(j hd:Nat) (C':OAd) (T:Nat) (gi:KSt),j<=i/\iv=j/\Hid ((ks.take j).zipIdx.foldl F I=gi)/\Hid ((ks.take j).foldl (bU (bY f)) (had+1,0)=(hd,0))/\Hid (KFr w0 w w wr #[(5:Int),lb,.slice A i c] gi.places (.slice C' gi.links.length T))/\Hid (LkM w0 wr C' gi.links.length T gi.links)/\Hid (jY w0 wr Ai i/\aY wr Ai i ci (AY D i))/\Hid (jY w0 wr Ao i/\aY wr Ao i co (pF D i))) (λiv _=>i-(intOf iv).toNat)
   case atStart=>exact⟨0,had+1,C3,c3,I,aL _,rfl,rfl,rfl,Fe,Le,e8,e9⟩
   clear Fe Le e8 e9;obtain⟨j,hd,C',T,gi,hj,rfl,GI,CK,z,LM,II,I_⟩:=hrel;by_cases O:j<i
   rotate_left
   .obtain rfl:j=i:=by omega
    have G4:g4=gi:=by rw[<-H4.o,<-GI.o,wH (i:=j) (by rw[HL.o];exact aB _)]
    subst G4;have G:=aF wr (.cells #[q] 3);have I1:=It w0 wr q;have d0:=jY.keep I_.o G;have f0:=aA (h7.o _ C' _ _ T co (LM.o.keep G) d0.2 d0.1 I1.1 I1.2);have Fl:=aA (z.o.keep G);obtain⟨Z,y1⟩:=z.o.kg.two;clear G I1 d0 II I_ z LM;go_upto_region 46 with(go_at_call 106;(with_reducible refine f0.o.mono ?_);rintro e w6 ⟨C6,c6,rfl,lm,f3⟩;have Fm:=aA (Fl.o.keep f3);have Lm:=aA lm;clear lm f3 Z y1;obtain⟨Z,y1⟩:=Fm.o.kg.two;have z0:=Fm.o.kg.frozen 0;have z1:=Fm.o.kg.frozen 1;have Fn:=aA (Fm.o.set W.places (.slice C6 W.links.length c6));have Ln:=aA (Lm.o.setK Fm.o W.places (.slice C6 W.links.length c6)))
    clear Z y1 z0 z1 Lm Fl f0;clear Fm;generalize (w6.setCell ⟨w.heap.size+1,0,none⟩ (.int .i64 W.places)).setCell ⟨w.heap.size+1,1,none⟩ (.slice C6 W.links.length c6)=wn at *
    obtain⟨Z,y1⟩:=Fn.o.kg.two;obtain⟨v0,v1⟩:=Fn.o.res.two;have z0:=Fn.o.res.frozen 0;have z1:=Fn.o.res.frozen 1;go_wp2
    obtain⟨d1,d2,d3⟩:=Fn.o.done Ln.o W.places (.slice C6 W.links.length c6);have r0:=d1.cell 0;have r1:=d1.cell 1;exact aU (v:=.agg #[.int .i64 W.places,.slice C6 W.links.length c6]) (by simp[results,Tryz.results46,go_sem,r0,r1]) rfl ⟨C6,c6,rfl,d2,d3⟩
   have h9:(j:Int)<(i:Int):=by omega
   obtain⟨bl,k8,P,Q,f4,B',m',e',d',rfl,rfl,d4,hx,p0,p1,p2,K'⟩:=K.o.get O;have BX:=aA (HB.o.trans (z.o.below.mono HB.o.size));have q0:=(BX.o.cell (p:=⟨bl,_,none⟩) d4).trans p0;have q1:=(BX.o.cell (p:=⟨bl,_,none⟩) d4).trans p1;have q2:=(BX.o.cell (p:=⟨bl,_,none⟩) d4).trans p2;obtain⟨f5,f6,d5⟩:=iL FO.o hx.o CK.o;have i0:=aA d5;obtain⟨X,hX⟩:∃X:Int,((D+2*j:Nat):Int)=X:=⟨_,rfl⟩;obtain⟨Y,hY⟩:∃Y:Int,((D+2*j+1:Nat):Int)=Y:=⟨_,rfl⟩;obtain⟨r,hr⟩:=aK (kbB f (.mk P Q f4) X Y gi);have HZ:=aA (show(ks.take (j+1)).zipIdx.foldl F I=r by rw[qN hx.o,GI.o,h0.o,<-hr,<-hX,<-hY];rfl);have FW:=TG.o (j+1) f5 d5;rw[HZ.o]at FW;have g0:=aF wr (.cells #[P,Q,.slice B' m' e'] 35);have XB:=aA (Box.new wr #[P,Q,.slice B' m' e'] 35);have U:=g0.drew;have F3:=aA (z.o.keep U);have g2:=aA (jY.keep II.o U);have g3:=aA (jY.keep I_.o U);have CI:=aA (IH.o d' P Q B' m' e' hd f4 X Y C' T gi (wr.alloc (.cells #[P,Q,.slice B' m' e'] 35)).drew (by rw[f6]) K'.o (LM.o.keep U) (BX.o.trans (U.mono BX.o.size)) (by rw[hr];exact FW));rw[hr]at CI;obtain⟨bi,i3,xi,i4,i9,g6,g7⟩:=g2.o.2.get O;obtain⟨bo,j0,xo,j1,j2,g8,g9⟩:=g3.o.2.get O;obtain rfl:X=xi:=by have:=g6.o;rw[Ro O,hX]at this;injection this
   obtain rfl:Y=xo:=by have:=g8.o;rw[Np O,hY]at this;injection this
   subst i4 j1;clear p0 p1 p2 f6 d5 g0 U hx K' hr FW z LM BX hX hY g6 g8 i9 j2 II I_;go_upto_region 36 with fail
   clear q0 q1 q2;obtain⟨t0,t1,t2⟩:=XB.o.three;obtain⟨s0,s1⟩:=F3.o.kg.two;refine gZ 10 [(0,0),(0,1),(0,2),(0,3),(0,4),(0,5),(0,6),(0,7),(0,8),(0,9),(2,10),(2,11)] (λw'=>w'.cell? wr=some (.int .i64 P)/\w'.cell? ⟨wr,1,none⟩=some (.int .i64 Q)/\w'.cell? ⟨wr,2,none⟩=some (.slice B' m' e')/\w'.cell? ⟨bi,i3+j,none⟩=some (.int .i64 X)/\w'.cell? ⟨bo,j0+j,none⟩=some (.int .i64 Y)/\w'.cell? ⟨w.heap.size+1,0,none⟩=some (.int .i64 gi.places)/\w'.cell? ⟨w.heap.size+1,1,none⟩=some (.slice C' gi.links.length T)) (by kernel_rfl) (by kernel_rfl) (by kernel_rfl) (λ_ _ _ _ _ h=>h) ⟨t0,t1,t2,g7,g9,s0,s1⟩ (λV=>?_);generalize (wr.alloc (.cells #[P,Q,.slice B' m' e'] 35)).drew=u5 at *
   iterate 10
    refine nG (v:=?_) rfl (by rfl) V (λw' k0=>?_) ?_
    rotate_left
    ·(go_simp;try with_reducible rfl)
    try simp only[aC]
   refine x5 rfl (λKf a9=>?_);go_simp;go_at_call 46
   (with_reducible refine CI.o.mono ?_)
   rintro e w4 ⟨C4,c4,rfl,lm,c0⟩;clear V t0 t1 t2 s0 s1 g7 g9;have F6:=aA (F3.o.keep c0);have L6:=aA lm;have k1:=aA (jY.keep g2.o c0);have k2:=aA (jY.keep g3.o c0);clear lm c0;obtain⟨Z,y1⟩:=F6.o.kg.two;have z0:=F6.o.kg.frozen 0;have z1:=F6.o.kg.frozen 1;refine a9.out _ _ ?_;clear a9;try simp only[aC]
   refine x5 rfl (λKf a9=>?_);go_simp
   refine a9.out _ _ ?_;clear a9;simp only[gB];go_wp2
   go_roundw
   case rel=>exact⟨j+1,f5,C4,c4,r,by omega,by go_num,HZ,i0,aA (F6.o.set _ _),aA (L6.o.setK F6.o _ _),aA (jY.turn k1.o F6.o.kg (by decide) S (kT w4 ⟨w.heap.size+1,0,none⟩ ⟨w.heap.size+1,1,none⟩ _ _ rfl)),aA (jY.turn k2.o F6.o.kg (by decide) S (kT w4 ⟨w.heap.size+1,0,none⟩ ⟨w.heap.size+1,1,none⟩ _ _ rfl))⟩
   simp[intOf];omega
  have h9:(i:Int)<(n:Int):=by omega
  have IS:=aA (Ia D i);have OS:=aA (Dt D i);obtain⟨m2,d6⟩:=aK (2*i);obtain⟨X,hX⟩:∃X:Nat,D+m2=X:=⟨_,rfl⟩;obtain⟨Y,hY⟩:∃Y:Nat,X+1=Y:=⟨_,rfl⟩;rw[d6,hX]at IS;rw[d6,hX,hY]at OS;have a1:(2:Int)*(i:Int)=(m2:Int):=by omega
  have a2:(D:Int)+(m2:Int)=(X:Int):=by omega
  have a3:(X:Int)+1=(Y:Int):=by omega
  have a4:IntKind.i64.wrap (m2:Int)=(m2:Int):=by rw[pU];omega
  have a5:IntKind.i64.wrap (X:Int)=(X:Int):=by rw[pU];omega
  have a6:IntKind.i64.wrap (Y:Int)=(Y:Int):=by rw[pU];omega
  clear d6 hX hY;go_upto_region 29 with fail
  refine aN 16 (.takes [0,1,2,3,4,5,8,9,10,11,12,13,14] (.two 6 (.two 7 (.one 15 (.fin 16 (.fin 17 (.fin 18 .done)))) 15 (.one 7 (.fin 16 (.fin 17 (.fin 18 .done))))) 15 (.one 6 (.one 7 (.fin 16 (.fin 17 (.fin 18 .done))))))) (λw'=>w'.cell? ⟨w.heap.size+1,0,none⟩=some (.int .i64 D)) (by kernel_rfl) (by kernel_rfl) (by kernel_rfl) (λ_ _ _ _ _ h=>h) ((z.o.keep k.o).kg.cell 0) (λV=>?_);simp only[Scr.takes];have a:=aA (OI.o.keep fG.kept (aH _ _).drew);have b:=aA (OO.o.keep fG.kept (aH _ _).drew);replace k:=aA k.o.drew
  clear OI OO;generalize wr.drew=ux at *
  iterate 13
   refine aM (v:=?_) rfl (by rfl) V (λw' k0=>?_) ?_
   rotate_left
   ·(go_simp;try with_reducible rfl)
   try simp only[aC]
  refine Zn (.fin 17 (.fin 18 .done)) (λa0 a' w'=>∃e1 e2 v1 v2:Value,a'=((((a0.put (some 103) e1).put (some 104) v1).put (some 112) e2).put (some 113) v2)/\Hid (aI w' u v1 (i+1) (AY D i++[(X:Int)]))/\Hid (aI w' u v2 (i+1) (pF D i++[(Y:Int)]))/\Hid (t6 v1 v2)/\Hid (Below u u w')) ?_ (λEN=>?_)
  .rintro a' w6 ⟨e1,e2,v1,v2,rfl,O1,O2,D1,E1⟩ _;simp only[aC];clear V a b J k;refine cH rfl (λK hK=>?_);go_simp
   refine hK.out _ _ ?_;clear hK;try simp only[aC]
   refine cH rfl (λK hK=>?_);go_simp
   refine hK.out _ _ ?_;clear hK;try simp only[aC]
   refine cE ?_;go_wp2
   go_roundw
   case rel=>exact⟨i+1,by omega,by go_num,aA (by rw[IS.o];exact O1.o),aA (by rw[OS.o];exact O2.o),D1,E1⟩
   simp[intOf];omega
  refine mN rfl rfl (λK hK=>?_) (λK hK=>?_)
  rotate_left
  .go_simp
   have y:=aF ux (.cells #[Y] 3);have H:=Box.new ux #[Y] 3;obtain⟨b3,x⟩:=aK (ux.heap.size);have c7:=aA (show u15.ownBlock≠some b3 from λe=>by
    have:=(a.o.lt _ e).2;omega)
   replace a:=aA (a.o.keep fG.kept y)
   replace b:=aA (b.o.keep fG.kept y)
   replace k:=aA (k.o.trans (y.mono k.o.size))
   rw[x]at H ⊢;generalize hE:ux.alloc (.cells #[Y] 3)=u1 at *
   have E:=aA H;clear y hE H x;refine hK.out _ _ ((z.o.keep k.o).kg.cell 0) (λV=>?_);clear hK;try simp only[aC]
   refine bK rfl (λK hK=>?_);go_simp
   have y:=aF u1 (.cells #[X] 3);have H:=Box.new u1 #[X] 3;obtain⟨H6,x⟩:=aK (u1.heap.size);have N6:=aA (show u15.ownBlock≠some H6 from λe=>by
    have:=(a.o.lt _ e).2;omega)
   replace E:=aA (E.o.keep y)
   replace a:=aA (a.o.keep fG.kept y)
   replace b:=aA (b.o.keep fG.kept y)
   replace k:=aA (k.o.trans (y.mono k.o.size))
   rw[x]at H ⊢;generalize hE:u1.alloc (.cells #[X] 3)=u2 at *
   have S6:=aA H;clear y hE H x;refine hK.out _ _ ((z.o.keep k.o).kg.cell 0) (λV=>?_);clear hK;try simp only[aC]
   refine bK rfl (λK hK=>?_);refine kU rfl (.tmp 97) (.tmp 103) rfl rfl rfl a.o (Ep S6.o) k.o.size (by omega) k.o (aB _) ?_;intro v1 u3 l o t m;obtain⟨L,N⟩:=pP a.o b.o J.o o m;replace E:=aA (E.o.grown o c7.o)
   replace a:=aA l
   replace b:=aA L
   replace J:=aA N
   replace k:=aA t
   clear l o t m L N;refine hK.out _ _ ((z.o.keep k.o).kg.cell 0) (λV=>?_);clear hK;try simp only[aC]
   refine cH rfl (λK hK=>?_);refine kU rfl (.tmp 105) (.tmp 112) rfl rfl rfl b.o (Ep E.o) k.o.size (by omega) k.o (aB _) ?_;intro v2 u4 l o t m;obtain⟨L,N⟩:=pP b.o a.o J.o.other o m;replace b:=aA l
   replace a:=aA L
   replace J:=aA (t6.other N)
   replace k:=aA t
   clear l o t m L N;refine hK.out _ _ ?_;clear hK;try simp only[aC]
   exact EN.o _ _ ⟨_,_,_,_,rfl,a,b,J,k⟩ ((z.o.keep k.o).kg.cell 0)
  go_simp
  have y:=aF ux (.cells #[X] 3);have H:=Box.new ux #[X] 3;obtain⟨H6,x⟩:=aK (ux.heap.size);have N6:=aA (show u15.ownBlock≠some H6 from λe=>by
   have:=(a.o.lt _ e).2;omega)
  replace a:=aA (a.o.keep fG.kept y)
  replace b:=aA (b.o.keep fG.kept y)
  replace k:=aA (k.o.trans (y.mono k.o.size))
  rw[x]at H ⊢;generalize hE:ux.alloc (.cells #[X] 3)=u1 at *
  have S6:=aA H;clear y hE H x;refine hK.out _ _ ((z.o.keep k.o).kg.cell 0) (λV=>?_);clear hK;try simp only[aC]
  refine mN rfl rfl (λK hK=>?_) (λK hK=>?_)
  .refine kU rfl (.tmp 97) (.tmp 103) rfl rfl rfl a.o (Ep S6.o) k.o.size (by omega) k.o (aB _) ?_;intro v1 u2 l o t m;obtain⟨L,N⟩:=pP a.o b.o J.o o m;replace a:=aA l
   replace b:=aA L
   replace J:=aA N
   replace k:=aA t
   clear l o t m L N;refine hK.out _ _ ((z.o.keep k.o).kg.cell 0) (λV=>?_);clear hK;try simp only[aC]
   refine bK rfl (λK hK=>?_);go_simp
   have y:=aF u2 (.cells #[Y] 3);have H:=Box.new u2 #[Y] 3;obtain⟨b3,x⟩:=aK (u2.heap.size);have c7:=aA (show v1.ownBlock≠some b3 from λe=>by
    have:=(a.o.lt _ e).2;omega)
   replace a:=aA (a.o.keep fG.kept y)
   replace b:=aA (b.o.keep fG.kept y)
   replace k:=aA (k.o.trans (y.mono k.o.size))
   rw[x]at H ⊢;generalize hE:u2.alloc (.cells #[Y] 3)=u3 at *
   have E:=aA H;clear y hE H x;refine hK.out _ _ ((z.o.keep k.o).kg.cell 0) (λV=>?_);clear hK;try simp only[aC]
   refine cH rfl (λK hK=>?_);refine kU rfl (.tmp 105) (.tmp 112) rfl rfl rfl b.o (Ep E.o) k.o.size (by omega) k.o (aB _) ?_;intro v2 u4 l o t m;obtain⟨L,N⟩:=pP b.o a.o J.o.other o m;replace b:=aA l
   replace a:=aA L
   replace J:=aA (t6.other N)
   replace k:=aA t
   clear l o t m L N;refine hK.out _ _ ?_;clear hK;try simp only[aC]
   exact EN.o _ _ ⟨_,_,_,_,rfl,a,b,J,k⟩ ((z.o.keep k.o).kg.cell 0)
  go_simp
  have y:=aF u1 (.cells #[Y] 3);have H:=Box.new u1 #[Y] 3;obtain⟨b3,x⟩:=aK (u1.heap.size);have c7:=aA (show u15.ownBlock≠some b3 from λe=>by
   have:=(a.o.lt _ e).2;omega)
  replace S6:=aA (S6.o.keep y)
  replace a:=aA (a.o.keep fG.kept y)
  replace b:=aA (b.o.keep fG.kept y)
  replace k:=aA (k.o.trans (y.mono k.o.size))
  rw[x]at H ⊢;generalize hE:u1.alloc (.cells #[Y] 3)=u2 at *
  have E:=aA H;clear y hE H x;refine hK.out _ _ ((z.o.keep k.o).kg.cell 0) (λV=>?_);clear hK;try simp only[aC]
  refine bK rfl (λK hK=>?_);refine kU rfl (.tmp 97) (.tmp 103) rfl rfl rfl a.o (Ep S6.o) k.o.size (by omega) k.o (aB _) ?_;intro v1 u3 l o t m;obtain⟨L,N⟩:=pP a.o b.o J.o o m;replace E:=aA (E.o.grown o c7.o)
  replace a:=aA l
  replace b:=aA L
  replace J:=aA N
  replace k:=aA t
  clear l o t m L N;refine hK.out _ _ ((z.o.keep k.o).kg.cell 0) (λV=>?_);clear hK;try simp only[aC]
  refine cH rfl (λK hK=>?_);refine kU rfl (.tmp 105) (.tmp 112) rfl rfl rfl b.o (Ep E.o) k.o.size (by omega) k.o (aB _) ?_;intro v2 u4 l o t m;obtain⟨L,N⟩:=pP b.o a.o J.o.other o m;replace b:=aA l
  replace a:=aA L
  replace J:=aA (t6.other N)
  replace k:=aA t
  clear l o t m L N;refine hK.out _ _ ?_;clear hK;try simp only[aC]
  exact EN.o _ _ ⟨_,_,_,_,rfl,a,b,J,k⟩ ((z.o.keep k.o).kg.cell 0)
def YG (w0:World):∀f,YC w0 f:=by
 intro f;induction f with
 | zero =>
  intro d kd lb A n c had ks p q C k g w a;rw[bY]at a;cases a
 | succ f i =>
  intro d kd lb A n c had ks p q C k g w a hK b e h;obtain⟨_,j,_⟩:=iK a;obtain⟨k1,l,_,_⟩:=sP j;simp only[bH.kind]at k1 l;have m:kd=1∨kd=2∨kd=3∨kd=4∨kd=5∨kd=6:=by omega
  rcases m with rfl|rfl|rfl|rfl|rfl|rfl
  .exact Tq (.inl rfl) b e h
  .exact Tq (.inr rfl) b e h
  .exact YE i a hK b e h
  .exact YD i a hK b e h
  .exact Xs i a hK b e h
  exact Xq i a hK b e h
def xY {d:Nat}{w0 w:World}{kd lb:Int}{A:OAd}{n c:Nat}{ks:List bH}(h:pQ d w0 A n c ks)(g:Below w0 w0 w)(a:eK (.mk kd lb ks)=0) :
  Calls Tryz.prog 46 #[.agg #[kd,lb,.slice A n c],(0:Int),(1:Int),.agg #[(2:Int),()]] w (Lo w0 (jJ (.mk kd lb ks)) w):=by
 have f:=If a;exact YG w0 41 d kd lb A n c 0 ks 0 1 none 0 ⟨2,[]⟩ w a h ⟨Sl.nil0,λb i e _=>by cases e⟩ g ⟨by unfold jJ at f;omega,by unfold jJ at f;omega⟩
structure Js (w u:World)(blk:Array Value):Prop where
 below:Below w.heap.size w u
 arg:Box u w.heap.size 35 blk
 net:Box u (w.heap.size+1) 41 #[.int .i64 0,.slice none 0 0]
def Js.new (w:World)(blk:Array Value):Js w ((w.alloc (.cells blk 35)).alloc (.cells #[(0:Int),()] 41)) blk where
 below:=((aH _ _).alloc (aB _) _).alloc (by simp) _
 arg:=(Box.new w blk _).old _
 net:=Box.newAt (by simp) _ _
def Js.keep {w u b:World}{blk:Array Value}(h:Js w u blk)(a:Below u u b):Js w b blk :=
 ⟨h.below.trans (a.mono h.below.size),h.arg.keep a,h.net.keep a⟩
def Vy {w u:World}{x:Int}{v:Value}(b:Below w w u)(c:Box u (w.heap.size+1) 41 #[x,v])(a:Int)(v':Value) :
  Box ((u.setCell ⟨w.heap.size+1,0,none⟩ a).setCell ⟨w.heap.size+1,1,none⟩ v') (w.heap.size+1) 41 #[a,v'] /\
  Below w w ((u.setCell ⟨w.heap.size+1,0,none⟩ a).setCell ⟨w.heap.size+1,1,none⟩ v') :=
 ⟨c.set2 a v',(b.setCell (p:=⟨w.heap.size+1,0,none⟩) (by simp only;omega) _).setCell (p:=⟨w.heap.size+1,1,none⟩) (by simp only;omega) _⟩
def Ly {d:Nat}{w:World}{kd lb:Int}{A:OAd}{n c:Nat}{ks:List bH}(h:pQ d w A n c ks)(g:eK (.mk kd lb ks)≠0) :
  Calls Tryz.prog 17 #[.agg #[kd,lb,.slice A n c]] w (YV (hJ (.mk kd lb ks)) w):=by
 have i:=aA (qO g);rw[i.o];obtain⟨r,b⟩:=aK (eK (.mk kd lb ks));have f:=aA (Js.new w #[kd,lb,.slice A n c]);have j:=aA (nP (h.keep f.o.below) (kd:=kd) (lb:=lb));rw[b]at g ⊢;rw[b]at j;clear h i b;go_enter Tryz.func17,Tryz.ntmps17
 go_upto_region 1 with fail
 generalize (w.alloc (.cells #[kd,lb,.slice A n c] 35)).alloc (.cells #[(0:Int),()] 41)=u at *
 have a0:=f.o.arg.three;go_upto_region 2 with(go_at_call 45;(with_reducible refine j.o.mono ?_);rintro e w1 ⟨rfl,k⟩;have a:=aA (f.o.keep k);clear k)
 obtain⟨p,c1⟩:=a.o.net.two;have q:=a.o.net.frozen 0;have s:=a.o.net.frozen 1;go_wp2
 obtain⟨l,m⟩:=Vy a.o.below a.o.net 0 ();have e0:=l.cell 0;have o:=l.cell 1;exact aU (v:=.tuple #[.agg #[(0:Int),()],.int .i64 r]) (by simp[results,Tryz.results17,go_sem,e0,o]) rfl ⟨none,0,0,rfl,Sl.nil0,m⟩
def P5 {d:Nat}{w:World}{kd lb:Int}{A:OAd}{n c:Nat}{ks:List bH}(h:pQ d w A n c ks)(b:eK (.mk kd lb ks)=0)(i:¬dB (jJ (.mk kd lb ks))) :
  Calls Tryz.prog 17 #[.agg #[kd,lb,.slice A n c]] w (YV (hJ (.mk kd lb ks)) w):=by
 have s:=aA (sR b i);rw[s.o];have k:=aA (Js.new w #[kd,lb,.slice A n c]);have t:=aA (nP (h.keep k.o.below) (kd:=kd) (lb:=lb));have O:=aA b;have H:=aA h;have x:=If b;have y:=aA (λ(w1:World) (D:Below w w w1)=>xY (kd:=kd) (lb:=lb) H.o D b);obtain⟨r,z⟩:=aK (jJ (.mk kd lb ks));rw[z]at i y x;obtain⟨P,l⟩:=aK (r.places);obtain⟨K,hK⟩:=aK (r.links.length);have f:¬(P<=16/\K<=24):=λQ=>i ⟨by omega,by omega⟩
 have E:=aA l;have F:=aA hK;rw[b]at t;rw[l,hK]at x;clear h s b i z l hK;go_enter Tryz.func17,Tryz.ntmps17
 go_upto_region 1 with fail
 generalize (w.alloc (.cells #[kd,lb,.slice A n c] 35)).alloc (.cells #[(0:Int),()] 41)=u at *
 have a0:=k.o.arg.three;go_upto_region 4 with(go_at_call 45;(with_reducible refine t.o.mono ?_);rintro e w1 ⟨rfl,B⟩;have m:=aA (k.o.keep B);clear B)
 clear a0;have a1:=m.o.arg.three;have G:=aA (y.o w1 m.o.below);go_upto_region 5 with(go_at_call 46;(with_reducible refine G.o.mono ?_);rintro e j ⟨o,c2,rfl,I,bl⟩;have J:=aA (m.o.keep bl);rw[E.o,F.o];clear I bl)
 have C:=aF j (.cells #[.int .i64 P,.slice o K c2] 104);have X:=aA (Box.new j #[.int .i64 P,.slice o K c2] 104);have a:=aA (J.o.keep C);generalize j.alloc (.cells #[.int .i64 P,.slice o K c2] 104)=R at *
 generalize j.heap.size=bx at *
 obtain⟨S,T⟩:=X.o.two;obtain⟨U,c1⟩:=a.o.net.two;have V:=a.o.net.frozen 0;have W:=a.o.net.frozen 1;clear a1 C;have L:=aA f;clear f;by_cases M:(16:Int)<(P:Int)
 .go_wp2
  obtain⟨g,p⟩:=Vy a.o.below a.o.net 0 ();have e0:=g.cell 0;have q:=g.cell 1;exact aU (v:=.tuple #[.agg #[(0:Int),()],(4:Int)]) (by simp[results,Tryz.results17,go_sem,e0,q]) rfl ⟨none,0,0,rfl,Sl.nil0,p⟩
 .have N:(24:Int)<(K:Int):=by have:=L.o;omega
  go_wp2
  obtain⟨g,p⟩:=Vy a.o.below a.o.net 0 ();have e0:=g.cell 0;have q:=g.cell 1;exact aU (v:=.tuple #[.agg #[(0:Int),()],(4:Int)]) (by simp[results,Tryz.results17,go_sem,e0,q]) rfl ⟨none,0,0,rfl,Sl.nil0,p⟩
