/- The memory of DGraph: a space in a box, its two rows. Conditions: none. | The contract of DGraph. Conditions: the net and the mark read as lists. -/
import Derived.Test.YtgnljpnlolkalaaGreatBenchTellsK06
set_option linter.all false
set_option maxRecDepth 100000
set_option maxHeartbeats 4000000
namespace Go.Proofs.YtgnljpnlolkalaaGreat
open Go.RowKit
abbrev Z0:Value:=.slice none 0 0
structure Ba (w:World)(B b8:Nat)(u v:Value)(ms:LLi)(ars:List cC):Prop where
 lo:B<=b8
 box:Box w b8 78 #[u,v]
 marks:aJ (oZ b8 u v Z0) 1 w B 24 u ms.length ms
 arcs:aJ qC 3 w B 114 v ars.length ars
section
variable {w w':World} {B b8:Nat} {u v:Value} {ms:LLi} {ars:List cC}
def Ba.keep (h:Ba w B b8 u v ms ars)(a:Below w w w'):Ba w' B b8 u v ms ars :=
 ⟨h.lo,h.box.keep a,h.marks.keep (oZ.kept _ _ _ _) a,h.arcs.keep qC.kept a⟩
def Ba.apart (h:Ba w B b8 u v ms ars){C:OAd}{l:Nat}(c:iR w C):uT b8 u v Z0 C l:=by
 intro b d e _;have f:w.heap.size<=b:=c _ e;have g:=h.box.lt;exact⟨by omega,λa=>(by have:=(h.marks.lt b a).2;omega),λa=>(by have:=(h.arcs.lt b a).2;omega),λa=>(by cases a)⟩
def Ba.mark (h:Ba w B b8 u v ms ars){g k cap:Nat}{a:LLi}(m:k=a.length)(own:aJ (λ_ vs x=>oZ b8 u v Z0 w vs x) 1 w' B 24 (.slice g k cap) k a)(c:w.grownBy w' u.ownBlock)(d:u.ownBlock=some g∨w.heap.size<=g) :
  Ba (w'.setCell b8 (.slice g k cap)) B b8 (.slice g k cap) v a ars/\qG b8 w u v Z0 (w'.setCell b8 (.slice g k cap)) (.slice g k cap) v Z0:=by
 subst m;have f:=rL (i:=0) (k:=a.length) (cap:=cap) c d (u:=u) (v:=v) (z:=Z0) (bf:=b8) (.inl rfl) (.inr ⟨rfl,rfl⟩) (.inl rfl) (.inl rfl) (.slice g a.length cap);obtain⟨_,j,_⟩:=id h.marks;obtain⟨_,n,_⟩:=id h.arcs;have e:Box w' b8 78 #[u,v]:=h.box.grown c (dA j h.box (by decide));have a1:aJ qC 3 w' B 114 v ars.length ars:=h.arcs.turn c (jC n j (by decide)) (λ_ _ b=>b);obtain⟨_,o,_⟩:=id own;obtain⟨_,p,_⟩:=id a1;have l:=dH w' b8 0 (.slice g a.length cap);exact⟨⟨h.lo,by simpa using e.set 0 (.slice g a.length cap),own.turn l (.inr (dA o e (by decide))) (λvs x b=>f.mark b),a1.turn l (.inr (dA p e (by decide))) (λ_ _ b=>b)⟩,f⟩
def Ba.arc (h:Ba w B b8 u v ms ars){g k cap:Nat}{a:List cC}(m:k=a.length)(own:aJ qC 3 w' B 114 (.slice g k cap) k a)(c:w.grownBy w' v.ownBlock)(d:v.ownBlock=some g∨w.heap.size<=g) :
  Ba (w'.setCell ⟨b8,1,none⟩ (.slice g k cap)) B b8 u (.slice g k cap) ms a/\qG b8 w u v Z0 (w'.setCell ⟨b8,1,none⟩ (.slice g k cap)) u (.slice g k cap) Z0:=by
 subst m;have f:=rL (i:=1) (k:=a.length) (cap:=cap) c d (u:=u) (v:=v) (z:=Z0) (bf:=b8) (.inr (.inl rfl)) (.inl rfl) (.inr ⟨rfl,rfl⟩) (.inl rfl) (.slice g a.length cap);obtain⟨_,n,_⟩:=id h.marks;obtain⟨_,j,_⟩:=id h.arcs;have e:Box w' b8 78 #[u,v]:=h.box.grown c (dA j h.box (by decide));have k1:aJ (λ_ vs x=>oZ b8 u v Z0 w vs x) 1 w' B 24 u ms.length ms:=h.marks.turn c (jC n j (by decide)) (λ_ _ b=>b);obtain⟨_,o,_⟩:=id k1;obtain⟨_,p,_⟩:=id own;have l:=dH w' b8 1 (.slice g a.length cap);exact⟨⟨h.lo,by simpa using e.set 1 (.slice g a.length cap),k1.turn l (.inr (dA o e (by decide))) (λvs x b=>f.mark b),own.turn l (.inr (dA p e (by decide))) (λ_ _ b=>b)⟩,f⟩
def Ba.space {b ty:Nat}{cs:Array Value}(h:Ba w B b8 u v ms ars)(r:Box w b ty cs)(m:∀(j:Nat) (x:Int),cs[j]?≠some (.int .i64 x))(D:b<B)(o:d8 b w w')(p:w'.os=w.os)(a:w'.tape=w.tape)(f:w'.output=w.output)(E:ms.length<=7200)(F:ars.length<=7200) :
  ∃U g V cv,u=.slice U ms.length g/\v=.slice V ars.length cv/\cQ w' U ms.length g ms/\qD w' V ars.length cv ars:=by
 have q:w.grownBy w' (some b):=⟨p,a,f,Nat.le_of_eq o.1.symm,λk _ s=>o.2 k (λe=>s (by rw[e]))⟩;have t:aJ cS 1 w' B 24 u ms.length ms:=h.marks.turn q (.inr (λe=>by have:=(h.marks.lt b e).1;omega)) (λvs x d=>by
  obtain⟨A,n,c,e,i,l,_⟩:=d;exact⟨A,n,c,e,i.beside r m o,by omega⟩)
 have y:aJ qC 3 w' B 114 v ars.length ars:=h.arcs.turn q (.inr (λe=>by have:=(h.arcs.lt b e).1;omega)) (λvs x d=>d);obtain⟨U,g,z,s1⟩:=t.sl (by omega);obtain⟨V,cv,C,s2⟩:=y.sl (by omega);exact⟨U,g,V,cv,z,C,s1,s2⟩
end
def Ba.start {w W:World}{A:OAd}{n c r:Nat}{xs:LIn}(h:aY w A n c xs)(g:n<=16)(s:w.heap.size<=r)(i:Below w w W)(k:Box W (r+1) 78 #[.slice r 1 1,Z0])(l:W.heap[r]?=some (.cells #[.slice A n c] 24)) :
  Ba W r (r+1) (.slice r 1 1) Z0 [xs] []:=by
 refine⟨by omega,k,⟨[.slice A n c],⟨by simp,.inr ⟨r,1,#[.slice A n c],rfl,aB _,l,aB _,by simp[maxLen],by simp,by simp⟩⟩,cD.one (vs:=λ_=>.slice A n c) ⟨A,n,c,rfl,h.keep i,g,λb m e o=>?_⟩ rfl (λj t=>(by obtain rfl:j=0:=(by omega);rfl)),rfl⟩,aJ.nil⟩;obtain⟨u,f,d,p,_⟩:=h.cells o;rw[e]at d;injection d with d;injection d with q _;subst q;refine⟨by omega,λa=>?_,λa=>(by cases a),λa=>(by cases a)⟩;have:r=b:=by injection a
 omega
def Ba.start2 {w0:World}{A:OAd}{n c:Nat}{xs:LIn}(h:aY w0 A n c xs)(b:n<=16) :
  Ba ((w0.alloc (.cells #[.slice A n c] 24)).alloc (.cells #[.slice w0 1 1,()] 78)) w0 (w0.heap.size+1) (.slice w0 1 1) () [xs] [] /\
  Below w0 w0 ((w0.alloc (.cells #[.slice A n c] 24)).alloc (.cells #[.slice w0 1 1,()] 78)):=by
 have a:Below w0 w0 ((w0.alloc (.cells #[.slice A n c] 24)).alloc (.cells #[.slice w0 1 1,()] 78)):=((aH _ _).alloc (aB _) _).alloc (by simp) _;refine⟨Ba.start h b (aB _) a (Box.newAt (by simp) _ _) ?_,a⟩;rw[heap_alloc_old _ _ (by simp)];exact iD w0 _
def Ji {a b:LLi}{f:Nat}{m:LIn}(h:a <+: b)(d:a[f]?=some m):b[f]?=some m:=by
 obtain⟨c,rfl⟩:=h;rw[fO (aR.1 d).1];exact d
def toV:Option Nat->Int
 | some k=>(k:Int)
 | none=>-1
def Gl {ms:LLi}{x y:LIn}{j:Nat}(d:ms.Nodup)(a:ms[j]?=some y):toV (eH (ms.take (j+1)) x)=if(x==y)=true then(j:Int)else toV (eH (ms.take j) x):=by
 rw[bX a,vT];have g:=(aR.1 a).1;by_cases e:x=y
 .subst e;cases hf:eH (ms.take j) x with
  | some k =>
   exfalso
   have b:=kM hf;have f:=(aR.1 b).1;rw[dT]at f;rw[sB (by omega)]at b;have c:=yK d b;rw[yK d a]at c;injection c with c;omega
  | none=>simp[toV];omega
 have:(x==y)=false:=by simpa using e
 rw[this];cases hf:eH (ms.take j) x with
 | some k=>simp
 | none=>simp[e,toV]
def KX {N:eB}{m:LIn}{k:Nat}(a:i7 N m=true)(b:k<N.trans.length):(iN N m (k:Int)).2=0∨(iN N m (k:Int)).2=3∨(iN N m (k:Int)).2=4:=by
 rw[iN,aG a,aG ⟨by omega,by omega⟩,rC];split
 .split
  .exact .inl rfl
  exact .inr (.inr rfl)
 exact .inr (.inl rfl)
def PE (N:eB)(M:Nat)(m:LIn)(f:Int)(k:Nat)(o:Option PSp):kG N M m f (EA (k+1)) o=(kG N M m f (EA k) o).bind λs=>eS N M m f s (k:Int):=by
 rw[EA,eF,fB,kZ,lA,sF,<-EA]
def Aq {N:eB}{M:Nat}{m:LIn}{f:Int}{k n:Nat}{o:Option PSp}(a:k<=n)(h:kG N M m f (EA k) o=none):kG N M m f (EA n) o=none:=by
 refine y7 k ?_;rw[show(EA n).take k=EA k by unfold EA;rw[<-List.map_take,List.take_range,Nat.min_eq_left a]];exact h
def tN {w:World}{P:Int}{A B:OAd}{n c m d:Nat}{ts:List bG}{xs:LIn}(most:Int)(h:eC w A n c ts)(g:aY w B m d xs) :
  Calls Tryz.prog 48 #[.agg #[P,.slice A n c],.slice B m d,most] w (qH (eD ⟨P,ts⟩ xs most) w):=by
 generalize hw:((w.alloc (.cells #[P,.slice A n c] 41)).alloc (.cells #[(),()] 78))=w0;have HB:=aA (show Below w w w0 by rw[<-hw];exact((aH _ _).alloc (aB _) _).alloc (by simp) _);have X0:=aA (show Box w0 w 41 #[P,.slice A n c] by rw[<-hw];exact(Box.new _ _ _).old _);have X1:=aA (show Box w0 (w.heap.size+1) 78 #[(),()] by rw[<-hw];exact Box.newAt (by simp) _ _);have H:=aA (h.keep HB.o);have G:=aA (g.keep HB.o);have G0:=aA g;have CF:=aA (pZ (P:=P) H.o G.o);clear h g;go_enter Tryz.func48,Tryz.ntmps48
 go_upto_region 1 with fail
 clear hw;obtain⟨a0,a1⟩:=X0.o.two;obtain⟨z0,z1⟩:=X1.o.two;have f0:=X1.o.frozen 0;have f1:=X1.o.frozen 1;by_cases F:1<=most/\most<=300/\i7 ⟨P,ts⟩ xs=true
 .obtain⟨d3,d4,S⟩:=F;obtain⟨M,rfl⟩:∃M:Nat,most=(M:Int):=⟨most.toNat,by omega⟩;have GE:=aA (show eD ⟨P,ts⟩ xs (M:Int)=(match goM ⟨P,ts⟩ M M 0 ⟨[xs],[]⟩with|some s=>(s,0)|none=>(PSp.nil,4)) by
   rw[eD,aG ⟨d3,d4,S⟩];rfl)
  have MM:=aA (show 1<=M/\M<=300 by omega);have FT:=aA S;have l8:¬(M:Int)<1:=by omega
  have l9:¬(M:Int)>300:=by omega
  rw[S]at CF;clear d3 d4 S;go_upto_region 3 with(go_at_call 110;go_loud ((with_reducible refine CF.o.mono ?_);rintro e w1 ⟨rfl,a2⟩;have B1:=aA a2;clear a2))
  have Y0:=aA (X0.o.keep B1.o);have T:=aA (X1.o.keep B1.o);have BZ:=aA (HB.o.trans (B1.o.mono HB.o.size));clear a0 a1 z0 z1 f0 f1 X0 X1 CF;go_upto_region 4 with fail
  have e6:m<=16:=by
   obtain⟨h1,h2,_⟩:=(cR _ _).1 FT.o;have h3:=((bN _).1 h1).2.1;rw[G0.o.len]at h2;simp only at h2 h3;omega
  obtain⟨N,g1⟩:=Ba.start2 (G.o.keep B1.o) e6;have GS:=aA N;have BS:=aA g1;clear N g1;generalize (w1.alloc (.cells #[.slice B m d] 24)).alloc (.cells #[.slice w1 1 1,()] 78)=w2 at *
  generalize i4:w1.heap.size+1=b8 at *
  have HW:=aA (H.o.keep B1.o);obtain⟨R,hR⟩:=aK (goM ⟨P,ts⟩ M M 0 ⟨[xs],[]⟩);rw[hR]at GE;have HR:=aA hR;have ST:=aA (tD.start FT.o MM.o.1 (m:=xs));have i9:=aA (show w.heap.size<w1.heap.size/\w.heap.size+1<w1.heap.size from⟨Y0.o.lt,T.o.lt⟩);have k9:n<=24:=by
   have h3:ts.length<=24:=((bN _).1 ((cR _ _).1 FT.o).1).2.2.1;have h4:=H.o.len;omega
  clear hR i4 H G G0 HB B1;have c1:w2.cell? ⟨w,1,none⟩=some (.slice A n c):=(Y0.o.keep BS.o).cell 1;go_wp2
  go_loopw [9] (λfv wr=>∃(f:Nat) (u v:Value) (s:PSp),fv=f/\f<=s.marks.length/\f<=M/\Hid (Ba wr w1 b8 u v s.marks s.arcs)/\Hid (Below w1 w1 wr)/\Hid (tD ⟨P,ts⟩ M s/\s.arcs.length<=24*f)/\Hid (goM ⟨P,ts⟩ M (M-f) f s=R)) (λfv _=>M-(intOf fv).toNat)
  case atStart=>exact⟨0,_,_,⟨[xs],[]⟩,rfl,aL _,aL _,GS,BS,aA ⟨ST.o,aB _⟩,HR⟩
  clear c1 GS BS ST HR;obtain⟨f,u,v,s,rfl,m1,m2,W,I,SR,HR⟩:=hrel;have m3:M<=300:=MM.o.2;have m4:s.marks.length<=300:=aT SR.o.1.few MM.o.2;obtain⟨U,cu,hu,su⟩:=W.o.marks.sl (by omega);subst hu;obtain⟨L,hL⟩:=aK (s.marks.length);have a3:=aA hL;have c4:wr.cell? b8=some (.slice U s.marks.length cu):=W.o.box.cell 0;rw[hL]at c4;have c1:wr.cell? ⟨w,1,none⟩=some (.slice A n c):=(Y0.o.keep I.o).cell 1;clear su;by_cases Z:f<s.marks.length
  rotate_left
  .have FE:=aA (show R=some s by
    rw[<-HR.o];cases M-f with
    | zero=>rfl
    | succ g=>rw[goM,aD Z])
   obtain rfl:f=L:=by omega
   obtain⟨U2,j0,V,cv,eu,ev,e7,e8⟩:=W.o.space (T.o.keep I.o) L7 i9.o.2 (d8.set2 wr (w.heap.size+1) 0 1 (.slice U s.marks.length cu) v) rfl rfl rfl (by omega) (by have:=SR.o.2;omega);injection eu with e1 _ e2;subst e1 e2 ev;have LL:=aA e7;have LA:=aA e8;have c5:wr.cell? ⟨b8,1,none⟩=some (.slice V s.arcs.length cv):=W.o.box.cell 1;rw[hL]at LL LA;have e9:=aA hL;clear e7 e8 hL Z;obtain⟨z0,z1⟩:=(T.o.keep I.o).two;have f0:=(T.o.keep I.o).frozen 0;have f1:=(T.o.keep I.o).frozen 1;go_wp2
   obtain⟨r0,r1⟩:=((T.o.keep I.o).set2 (.slice U f cu) (.slice V s.arcs.length cv)).two;have BW:=cX (BZ.o.trans (I.o.mono BZ.o.size)) (aB _) (show w.heap.size<=w.heap.size+1 by omega) (.slice U f cu) (.slice V s.arcs.length cv);exact aU (v:=.tuple #[.agg #[.slice U f cu,.slice V s.arcs.length cv],(0:Int)]) (by simp[results,Tryz.results48,go_sem,r0,r1]) rfl (by rw[GE.o,FE.o];exact⟨U,cu,V,cv,by rw[e9.o],by rw[e9.o];exact LL.o,LA.o,BW⟩)
  have f2:f<L:=by omega
  have l0:(f:Int)<(L:Int):=by omega
  obtain⟨O,b4⟩:∃O,s.marks[f]?=some O:=⟨_,aV Z⟩;have j1:=aA b4;have MF:=aA (SR.o.1.fits O (aS b4));have FD:=aA (show Hh ⟨P,ts⟩ M f s=kG ⟨P,ts⟩ M O (f:Int) (EA ts.length) (some s) by
   rw[Hh,show s.marks.getD f []=O by rw[cJ,b4];rfl])
  obtain⟨wo,j2⟩:∃wo:World,wo=wr:=⟨_,rfl⟩;subst j2;clear hL Z b4;go_wp2
  go_loopw [42] (λkv wr=>∃(k:Nat) (u v:Value) (s1:PSp),kv=k/\k<=n/\Hid (Ba wr w1 b8 u v s1.marks s1.arcs)/\Hid (Below w1 w1 wr)/\Hid (tD ⟨P,ts⟩ M s1/\s1.arcs.length<=24*f+k)/\Hid (kG ⟨P,ts⟩ M O (f:Int) (EA k) (some s)=some s1)/\Hid (s1.marks[f]?=some O)) (λkv _=>n-(intOf kv).toNat)
  case atStart=>exact⟨0,_,v,s,rfl,aL _,W,I,SR,rfl,j1⟩
  clear c4 c1 W I;obtain⟨k,u1,v1,s1,rfl,hk,W,I,S1,FO,FM⟩:=hrel;by_cases Z:k<n
  rotate_left
  .obtain rfl:k=n:=by omega
   have FA:=aA (show kG ⟨P,ts⟩ M O (f:Int) (EA ts.length) (some s)=some s1 by
    have:=FO.o;rwa[show k=ts.length from HW.o.len.symm]at this)
   have NX:=aA (show goM ⟨P,ts⟩ M (M-(f+1)) (f+1) s1=R by
    rw[<-HR.o];obtain⟨g,hg⟩:∃g,M-f=g+1:=⟨M-f-1,by have:=SR.o.1.few;rw[a3.o]at this;omega⟩;rw[hg,goM,aG (by rw[a3.o];exact f2),FD.o,FA.o,show M-(f+1)=g by omega];rfl)
   have fM:f+1<=M:=by have:=SR.o.1.few;rw[a3.o]at this;omega
   go_wp2
   go_roundw
   case rel=>exact⟨f+1,u1,v1,s1,by go_num,by have:=(aR.1 FM.o).1;omega,fM,W,I,aA ⟨S1.o.1,by have:=S1.o.2;omega⟩,NX⟩
   simp[intOf];omega
  have m5:(k:Int)<(n:Int):=by omega
  have k0:s1.marks.length<=300:=aT S1.o.1.few MM.o.2;obtain⟨U1,i,k1,f3⟩:=W.o.marks.sl (by omega);subst k1;have c0:=(aR.1 FM.o).1;obtain⟨b,a,m,vs,hU,f4,hm,hc,A1,n1,b5,e1,i1,m6,k2⟩:=Sl.get f3 c0;subst hU;obtain rfl:O=m:=by have:=FM.o;rw[hm]at this;injection this with this;exact this.symm
  have q0:wr.cell? ⟨b,a+f,none⟩=some (.slice A1 n1 b5):=by have:=hc 0 (by omega);rw[e1]at this;simpa using this
  have QK:=aA (show ∀w',Below wr wr w'->w'.cell? ⟨b,a+f,none⟩=some (.slice A1 n1 b5)from λw' hb=>(hb.cell (p:=⟨b,a+f,none⟩) f4).trans q0);have I1:=aA i1;have f5:=aA (HW.o.keep I.o);obtain⟨p0,p1⟩:=(Y0.o.keep I.o).two;obtain⟨N,g1⟩:=W.o.box.two;obtain⟨L1,d5⟩:=aK (s1.marks.length);have r:=aA d5;rw[d5]at N;have l1:(f:Int)<(L1:Int):=by omega
  have c6:=aA (show ∀w',Below wr wr w'->w'.cell? w=some (.int .i64 P)/\w'.cell? ⟨w,1,none⟩=some (.slice A n c)/\w'.cell? b8=some (.slice (some ⟨b,a,none⟩) L1 i)/\w'.cell? ⟨b,a+f,none⟩=some (.slice A1 n1 b5)from λw' hb=>by
   obtain⟨p0,p1⟩:=((Y0.o.keep I.o).keep hb).two;have N:=(W.o.box.keep hb).cell 0;exact⟨p0,p1,by rw[<-r.o];exact N,QK.o w' hb⟩)
  have CB:=aA (λ(w':World) (hb:Below wr wr w')=>Bv (P:=P) (f5.o.keep hb) (I1.o.keep hb) (k:Int));obtain⟨p,hp⟩:=aK (iN ⟨P,ts⟩ O (k:Int));obtain⟨x,fe⟩:=p;rw[hp]at CB;have HP:=aA hp;have DR:=aA ((aH wr wr).drew);clear hp f3 hm hc e1 i1 k2 d5 f4 c0 g1;go_upto_region 10 with fail
  go_region_held3 (λw'=>w'.cell? w=some (.int .i64 P)/\w'.cell? ⟨w,1,none⟩=some (.slice A n c)/\w'.cell? b8=some (.slice (some ⟨b,a,none⟩) L1 i)/\w'.cell? ⟨b,a+f,none⟩=some (.slice A1 n1 b5))
   (first|go_keep)
   (first|(go_at_call 111;(with_reducible refine(CB.o _ DR.o).mono ?_);rintro e w3 ⟨C,l,lc,rfl,hi,f6,g2⟩;have F3:=aA (DR.o.trans (f6.mono DR.o.size));have IX:=aA hi;have FR:=aA g2;clear hi f6 g2 p0 p1 N q0;obtain⟨p0,p1,N,q0⟩:=c6.o w3 F3.o))
  all_goals
   clear p0 p1 N q0;have X:=aA (show kG ⟨P,ts⟩ M O (f:Int) (EA (k+1)) (some s)=eS ⟨P,ts⟩ M O (f:Int) s1 (k:Int) by rw[PE,FO.o];rfl);have g3:k<ts.length:=by rw[HW.o.len];exact Z
   have c7:=aA (λ(h0:eS ⟨P,ts⟩ M O (f:Int) s1 (k:Int)=none)=>show R=none by
    rw[<-HR.o];obtain⟨g,hg⟩:∃g,M-f=g+1:=⟨M-f-1,by have:=SR.o.1.few;rw[a3.o]at this;omega⟩;rw[hg,goM,aG (by rw[a3.o];exact f2),FD.o,Aq (k:=k+1) (by omega) (by rw[X.o];exact h0)];rfl)
   have z:=KX MF.o g3;rw[HP.o]at z;have a4:=aA (W.o.keep F3.o);have b6:=aA (I.o.trans (F3.o.mono I.o.size));have AP:=aA (W.o.apart (l:=l) (FR.o.mono DR.o.size));clear g3 CB c6 QK I1 f5 W I FR DR F3;by_cases h3:fe=3
   .subst h3;have SS:=aA (X.o.trans (show eS ⟨P,ts⟩ M O (f:Int) s1 (k:Int)=some s1 by unfold eS;rw[HP.o];rfl));clear z;go_wp2
    go_roundw
    case rel=>exact⟨k+1,_,v1,s1,by go_num,by omega,a4,b6,aA ⟨S1.o.1,by have:=S1.o.2;omega⟩,SS,FM⟩
    simp[intOf];omega
   .have m7:¬(fe:Int)=3:=h3;have l2:L1<=300:=by have:=r.o;omega
    have N:w3.cell? b8=some (.slice (some ⟨b,a,none⟩) L1 i):=by rw[<-r.o];exact a4.o.box.cell 0
    go_upto_region 14 with fail
    clear N;obtain⟨wi,k3⟩:∃wi:World,wi=w3:=⟨_,rfl⟩;subst k3;go_loopw [13,61] (λtv jv wr=>∃j:Nat,j<=L1/\jv=j/\tv=.int .i64 (toV (eH (s1.marks.take j) x))/\Hid (Below wi wi wr)) (λ_ jv _=>L1-(intOf jv).toNat)
    case atStart=>exact⟨0,aL _,rfl,rfl,aA (aH _ _)⟩
    obtain⟨j,hj,rfl,rfl,BI⟩:=hrel;by_cases k4:j<L1
    .have m8:(j:Int)<(L1:Int):=by omega
     obtain⟨U2,j0,k5,g5⟩:=(a4.o.keep BI.o).marks.sl (by omega);injection k5 with e1 _ e2;subst e1 e2;obtain⟨b2,l3,y,n5,hU,g7,hy,g8,A2,n2,c2,e1,i2,k6,k7⟩:=Sl.get g5 (k:=j) (by rw[r.o];exact k4);injection hU with hU;injection hU with e3 e4;subst e3 e4;have q0:wr.cell? ⟨b,a+j,none⟩=some (.slice A2 n2 c2):=by have:=g8 0 (by omega);rw[e1]at this;simpa using this
     have TS:=aA (Gl (x:=x) S1.o.1.nodup hy);have I2:=aA i2;have g9:=aA (IX.o.keep BI.o);clear g5 g8 e1 i2 k7 k6 g7;cases hxy:(x==y)
     .have d6:=aA hxy;rw[hxy]at TS;clear hxy;go_wp2_with ((with_reducible refine(dD g9.o I2.o).mono ?_);rw[d6.o];rintro e w4 ⟨rfl,dr⟩;have BD:=aA dr.below;clear dr)
      go_roundw
      case rel=>exact⟨j+1,by omega,by go_num,by rw[TS.o];rfl,aA (BI.o.trans (BD.o.mono BI.o.size))⟩
      simp[intOf];omega
     have d6:=aA hxy;rw[hxy]at TS;clear hxy;go_wp2_with ((with_reducible refine(dD g9.o I2.o).mono ?_);rw[d6.o];rintro e w4 ⟨rfl,dr⟩;have BD:=aA dr.below;clear dr)
     go_roundw
     case rel=>exact⟨j+1,by omega,by go_num,by rw[TS.o];rfl,aA (BI.o.trans (BD.o.mono BI.o.size))⟩
     simp[intOf];omega
    obtain rfl:j=L1:=by omega
    have a5:s1.marks.take j=s1.marks:=aW (by rw[r.o];exact aB _);rw[a5];have G5:=aA (a4.o.keep BI.o);have Y:=aA (b6.o.trans (BI.o.mono b6.o.size));have h5:=aA (IX.o.keep BI.o);clear a5 a4 b6 BI IX;by_cases h4:fe=4
    .subst h4;have RN:=aA (c7.o (by unfold eS;rw[HP.o];rfl));obtain⟨tv,h6⟩:=aK (toV (eH s1.marks x));rw[h6];clear h6 z;obtain⟨z0,z1⟩:=(T.o.keep Y.o).two;have f0:=(T.o.keep Y.o).frozen 0;have f1:=(T.o.keep Y.o).frozen 1;go_wp2
     obtain⟨r0,r1⟩:=((T.o.keep Y.o).set2 () ()).two;have BW:=cX (BZ.o.trans (Y.o.mono BZ.o.size)) (aB _) (show w.heap.size<=w.heap.size+1 by omega) () ();exact aU (v:=.tuple #[.agg #[(),()],(4:Int)]) (by simp[results,Tryz.results48,go_sem,r0,r1]) rfl (by rw[GE.o,RN.o];exact mI BW)
    obtain rfl:fe=0:=by omega
    clear z h4 h3;have XF:=aA (zA (t:=(k:Int)) MF.o (by rw[HP.o]));simp only[HP.o]at XF;have XR:=aA ((cR _ _).1 XF.o.1).2.2;have XL:=aA (show x.length<=16 by
     obtain⟨h1,h2,_⟩:=(cR _ _).1 XF.o.1;have h3:=((bN _).1 h1).2.1;simp only at h2 h3;omega)
    have b7:=aA (show eS ⟨P,ts⟩ M O (f:Int) s1 (k:Int)=rF M s1 (f:Int) (k:Int) x by unfold eS;rw[HP.o];rfl);have h7:=aA (λ(s':PSp) (h:rF M s1 (f:Int) (k:Int) x=some s')=>S1.o.1.step (aR.1 FM.o).1 MF.o (b7.o.trans h));have WK:=aA (show(Lit.int .i64 (k:Int)).wf=true from jM (by omega));have l4:s1.arcs.length<=7224:=by have:=S1.o.2;omega
    obtain⟨V,cv,hv,_⟩:=G5.o.arcs.sl (by omega);subst hv;obtain⟨o,ho⟩:=aK (eH s1.marks x);have HO:=aA ho;rw[ho];clear ho;cases o with
    | some kk =>
     have ME:=aA (show rF M s1 (f:Int) (k:Int) x=some ⟨s1.marks,s1.arcs++[⟨(f:Int),(k:Int),(kk:Int)⟩]⟩ by unfold rF;rw[HO.o]);have SP:=aA (h7.o _ ME.o);have d7:=aA (X.o.trans (b7.o.trans ME.o));have n6:¬(kk:Int)<0:=by omega
     rw[show toV (some kk)=(kk:Int)from rfl];have NB:=aA (show(Value.slice V s1.arcs.length cv).ownBlock≠some b8 by obtain⟨_,o1,_⟩:=id G5.o.arcs;exact dA o1 G5.o.box (by decide));have g1:wr.cell? ⟨b8,1,none⟩=some (.slice V s1.arcs.length cv):=G5.o.box.cell 1;go_wp2_with (at_builtin;go_loud (refine fV Qp rfl _ _ rfl [(⟨(f:Int),(k:Int),(kk:Int)⟩:cC)] #[.int .i64 (f:Int),.int .i64 (k:Int),.int .i64 (kk:Int)] rfl rfl (by first|rfl|simp) rfl (by omega) (by simp[Value.oneCell']) G5.o.arcs (cD.one (vs:=λj=>#[Value.int .i64 (f:Int),.int .i64 (k:Int),.int .i64 (kk:Int)].getD j (.int .i64 0)) ⟨rfl,rfl,rfl,WK.o⟩ rfl (λj hj=>(by match j,hj with|0,_=>rfl|1,_=>rfl|2,_=>rfl))) rfl Y.o Y.o.size (by omega) (by omega) (λ_ _ _ _ h=>h) ?_;intro g6 h8 w6 D J K E;have a6:=aA D;have Q:=aA J;have a9:=aA K;have b0:=aA E;clear D J K E g1;have g1:w6.cell? ⟨b8,1,none⟩=some (.slice V s1.arcs.length cv):=(G5.o.box.grown Q.o NB.o).cell 1;have f1:=(G5.o.box.grown Q.o NB.o).frozen 1))
     go_roundw
     case rel =>
      have FK:=G5.o.arc (by simp) a6.o Q.o b0.o;exact⟨k+1,_,_,⟨s1.marks,s1.arcs++[⟨(f:Int),(k:Int),(kk:Int)⟩]⟩,by go_num,by omega,aA FK.1,aA (a9.o.grown (dH _ _ _ _) a9.o.size (λk hk=>by cases hk;exact G5.o.lo)),aA ⟨SP.o.1,by have:=S1.o.2;simp;omega⟩,d7,aA (Ji SP.o.2 FM.o)⟩
     simp[intOf];omega
    | none =>
     rw[show toV none=(-1:Int)from rfl];have N:wr.cell? b8=some (.slice (some ⟨b,a,none⟩) j i):=by rw[<-r.o];exact G5.o.box.cell 0
     by_cases e0:j=M
     .have h9:(j:Int)=(M:Int):=by omega
      have RN:=aA (c7.o (b7.o.trans (by unfold rF;rw[HO.o];simp only[r.o,e0,if_true])));clear e0;obtain⟨z0,z1⟩:=(T.o.keep Y.o).two;have f0:=(T.o.keep Y.o).frozen 0;have f1:=(T.o.keep Y.o).frozen 1;go_wp2
      obtain⟨r0,r1⟩:=((T.o.keep Y.o).set2 () ()).two;have BW:=cX (BZ.o.trans (Y.o.mono BZ.o.size)) (aB _) (show w.heap.size<=w.heap.size+1 by omega) () ();exact aU (v:=.tuple #[.agg #[(),()],(4:Int)]) (by simp[results,Tryz.results48,go_sem,r0,r1]) rfl (by rw[GE.o,RN.o];exact mI BW)
     have h9:¬(j:Int)=(M:Int):=by omega
     have ME:=aA (show rF M s1 (f:Int) (k:Int) x=some ⟨s1.marks++[x],s1.arcs++[⟨(f:Int),(k:Int),(j:Int)⟩]⟩ by unfold rF;rw[HO.o];simp only[r.o,e0,if_false]);have SP:=aA (h7.o _ ME.o);have d7:=aA (X.o.trans (b7.o.trans ME.o));have i0:l<=16:=by rw[<-h5.o.len];exact XL.o
     have U0:=aA (show Ba wr w1 b8 (.slice (some ⟨b,a,none⟩) j i) (.slice V s1.arcs.length cv) s1.marks s1.arcs by have:=G5.o;rw[r.o]at this;exact this);have k8:=aA (show uT b8 (.slice (some ⟨b,a,none⟩) j i) (.slice V s1.arcs.length cv) Z0 C l by have:=AP.o;rw[r.o]at this;exact this);have MK:=aA (show oZ b8 (.slice (some ⟨b,a,none⟩) j i) (.slice V s1.arcs.length cv) Z0 wr (λ_=>.slice C l lc) x from⟨C,l,lc,rfl,h5.o,i0,k8.o⟩);have NM:=aA (show(Value.slice (some ⟨b,a,none⟩) j i).ownBlock≠some b8 by obtain⟨_,o1,_⟩:=id U0.o.marks;exact dA o1 U0.o.box (by decide));have OM:=aA (show aJ (λ_ vs y=>oZ b8 (.slice (some ⟨b,a,none⟩) j i) (.slice V s1.arcs.length cv) Z0 wr vs y) 1 wr w1 24 (.slice (some ⟨b,a,none⟩) j i) j s1.marks by have:=U0.o.marks.reread (R':=λ_ vs y=>oZ b8 (.slice (some ⟨b,a,none⟩) j i) (.slice V s1.arcs.length cv) Z0 wr vs y) (λ_ _ hy=>hy);rw[r.o]at this;exact this);go_upto_region 24 with(at_builtin;go_loud (refine fV (R:=λ_ vs y=>oZ b8 (.slice (some ⟨b,a,none⟩) j i) (.slice V s1.arcs.length cv) Z0 wr vs y) lO rfl _ _ rfl [x] #[.slice C l lc] rfl rfl (by first|rfl|simp) rfl (by omega) (by simp[Value.oneCell']) OM.o (cD.one (vs:=λ_=>.slice C l lc) MK.o rfl (λj hj=>(by obtain rfl:j=0:=(by omega);rfl))) rfl Y.o Y.o.size (by omega) (by omega) (λ_ _ _ _ h=>h) ?_;intro g4 c8 w4 b1 c9 d0 b3;have d1:=aA b1;have b9:=aA c9;have e5:=aA d0;have d2:=aA b3;clear b1 c9 d0 b3 N;have N:w4.cell? b8=some (.slice (some ⟨b,a,none⟩) j i):=(U0.o.box.grown b9.o NM.o).cell 0;have f0:=(U0.o.box.grown b9.o NM.o).frozen 0))
     clear N f0;have FQ:=aA (U0.o.mark (by simp[r.o]) d1.o b9.o d2.o);have B7:=aA (show Below w1 w1 (w4.setCell b8 (.slice g4 (j+1) c8))from e5.o.grown (dH _ _ _ _) e5.o.size (λk hk=>by cases hk;exact U0.o.lo));clear OM NM MK e5 d2 b9 d1;generalize w4.setCell b8 (.slice g4 (j+1) c8)=w5 at *
     have G7:=aA FQ.o.1;clear FQ;have NB:=aA (show(Value.slice V s1.arcs.length cv).ownBlock≠some b8 by obtain⟨_,o1,_⟩:=id G7.o.arcs;exact dA o1 G7.o.box (by decide));have g1:w5.cell? ⟨b8,1,none⟩=some (.slice V s1.arcs.length cv):=G7.o.box.cell 1;go_wp2_with (at_builtin;go_loud (refine fV Qp rfl _ _ rfl [(⟨(f:Int),(k:Int),(j:Int)⟩:cC)] #[.int .i64 (f:Int),.int .i64 (k:Int),.int .i64 (j:Int)] rfl rfl (by first|rfl|simp) rfl (by omega) (by simp[Value.oneCell']) G7.o.arcs (cD.one (vs:=λq=>#[Value.int .i64 (f:Int),.int .i64 (k:Int),.int .i64 (j:Int)].getD q (.int .i64 0)) ⟨rfl,rfl,rfl,WK.o⟩ rfl (λj hj=>(by match j,hj with|0,_=>rfl|1,_=>rfl|2,_=>rfl))) rfl B7.o B7.o.size (by omega) (by omega) (λ_ _ _ _ h=>h) ?_;intro g6 h8 w6 D J K E;have a6:=aA D;have Q:=aA J;have a9:=aA K;have b0:=aA E;clear D J K E g1;have g1:w6.cell? ⟨b8,1,none⟩=some (.slice V s1.arcs.length cv):=(G7.o.box.grown Q.o NB.o).cell 1;have f1:=(G7.o.box.grown Q.o NB.o).frozen 1))
     go_roundw
     case rel =>
      have FK:=G7.o.arc (by simp) a6.o Q.o b0.o;exact⟨k+1,_,_,⟨s1.marks++[x],s1.arcs++[⟨(f:Int),(k:Int),(j:Int)⟩]⟩,by go_num,by omega,aA FK.1,aA (a9.o.grown (dH _ _ _ _) a9.o.size (λk hk=>by cases hk;exact G7.o.lo)),aA ⟨SP.o.1,by have:=S1.o.2;simp;omega⟩,d7,aA (Ji SP.o.2 FM.o)⟩
     simp[intOf];omega
 .have FE:=aA (show eD ⟨P,ts⟩ xs most=(PSp.nil,2) by rw[eD,aD F]);by_cases d3:most<1
  .clear F;go_wp2
   obtain⟨r0,r1⟩:=(X1.o.set2 () ()).two;have BW:=cX HB.o (aB _) (show w.heap.size<=w.heap.size+1 by omega) () ();exact aU (v:=.tuple #[.agg #[(),()],(2:Int)]) (by simp[results,Tryz.results48,go_sem,r0,r1]) rfl (by rw[FE.o];exact mI BW)
  by_cases d4:most>300
  .clear F;go_wp2
   obtain⟨r0,r1⟩:=(X1.o.set2 () ()).two;have BW:=cX HB.o (aB _) (show w.heap.size<=w.heap.size+1 by omega) () ();exact aU (v:=.tuple #[.agg #[(),()],(2:Int)]) (by simp[results,Tryz.results48,go_sem,r0,r1]) rfl (by rw[FE.o];exact mI BW)
  have i3:i7 ⟨P,ts⟩ xs=false:=by
   cases hf:i7 ⟨P,ts⟩ xs
   .rfl
   exact absurd ⟨by omega,by omega,hf⟩ F
  rw[i3]at CF;clear F i3;go_wp2_with (go_at_call 110;(with_reducible refine CF.o.mono ?_);rintro e w1 ⟨rfl,a2⟩;have B1:=aA a2;clear a2 a0 a1 z0 z1 f0 f1;obtain⟨z0,z1⟩:=(X1.o.keep B1.o).two;have f0:=(X1.o.keep B1.o).frozen 0;have f1:=(X1.o.keep B1.o).frozen 1)
  obtain⟨r0,r1⟩:=((X1.o.keep B1.o).set2 () ()).two;have BW:=cX (HB.o.trans (B1.o.mono HB.o.size)) (aB _) (show w.heap.size<=w.heap.size+1 by omega) () ();exact aU (v:=.tuple #[.agg #[(),()],(2:Int)]) (by simp[results,Tryz.results48,go_sem,r0,r1]) rfl (by rw[FE.o];exact mI BW)
