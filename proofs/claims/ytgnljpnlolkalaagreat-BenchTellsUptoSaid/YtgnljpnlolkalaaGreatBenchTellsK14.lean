/- Texts melted into one: The contract of grow on leaves, on choices and on loops, given what it does within. Conditions: the block reads as a tree and is right. | The contract of grow on choices, given what it does within. Conditions: the block reads as a tree and is right. | The contract of grow on r -/
import Derived.Test.YtgnljpnlolkalaaGreatBenchTellsK09
import Derived.Maps.Range
set_option linter.all false
set_option maxRecDepth 100000
set_option maxHeartbeats 8000000
namespace Go.Proofs.YtgnljpnlolkalaaGreat
open Go.RowKit
def mS (w0:World)(bg:Nat)(w:World)(r:KSt)(e:Ending)(w':World):Prop :=
 (dB r/\e=.returned (.tuple #[])/\(∃v',GrW w0.heap.size bg w' v' r)/\Below w0.heap.size w0 w'/\Kp w w')∨(¬dB r/\e=.panicked [OC]/\Below w0.heap.size w0 w')
def Yo (w0:World)(bg:Nat)(w:World)(r:KSt)(e:Ending)(w':World):Prop:=e=.returned (.tuple #[])/\(∃v',GrW w0.heap.size bg w' v' r)/\Below w0.heap.size w0 w'/\Kp w w'
def Rm (w0:World)(e:Ending)(w':World):Prop:=e=.panicked [OC]/\Below w0.heap.size w0 w'
section
variable {w0 w:World} {bg F:Nat} {args:Array Value} {r:KSt}
def lR (h:Calls Tryz.prog F args w (mS w0 bg w r))(a:dB r):Calls Tryz.prog F args w (Yo w0 bg w r):=h.mono λe w' h=>by
 rcases h with⟨_,h⟩|⟨h,_⟩
 .exact h
 exact absurd a h
def lS (h:Calls Tryz.prog F args w (mS w0 bg w r))(a:¬dB r):Calls Tryz.prog F args w (Rm w0):=h.mono λe w' h=>by
 rcases h with⟨h,_⟩|⟨_,h⟩
 .exact absurd h a
 exact h
end
def rW {w0 w:World}{bg:Nat}{v:Value}{g:KSt}{A1 A2:OAd}{n1 c1 n2 c2:Nat}{xs ys:LIn}(l:Int)(h:GrW w0 bg w v g)(a:Below w0 w0 w)(d:aY w A1 n1 c1 xs)(f:aY w A2 n2 c2 ys)(i:jY w0 w A1 n1)(j:jY w0 w A2 n2)(b:dB g) :
  Calls Tryz.prog 75 #[.pointer bg,l,.slice A1 n1 c1,.slice A2 n2 c2] w (mS w0 bg w (lnk g l xs ys)):=by
 by_cases c:g.links.length<24
 .exact(WM l h a a.size d f i j c).mono λe w' h=>.inl ⟨⟨b.1,by simp only[lnk,bL,bP,fQ];omega⟩,h⟩
 .exact(Rf l h a (by have:=b.2;omega)).mono λe w' h=>.inr ⟨λk=>c (by have:=k.2;simp only[lnk,bL,bP,fQ]at this;omega),h⟩
def It (N:Nat)(w:World)(p:Int):aY (w.alloc (.cells #[p] 3)) (some ⟨w,0,none⟩) 1 1 [p]/\jY N (w.alloc (.cells #[p] 3)) (some ⟨w,0,none⟩) 1:=by
 have c:=Box.new w #[p] 3;refine⟨⟨rfl,aB _,by simp[maxLen],by omega,λh=>(by cases h),λ_=>⟨w.heap.size,0,rfl,c.lt,λj x a=>?_⟩⟩,λb d e _=>?_⟩
 .obtain rfl:j=0:=by
   have:=(aR.1 a).1;simpa using this
  simp only[aQ,aZ]at a;subst a;refine⟨λ_=>.int .i64 p,λq f=>?_,rfl⟩;obtain rfl:q=0:=by omega
  exact c.cell 0
 injection e with e;injection e with e _;subst e;exact .inr ⟨_,_,c⟩
def Iu (w0:World)(bg f:Nat):Prop :=
 ∀(d:Nat) (kd lb:Int) (A:OAd) (n c had:Nat) (ks:List bH) (p q:Int) (v:Value) (g:KSt) (w:World),(bY f (.mk kd lb ks) had).2=0->pQ d w0 A n c ks->GrW w0.heap.size bg w v g->Below w0.heap.size w0 w->dB g ->
  Calls Tryz.prog 28 #[.pointer (some ⟨bg,0,none⟩),.agg #[.int .i64 kd,.int .i64 lb,.slice A n c],.int .i64 p,.int .i64 q] w (mS w0 bg w (kbB f (.mk kd lb ks) p q g))
def Iw {w0:World}{bg f:Nat}{kd lb:Int}{A:OAd}{n c:Nat}{ks:List bH}{p q:Int}{v:Value}{g:KSt}{w:World}(j:kd=1∨kd=2)(H:GrW w0 bg w v g)(C:Below w0 w0 w)(K:dB g) :
  Calls Tryz.prog 28 #[.pointer bg,.agg #[kd,lb,.slice A n c],p,q] w (mS w0 bg w (kbB (f+1) (.mk kd lb ks) p q g)):=by
 have I:∀(args:Array Value) (w:World),Sem.run Tryz.prog (callFunc 74 args) w=.ok (.enter 74 args) w:=λargs w=>by kernel_rfl
 obtain⟨l,t⟩:∃l,(if kd=1 then 0 else lb)=l:=⟨_,rfl⟩;have L:=aA (show kbB (f+1) (.mk kd lb ks) p q g=lnk g l [p] [q] by
  rcases j with rfl|rfl
  .rw[Yg,<-t,aG rfl]
  rw[Yh,<-t,aD (by decide)])
 rw[L.o];have x:=aF w (.cells #[kd,lb,.slice A n c] 35);have M:=aA (Box.new w #[kd,lb,.slice A n c] 35);have N:=aA (H.keep x);have y:=aA (C.trans (x.mono C.size));have m:=aA (Kp.below x);have z:=aA t;clear H C x t;go_enter Tryz.func28,Tryz.ntmps28
 go_upto_region 1 with fail
 generalize w.alloc (.cells #[kd,lb,.slice A n c] 35)=u at *
 obtain⟨O,P,Q⟩:=M.o.three;have i:=aF u (.cells #[p] 3);have d:=aF (u.alloc (.cells #[p] 3)) (.cells #[q] 3);have B:=It w0 u p;have D:=It w0 (u.alloc (.cells #[p] 3)) q;have CL:=aA (rW l ((N.o.keep i).keep d) ((y.o.trans (i.mono y.o.size)).trans (d.mono (y.o.trans (i.mono y.o.size)).size)) (B.1.keep d) D.1 (B.2.same B.1 d.size (λb h _=>d.block b h)).1 D.2 K);rw[show(u.alloc (.cells #[p] 3)).heap.size=u.heap.size+1 by simp]at CL;have J:=aA ((m.o.trans (Kp.below i)).trans (Kp.below d));clear i d B D m;by_cases a:dB (lnk g l [p] [q])
 .have o:=aA (lR CL.o a);have r:=aA a;clear CL a;rcases j with rfl|rfl
  .obtain rfl:l=0:=by rw[<-z.o];rfl
   go_wp2_with (first
    |(go_at_call 74;(with_reducible refine(fN _ _).mono ?_);rintro e w1 ⟨rfl,rfl⟩)
    |(go_at_call 75;(with_reducible refine o.o.mono ?_);rintro e E ⟨rfl,s,h,j⟩;have F:=aA s;have k:=aA h;have G:=aA (J.o.trans j);clear s h j))
   exact eR (v:=.tuple #[]) (by simp[results,Tryz.results28,go_sem]) rfl (.inl ⟨r.o,rfl,F.o,k.o,G.o⟩)
  obtain rfl:l=lb:=by rw[<-z.o];rfl
  go_wp2_with (first
   |(go_at_call 74;(with_reducible refine(fN _ _).mono ?_);rintro e w1 ⟨rfl,rfl⟩)
   |(go_at_call 75;(with_reducible refine o.o.mono ?_);rintro e E ⟨rfl,s,h,j⟩;have F:=aA s;have k:=aA h;have G:=aA (J.o.trans j);clear s h j))
  exact eR (v:=.tuple #[]) (by simp[results,Tryz.results28,go_sem]) rfl (.inl ⟨r.o,rfl,F.o,k.o,G.o⟩)
 .have o:=aA (lS CL.o a);have r:=aA a;clear CL a;rcases j with rfl|rfl
  .obtain rfl:l=0:=by rw[<-z.o];rfl
   go_wp2_with (first
    |(go_at_call 74;(with_reducible refine(fN _ _).mono ?_);rintro e w1 ⟨rfl,rfl⟩)
    |(go_at_call 75;(with_reducible refine o.o.mono ?_);rintro e E ⟨rfl,h⟩;have k:=aA h;clear h))
   exact⟨rfl,.inr ⟨r.o,rfl,k.o⟩⟩
  obtain rfl:l=lb:=by rw[<-z.o];rfl
  go_wp2_with (first
   |(go_at_call 74;(with_reducible refine(fN _ _).mono ?_);rintro e w1 ⟨rfl,rfl⟩)
   |(go_at_call 75;(with_reducible refine o.o.mono ?_);rintro e E ⟨rfl,h⟩;have k:=aA h;clear h))
  exact⟨rfl,.inr ⟨r.o,rfl,k.o⟩⟩
def UO {w0:World}{bg f d had:Nat}(B:Iu w0 bg f){lb:Int}{A:OAd}{n c:Nat}{ks:List bH}{p q:Int}{v:Value}{g:KSt}{w:World}(hc:(bY (f+1) (.mk 4 lb ks) had).2=0)(hK:pQ d w0 A n c ks)(hG:GrW w0 bg w v g)(O:Below w0 w0 w)(hf:dB g) :
  Calls Tryz.prog 28 #[.pointer bg,.agg #[(4:Int),lb,.slice A n c],p,q] w (mS w0 bg w (kbB (f+1) (.mk 4 lb ks) p q g)):=by
 obtain⟨_,_,h',_,a⟩:=iK hc;replace a:ks.foldl (bU (bY f)) (had+1,0)=(h',0):=a
 have IH:=aA B;have FO:=aA a;obtain⟨F,hF⟩:∃F:KSt->bH×Nat->KSt,F=λs x=>Q7 (kbB f) p q s x.1:=⟨_,rfl⟩
 have P:=aA hF;have HR:=aA (show kbB (f+1) (.mk 4 lb ks) p q g=ks.zipIdx.foldl F g by rw[Yj,hF,Q9]);have TG:=aA (λ(i y:Nat) (h1:(ks.take i).foldl (bU (bY f)) (had+1,0)=(y,0))=>show Gr ((ks.take i).zipIdx.foldl F g) (ks.zipIdx.foldl F g) (h'-y)from by
  rw[hF];exact wI (λs=>s) _ Ni h1 a)
 rw[HR.o];have N:=aF w (.cells #[(4:Int),lb,.slice A n c] 35);have BB:=aA (Box.new w #[(4:Int),lb,.slice A n c] 35);have z:=aA (hG.keep N);have k:=aA (O.trans (N.mono O.size));have HL:=aA (show ks.length=n from hK.len);have a0:=hK.small;have K:=aA hK;have Q:=aA hf;have C:=aA (Kp.below N);clear hG O N hK hc B a hF hf;go_enter Tryz.func28,Tryz.ntmps28
 go_upto_region 1 with fail
 generalize w.alloc (.cells #[(4:Int),lb,.slice A n c] 35)=u at *
 obtain⟨b0,b1,b2⟩:=BB.o.three;have G0:=aA (show GrW w0 bg u v ((ks.take 0).zipIdx.foldl F g)from z.o);clear z;go_wp2
 clear b0 b1 b2;go_loopw [80] (λR wr=>∃(i y:Nat) (v:Value),i<=n/\R=i/\Hid (GrW w0 bg wr v ((ks.take i).zipIdx.foldl F g))/\Hid ((ks.take i).foldl (bU (bY f)) (had+1,0)=(y,0))/\Hid (dB ((ks.take i).zipIdx.foldl F g))/\Hid (Below w0 w0 wr)/\Hid (Kp w wr)) (λR _=>n-(intOf R).toNat)
 case atStart=>exact⟨0,had+1,v,aL _,rfl,G0,rfl,Q,k,C⟩
 case round =>
  clear G0 k BB C;obtain⟨i,y,v,hi,rfl,z,CK,S,k,C⟩:=hrel;by_cases T:i<n
  rotate_left
  .obtain rfl:i=n:=by omega
   have ZA:=aA (wH (F:=F) (s:=g) (l:=ks) (i:=i) (by rw[HL.o];exact aB _));rw[ZA.o]at z S;go_wp2
   exact eR (v:=.tuple #[]) (by simp[results,Tryz.results28,go_sem]) rfl (.inl ⟨S.o,rfl,⟨v,z.o⟩,k.o,C.o⟩)
  have a1:(i:Int)<(n:Int):=by omega
  obtain⟨bl,a2,m,o,D,U,V,W,d',rfl,rfl,t,X,p0,p1,p2,K'⟩:=K.o.get T;have q0:=(k.o.cell (p:=⟨bl,_,none⟩) t).trans p0;have q1:=(k.o.cell (p:=⟨bl,_,none⟩) t).trans p1;have q2:=(k.o.cell (p:=⟨bl,_,none⟩) t).trans p2;obtain⟨E,G,H⟩:=iL FO.o X.o CK.o;have I:=aA H;have ZS:=aA (qN (F:=F) (s:=g) X.o);have r:=aF wr (.cells #[m,o,.slice U V W] 35);have X3:=aA (k.o.trans (r.mono k.o.size));have K3:=aA (C.o.trans (Kp.below r));have J:=aA (IH.o d' m o U V W y D p q v _ (wr.alloc (.cells #[m,o,.slice U V W] 35)) (by rw[G]) K'.o (z.o.keep r) X3.o S.o);have HZ:=aA (show kbB f (.mk m o D) p q ((ks.take i).zipIdx.foldl F g)=(ks.take (i+1)).zipIdx.foldl F g by rw[ZS.o,P.o];rfl);rw[HZ.o]at J;clear p0 p1 p2 G H r X K' HZ ZS;by_cases b:dB ((ks.take (i+1)).zipIdx.foldl F g)
  .have Y:=aA (lR J.o b);have Z:=aA b;clear J b;go_wp2_with (go_at_call 28;(with_reducible refine Y.o.mono ?_);rintro e w4 ⟨rfl,⟨v4,L⟩,j,M⟩;have G4:=aA L;have X4:=aA j;have K4:=aA (K3.o.trans M);clear L j M)
   go_roundw
   case rel=>exact⟨i+1,E,v4,by omega,by go_num,G4,I,Z,X4,K4⟩
   simp[intOf];omega
  have Y:=aA (lS J.o b);have NF:=aA (show ¬dB (ks.zipIdx.foldl F g)from λh=>b ((TG.o (i+1) E I.o).fits h));clear J b;go_wp2_with (go_at_call 28;(with_reducible refine Y.o.mono ?_);rintro e w4 ⟨rfl,j⟩;have X4:=aA j;clear j)
  exact⟨rfl,.inr ⟨NF.o,rfl,X4.o⟩⟩
def pH {w0 w:World}{bg:Nat}{v:Value}{g:KSt}(h:GrW w0 bg w v g)(a:Below w0 w0 w)(b:dB (more g 1)) :
  Calls Tryz.prog 76 #[.pointer bg] w (λe w'=>e=.returned (.int .i64 g.places)/\GrW w0 bg w' v (more g 1)/\Below w0 w0 w'/\Kp w w'/\w.grownBy w' (some bg)) :=
 UG h a (by have:=b.1;simp only[more]at this;omega)
def pI {w0 w:World}{bg:Nat}{v:Value}{g:KSt}(h:GrW w0 bg w v g)(b:Below w0 w0 w)(a:dB g)(c:¬dB (more g 1)) :
  Calls Tryz.prog 76 #[.pointer bg] w (Rm w0) :=
 OE h b (by
  have:=a.1;have d:=a.2;apply eO
  intro e;exact c ⟨by simp only[more];omega,by simpa only [more] using d⟩)
def UQ {w0:World}{bg f d had:Nat}(a0:Iu w0 bg f){lb:Int}{A:OAd}{n c:Nat}{ks:List bH}{p q:Int}{v:Value}{g:KSt}{w:World}(hc:(bY (f+1) (.mk 3 lb ks) had).2=0)(hK:pQ d w0 A n c ks)(hG:GrW w0 bg w v g)(hB:Below w0 w0 w)(hf:dB g) :
  Calls Tryz.prog 28 #[.pointer bg,.agg #[(3:Int),lb,.slice A n c],p,q] w (mS w0 bg w (kbB (f+1) (.mk 3 lb ks) p q g)):=by
 obtain⟨_,a1,h',_,k⟩:=iK hc;replace k:ks.foldl (bU (bY f)) (had+1,0)=(h',0):=k
 have a2:0<n:=by
  have:=(sP a1).2.2.2 (by show(3:Int)<=3;omega);have h2:=hK.len;simp only[bH.kids]at this;omega
 obtain⟨m,rfl⟩:∃m,n=m+1:=⟨n-1,by omega⟩;have IH:=aA a0;have FO:=aA k;obtain⟨F,hF⟩:∃F:KSt×Int->bH×Nat->KSt×Int,F=Nh (kbB f) (m+1) q:=⟨_,rfl⟩;have a3:=aA hF;have R:=hK.len;have HR:=aA (show kbB (f+1) (.mk 3 lb ks) p q g=(ks.zipIdx.foldl F (g,p)).1 by rw[Yi,hF,R]);have TG:=aA (λ(i N:Nat) (h1:(ks.take i).foldl (bU (bY f)) (had+1,0)=(N,0))=>show Gr ((ks.take i).zipIdx.foldl F (g,p)).1 (ks.zipIdx.foldl F (g,p)).1 (h'-N)from by
  rw[hF];exact wI (λs:KSt×Int=>s.1) _ Nj h1 k)
 rw[HR.o];have bb:=aF w (.cells #[(3:Int),lb,.slice A (m+1) c] 35);have S:=aA (Box.new w #[(3:Int),lb,.slice A (m+1) c] 35);have GW:=aA (hG.keep bb);have y:=aA (hB.trans (bb.mono hB.size));have HL:=aA R;have d1:=hK.small;have c9:=hK.le;have a5:=hK.cap;have K:=aA hK;have a6:=aA hf;have d2:=aA (show w0.heap.size<=w.heap.size from hB.size);obtain⟨O,P,hA,_⟩:=hK.cells a2;subst hA;have KW:=aA (Kp.below bb);clear hG hB bb hK hc a0 k hF hf a1 R a2;go_enter Tryz.func28,Tryz.ntmps28
 go_upto_region 1 with fail
 have a9:=aA S.o.lt;generalize w.alloc (.cells #[(3:Int),lb,.slice (some ⟨O,P,none⟩) (m+1) c] 35)=u at *
 obtain⟨b0,b1,b2⟩:=S.o.three;have G0:=aA (show GrW w0 bg u v ((ks.take 0).zipIdx.foldl F (g,p)).1 from GW.o);have d3:((m+1:Nat):Int)-1=(m:Int):=by omega
 have d4:(m:Int)<=(c:Int):=by omega
 clear GW;go_wp2
 clear b0 b1 b2;go_loopw [2,50] (λpv iv wr=>∃(i N:Nat) (v:Value) (s:KSt×Int),i<=m/\iv=i/\pv=.int .i64 s.2/\Hid ((ks.take i).zipIdx.foldl F (g,p)=s)/\Hid (GrW w0 bg wr v s.1)/\Hid ((ks.take i).foldl (bU (bY f)) (had+1,0)=(N,0))/\Hid (dB s.1)/\Hid (Below w0 w0 wr)/\Hid (Kp w wr)/\Hid (Box wr w 35 #[(3:Int),lb,.slice (some ⟨O,P,none⟩) (m+1) c])) (λ_ iv _=>m-(intOf iv).toNat)
 case atStart=>exact⟨0,had+1,v,(g,p),aL _,rfl,rfl,rfl,G0,rfl,a6,y,KW,S⟩
 case round =>
  clear G0 y S a9 KW;obtain⟨i,N,v,s,hi,rfl,rfl,HS,GW,CK,FT,y,KW,S⟩:=hrel;obtain⟨G,T⟩:=s;simp only at GW FT ⊢;by_cases d5:i<m
  rotate_left
  .obtain rfl:i=m:=by omega
   obtain⟨bl,b3,b,j,o,U,V,W,d',rfl,r,t,Q,p0,z,p2,K'⟩:=K.o.get (show i<i+1 by omega);injection r with r;injection r with e1 e2;subst e1 e2;have q0:=(y.o.cell (p:=⟨O,_,none⟩) t).trans p0;have q1:=(y.o.cell (p:=⟨O,_,none⟩) t).trans z;have q2:=(y.o.cell (p:=⟨O,_,none⟩) t).trans p2;obtain⟨X,x,B⟩:=iL FO.o Q.o CK.o;have ZS:=aA (qN (F:=F) (s:=(g,p)) Q.o);have HZ:=aA (show(ks.zipIdx.foldl F (g,p))=(kbB f (.mk b j o) T q G,q) by
    rw[<-wH (i:=i+1) (by rw[HL.o];exact aB _),ZS.o,HS.o,a3.o,Nh,aD (by simp only;omega)])
   have J:=aA (IH.o d' b j U V W N o T q v _ wr (by rw[x]) K'.o GW.o y.o FT.o);obtain⟨b0,b1,b2⟩:=S.o.three;have d0:(i:Int)<((i+1:Nat):Int):=by omega
   clear p0 z p2 x B Q;by_cases a:dB (kbB f (.mk b j o) T q G)
   .have Y:=aA (lR J.o a);have Z:=aA a;clear a J;go_wp2_with (go_at_call 28;(with_reducible refine Y.o.mono ?_);rintro e w7 ⟨rfl,H,l,C⟩;have G7:=aA H;have X7:=aA l;have K7:=aA (KW.o.trans C);clear H l C)
    exact eR (v:=.tuple #[]) (by simp[results,Tryz.results28,go_sem]) rfl (.inl ⟨by rw[HZ.o];exact Z.o,rfl,by rw[HZ.o];exact G7.o,X7.o,K7.o⟩)
   have Y:=aA (lS J.o a);have NF:=aA a;clear a J;go_wp2_with (go_at_call 28;(with_reducible refine Y.o.mono ?_);rintro e w7 ⟨rfl,l⟩;have X7:=aA l;clear l)
   exact⟨rfl,.inr ⟨by rw[HZ.o];exact NF.o,rfl,X7.o⟩⟩
  have d6:(i:Int)<(m:Int):=by omega
  obtain⟨bl,b3,b,j,o,U,V,W,d',rfl,r,t,Q,p0,z,p2,K'⟩:=K.o.get (show i<m+1 by omega);injection r with r;injection r with e1 e2;subst e1 e2;have q0:=(y.o.cell (p:=⟨O,_,none⟩) t).trans p0;have q1:=(y.o.cell (p:=⟨O,_,none⟩) t).trans z;have q2:=(y.o.cell (p:=⟨O,_,none⟩) t).trans p2;obtain⟨X,x,B⟩:=iL FO.o Q.o CK.o;have b4:=aA B;have ZS:=aA (qN (F:=F) (s:=(g,p)) Q.o);have D:=aF wr (.cells #[b,j,.slice U V W] 35);have X3:=aA (y.o.trans (D.mono y.o.size));have G3:=aA (GW.o.keep D);have b6:=aA (S.o.keep D);have XB:=aA (Box.new wr #[b,j,.slice U V W] 35);have HN:=aA (show w0.heap.size<=wr.heap.size from y.o.size);have HZ:=aA (show(ks.take (i+1)).zipIdx.foldl F (g,p)=(kbB f (.mk b j o) T (G.places:Int) (more G 1),(G.places:Int)) by rw[ZS.o,HS.o,a3.o,Nh,aG (by simp only;omega)]);have L:=aA (TG.o (i+1) X B);rw[HZ.o]at L;simp only at L;have b7:=aA (lI f (.mk b j o) N T (G.places:Int) (more G 1) (by rw[x]));have b9:=aA x;have K3:=aA (KW.o.trans (Kp.below D));by_cases E:dB (more G 1)
  .have CP:=aA (pH G3.o X3.o E);have J:=aA (λ(w5:World) (c0:GrW w0 bg w5 v (more G 1)) (c5:Below w0 w0 w5)=>IH.o d' b j U V W N o T (G.places:Int) v _ w5 (by rw[b9.o]) K'.o c0 c5 E);clear p0 z p2 x B Q E;go_upto_region 13 with fail
   clear q0 q1 q2 D;generalize wr.alloc (.cells #[b,j,.slice U V W] 35)=w5 at *
   generalize wr.heap.size=b5 at *
   go_upto_region 14 with(go_at_call 76;(with_reducible refine CP.o.mono ?_);rintro e w6 ⟨rfl,a4,I,M,_⟩;have G6:=aA a4;have X6:=aA I;have c6:=aA (M.box b6.o (by decide) (by decide));have c7:=aA (M.box XB.o (by decide) (by decide));have K6:=aA (K3.o.trans M);clear a4 I M)
   obtain⟨t0,t1,t2⟩:=c7.o.three;by_cases a:dB (kbB f (.mk b j o) T (G.places:Int) (more G 1))
   .have Y:=aA (lR (J.o w6 G6.o X6.o) a);have Z:=aA a;clear a J;go_wp2_with (go_at_call 28;(with_reducible refine Y.o.mono ?_);rintro e w7 ⟨rfl,⟨v7,H⟩,l,C⟩;have G7:=aA H;have X7:=aA l;have c8:=aA (C.box c6.o (by decide) (by decide));have K7:=aA (K6.o.trans C);clear H l C)
    go_roundw
    case rel=>exact⟨i+1,X,v7,_,by omega,by go_num,rfl,HZ,G7,b4,Z,X7,K7,c8⟩
    simp[intOf];omega
   have Y:=aA (lS (J.o w6 G6.o X6.o) a);have NF:=aA (show ¬dB (ks.zipIdx.foldl F (g,p)).1 from λh=>a (L.o.fits h));clear a J;go_wp2_with (go_at_call 28;(with_reducible refine Y.o.mono ?_);rintro e w7 ⟨rfl,l⟩;have X7:=aA l;clear l)
   exact⟨rfl,.inr ⟨NF.o,rfl,X7.o⟩⟩
  have CP:=aA (pI G3.o X3.o FT.o E);have NF:=aA (show ¬dB (ks.zipIdx.foldl F (g,p)).1 from λh=>E (b7.o.1.fits (L.o.fits h)));clear p0 z p2 x B Q E;go_upto_region 13 with fail
  clear q0 q1 q2 D;generalize wr.alloc (.cells #[b,j,.slice U V W] 35)=w5 at *
  generalize wr.heap.size=b5 at *
  go_wp2_with (go_at_call 76;(with_reducible refine CP.o.mono ?_);rintro e w6 ⟨rfl,I⟩;have X6:=aA I;clear I)
  exact⟨rfl,.inr ⟨NF.o,rfl,X6.o⟩⟩
def yR {g:KSt}{l:Int}{a b:LIn}(h:dB (lnk g l a b)):dB g:=⟨h.1,by have:=h.2;simp only[lnk,bL,bP,fQ]at this;omega⟩
def z8 {g:KSt}{k j:Nat}(h:dB (more g k))(a:j<=k):dB (more g j):=⟨by have:=h.1;simp only[more]at this ⊢;omega,h.2⟩
def Rn {w0:World}{bg f d had:Nat}(a6:Iu w0 bg f){lb:Int}{A:OAd}{n c:Nat}{ks:List bH}{p q:Int}{v:Value}{g:KSt}{w:World}(hc:(bY (f+1) (.mk 6 lb ks) had).2=0)(hK:pQ d w0 A n c ks)(hG:GrW w0 bg w v g)(hB:Below w0 w0 w)(hf:dB g) :
  Calls Tryz.prog 28 #[.pointer bg,.agg #[(6:Int),lb,.slice A n c],p,q] w (mS w0 bg w (kbB (f+1) (.mk 6 lb ks) p q g)):=by
 have f4:∀(args:Array Value) (w:World),Sem.run Tryz.prog (callFunc 74 args) w=.ok (.enter 74 args) w:=λargs w=>by kernel_rfl
 obtain⟨_,a9,h',_,l⟩:=iK hc;replace l:ks.foldl (bU (bY f)) (had+1,0)=(h',0):=l
 have b1:=(sP a9).2.2.1 rfl;simp only[bH.kids]at b1;have e6:n=2:=by have:=hK.len;omega
 subst e6;obtain⟨x,i,k0,l0,s0,B0,m0,e0,d0,e7,hA,y,T,b2,b3,b4,K0⟩:=hK.get (show 0<2 by omega);obtain⟨f6,f5,k1,l1,s1,B1,m1,e1,d1,e8,U,_,V,b5,b6,b7,K1⟩:=hK.get (show 1<2 by omega);subst hA;injection U with U;injection U with z1 z2;subst z1 z2;have b9:ks=[.mk k0 l0 s0,.mk k1 l1 s1]:=by
  apply iE
  intro j;match j with
  | 0=>rw[T.o];rfl
  | 1=>rw[V.o];rfl
  | j+2=>rw[dC (by omega)];rfl
 obtain⟨c5,W,c6⟩:=iL l T.o (by rfl:(ks.take 0).foldl (bU (bY f)) (had+1,0)=(had+1,0));obtain⟨g0,X,_⟩:=iL l V.o c6;have IH:=aA a6;obtain⟨m,Y⟩:=aK (g.places);obtain⟨P,H⟩:=aK (lnk (more g 2) 0 [p] [(m:Int)]);obtain⟨I,J⟩:=aK (kbB f (.mk k0 l0 s0) (m:Int) ((m:Int)+1) P);obtain⟨g3,K⟩:=aK (kbB f (.mk k1 l1 s1) ((m:Int)+1) (m:Int) I);obtain⟨g4,L⟩:=aK (lnk g3 0 [((m:Int)+1)] [q]);have HR:=aA (show kbB (f+1) (.mk 6 lb ks) p q g=g4 by rw[b9,Yl,Y,show((m+1:Nat):Int)=(m:Int)+1 from by omega,H,J,K,L]);rw[HR.o];have F3:=aA (show dB g4->dB g3 from λh=>yR (by rw[L];exact h));have F2:=aA (show dB g3->dB I from λh=>(lI f (.mk k1 l1 s1) c5 _ _ I (by rw[X])).1.fits (by rw[K];exact h));have F1:=aA (show dB I->dB P from λh=>(lI f (.mk k0 l0 s0) (had+1) _ _ P (by rw[W])).1.fits (by rw[J];exact h));have F0:=aA (show dB P->dB (more g 2)from λh=>yR (by rw[H];exact h));have bb:=aF w (.cells #[(6:Int),lb,.slice (some ⟨x,i,none⟩) 2 c] 35);have BB:=aA (Box.new w #[(6:Int),lb,.slice (some ⟨x,i,none⟩) 2 c] 35);have GW:=aA (hG.keep bb);have BX:=aA (hB.trans (bb.mono hB.size));have KW:=aA (Kp.below bb);have e9:=aA hf;have c7:=aA Y;have Z:=aA (show ∀wr,Below w0 w0 wr->wr.cell? ⟨x,i,none⟩=some (.int .i64 k0)/\wr.cell? ⟨x,i+1,none⟩=some (.int .i64 l0)/\wr.cell? ⟨x,i+2,none⟩=some (.slice B0 m0 e0)from λwr C=>⟨(C.cell (p:=⟨x,i,none⟩) y).trans (by simpa using b2),(C.cell (p:=⟨x,i+1,none⟩) y).trans (by simpa using b3),(C.cell (p:=⟨x,i+2,none⟩) y).trans (by simpa using b4)⟩);have a0:=aA (show ∀wr,Below w0 w0 wr->wr.cell? ⟨x,i+3,none⟩=some (.int .i64 k1)/\wr.cell? ⟨x,i+3+1,none⟩=some (.int .i64 l1)/\wr.cell? ⟨x,i+3+2,none⟩=some (.slice B1 m1 e1)from λwr C=>⟨(C.cell (p:=⟨x,i+3,none⟩) y).trans (by simpa using b5),(C.cell (p:=⟨x,i+3+1,none⟩) y).trans (by simpa using b6),(C.cell (p:=⟨x,i+3+2,none⟩) y).trans (by simpa using b7)⟩);have C0:=aA (λ(o:World) (v5:Value) (z:GrW w0 bg o v5 P) (B:Below w0 w0 o) (a1:dB P)=>show Calls Tryz.prog _ _ _ (mS w0 bg o I)from by rw[<-J];exact IH.o d0 k0 l0 B0 m0 e0 (had+1) s0 (m:Int) ((m:Int)+1) v5 P o (by rw[W]) K0.o z B a1);have C1:=aA (λ(o:World) (v5:Value) (z:GrW w0 bg o v5 I) (B:Below w0 w0 o) (a1:dB I)=>show Calls Tryz.prog _ _ _ (mS w0 bg o g3)from by rw[<-K];exact IH.o d1 k1 l1 B1 m1 e1 c5 s1 ((m:Int)+1) (m:Int) v5 I o (by rw[X]) K1.o z B a1);have f0:=aA H;have f1:=aA L;clear hG hB bb hK hc a6 l hf a9 b1 T V b2 b3 b4 b5 b6 b7 b9 W c6 X Y H J K L K0 K1 e7 e8 y IH;go_enter Tryz.func28,Tryz.ntmps28
 go_upto_region 1 with fail
 generalize w.alloc (.cells #[(6:Int),lb,.slice (some ⟨x,i,none⟩) 2 c] 35)=u at *
 obtain⟨c0,c1,c2⟩:=BB.o.three;by_cases h1:dB (more g 1)
 .have P1:=aA (pH GW.o BX.o h1);rw[c7.o]at P1;by_cases h2:dB (more g 2)
  rotate_left
  .have P2:=aA (λ(o:World) (z:GrW w0 bg o v (more g 1)) (B:Below w0 w0 o)=>pI z B h1 h2);have D:=aA (λh=>h2 (F0.o (F1.o (F2.o (F3.o h)))));go_wp2_with (first
    |(go_at_call 76;(with_reducible refine P1.o.mono ?_);rintro e w6 ⟨rfl,E,F,G,_⟩;have G6:=aA E;have X6:=aA F;clear E F G)
    |(go_at_call 76;(with_reducible refine(P2.o _ G6.o X6.o).mono ?_);rintro e Q ⟨rfl,r⟩;have M:=aA r;clear r))
   exact⟨rfl,.inr ⟨D.o,rfl,M.o⟩⟩
  have P2:=aA (λ(o:World) (z:GrW w0 bg o v (more g 1)) (B:Below w0 w0 o)=>show Calls Tryz.prog _ _ o (λe w'=>e=.returned (.int .i64 ((m:Int)+1))/\GrW w0 bg w' v (more g 2)/\Below w0 w0 w'/\Kp o w'/\o.grownBy w' (some bg))from by
   have:=pH z B h2;rw[show(more g 1).places=m+1 by simp only[more,c7.o],show((m+1:Nat):Int)=(m:Int)+1 from by omega]at this;exact this)
  go_upto_region 39 with(first
   |(go_at_call 76;(with_reducible refine P1.o.mono ?_);rintro e w6 ⟨rfl,E,F,G,_⟩;have G6:=aA E;have X6:=aA F;have K6:=aA (KW.o.trans G);have f2:=aA (G.box BB.o (by decide) (by decide));clear E F G)
   |(go_at_call 76;(with_reducible refine(P2.o _ G6.o X6.o).mono ?_);rintro e Q ⟨rfl,c8,r,a2,_⟩;have G7:=aA c8;have M:=aA r;have K7:=aA (K6.o.trans a2);have c9:=aA (a2.box f2.o (by decide) (by decide));clear c8 r a2))
  clear c0 c1 c2 GW BX KW BB;have k:=aF Q (.cells #[p] 3);have a:=aF (Q.alloc (.cells #[p] 3)) (.cells #[.int .i64 m] 3);have N:=It w0 Q p;have I2:=It w0 (Q.alloc (.cells #[p] 3)) (m:Int);have CL:=aA (rW 0 ((G7.o.keep k).keep a) ((M.o.trans (k.mono M.o.size)).trans (a.mono (M.o.trans (k.mono M.o.size)).size)) (N.1.keep a) I2.1 (N.2.same N.1 a.size (λb C _=>a.block b C)).1 I2.2 h2);rw[f0.o,show(Q.alloc (.cells #[p] 3)).heap.size=Q.heap.size+1 by simp]at CL;have K9:=aA ((K7.o.trans (Kp.below k)).trans (Kp.below a));have d2:=aA ((c9.o.keep k).keep a);clear k a N I2;by_cases h3:dB P
  rotate_left
  .have R:=aA (lS CL.o h3);have D:=aA (λh=>h3 (F1.o (F2.o (F3.o h))));clear CL;go_wp2_with (first
    |(go_at_call 74;(with_reducible refine(fN _ _).mono ?_);rintro e w1 ⟨rfl,rfl⟩)
    |(go_at_call 75;(with_reducible refine R.o.mono ?_);rintro e we ⟨rfl,s⟩;have XE:=aA s;clear s))
   exact⟨rfl,.inr ⟨D.o,rfl,XE.o⟩⟩
  have R:=aA (lR CL.o h3);clear CL;go_upto_region 40 with(first
   |(go_at_call 74;(with_reducible refine(fN _ _).mono ?_);rintro e w1 ⟨rfl,rfl⟩)
   |(go_at_call 75;(with_reducible refine R.o.mono ?_);rintro e wa ⟨rfl,⟨va,d3⟩,d4,a3⟩;have GA:=aA d3;have XA:=aA d4;have KA:=aA (K9.o.trans a3);have a4:=aA (a3.box d2.o (by decide) (by decide));clear d3 d4 a3))
  clear G7 M K7 c9 d2 K9 R;obtain⟨c0,c1,c2⟩:=a4.o.three;obtain⟨q0,q1,q2⟩:=Z.o wa XA.o;by_cases h4:dB I
  rotate_left
  .have O:=aA (lS (C0.o wa va GA.o XA.o h3) h4);have D:=aA (λh=>h4 (F2.o (F3.o h)));go_wp2_with (go_at_call 28;(with_reducible refine O.o.mono ?_);rintro e wc ⟨rfl,t⟩;have S:=aA t;clear t)
   exact⟨rfl,.inr ⟨D.o,rfl,S.o⟩⟩
  have O:=aA (lR (C0.o wa va GA.o XA.o h3) h4);go_upto_region 41 with(go_at_call 28;(with_reducible refine O.o.mono ?_);rintro e wb ⟨rfl,⟨vb,d5⟩,d6,a5⟩;have GB:=aA d5;have XB:=aA d6;have KB:=aA (KA.o.trans a5);have d7:=aA (a5.box a4.o (by decide) (by decide));clear d5 d6 a5)
  clear c0 c1 c2 q0 q1 q2 GA XA KA a4 O;obtain⟨c0,c1,c2⟩:=d7.o.three;obtain⟨q0,q1,q2⟩:=a0.o wb XB.o;by_cases h5:dB g3
  rotate_left
  .have O:=aA (lS (C1.o wb vb GB.o XB.o h4) h5);have D:=aA (λh=>h5 (F3.o h));go_wp2_with (go_at_call 28;(with_reducible refine O.o.mono ?_);rintro e wc ⟨rfl,t⟩;have S:=aA t;clear t)
   exact⟨rfl,.inr ⟨D.o,rfl,S.o⟩⟩
  have O:=aA (lR (C1.o wb vb GB.o XB.o h4) h5);go_upto_region 42 with(go_at_call 28;(with_reducible refine O.o.mono ?_);rintro e wc ⟨rfl,⟨vc,e2⟩,t,e3⟩;have GC:=aA e2;have S:=aA t;have KC:=aA (KB.o.trans e3);clear e2 t e3)
  clear c0 c1 c2 q0 q1 q2 GB XB KB d7 O;have k:=aF wc (.cells #[.int .i64 ((m:Int)+1)] 3);have a:=aF (wc.alloc (.cells #[.int .i64 ((m:Int)+1)] 3)) (.cells #[q] 3);have N:=It w0 wc ((m:Int)+1);have I2:=It w0 (wc.alloc (.cells #[.int .i64 ((m:Int)+1)] 3)) q;have CL:=aA (rW 0 ((GC.o.keep k).keep a) ((S.o.trans (k.mono S.o.size)).trans (a.mono (S.o.trans (k.mono S.o.size)).size)) (N.1.keep a) I2.1 (N.2.same N.1 a.size (λb C _=>a.block b C)).1 I2.2 h5);rw[f1.o,show(wc.alloc (.cells #[.int .i64 ((m:Int)+1)] 3)).heap.size=wc.heap.size+1 by simp]at CL;have KD:=aA ((KC.o.trans (Kp.below k)).trans (Kp.below a));clear k a N I2;by_cases h6:dB g4
  .have R:=aA (lR CL.o h6);have f3:=aA h6;clear CL;go_wp2_with (first
    |(go_at_call 74;(with_reducible refine(fN _ _).mono ?_);rintro e w1 ⟨rfl,rfl⟩)
    |(go_at_call 75;(with_reducible refine R.o.mono ?_);rintro e we ⟨rfl,e4,s,e5⟩;have GE:=aA e4;have XE:=aA s;have KE:=aA (KD.o.trans e5);clear e4 s e5))
   exact eR (v:=.tuple #[]) (by simp[results,Tryz.results28,go_sem]) rfl (.inl ⟨f3.o,rfl,GE.o,XE.o,KE.o⟩)
  have R:=aA (lS CL.o h6);have D:=aA h6;clear CL;go_wp2_with (first
   |(go_at_call 74;(with_reducible refine(fN _ _).mono ?_);rintro e w1 ⟨rfl,rfl⟩)
   |(go_at_call 75;(with_reducible refine R.o.mono ?_);rintro e we ⟨rfl,s⟩;have XE:=aA s;clear s))
  exact⟨rfl,.inr ⟨D.o,rfl,XE.o⟩⟩
 .have P1:=aA (pI GW.o BX.o e9.o h1);have D:=aA (λh=>h1 (z8 (F0.o (F1.o (F2.o (F3.o h)))) (by omega)));go_wp2_with (go_at_call 76;(with_reducible refine P1.o.mono ?_);rintro e Q ⟨rfl,r⟩;have M:=aA r;clear r)
  exact⟨rfl,.inr ⟨D.o,rfl,M.o⟩⟩
def VW (N:eB)(w:World)(e:Ending)(w':World):Prop :=
 ∃A n c,e=.returned (.agg #[.int .i64 N.places,.slice A n c])/\eC w' A n c N.trans/\Below w.heap.size w w'
def DK (w0:World):World->(Nat->Value)->bG->Prop:=λ_ vs t=>GU w0 vs t
def DK.kept (w0:World):CU (DK w0):=λ_ _ _ _ _ h=>h
def aJ.of0 {w0 w:World}{B e:Nat}{v:Value}{n:Nat}{xs:List bG}(h:aJ (DK w0) 3 w B e v n xs)(f:Below w0 w0 w):aJ GU 3 w B e v n xs:=by
 obtain⟨c,g,d,j⟩:=h;exact⟨c,g,⟨d.1,λi x k=>by obtain⟨vs,a,b⟩:=d.2 i x k;exact⟨vs,a,GU.kept _ _ _ _ f b⟩⟩,j⟩
def cD.tran {w:World}{v0 v1 v2:Value}{t:bG}{R:World->(Nat->Value)->bG->Prop}(h:R w (λj=>[v0,v1,v2].getD j undef) t):cD R 3 w [v0,v1,v2] [t] :=
 cD.one h rfl (λj a=>by
  match j,a with
  | 0,_=>rfl
  | 1,_=>rfl
  | 2,_=>rfl)
def kT (w:World)(p q:Addr)(u v:Value)(h:q.block=p.block):w.grownBy ((w.setCell p u).setCell q v) (some p.block) :=
 ⟨rfl,rfl,rfl,by simp[World.setCell],λk _ b=>by
  have a:k≠p.block:=λe=>b (by rw[e])
  rw[Below.heap_setCell _ _ _ _ (by rw[h];exact a),Below.heap_setCell _ _ _ _ a]⟩
def Ab {ts:List bG}{k:Nat}{t:bG}(h:ts[k]?=some t):(ts.take (k+1)).map lN=(ts.take k).map lN++[lN t]:=by
 rw[bX h,fB];rfl
def Ac {w:World}{P:Int}{A:OAd}{n c:Nat}{ts:List bG}(h:eC w A n c ts)(hn:n<=2513169434916) :
  Calls Tryz.prog 109 #[.agg #[P,.slice A n c]] w (VW (lW ⟨P,ts⟩) w):=by
 have HB:=aA (aF w);have H:=aA h;have S:=aA h.len;clear h;go_enter Tryz.func109,Tryz.ntmps109
 go_wp2
 generalize a:(w.alloc (.cells #[P,.slice A n c] 41)).alloc (.cells #[(0:Int),()] 41)=w1;have r:Below w w w1:=by rw[<-a];exact((aH _ _).alloc (aB _) _).alloc (by simp) _
 have y:w1.cell? w=some (.int .i64 P):=by rw[<-a];simp
 have z:w1.cell? ⟨w.heap.size+1,0,none⟩=some (.int .i64 0):=by rw[<-a];simp
 have B:w1.cell? ⟨w.heap.size+1,1,none⟩=some (.slice none 0 0):=by rw[<-a];simp
 have D:w1.frozen? ⟨w.heap.size+1,0,none⟩=false:=by rw[<-a];simp
 have E:w1.frozen? ⟨w.heap.size+1,1,none⟩=false:=by rw[<-a];simp
 have b:w.heap.size+1<w1.heap.size:=by rw[<-a];simp
 have x:=aA r;clear a r;go_loopw [3,9] (λv i wr=>∃k:Nat,k<=n/\i=k/\aJ (DK w) 3 wr w1 74 v k ((ts.take k).map lN)/\Below w1 w1 wr) (λ_ i _=>n-(intOf i).toNat)
 case atStart=>exact⟨0,aL _,rfl,aJ.nil,aH _ _⟩
 case round =>
  obtain⟨k,hk,rfl,own,d⟩:=hrel;by_cases F:k<n
  .obtain⟨bl,g,t,A1,n1,c1,A2,n2,c2,rfl,l,T,L,M,N,O,Q,U,V⟩:=eC.get H.o F;have f:=x.o.trans (d.mono x.o.size);have W:=(f.cell (p:=⟨bl,g+k*3,none⟩) l).trans L;have X:=(f.cell (p:=⟨bl,g+k*3+1,none⟩) l).trans M;have Y:=(f.cell (p:=⟨bl,g+k*3+2,none⟩) l).trans N;have G:=aA (own.keep (DK.kept w) (aF wr (.cells #[.int .i64 t.label,.slice A1 n1 c1,.slice A2 n2 c2] 74)));have s:=aA (d.alloc d.size (.cells #[.int .i64 t.label,.slice A1 n1 c1,.slice A2 n2 c2] 74));have Z:=aA (show DK w wr (λj=>[Value.int .i64 t.label,.slice A2 n2 c2,.slice A1 n1 c1].getD j undef) (lN t)from⟨rfl,A2,n2,c2,A1,n1,c1,rfl,rfl,Q,O,V,U⟩);have m:=aA (Ab T.o);clear own d f L M N O Q;go_wp2_with (at_builtin;refine dW Ew rfl _ _ rfl [lN t] #[.int .i64 t.label,.slice A2 n2 c2,.slice A1 n1 c1] rfl rfl (by simp) rfl (by simp[Value.oneCell']) G.o (cD.tran Z.o) rfl s.o s.o.size (by omega) (by omega) (λ_ _ _ _ h=>h) ?_;intro v2 w2 u a0 I)
   go_roundw
   case rel=>exact⟨k+1,by omega,by go_num,by rw[m.o];exact u,I⟩
   simp[intOf];omega
  obtain rfl:k=n:=by omega
  have c0:=(d.cell (p:=⟨w,0,none⟩) (Nat.lt_of_succ_lt b)).trans y;have z0:=(d.cell (p:=⟨w.heap.size+1,0,none⟩) b).trans z;have z1:=(d.cell (p:=⟨w.heap.size+1,1,none⟩) b).trans B;have f0:=(d.frozen (p:=⟨w.heap.size+1,0,none⟩) b).trans D;have f1:=(d.frozen (p:=⟨w.heap.size+1,1,none⟩) b).trans E;have o:=aA (x.o.trans (d.mono x.o.size));have m:=aA (show(ts.take k).map lN=ts.map lN from by rw[aW (by rw[S.o];exact aB _)]);have G:=aA own;obtain⟨C,q,hv,hi⟩:=(own.of0 o.o).sl (by omega);subst hv;have J:=aA own.lt;clear own d hi;go_wp2
  have r0:((wr.setCell ⟨w.heap.size+1,0,none⟩ P).setCell ⟨w.heap.size+1,1,none⟩ (.slice C k q)).cell? ⟨w.heap.size+1,0,none⟩=some (.int .i64 P):=by
   rw[World.cell?_setCell_other _ _ _ _ (by simp),World.cell?_setCell_same _ _ _ z0]
  have r1:((wr.setCell ⟨w.heap.size+1,0,none⟩ P).setCell ⟨w.heap.size+1,1,none⟩ (.slice C k q)).cell? ⟨w.heap.size+1,1,none⟩=some (.slice C k q):=by
   rw[World.cell?_setCell_same _ _ _ ((World.cell?_setCell_other _ _ _ _ (by simp)).trans z1)]
  refine aU (v:=.agg #[P,.slice C k q]) (by simp[results,Tryz.results109,go_sem,r0,r1]) rfl ?_;refine⟨C,k,q,rfl, ?_, ?_⟩
  .have hg:=kT wr ⟨w.heap.size+1,0,none⟩ ⟨w.heap.size+1,1,none⟩ P (.slice C k q) rfl;have K:(Value.slice C k q).ownBlock≠some (w.heap.size+1):=λe=>by
    have:=(J.o _ e).1;omega
   have o2:=(G.o.kept hg (.inr K) (λ_ _ h=>h)).of0 ((o.o.setCell (by simp) _).setCell (by simp) _);obtain⟨C',c',e',R⟩:=o2.sl (by omega);injection e' with e1 e2 e3;subst e1 e3;rw[m.o]at R;exact R
  exact(o.o.setCell (by simp) _).setCell (by simp) _
def Yp (w:World)(x y z:Array Value)(a ty b:Nat) :
  (∀j,(((w.alloc (.cells x a)).alloc (.cells y ty)).alloc (.cells z b)).cell? ⟨w.heap.size,j,none⟩=x[j]?) /\
  (∀j,(((w.alloc (.cells x a)).alloc (.cells y ty)).alloc (.cells z b)).cell? ⟨w.heap.size+1,j,none⟩=y[j]?) /\
  (∀j,(((w.alloc (.cells x a)).alloc (.cells y ty)).alloc (.cells z b)).cell? ⟨w.heap.size+1+1,j,none⟩=z[j]?) /\
  (∀j,(((w.alloc (.cells x a)).alloc (.cells y ty)).alloc (.cells z b)).frozen? ⟨w.heap.size+1,j,none⟩=false) /\
  (∀j,(((w.alloc (.cells x a)).alloc (.cells y ty)).alloc (.cells z b)).frozen? ⟨w.heap.size+1+1,j,none⟩=false) /\
  (((w.alloc (.cells x a)).alloc (.cells y ty)).alloc (.cells z b)).heap.size=w.heap.size+3:=by
 have s1:(w.alloc (.cells x a)).heap.size=w.heap.size+1:=by simp
 have s2:((w.alloc (.cells x a)).alloc (.cells y ty)).heap.size=w.heap.size+1+1:=by simp
 have e:(((w.alloc (.cells x a)).alloc (.cells y ty)).alloc (.cells z b)).heap[w.heap.size]?=some (.cells x a (0,0)):=by
  rw[heap_alloc_old _ _ (by omega),heap_alloc_old _ _ (by omega)];exact iD w _
 have c:(((w.alloc (.cells x a)).alloc (.cells y ty)).alloc (.cells z b)).heap[w.heap.size+1]?=some (.cells y ty (0,0)):=by
  rw[heap_alloc_old _ _ (by omega),<-s1];exact iD _ _
 have d:(((w.alloc (.cells x a)).alloc (.cells y ty)).alloc (.cells z b)).heap[w.heap.size+1+1]?=some (.cells z b (0,0)):=by
  rw[<-s2];exact iD _ _
 exact⟨λj=>cell_of_row _ _ _ _ _ (0,0) e,λj=>cell_of_row _ _ _ _ _ (0,0) c,λj=>cell_of_row _ _ _ _ _ (0,0) d,λj=>frozen_of_row _ _ _ _ _ c,λj=>frozen_of_row _ _ _ _ _ d,by simp⟩
def gK {B a:Nat}{w:World}{v u:Value}{n:Nat}{xs:List bG}{j:Nat}(h:aJ (bT B) 3 w B 74 v n xs)(b:a<B):Hid (aJ (bT B) 3 (w.setCell ⟨a,j,none⟩ u) B 74 v n xs):=by
 have gr:w.grownBy (w.setCell ⟨a,j,none⟩ u) (some a):=⟨rfl,rfl,rfl,by simp[World.setCell],λk _ c=>Below.heap_setCell _ _ _ _ (λe=>c (by rw[e]))⟩;exact h.kept gr (.inr (λe=>by have:=(h.lt _ e).1;omega)) (λvs x d=>d.far gr b)
def Kw {B:Nat}{w1 a b c:World}{j:Nat}{u:Value}(d:Below B w1 a)(e:Below w1 b c)(f:Below a a b)(g:B<w1.heap.size):Hid (Below B w1 (c.setCell ⟨B,j,none⟩ u)) :=
 ((d.trans (f.mono (by have:=d.size;omega))).trans (e.mono (by omega))).setCell (by simp) _
def Ge {B:Nat}{w:World}{v:Value}{n:Nat}{xs:List bG}(h:aJ (bT B) 3 w B 74 v n xs):∀w',w.grownBy w' v.ownBlock->∀vs y,bT B w vs y->bT B w' vs y:=by
 obtain⟨a,b,_⟩:=h;exact λw' c vs y d=>d.grown b c
def Xa (N:eB)(w:World)(e:Ending)(w':World):Prop :=
 ∃A n c,e=.returned (.agg #[.int .i64 N.places,.slice A n c])/\aJ (bT w.heap.size) 3 w' w.heap.size 74 (.slice A n c) n N.trans/\Below w.heap.size w w'
def bT.base {B a:Nat}(b:a<=B){w:World}{vs:Nat->Value}{t:bG}(h:bT B w vs t):bT a w vs t:=by
 obtain⟨c,n1,n2,d,e,f⟩:=h;exact⟨c,n1,n2,d.base b,e.base b,f⟩
def yE {w:World}{P:Int}{A:OAd}{n c:Nat}{ts:List bG}(h:eC w A n c ts)(hn:n<=2513169434916) :
  Calls Tryz.prog 81 #[.agg #[P,.slice A n c]] w (Xa (lW ⟨P,ts⟩) w):=by
 have HB:=aA (aF w);have H:=aA h;have HL:=aA h.len;clear h;go_enter Tryz.func81,Tryz.ntmps81
 go_wp2
 generalize F:((w.alloc (.cells #[P,.slice A n c] 41)).alloc (.cells #[(0:Int),()] 41)).alloc (.cells #[P,()] 41)=w1;have R:Below w w w1:=by rw[<-F];exact(((aH _ _).alloc (aB _) _).alloc (by simp) _).alloc (by simp;omega) _
 obtain⟨f1,Y,Z,f4,f5,f6⟩:=Yp w #[P,.slice A n c] #[(0:Int),()] #[P,()] 41 41 41;rw[F]at f1 Y Z f4 f5 f6;have a0:w1.cell? ⟨w.heap.size+1,0,none⟩=some (.int .i64 0):=Y 0;have a1:w1.cell? ⟨w.heap.size+1,1,none⟩=some (.slice none 0 0):=Y 1;have a2:w1.frozen? ⟨w.heap.size+1,0,none⟩=false:=f4 0;have a3:w1.frozen? ⟨w.heap.size+1,1,none⟩=false:=f4 1;have a4:w1.cell? ⟨w.heap.size+1+1,0,none⟩=some (.int .i64 P):=Z 0;have a5:w1.cell? ⟨w.heap.size+1+1,1,none⟩=some (.slice none 0 0):=Z 1;have a6:w1.frozen? ⟨w.heap.size+1+1,1,none⟩=false:=f5 1;have S:w1.heap.size=w.heap.size+3:=f6;clear f1 Y Z f4 f5 f6;have a9:=aA S;have c6:w.heap.size+2<w1.heap.size:=by omega
 have B1:=aA R;clear F R S;go_loopg [12] n (λgk i wr=>∃(k:Nat) (q:OAd) (r:Nat),k+gk=n/\i=k/\wr.cell? ⟨w.heap.size+1+1,0,none⟩=some (.int .i64 P)/\wr.cell? ⟨w.heap.size+1+1,1,none⟩=some (.slice q k r)/\wr.frozen? ⟨w.heap.size+1+1,1,none⟩=false /\
  Hid (aJ (bT w1) 3 wr w1 74 (.slice q k r) k ((ts.take k).map lN))/\Hid (Below (w.heap.size+2) w1 wr)/\w1.heap.size<=wr.heap.size)
 case atStart=>exact⟨0,none,0,by omega,rfl,a4,a5,a6,aJ.nil,aH _ _,aB _⟩
 case round =>
  obtain⟨k,q,r,hk,rfl,u0,u1,uf,own,C,c7⟩:=hrel;by_cases b0:k<n
  rotate_left
  .obtain rfl:k=n:=by omega
   have G:=aA (show(ts.take k).map lN=(lW ⟨P,ts⟩).trans by rw[aW (by rw[HL.o];omega)];rfl);have d:=B1.o.trans (C.o.mono (by omega));have z0:=(C.o.cell (p:=⟨w.heap.size+1,0,none⟩) (by show w.heap.size+1<w.heap.size+2;omega)).trans a0;have z1:=(C.o.cell (p:=⟨w.heap.size+1,1,none⟩) (by show w.heap.size+1<w.heap.size+2;omega)).trans a1;have c8:=(C.o.frozen (p:=⟨w.heap.size+1,0,none⟩) (by show w.heap.size+1<w.heap.size+2;omega)).trans a2;have c9:=(C.o.frozen (p:=⟨w.heap.size+1,1,none⟩) (by show w.heap.size+1<w.heap.size+2;omega)).trans a3;have b1:=aA d;have OW:=aA own.o;have SW:=aA a9.o;clear own C d;go_wp2
   have r0:((wr.setCell ⟨w.heap.size+1,0,none⟩ P).setCell ⟨w.heap.size+1,1,none⟩ (.slice q k r)).cell? ⟨w.heap.size+1,0,none⟩=some (.int .i64 P):=by
    rw[World.cell?_setCell_other _ _ _ _ (by simp),World.cell?_setCell_same _ _ _ z0]
   have r1:((wr.setCell ⟨w.heap.size+1,0,none⟩ P).setCell ⟨w.heap.size+1,1,none⟩ (.slice q k r)).cell? ⟨w.heap.size+1,1,none⟩=some (.slice q k r):=by
    rw[World.cell?_setCell_same _ _ _ ((World.cell?_setCell_other _ _ _ _ (by simp)).trans z1)]
   refine aU (v:=.agg #[P,.slice q k r]) (by simp[results,Tryz.results81,go_sem,r0,r1]) rfl ?_;refine⟨q,k,r,rfl, ?_,(b1.o.setCell (by simp) _).setCell (by simp) _⟩;have s1:=(gK (j:=0) (u:=P) OW.o (show w.heap.size+1<w1.heap.size by have:=SW.o;omega)).o;have s2:=(gK (j:=1) (u:=.slice q k r) s1 (show w.heap.size+1<w1.heap.size by have:=SW.o;omega)).o;rw[G.o]at s2;obtain⟨I,q1,T,q3⟩:=s2.base (show w.heap.size<=w1.heap.size by have:=SW.o;omega);exact⟨I,q1,⟨T.1,λi x hx=>by obtain⟨vs,a,b⟩:=T.2 i x hx;exact⟨vs,a,b.base (by have:=SW.o;omega)⟩⟩,q3⟩
  obtain⟨bl,J,t,A1,n1,c1,A2,n2,c2,rfl,L,ht,q0,q1,T,i1,i2,m1,m2⟩:=eC.get H.o b0;have d:=B1.o.trans (C.o.mono (by omega));have d0:=(d.cell (p:=⟨bl,J+k*3,none⟩) L).trans q0;have d1:=(d.cell (p:=⟨bl,J+k*3+1,none⟩) L).trans q1;have d2:=(d.cell (p:=⟨bl,J+k*3+2,none⟩) L).trans T;have I1:=aA (i1.keep d);have I2:=aA (i2.keep d);have G:=aA (Ab ht.o);clear d q0 q1 T i1 i2;go_upto_region 5 with fail
  generalize m:wr.alloc (.cells #[.int .i64 t.label,.slice A1 n1 c1,.slice A2 n2 c2] 74)=l;have s:Below wr wr l:=by rw[<-m];exact aF _ _
  have x0:l.cell? wr=some (.int .i64 t.label):=by rw[<-m];simp
  have x1:l.cell? ⟨wr,1,none⟩=some (.slice A1 n1 c1):=by rw[<-m];simp
  have x2:l.cell? ⟨wr,2,none⟩=some (.slice A2 n2 c2):=by rw[<-m];simp
  have y:wr.heap.size<l.heap.size:=by rw[<-m];simp
  have y1:l.cell? ⟨w.heap.size+1+1,1,none⟩=some (.slice q k r):=(s.cell (p:=⟨w.heap.size+1+1,1,none⟩) (by show w.heap.size+1+1<wr.heap.size;omega)).trans u1;have y0:l.cell? ⟨w.heap.size+1+1,0,none⟩=some (.int .i64 P):=(s.cell (p:=⟨w.heap.size+1+1,0,none⟩) (by show w.heap.size+1+1<wr.heap.size;omega)).trans u0;have yf:l.frozen? ⟨w.heap.size+1+1,1,none⟩=false:=(s.frozen (p:=⟨w.heap.size+1+1,1,none⟩) (by show w.heap.size+1+1<wr.heap.size;omega)).trans uf;have D0:=aA (s.trans ((aH _ _).drew:Below wr l l.drew));have D1:=aA ((aH _ _).drew:Below l l l.drew);have J1:=aA (I1.o.keep D0.o);have J2:=aA (I2.o.keep D0.o);have b2:=aA (own.o.keep (bT.kept _) D0.o);have z:w.heap.size+1+1<l.heap.size:=by omega
  have sb:w1.heap.size<=l.heap.size:=by omega
  have b5:=aA (C.o.trans (D0.o.mono (by omega)));have Y0:=aA y0;have M:=aA (show w.heap.size+1+1<w1.heap.size by omega);have YF:=aA yf;clear m s u0 u1 uf own C y0 yf;refine gZ 12 [(0,0),(0,1),(0,2),(0,3),(0,4),(0,5),(0,7),(0,8),(1,6),(1,9),(0,10),(1,11),(2,12),(2,13),(2,14)] (λw'=>w'.cell? wr=some (.int .i64 t.label)/\w'.cell? ⟨wr,1,none⟩=some (.slice A1 n1 c1)/\w'.cell? ⟨wr,2,none⟩=some (.slice A2 n2 c2)/\w'.cell? ⟨w.heap.size+1+1,1,none⟩=some (.slice q k r)) (by kernel_rfl) (by kernel_rfl) (by kernel_rfl) (λ_ _ _ _ _ h=>h) ⟨x0,x1,x2,y1⟩ (λo=>?_);refine nG (v:=?_) rfl (by rfl) o (λw' f=>?_) ?_
  rotate_left
  ·(go_simp;try with_reducible rfl)
  simp only[aC];refine nG (v:=?_) rfl (by rfl) o (λw' f=>?_) ?_
  rotate_left
  ·(go_simp;try with_reducible rfl)
  simp only[aC];refine nG (v:=?_) rfl (by rfl) o (λw' f=>?_) ?_
  rotate_left
  ·(go_simp;try with_reducible rfl)
  simp only[aC];refine nG (v:=?_) rfl (by rfl) o (λw' f=>?_) ?_
  rotate_left
  ·(go_simp;try with_reducible rfl)
  simp only[aC];refine nG (v:=?_) rfl (by rfl) o (λw' f=>?_) ?_
  rotate_left
  ·(go_simp;try with_reducible rfl)
  simp only[aC];refine nG (v:=?_) rfl (by rfl) o (λw' f=>?_) ?_
  rotate_left
  ·(go_simp;try with_reducible rfl)
  simp only[aC];refine nG (v:=?_) rfl (by rfl) o (λw' f=>?_) ?_
  rotate_left
  ·(go_simp;try with_reducible rfl)
  simp only[aC];refine nG (v:=?_) rfl (by rfl) o (λw' f=>?_) ?_
  rotate_left
  ·(go_simp;try with_reducible rfl)
  simp only[aC];refine Oc rfl (λK hK=>?_);go_simp;go_at_call 133
  (with_reducible refine(eY J2.o m2).mono ?_)
  rintro e w3 ⟨v3,rfl,o3,D⟩;obtain⟨C3,k3,b6,_⟩:=o3.sl (by omega);subst b6;have p0:=(D.cell (p:=⟨wr,0,none⟩) y).trans x0;have p1:=(D.cell (p:=⟨wr,1,none⟩) y).trans x1;have p3:=(D.cell (p:=⟨wr,2,none⟩) y).trans x2;have p2:=(D.cell (p:=⟨w.heap.size+1+1,1,none⟩) z).trans y1;have O3:=aA o3;have E3:=aA D;have K1:=aA (J1.o.keep D);have N:=bD y D.size;have U:=bD z D.size;clear D o3;refine hK.out _ _ ⟨p0,p1,p3,p2⟩ (λo=>?_);clear hK;refine Oc rfl (λK hK=>?_);go_simp;go_at_call 133
  (with_reducible refine(eY K1.o m1).mono ?_)
  rintro e w4 ⟨v4,rfl,o4,O⟩;obtain⟨C4,k4,b7,_⟩:=o4.sl (by omega);subst b7;have r0:=(O.cell (p:=⟨wr,0,none⟩) N).trans p0;have r1:=(O.cell (p:=⟨wr,1,none⟩) N).trans p1;have r3:=(O.cell (p:=⟨wr,2,none⟩) N).trans p3;have r2:=(O.cell (p:=⟨w.heap.size+1+1,1,none⟩) U).trans p2;have Q:=aA (E3.o.trans (O.mono E3.o.size));have s0:=(Q.o.cell (p:=⟨w.heap.size+1+1,0,none⟩) z).trans Y0.o;have sf:=(Q.o.frozen (p:=⟨w.heap.size+1+1,1,none⟩) z).trans YF.o;have V:=aA (b2.o.keep (bT.kept _) Q.o);have W:=aA (aT sb Q.o.size);have d3:=bD z Q.o.size;have d4:=bD y Q.o.size;have b9:=aA (Ge V.o);have c0:=aA (show bT w1 w4 (λj=>[Value.int .i64 t.label,.slice C3 n2 k3,.slice C4 n1 k4].getD j undef) (lN t)from⟨rfl,n2,n1,(O3.o.keep fG.kept O).base sb,o4.base (aT sb E3.o.size),m2,m1⟩);clear O o4;refine hK.out _ _ ⟨r0,r1,r3,r2⟩ (λo=>?_);clear hK;refine nG (v:=?_) rfl (by rfl) o (λw' f=>?_) ?_
  rotate_left
  ·(go_simp;try with_reducible rfl)
  simp only[aC];refine Oc rfl (λK hK=>?_);go_simp
  refine hK.out _ _ (by simp[*,World.cell?_alloc_some]) (λo=>?_);clear hK;refine x5 rfl (λK hK=>?_);refine tQ Ew rfl (.tmp 17) (.tmp 27) rfl [lN t] #[.int .i64 t.label,.slice C3 n2 k3,.slice C4 n1 k4] rfl rfl (by first|rfl|simp) rfl rfl (by omega) (by simp[Value.oneCell']) V.o (cD.tran c0.o) rfl (aH w1 w4) W.o (by omega) (by omega) b9.o ?_;intro g cap w5 E c5 B d5 d6;have t0:=(B.cell (p:=⟨w.heap.size+1+1,0,none⟩) M.o).trans s0;have t1:=(B.cell (p:=⟨w.heap.size+1+1,1,none⟩) M.o).trans r2;have t2:=(B.frozen (p:=⟨w.heap.size+1+1,1,none⟩) M.o).trans sf;have O5:=aA E;have X:=aA B;clear E c5 B;refine hK.out _ _ ?_;clear hK;simp only[aC];refine x5 rfl (λK hK=>?_);go_simp
  refine hK.out _ _ ?_;clear hK;refine x5 rfl (λK hK=>?_);go_simp
  refine hK.out _ _ ?_;clear hK;simp only[gB]
  all_goals
   go_wp2
   go_roundg (gk-1)
   case measure=>omega
   case rel =>
    refine⟨k+1,some ⟨g,0,none⟩,cap,by omega, ?_, ?_, ?_, ?_,by rw[G.o];exact gK O5.o (by omega),Kw b5.o X.o Q.o (by omega),by have:=X.o.size;have:=W.o;simp[World.setCell];omega⟩
    .simp
    .exact(World.cell?_setCell_other _ _ _ _ (by simp)).trans t0
    .exact World.cell?_setCell_same _ _ _ t1
    rw[World.frozen?_setCell];exact t2
def rX {w:World}{P:Int}{A:OAd}{n c:Nat}{ts:List bG}(h:eC w A n c ts)(a:n<=2513169434916) :
  Calls Tryz.prog 81 #[.agg #[P,.slice A n c]] w (VW (lW ⟨P,ts⟩) w):=by
 refine(yE h a).mono ?_;rintro e w' ⟨m,b,o,rfl,own,d⟩;have f:b<=2513169434916:=by
  have g:=own.len;have p:=h.len;simp only[lW,dQ]at g;omega
 obtain⟨C,q,i,j⟩:=own.sl (by omega);injection i with k r l;subst k l;exact⟨_,_,_,rfl,j.imp λ_ _ h=>h.tran,d⟩
def Po {w:World}{B:Nat}{v:Value}{n m c:Nat}{A:OAd}{xs ys:LIn}(ty:TypeId)(own:aI w B v n xs)(src:aY w A m c ys)(h:B<=w.heap.size)(k:n+m<=17592186044416) :
  ∃v' w',(Builtin.append_ #[24,24] ty #[v,.slice A m c]).run Tryz.prog w=.ok v' w'/\aI w' B v' (n+m) (xs++ys)/\w.grownBy w' v.ownBlock/\(v'.ownBlock=v.ownBlock∨v'.ownBlock=some w):=by
 obtain⟨i,z,b,l,o,p,q⟩:=iO.info;cases hA:A with
 | none =>
  subst hA;have r:=src.nul rfl;have s:m=0:=by have:=src.le;omega
  subst r s;have t:=dS src.len;subst t;refine⟨v,w,run_append_owned_none (P:=Tryz.prog) (w:=w) B 24 ty 3 i 1 iO.und b v n _ own.row,by simpa using own,gU _ _,.inl rfl⟩
 | some d =>
  subst hA;obtain⟨ds,u,H,y,C,f⟩:=Sl.flat fG.good src;obtain⟨v',w',D,g,E,_,F⟩:=run_append_own_at (P:=Tryz.prog) w B 24 ty 3 i z 1 8 iO.und b l o p q iO.pos v n (xs.map (Value.int .i64)) own.row d m c ds (by simpa using u) (y d rfl) C (by simp only[maxLen];omega) (by omega) h;have G:ds=ys.map (Value.int .i64):=by
   apply iE
   intro j;cases hx:ys[j]? with
   | none =>
    rw[dF,hx,dC (by have:=f.1;have:=List.getElem?_eq_none_iff.1 hx;omega)];rfl
   | some x =>
    obtain⟨vs,a,e⟩:=f.2 j x hx;have:=a 0 (by omega);simp only[j8,eP]at this;rw[this,dF,hx,e];rfl
  rw[G,<-fB]at g;exact⟨v',w',D,aI.of_row g,E,F⟩
def Ix {o:Oper} {a:Act} {K:Act->World->Prop} {Q:Exit->Act->World->Prop} (s x:Operand)
  (i:o.op=.call {callee:=.builtin .append,args:=#[s,x],argTypes:=#[24,24]})
  {w0 w:World} {B d:Nat} {v:Value} {n m c:Nat} {A:OAd} {xs ys:LIn} (j:a.eval s=v) (l:a.eval x=.slice A m c) (own:aI w B v n xs) (src:aY w A m c ys) (f:B<=w.heap.size) (e:n+m<=17592186044416)
  (p:Below d w0 w) (b:d<=B)
  (hK:∀v' w',aI w' B v' (n+m) (xs++ys)->w.grownBy w' v.ownBlock->Below d w0 w'->(v'.ownBlock=v.ownBlock∨v'.ownBlock=some w)->K (a.put o.dst v') w'):o.wp Tryz.prog a w K Q:=by
 obtain⟨v',w',q,r,g,t⟩:=Po o.type own src f e;have h:=hK v' w' r g (p.grown g (aT b f) (λk u=>aT b (own.lt k u).1)) t;unfold Oper.wp execOp;simp only[i,resolve,invoke,builtin,Sem.run_bind,Sem.run_pure,Result.andThen_ok,List.map_toArray,kZ,lA,j,l,q];exact h
def mG {ops:Array Oper} {rest:List Oper} {o:Oper} {a:Act} {Q:Exit->Act->World->Prop} (b:o.guard=none) (s x:Operand)
  (h:o.op=.call {callee:=.builtin .append,args:=#[s,x],argTypes:=#[24,24]})
  {w0 w:World} {B d:Nat} {v:Value} {n m c:Nat} {A:OAd} {xs ys:LIn} (i:a.eval s=v) (j:a.eval x=.slice A m c) (own:aI w B v n xs) (src:aY w A m c ys) (k:B<=w.heap.size) (e:n+m<=17592186044416)
  (l:Below d w0 w) (f:d<=B)
  (hK:∀v' w',aI w' B v' (n+m) (xs++ys)->w.grownBy w' v.ownBlock->Below d w0 w'->(v'.ownBlock=v.ownBlock∨v'.ownBlock=some w)->wpList Tryz.prog ops Q rest (a.put o.dst v') w'):wpList Tryz.prog ops Q (o::rest) a w :=
 wpList_plain b λ_ g=>Ix s x h i j own src k e l f λv' w' p q r t=>g _ _ (hK v' w' p q r t)
def kU {ops:Array Oper} {o:Oper} {a:Act} {K:Act->World->Prop} {Q:Exit->Act->World->Prop} {E:Prop} (b:o.guard=none) (s x:Operand)
  (g:o.op=.call {callee:=.builtin .append,args:=#[s,x],argTypes:=#[24,24]})
  {w0 w:World} {B d:Nat} {v:Value} {n m c:Nat} {A:OAd} {xs ys:LIn} (h:a.eval s=v) (i:a.eval x=.slice A m c) (own:aI w B v n xs) (src:aY w A m c ys) (j:B<=w.heap.size) (e:n+m<=17592186044416)
  (k:Below d w0 w) (f:d<=B)
  (hK:∀v' w',aI w' B v' (n+m) (xs++ys)->w.grownBy w' v.ownBlock->Below d w0 w'->(v'.ownBlock=v.ownBlock∨v'.ownBlock=some w)->K (a.put o.dst v') w') :
  if Region.wanted o (yielded ops a.tmps)=true then Oper.wp Tryz.prog o a w K Q else E:=by
 rw[aG (by simp[Region.wanted,b])];exact Ix s x g h i own src j e k f hK
def t6 (u v:Value):Prop:=u.ownBlock=none∨u.ownBlock≠v.ownBlock
def Ro {a n i:Nat}(h:i<n):(AY a n)[i]?=some (((a+2*i:Nat)):Int):=by simp[AY,h]
def Np {a n i:Nat}(h:i<n):(pF a n)[i]?=some (((a+2*i+1:Nat)):Int):=by simp[pF,h]
def wQ {w w':World}(a:Below w w w'):w.grownBy w' none:=⟨a.os,a.tape,a.output,a.size,λk b _=>a.block k b⟩
def t6.other {u v:Value}(h:t6 u v):v.ownBlock=none∨v.ownBlock≠u.ownBlock:=by
 rcases h with h|h
 .cases hv:v.ownBlock with
  | none=>exact .inl rfl
  | some k=>exact .inr (by rw[h];simp)
 exact .inr (λe=>h e.symm)
def Kp.jump {w u w':World}{bg:Nat}{cs:Array Value}(h:Kp w u)(c:u.grownBy w' (some bg))(d:Box u bg 68 cs):Kp w w':=h.trans ⟨c.size,λb f ty i _ g a=>c.block b (f8.1 a).1 (λe=>by
 injection e with e;subst e;unfold Box at d;rw[d]at a;injection a with a;injection a with _ a;exact g a.symm)⟩
def Gf {u a b:World}{bg i j B:Nat}{c vo d:Value}{xs ys:LIn}{cs:Array Value}(o:B=u.heap.size)(p:bg<u.heap.size)(l:aI a B c i xs)(m:aI a B vo j ys)(n:t6 c vo)(q:u.grownBy a (some bg))(r:Box a bg 68 cs)(f:a.grownBy b c.ownBlock)(g:d.ownBlock=c.ownBlock∨d.ownBlock=some a) :
  aI b B vo j ys/\t6 d vo/\u.grownBy b (some bg)/\Box b bg 68 cs:=by
 subst o;refine⟨aJ.kept m f n.other (λ_ _ h=>h), ?_,q.andThen f (λk s=>.inl (aJ.lt l k s).1),r.grown f (λe=>by have:=(aJ.lt l bg e).1;omega)⟩;rcases g with h|h
 .unfold t6;rw[h];exact n
 .refine .inr (λe=>?_);rw[h]at e;have:=(aJ.lt m _ e.symm).2;omega
def Rq {w0:World}{bg f d had:Nat}(e3:Iu w0 bg f){lb:Int}{A:OAd}{n c:Nat}{ks:List bH}{p q:Int}{v:Value}{g:KSt}{w:World}(hc:(bY (f+1) (.mk 5 lb ks) had).2=0)(hK:pQ d w0 A n c ks)(hG:GrW w0 bg w v g)(hB:Below w0 w0 w)(hf:dB g) :
  Calls Tryz.prog 28 #[.pointer bg,.agg #[(5:Int),lb,.slice A n c],p,q] w (mS w0 bg w (kbB (f+1) (.mk 5 lb ks) p q g)):=by
 have l3:∀(args:Array Value) (w:World),Sem.run Tryz.prog (callFunc 74 args) w=.ok (.enter 74 args) w:=λargs w=>by kernel_rfl
 obtain⟨_,_,h',_,t⟩:=iK hc;replace t:ks.foldl (bU (bY f)) (had+1,0)=(h',0):=t
 have IH:=aA e3;have FO:=aA t;obtain⟨G,b7⟩:=aK (g.places);obtain⟨F,hF⟩:∃F:KSt->bH×Nat->KSt,F=zY (kbB f) G:=⟨_,rfl⟩;obtain⟨M,a4⟩:=aK (lnk (more g (2*n)) 0 [p] (AY G n));obtain⟨g5,C⟩:=aK (lnk (ks.zipIdx.foldl F M) 0 (pF G n) [q]);have i1:=aA hF;have b9:=hK.len;have HR:=aA (show kbB (f+1) (.mk 5 lb ks) p q g=g5 by rw[Yk,b9,b7,a4,<-hF,C]);have TG:=aA (λ(i hd:Nat) (o:(ks.take i).foldl (bU (bY f)) (had+1,0)=(hd,0))=>show Gr ((ks.take i).zipIdx.foldl F M) (ks.zipIdx.foldl F M) (h'-hd)from by
  rw[hF];exact wI (λs=>s) _ Ib o t)
 rw[HR.o];have F5:=aA (show dB g5->dB (ks.zipIdx.foldl F M)from λh=>yR (by rw[C];exact h));have F1:=aA (show dB g5->dB M from λh=>(TG.o 0 (had+1) rfl).fits (F5.o h));have F0:=aA (show dB M->dB (more g (2*n))from λh=>yR (by rw[a4];exact h));have bb:=aF w (.cells #[(5:Int),lb,.slice A n c] 35);have BB:=aA (Box.new w #[(5:Int),lb,.slice A n c] 35);have O:=aA (hG.keep bb);have x:=aA (hB.trans (bb.mono hB.size));have KW:=aA (Kp.below bb);have HL:=aA b9;have l8:=hK.small;have K:=aA hK;have i2:=aA hf;have i3:=aA a4;have i4:=aA C;have e4:=aA b7;have e5:2*n<=16∨¬dB (more g (2*n)):=by
  by_cases h:2*n<=16
  .exact .inl h
  exact .inr λhh=>h (by have:=hh.1;simp only[more]at this;omega)
 clear hG hB bb hK hc e3 t hF hf b9 a4 C b7;go_enter Tryz.func28,Tryz.ntmps28
 go_upto_region 1 with fail
 generalize w.alloc (.cells #[(5:Int),lb,.slice A n c] 35)=u at *
 obtain⟨b0,b1,b2⟩:=BB.o.three;have E:=aA O.o.lt;have e6:=aA (show Box u bg 68 #[.int .i64 ((g.places+0:Nat):Int),v]from O.o.box);have e7:=aA (show dB (more g 0)from i2.o);go_wp2
 clear b0 b1 b2;have r:=aA (λ(wr:World) (hg:u.grownBy wr (some bg))=>show Below w0 w0 wr from x.o.grown hg x.o.size (λk hk=>by cases hk;exact O.o.lo));have b4:=aA (λ(wr:World) (hg:u.grownBy wr (some bg))=>KW.o.jump hg O.o.box);have b5:=aA (λ(wr:World) (hg:u.grownBy wr (some bg))=>show Box wr w 35 #[(5:Int),lb,.slice A n c]from BB.o.grown hg (λe=>by
  injection e with e;have o:=O.o.box;have h2:=BB.o;rw[e]at o;unfold Box at o h2;rw[h2]at o;injection o with o;injection o with _ o;exact absurd o (by decide)))
 have c5:=aA x.o.size;clear x KW BB;go_loopw [15,16,95] (λvi vo iv wr=>∃(i:Nat),i<=n/\iv=i/\Hid (aI wr u vi i (AY G i))/\Hid (aI wr u vo i (pF G i))/\Hid (t6 vi vo)/\Hid (u.grownBy wr (some bg))/\Hid (Box wr bg 68 #[.int .i64 ((g.places+2*i:Nat):Int),v])/\Hid (dB (more g (2*i)))) (λ_ _ iv _=>n-(intOf iv).toNat)
 case atStart=>exact⟨0,aL _,rfl,aJ.nil,aJ.nil,.inl rfl,gU _ _,e6,e7⟩
 case round =>
  clear e6 e7;obtain⟨i,hi,rfl,OI,OO,DV,GB,XB,MF⟩:=hrel;by_cases P:i<n
  .have c6:(i:Int)<(n:Int):=by omega
   have G1:=aA (O.o.far GB.o XB.o);have x:=aA (r.o wr GB.o);obtain⟨X,hX⟩:∃X:Int,((G+2*i:Nat):Int)=X:=⟨_,rfl⟩;obtain⟨Y,hY⟩:∃Y:Int,((G+2*i+1:Nat):Int)=Y:=⟨_,rfl⟩;have IS:=aA (Ia G i);have OS:=aA (Dt G i);rw[hX]at IS;rw[hY]at OS;have c7:i+1<=17592186044416:=by
    have:=MF.o.1;simp only[more]at this;omega
   by_cases o:dB (more g (2*i+1))
   rotate_left
   .have P1:=aA (pI G1.o x.o MF.o o);have NF:=aA (λh=>o (z8 (F0.o (F1.o h)) (by omega)));go_wp2_with (go_at_call 76;(with_reducible refine P1.o.mono ?_);rintro e w7 ⟨rfl,e8⟩;have X7:=aA e8;clear e8)
    exact⟨rfl,.inr ⟨NF.o,rfl,X7.o⟩⟩
   have P1:=aA (pH G1.o x.o o);rw[show(more g (2*i)).places=G+2*i by simp only[more,e4.o],hX]at P1;by_cases h2:dB (more g (2*i+2))
   .have P2:=aA (λ(U:World) (C:u.grownBy U (some bg)) (c8:Box U bg 68 #[.int .i64 ((g.places+(2*i+1):Nat):Int),v])=>show Calls Tryz.prog _ _ U (λe w'=>e=.returned Y/\GrW w0 bg w' v (more g (2*i+2))/\Below w0 w0 w'/\Kp U w'/\U.grownBy w' (some bg))from by
     have:=pH (O.o.far C c8) (r.o U C) h2;rw[show(more g (2*i+1)).places=G+2*i+1 by simp only[more,e4.o];omega,hY]at this;exact this)
    clear hX hY c6 G1 x;have c6:(i:Int)<(n:Int):=by omega
    go_wp2_with (first
     |(at_builtin;refine mG rfl _ _ rfl rfl rfl e9.o i9.o (aT c9.o.size (aB _)) c7 (r.o _ c9.o) c5.o ?_;intro l9 m0 V b6 f0 W;obtain⟨q1,q2,q3,q4⟩:=Gf rfl E.o e9.o j0.o f1.o.other c9.o j1.o b6 W;have f2:=aA V;have f3:=aA q1;have f4:=aA (t6.other q2);have f5:=aA q3;have f6:=aA q4;clear V b6 f0 W q1 q2 q3 q4)
     |(at_builtin;refine mG rfl _ _ rfl rfl rfl Z.o d0.o Q.o.size c7 (r.o _ Q.o) c5.o ?_;intro v8 w8 H a0 d1 I;obtain⟨q1,q2,q3,q4⟩:=Gf rfl E.o Z.o d2.o DV.o Q.o d3.o a0 I;have d4:=aA H;have d5:=aA q1;have f1:=aA q2;have a5:=aA q3;have d6:=aA q4;clear H a0 d1 I q1 q2 q3 q4)
     |(go_at_call 76;(with_reducible refine(P2.o _ a5.o d6.o).mono ?_);rintro e w9 ⟨rfl,g0,_,_,S⟩;have a1:=aF w9 (.cells #[Y] 3);have c9:=aA ((a5.o.andThen S (λj T=>.inr T)).andThen (wQ a1) (λj T=>by cases T));have j1:=aA (show Box (w9.alloc (.cells #[Y] 3)) bg 68 #[.int .i64 ((g.places+(2*i+2):Nat):Int),v]from g0.box.keep a1);have j0:=aA (aJ.keep fG.kept (aJ.kept d4.o S (.inr (λe=>by have:=(aJ.lt d4.o _ e).1;have:=E.o;omega)) (λ_ _ h=>h)) a1);have e9:=aA (aJ.keep fG.kept (aJ.kept d5.o S (.inr (λe=>by have:=(aJ.lt d5.o _ e).1;have:=E.o;omega)) (λ_ _ h=>h)) a1);have i9:=aA (It w0 w9 Y).1;clear a1 g0 S)
     |(go_at_call 76;(with_reducible refine P1.o.mono ?_);rintro e w6 ⟨rfl,a2,_,_,m⟩;have y:=aF w6 (.cells #[X] 3);have Q:=aA ((GB.o.andThen m (λj T=>.inr T)).andThen (wQ y) (λj T=>by cases T));have d3:=aA (show Box (w6.alloc (.cells #[X] 3)) bg 68 #[.int .i64 ((g.places+(2*i+1):Nat):Int),v]from a2.box.keep y);have Z:=aA (aJ.keep fG.kept (aJ.kept OI.o m (.inr (λe=>by have:=(aJ.lt OI.o _ e).1;have:=E.o;omega)) (λ_ _ h=>h)) y);have d2:=aA (aJ.keep fG.kept (aJ.kept OO.o m (.inr (λe=>by have:=(aJ.lt OO.o _ e).1;have:=E.o;omega)) (λ_ _ h=>h)) y);have d0:=aA (It w0 w6 X).1;clear y a2 m))
    go_roundw
    case rel=>exact⟨i+1,by omega,by go_num,aA (by rw[IS.o];exact f3.o),aA (by rw[OS.o];exact f2.o),f4,f5,f6,aA h2⟩
    simp[intOf];omega
   have P2:=aA (λ(U:World) (C:u.grownBy U (some bg)) (c8:Box U bg 68 #[.int .i64 ((g.places+(2*i+1):Nat):Int),v])=>show Calls Tryz.prog _ _ U (Rm w0)from pI (O.o.far C c8) (r.o U C) o h2);have NF:=aA (λh=>h2 (z8 (F0.o (F1.o h)) (by omega)));clear hX hY G1 x;go_wp2_with (first
    |(at_builtin;refine mG rfl _ _ rfl rfl rfl Z.o d0.o Q.o.size c7 (r.o _ Q.o) c5.o ?_;intro v8 w8 H a0 d1 I;obtain⟨q1,q2,q3,q4⟩:=Gf rfl E.o Z.o d2.o DV.o Q.o d3.o a0 I;have d4:=aA H;have d5:=aA q1;have f1:=aA q2;have a5:=aA q3;have d6:=aA q4;clear H a0 d1 I q1 q2 q3 q4)
    |(go_at_call 76;(with_reducible refine(P2.o _ a5.o d6.o).mono ?_);rintro e w9 ⟨rfl,g2⟩;have X9:=aA g2;clear g2)
    |(go_at_call 76;(with_reducible refine P1.o.mono ?_);rintro e w6 ⟨rfl,a2,_,_,m⟩;have y:=aF w6 (.cells #[X] 3);have Q:=aA ((GB.o.andThen m (λj T=>.inr T)).andThen (wQ y) (λj T=>by cases T));have d3:=aA (show Box (w6.alloc (.cells #[X] 3)) bg 68 #[.int .i64 ((g.places+(2*i+1):Nat):Int),v]from a2.box.keep y);have Z:=aA (aJ.keep fG.kept (aJ.kept OI.o m (.inr (λe=>by have:=(aJ.lt OI.o _ e).1;have:=E.o;omega)) (λ_ _ h=>h)) y);have d2:=aA (aJ.keep fG.kept (aJ.kept OO.o m (.inr (λe=>by have:=(aJ.lt OO.o _ e).1;have:=E.o;omega)) (λ_ _ h=>h)) y);have d0:=aA (It w0 w6 X).1;clear y a2 m))
   exact⟨rfl,.inr ⟨NF.o,rfl,X9.o⟩⟩
  obtain rfl:i=n:=by omega
  have G1:=aA (O.o.far GB.o XB.o);have x:=aA (r.o wr GB.o);have KW:=aA (b4.o wr GB.o);have BB:=aA (b5.o wr GB.o);have l4:i<=16:=by
   have:=MF.o.1;simp only[more]at this;omega
  obtain⟨Ai,ci,rfl,ii⟩:=aJ.sl OI.o (by omega);obtain⟨Ao,co,rfl,io⟩:=aJ.sl OO.o (by omega);have fi:=jY.own (N:=w0.heap.size) OI.o;have fo:=jY.own (N:=w0.heap.size) OO.o;have a:=aF wr (.cells #[p] 3);have I1:=It w0 wr p;have II:=aA (fi.same ii a.size (λb hb _=>a.block b hb));have I_:=aA (fo.same io a.size (λb hb _=>a.block b hb));have CL:=aA (rW 0 (G1.o.keep a) (x.o.trans (a.mono x.o.size)) I1.1 II.o.2 I1.2 II.o.1 MF.o);rw[i3.o]at CL;have X1:=aA (x.o.trans (a.mono x.o.size));have K1:=aA (KW.o.trans (Kp.below a));have B1:=aA (BB.o.keep a);obtain⟨c0,c1,c2⟩:=BB.o.three;clear OI OO DV GB XB G1 x KW BB ii io fi fo a I1 r b4 b5 P e5;by_cases o:dB M
  rotate_left
  .have CK:=aA (lS CL.o o);have NF:=aA (λh=>o (F1.o h));clear CL;go_wp2_with (first
    |(go_at_call 74;(with_reducible refine(fN _ _).mono ?_);rintro e w1 ⟨rfl,rfl⟩)
    |(go_at_call 75;(with_reducible refine CK.o.mono ?_);rintro e we ⟨rfl,J⟩;have XE:=aA J;clear J))
   exact⟨rfl,.inr ⟨NF.o,rfl,XE.o⟩⟩
  have CK:=aA (lR CL.o o);have g3:=aA (show dB ((ks.take 0).zipIdx.foldl F M)from o);clear CL;go_upto_region 31 with(first
   |(go_at_call 74;(with_reducible refine(fN _ _).mono ?_);rintro e w1 ⟨rfl,rfl⟩)
   |(go_at_call 75;(with_reducible refine CK.o.mono ?_);rintro e wa ⟨rfl,⟨va,g4⟩,a6,a3⟩;have GA:=aA (show GrW w0 bg wa va ((ks.take 0).zipIdx.foldl F M)from g4);have XA:=aA a6;have KA:=aA (K1.o.trans a3);have g6:=aA (a3.box B1.o (by decide) (by decide));have g7:=aA (II.o.1.kp II.o.2 a3 X1.o a6);have g8:=aA (I_.o.1.kp I_.o.2 a3 X1.o a6);clear g4 a6 a3))
  clear c0 c1 c2 II I_ X1 K1 B1 CK;obtain⟨c0,c1,c2⟩:=g6.o.three;go_wp2
  clear c0 c1 c2;go_loopw [117] (λiv wr=>∃(j hd:Nat) (v:Value),j<=i/\iv=j/\Hid (GrW w0 bg wr v ((ks.take j).zipIdx.foldl F M))/\Hid ((ks.take j).foldl (bU (bY f)) (had+1,0)=(hd,0))/\Hid (dB ((ks.take j).zipIdx.foldl F M))/\Hid (Below w0 w0 wr)/\Hid (Kp w wr)/\Hid (jY w0 wr Ai i/\aY wr Ai i ci (AY G i))/\Hid (jY w0 wr Ao i/\aY wr Ao i co (pF G i))) (λiv _=>i-(intOf iv).toNat)
  case atStart=>exact⟨0,had+1,va,aL _,rfl,GA,rfl,g3,XA,KA,g7,g8⟩
  clear GA g3 XA KA g7 g8 g6;obtain⟨j,hd,v,T,rfl,O,CK,FT,x,KW,II,I_⟩:=hrel;by_cases P:j<i
  rotate_left
  .obtain rfl:j=i:=by omega
   have ZA:=aA (wH (F:=F) (s:=M) (l:=ks) (i:=j) (by rw[HL.o];exact aB _));rw[ZA.o]at O FT;have a:=aF wr (.cells #[q] 3);have I1:=It w0 wr q;have g9:=aA (I_.o.1.same I_.o.2 a.size (λb hb _=>a.block b hb));have CL:=aA (rW 0 (O.o.keep a) (x.o.trans (a.mono x.o.size)) g9.o.2 I1.1 g9.o.1 I1.2 FT.o);rw[i4.o]at CL;have K1:=aA (KW.o.trans (Kp.below a));clear a I1 II I_ O KW;by_cases h5:dB g5
   .have CJ:=aA (lR CL.o h5);have j2:=aA h5;clear CL;go_wp2_with (first
     |(go_at_call 74;(with_reducible refine(fN _ _).mono ?_);rintro e w1 ⟨rfl,rfl⟩)
     |(go_at_call 75;(with_reducible refine CJ.o.mono ?_);rintro e we ⟨rfl,h0,J,h3⟩;have GE:=aA h0;have XE:=aA J;have KE:=aA (K1.o.trans h3);clear h0 J h3))
    exact eR (v:=.tuple #[]) (by simp[results,Tryz.results28,go_sem]) rfl (.inl ⟨j2.o,rfl,GE.o,XE.o,KE.o⟩)
   have CJ:=aA (lS CL.o h5);have NF:=aA h5;clear CL;go_wp2_with (first
    |(go_at_call 74;(with_reducible refine(fN _ _).mono ?_);rintro e w1 ⟨rfl,rfl⟩)
    |(go_at_call 75;(with_reducible refine CJ.o.mono ?_);rintro e we ⟨rfl,J⟩;have XE:=aA J;clear J))
   exact⟨rfl,.inr ⟨NF.o,rfl,XE.o⟩⟩
  have c6:(j:Int)<(i:Int):=by omega
  obtain⟨bl,m1,z,B,h4,B',m',e',d',rfl,rfl,d7,hx,p0,p1,p2,K'⟩:=K.o.get P;have q0:=(x.o.cell (p:=⟨bl,_,none⟩) d7).trans p0;have q1:=(x.o.cell (p:=⟨bl,_,none⟩) d7).trans p1;have q2:=(x.o.cell (p:=⟨bl,_,none⟩) d7).trans p2;obtain⟨h6,h7,e0⟩:=iL FO.o hx.o CK.o;have k0:=aA e0;have ZS:=aA (qN (F:=F) (s:=M) hx.o);have L:=aF wr (.cells #[z,B,.slice B' m' e'] 35);have X3:=aA (x.o.trans (L.mono x.o.size)).drew;have G3:=aA ((O.o.keep L).keep (aH _ _).drew);have K3:=aA ((KW.o.trans (Kp.below L)).trans (Kp.below (aH _ _).drew));have e1:=aA (show jY w0 (wr.alloc (.cells #[z,B,.slice B' m' e'] 35)).drew Ai i/\aY (wr.alloc (.cells #[z,B,.slice B' m' e'] 35)).drew Ai i ci (AY G i)from by
   have o:=II.o.1.same II.o.2 L.size (λb hb _=>L.block b hb);exact⟨o.1,aY.keep o.2 (aH _ _).drew⟩)
  have e2:=aA (show jY w0 (wr.alloc (.cells #[z,B,.slice B' m' e'] 35)).drew Ao i/\aY (wr.alloc (.cells #[z,B,.slice B' m' e'] 35)).drew Ao i co (pF G i)from by
   have o:=I_.o.1.same I_.o.2 L.size (λb hb _=>L.block b hb);exact⟨o.1,aY.keep o.2 (aH _ _).drew⟩)
  have XB:=aA (Box.new wr #[z,B,.slice B' m' e'] 35);obtain⟨X,hX⟩:∃X:Int,((G+2*j:Nat):Int)=X:=⟨_,rfl⟩;obtain⟨Y,hY⟩:∃Y:Int,((G+2*j+1:Nat):Int)=Y:=⟨_,rfl⟩;have CI:=aA (IH.o d' z B B' m' e' hd h4 X Y v _ (wr.alloc (.cells #[z,B,.slice B' m' e'] 35)).drew (by rw[h7]) K'.o G3.o X3.o FT.o);have HZ:=aA (show kbB f (.mk z B h4) X Y ((ks.take j).zipIdx.foldl F M)=(ks.take (j+1)).zipIdx.foldl F M by rw[ZS.o,i1.o,<-hX,<-hY];rfl);rw[HZ.o]at CI;obtain⟨bi,k1,xi,k2,k3,h8,k4⟩:=e1.o.2.get P;obtain⟨bo,k5,xo,k6,k7,h9,k8⟩:=e2.o.2.get P;obtain rfl:X=xi:=by have:=h8.o;rw[Ro P,hX]at this;injection this
  obtain rfl:Y=xo:=by have:=h9.o;rw[Np P,hY]at this;injection this
  subst k2 k6;have k9:=aA (TG.o (j+1) h6 e0);clear p0 p1 p2 h7 e0 L hx K' HZ ZS hX hY h8 h9 k3 k7 II I_ O KW;go_upto_region 34 with fail
  clear q0 q1 q2;obtain⟨t0,t1,t2⟩:=XB.o.three;refine aN 10 (.takes [0,1,2,3,4,5,6,7,8,9] (.fin 10 .done)) (λw'=>w'.cell? wr=some (.int .i64 z)/\w'.cell? ⟨wr,1,none⟩=some (.int .i64 B)/\w'.cell? ⟨wr,2,none⟩=some (.slice B' m' e')/\w'.cell? ⟨bi,k1+j,none⟩=some (.int .i64 X)/\w'.cell? ⟨bo,k5+j,none⟩=some (.int .i64 Y)) (by kernel_rfl) (by kernel_rfl) (by kernel_rfl) (λ_ _ _ _ _ h=>h) ⟨t0,t1,t2,k4,k8⟩ (λhH=>?_);simp only[Scr.takes];generalize (wr.alloc (.cells #[z,B,.slice B' m' e'] 35)).drew=u5 at *
  iterate 10
   refine aM (v:=?_) rfl (by rfl) hH (λw' m2=>?_) ?_
   rotate_left
   ·(go_simp;try with_reducible rfl)
   try simp only[aC]
  by_cases D:dB ((ks.take (j+1)).zipIdx.foldl F M)
  .have CJ:=aA (lR CI.o D);have l0:=aA D;clear CI D;refine cH rfl (λKf a9=>?_);go_simp;go_at_call 28
   (with_reducible refine CJ.o.mono ?_)
   rintro e w4 ⟨rfl,⟨v4,i0⟩,R,b3⟩;have G4:=aA i0;have X4:=aA R;have K4:=aA (K3.o.trans b3);have l1:=aA (e1.o.1.kp e1.o.2 b3 X3.o R);have l2:=aA (e2.o.1.kp e2.o.2 b3 X3.o R);clear i0 R b3 hH;refine a9.out _ _ ?_;clear a9;try simp only[aC]
   refine cE ?_;go_wp2
   go_roundw
   case rel=>exact⟨j+1,h6,v4,by omega,by go_num,G4,k0,l0,X4,K4,l1,l2⟩
   simp[intOf];omega
  have CJ:=aA (lS CI.o D);have NF:=aA (λh=>D (k9.o.fits (F5.o h)));clear CI D;refine cH rfl (λKf a9=>?_);go_simp;go_at_call 28
  (with_reducible refine CJ.o.mono ?_)
  rintro e w4 ⟨rfl,R⟩;have X4:=aA R;clear R hH a9;exact And.intro rfl (Or.inr ⟨NF.o,rfl,X4.o⟩)
