/- Texts melted into one: Contracts of net.Fire and BFire. Conditions: the net and the mark read as lists. | The contract of BFire. Conditions: the net and the mark read as lists. | What Enabled, AMix and BFire answer is new. Conditions: the net and the mark read as lists. (Printed by gen/enabF.py.) -/
import Derived.Test.YtgnljpnlolkalaaGreatBenchTellsK02
set_option linter.all false
set_option maxRecDepth 100000
set_option maxHeartbeats 1000000
namespace Go.Proofs.YtgnljpnlolkalaaGreat
open Go.RowKit
def zK {n m:Nat}(a:n<=16)(b:m<=16):max n m*8<=140737488355328:=by omega
def tX {w:World}{P:Int}{A B:OAd}{n c m d:Nat}{ts:List bG}{xs:LIn}(h:eC w A n c ts)(g:aY w B m d xs)(t:Int) :
  Calls Tryz.prog 168 #[.agg #[P,.slice A n c],.slice B m d,t] w (xE (iN ⟨P,ts⟩ xs t) w):=by
 have u:=aA (aF w);have a0:=h.small;have G:=aA g;have H:=aA h;have X:=aA h.len;clear g h;cases a:i7 ⟨P,ts⟩ xs
 .have I:=aA (oR a);have i:=aA (show iN ⟨P,ts⟩ xs t=([],2)from by rw[iN,a];rfl);clear a;go_enter Tryz.func168,Tryz.ntmps168
  go_wp2_with fail
  refine(i8 (P:=P) (H.o.keep (u.o _)) (G.o.keep (u.o _))).mono ?_;rw[I.o];rintro e w1 ⟨rfl,f⟩;have j:=aA ((u.o (.cells #[P,.slice A n c] 41)).trans (f.mono (by simp)));clear f;go_wp2
  go_ret2
  exact⟨none,0,0,by rw[i.o];rfl,by rw[i.o];exact Sl.nil0,j.o,iR.none⟩
 .have I:=aA (yI a);have i:=aA (show iN ⟨P,ts⟩ xs t=if 0<=t/\t<(ts.length:Int)then rC xs (ts.getD t.toNat default)else([],3)from by rw[iN,aG a]);have x:=aA ((cR _ _).1 a);clear a;go_enter Tryz.func168,Tryz.ntmps168
  go_wp2_with fail
  refine(i8 (P:=P) (H.o.keep (u.o _)) (G.o.keep (u.o _))).mono ?_;rw[I.o];rintro e w1 ⟨rfl,f⟩;have j:=aA ((u.o (.cells #[P,.slice A n c] 41)).trans (f.mono (by simp)));have J:w1.cell? ⟨w,1,none⟩=some (.slice A n c):=(f.cell (by simp)).trans (by simp);have K:w.heap.size<w1.heap.size:=by have:=f.size;simp at this;omega
  have H1:=aA (H.o.keep j.o);have G1:=aA (G.o.keep j.o);clear f;by_cases q:0<=t/\t<(n:Int)
  rotate_left
  .have b:=aA (show iN ⟨P,ts⟩ xs t=([],3)from by rw[i.o,aD (by rw[X.o];exact q)]);by_cases h0:t<0
   .go_wp2
    go_ret2
    exact⟨none,0,0,by rw[b.o];rfl,by rw[b.o];exact Sl.nil0,j.o,iR.none⟩
   have h1:(n:Int)<=t:=by omega
   clear q;go_wp2
   go_ret2
   exact⟨none,0,0,by rw[b.o];rfl,by rw[b.o];exact Sl.nil0,j.o,iR.none⟩
  obtain⟨k,rfl⟩:=Int.eq_ofNat_of_zero_le q.1;have L:k<n:=by omega
  clear q;obtain⟨bl,M,tr,A1,n1,c1,A2,n2,c2,rfl,N,q,q0,q1,q2,O,Q,m1,m2⟩:=eC.get H1.o L;have a:=fK x.o.1 (k:=k) (t:=tr) q.o;have r:=lC a.2.2.2.2.1;have y:=lC a.2.2.2.2.2;have F:=((bN _).1 x.o.1).2.1;have R:n1<=16:=by have:=a.2.2.1;rw[O.len]at this;simp only[]at this F;omega
  have S:n2<=16:=by have:=a.2.2.2.1;rw[Q.len]at this;simp only[]at this F;omega
  have hm:m<=16:=by have:=x.o.2.1;rw[G.o.len]at this;simp only[]at this F;omega
  have b:=aA (show iN ⟨P,ts⟩ xs (k:Int)=rC xs tr from by
   rw[i.o,aG (by rw[X.o];omega)];have:ts.getD (k:Int).toNat default=tr:=by
    have:=q.o;simp[this]
   rw[this])
  have I2:=aA Q;have a1:(0:Int)<=(k:Int):=by omega
  have a2:(k:Int)<(n:Int):=by omega
  have MC:=aA (Eu x.o.2.2 r);have PF:=aA (yX (t:=tr) x.o.2.2 r y);have Y:=aA O;clear a r y Q O F;go_wp2_with fail
  refine(JD G1.o Y.o (zK hm R)).mono ?_;rw[MC.o];rintro e w2 ⟨C,l,kk,rfl,v,f⟩;cases hc:eJ xs tr.pre
  .have o:=aA (show iN ⟨P,ts⟩ xs (k:Int)=([],3)from by rw[b.o,rC,hc];rfl);have B2:=aA (j.o.trans (f.mono j.o.size));clear hc v f;simp only[Bool.false_eq_true,if_false];go_wp2
   go_ret2
   exact⟨none,0,0,by rw[o.o];rfl,by rw[o.o];exact Sl.nil0,B2.o,iR.none⟩
  rw[hc]at v;simp only[if_true]at v ⊢;have hl:l<=16:=by have:=v.len;rw[pX,G.o.len,Y.o.len]at this;omega
  have T:=aA (PF.o hc);have Z:=(f.cell (p:=⟨w,1,none⟩) K).trans J;have a3:=(f.cell (p:=⟨bl,M+k*3+2,none⟩) N).trans q2;have U:=aA (I2.o.keep f);have HI:=aA v;have s:=aA (j.o.trans (f.mono j.o.size));clear hc v f;go_wp2_with fail
  refine(JC HI.o U.o (zK hl S)).mono ?_;rw[T.o];rintro e w3 ⟨C3,l3,k3,rfl,z,D,E⟩;have B3:=aA (s.o.trans (D.mono s.o.size));have V:=aA z;have W:=aA (E.mono s.o.size);clear z D E;go_wp2
  go_ret2
  exact⟨C3,l3,k3,by rw[b.o];rfl,by rw[b.o];exact V.o,B3.o,W.o⟩
def tA.mix {xs ys:LIn}(a:bW xs=true)(b:bW ys=true):tA (nE xs ys (-1)):=λp=>by
 by_cases hp:p<max xs.length ys.length
 .rw[iI (yH hp)];have:=gC a p;have:=gC b p;omega
 rw[uK (by rw[pX];omega)];omega
def Br {w:World}{P:Int}{A B:OAd}{n c m d:Nat}{ts:List bG}{xs:LIn}(h:eC w A n c ts)(g:aY w B m d xs) :
  Calls Tryz.prog 134 #[.agg #[P,.slice A n c],.slice B m d] w (xE (gA ⟨P,ts⟩ xs) w):=by
 have o:=aA (aF w);have G:=aA g;have H:=aA h;have D:=aA h.len;clear g h;cases hok:i7 ⟨P,ts⟩ xs
 .have u:=aA (oR hok);have b:=aA (show gA ⟨P,ts⟩ xs=([],2)from by rw[gA,hok];rfl);clear hok;go_enter Tryz.func134,Tryz.ntmps134
  go_wp2_with fail
  refine(i8 (P:=P) (H.o.keep (o.o _)) (G.o.keep (o.o _))).mono ?_;rw[u.o];rintro e w1 ⟨rfl,a⟩;have j:=aA ((o.o (.cells #[P,.slice A n c] 41)).trans (a.mono (by simp)));clear a;go_wp2
  go_ret2
  exact⟨none,0,0,by rw[b.o];rfl,by rw[b.o];exact Sl.nil0,j.o,iR.none⟩
 .have u:=aA (yI hok);have b:=aA (show gA ⟨P,ts⟩ xs=(jR ts xs,0)from by rw[gA,hok];rfl);have E:n<=24:=by have:=((bN _).1 ((cR _ _).1 hok).1).2.2.1;simp only[]at this;rw[H.o.len]at this;exact this
  clear hok;go_enter Tryz.func134,Tryz.ntmps134
  go_wp2_with fail
  refine(i8 (P:=P) (H.o.keep (o.o _)) (G.o.keep (o.o _))).mono ?_;rw[u.o];rintro e w1 ⟨rfl,a⟩;have j:=aA ((o.o (.cells #[P,.slice A n c] 41)).trans (a.mono (by simp)));have M:w1.cell? ⟨w,1,none⟩=some (.slice A n c):=(a.cell (by simp)).trans (by simp);have N:=aA (H.o.keep j.o);have O:=aA (G.o.keep j.o);clear a;go_wp2
  go_loopw [7,19] (λv i wr=>∃k q:Nat,k<=n/\q<=k/\i=k/\aI wr w1 v q (jR (ts.take k) xs)/\Below w1 w1 wr) (λ_ i _=>n-(intOf i).toNat)
  case atStart=>exact⟨0,0,aL _,aL _,rfl,aJ.nil,aH _ _⟩
  obtain⟨k,q,Y,Z,rfl,own,a⟩:=hrel;by_cases x:k<n
  .obtain⟨bl,Q,t,A1,n1,c1,A2,n2,c2,rfl,R,S,q0,q1,q2,F,T,m1,m2⟩:=eC.get (N.o.keep a) x;have I:=aA ((O.o.keep a).keep (aF wr (.cells #[.int .i64 t.label,.slice A1 n1 c1,.slice A2 n2 c2] 74)));have J:=aA (F.keep (aF wr (.cells #[.int .i64 t.label,.slice A1 n1 c1,.slice A2 n2 c2] 74)));have p:=aA (own.keep fG.kept (aF wr (.cells #[.int .i64 t.label,.slice A1 n1 c1,.slice A2 n2 c2] 74)));have l:=aA (a.alloc a.size (.cells #[.int .i64 t.label,.slice A1 n1 c1,.slice A2 n2 c2] 74));have f:=aA (show jR (ts.take (k+1)) xs=jR (ts.take k) xs++(if eJ xs t.pre=true then [(k:Int)]else [])from by
    rw[bX S.o,vO,dT,Nat.min_eq_left (by rw[D.o];omega)])
   clear F T own a;cases hc:eJ xs t.pre
   .have r:=aA hc;clear hc;go_wp2_with ((with_reducible refine(iQ I.o J.o).mono ?_);rintro e w' ⟨rfl,rfl⟩;rw[r.o])
    go_roundw
    case rel=>exact⟨k+1,q,by omega,by omega,by go_num,by rw[f.o,r.o];simpa using p.o,l.o⟩
    simp[intOf];omega
   have r:=aA hc;clear hc;go_wp2_with (first
    |((with_reducible refine(iQ I.o J.o).mono ?_);rintro e w' ⟨rfl,rfl⟩;rw[r.o])
    |(at_builtin;refine dX rfl _ _ rfl rfl rfl (by simp) p.o l.o l.o.size (by omega) ?_;intro v2 w2 s U y))
   go_roundw
   case rel=>exact⟨k+1,q+1,by omega,by omega,by go_num,by rw[f.o,r.o];exact s,y⟩
   simp[intOf];omega
  have p:=aA own;have z:=aA (j.o.trans (a.mono j.o.size));have f:=aA (show jR (ts.take k) xs=jR ts xs from by rw[aW (by rw[D.o];omega)]);clear own a;go_wp2
  go_ret2
  obtain⟨C,V,K,L⟩:=p.o.sl (by omega);rw[f.o]at L;exact⟨C,q,V,by rw[b.o,<-K];rfl,by rw[b.o];exact L,z.o,λW had=>by
   have X:=(p.o.lt W.block (by rw[K,had];rfl)).1;exact aT j.o.size X⟩
def Dl {w:World}{A B:OAd}{n c m d:Nat}{xs ys:LIn}(h:aY w A n c xs)(g:aY w B m d ys)(t:Int)(I:t=1∨t=-1)(J:tA xs)(K:tA ys)(u:max n m*8<=140737488355328) :
  Calls Tryz.prog 149 #[.slice A n c,.slice B m d,t] w λe w'=>∃C k,e=.returned (.slice C (max n m) k)/\aY w' C (max n m) k (nE xs ys t)/\Below w w w'/\iR w C:=by
 have Z:=h.small;have hm:=g.small;obtain⟨M,x⟩:∃M:Nat,max n m=M:=⟨_,rfl⟩;have y:M<=281474976710656:=by omega
 have L:M*8<=140737488355328:=by omega
 have z:max (n:Int) (m:Int)=(M:Int):=by omega
 have j:max xs.length ys.length=M:=by rw[h.len,g.len,x]
 rw[x];have N:=aA j;clear x u j;go_enter Tryz.func149,Tryz.ntmps149
 go_wp2
 clear z;go_loopw [7,14] (λv i wr=>∃k:Nat,k<=M/\i=.int .i64 k/\wr.ownsRow w 3 1 v k (((nE xs ys t).take k).map (Value.int .i64))/\Below w w wr) (λ_ i _=>M-(intOf i).toNat)
 case atStart=>exact⟨0,aL _,rfl,World.ownsRow_nil _ _ _ _,aH _ _⟩
 case round =>
  obtain⟨k,hk,rfl,own,q⟩:=hrel;by_cases D:k<M
  rotate_left
  .obtain rfl:k=M:=by omega
   have l:=aA (show(nE xs ys t).take k=nE xs ys t from aW (by rw[pX,N.o];exact aB _));have E:=aA q;have r:=aA own;go_wp2
   go_ret
   have f:=r.o;rw[l.o]at f;obtain⟨C,T,O,U⟩:=aY.of_own f y;exact⟨C,T,by rw[<-O];rfl,U,E.o,λV had=>(World.ownsRow.lt f V.block (by rw[O,had];rfl)).1⟩
  have P:=J k;have Q:=K k;have o:=aA (Bi (xs:=xs) (ys:=ys) (t:=t) (k:=k) (by rw[N.o];exact D));have W:=h.keep q;have X:=g.keep q;have F:=q.size;obtain⟨a,G⟩:=aK (atL xs k);obtain⟨b,p⟩:=aK (atL ys k);rw[G]at P;rw[p]at Q;have R:=aA G;have S:=aA p;obtain⟨h3,h4⟩:=P;obtain⟨h5,h6⟩:=Q;clear G p h g J K;have Ht:=aA I;rcases I with rfl|rfl
  all_goals
   go_wp2_with (first
    |((with_reducible refine(kL W k).mono ?_);rintro e w' ⟨rfl,rfl⟩;rw[R.o])
    |((with_reducible refine(kL X k).mono ?_);rintro e w' ⟨rfl,rfl⟩;rw[S.o])
    |(at_builtin;refine CV iO rfl _ _ rfl _ rfl rfl (by simp) rfl (by simp[Value.oneCell']) own q F (by omega) (by omega) ?_;intro v1 w1 s Y H))
   go_roundw
   case rel =>
    refine⟨k+1,by omega,by go_num, ?_,H⟩;rw[o.o,R.o,S.o];simpa using s
   case measure=>simp[intOf];omega
def Bv {w:World}{P:Int}{A B:OAd}{n c m d:Nat}{ts:List bG}{xs:LIn}(h:eC w A n c ts)(g:aY w B m d xs)(t:Int) :
  Calls Tryz.prog 111 #[.agg #[P,.slice A n c],.slice B m d,t] w (xE (iN ⟨P,ts⟩ xs t) w):=by
 have J:=aA (aF w);have a5:=h.small;have G:=aA g;have H:=aA h;have HL:=aA h.len;clear g h;cases a:i7 ⟨P,ts⟩ xs
 .have X:=aA a;have q:=aA (show iN ⟨P,ts⟩ xs t=([],2)from by rw[iN,a];rfl);clear a;go_enter Tryz.func111,Tryz.ntmps111
  go_wp2_with fail
  refine(pZ (P:=P) (H.o.keep (J.o _)) (G.o.keep (J.o _))).mono ?_;rw[X.o];rintro e w1 ⟨rfl,i⟩;have v:=aA ((J.o (.cells #[P,.slice A n c] 41)).trans (i.mono (by simp)));clear i;go_wp2
  go_ret2
  exact⟨none,0,0,by rw[q.o];rfl,by rw[q.o];exact Sl.nil0,v.o,iR.none⟩
 .have X:=aA a;have q:=aA (show iN ⟨P,ts⟩ xs t=if 0<=t/\t<(ts.length:Int)then rC xs (ts.getD t.toNat default)else([],3)from by rw[iN,aG a]);have L:=aA ((cR _ _).1 a);clear a;go_enter Tryz.func111,Tryz.ntmps111
  go_wp2_with fail
  refine(pZ (P:=P) (H.o.keep (J.o _)) (G.o.keep (J.o _))).mono ?_;rw[X.o];rintro e w1 ⟨rfl,i⟩;have v:=aA ((J.o (.cells #[P,.slice A n c] 41)).trans (i.mono (by simp)));have M:w1.cell? ⟨w,1,none⟩=some (.slice A n c):=(i.cell (by simp)).trans (by simp);have N:w.heap.size<w1.heap.size:=by have:=i.size;simp at this;omega
  have H1:=aA (H.o.keep v.o);have G1:=aA (G.o.keep v.o);clear i;by_cases E:0<=t/\t<(n:Int)
  rotate_left
  .have b:=aA (show iN ⟨P,ts⟩ xs t=([],3)from by rw[q.o,aD (by rw[HL.o];exact E)]);by_cases h0:t<0
   .go_wp2
    go_ret2
    exact⟨none,0,0,by rw[b.o];rfl,by rw[b.o];exact Sl.nil0,v.o,iR.none⟩
   have h1:(n:Int)<=t:=by omega
   clear E;go_wp2
   go_ret2
   exact⟨none,0,0,by rw[b.o];rfl,by rw[b.o];exact Sl.nil0,v.o,iR.none⟩
  obtain⟨k,rfl⟩:=Int.eq_ofNat_of_zero_le E.1;have Y:k<n:=by omega
  clear E;obtain⟨bl,j,tr,A1,n1,c1,A2,n2,c2,rfl,F,E,q0,q1,q2,Z,i2,m1,m2⟩:=eC.get H1.o Y;have a:=fK L.o.1 (k:=k) (t:=tr) E.o;have O:=lC a.2.2.2.2.1;have Q:=lC a.2.2.2.2.2;have W:=((bN _).1 L.o.1).2.1;have a0:n1<=16:=by have:=a.2.2.1;rw[Z.len]at this;simp only[]at this W;omega
  have a6:n2<=16:=by have:=a.2.2.2.1;rw[i2.len]at this;simp only[]at this W;omega
  have hm:m<=16:=by have:=L.o.2.1;rw[G.o.len]at this;simp only[]at this W;omega
  have b:=aA (show iN ⟨P,ts⟩ xs (k:Int)=rC xs tr from by
   rw[q.o,aG (by rw[HL.o];omega)];have:ts.getD (k:Int).toNat default=tr:=by
    have:=E.o;simp[this]
   rw[this])
  have a9:(0:Int)<=(k:Int):=by omega
  have b0:(k:Int)<(n:Int):=by omega
  have R:=aA O;have a1:=aA Q;have I1:=aA Z;have I2:=aA i2;clear a O Q i2 Z W;go_wp2_with fail
  refine(mO G1.o I1.o).mono ?_;rintro e wd ⟨rfl,u⟩;have x:=(u.below.cell (p:=⟨w,1,none⟩) N).trans M;have S:=(u.below.cell (p:=⟨bl,j+k*3+1,none⟩) F).trans q1;have T:=(u.below.cell (p:=⟨bl,j+k*3+2,none⟩) F).trans q2;have y:w.heap.size<wd.heap.size:=bD N u.below.size;have o:bl<wd.heap.size:=bD F u.below.size;have G2:=aA (G1.o.keep u.below);have J1:=aA (I1.o.keep u.below);have J2:=aA (I2.o.keep u.below);have B2:=aA (v.o.trans (u.below.mono v.o.size));clear u M q1 q2 q0;cases hc:eJ xs tr.pre
  .have f:=aA (show iN ⟨P,ts⟩ xs (k:Int)=([],3)from by rw[b.o,rC,hc];rfl);clear hc;go_wp2
   go_ret2
   exact⟨none,0,0,by rw[f.o];rfl,by rw[f.o];exact Sl.nil0,B2.o,iR.none⟩
  have HC:=aA hc;have FT:=aA (show rC xs tr=if bW (nE (nE xs tr.pre (-1)) tr.post 1)=true then(nE (nE xs tr.pre (-1)) tr.post 1,0)else([],4)from by rw[rC,aG hc]);clear hc;have K:=aA (show Below wd wd wd.drew from(aH _ _).drew);have S0:=aA (tA.of_right L.o.2.2);have S1:=aA (tA.of_right R.o);have S2:=aA (tA.of_right a1.o);have SM:=aA (tA.mix L.o.2.2 R.o);have M1:=aA (zK hm a0);have M2:=aA (show max (max m n1) n2*8<=140737488355328 by omega);go_upto_region 5 with fail
  go_cut [8] (λs wx=>∃C l k,s=.slice C l k/\Hid (aY wx C l k (nE (nE xs tr.pre (-1)) tr.post 1))/\Hid (Below wd wd wx)/\Hid (iR wd C))
  case first =>
   go_region_held3 (λw'=>w'.cell? ⟨w,1,none⟩=some (.slice (some ⟨bl,j,none⟩) n c)/\w'.cell? ⟨bl,j+k*3+1,none⟩=some (.slice A1 n1 c1)/\w'.cell? ⟨bl,j+k*3+2,none⟩=some (.slice A2 n2 c2))
    (first|go_keep)
    (first
     |(go_at_call 149;(with_reducible refine(Dl (G2.o.keep K.o) (J1.o.keep K.o) (-1) (.inr rfl) S0.o S1.o M1.o).mono ?_);rintro e w2 ⟨C,kk,rfl,z,i,U⟩;have z1:=(i.cell (p:=⟨w,1,none⟩) y).trans x;have z2:=(i.cell (p:=⟨bl,j+k*3+1,none⟩) o).trans S;have z3:=(i.cell (p:=⟨bl,j+k*3+2,none⟩) o).trans T;have HI:=aA z;have J3:=aA (J2.o.keep (K.o.trans (i.mono K.o.size)));have I:=aA (K.o.trans (i.mono K.o.size));clear z i U)
     |(go_at_call 149;(with_reducible refine(Dl HI.o J3.o 1 (.inl rfl) SM.o S2.o M2.o).mono ?_);rintro e w3 ⟨C3,b1,rfl,z,i,D⟩;have V:=aA z;have r:=I.o.trans (i.mono I.o.size);have y1:=(r.cell (p:=⟨w,1,none⟩) y).trans x;have y2:=(r.cell (p:=⟨bl,j+k*3+1,none⟩) o).trans S;have y3:=(r.cell (p:=⟨bl,j+k*3+2,none⟩) o).trans T;have a2:=aA r;have a3:=aA (D.mono I.o.size);clear z i r D))
   all_goals
    go_wp2_with fail
    go_meet
    exact⟨_,_,_,rfl,by rw[Nat.max_assoc]at V;exact V,a2,a3⟩
  obtain⟨C,l,kk,rfl,z,i,a4⟩:=hcut;have B3:=aA (B2.o.trans (i.o.mono B2.o.size));go_wp2_with fail
  refine(sZ z.o).mono ?_;rintro e w' ⟨rfl,rfl⟩;cases hz:bW (nE (nE xs tr.pre (-1)) tr.post 1)
  .have f:=aA (show iN ⟨P,ts⟩ xs (k:Int)=([],4)from by rw[b.o,FT.o,hz];rfl);clear hz;go_wp2
   go_ret2
   exact⟨none,0,0,by rw[f.o];rfl,by rw[f.o];exact Sl.nil0,B3.o,iR.none⟩
  have f:=aA (show iN ⟨P,ts⟩ xs (k:Int)=(nE (nE xs tr.pre (-1)) tr.post 1,0)from by rw[b.o,FT.o,hz];rfl);clear hz;go_wp2
  go_ret2
  exact⟨_,_,_,by rw[f.o];rfl,by rw[f.o];exact z.o,B3.o,a4.o.mono B2.o.size⟩
