/- Texts melted into one: What a space reads ars: lists of lists of integers, and arcs; live.Right and GRight. Conditions: the slices read ars lists. | The contracts of GRight, live.Dead and GDead. Conditions: the slices read as lists. | The contracts of GDead, GStuck, slices.Max, live.Bound and GBound -/
import Derived.Test.YtgnljpnlolkalaaGreatBenchTellsK15
set_option linter.all false
set_option maxRecDepth 100000
set_option maxHeartbeats 4000000
namespace Go.Proofs.YtgnljpnlolkalaaGreat
open Go.RowKit
open Go.Maps
def JB (ars:List cC)(t:Int):Nat:=(ars.filter λa=>a.tran==t).length
def RY (l:List cC)(a:cC)(t:Int):JB (l++[a]) t=JB l t+if a.tran=t then 1 else 0:=by
 unfold JB;rw[dP,bL];by_cases h:a.tran=t <;> simp[h]
def qQ (ars:List cC)(N:Nat):LIn:=((List.range N).filter λ(t:Nat)=>JB ars (t:Int)==0).map λ(t:Nat)=>(t:Int)
def Pv (ars:List cC)(k:Nat):qQ ars (k+1)=qQ ars k++if JB ars (k:Int)=0 then [(k:Int)]else []:=by
 unfold qQ;rw[eF,dP,fB];congr 1
 by_cases h:JB ars (k:Int)=0 <;> simp[h]
def IW (ars:List cC)(k:Nat):(qQ ars k).length<=k:=by
 unfold qQ;rw[dQ];exact aT (fC _ _) (by simp)
def jZ (w:World)(b:Nat)(l:List cC):Prop :=
 ∃D:DataW Unit,w.ownsMap Tryz.prog 3 (plainElem Tryz.prog 3) b l.length D/\∀t:Int,(Lit.int .i64 t).wf=true->D.atKey (.int .i64 t) (.lit (.int .i64 0))=.lit (.int .i64 (JB l t))
def Nx:Keyed Tryz.prog 3:=int_keyed Tryz.underlying3
def UY (w:World):(zeroValue 3).run Tryz.prog w=.ok (.int .i64 0) w:=by kernel_rfl
def jZ.made (w:World):jZ (w.alloc (.map #[] 0)) w []:=⟨.map [],World.ownsMap_made _ _ _ _,λ_ _=>rfl⟩
def jZ.of_block {w w':World}{b:Nat}{l:List cC}(h:jZ w b l)(a:w'.heap[b]?=w.heap[b]?):jZ w' b l:=by
 obtain⟨D,c,d⟩:=h;exact⟨D,jQ c a,d⟩
def jZ.lt {w:World}{b:Nat}{l:List cC}(h:jZ w b l):b<w.heap.size:=by
 obtain⟨D,a,_⟩:=h;exact a.lt
def jZ.keep {w w':World}{b:Nat}{l:List cC}(h:jZ w b l)(a:Below w w w'):jZ w' b l:=h.of_block (a.block b h.lt)
def jZ.look {w:World}{b:Nat}{l:List cC}(h:jZ w b l){t:Int}(e:(Lit.int .i64 t).wf=true):(Instr.lookup 160 (.map (some b)) t false).run Tryz.prog w=.ok (.int .i64 (JB l t)) w:=by
 obtain⟨D,f,g⟩:=h;obtain⟨c,d,a,_⟩:=f.lookup_int Nx Tryz.underlying160 Tryz.underlying3 (UY w) (keyOf_int_mk Tryz.underlying3 e);rw[g t e]at a;simp only[DataW.lit.injEq,Lit.int.injEq,true_and]at a;rw[d,<-a]
def jZ.more {w:World}{b:Nat}{l:List cC}(h:jZ w b l){a:cC}(g:(Lit.int .i64 a.tran).wf=true)(o:l.length<=17592186044416) :
  ∃w',(Instr.mapUpdate 160 (.map (some b)) (.int .i64 a.tran) (.int .i64 ((JB l a.tran:Int)+1))).run Tryz.prog w=.ok () w'/\jZ w' b (l++[a])/\w.grownBy w' (some b):=by
 obtain⟨D,d,i⟩:=h;have p:JB l a.tran<=l.length:=fC _ _;have f:=keyOf_int_mk Tryz.underlying3 g;obtain⟨w',j,k,m⟩:=d.update Nx Tryz.underlying160 (by rw[maxLen];omega) f (plainElem_int Tryz.underlying3 (a:=(JB l a.tran:Int)+1) (jM (by omega)));refine⟨w',j,⟨_,by rw[bL];exact k,λt n=>?_⟩,m⟩;rw[RY];by_cases e:a.tran=t
 .subst e;rw[Maps.atKey_put_same (d.tidy Nx).isMap (Nx.key f),aG rfl];simp
 .rw[Maps.atKey_put_other (λc=>e (by injection c with _ c;exact c.symm)),i t n,aD e,eP]
def Px {w:World}{A D:OAd}{n c m d:Nat}{ms:LLi}{ars:List cC}(tr:Int)(h:cQ w A n c ms)(g:qD w D m d ars)(hm:m<=17592186044416) :
  Calls Tryz.prog 37 #[.agg #[.slice A n c,.slice D m d],tr] w (JL (qQ ars (min tr 24).toNat).length (qQ ars (min tr 24).toNat) w):=by
 obtain⟨M,T⟩:=aK (min tr 24);have z:=@run_makeMap Tryz.prog;have G:=aA g;rw[T];have U:M<=24:=by omega
 have hn:=h.small;clear h g;go_enter Tryz.func37,Tryz.ntmps37
 go_upto_region 3 with fail
 clear T z;generalize f:(w.alloc (.cells #[.slice A n c,.slice D m d] 78)).alloc (.map #[] 0)=w1;have D1:=aA (show Below w w w1 by rw[<-f];exact((aH _ _).alloc (aB _) _).alloc (by simp) _);have X0:=aA (show Box w1 w 78 #[.slice A n c,.slice D m d] by rw[<-f];exact(Box.new _ _ _).old _);have X1:=aA (show jZ w1 (w.heap.size+1) [] by
  rw[<-f];have:=jZ.made (w.alloc (.cells #[.slice A n c,.slice D m d] 78));rwa[show(w.alloc (.cells #[.slice A n c,.slice D m d] 78)).heap.size=w.heap.size+1 by simp]at this)
 clear f;obtain⟨c0,c1⟩:=X0.o.two;go_wp2
 go_loopw [16] (λv wr=>∃k:Nat,k<=m/\v=k/\Hid (jZ wr (w.heap.size+1) (ars.take k))/\Hid (Below w w wr)) (λv _=>m-(intOf v).toNat)
 case atStart=>exact⟨0,aL _,rfl,X1,D1⟩
 case round =>
  clear c0 c1;obtain⟨k,V,rfl,B,l⟩:=hrel;by_cases C:k<m
  .have a1:(k:Int)<(m:Int):=by omega
   obtain⟨bl,a2,a,rfl,a3,ha,q0,q1,q2,p⟩:=qD.get (Sl.keep qC.kept G.o l.o) C;have E:=aF wr (.cells #[.int .i64 a.from_,.int .i64 a.tran,.int .i64 a.to_] 114);have WA:=aA (Box.new wr #[.int .i64 a.from_,.int .i64 a.tran,.int .i64 a.to_] 114);have W:=aA (B.o.keep E);have X:=aA (l.o.trans (E.mono l.o.size));go_upto_region 6 with fail
   clear E q0 q1 q2 B l;generalize wr.alloc (.cells #[.int .i64 a.from_,.int .i64 a.tran,.int .i64 a.to_] 114)=u0 at *
   generalize wr.heap.size=bx at *
   obtain⟨t0,t1,t2⟩:=WA.o.three;have F:=W.o.look p.o;obtain⟨u1,up,Y,gr⟩:=W.o.more p.o (by rw[dT];omega);have CX:=aA (show jZ u1 (w.heap.size+1) (ars.take (k+1)) by rw[bX ha.o];exact Y);have BX:=aA (X.o.grown gr X.o.size (λk V=>by cases V;omega));have H:JB (ars.take k) a.tran<=k:=aT (fC _ _) (by rw[dT];omega);obtain⟨I,b⟩:=aK (JB (ars.take k) a.tran);rw[b]at F up H;clear b Y gr;go_wp2
   go_roundw
   case rel=>exact⟨k+1,by omega,by go_num,CX,BX⟩
   simp[intOf];omega
  obtain rfl:k=m:=by omega
  have CF:=aA (show jZ wr (w.heap.size+1) ars by have:=B.o;rwa[aW (by rw[G.o.len];exact aB _)]at this);obtain⟨q,J⟩:∃q:World,q=wr:=⟨_,rfl⟩;subst J;obtain⟨N,Z⟩:=aK (M.toNat);have K:=aA Z;have a0:N<=24:=by omega
  clear Z;go_wp2
  go_loopw [8,27] (λu v wr=>∃j:Nat,j<=N/\v=j/\Hid (aI wr q u (qQ ars j).length (qQ ars j))/\Hid (Below q q wr)) (λ_ v _=>N-(intOf v).toNat)
  case atStart=>exact⟨0,aL _,rfl,aJ.nil,aH _ _⟩
  obtain⟨j,hj,rfl,y,r⟩:=hrel;by_cases a4:j<N
  .have L:(j:Int)<M:=by have:=K.o;omega
   have F:=(CF.o.keep r.o).look (t:=(j:Int)) (jM (by omega));have o:=aA (Pv ars j);have O:=IW ars j;obtain⟨I,b⟩:=aK (JB ars (j:Int));rw[b]at F o;clear b;by_cases P:I=0
   .subst P;rw[aG rfl]at o;have Q:=aA (show(qQ ars (j+1)).length=(qQ ars j).length+1 by rw[o.o];simp);go_wp2_with (at_builtin;refine dX rfl _ _ rfl rfl rfl (by first|rfl|simp) y.o r.o r.o.size (by omega) ?_;intro v2 w2 e R i;have s:=aA e;have S:=aA i;clear e R i)
    go_roundw
    case rel=>exact⟨j+1,by omega,by go_num,by rw[Q.o,o.o];exact s,S⟩
    simp[intOf];omega
   have a5:((I:Int)==0)=false:=by simp;omega
   rw[aD P,j9]at o;clear P;go_wp2
   go_roundw
   case rel=>exact⟨j+1,by omega,by go_num,by rw[o.o];exact y,r⟩
   simp[intOf];omega
  obtain rfl:N=j:=by omega
  have L:M<=(N:Int):=by have:=K.o;omega
  have O:=IW ars N;obtain⟨Au,cu,hu,iu⟩:=y.o.sl (by omega);have x:=y.o.fresh hu;have FR:=aA (x.mono l.o.size);have IU:=aA iu;have BF:=aA (l.o.trans (r.o.mono l.o.size));subst hu;clear iu x;go_wp2
  go_ret
  rw[K.o];exact⟨Au,cu,rfl,IU.o,BF.o,FR.o⟩
def uC (f:cC->Int)(ars:List cC)(N:Nat):LIn:=((List.range N).filter λ(t:Nat)=>ars.all λa=>f a !=(t:Int)).map λ(t:Nat)=>(t:Int)
def Py (f:cC->Int)(ars:List cC)(k:Nat):uC f ars (k+1)=uC f ars k++if(ars.all λa=>f a !=(k:Int))=true then [(k:Int)]else []:=by
 unfold uC;rw[eF,dP,fB];congr 1
 by_cases h:(ars.all λa=>f a !=(k:Int))=true
 .rw[aG h];simp only[List.filter,h,List.map]
 rw[aD h];have b:(ars.all λa=>f a !=(k:Int))=false:=by simpa using h
 simp only[List.filter,b,List.map]
def IZ (f:cC->Int)(ars:List cC)(k:Nat):(uC f ars k).length<=k:=by
 unfold uC;rw[dQ];exact aT (fC _ _) (by simp)
def RZ (ars:List cC)(t:Int):(JB ars t==0)=ars.all λa=>a.tran != t:=by
 unfold JB;rw[pR];simp only[fA,List.length_eq_zero_iff,List.filter_eq_nil_iff,kY,bne_iff_ne,ne_eq]
def Pz (ars:List cC)(N:Nat):qQ ars N=uC cC.tran ars N:=by
 unfold qQ uC;congr 1
 congr 1
 funext t
 exact RZ ars _
def UZ {f:cC->Bool}{l:List cC}{a:cC}:(l++[a]).all f=(l.all f&&f a):=by simp
def Gk {w:World}{A D:OAd}{n c m d:Nat}{ms:LLi}{ars:List cC}(tr:Int)(h:cQ w A n c ms)(g:qD w D m d ars) :
  Calls Tryz.prog 52 #[.agg #[.slice A n c,.slice D m d],tr] w (JL (qQ ars (min tr 24).toNat).length (qQ ars (min tr 24).toNat) w):=by
 rw[Pz];have Y:=aA (aF w (.cells #[.slice A n c,.slice D m d] 78));obtain⟨M,L⟩:=aK (min tr 24);obtain⟨N,x⟩:=aK (M.toNat);have O:=aA x;rw[L,x];have P:N<=24:=by omega
 clear x;have hn:=h.small;have Z:=g.small;clear h;go_enter Tryz.func52,Tryz.ntmps52
 go_upto_region 3 with fail
 generalize i:w.alloc (.cells #[.slice A n c,.slice D m d] 78)=w0;have q:=aA (show Below w w w0 by rw[<-i];exact Y.o);have X0:=aA (show Box w0 w 78 #[.slice A n c,.slice D m d] by rw[<-i];exact Box.new _ _ _);have G:=aA (Sl.keep qC.kept g q.o);clear L i g;go_loopw [5,12] (λu v wr=>∃j:Nat,j<=N/\v=j/\Hid (aI wr w0 u (uC cC.tran ars j).length (uC cC.tran ars j))/\Hid (Below w0 w0 wr)) (λ_ v _=>N-(intOf v).toNat)
 case atStart=>exact⟨0,aL _,rfl,aJ.nil,aH _ _⟩
 case round =>
  obtain⟨j,hj,rfl,y,l⟩:=hrel;by_cases a0:j<N
  rotate_left
  .obtain rfl:N=j:=by omega
   have z:M<=(N:Int):=by have:=O.o;omega
   have B:=IZ cC.tran ars N;obtain⟨Au,cu,Q,R⟩:=y.o.sl (by omega);have FR:=aA ((y.o.fresh Q).mono q.o.size);have IU:=aA R;subst Q;clear R;go_wp2
   go_ret
   exact⟨Au,cu,rfl,IU.o,q.o.trans (l.o.mono q.o.size),FR.o⟩
  have z:(j:Int)<M:=by have:=O.o;omega
  have S:=aA (Py cC.tran ars j);have B:=IZ cC.tran ars j;obtain⟨c0,c1⟩:=(X0.o.keep l.o).two;obtain⟨r,C⟩:∃r:World,r=wr:=⟨_,rfl⟩;subst C;go_wp2
  clear c0 c1;go_loopw [7,18] (λu v wr=>∃k:Nat,k<=m/\v=k/\(∃b:Bool,u=.bool b/\Hid (b=(ars.take k).all λa=>a.tran !=(j:Int)))/\Hid (Below r r wr)) (λ_ v _=>m-(intOf v).toNat)
  case atStart=>exact⟨0,aL _,rfl,⟨true,rfl,rfl⟩,aH _ _⟩
  obtain⟨k,hk,rfl,⟨ok,rfl,s⟩,o⟩:=hrel;by_cases E:k<m
  .have a1:(k:Int)<(m:Int):=by omega
   obtain⟨bl,a2,a,rfl,a3,ha,q0,q1,q2,_⟩:=qD.get (Sl.keep qC.kept G.o (l.o.trans (o.o.mono l.o.size))) E;have T:=aF wr (.cells #[.int .i64 a.from_,.int .i64 a.tran,.int .i64 a.to_] 114);have WA:=aA (Box.new wr #[.int .i64 a.from_,.int .i64 a.tran,.int .i64 a.to_] 114);have U:=aA (o.o.trans (T.mono o.o.size));go_upto_region 9 with fail
   clear T q0 q1 q2 o;generalize wr.alloc (.cells #[.int .i64 a.from_,.int .i64 a.tran,.int .i64 a.to_] 114)=u0 at *
   generalize wr.heap.size=bx at *
   obtain⟨t0,t1,t2⟩:=WA.o.three;have V:=aA (show(ars.take (k+1)).all (λa=>a.tran !=(j:Int))=(ok&&(a.tran !=(j:Int))) by
    rw[bX ha.o,UZ,<-s.o])
   clear s;cases ok
   .have F:=aA (show false=(ars.take (k+1)).all (λa=>a.tran !=(j:Int)) by rw[V.o,Bool.false_and]);go_wp2
    go_roundw
    case rel=>exact⟨k+1,by omega,by go_num,⟨false,rfl,F⟩,U⟩
    simp[intOf];omega
   have F:=aA (show(a.tran !=(j:Int))=(ars.take (k+1)).all (λa=>a.tran !=(j:Int)) by rw[V.o,Bool.true_and]);go_wp2
   go_roundw
   case rel=>exact⟨k+1,by omega,by go_num,⟨_,rfl,F⟩,U⟩
   simp[intOf];omega
  obtain rfl:k=m:=by omega
  have W:=aA (show ok=ars.all λa=>a.tran !=(j:Int) by have:=s.o;rwa[aW (by rw[G.o.len];exact aB _)]at this);have H:=aA (l.o.trans (o.o.mono l.o.size));have X:=aA (y.o.keep fG.kept o.o);clear s;cases ok
  .have t:=aA (show uC cC.tran ars (j+1)=uC cC.tran ars j by rw[S.o,aD (by rw[<-W.o];simp),j9]);go_wp2
   go_roundw
   case rel=>exact⟨j+1,by omega,by go_num,by rw[t.o];exact X,H⟩
   simp[intOf];omega
  have t:=aA (show uC cC.tran ars (j+1)=uC cC.tran ars j++[(j:Int)] by rw[S.o,aG W.o.symm]);have I:=aA (show(uC cC.tran ars (j+1)).length=(uC cC.tran ars j).length+1 by rw[t.o];simp);have SZ:=aA H.o.size;go_wp2_with (at_builtin;refine dX rfl _ _ rfl rfl rfl (by first|rfl|simp) X.o H.o SZ.o (by omega) ?_;intro v2 w2 e J f;have p:=aA e;have K:=aA f;clear e J f)
  go_roundw
  case rel=>exact⟨j+1,by omega,by go_num,by rw[I.o,t.o];exact p,K⟩
  simp[intOf];omega
def nZ (w:World)(B g n:Nat)(ls:LLi):Prop :=
 ∃a:List Value,w.ownsRow B 24 1 (.slice (some ⟨g,0,none⟩) n n) n a/\ls.length=n/\(∀(k:Nat) (x:LIn),ls[k]?=some x->∃v,a[k]?=some v/\aI w B v x.length x) /\
  (∀(k l:Nat) (u v:Value),k≠l->a[k]?=some u->a[l]?=some v->u.ownBlock=none∨u.ownBlock≠v.ownBlock)
section
variable {w w':World} {B g n:Nat} {ls:LLi}
def nZ.made (h:w.ownsRow B 24 1 (.slice g n n) n (List.replicate n ())):nZ w B g n (List.replicate n []):=by
 refine⟨_,h,List.length_replicate,λk x b=>?_,λk l u v _ c _=>?_⟩
 .obtain⟨a,rfl⟩:=aR.1 b;rw[List.length_replicate]at a;refine⟨_,List.getElem?_replicate_of_lt a, ?_⟩;rw[List.getElem_replicate];exact aJ.nil
 obtain⟨a,rfl⟩:=aR.1 c;rw[List.getElem_replicate];exact .inl rfl
def nZ.keep (h:nZ w B g n ls)(d:Below w w w'):nZ w' B g n ls:=by
 obtain⟨c,e,f,i,j⟩:=h;refine⟨c,e.kept (row:=none) ⟨d.os,d.tape,d.output,d.size,λk l _=>d.block k l⟩ (.inr (by simp[Value.ownBlock])),f,λk x m=>?_,j⟩;obtain⟨v,a,b⟩:=i k x m;exact⟨v,a,b.keep fG.kept d⟩
def nZ.base {f:Nat}(h:nZ w B g n ls)(i:f<=B):nZ w f g n ls:=by
 obtain⟨c,j,l,m,o⟩:=h;refine⟨c,⟨j.1, ?_⟩,l,λk x p=>?_,o⟩
 .rcases j.2 with e|⟨q,cap,d,r,s,t⟩
  .exact .inl e
  exact .inr ⟨q,cap,d,r,aT i s,t⟩
 obtain⟨v,a,b⟩:=m k x p;exact⟨v,a,b.base i⟩
def nZ.lt (h:nZ w B g n ls):B<=g/\g<w.heap.size:=by
 obtain⟨a,b,_⟩:=h;exact b.lt g rfl
def nZ.get (h:nZ w B g n ls){k:Nat}(i:k<n):∃v x,ls[k]?=some x/\w.cell? ⟨g,k,none⟩=some v/\aI w B v x.length x:=by
 obtain⟨c,e,j,f,_⟩:=h;have d:ls[k]?=some (ls[k]'(by omega)):=aV _;obtain⟨v,a,b⟩:=f k _ d;exact⟨v,_,d,by rw[e.cellAt k (by omega)];exact a,b⟩
def nZ.put {w1:World} (h:nZ w B g n ls) {i r cap:Nat} {x:LIn} {y:Int} {v:Value} (M:ls[i]?=some x) (N:w.cell? ⟨g,i,none⟩=some v) (O:w.grownBy w1 v.ownBlock)
  (own:aI w1 B (.slice r (x.length+1) cap) (x.length+1) (x++[y])) (q:v.ownBlock=some r∨w.heap.size<=r) :
  w1.cell? ⟨g,i,none⟩=some v/\w1.frozen? ⟨g,i,none⟩=false/\nZ (w1.setCell ⟨g,i,none⟩ (.slice r (x.length+1) cap)) B g n (ls.set i (x++[y])):=by
 obtain⟨I,j,P,F,G⟩:=h;have T:i<n:=by rw[<-P];exact(aR.1 M).1
 obtain⟨v',a,b⟩:=F i x M;have J:v'=v:=by
  rw[j.cellAt i (by omega),a]at N;injection N
 subst J;have H:=j.kept O (by
  obtain⟨cs,K,_⟩:=b;rcases jC K j (by decide)with e|e
  .exact .inr (by rw[e];simp[Value.ownBlock])
  exact .inr (λo=>e o.symm))
 have D:g≠r:=by
  intro e;subst e;obtain⟨cs,K,_⟩:=own;rcases jC K H (by decide)with e|e
  .cases e
  exact e rfl
 have Q:=(j.lt g rfl).2;refine⟨by rw[H.cellAt i (by omega)];exact a,H.frozenAt i,⟨_,(H.stored i _).1,by rw[kB];exact P,λk z C=>?_,λk l u t s p m=>?_⟩⟩
 .by_cases f:k=i
  .subst f;rw[eQ (by omega)]at C;injection C with C;subst C;refine⟨_,eQ (by have:=j.1;omega), ?_⟩;rw[bL];refine aI.of_row (i5 own.row (λe=>?_) _);simp only[Value.ownBlock,aZ]at e;exact D e.symm
  rw[eG (λe=>f e.symm)]at C;obtain⟨t,c,d⟩:=F k z C;refine⟨t,by rw[eG (λe=>f e.symm)];exact c, ?_⟩;refine aI.of_row (i5 ((d.row).kept O (G k i t v' f c a)) ?_ _);obtain⟨cs,R,_⟩:=d;rcases jC R j (by decide)with e|e
  .rw[e];simp
  exact e
 .by_cases f:k=i
  .subst f;rw[eQ (by have:=j.1;omega)]at p;rw[eG s]at m;injection p with p;subst p;refine .inr (λe=>?_);rcases q with o|o
   .rcases G k l v' t s a m with A|A
    .rw[A]at o;cases o
    exact A (by rw[o];exact e)
   have L:l<ls.length:=by have:=(aR.1 m).1;have:=j.1;omega
   obtain⟨S,c,d⟩:=F l _ (aV L);rw[m]at c;injection c with c;subst c;have:=(d.lt r e.symm).2;omega
  rw[eG (λe=>f e.symm)]at p;by_cases E:l=i
  .subst E;rw[eQ (by have:=j.1;omega)]at m;injection m with m;subst m;have L:k<ls.length:=by have:=(aR.1 p).1;have:=j.1;omega
   obtain⟨S,c,d⟩:=F k _ (aV L);rw[p]at c;injection c with c;subst c;rcases q with o|o
   .rcases G k l u v' f p a with A|A
    .exact .inl A
    exact .inr (λe=>A (e.trans o.symm))
   refine .inr (λe=>?_);have:=(d.lt r e).2;omega
  rw[eG (λe=>E e.symm)]at m;exact G k l u t s p m
def nZ.lists (h:nZ w B g n ls)(o:n<=281474976710656)(p:∀x∈ls,x.length<=17592186043904):cQ w (some ⟨g,0,none⟩) n n ls:=by
 obtain⟨d,k,l,q,y⟩:=h;have r:cD cS 1 w d ls:=by
  refine⟨by rw[k.1,l],λi x m=>?_⟩;obtain⟨v,a,b⟩:=q i x m;have f:=p x (aS m);obtain⟨A,c,e,s⟩:=b.sl (by omega);exact⟨λ_=>v,λj z=>(by
   obtain rfl:j=0:=by omega
   simpa using a),A,x.length,c,e,s,f⟩
 obtain⟨A,c,e,s⟩:=aJ.sl (⟨d,k,r,l⟩:aJ cS 1 w B 24 (.slice g n n) n ls) o;injection e with t C u;subst t u;exact s
end
def nR (key val:cC->Int)(ars:List cC)(k:Int):LIn:=(ars.filter λa=>key a==k).map val
def lT (key val:cC->Int)(ars:List cC)(n:Nat):LLi:=(List.range n).map λ(k:Nat)=>nR key val ars (k:Int)
def I6 (key val:cC->Int)(n:Nat):lT key val [] n=List.replicate n []:=by
 apply fP (by simp[lT])
 intro i a b;simp[lT,nR]
def Aj {key val:cC->Int}{ars:List cC}{n k:Nat}(a:k<n):(lT key val ars n)[k]?=some (nR key val ars (k:Int)):=by simp[lT,a]
def Ak (key val:cC->Int)(l:List cC)(a:cC)(k:Int):nR key val (l++[a]) k=nR key val l k++if key a=k then [val a]else []:=by
 unfold nR;rw[dP,fB];congr 1
 by_cases h:key a=k <;> simp[h]
def DZ {key val:cC->Int}{l:List cC}{a:cC}{n i:Nat}(b:key a=(i:Int)):lT key val (l++[a]) n=(lT key val l n).set i (nR key val l (i:Int)++[val a]):=by
 apply fP (by simp[lT])
 intro j d e;by_cases c:i=j
 .subst c;rw[List.getElem_set_self];simp only[lT,List.getElem_map,uJ];rw[Ak,aG b]
 rw[List.getElem_set_ne c];simp only[lT,List.getElem_map,uJ];rw[Ak,aD (by rw[b];omega),j9]
def Ea (key val:cC->Int)(l:List cC)(k:Int):(nR key val l k).length<=l.length:=by
 unfold nR;rw[dQ];exact fC _ _
def xQ (key val:cC->Int)(l:List cC)(n:Nat):(lT key val l n).length=n:=by simp[lT]
def KQ {key val:cC->Int}{l:List cC}{n:Nat}{x:LIn}(a:x∈lT key val l n):x.length<=l.length:=by
 obtain⟨k,_,rfl⟩:=bZ.1 a;exact Ea _ _ _ _
def KR:(Tryz.prog.info? 24).map (λi=>(i.zero,i.size,i.bytes))=some (some (.slice none 0 0),1,24):=by kernel_rfl
def Xg (ls:LLi)(n:Nat)(w:World)(e:Ending)(w':World):Prop :=
 ∃g,e=.returned (.slice (some ⟨g,0,none⟩) n n)/\nZ w' w.heap.size g n ls/\Below w.heap.size w w'
def Am {w:World}{A D:OAd}{n c m d:Nat}{ms:LLi}{ars:List cC}(_:cQ w A n c ms)(g:qD w D m d ars)(hn:n<=5864062014634)(hm:m<=5864062014634)(b:∀(k:Nat) (a:cC),ars[k]?=some a->0<=a.to_/\a.to_<(n:Int)) :
  Calls Tryz.prog 86 #[.agg #[.slice A n c,.slice D m d],.bool true] w (Xg (lT cC.to_ cC.from_ ars n) n w):=by
 have Y:=aA (aF w (.cells #[.slice A n c,.slice D m d] 78));have B:=aA b;clear b;go_enter Tryz.func86,Tryz.ntmps86
 go_upto_region 1 with fail
 generalize o:w.alloc (.cells #[.slice A n c,.slice D m d] 78)=w0;have u:=aA (show Below w w w0 by rw[<-o];exact Y.o);have N:=aA (show Box w0 w 78 #[.slice A n c,.slice D m d] by rw[<-o];exact Box.new _ _ _);have G:=aA (Sl.keep qC.kept g u.o);have Z:=g.small;clear o g;obtain⟨c0,c1⟩:=N.o.two;go_upto_region 3 with(at_make;refine jH Tryz.underlying30 KR rfl rfl _ _ rfl n rfl rfl rfl rfl (by omega) (by omega) (aH w0 w0) (aB _) ?_;intro w2 f C q;have O:=aA (nZ.made f);have B2:=aA q;have gg:=aA O.o.lt;have a0:=(N.o.keep B2.o).two.2;clear f C q)
 clear c0 c1;go_loopw [17] (λv wr=>∃k:Nat,k<=m/\v=k/\Hid (nZ wr w0 w0 n (lT cC.to_ cC.from_ (ars.take k) n))/\Hid (Below w0 w0 wr)) (λv _=>m-(intOf v).toNat)
 case atStart=>exact⟨0,aL _,rfl,aA (by rw[List.take_zero,I6];exact O.o),B2⟩
 case round =>
  obtain⟨k,hk,rfl,E,r⟩:=hrel;by_cases F:k<m
  rotate_left
  .obtain rfl:k=m:=by omega
   have LF:=aA (show nZ wr w w0 n (lT cC.to_ cC.from_ ars n) by
    have:=E.o.base u.o.size;rwa[aW (by rw[G.o.len];exact aB _)]at this)
   go_wp2
   go_ret
   exact⟨_,rfl,LF.o,u.o.trans (r.o.mono u.o.size)⟩
  have a1:(k:Int)<(m:Int):=by omega
  obtain⟨bl,a2,a,rfl,a3,P,q0,q1,q2,_⟩:=qD.get (Sl.keep qC.kept G.o r.o) F;have H:=aF wr (.cells #[.int .i64 a.from_,.int .i64 a.tran,.int .i64 a.to_] 114);have WA:=aA (Box.new wr #[.int .i64 a.from_,.int .i64 a.tran,.int .i64 a.to_] 114);have I:=aA (r.o.trans (H.mono r.o.size));have Q:=aA (E.o.keep H);go_upto_region 5 with fail
  clear H q0 q1 q2 r E;generalize wr.alloc (.cells #[.int .i64 a.from_,.int .i64 a.tran,.int .i64 a.to_] 114)=u0 at *
  generalize wr.heap.size=bx at *
  obtain⟨t0,t1,R⟩:=WA.o.three;obtain⟨J,K⟩:=B.o k a P.o;obtain⟨i,L⟩:∃i:Nat,a.to_=(i:Int):=⟨a.to_.toNat,by omega⟩;have b:i<n:=by omega
  have a4:(i:Int)<(n:Int):=by omega
  have S:=aA (show lT cC.to_ cC.from_ (ars.take (k+1)) n=(lT cC.to_ cC.from_ (ars.take k) n).set i (nR cC.to_ cC.from_ (ars.take k) (i:Int)++[a.from_]) by rw[bX P.o];exact DZ L);have T:(nR cC.to_ cC.from_ (ars.take k) (i:Int)).length<=k:=aT (Ea _ _ _ _) (by rw[dT];omega);obtain⟨y,M⟩:=aK (a.from_);rw[L]at R;rw[M]at t0;rw[M]at S;clear J K L M;go_wp2
  go_quiet (fail)
  clear t0 t1 R;have U:=aA (Q.o.keep (Drew.drewN u0 nq).below);have V:=aA (I.o.trans ((Drew.drewN u0 nq).below.mono I.o.size));generalize u0.drewN nq=u1 at *
  obtain⟨v,x,p,W,X⟩:=U.o.get b;obtain rfl:x=nR cC.to_ cC.from_ (ars.take k) (i:Int):=by
   have h:=Aj (key:=cC.to_) (val:=cC.from_) (ars:=ars.take k) b;rw[h]at p;injection p with p;exact p.symm
  have HX:=aA p;have OV:=aA X;generalize nR cC.to_ cC.from_ (ars.take k) (i:Int)=z at *
  have HC:=aA W;clear X p Q I;go_wp2_with (at_builtin;refine fV iO rfl _ _ rfl [y] #[.int .i64 y] rfl rfl (by first|rfl|simp) rfl (by omega) (by simp[Value.oneCell']) OV.o (cD.one (vs:=λ_=>.int .i64 y) rfl rfl (λj hj=>(by obtain rfl:j=0:=(by omega);rfl))) rfl V.o V.o.size (by omega) (by omega) (λ_ _ _ _ h=>h) ?_;intro g' cap w5 l s t e;obtain⟨p1,p2,p3⟩:=U.o.put HX.o HC.o s l e;have P3:=aA p3;have B5:=aA t;clear l s t e p3 W)
  go_roundw
  case rel=>exact⟨k+1,by omega,by go_num,aA (by rw[S.o];exact P3.o),aA (B5.o.setCell (aB _) _)⟩
  simp[intOf];omega
def nxt (ars:List cC)(k:Int):LIn:=nR cC.to_ cC.from_ ars k
def Inn (n:Nat)(x:Int):Prop:=0<=x/\x<(n:Int)
def VZ {ars:List cC}{n:Nat}(h:∀a∈ars,Inn n a.from_){k z:Int}(b:z∈nxt ars k):Inn n z:=by
 obtain⟨a,c,rfl⟩:=bZ.1 b;exact h a (bR.1 c).1
structure SpI (ars:List cC)(n:Nat)(src:LIn)(bs:List Bool)(todo:LIn):Prop where
 len:bs.length=n
 had:∀k:Nat,bs[k]?=some true->∃s∈src,kV (nxt ars) s (k:Int)
 due:∀x∈todo,Inn n x/\∃s∈src,kV (nxt ars) s x
 from_:∀s∈src,s∈todo∨bs[s.toNat]?=some true
 next:∀k:Nat,bs[k]?=some true->∀z∈nxt ars (k:Int),z∈todo∨bs[z.toNat]?=some true
section
variable {ars:List cC} {n:Nat} {src todo:LIn} {bs:List Bool} {x:Int}
def SpI.start (h:∀s∈src,Inn n s):SpI ars n src (List.replicate n false) src where
 len:=by simp
 had:=λk a=>by
  obtain⟨c,e⟩:=aR.1 a;rw[List.getElem_replicate]at e;cases e
 due:=λx b=>⟨h x b,x,b,.refl _⟩
 from_:=λs d=>.inl d
 next:=λk a=>by
  obtain⟨c,e⟩:=aR.1 a;rw[List.getElem_replicate]at e;cases e
def SpI.skip (h:SpI ars n src bs (todo++[x]))(c:bs[x.toNat]?=some true):SpI ars n src bs todo where
 len:=h.len
 had:=h.had
 due:=λy d=>h.due y (List.mem_append_left _ d)
 from_:=λs e=>by
  rcases h.from_ s e with a|a
  .rcases cN.1 a with b|b
   .exact .inl b
   rw[bJ.1 b];exact .inr c
  exact .inr a
 next:=λk f z g=>by
  rcases h.next k f z g with a|a
  .rcases cN.1 a with b|b
   .exact .inl b
   rw[bJ.1 b];exact .inr c
  exact .inr a
def SpI.take (h:SpI ars n src bs (todo++[x]))(u:∀a∈ars,Inn n a.from_):SpI ars n src (bs.set x.toNat true) (todo++nxt ars x):=by
 obtain⟨g,t,l,m⟩:=h.due x (List.mem_append_right _ (bJ.2 rfl));have q:x.toNat<bs.length:=by have:=h.len;have:=g.1;have:=g.2;omega
 have f:(bs.set x.toNat true)[x.toNat]?=some true:=eQ q;have i:∀j:Nat,bs[j]?=some true->(bs.set x.toNat true)[j]?=some true:=λj p=>by
  by_cases e:x.toNat=j
  .subst e;exact f
  rw[eG e];exact p
 have c:∀j:Nat,(bs.set x.toNat true)[j]?=some true->(j:Int)=x∨bs[j]?=some true:=λj p=>by
  by_cases e:x.toNat=j
  .left;have:=g.1;omega
  rw[eG e]at p;exact .inr p
 have d:∀z:Int,z∈todo++[x]∨bs[z.toNat]?=some true->z∈todo++nxt ars x∨(bs.set x.toNat true)[z.toNat]?=some true:=λz o=>by
  rcases o with a|a
  .rcases cN.1 a with b|b
   .exact .inl (List.mem_append_left _ b)
   rw[bJ.1 b];exact .inr f
  exact .inr (i _ a)
 refine⟨by rw[kB];exact h.len,λk r=>?_,λy v=>?_,λs w=>d s (h.from_ s w),λk r z o=>?_⟩
 .rcases c k r with e|e
  .rw[e];exact⟨t,l,m⟩
  exact h.had k e
 .rcases cN.1 v with b|b
  .exact h.due y (List.mem_append_left _ b)
  exact⟨VZ u b,t,l,m.last b⟩
 rcases c k r with e|e
 .rw[e]at o;exact .inl (List.mem_append_right _ o)
 exact d z (h.next k e z o)
def SpI.done (h:SpI ars n src bs [])(e:∀s∈src,Inn n s)(f:∀a∈ars,Inn n a.from_)(k:Nat)(_:k<n):bs[k]?=some true↔∃s∈src,kV (nxt ars) s (k:Int):=by
 refine⟨h.had k,λ⟨s,b,g⟩=>?_⟩;have i:∀y:Int,(Inn n y/\bs[y.toNat]?=some true)->∀z∈nxt ars y,(Inn n z/\bs[z.toNat]?=some true):=λy c z d=>by
  refine⟨VZ f d, ?_⟩;rcases h.next y.toNat c.2 z (by rw[Int.toNat_of_nonneg c.1.1];exact d)with a|a
  .simp at a
  exact a
 have:=(g.closedP i ⟨e s b,by
  rcases h.from_ s b with a|a
  .simp at a
  exact a⟩).2
 simpa using this
end
def wV:List Bool->LLi->Nat
 | b::bs,l::ls=>(if b=true then 0 else l.length)+wV bs ls
 | _,_=>0
def I7:∀(bs:List Bool) (ls:LLi) (k:Nat) (l:LIn),bs[k]?=some false->ls[k]?=some l->wV (bs.set k true) ls+l.length=wV bs ls
 | b::bs,m::ls,0,l,a,c=>by
  simp only[aQ,aZ]at a c;subst a c;simp[wV];omega
 | b::bs,m::ls,k+1,l,a,c=>by
  simp only[cB]at a c;have:=I7 bs ls k l a c;simp only[r9,wV];omega
 | [],_,_,_,a,_=>by simp at a
 | _::_,[],_,_,_,c=>by simp at c
def R0:LLi->Nat
 | []=>0
 | l::ls=>l.length+R0 ls
def I8:∀(bs:List Bool) (ls:LLi),wV bs ls<=R0 ls
 | [],ls=>by simp[wV]
 | b::bs,[]=>by simp[wV]
 | b::bs,l::ls=>by
  have:=I8 bs ls;simp only[wV,R0];split <;> omega
def Ny:∀(ls:LLi) (k:Nat) (l:LIn) (y:Int),ls[k]?=some l->R0 (ls.set k (l++[y]))=R0 ls+1
 | m::ls,0,l,y,a=>by
  simp only[aQ,aZ]at a;subst a;simp[R0];omega
 | m::ls,k+1,l,y,a=>by
  simp only[cB]at a;have:=Ny ls k l y a;simp only[r9,R0];omega
 | [],_,_,_,a=>by simp at a
def Nz:∀n,R0 (List.replicate n ([]:LIn))=0
 | 0=>rfl
 | n+1=>by rw[List.replicate_succ];simp[R0,Nz n]
def I9 {key val:cC->Int}{n:Nat}(ars:List cC)(h:∀a∈ars,Inn n (key a)):∀k,k<=ars.length->R0 (lT key val (ars.take k) n)=k
 | 0,_=>by rw[List.take_zero,I6,Nz]
 | k+1,f=>by
  have d:ars[k]?=some (ars[k]'(by omega)):=aV _;have b:=h _ (aS d);obtain⟨i,e⟩:∃i:Nat,key (ars[k]'(by omega))=(i:Int):=⟨_,(Int.toNat_of_nonneg b.1).symm⟩;have c:i<n:=by have:=b.2;omega
  rw[bX d,DZ e,Ny _ _ _ _ (Aj c),I9 ars h k (by omega)]
def Yr (w:World)(g:Nat):Nat->LLi->Nat
 | _,[]=>0
 | j,l::ls=>(match w.cell? ⟨g,j,none⟩ with
  | some (.bool true)=>0
  | _=>l.length)+Yr w g (j+1) ls
def Ja (w:World)(g:Nat):∀(j:Nat) (bs:List Bool) (ls:LLi),bs.length=ls.length->(∀(i:Nat) (b:Bool),bs[i]?=some b->w.cell? ⟨g,j+i,none⟩=some (.bool b))->Yr w g j ls=wV bs ls
 | _,[],[],_,_=>rfl
 | _,[],_::_,a,_=>by simp at a
 | _,_::_,[],a,_=>by simp at a
 | j,b::bs,l::ls,a,h=>by
  have d:=h 0 b rfl;rw[eP]at d;have e:=Ja w g (j+1) bs ls (by simpa using a) (λi c f=>by rw[Nat.add_assoc,Nat.add_comm 1 i];exact h (i+1) c f);unfold Yr wV;rw[d,e];cases b <;> rfl
open Classical in
noncomputable def mV (ars:List cC)(n:Nat)(src:LIn):List Bool:=(List.range n).map λ(k:Nat)=>decide (∃s∈src,kV (nxt ars) s (k:Int))
def SpI.list {ars:List cC}{n:Nat}{src:LIn}{bs:List Bool}(h:SpI ars n src bs [])(c:∀s∈src,Inn n s)(d:∀a∈ars,Inn n a.from_):bs=mV ars n src:=by
 apply fP (by rw[h.len];simp[mV])
 intro k e g;have f:k<n:=by have:=h.len;omega
 have b:=h.done c d k f;rw[aV e,aZ]at b;rw[pR,b];simp[mV]
def KT {α:Type}(l:List α):l=[]∨∃L b,l=L++[b]:=by
 rcases List.eq_nil_or_concat l with h|⟨L,b,h⟩
 .exact .inl h
 exact .inr ⟨L,b,by rw[h,List.concat_eq_append]⟩
def lenOf:Value->Nat
 | .slice _ n _=>n
 | _=>0
def aI.init {w:World}{B g n cap:Nat}{xs:LIn}{y:Int}(h:aI w B (.slice g (n+1) cap) (n+1) (xs++[y])):aI w B (.slice g n cap) n xs:=by
 have c:xs.length=n:=by have:=h.len;simpa using this
 have f:=h.row;refine aI.of_row ⟨by simp[c], ?_⟩;rcases f.2 with⟨e,_⟩|⟨p,d,a,e,i,j,q,k,l,m⟩
 .cases e
 injection e with b r o;subst o;injection b with b;injection b with b;subst b;refine .inr ⟨_,_,a,rfl,i,j,by omega,k,l, ?_⟩;have:a.toList.take (n*1)=(a.toList.take ((n+1)*1)).take (n*1):=by
  rw[List.take_take];congr 1
  omega
 rw[this,m,fB];rw[List.take_append_of_le_length (by simp[c])];exact aW (by simp[c])
def bV (w:World)(B g n:Nat)(bs:List Bool):Prop:=w.ownsRow B 4 1 (.slice (some ⟨g,0,none⟩) n n) n (bs.map Value.bool)
section
variable {w w':World} {B g n:Nat} {bs:List Bool}
def bV.len (h:bV w B g n bs):bs.length=n:=by have:=h.1;simpa using this
def bV.lt (h:bV w B g n bs):B<=g/\g<w.heap.size:=World.ownsRow.lt h g rfl
def bV.at (h:bV w B g n bs){k:Nat}{b:Bool}(a:bs[k]?=some b):w.cell? ⟨g,k,none⟩=some (.bool b):=by
 have c:=(aR.1 a).1;have:=h.len;rw[World.ownsRow.cellAt h k (by omega),dF,a];rfl
def bV.frozen (h:bV w B g n bs)(k:Nat):w.frozen? ⟨g,k,none⟩=false:=World.ownsRow.frozenAt h k
def bV.keep (h:bV w B g n bs)(a:Below w w w'):bV w' B g n bs :=
 World.ownsRow.kept h (row:=none) ⟨a.os,a.tape,a.output,a.size,λk b _=>a.block k b⟩ (.inr (by simp[Value.ownBlock]))
def bV.put (h:bV w B g n bs)(k:Nat)(b:Bool):bV (w.setCell ⟨g,k,none⟩ (.bool b)) B g n (bs.set k b):=by
 have:=(World.ownsRow.stored h k (.bool b)).1;rw[<-List.map_set]at this;exact this
def bV.grown (h:bV w B g n bs){B2 m:Nat}{v:Value}{xs:LIn}(own:aI w B2 v m xs)(a:w.grownBy w' v.ownBlock):bV w' B g n bs:=by
 refine World.ownsRow.kept h a ?_;obtain⟨cs,b,_⟩:=own;rcases jC b h (by decide)with e|e
 .exact .inr (by rw[e];simp[Value.ownBlock])
 exact .inr (λc=>e c.symm)
def bV.phi (h:bV w B g n bs){ls:LLi}(a:ls.length=n):Yr w g 0 ls=wV bs ls :=
 Ja w g 0 bs ls (by rw[h.len,a]) (λi b c=>by rw[Nat.zero_add];exact h.at c)
def bV.besideInts (h:bV w B g n bs){B2 m:Nat}{v:Value}{xs:LIn}(own:aI w B2 v m xs)(k:Nat)(u:Value):aI (w.setCell ⟨g,k,none⟩ u) B2 v m xs:=by
 refine aI.of_row (i5 own.row ?_ _);obtain⟨cs,a,_⟩:=own;rcases jC a h (by decide)with e|e
 .rw[e];simp
 exact e
end
def Zh (bs:List Bool)(n:Nat)(w:World)(e:Ending)(w':World):Prop:=∃g,e=.returned (.slice (some ⟨g,0,none⟩) n n)/\bV w' w.heap.size g n bs/\Below w.heap.size w w'
def Jb {w:World} {A D:OAd} {n c m d:Nat} {src:LIn} {ars:List cC} (h:cQ w A n c (lT cC.to_ cC.from_ ars n)) (g:aY w D m d src) (hn:n<=5864062014634) (Q:ars.length<=5864062014634) (hm:m<=5864062014634)
  (hs:∀s∈src,Inn n s) (ha:∀a∈ars,Inn n a.from_) (B:∀a∈ars,Inn n a.to_) :
  Calls Tryz.prog 85 #[.slice A n c,.slice D m d] w (Zh (mV ars n src) n w):=by
 have H:=aA h;have G:=aA g;have HS:=aA hs;have HA:=aA ha;have R:=aA (show R0 (lT cC.to_ cC.from_ ars n)<=5864062014634 by
  have:=I9 (n:=n) (val:=cC.from_) ars B ars.length (aB _);rw[aW (aB _)]at this;omega)
 clear h g hs ha B Q;go_enter Tryz.func85,Tryz.ntmps85
 go_upto_region 2 with(at_make;refine jH Tryz.underlying82 sD rfl rfl _ _ rfl n rfl rfl rfl rfl (by omega) (by omega) (aH w w) (aB _) ?_;intro w1 p S C;have OB:=aA (show bV w1 w w n (List.replicate n false) by unfold bV;rw[fE];exact p);have N:=aA C;clear p S C)
 go_wp2_with (refine(eY (G.o.keep N.o) (by omega)).mono ?_;rintro e w2 ⟨v2,rfl,O2,T⟩;have OW:=aA (show aI w2 w v2 src.length src by rw[G.o.len];exact O2.base N.o.size);have U:=aA (OB.o.keep T);have B2:=aA (N.o.trans (T.mono N.o.size));clear O2 T)
 go_loopw [6] (λv wr=>∃(bs:List Bool) (todo:LIn),Hid (aI wr w v todo.length todo)/\Hid (bV wr w w n bs)/\Hid (SpI ars n src bs todo)/\Hid (Below w w wr)/\Hid (todo.length+wV bs (lT cC.to_ cC.from_ ars n)<=11728124029268)) (λv wr=>lenOf v+Yr wr w 0 (lT cC.to_ cC.from_ ars n))
 case atStart=>exact⟨_,_,OW,U,SpI.start HS.o,B2,aA (by have:=I8 (List.replicate n false) (lT cC.to_ cC.from_ ars n);have:=R.o;have:=G.o.len;omega)⟩
 case round =>
  obtain⟨bs,todo,O,f,E,V,PH⟩:=hrel;rcases KT todo with rfl|⟨todo,x,rfl⟩
  .obtain⟨Au,cu,hu,_⟩:=O.o.sl (by simp);subst hu;have FN:=aA (E.o.list HS.o HA.o);go_wp2
   go_ret
   exact⟨_,rfl,by rw[<-FN.o];exact f.o,V.o⟩
  obtain⟨g2,cap,rfl,a6,a9⟩:=O.o.form (by simp);obtain⟨k,y⟩:=aK (todo.length);have F:=O.o;have W:=PH.o;rw[show(todo++[x]).length=k+1 by simp[y]]at F W;rw[show(todo++[x]).length=k+1 by simp[y]];have z:=aA W;have r:=aA F;have cx:=F.at (j:=k) (x:=x) (by rw[<-y];simp);obtain⟨⟨X,b0⟩,_⟩:=E.o.due x (List.mem_append_right _ (bJ.2 rfl));obtain⟨q,rfl⟩:∃q:Nat,x=(q:Int):=⟨x.toNat,by omega⟩;have Y:q<n:=by omega
  obtain⟨b,Z⟩:∃b,bs[q]?=some b:=⟨_,aV (by rw[E.o.len];exact Y)⟩;have cb:=f.o.at Z;have fb:=f.o.frozen q;have HB:=aA Z;have b1:k<=11728124029268:=by omega
  have b3:=(F.ints (by omega)).le;have b4:k<=cap:=by omega
  have a4:(k:Int)<=(cap:Int):=by omega
  have a5:¬cap=0:=by omega
  clear F W Z O PH X;cases b
  rotate_left
  .have o:=aA r.o.init;go_wp2
   go_roundw
   case rel=>exact⟨bs,todo,aA (by rw[y];exact o.o),f,E.o.skip HB.o,V,aA (by rw[y];have:=z.o;omega)⟩
   show k+_<k+1+_
   omega
  have I:Below w w (wr.setCell ⟨w.heap.size,q,none⟩ (.bool true)):=V.o.setCell (aB _) _;have t:=f.o.put q true;have u:=f.o.besideInts r.o.init q (.bool true);have a0:=aA (f.o.phi (xQ cC.to_ cC.from_ ars n));go_upto_region 8 with fail
  generalize wr.setCell ⟨w.heap.size,q,none⟩ (.bool true)=w3 at *
  have B3:=aA I;have a1:=aA t;have o:=aA u;clear I t u cx fb cb;obtain⟨bl,b5,l,Bl,ml,dl,rfl,b6,hl,hc,il,b7⟩:=cQ.get (Sl.keep cS.kept H.o B3.o) Y;have IL:=aA il;have RS:=aA (I7 bs _ q l HB.o hl.o);have a2:=il.len;have J:k+ml<=17592186044416:=by have:=RS.o;have:=z.o;omega
  have HL:=aA (show l=nxt ars (q:Int) by
   have P:=hl.o;rw[Aj Y]at P;injection P with P;exact P.symm)
  clear il;go_wp2_with (at_builtin;refine mG rfl _ _ rfl rfl rfl o.o IL.o B3.o.size J B3.o (aB _) ?_;intro v4 w4 i K L _;obtain⟨A4,c4,rfl,_⟩:=i.sl (by omega);have a3:=aA i;have M:=aA (a1.o.grown o.o K);have B4:=aA L;clear i K L)
  go_roundw
  case rel =>
   refine⟨_,todo++l,aA ?_,M,aA ?_,B4,aA ?_⟩
   .rw[bL,y,a2];exact a3.o
   .rw[HL.o];exact E.o.take HA.o
   rw[bL,y];have:=RS.o;have:=z.o;omega
  rw[M.o.phi (xQ _ _ _ _),a0.o];show k+ml+_<k+1+_
  have:=RS.o;omega
abbrev Xh (w:World)(g n:Nat)(bs:List Bool):Prop:=bs.length=n/\∀(k:Nat) (b:Bool),bs[k]?=some b->w.cell? ⟨g,k,none⟩=some (.bool b)
def bV.s {w:World}{B g n:Nat}{bs:List Bool}(h:bV w B g n bs):Xh w g n bs:=⟨h.len,λ_ _ a=>h.at a⟩
def mW {w:World}{g n:Nat}{bs:List Bool}(x:Bool)(h:Xh w g n bs)(q:n<=281474976710656) :
  Calls Tryz.prog 36 #[.slice g n n,.bool x] w λe w'=>e=.returned (.int .i64 (dL (λy=>x==y) bs))/\w=w':=by
 have H:=aA h;clear h;go_enter Tryz.func36,Tryz.ntmps36
 go_wp2
 go_loop [8] (λv=>∃k:Nat,k<=n/\v=k/\Hid (∀j,j<k->∀y,bs[j]?=some y->(x==y)=false)) (λv=>n-(intOf v).toNat)
 case atStart=>exact⟨0,aL _,rfl,λj c=>absurd c (by omega)⟩
 case round =>
  obtain⟨k,r,rfl,lo⟩:=hrel;by_cases d:k<n
  rotate_left
  .go_wp2
   go_ret
   exact⟨a8 (dV (λj c z b=>lo.o j (by have:=H.o.1;omega) z b)).symm,rfl⟩
  have o:(k:Int)<(n:Int):=by omega
  obtain⟨y,a⟩:∃y,bs[k]?=some y:=⟨_,aV (by rw[H.o.1];exact d)⟩;have s:=H.o.2 k y a;have m:=aA a;clear a;by_cases f:x=y
  .subst f;go_wp2
   go_ret
   exact⟨a8 (dU lo.o m.o (by simp)).symm,rfl⟩
  have i:(x==y)=false:=by simpa using f
  have p:=aA i;clear f;go_wp2
  go_round
  case rel =>
   refine⟨k+1,by omega,by go_num,λj c z b=>?_⟩;by_cases l:j=k
   .subst l;have:=m.o;rw[b]at this;injection this with this;rw[this];exact p.o
   exact lo.o j (by omega) z b
  simp[intOf];omega
def at2 (M:List (List Bool))(i j:Nat):Option Bool:=(M[i]?).bind λr=>r[j]?
structure TZ (ars:List cC)(n:Nat)(M:List (List Bool)):Prop where
 len:M.length=n
 row:∀(i:Nat) (r:List Bool),M[i]?=some r->r.length=n
 diag:∀i:Nat,i<n->at2 M i i=some true
 sound:∀i j:Nat,at2 M i j=some true->kV (nxt ars) (j:Int) (i:Int)
def Zi (ars:List cC)(M:List (List Bool)):Prop:=∀a∈ars,∀k:Nat,at2 M k a.from_.toNat=some true->at2 M k a.to_.toNat=some true
open Classical in
noncomputable def An (ars:List cC)(n i:Nat):List Bool:=(List.range n).map λ(j:Nat)=>decide (kV (nxt ars) (j:Int) (i:Int))
noncomputable def T5 (ars:List cC)(n:Nat):List (List Bool):=(List.range n).map λ(i:Nat)=>An ars n i
def U5 {ars:List cC}{n i:Nat}(a:i<n):(T5 ars n)[i]?=some (An ars n i):=by simp[T5,a]
open Classical in
def Eb {ars:List cC}{n i j:Nat}(a:j<n):(An ars n i)[j]?=some (decide (kV (nxt ars) (j:Int) (i:Int))):=by simp[An,a]
def Xi {ars:List cC}{a:cC}(h:a∈ars):a.from_∈nxt ars a.to_:=bZ.2 ⟨a,bR.2 ⟨h,by simp⟩,rfl⟩
section
variable {ars:List cC} {n:Nat} {M:List (List Bool)}
def TZ.full (h:TZ ars n M)(e:∀a∈ars,Inn n a.from_)(f:Zi ars M){x z:Int}(g:kV (nxt ars) x z):Inn n x->at2 M z.toNat x.toNat=some true:=by
 induction g with
 | refl x=>exact λd=>h.diag x.toNat (by have:=d.1;have:=d.2;omega)
 | @step x y z i _ j =>
  intro _;obtain⟨a,b,rfl⟩:=bZ.1 i;obtain⟨b,k⟩:=bR.1 b;have c:a.to_=x:=by simpa using k
  rw[<-c];exact f a b _ (j (e a b))
open Classical in
def TZ.done (h:TZ ars n M)(k:∀a∈ars,Inn n a.from_)(l:Zi ars M):M=T5 ars n:=by
 apply fP (by rw[h.len];simp[T5])
 intro i d q;have r:i<n:=by have:=h.len;omega
 have b:M[i]?=some (M[i]'d):=aV _;have c:=h.row i _ b;simp only[T5,List.getElem_map,uJ];apply fP (by rw[c];simp[An])
 intro j m f;have o:j<n:=by omega
 have g:at2 M i j=some ((M[i]'d)[j]'m):=by unfold at2;rw[b];exact aV _
 have p:(An ars n i)[j]'f=decide (kV (nxt ars) (j:Int) (i:Int)):=by
  have:=Eb (ars:=ars) (n:=n) (i:=i) o;rw[aV f]at this;injection this
 rw[p,pR,bO];constructor
 .intro e;exact h.sound i j (by rw[g,e])
 intro e;have:=h.full k l e ⟨by omega,by omega⟩;simp only[d9]at this;rw[g]at this;injection this
def R6 {k j:Nat}{r:List Bool}(c:M[k]?=some r)(d:j<r.length){i l:Nat}:at2 (M.set k (r.set j true)) i l=if i=k/\l=j then some true else at2 M i l:=by
 have f:k<M.length:=(aR.1 c).1;unfold at2;by_cases a:i=k
 .subst a;rw[eQ f,c];simp only[Option.bind_some];by_cases b:l=j
  .subst b;rw[eQ d,aG ⟨trivial,rfl⟩]
  rw[eG (λe=>b e.symm),aD (λe=>b e.2)]
 rw[eG (λe=>a e.symm),aD (λe=>a e.1)]
def TZ.put (h:TZ ars n M){a:cC}(m:a∈ars)(o:Inn n a.from_)(g:Inn n a.to_){k:Nat}{r:List Bool}(d:M[k]?=some r)(p:r[a.from_.toNat]?=some true):TZ ars n (M.set k (r.set a.to_.toNat true)):=by
 have q:=h.row k r d;have l:a.to_.toNat<r.length:=by have:=g.1;have:=g.2;omega
 refine⟨by rw[kB];exact h.len,λi s b=>?_,λi t=>?_,λi j c=>?_⟩
 .by_cases f:i=k
  .subst f;rw[eQ (aR.1 d).1]at b;injection b with e;rw[<-e,kB];exact q
  rw[eG (λe=>f e.symm)]at b;exact h.row i s b
 .rw[R6 d l];split
  .rfl
  exact h.diag i t
 rw[R6 d l]at c;split at c
 .rename_i e
  obtain⟨rfl,rfl⟩:=e;rw[Int.toNat_of_nonneg g.1];have:=h.sound i a.from_.toNat (by unfold at2;rw[d];exact p);rw[Int.toNat_of_nonneg o.1]at this;exact .step (Xi m) this
 exact h.sound i j c
end
def sW (w:World)(B g n:Nat)(M:List (List Bool)):Prop :=
 ∃(a:List Value) (bl:Nat->Nat),w.ownsRow B 82 1 (.slice (some ⟨g,0,none⟩) n n) n a/\M.length<=n/\(∀(k:Nat) (x:List Bool),M[k]?=some x->a[k]?=some (.slice (some ⟨bl k,0,none⟩) n n)/\bV w B (bl k) n x) /\
  (∀k l:Nat,k<M.length->l<M.length->k≠l->bl k≠bl l)
def bV.base {w:World}{B b g n:Nat}{bs:List Bool}(h:bV w B g n bs)(c:b<=B):bV w b g n bs:=by
 refine⟨h.1, ?_⟩;rcases h.2 with e|⟨d,cap,a,f,i,j⟩
 .exact .inl e
 exact .inr ⟨d,cap,a,f,aT c i,j⟩
def bV.neRow {w:World}{B g b n m:Nat}{bs:List Bool}{a:List Value}(h:bV w B b n bs)(c:w.ownsRow B 82 1 (.slice g m m) m a):b≠g:=by
 intro e;subst e;rcases jC h c (by decide)with e|e
 .cases e
 exact e rfl
section
variable {w w1:World} {B g n:Nat} {M:List (List Bool)}
def sW.made {a:List Value}(h:w.ownsRow B 82 1 (.slice g n n) n a):sW w B g n [] :=
 ⟨a,λ_=>0,h,aL _,λk x b=>by simp at b,λk l c=>by simp at c⟩
def sW.keep (h:sW w B g n M)(d:Below w w w1):sW w1 B g n M:=by
 obtain⟨c,bl,e,f,i,j⟩:=h;refine⟨c,bl,e.kept (row:=none) ⟨d.os,d.tape,d.output,d.size,λk l _=>d.block k l⟩ (.inr (by simp[Value.ownBlock])),f,λk x m=>?_,j⟩;obtain⟨a,b⟩:=i k x m;exact⟨a,b.keep d⟩
def sW.base {f:Nat}(h:sW w B g n M)(i:f<=B):sW w f g n M:=by
 obtain⟨c,bl,j,l,m,o⟩:=h;refine⟨c,bl,⟨j.1, ?_⟩,l,λk x p=>?_,o⟩
 .rcases j.2 with e|⟨q,cap,d,r,s,t⟩
  .exact .inl e
  exact .inr ⟨q,cap,d,r,aT i s,t⟩
 obtain⟨a,b⟩:=m k x p;exact⟨a,b.base i⟩
def sW.lt (h:sW w B g n M):B<=g/\g<w.heap.size:=by
 obtain⟨a,bl,b,_⟩:=h;exact b.lt g rfl
def sW.frozen (h:sW w B g n M)(k:Nat):w.frozen? ⟨g,k,none⟩=false:=by
 obtain⟨a,bl,b,_⟩:=h;exact b.frozenAt k
def sW.cellAny (h:sW w B g n M){k:Nat}(c:k<n):∃v,w.cell? ⟨g,k,none⟩=some v:=by
 obtain⟨a,bl,b,_⟩:=h;refine⟨_,(b.cellAt k (by omega)).trans (aV (by have:=b.1;omega))⟩
def sW.get (h:sW w B g n M){k:Nat}(e:k<M.length):∃b x,M[k]?=some x/\w.cell? ⟨g,k,none⟩=some (.slice (some ⟨b,0,none⟩) n n)/\bV w B b n x:=by
 obtain⟨c,bl,f,j,i,_⟩:=h;have d:M[k]?=some (M[k]'e):=aV _;obtain⟨a,b⟩:=i k _ d;exact⟨_,_,d,by rw[f.cellAt k (by omega)];exact a,b⟩
def sW.push (h:sW w B g n M)(i:Below w w w1){b:Nat}{r:List Bool}(own:bV w1 B b n r)(t:w.heap.size<=b)(A:M.length<n) :
  sW (w1.setCell ⟨g,M.length,none⟩ (.slice b n n)) B g n (M++[r]):=by
 obtain⟨d,bl,u,G,v,C⟩:=h;have o:=u.kept (row:=none) (w':=w1) ⟨i.os,i.tape,i.output,i.size,λk f _=>i.block k f⟩ (.inr (by simp[Value.ownBlock]));have D:=u.1;refine⟨d.set M.length (.slice b n n),λk=>if k=M.length then b else bl k,(o.stored M.length _).1,by rw[bL];exact A,λk x j=>?_,λk l f E p=>?_⟩
 .by_cases f:k=M.length
  .subst f;rw[j7 (aB _),jL]at j;simp only[aQ,aZ]at j;subst j;simp only[if_true];refine⟨eQ (by omega), ?_⟩;exact i5 own (λe=>by simp only[Value.ownBlock,aZ]at e;exact own.neRow o e) _
  have s:k<M.length:=by
   have:=(aR.1 j).1;simp at this;omega
  rw[fO s]at j;obtain⟨a,c⟩:=v k x j;dsimp only
  rw[aD f];refine⟨by rw[eG (λe=>f e.symm)];exact a, ?_⟩;have c1:=c.keep i;exact i5 c1 (λe=>by simp only[Value.ownBlock,aZ]at e;exact c1.neRow o e) _
 .have m:∀q,q<M.length->bl q≠b:=λq F e=>by
   have:=(v q _ (aV F)).2.lt.2;omega
  simp only[bL,bP,fQ]at f E;dsimp only
  by_cases y:k=M.length
  .rw[aG y,aD (by omega)];exact λe=>m l (by omega) e.symm
  rw[aD y];by_cases z:l=M.length
  .rw[aG z];exact m k (by omega)
  rw[aD z];exact C k l (by omega) (by omega) p
def sW.put (h:sW w B g n M){k j b:Nat}{r:List Bool}(o:M[k]?=some r)(p:w.cell? ⟨g,k,none⟩=some (.slice b n n)):sW (w.setCell ⟨b,j,none⟩ (.bool true)) B g n (M.set k (r.set j true)):=by
 obtain⟨d,bl,m,v,s,t⟩:=h;have u:k<M.length:=(aR.1 o).1;obtain⟨a,c⟩:=s k r o;have y:bl k=b:=by
  rw[m.cellAt k (by omega),a]at p;simpa using p
 subst y;refine⟨d,bl,i5 m (λe=>by simp only[Value.ownBlock,aZ]at e;exact c.neRow m e.symm) _,by rw[kB];exact v,λq x f=>?_,λq l z A=>t q l (by simpa using z) (by simpa using A)⟩;by_cases e:q=k
 .subst e;rw[eQ u]at f;injection f with f;subst f;exact⟨a,c.put j true⟩
 rw[eG (λi=>e i.symm)]at f;obtain⟨a2,c2⟩:=s q x f;refine⟨a2,i5 c2 (λi=>?_) _⟩;simp only[Value.ownBlock,aZ]at i;exact t q k (aR.1 f).1 u e i
def sW.uniq {e:List (List Bool)}(h:sW w B g n M)(p:sW w B g n e)(l:M.length=n)(y:e.length=n):M=e:=by
 apply fP (by omega)
 intro k f i;obtain⟨b,x,m,q,o⟩:=h.get f;obtain⟨z,r,c,a,d⟩:=p.get i;rw[q]at a;simp only[aZ,Value.slice.injEq,Addr.mk.injEq,and_true]at a;subst a;have s:M[k]=x:=by rw[aV f]at m;injection m
 have t:e[k]=r:=by rw[aV i]at c;injection c
 rw[s,t];apply fP (by rw[o.len,d.len])
 intro j u v;have a1:=o.at (aV u);have a2:=d.at (aV v);rw[a1]at a2;simpa using a2
end
def V5:List Bool->Nat
 | []=>0
 | b::bs=>(if b=true then 0 else 1)+V5 bs
def R9:List (List Bool)->Nat
 | []=>0
 | r::M=>V5 r+R9 M
def NA:∀(r:List Bool) (j:Nat),r[j]?=some false->V5 (r.set j true)+1=V5 r
 | b::bs,0,h=>by
  simp only[aQ,aZ]at h;subst h;simp[V5];omega
 | b::bs,j+1,h=>by
  simp only[cB]at h;have:=NA bs j h;simp only[r9,V5];omega
 | [],_,h=>by simp at h
def NC:∀(M:List (List Bool)) (k:Nat) (r a:List Bool),M[k]?=some r->R9 (M.set k a)+V5 r=R9 M+V5 a
 | m::M,0,r,a,h=>by
  simp only[aQ,aZ]at h;subst h;simp[R9];omega
 | m::M,k+1,r,a,h=>by
  simp only[cB]at h;have:=NC M k r a h;simp only[r9,R9];omega
 | [],_,_,_,h=>by simp at h
def U6 {M:List (List Bool)}{k j:Nat}{r:List Bool}(a:M[k]?=some r)(b:r[j]?=some false):R9 (M.set k (r.set j true))+1=R9 M:=by
 have c:=NC M k r (r.set j true) a;have d:=NA r j b;omega
open Classical in
noncomputable def Zj (w:World)(B g n:Nat):Nat:=if h:∃M,sW w B g n M/\M.length=n then R9 (Classical.choose h)else 0
def Si {w:World}{B g n:Nat}{M:List (List Bool)}(h:sW w B g n M)(l:M.length=n):Zj w B g n=R9 M:=by
 have hex:∃M,sW w B g n M/\M.length=n:=⟨M,h,l⟩;unfold Zj;rw[dif_pos hex];obtain⟨a,b⟩:=nD hex;rw[a.uniq h b l]
def Jc:(Tryz.prog.info? 82).map (λi=>(i.zero,i.size,i.bytes))=some (some (.slice none 0 0),1,24):=by kernel_rfl
def Sj (n i:Nat):List Bool:=(List.replicate n false).set i true
def idM (n k:Nat):List (List Bool):=(List.range k).map (Sj n)
def U7 (n k:Nat):idM n (k+1)=idM n k++[Sj n k]:=by simp[idM,eF]
def rZ (n k:Nat):(idM n k).length=k:=by simp[idM]
def Jd {n i j:Nat}(b:i<n):(Sj n i)[j]?=some true↔i=j:=by
 unfold Sj;by_cases e:i=j
 .subst e;simp[b]
 rw[eG e];refine⟨λh=>?_,λh=>absurd h e⟩;obtain⟨_,a⟩:=aR.1 h;rw[List.getElem_replicate]at a;cases a
def Ys (ars:List cC)(n:Nat):TZ ars n (idM n n) where
 len:=rZ n n
 row:=λi r c=>by
  obtain⟨k,_,rfl⟩:=bZ.1 (aS c);simp[Sj]
 diag:=λi b=>by
  unfold at2 idM;simp only[dF,List.getElem?_range b,Option.map_some,Option.bind_some];exact(Jd b).2 rfl
 sound:=λi j a=>by
  unfold at2 idM at a;by_cases b:i<n
  .simp only[dF,List.getElem?_range b,Option.map_some,Option.bind_some]at a;obtain rfl:=(Jd b).1 a;exact .refl _
  rw[dC (by simp;omega)]at a;cases a
def CL (M:List (List Bool))(a:cC)(K:Nat):Prop:=∀k:Nat,k<K->at2 M k a.from_.toNat=some true->at2 M k a.to_.toNat=some true
def NJ (M0 M:List (List Bool))(b:Bool)(P:Prop):Prop:=(b=true->R9 M<R9 M0)/\(b=false->M=M0/\P)
def NJ.imp {M0 M:List (List Bool)}{b:Bool}{P P':Prop}(h:NJ M0 M b P)(hp:P->P'):NJ M0 M b P':=⟨h.1,λe=>⟨(h.2 e).1,hp (h.2 e).2⟩⟩
def St (ars:List cC)(n:Nat)(w0 wr:World)(M0:List (List Bool))(b:Bool)(P:Prop):Prop:=∃M,sW wr w0.heap.size w0.heap.size n M/\TZ ars n M/\NJ M0 M b P/\Below w0.heap.size w0 wr
def St.keep {ars:List cC}{n:Nat}{w0 wr w':World}{M0:List (List Bool)}{b:Bool}{P P':Prop}(h:St ars n w0 wr M0 b P)(f:Below wr wr w')(hp:P->P'):St ars n w0 w' M0 b P':=by
 obtain⟨M,a,c,d,e⟩:=h;exact⟨M,a.keep f,c,d.imp hp,e.trans (f.mono e.size)⟩
def Ec:Value->Nat
 | .bool true=>1
 | _=>0
def bV.neBox {w:World}{B b n bx:Nat}{bs:List Bool}{cs:Array Value}(h:bV w B b n bs)(d:Box w bx 114 cs):bx≠b:=by
 intro e;subst e;rcases h.2 with⟨e,_⟩|⟨g,cap,f,e,_,a,_⟩
 .cases e
 injection e with c;injection c with c;injection c with c;subst c;unfold Box at d;rw[d]at a;injection a with a;injection a with _ a;exact absurd a (by decide)
def Yt (M:List (List Bool))(n:Nat)(w:World)(e:Ending)(w':World):Prop:=∃g,e=.returned (.slice (some ⟨g,0,none⟩) n n)/\sW w' w.heap.size g n M/\Below w.heap.size w w'
def BJ {w:World}{A D:OAd}{n c m d:Nat}{ms:LLi}{ars:List cC}(_:cQ w A n c ms)(g:qD w D m d ars)(hn:n<=5864062014634)(hf:∀a∈ars,Inn n a.from_)(ht:∀a∈ars,Inn n a.to_) :
  Calls Tryz.prog 51 #[.agg #[.slice A n c,.slice D m d]] w (Yt (T5 ars n) n w):=by
 have HB:=aA (aF w (.cells #[.slice A n c,.slice D m d] 78));have X0:=aA (Box.new w #[.slice A n c,.slice D m d] 78);have G:=aA (Sl.keep qC.kept g HB.o);have gl:=g.len;have gs:=g.small;have HF:=aA hf;have HT:=aA ht;clear g hf ht;go_enter Tryz.func51,Tryz.ntmps51
 go_upto_region 1 with fail
 generalize w.alloc (.cells #[.slice A n c,.slice D m d] 78)=w0 at *
 obtain⟨P,c1⟩:=X0.o.two;go_upto_region 3 with(at_make;refine jH Tryz.underlying108 Jc rfl rfl _ _ rfl n rfl rfl rfl rfl (by omega) (by omega) (aH w0 w0) (aB _) ?_;intro w2 E a0 Q;have M2:=aA (sW.made E);have B2:=aA Q;clear E a0 Q)
 clear P c1;go_loopw [15] (λv wr=>∃k:Nat,k<=n/\v=k/\Hid (sW wr w0 w0 n (idM n k))/\Hid (Below w0 w0 wr)) (λv _=>n-(intOf v).toNat)
 case atStart=>exact⟨0,aL _,rfl,M2,B2⟩
 case round =>
  obtain⟨k,F,rfl,J,L⟩:=hrel;by_cases o:k<n
  .have R:(k:Int)<(n:Int):=by omega
   obtain⟨P,c1⟩:=(X0.o.keep L.o).two;have mf:=J.o.frozen k;obtain⟨v0,mc⟩:=J.o.cellAny o;go_upto_region 6 with(at_make;refine jH Tryz.underlying82 sD rfl rfl _ _ rfl n rfl rfl rfl rfl (by omega) (by omega) (aH wr wr) (aB _) ?_;intro w3 H a1 s;have S:bV w3 wr wr n (List.replicate n false):=(by unfold bV;rw[fE];exact H);have OB:=aA (S.base L.o.size);clear S;have B3:=aA s;have a2:=(J.o.keep s).frozen k;obtain⟨v3,T⟩:=(J.o.keep s).cellAny o;clear H a1 s)
   have MP:=J.o.push B3.o OB.o (aB _) (by rw[rZ];exact o);rw[rZ]at MP;have U:(w3.setCell ⟨w0.heap.size,k,none⟩ (.slice wr n n)).cell? ⟨w0.heap.size,k,none⟩=some (.slice wr n n):=World.cell?_setCell_same' _ _ _ (by rw[T];rfl);have B4:Below w0 w0 (w3.setCell ⟨w0.heap.size,k,none⟩ (.slice wr n n)):=(L.o.trans (B3.o.mono L.o.size)).setCell (aB _) _;have a3:=aA L.o.size;generalize w3.setCell ⟨w0.heap.size,k,none⟩ (.slice wr n n)=w4 at *
   generalize wr.heap.size=bw at *
   obtain⟨b,x,hx,t,y⟩:=MP.get (k:=k) (by rw[bL,rZ];simp);rw[U]at t;obtain rfl:bw=b:=by simpa using t
   obtain rfl:x=List.replicate n false:=by
    rw[j7 (by rw[rZ];exact aB _),rZ,jL]at hx;simpa using hx.symm
   have MQ:=aA (MP.put (j:=k) hx U);have ME:=aA (show(idM n k++[List.replicate n false]).set k ((List.replicate n false).set k true)=idM n (k+1) by
    rw[U7,List.set_append_right _ _ (by rw[rZ];exact aB _),rZ,jL];rfl)
   have cz:=y.at (k:=k) (b:=false) (by simp[o]);have fz:=y.frozen k;have B5:=aA (show Below w0 w0 (w4.setCell ⟨bw,k,none⟩ (.bool true))from B4.setCell a3.o _);clear t hx y MP mc mf T a2 P c1 B4;go_wp2
   go_roundw
   case rel=>exact⟨k+1,by omega,by go_num,aA (by rw[<-ME.o];exact MQ.o),B5⟩
   simp[intOf];omega
  obtain rfl:n=k:=by omega
  obtain⟨wq,a4⟩:∃wq:World,wq=wr:=⟨_,rfl⟩;subst a4;go_wp2
  go_loopw [5] (λu wr=>∃(b:Bool) (M:List (List Bool)),u=.bool b/\Hid (sW wr w0 w0 n M)/\Hid (TZ ars n M)/\Hid (b=false->Zi ars M)/\Hid (Below w0 w0 wr)) (λu wr=>Zj wr w0 w0 n+Ec u)
  case atStart=>exact⟨true,_,rfl,J,Ys ars n,aA (λe=>(by cases e)),L⟩
  obtain⟨b,M,rfl,MX,MI,MC,BX⟩:=hrel;cases b
  .have FN:=aA (MI.o.done HF.o (MC.o rfl));go_wp2
   go_ret
   exact⟨_,rfl,by rw[<-FN.o];exact MX.o.base HB.o.size,HB.o.trans (BX.o.mono HB.o.size)⟩
  obtain⟨M0,a5⟩:=bS (M);subst a5;have MF:=aA (Si MX.o MI.o.len);obtain⟨P,c1⟩:=(X0.o.keep BX.o).two;have V:=aA (show St ars n w0 wr M0 false True from⟨M0,MX.o,MI.o,⟨λe=>(by cases e),λ_=>⟨rfl,trivial⟩⟩,BX.o⟩);obtain⟨wp,a6⟩:∃wp:World,wp=wr:=⟨_,rfl⟩;subst a6;clear MX MI MC BX;go_wp2
  clear P c1;go_loopw [5,36] (λu v wr=>∃q:Nat,q<=m/\v=q/\∃b:Bool,u=.bool b/\Hid (St ars n w0 wr M0 b (∀(j:Nat) (a:cC),j<q->ars[j]?=some a->CL M0 a n))) (λ_ v _=>m-(intOf v).toNat)
  case atStart=>exact⟨0,aL _,rfl,false,rfl,aA (V.o.keep (aH _ _) (λ_ j a z=>absurd z (by omega)))⟩
  obtain⟨q,hq,rfl,b,rfl,I⟩:=hrel;by_cases o:q<m
  rotate_left
  .obtain rfl:q=m:=by omega
   obtain⟨M,s1,s2,s3,s4⟩:=I.o;have S1:=aA s1;have S2:=aA s2;have S3:=aA s3;have S4:=aA s4;clear s1 s2 s3 s4;go_wp2
   go_roundw
   case rel =>
    refine⟨b,M,rfl,S1,S2,aA (λe=>?_),S4⟩;obtain⟨e1,e2⟩:=S3.o.2 e;subst e1;intro a N k F;obtain⟨j,z,rfl⟩:=hZ N;refine e2 j _ (by omega) (aV z) k ?_ F;rcases Nat.lt_or_ge k n with l|l
    .exact l
    unfold at2 at F;rw[dC (by rw[S2.o.len];exact l)]at F;cases F
   rw[Si S1.o S2.o.len,MF.o];cases b
   .obtain⟨e1,_⟩:=S3.o.2 rfl;subst e1;simp[Ec]
   have:=S3.o.1 rfl;simp[Ec];omega
  have R:(q:Int)<(m:Int):=by omega
  obtain⟨bl,b3,a,rfl,b4,N,q0,q1,q2,_⟩:=qD.get (Sl.keep qC.kept G.o I.o.choose_spec.2.2.2) o;have bb:=aF wr (.cells #[.int .i64 a.from_,.int .i64 a.tran,.int .i64 a.to_] 114);have WA:=aA (Box.new wr #[.int .i64 a.from_,.int .i64 a.tran,.int .i64 a.to_] 114);have SB:=aA (I.o.keep bb (P':=(∀(j:Nat) (a:cC),j<q->ars[j]?=some a->CL M0 a n)/\CL M0 a 0) (λh=>⟨h,λk F=>absurd F (by omega)⟩));have W:=aA (HF.o a (aS N.o));have X:=aA (HT.o a (aS N.o));go_upto_region 14 with fail
  clear bb q0 q1 q2 I;generalize wr.alloc (.cells #[.int .i64 a.from_,.int .i64 a.tran,.int .i64 a.to_] 114)=u0 at *
  generalize wr.heap.size=bx at *
  go_wp2
  go_loopw [5,42] (λu v wr=>∃k:Nat,k<=n/\v=k/\(∃b:Bool,u=.bool b/\Hid (St ars n w0 wr M0 b ((∀(j:Nat) (a:cC),j<q->ars[j]?=some a->CL M0 a n)/\CL M0 a k)))/\Hid (Box wr bx 114 #[.int .i64 a.from_,.int .i64 a.tran,.int .i64 a.to_])) (λ_ v _=>n-(intOf v).toNat)
  case atStart=>exact⟨0,aL _,rfl,⟨b,rfl,SB⟩,WA⟩
  obtain⟨k,F,rfl,⟨b,rfl,I⟩,Y⟩:=hrel;by_cases a9:k<n
  rotate_left
  .obtain rfl:n=k:=by omega
   go_wp2
   go_roundw
   case rel =>
    refine⟨q+1,by omega,by go_num,b,rfl,aA (I.o.keep (aH _ _) (λh j a' z p=>?_))⟩;by_cases b0:j=q
    .subst b0;rw[N.o]at p;injection p with p;rw[<-p];exact h.2
    exact h.1 j a' (by omega) p
   simp[intOf];omega
  have R:(k:Int)<(n:Int):=by omega
  obtain⟨M,s1,s2,s3,s4⟩:=I.o;obtain⟨br,r,hr,t,y⟩:=s1.get (k:=k) (by rw[s2.len];exact a9);have b1:=y.len;obtain⟨f1,f2⟩:=W.o;obtain⟨g1,g2⟩:=X.o;obtain⟨i,hi⟩:∃i:Nat,a.from_=(i:Int):=⟨a.from_.toNat,by omega⟩;obtain⟨j,z⟩:∃j:Nat,a.to_=(j:Int):=⟨a.to_.toNat,by omega⟩;have b5:i<n:=by omega
  have b6:j<n:=by omega
  have b7:(i:Int)<(n:Int):=by omega
  have b9:(j:Int)<(n:Int):=by omega
  obtain⟨v1,B⟩:∃v,r[i]?=some v:=⟨_,aV (by omega)⟩;obtain⟨v2,C⟩:∃v,r[j]?=some v:=⟨_,aV (by omega)⟩;have NO:=aA (show(v1=true->v2=true)->St ars n w0 wr M0 b ((∀(j:Nat) (a:cC),j<q->ars[j]?=some a->CL M0 a n)/\CL M0 a (k+1))from λhv=>⟨M,s1,s2,⟨s3.1,λe=>⟨(s3.2 e).1,(s3.2 e).2.1,λq' c5 l=>by
   by_cases e2:q'=k
   .subst e2;have e3:=(s3.2 e).1;subst e3;unfold at2 at l ⊢;rw[hr]at l ⊢;rw[hi]at l;rw[z];simp only[d9,Option.bind_some]at l ⊢;rw[B]at l;injection l with l;rw[C,hv l]
   exact(s3.2 e).2.2 q' (by omega) l⟩⟩,s4⟩)
  have x1:=y.at B;have x2:=y.at C;obtain⟨t0,t1,O⟩:=Y.o.three;rw[hi]at t0;rw[z]at O;have S1:=aA s1;have S2:=aA s2;have S3:=aA s3;have S4:=aA s4;have HR:=aA hr;have HC:=aA t;have HO:=aA y;have b2:=aA B;have Z:=aA C;have HI:=aA hi;have HJ:=aA z;clear s1 s2 s3 s4 hr y b1 f1 f2 g1 g2 hi z B C I;cases v1
  .go_upto_region 17 with fail
   go_quiet (fail)
   have f:=aA (Drew.drewN wr nq).below;go_wp2
   go_roundw
   case rel=>exact⟨k+1,by omega,by go_num,⟨b,rfl,aA ((NO.o (λe=>by cases e)).keep f.o id)⟩,aA (Y.o.keep f.o)⟩
   simp[intOf];omega
  cases v2
  rotate_left
  .go_upto_region 17 with fail
   go_quiet (fail)
   have f:=aA (Drew.drewN wr nq).below;go_wp2
   go_roundw
   case rel=>exact⟨k+1,by omega,by go_num,⟨b,rfl,aA ((NO.o (λ_=>rfl)).keep f.o id)⟩,aA (Y.o.keep f.o)⟩
   simp[intOf];omega
  go_upto_region 17 with fail
  go_quiet (fail)
  have f:=aA (Drew.drewN wr nq).below;have T1:=aA (S1.o.keep f.o);have T4:=aA (S4.o.trans (f.o.mono S4.o.size));have TW:=aA (Y.o.keep f.o);have TO:=aA (HO.o.keep f.o);have TC:=aA ((f.o.cell (S1.o.lt.2)).trans HC.o);generalize wr.drewN nq=u1 at *
  clear x1 x2 t0 t1 O t f S1 S4 Y HO HC V;go_upto_region 18 with fail
  obtain⟨t0,t1,O⟩:=TW.o.three;rw[HJ.o]at O;have t:=TC.o;have f:=aA ((aH u1 u1).drew);refine aN 7 (.takes [0,1,2,3,4,5,6] (.fins [7,8] .done)) (λw'=>w'.cell? ⟨w0.heap.size,k,none⟩=some (.slice br n n)/\w'.cell? ⟨bx,2,none⟩=some (.int .i64 j)) (by kernel_rfl) (by kernel_rfl) (by kernel_rfl) (λ_ _ _ _ _ h=>h) ⟨t,O⟩ (λhH=>?_);simp only[Scr.takes,Scr.fins];have R1:=aA (T1.o.keep f.o);have R4:=aA (T4.o.trans (f.o.mono T4.o.size));have RW:=aA (TW.o.keep f.o);have RO:=aA (TO.o.keep f.o);have RC:=aA ((f.o.cell (T1.o.lt.2)).trans TC.o);generalize u1.drew=u2 at *
  iterate 7
   refine aM (v:=?_) rfl (by rfl) hH (λw' c6=>?_) ?_
   rotate_left
   ·(go_simp;try with_reducible rfl)
   simp only[aC]
  clear hH t0 t1 O t;have x2:=RO.o.at Z.o;have xf:=RO.o.frozen j
  iterate 2
   refine cH rfl (λK hK=>?_);go_simp
   refine hK.out _ _ ?_;clear hK;try simp only[aC]
  refine cE ?_;clear x2 xf;have NS:=aA (show St ars n w0 (u2.setCell ⟨br,j,none⟩ (.bool true)) M0 true ((∀(j:Nat) (a:cC),j<q->ars[j]?=some a->CL M0 a n)/\CL M0 a (k+1))from⟨M.set k (r.set j true),R1.o.put HR.o RC.o,(by
   have:=S2.o.put (aS N.o) W.o X.o HR.o (by rw[HI.o];exact b2.o);rw[HJ.o]at this;exact this),⟨λ_=>(by
    have l:=U6 HR.o Z.o;cases hb:b
    .have h2:=(S3.o.2 hb).1;subst h2;omega
    have h2:=S3.o.1 hb;omega),λe=>(by cases e)⟩,R4.o.setCell (aT (RO.o.lt.1) (aB _)) _⟩)
  have NB:=aA (RW.o.other (a:=⟨br,j,none⟩) (.bool true) (RO.o.neBox RW.o));go_wp2
  go_roundw
  case rel=>exact⟨k+1,by omega,by go_num,⟨true,rfl,NS⟩,NB⟩
  simp[intOf];omega
open Classical
open Classical
def U8 (p:LIn->Bool)(ms:LLi)(k:Nat):LIn:=((List.range k).filter λj=>(ms[j]?).any p).map λ(j:Nat)=>(j:Int)
def Je {p:LIn->Bool}{ms:LLi}{k:Nat}{x:LIn}(h:ms[k]?=some x):U8 p ms (k+1)=U8 p ms k++if p x=true then [(k:Int)]else []:=by
 unfold U8;rw[eF,dP,fB];cases hp:p x <;> simp[h,hp]
def Xj {p:LIn->Bool}{ms:LLi}{k n:Nat}(c:k<=n):∀s∈U8 p ms k,Inn n s:=by
 intro s a;obtain⟨j,b,rfl⟩:=bZ.1 a;have:=bM.1 (bR.1 b).1;exact⟨by omega,by omega⟩
def PC {N:eB}{M:Nat}{m:LIn}{f:Int}:∀(l:LIn) {s a:PSp} (_:kG N M m f l (some s)=some a),a.arcs.length<=s.arcs.length+l.length:=by
 intro l;induction l with
 | nil =>
  intro s a h;have:s=a:=by simpa [kG] using h
  subst this;simp
 | cons t l c =>
  intro s a h;have b:kG N M m f l (eS N M m f s t)=some a:=h;cases h1:eS N M m f s t with
  | none=>rw[h1,vQ]at b;cases b
  | some s1 =>
   rw[h1]at b;have d:=c b;have e:s1.arcs.length<=s.arcs.length+1:=by
    unfold eS at h1;split at h1
    .simp only[aZ]at h1;subst h1;omega
    split at h1
    .have:=Qn h1;omega
    cases h1
   simp only[bP];omega
def U9 {N:eB}{M:Nat}:∀(g f:Nat) {s a:PSp} (_:goM N M g f s=some a),a.arcs.length<=s.arcs.length+g*N.trans.length:=by
 intro g;induction g with
 | zero =>
  intro f s a h;have:s=a:=by simpa [goM] using h
  subst this;omega
 | succ g b =>
  intro f s a h;unfold goM at h;split at h
  .cases h1:Hh N M f s with
   | none=>rw[h1]at h;cases h
   | some s1 =>
    rw[h1]at h;have c:=b (f+1) h;have d:=PC _ h1;have e:(EA N.trans.length).length=N.trans.length:=by simp[EA]
    rw[Nat.succ_mul];omega
  simp only[aZ]at h;subst h;omega
def qR {N:eB}{m:LIn}{most:Int}(h:(eD N m most).2=0):(eD N m most).1.arcs.length<=7200:=by
 unfold eD at h ⊢;split at h
 .rename_i a
  rw[aG a];cases hg:goM N most.toNat most.toNat 0 ⟨[m],[]⟩ with
  | none=>rw[hg]at h;simp at h
  | some s1 =>
   have b:=U9 _ _ hg;have c:N.trans.length<=24:=((bN _).1 ((cR _ _).1 a.2.2).1).2.2.1;have d:most.toNat*N.trans.length<=300*24:=Nat.mul_le_mul (by omega) c;simp only[fQ]at b;show s1.arcs.length<=7200
   omega
 simp at h
def ZI (bs:List Bool)(n:Nat)(w:World)(e:Ending)(w':World):Prop:=∃g,e=.returned (.slice (some ⟨g,0,none⟩) n n)/\Xh w' g n bs/\Below w.heap.size w w'
def Jf {w:World}{A D:OAd}{n c m d:Nat}{ms:LLi}{ars:List cC}{F:FuncId}{cap:Array Value}{p:LIn->Bool}(h:cQ w A n c ms)(g:qD w D m d ars)(hp:EV F cap w p)(hn:n<=300)(hm:m<=7200)(L:∀a∈ars,Inn n a.from_)(y:∀a∈ars,Inn n a.to_) :
  Calls Tryz.prog 34 #[.agg #[.slice A n c,.slice D m d],.func (.func F) #[] cap] w (ZI (mV ars n (U8 p ms n)) n w):=by
 have M:=aA (aF w (.cells #[.slice A n c,.slice D m d] 78));have N:=aA (Box.new w #[.slice A n c,.slice D m d] 78);have r:=hp.enters;have H:=aA h;have G:=aA g;have Y:=aA hp;have Z:=aA L;have HT:=aA y;have a0:ars.length=m:=g.len;have z:=aA (show ∀(k:Nat) (a:cC),ars[k]?=some a->0<=a.to_/\a.to_<(n:Int)from λk a O=>y a (aS O));clear h g hp L y;go_enter Tryz.func34,Tryz.ntmps34
 go_upto_region 1 with fail
 generalize w.alloc (.cells #[.slice A n c,.slice D m d] 78)=w0 at *
 obtain⟨P,c1⟩:=N.o.two;go_wp2
 go_loopw [5,11] (λv i wr=>∃(k l:Nat),k<=n/\i=k/\l<=k/\Hid (aI wr w0 v l (U8 p ms k))/\Hid (Below w0 w0 wr)) (λ_ i _=>n-(intOf i).toNat)
 case atStart=>exact⟨0,0,aL _,rfl,aL _,aJ.nil,aH _ _⟩
 case round =>
  obtain⟨k,l,O,rfl,a1,B,s⟩:=hrel;have f:=aA (M.o.trans (s.o.mono M.o.size));clear P c1;by_cases C:k<n
  .have a2:(k:Int)<(n:Int):=by omega
   obtain⟨b,a3,x,A1,n1,c1,rfl,Q,u,q0,R,a4⟩:=cQ.get (Sl.keep cS.kept H.o f.o) C;have CL:=aA (Y.o.calls wr A1 n1 c1 x f.o R);have E:=aA (Je (p:=p) u.o);obtain⟨q,S⟩:=aK (p x);rw[S]at CL E;clear S R u;cases q
   .go_wp2_with (refine CL.o.mono ?_;rintro e w' ⟨rfl,o⟩;have j:=aA o;clear o)
    go_roundw
    case rel=>exact⟨k+1,l,by omega,by go_num,by omega,by rw[E.o];exact aA (by simpa using B.o.keep fG.kept j.o),aA (s.o.trans (j.o.mono s.o.size))⟩
    simp[intOf];omega
   go_wp2_with (first
    |(at_builtin;refine dX rfl _ _ rfl rfl rfl (by first|rfl|simp) (B.o.keep fG.kept j.o) (s.o.trans (j.o.mono s.o.size)) (s.o.trans (j.o.mono s.o.size)).size (by omega) ?_;intro v2 w2 t a5 I)
    |(refine CL.o.mono ?_;rintro e w' ⟨rfl,o⟩;have j:=aA o;clear o))
   go_roundw
   case rel=>exact⟨k+1,l+1,by omega,by go_num,by omega,by rw[E.o];exact t,I⟩
   simp[intOf];omega
  obtain rfl:k=n:=by omega
  obtain⟨A2,c2,hv,T⟩:=B.o.sl (by omega);subst hv;have I2:=aA T;obtain⟨P,c1⟩:=(N.o.keep s.o).two;have LB:=aA (Am (Sl.keep cS.kept H.o f.o) (Sl.keep qC.kept G.o f.o) (by omega) (by omega) z.o);have SP:=aA (λ(J:World) (A3:OAd) (c3:Nat) (Q:Below wr wr J) (hl:cQ J A3 k c3 (lT cC.to_ cC.from_ ars k))=>Jb hl (Sl.keep fG.kept I2.o Q) (by omega) (by omega) (by omega) (Xj (aB _)) Z.o HT.o);clear T r;go_wp2_with (first
   |(go_at_call 86;(with_reducible refine LB.o.mono ?_);rintro e J ⟨g3,rfl,U,V⟩;have LW:=aA (U.lists (by omega) (λx u=>by have:=KQ u;omega));have K:=aA V;clear U V)
   |(go_at_call 85;(with_reducible refine(SP.o _ _ _ K.o LW.o).mono ?_);rintro e w4 ⟨g4,rfl,W,X⟩;have OB:=aA W.s;have B4:=aA X;clear W X))
  go_ret
  exact⟨g4,rfl,OB.o,(f.o.trans (K.o.mono f.o.size)).trans (B4.o.mono (f.o.trans (K.o.mono f.o.size)).size)⟩
def Jg {α:Type}{p:α->Bool}{ms:List α}{k:Nat}{x:α}(h:∀j,j<k->∀y,ms[j]?=some y->p y=false)(a:ms[k]?=some x)(hp:p x=true):ms.find? p=some x:=by
 obtain⟨b,e⟩:=aR.1 a;rw[List.find?_eq_some_iff_getElem];exact⟨hp,k,b,e,λj c=>by simpa using h j c _ (aV (by omega))⟩
def Jh {α:Type}{p:α->Bool}{ms:List α}(h:∀j,j<ms.length->∀y,ms[j]?=some y->p y=false):ms.find? p=none:=by
 rw[List.find?_eq_none];intro x b;obtain⟨j,a⟩:=l6.1 b;have:=h j (aR.1 a).1 x a;simp[this]
def KU {α:Type}{p:α->Bool}{bs:List α}{a:Option Nat}(h:bs.findIdx? p=a):dL p bs=a.elim (-1) (λk=>(k:Int)):=by
 unfold dL;rw[h];cases a <;> rfl
abbrev Zk:=Int×LIn×Int
def iV (e m:LIn):Bool:=eJ m e&&!(m==e)
noncomputable def onL (s:PSp)(e:LIn):List Bool:=mV s.arcs s.marks.length (U8 (λm=>m==e) s.marks s.marks.length)
noncomputable def r6 (s:PSp)(e:LIn)(a:LIn):Zk :=
 match s.marks.find? (iV e) with
 | some m=>(2,m,0)
 | none=>match(onL s e).findIdx? (λy=>false==y) with
  | some k=>(3,s.marks.getD k [],0)
  | none=>match a with
   | t::_=>(4,[],t)
   | []=>(1,[],0)
noncomputable def gP (N:eB)(i o most:Int):Zk×Int :=
 if eE N i o=0 then(if(eD N (lX (min N.places 16).toNat i) most).2=0 then(r6 (eD N (lX (min N.places 16).toNat i) most).1 (lX (min N.places 16).toNat o) (qQ (eD N (lX (min N.places 16).toNat i) most).1.arcs (min (N.trans.length:Int) 24).toNat),0)
  else((0,[],0),(eD N (lX (min N.places 16).toNat i) most).2))else((0,[],0),eE N i o)
def xR {N:eB}{i o most:Int}(h:eE N i o≠0):gP N i o most=((0,[],0),eE N i o):=by rw[gP,aD h]
def Ee {N:eB}{i o most:Int}{g:PSp×Int}(h:eE N i o=0)(a:eD N (lX (min N.places 16).toNat i) most=g)(b:g.2≠0):gP N i o most=((0,[],0),g.2):=by rw[gP,aG h,a,aD b]
def Ef {N:eB}{i o most:Int}{s:PSp}(h:eE N i o=0)(a:eD N (lX (min N.places 16).toNat i) most=(s,0)):gP N i o most=(r6 s (lX (min N.places 16).toNat o) (qQ s.arcs (min (N.trans.length:Int) 24).toNat),0):=by rw[gP,aG h,a,aG rfl]
def xT {s:PSp}{e m d:LIn}(h:s.marks.find? (iV e)=some m):r6 s e d=(2,m,0):=by unfold r6;simp only[h]
def xU {s:PSp}{e m d:LIn}{k:Nat}(h:s.marks.find? (iV e)=none)(a:(onL s e).findIdx? (λy=>false==y)=some k)(b:s.marks[k]?=some m):r6 s e d=(3,m,0):=by
 unfold r6;simp only[h,a,cJ,b,j6]
def Ap {s:PSp}{e d:LIn}{t:Int}(h:s.marks.find? (iV e)=none)(a:(onL s e).findIdx? (λy=>false==y)=none):r6 s e (t::d)=(4,[],t):=by
 unfold r6;simp only[h,a]
def xW {s:PSp}{e:LIn}(h:s.marks.find? (iV e)=none)(a:(onL s e).findIdx? (λy=>false==y)=none):r6 s e []=(1,[],0):=by
 unfold r6;simp only[h,a]
def pL {N:eB}{i o:Int}(h:eE N i o=0):2<=N.places/\gV N=true:=by
 unfold eE at h;split at h
 .rename_i a
  split at h
  .rename_i b
   simp only[inB,cA,bO]at b;exact⟨by omega,a⟩
  simp at h
 simp at h
def aY.farV {w:World}{A B:OAd}{n c m d b ty:Nat}{x y:Int}{xs:LIn}(h:aY w A n c xs)(D:2<=n)(r:Box w b ty #[x,.slice B m d,y]):∀l f,A=some ⟨l,f,none⟩->0<n->l≠b:=by
 intro l f e _ p;subst p;obtain⟨E,q,o,s,t⟩:=h.cells (by omega);rw[e]at o;injection o with o;injection o with u v;subst u v;have key:∀j,j<n->∃z,w.cell? ⟨l,f+j,none⟩=some (.int .i64 z):=λj C=>by
  obtain⟨vs,a,b⟩:=t j _ (aV (by rw[h.len];exact C));have:=a 0 (by omega);rw[b]at this;exact⟨_,by simpa using this⟩
 obtain⟨z0,g⟩:=key 0 (by omega);obtain⟨F,i⟩:=key 1 (by omega);have c:∀j,w.cell? ⟨l,j,none⟩=(#[x,.slice B m d,y]:Array Value)[j]?:=λj=>r.cell j
 rw[c]at g i;match f,g,i with
 | 0,_,i=>simp at i
 | 1,g,_=>simp at g
 | 2,_,i=>simp at i
 | k+3,g,_=>simp at g
def aY.setV {w:World}{A B:OAd}{n c m d b ty:Nat}{x y:Int}{xs:LIn}(h:aY w A n c xs)(g:2<=n)(i:Box w b ty #[x,.slice B m d,y])(v0 v1 v2:Value):aY (((w.setCell b v0).setCell ⟨b,1,none⟩ v1).setCell ⟨b,2,none⟩ v2) A n c xs:=by
 refine h.same (by simp[World.setCell]) (λj f e k _=>?_);have a:=h.farV g i j f e k;rw[eN _ _ _ _ a,eN _ _ _ _ a,eN _ _ _ _ a]
def cQ.besideZ {w:World}{b ty:Nat}{A:OAd}{n c:Nat}{ms:LLi}(h:cQ w A n c ms)(y:∀x∈ms,2<=x.length)(m:Box w b ty #[(),()])(u v:Value):cQ ((w.setCell b u).setCell ⟨b,1,none⟩ v) A n c ms :=
 ⟨h.len,h.le,h.cap,h.small,h.nul,λz=>by
  have k:=d8.set2 w b 0 1 u v;obtain⟨o,a,e,d,B⟩:=h.cells z;refine⟨o,a,e,by rw[k.1];exact d,λi x p=>?_⟩;obtain⟨vs,q,A2,n2,c2,r,s,C⟩:=B i x p;refine⟨vs,λj D=>?_,A2,n2,c2,r,s.beside m L7 k,C⟩;by_cases f:o=b
  .subst f;exfalso
   have g:=q 0 (by omega);have E:=y x (aS p);rw[s.len]at E;rw[m.cell,r]at g;rcases Nat.lt_or_ge (a+i*1+0) 2 with d|l
   .have:a+i*1+0=0∨a+i*1+0=1:=by omega
    rcases this with t|t <;> rw[show a+(i*1+0)=a+i*1+0 from rfl,t]at g <;> simp at g <;> omega
   rw[Array.getElem?_eq_none (by simpa using l)]at g;cases g
  rw[k.cell (by simpa using f)];exact q j D⟩
def qD.besideZ {w:World}{b ty:Nat}{A:OAd}{n c:Nat}{ars:List cC}(h:qD w A n c ars)(p:Box w b ty #[(),()])(u v:Value):qD ((w.setCell b u).setCell ⟨b,1,none⟩ v) A n c ars :=
 ⟨h.len,h.le,h.cap,h.small,h.nul,λq=>by
  have g:=d8.set2 w b 0 1 u v;obtain⟨k,d,e,f,r⟩:=h.cells q;refine⟨k,d,e,by rw[g.1];exact f,λi x s=>?_⟩;obtain⟨vs,l,m⟩:=r i x s;refine⟨vs,λj t=>?_,m⟩;by_cases a:k=b
  .subst a;exfalso
   have o:=l 0 (by omega);rw[p.cell,m.1]at o;exact L7 _ _ o
  rw[g.cell (by simpa using a)];exact l j t⟩
def Zx (p:Zk×Int)(w:World)(e:Ending)(w':World):Prop :=
 ∃A n c,e=.returned (.tuple #[.agg #[.int .i64 p.1.1,.slice A n c,.int .i64 p.1.2.2],.int .i64 p.2])/\aY w' A n c p.1.2.1/\Below w.heap.size w w'
def PD {w:World}{bn n c:Nat}{A:OAd}{xs:LIn}(x:Box w bn 24 #[.slice A n c])(h:aY w A n c xs):EV 35 #[.pointer bn] w (λy=>y==xs) where
 enters:=λargs w=>by kernel_rfl
 calls:=λwr A1 n1 c1 y a b=>by
  have q:=(x.keep a).cell 0;simp only[aP,aQ]at q;have H:=aA (h.keep a);have f:=aA b;show Calls Tryz.prog 35 #[.slice A1 n1 c1,.pointer bn] wr _
  clear a x h b;go_enter Tryz.func35,Tryz.ntmps35
  go_wp2_with ((with_reducible refine(dD f.o H.o).mono ?_);rintro e i ⟨rfl,d⟩;have g:=aA d.below;clear d)
  go_ret
  exact⟨rfl,g.o⟩
def KV {w:World}{P:Int}{A:OAd}{n c:Nat}{ts:List bG}(i o most:Int)(h:eC w A n c ts)(hn:n<=2513169434916) :
  Calls Tryz.prog 12 #[.agg #[P,.slice A n c],.int .i64 i,o,most] w (Zx (gP ⟨P,ts⟩ i o most) w):=by
 generalize hw:((w.alloc (.cells #[P,.slice A n c] 41)).alloc (.cells #[(0:Int),(),(0:Int)] 45))=w0;have HB:=aA (show Below w w w0 by rw[<-hw];exact((aH _ _).alloc (aB _) _).alloc (by simp) _);have X0:=aA (show Box w0 w 41 #[P,.slice A n c] by rw[<-hw];exact(Box.new _ _ _).old _);have T:=aA (show Box w0 (w.heap.size+1) 45 #[(0:Int),(),(0:Int)] by rw[<-hw];exact Box.newAt (by simp) _ _);have H:=aA (h.keep HB.o);have CW:=aA (qW (P:=P) i o H.o hn);have JW:=aA (xR (N:=⟨P,ts⟩) (i:=i) (o:=o) (most:=most));have JE:=aA (λ(g:PSp×Int)=>Ee (N:=⟨P,ts⟩) (i:=i) (o:=o) (most:=most) (g:=g));have JY:=aA (λ(s:PSp)=>Ef (N:=⟨P,ts⟩) (i:=i) (o:=o) (most:=most) (s:=s));clear h;obtain⟨R,hR⟩:=aK (gP ⟨P,ts⟩ i o most);rw[hR]at JW;simp only[hR]at JE JY;rw[hR];clear hR;have S2:=aA (λhs=>pL (N:=⟨P,ts⟩) (i:=i) (o:=o) hs);obtain⟨sw,b6⟩:=aK (eE ⟨P,ts⟩ i o);rw[b6]at JW CW S2;simp only[b6]at JE JY;clear b6;go_enter Tryz.func12,Tryz.ntmps12
 go_upto_region 1 with fail
 clear hw;obtain⟨a0,a1⟩:=X0.o.two;obtain⟨z0,z1,z2⟩:=T.o.three;by_cases e4:sw=0
 .subst e4;obtain⟨p2,g0⟩:=S2.o rfl;go_upto_region 4 with(go_at_call 30;go_loud ((with_reducible refine CW.o.mono ?_);rintro e w1 ⟨rfl,W⟩;have O:=aA W;clear W))
  have z:=aA (X0.o.keep O.o).drew;have Y1:=aA (T.o.keep O.o).drew;have BZ:=aA (HB.o.trans (O.o.mono HB.o.size)).drew;have H1:=aA (show eC w1.drew A n c ts from(H.o.keep O.o).keep ⟨rfl,rfl,rfl,aB _,λ_ _=>rfl⟩);obtain⟨X,Y⟩:=aK ((min P 16).toNat);have b7:=aA Y;obtain⟨g,hg⟩:=aK (eD ⟨P,ts⟩ (lX X i) most);have h5:P<=16:=((bN _).1 g0).2.1;have h6:2<=X:=by omega
  have c5:=aA (λ(Q:g.2≠0)=>JE.o g (by first|rfl|trivial) (by rw[Y];exact hg) Q);have c6:=aA (λ(s:PSp) (Q:g=(s,0))=>JY.o s (by first|rfl|trivial) (by rw[Y,hg];exact Q));simp only[Y]at c6;have c7:=aA (λ(Q:g.2≠0)=>show g.1=PSp.nil by rw[<-hg];exact o0 (by rw[hg];exact Q));have a6:=aA (λ(Q:g.2=0)=>show(1<=most/\most<=300)/\tD ⟨P,ts⟩ most.toNat g.1 by rw[<-hg];exact kN (by rw[hg];exact Q));have c8:=aA (λ(Q:g.2=0)=>show g.1.arcs.length<=7200 by rw[<-hg];exact qR (by rw[hg];exact Q));have CG:=aA (λ(w':World) (C:OAd) (kc:Nat) (u:Below w1.drew w1.drew w') (K:aY w' C X kc (lX X i))=>show Calls _ _ _ _ (qH g w') by rw[<-hg];exact zL (P:=P) most (H1.o.keep u) K);have M:=aA (aH w1.drew w1.drew);have ML:=aA (show ∀x∈g.1.marks,2<=x.length from λx S=>by
   by_cases Q:g.2=0
   .have:=((cR _ _).1 ((a6.o Q).2.fits x S)).2.1;simp only at this;omega
   rw[c7.o Q]at S;cases S)
  clear hg Y JE JY JW S2 X0 T HB H O a0 a1 z0 z1 z2;obtain⟨s,k⟩:=g;simp only at c7 a6 ML c5 c8;obtain⟨a0,a1⟩:=z.o.two;refine aN 11 (.takes [0,1,2,4] (.two 3 (.two 5 (.takes [6,7,8] (.one 9 (.one 10 (.fin 11 .done)))) 9 (.one 5 (.takes [6,7,8] (.one 10 (.fin 11 .done))))) 9 (.one 3 (.one 5 (.takes [6,7,8] (.one 10 (.fin 11 .done))))))) (λw'=>w'.cell? w=some (.int .i64 P)/\w'.cell? ⟨w,1,none⟩=some (.slice A n c)) (by kernel_rfl) (by kernel_rfl) (by kernel_rfl) (λ_ _ _ _ _ h=>h) ⟨a0,a1⟩ (λG=>?_);simp only[Scr.takes];generalize w1.drew=u0 at *
  iterate 4
   refine aM (v:=?_) rfl (by rfl) G (λw' c9=>?_) ?_
   rotate_left
   ·(go_simp;try with_reducible rfl)
   try simp only[aC]
  refine DY (.fin 11 .done) (λa0 a' w'=>∃(C:OAd) (kc:Nat) (U:OAd) (L:Nat) (V:OAd) (cv a9:Nat),a'=((((((a0.put (some 31) (.slice C X kc)).put (some 33) (.tuple #[.agg #[.slice U s.marks.length L,.slice V s.arcs.length cv],k])).put (some 27) (.tuple #[.agg #[.slice U s.marks.length L,.slice V s.arcs.length cv],k])).put (some 34) (.agg #[.slice U s.marks.length L,.slice V s.arcs.length cv])).put (some 35) k).put (some 11) (.pointer a9))/\Hid (Box w' a9 78 #[.slice U s.marks.length L,.slice V s.arcs.length cv])/\Hid (cQ w' U s.marks.length L s.marks)/\Hid (qD w' V s.arcs.length cv s.arcs)/\Hid (Below u0 u0 w')) ?_ (λEN=>?_)
  rotate_left
  .refine mN rfl rfl (λZ f=>?_) (λZ f=>?_)
   rotate_left
   .go_simp
    have B:=aA (show Below u0 u0 (u0.alloc (.cells #[(),()] 78))from M.o.alloc M.o.size _);have g1:=aA (show Box (u0.alloc (.cells #[(),()] 78)) u0 78 #[(),()]from Box.new _ _ _);have g2:=aA (show u0.heap.size<=u0.heap.size from M.o.size);refine f.out _ _ ⟨(z.o.keep B.o).two.1,(z.o.keep B.o).two.2⟩ (λG=>?_);clear f;try simp only[aC]
    generalize u0.alloc (.cells #[(),()] 78)=u1 at *
    refine bK rfl (λZ f=>?_);go_simp;go_at_call 32
    (with_reducible refine(kP u1 P i A n c).mono ?_)
    rw[b7.o];rintro e u2 ⟨C,kc,rfl,K,u,_⟩;have d0:=aA K;have d1:=aA (g1.o.keep u);have r:=aA (B.o.trans (u.mono B.o.size));clear K u;refine f.out _ _ ⟨(z.o.keep r.o).two.1,(z.o.keep r.o).two.2⟩ (λG=>?_);clear f;try simp only[aC]
    refine bK rfl (λZ f=>?_);go_simp;go_at_call 31
    (with_reducible refine(CG.o u2 _ _ r.o d0.o).mono ?_)
    rintro e u3 ⟨U,L,V,cv,rfl,hL,hA,u⟩;have a2:=aA hL;have a3:=aA hA;have l:=aA (d1.o.keep u);have F:=aA (r.o.trans (u.mono r.o.size));clear hL hA u;refine f.out _ _ ⟨(z.o.keep F.o).two.1,(z.o.keep F.o).two.2⟩ (λG=>?_);clear f
    iterate 3
     refine aM (v:=?_) rfl (by rfl) G (λw' c9=>?_) ?_
     rotate_left
     ·(go_simp;try with_reducible rfl)
     try simp only[aC]
    refine bK rfl (λZ f=>?_);obtain⟨s0,s1⟩:=l.o.two;have e5:=l.o.frozen 0;have e6:=l.o.frozen 1;go_simp
    have BE:=aA (cX F.o (aB _) g2.o (.slice U s.marks.length L) (.slice V s.arcs.length cv));refine f.out _ _ ⟨(z.o.keep BE.o).two.1,(z.o.keep BE.o).two.2⟩ (λG=>?_);clear f;try simp only[aC]
    exact EN.o _ _ ⟨C,kc,U,L,V,cv,u0.heap.size,rfl,aA (l.o.set2 _ _),aA (cQ.besideZ a2.o ML.o l.o _ _),aA (qD.besideZ a3.o l.o _ _),BE⟩ G
   go_simp;go_at_call 32
   (with_reducible refine(kP u0 P i A n c).mono ?_)
   rw[b7.o];rintro e u1 ⟨C,kc,rfl,K,u,_⟩;have e7:=aA K;have B:=aA (M.o.trans (u.mono M.o.size));clear K u;refine f.out _ _ ⟨(z.o.keep B.o).two.1,(z.o.keep B.o).two.2⟩ (λG=>?_);clear f;try simp only[aC]
   refine mN rfl rfl (λZ f=>?_) (λZ f=>?_)
   .go_simp;go_at_call 31
    (with_reducible refine(CG.o u1 _ _ B.o e7.o).mono ?_)
    rintro e u2 ⟨U,L,V,cv,rfl,hL,hA,u⟩;have g3:=aA hL;have g4:=aA hA;have r:=aA (B.o.trans (u.mono B.o.size));clear hL hA u;refine f.out _ _ ⟨(z.o.keep r.o).two.1,(z.o.keep r.o).two.2⟩ (λG=>?_);clear f
    iterate 3
     refine aM (v:=?_) rfl (by rfl) G (λw' c9=>?_) ?_
     rotate_left
     ·(go_simp;try with_reducible rfl)
     try simp only[aC]
    refine bK rfl (λZ f=>?_);go_simp
    have F:=aA (show Below u0 u0 (u2.alloc (.cells #[(),()] 78))from r.o.alloc r.o.size _);have l:=aA (show Box (u2.alloc (.cells #[(),()] 78)) u2 78 #[(),()]from Box.new _ _ _);have g5:=aA (show u0.heap.size<=u2.heap.size from r.o.size);have a2:=aA (Sl.keep cS.kept g3.o ((aH u2 u2).alloc (aB _) (.cells #[(),()] 78)));have a3:=aA (Sl.keep qC.kept g4.o ((aH u2 u2).alloc (aB _) (.cells #[(),()] 78)));refine f.out _ _ ⟨(z.o.keep F.o).two.1,(z.o.keep F.o).two.2⟩ (λG=>?_);clear f;try simp only[aC]
    generalize u2.alloc (.cells #[(),()] 78)=u3 at *
    refine bK rfl (λZ f=>?_);obtain⟨s0,s1⟩:=l.o.two;have e5:=l.o.frozen 0;have e6:=l.o.frozen 1;go_simp
    have BE:=aA (cX F.o (aB _) g5.o (.slice U s.marks.length L) (.slice V s.arcs.length cv));refine f.out _ _ ⟨(z.o.keep BE.o).two.1,(z.o.keep BE.o).two.2⟩ (λG=>?_);clear f;try simp only[aC]
    exact EN.o _ _ ⟨C,kc,U,L,V,cv,u2.heap.size,rfl,aA (l.o.set2 _ _),aA (cQ.besideZ a2.o ML.o l.o _ _),aA (qD.besideZ a3.o l.o _ _),BE⟩ G
   go_simp
   have r:=aA (show Below u0 u0 (u1.alloc (.cells #[(),()] 78))from B.o.alloc B.o.size _);have d1:=aA (show Box (u1.alloc (.cells #[(),()] 78)) u1 78 #[(),()]from Box.new _ _ _);have g6:=aA (show u0.heap.size<=u1.heap.size from B.o.size);have d0:=aA (Sl.keep fG.kept e7.o ((aH u1 u1).alloc (aB _) (.cells #[(),()] 78)));refine f.out _ _ ⟨(z.o.keep r.o).two.1,(z.o.keep r.o).two.2⟩ (λG=>?_);clear f;try simp only[aC]
   generalize u1.alloc (.cells #[(),()] 78)=u2 at *
   refine bK rfl (λZ f=>?_);go_simp;go_at_call 31
   (with_reducible refine(CG.o u2 _ _ r.o d0.o).mono ?_)
   rintro e u3 ⟨U,L,V,cv,rfl,hL,hA,u⟩;have a2:=aA hL;have a3:=aA hA;have l:=aA (d1.o.keep u);have F:=aA (r.o.trans (u.mono r.o.size));clear hL hA u;refine f.out _ _ ⟨(z.o.keep F.o).two.1,(z.o.keep F.o).two.2⟩ (λG=>?_);clear f
   iterate 3
    refine aM (v:=?_) rfl (by rfl) G (λw' c9=>?_) ?_
    rotate_left
    ·(go_simp;try with_reducible rfl)
    try simp only[aC]
   refine bK rfl (λZ f=>?_);obtain⟨s0,s1⟩:=l.o.two;have e5:=l.o.frozen 0;have e6:=l.o.frozen 1;go_simp
   have BE:=aA (cX F.o (aB _) g6.o (.slice U s.marks.length L) (.slice V s.arcs.length cv));refine f.out _ _ ⟨(z.o.keep BE.o).two.1,(z.o.keep BE.o).two.2⟩ (λG=>?_);clear f;try simp only[aC]
   exact EN.o _ _ ⟨C,kc,U,L,V,cv,u1.heap.size,rfl,aA (l.o.set2 _ _),aA (cQ.besideZ a2.o ML.o l.o _ _),aA (qD.besideZ a3.o l.o _ _),BE⟩ G
  rintro a' w4 ⟨C,kc,U,L,V,cv,a9,rfl,SX,SL,SA,SB⟩ G;try simp only[aC]
  refine cH rfl (λZ f=>?_);go_simp
  refine f.out _ _ ?_;clear f;try simp only[aC]
  refine cE ?_;clear G a0 a1;have Z0:=aA (z.o.keep SB.o);have Z1:=aA (Y1.o.keep SB.o);have H4:=aA (H1.o.keep SB.o);have B4:=aA (BZ.o.trans (SB.o.mono BZ.o.size));have HN:=aA (show ts.length=n from H4.o.len);clear z Y1 H1 BZ SB CG M;obtain⟨z0,z1,z2⟩:=Z1.o.three;have f0:=Z1.o.frozen 0;have f1:=Z1.o.frozen 1;have f2:=Z1.o.frozen 2;by_cases hk:k=0
  rotate_left
  .have RE:=aA (c5.o hk);go_wp2
   obtain⟨r0,r1,r2⟩:=(Z1.o.set3 (.int .i64 0) () (.int .i64 0)).three;have BW:=eW B4.o (show w.heap.size<=w.heap.size+1 by omega) (.int .i64 0) () (.int .i64 0);exact aU (v:=.tuple #[.agg #[(0:Int),(),(0:Int)],k]) (by simp[results,Tryz.results12,go_sem,r0,r1,r2]) rfl (by rw[RE.o];exact⟨none,0,0,rfl,Sl.nil0,BW⟩)
  subst hk;obtain⟨d2,d3⟩:=a6.o rfl;have SP:=aA d3;have e8:s.marks.length<=300:=by have:=d3.few;omega
  have RE:=aA (c6.o s rfl);have d4:s.arcs.length<=7200:=c8.o rfl;clear d3 a6 c7 c5 c6 d2 c8;obtain⟨a0,a1⟩:=Z0.o.two;go_upto_region 8 with(go_at_call 32;go_loud ((with_reducible refine(kP w4 P o A n c).mono ?_);rw[b7.o];rintro e w5 ⟨CE,kE,rfl,K,u,_⟩;have IE:=aA K;have B5:=aA u;clear K u))
  generalize b0:w5.alloc (.cells #[.slice CE X kE] 24)=w6;have D6:=aA (show Below w4 w4 w6 by rw[<-b0];exact B5.o.alloc B5.o.size _);have XE:=aA (show Box w6 w5 24 #[.slice CE X kE] by rw[<-b0];exact Box.new _ _ _);have e9:=aA (show aY w6 CE X kE (lX X o) by rw[<-b0];exact Sl.keep fG.kept IE.o ((aH _ _).alloc (aB _) _));have X6:=aA (SX.o.keep D6.o);have L6:=aA (Sl.keep cS.kept SL.o D6.o);have A6:=aA (Sl.keep qC.kept SA.o D6.o);have z:=aA (Z0.o.keep D6.o);have Y1:=aA (Z1.o.keep D6.o);have B6:=aA (B4.o.trans (D6.o.mono B4.o.size));clear b0 SX SL SA Z0 Z1 B4 D6 IE B5 CW H4 z0 z1 z2 f0 f1 f2 a0 a1;generalize w5.heap.size=g8 at *
  generalize lX X o=E at *
  obtain⟨DL,b1⟩:=aK (qQ s.arcs (min (ts.length:Int) 24).toNat);rw[b1]at RE;rw[HN.o]at b1;have g9:=aA b1;obtain⟨L1,d5⟩:=aK (s.marks.length);have b2:=aA d5;rw[d5]at L6 X6 e8;have c0:w6.cell? a9=some (.slice U L1 L):=X6.o.cell 0;clear d5 b1;go_wp2
  go_loopw [46] (λjv wr=>∃j:Nat,j<=L1/\jv=j/\Hid (Below w6 w6 wr)/\Hid (∀i,i<j->∀y,s.marks[i]?=some y->iV E y=false)) (λjv _=>L1-(intOf jv).toNat)
  case atStart=>exact⟨0,aL _,rfl,aA (aH _ _),aA (λi K=>absurd K (by omega))⟩
  obtain⟨j,hj,rfl,q,d6⟩:=hrel;by_cases h0:j<L1
  .have h9:(j:Int)<(L1:Int):=by omega
   obtain⟨b,f3,x,A2,n2,c2,rfl,u,S,q0,i2,_⟩:=cQ.get (Sl.keep cS.kept L6.o q.o) h0;have f4:=aA (show iV E x=false->∀i,i<j+1->∀y,s.marks[i]?=some y->iV E y=false from λhf i K y hy=>by
    by_cases h1:i=j
    .subst h1;rw[S.o]at hy;injection hy with hy;rw[<-hy];exact hf
    exact d6.o i (by omega) y hy)
   have d7:=aA (show 2<=n2 by have:=ML.o x (aS S.o);rw[i2.len]at this;exact this);have F_:=aA (show iV E x=true->s.marks.find? (iV E)=some x from λhf=>Jg d6.o S.o hf);have I2:=aA i2;have a4:=aA (Sl.keep fG.kept e9.o q.o);have i0:wr.cell? g8=some (.slice CE X kE):=(XE.o.keep q.o).cell 0;clear S i2;cases hcv:eJ x E
   .have b3:=aA hcv;have NX:=aA (f4.o (by unfold iV;rw[hcv];rfl));clear hcv;go_wp2_with (go_at_call 33;(with_reducible refine(iQ I2.o a4.o).mono ?_);rw[b3.o];rintro e w7 ⟨rfl,rfl⟩)
    go_roundw
    case rel=>exact⟨j+1,by omega,by go_num,q,NX⟩
    simp[intOf];omega
   have b3:=aA hcv;cases heq:(x==E)
   .have e0:=aA heq;have FX:=aA (F_.o (by unfold iV;rw[hcv,heq];rfl));clear hcv heq;go_wp2_with (first
     |(go_at_call 33;(with_reducible refine(iQ I2.o a4.o).mono ?_);rw[b3.o];rintro e w7 ⟨rfl,rfl⟩)
     |(go_at_call 20;(with_reducible refine(dD I2.o a4.o).mono ?_);rw[e0.o];rintro e w8 ⟨rfl,dr⟩;have BD:=aA dr.below;have D:=aA (Y1.o.keep (q.o.trans (BD.o.mono q.o.size)));clear dr;obtain⟨z0,z1,z2⟩:=D.o.three;have f0:=D.o.frozen 0;have f1:=D.o.frozen 1;have f2:=D.o.frozen 2))
    obtain⟨r0,r1,r2⟩:=(D.o.set3 (.int .i64 2) (.slice A2 n2 c2) (.int .i64 0)).three;have BW:=eW (B6.o.trans ((q.o.trans (BD.o.mono q.o.size)).mono B6.o.size)) (show w.heap.size<=w.heap.size+1 by omega) (.int .i64 2) (.slice A2 n2 c2) (.int .i64 0);exact aU (v:=.tuple #[.agg #[(2:Int),.slice A2 n2 c2,(0:Int)],(0:Int)]) (by simp[results,Tryz.results12,go_sem,r0,r1,r2]) rfl (by rw[RE.o,xT FX.o];exact⟨A2,n2,c2,rfl,aY.setV (Sl.keep fG.kept I2.o BD.o) d7.o D.o _ _ _,BW⟩)
   have e0:=aA heq;have NX:=aA (f4.o (by unfold iV;rw[hcv,heq];rfl));clear hcv heq;go_wp2_with (first
    |(go_at_call 33;(with_reducible refine(iQ I2.o a4.o).mono ?_);rw[b3.o];rintro e w7 ⟨rfl,rfl⟩)
    |(go_at_call 20;(with_reducible refine(dD I2.o a4.o).mono ?_);rw[e0.o];rintro e w8 ⟨rfl,dr⟩;have BD:=aA dr.below;clear dr))
   go_roundw
   case rel=>exact⟨j+1,by omega,by go_num,aA (q.o.trans (BD.o.mono q.o.size)),NX⟩
   simp[intOf];omega
  obtain rfl:j=L1:=by omega
  have NF:=aA (Jh (p:=iV E) (ms:=s.marks) (λi K=>d6.o i (by rw[b2.o]at K;exact K)));have IN:=aA (show(∀a∈s.arcs,Inn j a.from_)/\(∀a∈s.arcs,Inn j a.to_)from⟨λa ha=>by have:=(SP.o.ends a ha).1;rw[b2.o]at this;exact this,λa ha=>by have:=(SP.o.ends a ha).2.2;rw[b2.o]at this;exact this⟩);have ON:=aA (Jf (Sl.keep cS.kept L6.o q.o) (Sl.keep qC.kept A6.o q.o) (PD (XE.o.keep q.o) (Sl.keep fG.kept e9.o q.o)) e8 d4 IN.o.1 IN.o.2);obtain⟨bs,b4⟩:=aK (mV s.arcs j (U8 (λm=>m==E) s.marks j));rw[b4]at ON;have OL:=aA (show onL s E=bs by unfold onL;rw[b2.o];exact b4);have h2:=aA (show bs.length=j by rw[<-b4];simp[mV]);clear b4 c0;obtain⟨c0,c1⟩:=(X6.o.keep q.o).two;obtain⟨ix,e1⟩:=aK (bs.findIdx? (λy=>false==y));have e2:=aA e1;have e3:=aA (KU e1);clear e1;cases ix with
  | some k =>
   have h3:k<j:=by
    have:=(q8.1 e2.o).1;rw[h2.o]at this;exact this
   have h7:(k:Int)<(j:Int):=by omega
   obtain⟨b,f3,x,A2,n2,c2,rfl,u,S,f5,i2,_⟩:=cQ.get (Sl.keep cS.kept L6.o q.o) h3;have d7:=aA (show 2<=n2 by have:=ML.o x (aS S.o);rw[i2.len]at this;exact this);have I2:=aA i2;have JS:=aA (xU (d:=DL) NF.o (by rw[OL.o];exact e2.o) S.o);have Q0:=aA f5;have h4:=aA u;clear S i2 f5 u;go_wp2_with (first
    |(go_at_call 34;(with_reducible refine ON.o.mono ?_);rintro e w7 ⟨g7,rfl,bo,I⟩;have BO:=aA bo;have J:=aA I;clear bo I c0 c1;obtain⟨c0,c1⟩:=(X6.o.keep (q.o.trans (J.o.mono q.o.size))).two;have q0:=(J.o.cell (p:=⟨b,f3+k,none⟩) h4.o).trans Q0.o)
    |(go_at_call 36;(with_reducible refine(mW false BO.o (by omega)).mono ?_);rw[e3.o];(simp only[Option.elim_some]);rintro e w8 ⟨rfl,rfl⟩;have D:=aA (Y1.o.keep (q.o.trans (J.o.mono q.o.size)));obtain⟨z0,z1,z2⟩:=D.o.three;have f0:=D.o.frozen 0;have f1:=D.o.frozen 1;have f2:=D.o.frozen 2))
   obtain⟨r0,r1,r2⟩:=(D.o.set3 (.int .i64 3) (.slice A2 n2 c2) (.int .i64 0)).three;have BW:=eW (B6.o.trans ((q.o.trans (J.o.mono q.o.size)).mono B6.o.size)) (show w.heap.size<=w.heap.size+1 by omega) (.int .i64 3) (.slice A2 n2 c2) (.int .i64 0);exact aU (v:=.tuple #[.agg #[(3:Int),.slice A2 n2 c2,(0:Int)],(0:Int)]) (by simp[results,Tryz.results12,go_sem,r0,r1,r2]) rfl (by rw[RE.o,JS.o];exact⟨A2,n2,c2,rfl,aY.setV (Sl.keep fG.kept I2.o J.o) d7.o D.o _ _ _,BW⟩)
  | none =>
   have b5:=aA (show(onL s E).findIdx? (λy=>false==y)=none by rw[OL.o];exact e2.o);have CD:=aA (λ(w':World) (u:Below wr wr w')=>show Calls _ _ _ _ (JL DL.length DL w') by rw[<-g9.o];exact Px (n:Int) (Sl.keep cS.kept (Sl.keep cS.kept L6.o q.o) u) (Sl.keep qC.kept (Sl.keep qC.kept A6.o q.o) u) (by omega));cases DL with
   | nil =>
    have JS:=aA (xW NF.o b5.o);go_wp2_with (first
     |(go_at_call 34;(with_reducible refine ON.o.mono ?_);rintro e w7 ⟨g7,rfl,bo,I⟩;have BO:=aA bo;have J:=aA I;clear bo I c0 c1;obtain⟨c0,c1⟩:=(X6.o.keep (q.o.trans (J.o.mono q.o.size))).two;obtain⟨a0,a1⟩:=(z.o.keep (q.o.trans (J.o.mono q.o.size))).two)
     |(go_at_call 36;(with_reducible refine(mW false BO.o (by omega)).mono ?_);rw[e3.o];(simp only[Option.elim_none]);rintro e w8 ⟨rfl,rfl⟩)
     |(go_at_call 37;(with_reducible refine(CD.o _ J.o).mono ?_);rintro e w8 ⟨CC,kk,rfl,ii,a5,_⟩;have B8:=aA (J.o.trans (a5.mono J.o.size));clear ii a5;have D:=aA (Y1.o.keep (q.o.trans (B8.o.mono q.o.size)));obtain⟨z0,z1,z2⟩:=D.o.three;have f0:=D.o.frozen 0;have f1:=D.o.frozen 1;have f2:=D.o.frozen 2))
    obtain⟨r0,r1,r2⟩:=(D.o.set3 (.int .i64 1) () (.int .i64 0)).three;have BW:=eW (B6.o.trans ((q.o.trans (B8.o.mono q.o.size)).mono B6.o.size)) (show w.heap.size<=w.heap.size+1 by omega) (.int .i64 1) () (.int .i64 0);exact aU (v:=.tuple #[.agg #[(1:Int),(),(0:Int)],(0:Int)]) (by simp[results,Tryz.results12,go_sem,r0,r1,r2]) rfl (by rw[RE.o,JS.o];exact⟨none,0,0,rfl,Sl.nil0,BW⟩)
   | cons t DT =>
    have JS:=aA (Ap (d:=DT) (t:=t) NF.o b5.o);have i1:(0:Int)<((t::DT).length:Int):=by simp
    go_wp2_with (first
     |(go_at_call 34;(with_reducible refine ON.o.mono ?_);rintro e w7 ⟨g7,rfl,bo,I⟩;have BO:=aA bo;have J:=aA I;clear bo I c0 c1;obtain⟨c0,c1⟩:=(X6.o.keep (q.o.trans (J.o.mono q.o.size))).two;obtain⟨a0,a1⟩:=(z.o.keep (q.o.trans (J.o.mono q.o.size))).two)
     |(go_at_call 36;(with_reducible refine(mW false BO.o (by omega)).mono ?_);rw[e3.o];(simp only[Option.elim_none]);rintro e w8 ⟨rfl,rfl⟩)
     |(go_at_call 37;(with_reducible refine(CD.o _ J.o).mono ?_);rintro e w8 ⟨CC,kk,rfl,ii,a5,_⟩;have B8:=aA (J.o.trans (a5.mono J.o.size));obtain⟨b9,h8,y9,rfl,_,f6,q9⟩:=aY.get ii (show 0<(t::DT).length by simp);obtain rfl:t=y9:=(by have:=f6.o;simpa using this);clear ii a5 f6;(simp only[eP]at q9);have D:=aA (Y1.o.keep (q.o.trans (B8.o.mono q.o.size)));obtain⟨z0,z1,z2⟩:=D.o.three;have f0:=D.o.frozen 0;have f1:=D.o.frozen 1;have f2:=D.o.frozen 2))
    obtain⟨r0,r1,r2⟩:=(D.o.set3 (.int .i64 4) () t).three;have BW:=eW (B6.o.trans ((q.o.trans (B8.o.mono q.o.size)).mono B6.o.size)) (show w.heap.size<=w.heap.size+1 by omega) (.int .i64 4) () t;exact aU (v:=.tuple #[.agg #[(4:Int),(),t],(0:Int)]) (by simp[results,Tryz.results12,go_sem,r0,r1,r2]) rfl (by rw[RE.o,JS.o];exact⟨none,0,0,rfl,Sl.nil0,BW⟩)
 .have JF:=aA (JW.o e4);have f0:=T.o.frozen 0;have f1:=T.o.frozen 1;have f2:=T.o.frozen 2;go_wp2_with (go_at_call 30;(with_reducible refine CW.o.mono ?_);rintro e w1 ⟨rfl,W⟩;have O:=aA W;clear W a0 a1 z0 z1 z2 f0 f1 f2;obtain⟨z0,z1,z2⟩:=(T.o.keep O.o).three;have f0:=(T.o.keep O.o).frozen 0;have f1:=(T.o.keep O.o).frozen 1;have f2:=(T.o.keep O.o).frozen 2)
  obtain⟨r0,r1,r2⟩:=((T.o.keep O.o).set3 (.int .i64 0) () (.int .i64 0)).three;have BW:=eW (HB.o.trans (O.o.mono HB.o.size)) (show w.heap.size<=w.heap.size+1 by omega) (.int .i64 0) () (.int .i64 0);exact aU (v:=.tuple #[.agg #[(0:Int),(),(0:Int)],.int .i64 sw]) (by simp[results,Tryz.results12,go_sem,r0,r1,r2]) rfl (by rw[JF.o];exact⟨none,0,0,rfl,Sl.nil0,BW⟩)
