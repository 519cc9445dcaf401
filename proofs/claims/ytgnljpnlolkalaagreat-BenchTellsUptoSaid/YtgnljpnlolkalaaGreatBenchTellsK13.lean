/- Texts melted into one: mine's Mine. Conditions: the log reads as lists. | The reference's wgroups. Conditions: the labels are 1 to 26, in order; the function that links two labels tells so in each later world. | SameBlock of a block that reads as the same tree; wmeets. Conditions: the blocks read as -/
import Derived.Test.YtgnljpnlolkalaaGreatBenchTellsK11
import Derived.Test.YtgnljpnlolkalaaGreatBenchTellsK12
set_option linter.all false
set_option maxRecDepth 100000
set_option maxHeartbeats 8000000
namespace Go.Proofs.YtgnljpnlolkalaaGreat
open Go.RowKit Go.Maps
noncomputable def eL (log:LLi):Int×bH:=if eI log≠0 then(eI log,gX)else if eK (aX 60 log)≠0 then(eK (aX 60 log),gX)else(0,aX 60 log)
def Zw (w:World)(v:Value)(T:bH):Prop:=∃A n c,v=.agg #[.int .i64 T.kind,.int .i64 T.label,.slice A n c]/\pQ 62 w A n c T.kids
def fF.toV {P:Nat->Prop}{w:World}{v:Value}{T:bH}(h:fF P 62 w v T):Zw w v T:=by
 obtain⟨A,n,c,e,s,_⟩:=h;exact⟨A,n,c,e,s.imp (λ_ _ r=>r.toD 62)⟩
def rT (log:LLi)(w:World)(e:Ending)(w':World):Prop:=∃v,e=.returned (.tuple #[v,.int .i64 (eL log).1])/\Zw w' v (eL log).2/\Below w.heap.size w w'
def Iq {w:World}{A:OAd}{n c:Nat}{log:LLi}(h:cQ w A n c log) :
  Calls Tryz.prog 9 #[.slice A n c] w (rT log w):=by
 have L:=aA (aF w (.cells #[(0:Int),(0:Int),()] 35));have u:=aA (Box.new w #[(0:Int),(0:Int),()] 35);have H:=aA (Sl.keep cS.kept h L.o);clear h;go_enter Tryz.func9,Tryz.ntmps9
 go_upto_region 1 with fail
 generalize w.alloc (.cells #[(0:Int),(0:Int),()] 35)=w1 at *
 have Z:=aA (oV H.o);go_wp2_with fail
 refine Z.o.mono ?_;rintro e w2 ⟨rfl,rfl⟩;have M:=aA u.o.lt;obtain⟨z,N⟩:=aK (eI log);have O:=aA N;rw[N];clear N Z;by_cases s:z=0
 .have P:(z != 0)=false:=by simp[s]
  have Q:=aA (show eI log=0 from O.o.trans s);have CF:=aA (VS 60 w1 A n c log H.o (vZ.start Q.o));clear s;go_wp2_with fail
  refine CF.o.mono ?_;rintro e x ⟨v3,rfl,⟨a,b,d,rfl,s3,p3⟩,l⟩;have B:=s3.imp (λ_ _ r=>qM.toD 62 r);have BA:=aA (show fF (λq=>w1.heap.size<=q) 62 x (.agg #[.int .i64 (aX 60 log).kind,.int .i64 (aX 60 log).label,.slice a b d]) (aX 60 log)from⟨a,b,d,rfl,s3,p3⟩);have WE:=aA (show eK (.mk (aX 60 log).kind (aX 60 log).label (aX 60 log).kids)=eK (aX 60 log) by cases aX 60 log;rfl);obtain⟨kd,m⟩:=bS ((aX 60 log).kind);obtain⟨lb,o⟩:=bS ((aX 60 log).label);rw[<-m,<-o]at BA WE;rw[<-m,<-o];have R:=aA (aF x (.cells #[kd,lb,.slice a b d] 35));have TB:=aA (Box.new x #[kd,lb,.slice a b d] 35);have S:=aA (lG (kd:=kd) (lb:=lb) (pQ.keep B R.o));have C:=aA (l.trans (R.o.mono l.size));have T:=aA (BA.o.keep R.o);clear s3 p3 B l m o CF;go_upto_region 5 with fail
  generalize x.alloc (.cells #[kd,lb,.slice a b d] 35)=w4 at *
  generalize x.heap.size=bz at *
  obtain⟨t0,t1,t2⟩:=TB.o.three;obtain⟨y,U⟩:=aK (eK (aX 60 log));have V:=aA U;rw[WE.o,U]at S;clear U;go_wp2_with fail
  refine S.o.mono ?_;rintro e W ⟨rfl,i⟩;have p:=aA (C.o.trans (i.mono C.o.size));have X:=aA (T.o.keep i);have t:=aA (u.o.keep p.o);obtain⟨t0,t1,t2⟩:=(TB.o.keep i).three;clear i S;by_cases f:y=0
  .have D:(y != 0)=false:=by simp[f]
   have k:=aA (show eL log=(0,aX 60 log) by unfold eL;rw[aD (by rw[Q.o];exact λh=>h rfl),aD (by rw[V.o];exact λh=>h f)]);have E:=aA (show ∀(w':World) (v:Value),fF (λj=>w.heap.size<=j) 62 w' v (aX 60 log)->Below w w w'->rT log w (.returned (.tuple #[v,(0:Int)])) w' from λw' v F G=>⟨v,by rw[k.o],by rw[k.o];exact F.toV,G⟩);clear f;obtain⟨u0,u1,u2⟩:=t.o.three;have fz:=λq=>t.o.frozen q
   have g:=aA (dR (w:=w) X.o t.o p.o L.o M.o (aB _));go_wp2
   generalize (((W.setCell w kd).setCell ⟨w,1,none⟩ lb).setCell ⟨w,2,none⟩ (.slice a b d))=I at *
   obtain⟨z0,J,K⟩:=g.o.1.three;exact aU (v:=.tuple #[.agg #[kd,lb,.slice a b d],(0:Int)]) (by simp[results,Tryz.results9,go_sem,z0,J,K]) rfl (E.o I _ g.o.2.1 g.o.2.2)
  have D:(y != 0)=true:=by simp[f]
  have k:=aA (show eL log=(y,gX) by unfold eL;rw[aD (by rw[Q.o];exact λh=>h rfl),aG (by rw[V.o];exact f),V.o]);have E:=aA (show ∀(w':World) (v:Value),fF (λj=>w.heap.size<=j) 62 w' v (gX)->Below w w w'->rT log w (.returned (.tuple #[v,.int .i64 y])) w' from λw' v F G=>⟨v,by rw[k.o],by rw[k.o];exact F.toV,G⟩);have Y:=aA (show fF (λq=>w1.heap.size<=q) 62 W (.agg #[(0:Int),(0:Int),()]) gX from⟨none,0,0,rfl,Sl.nil0,λh=>absurd h (by omega)⟩);clear f;obtain⟨u0,u1,u2⟩:=t.o.three;have fz:=λq=>t.o.frozen q
  have g:=aA (dR (w:=w) Y.o t.o p.o L.o M.o (aB _));go_wp2
  generalize (((W.setCell w (.int .i64 0)).setCell ⟨w,1,none⟩ (.int .i64 0)).setCell ⟨w,2,none⟩ ())=I at *
  obtain⟨z0,J,K⟩:=g.o.1.three;exact aU (v:=.tuple #[.agg #[(0:Int),(0:Int),()],.int .i64 y]) (by simp[results,Tryz.results9,go_sem,z0,J,K]) rfl (E.o I _ g.o.2.1 g.o.2.2)
 .have P:(z != 0)=true:=by simp[s]
  have k:=aA (show eL log=(z,gX) by unfold eL;rw[aG (by rw[O.o];exact s),O.o]);have E:=aA (show ∀(w':World) (v:Value),fF (λj=>w.heap.size<=j) 62 w' v (gX)->Below w w w'->rT log w (.returned (.tuple #[v,.int .i64 z])) w' from λw' v F G=>⟨v,by rw[k.o],by rw[k.o];exact F.toV,G⟩);have Y:=aA (show fF (λq=>w1.heap.size<=q) 62 w1 (.agg #[(0:Int),(0:Int),()]) gX from⟨none,0,0,rfl,Sl.nil0,λh=>absurd h (by omega)⟩);clear s;obtain⟨u0,u1,u2⟩:=u.o.three;have fz:=λq=>u.o.frozen q
  have g:=aA (dR (w:=w) Y.o u.o (aH _ _) L.o M.o (aB _));go_wp2
  generalize (((w1.setCell w (.int .i64 0)).setCell ⟨w,1,none⟩ (.int .i64 0)).setCell ⟨w,2,none⟩ ())=I at *
  obtain⟨z0,J,K⟩:=g.o.1.three;exact aU (v:=.tuple #[.agg #[(0:Int),(0:Int),()],.int .i64 z]) (by simp[results,Tryz.results9,go_sem,z0,J,K]) rfl (E.o I _ g.o.2.1 g.o.2.2)
def hdM (ls:LIn)(h:Int->Int)(z:Int):Int:=if z∈ls then h z else 0
def hdA (lk:Int->Int->Bool)(ls:LIn)(h:Int->Int)(j:Nat):Int->Int:=((ls.take j).flatMap λa=>ls.map λb=>(a,b)).foldl (hdF lk) h
def hdB (lk:Int->Int->Bool)(ls:LIn)(h:Int->Int)(a:Int)(j l:Nat):Int->Int:=((ls.take l).map λb=>(a,b)).foldl (hdF lk) (hdA lk ls h j)
section
variable {lk:Int->Int->Bool} {ls:LIn} {h:Int->Int} {a b:Int} {j l:Nat}
def UN (c:ls[l]?=some b):hdB lk ls h a j (l+1)=hdF lk (hdB lk ls h a j l) (a,b):=by
 unfold hdB;rw[cP,c];simp
def WQ (b:ls[j]?=some a)(c:ls.length<=l):hdB lk ls h a j l=hdA lk ls h (j+1):=by
 unfold hdB hdA;rw[aW c,cP,b];simp
def WR (a:ls.length<=j):hdA lk ls h j=tJ lk ls h:=by
 unfold hdA tJ Qd;rw[aW a]
def HdI.ok (H:HdI lk ls h)(a:∀x∈ls,okI x){x:Int}(b:x∈ls):okI (h x):=a _ ((H.con x b).right)
def WS (c:lk a b=true):hdF lk h (a,b)=λx=>if x=a∨x=b then min (h a) (h b)else h x:=by
 unfold hdF;rw[aG c]
def Yn (c:lk a b=false):hdF lk h (a,b)=h:=by
 unfold hdF;rw[aD (by rw[c];exact λh=>(by cases h))]
end
structure WgM (w wr:World)(bm:Nat)(ls:LIn)(h:Int->Int)(q:Nat):Prop where
 d:Below w.heap.size w wr
 m:TY wr bm (hdM ls h) q
 b:w.heap.size<=bm
def WgM.keep {w wr w':World}{bm:Nat}{ls:LIn}{h:Int->Int}{q:Nat}(H:WgM w wr bm ls h q)(a:Below wr wr w'):WgM w w' bm ls h q:=⟨H.d.trans (a.mono H.d.size),H.m.keep a,H.b⟩
def WgM.mono {w wr:World}{bm:Nat}{ls:LIn}{h:Int->Int}{q a:Nat}(H:WgM w wr bm ls h q)(b:q<=a):WgM w wr bm ls h a:=⟨H.d,H.m.mono b,H.b⟩
def WgM.look {w wr:World}{bm:Nat}{ls:LIn}{h:Int->Int}{q:Nat}(H:WgM w wr bm ls h q)(b:∀x∈ls,okI x){x:Int}(a:x∈ls):(Instr.lookup 160 (.map (some bm)) (.int .i64 x) false).run Tryz.prog wr=.ok (.int .i64 (h x)) wr:=by
 rw[TY.look H.m (b x a)];unfold hdM;rw[aG a]
def WgM.two {w wr:World}{bm:Nat}{ls:LIn}{h:Int->Int}{q:Nat}(H:WgM w wr bm ls h q)(f:∀x∈ls,okI x){a b y:Int}(g:a∈ls)(i:b∈ls)(j:okI y)(r:q<=1000000) :
  ∃w1,(Instr.mapUpdate 160 (.map (some bm)) a y).run Tryz.prog wr=.ok () w1/\∃d,(Instr.mapUpdate 160 (.map (some bm)) b y).run Tryz.prog w1=.ok () d/\WgM w d bm ls (λx=>if x=a∨x=b then y else h x) (q+2):=by
 obtain⟨w1,u1,n,l⟩:=TY.put H.m (f a g) y j (by simp only[maxLen];omega);obtain⟨d,u2,o,p⟩:=TY.put n (f b i) y j (by simp only[maxLen];omega);refine⟨w1,u1,d,u2,(H.d.grown l H.d.size (λk c=>by injection c with c;have:=H.b;omega)).grown p (aT H.d.size l.size) (λk c=>by injection c with c;have:=H.b;omega),o.same (λz _=>?_),H.b⟩;unfold hdM;by_cases e:z=b
 .subst e;simp[i]
 .by_cases m:z=a
  .subst m;simp[g,e]
  simp[e,m]
def Uy.appL {w0 w w':World}{vl vo v':Value}{n n3:Nat}{l:LIn}{out:LLi}{y:Int}(h:Uy w0 w vl vo n n3 l out)(o:aI w' w0 v' (n+1) (l++[y]))(b:w.grownBy w' vl.ownBlock)(d:v'.ownBlock=vl.ownBlock∨v'.ownBlock=some (w.heap.size+1)):Uy w0 w' v' vo (n+1) n3 (l++[y]) out:=by
 obtain⟨c1,f,_⟩:=h.ou;obtain⟨c2,g,_⟩:=h.lf;refine⟨h.bel.grown b h.bel.size (λk a=>(h.lf.lt k a).1),o,((h.ou.wide (Q:=λk=>(w0.heap.size<=k/\vl.ownBlock≠some k)/\(w0.heap.size<=k/\v'.ownBlock≠some k)) (λk a hp=>⟨hp,hp.1, ?_⟩)).grown b (λk a hp=>hp.1.2 a) (uZ f g (by decide))).wide (λk _ hp=>hp.2)⟩;rcases d with e|e
 .rw[e];exact hp.2
 rw[e];intro c;injection c with c;omega
def Ku {ls:LIn}{h:Int->Int}{k:Nat}{m:Int}(c:ls[k]?=some m):(((ls.take (k+1)).map λm=>ls.filter λa=>h a==m).filter λl=>decide (0<l.length))=(((ls.take k).map λm=>ls.filter λa=>h a==m).filter λl=>decide (0<l.length))++(if 0<(ls.filter λa=>h a==m).length then [ls.filter λa=>h a==m]else []):=by
 rw[cP,c];simp only[Option.toList_some,fB,kZ,lA,dP];congr 1
 by_cases b:0<(ls.filter λa=>h a==m).length
 .rw[aG b];simp[b]
 rw[aD b];simp at b ⊢;exact b
def qP {w:World}{A:OAd}{n c:Nat}{ls:LIn}{F:FuncId}{bd cv:Array Value}{lk:Int->Int->Bool}(h:aY w A n c ls)(hn:n<=26)(hs:ls.Pairwise (.< .))(hl:∀x∈ls,okI x)(hF:VQ F bd cv w ls lk) :
  Calls Tryz.prog 91 #[.slice A n c,.func (.func F) bd cv] w (Na lk ls w):=by
 have b7:=@run_makeMap Tryz.prog;have H:=aA h;have E:=aA (And.intro hn hs);have W:=aA hl;have b6:=hF.enters;have HF:=aA hF;have LN:=aA h.len;have M0:=aA (show WgM w (w.alloc (.map #[] 0)) w [] (λx=>x) 0 from⟨aF w _,(tH.made 3 okI kkI w).same (λz _=>by unfold hdM;simp),aB _⟩);clear h hn hs hl hF;go_enter Tryz.func91,Tryz.ntmps91
 go_upto_region 2 with fail
 clear b7;generalize w.alloc (.map #[] 0)=w1 at *
 go_wp2
 go_loopg [22] n (λgk u wr=>∃k:Nat,u=.int .i64 k/\Hid (k+gk=n)/\Hid (WgM w wr w (ls.take k) (λx=>x) k))
 case atStart=>exact⟨0,rfl,aA (by omega),M0⟩
 case round =>
  clear M0;obtain⟨k,rfl,f,i⟩:=hrel;by_cases g:k<n
  .have X:(k:Int)<(n:Int):=by omega
   obtain⟨b,a5,a,rfl,L,S,q0⟩:=aY.get (H.o.keep i.o.d) g;have B:=aA (show gk-1<gk/\(k+1)+(gk-1)=n/\k<=26 by have:=f.o;have:=E.o;omega);have b9:IntKind.i64.wrap ((k:Int)+1)=((k+1:Nat):Int):=by
    have:=B.o;simp[IntKind.wrap,IntKind.bits,IntKind.signed];omega
   have oa:=W.o a (aS S.o);obtain⟨w2,up,m2,Y⟩:=TY.put i.o.m oa a oa (by have:=B.o;simp only[maxLen];omega);have Z:=aA (show WgM w w2 w (ls.take (k+1)) (λx=>x) (k+1)from⟨i.o.d.grown Y i.o.d.size (λq hq=>by injection hq with hq;omega),m2.same (λz _=>by
    unfold hdM;rw[cP,S.o];simp only[Option.toList_some,cN,bJ];by_cases h1:z=a
    .simp[h1]
    simp[h1]),aB _⟩)
   clear L oa m2 Y;go_wp2
   go_roundg (gk-1)
   case measure=>exact B.o.1
   exact⟨k+1,rfl,aA B.o.2.1,Z⟩
  have X:¬(k:Int)<(n:Int):=by omega
  have U:=aA (show WgM w wr w ls (gI lk ls 0) (n+1352*0)from by
   have:=i.o;rw[aW (by rw[LN.o];omega)]at this;exact this.mono (by have:=f.o;omega))
  clear i g f;obtain⟨go,c0⟩:∃x:Nat,x=gk:=⟨_,rfl⟩;subst c0;go_wp2
  go_loopg [32] n (λgk u wr=>∃r:Nat,u=r/\Hid (r+gk=n)/\Hid (WgM w wr w ls (gI lk ls r) (n+1352*r)))
  case atStart=>exact⟨0,rfl,aA (by omega),U⟩
  clear U;obtain⟨r,rfl,f,i⟩:=hrel;by_cases g:r<n
  .have X:(r:Int)<(n:Int):=by omega
   have B:=aA (show gk-1<gk/\(r+1)+(gk-1)=n/\r<=26 by have:=f.o;have:=E.o;omega);have e5:IntKind.i64.wrap ((r:Int)+1)=((r+1:Nat):Int):=by
    have:=B.o;simp[IntKind.wrap,IntKind.bits,IntKind.signed];omega
   obtain⟨t,N⟩:=bS (gI lk ls r);have c5:=aA (show HdI lk ls t from N▸HdI.rounds r);rw[<-N]at i;have HR:=aA (show gI lk ls (r+1)=tJ lk ls t by rw[rN,N]);have U:=aA (show WgM w wr w ls (hdA lk ls t 0) (n+1352*r+52*0)/\HdI lk ls (hdA lk ls t 0)from⟨i.o,c5.o⟩);obtain⟨g1,a0⟩:∃x:Nat,x=gk:=⟨_,rfl⟩;subst a0;clear i g f N;go_wp2
   go_loopg [36] n (λgk u wr=>∃j:Nat,u=.int .i64 j/\Hid (j+gk=n)/\Hid (WgM w wr w ls (hdA lk ls t j) (n+1352*r+52*j)/\HdI lk ls (hdA lk ls t j)))
   case atStart=>exact⟨0,rfl,aA (by omega),U⟩
   clear U;obtain⟨j,rfl,f,i⟩:=hrel;by_cases g:j<n
   rotate_left
   .have a1:¬(j:Int)<(n:Int):=by omega
    have Z:=aA (show WgM w wr w ls (gI lk ls (r+1)) (n+1352*(r+1))from by
     have:=i.o.1;rw[WR (by rw[LN.o];omega),<-HR.o]at this;exact this.mono (by have:=E.o;have:=f.o;omega))
    clear i g f;go_wp2
    go_roundg (g1-1)
    case measure=>exact B.o.1
    exact⟨r+1,rfl,aA B.o.2.1,Z⟩
   have a1:(j:Int)<(n:Int):=by omega
   obtain⟨b,a5,a,rfl,L,S,q0⟩:=aY.get (H.o.keep i.o.1.d) g;have o:=aA (show gk-1<gk/\(j+1)+(gk-1)=n/\j<=26 by have:=f.o;have:=E.o;omega);have c6:IntKind.i64.wrap ((j:Int)+1)=((j+1:Nat):Int):=by
    have:=o.o;simp[IntKind.wrap,IntKind.bits,IntKind.signed];omega
   have U:=aA (show WgM w wr w ls (hdB lk ls t a j 0) (n+1352*r+52*j+2*0)/\HdI lk ls (hdB lk ls t a j 0)from i.o);obtain⟨Y,a2⟩:∃x:Nat,x=gk:=⟨_,rfl⟩;subst a2;clear i L g f;go_wp2
   clear q0;go_loopg [42] n (λgk u wr=>∃l:Nat,u=l/\Hid (l+gk=n)/\Hid (WgM w wr w ls (hdB lk ls t a j l) (n+1352*r+52*j+2*l)/\HdI lk ls (hdB lk ls t a j l)))
   case atStart=>exact⟨0,rfl,aA (by omega),U⟩
   clear U;obtain⟨l,rfl,f,i⟩:=hrel;by_cases g:l<n
   rotate_left
   .have c7:¬(l:Int)<(n:Int):=by omega
    have Z:=aA (show WgM w wr w ls (hdA lk ls t (j+1)) (n+1352*r+52*(j+1))/\HdI lk ls (hdA lk ls t (j+1))from by
     have:=i.o;rw[WQ S.o (by rw[LN.o];omega)]at this;exact⟨this.1.mono (by have:=E.o;have:=f.o;omega),this.2⟩)
    clear i g f;go_wp2
    go_roundg (Y-1)
    case measure=>exact o.o.1
    exact⟨j+1,rfl,aA o.o.2.1,Z⟩
   have c7:(l:Int)<(n:Int):=by omega
   obtain⟨b2,a6,d,e2,G,hd,q0⟩:=aY.get (H.o.keep i.o.1.d) g;injection e2 with e2;injection e2 with a3 a4;subst a3 a4;have D:=aA (show gk-1<gk/\(l+1)+(gk-1)=n/\l<=26/\n+1352*r+52*j+2*l<=1000000 by have:=f.o;have:=E.o;have:=B.o;have:=o.o;omega);have e6:IntKind.i64.wrap ((l:Int)+1)=((l+1:Nat):Int):=by
    have:=D.o;simp[IntKind.wrap,IntKind.bits,IntKind.signed];omega
   have AM:=aA (aS S.o);have DM:=aA (aS hd.o);have CL:=aA (HF.o.calls wr a d AM.o DM.o i.o.1.d);have NX:=aA (UN (lk:=lk) (h:=t) (a:=a) (j:=j) hd.o);have HS:=aA (show HdI lk ls (hdF lk (hdB lk ls t a j l) (a,d))from(i.o.2.step (p:=(a,d)) AM.o DM.o).1);obtain⟨T,hT⟩:=aK (hdB lk ls t a j l);rw[hT]at i NX HS;cases hv:lk a d
   .have Z:=aA (show ∀w',Below wr wr w'->WgM w w' w ls (hdB lk ls t a j (l+1)) (n+1352*r+52*j+2*(l+1))/\HdI lk ls (hdB lk ls t a j (l+1))from λw' hq=>by
     rw[NX.o];refine⟨?_,HS.o⟩;rw[Yn hv];exact(i.o.1.keep hq).mono (by omega))
    rw[hv]at CL;clear hT G g f hv;go_wp2_with fail
    refine CL.o.mono ?_;rintro e w2 ⟨rfl,I⟩;have S2:=aA (Z.o w2 I);clear I CL;go_wp2
    go_roundg (gk-1)
    case measure=>exact D.o.1
    exact⟨l+1,rfl,aA D.o.2.1,S2⟩
   have HV:=aA hv;rw[hv]at CL;clear hT G g f hv;go_wp2_with fail
   refine CL.o.mono ?_;rintro e w2 ⟨rfl,I⟩;have S2:=aA (i.o.1.keep I);have O:=S2.o.look W.o AM.o;have c8:=S2.o.look W.o DM.o;obtain⟨M,hM⟩:=aK (min (T a) (T d));have oM:okI M:=by
    have h1:=i.o.2.ok W.o AM.o;have h2:=i.o.2.ok W.o DM.o;unfold okI at h1 h2 ⊢;omega
   obtain⟨w3,e7,w4,e8,m4⟩:=S2.o.two W.o AM.o DM.o oM D.o.2.2.2;have S4:=aA (show WgM w w4 w ls (hdB lk ls t a j (l+1)) (n+1352*r+52*j+2*(l+1))/\HdI lk ls (hdB lk ls t a j (l+1))from by
    rw[NX.o];refine⟨?_,HS.o⟩;rw[WS HV.o,hM];exact m4)
   obtain⟨x,V⟩:=aK (T a);obtain⟨y,hy⟩:=aK (T d);rw[V]at O hM;rw[hy]at c8 hM;clear I CL V hy oM m4 S2;go_wp2
   go_roundg (gk-1)
   case measure=>exact D.o.1
   exact⟨l+1,rfl,aA D.o.2.1,S4⟩
  have X:¬(r:Int)<(n:Int):=by omega
  obtain⟨s,P⟩:=bS (gI lk ls ls.length);have HH:=aA (show dY lk ls=vW ls s by rw[P];rfl);have SM:=aA (show WgM w wr w ls s (n+1352*r)from by
   have h1:=LN.o;have h2:=f.o;rw[P,show ls.length=r by omega];exact i.o)
  have e9:=aA (show HdI lk ls s from P▸HdI.rounds ls.length);obtain⟨J,c9⟩:∃x:World,x=wr:=⟨_,rfl⟩;subst c9;obtain⟨g1,a0⟩:∃x:Nat,x=gk:=⟨_,rfl⟩;subst a0;clear i g f P;go_wp2
  go_loopg [13,68] n (λgk d0 d1 wr=>∃vo k n3,vo=d0/\d1=.int .i64 (k:Nat)/\Hid (k+gk=n/\n3<=k)/\Hid (Hy wr (λq=>J.heap.size<=q) J vo n3 (((ls.take k).map λm=>ls.filter λa=>s a==m).filter λl=>decide (0<l.length)))/\Hid (Below J J wr))
  case atStart=>exact⟨_,0,0,rfl,rfl,aA (by omega),aA aJ.nil,aA (aH _ _)⟩
  obtain⟨vo,k,n3,rfl,rfl,f,RO,Q⟩:=hrel;by_cases g:k<n
  rotate_left
  .have a9:¬(k:Int)<(n:Int):=by omega
   have d2:=aA (show Na lk ls w (.returned vo) wr from by
    have t:=RO.o;rw[aW (by rw[LN.o];omega)]at t;have L:=SM.o.d.size;refine⟨vo,n3,rfl,by have:=f.o;have:=E.o;omega, ?_,jX E.o.2,SM.o.d.trans (Q.o.mono L)⟩;rw[HH.o];exact(t.wide (λq _ hp=>aT L hp)).base L)
   clear RO Q g f;go_wp2
   go_ret
   exact d2.o
  have a9:(k:Int)<(n:Int):=by omega
  obtain⟨b,a5,m,rfl,L,hm,q0⟩:=aY.get (H.o.keep (SM.o.d.trans (Q.o.mono SM.o.d.size))) g;have B:=aA (show gk-1<gk/\(k+1)+(gk-1)=n/\k<=26/\n3<=26/\n3+1<=k+1/\n3<=k+1 by have:=f.o;have:=E.o;omega);have b9:IntKind.i64.wrap ((k:Int)+1)=((k+1:Nat):Int):=by
   have:=B.o;simp[IntKind.wrap,IntKind.bits,IntKind.signed];omega
  have GN:=aA (Ku (h:=s) hm.o);have C:=aA (show Uy J wr () vo 0 n3 [] (((ls.take k).map λm=>ls.filter λa=>s a==m).filter λl=>decide (0<l.length))from⟨Q.o,aJ.nil,RO.o.wide (λq _ hp=>⟨hp,λe=>(by cases e)⟩)⟩);obtain⟨Y,a2⟩:∃x:Nat,x=gk:=⟨_,rfl⟩;subst a2;clear RO Q L g f;go_wp2
  clear q0;go_loopg [16,74] n (λgk d3 d4 wr=>∃vl j nl,vl=d3/\d4=.int .i64 (j:Nat)/\Hid (j+gk=n/\nl<=j)/\Hid (Uy J wr vl vo nl n3 ((ls.take j).filter λa=>s a==m) (((ls.take k).map λm=>ls.filter λa=>s a==m).filter λl=>decide (0<l.length))))
  case atStart=>exact⟨_,0,0,rfl,rfl,aA (by omega),C⟩
  clear C;obtain⟨vl,j,nl,rfl,rfl,f,C⟩:=hrel;by_cases g:j<n
  .have a1:(j:Int)<(n:Int):=by omega
   obtain⟨b2,a6,a,e2,G,S,q0⟩:=aY.get (H.o.keep (SM.o.d.trans (C.o.bel.mono SM.o.d.size))) g;injection e2 with e2;injection e2 with a3 a4;subst a3 a4;have o:=aA (show gk-1<gk/\(j+1)+(gk-1)=n/\j<=26/\nl+1<=j+1/\nl<=j+1 by have:=f.o;have:=E.o;omega);have c6:IntKind.i64.wrap ((j:Int)+1)=((j+1:Nat):Int):=by
    have:=o.o;simp[IntKind.wrap,IntKind.bits,IntKind.signed];omega
   have d5:nl<=26:=by have:=o.o;omega
   have hB:=C.o.bel.size;have TK:=aA (show(ls.take (j+1)).filter (λa=>s a==m)=(ls.take j).filter (λa=>s a==m)++(if(s a==m)=true then [a]else []) by
    rw[cP,S.o,dP];simp only[Option.toList_some];congr 1
    by_cases e:(s a==m)=true <;> simp[e])
   have O:=WgM.look (SM.o.keep C.o.bel) W.o (aS S.o);by_cases he:s a=m
   .have K:(s a==m)=true:=by simp[he]
    have T2:=aA (show(ls.take (j+1)).filter (λa=>s a==m)=(ls.take j).filter (λa=>s a==m)++[a] by rw[TK.o,aG K]);obtain⟨x,V⟩:=aK (s a);rw[V]at O K;clear G g f TK he V;go_wp2_with (at_builtin;refine gJ rfl _ _ rfl rfl rfl rfl C.o.lf hB d5 ?_;intro v8 w8 b0 d6 d7;have O8:=aA (C.o.appL b0 d6 d7))
    go_roundg (gk-1)
    case measure=>exact o.o.1
    exact⟨v8,j+1,nl+1,rfl,rfl,aA ⟨o.o.2.1,o.o.2.2.2.1⟩,aA (by rw[T2.o];exact O8.o)⟩
   have K:(s a==m)=false:=by simp[he]
   have T2:=aA (show(ls.take (j+1)).filter (λa=>s a==m)=(ls.take j).filter (λa=>s a==m) by rw[TK.o,aD (by rw[K];exact λh=>(by cases h)),j9]);obtain⟨x,V⟩:=aK (s a);rw[V]at O K;clear G g f TK he V;go_wp2
   go_roundg (gk-1)
   case measure=>exact o.o.1
   exact⟨vl,j+1,nl,rfl,rfl,aA ⟨o.o.2.1,o.o.2.2.2.2⟩,aA (by rw[T2.o];exact C.o)⟩
  have a1:¬(j:Int)<(n:Int):=by omega
  have b1:ls.take j=ls:=aW (by rw[LN.o];omega);rw[b1]at C;obtain⟨lg,b3⟩:=bS (ls.filter λa=>s a==m);rw[<-b3]at C GN;have NL:=aA (show lg.length=nl/\nl<=26 from⟨C.o.lf.len,by have:=f.o;have:=E.o;omega⟩);have R:=aA (show Hy wr (λq=>J.heap.size<=q) J vo n3 (((ls.take k).map λm=>ls.filter λa=>s a==m).filter λl=>decide (0<l.length))from C.o.ou.wide (λq _ hp=>hp.1));have LF:=aA C.o.lf;have Q:=aA C.o.bel;clear C g f b1 b3;by_cases h0:0<nl
  .have e0:(0:Int)<(nl:Int):=by omega
   have G2:=aA (show(((ls.take (k+1)).map λm=>ls.filter λa=>s a==m).filter λl=>decide (0<l.length))=(((ls.take k).map λm=>ls.filter λa=>s a==m).filter λl=>decide (0<l.length))++[lg] by rw[GN.o,aG (by rw[NL.o.1];exact h0)]);obtain⟨gs,cs,rfl,b4,_⟩:=LF.o.form h0;have RD:=aA (show cD (ApR (λq=>J.heap.size<=q)) 1 wr [.slice gs nl cs] [lg]from cD.list1 ⟨gs,nl,cs,rfl,(xJ.of_own LF.o).1,b4,by have:=NL.o;omega⟩);have hB:=Q.o.size;have e1:(n3+1)*24<=140737488355328:=by have:=B.o;omega
   have e3:n3+1<=281474976710656:=by have:=B.o;omega
   have KP:=aA (show ∀w',wr.grownBy w' vo.ownBlock->∀vs y,ApR (λq=>J.heap.size<=q) wr vs y->ApR (λq=>J.heap.size<=q) w' vs y from by
    obtain⟨c2,o2,_⟩:=R.o;exact λw' hg vs y hy=>hy.grownRow o2 (by decide) hg)
   clear h0 b4 GN;go_wp2_with (at_builtin;refine dJ (v:=vo) lO rfl _ _ rfl [lg] _ rfl rfl rfl rfl (by simp[Value.oneCell']) R.o RD.o rfl hB e3 e1 KP.o ?_;intro v9 w9 b5 e4 f0;have O9:=aA b5;have D9:=aA (Q.o.grown e4 hB (λq hq=>(R.o.lt q hq).1)))
   go_roundg (Y-1)
   case measure=>exact B.o.1
   exact⟨v9,k+1,n3+1,rfl,rfl,aA ⟨B.o.2.1,B.o.2.2.2.2.1⟩,aA (by rw[G2.o];exact O9.o),D9⟩
  have e0:¬(0:Int)<(nl:Int):=by omega
  have G2:=aA (show(((ls.take (k+1)).map λm=>ls.filter λa=>s a==m).filter λl=>decide (0<l.length))=(((ls.take k).map λm=>ls.filter λa=>s a==m).filter λl=>decide (0<l.length)) by rw[GN.o,aD (by rw[NL.o.1];exact h0),j9]);obtain⟨AL,cL,rfl,_⟩:=LF.o.sl (by have:=NL.o;omega);clear h0 GN;go_wp2
  go_roundg (Y-1)
  case measure=>exact B.o.1
  exact⟨vo,k+1,n3,rfl,rfl,aA ⟨B.o.2.1,B.o.2.2.2.2.2⟩,aA (by rw[G2.o];exact R.o),Q⟩
def xM {w:World}{A B:OAd}{n c m d:Nat}{g l:LIn}(i:aY w A n c g)(s:aY w B m d l) :
  Calls Tryz.prog 104 #[.slice A n c,.slice B m d] w λe w'=>e=.returned (.bool (iS g l))/\w=w':=by
 have D:=i.small;have G:=aA i;have L:=aA s;clear i s;go_enter Tryz.func104,Tryz.ntmps104
 go_wp2
 go_loop [9] (λv=>∃k:Nat,k<=n/\v=k/\Hid (∀j,j<k->∀y,g[j]?=some y->inS l y=false)) (λv=>n-(intOf v).toNat)
 case atStart=>exact⟨0,aL _,rfl,λj a=>absurd a (by omega)⟩
 case round =>
  obtain⟨k,E,rfl,lo⟩:=hrel;by_cases o:k<n
  rotate_left
  .go_wp2
   go_ret
   exact⟨bB (by
    unfold iS;rw[iC.2 (λy f=>?_)];obtain⟨j,a,rfl⟩:=hZ f;rw[lo.o j (by have:=G.o.len;omega) _ (aV a)];exact λh=>(by cases h)),rfl⟩
  have x:(k:Int)<(n:Int):=by omega
  obtain⟨b,C,y,rfl,F,f,H⟩:=aY.get G.o o;have p:=aA (dG y L.o);obtain⟨v,q⟩:=aK (inS l y);have t:=aA q;rw[show(l.any λz=>y==z)=v from q]at p;clear q;cases v
  .go_wp2_with (refine p.o.mono ?_;rintro e w' ⟨rfl,rfl⟩)
   go_round
   case rel =>
    refine⟨k+1,by omega,by go_num,λj a z u=>?_⟩;by_cases r:j=k
    .subst r;have:=f.o;rw[u]at this;injection this with this;rw[this];exact t.o
    exact lo.o j (by omega) z u
   simp[intOf];omega
  go_wp2_with (refine p.o.mono ?_;rintro e w' ⟨rfl,rfl⟩)
  go_ret
  exact⟨bB (by unfold iS;rw[dO.2 ⟨y,aS f.o,t.o⟩]),rfl⟩
def qM.good (P:Nat->Prop)(d:Nat):Qi (qM P d) 3 where
 kept:=qM.kept P d
 one:=λw vs x h j a=>by
  match d,h with
  | d+1,h =>
   obtain⟨b,e,A,n,c,f,_⟩:=h;match j,a with
   | 0,_=>rw[b];rfl
   | 1,_=>rw[e];rfl
   | 2,_=>rw[f];rfl
 pos:=by omega
def WT {P:Nat->Prop}{w:World}{d:Nat}{k1 g:Int}{S1:OAd}{b f:Nat}{k:bH}(m:fF P d w (.agg #[k1,g,.slice S1 b f]) k) :
  Sl (qM P (d+1)) 3 (w.alloc (.cells #[k1,g,.slice S1 b f] 35)) (some ⟨w,0,none⟩) 1 1 [k]:=by
 have o:=aF w (.cells #[k1,g,.slice S1 b f] 35);have l:=Box.new w #[k1,g,.slice S1 b f] 35;obtain⟨A,n,c,e,s,p⟩:=m.keep o;simp only[Value.agg.injEq,Array.mk.injEq,List.cons.injEq,Value.int.injEq,Value.slice.injEq,true_and,and_true]at e;obtain⟨a1,a2,a3,a4,a5⟩:=e;subst a3 a4 a5;refine⟨rfl,aB _,by simp[maxLen],by omega,λh=>(by cases h),λ_=>⟨w.heap.size,0,rfl,l.lt,λi x a=>?_⟩⟩;match i,a with
 | 0,a =>
  injection a with a;subst a;refine⟨vs3 k1 g (.slice S1 b f),λj q=>?_,by rw[a1];rfl,by rw[a2];rfl,S1,b,f,rfl,s,p⟩;rw[show 0+(0*3+j)=j by omega,l.cell j];match j,q with
  | 0,_=>rfl
  | 1,_=>rfl
  | 2,_=>rfl
 | i+1,a=>simp at a
def Kv {ops:Array Oper} {o:Oper} {a:Act} {K:Act->World->Prop} {Q:Exit->Act->World->Prop} {E:Prop} (c:o.guard=none) (s x:Operand)
  (j:o.op=.call {callee:=.builtin .append,args:=#[s,x],argTypes:=#[33,33]})
  {w0 w:World} {B f d n H:Nat} {v:Value} {ks:List bH} {T:bH} (l:a.eval s=v) (m:a.eval x=.slice H 1 1)
  (own:jE w B d v n ks) (src:Sl (qM (λk=>B<=k/\v.ownBlock≠some k) d) 3 w (some ⟨H,0,none⟩) 1 1 [T]) (p:B<=w.heap.size) (F:n<=100) (q:Below f w0 w) (g:f<=B)
  (hK:∀v' w',jE w' B d v' (n+1) (ks++[T])->w.grownBy w' v.ownBlock->Below f w0 w'->K (a.put o.dst v') w') :
  if Region.wanted o (yielded ops a.tmps)=true then Oper.wp Tryz.prog o a w K Q else E:=by
 have b:∀k,k<w.heap.size->(B<=k/\v.ownBlock≠some k)->(k<w.heap.size/\B<=k/\v.ownBlock≠some k):=λk h hp=>⟨h,hp⟩
 refine fW VR (qM.good (λk=>k<w.heap.size/\B<=k/\v.ownBlock≠some k) d) c s x j l m (own.imp (λ_ _ r=>r.wide b d)) (src.imp (λ_ _ r=>r.wide b d)) p (by omega) (by omega) (λw' t vs y u=>u.grown t (λk h hp=>hp.2.2 h) d) q g (λv' w' z A C D=>hK v' w' (z.imp (λ_ _ r=>r.wide (λk _ hp=>⟨hp.2.1, ?_⟩) d)) A C);rcases D with e|e
 .rw[e];exact hp.2.2
 .rw[e];intro i;injection i with i;omega
def F8 (f:Nat):Prop:=∀(w:World) (A:OAd) (n c:Nat) (log:LLi),cQ w A n c log->vZ f log->Calls Tryz.prog 44 #[.slice A n c] w (iT (f+2) (aX f log) w)
structure Rk (F:FuncId)(cv:Array Value)(w:World)(gs:LLi)(sub:LIn->LLi):Prop where
 enters:∀args w,(callFunc F args).run Tryz.prog w=.ok (.enter F args) w
 calls:∀(wr:World) (B:OAd) (m d:Nat) (g:LIn),g∈gs->Below w.heap.size w wr->aY wr B m d g ->
  Calls Tryz.prog F (#[.slice B m d]++cv) wr λe w'=>∃A n c,e=.returned (.slice A n c)/\cQ w' A n c (sub g)/\Below wr.heap.size wr w'
def rU {f:Nat}(IH:F8 f){w:World}{B:OAd}{m d:Nat}{A:LLi}{F:FuncId}{cv:Array Value}{sub:LIn->LLi}(hg:cQ w B m d A)(kd:Int)(hF:Rk F cv w A sub)(X:∀g∈A,vZ f (sub g))(hm:m<=26) :
  Calls Tryz.prog 93 #[kd,.slice B m d,.func (.func F) #[] cv] w (iT (f+3) (.mk kd 0 (A.map λg=>aX f (sub g))) w):=by
 have G:=aA hg;have b0:=hF.enters;have HF:=aA hF;have FU:=aA X;have NN:=aA hm;have b1:=aA IH;have B0:=aA ((aF w (.cells #[(0:Int),(0:Int),()] 35)).alloc (by simp) (.cells #[kd,(0:Int),()] 35));have J:=aA ((Box.new w #[(0:Int),(0:Int),()] 35).old (.cells #[kd,(0:Int),()] 35));have K:=aA (Box.newAt (w:=w.alloc (.cells #[(0:Int),(0:Int),()] 35)) (n:=w.heap.size+1) (by simp) #[kd,(0:Int),()] 35);clear hg hF X hm IH;go_enter Tryz.func93,Tryz.ntmps93
 go_upto_region 2 with fail
 generalize (w.alloc (.cells #[(0:Int),(0:Int),()] 35)).alloc (.cells #[kd,(0:Int),()] 35)=w1 at *
 go_wp2
 go_loopg [14] m (λgk u wr=>∃(k:Nat) (v:Value),u=k/\Hid (k+gk=m)/\Hid (jE wr w1 (f+3) v k ((A.take k).map λg=>aX f (sub g)))/\Hid (Below w w wr/\w1.heap.size<=wr.heap.size)/\Hid (Box wr w 35 #[(0:Int),(0:Int),()])/\Hid (Box wr (w.heap.size+1) 35 #[kd,(0:Int),v]))
 case atStart=>exact⟨0,_,rfl,aA (by omega),aA aJ.nil,aA ⟨B0.o,aB _⟩,J,K⟩
 case round =>
  have W1:=aA K.o.lt;clear J K;obtain⟨k,v,rfl,L,OB,C,J,K⟩:=hrel;obtain⟨D,E,rfl,_⟩:=OB.o.sl2 (by have:=L.o;have:=NN.o;omega);by_cases Y:k<m
  rotate_left
  .have b2:¬(k:Int)<(m:Int):=by omega
   have OF:=aA (show jE wr w1 (f+3) (.slice D k E) k (A.map λg=>aX f (sub g))from by
    have:=OB.o;rwa[aW (by rw[G.o.len];omega)]at this)
   have BA:=aA (show fF (λq=>w1.heap.size<=q) (f+3) wr (.agg #[kd,(0:Int),.slice D k E]) (.mk kd 0 (A.map λg=>aX f (sub g)))from by
    obtain⟨l,o,e5,s5,p5⟩:=OF.o.sl2 (by have:=L.o;have:=NN.o;omega);injection e5 with b3 _ b4;subst b3 b4;exact⟨_,_,_,rfl,s5,p5⟩)
   have z:=W1.o;have WW:=(J.o.set3 kd (.int .i64 0) (.slice D k E));have y:=mK wr w kd (.int .i64 0) (.slice D k E);have BW:=aA ((BA.o.grown y (λq c hp=>by injection c with c;omega)).wide (Q:=λq=>w.heap.size<=q) (λq _ c=>by omega));have DW:=aA (C.o.1.grown y C.o.1.size (λq c=>by injection c with c;omega));have b6:=aA WW;obtain⟨y0,y1,y2⟩:=K.o.three;obtain⟨u0,u1,u2⟩:=J.o.three;have fz:=λj=>J.o.frozen j
   clear WW y z Y;go_wp2
   generalize (((wr.setCell w kd).setCell ⟨w,1,none⟩ (.int .i64 0)).setCell ⟨w,2,none⟩ (.slice D k E))=ww at *
   obtain⟨z0,z1,z2⟩:=b6.o.three;exact aU (v:=.agg #[kd,(0:Int),.slice D k E]) (by simp[results,Tryz.results93,go_sem,z0,z1,z2]) rfl ⟨_,rfl,BW.o,DW.o⟩
  have b2:(k:Int)<(m:Int):=by omega
  obtain⟨b,d0,g,Bg,mg,dg,rfl,hb,M,q0,ig,d1⟩:=cQ.get (Sl.keep cS.kept G.o C.o.1) Y;have Z:=aA (show gk-1<gk/\(k+1)+(gk-1)=m/\k<=26 by have:=L.o;have:=NN.o;omega);have d2:IntKind.i64.wrap ((k:Int)+1)=((k+1:Nat):Int):=by
   have:=Z.o;simp[IntKind.wrap,IntKind.bits,IntKind.signed];omega
  have H:=aA ((aH wr wr).drew);have D0:=aA (C.o.1.trans (H.o.mono C.o.1.size));have CF:=aA (HF.o.calls wr.drew Bg mg dg g (aS M.o) D0.o (ig.keep H.o));have FG:=aA (FU.o g (aS M.o));have a0:=aA (OB.o.keep H.o);have b7:=aA (J.o.keep H.o);have N:=aA (K.o.keep H.o);have x2:=K.o.cell 2;clear ig hb;go_upto_region 5 with fail
  refine aN 9 (.takes [0,1,2,3] (.one 4 (.one 5 (.one 6 (.one 7 (.take 8 (.fin 9 .done))))))) (λw'=>w'.cell? ⟨w.heap.size+1,2,none⟩=some (.slice D k E)) (by kernel_rfl) (by kernel_rfl) (by kernel_rfl) (λ_ _ _ _ _ h=>h) x2 (λO=>?_);simp only[Scr.takes];clear x2 q0;generalize wr.drew=y1 at *
  iterate 4
   refine aM (v:=?_) rfl (by rfl) O (λw' b9=>?_) ?_
   rotate_left
   ·(go_simp;try with_reducible rfl)
   try simp only[aC]
  refine bK rfl (λKf a=>?_);go_simp
  refine CF.o.mono ?_;rintro e y2 ⟨A2,k2,c2,rfl,a1,P⟩;have c0:=aA (N.o.keep P);refine a.out _ _ (c0.o.cell 2) (λO=>?_);clear a;try simp only[aC]
  have CW:=aA (b1.o y2 A2 k2 c2 (sub g) a1 FG.o);have B2:=aA P;clear a1 P CF;refine bK rfl (λKf a=>?_);go_simp
  refine CW.o.mono ?_;rintro e y3 ⟨v3,rfl,⟨p,s,t,rfl,s3,p3⟩,a2⟩;have a3:=aA (show fF (λq=>y2.heap.size<=q) (f+2) y3 (.agg #[.int .i64 (aX f (sub g)).kind,.int .i64 (aX f (sub g)).label,.slice p s t]) (aX f (sub g))from⟨p,s,t,rfl,s3,p3⟩);obtain⟨R,S⟩:=bS ((aX f (sub g)).kind);obtain⟨T,U⟩:=bS ((aX f (sub g)).label);rw[<-S,<-U]at a3;rw[<-S,<-U];have B3:=aA (B2.o.trans (a2.mono B2.o.size));have c6:=aA (N.o.keep B3.o);have c7:=aA (aF y3 (.cells #[R,T,.slice p s t] 35));have B4:=aA (B3.o.trans (c7.o.mono B3.o.size));have RO:=aA (WT a3.o);clear s3 p3 a2 S U CW;refine a.out _ _ (c6.o.cell 2) (λO=>?_);clear a;try simp only[aC]
  refine bK rfl (λKf a=>?_);go_simp
  have a4:=aA (N.o.keep B4.o);refine a.out _ _ (a4.o.cell 2) (λO=>?_);clear a;try simp only[aC]
  refine bK rfl (λKf a=>?_);have V:w1.heap.size<=(y3.alloc (.cells #[R,T,.slice p s t] 35)).heap.size:=aT C.o.2 (aT H.o.size B4.o.size);have a5:=aA (a0.o.keep B4.o);have I:=a0.o.lt;have a6:=aA (RO.o.imp (λ_ _ r=>r.wide (Q:=λq=>w1.heap.size<=q/\(Value.slice D k E).ownBlock≠some q) (λq _ c=>⟨aT C.o.2 (aT H.o.size (aT B2.o.size c)),λe=>by have:=(I q e).2;have:=B2.o.size;omega⟩) (f+3)));refine Kv rfl (.tmp 19) (.tmp 24) rfl rfl rfl a5.o a6.o V (by have:=Z.o;omega) (aH w1 _) (aB _) ?_;intro VV W o5 g5 b5;obtain⟨l,o,rfl,_⟩:=o5.sl2 (by have:=Z.o;omega);have z:=W1.o;have i:=aA (a4.o.keepB b5 z);have a9:=aA ((b7.o.keep B4.o).keepB b5 (by omega));have O5:=aA o5;have D4:=aA (show Below w w (y3.alloc (.cells #[R,T,.slice p s t] 35))from D0.o.trans (B4.o.mono (aT C.o.1.size H.o.size)));have D5:=aA (show Below w w W from D4.o.trans (b5.mono (by omega)));have S5:=aA (show w1.heap.size<=W.heap.size from aT V b5.size);have z0:=i.o.cell 0;have z1:=i.o.cell 1;have z2:=i.o.cell 2;have fz:=λj=>i.o.frozen j
  clear o5 g5 b5 V I a5 a6 RO;refine a.out _ _ z2 (λO=>?_);clear a;try simp only[aC]
  refine aM (v:=?_) rfl (by rfl) O (λw' b9=>?_) ?_
  rotate_left
  ·(go_simp;try with_reducible rfl)
  try simp only[aC]
  refine cH rfl (λKf a=>?_);go_simp
  refine a.out _ _ ?_;clear a;try simp only[aC]
  refine cE ?_;clear O z0 z1 z2 fz;have y:=dI W (w.heap.size+1) 2 (.slice l (k+1) o);have O6:=aA (show jE (W.setCell ⟨w.heap.size+1,2,none⟩ (.slice l (k+1) o)) w1 (f+3) (.slice l (k+1) o) (k+1) ((A.take (k+1)).map λg=>aX f (sub g))from by
   rw[cP,M.o];simp only[Option.toList_some,fB,kZ,lA];refine aJ.kept O5.o y ?_ (λvs x hx=>hx.grown y (λq c hp=>by injection c with c;omega) (f+3));cases hv:(Value.slice l (k+1) o).ownBlock with
   | none=>exact .inl rfl
   | some q=>exact .inr (λe=>by injection e with e;have:=(O5.o.lt q hv).1;omega))
  have D6:=aA (show Below w w (W.setCell ⟨w.heap.size+1,2,none⟩ (.slice l (k+1) o))/\w1.heap.size<=(W.setCell ⟨w.heap.size+1,2,none⟩ (.slice l (k+1) o)).heap.size from⟨D5.o.grown y D5.o.size (λq c=>by injection c with c;omega),aT S5.o y.size⟩);have c8:=aA (show Box (W.setCell ⟨w.heap.size+1,2,none⟩ (.slice l (k+1) o)) (w.heap.size+1) 35 #[kd,(0:Int),.slice l (k+1) o]from by have:=i.o.set 2 (.slice l (k+1) o);simpa using this);have c9:=aA (a9.o.grown y (λe=>by injection e with e;omega));clear y z O5 D5 S5 i a9;go_wp2
  go_roundg (gk-1)
  case measure=>exact Z.o.1
  exact⟨k+1,(.slice l (k+1) o),rfl,aA Z.o.2.1,O6,D6,c9,c8⟩
def PrB (w:World)(b:Nat)(p:bI):Prop:=∃A1 A2 A3 A4 n1 c1 n2 c2 n3 c3 n4 c4,Box w b 123 #[.slice A1 n1 c1,.slice A2 n2 c2,.slice A3 n3 c3,.slice A4 n4 c4]/\PrI w A1 A2 A3 A4 n1 c1 n2 c2 n3 c3 n4 c4 p
def PrB.keep {w w':World}{b:Nat}{p:bI}(h:PrB w b p)(a:Below w w w'):PrB w' b p:=by
 obtain⟨A1,A2,A3,A4,n1,c1,n2,c2,n3,c3,n4,c4,x,i⟩:=h;exact⟨A1,A2,A3,A4,n1,c1,n2,c2,n3,c3,n4,c4,x.keep a,i.keep a⟩
abbrev w1V (b:Nat):Value:=.func (.func 89) #[] #[.pointer (some ⟨b,0,none⟩)]
def yQ {w:World}{bp:Nat}{p:bI}(a b:Int)(h:PrB w bp p) :
  Calls Tryz.prog 89 #[a,b,.pointer bp] w λe w'=>e=.returned (.bool (bhB p a b))/\Below w w w':=by
 obtain⟨A1,A2,A3,A4,n1,c1,n2,c2,n3,c3,n4,c4,x,i⟩:=h;have d:=aA (nN a b i.i4);have g:=x.cell 3;clear x i;go_enter Tryz.func89,Tryz.ntmps89
 go_wp2_with (refine d.o.mono ?_;rintro e w' ⟨rfl,c⟩;have f:=aA c;clear c)
 go_ret
 exact⟨rfl,f.o⟩
def Zd {w:World}{bp i:Nat}{p:bI}(ls:LIn)(h:PrB w bp p)(x:Box w i 166 #[w1V bp]):VQ 92 #[] #[.pointer i] w ls (λa b=>bhB p a b||bhB p b a) where
 enters:=λargs w=>by kernel_rfl
 calls:=λwr a b _ _ c=>by
  have H:=aA (h.keep c);have X:=aA (x.keep c);clear h x c;simp only[Array.empty_append];change Calls _ _ #[a,b,.pointer i] _ _
  have l:=X.o.cell 0;obtain⟨v,j⟩:=aK (bhB p a b);have f:=aA j;have k:=aA (yQ a b H.o);rw[j]at k;clear j;cases v
  .go_enter Tryz.func92,Tryz.ntmps92
   go_wp2_with fail
   refine k.o.mono ?_;rintro e m ⟨rfl,c⟩;have g:=aA c;have n:=aA (yQ b a (H.o.keep c));have l:=(X.o.keep c).cell 0;clear c;go_wp2_with fail
   refine n.o.mono ?_;rintro e q ⟨rfl,d⟩;have o:=aA (g.o.trans (d.mono g.o.size));clear d;go_wp2
   go_ret
   exact⟨bB (by first|rfl|(show _=(bhB p a b||bhB p b a);rw[f.o];rfl)|(unfold j3;rw[f.o];rfl)),o.o⟩
  go_enter Tryz.func92,Tryz.ntmps92
  go_wp2_with fail
  refine k.o.mono ?_;rintro e m ⟨rfl,c⟩;have g:=aA c;clear c;go_wp2
  go_ret
  exact⟨bB (by first|rfl|(show _=(bhB p a b||bhB p b a);rw[f.o];rfl)|(unfold j3;rw[f.o];rfl)),g.o⟩
def Ze {w:World}{bp i:Nat}{p:bI}(ls:LIn)(h:PrB w bp p)(x:Box w i 166 #[w1V bp]):VQ 103 #[] #[.pointer i] w ls (j3 p) where
 enters:=λargs w=>by kernel_rfl
 calls:=λwr a b _ _ c=>by
  have H:=aA (h.keep c);have X:=aA (x.keep c);clear h x c;simp only[Array.empty_append];change Calls _ _ #[a,b,.pointer i] _ _
  have l:=X.o.cell 0;obtain⟨v,j⟩:=aK (bhB p a b);have f:=aA j;have k:=aA (yQ a b H.o);rw[j]at k;clear j;cases v
  .go_enter Tryz.func103,Tryz.ntmps103
   go_wp2_with fail
   refine k.o.mono ?_;rintro e m ⟨rfl,c⟩;have g:=aA c;clear c;go_wp2
   go_ret
   exact⟨bB (by first|rfl|(show _=(bhB p a b||bhB p b a);rw[f.o];rfl)|(unfold j3;rw[f.o];rfl)),g.o⟩
  go_enter Tryz.func103,Tryz.ntmps103
  go_wp2_with fail
  refine k.o.mono ?_;rintro e m ⟨rfl,c⟩;have g:=aA c;have n:=aA (yQ b a (H.o.keep c));have l:=(X.o.keep c).cell 0;clear c;go_wp2_with fail
  refine n.o.mono ?_;rintro e q ⟨rfl,d⟩;have o:=aA (g.o.trans (d.mono g.o.size));clear d;go_wp2
  go_ret
  exact⟨bB (by first|rfl|(show _=(bhB p a b||bhB p b a);rw[f.o];rfl)|(unfold j3;rw[f.o];rfl)),o.o⟩
def LgB (w:World)(b:Nat)(log:LLi):Prop:=∃A n c,Box w b 30 #[.slice A n c]/\cQ w A n c log
def LgB.keep {w w':World}{b:Nat}{log:LLi}(h:LgB w b log)(a:Below w w w'):LgB w' b log:=by
 obtain⟨A,n,c,x,i⟩:=h;exact⟨A,n,c,x.keep a,Sl.keep cS.kept i a⟩
def Rl {w:World}{bl:Nat}{log o:LLi}(h:LgB w bl log)(r:log.length<=60):Rk 96 #[.pointer bl] w o (λg=>fY log g) where
 enters:=λargs w=>by kernel_rfl
 calls:=λwr B m d g _ a f=>by
  obtain⟨A,n,c,x,i⟩:=h.keep a;have j:=aA (JQ i f (by have:=i.len;omega));have s:=x.cell 0;clear x i f a h;change Calls _ _ #[_,.pointer bl] _ _
  go_enter Tryz.func96,Tryz.ntmps96
  go_wp2_with fail
  refine j.o.mono ?_;rintro e t ⟨v,u,rfl,k,b,a⟩;obtain⟨A2,c2,rfl,l⟩:=YQ.lists k b;have p:=aA l;have q:=aA a;clear k l a b j;go_wp2
  go_ret
  exact⟨_,_,_,rfl,p.o,q.o⟩
def WU {w:World}{bl:Nat}{log gs:LLi}(h:LgB w bl log)(hn:log.length<=60)(T:∀t∈log,t.length≠0):Rk 94 #[.pointer bl] w gs (λg=>log.filter λt=>inS g (t.headD 0)) where
 enters:=λargs w=>by kernel_rfl
 calls:=λwr B m d g _ s U=>by
  obtain⟨A,n,c,x,i⟩:=h.keep s;have hl:=i.len;have V:=aA (show n<=60 by omega);have HE:=aA T;have I:=aA i;have G:=aA U;have x0:=x.cell 0;clear x i U s h T hl;change Calls _ _ #[_,.pointer bl] _ _
  go_enter Tryz.func94,Tryz.ntmps94
  go_wp2
  clear x0;obtain⟨w1,D⟩:∃x:World,x=wr:=⟨_,rfl⟩;subst D;go_loopg [4,9] n (λgk s4 s9 wr=>∃v k nl,v=s4/\s9=.int .i64 (k:Nat)/\Hid (k+gk=n/\nl<=k)/\Hid (nY wr w1 w1 v nl ((log.take k).filter λt=>inS g (t.headD 0)))/\Hid (Below w1 w1 wr))
  case atStart=>exact⟨_,0,0,rfl,rfl,aA (by omega),aA aJ.nil,aA (aH _ _)⟩
  obtain⟨v,k,nl,rfl,rfl,f,l,o⟩:=hrel;by_cases j:k<n
  rotate_left
  .have E:¬(k:Int)<(n:Int):=by omega
   have RF:=aA (show nY wr w1 w1 v nl (log.filter λt=>inS g (t.headD 0))from by
    have:=l.o;rwa[aW (by have:=I.o.len;omega)]at this)
   obtain⟨A2,c2,rfl,W⟩:=nY.lists RF.o (by have:=f.o;have:=V.o;omega);have IL:=aA W;clear W j f l;go_wp2
   go_ret
   exact⟨_,_,_,rfl,by simpa using IL.o,o.o⟩
  have E:(k:Int)<(n:Int):=by omega
  obtain⟨b,F,t,vs,rfl,s,H,X,u,⟨Bt,J,Y,p,Z⟩,K⟩:=Sl.get (Sl.keep (tI.kept _) (Sl.lows I.o) o.o) j;have q0:wr.cell? ⟨b,F+k,none⟩=some (.slice Bt u J):=by have:=X 0 (by omega);rw[Y]at this;simpa using this
  have L:=HE.o t (aS H);obtain⟨bt,ot,y,rfl,M,C,qy⟩:=aY.get p (k:=0) (by have:=p.len;omega);rw[eP]at qy;have a0:0<u:=by have:=p.len;omega
  have HY:=aA (show t.headD 0=y from by
   have h1:=C.o;cases t with
   | nil=>simp at h1
   | cons z t=>simpa using h1)
  have HT:=aA (show log[k]?=some t from H);have a:=aA (show gk-1<gk/\(k+1)+(gk-1)=n/\k<=60/\nl+1<=k+1/\nl<=k+1 by have:=f.o;have:=V.o;omega);have a1:IntKind.i64.wrap ((k:Int)+1)=((k+1:Nat):Int):=by
   have:=a.o;simp[IntKind.wrap,IntKind.bits,IntKind.signed];omega
  have N:=aA (dG y (G.o.keep o.o));have RD:=aA (show cD (tI w1) 1 wr [.slice (some ⟨bt,ot,none⟩) u J] [t]from cD.list1 ⟨u,⟨_,J,rfl,p,Z⟩,K⟩);have TK:=aA (show(log.take (k+1)).filter (λt=>inS g (t.headD 0))=(log.take k).filter (λt=>inS g (t.headD 0))++(if inS g y=true then [t]else []) by
   rw[cP,HT.o,dP];simp only[Option.toList_some];congr 1
   rw[List.filter_cons,HY.o];by_cases e:inS g y=true <;> simp[e])
  have hB:=o.o.size;have O:(nl+1)*24<=140737488355328:=by have:=a.o;omega
  have P:nl+1<=281474976710656:=by omega
  have KP:=aA (show ∀w',wr.grownBy w' v.ownBlock->∀vs y,tI w1 wr vs y->tI w1 w' vs y from λw' hg vs y C=>C.grownR hg (λq Q=>(l.o.lt q Q).1));obtain⟨z,R⟩:=aK (inS g y);have HZ:=aA R;rw[show(g.any λx=>y==x)=z from R]at N;clear X Y p Z L C s M j R H;cases z
  .have T2:=aA (show(log.take (k+1)).filter (λt=>inS g (t.headD 0))=(log.take k).filter (λt=>inS g (t.headD 0)) by rw[TK.o,HZ.o];simp);go_wp2_with (refine N.o.mono ?_;rintro e w' ⟨rfl,rfl⟩)
   go_roundg (gk-1)
   case measure=>exact a.o.1
   exact⟨v,k+1,nl,rfl,rfl,aA ⟨a.o.2.1,a.o.2.2.2.2⟩,aA (by rw[T2.o];exact l.o),o⟩
  have T2:=aA (show(log.take (k+1)).filter (λt=>inS g (t.headD 0))=(log.take k).filter (λt=>inS g (t.headD 0))++[t] by rw[TK.o,HZ.o];simp);go_wp2_with (first|(refine N.o.mono ?_;rintro e w' ⟨rfl,rfl⟩)|(at_builtin;refine dJ (v:=v) lO rfl _ _ rfl [t] _ rfl rfl rfl rfl (by simp[Value.oneCell']) l.o RD.o rfl hB P O KP.o ?_;intro v8 w8 r S a2;have O8:=aA r;have D8:=aA (o.o.grown S hB (λq Q=>(l.o.lt q Q).1))))
  go_roundg (gk-1)
  case measure=>exact a.o.1
  exact⟨v8,k+1,nl+1,rfl,rfl,aA ⟨a.o.2.1,a.o.2.2.2.1⟩,aA (by rw[T2.o];exact O8.o),D8⟩
def WV {P:Program} {ops:Array Oper} {Q:Exit->Act->World->Prop} {S:World->Prop} {T:Scr} (a:Scr) {a0:Act} {w0:World} (F:Act->Act->World->Prop) (hF:∀b w',F a0 b w'->S w'->fH P ops Q S a b w')
  (h:Hid (∀b w',F a0 b w'->S w'->fH P ops Q S a b w')->fH P ops Q S T a0 w0):fH P ops Q S T a0 w0:=h hF
structure Nl (wB w:World)(vo vt:Value)(nO nT:Nat)(out todo:LIn):Prop where
 d:Below wB.heap.size wB w
 o:aI w wB.heap.size vo nO out
 t:A0 w wB.heap.size vt nT todo
 ne:vo.ownBlock=none∨vo.ownBlock≠vt.ownBlock
def Nl.keep {b w w':World}{vo c:Value}{d e:Nat}{out todo:LIn}(h:Nl b w vo c d e out todo)(a:Below w w w'):Nl b w' vo c d e out todo :=
 ⟨h.d.trans (a.mono h.d.size),h.o.keep fG.kept a,h.t.keep a,h.ne⟩
def Nl.appO {c w w':World}{vo d v':Value}{f j:Nat}{out todo:LIn}{y:Int}(h:Nl c w vo d f j out todo)(o:aI w' c v' (f+1) (out++[y]))(l:w.grownBy w' vo.ownBlock)(m:v'.ownBlock=vo.ownBlock∨v'.ownBlock=some w):Nl c w' v' d (f+1) j (out++[y]) todo:=by
 have a:d.ownBlock≠vo.ownBlock:=by
  obtain⟨g,n,cap,p,e,_⟩:=h.t;rcases h.ne with i|i
  .rw[i,e];exact λe=>(by cases e)
  exact λb=>i b.symm
 refine⟨h.d.grown l h.d.size (λk q=>(h.o.lt k q).1),o,h.t.kept l a,.inr ?_⟩;rcases m with e|e
 .rw[e];exact λb=>a b.symm
 rw[e];intro b;have:=(h.t.lt _ b.symm).2;omega
def Nl.appT {a w w':World}{vo b v':Value}{d c:Nat}{out todo:LIn}{y:Int}(h:Nl a w vo b d c out todo)(o:A0 w' a v' (c+1) (todo++[y]))(f:w.grownBy w' b.ownBlock)(i:v'.ownBlock=b.ownBlock∨v'.ownBlock=some w):Nl a w' vo v' d (c+1) out (todo++[y]):=by
 refine⟨h.d.grown f h.d.size (λk j=>(h.t.lt k j).1),h.o.kept f h.ne (λ_ _ x=>x),o, ?_⟩;cases e1:vo.ownBlock with
 | none=>exact .inl rfl
 | some k =>
  refine .inr ?_;rcases i with e|e
  .rw[e,<-e1];exact h.ne.resolve_left (by rw[e1];exact λe=>(by cases e))
  rw[e];intro g;injection g with g;have:=(h.o.lt k e1).2;omega
def A0.notBox {w:World}{B n b ty:Nat}{v:Value}{xs:LIn}{cs:Array Value}(h:A0 w B v n xs)(x:Box w b ty cs)(a:3≠ty):v.ownBlock≠some b:=λe=>by
 obtain⟨g,c,cap,d,rfl,_,f,_⟩:=h;injection e with e;change g=b at e
 subst e;have:=f.symm.trans x;injection this with this;injection this with _ this _;exact a this
def VU (p:bI)(a:Int)(w:World)(e:Ending)(w':World):Prop :=
 ∃A n c out,e=.returned (.slice A n c)/\aY w' A n c out/\(∀y,y∈out↔Via (λa b=>(a,b)∈p.behind) p.labels a y)/\Below w.heap.size w w'
def z7 {ls out:LIn}(a:out.Nodup)(h:∀y∈out,y∈ls):out.length<=ls.length:=kS out ls a h
def Via.right {R:Int->Int->Prop}{K:LIn}{a b:Int}(d:∀u v,R u v->v∈K)(h:Via R K a b):b∈K:=by
 induction h with
 | one c=>exact d _ _ c
 | step _ _ c _=>exact d _ _ c
def Pm {w:World}{A1 A2 A3 A4:OAd}{n1 c1 n2 c2 n3 c3 n4 c4:Nat}{p:bI}(a:Int)(h:PrI w A1 A2 A3 A4 n1 c1 n2 c2 n3 c3 n4 c4 p)(hR:∀u v,(u,v)∈p.behind->u∈p.labels/\v∈p.labels)(hl:p.labels.length<=26) :
  Calls Tryz.prog 99 #[.agg #[.slice A1 n1 c1,.slice A2 n2 c2,.slice A3 n3 c3,.slice A4 n4 c4],a] w (VU p a w):=by
 have H:=aA h;have RR:=aA hR;have NL:=aA hl;have NB:=h.i4.small;have B0:=aA (aF w (.cells #[.slice A1 n1 c1,.slice A2 n2 c2,.slice A3 n3 c3,.slice A4 n4 c4] 123));have X0:=aA (Box.new w #[.slice A1 n1 c1,.slice A2 n2 c2,.slice A3 n3 c3,.slice A4 n4 c4] 123);clear h hR hl;go_enter Tryz.func99,Tryz.ntmps99
 go_upto_region 2 with fail
 generalize w.alloc (.cells #[.slice A1 n1 c1,.slice A2 n2 c2,.slice A3 n3 c3,.slice A4 n4 c4] 123)=B at *
 have L0:=aA (show Nl B (B.alloc (.cells #[a] 3)) () (.slice B 1 1) 0 1 [] [a]from⟨aF B _,aJ.nil,⟨B.heap.size,0,1,_,rfl,aB _,Box.new B #[a] 3,aB _,by simp[maxLen],by simp,rfl,by simp⟩,.inl rfl⟩);go_wp2
 generalize B.alloc (.cells #[a] 3)=w2 at *
 go_loopg [5,6] (p.labels.length+1) (λgk s5 s6 wr=>∃vo vt m l dn out todo,vo=s5/\vt=s6/\Hid (l+dn=1+m/\dn+gk=p.labels.length+1)/\Hid (BfI (λa b=>(a,b)∈p.behind) p.labels a out todo)/\Hid (Nl B wr vo vt m l out todo))
 case atStart=>exact⟨_,_,0,1,0,[],[a],rfl,rfl,aA (by omega),aA BfI.start,L0⟩
 case round =>
  clear L0;obtain⟨vo,vt,m,l,dn,out,todo,rfl,rfl,HK,BF,s⟩:=hrel;have o:=z7 BF.o.nd (λy hy=>Via.right (λu v h=>(RR.o u v h).2) (BF.o.snd y hy));have M:=s.o.o.len;obtain⟨g,j,cap,d0,rfl,a2,a3,a4,a5,a6,I,a9⟩:=s.o.t;cases todo with
  | nil =>
   obtain rfl:l=0:=by simpa using I.symm
   obtain⟨AO,cO,rfl,io⟩:=s.o.o.sl (by have:=NL.o;omega);have b4:=aA (show VU p a w (.returned (.slice AO m cO)) wr from⟨AO,m,cO,out,rfl,io,BF.o.fin,B0.o.trans (s.o.d.mono B0.o.size)⟩);clear a2 a3 a4 a5 a6 I a9 io o M;go_wp2
   go_ret
   exact b4.o
  | cons x rest =>
   obtain⟨n,rfl⟩:∃n,l=n+1:=⟨rest.length,by rw[<-I];rfl⟩;have HX:=aA (show m<=26/\n<=60/\1<=cap/\gk≠0 by have:=HK.o;have:=NL.o;omega);have x3:wr.cell? ⟨w,3,none⟩=some (.slice A4 n4 c4):=((X0.o.keep s.o.d)).cell 3;clear a2 a3 a4 a5 a6 I a9 o M;obtain⟨go,b5⟩:∃z:Nat,z=gk:=⟨_,rfl⟩;subst b5;have E:=aA (BF.o.open_);go_wp2
   clear x3;go_loopg [5,6,17] n4 (λgk s5 s6 b6 wr=>∃vo k m l cap g j out rest,vo=s5/\s6=.slice (some ⟨g,j,none⟩) (l+1) cap/\b6=.int .i64 (k:Nat)/\Hid (k+gk=n4/\l+1+dn=1+m)/\Hid (BxI (λa b=>(a,b)∈p.behind) p.labels a x (p.behind.take k) out rest)/\Hid (Nl B wr vo (.slice (some ⟨g,j,none⟩) (l+1) cap) m (l+1) out (x::rest)))
   case atStart=>exact⟨vo,0,m,n,cap,g,j,out,rest,rfl,rfl,rfl,aA (by have:=HK.o;omega),by simpa using E,s⟩
   clear E s;obtain⟨vo,k,m,l,cap,g,j,out,rest,rfl,rfl,rfl,HI,E,s⟩:=hrel;by_cases b0:k<n4
   rotate_left
   .have b7:¬(k:Int)<(n4:Int):=by omega
    have hB:=E.o;rw[aW (by rw[H.o.i4.len];omega)]at hB;have BC:=aA (show BfI (λa b=>(a,b)∈p.behind) p.labels a out rest from hB.close (λu v h=>h));clear hB;have o:=z7 E.o.nd (λy hy=>Via.right (λu v h=>(RR.o u v h).2) (E.o.snd y hy));have b9:=s.o.o.len;have r:=aA (show go-1<go/\l+(dn+1)=1+m/\(dn+1)+(go-1)=p.labels.length+1 by have:=HK.o;have:=HI.o;have:=HX.o;omega);have TL:=aA (s.o.t.tail);have S:1<=cap:=by obtain⟨g',o',c',cu,e,_,_,h4,_⟩:=s.o.t;injection e with _ _ e3;omega
    have LT:=aA (show Nl B wr vo (.slice (if cap=1 then some ⟨g,j,none⟩else some ⟨g,j+1,none⟩) l (cap-1)) m l out rest from⟨s.o.d,s.o.o,TL.o,by
     rcases s.o.ne with e|e
     .exact .inl e
     refine .inr ?_;by_cases J:cap=1
     .rw[aG J];exact e
     rw[aD J];exact e⟩)
    clear b0 o b9;by_cases J:cap=1
    .subst J;clear S;go_wp2
     go_roundg (go-1)
     case measure=>exact r.o.1
     exact⟨vo,_,m,l,dn+1,out,rest,rfl,rfl,aA r.o.2,BC,by simpa using LT⟩
    have d1:(1:Int)<=(cap:Int):=by omega
    rw[aD J]at LT;go_wp2
    go_roundg (go-1)
    case measure=>exact r.o.1
    exact⟨vo,_,m,l,dn+1,out,rest,rfl,rfl,aA r.o.2,BC,LT⟩
   have b7:(k:Int)<(n4:Int):=by omega
   obtain⟨b,N,t,vs,rfl,hb,ht,J,e0,e1⟩:=Sl.get (Sl.keep yB.kept H.o.i4 (B0.o.trans (s.o.d.mono B0.o.size))) b0;have q0:wr.cell? ⟨b,N+k*2,none⟩=some (.int .i64 t.1):=by have:=J 0 (by omega);rw[e0]at this;simpa using this
   have q1:wr.cell? ⟨b,N+k*2+1,none⟩=some (.int .i64 t.2):=by have:=J 1 (by omega);rw[e1]at this;simpa [Nat.add_assoc] using this
   have HT:=aA (show p.behind[k]?=some t from ht);have TK:=aA (show p.behind.take (k+1)=p.behind.take k++[t] by rw[cP,HT.o];rfl);have o:=z7 E.o.nd (λy hy=>Via.right (λu v h=>(RR.o u v h).2) (E.o.snd y hy));have r:=aA (show gk-1<gk/\(k+1)+(gk-1)=n4/\m<=26/\l<=60 by have:=HI.o;have:=NL.o;have:=s.o.o.len;omega);have d2:(k:Int)+1<=281474976710656:=by omega
   have BB:=aA (aF wr (.cells #[.int .i64 t.1,.int .i64 t.2] 165));have TB:=aA (Box.new wr #[.int .i64 t.1,.int .i64 t.2] 165);have LB:=aA (s.o.keep BB.o);clear hb ht J e0 e1 o s;go_upto_region 7 with fail
   clear q0 q1;generalize wr.alloc (.cells #[.int .i64 t.1,.int .i64 t.2] 165)=w3 at *
   generalize wr.heap.size=O at *
   have z0:=TB.o.cell 0;have K:=TB.o.cell 1;have T:=LB.o.t.cell (i:=0) (x:=x) rfl;rw[eP]at T;have DD:=aA ((aH w3 w3).drew);have LD:=aA (LB.o.keep DD.o);have TD:=aA (TB.o.keep DD.o);have d3:0<l+1:=by omega
   obtain⟨AO,cO,rfl,io⟩:=LB.o.o.sl (by have:=r.o;omega);by_cases hx:t.1=x
   rotate_left
   .have c0:(t.1==x)=false:=by simp[hx]
    have BN:=aA (show BxI (λa b=>(a,b)∈p.behind) p.labels a x (p.behind.take (k+1)) out rest from by rw[TK.o];exact E.o.skip (.inl hx));clear hx io;refine aN 12 (.takes [0,1,2,3,4,5,6,7,8,9,10,11] (.fin 12 .done)) (λw'=>w'.cell? O=some (.int .i64 t.1)/\w'.cell? ⟨O,1,none⟩=some (.int .i64 t.2)/\w'.cell? ⟨g,j,none⟩=some (.int .i64 x)) (by kernel_rfl) (by kernel_rfl) (by kernel_rfl) (λ_ _ _ _ _ h=>h) ⟨z0,K,T⟩ (λd=>?_);simp only[Scr.takes];clear z0 K T;generalize w3.drew=U at *
    iterate 5
     refine aM (v:=?_) rfl (by rfl) d (λw' f=>?_) ?_
     rotate_left
     ·(go_simp;try with_reducible rfl)
     try simp only[aC]
    refine aM (v:=.bool false) rfl (by rfl) d (λw' f=>?_) ?_
    ·(go_simp;try with_reducible rfl)
    try simp only[aC]
    refine aM (v:=.bool false) rfl (by rfl) d (λw' f=>?_) ?_
    ·(go_simp;try with_reducible rfl)
    try simp only[aC]
    iterate 5
     refine vV rfl (by rfl) d ?_;try simp only[aC]
    refine cH rfl (λC c=>?_);go_simp
    refine c.out _ _ ?_;clear c;try simp only[aC]
    refine cE ?_;clear d;go_wp2
    go_roundg (gk-1)
    case measure=>exact r.o.1
    exact⟨_,k+1,m,l,cap,g,j,out,rest,rfl,rfl,by go_num,aA ⟨r.o.2.1,HI.o.2⟩,BN,LD⟩
   have c0:(t.1==x)=true:=by simp[hx]
   have CC:=aA (dG t.2 (aY.keep io DD.o));obtain⟨z,hz⟩:=aK ((out.any λy=>t.2==y));have HZ:=aA hz;rw[hz]at CC;have c5:=aA hx;clear hx hz io;cases z
   rotate_left
   .refine aN 12 (.takes [0,1,2,3,4,5,6,7,8,9] (.one 10 (.take 11 (.fin 12 .done)))) (λw'=>w'.cell? O=some (.int .i64 t.1)/\w'.cell? ⟨O,1,none⟩=some (.int .i64 t.2)/\w'.cell? ⟨g,j,none⟩=some (.int .i64 x)) (by kernel_rfl) (by kernel_rfl) (by kernel_rfl) (λ_ _ _ _ _ h=>h) ⟨z0,K,T⟩ (λd=>?_);simp only[Scr.takes];clear z0 K T;generalize w3.drew=U at *
    iterate 5
     refine aM (v:=?_) rfl (by rfl) d (λw' f=>?_) ?_
     rotate_left
     ·(go_simp;try with_reducible rfl)
     try simp only[aC]
    refine aM (v:=.bool true) rfl (by rfl) d (λw' f=>?_) ?_
    ·(go_simp;try with_reducible rfl)
    try simp only[aC]
    refine aM (v:=.bool true) rfl (by rfl) d (λw' f=>?_) ?_
    ·(go_simp;try with_reducible rfl)
    try simp only[aC]
    iterate 3
     refine aM (v:=?_) rfl (by rfl) d (λw' f=>?_) ?_
     rotate_left
     ·(go_simp;try with_reducible rfl)
     try simp only[aC]
    refine bK rfl (λC c=>?_);go_simp
    refine CC.o.mono ?_;rintro e w' ⟨rfl,rfl⟩;refine c.out _ _ d (λd=>?_);clear c;try simp only[aC]
    refine aM (v:=.bool false) rfl (by rfl) d (λw' f=>?_) ?_
    ·(go_simp;try with_reducible rfl)
    try simp only[aC]
    refine cH rfl (λC c=>?_);go_simp
    refine c.out _ _ ?_;clear c;try simp only[aC]
    refine cE ?_;clear d;have BN:=aA (show BxI (λa b=>(a,b)∈p.behind) p.labels a x (p.behind.take (k+1)) out rest from by rw[TK.o];exact E.o.skip (.inr (by obtain⟨q,hq,e⟩:=dO.1 HZ.o;rw[fA]at e;rw[e];exact hq)));go_wp2
    go_roundg (gk-1)
    case measure=>exact r.o.1
    exact⟨_,k+1,m,l,cap,g,j,out,rest,rfl,rfl,by go_num,aA ⟨r.o.2.1,HI.o.2⟩,BN,LD⟩
   refine aN 12 (.takes [0,1,2,3,4,5,6,7,8,9] (.one 10 (.take 11 (.fin 12 .done)))) (λw'=>w'.cell? O=some (.int .i64 t.1)/\w'.cell? ⟨O,1,none⟩=some (.int .i64 t.2)/\w'.cell? ⟨g,j,none⟩=some (.int .i64 x)) (by kernel_rfl) (by kernel_rfl) (by kernel_rfl) (λ_ _ _ _ _ h=>h) ⟨z0,K,T⟩ (λd=>?_);simp only[Scr.takes];clear z0 K T;generalize w3.drew=U at *
   iterate 5
    refine aM (v:=?_) rfl (by rfl) d (λw' f=>?_) ?_
    rotate_left
    ·(go_simp;try with_reducible rfl)
    try simp only[aC]
   refine aM (v:=.bool true) rfl (by rfl) d (λw' f=>?_) ?_
   ·(go_simp;try with_reducible rfl)
   try simp only[aC]
   refine aM (v:=.bool true) rfl (by rfl) d (λw' f=>?_) ?_
   ·(go_simp;try with_reducible rfl)
   try simp only[aC]
   iterate 3
    refine aM (v:=?_) rfl (by rfl) d (λw' f=>?_) ?_
    rotate_left
    ·(go_simp;try with_reducible rfl)
    try simp only[aC]
   refine bK rfl (λC c=>?_);go_simp
   refine CC.o.mono ?_;rintro e w' ⟨rfl,rfl⟩;refine c.out _ _ d (λd=>?_);clear c;try simp only[aC]
   refine aM (v:=.bool true) rfl (by rfl) d (λw' f=>?_) ?_
   ·(go_simp;try with_reducible rfl)
   try simp only[aC]
   refine cH rfl (λC c=>?_);go_simp
   refine c.out _ _ ?_;clear c;try simp only[aC]
   refine cE ?_;clear d;go_upto_region 8 with fail
   have K:=TD.o.cell 1;have b1:=aA (TD.o.keep (aH U U).drew);have V:=aA (LD.o.keep (aH U U).drew);have BN:=aA (show BxI (λa b=>(a,b)∈p.behind) p.labels a x (p.behind.take (k+1)) (out++[t.2]) (rest++[t.2])from by
    rw[TK.o];exact E.o.take c5.o (λhm=>by have:=iC.1 HZ.o _ hm;simp at this) (aS HT.o) (λu v h=>RR.o u v h))
   refine aN 11 (.takes [0,1,2,5,6,7] (.two 3 (.two 4 (.one 8 (.one 9 (.take 10 (.fin 11 .done)))) 8 (.one 4 (.one 9 (.take 10 (.fin 11 .done))))) 8 (.one 3 (.one 4 (.one 9 (.take 10 (.fin 11 .done))))))) (λw'=>w'.cell? ⟨O,1,none⟩=some (.int .i64 t.2)) (by kernel_rfl) (by kernel_rfl) (by kernel_rfl) (λ_ _ _ _ _ h=>h) K (λd=>?_);simp only[Scr.takes];clear K;generalize U.drew=u0 at *
   iterate 6
    refine aM (v:=?_) rfl (by rfl) d (λw' f=>?_) ?_
    rotate_left
    ·(go_simp;try with_reducible rfl)
    try simp only[aC]
   refine WV (.one 9 (.take 10 (.fin 11 .done))) (λa0 a' w'=>∃(H1 H2:Nat) (v':Value),a'=(((a0.put (some 37) (.slice H1 1 1)).put (some 38) v').put (some 42) (.slice H2 1 1))/\Hid (Nl B w' v' (.slice (some ⟨g,j,none⟩) (l+1) cap) (m+1) (l+1) (out++[t.2]) (x::rest))/\Hid (Box w' H2 3 #[.int .i64 t.2])/\Hid (Box w' O 165 #[.int .i64 t.1,.int .i64 t.2])) ?_ (λEN=>?_)
   rotate_left
   .refine mN rfl rfl (λC c=>?_) (λC c=>?_)
    rotate_left
    .go_simp
     have F:=aA (aF u0 (.cells #[.int .i64 t.2] 3));have N1:=aA (Box.new u0 #[.int .i64 t.2] 3);have c6:=aA (show u0.heap.size<(u0.alloc (.cells #[.int .i64 t.2] 3)).heap.size by simp);have W:=aA (b1.o.keep F.o);have P:=aA (V.o.keep F.o);refine c.out _ _ (W.o.cell 1) (λd=>?_);clear c;try simp only[aC]
     generalize u0.alloc (.cells #[.int .i64 t.2] 3)=u1 at *
     refine bK rfl (λC c=>?_);go_simp
     have A:=aA (aF u1 (.cells #[.int .i64 t.2] 3));have N2:=aA (Box.new u1 #[.int .i64 t.2] 3);have c7:=aA (show u1.heap.size<(u1.alloc (.cells #[.int .i64 t.2] 3)).heap.size by simp);have T2:=aA (W.o.keep A.o);have L:=aA (P.o.keep A.o);have X:=aA (N1.o.keep A.o);refine c.out _ _ (T2.o.cell 1) (λd=>?_);clear c;try simp only[aC]
     generalize u1.alloc (.cells #[.int .i64 t.2] 3)=u2 at *
     refine bK rfl (λC c=>?_);refine fW iO fG.good rfl (.tmp 34) (.tmp 37) rfl rfl rfl L.o.o (aY.box (xs:=[t.2]) N2.o rfl rfl (by omega)) L.o.d.size (by have:=r.o;omega) (by have:=r.o;omega) (λ_ _ _ _ h=>h) (aH B u2) (aB _) ?_;intro v8 u3 Q D b8 R;have Y:=aA (L.o.appO Q D R);have G:=aA (T2.o.grown D (aJ.notBox L.o.o T2.o (by decide)));have N3:=aA (X.o.grown D (λe=>by have h1:=(V.o.o.lt _ e).2;omega));clear Q D b8 R;refine c.out _ _ (G.o.cell 1) (λd=>?_);clear c;try simp only[aC]
     exact EN.o _ _ ⟨_,_,v8,rfl,Y,N3,G⟩ d
    go_simp
    have F:=aA (aF u0 (.cells #[.int .i64 t.2] 3));have N1:=aA (Box.new u0 #[.int .i64 t.2] 3);have c6:=aA (show u0.heap.size<(u0.alloc (.cells #[.int .i64 t.2] 3)).heap.size by simp);have W:=aA (b1.o.keep F.o);have P:=aA (V.o.keep F.o);refine c.out _ _ (W.o.cell 1) (λd=>?_);clear c;try simp only[aC]
    generalize u0.alloc (.cells #[.int .i64 t.2] 3)=u1 at *
    refine mN rfl rfl (λC c=>?_) (λC c=>?_)
    .refine fW iO fG.good rfl (.tmp 34) (.tmp 37) rfl rfl rfl P.o.o (aY.box (xs:=[t.2]) N1.o rfl rfl (by omega)) P.o.d.size (by have:=r.o;omega) (by have:=r.o;omega) (λ_ _ _ _ h=>h) (aH B u1) (aB _) ?_;intro v8 u2 Q D b8 R;have c8:=aA (P.o.appO Q D R);have Z:=aA (W.o.grown D (aJ.notBox P.o.o W.o (by decide)));clear Q D b8 R;refine c.out _ _ (Z.o.cell 1) (λd=>?_);clear c;try simp only[aC]
     refine bK rfl (λC c=>?_);go_simp
     have a1:=aA (aF u2 (.cells #[.int .i64 t.2] 3));have N3:=aA (Box.new u2 #[.int .i64 t.2] 3);have d4:=aA (show u2.heap.size<(u2.alloc (.cells #[.int .i64 t.2] 3)).heap.size by simp);have L3:=aA (c8.o.keep a1.o);refine c.out _ _ ((Z.o.keep a1.o).cell 1) (λd=>?_);clear c;try simp only[aC]
     exact EN.o _ _ ⟨_,_,v8,rfl,L3,N3,aA (Z.o.keep a1.o)⟩ d
    go_simp
    have A:=aA (aF u1 (.cells #[.int .i64 t.2] 3));have N2:=aA (Box.new u1 #[.int .i64 t.2] 3);have c7:=aA (show u1.heap.size<(u1.alloc (.cells #[.int .i64 t.2] 3)).heap.size by simp);have T2:=aA (W.o.keep A.o);have L:=aA (P.o.keep A.o);have X:=aA (N1.o.keep A.o);refine c.out _ _ (T2.o.cell 1) (λd=>?_);clear c;try simp only[aC]
    generalize u1.alloc (.cells #[.int .i64 t.2] 3)=u2 at *
    refine bK rfl (λC c=>?_);refine fW iO fG.good rfl (.tmp 34) (.tmp 37) rfl rfl rfl L.o.o (aY.box (xs:=[t.2]) X.o rfl rfl (by omega)) L.o.d.size (by have:=r.o;omega) (by have:=r.o;omega) (λ_ _ _ _ h=>h) (aH B u2) (aB _) ?_;intro v8 u3 Q D b8 R;have Y:=aA (L.o.appO Q D R);have G:=aA (T2.o.grown D (aJ.notBox L.o.o T2.o (by decide)));have N3:=aA (N2.o.grown D (λe=>by have h1:=(P.o.o.lt _ e).2;omega));clear Q D b8 R;refine c.out _ _ (G.o.cell 1) (λd=>?_);clear c;try simp only[aC]
    exact EN.o _ _ ⟨_,_,v8,rfl,Y,N3,G⟩ d
   intro a' w' hF d;obtain⟨H1,H2,v',rfl,LN,c9,TN⟩:=hF;try simp only[aC]
   refine bK rfl (λC c=>?_);refine Rh rfl (.tmp 39) (.tmp 42) rfl rfl rfl LN.o.t (c9.o.cell 0) LN.o.d.size (by have:=r.o;omega) ?_;intro v9 w9 o9 g9 l9;have LF:=aA (LN.o.appT o9 g9 l9);have TF:=aA (TN.o.grown g9 (LN.o.t.notBox TN.o (by decide)));obtain⟨g2,b2,b3,_,rfl,_⟩:=o9;clear g9 l9;refine c.out _ _ (TF.o.cell 1) (λd=>?_);clear c;try simp only[aC]
   refine aM (v:=?_) rfl (by rfl) d (λw' f=>?_) ?_
   rotate_left
   ·(go_simp;try with_reducible rfl)
   try simp only[aC]
   refine cH rfl (λC c=>?_);go_simp
   refine c.out _ _ ?_;clear c;try simp only[aC]
   refine cE ?_;clear d;go_wp2
   go_roundg (gk-1)
   case measure=>exact r.o.1
   exact⟨v',k+1,m+1,l+1,b3,g2,b2,out++[t.2],rest++[t.2],rfl,rfl,by go_num,aA ⟨r.o.2.1,by have:=HI.o.2;omega⟩,BN,LF⟩
abbrev w5V (b:Nat):Value:=.func (.func 98) #[] #[.pointer (some ⟨b,0,none⟩)]
def F9 {w:World}{bp:Nat}{log:LLi}{p:bI}(hp:eZ log p)(f:p.labels.length<=26)(a b:Int)(h:PrB w bp p) :
  Calls Tryz.prog 98 #[a,b,.pointer bp] w λe w'=>e=.returned (.bool (dE p a b))/\Below w w w':=by
 obtain⟨A1,A2,A3,A4,n1,c1,n2,c2,n3,c3,n4,c4,x,i⟩:=h;have g:=aA (Pm a i (λu v d=>by
  obtain⟨t,j,k,l,m⟩:=(hp.2.2.2.2 _).1 d;exact⟨(hp.1.2 u).2 ⟨t,j,aS l⟩,(hp.1.2 v).2 ⟨t,j,aS m⟩⟩) f)
 have z:=aA hp;obtain⟨F,G,H,I⟩:=x.four;clear x i hp f;go_enter Tryz.func98,Tryz.ntmps98
 go_wp2_with fail
 refine g.o.mono ?_;rintro e J ⟨A,n,c,out,rfl,o,q,r⟩;have B:=aA (dG b o);have s:=aA q;have C:=aA r;clear o q r g;go_wp2_with fail
 refine B.o.mono ?_;rintro e K ⟨rfl,rfl⟩;have D:=aA (show(out.any λy=>b==y)=dE p a b from by
  have l:(out.any λy=>b==y)=true↔dE p a b=true:=by
   rw[dO,yO z.o];refine⟨λ⟨y,E,e⟩=>(s.o b).1 (by rw[fA]at e;rw[e];exact E),λh=>⟨b,(s.o b).2 h,by simp⟩⟩
  cases m:(out.any λy=>b==y) <;> cases h3:dE p a b <;> simp_all)
 go_wp2
 go_ret
 exact⟨bB D.o,C.o⟩
def Zf {w:World}{c bp:Nat}{log:LLi}{p:bI}(ls:LIn)(hp:eZ log p)(i:p.labels.length<=26)(h:PrB w bp p)(x:Box w c 166 #[w5V bp]):VQ 100 #[] #[.pointer c] w ls (cY (dE p)) where
 enters:=λargs w=>by kernel_rfl
 calls:=λwr a b _ _ g=>by
  have j:=aA ((aH wr wr).drew);have m:=aA (F9 hp i a b ((h.keep g).keep j.o));have n:=aA (λ(k:World) (o:Below wr wr k)=>F9 hp i b a ((h.keep g).keep o));have X:=aA (x.keep g);clear h x g hp i;simp only[Array.empty_append];change Calls _ _ #[a,b,.pointer c] _ _
  have t:=X.o.cell 0;go_enter Tryz.func100,Tryz.ntmps100
  go_wp2_with fail
  go_region_held3 (λw'=>w'.cell? c=some (w5V bp))
   (first|go_keep)
   (first
    |(go_at_call 98;(with_reducible refine m.o.mono ?_);rintro e k ⟨rfl,d⟩;have B2:=aA (j.o.trans (d.mono j.o.size));have q:=(X.o.keep B2.o).cell 0;have r:=aA (n.o k B2.o);clear d)
    |(go_at_call 98;(with_reducible refine r.o.mono ?_);rintro e u ⟨rfl,f⟩;have l:=aA (B2.o.trans (f.mono B2.o.size));have s:=(X.o.keep l.o).cell 0;clear f))
  go_wp2
  go_ret
  exact⟨bB rfl,l.o⟩
def nQ (g y:LIn):Bool:=decide (y.headD 0=g.headD 0)
def WY {w:World}{L:LLi}{gr bx m d:Nat}{B:OAd}{g:LIn}(E:∀y∈L,y≠[])(F:g≠[])(x:Box w bx 24 #[.slice B m d])(G:aY w B m d g)(H:bx≠gr)(I:∀a,B=some a->a.block≠gr):qI 101 #[.pointer bx] w gr L (nQ g) where
 enters:=λargs w=>by kernel_rfl
 calls:=λwr A n c y J b u=>by
  have l:=E y J;obtain⟨N,V,rfl⟩:∃a t,y=a::t:=by
   cases y with
   | nil=>exact absurd rfl l
   | cons a t=>exact⟨a,t,rfl⟩
  obtain⟨O,W,rfl⟩:∃a t,g=a::t:=by
   cases g with
   | nil=>exact absurd rfl F
   | cons a t=>exact⟨a,t,rfl⟩
  have f:=aY.keepRow G b (.inr (by
   cases B with
   | none=>exact λe=>(by cases e)
   | some a=>intro e;injection e with e;exact I a rfl e.symm))
  have o:=u.len;have p:=f.len;simp only[bP]at o p;obtain⟨bl,K,h,rfl,v,q,P⟩:=aY.get u (k:=0) (by omega);obtain⟨bg,s,i,rfl,z,r,Q⟩:=aY.get f (k:=0) (by omega);have R:h=N:=by have:=q.o;simp at this;exact this.symm
  have S:i=O:=by have:=r.o;simp at this;exact this.symm
  subst R S;have X:=aA (x.grown b (λe=>H (by injection e with e;exact e.symm)));have M:=aA ((aH wr wr).drew);have T:0<n:=by omega
  have U:0<m:=by omega
  change Calls _ _ #[_,.pointer bx] _ _
  have Y:=X.o.cell 0;rw[eP]at P Q;clear E F x G f H I b J u l o p v q z r;by_cases j:h=i
  .have C:(h==i)=true:=by simp[j]
   have D:=aA j;clear j;go_enter Tryz.func101,Tryz.ntmps101
   go_wp2_with fail
   go_region_held3 (λw'=>w'.cell? bx=some (.slice (some ⟨bg,s,none⟩) m d)/\w'.cell? ⟨bl,K,none⟩=some (.int .i64 h)/\w'.cell? ⟨bg,s,none⟩=some (.int .i64 i))
    (first|go_keep)
    (fail)
   go_wp2
   go_ret
   exact⟨bB (by unfold nQ;simp[D.o]),M.o⟩
  have C:(h==i)=false:=by simp[j]
  have D:=aA j;clear j;go_enter Tryz.func101,Tryz.ntmps101
  go_wp2_with fail
  go_region_held3 (λw'=>w'.cell? bx=some (.slice (some ⟨bg,s,none⟩) m d)/\w'.cell? ⟨bl,K,none⟩=some (.int .i64 h)/\w'.cell? ⟨bg,s,none⟩=some (.int .i64 i))
   (first|go_keep)
   (fail)
  go_wp2
  go_ret
  exact⟨bB (by unfold nQ;simp[D.o]),M.o⟩
def WZ {w:World}{L:LLi}{gr bx m d:Nat}{B:OAd}{g:LIn}(E:∀y∈L,y≠[])(F:g≠[])(x:Box w bx 24 #[.slice B m d])(G:aY w B m d g)(H:bx≠gr)(I:∀a,B=some a->a.block≠gr):qI 102 #[.pointer bx] w gr L (nQ g) where
 enters:=λargs w=>by kernel_rfl
 calls:=λwr A n c y J b u=>by
  have l:=E y J;obtain⟨N,V,rfl⟩:∃a t,y=a::t:=by
   cases y with
   | nil=>exact absurd rfl l
   | cons a t=>exact⟨a,t,rfl⟩
  obtain⟨O,W,rfl⟩:∃a t,g=a::t:=by
   cases g with
   | nil=>exact absurd rfl F
   | cons a t=>exact⟨a,t,rfl⟩
  have f:=aY.keepRow G b (.inr (by
   cases B with
   | none=>exact λe=>(by cases e)
   | some a=>intro e;injection e with e;exact I a rfl e.symm))
  have o:=u.len;have p:=f.len;simp only[bP]at o p;obtain⟨bl,K,h,rfl,v,q,P⟩:=aY.get u (k:=0) (by omega);obtain⟨bg,s,i,rfl,z,r,Q⟩:=aY.get f (k:=0) (by omega);have R:h=N:=by have:=q.o;simp at this;exact this.symm
  have S:i=O:=by have:=r.o;simp at this;exact this.symm
  subst R S;have X:=aA (x.grown b (λe=>H (by injection e with e;exact e.symm)));have M:=aA ((aH wr wr).drew);have T:0<n:=by omega
  have U:0<m:=by omega
  change Calls _ _ #[_,.pointer bx] _ _
  have Y:=X.o.cell 0;rw[eP]at P Q;clear E F x G f H I b J u l o p v q z r;by_cases j:h=i
  .have C:(h==i)=true:=by simp[j]
   have D:=aA j;clear j;go_enter Tryz.func102,Tryz.ntmps102
   go_wp2_with fail
   go_region_held3 (λw'=>w'.cell? bx=some (.slice (some ⟨bg,s,none⟩) m d)/\w'.cell? ⟨bl,K,none⟩=some (.int .i64 h)/\w'.cell? ⟨bg,s,none⟩=some (.int .i64 i))
    (first|go_keep)
    (fail)
   go_wp2
   go_ret
   exact⟨bB (by unfold nQ;simp[D.o]),M.o⟩
  have C:(h==i)=false:=by simp[j]
  have D:=aA j;clear j;go_enter Tryz.func102,Tryz.ntmps102
  go_wp2_with fail
  go_region_held3 (λw'=>w'.cell? bx=some (.slice (some ⟨bg,s,none⟩) m d)/\w'.cell? ⟨bl,K,none⟩=some (.int .i64 h)/\w'.cell? ⟨bg,s,none⟩=some (.int .i64 i))
   (first|go_keep)
   (fail)
  go_wp2
  go_ret
  exact⟨bB (by unfold nQ;simp[D.o]),M.o⟩
def rV {w:World}{A:OAd}{n c gr:Nat}{ms:LLi}{F:FuncId}{cap:Array Value}{q:LIn->Bool}(h:cQ w A n c ms)(hp:qI F cap w gr ms q) :
  Calls Tryz.prog 65 #[.slice A n c,.func (.func F) #[] cap] w λe w'=>e=.returned (.bool (ms.any q))/\Below w w w':=by
 have H:=aA h;have b:=aA hp;clear h hp;go_enter Tryz.func65,Tryz.ntmps65
 go_wp2_with (refine(nI H.o b.o).mono ?_;rintro e w' ⟨rfl,a⟩;have d:=aA a;clear a)
 go_ret
 exact⟨bB (jV _ _),d.o⟩
end Go.Proofs.YtgnljpnlolkalaaGreat
namespace Go.Proofs.YtgnljpnlolkalaaGreat
section
variable {lds:Int->Int->Bool} {ls:LIn} {G inn inn0:LLi}
def Nn (h:tW (cY lds) ls G){g k:LIn}(a:g∈G)(b:k∈G)(e:g.headD 0=k.headD 0):g=k:=by
 refine h.same a b (rO (h.ne g a)) ?_;unfold hdG;rw[e];exact rO (h.ne k b)
def vG (h:tW (cY lds) ls G)(b:∀x∈inn,x∈G){g:LIn}(c:g∈G):inn.any (nQ g)=true↔g∈inn:=by
 rw[dO];constructor
 .rintro⟨y,a,e⟩;unfold nQ at e;rw[bO]at e;have:=Nn h (b y a) c e;rw[<-this];exact a
 intro d;exact⟨g,d,by unfold nQ;simp⟩
def iU (lds:Int->Int->Bool)(inn:LLi)(g k:LIn):Bool:=(!decide (k.headD 0=g.headD 0))&&(lds (k.headD 0) (g.headD 0)&&!(inn.any (nQ k)))
def Ir (lds:Int->Int->Bool)(G inn:LLi)(g:LIn):Bool:=(!(inn.any (nQ g)))&&G.all λk=>!iU lds inn g k
def Is (h:tW (cY lds) ls G)(d:∀x∈inn,x∈G){g:LIn}(j:g∈G):Ir lds G inn g=true↔g∉inn/\∀k∈G,k≠g->ltG lds k g->k∈inn:=by
 unfold Ir;rw[cA,m9,kY];refine Iff.intro (λ⟨f,l⟩=>⟨λn=>?_,λk c b i=>?_⟩) (λ⟨f,l⟩=>⟨?_,λk c=>?_⟩)
 .rw[(vG h d j).2 n]at f;cases f
 .have a:=l k c;unfold iU at a;rw[m9,Bool.and_eq_false_iff]at a;rcases a with a|a
  .rw[Bool.not_eq_false',bO]at a;exact absurd (Nn h c j a) b
  rw[Bool.and_eq_false_iff]at a;rcases a with a|a
  .unfold ltG hdG at i;rw[i]at a;cases a
  rw[Bool.not_eq_false']at a;exact(vG h d c).1 a
 .cases e:inn.any (nQ g)
  .rfl
  exact absurd ((vG h d j).1 e) f
 rw[m9];unfold iU;by_cases m:k.headD 0=g.headD 0
 .rw[mB m];rfl
 have b:k≠g:=λe=>m (by rw[e])
 cases i:lds (k.headD 0) (g.headD 0)
 .rw[Bool.false_and,Bool.and_false]
 rw[(vG h d c).2 (l k c b i)];simp only[Bool.not_true,Bool.and_false]
structure wO (lds:Int->Int->Bool)(G inn0 inn:LLi)(k:Nat):Prop where
 I:InI lds G inn
 old:∀x∈inn0,x∈inn
 got:∀g∈G.take k,g∉inn0->(∀y∈G,y≠g->ltG lds y g->y∈inn0)->g∈inn
def wO.start (h:InI lds G inn0):wO lds G inn0 inn0 0:=⟨h,λ_ h=>h,λg a=>by simp at a⟩
def vH {α:Type}{G:List α}{k:Nat}{g x:α}(b:G[k]?=some g)(a:x∈G.take (k+1)):x∈G.take k∨x=g:=by
 rw[cP,b]at a;simpa using a
def wO.skip {k:Nat}{g:LIn}(P:wO lds G inn0 inn k)(h:tW (cY lds) ls G)(c:G[k]?=some g)(e:Ir lds G inn g=false):wO lds G inn0 inn (k+1) :=
 ⟨P.I,P.old,λx a f d=>by
  rcases vH c a with a|rfl
  .exact P.got x a f d
  refine eO (λi=>?_);have:=(Is h P.I.sub (aS c)).2 ⟨i,λy j b l=>P.old y (d y j b l)⟩;rw[e]at this;cases this⟩
def wO.take {k:Nat}{g:LIn}(P:wO lds G inn0 inn k)(h:tW (cY lds) ls G)(b:G[k]?=some g)(c:Ir lds G inn g=true):wO lds G inn0 (inn++[g]) (k+1):=by
 obtain⟨d,e⟩:=(Is h P.I.sub (aS b)).1 c;refine⟨P.I.add h (aS b) d e,λx a=>cN.2 (.inl (P.old x a)),λx a f i=>?_⟩;rcases vH b a with a|rfl
 .exact cN.2 (.inl (P.got x a f i))
 simp
def InI.len (h:InI lds G inn):inn.length<=G.length:=kS inn G h.nd h.sub
def InI.all (h:InI lds G inn)(g:inn.length=G.length):∀x∈G,x∈inn:=λx c=>eO (λf=>by
 have:=kS inn (G.erase x) h.nd (λy d=>(List.mem_erase_of_ne (a:=y) (b:=x) (by intro e;subst e;exact f d)).2 (h.sub y d));rw[List.length_erase_of_mem c]at this;have:0<G.length:=oL c;omega)
def InI.done (a:tW (cY lds) ls G)(h:InI lds G inn)(b:inn.length=G.length):Wz lds G=inn :=
 QW a h.nd h.ord (λx=>⟨h.sub x,h.all b x⟩)
def wO.fin {k:Nat}(m:∀a b c,a∈ls->b∈ls->c∈ls->lds a b=true->lds b c=true->lds a c=true)(h:tW (cY lds) ls G)(n:InI lds G inn0)(P:wO lds G inn0 inn k)(o:G.length<=k)(s:inn0.length<G.length):inn0.length<inn.length:=by
 obtain⟨g,p,i,q⟩:∃g∈G,g∉inn0/\∀k∈G,k≠g->ltG lds k g->k∈inn0:=InI.next m h (eO (λd=>by
  have:=kS G inn0 h.nodup (λx r=>eO (λf=>d ⟨x,r,f⟩));omega))
 have j:=P.got g (by rw[aW o];exact p) i q;have:=kS inn0 (inn.erase g) n.nd (λy l=>(List.mem_erase_of_ne (a:=y) (b:=g) (by intro e;subst e;exact i l)).2 (P.old y l));rw[List.length_erase_of_mem j]at this;have:0<inn.length:=oL j;omega
