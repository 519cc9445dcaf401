/- Texts melted into one: The contract of xtext, the reference of bench.write. Conditions: the block reads as a tree and has no fault. | The contract of KGrow. Conditions: the block reads as a tree. Printed by wip/gen/growU.py. | The table of costs in memory, and the contract of better. Conditions: the -/
import Derived.Test.YtgnljpnlolkalaaGreatBenchTellsK19
set_option linter.all false
set_option maxRecDepth 100000
set_option maxHeartbeats 16000000
namespace Go.Proofs.YtgnljpnlolkalaaGreat
open Go.RowKit
def Et (s:UInt8)(l:List (List UInt8)):List UInt8:=s::(if l=[]then []else 40::Lib.join l [44])
def YI (s:UInt8)(x:List UInt8):Et s []++(40::x)=Et s [x]:=by simp[Et,Lib.join_cons,Lib.joinTail]
def Jw (x:List UInt8):∀l:List (List UInt8),Lib.joinTail [44] (l++[x])=Lib.joinTail [44] l++(44::x)
 | []=>by simp[Lib.joinTail]
 | a::l=>by simp[Lib.joinTail]
def YJ (s:UInt8)(x:List UInt8)(l:List (List UInt8))(h:l≠[]):Et s l++(44::x)=Et s (l++[x]):=by
 cases l with
 | nil=>exact absurd rfl h
 | cons a l =>
  unfold Et;rw[aD (by simp),aD (by simp),show(a::l)++[x]=a::(l++[x])from rfl,Lib.join_cons,Lib.join_cons,Jw];simp
def VB {f:Nat}{kd lb:Int}{ks:List bH}(h:3<=kd)(a:0<ks.length):Et (PU kd) (ks.map (lZ f))++[41]=lZ (f+1) (.mk kd lb ks):=by
 rw[SC h];unfold Et;rw[aD (by intro e;have:=aO List.length e;rw[dQ]at this;simp only[fQ]at this;omega)];rfl
def vM:∀(r:List (List UInt8)) (i:Nat),(Lib.joinTail [44] (r.take i)).length<=(Lib.joinTail [44] r).length
 | [],i=>by simp
 | a::r,0=>by simp[Lib.joinTail]
 | a::r,i+1=>by
  have:=vM r i;have e:∀(x:List UInt8) (q:List (List UInt8)),(Lib.joinTail [44] (x::q)).length=1+x.length+(Lib.joinTail [44] q).length:=λx q=>by simp[Lib.joinTail];omega
  rw[List.take_succ_cons,e,e];omega
def Tz (s:UInt8)(l:List (List UInt8))(i:Nat):(Et s (l.take i)).length<=(Et s l).length:=by
 cases l with
 | nil=>simp
 | cons a r =>
  cases i with
  | zero=>simp[Et]
  | succ i =>
   have:=vM r i;unfold Et;rw[List.take_succ_cons,aD (by simp),aD (by simp),Lib.join_cons,Lib.join_cons];simp only[bP,bL];omega
def Zu {wr:World}{ty:Nat}{b:Nat}{u0 u1 u2 u3:Value}(h:Box wr b ty #[u0,u1,u2,u3]):wr.cell? b=some u0/\wr.cell? ⟨b,1,none⟩=some u1/\wr.cell? ⟨b,2,none⟩=some u2/\wr.cell? ⟨b,3,none⟩=some u3:=⟨h.cell 0,h.cell 1,h.cell 2,h.cell 3⟩
def ZK (lb:Int)(a:1<=lb)(b:lb<=26):(⟨#[45,97,98,99,100,101,102,103,104,105,106,107,108,109,110,111,112,113,114,115,116,117,118,119,120,121,122]⟩:ByteArray).extract lb.toNat (lb+1).toNat=⟨#[UInt8.ofNat (96+lb.toNat)]⟩:=by
 have key:∀k:Fin 26,((⟨#[45,97,98,99,100,101,102,103,104,105,106,107,108,109,110,111,112,113,114,115,116,117,118,119,120,121,122]⟩:ByteArray).extract (k.val+1) (k.val+2)).data.toList=[UInt8.ofNat (96+(k.val+1))]:=by decide
 have:=key ⟨lb.toNat-1,by omega⟩;simp only at this;rw[show lb.toNat-1+1=lb.toNat by omega,show lb.toNat-1+2=(lb+1).toNat by omega]at this;apply ByteArray.ext
 apply Array.ext'
 exact this
def AH:∀(f d:Nat) (kd lb:Int) (A:OAd) (n c:Nat) (ks:List bH) (w:World) (had:Nat),pQ d w A n c ks->(bY f (.mk kd lb ks) had).2=0 ->
  Calls Tryz.prog 16 #[.agg #[kd,lb,.slice A n c]] w (λe w'=>e=.returned (.string ⟨(lZ f (.mk kd lb ks)).toArray⟩)/\Below w w w')
 | 0,d,kd,lb,A,n,c,ks,w,had,h,P=>by rw[bY]at P;cases P
 | f+1,d,kd,lb,A,n,c,ks,w,had,h,P=>by
  have Q:=aA (Gs (f+1) _ had P);have R:=aA (gG (f+1) _ had P);obtain⟨h1,E,h',h3,h4⟩:=iK P;rw[h3]at Q R;have IH:=aA (AH f);have H:=aA h;have HL:=aA h.len;have HF:=aA h4;simp only[bH.kind,bH.label,bH.kids]at E HF;have hn:ks.length=n:=h.len;have b6:=h.small;have hd:1<=kd/\kd<=6/\(kd=2->1<=lb/\lb<=26)/\(3<=kd->0<n):=by
   unfold cU at E;rw[hn]at E;split at E
   .cases E
   split at E
   .cases E
   split at E
   .cases E
   omega
  obtain⟨k1,k6,k2,kn⟩:=hd;have X0:=aA (Box.new w #[kd,lb,.slice A n c] 35);have Y:=aA (aF w (.cells #[kd,lb,.slice A n c] 35));have H0:=aA (h.keep Y.o);clear h P E h3 h4 hn;generalize a0:w.alloc (.cells #[kd,lb,.slice A n c] 35)=w0 at *
  obtain⟨c0,c1,c2⟩:=X0.o.three;by_cases O:kd=1
  .subst O;go_enter Tryz.func16,Tryz.ntmps16
   go_wp2
   go_ret
   exact⟨by rw[Wc];rfl,Y.o⟩
  by_cases e2:kd=2
  .subst e2;have S:=k2 rfl;have a6:=S.1;have a9:=S.2;clear S k2;go_enter Tryz.func16,Tryz.ntmps16
   go_wp2
   rw[ZK lb a6 a9];go_ret
   exact⟨by rw[We];rfl,Y.o⟩
  have k3:3<=kd:=by omega
  have b0:=kn k3;have HE:=aA (VB (f:=f) (lb:=lb) k3 (by rw[HL.o];exact b0));have b1:(w0.alloc (.cells #[.string ⟨#[62]⟩,.string ⟨#[63]⟩,.string ⟨#[38]⟩,.string ⟨#[42]⟩] 9)).cell? w=some (.int .i64 kd):=(X0.o.old _).cell 0;have b2:(w0.alloc (.cells #[.string ⟨#[62]⟩,.string ⟨#[63]⟩,.string ⟨#[38]⟩,.string ⟨#[42]⟩] 9)).cell? ⟨w,2,none⟩=some (.slice A n c):=(X0.o.old _).cell 2;obtain⟨z0,z1,z2,z3⟩:=Zu (Box.new w0 #[.string ⟨#[62]⟩,.string ⟨#[63]⟩,.string ⟨#[38]⟩,.string ⟨#[42]⟩] 9);have B1:=aA (show Below w w (w0.alloc (.cells #[.string ⟨#[62]⟩,.string ⟨#[63]⟩,.string ⟨#[38]⟩,.string ⟨#[42]⟩] 9))from Y.o.alloc Y.o.size _);obtain⟨k,rfl⟩:∃k:Nat,kd=3+(k:Int):=⟨(kd-3).toNat,by omega⟩;have b7:(k:Int)<4:=by omega
  have b9:¬3+(k:Int)<3:=by omega
  clear k2 kn O e2 X0;obtain⟨F,G⟩:=aK (PU (3+(k:Int)));rw[G]at HE;have zk:(w0.alloc (.cells #[.string ⟨#[62]⟩,.string ⟨#[63]⟩,.string ⟨#[38]⟩,.string ⟨#[42]⟩] 9)).cell? ⟨w0.heap.size,k,none⟩=some (.string ⟨#[F]⟩):=by
   have:k=0∨k=1∨k=2∨k=3:=by omega
   rcases this with rfl|rfl|rfl|rfl
   all_goals (rw[<-G];first|exact z0|exact z1|exact z2|exact z3)
  clear z0 z1 z2 z3 c0 c1 c2;have c5:=aA G;have T:=aA (show ∀i,(Et F ((ks.map (lZ f)).take i)).length<=1000 from λi=>by
   have a1:=Tz F (ks.map (lZ f)) i;have a2:=aO List.length HE.o;rw[bL]at a2;have a3:=Q.o;have a4:=R.o;simp only at a3 a4;omega)
  clear Q R;clear G;go_enter Tryz.func16,Tryz.ntmps16
  have c0:w0.cell? w=some (.int .i64 (3+(k:Int))):=by rw[<-a0];exact(Box.new w #[.int .i64 (3+(k:Int)),lb,.slice A n c] 35).cell 0
  go_upto_region 5 with fail
  generalize w0.alloc (.cells #[.string ⟨#[62]⟩,.string ⟨#[63]⟩,.string ⟨#[38]⟩,.string ⟨#[42]⟩] 9)=w1 at *
  clear a0 b1 b2 zk c0 Y;go_loopw [3,32] (λsv v wr=>∃i:Nat,i<=n/\v=.int .i64 i/\sv=.string ⟨(Et F ((ks.map (lZ f)).take i)).toArray⟩/\Hid (Below w w wr)) (λ_ v _=>n-(intOf v).toNat)
  case atStart=>exact⟨0,aL _,rfl,rfl,B1⟩
  obtain⟨i,hi,rfl,rfl,X2⟩:=hrel;by_cases b3:i<n
  rotate_left
  .obtain rfl:i=n:=by omega
   have E9:=aA (show(ks.map (lZ f)).take i=ks.map (lZ f)from aW (by rw[dQ,HL.o];exact aB _));have U:=T.o i;rw[E9.o]at U ⊢;have c6:¬9223372036854775807<(Et F (ks.map (lZ f))).length+1:=by omega
   go_wp2
   go_ret
   exact⟨by rw[app2,HE.o];rfl,X2.o⟩
  skip
  have c7:(i:Int)<(n:Int):=by omega
  obtain⟨bl,c8,b,g,u,I,J,L,d',rfl,rfl,c9,hx,q0,q1,q2,K'⟩:=(H.o.keep X2.o).get b3;obtain⟨V,e0⟩:=Fv HF.o i;obtain⟨d0,O,_⟩:=iL HF.o hx.o e0;have HX:=aA (show(ks.map (lZ f)).take (i+1)=(ks.map (lZ f)).take i++[lZ f (.mk b g u)] by rw[cP,dF,hx.o];simp);go_upto_region 7 with fail
  generalize W:wr.alloc (.cells #[b,g,.slice I J L] 35)=s at *
  have a5:=aA (show Below wr wr s by rw[<-W];exact aF _ _);have t:=aA (show Box s wr 35 #[b,g,.slice I J L] by rw[<-W];exact Box.new _ _ _);have z:=aA (X2.o.trans (a5.o.mono X2.o.size));have B:=aA (show Below s s s.drew from(aH _ _).drew);have Z:=aA (show ∀w',Below s s w'->_ from λw' q=>IH.o d' b g I J L u w' V ((K'.o.keep a5.o).keep q) (by rw[O]));have d1:(lZ f (.mk b g u)).length<=1000:=by
   have a1:=Gs f (.mk b g u) V (by rw[O]);have a2:=gG f (.mk b g u) V (by rw[O]);rw[O]at a1 a2;simp only at a1 a2;omega
  clear e0 O hx W q0 q1 q2 K';by_cases b4:i=0
  .subst b4;have b5:min (0:Int) 1=0:=rfl;have U:(Et F []).length<=1000:=T.o 0;have X:=aA (show(⟨(Et F []).toArray⟩:ByteArray)++(⟨#[40]⟩++⟨(lZ f (.mk b g u)).toArray⟩)=⟨(Et F ((ks.map (lZ f)).take (0+1))).toArray⟩ by rw[HX.o,app2,app2];exact aO (λl:List UInt8=>(⟨l.toArray⟩:ByteArray)) (YI _ _));go_upto_region 7 with fail
   refine aN 9 (.takes [0,2,3,6] (.two 1 (.take 4 (.two 5 (.one 7 (.one 8 (.fins [9,10] .done))) 7 (.one 5 (.one 8 (.fins [9,10] .done))))) 7 (.one 1 (.take 4 (.one 5 (.one 8 (.fins [9,10] .done))))))) (λw'=>w'.cell? wr=some (.int .i64 b)/\w'.cell? ⟨wr,1,none⟩=some (.int .i64 g)/\w'.cell? ⟨wr,2,none⟩=some (.slice I J L)) (by kernel_rfl) (by kernel_rfl) (by kernel_rfl) (λ_ _ _ _ _ h=>h) t.o.three (λa=>?_);simp only[Scr.takes,Scr.fins];obtain⟨v0,v1,v2⟩:=a;have a:s.drew.cell? wr=some (.int .i64 b)/\s.drew.cell? ⟨wr,1,none⟩=some (.int .i64 g)/\s.drew.cell? ⟨wr,2,none⟩=some (.slice I J L):=⟨v0,v1,v2⟩;have t:=aA (show Box s.drew wr 35 #[b,g,.slice I J L]from t.o.keep B.o);clear v0 v1 v2;generalize s.drew=y at *
   iterate 4
    refine aM (v:=?_) rfl (by rfl) a (λw' x=>?_) ?_
    rotate_left
    ·(obtain⟨s0,s1,s2⟩:=x;go_simp;try with_reducible rfl)
    try simp only[aC]
   refine mN rfl rfl (λK hK=>?_) (λK hK=>?_)
   rotate_left
   .skip
    go_simp;go_at_call 16
    (with_reducible refine(Z.o y B.o).mono ?_)
    rintro e o ⟨rfl,q⟩;have p:=aA q;refine hK.out _ _ ((t.o.keep p.o).three) (λa=>?_);clear hK q;try simp only[aC]
    have r:=aA (B.o.trans (p.o.mono B.o.size));have t:=aA (t.o.keep p.o);refine bK rfl (λK hK=>?_);go_simp
    generalize j:o.alloc (.cells #[.string ⟨#[40]⟩,.string ⟨#[44]⟩] 9)=M;have N:=aA (show Box M o 9 #[.string ⟨#[40]⟩,.string ⟨#[44]⟩] by rw[<-j];exact Box.new _ _ _);have C:=aA (show Below o o M by rw[<-j];exact aF _ _);have D:=aA (t.o.keep C.o);obtain⟨g0,g1⟩:=N.o.two;refine hK.out _ _ (D.o.three) (λa=>?_);clear hK j;try simp only[aC]
    refine aM (v:=.pointer o) rfl (by rfl) a (λw' x=>?_) ?_
    ·(go_simp;try with_reducible rfl)
    try simp only[aC]
    refine bK rfl (λK hK=>?_);go_simp
    refine hK.out _ _ a (λa=>?_);clear hK;try simp only[aC]
    refine bK rfl (λK hK=>?_);go_simp
    rw[aD (by omega)];go_simp
    refine hK.out _ _ a (λa=>?_);clear hK;try simp only[aC]
    refine cH rfl (λK hK=>?_);go_simp
    rw[aD (by omega)];rw[X.o];go_simp
    refine hK.out _ _ ?_;clear hK;try simp only[aC]
    refine cH rfl (λK hK=>?_);go_simp
    refine hK.out _ _ ?_;clear hK;try simp only[aC]
    refine cE ?_;go_wp2
    go_roundw
    case rel=>exact⟨0+1,by omega,by go_num,rfl,(by exact z.o.trans ((r.o.trans (C.o.mono r.o.size)).mono z.o.size))⟩
    simp[intOf];omega
   skip
   go_simp
   generalize j:y.alloc (.cells #[.string ⟨#[40]⟩,.string ⟨#[44]⟩] 9)=o;have N:=aA (show Box o y 9 #[.string ⟨#[40]⟩,.string ⟨#[44]⟩] by rw[<-j];exact Box.new _ _ _);have C:=aA (show Below y y o by rw[<-j];exact aF _ _);have m:=aA (t.o.keep C.o);obtain⟨g0,g1⟩:=N.o.two;refine hK.out _ _ (m.o.three) (λa=>?_);clear hK j;try simp only[aC]
   have r:=aA (B.o.trans (C.o.mono B.o.size));refine aM (v:=.pointer y) rfl (by rfl) a (λw' x=>?_) ?_
   ·(go_simp;try with_reducible rfl)
   try simp only[aC]
   refine mN rfl rfl (λK hK=>?_) (λK hK=>?_)
   .skip
    go_simp
    refine hK.out _ _ a (λa=>?_);clear hK;try simp only[aC]
    refine bK rfl (λK hK=>?_);go_simp;go_at_call 16
    (with_reducible refine(Z.o o r.o).mono ?_)
    rintro e M ⟨rfl,q⟩;have p:=aA q;refine hK.out _ _ ((m.o.keep p.o).three) (λa=>?_);clear hK q;try simp only[aC]
    refine bK rfl (λK hK=>?_);go_simp
    rw[aD (by omega)];go_simp
    refine hK.out _ _ a (λa=>?_);clear hK;try simp only[aC]
    refine cH rfl (λK hK=>?_);go_simp
    rw[aD (by omega)];rw[X.o];go_simp
    refine hK.out _ _ ?_;clear hK;try simp only[aC]
    refine cH rfl (λK hK=>?_);go_simp
    refine hK.out _ _ ?_;clear hK;try simp only[aC]
    refine cE ?_;go_wp2
    go_roundw
    case rel=>exact⟨0+1,by omega,by go_num,rfl,(by exact z.o.trans ((r.o.trans (p.o.mono r.o.size)).mono z.o.size))⟩
    simp[intOf];omega
   skip
   go_simp;go_at_call 16
   (with_reducible refine(Z.o o r.o).mono ?_)
   rintro e M ⟨rfl,q⟩;have p:=aA q;refine hK.out _ _ ((m.o.keep p.o).three) (λa=>?_);clear hK q;try simp only[aC]
   obtain⟨g0,g1⟩:=(N.o.keep p.o).two;refine bK rfl (λK hK=>?_);go_simp
   refine hK.out _ _ a (λa=>?_);clear hK;try simp only[aC]
   refine bK rfl (λK hK=>?_);go_simp
   rw[aD (by omega)];go_simp
   refine hK.out _ _ a (λa=>?_);clear hK;try simp only[aC]
   refine cH rfl (λK hK=>?_);go_simp
   rw[aD (by omega)];rw[X.o];go_simp
   refine hK.out _ _ ?_;clear hK;try simp only[aC]
   refine cH rfl (λK hK=>?_);go_simp
   refine hK.out _ _ ?_;clear hK;try simp only[aC]
   refine cE ?_;go_wp2
   go_roundw
   case rel=>exact⟨0+1,by omega,by go_num,rfl,(by exact z.o.trans ((r.o.trans (p.o.mono r.o.size)).mono z.o.size))⟩
   simp[intOf];omega
  skip
  have X:=aA (show(⟨(Et F ((ks.map (lZ f)).take i)).toArray⟩:ByteArray)++(⟨#[44]⟩++⟨(lZ f (.mk b g u)).toArray⟩)=⟨(Et F ((ks.map (lZ f)).take (i+1))).toArray⟩ by rw[HX.o,app2,app2];exact aO (λl:List UInt8=>(⟨l.toArray⟩:ByteArray)) (YJ _ _ _ (by intro e;have:=aO List.length e;rw[dT,dQ]at this;rw[HL.o]at this;simp only[fQ]at this;omega)));have b5:min (i:Int) 1=1:=by omega
  have U:=T.o i;go_upto_region 7 with fail
  refine aN 9 (.takes [0,2,3,6] (.two 1 (.take 4 (.two 5 (.one 7 (.one 8 (.fins [9,10] .done))) 7 (.one 5 (.one 8 (.fins [9,10] .done))))) 7 (.one 1 (.take 4 (.one 5 (.one 8 (.fins [9,10] .done))))))) (λw'=>w'.cell? wr=some (.int .i64 b)/\w'.cell? ⟨wr,1,none⟩=some (.int .i64 g)/\w'.cell? ⟨wr,2,none⟩=some (.slice I J L)) (by kernel_rfl) (by kernel_rfl) (by kernel_rfl) (λ_ _ _ _ _ h=>h) t.o.three (λa=>?_);simp only[Scr.takes,Scr.fins];obtain⟨v0,v1,v2⟩:=a;have a:s.drew.cell? wr=some (.int .i64 b)/\s.drew.cell? ⟨wr,1,none⟩=some (.int .i64 g)/\s.drew.cell? ⟨wr,2,none⟩=some (.slice I J L):=⟨v0,v1,v2⟩;have t:=aA (show Box s.drew wr 35 #[b,g,.slice I J L]from t.o.keep B.o);clear v0 v1 v2;generalize s.drew=y at *
  iterate 4
   refine aM (v:=?_) rfl (by rfl) a (λw' x=>?_) ?_
   rotate_left
   ·(obtain⟨s0,s1,s2⟩:=x;go_simp;try with_reducible rfl)
   try simp only[aC]
  refine mN rfl rfl (λK hK=>?_) (λK hK=>?_)
  rotate_left
  .skip
   go_simp;go_at_call 16
   (with_reducible refine(Z.o y B.o).mono ?_)
   rintro e o ⟨rfl,q⟩;have p:=aA q;refine hK.out _ _ ((t.o.keep p.o).three) (λa=>?_);clear hK q;try simp only[aC]
   have r:=aA (B.o.trans (p.o.mono B.o.size));have t:=aA (t.o.keep p.o);refine bK rfl (λK hK=>?_);go_simp
   generalize j:o.alloc (.cells #[.string ⟨#[40]⟩,.string ⟨#[44]⟩] 9)=M;have N:=aA (show Box M o 9 #[.string ⟨#[40]⟩,.string ⟨#[44]⟩] by rw[<-j];exact Box.new _ _ _);have C:=aA (show Below o o M by rw[<-j];exact aF _ _);have D:=aA (t.o.keep C.o);obtain⟨g0,g1⟩:=N.o.two;refine hK.out _ _ (D.o.three) (λa=>?_);clear hK j;try simp only[aC]
   refine aM (v:=.pointer (some ⟨o,1,none⟩)) rfl (by rfl) a (λw' x=>?_) ?_
   ·(go_simp;try with_reducible rfl)
   try simp only[aC]
   refine bK rfl (λK hK=>?_);go_simp
   refine hK.out _ _ a (λa=>?_);clear hK;try simp only[aC]
   refine bK rfl (λK hK=>?_);go_simp
   rw[aD (by omega)];go_simp
   refine hK.out _ _ a (λa=>?_);clear hK;try simp only[aC]
   refine cH rfl (λK hK=>?_);go_simp
   rw[aD (by omega)];rw[X.o];go_simp
   refine hK.out _ _ ?_;clear hK;try simp only[aC]
   refine cH rfl (λK hK=>?_);go_simp
   refine hK.out _ _ ?_;clear hK;try simp only[aC]
   refine cE ?_;go_wp2
   go_roundw
   case rel=>exact⟨i+1,by omega,by go_num,rfl,(by exact z.o.trans ((r.o.trans (C.o.mono r.o.size)).mono z.o.size))⟩
   simp[intOf];omega
  skip
  go_simp
  generalize j:y.alloc (.cells #[.string ⟨#[40]⟩,.string ⟨#[44]⟩] 9)=o;have N:=aA (show Box o y 9 #[.string ⟨#[40]⟩,.string ⟨#[44]⟩] by rw[<-j];exact Box.new _ _ _);have C:=aA (show Below y y o by rw[<-j];exact aF _ _);have m:=aA (t.o.keep C.o);obtain⟨g0,g1⟩:=N.o.two;refine hK.out _ _ (m.o.three) (λa=>?_);clear hK j;try simp only[aC]
  have r:=aA (B.o.trans (C.o.mono B.o.size));refine aM (v:=.pointer (some ⟨y,1,none⟩)) rfl (by rfl) a (λw' x=>?_) ?_
  ·(go_simp;try with_reducible rfl)
  try simp only[aC]
  refine mN rfl rfl (λK hK=>?_) (λK hK=>?_)
  .skip
   go_simp
   refine hK.out _ _ a (λa=>?_);clear hK;try simp only[aC]
   refine bK rfl (λK hK=>?_);go_simp;go_at_call 16
   (with_reducible refine(Z.o o r.o).mono ?_)
   rintro e M ⟨rfl,q⟩;have p:=aA q;refine hK.out _ _ ((m.o.keep p.o).three) (λa=>?_);clear hK q;try simp only[aC]
   refine bK rfl (λK hK=>?_);go_simp
   rw[aD (by omega)];go_simp
   refine hK.out _ _ a (λa=>?_);clear hK;try simp only[aC]
   refine cH rfl (λK hK=>?_);go_simp
   rw[aD (by omega)];rw[X.o];go_simp
   refine hK.out _ _ ?_;clear hK;try simp only[aC]
   refine cH rfl (λK hK=>?_);go_simp
   refine hK.out _ _ ?_;clear hK;try simp only[aC]
   refine cE ?_;go_wp2
   go_roundw
   case rel=>exact⟨i+1,by omega,by go_num,rfl,(by exact z.o.trans ((r.o.trans (p.o.mono r.o.size)).mono z.o.size))⟩
   simp[intOf];omega
  skip
  go_simp;go_at_call 16
  (with_reducible refine(Z.o o r.o).mono ?_)
  rintro e M ⟨rfl,q⟩;have p:=aA q;refine hK.out _ _ ((m.o.keep p.o).three) (λa=>?_);clear hK q;try simp only[aC]
  obtain⟨g0,g1⟩:=(N.o.keep p.o).two;refine bK rfl (λK hK=>?_);go_simp
  refine hK.out _ _ a (λa=>?_);clear hK;try simp only[aC]
  refine bK rfl (λK hK=>?_);go_simp
  rw[aD (by omega)];go_simp
  refine hK.out _ _ a (λa=>?_);clear hK;try simp only[aC]
  refine cH rfl (λK hK=>?_);go_simp
  rw[aD (by omega)];rw[X.o];go_simp
  refine hK.out _ _ ?_;clear hK;try simp only[aC]
  refine cH rfl (λK hK=>?_);go_simp
  refine hK.out _ _ ?_;clear hK;try simp only[aC]
  refine cE ?_;go_wp2
  go_roundw
  case rel=>exact⟨i+1,by omega,by go_num,rfl,(by exact z.o.trans ((r.o.trans (p.o.mono r.o.size)).mono z.o.size))⟩
  simp[intOf];omega
def Ci {w w':World}(h:w.grownBy w' none):Below w w w':=⟨h.os,h.tape,h.output,h.size,λk a=>h.block k a (by simp)⟩
def YK {w:World}{b ty:Nat}{cs:Array Value}{B g cap n:Nat}{xs:LIn}(e:Box w b ty cs)(h:aI w B (.slice g n cap) n xs)(c:ty≠3):b≠g:=by
 obtain⟨d,f,_⟩:=h;obtain⟨_,i,a⟩:=Fz f (g:=g) rfl;rintro rfl;unfold Box at e;rw[e]at a;injection a with a;injection a with _ a;exact c a
def TI (j:Nat):∀(l o:LIn),(∀x∈l,x.toNat≠j)->(l.foldl (λo p=>o.set p.toNat 1) o)[j]?=o[j]?
 | [],_,_=>rfl
 | x::l,o,h=>by
  rw[f9,TI j l _ (λy a=>h y (List.mem_cons_of_mem _ a)),eG (h x (List.mem_cons_self ..))]
def AQ {n k:Nat}{l:LIn}{p:Nat}(a:JA n l)(h:l[k]?=some (p:Int)):(lY n l k)[p]?=some 0:=by
 unfold lY;have d:=(aR.1 h).1;rw[TI p]
 .have:=(a.1 _ (aS h)).2;rw[uI,aG (by omega)]
 intro x f e;obtain⟨j,g,rfl⟩:=List.mem_iff_getElem.1 f;have b:j<k:=by rw[dT]at g;omega
 have c:j<l.length:=by omega
 rw[List.getElem_take]at e;have o:=(a.1 l[j] (j5 _)).1;have i:l[j]=(p:Int):=by omega
 have m:l[k]=(p:Int):=(aR.1 h).2;exact(rA.1 a.2.1) j k c d b (i.trans m.symm)
def P9 {d:Nat}{w:World}{kd lb:Int}{A:OAd}{n c:Nat}{ks:List bH}(h:pQ d w A n c ks)(hw:eK (.mk kd lb ks)=0)(hf:dB (jJ (.mk kd lb ks))) :
  Calls Tryz.prog 17 #[.agg #[kd,lb,.slice A n c]] w (Vm (hJ (.mk kd lb ks)) w):=by
 have GP:=aA (yP hw hf);rw[GP.o];have LD:=aA (Js.new w #[kd,lb,.slice A n c]);have CW:=aA (nP (h.keep LD.o.below) (kd:=kd) (lb:=lb));have HW:=aA hw;have H:=aA h;have HI:=Ie (.mk kd lb ks);have CG:=aA (λ(w1:World) (hB:Below w w w1)=>xY (kd:=kd) (lb:=lb) H.o hB hw);obtain⟨r,hr⟩:=aK (jJ (.mk kd lb ks));rw[hr]at hf CG HI ⊢;obtain⟨P,hP⟩:=aK (r.places);obtain⟨L,hL⟩:=aK (r.links);obtain⟨K,hK⟩:=aK (L.length);have e7:P<=16:=by have:=hf.1;omega
 have e8:K<=24:=by have:=hf.2;rw[hL]at this;omega
 have NK:=aA (show UI r=⟨P,L.map (sV P)⟩ by unfold UI;rw[hP,hL]);have IK:=aA (show ∀t∈L,JA P t.pre/\JA P t.post by have:=HI;unfold InK at this;rw[hP,hL]at this;exact this);have HP:=aA hP;have HL:=aA hL;have HK:=aA hK;rw[hw]at CW;rw[NK.o];clear h GP hw hf hr hP hK hL HI;go_enter Tryz.func17,Tryz.ntmps17
 go_upto_region 1 with fail
 generalize (w.alloc (.cells #[kd,lb,.slice A n c] 35)).alloc (.cells #[(0:Int),()] 41)=u at *
 have a0:=LD.o.arg.three;go_upto_region 4 with(go_at_call 45;(with_reducible refine CW.o.mono ?_);rintro e w1 ⟨rfl,o⟩;have L1:=aA (LD.o.keep o);clear o)
 clear a0;have a1:=L1.o.arg.three;have CK:=aA (CG.o w1 L1.o.below);go_upto_region 5 with(go_at_call 46;(with_reducible refine CK.o.mono ?_);rintro e w2 ⟨C2,c2,rfl,lm,bl⟩;have L2:=aA (L1.o.keep bl);have b0:=aA (show LkM w w2 C2 K c2 L by rw[HL.o,HK.o]at lm;exact lm);rw[HP.o,HL.o,HK.o];clear lm bl)
 have V:=aF w2 (.cells #[.int .i64 P,.slice C2 K c2] 104);have X:=aA (Box.new w2 #[.int .i64 P,.slice C2 K c2] 104);have L3:=aA (L2.o.keep V);have b2:=aA (b0.o.keep V);generalize w2.alloc (.cells #[.int .i64 P,.slice C2 K c2] 104)=w3 at *
 generalize w2.heap.size=bx at *
 obtain⟨x0,x1⟩:=X.o.two;clear a1 V L2 b0;have e9:¬(16:Int)<(P:Int):=by omega
 have f2:¬(24:Int)<(K:Int):=by omega
 go_upto_region 8 with fail
 have V:=aF w3 (.cells #[.int .i64 P,()] 41);have Z2:=aA (Box.new w3 #[.int .i64 P,()] 41);have X4:=aA (X.o.keep V);have L4:=aA (L3.o.keep V);have LM:=aA (b2.o.keep V);have c7:w.heap.size+1<w3.heap.size:=L3.o.net.lt;have c8:bx<w3.heap.size:=X.o.lt;obtain⟨bn,a3⟩:=aK (w3.heap.size);rw[a3]at Z2 c7 c8;generalize w3.alloc (.cells #[.int .i64 P,()] 41)=w4 at *
 clear x0 x1 X L3 b2 V;try rw[a3]
 clear a3;obtain⟨x0,x1⟩:=X4.o.two;go_wp2
 clear x0 x1;go_loopg [39] K (λgk i wr=>∃(k:Nat) (A':OAd) (c':Nat),k+gk=K/\i=k/\Hid (Box wr bn 41 #[.int .i64 P,.slice A' k c'])/\Hid (aJ (bT w4) 3 wr w4 74 (.slice A' k c') k ((L.take k).map (sV P)))/\Hid (w4.grownBy wr (some bn)))
 case atStart=>exact⟨0,none,0,by omega,rfl,Z2,aA aJ.nil,aA (gOf (aH _ _))⟩
 case round =>
  obtain⟨k,A',c',hk,rfl,BX,own,SV⟩:=hrel;by_cases c9:k<K
  rotate_left
  .obtain rfl:k=K:=by omega
   have E3:=aA (Xz SV.o L4.o.net (by omega));have WB:=aA (L4.o.below.trans (Ta SV.o (by omega) L4.o.below.size));have a4:=aA (show(L.take k).map (sV P)=L.map (sV P) by rw[aW (by rw[HK.o];omega)]);have OW:=aA own.o;have SW:=aA L4.o.net.lt;obtain⟨y0,y1⟩:=BX.o.two;obtain⟨u0,u1⟩:=E3.o.two;have f0:=E3.o.frozen 0;have f1:=E3.o.frozen 1;clear own SV;go_wp2
   obtain⟨t2,tb⟩:=Vy WB.o E3.o P (.slice A' k c');have e0:=t2.cell 0;have e1:=t2.cell 1;refine aU (v:=.tuple #[.agg #[.int .i64 P,.slice A' k c'],(0:Int)]) (by simp[results,Tryz.results17,go_sem,e0,e1]) rfl ⟨A',k,c',rfl, ?_,tb⟩;have s1:=(gK (j:=1) (u:=.slice A' k c') (gK (j:=0) (u:=.int .i64 P) OW.o SW.o).o SW.o).o;rw[a4.o]at s1;have b3:w.heap.size<=w4.heap.size:=L4.o.below.size;obtain⟨a5,q1,q2,q3⟩:=s1.base b3;exact⟨a5,q1,⟨q2.1,λi x W=>by obtain⟨vs,a,b⟩:=q2.2 i x W;exact⟨vs,a,b.base b3⟩⟩,q3⟩
  have LW:=(LM.o.turn Z2.o (by decide) (by decide) (by omega) SV.o).sl;obtain⟨bl,f3,t,A1,n1,Y,A2,n2,Z,rfl,f4,ht,q0,q1,q2,i1,i2⟩:=Yv.get LW c9;have f5:(k:Int)<(K:Int):=by omega
  have V:=aF wr (.cells #[.int .i64 t.label,.slice A1 n1 Y,.slice A2 n2 Z] 107);have bd:=V.drew;have PK:=aA (IK.o t (aS ht.o));have a4:=aA (Ig (P:=P) ht.o);have b4:=aA i1.len;have b5:=aA i2.len;have m1:n1<=16:=by have:=PK.o.1.2.2;have:=b4.o;omega
  have m2:n2<=16:=by have:=PK.o.2.2.2;have:=b5.o;omega
  have I1:=aA (i1.keep bd);have I2:=aA (i2.keep bd);have X:=aA (Box.new wr #[.int .i64 t.label,.slice A1 n1 Y,.slice A2 n2 Z] 107);have G:=aA ((Xz SV.o X4.o (by omega)).keep V);have O:=aA (X.o.keep (aH _ _).drew);have R:=aA (G.o.keep (aH _ _).drew);have RD:=aA bd;obtain⟨bk,b6⟩:=aK (wr.heap.size);rw[b6]at X O;clear LW i1 i2 V bd;go_upto_region 11 with fail
  clear b6 q0 q1 q2;have x0:(wr.alloc (.cells #[.int .i64 t.label,.slice A1 n1 Y,.slice A2 n2 Z] 107)).cell? ⟨bk,0,none⟩=some (.int .i64 t.label):=X.o.cell 0;have z0:(wr.alloc (.cells #[.int .i64 t.label,.slice A1 n1 Y,.slice A2 n2 Z] 107)).cell? bx=some (.int .i64 P):=G.o.cell 0;refine aN 10 (.takes [0,1,2,3,5,6] (.three 4 (.two 7 (.take 8 (.one 9 (.fin 10 .done))) 9 (.one 7 (.take 8 (.fin 10 .done)))) 7 (.two 4 (.take 8 (.one 9 (.fin 10 .done))) 9 (.one 4 (.take 8 (.fin 10 .done)))) 9 (.two 4 (.one 7 (.take 8 (.fin 10 .done))) 7 (.one 4 (.take 8 (.fin 10 .done)))))) (λw'=>w'.cell? ⟨bk,0,none⟩=some (.int .i64 t.label)/\w'.cell? bx=some (.int .i64 P)) (by kernel_rfl) (by kernel_rfl) (by kernel_rfl) (λ_ _ _ _ _ h=>h) ⟨x0,z0⟩ (λQ=>?_);simp only[Scr.takes];clear x0 z0 X G;generalize (wr.alloc (.cells #[.int .i64 t.label,.slice A1 n1 Y,.slice A2 n2 Z] 107)).drew=u0 at *
  have f:=aA (aH u0 u0)
  iterate 6
   refine aM (v:=?_) rfl (by rfl) Q (λw' T=>?_) ?_
   rotate_left
   ·(go_simp;try with_reducible rfl)
   try simp only[aC]
  refine Zn (.fin 10 .done) (λa0 a' w'=>∃s y M:Nat,a'=((((a0.put (some 47) (.slice (some ⟨s,0,none⟩) P P)).put (some 50) (.slice (some ⟨y,0,none⟩) P P)).put (some 51) (.agg #[.int .i64 t.label,.slice (some ⟨s,0,none⟩) P P,.slice (some ⟨y,0,none⟩) P P])).put (some 9) (.pointer (some ⟨M,0,none⟩)))/\Hid (aI w' u0 (.slice (some ⟨s,0,none⟩) P P) P (List.replicate P 0))/\Hid (aI w' u0 (.slice (some ⟨y,0,none⟩) P P) P (List.replicate P 0))/\Hid (s≠y)/\Hid (Box w' M 74 #[(0:Int),(),()])/\Hid (u0.heap.size<=M)/\Hid (Below u0 u0 w')) ?_ (λEN=>?_)
  .rintro a' w6 ⟨s,y,M,rfl,I,J,NE,q,S,f⟩ _;simp only[aC];clear Q;obtain⟨e0,e1,e2⟩:=q.o.three;have s0:=q.o.frozen 0;have s1:=q.o.frozen 1;have s2:=q.o.frozen 2;refine cH rfl (λK hK=>?_);go_simp
   refine hK.out _ _ ?_;clear hK;try simp only[aC]
   refine cE ?_;obtain⟨ss,U⟩:=aK (((w6.setCell ⟨M,0,none⟩ (.int .i64 t.label)).setCell ⟨M,1,none⟩ (.slice (some ⟨s,0,none⟩) P P)).setCell ⟨M,2,none⟩ (.slice (some ⟨y,0,none⟩) P P));have TS:=aA (show Box ss M 74 #[.int .i64 t.label,.slice (some ⟨s,0,none⟩) P P,.slice (some ⟨y,0,none⟩) P P] by rw[<-U];exact q.o.set3 _ _ _);have ES:=aA (show Below u0 u0 ss by rw[<-U];exact((f.o.setCell (p:=⟨M,0,none⟩) S.o _).setCell (p:=⟨M,1,none⟩) S.o _).setCell (p:=⟨M,2,none⟩) S.o _);have B4:=aA (YK q.o I.o (by decide));have B7:=aA (YK q.o J.o (by decide));have S4:=aA (show aI ss u0 (.slice (some ⟨s,0,none⟩) P P) P (List.replicate P 0) by rw[<-U];exact((I.o.kept (nU _ M 0 _) (.inr (λe=>by simp only[Value.ownBlock,aZ]at e;exact B4.o e.symm)) (λ_ _ h=>h)).kept (nU _ M 1 _) (.inr (λe=>by simp only[Value.ownBlock,aZ]at e;exact B4.o e.symm)) (λ_ _ h=>h)).kept (nU _ M 2 _) (.inr (λe=>by simp only[Value.ownBlock,aZ]at e;exact B4.o e.symm)) (λ_ _ h=>h));have S7:=aA (show aI ss u0 (.slice (some ⟨y,0,none⟩) P P) P (List.replicate P 0) by rw[<-U];exact((J.o.kept (nU _ M 0 _) (.inr (λe=>by simp only[Value.ownBlock,aZ]at e;exact B7.o e.symm)) (λ_ _ h=>h)).kept (nU _ M 1 _) (.inr (λe=>by simp only[Value.ownBlock,aZ]at e;exact B7.o e.symm)) (λ_ _ h=>h)).kept (nU _ M 2 _) (.inr (λe=>by simp only[Value.ownBlock,aZ]at e;exact B7.o e.symm)) (λ_ _ h=>h));have d0:=aA (I.o.lt s rfl).1;have d2:=aA (J.o.lt y rfl).1;rw[U];clear U e0 e1 e2 s0 s1 s2 q I J f;have kx:=(O.o.keep ES.o).three;go_wp2
   clear kx;obtain⟨wo,d3⟩:∃wo:World,wo=wr:=⟨_,rfl⟩;subst d3;go_loopw [55] (λjv wx=>∃j:Nat,j<=n1/\jv=j/\Hid (aI wx u0 (.slice (some ⟨s,0,none⟩) P P) P (lY P t.pre j))/\Hid (aI wx u0 (.slice (some ⟨y,0,none⟩) P P) P (List.replicate P 0))/\Hid (Box wx M 74 #[.int .i64 t.label,.slice (some ⟨s,0,none⟩) P P,.slice (some ⟨y,0,none⟩) P P])/\Hid (Below u0 u0 wx)) (λjv _=>n1-(intOf jv).toNat)
   case atStart=>exact⟨0,aL _,rfl,S4,S7,TS,ES⟩
   clear S4 S7 TS ES;obtain⟨j,hj,rfl,O4,O7,q,f⟩:=hrel;by_cases d4:j<n1
   .have d5:(j:Int)<(n1:Int):=by omega
    obtain⟨b1,o1,x,a6,d6,W,qx⟩:=(aY.keep I1.o f.o).get d4;obtain⟨z0,z1⟩:=PK.o.1.1 x (aS W.o);obtain⟨p,rfl⟩:∃p:Nat,x=(p:Int):=⟨x.toNat,by omega⟩;have NX:=aA (tY (n:=P) W.o);rw[d9]at NX;have y0:wr.cell? ⟨s,p,none⟩=some (.int .i64 0):=aI.at O4.o (AQ PK.o.1 W.o);have f0:wr.frozen? ⟨s,p,none⟩=false:=aI.frozen O4.o p;have V4:=aA (aI.put O4.o p 1);have V7:=aA (O7.o.kept (nU wr s p (.int .i64 1)) (.inr (λe=>by simp only[Value.ownBlock,aZ]at e;exact NE.o e.symm)) (λ_ _ h=>h));have VT:=aA (q.o.other (a:=⟨s,p,none⟩) (.int .i64 1) B4.o);have VE:=aA (f.o.setCell (p:=⟨s,p,none⟩) d0.o (.int .i64 1));obtain⟨t0,t1,t2⟩:=q.o.three;subst a6;clear W z0;go_wp2
    go_roundw
    case rel=>exact⟨j+1,by omega,by go_num,aA (by rw[NX.o];exact V4.o),V7,VT,VE⟩
    simp[intOf];omega
   obtain rfl:j=n1:=by omega
   have W4:=aA (show lY P t.pre j=FC P t.pre by unfold FC;rw[b4.o]);rw[W4.o]at O4;have kx:=(O.o.keep f.o).three;go_wp2
   clear kx;go_loopw [70] (λiv wy=>∃i:Nat,i<=n2/\iv=i/\Hid (aI wy u0 (.slice (some ⟨s,0,none⟩) P P) P (FC P t.pre))/\Hid (aI wy u0 (.slice (some ⟨y,0,none⟩) P P) P (lY P t.post i))/\Hid (Box wy M 74 #[.int .i64 t.label,.slice (some ⟨s,0,none⟩) P P,.slice (some ⟨y,0,none⟩) P P])/\Hid (Below u0 u0 wy)) (λiv _=>n2-(intOf iv).toNat)
   case atStart=>exact⟨0,aL _,rfl,O4,O7,q,f⟩
   clear O4 O7 q f;obtain⟨i,hi,rfl,O4,O7,q,f⟩:=hrel;by_cases d7:i<n2
   .have d5:(i:Int)<(n2:Int):=by omega
    obtain⟨b1,o1,x,a6,d6,W,qx⟩:=(aY.keep I2.o f.o).get d7;obtain⟨z0,z1⟩:=PK.o.2.1 x (aS W.o);obtain⟨p,rfl⟩:∃p:Nat,x=(p:Int):=⟨x.toNat,by omega⟩;have NX:=aA (tY (n:=P) W.o);rw[d9]at NX;have y0:wr.cell? ⟨y,p,none⟩=some (.int .i64 0):=aI.at O7.o (AQ PK.o.2 W.o);have f0:wr.frozen? ⟨y,p,none⟩=false:=aI.frozen O7.o p;have V7:=aA (aI.put O7.o p 1);have V4:=aA (O4.o.kept (nU wr y p (.int .i64 1)) (.inr (λe=>by simp only[Value.ownBlock,aZ]at e;exact NE.o e)) (λ_ _ h=>h));have VT:=aA (q.o.other (a:=⟨y,p,none⟩) (.int .i64 1) B7.o);have VE:=aA (f.o.setCell (p:=⟨y,p,none⟩) d2.o (.int .i64 1));obtain⟨t0,t1,t2⟩:=q.o.three;subst a6;clear W z0;go_wp2
    go_roundw
    case rel=>exact⟨i+1,by omega,by go_num,V4,aA (by rw[NX.o];exact V7.o),VT,VE⟩
    simp[intOf];omega
   obtain rfl:i=n2:=by omega
   have W7:=aA (show lY P t.post i=FC P t.post by unfold FC;rw[b5.o]);rw[W7.o]at O7;have E0:=RD.o.trans (f.o.mono RD.o.size);have b7:=aA (BX.o.keep E0);have a9:=aA (own.o.keep (bT.kept _) E0);have b9:=aA (Lp SV.o (E0.mono SV.o.size));have c0:=aA (aT SV.o.size RD.o.size);have e3:=aA (show bT w4 wr (λj=>[Value.int .i64 t.label,.slice (some ⟨s,0,none⟩) P P,.slice (some ⟨y,0,none⟩) P P].getD j undef) (sV P t)from⟨rfl,P,P,aJ.base O4.o c0.o,aJ.base O7.o c0.o,by omega,by omega⟩);have e4:=aA (Ge a9.o);have e5:=aA b9.o.size;obtain⟨t0,t1,t2⟩:=q.o.three;obtain⟨v0,v1⟩:=b7.o.two;clear E0 O4 O7 f;go_wp2_with (at_builtin;refine dW (v:=.slice A' k c') Ew rfl _ _ rfl [sV P t] #[.int .i64 t.label,.slice (some ⟨s,0,none⟩) P P,.slice (some ⟨y,0,none⟩) P P] rfl rfl (by first|rfl|simp) rfl (by simp[Value.oneCell']) a9.o (cD.tran e3.o) rfl (aH w4 wr) e5.o (by omega) (by omega) e4.o ?_;intro vn w8 a2 c5 c6;obtain⟨Cn,cn,e6,_⟩:=a2.sl (by omega);subst e6;have B8:=aA (b7.o.grown c5 (λe=>by have:=(a9.o.lt _ e).1;have:=Z2.o.lt;omega));have O8:=aA a2;have S8:=aA (Lp b9.o c6);clear a2 c5 c6;have d1:=B8.o.cell 1;have g1:=B8.o.frozen 1)
   go_roundg (gk-1)
   case measure=>omega
   exact⟨k+1,Cn,cn,by omega,by go_num,aA (by simpa using B8.o.set 1 (.slice Cn (k+1) cn)),aA (by rw[a4.o];exact(gK O8.o Z2.o.lt).o),aA (NW S8.o (nU w8 bn 1 _))⟩
  refine Wi rfl rfl rfl (λK hK=>?_) (λK hK=>?_) (λK hK=>?_)
  .refine jT Tryz.underlying24 iP rfl rfl _ _ rfl P rfl rfl rfl rfl (by omega) (by omega) f.o f.o.size ?_;intro u1 g l m;have o:=Ci l;have N:=(show aI u1 u0 (.slice u0 P P) P (List.replicate P 0)from aI.of_row (by rw[fE];exact g));obtain⟨s,z⟩:=aK (u0.heap.size);have I:=aA (show aI u1 u0 (.slice (some ⟨s,0,none⟩) P P) P (List.replicate P 0) by rw[<-z];exact N);rw[z];replace f:=aA m
   clear g l m o z N;refine hK.out _ _ ⟨(O.o.keep f.o).cell 0,(R.o.keep f.o).cell 0⟩ (λQ=>?_);clear hK;try simp only[aC]
   refine mN rfl rfl (λK hK=>?_) (λK hK=>?_)
   .refine jT Tryz.underlying24 iP rfl rfl _ _ rfl P rfl rfl rfl rfl (by omega) (by omega) f.o f.o.size ?_;intro u2 g l m;have o:=Ci l;have N:=(show aI u2 u0 (.slice u1 P P) P (List.replicate P 0)from aI.of_row (by rw[fE];exact g));obtain⟨y,z⟩:=aK (u1.heap.size);have NE:=aA (show s≠y from λe=>by
     have:=(I.o.lt s rfl).2;omega)
    have J:=aA (show aI u2 u0 (.slice (some ⟨y,0,none⟩) P P) P (List.replicate P 0) by rw[<-z];exact N);rw[z];have D:=I.o.keep fG.kept o;replace I:=aA D
    replace f:=aA m
    clear g l m o z N D;refine hK.out _ _ ⟨(O.o.keep f.o).cell 0,(R.o.keep f.o).cell 0⟩ (λQ=>?_);clear hK;try simp only[aC]
    refine aM (v:=?_) rfl (by rfl) Q (λw' T=>?_) ?_
    rotate_left
    ·(go_simp;try with_reducible rfl)
    try simp only[aC]
    refine bK rfl (λK hK=>?_);go_simp
    have o:=aF u2 (.cells #[(0:Int),(),()] 74);have B:=Box.new u2 #[(0:Int),(),()] 74;obtain⟨M,C⟩:=aK (u2.heap.size);have S:=aA (show u0.heap.size<=M by rw[<-C];exact f.o.size);have D:=I.o.keep fG.kept o;have E:=J.o.keep fG.kept o;replace I:=aA D
    replace J:=aA E
    replace f:=aA (f.o.trans (o.mono f.o.size))
    rw[C]at B ⊢;generalize hE:u2.alloc (.cells #[(0:Int),(),()] 74)=u3 at *
    have q:=aA B;clear o hE B C D E;refine hK.out _ _ ⟨(O.o.keep f.o).cell 0,(R.o.keep f.o).cell 0⟩ (λQ=>?_);clear hK;try simp only[aC]
    exact EN.o _ _ ⟨_,_,_,rfl,I,J,NE,q,S,f⟩ ⟨(O.o.keep f.o).cell 0,(R.o.keep f.o).cell 0⟩
   go_simp
   have o:=aF u1 (.cells #[(0:Int),(),()] 74);have B:=Box.new u1 #[(0:Int),(),()] 74;obtain⟨M,C⟩:=aK (u1.heap.size);have S:=aA (show u0.heap.size<=M by rw[<-C];exact f.o.size);have D:=I.o.keep fG.kept o;replace I:=aA D
   replace f:=aA (f.o.trans (o.mono f.o.size))
   rw[C]at B ⊢;generalize hE:u1.alloc (.cells #[(0:Int),(),()] 74)=u2 at *
   have q:=aA B;clear o hE B C D;refine hK.out _ _ ⟨(O.o.keep f.o).cell 0,(R.o.keep f.o).cell 0⟩ (λQ=>?_);clear hK;try simp only[aC]
   refine bK rfl (λK hK=>?_);refine jT Tryz.underlying24 iP rfl rfl _ _ rfl P rfl rfl rfl rfl (by omega) (by omega) f.o f.o.size ?_;intro u3 g l m;have o:=Ci l;have N:=(show aI u3 u0 (.slice u2 P P) P (List.replicate P 0)from aI.of_row (by rw[fE];exact g));obtain⟨y,z⟩:=aK (u2.heap.size);have NE:=aA (show s≠y from λe=>by
    have:=(I.o.lt s rfl).2;omega)
   have J:=aA (show aI u3 u0 (.slice (some ⟨y,0,none⟩) P P) P (List.replicate P 0) by rw[<-z];exact N);rw[z];have D:=I.o.keep fG.kept o;have F:=q.o.keep o;replace I:=aA D
   replace q:=aA F
   replace f:=aA m
   clear g l m o z N D F;refine hK.out _ _ ⟨(O.o.keep f.o).cell 0,(R.o.keep f.o).cell 0⟩ (λQ=>?_);clear hK;try simp only[aC]
   refine aM (v:=?_) rfl (by rfl) Q (λw' T=>?_) ?_
   rotate_left
   ·(go_simp;try with_reducible rfl)
   try simp only[aC]
   exact EN.o _ _ ⟨_,_,_,rfl,I,J,NE,q,S,f⟩ ⟨(O.o.keep f.o).cell 0,(R.o.keep f.o).cell 0⟩
  .refine jT Tryz.underlying24 iP rfl rfl _ _ rfl P rfl rfl rfl rfl (by omega) (by omega) f.o f.o.size ?_;intro u1 g l m;have o:=Ci l;have N:=(show aI u1 u0 (.slice u0 P P) P (List.replicate P 0)from aI.of_row (by rw[fE];exact g));obtain⟨y,z⟩:=aK (u0.heap.size);have J:=aA (show aI u1 u0 (.slice (some ⟨y,0,none⟩) P P) P (List.replicate P 0) by rw[<-z];exact N);rw[z];replace f:=aA m
   clear g l m o z N;refine hK.out _ _ ⟨(O.o.keep f.o).cell 0,(R.o.keep f.o).cell 0⟩ (λQ=>?_);clear hK;try simp only[aC]
   refine mN rfl rfl (λK hK=>?_) (λK hK=>?_)
   .refine jT Tryz.underlying24 iP rfl rfl _ _ rfl P rfl rfl rfl rfl (by omega) (by omega) f.o f.o.size ?_;intro u2 g l m;have o:=Ci l;have N:=(show aI u2 u0 (.slice u1 P P) P (List.replicate P 0)from aI.of_row (by rw[fE];exact g));obtain⟨s,z⟩:=aK (u1.heap.size);have NE:=aA (show s≠y from λe=>by
     have:=(J.o.lt y rfl).2;omega)
    have I:=aA (show aI u2 u0 (.slice (some ⟨s,0,none⟩) P P) P (List.replicate P 0) by rw[<-z];exact N);rw[z];have E:=J.o.keep fG.kept o;replace J:=aA E
    replace f:=aA m
    clear g l m o z N E;refine hK.out _ _ ⟨(O.o.keep f.o).cell 0,(R.o.keep f.o).cell 0⟩ (λQ=>?_);clear hK;try simp only[aC]
    refine aM (v:=?_) rfl (by rfl) Q (λw' T=>?_) ?_
    rotate_left
    ·(go_simp;try with_reducible rfl)
    try simp only[aC]
    refine bK rfl (λK hK=>?_);go_simp
    have o:=aF u2 (.cells #[(0:Int),(),()] 74);have B:=Box.new u2 #[(0:Int),(),()] 74;obtain⟨M,C⟩:=aK (u2.heap.size);have S:=aA (show u0.heap.size<=M by rw[<-C];exact f.o.size);have E:=J.o.keep fG.kept o;have D:=I.o.keep fG.kept o;replace J:=aA E
    replace I:=aA D
    replace f:=aA (f.o.trans (o.mono f.o.size))
    rw[C]at B ⊢;generalize hE:u2.alloc (.cells #[(0:Int),(),()] 74)=u3 at *
    have q:=aA B;clear o hE B C E D;refine hK.out _ _ ⟨(O.o.keep f.o).cell 0,(R.o.keep f.o).cell 0⟩ (λQ=>?_);clear hK;try simp only[aC]
    exact EN.o _ _ ⟨_,_,_,rfl,I,J,NE,q,S,f⟩ ⟨(O.o.keep f.o).cell 0,(R.o.keep f.o).cell 0⟩
   go_simp
   have o:=aF u1 (.cells #[(0:Int),(),()] 74);have B:=Box.new u1 #[(0:Int),(),()] 74;obtain⟨M,C⟩:=aK (u1.heap.size);have S:=aA (show u0.heap.size<=M by rw[<-C];exact f.o.size);have E:=J.o.keep fG.kept o;replace J:=aA E
   replace f:=aA (f.o.trans (o.mono f.o.size))
   rw[C]at B ⊢;generalize hE:u1.alloc (.cells #[(0:Int),(),()] 74)=u2 at *
   have q:=aA B;clear o hE B C E;refine hK.out _ _ ⟨(O.o.keep f.o).cell 0,(R.o.keep f.o).cell 0⟩ (λQ=>?_);clear hK;try simp only[aC]
   refine bK rfl (λK hK=>?_);refine jT Tryz.underlying24 iP rfl rfl _ _ rfl P rfl rfl rfl rfl (by omega) (by omega) f.o f.o.size ?_;intro u3 g l m;have o:=Ci l;have N:=(show aI u3 u0 (.slice u2 P P) P (List.replicate P 0)from aI.of_row (by rw[fE];exact g));obtain⟨s,z⟩:=aK (u2.heap.size);have NE:=aA (show s≠y from λe=>by
    have:=(J.o.lt y rfl).2;omega)
   have I:=aA (show aI u3 u0 (.slice (some ⟨s,0,none⟩) P P) P (List.replicate P 0) by rw[<-z];exact N);rw[z];have E:=J.o.keep fG.kept o;have F:=q.o.keep o;replace J:=aA E
   replace q:=aA F
   replace f:=aA m
   clear g l m o z N E F;refine hK.out _ _ ⟨(O.o.keep f.o).cell 0,(R.o.keep f.o).cell 0⟩ (λQ=>?_);clear hK;try simp only[aC]
   refine aM (v:=?_) rfl (by rfl) Q (λw' T=>?_) ?_
   rotate_left
   ·(go_simp;try with_reducible rfl)
   try simp only[aC]
   exact EN.o _ _ ⟨_,_,_,rfl,I,J,NE,q,S,f⟩ ⟨(O.o.keep f.o).cell 0,(R.o.keep f.o).cell 0⟩
  go_simp
  have o:=aF u0 (.cells #[(0:Int),(),()] 74);have B:=Box.new u0 #[(0:Int),(),()] 74;obtain⟨M,C⟩:=aK (u0.heap.size);have S:=aA (show u0.heap.size<=M by rw[<-C];exact f.o.size);replace f:=aA (f.o.trans (o.mono f.o.size))
  rw[C]at B ⊢;generalize hE:u0.alloc (.cells #[(0:Int),(),()] 74)=u1 at *
  have q:=aA B;clear o hE B C;refine hK.out _ _ ⟨(O.o.keep f.o).cell 0,(R.o.keep f.o).cell 0⟩ (λQ=>?_);clear hK;try simp only[aC]
  refine mN rfl rfl (λK hK=>?_) (λK hK=>?_)
  .refine jT Tryz.underlying24 iP rfl rfl _ _ rfl P rfl rfl rfl rfl (by omega) (by omega) f.o f.o.size ?_;intro u2 g l m;have o:=Ci l;have N:=(show aI u2 u0 (.slice u1 P P) P (List.replicate P 0)from aI.of_row (by rw[fE];exact g));obtain⟨s,z⟩:=aK (u1.heap.size);have I:=aA (show aI u2 u0 (.slice (some ⟨s,0,none⟩) P P) P (List.replicate P 0) by rw[<-z];exact N);rw[z];have F:=q.o.keep o;replace q:=aA F
   replace f:=aA m
   clear g l m o z N F;refine hK.out _ _ ⟨(O.o.keep f.o).cell 0,(R.o.keep f.o).cell 0⟩ (λQ=>?_);clear hK;try simp only[aC]
   refine bK rfl (λK hK=>?_);refine jT Tryz.underlying24 iP rfl rfl _ _ rfl P rfl rfl rfl rfl (by omega) (by omega) f.o f.o.size ?_;intro u3 g l m;have o:=Ci l;have N:=(show aI u3 u0 (.slice u2 P P) P (List.replicate P 0)from aI.of_row (by rw[fE];exact g));obtain⟨y,z⟩:=aK (u2.heap.size);have NE:=aA (show s≠y from λe=>by
    have:=(I.o.lt s rfl).2;omega)
   have J:=aA (show aI u3 u0 (.slice (some ⟨y,0,none⟩) P P) P (List.replicate P 0) by rw[<-z];exact N);rw[z];have F:=q.o.keep o;have D:=I.o.keep fG.kept o;replace q:=aA F
   replace I:=aA D
   replace f:=aA m
   clear g l m o z N F D;refine hK.out _ _ ⟨(O.o.keep f.o).cell 0,(R.o.keep f.o).cell 0⟩ (λQ=>?_);clear hK;try simp only[aC]
   refine aM (v:=?_) rfl (by rfl) Q (λw' T=>?_) ?_
   rotate_left
   ·(go_simp;try with_reducible rfl)
   try simp only[aC]
   exact EN.o _ _ ⟨_,_,_,rfl,I,J,NE,q,S,f⟩ ⟨(O.o.keep f.o).cell 0,(R.o.keep f.o).cell 0⟩
  refine jT Tryz.underlying24 iP rfl rfl _ _ rfl P rfl rfl rfl rfl (by omega) (by omega) f.o f.o.size ?_;intro u2 g l m;have o:=Ci l;have N:=(show aI u2 u0 (.slice u1 P P) P (List.replicate P 0)from aI.of_row (by rw[fE];exact g));obtain⟨y,z⟩:=aK (u1.heap.size);have J:=aA (show aI u2 u0 (.slice (some ⟨y,0,none⟩) P P) P (List.replicate P 0) by rw[<-z];exact N);rw[z];have F:=q.o.keep o;replace q:=aA F
  replace f:=aA m
  clear g l m o z N F;refine hK.out _ _ ⟨(O.o.keep f.o).cell 0,(R.o.keep f.o).cell 0⟩ (λQ=>?_);clear hK;try simp only[aC]
  refine bK rfl (λK hK=>?_);refine jT Tryz.underlying24 iP rfl rfl _ _ rfl P rfl rfl rfl rfl (by omega) (by omega) f.o f.o.size ?_;intro u3 g l m;have o:=Ci l;have N:=(show aI u3 u0 (.slice u2 P P) P (List.replicate P 0)from aI.of_row (by rw[fE];exact g));obtain⟨s,z⟩:=aK (u2.heap.size);have NE:=aA (show s≠y from λe=>by
   have:=(J.o.lt y rfl).2;omega)
  have I:=aA (show aI u3 u0 (.slice (some ⟨s,0,none⟩) P P) P (List.replicate P 0) by rw[<-z];exact N);rw[z];have F:=q.o.keep o;have E:=J.o.keep fG.kept o;replace q:=aA F
  replace J:=aA E
  replace f:=aA m
  clear g l m o z N F E;refine hK.out _ _ ⟨(O.o.keep f.o).cell 0,(R.o.keep f.o).cell 0⟩ (λQ=>?_);clear hK;try simp only[aC]
  refine aM (v:=?_) rfl (by rfl) Q (λw' T=>?_) ?_
  rotate_left
  ·(go_simp;try with_reducible rfl)
  try simp only[aC]
  exact EN.o _ _ ⟨_,_,_,rfl,I,J,NE,q,S,f⟩ ⟨(O.o.keep f.o).cell 0,(R.o.keep f.o).cell 0⟩
def Jx {d:Nat}{w:World}{kd lb:Int}{A:OAd}{n c:Nat}{ks:List bH}(h:pQ d w A n c ks) :
  Calls Tryz.prog 17 #[.agg #[kd,lb,.slice A n c]] w (Xo (hJ (.mk kd lb ks)) w):=by
 by_cases a:eK (.mk kd lb ks)=0
 .by_cases b:dB (jJ (.mk kd lb ks))
  .refine(P9 h a b).mono λe w' k=>k.net ?_
   rw[yP a b];simp only[UI,dQ];exact b.2
  refine(P5 h a b).mono λe w' ⟨A,n,c,g,i,j⟩=>⟨A,n,c,g,i,λf=>?_,j⟩
  rw[sR a b]at f;cases f
 .refine(Ly h a).mono λe w' ⟨A,n,c,g,i,j⟩=>⟨A,n,c,g,i,λf=>?_,j⟩
  rw[qO a]at f;exact absurd f a
def lV (w:World)(B g n:Nat)(xs:LIn):Prop:=w.ownsRow B 3 1 (.slice (some ⟨g,0,none⟩) n n) n (xs.map (Value.int .i64))
section
variable {w w':World} {B g n:Nat} {xs:LIn}
def lV.len (h:lV w B g n xs):xs.length=n:=by have:=h.1;simpa using this
def lV.lt (h:lV w B g n xs):B<=g/\g<w.heap.size:=World.ownsRow.lt h g rfl
def lV.at (h:lV w B g n xs){k:Nat}{x:Int}(a:xs[k]?=some x):w.cell? ⟨g,k,none⟩=some (.int .i64 x):=by
 have b:=(aR.1 a).1;have:=h.len;rw[World.ownsRow.cellAt h k (by omega),dF,a];rfl
def lV.frozen (h:lV w B g n xs)(k:Nat):w.frozen? ⟨g,k,none⟩=false:=World.ownsRow.frozenAt h k
def lV.keep (h:lV w B g n xs)(a:Below w w w'):lV w' B g n xs :=
 World.ownsRow.kept h (row:=none) ⟨a.os,a.tape,a.output,a.size,λk b _=>a.block k b⟩ (.inr (by simp[Value.ownBlock]))
def lV.put (h:lV w B g n xs)(k:Nat)(x:Int):lV (w.setCell ⟨g,k,none⟩ x) B g n (xs.set k x):=by
 have:=(World.ownsRow.stored h k x).1;rw[<-List.map_set]at this;exact this
def lV.base {b:Nat}(h:lV w B g n xs)(c:b<=B):lV w b g n xs:=by
 refine⟨h.1, ?_⟩;rcases h.2 with e|⟨d,cap,a,f,i,j⟩
 .exact .inl e
 exact .inr ⟨d,cap,a,f,aT c i,j⟩
def lV.neRow {b m:Nat}{a:List Value}(h:lV w B b n xs)(c:w.ownsRow B 24 1 (.slice g m m) m a):b≠g:=by
 intro e;subst e;rcases jC h c (by decide)with e|e
 .cases e
 exact e rfl
end
def eU {w:World}{B e sz n m bx g ty:Nat}{a:List Value}{cs:Array Value}(h:w.ownsRow B e sz (.slice g m n) m a)(f:Box w bx ty cs)(d:e≠ty):bx≠g:=by
 intro b;subst b;rcases h.2 with⟨e,_⟩|⟨k,cap,i,e,_,c,_⟩
 .cases e
 injection e with b;injection b with b;injection b with b;subst b;unfold Box at f;rw[f]at c;injection c with c;injection c with _ j;exact d j.symm
def sS (w:World)(B g K n:Nat)(M:LLi):Prop :=
 ∃(a:List Value) (bl:Nat->Nat),w.ownsRow B 24 1 (.slice (some ⟨g,0,none⟩) K K) K a/\M.length<=K/\(∀(k:Nat) (x:LIn),M[k]?=some x->a[k]?=some (.slice (some ⟨bl k,0,none⟩) n n)/\lV w B (bl k) n x) /\
  (∀k l:Nat,k<M.length->l<M.length->k≠l->bl k≠bl l)
section
variable {w w1:World} {B g K n:Nat} {M:LLi}
def sS.made {a:List Value}(h:w.ownsRow B 24 1 (.slice g K K) K a):sS w B g K n [] :=
 ⟨a,λ_=>0,h,aL _,λk x b=>by simp at b,λk l c=>by simp at c⟩
def sS.keep (h:sS w B g K n M)(d:Below w w w1):sS w1 B g K n M:=by
 obtain⟨c,bl,e,f,i,j⟩:=h;refine⟨c,bl,e.kept (row:=none) ⟨d.os,d.tape,d.output,d.size,λk l _=>d.block k l⟩ (.inr (by simp[Value.ownBlock])),f,λk x m=>?_,j⟩;obtain⟨a,b⟩:=i k x m;exact⟨a,b.keep d⟩
def sS.row (h:sS w B g K n M):w.ownsRow B 24 1 (.slice g K K) K (Classical.choose h):=(nD (nD h)).1
def sS.frozen (h:sS w B g K n M)(k:Nat):w.frozen? ⟨g,k,none⟩=false:=by
 obtain⟨a,bl,b,_⟩:=h;exact b.frozenAt k
def sS.cellAny (h:sS w B g K n M){k:Nat}(c:k<K):∃v,w.cell? ⟨g,k,none⟩=some v:=by
 obtain⟨a,bl,b,_⟩:=h;refine⟨_,(b.cellAt k (by omega)).trans (aV (by have:=b.1;omega))⟩
def sS.get (h:sS w B g K n M){k:Nat}(e:k<M.length):∃b x,M[k]?=some x/\w.cell? ⟨g,k,none⟩=some (.slice (some ⟨b,0,none⟩) n n)/\lV w B b n x:=by
 obtain⟨c,bl,f,j,i,_⟩:=h;have d:M[k]?=some (M[k]'e):=aV _;obtain⟨a,b⟩:=i k _ d;exact⟨_,_,d,by rw[f.cellAt k (by omega)];exact a,b⟩
def sS.push (h:sS w B g K n M)(i:Below w w w1){b:Nat}{r:LIn}(own:lV w1 B b n r)(t:w.heap.size<=b)(A:M.length<K) :
  sS (w1.setCell ⟨g,M.length,none⟩ (.slice b n n)) B g K n (M++[r]):=by
 obtain⟨d,bl,u,G,v,C⟩:=h;have o:=u.kept (row:=none) (w':=w1) ⟨i.os,i.tape,i.output,i.size,λk f _=>i.block k f⟩ (.inr (by simp[Value.ownBlock]));have D:=u.1;refine⟨d.set M.length (.slice b n n),λk=>if k=M.length then b else bl k,(o.stored M.length _).1,by rw[bL];exact A,λk x j=>?_,λk l f E p=>?_⟩
 .by_cases f:k=M.length
  .subst f;rw[j7 (aB _),jL]at j;simp only[aQ,aZ]at j;subst j;simp only[if_true];refine⟨eQ (by omega), ?_⟩;exact i5 own (λe=>by simp only[Value.ownBlock,aZ]at e;exact own.neRow o e) _
  have s:k<M.length:=by
   have:=(aR.1 j).1;simp at this;omega
  rw[fO s]at j;obtain⟨a,c⟩:=v k x j;dsimp only
  rw[aD f];refine⟨by rw[eG (λe=>f e.symm)];exact a, ?_⟩;have c1:=c.keep i;exact i5 c1 (λe=>by simp only[Value.ownBlock,aZ]at e;exact c1.neRow o e) _
 .have m:∀q,q<M.length->bl q≠b:=λq F e=>by
   have:=(v q _ (aV F)).2.lt.2;omega
  simp only[bL,bP,fQ]at f E;dsimp only
  by_cases y:k=M.length
  .rw[aG y,aD (by omega)];exact λe=>m l (by omega) e.symm
  rw[aD y];by_cases z:l=M.length
  .rw[aG z];exact m k (by omega)
  rw[aD z];exact C k l (by omega) (by omega) p
def sS.put (h:sS w B g K n M){k j b:Nat}{r:LIn}{c:Int}(o:M[k]?=some r)(p:w.cell? ⟨g,k,none⟩=some (.slice b n n)):sS (w.setCell ⟨b,j,none⟩ c) B g K n (M.set k (r.set j c)):=by
 obtain⟨d,bl,m,y,s,t⟩:=h;have u:k<M.length:=(aR.1 o).1;obtain⟨a,v⟩:=s k r o;have z:bl k=b:=by
  rw[m.cellAt k (by omega),a]at p;simpa using p
 subst z;refine⟨d,bl,i5 m (λe=>by simp only[Value.ownBlock,aZ]at e;exact v.neRow m e.symm) _,by rw[kB];exact y,λq x f=>?_,λq l A C=>t q l (by simpa using A) (by simpa using C)⟩;by_cases e:q=k
 .subst e;rw[eQ u]at f;injection f with f;subst f;exact⟨a,v.put j c⟩
 rw[eG (λi=>e i.symm)]at f;obtain⟨a2,c2⟩:=s q x f;refine⟨a2,i5 c2 (λi=>?_) _⟩;simp only[Value.ownBlock,aZ]at i;exact t q k (aR.1 f).1 u e i
def sS.uniq {e:LLi}(h:sS w B g K n M)(p:sS w B g K n e)(l:M.length=K)(y:e.length=K):M=e:=by
 apply fP (by omega)
 intro k f i;obtain⟨b,x,m,q,o⟩:=h.get f;obtain⟨z,r,c,a,d⟩:=p.get i;rw[q]at a;simp only[aZ,Value.slice.injEq,Addr.mk.injEq,and_true]at a;subst a;have s:M[k]=x:=by rw[aV f]at m;injection m
 have t:e[k]=r:=by rw[aV i]at c;injection c
 rw[s,t];apply fP (by rw[o.len,d.len])
 intro j u v;have a1:=o.at (aV u);have a2:=d.at (aV v);rw[a1]at a2;simpa using a2
end
open Classical in
noncomputable def Zv (w:World)(B g K n:Nat):Nat:=if h:∃M,sS w B g K n M/\M.length=K then Ub (Classical.choose h)else 0
def TJ {w:World}{B g K n:Nat}{M:LLi}(h:sS w B g K n M)(l:M.length=K):Zv w B g K n=Ub M:=by
 have hex:∃M,sS w B g K n M/\M.length=K:=⟨M,h,l⟩;unfold Zv;rw[dif_pos hex];obtain⟨a,b⟩:=nD hex;rw[a.uniq h b l]
structure xZ (w0 w:World)(B g bc ba K n:Nat)(p:LLi×Bool):Prop where
 mat:sS w B g K n p.1
 len:p.1.length=K
 boxC:Box w bc 30 #[.slice (some ⟨g,0,none⟩) K K]
 boxA:Box w ba 4 #[.bool p.2]
 ge:B<=ba
 below:Below B w0 w
def xZ.keep {w0 w w':World}{B g bc b K n:Nat}{p:LLi×Bool}(h:xZ w0 w B g bc b K n p)(a:Below w w w'):xZ w0 w' B g bc b K n p :=
 ⟨h.mat.keep a,h.len,h.boxC.keep a,h.boxA.keep a,h.ge,h.below.trans (a.mono (aT h.ge (fR h.boxA.lt)))⟩
def xZ.flag {w0 w:World}{B g bc j K n:Nat}{p:LLi×Bool}(h:xZ w0 w B g bc j K n p)(b:Bool):xZ w0 (w.setCell j (.bool b)) B g bc j K n (p.1,b):=by
 obtain⟨d,bl,i,f,l,m⟩:=h.mat;refine⟨⟨d,bl,i5 i (λe=>?_) _,f,λk x o=>?_,m⟩,h.len,h.boxC.other _ (λe=>?_),by have:=h.boxA.set 0 (.bool b);simpa using this,h.ge,h.below.setCell (p:=⟨j,0,none⟩) h.ge _⟩
 .simp only[Value.ownBlock,aZ]at e;exact eU i h.boxA (by decide) e.symm
 .obtain⟨a,c⟩:=l k x o;refine⟨a,i5 c (λe=>?_) _⟩;simp only[Value.ownBlock,aZ]at e;exact eU c h.boxA (by decide) e.symm
 simp only at e;have i:=h.boxC;have f:=h.boxA;subst e;unfold Box at i f;rw[i]at f;injection f with f;injection f with _ q;exact absurd q (by decide)
def xZ.put {w0 w:World}{B g bc e K n:Nat}{p:LLi×Bool}(h:xZ w0 w B g bc e K n p){k m b:Nat}{r:LIn}(c:Int)(a:p.1[k]?=some r)(f:w.cell? ⟨g,k,none⟩=some (.slice b n n))(d:lV w B b n r):xZ w0 (w.setCell ⟨b,m,none⟩ c) B g bc e K n (V9 p.1 k m c,p.2) :=
 ⟨by rw[n8 a];exact h.mat.put a f,by rw[n8 a,kB];exact h.len,h.boxC.other _ (eU d h.boxC (by decide)),h.boxA.other _ (eU d h.boxA (by decide)),h.ge,h.below.setCell (p:=⟨b,m,none⟩) d.lt.1 _⟩
def VC {p:LLi×Bool}{k m:Nat}{c x:Int}(a:atT p.1 k m=x)(h:c<x):Qf p k m c=(V9 p.1 k m c,true):=by unfold Qf;rw[a,aG h]
def Xt {p:LLi×Bool}{k m:Nat}{c x:Int}(a:atT p.1 k m=x)(h:¬c<x):Qf p k m c=p:=by unfold Qf;rw[a,aD h]
def r8 {w0 w:World}{B g bc d K n:Nat}{p:LLi×Bool}(h:xZ w0 w B g bc d K n p){k m:Nat}(v:k<K)(y:m<n)(c:Int) :
  Calls Tryz.prog 54 #[k,m,c,.pointer bc,.pointer d] w λe w'=>e=.returned (.tuple #[])/\xZ w0 w' B g bc d K n (Qf p k m c)/\(∀bx ty cs,Box w bx ty cs->3≠ty->bx≠d->Box w' bx ty cs):=by
 obtain⟨q,r,j,f,b⟩:=h.mat.get (k:=k) (by rw[h.len];exact v);obtain⟨x,l⟩:∃x,r[m]?=some x:=⟨_,aV (by rw[b.len];exact y)⟩;have u:=aA (xX j l);have z:=h.boxC.cell 0;have A:=h.boxA.frozen 0;have a0:=h.boxA.cell 0;simp only[aP,aQ]at z a0;have M:=b.at l;have C:=b.frozen m;have D:(k:Int)<(K:Int):=by omega
 have E:(m:Int)<(n:Int):=by omega
 by_cases i:c<x
 .have F:=eU b h.boxA (by decide);have s:=aA (h.put (m:=m) c j f b);have G:=aA (s.o.flag true);have H:=aA (show ∀bx ty cs,Box w bx ty cs->3≠ty->bx≠d->Box ((w.setCell ⟨q,m,none⟩ c).setCell d (.bool true)) bx ty cs from λbx ty cs o I J=>Box.other (a:=⟨d,0,none⟩) (Box.other (a:=⟨q,m,none⟩) o _ (show bx≠q from eU b o I)) _ J);have t:=aA (VC u.o i);have N:=s.o.boxA.frozen 0;have a1:=s.o.boxA.cell 0;simp only[aP,aQ]at a1;clear h j l b;go_enter Tryz.func54,Tryz.ntmps54
  go_wp2
  go_end0
  exact⟨rfl,by rw[t.o];exact G.o,H.o⟩
 .have t:=aA (Xt u.o i);have L:=aA h;clear h j l b A C a0;go_enter Tryz.func54,Tryz.ntmps54
  go_wp2
  go_end0
  exact⟨rfl,by rw[t.o];exact L.o,λ_ _ _ o _ _=>o⟩
def TQ:(Tryz.prog.info? 24).map (λi=>(i.zero,i.size,i.bytes))=some (some (.slice none 0 0),1,24):=by kernel_rfl
def LJ (n:Nat):iM n n=List.replicate n far:=by
 apply fP (by simp[iM])
 intro j a c;have b:j<n:=by simpa [iM] using a
 simp[iM,b,far]
def VD {n k m:Nat}:(wZ n k++[iM n m]).set k ((iM n m).set m 1073741824)=wZ n k++[iM n (m+1)]:=by
 have a:(wZ n k).length=k:=by simp[wZ]
 rw[List.set_append_right k _ (by omega),a,jL,Lu];rfl
def VF {n k m:Nat}:(wZ n k++[iM n m])[k]?=some (iM n m):=by
 have a:(wZ n k).length=k:=by simp[wZ]
 rw[j7 (by omega),a,jL];rfl
def xZ.newFlag {w0 w:World}{B g bc b K n:Nat}{p:LLi×Bool}(h:xZ w0 w B g bc b K n p):xZ w0 (w.alloc (.cells #[.bool p.2] 4)) B g bc w K n p:=by
 have a:=aF w (.cells #[.bool p.2] 4);exact⟨h.mat.keep a,h.len,h.boxC.keep a,Box.new _ _ _,aT h.ge (fR h.boxA.lt),h.below.trans (a.mono (aT h.ge (fR h.boxA.lt)))⟩
def TU (v:Value)(w:World):Value:=match v with
 | .pointer (some a)=>(w.cell? a).getD undef
 | _=>undef
def Xu (N:eB)(i o:Int)(tr:LIn)(w:World)(e:Ending)(w':World):Prop :=
 ∃c k,q6 N i o tr c k/\e=.returned (.tuple #[.int .i64 c,.int .i64 k])/\Below w.heap.size w w'
def LO {w:World}{P:Int}{A Q:OAd}{n0 c l u:Nat}{ts:List bG}{tr:LIn}(i o:Int)(h:eC w A n0 c ts)(hn:n0<=2513169434916)(g:aY w Q l u tr) :
  Calls Tryz.prog 19 #[.agg #[P,.slice A n0 c],i,o,.slice Q l u] w (Xu ⟨P,ts⟩ i o tr w):=by
 generalize hw:w.alloc (.cells #[P,.slice A n0 c] 41)=w0;have HB:=aA (show Below w.heap.size w w0 by rw[<-hw];exact(aH _ _).alloc (aB _) _);have X0:=aA (show Box w0 w.heap.size 41 #[P,.slice A n0 c] by rw[<-hw];exact Box.new _ _ _);have H:=aA (h.keep HB.o);have J:=aA (Jn (P:=P) i o H.o hn);have m0:=g.small;have G:=aA (aY.keep g HB.o);have GL:=aA (show tr.length=l from g.len);have TL:=aA (show ts.length=n0 from h.len);clear h g;obtain⟨R,hR⟩:=aK (pO ⟨P,ts⟩ i o);have HR:=aA hR;rw[hR]at J;clear hR;obtain⟨a0,a1⟩:=X0.o.two;have h9:∀args w,(callFunc 54 args).run Tryz.prog w=.ok (.enter 54 args) w:=λargs w=>by kernel_rfl
 go_enter Tryz.func19,Tryz.ntmps19
 go_upto_region 1 with fail
 clear hw;obtain⟨s,k⟩:=R;obtain⟨tv,c8⟩:=aK (toV (eH s.marks (Cb ⟨P,ts⟩ o)));have e9:=aA c8;replace J:=aA (show Calls Tryz.prog 53 #[.agg #[P,.slice A n0 c],i,o] w0 (λe w'=>∃U cu V cv,e=.returned (.tuple #[.agg #[.slice U s.marks.length cu,.slice V s.arcs.length cv],.int .i64 tv,k])/\cQ w' U s.marks.length cu s.marks/\qD w' V s.arcs.length cv s.arcs/\Below w0 w0 w') by rw[<-c8];exact J.o)
 clear c8;go_upto_region 2 with(go_at_call 53;go_loud ((with_reducible refine J.o.mono ?_);rintro e w1 ⟨U,cu,V,cv,rfl,hL,hA,f3⟩;have L1:=aA hL;have A1:=aA hA;have B1:=aA f3;clear hL hA f3))
 have f4:=aA (show Below w1 w1 (w1.alloc (.cells #[.slice U s.marks.length cu,.slice V s.arcs.length cv] 78))from(aH _ _).alloc (aB _) _);have X1:=aA (Box.new w1 #[.slice U s.marks.length cu,.slice V s.arcs.length cv] 78);clear a0 a1 J;generalize w1.alloc (.cells #[.slice U s.marks.length cu,.slice V s.arcs.length cv] 78)=d at *
 generalize d0:w1.heap.size=b8 at *
 have B2:=aA (B1.o.trans (f4.o.mono (by have:=B1.o.size;rw[d0]at this;exact this)));have i0:=aA (show Below w1 w1 d by rw[d0];exact f4.o);have BW:=aA (HB.o.trans (B2.o.mono HB.o.size));clear d0;by_cases hk:k=0
 .subst hk;by_cases a4:60<l
  .have CP:=aA (Ek HR.o (by rw[GL.o];exact a4));have d1:(60:Int)<(l:Int):=by omega
   go_wp2
   go_ret2
   exact⟨_,_,CP.o,rfl,BW.o⟩
  have d1:¬(60:Int)<(l:Int):=by omega
  cases hf:eH s.marks (Cb ⟨P,ts⟩ o) with
  | none =>
   have CP:=aA (Em HR.o (by rw[GL.o];exact a4) hf);obtain rfl:tv=-1:=by rw[<-e9.o,hf];rfl
   clear hf;go_wp2
   go_ret2
   exact⟨_,_,CP.o,rfl,BW.o⟩
  | some j =>
   have CP:=aA (λ(cc:Int) hm=>En (c:=cc) HR.o (by rw[GL.o];exact a4) hf hm);obtain rfl:tv=(j:Int):=by rw[<-e9.o,hf];rfl
   have HJ:=aA (aR.1 (kM hf)).1;have T:=aA (N7 HR.o);have SO:=aA (Vx HR.o);have m1:¬(j:Int)<0:=by omega
   clear hf;obtain⟨n,d2⟩:=aK (s.marks.length);obtain⟨m,d3⟩:=aK (s.arcs.length);have HN:=aA d2;have HM:=aA d3;rw[d2]at L1 X1 HJ;rw[d3]at A1 X1;clear d2 d3;have i1:n<=300:=by rw[<-HN.o];exact T.o.small
   have N:0<n:=by rw[<-HN.o];exact T.o.pos
   have m2:m<=7200:=by rw[<-HM.o];exact T.o.few
   obtain⟨K,hK⟩:=aK (l+1);have m3:((l:Int)+1)=(K:Int):=by omega
   have KL:=aA (show tr.length+1=K by rw[GL.o];exact hK);have m4:K<=61:=by omega
   have f5:0<K:=by omega
   have d4:=aA hK;clear hK;go_upto_region 9 with(at_make;refine jH Tryz.underlying30 TQ rfl rfl _ _ rfl K rfl rfl (by go_num) (by go_num) (by omega) (by omega) (aH d d) (aB _) ?_;intro w3 c0 i2 f6;have M3:=aA (sS.made (n:=n) c0);have B3:=aA f6;clear c0 i2 f6)
   have X3:=aA (X1.o.keep B3.o);have N3:=aA (X0.o.keep B2.o);have bb:=aF w3 (.cells #[.slice d K K] 30);have O:=aA (Box.new w3 #[.slice d K K] 30);have M4:=aA (M3.o.keep bb);have B4:=aA (B3.o.trans (bb.mono B3.o.size));clear bb X3;generalize w3.alloc (.cells #[.slice d K K] 30)=w4 at *
   generalize w3.heap.size=bc at *
   obtain⟨wo,i3⟩:∃wo:World,wo=w4:=⟨_,rfl⟩;subst i3;have u:=O.o.cell 0;simp only[aP,aQ]at u;go_wp2
   clear u;go_loopw [53] (λv wr=>∃k:Nat,k<=K/\v=k/\Hid (sS wr d d K n (wZ n k))/\Hid (Box wr bc 30 #[.slice d K K])/\Hid (Below d d wr)) (λv _=>K-(intOf v).toNat)
   case atStart=>exact⟨0,aL _,rfl,M4,O,B4⟩
   clear M4 O B4;obtain⟨k,hk,rfl,MW,O,BR⟩:=hrel;by_cases L:k<K
   .have i4:(k:Int)<(K:Int):=by omega
    have b7:=aA ((aH wr wr).drew);have MD:=aA (MW.o.keep b7.o);have XD:=aA (O.o.keep b7.o);have BD:=aA (BR.o.trans (b7.o.mono BR.o.size));obtain⟨s0,s1⟩:=(X1.o.keep BD.o).two;have u:=XD.o.cell 0;simp only[aP,aQ]at u;go_upto_region 12 with fail
    refine aN 7 (.takes [0,1,2,3,4] (.one 5 (.take 6 (.fin 7 .done)))) (λw'=>w'.cell? bc=some (.slice d K K)/\w'.cell? b8=some (.slice U n cu)) (by kernel_rfl) (by kernel_rfl) (by kernel_rfl) (λ_ _ _ _ _ h=>h) ⟨u,s0⟩ (λhH=>?_);simp only[Scr.takes];generalize wr.drew=u0 at *
    iterate 5
     refine aM (v:=?_) rfl (by rfl) hH (λw' d5=>?_) ?_
     rotate_left
     ·(go_simp;try with_reducible rfl)
     try simp only[aC]
    refine bK rfl (λKf C=>?_);refine jT Tryz.underlying24 iP rfl rfl _ _ rfl n rfl rfl rfl rfl (by omega) (by omega) (aH u0 u0) (aB _) ?_;intro w5 c5 i9 g0;have OB:=aA (show lV w5 u0 u0 n (iM n 0) by unfold lV;rw[Ls,fE];exact c5);have B5:=aA g0;have XE:=aA (XD.o.keep B5.o);have SE:=aA ((X1.o.keep BD.o).keep B5.o);have g1:(wZ n k).length=k:=by simp[wZ]
    have mf:=(MD.o.keep B5.o).frozen k;obtain⟨v0,mc⟩:=(MD.o.keep B5.o).cellAny L;have MP:=MD.o.push B5.o (OB.o.base BD.o.size) (aB _) (by rw[g1];exact L);rw[g1]at MP;have g2:=aA MP;have g3:=eU MD.o.row XD.o (by decide);have XF:=aA (XE.o.other (a:=⟨d.heap.size,k,none⟩) (.slice u0 n n) g3);have B6:=aA (show Below d d (w5.setCell ⟨d.heap.size,k,none⟩ (.slice u0 n n))from(BD.o.trans (B5.o.mono BD.o.size)).setCell (aB _) _);have r0:=XE.o.cell 0;obtain⟨r1,_⟩:=SE.o.two;simp only[aP,aQ]at r0;clear c5 i9 g0 MP g3;refine C.out _ _ ⟨r0,r1⟩ (λhH=>?_);clear C;simp only[aC];refine aM (v:=?_) rfl (by rfl) hH (λw' d5=>?_) ?_
    rotate_left
    ·(go_simp;try with_reducible rfl)
    simp only[aC];refine cH rfl (λKf C=>?_);go_simp
    refine C.out _ _ ?_;clear C;refine cE ?_;clear r0 r1 u s0 s1 mf mc hH;generalize w5.setCell ⟨d.heap.size,k,none⟩ (.slice u0 n n)=w6 at *
    have d6:=aA (show sS w6 d d K n (wZ n k++[iM n 0])from g2.o);clear g2 MD XD BD XE SE B5 OB b7 MW O BR;have u:=XF.o.cell 0;simp only[aP,aQ]at u;obtain⟨br,x,B,S,z⟩:=d6.o.get (k:=k) (by simp[wZ]);clear B z;go_wp2
    clear u S;go_loopw [68] (λv wr=>∃m:Nat,m<=n/\v=.int .i64 m/\Hid (sS wr d d K n (wZ n k++[iM n m]))/\Hid (Box wr bc 30 #[.slice d K K])/\Hid (Below d d wr)) (λv _=>n-(intOf v).toNat)
    case atStart=>exact⟨0,aL _,rfl,d6,XF,B6⟩
    clear d6 XF B6;obtain⟨X,m5,rfl,MW,O,BR⟩:=hrel;by_cases a5:X<n
    .have j0:(X:Int)<(n:Int):=by omega
     have u:=O.o.cell 0;simp only[aP,aQ]at u;obtain⟨d7,x,B,S,z⟩:=MW.o.get (k:=k) (by simp[wZ]);obtain rfl:x=iM n X:=by rw[VF]at B;injection B with B;exact B.symm
     obtain⟨y,hy⟩:∃y,(iM n X)[X]?=some y:=⟨_,aV (by rw[PX];exact a5)⟩;have x0:=z.at hy;have f0:=z.frozen X;have MN:=aA (show sS (wr.setCell ⟨d7,X,none⟩ (.int .i64 1073741824)) d d K n (wZ n k++[iM n (X+1)])from VD▸MW.o.put (j:=X) (c:=1073741824) B S);have XN:=aA (O.o.other (a:=⟨d7,X,none⟩) (.int .i64 1073741824) (eU z O.o (by decide)));have BN:=aA (BR.o.setCell (p:=⟨d7,X,none⟩) z.lt.1 (.int .i64 1073741824));clear B z hy;go_wp2
     go_roundw
     case rel=>exact⟨X+1,by omega,by go_num,MN,XN,BN⟩
     simp[intOf];omega
    obtain rfl:X=n:=by omega
    have MF:=aA (show sS wr d d K X (wZ X (k+1)) by rw[Tn,<-LJ];exact MW.o);go_wp2
    go_roundw
    case rel=>exact⟨k+1,by omega,by go_num,MF,O,BR⟩
    simp[intOf];omega
   obtain rfl:k=K:=by omega
   have MF:=aA (show sS wr d d k n (wZ n k)from MW.o);have l0:(0:Int)<(k:Int):=by omega
   have l1:(0:Int)<(n:Int):=by omega
   have u:=O.o.cell 0;simp only[aP,aQ]at u;obtain⟨br,r,hr,S,z⟩:=MW.o.get (k:=0) (by simpa [wZ] using f5);obtain⟨f1,f2⟩:=Lx (n:=n) (k:=k) (i:=0) (m:=0) f5 N;obtain rfl:r=List.replicate n far:=by rw[f1]at hr;injection hr with hr;exact hr.symm
   have x0:=z.at f2;have f0:=z.frozen 0;have MN:=aA (show sS (wr.setCell br (.int .i64 0)) d d k n (qX n k) by unfold qX;rw[n8 hr];exact MW.o.put (j:=0) (c:=0) hr S);have XN:=aA (O.o.other (a:=⟨br,0,none⟩) (.int .i64 0) (eU z O.o (by decide)));have BN:=aA (BR.o.setCell (p:=⟨br,0,none⟩) z.lt.1 (.int .i64 0));have LI:=aA (show yS (Ed s.arcs (atI (jU ⟨P,ts⟩)) tr) tr.length n (qX n k) by rw[<-KL.o];exact yS.start N);have g4:=aA (show(qX n k).length=k by unfold qX;rw[n8 hr,kB];simp[wZ]);go_upto_region 20 with fail
   clear MF MW O BR u x0 f0 hr S z f1 f2;generalize wr.setCell br (.int .i64 0)=w7 at *
   have XA:=aA (Box.new w7 #[.bool true] 4);have bb:=aF w7 (.cells #[.bool true] 4);have J:=aA (show xZ d (w7.alloc (.cells #[.bool true] 4)) d d bc w7 k n (qX n k,true)from⟨MN.o.keep bb,g4.o,XN.o.keep bb,XA.o,BN.o.size,BN.o.trans (bb.mono BN.o.size)⟩);clear XA bb MN XN BN g4;go_wp2
   go_loopw [16] (λv wr=>∃(M:Nat) (p:LLi×Bool),v=.pointer M/\Hid (xZ d wr d d bc M k n p)/\Hid (yS (Ed s.arcs (atI (jU ⟨P,ts⟩)) tr) tr.length n p.1)/\Hid (p.2=false->∀e∈q5 s.arcs (atI (jU ⟨P,ts⟩)) tr n,tO (p.1,false) e=(p.1,false))) (λv wr=>Zv wr d d k n+Ec (TU v wr))
   case atStart=>exact⟨w7.heap.size,(qX n k,true),rfl,J,LI,aA (λe=>(by cases e))⟩
   clear J LI;obtain⟨M,p,rfl,J,CI,CL⟩:=hrel;obtain⟨F,b⟩:=p;have u:=J.o.boxC.cell 0;have b0:=J.o.boxA.cell 0;have fb:=J.o.boxA.frozen 0;simp only[aP,aQ]at u b0;cases b
   .have j1:l<k:=by have:=d4.out;omega
    have l2:(l:Int)<(k:Int):=by omega
    have e0:j<n:=HJ.o;have l3:(j:Int)<(n:Int):=by omega
    obtain⟨br,r,hr,S,z⟩:=J.o.mat.get (k:=l) (by rw[J.o.len];exact j1);obtain⟨x,B⟩:∃x,r[j]?=some x:=⟨_,aV (by rw[z.len];exact e0)⟩;have x0:=z.at B;have MN:=aA (show Gm (Ed s.arcs (atI (jU ⟨P,ts⟩)) tr) ((tr.length:Int),(j:Int)) x by
     obtain⟨c',j2,a2⟩:=Wk.marks SO.o (lb:=atI (jU ⟨P,ts⟩)) (tr:=tr) T.o.label j j (aB _) (by rw[HN.o];exact e0);have:=CI.o.least (by rw[<-HN.o];exact T.o.to_) N (CL.o rfl) (k:=tr.length) (m:=j) (by omega) e0 j2 (by unfold far;have:=GL.o;omega);have e:atT F tr.length j=x:=by rw[GL.o];exact xX hr B
     rw[e]at this;exact this)
    have k0:=aA (CP.o x MN.o);have BE:=aA (BW.o.trans (J.o.below.mono BW.o.size));clear hr z B fb;go_wp2
    go_ret2
    exact⟨_,_,k0.o,rfl,BE.o⟩
   have MQ:=aA (TJ J.o.mat J.o.len);have C0:=aA (show xZ d (wr.setCell M (.bool false)) d d bc M k n (stK s.arcs (atI (jU ⟨P,ts⟩)) tr n (F,false) 0)from J.o.flag false);have Z:=aA (yS.mono (KZ (tr:=tr) (by rw[<-HN.o];exact T.o.from_) (by rw[<-HN.o];exact T.o.to_) T.o.label:∀e∈q5 s.arcs (atI (jU ⟨P,ts⟩)) tr n,_));have q1:=C0.o.boxC.cell 0;simp only[aP,aQ]at q1;obtain⟨wp,k1⟩:∃wp:World,wp=wr:=⟨_,rfl⟩;subst k1;go_wp2
   clear u b0 fb q1;go_loopw [87] (λv wr=>∃kk:Nat,kk<=k/\v=kk/\Hid (xZ d wr d d bc M k n (stK s.arcs (atI (jU ⟨P,ts⟩)) tr n (F,false) kk))) (λv _=>k-(intOf v).toNat)
   case atStart=>exact⟨0,aL _,rfl,C0⟩
   clear C0;obtain⟨kk,m6,rfl,CK⟩:=hrel;by_cases L:kk<k
   rotate_left
   .obtain rfl:kk=k:=by omega
    have PS:=aA (Z.o.pass (F,false) CI.o);obtain⟨pe,e3⟩:=aK ((q5 s.arcs (atI (jU ⟨P,ts⟩)) tr n).foldl tO (F,false));have CE:=aA (show xZ d wr d d bc M kk n pe by rw[<-e3,<-Xp,KL.o];exact CK.o);rw[e3]at PS;clear e3 CK;obtain⟨TE,be⟩:=pe;have b1:=CE.o.boxA.cell 0;simp only[aP,aQ]at b1;have CN:=aA CE.o.newFlag;have XN:=aA (Box.new wr #[.bool be] 4);go_wp2
    go_roundw
    case rel=>exact⟨wr.heap.size,(TE,be),rfl,CN,aA PS.o.inv,aA (λe=>by
     simp only at e;subst e;obtain⟨h1,h2⟩:=PS.o.same rfl;injection h1 with h1 _;subst h1;exact h2)⟩
    rw[MQ.o,TJ CN.o.mat CN.o.len];have e1:TU (.pointer wr) (wr.alloc (.cells #[.bool be] 4))=.bool be:=by
     have:=XN.o.cell 0;simp only[aP,aQ]at this;simp[TU,this]
    have e2:TU (.pointer M) wp=.bool true:=by
     have:=J.o.boxA.cell 0;simp only[aP,aQ]at this;simp[TU,this]
    rw[e1,e2];cases be
    .obtain⟨h1,_⟩:=PS.o.same rfl;injection h1 with h1 _;subst h1;simp[Ec]
    have:=PS.o.new rfl;simp[Ec]at this ⊢;exact this
   have i4:(kk:Int)<(k:Int):=by omega
   have a6:=aA (show kk<tr.length+1 by rw[KL.o];exact L);have g5:=aA (show xZ d wr d d bc M k n (stA s.arcs (atI (jU ⟨P,ts⟩)) tr n (F,false) kk 0) by rw[Vs];exact CK.o);obtain⟨s0,s1⟩:=(X1.o.keep CK.o.below).two;clear CK;go_wp2
   clear s0 s1;go_loopw [93] (λv wr=>∃q:Nat,q<=m/\v=q/\Hid (xZ d wr d d bc M k n (stA s.arcs (atI (jU ⟨P,ts⟩)) tr n (F,false) kk q))) (λv _=>m-(intOf v).toNat)
   case atStart=>exact⟨0,aL _,rfl,g5⟩
   clear g5;obtain⟨q,hq,rfl,CA⟩:=hrel;by_cases k2:q<m
   rotate_left
   .obtain rfl:q=m:=by omega
    have g6:=aA (show xZ d wr d d bc M k n (stM s.arcs (atI (jU ⟨P,ts⟩)) tr n (F,false) kk 0) by rw[Vu,HM.o];exact CA.o);obtain⟨s0,s1⟩:=(X1.o.keep CA.o.below).two;clear CA;go_wp2
    clear s0 s1;go_loopw [154] (λv wr=>∃mm:Nat,mm<=n/\v=mm/\Hid (xZ d wr d d bc M k n (stM s.arcs (atI (jU ⟨P,ts⟩)) tr n (F,false) kk mm))) (λv _=>n-(intOf v).toNat)
    case atStart=>exact⟨0,aL _,rfl,g6⟩
    clear g6;obtain⟨mm,k3,rfl,CM⟩:=hrel;by_cases a5:mm<n
    rotate_left
    .obtain rfl:mm=n:=by omega
     have CF:=aA (show xZ d wr d d bc M k mm (stK s.arcs (atI (jU ⟨P,ts⟩)) tr mm (F,false) (kk+1)) by rw[<-Vw];exact CM.o);go_wp2
     go_roundw
     case rel=>exact⟨kk+1,by omega,by go_num,CF⟩
     simp[intOf];omega
    have j0:(mm:Int)<(n:Int):=by omega
    have NX:=aA (Vv (ars:=s.arcs) (lb:=atI (jU ⟨P,ts⟩)) (tr:=tr) (n:=n) (p0:=(F,false)) kk mm);have Y:=aA (Zs (p0:=(F,false)) Z.o CI.o a6.o k3);obtain⟨pM,g7⟩:=aK (stM s.arcs (atI (jU ⟨P,ts⟩)) tr n (F,false) kk mm);rw[g7]at NX Y CM;clear g7;by_cases a3:kk<l
    rotate_left
    .have a9:¬(kk:Int)<(l:Int):=by omega
     have E1:=aA (show stM s.arcs (atI (jU ⟨P,ts⟩)) tr n (F,false) kk (mm+1)=pM by
      rw[NX.o];unfold edM;rw[aD (by rw[GL.o];exact a3)];rfl)
     go_wp2
     go_roundw
     case rel=>exact⟨mm+1,by omega,by go_num,aA (by rw[E1.o];exact CM.o)⟩
     simp[intOf];omega
    have a9:(kk:Int)<(l:Int):=by omega
    obtain⟨br,rr,e4,S,z⟩:=CM.o.mat.get (k:=kk) (by rw[CM.o.len];exact L);obtain⟨x,B⟩:∃x,rr[mm]?=some x:=⟨_,aV (by rw[z.len];exact a5)⟩;have AX:=aA (xX e4 B);have D:=Y.o.low kk mm a6.o a5;rw[AX.o]at D;unfold far at D;have b2:kk+1<k:=by have:=d4.out;omega
    have e5:IntKind.i64.wrap ((kk:Int)+1)=((kk+1:Nat):Int):=by simp[IntKind.wrap,IntKind.bits,IntKind.signed];omega
    have k4:IntKind.i64.wrap (x+1)=x+1:=by simp[IntKind.wrap,IntKind.bits,IntKind.signed];omega
    have x0:=z.at B;have u:=CM.o.boxC.cell 0;simp only[aP,aQ]at u;have E1:=aA (show stM s.arcs (atI (jU ⟨P,ts⟩)) tr n (F,false) kk (mm+1)=Qf pM (kk+1) mm (x+1) by
     rw[NX.o];unfold edM;rw[aG (by rw[GL.o];exact a3)];show tO pM ⟨kk,mm,kk+1,mm,1⟩=_
     unfold tO;simp only;rw[AX.o])
    clear z B e4 D;go_wp2_with fail
    have b3:((kk:Int)+1)=((kk+1:Nat):Int):=by omega
    rw[b3];clear b3;(with_reducible refine(r8 CM.o b2 a5 (x+1)).mono ?_)
    rintro e g8 ⟨rfl,b4,_⟩;have e6:=aA b4;clear b4 x0 u S e5 k4 b2;go_wp2
    go_roundw
    case rel=>exact⟨mm+1,by omega,by go_num,aA (by rw[E1.o];exact e6.o)⟩
    simp[intOf];omega
   have m7:(q:Int)<(m:Int):=by omega
   have Y:=aA (Yy (p0:=(F,false)) Z.o CI.o a6.o q);obtain⟨bl,m8,a,rfl,n5,ha,r0,r1,r2,_⟩:=qD.get (Sl.keep qC.kept (Sl.keep qC.kept A1.o i0.o) CA.o.below) k2;have I:=aS ha.o;obtain⟨f,ef,hf⟩:=BL (show Inn n a.from_ by rw[<-HN.o];exact T.o.from_ a I);obtain⟨t,et,ht⟩:=BL (show Inn n a.to_ by rw[<-HN.o];exact T.o.to_ a I);obtain⟨r,er,hr⟩:=BL (show Inn n0 a.tran by rw[<-TL.o];exact T.o.tran a I);have k5:=T.o.label a I;have NX:=aA (Vt (lb:=atI (jU ⟨P,ts⟩)) (tr:=tr) (n:=n) (p0:=(F,false)) (k:=kk) ha.o);obtain⟨pA,g9⟩:=aK (stA s.arcs (atI (jU ⟨P,ts⟩)) tr n (F,false) kk q);rw[g9]at NX Y CA;clear g9;rw[ef]at r0;rw[er]at r1;rw[et]at r2;have bb:=aF wr (.cells #[f,r,t] 114);have WA:=aA (Box.new wr #[f,r,t] 114);have CB:=aA (CA.o.keep bb);have k6:=aA (show wr.heap.size≠M from Nat.ne_of_gt CA.o.boxA.lt);have EF:=aA ef;have ET:=aA et;have ER:=aA er;have h0:=aA I;have HA:=aA ha.o;clear CA ef et er I ha;go_upto_region 30 with fail
   clear bb r0 r1 r2;generalize wr.alloc (.cells #[f,r,t] 114)=u0 at *
   generalize wr.heap.size=bx at *
   have BB:=aA (B2.o.trans (CB.o.below.mono B2.o.size));obtain⟨t0,t1,t2⟩:=WA.o.three;obtain⟨a0,a1⟩:=(X0.o.keep BB.o).two;obtain⟨bt,l4,t',n6,n7,n9,o1,o2,o3,rfl,o4,h4,h5,_,_,_,_,_,_⟩:=(H.o.keep BB.o).get hr;have e4:(r:Int)<(n0:Int):=by omega
   obtain⟨E,b5⟩:=aK (t'.label);have e7:atI (jU ⟨P,ts⟩) a.tran=E:=by unfold atI jU;rw[ER.o,d9,cJ,dF,h4.o,<-b5];rfl
   rw[b5]at h5;rw[e7]at k5;have LB:=aA e7;clear b5 e7 h4;go_upto_region 31 with fail
   clear t0 t1 t2 a0 a1 h5;obtain⟨br,rr,c6,S,z⟩:=CB.o.mat.get (k:=kk) (by rw[CB.o.len];exact L);obtain⟨x,B⟩:∃x,rr[f]?=some x:=⟨_,aV (by rw[z.len];exact hf)⟩;have AX:=aA (xX c6 B);have D:=Y.o.low kk f a6.o hf;rw[AX.o]at D;unfold far at D;have o5:(f:Int)<(n:Int):=by omega
   obtain⟨W,hW⟩:∃W:Int,min E 1=W:=⟨_,rfl⟩;have o6:W<=1:=by omega
   have o7:0<=W:=by omega
   have k7:IntKind.i64.wrap (x+W)=x+W:=by simp[IntKind.wrap,IntKind.bits,IntKind.signed];omega
   have dr:=(aH u0 u0).drew;have CD:=aA (CB.o.keep dr);have WD:=aA (WA.o.keep dr);have x0:=(z.keep dr).at B;have a2:u0.drew.cell? ⟨d.heap.size,kk,none⟩=some (.slice br n n):=S;have u:=CD.o.boxC.cell 0;simp only[aP,aQ]at u;obtain⟨t0,t1,t2⟩:=WD.o.three;clear S z B c6 CB WA dr;refine aN 15 (.takes [0,1,2,3,4,5,6,7,8,9,10,11,12,13,14] (.fin 15 .done)) (λw'=>w'.cell? bx=some (.int .i64 f)/\w'.cell? ⟨bx,2,none⟩=some (.int .i64 t)/\w'.cell? bc=some (.slice d k k)/\w'.cell? ⟨d.heap.size,kk,none⟩=some (.slice br n n)/\w'.cell? ⟨br,f,none⟩=some (.int .i64 x)) (by kernel_rfl) (by kernel_rfl) (by kernel_rfl) (λ_ _ _ _ _ h=>h) ⟨t0,t2,u,a2,x0⟩ (λhH=>?_);simp only[Scr.takes];clear t0 t1 t2 u a2 x0;generalize u0.drew=u1 at *
   iterate 15
    refine aM (v:=?_) rfl (by rfl) hH (λw' d5=>?_) ?_
    rotate_left
    ·(go_simp;try with_reducible rfl)
    try simp only[aC]
   refine cH rfl (λKf C=>?_);go_simp
   (with_reducible refine(r8 CD.o L ht (x+W)).mono ?_)
   rintro e w9 ⟨rfl,c9,h6⟩;have h7:Qf pA kk t (x+W)=tO pA ⟨kk,f,kk,t,min E 1⟩:=by unfold tO;simp only;rw[AX.o,hW]
   have C9:=aA (show xZ d w9 d d bc M k n (tO pA ⟨kk,f,kk,t,min E 1⟩) by rw[<-h7];exact c9);have W9:=aA (h6 bx _ _ WD.o (by decide) k6.o);have E1:=aA (show Jk (atI (jU ⟨P,ts⟩)) tr kk a=false->stA s.arcs (atI (jU ⟨P,ts⟩)) tr n (F,false) kk (q+1)=tO pA ⟨kk,f,kk,t,min E 1⟩from λhh=>by
    rw[NX.o];unfold edA;rw[hh,EF.o,ET.o,LB.o,d9,d9];rfl)
   have E2:=aA (show Jk (atI (jU ⟨P,ts⟩)) tr kk a=true->stA s.arcs (atI (jU ⟨P,ts⟩)) tr n (F,false) kk (q+1)=tO (tO pA ⟨kk,f,kk,t,min E 1⟩) ⟨kk,f,kk+1,t,0⟩from λhh=>by
    rw[NX.o];unfold edA;rw[hh,EF.o,ET.o,LB.o,d9,d9];rfl)
   have l8:=aA (Zt Z.o Y.o (e:=⟨kk,f,kk,t,min E 1⟩) (mY.2 ⟨kk,a6.o,.inl ⟨a,h0.o,by
    unfold edA;rw[EF.o,ET.o,LB.o,d9,d9];exact List.mem_cons_self⟩⟩))
   clear c9 h6 h7;refine C.out _ _ ?_;clear C;refine cE ?_;clear hH CD WD Y NX k7 D AX;have B9:=aA (B2.o.trans (C9.o.below.mono B2.o.size));by_cases a3:kk<l
   rotate_left
   .have a9:¬(kk:Int)<(l:Int):=by omega
    have NH:=aA (show Jk (atI (jU ⟨P,ts⟩)) tr kk a=false by
     rw[<-Bool.not_eq_true,pN,GL.o];rintro⟨h1,_,_⟩;exact a3 h1)
    have NO:=aA (E1.o NH.o);go_wp2
    go_roundw
    case rel=>exact⟨q+1,by omega,by go_num,aA (by rw[NO.o];exact C9.o)⟩
    simp[intOf];omega
   have a9:(kk:Int)<(l:Int):=by omega
   obtain⟨bq,l9,y,rfl,o8,hy,qy⟩:=(G.o.keep B9.o).get a3;by_cases b6:0<E
   rotate_left
   .have NH:=aA (show Jk (atI (jU ⟨P,ts⟩)) tr kk a=false by
     rw[<-Bool.not_eq_true,pN,LB.o];rintro⟨_,h2,_⟩;exact b6 h2)
    clear hy;have NO:=aA (E1.o NH.o);go_wp2
    go_roundw
    case rel=>exact⟨q+1,by omega,by go_num,aA (by rw[NO.o];exact C9.o)⟩
    simp[intOf];omega
   by_cases b9:y=E
   rotate_left
   .have o9:(y==E)=false:=by simpa using b9
    have NH:=aA (show Jk (atI (jU ⟨P,ts⟩)) tr kk a=false by
     rw[<-Bool.not_eq_true,pN,LB.o,hy.o];rintro⟨_,_,h3⟩;injection h3 with h3;exact b9 h3)
    clear hy;have NO:=aA (E1.o NH.o);go_wp2
    go_roundw
    case rel=>exact⟨q+1,by omega,by go_num,aA (by rw[NO.o];exact C9.o)⟩
    simp[intOf];omega
   have k8:=aA (E2.o (pN.2 ⟨by rw[GL.o];exact a3,by rw[LB.o];exact b6,by rw[LB.o,<-b9];exact hy.o⟩));subst b9;clear hy;go_upto_region 33 with fail
   clear qy;obtain⟨e8,k9,c7,S,z⟩:=C9.o.mat.get (k:=kk) (by rw[C9.o.len];exact L);obtain⟨x2,B⟩:∃x,k9[f]?=some x:=⟨_,aV (by rw[z.len];exact hf)⟩;have AX:=aA (xX c7 B);have b2:kk+1<k:=by have:=d4.out;omega
   have e5:IntKind.i64.wrap ((kk:Int)+1)=((kk+1:Nat):Int):=by simp[IntKind.wrap,IntKind.bits,IntKind.signed];omega
   have dr:=(aH w9 w9).drew;have CD:=aA (C9.o.keep dr);have WD:=aA (W9.o.keep dr);have x0:=(z.keep dr).at B;have a2:w9.drew.cell? ⟨d.heap.size,kk,none⟩=some (.slice e8 n n):=S;have u:=CD.o.boxC.cell 0;simp only[aP,aQ]at u;obtain⟨t0,t1,t2⟩:=WD.o.three;clear S z B c7 C9 W9 dr;refine aN 13 (.takes [0,1,2,3,4,5,6,7,8,9,10,11,12] (.fin 13 .done)) (λw'=>w'.cell? bx=some (.int .i64 f)/\w'.cell? ⟨bx,2,none⟩=some (.int .i64 t)/\w'.cell? bc=some (.slice d k k)/\w'.cell? ⟨d.heap.size,kk,none⟩=some (.slice e8 n n)/\w'.cell? ⟨e8,f,none⟩=some (.int .i64 x2)) (by kernel_rfl) (by kernel_rfl) (by kernel_rfl) (λ_ _ _ _ _ h=>h) ⟨t0,t2,u,a2,x0⟩ (λhH=>?_);simp only[Scr.takes];clear t0 t1 t2 u a2 x0;generalize w9.drew=v1 at *
   iterate 13
    refine aM (v:=?_) rfl (by rfl) hH (λw' d5=>?_) ?_
    rotate_left
    ·(go_simp;try with_reducible rfl)
    try simp only[aC]
   refine cH rfl (λKf C=>?_);go_simp
   have b3:((kk:Int)+1)=((kk+1:Nat):Int):=by omega
   rw[b3];clear b3;(with_reducible refine(r8 CD.o b2 ht x2).mono ?_)
   rintro e g8 ⟨rfl,b4,_⟩;have h8:Qf (tO pA ⟨kk,f,kk,t,min y 1⟩) (kk+1) t x2=tO (tO pA ⟨kk,f,kk,t,min y 1⟩) ⟨kk,f,kk+1,t,0⟩:=by
    show _=Qf (tO pA ⟨kk,f,kk,t,min y 1⟩) (kk+1) t (atT (tO pA ⟨kk,f,kk,t,min y 1⟩).1 kk f+0)
    rw[AX.o,Int.add_zero]
   have e6:=aA (show xZ d g8 d d bc M k n (tO (tO pA ⟨kk,f,kk,t,min y 1⟩) ⟨kk,f,kk+1,t,0⟩) by rw[<-h8];exact b4);clear b4 h8;refine C.out _ _ ?_;clear C;refine cE ?_;clear hH CD WD AX e5 b2;go_wp2
   go_roundw
   case rel=>exact⟨q+1,by omega,by go_num,aA (by rw[k8.o];exact e6.o)⟩
   simp[intOf];omega
 .have CP:=aA (Az (tr:=tr) HR.o hk);have p1:(k==0)=false:=by simpa using hk
  go_wp2
  go_ret2
  exact⟨_,_,CP.o,rfl,BW.o⟩
