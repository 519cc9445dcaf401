/- Blocks: plain, and as they lie in memory; what is wrong with a block; the contracts of blocks.Wrong and JWrong. Conditions: the block reads as a tree. -/
import Derived.Test.YtgnljpnlolkalaaGreatBenchTellsK03
import Derived.Test.YtgnljpnlolkalaaGreatBenchTellsK02
set_option linter.all false
set_option maxRecDepth 100000
set_option maxHeartbeats 16000000
namespace Go.Proofs.YtgnljpnlolkalaaGreat
open Go.RowKit
def Wx:Nat->World->(Nat->Value)->bH->Prop
 | 0=>λ_ _ _=>False
 | d+1=>λw vs b=>vs 0=.int .i64 b.kind/\vs 1=.int .i64 b.label/\∃A n c,vs 2=.slice A n c/\Sl (Wx d) 3 w A n c b.kids
def Wx.kept:∀d,CU (Wx d)
 | 0=>λ_ _ _ _ _ h=>h
 | d+1=>λ_ _ _ _ a h=>by
  obtain⟨b,e,A,n,c,f,g⟩:=h;exact⟨b,e,A,n,c,f,g.keep (Wx.kept d) a⟩
abbrev pQ (d:Nat)(w:World)(A:OAd)(n c:Nat)(l:List bH):Prop:=Sl (Wx d) 3 w A n c l
def pQ.keep {d:Nat}{w w':World}{A:OAd}{n c:Nat}{l:List bH}(h:pQ d w A n c l)(a:Below w w w'):pQ d w' A n c l:=Sl.keep (Wx.kept d) h a
def pQ.get {d:Nat}{w:World}{A:OAd}{n c k:Nat}{l:List bH}(h:pQ d w A n c l)(i:k<n) :
  ∃b a kd lb ks B m e d',d=d'+1/\A=some ⟨b,a,none⟩/\b<w.heap.size/\Hid (l[k]?=some (.mk kd lb ks))/\w.cell? ⟨b,a+k*3,none⟩=some (.int .i64 kd)/\w.cell? ⟨b,a+k*3+1,none⟩=some (.int .i64 lb)/\w.cell? ⟨b,a+k*3+2,none⟩=some (.slice B m e)/\Hid (pQ d' w B m e ks):=by
 obtain⟨b,a,x,vs,j,o,p,f,g⟩:=Sl.get h i;match d,g with
 | d'+1,g =>
  obtain⟨e0,q,B,m,e,r,s⟩:=g;obtain⟨kd,lb,ks⟩:=x;refine⟨b,a,kd,lb,ks,B,m,e,d',rfl,j,o,p, ?_, ?_, ?_,s⟩
  .have:=f 0 (by omega);rw[e0]at this;simpa [bH.kind] using this
  .have:=f 1 (by omega);rw[q]at this;simpa [bH.label,Nat.add_assoc] using this
  have:=f 2 (by omega);rw[r]at this;simpa [Nat.add_assoc] using this
def rM (bn bc:Nat):Value:=.func (.func 70) #[] #[.pointer (some ⟨bn,0,none⟩),.pointer (some ⟨bc,0,none⟩)]
def XW (r:Nat×Int)(B:Nat)(w0:World)(bn bc:Nat)(e:Ending)(w':World):Prop:=e=.returned (.int .i64 r.2)/\Box w' bn 3 #[.int .i64 r.1]/\Box w' bc 58 #[rM bn bc]/\Below B w0 w'
def JU {w0:World}{bn bc:Nat}(g1:w0.heap.size<=bn)(g3:bn≠bc) :
  ∀(f d:Nat) (kd lb:Int) (A:OAd) (n c had:Nat) (ks:List bH) (w:World),41<=had+f->had<=40->pQ d w0 A n c ks->Box w bn 3 #[had]->Box w bc 58 #[rM bn bc]->Below w0 w0 w ->
   Calls Tryz.prog 70 #[.agg #[kd,lb,.slice A n c],.pointer bn,.pointer bc] w (XW (bY f (.mk kd lb ks) had) w0 w0 bn bc):=by
 have b5:∀(args:Array Value) (w:World),Sem.run Tryz.prog (callFunc 70 args) w=.ok (.enter 70 args) w:=λargs w=>by kernel_rfl
 intro f;induction f with
 | zero =>
  intro d kd lb A n c had ks w hf b6 hK hN hC hB;exact absurd hf (by omega)
 | succ f ih =>
  intro d kd lb A n c had ks w hf b6 hK hN hC hB;obtain⟨B,D⟩:∃B:Nat,had+1=B:=⟨_,rfl⟩;have c5:(had:Int)+1=(B:Int):=by omega
  have HL:=aA (show ks.length=n from hK.len);have I:=aA (show 40<had+1->bY (f+1) (.mk kd lb ks) had=(had+1,4)from λh=>by rw[bY,aG h]);have E:=aA (show ¬40<had+1->cU kd lb n≠0->bY (f+1) (.mk kd lb ks) had=(had+1,cU kd lb n)from λh g=>by rw[bY,aD h];simp only[bH.kind,bH.label,bH.kids,HL.o];rw[aG g]);have C:=aA (show ¬40<had+1->cU kd lb n=0->bY (f+1) (.mk kd lb ks) had=ks.foldl (bU (bY f)) (had+1,0)from λh g=>by rw[bY,aD h];simp only[bH.kind,bH.label,bH.kids,HL.o];rw[aD (by rw[g];simp)]);have bb:=aF w (.cells #[kd,lb,.slice A n c] 35);have BN:=aA (hN.keep bb);have BC:=aA (hC.keep bb);have BX:=aA (hB.trans (bb.mono hB.size));have BB:=aA (Box.new w #[kd,lb,.slice A n c] 35);have b7:=aA (show w.heap.size≠bn from λe=>by have:=hN.lt;omega);have G:=aA (show w0.heap.size<=bn/\bn≠bc/\w0.heap.size<=w.heap.size from⟨g1,g3,hB.size⟩);have c6:=hK.small;have K:=aA hK;clear hK hN hC hB bb g1 g3;have IH:=aA ih;clear ih;go_enter Tryz.func70,Tryz.ntmps70
  go_upto_region 1 with fail
  generalize w.alloc (.cells #[kd,lb,.slice A n c] 35)=u at *
  generalize w.heap.size=bb at *
  have x0:=BN.o.cell 0;have f0:=BN.o.frozen 0;simp only[aP,aQ]at x0;have x:=aA (show Box (u.setCell bn (.int .i64 (B:Int))) bn 3 #[.int .i64 (B:Int)] by simpa using BN.o.set 0 (.int .i64 (B:Int)));have t:=aA (BC.o.other (a:=⟨bn,0,none⟩) (.int .i64 (B:Int)) G.o.2.1.symm);have k:=aA (BX.o.setCell (p:=⟨bn,0,none⟩) G.o.1 (.int .i64 (B:Int)));have B2:=aA (BB.o.other (a:=⟨bn,0,none⟩) (.int .i64 (B:Int)) b7.o);clear BN BC BX BB;go_upto_region 2 with fail
  clear x0 f0;generalize u.setCell bn (.int .i64 (B:Int))=u2 at *
  have x0:=x.o.cell 0;simp only[aP,aQ]at x0;obtain⟨U,V,W⟩:=B2.o.three;by_cases b9:40<had+1
  .have b:=aA (I.o b9);have a5:(40:Int)<(B:Int):=by omega
   go_wp2
   go_ret
   rw[b.o];exact⟨by first|rfl|simp,by rw[D];exact x.o,t.o,k.o⟩
  have a5:¬(40:Int)<(B:Int):=by omega
  by_cases a6:kd<1
  .have q:=aA (show cU kd lb n=5 by rw[cU,aG (.inl a6)]);have b:=aA (E.o (by omega) (by rw[q.o];decide));rw[q.o]at b;go_wp2
   go_ret
   rw[b.o];exact⟨by first|rfl|simp,by rw[D];exact x.o,t.o,k.o⟩
  by_cases a9:6<kd
  .have q:=aA (show cU kd lb n=5 by rw[cU,aG (.inr a9)]);have b:=aA (E.o (by omega) (by rw[q.o];decide));rw[q.o]at b;go_wp2
   go_ret
   rw[b.o];exact⟨by first|rfl|simp,by rw[D];exact x.o,t.o,k.o⟩
  have hk:kd=1∨kd=2∨kd=3∨kd=4∨kd=5∨kd=6:=by omega
  clear a6 a9;rcases hk with rfl|rfl|rfl|rfl|rfl|rfl
  .by_cases J:n=0
   .have H:¬(0:Int)<(n:Int):=by omega
    have q:=aA (show cU 1 lb n=0 by unfold cU;simp <;> omega);subst J;have b:=aA (C.o (by omega) q.o);rw[D]at b;clear I E C q;go_upto_region 12 with fail
    clear x0 U V W;obtain⟨U,V,W⟩:=B2.o.three;go_wp2
    clear U V W;go_loopw [66] (λv wr=>∃(i j:Nat),i<=0/\v=i/\had+1<=j/\j<=40/\Hid ((ks.take i).foldl (bU (bY f)) (B,0)=(j,0))/\Hid (Box wr bn 3 #[j])/\Hid (Box wr bc 58 #[rM bn bc])/\Hid (Below w0 w0 wr)) (λv _=>0-(intOf v).toNat)
    case atStart=>exact⟨0,B,aL _,rfl,by omega,by omega,rfl,x,t,k⟩
    clear x t k B2;obtain⟨i,j,hi,rfl,a2,Q,X,x,t,k⟩:=hrel;by_cases L:i<0
    .exact absurd L (by omega)
    obtain rfl:i=0:=by omega
    have R:=aA (show ks.foldl (bU (bY f)) (B,0)=(j,0) by have:=X.o;rwa[aW (by rw[HL.o];exact aB _)]at this);go_wp2
    go_ret
    rw[b.o,R.o];exact⟨by first|rfl|simp,x.o,t.o,k.o⟩
   have H:(0:Int)<(n:Int):=by omega
   have b3:¬(n:Int)=0:=by omega
   have q:=aA (show cU 1 lb n=1 by unfold cU;simp <;> omega);have b:=aA (E.o (by omega) (by rw[q.o];decide));rw[q.o]at b;go_wp2
   go_ret
   rw[b.o];exact⟨by first|rfl|simp,by rw[D];exact x.o,t.o,k.o⟩
  .by_cases c7:lb<1
   .skip
    have q:=aA (show cU 2 lb n=2 by unfold cU;simp <;> omega);have b:=aA (E.o (by omega) (by rw[q.o];decide));rw[q.o]at b;go_wp2
    go_ret
    rw[b.o];exact⟨by first|rfl|simp,by rw[D];exact x.o,t.o,k.o⟩
   by_cases c8:26<lb
   .skip
    have q:=aA (show cU 2 lb n=2 by unfold cU;simp <;> omega);have b:=aA (E.o (by omega) (by rw[q.o];decide));rw[q.o]at b;go_wp2
    go_ret
    rw[b.o];exact⟨by first|rfl|simp,by rw[D];exact x.o,t.o,k.o⟩
   by_cases J:n=0
   .have H:¬(0:Int)<(n:Int):=by omega
    have q:=aA (show cU 2 lb n=0 by unfold cU;simp <;> omega);subst J;have b:=aA (C.o (by omega) q.o);rw[D]at b;clear I E C q;go_upto_region 12 with fail
    clear x0 U V W;obtain⟨U,V,W⟩:=B2.o.three;go_wp2
    clear U V W;go_loopw [66] (λv wr=>∃(i j:Nat),i<=0/\v=i/\had+1<=j/\j<=40/\Hid ((ks.take i).foldl (bU (bY f)) (B,0)=(j,0))/\Hid (Box wr bn 3 #[j])/\Hid (Box wr bc 58 #[rM bn bc])/\Hid (Below w0 w0 wr)) (λv _=>0-(intOf v).toNat)
    case atStart=>exact⟨0,B,aL _,rfl,by omega,by omega,rfl,x,t,k⟩
    clear x t k B2;obtain⟨i,j,hi,rfl,a2,Q,X,x,t,k⟩:=hrel;by_cases L:i<0
    .exact absurd L (by omega)
    obtain rfl:i=0:=by omega
    have R:=aA (show ks.foldl (bU (bY f)) (B,0)=(j,0) by have:=X.o;rwa[aW (by rw[HL.o];exact aB _)]at this);go_wp2
    go_ret
    rw[b.o,R.o];exact⟨by first|rfl|simp,x.o,t.o,k.o⟩
   have H:(0:Int)<(n:Int):=by omega
   have b3:¬(n:Int)=0:=by omega
   have q:=aA (show cU 2 lb n=1 by unfold cU;simp <;> omega);have b:=aA (E.o (by omega) (by rw[q.o];decide));rw[q.o]at b;go_wp2
   go_ret
   rw[b.o];exact⟨by first|rfl|simp,by rw[D];exact x.o,t.o,k.o⟩
  .by_cases J:n=0
   .subst J;have q:=aA (show cU 3 lb 0=1 by unfold cU;simp);have b:=aA (E.o (by omega) (by rw[q.o];decide));rw[q.o]at b;go_wp2
    go_ret
    rw[b.o];exact⟨by first|rfl|simp,by rw[D];exact x.o,t.o,k.o⟩
   have H:¬(n:Int)=0:=by omega
   have q:=aA (show cU 3 lb n=0 by unfold cU;simp <;> omega);have b:=aA (C.o (by omega) q.o);rw[D]at b;clear I E C q;go_upto_region 12 with fail
   clear x0 U V W;obtain⟨U,V,W⟩:=B2.o.three;go_wp2
   clear U V W;go_loopw [66] (λv wr=>∃(i j:Nat),i<=n/\v=i/\had+1<=j/\j<=40/\Hid ((ks.take i).foldl (bU (bY f)) (B,0)=(j,0))/\Hid (Box wr bn 3 #[j])/\Hid (Box wr bc 58 #[rM bn bc])/\Hid (Below w0 w0 wr)) (λv _=>n-(intOf v).toNat)
   case atStart=>exact⟨0,B,aL _,rfl,by omega,by omega,rfl,x,t,k⟩
   clear x t k B2;obtain⟨i,j,hi,rfl,a2,Q,X,x,t,k⟩:=hrel;by_cases L:i<n
   rotate_left
   .obtain rfl:i=n:=by omega
    have R:=aA (show ks.foldl (bU (bY f)) (B,0)=(j,0) by have:=X.o;rwa[aW (by rw[HL.o];exact aB _)]at this);go_wp2
    go_ret
    rw[b.o,R.o];exact⟨by first|rfl|simp,x.o,t.o,k.o⟩
   have a3:(i:Int)<(n:Int):=by omega
   obtain⟨bl,a4,m,o,y,Y,Z,e',d',rfl,rfl,F,hx,p0,p1,p2,K'⟩:=K.o.get L;have q0:=(k.o.cell (p:=⟨bl,_,none⟩) F).trans p0;have q1:=(k.o.cell (p:=⟨bl,_,none⟩) F).trans p1;have q2:=(k.o.cell (p:=⟨bl,_,none⟩) F).trans p2;have S:=aA (jA (g:=bY f) (s:=(B,0)) hx.o);rw[X.o]at S;have TB:=aA (λh=>kH (g:=bY f) (s:=(B,0)) (l:=ks) (i:=i+1) h);obtain⟨r,T⟩:=aK (bY f (.mk m o y) j);have M:bU (bY f) (j,0) (.mk m o y)=r:=by rw[bU,aG rfl];exact T
   rw[M]at S;rw[S.o]at TB;have GR:=aA (gG f (.mk m o y) j);rw[T]at GR;have z:=aF wr (.cells #[m,o,.slice Y Z e'] 35);have N3:=aA (x.o.keep z);have C3:=aA (t.o.keep z);have X3:=aA (k.o.trans (z.mono k.o.size));have CI:=aA (IH.o d' m o Y Z e' j y (wr.alloc (.cells #[m,o,.slice Y Z e'] 35)) (by omega) Q K'.o N3.o C3.o X3.o);rw[T]at CI;have xc:=t.o.cell 0;have a0:=C3.o.cell 0;simp only[aP,aQ]at xc a0;clear p0 p1 p2 T M z hx;obtain⟨rh,re⟩:=r;by_cases N:re=0
   .subst N;obtain⟨a1,O⟩:=GR.o rfl;simp only at a1 O;go_wp2_with (refine CI.o.mono ?_;rintro e w4 ⟨rfl,n4,c4,P⟩;have N4:=aA n4;have C4:=aA c4;have X4:=aA P;clear n4 c4 P)
    go_roundw
    case rel=>exact⟨i+1,rh,by omega,by go_num,by omega,O,S,N4,C4,X4⟩
    simp[intOf];omega
   have R:=aA (TB.o N);go_wp2_with (refine CI.o.mono ?_;rintro e w4 ⟨rfl,n4,c4,P⟩;have N4:=aA n4;have C4:=aA c4;have X4:=aA P;clear n4 c4 P)
   go_ret
   rw[b.o,R.o];exact⟨by first|rfl|simp,N4.o,C4.o,X4.o⟩
  .by_cases J:n=0
   .subst J;have q:=aA (show cU 4 lb 0=1 by unfold cU;simp);have b:=aA (E.o (by omega) (by rw[q.o];decide));rw[q.o]at b;go_wp2
    go_ret
    rw[b.o];exact⟨by first|rfl|simp,by rw[D];exact x.o,t.o,k.o⟩
   have H:¬(n:Int)=0:=by omega
   have q:=aA (show cU 4 lb n=0 by unfold cU;simp <;> omega);have b:=aA (C.o (by omega) q.o);rw[D]at b;clear I E C q;go_upto_region 12 with fail
   clear x0 U V W;obtain⟨U,V,W⟩:=B2.o.three;go_wp2
   clear U V W;go_loopw [66] (λv wr=>∃(i j:Nat),i<=n/\v=i/\had+1<=j/\j<=40/\Hid ((ks.take i).foldl (bU (bY f)) (B,0)=(j,0))/\Hid (Box wr bn 3 #[j])/\Hid (Box wr bc 58 #[rM bn bc])/\Hid (Below w0 w0 wr)) (λv _=>n-(intOf v).toNat)
   case atStart=>exact⟨0,B,aL _,rfl,by omega,by omega,rfl,x,t,k⟩
   clear x t k B2;obtain⟨i,j,hi,rfl,a2,Q,X,x,t,k⟩:=hrel;by_cases L:i<n
   rotate_left
   .obtain rfl:i=n:=by omega
    have R:=aA (show ks.foldl (bU (bY f)) (B,0)=(j,0) by have:=X.o;rwa[aW (by rw[HL.o];exact aB _)]at this);go_wp2
    go_ret
    rw[b.o,R.o];exact⟨by first|rfl|simp,x.o,t.o,k.o⟩
   have a3:(i:Int)<(n:Int):=by omega
   obtain⟨bl,a4,m,o,y,Y,Z,e',d',rfl,rfl,F,hx,p0,p1,p2,K'⟩:=K.o.get L;have q0:=(k.o.cell (p:=⟨bl,_,none⟩) F).trans p0;have q1:=(k.o.cell (p:=⟨bl,_,none⟩) F).trans p1;have q2:=(k.o.cell (p:=⟨bl,_,none⟩) F).trans p2;have S:=aA (jA (g:=bY f) (s:=(B,0)) hx.o);rw[X.o]at S;have TB:=aA (λh=>kH (g:=bY f) (s:=(B,0)) (l:=ks) (i:=i+1) h);obtain⟨r,T⟩:=aK (bY f (.mk m o y) j);have M:bU (bY f) (j,0) (.mk m o y)=r:=by rw[bU,aG rfl];exact T
   rw[M]at S;rw[S.o]at TB;have GR:=aA (gG f (.mk m o y) j);rw[T]at GR;have z:=aF wr (.cells #[m,o,.slice Y Z e'] 35);have N3:=aA (x.o.keep z);have C3:=aA (t.o.keep z);have X3:=aA (k.o.trans (z.mono k.o.size));have CI:=aA (IH.o d' m o Y Z e' j y (wr.alloc (.cells #[m,o,.slice Y Z e'] 35)) (by omega) Q K'.o N3.o C3.o X3.o);rw[T]at CI;have xc:=t.o.cell 0;have a0:=C3.o.cell 0;simp only[aP,aQ]at xc a0;clear p0 p1 p2 T M z hx;obtain⟨rh,re⟩:=r;by_cases N:re=0
   .subst N;obtain⟨a1,O⟩:=GR.o rfl;simp only at a1 O;go_wp2_with (refine CI.o.mono ?_;rintro e w4 ⟨rfl,n4,c4,P⟩;have N4:=aA n4;have C4:=aA c4;have X4:=aA P;clear n4 c4 P)
    go_roundw
    case rel=>exact⟨i+1,rh,by omega,by go_num,by omega,O,S,N4,C4,X4⟩
    simp[intOf];omega
   have R:=aA (TB.o N);go_wp2_with (refine CI.o.mono ?_;rintro e w4 ⟨rfl,n4,c4,P⟩;have N4:=aA n4;have C4:=aA c4;have X4:=aA P;clear n4 c4 P)
   go_ret
   rw[b.o,R.o];exact⟨by first|rfl|simp,N4.o,C4.o,X4.o⟩
  .by_cases J:n=0
   .subst J;have q:=aA (show cU 5 lb 0=1 by unfold cU;simp);have b:=aA (E.o (by omega) (by rw[q.o];decide));rw[q.o]at b;go_wp2
    go_ret
    rw[b.o];exact⟨by first|rfl|simp,by rw[D];exact x.o,t.o,k.o⟩
   have H:¬(n:Int)=0:=by omega
   have q:=aA (show cU 5 lb n=0 by unfold cU;simp <;> omega);have b:=aA (C.o (by omega) q.o);rw[D]at b;clear I E C q;go_upto_region 12 with fail
   clear x0 U V W;obtain⟨U,V,W⟩:=B2.o.three;go_wp2
   clear U V W;go_loopw [66] (λv wr=>∃(i j:Nat),i<=n/\v=i/\had+1<=j/\j<=40/\Hid ((ks.take i).foldl (bU (bY f)) (B,0)=(j,0))/\Hid (Box wr bn 3 #[j])/\Hid (Box wr bc 58 #[rM bn bc])/\Hid (Below w0 w0 wr)) (λv _=>n-(intOf v).toNat)
   case atStart=>exact⟨0,B,aL _,rfl,by omega,by omega,rfl,x,t,k⟩
   clear x t k B2;obtain⟨i,j,hi,rfl,a2,Q,X,x,t,k⟩:=hrel;by_cases L:i<n
   rotate_left
   .obtain rfl:i=n:=by omega
    have R:=aA (show ks.foldl (bU (bY f)) (B,0)=(j,0) by have:=X.o;rwa[aW (by rw[HL.o];exact aB _)]at this);go_wp2
    go_ret
    rw[b.o,R.o];exact⟨by first|rfl|simp,x.o,t.o,k.o⟩
   have a3:(i:Int)<(n:Int):=by omega
   obtain⟨bl,a4,m,o,y,Y,Z,e',d',rfl,rfl,F,hx,p0,p1,p2,K'⟩:=K.o.get L;have q0:=(k.o.cell (p:=⟨bl,_,none⟩) F).trans p0;have q1:=(k.o.cell (p:=⟨bl,_,none⟩) F).trans p1;have q2:=(k.o.cell (p:=⟨bl,_,none⟩) F).trans p2;have S:=aA (jA (g:=bY f) (s:=(B,0)) hx.o);rw[X.o]at S;have TB:=aA (λh=>kH (g:=bY f) (s:=(B,0)) (l:=ks) (i:=i+1) h);obtain⟨r,T⟩:=aK (bY f (.mk m o y) j);have M:bU (bY f) (j,0) (.mk m o y)=r:=by rw[bU,aG rfl];exact T
   rw[M]at S;rw[S.o]at TB;have GR:=aA (gG f (.mk m o y) j);rw[T]at GR;have z:=aF wr (.cells #[m,o,.slice Y Z e'] 35);have N3:=aA (x.o.keep z);have C3:=aA (t.o.keep z);have X3:=aA (k.o.trans (z.mono k.o.size));have CI:=aA (IH.o d' m o Y Z e' j y (wr.alloc (.cells #[m,o,.slice Y Z e'] 35)) (by omega) Q K'.o N3.o C3.o X3.o);rw[T]at CI;have xc:=t.o.cell 0;have a0:=C3.o.cell 0;simp only[aP,aQ]at xc a0;clear p0 p1 p2 T M z hx;obtain⟨rh,re⟩:=r;by_cases N:re=0
   .subst N;obtain⟨a1,O⟩:=GR.o rfl;simp only at a1 O;go_wp2_with (refine CI.o.mono ?_;rintro e w4 ⟨rfl,n4,c4,P⟩;have N4:=aA n4;have C4:=aA c4;have X4:=aA P;clear n4 c4 P)
    go_roundw
    case rel=>exact⟨i+1,rh,by omega,by go_num,by omega,O,S,N4,C4,X4⟩
    simp[intOf];omega
   have R:=aA (TB.o N);go_wp2_with (refine CI.o.mono ?_;rintro e w4 ⟨rfl,n4,c4,P⟩;have N4:=aA n4;have C4:=aA c4;have X4:=aA P;clear n4 c4 P)
   go_ret
   rw[b.o,R.o];exact⟨by first|rfl|simp,N4.o,C4.o,X4.o⟩
  by_cases J:n=2
  rotate_left
  .by_cases c0:n=0
   .subst c0;have q:=aA (show cU 6 lb 0=1 by unfold cU;simp);have b:=aA (E.o (by omega) (by rw[q.o];decide));rw[q.o]at b;go_wp2
    go_ret
    rw[b.o];exact⟨by first|rfl|simp,by rw[D];exact x.o,t.o,k.o⟩
   have H:¬(n:Int)=0:=by omega
   have b4:¬(n:Int)=2:=by omega
   have c9:((n:Int) != 2)=true:=by simpa using b4
   have q:=aA (show cU 6 lb n=1 by unfold cU;simp <;> omega);have b:=aA (E.o (by omega) (by rw[q.o];decide));rw[q.o]at b;go_wp2
   go_ret
   rw[b.o];exact⟨by first|rfl|simp,by rw[D];exact x.o,t.o,k.o⟩
  have H:(n:Int)=2:=by omega
  have q:=aA (show cU 6 lb n=0 by unfold cU;simp <;> omega);subst J;have b:=aA (C.o (by omega) q.o);rw[D]at b;clear I E C q;go_upto_region 12 with fail
  clear x0 U V W;obtain⟨U,V,W⟩:=B2.o.three;go_wp2
  clear U V W;go_loopw [66] (λv wr=>∃(i j:Nat),i<=2/\v=i/\had+1<=j/\j<=40/\Hid ((ks.take i).foldl (bU (bY f)) (B,0)=(j,0))/\Hid (Box wr bn 3 #[j])/\Hid (Box wr bc 58 #[rM bn bc])/\Hid (Below w0 w0 wr)) (λv _=>2-(intOf v).toNat)
  case atStart=>exact⟨0,B,aL _,rfl,by omega,by omega,rfl,x,t,k⟩
  clear x t k B2;obtain⟨i,j,hi,rfl,a2,Q,X,x,t,k⟩:=hrel;by_cases L:i<2
  rotate_left
  .obtain rfl:i=2:=by omega
   have R:=aA (show ks.foldl (bU (bY f)) (B,0)=(j,0) by have:=X.o;rwa[aW (by rw[HL.o];exact aB _)]at this);go_wp2
   go_ret
   rw[b.o,R.o];exact⟨by first|rfl|simp,x.o,t.o,k.o⟩
  have a3:(i:Int)<(2:Int):=by omega
  obtain⟨bl,a4,m,o,y,Y,Z,e',d',rfl,rfl,F,hx,p0,p1,p2,K'⟩:=K.o.get L;have q0:=(k.o.cell (p:=⟨bl,_,none⟩) F).trans p0;have q1:=(k.o.cell (p:=⟨bl,_,none⟩) F).trans p1;have q2:=(k.o.cell (p:=⟨bl,_,none⟩) F).trans p2;have S:=aA (jA (g:=bY f) (s:=(B,0)) hx.o);rw[X.o]at S;have TB:=aA (λh=>kH (g:=bY f) (s:=(B,0)) (l:=ks) (i:=i+1) h);obtain⟨r,T⟩:=aK (bY f (.mk m o y) j);have M:bU (bY f) (j,0) (.mk m o y)=r:=by rw[bU,aG rfl];exact T
  rw[M]at S;rw[S.o]at TB;have GR:=aA (gG f (.mk m o y) j);rw[T]at GR;have z:=aF wr (.cells #[m,o,.slice Y Z e'] 35);have N3:=aA (x.o.keep z);have C3:=aA (t.o.keep z);have X3:=aA (k.o.trans (z.mono k.o.size));have CI:=aA (IH.o d' m o Y Z e' j y (wr.alloc (.cells #[m,o,.slice Y Z e'] 35)) (by omega) Q K'.o N3.o C3.o X3.o);rw[T]at CI;have xc:=t.o.cell 0;have a0:=C3.o.cell 0;simp only[aP,aQ]at xc a0;clear p0 p1 p2 T M z hx;obtain⟨rh,re⟩:=r;by_cases N:re=0
  .subst N;obtain⟨a1,O⟩:=GR.o rfl;simp only at a1 O;go_wp2_with (refine CI.o.mono ?_;rintro e w4 ⟨rfl,n4,c4,P⟩;have N4:=aA n4;have C4:=aA c4;have X4:=aA P;clear n4 c4 P)
   go_roundw
   case rel=>exact⟨i+1,rh,by omega,by go_num,by omega,O,S,N4,C4,X4⟩
   simp[intOf];omega
  have R:=aA (TB.o N);go_wp2_with (refine CI.o.mono ?_;rintro e w4 ⟨rfl,n4,c4,P⟩;have N4:=aA n4;have C4:=aA c4;have X4:=aA P;clear n4 c4 P)
  go_ret
  rw[b.o,R.o];exact⟨by first|rfl|simp,N4.o,C4.o,X4.o⟩
