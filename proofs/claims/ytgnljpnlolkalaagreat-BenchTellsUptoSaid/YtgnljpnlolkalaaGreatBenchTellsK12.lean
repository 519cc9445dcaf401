/- The contracts of blocks.Wrong and JWrong. Conditions: the block reads as a tree. -/
import Derived.Test.YtgnljpnlolkalaaGreatBenchTellsK07
import Derived.Laws.EntriesVeiled
set_option linter.all false
set_option maxRecDepth 100000
set_option maxHeartbeats 16000000
namespace Go.Proofs.YtgnljpnlolkalaaGreat
open Go.RowKit
def Ip :
  ∀(f d:Nat) (kd lb:Int) (A:OAd) (n c had:Nat) (ks:List bH) (w:World),41<=had+f->had<=40->pQ d w A n c ks ->
   Calls Tryz.prog 105 #[.agg #[kd,lb,.slice A n c],had] w (λe w'=>e=.returned (.tuple #[.int .i64 (bY f (.mk kd lb ks) had).1,.int .i64 (bY f (.mk kd lb ks) had).2])/\Below w w w'):=by
 intro f;induction f with
 | zero =>
  intro d kd lb A n c had ks w hf a9 hK;exact absurd hf (by omega)
 | succ f ih =>
  intro d kd lb A n c had ks w hf a9 hK;obtain⟨y,t⟩:∃y:Nat,had+1=y:=⟨_,rfl⟩;have b5:(had:Int)+1=(y:Int):=by omega
  have HL:=aA (show ks.length=n from hK.len);have C:=aA (show 40<had+1->bY (f+1) (.mk kd lb ks) had=(had+1,4)from λh=>by rw[bY,aG h]);have u:=aA (show ¬40<had+1->cU kd lb n≠0->bY (f+1) (.mk kd lb ks) had=(had+1,cU kd lb n)from λh g=>by rw[bY,aD h];simp only[bH.kind,bH.label,bH.kids,HL.o];rw[aG g]);have q:=aA (show ¬40<had+1->cU kd lb n=0->bY (f+1) (.mk kd lb ks) had=ks.foldl (bU (bY f)) (had+1,0)from λh g=>by rw[bY,aD h];simp only[bH.kind,bH.label,bH.kids,HL.o];rw[aD (by rw[g];simp)]);have bb:=aF w (.cells #[kd,lb,.slice A n c] 35);have BB:=aA (Box.new w #[kd,lb,.slice A n c] 35);have x:=aA bb;have b6:=hK.small;have K:=aA (hK.keep bb);clear hK bb;have IH:=aA ih;clear ih;go_enter Tryz.func105,Tryz.ntmps105
  go_upto_region 1 with fail
  generalize w.alloc (.cells #[kd,lb,.slice A n c] 35)=u2 at *
  obtain⟨b0,b1,b2⟩:=BB.o.three;by_cases b3:40<had+1
  .have a:=aA (C.o b3);have a3:(40:Int)<(y:Int):=by omega
   go_wp2
   go_ret2
   rw[a.o];exact⟨by rw[t];first|rfl|simp,x.o⟩
  have a3:¬(40:Int)<(y:Int):=by omega
  by_cases a4:kd<1
  .have m:=aA (show cU kd lb n=5 by rw[cU,aG (.inl a4)]);have a:=aA (u.o (by omega) (by rw[m.o];decide));rw[m.o]at a;go_wp2
   go_ret2
   rw[a.o];exact⟨by rw[t];first|rfl|simp,x.o⟩
  by_cases a5:6<kd
  .have m:=aA (show cU kd lb n=5 by rw[cU,aG (.inr a5)]);have a:=aA (u.o (by omega) (by rw[m.o];decide));rw[m.o]at a;go_wp2
   go_ret2
   rw[a.o];exact⟨by rw[t];first|rfl|simp,x.o⟩
  have hk:kd=1∨kd=2∨kd=3∨kd=4∨kd=5∨kd=6:=by omega
  clear a4 a5;rcases hk with rfl|rfl|rfl|rfl|rfl|rfl
  .by_cases D:n=0
   .skip
    have m:=aA (show cU 1 lb n=0 by unfold cU;simp <;> omega);subst D;have a:=aA (q.o (by omega) m.o);rw[t]at a;clear C u q m;go_upto_region 13 with fail
    obtain⟨B,E⟩:∃B:World,B=u2:=⟨_,rfl⟩;subst E;go_wp2
    clear b0 b1 b2;go_loopw [1,70] (λX v wr=>∃(i b:Nat),i<=0/\v=i/\X=b/\had+1<=b/\b<=40/\Hid ((ks.take i).foldl (bU (bY f)) (y,0)=(b,0))/\Hid (Below B B wr)) (λ_ v _=>0-(intOf v).toNat)
    case atStart=>exact⟨0,y,aL _,rfl,rfl,by omega,by omega,rfl,aH _ _⟩
    obtain⟨i,b,hi,rfl,rfl,Y,L,Q,F⟩:=hrel;by_cases G:i<0
    .exact absurd G (by omega)
    obtain rfl:i=0:=by omega
    have M:=aA (show ks.foldl (bU (bY f)) (y,0)=(b,0) by have:=Q.o;rwa[aW (by rw[HL.o];exact aB _)]at this);go_wp2
    go_ret2
    rw[a.o,M.o];exact⟨by first|rfl|simp,x.o.trans (F.o.mono x.o.size)⟩
   have a6:((n:Int) != 0)=true:=by simp;omega
   have m:=aA (show cU 1 lb n=1 by unfold cU;simp <;> omega);have a:=aA (u.o (by omega) (by rw[m.o];decide));rw[m.o]at a;go_wp2
   go_ret2
   rw[a.o];exact⟨by rw[t];first|rfl|simp,x.o⟩
  .by_cases b7:lb<1
   .skip
    have m:=aA (show cU 2 lb n=2 by unfold cU;simp <;> omega);have a:=aA (u.o (by omega) (by rw[m.o];decide));rw[m.o]at a;go_wp2
    go_ret2
    rw[a.o];exact⟨by rw[t];first|rfl|simp,x.o⟩
   by_cases b9:26<lb
   .skip
    have m:=aA (show cU 2 lb n=2 by unfold cU;simp <;> omega);have a:=aA (u.o (by omega) (by rw[m.o];decide));rw[m.o]at a;go_wp2
    go_ret2
    rw[a.o];exact⟨by rw[t];first|rfl|simp,x.o⟩
   by_cases D:n=0
   .skip
    have m:=aA (show cU 2 lb n=0 by unfold cU;simp <;> omega);subst D;have a:=aA (q.o (by omega) m.o);rw[t]at a;clear C u q m;go_upto_region 13 with fail
    obtain⟨B,E⟩:∃B:World,B=u2:=⟨_,rfl⟩;subst E;go_wp2
    clear b0 b1 b2;go_loopw [1,70] (λX v wr=>∃(i b:Nat),i<=0/\v=i/\X=b/\had+1<=b/\b<=40/\Hid ((ks.take i).foldl (bU (bY f)) (y,0)=(b,0))/\Hid (Below B B wr)) (λ_ v _=>0-(intOf v).toNat)
    case atStart=>exact⟨0,y,aL _,rfl,rfl,by omega,by omega,rfl,aH _ _⟩
    obtain⟨i,b,hi,rfl,rfl,Y,L,Q,F⟩:=hrel;by_cases G:i<0
    .exact absurd G (by omega)
    obtain rfl:i=0:=by omega
    have M:=aA (show ks.foldl (bU (bY f)) (y,0)=(b,0) by have:=Q.o;rwa[aW (by rw[HL.o];exact aB _)]at this);go_wp2
    go_ret2
    rw[a.o,M.o];exact⟨by first|rfl|simp,x.o.trans (F.o.mono x.o.size)⟩
   have a6:((n:Int) != 0)=true:=by simp;omega
   have m:=aA (show cU 2 lb n=1 by unfold cU;simp <;> omega);have a:=aA (u.o (by omega) (by rw[m.o];decide));rw[m.o]at a;go_wp2
   go_ret2
   rw[a.o];exact⟨by rw[t];first|rfl|simp,x.o⟩
  .by_cases D:n=0
   .subst D;have m:=aA (show cU 3 lb 0=1 by unfold cU;simp);have a:=aA (u.o (by omega) (by rw[m.o];decide));rw[m.o]at a;go_wp2
    go_ret2
    rw[a.o];exact⟨by rw[t];first|rfl|simp,x.o⟩
   have Z:¬(n:Int)=0:=by omega
   have m:=aA (show cU 3 lb n=0 by unfold cU;simp <;> omega);have a:=aA (q.o (by omega) m.o);rw[t]at a;clear C u q m;go_upto_region 13 with fail
   obtain⟨B,E⟩:∃B:World,B=u2:=⟨_,rfl⟩;subst E;go_wp2
   clear b0 b1 b2;go_loopw [1,70] (λX v wr=>∃(i b:Nat),i<=n/\v=i/\X=b/\had+1<=b/\b<=40/\Hid ((ks.take i).foldl (bU (bY f)) (y,0)=(b,0))/\Hid (Below B B wr)) (λ_ v _=>n-(intOf v).toNat)
   case atStart=>exact⟨0,y,aL _,rfl,rfl,by omega,by omega,rfl,aH _ _⟩
   obtain⟨i,b,hi,rfl,rfl,Y,L,Q,F⟩:=hrel;by_cases G:i<n
   rotate_left
   .obtain rfl:i=n:=by omega
    have M:=aA (show ks.foldl (bU (bY f)) (y,0)=(b,0) by have:=Q.o;rwa[aW (by rw[HL.o];exact aB _)]at this);go_wp2
    go_ret2
    rw[a.o,M.o];exact⟨by first|rfl|simp,x.o.trans (F.o.mono x.o.size)⟩
   have a0:(i:Int)<(n:Int):=by omega
   obtain⟨bl,a1,j,k,p,R,S,T,d',rfl,rfl,a2,hx,q0,q1,q2,K'⟩:=(K.o.keep F.o).get G;have N:=aA (jA (g:=bY f) (s:=(y,0)) hx.o);rw[Q.o]at N;have TB:=aA (λh=>kH (g:=bY f) (s:=(y,0)) (l:=ks) (i:=i+1) h);obtain⟨r,O⟩:=aK (bY f (.mk j k p) b);have H:bU (bY f) (b,0) (.mk j k p)=r:=by rw[bU,aG rfl];exact O
   rw[H]at N;rw[N.o]at TB;have GR:=aA (gG f (.mk j k p) b);rw[O]at GR;have z:=aF wr (.cells #[j,k,.slice R S T] 35);have P:=aA (F.o.trans (z.mono F.o.size));have U:=aA (IH.o d' j k R S T b p (wr.alloc (.cells #[j,k,.slice R S T] 35)) (by omega) L (K'.o.keep z));rw[O]at U;clear O H z hx;obtain⟨rh,re⟩:=r;by_cases I:re=0
   .subst I;obtain⟨V,J⟩:=GR.o rfl;simp only at V J;go_wp2_with (go_at_call 105;(with_reducible refine U.o.mono ?_);rintro e w4 ⟨rfl,o⟩;have W:=aA (P.o.trans (o.mono P.o.size));clear o)
    go_roundw
    case rel=>exact⟨i+1,rh,by omega,by go_num,rfl,by omega,J,N,W⟩
    simp[intOf];omega
   have M:=aA (TB.o I);go_wp2_with (go_at_call 105;(with_reducible refine U.o.mono ?_);rintro e w4 ⟨rfl,o⟩;have W:=aA (P.o.trans (o.mono P.o.size));clear o)
   go_ret2
   rw[a.o,M.o];exact⟨by first|rfl|simp,x.o.trans (W.o.mono x.o.size)⟩
  .by_cases D:n=0
   .subst D;have m:=aA (show cU 4 lb 0=1 by unfold cU;simp);have a:=aA (u.o (by omega) (by rw[m.o];decide));rw[m.o]at a;go_wp2
    go_ret2
    rw[a.o];exact⟨by rw[t];first|rfl|simp,x.o⟩
   have Z:¬(n:Int)=0:=by omega
   have m:=aA (show cU 4 lb n=0 by unfold cU;simp <;> omega);have a:=aA (q.o (by omega) m.o);rw[t]at a;clear C u q m;go_upto_region 13 with fail
   obtain⟨B,E⟩:∃B:World,B=u2:=⟨_,rfl⟩;subst E;go_wp2
   clear b0 b1 b2;go_loopw [1,70] (λX v wr=>∃(i b:Nat),i<=n/\v=i/\X=b/\had+1<=b/\b<=40/\Hid ((ks.take i).foldl (bU (bY f)) (y,0)=(b,0))/\Hid (Below B B wr)) (λ_ v _=>n-(intOf v).toNat)
   case atStart=>exact⟨0,y,aL _,rfl,rfl,by omega,by omega,rfl,aH _ _⟩
   obtain⟨i,b,hi,rfl,rfl,Y,L,Q,F⟩:=hrel;by_cases G:i<n
   rotate_left
   .obtain rfl:i=n:=by omega
    have M:=aA (show ks.foldl (bU (bY f)) (y,0)=(b,0) by have:=Q.o;rwa[aW (by rw[HL.o];exact aB _)]at this);go_wp2
    go_ret2
    rw[a.o,M.o];exact⟨by first|rfl|simp,x.o.trans (F.o.mono x.o.size)⟩
   have a0:(i:Int)<(n:Int):=by omega
   obtain⟨bl,a1,j,k,p,R,S,T,d',rfl,rfl,a2,hx,q0,q1,q2,K'⟩:=(K.o.keep F.o).get G;have N:=aA (jA (g:=bY f) (s:=(y,0)) hx.o);rw[Q.o]at N;have TB:=aA (λh=>kH (g:=bY f) (s:=(y,0)) (l:=ks) (i:=i+1) h);obtain⟨r,O⟩:=aK (bY f (.mk j k p) b);have H:bU (bY f) (b,0) (.mk j k p)=r:=by rw[bU,aG rfl];exact O
   rw[H]at N;rw[N.o]at TB;have GR:=aA (gG f (.mk j k p) b);rw[O]at GR;have z:=aF wr (.cells #[j,k,.slice R S T] 35);have P:=aA (F.o.trans (z.mono F.o.size));have U:=aA (IH.o d' j k R S T b p (wr.alloc (.cells #[j,k,.slice R S T] 35)) (by omega) L (K'.o.keep z));rw[O]at U;clear O H z hx;obtain⟨rh,re⟩:=r;by_cases I:re=0
   .subst I;obtain⟨V,J⟩:=GR.o rfl;simp only at V J;go_wp2_with (go_at_call 105;(with_reducible refine U.o.mono ?_);rintro e w4 ⟨rfl,o⟩;have W:=aA (P.o.trans (o.mono P.o.size));clear o)
    go_roundw
    case rel=>exact⟨i+1,rh,by omega,by go_num,rfl,by omega,J,N,W⟩
    simp[intOf];omega
   have M:=aA (TB.o I);go_wp2_with (go_at_call 105;(with_reducible refine U.o.mono ?_);rintro e w4 ⟨rfl,o⟩;have W:=aA (P.o.trans (o.mono P.o.size));clear o)
   go_ret2
   rw[a.o,M.o];exact⟨by first|rfl|simp,x.o.trans (W.o.mono x.o.size)⟩
  .by_cases D:n=0
   .subst D;have m:=aA (show cU 5 lb 0=1 by unfold cU;simp);have a:=aA (u.o (by omega) (by rw[m.o];decide));rw[m.o]at a;go_wp2
    go_ret2
    rw[a.o];exact⟨by rw[t];first|rfl|simp,x.o⟩
   have Z:¬(n:Int)=0:=by omega
   have m:=aA (show cU 5 lb n=0 by unfold cU;simp <;> omega);have a:=aA (q.o (by omega) m.o);rw[t]at a;clear C u q m;go_upto_region 13 with fail
   obtain⟨B,E⟩:∃B:World,B=u2:=⟨_,rfl⟩;subst E;go_wp2
   clear b0 b1 b2;go_loopw [1,70] (λX v wr=>∃(i b:Nat),i<=n/\v=i/\X=b/\had+1<=b/\b<=40/\Hid ((ks.take i).foldl (bU (bY f)) (y,0)=(b,0))/\Hid (Below B B wr)) (λ_ v _=>n-(intOf v).toNat)
   case atStart=>exact⟨0,y,aL _,rfl,rfl,by omega,by omega,rfl,aH _ _⟩
   obtain⟨i,b,hi,rfl,rfl,Y,L,Q,F⟩:=hrel;by_cases G:i<n
   rotate_left
   .obtain rfl:i=n:=by omega
    have M:=aA (show ks.foldl (bU (bY f)) (y,0)=(b,0) by have:=Q.o;rwa[aW (by rw[HL.o];exact aB _)]at this);go_wp2
    go_ret2
    rw[a.o,M.o];exact⟨by first|rfl|simp,x.o.trans (F.o.mono x.o.size)⟩
   have a0:(i:Int)<(n:Int):=by omega
   obtain⟨bl,a1,j,k,p,R,S,T,d',rfl,rfl,a2,hx,q0,q1,q2,K'⟩:=(K.o.keep F.o).get G;have N:=aA (jA (g:=bY f) (s:=(y,0)) hx.o);rw[Q.o]at N;have TB:=aA (λh=>kH (g:=bY f) (s:=(y,0)) (l:=ks) (i:=i+1) h);obtain⟨r,O⟩:=aK (bY f (.mk j k p) b);have H:bU (bY f) (b,0) (.mk j k p)=r:=by rw[bU,aG rfl];exact O
   rw[H]at N;rw[N.o]at TB;have GR:=aA (gG f (.mk j k p) b);rw[O]at GR;have z:=aF wr (.cells #[j,k,.slice R S T] 35);have P:=aA (F.o.trans (z.mono F.o.size));have U:=aA (IH.o d' j k R S T b p (wr.alloc (.cells #[j,k,.slice R S T] 35)) (by omega) L (K'.o.keep z));rw[O]at U;clear O H z hx;obtain⟨rh,re⟩:=r;by_cases I:re=0
   .subst I;obtain⟨V,J⟩:=GR.o rfl;simp only at V J;go_wp2_with (go_at_call 105;(with_reducible refine U.o.mono ?_);rintro e w4 ⟨rfl,o⟩;have W:=aA (P.o.trans (o.mono P.o.size));clear o)
    go_roundw
    case rel=>exact⟨i+1,rh,by omega,by go_num,rfl,by omega,J,N,W⟩
    simp[intOf];omega
   have M:=aA (TB.o I);go_wp2_with (go_at_call 105;(with_reducible refine U.o.mono ?_);rintro e w4 ⟨rfl,o⟩;have W:=aA (P.o.trans (o.mono P.o.size));clear o)
   go_ret2
   rw[a.o,M.o];exact⟨by first|rfl|simp,x.o.trans (W.o.mono x.o.size)⟩
  by_cases D:n=2
  rotate_left
  .by_cases b4:n=0
   .subst b4;have m:=aA (show cU 6 lb 0=1 by unfold cU;simp);have a:=aA (u.o (by omega) (by rw[m.o];decide));rw[m.o]at a;go_wp2
    go_ret2
    rw[a.o];exact⟨by rw[t];first|rfl|simp,x.o⟩
   have Z:¬(n:Int)=0:=by omega
   have a6:((n:Int) != 2)=true:=by simp;omega
   have m:=aA (show cU 6 lb n=1 by unfold cU;simp <;> omega);have a:=aA (u.o (by omega) (by rw[m.o];decide));rw[m.o]at a;go_wp2
   go_ret2
   rw[a.o];exact⟨by rw[t];first|rfl|simp,x.o⟩
  skip
  have m:=aA (show cU 6 lb n=0 by unfold cU;simp <;> omega);subst D;have a:=aA (q.o (by omega) m.o);rw[t]at a;clear C u q m;go_upto_region 13 with fail
  obtain⟨B,E⟩:∃B:World,B=u2:=⟨_,rfl⟩;subst E;go_wp2
  clear b0 b1 b2;go_loopw [1,70] (λX v wr=>∃(i b:Nat),i<=2/\v=i/\X=b/\had+1<=b/\b<=40/\Hid ((ks.take i).foldl (bU (bY f)) (y,0)=(b,0))/\Hid (Below B B wr)) (λ_ v _=>2-(intOf v).toNat)
  case atStart=>exact⟨0,y,aL _,rfl,rfl,by omega,by omega,rfl,aH _ _⟩
  obtain⟨i,b,hi,rfl,rfl,Y,L,Q,F⟩:=hrel;by_cases G:i<2
  rotate_left
  .obtain rfl:i=2:=by omega
   have M:=aA (show ks.foldl (bU (bY f)) (y,0)=(b,0) by have:=Q.o;rwa[aW (by rw[HL.o];exact aB _)]at this);go_wp2
   go_ret2
   rw[a.o,M.o];exact⟨by first|rfl|simp,x.o.trans (F.o.mono x.o.size)⟩
  have a0:(i:Int)<(2:Int):=by omega
  obtain⟨bl,a1,j,k,p,R,S,T,d',rfl,rfl,a2,hx,q0,q1,q2,K'⟩:=(K.o.keep F.o).get G;have N:=aA (jA (g:=bY f) (s:=(y,0)) hx.o);rw[Q.o]at N;have TB:=aA (λh=>kH (g:=bY f) (s:=(y,0)) (l:=ks) (i:=i+1) h);obtain⟨r,O⟩:=aK (bY f (.mk j k p) b);have H:bU (bY f) (b,0) (.mk j k p)=r:=by rw[bU,aG rfl];exact O
  rw[H]at N;rw[N.o]at TB;have GR:=aA (gG f (.mk j k p) b);rw[O]at GR;have z:=aF wr (.cells #[j,k,.slice R S T] 35);have P:=aA (F.o.trans (z.mono F.o.size));have U:=aA (IH.o d' j k R S T b p (wr.alloc (.cells #[j,k,.slice R S T] 35)) (by omega) L (K'.o.keep z));rw[O]at U;clear O H z hx;obtain⟨rh,re⟩:=r;by_cases I:re=0
  .subst I;obtain⟨V,J⟩:=GR.o rfl;simp only at V J;go_wp2_with (go_at_call 105;(with_reducible refine U.o.mono ?_);rintro e w4 ⟨rfl,o⟩;have W:=aA (P.o.trans (o.mono P.o.size));clear o)
   go_roundw
   case rel=>exact⟨i+1,rh,by omega,by go_num,rfl,by omega,J,N,W⟩
   simp[intOf];omega
  have M:=aA (TB.o I);go_wp2_with (go_at_call 105;(with_reducible refine U.o.mono ?_);rintro e w4 ⟨rfl,o⟩;have W:=aA (P.o.trans (o.mono P.o.size));clear o)
  go_ret2
  rw[a.o,M.o];exact⟨by first|rfl|simp,x.o.trans (W.o.mono x.o.size)⟩
def nP {d:Nat}{w:World}{kd lb:Int}{A:OAd}{n c:Nat}{ks:List bH}(h:pQ d w A n c ks) :
  Calls Tryz.prog 45 #[.agg #[kd,lb,.slice A n c]] w (λe w'=>e=.returned (.int .i64 (eK (.mk kd lb ks)))/\Below w w w'):=by
 have b:=aF w (.cells #[kd,lb,.slice A n c] 35);have k:=aA (Box.new w #[kd,lb,.slice A n c] 35);have i:=aA b;have j:=aA (show Calls Tryz.prog 105 #[.agg #[kd,lb,.slice A n c],(0:Int)] (w.alloc (.cells #[kd,lb,.slice A n c] 35)) (λe w'=>e=.returned (.tuple #[.int .i64 (bY 41 (.mk kd lb ks) 0).1,.int .i64 (bY 41 (.mk kd lb ks) 0).2])/\Below (w.alloc (.cells #[kd,lb,.slice A n c] 35)).heap.size (w.alloc (.cells #[kd,lb,.slice A n c] 35)) w')from Ip 41 d kd lb A n c 0 ks _ (by omega) (by omega) (h.keep b));clear h b;obtain⟨r,f⟩:=aK (bY 41 (.mk kd lb ks) 0);have g:=aA (show eK (.mk kd lb ks)=r.2 by unfold eK;rw[f]);rw[f]at j;clear f;go_enter Tryz.func45,Tryz.ntmps45
 go_upto_region 1 with fail
 generalize w.alloc (.cells #[kd,lb,.slice A n c] 35)=u2 at *
 obtain⟨m,o,p⟩:=k.o.three;go_wp2_with (go_at_call 105;go_loud ((with_reducible refine j.o.mono ?_);rintro e q ⟨rfl,a⟩);have l:=aA (i.o.trans (a.mono i.o.size));clear a)
 go_ret
 rw[g.o];exact⟨by first|rfl|simp,l.o⟩
def lG {d:Nat}{w:World}{kd lb:Int}{A:OAd}{n c:Nat}{ks:List bH}(h:pQ d w A n c ks) :
  Calls Tryz.prog 24 #[.agg #[kd,lb,.slice A n c]] w (λe w'=>e=.returned (.int .i64 (eK (.mk kd lb ks)))/\Below w w w'):=by
 have k:∀(args:Array Value) (w:World),Sem.run Tryz.prog (callFunc 70 args) w=.ok (.enter 70 args) w:=λargs w=>by kernel_rfl
 obtain⟨r,o⟩:=aK (bY 41 (.mk kd lb ks) 0);have p:=aA (show eK (.mk kd lb ks)=r.2 by unfold eK;rw[o]);have x:=aA o;have H:=aA h;clear o h;go_enter Tryz.func24,Tryz.ntmps24
 go_upto_region 3 with fail
 generalize a:((w.alloc (.cells #[kd,lb,.slice A n c] 35)).alloc (.cells #[(0:Int)] 3)).alloc (.cells #[.nilFunc] 58)=g;have t:Below w w g:=by rw[<-a];exact(((aH _ _).alloc (aB _) _).alloc (by simp) _).alloc (by simp;omega) _
 have u:Box g w 35 #[kd,lb,.slice A n c]:=by rw[<-a];exact((Box.new _ _ _).old _).old _
 have v:Box g (w.heap.size+1) 3 #[(0:Int)]:=by rw[<-a];exact(Box.newAt (by simp) _ _).old _
 have l:Box g (w.heap.size+1+1) 58 #[.nilFunc]:=by rw[<-a];exact Box.newAt (by simp) _ _
 clear a;have y:=l.frozen 0;have n0:=l.cell 0;simp only[aP,aQ]at n0;go_upto_region 4 with fail
 generalize b:g.setCell ⟨w.heap.size+1+1,0,none⟩ (.func (.func 70) #[] #[.pointer (some ⟨w.heap.size+1,0,none⟩),.pointer (some ⟨w.heap.size+1+1,0,none⟩)])=m;have q:rM (w.heap.size+1) (w.heap.size+1+1)=(.func (.func 70) #[] #[.pointer (some ⟨w.heap.size+1,0,none⟩),.pointer (some ⟨w.heap.size+1+1,0,none⟩)]):=rfl;rw[<-q]at b;have f:d8 (w.heap.size+1+1) g m:=by rw[<-b];exact d8.set _ _ _ _
 have z:=aA (show Below w w m by rw[<-b];exact t.setCell (show w.heap.size<=w.heap.size+1+1 by omega) _);have Z0:=aA (f.box u (by omega));have B:=aA (f.box v (by omega));have s:Box m (w.heap.size+1+1) 58 #[rM (w.heap.size+1) (w.heap.size+1+1)]:=by rw[<-b];simpa using l.set 0 (rM (w.heap.size+1) (w.heap.size+1+1))
 have i:=s.cell 0;simp only[aP,aQ]at i;obtain⟨D,E,F⟩:=Z0.o.three;have CL:=aA (JU (w0:=w) (bn:=w.heap.size+1) (bc:=w.heap.size+1+1) (by omega) (by omega) 41 d kd lb A n c 0 ks m (by omega) (by omega) H.o B.o s z.o);rw[x.o]at CL;clear b f u v l y n0 t s;go_wp2_with fail
 refine CL.o.mono ?_;rintro e G ⟨rfl,_,_,j⟩;have C:=aA j;clear j i;go_wp2
 go_ret
 rw[p.o];exact⟨by first|rfl|simp,C.o⟩
