/- Texts melted into one: Contracts of package mark, of the references of chapter 1, and of the library's functions on lists of integers that they call. Conditions: the slices read as lists of  -/
import Derived.Deep.QuietTactic
import Derived.BigQuiet
import Derived.Test.YtfmnagcglhlicaaGreatTopCrashK02
import Derived.Lib.AppendZeros
import Derived.Handy
import Derived.Deep.DeepCutAuto
import Derived.Deep.LoopGhost
set_option maxRecDepth 100000
set_option maxHeartbeats 1000000
namespace Go.Proofs.YtfmnagcglhlicaaGreat
open Go.RowKit
structure xQ (F:FuncId)(cap:Array Value)(w:World)(p:Int→Bool):Prop where
 enters:∀args w,(callFunc F args).run Tryz.prog w=.ok (.enter F args) w
 calls:∀x,Calls Tryz.prog F (#[.int .i64 x]++cap) w fun e w'=>e=.returned (.bool (p x))∧w=w'
theorem yY {w:World}{A:OAd}{n c:Nat}{xs:LIn}{F:FuncId}{cap:Array Value}{p:Int→Bool}(h:aJ w A n c xs)(hp:xQ F cap w p) :
  Calls Tryz.prog 161 #[.slice A n c,.func (.func F) #[] cap] w fun e w'=>e=.returned (.int .i64 (cC p xs))∧w=w':=by
 have hn:=h.small;have henter:=hp.enters;go_enter Tryz.func161,Tryz.ntmps161
 go_wp2
 go_loop [8] (fun i=>∃k:Nat,k≤n∧i=.int .i64 k∧Hid (∀j,j<k→∀y,xs[j]?=some y→p y=false)) (fun i=>n-(intOf i).toNat)
 case atStart=>exact⟨0,Nat.zero_le _,rfl,fun j hj=>absurd hj (by omega)⟩
 case round =>
  obtain⟨k,hk,rfl,hlow⟩:=hrel;by_cases hlt:k<n
  ·obtain⟨b,off,x,rfl,hb,hx,hc⟩:=h.get hlt;have hl:=h.len;have hL:=aA hl;clear hl;by_cases hpx:p x=true
   ·have HP:=aA hpx;clear hpx;clear h;go_wp2_with (refine(hp.calls x).mono ?_;rintro e w' ⟨rfl,rfl⟩;rw[HP.o])
    go_ret
    exact⟨aT (cJ hlow.o hx.o HP.o).symm,rfl⟩
   ·have HP:=aA (show p x=false by simpa using hpx);clear h hpx;go_wp2_with (refine(hp.calls x).mono ?_;rintro e w' ⟨rfl,rfl⟩;rw[HP.o])
    go_round
    case rel =>
     refine⟨k+1,by omega,by go_num,fun j hj y hy=>?_⟩;by_cases hjk:j=k
     ·subst hjk;have:=hx.o;rw[hy]at this;injection this with this;rw[this];exact HP.o
     ·exact hlow.o j (by omega) y hy
    case measure=>simp[intOf];omega
  ·have hL:=aA h.len;go_wp2
   go_ret
   exact⟨aT (cL (fun j hj y hy=>hlow.o j (by have:=hL.o;omega) y hy)).symm,rfl⟩
theorem dC {w:World}{A:OAd}{n c:Nat}{xs:LIn}{F:FuncId}{cap:Array Value}{p:Int→Bool}(h:aJ w A n c xs)(hp:xQ F cap w p) :
  Calls Tryz.prog 103 #[.slice A n c,.func (.func F) #[] cap] w fun e w'=>e=.returned (.bool (xs.any p))∧w=w':=by
 go_enter Tryz.func103,Tryz.ntmps103
 go_wp2_with (refine(yY h hp).mono ?_;rintro e w' ⟨rfl,rfl⟩)
 go_ret
 exact⟨aY (gW _ _),rfl⟩
theorem Nn (w:World):xQ 164 #[] w WF where
 enters:=fun args w=>by kernel_rfl
 calls:=fun x=>by
  go_enter Tryz.func164,Tryz.ntmps164
  go_wp2
  all_goals
   go_ret
   exact⟨aY (by simp[WF];try omega),rfl⟩
theorem dX {w:World}{A:OAd}{n c:Nat}{xs:LIn}(h:aJ w A n c xs) :
  Calls Tryz.prog 115 #[.slice A n c] w fun e w'=>e=.returned (.bool (aO xs))∧w=w':=by
 go_enter Tryz.func115,Tryz.ntmps115
 go_wp2_with (refine(dC h (Nn w)).mono ?_;rintro e w' ⟨rfl,rfl⟩)
 go_ret
 exact⟨rfl,rfl⟩
theorem jY {w:World}{A:OAd}{n c:Nat}{xs:LIn}(h:aJ w A n c xs)(p:Nat) :
  Calls Tryz.prog 65 #[.slice A n c,.int .i64 p] w fun e w'=>e=.returned (.int .i64 (atL xs p))∧w=w':=by
 have hn:=h.small;by_cases hlt:p<n
 ·obtain⟨b,off,x,rfl,hb,hx,hc⟩:=h.get hlt;clear h;go_enter Tryz.func65,Tryz.ntmps65
  go_wp2
  go_ret
  exact⟨aT (iQ hx.o).symm,rfl⟩
 ·have hL:=aA h.len;clear h;go_enter Tryz.func65,Tryz.ntmps65
  go_wp2
  go_ret
  exact⟨aT (jV (by have:=hL.o;omega)).symm,rfl⟩
theorem eN {w:World}{A B:OAd}{n c m d:Nat}{xs ys:LIn}(h:aJ w A n c xs)(g:aJ w B m d ys) :
  Calls Tryz.prog 31 #[.slice A n c,.slice B m d] w fun e w'=>e=.returned (.bool (cA xs ys))∧w=w':=by
 have hn:=h.small;have hm:=g.small;obtain⟨M,hM⟩:∃M:Nat,max n m=M:=⟨_,rfl⟩;have hMb:M≤281474976710656:=by omega
 have hmx:max (n:Int) (m:Int)=(M:Int):=by omega
 have HM:=aA hM;clear hM;go_enter Tryz.func31,Tryz.ntmps31
 go_wp2
 clear hmx;go_loop [11] (fun i=>∃k:Nat,k≤M∧i=.int .i64 k∧Hid (∀j,j<k→atL ys j≤atL xs j)) (fun i=>M-(intOf i).toNat)
 case atStart=>exact⟨0,Nat.zero_le _,rfl,fun j hj=>absurd hj (by omega)⟩
 case round =>
  obtain⟨k,hk,rfl,hlow⟩:=hrel;by_cases hlt:k<M
  ·by_cases hc:atL xs k<atL ys k
   ·go_wp2_with (first|((with_reducible refine(jY h k).mono ?_);rintro e w' ⟨rfl,rfl⟩)|((with_reducible refine(jY g k).mono ?_);rintro e w' ⟨rfl,rfl⟩))
    go_ret
    exact⟨aY (yO hc).symm,rfl⟩
   ·go_wp2_with (first|((with_reducible refine(jY h k).mono ?_);rintro e w' ⟨rfl,rfl⟩)|((with_reducible refine(jY g k).mono ?_);rintro e w' ⟨rfl,rfl⟩))
    go_round
    case rel =>
     refine⟨k+1,by omega,by go_num,fun j hj=>?_⟩;by_cases hjk:j=k
     ·subst hjk;omega
     ·exact hlow.o j (by omega)
    case measure=>simp[intOf];omega
  ·have hL:=aA h.len;have gL:=aA g.len;go_wp2
   go_ret
   refine⟨aY ?_,rfl⟩;symm
   rw[oV];intro p hp;exact hlow.o p (by have:=hL.o;have:=gL.o;have:=HM.o;omega)
structure UE (F:FuncId)(f:Int→Int→Int×Int)(E:Int):Prop where
 enters:∀args w,(callFunc F args).run Tryz.prog w=.ok (.enter F args) w
 calls:∀x y w,0≤x→x≤1000000→0≤y→y≤1000000→Calls Tryz.prog F #[.int .i64 x,.int .i64 y] w fun e w'=>e=.returned (.tuple #[.int .i64 (f x y).1,.int .i64 (f x y).2])∧w=w'
 err:∀x y,(f x y).2=0∨(f x y).2=E
 ne:0<E
def dK (w:World)(C:OAd):Prop:=∀a,C=some a→w.heap.size≤a.block
theorem dK.none {w:World}:dK w none:=fun _ h=>by cases h
theorem dK.at {w:World}{b off:Nat}{s:Option Nat}(h:w.heap.size≤b):dK w (some ⟨b,off,s⟩):=fun a e=>by injection e with e;subst e;exact h
theorem dK.mono {w w':World}{C:OAd}(h:dK w' C)(hs:w.heap.size≤w'.heap.size):dK w C:=fun a e=>Nat.le_trans hs (h a e)
theorem Bw {w:World}{A B:OAd}{n c m d:Nat}{xs ys:LIn}(h:aJ w A n c xs)(g:aJ w B m d ys){F:FuncId}{f:Int→Int→Int×Int}{E:Int}(hf:UE F f E)(hM8:max n m*8≤140737488355328) :
  Calls Tryz.prog 116 #[.slice A n c,.slice B m d,.func (.func F) #[] #[]] w fun e w'=>∃C l k,e=.returned (.tuple #[.slice C l k,.int .i64 (Hy f E xs ys).2])∧aJ w' C l k (Hy f E xs ys).1∧Below w.heap.size w w'∧dK w C:=by
 have hn:=h.small;have hm:=g.small;obtain⟨M,hM⟩:∃M:Nat,max n m=M:=⟨_,rfl⟩;have hMb:M≤281474976710656:=by omega
 have hM8':M*8≤140737488355328:=by omega
 have hmx:max (n:Int) (m:Int)=(M:Int):=by omega
 have hlen:max xs.length ys.length=M:=by rw[h.len,g.len,hM]
 have HL:=aA hlen;clear hM hM8 hlen;cases hx:aO xs
 ·have H0:=aA hx;have FIN:=aA (show Hy f E xs ys=([],2)from by rw[Hy,if_neg (by rw[hx];simp)]);clear hx hmx;go_enter Tryz.func116,Tryz.ntmps116
  go_wp2_with ((with_reducible refine(dX h).mono ?_);rintro e w' ⟨rfl,rfl⟩;rw[H0.o])
  go_ret2
  exact⟨none,0,0,by rw[FIN.o];rfl,by rw[FIN.o];exact Sl.nil0,Below.refl _ _,dK.none⟩
 ·cases hy:aO ys
  ·have H0:=aA hx;have H1:=aA hy;have FIN:=aA (show Hy f E xs ys=([],2)from by rw[Hy,if_neg (by rw[hy];simp)]);clear hx hy hmx;go_enter Tryz.func116,Tryz.ntmps116
   go_wp2_with fail
   refine(dX h).mono ?_;rintro e w' ⟨rfl,rfl⟩;rw[H0.o];go_wp2_with fail
   refine(dX g).mono ?_;rintro e w' ⟨rfl,rfl⟩;rw[H1.o];go_wp2
   go_ret2
   exact⟨none,0,0,by rw[FIN.o];rfl,by rw[FIN.o];exact Sl.nil0,Below.refl _ _,dK.none⟩
  ·have H0:=aA hx;have H1:=aA hy;clear hx hy;go_enter Tryz.func116,Tryz.ntmps116
   go_wp2_with fail
   refine(dX h).mono ?_;rintro e w' ⟨rfl,rfl⟩;rw[H0.o];go_wp2_with fail
   refine(dX g).mono ?_;rintro e w' ⟨rfl,rfl⟩;rw[H1.o];go_wp2_with (at_make;refine jC Tryz.underlying28 oW rfl rfl _ _ rfl M rfl rfl rfl rfl hMb (by omega) (Below.refl _ _) (Nat.le_refl _) ?_;intro w1 own1 hg1 hb1)
   clear hmx;have hg:=w.heap.size;go_loopw [28] (fun i wr=>∃k:Nat,k≤M∧i=.int .i64 k∧wr.ownsRow w.heap.size 3 1 (.slice (some ⟨w.heap.size,0,none⟩) M M) M (((Az f xs ys).take k++List.replicate (M-k) 0).map (Value.int .i64))∧Below w.heap.size w wr∧Hid (∀j,j<k→(f (atL xs j) (atL ys j)).2=0)) (fun i _=>M-(intOf i).toNat)
   case atStart=>exact⟨0,Nat.zero_le _,rfl,by simpa using own1,hb1,fun j hj=>absurd hj (by omega)⟩
   case round =>
    obtain⟨k,hk,rfl,own,hb,hok⟩:=hrel;by_cases hlt:k<M
    ·have b1:=bV H0.o k;have b2:=bV H1.o k;have h':=h.keep hb;have g':=g.keep hb;have hcell:∃u,wr.cell? ⟨w.heap.size,k,none⟩=some u:=by
      have hl:(((Az f xs ys).take k++List.replicate (M-k) 0).map (Value.int .i64)).length=M:=by simpa using own.1
      exact⟨_,(own.cellAt k (by omega)).trans (List.getElem?_eq_getElem (by omega))⟩
     obtain⟨u,hcell⟩:=hcell;have hfz:wr.frozen? ⟨w.heap.size,k,none⟩=false:=own.frozenAt k;have hst:=own.stored k (.int .i64 (f (atL xs k) (atL ys k)).1);have HST:=aA hst;have hent:=hf.enters;have hcl:=hf.calls;have HC:=aA hcl;clear h g hst hcl own;rcases hf.err (atL xs k) (atL ys k)with he|he
     ·have HE:=aA he;clear he;go_wp2_with (first
       |((with_reducible refine(jY h' k).mono ?_);rintro e w' ⟨rfl,rfl⟩)
       |((with_reducible refine(jY g' k).mono ?_);rintro e w' ⟨rfl,rfl⟩)
       |(refine(HC.o _ _ _ b1.1 b1.2 b2.1 b2.2).mono ?_;rintro e w' ⟨rfl,rfl⟩;rw[HE.o]))
      go_roundw
      case rel =>
       refine⟨k+1,by omega,by go_num, ?_,hb.setCell (Nat.le_refl _) _,fun j hj=>?_⟩
       ·have:=HST.o.1;have e:((((Az f xs ys).take k++List.replicate (M-k) 0).map (Value.int .i64)).set k (.int .i64 (f (atL xs k) (atL ys k)).1))=(((Az f xs ys).take (k+1)++List.replicate (M-(k+1)) 0).map (Value.int .i64)):=by
         have hz:(Az f xs ys).length=M:=by rw[tX,HL.o]
         rw[bL (QL (by rw[HL.o];exact hlt)),←List.map_set];congr 1
         rw[List.set_append_right _ _ (by simp;omega)];have hm:k-(List.take k (Az f xs ys)).length=0:=by simp;omega
         rw[hm];obtain⟨q,hq⟩:∃q,M-k=q+1:=⟨M-k-1,by omega⟩;rw[hq,List.replicate_succ,show M-(k+1)=q from by omega];simp
        rw[e]at this;exact this
       ·by_cases hjk:j=k
        ·subst hjk;exact HE.o
        ·exact hok.o j (by omega)
      case measure=>simp[intOf];omega
     ·have HE:=aA he;have hE:=hf.ne;have hE0:¬E=0:=by omega
      have FIN:=aA (show Hy f E xs ys=([],E)from by rw[Hy,if_pos ⟨H0.o,H1.o⟩,tY (p:=k) (by rw[HL.o];exact hlt) (by rw[he];exact hE0)];rfl);clear he hok hf;go_wp2_with (first
       |((with_reducible refine(jY h' k).mono ?_);rintro e w' ⟨rfl,rfl⟩)
       |((with_reducible refine(jY g' k).mono ?_);rintro e w' ⟨rfl,rfl⟩)
       |(refine(HC.o _ _ _ b1.1 b1.2 b2.1 b2.2).mono ?_;rintro e w' ⟨rfl,rfl⟩;rw[HE.o]))
      go_ret2
      exact⟨none,0,0,by rw[FIN.o];rfl,by rw[FIN.o];exact Sl.nil0,hb,dK.none⟩
    ·obtain rfl:k=M:=by omega
     have hall:=aA (show Hy f E xs ys=(Az f xs ys,0)from by rw[Hy,if_pos ⟨H0.o,H1.o⟩,if_pos (tZ (fun p hp=>hok.o p (by rw[HL.o]at hp;exact hp)))]);have hfull:=aA (show(Az f xs ys).take k++List.replicate (k-k) 0=Az f xs ys from by rw[Nat.sub_self,List.replicate_zero,List.append_nil];exact List.take_of_length_le (by rw[tX,HL.o];exact Nat.le_refl _));have ownH:=aA own;clear own hok;go_wp2
     go_ret2
     have own2:=ownH.o;rw[hfull.o]at own2;obtain⟨C,cc,hv,hi⟩:=aJ.of_own own2 hMb;injection hv with hC hk' hc;subst hC hc;exact⟨_,_,_,by rw[hall.o];rfl,by rw[hall.o];exact hi,hb,dK.at (Nat.le_refl _)⟩
theorem Np:UE 118 wC 4 where
 enters:=fun args w=>by kernel_rfl
 calls:=fun x y w h1 h2 h3 h4=>by
  by_cases hc:1000000<x+y
  ·go_enter Tryz.func118,Tryz.ntmps118
   go_wp2
   go_ret2
   exact⟨by unfold wC;rw[if_pos hc];rfl,rfl⟩
  ·go_enter Tryz.func118,Tryz.ntmps118
   go_wp2
   go_ret2
   exact⟨by unfold wC;rw[if_neg (by omega)];rfl,rfl⟩
 err:=fun x y=>by unfold wC;split <;> simp
 ne:=by decide
theorem Jy:UE 117 nZ 3 where
 enters:=fun args w=>by kernel_rfl
 calls:=fun x y w h1 h2 h3 h4=>by
  by_cases hc:x<y
  ·go_enter Tryz.func117,Tryz.ntmps117
   go_wp2
   go_ret2
   exact⟨by unfold nZ;rw[if_pos hc];rfl,rfl⟩
  ·go_enter Tryz.func117,Tryz.ntmps117
   go_wp2
   go_ret2
   exact⟨by unfold nZ;rw[if_neg (by omega)];rfl,rfl⟩
 err:=fun x y=>by unfold nZ;split <;> simp
 ne:=by decide
def Jz (p:LIn×Int)(w:World)(e:Ending)(w':World):Prop :=
 ∃C l k,e=.returned (.tuple #[.slice C l k,.int .i64 p.2])∧aJ w' C l k p.1∧Below w.heap.size w w'
def qD (p:LIn×Int)(w:World)(e:Ending)(w':World):Prop :=
 ∃C l k,e=.returned (.tuple #[.slice C l k,.int .i64 p.2])∧aJ w' C l k p.1∧Below w.heap.size w w'∧dK w C
theorem qD.ie {p:LIn×Int}{w w':World}{e:Ending}:qD p w e w'→Jz p w e w':=fun⟨C,l,k,h1,h2,h3,_⟩=>⟨C,l,k,h1,h2,h3⟩
theorem pA {w:World}{A B:OAd}{n c m d:Nat}{xs ys:LIn}(h:aJ w A n c xs)(g:aJ w B m d ys)(hM8:max n m*8≤140737488355328) :
  Calls Tryz.prog 77 #[.slice A n c,.slice B m d] w (qD (yQ xs ys) w):=by
 go_enter Tryz.func77,Tryz.ntmps77
 go_wp2_with fail
 refine(Bw h g Np hM8).mono ?_;rintro e w' ⟨C,l,k,rfl,hi,hb,hf⟩;have HF:=aA hf;clear hf;go_wp2
 go_ret2
 rw[AH]at hi;exact⟨C,l,k,by rw[←AH];rfl,hi,hb,HF.o⟩
theorem sD {w:World}{A B:OAd}{n c m d:Nat}{xs ys:LIn}(h:aJ w A n c xs)(g:aJ w B m d ys)(hM8:max n m*8≤140737488355328) :
  Calls Tryz.prog 75 #[.slice A n c,.slice B m d] w (qD (sA xs ys) w):=by
 go_enter Tryz.func75,Tryz.ntmps75
 go_wp2_with fail
 refine(Bw h g Jy hM8).mono ?_;rintro e w' ⟨C,l,k,rfl,hi,hb,hf⟩;have HF:=aA hf;clear hf;go_wp2
 go_ret2
 rw[xF]at hi;exact⟨C,l,k,by rw[←xF];rfl,hi,hb,HF.o⟩
theorem EW {w:World}{A B:OAd}{n c m d:Nat}{xs ys:LIn}(h:aJ w A n c xs)(g:aJ w B m d ys)(hM8:max n m*8≤140737488355328) :
  Calls Tryz.prog 75 #[.slice A n c,.slice B m d] w (Jz (sA xs ys) w):=(sD h g hM8).mono fun _ _=>qD.ie
def Drew (w w':World):Prop:=∃k,w'=w.drewN k
theorem Drew.below {w w':World}(h:Drew w w'):Below w.heap.size w w':=by
 obtain⟨k,rfl⟩:=h;exact⟨rfl,rfl,rfl,Nat.le_refl _,fun _ _=>rfl⟩
theorem Drew.drewN (w:World)(k:Nat):Drew w (w.drewN k):=⟨k,rfl⟩
theorem Nq {P:Program}{f:FuncId}{args:Array Value}{w:World}{n:Nat}{v:Value}(h:Calls P f args (w.drewN n) fun e w'=>e=.returned v∧w.drewN n=w') :
  Calls P f args (w.drewN n) fun e w''=>e=.returned v∧∃m,w''=w.drewN m :=
 h.mono fun _ _ hh=>⟨hh.1,n,hh.2.symm⟩
theorem dT {w:World}{A B:OAd}{n c m d:Nat}{xs ys:LIn}(h:aJ w A n c xs)(g:aJ w B m d ys) :
  Calls Tryz.prog 8 #[.slice A n c,.slice B m d] w fun e w'=>e=.returned (.bool (xs==ys))∧Drew w w':=by
 have hn:=h.small;have hm:=g.small;have HL:=aA h.len;have GL:=aA g.len;by_cases hnm:n=m
 ·subst hnm;go_enter Tryz.func8,Tryz.ntmps8
  go_wp2
  go_loopw [13] (fun i wr=>∃k:Nat,k≤n∧i=.int .i64 k∧Hid (∀j,j<k→xs[j]?=ys[j]?)∧∃q,wr=w.drewN q) (fun i _=>n-(intOf i).toNat)
  case atStart=>exact⟨0,Nat.zero_le _,rfl,fun j hj=>absurd hj (by omega),0,rfl⟩
  case round =>
   obtain⟨k,hk,rfl,hlow,q,rfl⟩:=hrel;by_cases hlt:k<n
   ·obtain⟨b,off,x,rfl,hb,hx,hc⟩:=h.get hlt;obtain⟨b',off',y,rfl,hb',hy,hc'⟩:=g.get hlt;clear h g;have hi:(k:Int)<(n:Int):=by omega
    by_cases hxy:x=y
    ·subst hxy;go_wp2
     go_quiet (fail)
     go_wp2
     go_roundw
     case rel =>
      refine⟨k+1,by omega,by go_num,fun j hj=>?_,_,rfl⟩;by_cases hjk:j=k
      ·subst hjk;rw[hx.o,hy.o]
      ·exact hlow.o j (by omega)
     case measure=>simp[intOf];omega
    ·have hne:(x != y)=true:=by simpa using hxy
     have HN:=aA hxy;clear hxy;go_wp2
     go_quiet (fail)
     go_wp2
     go_ret
     refine⟨aY ?_,_,World.drewN_drewN _ _ _⟩;symm
     rw[beq_eq_false_iff_ne];intro e;have h1:=hx.o;rw[e,hy.o]at h1;injection h1 with h1;exact HN.o h1.symm
   ·clear h g;go_wp2
    go_ret
    refine⟨aY ?_,_,rfl⟩;symm
    rw[beq_iff_eq];apply List.ext_getElem?
    intro j;by_cases hj:j<k
    ·exact hlow.o j hj
    ·rw[List.getElem?_eq_none (by have:=HL.o;omega),List.getElem?_eq_none (by have:=GL.o;omega)]
 ·clear h g;have hne:((n:Int) !=(m:Int))=true:=by simp;omega
  have HN:=aA hnm;clear hnm;go_enter Tryz.func8,Tryz.ntmps8
  go_wp2
  go_ret
  refine⟨aY ?_,0,rfl⟩;symm
  rw[beq_eq_false_iff_ne];intro e;have:=HL.o;have:=GL.o;exact HN.o (by rw[e]at *;omega)
theorem By (w:World):xQ 102 #[] w Jg where
 enters:=fun args w=>by kernel_rfl
 calls:=fun x=>by
  go_enter Tryz.func102,Tryz.ntmps102
  go_wp2
  all_goals
   go_ret
   exact⟨aY (by simp[Jg];try omega),rfl⟩
theorem cN (w:World)(P:Int)(A:OAd)(n c:Nat)(ts:List aI)(h:bK w A n c ts) :
  Calls Tryz.prog 56 #[.agg #[.int .i64 P,.slice A n c]] w fun e w'=>e=.returned (.int .i64 (fS ⟨P,ts⟩))∧Below w.heap.size w w':=by
 have hn:=h.small;have HL:=aA h.len;have boxB:∀o,Below w.heap.size w (w.alloc o):=fun o=>(Below.refl _ _).alloc (Nat.le_refl _) _
 have BB:=aA boxB;clear boxB;by_cases g0:P<0∨16<P∨24<n
 ·have FIN:=aA (show fS ⟨P,ts⟩=2 from fN (Me (by have:=HL.o;simp only[];omega)));clear h;rcases g0 with g0|g0|g0
  all_goals
   go_enter Tryz.func56,Tryz.ntmps56
   go_wp2
   all_goals
    go_ret
    exact⟨aT FIN.o.symm,BB.o _⟩
 ·have g1:0≤P:=by omega
  have g2:P≤16:=by omega
  have g3:n≤24:=by omega
  clear g0;go_enter Tryz.func56,Tryz.ntmps56
  go_wp2
  go_loopw [23] (fun i wr=>∃k:Nat,k≤n∧i=.int .i64 k∧Below (w.heap.size+1) (w.alloc (.cells #[.int .i64 P,.slice A n c] 24)) wr∧Hid (∀(j:Nat) (t:aI),j<k→ts[j]?=some t→oC P t=true)) (fun i _=>n-(intOf i).toNat)
  case atStart=>exact⟨0,Nat.zero_le _,rfl,Below.refl _ _,fun j t hj=>absurd hj (by omega)⟩
  case round =>
   obtain⟨k,hk,rfl,hb,hok⟩:=hrel;have hbw:Below w.heap.size w wr:=(BB.o _).trans (hb.mono (by simp));by_cases hlt:k<n
   ·obtain⟨b,off,t,A1,n1,c1,A2,n2,c2,rfl,hbl,ht,q0,q1,q2,i1,i2,m1,m2⟩:=bK.get (h.keep hbw) hlt;have hc0:wr.cell? ⟨w.heap.size,0,none⟩=some (.int .i64 P):=(hb.cell (by simp)).trans (by simp);have hc1:wr.cell? ⟨w.heap.size,1,none⟩=some (.slice (some ⟨b,off,none⟩) n c):=(hb.cell (by simp)).trans (by simp);have hsz:w.heap.size<wr.heap.size:=by have:=hb.size;simp at this;omega
    have FIN:=aA (show oC P t=false→fS ⟨P,ts⟩=2 from fun hf=>fN (wF ht.o hf));have L1:=aA i1.len;have L2:=aA i2.len;have hal:∀o,Below wr.heap.size wr (wr.alloc o):=fun o=>(Below.refl _ _).alloc (Nat.le_refl _) _
    have HAL:=aA hal;have HBW:=aA hbw;have HB:=aA hb;have I1:=aA i1;have I2:=aA i2;clear h i1 i2 hal hb hbw;have NO:=aA (show(t.label<0∨26<t.label∨¬(n1:Int)=P∨¬(n2:Int)=P)→fS ⟨P,ts⟩=2 from fun p0=>FIN.o (by
      cases hc:oC P t
      ·rfl
      ·have:=(fL P t).1 hc;have:=L1.o;have:=L2.o;omega))
    go_wp2_with fail
    all_goals
     first
     |(go_ret;exact⟨aT (NO.o (by omega)).symm,HBW.o.trans ((HAL.o _).mono HBW.o.size)⟩)
     | skip
    have e1:(n1:Int)=P:=by assumption
    have e2:(n2:Int)=P:=by assumption
    have l1:0≤t.label:=by assumption
    have l2:t.label≤26:=by assumption
    refine(dC (I1.o.keep (HAL.o _)) (By _)).mono ?_;rintro e w' ⟨rfl,rfl⟩;cases a1:t.pre.any Jg
    ·have A1':=aA a1;clear a1;go_wp2_with fail
     refine(dC (I2.o.keep (HAL.o _)) (By _)).mono ?_;rintro e w' ⟨rfl,rfl⟩;cases a2:t.post.any Jg
     ·have A2':=aA a2;clear a2;have E1:=aA e1;have E2:=aA e2;go_wp2
      go_roundw
      case rel =>
       refine⟨k+1,by omega,by go_num, ?_,fun j t' hj ht'=>?_⟩
       ·exact HB.o.trans ((HAL.o _).mono (by have:=HB.o.size;simpa using this))
       ·by_cases hjk:j=k
        ·subst hjk;have:=ht.o;rw[ht']at this;injection this with this;subst this;rw[fL];exact⟨l1,l2,by rw[L1.o];exact E1.o,by rw[L2.o];exact E2.o,A1'.o,A2'.o⟩
        ·exact hok.o j t' (by omega) ht'
      case measure=>simp[intOf];omega
     ·have NO2:=aA (show fS ⟨P,ts⟩=2 from FIN.o (by
       cases hc:oC P t
       ·rfl
       ·have:=((fL P t).1 hc).2.2.2.2.2;rw[a2]at this;cases this))
      clear a2;go_wp2
      go_ret
      exact⟨aT NO2.o.symm,HBW.o.trans ((HAL.o _).mono HBW.o.size)⟩
    ·have NO2:=aA (show fS ⟨P,ts⟩=2 from FIN.o (by
      cases hc:oC P t
      ·rfl
      ·have:=((fL P t).1 hc).2.2.2.2.1;rw[a1]at this;cases this))
     clear a1;go_wp2
     go_ret
     exact⟨aT NO2.o.symm,HBW.o.trans ((HAL.o _).mono HBW.o.size)⟩
   ·have FIN:=aA (show fS ⟨P,ts⟩=0 from jA ((aQ _).2 ⟨g1,g2,by have:=HL.o;simp only[];omega,Ji.2 (fun j t hj=>hok.o j t (by have:=HL.o;have:=(List.getElem?_eq_some_iff.1 hj).1;simp only[]at this;omega) hj)⟩));have HBW:=aA hbw;clear h hb hbw;go_wp2
    go_ret
    exact⟨aT FIN.o.symm,HBW.o⟩
end Go.Proofs.YtfmnagcglhlicaaGreat
