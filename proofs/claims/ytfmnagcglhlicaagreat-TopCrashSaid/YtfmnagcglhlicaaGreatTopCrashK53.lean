/- The contract of desk.Play; answers of a desk as they read. Conditions: the net, the roles and the things to do read as lists. -/
import Derived.Test.YtfmnagcglhlicaaGreatTopCrashK52
set_option maxRecDepth 100000
set_option maxHeartbeats 16000000
namespace Go.Proofs.YtfmnagcglhlicaaGreat
open Go.RowKit
theorem Vw {P:Program} {ops:Array Oper} {Q:Exit→Act→World→Prop} {S:World→Prop} {T:Scr} (Tend:Scr) {a0:Act} {w0:World} (F:Act→Act→World→Prop) (hF:∀a' w',F a0 a' w'→S w'→dJ P ops Q S Tend a' w')
  (h:Hid (∀a' w',F a0 a' w'→S w'→dJ P ops Q S Tend a' w')→dJ P ops Q S T a0 w0):dJ P ops Q S T a0 w0:=h hF
theorem V5.at {w:World}{A:OAd}{n c k:Nat}{os:List POp}(h:V5 w A n c os)(hk:k<n) :
  ∃b off o,A=some ⟨b,off,none⟩∧b<w.heap.size∧Hid (os[k]?=some o)∧w.cell? ⟨b,off+k*5,none⟩=some (.int .i64 o.kind)∧w.cell? ⟨b,off+k*5+1,none⟩=some (.int .i64 o.user) ∧
   w.cell? ⟨b,off+k*5+2,none⟩=some (.int .i64 o.tran)∧w.cell? ⟨b,off+k*5+3,none⟩=some (.int .i64 o.item)∧w.cell? ⟨b,off+k*5+4,none⟩=some (.int .i64 o.to_):=by
 obtain⟨b,off,o,vs,h1,h2,h3,h4,e0,e1,e2,e3,e4⟩:=Sl.get h hk;refine⟨b,off,o,h1,h2,h3, ?_, ?_, ?_, ?_, ?_⟩
 ·rw[←e0];exact h4 0 (by omega)
 ·rw[←e1];exact h4 1 (by omega)
 ·rw[←e2];exact h4 2 (by omega)
 ·rw[←e3];exact h4 3 (by omega)
 ·rw[←e4];exact h4 4 (by omega)
def QK:World→(Nat→Value)→(Int×Int)→Prop:=fun _ vs o=>vs 0=.int .i64 o.1∧vs 1=.int .i64 o.2
theorem QK.kept:t8 QK:=fun _ _ _ _ _ h=>h
abbrev nD (w:World)(A:OAd)(n c:Nat)(os:List (Int×Int)):Prop:=Sl QK 2 w A n c os
abbrev r8 (w:World)(B:Nat)(v:Value)(n:Nat)(os:List (Int×Int)):Prop:=aC QK 2 w B 47 v n os
theorem nE:mC 34 47 2 16:=mC.mk' (z:=.agg #[.int .i64 0,.int .i64 0]) Tryz.underlying34 (by kernel_rfl) rfl (by decide)
theorem a6.ans {w:World}{x y:Int}:a6 QK 2 w [.int .i64 x,.int .i64 y] [(x,y)] :=
 a6.one (vs:=fun j=>[Value.int .i64 x,.int .i64 y].getD j undef) ⟨rfl,rfl⟩ rfl (fun j hj=>by
  match j,hj with
  | 0,_=>rfl
  | 1,_=>rfl)
structure Qw (v:Value)(B:OAd)(m:Nat)(D:OAd)(l:Nat)(I:OAd)(n:Nat):Prop where
 mark:∀b off,B=some ⟨b,off,none⟩→0<m→v.ownBlock≠some b
 busy:∀b off,D=some ⟨b,off,none⟩→0<l→v.ownBlock≠some b
 items:∀b off,I=some ⟨b,off,none⟩→0<n→v.ownBlock≠some b
theorem Qw.nil {B D I:OAd}{m l n:Nat}:Qw (.slice none 0 0) B m D l I n:=⟨fun _ _ _ _ h=>(by cases h),fun _ _ _ _ h=>(by cases h),fun _ _ _ _ h=>(by cases h)⟩
theorem Qx {W:World}{v:Value}{A0 A:OAd}{n0 n:Nat}(h:∀b off,A0=some ⟨b,off,none⟩→0<n0→v.ownBlock≠some b)(hv:∀k,v.ownBlock=some k→k<W.heap.size)(o:Old W A0 n0 A n):∀b off,A=some ⟨b,off,none⟩→0<n→v.ownBlock≠some b:=by
 intro b off e h0;rcases o with⟨e1,e2⟩|o
 ·subst e1 e2;exact h b off e h0
 ·intro hb;have h1:W.heap.size≤b:=o _ e;have:=hv b hb;omega
theorem Qw.step {W:World}{v:Value}{B D I B' D' I':OAd}{m l n m' l' n':Nat}(h:Qw v B m D l I n)(hv:∀k,v.ownBlock=some k→k<W.heap.size)(o1:Old W B m B' m')(o2:Old W D l D' l')(o3:Old W I n I' n'):Qw v B' m' D' l' I' n' :=
 ⟨Qx h.mark hv o1,Qx h.busy hv o2,Qx h.items hv o3⟩
theorem Qw.app {w:World}{v:Value}{B D I:OAd}{m d l e n c g k cap:Nat}{K:aX}(h:Qw v B m D l I n)(x:f7 w B m d D l e I n c K)(lies:v.ownBlock=some g∨w.heap.size≤g):Qw (.slice (some ⟨g,0,none⟩) k cap) B m D l I n:=by
 have key:∀{α:Type} {R:World→(Nat→Value)→α→Prop} {sz:Nat} {A:OAd} {na ca:Nat} {xs:List α},Sl R sz w A na ca xs→(∀b off,A=some ⟨b,off,none⟩→0<na→v.ownBlock≠some b)→∀b off,A=some ⟨b,off,none⟩→0<na→(Value.slice (some ⟨g,0,none⟩) k cap).ownBlock≠some b:=by
  intro α R sz A na ca xs hs hf b off e h0 hb;simp only[Value.ownBlock,Option.some.injEq]at hb;subst hb;rcases lies with h1|h1
  ·exact hf _ off e h0 h1
  ·have:=Sl.ltOf hs _ off e h0;omega
 exact⟨key x.mark h.mark,key x.busy h.busy,key x.items h.items⟩
theorem Sl.grownFar {α:Type}{R:World→(Nat→Value)→α→Prop}{sz:Nat}{w w':World}{A:OAd}{n c:Nat}{xs:List α}{row:Option Nat}(h:Sl R sz w A n c xs)(hg:w.grownBy w' row)(hR:∀vs x,R w vs x→R w' vs x)(hf:∀b off,A=some ⟨b,off,none⟩→0<n→row≠some b):Sl R sz w' A n c xs :=
 ⟨h.len,h.le,h.cap,h.small,h.nul,fun hn=>by
  obtain⟨b,off,e,hlt,hc⟩:=h.cells hn;refine⟨b,off,e,Nat.lt_of_lt_of_le hlt hg.size,fun i x hx=>?_⟩;obtain⟨vs,h1,h2⟩:=hc i x hx;exact⟨vs,fun j hj=>(World.cell?_of_block (a:=⟨b,off+(i*sz+j),none⟩) (hg.block b hlt (fun e2=>hf b off e hn e2.symm))).trans (h1 j hj),hR _ _ h2⟩⟩
theorem f7.grown {w w':World}{B D I:OAd}{m d l e n c:Nat}{k:aX}{v:Value}(x:f7 w B m d D l e I n c k)(hg:w.grownBy w' v.ownBlock)(hf:Qw v B m D l I n):f7 w' B m d D l e I n c k :=
 ⟨x.mark.grownFar hg (fun _ _ h=>h) hf.mark,x.busy.grownFar hg (fun _ _ h=>h) hf.busy,x.items.grownFar hg (fun _ _ h=>h) hf.items⟩
theorem aC.setOther {α:Type}{R:World→(Nat→Value)→α→Prop}{sz:Nat}{w:World}{B e:Nat}{v:Value}{n:Nat}{xs:List α}(h:aC R sz w B e v n xs){p:Addr}{u:Value}(hne:v.ownBlock≠some p.block)(hR:∀vs x,R w vs x→R (w.setCell p u) vs x):aC R sz (w.setCell p u) B e v n xs:=by
 obtain⟨cells,o1,o2,o3⟩:=h;exact⟨cells,ownsRow_setCell_other o1 hne _,⟨o2.1,fun i x hx=>by obtain⟨vs,a,b⟩:=o2.2 i x hx;exact⟨vs,a,hR _ _ b⟩⟩,o3⟩
theorem aC.notAt {α:Type}{R:World→(Nat→Value)→α→Prop}{sz:Nat}{w:World}{B e:Nat}{v:Value}{n:Nat}{xs:List α}(h:aC R sz w B e v n xs){b:Nat}(hb:w.heap.size≤b):v.ownBlock≠some b:=fun e=>by
 have:=(h.lt b e).2;omega
def Ar (p:aX×List (Int×Int)×Int)(w:World)(e:Ending)(w':World):Prop :=
 ∃B m d D l f I n c A na ca,e=.returned (.tuple #[.agg #[.slice B m d,.slice D l f,.slice I n c],.slice A na ca,.int .i64 p.2.2])∧f7 w' B m d D l f I n c p.1∧nD w' A na ca p.2.1∧Below w.heap.size w w'
theorem Qy {N:aS}{roles:LLi}{i:Int}{l:List POp}{p:a8×Int}(hp:aZ N i=p)(h:p.2≠0):uG N roles i l=(aX.nil,[],p.2):=by rw[uG,hp,if_neg h]
theorem Ep {N:aS}{roles:LLi}{i:Int}{l:List POp}{p:a8×Int}(hp:aZ N i=p)(h:p.2=0):uG N roles i l=((jS N roles ⟨p.1,[]⟩ l).1,(jS N roles ⟨p.1,[]⟩ l).2,0):=by rw[uG,hp,if_pos h]
theorem xB {w:World}{P:Int}{A R O:OAd}{n c r q s so:Nat}{ts:List aI}{roles:LLi}{os:List POp}(i:Int)(h:bK w A n c ts)(g:bT w R r q roles)(x:V5 w O s so os)(hs:s≤3518437208780) :
  Calls Tryz.prog 7 #[.agg #[.int .i64 P,.slice A n c],.int .i64 i,.slice R r q,.slice O s so] w (Ar (uG ⟨P,ts⟩ roles i os) w):=by
 generalize hw:(w.alloc (.cells #[.int .i64 P,.slice A n c] 24)).alloc (.cells #[.slice none 0 0,.slice none 0 0,.slice none 0 0] 33)=w0;have HB:=aA (show Below w.heap.size w w0 by rw[←hw];exact((Below.refl _ _).alloc (Nat.le_refl _) _).alloc (by simp) _);have X0:=aA (show Box w0 w.heap.size 24 #[.int .i64 P,.slice A n c] by rw[←hw];exact(Box.new _ _ _).old _);have X1:=aA (show Box w0 (w.heap.size+1) 33 #[.slice none 0 0,.slice none 0 0,.slice none 0 0] by rw[←hw];exact Box.newAt (by simp) _ _);have HO:=aA h;have GO:=aA g;have XO:=aA x;have HL:=aA x.len;have CB:=aA (EZ (P:=P) i (h.keep HB.o));obtain⟨p,hp⟩:∃p,aZ ⟨P,ts⟩ i=p:=⟨_,rfl⟩;rw[hp]at CB;have HP:=aA hp;clear h g x hp;go_enter Tryz.func7,Tryz.ntmps7
 go_upto_region 1 with fail
 clear hw;obtain⟨a0,a1⟩:=X0.o.two;go_upto_region 2 with(go_at_call 20;(with_reducible refine CB.o.mono ?_);rintro e1 w1 ⟨A3,n3,k3,A4,n4,k4,rfl,i3,i4,hb1,fr3,fr4⟩;have I3:=aA i3;have I4:=aA i4;have B1:=aA hb1;clear i3 i4 hb1 fr3 fr4)
 have XC:=aA (Box.new w1 #[.slice A3 n3 k3,.slice A4 n4 k4] 30);have NB:=eS w1 (.cells #[.slice A3 n3 k3,.slice A4 n4 k4] 30);have bb:=B1.o.trans (NB.mono B1.o.size);have W0:=aA (X0.o.keep bb);have W1:=aA (X1.o.keep bb);have J3:=aA (I3.o.keep NB);have J4:=aA (I4.o.keep NB);have BC:=aA (HB.o.trans (bb.mono HB.o.size));have SZ:=aA (show w.heap.size+1<w1.heap.size from Nat.lt_of_lt_of_le X1.o.lt B1.o.size);clear X0 X1 I3 I4 B1 NB bb a0 a1 HB CB;generalize w1.alloc (.cells #[.slice A3 n3 k3,.slice A4 n4 k4] 30)=w2 at *
 generalize w1.heap.size=bc at *
 obtain⟨a0,a1⟩:=W0.o.two;obtain⟨z0,z1,z2⟩:=W1.o.three;have f0:=W1.o.frozen 0;have f1:=W1.o.frozen 1;have f2:=W1.o.frozen 2;obtain⟨q0,q1⟩:=XC.o.two;by_cases he:p.2=0
 ·have FN:=aA (Ep (roles:=roles) (l:=os) HP.o he);have OK0:=aA (show eK ⟨P,ts⟩ ⟨p.1,[]⟩ by have:=eK.start (N:=⟨P,ts⟩) (i:=i) (by rw[HP.o];exact he);rw[HP.o]at this;exact this);have hee:(p.2 != 0)=false:=by simpa using he
  clear he;go_upto_region 4 with fail
  clear z0 z1 z2 f0 f1 f2 hee;refine aF 8 (.takes [0,1,2,3,4] (.two 5 (.one 6 (.one 7 (.fin 8 .done))) 6 (.one 5 (.one 7 (.fin 8 .done))))) (fun w'=>w'.cell? ⟨w.heap.size,0,none⟩=some (.int .i64 P)∧w'.cell? ⟨w.heap.size,1,none⟩=some (.slice A n c)∧w'.cell? ⟨bc,0,none⟩=some (.slice A3 n3 k3)∧w'.cell? ⟨bc,1,none⟩=some (.slice A4 n4 k4)) (by kernel_rfl) (by kernel_rfl) (by kernel_rfl) (fun _ _ _ _ _ h=>h) ⟨a0,a1,q0,q1⟩ (fun hH=>?_);simp only[Scr.takes];have DR:=aA ((Below.refl w2.heap.size w2).drew);have VC:=aA (XC.o.keep DR.o);have VN:=aA (W0.o.keep DR.o);have VR:=aA (W1.o.keep DR.o);have L3:=aA (J3.o.keep DR.o);have L4:=aA (J4.o.keep DR.o);have BD:=aA (BC.o.trans (DR.o.mono BC.o.size));clear W0 W1 XC J3 J4 BC DR a0 a1 q0 q1;generalize w2.drew=w3 at *
  iterate 5
   refine aH (v:=?_) rfl (by rfl) hH (fun w' hSw=>?_) ?_
   rotate_left
   ·(go_simp;try with_reducible rfl)
   simp only[Act.put,aL,aM,aN]
  refine Vw (.one 7 (.fin 8 .done)) (fun a0 a' w'=>∃bd bk,a'=((a0.put (some 13) (.pointer (some ⟨bd,0,none⟩))).put (some 14) (.pointer (some ⟨bk,0,none⟩)))∧Hid (Box w' bd 75 #[.int .i64 0,.slice none 0 0,.slice none 0 0])∧Hid (Box w' bk 33 #[.slice none 0 0,.slice none 0 0,.slice none 0 0])∧(w3.heap.size≤bd∧w3.heap.size≤bk∧bd≠bk)∧Hid (Below w3.heap.size w3 w')) ?_ (fun EN=>?_)
  ·rintro a' w4 ⟨bd,bk,rfl,XD,XK,⟨hd,hkb,hne⟩,B4⟩ hS;simp only[Act.put,aL,aM,aN];obtain⟨d0,d1,d2⟩:=XD.o.three;have df0:=XD.o.frozen 0;have df1:=XD.o.frozen 1;have df2:=XD.o.frozen 2;obtain⟨s0,s1,s2,s3⟩:=hS;refine bI rfl (fun K hK=>?_);go_simp
   refine hK.out _ _ (by refine⟨?_, ?_, ?_, ?_⟩ <;>(rw[World.cell?_setCell_other _ _ _ _ (fun e=>by have:=congrArg Addr.block e;have:=VN.o.lt;have:=VC.o.lt;simp only at *;omega),World.cell?_setCell_other _ _ _ _ (fun e=>by have:=congrArg Addr.block e;have:=VN.o.lt;have:=VC.o.lt;simp only at *;omega),World.cell?_setCell_other _ _ _ _ (fun e=>by have:=congrArg Addr.block e;have:=VN.o.lt;have:=VC.o.lt;simp only at *;omega)];assumption)) (fun _=>?_);clear hK d0 d1 d2 df0 df1 df2 s0 s1 s2 s3;try simp only[Act.put,aL,aM,aN]
   have YD:=aA (XD.o.set3 (.int .i64 P) (.slice A n c) (.slice R r q));have YK:=aA (((XK.o.other (a:=⟨bd,0,none⟩) (.int .i64 P) hne.symm).other (a:=⟨bd,1,none⟩) (.slice A n c) hne.symm).other (a:=⟨bd,2,none⟩) (.slice R r q) hne.symm);have hb5:=aA (aG B4.o hd (.int .i64 P) (.slice A n c) (.slice R r q));clear XD XK B4;generalize ((w4.setCell ⟨bd,0,none⟩ (.int .i64 P)).setCell ⟨bd,1,none⟩ (.slice A n c)).setCell ⟨bd,2,none⟩ (.slice R r q)=w5 at *
   obtain⟨d0,d1,d2⟩:=YK.o.three;have df0:=YK.o.frozen 0;have df1:=YK.o.frozen 1;have df2:=YK.o.frozen 2;refine bF rfl (fun K hK=>?_);go_simp
   refine hK.out _ _ ?_;clear hK d0 d1 d2 df0 df1 df2 hH;try simp only[Act.put,aL,aM,aN]
   refine bP ?_;have VK:=aA (YK.o.set3 (.slice A3 n3 k3) (.slice A4 n4 k4) (.slice none 0 0));have V0:=aA (((YD.o.other (a:=⟨bk,0,none⟩) (.slice A3 n3 k3) hne).other (a:=⟨bk,1,none⟩) (.slice A4 n4 k4) hne).other (a:=⟨bk,2,none⟩) (.slice none 0 0) hne);have hb6:=aA (aG hb5.o hkb (.slice A3 n3 k3) (.slice A4 n4 k4) (.slice none 0 0));have V1:=aA (VR.o.keep hb6.o);have VD:=aA (show f7 _ A3 n3 k3 A4 n4 k4 none 0 0 ⟨p.1,[]⟩from⟨L3.o.keep hb6.o,L4.o.keep hb6.o,Sl.nil0⟩);have BV:=aA (BD.o.trans (hb6.o.mono BD.o.size));have hk1:w.heap.size+1<bk:=by have:=VR.o.lt;omega
   clear YK YD hb5 hb6 VR L3 L4 BD VN VC hd;generalize ((w5.setCell ⟨bk,0,none⟩ (.slice A3 n3 k3)).setCell ⟨bk,1,none⟩ (.slice A4 n4 k4)).setCell ⟨bk,2,none⟩ (.slice none 0 0)=w6 at *
   go_upto_region 7 with fail
   go_loopw [15,36] (fun u v wr=>∃k:Nat,k≤s∧v=.int .i64 k∧∃B m d D l e I ni ci,Hid (Box wr bd 75 #[.int .i64 P,.slice A n c,.slice R r q])∧Hid (Box wr bk 33 #[.slice B m d,.slice D l e,.slice I ni ci])∧Hid (Box wr (w.heap.size+1) 33 #[.slice none 0 0,.slice none 0 0,.slice none 0 0])∧Hid (f7 wr B m d D l e I ni ci (jS ⟨P,ts⟩ roles ⟨p.1,[]⟩ (os.take k)).1)∧Hid (r8 wr w.heap.size u k (jS ⟨P,ts⟩ roles ⟨p.1,[]⟩ (os.take k)).2)∧Hid (Qw u B m D l I ni)∧Hid (Below w.heap.size w wr)) (fun _ v _=>s-(intOf v).toNat)
   case atStart=>exact⟨0,Nat.zero_le _,rfl,A3,n3,k3,A4,n4,k4,none,0,0,V0,VK,V1,VD,aC.nil,Qw.nil,BV⟩
   case round =>
    clear V0 VK V1 VD BV;obtain⟨k,hk,rfl,B,m,d,D,l,e,I,ni,ci,V0,VK,V1,VD,OA,FD,BV⟩:=hrel;by_cases hlt:k<s
    ·have hki:(k:Int)<(s:Int):=by omega
     obtain⟨bl,off,o,rfl,hbl,ho,x0,x1,x2,x3,x4⟩:=V5.at (Sl.keep xY.kept XO.o BV.o) hlt;obtain⟨rk,rl,rn⟩:=uF ⟨P,ts⟩ roles (os.take k) _ OK0.o;have SN:=aA (uE ⟨P,ts⟩ roles (os.take k) ⟨p.1,[]⟩ o);rw[←bL ho.o]at SN;have RS:=rk.small;have hl24:l≤24:=by rw[←VD.o.busy.len];exact RS.1
     have hnik:ni≤k:=by
      have h1:=VD.o.items.len;have h2:(os.take k).length≤k:=by rw[List.length_take];omega
      simp only[List.length_nil,Nat.zero_add]at rl;omega
     have RT:=aA rk.trans;clear rk rl rn RS;obtain⟨K,hK⟩:∃K,jS ⟨P,ts⟩ roles ⟨p.1,[]⟩ (os.take k)=K:=⟨_,rfl⟩;rw[hK]at VD OA RT SN;clear hK;have CS:=aA (fun(w':World) (hb:Below wr.heap.size wr w')=>Eo (P:=P) o (HO.o.keep (BV.o.trans (hb.mono BV.o.size))) (Sl.keep bH.kept GO.o (BV.o.trans (hb.mono BV.o.size))) (VD.o.keep hb) (by omega) (by omega) RT.o);obtain⟨P2,hP2⟩:∃P2,cD ⟨P,ts⟩ roles K.1 o=P2:=⟨_,rfl⟩;simp only[hP2]at CS SN;clear hP2 RT;have bb1:=((Below.refl wr.heap.size wr).alloc (Nat.le_refl _) (.cells #[.int .i64 o.kind,.int .i64 o.user,.int .i64 o.tran,.int .i64 o.item,.int .i64 o.to_] 45)).alloc (by simp) (.cells #[.int .i64 0,.int .i64 0] 47);have XP:=aA ((Box.new wr #[.int .i64 o.kind,.int .i64 o.user,.int .i64 o.tran,.int .i64 o.item,.int .i64 o.to_] 45).old (.cells #[.int .i64 0,.int .i64 0] 47));have XA:=aA (Box.newAt (w:=wr.alloc (.cells #[.int .i64 o.kind,.int .i64 o.user,.int .i64 o.tran,.int .i64 o.item,.int .i64 o.to_] 45)) (n:=wr.heap.size+1) (by simp) #[.int .i64 0,.int .i64 0] 47);have BB:=aA bb1;clear bb1;go_upto_region 10 with fail
     clear x0 x1 x2 x3 x4;generalize (wr.alloc (.cells #[.int .i64 o.kind,.int .i64 o.user,.int .i64 o.tran,.int .i64 o.item,.int .i64 o.to_] 45)).alloc (.cells #[.int .i64 0,.int .i64 0] 47)=wa at *
     have Y0:=aA (V0.o.keep BB.o);have YK:=aA (VK.o.keep BB.o);have Y1:=aA (V1.o.keep BB.o);have YO:=aA (aC.keep QK.kept OA.o BB.o);have YL:=aA OA.o.lt;have NK:=aA (OA.o.notBox VK.o (by decide));have hkl:=VK.o.lt;obtain⟨dd0,dd1,dd2⟩:=Y0.o.three;obtain⟨c0,c1,c2⟩:=YK.o.three;obtain⟨y0,y1,y2,y3,y4⟩:=XP.o.five;obtain⟨v0,v1⟩:=XA.o.two;have g0:=XA.o.frozen 0;have g1:=XA.o.frozen 1;have k0:=YK.o.frozen 0;have k1:=YK.o.frozen 1;have k2:=YK.o.frozen 2;go_upto_region 11 with(go_at_call 21;(with_reducible refine(CS.o _ BB.o).mono ?_);rintro e2 w3 ⟨B2,m2,d2,D2,l2,f2,I2,n2,c2',rfl,dw,hb2,od1,od2,od3⟩;have DW:=aA dw;have B9:=aA hb2;have OD1:=aA od1;have OD2:=aA od2;have OD3:=aA od3;clear dw hb2 od1 od2 od3 dd0 dd1 dd2 c0 c1 c2 y0 y1 y2 y3 y4 v0 v1 g0 g1 k0 k1 k2;obtain⟨c0,c1,c2⟩:=(YK.o.keep B9.o).three;obtain⟨v0,v1⟩:=(XA.o.keep B9.o).two;have g0:=(XA.o.keep B9.o).frozen 0;have g1:=(XA.o.keep B9.o).frozen 1;have k0:=(YK.o.keep B9.o).frozen 0;have k1:=(YK.o.keep B9.o).frozen 1;have k2:=(YK.o.keep B9.o).frozen 2)
     have hb18:wr.heap.size+1<wa.heap.size:=XA.o.lt;have hkn:bk≠wr.heap.size+1:=by omega
     have h1k:w.heap.size+1≠bk:=by omega
     have h1l:=V1.o.lt;have h1n:w.heap.size+1≠wr.heap.size+1:=by omega
     have h0k:bd≠bk:=hne;have h0n:bd≠wr.heap.size+1:=by have:=V0.o.lt;omega
     have SA:=aA (show ∀v0 v1 v2 v3 v4:Value,World.setCell (World.setCell (((w3.setCell ⟨bk,0,none⟩ v0).setCell ⟨bk,1,none⟩ v1).setCell ⟨bk,2,none⟩ v2) ⟨wr.heap.size+1,0,none⟩ v3) ⟨wr.heap.size+1,1,none⟩ v4=World.setCell (World.setCell (((w3.setCell ⟨bk,0,none⟩ v0).setCell ⟨bk,1,none⟩ v1).setCell ⟨bk,2,none⟩ v2) ⟨wr.heap.size+1,0,none⟩ v3) ⟨wr.heap.size+1,1,none⟩ v4 from fun _ _ _ _ _=>rfl);have Z0:=aA ((((((Y0.o.keep B9.o).other (a:=⟨bk,0,none⟩) (.slice B2 m2 d2) h0k).other (a:=⟨bk,1,none⟩) (.slice D2 l2 f2) h0k).other (a:=⟨bk,2,none⟩) (.slice I2 n2 c2') h0k).other (a:=⟨wr.heap.size+1,0,none⟩) (.int .i64 P2.2.2) h0n).other (a:=⟨wr.heap.size+1,1,none⟩) (.int .i64 P2.2.1) h0n);have ZK:=aA ((((YK.o.keep B9.o).set3 (.slice B2 m2 d2) (.slice D2 l2 f2) (.slice I2 n2 c2')).other (a:=⟨wr.heap.size+1,0,none⟩) (.int .i64 P2.2.2) hkn).other (a:=⟨wr.heap.size+1,1,none⟩) (.int .i64 P2.2.1) hkn);have Z1:=aA ((((((Y1.o.keep B9.o).other (a:=⟨bk,0,none⟩) (.slice B2 m2 d2) h1k).other (a:=⟨bk,1,none⟩) (.slice D2 l2 f2) h1k).other (a:=⟨bk,2,none⟩) (.slice I2 n2 c2') h1k).other (a:=⟨wr.heap.size+1,0,none⟩) (.int .i64 P2.2.2) h1n).other (a:=⟨wr.heap.size+1,1,none⟩) (.int .i64 P2.2.1) h1n);have ZA:=aA (((((XA.o.keep B9.o).other (a:=⟨bk,0,none⟩) (.slice B2 m2 d2) hkn.symm).other (a:=⟨bk,1,none⟩) (.slice D2 l2 f2) hkn.symm).other (a:=⟨bk,2,none⟩) (.slice I2 n2 c2') hkn.symm).set2 (.int .i64 P2.2.2) (.int .i64 P2.2.1));have fa:=OD1.o.far VD.o.mark (b:=wr.heap.size+1) (by omega) hb18;have fb:=OD2.o.far VD.o.busy (b:=wr.heap.size+1) (by omega) hb18;have fc:=OD3.o.far VD.o.items (b:=wr.heap.size+1) (by omega) hb18;have ZD:=aA (((DW.o.beside (YK.o.keep B9.o) dH (aK.set3 _ _ (.slice B2 m2 d2) (.slice D2 l2 f2) (.slice I2 n2 c2'))).set (p:=⟨wr.heap.size+1,0,none⟩) (v:=.int .i64 P2.2.2) fa fb fc).set (p:=⟨wr.heap.size+1,1,none⟩) (v:=.int .i64 P2.2.1) fa fb fc);have hu1:=OA.o.notAt (b:=wr.heap.size+1) (by omega);have ZO:=aA ((((((aC.keep QK.kept YO.o B9.o).setOther (p:=⟨bk,0,none⟩) (u:=.slice B2 m2 d2) NK.o (fun _ _ h=>h)).setOther (p:=⟨bk,1,none⟩) (u:=.slice D2 l2 f2) NK.o (fun _ _ h=>h)).setOther (p:=⟨bk,2,none⟩) (u:=.slice I2 n2 c2') NK.o (fun _ _ h=>h)).setOther (p:=⟨wr.heap.size+1,0,none⟩) (u:=.int .i64 P2.2.2) hu1 (fun _ _ h=>h)).setOther (p:=⟨wr.heap.size+1,1,none⟩) (u:=.int .i64 P2.2.1) hu1 (fun _ _ h=>h));have FD2:=aA (FD.o.step (W:=wa) (fun q hq=>Nat.lt_of_lt_of_le (YL.o q hq).2 BB.o.size) OD1.o OD2.o OD3.o);have hwk:w.heap.size≤bk:=by omega
     have hwr:=BV.o.size;have BW:=aA (((aG ((BV.o.trans (BB.o.mono BV.o.size)).trans (B9.o.mono (Nat.le_trans BV.o.size BB.o.size))) hwk (.slice B2 m2 d2) (.slice D2 l2 f2) (.slice I2 n2 c2')).setCell (p:=⟨wr.heap.size+1,0,none⟩) (by show w.heap.size≤wr.heap.size+1;omega) (.int .i64 P2.2.2)).setCell (p:=⟨wr.heap.size+1,1,none⟩) (by show w.heap.size≤wr.heap.size+1;omega) (.int .i64 P2.2.1));clear V0 VK V1 VD OA FD BV BB Y0 YK Y1 YO YL NK XP XA DW B9 OD1 OD2 OD3 fa fb fc c0 c1 c2 v0 v1 g0 g1 k0 k1 k2 hu1 SA;generalize World.setCell (World.setCell (((w3.setCell ⟨bk,0,none⟩ (.slice B2 m2 d2)).setCell ⟨bk,1,none⟩ (.slice D2 l2 f2)).setCell ⟨bk,2,none⟩ (.slice I2 n2 c2')) ⟨wr.heap.size+1,0,none⟩ (.int .i64 P2.2.2)) ⟨wr.heap.size+1,1,none⟩ (.int .i64 P2.2.1)=w4 at *
     obtain⟨v0,v1⟩:=ZA.o.two;have N0:=aA (ZO.o.notBox Z0.o (by decide));have NKK:=aA (ZO.o.notBox ZK.o (by decide));have N1:=aA (ZO.o.notBox Z1.o (by decide));go_wp2_with (at_builtin;refine eY nE rfl _ _ rfl [(P2.2.2,P2.2.1)] #[.int .i64 P2.2.2,.int .i64 P2.2.1] rfl rfl (by first|rfl|simp) rfl (by omega) (by simp[Value.oneCell']) ZO.o a6.ans rfl BW.o BW.o.size (by omega) (by omega) (fun _ _ _ _ h=>h) ?_;intro g' cap w5 own5 hg5 hb5 lies5;have O5:=aA own5;have G5:=aA hg5;have B5:=aA hb5;have L5:=aA lies5;clear own5 hg5 hb5 lies5)
     go_roundw
     case rel=>exact⟨k+1,by omega,by go_num,B2,m2,d2,D2,l2,f2,I2,n2,c2',Z0.o.grown G5.o N0.o,ZK.o.grown G5.o NKK.o,Z1.o.grown G5.o N1.o,aA (by rw[SN.o];exact ZD.o.grown G5.o FD2.o),aA (by rw[SN.o];exact O5.o),FD2.o.app ZD.o L5.o,B5.o⟩
     case measure=>simp[intOf];omega
    ·obtain rfl:k=s:=by omega
     have TK:=aA (show os.take k=os from List.take_of_length_le (by rw[HL.o];exact Nat.le_refl _));rw[TK.o]at VD OA;obtain⟨Au,cu,hu,iu⟩:=OA.o.sl (by omega);have IU:=aA iu;subst hu;clear iu;obtain⟨c0,c1,c2⟩:=VK.o.three;obtain⟨z0,z1,z2⟩:=V1.o.three;have f0:=V1.o.frozen 0;have f1:=V1.o.frozen 1;have f2:=V1.o.frozen 2;go_wp2
     obtain⟨r0,r1,r2⟩:=(V1.o.set3 (.slice B m d) (.slice D l e) (.slice I ni ci)).three;exact bodyPost_ret (v:=.tuple #[.agg #[.slice B m d,.slice D l e,.slice I ni ci],.slice Au k cu,.int .i64 0]) (by simp[results,Tryz.results7,go_sem,r0,r1,r2]) rfl (by rw[FN.o];exact⟨B,m,d,D,l,e,I,ni,ci,Au,k,cu,rfl,VD.o.beside V1.o dH (aK.set3 _ _ _ _ _),Sl.beside IU.o (by omega) (fun vs x hx=>⟨⟨_,hx.1⟩,hx⟩) V1.o dH (aK.set3 _ _ _ _ _),aG BV.o (by omega) _ _ _⟩)
  ·refine AY rfl rfl (fun K hK=>?_) (fun K hK=>?_)
   ·go_simp
    have hc:=hH;refine hK.out _ _ (by simp[*,World.cell?_alloc_some]) (fun hH=>?_);clear hK;try simp only[Act.put,aL,aM,aN]
    refine bI rfl (fun K hK=>?_);go_simp
    refine hK.out _ _ (by simp[*,World.cell?_alloc_some]) (fun hH=>?_);clear hK;exact EN.o _ _ ⟨w3.heap.size,w3.heap.size+1,rfl,(Box.new _ _ _).old _,Box.newAt (by simp) _ _,⟨by omega,by omega,by omega⟩,((Below.refl _ _).alloc (Nat.le_refl _) _).alloc (by simp) _⟩ hH
   ·go_simp
    have hc:=hH;refine hK.out _ _ (by simp[*,World.cell?_alloc_some]) (fun hH=>?_);clear hK;try simp only[Act.put,aL,aM,aN]
    refine bI rfl (fun K hK=>?_);go_simp
    refine hK.out _ _ (by simp[*,World.cell?_alloc_some]) (fun hH=>?_);clear hK;exact EN.o _ _ ⟨w3.heap.size+1,w3.heap.size,rfl,Box.newAt (by simp) _ _,(Box.new _ _ _).old _,⟨by omega,by omega,by omega⟩,((Below.refl _ _).alloc (Nat.le_refl _) _).alloc (by simp) _⟩ hH
 ·have FN:=aA (Qy (roles:=roles) (l:=os) HP.o he);have hee:(p.2 != 0)=true:=by simpa using he
  clear he;go_wp2
  obtain⟨r0,r1,r2⟩:=(W1.o.set3 (.slice none 0 0) (.slice none 0 0) (.slice none 0 0)).three;exact bodyPost_ret (v:=.tuple #[.agg #[.slice none 0 0,.slice none 0 0,.slice none 0 0],.slice none 0 0,.int .i64 p.2]) (by simp[results,Tryz.results7,go_sem,r0,r1,r2]) rfl (by rw[FN.o];exact⟨none,0,0,none,0,0,none,0,0,none,0,0,rfl,⟨Sl.nil0,Sl.nil0,Sl.nil0⟩,Sl.nil0,aG BC.o (by omega) _ _ _⟩)
end Go.Proofs.YtfmnagcglhlicaaGreat
