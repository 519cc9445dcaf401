/- The plain law of judging, and the contract of live.Onward. Conditions: the space reads as lists, its arcs are between marks. | The contract of Judge. Conditions: the net reads as a list. -/
import Derived.Test.YtfmnagcglhlicaaGreatTopCrashK17
set_option maxRecDepth 100000
set_option maxHeartbeats 4000000
namespace Go.Proofs.YtfmnagcglhlicaaGreat
open Go.RowKit
def JU (p:LIn→Bool)(ms:LLi)(k:Nat):LIn:=((List.range k).filter fun j=>(ms[j]?).any p).map fun(j:Nat)=>(j:Int)
theorem N9 {p:LIn→Bool}{ms:LLi}{k:Nat}{x:LIn}(h:ms[k]?=some x):JU p ms (k+1)=JU p ms k++if p x=true then [(k:Int)]else []:=by
 unfold JU;rw[List.range_succ,List.filter_append,List.map_append];cases hp:p x <;> simp[h,hp]
theorem UR {p:LIn→Bool}{ms:LLi}{k n:Nat}(hk:k≤n):∀s∈JU p ms k,Inn n s:=by
 intro s hs;obtain⟨j,hj,rfl⟩:=List.mem_map.1 hs;have:=List.mem_range.1 (List.mem_filter.1 hj).1;exact⟨by omega,by omega⟩
theorem JV {N:aS}{M:Nat}{m:LIn}{f:Int}:∀(l:LIn) {s s':PSp} (_:hJ N M m f l (some s)=some s'),s'.arcs.length≤s.arcs.length+l.length:=by
 intro l;induction l with
 | nil =>
  intro s s' h;have:s=s':=by simpa [hJ] using h
  subst this;simp
 | cons t l ih =>
  intro s s' h;have h':hJ N M m f l (cS N M m f s t)=some s':=h;cases h1:cS N M m f s t with
  | none=>rw[h1,nH]at h';cases h'
  | some s1 =>
   rw[h1]at h';have h2:=ih h';have h3:s1.arcs.length≤s.arcs.length+1:=by
    unfold cS at h1;split at h1
    ·simp only[Option.some.injEq]at h1;subst h1;omega
    ·split at h1
     ·have:=Na h1;omega
     ·cases h1
   simp only[List.length_cons];omega
theorem Rr {N:aS}{M:Nat}:∀(g f:Nat) {s s':PSp} (_:goM N M g f s=some s'),s'.arcs.length≤s.arcs.length+g*N.trans.length:=by
 intro g;induction g with
 | zero =>
  intro f s s' h;have:s=s':=by simpa [goM] using h
  subst this;omega
 | succ g ih =>
  intro f s s' h;unfold goM at h;split at h
  ·cases h1:yX N M f s with
   | none=>rw[h1]at h;cases h
   | some s1 =>
    rw[h1]at h;have h2:=ih (f+1) h;have h3:=JV _ h1;have h4:(VG N.trans.length).length=N.trans.length:=by simp[VG]
    rw[Nat.succ_mul];omega
  ·simp only[Option.some.injEq]at h;subst h;omega
theorem pI {N:aS}{m:LIn}{most:Int}(h:(bG N m most).2=0):(bG N m most).1.arcs.length≤7200:=by
 unfold bG at h ⊢;split at h
 ·rename_i h1
  rw[if_pos h1];cases hg:goM N most.toNat most.toNat 0 ⟨[m],[]⟩ with
  | none=>rw[hg]at h;simp at h
  | some s1 =>
   have h2:=Rr _ _ hg;have h3:N.trans.length≤24:=((aQ _).1 ((bD _ _).1 h1.2.2).1).2.2.1;have h4:most.toNat*N.trans.length≤300*24:=Nat.mul_le_mul (by omega) h3;simp only[List.length_nil]at h2;show s1.arcs.length≤7200
   omega
 ·simp at h
def Xv (bs:List Bool)(n:Nat)(w:World)(e:Ending)(w':World):Prop:=∃g,e=.returned (.slice (some ⟨g,0,none⟩) n n)∧UL w' g n bs∧Below w.heap.size w w'
theorem Dc {w:World}{A D:OAd}{n c m d:Nat}{ms:LLi}{ars:List bO}{F:FuncId}{cap:Array Value}{p:LIn→Bool}(h:bT w A n c ms)(g:tN w D m d ars)(hp:uX F cap w p)(hn:n≤300)(hm:m≤7200)(hf:∀a∈ars,Inn n a.from_)(ht:∀a∈ars,Inn n a.to_) :
  Calls Tryz.prog 32 #[.agg #[.slice A n c,.slice D m d],.func (.func F) #[] cap] w (Xv (kC ars n (JU p ms n)) n w):=by
 have HB:=aA (aB w (.cells #[.slice A n c,.slice D m d] 83));have X0:=aA (Box.new w #[.slice A n c,.slice D m d] 83);have henter:=hp.enters;have H:=aA h;have G:=aA g;have HP:=aA hp;have HF:=aA hf;have HT:=aA ht;have ham:ars.length=m:=g.len;have HTJ:=aA (show ∀(k:Nat) (a:bO),ars[k]?=some a→0≤a.to_∧a.to_<(n:Int)from fun k a hk=>ht a (List.mem_of_getElem? hk));clear h g hp hf ht;go_enter Tryz.func32,Tryz.ntmps32
 go_upto_region 1 with fail
 generalize w.alloc (.cells #[.slice A n c,.slice D m d] 83)=w0 at *
 obtain⟨c0,c1⟩:=X0.o.two;go_wp2
 go_loopw [5,11] (fun v i wr=>∃(k l:Nat),k≤n∧i=.int .i64 k∧l≤k∧Hid (aD wr w0.heap.size v l (JU p ms k))∧Hid (Below w0.heap.size w0 wr)) (fun _ i _=>n-(intOf i).toNat)
 case atStart=>exact⟨0,0,Nat.zero_le _,rfl,Nat.zero_le _,aC.nil,Below.refl _ _⟩
 case round =>
  obtain⟨k,l,hk,rfl,hlk,OW,BW⟩:=hrel;have BW1:=aA (HB.o.trans (BW.o.mono HB.o.size));clear c0 c1;by_cases hlt:k<n
  ·have hki:(k:Int)<(n:Int):=by omega
   obtain⟨b,off,x,A1,n1,c1,rfl,hb,hx,q0,i1,hn1⟩:=bT.get (Sl.keep bH.kept H.o BW1.o) hlt;have CL:=aA (HP.o.calls wr A1 n1 c1 x BW1.o i1);have PS:=aA (N9 (p:=p) hx.o);obtain⟨q,hq⟩:∃q,p x=q:=⟨_,rfl⟩;rw[hq]at CL PS;clear hq i1 hx;cases q
   ·go_wp2_with (refine CL.o.mono ?_;rintro e w' ⟨rfl,hb'⟩;have HB':=aA hb';clear hb')
    go_roundw
    case rel=>exact⟨k+1,l,by omega,by go_num,by omega,by rw[PS.o];exact aA (by simpa using OW.o.keep iG.kept HB'.o),aA (BW.o.trans (HB'.o.mono BW.o.size))⟩
    case measure=>simp[intOf];omega
   ·go_wp2_with (first
     |(at_builtin;refine dE rfl _ _ rfl rfl rfl (by first|rfl|simp) (OW.o.keep iG.kept HB'.o) (BW.o.trans (HB'.o.mono BW.o.size)) (BW.o.trans (HB'.o.mono BW.o.size)).size (by omega) ?_;intro v2 w2 own2 hg2 hb2)
     |(refine CL.o.mono ?_;rintro e w' ⟨rfl,hb'⟩;have HB':=aA hb';clear hb'))
    go_roundw
    case rel=>exact⟨k+1,l+1,by omega,by go_num,by omega,by rw[PS.o];exact own2,hb2⟩
    case measure=>simp[intOf];omega
  ·obtain rfl:k=n:=by omega
   obtain⟨A2,c2,hv,i2⟩:=OW.o.sl (by omega);subst hv;have I2:=aA i2;obtain⟨c0,c1⟩:=(X0.o.keep BW.o).two;have LB:=aA (uR (Sl.keep bH.kept H.o BW1.o) (Sl.keep tM.kept G.o BW1.o) (by omega) (by omega) HTJ.o);have SP:=aA (fun(w3:World) (A3:OAd) (c3:Nat) (hb:Below wr.heap.size wr w3) (hl:bT w3 A3 k c3 (iH bO.to_ bO.from_ ars k))=>CZ hl (Sl.keep iG.kept I2.o hb) (by omega) (by omega) (by omega) (UR (Nat.le_refl _)) HF.o HT.o);clear i2 henter;go_wp2_with (first
    |(go_at_call 67;(with_reducible refine LB.o.mono ?_);rintro e w3 ⟨g3,rfl,lw,b3⟩;have LW:=aA (lw.lists (by omega) (fun x hx=>by have:=Ft hx;omega));have B3:=aA b3;clear lw b3)
    |(go_at_call 66;(with_reducible refine(SP.o _ _ _ B3.o LW.o).mono ?_);rintro e w4 ⟨g4,rfl,ob,b4⟩;have OB:=aA ob.s;have B4:=aA b4;clear ob b4))
   go_ret
   exact⟨g4,rfl,OB.o,(BW1.o.trans (B3.o.mono BW1.o.size)).trans (B4.o.mono (BW1.o.trans (B3.o.mono BW1.o.size)).size)⟩
theorem Oa {α:Type}{p:α→Bool}{ms:List α}{k:Nat}{x:α}(h:∀j,j<k→∀y,ms[j]?=some y→p y=false)(hx:ms[k]?=some x)(hp:p x=true):ms.find? p=some x:=by
 obtain⟨hk,e⟩:=List.getElem?_eq_some_iff.1 hx;rw[List.find?_eq_some_iff_getElem];exact⟨hp,k,hk,e,fun j hj=>by simpa using h j hj _ (List.getElem?_eq_getElem (by omega))⟩
theorem Ob {α:Type}{p:α→Bool}{ms:List α}(h:∀j,j<ms.length→∀y,ms[j]?=some y→p y=false):ms.find? p=none:=by
 rw[List.find?_eq_none];intro x hx;obtain⟨j,hj⟩:=List.mem_iff_getElem?.1 hx;have:=h j (List.getElem?_eq_some_iff.1 hj).1 x hj;simp[this]
theorem FI {α:Type}{p:α→Bool}{bs:List α}{ix:Option Nat}(h:bs.findIdx? p=ix):cC p bs=ix.elim (-1) (fun k=>(k:Int)):=by
 unfold cC;rw[h];cases ix <;> rfl
abbrev W9:=Int×LIn×Int
def jM (e m:LIn):Bool:=cA m e&&!(m==e)
noncomputable def onL (s:PSp)(e:LIn):List Bool:=kC s.arcs s.marks.length (JU (fun m=>m==e) s.marks s.marks.length)
noncomputable def mN (s:PSp)(e:LIn)(dead:LIn):W9 :=
 match s.marks.find? (jM e) with
 | some m=>(2,m,0)
 | none=>match(onL s e).findIdx? (fun y=>false==y) with
  | some k=>(3,s.marks.getD k [],0)
  | none=>match dead with
   | t::_=>(4,[],t)
   | []=>(1,[],0)
noncomputable def dU (N:aS)(i o most:Int):W9×Int :=
 if dV N i o=0 then(if(bG N (gX (min N.places 16).toNat i) most).2=0 then(mN (bG N (gX (min N.places 16).toNat i) most).1 (gX (min N.places 16).toNat o) (pG (bG N (gX (min N.places 16).toNat i) most).1.arcs (min (N.trans.length:Int) 24).toNat),0)
  else((0,[],0),(bG N (gX (min N.places 16).toNat i) most).2))else((0,[],0),dV N i o)
theorem Df {N:aS}{i o most:Int}(h:dV N i o≠0):dU N i o most=((0,[],0),dV N i o):=by rw[dU,if_neg h]
theorem JX {N:aS}{i o most:Int}{g:PSp×Int}(h:dV N i o=0)(hg:bG N (gX (min N.places 16).toNat i) most=g)(he:g.2≠0):dU N i o most=((0,[],0),g.2):=by rw[dU,if_pos h,hg,if_neg he]
theorem x7 {N:aS}{i o most:Int}{s:PSp}(h:dV N i o=0)(hg:bG N (gX (min N.places 16).toNat i) most=(s,0)):dU N i o most=(mN s (gX (min N.places 16).toNat o) (pG s.arcs (min (N.trans.length:Int) 24).toNat),0):=by rw[dU,if_pos h,hg,if_pos rfl]
theorem Dh {s:PSp}{e m d:LIn}(h:s.marks.find? (jM e)=some m):mN s e d=(2,m,0):=by unfold mN;simp only[h]
theorem Di {s:PSp}{e m d:LIn}{k:Nat}(h:s.marks.find? (jM e)=none)(hk:(onL s e).findIdx? (fun y=>false==y)=some k)(hm:s.marks[k]?=some m):mN s e d=(3,m,0):=by
 unfold mN;simp only[h,hk,List.getD_eq_getElem?_getD,hm,Option.getD_some]
theorem FM {s:PSp}{e d:LIn}{t:Int}(h:s.marks.find? (jM e)=none)(hk:(onL s e).findIdx? (fun y=>false==y)=none):mN s e (t::d)=(4,[],t):=by
 unfold mN;simp only[h,hk]
theorem sH {s:PSp}{e:LIn}(h:s.marks.find? (jM e)=none)(hk:(onL s e).findIdx? (fun y=>false==y)=none):mN s e []=(1,[],0):=by
 unfold mN;simp only[h,hk]
theorem rL {N:aS}{i o:Int}(h:dV N i o=0):2≤N.places∧cX N=true:=by
 unfold dV at h;split at h
 ·rename_i h1
  split at h
  ·rename_i h2
   simp only[inB,Bool.and_eq_true,decide_eq_true_eq]at h2;exact⟨by omega,h1⟩
  ·simp at h
 ·simp at h
theorem aJ.farV {w:World}{A B:OAd}{n c m d b ty:Nat}{x y:Int}{xs:LIn}(h:aJ w A n c xs)(hn:2≤n)(hb:Box w b ty #[.int .i64 x,.slice B m d,.int .i64 y]):∀b' off,A=some ⟨b',off,none⟩→0<n→b'≠b:=by
 intro b' off e _ hbb;subst hbb;obtain⟨b2,off2,e2,hlt,hc⟩:=h.cells (by omega);rw[e]at e2;injection e2 with e2;injection e2 with e3 e4;subst e3 e4;have key:∀j,j<n→∃z,w.cell? ⟨b',off+j,none⟩=some (.int .i64 z):=fun j hj=>by
  obtain⟨vs,a,b⟩:=hc j _ (List.getElem?_eq_getElem (by rw[h.len];exact hj));have:=a 0 (by omega);rw[b]at this;exact⟨_,by simpa using this⟩
 obtain⟨z0,h0⟩:=key 0 (by omega);obtain⟨z1,h1⟩:=key 1 (by omega);have c:∀j,w.cell? ⟨b',j,none⟩=(#[.int .i64 x,.slice B m d,.int .i64 y]:Array Value)[j]?:=fun j=>hb.cell j
 rw[c]at h0 h1;match off,h0,h1 with
 | 0,_,h1=>simp at h1
 | 1,h0,_=>simp at h0
 | 2,_,h1=>simp at h1
 | k+3,h0,_=>simp at h0
theorem aJ.setV {w:World}{A B:OAd}{n c m d b ty:Nat}{x y:Int}{xs:LIn}(h:aJ w A n c xs)(hn:2≤n)(hb:Box w b ty #[.int .i64 x,.slice B m d,.int .i64 y])(v0 v1 v2:Value):aJ (((w.setCell ⟨b,0,none⟩ v0).setCell ⟨b,1,none⟩ v1).setCell ⟨b,2,none⟩ v2) A n c xs:=by
 refine h.same (by simp[World.setCell]) (fun b' off e h0 _=>?_);have hne:=h.farV hn hb b' off e h0;rw[heap_setCell_other _ _ _ _ hne,heap_setCell_other _ _ _ _ hne,heap_setCell_other _ _ _ _ hne]
theorem bT.besideZ {w:World}{b ty:Nat}{A:OAd}{n c:Nat}{ms:LLi}(h:bT w A n c ms)(hm:∀x∈ms,2≤x.length)(hb:Box w b ty #[.slice none 0 0,.slice none 0 0])(u v:Value):bT ((w.setCell ⟨b,0,none⟩ u).setCell ⟨b,1,none⟩ v) A n c ms :=
 ⟨h.len,h.le,h.cap,h.small,h.nul,fun hn=>by
  have hw:=aK.set2 w b 0 1 u v;obtain⟨b',off,e,hlt,hc⟩:=h.cells hn;refine⟨b',off,e,by rw[hw.1];exact hlt,fun i x hx=>?_⟩;obtain⟨vs,h1,A2,n2,c2,e2,i2,l2⟩:=hc i x hx;refine⟨vs,fun j hj=>?_,A2,n2,c2,e2,i2.beside hb jF hw,l2⟩;by_cases hbb:b'=b
  ·subst hbb;exfalso
   have h3:=h1 0 (by omega);have h2:=hm x (List.mem_of_getElem? hx);rw[i2.len]at h2;rw[hb.cell,e2]at h3;rcases Nat.lt_or_ge (off+i*1+0) 2 with hlt|hge
   ·have:off+i*1+0=0∨off+i*1+0=1:=by omega
    rcases this with e5|e5 <;> rw[show off+(i*1+0)=off+i*1+0 from rfl,e5]at h3 <;> simp at h3 <;> omega
   ·rw[Array.getElem?_eq_none (by simpa using hge)]at h3;cases h3
  ·rw[hw.cell (by simpa using hbb)];exact h1 j hj⟩
theorem tN.besideZ {w:World}{b ty:Nat}{A:OAd}{n c:Nat}{ars:List bO}(h:tN w A n c ars)(hb:Box w b ty #[.slice none 0 0,.slice none 0 0])(u v:Value):tN ((w.setCell ⟨b,0,none⟩ u).setCell ⟨b,1,none⟩ v) A n c ars :=
 ⟨h.len,h.le,h.cap,h.small,h.nul,fun hn=>by
  have hw:=aK.set2 w b 0 1 u v;obtain⟨b',off,e,hlt,hc⟩:=h.cells hn;refine⟨b',off,e,by rw[hw.1];exact hlt,fun i x hx=>?_⟩;obtain⟨vs,h1,h2⟩:=hc i x hx;refine⟨vs,fun j hj=>?_,h2⟩;by_cases hbb:b'=b
  ·subst hbb;exfalso
   have h3:=h1 0 (by omega);rw[hb.cell,h2.1]at h3;exact jF _ _ h3
  ·rw[hw.cell (by simpa using hbb)];exact h1 j hj⟩
def Xw (p:W9×Int)(w:World)(e:Ending)(w':World):Prop :=
 ∃A n c,e=.returned (.tuple #[.agg #[.int .i64 p.1.1,.slice A n c,.int .i64 p.1.2.2],.int .i64 p.2])∧aJ w' A n c p.1.2.1∧Below w.heap.size w w'
theorem JZ {w:World}{bn n c:Nat}{A:OAd}{xs:LIn}(x:Box w bn 28 #[.slice A n c])(h:aJ w A n c xs):uX 33 #[.pointer (some ⟨bn,0,none⟩)] w (fun y=>y==xs) where
 enters:=fun args w=>by kernel_rfl
 calls:=fun wr A1 n1 c1 y hb hi=>by
  have q:=(x.keep hb).cell 0;simp only[List.getElem?_toArray,List.getElem?_cons_zero]at q;have H:=aA (h.keep hb);have HI:=aA hi;show Calls Tryz.prog 33 #[.slice A1 n1 c1,.pointer (some ⟨bn,0,none⟩)] wr _
  clear hb x h hi;go_enter Tryz.func33,Tryz.ntmps33
  go_wp2_with ((with_reducible refine(dT HI.o H.o).mono ?_);rintro e w4 ⟨rfl,dr⟩;have BD:=aA dr.below;clear dr)
  go_ret
  exact⟨rfl,BD.o⟩
theorem pJ {w:World}{P:Int}{A:OAd}{n c:Nat}{ts:List aI}(i o most:Int)(h:bK w A n c ts)(hn:n≤2513169434916) :
  Calls Tryz.prog 13 #[.agg #[.int .i64 P,.slice A n c],.int .i64 i,.int .i64 o,.int .i64 most] w (Xw (dU ⟨P,ts⟩ i o most) w):=by
 generalize hw:((w.alloc (.cells #[.int .i64 P,.slice A n c] 24)).alloc (.cells #[.int .i64 0,.slice none 0 0,.int .i64 0] 56))=w0;have HB:=aA (show Below w.heap.size w w0 by rw[←hw];exact((Below.refl _ _).alloc (Nat.le_refl _) _).alloc (by simp) _);have X0:=aA (show Box w0 w.heap.size 24 #[.int .i64 P,.slice A n c] by rw[←hw];exact(Box.new _ _ _).old _);have X1:=aA (show Box w0 (w.heap.size+1) 56 #[.int .i64 0,.slice none 0 0,.int .i64 0] by rw[←hw];exact Box.newAt (by simp) _ _);have H:=aA (h.keep HB.o);have CW:=aA (lX (P:=P) i o H.o hn);have JW:=aA (Df (N:=⟨P,ts⟩) (i:=i) (o:=o) (most:=most));have JE:=aA (fun(g:PSp×Int)=>JX (N:=⟨P,ts⟩) (i:=i) (o:=o) (most:=most) (g:=g));have JY:=aA (fun(s:PSp)=>x7 (N:=⟨P,ts⟩) (i:=i) (o:=o) (most:=most) (s:=s));clear h;obtain⟨R,hR⟩:∃R,dU ⟨P,ts⟩ i o most=R:=⟨_,rfl⟩;rw[hR]at JW;simp only[hR]at JE JY;rw[hR];clear hR;have S2:=aA (fun hs=>rL (N:=⟨P,ts⟩) (i:=i) (o:=o) hs);obtain⟨sw,hsw⟩:∃sw,dV ⟨P,ts⟩ i o=sw:=⟨_,rfl⟩;rw[hsw]at JW CW S2;simp only[hsw]at JE JY;clear hsw;go_enter Tryz.func13,Tryz.ntmps13
 go_upto_region 1 with fail
 clear hw;obtain⟨a0,a1⟩:=X0.o.two;obtain⟨z0,z1,z2⟩:=X1.o.three;by_cases hs0:sw=0
 ·subst hs0;obtain⟨p2,hok⟩:=S2.o rfl;go_upto_region 4 with(go_at_call 24;go_loud ((with_reducible refine CW.o.mono ?_);rintro e w1 ⟨rfl,hb1⟩;have B1:=aA hb1;clear hb1))
  have Y0:=aA (X0.o.keep B1.o).drew;have Y1:=aA (X1.o.keep B1.o).drew;have BZ:=aA (HB.o.trans (B1.o.mono HB.o.size)).drew;have H1:=aA (show bK w1.drew A n c ts from(H.o.keep B1.o).keep ⟨rfl,rfl,rfl,Nat.le_refl _,fun _ _=>rfl⟩);obtain⟨pn,hpn⟩:∃pn,(min P 16).toNat=pn:=⟨_,rfl⟩;have HPN:=aA hpn;obtain⟨g,hg⟩:∃g,bG ⟨P,ts⟩ (gX pn i) most=g:=⟨_,rfl⟩;have hp16:P≤16:=((aQ _).1 hok).2.1;have hpn2:2≤pn:=by omega
  have JE1:=aA (fun(he:g.2≠0)=>JE.o g (by first|rfl|trivial) (by rw[hpn];exact hg) he);have JY1:=aA (fun(s:PSp) (he:g=(s,0))=>JY.o s (by first|rfl|trivial) (by rw[hpn,hg];exact he));simp only[hpn]at JY1;have NIL:=aA (fun(he:g.2≠0)=>show g.1=PSp.nil by rw[←hg];exact rK (by rw[hg];exact he));have SPK:=aA (fun(he:g.2=0)=>show(1≤most∧most≤300)∧lW ⟨P,ts⟩ most.toNat g.1 by rw[←hg];exact jG (by rw[hg];exact he));have ARC:=aA (fun(he:g.2=0)=>show g.1.arcs.length≤7200 by rw[←hg];exact pI (by rw[hg];exact he));have CG:=aA (fun(w':World) (C:OAd) (kc:Nat) (hb:Below w1.drew.heap.size w1.drew w') (hi:aJ w' C pn kc (gX pn i))=>show Calls _ _ _ _ (tO g w') by rw[←hg];exact uW (P:=P) most (H1.o.keep hb) hi);have BU0:=aA (Below.refl w1.drew.heap.size w1.drew);have ML:=aA (show ∀x∈g.1.marks,2≤x.length from fun x hx=>by
   by_cases he:g.2=0
   ·have:=((bD _ _).1 ((SPK.o he).2.fits x hx)).2.1;simp only at this;omega
   ·rw[NIL.o he]at hx;cases hx)
  clear hg hpn JE JY JW S2 X0 X1 HB H B1 a0 a1 z0 z1 z2;obtain⟨s,k⟩:=g;simp only at NIL SPK ML JE1 ARC;obtain⟨a0,a1⟩:=Y0.o.two;refine aF 11 (.takes [0,1,2,4] (.two 3 (.two 5 (.takes [6,7,8] (.one 9 (.one 10 (.fin 11 .done)))) 9 (.one 5 (.takes [6,7,8] (.one 10 (.fin 11 .done))))) 9 (.one 3 (.one 5 (.takes [6,7,8] (.one 10 (.fin 11 .done))))))) (fun w'=>w'.cell? ⟨w.heap.size,0,none⟩=some (.int .i64 P)∧w'.cell? ⟨w.heap.size,1,none⟩=some (.slice A n c)) (by kernel_rfl) (by kernel_rfl) (by kernel_rfl) (fun _ _ _ _ _ h=>h) ⟨a0,a1⟩ (fun hH=>?_);simp only[Scr.takes];generalize w1.drew=u0 at *
  iterate 4
   refine aH (v:=?_) rfl (by rfl) hH (fun w' hSw=>?_) ?_
   rotate_left
   ·(go_simp;try with_reducible rfl)
   try simp only[Act.put,aL,aM,aN]
  refine Ny (.fin 11 .done) (fun a0 a' w'=>∃(C:OAd) (kc:Nat) (U:OAd) (cu:Nat) (V:OAd) (cv b11:Nat),a'=((((((a0.put (some 31) (.slice C pn kc)).put (some 33) (.tuple #[.agg #[.slice U s.marks.length cu,.slice V s.arcs.length cv],.int .i64 k])).put (some 27) (.tuple #[.agg #[.slice U s.marks.length cu,.slice V s.arcs.length cv],.int .i64 k])).put (some 34) (.agg #[.slice U s.marks.length cu,.slice V s.arcs.length cv])).put (some 35) (.int .i64 k)).put (some 11) (.pointer (some ⟨b11,0,none⟩)))∧Hid (Box w' b11 83 #[.slice U s.marks.length cu,.slice V s.arcs.length cv])∧Hid (bT w' U s.marks.length cu s.marks)∧Hid (tN w' V s.arcs.length cv s.arcs)∧Hid (Below u0.heap.size u0 w')) ?_ (fun EN=>?_)
  rotate_left
  ·refine AY rfl rfl (fun Kf hKf=>?_) (fun Kf hKf=>?_)
   ·go_simp;go_at_call 9
    (with_reducible refine(dY u0 P i A n c).mono ?_)
    rw[HPN.o];rintro e u1 ⟨C,kc,rfl,hi,hb,_⟩;have Iu1:=aA hi;have Bu1:=aA (BU0.o.trans (hb.mono BU0.o.size));clear hi hb;refine hKf.out _ _ ⟨(Y0.o.keep Bu1.o).two.1,(Y0.o.keep Bu1.o).two.2⟩ (fun hH=>?_);clear hKf;try simp only[Act.put,aL,aM,aN]
    refine AY rfl rfl (fun Kf hKf=>?_) (fun Kf hKf=>?_)
    ·go_simp;go_at_call 25
     (with_reducible refine(CG.o u1 _ _ Bu1.o Iu1.o).mono ?_)
     rintro e u2 ⟨U,cu,V,cv,rfl,hL,hA,hb⟩;have Lu2:=aA hL;have Au2:=aA hA;have Bu2:=aA (Bu1.o.trans (hb.mono Bu1.o.size));clear hL hA hb;refine hKf.out _ _ ⟨(Y0.o.keep Bu2.o).two.1,(Y0.o.keep Bu2.o).two.2⟩ (fun hH=>?_);clear hKf
     iterate 3
      refine aH (v:=?_) rfl (by rfl) hH (fun w' hSw=>?_) ?_
      rotate_left
      ·(go_simp;try with_reducible rfl)
      try simp only[Act.put,aL,aM,aN]
     refine bI rfl (fun Kf hKf=>?_);go_simp
     have Bu3:=aA (show Below u0.heap.size u0 (u2.alloc (.cells #[.slice none 0 0,.slice none 0 0] 83))from Bu2.o.alloc Bu2.o.size _);have Xu3:=aA (show Box (u2.alloc (.cells #[.slice none 0 0,.slice none 0 0] 83)) u2.heap.size 83 #[.slice none 0 0,.slice none 0 0]from Box.new _ _ _);have Nu3:=aA (show u0.heap.size≤u2.heap.size from Bu2.o.size);have Lu3:=aA (Sl.keep bH.kept Lu2.o ((Below.refl u2.heap.size u2).alloc (Nat.le_refl _) (.cells #[.slice none 0 0,.slice none 0 0] 83)));have Au3:=aA (Sl.keep tM.kept Au2.o ((Below.refl u2.heap.size u2).alloc (Nat.le_refl _) (.cells #[.slice none 0 0,.slice none 0 0] 83)));refine hKf.out _ _ ⟨(Y0.o.keep Bu3.o).two.1,(Y0.o.keep Bu3.o).two.2⟩ (fun hH=>?_);clear hKf;try simp only[Act.put,aL,aM,aN]
     generalize u2.alloc (.cells #[.slice none 0 0,.slice none 0 0] 83)=u3 at *
     refine bI rfl (fun Kf hKf=>?_);obtain⟨s0,s1⟩:=Xu3.o.two;have sf0:=Xu3.o.frozen 0;have sf1:=Xu3.o.frozen 1;go_simp
     have BE:=aA (fR Bu3.o (Nat.le_refl _) Nu3.o (.slice U s.marks.length cu) (.slice V s.arcs.length cv));refine hKf.out _ _ ⟨(Y0.o.keep BE.o).two.1,(Y0.o.keep BE.o).two.2⟩ (fun hH=>?_);clear hKf;try simp only[Act.put,aL,aM,aN]
     exact EN.o _ _ ⟨C,kc,U,cu,V,cv,u2.heap.size,rfl,aA (Xu3.o.set2 _ _),aA (bT.besideZ Lu3.o ML.o Xu3.o _ _),aA (tN.besideZ Au3.o Xu3.o _ _),BE⟩ hH
    ·go_simp
     have Bu2:=aA (show Below u0.heap.size u0 (u1.alloc (.cells #[.slice none 0 0,.slice none 0 0] 83))from Bu1.o.alloc Bu1.o.size _);have Xu2:=aA (show Box (u1.alloc (.cells #[.slice none 0 0,.slice none 0 0] 83)) u1.heap.size 83 #[.slice none 0 0,.slice none 0 0]from Box.new _ _ _);have Nu2:=aA (show u0.heap.size≤u1.heap.size from Bu1.o.size);have Iu2:=aA (Sl.keep iG.kept Iu1.o ((Below.refl u1.heap.size u1).alloc (Nat.le_refl _) (.cells #[.slice none 0 0,.slice none 0 0] 83)));refine hKf.out _ _ ⟨(Y0.o.keep Bu2.o).two.1,(Y0.o.keep Bu2.o).two.2⟩ (fun hH=>?_);clear hKf;try simp only[Act.put,aL,aM,aN]
     generalize u1.alloc (.cells #[.slice none 0 0,.slice none 0 0] 83)=u2 at *
     refine bI rfl (fun Kf hKf=>?_);go_simp;go_at_call 25
     (with_reducible refine(CG.o u2 _ _ Bu2.o Iu2.o).mono ?_)
     rintro e u3 ⟨U,cu,V,cv,rfl,hL,hA,hb⟩;have Lu3:=aA hL;have Au3:=aA hA;have Xu3:=aA (Xu2.o.keep hb);have Bu3:=aA (Bu2.o.trans (hb.mono Bu2.o.size));clear hL hA hb;refine hKf.out _ _ ⟨(Y0.o.keep Bu3.o).two.1,(Y0.o.keep Bu3.o).two.2⟩ (fun hH=>?_);clear hKf
     iterate 3
      refine aH (v:=?_) rfl (by rfl) hH (fun w' hSw=>?_) ?_
      rotate_left
      ·(go_simp;try with_reducible rfl)
      try simp only[Act.put,aL,aM,aN]
     refine bI rfl (fun Kf hKf=>?_);obtain⟨s0,s1⟩:=Xu3.o.two;have sf0:=Xu3.o.frozen 0;have sf1:=Xu3.o.frozen 1;go_simp
     have BE:=aA (fR Bu3.o (Nat.le_refl _) Nu2.o (.slice U s.marks.length cu) (.slice V s.arcs.length cv));refine hKf.out _ _ ⟨(Y0.o.keep BE.o).two.1,(Y0.o.keep BE.o).two.2⟩ (fun hH=>?_);clear hKf;try simp only[Act.put,aL,aM,aN]
     exact EN.o _ _ ⟨C,kc,U,cu,V,cv,u1.heap.size,rfl,aA (Xu3.o.set2 _ _),aA (bT.besideZ Lu3.o ML.o Xu3.o _ _),aA (tN.besideZ Au3.o Xu3.o _ _),BE⟩ hH
   ·go_simp
    have Bu1:=aA (show Below u0.heap.size u0 (u0.alloc (.cells #[.slice none 0 0,.slice none 0 0] 83))from BU0.o.alloc BU0.o.size _);have Xu1:=aA (show Box (u0.alloc (.cells #[.slice none 0 0,.slice none 0 0] 83)) u0.heap.size 83 #[.slice none 0 0,.slice none 0 0]from Box.new _ _ _);have Nu1:=aA (show u0.heap.size≤u0.heap.size from BU0.o.size);refine hKf.out _ _ ⟨(Y0.o.keep Bu1.o).two.1,(Y0.o.keep Bu1.o).two.2⟩ (fun hH=>?_);clear hKf;try simp only[Act.put,aL,aM,aN]
    generalize u0.alloc (.cells #[.slice none 0 0,.slice none 0 0] 83)=u1 at *
    refine bI rfl (fun Kf hKf=>?_);go_simp;go_at_call 9
    (with_reducible refine(dY u1 P i A n c).mono ?_)
    rw[HPN.o];rintro e u2 ⟨C,kc,rfl,hi,hb,_⟩;have Iu2:=aA hi;have Xu2:=aA (Xu1.o.keep hb);have Bu2:=aA (Bu1.o.trans (hb.mono Bu1.o.size));clear hi hb;refine hKf.out _ _ ⟨(Y0.o.keep Bu2.o).two.1,(Y0.o.keep Bu2.o).two.2⟩ (fun hH=>?_);clear hKf;try simp only[Act.put,aL,aM,aN]
    refine bI rfl (fun Kf hKf=>?_);go_simp;go_at_call 25
    (with_reducible refine(CG.o u2 _ _ Bu2.o Iu2.o).mono ?_)
    rintro e u3 ⟨U,cu,V,cv,rfl,hL,hA,hb⟩;have Lu3:=aA hL;have Au3:=aA hA;have Xu3:=aA (Xu2.o.keep hb);have Bu3:=aA (Bu2.o.trans (hb.mono Bu2.o.size));clear hL hA hb;refine hKf.out _ _ ⟨(Y0.o.keep Bu3.o).two.1,(Y0.o.keep Bu3.o).two.2⟩ (fun hH=>?_);clear hKf
    iterate 3
     refine aH (v:=?_) rfl (by rfl) hH (fun w' hSw=>?_) ?_
     rotate_left
     ·(go_simp;try with_reducible rfl)
     try simp only[Act.put,aL,aM,aN]
    refine bI rfl (fun Kf hKf=>?_);obtain⟨s0,s1⟩:=Xu3.o.two;have sf0:=Xu3.o.frozen 0;have sf1:=Xu3.o.frozen 1;go_simp
    have BE:=aA (fR Bu3.o (Nat.le_refl _) Nu1.o (.slice U s.marks.length cu) (.slice V s.arcs.length cv));refine hKf.out _ _ ⟨(Y0.o.keep BE.o).two.1,(Y0.o.keep BE.o).two.2⟩ (fun hH=>?_);clear hKf;try simp only[Act.put,aL,aM,aN]
    exact EN.o _ _ ⟨C,kc,U,cu,V,cv,u0.heap.size,rfl,aA (Xu3.o.set2 _ _),aA (bT.besideZ Lu3.o ML.o Xu3.o _ _),aA (tN.besideZ Au3.o Xu3.o _ _),BE⟩ hH
  rintro a' w4 ⟨C,kc,U,cu,V,cv,b11,rfl,SX,SL,SA,SB⟩ hH;try simp only[Act.put,aL,aM,aN]
  refine bF rfl (fun Kf hKf=>?_);go_simp
  refine hKf.out _ _ ?_;clear hKf;try simp only[Act.put,aL,aM,aN]
  refine bP ?_;clear hH a0 a1;have Z0:=aA (Y0.o.keep SB.o);have Z1:=aA (Y1.o.keep SB.o);have H4:=aA (H1.o.keep SB.o);have B4:=aA (BZ.o.trans (SB.o.mono BZ.o.size));have HN:=aA (show ts.length=n from H4.o.len);clear Y0 Y1 H1 BZ SB CG BU0;obtain⟨z0,z1,z2⟩:=Z1.o.three;have f0:=Z1.o.frozen 0;have f1:=Z1.o.frozen 1;have f2:=Z1.o.frozen 2;by_cases hk:k=0
  ·subst hk;obtain⟨hmost,hsp⟩:=SPK.o rfl;have SP:=aA hsp;have hms:s.marks.length≤300:=by have:=hsp.few;omega
   have RE:=aA (JY1.o s rfl);have harcs:s.arcs.length≤7200:=ARC.o rfl;clear hsp SPK NIL JE1 JY1 hmost ARC;obtain⟨a0,a1⟩:=Z0.o.two;go_upto_region 8 with(go_at_call 9;go_loud ((with_reducible refine(dY w4 P o A n c).mono ?_);rw[HPN.o];rintro e w5 ⟨CE,kE,rfl,hi,hb,_⟩;have IE:=aA hi;have B5:=aA hb;clear hi hb))
   generalize hw6:w5.alloc (.cells #[.slice CE pn kE] 28)=w6;have D6:=aA (show Below w4.heap.size w4 w6 by rw[←hw6];exact B5.o.alloc B5.o.size _);have XE:=aA (show Box w6 w5.heap.size 28 #[.slice CE pn kE] by rw[←hw6];exact Box.new _ _ _);have IE6:=aA (show aJ w6 CE pn kE (gX pn o) by rw[←hw6];exact Sl.keep iG.kept IE.o ((Below.refl _ _).alloc (Nat.le_refl _) _));have X6:=aA (SX.o.keep D6.o);have L6:=aA (Sl.keep bH.kept SL.o D6.o);have A6:=aA (Sl.keep tM.kept SA.o D6.o);have Y0:=aA (Z0.o.keep D6.o);have Y1:=aA (Z1.o.keep D6.o);have B6:=aA (B4.o.trans (D6.o.mono B4.o.size));clear hw6 SX SL SA Z0 Z1 B4 D6 IE B5 CW H4 z0 z1 z2 f0 f1 f2 a0 a1;generalize w5.heap.size=b13 at *
   generalize gX pn o=E at *
   obtain⟨DL,hDL⟩:∃DL,pG s.arcs (min (ts.length:Int) 24).toNat=DL:=⟨_,rfl⟩;rw[hDL]at RE;rw[HN.o]at hDL;have HDL:=aA hDL;obtain⟨L1,hL1⟩:∃L1,s.marks.length=L1:=⟨_,rfl⟩;have HL1:=aA hL1;rw[hL1]at L6 X6 hms;have c0:w6.cell? ⟨b11,0,none⟩=some (.slice U L1 cu):=X6.o.cell 0;clear hL1 hDL;go_wp2
   go_loopw [46] (fun jv wr=>∃j:Nat,j≤L1∧jv=.int .i64 j∧Hid (Below w6.heap.size w6 wr)∧Hid (∀i,i<j→∀y,s.marks[i]?=some y→jM E y=false)) (fun jv _=>L1-(intOf jv).toNat)
   case atStart=>exact⟨0,Nat.zero_le _,rfl,aA (Below.refl _ _),aA (fun i hi=>absurd hi (by omega))⟩
   case round =>
    obtain⟨j,hj,rfl,BI,LOW⟩:=hrel;by_cases hlj:j<L1
    ·have hji:(j:Int)<(L1:Int):=by omega
     obtain⟨b,off,x,A2,n2,c2,rfl,hb,hx,q0,i2,_⟩:=bT.get (Sl.keep bH.kept L6.o BI.o) hlj;have NXT:=aA (show jM E x=false→∀i,i<j+1→∀y,s.marks[i]?=some y→jM E y=false from fun hf i hi y hy=>by
      by_cases hij:i=j
      ·subst hij;rw[hx.o]at hy;injection hy with hy;rw[←hy];exact hf
      ·exact LOW.o i (by omega) y hy)
     have hn2:=aA (show 2≤n2 by have:=ML.o x (List.mem_of_getElem? hx.o);rw[i2.len]at this;exact this);have FS:=aA (show jM E x=true→s.marks.find? (jM E)=some x from fun hf=>Oa LOW.o hx.o hf);have I2:=aA i2;have IEr:=aA (Sl.keep iG.kept IE6.o BI.o);have e13:wr.cell? ⟨b13,0,none⟩=some (.slice CE pn kE):=(XE.o.keep BI.o).cell 0;clear hx i2;cases hcv:cA x E
     ·have HCV:=aA hcv;have NX:=aA (NXT.o (by unfold jM;rw[hcv];rfl));clear hcv;go_wp2_with (go_at_call 31;(with_reducible refine(eN I2.o IEr.o).mono ?_);rw[HCV.o];rintro e w7 ⟨rfl,rfl⟩)
      go_roundw
      case rel=>exact⟨j+1,by omega,by go_num,BI,NX⟩
      case measure=>simp[intOf];omega
     ·have HCV:=aA hcv;cases heq:(x==E)
      ·have HEQ:=aA heq;have FX:=aA (FS.o (by unfold jM;rw[hcv,heq];rfl));clear hcv heq;go_wp2_with (first
        |(go_at_call 31;(with_reducible refine(eN I2.o IEr.o).mono ?_);rw[HCV.o];rintro e w7 ⟨rfl,rfl⟩)
        |(go_at_call 8;(with_reducible refine(dT I2.o IEr.o).mono ?_);rw[HEQ.o];rintro e w8 ⟨rfl,dr⟩;have BD:=aA dr.below;have Z8:=aA (Y1.o.keep (BI.o.trans (BD.o.mono BI.o.size)));clear dr;obtain⟨z0,z1,z2⟩:=Z8.o.three;have f0:=Z8.o.frozen 0;have f1:=Z8.o.frozen 1;have f2:=Z8.o.frozen 2))
       obtain⟨r0,r1,r2⟩:=(Z8.o.set3 (.int .i64 2) (.slice A2 n2 c2) (.int .i64 0)).three;have BW:=aG (B6.o.trans ((BI.o.trans (BD.o.mono BI.o.size)).mono B6.o.size)) (show w.heap.size≤w.heap.size+1 by omega) (.int .i64 2) (.slice A2 n2 c2) (.int .i64 0);exact bodyPost_ret (v:=.tuple #[.agg #[.int .i64 2,.slice A2 n2 c2,.int .i64 0],.int .i64 0]) (by simp[results,Tryz.results13,go_sem,r0,r1,r2]) rfl (by rw[RE.o,Dh FX.o];exact⟨A2,n2,c2,rfl,aJ.setV (Sl.keep iG.kept I2.o BD.o) hn2.o Z8.o _ _ _,BW⟩)
      ·have HEQ:=aA heq;have NX:=aA (NXT.o (by unfold jM;rw[hcv,heq];rfl));clear hcv heq;go_wp2_with (first
        |(go_at_call 31;(with_reducible refine(eN I2.o IEr.o).mono ?_);rw[HCV.o];rintro e w7 ⟨rfl,rfl⟩)
        |(go_at_call 8;(with_reducible refine(dT I2.o IEr.o).mono ?_);rw[HEQ.o];rintro e w8 ⟨rfl,dr⟩;have BD:=aA dr.below;clear dr))
       go_roundw
       case rel=>exact⟨j+1,by omega,by go_num,aA (BI.o.trans (BD.o.mono BI.o.size)),NX⟩
       case measure=>simp[intOf];omega
    ·obtain rfl:j=L1:=by omega
     have NF:=aA (Ob (p:=jM E) (ms:=s.marks) (fun i hi=>LOW.o i (by rw[HL1.o]at hi;exact hi)));have IN:=aA (show(∀a∈s.arcs,Inn j a.from_)∧(∀a∈s.arcs,Inn j a.to_)from⟨fun a ha=>by have:=(SP.o.ends a ha).1;rw[HL1.o]at this;exact this,fun a ha=>by have:=(SP.o.ends a ha).2.2;rw[HL1.o]at this;exact this⟩);have ON:=aA (Dc (Sl.keep bH.kept L6.o BI.o) (Sl.keep tM.kept A6.o BI.o) (JZ (XE.o.keep BI.o) (Sl.keep iG.kept IE6.o BI.o)) hms harcs IN.o.1 IN.o.2);obtain⟨bs,hbs⟩:∃bs,kC s.arcs j (JU (fun m=>m==E) s.marks j)=bs:=⟨_,rfl⟩;rw[hbs]at ON;have OL:=aA (show onL s E=bs by unfold onL;rw[HL1.o];exact hbs);have BSL:=aA (show bs.length=j by rw[←hbs];simp[kC]);clear hbs c0;obtain⟨c0,c1⟩:=(X6.o.keep BI.o).two;obtain⟨ix,hix⟩:∃ix,bs.findIdx? (fun y=>false==y)=ix:=⟨_,rfl⟩;have HIX:=aA hix;have HIF:=aA (FI hix);clear hix;cases ix with
     | some k =>
      have hkl:k<j:=by
       have:=(List.findIdx?_eq_some_iff_getElem.1 HIX.o).1;rw[BSL.o]at this;exact this
      have hkli:(k:Int)<(j:Int):=by omega
      obtain⟨b,off,x,A2,n2,c2,rfl,hb,hx,q0',i2,_⟩:=bT.get (Sl.keep bH.kept L6.o BI.o) hkl;have hn2:=aA (show 2≤n2 by have:=ML.o x (List.mem_of_getElem? hx.o);rw[i2.len]at this;exact this);have I2:=aA i2;have JS:=aA (Di (d:=DL) NF.o (by rw[OL.o];exact HIX.o) hx.o);have Q0:=aA q0';have HBL:=aA hb;clear hx i2 q0' hb;go_wp2_with (first
       |(go_at_call 32;(with_reducible refine ON.o.mono ?_);rintro e w7 ⟨g7,rfl,bo,hb7⟩;have BO:=aA bo;have B7:=aA hb7;clear bo hb7 c0 c1;obtain⟨c0,c1⟩:=(X6.o.keep (BI.o.trans (B7.o.mono BI.o.size))).two;have q0:=(B7.o.cell (p:=⟨b,off+k,none⟩) HBL.o).trans Q0.o)
       |(go_at_call 34;(with_reducible refine(jK false BO.o (by omega)).mono ?_);rw[HIF.o];(simp only[Option.elim_some]);rintro e w8 ⟨rfl,rfl⟩;have Z8:=aA (Y1.o.keep (BI.o.trans (B7.o.mono BI.o.size)));obtain⟨z0,z1,z2⟩:=Z8.o.three;have f0:=Z8.o.frozen 0;have f1:=Z8.o.frozen 1;have f2:=Z8.o.frozen 2))
      obtain⟨r0,r1,r2⟩:=(Z8.o.set3 (.int .i64 3) (.slice A2 n2 c2) (.int .i64 0)).three;have BW:=aG (B6.o.trans ((BI.o.trans (B7.o.mono BI.o.size)).mono B6.o.size)) (show w.heap.size≤w.heap.size+1 by omega) (.int .i64 3) (.slice A2 n2 c2) (.int .i64 0);exact bodyPost_ret (v:=.tuple #[.agg #[.int .i64 3,.slice A2 n2 c2,.int .i64 0],.int .i64 0]) (by simp[results,Tryz.results13,go_sem,r0,r1,r2]) rfl (by rw[RE.o,JS.o];exact⟨A2,n2,c2,rfl,aJ.setV (Sl.keep iG.kept I2.o B7.o) hn2.o Z8.o _ _ _,BW⟩)
     | none =>
      have HIX2:=aA (show(onL s E).findIdx? (fun y=>false==y)=none by rw[OL.o];exact HIX.o);have CD:=aA (fun(w':World) (hb:Below wr.heap.size wr w')=>show Calls _ _ _ _ (Nr DL.length DL w') by rw[←HDL.o];exact JK (n:Int) (Sl.keep bH.kept (Sl.keep bH.kept L6.o BI.o) hb) (Sl.keep tM.kept (Sl.keep tM.kept A6.o BI.o) hb) (by omega));cases DL with
      | nil =>
       have JS:=aA (sH NF.o HIX2.o);go_wp2_with (first
        |(go_at_call 32;(with_reducible refine ON.o.mono ?_);rintro e w7 ⟨g7,rfl,bo,hb7⟩;have BO:=aA bo;have B7:=aA hb7;clear bo hb7 c0 c1;obtain⟨c0,c1⟩:=(X6.o.keep (BI.o.trans (B7.o.mono BI.o.size))).two;obtain⟨a0,a1⟩:=(Y0.o.keep (BI.o.trans (B7.o.mono BI.o.size))).two)
        |(go_at_call 34;(with_reducible refine(jK false BO.o (by omega)).mono ?_);rw[HIF.o];(simp only[Option.elim_none]);rintro e w8 ⟨rfl,rfl⟩)
        |(go_at_call 35;(with_reducible refine(CD.o _ B7.o).mono ?_);rintro e w8 ⟨CC,kk,rfl,ii,hb8,_⟩;have B8:=aA (B7.o.trans (hb8.mono B7.o.size));clear ii hb8;have Z8:=aA (Y1.o.keep (BI.o.trans (B8.o.mono BI.o.size)));obtain⟨z0,z1,z2⟩:=Z8.o.three;have f0:=Z8.o.frozen 0;have f1:=Z8.o.frozen 1;have f2:=Z8.o.frozen 2))
       obtain⟨r0,r1,r2⟩:=(Z8.o.set3 (.int .i64 1) (.slice none 0 0) (.int .i64 0)).three;have BW:=aG (B6.o.trans ((BI.o.trans (B8.o.mono BI.o.size)).mono B6.o.size)) (show w.heap.size≤w.heap.size+1 by omega) (.int .i64 1) (.slice none 0 0) (.int .i64 0);exact bodyPost_ret (v:=.tuple #[.agg #[.int .i64 1,.slice none 0 0,.int .i64 0],.int .i64 0]) (by simp[results,Tryz.results13,go_sem,r0,r1,r2]) rfl (by rw[RE.o,JS.o];exact⟨none,0,0,rfl,Sl.nil0,BW⟩)
      | cons t DT =>
       have JS:=aA (FM (d:=DT) (t:=t) NF.o HIX2.o);have hdl:(0:Int)<((t::DT).length:Int):=by simp
       go_wp2_with (first
        |(go_at_call 32;(with_reducible refine ON.o.mono ?_);rintro e w7 ⟨g7,rfl,bo,hb7⟩;have BO:=aA bo;have B7:=aA hb7;clear bo hb7 c0 c1;obtain⟨c0,c1⟩:=(X6.o.keep (BI.o.trans (B7.o.mono BI.o.size))).two;obtain⟨a0,a1⟩:=(Y0.o.keep (BI.o.trans (B7.o.mono BI.o.size))).two)
        |(go_at_call 34;(with_reducible refine(jK false BO.o (by omega)).mono ?_);rw[HIF.o];(simp only[Option.elim_none]);rintro e w8 ⟨rfl,rfl⟩)
        |(go_at_call 35;(with_reducible refine(CD.o _ B7.o).mono ?_);rintro e w8 ⟨CC,kk,rfl,ii,hb8,_⟩;have B8:=aA (B7.o.trans (hb8.mono B7.o.size));obtain⟨b9,off9,y9,rfl,_,hy9,q9⟩:=aJ.get ii (show 0<(t::DT).length by simp);obtain rfl:t=y9:=(by have:=hy9.o;simpa using this);clear ii hb8 hy9;(simp only[Nat.add_zero]at q9);have Z8:=aA (Y1.o.keep (BI.o.trans (B8.o.mono BI.o.size)));obtain⟨z0,z1,z2⟩:=Z8.o.three;have f0:=Z8.o.frozen 0;have f1:=Z8.o.frozen 1;have f2:=Z8.o.frozen 2))
       obtain⟨r0,r1,r2⟩:=(Z8.o.set3 (.int .i64 4) (.slice none 0 0) (.int .i64 t)).three;have BW:=aG (B6.o.trans ((BI.o.trans (B8.o.mono BI.o.size)).mono B6.o.size)) (show w.heap.size≤w.heap.size+1 by omega) (.int .i64 4) (.slice none 0 0) (.int .i64 t);exact bodyPost_ret (v:=.tuple #[.agg #[.int .i64 4,.slice none 0 0,.int .i64 t],.int .i64 0]) (by simp[results,Tryz.results13,go_sem,r0,r1,r2]) rfl (by rw[RE.o,JS.o];exact⟨none,0,0,rfl,Sl.nil0,BW⟩)
  ·have RE:=aA (JE1.o hk);go_wp2
   obtain⟨r0,r1,r2⟩:=(Z1.o.set3 (.int .i64 0) (.slice none 0 0) (.int .i64 0)).three;have BW:=aG B4.o (show w.heap.size≤w.heap.size+1 by omega) (.int .i64 0) (.slice none 0 0) (.int .i64 0);exact bodyPost_ret (v:=.tuple #[.agg #[.int .i64 0,.slice none 0 0,.int .i64 0],.int .i64 k]) (by simp[results,Tryz.results13,go_sem,r0,r1,r2]) rfl (by rw[RE.o];exact⟨none,0,0,rfl,Sl.nil0,BW⟩)
 ·have JF:=aA (JW.o hs0);have f0:=X1.o.frozen 0;have f1:=X1.o.frozen 1;have f2:=X1.o.frozen 2;go_wp2_with (go_at_call 24;(with_reducible refine CW.o.mono ?_);rintro e w1 ⟨rfl,hb1⟩;have B1:=aA hb1;clear hb1 a0 a1 z0 z1 z2 f0 f1 f2;obtain⟨z0,z1,z2⟩:=(X1.o.keep B1.o).three;have f0:=(X1.o.keep B1.o).frozen 0;have f1:=(X1.o.keep B1.o).frozen 1;have f2:=(X1.o.keep B1.o).frozen 2)
  obtain⟨r0,r1,r2⟩:=((X1.o.keep B1.o).set3 (.int .i64 0) (.slice none 0 0) (.int .i64 0)).three;have BW:=aG (HB.o.trans (B1.o.mono HB.o.size)) (show w.heap.size≤w.heap.size+1 by omega) (.int .i64 0) (.slice none 0 0) (.int .i64 0);exact bodyPost_ret (v:=.tuple #[.agg #[.int .i64 0,.slice none 0 0,.int .i64 0],.int .i64 sw]) (by simp[results,Tryz.results13,go_sem,r0,r1,r2]) rfl (by rw[JF.o];exact⟨none,0,0,rfl,Sl.nil0,BW⟩)
end Go.Proofs.YtfmnagcglhlicaaGreat
