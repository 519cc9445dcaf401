/- The plain law of judging, and the contract of live.Onward. Conditions: the space reads as lists, its arcs are between marks. | The contract of Judge. Conditions: the net reads as a list. -/
import Derived.Test.YtfmnagcglhlicaaGreatTopSaidK37
import Derived.Test.YtfmnagcglhlicaaGreatTopSaidK10
set_option maxRecDepth 100000
namespace Go.Proofs.YtfmnagcglhlicaaGreat
open Go.RowKit
def Zq8 (p:List Int→Bool)(ms:List (List Int))(k:Nat):List Int:=((List.range k).filter fun j=>(ms[j]?).any p).map fun(j:Nat)=>(j:Int)
theorem ZpH {p:List Int→Bool}{ms:List (List Int)}{k:Nat}{x:List Int}(h:ms[k]?=some x):Zq8 p ms (k+1)=Zq8 p ms k++if p x=true then [(k:Int)]else []:=by
 unfold Zq8
 rw[List.range_succ,List.filter_append,List.map_append]
 cases hp:p x <;> simp[h,hp]
theorem ZsE {p:List Int→Bool}{ms:List (List Int)}{k n:Nat}(hk:k≤n):∀s∈Zq8 p ms k,Inn n s:=by
 intro s hs
 obtain⟨j,hj,rfl⟩:=List.mem_map.1 hs
 have:=List.mem_range.1 (List.mem_filter.1 hj).1
 exact⟨by omega,by omega⟩
theorem ZnX {N:Zau}{M:Nat}{m:List Int}{f:Int}:∀(l:List Int) {s s':PSp} (_:ZcN N M m f l (some s)=some s'),s'.arcs.length≤s.arcs.length+l.length:=by
 intro l
 induction l with
 | nil =>
  intro s s' h
  have:s=s':=by simpa [ZcN] using h
  subst this
  simp
 | cons t l ih =>
  intro s s' h
  have h':ZcN N M m f l (Zbr N M m f s t)=some s':=h
  cases h1:Zbr N M m f s t with
  | none=>rw[h1,ZeB]at h';cases h'
  | some s1 =>
   rw[h1]at h'
   have h2:=ih h'
   have h3:s1.arcs.length≤s.arcs.length+1:=by
    unfold Zbr at h1
    split at h1
    ·simp only[Option.some.injEq]at h1;subst h1;omega
    ·split at h1
     ·have:=ZoC h1;omega
     ·cases h1
   simp only[List.length_cons]
   omega
theorem Zq9 {N:Zau}{M:Nat}:∀(g f:Nat) {s s':PSp} (_:goM N M g f s=some s'),s'.arcs.length≤s.arcs.length+g*N.trans.length:=by
 intro g
 induction g with
 | zero =>
  intro f s s' h
  have:s=s':=by simpa [goM] using h
  subst this
  omega
 | succ g ih =>
  intro f s s' h
  unfold goM at h
  split at h
  ·cases h1:Zj2 N M f s with
   | none=>rw[h1]at h;cases h
   | some s1 =>
    rw[h1]at h
    have h2:=ih (f+1) h
    have h3:=ZnX _ h1
    have h4:(ZsU N.trans.length).length=N.trans.length:=by simp[ZsU]
    rw[Nat.succ_mul]
    omega
  ·simp only[Option.some.injEq]at h
   subst h
   omega
theorem Zfn {N:Zau}{m:List Int}{most:Int}(h:(Za2 N m most).2=0):(Za2 N m most).1.arcs.length≤7200:=by
 unfold Za2 at h ⊢
 split at h
 ·rename_i h1
  rw[if_pos h1]
  cases hg:goM N most.toNat most.toNat 0 ⟨[m],[]⟩ with
  | none=>rw[hg]at h;simp at h
  | some s1 =>
   have h2:=Zq9 _ _ hg
   have h3:N.trans.length≤24:=((Zar _).1 ((ZaG _ _).1 h1.2.2).1).2.2.1
   have h4:most.toNat*N.trans.length≤300*24:=Nat.mul_le_mul (by omega) h3
   simp only[List.length_nil]at h2
   show s1.arcs.length≤7200
   omega
 ·simp at h
def Zue (bs:List Bool)(n:Nat)(w:World)(e:Ending)(w':World):Prop:=∃g,e=.returned (.slice (some ⟨g,0,none⟩) n n)∧Zq7 w' g n bs∧Below w.heap.size w w'
set_option maxHeartbeats 1000000 in
theorem ZkH {w:World}{A D:Option Addr}{n c m d:Nat}{ms:List (List Int)}{ars:List ZaD}{F:FuncId}{cap:Array Value}{p:List Int→Bool}(h:ZaS w A n c ms)(g:Zh4 w D m d ars)(hp:Zi8 F cap w p)(hn:n≤300)(hm:m≤7200)(hf:∀a∈ars,Inn n a.from_)(ht:∀a∈ars,Inn n a.to_) :
  Calls Tryz.prog 32 #[.agg #[.slice A n c,.slice D m d],.func (.func F) #[] cap] w (Zue (Zcu ars n (Zq8 p ms n)) n w):=by
 have HB:=Zaa (Zab w (.cells #[.slice A n c,.slice D m d] 83))
 have X0:=Zaa (Box.new w #[.slice A n c,.slice D m d] 83)
 have henter:=hp.enters
 have H:=Zaa h
 have G:=Zaa g
 have HP:=Zaa hp
 have HF:=Zaa hf
 have HT:=Zaa ht
 have ham:ars.length=m:=g.len
 have HTJ:=Zaa (show ∀(k:Nat) (a:ZaD),ars[k]?=some a→0≤a.to_∧a.to_<(n:Int)from fun k a hk=>ht a (List.mem_of_getElem? hk))
 clear h g hp hf ht
 go_enter Tryz.func32,Tryz.ntmps32
 go_upto_region 1 with fail
 generalize w.alloc (.cells #[.slice A n c,.slice D m d] 83)=w0 at *
 obtain⟨c0,c1⟩:=X0.out.two
 go_wp2
 go_loopw [5,11] (fun v i wr=>∃(k l:Nat),k≤n∧i=.int .i64 k∧l≤k∧Hid (Zaf wr w0.heap.size v l (Zq8 p ms k))∧Hid (Below w0.heap.size w0 wr)) (fun _ i _=>n-(intOf i).toNat)
 case atStart=>exact⟨0,0,Nat.zero_le _,rfl,Nat.zero_le _,Zad.nil,Below.refl _ _⟩
 case round =>
  obtain⟨k,l,hk,rfl,hlk,OW,BW⟩:=hrel
  have BW1:=Zaa (HB.out.trans (BW.out.mono HB.out.size))
  clear c0 c1
  by_cases hlt:k<n
  ·have hki:(k:Int)<(n:Int):=by omega
   obtain⟨b,off,x,A1,n1,c1,rfl,hb,hx,q0,i1,hn1⟩:=ZaS.get (Sl.keep ZaL.kept H.out BW1.out) hlt
   have CL:=Zaa (HP.out.calls wr A1 n1 c1 x BW1.out i1)
   have PS:=Zaa (ZpH (p:=p) hx.out)
   obtain⟨q,hq⟩:∃q,p x=q:=⟨_,rfl⟩
   rw[hq]at CL PS
   clear hq i1 hx
   cases q
   ·go_wp2_with (refine CL.out.mono ?_;rintro e w' ⟨rfl,hb'⟩;have HB':=Zaa hb';clear hb')
    go_roundw
    case rel=>exact⟨k+1,l,by omega,by go_num,by omega,by rw[PS.out];exact Zaa (by simpa using OW.out.keep ZcE.kept HB'.out),Zaa (BW.out.trans (HB'.out.mono BW.out.size))⟩
    case measure=>simp[intOf];omega
   ·go_wp2_with (first
     |(at_builtin;refine Zbw rfl _ _ rfl rfl rfl (by first|rfl|simp) (OW.out.keep ZcE.kept HB'.out) (BW.out.trans (HB'.out.mono BW.out.size)) (BW.out.trans (HB'.out.mono BW.out.size)).size (by omega) ?_;intro v2 w2 own2 hg2 hb2)
     |(refine CL.out.mono ?_;rintro e w' ⟨rfl,hb'⟩;have HB':=Zaa hb';clear hb'))
    go_roundw
    case rel=>exact⟨k+1,l+1,by omega,by go_num,by omega,by rw[PS.out];exact own2,hb2⟩
    case measure=>simp[intOf];omega
  ·obtain rfl:k=n:=by omega
   obtain⟨A2,c2,hv,i2⟩:=OW.out.sl (by omega)
   subst hv
   have I2:=Zaa i2
   obtain⟨c0,c1⟩:=(X0.out.keep BW.out).two
   have LB:=Zaa (ZhQ (Sl.keep ZaL.kept H.out BW1.out) (Sl.keep Zh3.kept G.out BW1.out) (by omega) (by omega) HTJ.out)
   have SP:=Zaa (fun(w3:World) (A3:Option Addr) (c3:Nat) (hb:Below wr.heap.size wr w3) (hl:ZaS w3 A3 k c3 (ZcH ZaD.to_ ZaD.from_ ars k))=>ZkF hl (Sl.keep ZcE.kept I2.out hb) (by omega) (by omega) (by omega) (ZsE (Nat.le_refl _)) HF.out HT.out)
   clear i2 henter
   go_wp2_with (first
    |(go_at_call 67;(with_reducible refine LB.out.mono ?_);rintro e w3 ⟨g3,rfl,lw,b3⟩;have LW:=Zaa (lw.lists (by omega) (fun x hx=>by have:=ZlZ hx;omega));have B3:=Zaa b3;clear lw b3)
    |(go_at_call 66;(with_reducible refine(SP.out _ _ _ B3.out LW.out).mono ?_);rintro e w4 ⟨g4,rfl,ob,b4⟩;have OB:=Zaa ob.s;have B4:=Zaa b4;clear ob b4))
   go_ret
   exact⟨g4,rfl,OB.out,(BW1.out.trans (B3.out.mono BW1.out.size)).trans (B4.out.mono (BW1.out.trans (B3.out.mono BW1.out.size)).size)⟩
theorem ZpI {α:Type}{p:α→Bool}{ms:List α}{k:Nat}{x:α}(h:∀j,j<k→∀y,ms[j]?=some y→p y=false)(hx:ms[k]?=some x)(hp:p x=true):ms.find? p=some x:=by
 obtain⟨hk,e⟩:=List.getElem?_eq_some_iff.1 hx
 rw[List.find?_eq_some_iff_getElem]
 exact⟨hp,k,hk,e,fun j hj=>by simpa using h j hj _ (List.getElem?_eq_getElem (by omega))⟩
theorem ZpJ {α:Type}{p:α→Bool}{ms:List α}(h:∀j,j<ms.length→∀y,ms[j]?=some y→p y=false):ms.find? p=none:=by
 rw[List.find?_eq_none]
 intro x hx
 obtain⟨j,hj⟩:=List.mem_iff_getElem?.1 hx
 have:=h j (List.getElem?_eq_some_iff.1 hj).1 x hj
 simp[this]
theorem Zl2 {α:Type}{p:α→Bool}{bs:List α}{ix:Option Nat}(h:bs.findIdx? p=ix):ZaT p bs=ix.elim (-1) (fun k=>(k:Int)):=by
 unfold ZaT;rw[h];cases ix <;> rfl
abbrev Zt1:=Int×List Int×Int
def Zc3 (e m:List Int):Bool:=ZaU m e&&!(m==e)
noncomputable def onL (s:PSp)(e:List Int):List Bool:=Zcu s.arcs s.marks.length (Zq8 (fun m=>m==e) s.marks s.marks.length)
noncomputable def Ze3 (s:PSp)(e:List Int)(dead:List Int):Zt1 :=
 match s.marks.find? (Zc3 e) with
 | some m=>(2,m,0)
 | none=>match(onL s e).findIdx? (fun y=>false==y) with
  | some k=>(3,s.marks.getD k [],0)
  | none=>match dead with
   | t::_=>(4,[],t)
   | []=>(1,[],0)
noncomputable def Zb0 (N:Zau)(i o most:Int):Zt1×Int :=
 if Zbt N i o=0 then(if(Za2 N (ZcR (min N.places 16).toNat i) most).2=0 then(Ze3 (Za2 N (ZcR (min N.places 16).toNat i) most).1 (ZcR (min N.places 16).toNat o) (Zfm (Za2 N (ZcR (min N.places 16).toNat i) most).1.arcs (min (N.trans.length:Int) 24).toNat),0)
  else((0,[],0),(Za2 N (ZcR (min N.places 16).toNat i) most).2))else((0,[],0),Zbt N i o)
theorem ZkI {N:Zau}{i o most:Int}(h:Zbt N i o≠0):Zb0 N i o most=((0,[],0),Zbt N i o):=by rw[Zb0,if_neg h]
theorem ZnY {N:Zau}{i o most:Int}{g:PSp×Int}(h:Zbt N i o=0)(hg:Za2 N (ZcR (min N.places 16).toNat i) most=g)(he:g.2≠0):Zb0 N i o most=((0,[],0),g.2):=by rw[Zb0,if_pos h,hg,if_neg he]
theorem ZiR {N:Zau}{i o most:Int}{s:PSp}(h:Zbt N i o=0)(hg:Za2 N (ZcR (min N.places 16).toNat i) most=(s,0)):Zb0 N i o most=(Ze3 s (ZcR (min N.places 16).toNat o) (Zfm s.arcs (min (N.trans.length:Int) 24).toNat),0):=by rw[Zb0,if_pos h,hg,if_pos rfl]
theorem ZkJ {s:PSp}{e m d:List Int}(h:s.marks.find? (Zc3 e)=some m):Ze3 s e d=(2,m,0):=by unfold Ze3;simp only[h]
theorem ZkK {s:PSp}{e m d:List Int}{k:Nat}(h:s.marks.find? (Zc3 e)=none)(hk:(onL s e).findIdx? (fun y=>false==y)=some k)(hm:s.marks[k]?=some m):Ze3 s e d=(3,m,0):=by
 unfold Ze3;simp only[h,hk,List.getD_eq_getElem?_getD,hm,Option.getD_some]
theorem Zl3 {s:PSp}{e d:List Int}{t:Int}(h:s.marks.find? (Zc3 e)=none)(hk:(onL s e).findIdx? (fun y=>false==y)=none):Ze3 s e (t::d)=(4,[],t):=by
 unfold Ze3;simp only[h,hk]
theorem ZgD {s:PSp}{e:List Int}(h:s.marks.find? (Zc3 e)=none)(hk:(onL s e).findIdx? (fun y=>false==y)=none):Ze3 s e []=(1,[],0):=by
 unfold Ze3;simp only[h,hk]
theorem Zgc {N:Zau}{i o:Int}(h:Zbt N i o=0):2≤N.places∧Za8 N=true:=by
 unfold Zbt at h
 split at h
 ·rename_i h1
  split at h
  ·rename_i h2
   simp only[inB,Bool.and_eq_true,decide_eq_true_eq]at h2
   exact⟨by omega,h1⟩
  ·simp at h
 ·simp at h
theorem Zam.farV {w:World}{A B:Option Addr}{n c m d b ty:Nat}{x y:Int}{xs:List Int}(h:Zam w A n c xs)(hn:2≤n)(hb:Box w b ty #[.int .i64 x,.slice B m d,.int .i64 y]):∀b' off,A=some ⟨b',off,none⟩→0<n→b'≠b:=by
 intro b' off e _ hbb
 subst hbb
 obtain⟨b2,off2,e2,hlt,hc⟩:=h.cells (by omega)
 rw[e]at e2
 injection e2 with e2
 injection e2 with e3 e4
 subst e3 e4
 have key:∀j,j<n→∃z,w.cell? ⟨b',off+j,none⟩=some (.int .i64 z):=fun j hj=>by
  obtain⟨vs,a,b⟩:=hc j _ (List.getElem?_eq_getElem (by rw[h.len];exact hj))
  have:=a 0 (by omega)
  rw[b]at this
  exact⟨_,by simpa using this⟩
 obtain⟨z0,h0⟩:=key 0 (by omega)
 obtain⟨z1,h1⟩:=key 1 (by omega)
 have c:∀j,w.cell? ⟨b',j,none⟩=(#[.int .i64 x,.slice B m d,.int .i64 y]:Array Value)[j]?:=fun j=>hb.cell j
 rw[c]at h0 h1
 match off,h0,h1 with
 | 0,_,h1=>simp at h1
 | 1,h0,_=>simp at h0
 | 2,_,h1=>simp at h1
 | k+3,h0,_=>simp at h0
theorem Zam.setV {w:World}{A B:Option Addr}{n c m d b ty:Nat}{x y:Int}{xs:List Int}(h:Zam w A n c xs)(hn:2≤n)(hb:Box w b ty #[.int .i64 x,.slice B m d,.int .i64 y])(v0 v1 v2:Value):Zam (((w.setCell ⟨b,0,none⟩ v0).setCell ⟨b,1,none⟩ v1).setCell ⟨b,2,none⟩ v2) A n c xs:=by
 refine h.same (by simp[World.setCell]) (fun b' off e h0 _=>?_)
 have hne:=h.farV hn hb b' off e h0
 rw[heap_setCell_other _ _ _ _ hne,heap_setCell_other _ _ _ _ hne,heap_setCell_other _ _ _ _ hne]
theorem ZaS.besideZ {w:World}{b ty:Nat}{A:Option Addr}{n c:Nat}{ms:List (List Int)}(h:ZaS w A n c ms)(hm:∀x∈ms,2≤x.length)(hb:Box w b ty #[.slice none 0 0,.slice none 0 0])(u v:Value):ZaS ((w.setCell ⟨b,0,none⟩ u).setCell ⟨b,1,none⟩ v) A n c ms :=
 ⟨h.len,h.le,h.cap,h.small,h.nul,fun hn=>by
  have hw:=Zan.set2 w b 0 1 u v
  obtain⟨b',off,e,hlt,hc⟩:=h.cells hn
  refine⟨b',off,e,by rw[hw.1];exact hlt,fun i x hx=>?_⟩
  obtain⟨vs,h1,A2,n2,c2,e2,i2,l2⟩:=hc i x hx
  refine⟨vs,fun j hj=>?_,A2,n2,c2,e2,i2.beside hb ZcX hw,l2⟩
  by_cases hbb:b'=b
  ·subst hbb
   exfalso
   have h3:=h1 0 (by omega)
   have h2:=hm x (List.mem_of_getElem? hx)
   rw[i2.len]at h2
   rw[hb.cell,e2]at h3
   rcases Nat.lt_or_ge (off+i*1+0) 2 with hlt|hge
   ·have:off+i*1+0=0∨off+i*1+0=1:=by omega
    rcases this with e5|e5 <;> rw[show off+(i*1+0)=off+i*1+0 from rfl,e5]at h3 <;> simp at h3 <;> omega
   ·rw[Array.getElem?_eq_none (by simpa using hge)]at h3
    cases h3
  ·rw[hw.cell (by simpa using hbb)];exact h1 j hj⟩
theorem Zh4.besideZ {w:World}{b ty:Nat}{A:Option Addr}{n c:Nat}{ars:List ZaD}(h:Zh4 w A n c ars)(hb:Box w b ty #[.slice none 0 0,.slice none 0 0])(u v:Value):Zh4 ((w.setCell ⟨b,0,none⟩ u).setCell ⟨b,1,none⟩ v) A n c ars :=
 ⟨h.len,h.le,h.cap,h.small,h.nul,fun hn=>by
  have hw:=Zan.set2 w b 0 1 u v
  obtain⟨b',off,e,hlt,hc⟩:=h.cells hn
  refine⟨b',off,e,by rw[hw.1];exact hlt,fun i x hx=>?_⟩
  obtain⟨vs,h1,h2⟩:=hc i x hx
  refine⟨vs,fun j hj=>?_,h2⟩
  by_cases hbb:b'=b
  ·subst hbb
   exfalso
   have h3:=h1 0 (by omega)
   rw[hb.cell,h2.1]at h3
   exact ZcX _ _ h3
  ·rw[hw.cell (by simpa using hbb)];exact h1 j hj⟩
def Zuf (p:Zt1×Int)(w:World)(e:Ending)(w':World):Prop :=
 ∃A n c,e=.returned (.tuple #[.agg #[.int .i64 p.1.1,.slice A n c,.int .i64 p.1.2.2],.int .i64 p.2])∧Zam w' A n c p.1.2.1∧Below w.heap.size w w'
theorem ZnZ {w:World}{bn n c:Nat}{A:Option Addr}{xs:List Int}(x:Box w bn 28 #[.slice A n c])(h:Zam w A n c xs):Zi8 33 #[.pointer (some ⟨bn,0,none⟩)] w (fun y=>y==xs) where
 enters:=fun args w=>by kernel_rfl
 calls:=fun wr A1 n1 c1 y hb hi=>by
  have q:=(x.keep hb).cell 0
  simp only[List.getElem?_toArray,List.getElem?_cons_zero]at q
  have H:=Zaa (h.keep hb)
  have HI:=Zaa hi
  show Calls Tryz.prog 33 #[.slice A1 n1 c1,.pointer (some ⟨bn,0,none⟩)] wr _
  clear hb x h hi
  go_enter Tryz.func33,Tryz.ntmps33
  go_wp2_with ((with_reducible refine(Za9 HI.out H.out).mono ?_);rintro e w4 ⟨rfl,dr⟩;have BD:=Zaa dr.below;clear dr)
  go_ret
  exact⟨rfl,BD.out⟩
set_option maxHeartbeats 4000000 in
theorem ZhR {w:World}{P:Int}{A:Option Addr}{n c:Nat}{ts:List Zak}(i o most:Int)(h:ZaP w A n c ts)(hn:n≤2513169434916) :
  Calls Tryz.prog 13 #[.agg #[.int .i64 P,.slice A n c],.int .i64 i,.int .i64 o,.int .i64 most] w (Zuf (Zb0 ⟨P,ts⟩ i o most) w):=by
 generalize hw:((w.alloc (.cells #[.int .i64 P,.slice A n c] 24)).alloc (.cells #[.int .i64 0,.slice none 0 0,.int .i64 0] 56))=w0
 have HB:=Zaa (show Below w.heap.size w w0 by rw[←hw];exact((Below.refl _ _).alloc (Nat.le_refl _) _).alloc (by simp) _)
 have X0:=Zaa (show Box w0 w.heap.size 24 #[.int .i64 P,.slice A n c] by rw[←hw];exact(Box.new _ _ _).old _)
 have X1:=Zaa (show Box w0 (w.heap.size+1) 56 #[.int .i64 0,.slice none 0 0,.int .i64 0] by rw[←hw];exact Box.newAt (by simp) _ _)
 have H:=Zaa (h.keep HB.out)
 have CW:=Zaa (Zd7 (P:=P) i o H.out hn)
 have JW:=Zaa (ZkI (N:=⟨P,ts⟩) (i:=i) (o:=o) (most:=most))
 have JE:=Zaa (fun(g:PSp×Int)=>ZnY (N:=⟨P,ts⟩) (i:=i) (o:=o) (most:=most) (g:=g))
 have JY:=Zaa (fun(s:PSp)=>ZiR (N:=⟨P,ts⟩) (i:=i) (o:=o) (most:=most) (s:=s))
 clear h
 obtain⟨R,hR⟩:∃R,Zb0 ⟨P,ts⟩ i o most=R:=⟨_,rfl⟩
 rw[hR]at JW
 simp only[hR]at JE JY
 rw[hR]
 clear hR
 have S2:=Zaa (fun hs=>Zgc (N:=⟨P,ts⟩) (i:=i) (o:=o) hs)
 obtain⟨sw,hsw⟩:∃sw,Zbt ⟨P,ts⟩ i o=sw:=⟨_,rfl⟩
 rw[hsw]at JW CW S2
 simp only[hsw]at JE JY
 clear hsw
 go_enter Tryz.func13,Tryz.ntmps13
 go_upto_region 1 with fail
 clear hw
 obtain⟨a0,a1⟩:=X0.out.two
 obtain⟨z0,z1,z2⟩:=X1.out.three
 by_cases hs0:sw=0
 ·subst hs0
  obtain⟨p2,hok⟩:=S2.out rfl
  go_upto_region 4 with(go_at_call 24;go_loud ((with_reducible refine CW.out.mono ?_);rintro e w1 ⟨rfl,hb1⟩;have B1:=Zaa hb1;clear hb1))
  have Y0:=Zaa (X0.out.keep B1.out).drew
  have Y1:=Zaa (X1.out.keep B1.out).drew
  have BZ:=Zaa (HB.out.trans (B1.out.mono HB.out.size)).drew
  have H1:=Zaa (show ZaP w1.drew A n c ts from(H.out.keep B1.out).keep ⟨rfl,rfl,rfl,Nat.le_refl _,fun _ _=>rfl⟩)
  obtain⟨pn,hpn⟩:∃pn,(min P 16).toNat=pn:=⟨_,rfl⟩
  have HPN:=Zaa hpn
  obtain⟨g,hg⟩:∃g,Za2 ⟨P,ts⟩ (ZcR pn i) most=g:=⟨_,rfl⟩
  have hp16:P≤16:=((Zar _).1 hok).2.1
  have hpn2:2≤pn:=by omega
  have JE1:=Zaa (fun(he:g.2≠0)=>JE.out g (by first|rfl|trivial) (by rw[hpn];exact hg) he)
  have JY1:=Zaa (fun(s:PSp) (he:g=(s,0))=>JY.out s (by first|rfl|trivial) (by rw[hpn,hg];exact he))
  simp only[hpn]at JY1
  have NIL:=Zaa (fun(he:g.2≠0)=>show g.1=PSp.nil by rw[←hg];exact ZfY (by rw[hg];exact he))
  have SPK:=Zaa (fun(he:g.2=0)=>show(1≤most∧most≤300)∧ZeC ⟨P,ts⟩ most.toNat g.1 by rw[←hg];exact ZdR (by rw[hg];exact he))
  have ARC:=Zaa (fun(he:g.2=0)=>show g.1.arcs.length≤7200 by rw[←hg];exact Zfn (by rw[hg];exact he))
  have CG:=Zaa (fun(w':World) (C:Option Addr) (kc:Nat) (hb:Below w1.drew.heap.size w1.drew w') (hi:Zam w' C pn kc (ZcR pn i))=>show Calls _ _ _ _ (ZgY g w') by rw[←hg];exact Zhk (P:=P) most (H1.out.keep hb) hi)
  have BU0:=Zaa (Below.refl w1.drew.heap.size w1.drew)
  have ML:=Zaa (show ∀x∈g.1.marks,2≤x.length from fun x hx=>by
   by_cases he:g.2=0
   ·have:=((ZaG _ _).1 ((SPK.out he).2.fits x hx)).2.1
    simp only at this
    omega
   ·rw[NIL.out he]at hx;cases hx)
  clear hg hpn JE JY JW S2 X0 X1 HB H B1 a0 a1 z0 z1 z2
  obtain⟨s,k⟩:=g
  simp only at NIL SPK ML JE1 ARC
  obtain⟨a0,a1⟩:=Y0.out.two
  refine Zae 11 (.takes [0,1,2,4] (.two 3 (.two 5 (.takes [6,7,8] (.one 9 (.one 10 (.fin 11 .done)))) 9 (.one 5 (.takes [6,7,8] (.one 10 (.fin 11 .done))))) 9 (.one 3 (.one 5 (.takes [6,7,8] (.one 10 (.fin 11 .done))))))) (fun w'=>w'.cell? ⟨w.heap.size,0,none⟩=some (.int .i64 P)∧w'.cell? ⟨w.heap.size,1,none⟩=some (.slice A n c)) (by kernel_rfl) (by kernel_rfl) (by kernel_rfl) (fun _ _ _ _ _ h=>h) ⟨a0,a1⟩ (fun hHeld=>?_)
  simp only[Scr.takes]
  generalize w1.drew=u0 at *
  iterate 4
   refine Zac (v:=?_) rfl (by rfl) hHeld (fun w' hSw=>?_) ?_
   rotate_left
   ·(go_simp;try with_reducible rfl)
   try simp only[Act.put,Zag,Zah,Zai]
  refine Zpw (.fin 11 .done) (fun a0 a' w'=>∃(C:Option Addr) (kc:Nat) (U:Option Addr) (cu:Nat) (V:Option Addr) (cv b11:Nat),a'=((((((a0.put (some 31) (.slice C pn kc)).put (some 33) (.tuple #[.agg #[.slice U s.marks.length cu,.slice V s.arcs.length cv],.int .i64 k])).put (some 27) (.tuple #[.agg #[.slice U s.marks.length cu,.slice V s.arcs.length cv],.int .i64 k])).put (some 34) (.agg #[.slice U s.marks.length cu,.slice V s.arcs.length cv])).put (some 35) (.int .i64 k)).put (some 11) (.pointer (some ⟨b11,0,none⟩)))∧Hid (Box w' b11 83 #[.slice U s.marks.length cu,.slice V s.arcs.length cv])∧Hid (ZaS w' U s.marks.length cu s.marks)∧Hid (Zh4 w' V s.arcs.length cv s.arcs)∧Hid (Below u0.heap.size u0 w')) ?_ (fun EN=>?_)
  rotate_left
  ·refine ZjU rfl rfl (fun Kf hKf=>?_) (fun Kf hKf=>?_)
   ·go_simp;go_at_call 9
    (with_reducible refine(ZbM u0 P i A n c).mono ?_)
    rw[HPN.out]
    rintro e u1 ⟨C,kc,rfl,hi,hb,_⟩
    have Iu1:=Zaa hi
    have Bu1:=Zaa (BU0.out.trans (hb.mono BU0.out.size))
    clear hi hb
    refine hKf.out _ _ ⟨(Y0.out.keep Bu1.out).two.1,(Y0.out.keep Bu1.out).two.2⟩ (fun hHeld=>?_)
    clear hKf
    try simp only[Act.put,Zag,Zah,Zai]
    refine ZjU rfl rfl (fun Kf hKf=>?_) (fun Kf hKf=>?_)
    ·go_simp;go_at_call 25
     (with_reducible refine(CG.out u1 _ _ Bu1.out Iu1.out).mono ?_)
     rintro e u2 ⟨U,cu,V,cv,rfl,hL,hA,hb⟩
     have Lu2:=Zaa hL
     have Au2:=Zaa hA
     have Bu2:=Zaa (Bu1.out.trans (hb.mono Bu1.out.size))
     clear hL hA hb
     refine hKf.out _ _ ⟨(Y0.out.keep Bu2.out).two.1,(Y0.out.keep Bu2.out).two.2⟩ (fun hHeld=>?_)
     clear hKf
     iterate 3
      refine Zac (v:=?_) rfl (by rfl) hHeld (fun w' hSw=>?_) ?_
      rotate_left
      ·(go_simp;try with_reducible rfl)
      try simp only[Act.put,Zag,Zah,Zai]
     refine ZaC rfl (fun Kf hKf=>?_)
     go_simp
     have Bu3:=Zaa (show Below u0.heap.size u0 (u2.alloc (.cells #[.slice none 0 0,.slice none 0 0] 83))from Bu2.out.alloc Bu2.out.size _)
     have Xu3:=Zaa (show Box (u2.alloc (.cells #[.slice none 0 0,.slice none 0 0] 83)) u2.heap.size 83 #[.slice none 0 0,.slice none 0 0]from Box.new _ _ _)
     have Nu3:=Zaa (show u0.heap.size≤u2.heap.size from Bu2.out.size)
     have Lu3:=Zaa (Sl.keep ZaL.kept Lu2.out ((Below.refl u2.heap.size u2).alloc (Nat.le_refl _) (.cells #[.slice none 0 0,.slice none 0 0] 83)))
     have Au3:=Zaa (Sl.keep Zh3.kept Au2.out ((Below.refl u2.heap.size u2).alloc (Nat.le_refl _) (.cells #[.slice none 0 0,.slice none 0 0] 83)))
     refine hKf.out _ _ ⟨(Y0.out.keep Bu3.out).two.1,(Y0.out.keep Bu3.out).two.2⟩ (fun hHeld=>?_)
     clear hKf
     try simp only[Act.put,Zag,Zah,Zai]
     generalize u2.alloc (.cells #[.slice none 0 0,.slice none 0 0] 83)=u3 at *
     refine ZaC rfl (fun Kf hKf=>?_)
     obtain⟨s0,s1⟩:=Xu3.out.two
     have sf0:=Xu3.out.frozen 0
     have sf1:=Xu3.out.frozen 1
     go_simp
     have BE:=Zaa (Zb9 Bu3.out (Nat.le_refl _) Nu3.out (.slice U s.marks.length cu) (.slice V s.arcs.length cv))
     refine hKf.out _ _ ⟨(Y0.out.keep BE.out).two.1,(Y0.out.keep BE.out).two.2⟩ (fun hHeld=>?_)
     clear hKf
     try simp only[Act.put,Zag,Zah,Zai]
     exact EN.out _ _ ⟨C,kc,U,cu,V,cv,u2.heap.size,rfl,Zaa (Xu3.out.set2 _ _),Zaa (ZaS.besideZ Lu3.out ML.out Xu3.out _ _),Zaa (Zh4.besideZ Au3.out Xu3.out _ _),BE⟩ hHeld
    ·go_simp
     have Bu2:=Zaa (show Below u0.heap.size u0 (u1.alloc (.cells #[.slice none 0 0,.slice none 0 0] 83))from Bu1.out.alloc Bu1.out.size _)
     have Xu2:=Zaa (show Box (u1.alloc (.cells #[.slice none 0 0,.slice none 0 0] 83)) u1.heap.size 83 #[.slice none 0 0,.slice none 0 0]from Box.new _ _ _)
     have Nu2:=Zaa (show u0.heap.size≤u1.heap.size from Bu1.out.size)
     have Iu2:=Zaa (Sl.keep ZcE.kept Iu1.out ((Below.refl u1.heap.size u1).alloc (Nat.le_refl _) (.cells #[.slice none 0 0,.slice none 0 0] 83)))
     refine hKf.out _ _ ⟨(Y0.out.keep Bu2.out).two.1,(Y0.out.keep Bu2.out).two.2⟩ (fun hHeld=>?_)
     clear hKf
     try simp only[Act.put,Zag,Zah,Zai]
     generalize u1.alloc (.cells #[.slice none 0 0,.slice none 0 0] 83)=u2 at *
     refine ZaC rfl (fun Kf hKf=>?_)
     go_simp;go_at_call 25
     (with_reducible refine(CG.out u2 _ _ Bu2.out Iu2.out).mono ?_)
     rintro e u3 ⟨U,cu,V,cv,rfl,hL,hA,hb⟩
     have Lu3:=Zaa hL
     have Au3:=Zaa hA
     have Xu3:=Zaa (Xu2.out.keep hb)
     have Bu3:=Zaa (Bu2.out.trans (hb.mono Bu2.out.size))
     clear hL hA hb
     refine hKf.out _ _ ⟨(Y0.out.keep Bu3.out).two.1,(Y0.out.keep Bu3.out).two.2⟩ (fun hHeld=>?_)
     clear hKf
     iterate 3
      refine Zac (v:=?_) rfl (by rfl) hHeld (fun w' hSw=>?_) ?_
      rotate_left
      ·(go_simp;try with_reducible rfl)
      try simp only[Act.put,Zag,Zah,Zai]
     refine ZaC rfl (fun Kf hKf=>?_)
     obtain⟨s0,s1⟩:=Xu3.out.two
     have sf0:=Xu3.out.frozen 0
     have sf1:=Xu3.out.frozen 1
     go_simp
     have BE:=Zaa (Zb9 Bu3.out (Nat.le_refl _) Nu2.out (.slice U s.marks.length cu) (.slice V s.arcs.length cv))
     refine hKf.out _ _ ⟨(Y0.out.keep BE.out).two.1,(Y0.out.keep BE.out).two.2⟩ (fun hHeld=>?_)
     clear hKf
     try simp only[Act.put,Zag,Zah,Zai]
     exact EN.out _ _ ⟨C,kc,U,cu,V,cv,u1.heap.size,rfl,Zaa (Xu3.out.set2 _ _),Zaa (ZaS.besideZ Lu3.out ML.out Xu3.out _ _),Zaa (Zh4.besideZ Au3.out Xu3.out _ _),BE⟩ hHeld
   ·go_simp
    have Bu1:=Zaa (show Below u0.heap.size u0 (u0.alloc (.cells #[.slice none 0 0,.slice none 0 0] 83))from BU0.out.alloc BU0.out.size _)
    have Xu1:=Zaa (show Box (u0.alloc (.cells #[.slice none 0 0,.slice none 0 0] 83)) u0.heap.size 83 #[.slice none 0 0,.slice none 0 0]from Box.new _ _ _)
    have Nu1:=Zaa (show u0.heap.size≤u0.heap.size from BU0.out.size)
    refine hKf.out _ _ ⟨(Y0.out.keep Bu1.out).two.1,(Y0.out.keep Bu1.out).two.2⟩ (fun hHeld=>?_)
    clear hKf
    try simp only[Act.put,Zag,Zah,Zai]
    generalize u0.alloc (.cells #[.slice none 0 0,.slice none 0 0] 83)=u1 at *
    refine ZaC rfl (fun Kf hKf=>?_)
    go_simp;go_at_call 9
    (with_reducible refine(ZbM u1 P i A n c).mono ?_)
    rw[HPN.out]
    rintro e u2 ⟨C,kc,rfl,hi,hb,_⟩
    have Iu2:=Zaa hi
    have Xu2:=Zaa (Xu1.out.keep hb)
    have Bu2:=Zaa (Bu1.out.trans (hb.mono Bu1.out.size))
    clear hi hb
    refine hKf.out _ _ ⟨(Y0.out.keep Bu2.out).two.1,(Y0.out.keep Bu2.out).two.2⟩ (fun hHeld=>?_)
    clear hKf
    try simp only[Act.put,Zag,Zah,Zai]
    refine ZaC rfl (fun Kf hKf=>?_)
    go_simp;go_at_call 25
    (with_reducible refine(CG.out u2 _ _ Bu2.out Iu2.out).mono ?_)
    rintro e u3 ⟨U,cu,V,cv,rfl,hL,hA,hb⟩
    have Lu3:=Zaa hL
    have Au3:=Zaa hA
    have Xu3:=Zaa (Xu2.out.keep hb)
    have Bu3:=Zaa (Bu2.out.trans (hb.mono Bu2.out.size))
    clear hL hA hb
    refine hKf.out _ _ ⟨(Y0.out.keep Bu3.out).two.1,(Y0.out.keep Bu3.out).two.2⟩ (fun hHeld=>?_)
    clear hKf
    iterate 3
     refine Zac (v:=?_) rfl (by rfl) hHeld (fun w' hSw=>?_) ?_
     rotate_left
     ·(go_simp;try with_reducible rfl)
     try simp only[Act.put,Zag,Zah,Zai]
    refine ZaC rfl (fun Kf hKf=>?_)
    obtain⟨s0,s1⟩:=Xu3.out.two
    have sf0:=Xu3.out.frozen 0
    have sf1:=Xu3.out.frozen 1
    go_simp
    have BE:=Zaa (Zb9 Bu3.out (Nat.le_refl _) Nu1.out (.slice U s.marks.length cu) (.slice V s.arcs.length cv))
    refine hKf.out _ _ ⟨(Y0.out.keep BE.out).two.1,(Y0.out.keep BE.out).two.2⟩ (fun hHeld=>?_)
    clear hKf
    try simp only[Act.put,Zag,Zah,Zai]
    exact EN.out _ _ ⟨C,kc,U,cu,V,cv,u0.heap.size,rfl,Zaa (Xu3.out.set2 _ _),Zaa (ZaS.besideZ Lu3.out ML.out Xu3.out _ _),Zaa (Zh4.besideZ Au3.out Xu3.out _ _),BE⟩ hHeld
  rintro a' w4 ⟨C,kc,U,cu,V,cv,b11,rfl,SX,SL,SA,SB⟩ hHeld
  try simp only[Act.put,Zag,Zah,Zai]
  refine Zaz rfl (fun Kf hKf=>?_)
  go_simp
  refine hKf.out _ _ ?_
  clear hKf
  try simp only[Act.put,Zag,Zah,Zai]
  refine ZaH ?_
  clear hHeld a0 a1
  have Z0:=Zaa (Y0.out.keep SB.out)
  have Z1:=Zaa (Y1.out.keep SB.out)
  have H4:=Zaa (H1.out.keep SB.out)
  have B4:=Zaa (BZ.out.trans (SB.out.mono BZ.out.size))
  have HN:=Zaa (show ts.length=n from H4.out.len)
  clear Y0 Y1 H1 BZ SB CG BU0
  obtain⟨z0,z1,z2⟩:=Z1.out.three
  have f0:=Z1.out.frozen 0
  have f1:=Z1.out.frozen 1
  have f2:=Z1.out.frozen 2
  by_cases hk:k=0
  ·subst hk
   obtain⟨hmost,hsp⟩:=SPK.out rfl
   have SP:=Zaa hsp
   have hms:s.marks.length≤300:=by have:=hsp.few;omega
   have RE:=Zaa (JY1.out s rfl)
   have harcs:s.arcs.length≤7200:=ARC.out rfl
   clear hsp SPK NIL JE1 JY1 hmost ARC
   obtain⟨a0,a1⟩:=Z0.out.two
   go_upto_region 8 with(go_at_call 9;go_loud ((with_reducible refine(ZbM w4 P o A n c).mono ?_);rw[HPN.out];rintro e w5 ⟨CE,kE,rfl,hi,hb,_⟩;have IE:=Zaa hi;have B5:=Zaa hb;clear hi hb))
   generalize hw6:w5.alloc (.cells #[.slice CE pn kE] 28)=w6
   have D6:=Zaa (show Below w4.heap.size w4 w6 by rw[←hw6];exact B5.out.alloc B5.out.size _)
   have XE:=Zaa (show Box w6 w5.heap.size 28 #[.slice CE pn kE] by rw[←hw6];exact Box.new _ _ _)
   have IE6:=Zaa (show Zam w6 CE pn kE (ZcR pn o) by rw[←hw6];exact Sl.keep ZcE.kept IE.out ((Below.refl _ _).alloc (Nat.le_refl _) _))
   have X6:=Zaa (SX.out.keep D6.out)
   have L6:=Zaa (Sl.keep ZaL.kept SL.out D6.out)
   have A6:=Zaa (Sl.keep Zh3.kept SA.out D6.out)
   have Y0:=Zaa (Z0.out.keep D6.out)
   have Y1:=Zaa (Z1.out.keep D6.out)
   have B6:=Zaa (B4.out.trans (D6.out.mono B4.out.size))
   clear hw6 SX SL SA Z0 Z1 B4 D6 IE B5 CW H4 z0 z1 z2 f0 f1 f2 a0 a1
   generalize w5.heap.size=b13 at *
   generalize ZcR pn o=E at *
   obtain⟨DL,hDL⟩:∃DL,Zfm s.arcs (min (ts.length:Int) 24).toNat=DL:=⟨_,rfl⟩
   rw[hDL]at RE
   rw[HN.out]at hDL
   have HDL:=Zaa hDL
   obtain⟨L1,hL1⟩:∃L1,s.marks.length=L1:=⟨_,rfl⟩
   have HL1:=Zaa hL1
   rw[hL1]at L6 X6 hms
   have c0:w6.cell? ⟨b11,0,none⟩=some (.slice U L1 cu):=X6.out.cell 0
   clear hL1 hDL
   go_wp2
   go_loopw [46] (fun jv wr=>∃j:Nat,j≤L1∧jv=.int .i64 j∧Hid (Below w6.heap.size w6 wr)∧Hid (∀i,i<j→∀y,s.marks[i]?=some y→Zc3 E y=false)) (fun jv _=>L1-(intOf jv).toNat)
   case atStart=>exact⟨0,Nat.zero_le _,rfl,Zaa (Below.refl _ _),Zaa (fun i hi=>absurd hi (by omega))⟩
   case round =>
    obtain⟨j,hj,rfl,BI,LOW⟩:=hrel
    by_cases hlj:j<L1
    ·have hji:(j:Int)<(L1:Int):=by omega
     obtain⟨b,off,x,A2,n2,c2,rfl,hb,hx,q0,i2,_⟩:=ZaS.get (Sl.keep ZaL.kept L6.out BI.out) hlj
     have NXT:=Zaa (show Zc3 E x=false→∀i,i<j+1→∀y,s.marks[i]?=some y→Zc3 E y=false from fun hf i hi y hy=>by
      by_cases hij:i=j
      ·subst hij
       rw[hx.out]at hy
       injection hy with hy
       rw[←hy];exact hf
      ·exact LOW.out i (by omega) y hy)
     have hn2:=Zaa (show 2≤n2 by have:=ML.out x (List.mem_of_getElem? hx.out);rw[i2.len]at this;exact this)
     have FS:=Zaa (show Zc3 E x=true→s.marks.find? (Zc3 E)=some x from fun hf=>ZpI LOW.out hx.out hf)
     have I2:=Zaa i2
     have IEr:=Zaa (Sl.keep ZcE.kept IE6.out BI.out)
     have e13:wr.cell? ⟨b13,0,none⟩=some (.slice CE pn kE):=(XE.out.keep BI.out).cell 0
     clear hx i2
     cases hcv:ZaU x E
     ·have HCV:=Zaa hcv
      have NX:=Zaa (NXT.out (by unfold Zc3;rw[hcv];rfl))
      clear hcv
      go_wp2_with (go_at_call 31;(with_reducible refine(ZbL I2.out IEr.out).mono ?_);rw[HCV.out];rintro e w7 ⟨rfl,rfl⟩)
      go_roundw
      case rel=>exact⟨j+1,by omega,by go_num,BI,NX⟩
      case measure=>simp[intOf];omega
     ·have HCV:=Zaa hcv
      cases heq:(x==E)
      ·have HEQ:=Zaa heq
       have FX:=Zaa (FS.out (by unfold Zc3;rw[hcv,heq];rfl))
       clear hcv heq
       go_wp2_with (first
        |(go_at_call 31;(with_reducible refine(ZbL I2.out IEr.out).mono ?_);rw[HCV.out];rintro e w7 ⟨rfl,rfl⟩)
        |(go_at_call 8;(with_reducible refine(Za9 I2.out IEr.out).mono ?_);rw[HEQ.out];rintro e w8 ⟨rfl,dr⟩;have BD:=Zaa dr.below;have Z8:=Zaa (Y1.out.keep (BI.out.trans (BD.out.mono BI.out.size)));clear dr;obtain⟨z0,z1,z2⟩:=Z8.out.three;have f0:=Z8.out.frozen 0;have f1:=Z8.out.frozen 1;have f2:=Z8.out.frozen 2))
       obtain⟨r0,r1,r2⟩:=(Z8.out.set3 (.int .i64 2) (.slice A2 n2 c2) (.int .i64 0)).three
       have BW:=Zaj (B6.out.trans ((BI.out.trans (BD.out.mono BI.out.size)).mono B6.out.size)) (show w.heap.size≤w.heap.size+1 by omega) (.int .i64 2) (.slice A2 n2 c2) (.int .i64 0)
       exact bodyPost_ret (v:=.tuple #[.agg #[.int .i64 2,.slice A2 n2 c2,.int .i64 0],.int .i64 0]) (by simp[results,Tryz.results13,go_sem,r0,r1,r2]) rfl (by rw[RE.out,ZkJ FX.out];exact⟨A2,n2,c2,rfl,Zam.setV (Sl.keep ZcE.kept I2.out BD.out) hn2.out Z8.out _ _ _,BW⟩)
      ·have HEQ:=Zaa heq
       have NX:=Zaa (NXT.out (by unfold Zc3;rw[hcv,heq];rfl))
       clear hcv heq
       go_wp2_with (first
        |(go_at_call 31;(with_reducible refine(ZbL I2.out IEr.out).mono ?_);rw[HCV.out];rintro e w7 ⟨rfl,rfl⟩)
        |(go_at_call 8;(with_reducible refine(Za9 I2.out IEr.out).mono ?_);rw[HEQ.out];rintro e w8 ⟨rfl,dr⟩;have BD:=Zaa dr.below;clear dr))
       go_roundw
       case rel=>exact⟨j+1,by omega,by go_num,Zaa (BI.out.trans (BD.out.mono BI.out.size)),NX⟩
       case measure=>simp[intOf];omega
    ·obtain rfl:j=L1:=by omega
     have NF:=Zaa (ZpJ (p:=Zc3 E) (ms:=s.marks) (fun i hi=>LOW.out i (by rw[HL1.out]at hi;exact hi)))
     have IN:=Zaa (show(∀a∈s.arcs,Inn j a.from_)∧(∀a∈s.arcs,Inn j a.to_)from⟨fun a ha=>by have:=(SP.out.ends a ha).1;rw[HL1.out]at this;exact this,fun a ha=>by have:=(SP.out.ends a ha).2.2;rw[HL1.out]at this;exact this⟩)
     have ON:=Zaa (ZkH (Sl.keep ZaL.kept L6.out BI.out) (Sl.keep Zh3.kept A6.out BI.out) (ZnZ (XE.out.keep BI.out) (Sl.keep ZcE.kept IE6.out BI.out)) hms harcs IN.out.1 IN.out.2)
     obtain⟨bs,hbs⟩:∃bs,Zcu s.arcs j (Zq8 (fun m=>m==E) s.marks j)=bs:=⟨_,rfl⟩
     rw[hbs]at ON
     have OL:=Zaa (show onL s E=bs by unfold onL;rw[HL1.out];exact hbs)
     have BSL:=Zaa (show bs.length=j by rw[←hbs];simp[Zcu])
     clear hbs c0
     obtain⟨c0,c1⟩:=(X6.out.keep BI.out).two
     obtain⟨ix,hix⟩:∃ix,bs.findIdx? (fun y=>false==y)=ix:=⟨_,rfl⟩
     have HIX:=Zaa hix
     have HIF:=Zaa (Zl2 hix)
     clear hix
     cases ix with
     | some k =>
      have hkl:k<j:=by
       have:=(List.findIdx?_eq_some_iff_getElem.1 HIX.out).1
       rw[BSL.out]at this;exact this
      have hkli:(k:Int)<(j:Int):=by omega
      obtain⟨b,off,x,A2,n2,c2,rfl,hb,hx,q0',i2,_⟩:=ZaS.get (Sl.keep ZaL.kept L6.out BI.out) hkl
      have hn2:=Zaa (show 2≤n2 by have:=ML.out x (List.mem_of_getElem? hx.out);rw[i2.len]at this;exact this)
      have I2:=Zaa i2
      have JS:=Zaa (ZkK (d:=DL) NF.out (by rw[OL.out];exact HIX.out) hx.out)
      have Q0:=Zaa q0'
      have HBL:=Zaa hb
      clear hx i2 q0' hb
      go_wp2_with (first
       |(go_at_call 32;(with_reducible refine ON.out.mono ?_);rintro e w7 ⟨g7,rfl,bo,hb7⟩;have BO:=Zaa bo;have B7:=Zaa hb7;clear bo hb7 c0 c1;obtain⟨c0,c1⟩:=(X6.out.keep (BI.out.trans (B7.out.mono BI.out.size))).two;have q0:=(B7.out.cell (p:=⟨b,off+k,none⟩) HBL.out).trans Q0.out)
       |(go_at_call 34;(with_reducible refine(Zc2 false BO.out (by omega)).mono ?_);rw[HIF.out];(simp only[Option.elim_some]);rintro e w8 ⟨rfl,rfl⟩;have Z8:=Zaa (Y1.out.keep (BI.out.trans (B7.out.mono BI.out.size)));obtain⟨z0,z1,z2⟩:=Z8.out.three;have f0:=Z8.out.frozen 0;have f1:=Z8.out.frozen 1;have f2:=Z8.out.frozen 2))
      obtain⟨r0,r1,r2⟩:=(Z8.out.set3 (.int .i64 3) (.slice A2 n2 c2) (.int .i64 0)).three
      have BW:=Zaj (B6.out.trans ((BI.out.trans (B7.out.mono BI.out.size)).mono B6.out.size)) (show w.heap.size≤w.heap.size+1 by omega) (.int .i64 3) (.slice A2 n2 c2) (.int .i64 0)
      exact bodyPost_ret (v:=.tuple #[.agg #[.int .i64 3,.slice A2 n2 c2,.int .i64 0],.int .i64 0]) (by simp[results,Tryz.results13,go_sem,r0,r1,r2]) rfl (by rw[RE.out,JS.out];exact⟨A2,n2,c2,rfl,Zam.setV (Sl.keep ZcE.kept I2.out B7.out) hn2.out Z8.out _ _ _,BW⟩)
     | none =>
      have HIX2:=Zaa (show(onL s E).findIdx? (fun y=>false==y)=none by rw[OL.out];exact HIX.out)
      have CD:=Zaa (fun(w':World) (hb:Below wr.heap.size wr w')=>show Calls _ _ _ _ (Zoz DL.length DL w') by rw[←HDL.out];exact ZnV (n:Int) (Sl.keep ZaL.kept (Sl.keep ZaL.kept L6.out BI.out) hb) (Sl.keep Zh3.kept (Sl.keep Zh3.kept A6.out BI.out) hb) (by omega))
      cases DL with
      | nil =>
       have JS:=Zaa (ZgD NF.out HIX2.out)
       go_wp2_with (first
        |(go_at_call 32;(with_reducible refine ON.out.mono ?_);rintro e w7 ⟨g7,rfl,bo,hb7⟩;have BO:=Zaa bo;have B7:=Zaa hb7;clear bo hb7 c0 c1;obtain⟨c0,c1⟩:=(X6.out.keep (BI.out.trans (B7.out.mono BI.out.size))).two;obtain⟨a0,a1⟩:=(Y0.out.keep (BI.out.trans (B7.out.mono BI.out.size))).two)
        |(go_at_call 34;(with_reducible refine(Zc2 false BO.out (by omega)).mono ?_);rw[HIF.out];(simp only[Option.elim_none]);rintro e w8 ⟨rfl,rfl⟩)
        |(go_at_call 35;(with_reducible refine(CD.out _ B7.out).mono ?_);rintro e w8 ⟨CC,kk,rfl,ii,hb8,_⟩;have B8:=Zaa (B7.out.trans (hb8.mono B7.out.size));clear ii hb8;have Z8:=Zaa (Y1.out.keep (BI.out.trans (B8.out.mono BI.out.size)));obtain⟨z0,z1,z2⟩:=Z8.out.three;have f0:=Z8.out.frozen 0;have f1:=Z8.out.frozen 1;have f2:=Z8.out.frozen 2))
       obtain⟨r0,r1,r2⟩:=(Z8.out.set3 (.int .i64 1) (.slice none 0 0) (.int .i64 0)).three
       have BW:=Zaj (B6.out.trans ((BI.out.trans (B8.out.mono BI.out.size)).mono B6.out.size)) (show w.heap.size≤w.heap.size+1 by omega) (.int .i64 1) (.slice none 0 0) (.int .i64 0)
       exact bodyPost_ret (v:=.tuple #[.agg #[.int .i64 1,.slice none 0 0,.int .i64 0],.int .i64 0]) (by simp[results,Tryz.results13,go_sem,r0,r1,r2]) rfl (by rw[RE.out,JS.out];exact⟨none,0,0,rfl,Sl.nil0,BW⟩)
      | cons t DT =>
       have JS:=Zaa (Zl3 (d:=DT) (t:=t) NF.out HIX2.out)
       have hdl:(0:Int)<((t::DT).length:Int):=by simp
       go_wp2_with (first
        |(go_at_call 32;(with_reducible refine ON.out.mono ?_);rintro e w7 ⟨g7,rfl,bo,hb7⟩;have BO:=Zaa bo;have B7:=Zaa hb7;clear bo hb7 c0 c1;obtain⟨c0,c1⟩:=(X6.out.keep (BI.out.trans (B7.out.mono BI.out.size))).two;obtain⟨a0,a1⟩:=(Y0.out.keep (BI.out.trans (B7.out.mono BI.out.size))).two)
        |(go_at_call 34;(with_reducible refine(Zc2 false BO.out (by omega)).mono ?_);rw[HIF.out];(simp only[Option.elim_none]);rintro e w8 ⟨rfl,rfl⟩)
        |(go_at_call 35;(with_reducible refine(CD.out _ B7.out).mono ?_);rintro e w8 ⟨CC,kk,rfl,ii,hb8,_⟩;have B8:=Zaa (B7.out.trans (hb8.mono B7.out.size));obtain⟨b9,off9,y9,rfl,_,hy9,q9⟩:=Zam.get ii (show 0<(t::DT).length by simp);obtain rfl:t=y9:=(by have:=hy9.out;simpa using this);clear ii hb8 hy9;(simp only[Nat.add_zero]at q9);have Z8:=Zaa (Y1.out.keep (BI.out.trans (B8.out.mono BI.out.size)));obtain⟨z0,z1,z2⟩:=Z8.out.three;have f0:=Z8.out.frozen 0;have f1:=Z8.out.frozen 1;have f2:=Z8.out.frozen 2))
       obtain⟨r0,r1,r2⟩:=(Z8.out.set3 (.int .i64 4) (.slice none 0 0) (.int .i64 t)).three
       have BW:=Zaj (B6.out.trans ((BI.out.trans (B8.out.mono BI.out.size)).mono B6.out.size)) (show w.heap.size≤w.heap.size+1 by omega) (.int .i64 4) (.slice none 0 0) (.int .i64 t)
       exact bodyPost_ret (v:=.tuple #[.agg #[.int .i64 4,.slice none 0 0,.int .i64 t],.int .i64 0]) (by simp[results,Tryz.results13,go_sem,r0,r1,r2]) rfl (by rw[RE.out,JS.out];exact⟨none,0,0,rfl,Sl.nil0,BW⟩)
  ·have RE:=Zaa (JE1.out hk)
   go_wp2
   obtain⟨r0,r1,r2⟩:=(Z1.out.set3 (.int .i64 0) (.slice none 0 0) (.int .i64 0)).three
   have BW:=Zaj B4.out (show w.heap.size≤w.heap.size+1 by omega) (.int .i64 0) (.slice none 0 0) (.int .i64 0)
   exact bodyPost_ret (v:=.tuple #[.agg #[.int .i64 0,.slice none 0 0,.int .i64 0],.int .i64 k]) (by simp[results,Tryz.results13,go_sem,r0,r1,r2]) rfl (by rw[RE.out];exact⟨none,0,0,rfl,Sl.nil0,BW⟩)
 ·have JF:=Zaa (JW.out hs0)
  have f0:=X1.out.frozen 0
  have f1:=X1.out.frozen 1
  have f2:=X1.out.frozen 2
  go_wp2_with (go_at_call 24;(with_reducible refine CW.out.mono ?_);rintro e w1 ⟨rfl,hb1⟩;have B1:=Zaa hb1;clear hb1 a0 a1 z0 z1 z2 f0 f1 f2;obtain⟨z0,z1,z2⟩:=(X1.out.keep B1.out).three;have f0:=(X1.out.keep B1.out).frozen 0;have f1:=(X1.out.keep B1.out).frozen 1;have f2:=(X1.out.keep B1.out).frozen 2)
  obtain⟨r0,r1,r2⟩:=((X1.out.keep B1.out).set3 (.int .i64 0) (.slice none 0 0) (.int .i64 0)).three
  have BW:=Zaj (HB.out.trans (B1.out.mono HB.out.size)) (show w.heap.size≤w.heap.size+1 by omega) (.int .i64 0) (.slice none 0 0) (.int .i64 0)
  exact bodyPost_ret (v:=.tuple #[.agg #[.int .i64 0,.slice none 0 0,.int .i64 0],.int .i64 sw]) (by simp[results,Tryz.results13,go_sem,r0,r1,r2]) rfl (by rw[JF.out];exact⟨none,0,0,rfl,Sl.nil0,BW⟩)
end Go.Proofs.YtfmnagcglhlicaaGreat
