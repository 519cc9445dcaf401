/- Texts melted into one: What is told of the text 'ab, ac': the block, its net, the verdict; and the verdict of one step's net. The plain law. Conditions: none. No program in sight. | alive: t -/
import Derived.Test.YtfmnagcglhlicaaGreatTopCrashK46
set_option maxRecDepth 100000
set_option maxHeartbeats 4000000
namespace Go.Proofs.YtfmnagcglhlicaaGreat
theorem nB {log:LLi}{p:aU}(h0:cP log=0)(h:Xe log 26 26 26 26 0=p):cZ log p:=by
 have:=(yE h0).2;rw[if_pos h0,h]at this;exact this
theorem Ap {f:Nat}{log:LLi}{p:aU}(h:cZ log p)(h1:bR log=log)(h2:log.length≠0)(h3:p.labels.length=1)(h4:log.any (fun t=>decide (1<t.length))=false):aP (f+1) log=bS (p.labels.headD 0):=by
 rw[nS (by rw[h1];exact h2) (by rw[h1];omega),h1];exact yJ h h3 h4
theorem Wv:∀f,aP (f+1) [[2]]=bS 2:=fun f=>Ap (p:=⟨[2],[2],[2],[]⟩) (nB (by decide) (by kernel_rfl)) (by decide) (by decide) rfl (by decide)
theorem Ww:∀f,aP (f+1) [[3]]=bS 3:=fun f=>Ap (p:=⟨[3],[3],[3],[]⟩) (nB (by decide) (by kernel_rfl)) (by decide) (by decide) rfl (by decide)
theorem Wx:∀f,aP (f+1) [[1],[1]]=bS 1:=fun f=>Ap (p:=⟨[1],[1],[1],[]⟩) (nB (by decide) (by kernel_rfl)) (by decide) (by decide) rfl (by decide)
theorem Vp (f:Nat):aP (f+2) [[2],[3]]=.mk 4 0 [bS 2,bS 3]:=by
 have hp:cZ [[2],[3]] ⟨[2,3],[2,3],[2,3],[]⟩:=nB (by decide) (by kernel_rfl);have hf:bR [[2],[3]]=[[2],[3]]:=by decide
 rw[nS (by decide) (by decide),hf,sQ hp (by decide) (by decide +kernel)];rw[show eF (bhB ⟨[2,3],[2,3],[2,3],[]⟩) [2,3]=[[2],[3]] by decide +kernel];show aW.mk 4 0 [aP (f+1) [[2]],aP (f+1) [[3]]]=_
 rw[Wv,Ww]
theorem Tn (f:Nat):aP (f+3) [[1,2],[1,3]]=.mk 3 0 [bS 1,.mk 4 0 [bS 2,bS 3]]:=by
 have hp:cZ [[1,2],[1,3]] ⟨[1,2,3],[1],[2,3],[(1,2),(1,3)]⟩:=nB (by decide) (by kernel_rfl);have hf:bR [[1,2],[1,3]]=[[1,2],[1,3]]:=by decide
 have hg:eF (eE (gQ ⟨[1,2,3],[1],[2,3],[(1,2),(1,3)]⟩)) [1,2,3]=[[1],[2,3]]:=by decide +kernel
 have hG:uY (eE (gQ ⟨[1,2,3],[1],[2,3],[(1,2),(1,3)]⟩)) [1,2,3] [[1],[2,3]]:=by
  have:uY (eE (gQ ⟨[1,2,3],[1],[2,3],[(1,2),(1,3)]⟩)) [1,2,3] (eF (eE (gQ ⟨[1,2,3],[1],[2,3],[(1,2),(1,3)]⟩)) [1,2,3]):=iZ (by decide);rw[hg]at this;exact this
 rw[nS (by decide) (by decide),hf,DK hp (by decide) (by decide +kernel) (by unfold Gy;decide +kernel)];unfold zY;simp only;rw[hg,OZ hG (M:=[[1],[2,3]]) (by decide) (List.pairwise_cons.2 ⟨fun x hx=>by rw[List.mem_singleton.1 hx];unfold ltG;decide +kernel,List.pairwise_singleton _ _⟩) (fun x=>Iff.rfl)];show aW.mk 3 0 [aP (f+2) [[1],[1]],aP (f+2) [[2],[3]]]=_
 rw[Wx,Vp]
theorem To:eQ [[1,2],[1,3]]=(0,.mk 3 0 [bS 1,.mk 4 0 [bS 2,bS 3]]):=by
 have h:aP 60 [[1,2],[1,3]]=.mk 3 0 [bS 1,.mk 4 0 [bS 2,bS 3]]:=Tn 57;have hw:eZ (.mk 3 0 [bS 1,.mk 4 0 [bS 2,bS 3]])=0:=by decide +kernel
 unfold eQ;rw[if_neg (by decide),h,if_neg (by rw[hw];decide)]
theorem Tq:pQ 41 (.mk 3 0 [bS 1,.mk 4 0 [bS 2,bS 3]])=[62,40,97,44,63,40,98,44,99,41,41]:=by decide +kernel
theorem Vq:jR [97,98,10,97,99,10]=([[1,2],[1,3]],0,0):=by decide +kernel
def Up:aS:=⟨3,[⟨1,[1,0,0],[0,0,1]⟩,⟨2,[0,0,1],[0,1,0]⟩,⟨3,[0,0,1],[0,1,0]⟩]⟩
theorem Tt:fZ (.mk 3 0 [bS 1,.mk 4 0 [bS 2,bS 3]])=(Up,0):=by decide +kernel
def oU:aS:=⟨2,[⟨2,[1,0],[0,1]⟩]⟩
theorem Tu:fZ (bS 2)=(oU,0):=by decide +kernel
theorem Eg {N:aS} {i o most:Int} {s:PSp} (h:dV N i o=0) (hg:bG N (gX (min N.places 16).toNat i) most=(s,0)) (he:s.marks.find? (jM (gX (min N.places 16).toNat o))=none)
  (hr:∀k,k<s.marks.length→∃q∈JU (fun m=>m==gX (min N.places 16).toNat o) s.marks s.marks.length,fG (nxt s.arcs) q (k:Int)) (hd:pG s.arcs (min (N.trans.length:Int) 24).toNat=[]):dU N i o most=((1,[],0),0):=by
 rw[x7 h hg,hd,sH he];rw[List.findIdx?_eq_none_iff];intro b hb;unfold onL kC at hb;obtain⟨k,hk,rfl⟩:=List.mem_map.1 hb;have:=hr k (List.mem_range.1 hk);simp[this]
def Tv:PSp:=⟨[[1,0,0],[0,0,1],[0,1,0]],[⟨0,0,1⟩,⟨1,1,2⟩,⟨1,2,2⟩]⟩
theorem Qp:dU Up 0 1 300=((1,[],0),0):=by
 refine Eg (s:=Tv) (by decide +kernel) (by kernel_rfl) (by decide +kernel) (fun k hk=>⟨2,by decide +kernel, ?_⟩) (by decide +kernel);have h2:fG (nxt Tv.arcs) 2 2:=.refl _;have h1:fG (nxt Tv.arcs) 2 1:=.step (y:=1) (by decide +kernel) (.refl _);have h0:fG (nxt Tv.arcs) 2 0:=.step (y:=1) (by decide +kernel) (.step (y:=0) (by decide +kernel) (.refl _));match k,hk with
 | 0,_=>exact h0
 | 1,_=>exact h1
 | 2,_=>exact h2
 | k+3,hk=>exact absurd hk (by show ¬k+3<3;omega)
def Vr:PSp:=⟨[[1,0],[0,1]],[⟨0,0,1⟩]⟩
theorem Qq:dU oU 0 1 9=((1,[],0),0):=by
 refine Eg (s:=Vr) (by decide +kernel) (by kernel_rfl) (by decide +kernel) (fun k hk=>⟨1,by decide +kernel, ?_⟩) (by decide +kernel);have h1:fG (nxt Vr.arcs) 1 1:=.refl _;have h0:fG (nxt Vr.arcs) 1 0:=.step (y:=0) (by decide +kernel) (.refl _);match k,hk with
 | 0,_=>exact h0
 | 1,_=>exact h1
 | k+2,hk=>exact absurd hk (by show ¬k+2<2;omega)
open Go.RowKit Go.Maps
theorem Tz {r:Xo}(h:rZ [97,98,10,97,99,10] r):r.err=0∧r.text=[62,40,97,44,63,40,98,44,99,41,41]∧r.verdict=1:=by
 unfold rZ at h;rw[Vq,To]at h;simp only at h;rw[Tt]at h;simp only at h;rw[Qp,Tq]at h;rw[if_neg (by decide),if_neg (by decide),if_neg (by decide),if_neg (by decide)]at h;exact⟨h.1,h.2.2.1,h.2.2.2.1⟩
theorem Hk (w:World):Calls Tryz.prog 6 #[] w fun e w'=>e=.returned (.bool true)∧Below w.heap.size w w':=by
 have CT:=aA (Lx [97,98,10,97,99,10] (by decide) w);go_enter Tryz.func6,Tryz.ntmps6
 go_wp2_with fail
 refine CT.o.mono ?_;rintro e w1 ⟨r,A,n,c,rfl,_,ht,hb1⟩;obtain⟨e1,e2,e3⟩:=Tz ht;rw[e1,e2,e3];generalize r.line=ln;have B1:=aA (aB w1 (.cells #[.int .i64 0,.int .i64 ln,.string ⟨#[62,40,97,44,63,40,98,44,99,41,41]⟩,.int .i64 1,.slice A n c] 64));have T1:=aA (Box.new w1 #[.int .i64 0,.int .i64 ln,.string ⟨#[62,40,97,44,63,40,98,44,99,41,41]⟩,.int .i64 1,.slice A n c] 64);have D1:=aA (hb1.trans (B1.o.mono hb1.size));clear ht hb1 e1 e2 e3 CT;go_upto_region 2 with fail
 generalize w1.alloc (.cells #[.int .i64 0,.int .i64 ln,.string ⟨#[62,40,97,44,63,40,98,44,99,41,41]⟩,.int .i64 1,.slice A n c] 64)=w2 at *
 generalize w1.heap.size=b1 at T1;have CG:=aA (vS (d:=0) (kd:=2) (lb:=2) (A:=none) (n:=0) (c:=0) (ks:=[]) (w:=w2) Sl.nil0);have GO:=aA (show fZ (.mk 2 2 [])=(oU,0)from Tu);rw[GO.o]at CG;go_wp2_with fail
 refine CG.o.mono ?_;rintro e w3 ⟨A3,n3,c3,rfl,tr,_,hb3⟩;have B3:=aA (aB w3 (.cells #[.int .i64 oU.places,.slice A3 n3 c3] 24));have T3:=aA (Box.new w3 #[.int .i64 oU.places,.slice A3 n3 c3] 24);have H3:=aA (hb3.trans (B3.o.mono hb3.size));have TR:=aA (tr.keep B3.o);have T13:=aA (T1.o.keep H3.o);have D3:=aA (D1.o.trans (H3.o.mono D1.o.size));have HN:=aA (show n3≤2513169434916 by have:=TR.o.len;simp[oU]at this;omega);clear tr hb3 CG;go_upto_region 3 with fail
 generalize w3.alloc (.cells #[.int .i64 oU.places,.slice A3 n3 c3] 24)=w4 at *
 generalize w3.heap.size=b3 at T3;have CJ:=aA (pJ (P:=oU.places) 0 1 9 TR.o HN.o);rw[show dU ⟨oU.places,oU.trans⟩ 0 1 9=((1,[],0),0)from Qq]at CJ;obtain⟨t0,t1⟩:=T3.o.two;go_wp2_with fail
 refine CJ.o.mono ?_;rintro e w5 ⟨A5,n5,c5,rfl,i5,hb5⟩;have B5:=aA (aB w5 (.cells #[.int .i64 1,.slice A5 n5 c5,.int .i64 0] 56));have T5:=aA (Box.new w5 #[.int .i64 1,.slice A5 n5 c5,.int .i64 0] 56);have H5:=aA (hb5.trans (B5.o.mono hb5.size));have T15:=aA (T13.o.keep H5.o);have D5:=aA (D3.o.trans (H5.o.mono D3.o.size));clear i5 hb5 CJ t0 t1;go_upto_region 4 with fail
 generalize w5.alloc (.cells #[.int .i64 1,.slice A5 n5 c5,.int .i64 0] 56)=w6 at *
 generalize w5.heap.size=b5 at T5;obtain⟨z0,z1,z2,z3,z4⟩:=Box.fiveR T15.o;have y0:=T5.o.cell 0;go_wp2
 go_ret
 exact⟨by first|rfl|simp,D5.o⟩
def iL:World→(Nat→Value)→cQ→Prop:=fun _ vs x=>vs 0=.int .i64 x.user∧vs 1=.int .i64 x.tran∧vs 2=.bool x.open_
theorem iL.kept:t8 iL:=fun _ _ _ _ _ h=>h
theorem iL.good:Jj iL 3 where
 kept:=iL.kept
 one:=fun w vs x h j hj=>by
  obtain⟨h0,h1,h2⟩:=h;match j,hj with
  | 0,_=>rw[h0];rfl
  | 1,_=>rw[h1];rfl
  | 2,_=>rw[h2];rfl
 pos:=by omega
abbrev Hm (w:World)(A:OAd)(n c:Nat)(xs:List cQ):Prop:=Sl iL 3 w A n c xs
abbrev iV (w:World)(B:Nat)(v:Value)(n:Nat)(xs:List cQ):Prop:=aC iL 3 w B 42 v n xs
theorem Hm.get {w:World}{A:OAd}{n c k:Nat}{xs:List cQ}(h:Hm w A n c xs)(hk:k<n) :
  ∃b off x,A=some ⟨b,off,none⟩∧b<w.heap.size∧Hid (xs[k]?=some x)∧w.cell? ⟨b,off+k*3,none⟩=some (.int .i64 x.user)∧w.cell? ⟨b,off+k*3+1,none⟩=some (.int .i64 x.tran)∧w.cell? ⟨b,off+k*3+2,none⟩=some (.bool x.open_):=by
 obtain⟨b,off,x,vs,h1,h2,h3,h4,e0,e1,e2⟩:=Sl.get h hk;refine⟨b,off,x,h1,h2,h3, ?_, ?_, ?_⟩
 ·rw[←e0];exact h4 0 (by omega)
 ·rw[←e1];exact h4 1 (by omega)
 ·rw[←e2];exact h4 2 (by omega)
theorem Hn:mC 31 42 3 24:=mC.mk' (z:=.agg #[.int .i64 0,.int .i64 0,.bool false]) Tryz.underlying31 (by kernel_rfl) rfl (by decide)
theorem a6.item {w:World}{x:cQ}:a6 iL 3 w [.int .i64 x.user,.int .i64 x.tran,.bool x.open_] [x] :=
 a6.one (vs:=fun j=>[Value.int .i64 x.user,.int .i64 x.tran,.bool x.open_].getD j undef) ⟨rfl,rfl,rfl⟩ rfl (fun j hj=>by
  match j,hj with
  | 0,_=>rfl
  | 1,_=>rfl
  | 2,_=>rfl)
theorem TC {roles:LLi}{u l:Int}(h:u<0):AD roles u l=false:=by
 unfold AD;rw[decide_eq_false (by omega)];rfl
theorem TD {roles:LLi}{u:Nat}{l:Int}(h:¬(u<roles.length∧u<8)):AD roles (u:Int) l=false:=by
 unfold AD;by_cases h8:u<8
 ·have:roles.length≤u:=by omega
  simp[List.getD_eq_getElem?_getD,List.getElem?_eq_none this]
 ·rw[decide_eq_false (p:=(u:Int)<8) (by omega)];simp
theorem Vs {roles:LLi}{u:Nat}{l:Int}{x:LIn}(hx:roles[u]?=some x)(h8:u<8):AD roles (u:Int) l=x.any fun y=>l==y:=by
 unfold AD;rw[decide_eq_true (by omega),decide_eq_true (by omega)];simp[List.getD_eq_getElem?_getD,hx]
theorem Eh {w:World}{P:Int}{A R:OAd}{n c r q:Nat}{roles:LLi}(u l:Int)(h:bT w R r q roles) :
  Calls Tryz.prog 104 #[.agg #[.int .i64 P,.slice A n c,.slice R r q],.int .i64 u,.int .i64 l] w fun e w'=>e=.returned (.bool (AD roles u l))∧Below w.heap.size w w':=by
 have HB:=aA (eS w (.cells #[.int .i64 P,.slice A n c,.slice R r q] 75));have X0:=aA (Box.new w #[.int .i64 P,.slice A n c,.slice R r q] 75);have H:=aA (Sl.keep bH.kept h HB.o);have HL:=aA h.len;have hsm:=h.small;clear h;by_cases hu:u<0
 ·have FN:=aA (TC (roles:=roles) (l:=l) hu);rw[FN.o];go_enter Tryz.func104,Tryz.ntmps104
  go_wp2
  go_ret
  exact⟨rfl,HB.o⟩
 ·obtain⟨v,rfl⟩:∃v:Nat,u=(v:Int):=⟨u.toNat,by omega⟩;clear hu;obtain⟨M,hM⟩:∃M:Nat,min r 8=M:=⟨_,rfl⟩;have hmn:min (r:Int) 8=(M:Int):=by omega
  have hM1:M≤r:=by omega
  have hM8:M≤8:=by omega
  by_cases hv:v<M
  ·have hvi:(v:Int)<(M:Int):=by omega
   obtain⟨b,off,x,B,m,d,rfl,hb,hx,hc,ix,hmx⟩:=bT.get H.o (k:=v) (by omega);have FN:=aA (Vs (l:=l) hx.o (by omega));have IX:=aA ix;rw[FN.o];clear ix hM;have hvr:v<r:=by omega
   go_enter Tryz.func104,Tryz.ntmps104
   go_upto_region 1 with fail
   obtain⟨c0,c1,c2⟩:=X0.o.three;generalize w.alloc (.cells #[.int .i64 P,.slice A n c,.slice (some ⟨b,off,none⟩) r q] 75)=w0 at *
   go_wp2_with (go_at_call 143;(with_reducible refine(eT l IX.o).mono ?_);rintro e w' ⟨rfl,rfl⟩)
   go_ret
   exact⟨rfl,HB.o⟩
  ·have FN:=aA (TD (roles:=roles) (u:=v) (l:=l) (by have:=HL.o;omega));rw[FN.o];have hvi:(M:Int)≤(v:Int):=by omega
   clear hM;go_enter Tryz.func104,Tryz.ntmps104
   go_wp2
   go_ret
   exact⟨rfl,HB.o⟩
structure f7 (w:World)(B:OAd)(m d:Nat)(D:OAd)(l e:Nat)(I:OAd)(n c:Nat)(k:aX):Prop where
 mark:aJ w B m d k.case_.mark
 busy:aJ w D l e k.case_.busy
 items:Hm w I n c k.items
theorem f7.keep {w w':World}{B D I:OAd}{m d l e n c:Nat}{k:aX}(h:f7 w B m d D l e I n c k)(hb:Below w.heap.size w w'):f7 w' B m d D l e I n c k :=
 ⟨h.mark.keep hb,h.busy.keep hb,Sl.keep iL.kept h.items hb⟩
def Ei (k:aX)(o:POp):cQ:=if kA k o=0 then dF k o else⟨0,0,false⟩
def kL (k:aX)(o:POp)(w:World)(e:Ending)(w':World):Prop :=
 e=.returned (.tuple #[.agg #[.int .i64 (Ei k o).user,.int .i64 (Ei k o).tran,.bool (Ei k o).open_],.int .i64 (kA k o)])∧Below w.heap.size w w'
theorem kL.no {k:aX}{o:POp}{w w':World}{x:Int}(hx:kA k o=x)(h0:x≠0)(hb:Below w.heap.size w w') :
  kL k o w (.returned (.tuple #[.agg #[.int .i64 0,.int .i64 0,.bool false],.int .i64 x])) w':=by
 unfold kL Ei;rw[hx,if_neg h0];exact⟨rfl,hb⟩
theorem Qr {k:aX}{o:POp}(h:¬(0≤o.item∧o.item<(k.items.length:Int))):kA k o=3:=by
 unfold kA;rw[if_neg (fun e=>h ⟨e.1,e.2.1⟩)]
theorem TI {k:aX}{o:POp}{i:Nat}{x:cQ}(hi:o.item=(i:Int))(hx:k.items[i]?=some x):kA k o=(if x.open_=true then(if x.user=o.user then 0 else 7)else 3)∧dF k o=x:=by
 have hlt:=(List.getElem?_eq_some_iff.1 hx).1;have hd:k.items.getD o.item.toNat default=x:=by rw[hi];simp[List.getD_eq_getElem?_getD,hx]
 refine⟨?_,hd⟩;unfold kA;rw[hd];by_cases ho:x.open_=true
 ·rw[if_pos ⟨by omega,by omega,ho⟩,if_pos ho]
 ·rw[if_neg (fun e=>ho e.2.2),if_neg ho]
theorem Ly {w:World}{B D I:OAd}{m d l e n c:Nat}{k:aX}(o:POp)(h:f7 w B m d D l e I n c k) :
  Calls Tryz.prog 106 #[.agg #[.slice B m d,.slice D l e,.slice I n c],.agg #[.int .i64 o.kind,.int .i64 o.user,.int .i64 o.tran,.int .i64 o.item,.int .i64 o.to_]] w (kL k o w):=by
 generalize hw:((w.alloc (.cells #[.slice B m d,.slice D l e,.slice I n c] 33)).alloc (.cells #[.int .i64 o.kind,.int .i64 o.user,.int .i64 o.tran,.int .i64 o.item,.int .i64 o.to_] 45)).alloc (.cells #[.int .i64 0,.int .i64 0,.bool false] 42)=w0;have HB:=aA (show Below w.heap.size w w0 by rw[←hw];exact(((Below.refl _ _).alloc (Nat.le_refl _) _).alloc (by simp) _).alloc (by simp;omega) _);have X0:=aA (show Box w0 w.heap.size 33 #[.slice B m d,.slice D l e,.slice I n c] by rw[←hw];exact((Box.new _ _ _).old _).old _);have X1:=aA (show Box w0 (w.heap.size+1) 45 #[.int .i64 o.kind,.int .i64 o.user,.int .i64 o.tran,.int .i64 o.item,.int .i64 o.to_] by rw[←hw];exact(Box.newAt (by simp) _ _).old _);have X2:=aA (show Box w0 (w.heap.size+1+1) 42 #[.int .i64 0,.int .i64 0,.bool false] by rw[←hw];exact Box.newAt (by simp) _ _);have H:=aA (Sl.keep iL.kept h.items HB.o);have HL:=aA h.items.len;have hsm:=h.items.small;clear h;obtain⟨it,hit⟩:∃it,o.item=it:=⟨_,rfl⟩;obtain⟨ou,hou⟩:∃it,o.user=it:=⟨_,rfl⟩;have HIT:=aA hit;have HOU:=aA hou;rw[hit,hou]at hw X1;go_enter Tryz.func106,Tryz.ntmps106
 rw[hit,hou];clear hit hou;go_upto_region 1 with fail
 clear hw;obtain⟨c0,c1,c2⟩:=X0.o.three;obtain⟨y0,y1,y2,y3,y4⟩:=X1.o.five;obtain⟨z0,z1,z2⟩:=X2.o.three;have f0:=X2.o.frozen 0;have f1:=X2.o.frozen 1;have f2:=X2.o.frozen 2;by_cases hr:0≤it∧it<(n:Int)
 ·obtain⟨j,rfl⟩:∃j:Nat,it=(j:Int):=⟨it.toNat,by omega⟩;have hjn:j<n:=by omega
  obtain⟨b,off,x,rfl,hb,hx,q0,q1,q2⟩:=Hm.get H.o hjn;have II:=aA (TI HIT.o hx.o);have hji:(j:Int)<(n:Int):=by omega
  clear hr;cases ho:x.open_
  ·have FN:=aA (show kA k o=3 by rw[II.o.1,if_neg (by rw[ho];decide)]);rw[ho]at q2;clear ho;go_wp2
   obtain⟨r0,r1,r2⟩:=(X2.o.set3 (.int .i64 0) (.int .i64 0) (.bool false)).three;exact bodyPost_ret (v:=.tuple #[.agg #[.int .i64 0,.int .i64 0,.bool false],.int .i64 3]) (by simp[results,Tryz.results106,go_sem,r0,r1,r2]) rfl (kL.no (FN.o) (by decide) (aG HB.o (by omega) _ _ _))
  ·rw[ho]at q2;by_cases hu:x.user=ou
   ·have FN:=aA (show kA k o=0 by rw[II.o.1,if_pos ho,if_pos (by rw[HOU.o];exact hu)]);have hne:(x.user != ou)=false:=by simpa using hu
    have VN:=aA (show Ei k o=x by unfold Ei;rw[if_pos FN.o,II.o.2]);have HO:=aA ho;clear ho;go_wp2
    go_quiet (fail)
    go_wp2
    have XQ:=aA (X2.o.keep (xI w0 nq));have BQ:=aA (HB.o.trans ((xI w0 nq).mono HB.o.size));obtain⟨r0,r1,r2⟩:=(XQ.o.set3 (.int .i64 ou) (.int .i64 x.tran) (.bool true)).three;exact bodyPost_ret (v:=.tuple #[.agg #[.int .i64 ou,.int .i64 x.tran,.bool true],.int .i64 0]) (by simp[results,Tryz.results106,go_sem,r0,r1,r2]) rfl (by unfold kL;rw[VN.o,FN.o,HO.o,hu];exact⟨rfl,aG BQ.o (by omega) _ _ _⟩)
   ·have FN:=aA (show kA k o=7 by rw[II.o.1,if_pos ho,if_neg (by rw[HOU.o];exact hu)]);have hne:(x.user != ou)=true:=by simpa using hu
    clear ho hu;go_wp2
    go_quiet (fail)
    go_wp2
    have XQ:=aA (X2.o.keep (xI w0 nq));have BQ:=aA (HB.o.trans ((xI w0 nq).mono HB.o.size));obtain⟨r0,r1,r2⟩:=(XQ.o.set3 (.int .i64 0) (.int .i64 0) (.bool false)).three;exact bodyPost_ret (v:=.tuple #[.agg #[.int .i64 0,.int .i64 0,.bool false],.int .i64 7]) (by simp[results,Tryz.results106,go_sem,r0,r1,r2]) rfl (kL.no FN.o (by decide) (aG BQ.o (by omega) _ _ _))
 ·have FN:=aA (show kA k o=3 from Qr (by rw[HIT.o,HL.o];exact hr));by_cases h0:it<0
  ·clear hr;go_wp2
   obtain⟨r0,r1,r2⟩:=(X2.o.set3 (.int .i64 0) (.int .i64 0) (.bool false)).three;exact bodyPost_ret (v:=.tuple #[.agg #[.int .i64 0,.int .i64 0,.bool false],.int .i64 3]) (by simp[results,Tryz.results106,go_sem,r0,r1,r2]) rfl (kL.no (FN.o) (by decide) (aG HB.o (by omega) _ _ _))
  ·have h1:(n:Int)≤it:=by omega
   clear hr;go_wp2
   obtain⟨r0,r1,r2⟩:=(X2.o.set3 (.int .i64 0) (.int .i64 0) (.bool false)).three;exact bodyPost_ret (v:=.tuple #[.agg #[.int .i64 0,.int .i64 0,.bool false],.int .i64 3]) (by simp[results,Tryz.results106,go_sem,r0,r1,r2]) rfl (kL.no (FN.o) (by decide) (aG HB.o (by omega) _ _ _))
theorem vW {P:Program} {w:World} (t ty e:TypeId) (i:TypeInfo) (z:Value) (size bytes:Nat) (ht:P.underlying t=some (.slice e)) (hi:P.info? e=some i) (hz:i.zero=some z)
  (hsize:i.size=size) (hby:i.bytes=bytes) (hzs:z.cells.size=size) (hsz:0<size)
  (A:OAd) (n:Nat) (xs:List Value) (hx:xs.length=n*size) (hnone:A=none→n=0) (hcell:∀ad,A=some ad→∀j u,xs[j]?=some u→w.cell? (ad.add j)=some u)
  (a:Addr) (m c:Nat) (news:List Value) (hl:news.length=m*size) (hm:0<m) (hnews:∀j u,news[j]?=some u→w.cell? (a.add j)=some u) (h1:∀u∈news,u.oneCell'=true)
  (h63:n+m≤maxLen) (hbytes:(n+m)*bytes≤140737488355328) :
  ∃v' w',(Builtin.append_ #[t,t] ty #[.slice A n n,.slice (some a) m c]).run P w=.ok v' w'∧w'.ownsRow w.heap.size e size v' (n+m) (xs++news)∧w.grownBy w' none:=by
 cases hA:A with
 | none =>
  have hn:=hnone hA;subst hn;have hx0:xs=[]:=List.eq_nil_of_length_eq_zero (by simpa using hx);subst hx0;obtain⟨v',w',r1,r2,r3,_⟩:=run_append_own_at (P:=P) w w.heap.size t ty e i z size bytes ht hi hz hsize hby hzs hsz (.slice none 0 0) 0 [] (World.ownsRow_nil _ _ _ _) a m c news hl hnews h1 h63 hbytes (Nat.le_refl _);exact⟨v',w',r1,r2,r3⟩
 | some ad =>
  subst hsize hby;have hsmall:n+m≤9223372036854775807:=by simp only[maxLen]at h63;omega
  have hlen:(xs++news).length=(n+m)*i.size:=by rw[List.length_append,hx,hl,Nat.add_mul]
  have hr:=run_append_grow (P:=P) w t ty e i z ht hi hz ad n n xs hx (hcell ad hA) a m c news hl hnews (by omega) (by omega) (growslice_fits (by omega) hbytes);have hge:=grownCap_ge w (n+m) n e;have hcm:grownCap w (n+m) n e≤maxLen:=grownCap_le_maxLen w (n+m) n e h63;refine⟨_,_,hr,⟨hlen,.inr ⟨w.heap.size,_,_,rfl,Nat.le_refl _,heap_alloc_new w.drew _,hge,hcm, ?_, ?_⟩⟩,⟨rfl,rfl,rfl,by simp,fun k hk _=>heap_alloc_old w.drew _ hk⟩⟩
  ·simp only[Array.size_append,List.size_toArray,size_zeroCells,hzs,hx,hl,←Nat.add_mul];congr 1
   omega
  ·simp only[Array.toList_append,List.append_assoc];rw[←List.append_assoc,←hlen];exact List.take_left
theorem sR {α:Type} {R:World→(Nat→Value)→α→Prop} {t e size bytes:Nat} (T:mC t e size bytes) (G:Jj R size) {ops:Array Oper} {o:Oper} {a:Act} {K:Act→World→Prop} {Q:Exit→Act→World→Prop} {E:Prop} (hgd:o.guard=none) (s x:Operand)
  (ho:o.op=.call {callee:=.builtin .append,args:=#[s,x],argTypes:=#[t,t]})
  {w0 w W:World} {B:Nat} {A:OAd} {n m:Nat} {xs:List α} (ys:List α) (us:Array Value) {H:Nat} (hs:a.eval s=.slice A n n) (hx:a.eval x=.slice (some ⟨H,0,none⟩) m m) (hH:H=w.heap.size) (hW:W=w.alloc (.cells us e)) (hus:us.size=m*size) (hm:0<m) (one:∀u∈us.toList,u.oneCell'=true)
  (src:Sl R size w A n n xs) (hread:a6 R size w us.toList ys) (hy:ys.length=m) (hb:Below B w0 w) (hB:B≤w.heap.size) (h63:n+m≤281474976710656) (hn:(n+m)*bytes≤140737488355328)
  (hK:∀g cap w',aC R size w' B e (.slice (some ⟨g,0,none⟩) (n+m) cap) (n+m) (xs++ys)→Below B w0 w'→K (a.put o.dst (.slice (some ⟨g,0,none⟩) (n+m) cap)) w') :
  if Region.wanted o (yielded ops a.tmps)=true then Oper.wp Tryz.prog o a W K Q else E:=by
 subst hH hW;rw[if_pos (by simp[Region.wanted,hgd])];obtain⟨i,z,h1,h2,h3,h4,h5⟩:=T.info;have na:Below w.heap.size w (w.alloc (.cells us e)):=eS _ _;have src':=src.keep G.kept na;obtain⟨ds,d1,d2,d3,d4,d5⟩:=src'.flat G;obtain⟨v',w',hr,r1,r2⟩:=vW (P:=Tryz.prog) (w:=w.alloc (.cells us e)) t o.type e i z size bytes T.und h1 h2 h3 h4 h5 T.pos A n ds d1 (fun e=>(d2 e).1) d3 ⟨w.heap.size,0,none⟩ m m us.toList (by simpa using hus) hm (fun j u hj=>by
  have hz:((⟨w.heap.size,0,none⟩:Addr).add j)=⟨w.heap.size,j,none⟩:=by unfold Addr.add;split <;> simp_all
  rw[hz];have:(w.alloc (.cells us e)).cell? ⟨w.heap.size,j,none⟩=us[j]?:=cell_of_row _ _ _ _ _ (0,0) (heap_alloc_new w _);rw[this];simpa using hj) one (by simp only[maxLen];omega) hn
 obtain⟨g,cap,hv,hBg,hgl⟩:∃g cap,v'=.slice (some ⟨g,0,none⟩) (n+m) cap∧(w.alloc (.cells us e)).heap.size≤g∧g<w'.heap.size:=r1.form (by omega);subst hv;have hb2:Below (w.alloc (.cells us e)).heap.size (w.alloc (.cells us e)) w':=(Below.refl _ _).grown r2 (Nat.le_refl _) (fun k hk=>by cases hk);have hb3:Below w.heap.size w w':=na.trans (hb2.mono na.size);have ap:=d5.append (hread.keep G.kept na);have own2:aC R size w' (w.alloc (.cells us e)).heap.size e (.slice (some ⟨g,0,none⟩) (n+m) cap) (n+m) (xs++ys) :=
  ⟨_,r1,ap.keep G.kept hb2,by rw[List.length_append,src.len,hy]⟩
 have h:=hK g cap w' (own2.base (Nat.le_trans hB na.size)) (hb.trans (hb3.mono hB));unfold Oper.wp execOp;simp only[ho,resolve,invoke,builtin,Sem.run_bind,Sem.run_pure,Result.andThen_ok,List.map_toArray,List.map_cons,List.map_nil,hs,hx,hr];exact h
end Go.Proofs.YtfmnagcglhlicaaGreat
