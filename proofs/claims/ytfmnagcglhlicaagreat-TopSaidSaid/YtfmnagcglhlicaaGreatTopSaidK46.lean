/- Texts melted into one: What is told of the text 'ab, ac': the block, its net, the verdict; and the verdict of one step's net. The plain law. Conditions: none. No program in sight. | alive: the closed fact that is asked first is true. Conditions: none. | The plain law of desks: who may do what, what  -/
import Derived.Test.YtfmnagcglhlicaaGreatTopSaidK45
set_option maxRecDepth 100000
namespace Go.Proofs.YtfmnagcglhlicaaGreat
theorem Zew {log:List (List Int)}{p:Zas}(h0:Za6 log=0)(h:ZtN log 26 26 26 26 0=p):Zbc log p:=by
 have:=(ZiG h0).2
 rw[if_pos h0,h]at this
 exact this
theorem ZjD {f:Nat}{log:List (List Int)}{p:Zas}(h:Zbc log p)(h1:ZaM log=log)(h2:log.length≠0)(h3:p.labels.length=1)(h4:log.any (fun t=>decide (1<t.length))=false):Zao (f+1) log=ZaN (p.labels.headD 0):=by
 rw[ZeJ (by rw[h1];exact h2) (by rw[h1];omega),h1]
 exact ZiL h h3 h4
theorem Ztt:∀f,Zao (f+1) [[2]]=ZaN 2:=fun f=>ZjD (p:=⟨[2],[2],[2],[]⟩) (Zew (by decide) (by kernel_rfl)) (by decide) (by decide) rfl (by decide)
theorem Ztu:∀f,Zao (f+1) [[3]]=ZaN 3:=fun f=>ZjD (p:=⟨[3],[3],[3],[]⟩) (Zew (by decide) (by kernel_rfl)) (by decide) (by decide) rfl (by decide)
theorem Ztv:∀f,Zao (f+1) [[1],[1]]=ZaN 1:=fun f=>ZjD (p:=⟨[1],[1],[1],[]⟩) (Zew (by decide) (by kernel_rfl)) (by decide) (by decide) rfl (by decide)
theorem ZsJ (f:Nat):Zao (f+2) [[2],[3]]=.mk 4 0 [ZaN 2,ZaN 3]:=by
 have hp:Zbc [[2],[3]] ⟨[2,3],[2,3],[2,3],[]⟩:=Zew (by decide) (by kernel_rfl)
 have hf:ZaM [[2],[3]]=[[2],[3]]:=by decide
 rw[ZeJ (by decide) (by decide),hf,ZgA hp (by decide) (by decide +kernel)]
 rw[show ZbG (bhB ⟨[2,3],[2,3],[2,3],[]⟩) [2,3]=[[2],[3]] by decide +kernel]
 show Zat.mk 4 0 [Zao (f+1) [[2]],Zao (f+1) [[3]]]=_
 rw[Ztt,Ztu]
theorem Zrt (f:Nat):Zao (f+3) [[1,2],[1,3]]=.mk 3 0 [ZaN 1,.mk 4 0 [ZaN 2,ZaN 3]]:=by
 have hp:Zbc [[1,2],[1,3]] ⟨[1,2,3],[1],[2,3],[(1,2),(1,3)]⟩:=Zew (by decide) (by kernel_rfl)
 have hf:ZaM [[1,2],[1,3]]=[[1,2],[1,3]]:=by decide
 have hg:ZbG (ZbE (Zcq ⟨[1,2,3],[1],[2,3],[(1,2),(1,3)]⟩)) [1,2,3]=[[1],[2,3]]:=by decide +kernel
 have hG:Zhl (ZbE (Zcq ⟨[1,2,3],[1],[2,3],[(1,2),(1,3)]⟩)) [1,2,3] [[1],[2,3]]:=by
  have:Zhl (ZbE (Zcq ⟨[1,2,3],[1],[2,3],[(1,2),(1,3)]⟩)) [1,2,3] (ZbG (ZbE (Zcq ⟨[1,2,3],[1],[2,3],[(1,2),(1,3)]⟩)) [1,2,3]):=ZcS (by decide)
  rw[hg]at this
  exact this
 rw[ZeJ (by decide) (by decide),hf,Zkl hp (by decide) (by decide +kernel) (by unfold ZlG;decide +kernel)]
 unfold Zjr
 simp only
 rw[hg,Zo0 hG (M:=[[1],[2,3]]) (by decide) (List.pairwise_cons.2 ⟨fun x hx=>by rw[List.mem_singleton.1 hx];unfold ltG;decide +kernel,List.pairwise_singleton _ _⟩) (fun x=>Iff.rfl)]
 show Zat.mk 3 0 [Zao (f+2) [[1],[1]],Zao (f+2) [[2],[3]]]=_
 rw[Ztv,ZsJ]
theorem Zru:ZbP [[1,2],[1,3]]=(0,.mk 3 0 [ZaN 1,.mk 4 0 [ZaN 2,ZaN 3]]):=by
 have h:Zao 60 [[1,2],[1,3]]=.mk 3 0 [ZaN 1,.mk 4 0 [ZaN 2,ZaN 3]]:=Zrt 57
 have hw:ZbX (.mk 3 0 [ZaN 1,.mk 4 0 [ZaN 2,ZaN 3]])=0:=by decide +kernel
 unfold ZbP
 rw[if_neg (by decide),h,if_neg (by rw[hw];decide)]
theorem Zrv:Zfs 41 (.mk 3 0 [ZaN 1,.mk 4 0 [ZaN 2,ZaN 3]])=[62,40,97,44,63,40,98,44,99,41,41]:=by decide +kernel
theorem ZsK:Zc8 [97,98,10,97,99,10]=([[1,2],[1,3]],0,0):=by decide +kernel
def Zr5:Zau:=⟨3,[⟨1,[1,0,0],[0,0,1]⟩,⟨2,[0,0,1],[0,1,0]⟩,⟨3,[0,0,1],[0,1,0]⟩]⟩
theorem Zrw:Zch (.mk 3 0 [ZaN 1,.mk 4 0 [ZaN 2,ZaN 3]])=(Zr5,0):=by decide +kernel
def Ze5:Zau:=⟨2,[⟨2,[1,0],[0,1]⟩]⟩
theorem Zrx:Zch (ZaN 2)=(Ze5,0):=by decide +kernel
theorem ZkS {N:Zau} {i o most:Int} {s:PSp} (h:Zbt N i o=0) (hg:Za2 N (ZcR (min N.places 16).toNat i) most=(s,0)) (he:s.marks.find? (Zc3 (ZcR (min N.places 16).toNat o))=none)
  (hr:∀k,k<s.marks.length→∃q∈Zq8 (fun m=>m==ZcR (min N.places 16).toNat o) s.marks s.marks.length,ZbJ (nxt s.arcs) q (k:Int)) (hd:Zfm s.arcs (min (N.trans.length:Int) 24).toNat=[]):Zb0 N i o most=((1,[],0),0):=by
 rw[ZiR h hg,hd,ZgD he]
 rw[List.findIdx?_eq_none_iff]
 intro b hb
 unfold onL Zcu at hb
 obtain⟨k,hk,rfl⟩:=List.mem_map.1 hb
 have:=hr k (List.mem_range.1 hk)
 simp[this]
def Zry:PSp:=⟨[[1,0,0],[0,0,1],[0,1,0]],[⟨0,0,1⟩,⟨1,1,2⟩,⟨1,2,2⟩]⟩
theorem Zp1:Zb0 Zr5 0 1 300=((1,[],0),0):=by
 refine ZkS (s:=Zry) (by decide +kernel) (by kernel_rfl) (by decide +kernel) (fun k hk=>⟨2,by decide +kernel, ?_⟩) (by decide +kernel)
 have h2:ZbJ (nxt Zry.arcs) 2 2:=.refl _
 have h1:ZbJ (nxt Zry.arcs) 2 1:=.step (y:=1) (by decide +kernel) (.refl _)
 have h0:ZbJ (nxt Zry.arcs) 2 0:=.step (y:=1) (by decide +kernel) (.step (y:=0) (by decide +kernel) (.refl _))
 match k,hk with
 | 0,_=>exact h0
 | 1,_=>exact h1
 | 2,_=>exact h2
 | k+3,hk=>exact absurd hk (by show ¬k+3<3;omega)
def ZsL:PSp:=⟨[[1,0],[0,1]],[⟨0,0,1⟩]⟩
theorem Zp2:Zb0 Ze5 0 1 9=((1,[],0),0):=by
 refine ZkS (s:=ZsL) (by decide +kernel) (by kernel_rfl) (by decide +kernel) (fun k hk=>⟨1,by decide +kernel, ?_⟩) (by decide +kernel)
 have h1:ZbJ (nxt ZsL.arcs) 1 1:=.refl _
 have h0:ZbJ (nxt ZsL.arcs) 1 0:=.step (y:=0) (by decide +kernel) (.refl _)
 match k,hk with
 | 0,_=>exact h0
 | 1,_=>exact h1
 | k+2,hk=>exact absurd hk (by show ¬k+2<2;omega)
end Go.Proofs.YtfmnagcglhlicaaGreat
namespace Go.Proofs.YtfmnagcglhlicaaGreat
open Go.RowKit Go.Maps
theorem Zrz {r:Zt3}(h:Zgg [97,98,10,97,99,10] r):r.err=0∧r.text=[62,40,97,44,63,40,98,44,99,41,41]∧r.verdict=1:=by
 unfold Zgg at h
 rw[ZsK,Zru]at h
 simp only at h
 rw[Zrw]at h
 simp only at h
 rw[Zp1,Zrv]at h
 rw[if_neg (by decide),if_neg (by decide),if_neg (by decide),if_neg (by decide)]at h
 exact⟨h.1,h.2.2.1,h.2.2.2.1⟩
set_option maxHeartbeats 4000000 in
theorem Zl9 (w:World):Calls Tryz.prog 6 #[] w fun e w'=>e=.returned (.bool true)∧Below w.heap.size w w':=by
 have CT:=Zaa (Zn8 [97,98,10,97,99,10] (by decide) w)
 go_enter Tryz.func6,Tryz.ntmps6
 go_wp2_with fail
 refine CT.out.mono ?_
 rintro e w1 ⟨r,A,n,c,rfl,_,ht,hb1⟩
 obtain⟨e1,e2,e3⟩:=Zrz ht
 rw[e1,e2,e3]
 generalize r.line=ln
 have B1:=Zaa (Zab w1 (.cells #[.int .i64 0,.int .i64 ln,.string ⟨#[62,40,97,44,63,40,98,44,99,41,41]⟩,.int .i64 1,.slice A n c] 64))
 have T1:=Zaa (Box.new w1 #[.int .i64 0,.int .i64 ln,.string ⟨#[62,40,97,44,63,40,98,44,99,41,41]⟩,.int .i64 1,.slice A n c] 64)
 have D1:=Zaa (hb1.trans (B1.out.mono hb1.size))
 clear ht hb1 e1 e2 e3 CT
 go_upto_region 2 with fail
 generalize w1.alloc (.cells #[.int .i64 0,.int .i64 ln,.string ⟨#[62,40,97,44,63,40,98,44,99,41,41]⟩,.int .i64 1,.slice A n c] 64)=w2 at *
 generalize w1.heap.size=b1 at T1
 have CG:=Zaa (ZhL (d:=0) (kd:=2) (lb:=2) (A:=none) (n:=0) (c:=0) (ks:=[]) (w:=w2) Sl.nil0)
 have GO:=Zaa (show Zch (.mk 2 2 [])=(Ze5,0)from Zrx)
 rw[GO.out]at CG
 go_wp2_with fail
 refine CG.out.mono ?_
 rintro e w3 ⟨A3,n3,c3,rfl,tr,_,hb3⟩
 have B3:=Zaa (Zab w3 (.cells #[.int .i64 Ze5.places,.slice A3 n3 c3] 24))
 have T3:=Zaa (Box.new w3 #[.int .i64 Ze5.places,.slice A3 n3 c3] 24)
 have H3:=Zaa (hb3.trans (B3.out.mono hb3.size))
 have TR:=Zaa (tr.keep B3.out)
 have T13:=Zaa (T1.out.keep H3.out)
 have D3:=Zaa (D1.out.trans (H3.out.mono D1.out.size))
 have HN:=Zaa (show n3≤2513169434916 by have:=TR.out.len;simp[Ze5]at this;omega)
 clear tr hb3 CG
 go_upto_region 3 with fail
 generalize w3.alloc (.cells #[.int .i64 Ze5.places,.slice A3 n3 c3] 24)=w4 at *
 generalize w3.heap.size=b3 at T3
 have CJ:=Zaa (ZhR (P:=Ze5.places) 0 1 9 TR.out HN.out)
 rw[show Zb0 ⟨Ze5.places,Ze5.trans⟩ 0 1 9=((1,[],0),0)from Zp2]at CJ
 obtain⟨t0,t1⟩:=T3.out.two
 go_wp2_with fail
 refine CJ.out.mono ?_
 rintro e w5 ⟨A5,n5,c5,rfl,i5,hb5⟩
 have B5:=Zaa (Zab w5 (.cells #[.int .i64 1,.slice A5 n5 c5,.int .i64 0] 56))
 have T5:=Zaa (Box.new w5 #[.int .i64 1,.slice A5 n5 c5,.int .i64 0] 56)
 have H5:=Zaa (hb5.trans (B5.out.mono hb5.size))
 have T15:=Zaa (T13.out.keep H5.out)
 have D5:=Zaa (D3.out.trans (H5.out.mono D3.out.size))
 clear i5 hb5 CJ t0 t1
 go_upto_region 4 with fail
 generalize w5.alloc (.cells #[.int .i64 1,.slice A5 n5 c5,.int .i64 0] 56)=w6 at *
 generalize w5.heap.size=b5 at T5
 obtain⟨z0,z1,z2,z3,z4⟩:=Box.fiveR T15.out
 have y0:=T5.out.cell 0
 go_wp2
 go_ret
 exact⟨by first|rfl|simp,D5.out⟩
end Go.Proofs.YtfmnagcglhlicaaGreat
namespace Go.Proofs.YtfmnagcglhlicaaGreat
structure Za3 where
 user:Int
 tran:Int
 open_:Bool
deriving Inhabited,DecidableEq
structure ZaB where
 case_:Zay
 items:List Za3
def ZaB.nil:ZaB:=⟨Zay.nil,[]⟩
def ZjM (roles:List (List Int))(u l:Int):Bool:=decide (0≤u)&&(decide (u<8)&&(roles.getD u.toNat []).any fun y=>l==y)
def ZdL (N:Zau)(t:Int):Int:=(N.trans.getD t.toNat default).label
def inT (N:Zau)(t:Int):Prop:=0≤t∧t<(N.trans.length:Int)
instance (N:Zau) (t:Int):Decidable (inT N t):=by unfold inT;exact inferInstance
def ZcL (N:Zau)(roles:List (List Int))(k:ZaB)(o:POp):ZaB×Int×Int :=
 if inT N o.tran then
  (if ZjM roles o.user (ZdL N o.tran)=true then
   (if(doL N k.case_ 2 o.tran).2=0 then(⟨(doL N k.case_ 2 o.tran).1,k.items++[⟨o.user,o.tran,true⟩]⟩,(k.items.length:Int),0)else(k,0,(doL N k.case_ 2 o.tran).2))
  else(k,0,6))
 else(k,0,3)
def Zdr (k:ZaB)(o:POp):Int :=
 if 0≤o.item∧o.item<(k.items.length:Int)∧(k.items.getD o.item.toNat default).open_=true then(if(k.items.getD o.item.toNat default).user=o.user then 0 else 7)else 3
def Zbd (k:ZaB)(o:POp):Za3:=k.items.getD o.item.toNat default
def ZfR (o:POp):Int:=if o.kind=3 then 4 else 3
def ZbB (N:Zau)(roles:List (List Int))(k:ZaB)(o:POp):ZaB×Int×Int :=
 if Zdr k o=0 then
  (if o.kind=4 then
   (if ZjM roles o.to_ (ZdL N (Zbd k o).tran)=true then(⟨k.case_,k.items.set o.item.toNat ⟨o.to_,(Zbd k o).tran,(Zbd k o).open_⟩⟩,o.item,0)else(k,0,6))
  else
   (if(doL N k.case_ (ZfR o) (Zbd k o).tran).2=0 then(⟨(doL N k.case_ (ZfR o) (Zbd k o).tran).1,k.items.set o.item.toNat ⟨(Zbd k o).user,(Zbd k o).tran,false⟩⟩,o.item,0)
   else(k,0,(doL N k.case_ (ZfR o) (Zbd k o).tran).2)))
 else(k,0,Zdr k o)
def ZjE (N:Zau)(k:ZaB)(o:POp):ZaB×Int×Int :=
 if(doL N k.case_ 1 o.tran).2=0 then(⟨(doL N k.case_ 1 o.tran).1,k.items⟩,0,0)else(k,0,(doL N k.case_ 1 o.tran).2)
def Za4 (N:Zau)(roles:List (List Int))(k:ZaB)(o:POp):ZaB×Int×Int :=
 if o.kind=1 then ZcL N roles k o else if o.kind=2∨o.kind=3∨o.kind=4 then ZbB N roles k o else if o.kind=5 then ZjE N k o else(k,0,5)
structure Zci (N:Zau)(k:ZaB):Prop where
 case_:Zbb N k.case_=true
 trans:∀it∈k.items,inT N it.tran
theorem Zci.set {N:Zau}{k:ZaB}(h:Zci N k)(i:Nat){c:Zay}(hc:Zbb N c=true){x:Za3}(hx:inT N x.tran):Zci N ⟨c,k.items.set i x⟩ :=
 ⟨hc,fun it hit=>by
  rcases List.mem_or_eq_of_mem_set hit with h1|rfl
  ·exact h.trans it h1
  ·exact hx⟩
theorem Zgi {k:ZaB}{o:POp}(h:Zdr k o=0):0≤o.item∧o.item<(k.items.length:Int)∧(Zbd k o).open_=true∧(Zbd k o).user=o.user∧k.items[o.item.toNat]?=some (Zbd k o):=by
 unfold Zdr at h
 split at h
 ·rename_i h1
  split at h
  ·rename_i h2
   refine⟨h1.1,h1.2.1,h1.2.2,h2, ?_⟩
   have:o.item.toNat<k.items.length:=by omega
   simp[Zbd,List.getElem?_eq_getElem this]
  ·simp at h
 ·simp at h
theorem ZjF {N:Zau}{roles:List (List Int)}{k:ZaB}{o:POp}(h:Zci N k):Zci N (Za4 N roles k o).1:=by
 unfold Za4
 split
 ·unfold ZcL
  split
  ·rename_i ht
   split
   ·split
    ·rename_i hd
     refine⟨Zmm hd,fun it hit=>?_⟩
     rcases List.mem_append.1 hit with h1|h1
     ·exact h.trans it h1
     ·rw[List.mem_singleton.1 h1];exact ht
    ·exact h
   ·exact h
  ·exact h
 ·split
  ·unfold ZbB
   split
   ·rename_i hi
    have hx:=h.trans _ (List.mem_of_getElem? (Zgi hi).2.2.2.2)
    split
    ·split
     ·exact h.set _ h.case_ hx
     ·exact h
    ·split
     ·rename_i hd
      exact h.set _ (Zmm hd) hx
     ·exact h
   ·exact h
  ·split
   ·unfold ZjE
    split
    ·rename_i hd
     exact⟨Zmm hd,h.trans⟩
    ·exact h
   ·exact h
theorem Zma {N:Zau}{roles:List (List Int)}{k:ZaB}{o:POp}:(Za4 N roles k o).1.items.length≤k.items.length+1:=by
 unfold Za4 ZcL ZbB ZjE
 repeat' split
 all_goals simp
def Zd1 (N:Zau)(roles:List (List Int)):ZaB→List POp→ZaB×List (Int×Int)
 | k,[]=>(k,[])
 | k,o::r=>((Zd1 N roles (Za4 N roles k o).1 r).1,((Za4 N roles k o).2.2,(Za4 N roles k o).2.1)::(Zd1 N roles (Za4 N roles k o).1 r).2)
theorem ZkT (N:Zau)(roles:List (List Int)):∀(l:List POp) (k:ZaB) (o:POp),Zd1 N roles k (l++[o]) =
  ((Za4 N roles (Zd1 N roles k l).1 o).1,(Zd1 N roles k l).2++[((Za4 N roles (Zd1 N roles k l).1 o).2.2,(Za4 N roles (Zd1 N roles k l).1 o).2.1)])
 | [],_,_=>rfl
 | x::l,k,o=>by
  show((Zd1 N roles (Za4 N roles k x).1 (l++[o])).1,_::(Zd1 N roles (Za4 N roles k x).1 (l++[o])).2)=_
  rw[ZkT N roles l]
  rfl
theorem Zmb (N:Zau)(roles:List (List Int)):∀(l:List POp) (k:ZaB),Zci N k→Zci N (Zd1 N roles k l).1∧(Zd1 N roles k l).1.items.length≤k.items.length+l.length∧(Zd1 N roles k l).2.length=l.length
 | [],k,h=>⟨h,Nat.le_refl _,rfl⟩
 | x::l,k,h=>by
  obtain⟨h1,h2,h3⟩:=Zmb N roles l (Za4 N roles k x).1 (ZjF h)
  refine⟨h1, ?_,by simp[Zd1,h3]⟩
  have:=Zma (N:=N) (roles:=roles) (k:=k) (o:=x)
  simp only[Zd1,List.length_cons]
  omega
def ZkU (N:Zau)(roles:List (List Int))(i:Int)(l:List POp):ZaB×List (Int×Int)×Int :=
 if(ZaQ N i).2=0 then((Zd1 N roles ⟨(ZaQ N i).1,[]⟩ l).1,(Zd1 N roles ⟨(ZaQ N i).1,[]⟩ l).2,0)else(ZaB.nil,[],(ZaQ N i).2)
theorem Zci.start {N:Zau}{i:Int}(h:(ZaQ N i).2=0):Zci N ⟨(ZaQ N i).1,[]⟩:=⟨Zot h,fun it hit=>by cases hit⟩
theorem Zci.small {N:Zau}{k:ZaB}(h:Zci N k):k.case_.busy.length≤24∧k.case_.mark.length≤16∧N.trans.length≤24:=by
 have h1:=(ZaV N k.case_).1 h.case_
 have h2:=(Zar N).1 h1.1
 omega
end Go.Proofs.YtfmnagcglhlicaaGreat
namespace Go.Proofs.YtfmnagcglhlicaaGreat
section
variable {N:Zau} {most:Nat}
def ZbC (s:PSp)(f:Nat):List Int:=s.marks.getD f []
theorem ZiV {s:PSp}{f:Nat}(h:f<s.marks.length):s.marks[f]?=some (ZbC s f):=by
 unfold ZbC
 rw[List.getD_eq_getElem?_getD,List.getElem?_eq_getElem h]
 rfl
theorem ZjG {s:PSp}{f:Nat}{x:List Int}(h:s.marks[f]?=some x):ZbC s f=x:=by
 unfold ZbC
 rw[List.getD_eq_getElem?_getD,h]
 rfl
def Zex (N:Zau)(s:PSp)(f t:Nat):Prop :=
 (Zbu N (ZbC s f) (t:Int)).2=3∨((Zbu N (ZbC s f) (t:Int)).2=0∧∃j:Nat,j<s.marks.length∧ZbC s j=(Zbu N (ZbC s f) (t:Int)).1∧(⟨(f:Int),(t:Int),(j:Int)⟩:ZaD)∈s.arcs)
def Zey (N:Zau)(s:PSp):Prop:=∀a∈s.arcs,Zbu N (ZbC s a.from_.toNat) a.tran=(ZbC s a.to_.toNat,0)
structure Ziq (s s':PSp):Prop where
 marks:s.marks <+: s'.marks
 arcs:∀a∈s.arcs,a∈s'.arcs
theorem Ziq.refl (s:PSp):Ziq s s:=⟨List.prefix_rfl,fun _ h=>h⟩
theorem Ziq.trans {a b c:PSp}(h:Ziq a b)(k:Ziq b c):Ziq a c:=⟨h.marks.trans k.marks,fun x hx=>k.arcs x (h.arcs x hx)⟩
theorem Ziq.at {s s':PSp}(h:Ziq s s'){f:Nat}(hf:f<s.marks.length):ZbC s' f=ZbC s f:=Zll h.marks hf
theorem Zex.ext {s s':PSp}{f t:Nat}(h:Zex N s f t)(hf:f<s.marks.length)(e:Ziq s s'):Zex N s' f t:=by
 unfold Zex at h ⊢
 rw[e.at hf]
 rcases h with h|⟨h,j,h1,h2,h3⟩
 ·exact .inl h
 ·exact .inr ⟨h,j,Nat.lt_of_lt_of_le h1 e.marks.length_le,by rw[e.at h1];exact h2,e.arcs _ h3⟩
theorem Zp3 {s s':PSp}{f t:Nat}{x:List Int}(h:ZeC N most s)(ha:Zey N s)(hf:f<s.marks.length)(hx:Zbu N (ZbC s f) (t:Int)=(x,0))(hm:ZgI most s (f:Int) (t:Int) x=some s'):Zey N s'∧Ziq s s'∧Zex N s' f t:=by
 have old:∀s2:PSp,Ziq s s2→∀a∈s.arcs,Zbu N (ZbC s2 a.from_.toNat) a.tran=(ZbC s2 a.to_.toNat,0):=fun s2 e a h1=>by
  have:=h.ends a h1
  rw[e.at (by omega),e.at (by omega)]
  exact ha a h1
 unfold ZgI at hm
 cases hk:Zcb s.marks x with
 | some k =>
  rw[hk]at hm
  simp only[Option.some.injEq]at hm
  subst hm
  have hs:=ZeD hk
  have hkl:=(List.getElem?_eq_some_iff.1 hs).1
  have e:Ziq s ⟨s.marks,s.arcs++[⟨(f:Int),(t:Int),(k:Int)⟩]⟩:=⟨List.prefix_rfl,fun a h1=>List.mem_append.2 (.inl h1)⟩
  have hfx:Zbu N (ZbC ⟨s.marks,s.arcs++[⟨(f:Int),(t:Int),(k:Int)⟩]⟩ f) (t:Int)=(x,0):=by rw[e.at hf];exact hx
  have hkx:ZbC ⟨s.marks,s.arcs++[⟨(f:Int),(t:Int),(k:Int)⟩]⟩ k=x:=ZjG hs
  refine⟨fun a h1=>?_,e,.inr ⟨by rw[hfx],k,hkl,by rw[hfx];exact hkx,by simp⟩⟩
  rcases List.mem_append.1 h1 with h1|h1
  ·exact old _ e a h1
  ·rw[List.mem_singleton.1 h1]
   simp only[Int.toNat_natCast]
   rw[hfx,hkx]
 | none =>
  rw[hk]at hm
  simp only at hm
  split at hm
  ·cases hm
  ·simp only[Option.some.injEq]at hm
   subst hm
   have e:Ziq s ⟨s.marks++[x],s.arcs++[⟨(f:Int),(t:Int),(s.marks.length:Int)⟩]⟩:=⟨List.prefix_append _ _,fun a h1=>List.mem_append.2 (.inl h1)⟩
   have hfx:Zbu N (ZbC ⟨s.marks++[x],s.arcs++[⟨(f:Int),(t:Int),(s.marks.length:Int)⟩]⟩ f) (t:Int)=(x,0):=by rw[e.at hf];exact hx
   have hkx:ZbC ⟨s.marks++[x],s.arcs++[⟨(f:Int),(t:Int),(s.marks.length:Int)⟩]⟩ s.marks.length=x:=ZjG (by simp)
   refine⟨fun a h1=>?_,e,.inr ⟨by rw[hfx],s.marks.length,by simp,by rw[hfx];exact hkx,by simp⟩⟩
   rcases List.mem_append.1 h1 with h1|h1
   ·exact old _ e a h1
   ·rw[List.mem_singleton.1 h1]
    simp only[Int.toNat_natCast]
    rw[hfx,hkx]
theorem Zp4 {s s':PSp}{f t:Nat}(h:ZeC N most s)(ha:Zey N s)(hf:f<s.marks.length)(hs:Zbr N most (ZbC s f) (f:Int) s (t:Int)=some s'):Zey N s'∧Ziq s s'∧Zex N s' f t:=by
 unfold Zbr at hs
 split at hs
 ·rename_i h3
  simp only[Option.some.injEq]at hs
  subst hs
  exact⟨ha,Ziq.refl _,.inl h3⟩
 ·split at hs
  ·rename_i h0
   exact Zp3 h ha hf (Prod.ext rfl h0) hs
  ·cases hs
theorem ZkV {s:PSp}(h:ZeC N most s){f:Nat}(hf:f<s.marks.length):ZbI N (ZbC s f)=true:=h.fits _ (List.mem_of_getElem? (ZiV hf))
theorem Zp5 {f:Nat}:∀(l:List Nat) {s s':PSp} (_:ZeC N most s) (_:Zey N s) (_:f<s.marks.length) (_:ZcN N most (ZbC s f) (f:Int) (l.map fun(t:Nat)=>(t:Int)) (some s)=some s'),Zey N s'∧Ziq s s'∧∀t∈l,Zex N s' f t:=by
 intro l
 induction l with
 | nil =>
  intro s s' h ha hf hs
  have:s=s':=by simpa [ZcN] using hs
  subst this
  exact⟨ha,Ziq.refl _,fun t ht=>by cases ht⟩
 | cons t l ih =>
  intro s s' h ha hf hs
  have hs':ZcN N most (ZbC s f) (f:Int) (l.map fun(t:Nat)=>(t:Int)) (Zbr N most (ZbC s f) (f:Int) s (t:Int))=some s':=hs
  cases h1:Zbr N most (ZbC s f) (f:Int) s (t:Int) with
  | none=>rw[h1,ZeB]at hs';cases hs'
  | some s1 =>
   rw[h1]at hs'
   obtain⟨k1,_⟩:=h.step hf (ZkV h hf) h1
   obtain⟨a1,e1,d1⟩:=Zp4 h ha hf h1
   have hf1:=Nat.lt_of_lt_of_le hf e1.marks.length_le
   rw[←e1.at hf]at hs'
   obtain⟨a2,e2,d2⟩:=ih k1 a1 hf1 hs'
   refine⟨a2,e1.trans e2,fun u hu=>?_⟩
   rcases List.mem_cons.1 hu with rfl|hu
   ·exact d1.ext hf1 e2
   ·exact d2 u hu
theorem Zp6 {f:Nat}{s s':PSp}(h:ZeC N most s)(ha:Zey N s)(hf:f<s.marks.length)(hs:Zj2 N most f s=some s'):Zey N s'∧Ziq s s'∧∀t,t<N.trans.length→Zex N s' f t:=by
 obtain⟨a,e,d⟩:=Zp5 (List.range N.trans.length) h ha hf hs
 exact⟨a,e,fun t ht=>d t (List.mem_range.2 ht)⟩
theorem ZsM:∀(g f:Nat) {s s':PSp} (_:ZeC N most s) (_:Zey N s) (_:∀f',f'<f→f'<s.marks.length→∀t,t<N.trans.length→Zex N s f' t) (_:goM N most g f s=some s'),Zey N s'∧Ziq s s'∧∀f',f'<f+g→f'<s'.marks.length→∀t,t<N.trans.length→Zex N s' f' t:=by
 intro g
 induction g with
 | zero =>
  intro f s s' h ha hd hs
  have:s=s':=by simpa [goM] using hs
  subst this
  exact⟨ha,Ziq.refl _,hd⟩
 | succ g ih =>
  intro f s s' h ha hd hs
  unfold goM at hs
  split at hs
  ·rename_i hf
   cases h1:Zj2 N most f s with
   | none=>rw[h1]at hs;cases hs
   | some s1 =>
    rw[h1]at hs
    obtain⟨k1,_⟩:=h.from_ hf h1
    obtain⟨a1,e1,d1⟩:=Zp6 h ha hf h1
    obtain⟨a2,e2,d2⟩:=ih (f+1) k1 a1 (fun f' hf' hl t ht=>by
     by_cases e:f'=f
     ·subst e;exact d1 t ht
     ·exact(hd f' (by omega) (by omega) t ht).ext (by omega) e1) hs
    exact⟨a2,e1.trans e2,fun f' hf'=>d2 f' (by omega)⟩
  ·rename_i hf
   simp only[Option.some.injEq]at hs
   subst hs
   exact⟨ha,Ziq.refl _,fun f' _ hl=>hd f' (by omega) hl⟩
structure Zmc (N:Zau)(most:Nat)(m:List Int)(s:PSp):Prop where
 ok:ZeC N most s
 first:s.marks[0]?=some m
 arcs:Zey N s
 done:∀f,f<s.marks.length→∀t,t<N.trans.length→Zex N s f t
theorem Zn9 {m:List Int}{most:Int}{s:PSp}(h:Za2 N m most=(s,0)):Zmc N most.toNat m s:=by
 have h2:(Za2 N m most).2=0:=by rw[h]
 obtain⟨_,h3⟩:=ZdR h2
 rw[h]at h3
 unfold Za2 at h
 split at h
 ·rename_i h1
  cases hg:goM N most.toNat most.toNat 0 ⟨[m],[]⟩ with
  | none=>rw[hg]at h;simp at h
  | some s1 =>
   rw[hg]at h
   simp only[Prod.mk.injEq,and_true]at h
   subst h
   obtain⟨a,e,d⟩:=ZsM most.toNat 0 (ZeC.start h1.2.2 (by omega)) (fun a ha=>by cases ha) (fun f' hf'=>by omega) hg
   refine⟨h3, ?_,a,fun f hf t ht=>d f (by have h4:s1.marks.length≤most.toNat:=h3.few;omega) hf t ht⟩
   obtain⟨c,hc⟩:=e.marks
   rw[←hc]
   rfl
 ·simp at h
theorem Zmc.fire {m:List Int}{s:PSp}(F:Zmc N most m s){f:Nat}(hf:f<s.marks.length){t:Int}(ht:0≤t∧t<(N.trans.length:Int))(h:(Zbu N (ZbC s f) t).2≠3):∃j:Nat,j<s.marks.length∧Zbu N (ZbC s f) t=(ZbC s j,0)∧(⟨(f:Int),t,(j:Int)⟩:ZaD)∈s.arcs:=by
 obtain⟨i,rfl⟩:∃i:Nat,t=(i:Int):=⟨t.toNat,by omega⟩
 rcases F.done f hf i (by omega)with h1|⟨h1,j,h2,h3,h4⟩
 ·exact absurd h1 h
 ·exact⟨j,h2,by rw[h3];exact Prod.ext rfl h1,h4⟩
end
end Go.Proofs.YtfmnagcglhlicaaGreat
