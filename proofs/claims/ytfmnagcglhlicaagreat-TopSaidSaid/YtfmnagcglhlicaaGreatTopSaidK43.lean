/- The contract of Align. Conditions: the net and the trace read as lists. -/
import Derived.Test.YtfmnagcglhlicaaGreatTopSaidK42
set_option maxRecDepth 100000
namespace Go.Proofs.YtfmnagcglhlicaaGreat
open Go.RowKit Go.Maps
def Zrl (N:Zau)(i o:Int)(tr:List Int)(w:World)(e:Ending)(w':World):Prop :=
 ∃A n c cst k,e=.returned (.tuple #[.slice A n c,.int .i64 cst,.int .i64 k])∧Zfr N i o tr cst k∧(k≠0→n=0)∧Below w.heap.size w w'
set_option maxHeartbeats 16000000 in
theorem ZhU {w:World}{P:Int}{A Q:Option Addr}{n c l q0:Nat}{ts:List Zak}{tr:List Int}(i o:Int)(h:ZaP w A n c ts)(hn:n≤2513169434916)(g:Zam w Q l q0 tr) :
  Calls Tryz.prog 12 #[.agg #[.int .i64 P,.slice A n c],.int .i64 i,.int .i64 o,.slice Q l q0] w (Zrl ⟨P,ts⟩ i o tr w):=by
 generalize hw:(w.alloc (.cells #[.int .i64 P,.slice A n c] 24)).alloc (.cells #[.int .i64 o] 3)=w0
 have HB:=Zaa (show Below w.heap.size w w0 by rw[←hw];exact((Below.refl _ _).alloc (Nat.le_refl _) _).alloc (by simp) _)
 have X0:=Zaa (show Box w0 w.heap.size 24 #[.int .i64 P,.slice A n c] by rw[←hw];exact(Box.new _ _ _).old _)
 have X1:=Zaa (show Box w0 (w.heap.size+1) 3 #[.int .i64 o] by rw[←hw];exact Box.newAt (by simp) _ _)
 have G:=Zaa (g.keep HB.out)
 have GL:=Zaa g.len
 have H:=Zaa (h.keep HB.out)
 have CW:=Zaa (Zd7 (P:=P) i o H.out hn)
 have TW:=Zaa (Zl5 (N:=⟨P,ts⟩) (i:=i) (o:=o))
 have TG:=Zaa (Zl6 (N:=⟨P,ts⟩) (i:=i) (o:=o))
 have S2:=Zaa (fun hs=>Zgc (N:=⟨P,ts⟩) (i:=i) (o:=o) hs)
 have TL:=Zaa (show ts.length=n from h.len)
 clear h g
 obtain⟨R,hR⟩:∃R,Zeb ⟨P,ts⟩ i o=R:=⟨_,rfl⟩
 have HR:=Zaa hR
 rw[hR]at TW TG
 clear hR
 obtain⟨sw,hsw⟩:∃sw,Zbt ⟨P,ts⟩ i o=sw:=⟨_,rfl⟩
 rw[hsw]at TW TG CW S2
 clear hsw
 go_enter Tryz.func12,Tryz.ntmps12
 go_upto_region 1 with fail
 clear hw
 obtain⟨a0,a1⟩:=X0.out.two
 have b0:=X1.out.cell 0
 simp only[List.getElem?_toArray,List.getElem?_cons_zero]at b0
 by_cases hs0:sw=0
 ·subst hs0
  obtain⟨p2,hok⟩:=S2.out rfl
  go_upto_region 4 with(go_at_call 24;go_loud ((with_reducible refine CW.out.mono ?_);rintro e w1 ⟨rfl,hb1⟩;have B1:=Zaa hb1;clear hb1))
  have Y0:=Zaa (X0.out.keep B1.out).drew
  have W1:=Zaa (X1.out.keep B1.out).drew
  have G1:=Zaa ((G.out.keep B1.out).keep (show Below w1.heap.size w1 w1.drew from⟨rfl,rfl,rfl,Nat.le_refl _,fun _ _=>rfl⟩))
  have BZ:=Zaa (HB.out.trans (B1.out.mono HB.out.size)).drew
  have H1:=Zaa (ZpN (H.out.keep B1.out))
  obtain⟨pn,hpn⟩:∃pn,(min P 16).toNat=pn:=⟨_,rfl⟩
  have HPN:=Zaa hpn
  obtain⟨g,hg⟩:∃g,Za2 ⟨P,ts⟩ (ZcR pn i) 300=g:=⟨_,rfl⟩
  have hp16:P≤16:=((Zar _).1 hok).2.1
  have hn24:n≤24:=by
   have h3:ts.length≤24:=((Zar _).1 hok).2.2.1
   have:=TL.out
   omega
  have hpn2:2≤pn:=by omega
  have TR:=Zaa (show R=g by have:=TG.out (by trivial);simp only[hpn,hg]at this;exact this)
  have EL:=Zaa (show ZpO ⟨P,ts⟩ o=ZcR pn o by unfold ZpO;rw[hpn])
  have NIL:=Zaa (fun(he:g.2≠0)=>show g.1=PSp.nil by rw[←hg];exact ZfY (by rw[hg];exact he))
  have SPK:=Zaa (fun(he:g.2=0)=>show ZeC ⟨P,ts⟩ (300:Int).toNat g.1 by rw[←hg];exact(ZdR (by rw[hg];exact he)).2)
  have ARC:=Zaa (fun(he:g.2=0)=>show g.1.arcs.length≤7200 by rw[←hg];exact Zfn (by rw[hg];exact he))
  have CG:=Zaa (fun(w':World) (C:Option Addr) (kc:Nat) (hb:Below w1.drew.heap.size w1.drew w') (hi:Zam w' C pn kc (ZcR pn i))=>show Calls _ _ _ _ (ZgY g w') by rw[←hg];exact Zhk (P:=P) 300 (H1.out.keep hb) hi)
  have BU0:=Zaa (Below.refl w1.drew.heap.size w1.drew)
  have ML:=Zaa (show ∀x∈g.1.marks,2≤x.length from fun x hx=>by
   by_cases he:g.2=0
   ·have:=((ZaG _ _).1 ((SPK.out he).fits x hx)).2.1
    simp only at this
    omega
   ·rw[NIL.out he]at hx;cases hx)
  clear hg hpn TW TG S2 X0 X1 G HB H B1 a0 a1 b0
  obtain⟨s,k⟩:=g
  simp only at NIL SPK ML ARC
  obtain rfl:R=(s,k):=TR.out
  clear TR
  obtain⟨a0,a1⟩:=Y0.out.two
  refine Zae 10 (.takes [0,1,2] (.two 3 (.two 4 (.takes [5,6,7] (.one 8 (.one 9 (.fin 10 .done)))) 8 (.one 4 (.takes [5,6,7] (.one 9 (.fin 10 .done))))) 8 (.one 3 (.one 4 (.takes [5,6,7] (.one 9 (.fin 10 .done))))))) (fun w'=>w'.cell? ⟨w.heap.size,0,none⟩=some (.int .i64 P)∧w'.cell? ⟨w.heap.size,1,none⟩=some (.slice A n c)) (by kernel_rfl) (by kernel_rfl) (by kernel_rfl) (fun _ _ _ _ _ h=>h) ⟨a0,a1⟩ (fun hHeld=>?_)
  simp only[Scr.takes]
  generalize w1.drew=u0 at *
  iterate 3
   refine Zac (v:=?_) rfl (by rfl) hHeld (fun w' hSw=>?_) ?_
   rotate_left
   ·(go_simp;try with_reducible rfl)
   try simp only[Act.put,Zag,Zah,Zai]
  refine Zpw (.fin 10 .done) (fun a0 a' w'=>∃(C:Option Addr) (kc:Nat) (U:Option Addr) (cu:Nat) (V:Option Addr) (cv b11:Nat),a'=((((((a0.put (some 33) (.slice C pn kc)).put (some 34) (.tuple #[.agg #[.slice U s.marks.length cu,.slice V s.arcs.length cv],.int .i64 k])).put (some 29) (.tuple #[.agg #[.slice U s.marks.length cu,.slice V s.arcs.length cv],.int .i64 k])).put (some 35) (.agg #[.slice U s.marks.length cu,.slice V s.arcs.length cv])).put (some 36) (.int .i64 k)).put (some 12) (.pointer (some ⟨b11,0,none⟩)))∧Hid (Box w' b11 83 #[.slice U s.marks.length cu,.slice V s.arcs.length cv])∧Hid (ZaS w' U s.marks.length cu s.marks)∧Hid (Zh4 w' V s.arcs.length cv s.arcs)∧Hid (Below u0.heap.size u0 w')) ?_ (fun EN=>?_)
  rotate_left
  ·refine ZjU rfl rfl (fun Kf hKf=>?_) (fun Kf hKf=>?_)
   ·go_simp;go_at_call 9
    (with_reducible refine(ZbM u0 P i A n c).mono ?_)
    rw[HPN.out]
    rintro e u1 ⟨C,kc,rfl,hi,hb,_⟩
    have Iu1:=Zaa hi
    have Bu1:=Zaa (BU0.out.trans (hb.mono BU0.out.size))
    clear hi hb
    refine hKf.out _ _ ⟨(Y0.out.keep Bu1.out).two.1,(Y0.out.keep Bu1.out).two.2⟩ (fun hHeld=>?_)
    clear hKf
    try simp only[Act.put,Zag,Zah,Zai]
    refine ZjU rfl rfl (fun Kf hKf=>?_) (fun Kf hKf=>?_)
    ·go_simp;go_at_call 25
     (with_reducible refine(CG.out u1 _ _ Bu1.out Iu1.out).mono ?_)
     rintro e u2 ⟨U,cu,V,cv,rfl,hL,hA,hb⟩
     have Lu2:=Zaa hL
     have Au2:=Zaa hA
     have Bu2:=Zaa (Bu1.out.trans (hb.mono Bu1.out.size))
     clear hL hA hb
     refine hKf.out _ _ ⟨(Y0.out.keep Bu2.out).two.1,(Y0.out.keep Bu2.out).two.2⟩ (fun hHeld=>?_)
     clear hKf
     iterate 3
      refine Zac (v:=?_) rfl (by rfl) hHeld (fun w' hSw=>?_) ?_
      rotate_left
      ·(go_simp;try with_reducible rfl)
      try simp only[Act.put,Zag,Zah,Zai]
     refine ZaC rfl (fun Kf hKf=>?_)
     go_simp
     have Bu3:=Zaa (show Below u0.heap.size u0 (u2.alloc (.cells #[.slice none 0 0,.slice none 0 0] 83))from Bu2.out.alloc Bu2.out.size _)
     have Xu3:=Zaa (show Box (u2.alloc (.cells #[.slice none 0 0,.slice none 0 0] 83)) u2.heap.size 83 #[.slice none 0 0,.slice none 0 0]from Box.new _ _ _)
     have Nu3:=Zaa (show u0.heap.size≤u2.heap.size from Bu2.out.size)
     have Lu3:=Zaa (Sl.keep ZaL.kept Lu2.out ((Below.refl u2.heap.size u2).alloc (Nat.le_refl _) (.cells #[.slice none 0 0,.slice none 0 0] 83)))
     have Au3:=Zaa (Sl.keep Zh3.kept Au2.out ((Below.refl u2.heap.size u2).alloc (Nat.le_refl _) (.cells #[.slice none 0 0,.slice none 0 0] 83)))
     refine hKf.out _ _ ⟨(Y0.out.keep Bu3.out).two.1,(Y0.out.keep Bu3.out).two.2⟩ (fun hHeld=>?_)
     clear hKf
     try simp only[Act.put,Zag,Zah,Zai]
     generalize u2.alloc (.cells #[.slice none 0 0,.slice none 0 0] 83)=u3 at *
     refine ZaC rfl (fun Kf hKf=>?_)
     obtain⟨s0,s1⟩:=Xu3.out.two
     have sf0:=Xu3.out.frozen 0
     have sf1:=Xu3.out.frozen 1
     go_simp
     have BE:=Zaa (Zb9 Bu3.out (Nat.le_refl _) Nu3.out (.slice U s.marks.length cu) (.slice V s.arcs.length cv))
     refine hKf.out _ _ ⟨(Y0.out.keep BE.out).two.1,(Y0.out.keep BE.out).two.2⟩ (fun hHeld=>?_)
     clear hKf
     try simp only[Act.put,Zag,Zah,Zai]
     exact EN.out _ _ ⟨C,kc,U,cu,V,cv,u2.heap.size,rfl,Zaa (Xu3.out.set2 _ _),Zaa (ZaS.besideZ Lu3.out ML.out Xu3.out _ _),Zaa (Zh4.besideZ Au3.out Xu3.out _ _),BE⟩ hHeld
    ·go_simp
     have Bu2:=Zaa (show Below u0.heap.size u0 (u1.alloc (.cells #[.slice none 0 0,.slice none 0 0] 83))from Bu1.out.alloc Bu1.out.size _)
     have Xu2:=Zaa (show Box (u1.alloc (.cells #[.slice none 0 0,.slice none 0 0] 83)) u1.heap.size 83 #[.slice none 0 0,.slice none 0 0]from Box.new _ _ _)
     have Nu2:=Zaa (show u0.heap.size≤u1.heap.size from Bu1.out.size)
     have Iu2:=Zaa (Sl.keep ZcE.kept Iu1.out ((Below.refl u1.heap.size u1).alloc (Nat.le_refl _) (.cells #[.slice none 0 0,.slice none 0 0] 83)))
     refine hKf.out _ _ ⟨(Y0.out.keep Bu2.out).two.1,(Y0.out.keep Bu2.out).two.2⟩ (fun hHeld=>?_)
     clear hKf
     try simp only[Act.put,Zag,Zah,Zai]
     generalize u1.alloc (.cells #[.slice none 0 0,.slice none 0 0] 83)=u2 at *
     refine ZaC rfl (fun Kf hKf=>?_)
     go_simp;go_at_call 25
     (with_reducible refine(CG.out u2 _ _ Bu2.out Iu2.out).mono ?_)
     rintro e u3 ⟨U,cu,V,cv,rfl,hL,hA,hb⟩
     have Lu3:=Zaa hL
     have Au3:=Zaa hA
     have Xu3:=Zaa (Xu2.out.keep hb)
     have Bu3:=Zaa (Bu2.out.trans (hb.mono Bu2.out.size))
     clear hL hA hb
     refine hKf.out _ _ ⟨(Y0.out.keep Bu3.out).two.1,(Y0.out.keep Bu3.out).two.2⟩ (fun hHeld=>?_)
     clear hKf
     iterate 3
      refine Zac (v:=?_) rfl (by rfl) hHeld (fun w' hSw=>?_) ?_
      rotate_left
      ·(go_simp;try with_reducible rfl)
      try simp only[Act.put,Zag,Zah,Zai]
     refine ZaC rfl (fun Kf hKf=>?_)
     obtain⟨s0,s1⟩:=Xu3.out.two
     have sf0:=Xu3.out.frozen 0
     have sf1:=Xu3.out.frozen 1
     go_simp
     have BE:=Zaa (Zb9 Bu3.out (Nat.le_refl _) Nu2.out (.slice U s.marks.length cu) (.slice V s.arcs.length cv))
     refine hKf.out _ _ ⟨(Y0.out.keep BE.out).two.1,(Y0.out.keep BE.out).two.2⟩ (fun hHeld=>?_)
     clear hKf
     try simp only[Act.put,Zag,Zah,Zai]
     exact EN.out _ _ ⟨C,kc,U,cu,V,cv,u1.heap.size,rfl,Zaa (Xu3.out.set2 _ _),Zaa (ZaS.besideZ Lu3.out ML.out Xu3.out _ _),Zaa (Zh4.besideZ Au3.out Xu3.out _ _),BE⟩ hHeld
   ·go_simp
    have Bu1:=Zaa (show Below u0.heap.size u0 (u0.alloc (.cells #[.slice none 0 0,.slice none 0 0] 83))from BU0.out.alloc BU0.out.size _)
    have Xu1:=Zaa (show Box (u0.alloc (.cells #[.slice none 0 0,.slice none 0 0] 83)) u0.heap.size 83 #[.slice none 0 0,.slice none 0 0]from Box.new _ _ _)
    have Nu1:=Zaa (show u0.heap.size≤u0.heap.size from BU0.out.size)
    refine hKf.out _ _ ⟨(Y0.out.keep Bu1.out).two.1,(Y0.out.keep Bu1.out).two.2⟩ (fun hHeld=>?_)
    clear hKf
    try simp only[Act.put,Zag,Zah,Zai]
    generalize u0.alloc (.cells #[.slice none 0 0,.slice none 0 0] 83)=u1 at *
    refine ZaC rfl (fun Kf hKf=>?_)
    go_simp;go_at_call 9
    (with_reducible refine(ZbM u1 P i A n c).mono ?_)
    rw[HPN.out]
    rintro e u2 ⟨C,kc,rfl,hi,hb,_⟩
    have Iu2:=Zaa hi
    have Xu2:=Zaa (Xu1.out.keep hb)
    have Bu2:=Zaa (Bu1.out.trans (hb.mono Bu1.out.size))
    clear hi hb
    refine hKf.out _ _ ⟨(Y0.out.keep Bu2.out).two.1,(Y0.out.keep Bu2.out).two.2⟩ (fun hHeld=>?_)
    clear hKf
    try simp only[Act.put,Zag,Zah,Zai]
    refine ZaC rfl (fun Kf hKf=>?_)
    go_simp;go_at_call 25
    (with_reducible refine(CG.out u2 _ _ Bu2.out Iu2.out).mono ?_)
    rintro e u3 ⟨U,cu,V,cv,rfl,hL,hA,hb⟩
    have Lu3:=Zaa hL
    have Au3:=Zaa hA
    have Xu3:=Zaa (Xu2.out.keep hb)
    have Bu3:=Zaa (Bu2.out.trans (hb.mono Bu2.out.size))
    clear hL hA hb
    refine hKf.out _ _ ⟨(Y0.out.keep Bu3.out).two.1,(Y0.out.keep Bu3.out).two.2⟩ (fun hHeld=>?_)
    clear hKf
    iterate 3
     refine Zac (v:=?_) rfl (by rfl) hHeld (fun w' hSw=>?_) ?_
     rotate_left
     ·(go_simp;try with_reducible rfl)
     try simp only[Act.put,Zag,Zah,Zai]
    refine ZaC rfl (fun Kf hKf=>?_)
    obtain⟨s0,s1⟩:=Xu3.out.two
    have sf0:=Xu3.out.frozen 0
    have sf1:=Xu3.out.frozen 1
    go_simp
    have BE:=Zaa (Zb9 Bu3.out (Nat.le_refl _) Nu1.out (.slice U s.marks.length cu) (.slice V s.arcs.length cv))
    refine hKf.out _ _ ⟨(Y0.out.keep BE.out).two.1,(Y0.out.keep BE.out).two.2⟩ (fun hHeld=>?_)
    clear hKf
    try simp only[Act.put,Zag,Zah,Zai]
    exact EN.out _ _ ⟨C,kc,U,cu,V,cv,u0.heap.size,rfl,Zaa (Xu3.out.set2 _ _),Zaa (ZaS.besideZ Lu3.out ML.out Xu3.out _ _),Zaa (Zh4.besideZ Au3.out Xu3.out _ _),BE⟩ hHeld
  rintro a' w4 ⟨C,kc,U,cu,V,cv,b11,rfl,SX,SL,SA,SB⟩ hHeld
  try simp only[Act.put,Zag,Zah,Zai]
  refine Zaz rfl (fun Kf hKf=>?_)
  go_simp
  refine hKf.out _ _ ?_
  clear hKf
  try simp only[Act.put,Zag,Zah,Zai]
  refine ZaH ?_
  clear hHeld a0 a1
  have Z0:=Zaa (Y0.out.keep SB.out)
  have H4:=Zaa (H1.out.keep SB.out)
  have B4:=Zaa (BZ.out.trans (SB.out.mono BZ.out.size))
  have Z1:=Zaa (W1.out.keep SB.out)
  have G4:=Zaa (G1.out.keep SB.out)
  clear Y0 W1 G1 H1 BZ SB CG BU0 CW
  by_cases hk0:k=0
  ·subst hk0
   by_cases hl60:60<l
   ·have hl60i:(60:Int)<(l:Int):=by omega
    have CP:=Zaa (Zn2 HR.out (by rw[GL.out];exact hl60))
    go_wp2
    go_ret3
    exact⟨none,0,0,0,2,rfl,CP.out,fun _=>rfl,B4.out⟩
   ·have hl60i:¬(60:Int)<(l:Int):=by omega
    have SO:=Zaa (SPK.out rfl)
    have T:=Zaa (Zrk HR.out)
    have IDX:=Zaa (show Calls Tryz.prog 26 #[.slice U s.marks.length cu,.func (.func 27) #[] #[.pointer (some ⟨w.heap.size,0,none⟩),.pointer (some ⟨w.heap.size+1,0,none⟩)]] w4 (fun e w'=>e=.returned (.int .i64 (toV (Zcb s.marks (ZpO ⟨P,ts⟩ o))))∧Below w4.heap.size w4 w')from by
     have:=ZgK SL.out (Zrj (ts:=ts) Z0.out Z1.out)
     rw[ZoD]at this
     exact this)
    have hml:=SO.out.few
    obtain⟨nm,hnm⟩:∃nm,s.marks.length=nm:=⟨_,rfl⟩
    have HNM:=Zaa hnm
    rw[hnm]at IDX SX SL hml
    clear hnm
    obtain⟨s0,s1⟩:=SX.out.two
    have CN:=Zaa (fun hf=>Zn3 (tr:=tr) HR.out (by rw[GL.out];exact hl60) hf)
    cases hf:Zcb s.marks (ZpO ⟨P,ts⟩ o) with
    | none =>
     have CP:=Zaa (CN.out hf)
     rw[hf]at IDX
     replace IDX:=Zaa (show Calls Tryz.prog 26 #[.slice U nm cu,.func (.func 27) #[] #[.pointer (some ⟨w.heap.size,0,none⟩),.pointer (some ⟨w.heap.size+1,0,none⟩)]] w4 (fun e w'=>e=.returned (.int .i64 (-1))∧Below w4.heap.size w4 w')from IDX.out)
     clear hf
     go_wp2_with fail
     refine IDX.out.mono ?_
     rintro e w5 ⟨rfl,hb5⟩
     have B5:=Zaa (B4.out.trans (hb5.mono B4.out.size))
     clear hb5 s0 s1
     go_wp2
     go_ret3
     exact⟨none,0,0,0,3,rfl,CP.out,fun _=>rfl,B5.out⟩
    | some j =>
     have CP:=Zaa (fun(cc:Int) hm=>Zn4 (c:=cc) HR.out (by rw[GL.out];exact hl60) hf hm)
     rw[hf]at IDX
     replace IDX:=Zaa (show Calls Tryz.prog 26 #[.slice U nm cu,.func (.func 27) #[] #[.pointer (some ⟨w.heap.size,0,none⟩),.pointer (some ⟨w.heap.size+1,0,none⟩)]] w4 (fun e w'=>e=.returned (.int .i64 (j:Int))∧Below w4.heap.size w4 w')from IDX.out)
     have HJ:=Zaa (List.getElem?_eq_some_iff.1 (ZeD hf)).1
     have hj0:¬(j:Int)<0:=by omega
     clear hf
     go_wp2_with fail
     refine IDX.out.mono ?_
     rintro e w5 ⟨rfl,hb5⟩
     have B5:=Zaa (B4.out.trans (hb5.mono B4.out.size))
     have Y5:=Zaa (Z0.out.keep hb5)
     have S5:=Zaa (SX.out.keep hb5)
     have H5:=Zaa (H4.out.keep hb5)
     have G5:=Zaa (G4.out.keep hb5)
     have A5:=Zaa (Sl.keep Zh3.kept SA.out hb5)
     clear hb5 s0 s1
     go_upto_region 12 with fail
     have LBL:=Zaa (show ∀a∈s.arcs,0≤atI (Zd8 ⟨P,ts⟩) a.tran from T.out.label)
     have TOK:=Zaa (show ∀a∈s.arcs,Inn nm a.to_ from by rw[←HNM.out];exact T.out.to_)
     have TRN:=Zaa (show ∀a∈s.arcs,Inn n a.tran from by rw[←TL.out];exact T.out.tran)
     have FEW:=Zaa (show s.arcs.length≤7200 from T.out.few)
     have POS:=Zaa (show 0<nm by rw[←HNM.out];exact T.out.pos)
     have WAY:=Zaa (show ∃cc,Wk (Ed s.arcs (atI (Zd8 ⟨P,ts⟩)) tr) ((l:Int),(j:Int)) cc from by
      obtain⟨cc,hc,_⟩:=Wk.marks (tr:=tr) SO.out LBL.out j j (Nat.le_refl _) HJ.out
      exact⟨cc,by rw[←GL.out];exact hc⟩)
     have E0:=Zaa (show ∀u v cc,(Ed s.arcs (atI (Zd8 ⟨P,ts⟩)) tr) u v cc→0≤cc from fun u v cc h=>(h.low LBL.out).1)
     have GOAL:=Zaa (show ∀cc,Zra (Ed s.arcs (atI (Zd8 ⟨P,ts⟩)) tr) ((l:Int),(j:Int)) cc→Zfr ⟨P,ts⟩ i o tr cc 0 from fun cc hm=>CP.out cc (by rw[GL.out];exact hm))
     have hnm3:nm≤300:=hml
     have DR:=Zaa ((Below.refl w5.heap.size w5).drew)
     have Y6:=Zaa (Y5.out.keep DR.out)
     have S6:=Zaa (S5.out.keep DR.out)
     have H6:=Zaa (H5.out.keep DR.out)
     have G6:=Zaa (G5.out.keep DR.out)
     have A6:=Zaa (Sl.keep Zh3.kept A5.out DR.out)
     have B6:=Zaa (B5.out.trans (DR.out.mono B5.out.size))
     obtain⟨a0,a1⟩:=Y6.out.two
     obtain⟨s0,s1⟩:=S6.out.two
     refine Zae 10 (.takes [0,1,2,4,5] (.one 3 (.one 6 (.takes [7,8] (.one 9 (.fin 10 .done)))))) (fun w'=>(w'.cell? ⟨w.heap.size,0,none⟩=some (.int .i64 P)∧w'.cell? ⟨w.heap.size,1,none⟩=some (.slice A n c))∧w'.cell? ⟨b11,0,none⟩=some (.slice U nm cu)∧w'.cell? ⟨b11,1,none⟩=some (.slice V s.arcs.length cv)) (by kernel_rfl) (by kernel_rfl) (by kernel_rfl) (fun _ _ _ _ _ h=>h) ⟨⟨a0,a1⟩,s0,s1⟩ (fun hHeld=>?_)
     simp only[Scr.takes]
     clear a0 a1 s0 s1 Y5 S5 H5 G5 A5 DR B5 CP SO T Z0 Z1 H4 G4 SA SL SX IDX CN NIL SPK ML ARC B4 EL HPN
     generalize w5.drew=w6 at *
     iterate 5
      refine Zac (v:=?_) rfl (by rfl) hHeld (fun w' hSw=>?_) ?_
      rotate_left
      ·(go_simp;try with_reducible rfl)
      try simp only[Act.put,Zag,Zah,Zai]
     have b7:=Zaa (show Below w6.heap.size w6 (w6.alloc (.map #[] 0))from(Below.refl _ _).alloc (Nat.le_refl _) _)
     have M7:=Zaa (ZcD.made w6)
     have hmm:=@run_makeMap Tryz.prog
     refine ZaC rfl (fun Kf hKf=>?_)
     go_simp
     refine hKf.out _ _ ⟨(Y6.out.keep b7.out).two,(S6.out.keep b7.out).two⟩ (fun hHeld=>?_)
     clear hKf hmm
     try simp only[Act.put,Zag,Zah,Zai]
     obtain⟨w8,hrun,m8,g8⟩:=M7.out.update (v:=(0,0)) ⟨by simp,by simp⟩ Zdq (by simp[maxLen])
     have M8:=Zaa (show ZcD w8 w6.heap.size ZhS 1 from m8)
     have b8:=Zaa (show Below w6.heap.size w6 w8 from b7.out.grown g8 (by simp) (fun k e=>by cases e;exact Nat.le_refl _))
     simp only[kvS,ZjL,Zdq]at hrun
     clear m8 g8
     refine ZaC rfl (fun Kf hKf=>?_)
     go_simp
     refine hKf.out _ _ ⟨(Y6.out.keep b8.out).two,(S6.out.keep b8.out).two⟩ (fun hHeld=>?_)
     clear hKf hrun
     try simp only[Act.put,Zag,Zah,Zai]
     iterate 2
      refine Zac (v:=?_) rfl (by rfl) hHeld (fun w' hSw=>?_) ?_
      rotate_left
      ·(go_simp;try with_reducible rfl)
      try simp only[Act.put,Zag,Zah,Zai]
     generalize hbm:w6.heap.size=bm at *
     have XA:=Zaa (Box.new w8 #[.int .i64 P,.slice A n c,.slice U nm cu,.slice V s.arcs.length cv,.slice Q l q0,.map (some bm)] 97)
     have M9:=Zaa (M8.out.alloc (.cells #[.int .i64 P,.slice A n c,.slice U nm cu,.slice V s.arcs.length cv,.slice Q l q0,.map (some bm)] 97))
     have b9:=Zaa (b8.out.alloc (by rw[←hbm];exact b8.out.size) (.cells #[.int .i64 P,.slice A n c,.slice U nm cu,.slice V s.arcs.length cv,.slice Q l q0,.map (some bm)] 97))
     have L9:=Zaa (show bm<w8.heap.size from M8.out.lt)
     refine ZaC rfl (fun Kf hKf=>?_)
     go_simp
     refine hKf.out _ _ ⟨(Y6.out.keepB b9.out (by rw[←hbm];exact Y6.out.lt)).two,(S6.out.keepB b9.out (by rw[←hbm];exact S6.out.lt)).two⟩ (fun hHeld=>?_)
     clear hKf
     try simp only[Act.put,Zag,Zah,Zai]
     refine Zaz rfl (fun Kf hKf=>?_)
     go_simp
     refine hKf.out _ _ ?_
     clear hKf
     try simp only[Act.put,Zag,Zah,Zai]
     refine ZaH ?_
     clear hHeld b7 b8 M7 M8 Y6 S6
     generalize w8.alloc (.cells #[.int .i64 P,.slice A n c,.slice U nm cu,.slice V s.arcs.length cv,.slice Q l q0,.map (some bm)] 97)=w9 at *
     generalize w8.heap.size=ba at *
     go_upto_region 13 with fail
     have XG:=Zaa (Box.new w9 #[.int .i64 (l:Int),.int .i64 (j:Int)] 90)
     have bb:=Zab w9 (.cells #[.int .i64 (l:Int),.int .i64 (j:Int)] 90)
     have XA1:=Zaa (XA.out.keep bb)
     have M10:=Zaa (M9.out.keep bb)
     have H10:=Zaa (b9.out.trans (bb.mono (by rw[←hbm];exact b9.out.size)))
     have B10:=Zaa (show Below w.heap.size w (w9.alloc (.cells #[.int .i64 (l:Int),.int .i64 (j:Int)] 90))from B6.out.trans ((show Below w6.heap.size w6 _ from by rw[hbm];exact H10.out).mono B6.out.size))
     have LG:=Zaa (show ba<w9.heap.size from XA.out.lt)
     have NMA:=Zaa (show bm≠ba∧bm≠w9.heap.size by have:=L9.out;have:=LG.out;omega)
     have NMW:=Zaa (show w.heap.size≤bm by rw[←hbm];exact B6.out.size)
     clear bb XA M9 b9
     go_wp2
     generalize w9.alloc (.cells #[.int .i64 (l:Int),.int .i64 (j:Int)] 90)=w10 at *
     generalize w9.heap.size=bg at *
     have AI0:=Zaa (AlI.start (E:=(Ed s.arcs (atI (Zd8 ⟨P,ts⟩)) tr)) (L:=tr.length) (n:=nm) (g:=((l:Int),(j:Int))) POS.out hnm3 (by rw[GL.out];omega) (by simp))
     go_loopg [] (Zn0 tr.length nm []) (fun gk wr=>∃(f:SpM) (dn:List Sp) (q:Nat),Hid (AlI (Ed s.arcs (atI (Zd8 ⟨P,ts⟩)) tr) tr.length nm ((l:Int),(j:Int)) f dn q∧Zn0 tr.length nm dn=gk)∧Hid (ZcD wr bm f q)∧Hid (Box wr ba 97 #[.int .i64 P,.slice A n c,.slice U nm cu,.slice V s.arcs.length cv,.slice Q l q0,.map (some bm)])∧Hid (Box wr bg 90 #[.int .i64 (l:Int),.int .i64 (j:Int)])∧Hid (Below w.heap.size w wr)∧Hid (Below bm w6 wr))
     case atStart=>exact⟨ZhS,[],1,Zaa ⟨AI0.out,rfl⟩,M10,XA1,XG,B10,H10⟩
     case round =>
      clear AI0 M10 XA1 XG B10 H10
      obtain⟨f,dn,q,AI,MW,XA,XG,BW,HW⟩:=hrel
      go_wp2_with fail
      refine(Zjx XA.out rfl MW.out).mono ?_
      rintro e w11 ⟨hb,⟨b1,b2⟩,sm,rfl,hno,hyes⟩
      cases sm with
      | false =>
       exfalso
       obtain⟨cc,hw⟩:=WAY.out
       obtain⟨u,x,hx,hd⟩:=AI.out.1.di.none_left E0.out hw AI.out.1.ng
       have:=hno rfl u x hx
       rw[hd]at this
       cases this
      | true =>
       obtain⟨⟨yc,⟨ys,ym⟩,yk,yl,yt,yd⟩,hx,hd,hmin⟩:=hyes rfl
       simp only at hd
       subst hd
       have OKAT:=Zaa (MW.out.1 _ _ hx)
       obtain⟨k0,rfl⟩:∃k0:Nat,b1=(k0:Int):=⟨b1.toNat,by have:=(AI.out.1.di.snd _ _ hx).2.1.1;simp only at this;omega⟩
       obtain⟨m0,rfl⟩:∃m0:Nat,b2=(m0:Int):=⟨b2.toNat,by have:=(AI.out.1.di.snd _ _ hx).2.2.1;simp only at this;omega⟩
       have AP:=Zaa (show AlP (Ed s.arcs (atI (Zd8 ⟨P,ts⟩)) tr) tr.length nm ((l:Int),(j:Int)) (Zgd f ((k0:Int),(m0:Int)) ⟨yc,(ys,ym),yk,yl,yt,true⟩) (((k0:Int),(m0:Int))::dn) ((k0:Int),(m0:Int)) yc (q+1) (Zn0 tr.length nm dn)from AI.out.1.pop E0.out hx rfl hmin)
       have LESS:=Zaa AI.out.2
       have MIN:=Zaa (fun(e:(((k0:Int),(m0:Int)):Sp)=((l:Int),(j:Int)))=>AI.out.1.di.goal E0.out (show f ((l:Int),(j:Int))=_ by rw[←e];exact hx) rfl hmin)
       have HLK:=Zaa (fun(w':World) (hm:ZcD w' bm f q)=>show(Instr.lookup 95 (.map (some bm)) (.agg #[.int .i64 (k0:Int),.int .i64 (m0:Int)]) false).run Tryz.prog w'=.ok (.agg #[.int .i64 yc,.int .i64 ys,.int .i64 ym,.int .i64 yk,.int .i64 yl,.int .i64 yt,.bool false]) w' from by
        have:=hm.at OKAT.out
        rw[hx]at this
        exact this)
       have XT:=Zaa (Box.new w11 #[.int .i64 (k0:Int),.int .i64 (m0:Int)] 90)
       have bb:=Zab w11 (.cells #[.int .i64 (k0:Int),.int .i64 (m0:Int)] 90)
       have XA1:=Zaa ((XA.out.keep hb).keep bb)
       have XG1:=Zaa ((XG.out.keep hb).keep bb)
       have M1:=Zaa ((MW.out.keep hb).keep bb)
       have LM:=Zaa (show bm<w11.heap.size from(MW.out.keep hb).lt)
       have BW1:=Zaa ((BW.out.trans (hb.mono BW.out.size)).trans (bb.mono (Nat.le_trans BW.out.size hb.size)))
       have HW1:=Zaa ((HW.out.trans (hb.mono (Nat.le_of_lt MW.out.lt))).trans (bb.mono (Nat.le_of_lt LM.out)))
       simp only[kvS]
       clear hx hmin hno hyes hb bb AI MW XA XG BW HW
       go_upto_region 17 with fail
       generalize w11.alloc (.cells #[.int .i64 (k0:Int),.int .i64 (m0:Int)] 90)=w12 at *
       generalize w11.heap.size=bt at *
       have DR:=Zaa ((Below.refl w12.heap.size w12).drew)
       have XT2:=Zaa (XT.out.keep DR.out)
       have XA2:=Zaa (XA1.out.keep DR.out)
       have XG2:=Zaa (XG1.out.keep DR.out)
       have M2:=Zaa (M1.out.keep DR.out)
       have LS:=Zaa (show bt<w12.heap.size from XT.out.lt)
       have BW2:=Zaa (BW1.out.trans (DR.out.mono BW1.out.size))
       have HW2:=Zaa (HW1.out.trans (DR.out.mono (Nat.le_of_lt M1.out.lt)))
       have a5:=XA2.out.cell 5
       simp only[List.getElem?_toArray,List.getElem?_cons_zero,List.getElem?_cons_succ]at a5
       obtain⟨z0,z1⟩:=XT2.out.two
       refine Zae 7 (.takes [0,1,2,3,4,5] (.one 6 (.fin 7 .done))) (fun w'=>w'.cell? ⟨ba,5,none⟩=some (.map (some bm))∧w'.cell? ⟨bt,0,none⟩=some (.int .i64 (k0:Int))∧w'.cell? ⟨bt,1,none⟩=some (.int .i64 (m0:Int))∧ZcD w' bm f q) (by kernel_rfl) (by kernel_rfl) (by kernel_rfl) (fun _ _ _ _ _ h=>h) ⟨a5,z0,z1,M2.out⟩ (fun hHeld=>?_)
       simp only[Scr.takes]
       clear a5 z0 z1 XT XA1 XG1 M1 BW1 HW1 DR
       generalize w12.drew=w13 at *
       iterate 5
        refine Zac (v:=?_) rfl (by rfl) hHeld (fun w' hSw=>?_) ?_
        rotate_left
        ·(go_simp;try with_reducible rfl)
        try simp only[Act.put,Zag,Zah,Zai]
       refine Zac (v:=?_) rfl (by rfl) hHeld (fun w' hSw=>?_) ?_
       rotate_left
       ·have hlk:=HLK.out w' hSw.2.2.2
        go_simp
        try with_reducible rfl
       try simp only[Act.put,Zag,Zah,Zai]
       have bz:=Zaa (Zab w13 (.cells #[.int .i64 0,.int .i64 0,.int .i64 0,.int .i64 0,.int .i64 0,.int .i64 0,.bool false] 94))
       have a5:=(XA2.out.keep bz.out).cell 5
       simp only[List.getElem?_toArray,List.getElem?_cons_zero,List.getElem?_cons_succ]at a5
       refine ZaC rfl (fun Kf hKf=>?_)
       go_simp
       refine hKf.out _ _ ⟨a5,(XT2.out.keep bz.out).two.1,(XT2.out.keep bz.out).two.2,M2.out.keep bz.out⟩ (fun hHeld=>?_)
       clear hKf a5 bz
       try simp only[Act.put,Zag,Zah,Zai]
       have bb:=Zab w13 (.cells #[.int .i64 yc,.int .i64 ys,.int .i64 ym,.int .i64 yk,.int .i64 yl,.int .i64 yt,.bool false] 94)
       have XX:=Zaa (Box.new w13 #[.int .i64 yc,.int .i64 ys,.int .i64 ym,.int .i64 yk,.int .i64 yl,.int .i64 yt,.bool false] 94)
       have XT3:=Zaa (XT2.out.keep bb)
       have XA3:=Zaa (XA2.out.keep bb)
       have XG3:=Zaa (XG2.out.keep bb)
       have M3:=Zaa (M2.out.keep bb)
       have BW3:=Zaa (BW2.out.trans (bb.mono BW2.out.size))
       have HW3:=Zaa (HW2.out.trans (bb.mono (Nat.le_of_lt M2.out.lt)))
       have BX:=Zaa (show w.heap.size≤w13.heap.size from BW2.out.size)
       have NE3:=Zaa (show bm<w13.heap.size∧bt<w13.heap.size∧ba<w13.heap.size∧bg<w13.heap.size from⟨M2.out.lt,XT2.out.lt,XA2.out.lt,XG2.out.lt⟩)
       refine Zaz rfl (fun Kf hKf=>?_)
       go_simp
       refine hKf.out _ _ ?_
       clear hKf
       refine ZaH ?_
       clear hHeld bb XT2 XA2 XG2 M2 BW2 HW2 HLK LS
       generalize w13.alloc (.cells #[.int .i64 yc,.int .i64 ys,.int .i64 ym,.int .i64 yk,.int .i64 yl,.int .i64 yt,.bool false] 94)=w14 at *
       generalize w13.heap.size=bx at *
       have xf:=XX.out.frozen 6
       have x6:=XX.out.cell 6
       simp only[List.getElem?_toArray,List.getElem?_cons_zero,List.getElem?_cons_succ]at x6
       go_upto_region 19 with fail
       have NEX:=Zaa (show bm≠bx∧bt≠bx∧ba≠bx∧bg≠bx by have:=NE3.out;omega)
       have gx:=ZmX w14 bx 6 (.bool true)
       have XX4:=Zaa (show Box (w14.setCell ⟨bx,6,none⟩ (.bool true)) bx 94 #[.int .i64 yc,.int .i64 ys,.int .i64 ym,.int .i64 yk,.int .i64 yl,.int .i64 yt,.bool true] by simpa using XX.out.set 6 (.bool true))
       have XT4:=Zaa (XT3.out.grown gx (by simp;exact fun e=>NEX.out.2.1 e.symm))
       have XA4:=Zaa (XA3.out.grown gx (by simp;exact fun e=>NEX.out.2.2.1 e.symm))
       have XG4:=Zaa (XG3.out.grown gx (by simp;exact fun e=>NEX.out.2.2.2 e.symm))
       have M4:=Zaa (M3.out.beside gx (by simp;exact NEX.out.1))
       have BW4:=Zaa (BW3.out.setCell (p:=⟨bx,6,none⟩) BX.out (.bool true))
       have HW4:=Zaa (HW3.out.setCell (p:=⟨bx,6,none⟩) (Nat.le_of_lt NE3.out.1) (.bool true))
       clear gx xf x6 XX XT3 XA3 XG3 M3 BW3 HW3
       generalize w14.setCell ⟨bx,6,none⟩ (.bool true)=w15 at *
       have DR:=Zaa ((Below.refl w15.heap.size w15).drew)
       have XX5:=Zaa (XX4.out.keep DR.out)
       have XT5:=Zaa (XT4.out.keep DR.out)
       have XA5:=Zaa (XA4.out.keep DR.out)
       have XG5:=Zaa (XG4.out.keep DR.out)
       have M5:=Zaa (M4.out.keep DR.out)
       have BW5:=Zaa (BW4.out.trans (DR.out.mono BW4.out.size))
       have HW5:=Zaa (HW4.out.trans (DR.out.mono (Nat.le_of_lt M4.out.lt)))
       have a5:=XA5.out.cell 5
       simp only[List.getElem?_toArray,List.getElem?_cons_zero,List.getElem?_cons_succ]at a5
       obtain⟨z0,z1⟩:=XT5.out.two
       obtain⟨s0,s1,s2,s3,s4,s5,s6⟩:=XX5.out.seven
       refine Zae 6 (.takes [0,1,2,3,4,5] (.fin 6 .done)) (fun w'=>w'.cell? ⟨ba,5,none⟩=some (.map (some bm))∧(w'.cell? ⟨bt,0,none⟩=some (.int .i64 (k0:Int))∧w'.cell? ⟨bt,1,none⟩=some (.int .i64 (m0:Int)))∧w'.cell? ⟨bx,0,none⟩=some (.int .i64 yc)∧w'.cell? ⟨bx,1,none⟩=some (.int .i64 ys)∧w'.cell? ⟨bx,2,none⟩=some (.int .i64 ym)∧w'.cell? ⟨bx,3,none⟩=some (.int .i64 yk)∧w'.cell? ⟨bx,4,none⟩=some (.int .i64 yl)∧w'.cell? ⟨bx,5,none⟩=some (.int .i64 yt)∧w'.cell? ⟨bx,6,none⟩=some (.bool true)) (by kernel_rfl) (by kernel_rfl) (by kernel_rfl) (fun _ _ _ _ _ h=>h) ⟨a5,⟨z0,z1⟩,s0,s1,s2,s3,s4,s5,s6⟩ (fun hHeld=>?_)
       simp only[Scr.takes]
       clear a5 z0 z1 s0 s1 s2 s3 s4 s5 s6 XX4 XT4 XA4 XG4 M4 BW4 HW4 DR XX5
       generalize w15.drew=w16 at *
       iterate 6
        refine Zac (v:=?_) rfl (by rfl) hHeld (fun w' hSw=>?_) ?_
        rotate_left
        ·(go_simp;try with_reducible rfl)
        try simp only[Act.put,Zag,Zah,Zai]
       obtain⟨w17,hrun,m6,g6⟩:=M5.out.update OKAT.out ⟨yc,(ys,ym),yk,yl,yt,true⟩ (show q<maxLen by have:=AP.out.few;simp only[maxLen];omega)
       have M6:=Zaa m6
       have XT6:=Zaa (XT5.out.grown g6 (by simp;exact Nat.ne_of_lt LM.out))
       have XA6:=Zaa (XA5.out.grown g6 (by simp;exact NMA.out.1))
       have XG6:=Zaa (XG5.out.grown g6 (by simp;exact NMA.out.2))
       have BW6:=Zaa (BW5.out.grown g6 BW5.out.size (fun k e=>by cases e;exact NMW.out))
       have HW6:=Zaa (HW5.out.grown g6 (Nat.le_of_lt M5.out.lt) (fun k e=>by cases e;exact Nat.le_refl _))
       simp only[kvS,ZjL]at hrun
       clear m6 g6
       refine Zaz rfl (fun Kf hKf=>?_)
       go_simp
       refine hKf.out _ _ ?_
       clear hKf
       refine ZaH ?_
       clear hrun hHeld XT5 XA5 XG5 M5 BW5 HW5
       obtain⟨z0,z1⟩:=XT6.out.two
       obtain⟨g0,g1⟩:=XG6.out.two
       have hgd:=ZkN
       by_cases hg:k0=l∧m0=j
       ·obtain⟨rfl,rfl⟩:l=k0∧j=m0:=⟨hg.1.symm,hg.2.symm⟩
        have hE:=fun(w':World)=>show(binOp .eql 90 (.agg #[.int .i64 (l:Int),.int .i64 (j:Int)]) (.agg #[.int .i64 (l:Int),.int .i64 (j:Int)])).run Tryz.prog w'=.ok (.bool true) w' by
         rw[ZpS];simp
        have ANS:=Zaa (GOAL.out _ (MIN.out rfl))
        obtain⟨s0,bk⟩:=AP.out.back
        have BK:=Zaa bk
        have XB:=Zaa (Box.new w17 #[.int .i64 (l:Int),.int .i64 (j:Int)] 90)
        have bb:=Zab w17 (.cells #[.int .i64 (l:Int),.int .i64 (j:Int)] 90)
        have XA7:=Zaa (XA6.out.keep bb)
        have XG7:=Zaa (XG6.out.keep bb)
        have M7:=Zaa (M6.out.keep bb)
        have BW7:=Zaa (BW6.out.trans (bb.mono BW6.out.size))
        have NB7:=Zaa (show bm<w17.heap.size∧ba<w17.heap.size∧bg<w17.heap.size from⟨M6.out.lt,XA6.out.lt,XG6.out.lt⟩)
        have OW0:=Zaa (show Ze4 (w17.alloc (.cells #[.int .i64 (l:Int),.int .i64 (j:Int)] 90)) w17.heap.size (.slice none 0 0) 0 from⟨[],Zad.nil⟩)
        have CST:=Zaa (AP.out.cost_at)
        clear hg bk bb MIN XA6 XG6 M6 BW6 HW6 XT6 NE3 NEX BX LM LESS E0 GOAL WAY POS FEW TRN TOK LBL H6 G6 A6
        go_wp2
        clear hE hgd z0 z1 g0 g1
        generalize w17.alloc (.cells #[.int .i64 (l:Int),.int .i64 (j:Int)] 90)=w18 at *
        generalize w17.heap.size=bs at *
        obtain⟨f2,hf2⟩:∃f2,Zgd f ((l:Int),(j:Int)) ⟨yc,(ys,ym),yk,yl,yt,true⟩=f2:=⟨_,rfl⟩
        rw[hf2]at AP M7 BK CST
        clear hf2
        obtain⟨dn2,hdn2⟩:∃dn2,((l:Int),(j:Int))::dn=dn2:=⟨_,rfl⟩
        rw[hdn2]at AP BK
        clear hdn2
        obtain⟨go,hgo⟩:∃go:Nat,go=gk:=⟨_,rfl⟩
        subst hgo
        go_loopg [20,21] s0 (fun gk u v wr=>∃(k b:Nat) (v1 v2:Int),v=.pointer (some ⟨b,0,none⟩)∧Hid (AlB (Ed s.arcs (atI (Zd8 ⟨P,ts⟩)) tr) tr.length nm f2 dn2 (v1,v2) k gk)∧Hid (Ze4 wr bs u k∧(∀kk,u.ownBlock=some kk→kk<b)∧bs≤b)∧Hid (Box wr b 90 #[.int .i64 v1,.int .i64 v2])∧Hid (ZcD wr bm f2 (q+1))∧Hid (Box wr ba 97 #[.int .i64 P,.slice A n c,.slice U nm cu,.slice V s.arcs.length cv,.slice Q l q0,.map (some bm)])∧Hid (Box wr bg 90 #[.int .i64 (l:Int),.int .i64 (j:Int)])∧Hid (Below w.heap.size w wr))
        case atStart=>exact⟨0,bs,l,j,rfl,BK,Zaa ⟨OW0.out,fun kk hk=>(by cases hk),Nat.le_refl _⟩,XB,M7,XA7,XG7,BW7⟩
        case round =>
         clear BK XB M7 XA7 XG7 BW7 OW0
         obtain⟨k,b,v1,v2,rfl,AB,OW,XB,MB,XAB,XGB,BB⟩:=hrel
         have OKV:=Zaa (show okS (v1,v2) by obtain⟨x,hx⟩:=AB.out.isIn;exact MB.out.1 _ _ hx)
         obtain⟨z0,z1⟩:=XB.out.two
         have hgd:=ZkN
         by_cases hz:v1=0∧v2=0
         ·obtain⟨rfl,rfl⟩:=hz
          have hE:=fun(w':World)=>show(binOp .neq 90 (.agg #[.int .i64 0,.int .i64 0]) (.agg #[.int .i64 0,.int .i64 0])).run Tryz.prog w'=.ok (.bool false) w' by
           rw[ZpT];simp
          obtain⟨OA,oc,rfl⟩:=Ze4.form OW.out.1
          go_wp2_with fail
          clear hE hgd z0 z1
          refine(Zip OW.out.1 (by have:=AB.out.few;omega)).mono ?_
          rintro e w21 ⟨⟨yy,rfl⟩,hg⟩
          have lo:∀kk,(Value.slice OA k oc).ownBlock=some kk→bs≤kk:=fun kk hk=>(Ze4.lo OW.out.1 kk hk)
          have XA8:=Zaa (XAB.out.grown hg (fun e=>by have:=lo _ e;have:=NB7.out;omega))
          have XG8:=Zaa (XGB.out.grown hg (fun e=>by have:=lo _ e;have:=NB7.out;omega))
          have M8:=Zaa (MB.out.beside hg (fun e=>by have:=lo _ e.symm;have:=NB7.out;omega))
          have B8:=Zaa (BB.out.grown hg BB.out.size (fun kk e=>by have:=lo _ e;have:=NB7.out;have:=NMW.out;omega))
          clear hg lo XB XAB XGB MB BB OW
          go_upto_region 30 with fail
          have DR:=Zaa ((Below.refl w21.heap.size w21).drew)
          have XA9:=Zaa (XA8.out.keep DR.out)
          have XG9:=Zaa (XG8.out.keep DR.out)
          have M9:=Zaa (M8.out.keep DR.out)
          have B9:=Zaa (B8.out.trans (DR.out.mono B8.out.size))
          have a5:=XA9.out.cell 5
          simp only[List.getElem?_toArray,List.getElem?_cons_zero,List.getElem?_cons_succ]at a5
          obtain⟨g0,g1⟩:=XG9.out.two
          obtain⟨⟨zc,⟨zs,zm⟩,zk,zl,zt,zd⟩,hx,hzc⟩:=CST.out
          simp only at hzc
          subst hzc
          have OKG:=Zaa (M9.out.1 _ _ hx)
          have HLK:=Zaa (fun(w':World) (hm:ZcD w' bm f2 (q+1))=>show(Instr.lookup 95 (.map (some bm)) (.agg #[.int .i64 (l:Int),.int .i64 (j:Int)]) false).run Tryz.prog w'=.ok (.agg #[.int .i64 zc,.int .i64 zs,.int .i64 zm,.int .i64 zk,.int .i64 zl,.int .i64 zt,.bool zd]) w' from by
           have:=hm.at OKG.out
           rw[hx]at this
           exact this)
          clear hx
          refine Zae 9 (.takes [0,1,2,3,4,5,6,7,8] (.fin 9 (.fin 10 .done))) (fun w'=>w'.cell? ⟨ba,5,none⟩=some (.map (some bm))∧w'.cell? ⟨bg,0,none⟩=some (.int .i64 (l:Int))∧w'.cell? ⟨bg,1,none⟩=some (.int .i64 (j:Int))∧ZcD w' bm f2 (q+1)) (by kernel_rfl) (by kernel_rfl) (by kernel_rfl) (fun _ _ _ _ _ h=>h) ⟨a5,g0,g1,M9.out⟩ (fun hHeld=>?_)
          simp only[Scr.takes]
          clear a5 g0 g1
          generalize w21.drew=w22 at *
          iterate 6
           refine Zac (v:=?_) rfl (by rfl) hHeld (fun w' hSw=>?_) ?_
           rotate_left
           ·(go_simp;try with_reducible rfl)
           try simp only[Act.put,Zag,Zah,Zai]
          refine Zac (v:=?_) rfl (by rfl) hHeld (fun w' hSw=>?_) ?_
          rotate_left
          ·have hlk:=HLK.out w' hSw.2.2.2
           go_simp
           try with_reducible rfl
          try simp only[Act.put,Zag,Zah,Zai]
          have hfd:=ZpP zc zs zm zk zl zt zd
          iterate 2
           refine Zac (v:=?_) rfl (by rfl) hHeld (fun w' hSw=>?_) ?_
           rotate_left
           ·(go_simp;try with_reducible rfl)
           try simp only[Act.put,Zag,Zah,Zai]
          refine Zaz rfl (fun Kf hKf=>?_)
          go_simp
          refine hKf.out _ _ ?_
          clear hKf
          try simp only[Act.put,Zag,Zah,Zai]
          refine Zaz rfl (fun Kf hKf=>?_)
          go_simp
          refine hKf.out _ _ ?_
          clear hKf
          try simp only[Act.put,Zag,Zah,Zai]
          refine ZaH ?_
          go_wp2
          go_ret3
          exact⟨OA,k,oc,zc,0,rfl,ANS.out,fun h=>absurd rfl h,B9.out⟩
         ·have hE:=fun(w':World)=>show(binOp .neq 90 (.agg #[.int .i64 v1,.int .i64 v2]) (.agg #[.int .i64 0,.int .i64 0])).run Tryz.prog w'=.ok (.bool true) w' by
           rw[ZpT]
           have:(v1==0&&v2==0)=false:=by
            cases h1:(v1==0) <;> cases h2:(v2==0) <;> simp_all
           rw[this];rfl
          obtain⟨⟨zc,⟨zs,zm⟩,zk,zl,zt,zd⟩,hx,s',hlt,ab⟩:=AP.out.back_next AB.out (fun e=>hz ⟨congrArg Prod.fst e,congrArg Prod.snd e⟩)
          have AB2:=Zaa ab
          have HLT:=Zaa hlt
          have HLK:=Zaa (fun(w':World) (hm:ZcD w' bm f2 (q+1))=>show(Instr.lookup 95 (.map (some bm)) (.agg #[.int .i64 v1,.int .i64 v2]) false).run Tryz.prog w'=.ok (.agg #[.int .i64 zc,.int .i64 zs,.int .i64 zm,.int .i64 zk,.int .i64 zl,.int .i64 zt,.bool zd]) w' from by
           have:=hm.at OKV.out
           rw[hx]at this
           exact this)
          clear hx hlt ab hz
          go_upto_region 26 with fail
          clear hE hgd z0 z1
          obtain⟨xs,OWx⟩:=OW.out.1
          have DR:=Zaa ((Below.refl wr.heap.size wr).drew)
          have OW1:=Zaa (Zad.keep Zqo.kept OWx DR.out)
          have OWB:=Zaa (show ∀kk,u20.ownBlock=some kk→bs≤kk∧kk<b from fun kk hk=>⟨Ze4.lo OW.out.1 kk hk,OW.out.2.1 kk hk⟩)
          have LB:=Zaa (show bs≤b from OW.out.2.2)
          have XB1:=Zaa (XB.out.keep DR.out)
          have XA1:=Zaa (XAB.out.keep DR.out)
          have XG1:=Zaa (XGB.out.keep DR.out)
          have M1:=Zaa (MB.out.keep DR.out)
          have BB1:=Zaa (BB.out.trans (DR.out.mono BB.out.size))
          have hk:=AB.out.few
          have a5:=XA1.out.cell 5
          simp only[List.getElem?_toArray,List.getElem?_cons_zero,List.getElem?_cons_succ]at a5
          obtain⟨z0,z1⟩:=XB1.out.two
          refine Zae 9 (.takes [0,1,2,3,4,5,6,7] (.one 8 (.fin 9 (.fin 10 .done)))) (fun w'=>w'.cell? ⟨ba,5,none⟩=some (.map (some bm))∧w'.cell? ⟨b,0,none⟩=some (.int .i64 v1)∧w'.cell? ⟨b,1,none⟩=some (.int .i64 v2)∧ZcD w' bm f2 (q+1)) (by kernel_rfl) (by kernel_rfl) (by kernel_rfl) (fun _ _ _ _ _ h=>h) ⟨a5,z0,z1,M1.out⟩ (fun hHeld=>?_)
          simp only[Scr.takes]
          clear a5 z0 z1 OWx OW XB XAB XGB MB BB DR
          generalize wr.drew=y1 at *
          iterate 6
           refine Zac (v:=?_) rfl (by rfl) hHeld (fun w' hSw=>?_) ?_
           rotate_left
           ·(go_simp;try with_reducible rfl)
           try simp only[Act.put,Zag,Zah,Zai]
          refine Zac (v:=?_) rfl (by rfl) hHeld (fun w' hSw=>?_) ?_
          rotate_left
          ·have hlk:=HLK.out w' hSw.2.2.2
           go_simp
           try with_reducible rfl
          try simp only[Act.put,Zag,Zah,Zai]
          have hfd:=ZpR zc zs zm zk zl zt zd
          refine Zac (v:=?_) rfl (by rfl) hHeld (fun w' hSw=>?_) ?_
          rotate_left
          ·(go_simp;try with_reducible rfl)
          try simp only[Act.put,Zag,Zah,Zai]
          clear hfd
          have bz:=Zaa (Zab y1 (.cells #[.int .i64 zk,.int .i64 zl,.int .i64 zt] 92))
          have a5:=(XA1.out.keep bz.out).cell 5
          simp only[List.getElem?_toArray,List.getElem?_cons_zero,List.getElem?_cons_succ]at a5
          refine ZaC rfl (fun Kf hKf=>?_)
          go_simp
          refine hKf.out _ _ ⟨a5,(XB1.out.keep bz.out).two.1,(XB1.out.keep bz.out).two.2,M1.out.keep bz.out⟩ (fun hHeld=>?_)
          clear hKf a5 bz
          try simp only[Act.put,Zag,Zah,Zai]
          have LY:=Zaa (show bs≤y1.heap.size by have:=XB1.out.lt;have:=LB.out;omega)
          refine Zaz rfl (fun Kf hKf=>?_)
          refine ZdP (w0:=y1) Ztn rfl (.tmp 99) (.tmp 107) rfl [()] #[.int .i64 zk,.int .i64 zl,.int .i64 zt] rfl rfl (by first|rfl|simp) rfl rfl (by omega) (by simp[Value.oneCell']) OW1.out (Zqo.reads _ _ _ _) rfl (Below.refl bs y1) LY.out (by omega) (by omega) (fun w' _ vs y h=>h) ?_
          intro g cap wz ownz hgz hbz hBg hgl
          have OWZ:=Zaa ownz
          have XBZ:=Zaa (XB1.out.grown hgz (fun e=>by have:=OWB.out _ e;omega))
          have XAZ:=Zaa (XA1.out.grown hgz (fun e=>by have:=OWB.out _ e;have:=NB7.out;omega))
          have XGZ:=Zaa (XG1.out.grown hgz (fun e=>by have:=OWB.out _ e;have:=NB7.out;omega))
          have MZ:=Zaa (M1.out.beside hgz (fun e=>by have:=OWB.out _ e.symm;have:=NB7.out;omega))
          have BZ:=Zaa (BB1.out.grown hgz BB1.out.size (fun kk e=>by have:=OWB.out _ e;have:=NB7.out;have:=NMW.out;omega))
          have GZ:=Zaa (show bs≤g∧g<wz.heap.size from⟨hBg,hgl⟩)
          clear ownz hgz hbz hBg hgl OW1 XB1 XA1 XG1 M1 BB1 OWB
          refine hKf.out _ _ ?_
          clear hKf
          try simp only[Act.put,Zag,Zah,Zai]
          refine Zaz rfl (fun Kf hKf=>?_)
          go_simp
          refine hKf.out _ _ ?_
          clear hKf
          try simp only[Act.put,Zag,Zah,Zai]
          refine ZaH ?_
          clear hHeld
          obtain⟨z0,z1⟩:=XBZ.out.two
          go_upto_region 25 with fail
          clear z0 z1
          have XN:=Zaa (Box.new wz #[.int .i64 v1,.int .i64 v2] 90)
          have bb:=Zab wz (.cells #[.int .i64 v1,.int .i64 v2] 90)
          have XA2:=Zaa (XAZ.out.keep bb)
          have XG2:=Zaa (XGZ.out.keep bb)
          have M2:=Zaa (MZ.out.keep bb)
          have B2:=Zaa (BZ.out.trans (bb.mono BZ.out.size))
          have OW2:=Zaa (Zad.keep Zqo.kept OWZ.out bb)
          have GW:=Zaa BZ.out.size
          clear bb XBZ XAZ XGZ MZ BZ OWZ
          generalize wz.alloc (.cells #[.int .i64 v1,.int .i64 v2] 90)=y2 at *
          generalize wz.heap.size=bn at *
          have DR:=Zaa ((Below.refl y2.heap.size y2).drew)
          have XN3:=Zaa (XN.out.keep DR.out)
          have XA3:=Zaa (XA2.out.keep DR.out)
          have XG3:=Zaa (XG2.out.keep DR.out)
          have M3:=Zaa (M2.out.keep DR.out)
          have B3:=Zaa (B2.out.trans (DR.out.mono B2.out.size))
          have OW3:=Zaa (Zad.keep Zqo.kept OW2.out DR.out)
          have a5:=XA3.out.cell 5
          simp only[List.getElem?_toArray,List.getElem?_cons_zero,List.getElem?_cons_succ]at a5
          obtain⟨z0,z1⟩:=XN3.out.two
          refine Zae 7 (.takes [0,1,2,3,4,5,6] (.fin 7 .done)) (fun w'=>w'.cell? ⟨ba,5,none⟩=some (.map (some bm))∧w'.cell? ⟨bn,0,none⟩=some (.int .i64 v1)∧w'.cell? ⟨bn,1,none⟩=some (.int .i64 v2)∧ZcD w' bm f2 (q+1)) (by kernel_rfl) (by kernel_rfl) (by kernel_rfl) (fun _ _ _ _ _ h=>h) ⟨a5,z0,z1,M3.out⟩ (fun hHeld=>?_)
          simp only[Scr.takes]
          clear a5 z0 z1 XN XA2 XG2 M2 B2 OW2 DR
          generalize y2.drew=y3 at *
          iterate 5
           refine Zac (v:=?_) rfl (by rfl) hHeld (fun w' hSw=>?_) ?_
           rotate_left
           ·(go_simp;try with_reducible rfl)
           try simp only[Act.put,Zag,Zah,Zai]
          refine Zac (v:=?_) rfl (by rfl) hHeld (fun w' hSw=>?_) ?_
          rotate_left
          ·have hlk:=HLK.out w' hSw.2.2.2
           go_simp
           try with_reducible rfl
          try simp only[Act.put,Zag,Zah,Zai]
          have hfd:=ZpQ zc zs zm zk zl zt zd
          refine Zac (v:=?_) rfl (by rfl) hHeld (fun w' hSw=>?_) ?_
          rotate_left
          ·(go_simp;try with_reducible rfl)
          try simp only[Act.put,Zag,Zah,Zai]
          clear hfd
          obtain⟨z0,z1⟩:=XN3.out.two
          have n0:=XN3.out.frozen 0
          have n1:=XN3.out.frozen 1
          have g4:=Zgf y3 bn (.int .i64 zs) (.int .i64 zm)
          have XN4:=Zaa (XN3.out.set2 (.int .i64 zs) (.int .i64 zm))
          have NE:=Zaa (show ba≠bn∧bg≠bn∧bm≠bn∧g≠bn∧bs≤bn∧g<bn by have:=NB7.out;have:=GZ.out;omega)
          have XA4:=Zaa (XA3.out.grown g4 (by simp;exact fun e=>NE.out.1 e.symm))
          have XG4:=Zaa (XG3.out.grown g4 (by simp;exact fun e=>NE.out.2.1 e.symm))
          have M4:=Zaa (M3.out.beside g4 (by simp;exact NE.out.2.2.1))
          have B4:=Zaa (B3.out.grown g4 B3.out.size (fun kk e=>by cases e;exact GW.out))
          have OW4:=Zaa (Zad.kept OW3.out g4 (.inr (by simp[Value.ownBlock];exact NE.out.2.2.2.1)) (fun vs x h=>h))
          clear g4
          refine Zaz rfl (fun Kf hKf=>?_)
          go_simp
          refine hKf.out _ _ ?_
          clear hKf
          try simp only[Act.put,Zag,Zah,Zai]
          refine ZaH ?_
          clear hHeld n0 n1 z0 z1 XN3 XA3 XG3 M3 B3 OW3
          go_wp2
          go_roundg s'
          case measure=>exact HLT.out
          case rel=>exact⟨k+1,bn,zs,zm,rfl,AB2,Zaa ⟨⟨_,OW4.out⟩,fun kk hk=>(by injection hk with hk;rw[←hk];exact NE.out.2.2.2.2.2),NE.out.2.2.2.2.1⟩,XN4,M4,XA4,XG4,B4⟩
       ·have hE:=fun(w':World)=>show(binOp .eql 90 (.agg #[.int .i64 (k0:Int),.int .i64 (m0:Int)]) (.agg #[.int .i64 (l:Int),.int .i64 (j:Int)])).run Tryz.prog w'=.ok (.bool false) w' by
         rw[ZpS]
         have:((k0:Int)==(l:Int)&&(m0:Int)==(j:Int))=false:=by
          cases h1:((k0:Int)==(l:Int)) <;> cases h2:((m0:Int)==(j:Int)) <;> simp_all <;> omega
         rw[this]
        have NG:=Zaa (show((l:Int),(j:Int))≠(((k0:Int),(m0:Int)):Sp)from fun e=>hg ⟨by have:=congrArg Prod.fst e;simp only at this;omega,by have:=congrArg Prod.snd e;simp only at this;omega⟩)
        clear hg
        go_wp2_with fail
        clear hE hgd z0 z1 g0 g1
        have hl60':l≤60:=by omega
        refine(Zl7 (wP:=w6) XA6.out M6.out (by rw[hbm];exact HW6.out) (by rw[hbm];exact Nat.le_refl _) NMA.out.1 H6.out A6.out G6.out TOK.out TRN.out LBL.out hnm3 hl60' FEW.out AP.out.inU AP.out.dl AP.out.few ⟨AP.out.c0.1,AP.out.c0.2.2⟩ AP.out.cost AP.out.c0.2.1).mono ?_
        rintro e w18 ⟨⟨yy,rfl⟩,f',q',m7,hq7,d7,g7,c7⟩
        have AI7:=Zaa (AP.out.next NG.out d7 (fun v d h=>h) hq7 c7)
        have M7:=Zaa m7
        have XA7:=Zaa (XA6.out.grown g7 (by simp;exact NMA.out.1))
        have XG7:=Zaa (XG6.out.grown g7 (by simp;exact NMA.out.2))
        have BW7:=Zaa (BW6.out.grown g7 BW6.out.size (fun k e=>by cases e;exact NMW.out))
        have HW7:=Zaa (HW6.out.grown g7 (Nat.le_of_lt M6.out.lt) (fun k e=>by cases e;exact Nat.le_refl _))
        clear m7 hq7 d7 g7 c7 XA6 XG6 M6 BW6 HW6 XT6
        go_wp2
        go_roundg (Zn0 tr.length nm (((k0:Int),(m0:Int))::dn))
        case measure=>rw[←LESS.out];exact AP.out.less
        case rel=>exact⟨f',_,q',Zaa ⟨AI7.out,rfl⟩,M7,XA7,XG7,BW7,HW7⟩
  ·have CP:=Zaa (ZkO (tr:=tr) HR.out hk0)
   have hkb:(k==0)=false:=by simpa using hk0
   go_wp2
   go_ret3
   exact⟨none,0,0,0,k,rfl,CP.out,fun _=>rfl,B4.out⟩
 ·have RW:=Zaa (TW.out hs0)
  have CP:=Zaa (ZkO (tr:=tr) (HR.out.trans RW.out) hs0)
  have hsb:(sw==0)=false:=by simpa using hs0
  go_upto_region 2 with(go_at_call 24;((with_reducible refine CW.out.mono ?_);rintro e w1 ⟨rfl,hb1⟩;have B1:=Zaa hb1;clear hb1))
  go_wp2
  go_ret3
  exact⟨none,0,0,0,sw,rfl,CP.out,fun _=>rfl,HB.out.trans (B1.out.mono HB.out.size)⟩
end Go.Proofs.YtfmnagcglhlicaaGreat
