/- TopSaid: the law's walk. Conditions: the arguments read as a net, roles and things to do. -/
import Derived.Test.YtfmnagcglhlicaaGreatTopSaidK47
import Derived.Test.YtfmnagcglhlicaaGreatTopSaidK53
set_option maxRecDepth 100000
namespace Go.Proofs.YtfmnagcglhlicaaGreat
open Go.RowKit Go.Maps
structure Zmj (F:FuncId)(cap:Array Value)(w:World)(p:Za3→Bool):Prop where
 enters:∀args w,(callFunc F args).run Tryz.prog w=.ok (.enter F args) w
 calls:∀(wr:World) (a:Za3),Below w.heap.size w wr →
  Calls Tryz.prog F (#[.agg #[.int .i64 a.user,.int .i64 a.tran,.bool a.open_]]++cap) wr fun e w'=>e=.returned (.bool (p a))∧Below wr.heap.size wr w'
theorem ZgV {w:World}{A:Option Addr}{n c:Nat}{its:List Za3}{F:FuncId}{cap:Array Value}{p:Za3→Bool}(h:Zir w A n c its)(hp:Zmj F cap w p) :
  Calls Tryz.prog 23 #[.slice A n c,.func (.func F) #[] cap] w fun e w'=>e=.returned (.int .i64 (ZaT p its))∧Below w.heap.size w w':=by
 have hn:=h.small
 have henter:=hp.enters
 have H:=Zaa h
 have HP:=Zaa hp
 clear h hp
 go_enter Tryz.func23,Tryz.ntmps23
 go_wp2
 go_loopw [8] (fun i wr=>∃k:Nat,k≤n∧i=.int .i64 k∧Hid (∀j,j<k→∀y,its[j]?=some y→p y=false)∧Hid (Below w.heap.size w wr)) (fun i _=>n-(intOf i).toNat)
 case atStart=>exact⟨0,Nat.zero_le _,rfl,fun j hj=>absurd hj (by omega),Below.refl _ _⟩
 case round =>
  obtain⟨k,hk,rfl,hlow,D⟩:=hrel
  by_cases hlt:k<n
  ·have hki:(k:Int)<(n:Int):=by omega
   obtain⟨b,off,t,rfl,hb,ht,q0,q1,q2⟩:=Zir.get (Sl.keep Zcl.kept H.out D.out) hlt
   have CL:=Zaa (HP.out.calls wr t D.out)
   obtain⟨v,hv⟩:∃v,p t=v:=⟨_,rfl⟩
   have HV:=Zaa hv
   rw[hv]at CL
   clear hv
   cases v
   ·go_wp2_with (refine CL.out.mono ?_;rintro e w' ⟨rfl,hb'⟩;have HB:=Zaa hb';clear hb')
    go_roundw
    case rel =>
     refine⟨k+1,by omega,by go_num,fun j hj y hy=>?_,D.out.trans (HB.out.mono D.out.size)⟩
     by_cases hjk:j=k
     ·subst hjk
      have:=ht.out
      rw[hy]at this
      injection this with this
      rw[this]
      exact HV.out
     ·exact hlow.out j (by omega) y hy
    case measure=>simp[intOf];omega
   ·go_wp2_with (refine CL.out.mono ?_;rintro e w' ⟨rfl,hb'⟩;have HB:=Zaa hb';clear hb')
    go_ret
    exact⟨Zap (ZaW hlow.out ht.out HV.out).symm,D.out.trans (HB.out.mono D.out.size)⟩
  ·go_wp2
   go_ret
   exact⟨Zap (ZaX (fun j hj y hy=>hlow.out j (by have:=H.out.len;omega) y hy)).symm,D.out⟩
theorem Zc7 {w:World}{A:Option Addr}{n c:Nat}{its:List Za3}{F:FuncId}{cap:Array Value}{p:Za3→Bool}(h:Zir w A n c its)(hp:Zmj F cap w p) :
  Calls Tryz.prog 10 #[.slice A n c,.func (.func F) #[] cap] w fun e w'=>e=.returned (.bool (its.any p))∧Below w.heap.size w w':=by
 have H:=Zaa h
 have HP:=Zaa hp
 clear h hp
 go_enter Tryz.func10,Tryz.ntmps10
 go_wp2_with (refine(ZgV H.out HP.out).mono ?_;rintro e w' ⟨rfl,hb⟩)
 go_ret
 exact⟨Zav (Zb7 _ _),hb⟩
def ZrI (x:Za3):Bool:=x.open_
theorem Zk8 (w:World):Zmj 11 #[] w ZrI where
 enters:=fun args w=>by kernel_rfl
 calls:=fun wr a _=>by
  have BB:=Zaa (Zab wr (.cells #[.int .i64 a.user,.int .i64 a.tran,.bool a.open_] 42))
  change Calls _ _ #[.agg #[.int .i64 a.user,.int .i64 a.tran,.bool a.open_]] _ _
  unfold ZrI
  generalize a.open_=v at *
  go_enter Tryz.func11,Tryz.ntmps11
  go_wp2
  go_ret
  exact⟨rfl,BB.out⟩
theorem ZrJ.at {w:World}{A:Option Addr}{n c k:Nat}{os:List (Int×Int)}(h:Zqf w A n c os)(hk:k<n) :
  ∃b off o,A=some ⟨b,off,none⟩∧b<w.heap.size∧Hid (os[k]?=some o)∧w.cell? ⟨b,off+k*2,none⟩=some (.int .i64 o.1)∧w.cell? ⟨b,off+k*2+1,none⟩=some (.int .i64 o.2):=by
 obtain⟨b,off,o,vs,h1,h2,h3,h4,e0,e1⟩:=Sl.get h hk
 exact⟨b,off,o,h1,h2,h3,by rw[←e0];exact h4 0 (by omega),by rw[←e1];exact h4 1 (by omega)⟩
set_option maxHeartbeats 16000000 in
theorem ZjJ {w:World}{P:Int}{A R O:Option Addr}{n c r q s so:Nat}{ts:List Zak}{roles:List (List Int)}{os:List POp}(i o:Int)(h:ZaP w A n c ts)(hn:n≤2513169434916)(g:ZaS w R r q roles)(x:ZrO w O s so os)(hs:s≤3518437208780) :
  Calls Tryz.prog 3 #[.agg #[.int .i64 P,.slice A n c],.int .i64 i,.int .i64 o,.slice R r q,.slice O s so] w fun e w'=>e=.returned (.bool true)∧Below w.heap.size w w':=by
 have HB:=Zaa (Zab w (.cells #[.int .i64 P,.slice A n c] 24))
 have X0:=Zaa (Box.new w #[.int .i64 P,.slice A n c] 24)
 have H0:=Zaa (h.keep HB.out)
 have G0:=Zaa (Sl.keep ZaL.kept g HB.out)
 have O0:=Zaa (Sl.keep Zmq.kept x HB.out)
 have HN:=Zaa hn
 have HS:=Zaa hs
 clear h g x hn hs
 go_enter Tryz.func3,Tryz.ntmps3
 go_upto_region 1 with fail
 generalize w.alloc (.cells #[.int .i64 P,.slice A n c] 24)=w1 at *
 generalize w.heap.size=b5 at X0
 have CA:=Zaa (Zl9 w1)
 go_wp2_with fail
 refine CA.out.mono ?_
 rintro e w2 ⟨rfl,hb2⟩
 have D2:=Zaa (HB.out.trans (hb2.mono HB.out.size))
 have T52:=Zaa (X0.out.keep hb2)
 have H2:=Zaa (H0.out.keep hb2)
 have O2:=Zaa (Sl.keep Zmq.kept O0.out hb2)
 have CP:=Zaa (Zis (P:=P) i H2.out (Sl.keep ZaL.kept G0.out hb2) O2.out HS.out)
 obtain⟨p,hp⟩:∃p,ZkU ⟨P,ts⟩ roles i os=p:=⟨_,rfl⟩
 have HP:=Zaa hp
 rw[hp]at CP
 obtain⟨n0,n1⟩:=T52.out.two
 clear hb2 hp CA
 go_wp2_with fail
 refine CP.out.mono ?_
 rintro e w2b ⟨B,m,d,D,l,f,I,ni,ci,An,na,ca,rfl,dw,an,hbp⟩
 have B3:=Zaa (Zab w2b (.cells #[.slice B m d,.slice D l f,.slice I ni ci] 33))
 have T11:=Zaa (Box.new w2b #[.slice B m d,.slice D l f,.slice I ni ci] 33)
 have HB3:=Zaa (hbp.trans (B3.out.mono hbp.size))
 have DW:=Zaa (dw.keep B3.out)
 have AN:=Zaa (Sl.keep Zqr.kept an B3.out)
 have T5:=Zaa (T52.out.keep HB3.out)
 have D3:=Zaa (D2.out.trans (HB3.out.mono D2.out.size))
 have H3:=Zaa (H2.out.keep HB3.out)
 have O3:=Zaa (Sl.keep Zmq.kept O2.out HB3.out)
 clear dw an hbp n0 n1 CP
 go_upto_region 4 with fail
 generalize w2b.alloc (.cells #[.slice B m d,.slice D l f,.slice I ni ci] 33)=w3 at *
 generalize w2b.heap.size=b11 at T11
 have BD:=Zaa ((Below.refl w3.heap.size w3).drew)
 have d0:=T11.out.cell 0
 have d2:=T11.out.cell 2
 have n0:=T5.out.cell 0
 have n1:=T5.out.cell 1
 obtain⟨K,al,er⟩:=p
 by_cases he:er=0
 ·have hei:(er != 0)=false:=by simp[he]
  have HE:=Zaa he
  have HB0:=Zaa (show(ZaQ ⟨P,ts⟩ i).2=0 from by
   have h1:=HP.out
   unfold ZkU at h1
   split at h1
   ·rename_i h2;exact h2
   ·rename_i h2
    injection h1 with _ h1
    injection h1 with _ h1
    exact absurd (h1.trans he) h2)
  have HK:=Zaa (show(Zd1 ⟨P,ts⟩ roles ⟨(ZaQ ⟨P,ts⟩ i).1,[]⟩ os).1=K∧(Zd1 ⟨P,ts⟩ roles ⟨(ZaQ ⟨P,ts⟩ i).1,[]⟩ os).2=al from by
   have h1:=HP.out
   unfold ZkU at h1
   rw[if_pos HB0.out]at h1
   injection h1 with h1 h2
   injection h2 with h2 _
   exact⟨h1,h2⟩)
  have HRO:=Zaa (Zmb ⟨P,ts⟩ roles os ⟨(ZaQ ⟨P,ts⟩ i).1,[]⟩ (Zci.start HB0.out))
  have hls:na=s:=by
   have h1:=HRO.out.2.2
   rw[HK.out.2]at h1
   have h2:al.length=na:=AN.out.len
   have h3:os.length=s:=O3.out.len
   omega
  subst hls
  have hli:((na:Int) !=(na:Int))=false:=by simp
  have CS:=Zaa (fun(w4:World)=>ZbM w4 P o A n c)
  obtain⟨v1,hv1⟩:∃v,(K.case_.mark==ZcR (min P 16).toNat o)=v:=⟨_,rfl⟩
  have HV1:=Zaa hv1
  clear hv1 he
  cases v1
  ·clear HB0 HK HRO
   refine Zae 23 (.takes [0,1,2,3,4,5,6,7,8,9,10,11,12,13,14] (.one 15 (.one 16 (.takes [17,18,19,20,21,22] (.fin 23 .done))))) (fun w'=>w'.cell? ⟨b11,0,none⟩=some (.slice B m d)∧w'.cell? ⟨b11,2,none⟩=some (.slice I ni ci)∧w'.cell? ⟨b5,0,none⟩=some (.int .i64 P)∧w'.cell? ⟨b5,1,none⟩=some (.slice A n c)) (by kernel_rfl) (by kernel_rfl) (by kernel_rfl) (fun _ _ _ _ _ h=>h) ⟨d0,d2,n0,n1⟩ (fun hHeld=>?_)
   simp only[Scr.takes]
   generalize w3.drew=w4 at *
   iterate 1
    refine Zac (v:=?_) rfl (by rfl) hHeld (fun w' hSw=>?_) ?_
    rotate_left
    ·(go_simp;try with_reducible rfl)
    try simp only[Act.put,Zag,Zah,Zai]
   refine Zac (v:=.bool false) rfl (by rfl) hHeld (fun w' hSw=>?_) ?_
   ·(go_simp;try with_reducible rfl)
   try simp only[Act.put,Zag,Zah,Zai]
   refine Zac (v:=.bool false) rfl (by rfl) hHeld (fun w' hSw=>?_) ?_
   ·(go_simp;try with_reducible rfl)
   try simp only[Act.put,Zag,Zah,Zai]
   iterate 4
    refine Zac (v:=?_) rfl (by rfl) hHeld (fun w' hSw=>?_) ?_
    rotate_left
    ·(go_simp;try with_reducible rfl)
    try simp only[Act.put,Zag,Zah,Zai]
   refine Zac (v:=.bool false) rfl (by rfl) hHeld (fun w' hSw=>?_) ?_
   ·(go_simp;try with_reducible rfl)
   try simp only[Act.put,Zag,Zah,Zai]
   refine Zac (v:=.bool false) rfl (by rfl) hHeld (fun w' hSw=>?_) ?_
   ·(go_simp;try with_reducible rfl)
   try simp only[Act.put,Zag,Zah,Zai]
   refine Zac (v:=.bool false) rfl (by rfl) hHeld (fun w' hSw=>?_) ?_
   ·(go_simp;try with_reducible rfl)
   try simp only[Act.put,Zag,Zah,Zai]
   iterate 5
    refine Zac (v:=?_) rfl (by rfl) hHeld (fun w' hSw=>?_) ?_
    rotate_left
    ·(go_simp;try with_reducible rfl)
    try simp only[Act.put,Zag,Zah,Zai]
   refine ZaC rfl (fun Kf hKf=>?_)
   go_simp
   refine(CS.out w4).mono ?_
   rintro e w5 ⟨C5,k5,rfl,i5,hb5,_⟩
   have E5:=Zaa (BD.out.trans (hb5.mono BD.out.size))
   have I5:=Zaa i5
   clear i5 hb5
   have d0w5:=(T11.out.keep E5.out).cell 0
   have d2w5:=(T11.out.keep E5.out).cell 2
   have n0w5:=(T5.out.keep E5.out).cell 0
   have n1w5:=(T5.out.keep E5.out).cell 1
   refine hKf.out _ _ ⟨d0w5,d2w5,n0w5,n1w5⟩ (fun hHeld=>?_)
   clear hKf d0w5 d2w5 n0w5 n1w5
   try simp only[Act.put,Zag,Zah,Zai]
   refine ZaC rfl (fun Kf hKf=>?_)
   go_simp
   have CE:=Zaa (Za9 (DW.out.mark.keep E5.out) I5.out)
   rw[HV1.out]at CE
   refine CE.out.mono ?_
   rintro e w6 ⟨rfl,dr⟩
   have hb6:=dr.below
   have E6:=Zaa (E5.out.trans (hb6.mono E5.out.size))
   clear dr hb6 CE
   have d0w6:=(T11.out.keep E6.out).cell 0
   have d2w6:=(T11.out.keep E6.out).cell 2
   have n0w6:=(T5.out.keep E6.out).cell 0
   have n1w6:=(T5.out.keep E6.out).cell 1
   refine hKf.out _ _ ⟨d0w6,d2w6,n0w6,n1w6⟩ (fun hHeld=>?_)
   clear hKf d0w6 d2w6 n0w6 n1w6
   try simp only[Act.put,Zag,Zah,Zai]
   refine Zac (v:=.bool true) rfl (by rfl) hHeld (fun w' hSw=>?_) ?_
   ·(go_simp;try with_reducible rfl)
   try simp only[Act.put,Zag,Zah,Zai]
   refine Zac (v:=.bool true) rfl (by rfl) hHeld (fun w' hSw=>?_) ?_
   ·(go_simp;try with_reducible rfl)
   try simp only[Act.put,Zag,Zah,Zai]
   refine Zac (v:=.bool true) rfl (by rfl) hHeld (fun w' hSw=>?_) ?_
   ·(go_simp;try with_reducible rfl)
   try simp only[Act.put,Zag,Zah,Zai]
   iterate 3
    refine Zf5 rfl (by rfl) hHeld ?_
    try simp only[Act.put,Zag,Zah,Zai]
   refine Zaz rfl (fun Kf hKf=>?_)
   go_simp
   refine hKf.out _ _ ?_
   clear hKf
   try simp only[Act.put,Zag,Zah,Zai]
   refine ZaH ?_
   clear hHeld
   go_wp2
   go_ret
   exact⟨rfl,(D3.out.trans (E6.out.mono D3.out.size))⟩
  ·obtain⟨v2,hv2⟩:∃v,K.items.any ZrI=v:=⟨_,rfl⟩
   have HV2:=Zaa hv2
   clear hv2
   cases v2
   ·refine Zae 23 (.takes [0,1,2,3,4,5,6,7,8,9,10,11,12,13,14] (.one 15 (.one 16 (.takes [17,18,19,20,21] (.one 22 (.fin 23 .done)))))) (fun w'=>w'.cell? ⟨b11,0,none⟩=some (.slice B m d)∧w'.cell? ⟨b11,2,none⟩=some (.slice I ni ci)∧w'.cell? ⟨b5,0,none⟩=some (.int .i64 P)∧w'.cell? ⟨b5,1,none⟩=some (.slice A n c)) (by kernel_rfl) (by kernel_rfl) (by kernel_rfl) (fun _ _ _ _ _ h=>h) ⟨d0,d2,n0,n1⟩ (fun hHeld=>?_)
    simp only[Scr.takes]
    generalize w3.drew=w4 at *
    iterate 1
     refine Zac (v:=?_) rfl (by rfl) hHeld (fun w' hSw=>?_) ?_
     rotate_left
     ·(go_simp;try with_reducible rfl)
     try simp only[Act.put,Zag,Zah,Zai]
    refine Zac (v:=.bool false) rfl (by rfl) hHeld (fun w' hSw=>?_) ?_
    ·(go_simp;try with_reducible rfl)
    try simp only[Act.put,Zag,Zah,Zai]
    refine Zac (v:=.bool false) rfl (by rfl) hHeld (fun w' hSw=>?_) ?_
    ·(go_simp;try with_reducible rfl)
    try simp only[Act.put,Zag,Zah,Zai]
    iterate 4
     refine Zac (v:=?_) rfl (by rfl) hHeld (fun w' hSw=>?_) ?_
     rotate_left
     ·(go_simp;try with_reducible rfl)
     try simp only[Act.put,Zag,Zah,Zai]
    refine Zac (v:=.bool false) rfl (by rfl) hHeld (fun w' hSw=>?_) ?_
    ·(go_simp;try with_reducible rfl)
    try simp only[Act.put,Zag,Zah,Zai]
    refine Zac (v:=.bool false) rfl (by rfl) hHeld (fun w' hSw=>?_) ?_
    ·(go_simp;try with_reducible rfl)
    try simp only[Act.put,Zag,Zah,Zai]
    refine Zac (v:=.bool false) rfl (by rfl) hHeld (fun w' hSw=>?_) ?_
    ·(go_simp;try with_reducible rfl)
    try simp only[Act.put,Zag,Zah,Zai]
    iterate 5
     refine Zac (v:=?_) rfl (by rfl) hHeld (fun w' hSw=>?_) ?_
     rotate_left
     ·(go_simp;try with_reducible rfl)
     try simp only[Act.put,Zag,Zah,Zai]
    refine ZaC rfl (fun Kf hKf=>?_)
    go_simp
    refine(CS.out w4).mono ?_
    rintro e w5 ⟨C5,k5,rfl,i5,hb5,_⟩
    have E5:=Zaa (BD.out.trans (hb5.mono BD.out.size))
    have I5:=Zaa i5
    clear i5 hb5
    have d0w5:=(T11.out.keep E5.out).cell 0
    have d2w5:=(T11.out.keep E5.out).cell 2
    have n0w5:=(T5.out.keep E5.out).cell 0
    have n1w5:=(T5.out.keep E5.out).cell 1
    refine hKf.out _ _ ⟨d0w5,d2w5,n0w5,n1w5⟩ (fun hHeld=>?_)
    clear hKf d0w5 d2w5 n0w5 n1w5
    try simp only[Act.put,Zag,Zah,Zai]
    refine ZaC rfl (fun Kf hKf=>?_)
    go_simp
    have CE:=Zaa (Za9 (DW.out.mark.keep E5.out) I5.out)
    rw[HV1.out]at CE
    refine CE.out.mono ?_
    rintro e w6 ⟨rfl,dr⟩
    have hb6:=dr.below
    have E6:=Zaa (E5.out.trans (hb6.mono E5.out.size))
    clear dr hb6 CE
    have d0w6:=(T11.out.keep E6.out).cell 0
    have d2w6:=(T11.out.keep E6.out).cell 2
    have n0w6:=(T5.out.keep E6.out).cell 0
    have n1w6:=(T5.out.keep E6.out).cell 1
    refine hKf.out _ _ ⟨d0w6,d2w6,n0w6,n1w6⟩ (fun hHeld=>?_)
    clear hKf d0w6 d2w6 n0w6 n1w6
    try simp only[Act.put,Zag,Zah,Zai]
    refine Zac (v:=.bool false) rfl (by rfl) hHeld (fun w' hSw=>?_) ?_
    ·(go_simp;try with_reducible rfl)
    try simp only[Act.put,Zag,Zah,Zai]
    refine Zac (v:=.bool false) rfl (by rfl) hHeld (fun w' hSw=>?_) ?_
    ·(go_simp;try with_reducible rfl)
    try simp only[Act.put,Zag,Zah,Zai]
    refine Zac (v:=.bool false) rfl (by rfl) hHeld (fun w' hSw=>?_) ?_
    ·(go_simp;try with_reducible rfl)
    try simp only[Act.put,Zag,Zah,Zai]
    iterate 2
     refine Zac (v:=?_) rfl (by rfl) hHeld (fun w' hSw=>?_) ?_
     rotate_left
     ·(go_simp;try with_reducible rfl)
     try simp only[Act.put,Zag,Zah,Zai]
    refine ZaC rfl (fun Kf hKf=>?_)
    go_simp
    have CC:=Zaa (Zc7 (Sl.keep Zcl.kept DW.out.items E6.out) (Zk8 w6))
    rw[HV2.out]at CC
    refine CC.out.mono ?_
    rintro e w7 ⟨rfl,hb7⟩
    have E7:=Zaa (E6.out.trans (hb7.mono E6.out.size))
    clear hb7 CC
    have d0w7:=(T11.out.keep E7.out).cell 0
    have d2w7:=(T11.out.keep E7.out).cell 2
    have n0w7:=(T5.out.keep E7.out).cell 0
    have n1w7:=(T5.out.keep E7.out).cell 1
    refine hKf.out _ _ ⟨d0w7,d2w7,n0w7,n1w7⟩ (fun hHeld=>?_)
    clear hKf d0w7 d2w7 n0w7 n1w7
    try simp only[Act.put,Zag,Zah,Zai]
    refine Zaz rfl (fun Kf hKf=>?_)
    go_simp
    refine hKf.out _ _ ?_
    clear hKf
    try simp only[Act.put,Zag,Zah,Zai]
    refine ZaH ?_
    clear hHeld
    clear d0 d2 n0 n1 CS
    have W7:=Zaa (D3.out.trans (E7.out.mono D3.out.size))
    have T57:=Zaa (T5.out.keep E7.out)
    have T117:=Zaa (T11.out.keep E7.out)
    have AN7:=Zaa (Sl.keep Zqr.kept AN.out E7.out)
    have O7:=Zaa (Sl.keep Zmq.kept O3.out E7.out)
    have IT7:=Zaa (Sl.keep Zcl.kept DW.out.items E7.out)
    have H7:=Zaa (H3.out.keep E7.out)
    have HM:=Zaa (show(Zd1 ⟨P,ts⟩ roles ⟨(ZaQ ⟨P,ts⟩ i).1,[]⟩ os).1.case_.mark=ZcR (min P 16).toNat o from by rw[HK.out.1];simpa using HV1.out)
    have HSH:=Zaa (show ∀it∈(Zd1 ⟨P,ts⟩ roles ⟨(ZaQ ⟨P,ts⟩ i).1,[]⟩ os).1.items,it.open_=false from fun it hit=>by
     rw[HK.out.1]at hit
     have h1:=HV2.out
     rw[List.any_eq_false]at h1
     have h2:=h1 it hit
     unfold ZrI at h2
     simpa using h2)
    have HL:=Zaa (ZiY (N:=⟨P,ts⟩) (roles:=roles) os ⟨(ZaQ ⟨P,ts⟩ i).1,[]⟩ (Zci.start HB0.out))
    rw[HK.out.1,HK.out.2]at HL
    have HNS:=Zaa (show al.length=na∧os.length=na∧K.items.length=ni∧ts.length=n from⟨AN7.out.len,O7.out.len,IT7.out.len,H7.out.len⟩)
    clear T5 T11 AN O3 DW H3 E5 E6 I5 HV1 HV2 HE HRO BD B3 T52 O2 H2 HB3 H0 G0 O0 hli
    go_wp2
    go_loopg [14,57] na (fun gk s14 s57 wr=>∃(k:Nat) (v:Value) (nv:Nat) (ws:List Int),s14=v∧s57=.int .i64 (k:Nat)∧Hid (k+gk=na∧nv≤k)∧Hid (Zaf wr w7.heap.size v nv ws)∧Hid (ws=((os.zip al).take k).flatMap (wAt ⟨P,ts⟩ K))∧Hid (Below w7.heap.size w7 wr))
    case atStart=>exact⟨0,_,0,[],rfl,rfl,Zaa ⟨by omega,Nat.le_refl _⟩,Zaa Zad.nil,Zaa (by simp),Zaa (Below.refl _ _)⟩
    case round =>
     obtain⟨k,v,nv,ws,rfl,rfl,hgk,OB,HW,DB⟩:=hrel
     have HS2:=Zaa (show nv≤3518437208780 by have:=hgk.out;have:=HS.out;omega)
     obtain⟨AV,cV,rfl,iv⟩:=OB.out.sl (by have:=HS2.out;omega)
     have IV:=Zaa iv
     clear iv
     by_cases hk:k<na
     ·have hki:(k:Int)<(na:Int):=by omega
      obtain⟨bo,oo,op,eO,hbo,hop,c0,c1,c2,c3,c4⟩:=ZrO.at (Sl.keep Zmq.kept O7.out DB.out) hk
      obtain⟨ba,oa,an,eA,hba,han,a0,a1⟩:=ZrJ.at (Sl.keep Zqr.kept AN7.out DB.out) hk
      subst eO eA
      have HJ:=Zaa (show gk-1<gk∧(k+1)+(gk-1)=na∧nv+1≤k+1∧nv≤k+1 by have:=hgk.out;omega)
      have hwk:IntKind.i64.wrap ((k:Int)+1)=((k+1:Nat):Int):=by
       have:=HS.out
       simp[IntKind.wrap,IntKind.bits,IntKind.signed];omega
      have HZ:=Zaa (show(os.zip al)[k]?=some (op,an) by rw[List.getElem?_zip_eq_some];exact⟨hop.out,han.out⟩)
      have TK:=Zaa (show((os.zip al).take (k+1)).flatMap (wAt ⟨P,ts⟩ K)=((os.zip al).take k).flatMap (wAt ⟨P,ts⟩ K)++wAt ⟨P,ts⟩ K (op,an) by rw[List.take_add_one,HZ.out,List.flatMap_append];simp)
      have HF:=Zaa (HL.out.2 (op,an) (List.mem_of_getElem? HZ.out))
      have BA:=Zaa (Zab wr (.cells #[.int .i64 op.kind,.int .i64 op.user,.int .i64 op.tran,.int .i64 op.item,.int .i64 op.to_] 45))
      have T16:=Zaa (Box.new wr #[.int .i64 op.kind,.int .i64 op.user,.int .i64 op.tran,.int .i64 op.item,.int .i64 op.to_] 45)
      have a0':=(BA.out.cell (p:=⟨ba,oa+k*2,none⟩) hba).trans a0
      have DA:=Zaa (DB.out.trans (BA.out.mono DB.out.size))
      have OBA:=Zaa (Zad.keep ZcE.kept OB.out BA.out)
      have NE16:=Zaa (show(Value.slice AV nv cV).ownBlock≠some wr.heap.size from fun e=>by have:=(OB.out.lt _ e).2;omega)
      clear hop han hbo hba hk
      go_upto_region 10 with fail
      clear c0 c1 c2 c3 c4 a0 a1
      generalize hwA:wr.alloc (.cells #[.int .i64 op.kind,.int .i64 op.user,.int .i64 op.tran,.int .i64 op.item,.int .i64 op.to_] 45)=wA at *
      clear hwA
      generalize hb16:wr.heap.size=b16 at T16 NE16
      clear hb16
      have o0:=T16.out.cell 0
      obtain⟨ae,hae⟩:∃x,x=an.1:=⟨_,rfl⟩
      rw[←hae]at a0'
      have HAE:=Zaa hae
      obtain⟨kd,hkd⟩:∃x,x=op.kind:=⟨_,rfl⟩
      have HKD:=Zaa hkd
      simp only[List.getElem?_toArray,List.getElem?_cons_zero]at o0
      rw[←hkd]at o0
      clear hae hkd
      by_cases h1:ae=0
      ·have h1i:(ae != 0)=false:=by simp[h1]
       by_cases h2:kd=2
       ·have h2i:(kd != 2)=false:=by simp[h2]
        obtain⟨⟨hj0,hj1⟩,hq0⟩:=HF.out (HAE.out.symm.trans h1) (HKD.out.symm.trans h2)
        simp only at hj0 hj1 hq0
        obtain⟨j,hj⟩:∃j:Nat,op.item=(j:Int):=⟨op.item.toNat,by omega⟩
        have hjn:j<ni:=by have:=HNS.out.2.2.1;omega
        obtain⟨bi,oi,it,eI,hbi,hit,i0,it1,i2⟩:=Zir.get IT7.out hjn
        subst eI
        have hitd:K.items.getD op.item.toNat default=it:=by
         rw[hj,Int.toNat_natCast,List.getD_eq_getElem?_getD,hit.out];rfl
        rw[hitd]at hq0
        obtain⟨qn,hqn⟩:∃q:Nat,it.tran=(q:Int):=⟨it.tran.toNat,by have:=hq0.1;omega⟩
        have hqlt:qn<n:=by have h3:=hq0.2;rw[hqn]at h3;have:=HNS.out.2.2.2;simp only at h3;omega
        obtain⟨bt,ot,T,vs,eT,hbt,hT,hc,hr⟩:=Sl.get H7.out hqlt
        subst eT
        have lbw:w7.cell? ⟨bt,ot+qn*3,none⟩=some (.int .i64 T.label):=by rw[←hr.1];exact hc 0 (by omega)
        have HWA:=Zaa (show wAt ⟨P,ts⟩ K (op,an)=[T.label] by
         unfold wAt
         rw[if_pos ⟨HAE.out.symm.trans h1,HKD.out.symm.trans h2⟩]
         simp only
         rw[hitd,hqn]
         unfold Zcj
         rw[Int.toNat_natCast,List.getD_eq_getElem?_getD,show ts[qn]?=some T from hT]
         rfl)
        rw[hqn]at it1
        have it1w:=it1
        have IT1W:=Zaa it1
        have LBW:=Zaa lbw
        have HJI:=Zaa hj
        have LTB:=Zaa (show bi<w7.heap.size∧bt<w7.heap.size from⟨hbi,hbt⟩)
        have LTG0:=Zaa (show b11<w7.heap.size∧b5<w7.heap.size from⟨T117.out.lt,T57.out.lt⟩)
        have it1:=(DA.out.cell (p:=⟨bi,oi+j*3+1,none⟩) hbi).trans it1w
        have lb1:=(DA.out.cell (p:=⟨bt,ot+qn*3,none⟩) hbt).trans lbw
        have d2:=(T117.out.keep DA.out).cell 2
        have n1:=(T57.out.keep DA.out).cell 1
        have o3:=T16.out.cell 3
        simp only[List.getElem?_toArray,List.getElem?_cons_succ,List.getElem?_cons_zero]at o3
        rw[hj]at o3
        have hj0i:¬(j:Int)<0:=by omega
        have hj0j:0≤(j:Int):=by omega
        have hjni:(j:Int)<(ni:Int):=by omega
        have hq0i:¬(qn:Int)<0:=by omega
        have hq0j:0≤(qn:Int):=by omega
        have hqni:(qn:Int)<(n:Int):=by omega
        clear hj0 hj1 hq0 hbi hit i0 i2 hitd hbt hT hc hr h1 h2 hj hqn it1w lbw
        have BAD:=Zaa ((Below.refl wA.heap.size wA).drew)
        have DAD:=Zaa (DA.out.trans (BAD.out.mono DA.out.size))
        have T16D:=Zaa (T16.out.keep BAD.out)
        have OBD:=Zaa (Zad.keep ZcE.kept OBA.out BAD.out)
        go_wp2_with fail
        clear o0 a0'
        refine Zae 33 (.takes [0,1,2,3,4,5,6,7,8,9,10,11,12,13,14,15,16,17,18,19,20,21,22,23,24,25,26,27,28,29,30,31,32] (.fin 33 .done)) (fun w'=>w'.cell? ⟨b16,3,none⟩=some (.int .i64 (j:Int))∧w'.cell? ⟨b11,2,none⟩=some (.slice (some ⟨bi,oi,none⟩) ni ci)∧w'.cell? ⟨bi,oi+j*3+1,none⟩=some (.int .i64 (qn:Int))∧w'.cell? ⟨b5,1,none⟩=some (.slice (some ⟨bt,ot,none⟩) n c)) (by kernel_rfl) (by kernel_rfl) (by kernel_rfl) (fun _ _ _ _ _ h=>h) ⟨o3,d2,it1,n1⟩ (fun hHeld=>?_)
        simp only[Scr.takes]
        generalize wA.drew=wD at *
        iterate 2
         refine Zac (v:=?_) rfl (by rfl) hHeld (fun w' hSw=>?_) ?_
         rotate_left
         ·(go_simp;try with_reducible rfl)
         try simp only[Act.put,Zag,Zah,Zai]
        refine Zac (v:=.bool false) rfl (by rfl) hHeld (fun w' hSw=>?_) ?_
        ·(go_simp;try with_reducible rfl)
        try simp only[Act.put,Zag,Zah,Zai]
        refine Zac (v:=.bool false) rfl (by rfl) hHeld (fun w' hSw=>?_) ?_
        ·(go_simp;try with_reducible rfl)
        try simp only[Act.put,Zag,Zah,Zai]
        iterate 5
         refine Zac (v:=?_) rfl (by rfl) hHeld (fun w' hSw=>?_) ?_
         rotate_left
         ·(go_simp;try with_reducible rfl)
         try simp only[Act.put,Zag,Zah,Zai]
        refine Zac (v:=.bool false) rfl (by rfl) hHeld (fun w' hSw=>?_) ?_
        ·(go_simp;try with_reducible rfl)
        try simp only[Act.put,Zag,Zah,Zai]
        refine Zac (v:=.bool false) rfl (by rfl) hHeld (fun w' hSw=>?_) ?_
        ·(go_simp;try with_reducible rfl)
        try simp only[Act.put,Zag,Zah,Zai]
        refine Zac (v:=.bool false) rfl (by rfl) hHeld (fun w' hSw=>?_) ?_
        ·(go_simp;try with_reducible rfl)
        try simp only[Act.put,Zag,Zah,Zai]
        iterate 7
         refine Zac (v:=?_) rfl (by rfl) hHeld (fun w' hSw=>?_) ?_
         rotate_left
         ·(go_simp;try with_reducible rfl)
         try simp only[Act.put,Zag,Zah,Zai]
        refine Zac (v:=.bool false) rfl (by rfl) hHeld (fun w' hSw=>?_) ?_
        ·(go_simp;try with_reducible rfl)
        try simp only[Act.put,Zag,Zah,Zai]
        refine Zac (v:=.bool false) rfl (by rfl) hHeld (fun w' hSw=>?_) ?_
        ·(go_simp;try with_reducible rfl)
        try simp only[Act.put,Zag,Zah,Zai]
        refine Zac (v:=.bool false) rfl (by rfl) hHeld (fun w' hSw=>?_) ?_
        ·(go_simp;try with_reducible rfl)
        try simp only[Act.put,Zag,Zah,Zai]
        iterate 10
         refine Zac (v:=?_) rfl (by rfl) hHeld (fun w' hSw=>?_) ?_
         rotate_left
         ·(go_simp;try with_reducible rfl)
         try simp only[Act.put,Zag,Zah,Zai]
        refine Zac (v:=.bool false) rfl (by rfl) hHeld (fun w' hSw=>?_) ?_
        ·(go_simp;try with_reducible rfl)
        try simp only[Act.put,Zag,Zah,Zai]
        refine Zaz rfl (fun Kf hKf=>?_)
        go_simp
        refine hKf.out _ _ ?_
        clear hKf
        try simp only[Act.put,Zag,Zah,Zai]
        refine ZaH ?_
        clear hHeld
        clear o3 d2 it1 n1 lb1
        go_wp2_with fail
        have BDD:=Zaa ((Below.refl wD.heap.size wD).drew)
        have DBG:=Zaa (DAD.out.trans (BDD.out.mono DAD.out.size))
        have TG16:=Zaa (T16D.out.keep BDD.out)
        have OBG:=Zaa (Zad.keep ZcE.kept OBD.out BDD.out)
        have LTG:=Zaa (show b11<wD.drew.heap.size∧bi<wD.drew.heap.size∧b5<wD.drew.heap.size∧bt<wD.drew.heap.size from⟨Nat.lt_of_lt_of_le LTG0.out.1 DBG.out.size,Nat.lt_of_lt_of_le LTB.out.1 DBG.out.size,Nat.lt_of_lt_of_le LTG0.out.2 DBG.out.size,Nat.lt_of_lt_of_le LTB.out.2 DBG.out.size⟩)
        have it1:=(DAD.out.cell (p:=⟨bi,oi+j*3+1,none⟩) LTB.out.1).trans IT1W.out
        have lb1:=(DAD.out.cell (p:=⟨bt,ot+qn*3,none⟩) LTB.out.2).trans LBW.out
        have d2:=(T117.out.keep DAD.out).cell 2
        have n1:=(T57.out.keep DAD.out).cell 1
        have o3:=T16D.out.cell 3
        simp only[List.getElem?_toArray,List.getElem?_cons_succ,List.getElem?_cons_zero]at o3
        rw[HJI.out]at o3
        refine Zae 15 (.takes [0,1,2,3,4,5,6,7,8,9,10,11,12] (.one 13 (.one 14 (.fin 15 .done)))) (fun w'=>w'.cell? ⟨b16,3,none⟩=some (.int .i64 (j:Int))∧w'.cell? ⟨b11,2,none⟩=some (.slice (some ⟨bi,oi,none⟩) ni ci)∧w'.cell? ⟨bi,oi+j*3+1,none⟩=some (.int .i64 (qn:Int))∧w'.cell? ⟨b5,1,none⟩=some (.slice (some ⟨bt,ot,none⟩) n c)∧w'.cell? ⟨bt,ot+qn*3,none⟩=some (.int .i64 T.label)) (by kernel_rfl) (by kernel_rfl) (by kernel_rfl) (fun _ _ _ _ _ h=>h) ⟨o3,d2,it1,n1,lb1⟩ (fun hHeld=>?_)
        simp only[Scr.takes]
        generalize wD.drew=wG at *
        iterate 13
         refine Zac (v:=?_) rfl (by rfl) hHeld (fun w' hSw=>?_) ?_
         rotate_left
         ·(go_simp;try with_reducible rfl)
         try simp only[Act.put,Zag,Zah,Zai]
        refine ZaC rfl (fun Kf hKf=>?_)
        go_simp
        have bbE:=Zab wG (.cells #[.int .i64 T.label] 3)
        refine hKf.out _ _ ⟨(bbE.cell (p:=⟨b16,3,none⟩) TG16.out.lt).trans hHeld.1,(bbE.cell (p:=⟨b11,2,none⟩) LTG.out.1).trans hHeld.2.1,(bbE.cell (p:=⟨bi,oi+j*3+1,none⟩) LTG.out.2.1).trans hHeld.2.2.1,(bbE.cell (p:=⟨b5,1,none⟩) LTG.out.2.2.1).trans hHeld.2.2.2.1,(bbE.cell (p:=⟨bt,ot+qn*3,none⟩) LTG.out.2.2.2).trans hHeld.2.2.2.2⟩ (fun hHeld=>?_)
        clear hKf bbE
        try simp only[Act.put,Zag,Zah,Zai]
        refine ZaC rfl (fun Kf hKf=>?_)
        have hnv:nv≤3518437208780:=HS2.out
        refine ZdP Zdc rfl (.tmp 107) (.tmp 120) rfl [T.label] #[.int .i64 T.label] rfl rfl (by first|rfl|simp) rfl rfl (by omega) (by simp[Value.oneCell']) OBG.out (Zax.one (vs:=fun _=>.int .i64 T.label) rfl rfl (fun j hj=>by obtain rfl:j=0:=(by omega);rfl)) rfl DBG.out DBG.out.size (by omega) (by omega) (fun _ _ _ _ h=>h) ?_
        intro g8 cap8 w8 own8 hg8 hb8 hB8 hl8
        have O8:=Zaa own8
        have D8:=Zaa hb8
        have e3:=(TG16.out.grown hg8 NE16.out).cell 3
        simp only[List.getElem?_toArray,List.getElem?_cons_succ,List.getElem?_cons_zero]at e3
        rw[HJI.out]at e3
        have e2:=((T117.out.keep hb8)).cell 2
        have e1:=(hb8.cell (p:=⟨bi,oi+j*3+1,none⟩) LTB.out.1).trans IT1W.out
        have e5:=(T57.out.keep hb8).cell 1
        have e6:=(hb8.cell (p:=⟨bt,ot+qn*3,none⟩) LTB.out.2).trans LBW.out
        clear own8 hg8 hb8 hB8 hl8
        refine hKf.out _ _ ⟨e3,e2,e1,e5,e6⟩ (fun hHeld=>?_)
        clear hKf
        try simp only[Act.put,Zag,Zah,Zai]
        refine Zaz rfl (fun Kf hKf=>?_)
        go_simp
        refine hKf.out _ _ ?_
        clear hKf
        try simp only[Act.put,Zag,Zah,Zai]
        refine ZaH ?_
        clear hHeld
        go_wp2
        go_roundg (gk-1)
        case measure=>exact HJ.out.1
        case rel=>exact⟨k+1,_,nv+1,ws++[T.label],rfl,rfl,Zaa ⟨HJ.out.2.1,HJ.out.2.2.1⟩,O8,Zaa (by rw[TK.out,HWA.out,HW.out]),D8⟩
       ·have h2i:(kd != 2)=true:=by simp[h2]
        have HWA:=Zaa (show wAt ⟨P,ts⟩ K (op,an)=[] by unfold wAt;rw[if_neg (fun h=>h2 (HKD.out.trans h.2))])
        clear h1 h2
        go_wp2
        go_roundg (gk-1)
        case measure=>exact HJ.out.1
        case rel=>exact⟨k+1,_,nv,ws,rfl,rfl,Zaa ⟨HJ.out.2.1,HJ.out.2.2.2⟩,OBA,Zaa (by rw[TK.out,HWA.out,List.append_nil];exact HW.out),DA⟩
      ·have h1i:(ae != 0)=true:=by simp[h1]
       have HWA:=Zaa (show wAt ⟨P,ts⟩ K (op,an)=[] by unfold wAt;rw[if_neg (fun h=>h1 (HAE.out.trans h.1))])
       clear h1
       go_wp2
       go_roundg (gk-1)
       case measure=>exact HJ.out.1
       case rel=>exact⟨k+1,_,nv,ws,rfl,rfl,Zaa ⟨HJ.out.2.1,HJ.out.2.2.2⟩,OBA,Zaa (by rw[TK.out,HWA.out,List.append_nil];exact HW.out),DA⟩
     ·have hki:¬(k:Int)<(na:Int):=by omega
      have HWF:=Zaa (show ws=ZgF ⟨P,ts⟩ roles ⟨(ZaQ ⟨P,ts⟩ i).1,[]⟩ os by
       rw[HL.out.1,HW.out,List.take_of_length_le (by rw[List.length_zip];have:=HNS.out;omega)])
      have HNV:=Zaa (show ws.length=nv from OB.out.len)
      clear hk
      by_cases hl:60<nv
      ·have hli2:(60:Int)<(nv:Int):=by omega
       go_wp2
       go_ret
       exact⟨rfl,W7.out.trans (DB.out.mono W7.out.size)⟩
      ·have hli2:¬(60:Int)<(nv:Int):=by omega
       have CL:=Zaa (ZhU (P:=P) i o (H7.out.keep DB.out) HN.out IV.out)
       have n0:=(T57.out.keep DB.out).cell 0
       have n1:=(T57.out.keep DB.out).cell 1
       have HLE:=Zaa (show ws.length≤60 by rw[HNV.out];omega)
       clear hl
       go_wp2_with fail
       refine CL.out.mono ?_
       rintro e w9 ⟨Aq,nq,cq,cst,kk,rfl,hcp,_,hb9⟩
       have W9:=Zaa (W7.out.trans ((DB.out.trans (hb9.mono DB.out.size)).mono W7.out.size))
       have LAW:=Zaa (ZrC HB0.out HM.out HSH.out (by rw[←HWF.out];exact HLE.out) (show Zfr ⟨P,ts⟩ i o (ZgF ⟨P,ts⟩ roles ⟨(ZaQ ⟨P,ts⟩ i).1,[]⟩ os) cst kk by rw[←HWF.out];exact hcp))
       clear hcp hb9 CL n0 n1
       by_cases hk0:kk=0
       ·have hc0:cst=0:=LAW.out.resolve_left (fun h=>h hk0)
        have hki1:(kk != 0)=false:=by simp[hk0]
        have hki2:(cst==0)=true:=by simp[hc0]
        clear hk0 hc0
        go_wp2
        go_ret
        exact⟨rfl,W9.out⟩
       ·have hki1:(kk != 0)=true:=by simp[hk0]
        clear hk0
        go_wp2
        go_ret
        exact⟨rfl,W9.out⟩
   ·refine Zae 23 (.takes [0,1,2,3,4,5,6,7,8,9,10,11,12,13,14] (.one 15 (.one 16 (.takes [17,18,19,20,21] (.one 22 (.fin 23 .done)))))) (fun w'=>w'.cell? ⟨b11,0,none⟩=some (.slice B m d)∧w'.cell? ⟨b11,2,none⟩=some (.slice I ni ci)∧w'.cell? ⟨b5,0,none⟩=some (.int .i64 P)∧w'.cell? ⟨b5,1,none⟩=some (.slice A n c)) (by kernel_rfl) (by kernel_rfl) (by kernel_rfl) (fun _ _ _ _ _ h=>h) ⟨d0,d2,n0,n1⟩ (fun hHeld=>?_)
    simp only[Scr.takes]
    generalize w3.drew=w4 at *
    iterate 1
     refine Zac (v:=?_) rfl (by rfl) hHeld (fun w' hSw=>?_) ?_
     rotate_left
     ·(go_simp;try with_reducible rfl)
     try simp only[Act.put,Zag,Zah,Zai]
    refine Zac (v:=.bool false) rfl (by rfl) hHeld (fun w' hSw=>?_) ?_
    ·(go_simp;try with_reducible rfl)
    try simp only[Act.put,Zag,Zah,Zai]
    refine Zac (v:=.bool false) rfl (by rfl) hHeld (fun w' hSw=>?_) ?_
    ·(go_simp;try with_reducible rfl)
    try simp only[Act.put,Zag,Zah,Zai]
    iterate 4
     refine Zac (v:=?_) rfl (by rfl) hHeld (fun w' hSw=>?_) ?_
     rotate_left
     ·(go_simp;try with_reducible rfl)
     try simp only[Act.put,Zag,Zah,Zai]
    refine Zac (v:=.bool false) rfl (by rfl) hHeld (fun w' hSw=>?_) ?_
    ·(go_simp;try with_reducible rfl)
    try simp only[Act.put,Zag,Zah,Zai]
    refine Zac (v:=.bool false) rfl (by rfl) hHeld (fun w' hSw=>?_) ?_
    ·(go_simp;try with_reducible rfl)
    try simp only[Act.put,Zag,Zah,Zai]
    refine Zac (v:=.bool false) rfl (by rfl) hHeld (fun w' hSw=>?_) ?_
    ·(go_simp;try with_reducible rfl)
    try simp only[Act.put,Zag,Zah,Zai]
    iterate 5
     refine Zac (v:=?_) rfl (by rfl) hHeld (fun w' hSw=>?_) ?_
     rotate_left
     ·(go_simp;try with_reducible rfl)
     try simp only[Act.put,Zag,Zah,Zai]
    refine ZaC rfl (fun Kf hKf=>?_)
    go_simp
    refine(CS.out w4).mono ?_
    rintro e w5 ⟨C5,k5,rfl,i5,hb5,_⟩
    have E5:=Zaa (BD.out.trans (hb5.mono BD.out.size))
    have I5:=Zaa i5
    clear i5 hb5
    have d0w5:=(T11.out.keep E5.out).cell 0
    have d2w5:=(T11.out.keep E5.out).cell 2
    have n0w5:=(T5.out.keep E5.out).cell 0
    have n1w5:=(T5.out.keep E5.out).cell 1
    refine hKf.out _ _ ⟨d0w5,d2w5,n0w5,n1w5⟩ (fun hHeld=>?_)
    clear hKf d0w5 d2w5 n0w5 n1w5
    try simp only[Act.put,Zag,Zah,Zai]
    refine ZaC rfl (fun Kf hKf=>?_)
    go_simp
    have CE:=Zaa (Za9 (DW.out.mark.keep E5.out) I5.out)
    rw[HV1.out]at CE
    refine CE.out.mono ?_
    rintro e w6 ⟨rfl,dr⟩
    have hb6:=dr.below
    have E6:=Zaa (E5.out.trans (hb6.mono E5.out.size))
    clear dr hb6 CE
    have d0w6:=(T11.out.keep E6.out).cell 0
    have d2w6:=(T11.out.keep E6.out).cell 2
    have n0w6:=(T5.out.keep E6.out).cell 0
    have n1w6:=(T5.out.keep E6.out).cell 1
    refine hKf.out _ _ ⟨d0w6,d2w6,n0w6,n1w6⟩ (fun hHeld=>?_)
    clear hKf d0w6 d2w6 n0w6 n1w6
    try simp only[Act.put,Zag,Zah,Zai]
    refine Zac (v:=.bool false) rfl (by rfl) hHeld (fun w' hSw=>?_) ?_
    ·(go_simp;try with_reducible rfl)
    try simp only[Act.put,Zag,Zah,Zai]
    refine Zac (v:=.bool false) rfl (by rfl) hHeld (fun w' hSw=>?_) ?_
    ·(go_simp;try with_reducible rfl)
    try simp only[Act.put,Zag,Zah,Zai]
    refine Zac (v:=.bool false) rfl (by rfl) hHeld (fun w' hSw=>?_) ?_
    ·(go_simp;try with_reducible rfl)
    try simp only[Act.put,Zag,Zah,Zai]
    iterate 2
     refine Zac (v:=?_) rfl (by rfl) hHeld (fun w' hSw=>?_) ?_
     rotate_left
     ·(go_simp;try with_reducible rfl)
     try simp only[Act.put,Zag,Zah,Zai]
    refine ZaC rfl (fun Kf hKf=>?_)
    go_simp
    have CC:=Zaa (Zc7 (Sl.keep Zcl.kept DW.out.items E6.out) (Zk8 w6))
    rw[HV2.out]at CC
    refine CC.out.mono ?_
    rintro e w7 ⟨rfl,hb7⟩
    have E7:=Zaa (E6.out.trans (hb7.mono E6.out.size))
    clear hb7 CC
    have d0w7:=(T11.out.keep E7.out).cell 0
    have d2w7:=(T11.out.keep E7.out).cell 2
    have n0w7:=(T5.out.keep E7.out).cell 0
    have n1w7:=(T5.out.keep E7.out).cell 1
    refine hKf.out _ _ ⟨d0w7,d2w7,n0w7,n1w7⟩ (fun hHeld=>?_)
    clear hKf d0w7 d2w7 n0w7 n1w7
    try simp only[Act.put,Zag,Zah,Zai]
    refine Zaz rfl (fun Kf hKf=>?_)
    go_simp
    refine hKf.out _ _ ?_
    clear hKf
    try simp only[Act.put,Zag,Zah,Zai]
    refine ZaH ?_
    clear hHeld
    go_wp2
    go_ret
    exact⟨rfl,(D3.out.trans (E7.out.mono D3.out.size))⟩
 ·have hei:(er != 0)=true:=by simp[he]
  clear he
  refine Zae 23 (.takes [0,1,2,3,4,5,6,7,8,9,10,11,12,13,14,15,16,17,18,19,20,21,22] (.fin 23 .done)) (fun w'=>w'.cell? ⟨b11,0,none⟩=some (.slice B m d)∧w'.cell? ⟨b11,2,none⟩=some (.slice I ni ci)∧w'.cell? ⟨b5,0,none⟩=some (.int .i64 P)∧w'.cell? ⟨b5,1,none⟩=some (.slice A n c)) (by kernel_rfl) (by kernel_rfl) (by kernel_rfl) (fun _ _ _ _ _ h=>h) ⟨d0,d2,n0,n1⟩ (fun hHeld=>?_)
  simp only[Scr.takes]
  generalize w3.drew=w4 at *
  iterate 1
   refine Zac (v:=?_) rfl (by rfl) hHeld (fun w' hSw=>?_) ?_
   rotate_left
   ·(go_simp;try with_reducible rfl)
   try simp only[Act.put,Zag,Zah,Zai]
  refine Zac (v:=.bool true) rfl (by rfl) hHeld (fun w' hSw=>?_) ?_
  ·(go_simp;try with_reducible rfl)
  try simp only[Act.put,Zag,Zah,Zai]
  refine Zac (v:=.bool true) rfl (by rfl) hHeld (fun w' hSw=>?_) ?_
  ·(go_simp;try with_reducible rfl)
  try simp only[Act.put,Zag,Zah,Zai]
  iterate 5
   refine Zf5 rfl (by rfl) hHeld ?_
   try simp only[Act.put,Zag,Zah,Zai]
  refine Zac (v:=.bool true) rfl (by rfl) hHeld (fun w' hSw=>?_) ?_
  ·(go_simp;try with_reducible rfl)
  try simp only[Act.put,Zag,Zah,Zai]
  refine Zac (v:=.bool true) rfl (by rfl) hHeld (fun w' hSw=>?_) ?_
  ·(go_simp;try with_reducible rfl)
  try simp only[Act.put,Zag,Zah,Zai]
  iterate 8
   refine Zf5 rfl (by rfl) hHeld ?_
   try simp only[Act.put,Zag,Zah,Zai]
  refine Zac (v:=.bool true) rfl (by rfl) hHeld (fun w' hSw=>?_) ?_
  ·(go_simp;try with_reducible rfl)
  try simp only[Act.put,Zag,Zah,Zai]
  refine Zac (v:=.bool true) rfl (by rfl) hHeld (fun w' hSw=>?_) ?_
  ·(go_simp;try with_reducible rfl)
  try simp only[Act.put,Zag,Zah,Zai]
  iterate 3
   refine Zf5 rfl (by rfl) hHeld ?_
   try simp only[Act.put,Zag,Zah,Zai]
  refine Zaz rfl (fun Kf hKf=>?_)
  go_simp
  refine hKf.out _ _ ?_
  clear hKf
  try simp only[Act.put,Zag,Zah,Zai]
  refine ZaH ?_
  clear hHeld
  go_wp2
  go_ret
  exact⟨rfl,(D3.out.trans (BD.out.mono D3.out.size))⟩
theorem Zk9 {w:World}(P:Int){A R O:Option Addr}{n c r q s so:Nat}{ts:List Zak}{roles:List (List Int)}{os:List POp}(h:ZaP w A n c ts)(hn:n≤2513169434916)(i:Int)(_:(Lit.int .i64 i).wf=true)(o:Int)(_:(Lit.int .i64 o).wf=true)(g:ZaS w R r q roles)(_:r≤5864062014634)(x:ZrO w O s so os)(hs:s≤3518437208780) :
  Calls Tryz.prog 3 #[.agg #[.int .i64 P,.slice A n c],.int .i64 i,.int .i64 o,.slice R r q,.slice O s so] w fun e w'=>e=.returned (.bool true)∧Below w.heap.size w w':=ZjJ i o h hn g x hs
end Go.Proofs.YtfmnagcglhlicaaGreat
