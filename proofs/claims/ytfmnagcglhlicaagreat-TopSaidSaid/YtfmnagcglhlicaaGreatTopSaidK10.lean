/- Texts melted into one: The contracts of the library's Index and Contains on integers. Conditions: the slices read as lists. | IndexFunc on lists of lists, and the test of Path. Conditions: the slice reads as a list of lists. | The contract of Reverse on an own row of numbers. Conditions: the row is  -/
import Derived.Test.YtfmnagcglhlicaaGreatTopSaidK09
set_option maxRecDepth 100000
namespace Go.Proofs.YtfmnagcglhlicaaGreat
open Go.RowKit
theorem Zie {w:World}{A:Option Addr}{n c:Nat}{xs:List Int}(x:Int)(h:Zam w A n c xs) :
  Calls Tryz.prog 188 #[.slice A n c,.int .i64 x] w fun e w'=>e=.returned (.int .i64 (ZaT (fun y=>x==y) xs))∧w=w':=by
 have hn:=h.small
 have H:=Zaa h
 clear h
 go_enter Tryz.func188,Tryz.ntmps188
 go_wp2
 go_loop [8] (fun v=>∃k:Nat,k≤n∧v=.int .i64 k∧Hid (∀j,j<k→∀y,xs[j]?=some y→(x==y)=false)) (fun v=>n-(intOf v).toNat)
 case atStart=>exact⟨0,Nat.zero_le _,rfl,fun j hj=>absurd hj (by omega)⟩
 case round =>
  obtain⟨k,hk,rfl,lo⟩:=hrel
  by_cases hlt:k<n
  ·have hki:(k:Int)<(n:Int):=by omega
   obtain⟨b,off,y,rfl,hb,hy,qy⟩:=Zam.get H.out hlt
   by_cases he:x=y
   ·subst he
    go_wp2
    go_ret
    exact⟨Zap (ZaW lo.out hy.out (by simp)).symm,rfl⟩
   ·have hne:(x==y)=false:=by simpa using he
    have HN:=Zaa hne
    clear he
    go_wp2
    go_round
    case rel =>
     refine⟨k+1,by omega,by go_num,fun j hj z hz=>?_⟩
     by_cases hjk:j=k
     ·subst hjk
      have:=hy.out
      rw[hz]at this
      injection this with this
      rw[this]
      exact HN.out
     ·exact lo.out j (by omega) z hz
    case measure=>simp[intOf];omega
  ·go_wp2
   go_ret
   exact⟨Zap (ZaX (fun j hj z hz=>lo.out j (by have:=H.out.len;omega) z hz)).symm,rfl⟩
theorem ZbT {w:World}{A:Option Addr}{n c:Nat}{xs:List Int}(x:Int)(h:Zam w A n c xs) :
  Calls Tryz.prog 143 #[.slice A n c,.int .i64 x] w fun e w'=>e=.returned (.bool (xs.any fun y=>x==y))∧w=w':=by
 have H:=Zaa h
 clear h
 go_enter Tryz.func143,Tryz.ntmps143
 go_wp2_with (refine(Zie x H.out).mono ?_;rintro e w' ⟨rfl,rfl⟩)
 go_ret
 exact⟨Zav (Zb7 _ _),rfl⟩
structure Zi8 (F:FuncId)(cap:Array Value)(w:World)(p:List Int→Bool):Prop where
 enters:∀args w,(callFunc F args).run Tryz.prog w=.ok (.enter F args) w
 calls:∀(wr:World) (A:Option Addr) (n c:Nat) (y:List Int),Below w.heap.size w wr→Zam wr A n c y →
  Calls Tryz.prog F (#[.slice A n c]++cap) wr fun e w'=>e=.returned (.bool (p y))∧Below wr.heap.size wr w'
theorem ZgK {w:World}{A:Option Addr}{n c:Nat}{ms:List (List Int)}{F:FuncId}{cap:Array Value}{p:List Int→Bool}(h:ZaS w A n c ms)(hp:Zi8 F cap w p) :
  Calls Tryz.prog 26 #[.slice A n c,.func (.func F) #[] cap] w fun e w'=>e=.returned (.int .i64 (ZaT p ms))∧Below w.heap.size w w':=by
 have hn:=h.small
 have henter:=hp.enters
 have H:=Zaa h
 have HP:=Zaa hp
 clear h hp
 go_enter Tryz.func26,Tryz.ntmps26
 go_wp2
 go_loopw [8] (fun i wr=>∃k:Nat,k≤n∧i=.int .i64 k∧Hid (∀j,j<k→∀y,ms[j]?=some y→p y=false)∧Hid (Below w.heap.size w wr)) (fun i _=>n-(intOf i).toNat)
 case atStart=>exact⟨0,Nat.zero_le _,rfl,fun j hj=>absurd hj (by omega),Below.refl _ _⟩
 case round =>
  obtain⟨k,hk,rfl,hlow,D⟩:=hrel
  by_cases hlt:k<n
  ·have hki:(k:Int)<(n:Int):=by omega
   obtain⟨b,off,t,vs,rfl,hb,ht,hc,A1,n1,c1,e1,i1,hn1⟩:=Sl.get (Sl.keep ZaL.kept H.out D.out) hlt
   have q0:wr.cell? ⟨b,off+k,none⟩=some (.slice A1 n1 c1):=by have:=hc 0 (by omega);rw[e1]at this;simpa using this
   have CL:=Zaa (HP.out.calls wr A1 n1 c1 t D.out i1)
   have HT:=Zaa ht
   obtain⟨v,hv⟩:∃v,p t=v:=⟨_,rfl⟩
   have HV:=Zaa hv
   rw[hv]at CL
   clear hv hc e1 i1 ht
   cases v
   ·go_wp2_with (refine CL.out.mono ?_;rintro e w' ⟨rfl,hb'⟩;have HB:=Zaa hb';clear hb')
    go_roundw
    case rel =>
     refine⟨k+1,by omega,by go_num,fun j hj y hy=>?_,D.out.trans (HB.out.mono D.out.size)⟩
     by_cases hjk:j=k
     ·subst hjk
      have:=HT.out
      rw[hy]at this
      injection this with this
      rw[this]
      exact HV.out
     ·exact hlow.out j (by omega) y hy
    case measure=>simp[intOf];omega
   ·go_wp2_with (refine CL.out.mono ?_;rintro e w' ⟨rfl,hb'⟩;have HB:=Zaa hb';clear hb')
    go_ret
    exact⟨Zap (ZaW hlow.out HT.out HV.out).symm,D.out.trans (HB.out.mono D.out.size)⟩
  ·go_wp2
   go_ret
   exact⟨Zap (ZaX (fun j hj y hy=>hlow.out j (by have:=H.out.len;omega) y hy)).symm,D.out⟩
section
variable {w w':World} {B B2 g n cap:Nat} {L:List (List Int)}
abbrev ZtJ (w:World)(B B2:Nat)(v:Value)(n:Nat)(L:List (List Int)):Prop:=Zad (ZaY B) 1 w B2 28 v n L
theorem ZtJ.lists {v:Value}(h:ZtJ w B B2 v n L)(hn:n≤5864062014805):∃A c,v=.slice A n c∧ZaS w A n c L:=by
 obtain⟨A,c,rfl,s⟩:=h.sl (by omega)
 exact⟨A,c,rfl,s.len,s.le,s.cap,s.small,s.nul,fun hn=>by
  obtain⟨b,off,e,hb,hx⟩:=s.cells hn
  exact⟨b,off,e,hb,fun i x hi=>by obtain⟨vs,a,r⟩:=hx i x hi;exact⟨vs,a,r.list⟩⟩⟩
end
theorem Zdl (g:Nat):∀(vs:List Value) (o:Nat) (w:World),w.grownBy (w.setCells g o vs) (some g)
 | [],o,w=>World.grownBy.refl _ _
 | v::r,o,w=>(show w.grownBy (w.setCell ⟨g,o,none⟩ v) (some g)from⟨rfl,rfl,rfl,by simp[World.setCell],fun k _ hne=>heap_setCell_other _ _ _ _ (fun e=>hne (by rw[e]))⟩).trans (Zdl g r (o+1) _)
theorem ZcA {w w':World}(hb:Below w.heap.size w w')(row:Option Nat):w.grownBy w' row:=⟨hb.os,hb.tape,hb.output,hb.size,fun k hk _=>hb.block k hk⟩
theorem Zce (w:World)(b j:Nat)(v:Value):w.grownBy (w.setCell ⟨b,j,none⟩ v) (some b) :=
 ⟨rfl,rfl,rfl,by simp[World.setCell],fun k _ hne=>heap_setCell_other _ _ _ _ (fun e=>hne (by rw[e]))⟩
def IsL (w:World)(N:Nat)(v:Value)(n:Nat)(xs:List Int):Prop:=∃A c,v=.slice A n c∧Zam w A n c xs∧(0<n→∀a,A=some a→a.block<N)
def Zi9 (N:Nat):World→(Nat→Value)→List Int→Prop:=fun w vs xs=>∃n,IsL w N (vs 0) n xs∧n≤17592186043904
section
variable {w w':World} {N n:Nat} {v:Value} {xs:List Int}
theorem IsL.keep (h:IsL w N v n xs)(hb:Below w.heap.size w w'):IsL w' N v n xs:=by
 obtain⟨A,c,e,i,l⟩:=h
 exact⟨A,c,e,i.keep hb,l⟩
theorem IsL.grown (h:IsL w N v n xs){g:Nat}(hg:w.grownBy w' (some g))(hN:N≤g):IsL w' N v n xs:=by
 obtain⟨A,c,e,i,l⟩:=h
 refine⟨A,c,e,Zam.same i hg.size (fun b off e2 hn hb=>hg.block b hb (fun e3=>?_)),l⟩
 have:=l hn _ e2
 injection e3 with e3
 change b<N at this
 omega
theorem IsL.grownR (h:IsL w N v n xs){row:Option Nat}(hg:w.grownBy w' row)(hN:∀k,row=some k→N≤k):IsL w' N v n xs:=by
 obtain⟨A,c,e,i,l⟩:=h
 refine⟨A,c,e,Zam.same i hg.size (fun b off e2 hn hb=>hg.block b hb (fun e3=>?_)),l⟩
 have:=l hn _ e2
 have:=hN b e3.symm
 change b<N at *
 omega
end
theorem Zi9.grownR {N:Nat}{w w':World}{vs:Nat→Value}{xs:List Int}(h:Zi9 N w vs xs){row:Option Nat}(hg:w.grownBy w' row)(hN:∀k,row=some k→N≤k):Zi9 N w' vs xs:=by
 obtain⟨n,i,l⟩:=h
 exact⟨n,i.grownR hg hN,l⟩
theorem Zi9.kept (N:Nat):Zh9 (Zi9 N):=fun _ _ _ _ hb ⟨n,h,l⟩=>⟨n,h.keep hb,l⟩
theorem Zi9.list {N:Nat}{w:World}{vs:Nat→Value}{xs:List Int}(h:Zi9 N w vs xs):ZaL w vs xs:=by
 obtain⟨n,⟨A,c,e,i,_⟩,l⟩:=h
 exact⟨A,n,c,e,i,l⟩
theorem Zi9.good (N:Nat):Zql (Zi9 N) 1 where
 kept:=Zi9.kept N
 one:=fun w vs x h j hj=>ZaL.good.one w vs x h.list j hj
 pos:=by omega
theorem Zi9.of_list {w:World}{vs:Nat→Value}{xs:List Int}(h:ZaL w vs xs):Zi9 w.heap.size w vs xs:=by
 obtain⟨A,n,c,e,i,l⟩:=h
 refine⟨n,⟨A,c,e,i,fun hn a ha=>?_⟩,l⟩
 obtain⟨b,off,e2,hb,_⟩:=i.cells hn
 rw[e2]at ha
 injection ha with ha
 rw[←ha]
 exact hb
theorem Sl.lows {w:World}{A:Option Addr}{n c:Nat}{L:List (List Int)}(h:ZaS w A n c L):Sl (Zi9 w.heap.size) 1 w A n c L :=
 ⟨h.len,h.le,h.cap,h.small,h.nul,fun hn=>by
  obtain⟨b,off,e,hb,hx⟩:=h.cells hn
  exact⟨b,off,e,hb,fun i x hi=>by obtain⟨vs,a,r⟩:=hx i x hi;exact⟨vs,a,Zi9.of_list r⟩⟩⟩
section
variable {w w':World} {B B2 g n cap:Nat} {L:List (List Int)}
abbrev ZeV (w:World)(B B2:Nat)(v:Value)(n:Nat)(L:List (List Int)):Prop:=Zad (Zi9 B) 1 w B2 28 v n L
theorem ZeV.keep {v:Value}(h:ZeV w B B2 v n L)(hb:Below w.heap.size w w'):ZeV w' B B2 v n L:=Zad.keep (Zi9.kept B) h hb
theorem ZeV.lists {v:Value}(h:ZeV w B B2 v n L)(hn:n≤5864062014805):∃A c,v=.slice A n c∧ZaS w A n c L:=by
 obtain⟨A,c,rfl,s⟩:=h.sl (by omega)
 exact⟨A,c,rfl,s.len,s.le,s.cap,s.small,s.nul,fun hn=>by
  obtain⟨b,off,e,hb,hx⟩:=s.cells hn
  exact⟨b,off,e,hb,fun i x hi=>by obtain⟨vs,a,r⟩:=hx i x hi;exact⟨vs,a,r.list⟩⟩⟩
theorem ZeV.at (h:ZeV w B B2 (.slice (some ⟨g,0,none⟩) n cap) n L){j:Nat}{a:List Int}(ha:L[j]?=some a):∃A m c,w.cell? ⟨g,j,none⟩=some (.slice A m c)∧IsL w B (.slice A m c) m a∧m≤17592186043904:=by
 obtain⟨cells,h1,h2,h3⟩:=h
 obtain⟨vs,e,m,⟨A,c,ev,hm,hp⟩,hl⟩:=h2.2 j a ha
 have e0:=e 0 (by omega)
 rw[ev]at e0
 have hj:j<n:=by rw[←h3];exact(List.getElem?_eq_some_iff.1 ha).1
 exact⟨A,m,c,by rw[h1.cellAt j (by omega)];simpa using e0,⟨A,c,rfl,hm,hp⟩,hl⟩
theorem ZeV.frozen (h:ZeV w B B2 (.slice (some ⟨g,0,none⟩) n cap) n L)(j:Nat):w.frozen? ⟨g,j,none⟩=false:=by
 obtain⟨cells,h1,_⟩:=h
 exact h1.frozenAt j
theorem ZeV.put (h:ZeV w B B2 (.slice (some ⟨g,0,none⟩) n cap) n L)(hBB:B≤B2)(i:Nat){v:Value}{m:Nat}{a:List Int}(hv:IsL w B v m a)(hm:m≤17592186043904):ZeV (w.setCell ⟨g,i,none⟩ v) B B2 (.slice (some ⟨g,0,none⟩) n cap) n (L.set i a):=by
 have hg2:=(h.lt g rfl).1
 have hv2:=hv.grown (Zce w g i v) (by omega)
 obtain⟨cells,h1,h2,h3⟩:=h
 refine⟨_,(h1.stored i v).1,⟨by simpa using h2.1,fun k x hx=>?_⟩,by simpa using h3⟩
 rw[List.getElem?_set]at hx
 split at hx
 ·rename_i e
  subst e
  split at hx
  ·rename_i hlt
   injection hx with hx
   subst hx
   refine⟨fun _=>v,fun j hj=>?_,m,hv2,hm⟩
   obtain rfl:j=0:=by omega
   rw[List.getElem?_set,if_pos (by omega),if_pos (by have:=h2.1;omega)]
  ·cases hx
 ·rename_i hne
  obtain⟨vs,e,m2,hR,hl⟩:=h2.2 k x hx
  refine⟨vs,fun j hj=>?_,m2,hR.grown (Zce w g i v) (by omega),hl⟩
  rw[List.getElem?_set,if_neg (by omega)]
  exact e j hj
theorem ZeV.cutAt {i:Nat}(h:ZeV w B B2 (.slice (some ⟨g,0,none⟩) n cap) n L)(hBB:B≤B2)(hi:i≤n)(vs:List Value):ZeV (w.setCells g i vs) B B2 (.slice (some ⟨g,0,none⟩) i cap) i (L.take i):=by
 have hg2:=(h.lt g rfl).1
 obtain⟨cells,h1,h2,h3⟩:=h
 obtain⟨c2,r1,r2⟩:=Zgs vs i w _ h1
 have r3:=Zsa r1 hi
 rw[r2]at r3
 have hg:=Zdl g vs i w
 refine⟨_,r3,⟨by have:=h2.1;simp only[List.length_take];omega,fun k x hx=>?_⟩,by rw[List.length_take];omega⟩
 rw[List.getElem?_take]at hx
 split at hx
 ·rename_i hk
  obtain⟨us,e,m2,hR,hl⟩:=h2.2 k x hx
  refine⟨us,fun j hj=>?_,m2,hR.grown hg (by omega),hl⟩
  rw[List.getElem?_take,if_pos (by omega)]
  exact e j hj
 ·cases hx
theorem ZeV.anyCell (h:ZeV w B B2 (.slice (some ⟨g,0,none⟩) n cap) n L){j:Nat}(hj:j<n):(w.cell? ⟨g,j,none⟩).isSome=true:=by
 obtain⟨A,m,c,e,_⟩:=h.at (j:=j) (List.getElem?_eq_getElem (by rw[h.len];exact hj))
 rw[e];rfl
theorem ZeV.ints {m c:Nat}{A:Option Addr}{a:List Int}(h:IsL w B (.slice A m c) m a)(_hm:m≤17592186043904):Zam w A m c a:=by
 obtain⟨A2,c',e,i,_⟩:=h
 injection e with e1 _ e2
 rw[e1,e2];exact i
end
structure ZfZ (F:FuncId)(cap:Array Value)(w:World)(g:Nat)(L:List (List Int))(p:List Int→Bool):Prop where
 enters:∀args w,(callFunc F args).run Tryz.prog w=.ok (.enter F args) w
 calls:∀(wr:World) (A:Option Addr) (n c:Nat) (y:List Int),y∈L→w.grownBy wr (some g)→Zam wr A n c y →
  Calls Tryz.prog F (#[.slice A n c]++cap) wr fun e w'=>e=.returned (.bool (p y))∧Below wr.heap.size wr w'
theorem Zeh {w:World}{A:Option Addr}{n c:Nat}{ms:List (List Int)}{F:FuncId}{cap:Array Value}{g:Nat}{p:List Int→Bool}(h:ZaS w A n c ms)(hp:ZfZ F cap w g ms p) :
  Calls Tryz.prog 26 #[.slice A n c,.func (.func F) #[] cap] w fun e w'=>e=.returned (.int .i64 (ZaT p ms))∧Below w.heap.size w w':=by
 have hn:=h.small
 have henter:=hp.enters
 have H:=Zaa h
 have HP:=Zaa hp
 clear h hp
 go_enter Tryz.func26,Tryz.ntmps26
 go_wp2
 go_loopw [8] (fun i wr=>∃k:Nat,k≤n∧i=.int .i64 k∧Hid (∀j,j<k→∀y,ms[j]?=some y→p y=false)∧Hid (Below w.heap.size w wr)) (fun i _=>n-(intOf i).toNat)
 case atStart=>exact⟨0,Nat.zero_le _,rfl,fun j hj=>absurd hj (by omega),Below.refl _ _⟩
 case round =>
  obtain⟨k,hk,rfl,hlow,D⟩:=hrel
  by_cases hlt:k<n
  ·have hki:(k:Int)<(n:Int):=by omega
   obtain⟨b,off,t,vs,rfl,hb,ht,hc,A1,n1,c1,e1,i1,hn1⟩:=Sl.get (Sl.keep ZaL.kept H.out D.out) hlt
   have q0:wr.cell? ⟨b,off+k,none⟩=some (.slice A1 n1 c1):=by have:=hc 0 (by omega);rw[e1]at this;simpa using this
   have CL:=Zaa (HP.out.calls wr A1 n1 c1 t (List.mem_of_getElem? ht) (ZcA D.out _) i1)
   have HT:=Zaa ht
   obtain⟨v,hv⟩:∃v,p t=v:=⟨_,rfl⟩
   have HV:=Zaa hv
   rw[hv]at CL
   clear hv hc e1 i1 ht
   cases v
   ·go_wp2_with (refine CL.out.mono ?_;rintro e w' ⟨rfl,hb'⟩;have HB:=Zaa hb';clear hb')
    go_roundw
    case rel =>
     refine⟨k+1,by omega,by go_num,fun j hj y hy=>?_,D.out.trans (HB.out.mono D.out.size)⟩
     by_cases hjk:j=k
     ·subst hjk
      have:=HT.out
      rw[hy]at this
      injection this with this
      rw[this]
      exact HV.out
     ·exact hlow.out j (by omega) y hy
    case measure=>simp[intOf];omega
   ·go_wp2_with (refine CL.out.mono ?_;rintro e w' ⟨rfl,hb'⟩;have HB:=Zaa hb';clear hb')
    go_ret
    exact⟨Zap (ZaW hlow.out HT.out HV.out).symm,D.out.trans (HB.out.mono D.out.size)⟩
  ·go_wp2
   go_ret
   exact⟨Zap (ZaX (fun j hj y hy=>hlow.out j (by have:=H.out.len;omega) y hy)).symm,D.out⟩
def Zse (w0:World)(B:Nat)(w:World)(g:Nat)(L:List (List Int))(e:Ending)(w':World):Prop:=∃k c',e=.returned (.slice (some ⟨g,0,none⟩) k c')∧ZeV w' B w0.heap.size (.slice (some ⟨g,0,none⟩) k c') k L∧w.grownBy w' (some g)
set_option maxHeartbeats 4000000 in
theorem Zif {w0 w:World}{B g n cap:Nat}{L:List (List Int)}{F:FuncId}{cv:Array Value}{p:List Int→Bool}(own:ZeV w B w0.heap.size (.slice (some ⟨g,0,none⟩) n cap) n L)(hn:n≤5864062014805)(hp:ZfZ F cv w g L p)(hBB:B≤w0.heap.size) :
  Calls Tryz.prog 121 #[.slice (some ⟨g,0,none⟩) n cap,.func (.func F) #[] cv] w (Zse w0 B w g (L.filter fun a=>!p a)):=by
 have henter:=hp.enters
 have HP:=Zaa hp
 have OW:=Zaa own
 have hl:=Zaa (show L.length=n from Zad.len own)
 clear own hp
 rcases ZjZ p L with h1|⟨k,x,hx,hpx,lo⟩
 ·have FN:=Zaa (Zgr h1)
  have IX:=Zaa (show ZaT p L=-1 from ZaX (fun j hj y hy=>h1 j y hy))
  obtain⟨A1,c1,e1,LS⟩:=OW.out.lists hn
  injection e1 with e1 _ e2
  subst e1 e2
  clear h1
  go_enter Tryz.func121,Tryz.ntmps121
  go_wp2_with (refine(Zeh LS HP.out).mono ?_;rintro e w1 ⟨rfl,b1⟩;rw[IX.out];have B1:=Zaa b1;clear b1)
  go_ret
  rw[FN.out]
  exact⟨n,cap,rfl,OW.out.keep B1.out,ZcA B1.out _⟩
 ·have IX:=Zaa (show ZaT p L=(k:Int)from ZaW lo hx hpx)
  have DI:=Zaa (Zqm.start hx hpx lo)
  have hkn:k<n:=by have:=(List.getElem?_eq_some_iff.1 hx).1;have:=hl.out;omega
  have hk0:((k:Int)==-1)=false:=by simp
  obtain⟨A1,c1,e1,LS⟩:=OW.out.lists hn
  injection e1 with e1 _ e2
  subst e1 e2
  clear lo hx hpx
  go_enter Tryz.func121,Tryz.ntmps121
  go_wp2_with (refine(Zeh LS HP.out).mono ?_;rintro e w1 ⟨rfl,b1⟩;rw[IX.out];have G1:=Zaa (show w.grownBy w1 (some g)from⟨b1.os,b1.tape,b1.output,b1.size,fun k hk _=>b1.block k hk⟩);have O1:=Zaa (OW.out.keep b1);clear b1)
  clear OW hk0 LS
  go_loopw [5,6] (fun u v wr=>∃i j:Nat,u=.int .i64 i∧v=.int .i64 j∧i<j∧j≤n∧∃M,Hid (ZeV wr B w0.heap.size (.slice (some ⟨g,0,none⟩) n cap) n M)∧Hid (Zqm p L M i j)∧Hid (w.grownBy wr (some g))) (fun _ v _=>n-(intOf v).toNat)
  case atStart=>exact⟨k,k+1,rfl,by go_num,by omega,by omega,L,O1,DI,G1⟩
  case round =>
   obtain⟨i,j,rfl,rfl,hij,hj,M,OL,DL,GR⟩:=hrel
   by_cases hlt:j<n
   ·have hji:(j:Int)<(n:Int):=by omega
    have hii:(i:Int)<(n:Int):=by omega
    have hin:i<n:=by omega
    have hjl:j<M.length:=by have:=OL.out.len;omega
    obtain⟨a,ha⟩:∃a,M[j]?=some a:=⟨_,List.getElem?_eq_getElem hjl⟩
    obtain⟨AA,am,ac,q0,ia,ham⟩:=OL.out.at ha
    have IA:=Zaa ia
    have HM:=Zaa ham
    have HA:=Zaa (show L[j]?=some a by rw[←DL.out.rest j (Nat.le_refl _)];exact ha)
    have CL:=Zaa (HP.out.calls wr AA am ac a (List.mem_of_getElem? HA.out) GR.out (ZeV.ints ia ham))
    obtain⟨v,hv⟩:∃v,p a=v:=⟨_,rfl⟩
    have HV:=Zaa hv
    rw[hv]at CL
    clear hv ha hjl ia ham
    cases v
    ·go_wp2_with (refine CL.out.mono ?_;rintro e u1 ⟨rfl,b1⟩;have G2:=Zaa (GR.out.trans (ZcA b1 (some g)));have O2:=Zaa (OL.out.keep b1);have IA2:=Zaa (IA.out.keep b1);obtain⟨v0,y0⟩:=Option.isSome_iff_exists.1 (ZeV.anyCell O2.out (j:=i) (by omega));have z0:=ZeV.frozen O2.out i;clear b1)
     go_roundw
     case rel=>exact⟨i+1,j+1,by go_num,by go_num,by omega,by omega,M.set i a,Zaa (ZeV.put O2.out hBB i IA2.out HM.out),DL.out.take HA.out HV.out,Zaa (G2.out.trans (Zce _ g i _))⟩
     case measure=>simp[intOf];omega
    ·go_wp2_with (refine CL.out.mono ?_;rintro e u1 ⟨rfl,b1⟩;have G2:=Zaa (GR.out.trans (ZcA b1 (some g)));have O2:=Zaa (OL.out.keep b1);clear b1)
     go_roundw
     case rel=>exact⟨i,j+1,rfl,by go_num,by omega,by omega,M,O2,DL.out.skip HA.out HV.out,G2⟩
     case measure=>simp[intOf];omega
   ·obtain rfl:n=j:=by omega
    have hcl:=Zaa (fun ty=>Lib.run_clear_slice (P:=Tryz.prog) wr 25 28 ty (.slice none 0 0) Tryz.underlying25 (fun w=>by kernel_rfl) rfl rfl g i (n-i) (cap-i) (by omega) (fun q hq=>ZeV.anyCell OL.out (by omega)) (fun q hq=>ZeV.frozen OL.out _))
    obtain⟨A1,c1,e1,LS⟩:=OL.out.lists hn
    injection e1 with e1 _ e2
    subst e1 e2
    have hcap:=LS.le
    have e1:=hcl.out
    have hin1:(i:Int)≤(n:Int):=by omega
    have hin2:(i:Int)≤(cap:Int):=by omega
    have hnc:(n:Int)≤(cap:Int):=by omega
    have hc0:¬cap=0:=by omega
    have hci:¬cap=i:=by omega
    have hii:i≤n:=by omega
    have hii2:i≤cap:=by omega
    clear LS
    go_wp2
    go_ret
    have FN:M.take i=L.filter fun a=>!p a:=by
     have:=DL.out.kept
     rwa[List.take_of_length_le (l:=L) (by rw[hl.out];exact Nat.le_refl _)]at this
    have:=OL.out.cutAt hBB hii (List.replicate (n-i) (.slice none 0 0))
    rw[FN]at this
    exact⟨i,cap,rfl,this,GR.out.trans (Zdl _ _ _ _)⟩
theorem Zig {w:World}{F:FuncId}{cv:Array Value}{p:List Int→Bool}(hp:ZfZ F cv w w.heap.size [] p) :
  Calls Tryz.prog 121 #[.slice none 0 0,.func (.func F) #[] cv] w fun e w'=>e=.returned (.slice none 0 0)∧Below w.heap.size w w':=by
 have henter:=hp.enters
 have HP:=Zaa hp
 clear hp
 go_enter Tryz.func121,Tryz.ntmps121
 go_wp2_with (refine(Zeh (Sl.nil0:ZaS w none 0 0 []) HP.out).mono ?_;rintro e w1 ⟨rfl,b1⟩;rw[show ZaT p []=-1 from rfl];have B1:=Zaa b1;clear b1)
 go_ret
 exact⟨rfl,B1.out⟩
theorem Zd4 {w:World}{A:Option Addr}{n c:Nat}{L:List (List Int)}(h:ZaS w A n c L)(hn:n≤1000000000000) :
  Calls Tryz.prog 122 #[.slice A n c] w fun e w'=>∃v,e=.returned v∧ZeV w' w.heap.size w.heap.size v n L∧Below w.heap.size w w':=by
 have HB:=Zaa (show ∀o,Below w.heap.size w (w.alloc o)from fun o=>(Below.refl _ _).alloc (Nat.le_refl _) _)
 rcases A with _|ad
 ·have hc:=h.nul rfl
  have hn0:n=0:=by have:=h.le;omega
  subst hc hn0
  have hx:=List.eq_nil_of_length_eq_zero h.len
  subst hx
  clear h
  have he:=fun(w:World)=>Lib.run_eql_slice_nil (P:=Tryz.prog) w 25 28 none 0 0 0 0 Tryz.underlying25
  go_enter Tryz.func122,Tryz.ntmps122
  go_wp2
  go_ret
  exact⟨_,rfl,Zad.nil,Below.refl _ _⟩
 ·have H:=Zaa h
  have O:=Zaa (Zad.empty (R:=Zi9 w.heap.size) (sz:=1) (w:=w) (B:=w.heap.size) (e:=28) (Nat.le_refl _))
  have SR:=Zaa (Sl.keep (Zi9.kept _) (Sl.lows h) (HB.out (.cells #[] 28)))
  clear h
  have he:=fun(w:World)=>Lib.run_eql_slice_nil (P:=Tryz.prog) w 25 28 (some ad) n c 0 0 Tryz.underlying25
  go_enter Tryz.func122,Tryz.ntmps122
  go_wp2_with (at_builtin;refine Zec Zhe (Zi9.good w.heap.size) rfl _ _ rfl rfl rfl O.out SR.out (HB.out _) (by simp) (by omega) (by omega) (fun w' hg _ _ h=>h.grownR hg (fun k hk=>by injection hk with hk;subst hk;exact Nat.le_refl _)) ?_;intro v1 w1 own1 hg1 hb1)
  go_ret
  exact⟨_,rfl,by simpa using own1,hb1⟩
end Go.Proofs.YtfmnagcglhlicaaGreat
