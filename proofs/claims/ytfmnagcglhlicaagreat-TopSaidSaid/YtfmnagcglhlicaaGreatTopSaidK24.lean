/- Texts melted into one: A region that draws its order, with a list of pure operations taken ahead of all. | slices.SortStableFunc on rows of lists: swapRange and rotate. Conditions: the row is the call's own, as its lists are. | slices.SortStableFunc on rows of lists: rotate. Conditions: the row is t -/
import Derived.Test.YtfmnagcglhlicaaGreatTopSaidK23
set_option maxRecDepth 100000
namespace Go.Proofs.YtfmnagcglhlicaaGreat
open Go.RowKit
section
variable {P:Program} {ops:Array Oper} {Q:Exit→Act→World→Prop} {S:World→Prop} {m:Nat}
def ZlC:List Nat→Array Bool→Array Bool
 | [],l=>l
 | i::r,l=>ZlC r (l.setIfInBounds i true)
def Zjm (ops:Array Oper)(m:Nat):List Nat→Array Bool→Bool
 | [],_=>true
 | i::r,l=>Region.free .any ops l i&&(Region.ready .any ops l).contains i&&i != m&&Zjm ops m r (l.setIfInBounds i true)
def ZdW (P:Program)(ops:Array Oper)(R:Act→World→Prop):List Nat→Act→World→Prop
 | [],a,w=>R a w
 | i::r,a,w=>∃(v:Value) (oi:Oper),nth ops.toList i=some oi∧Region.wanted oi (yielded ops a.tmps)=true∧(∀w',(execOp a.eval oi).run P w'=.ok (.value v) w')∧ZdW P ops R r (a.put oi.dst v) w
theorem Zgz (hs:Region.noSelect ops=true)(hQ:∀c a (d:Tmp) v w,Q (.panic c) (a.put (some d) v) w→Q (.panic c) a w){f:Nat}{l:Scr}:∀(is:List Nat) (listed:Array Bool) (a:Act) (w:World),Zjm ops m is listed=true→ZcW .any ops listed→ZcM .any ops m l f (ZlC is listed)=true→S w →
  ZdW P ops (Zbm P ops Q S l) is a w→Zfy P .any ops Q S m (f+is.length) listed a w
 | [],listed,a,w,_,hc,hok,_,h=>ZdQ (m:=m) hs hQ l _ _ _ _ hc hok h
 | i::r,listed,a,w,hp,hc,hok,hS,h=>by
  obtain⟨v,oi,ho,hw,hy,hrest⟩:=h
  simp only[Zjm,Bool.and_eq_true,bne_iff_ne,ne_eq]at hp
  obtain⟨⟨⟨h1,h2⟩,h3⟩,h4⟩:=hp
  have hr:i∈Region.ready .any ops listed:=by simpa using h2
  refine Ze8 (Zcd ho) (Region.noSelect_spec hs) (fun c a w h=>by cases hd:oi.dst with|none=>rw[hd]at h;exact h|some d=>rw[hd]at h;exact hQ c a d _ w h) h3 (f+r.length) listed a w (Region.free_spec (Zcd ho) h1) hr (fun _=>hS) (.inl ⟨hw,fun w' _=>hy w'⟩) ?_
  exact Zgz hs hQ r _ _ _ h4 (hc.set hr) hok hS hrest
theorem Zcx {id:Nat} (m:Nat) (is:List Nat) (f:Nat) (l:Scr) (S:World→Prop) {a:Act} {w:World} (hm:P.follows .mixedOrders=true) (hs:Region.noSelect ops=true)
  (hp:Zjm ops m is (Array.replicate ops.size false)=true) (hf:ops.size=f+is.length) (hok:ZcM .any ops m l f (ZlC is (Array.replicate ops.size false))=true)
  (hQ:∀c a (d:Tmp) v w,Q (.panic c) (a.put (some d) v) w→Q (.panic c) a w) (hS:S w.drew) (h:S w.drew→ZdW P ops (Zbm P ops Q S l) is a w.drew):(Code.region id ops true).wp P Q a w:=by
 refine wp_region_any hm (Zdx (S:=S) (m:=m) _ _ _ _ ?_)
 have key:=Zgz (P:=P) (Q:=Q) (S:=S) (m:=m) (f:=f) (l:=l) hs hQ is (Array.replicate ops.size false) a w.drew hp (ZcW.start _) hok hS (h hS)
 rw[←hf]at key
 exact key
theorem ZmF {R:Act→World→Prop}{i:Nat}{r:List Nat}{a:Act}{w:World}{oi:Oper}{v:Value}(ho:nth ops.toList i=some oi)(hw:Region.wanted oi (yielded ops a.tmps)=true)(hy:∀w',(execOp a.eval oi).run P w'=.ok (.value v) w')(h:ZdW P ops R r (a.put oi.dst v) w):ZdW P ops R (i::r) a w:=⟨v,oi,ho,hw,hy,h⟩
end
def ZlD (f:Nat→List Int)(n:Nat):List (List Int):=(List.range n).map f
theorem ZbA {f:Nat→List Int}{n k:Nat}(h:k<n):(ZlD f n)[k]?=some (f k):=by simp[ZlD,h]
theorem ZfH (f:Nat→List Int)(n:Nat):(ZlD f n).length=n:=by simp[ZlD]
theorem ZfI {f:Nat→List Int}{n i j:Nat}(hi:i<n)(hj:j<n):((ZlD f n).set i (f j)).set j (f i)=ZlD (Zcp f i j) n:=by
 apply List.ext_getElem?
 intro k
 by_cases hk:k<n
 ·rw[ZbA hk,List.getElem?_set,List.length_set,ZfH,List.getElem?_set,ZfH,ZbA hk]
  unfold Zcp
  by_cases h1:j=k
  ·subst h1
   rw[if_pos rfl,if_pos hj]
   by_cases h2:j=i
   ·subst h2;rw[if_pos rfl]
   ·rw[if_neg h2,if_pos rfl]
  ·rw[if_neg h1]
   by_cases h2:i=k
   ·subst h2;rw[if_pos rfl,if_pos hi,if_pos rfl]
   ·rw[if_neg h2,if_neg (fun e=>h2 e.symm),if_neg (fun e=>h1 e.symm)]
 ·rw[List.getElem?_eq_none (by simp[ZfH];omega),List.getElem?_eq_none (by rw[ZfH];omega)]
abbrev Zdh (w:World)(B B2 g n cap:Nat)(f:Nat→List Int):Prop:=Zc9 w B B2 (.slice (some ⟨g,0,none⟩) n cap) n (ZlD f n)
set_option maxHeartbeats 4000000 in
theorem ZcZ {w:World}{B B2 g n cap:Nat}{f:Nat→List Int}(own:Zdh w B B2 g n cap f)(a b k:Nat)(ha:a+k≤n)(hb:b+k≤n)(hd:a+k≤b∨b+k≤a)(hn:n≤1000)(fv:Value) :
  Calls Tryz.prog 257 #[.slice (some ⟨g,0,none⟩) n cap,.int .i64 a,.int .i64 b,.int .i64 k,fv] w fun e w'=>(∃y,e=.returned y)∧Zdh w' B B2 g n cap (Zik f a b k)∧w.grownBy w' (some g):=by
 have OW:=Zaa own
 clear own
 go_enter Tryz.func257,Tryz.ntmps257
 go_wp2
 go_loopg [10] k (fun gk u wr=>∃i:Nat,i+gk=k∧u=.int .i64 i∧Hid (Zdh wr B B2 g n cap (Zik f a b i))∧Hid (w.grownBy wr (some g)))
 case atStart=>exact⟨0,by omega,rfl,Zaa (by rw[ZoY];exact OW.out),Zaa (World.grownBy.refl _ _)⟩
 case round =>
  clear OW
  obtain⟨i,hi,rfl,OL,GR⟩:=hrel
  by_cases hlt:i<k
  ·have hki:(i:Int)<(k:Int):=by omega
   have hwa:IntKind.i64.wrap ((a:Int)+(i:Int))=(a:Int)+(i:Int):=by simp[IntKind.wrap,IntKind.bits,IntKind.signed];omega
   have hwb:IntKind.i64.wrap ((b:Int)+(i:Int))=(b:Int)+(i:Int):=by simp[IntKind.wrap,IntKind.bits,IntKind.signed];omega
   have hai:0≤(a:Int)+(i:Int)∧(a:Int)+(i:Int)<(n:Int):=by omega
   have hbi:0≤(b:Int)+(i:Int)∧(b:Int)+(i:Int)<(n:Int):=by omega
   obtain⟨ha0,ha1⟩:=hai
   obtain⟨hb0,hb1⟩:=hbi
   have hna:((a:Int)+(i:Int)).toNat=a+i:=by omega
   have hnb:((b:Int)+(i:Int)).toNat=b+i:=by omega
   have OD:=Zaa (OL.out.keep ((Below.refl wr.heap.size wr).drew))
   have GD:=Zaa (GR.out.trans (ZcA ((Below.refl wr.heap.size wr).drew) (some g)))
   obtain⟨Ax,mx,cx,q1,ix,hmx⟩:=OD.out.at (ZbA (f:=Zik f a b i) (show a+i<n by omega))
   obtain⟨Ay,my,cy,q2,iy,hmy⟩:=OD.out.at (ZbA (f:=Zik f a b i) (show b+i<n by omega))
   have IX:=Zaa ix
   have IY:=Zaa iy
   have HGK:=Zaa (show gk=(gk-1)+1∧i+1+(gk-1)=k by omega)
   clear ix iy OL GR
   go_upto_region 3 with fail
   refine Zcx 20 [4,5,6,7] 20 (.takes [0,1,2,3,8,9,10,11,12,13,14,15,16,17,18,19] (.fin 20 (.fin 21 (.fin 22 (.fin 23 .done))))) (fun w'=>w'.cell? ⟨g,a+i,none⟩=some (.slice Ax mx cx)∧w'.cell? ⟨g,b+i,none⟩=some (.slice Ay my cy)) (by kernel_rfl) (by kernel_rfl) (by kernel_rfl) rfl (by kernel_rfl) (fun _ _ _ _ _ h=>h) ⟨q1,q2⟩ (fun hHeld=>?_)
   generalize wr.drew=y1 at *
   iterate 4
    refine ZmF (v:=?_) rfl (by rfl) (fun w'=>?_) ?_
    rotate_left
    ·(go_simp;try with_reducible rfl)
    try simp only[Act.put,Zag,Zah,Zai]
   simp only[ZdW,Scr.takes]
   iterate 16
    refine Zac (v:=?_) rfl (by rfl) hHeld (fun w' hSw=>?_) ?_
    rotate_left
    ·(go_simp;try with_reducible rfl)
    try simp only[Act.put,Zag,Zah,Zai]
   clear q1 q2 hHeld
   have z1:=OD.out.frozen (a+i)
   obtain⟨v1,y10⟩:=Option.isSome_iff_exists.1 (Zc9.anyCell OD.out (j:=a+i) (by omega))
   refine Zaz rfl (fun Kf hKf=>?_)
   go_simp
   refine hKf.out _ _ ?_
   clear hKf
   try simp only[Act.put,Zag,Zah,Zai]
   refine Zaz rfl (fun Kf hKf=>?_)
   go_simp
   refine hKf.out _ _ ?_
   clear hKf z1 y10
   try simp only[Act.put,Zag,Zah,Zai]
   have O2:=Zaa (Zc9.put OD.out (a+i) IY.out hmy)
   have G2:=Zaa (GD.out.trans (Zce y1 g (a+i) (.slice Ay my cy)))
   have IX2:=Zaa (ZeF OD.out IX.out (a+i) (.slice Ay my cy))
   generalize y1.setCell ⟨g,a+i,none⟩ (.slice Ay my cy)=y2 at *
   have z2:=O2.out.frozen (b+i)
   obtain⟨v2,y20⟩:=Option.isSome_iff_exists.1 (Zc9.anyCell O2.out (j:=b+i) (by omega))
   refine Zaz rfl (fun Kf hKf=>?_)
   go_simp
   refine hKf.out _ _ ?_
   clear hKf
   try simp only[Act.put,Zag,Zah,Zai]
   refine Zaz rfl (fun Kf hKf=>?_)
   go_simp
   refine hKf.out _ _ ?_
   clear hKf z2 y20
   try simp only[Act.put,Zag,Zah,Zai]
   have O3:=Zaa (Zc9.put O2.out (b+i) IX2.out hmx)
   have G3:=Zaa (G2.out.trans (Zce y2 g (b+i) (.slice Ax mx cx)))
   refine ZaH ?_
   generalize y2.setCell ⟨g,b+i,none⟩ (.slice Ax mx cx)=y3 at *
   have O4:=Zaa (show Zdh y3 B B2 g n cap (Zik f a b (i+1)) by
    have:=O3.out
    rw[ZfI (f:=Zik f a b i) (show a+i<n by omega) (show b+i<n by omega),ZoZ (by omega)]at this
    exact this)
   clear O2 O3 OD
   go_wp2
   go_roundg (gk-1)
   case measure=>have:=HGK.out.1;omega
   case rel=>exact⟨i+1,HGK.out.2,by go_num,O4,G3⟩
  ·obtain rfl:i=k:=by omega
   go_wp2
   exact bodyPost_end (v:=.tuple #[]) (by simp[results,Tryz.results257,go_sem]) rfl ⟨⟨_,rfl⟩,OL.out,GR.out⟩
set_option maxHeartbeats 4000000 in
theorem Zjn {w:World}{B B2 g n cap:Nat}{f:Nat→List Int}(own:Zdh w B B2 g n cap f)(a m b:Nat)(h1:a<m)(h2:m<b)(hb:b≤n)(hn:n≤1000)(fv:Value) :
  Calls Tryz.prog 234 #[.slice (some ⟨g,0,none⟩) n cap,.int .i64 a,.int .i64 m,.int .i64 b,fv] w fun e w'=>(∃y,e=.returned y)∧Zdh w' B B2 g n cap (Zbo f a m b)∧w.grownBy w' (some g):=by
 have OW:=Zaa own
 clear own
 have hw1:IntKind.i64.wrap ((m:Int)-(a:Int))=(m:Int)-(a:Int):=by simp[IntKind.wrap,IntKind.bits,IntKind.signed];omega
 have hw2:IntKind.i64.wrap ((b:Int)-(m:Int))=(b:Int)-(m:Int):=by simp[IntKind.wrap,IntKind.bits,IntKind.signed];omega
 go_enter Tryz.func234,Tryz.ntmps234
 go_wp2
 clear hw1 hw2
 go_loopg [10,11] (b-a) (fun gk u v wr=>∃(i j:Nat) (q:Nat→List Int),u=.int .i64 i∧v=.int .i64 j∧i+j≤gk∧Hid (Zol f q a m b i j)∧Hid (Zdh wr B B2 g n cap q)∧Hid (w.grownBy wr (some g)))
 case atStart=>exact⟨m-a,b-m,f,by rw[show((m-a:Nat):Int)=(m:Int)-a by omega],by rw[show((b-m:Nat):Int)=(b:Int)-m by omega],by omega,Zol.start h1 h2,OW,Zaa (World.grownBy.refl _ _)⟩
 case round =>
  clear OW
  obtain⟨i,j,q,rfl,rfl,hij,RI,OL,GR⟩:=hrel
  have ri:=RI.out
  obtain⟨r1,r2,r3,r4,_⟩:=ri
  have ei:((m-i:Nat):Int)=(m:Int)-(i:Int):=by omega
  have hwi:IntKind.i64.wrap ((m:Int)-(i:Int))=(m:Int)-(i:Int):=by simp[IntKind.wrap,IntKind.bits,IntKind.signed];omega
  by_cases hne:i=j
  ·subst hne
   have CS:=Zaa (show Calls Tryz.prog 257 #[.slice (some ⟨g,0,none⟩) n cap,.int .i64 ((m:Int)-(i:Int)),.int .i64 m,.int .i64 i,fv] wr (fun e w'=>(∃y,e=.returned y)∧Zdh w' B B2 g n cap (Zbo f a m b)∧wr.grownBy w' (some g))from by
    have:=ZcZ OL.out (m-i) m i (by omega) (by omega) (by omega) hn fv
    rw[ei,RI.out.fin h1]at this
    exact this)
   go_wp2_with fail
   refine CS.out.mono ?_
   rintro e w1 ⟨⟨y,rfl⟩,o1,g1⟩
   have O1:=Zaa o1
   have G1:=Zaa (GR.out.trans g1)
   clear o1 g1
   go_wp2
   exact bodyPost_end (v:=.tuple #[]) (by simp[results,Tryz.results234,go_sem]) rfl ⟨⟨_,rfl⟩,O1.out,G1.out⟩
  ·have hneb:((i:Int) !=(j:Int))=true:=by simp;omega
   by_cases hgt:j<i
   ·have hgti:(j:Int)<(i:Int):=by omega
    have hwj:IntKind.i64.wrap ((i:Int)-(j:Int))=(i:Int)-(j:Int):=by simp[IntKind.wrap,IntKind.bits,IntKind.signed];omega
    have CS:=Zaa (show Calls Tryz.prog 257 #[.slice (some ⟨g,0,none⟩) n cap,.int .i64 ((m:Int)-(i:Int)),.int .i64 m,.int .i64 j,fv] wr (fun e w'=>(∃y,e=.returned y)∧Zdh w' B B2 g n cap (Zik q (m-i) m j)∧wr.grownBy w' (some g))from by
     have:=ZcZ OL.out (m-i) m j (by omega) (by omega) (by omega) hn fv
     rw[ei]at this
     exact this)
    have RN:=Zaa (RI.out.left h1 hgt)
    have HM:=Zaa (show gk-j<gk∧(i-j)+j≤gk-j by omega)
    go_wp2_with fail
    refine CS.out.mono ?_
    rintro e w1 ⟨⟨y,rfl⟩,o1,g1⟩
    have O1:=Zaa o1
    have G1:=Zaa (GR.out.trans g1)
    clear o1 g1
    go_wp2
    go_roundg (gk-j)
    case measure=>exact HM.out.1
    case rel=>exact⟨i-j,j,_,by rw[show((i-j:Nat):Int)=(i:Int)-j by omega],rfl,HM.out.2,RN,O1,G1⟩
   ·have hlt:i<j:=by omega
    have hgti:¬(j:Int)<(i:Int):=by omega
    have hwj:IntKind.i64.wrap ((j:Int)-(i:Int))=(j:Int)-(i:Int):=by simp[IntKind.wrap,IntKind.bits,IntKind.signed];omega
    have hwm:IntKind.i64.wrap ((m:Int)+(j:Int))=(m:Int)+(j:Int):=by simp[IntKind.wrap,IntKind.bits,IntKind.signed];omega
    have hwx:IntKind.i64.wrap ((m:Int)+(j:Int)-(i:Int))=(m:Int)+(j:Int)-(i:Int):=by simp[IntKind.wrap,IntKind.bits,IntKind.signed];omega
    have CS:=Zaa (show Calls Tryz.prog 257 #[.slice (some ⟨g,0,none⟩) n cap,.int .i64 ((m:Int)-(i:Int)),.int .i64 ((m:Int)+(j:Int)-(i:Int)),.int .i64 i,fv] wr (fun e w'=>(∃y,e=.returned y)∧Zdh w' B B2 g n cap (Zik q (m-i) (m+j-i) i)∧wr.grownBy w' (some g))from by
     have:=ZcZ OL.out (m-i) (m+j-i) i (by omega) (by omega) (by omega) hn fv
     rw[ei,show((m+j-i:Nat):Int)=(m:Int)+(j:Int)-(i:Int) by omega]at this
     exact this)
    have RN:=Zaa (RI.out.right h1 hlt)
    have HM:=Zaa (show gk-i<gk∧i+(j-i)≤gk-i by omega)
    go_wp2_with fail
    refine CS.out.mono ?_
    rintro e w1 ⟨⟨y,rfl⟩,o1,g1⟩
    have O1:=Zaa o1
    have G1:=Zaa (GR.out.trans g1)
    clear o1 g1
    go_wp2
    go_roundg (gk-i)
    case measure=>exact HM.out.1
    case rel=>exact⟨i,j-i,_,rfl,by rw[show((j-i:Nat):Int)=(j:Int)-i by omega],HM.out.2,RN,O1,G1⟩
theorem Zf5 {P:Program} {ops:Array Oper} {Q:Exit→Act→World→Prop} {S:World→Prop} {i:Nat} {r:Scr} {a:Act} {w:World} {o:Oper} (ho:nth ops.toList i=some o) (hw:Region.wanted o (yielded ops a.tmps)=false) (hS:S w)
  (h:Zbm P ops Q S r (a.put o.dst undef) w):Zbm P ops Q S (.take i r) a w :=
 ⟨o,undef,Zcd ho,.inr ⟨hw,rfl⟩,hS,h⟩
structure Zd6 (F:FuncId)(cv:Array Value)(w:World)(g:Nat)(R:List Int→List Int→Prop)(S:List Int→Prop):Prop where
 enters:∀args w,(callFunc F args).run Tryz.prog w=.ok (.enter F args) w
 calls:∀(wr:World) (A B:Option Addr) (n c m d:Nat) (x y:List Int),w.grownBy wr (some g)→Zam wr A n c x→Zam wr B m d y→S x→S y→x≠y →
  Calls Tryz.prog F (#[.slice A n c,.slice B m d]++cv) wr fun e w'=>∃v:Int,e=.returned (.int .i64 v)∧(v<0↔R x y)∧Below wr.heap.size wr w'
theorem Zd6.later {F:FuncId}{cv:Array Value}{w w':World}{g:Nat}{R:List Int→List Int→Prop}{S:List Int→Prop}(h:Zd6 F cv w g R S)(hg:w.grownBy w' (some g)):Zd6 F cv w' g R S :=
 ⟨h.enters,fun wr A B n c m d x y h1=>h.calls wr A B n c m d x y (hg.trans h1)⟩
set_option maxHeartbeats 8000000 in
theorem ZdX {w:World}{B B2 g n cap:Nat}{f:Nat→List Int}{F:FuncId}{cv:Array Value}{R:List Int→List Int→Prop}{S:List Int→Prop}(own:Zdh w B B2 g n cap f)(a b:Nat)(hab:a≤b)(hb:b≤n)(hn:n≤1000)(o:Zjl R S)(G:Zbp S f n)(hF:Zd6 F cv w g R S) :
  Calls Tryz.prog 218 #[.slice (some ⟨g,0,none⟩) n cap,.int .i64 a,.int .i64 b,.func (.func F) #[] cv] w fun e w'=>(∃y,e=.returned y)∧(∃q,Zdh w' B B2 g n cap q∧Zbp S q n∧ZbY R q a b∧Zbl q f a b)∧w.grownBy w' (some g):=by
 have OW:=Zaa own
 have henter:=hF.enters
 have HF:=Zaa hF
 have HO:=Zaa o
 have GD:=Zaa G
 clear own hF o G
 have hwa:IntKind.i64.wrap ((a:Int)+1)=(a:Int)+1:=by simp[IntKind.wrap,IntKind.bits,IntKind.signed];omega
 go_enter Tryz.func218,Tryz.ntmps218
 go_wp2
 clear hwa
 go_loopg [8] (b-a) (fun gk u wr=>∃(i:Nat) (q:Nat→List Int),u=.int .i64 ((i+1:Nat):Int)∧a≤i∧(i<b→i+gk=b)∧(i<b∨i=a)∧Hid (ZbY R q a (i+1)∧Zbp S q n∧Zbl q f a b)∧Hid (Zdh wr B B2 g n cap q)∧Hid (w.grownBy wr (some g)))
 case atStart=>exact⟨a,f,by simp,Nat.le_refl _,by omega,by omega,Zaa ⟨fun i j h1 h2 h3=>by omega,GD.out,Zbl.refl _ _ _⟩,OW,Zaa (World.grownBy.refl _ _)⟩
 case round =>
  clear OW
  obtain⟨i,q,rfl,hai,hgk,hib,SE,OL,GR⟩:=hrel
  by_cases hlt:i+1<b
  ·have hlti:(i:Int)+1<(b:Int):=by omega
   have HGK:=Zaa (show gk=(gk-1)+1∧(i+1<b→(i+1)+(gk-1)=b) by have:=hgk (by omega);omega)
   have INS:=Zaa (ZqQ.start SE.out.1 (by omega))
   obtain⟨go,hgo⟩:∃go:Nat,go=gk:=⟨_,rfl⟩
   subst hgo
   go_wp2
   go_loopg [9] (i+1-a) (fun gk u wr=>∃(j:Nat) (q:Nat→List Int),u=.int .i64 j∧j=a+gk∧j≤i+1∧Hid (ZqQ R q a j (i+1)∧Zbp S q n∧Zbl q f a b)∧Hid (Zdh wr B B2 g n cap q)∧Hid (w.grownBy wr (some g)))
   case atStart=>exact⟨i+1,q,by simp,by omega,Nat.le_refl _,Zaa ⟨INS.out,SE.out.2⟩,OL,GR⟩
   case round =>
    clear INS SE OL GR
    obtain⟨j,q,rfl,hj,hji,SE,OL,GR⟩:=hrel
    have OD:=Zaa (OL.out.keep ((Below.refl wr.heap.size wr).drew))
    have GX:=Zaa (GR.out.trans (ZcA ((Below.refl wr.heap.size wr).drew) (some g)))
    clear OL GR
    by_cases haj:a<j
    ·obtain⟨p,rfl⟩:∃p,j=p+1:=⟨j-1,by omega⟩
     have haji:(a:Int)<(p:Int)+1:=by omega
     have hp0:0≤(p:Int)+1:=by omega
     have hp1:(p:Int)+1<(n:Int):=by omega
     have hp2:(p:Int)<(n:Int):=by omega
     have hwp:IntKind.i64.wrap (p:Int)=(p:Int):=by simp[IntKind.wrap,IntKind.bits,IntKind.signed];omega
     have HJ:=Zaa (show gk=(gk-1)+1∧p=a+(gk-1)∧p≤i+1 by omega)
     clear hj
     obtain⟨Ax,mx,cx,q1,ix,hmx⟩:=OD.out.at (ZbA (f:=q) (show p+1<n by omega))
     obtain⟨Ay,my,cy,q2,iy,hmy⟩:=OD.out.at (ZbA (f:=q) (show p<n by omega))
     have CL:=Zaa (HF.out.calls wr.drew Ax Ay mx cx my cy (q (p+1)) (q p) GX.out (Zc9.ints ix hmx) (Zc9.ints iy hmy) (SE.out.2.1.mem _ (by omega)) (SE.out.2.1.mem _ (by omega)) (fun e=>by have:=SE.out.2.1.inj _ _ (by omega) (by omega) e;omega))
     clear ix iy
     go_upto_region 4 with fail
     refine Zae 16 (.takes [0,1,2,3,4,5,6,7,8,9,10,11,12,13] (.one 14 (.take 15 (.fin 16 .done)))) (fun w'=>w'.cell? ⟨g,p+1,none⟩=some (.slice Ax mx cx)∧w'.cell? ⟨g,p,none⟩=some (.slice Ay my cy)) (by kernel_rfl) (by kernel_rfl) (by kernel_rfl) (fun _ _ _ _ _ h=>h) ⟨q1,q2⟩ (fun hHeld=>?_)
     simp only[Scr.takes]
     clear q1 q2
     generalize wr.drew=y1 at *
     have HGB:=Zaa (OD.out.lt g rfl).2
     iterate 2
      refine Zac (v:=?_) rfl (by rfl) hHeld (fun w' hSw=>?_) ?_
      rotate_left
      ·(go_simp;try with_reducible rfl)
      try simp only[Act.put,Zag,Zah,Zai]
     refine Zac (v:=.bool true) rfl (by rfl) hHeld (fun w' hSw=>?_) ?_
     ·(go_simp;try with_reducible rfl)
     try simp only[Act.put,Zag,Zah,Zai]
     refine Zac (v:=.bool true) rfl (by rfl) hHeld (fun w' hSw=>?_) ?_
     ·(go_simp;try with_reducible rfl)
     try simp only[Act.put,Zag,Zah,Zai]
     iterate 10
      refine Zac (v:=?_) rfl (by rfl) hHeld (fun w' hSw=>?_) ?_
      rotate_left
      ·(go_simp;try with_reducible rfl)
      try simp only[Act.put,Zag,Zah,Zai]
     refine ZaC rfl (fun Kf hKf=>?_)
     go_simp
     refine CL.out.mono ?_
     rintro e y2 ⟨cv2,rfl,hv,hb2⟩
     refine hKf.out _ _ ⟨(hb2.cell (p:=⟨g,p+1,none⟩) HGB.out).trans hHeld.1,(hb2.cell (p:=⟨g,p,none⟩) HGB.out).trans hHeld.2⟩ (fun hHeld=>?_)
     clear hKf
     try simp only[Act.put,Zag,Zah,Zai]
     have O2:=Zaa (OD.out.keep hb2)
     have G2:=Zaa (GX.out.trans (ZcA hb2 (some g)))
     have HV:=Zaa hv
     clear hb2 hv CL OD GX HGB
     by_cases hneg:cv2<0
     ·refine Zac (v:=.bool true) rfl (by rfl) hHeld (fun w' hSw=>?_) ?_
      ·(go_simp;try with_reducible rfl)
      try simp only[Act.put,Zag,Zah,Zai]
      refine Zaz rfl (fun Kf hKf=>?_)
      go_simp
      refine hKf.out _ _ ?_
      clear hKf
      try simp only[Act.put,Zag,Zah,Zai]
      refine ZaH ?_
      clear hHeld
      have DN:=Zaa (SE.out.1.down haj (by simpa using HV.out.1 hneg))
      have GN:=Zaa (SE.out.2.1.swap (i:=p+1) (j:=p) (by omega) (by omega))
      have SN:=Zaa ((Zbl.swap q (a:=a) (b:=b) (i:=p+1) (j:=p) (by omega) (by omega)).trans SE.out.2.2)
      clear hneg HV
      have OD:=Zaa (O2.out.keep ((Below.refl y2.heap.size y2).drew))
      have GX:=Zaa (G2.out.trans (ZcA ((Below.refl y2.heap.size y2).drew) (some g)))
      obtain⟨Ax,mx,cx,q1,ix,hmx⟩:=OD.out.at (ZbA (f:=q) (show p+1<n by omega))
      obtain⟨Ay,my,cy,q2,iy,hmy⟩:=OD.out.at (ZbA (f:=q) (show p<n by omega))
      have IX:=Zaa ix
      have IY:=Zaa iy
      clear ix iy O2 G2
      go_upto_region 6 with fail
      refine Zcx 14 [2,3,4] 15 (.takes [0,1,5,6,7,8,9,10,11,12,13] (.fin 14 (.fin 15 (.fin 16 (.fin 17 .done))))) (fun w'=>w'.cell? ⟨g,p+1,none⟩=some (.slice Ax mx cx)∧w'.cell? ⟨g,p,none⟩=some (.slice Ay my cy)) (by kernel_rfl) (by kernel_rfl) (by kernel_rfl) rfl (by kernel_rfl) (fun _ _ _ _ _ h=>h) ⟨q1,q2⟩ (fun hHeld=>?_)
      generalize y2.drew=y3 at *
      iterate 3
       refine ZmF (v:=?_) rfl (by rfl) (fun w'=>?_) ?_
       rotate_left
       ·(go_simp;try with_reducible rfl)
       try simp only[Act.put,Zag,Zah,Zai]
      simp only[ZdW,Scr.takes]
      iterate 11
       refine Zac (v:=?_) rfl (by rfl) hHeld (fun w' hSw=>?_) ?_
       rotate_left
       ·(go_simp;try with_reducible rfl)
       try simp only[Act.put,Zag,Zah,Zai]
      clear q1 q2 hHeld
      have z1:=OD.out.frozen (p+1)
      obtain⟨v1,y10⟩:=Option.isSome_iff_exists.1 (Zc9.anyCell OD.out (j:=p+1) (by omega))
      refine Zaz rfl (fun Kf hKf=>?_)
      go_simp
      refine hKf.out _ _ ?_
      clear hKf
      try simp only[Act.put,Zag,Zah,Zai]
      refine Zaz rfl (fun Kf hKf=>?_)
      go_simp
      refine hKf.out _ _ ?_
      clear hKf z1 y10
      try simp only[Act.put,Zag,Zah,Zai]
      have O2:=Zaa (Zc9.put OD.out (p+1) IY.out hmy)
      have G2:=Zaa (GX.out.trans (Zce y3 g (p+1) (.slice Ay my cy)))
      have IX2:=Zaa (ZeF OD.out IX.out (p+1) (.slice Ay my cy))
      generalize y3.setCell ⟨g,p+1,none⟩ (.slice Ay my cy)=y4 at *
      have z2:=O2.out.frozen p
      obtain⟨v2,y20⟩:=Option.isSome_iff_exists.1 (Zc9.anyCell O2.out (j:=p) (by omega))
      refine Zaz rfl (fun Kf hKf=>?_)
      go_simp
      refine hKf.out _ _ ?_
      clear hKf
      try simp only[Act.put,Zag,Zah,Zai]
      refine Zaz rfl (fun Kf hKf=>?_)
      go_simp
      refine hKf.out _ _ ?_
      clear hKf z2 y20
      try simp only[Act.put,Zag,Zah,Zai]
      have O3:=Zaa (Zc9.put O2.out p IX2.out hmx)
      have G3:=Zaa (G2.out.trans (Zce y4 g p (.slice Ax mx cx)))
      refine ZaH ?_
      generalize y4.setCell ⟨g,p,none⟩ (.slice Ax mx cx)=y5 at *
      have O4:=Zaa (show Zdh y5 B B2 g n cap (Zcp q (p+1) p) by
       have:=O3.out
       rw[ZfI (f:=q) (show p+1<n by omega) (show p<n by omega)]at this
       exact this)
      clear O2 O3 OD
      go_wp2
      go_roundg (gk-1)
      case measure=>have:=HJ.out.1;omega
      case rel=>exact⟨p,_,by go_num,HJ.out.2.1,HJ.out.2.2,Zaa ⟨by have:=DN.out;simpa using this,GN.out,SN.out⟩,O4,G3⟩
     ·refine Zac (v:=.bool false) rfl (by rfl) hHeld (fun w' hSw=>?_) ?_
      ·(go_simp;try with_reducible rfl)
      try simp only[Act.put,Zag,Zah,Zai]
      refine Zaz rfl (fun Kf hKf=>?_)
      go_simp
      refine hKf.out _ _ ?_
      clear hKf
      try simp only[Act.put,Zag,Zah,Zai]
      refine ZaH ?_
      clear hHeld
      have SX:=Zaa (SE.out.1.stop HO.out SE.out.2.1 (by omega) (fun _=>by simpa using fun h=>hneg (HV.out.2 h)))
      clear hneg HV
      go_wp2
      go_roundg (go-1)
      case measure=>have:=HGK.out.1;omega
      case rel=>exact⟨i+1,q,by go_num,by omega,HGK.out.2,.inl hlt,Zaa ⟨SX.out,SE.out.2⟩,O2,G2⟩
    ·obtain rfl:j=a:=by omega
     clear hj
     have SX:=Zaa (SE.out.1.stop HO.out SE.out.2.1 (by omega) (fun h=>absurd h haj))
     have O2:=OD
     have G2:=GX
     go_upto_region 4 with fail
     refine Zae 16 (.takes [0,1,2,3,4,5,6,7,8,9,10,11,12,13] (.one 14 (.take 15 (.fin 16 .done)))) (fun _=>True) (by kernel_rfl) (by kernel_rfl) (by kernel_rfl) (fun _ _ _ _ _ h=>h) trivial (fun hHeld=>?_)
     simp only[Scr.takes]
     generalize wr.drew=y1 at *
     iterate 2
      refine Zac (v:=?_) rfl (by rfl) hHeld (fun w' hSw=>?_) ?_
      rotate_left
      ·(go_simp;try with_reducible rfl)
      try simp only[Act.put,Zag,Zah,Zai]
     refine Zac (v:=.bool false) rfl (by rfl) hHeld (fun w' hSw=>?_) ?_
     ·(go_simp;try with_reducible rfl)
     try simp only[Act.put,Zag,Zah,Zai]
     refine Zac (v:=.bool false) rfl (by rfl) hHeld (fun w' hSw=>?_) ?_
     ·(go_simp;try with_reducible rfl)
     try simp only[Act.put,Zag,Zah,Zai]
     iterate 10
      refine Zf5 rfl (by rfl) hHeld ?_
      try simp only[Act.put,Zag,Zah,Zai]
     refine ZaC rfl (fun Kf hKf=>?_)
     go_simp
     refine hKf.out _ _ trivial (fun hHeld=>?_)
     clear hKf
     try simp only[Act.put,Zag,Zah,Zai]
     refine Zf5 rfl (by rfl) hHeld ?_
     try simp only[Act.put,Zag,Zah,Zai]
     refine Zaz rfl (fun Kf hKf=>?_)
     go_simp
     refine hKf.out _ _ ?_
     clear hKf
     try simp only[Act.put,Zag,Zah,Zai]
     refine ZaH ?_
     clear hHeld
     go_wp2
     go_roundg (go-1)
     case measure=>have:=HGK.out.1;omega
     case rel=>exact⟨i+1,q,by go_num,by omega,HGK.out.2,.inl hlt,Zaa ⟨SX.out,SE.out.2⟩,O2,G2⟩
  ·have hlti:¬(i:Int)+1<(b:Int):=by omega
   have SX:=Zaa (show ZbY R q a b from fun x y h1 h2 h3=>SE.out.1 x y h1 h2 (by omega))
   go_wp2
   exact bodyPost_end (v:=.tuple #[]) (by simp[results,Tryz.results218,go_sem]) rfl ⟨⟨_,rfl⟩,⟨q,OL.out,SE.out.2.1,SX.out,SE.out.2.2⟩,GR.out⟩
end Go.Proofs.YtfmnagcglhlicaaGreat
