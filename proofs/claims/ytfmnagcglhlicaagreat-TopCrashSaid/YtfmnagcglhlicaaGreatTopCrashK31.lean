/- Texts melted into one: A region that draws its order, with a list of pure operations taken ahead of all. | slices.SortStableFunc on rows of lists: swapRange and rotate. Conditions: the row i -/
import Derived.Test.YtfmnagcglhlicaaGreatTopCrashK30
set_option maxRecDepth 100000
set_option maxHeartbeats 8000000
namespace Go.Proofs.YtfmnagcglhlicaaGreat
open Go.RowKit
section
variable {P:Program} {ops:Array Oper} {Q:Exit→Act→World→Prop} {S:World→Prop} {m:Nat}
def Gu:List Nat→Array Bool→Array Bool
 | [],l=>l
 | i::r,l=>Gu r (l.setIfInBounds i true)
def zT (ops:Array Oper)(m:Nat):List Nat→Array Bool→Bool
 | [],_=>true
 | i::r,l=>Region.free .any ops l i&&(Region.ready .any ops l).contains i&&i != m&&zT ops m r (l.setIfInBounds i true)
def lR (P:Program)(ops:Array Oper)(R:Act→World→Prop):List Nat→Act→World→Prop
 | [],a,w=>R a w
 | i::r,a,w=>∃(v:Value) (oi:Oper),nth ops.toList i=some oi∧Region.wanted oi (yielded ops a.tmps)=true∧(∀w',(execOp a.eval oi).run P w'=.ok (.value v) w')∧lR P ops R r (a.put oi.dst v) w
theorem sP (hs:Region.noSelect ops=true)(hQ:∀c a (d:Tmp) v w,Q (.panic c) (a.put (some d) v) w→Q (.panic c) a w){f:Nat}{l:Scr}:∀(is:List Nat) (listed:Array Bool) (a:Act) (w:World),zT ops m is listed=true→jE .any ops listed→iR .any ops m l f (Gu is listed)=true→S w →
  lR P ops (dJ P ops Q S l) is a w→pX P .any ops Q S m (f+is.length) listed a w
 | [],listed,a,w,_,hc,hok,_,h=>lM (m:=m) hs hQ l _ _ _ _ hc hok h
 | i::r,listed,a,w,hp,hc,hok,hS,h=>by
  obtain⟨v,oi,ho,hw,hy,hrest⟩:=h;simp only[zT,Bool.and_eq_true,bne_iff_ne,ne_eq]at hp;obtain⟨⟨⟨h1,h2⟩,h3⟩,h4⟩:=hp;have hr:i∈Region.ready .any ops listed:=by simpa using h2
  refine oY (fU ho) (Region.noSelect_spec hs) (fun c a w h=>by cases hd:oi.dst with|none=>rw[hd]at h;exact h|some d=>rw[hd]at h;exact hQ c a d _ w h) h3 (f+r.length) listed a w (Region.free_spec (fU ho) h1) hr (fun _=>hS) (.inl ⟨hw,fun w' _=>hy w'⟩) ?_;exact sP hs hQ r _ _ _ h4 (hc.set hr) hok hS hrest
theorem gU {id:Nat} (m:Nat) (is:List Nat) (f:Nat) (l:Scr) (S:World→Prop) {a:Act} {w:World} (hm:P.follows .mixedOrders=true) (hs:Region.noSelect ops=true)
  (hp:zT ops m is (Array.replicate ops.size false)=true) (hf:ops.size=f+is.length) (hok:iR .any ops m l f (Gu is (Array.replicate ops.size false))=true)
  (hQ:∀c a (d:Tmp) v w,Q (.panic c) (a.put (some d) v) w→Q (.panic c) a w) (hS:S w.drew) (h:S w.drew→lR P ops (dJ P ops Q S l) is a w.drew):(Code.region id ops true).wp P Q a w:=by
 refine wp_region_any hm (kS (S:=S) (m:=m) _ _ _ _ ?_);have key:=sP (P:=P) (Q:=Q) (S:=S) (m:=m) (f:=f) (l:=l) hs hQ is (Array.replicate ops.size false) a w.drew hp (jE.start _) hok hS (h hS);rw[←hf]at key;exact key
theorem IQ {R:Act→World→Prop}{i:Nat}{r:List Nat}{a:Act}{w:World}{oi:Oper}{v:Value}(ho:nth ops.toList i=some oi)(hw:Region.wanted oi (yielded ops a.tmps)=true)(hy:∀w',(execOp a.eval oi).run P w'=.ok (.value v) w')(h:lR P ops R r (a.put oi.dst v) w):lR P ops R (i::r) a w:=⟨v,oi,ho,hw,hy,h⟩
end
def Gv (f:Nat→LIn)(n:Nat):LLi:=(List.range n).map f
theorem eB {f:Nat→LIn}{n k:Nat}(h:k<n):(Gv f n)[k]?=some (f k):=by simp[Gv,h]
theorem qR (f:Nat→LIn)(n:Nat):(Gv f n).length=n:=by simp[Gv]
theorem qS {f:Nat→LIn}{n i j:Nat}(hi:i<n)(hj:j<n):((Gv f n).set i (f j)).set j (f i)=Gv (gP f i j) n:=by
 apply List.ext_getElem?
 intro k;by_cases hk:k<n
 ·rw[eB hk,List.getElem?_set,List.length_set,qR,List.getElem?_set,qR,eB hk];unfold gP;by_cases h1:j=k
  ·subst h1;rw[if_pos rfl,if_pos hj];by_cases h2:j=i
   ·subst h2;rw[if_pos rfl]
   ·rw[if_neg h2,if_pos rfl]
  ·rw[if_neg h1];by_cases h2:i=k
   ·subst h2;rw[if_pos rfl,if_pos hi,if_pos rfl]
   ·rw[if_neg h2,if_neg (fun e=>h2 e.symm),if_neg (fun e=>h1 e.symm)]
 ·rw[List.getElem?_eq_none (by simp[qR];omega),List.getElem?_eq_none (by rw[qR];omega)]
abbrev j6 (w:World)(B B2 g n cap:Nat)(f:Nat→LIn):Prop:=jT w B B2 (.slice (some ⟨g,0,none⟩) n cap) n (Gv f n)
theorem jO {w:World}{B B2 g n cap:Nat}{f:Nat→LIn}(own:j6 w B B2 g n cap f)(a b k:Nat)(ha:a+k≤n)(hb:b+k≤n)(hd:a+k≤b∨b+k≤a)(hn:n≤1000)(fv:Value) :
  Calls Tryz.prog 257 #[.slice (some ⟨g,0,none⟩) n cap,.int .i64 a,.int .i64 b,.int .i64 k,fv] w fun e w'=>(∃y,e=.returned y)∧j6 w' B B2 g n cap (wV f a b k)∧w.grownBy w' (some g):=by
 have OW:=aA own;clear own;go_enter Tryz.func257,Tryz.ntmps257
 go_wp2
 go_loopg [10] k (fun gk u wr=>∃i:Nat,i+gk=k∧u=.int .i64 i∧Hid (j6 wr B B2 g n cap (wV f a b i))∧Hid (w.grownBy wr (some g)))
 case atStart=>exact⟨0,by omega,rfl,aA (by rw[OQ];exact OW.o),aA (World.grownBy.refl _ _)⟩
 case round =>
  clear OW;obtain⟨i,hi,rfl,OL,GR⟩:=hrel;by_cases hlt:i<k
  ·have hki:(i:Int)<(k:Int):=by omega
   have hwa:IntKind.i64.wrap ((a:Int)+(i:Int))=(a:Int)+(i:Int):=by simp[IntKind.wrap,IntKind.bits,IntKind.signed];omega
   have hwb:IntKind.i64.wrap ((b:Int)+(i:Int))=(b:Int)+(i:Int):=by simp[IntKind.wrap,IntKind.bits,IntKind.signed];omega
   have hai:0≤(a:Int)+(i:Int)∧(a:Int)+(i:Int)<(n:Int):=by omega
   have hbi:0≤(b:Int)+(i:Int)∧(b:Int)+(i:Int)<(n:Int):=by omega
   obtain⟨ha0,ha1⟩:=hai;obtain⟨hb0,hb1⟩:=hbi;have hna:((a:Int)+(i:Int)).toNat=a+i:=by omega
   have hnb:((b:Int)+(i:Int)).toNat=b+i:=by omega
   have OD:=aA (OL.o.keep ((Below.refl wr.heap.size wr).drew));have GD:=aA (GR.o.trans (iE ((Below.refl wr.heap.size wr).drew) (some g)));obtain⟨Ax,mx,cx,q1,ix,hmx⟩:=OD.o.at (eB (f:=wV f a b i) (show a+i<n by omega));obtain⟨Ay,my,cy,q2,iy,hmy⟩:=OD.o.at (eB (f:=wV f a b i) (show b+i<n by omega));have IX:=aA ix;have IY:=aA iy;have HGK:=aA (show gk=(gk-1)+1∧i+1+(gk-1)=k by omega);clear ix iy OL GR;go_upto_region 3 with fail
   refine gU 20 [4,5,6,7] 20 (.takes [0,1,2,3,8,9,10,11,12,13,14,15,16,17,18,19] (.fin 20 (.fin 21 (.fin 22 (.fin 23 .done))))) (fun w'=>w'.cell? ⟨g,a+i,none⟩=some (.slice Ax mx cx)∧w'.cell? ⟨g,b+i,none⟩=some (.slice Ay my cy)) (by kernel_rfl) (by kernel_rfl) (by kernel_rfl) rfl (by kernel_rfl) (fun _ _ _ _ _ h=>h) ⟨q1,q2⟩ (fun hH=>?_);generalize wr.drew=y1 at *
   iterate 4
    refine IQ (v:=?_) rfl (by rfl) (fun w'=>?_) ?_
    rotate_left
    ·(go_simp;try with_reducible rfl)
    try simp only[Act.put,aL,aM,aN]
   simp only[lR,Scr.takes]
   iterate 16
    refine aH (v:=?_) rfl (by rfl) hH (fun w' hSw=>?_) ?_
    rotate_left
    ·(go_simp;try with_reducible rfl)
    try simp only[Act.put,aL,aM,aN]
   clear q1 q2 hH;have z1:=OD.o.frozen (a+i);obtain⟨v1,y10⟩:=Option.isSome_iff_exists.1 (jT.anyCell OD.o (j:=a+i) (by omega));refine bF rfl (fun Kf hKf=>?_);go_simp
   refine hKf.out _ _ ?_;clear hKf;try simp only[Act.put,aL,aM,aN]
   refine bF rfl (fun Kf hKf=>?_);go_simp
   refine hKf.out _ _ ?_;clear hKf z1 y10;try simp only[Act.put,aL,aM,aN]
   have O2:=aA (jT.put OD.o (a+i) IY.o hmy);have G2:=aA (GD.o.trans (fW y1 g (a+i) (.slice Ay my cy)));have IX2:=aA (nO OD.o IX.o (a+i) (.slice Ay my cy));generalize y1.setCell ⟨g,a+i,none⟩ (.slice Ay my cy)=y2 at *
   have z2:=O2.o.frozen (b+i);obtain⟨v2,y20⟩:=Option.isSome_iff_exists.1 (jT.anyCell O2.o (j:=b+i) (by omega));refine bF rfl (fun Kf hKf=>?_);go_simp
   refine hKf.out _ _ ?_;clear hKf;try simp only[Act.put,aL,aM,aN]
   refine bF rfl (fun Kf hKf=>?_);go_simp
   refine hKf.out _ _ ?_;clear hKf z2 y20;try simp only[Act.put,aL,aM,aN]
   have O3:=aA (jT.put O2.o (b+i) IX2.o hmx);have G3:=aA (G2.o.trans (fW y2 g (b+i) (.slice Ax mx cx)));refine bP ?_;generalize y2.setCell ⟨g,b+i,none⟩ (.slice Ax mx cx)=y3 at *
   have O4:=aA (show j6 y3 B B2 g n cap (wV f a b (i+1)) by
    have:=O3.o;rw[qS (f:=wV f a b i) (show a+i<n by omega) (show b+i<n by omega),OT (by omega)]at this;exact this)
   clear O2 O3 OD;go_wp2
   go_roundg (gk-1)
   case measure=>have:=HGK.o.1;omega
   case rel=>exact⟨i+1,HGK.o.2,by go_num,O4,G3⟩
  ·obtain rfl:i=k:=by omega
   go_wp2
   exact bodyPost_end (v:=.tuple #[]) (by simp[results,Tryz.results257,go_sem]) rfl ⟨⟨_,rfl⟩,OL.o,GR.o⟩
theorem zU {w:World}{B B2 g n cap:Nat}{f:Nat→LIn}(own:j6 w B B2 g n cap f)(a m b:Nat)(h1:a<m)(h2:m<b)(hb:b≤n)(hn:n≤1000)(fv:Value) :
  Calls Tryz.prog 234 #[.slice (some ⟨g,0,none⟩) n cap,.int .i64 a,.int .i64 m,.int .i64 b,fv] w fun e w'=>(∃y,e=.returned y)∧j6 w' B B2 g n cap (dP f a m b)∧w.grownBy w' (some g):=by
 have OW:=aA own;clear own;have hw1:IntKind.i64.wrap ((m:Int)-(a:Int))=(m:Int)-(a:Int):=by simp[IntKind.wrap,IntKind.bits,IntKind.signed];omega
 have hw2:IntKind.i64.wrap ((b:Int)-(m:Int))=(b:Int)-(m:Int):=by simp[IntKind.wrap,IntKind.bits,IntKind.signed];omega
 go_enter Tryz.func234,Tryz.ntmps234
 go_wp2
 clear hw1 hw2;go_loopg [10,11] (b-a) (fun gk u v wr=>∃(i j:Nat) (q:Nat→LIn),u=.int .i64 i∧v=.int .i64 j∧i+j≤gk∧Hid (L8 f q a m b i j)∧Hid (j6 wr B B2 g n cap q)∧Hid (w.grownBy wr (some g)))
 case atStart=>exact⟨m-a,b-m,f,by rw[show((m-a:Nat):Int)=(m:Int)-a by omega],by rw[show((b-m:Nat):Int)=(b:Int)-m by omega],by omega,L8.start h1 h2,OW,aA (World.grownBy.refl _ _)⟩
 case round =>
  clear OW;obtain⟨i,j,q,rfl,rfl,hij,RI,OL,GR⟩:=hrel;have ri:=RI.o;obtain⟨r1,r2,r3,r4,_⟩:=ri;have ei:((m-i:Nat):Int)=(m:Int)-(i:Int):=by omega
  have hwi:IntKind.i64.wrap ((m:Int)-(i:Int))=(m:Int)-(i:Int):=by simp[IntKind.wrap,IntKind.bits,IntKind.signed];omega
  by_cases hne:i=j
  ·subst hne;have CS:=aA (show Calls Tryz.prog 257 #[.slice (some ⟨g,0,none⟩) n cap,.int .i64 ((m:Int)-(i:Int)),.int .i64 m,.int .i64 i,fv] wr (fun e w'=>(∃y,e=.returned y)∧j6 w' B B2 g n cap (dP f a m b)∧wr.grownBy w' (some g))from by
    have:=jO OL.o (m-i) m i (by omega) (by omega) (by omega) hn fv;rw[ei,RI.o.fin h1]at this;exact this)
   go_wp2_with fail
   refine CS.o.mono ?_;rintro e w1 ⟨⟨y,rfl⟩,o1,g1⟩;have O1:=aA o1;have G1:=aA (GR.o.trans g1);clear o1 g1;go_wp2
   exact bodyPost_end (v:=.tuple #[]) (by simp[results,Tryz.results234,go_sem]) rfl ⟨⟨_,rfl⟩,O1.o,G1.o⟩
  ·have hneb:((i:Int) !=(j:Int))=true:=by simp;omega
   by_cases hgt:j<i
   ·have hgti:(j:Int)<(i:Int):=by omega
    have hwj:IntKind.i64.wrap ((i:Int)-(j:Int))=(i:Int)-(j:Int):=by simp[IntKind.wrap,IntKind.bits,IntKind.signed];omega
    have CS:=aA (show Calls Tryz.prog 257 #[.slice (some ⟨g,0,none⟩) n cap,.int .i64 ((m:Int)-(i:Int)),.int .i64 m,.int .i64 j,fv] wr (fun e w'=>(∃y,e=.returned y)∧j6 w' B B2 g n cap (wV q (m-i) m j)∧wr.grownBy w' (some g))from by
     have:=jO OL.o (m-i) m j (by omega) (by omega) (by omega) hn fv;rw[ei]at this;exact this)
    have RN:=aA (RI.o.left h1 hgt);have HM:=aA (show gk-j<gk∧(i-j)+j≤gk-j by omega);go_wp2_with fail
    refine CS.o.mono ?_;rintro e w1 ⟨⟨y,rfl⟩,o1,g1⟩;have O1:=aA o1;have G1:=aA (GR.o.trans g1);clear o1 g1;go_wp2
    go_roundg (gk-j)
    case measure=>exact HM.o.1
    case rel=>exact⟨i-j,j,_,by rw[show((i-j:Nat):Int)=(i:Int)-j by omega],rfl,HM.o.2,RN,O1,G1⟩
   ·have hlt:i<j:=by omega
    have hgti:¬(j:Int)<(i:Int):=by omega
    have hwj:IntKind.i64.wrap ((j:Int)-(i:Int))=(j:Int)-(i:Int):=by simp[IntKind.wrap,IntKind.bits,IntKind.signed];omega
    have hwm:IntKind.i64.wrap ((m:Int)+(j:Int))=(m:Int)+(j:Int):=by simp[IntKind.wrap,IntKind.bits,IntKind.signed];omega
    have hwx:IntKind.i64.wrap ((m:Int)+(j:Int)-(i:Int))=(m:Int)+(j:Int)-(i:Int):=by simp[IntKind.wrap,IntKind.bits,IntKind.signed];omega
    have CS:=aA (show Calls Tryz.prog 257 #[.slice (some ⟨g,0,none⟩) n cap,.int .i64 ((m:Int)-(i:Int)),.int .i64 ((m:Int)+(j:Int)-(i:Int)),.int .i64 i,fv] wr (fun e w'=>(∃y,e=.returned y)∧j6 w' B B2 g n cap (wV q (m-i) (m+j-i) i)∧wr.grownBy w' (some g))from by
     have:=jO OL.o (m-i) (m+j-i) i (by omega) (by omega) (by omega) hn fv;rw[ei,show((m+j-i:Nat):Int)=(m:Int)+(j:Int)-(i:Int) by omega]at this;exact this)
    have RN:=aA (RI.o.right h1 hlt);have HM:=aA (show gk-i<gk∧i+(j-i)≤gk-i by omega);go_wp2_with fail
    refine CS.o.mono ?_;rintro e w1 ⟨⟨y,rfl⟩,o1,g1⟩;have O1:=aA o1;have G1:=aA (GR.o.trans g1);clear o1 g1;go_wp2
    go_roundg (gk-i)
    case measure=>exact HM.o.1
    case rel=>exact⟨i,j-i,_,rfl,by rw[show((j-i:Nat):Int)=(j:Int)-i by omega],HM.o.2,RN,O1,G1⟩
theorem Po {P:Program} {ops:Array Oper} {Q:Exit→Act→World→Prop} {S:World→Prop} {i:Nat} {r:Scr} {a:Act} {w:World} {o:Oper} (ho:nth ops.toList i=some o) (hw:Region.wanted o (yielded ops a.tmps)=false) (hS:S w)
  (h:dJ P ops Q S r (a.put o.dst undef) w):dJ P ops Q S (.take i r) a w :=
 ⟨o,undef,fU ho,.inr ⟨hw,rfl⟩,hS,h⟩
structure l8 (F:FuncId)(cv:Array Value)(w:World)(g:Nat)(R:LIn→LIn→Prop)(S:LIn→Prop):Prop where
 enters:∀args w,(callFunc F args).run Tryz.prog w=.ok (.enter F args) w
 calls:∀(wr:World) (A B:OAd) (n c m d:Nat) (x y:LIn),w.grownBy wr (some g)→aJ wr A n c x→aJ wr B m d y→S x→S y→x≠y →
  Calls Tryz.prog F (#[.slice A n c,.slice B m d]++cv) wr fun e w'=>∃v:Int,e=.returned (.int .i64 v)∧(v<0↔R x y)∧Below wr.heap.size wr w'
theorem l8.later {F:FuncId}{cv:Array Value}{w w':World}{g:Nat}{R:LIn→LIn→Prop}{S:LIn→Prop}(h:l8 F cv w g R S)(hg:w.grownBy w' (some g)):l8 F cv w' g R S :=
 ⟨h.enters,fun wr A B n c m d x y h1=>h.calls wr A B n c m d x y (hg.trans h1)⟩
theorem lS {w:World}{B B2 g n cap:Nat}{f:Nat→LIn}{F:FuncId}{cv:Array Value}{R:LIn→LIn→Prop}{S:LIn→Prop}(own:j6 w B B2 g n cap f)(a b:Nat)(hab:a≤b)(hb:b≤n)(hn:n≤1000)(o:zS R S)(G:dQ S f n)(hF:l8 F cv w g R S) :
  Calls Tryz.prog 218 #[.slice (some ⟨g,0,none⟩) n cap,.int .i64 a,.int .i64 b,.func (.func F) #[] cv] w fun e w'=>(∃y,e=.returned y)∧(∃q,j6 w' B B2 g n cap q∧dQ S q n∧fA R q a b∧dO q f a b)∧w.grownBy w' (some g):=by
 have OW:=aA own;have henter:=hF.enters;have HF:=aA hF;have HO:=aA o;have GD:=aA G;clear own hF o G;have hwa:IntKind.i64.wrap ((a:Int)+1)=(a:Int)+1:=by simp[IntKind.wrap,IntKind.bits,IntKind.signed];omega
 go_enter Tryz.func218,Tryz.ntmps218
 go_wp2
 clear hwa;go_loopg [8] (b-a) (fun gk u wr=>∃(i:Nat) (q:Nat→LIn),u=.int .i64 ((i+1:Nat):Int)∧a≤i∧(i<b→i+gk=b)∧(i<b∨i=a)∧Hid (fA R q a (i+1)∧dQ S q n∧dO q f a b)∧Hid (j6 wr B B2 g n cap q)∧Hid (w.grownBy wr (some g)))
 case atStart=>exact⟨a,f,by simp,Nat.le_refl _,by omega,by omega,aA ⟨fun i j h1 h2 h3=>by omega,GD.o,dO.refl _ _ _⟩,OW,aA (World.grownBy.refl _ _)⟩
 case round =>
  clear OW;obtain⟨i,q,rfl,hai,hgk,hib,SE,OL,GR⟩:=hrel;by_cases hlt:i+1<b
  ·have hlti:(i:Int)+1<(b:Int):=by omega
   have HGK:=aA (show gk=(gk-1)+1∧(i+1<b→(i+1)+(gk-1)=b) by have:=hgk (by omega);omega);have INS:=aA (RU.start SE.o.1 (by omega));obtain⟨go,hgo⟩:∃go:Nat,go=gk:=⟨_,rfl⟩;subst hgo;go_wp2
   go_loopg [9] (i+1-a) (fun gk u wr=>∃(j:Nat) (q:Nat→LIn),u=.int .i64 j∧j=a+gk∧j≤i+1∧Hid (RU R q a j (i+1)∧dQ S q n∧dO q f a b)∧Hid (j6 wr B B2 g n cap q)∧Hid (w.grownBy wr (some g)))
   case atStart=>exact⟨i+1,q,by simp,by omega,Nat.le_refl _,aA ⟨INS.o,SE.o.2⟩,OL,GR⟩
   case round =>
    clear INS SE OL GR;obtain⟨j,q,rfl,hj,hji,SE,OL,GR⟩:=hrel;have OD:=aA (OL.o.keep ((Below.refl wr.heap.size wr).drew));have GX:=aA (GR.o.trans (iE ((Below.refl wr.heap.size wr).drew) (some g)));clear OL GR;by_cases haj:a<j
    ·obtain⟨p,rfl⟩:∃p,j=p+1:=⟨j-1,by omega⟩;have haji:(a:Int)<(p:Int)+1:=by omega
     have hp0:0≤(p:Int)+1:=by omega
     have hp1:(p:Int)+1<(n:Int):=by omega
     have hp2:(p:Int)<(n:Int):=by omega
     have hwp:IntKind.i64.wrap (p:Int)=(p:Int):=by simp[IntKind.wrap,IntKind.bits,IntKind.signed];omega
     have HJ:=aA (show gk=(gk-1)+1∧p=a+(gk-1)∧p≤i+1 by omega);clear hj;obtain⟨Ax,mx,cx,q1,ix,hmx⟩:=OD.o.at (eB (f:=q) (show p+1<n by omega));obtain⟨Ay,my,cy,q2,iy,hmy⟩:=OD.o.at (eB (f:=q) (show p<n by omega));have CL:=aA (HF.o.calls wr.drew Ax Ay mx cx my cy (q (p+1)) (q p) GX.o (jT.ints ix hmx) (jT.ints iy hmy) (SE.o.2.1.mem _ (by omega)) (SE.o.2.1.mem _ (by omega)) (fun e=>by have:=SE.o.2.1.inj _ _ (by omega) (by omega) e;omega));clear ix iy;go_upto_region 4 with fail
     refine aF 16 (.takes [0,1,2,3,4,5,6,7,8,9,10,11,12,13] (.one 14 (.take 15 (.fin 16 .done)))) (fun w'=>w'.cell? ⟨g,p+1,none⟩=some (.slice Ax mx cx)∧w'.cell? ⟨g,p,none⟩=some (.slice Ay my cy)) (by kernel_rfl) (by kernel_rfl) (by kernel_rfl) (fun _ _ _ _ _ h=>h) ⟨q1,q2⟩ (fun hH=>?_);simp only[Scr.takes];clear q1 q2;generalize wr.drew=y1 at *
     have HGB:=aA (OD.o.lt g rfl).2
     iterate 2
      refine aH (v:=?_) rfl (by rfl) hH (fun w' hSw=>?_) ?_
      rotate_left
      ·(go_simp;try with_reducible rfl)
      try simp only[Act.put,aL,aM,aN]
     refine aH (v:=.bool true) rfl (by rfl) hH (fun w' hSw=>?_) ?_
     ·(go_simp;try with_reducible rfl)
     try simp only[Act.put,aL,aM,aN]
     refine aH (v:=.bool true) rfl (by rfl) hH (fun w' hSw=>?_) ?_
     ·(go_simp;try with_reducible rfl)
     try simp only[Act.put,aL,aM,aN]
     iterate 10
      refine aH (v:=?_) rfl (by rfl) hH (fun w' hSw=>?_) ?_
      rotate_left
      ·(go_simp;try with_reducible rfl)
      try simp only[Act.put,aL,aM,aN]
     refine bI rfl (fun Kf hKf=>?_);go_simp
     refine CL.o.mono ?_;rintro e y2 ⟨cv2,rfl,hv,hb2⟩;refine hKf.out _ _ ⟨(hb2.cell (p:=⟨g,p+1,none⟩) HGB.o).trans hH.1,(hb2.cell (p:=⟨g,p,none⟩) HGB.o).trans hH.2⟩ (fun hH=>?_);clear hKf;try simp only[Act.put,aL,aM,aN]
     have O2:=aA (OD.o.keep hb2);have G2:=aA (GX.o.trans (iE hb2 (some g)));have HV:=aA hv;clear hb2 hv CL OD GX HGB;by_cases hneg:cv2<0
     ·refine aH (v:=.bool true) rfl (by rfl) hH (fun w' hSw=>?_) ?_
      ·(go_simp;try with_reducible rfl)
      try simp only[Act.put,aL,aM,aN]
      refine bF rfl (fun Kf hKf=>?_);go_simp
      refine hKf.out _ _ ?_;clear hKf;try simp only[Act.put,aL,aM,aN]
      refine bP ?_;clear hH;have DN:=aA (SE.o.1.down haj (by simpa using HV.o.1 hneg));have GN:=aA (SE.o.2.1.swap (i:=p+1) (j:=p) (by omega) (by omega));have SN:=aA ((dO.swap q (a:=a) (b:=b) (i:=p+1) (j:=p) (by omega) (by omega)).trans SE.o.2.2);clear hneg HV;have OD:=aA (O2.o.keep ((Below.refl y2.heap.size y2).drew));have GX:=aA (G2.o.trans (iE ((Below.refl y2.heap.size y2).drew) (some g)));obtain⟨Ax,mx,cx,q1,ix,hmx⟩:=OD.o.at (eB (f:=q) (show p+1<n by omega));obtain⟨Ay,my,cy,q2,iy,hmy⟩:=OD.o.at (eB (f:=q) (show p<n by omega));have IX:=aA ix;have IY:=aA iy;clear ix iy O2 G2;go_upto_region 6 with fail
      refine gU 14 [2,3,4] 15 (.takes [0,1,5,6,7,8,9,10,11,12,13] (.fin 14 (.fin 15 (.fin 16 (.fin 17 .done))))) (fun w'=>w'.cell? ⟨g,p+1,none⟩=some (.slice Ax mx cx)∧w'.cell? ⟨g,p,none⟩=some (.slice Ay my cy)) (by kernel_rfl) (by kernel_rfl) (by kernel_rfl) rfl (by kernel_rfl) (fun _ _ _ _ _ h=>h) ⟨q1,q2⟩ (fun hH=>?_);generalize y2.drew=y3 at *
      iterate 3
       refine IQ (v:=?_) rfl (by rfl) (fun w'=>?_) ?_
       rotate_left
       ·(go_simp;try with_reducible rfl)
       try simp only[Act.put,aL,aM,aN]
      simp only[lR,Scr.takes]
      iterate 11
       refine aH (v:=?_) rfl (by rfl) hH (fun w' hSw=>?_) ?_
       rotate_left
       ·(go_simp;try with_reducible rfl)
       try simp only[Act.put,aL,aM,aN]
      clear q1 q2 hH;have z1:=OD.o.frozen (p+1);obtain⟨v1,y10⟩:=Option.isSome_iff_exists.1 (jT.anyCell OD.o (j:=p+1) (by omega));refine bF rfl (fun Kf hKf=>?_);go_simp
      refine hKf.out _ _ ?_;clear hKf;try simp only[Act.put,aL,aM,aN]
      refine bF rfl (fun Kf hKf=>?_);go_simp
      refine hKf.out _ _ ?_;clear hKf z1 y10;try simp only[Act.put,aL,aM,aN]
      have O2:=aA (jT.put OD.o (p+1) IY.o hmy);have G2:=aA (GX.o.trans (fW y3 g (p+1) (.slice Ay my cy)));have IX2:=aA (nO OD.o IX.o (p+1) (.slice Ay my cy));generalize y3.setCell ⟨g,p+1,none⟩ (.slice Ay my cy)=y4 at *
      have z2:=O2.o.frozen p;obtain⟨v2,y20⟩:=Option.isSome_iff_exists.1 (jT.anyCell O2.o (j:=p) (by omega));refine bF rfl (fun Kf hKf=>?_);go_simp
      refine hKf.out _ _ ?_;clear hKf;try simp only[Act.put,aL,aM,aN]
      refine bF rfl (fun Kf hKf=>?_);go_simp
      refine hKf.out _ _ ?_;clear hKf z2 y20;try simp only[Act.put,aL,aM,aN]
      have O3:=aA (jT.put O2.o p IX2.o hmx);have G3:=aA (G2.o.trans (fW y4 g p (.slice Ax mx cx)));refine bP ?_;generalize y4.setCell ⟨g,p,none⟩ (.slice Ax mx cx)=y5 at *
      have O4:=aA (show j6 y5 B B2 g n cap (gP q (p+1) p) by
       have:=O3.o;rw[qS (f:=q) (show p+1<n by omega) (show p<n by omega)]at this;exact this)
      clear O2 O3 OD;go_wp2
      go_roundg (gk-1)
      case measure=>have:=HJ.o.1;omega
      case rel=>exact⟨p,_,by go_num,HJ.o.2.1,HJ.o.2.2,aA ⟨by have:=DN.o;simpa using this,GN.o,SN.o⟩,O4,G3⟩
     ·refine aH (v:=.bool false) rfl (by rfl) hH (fun w' hSw=>?_) ?_
      ·(go_simp;try with_reducible rfl)
      try simp only[Act.put,aL,aM,aN]
      refine bF rfl (fun Kf hKf=>?_);go_simp
      refine hKf.out _ _ ?_;clear hKf;try simp only[Act.put,aL,aM,aN]
      refine bP ?_;clear hH;have SX:=aA (SE.o.1.stop HO.o SE.o.2.1 (by omega) (fun _=>by simpa using fun h=>hneg (HV.o.2 h)));clear hneg HV;go_wp2
      go_roundg (go-1)
      case measure=>have:=HGK.o.1;omega
      case rel=>exact⟨i+1,q,by go_num,by omega,HGK.o.2,.inl hlt,aA ⟨SX.o,SE.o.2⟩,O2,G2⟩
    ·obtain rfl:j=a:=by omega
     clear hj;have SX:=aA (SE.o.1.stop HO.o SE.o.2.1 (by omega) (fun h=>absurd h haj));have O2:=OD;have G2:=GX;go_upto_region 4 with fail
     refine aF 16 (.takes [0,1,2,3,4,5,6,7,8,9,10,11,12,13] (.one 14 (.take 15 (.fin 16 .done)))) (fun _=>True) (by kernel_rfl) (by kernel_rfl) (by kernel_rfl) (fun _ _ _ _ _ h=>h) trivial (fun hH=>?_);simp only[Scr.takes];generalize wr.drew=y1 at *
     iterate 2
      refine aH (v:=?_) rfl (by rfl) hH (fun w' hSw=>?_) ?_
      rotate_left
      ·(go_simp;try with_reducible rfl)
      try simp only[Act.put,aL,aM,aN]
     refine aH (v:=.bool false) rfl (by rfl) hH (fun w' hSw=>?_) ?_
     ·(go_simp;try with_reducible rfl)
     try simp only[Act.put,aL,aM,aN]
     refine aH (v:=.bool false) rfl (by rfl) hH (fun w' hSw=>?_) ?_
     ·(go_simp;try with_reducible rfl)
     try simp only[Act.put,aL,aM,aN]
     iterate 10
      refine Po rfl (by rfl) hH ?_;try simp only[Act.put,aL,aM,aN]
     refine bI rfl (fun Kf hKf=>?_);go_simp
     refine hKf.out _ _ trivial (fun hH=>?_);clear hKf;try simp only[Act.put,aL,aM,aN]
     refine Po rfl (by rfl) hH ?_;try simp only[Act.put,aL,aM,aN]
     refine bF rfl (fun Kf hKf=>?_);go_simp
     refine hKf.out _ _ ?_;clear hKf;try simp only[Act.put,aL,aM,aN]
     refine bP ?_;clear hH;go_wp2
     go_roundg (go-1)
     case measure=>have:=HGK.o.1;omega
     case rel=>exact⟨i+1,q,by go_num,by omega,HGK.o.2,.inl hlt,aA ⟨SX.o,SE.o.2⟩,O2,G2⟩
  ·have hlti:¬(i:Int)+1<(b:Int):=by omega
   have SX:=aA (show fA R q a b from fun x y h1 h2 h3=>SE.o.1 x y h1 h2 (by omega));go_wp2
   exact bodyPost_end (v:=.tuple #[]) (by simp[results,Tryz.results218,go_sem]) rfl ⟨⟨_,rfl⟩,⟨q,OL.o,SE.o.2.1,SX.o,SE.o.2.2⟩,GR.o⟩
end Go.Proofs.YtfmnagcglhlicaaGreat
