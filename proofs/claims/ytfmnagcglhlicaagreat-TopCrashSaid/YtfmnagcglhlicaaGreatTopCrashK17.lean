/- Texts melted into one: The contracts of the library's Index and Contains on integers. Conditions: the slices read as lists. | IndexFunc on lists of lists, and the test of Path. Conditions: t -/
import Derived.Test.YtfmnagcglhlicaaGreatTopCrashK16
set_option maxRecDepth 100000
set_option maxHeartbeats 4000000
namespace Go.Proofs.YtfmnagcglhlicaaGreat
open Go.RowKit
theorem wN {w:World}{A:OAd}{n c:Nat}{xs:LIn}(x:Int)(h:aJ w A n c xs) :
  Calls Tryz.prog 188 #[.slice A n c,.int .i64 x] w fun e w'=>e=.returned (.int .i64 (cC (fun y=>x==y) xs))∧w=w':=by
 have hn:=h.small;have H:=aA h;clear h;go_enter Tryz.func188,Tryz.ntmps188
 go_wp2
 go_loop [8] (fun v=>∃k:Nat,k≤n∧v=.int .i64 k∧Hid (∀j,j<k→∀y,xs[j]?=some y→(x==y)=false)) (fun v=>n-(intOf v).toNat)
 case atStart=>exact⟨0,Nat.zero_le _,rfl,fun j hj=>absurd hj (by omega)⟩
 case round =>
  obtain⟨k,hk,rfl,lo⟩:=hrel;by_cases hlt:k<n
  ·have hki:(k:Int)<(n:Int):=by omega
   obtain⟨b,off,y,rfl,hb,hy,qy⟩:=aJ.get H.o hlt;by_cases he:x=y
   ·subst he;go_wp2
    go_ret
    exact⟨aT (cJ lo.o hy.o (by simp)).symm,rfl⟩
   ·have hne:(x==y)=false:=by simpa using he
    have HN:=aA hne;clear he;go_wp2
    go_round
    case rel =>
     refine⟨k+1,by omega,by go_num,fun j hj z hz=>?_⟩;by_cases hjk:j=k
     ·subst hjk;have:=hy.o;rw[hz]at this;injection this with this;rw[this];exact HN.o
     ·exact lo.o j (by omega) z hz
    case measure=>simp[intOf];omega
  ·go_wp2
   go_ret
   exact⟨aT (cL (fun j hj z hz=>lo.o j (by have:=H.o.len;omega) z hz)).symm,rfl⟩
theorem eT {w:World}{A:OAd}{n c:Nat}{xs:LIn}(x:Int)(h:aJ w A n c xs) :
  Calls Tryz.prog 143 #[.slice A n c,.int .i64 x] w fun e w'=>e=.returned (.bool (xs.any fun y=>x==y))∧w=w':=by
 have H:=aA h;clear h;go_enter Tryz.func143,Tryz.ntmps143
 go_wp2_with (refine(wN x H.o).mono ?_;rintro e w' ⟨rfl,rfl⟩)
 go_ret
 exact⟨aY (gW _ _),rfl⟩
structure uX (F:FuncId)(cap:Array Value)(w:World)(p:LIn→Bool):Prop where
 enters:∀args w,(callFunc F args).run Tryz.prog w=.ok (.enter F args) w
 calls:∀(wr:World) (A:OAd) (n c:Nat) (y:LIn),Below w.heap.size w wr→aJ wr A n c y →
  Calls Tryz.prog F (#[.slice A n c]++cap) wr fun e w'=>e=.returned (.bool (p y))∧Below wr.heap.size wr w'
theorem iI {w:World}{A:OAd}{n c:Nat}{ms:LLi}{F:FuncId}{cap:Array Value}{p:LIn→Bool}(h:bT w A n c ms)(hp:uX F cap w p) :
  Calls Tryz.prog 26 #[.slice A n c,.func (.func F) #[] cap] w fun e w'=>e=.returned (.int .i64 (cC p ms))∧Below w.heap.size w w':=by
 have hn:=h.small;have henter:=hp.enters;have H:=aA h;have HP:=aA hp;clear h hp;go_enter Tryz.func26,Tryz.ntmps26
 go_wp2
 go_loopw [8] (fun i wr=>∃k:Nat,k≤n∧i=.int .i64 k∧Hid (∀j,j<k→∀y,ms[j]?=some y→p y=false)∧Hid (Below w.heap.size w wr)) (fun i _=>n-(intOf i).toNat)
 case atStart=>exact⟨0,Nat.zero_le _,rfl,fun j hj=>absurd hj (by omega),Below.refl _ _⟩
 case round =>
  obtain⟨k,hk,rfl,hlow,D⟩:=hrel;by_cases hlt:k<n
  ·have hki:(k:Int)<(n:Int):=by omega
   obtain⟨b,off,t,vs,rfl,hb,ht,hc,A1,n1,c1,e1,i1,hn1⟩:=Sl.get (Sl.keep bH.kept H.o D.o) hlt;have q0:wr.cell? ⟨b,off+k,none⟩=some (.slice A1 n1 c1):=by have:=hc 0 (by omega);rw[e1]at this;simpa using this
   have CL:=aA (HP.o.calls wr A1 n1 c1 t D.o i1);have HT:=aA ht;obtain⟨v,hv⟩:∃v,p t=v:=⟨_,rfl⟩;have HV:=aA hv;rw[hv]at CL;clear hv hc e1 i1 ht;cases v
   ·go_wp2_with (refine CL.o.mono ?_;rintro e w' ⟨rfl,hb'⟩;have HB:=aA hb';clear hb')
    go_roundw
    case rel =>
     refine⟨k+1,by omega,by go_num,fun j hj y hy=>?_,D.o.trans (HB.o.mono D.o.size)⟩;by_cases hjk:j=k
     ·subst hjk;have:=HT.o;rw[hy]at this;injection this with this;rw[this];exact HV.o
     ·exact hlow.o j (by omega) y hy
    case measure=>simp[intOf];omega
   ·go_wp2_with (refine CL.o.mono ?_;rintro e w' ⟨rfl,hb'⟩;have HB:=aA hb';clear hb')
    go_ret
    exact⟨aT (cJ hlow.o HT.o HV.o).symm,D.o.trans (HB.o.mono D.o.size)⟩
  ·go_wp2
   go_ret
   exact⟨aT (cL (fun j hj y hy=>hlow.o j (by have:=H.o.len;omega) y hy)).symm,D.o⟩
theorem N8 {w:World}{bn n c:Nat}{A:OAd}{xs:LIn}(x:Box w bn 28 #[.slice A n c])(h:aJ w A n c xs):uX 78 #[.pointer (some ⟨bn,0,none⟩)] w (fun y=>y==xs) where
 enters:=fun args w=>by kernel_rfl
 calls:=fun wr A1 n1 c1 y hb hi=>by
  have q:=(x.keep hb).cell 0;simp only[List.getElem?_toArray,List.getElem?_cons_zero]at q;have H:=aA (h.keep hb);have HI:=aA hi;show Calls Tryz.prog 78 #[.slice A1 n1 c1,.pointer (some ⟨bn,0,none⟩)] wr _
  clear hb x h hi;go_enter Tryz.func78,Tryz.ntmps78
  go_wp2_with ((with_reducible refine(dT HI.o H.o).mono ?_);rintro e w4 ⟨rfl,dr⟩;have BD:=aA dr.below;clear dr)
  go_ret
  exact⟨rfl,BD.o⟩
theorem wO (w:World)(A:OAd)(c:Nat) :
  Calls Tryz.prog 79 #[.slice A 0 c] w fun e w'=>e=.returned (.tuple #[])∧Below w.heap.size w w':=by
 go_enter Tryz.func79,Tryz.ntmps79
 go_wp2
 go_loopw [2,3] (fun i j wr=>i=.int .i64 0∧j=.int .i64 (-1)∧wr=w) (fun _ _ _=>0)
 case atStart=>exact⟨rfl,rfl,rfl⟩
 case round =>
  obtain⟨rfl,rfl,rfl⟩:=hrel;go_wp2
  exact bodyPost_end (v:=.tuple #[]) (by simp[results,Tryz.results79,go_sem]) rfl ⟨rfl,Below.refl _ _⟩
theorem zC {w:World}{B g n cap:Nat}{xs:LIn}(h:aD w B (.slice (some ⟨g,0,none⟩) n cap) n xs)(h0:0<n)(hn:n≤7200) :
  Calls Tryz.prog 79 #[.slice (some ⟨g,0,none⟩) n cap] w fun e w'=>e=.returned (.tuple #[])∧aD w' B (.slice (some ⟨g,0,none⟩) n cap) n xs.reverse∧Below B w w':=by
 have H:=aA h;have hlen:=aA (show xs.length=n from h.len);have HBS:=aA (show B≤w.heap.size from Nat.le_trans (h.lt g rfl).1 (Nat.le_of_lt (h.lt g rfl).2));have HBG:=aA (show B≤g from(h.lt g rfl).1);clear h;go_enter Tryz.func79,Tryz.ntmps79
 go_wp2
 go_loopw [2,3] (fun iv jv wr=>∃(i:Nat) (j:Int) (ys:LIn),iv=.int .i64 i∧jv=.int .i64 j∧j+i+1=n∧Hid (aD wr B (.slice (some ⟨g,0,none⟩) n cap) n ys)∧Hid (Below B w wr)∧Hid (iS xs ys i)) (fun iv _ _=>n-(intOf iv).toNat)
 case atStart=>exact⟨0,(n:Int)-1,xs,rfl,rfl,by omega,H,Below.refl _ _,iS.start xs⟩
 case round =>
  obtain⟨i,j,ys,rfl,rfl,hij,O,D,T⟩:=hrel;by_cases hlt:(i:Int)<j
  ·obtain⟨j,rfl⟩:∃q:Nat,j=(q:Int):=⟨j.toNat,by omega⟩;have hji:j+i+1=n:=by omega
   have hjn:j<n:=by omega
   have hin:i<n:=by omega
   have hjni:(j:Int)<(n:Int):=by omega
   have hini:(i:Int)<(n:Int):=by omega
   have hyl:ys.length=n:=O.o.len;obtain⟨x,hx⟩:∃x,ys[i]?=some x:=⟨_,List.getElem?_eq_getElem (by omega)⟩;obtain⟨y,hy⟩:∃y,ys[j]?=some y:=⟨_,List.getElem?_eq_getElem (by omega)⟩;have O1:=aA (show aD wr.drew B (.slice (some ⟨g,0,none⟩) n cap) n ys from O.o.keep iG.kept ⟨rfl,rfl,rfl,Nat.le_refl _,fun _ _=>rfl⟩);have D1:=aA (show Below B w wr.drew from D.o.trans ⟨rfl,rfl,rfl,Nat.le_refl _,fun _ _=>rfl⟩);have ci:wr.drew.cell? ⟨g,i,none⟩=some (.int .i64 x):=O1.o.at hx;have cj:wr.drew.cell? ⟨g,j,none⟩=some (.int .i64 y):=O1.o.at hy;have HX:=aA hx;have HY:=aA hy;clear hx hy hyl hij;go_upto_region 3 with fail
   refine mF 13 2 3 14 (.takes [0,1,4,5,8,9,6,7,10,11] (.one 12 (.fin 13 (.fin 14 (.fin 15 .done))))) (fun w'=>w'.cell? ⟨g,i,none⟩=some (.int .i64 x)∧w'.cell? ⟨g,j,none⟩=some (.int .i64 y)) (v:=?_) (u:=?_) (by kernel_rfl) (by kernel_rfl) (by kernel_rfl) rfl (by kernel_rfl) (fun _ _ _ _ _ h=>h) rfl (by rfl) (fun w'=>?_) rfl (by rfl) (fun w'=>?_) ⟨ci,cj⟩ (fun hH=>?_)
   rotate_left 2
   ·(go_simp;try with_reducible rfl)
   ·(go_simp;try with_reducible rfl)
   simp only[Act.put,aL,aM,aN];simp only[Scr.takes];generalize wr.drew=u0 at *
   iterate 10
    refine aH (v:=?_) rfl (by rfl) hH (fun w' hSw=>?_) ?_
    rotate_left
    ·(go_simp;try with_reducible rfl)
    simp only[Act.put,aL,aM,aN]
   have fi:=O1.o.frozen i;have fj:=O1.o.frozen j;have O2:=aA ((O1.o.put i y).put j x);have D2:=aA ((D1.o.grown (cE u0 g i (.int .i64 y)) (Nat.le_trans HBS.o D1.o.size) (fun k hk=>by cases hk;exact HBG.o)).grown (cE _ g j (.int .i64 x)) (by simpa [World.setCell] using Nat.le_trans HBS.o D1.o.size) (fun k hk=>by cases hk;exact HBG.o));have T2:=aA (T.o.step (by rw[hlen.o];exact hji) (by omega) HX.o HY.o);refine bI rfl (fun K hK=>?_);go_simp
   refine hK.out _ _ ⟨ci,cj⟩ (fun hH=>?_);clear hK;try simp only[Act.put,aL,aM,aN]
   refine bF rfl (fun K hK=>?_);go_simp
   refine hK.out _ _ ?_;clear hK;try simp only[Act.put,aL,aM,aN]
   refine bF rfl (fun K hK=>?_);go_simp
   refine hK.out _ _ ?_;clear hK;try simp only[Act.put,aL,aM,aN]
   have cj2:=O1.o.put i y |>.at (show(ys.set i y)[j]?=some y by rw[List.getElem?_set_ne (by omega)];exact HY.o)
   have fj2:=(O1.o.put i y).frozen j;refine bF rfl (fun K hK=>?_);go_simp
   refine hK.out _ _ ?_;clear hK;try simp only[Act.put,aL,aM,aN]
   refine bP ?_;clear hH ci cj fi fj cj2 fj2;go_wp2
   go_roundw
   case rel=>exact⟨i+1,(j:Int)-1,_,by go_num,by go_num,by omega,O2,D2,T2⟩
   case measure=>simp[intOf];omega
  ·have HR:=aA (T.o.done (by rw[hlen.o];omega));go_wp2
   exact bodyPost_end (v:=.tuple #[]) (by simp[results,Tryz.results79,go_sem]) rfl ⟨rfl,by rw[←HR.o];exact O.o,D.o⟩
theorem oH.rows {w:World}{B bf bm:Nat}{P:Int}{A:OAd}{n c:Nat}{most:Int}{u v z:Value}{mm ms:LLi}{ars:List bO}{fs:LIn}(h:oH w B bf bm P A n c most u v z mm ms ars fs)(hl:ms.length≤7200)(ha:ars.length≤7200)(hf:fs.length≤7200) :
  ∃U cu V cv Z cz,u=.slice U ms.length cu∧v=.slice V ars.length cv∧z=.slice Z fs.length cz∧bT w U ms.length cu ms∧tN w V ars.length cv ars∧aJ w Z fs.length cz fs:=by
 have o1:aC bH 1 w B 28 u ms.length ms:=h.marks.reread (fun vs x hx=>by
  obtain⟨A,n,c,e,i,l,_⟩:=hx;exact⟨A,n,c,e,i,by omega⟩)
 obtain⟨U,cu,e1,s1⟩:=o1.sl (by omega);obtain⟨V,cv,e2,s2⟩:=h.arcs.sl (by omega);obtain⟨Z,cz,e3,s3⟩:=h.first.sl (by omega);exact⟨U,cu,V,cv,Z,cz,e1,e2,e3,s1,s2,s3⟩
theorem JR {w:World}{P:Int}{A B D:OAd}{n c m d l q:Nat}{ts:List aI}{xs goal:LIn}(most:Int)(h:bK w A n c ts)(g:aJ w B m d xs)(k:aJ w D l q goal) :
  Calls Tryz.prog 40 #[.agg #[.int .i64 P,.slice A n c],.slice B m d,.slice D l q,.int .i64 most] w (Jz (o0 ⟨P,ts⟩ xs goal most) w):=by
 generalize hw:((w.alloc (.cells #[.int .i64 P,.slice A n c] 24)).alloc (.cells #[.slice D l q] 28))=w0;have HB:=aA (show Below w.heap.size w w0 by rw[←hw];exact((Below.refl _ _).alloc (Nat.le_refl _) _).alloc (by simp) _);have X0:=aA (show Box w0 w.heap.size 24 #[.int .i64 P,.slice A n c] by rw[←hw];exact(Box.new _ _ _).old _);have X1:=aA (show Box w0 (w.heap.size+1) 28 #[.slice D l q] by rw[←hw];exact Box.newAt (by simp) _ _);have CS:=aA (sG (P:=P) most (h.keep HB.o) (g.keep HB.o));have GL:=aA (k.keep HB.o);have PE:=aA (fun(s:PSp) (k:Int)=>Nb (N:=⟨P,ts⟩) (m:=xs) (goal:=goal) (most:=most) (s:=s) (k:=k));have PN:=aA (fun(s:PSp)=>Ju (N:=⟨P,ts⟩) (m:=xs) (goal:=goal) (most:=most) (s:=s));have PS:=aA (fun(s:PSp) (k:Nat)=>xN (N:=⟨P,ts⟩) (m:=xs) (goal:=goal) (most:=most) (s:=s) (k:=k));clear h g k;obtain⟨r,hr⟩:∃r,bG ⟨P,ts⟩ xs most=r:=⟨_,rfl⟩;rw[hr]at CS;simp only[hr]at PE PN PS;clear hr;obtain⟨s,e0⟩:=r;generalize o0 ⟨P,ts⟩ xs goal most=R at *
 go_enter Tryz.func40,Tryz.ntmps40
 go_upto_region 1 with fail
 clear hw;obtain⟨a0,a1⟩:=X0.o.two;by_cases hk:e0=0
 ·subst hk;go_upto_region 2 with(go_at_call 63;go_loud ((with_reducible refine CS.o.mono ?_);rintro e w1 ⟨B1,⟨hne,_⟩|⟨_,bf,bm,A1,n1,c1,u,v,z,fs,rfl,hF,hX,hms'⟩⟩;(exact absurd rfl hne);have FF:=aA hF;have XX:=aA hX;have BB:=aA B1;have HMS:=aA hms';clear hF hX B1 hms'))
  have hms:s.marks.length≤300:=HMS.o;have hlf:fs.length=s.marks.length:=XX.o.fst.len;obtain⟨U,cu,V,cv,Z,cz,eu,ev,ez,hL,hA,hI⟩:=FF.o.rows (by omega) XX.o.arcs (by omega);subst eu ev ez;have LL:=aA hL;have LA:=aA hA;have LI:=aA hI;have BX:=aA FF.o.box;have GP:=aA (N8 (X1.o.keep BB.o) (GL.o.keep BB.o));have BZ:=aA (HB.o.trans (BB.o.mono HB.o.size));have SP:=aA XX.o.sp;have FSX:=aA XX.o.fst;clear FF hL hA hI X0 X1 CS a0 a1 GL;have c4:w1.cell? ⟨bf,4,none⟩=some (.slice U s.marks.length cu):=BX.o.cell 4;have hn:=Bm s.marks goal;have hni:=aA hn;clear hn;obtain⟨fi,hfi⟩:∃fi,eH s.marks goal=fi:=⟨_,rfl⟩;have HFI:=aA hfi;rw[hfi]at hni;clear hfi;cases fi with
  | none =>
   go_wp2_with (go_at_call 26;(with_reducible refine(iI LL.o GP.o).mono ?_);rw[hni.o];rintro e w2 ⟨rfl,hb2⟩;have B2:=aA hb2;clear hb2)
   exact bodyPost_ret (v:=.tuple #[.slice none 0 0,.int .i64 3]) (by simp[results,Tryz.results40,go_sem]) rfl (by rw[PN.o s rfl HFI.o];exact⟨none,0,0,rfl,Sl.nil0,BZ.o.trans (B2.o.mono BZ.o.size)⟩)
  | some K =>
   have hK:=QY HFI.o;have RE:=aA (PS.o s K rfl HFI.o);go_wp2_with (go_at_call 26;(with_reducible refine(iI LL.o GP.o).mono ?_);rw[hni.o];rintro e w2 ⟨rfl,hb2⟩;have B2:=aA hb2;clear hb2)
   have BX2:=aA (BX.o.keep B2.o);have LA2:=aA (Sl.keep tM.kept LA.o B2.o);have LI2:=aA (LI.o.keep B2.o);have BZ2:=aA (BZ.o.trans (B2.o.mono BZ.o.size));clear BX LA LI LL GP c4 BB hni PE PN PS BZ B2;go_loopw [12,13] (fun kv ov wr=>∃(k:Nat) (v:Value) (L:LIn),kv=.int .i64 k∧ov=v∧k<s.marks.length∧L.length+k≤K∧Hid (aD wr w2.heap.size v L.length L)∧Hid (Below w2.heap.size w2 wr)∧Hid (kW s K K=kW s k k++L.reverse)) (fun kv _ _=>(intOf kv).toNat)
   case atStart=>exact⟨K,_,[],rfl,rfl,hK,by simp,aC.nil,Below.refl _ _,aA (by simp)⟩
   case round =>
    obtain⟨k,v,L,rfl,rfl,hkl,hLk,OW,BW,BK⟩:=hrel;by_cases h0:0<k
    ·have hki:(0:Int)<(k:Int):=by omega
     obtain⟨jf,hj1,hj2⟩:=FSX.o.at_ k h0 hkl;obtain⟨a,ha1,ha2⟩:=Jt hj2;obtain⟨_,a',_,_,hf0,hf1,_,hf2⟩:=SP.o.find h0 hkl;obtain rfl:a=a':=by rw[ha2]at hf2;injection hf2
     have STEP:=aA (xM SP.o h0 hkl ha2 ⟨hf0,hf1⟩);have hjl:jf<s.arcs.length:=(List.getElem?_eq_some_iff.1 ha1).1;obtain⟨b,off,x,rfl,hb,hx,x0,x1,x2,_⟩:=tN.get (Sl.keep tM.kept LA2.o BW.o) hjl;obtain rfl:x=a:=by have:=hx.o;rw[ha1]at this;injection this with this;exact this.symm
     obtain⟨b',off',y,rfl,hb',hy,y0⟩:=aJ.get (LI2.o.keep BW.o) (show k<fs.length by omega);obtain rfl:y=(jf:Int):=by rw[hj1]at hy;injection hy with hy;exact hy.symm
     obtain⟨f,hf⟩:∃f:Nat,x.from_=(f:Int):=⟨x.from_.toNat,by omega⟩;have HF:=aA hf;rw[hf]at x0 hf0 hf1 STEP;have hjli:(jf:Int)<(s.arcs.length:Int):=by omega
     have hkfi:(k:Int)<(fs.length:Int):=by omega
     have c5:wr.cell? ⟨bf,5,none⟩=some (.slice (some ⟨b,off,none⟩) s.arcs.length cv):=(BX2.o.keep BW.o).cell 5;have c6:wr.cell? ⟨bf,6,none⟩=some (.slice (some ⟨b',off',none⟩) fs.length cz):=(BX2.o.keep BW.o).cell 6;clear hj1 hj2 ha1 ha2 hx hy hf2 hf;go_upto_region 9 with fail
     go_region_held3 (fun w'=>w'.cell? ⟨bf,5,none⟩=some (.slice (some ⟨b,off,none⟩) s.arcs.length cv)∧w'.cell? ⟨bf,6,none⟩=some (.slice (some ⟨b',off',none⟩) fs.length cz)∧w'.cell? ⟨b',off'+k,none⟩=some (.int .i64 jf)∧w'.cell? ⟨b,off+jf*3,none⟩=some (.int .i64 f)∧w'.cell? ⟨b,off+jf*3+1,none⟩=some (.int .i64 x.tran)∧w'.cell? ⟨b,off+jf*3+2,none⟩=some (.int .i64 x.to_))
      (first|go_keep) (fail)
     generalize hw3:(wr.alloc (.cells #[.int .i64 f,.int .i64 x.tran,.int .i64 k] 156)).drew=w3;have B3:=aA (show Below wr.heap.size wr w3 by rw[←hw3];exact((Below.refl _ _).alloc (Nat.le_refl _) _).drew);have X9:=aA (show Box w3 wr.heap.size 156 #[.int .i64 f,.int .i64 x.tran,.int .i64 k] by rw[←hw3];exact(Box.new _ _ _).drew);have OW3:=aA (OW.o.keep iG.kept B3.o);have BW3:=aA (BW.o.trans (B3.o.mono BW.o.size));have hL300:L.length≤300:=by omega
     have NB:=aA (show u13.ownBlock≠some wr.heap.size from fun e=>by have:=(OW.o.lt _ e).2;omega);have t0:=X9.o.cell 0;have t1:=X9.o.cell 1;simp only[List.getElem?_toArray,List.getElem?_cons_zero,List.getElem?_cons_succ]at t0 t1;clear hw3 c5 c6 x0 x1 x2 y0 OW BW B3;go_wp2_with (at_builtin;refine dE rfl _ _ rfl rfl rfl (by first|rfl|simp) OW3.o BW3.o BW3.o.size (by omega) ?_;intro v2 w4 own2 hg2 hb2;have O4:=aA own2;have B4:=aA hb2;clear t0 t1;have t0:=(X9.o.grown hg2 NB.o).cell 0;(simp only[List.getElem?_toArray,List.getElem?_cons_zero]at t0);clear own2 hg2 hb2)
     go_roundw
     case rel=>exact⟨f,v2,L++[x.tran],by go_num,rfl,by omega,by simp;omega,aA (by simpa using O4.o),B4,aA (by rw[BK.o,STEP.o];simp)⟩
     case measure=>simp[intOf];omega
    ·obtain rfl:k=0:=by omega
     have RR:=aA (show R=(L.reverse,0) by rw[RE.o,BK.o,nI];rfl);by_cases hL0:L.length=0
     ·obtain⟨A2,c2,hv,i2⟩:=OW.o.sl (by omega);subst hv;have I2:=aA i2;clear i2;obtain rfl:L=[]:=List.eq_nil_of_length_eq_zero hL0;simp only[List.length_nil]at *
      go_wp2_with (go_at_call 79;(with_reducible refine(wO _ _ _).mono ?_);rintro e w5 ⟨rfl,hb5⟩;have B5:=aA hb5;clear hb5)
      exact bodyPost_ret (v:=.tuple #[.slice A2 0 c2,.int .i64 0]) (by simp[results,Tryz.results40,go_sem]) rfl (by rw[RR.o];exact⟨_,_,_,rfl,Sl.keep iG.kept I2.o B5.o,BZ2.o.trans ((BW.o.trans (B5.o.mono BW.o.size)).mono BZ2.o.size)⟩)
     ·obtain⟨g,cap,hv,_,_⟩:=OW.o.form (by omega);subst hv;have CR:=aA (zC OW.o (by omega) (by omega));go_wp2_with (go_at_call 79;(with_reducible refine CR.o.mono ?_);rintro e w5 ⟨rfl,own5,hb5⟩;have B5:=aA hb5;have O5:=aA own5;clear hb5 own5)
      exact bodyPost_ret (v:=.tuple #[.slice (some ⟨g,0,none⟩) L.length cap,.int .i64 0]) (by simp[results,Tryz.results40,go_sem]) rfl (by rw[RR.o];exact⟨_,_,_,rfl,O5.o.ints (by omega),BZ2.o.trans ((BW.o.trans B5.o).mono BZ2.o.size)⟩)
 ·have RE:=aA (PE.o s e0 rfl hk);go_wp2_with (go_at_call 63;go_loud ((with_reducible refine CS.o.mono ?_);rintro e w1 ⟨B1,⟨_,rfl⟩|⟨he,_⟩⟩;rotate_left;(exact absurd he hk);have BB:=aA B1;clear B1))
  exact bodyPost_ret (v:=.tuple #[.slice none 0 0,.int .i64 e0]) (by simp[results,Tryz.results40,go_sem]) rfl (by rw[RE.o];exact⟨none,0,0,rfl,Sl.nil0,HB.o.trans (BB.o.mono HB.o.size)⟩)
end Go.Proofs.YtfmnagcglhlicaaGreat
