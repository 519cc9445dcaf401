/- Texts melted into one: slices.SortStableFunc on rows of lists. Conditions: the row is the call's own, as its lists are, and has at most twenty-six; of two lists that differ the comparison pu -/
import Derived.Test.YtfmnagcglhlicaaGreatTopCrashK33
set_option maxRecDepth 100000
set_option maxHeartbeats 8000000
namespace Go.Proofs.YtfmnagcglhlicaaGreat
open Go.RowKit
def vO (w w0:World)(B B2 g n cap:Nat)(f:Nat→LIn)(R:LIn→LIn→Prop)(S:LIn→Prop):Prop:=(∃q,j6 w B B2 g n cap q∧dQ S q n∧fA R q 0 n∧dO q f 0 n)∧w0.grownBy w (some g)
theorem zV {w:World}{B B2 g n cap:Nat}{f:Nat→LIn}{F:FuncId}{cv:Array Value}{R:LIn→LIn→Prop}{S:LIn→Prop}(own:j6 w B B2 g n cap f)(hn:n≤26)(o:zS R S)(G:dQ S f n)(hF:l8 F cv w g R S) :
  Calls Tryz.prog 206 #[.slice (some ⟨g,0,none⟩) n cap,.int .i64 n,.func (.func F) #[] cv] w fun e w'=>(∃y,e=.returned y)∧vO w' w B B2 g n cap f R S:=by
 have OW:=aA own;have HF:=aA hF;have HO:=aA o;have GD:=aA G;clear own hF o G;have h40:¬(40:Int)≤(n:Int):=by omega
 have hw20:IntKind.i64.wrap (20:Int)=20:=by decide
 have hw40:IntKind.i64.wrap (40:Int)=40:=by decide
 go_enter Tryz.func206,Tryz.ntmps206
 go_wp2
 go_loopg [7,8] 1 (fun gk u v wr=>(u=.int .i64 0∧v=.int .i64 20∧0<gk∧Hid (j6 wr B B2 g n cap f)∧Hid (w.grownBy wr (some g)))∨(u=.int .i64 20∧v=.int .i64 40∧Hid (20≤n∧∃q,j6 wr B B2 g n cap q∧dQ S q n∧fA R q 0 20∧dO q f 0 20)∧Hid (w.grownBy wr (some g))))
 case atStart=>exact .inl ⟨rfl,rfl,by omega,OW,aA (World.grownBy.refl _ _)⟩
 case round =>
  clear OW;rcases hrel with⟨rfl,rfl,hgk,OL,GR⟩|⟨rfl,rfl,QQ,GR⟩
  ·by_cases hlt:20≤n
   ·have hlti:(20:Int)≤(n:Int):=by omega
    have CR:=aA (lS OL.o 0 20 (by omega) hlt (by omega) HO.o GD.o (HF.o.later GR.o));have HL:=aA (And.intro hlt (show gk-1<gk by omega));clear hlt hgk;go_wp2_with fail
    refine CR.o.mono ?_;rintro e w1 ⟨⟨y,rfl⟩,o1,g1⟩;have QQ:=aA (show 20≤n∧∃q,j6 w1 B B2 g n cap q∧dQ S q n∧fA R q 0 20∧dO q f 0 20 from⟨HL.o.1,o1⟩);have G1:=aA (GR.o.trans g1);clear o1 g1 OL GR CR;go_wp2
    go_roundg (gk-1)
    case measure=>exact HL.o.2
    case rel=>exact .inr ⟨rfl,rfl,QQ,G1⟩
   ·have hlti:¬(20:Int)≤(n:Int):=by omega
    have h20:¬(20:Int)<(n:Int):=by omega
    have CR:=aA (lS OL.o 0 n (by omega) (Nat.le_refl _) (by omega) HO.o GD.o (HF.o.later GR.o));clear hlt;go_wp2_with fail
    refine CR.o.mono ?_;rintro e w1 ⟨⟨y,rfl⟩,o1,g1⟩;have AN:=aA (show vO w1 w B B2 g n cap f R S from⟨o1,GR.o.trans g1⟩);clear o1 g1 OL GR CR;go_wp2
    go_loopg [6] 0 (fun gk u wr=>u=.int .i64 20∧Hid (vO wr w B B2 g n cap f R S))
    case atStart=>exact⟨rfl,AN⟩
    case round =>
     clear AN;obtain⟨rfl,AN⟩:=hrel;go_wp2
     exact bodyPost_end (v:=.tuple #[]) (by simp[results,Tryz.results206,go_sem]) rfl ⟨⟨_,rfl⟩,AN.o⟩
  ·obtain⟨L20,q,r1,r2,r3,r4⟩:=QQ.o;have CR:=aA (lS r1 20 n L20 (Nat.le_refl _) (by omega) HO.o r2 (HF.o.later GR.o));have SG:=aA (And.intro r3 r4);have L20:=aA L20;clear QQ r1 r2 r3 r4;go_wp2_with fail
   refine CR.o.mono ?_;rintro e w1 ⟨⟨y,rfl⟩,⟨q2,o1,o2,o3,o4⟩,g1⟩;have O1:=aA o1;have Q2:=aA (show dQ S q2 n∧fA R q2 0 20∧fA R q2 20 n∧dO q2 f 0 n from⟨o2,SG.o.1.same (fun k h1 h2=>o4.o k (by omega)),o3,(o4.wide (Nat.zero_le _) (Nat.le_refl _)).trans (SG.o.2.wide (Nat.le_refl _) L20.o)⟩);have G1:=aA (GR.o.trans g1);clear o1 o2 o3 o4 g1 GR CR SG;go_wp2
   go_loopg [6] 1 (fun gk u wr=>(u=.int .i64 20∧0<gk∧Hid (j6 wr B B2 g n cap q2)∧Hid (w.grownBy wr (some g)))∨(u=.int .i64 40∧Hid (vO wr w B B2 g n cap f R S)))
   case atStart=>exact .inl ⟨rfl,by omega,O1,G1⟩
   case round =>
    clear O1 G1;rcases hrel with⟨rfl,hgk,OL,GR⟩|⟨rfl,AN⟩
    ·by_cases hlt:20<n
     ·have hlti:(20:Int)<(n:Int):=by omega
      have CR:=aA (fun(wx:World) (OX:j6 wx B B2 g n cap q2) (GX:w.grownBy wx (some g))=>oN (by omega) HO.o n wx q2 0 20 n (by omega) (by omega) hlt (Nat.le_refl _) OX Q2.o.1 (HF.o.later GX) Q2.o.2.1 Q2.o.2.2.1);have HG:=aA (show gk-1<gk by omega);clear hlt hgk;obtain⟨go,hgo⟩:∃go:Nat,go=gk:=⟨_,rfl⟩;subst hgo;go_wp2
      go_loopg [7,8] 0 (fun gk u v wr=>u=.int .i64 0∧v=.int .i64 40∧Hid (j6 wr B B2 g n cap q2)∧Hid (w.grownBy wr (some g)))
      case atStart=>exact⟨rfl,rfl,OL,GR⟩
      case round =>
       clear OL GR;obtain⟨rfl,rfl,OL,GR⟩:=hrel;have CR:=aA (CR.o wr OL.o GR.o);go_wp2_with fail
       refine CR.o.mono ?_;rintro e w1 ⟨⟨y,rfl⟩,⟨q3,o1,o2,o3,o4⟩,g1⟩;have AN:=aA (show vO w1 w B B2 g n cap f R S from⟨⟨q3,o1,o2,o3,o4.trans Q2.o.2.2.2⟩,GR.o.trans g1⟩);clear o1 o2 o3 o4 g1 OL GR CR;go_wp2
       go_roundg (go-1)
       case measure=>exact HG.o
       case rel=>exact .inr ⟨rfl,AN⟩
     ·have hlti:¬(20:Int)<(n:Int):=by omega
      have AN:=aA (show vO wr w B B2 g n cap f R S from⟨⟨q2,OL.o,Q2.o.1,(by have h:=Q2.o.2.1;rwa[show n=20 by have:=L20.o;omega]),Q2.o.2.2.2⟩,GR.o⟩);clear hlt;go_wp2
      exact bodyPost_end (v:=.tuple #[]) (by simp[results,Tryz.results206,go_sem]) rfl ⟨⟨_,rfl⟩,AN.o⟩
    ·go_wp2
     exact bodyPost_end (v:=.tuple #[]) (by simp[results,Tryz.results206,go_sem]) rfl ⟨⟨_,rfl⟩,AN.o⟩
theorem rS {w:World}{B B2 g n cap:Nat}{f:Nat→LIn}{F:FuncId}{cv:Array Value}{R:LIn→LIn→Prop}{S:LIn→Prop}(own:j6 w B B2 g n cap f)(hn:n≤26)(o:zS R S)(G:dQ S f n)(hF:l8 F cv w g R S) :
  Calls Tryz.prog 172 #[.slice (some ⟨g,0,none⟩) n cap,.func (.func F) #[] cv] w fun e w'=>(∃y,e=.returned y)∧vO w' w B B2 g n cap f R S:=by
 have CR:=aA (zV own hn o G hF);clear own hF o G;go_enter Tryz.func172,Tryz.ntmps172
 go_wp2_with fail
 refine CR.o.mono ?_;rintro e w1 ⟨⟨y,rfl⟩,h⟩;have AN:=aA h;clear h CR;go_wp2
 exact bodyPost_end (v:=.tuple #[]) (by simp[results,Tryz.results172,go_sem]) rfl ⟨⟨_,rfl⟩,AN.o⟩
open Go.Maps
section
variable {w:World} {A A1 A2 A3 A4:OAd} {n c n1 c1 n2 c2 n3 c3 n4 c4:Nat} {log:LLi} {p:aU}
theorem Pq (ls:LIn)(h:IP w A A1 A2 A3 A4 n c n1 c1 n2 c2 n3 c3 n4 c4 log p):WM 168 #[vM A A1 A2 A3 A4 n c n1 c1 n2 c2 n3 c3 n4 c4] #[] w ls (bhB p) where
 enters:=fun args w=>by kernel_rfl
 calls:=fun wr a b _ _ hb=>by simpa using mY a b (h.keep hb)
theorem KJ (ls:LIn){bx:Nat}(h:IP w A A1 A2 A3 A4 n c n1 c1 n2 c2 n3 c3 n4 c4 log p)(x:Box w bx 222 #[.slice A n c,.slice A1 n1 c1,.slice A2 n2 c2,.slice A3 n3 c3,.slice A4 n4 c4]):WM 175 #[] #[.pointer (some ⟨bx,0,none⟩)] w ls (mV p) where
 enters:=fun args w=>by kernel_rfl
 calls:=fun wr a b _ _ hb=>by
  have H:=aA (h.keep hb);have X:=aA (x.keep hb);clear h x hb;simp only[Array.empty_append];change Calls _ _ #[.int .i64 a,.int .i64 b,.pointer (some ⟨bx,0,none⟩)] _ _
  have x0:=X.o.cell 0;have x1:=X.o.cell 1;have x2:=X.o.cell 2;have x3:=X.o.cell 3;have x4:=X.o.cell 4;obtain⟨v,hv⟩:∃v,bhB p a b=v:=⟨_,rfl⟩;have HV:=aA hv;have C1:=aA (mY a b H.o);rw[hv]at C1;clear hv;cases v
  ·go_enter Tryz.func175,Tryz.ntmps175
   go_wp2_with fail
   refine C1.o.mono ?_;rintro e w2 ⟨rfl,hb⟩;have HB:=aA hb;clear hb;go_wp2
   go_ret
   exact⟨aY (by unfold mV;rw[HV.o];rfl),HB.o⟩
  ·go_enter Tryz.func175,Tryz.ntmps175
   go_wp2_with fail
   refine C1.o.mono ?_;rintro e w2 ⟨rfl,hb⟩;have HB:=aA hb;have C2:=aA (mY b a (H.o.keep hb));have X2:=X.o.keep hb;have x0:=X2.cell 0;have x1:=X2.cell 1;have x2:=X2.cell 2;have x3:=X2.cell 3;have x4:=X2.cell 4;clear hb;go_wp2_with fail
   refine C2.o.mono ?_;rintro e w3 ⟨rfl,hb3⟩;have H3:=aA (HB.o.trans (hb3.mono HB.o.size));clear hb3;go_wp2
   go_ret
   exact⟨aY (by unfold mV;rw[HV.o];rfl),H3.o⟩
end
structure LdF (w:World)(b bm:Nat)(S:Int→Int→Bool):Prop where
 x:Box w b 278 #[.map (some bm)]
 m:∃q,Dw w bm S q
theorem LdF.keep {w w':World}{b bm:Nat}{S:Int→Int→Bool}(h:LdF w b bm S)(hb:Below w.heap.size w w'):LdF w' b bm S:=⟨h.x.keep hb,by obtain⟨q,m⟩:=h.m;exact⟨q,m.keep hb⟩⟩
abbrev ldV (b:Nat):Value:=.func (.func 205) #[] #[.pointer (some ⟨b,0,none⟩)]
theorem pN {w:World}{b bm:Nat}{S:Int→Int→Bool}(h:LdF w b bm S){x y:Int}(hx:okI x)(hy:okI y) :
  Calls Tryz.prog 205 #[.int .i64 x,.int .i64 y,.pointer (some ⟨b,0,none⟩)] w fun e w'=>e=.returned (.bool (S x y))∧w=w':=by
 obtain⟨q,m⟩:=h.m;obtain⟨v,hv⟩:∃v,S x y=v:=⟨_,rfl⟩;have lk:=Dw.look1 m hx hy hv;have x0:=h.x.cell 0;rw[hv];clear h m hv hx hy;cases v
 ·go_enter Tryz.func205,Tryz.ntmps205
  go_wp2
  go_ret
  exact⟨rfl,rfl⟩
 ·go_enter Tryz.func205,Tryz.ntmps205
  go_wp2
  go_ret
  exact⟨rfl,rfl⟩
theorem Pv {w:World}{ls:LIn}{bx b bm:Nat}{S:Int→Int→Bool}(hl:∀a∈ls,okI a)(x:Box w bx 197 #[ldV b])(h:LdF w b bm S):WM 171 #[] #[.pointer (some ⟨bx,0,none⟩)] w ls (eE S) where
 enters:=fun args w=>by kernel_rfl
 calls:=fun wr a b2 ha hb2 hb=>by
  have C1:=aA (fun(w2:World) (hq:Below w.heap.size w w2)=>pN (h.keep hq) (hl a ha) (hl b2 hb2));have C2:=aA (fun(w2:World) (hq:Below w.heap.size w w2)=>pN (h.keep hq) (hl b2 hb2) (hl a ha));have X:=aA (x.keep hb);have BD:=aA (hb.trans ((Below.refl wr.heap.size wr).drew.mono hb.size));clear h x hb hl ha hb2;simp only[Array.empty_append];change Calls _ _ #[.int .i64 a,.int .i64 b2,.pointer (some ⟨bx,0,none⟩)] _ _
  have x0:=X.o.cell 0;go_enter Tryz.func171,Tryz.ntmps171
  go_wp2_with fail
  go_region_held3 (fun w'=>w'.cell? ⟨bx,0,none⟩=some (ldV b))
   (first|go_keep)
   (first
    |(go_at_call 205;(with_reducible refine(C1.o wr.drew BD.o).mono ?_);rintro e w' ⟨rfl,rfl⟩)
    |(go_at_call 205;(with_reducible refine(C2.o wr.drew BD.o).mono ?_);rintro e w' ⟨rfl,rfl⟩))
  go_wp2
  go_ret
  exact⟨aY rfl,(Below.refl _ _).drew⟩
theorem LdF.grown {w w':World}{b bm:Nat}{S:Int→Int→Bool}{row:Option Nat}(h:LdF w b bm S)(hg:w.grownBy w' row)(h1:row≠some b)(h2:row≠some bm):LdF w' b bm S :=
 ⟨h.x.grown hg h1,by obtain⟨q,m⟩:=h.m;exact⟨q,m.beside hg (Ne.symm h2)⟩⟩
theorem KQ {w:World}{G:LLi}{g bx b bm:Nat}{S:Int→Int→Bool}(hG:∀x∈G,x≠[]∧∀a∈x,okI a)(x:Box w bx 197 #[ldV b])(h:LdF w b bm S)(h0:bx≠g)(h1:b≠g)(h2:bm≠g):l8 173 #[.pointer (some ⟨bx,0,none⟩)] w g (ltG S) (fun x=>x∈G) where
 enters:=fun args w=>by kernel_rfl
 calls:=fun wr A B n c m d l r hg il ir hl hr _=>by
  obtain⟨xl,tl,rfl⟩:∃a t,l=a::t:=by
   cases l with
   | nil=>exact absurd rfl (hG _ hl).1
   | cons a t=>exact⟨a,t,rfl⟩
  obtain⟨xr,tr,rfl⟩:∃a t,r=a::t:=by
   cases r with
   | nil=>exact absurd rfl (hG _ hr).1
   | cons a t=>exact⟨a,t,rfl⟩
  have hln:=il.len;have hrn:=ir.len;simp only[List.length_cons]at hln hrn;obtain⟨bl,ol,yl,rfl,hbl,hyl,ql⟩:=aJ.get il (k:=0) (by omega);obtain⟨br,orr,yr,rfl,hbr,hyr,qr⟩:=aJ.get ir (k:=0) (by omega);have e1:yl=xl:=by have:=hyl.o;simp at this;exact this.symm
  have e2:yr=xr:=by have:=hyr.o;simp at this;exact this.symm
  subst e1 e2;have LF:=h.grown hg (fun e=>h1 (by injection e with e;exact e.symm)) (fun e=>h2 (by injection e with e;exact e.symm));have X:=aA (x.grown hg (fun e=>h0 (by injection e with e;exact e.symm)));have oa:=(hG _ hl).2 yl (by simp);have ob:=(hG _ hr).2 yr (by simp);have BD:=aA ((Below.refl wr.heap.size wr).drew);have C1:=aA (pN (LF.keep BD.o) oa ob);have hn0:0<n:=by omega
  have hm0:0<m:=by omega
  obtain⟨v,hv⟩:∃v,S yl yr=v:=⟨_,rfl⟩;have HV:=aA hv;rw[hv]at C1;change Calls _ _ #[_,_,.pointer (some ⟨bx,0,none⟩)] _ _
  have x0:=X.o.cell 0;rw[Nat.add_zero]at ql qr;clear hG x h h0 h1 h2 hg il ir hl hr hln hrn hbl hbr hyl hyr LF oa ob hv;cases v
  ·go_enter Tryz.func173,Tryz.ntmps173
   go_wp2_with fail
   go_region_held3 (fun w'=>w'.cell? ⟨bx,0,none⟩=some (ldV b)∧w'.cell? ⟨bl,ol,none⟩=some (.int .i64 yl)∧w'.cell? ⟨br,orr,none⟩=some (.int .i64 yr))
    (first|go_keep)
    (first
     |(go_at_call 205;(with_reducible refine C1.o.mono ?_);rintro e w' ⟨rfl,rfl⟩))
   go_wp2
   go_ret
   exact⟨1,rfl,⟨fun h=>absurd h (by decide),fun h=>by unfold ltG hdG at h;simp only[List.headD_cons]at h;rw[HV.o]at h;cases h⟩,BD.o⟩
  ·go_enter Tryz.func173,Tryz.ntmps173
   go_wp2_with fail
   go_region_held3 (fun w'=>w'.cell? ⟨bx,0,none⟩=some (ldV b)∧w'.cell? ⟨bl,ol,none⟩=some (.int .i64 yl)∧w'.cell? ⟨br,orr,none⟩=some (.int .i64 yr))
    (first|go_keep)
    (first
     |(go_at_call 205;(with_reducible refine C1.o.mono ?_);rintro e w' ⟨rfl,rfl⟩))
   go_wp2
   go_ret
   exact⟨-1,rfl,⟨fun _=>by unfold ltG hdG;simp only[List.headD_cons];exact HV.o,fun _=>by decide⟩,BD.o⟩
theorem Gw {w:World}{A:OAd}{n c:Nat}{y:LIn}(h:aJ w A n c y):Calls Tryz.prog 123 #[.slice A n c] w fun e w'=>e=.returned (.bool (oL y))∧w=w':=by
 have hl:=aA h.len;clear h;by_cases hn:n=0
 ·subst hn;go_enter Tryz.func123,Tryz.ntmps123
  go_wp2
  go_ret
  exact⟨aY (by unfold oL;rw[hl.o];rfl),rfl⟩
 ·have hne:((n:Int)==0)=false:=by simp;omega
  have HN:=aA hn;clear hn;go_enter Tryz.func123,Tryz.ntmps123
  go_wp2
  go_ret
  exact⟨aY (by unfold oL;rw[hl.o];exact(decide_eq_false HN.o).symm),rfl⟩
theorem KR (w:World)(g:Nat)(L:LLi):rM 123 #[] w g L oL where
 enters:=fun args w=>by kernel_rfl
 calls:=fun wr A n c y _ _ hi=>by
  refine(Gw hi).mono ?_;rintro e w' ⟨rfl,rfl⟩;exact⟨rfl,Below.refl _ _⟩
theorem Gx {w:World}{A:OAd}{n c:Nat}{y:LIn}(h:aJ w A n c y):Calls Tryz.prog 129 #[.slice A n c] w fun e w'=>e=.returned (.bool (decide (1<y.length)))∧w=w':=by
 have hl:=h.len;rw[hl];clear h hl;by_cases hn:1<n
 ·have hni:(1:Int)<(n:Int):=by omega
  have HN:=aA hn;clear hn;go_enter Tryz.func129,Tryz.ntmps129
  go_wp2
  go_ret
  exact⟨aY (decide_eq_true HN.o).symm,rfl⟩
 ·have hni:¬(1:Int)<(n:Int):=by omega
  have HN:=aA hn;clear hn;go_enter Tryz.func129,Tryz.ntmps129
  go_wp2
  go_ret
  exact⟨aY (decide_eq_false HN.o).symm,rfl⟩
theorem KT (w:World):zL 129 #[] w (fun y=>decide (1<y.length)) where
 enters:=fun args w=>by kernel_rfl
 calls:=fun wr A n c y _ hi=>by
  refine(Gx hi).mono ?_;rintro e w' ⟨rfl,rfl⟩;exact⟨rfl,Below.refl _ _⟩
def Wj (g:LIn)(y:LIn):Bool:=!inS g (y.headD 0)
theorem Dz {w:World}{L:LLi}{gr bx m d:Nat}{B:OAd}{g:LIn}(hL:∀y∈L,y.length≠0)(x:Box w bx 28 #[.slice B m d])(ig:aJ w B m d g)(h0:bx≠gr)(h1:∀a,B=some a→a.block≠gr):rM 169 #[.pointer (some ⟨bx,0,none⟩)] w gr L (Wj g) where
 enters:=fun args w=>by kernel_rfl
 calls:=fun wr A n c y hy hg hi=>by
  have hy0:=hL y hy;obtain⟨yl,tl,rfl⟩:∃a t,y=a::t:=by
   cases y with
   | nil=>exact absurd rfl hy0
   | cons a t=>exact⟨a,t,rfl⟩
  have hln:=hi.len;simp only[List.length_cons]at hln;obtain⟨bl,ol,y2,rfl,hbl,hyl,ql⟩:=aJ.get hi (k:=0) (by omega);have e1:y2=yl:=by have:=hyl.o;simp at this;exact this.symm
  subst e1;have IG:=aA ((aJ.keepRow ig hg (.inr (by
   cases B with
   | none=>exact fun e=>nomatch e
   | some a=>intro e;injection e with e;exact h1 a rfl e.symm))).keep ((Below.refl wr.heap.size wr).drew))
  have X:=aA (x.grown hg (fun e=>h0 (by injection e with e;exact e.symm)));have BD:=aA ((Below.refl wr.heap.size wr).drew);have C1:=aA (eT y2 IG.o);have hn0:0<n:=by omega
  change Calls _ _ #[_,.pointer (some ⟨bx,0,none⟩)] _ _
  have x0:=X.o.cell 0;rw[Nat.add_zero]at ql;clear hL x ig h0 h1 hg hy hi hy0 hln hbl hyl;go_enter Tryz.func169,Tryz.ntmps169
  go_wp2_with fail
  go_region_held3 (fun w'=>w'.cell? ⟨bx,0,none⟩=some (.slice B m d)∧w'.cell? ⟨bl,ol,none⟩=some (.int .i64 y2))
   (first|go_keep)
   (first
    |(go_at_call 143;(with_reducible refine C1.o.mono ?_);rintro e w' ⟨rfl,rfl⟩))
  go_wp2
  go_ret
  exact⟨aY rfl,BD.o⟩
theorem zW {w:World}{bx m d:Nat}{B:OAd}{l:LIn}(x:Box w bx 28 #[.slice B m d])(il:aJ w B m d l):xQ 177 #[.pointer (some ⟨bx,0,none⟩)] w (fun a=>inS l a) where
 enters:=fun args w=>by kernel_rfl
 calls:=fun a=>by
  have C1:=aA (eT a il);have x0:=x.cell 0;clear x il;change Calls _ _ #[.int .i64 a,.pointer (some ⟨bx,0,none⟩)] _ _
  go_enter Tryz.func177,Tryz.ntmps177
  go_wp2_with (refine C1.o.mono ?_;rintro e w' ⟨rfl,rfl⟩)
  go_ret
  exact⟨aY rfl,rfl⟩
theorem qT {w:World}{A B:OAd}{n c m d:Nat}{g l:LIn}(ig:aJ w A n c g)(il:aJ w B m d l) :
  Calls Tryz.prog 176 #[.slice A n c,.slice B m d] w fun e w'=>e=.returned (.bool (nX g l))∧Below w.heap.size w w':=by
 have B0:=aA (aB w (.cells #[.slice B m d] 28));have X0:=Box.new w #[.slice B m d] 28;have CO:=aA (dC (ig.keep B0.o) (zW X0 (il.keep B0.o)));clear ig il X0;go_enter Tryz.func176,Tryz.ntmps176
 go_wp2_with fail
 refine CO.o.mono ?_;rintro e w' ⟨rfl,rfl⟩;go_wp2
 go_ret
 exact⟨aY rfl,B0.o⟩
def KU (p:aU)(g:LIn):Bool:=!nX g p.first||!nX g p.last
section
variable {w:World} {A A1 A2 A3 A4:OAd} {n c n1 c1 n2 c2 n3 c3 n4 c4:Nat} {log:LLi} {p:aU}
theorem DG {bx bf:Nat}(h:IP w A A1 A2 A3 A4 n c n1 c1 n2 c2 n3 c3 n4 c4 log p)(x:Box w bx 222 #[.slice A n c,.slice A1 n1 c1,.slice A2 n2 c2,.slice A3 n3 c3,.slice A4 n4 c4])(y:Box w bf 38 #[.func (.func 176) #[] #[]]):zL 178 #[.pointer (some ⟨bf,0,none⟩),.pointer (some ⟨bx,0,none⟩)] w (KU p) where
 enters:=fun args w=>by kernel_rfl
 calls:=fun wr B m d g hb ig=>by
  have H:=aA (h.keep hb);have X:=aA (x.keep hb);have Y:=aA (y.keep hb);have C1:=aA (qT ig H.o.ip.i2);have C2:=aA (fun(w2:World) (hq:Below wr.heap.size wr w2)=>qT (ig.keep hq) (H.o.ip.i3.keep hq));change Calls _ _ #[_,.pointer (some ⟨bf,0,none⟩),.pointer (some ⟨bx,0,none⟩)] _ _
  have y0:=Y.o.cell 0;have x2:=X.o.cell 2;obtain⟨v,hv⟩:∃v,nX g p.first=v:=⟨_,rfl⟩;have HV:=aA hv;rw[hv]at C1;clear h x y hb ig hv;cases v
  ·go_enter Tryz.func178,Tryz.ntmps178
   go_wp2_with fail
   refine C1.o.mono ?_;rintro e w2 ⟨rfl,hb⟩;have HB:=aA hb;clear hb;go_wp2
   go_ret
   exact⟨aY (by unfold KU;rw[HV.o];rfl),HB.o⟩
  ·go_enter Tryz.func178,Tryz.ntmps178
   go_wp2_with fail
   refine C1.o.mono ?_;rintro e w2 ⟨rfl,hb⟩;have HB:=aA hb;have C3:=aA (C2.o w2 hb);have y0:=(Y.o.keep hb).cell 0;have x3:=(X.o.keep hb).cell 3;clear hb;go_wp2_with fail
   refine C3.o.mono ?_;rintro e w3 ⟨rfl,hb3⟩;have H3:=aA (HB.o.trans (hb3.mono HB.o.size));clear hb3;go_wp2
   go_ret
   exact⟨aY (by unfold KU;rw[HV.o];rfl),H3.o⟩
end
theorem yH {w0 w:World}{B n:Nat}{v:Value}{L:LLi}{F:FuncId}{cv:Array Value}{q:LIn→Bool}(own:oI w B w0.heap.size v n L)(hn:n≤5864062014805)(hBB:B≤w0.heap.size)(he:∀args w,(callFunc F args).run Tryz.prog w=.ok (.enter F args) w)(hp:∀g,v.ownBlock=some g→rM F cv w g L q) :
  Calls Tryz.prog 121 #[v,.func (.func F) #[] cv] w fun e w'=>∃A k c,e=.returned (.slice A k c)∧oI w' B w0.heap.size (.slice A k c) k (L.filter fun a=>!q a)∧w.grownBy w' v.ownBlock:=by
 have own':=own;obtain⟨cells,o1,o2,o3⟩:=own;rcases o1.2 with⟨rfl,h0⟩|⟨g,cap,cur,rfl,_⟩
 ·obtain rfl:n=0:=by simpa using h0
  have hx:L=[]:=List.eq_nil_of_length_eq_zero o3;subst hx;refine(wR (p:=q) ⟨he,fun wr A n c y hy=>absurd hy (by simp)⟩).mono ?_;rintro e w' ⟨rfl,hb⟩;exact⟨none,0,0,rfl,aC.nil,iE hb _⟩
 ·refine(wQ own' hn (hp g rfl) hBB).mono ?_;rintro e w' ⟨k,c',rfl,h1,h2⟩;exact⟨_,k,c',rfl,h1,h2⟩
def qU (d:Nat)(ok:Bool)(T:aW)(w:World)(e:Ending)(w':World):Prop:=∃v,e=.returned (.tuple #[v,.bool ok])∧fJ (fun k=>w.heap.size≤k) d w' v T∧Below w.heap.size w w'
def eV:aW:=.mk 0 0 []
theorem oO {f:Nat}(IH:vN f){w:World}{A A1 A2 A3 A4:OAd}{n c n1 c1 n2 c2 n3 c3 n4 c4:Nat}{log:LLi}{p:aU}(h:IP w A A1 A2 A3 A4 n c n1 c1 n2 c2 n3 c3 n4 c4 log p)(hp:cZ log p)(hf:vK (f+1) log)(he:∀t∈log,t.length≠0) :
  Calls Tryz.prog 130 #[vM A A1 A2 A3 A4 n c n1 c1 n2 c2 n3 c3 n4 c4] w (qU (f+3) (decide (2≤(eF (bhB p) p.labels).length)) (if 2≤(eF (bhB p) p.labels).length then .mk 4 0 ((eF (bhB p) p.labels).map fun g=>aP f (log.filter fun t=>inS g (t.headD 0)))else eV) w):=by
 have H:=aA h;have FU:=aA (fun g (h2:2≤(eF (bhB p) p.labels).length) (hg:g∈eF (bhB p) p.labels)=>hf.choose he hp h2 hg);have NN:=aA (show n≤60∧p.labels.length≤26∧p.labels.Pairwise (·< ·)from⟨by rw[←h.il.len];exact hf.n,mW hp.1.1 (hp.lab hf.1),hp.1.1⟩);have HE:=aA he;have IHH:=aA IH;clear h hp hf he IH;obtain⟨LV,hLV⟩:∃LV:Array Value,LV=#[.slice A n c,.slice A1 n1 c1,.slice A2 n2 c2,.slice A3 n3 c3,.slice A4 n4 c4]:=⟨_,rfl⟩;have B0:=aA ((aB w (.cells #[.slice A n c,.slice A1 n1 c1,.slice A2 n2 c2,.slice A3 n3 c3,.slice A4 n4 c4] 222)).alloc (by simp) (.cells #[.int .i64 0,.int .i64 0,.slice none 0 0] 71));have X0:=aA (show Box ((w.alloc (.cells #[.slice A n c,.slice A1 n1 c1,.slice A2 n2 c2,.slice A3 n3 c3,.slice A4 n4 c4] 222)).alloc (.cells #[.int .i64 0,.int .i64 0,.slice none 0 0] 71)) w.heap.size 222 LV from by subst hLV;exact(Box.new w _ _).old _);have X1:=aA (show Box ((w.alloc (.cells #[.slice A n c,.slice A1 n1 c1,.slice A2 n2 c2,.slice A3 n3 c3,.slice A4 n4 c4] 222)).alloc (.cells #[.int .i64 0,.int .i64 0,.slice none 0 0] 71)) (w.heap.size+1) 71 #[.int .i64 0,.int .i64 0,.slice none 0 0]from Box.newAt (by simp) _ _);have HLV:=aA hLV;clear hLV;go_enter Tryz.func130,Tryz.ntmps130
 go_upto_region 1 with fail
 generalize ((w.alloc (.cells #[.slice A n c,.slice A1 n1 c1,.slice A2 n2 c2,.slice A3 n3 c3,.slice A4 n4 c4] 222)).alloc (.cells #[.int .i64 0,.int .i64 0,.slice none 0 0] 71))=w1 at *
 have x0:w1.cell? ⟨w.heap.size,0,none⟩=some (.slice A n c):=(X0.o.cell 0).trans (by rw[HLV.o];rfl);have x1:w1.cell? ⟨w.heap.size,1,none⟩=some (.slice A1 n1 c1):=(X0.o.cell 1).trans (by rw[HLV.o];rfl);have x2:w1.cell? ⟨w.heap.size,2,none⟩=some (.slice A2 n2 c2):=(X0.o.cell 2).trans (by rw[HLV.o];rfl);have x3:w1.cell? ⟨w.heap.size,3,none⟩=some (.slice A3 n3 c3):=(X0.o.cell 3).trans (by rw[HLV.o];rfl);have x4:w1.cell? ⟨w.heap.size,4,none⟩=some (.slice A4 n4 c4):=(X0.o.cell 4).trans (by rw[HLV.o];rfl);have CG:=aA (mU (H.o.keep B0.o).ip.i1 (by rw[←H.o.ip.i1.len];exact NN.o.2.1) NN.o.2.2 (Pq p.labels (H.o.keep B0.o)));go_wp2_with fail
 refine CG.o.mono ?_;rintro e w2 ⟨vo,m,rfl,hm,rg,hG,hb2⟩;have ML:=aA (show(eF (bhB p) p.labels).length=m from aC.len rg);obtain⟨AG,cG,rfl,ig⟩:=jT.lists rg (by omega);have IG:=aA ig;have D2:=aA hb2;have HM:=aA hm;have X2:=aA (X0.o.keep hb2);have X3:=aA (X1.o.keep hb2);clear x0 x1 x2 x3 x4 rg hG hb2 hm ig;by_cases hlt:m<2
 ·have hmi:(m:Int)<2:=by omega
  have OKF:=aA (show ¬2≤(eF (bhB p) p.labels).length by rw[ML.o];omega);have BA:=aA (show fJ (fun k=>w1.heap.size≤k) (f+3) w2 (.agg #[.int .i64 0,.int .i64 0,.slice none 0 0]) eV from⟨none,0,0,rfl,Sl.nil0,fun h=>absurd h (by omega)⟩);have hgt:=X1.o.lt;obtain⟨u0,u1,u2⟩:=X3.o.three;have fz:=fun j=>X3.o.frozen j
  have W5:=aA (d9 (w:=w) BA.o X3.o D2.o B0.o (by omega) (by omega));clear hlt hgt;go_wp2
  generalize (((w2.setCell ⟨w.heap.size+1,0,none⟩ (.int .i64 0)).setCell ⟨w.heap.size+1,1,none⟩ (.int .i64 0)).setCell ⟨w.heap.size+1,2,none⟩ (.slice none 0 0))=w5 at *
  obtain⟨z0,z1,z2⟩:=W5.o.1.three;exact bodyPost_ret (v:=.tuple #[.agg #[.int .i64 0,.int .i64 0,.slice none 0 0],.bool false]) (by simp[results,Tryz.results130,go_sem,z0,z1,z2]) rfl ⟨.agg #[.int .i64 0,.int .i64 0,.slice none 0 0],by first|rfl|(rw[decide_eq_false OKF.o]),by first|exact W5.o.2.1|(rw[if_neg OKF.o];exact W5.o.2.1),W5.o.2.2⟩
 ·have hmi:¬(m:Int)<2:=by omega
  have OKT:=aA (show 2≤(eF (bhB p) p.labels).length by rw[ML.o];omega);clear hlt;go_wp2
  go_loopg [5,21] m (fun gk s5 s21 wr=>∃v k,v=s5∧s21=.int .i64 (k:Nat)∧Hid (k+gk=m)∧Hid (j4 wr w2.heap.size (f+3) v k (((eF (bhB p) p.labels).take k).map fun g=>aP f (log.filter fun t=>inS g (t.headD 0))))∧Hid (Below w2.heap.size w2 wr))
  case atStart=>exact⟨_,0,rfl,rfl,aA (by omega),aA aC.nil,aA (Below.refl _ _)⟩
  case round =>
   obtain⟨v,k,rfl,rfl,hgk,OB,DB⟩:=hrel;have DW:=aA (B0.o.trans ((D2.o.trans (DB.o.mono D2.o.size)).mono B0.o.size));have DV:=aA (D2.o.trans (DB.o.mono D2.o.size));by_cases hlt:k<m
   ·have hki:(k:Int)<(m:Int):=by omega
    obtain⟨b,off,g,Bg,mg,dg,rfl,hb,hgx,q0,ig,hmg⟩:=bT.get (Sl.keep bH.kept IG.o DB.o) hlt;have HJ:=aA (show gk-1<gk∧(k+1)+(gk-1)=m∧k≤26 by have:=hgk.o;have:=HM.o;omega);have hwk:IntKind.i64.wrap ((k:Int)+1)=((k+1:Nat):Int):=by
     have:=HJ.o;simp[IntKind.wrap,IntKind.bits,IntKind.signed];omega
    have hgne:g≠[]:=(iZ NN.o.2.2).ne g (List.mem_of_getElem? hgx.o);obtain⟨bg,og,yg,rfl,hbg,_,_⟩:=aJ.get ig (k:=0) (by have:=ig.len;have:g.length≠0:=fun e=>hgne (List.eq_nil_of_length_eq_zero e);omega);have FG:=aA (FU.o g OKT.o (List.mem_of_getElem? hgx.o));have TB:=aA (Box.new wr #[.slice (some ⟨bg,og,none⟩) mg dg] 28);have BB:=aA (aB wr (.cells #[.slice (some ⟨bg,og,none⟩) mg dg] 28));have IGG:=aA (ig.keep BB.o);have HBG:=aA hbg;have x0:(wr.alloc (.cells #[.slice (some ⟨bg,og,none⟩) mg dg] 28)).cell? ⟨w.heap.size,0,none⟩=some (.slice A n c):=(((X2.o.keep DB.o).keep BB.o).cell 0).trans (by rw[HLV.o];rfl);have CC:=aA (lY (Sl.keep bH.kept (Sl.keep bH.kept H.o.il DW.o) BB.o) (by have:=NN.o;omega));clear hb ig hgne hbg;go_upto_region 8 with fail
    clear q0;have HS:=aA (show(wr.alloc (.cells #[.slice (some ⟨bg,og,none⟩) mg dg] 28)).heap.size=wr.heap.size+1 by simp);generalize hw3:wr.alloc (.cells #[.slice (some ⟨bg,og,none⟩) mg dg] 28)=w3 at *
    clear hw3;go_wp2_with fail
    refine CC.o.mono ?_;rintro e w4 ⟨v4,rfl,ow4,hb4⟩;have hl4:=ow4.lt;have CD:=aA (yH (F:=169) (cv:=#[.pointer (some ⟨wr.heap.size,0,none⟩)]) (q:=Wj g) ow4 (by have:=NN.o;omega) (Nat.le_refl _) (fun args w=>by kernel_rfl) (fun gr hgr=>Dz HE.o (TB.o.keep hb4) (IGG.o.keep hb4) (by have:=(hl4 gr hgr).1;have:=HS.o;omega) (fun a ha=>by injection ha with ha;subst ha;have:=(hl4 gr hgr).1;have:=HS.o;have:=HBG.o;show bg≠gr;omega)));have B4:=aA hb4;have HL4:=aA hl4;clear ow4 hb4 hl4;go_wp2_with fail
    refine CD.o.mono ?_;rintro e w5 ⟨A5,k5,c5,rfl,ow5,hg5⟩;have B5:=aA (show Below wr.heap.size wr w5 from(BB.o.trans (B4.o.mono BB.o.size)).grown hg5 (Nat.le_trans BB.o.size B4.o.size) (fun k hk=>by have:=(HL4.o k hk).1;have:=HS.o;omega));have L5:=aA (show k5≤60 by
     have h1:(log.filter fun a=>!Wj g a).length=k5:=ow5.len;have h2:(log.filter fun a=>!Wj g a).length≤log.length:=List.length_filter_le _ _;have h3:=NN.o.1;have h4:=H.o.il.len;omega)
    obtain⟨A6,c6,e6,il6⟩:=oI.lists ow5 (by have:=L5.o;omega);injection e6 with e61 _ e62;subst e61 e62;have EF:(log.filter fun a=>!Wj g a)=log.filter fun t=>inS g (t.headD 0):=by
     congr 1
     funext t
     unfold Wj;rw[Bool.not_not]
    rw[EF]at il6;have CF:=aA (IHH.o w5 A5 k5 c5 _ il6 FG.o);clear ow5 hg5 il6 EF CD;go_wp2_with fail
    refine CF.o.mono ?_;rintro e w6 ⟨v6,rfl,⟨A6',n6',c6',rfl,s6,p6⟩,hb6⟩;have B6:=aA (B5.o.trans (hb6.mono B5.o.size));have hDB:=DB.o.size;have KO:=aA (Pj (OB.o) hDB (s6.imp (fun _ _ r=>r.wide (fun k _ hk=>Nat.le_trans B5.o.size hk) (f+2))) (fun hn a ha=>Nat.le_trans B5.o.size (p6 hn a ha)));have OB3:=aA (OB.o.keep B6.o);have E3:=aA (DB.o.trans (B6.o.mono DB.o.size));have hB3:=E3.o.size;have hk1:k≤100:=by have:=HJ.o;omega
    have TK:=aA (show((eF (bhB p) p.labels).take (k+1)).map (fun g=>aP f (log.filter fun t=>inS g (t.headD 0)))=((eF (bhB p) p.labels).take k).map (fun g=>aP f (log.filter fun t=>inS g (t.headD 0)))++[aP f (log.filter fun t=>inS g (t.headD 0))] by rw[List.take_add_one,hgx.o];simp);obtain⟨kd3,hkd⟩:∃x,x=(aP f (log.filter fun t=>inS g (t.headD 0))).kind:=⟨_,rfl⟩;obtain⟨lb3,hlb⟩:∃x,x=(aP f (log.filter fun t=>inS g (t.headD 0))).label:=⟨_,rfl⟩;rw[←hkd,←hlb];have HKL:=aA (And.intro hkd hlb);clear s6 p6 hb6 OB hkd hlb hDB;go_wp2_with (at_builtin;refine lQ rfl _ _ rfl rfl rfl rfl OB3.o HKL.o.1 HKL.o.2 KO.o.1 KO.o.2 hB3 hk1 ?_;intro v8 w8 own8 hg8;have O8:=aA own8;have E8:=aA (show Below w2.heap.size w2 w8 from E3.o.grown hg8 hB3 (fun k hk=>(OB3.o.lt k hk).1)))
    go_roundg (gk-1)
    case measure=>exact HJ.o.1
    case rel=>exact⟨v8,k+1,rfl,rfl,aA HJ.o.2.1,aA (by rw[TK.o];exact O8.o),E8⟩
   ·have hki:¬(k:Int)<(m:Int):=by omega
    have OF:=aA (show j4 wr w2.heap.size (f+3) v k ((eF (bhB p) p.labels).map fun g=>aP f (log.filter fun t=>inS g (t.headD 0)))from by
     have:=OB.o;rwa[List.take_of_length_le (by rw[ML.o];omega)]at this)
    obtain⟨AK,cK,rfl,sK,pK⟩:=OF.o.sl2 (by have:=HM.o;have:=hgk.o;omega);have CB:=aA (gR 4 sK pK DB.o);have X5:=aA (X3.o.keep DB.o);clear sK pK OB hlt hgk;go_wp2_with fail
    refine CB.o.mono ?_;rintro e w3 ⟨⟨v3,rfl,⟨A3',n3',c3',rfl,s3,p3⟩,hb3⟩,hb4⟩;have X4:=aA (X5.o.keep hb4);have BA:=aA (show fJ (fun k=>w2.heap.size≤k) (f+3) w3 (.agg #[.int .i64 (aW.mk 4 0 ((eF (bhB p) p.labels).map fun g=>aP f (log.filter fun t=>inS g (t.headD 0)))).kind,.int .i64 (aW.mk 4 0 ((eF (bhB p) p.labels).map fun g=>aP f (log.filter fun t=>inS g (t.headD 0)))).label,.slice A3' n3' c3']) (.mk 4 0 ((eF (bhB p) p.labels).map fun g=>aP f (log.filter fun t=>inS g (t.headD 0))))from⟨A3',n3',c3',rfl,s3,p3⟩);generalize (aW.mk 4 0 ((eF (bhB p) p.labels).map fun g=>aP f (log.filter fun t=>inS g (t.headD 0)))).kind=kd3 at *
    generalize (aW.mk 4 0 ((eF (bhB p) p.labels).map fun g=>aP f (log.filter fun t=>inS g (t.headD 0)))).label=lb3 at *
    have D3:=aA hb3;have hgt:=X3.o.lt;obtain⟨u0,u1,u2⟩:=X4.o.three;have fz:=fun j=>X4.o.frozen j
    have W5:=aA (d9 (w:=w) BA.o X4.o D3.o (B0.o.trans (D2.o.mono B0.o.size)) (by omega) (by omega));clear s3 p3 hb3 hb4 hgt;go_wp2
    generalize (((w3.setCell ⟨w.heap.size+1,0,none⟩ (.int .i64 kd3)).setCell ⟨w.heap.size+1,1,none⟩ (.int .i64 lb3)).setCell ⟨w.heap.size+1,2,none⟩ (.slice A3' n3' c3'))=w5 at *
    obtain⟨z0,z1,z2⟩:=W5.o.1.three;exact bodyPost_ret (v:=.tuple #[.agg #[.int .i64 kd3,.int .i64 lb3,.slice A3' n3' c3'],.bool true]) (by simp[results,Tryz.results130,go_sem,z0,z1,z2]) rfl ⟨.agg #[.int .i64 kd3,.int .i64 lb3,.slice A3' n3' c3'],by first|rfl|(rw[decide_eq_true OKT.o]),by first|exact W5.o.2.1|(simpa using W5.o.2.1),W5.o.2.2⟩
end Go.Proofs.YtfmnagcglhlicaaGreat
