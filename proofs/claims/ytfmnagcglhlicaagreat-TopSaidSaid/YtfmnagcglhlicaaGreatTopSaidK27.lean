/- Texts melted into one: slices.SortStableFunc on rows of lists. Conditions: the row is the call's own, as its lists are, and has at most twenty-six; of two lists that differ the comparison puts exactly one first. | The functions that mine hands on: what is linked, what leads, what is asked of a trace -/
import Derived.Test.YtfmnagcglhlicaaGreatTopSaidK26
set_option maxRecDepth 100000
namespace Go.Proofs.YtfmnagcglhlicaaGreat
open Go.RowKit
def ZhH (w w0:World)(B B2 g n cap:Nat)(f:Nat→List Int)(R:List Int→List Int→Prop)(S:List Int→Prop):Prop:=(∃q,Zdh w B B2 g n cap q∧Zbp S q n∧ZbY R q 0 n∧Zbl q f 0 n)∧w0.grownBy w (some g)
set_option maxHeartbeats 8000000 in
theorem Zjo {w:World}{B B2 g n cap:Nat}{f:Nat→List Int}{F:FuncId}{cv:Array Value}{R:List Int→List Int→Prop}{S:List Int→Prop}(own:Zdh w B B2 g n cap f)(hn:n≤26)(o:Zjl R S)(G:Zbp S f n)(hF:Zd6 F cv w g R S) :
  Calls Tryz.prog 206 #[.slice (some ⟨g,0,none⟩) n cap,.int .i64 n,.func (.func F) #[] cv] w fun e w'=>(∃y,e=.returned y)∧ZhH w' w B B2 g n cap f R S:=by
 have OW:=Zaa own
 have HF:=Zaa hF
 have HO:=Zaa o
 have GD:=Zaa G
 clear own hF o G
 have h40:¬(40:Int)≤(n:Int):=by omega
 have hw20:IntKind.i64.wrap (20:Int)=20:=by decide
 have hw40:IntKind.i64.wrap (40:Int)=40:=by decide
 go_enter Tryz.func206,Tryz.ntmps206
 go_wp2
 go_loopg [7,8] 1 (fun gk u v wr=>(u=.int .i64 0∧v=.int .i64 20∧0<gk∧Hid (Zdh wr B B2 g n cap f)∧Hid (w.grownBy wr (some g)))∨(u=.int .i64 20∧v=.int .i64 40∧Hid (20≤n∧∃q,Zdh wr B B2 g n cap q∧Zbp S q n∧ZbY R q 0 20∧Zbl q f 0 20)∧Hid (w.grownBy wr (some g))))
 case atStart=>exact .inl ⟨rfl,rfl,by omega,OW,Zaa (World.grownBy.refl _ _)⟩
 case round =>
  clear OW
  rcases hrel with⟨rfl,rfl,hgk,OL,GR⟩|⟨rfl,rfl,QQ,GR⟩
  ·by_cases hlt:20≤n
   ·have hlti:(20:Int)≤(n:Int):=by omega
    have CR:=Zaa (ZdX OL.out 0 20 (by omega) hlt (by omega) HO.out GD.out (HF.out.later GR.out))
    have HL:=Zaa (And.intro hlt (show gk-1<gk by omega))
    clear hlt hgk
    go_wp2_with fail
    refine CR.out.mono ?_
    rintro e w1 ⟨⟨y,rfl⟩,o1,g1⟩
    have QQ:=Zaa (show 20≤n∧∃q,Zdh w1 B B2 g n cap q∧Zbp S q n∧ZbY R q 0 20∧Zbl q f 0 20 from⟨HL.out.1,o1⟩)
    have G1:=Zaa (GR.out.trans g1)
    clear o1 g1 OL GR CR
    go_wp2
    go_roundg (gk-1)
    case measure=>exact HL.out.2
    case rel=>exact .inr ⟨rfl,rfl,QQ,G1⟩
   ·have hlti:¬(20:Int)≤(n:Int):=by omega
    have h20:¬(20:Int)<(n:Int):=by omega
    have CR:=Zaa (ZdX OL.out 0 n (by omega) (Nat.le_refl _) (by omega) HO.out GD.out (HF.out.later GR.out))
    clear hlt
    go_wp2_with fail
    refine CR.out.mono ?_
    rintro e w1 ⟨⟨y,rfl⟩,o1,g1⟩
    have AN:=Zaa (show ZhH w1 w B B2 g n cap f R S from⟨o1,GR.out.trans g1⟩)
    clear o1 g1 OL GR CR
    go_wp2
    go_loopg [6] 0 (fun gk u wr=>u=.int .i64 20∧Hid (ZhH wr w B B2 g n cap f R S))
    case atStart=>exact⟨rfl,AN⟩
    case round =>
     clear AN
     obtain⟨rfl,AN⟩:=hrel
     go_wp2
     exact bodyPost_end (v:=.tuple #[]) (by simp[results,Tryz.results206,go_sem]) rfl ⟨⟨_,rfl⟩,AN.out⟩
  ·obtain⟨L20,q,r1,r2,r3,r4⟩:=QQ.out
   have CR:=Zaa (ZdX r1 20 n L20 (Nat.le_refl _) (by omega) HO.out r2 (HF.out.later GR.out))
   have SG:=Zaa (And.intro r3 r4)
   have L20:=Zaa L20
   clear QQ r1 r2 r3 r4
   go_wp2_with fail
   refine CR.out.mono ?_
   rintro e w1 ⟨⟨y,rfl⟩,⟨q2,o1,o2,o3,o4⟩,g1⟩
   have O1:=Zaa o1
   have Q2:=Zaa (show Zbp S q2 n∧ZbY R q2 0 20∧ZbY R q2 20 n∧Zbl q2 f 0 n from⟨o2,SG.out.1.same (fun k h1 h2=>o4.out k (by omega)),o3,(o4.wide (Nat.zero_le _) (Nat.le_refl _)).trans (SG.out.2.wide (Nat.le_refl _) L20.out)⟩)
   have G1:=Zaa (GR.out.trans g1)
   clear o1 o2 o3 o4 g1 GR CR SG
   go_wp2
   go_loopg [6] 1 (fun gk u wr=>(u=.int .i64 20∧0<gk∧Hid (Zdh wr B B2 g n cap q2)∧Hid (w.grownBy wr (some g)))∨(u=.int .i64 40∧Hid (ZhH wr w B B2 g n cap f R S)))
   case atStart=>exact .inl ⟨rfl,by omega,O1,G1⟩
   case round =>
    clear O1 G1
    rcases hrel with⟨rfl,hgk,OL,GR⟩|⟨rfl,AN⟩
    ·by_cases hlt:20<n
     ·have hlti:(20:Int)<(n:Int):=by omega
      have CR:=Zaa (fun(wx:World) (OX:Zdh wx B B2 g n cap q2) (GX:w.grownBy wx (some g))=>ZeY (by omega) HO.out n wx q2 0 20 n (by omega) (by omega) hlt (Nat.le_refl _) OX Q2.out.1 (HF.out.later GX) Q2.out.2.1 Q2.out.2.2.1)
      have HG:=Zaa (show gk-1<gk by omega)
      clear hlt hgk
      obtain⟨go,hgo⟩:∃go:Nat,go=gk:=⟨_,rfl⟩
      subst hgo
      go_wp2
      go_loopg [7,8] 0 (fun gk u v wr=>u=.int .i64 0∧v=.int .i64 40∧Hid (Zdh wr B B2 g n cap q2)∧Hid (w.grownBy wr (some g)))
      case atStart=>exact⟨rfl,rfl,OL,GR⟩
      case round =>
       clear OL GR
       obtain⟨rfl,rfl,OL,GR⟩:=hrel
       have CR:=Zaa (CR.out wr OL.out GR.out)
       go_wp2_with fail
       refine CR.out.mono ?_
       rintro e w1 ⟨⟨y,rfl⟩,⟨q3,o1,o2,o3,o4⟩,g1⟩
       have AN:=Zaa (show ZhH w1 w B B2 g n cap f R S from⟨⟨q3,o1,o2,o3,o4.trans Q2.out.2.2.2⟩,GR.out.trans g1⟩)
       clear o1 o2 o3 o4 g1 OL GR CR
       go_wp2
       go_roundg (go-1)
       case measure=>exact HG.out
       case rel=>exact .inr ⟨rfl,AN⟩
     ·have hlti:¬(20:Int)<(n:Int):=by omega
      have AN:=Zaa (show ZhH wr w B B2 g n cap f R S from⟨⟨q2,OL.out,Q2.out.1,(by have h:=Q2.out.2.1;rwa[show n=20 by have:=L20.out;omega]),Q2.out.2.2.2⟩,GR.out⟩)
      clear hlt
      go_wp2
      exact bodyPost_end (v:=.tuple #[]) (by simp[results,Tryz.results206,go_sem]) rfl ⟨⟨_,rfl⟩,AN.out⟩
    ·go_wp2
     exact bodyPost_end (v:=.tuple #[]) (by simp[results,Tryz.results206,go_sem]) rfl ⟨⟨_,rfl⟩,AN.out⟩
theorem Zf6 {w:World}{B B2 g n cap:Nat}{f:Nat→List Int}{F:FuncId}{cv:Array Value}{R:List Int→List Int→Prop}{S:List Int→Prop}(own:Zdh w B B2 g n cap f)(hn:n≤26)(o:Zjl R S)(G:Zbp S f n)(hF:Zd6 F cv w g R S) :
  Calls Tryz.prog 172 #[.slice (some ⟨g,0,none⟩) n cap,.func (.func F) #[] cv] w fun e w'=>(∃y,e=.returned y)∧ZhH w' w B B2 g n cap f R S:=by
 have CR:=Zaa (Zjo own hn o G hF)
 clear own hF o G
 go_enter Tryz.func172,Tryz.ntmps172
 go_wp2_with fail
 refine CR.out.mono ?_
 rintro e w1 ⟨⟨y,rfl⟩,h⟩
 have AN:=Zaa h
 clear h CR
 go_wp2
 exact bodyPost_end (v:=.tuple #[]) (by simp[results,Tryz.results172,go_sem]) rfl ⟨⟨_,rfl⟩,AN.out⟩
end Go.Proofs.YtfmnagcglhlicaaGreat
namespace Go.Proofs.YtfmnagcglhlicaaGreat
open Go.RowKit Go.Maps
section
variable {w:World} {A A1 A2 A3 A4:Option Addr} {n c n1 c1 n2 c2 n3 c3 n4 c4:Nat} {log:List (List Int)} {p:Zas}
theorem Zo8 (ls:List Int)(h:ZmE w A A1 A2 A3 A4 n c n1 c1 n2 c2 n3 c3 n4 c4 log p):ZtA 168 #[ZhF A A1 A2 A3 A4 n c n1 c1 n2 c2 n3 c3 n4 c4] #[] w ls (bhB p) where
 enters:=fun args w=>by kernel_rfl
 calls:=fun wr a b _ _ hb=>by simpa using Zer a b (h.keep hb)
theorem Znw (ls:List Int){bx:Nat}(h:ZmE w A A1 A2 A3 A4 n c n1 c1 n2 c2 n3 c3 n4 c4 log p)(x:Box w bx 222 #[.slice A n c,.slice A1 n1 c1,.slice A2 n2 c2,.slice A3 n3 c3,.slice A4 n4 c4]):ZtA 175 #[] #[.pointer (some ⟨bx,0,none⟩)] w ls (Zeo p) where
 enters:=fun args w=>by kernel_rfl
 calls:=fun wr a b _ _ hb=>by
  have H:=Zaa (h.keep hb)
  have X:=Zaa (x.keep hb)
  clear h x hb
  simp only[Array.empty_append]
  change Calls _ _ #[.int .i64 a,.int .i64 b,.pointer (some ⟨bx,0,none⟩)] _ _
  have x0:=X.out.cell 0
  have x1:=X.out.cell 1
  have x2:=X.out.cell 2
  have x3:=X.out.cell 3
  have x4:=X.out.cell 4
  obtain⟨v,hv⟩:∃v,bhB p a b=v:=⟨_,rfl⟩
  have HV:=Zaa hv
  have C1:=Zaa (Zer a b H.out)
  rw[hv]at C1
  clear hv
  cases v
  ·go_enter Tryz.func175,Tryz.ntmps175
   go_wp2_with fail
   refine C1.out.mono ?_
   rintro e w2 ⟨rfl,hb⟩
   have HB:=Zaa hb
   clear hb
   go_wp2
   go_ret
   exact⟨Zav (by unfold Zeo;rw[HV.out];rfl),HB.out⟩
  ·go_enter Tryz.func175,Tryz.ntmps175
   go_wp2_with fail
   refine C1.out.mono ?_
   rintro e w2 ⟨rfl,hb⟩
   have HB:=Zaa hb
   have C2:=Zaa (Zer b a (H.out.keep hb))
   have X2:=X.out.keep hb
   have x0:=X2.cell 0
   have x1:=X2.cell 1
   have x2:=X2.cell 2
   have x3:=X2.cell 3
   have x4:=X2.cell 4
   clear hb
   go_wp2_with fail
   refine C2.out.mono ?_
   rintro e w3 ⟨rfl,hb3⟩
   have H3:=Zaa (HB.out.trans (hb3.mono HB.out.size))
   clear hb3
   go_wp2
   go_ret
   exact⟨Zav (by unfold Zeo;rw[HV.out];rfl),H3.out⟩
end
structure LdF (w:World)(b bm:Nat)(S:Int→Int→Bool):Prop where
 x:Box w b 278 #[.map (some bm)]
 m:∃q,Zkg w bm S q
theorem LdF.keep {w w':World}{b bm:Nat}{S:Int→Int→Bool}(h:LdF w b bm S)(hb:Below w.heap.size w w'):LdF w' b bm S:=⟨h.x.keep hb,by obtain⟨q,m⟩:=h.m;exact⟨q,m.keep hb⟩⟩
abbrev ldV (b:Nat):Value:=.func (.func 205) #[] #[.pointer (some ⟨b,0,none⟩)]
theorem Zfg {w:World}{b bm:Nat}{S:Int→Int→Bool}(h:LdF w b bm S){x y:Int}(hx:okI x)(hy:okI y) :
  Calls Tryz.prog 205 #[.int .i64 x,.int .i64 y,.pointer (some ⟨b,0,none⟩)] w fun e w'=>e=.returned (.bool (S x y))∧w=w':=by
 obtain⟨q,m⟩:=h.m
 obtain⟨v,hv⟩:∃v,S x y=v:=⟨_,rfl⟩
 have lk:=Zkg.look1 m hx hy hv
 have x0:=h.x.cell 0
 rw[hv]
 clear h m hv hx hy
 cases v
 ·go_enter Tryz.func205,Tryz.ntmps205
  go_wp2
  go_ret
  exact⟨rfl,rfl⟩
 ·go_enter Tryz.func205,Tryz.ntmps205
  go_wp2
  go_ret
  exact⟨rfl,rfl⟩
theorem Zo9 {w:World}{ls:List Int}{bx b bm:Nat}{S:Int→Int→Bool}(hl:∀a∈ls,okI a)(x:Box w bx 197 #[ldV b])(h:LdF w b bm S):ZtA 171 #[] #[.pointer (some ⟨bx,0,none⟩)] w ls (ZbE S) where
 enters:=fun args w=>by kernel_rfl
 calls:=fun wr a b2 ha hb2 hb=>by
  have C1:=Zaa (fun(w2:World) (hq:Below w.heap.size w w2)=>Zfg (h.keep hq) (hl a ha) (hl b2 hb2))
  have C2:=Zaa (fun(w2:World) (hq:Below w.heap.size w w2)=>Zfg (h.keep hq) (hl b2 hb2) (hl a ha))
  have X:=Zaa (x.keep hb)
  have BD:=Zaa (hb.trans ((Below.refl wr.heap.size wr).drew.mono hb.size))
  clear h x hb hl ha hb2
  simp only[Array.empty_append]
  change Calls _ _ #[.int .i64 a,.int .i64 b2,.pointer (some ⟨bx,0,none⟩)] _ _
  have x0:=X.out.cell 0
  go_enter Tryz.func171,Tryz.ntmps171
  go_wp2_with fail
  go_region_held3 (fun w'=>w'.cell? ⟨bx,0,none⟩=some (ldV b))
   (first|go_keep)
   (first
    |(go_at_call 205;(with_reducible refine(C1.out wr.drew BD.out).mono ?_);rintro e w' ⟨rfl,rfl⟩)
    |(go_at_call 205;(with_reducible refine(C2.out wr.drew BD.out).mono ?_);rintro e w' ⟨rfl,rfl⟩))
  go_wp2
  go_ret
  exact⟨Zav rfl,(Below.refl _ _).drew⟩
theorem LdF.grown {w w':World}{b bm:Nat}{S:Int→Int→Bool}{row:Option Nat}(h:LdF w b bm S)(hg:w.grownBy w' row)(h1:row≠some b)(h2:row≠some bm):LdF w' b bm S :=
 ⟨h.x.grown hg h1,by obtain⟨q,m⟩:=h.m;exact⟨q,m.beside hg (Ne.symm h2)⟩⟩
set_option maxHeartbeats 1000000 in
theorem Znx {w:World}{G:List (List Int)}{g bx b bm:Nat}{S:Int→Int→Bool}(hG:∀x∈G,x≠[]∧∀a∈x,okI a)(x:Box w bx 197 #[ldV b])(h:LdF w b bm S)(h0:bx≠g)(h1:b≠g)(h2:bm≠g):Zd6 173 #[.pointer (some ⟨bx,0,none⟩)] w g (ltG S) (fun x=>x∈G) where
 enters:=fun args w=>by kernel_rfl
 calls:=fun wr A B n c m d l r hg il ir hl hr _=>by
  obtain⟨xl,tl,rfl⟩:∃a t,l=a::t:=by
   cases l with
   | nil=>exact absurd rfl (hG _ hl).1
   | cons a t=>exact⟨a,t,rfl⟩
  obtain⟨xr,tr,rfl⟩:∃a t,r=a::t:=by
   cases r with
   | nil=>exact absurd rfl (hG _ hr).1
   | cons a t=>exact⟨a,t,rfl⟩
  have hln:=il.len
  have hrn:=ir.len
  simp only[List.length_cons]at hln hrn
  obtain⟨bl,ol,yl,rfl,hbl,hyl,ql⟩:=Zam.get il (k:=0) (by omega)
  obtain⟨br,orr,yr,rfl,hbr,hyr,qr⟩:=Zam.get ir (k:=0) (by omega)
  have e1:yl=xl:=by have:=hyl.out;simp at this;exact this.symm
  have e2:yr=xr:=by have:=hyr.out;simp at this;exact this.symm
  subst e1 e2
  have LF:=h.grown hg (fun e=>h1 (by injection e with e;exact e.symm)) (fun e=>h2 (by injection e with e;exact e.symm))
  have X:=Zaa (x.grown hg (fun e=>h0 (by injection e with e;exact e.symm)))
  have oa:=(hG _ hl).2 yl (by simp)
  have ob:=(hG _ hr).2 yr (by simp)
  have BD:=Zaa ((Below.refl wr.heap.size wr).drew)
  have C1:=Zaa (Zfg (LF.keep BD.out) oa ob)
  have hn0:0<n:=by omega
  have hm0:0<m:=by omega
  obtain⟨v,hv⟩:∃v,S yl yr=v:=⟨_,rfl⟩
  have HV:=Zaa hv
  rw[hv]at C1
  change Calls _ _ #[_,_,.pointer (some ⟨bx,0,none⟩)] _ _
  have x0:=X.out.cell 0
  rw[Nat.add_zero]at ql qr
  clear hG x h h0 h1 h2 hg il ir hl hr hln hrn hbl hbr hyl hyr LF oa ob hv
  cases v
  ·go_enter Tryz.func173,Tryz.ntmps173
   go_wp2_with fail
   go_region_held3 (fun w'=>w'.cell? ⟨bx,0,none⟩=some (ldV b)∧w'.cell? ⟨bl,ol,none⟩=some (.int .i64 yl)∧w'.cell? ⟨br,orr,none⟩=some (.int .i64 yr))
    (first|go_keep)
    (first
     |(go_at_call 205;(with_reducible refine C1.out.mono ?_);rintro e w' ⟨rfl,rfl⟩))
   go_wp2
   go_ret
   exact⟨1,rfl,⟨fun h=>absurd h (by decide),fun h=>by unfold ltG hdG at h;simp only[List.headD_cons]at h;rw[HV.out]at h;cases h⟩,BD.out⟩
  ·go_enter Tryz.func173,Tryz.ntmps173
   go_wp2_with fail
   go_region_held3 (fun w'=>w'.cell? ⟨bx,0,none⟩=some (ldV b)∧w'.cell? ⟨bl,ol,none⟩=some (.int .i64 yl)∧w'.cell? ⟨br,orr,none⟩=some (.int .i64 yr))
    (first|go_keep)
    (first
     |(go_at_call 205;(with_reducible refine C1.out.mono ?_);rintro e w' ⟨rfl,rfl⟩))
   go_wp2
   go_ret
   exact⟨-1,rfl,⟨fun _=>by unfold ltG hdG;simp only[List.headD_cons];exact HV.out,fun _=>by decide⟩,BD.out⟩
theorem ZlE {w:World}{A:Option Addr}{n c:Nat}{y:List Int}(h:Zam w A n c y):Calls Tryz.prog 123 #[.slice A n c] w fun e w'=>e=.returned (.bool (ZeW y))∧w=w':=by
 have hl:=Zaa h.len
 clear h
 by_cases hn:n=0
 ·subst hn
  go_enter Tryz.func123,Tryz.ntmps123
  go_wp2
  go_ret
  exact⟨Zav (by unfold ZeW;rw[hl.out];rfl),rfl⟩
 ·have hne:((n:Int)==0)=false:=by simp;omega
  have HN:=Zaa hn
  clear hn
  go_enter Tryz.func123,Tryz.ntmps123
  go_wp2
  go_ret
  exact⟨Zav (by unfold ZeW;rw[hl.out];exact(decide_eq_false HN.out).symm),rfl⟩
theorem Zny (w:World)(g:Nat)(L:List (List Int)):ZfZ 123 #[] w g L ZeW where
 enters:=fun args w=>by kernel_rfl
 calls:=fun wr A n c y _ _ hi=>by
  refine(ZlE hi).mono ?_
  rintro e w' ⟨rfl,rfl⟩
  exact⟨rfl,Below.refl _ _⟩
theorem ZlF {w:World}{A:Option Addr}{n c:Nat}{y:List Int}(h:Zam w A n c y):Calls Tryz.prog 129 #[.slice A n c] w fun e w'=>e=.returned (.bool (decide (1<y.length)))∧w=w':=by
 have hl:=h.len
 rw[hl]
 clear h hl
 by_cases hn:1<n
 ·have hni:(1:Int)<(n:Int):=by omega
  have HN:=Zaa hn
  clear hn
  go_enter Tryz.func129,Tryz.ntmps129
  go_wp2
  go_ret
  exact⟨Zav (decide_eq_true HN.out).symm,rfl⟩
 ·have hni:¬(1:Int)<(n:Int):=by omega
  have HN:=Zaa hn
  clear hn
  go_enter Tryz.func129,Tryz.ntmps129
  go_wp2
  go_ret
  exact⟨Zav (decide_eq_false HN.out).symm,rfl⟩
theorem Znz (w:World):Zjf 129 #[] w (fun y=>decide (1<y.length)) where
 enters:=fun args w=>by kernel_rfl
 calls:=fun wr A n c y _ hi=>by
  refine(ZlF hi).mono ?_
  rintro e w' ⟨rfl,rfl⟩
  exact⟨rfl,Below.refl _ _⟩
def Zte (g:List Int)(y:List Int):Bool:=!inS g (y.headD 0)
set_option maxHeartbeats 1000000 in
theorem Zki {w:World}{L:List (List Int)}{gr bx m d:Nat}{B:Option Addr}{g:List Int}(hL:∀y∈L,y.length≠0)(x:Box w bx 28 #[.slice B m d])(ig:Zam w B m d g)(h0:bx≠gr)(h1:∀a,B=some a→a.block≠gr):ZfZ 169 #[.pointer (some ⟨bx,0,none⟩)] w gr L (Zte g) where
 enters:=fun args w=>by kernel_rfl
 calls:=fun wr A n c y hy hg hi=>by
  have hy0:=hL y hy
  obtain⟨yl,tl,rfl⟩:∃a t,y=a::t:=by
   cases y with
   | nil=>exact absurd rfl hy0
   | cons a t=>exact⟨a,t,rfl⟩
  have hln:=hi.len
  simp only[List.length_cons]at hln
  obtain⟨bl,ol,y2,rfl,hbl,hyl,ql⟩:=Zam.get hi (k:=0) (by omega)
  have e1:y2=yl:=by have:=hyl.out;simp at this;exact this.symm
  subst e1
  have IG:=Zaa ((Zam.keepRow ig hg (.inr (by
   cases B with
   | none=>exact fun e=>nomatch e
   | some a=>intro e;injection e with e;exact h1 a rfl e.symm))).keep ((Below.refl wr.heap.size wr).drew))
  have X:=Zaa (x.grown hg (fun e=>h0 (by injection e with e;exact e.symm)))
  have BD:=Zaa ((Below.refl wr.heap.size wr).drew)
  have C1:=Zaa (ZbT y2 IG.out)
  have hn0:0<n:=by omega
  change Calls _ _ #[_,.pointer (some ⟨bx,0,none⟩)] _ _
  have x0:=X.out.cell 0
  rw[Nat.add_zero]at ql
  clear hL x ig h0 h1 hg hy hi hy0 hln hbl hyl
  go_enter Tryz.func169,Tryz.ntmps169
  go_wp2_with fail
  go_region_held3 (fun w'=>w'.cell? ⟨bx,0,none⟩=some (.slice B m d)∧w'.cell? ⟨bl,ol,none⟩=some (.int .i64 y2))
   (first|go_keep)
   (first
    |(go_at_call 143;(with_reducible refine C1.out.mono ?_);rintro e w' ⟨rfl,rfl⟩))
  go_wp2
  go_ret
  exact⟨Zav rfl,BD.out⟩
theorem Zjp {w:World}{bx m d:Nat}{B:Option Addr}{l:List Int}(x:Box w bx 28 #[.slice B m d])(il:Zam w B m d l):Ziu 177 #[.pointer (some ⟨bx,0,none⟩)] w (fun a=>inS l a) where
 enters:=fun args w=>by kernel_rfl
 calls:=fun a=>by
  have C1:=Zaa (ZbT a il)
  have x0:=x.cell 0
  clear x il
  change Calls _ _ #[.int .i64 a,.pointer (some ⟨bx,0,none⟩)] _ _
  go_enter Tryz.func177,Tryz.ntmps177
  go_wp2_with (refine C1.out.mono ?_;rintro e w' ⟨rfl,rfl⟩)
  go_ret
  exact⟨Zav rfl,rfl⟩
theorem ZfJ {w:World}{A B:Option Addr}{n c m d:Nat}{g l:List Int}(ig:Zam w A n c g)(il:Zam w B m d l) :
  Calls Tryz.prog 176 #[.slice A n c,.slice B m d] w fun e w'=>e=.returned (.bool (ZeP g l))∧Below w.heap.size w w':=by
 have B0:=Zaa (Zab w (.cells #[.slice B m d] 28))
 have X0:=Box.new w #[.slice B m d] 28
 have CO:=Zaa (Zbg (ig.keep B0.out) (Zjp X0 (il.keep B0.out)))
 clear ig il X0
 go_enter Tryz.func176,Tryz.ntmps176
 go_wp2_with fail
 refine CO.out.mono ?_
 rintro e w' ⟨rfl,rfl⟩
 go_wp2
 go_ret
 exact⟨Zav rfl,B0.out⟩
def ZnA (p:Zas)(g:List Int):Bool:=!ZeP g p.first||!ZeP g p.last
section
variable {w:World} {A A1 A2 A3 A4:Option Addr} {n c n1 c1 n2 c2 n3 c3 n4 c4:Nat} {log:List (List Int)} {p:Zas}
theorem Zkj {bx bf:Nat}(h:ZmE w A A1 A2 A3 A4 n c n1 c1 n2 c2 n3 c3 n4 c4 log p)(x:Box w bx 222 #[.slice A n c,.slice A1 n1 c1,.slice A2 n2 c2,.slice A3 n3 c3,.slice A4 n4 c4])(y:Box w bf 38 #[.func (.func 176) #[] #[]]):Zjf 178 #[.pointer (some ⟨bf,0,none⟩),.pointer (some ⟨bx,0,none⟩)] w (ZnA p) where
 enters:=fun args w=>by kernel_rfl
 calls:=fun wr B m d g hb ig=>by
  have H:=Zaa (h.keep hb)
  have X:=Zaa (x.keep hb)
  have Y:=Zaa (y.keep hb)
  have C1:=Zaa (ZfJ ig H.out.ip.i2)
  have C2:=Zaa (fun(w2:World) (hq:Below wr.heap.size wr w2)=>ZfJ (ig.keep hq) (H.out.ip.i3.keep hq))
  change Calls _ _ #[_,.pointer (some ⟨bf,0,none⟩),.pointer (some ⟨bx,0,none⟩)] _ _
  have y0:=Y.out.cell 0
  have x2:=X.out.cell 2
  obtain⟨v,hv⟩:∃v,ZeP g p.first=v:=⟨_,rfl⟩
  have HV:=Zaa hv
  rw[hv]at C1
  clear h x y hb ig hv
  cases v
  ·go_enter Tryz.func178,Tryz.ntmps178
   go_wp2_with fail
   refine C1.out.mono ?_
   rintro e w2 ⟨rfl,hb⟩
   have HB:=Zaa hb
   clear hb
   go_wp2
   go_ret
   exact⟨Zav (by unfold ZnA;rw[HV.out];rfl),HB.out⟩
  ·go_enter Tryz.func178,Tryz.ntmps178
   go_wp2_with fail
   refine C1.out.mono ?_
   rintro e w2 ⟨rfl,hb⟩
   have HB:=Zaa hb
   have C3:=Zaa (C2.out w2 hb)
   have y0:=(Y.out.keep hb).cell 0
   have x3:=(X.out.keep hb).cell 3
   clear hb
   go_wp2_with fail
   refine C3.out.mono ?_
   rintro e w3 ⟨rfl,hb3⟩
   have H3:=Zaa (HB.out.trans (hb3.mono HB.out.size))
   clear hb3
   go_wp2
   go_ret
   exact⟨Zav (by unfold ZnA;rw[HV.out];rfl),H3.out⟩
end
theorem ZiJ {w0 w:World}{B n:Nat}{v:Value}{L:List (List Int)}{F:FuncId}{cv:Array Value}{q:List Int→Bool}(own:ZeV w B w0.heap.size v n L)(hn:n≤5864062014805)(hBB:B≤w0.heap.size)(he:∀args w,(callFunc F args).run Tryz.prog w=.ok (.enter F args) w)(hp:∀g,v.ownBlock=some g→ZfZ F cv w g L q) :
  Calls Tryz.prog 121 #[v,.func (.func F) #[] cv] w fun e w'=>∃A k c,e=.returned (.slice A k c)∧ZeV w' B w0.heap.size (.slice A k c) k (L.filter fun a=>!q a)∧w.grownBy w' v.ownBlock:=by
 have own':=own
 obtain⟨cells,o1,o2,o3⟩:=own
 rcases o1.2 with⟨rfl,h0⟩|⟨g,cap,cur,rfl,_⟩
 ·obtain rfl:n=0:=by simpa using h0
  have hx:L=[]:=List.eq_nil_of_length_eq_zero o3
  subst hx
  refine(Zig (p:=q) ⟨he,fun wr A n c y hy=>absurd hy (by simp)⟩).mono ?_
  rintro e w' ⟨rfl,hb⟩
  exact⟨none,0,0,rfl,Zad.nil,ZcA hb _⟩
 ·refine(Zif own' hn (hp g rfl) hBB).mono ?_
  rintro e w' ⟨k,c',rfl,h1,h2⟩
  exact⟨_,k,c',rfl,h1,h2⟩
def ZfK (d:Nat)(ok:Bool)(T:Zat)(w:World)(e:Ending)(w':World):Prop:=∃v,e=.returned (.tuple #[v,.bool ok])∧Zb6 (fun k=>w.heap.size≤k) d w' v T∧Below w.heap.size w w'
def ZbV:Zat:=.mk 0 0 []
set_option maxHeartbeats 4000000 in
theorem ZeZ {f:Nat}(IH:ZhG f){w:World}{A A1 A2 A3 A4:Option Addr}{n c n1 c1 n2 c2 n3 c3 n4 c4:Nat}{log:List (List Int)}{p:Zas}(h:ZmE w A A1 A2 A3 A4 n c n1 c1 n2 c2 n3 c3 n4 c4 log p)(hp:Zbc log p)(hf:ZhD (f+1) log)(he:∀t∈log,t.length≠0) :
  Calls Tryz.prog 130 #[ZhF A A1 A2 A3 A4 n c n1 c1 n2 c2 n3 c3 n4 c4] w (ZfK (f+3) (decide (2≤(ZbG (bhB p) p.labels).length)) (if 2≤(ZbG (bhB p) p.labels).length then .mk 4 0 ((ZbG (bhB p) p.labels).map fun g=>Zao f (log.filter fun t=>inS g (t.headD 0)))else ZbV) w):=by
 have H:=Zaa h
 have FU:=Zaa (fun g (h2:2≤(ZbG (bhB p) p.labels).length) (hg:g∈ZbG (bhB p) p.labels)=>hf.choose he hp h2 hg)
 have NN:=Zaa (show n≤60∧p.labels.length≤26∧p.labels.Pairwise (·< ·)from⟨by rw[←h.il.len];exact hf.n,Zep hp.1.1 (hp.lab hf.1),hp.1.1⟩)
 have HE:=Zaa he
 have IHH:=Zaa IH
 clear h hp hf he IH
 obtain⟨LV,hLV⟩:∃LV:Array Value,LV=#[.slice A n c,.slice A1 n1 c1,.slice A2 n2 c2,.slice A3 n3 c3,.slice A4 n4 c4]:=⟨_,rfl⟩
 have B0:=Zaa ((Zab w (.cells #[.slice A n c,.slice A1 n1 c1,.slice A2 n2 c2,.slice A3 n3 c3,.slice A4 n4 c4] 222)).alloc (by simp) (.cells #[.int .i64 0,.int .i64 0,.slice none 0 0] 71))
 have X0:=Zaa (show Box ((w.alloc (.cells #[.slice A n c,.slice A1 n1 c1,.slice A2 n2 c2,.slice A3 n3 c3,.slice A4 n4 c4] 222)).alloc (.cells #[.int .i64 0,.int .i64 0,.slice none 0 0] 71)) w.heap.size 222 LV from by subst hLV;exact(Box.new w _ _).old _)
 have X1:=Zaa (show Box ((w.alloc (.cells #[.slice A n c,.slice A1 n1 c1,.slice A2 n2 c2,.slice A3 n3 c3,.slice A4 n4 c4] 222)).alloc (.cells #[.int .i64 0,.int .i64 0,.slice none 0 0] 71)) (w.heap.size+1) 71 #[.int .i64 0,.int .i64 0,.slice none 0 0]from Box.newAt (by simp) _ _)
 have HLV:=Zaa hLV
 clear hLV
 go_enter Tryz.func130,Tryz.ntmps130
 go_upto_region 1 with fail
 generalize ((w.alloc (.cells #[.slice A n c,.slice A1 n1 c1,.slice A2 n2 c2,.slice A3 n3 c3,.slice A4 n4 c4] 222)).alloc (.cells #[.int .i64 0,.int .i64 0,.slice none 0 0] 71))=w1 at *
 have x0:w1.cell? ⟨w.heap.size,0,none⟩=some (.slice A n c):=(X0.out.cell 0).trans (by rw[HLV.out];rfl)
 have x1:w1.cell? ⟨w.heap.size,1,none⟩=some (.slice A1 n1 c1):=(X0.out.cell 1).trans (by rw[HLV.out];rfl)
 have x2:w1.cell? ⟨w.heap.size,2,none⟩=some (.slice A2 n2 c2):=(X0.out.cell 2).trans (by rw[HLV.out];rfl)
 have x3:w1.cell? ⟨w.heap.size,3,none⟩=some (.slice A3 n3 c3):=(X0.out.cell 3).trans (by rw[HLV.out];rfl)
 have x4:w1.cell? ⟨w.heap.size,4,none⟩=some (.slice A4 n4 c4):=(X0.out.cell 4).trans (by rw[HLV.out];rfl)
 have CG:=Zaa (Zen (H.out.keep B0.out).ip.i1 (by rw[←H.out.ip.i1.len];exact NN.out.2.1) NN.out.2.2 (Zo8 p.labels (H.out.keep B0.out)))
 go_wp2_with fail
 refine CG.out.mono ?_
 rintro e w2 ⟨vo,m,rfl,hm,rg,hG,hb2⟩
 have ML:=Zaa (show(ZbG (bhB p) p.labels).length=m from Zad.len rg)
 obtain⟨AG,cG,rfl,ig⟩:=Zc9.lists rg (by omega)
 have IG:=Zaa ig
 have D2:=Zaa hb2
 have HM:=Zaa hm
 have X2:=Zaa (X0.out.keep hb2)
 have X3:=Zaa (X1.out.keep hb2)
 clear x0 x1 x2 x3 x4 rg hG hb2 hm ig
 by_cases hlt:m<2
 ·have hmi:(m:Int)<2:=by omega
  have OKF:=Zaa (show ¬2≤(ZbG (bhB p) p.labels).length by rw[ML.out];omega)
  have BA:=Zaa (show Zb6 (fun k=>w1.heap.size≤k) (f+3) w2 (.agg #[.int .i64 0,.int .i64 0,.slice none 0 0]) ZbV from⟨none,0,0,rfl,Sl.nil0,fun h=>absurd h (by omega)⟩)
  have hgt:=X1.out.lt
  obtain⟨u0,u1,u2⟩:=X3.out.three
  have fz:=fun j=>X3.out.frozen j
  have W5:=Zaa (Zbz (w:=w) BA.out X3.out D2.out B0.out (by omega) (by omega))
  clear hlt hgt
  go_wp2
  generalize (((w2.setCell ⟨w.heap.size+1,0,none⟩ (.int .i64 0)).setCell ⟨w.heap.size+1,1,none⟩ (.int .i64 0)).setCell ⟨w.heap.size+1,2,none⟩ (.slice none 0 0))=w5 at *
  obtain⟨z0,z1,z2⟩:=W5.out.1.three
  exact bodyPost_ret (v:=.tuple #[.agg #[.int .i64 0,.int .i64 0,.slice none 0 0],.bool false]) (by simp[results,Tryz.results130,go_sem,z0,z1,z2]) rfl ⟨.agg #[.int .i64 0,.int .i64 0,.slice none 0 0],by first|rfl|(rw[decide_eq_false OKF.out]),by first|exact W5.out.2.1|(rw[if_neg OKF.out];exact W5.out.2.1),W5.out.2.2⟩
 ·have hmi:¬(m:Int)<2:=by omega
  have OKT:=Zaa (show 2≤(ZbG (bhB p) p.labels).length by rw[ML.out];omega)
  clear hlt
  go_wp2
  go_loopg [5,21] m (fun gk s5 s21 wr=>∃v k,v=s5∧s21=.int .i64 (k:Nat)∧Hid (k+gk=m)∧Hid (Zdf wr w2.heap.size (f+3) v k (((ZbG (bhB p) p.labels).take k).map fun g=>Zao f (log.filter fun t=>inS g (t.headD 0))))∧Hid (Below w2.heap.size w2 wr))
  case atStart=>exact⟨_,0,rfl,rfl,Zaa (by omega),Zaa Zad.nil,Zaa (Below.refl _ _)⟩
  case round =>
   obtain⟨v,k,rfl,rfl,hgk,OB,DB⟩:=hrel
   have DW:=Zaa (B0.out.trans ((D2.out.trans (DB.out.mono D2.out.size)).mono B0.out.size))
   have DV:=Zaa (D2.out.trans (DB.out.mono D2.out.size))
   by_cases hlt:k<m
   ·have hki:(k:Int)<(m:Int):=by omega
    obtain⟨b,off,g,Bg,mg,dg,rfl,hb,hgx,q0,ig,hmg⟩:=ZaS.get (Sl.keep ZaL.kept IG.out DB.out) hlt
    have HJ:=Zaa (show gk-1<gk∧(k+1)+(gk-1)=m∧k≤26 by have:=hgk.out;have:=HM.out;omega)
    have hwk:IntKind.i64.wrap ((k:Int)+1)=((k+1:Nat):Int):=by
     have:=HJ.out
     simp[IntKind.wrap,IntKind.bits,IntKind.signed];omega
    have hgne:g≠[]:=(ZcS NN.out.2.2).ne g (List.mem_of_getElem? hgx.out)
    obtain⟨bg,og,yg,rfl,hbg,_,_⟩:=Zam.get ig (k:=0) (by have:=ig.len;have:g.length≠0:=fun e=>hgne (List.eq_nil_of_length_eq_zero e);omega)
    have FG:=Zaa (FU.out g OKT.out (List.mem_of_getElem? hgx.out))
    have TB:=Zaa (Box.new wr #[.slice (some ⟨bg,og,none⟩) mg dg] 28)
    have BB:=Zaa (Zab wr (.cells #[.slice (some ⟨bg,og,none⟩) mg dg] 28))
    have IGG:=Zaa (ig.keep BB.out)
    have HBG:=Zaa hbg
    have x0:(wr.alloc (.cells #[.slice (some ⟨bg,og,none⟩) mg dg] 28)).cell? ⟨w.heap.size,0,none⟩=some (.slice A n c):=(((X2.out.keep DB.out).keep BB.out).cell 0).trans (by rw[HLV.out];rfl)
    have CC:=Zaa (Zd4 (Sl.keep ZaL.kept (Sl.keep ZaL.kept H.out.il DW.out) BB.out) (by have:=NN.out;omega))
    clear hb ig hgne hbg
    go_upto_region 8 with fail
    clear q0
    have HS:=Zaa (show(wr.alloc (.cells #[.slice (some ⟨bg,og,none⟩) mg dg] 28)).heap.size=wr.heap.size+1 by simp)
    generalize hw3:wr.alloc (.cells #[.slice (some ⟨bg,og,none⟩) mg dg] 28)=w3 at *
    clear hw3
    go_wp2_with fail
    refine CC.out.mono ?_
    rintro e w4 ⟨v4,rfl,ow4,hb4⟩
    have hl4:=ow4.lt
    have CD:=Zaa (ZiJ (F:=169) (cv:=#[.pointer (some ⟨wr.heap.size,0,none⟩)]) (q:=Zte g) ow4 (by have:=NN.out;omega) (Nat.le_refl _) (fun args w=>by kernel_rfl) (fun gr hgr=>Zki HE.out (TB.out.keep hb4) (IGG.out.keep hb4) (by have:=(hl4 gr hgr).1;have:=HS.out;omega) (fun a ha=>by injection ha with ha;subst ha;have:=(hl4 gr hgr).1;have:=HS.out;have:=HBG.out;show bg≠gr;omega)))
    have B4:=Zaa hb4
    have HL4:=Zaa hl4
    clear ow4 hb4 hl4
    go_wp2_with fail
    refine CD.out.mono ?_
    rintro e w5 ⟨A5,k5,c5,rfl,ow5,hg5⟩
    have B5:=Zaa (show Below wr.heap.size wr w5 from(BB.out.trans (B4.out.mono BB.out.size)).grown hg5 (Nat.le_trans BB.out.size B4.out.size) (fun k hk=>by have:=(HL4.out k hk).1;have:=HS.out;omega))
    have L5:=Zaa (show k5≤60 by
     have h1:=ow5.len
     have h2:(log.filter fun a=>!Zte g a).length≤log.length:=List.length_filter_le _ _
     have h3:=NN.out.1
     have h4:=H.out.il.len
     omega)
    obtain⟨A6,c6,e6,il6⟩:=ZeV.lists ow5 (by have:=L5.out;omega)
    injection e6 with e61 _ e62
    subst e61 e62
    have EF:(log.filter fun a=>!Zte g a)=log.filter fun t=>inS g (t.headD 0):=by
     congr 1
     funext t
     unfold Zte
     rw[Bool.not_not]
    rw[EF]at il6
    have CF:=Zaa (IHH.out w5 A5 k5 c5 _ il6 FG.out)
    clear ow5 hg5 il6 EF CD
    go_wp2_with fail
    refine CF.out.mono ?_
    rintro e w6 ⟨v6,rfl,⟨A6',n6',c6',rfl,s6,p6⟩,hb6⟩
    have B6:=Zaa (B5.out.trans (hb6.mono B5.out.size))
    have hDB:=DB.out.size
    have KO:=Zaa (Zo5 (OB.out) hDB (s6.imp (fun _ _ r=>r.wide (fun k _ hk=>Nat.le_trans B5.out.size hk) (f+2))) (fun hn a ha=>Nat.le_trans B5.out.size (p6 hn a ha)))
    have OB3:=Zaa (OB.out.keep B6.out)
    have E3:=Zaa (DB.out.trans (B6.out.mono DB.out.size))
    have hB3:=E3.out.size
    have hk1:k≤100:=by have:=HJ.out;omega
    have TK:=Zaa (show((ZbG (bhB p) p.labels).take (k+1)).map (fun g=>Zao f (log.filter fun t=>inS g (t.headD 0)))=((ZbG (bhB p) p.labels).take k).map (fun g=>Zao f (log.filter fun t=>inS g (t.headD 0)))++[Zao f (log.filter fun t=>inS g (t.headD 0))] by rw[List.take_add_one,hgx.out];simp)
    obtain⟨kd3,hkd⟩:∃x,x=(Zao f (log.filter fun t=>inS g (t.headD 0))).kind:=⟨_,rfl⟩
    obtain⟨lb3,hlb⟩:∃x,x=(Zao f (log.filter fun t=>inS g (t.headD 0))).label:=⟨_,rfl⟩
    rw[←hkd,←hlb]
    have HKL:=Zaa (And.intro hkd hlb)
    clear s6 p6 hb6 OB hkd hlb hDB
    go_wp2_with (at_builtin;refine ZdV rfl _ _ rfl rfl rfl rfl OB3.out HKL.out.1 HKL.out.2 KO.out.1 KO.out.2 hB3 hk1 ?_;intro v8 w8 own8 hg8;have O8:=Zaa own8;have E8:=Zaa (show Below w2.heap.size w2 w8 from E3.out.grown hg8 hB3 (fun k hk=>(OB3.out.lt k hk).1)))
    go_roundg (gk-1)
    case measure=>exact HJ.out.1
    case rel=>exact⟨v8,k+1,rfl,rfl,Zaa HJ.out.2.1,Zaa (by rw[TK.out];exact O8.out),E8⟩
   ·have hki:¬(k:Int)<(m:Int):=by omega
    have OF:=Zaa (show Zdf wr w2.heap.size (f+3) v k ((ZbG (bhB p) p.labels).map fun g=>Zao f (log.filter fun t=>inS g (t.headD 0)))from by
     have:=OB.out
     rwa[List.take_of_length_le (by rw[ML.out];omega)]at this)
    obtain⟨AK,cK,rfl,sK,pK⟩:=OF.out.sl2 (by have:=HM.out;have:=hgk.out;omega)
    have CB:=Zaa (Zcr 4 sK pK DB.out)
    have X5:=Zaa (X3.out.keep DB.out)
    clear sK pK OB hlt hgk
    go_wp2_with fail
    refine CB.out.mono ?_
    rintro e w3 ⟨⟨v3,rfl,⟨A3',n3',c3',rfl,s3,p3⟩,hb3⟩,hb4⟩
    have X4:=Zaa (X5.out.keep hb4)
    have BA:=Zaa (show Zb6 (fun k=>w2.heap.size≤k) (f+3) w3 (.agg #[.int .i64 (Zat.mk 4 0 ((ZbG (bhB p) p.labels).map fun g=>Zao f (log.filter fun t=>inS g (t.headD 0)))).kind,.int .i64 (Zat.mk 4 0 ((ZbG (bhB p) p.labels).map fun g=>Zao f (log.filter fun t=>inS g (t.headD 0)))).label,.slice A3' n3' c3']) (.mk 4 0 ((ZbG (bhB p) p.labels).map fun g=>Zao f (log.filter fun t=>inS g (t.headD 0))))from⟨A3',n3',c3',rfl,s3,p3⟩)
    generalize (Zat.mk 4 0 ((ZbG (bhB p) p.labels).map fun g=>Zao f (log.filter fun t=>inS g (t.headD 0)))).kind=kd3 at *
    generalize (Zat.mk 4 0 ((ZbG (bhB p) p.labels).map fun g=>Zao f (log.filter fun t=>inS g (t.headD 0)))).label=lb3 at *
    have D3:=Zaa hb3
    have hgt:=X3.out.lt
    obtain⟨u0,u1,u2⟩:=X4.out.three
    have fz:=fun j=>X4.out.frozen j
    have W5:=Zaa (Zbz (w:=w) BA.out X4.out D3.out (B0.out.trans (D2.out.mono B0.out.size)) (by omega) (by omega))
    clear s3 p3 hb3 hb4 hgt
    go_wp2
    generalize (((w3.setCell ⟨w.heap.size+1,0,none⟩ (.int .i64 kd3)).setCell ⟨w.heap.size+1,1,none⟩ (.int .i64 lb3)).setCell ⟨w.heap.size+1,2,none⟩ (.slice A3' n3' c3'))=w5 at *
    obtain⟨z0,z1,z2⟩:=W5.out.1.three
    exact bodyPost_ret (v:=.tuple #[.agg #[.int .i64 kd3,.int .i64 lb3,.slice A3' n3' c3'],.bool true]) (by simp[results,Tryz.results130,go_sem,z0,z1,z2]) rfl ⟨.agg #[.int .i64 kd3,.int .i64 lb3,.slice A3' n3' c3'],by first|rfl|(rw[decide_eq_true OKT.out]),by first|exact W5.out.2.1|(simpa using W5.out.2.1),W5.out.2.2⟩
end Go.Proofs.YtfmnagcglhlicaaGreat
