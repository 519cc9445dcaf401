/- Texts melted into one: slices.SortStableFunc on rows of lists. Conditions: the row is the call's own, as its lists are, and has at most twenty-six; of two lists that differ the comparison puts exactly one first. | The functions that mine hands on: what is linked, what leads, what is asked of a trace -/
import Derived.Test.YtgnljpnlolkalaaGreatBenchTellsK10
import Derived.Test.YtgnljpnlolkalaaGreatBenchTellsK09
import Derived.Laws.EntriesVeiled
set_option linter.all false
set_option maxRecDepth 100000
set_option maxHeartbeats 8000000
namespace Go.Proofs.YtgnljpnlolkalaaGreat
open Go.RowKit
def z6 (w w0:World)(B B2 g n cap:Nat)(f:Nat->LIn)(R:LIn->LIn->Prop)(S:LIn->Prop):Prop:=(∃q,nJ w B B2 g n cap q/\f7 S q n/\jI R q 0 n/\fS q f 0 n)/\w0.grownBy w (some g)
def FI {w:World}{B B2 g n cap:Nat}{f:Nat->LIn}{F:FuncId}{cv:Array Value}{R:LIn->LIn->Prop}{S:LIn->Prop}(own:nJ w B B2 g n cap f)(hn:n<=26)(o:EG R S)(G:f7 S f n)(hF:qV F cv w g R S) :
  Calls Tryz.prog 162 #[.slice g n cap,n,.func (.func F) #[] cv] w λe w'=>(∃y,e=.returned y)/\z6 w' w B B2 g n cap f R S:=by
 have M:=aA own;have C:=aA hF;have D:=aA o;have N:=aA G;clear own hF o G;have Y:¬(40:Int)<=(n:Int):=by omega
 have O:IntKind.i64.wrap (20:Int)=20:=by decide
 have P:IntKind.i64.wrap (40:Int)=40:=by decide
 go_enter Tryz.func162,Tryz.ntmps162
 go_wp2
 go_loopg [7,8] 1 (λgk u v wr=>(u=.int .i64 0/\v=.int .i64 20/\0<gk/\Hid (nJ wr B B2 g n cap f)/\Hid (w.grownBy wr (some g)))∨(u=.int .i64 20/\v=.int .i64 40/\Hid (20<=n/\∃q,nJ wr B B2 g n cap q/\f7 S q n/\jI R q 0 20/\fS q f 0 20)/\Hid (w.grownBy wr (some g))))
 case atStart=>exact .inl ⟨rfl,rfl,by omega,M,aA (gU _ _)⟩
 case round =>
  clear M;rcases hrel with⟨rfl,rfl,s,d,a⟩|⟨rfl,rfl,E,a⟩
  .by_cases b:20<=n
   .have i:(20:Int)<=(n:Int):=by omega
    have c:=aA (qJ d.o 0 20 (by omega) b (by omega) D.o N.o (C.o.later a.o));have Q:=aA (And.intro b (show gk-1<gk by omega));clear b s;go_wp2_with fail
    refine c.o.mono ?_;rintro e w1 ⟨⟨y,rfl⟩,j,l⟩;have E:=aA (show 20<=n/\∃q,nJ w1 B B2 g n cap q/\f7 S q n/\jI R q 0 20/\fS q f 0 20 from⟨Q.o.1,j⟩);have H:=aA (a.o.trans l);clear j l d a c;go_wp2
    go_roundg (gk-1)
    case measure=>exact Q.o.2
    exact .inr ⟨rfl,rfl,E,H⟩
   have i:¬(20:Int)<=(n:Int):=by omega
   have Z:¬(20:Int)<(n:Int):=by omega
   have c:=aA (qJ d.o 0 n (by omega) (aB _) (by omega) D.o N.o (C.o.later a.o));clear b;go_wp2_with fail
   refine c.o.mono ?_;rintro e w1 ⟨⟨y,rfl⟩,j,l⟩;have p:=aA (show z6 w1 w B B2 g n cap f R S from⟨j,a.o.trans l⟩);clear j l d a c;go_wp2
   go_loopg [6] 0 (λgk u wr=>u=.int .i64 20/\Hid (z6 wr w B B2 g n cap f R S))
   case atStart=>exact⟨rfl,p⟩
   clear p;obtain⟨rfl,p⟩:=hrel;go_wp2
   exact eR (v:=.tuple #[]) (by simp[results,Tryz.results162,go_sem]) rfl ⟨⟨_,rfl⟩,p.o⟩
  obtain⟨m,q,T,U,V,W⟩:=E.o;have c:=aA (qJ T 20 n m (aB _) (by omega) D.o U (C.o.later a.o));have I:=aA (And.intro V W);have m:=aA m;clear E T U V W;go_wp2_with fail
  refine c.o.mono ?_;rintro e w1 ⟨⟨y,rfl⟩,⟨r,j,z,A,x⟩,l⟩;have X:=aA j;have t:=aA (show f7 S r n/\jI R r 0 20/\jI R r 20 n/\fS r f 0 n from⟨z,I.o.1.same (λk h1 h2=>x.o k (by omega)),A,(x.wide (aL _) (aB _)).trans (I.o.2.wide (aB _) m.o)⟩);have H:=aA (a.o.trans l);clear j z A x l a c I;go_wp2
  go_loopg [6] 1 (λgk u wr=>(u=.int .i64 20/\0<gk/\Hid (nJ wr B B2 g n cap r)/\Hid (w.grownBy wr (some g)))∨(u=.int .i64 40/\Hid (z6 wr w B B2 g n cap f R S)))
  case atStart=>exact .inl ⟨rfl,by omega,X,H⟩
  clear X H;rcases hrel with⟨rfl,s,d,a⟩|⟨rfl,p⟩
  rotate_left
  .go_wp2
   exact eR (v:=.tuple #[]) (by simp[results,Tryz.results162,go_sem]) rfl ⟨⟨_,rfl⟩,p.o⟩
  by_cases b:20<n
  rotate_left
  .have i:¬(20:Int)<(n:Int):=by omega
   have p:=aA (show z6 wr w B B2 g n cap f R S from⟨⟨r,d.o,t.o.1,(by have h:=t.o.2.1;rwa[show n=20 by have:=m.o;omega]),t.o.2.2.2⟩,a.o⟩);clear b;go_wp2
   exact eR (v:=.tuple #[]) (by simp[results,Tryz.results162,go_sem]) rfl ⟨⟨_,rfl⟩,p.o⟩
  have i:(20:Int)<(n:Int):=by omega
  have c:=aA (λ(J:World) (OX:nJ J B B2 g n cap r) (GX:w.grownBy J (some g))=>tK (by omega) D.o n J r 0 20 n (by omega) (by omega) b (aB _) OX t.o.1 (C.o.later GX) t.o.2.1 t.o.2.2.1);have HG:=aA (show gk-1<gk by omega);clear b s;obtain⟨K,L⟩:∃K:Nat,K=gk:=⟨_,rfl⟩;subst L;go_wp2
  go_loopg [7,8] 0 (λgk u v wr=>u=.int .i64 0/\v=.int .i64 40/\Hid (nJ wr B B2 g n cap r)/\Hid (w.grownBy wr (some g)))
  case atStart=>exact⟨rfl,rfl,d,a⟩
  clear d a;obtain⟨rfl,rfl,d,a⟩:=hrel;have c:=aA (c.o wr d.o a.o);go_wp2_with fail
  refine c.o.mono ?_;rintro e w1 ⟨⟨y,rfl⟩,⟨q3,j,z,A,x⟩,l⟩;have p:=aA (show z6 w1 w B B2 g n cap f R S from⟨⟨q3,j,z,A,x.trans t.o.2.2.2⟩,a.o.trans l⟩);clear j z A x l d a c;go_wp2
  go_roundg (K-1)
  case measure=>exact HG.o
  exact .inr ⟨rfl,p⟩
def wJ {w:World}{B B2 g n cap:Nat}{f:Nat->LIn}{F:FuncId}{cv:Array Value}{R:LIn->LIn->Prop}{S:LIn->Prop}(own:nJ w B B2 g n cap f)(b:n<=26)(o:EG R S)(G:f7 S f n)(hF:qV F cv w g R S) :
  Calls Tryz.prog 121 #[.slice g n cap,.func (.func F) #[] cv] w λe w'=>(∃y,e=.returned y)/\z6 w' w B B2 g n cap f R S:=by
 have a:=aA (FI own b o G hF);clear own hF o G;go_enter Tryz.func121,Tryz.ntmps121
 go_wp2_with fail
 refine a.o.mono ?_;rintro e w1 ⟨⟨y,rfl⟩,h⟩;have c:=aA h;clear h a;go_wp2
 exact eR (v:=.tuple #[]) (by simp[results,Tryz.results121,go_sem]) rfl ⟨⟨_,rfl⟩,c.o⟩
open Go.Maps
section
variable {w:World} {A A1 A2 A3 A4:OAd} {n c n1 c1 n2 c2 n3 c3 n4 c4:Nat} {log:LLi} {p:bI}
def Ri (ls:LIn)(h:Nc w A A1 A2 A3 A4 n c n1 c1 n2 c2 n3 c3 n4 c4 log p):VQ 117 #[zW A A1 A2 A3 A4 n c n1 c1 n2 c2 n3 c3 n4 c4] #[] w ls (bhB p) where
 enters:=λargs w=>by kernel_rfl
 calls:=λwr a b _ _ d=>by simpa using rR a b (h.keep d)
def OT (ls:LIn){bx:Nat}(h:Nc w A A1 A2 A3 A4 n c n1 c1 n2 c2 n3 c3 n4 c4 log p)(x:Box w bx 125 #[.slice A n c,.slice A1 n1 c1,.slice A2 n2 c2,.slice A3 n3 c3,.slice A4 n4 c4]):VQ 124 #[] #[.pointer bx] w ls (j3 p) where
 enters:=λargs w=>by kernel_rfl
 calls:=λwr a b _ _ d=>by
  have H:=aA (h.keep d);have X:=aA (x.keep d);clear h x d;simp only[Array.empty_append];change Calls _ _ #[a,b,.pointer bx] _ _
  have m:=X.o.cell 0;have o:=X.o.cell 1;have q:=X.o.cell 2;have r:=X.o.cell 3;have s:=X.o.cell 4;obtain⟨v,j⟩:=aK (bhB p a b);have l:=aA j;have k:=aA (rR a b H.o);rw[j]at k;clear j;cases v
  .go_enter Tryz.func124,Tryz.ntmps124
   go_wp2_with fail
   refine k.o.mono ?_;rintro e t ⟨rfl,d⟩;have i:=aA d;clear d;go_wp2
   go_ret
   exact⟨bB (by unfold j3;rw[l.o];rfl),i.o⟩
  go_enter Tryz.func124,Tryz.ntmps124
  go_wp2_with fail
  refine k.o.mono ?_;rintro e t ⟨rfl,d⟩;have i:=aA d;have u:=aA (rR b a (H.o.keep d));have f:=X.o.keep d;have m:=f.cell 0;have o:=f.cell 1;have q:=f.cell 2;have r:=f.cell 3;have s:=f.cell 4;clear d;go_wp2_with fail
  refine u.o.mono ?_;rintro e z ⟨rfl,g⟩;have y:=aA (i.o.trans (g.mono i.o.size));clear g;go_wp2
  go_ret
  exact⟨bB (by unfold j3;rw[l.o];rfl),y.o⟩
end
structure LdF (w:World)(b bm:Nat)(S:Int->Int->Bool):Prop where
 x:Box w b 216 #[.map (some bm)]
 m:∃q,H9 w bm S q
def LdF.keep {w w':World}{b bm:Nat}{S:Int->Int->Bool}(h:LdF w b bm S)(a:Below w w w'):LdF w' b bm S:=⟨h.x.keep a,by obtain⟨q,m⟩:=h.m;exact⟨q,m.keep a⟩⟩
abbrev ldV (b:Nat):Value:=.func (.func 161) #[] #[.pointer (some ⟨b,0,none⟩)]
def tZ {w:World}{b bm:Nat}{S:Int->Int->Bool}(h:LdF w b bm S){x y:Int}(c:okI x)(d:okI y) :
  Calls Tryz.prog 161 #[x,y,.pointer b] w λe w'=>e=.returned (.bool (S x y))/\w=w':=by
 obtain⟨q,m⟩:=h.m;obtain⟨v,a⟩:=aK (S x y);have lk:=H9.look1 m c d a;have f:=h.x.cell 0;rw[a];clear h m a c d;cases v
 .go_enter Tryz.func161,Tryz.ntmps161
  go_wp2
  go_ret
  exact⟨rfl,rfl⟩
 .go_enter Tryz.func161,Tryz.ntmps161
  go_wp2
  go_ret
  exact⟨rfl,rfl⟩
def Rj {w:World}{ls:LIn}{bx b bm:Nat}{S:Int->Int->Bool}(d:∀a∈ls,okI a)(x:Box w bx 166 #[ldV b])(h:LdF w b bm S):VQ 120 #[] #[.pointer bx] w ls (cY S) where
 enters:=λargs w=>by kernel_rfl
 calls:=λwr a g i c f=>by
  have m:=aA (λ(j:World) (k:Below w w j)=>tZ (h.keep k) (d a i) (d g c));have n:=aA (λ(j:World) (k:Below w w j)=>tZ (h.keep k) (d g c) (d a i));have X:=aA (x.keep f);have l:=aA (f.trans ((aH wr wr).drew.mono f.size));clear h x f d i c;simp only[Array.empty_append];change Calls _ _ #[.int .i64 a,g,.pointer bx] _ _
  have o:=X.o.cell 0;go_enter Tryz.func120,Tryz.ntmps120
  go_wp2_with fail
  go_region_held3 (λw'=>w'.cell? bx=some (ldV b))
   (first|go_keep)
   (first
    |(go_at_call 161;(with_reducible refine(m.o wr.drew l.o).mono ?_);rintro e w' ⟨rfl,rfl⟩)
    |(go_at_call 161;(with_reducible refine(n.o wr.drew l.o).mono ?_);rintro e w' ⟨rfl,rfl⟩))
  go_wp2
  go_ret
  exact⟨bB rfl,(aH _ _).drew⟩
def LdF.grown {w w':World}{b bm:Nat}{S:Int->Int->Bool}{row:Option Nat}(h:LdF w b bm S)(a:w.grownBy w' row)(c:row≠some b)(d:row≠some bm):LdF w' b bm S :=
 ⟨h.x.grown a c,by obtain⟨q,m⟩:=h.m;exact⟨q,m.beside a (Ne.symm d)⟩⟩
def OZ {w:World}{G:LLi}{g bx b bm:Nat}{S:Int->Int->Bool}(f:∀x∈G,x≠[]/\∀a∈x,okI a)(x:Box w bx 166 #[ldV b])(h:LdF w b bm S)(L:bx≠g)(M:b≠g)(N:bm≠g):qV 122 #[.pointer bx] w g (ltG S) (λx=>x∈G) where
 enters:=λargs w=>by kernel_rfl
 calls:=λwr A B n c m d l r y z C D E _=>by
  obtain⟨V,tl,rfl⟩:∃a t,l=a::t:=by
   cases l with
   | nil=>exact absurd rfl (f _ D).1
   | cons a t=>exact⟨a,t,rfl⟩
  obtain⟨W,tr,rfl⟩:∃a t,r=a::t:=by
   cases r with
   | nil=>exact absurd rfl (f _ E).1
   | cons a t=>exact⟨a,t,rfl⟩
  have i:=z.len;have j:=C.len;simp only[bP]at i j;obtain⟨bl,O,o,rfl,F,p,Y⟩:=aY.get z (k:=0) (by omega);obtain⟨P,q,s,rfl,H,u,Z⟩:=aY.get C (k:=0) (by omega);have e1:o=V:=by have:=p.o;simp at this;exact this.symm
  have e2:s=W:=by have:=u.o;simp at this;exact this.symm
  subst e1 e2;have Q:=h.grown y (λe=>M (by injection e with e;exact e.symm)) (λe=>N (by injection e with e;exact e.symm));have X:=aA (x.grown y (λe=>L (by injection e with e;exact e.symm)));have R:=(f _ D).2 o (by simp);have T:=(f _ E).2 s (by simp);have I:=aA ((aH wr wr).drew);have J:=aA (tZ (Q.keep I.o) R T);have a0:0<n:=by omega
  have a1:0<m:=by omega
  obtain⟨v,K⟩:=aK (S o s);have U:=aA K;rw[K]at J;change Calls _ _ #[_,_,.pointer bx] _ _
  have x0:=X.o.cell 0;rw[eP]at Y Z;clear f x h L M N y z C D E i j F H p u Q R T K;cases v
  .go_enter Tryz.func122,Tryz.ntmps122
   go_wp2_with fail
   go_region_held3 (λw'=>w'.cell? bx=some (ldV b)/\w'.cell? ⟨bl,O,none⟩=some (.int .i64 o)/\w'.cell? ⟨P,q,none⟩=some (.int .i64 s))
    (first|go_keep)
    (first
     |(go_at_call 161;(with_reducible refine J.o.mono ?_);rintro e w' ⟨rfl,rfl⟩))
   go_wp2
   go_ret
   exact⟨1,rfl,⟨λh=>absurd h (by decide),λh=>by unfold ltG hdG at h;simp only[List.headD_cons]at h;rw[U.o]at h;cases h⟩,I.o⟩
  go_enter Tryz.func122,Tryz.ntmps122
  go_wp2_with fail
  go_region_held3 (λw'=>w'.cell? bx=some (ldV b)/\w'.cell? ⟨bl,O,none⟩=some (.int .i64 o)/\w'.cell? ⟨P,q,none⟩=some (.int .i64 s))
   (first|go_keep)
   (first
    |(go_at_call 161;(with_reducible refine J.o.mono ?_);rintro e w' ⟨rfl,rfl⟩))
  go_wp2
  go_ret
  exact⟨-1,rfl,⟨λ_=>by unfold ltG hdG;simp only[List.headD_cons];exact U.o,λ_=>by decide⟩,I.o⟩
def Kq {w:World}{A:OAd}{n c:Nat}{y:LIn}(h:aY w A n c y):Calls Tryz.prog 60 #[.slice A n c] w λe w'=>e=.returned (.bool (rQ y))/\w=w':=by
 have b:=aA h.len;clear h;by_cases a:n=0
 .subst a;go_enter Tryz.func60,Tryz.ntmps60
  go_wp2
  go_ret
  exact⟨bB (by unfold rQ;rw[b.o];rfl),rfl⟩
 have d:((n:Int)==0)=false:=by simp;omega
 have f:=aA a;clear a;go_enter Tryz.func60,Tryz.ntmps60
 go_wp2
 go_ret
 exact⟨bB (by unfold rQ;rw[b.o];exact(mA f.o).symm),rfl⟩
def Pe (w:World)(g:Nat)(L:LLi):qI 60 #[] w g L rQ where
 enters:=λargs w=>by kernel_rfl
 calls:=λwr A n c y _ _ a=>by
  refine(Kq a).mono ?_;rintro e w' ⟨rfl,rfl⟩;exact⟨rfl,aH _ _⟩
def Kr {w:World}{A:OAd}{n c:Nat}{y:LIn}(h:aY w A n c y):Calls Tryz.prog 66 #[.slice A n c] w λe w'=>e=.returned (.bool (decide (1<y.length)))/\w=w':=by
 have f:=h.len;rw[f];clear h f;by_cases a:1<n
 .have b:(1:Int)<(n:Int):=by omega
  have d:=aA a;clear a;go_enter Tryz.func66,Tryz.ntmps66
  go_wp2
  go_ret
  exact⟨bB (mB d.o).symm,rfl⟩
 have b:¬(1:Int)<(n:Int):=by omega
 have d:=aA a;clear a;go_enter Tryz.func66,Tryz.ntmps66
 go_wp2
 go_ret
 exact⟨bB (mA d.o).symm,rfl⟩
def Pg (w:World):qL 66 #[] w (λy=>decide (1<y.length)) where
 enters:=λargs w=>by kernel_rfl
 calls:=λwr A n c y _ a=>by
  refine(Kr a).mono ?_;rintro e w' ⟨rfl,rfl⟩;exact⟨rfl,aH _ _⟩
def YU (g:LIn)(y:LIn):Bool:=!inS g (y.headD 0)
def Ii {w:World}{L:LLi}{gr bx m d:Nat}{B:OAd}{g:LIn}(p:∀y∈L,y.length≠0)(x:Box w bx 24 #[.slice B m d])(q:aY w B m d g)(r:bx≠gr)(s:∀a,B=some a->a.block≠gr):qI 118 #[.pointer bx] w gr L (YU g) where
 enters:=λargs w=>by kernel_rfl
 calls:=λwr A n c y u i j=>by
  have b:=p y u;obtain⟨v,I,rfl⟩:∃a t,y=a::t:=by
   cases y with
   | nil=>exact absurd rfl b
   | cons a t=>exact⟨a,t,rfl⟩
  have f:=j.len;simp only[bP]at f;obtain⟨bl,z,l,rfl,o,h,C⟩:=aY.get j (k:=0) (by omega);have D:l=v:=by have:=h.o;simp at this;exact this.symm
  subst D;have E:=aA ((aY.keepRow q i (.inr (by
   cases B with
   | none=>exact λe=>(by cases e)
   | some a=>intro e;injection e with e;exact s a rfl e.symm))).keep ((aH wr wr).drew))
  have X:=aA (x.grown i (λe=>r (by injection e with e;exact e.symm)));have F:=aA ((aH wr wr).drew);have G:=aA (dG l E.o);have H:0<n:=by omega
  change Calls _ _ #[_,.pointer bx] _ _
  have J:=X.o.cell 0;rw[eP]at C;clear p x q r s i u j b f o h;go_enter Tryz.func118,Tryz.ntmps118
  go_wp2_with fail
  go_region_held3 (λw'=>w'.cell? bx=some (.slice B m d)/\w'.cell? ⟨bl,z,none⟩=some (.int .i64 l))
   (first|go_keep)
   (first
    |(go_at_call 95;(with_reducible refine G.o.mono ?_);rintro e w' ⟨rfl,rfl⟩))
  go_wp2
  go_ret
  exact⟨bB rfl,F.o⟩
def FZ {w:World}{bx m d:Nat}{B:OAd}{l:LIn}(x:Box w bx 24 #[.slice B m d])(b:aY w B m d l):CY 126 #[.pointer bx] w (λa=>inS l a) where
 enters:=λargs w=>by kernel_rfl
 calls:=λa=>by
  have c:=aA (dG a b);have f:=x.cell 0;clear x b;change Calls _ _ #[a,.pointer bx] _ _
  go_enter Tryz.func126,Tryz.ntmps126
  go_wp2_with (refine c.o.mono ?_;rintro e w' ⟨rfl,rfl⟩)
  go_ret
  exact⟨bB rfl,rfl⟩
def vD {w:World}{A B:OAd}{n c m d:Nat}{g l:LIn}(b:aY w A n c g)(f:aY w B m d l) :
  Calls Tryz.prog 125 #[.slice A n c,.slice B m d] w λe w'=>e=.returned (.bool (iS g l))/\Below w w w':=by
 have a:=aA (aF w (.cells #[.slice B m d] 24));have h:=Box.new w #[.slice B m d] 24;have i:=aA (fL (b.keep a.o) (FZ h (f.keep a.o)));clear b f h;go_enter Tryz.func125,Tryz.ntmps125
 go_wp2_with fail
 refine i.o.mono ?_;rintro e w' ⟨rfl,rfl⟩;go_wp2
 go_ret
 exact⟨bB rfl,a.o⟩
def Ph (p:bI)(g:LIn):Bool:=!iS g p.first||!iS g p.last
section
variable {w:World} {A A1 A2 A3 A4:OAd} {n c n1 c1 n2 c2 n3 c3 n4 c4:Nat} {log:LLi} {p:bI}
def Ij {bx bf:Nat}(h:Nc w A A1 A2 A3 A4 n c n1 c1 n2 c2 n3 c3 n4 c4 log p)(x:Box w bx 125 #[.slice A n c,.slice A1 n1 c1,.slice A2 n2 c2,.slice A3 n3 c3,.slice A4 n4 c4])(y:Box w bf 29 #[.func (.func 125) #[] #[]]):qL 127 #[.pointer bf,.pointer bx] w (Ph p) where
 enters:=λargs w=>by kernel_rfl
 calls:=λwr B m d g a j=>by
  have H:=aA (h.keep a);have X:=aA (x.keep a);have Y:=aA (y.keep a);have k:=aA (vD j H.o.ip.i2);have r:=aA (λ(f:World) (o:Below wr wr f)=>vD (j.keep o) (H.o.ip.i3.keep o));change Calls _ _ #[_,.pointer bf,.pointer bx] _ _
  have s:=Y.o.cell 0;have z:=X.o.cell 2;obtain⟨v,l⟩:=aK (iS g p.first);have q:=aA l;rw[l]at k;clear h x y a j l;cases v
  .go_enter Tryz.func127,Tryz.ntmps127
   go_wp2_with fail
   refine k.o.mono ?_;rintro e f ⟨rfl,a⟩;have i:=aA a;clear a;go_wp2
   go_ret
   exact⟨bB (by unfold Ph;rw[q.o];rfl),i.o⟩
  go_enter Tryz.func127,Tryz.ntmps127
  go_wp2_with fail
  refine k.o.mono ?_;rintro e f ⟨rfl,a⟩;have i:=aA a;have t:=aA (r.o f a);have s:=(Y.o.keep a).cell 0;have C:=(X.o.keep a).cell 3;clear a;go_wp2_with fail
  refine t.o.mono ?_;rintro e D ⟨rfl,b⟩;have u:=aA (i.o.trans (b.mono i.o.size));clear b;go_wp2
  go_ret
  exact⟨bB (by unfold Ph;rw[q.o];rfl),u.o⟩
end
def Dv {w0 w:World}{B n:Nat}{v:Value}{L:LLi}{F:FuncId}{cv:Array Value}{q:LIn->Bool}(own:nY w B w0 v n L)(h:n<=5864062014805)(d:B<=w0.heap.size)(i:∀args w,(callFunc F args).run Tryz.prog w=.ok (.enter F args) w)(hp:∀g,v.ownBlock=some g->qI F cv w g L q) :
  Calls Tryz.prog 58 #[v,.func (.func F) #[] cv] w λe w'=>∃A k c,e=.returned (.slice A k c)/\nY w' B w0 (.slice A k c) k (L.filter λa=>!q a)/\w.grownBy w' v.ownBlock:=by
 have b:=own;obtain⟨f,j,C,l⟩:=own;rcases j.2 with⟨rfl,m⟩|⟨g,cap,o,rfl,_⟩
 .obtain rfl:n=0:=by simpa using m
  have r:L=[]:=dS l;subst r;refine(By (p:=q) ⟨i,λwr A n c y s=>absurd s (by simp)⟩).mono ?_;rintro e w' ⟨rfl,t⟩;exact⟨none,0,0,rfl,aJ.nil,lH t _⟩
 .refine(Bw b h (hp g rfl) d).mono ?_;rintro e w' ⟨k,u,rfl,x,z⟩;exact⟨_,k,u,rfl,x,z⟩
def vE (d:Nat)(ok:Bool)(T:bH)(w:World)(e:Ending)(w':World):Prop:=∃v,e=.returned (.tuple #[v,.bool ok])/\fF (λk=>w.heap.size<=k) d w' v T/\Below w.heap.size w w'
def gX:bH:=.mk 0 0 []
def tL {f:Nat}(IH:zX f){w:World}{A A1 A2 A3 A4:OAd}{n c n1 c1 n2 c2 n3 c3 n4 c4:Nat}{log:LLi}{p:bI}(h:Nc w A A1 A2 A3 A4 n c n1 c1 n2 c2 n3 c3 n4 c4 log p)(hp:eZ log p)(hf:vZ (f+1) log)(he:∀t∈log,t.length≠0) :
  Calls Tryz.prog 67 #[zW A A1 A2 A3 A4 n c n1 c1 n2 c2 n3 c3 n4 c4] w (vE (f+3) (decide (2<=(dY (bhB p) p.labels).length)) (if 2<=(dY (bhB p) p.labels).length then .mk 4 0 ((dY (bhB p) p.labels).map λg=>aX f (log.filter λt=>inS g (t.headD 0)))else gX) w):=by
 have H:=aA h;have FU:=aA (λg (h2:2<=(dY (bhB p) p.labels).length) (hg:g∈dY (bhB p) p.labels)=>hf.choose he hp h2 hg);have T:=aA (show n<=60/\p.labels.length<=26/\p.labels.Pairwise (.< .)from⟨by rw[<-h.il.len];exact hf.n,pD hp.1.1 (hp.lab hf.1),hp.1.1⟩);have HE:=aA he;have b2:=aA IH;clear h hp hf he IH;obtain⟨LV,I⟩:∃LV:Array Value,LV=#[.slice A n c,.slice A1 n1 c1,.slice A2 n2 c2,.slice A3 n3 c3,.slice A4 n4 c4]:=⟨_,rfl⟩;have J:=aA ((aF w (.cells #[.slice A n c,.slice A1 n1 c1,.slice A2 n2 c2,.slice A3 n3 c3,.slice A4 n4 c4] 125)).alloc (by simp) (.cells #[(0:Int),(0:Int),()] 35));have U:=aA (show Box ((w.alloc (.cells #[.slice A n c,.slice A1 n1 c1,.slice A2 n2 c2,.slice A3 n3 c3,.slice A4 n4 c4] 125)).alloc (.cells #[(0:Int),(0:Int),()] 35)) w 125 LV from by subst I;exact(Box.new w _ _).old _);have X1:=aA (show Box ((w.alloc (.cells #[.slice A n c,.slice A1 n1 c1,.slice A2 n2 c2,.slice A3 n3 c3,.slice A4 n4 c4] 125)).alloc (.cells #[(0:Int),(0:Int),()] 35)) (w.heap.size+1) 35 #[(0:Int),(0:Int),()]from Box.newAt (by simp) _ _);have i:=aA I;clear I;go_enter Tryz.func67,Tryz.ntmps67
 go_upto_region 1 with fail
 generalize ((w.alloc (.cells #[.slice A n c,.slice A1 n1 c1,.slice A2 n2 c2,.slice A3 n3 c3,.slice A4 n4 c4] 125)).alloc (.cells #[(0:Int),(0:Int),()] 35))=w1 at *
 have x0:w1.cell? w=some (.slice A n c):=(U.o.cell 0).trans (by rw[i.o];rfl);have x1:w1.cell? ⟨w,1,none⟩=some (.slice A1 n1 c1):=(U.o.cell 1).trans (by rw[i.o];rfl);have x2:w1.cell? ⟨w,2,none⟩=some (.slice A2 n2 c2):=(U.o.cell 2).trans (by rw[i.o];rfl);have x3:w1.cell? ⟨w,3,none⟩=some (.slice A3 n3 c3):=(U.o.cell 3).trans (by rw[i.o];rfl);have x4:w1.cell? ⟨w,4,none⟩=some (.slice A4 n4 c4):=(U.o.cell 4).trans (by rw[i.o];rfl);have CG:=aA (rP (H.o.keep J.o).ip.i1 (by rw[<-H.o.ip.i1.len];exact T.o.2.1) T.o.2.2 (Ri p.labels (H.o.keep J.o)));go_wp2_with fail
 refine CG.o.mono ?_;rintro e x ⟨vo,m,rfl,hm,rg,hG,y⟩;have ML:=aA (show(dY (bhB p) p.labels).length=m from aJ.len rg);obtain⟨AG,cG,rfl,K⟩:=mJ.lists rg (by omega);have IG:=aA K;have V:=aA y;have HM:=aA hm;have X2:=aA (U.o.keep y);have X:=aA (X1.o.keep y);clear x0 x1 x2 x3 x4 rg hG y hm K;by_cases l:m<2
 .have b3:(m:Int)<2:=by omega
  have Y:=aA (show ¬2<=(dY (bhB p) p.labels).length by rw[ML.o];omega);have BA:=aA (show fF (λk=>w1.heap.size<=k) (f+3) x (.agg #[(0:Int),(0:Int),()]) gX from⟨none,0,0,rfl,Sl.nil0,λh=>absurd h (by omega)⟩);have L:=X1.o.lt;obtain⟨u0,u1,u2⟩:=X.o.three;have fz:=λj=>X.o.frozen j
  have z:=aA (dR (w:=w) BA.o X.o V.o J.o (by omega) (by omega));clear l L;go_wp2
  generalize (((x.setCell ⟨w.heap.size+1,0,none⟩ (.int .i64 0)).setCell ⟨w.heap.size+1,1,none⟩ (.int .i64 0)).setCell ⟨w.heap.size+1,2,none⟩ ())=w5 at *
  obtain⟨z0,z1,z2⟩:=z.o.1.three;exact aU (v:=.tuple #[.agg #[(0:Int),(0:Int),()],.bool false]) (by simp[results,Tryz.results67,go_sem,z0,z1,z2]) rfl ⟨.agg #[(0:Int),(0:Int),()],by first|rfl|(rw[mA Y.o]),by first|exact z.o.2.1|(rw[aD Y.o];exact z.o.2.1),z.o.2.2⟩
 .have b3:¬(m:Int)<2:=by omega
  have Z:=aA (show 2<=(dY (bhB p) p.labels).length by rw[ML.o];omega);clear l;go_wp2
  go_loopg [5,21] m (λgk s5 b4 wr=>∃v k,v=s5/\b4=.int .i64 (k:Nat)/\Hid (k+gk=m)/\Hid (jE wr x (f+3) v k (((dY (bhB p) p.labels).take k).map λg=>aX f (log.filter λt=>inS g (t.headD 0))))/\Hid (Below x x wr))
  case atStart=>exact⟨_,0,rfl,rfl,aA (by omega),aA aJ.nil,aA (aH _ _)⟩
  obtain⟨v,k,rfl,rfl,M,OB,B⟩:=hrel;have DW:=aA (J.o.trans ((V.o.trans (B.o.mono V.o.size)).mono J.o.size));have DV:=aA (V.o.trans (B.o.mono V.o.size));by_cases l:k<m
  rotate_left
  .have b5:¬(k:Int)<(m:Int):=by omega
   have OF:=aA (show jE wr x (f+3) v k ((dY (bhB p) p.labels).map λg=>aX f (log.filter λt=>inS g (t.headD 0)))from by
    have:=OB.o;rwa[aW (by rw[ML.o];omega)]at this)
   obtain⟨AK,cK,rfl,sK,pK⟩:=OF.o.sl2 (by have:=HM.o;have:=M.o;omega);have CB:=aA (kR 4 sK pK B.o);have X5:=aA (X.o.keep B.o);clear sK pK OB l M;go_wp2_with fail
   refine CB.o.mono ?_;rintro e w3 ⟨⟨v3,rfl,⟨o,s,u,rfl,s3,p3⟩,a0⟩,d⟩;have X4:=aA (X5.o.keep d);have BA:=aA (show fF (λk=>x.heap.size<=k) (f+3) w3 (.agg #[.int .i64 (bH.mk 4 0 ((dY (bhB p) p.labels).map λg=>aX f (log.filter λt=>inS g (t.headD 0)))).kind,.int .i64 (bH.mk 4 0 ((dY (bhB p) p.labels).map λg=>aX f (log.filter λt=>inS g (t.headD 0)))).label,.slice o s u]) (.mk 4 0 ((dY (bhB p) p.labels).map λg=>aX f (log.filter λt=>inS g (t.headD 0))))from⟨o,s,u,rfl,s3,p3⟩);generalize (bH.mk 4 0 ((dY (bhB p) p.labels).map λg=>aX f (log.filter λt=>inS g (t.headD 0)))).kind=C at *
   generalize (bH.mk 4 0 ((dY (bhB p) p.labels).map λg=>aX f (log.filter λt=>inS g (t.headD 0)))).label=D at *
   have D3:=aA a0;have L:=X.o.lt;obtain⟨u0,u1,u2⟩:=X4.o.three;have fz:=λj=>X4.o.frozen j
   have z:=aA (dR (w:=w) BA.o X4.o D3.o (J.o.trans (V.o.mono J.o.size)) (by omega) (by omega));clear s3 p3 a0 d L;go_wp2
   generalize (((w3.setCell ⟨w.heap.size+1,0,none⟩ C).setCell ⟨w.heap.size+1,1,none⟩ D).setCell ⟨w.heap.size+1,2,none⟩ (.slice o s u))=w5 at *
   obtain⟨z0,z1,z2⟩:=z.o.1.three;exact aU (v:=.tuple #[.agg #[C,D,.slice o s u],.bool true]) (by simp[results,Tryz.results67,go_sem,z0,z1,z2]) rfl ⟨.agg #[C,D,.slice o s u],by first|rfl|(rw[mB Z.o]),by first|exact z.o.2.1|(simpa using z.o.2.1),z.o.2.2⟩
  have b5:(k:Int)<(m:Int):=by omega
  obtain⟨b,d1,g,Bg,mg,dg,rfl,hb,N,q0,K,d2⟩:=cQ.get (Sl.keep cS.kept IG.o B.o) l;have HJ:=aA (show gk-1<gk/\(k+1)+(gk-1)=m/\k<=26 by have:=M.o;have:=HM.o;omega);have d3:IntKind.i64.wrap ((k:Int)+1)=((k+1:Nat):Int):=by
   have:=HJ.o;simp[IntKind.wrap,IntKind.bits,IntKind.signed];omega
  have G:g≠[]:=(jX T.o.2.2).ne g (aS N.o);obtain⟨bg,og,yg,rfl,a1,_,_⟩:=aY.get K (k:=0) (by have:=K.len;have:g.length≠0:=λe=>G (dS e);omega);have FG:=aA (FU.o g Z.o (aS N.o));have TB:=aA (Box.new wr #[.slice (some ⟨bg,og,none⟩) mg dg] 24);have W:=aA (aF wr (.cells #[.slice (some ⟨bg,og,none⟩) mg dg] 24));have b6:=aA (K.keep W.o);have b7:=aA a1;have x0:(wr.alloc (.cells #[.slice (some ⟨bg,og,none⟩) mg dg] 24)).cell? w=some (.slice A n c):=(((X2.o.keep B.o).keep W.o).cell 0).trans (by rw[i.o];rfl);have CC:=aA (qU (Sl.keep cS.kept (Sl.keep cS.kept H.o.il DW.o) W.o) (by have:=T.o;omega));clear hb K G a1;go_upto_region 8 with fail
  clear q0;have HS:=aA (show(wr.alloc (.cells #[.slice (some ⟨bg,og,none⟩) mg dg] 24)).heap.size=wr.heap.size+1 by simp);generalize b9:wr.alloc (.cells #[.slice (some ⟨bg,og,none⟩) mg dg] 24)=w3 at *
  clear b9;go_wp2_with fail
  refine CC.o.mono ?_;rintro e w4 ⟨v4,rfl,O,d⟩;have E:=O.lt;have CD:=aA (Dv (F:=118) (cv:=#[.pointer wr]) (q:=YU g) O (by have:=T.o;omega) (aB _) (λargs w=>by kernel_rfl) (λgr a2=>Ii HE.o (TB.o.keep d) (b6.o.keep d) (by have:=(E gr a2).1;have:=HS.o;omega) (λa ha=>by injection ha with ha;subst ha;have:=(E gr a2).1;have:=HS.o;have:=b7.o;show bg≠gr;omega)));have B4:=aA d;have c0:=aA E;clear O d E;go_wp2_with fail
  refine CD.o.mono ?_;rintro e w5 ⟨A5,k5,c5,rfl,P,a3⟩;have B5:=aA (show Below wr wr w5 from(W.o.trans (B4.o.mono W.o.size)).grown a3 (aT W.o.size B4.o.size) (λk hk=>by have:=(c0.o k hk).1;have:=HS.o;omega));have L5:=aA (show k5<=60 by
   have h1:=P.len;have h2:k5<=log.length:=by rw[<-h1];exact fC _ _
   have h3:=T.o.1;have h4:=H.o.il.len;omega)
  obtain⟨A6,c6,e6,Q⟩:=nY.lists P (by have:=L5.o;omega);injection e6 with c7 _ c8;subst c7 c8;have EF:(log.filter λa=>!YU g a)=log.filter λt=>inS g (t.headD 0):=by
   congr 1
   funext t
   unfold YU;rw[Bool.not_not]
  rw[EF]at Q;have CF:=aA (b2.o w5 A5 k5 c5 _ Q FG.o);clear P a3 Q EF CD;go_wp2_with fail
  refine CF.o.mono ?_;rintro e w6 ⟨v6,rfl,⟨d4,d5,d6,rfl,s6,p6⟩,a4⟩;have B6:=aA (B5.o.trans (a4.mono B5.o.size));have a5:=B.o.size;have KO:=aA (Q6 (OB.o) a5 (s6.imp (λ_ _ r=>r.wide (λk _ hk=>aT B5.o.size hk) (f+2))) (λhn a ha=>aT B5.o.size (p6 hn a ha)));have a6:=aA (OB.o.keep B6.o);have E3:=aA (B.o.trans (B6.o.mono B.o.size));have a9:=E3.o.size;have c9:k<=100:=by have:=HJ.o;omega
  have TK:=aA (show((dY (bhB p) p.labels).take (k+1)).map (λg=>aX f (log.filter λt=>inS g (t.headD 0)))=((dY (bhB p) p.labels).take k).map (λg=>aX f (log.filter λt=>inS g (t.headD 0)))++[aX f (log.filter λt=>inS g (t.headD 0))] by rw[cP,N.o];simp);obtain⟨C,R⟩:=bS ((aX f (log.filter λt=>inS g (t.headD 0))).kind);obtain⟨D,S⟩:=bS ((aX f (log.filter λt=>inS g (t.headD 0))).label);rw[<-R,<-S];have b0:=aA (And.intro R S);clear s6 p6 a4 OB R S a5;go_wp2_with (at_builtin;refine mF rfl _ _ rfl rfl rfl rfl a6.o b0.o.1 b0.o.2 KO.o.1 KO.o.2 a9 c9 ?_;intro v8 w8 b1 d0;have O8:=aA b1;have E8:=aA (show Below x x w8 from E3.o.grown d0 a9 (λk hk=>(a6.o.lt k hk).1)))
  go_roundg (gk-1)
  case measure=>exact HJ.o.1
  exact⟨v8,k+1,rfl,rfl,aA HJ.o.2.1,aA (by rw[TK.o];exact O8.o),E8⟩
def kS {α:Type} [DecidableEq α]:∀(l all:List α),l.Nodup->(∀x∈l,x∈all)->l.length<=all.length
 | [],_,_,_=>by simp
 | a::l,all,d,f=>by
  have g:a∈all:=f a (by simp);have c:a∉l:=(kC.1 d).1;have:=kS l (all.erase a) (kC.1 d).2 (λx h=>(List.mem_erase_of_ne (a:=x) (b:=a) (by intro e;subst e;exact c h)).2 (f x (by simp[h])));rw[List.length_erase_of_mem g]at this;have:0<all.length:=oL g;simp only[bP];omega
def Ik {log:LLi}{p:bI}(hp:eZ log p)(d:eI log=0):p.behind.length<=1000:=by
 have h:=kS p.behind (Qd ((List.range 26).map λi:Nat=>(i:Int)+1)) (hp.2.2.2.1.imp (λ{a b} c e=>by subst e;unfold qT at c;omega)) (λq g=>by
  obtain⟨t,f,k,j,l⟩:=(hp.2.2.2.2 q).1 g;have a1:=hp.lab d q.1 ((hp.1.2 _).2 ⟨t,f,aS j⟩);have a2:=hp.lab d q.2 ((hp.1.2 _).2 ⟨t,f,aS l⟩);have m:∀a:Int,1<=a/\a<=26->a∈(List.range 26).map λi:Nat=>(i:Int)+1:=λa n=>bZ.2 ⟨(a-1).toNat,by rw[bM];omega,by omega⟩
  exact uW.2 ⟨m _ a1,m _ a2⟩)
 have e:(Qd ((List.range 26).map λi:Nat=>(i:Int)+1)).length=676:=by decide +kernel
 omega
def F7 (d:Nat)(P:Prop)(T:bH)(w:World)(e:Ending)(w':World):Prop:=(P->vE d true T w e w')/\(¬P->vE d false gX w e w')
def Nk (d:Nat)(P:Prop)(T:bH)(w:World):(∀{w':World} (v:Value),P->fF (λk=>w.heap.size<=k) d w' v T->Below w w w'->F7 d P T w (.returned (.tuple #[v,.bool true])) w')/\(∀{w':World} (v:Value),¬P->fF (λk=>w.heap.size<=k) d w' v gX->Below w w w'->F7 d P T w (.returned (.tuple #[v,.bool false])) w') :=
 ⟨λv a b c=>⟨λ_=>⟨v,rfl,b,c⟩,λh=>absurd a h⟩,λv a b c=>⟨λh=>absurd h a,λ_=>⟨v,rfl,b,c⟩⟩⟩
noncomputable def wK (f:Nat)(log:LLi)(p:bI):bH:=.mk 3 0 ((Wz (dE p) (dY (cY (dE p)) p.labels)).map λg=>aX f (fY log g))
noncomputable def lQ (f:Nat)(log:LLi)(p:bI):bH:=.mk 5 0 ((dY (j3 p) p.labels).map λg=>aX f (fY log g))
def Gy (p:bI):Prop:=2<=(dY (cY (dE p)) p.labels).length
def rS (p:bI):Prop:=2<=(dY (j3 p) p.labels).length/\((dY (j3 p) p.labels).all λg=>iS g p.first&&iS g p.last)=true
def WO (G:LLi):JR (λk=>(G[k]?).getD []) G.length=G:=by
 apply iE
 intro k;by_cases a:k<G.length
 .rw[gW a,aV a];rfl
 rw[dC (by rw[uU];omega),dC (by omega)]
def WP {G:LLi}(h:G.Nodup):f7 (λx=>x∈G) (λk=>(G[k]?).getD []) G.length where
 mem:=λk d=>by simp only[aV d,j6];exact j5 d
 inj:=λi j b c e=>by
  simp only[aV b,aV c,j6]at e;rcases Nat.lt_trichotomy i j with a|a|a
  .exact absurd e (rA.1 h i j b c a)
  .exact a
  exact absurd e.symm (rA.1 h j i c b a)
def UL {lds:Int->Int->Bool}{ls:LIn}{G:LLi}(i:tW (cY lds) ls G){q:Nat->LIn}(g:f7 (λx=>x∈G) q G.length)(l:jI (ltG lds) q 0 G.length)(m:fS q (λk=>(G[k]?).getD []) 0 G.length):Wz lds G=JR q G.length:=by
 refine QW i ?_ ?_ (λx=>?_)
 .unfold JR;refine List.nodup_iff_pairwise_ne.2 (oI.2 ((List.pairwise_lt_range).imp_of_mem (λ{a b} h f c e=>?_)));have:=g.inj a b (bM.1 h) (bM.1 f) e;omega
 .unfold JR;exact oI.2 ((List.pairwise_lt_range).imp_of_mem (λ{a b} h f c=>l a b (aL _) c (bM.1 f)))
 unfold JR;rw[bZ];constructor
 .rintro⟨k,d,rfl⟩;exact g.mem k (bM.1 d)
 intro n;obtain⟨k,d,rfl⟩:=hZ n;obtain⟨j,_,o,e⟩:=m.all k (aL _) d;exact⟨j,bM.2 o,by rw[e];simp[aV d]⟩
def vF {f:Nat}(IH:zX f){w:World}{A A1 A2 A3 A4:OAd}{n c n1 c1 n2 c2 n3 c3 n4 c4:Nat}{log:LLi}{p:bI}(h:Nc w A A1 A2 A3 A4 n c n1 c1 n2 c2 n3 c3 n4 c4 log p)(hp:eZ log p)(D:vZ (f+1) log) :
  Calls Tryz.prog 68 #[zW A A1 A2 A3 A4 n c n1 c1 n2 c2 n3 c3 n4 c4] w (F7 (f+3) (Gy p) (wK f log p) w):=by
 have P:=aA (Nk (f+3) (Gy p) (wK f log p) w);have H:=aA h;have E:=aA hp;have Q:=aA D;have NN:=aA (show n<=60/\p.labels.length<=26/\p.labels.Pairwise (.< .)from⟨by rw[<-h.il.len];exact D.n,pD hp.1.1 (hp.lab D.1),hp.1.1⟩);have OK:=aA (show(∀a∈p.labels,okI a)/\(∀q∈p.behind,okP q)from⟨hp.lab D.1,λq hq=>by
  obtain⟨t,ht,k,T,U⟩:=(hp.2.2.2.2 q).1 hq;exact⟨hp.lab D.1 q.1 ((hp.1.2 _).2 ⟨t,ht,aS T⟩),hp.lab D.1 q.2 ((hp.1.2 _).2 ⟨t,ht,aS U⟩)⟩⟩)
 have a9:=aA IH;clear h hp D IH;obtain⟨LV,F⟩:∃LV:Array Value,LV=#[.slice A n c,.slice A1 n1 c1,.slice A2 n2 c2,.slice A3 n3 c3,.slice A4 n4 c4]:=⟨_,rfl⟩;have B0:=aA ((aF w (.cells #[.slice A n c,.slice A1 n1 c1,.slice A2 n2 c2,.slice A3 n3 c3,.slice A4 n4 c4] 125)).alloc (by simp) (.cells #[(0:Int),(0:Int),()] 35));have G:=aA (show Box ((w.alloc (.cells #[.slice A n c,.slice A1 n1 c1,.slice A2 n2 c2,.slice A3 n3 c3,.slice A4 n4 c4] 125)).alloc (.cells #[(0:Int),(0:Int),()] 35)) w 125 LV from by subst F;exact(Box.new w _ _).old _);have X1:=aA (show Box ((w.alloc (.cells #[.slice A n c,.slice A1 n1 c1,.slice A2 n2 c2,.slice A3 n3 c3,.slice A4 n4 c4] 125)).alloc (.cells #[(0:Int),(0:Int),()] 35)) (w.heap.size+1) 35 #[(0:Int),(0:Int),()]from Box.newAt (by simp) _ _);have d:=aA F;clear F;go_enter Tryz.func68,Tryz.ntmps68
 go_upto_region 1 with fail
 generalize ((w.alloc (.cells #[.slice A n c,.slice A1 n1 c1,.slice A2 n2 c2,.slice A3 n3 c3,.slice A4 n4 c4] 125)).alloc (.cells #[(0:Int),(0:Int),()] 35))=w1 at *
 have x0:w1.cell? w=some (.slice A n c):=(G.o.cell 0).trans (by rw[d.o];rfl);have x1:w1.cell? ⟨w,1,none⟩=some (.slice A1 n1 c1):=(G.o.cell 1).trans (by rw[d.o];rfl);have x2:w1.cell? ⟨w,2,none⟩=some (.slice A2 n2 c2):=(G.o.cell 2).trans (by rw[d.o];rfl);have x3:w1.cell? ⟨w,3,none⟩=some (.slice A3 n3 c3):=(G.o.cell 3).trans (by rw[d.o];rfl);have x4:w1.cell? ⟨w,4,none⟩=some (.slice A4 n4 c4):=(G.o.cell 4).trans (by rw[d.o];rfl);have CL:=aA (Ft (H.o.keep B0.o) OK.o.1 OK.o.2 (by rw[<-H.o.ip.i1.len];exact NN.o.2.1) (by rw[<-H.o.ip.i4.len];exact Ik E.o Q.o.1));go_wp2_with fail
 refine CL.o.mono ?_;rintro e B ⟨b,bm,q,rfl,xb,mb,l⟩;have V:=aA (show LdF B b bm (dE p)from⟨xb,q,mb⟩);have I:=aA (And.intro (And.intro xb.lt mb.lt) l.size);have D2:=aA (B0.o.trans (l.mono B0.o.size));have W:=aA (aF B (.cells #[ldV b] 166));have TB:=aA (Box.new B #[ldV b] 166);have D3:=aA (D2.o.trans (W.o.mono D2.o.size));have X2:=aA ((G.o.keep l).keep W.o);have X3:=aA ((X1.o.keep l).keep W.o);have y0:B.cell? w=some (.slice A n c):=((G.o.keep l).cell 0).trans (by rw[d.o];rfl);clear x0 x1 x2 x3 x4 xb mb l CL;go_upto_region 2 with fail
 clear y0;have o:=aA (show(B.alloc (.cells #[ldV b] 166)).heap.size=B.heap.size+1 by simp);generalize b0:B.alloc (.cells #[ldV b] 166)=w3 at *
 clear b0;have x1:w3.cell? ⟨w,1,none⟩=some (.slice A1 n1 c1):=(X2.o.cell 1).trans (by rw[d.o];rfl);have CG:=aA (rP (H.o.keep D3.o).ip.i1 (by rw[<-H.o.ip.i1.len];exact NN.o.2.1) NN.o.2.2 (Rj OK.o.1 TB.o (V.o.keep W.o)));go_wp2_with fail
 refine CG.o.mono ?_;rintro e X ⟨vo,m,rfl,hm,L,hG,i⟩;have Y:=aA (show(dY (cY (dE p)) p.labels).length=m from aJ.len L);have RG:=aA L;have M:=aA hG;have HM:=aA hm;have B4:=aA i;have D4:=aA (D3.o.trans (i.mono D3.o.size));have X4:=aA (X2.o.keep i);have Z:=aA (X3.o.keep i);have b1:=aA (TB.o.keep i);have b2:=aA ((V.o.keep W.o).keep i);clear x1 hG i hm CG;by_cases a0:m<2
 .have b3:(m:Int)<2:=by omega
  have NO:=aA (show ¬Gy p by unfold Gy;rw[Y.o];omega);obtain⟨AG,cG,rfl,_⟩:=mJ.lists L (by omega);clear L a0;have BA:=aA (show fF (λk=>X.heap.size<=k) (f+3) X (.agg #[(0:Int),(0:Int),()]) gX from⟨none,0,0,rfl,Sl.nil0,λh=>absurd h (by omega)⟩);have J:=Z.o.lt;obtain⟨u0,u1,u2⟩:=Z.o.three;have fz:=λj=>Z.o.frozen j
  have W5:=aA (dR (w:=w) BA.o Z.o (aH _ _) D4.o (by omega) (by omega));clear J;go_wp2
  generalize (((X.setCell ⟨w.heap.size+1,0,none⟩ (.int .i64 0)).setCell ⟨w.heap.size+1,1,none⟩ (.int .i64 0)).setCell ⟨w.heap.size+1,2,none⟩ ())=C at *
  obtain⟨z0,z1,z2⟩:=W5.o.1.three;exact aU (v:=.tuple #[.agg #[(0:Int),(0:Int),()],.bool false]) (by simp[results,Tryz.results68,go_sem,z0,z1,z2]) rfl (P.o.2 _ NO.o W5.o.2.1 W5.o.2.2)
 .have b3:¬(m:Int)<2:=by omega
  have a1:=aA (show Gy p by unfold Gy;rw[Y.o];omega);obtain⟨g,cap,rfl,a2,a3⟩:∃g cap,vo=.slice (some ⟨g,0,none⟩) m cap/\w3.heap.size<=g/\g<X.heap.size:=by
   obtain⟨b4,o1,_⟩:=L;exact o1.form (by omega)
  have RF:=aA (show nJ X w3 w3 g m cap (λk=>((dY (cY (dE p)) p.labels)[k]?).getD [])from by
   have e:=WO (dY (cY (dE p)) p.labels);rw[Y.o]at e;show aJ _ _ _ _ _ _ _ (JR _ m)
   rw[e];exact RG.o)
  have tr:=λa b c (_:a∈p.labels) (hb:b∈p.labels) (_:c∈p.labels) T U=>zU E.o a b c hb T U
  have CS:=aA (wJ (R:=ltG (dE p)) (S:=λx=>x∈dY (cY (dE p)) p.labels) RF.o HM.o
   ⟨λx y N hy b5=>EY M.o N hy b5,λx y z N hy hz T U=>Hz tr M.o N hy hz T U⟩
   (by have:=WP (M.o.nodup);rwa[Y.o]at this)
   (OZ (b:=b) (bm:=bm) (λx N=>⟨M.o.ne x N,λa ha=>OK.o.1 a (M.o.sub x N a ha)⟩) b1.o b2.o (by have:=o.o;omega) (by have:=o.o;have:=I.o.1;omega) (by have:=o.o;have:=I.o.1;omega)))
  have b6:=aA (And.intro a2 a3);clear L a0 tr a2 a3;go_wp2_with fail
  refine CS.o.mono ?_;rintro e C ⟨⟨y,rfl⟩,⟨q2,r1,r2,r3,r4⟩,r⟩;have EO:=aA (show Wz (dE p) (dY (cY (dE p)) p.labels)=JR q2 m from by
   have:=UL M.o (q:=q2);rw[Y.o]at this;exact this r2 r3 r4)
  have s:∀k,some g=some k->w.heap.size+2<=k:=λk O=>by
   injection O with O;have:=b6.o.1;have:=o.o;have:=X1.o.lt;have h9:w1.heap.size<=B.heap.size:=I.o.2;omega
  have D5:=aA (show Below w w C from D4.o.grown r D4.o.size (λk O=>by have:=s k O;omega));have u:=aA (X4.o.grown r (λe=>by have:=s _ e;omega));have X7:=aA (Z.o.grown r (λe=>by have:=s _ e;omega));obtain⟨AM,cM,eM,a4⟩:=mJ.lists r1 (by have:=HM.o;omega);injection eM with b7 _ b9;subst b7 b9;have x0:C.cell? w=some (.slice A n c):=(u.o.cell 0).trans (by rw[d.o];rfl);have x1:C.cell? ⟨w,1,none⟩=some (.slice A1 n1 c1):=(u.o.cell 1).trans (by rw[d.o];rfl);have x2:C.cell? ⟨w,2,none⟩=some (.slice A2 n2 c2):=(u.o.cell 2).trans (by rw[d.o];rfl);have x3:C.cell? ⟨w,3,none⟩=some (.slice A3 n3 c3):=(u.o.cell 3).trans (by rw[d.o];rfl);have x4:C.cell? ⟨w,4,none⟩=some (.slice A4 n4 c4):=(u.o.cell 4).trans (by rw[d.o];rfl);have CP:=aA (vB a9.o (H.o.keep D5.o) a4 3 (λgx c0=>Q.o.onto E.o a1.o (by
   obtain⟨k,O,rfl⟩:=bZ.1 c0;exact r2.mem k (bM.1 O))) HM.o NN.o.1)
  rw[show(bH.mk 3 0 ((JR q2 m).map λg=>aX f (fY log g)))=wK f log p by unfold wK;rw[EO.o]]at CP;clear r1 r2 r3 r4 r a4 s CS;go_wp2_with fail
  refine CP.o.mono ?_;rintro e w6 ⟨v6,rfl,⟨A6,n6,c6,rfl,s6,p6⟩,K⟩;have u:=aA (X7.o.keep K);have BA:=aA (show fF (λk=>C.heap.size<=k) (f+3) w6 (.agg #[.int .i64 (wK f log p).kind,.int .i64 (wK f log p).label,.slice A6 n6 c6]) (wK f log p)from⟨A6,n6,c6,rfl,s6,p6⟩);generalize (wK f log p).kind=a5 at *
  generalize (wK f log p).label=a6 at *
  have D6:=aA K;have J:=X7.o.lt;obtain⟨u0,u1,u2⟩:=u.o.three;have fz:=λj=>u.o.frozen j
  have W7:=aA (dR (w:=w) BA.o u.o D6.o D5.o (by omega) (by omega));clear s6 p6 K J CP;go_wp2
  generalize (((w6.setCell ⟨w.heap.size+1,0,none⟩ a5).setCell ⟨w.heap.size+1,1,none⟩ a6).setCell ⟨w.heap.size+1,2,none⟩ (.slice A6 n6 c6))=w7 at *
  obtain⟨z0,z1,z2⟩:=W7.o.1.three;exact aU (v:=.tuple #[.agg #[a5,a6,.slice A6 n6 c6],.bool true]) (by simp[results,Tryz.results68,go_sem,z0,z1,z2]) rfl (P.o.1 _ a1.o W7.o.2.1 W7.o.2.2)
def tM {f:Nat}(IH:zX f){w:World}{A A1 A2 A3 A4:OAd}{n c n1 c1 n2 c2 n3 c3 n4 c4:Nat}{log:LLi}{p:bI}(h:Nc w A A1 A2 A3 A4 n c n1 c1 n2 c2 n3 c3 n4 c4 log p)(hp:eZ log p)(s:vZ (f+1) log) :
  Calls Tryz.prog 69 #[zW A A1 A2 A3 A4 n c n1 c1 n2 c2 n3 c3 n4 c4] w (F7 (f+3) (rS p) (lQ f log p) w):=by
 have u:=aA (Nk (f+3) (rS p) (lQ f log p) w);have H:=aA h;have X:=aA hp;have Y:=aA s;have Z:=aA (show n<=60/\p.labels.length<=26/\p.labels.Pairwise (.< .)from⟨by rw[<-h.il.len];exact s.n,pD hp.1.1 (hp.lab s.1),hp.1.1⟩);have OK:=aA (show(∀a∈p.labels,okI a)/\(∀q∈p.behind,okP q)from⟨hp.lab s.1,λq hq=>by
  obtain⟨t,ht,k,F,G⟩:=(hp.2.2.2.2 q).1 hq;exact⟨hp.lab s.1 q.1 ((hp.1.2 _).2 ⟨t,ht,aS F⟩),hp.lab s.1 q.2 ((hp.1.2 _).2 ⟨t,ht,aS G⟩)⟩⟩)
 have a0:=aA IH;clear h hp s IH;obtain⟨LV,x⟩:∃LV:Array Value,LV=#[.slice A n c,.slice A1 n1 c1,.slice A2 n2 c2,.slice A3 n3 c3,.slice A4 n4 c4]:=⟨_,rfl⟩;have I:=aA ((aF w (.cells #[.slice A n c,.slice A1 n1 c1,.slice A2 n2 c2,.slice A3 n3 c3,.slice A4 n4 c4] 125)).alloc (by simp) (.cells #[(0:Int),(0:Int),()] 35));have y:=aA (show Box ((w.alloc (.cells #[.slice A n c,.slice A1 n1 c1,.slice A2 n2 c2,.slice A3 n3 c3,.slice A4 n4 c4] 125)).alloc (.cells #[(0:Int),(0:Int),()] 35)) w 125 LV from by subst x;exact(Box.new w _ _).old _);have X1:=aA (show Box ((w.alloc (.cells #[.slice A n c,.slice A1 n1 c1,.slice A2 n2 c2,.slice A3 n3 c3,.slice A4 n4 c4] 125)).alloc (.cells #[(0:Int),(0:Int),()] 35)) (w.heap.size+1) 35 #[(0:Int),(0:Int),()]from Box.newAt (by simp) _ _);have b:=aA x;clear x;go_enter Tryz.func69,Tryz.ntmps69
 go_upto_region 1 with fail
 generalize ((w.alloc (.cells #[.slice A n c,.slice A1 n1 c1,.slice A2 n2 c2,.slice A3 n3 c3,.slice A4 n4 c4] 125)).alloc (.cells #[(0:Int),(0:Int),()] 35))=w1 at *
 have x0:w1.cell? w=some (.slice A n c):=(y.o.cell 0).trans (by rw[b.o];rfl);have x1:w1.cell? ⟨w,1,none⟩=some (.slice A1 n1 c1):=(y.o.cell 1).trans (by rw[b.o];rfl);have x2:w1.cell? ⟨w,2,none⟩=some (.slice A2 n2 c2):=(y.o.cell 2).trans (by rw[b.o];rfl);have x3:w1.cell? ⟨w,3,none⟩=some (.slice A3 n3 c3):=(y.o.cell 3).trans (by rw[b.o];rfl);have x4:w1.cell? ⟨w,4,none⟩=some (.slice A4 n4 c4):=(y.o.cell 4).trans (by rw[b.o];rfl);have CG:=aA (rP (H.o.keep I.o).ip.i1 (by rw[<-H.o.ip.i1.len];exact Z.o.2.1) Z.o.2.2 (OT p.labels (H.o.keep I.o) (by rw[<-b.o];exact y.o)));go_wp2_with fail
 refine CG.o.mono ?_;rintro e R ⟨vo,m,rfl,hm,rg,hG,l⟩;have ML:=aA (show(dY (j3 p) p.labels).length=m from aJ.len rg);obtain⟨AG,cG,rfl,ig⟩:=mJ.lists rg (by omega);have FV:=aA (show Value.func (.func 125) #[] #[]=Value.func (.func 125) #[] #[]from rfl);have S:=aA (aF R (.cells #[.func (.func 125) #[] #[]] 29));have TB:=aA (Box.new R #[.func (.func 125) #[] #[]] 29);have D:=aA ((I.o.trans (l.mono I.o.size)).trans (S.o.mono (aT I.o.size l.size)));have IG:=aA (Sl.keep cS.kept ig S.o);have HM:=aA hm;have GR:=aA hG;have X2:=aA ((y.o.keep l).keep S.o);have E:=aA ((X1.o.keep l).keep S.o);clear x0 x1 x2 x3 x4 rg hG l hm ig CG;go_upto_region 3 with fail
 generalize R.alloc (.cells #[.func (.func 125) #[] #[]] 29)=w3 at *
 by_cases J:m<2
 .have a1:(m:Int)<2:=by omega
  have NO:=aA (show ¬rS p by unfold rS;rw[ML.o];omega);clear J;have K:=aA (show fF (λk=>w3.heap.size<=k) (f+3) w3 (.agg #[(0:Int),(0:Int),()]) gX from⟨none,0,0,rfl,Sl.nil0,λh=>absurd h (by omega)⟩);have o:=E.o.lt;obtain⟨u0,u1,u2⟩:=E.o.three;have fz:=λj=>E.o.frozen j
  have z:=aA (dR (w:=w) K.o E.o (aH _ _) D.o (by omega) (by omega));clear o;go_wp2
  generalize (((w3.setCell ⟨w.heap.size+1,0,none⟩ (.int .i64 0)).setCell ⟨w.heap.size+1,1,none⟩ (.int .i64 0)).setCell ⟨w.heap.size+1,2,none⟩ ())=i at *
  obtain⟨z0,L,M⟩:=z.o.1.three;exact aU (v:=.tuple #[.agg #[(0:Int),(0:Int),()],.bool false]) (by simp[results,Tryz.results69,go_sem,z0,L,M]) rfl (u.o.2 _ NO.o z.o.2.1 z.o.2.2)
 .have a1:¬(m:Int)<2:=by omega
  have N:=aA (show 2<=(dY (j3 p) p.labels).length by rw[ML.o];omega);have O:=aA (mQ IG.o (Ij (bx:=w.heap.size) (bf:=R.heap.size) (H.o.keep D.o) (by rw[<-b.o];exact X2.o) TB.o));obtain⟨v,hv⟩:=aK ((dY (j3 p) p.labels).any (Ph p));have HV:=aA hv;rw[hv]at O;clear J hv;cases v
  rotate_left
  .have NO:=aA (show ¬rS p from λh=>by
    obtain⟨g,hg,hw⟩:=dO.1 HV.o;have:=kY.1 h.2 g hg;unfold Ph at hw;cases F:iS g p.first <;> cases G:iS g p.last <;> simp[F,G]at this hw)
   go_wp2_with fail
   refine O.o.mono ?_;rintro e i ⟨rfl,d⟩;have T:=aA (D.o.trans (d.mono D.o.size));have B:=aA (E.o.keep d);clear d O;have K:=aA (show fF (λk=>i.heap.size<=k) (f+3) i (.agg #[(0:Int),(0:Int),()]) gX from⟨none,0,0,rfl,Sl.nil0,λh=>absurd h (by omega)⟩);have o:=B.o.lt;obtain⟨u0,u1,u2⟩:=B.o.three;have fz:=λj=>B.o.frozen j
   have z:=aA (dR (w:=w) K.o B.o (aH _ _) T.o (by omega) (by omega));clear o;go_wp2
   generalize (((i.setCell ⟨w.heap.size+1,0,none⟩ (.int .i64 0)).setCell ⟨w.heap.size+1,1,none⟩ (.int .i64 0)).setCell ⟨w.heap.size+1,2,none⟩ ())=i at *
   obtain⟨z0,L,M⟩:=z.o.1.three;exact aU (v:=.tuple #[.agg #[(0:Int),(0:Int),()],.bool false]) (by simp[results,Tryz.results69,go_sem,z0,L,M]) rfl (u.o.2 _ NO.o z.o.2.1 z.o.2.2)
  have a2:=aA (show rS p from⟨N.o,by
   rw[kY];intro g hg;have:=iC.1 HV.o g hg;unfold Ph at this;cases F:iS g p.first <;> cases G:iS g p.last <;> simp[F,G]at this ⊢⟩)
  go_wp2_with fail
  refine O.o.mono ?_;rintro e i ⟨rfl,d⟩;have T:=aA (D.o.trans (d.mono D.o.size));have r:=aA (X2.o.keep d);have B:=aA (E.o.keep d);have a3:=aA (Sl.keep cS.kept IG.o d);have x0:i.cell? w=some (.slice A n c):=(r.o.cell 0).trans (by rw[b.o];rfl);have x1:i.cell? ⟨w,1,none⟩=some (.slice A1 n1 c1):=(r.o.cell 1).trans (by rw[b.o];rfl);have x2:i.cell? ⟨w,2,none⟩=some (.slice A2 n2 c2):=(r.o.cell 2).trans (by rw[b.o];rfl);have x3:i.cell? ⟨w,3,none⟩=some (.slice A3 n3 c3):=(r.o.cell 3).trans (by rw[b.o];rfl);have x4:i.cell? ⟨w,4,none⟩=some (.slice A4 n4 c4):=(r.o.cell 4).trans (by rw[b.o];rfl);have CP:=aA (vB a0.o (H.o.keep T.o) a3.o 5 (λgx a4=>Y.o.onto X.o N.o a4) HM.o Z.o.1);rw[show(bH.mk 5 0 ((dY (j3 p) p.labels).map λg=>aX f (fY log g)))=lQ f log p from rfl]at CP;clear d O;go_wp2_with fail
  refine CP.o.mono ?_;rintro e w6 ⟨v6,rfl,⟨U,V,W,rfl,s6,p6⟩,C⟩;have r:=aA (B.o.keep C);have K:=aA (show fF (λk=>i.heap.size<=k) (f+3) w6 (.agg #[.int .i64 (lQ f log p).kind,.int .i64 (lQ f log p).label,.slice U V W]) (lQ f log p)from⟨U,V,W,rfl,s6,p6⟩);generalize (lQ f log p).kind=P at *
  generalize (lQ f log p).label=Q at *
  have D6:=aA C;have o:=B.o.lt;obtain⟨u0,u1,u2⟩:=r.o.three;have fz:=λj=>r.o.frozen j
  have W7:=aA (dR (w:=w) K.o r.o D6.o T.o (by omega) (by omega));clear s6 p6 C o CP;go_wp2
  generalize (((w6.setCell ⟨w.heap.size+1,0,none⟩ P).setCell ⟨w.heap.size+1,1,none⟩ Q).setCell ⟨w.heap.size+1,2,none⟩ (.slice U V W))=w7 at *
  obtain⟨z0,L,M⟩:=W7.o.1.three;exact aU (v:=.tuple #[.agg #[P,Q,.slice U V W],.bool true]) (by simp[results,Tryz.results69,go_sem,z0,L,M]) rfl (u.o.1 _ a2.o W7.o.2.1 W7.o.2.2)
def Ym (log:LLi)(A:OAd)(n c:Nat)(w:World)(e:Ending)(w':World):Prop :=
 ∃(p:bI) (A1 A2 A3 A4:OAd) (n1 c1 n2 c2 n3 c3 n4 c4:Nat),e=.returned (zW A A1 A2 A3 A4 n c n1 c1 n2 c2 n3 c3 n4 c4)/\Nc w' A A1 A2 A3 A4 n c n1 c1 n2 c2 n3 c3 n4 c4 log p/\eZ log p/\Below w.heap.size w w'
def Box.set5m {w:World}{b ty:Nat}{u0 u1 u2 u3 u4:Value}(h:Box w b ty #[u0,u1,u2,u3,u4])(v0 v1 v2 v3 v4:Value):Box (((((w.setCell b v0).setCell ⟨b,1,none⟩ v1).setCell ⟨b,2,none⟩ v2).setCell ⟨b,3,none⟩ v3).setCell ⟨b,4,none⟩ v4) b ty #[v0,v1,v2,v3,v4]:=by
 have:=((((h.set 0 v0).set 1 v1).set 2 v2).set 3 v3).set 4 v4;simpa using this
def Pi (w:World)(b:Nat)(v0 v1 v2 v3 v4:Value):w.grownBy (((((w.setCell b v0).setCell ⟨b,1,none⟩ v1).setCell ⟨b,2,none⟩ v2).setCell ⟨b,3,none⟩ v3).setCell ⟨b,4,none⟩ v4) (some b) :=
 ((mK w b v0 v1 v2).trans (dI _ b 3 v3)).trans (dI _ b 4 v4)
def wN {P:Nat->Prop}{w:World}{d:Nat}{k1 l m o:Int}{S1 S2:OAd}{b f g k:Nat}{t T2:bH}(y:fF P d w (.agg #[k1,l,.slice S1 b f]) t)(z:fF P d w (.agg #[m,o,.slice S2 g k]) T2) :
  Sl (qM P (d+1)) 3 (w.alloc (.cells #[k1,l,.slice S1 b f,m,o,.slice S2 g k] 35)) (some ⟨w,0,none⟩) 2 2 [t,T2]:=by
 have u:=aF w (.cells #[k1,l,.slice S1 b f,m,o,.slice S2 g k] 35);have q:=Box.new w #[k1,l,.slice S1 b f,m,o,.slice S2 g k] 35;obtain⟨A,n,c,e,s,p⟩:=y.keep u;obtain⟨I,J,K,v,B,C⟩:=z.keep u;simp only[Value.agg.injEq,Array.mk.injEq,List.cons.injEq,Value.int.injEq,Value.slice.injEq,true_and,and_true]at e v;obtain⟨a1,a2,a3,a4,a5⟩:=e;obtain⟨D,E,F,G,H⟩:=v;subst a3 a4 a5 F G H;refine⟨rfl,aB _,by simp[maxLen],by omega,λh=>(by cases h),λ_=>⟨w.heap.size,0,rfl,q.lt,λi x a=>?_⟩⟩;match i,a with
 | 0,a =>
  injection a with a;subst a;refine⟨vs3 k1 l (.slice S1 b f),λj r=>?_,by rw[a1];rfl,by rw[a2];rfl,S1,b,f,rfl,s,p⟩;rw[show 0+(0*3+j)=j by omega,q.cell j];match j,r with
  | 0,_=>rfl
  | 1,_=>rfl
  | 2,_=>rfl
 | 1,a =>
  injection a with a;subst a;refine⟨vs3 m o (.slice S2 g k),λj r=>?_,by rw[D];rfl,by rw[E];rfl,S2,g,k,rfl,B,C⟩;rw[show 0+(1*3+j)=3+j by omega,q.cell (3+j)];match j,r with
  | 0,_=>rfl
  | 1,_=>rfl
  | 2,_=>rfl
 | i+2,a=>simp at a
def Pj {w:World}{A:OAd}{m d b ty:Nat}{l:LIn}{cs:Array Value}(i:aY w A m d l)(x:Box w b ty cs)(c:∀(j:Nat) (z:Int),cs[j]?≠some (Value.int .i64 z))(g:0<m):∀a,A=some a->a.block≠b:=λa f e=>by
 obtain⟨h,k,y,rfl,_,_,q⟩:=aY.get i g;injection f with f;subst f;change h=b at e
 subst e;rw[x.cell]at q;exact c _ _ q
def Ks {w:World}{A:OAd}{m d b ty:Nat}{l:List (Int×Int)}{cs:Array Value}(i:zO w A m d l)(x:Box w b ty cs)(c:∀(j:Nat) (z:Int),cs[j]?≠some (Value.int .i64 z))(g:0<m):∀a,A=some a->a.block≠b:=λa f e=>by
 obtain⟨h,k,t,vs,rfl,_,_,n,e0,_⟩:=Sl.get i g;injection f with f;subst f;change h=b at e
 subst e;have:=n 0 (by omega);rw[x.cell,e0]at this;exact c _ _ this
def Pl {w:World}{A:OAd}{n c:Nat}{log:LLi}(h:cQ w A n c log)(K:eI log=0) :
  Calls Tryz.prog 63 #[.slice A n c] w (Ym log A n c w):=by
 have q:=aA (aF w (.cells #[(),(),(),(),()] 125));have T:=aA (Box.new w #[(),(),(),(),()] 125);have H:=aA (Sl.keep cS.kept h q.o);have U:=aA K;have V:=aA h;have L:=aA (zP (Sl.keep cS.kept h q.o));clear h K;go_enter Tryz.func63,Tryz.ntmps63
 go_upto_region 1 with fail
 generalize E:w.alloc (.cells #[(),(),(),(),()] 125)=w1 at *
 clear E;go_wp2_with fail
 refine L.o.mono ?_;rintro e s ⟨p,er,A1,A2,A3,A4,n1,c1,n2,c2,n3,c3,n4,c4,t,rfl,M,N,O,P,g⟩;have W:=aA (show eZ log p from by have:=t.2;rwa[aG U.o]at this);have Q:=aA (aF s (.cells #[.slice A1 n1 c1,.slice A2 n2 c2,.slice A3 n3 c3,.slice A4 n4 c4] 123));have B2:=aA (g.trans (Q.o.mono g.size));have o:=aA (show Nc (s.alloc (.cells #[.slice A1 n1 c1,.slice A2 n2 c2,.slice A3 n3 c3,.slice A4 n4 c4] 123)) A A1 A2 A3 A4 n c n1 c1 n2 c2 n3 c3 n4 c4 log p from⟨Sl.keep cS.kept H.o B2.o,(PrI.mk M N O P).keep Q.o⟩);have X:=aA (Box.new s #[.slice A1 n1 c1,.slice A2 n2 c2,.slice A3 n3 c3,.slice A4 n4 c4] 123);have f:=aA (T.o.keep B2.o);clear t M N O P g L;go_upto_region 2 with fail
 generalize s.alloc (.cells #[.slice A1 n1 c1,.slice A2 n2 c2,.slice A3 n3 c3,.slice A4 n4 c4] 123)=F at *
 generalize s.heap.size=bx at *
 obtain⟨t0,t1,t2,t3⟩:=X.o.four;have x0:=f.o.cell 0;have x1:=f.o.cell 1;have x2:=f.o.cell 2;have x3:=f.o.cell 3;have x4:=f.o.cell 4;have fz:=λj=>f.o.frozen j
 have u:=aA (f.o.set5m (.slice A n c) (.slice A1 n1 c1) (.slice A2 n2 c2) (.slice A3 n3 c3) (.slice A4 n4 c4));have x:=aA (Pi F w (.slice A n c) (.slice A1 n1 c1) (.slice A2 n2 c2) (.slice A3 n3 c3) (.slice A4 n4 c4));go_wp2
 generalize (((((F.setCell w (.slice A n c)).setCell ⟨w,1,none⟩ (.slice A1 n1 c1)).setCell ⟨w,2,none⟩ (.slice A2 n2 c2)).setCell ⟨w,3,none⟩ (.slice A3 n3 c3)).setCell ⟨w,4,none⟩ (.slice A4 n4 c4))=G at *
 have z0:=u.o.cell 0;have Y:=u.o.cell 1;have Z:=u.o.cell 2;have z3:=u.o.cell 3;have z4:=u.o.cell 4;have R:Below w w G:=(q.o.trans (B2.o.mono q.o.size)).grown x.o (aT q.o.size B2.o.size) (λk S=>by injection S with S;omega);have y:∀(j:Nat) (z:Int),(#[(),(),(),(),()]:Array Value)[j]?≠some (Value.int .i64 z):=λj z e=>by
  match j,e with
  | 0,e=>cases e
  | 1,e=>cases e
  | 2,e=>cases e
  | 3,e=>cases e
  | 4,e=>cases e
  | j+5,e=>simp at e
 have ne:∀{A:OAd} {m d:Nat} {l:LIn},aY F A m d l->aY G A m d l:=λi=>aY.same i x.o.size (λb I e D J=>x.o.block b J (λB=>by
  injection B with B;exact Pj i f.o y D _ e B))
 have np:zO G A4 n4 c4 p.behind:=o.o.ip.i4.far x.o.size (λD a C=>by
  obtain⟨b,I,e,J,_⟩:=o.o.ip.i4.cells D;have h1:=Ks o.o.ip.i4 f.o y D a C;rw[e]at C;injection C with C;subst C;exact x.o.block b J (λB=>h1 (by injection B))) (λ_ _ r=>r)
 exact aU (v:=.agg #[.slice A n c,.slice A1 n1 c1,.slice A2 n2 c2,.slice A3 n3 c3,.slice A4 n4 c4]) (by simp[results,Tryz.results63,go_sem,z0,Y,Z,z3,z4]) rfl ⟨p,A1,A2,A3,A4,n1,c1,n2,c2,n3,c3,n4,c4,rfl,⟨Sl.keep cS.kept V.o R,ne o.o.ip.i1,ne o.o.ip.i2,ne o.o.ip.i3,np⟩,W.o,R⟩
section
variable {f:Nat} {log full:LLi} {p:bI}
def Il (h:(bF log).length=0):aX (f+1) log=bE:=by rw[aX,aG h]
def Im (a:(bF log).length≠0)(h:(bF log).length<log.length):aX (f+1) log=.mk 4 0 [bE,aX f (bF log)]:=by rw[aX,aD a,aG h]
def Dw (a:(bF log).length≠0)(h:¬(bF log).length<log.length):aX (f+1) log=vA (aX f) (bF log):=by rw[aX,aD a,aD h]
variable (hp:eZ full p)
include hp
def Dx (a:p.labels.length=1)(b:full.any (λt=>decide (1<t.length))=true):vA (aX f) full=.mk 6 0 [dZ (p.labels.headD 0),bE]:=by
 unfold vA;rw[sO hp,aG a,aG b]
def Dy (a:p.labels.length=1)(b:full.any (λt=>decide (1<t.length))=false):vA (aX f) full=dZ (p.labels.headD 0):=by
 unfold vA;rw[sO hp,aG a,aD (by rw[b];exact λh=>(by cases h))]
def xK (a:p.labels.length≠1)(h:2<=(dY (bhB p) p.labels).length):vA (aX f) full=.mk 4 0 ((dY (bhB p) p.labels).map λg=>aX f (full.filter λt=>inS g (t.headD 0))):=by
 unfold vA;rw[sO hp,aD a,aG h]
def Io (a:p.labels.length≠1)(h:¬2<=(dY (bhB p) p.labels).length)(b:Gy p):vA (aX f) full=wK f full p:=by
 unfold vA;rw[sO hp,aD a,aD h,aG (show 2<=(dY (cY (dE p)) p.labels).length from b)];rfl
def Dz (a:p.labels.length≠1)(h:¬2<=(dY (bhB p) p.labels).length)(b:¬Gy p)(c:rS p):vA (aX f) full=lQ f full p:=by
 unfold vA;rw[sO hp,aD a,aD h,aD (show ¬2<=(dY (cY (dE p)) p.labels).length from b),aG (show 2<=(dY (j3 p) p.labels).length/\((dY (j3 p) p.labels).all λg=>iS g p.first&&iS g p.last)=true from c)];rfl
def DG (a:p.labels.length≠1)(h:¬2<=(dY (bhB p) p.labels).length)(b:¬Gy p)(c:¬rS p):vA (aX f) full=.mk 6 0 [bE,.mk 4 0 (p.labels.map dZ)]:=by
 unfold vA;rw[sO hp,aD a,aD h,aD (show ¬2<=(dY (cY (dE p)) p.labels).length from b),aD (show ¬(2<=(dY (j3 p) p.labels).length/\((dY (j3 p) p.labels).all λg=>iS g p.first&&iS g p.last)=true)from c)]
end
def fF.flat {P:Nat->Prop}{w:World}{d d':Nat}{v:Value}{T:bH}(h:fF P d w v T)(a:T.kids=[]):fF P d' w v T:=by
 obtain⟨A,n,c,e,s,p⟩:=h;have b:n=0:=by rw[<-s.len,a];rfl
 exact⟨A,n,c,e,⟨s.len,s.le,s.cap,s.small,s.nul,λh=>absurd h (by omega)⟩,p⟩
def fF.of_ans {w w0 w':World}{d:Nat}{v:Value}{T:bH}(h:fF (λk=>w.heap.size<=k) d w' v T)(a:Below w0 w0 w):fF (λk=>w0.heap.size<=k) d w' v T:=h.wide (λ_ _ b=>aT a.size b)
def Kt {f:Nat}(IH:zX f):zX (f+1):=λw A n c log h hf=>by
 have c6:=aA IH;have HF:=aA hf;have NN:=aA (show n<=60 by rw[<-h.len];exact hf.n);have HL:=aA h.len;have B0:=aA (aF w (.cells #[(0:Int),(0:Int),()] 35));have X0:=aA (Box.new w #[(0:Int),(0:Int),()] 35);have CC:=aA (qU (Sl.keep cS.kept h B0.o) (by have:=NN.o;omega));clear h hf IH;go_enter Tryz.func23,Tryz.ntmps23
 go_upto_region 1 with fail
 generalize w.alloc (.cells #[(0:Int),(0:Int),()] 35)=w1 at *
 go_wp2_with fail
 refine CC.o.mono ?_;rintro e w2 ⟨v2,rfl,g1,h5⟩;have h7:=g1.lt;have CD:=aA (Dv (F:=60) (cv:=#[]) (q:=rQ) g1 (by have:=NN.o;omega) (aB _) (λargs w=>by kernel_rfl) (λgr _=>Pe w2 gr log));have B2:=aA h5;have k9:=aA h7;clear g1 h5 h7 CC;go_wp2_with fail
 refine CD.o.mono ?_;rintro e w3 ⟨A3,k,c3,rfl,f3,h8⟩;rw[show(log.filter λa=>!rQ a)=bF log from rfl]at f3;have D3:=aA (show Below w1 w1 w3 from B2.o.grown h8 B2.o.size (λq hq=>(k9.o q hq).1));have KL:=aA (show(bF log).length=k from f3.len);have KN:=aA (show k<=60 by rw[<-KL.o];exact aT (fC _ _) HF.o.n);obtain⟨A4,c4,e4,i0⟩:=nY.lists f3 (by have:=KN.o;omega);injection e4 with l0 _ l1;subst l0 l1;have IL:=aA i0;have D0:=aA (B0.o.trans (D3.o.mono B0.o.size));have X3:=aA (X0.o.keep D3.o);have W1:=aA (show w.heap.size<w1.heap.size from X0.o.lt);clear f3 h8 i0 CD;by_cases e0:k=0
 .have EQ:=aA (Il (f:=f) (log:=log) (by rw[KL.o];exact e0));have CS:=aA (nM w3 (f+3));have l2:((k:Int)==0)=true:=by simp[e0]
  have FB:=aA (show ∀(w':World) (v:Value),fF (λj=>w.heap.size<=j) (f+3) w' v (bE)->Below w w w'->iT (f+1+2) (aX (f+1) log) w (.returned v) w' from λw' v hb hw=>⟨v,rfl,by rw[EQ.o];exact hb,hw⟩);clear e0;go_wp2_with fail
  refine CS.o.mono ?_;rintro e w4 ⟨v4,rfl,⟨E,G,H,rfl,s4,p4⟩,Q⟩;have b3:=aA (show fF (λq=>w3.heap.size<=q) (f+3) w4 (.agg #[.int .i64 (bE).kind,.int .i64 (bE).label,.slice E G H]) (bE)from⟨E,G,H,rfl,s4,p4⟩);obtain⟨b4,b⟩:=bS ((bE).kind);obtain⟨b5,d⟩:=bS ((bE).label);rw[<-b,<-d]at b3;rw[<-b,<-d];have a0:=aA Q;clear s4 p4 Q b d;have X4:=aA (X3.o.keep a0.o);obtain⟨u0,u1,u2⟩:=X4.o.three;have fz:=λq=>X4.o.frozen q
  have D:=aA (dR (w:=w) b3.o X4.o a0.o D0.o (bD W1.o D3.o.size) (aB _));go_wp2
  generalize (((w4.setCell w b4).setCell ⟨w,1,none⟩ b5).setCell ⟨w,2,none⟩ (.slice E G H))=ww at *
  obtain⟨z0,z1,z2⟩:=D.o.1.three;exact aU (v:=.agg #[b4,b5,.slice E G H]) (by simp[results,Tryz.results23,go_sem,z0,z1,z2]) rfl (FB.o ww _ D.o.2.1 D.o.2.2)
 have l2:((k:Int)==0)=false:=by simp;omega
 have i1:=aA (show(bF log).length≠0 by rw[KL.o];exact e0);clear e0;by_cases d4:k<n
 .have EQ:=aA (Im (f:=f) i1.o (by rw[KL.o,HL.o];exact d4));have FB:=aA (show ∀(w':World) (v:Value),fF (λj=>w.heap.size<=j) (f+3) w' v (.mk 4 0 [bE,aX f (bF log)])->Below w w w'->iT (f+1+2) (aX (f+1) log) w (.returned v) w' from λw' v hb hw=>⟨v,rfl,by rw[EQ.o];exact hb,hw⟩);have CS:=aA (nM w3 (f+2));have FF:=aA (HF.o.full (by rw[KL.o,HL.o];exact d4));have i2:(k:Int)<(n:Int):=by omega
  clear d4;go_wp2_with fail
  refine CS.o.mono ?_;rintro e w4 ⟨v4,rfl,⟨E,G,H,rfl,s4,p4⟩,Q⟩;have b3:=aA (show fF (λq=>w3.heap.size<=q) (f+2) w4 (.agg #[.int .i64 (bE).kind,.int .i64 (bE).label,.slice E G H]) (bE)from⟨E,G,H,rfl,s4,p4⟩);obtain⟨b4,b⟩:=bS ((bE).kind);obtain⟨b5,d⟩:=bS ((bE).label);rw[<-b,<-d]at b3;rw[<-b,<-d];have a0:=aA Q;clear s4 p4 Q b d;have CF:=aA (c6.o w4 A3 k c3 (bF log) (Sl.keep cS.kept IL.o a0.o) FF.o);go_wp2_with fail
  refine CF.o.mono ?_;rintro e w5 ⟨v5,rfl,⟨a2,a3,a4,rfl,s5,p5⟩,e1⟩;have e2:=aA (show fF (λq=>w4.heap.size<=q) (f+2) w5 (.agg #[.int .i64 (aX f (bF log)).kind,.int .i64 (aX f (bF log)).label,.slice a2 a3 a4]) (aX f (bF log))from⟨a2,a3,a4,rfl,s5,p5⟩);obtain⟨e3,b⟩:=bS ((aX f (bF log)).kind);obtain⟨e5,d⟩:=bS ((aX f (bF log)).label);rw[<-b,<-d]at e2;rw[<-b,<-d];have i3:=aA e1;clear s5 p5 e1 b d;have g2:=aA (a0.o.trans (i3.o.mono a0.o.size));have RW:=aA (wN (b3.o.keep i3.o) (e2.o.of_ans a0.o));have BR:=aA (aF w5 (.cells #[b4,b5,.slice E G H,e3,e5,.slice a2 a3 a4] 35));have l3:=aA (g2.o.trans (BR.o.mono g2.o.size));have CB:=aA (kR 4 RW.o (λ_ a ha=>by injection ha with ha;subst ha;exact g2.o.size) l3.o);go_wp2_with fail
  generalize w5.alloc (.cells #[b4,b5,.slice E G H,e3,e5,.slice a2 a3 a4] 35)=f4 at *
  refine CB.o.mono ?_;rintro e w6 ⟨h6,_⟩;obtain⟨v6,rfl,⟨N,O,P,rfl,s6,p6⟩,e6⟩:=h6;have f5:=aA (show fF (λq=>w3.heap.size<=q) (f+3) w6 (.agg #[.int .i64 (bH.mk 4 0 [bE,aX f (bF log)]).kind,.int .i64 (bH.mk 4 0 [bE,aX f (bF log)]).label,.slice N O P]) (.mk 4 0 [bE,aX f (bF log)])from⟨N,O,P,rfl,s6,p6⟩);generalize (bH.mk 4 0 [bE,aX f (bF log)]).kind=a5 at *
  generalize (bH.mk 4 0 [bE,aX f (bF log)]).label=a6 at *
  have d5:=aA e6;clear s6 p6 e6;have X6:=aA (X3.o.keep d5.o);obtain⟨u0,u1,u2⟩:=X6.o.three;have fz:=λq=>X6.o.frozen q
  have D:=aA (dR (w:=w) f5.o X6.o d5.o D0.o (bD W1.o D3.o.size) (aB _));go_wp2
  generalize (((w6.setCell w a5).setCell ⟨w,1,none⟩ a6).setCell ⟨w,2,none⟩ (.slice N O P))=ww at *
  obtain⟨z0,z1,z2⟩:=D.o.1.three;exact aU (v:=.agg #[a5,a6,.slice N O P]) (by simp[results,Tryz.results23,go_sem,z0,z1,z2]) rfl (FB.o ww _ D.o.2.1 D.o.2.2)
 have d6:=aA (Dw (f:=f) i1.o (by rw[KL.o,HL.o];exact d4));have i2:¬(k:Int)<(n:Int):=by omega
 have i4:=aA (Dq (log:=log) (by rw[KL.o,HL.o];exact d4));have FU:=aA (show vZ (f+1) (bF log) by rw[i4.o];exact HF.o);have HE:=aA (show ∀t∈bF log,t.length≠0 from λt ht=>(pE.1 ht).2);have CO:=aA (Pl IL.o FU.o.1);clear d4;go_wp2_with fail
 refine CO.o.mono ?_;rintro e w4 ⟨p,A1,A2,u,A4,n1,c1,n2,c2,n3,z,n4,c4,rfl,li,sp,Q⟩;have SP:=aA sp;have i9:=aA (aF w4 (.cells #[.slice A3 k c3,.slice A1 n1 c1,.slice A2 n2 c2,.slice u n3 z,.slice A4 n4 c4] 125));have g3:=aA (Q.trans (i9.o.mono Q.size));have LI:=aA (li.keep i9.o);have TB:=aA (Box.new w4 #[.slice A3 k c3,.slice A1 n1 c1,.slice A2 n2 c2,.slice u n3 z,.slice A4 n4 c4] 125);have X5:=aA (X3.o.keep g3.o);have l4:=aA (Sl.keep cS.kept IL.o g3.o);have D5:=aA (D0.o.trans (g3.o.mono D0.o.size));have W5:=aA (show w.heap.size<(w4.alloc (.cells #[.slice A3 k c3,.slice A1 n1 c1,.slice A2 n2 c2,.slice u n3 z,.slice A4 n4 c4] 125)).heap.size from X5.o.lt);have LN:=aA (show p.labels.length=n1/\n1<=26 from⟨li.ip.i1.len,by rw[<-li.ip.i1.len];exact pD sp.1.1 (sp.lab FU.o.1)⟩);clear li sp Q CO;go_upto_region 7 with fail
 generalize w4.alloc (.cells #[.slice A3 k c3,.slice A1 n1 c1,.slice A2 n2 c2,.slice u n3 z,.slice A4 n4 c4] 125)=w5 at *
 generalize w4.heap.size=bl at *
 have x1:=TB.o.cell 1;by_cases b6:n1=1
 .have j0:=aA (show p.labels.length=1 by rw[LN.o.1];exact b6);have l8:((n1:Int)==1)=true:=by simp[b6]
  have l9:0<n1:=by omega
  obtain⟨b1,j1,a,rfl,g4,ha,q1⟩:=aY.get LI.o.ip.i1 l9;have HA:=aA (show p.labels.headD 0=a from by
   have h1:=ha.o;cases hc:p.labels with
   | nil=>rw[hc]at h1;simp at h1
   | cons x t=>rw[hc]at h1;simpa using h1)
  rw[eP]at q1;have CS:=aA (Ds w5 (f+2) a);clear b6 g4 ha;go_wp2_with fail
  refine CS.o.mono ?_;rintro e w6 ⟨v6,rfl,⟨N,O,P,rfl,s6,p6⟩,e6⟩;have f5:=aA (show fF (λq=>w5.heap.size<=q) (f+2) w6 (.agg #[.int .i64 (dZ a).kind,.int .i64 (dZ a).label,.slice N O P]) (dZ a)from⟨N,O,P,rfl,s6,p6⟩);obtain⟨a5,b⟩:=bS ((dZ a).kind);obtain⟨a6,d⟩:=bS ((dZ a).label);rw[<-b,<-d]at f5;rw[<-b,<-d];have d5:=aA e6;clear s6 p6 e6 b d;have j2:=aA (aF w6 (.cells #[a5,a6,.slice N O P] 35));have TS:=aA (Box.new w6 #[a5,a6,.slice N O P] 35);have e7:=aA (d5.o.trans (j2.o.mono d5.o.size));have B:=aA (f5.o.keep j2.o);have CT:=aA (mQ (Sl.keep cS.kept l4.o e7.o) (Pg _));have k0:=aA (show w.heap.size≠w6.heap.size by have:=W5.o;have:=d5.o.size;omega);clear x1 q1 CS;go_upto_region 9 with fail
  generalize w6.alloc (.cells #[a5,a6,.slice N O P] 35)=M at *
  generalize w6.heap.size=bs at *
  obtain⟨v,hv⟩:=aK ((bF log).any (λy=>decide (1<y.length)));have HV:=aA hv;rw[hv]at CT;clear hv;cases v
  .have EQ:=aA (show aX (f+1) log=dZ a from by rw[d6.o,Dy SP.o j0.o HV.o,HA.o]);have FB:=aA (show ∀(w':World) (v:Value),fF (λj=>w.heap.size<=j) (f+3) w' v (dZ a)->Below w w w'->iT (f+1+2) (aX (f+1) log) w (.returned v) w' from λw' v hb hw=>⟨v,rfl,by rw[EQ.o];exact hb,hw⟩);go_wp2_with fail
   refine CT.o.mono ?_;rintro e w8 ⟨rfl,a9⟩;have d7:=aA (e7.o.trans (a9.mono e7.o.size));have b0:=aA ((B.o.keep a9).flat (d':=f+3) rfl);have X8:=aA (X5.o.keep d7.o);obtain⟨s0,s1,s2⟩:=(TS.o.keep a9).three;have C:=aA d7.o;clear a9 CT;obtain⟨S,T⟩:=bS (a5);obtain⟨U,V⟩:=bS (a6);obtain⟨W,c7⟩:=bS (N);obtain⟨X,c8⟩:=bS (O);obtain⟨Y,c9⟩:=bS (P);subst T V c7 c8 c9;obtain⟨u0,u1,u2⟩:=X8.o.three;have fz:=λq=>X8.o.frozen q
   have D:=aA (dR (w:=w) b0.o X8.o C.o D5.o W5.o (aB _));go_wp2
   generalize (((w8.setCell w S).setCell ⟨w,1,none⟩ U).setCell ⟨w,2,none⟩ (.slice W X Y))=ww at *
   obtain⟨z0,z1,z2⟩:=D.o.1.three;exact aU (v:=.agg #[S,U,.slice W X Y]) (by simp[results,Tryz.results23,go_sem,z0,z1,z2]) rfl (FB.o ww _ D.o.2.1 D.o.2.2)
  have EQ:=aA (show aX (f+1) log=.mk 6 0 [dZ a,bE]from by rw[d6.o,Dx SP.o j0.o HV.o,HA.o]);have FB:=aA (show ∀(w':World) (v:Value),fF (λj=>w.heap.size<=j) (f+3) w' v (.mk 6 0 [dZ a,bE])->Below w w w'->iT (f+1+2) (aX (f+1) log) w (.returned v) w' from λw' v hb hw=>⟨v,rfl,by rw[EQ.o];exact hb,hw⟩);go_wp2_with fail
  refine CT.o.mono ?_;rintro e w8 ⟨rfl,a9⟩;have g5:=aA (a9.trans ((aH w8 w8).drew.mono a9.size));have d7:=aA (e7.o.trans (g5.o.mono e7.o.size));have b0:=aA (B.o.keep g5.o);have m0:=aA (nM w8.drew (f+2));obtain⟨s0,s1,s2⟩:=(TS.o.keep a9).three;have k1:=aA (TS.o.keep g5.o);have o5:=k0.o;have o4:=Ne.symm k0.o;clear a9 CT;go_wp2_with fail
  go_region_held3 (λw'=>w'.cell? bs=some (.int .i64 a5)/\w'.cell? ⟨bs,1,none⟩=some (.int .i64 a6)/\w'.cell? ⟨bs,2,none⟩=some (.slice N O P))
   (first|go_keep)
   (first
    |(go_at_call 61;(with_reducible refine m0.o.mono ?_);rintro e w9 ⟨v9,rfl,⟨g6,g7,g8,rfl,s9,p9⟩,k2⟩;have k3:=aA (show fF (λq=>w8.drew.heap.size<=q) (f+2) w9 (.agg #[.int .i64 (bE).kind,.int .i64 (bE).label,.slice g6 g7 g8]) (bE)from⟨g6,g7,g8,rfl,s9,p9⟩);obtain⟨m1,b⟩:=bS ((bE).kind);obtain⟨m2,d⟩:=bS ((bE).label);rw[<-b,<-d]at k3;rw[<-b,<-d];have e8:=aA k2;clear s9 p9 k2 b d;have RW:=aA (wN (b0.o.keep e8.o) (k3.o.of_ans d7.o));have BR:=aA (aF w9 (.cells #[a5,a6,.slice N O P,m1,m2,.slice g6 g7 g8] 35));have g9:=aA (d7.o.trans (e8.o.mono d7.o.size));have m3:=aA (g9.o.trans (BR.o.mono g9.o.size));have h0:=aA (kR 6 RW.o (λ_ a ha=>by injection ha with ha;subst ha;exact g9.o.size) m3.o);obtain⟨t0,t1,t2⟩:=(k1.o.keep e8.o).three)
    |(go_at_call 62;(with_reducible refine h0.o.mono ?_);rintro e e9 ⟨⟨m4,rfl,⟨I,J,K,rfl,d0,f0⟩,Z⟩,d3⟩;have b7:=aA (show fF (λq=>w5.heap.size<=q) (f+3) e9 (.agg #[.int .i64 (bH.mk 6 0 [dZ a,bE]).kind,.int .i64 (bH.mk 6 0 [dZ a,bE]).label,.slice I J K]) (.mk 6 0 [dZ a,bE])from⟨I,J,K,rfl,d0,f0⟩);obtain⟨b9,b⟩:=bS ((bH.mk 6 0 [dZ a,bE]).kind);obtain⟨c0,d⟩:=bS ((bH.mk 6 0 [dZ a,bE]).label);rw[<-b,<-d]at b7;rw[<-b,<-d];have f1:=aA Z;obtain⟨q0,q1,q2⟩:=(k1.o.keep (e8.o.trans ((BR.o.trans (d3.mono BR.o.size)).mono e8.o.size))).three;have d1:=aA (X5.o.keep Z);clear d0 f0 Z d3 b d;obtain⟨u0,u1,u2⟩:=d1.o.three;have fz:=λq=>d1.o.frozen q;have D:=aA (dR (w:=w) b7.o d1.o f1.o D5.o W5.o (aB _))))
  go_wp2
  generalize (((e9.setCell w b9).setCell ⟨w,1,none⟩ c0).setCell ⟨w,2,none⟩ (.slice I J K))=ww at *
  obtain⟨z0,z1,z2⟩:=D.o.1.three;exact aU (v:=.agg #[b9,c0,.slice I J K]) (by simp[results,Tryz.results23,go_sem,z0,z1,z2]) rfl (FB.o ww _ D.o.2.1 D.o.2.2)
 have f6:=aA (show p.labels.length≠1 by rw[LN.o.1];exact b6);have l8:((n1:Int)==1)=false:=by simp;omega
 have x0:=TB.o.cell 0;have x2:=TB.o.cell 2;have x3:=TB.o.cell 3;have x4:=TB.o.cell 4;have RB:=aA (Box.new w5 #[Value.func (.func 67) #[zW A3 A1 A2 u A4 k c3 n1 c1 n2 c2 n3 z n4 c4] #[],Value.func (.func 68) #[zW A3 A1 A2 u A4 k c3 n1 c1 n2 c2 n3 z n4 c4] #[],Value.func (.func 69) #[zW A3 A1 A2 u A4 k c3 n1 c1 n2 c2 n3 z n4 c4] #[]] 129);have B6:=aA (aF w5 (.cells #[Value.func (.func 67) #[zW A3 A1 A2 u A4 k c3 n1 c1 n2 c2 n3 z n4 c4] #[],Value.func (.func 68) #[zW A3 A1 A2 u A4 k c3 n1 c1 n2 c2 n3 z n4 c4] #[],Value.func (.func 69) #[zW A3 A1 A2 u A4 k c3 n1 c1 n2 c2 n3 z n4 c4] #[]] 129));have m5:=aA (LI.o.keep B6.o);have X6:=aA (X5.o.keep B6.o);have m6:=aA (TB.o.keep B6.o);have D6:=aA (D5.o.trans (B6.o.mono D5.o.size));have W6:=aA (bD W5.o B6.o.size);clear b6;go_wp2
 clear x0 x1 x2 x3 x4;generalize w5.alloc (.cells #[Value.func (.func 67) #[zW A3 A1 A2 u A4 k c3 n1 c1 n2 c2 n3 z n4 c4] #[],Value.func (.func 68) #[zW A3 A1 A2 u A4 k c3 n1 c1 n2 c2 n3 z n4 c4] #[],Value.func (.func 69) #[zW A3 A1 A2 u A4 k c3 n1 c1 n2 c2 n3 z n4 c4] #[]] 129)=w6 at *
 generalize w5.heap.size=br at *
 go_loopg [60] 3 (λgk m7 wr=>∃q:Nat,m7=.int .i64 (q:Nat)/\Hid (q+gk=3)/\Hid ((0<q->¬2<=(dY (bhB p) p.labels).length)/\(1<q->¬Gy p)/\(2<q->¬rS p))/\Hid (Below w6 w6 wr))
 case atStart=>exact⟨0,rfl,aA (by omega),aA ⟨λh=>absurd h (by omega),λh=>absurd h (by omega),λh=>absurd h (by omega)⟩,aA (aH _ _)⟩
 obtain⟨q,rfl,b2,a1,R⟩:=hrel;have d2:=aA (m5.o.keep R.o);have Xr:=aA (X6.o.keep R.o);have h2:=aA (RB.o.keep R.o);have Dr:=aA (D6.o.trans (R.o.mono D6.o.size));have Wr:=aA (bD W6.o R.o.size);by_cases hq:q<3
 rotate_left
 .obtain rfl:q=3:=by have:=b2.o;omega
  have EQ:=aA (show aX (f+1) log=.mk 6 0 [bE,.mk 4 0 (p.labels.map dZ)]from by rw[d6.o,DG SP.o f6.o (a1.o.1 (by omega)) (a1.o.2.1 (by omega)) (a1.o.2.2 (by omega))]);have FB:=aA (show ∀(w':World) (v:Value),fF (λj=>w.heap.size<=j) (f+3) w' v (.mk 6 0 [bE,.mk 4 0 (p.labels.map dZ)])->Below w w w'->iT (f+1+2) (aX (f+1) log) w (.returned v) w' from λw' v hb hw=>⟨v,rfl,by rw[EQ.o];exact hb,hw⟩);have x1:=((m6.o.keep R.o).cell 1);clear hq b2 a1;obtain⟨wE,m8⟩:∃x:World,x=wr:=⟨_,rfl⟩;subst m8;obtain⟨go,n5⟩:∃x:Nat,x=gk:=⟨_,rfl⟩;subst n5;go_wp2
  go_loopg [10,76] n1 (λgk d0 n6 wr=>∃v j,v=d0/\n6=.int .i64 (j:Nat)/\Hid (j+gk=n1)/\Hid (jE wr wE (f+2) v j ((p.labels.take j).map dZ))/\Hid (Below wE wE wr))
  case atStart=>exact⟨_,0,rfl,rfl,aA (by omega),aA aJ.nil,aA (aH _ _)⟩
  obtain⟨v,j,rfl,rfl,b2,OB,DB⟩:=hrel;by_cases hj:j<n1
  .have n7:(j:Int)<(n1:Int):=by omega
   obtain⟨b1,j1,a,rfl,g4,ha,q1⟩:=aY.get (d2.o.ip.i1.keep DB.o) hj;have HJ:=aA (show gk-1<gk/\(j+1)+(gk-1)=n1/\j<=26 by have:=b2.o;have:=LN.o;omega);have o6:IntKind.i64.wrap ((j:Int)+1)=((j+1:Nat):Int):=by
    have:=HJ.o;simp[IntKind.wrap,IntKind.bits,IntKind.signed];omega
   have CS:=aA (Ds wr (f+1) a);clear g4;go_wp2_with fail
   refine CS.o.mono ?_;rintro e M ⟨v7,rfl,⟨i,l,m,rfl,s7,p7⟩,o⟩;have KO:=aA (Q6 OB.o DB.o.size s7 p7);have k4:=aA (OB.o.keep o);have D3:=aA (DB.o.trans (o.mono DB.o.size));have k5:=D3.o.size;have n9:j<=100:=by have:=HJ.o;omega
   have TK:=aA (show(p.labels.take (j+1)).map dZ=(p.labels.take j).map dZ++[dZ a] by rw[cP,ha.o];simp);obtain⟨o7,b⟩:=bS ((dZ a).kind);obtain⟨o8,d⟩:=bS ((dZ a).label);rw[<-b,<-d];have k6:=aA (And.intro b d);clear s7 p7 o OB b d CS q1;go_wp2_with (at_builtin;refine mF rfl _ _ rfl rfl rfl rfl k4.o k6.o.1 k6.o.2 KO.o.1 KO.o.2 k5 n9 ?_;intro v8 w8 k7 o1;have O8:=aA k7;have D8:=aA (D3.o.grown o1 k5 (λk hk=>(k4.o.lt k hk).1)))
   go_roundg (gk-1)
   case measure=>exact HJ.o.1
   exact⟨v8,j+1,rfl,rfl,aA HJ.o.2.1,aA (by rw[TK.o];exact O8.o),D8⟩
  have n7:¬(j:Int)<(n1:Int):=by omega
  have OF:=aA (show jE wr wE (f+2) v j (p.labels.map dZ)from by
   have:=OB.o;rwa[aW (by have:=LN.o.1;omega)]at this)
  obtain⟨AK,cK,rfl,sK,pK⟩:=OF.o.sl2 (by have:=LN.o;have:=b2.o;omega);have SK:=aA (And.intro sK pK);have CS:=aA (nM wr (f+2));have h3:=aA DB.o;clear sK pK OB hj b2;go_wp2_with fail
  refine CS.o.mono ?_;rintro e w4 ⟨v4,rfl,⟨E,G,H,rfl,s4,p4⟩,Q⟩;have b3:=aA (show fF (λq=>wr.heap.size<=q) (f+2) w4 (.agg #[.int .i64 (bE).kind,.int .i64 (bE).label,.slice E G H]) (bE)from⟨E,G,H,rfl,s4,p4⟩);obtain⟨b4,b⟩:=bS ((bE).kind);obtain⟨b5,d⟩:=bS ((bE).label);rw[<-b,<-d]at b3;rw[<-b,<-d];have a0:=aA Q;clear s4 p4 Q b d;have o2:=aA (h3.o.trans (a0.o.mono h3.o.size));have CB:=aA (kR 4 (SK.o.1.keep (qM.kept _ _) a0.o) SK.o.2 o2.o);clear CS;go_wp2_with fail
  refine CB.o.mono ?_;rintro e f4 ⟨⟨v5,rfl,⟨a2,a3,a4,rfl,s5,p5⟩,e1⟩,g0⟩;have e2:=aA (show fF (λq=>wE.heap.size<=q) (f+2) f4 (.agg #[.int .i64 (bH.mk 4 0 (p.labels.map dZ)).kind,.int .i64 (bH.mk 4 0 (p.labels.map dZ)).label,.slice a2 a3 a4]) (.mk 4 0 (p.labels.map dZ))from⟨a2,a3,a4,rfl,s5,p5⟩);obtain⟨e3,b⟩:=bS ((bH.mk 4 0 (p.labels.map dZ)).kind);obtain⟨e5,d⟩:=bS ((bH.mk 4 0 (p.labels.map dZ)).label);rw[<-b,<-d]at e2;rw[<-b,<-d];have h4:=aA e1;have k8:=aA ((b3.o.of_ans h3.o).keep g0);have RW:=aA (wN k8.o e2.o);have BR:=aA (aF f4 (.cells #[b4,b5,.slice E G H,e3,e5,.slice a2 a3 a4] 35));have o3:=aA (h4.o.trans (BR.o.mono h4.o.size));have h0:=aA (kR 6 RW.o (λ_ a ha=>by injection ha with ha;subst ha;exact h4.o.size) o3.o);clear s5 p5 e1 g0 b d CB;go_wp2_with fail
  generalize f4.alloc (.cells #[b4,b5,.slice E G H,e3,e5,.slice a2 a3 a4] 35)=o9 at *
  refine h0.o.mono ?_;rintro e e9 ⟨⟨m4,rfl,⟨I,J,K,rfl,d0,f0⟩,Z⟩,d3⟩;have b7:=aA (show fF (λq=>wE.heap.size<=q) (f+3) e9 (.agg #[.int .i64 (bH.mk 6 0 [bE,.mk 4 0 (p.labels.map dZ)]).kind,.int .i64 (bH.mk 6 0 [bE,.mk 4 0 (p.labels.map dZ)]).label,.slice I J K]) (.mk 6 0 [bE,.mk 4 0 (p.labels.map dZ)])from⟨I,J,K,rfl,d0,f0⟩);obtain⟨b9,b⟩:=bS ((bH.mk 6 0 [bE,.mk 4 0 (p.labels.map dZ)]).kind);obtain⟨c0,d⟩:=bS ((bH.mk 6 0 [bE,.mk 4 0 (p.labels.map dZ)]).label);rw[<-b,<-d]at b7;rw[<-b,<-d];have f1:=aA Z;have d1:=aA (Xr.o.keep Z);clear d0 f0 Z d3 b d;obtain⟨u0,u1,u2⟩:=d1.o.three;have fz:=λq=>d1.o.frozen q
  have D:=aA (dR (w:=w) b7.o d1.o f1.o Dr.o Wr.o (aB _));go_wp2
  generalize (((e9.setCell w b9).setCell ⟨w,1,none⟩ c0).setCell ⟨w,2,none⟩ (.slice I J K))=ww at *
  obtain⟨z0,z1,z2⟩:=D.o.1.three;exact aU (v:=.agg #[b9,c0,.slice I J K]) (by simp[results,Tryz.results23,go_sem,z0,z1,z2]) rfl (FB.o ww _ D.o.2.1 D.o.2.2)
 rcases(show q=0∨q=1∨q=2 by omega)with rfl|rfl|rfl
 .have y0:=h2.o.cell 0;have HJ:=aA (show gk-1<gk/\1+(gk-1)=3 by have:=b2.o;omega);by_cases hP:2<=(dY (bhB p) p.labels).length
  rotate_left
  .have c5:Hid ((0<1->¬2<=(dY (bhB p) p.labels).length)/\(1<1->¬Gy p)/\(2<1->¬rS p)):=aA ⟨λ_=>hP,λh=>absurd h (by omega),λh=>absurd h (by omega)⟩;have CC:=aA (show Calls Tryz.prog 67 #[zW A3 A1 A2 u A4 k c3 n1 c1 n2 c2 n3 z n4 c4] wr (vE (f+3) false (gX) wr)from by have h9:=tL c6.o d2.o SP.o FU.o HE.o;rwa[mA hP,aD hP]at h9);clear hP hq;go_wp2_with fail
   refine CC.o.mono ?_;rintro e M ⟨v7,rfl,⟨i,l,m,rfl,s7,p7⟩,o⟩;have B:=aA (show fF (λq=>wr.heap.size<=q) (f+3) M (.agg #[.int .i64 (gX).kind,.int .i64 (gX).label,.slice i l m]) (gX)from⟨i,l,m,rfl,s7,p7⟩);obtain⟨r,b⟩:=bS ((gX).kind);obtain⟨s,d⟩:=bS ((gX).label);rw[<-b,<-d]at B;rw[<-b,<-d];have L:=aA (aF M (.cells #[r,s,.slice i l m] 35));have C:=aA (o.trans (L.o.mono o.size));have f2:=aA (R.o.trans (C.o.mono R.o.size));clear s7 p7 o b d CC;go_wp2
   go_roundg (gk-1)
   case measure=>exact HJ.o.1
   exact⟨1,rfl,aA HJ.o.2,c5,f2⟩
  have EQ:=aA (show aX (f+1) log=bH.mk 4 0 ((dY (bhB p) p.labels).map λg=>aX f ((bF log).filter λt=>inS g (t.headD 0)))from by rw[d6.o,xK SP.o f6.o hP]);have FB:=aA (show ∀(w':World) (v:Value),fF (λj=>w.heap.size<=j) (f+3) w' v (bH.mk 4 0 ((dY (bhB p) p.labels).map λg=>aX f ((bF log).filter λt=>inS g (t.headD 0))))->Below w w w'->iT (f+1+2) (aX (f+1) log) w (.returned v) w' from λw' v hb hw=>⟨v,rfl,by rw[EQ.o];exact hb,hw⟩);have CC:=aA (show Calls Tryz.prog 67 #[zW A3 A1 A2 u A4 k c3 n1 c1 n2 c2 n3 z n4 c4] wr (vE (f+3) true (bH.mk 4 0 ((dY (bhB p) p.labels).map λg=>aX f ((bF log).filter λt=>inS g (t.headD 0)))) wr)from by have h9:=tL c6.o d2.o SP.o FU.o HE.o;rwa[mB hP,aG hP]at h9);clear hP hq;go_wp2_with fail
  refine CC.o.mono ?_;rintro e M ⟨v7,rfl,⟨i,l,m,rfl,s7,p7⟩,o⟩;have B:=aA (show fF (λq=>wr.heap.size<=q) (f+3) M (.agg #[.int .i64 (bH.mk 4 0 ((dY (bhB p) p.labels).map λg=>aX f ((bF log).filter λt=>inS g (t.headD 0)))).kind,.int .i64 (bH.mk 4 0 ((dY (bhB p) p.labels).map λg=>aX f ((bF log).filter λt=>inS g (t.headD 0)))).label,.slice i l m]) (bH.mk 4 0 ((dY (bhB p) p.labels).map λg=>aX f ((bF log).filter λt=>inS g (t.headD 0))))from⟨i,l,m,rfl,s7,p7⟩);obtain⟨r,b⟩:=bS ((bH.mk 4 0 ((dY (bhB p) p.labels).map λg=>aX f ((bF log).filter λt=>inS g (t.headD 0)))).kind);obtain⟨s,d⟩:=bS ((bH.mk 4 0 ((dY (bhB p) p.labels).map λg=>aX f ((bF log).filter λt=>inS g (t.headD 0)))).label);rw[<-b,<-d]at B;rw[<-b,<-d];have L:=aA (aF M (.cells #[r,s,.slice i l m] 35));have C:=aA (o.trans (L.o.mono o.size));have TS:=aA (Box.new M #[r,s,.slice i l m] 35);have b0:=aA (B.o.keep L.o);have X8:=aA (Xr.o.keep C.o);clear s7 p7 o b d CC;go_upto_region 16 with fail
  generalize M.alloc (.cells #[r,s,.slice i l m] 35)=w8 at *
  generalize M.heap.size=bz at *
  obtain⟨s0,s1,s2⟩:=TS.o.three;obtain⟨S,T⟩:=bS (r);obtain⟨U,V⟩:=bS (s);obtain⟨W,c7⟩:=bS (i);obtain⟨X,c8⟩:=bS (l);obtain⟨Y,c9⟩:=bS (m);subst T V c7 c8 c9;obtain⟨u0,u1,u2⟩:=X8.o.three;have fz:=λq=>X8.o.frozen q
  have D:=aA (dR (w:=w) b0.o X8.o C.o Dr.o Wr.o (aB _));go_wp2
  generalize (((w8.setCell w S).setCell ⟨w,1,none⟩ U).setCell ⟨w,2,none⟩ (.slice W X Y))=ww at *
  obtain⟨z0,z1,z2⟩:=D.o.1.three;exact aU (v:=.agg #[S,U,.slice W X Y]) (by simp[results,Tryz.results23,go_sem,z0,z1,z2]) rfl (FB.o ww _ D.o.2.1 D.o.2.2)
 .have y0:=h2.o.cell 1;have HJ:=aA (show gk-1<gk/\2+(gk-1)=3 by have:=b2.o;omega);by_cases hP:Gy p
  rotate_left
  .have c5:Hid ((0<2->¬2<=(dY (bhB p) p.labels).length)/\(1<2->¬Gy p)/\(2<2->¬rS p)):=aA ⟨λ_=>a1.o.1 (by omega),λ_=>hP,λh=>absurd h (by omega)⟩;have CC:=aA (show Calls Tryz.prog 68 #[zW A3 A1 A2 u A4 k c3 n1 c1 n2 c2 n3 z n4 c4] wr (vE (f+3) false (gX) wr)from(vF c6.o d2.o SP.o FU.o).mono (λ_ _ h=>h.2 hP));clear hP hq;go_wp2_with fail
   refine CC.o.mono ?_;rintro e M ⟨v7,rfl,⟨i,l,m,rfl,s7,p7⟩,o⟩;have B:=aA (show fF (λq=>wr.heap.size<=q) (f+3) M (.agg #[.int .i64 (gX).kind,.int .i64 (gX).label,.slice i l m]) (gX)from⟨i,l,m,rfl,s7,p7⟩);obtain⟨r,b⟩:=bS ((gX).kind);obtain⟨s,d⟩:=bS ((gX).label);rw[<-b,<-d]at B;rw[<-b,<-d];have L:=aA (aF M (.cells #[r,s,.slice i l m] 35));have C:=aA (o.trans (L.o.mono o.size));have f2:=aA (R.o.trans (C.o.mono R.o.size));clear s7 p7 o b d CC;go_wp2
   go_roundg (gk-1)
   case measure=>exact HJ.o.1
   exact⟨2,rfl,aA HJ.o.2,c5,f2⟩
  have EQ:=aA (show aX (f+1) log=wK f (bF log) p from by rw[d6.o,Io SP.o f6.o (a1.o.1 (by omega)) hP]);have FB:=aA (show ∀(w':World) (v:Value),fF (λj=>w.heap.size<=j) (f+3) w' v (wK f (bF log) p)->Below w w w'->iT (f+1+2) (aX (f+1) log) w (.returned v) w' from λw' v hb hw=>⟨v,rfl,by rw[EQ.o];exact hb,hw⟩);have CC:=aA (show Calls Tryz.prog 68 #[zW A3 A1 A2 u A4 k c3 n1 c1 n2 c2 n3 z n4 c4] wr (vE (f+3) true (wK f (bF log) p) wr)from(vF c6.o d2.o SP.o FU.o).mono (λ_ _ h=>h.1 hP));clear hP hq;go_wp2_with fail
  refine CC.o.mono ?_;rintro e M ⟨v7,rfl,⟨i,l,m,rfl,s7,p7⟩,o⟩;have B:=aA (show fF (λq=>wr.heap.size<=q) (f+3) M (.agg #[.int .i64 (wK f (bF log) p).kind,.int .i64 (wK f (bF log) p).label,.slice i l m]) (wK f (bF log) p)from⟨i,l,m,rfl,s7,p7⟩);obtain⟨r,b⟩:=bS ((wK f (bF log) p).kind);obtain⟨s,d⟩:=bS ((wK f (bF log) p).label);rw[<-b,<-d]at B;rw[<-b,<-d];have L:=aA (aF M (.cells #[r,s,.slice i l m] 35));have C:=aA (o.trans (L.o.mono o.size));have TS:=aA (Box.new M #[r,s,.slice i l m] 35);have b0:=aA (B.o.keep L.o);have X8:=aA (Xr.o.keep C.o);clear s7 p7 o b d CC;go_upto_region 16 with fail
  generalize M.alloc (.cells #[r,s,.slice i l m] 35)=w8 at *
  generalize M.heap.size=bz at *
  obtain⟨s0,s1,s2⟩:=TS.o.three;obtain⟨S,T⟩:=bS (r);obtain⟨U,V⟩:=bS (s);obtain⟨W,c7⟩:=bS (i);obtain⟨X,c8⟩:=bS (l);obtain⟨Y,c9⟩:=bS (m);subst T V c7 c8 c9;obtain⟨u0,u1,u2⟩:=X8.o.three;have fz:=λq=>X8.o.frozen q
  have D:=aA (dR (w:=w) b0.o X8.o C.o Dr.o Wr.o (aB _));go_wp2
  generalize (((w8.setCell w S).setCell ⟨w,1,none⟩ U).setCell ⟨w,2,none⟩ (.slice W X Y))=ww at *
  obtain⟨z0,z1,z2⟩:=D.o.1.three;exact aU (v:=.agg #[S,U,.slice W X Y]) (by simp[results,Tryz.results23,go_sem,z0,z1,z2]) rfl (FB.o ww _ D.o.2.1 D.o.2.2)
 have y0:=h2.o.cell 2;have HJ:=aA (show gk-1<gk/\3+(gk-1)=3 by have:=b2.o;omega);by_cases hP:rS p
 rotate_left
 .have c5:Hid ((0<3->¬2<=(dY (bhB p) p.labels).length)/\(1<3->¬Gy p)/\(2<3->¬rS p)):=aA ⟨λ_=>a1.o.1 (by omega),λ_=>a1.o.2.1 (by omega),λ_=>hP⟩;have CC:=aA (show Calls Tryz.prog 69 #[zW A3 A1 A2 u A4 k c3 n1 c1 n2 c2 n3 z n4 c4] wr (vE (f+3) false (gX) wr)from(tM c6.o d2.o SP.o FU.o).mono (λ_ _ h=>h.2 hP));clear hP hq;go_wp2_with fail
  refine CC.o.mono ?_;rintro e M ⟨v7,rfl,⟨i,l,m,rfl,s7,p7⟩,o⟩;have B:=aA (show fF (λq=>wr.heap.size<=q) (f+3) M (.agg #[.int .i64 (gX).kind,.int .i64 (gX).label,.slice i l m]) (gX)from⟨i,l,m,rfl,s7,p7⟩);obtain⟨r,b⟩:=bS ((gX).kind);obtain⟨s,d⟩:=bS ((gX).label);rw[<-b,<-d]at B;rw[<-b,<-d];have L:=aA (aF M (.cells #[r,s,.slice i l m] 35));have C:=aA (o.trans (L.o.mono o.size));have f2:=aA (R.o.trans (C.o.mono R.o.size));clear s7 p7 o b d CC;go_wp2
  go_roundg (gk-1)
  case measure=>exact HJ.o.1
  exact⟨3,rfl,aA HJ.o.2,c5,f2⟩
 have EQ:=aA (show aX (f+1) log=lQ f (bF log) p from by rw[d6.o,Dz SP.o f6.o (a1.o.1 (by omega)) (a1.o.2.1 (by omega)) hP]);have FB:=aA (show ∀(w':World) (v:Value),fF (λj=>w.heap.size<=j) (f+3) w' v (lQ f (bF log) p)->Below w w w'->iT (f+1+2) (aX (f+1) log) w (.returned v) w' from λw' v hb hw=>⟨v,rfl,by rw[EQ.o];exact hb,hw⟩);have CC:=aA (show Calls Tryz.prog 69 #[zW A3 A1 A2 u A4 k c3 n1 c1 n2 c2 n3 z n4 c4] wr (vE (f+3) true (lQ f (bF log) p) wr)from(tM c6.o d2.o SP.o FU.o).mono (λ_ _ h=>h.1 hP));clear hP hq;go_wp2_with fail
 refine CC.o.mono ?_;rintro e M ⟨v7,rfl,⟨i,l,m,rfl,s7,p7⟩,o⟩;have B:=aA (show fF (λq=>wr.heap.size<=q) (f+3) M (.agg #[.int .i64 (lQ f (bF log) p).kind,.int .i64 (lQ f (bF log) p).label,.slice i l m]) (lQ f (bF log) p)from⟨i,l,m,rfl,s7,p7⟩);obtain⟨r,b⟩:=bS ((lQ f (bF log) p).kind);obtain⟨s,d⟩:=bS ((lQ f (bF log) p).label);rw[<-b,<-d]at B;rw[<-b,<-d];have L:=aA (aF M (.cells #[r,s,.slice i l m] 35));have C:=aA (o.trans (L.o.mono o.size));have TS:=aA (Box.new M #[r,s,.slice i l m] 35);have b0:=aA (B.o.keep L.o);have X8:=aA (Xr.o.keep C.o);clear s7 p7 o b d CC;go_upto_region 16 with fail
 generalize M.alloc (.cells #[r,s,.slice i l m] 35)=w8 at *
 generalize M.heap.size=bz at *
 obtain⟨s0,s1,s2⟩:=TS.o.three;obtain⟨S,T⟩:=bS (r);obtain⟨U,V⟩:=bS (s);obtain⟨W,c7⟩:=bS (i);obtain⟨X,c8⟩:=bS (l);obtain⟨Y,c9⟩:=bS (m);subst T V c7 c8 c9;obtain⟨u0,u1,u2⟩:=X8.o.three;have fz:=λq=>X8.o.frozen q
 have D:=aA (dR (w:=w) b0.o X8.o C.o Dr.o Wr.o (aB _));go_wp2
 generalize (((w8.setCell w S).setCell ⟨w,1,none⟩ U).setCell ⟨w,2,none⟩ (.slice W X Y))=ww at *
 obtain⟨z0,z1,z2⟩:=D.o.1.three;exact aU (v:=.agg #[S,U,.slice W X Y]) (by simp[results,Tryz.results23,go_sem,z0,z1,z2]) rfl (FB.o ww _ D.o.2.1 D.o.2.2)
def VS:∀f,zX f
 | 0=>λw A n c log h a=>by
  have hp:eZ log (q7 log 26 26 26 26 0):=by
   have:=(vY a.1).2;rwa[aG a.1]at this
  have:=a.2 _ hp;omega
 | f+1=>Kt (VS f)
