/- Texts melted into one: A mark as a text: the contract of reach.name. Conditions: the mark reads as a list of at most 16 numbers of tokens. | The map from marks' texts to numbers. Conditions: the marks are of at most 16 places. | The memory of the finder: its box, its map and its three rows. Conditio -/
import Derived.Test.YtgnljpnlolkalaaGreatBenchTellsK04
import Derived.Maps.Views
import Derived.Maps.Keyed
import Derived.StringKeys
import Derived.Test.YtgnljpnlolkalaaGreatBenchTellsK05
set_option linter.all false
set_option maxRecDepth 100000
set_option maxHeartbeats 8000000
namespace Go.Proofs.YtgnljpnlolkalaaGreat
open Go.RowKit
def qZ (xs:LIn):List Nat:=xs.flatMap λx=>[x.toNat % 256,x.toNat / 256 % 256,x.toNat / 65536 % 256]
def Om (xs:LIn)(x:Int):qZ (xs++[x])=qZ xs++[x.toNat % 256,x.toNat / 256 % 256,x.toNat / 65536 % 256]:=by simp[qZ]
def rK (xs:LIn):(qZ xs).length=3*xs.length:=by
 induction xs with
 | nil=>rfl
 | cons x l a =>
  have:qZ (x::l)=[x.toNat % 256,x.toNat / 256 % 256,x.toNat / 65536 % 256]++qZ l:=rfl;rw[this,bL,a];simp only[bP,fQ];omega
def Me (xs:LIn):∀b∈qZ xs,b<256:=by
 intro b a;unfold qZ at a;obtain⟨x,_,c⟩:=iZ.1 a;simp at c;omega
def Hu:∀{xs ys:LIn} (_:bW xs=true) (_:bW ys=true) (_:qZ xs=qZ ys),xs=ys
 | [],[],_,_,_=>rfl
 | [],y::l,_,_,h=>by have:=aO List.length h;rw[rK,rK]at this;simp at this
 | x::l,[],_,_,h=>by have:=aO List.length h;rw[rK,rK]at this;simp at this
 | x::l,y::r,a,b,h=>by
  have d:qZ (x::l)=x.toNat % 256::(x.toNat / 256 % 256)::(x.toNat / 65536 % 256)::qZ l:=rfl;have e:qZ (y::r)=y.toNat % 256::(y.toNat / 256 % 256)::(y.toNat / 65536 % 256)::qZ r:=rfl;rw[d,e]at h;injection h with i h;injection h with j h;injection h with k h;rw[i6]at a b;have f:=a x (by simp);have g:=b y (by simp);rw[Hu ((i6 l).2 λz c=>a z (by simp[c])) ((i6 r).2 λz c=>b z (by simp[c])) h,show x=y from by omega]
def Um {a b:List Nat}(e:∀x∈a,x<256)(f:∀x∈b,x<256)(h:VI a=VI b):a=b:=by
 have c:(VI a).data.toList=(VI b).data.toList:=by rw[h]
 unfold VI at c;rw[strOfNums_data,strOfNums_data,List.map_map,List.map_map]at c;have d:=aO (List.map UInt8.toNat) c;rw[List.map_map,List.map_map]at d;have key:∀l:List Nat,(∀x∈l,x<256)->l.map (UInt8.toNat ∘ ((λn:Int=>UInt8.ofNat n.toNat) ∘ λb:Nat=>(b:Int)))=l:=λl i=>by
  rw[List.map_congr_left (g:=id) (λx j=>by
   simp only[Function.comp,d9,UInt8.toNat_ofNat',id];have:=i x j;omega)]
  simp
 rwa[key a e,key b f]at d
def EP (xs:LIn):ByteArray:=VI (qZ xs)
def QI {xs ys:LIn}(a:bW xs=true)(b:bW ys=true)(h:EP xs=EP ys):xs=ys:=Hu a b (Um (Me _) (Me _) h)
def infoByte:(Tryz.prog.info? 5).map (λi=>(i.zero,i.size,i.bytes))=some (some (.int .u8 0),1,1):=by kernel_rfl
def Dm {w:World}{A:OAd}{n c:Nat}{xs:LIn}(h:aY w A n c xs)(W:n<=16)(C:bW xs=true) :
  Calls Tryz.prog 167 #[.slice A n c] w λe w'=>e=.returned (.string (EP xs))/\Below w w w':=by
 have H:=aA h;have K:=aA ((i6 xs).1 C);clear h C;obtain⟨D,E,f,g,i⟩:=info_parts infoByte;have j:D.bytes*(3*n)<=281474976710656:=by rw[i];omega
 have l:3*n<=maxLen:=by simp only[maxLen];omega
 have o:(3:Int)*(n:Int)=((3*n:Nat):Int):=by omega
 have L:=aA o;clear o;go_enter Tryz.func167,Tryz.ntmps167
 go_upto_region 2 with(at_make;refine wpList_make_own _ rfl _ _ 55 rfl w 5 D (.int .u8 0) 1 Tryz.underlying55 E f g .i64 .i64 _ (3*n) rfl rfl (by first|exact L.o|(simp;done)|omega) j l (aB _) ?_;intro w1 a p;have M:=aA (show yJ w1 w (.slice w 0 (3*n)) 0 []from⟨[],a,cD.nil,rfl⟩);have N:=aA ((aH w w).grown p (aB _) (λk F=>by cases F));clear a p)
 clear E f g i j l;go_wp2
 go_loopw [3,12] (λu v wr=>∃k:Nat,k<=n/\v=k/\Hid (yJ wr w u (3*k) (qZ (xs.take k)))/\Hid (Below w w wr)) (λ_ v _=>n-(intOf v).toNat)
 case atStart=>exact⟨0,aL _,rfl,M,N⟩
 case round =>
  obtain⟨k,F,rfl,s,r⟩:=hrel;by_cases t:k<n
  .have O:(k:Int)<(n:Int):=by omega
   obtain⟨b,P,x,rfl,G,I,X⟩:=aY.get (aY.keep H.o r.o) t;have z:=K.o x (aS I.o);have J:=aA (show qZ (xs.take (k+1))=qZ (xs.take k)++[x.toNat % 256,x.toNat / 256 % 256,x.toNat / 65536 % 256] by rw[bX I.o,Om]);obtain⟨y,rfl⟩:∃y:Nat,x=(y:Int):=⟨x.toNat,by omega⟩;have Y:y<=1000000:=by omega
   simp only[d9]at J;have Q:=aA (show ∀b∈[y % 256,y / 256 % 256,y / 65536 % 256],b<256 from λb G=>by simp at G;omega);clear z;go_wp2_with (at_builtin;refine y6 rfl _ _ rfl (m:=3) (ys:=[y % 256,y / 256 % 256,y / 65536 % 256]) rfl rfl (by first|rfl|simp) (by first|rfl|(simp;done)|(simp;omega)) rfl Q.o s.o r.o r.o.size (by omega) ?_;intro v2 Z d B q;have R:=aA d;have S:=aA q;clear d B q)
   go_roundw
   case rel=>exact⟨k+1,by omega,by go_num,aA (by rw[J.o];exact R.o),S⟩
   simp[intOf];omega
  obtain rfl:k=n:=by omega
  have T:=aA (show xs.take k=xs from aW (by rw[H.o.len];exact aB _));rw[T.o]at s;obtain⟨A2,c2,U,s2⟩:=s.o.sl (by omega);subst U;have V:=Bts.str s2;clear s2;go_wp2
  go_ret
  exact⟨rfl,r.o⟩
open Go.Maps
def vT {ms:LLi}{x y:LIn}:eH (ms++[x]) y=match eH ms y with
  | some k=>some k
  | none=>if y=x then some ms.length else none:=by
 unfold eH;rw[List.findIdx?_append];cases h:ms.findIdx? λz=>y==z with
 | some k=>simp
 | none =>
  by_cases e:y=x
  .subst e;simp
  simp[e]
def Un (x:LIn):Lit:=.string (EP x).data.toList
def Uo {x y:LIn}(a:bW x=true)(b:bW y=true)(h:Un x=Un y):x=y:=by
 unfold Un at h;injection h with h;exact QI a b (Go.WideShapes.bytes_inj h)
def AtM (w:World)(b:Nat)(ms:LLi):Prop :=
 ∃D:DataW Unit,w.ownsMap Tryz.prog 9 (plainElem Tryz.prog 3) b ms.length D/\∀x,bW x=true->x.length<=16->match eH ms x with
  | some k=>D.atKey (Un x) (.lit (.int .i64 0))=.lit (.int .i64 (k:Int))/\Maps.has D (Un x)=true
  | none=>Maps.has D (Un x)=false
def Hv:Keyed Tryz.prog 9:=string_keyed Tryz.underlying9
def Up (w:World):(zeroValue 3).run Tryz.prog w=.ok (.int .i64 0) w:=by kernel_rfl
def AtM.made (w:World):AtM (w.alloc (.map #[] 0)) w []:=⟨.map [],World.ownsMap_made _ _ _ _,λ_ _ _=>rfl⟩
def AtM.of_block {w w':World}{b:Nat}{ms:LLi}(h:AtM w b ms)(c:w'.heap[b]?=w.heap[b]?):AtM w' b ms:=by
 obtain⟨D,⟨es,a,d,e,f,g⟩,i⟩:=h;exact⟨D,⟨es,a,c.trans d,e,f,g⟩,i⟩
def AtM.lt {w:World}{b:Nat}{ms:LLi}(h:AtM w b ms):b<w.heap.size:=by
 obtain⟨D,a,_⟩:=h;exact a.lt
def AtM.keep {w w':World}{b:Nat}{ms:LLi}(h:AtM w b ms)(a:Below w w w'):AtM w' b ms:=h.of_block (a.block b h.lt)
def On (x:LIn):(EP x).size=3*x.length:=by
 unfold EP VI;rw[strOfNums_size,dQ,rK]
def MG {x:LIn}(a:x.length<=16):keyOf Tryz.prog 9 (.string (EP x))=some (Un x) :=
 Go.WideMaps.keyOf_string_mk Tryz.underlying9 (by rw[On];simp only[maxLen];omega)
def AtM.look {w:World}{b:Nat}{ms:LLi}(h:AtM w b ms){x:LIn}(j:bW x=true)(i:x.length<=16) :
  ∃v:Int,(Instr.lookup 153 (.map (some b)) (.string (EP x)) true).run Tryz.prog w=.ok (.tuple #[v,.bool (eH ms x).isSome]) w/\∀k,eH ms x=some k->v=(k:Int):=by
 obtain⟨D,l,m⟩:=h;obtain⟨u,q,d,n⟩:=l.look_ok Hv Tryz.underlying153 (Up w) (plainElem_int Tryz.underlying3 (a:=0) (by decide)) (MG i);obtain⟨c,rfl,o,_⟩:=plainElem_int_inv Tryz.underlying3 n;have g:=m x j i;cases hf:eH ms x with
 | none =>
  rw[hf]at g;rw[g]at d;exact⟨c,d,λk p=>by cases p⟩
 | some k =>
  rw[hf]at g;rw[g.2]at d;refine⟨c,d,λr e=>?_⟩;injection e with e;subst e;have f:=aO Prod.fst o;simp only at f;rw[g.1]at f;injection f with f;injection f with _ f;exact f.symm
def AtM.put {w:World}{b:Nat}{ms:LLi}(h:AtM w b ms){x:LIn}(m:bW x=true)(f:x.length<=16)(n:eH ms x=none)(t:ms.length<=1000) :
  ∃w',(Instr.mapUpdate 153 (.map (some b)) (.string (EP x)) (.int .i64 (ms.length:Int))).run Tryz.prog w=.ok () w'/\AtM w' b (ms++[x])/\w.grownBy w' (some b):=by
 obtain⟨D,i,o⟩:=h;obtain⟨w',p,q,r⟩:=i.update Hv Tryz.underlying153 (by rw[maxLen];omega) (MG f) (plainElem_int Tryz.underlying3 (a:=(ms.length:Int)) (jM (by omega)));refine⟨w',p,⟨_,by rw[bL];exact q,λy j g=>?_⟩,r⟩;rw[vT];have d:=o y j g;have l:=(i.tidy Hv).isMap;by_cases e:y=x
 .subst e;rw[n];rw[aG rfl];exact⟨Maps.atKey_put_same l (Hv.key (MG f)) _ _,Maps.has_put_same l (Hv.key (MG f)) _⟩
 .have c:Un y≠Un x:=λs=>e (Uo j m s)
  cases hf:eH ms y with
  | some k =>
   rw[hf]at d;exact⟨by rw[Maps.atKey_put_other c];exact d.1,by rw[Maps.has_put_other c];exact d.2⟩
  | none =>
   rw[hf]at d;rw[aD e];show Maps.has _ _=false
   rw[Maps.has_put_other c];exact d
def dA {w:World}{B e s n b ty:Nat}{v:Value}{c:List Value}{cs:Array Value}(h:w.ownsRow B e s v n c)(f:Box w b ty cs)(d:e≠ty):v.ownBlock≠some b:=by
 intro e;rcases h.2 with⟨rfl,_⟩|⟨g,cap,i,rfl,_,a,_⟩
 .cases e
 simp only[Value.ownBlock,aZ]at e;subst e;unfold Box at f;rw[f]at a;injection a with a;injection a with _ a;exact d a.symm
def AtM.obj {w:World}{b:Nat}{ms:LLi}(h:AtM w b ms):∃es c,w.heap[b]?=some (.map es c):=by
 obtain⟨D,⟨es,a,d,_⟩,_⟩:=h;exact⟨es,a,d⟩
def oY {w:World}{B e s n b:Nat}{v:Value}{c:List Value}{ms:LLi}(h:w.ownsRow B e s v n c)(d:AtM w b ms):v.ownBlock≠some b:=by
 intro e;obtain⟨es,cl,f⟩:=d.obj;rcases h.2 with⟨rfl,_⟩|⟨g,cap,i,rfl,_,a,_⟩
 .cases e
 simp only[Value.ownBlock,aZ]at e;subst e;rw[f]at a;injection a with a;cases a
def uS {w:World}{b c ty:Nat}{cs:Array Value}{ms:LLi}(a:Box w b ty cs)(h:AtM w c ms):b≠c:=by
 intro e;subst e;obtain⟨es,cl,d⟩:=h.obj;unfold Box at a;rw[d]at a;injection a with a;cases a
def uT (bf:Nat)(u v z:Value)(A:OAd)(n:Nat):Prop:=∀b a,A=some ⟨b,a,none⟩->0<n->b≠bf/\u.ownBlock≠some b/\v.ownBlock≠some b/\z.ownBlock≠some b
def aY.same {w w':World}{A:OAd}{n c:Nat}{xs:LIn}(h:aY w A n c xs)(g:w.heap.size<=w'.heap.size)(k:∀b a,A=some ⟨b,a,none⟩->0<n->b<w.heap.size->w'.heap[b]?=w.heap[b]?):aY w' A n c xs :=
 ⟨h.len,h.le,h.cap,h.small,h.nul,λf=>by
  obtain⟨b,a,e,d,l⟩:=h.cells f;refine⟨b,a,e,bD d g,λi x m=>?_⟩;obtain⟨vs,o,p⟩:=l i x m;exact⟨vs,λj q=>(sA (k b a e f d)).trans (o j q),p⟩⟩
def qG (bf:Nat)(w:World)(u v z:Value)(w':World)(a v' b:Value):Prop:=∀(A:OAd) (n c:Nat) (xs:LIn),aY w A n c xs->uT bf u v z A n->aY w' A n c xs/\uT bf a v' b A n
def qG.trans {bf:Nat}{w w1 d:World}{u v z u1 v1 e u2 v2 f:Value}(h:qG bf w u v z w1 u1 v1 e)(g:qG bf w1 u1 v1 e d u2 v2 f):qG bf w u v z d u2 v2 f:=λA n c xs a b=>by
 obtain⟨a1,i⟩:=h A n c xs a b;exact g A n c xs a1 i
def qG.of_below {bf:Nat}{w w':World}{u v z:Value}(c:Below w w w'):qG bf w u v z w' u v z:=λ_ _ _ _ a b=>⟨a.keep c,b⟩
def oZ (bf:Nat)(u v z:Value):World->(Nat->Value)->LIn->Prop:=λw vs xs=>∃A n c,vs 0=.slice A n c/\aY w A n c xs/\n<=16/\uT bf u v z A n
def qG.mark {bf:Nat}{w w':World}{u v z a v' b:Value}(h:qG bf w u v z w' a v' b){vs:Nat->Value}{xs:LIn}(m:oZ bf u v z w vs xs):oZ bf a v' b w' vs xs:=by
 obtain⟨A,n,c,e,i,l,p⟩:=m;obtain⟨d,f⟩:=h A n c xs i p;exact⟨A,n,c,e,d,l,f⟩
def oZ.kept (bf:Nat)(u v z:Value):CU (oZ bf u v z):=λ_ _ _ _ a h=>(qG.of_below a).mark h
def cD.turn {α:Type}{R R':World->(Nat->Value)->α->Prop}{sz:Nat}{w w':World}{cs:List Value}{xs:List α}(h:cD R sz w cs xs)(c:∀vs x,R w vs x->R' w' vs x):cD R' sz w' cs xs :=
 ⟨h.1,λi x d=>by obtain⟨vs,a,b⟩:=h.2 i x d;exact⟨vs,a,c _ _ b⟩⟩
def aJ.turn {α:Type}{R R':World->(Nat->Value)->α->Prop}{sz:Nat}{w w':World}{B e:Nat}{v:Value}{n:Nat}{xs:List α}(h:aJ R sz w B e v n xs){row:Option Nat}(c:w.grownBy w' row)(b:v.ownBlock=none∨v.ownBlock≠row)(d:∀vs x,R w vs x->R' w' vs x):aJ R' sz w' B e v n xs:=by
 obtain⟨a,f,g,i⟩:=h;exact⟨a,f.kept c b,g.turn d,i⟩
def aJ.reread {α:Type}{R R':World->(Nat->Value)->α->Prop}{sz:Nat}{w:World}{B e:Nat}{v:Value}{n:Nat}{xs:List α}(h:aJ R sz w B e v n xs)(b:∀vs x,R w vs x->R' w vs x):aJ R' sz w B e v n xs:=by
 obtain⟨a,c,d,f⟩:=h;exact⟨a,c,d.turn b,f⟩
def dH (w:World)(b i:Nat)(v:Value):w.grownBy (w.setCell ⟨b,i,none⟩ v) (some b) :=
 ⟨rfl,rfl,rfl,by simp[World.setCell],λk _ a=>eN _ _ _ _ (λe=>a (by rw[e]))⟩
structure uG (w:World)(B bf bm:Nat)(P:Int)(A:OAd)(n c:Nat)(most:Int)(u v z:Value)(mm ms:LLi)(ars:List cC)(fs:LIn):Prop where
 lo:B<=bf
 lom:B<=bm
 box:Box w bf 155 #[.int .i64 P,.slice A n c,.int .i64 most,.map (some bm),u,v,z]
 map:AtM w bm mm
 marks:aJ (oZ bf u v z) 1 w B 24 u ms.length ms
 arcs:aJ qC 3 w B 114 v ars.length ars
 first:aI w B z fs.length fs
section
variable {w w':World} {B bf bm:Nat} {P:Int} {A:OAd} {n c:Nat} {most:Int} {u v z:Value} {mm ms:LLi} {ars:List cC} {fs:LIn}
def uG.keep (h:uG w B bf bm P A n c most u v z mm ms ars fs)(a:Below w w w'):uG w' B bf bm P A n c most u v z mm ms ars fs :=
 ⟨h.lo,h.lom,h.box.keep a,h.map.keep a,h.marks.keep (oZ.kept _ _ _ _) a,h.arcs.keep qC.kept a,h.first.keep fG.kept a⟩
def uG.entry (h:uG w B bf bm P A n c most u v z mm ms ars fs){f:LLi}(C:AtM w' bm f)(d:w.grownBy w' (some bm)):uG w' B bf bm P A n c most u v z f ms ars fs/\∀(A:OAd) (n c:Nat) (xs:LIn),aY w A n c xs->aY w' A n c xs:=by
 have r:∀(A:OAd) (n c:Nat) (xs:LIn),aY w A n c xs->aY w' A n c xs:=λA n c xs m=>by
  refine m.same d.size (λb D e s o=>d.block b o (λj=>?_));injection j with j;subst j;obtain⟨es,cl,q⟩:=h.map.obj;obtain⟨J,t,k,y,E⟩:=m.cells s;rw[e]at k;injection k with k;injection k with F j;subst F;obtain⟨vs,a,b⟩:=E 0 _ (aV (by rw[m.len];exact s));have:=a 0 (by omega);unfold World.cell? at this;rw[q]at this;cases this
 have bx:bf≠bm:=uS h.box h.map;obtain⟨_,G,_⟩:=id h.marks;obtain⟨_,H,_⟩:=id h.arcs;obtain⟨_,I,_⟩:=id h.first;refine⟨⟨h.lo,h.lom,h.box.grown d (λe=>bx (by injection e with e;exact e.symm)),C,h.marks.turn d (.inr (oY G h.map)) (λvs x g=>?_),h.arcs.turn d (.inr (oY H h.map)) (λvs x g=>g),h.first.turn d (.inr (oY I h.map)) (λvs x g=>g)⟩,r⟩;obtain⟨A,n,c,e,i,l,p⟩:=g;exact⟨A,n,c,e,r _ _ _ _ i,l,p⟩
def rL {w w':World}{bf:Nat}{u v z y:Value}{g k cap i:Nat}(r:w.grownBy w' y.ownBlock)(o:y.ownBlock=some g∨w.heap.size<=g)(B:y=u∨y=v∨y=z){p v' q:Value}(C:p=u∨(y=u/\p=.slice g k cap))(D:v'=v∨(y=v/\v'=.slice g k cap))(E:q=z∨(y=z/\q=.slice g k cap))(V:Value) :
  qG bf w u v z (w'.setCell ⟨bf,i,none⟩ V) p v' q:=by
 intro A n c xs s t;have key:∀b a,A=some ⟨b,a,none⟩->0<n->b<w.heap.size/\b≠bf/\y.ownBlock≠some b/\g≠b:=λb a e d=>by
  obtain⟨I,x,m,f,_⟩:=s.cells d;rw[e]at m;injection m with m;injection m with F _;subst F;obtain⟨p0,G,p2,p3⟩:=t b a e d;have j:y.ownBlock≠some b:=by rcases B with rfl|rfl|rfl <;> assumption
  refine⟨f,p0,j,λl=>?_⟩;subst l;rcases o with h|h
  .exact j h
  omega
 refine⟨s.same (by simpa [World.setCell] using r.size) (λb a e d f=>?_),λb a e d=>?_⟩
 .obtain⟨_,k1,H,_⟩:=key b a e d;exact(eN _ _ _ _ k1).trans (r.block b f (λl=>H l.symm))
 .obtain⟨p0,G,p2,p3⟩:=t b a e d;have kg:=(key b a e d).2.2.2;have J:(Value.slice g k cap).ownBlock≠some b:=λl=>kg (by injection l)
  refine⟨p0, ?_, ?_, ?_⟩
  .rcases C with rfl|⟨_,rfl⟩ <;> assumption
  .rcases D with rfl|⟨_,rfl⟩ <;> assumption
  rcases E with rfl|⟨_,rfl⟩ <;> assumption
def uG.mark (h:uG w B bf bm P A n c most u v z mm ms ars fs){g k cap:Nat}{a:LLi}(r:k=a.length)(own:aJ (λ_ vs x=>oZ bf u v z w vs x) 1 w' B 24 (.slice g k cap) k a)(d:w.grownBy w' u.ownBlock)(l:u.ownBlock=some g∨w.heap.size<=g) :
  uG (w'.setCell ⟨bf,4,none⟩ (.slice g k cap)) B bf bm P A n c most (.slice g k cap) v z mm a ars fs/\qG bf w u v z (w'.setCell ⟨bf,4,none⟩ (.slice g k cap)) (.slice g k cap) v z:=by
 subst r;have o:=rL (i:=4) (k:=a.length) (cap:=cap) d l (u:=u) (v:=v) (z:=z) (bf:=bf) (.inl rfl) (.inr ⟨rfl,rfl⟩) (.inl rfl) (.inl rfl) (.slice g a.length cap);obtain⟨_,j,_⟩:=id h.marks;obtain⟨_,s,_⟩:=id h.arcs;obtain⟨_,t,_⟩:=id h.first;have f:Box w' bf 155 #[P,.slice A n c,most,.map (some bm),u,v,z]:=h.box.grown d (dA j h.box (by decide));have p:AtM w' bm mm:=h.map.of_block (d.block bm h.map.lt (λe=>oY j h.map e.symm));have a1:aJ qC 3 w' B 114 v ars.length ars:=h.arcs.turn d (jC s j (by decide)) (λ_ _ b=>b);have q:aI w' B z fs.length fs:=h.first.turn d (jC t j (by decide)) (λ_ _ b=>b);obtain⟨_,y,_⟩:=id own;obtain⟨_,C,_⟩:=id a1;obtain⟨_,D,_⟩:=id q;have m:=dH w' bf 4 (.slice g a.length cap);refine⟨⟨h.lo,h.lom,by simpa using f.set 4 (.slice g a.length cap),p.of_block (eN _ _ _ _ (uS f p).symm),
  own.turn m (.inr (dA y f (by decide))) (λvs x b=>o.mark b),a1.turn m (.inr (dA C f (by decide))) (λ_ _ b=>b),q.turn m (.inr (dA D f (by decide))) (λ_ _ b=>b)⟩,o⟩
def uG.firstPut (h:uG w B bf bm P A n c most u v z mm ms ars fs){g k cap:Nat}{a:LIn}(q:k=a.length)(own:aI w' B (.slice g k cap) k a)(d:w.grownBy w' z.ownBlock)(l:z.ownBlock=some g∨w.heap.size<=g) :
  uG (w'.setCell ⟨bf,6,none⟩ (.slice g k cap)) B bf bm P A n c most u v (.slice g k cap) mm ms ars a/\qG bf w u v z (w'.setCell ⟨bf,6,none⟩ (.slice g k cap)) u v (.slice g k cap):=by
 subst q;have o:=rL (i:=6) (k:=a.length) (cap:=cap) d l (u:=u) (v:=v) (z:=z) (bf:=bf) (.inr (.inr rfl)) (.inl rfl) (.inl rfl) (.inr ⟨rfl,rfl⟩) (.slice g a.length cap);obtain⟨_,r,_⟩:=id h.marks;obtain⟨_,s,_⟩:=id h.arcs;obtain⟨_,j,_⟩:=id h.first;have f:Box w' bf 155 #[P,.slice A n c,most,.map (some bm),u,v,z]:=h.box.grown d (dA j h.box (by decide));have p:AtM w' bm mm:=h.map.of_block (d.block bm h.map.lt (λe=>oY j h.map e.symm));have a1:aJ qC 3 w' B 114 v ars.length ars:=h.arcs.turn d (jC s j (by decide)) (λ_ _ b=>b);have k1:aJ (λ_ vs x=>oZ bf u v z w vs x) 1 w' B 24 u ms.length ms:=h.marks.turn d (jC r j (by decide)) (λ_ _ b=>b);obtain⟨_,t,_⟩:=id k1;obtain⟨_,y,_⟩:=id a1;obtain⟨_,C,_⟩:=id own;have m:=dH w' bf 6 (.slice g a.length cap);refine⟨⟨h.lo,h.lom,by simpa using f.set 6 (.slice g a.length cap),p.of_block (eN _ _ _ _ (uS f p).symm),
  k1.turn m (.inr (dA t f (by decide))) (λvs x b=>o.mark b),a1.turn m (.inr (dA y f (by decide))) (λ_ _ b=>b),own.turn m (.inr (dA C f (by decide))) (λ_ _ b=>b)⟩,o⟩
def uG.arc (h:uG w B bf bm P A n c most u v z mm ms ars fs){g k cap:Nat}{a:List cC}(r:k=a.length)(own:aJ qC 3 w' B 114 (.slice g k cap) k a)(d:w.grownBy w' v.ownBlock)(l:v.ownBlock=some g∨w.heap.size<=g) :
  uG (w'.setCell ⟨bf,5,none⟩ (.slice g k cap)) B bf bm P A n c most u (.slice g k cap) z mm ms a fs/\qG bf w u v z (w'.setCell ⟨bf,5,none⟩ (.slice g k cap)) u (.slice g k cap) z:=by
 subst r;have o:=rL (i:=5) (k:=a.length) (cap:=cap) d l (u:=u) (v:=v) (z:=z) (bf:=bf) (.inr (.inl rfl)) (.inl rfl) (.inr ⟨rfl,rfl⟩) (.inl rfl) (.slice g a.length cap);obtain⟨_,s,_⟩:=id h.marks;obtain⟨_,j,_⟩:=id h.arcs;obtain⟨_,t,_⟩:=id h.first;have f:Box w' bf 155 #[P,.slice A n c,most,.map (some bm),u,v,z]:=h.box.grown d (dA j h.box (by decide));have p:AtM w' bm mm:=h.map.of_block (d.block bm h.map.lt (λe=>oY j h.map e.symm));have q:aI w' B z fs.length fs:=h.first.turn d (jC t j (by decide)) (λ_ _ b=>b);have k1:aJ (λ_ vs x=>oZ bf u v z w vs x) 1 w' B 24 u ms.length ms:=h.marks.turn d (jC s j (by decide)) (λ_ _ b=>b);obtain⟨_,y,_⟩:=id k1;obtain⟨_,C,_⟩:=id own;obtain⟨_,D,_⟩:=id q;have m:=dH w' bf 5 (.slice g a.length cap);refine⟨⟨h.lo,h.lom,by simpa using f.set 5 (.slice g a.length cap),p.of_block (eN _ _ _ _ (uS f p).symm),
  k1.turn m (.inr (dA y f (by decide))) (λvs x b=>o.mark b),own.turn m (.inr (dA C f (by decide))) (λ_ _ b=>b),q.turn m (.inr (dA D f (by decide))) (λ_ _ b=>b)⟩,o⟩
end
def Wv (w0 w:World)(bf bm:Nat)(P:Int)(A:OAd)(n c:Nat)(most:Int)(u v z:Value)(ars:List cC)(p:LLi×LIn×Int×Bool)(e:Ending)(w':World):Prop :=
 ∃a b,e=.returned (.tuple #[.int .i64 p.2.2.1,.bool p.2.2.2])/\uG w' w0.heap.size bf bm P A n c most a v b p.1 p.1 ars p.2.1/\Below w0.heap.size w0 w'/\w.heap.size<=w'.heap.size/\qG bf w u v z w' a v b
def vU {w0 w:World} {bf bm:Nat} {P:Int} {A:OAd} {n c M:Nat} {u v z:Value} {ms:LLi} {ars:List cC} {fs:LIn} {X:OAd} {I cx:Nat} {x:LIn} (a:Int)
  (h:uG w w0 bf bm P A n c (M:Int) u v z ms ms ars fs) (hB:Below w0 w0 w) (hx:aY w X I cx x) (hn:I<=16) (hr:bW x=true) (ha:uT bf u v z X I) (hm:ms.length<=300) (b7:fs.length<=300) :
  Calls Tryz.prog 135 #[.pointer bf,.slice X I cx,a] w (Wv w0 w bf bm P A n c (M:Int) u v z ars (qY M ms fs x a)):=by
 obtain⟨U,i,hu,su⟩:=h.marks.sl (by omega);obtain⟨Z,t,hz,sz⟩:=h.first.sl (by omega);subst hu hz;have a5:x.length<=16:=by rw[hx.len];exact hn
 have HF:=aA h;have HB:=aA hB;have HX:=aA hx;have HR:=aA hr;have HA:=aA ha;have HL:=aA a5;have g:=aA ((aH w w).drew);have b:=aA (show ∀w',Below w w w'->w'.cell? ⟨bf,2,none⟩=some (.int .i64 (M:Int))/\w'.cell? ⟨bf,3,none⟩=some (.map (some bm))from λw' D=>⟨(h.box.keep D).cell 2,(h.box.keep D).cell 3⟩);have CN:=aA (λ(w':World) (D:Below w w w')=>Dm (hx.keep D) hn hr);clear h hB hx hr ha su sz a5;obtain⟨r,E⟩:=aK (eH ms x);obtain⟨B,C⟩:=b.o w (aH _ _);go_enter Tryz.func135,Tryz.ntmps135
 go_upto_region 1 with fail
 cases r with
 | some k =>
  have J:=aA E;clear E;go_region_held3 (λw'=>w'.cell? ⟨bf,2,none⟩=some (.int .i64 (M:Int))/\w'.cell? ⟨bf,3,none⟩=some (.map (some bm)))
   (first|go_keep)
   (first|(go_at_call 167;(with_reducible refine(CN.o _ g.o).mono ?_);rintro e1 w1 ⟨rfl,d⟩;have e:=aA (g.o.trans (d.mono g.o.size));clear d B C;obtain⟨B,C⟩:=b.o w1 e.o;obtain⟨vv,W,Y⟩:=(HF.o.map.keep e.o).look HR.o HL.o;rw[J.o]at W;obtain rfl:=Y k J.o;simp only[Option.isSome]at W))
  all_goals
   clear B C W;have BB:=aA (HB.o.trans (e.o.mono HB.o.size));have FP:=aA (show qY M ms fs x a=(ms,fs,(k:Int),true) by unfold qY;rw[J.o]);go_wp2
   exact aU (v:=.tuple #[.int .i64 (k:Int),.bool true]) (by simp[results,Tryz.results135,go_sem]) rfl (by rw[FP.o];exact⟨_,_,rfl,HF.o.keep e.o,BB.o,e.o.size,qG.of_below e.o⟩)
 | none =>
  have J:=aA E;clear E;go_region_held3 (λw'=>w'.cell? ⟨bf,2,none⟩=some (.int .i64 (M:Int))/\w'.cell? ⟨bf,3,none⟩=some (.map (some bm)))
   (first|go_keep)
   (first|(go_at_call 167;(with_reducible refine(CN.o _ g.o).mono ?_);rintro e1 w1 ⟨rfl,d⟩;have e:=aA (g.o.trans (d.mono g.o.size));clear d B C;obtain⟨B,C⟩:=b.o w1 e.o;obtain⟨vv,W,Y⟩:=(HF.o.map.keep e.o).look HR.o HL.o;rw[J.o]at W;clear Y;simp only[Option.isSome]at W))
  all_goals
   clear B C W;have f:=aA (HF.o.keep e.o);have BB:=aA (HB.o.trans (e.o.mono HB.o.size));have K1:=aA (qG.of_below e.o (bf:=bf) (u:=.slice U ms.length i) (v:=v) (z:=.slice Z fs.length t));have a0:=aA (HX.o.keep e.o);have S1:=aA e.o.size;clear CN b g HF HB HX e;obtain⟨L,hL⟩:=aK (ms.length);have a1:=aA hL;obtain⟨e0,e2,e3,e4,e6⟩:w1.cell? bf=some (.int .i64 P)/\w1.cell? ⟨bf,2,none⟩=some (.int .i64 (M:Int))/\w1.cell? ⟨bf,3,none⟩=some (.map (some bm))/\w1.cell? ⟨bf,4,none⟩=some (.slice U ms.length i)/\w1.cell? ⟨bf,6,none⟩=some (.slice Z fs.length t):=⟨f.o.box.cell 0,f.o.box.cell 2,f.o.box.cell 3,f.o.box.cell 4,f.o.box.cell 6⟩;rw[hL]at e4;by_cases a2:L=M
   .have FP:=aA (show qY M ms fs x a=(ms,fs,0,false) by unfold qY;rw[J.o,a1.o];simp only[a2,if_true]);have b5:(L:Int)=(M:Int):=by omega
    clear hL;go_wp2
    exact aU (v:=.tuple #[(0:Int),.bool false]) (by simp[results,Tryz.results135,go_sem]) rfl (by rw[FP.o];exact⟨_,_,rfl,f.o,BB.o,S1.o,K1.o⟩)
   .have FP:=aA (show qY M ms fs x a=(ms++[x],fs++[a],(L:Int),true) by unfold qY;rw[J.o,a1.o];simp only[a2,if_false]);have b5:¬(L:Int)=(M:Int):=by omega
    have b9:L<=300:=by omega
    clear hL a2;go_upto_region 7 with fail
    clear e0 e2 e3 e4 e6;obtain⟨B,C⟩:w1.cell? ⟨bf,2,none⟩=some (.int .i64 (M:Int))/\w1.cell? ⟨bf,3,none⟩=some (.map (some bm)):=⟨f.o.box.cell 2,f.o.box.cell 3⟩;have g:=aA ((aH w1 w1).drew);have b:=aA (show ∀w',Below w1 w1 w'->w'.cell? ⟨bf,2,none⟩=some (.int .i64 (M:Int))/\w'.cell? ⟨bf,3,none⟩=some (.map (some bm))from λw' D=>⟨(f.o.box.keep D).cell 2,(f.o.box.keep D).cell 3⟩);have CN:=aA (λ(w':World) (D:Below w1 w1 w')=>Dm (a0.o.keep D) hn HR.o);have a6:=aA hm;go_region_held3 (λw'=>w'.cell? ⟨bf,2,none⟩=some (.int .i64 (M:Int))/\w'.cell? ⟨bf,3,none⟩=some (.map (some bm)))
     (first|go_keep)
     (first|(go_at_call 167;(with_reducible refine(CN.o _ g.o).mono ?_);rintro e1 w2 ⟨rfl,d⟩;have F:=aA (g.o.trans (d.mono g.o.size));clear d B C;obtain⟨B,C⟩:=b.o w2 F.o;obtain⟨w3,UP,a9,a3⟩:=(f.o.map.keep F.o).put HR.o HL.o J.o (by have:=a6.o;omega);rw[a1.o]at UP;have E3:=aA ((f.o.keep F.o).entry a9 a3);have GR:=aA a3;clear a9 a3;have g2:=E3.o.1.box.cell 2;have g3:=E3.o.1.box.cell 3;simp at g2 g3))
    all_goals
     clear B C UP g2 g3;have B3:=aA ((BB.o.trans (F.o.mono BB.o.size)).grown GR.o (aT BB.o.size F.o.size) (λk hk=>by cases hk;exact E3.o.1.lom));have b0:=aA (E3.o.2 _ _ _ _ (a0.o.keep F.o));have K3:=aA (K1.o.trans (λA' n' c' c0 hi b6=>⟨E3.o.2 _ _ _ _ (hi.keep F.o),b6⟩:qG bf w1 (.slice U ms.length i) v (.slice Z fs.length t) w3 (.slice U ms.length i) v (.slice Z fs.length t)));have S3:=aA (aT S1.o (aT F.o.size GR.o.size));have G:=aA E3.o.1;clear f BB a0 K1 S1 F GR E3 CN b g a6;have c4:w3.cell? ⟨bf,4,none⟩=some (.slice U ms.length i):=G.o.box.cell 4;have MK:=aA (show oZ bf (.slice U ms.length i) v (.slice Z fs.length t) w3 (λ_=>.slice X I cx) x from⟨X,I,cx,rfl,b0.o,hn,HA.o⟩);have NB:=aA (show(Value.slice U ms.length i).ownBlock≠some bf by obtain⟨_,o1,_⟩:=id G.o.marks;exact dA o1 G.o.box (by decide));have OM:=aA (show aJ (λ_ vs y=>oZ bf (.slice U ms.length i) v (.slice Z fs.length t) w3 vs y) 1 w3 w0 24 (.slice U ms.length i) ms.length ms from G.o.marks.reread λ_ _ hy=>hy);go_upto_region 9 with(at_builtin;go_loud (refine fV (R:=λ_ vs y=>oZ bf (.slice U ms.length i) v (.slice Z fs.length t) w3 vs y) lO rfl _ _ rfl [x] #[.slice X I cx] rfl rfl (by first|rfl|simp) rfl (by omega) (by simp[Value.oneCell']) OM.o (cD.one (vs:=λ_=>.slice X I cx) MK.o rfl (λj hj=>(by obtain rfl:j=0:=(by omega);rfl))) rfl B3.o B3.o.size (by omega) (by omega) (λ_ _ _ _ h=>h) ?_;intro g4 l w4 m K N o;have O:=aA m;have p:=aA K;have a4:=aA N;have Q:=aA o;clear m K N o c4;have c4:w4.cell? ⟨bf,4,none⟩=some (.slice U ms.length i):=(G.o.box.grown p.o NB.o).cell 4;have f4:=(G.o.box.grown p.o NB.o).frozen 4))
     clear c4 f4;have FK:=aA (G.o.mark (by simp) O.o p.o Q.o);have BX:=aA (show Below w0 w0 (w4.setCell ⟨bf,4,none⟩ (.slice g4 (ms.length+1) l))from a4.o.grown (dH _ _ _ _) a4.o.size (λk hk=>by cases hk;exact G.o.lo));have S5:=aA (show w.heap.size<=(w4.setCell ⟨bf,4,none⟩ (.slice g4 (ms.length+1) l)).heap.size from aT S3.o (aT p.o.size (by simp[World.setCell])));clear OM NB MK b0 a4 Q p O B3 S3;generalize w4.setCell ⟨bf,4,none⟩ (.slice g4 (ms.length+1) l)=w5 at *
     have S:=aA FK.o.1;have K5:=aA (K3.o.trans FK.o.2);clear FK K3 G;have c6:w5.cell? ⟨bf,6,none⟩=some (.slice Z fs.length t):=S.o.box.cell 6;have NB:=aA (show(Value.slice Z fs.length t).ownBlock≠some bf by obtain⟨_,o1,_⟩:=id S.o.first;exact dA o1 S.o.box (by decide));go_wp2_with (at_builtin;go_loud (refine fV iO rfl _ _ rfl [a] #[a] rfl rfl (by first|rfl|simp) rfl (by omega) (by simp[Value.oneCell']) S.o.first (cD.one (vs:=λ_=>.int .i64 a) rfl rfl (λj hj=>(by obtain rfl:j=0:=(by omega);rfl))) rfl BX.o BX.o.size (by omega) (by omega) (λ_ _ _ _ h=>h) ?_;intro g6 b1 w6 q T V s;have b2:=aA q;have H:=aA T;have b3:=aA V;have b4:=aA s;clear q T V s c6;have c6:w6.cell? ⟨bf,6,none⟩=some (.slice Z fs.length t):=(S.o.box.grown H.o NB.o).cell 6;have f6:=(S.o.box.grown H.o NB.o).frozen 6))
     have FK:=S.o.firstPut (by simp) b2.o H.o b4.o;have BZ:Below w0 w0 (w6.setCell ⟨bf,6,none⟩ (.slice g6 (fs.length+1) b1)):=b3.o.grown (dH _ _ _ _) b3.o.size (λk hk=>by cases hk;exact S.o.lo);exact aU (v:=.tuple #[.int .i64 (L:Int),.bool true]) (by simp[results,Tryz.results135,go_sem]) rfl (by rw[FP.o];exact⟨_,_,rfl,FK.1,BZ,aT S5.o (aT H.o.size (by simp[World.setCell])),K5.o.trans FK.2⟩)
def uG.apart {w:World}{B bf bm:Nat}{P:Int}{A:OAd}{n c:Nat}{most:Int}{u v z:Value}{mm ms:LLi}{ars:List cC}{fs:LIn}(h:uG w B bf bm P A n c most u v z mm ms ars fs){C:OAd}{l:Nat}(d:iR w C):uT bf u v z C l:=by
 intro b f e _;have g:w.heap.size<=b:=d _ e;have i:=h.box.lt;exact⟨by omega,λa=>(by have:=(h.marks.lt b a).2;omega),λa=>(by have:=(h.arcs.lt b a).2;omega),λa=>(by have:=(h.first.lt b a).2;omega)⟩
structure QJ (N:eB)(M:Nat)(s:PSp)(fs:LIn)(k:Nat):Prop where
 sp:tD N M s
 fst:JG s fs
 arcs:s.arcs.length<=k
def VL (w0:World)(bf bm:Nat)(N:eB)(A:OAd)(n c M:Nat)(r:Option PSp)(e:Ending)(w':World):Prop :=
 Below w0.heap.size w0 w'/\match r with
 | none=>e=.returned (.int .i64 4)
 | some s=>e=.returned (.int .i64 0)/\∃u v z fs,uG w' w0.heap.size bf bm N.places A n c (M:Int) u v z s.marks s.marks s.arcs fs/\QJ N M s fs 7200
def MH {w0 w':World}{bf bm:Nat}{N:eB}{A:OAd}{n c M:Nat}{r:Option PSp}(a:r=none)(b:Below w0 w0 w'):VL w0 bf bm N A n c M r (.returned (.int .i64 4)) w':=by
 subst a;exact⟨b,rfl⟩
def EU {w0 w:World} {bf bm:Nat} {P:Int} {A:OAd} {n c M:Nat} {u v z:Value} {ts:List bG} {s:PSp} {fs:LIn} (hT:eC w0 A n c ts) (hM:M<=300)
  (h:uG w w0 bf bm P A n c (M:Int) u v z s.marks s.marks s.arcs fs) (hB:Below w0 w0 w) (hs:QJ ⟨P,ts⟩ M s fs 0) :
  Calls Tryz.prog 136 #[.pointer bf] w (VL w0 bf bm ⟨P,ts⟩ A n c M (goM ⟨P,ts⟩ M M 0 s)):=by
 obtain⟨R,hR⟩:=aK (goM ⟨P,ts⟩ M M 0 s);rw[hR];have HR:=aA hR;have HT:=aA hT;have H:=aA h;have HB:=aA hB;have I:=aA hs;have HM:=aA hM;clear hR hT h hB hs hM;go_enter Tryz.func136,Tryz.ntmps136
 go_wp2
 go_loopw [3] (λfv wr=>∃(f:Nat) (u v z:Value) (s:PSp) (fs:LIn),fv=f/\f<=s.marks.length/\f<=M/\Hid (uG wr w0 bf bm P A n c (M:Int) u v z s.marks s.marks s.arcs fs)/\Hid (Below w0 w0 wr)/\Hid (QJ ⟨P,ts⟩ M s fs (24*f))/\Hid (goM ⟨P,ts⟩ M (M-f) f s=R)) (λfv _=>M-(intOf fv).toNat)
 case atStart=>exact⟨0,u,v,z,s,fs,rfl,aL _,aL _,H,HB,I,HR⟩
 case round =>
  clear H HB I HR u v z fs s;obtain⟨f,u,v,z,s,fs,rfl,d7,g5,H,HB,I,HR⟩:=hrel;have g7:M<=300:=HM.o;have e0:s.marks.length<=300:=aT I.o.sp.few HM.o;obtain⟨U,cu,hu,su⟩:=H.o.marks.sl (by omega);subst hu;obtain⟨L,hL⟩:=aK (s.marks.length);have E:=aA hL;by_cases F:f<s.marks.length
  rotate_left
  .have FE:=aA (show R=some s by
    rw[<-HR.o];cases M-f with
    | zero=>rfl
    | succ g=>rw[goM,aD F])
   obtain rfl:f=L:=by omega
   have c4:wr.cell? ⟨bf,4,none⟩=some (.slice U s.marks.length cu):=H.o.box.cell 4;rw[hL]at c4;clear hL su F d7 e0;go_wp2
   go_ret
   rw[FE.o];exact⟨HB.o,rfl,_,_,_,fs,H.o,⟨I.o.sp,I.o.fst,aT I.o.arcs (by omega)⟩⟩
  obtain⟨b,b3,m,vs,hU,g8,hm,hc,A1,n1,c1,e1,i1,b4,b5⟩:=Sl.get su F;subst hU;have a4:f<L:=by omega
  have c0:wr.cell? bf=some (.int .i64 P):=H.o.box.cell 0;have b6:wr.cell? ⟨bf,1,none⟩=some (.slice A n c):=H.o.box.cell 1;have c4:wr.cell? ⟨bf,4,none⟩=some (.slice (some ⟨b,b3,none⟩) s.marks.length cu):=H.o.box.cell 4;have cm:wr.cell? ⟨b,b3+f,none⟩=some (.slice A1 n1 c1):=by have:=hc 0 (by omega);rw[e1]at this;simpa using this
  rw[hL]at c4;have f4:(f:Int)<(L:Int):=by omega
  have MF:=aA (I.o.sp.fits m (aS hm));have e2:=aA hm;have I1:=aA i1;have b7:=aA b5;have b9:=aA (HT.o.keep HB.o);have e3:=aA (show gA ⟨P,ts⟩ m=(jR ts m,0) by rw[gA,aG MF.o]);have HN:=aA b4;clear hL su F hm hc i1 b5 e1 b4;go_wp2_with ((with_reducible refine(Br b9.o I1.o).mono ?_);rw[e3.o];rintro e w1 ⟨C,l,lc,rfl,hi,W,c6⟩)
  have T:=aA (H.o.keep W);have X:=aA (HB.o.trans (W.mono HB.o.size));have IM:=aA (I1.o.keep W);have IC:=aA hi;have AC:=aA (H.o.apart (l:=l) c6);have f6:l<=24:=by
   have h1:=hi.len;have h2:=GO ts m;have h3:ts.length<=24:=((bN _).1 ((cR _ _).1 MF.o).1).2.2.1;omega
  have FD:=aA (show Hh ⟨P,ts⟩ M f s=kG ⟨P,ts⟩ M m (f:Int) (jR ts m) (some s) by
   have:=EC (most:=M) (f:=(f:Int)) MF.o (some s) ts.length (aB _);rw[kA]at this;rw[this,Hh,show s.marks.getD f []=m by rw[cJ,e2.o];rfl])
  obtain⟨wo,e4⟩:∃wo:World,wo=wr:=⟨_,rfl⟩;subst e4;clear c0 b6 c4 cm hi W c6 I1 b9 H HB;go_wp2
  go_loopw [45] (λkv wr=>∃(k:Nat) (u v z:Value) (s1:PSp) (fs:LIn),kv=k/\k<=l/\Hid (uG wr w0 bf bm P A n c (M:Int) u v z s1.marks s1.marks s1.arcs fs)/\Hid (Below w0 w0 wr)/\Hid (QJ ⟨P,ts⟩ M s1 fs (24*f+k))/\Hid (kG ⟨P,ts⟩ M m (f:Int) ((jR ts m).take k) (some s)=some s1)/\Hid (aY wr C l lc (jR ts m)/\uT bf u v z C l)/\Hid (aY wr A1 n1 c1 m/\uT bf u v z A1 n1)/\Hid (f<s1.marks.length)) (λkv _=>l-(intOf kv).toNat)
  case atStart=>exact⟨0,_,_,_,s,fs,rfl,aL _,T,X,I,rfl,⟨IC.o,AC.o⟩,⟨IM.o,b7.o⟩,by rw[E.o];exact a4⟩
  clear T X IM IC AC b7;obtain⟨k,u1,v1,z1,s1,a5,rfl,hk,T,X,X1,FO,⟨ic,ac⟩,⟨im,am⟩,FL⟩:=hrel;have J:s1.marks.length<=300:=aT X1.o.sp.few HM.o;have g0:s1.arcs.length<=24*f+k:=X1.o.arcs;have g1:s1.arcs.length<=7224:=by omega
  have e5:a5.length<=300:=by rw[X1.o.fst.len];exact J
  have c7:=aA (show R=none∨True from .inr trivial);by_cases F:k<l
  rotate_left
  .obtain rfl:k=l:=by omega
   have FA:=aA (show kG ⟨P,ts⟩ M m (f:Int) (jR ts m) (some s)=some s1 by
    have:=FO.o;rwa[aW (by rw[ic.len];exact aB _)]at this)
   have NX:=aA (show goM ⟨P,ts⟩ M (M-(f+1)) (f+1) s1=R by
    rw[<-HR.o];obtain⟨g,hg⟩:∃g,M-f=g+1:=⟨M-f-1,by have:=I.o.sp.few;rw[E.o]at this;omega⟩;rw[hg,goM,aG (by rw[E.o];exact a4),FD.o,FA.o,show M-(f+1)=g by omega];rfl)
   have fM:f+1<=M:=by have:=I.o.sp.few;rw[E.o]at this;omega
   clear ic im;go_wp2
   go_roundw
   case rel=>exact⟨f+1,u1,v1,z1,s1,a5,by go_num,FL.o,fM,T,X,⟨X1.o.sp,X1.o.fst,by omega⟩,NX⟩
   simp[intOf];omega
  obtain⟨bC,g2,t,hC,g9,ht,h5⟩:=aY.get ic F;subst hC;have c8:t∈jR ts m:=aS ht;obtain⟨⟨i,hi,e6⟩,y⟩:=Of MF.o c8;subst e6;obtain⟨V,cv,hv,sv⟩:=T.o.arcs.sl (by omega);subst hv;have h6:(k:Int)<(l:Int):=by omega
  have g3:i<=24:=by
   have h3:ts.length<=24:=((bN _).1 ((cR _ _).1 MF.o).1).2.2.1;have h4:i<ts.length:=hi;omega
  have a0:=aA (show kG ⟨P,ts⟩ M m (f:Int) ((jR ts m).take (k+1)) (some s)=eS ⟨P,ts⟩ M m (f:Int) s1 (i:Int) by
   rw[bX ht,sF,FO.o];rfl)
  have a1:=aA (λ(h0:eS ⟨P,ts⟩ M m (f:Int) s1 (i:Int)=none)=>show R=none by
   rw[<-HR.o];obtain⟨g,hg⟩:∃g,M-f=g+1:=⟨M-f-1,by have:=I.o.sp.few;rw[E.o]at this;omega⟩;rw[hg,goM,aG (by rw[E.o];exact a4),FD.o,y7 (k+1) (by rw[a0.o];exact h0)];rfl)
  obtain⟨p,hp⟩:=aK (iN ⟨P,ts⟩ m (i:Int));obtain⟨x,fe⟩:=p;rw[hp]at y;have c0:wr.cell? bf=some (.int .i64 P):=T.o.box.cell 0;have b6:wr.cell? ⟨bf,1,none⟩=some (.slice A n c):=T.o.box.cell 1;have HP:=aA hp;have a6:=aA (HT.o.keep X.o);have Y:=aA im;have c9:=aA am;have e7:=aA ic;have d0:=aA ac;have e8:=aA (zA (t:=(i:Int)) MF.o);clear hp im am ic ac hi c8 sv ht c7;rcases y with y|y
  rotate_left
  .simp only at y;subst y;have RN:=aA (a1.o (by unfold eS;rw[HP.o];rfl));go_wp2_with ((with_reducible refine(tX a6.o Y.o (i:Int)).mono ?_);rw[HP.o];rintro e G ⟨D,q,qc,rfl,r,d,o⟩;have B2:=aA (X.o.trans (d.mono X.o.size));clear r d o)
   go_ret
   exact MH RN.o B2.o
  simp only at y;subst y;have XF:=aA (e8.o (by rw[HP.o]));simp only[HP.o]at XF;have XL:=aA (show x.length<=16 by
   obtain⟨h1,h2,_⟩:=(cR _ _).1 XF.o.1;have h3:=((bN _).1 h1).2.1;simp only at h2 h3;omega)
  have XR:=aA ((cR _ _).1 XF.o.1).2.2;have a9:=aA (show eS ⟨P,ts⟩ M m (f:Int) s1 (i:Int)=rF M s1 (f:Int) (i:Int) x by unfold eS;rw[HP.o];rfl);have e9:=aA (λ(s':PSp) (h:rF M s1 (f:Int) (i:Int) x=some s')=>X1.o.sp.step FL.o MF.o (a9.o.trans h));have MT:=X1.o.fst.meet (M:=M) (x:=x) (f:=(f:Int)) (t:=(i:Int)) (λa ha=>(X1.o.sp.ends a ha).2.2.2);have CF:=aA (λ(G:World) (D:OAd) (q qc:Nat) (r:aY G D q qc x) (d:Below wr wr G) (o:iR wr D)=>vU (s1.arcs.length:Int) (T.o.keep d) (X.o.trans (d.mono X.o.size)) r (by rw[<-r.len];exact XL.o) XR.o (T.o.apart o) J e5);obtain⟨pp,b0⟩:=aK (qY M s1.marks a5 x (s1.arcs.length:Int));rw[b0]at MT;simp only[b0]at CF;obtain⟨f0,f1,k',ok⟩:=pp;clear b0;have K:=aA (show ∀G,Below wr wr G->G.cell? ⟨bf,5,none⟩=some (.slice V s1.arcs.length cv)from λG hb=>(T.o.box.keep hb).cell 5);obtain⟨na,Z⟩:=aK (s1.arcs.length);have h7:=aA Z;simp only[Z]at CF K d0 c9;rcases MT with⟨N,B⟩|⟨N,B,b1⟩
  .simp only at N;subst N;have RN:=aA (a1.o (a9.o.trans B));clear B Z;go_wp2_with (first
    |((with_reducible refine(tX a6.o Y.o (i:Int)).mono ?_);rw[HP.o];rintro e G ⟨D,q,qc,rfl,r,d,o⟩;have O:=aA (CF.o G D q qc r d o);have c5:=K.o G d;clear r d o)
    |(go_at_call 135;(with_reducible refine O.o.mono ?_);rintro e w3 ⟨u',z',rfl,F3,B3,S3,K3⟩;have B4:=aA B3;clear F3 B3 S3 K3))
   go_ret
   exact MH RN.o B4.o
  simp only at N B b1;subst N;have SP:=aA (e9.o _ B);have f2:=aA (a0.o.trans (a9.o.trans B));have f3:=aA b1;have WI:=aA (show(Lit.int .i64 (i:Int)).wf=true from jM (by omega));clear B b1 Z;go_wp2_with (first
   |((with_reducible refine(tX a6.o Y.o (i:Int)).mono ?_);rw[HP.o];rintro e G ⟨D,q,qc,rfl,r,d,o⟩;have O:=aA (CF.o G D q qc r d o);have d1:=aA d;have c5:=K.o G d;clear r d o)
   |(go_at_call 135;go_loud ((with_reducible refine O.o.mono ?_);rintro e w3 ⟨u',z',rfl,F3,B3,S3,K3⟩;have F4:=aA F3;have B4:=aA B3;have d2:=aA (K3 _ _ _ _ (e7.o.keep d1.o) d0.o);have d3:=aA (K3 _ _ _ _ (Y.o.keep d1.o) c9.o);have NB:=aA (show(Value.slice V na cv).ownBlock≠some bf by obtain⟨_,o1,_⟩:=id F3.arcs;exact dA o1 F3.box (by decide));clear c5;have c5:w3.cell? ⟨bf,5,none⟩=some (.slice V na cv):=F3.box.cell 5;clear F3 B3 S3 K3))
   |(at_builtin;go_loud (refine fV Qp rfl _ _ rfl [(⟨(f:Int),(i:Int),k'⟩:cC)] #[.int .i64 (f:Int),.int .i64 (i:Int),k'] rfl rfl (by first|rfl|simp) rfl (by omega) (by simp[Value.oneCell']) F4.o.arcs (cD.one (vs:=λj=>#[Value.int .i64 (f:Int),.int .i64 (i:Int),k'].getD j (.int .i64 0)) ⟨rfl,rfl,rfl,WI.o⟩ rfl (λj hj=>(by match j,hj with|0,_=>rfl|1,_=>rfl|2,_=>rfl))) rfl B4.o B4.o.size (by omega) (by omega) (λ_ _ _ _ h=>h) ?_;intro g6 g4 w6 Q a2 a3 S;have d4:=aA Q;have b2:=aA a2;have d5:=aA a3;have d6:=aA S;clear Q a2 a3 S c5;have c5:w6.cell? ⟨bf,5,none⟩=some (.slice V na cv):=(F4.o.box.grown b2.o NB.o).cell 5;have f5:=(F4.o.box.grown b2.o NB.o).frozen 5)))
  go_roundw
  case rel =>
   have FK:=F4.o.arc (by simp) d4.o b2.o d6.o;exact⟨k+1,u',_,z',⟨f0,s1.arcs++[⟨(f:Int),(i:Int),k'⟩]⟩,f1,by go_num,by omega,aA FK.1,aA (d5.o.grown (dH _ _ _ _) d5.o.size (λk hk=>by cases hk;exact F4.o.lo)),aA ⟨SP.o.1,f3.o,by simp;omega⟩,f2,aA (FK.2 _ _ _ _ d2.o.1 d2.o.2),aA (FK.2 _ _ _ _ d3.o.1 d3.o.2),aA (bD FL.o SP.o.2.length_le)⟩
  simp[intOf];omega
def uG.start (w1:World){B:Nat}(a:B<=w1.heap.size)(P:Int)(A:OAd)(n c:Nat)(most:Int) :
  uG ((w1.alloc (.map #[] 0)).alloc (.cells #[P,.slice A n c,most,.map (some w1),(),(),()] 155)) B (w1.heap.size+1) w1 P A n c most () () () [] [] [] [] where
 lo:=by omega
 lom:=a
 box:=Box.newAt (by simp) _ _
 map:=(AtM.made w1).of_block (heap_alloc_old _ _ (by simp))
 marks:=aJ.nil
 arcs:=aJ.nil
 first:=aJ.nil
def QL (N:eB)(most:Int)(r:PSp×Int)(w:World)(e:Ending)(w':World):Prop :=
 Below w.heap.size w w'/\((r.2≠0/\e=.returned (.tuple #[.pointer none,.int .i64 r.2]))∨(r.2=0/\∃(bf bm:Nat) (A:OAd) (n c:Nat) (u v z:Value) (fs:LIn),e=.returned (.tuple #[.pointer (some ⟨bf,0,none⟩),.int .i64 0])/\uG w' w.heap.size bf bm N.places A n c most u v z r.1.marks r.1.marks r.1.arcs fs/\QJ N most.toNat r.1 fs 7200/\r.1.marks.length<=300))
def Hw {w:World}{P:Int}{A B:OAd}{n c m d:Nat}{ts:List bG}{xs:LIn}(most:Int)(h:eC w A n c ts)(g:aY w B m d xs) :
  Calls Tryz.prog 82 #[.agg #[P,.slice A n c],.slice B m d,most] w (QL ⟨P,ts⟩ most (eD ⟨P,ts⟩ xs most) w):=by
 have j:=aA (aF w);have H:=aA h;have G:=aA g;have gs:=g.small;clear h g;have k:=@run_makeMap Tryz.prog;by_cases O:1<=most/\most<=300
 .obtain⟨t,x⟩:=O;obtain⟨M,rfl⟩:∃M:Nat,most=(M:Int):=⟨most.toNat,by omega⟩;have p:=aA (show(1:Int)<=(M:Int)/\(M:Int)<=300 from⟨t,x⟩);have a1:¬(M:Int)<1:=by omega
  have a2:¬(M:Int)>300:=by omega
  clear t x;go_enter Tryz.func82,Tryz.ntmps82
  cases hok:i7 ⟨P,ts⟩ xs
  .have J:=aA (show eD ⟨P,ts⟩ xs (M:Int)=(PSp.nil,2) by rw[eD,aD (by rw[hok];simp)]);have o:=aA (show gA ⟨P,ts⟩ xs=([],2) by rw[gA,hok];rfl);clear hok k;go_wp2_with ((with_reducible refine(uO (H.o.keep (j.o _)) (G.o.keep (j.o _))).mono ?_);rw[o.o];rintro e w1 ⟨C,l,lc,rfl,Q,a⟩;have q:=aA ((j.o (.cells #[P,.slice A n c] 41)).trans (a.mono (by simp)));clear Q a)
   exact aU (v:=.tuple #[.pointer none,(2:Int)]) (by simp[results,Tryz.results82,go_sem]) rfl (by rw[J.o];exact⟨q.o,.inl ⟨by decide,rfl⟩⟩)
  have R:=aA hok;have o:=aA (show gA ⟨P,ts⟩ xs=(jR ts xs,0) by rw[gA,hok];rfl);have HX:=aA (show xs.length<=16 by
   obtain⟨K,L,_⟩:=(cR _ _).1 hok;have h3:=((bN _).1 K).2.1;simp only at L h3;omega)
  have a0:m<=16:=by rw[<-G.o.len];exact HX.o
  clear hok;go_upto_region 6 with((with_reducible refine(uO (H.o.keep (j.o _)) (G.o.keep (j.o _))).mono ?_);rw[o.o];rintro e w1 ⟨C,l,lc,rfl,Q,a⟩;have q:=aA ((j.o (.cells #[P,.slice A n c] 41)).trans (a.mono (by simp)));have c0:w1.cell? w=some (.int .i64 P):=(a.cell (by simp)).trans (by simp);have c1:w1.cell? ⟨w,1,none⟩=some (.slice A n c):=(a.cell (by simp)).trans (by simp);clear Q a)
  go_upto_region 7 with fail
  clear k c0 c1;have N:=aA (uG.start w1 q.o.size P A n c (M:Int));have B2:=aA ((q.o.alloc q.o.size (.map #[] 0)).alloc (aT q.o.size (by simp)) (.cells #[P,.slice A n c,.int .i64 (M:Int),.map (some w1),(),(),()] 155));generalize (w1.alloc (.map #[] 0)).alloc (.cells #[P,.slice A n c,.int .i64 (M:Int),.map (some w1),(),(),()] 155)=w2 at *
  generalize w1.heap.size+1=bf at *
  generalize w1.heap.size=bm at *
  have G2:=aA (G.o.keep B2.o);have FP:=aA (show qY M [] [] xs (-1)=([xs],[-1],0,true) by
   have S:¬(0=M):=by have:=p.o;omega
   simp[qY,eH,S])
  have T:=aA (show eD ⟨P,ts⟩ xs (M:Int)=(match goM ⟨P,ts⟩ M M 0 ⟨[xs],[]⟩with|some s=>(s,0)|none=>(PSp.nil,4)) by
   rw[eD,aG ⟨p.o.1,p.o.2,R.o⟩];rfl)
  have U:=aA (λ(w':World) (u v z:Value) (K:uG w' w bf bm P A n c (M:Int) u v z [xs] [xs] [] [-1]) (L:Below w w w')=>EU (s:=⟨[xs],[]⟩) H.o (by have:=p.o;omega) K L ⟨tD.start R.o (by have:=p.o;omega),JG.start xs,aB _⟩);have RX:=aA ((cR _ _).1 R.o).2.2;obtain⟨r,V⟩:=aK (goM ⟨P,ts⟩ M M 0 ⟨[xs],[]⟩);rw[V]at T;simp only[V]at U;clear V;cases r with
  | none =>
   go_wp2_with (first
    |(go_at_call 133;(with_reducible refine(eY G2.o (by omega)).mono ?_);rintro e w3 ⟨vv,rfl,own,b⟩;obtain⟨X,cx,rfl,y⟩:=own.sl (by omega);have f:=aA (vU (-1) (N.o.keep b) (B2.o.trans (b.mono B2.o.size)) y (by omega) RX.o (N.o.apart (λW had=>by subst had;exact(own.lt W.block rfl).1)) (by simp) (by simp));clear own y b)
    |(go_at_call 135;go_loud ((with_reducible refine f.o.mono ?_);rw[FP.o];rintro e Y ⟨u',z',rfl,D,E,S4,Z⟩;have i:=aA (U.o Y _ _ _ D E);clear D E S4 Z))
    |(go_at_call 136;go_loud ((with_reducible refine i.o.mono ?_);rintro e w5 ⟨F,rfl⟩;have BZ:=aA F;clear F)))
   exact aU (v:=.tuple #[.pointer none,(4:Int)]) (by simp[results,Tryz.results82,go_sem]) rfl (by rw[T.o];exact⟨BZ.o,.inl ⟨by decide,rfl⟩⟩)
  | some s =>
   go_wp2_with (first
    |(go_at_call 133;(with_reducible refine(eY G2.o (by omega)).mono ?_);rintro e w3 ⟨vv,rfl,own,b⟩;obtain⟨X,cx,rfl,y⟩:=own.sl (by omega);have f:=aA (vU (-1) (N.o.keep b) (B2.o.trans (b.mono B2.o.size)) y (by omega) RX.o (N.o.apart (λW had=>by subst had;exact(own.lt W.block rfl).1)) (by simp) (by simp));clear own y b)
    |(go_at_call 135;go_loud ((with_reducible refine f.o.mono ?_);rw[FP.o];rintro e Y ⟨u',z',rfl,D,E,S4,Z⟩;have i:=aA (U.o Y _ _ _ D E);clear D E S4 Z))
    |(go_at_call 136;go_loud ((with_reducible refine i.o.mono ?_);rintro e w5 ⟨F,rfl,I⟩;have BZ:=aA F;have AN:=aA I;clear F I)))
   obtain⟨u,v,z,fs,hF,hX⟩:=AN.o;exact aU (v:=.tuple #[.pointer bf,(0:Int)]) (by simp[results,Tryz.results82,go_sem]) rfl (by rw[T.o];exact⟨BZ.o,.inr ⟨rfl,bf,bm,A,n,c,u,v,z,fs,rfl,hF,hX,by have:=hX.sp.few;have:=p.o;simp only;omega⟩⟩)
 .have J:=aA (show eD ⟨P,ts⟩ xs most=(PSp.nil,2) by rw[eD,aD (λh=>O ⟨h.1,h.2.1⟩)]);have BX:=aA (j.o (.cells #[P,.slice A n c] 41));clear k;go_enter Tryz.func82,Tryz.ntmps82
  by_cases K:most<1
  .go_wp2
   exact aU (v:=.tuple #[.pointer none,(2:Int)]) (by simp[results,Tryz.results82,go_sem]) rfl (by rw[J.o];exact⟨BX.o,.inl ⟨by decide,rfl⟩⟩)
  have L:most>300:=by omega
  clear O;go_wp2
  exact aU (v:=.tuple #[.pointer none,(2:Int)]) (by simp[results,Tryz.results82,go_sem]) rfl (by rw[J.o];exact⟨BX.o,.inl ⟨by decide,rfl⟩⟩)
def qH (r:PSp×Int)(w:World)(e:Ending)(w':World):Prop :=
 ∃U a V cv,e=.returned (.tuple #[.agg #[.slice U r.1.marks.length a,.slice V r.1.arcs.length cv],.int .i64 r.2])/\cQ w' U r.1.marks.length a r.1.marks/\qD w' V r.1.arcs.length cv r.1.arcs/\Below w.heap.size w w'
def uG.space {w w':World}{B bf bm b ty:Nat}{P:Int}{A:OAd}{n c:Nat}{most:Int}{u v z:Value}{mm ms:LLi}{ars:List cC}{fs:LIn}{cs:Array Value}(h:uG w B bf bm P A n c most u v z mm ms ars fs)(r:Box w b ty cs)(m:∀(j:Nat) (x:Int),cs[j]?≠some (.int .i64 x))(E:b<B)(o:d8 b w w')(p:w'.os=w.os)(a:w'.tape=w.tape)(f:w'.output=w.output)(F:ms.length<=7200)(G:ars.length<=7200) :
  ∃U g V cv,u=.slice U ms.length g/\v=.slice V ars.length cv/\cQ w' U ms.length g ms/\qD w' V ars.length cv ars:=by
 have q:w.grownBy w' (some b):=⟨p,a,f,Nat.le_of_eq o.1.symm,λk _ s=>o.2 k (λe=>s (by rw[e]))⟩;have t:aJ cS 1 w' B 24 u ms.length ms:=h.marks.turn q (.inr (λe=>by have:=(h.marks.lt b e).1;omega)) (λvs x d=>by
  obtain⟨A,n,c,e,i,l,_⟩:=d;exact⟨A,n,c,e,i.beside r m o,by omega⟩)
 have y:aJ qC 3 w' B 114 v ars.length ars:=h.arcs.turn q (.inr (λe=>by have:=(h.arcs.lt b e).1;omega)) (λvs x d=>d);obtain⟨U,g,C,s1⟩:=t.sl (by omega);obtain⟨V,cv,D,s2⟩:=y.sl (by omega);exact⟨U,g,V,cv,C,D,s1,s2⟩
def mI {w w':World}{k:Int}(a:Below w w w'):qH (PSp.nil,k) w (.returned (.tuple #[.agg #[(),()],k])) w' :=
 ⟨none,0,none,0,rfl,Sl.nil0,Sl.nil0,a⟩
def o0 {N:eB}{m:LIn}{most:Int}(h:(eD N m most).2≠0):(eD N m most).1=PSp.nil:=by
 unfold eD at h ⊢;split
 .rename_i a
  rw[aG a]at h;cases hg:goM N most.toNat most.toNat 0 ⟨[m],[]⟩ with
  | none=>rfl
  | some s=>rw[hg]at h;simp at h
 rfl
def cX {B b:Nat}{w0 w:World}(h:Below B w0 w)(c:B<=w0.heap.size)(d:B<=b)(u v:Value):Below B w0 ((w.setCell b u).setCell ⟨b,1,none⟩ v) :=
 (h.grown (dH w b 0 u) (aT c h.size) (λk a=>by cases a;exact d)).grown (dH _ b 1 v) (by simpa [World.setCell] using aT c h.size) (λk a=>by cases a;exact d)
def zL {w:World}{P:Int}{A B:OAd}{n c m d:Nat}{ts:List bG}{xs:LIn}(most:Int)(h:eC w A n c ts)(g:aY w B m d xs) :
  Calls Tryz.prog 31 #[.agg #[P,.slice A n c],.slice B m d,most] w (qH (eD ⟨P,ts⟩ xs most) w):=by
 generalize q:((w.alloc (.cells #[P,.slice A n c] 41)).alloc (.cells #[(),()] 78))=w0;have b:=aA (show Below w w w0 by rw[<-q];exact((aH _ _).alloc (aB _) _).alloc (by simp) _);have D:=aA (show Box w0 w 41 #[P,.slice A n c] by rw[<-q];exact(Box.new _ _ _).old _);have f:=aA (show Box w0 (w.heap.size+1) 78 #[(),()] by rw[<-q];exact Box.newAt (by simp) _ _);have l:=aA (Hw (P:=P) most (h.keep b.o) (g.keep b.o));have t:=aA (o0 (N:=⟨P,ts⟩) (m:=xs) (most:=most));clear h g;obtain⟨r,E⟩:=aK (eD ⟨P,ts⟩ xs most);rw[E]at l t;rw[E];clear E;obtain⟨s,k⟩:=r;go_enter Tryz.func31,Tryz.ntmps31
 go_upto_region 1 with fail
 clear q;obtain⟨a0,a1⟩:=D.o.two;obtain⟨z0,x⟩:=f.o.two;have y:=f.o.frozen 0;have C:=f.o.frozen 1;by_cases F:k=0
 .subst F;go_upto_region 2 with(go_at_call 82;go_loud ((with_reducible refine l.o.mono ?_);rintro e w1 ⟨o,⟨G,_⟩|⟨_,bf,bm,A1,n1,c1,u,v,z,fs,rfl,hF,Q,i⟩⟩;(exact absurd rfl G);have H:=aA hF;have W:=aA Q;have j:=aA o;have I:=aA i;clear hF Q o i))
  have a:=aA (f.o.keep j.o);have J:=aA (b.o.trans (j.o.mono b.o.size));have K:=aA f.o.lt;clear D f b l t a0 a1 z0 x y C j;have X:s.marks.length<=300:=I.o;obtain⟨U,p,V,cv,Y,Z,R,S⟩:=H.o.space a.o L7 K.o (d8.set2 w1 (w.heap.size+1) 0 1 u v) rfl rfl rfl (by omega) W.o.arcs;subst Y Z;have LL:=aA R;have LA:=aA S;clear R S;have c4:w1.cell? ⟨bf,4,none⟩=some (.slice U s.marks.length p):=H.o.box.cell 4;have c5:w1.cell? ⟨bf,5,none⟩=some (.slice V s.arcs.length cv):=H.o.box.cell 5;obtain⟨z0,x⟩:=a.o.two;have y:=a.o.frozen 0;have C:=a.o.frozen 1;go_wp2
  obtain⟨L,M⟩:=(a.o.set2 (.slice U s.marks.length p) (.slice V s.arcs.length cv)).two;have O:=cX J.o (aB _) (show w.heap.size<=w.heap.size+1 by omega) (.slice U s.marks.length p) (.slice V s.arcs.length cv);exact aU (v:=.tuple #[.agg #[.slice U s.marks.length p,.slice V s.arcs.length cv],(0:Int)]) (by simp[results,Tryz.results31,go_sem,L,M]) rfl ⟨U,p,V,cv,rfl,LL.o,LA.o,O⟩
 .have T:=aA (t.o F);simp only at T;go_upto_region 2 with(go_at_call 82;go_loud ((with_reducible refine l.o.mono ?_);rintro e w1 ⟨o,⟨_,rfl⟩|⟨he,_⟩⟩;rotate_left;(exact absurd he F);have j:=aA o;clear o))
  have a:=aA (f.o.keep j.o);have J:=aA (b.o.trans (j.o.mono b.o.size));clear D f b l t a0 a1 z0 x y C j;obtain⟨z0,x⟩:=a.o.two;have y:=a.o.frozen 0;have C:=a.o.frozen 1;go_wp2
  obtain⟨L,M⟩:=(a.o.set2 () ()).two;have O:=cX J.o (aB _) (show w.heap.size<=w.heap.size+1 by omega) () ();obtain rfl:s=PSp.nil:=T.o;exact aU (v:=.tuple #[.agg #[(),()],k]) (by simp[results,Tryz.results31,go_sem,L,M]) rfl (mI O)
structure EV (F:FuncId)(cap:Array Value)(w:World)(p:LIn->Bool):Prop where
 enters:∀args w,(callFunc F args).run Tryz.prog w=.ok (.enter F args) w
 calls:∀(wr:World) (A:OAd) (n c:Nat) (y:LIn),Below w.heap.size w wr->aY wr A n c y ->
  Calls Tryz.prog F (#[.slice A n c]++cap) wr λe w'=>e=.returned (.bool (p y))/\Below wr.heap.size wr w'
def yA {w:World}{A:OAd}{n c:Nat}{ms:LLi}{F:FuncId}{cap:Array Value}{p:LIn->Bool}(h:cQ w A n c ms)(hp:EV F cap w p) :
  Calls Tryz.prog 38 #[.slice A n c,.func (.func F) #[] cap] w λe w'=>e=.returned (.int .i64 (dL p ms))/\Below w w w':=by
 have K:=h.small;have f:=hp.enters;have H:=aA h;have G:=aA hp;clear h hp;go_enter Tryz.func38,Tryz.ntmps38
 go_wp2
 go_loopw [8] (λi wr=>∃k:Nat,k<=n/\i=k/\Hid (∀j,j<k->∀y,ms[j]?=some y->p y=false)/\Hid (Below w w wr)) (λi _=>n-(intOf i).toNat)
 case atStart=>exact⟨0,aL _,rfl,λj l=>absurd l (by omega),aH _ _⟩
 case round =>
  obtain⟨k,L,rfl,a,D⟩:=hrel;by_cases m:k<n
  rotate_left
  .go_wp2
   go_ret
   exact⟨a8 (dV (λj l y g=>a.o j (by have:=H.o.len;omega) y g)).symm,D.o⟩
  have I:(k:Int)<(n:Int):=by omega
  obtain⟨b,o,t,vs,rfl,M,u,x,A1,n1,c1,z,B,J⟩:=Sl.get (Sl.keep cS.kept H.o D.o) m;have N:wr.cell? ⟨b,o+k,none⟩=some (.slice A1 n1 c1):=by have:=x 0 (by omega);rw[z]at this;simpa using this
  have CL:=aA (G.o.calls wr A1 n1 c1 t D.o B);have C:=aA u;obtain⟨v,q⟩:=aK (p t);have E:=aA q;rw[q]at CL;clear q x z B u;cases v
  .go_wp2_with (refine CL.o.mono ?_;rintro e w' ⟨rfl,d⟩;have r:=aA d;clear d)
   go_roundw
   case rel =>
    refine⟨k+1,by omega,by go_num,λj l y g=>?_,D.o.trans (r.o.mono D.o.size)⟩;by_cases s:j=k
    .subst s;have:=C.o;rw[g]at this;injection this with this;rw[this];exact E.o
    exact a.o j (by omega) y g
   simp[intOf];omega
  go_wp2_with (refine CL.o.mono ?_;rintro e w' ⟨rfl,d⟩;have r:=aA d;clear d)
  go_ret
  exact⟨a8 (dU a.o C.o E.o).symm,D.o.trans (r.o.mono D.o.size)⟩
section
variable {w w':World} {B B2 g n cap:Nat} {L:LLi}
abbrev YQ (w:World)(B B2:Nat)(v:Value)(n:Nat)(L:LLi):Prop:=aJ (cZ B) 1 w B2 24 v n L
def YQ.lists {v:Value}(h:YQ w B B2 v n L)(f:n<=5864062014805):∃A c,v=.slice A n c/\cQ w A n c L:=by
 obtain⟨A,c,rfl,s⟩:=h.sl (by omega);exact⟨A,c,rfl,s.len,s.le,s.cap,s.small,s.nul,λf=>by
  obtain⟨b,d,e,g,j⟩:=s.cells f;exact⟨b,d,e,g,λi x k=>by obtain⟨vs,a,r⟩:=j i x k;exact⟨vs,a,r.list⟩⟩⟩
end
def nX (g:Nat):∀(vs:List Value) (o:Nat) (w:World),w.grownBy (w.setCells g o vs) (some g)
 | [],o,w=>gU _ _
 | v::r,o,w=>(show w.grownBy (w.setCell ⟨g,o,none⟩ v) (some g)from⟨rfl,rfl,rfl,by simp[World.setCell],λk _ a=>eN _ _ _ _ (λe=>a (by rw[e]))⟩).trans (nX g r (o+1) _)
def lH {w w':World}(a:Below w w w')(row:Option Nat):w.grownBy w' row:=⟨a.os,a.tape,a.output,a.size,λk b _=>a.block k b⟩
def kJ (w:World)(b j:Nat)(v:Value):w.grownBy (w.setCell ⟨b,j,none⟩ v) (some b) :=
 ⟨rfl,rfl,rfl,by simp[World.setCell],λk _ a=>eN _ _ _ _ (λe=>a (by rw[e]))⟩
def IsL (w:World)(N:Nat)(v:Value)(n:Nat)(xs:LIn):Prop:=∃A c,v=.slice A n c/\aY w A n c xs/\(0<n->∀a,A=some a->a.block<N)
def tI (N:Nat):World->(Nat->Value)->LIn->Prop:=λw vs xs=>∃n,IsL w N (vs 0) n xs/\n<=17592186043904
section
variable {w w':World} {N n:Nat} {v:Value} {xs:LIn}
def IsL.keep (h:IsL w N v n xs)(a:Below w w w'):IsL w' N v n xs:=by
 obtain⟨A,c,e,i,l⟩:=h;exact⟨A,c,e,i.keep a,l⟩
def IsL.grown (h:IsL w N v n xs){g:Nat}(a:w.grownBy w' (some g))(o:N<=g):IsL w' N v n xs:=by
 obtain⟨A,c,e,i,l⟩:=h;refine⟨A,c,e,aY.same i a.size (λb f j k m=>a.block b m (λd=>?_)),l⟩;have:=l k _ j;injection d with d;change b<N at this
 omega
def IsL.grownR (h:IsL w N v n xs){row:Option Nat}(a:w.grownBy w' row)(d:∀k,row=some k->N<=k):IsL w' N v n xs:=by
 obtain⟨A,c,e,i,l⟩:=h;refine⟨A,c,e,aY.same i a.size (λb f g j m=>a.block b m (λo=>?_)),l⟩;have:=l j _ g;have:=d b o.symm;change b<N at *
 omega
end
def tI.grownR {N:Nat}{w w':World}{vs:Nat->Value}{xs:LIn}(h:tI N w vs xs){row:Option Nat}(a:w.grownBy w' row)(b:∀k,row=some k->N<=k):tI N w' vs xs:=by
 obtain⟨n,i,l⟩:=h;exact⟨n,i.grownR a b,l⟩
def tI.kept (N:Nat):CU (tI N):=λ_ _ _ _ a ⟨n,h,l⟩=>⟨n,h.keep a,l⟩
def tI.list {N:Nat}{w:World}{vs:Nat->Value}{xs:LIn}(h:tI N w vs xs):cS w vs xs:=by
 obtain⟨n,⟨A,c,e,i,_⟩,l⟩:=h;exact⟨A,n,c,e,i,l⟩
def tI.good (N:Nat):Qi (tI N) 1 where
 kept:=tI.kept N
 one:=λw vs x h j a=>cS.good.one w vs x h.list j a
 pos:=by omega
def tI.of_list {w:World}{vs:Nat->Value}{xs:LIn}(h:cS w vs xs):tI w w vs xs:=by
 obtain⟨A,n,c,e,i,l⟩:=h;refine⟨n,⟨A,c,e,i,λf a d=>?_⟩,l⟩;obtain⟨b,g,j,k,_⟩:=i.cells f;rw[j]at d;injection d with d;rw[<-d];exact k
def Sl.lows {w:World}{A:OAd}{n c:Nat}{L:LLi}(h:cQ w A n c L):Sl (tI w) 1 w A n c L :=
 ⟨h.len,h.le,h.cap,h.small,h.nul,λf=>by
  obtain⟨b,d,e,g,j⟩:=h.cells f;exact⟨b,d,e,g,λi x k=>by obtain⟨vs,a,r⟩:=j i x k;exact⟨vs,a,tI.of_list r⟩⟩⟩
section
variable {w w':World} {B B2 g n cap:Nat} {L:LLi}
abbrev nY (w:World)(B B2:Nat)(v:Value)(n:Nat)(L:LLi):Prop:=aJ (tI B) 1 w B2 24 v n L
def nY.keep {v:Value}(h:nY w B B2 v n L)(a:Below w w w'):nY w' B B2 v n L:=aJ.keep (tI.kept B) h a
def nY.lists {v:Value}(h:nY w B B2 v n L)(f:n<=5864062014805):∃A c,v=.slice A n c/\cQ w A n c L:=by
 obtain⟨A,c,rfl,s⟩:=h.sl (by omega);exact⟨A,c,rfl,s.len,s.le,s.cap,s.small,s.nul,λf=>by
  obtain⟨b,d,e,g,j⟩:=s.cells f;exact⟨b,d,e,g,λi x k=>by obtain⟨vs,a,r⟩:=j i x k;exact⟨vs,a,r.list⟩⟩⟩
def nY.at (h:nY w B B2 (.slice g n cap) n L){j:Nat}{a:LIn}(d:L[j]?=some a):∃A m c,w.cell? ⟨g,j,none⟩=some (.slice A m c)/\IsL w B (.slice A m c) m a/\m<=17592186043904:=by
 obtain⟨b,f,i,k⟩:=h;obtain⟨vs,e,m,⟨A,c,l,o,hp⟩,p⟩:=i.2 j a d;have e0:=e 0 (by omega);rw[l]at e0;have q:j<n:=by rw[<-k];exact(aR.1 d).1
 exact⟨A,m,c,by rw[f.cellAt j (by omega)];simpa using e0,⟨A,c,rfl,o,hp⟩,p⟩
def nY.frozen (h:nY w B B2 (.slice g n cap) n L)(j:Nat):w.frozen? ⟨g,j,none⟩=false:=by
 obtain⟨a,b,_⟩:=h;exact b.frozenAt j
def nY.put (h:nY w B B2 (.slice g n cap) n L)(o:B<=B2)(i:Nat){v:Value}{m:Nat}{a:LIn}(p:IsL w B v m a)(q:m<=17592186043904):nY (w.setCell ⟨g,i,none⟩ v) B B2 (.slice g n cap) n (L.set i a):=by
 have r:=(h.lt g rfl).1;have c:=p.grown (kJ w g i v) (by omega);obtain⟨d,s,f,t⟩:=h;refine⟨_,(s.stored i v).1,⟨by simpa using f.1,λk x b=>?_⟩,by simpa using t⟩;rw[iG]at b;split at b
 .rename_i e
  subst e;split at b
  .rename_i u
   injection b with b;subst b;refine⟨λ_=>v,λj l=>?_,m,c,q⟩;obtain rfl:j=0:=by omega
   rw[iG,aG (by omega),aG (by have:=f.1;omega)]
  cases b
 rename_i y
 obtain⟨vs,e,z,A,C⟩:=f.2 k x b;refine⟨vs,λj l=>?_,z,A.grown (kJ w g i v) (by omega),C⟩;rw[iG,aD (by omega)];exact e j l
def nY.cutAt {i:Nat}(h:nY w B B2 (.slice g n cap) n L)(f:B<=B2)(l:i<=n)(vs:List Value):nY (w.setCells g i vs) B B2 (.slice g i cap) i (L.take i):=by
 have m:=(h.lt g rfl).1;obtain⟨b,o,c,z⟩:=h;obtain⟨c2,p,q⟩:=rI vs i w _ o;have d:=QD p l;rw[q]at d;have r:=nX g vs i w;refine⟨_,d,⟨by have:=c.1;simp only[dT];omega,λk x a=>?_⟩,by rw[dT];omega⟩;rw[uH]at a;split at a
 .rename_i A
  obtain⟨s,e,t,u,v⟩:=c.2 k x a;refine⟨s,λj y=>?_,t,u.grown r (by omega),v⟩;rw[uH,aG (by omega)];exact e j y
 cases a
def nY.anyCell (h:nY w B B2 (.slice g n cap) n L){j:Nat}(a:j<n):(w.cell? ⟨g,j,none⟩).isSome=true:=by
 obtain⟨A,m,c,e,_⟩:=h.at (j:=j) (aV (by rw[h.len];exact a));rw[e];rfl
def nY.ints {m c:Nat}{A:OAd}{a:LIn}(h:IsL w B (.slice A m c) m a)(b:m<=17592186043904):aY w A m c a:=by
 obtain⟨A2,g,e,i,_⟩:=h;injection e with d _ f;rw[d,f];exact i
end
structure qI (F:FuncId)(cap:Array Value)(w:World)(g:Nat)(L:LLi)(p:LIn->Bool):Prop where
 enters:∀args w,(callFunc F args).run Tryz.prog w=.ok (.enter F args) w
 calls:∀(wr:World) (A:OAd) (n c:Nat) (y:LIn),y∈L->w.grownBy wr (some g)->aY wr A n c y ->
  Calls Tryz.prog F (#[.slice A n c]++cap) wr λe w'=>e=.returned (.bool (p y))/\Below wr.heap.size wr w'
def nI {w:World}{A:OAd}{n c:Nat}{ms:LLi}{F:FuncId}{cap:Array Value}{g:Nat}{p:LIn->Bool}(h:cQ w A n c ms)(hp:qI F cap w g ms p) :
  Calls Tryz.prog 38 #[.slice A n c,.func (.func F) #[] cap] w λe w'=>e=.returned (.int .i64 (dL p ms))/\Below w w w':=by
 have L:=h.small;have f:=hp.enters;have H:=aA h;have I:=aA hp;clear h hp;go_enter Tryz.func38,Tryz.ntmps38
 go_wp2
 go_loopw [8] (λi wr=>∃k:Nat,k<=n/\i=k/\Hid (∀j,j<k->∀y,ms[j]?=some y->p y=false)/\Hid (Below w w wr)) (λi _=>n-(intOf i).toNat)
 case atStart=>exact⟨0,aL _,rfl,λj m=>absurd m (by omega),aH _ _⟩
 case round =>
  obtain⟨k,M,rfl,a,D⟩:=hrel;by_cases o:k<n
  rotate_left
  .go_wp2
   go_ret
   exact⟨a8 (dV (λj m y l=>a.o j (by have:=H.o.len;omega) y l)).symm,D.o⟩
  have J:(k:Int)<(n:Int):=by omega
  obtain⟨b,q,t,vs,rfl,N,r,z,A1,n1,c1,B,C,K⟩:=Sl.get (Sl.keep cS.kept H.o D.o) o;have O:wr.cell? ⟨b,q+k,none⟩=some (.slice A1 n1 c1):=by have:=z 0 (by omega);rw[B]at this;simpa using this
  have CL:=aA (I.o.calls wr A1 n1 c1 t (aS r) (lH D.o _) C);have E:=aA r;obtain⟨v,s⟩:=aK (p t);have G:=aA s;rw[s]at CL;clear s z B C r;cases v
  .go_wp2_with (refine CL.o.mono ?_;rintro e w' ⟨rfl,d⟩;have u:=aA d;clear d)
   go_roundw
   case rel =>
    refine⟨k+1,by omega,by go_num,λj m y l=>?_,D.o.trans (u.o.mono D.o.size)⟩;by_cases x:j=k
    .subst x;have:=E.o;rw[l]at this;injection this with this;rw[this];exact G.o
    exact a.o j (by omega) y l
   simp[intOf];omega
  go_wp2_with (refine CL.o.mono ?_;rintro e w' ⟨rfl,d⟩;have u:=aA d;clear d)
  go_ret
  exact⟨a8 (dU a.o E.o G.o).symm,D.o.trans (u.o.mono D.o.size)⟩
def Ww (w0:World)(B:Nat)(w:World)(g:Nat)(L:LLi)(e:Ending)(w':World):Prop:=∃k a,e=.returned (.slice (some ⟨g,0,none⟩) k a)/\nY w' B w0.heap.size (.slice (some ⟨g,0,none⟩) k a) k L/\w.grownBy w' (some g)
def Bw {w0 w:World}{B g n cap:Nat}{L:LLi}{F:FuncId}{cv:Array Value}{p:LIn->Bool}(own:nY w B w0 (.slice g n cap) n L)(G:n<=5864062014805)(hp:qI F cv w g L p)(o:B<=w0.heap.size) :
  Calls Tryz.prog 58 #[.slice g n cap,.func (.func F) #[] cv] w (Ww w0 B w g (L.filter λa=>!p a)):=by
 have C:=hp.enters;have H:=aA hp;have r:=aA own;have W:=aA (show L.length=n from aJ.len own);clear own hp;rcases zI p L with I|⟨k,x,D,f,lo⟩
 .have J:=aA (rH I);have K:=aA (show dL p L=-1 from dV (λj hj y hy=>I j y hy));obtain⟨A1,c1,c,h⟩:=r.o.lists G;injection c with c _ s;subst c s;clear I;go_enter Tryz.func58,Tryz.ntmps58
  go_wp2_with (refine(nI h H.o).mono ?_;rintro e w1 ⟨rfl,b⟩;rw[K.o];have X:=aA b;clear b)
  go_ret
  rw[J.o];exact⟨n,cap,rfl,r.o.keep X.o,lH X.o _⟩
 .have K:=aA (show dL p L=(k:Int)from dU lo D f);have DI:=aA (Qc.start D f lo);have a3:k<n:=by have:=(aR.1 D).1;have:=W.o;omega
  have N:((k:Int)==-1)=false:=by simp
  obtain⟨A1,c1,c,h⟩:=r.o.lists G;injection c with c _ s;subst c s;clear lo D f;go_enter Tryz.func58,Tryz.ntmps58
  go_wp2_with (refine(nI h H.o).mono ?_;rintro e w1 ⟨rfl,b⟩;rw[K.o];have G1:=aA (show w.grownBy w1 (some g)from⟨b.os,b.tape,b.output,b.size,λk hk _=>b.block k hk⟩);have O1:=aA (r.o.keep b);clear b)
  clear r N h;go_loopw [5,6] (λu v wr=>∃i j:Nat,u=i/\v=j/\i<j/\j<=n/\∃M,Hid (nY wr B w0 (.slice g n cap) n M)/\Hid (Qc p L M i j)/\Hid (w.grownBy wr (some g))) (λ_ v _=>n-(intOf v).toNat)
  case atStart=>exact⟨k,k+1,rfl,by go_num,by omega,by omega,L,O1,DI,G1⟩
  obtain⟨i,j,rfl,rfl,a4,hj,M,d,DL,E⟩:=hrel;by_cases a5:j<n
  .have a6:(j:Int)<(n:Int):=by omega
   have t:(i:Int)<(n:Int):=by omega
   have a9:i<n:=by omega
   have z:j<M.length:=by have:=d.o.len;omega
   obtain⟨a,O⟩:∃a,M[j]?=some a:=⟨_,aV z⟩;obtain⟨AA,am,ac,q0,Q,m⟩:=d.o.at O;have IA:=aA Q;have HM:=aA m;have R:=aA (show L[j]?=some a by rw[<-DL.o.rest j (aB _)];exact O);have CL:=aA (H.o.calls wr AA am ac a (aS R.o) E.o (nY.ints Q m));obtain⟨v,S⟩:=aK (p a);have Y:=aA S;rw[S]at CL;clear S O z Q m;cases v
   .go_wp2_with (refine CL.o.mono ?_;rintro e u1 ⟨rfl,b⟩;have T:=aA (E.o.trans (lH b (some g)));have A:=aA (d.o.keep b);have U:=aA (IA.o.keep b);obtain⟨v0,y0⟩:=lB.1 (nY.anyCell A.o (j:=i) (by omega));have z0:=nY.frozen A.o i;clear b)
    go_roundw
    case rel=>exact⟨i+1,j+1,by go_num,by go_num,by omega,by omega,M.set i a,aA (nY.put A.o o i U.o HM.o),DL.o.take R.o Y.o,aA (T.o.trans (kJ _ g i _))⟩
    simp[intOf];omega
   go_wp2_with (refine CL.o.mono ?_;rintro e u1 ⟨rfl,b⟩;have T:=aA (E.o.trans (lH b (some g)));have A:=aA (d.o.keep b);clear b)
   go_roundw
   case rel=>exact⟨i,j+1,rfl,by go_num,by omega,by omega,M,A,DL.o.skip R.o Y.o,T⟩
   simp[intOf];omega
  obtain rfl:n=j:=by omega
  have V:=aA (λty=>Lib.run_clear_slice (P:=Tryz.prog) wr 30 24 ty () Tryz.underlying30 (λw=>by kernel_rfl) rfl rfl g i (n-i) (cap-i) (by omega) (λq hq=>nY.anyCell d.o (by omega)) (λq hq=>nY.frozen d.o _));obtain⟨A1,c1,c,h⟩:=d.o.lists G;injection c with c _ s;subst c s;have Z:=h.le;have c:=V.o;have a0:(i:Int)<=(n:Int):=by omega
  have a1:(i:Int)<=(cap:Int):=by omega
  have b0:(n:Int)<=(cap:Int):=by omega
  have b2:¬cap=0:=by omega
  have b3:¬cap=i:=by omega
  have t:i<=n:=by omega
  have a2:i<=cap:=by omega
  clear h;go_wp2
  go_ret
  have J:M.take i=L.filter λa=>!p a:=by
   have:=DL.o.kept;rwa[aW (l:=L) (by rw[W.o];exact aB _)]at this
  have:=d.o.cutAt o t (List.replicate (n-i) ());rw[J]at this;exact⟨i,cap,rfl,this,E.o.trans (nX _ _ _ _)⟩
def By {w:World}{F:FuncId}{cv:Array Value}{p:LIn->Bool}(hp:qI F cv w w [] p) :
  Calls Tryz.prog 58 #[(),.func (.func F) #[] cv] w λe w'=>e=.returned ()/\Below w w w':=by
 have a:=hp.enters;have c:=aA hp;clear hp;go_enter Tryz.func58,Tryz.ntmps58
 go_wp2_with (refine(nI (Sl.nil0:cQ w none 0 0 []) c.o).mono ?_;rintro e w1 ⟨rfl,b⟩;rw[show dL p []=-1 from rfl];have d:=aA b;clear b)
 go_ret
 exact⟨rfl,d.o⟩
def qU {w:World}{A:OAd}{n c:Nat}{L:LLi}(h:cQ w A n c L)(s:n<=1000000000000) :
  Calls Tryz.prog 59 #[.slice A n c] w λe w'=>∃v,e=.returned v/\nY w' w w v n L/\Below w w w':=by
 have g:=aA (show ∀o,Below w w (w.alloc o)from λo=>(aH _ _).alloc (aB _) _);rcases A with _|i
 .have j:=h.nul rfl;have b:n=0:=by have:=h.le;omega
  subst j b;have l:=dS h.len;subst l;clear h;have m:=λ(w:World)=>Lib.run_eql_slice_nil (P:=Tryz.prog) w 30 24 none 0 0 0 0 Tryz.underlying30
  go_enter Tryz.func59,Tryz.ntmps59
  go_wp2
  go_ret
  exact⟨_,rfl,aJ.nil,aH _ _⟩
 .have H:=aA h;have O:=aA (aJ.empty (R:=tI w) (sz:=1) (w:=w) (B:=w.heap.size) (e:=24) (aB _));have p:=aA (Sl.keep (tI.kept _) (Sl.lows h) (g.o (.cells #[] 24)));clear h;have m:=λ(w:World)=>Lib.run_eql_slice_nil (P:=Tryz.prog) w 30 24 (some i) n c 0 0 Tryz.underlying30
  go_enter Tryz.func59,Tryz.ntmps59
  go_wp2_with (at_builtin;refine xA lO (tI.good w) rfl _ _ rfl rfl rfl O.o p.o (g.o _) (by simp) (by omega) (by omega) (λw' q _ _ h=>h.grownR q (λk d=>by injection d with d;subst d;exact aB _)) ?_;intro v1 w1 a r f)
  go_ret
  exact⟨_,rfl,by simpa using a,f⟩
def Sl.tail1 {α:Type}{R:World->(Nat->Value)->α->Prop}{w:World}{b a n c:Nat}{x:α}{xs:List α}(h:Sl R 1 w (some ⟨b,a,none⟩) n c (x::xs)) :
  Sl R 1 w (if c=1 then some ⟨b,a,none⟩else some ⟨b,a+1,none⟩) (n-1) (c-1) xs:=by
 have k:=h.len;simp at k;refine⟨by omega,by have:=h.le;omega,by have:=h.cap;omega,by have:=h.small;omega,λf=>?_,λf=>?_⟩
 .split at f <;> cases f
 .have l:c≠1:=by have:=h.le;omega
  rw[aD l];obtain⟨u,g,e,m,d⟩:=h.cells (by omega);injection e with e;injection e with o p _;subst o p;refine⟨b,a+1,rfl,m,λi y q=>?_⟩;obtain⟨vs,r,s⟩:=d (i+1) y (by simpa using q);refine⟨vs,λj t=>?_,s⟩;have:=r j t;rw[show a+((i+1)*1+j)=a+1+(i*1+j)from by omega]at this;exact this
structure xJ (w:World)(g n cap:Nat)(xs:LIn):Prop where
 len:xs.length=n
 le:n<=cap
 cap:cap<=maxLen
 blk:∃cur,w.heap[g]?=some (.cells cur 3 (0,0))/\cur.toList.take n=xs.map (Value.int .i64)
section
variable {w w':World} {g n cap:Nat} {xs:LIn}
def xJ.lt (h:xJ w g n cap xs):g<w.heap.size:=by
 obtain⟨a,b,_⟩:=h.blk;exact(f8.1 b).1
def xJ.cell (h:xJ w g n cap xs){i:Nat}{x:Int}(b:xs[i]?=some x):w.cell? ⟨g,i,none⟩=some (.int .i64 x):=by
 obtain⟨a,d,e⟩:=h.blk;have f:i<n:=by rw[<-h.len];exact(aR.1 b).1
 have c:(a.toList.take n)[i]?=(xs.map (Value.int .i64))[i]?:=by rw[e]
 rw[sB f,dF,b]at c;simp only[World.cell?,d];simp only[Option.isSome_none,Bool.false_eq_true,if_false];rw[<-nA,c];rfl
def xJ.ints (h:xJ w g n cap xs)(a:n<=281474976710656):aY w (some ⟨g,0,none⟩) n cap xs :=
 ⟨h.len,h.le,h.cap,a,λe=>(by cases e),λ_=>⟨g,0,rfl,h.lt,λi x b=>⟨λ_=>.int .i64 x,λj c=>by
  obtain rfl:j=0:=by omega
  rw[show 0+(i*1+0)=i by omega];exact h.cell b,rfl⟩⟩⟩
def xJ.same (h:xJ w g n cap xs)(b:w'.heap[g]?=w.heap[g]?):xJ w' g n cap xs:=by
 obtain⟨a,c,d⟩:=h.blk;exact⟨h.len,h.le,h.cap,a,b.trans c,d⟩
def xJ.kept (h:xJ w g n cap xs){row:Option Nat}(b:w.grownBy w' row)(a:row≠some g):xJ w' g n cap xs:=h.same (b.block g h.lt (Ne.symm a))
def xJ.keep (h:xJ w g n cap xs)(a:Below w w w'):xJ w' g n cap xs:=h.same (a.block g h.lt)
def xJ.of_own {B:Nat}(h:aI w B (.slice g n cap) n xs):xJ w g n cap xs/\B<=g:=by
 have d:=h.len;have f:=h.row;rcases f.2 with⟨e,_⟩|⟨l,c,b,e,i,j,a1,a2,a3,a4⟩
 .cases e
 injection e with a _ k;injection a with a;injection a with a;subst a k;exact⟨⟨d,a1,a2,b,j,by rw[j8]at a4;exact a4⟩,i⟩
def xJ.one {x:Int}(h:xJ w g n cap (x::xs)):xJ w g 1 1 [x]:=by
 obtain⟨a,c,d⟩:=h.blk;refine⟨rfl,aB _,by simp[maxLen],a,c, ?_⟩;have e:n=xs.length+1:=by rw[<-h.len];rfl
 have b:=aO (List.take 1) d;rw[List.take_take,show min 1 n=1 by omega]at b;simpa using b
end
def ApR (P:Nat->Prop):World->(Nat->Value)->LIn->Prop:=λw vs xs=>∃g n cap,vs 0=.slice (some ⟨g,0,none⟩) n cap/\xJ w g n cap xs/\P g/\n<=17592186043904
def ApR.kept (P:Nat->Prop):CU (ApR P):=λ_ _ _ _ a ⟨g,n,cap,e,h,p,l⟩=>⟨g,n,cap,e,h.keep a,p,l⟩
def ApR.list {P:Nat->Prop}{w:World}{vs:Nat->Value}{xs:LIn}(h:ApR P w vs xs):cS w vs xs:=by
 obtain⟨g,n,cap,e,h,p,l⟩:=h;exact⟨_,n,cap,e,h.ints (by omega),l⟩
def ApR.wide {P Q:Nat->Prop}{w:World}(hp:∀k,k<w.heap.size->P k->Q k){vs:Nat->Value}{xs:LIn}(h:ApR P w vs xs):ApR Q w vs xs:=by
 obtain⟨g,n,cap,e,h,p,l⟩:=h;exact⟨g,n,cap,e,h,hp g h.lt p,l⟩
def ApR.grown {P:Nat->Prop}{w w':World}{row:Option Nat}(b:w.grownBy w' row)(a:∀k,row=some k->¬P k){vs:Nat->Value}{xs:LIn}(h:ApR P w vs xs):ApR P w' vs xs:=by
 obtain⟨g,n,cap,e,h,p,l⟩:=h;exact⟨g,n,cap,e,h.kept b (λe=>a g e p),p,l⟩
def ApR.grownRow {P:Nat->Prop}{w w':World}{B2 size n e:Nat}{v:Value}{a:List Value}(c:w.ownsRow B2 e size v n a)(d:3≠e)(j:w.grownBy w' v.ownBlock){vs:Nat->Value}{xs:LIn}(h:ApR P w vs xs):ApR P w' vs xs:=by
 obtain⟨g,n,cap,k,h,p,l⟩:=h;refine⟨g,n,cap,k,h.kept j (λe=>?_),p,l⟩;obtain⟨m,b,_⟩:=h.blk;rcases c.2 with⟨rfl,_⟩|⟨o,f,i,rfl,_,q,_⟩
 .cases e
 injection e with e;change o=g at e
 subst e;rw[q]at b;injection b with b;injection b with _ b _;exact d b.symm
abbrev Hy (w:World)(P:Nat->Prop)(B2:Nat)(v:Value)(n:Nat)(L:LLi):Prop:=aJ (ApR P) 1 w B2 24 v n L
abbrev mJ (w:World)(B B2:Nat)(v:Value)(n:Nat)(L:LLi):Prop:=Hy w (λk=>B<=k) B2 v n L
def IsI (w:World)(P:Nat->Prop)(v:Value)(n:Nat)(xs:LIn):Prop:=∃g cap,v=.slice (some ⟨g,0,none⟩) n cap/\xJ w g n cap xs/\P g
section
variable {w w':World} {P:Nat->Prop} {B B2 g n cap:Nat} {L:LLi}
def Hy.keep {v:Value}(h:Hy w P B2 v n L)(a:Below w w w'):Hy w' P B2 v n L:=aJ.keep (ApR.kept _) h a
def Hy.wide {Q:Nat->Prop}{v:Value}(hp:∀k,k<w.heap.size->P k->Q k)(h:Hy w P B2 v n L):Hy w Q B2 v n L:=by
 obtain⟨b,d,c,e⟩:=h;exact⟨b,d,⟨c.1,λi x f=>by obtain⟨vs,a,r⟩:=c.2 i x f;exact⟨vs,a,r.wide hp⟩⟩,e⟩
def Hy.grown {v:Value}(h:Hy w P B2 v n L){row:Option Nat}(b:w.grownBy w' row)(a:∀k,row=some k->¬P k)(c:v.ownBlock=none∨v.ownBlock≠row):Hy w' P B2 v n L :=
 aJ.kept h b c (λ_ _ d=>d.grown b a)
def mJ.keep {v:Value}(h:mJ w B B2 v n L)(a:Below w w w'):mJ w' B B2 v n L:=aJ.keep (ApR.kept _) h a
def mJ.lists {v:Value}(h:Hy w P B2 v n L)(f:n<=5864062014805):∃A c,v=.slice A n c/\cQ w A n c L:=by
 obtain⟨A,c,rfl,s⟩:=h.sl (by omega);exact⟨A,c,rfl,s.len,s.le,s.cap,s.small,s.nul,λf=>by
  obtain⟨b,d,e,g,j⟩:=s.cells f;exact⟨b,d,e,g,λi x k=>by obtain⟨vs,a,r⟩:=j i x k;exact⟨vs,a,r.list⟩⟩⟩
def mJ.at (h:mJ w B B2 (.slice g n cap) n L){j:Nat}{a:LIn}(f:L[j]?=some a):∃A m c,w.cell? ⟨g,j,none⟩=some (.slice A m c)/\IsI w (λk=>B<=k) (.slice A m c) m a/\m<=17592186043904:=by
 obtain⟨d,i,l,o⟩:=h;obtain⟨vs,e,b,m,c,p,q,hp,r⟩:=l.2 j a f;have e0:=e 0 (by omega);rw[p]at e0;have s:j<n:=by rw[<-o];exact(aR.1 f).1
 exact⟨_,m,c,by rw[i.cellAt j (by omega)];simpa using e0,⟨b,c,rfl,q,hp⟩,r⟩
def mJ.frozen (h:mJ w B B2 (.slice g n cap) n L)(j:Nat):w.frozen? ⟨g,j,none⟩=false:=by
 obtain⟨a,b,_⟩:=h;exact b.frozenAt j
def IsI.put {v u:Value}{m i:Nat}{x:LIn}(h:Hy w P B2 (.slice g n cap) n L)(o:IsI w P v m x):IsI (w.setCell ⟨g,i,none⟩ u) P v m x:=by
 obtain⟨j,t,_⟩:=h;obtain⟨b,c,e,f,hp⟩:=o;have r:ApR (λk=>k=b) w (λ_=>.slice b 0 c) []:=⟨b,0,c,rfl,⟨rfl,aL _,f.cap,by obtain⟨a,q,_⟩:=f.blk;exact⟨a,q,by simp⟩⟩,rfl,by omega⟩;have y:=kJ w g i u;by_cases l:g=b
 .subst l;exfalso
  obtain⟨a,q,_⟩:=f.blk;rcases t.2 with⟨e,_⟩|⟨B,p,s,e,_,z,_⟩
  .cases e
  injection e with d;injection d with d;injection d with d;subst d;rw[z]at q;injection q with q;injection q with _ q _;exact absurd q (by decide)
 exact⟨b,c,e,f.kept y (λA=>l (by injection A)),hp⟩
def sJ {v:Value}{m:Nat}{x:LIn}(h:mJ w B B2 (.slice g n cap) n L)(o:IsI w (λk=>B<=k) v m x)(i:Nat)(u:Value):IsI (w.setCell ⟨g,i,none⟩ u) (λk=>B<=k) v m x:=o.put h
def mJ.put (h:mJ w B B2 (.slice g n cap) n L)(i:Nat){v:Value}{m:Nat}{a:LIn}(s:IsI w (λk=>B<=k) v m a)(t:m<=17592186043904):mJ (w.setCell ⟨g,i,none⟩ v) B B2 (.slice g n cap) n (L.set i a):=by
 have l:=s.put (i:=i) (u:=v) h;obtain⟨o,q,p,y⟩:=h;have z:w.grownBy (w.setCell ⟨g,i,none⟩ v) (Value.slice g n cap).ownBlock:=⟨rfl,rfl,rfl,by simp[World.setCell],λk _ f=>eN _ _ _ _ (λe=>f (by rw[e];rfl))⟩;refine⟨_,(q.stored i v).1,⟨by simpa using p.1,λk x d=>?_⟩,by simpa using y⟩;rw[iG]at d;split at d
 .rename_i e
  subst e;split at d
  .rename_i A
   injection d with d;subst d;obtain⟨b,c,C,D,E⟩:=l;refine⟨λ_=>v,λj r=>?_,b,m,c,C,D,E,t⟩;obtain rfl:j=0:=by omega
   rw[iG,aG (by omega),aG (by have:=p.1;omega)]
  cases d
 rename_i f
 obtain⟨vs,e,F⟩:=p.2 k x d;refine⟨vs,λj r=>?_,ApR.grownRow q (by decide) z F⟩;rw[iG,aD (by omega)];exact e j r
def mJ.anyCell (h:mJ w B B2 (.slice g n cap) n L){j:Nat}(a:j<n):(w.cell? ⟨g,j,none⟩).isSome=true:=by
 obtain⟨A,m,c,e,_⟩:=h.at (j:=j) (aV (by rw[h.len];exact a));rw[e];rfl
def mJ.ints {m c:Nat}{A:OAd}{a:LIn}(h:IsI w P (.slice A m c) m a)(g:m<=17592186043904):aY w A m c a:=by
 obtain⟨b,j,e,i,_⟩:=h;injection e with d _ f;rw[d,f];exact i.ints (by omega)
def IsI.keep {v:Value}{a:LIn}(h:IsI w P v n a)(c:Below w w w'):IsI w' P v n a:=by
 obtain⟨b,d,e,i,p⟩:=h;exact⟨b,d,e,i.keep c,p⟩
end
def JR (f:Nat->LIn)(n:Nat):LLi:=(List.range n).map f
def gW {f:Nat->LIn}{n k:Nat}(h:k<n):(JR f n)[k]?=some (f k):=by simp[JR,h]
def uU (f:Nat->LIn)(n:Nat):(JR f n).length=n:=by simp[JR]
def uV {f:Nat->LIn}{n i j:Nat}(d:i<n)(g:j<n):((JR f n).set i (f j)).set j (f i)=JR (kO f i j) n:=by
 apply iE
 intro k;by_cases c:k<n
 .rw[gW c,iG,kB,uU,iG,uU,gW c];unfold kO;by_cases b:j=k
  .subst b;rw[aG rfl,aG g];by_cases a:j=i
   .subst a;rw[aG rfl]
   rw[aD a,aG rfl]
  rw[aD b];by_cases a:i=k
  .subst a;rw[aG rfl,aG d,aG rfl]
  rw[aD a,aD (λe=>a e.symm),aD (λe=>b e.symm)]
 rw[dC (by simp[uU];omega),dC (by rw[uU];omega)]
abbrev nJ (w:World)(B B2 g n cap:Nat)(f:Nat->LIn):Prop:=mJ w B B2 (.slice (some ⟨g,0,none⟩) n cap) n (JR f n)
def mP {w:World}{B B2 g n cap:Nat}{f:Nat->LIn}(own:nJ w B B2 g n cap f)(a b k:Nat)(ha:a+k<=n)(hb:b+k<=n)(hd:a+k<=b∨b+k<=a)(hn:n<=1000)(S:Value) :
  Calls Tryz.prog 223 #[.slice g n cap,a,b,k,S] w λe w'=>(∃y,e=.returned y)/\nJ w' B B2 g n cap (Bo f a b k)/\w.grownBy w' (some g):=by
 have J:=aA own;clear own;go_enter Tryz.func223,Tryz.ntmps223
 go_wp2
 go_loopg [10] k (λgk u wr=>∃i:Nat,i+gk=k/\u=i/\Hid (nJ wr B B2 g n cap (Bo f a b i))/\Hid (w.grownBy wr (some g)))
 case atStart=>exact⟨0,by omega,rfl,aA (by rw[Qx];exact J.o),aA (gU _ _)⟩
 case round =>
  clear J;obtain⟨i,hi,rfl,r,s⟩:=hrel;by_cases T:i<k
  rotate_left
  .obtain rfl:i=k:=by omega
   go_wp2
   exact eR (v:=.tuple #[]) (by simp[results,Tryz.results223,go_sem]) rfl ⟨⟨_,rfl⟩,r.o,s.o⟩
  have U:(i:Int)<(k:Int):=by omega
  have V:IntKind.i64.wrap ((a:Int)+(i:Int))=(a:Int)+(i:Int):=by simp[IntKind.wrap,IntKind.bits,IntKind.signed];omega
  have W:IntKind.i64.wrap ((b:Int)+(i:Int))=(b:Int)+(i:Int):=by simp[IntKind.wrap,IntKind.bits,IntKind.signed];omega
  have t:0<=(a:Int)+(i:Int)/\(a:Int)+(i:Int)<(n:Int):=by omega
  have x:0<=(b:Int)+(i:Int)/\(b:Int)+(i:Int)<(n:Int):=by omega
  obtain⟨X,Y⟩:=t;obtain⟨Z,a0⟩:=x;have a1:((a:Int)+(i:Int)).toNat=a+i:=by omega
  have a2:((b:Int)+(i:Int)).toNat=b+i:=by omega
  have d:=aA (r.o.keep ((aH wr wr).drew));have GD:=aA (s.o.trans (lH ((aH wr wr).drew) (some g)));obtain⟨z,A,C,K,L,D⟩:=d.o.at (gW (f:=Bo f a b i) (show a+i<n by omega));obtain⟨m,o,p,M,N,E⟩:=d.o.at (gW (f:=Bo f a b i) (show b+i<n by omega));have IX:=aA L;have IY:=aA N;have l:=aA (show gk=(gk-1)+1/\i+1+(gk-1)=k by omega);clear L N r s;go_upto_region 3 with fail
  refine lF 20 [4,5,6,7] 20 (.takes [0,1,2,3,8,9,10,11,12,13,14,15,16,17,18,19] (.fin 20 (.fin 21 (.fin 22 (.fin 23 .done))))) (λw'=>w'.cell? ⟨g,a+i,none⟩=some (.slice z A C)/\w'.cell? ⟨g,b+i,none⟩=some (.slice m o p)) (by kernel_rfl) (by kernel_rfl) (by kernel_rfl) rfl (by kernel_rfl) (λ_ _ _ _ _ h=>h) ⟨K,M⟩ (λO=>?_);generalize wr.drew=P at *
  iterate 4
   refine L8 (v:=?_) rfl (by rfl) (λw'=>?_) ?_
   rotate_left
   ·(go_simp;try with_reducible rfl)
   try simp only[aC]
  simp only[qE,Scr.takes]
  iterate 16
   refine aM (v:=?_) rfl (by rfl) O (λw' a3=>?_) ?_
   rotate_left
   ·(go_simp;try with_reducible rfl)
   try simp only[aC]
  clear K M O;have z1:=d.o.frozen (a+i);obtain⟨v1,F⟩:=lB.1 (mJ.anyCell d.o (j:=a+i) (by omega));refine cH rfl (λG c=>?_);go_simp
  refine c.out _ _ ?_;clear c;try simp only[aC]
  refine cH rfl (λG c=>?_);go_simp
  refine c.out _ _ ?_;clear c z1 F;try simp only[aC]
  have q:=aA (mJ.put d.o (a+i) IY.o E);have G2:=aA (GD.o.trans (kJ P g (a+i) (.slice m o p)));have H:=aA (sJ d.o IX.o (a+i) (.slice m o p));generalize P.setCell ⟨g,a+i,none⟩ (.slice m o p)=Q at *
  have z2:=q.o.frozen (b+i);obtain⟨v2,I⟩:=lB.1 (mJ.anyCell q.o (j:=b+i) (by omega));refine cH rfl (λG c=>?_);go_simp
  refine c.out _ _ ?_;clear c;try simp only[aC]
  refine cH rfl (λG c=>?_);go_simp
  refine c.out _ _ ?_;clear c z2 I;try simp only[aC]
  have R:=aA (mJ.put q.o (b+i) H.o D);have G3:=aA (G2.o.trans (kJ Q g (b+i) (.slice z A C)));refine cE ?_;generalize Q.setCell ⟨g,b+i,none⟩ (.slice z A C)=y3 at *
  have O4:=aA (show nJ y3 B B2 g n cap (Bo f a b (i+1)) by
   have:=R.o;rw[uV (f:=Bo f a b i) (show a+i<n by omega) (show b+i<n by omega),Qy (by omega)]at this;exact this)
  clear q R d;go_wp2
  go_roundg (gk-1)
  case measure=>have:=l.o.1;omega
  exact⟨i+1,l.o.2,by go_num,O4,G3⟩
def EW {w:World}{B B2 g n cap:Nat}{f:Nat->LIn}(own:nJ w B B2 g n cap f)(a m b:Nat)(s:a<m)(M:m<b)(S:b<=n)(x:n<=1000)(h:Value) :
  Calls Tryz.prog 196 #[.slice g n cap,a,m,b,h] w λe w'=>(∃y,e=.returned y)/\nJ w' B B2 g n cap (fZ f a m b)/\w.grownBy w' (some g):=by
 have K:=aA own;clear own;have z:IntKind.i64.wrap ((m:Int)-(a:Int))=(m:Int)-(a:Int):=by simp[IntKind.wrap,IntKind.bits,IntKind.signed];omega
 have A:IntKind.i64.wrap ((b:Int)-(m:Int))=(b:Int)-(m:Int):=by simp[IntKind.wrap,IntKind.bits,IntKind.signed];omega
 go_enter Tryz.func196,Tryz.ntmps196
 go_wp2
 clear z A;go_loopg [10,11] (b-a) (λgk u v wr=>∃(i j:Nat) (q:Nat->LIn),u=i/\v=j/\i+j<=gk/\Hid (Qb f q a m b i j)/\Hid (nJ wr B B2 g n cap q)/\Hid (w.grownBy wr (some g)))
 case atStart=>exact⟨m-a,b-m,f,by rw[show((m-a:Nat):Int)=(m:Int)-a by omega],by rw[show((b-m:Nat):Int)=(b:Int)-m by omega],by omega,Qb.start s M,K,aA (gU _ _)⟩
 case round =>
  clear K;obtain⟨i,j,q,rfl,rfl,N,t,C,D⟩:=hrel;have O:=t.o;obtain⟨T,U,V,W,_⟩:=O;have E:((m-i:Nat):Int)=(m:Int)-(i:Int):=by omega
  have P:IntKind.i64.wrap ((m:Int)-(i:Int))=(m:Int)-(i:Int):=by simp[IntKind.wrap,IntKind.bits,IntKind.signed];omega
  by_cases F:i=j
  .subst F;have k:=aA (show Calls Tryz.prog 223 #[.slice g n cap,.int .i64 ((m:Int)-(i:Int)),m,i,h] wr (λe w'=>(∃y,e=.returned y)/\nJ w' B B2 g n cap (fZ f a m b)/\wr.grownBy w' (some g))from by
    have:=mP C.o (m-i) m i (by omega) (by omega) (by omega) x h;rw[E,t.o.fin s]at this;exact this)
   go_wp2_with fail
   refine k.o.mono ?_;rintro e w1 ⟨⟨y,rfl⟩,c,d⟩;have l:=aA c;have o:=aA (D.o.trans d);clear c d;go_wp2
   exact eR (v:=.tuple #[]) (by simp[results,Tryz.results196,go_sem]) rfl ⟨⟨_,rfl⟩,l.o,o.o⟩
  have L:((i:Int) !=(j:Int))=true:=by simp;omega
  by_cases G:j<i
  .have p:(j:Int)<(i:Int):=by omega
   have H:IntKind.i64.wrap ((i:Int)-(j:Int))=(i:Int)-(j:Int):=by simp[IntKind.wrap,IntKind.bits,IntKind.signed];omega
   have k:=aA (show Calls Tryz.prog 223 #[.slice g n cap,.int .i64 ((m:Int)-(i:Int)),m,j,h] wr (λe w'=>(∃y,e=.returned y)/\nJ w' B B2 g n cap (Bo q (m-i) m j)/\wr.grownBy w' (some g))from by
    have:=mP C.o (m-i) m j (by omega) (by omega) (by omega) x h;rw[E]at this;exact this)
   have I:=aA (t.o.left s G);have r:=aA (show gk-j<gk/\(i-j)+j<=gk-j by omega);go_wp2_with fail
   refine k.o.mono ?_;rintro e w1 ⟨⟨y,rfl⟩,c,d⟩;have l:=aA c;have o:=aA (D.o.trans d);clear c d;go_wp2
   go_roundg (gk-j)
   case measure=>exact r.o.1
   exact⟨i-j,j,_,by rw[show((i-j:Nat):Int)=(i:Int)-j by omega],rfl,r.o.2,I,l,o⟩
  have J:i<j:=by omega
  have p:¬(j:Int)<(i:Int):=by omega
  have H:IntKind.i64.wrap ((j:Int)-(i:Int))=(j:Int)-(i:Int):=by simp[IntKind.wrap,IntKind.bits,IntKind.signed];omega
  have Q:IntKind.i64.wrap ((m:Int)+(j:Int))=(m:Int)+(j:Int):=by simp[IntKind.wrap,IntKind.bits,IntKind.signed];omega
  have R:IntKind.i64.wrap ((m:Int)+(j:Int)-(i:Int))=(m:Int)+(j:Int)-(i:Int):=by simp[IntKind.wrap,IntKind.bits,IntKind.signed];omega
  have k:=aA (show Calls Tryz.prog 223 #[.slice g n cap,.int .i64 ((m:Int)-(i:Int)),.int .i64 ((m:Int)+(j:Int)-(i:Int)),i,h] wr (λe w'=>(∃y,e=.returned y)/\nJ w' B B2 g n cap (Bo q (m-i) (m+j-i) i)/\wr.grownBy w' (some g))from by
   have:=mP C.o (m-i) (m+j-i) i (by omega) (by omega) (by omega) x h;rw[E,show((m+j-i:Nat):Int)=(m:Int)+(j:Int)-(i:Int) by omega]at this;exact this)
  have I:=aA (t.o.right s J);have r:=aA (show gk-i<gk/\i+(j-i)<=gk-i by omega);go_wp2_with fail
  refine k.o.mono ?_;rintro e w1 ⟨⟨y,rfl⟩,c,d⟩;have l:=aA c;have o:=aA (D.o.trans d);clear c d;go_wp2
  go_roundg (gk-i)
  case measure=>exact r.o.1
  exact⟨i,j-i,_,rfl,by rw[show((j-i:Nat):Int)=(j:Int)-i by omega],r.o.2,I,l,o⟩
def vV {P:Program} {ops:Array Oper} {Q:Exit->Act->World->Prop} {S:World->Prop} {i:Nat} {r:Scr} {a:Act} {w:World} {o:Oper} (b:nth ops.toList i=some o) (c:Region.wanted o (yielded ops a.tmps)=false) (d:S w)
  (h:fH P ops Q S r (a.put o.dst undef) w):fH P ops Q S (.take i r) a w :=
 ⟨o,undef,kF b,.inr ⟨c,rfl⟩,d,h⟩
structure qV (F:FuncId)(cv:Array Value)(w:World)(g:Nat)(R:LIn->LIn->Prop)(S:LIn->Prop):Prop where
 enters:∀args w,(callFunc F args).run Tryz.prog w=.ok (.enter F args) w
 calls:∀(wr:World) (A B:OAd) (n c m d:Nat) (x y:LIn),w.grownBy wr (some g)->aY wr A n c x->aY wr B m d y->S x->S y->x≠y ->
  Calls Tryz.prog F (#[.slice A n c,.slice B m d]++cv) wr λe w'=>∃v:Int,e=.returned (.int .i64 v)/\(v<0↔R x y)/\Below wr.heap.size wr w'
def qV.later {F:FuncId}{cv:Array Value}{w w':World}{g:Nat}{R:LIn->LIn->Prop}{S:LIn->Prop}(h:qV F cv w g R S)(a:w.grownBy w' (some g)):qV F cv w' g R S :=
 ⟨h.enters,λwr A B n c m d x y b=>h.calls wr A B n c m d x y (a.trans b)⟩
def qJ {w:World}{B B2 g n cap:Nat}{f:Nat->LIn}{F:FuncId}{cv:Array Value}{R:LIn->LIn->Prop}{S:LIn->Prop}(own:nJ w B B2 g n cap f)(a b:Nat)(b1:a<=b)(hb:b<=n)(hn:n<=1000)(o:EG R S)(G:f7 S f n)(hF:qV F cv w g R S) :
  Calls Tryz.prog 177 #[.slice g n cap,a,b,.func (.func F) #[] cv] w λe w'=>(∃y,e=.returned y)/\(∃q,nJ w' B B2 g n cap q/\f7 S q n/\jI R q a b/\fS q f a b)/\w.grownBy w' (some g):=by
 have OW:=aA own;have a0:=hF.enters;have HF:=aA hF;have HO:=aA o;have GD:=aA G;clear own hF o G;have a1:IntKind.i64.wrap ((a:Int)+1)=(a:Int)+1:=by simp[IntKind.wrap,IntKind.bits,IntKind.signed];omega
 go_enter Tryz.func177,Tryz.ntmps177
 go_wp2
 clear a1;go_loopg [8] (b-a) (λgk u wr=>∃(i:Nat) (q:Nat->LIn),u=.int .i64 ((i+1:Nat):Int)/\a<=i/\(i<b->i+gk=b)/\(i<b∨i=a)/\Hid (jI R q a (i+1)/\f7 S q n/\fS q f a b)/\Hid (nJ wr B B2 g n cap q)/\Hid (w.grownBy wr (some g)))
 case atStart=>exact⟨a,f,by simp,aB _,by omega,by omega,aA ⟨λi j h1 h2 h3=>by omega,GD.o,fS.refl _ _ _⟩,OW,aA (gU _ _)⟩
 case round =>
  clear OW;obtain⟨i,q,rfl,b2,a2,b3,k,L,M⟩:=hrel;by_cases T:i+1<b
  rotate_left
  .have U:¬(i:Int)+1<(b:Int):=by omega
   have V:=aA (show jI R q a b from λx y h1 h2 h3=>k.o.1 x y h1 h2 (by omega));go_wp2
   exact eR (v:=.tuple #[]) (by simp[results,Tryz.results177,go_sem]) rfl ⟨⟨_,rfl⟩,⟨q,L.o,k.o.2.1,V.o,k.o.2.2⟩,M.o⟩
  have U:(i:Int)+1<(b:Int):=by omega
  have z:=aA (show gk=(gk-1)+1/\(i+1<b->(i+1)+(gk-1)=b) by have:=a2 (by omega);omega);have W:=aA (Uk.start k.o.1 (by omega));obtain⟨go,a3⟩:∃go:Nat,go=gk:=⟨_,rfl⟩;subst a3;go_wp2
  go_loopg [9] (i+1-a) (λgk u wr=>∃(j:Nat) (q:Nat->LIn),u=j/\j=a+gk/\j<=i+1/\Hid (Uk R q a j (i+1)/\f7 S q n/\fS q f a b)/\Hid (nJ wr B B2 g n cap q)/\Hid (w.grownBy wr (some g)))
  case atStart=>exact⟨i+1,q,by simp,by omega,aB _,aA ⟨W.o,k.o.2⟩,L,M⟩
  clear W k L M;obtain⟨j,q,rfl,hj,b4,k,L,M⟩:=hrel;have m:=aA (L.o.keep ((aH wr wr).drew));have N:=aA (M.o.trans (lH ((aH wr wr).drew) (some g)));clear L M;by_cases X:a<j
  rotate_left
  .obtain rfl:j=a:=by omega
   clear hj;have V:=aA (k.o.1.stop HO.o k.o.2.1 (by omega) (λh=>absurd h X));have t:=m;have C:=N;go_upto_region 4 with fail
   refine aN 16 (.takes [0,1,2,3,4,5,6,7,8,9,10,11,12,13] (.one 14 (.take 15 (.fin 16 .done)))) (λ_=>True) (by kernel_rfl) (by kernel_rfl) (by kernel_rfl) (λ_ _ _ _ _ h=>h) trivial (λd=>?_);simp only[Scr.takes];generalize wr.drew=y1 at *
   iterate 2
    refine aM (v:=?_) rfl (by rfl) d (λw' l=>?_) ?_
    rotate_left
    ·(go_simp;try with_reducible rfl)
    try simp only[aC]
   refine aM (v:=.bool false) rfl (by rfl) d (λw' l=>?_) ?_
   ·(go_simp;try with_reducible rfl)
   try simp only[aC]
   refine aM (v:=.bool false) rfl (by rfl) d (λw' l=>?_) ?_
   ·(go_simp;try with_reducible rfl)
   try simp only[aC]
   iterate 10
    refine vV rfl (by rfl) d ?_;try simp only[aC]
   refine bK rfl (λA c=>?_);go_simp
   refine c.out _ _ trivial (λd=>?_);clear c;try simp only[aC]
   refine vV rfl (by rfl) d ?_;try simp only[aC]
   refine cH rfl (λA c=>?_);go_simp
   refine c.out _ _ ?_;clear c;try simp only[aC]
   refine cE ?_;clear d;go_wp2
   go_roundg (go-1)
   case measure=>have:=z.o.1;omega
   exact⟨i+1,q,by go_num,by omega,z.o.2,.inl T,aA ⟨V.o,k.o.2⟩,t,C⟩
  obtain⟨p,rfl⟩:∃p,j=p+1:=⟨j-1,by omega⟩;have b0:(a:Int)<(p:Int)+1:=by omega
  have b5:0<=(p:Int)+1:=by omega
  have b6:(p:Int)+1<(n:Int):=by omega
  have b7:(p:Int)<(n:Int):=by omega
  have b9:IntKind.i64.wrap (p:Int)=(p:Int):=by simp[IntKind.wrap,IntKind.bits,IntKind.signed];omega
  have HJ:=aA (show gk=(gk-1)+1/\p=a+(gk-1)/\p<=i+1 by omega);clear hj;obtain⟨O,P,Q,Y,Z,D⟩:=m.o.at (gW (f:=q) (show p+1<n by omega));obtain⟨E,H,I,q2,iy,J⟩:=m.o.at (gW (f:=q) (show p<n by omega));have CL:=aA (HF.o.calls wr.drew O E P Q H I (q (p+1)) (q p) N.o (mJ.ints Z D) (mJ.ints iy J) (k.o.2.1.mem _ (by omega)) (k.o.2.1.mem _ (by omega)) (λe=>by have:=k.o.2.1.inj _ _ (by omega) (by omega) e;omega));clear Z iy;go_upto_region 4 with fail
  refine aN 16 (.takes [0,1,2,3,4,5,6,7,8,9,10,11,12,13] (.one 14 (.take 15 (.fin 16 .done)))) (λw'=>w'.cell? ⟨g,p+1,none⟩=some (.slice O P Q)/\w'.cell? ⟨g,p,none⟩=some (.slice E H I)) (by kernel_rfl) (by kernel_rfl) (by kernel_rfl) (λ_ _ _ _ _ h=>h) ⟨Y,q2⟩ (λd=>?_);simp only[Scr.takes];clear Y q2;generalize wr.drew=y1 at *
  have K:=aA (m.o.lt g rfl).2
  iterate 2
   refine aM (v:=?_) rfl (by rfl) d (λw' l=>?_) ?_
   rotate_left
   ·(go_simp;try with_reducible rfl)
   try simp only[aC]
  refine aM (v:=.bool true) rfl (by rfl) d (λw' l=>?_) ?_
  ·(go_simp;try with_reducible rfl)
  try simp only[aC]
  refine aM (v:=.bool true) rfl (by rfl) d (λw' l=>?_) ?_
  ·(go_simp;try with_reducible rfl)
  try simp only[aC]
  iterate 10
   refine aM (v:=?_) rfl (by rfl) d (λw' l=>?_) ?_
   rotate_left
   ·(go_simp;try with_reducible rfl)
   try simp only[aC]
  refine bK rfl (λA c=>?_);go_simp
  refine CL.o.mono ?_;rintro e y2 ⟨a4,rfl,hv,s⟩;refine c.out _ _ ⟨(s.cell (p:=⟨g,p+1,none⟩) K.o).trans d.1,(s.cell (p:=⟨g,p,none⟩) K.o).trans d.2⟩ (λd=>?_);clear c;try simp only[aC]
  have t:=aA (m.o.keep s);have C:=aA (N.o.trans (lH s (some g)));have HV:=aA hv;clear s hv CL m N K;by_cases r:a4<0
  rotate_left
  .refine aM (v:=.bool false) rfl (by rfl) d (λw' l=>?_) ?_
   ·(go_simp;try with_reducible rfl)
   try simp only[aC]
   refine cH rfl (λA c=>?_);go_simp
   refine c.out _ _ ?_;clear c;try simp only[aC]
   refine cE ?_;clear d;have V:=aA (k.o.1.stop HO.o k.o.2.1 (by omega) (λ_=>by simpa using λh=>r (HV.o.2 h)));clear r HV;go_wp2
   go_roundg (go-1)
   case measure=>have:=z.o.1;omega
   exact⟨i+1,q,by go_num,by omega,z.o.2,.inl T,aA ⟨V.o,k.o.2⟩,t,C⟩
  refine aM (v:=.bool true) rfl (by rfl) d (λw' l=>?_) ?_
  ·(go_simp;try with_reducible rfl)
  try simp only[aC]
  refine cH rfl (λA c=>?_);go_simp
  refine c.out _ _ ?_;clear c;try simp only[aC]
  refine cE ?_;clear d;have DN:=aA (k.o.1.down X (by simpa using HV.o.1 r));have GN:=aA (k.o.2.1.swap (i:=p+1) (j:=p) (by omega) (by omega));have SN:=aA ((fS.swap q (a:=a) (b:=b) (i:=p+1) (j:=p) (by omega) (by omega)).trans k.o.2.2);clear r HV;have m:=aA (t.o.keep ((aH y2 y2).drew));have N:=aA (C.o.trans (lH ((aH y2 y2).drew) (some g)));obtain⟨O,P,Q,Y,Z,D⟩:=m.o.at (gW (f:=q) (show p+1<n by omega));obtain⟨E,H,I,q2,iy,J⟩:=m.o.at (gW (f:=q) (show p<n by omega));have IX:=aA Z;have IY:=aA iy;clear Z iy t C;go_upto_region 6 with fail
  refine lF 14 [2,3,4] 15 (.takes [0,1,5,6,7,8,9,10,11,12,13] (.fin 14 (.fin 15 (.fin 16 (.fin 17 .done))))) (λw'=>w'.cell? ⟨g,p+1,none⟩=some (.slice O P Q)/\w'.cell? ⟨g,p,none⟩=some (.slice E H I)) (by kernel_rfl) (by kernel_rfl) (by kernel_rfl) rfl (by kernel_rfl) (λ_ _ _ _ _ h=>h) ⟨Y,q2⟩ (λd=>?_);generalize y2.drew=y3 at *
  iterate 3
   refine L8 (v:=?_) rfl (by rfl) (λw'=>?_) ?_
   rotate_left
   ·(go_simp;try with_reducible rfl)
   try simp only[aC]
  simp only[qE,Scr.takes]
  iterate 11
   refine aM (v:=?_) rfl (by rfl) d (λw' l=>?_) ?_
   rotate_left
   ·(go_simp;try with_reducible rfl)
   try simp only[aC]
  clear Y q2 d;have z1:=m.o.frozen (p+1);obtain⟨v1,a5⟩:=lB.1 (mJ.anyCell m.o (j:=p+1) (by omega));refine cH rfl (λA c=>?_);go_simp
  refine c.out _ _ ?_;clear c;try simp only[aC]
  refine cH rfl (λA c=>?_);go_simp
  refine c.out _ _ ?_;clear c z1 a5;try simp only[aC]
  have t:=aA (mJ.put m.o (p+1) IY.o J);have C:=aA (N.o.trans (kJ y3 g (p+1) (.slice E H I)));have a6:=aA (sJ m.o IX.o (p+1) (.slice E H I));generalize y3.setCell ⟨g,p+1,none⟩ (.slice E H I)=y4 at *
  have z2:=t.o.frozen p;obtain⟨v2,a9⟩:=lB.1 (mJ.anyCell t.o (j:=p) (by omega));refine cH rfl (λA c=>?_);go_simp
  refine c.out _ _ ?_;clear c;try simp only[aC]
  refine cH rfl (λA c=>?_);go_simp
  refine c.out _ _ ?_;clear c z2 a9;try simp only[aC]
  have O3:=aA (mJ.put t.o p a6.o D);have G3:=aA (C.o.trans (kJ y4 g p (.slice O P Q)));refine cE ?_;generalize y4.setCell ⟨g,p,none⟩ (.slice O P Q)=y5 at *
  have O4:=aA (show nJ y5 B B2 g n cap (kO q (p+1) p) by
   have:=O3.o;rw[uV (f:=q) (show p+1<n by omega) (show p<n by omega)]at this;exact this)
  clear t O3 m;go_wp2
  go_roundg (gk-1)
  case measure=>have:=HJ.o.1;omega
  exact⟨p,_,by go_num,HJ.o.2.1,HJ.o.2.2,aA ⟨by have:=DN.o;simpa using this,GN.o,SN.o⟩,O4,G3⟩
