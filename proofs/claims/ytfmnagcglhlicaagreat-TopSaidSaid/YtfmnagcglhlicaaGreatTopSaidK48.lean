/- Texts melted into one: What desks and items of work read as; who may do what. Conditions: the slices read as lists. | Append to a list that has no room left: the old one stays as it is. Conditions: the lengths stay below what memory bears. | The contract of cases.Do. Conditions: the net and the case -/
import Derived.Test.YtfmnagcglhlicaaGreatTopSaidK46
set_option maxRecDepth 100000
namespace Go.Proofs.YtfmnagcglhlicaaGreat
open Go.RowKit
def Zcl:World→(Nat→Value)→Za3→Prop:=fun _ vs x=>vs 0=.int .i64 x.user∧vs 1=.int .i64 x.tran∧vs 2=.bool x.open_
theorem Zcl.kept:Zh9 Zcl:=fun _ _ _ _ _ h=>h
theorem Zcl.good:Zql Zcl 3 where
 kept:=Zcl.kept
 one:=fun w vs x h j hj=>by
  obtain⟨h0,h1,h2⟩:=h
  match j,hj with
  | 0,_=>rw[h0];rfl
  | 1,_=>rw[h1];rfl
  | 2,_=>rw[h2];rfl
 pos:=by omega
abbrev Zir (w:World)(A:Option Addr)(n c:Nat)(xs:List Za3):Prop:=Sl Zcl 3 w A n c xs
abbrev ZcQ (w:World)(B:Nat)(v:Value)(n:Nat)(xs:List Za3):Prop:=Zad Zcl 3 w B 42 v n xs
theorem Zir.get {w:World}{A:Option Addr}{n c k:Nat}{xs:List Za3}(h:Zir w A n c xs)(hk:k<n) :
  ∃b off x,A=some ⟨b,off,none⟩∧b<w.heap.size∧Hid (xs[k]?=some x)∧w.cell? ⟨b,off+k*3,none⟩=some (.int .i64 x.user)∧w.cell? ⟨b,off+k*3+1,none⟩=some (.int .i64 x.tran)∧w.cell? ⟨b,off+k*3+2,none⟩=some (.bool x.open_):=by
 obtain⟨b,off,x,vs,h1,h2,h3,h4,e0,e1,e2⟩:=Sl.get h hk
 refine⟨b,off,x,h1,h2,h3, ?_, ?_, ?_⟩
 ·rw[←e0];exact h4 0 (by omega)
 ·rw[←e1];exact h4 1 (by omega)
 ·rw[←e2];exact h4 2 (by omega)
theorem Zmf:ZeM 31 42 3 24:=ZeM.mk' (z:=.agg #[.int .i64 0,.int .i64 0,.bool false]) Tryz.underlying31 (by kernel_rfl) rfl (by decide)
theorem Zax.item {w:World}{x:Za3}:Zax Zcl 3 w [.int .i64 x.user,.int .i64 x.tran,.bool x.open_] [x] :=
 Zax.one (vs:=fun j=>[Value.int .i64 x.user,.int .i64 x.tran,.bool x.open_].getD j undef) ⟨rfl,rfl,rfl⟩ rfl (fun j hj=>by
  match j,hj with
  | 0,_=>rfl
  | 1,_=>rfl
  | 2,_=>rfl)
theorem ZrD {roles:List (List Int)}{u l:Int}(h:u<0):ZjM roles u l=false:=by
 unfold ZjM
 rw[decide_eq_false (by omega)];rfl
theorem ZrE {roles:List (List Int)}{u:Nat}{l:Int}(h:¬(u<roles.length∧u<8)):ZjM roles (u:Int) l=false:=by
 unfold ZjM
 by_cases h8:u<8
 ·have:roles.length≤u:=by omega
  simp[List.getD_eq_getElem?_getD,List.getElem?_eq_none this]
 ·rw[decide_eq_false (p:=(u:Int)<8) (by omega)];simp
theorem ZsP {roles:List (List Int)}{u:Nat}{l:Int}{x:List Int}(hx:roles[u]?=some x)(h8:u<8):ZjM roles (u:Int) l=x.any fun y=>l==y:=by
 unfold ZjM
 rw[decide_eq_true (by omega),decide_eq_true (by omega)]
 simp[List.getD_eq_getElem?_getD,hx]
theorem Zk2 {w:World}{P:Int}{A R:Option Addr}{n c r q:Nat}{roles:List (List Int)}(u l:Int)(h:ZaS w R r q roles) :
  Calls Tryz.prog 104 #[.agg #[.int .i64 P,.slice A n c,.slice R r q],.int .i64 u,.int .i64 l] w fun e w'=>e=.returned (.bool (ZjM roles u l))∧Below w.heap.size w w':=by
 have HB:=Zaa (Zcv w (.cells #[.int .i64 P,.slice A n c,.slice R r q] 75))
 have X0:=Zaa (Box.new w #[.int .i64 P,.slice A n c,.slice R r q] 75)
 have H:=Zaa (Sl.keep ZaL.kept h HB.out)
 have HL:=Zaa h.len
 have hsm:=h.small
 clear h
 by_cases hu:u<0
 ·have FN:=Zaa (ZrD (roles:=roles) (l:=l) hu)
  rw[FN.out]
  go_enter Tryz.func104,Tryz.ntmps104
  go_wp2
  go_ret
  exact⟨rfl,HB.out⟩
 ·obtain⟨v,rfl⟩:∃v:Nat,u=(v:Int):=⟨u.toNat,by omega⟩
  clear hu
  obtain⟨M,hM⟩:∃M:Nat,min r 8=M:=⟨_,rfl⟩
  have hmn:min (r:Int) 8=(M:Int):=by omega
  have hM1:M≤r:=by omega
  have hM8:M≤8:=by omega
  by_cases hv:v<M
  ·have hvi:(v:Int)<(M:Int):=by omega
   obtain⟨b,off,x,B,m,d,rfl,hb,hx,hc,ix,hmx⟩:=ZaS.get H.out (k:=v) (by omega)
   have FN:=Zaa (ZsP (l:=l) hx.out (by omega))
   have IX:=Zaa ix
   rw[FN.out]
   clear ix hM
   have hvr:v<r:=by omega
   go_enter Tryz.func104,Tryz.ntmps104
   go_upto_region 1 with fail
   obtain⟨c0,c1,c2⟩:=X0.out.three
   generalize w.alloc (.cells #[.int .i64 P,.slice A n c,.slice (some ⟨b,off,none⟩) r q] 75)=w0 at *
   go_wp2_with (go_at_call 143;(with_reducible refine(ZbT l IX.out).mono ?_);rintro e w' ⟨rfl,rfl⟩)
   go_ret
   exact⟨rfl,HB.out⟩
  ·have FN:=Zaa (ZrE (roles:=roles) (u:=v) (l:=l) (by have:=HL.out;omega))
   rw[FN.out]
   have hvi:(M:Int)≤(v:Int):=by omega
   clear hM
   go_enter Tryz.func104,Tryz.ntmps104
   go_wp2
   go_ret
   exact⟨rfl,HB.out⟩
structure Zcm (w:World)(B:Option Addr)(m d:Nat)(D:Option Addr)(l e:Nat)(I:Option Addr)(n c:Nat)(k:ZaB):Prop where
 mark:Zam w B m d k.case_.mark
 busy:Zam w D l e k.case_.busy
 items:Zir w I n c k.items
theorem Zcm.keep {w w':World}{B D I:Option Addr}{m d l e n c:Nat}{k:ZaB}(h:Zcm w B m d D l e I n c k)(hb:Below w.heap.size w w'):Zcm w' B m d D l e I n c k :=
 ⟨h.mark.keep hb,h.busy.keep hb,Sl.keep Zcl.kept h.items hb⟩
def Zk3 (k:ZaB)(o:POp):Za3:=if Zdr k o=0 then Zbd k o else⟨0,0,false⟩
def Zds (k:ZaB)(o:POp)(w:World)(e:Ending)(w':World):Prop :=
 e=.returned (.tuple #[.agg #[.int .i64 (Zk3 k o).user,.int .i64 (Zk3 k o).tran,.bool (Zk3 k o).open_],.int .i64 (Zdr k o)])∧Below w.heap.size w w'
theorem Zds.no {k:ZaB}{o:POp}{w w':World}{x:Int}(hx:Zdr k o=x)(h0:x≠0)(hb:Below w.heap.size w w') :
  Zds k o w (.returned (.tuple #[.agg #[.int .i64 0,.int .i64 0,.bool false],.int .i64 x])) w':=by
 unfold Zds Zk3
 rw[hx,if_neg h0]
 exact⟨rfl,hb⟩
theorem Zqb {k:ZaB}{o:POp}(h:¬(0≤o.item∧o.item<(k.items.length:Int))):Zdr k o=3:=by
 unfold Zdr
 rw[if_neg (fun e=>h ⟨e.1,e.2.1⟩)]
theorem ZrF {k:ZaB}{o:POp}{i:Nat}{x:Za3}(hi:o.item=(i:Int))(hx:k.items[i]?=some x):Zdr k o=(if x.open_=true then(if x.user=o.user then 0 else 7)else 3)∧Zbd k o=x:=by
 have hlt:=(List.getElem?_eq_some_iff.1 hx).1
 have hd:k.items.getD o.item.toNat default=x:=by rw[hi];simp[List.getD_eq_getElem?_getD,hx]
 refine⟨?_,hd⟩
 unfold Zdr
 rw[hd]
 by_cases ho:x.open_=true
 ·rw[if_pos ⟨by omega,by omega,ho⟩,if_pos ho]
 ·rw[if_neg (fun e=>ho e.2.2),if_neg ho]
set_option maxHeartbeats 1000000 in
theorem Zod {w:World}{B D I:Option Addr}{m d l e n c:Nat}{k:ZaB}(o:POp)(h:Zcm w B m d D l e I n c k) :
  Calls Tryz.prog 106 #[.agg #[.slice B m d,.slice D l e,.slice I n c],.agg #[.int .i64 o.kind,.int .i64 o.user,.int .i64 o.tran,.int .i64 o.item,.int .i64 o.to_]] w (Zds k o w):=by
 generalize hw:((w.alloc (.cells #[.slice B m d,.slice D l e,.slice I n c] 33)).alloc (.cells #[.int .i64 o.kind,.int .i64 o.user,.int .i64 o.tran,.int .i64 o.item,.int .i64 o.to_] 45)).alloc (.cells #[.int .i64 0,.int .i64 0,.bool false] 42)=w0
 have HB:=Zaa (show Below w.heap.size w w0 by rw[←hw];exact(((Below.refl _ _).alloc (Nat.le_refl _) _).alloc (by simp) _).alloc (by simp;omega) _)
 have X0:=Zaa (show Box w0 w.heap.size 33 #[.slice B m d,.slice D l e,.slice I n c] by rw[←hw];exact((Box.new _ _ _).old _).old _)
 have X1:=Zaa (show Box w0 (w.heap.size+1) 45 #[.int .i64 o.kind,.int .i64 o.user,.int .i64 o.tran,.int .i64 o.item,.int .i64 o.to_] by rw[←hw];exact(Box.newAt (by simp) _ _).old _)
 have X2:=Zaa (show Box w0 (w.heap.size+1+1) 42 #[.int .i64 0,.int .i64 0,.bool false] by rw[←hw];exact Box.newAt (by simp) _ _)
 have H:=Zaa (Sl.keep Zcl.kept h.items HB.out)
 have HL:=Zaa h.items.len
 have hsm:=h.items.small
 clear h
 obtain⟨it,hit⟩:∃it,o.item=it:=⟨_,rfl⟩
 obtain⟨ou,hou⟩:∃it,o.user=it:=⟨_,rfl⟩
 have HIT:=Zaa hit
 have HOU:=Zaa hou
 rw[hit,hou]at hw X1
 go_enter Tryz.func106,Tryz.ntmps106
 rw[hit,hou]
 clear hit hou
 go_upto_region 1 with fail
 clear hw
 obtain⟨c0,c1,c2⟩:=X0.out.three
 obtain⟨y0,y1,y2,y3,y4⟩:=X1.out.five
 obtain⟨z0,z1,z2⟩:=X2.out.three
 have f0:=X2.out.frozen 0
 have f1:=X2.out.frozen 1
 have f2:=X2.out.frozen 2
 by_cases hr:0≤it∧it<(n:Int)
 ·obtain⟨j,rfl⟩:∃j:Nat,it=(j:Int):=⟨it.toNat,by omega⟩
  have hjn:j<n:=by omega
  obtain⟨b,off,x,rfl,hb,hx,q0,q1,q2⟩:=Zir.get H.out hjn
  have II:=Zaa (ZrF HIT.out hx.out)
  have hji:(j:Int)<(n:Int):=by omega
  clear hr
  cases ho:x.open_
  ·have FN:=Zaa (show Zdr k o=3 by rw[II.out.1,if_neg (by rw[ho];decide)])
   rw[ho]at q2
   clear ho
   go_wp2
   obtain⟨r0,r1,r2⟩:=(X2.out.set3 (.int .i64 0) (.int .i64 0) (.bool false)).three
   exact bodyPost_ret (v:=.tuple #[.agg #[.int .i64 0,.int .i64 0,.bool false],.int .i64 3]) (by simp[results,Tryz.results106,go_sem,r0,r1,r2]) rfl (Zds.no (FN.out) (by decide) (Zaj HB.out (by omega) _ _ _))
  ·rw[ho]at q2
   by_cases hu:x.user=ou
   ·have FN:=Zaa (show Zdr k o=0 by rw[II.out.1,if_pos ho,if_pos (by rw[HOU.out];exact hu)])
    have hne:(x.user != ou)=false:=by simpa using hu
    have VN:=Zaa (show Zk3 k o=x by unfold Zk3;rw[if_pos FN.out,II.out.2])
    have HO:=Zaa ho
    clear ho
    go_wp2
    go_quiet (fail)
    go_wp2
    have XQ:=Zaa (X2.out.keep (Zj1 w0 nq))
    have BQ:=Zaa (HB.out.trans ((Zj1 w0 nq).mono HB.out.size))
    obtain⟨r0,r1,r2⟩:=(XQ.out.set3 (.int .i64 ou) (.int .i64 x.tran) (.bool true)).three
    exact bodyPost_ret (v:=.tuple #[.agg #[.int .i64 ou,.int .i64 x.tran,.bool true],.int .i64 0]) (by simp[results,Tryz.results106,go_sem,r0,r1,r2]) rfl (by unfold Zds;rw[VN.out,FN.out,HO.out,hu];exact⟨rfl,Zaj BQ.out (by omega) _ _ _⟩)
   ·have FN:=Zaa (show Zdr k o=7 by rw[II.out.1,if_pos ho,if_neg (by rw[HOU.out];exact hu)])
    have hne:(x.user != ou)=true:=by simpa using hu
    clear ho hu
    go_wp2
    go_quiet (fail)
    go_wp2
    have XQ:=Zaa (X2.out.keep (Zj1 w0 nq))
    have BQ:=Zaa (HB.out.trans ((Zj1 w0 nq).mono HB.out.size))
    obtain⟨r0,r1,r2⟩:=(XQ.out.set3 (.int .i64 0) (.int .i64 0) (.bool false)).three
    exact bodyPost_ret (v:=.tuple #[.agg #[.int .i64 0,.int .i64 0,.bool false],.int .i64 7]) (by simp[results,Tryz.results106,go_sem,r0,r1,r2]) rfl (Zds.no FN.out (by decide) (Zaj BQ.out (by omega) _ _ _))
 ·have FN:=Zaa (show Zdr k o=3 from Zqb (by rw[HIT.out,HL.out];exact hr))
  by_cases h0:it<0
  ·clear hr
   go_wp2
   obtain⟨r0,r1,r2⟩:=(X2.out.set3 (.int .i64 0) (.int .i64 0) (.bool false)).three
   exact bodyPost_ret (v:=.tuple #[.agg #[.int .i64 0,.int .i64 0,.bool false],.int .i64 3]) (by simp[results,Tryz.results106,go_sem,r0,r1,r2]) rfl (Zds.no (FN.out) (by decide) (Zaj HB.out (by omega) _ _ _))
  ·have h1:(n:Int)≤it:=by omega
   clear hr
   go_wp2
   obtain⟨r0,r1,r2⟩:=(X2.out.set3 (.int .i64 0) (.int .i64 0) (.bool false)).three
   exact bodyPost_ret (v:=.tuple #[.agg #[.int .i64 0,.int .i64 0,.bool false],.int .i64 3]) (by simp[results,Tryz.results106,go_sem,r0,r1,r2]) rfl (Zds.no (FN.out) (by decide) (Zaj HB.out (by omega) _ _ _))
theorem Zh0 {P:Program} {w:World} (t ty e:TypeId) (i:TypeInfo) (z:Value) (size bytes:Nat) (ht:P.underlying t=some (.slice e)) (hi:P.info? e=some i) (hz:i.zero=some z)
  (hsize:i.size=size) (hby:i.bytes=bytes) (hzs:z.cells.size=size) (hsz:0<size)
  (A:Option Addr) (n:Nat) (xs:List Value) (hx:xs.length=n*size) (hnone:A=none→n=0) (hcell:∀ad,A=some ad→∀j u,xs[j]?=some u→w.cell? (ad.add j)=some u)
  (a:Addr) (m c:Nat) (news:List Value) (hl:news.length=m*size) (hm:0<m) (hnews:∀j u,news[j]?=some u→w.cell? (a.add j)=some u) (h1:∀u∈news,u.oneCell'=true)
  (h63:n+m≤maxLen) (hbytes:(n+m)*bytes≤140737488355328) :
  ∃v' w',(Builtin.append_ #[t,t] ty #[.slice A n n,.slice (some a) m c]).run P w=.ok v' w'∧w'.ownsRow w.heap.size e size v' (n+m) (xs++news)∧w.grownBy w' none:=by
 cases hA:A with
 | none =>
  have hn:=hnone hA
  subst hn
  have hx0:xs=[]:=List.eq_nil_of_length_eq_zero (by simpa using hx)
  subst hx0
  obtain⟨v',w',r1,r2,r3,_⟩:=run_append_own_at (P:=P) w w.heap.size t ty e i z size bytes ht hi hz hsize hby hzs hsz (.slice none 0 0) 0 [] (World.ownsRow_nil _ _ _ _) a m c news hl hnews h1 h63 hbytes (Nat.le_refl _)
  exact⟨v',w',r1,r2,r3⟩
 | some ad =>
  subst hsize hby
  have hsmall:n+m≤9223372036854775807:=by simp only[maxLen]at h63;omega
  have hlen:(xs++news).length=(n+m)*i.size:=by rw[List.length_append,hx,hl,Nat.add_mul]
  have hr:=run_append_grow (P:=P) w t ty e i z ht hi hz ad n n xs hx (hcell ad hA) a m c news hl hnews (by omega) (by omega) (growslice_fits (by omega) hbytes)
  have hge:=grownCap_ge w (n+m) n e
  have hcm:grownCap w (n+m) n e≤maxLen:=grownCap_le_maxLen w (n+m) n e h63
  refine⟨_,_,hr,⟨hlen,.inr ⟨w.heap.size,_,_,rfl,Nat.le_refl _,heap_alloc_new w.drew _,hge,hcm, ?_, ?_⟩⟩,⟨rfl,rfl,rfl,by simp,fun k hk _=>heap_alloc_old w.drew _ hk⟩⟩
  ·simp only[Array.size_append,List.size_toArray,size_zeroCells,hzs,hx,hl,←Nat.add_mul]
   congr 1
   omega
  ·simp only[Array.toList_append,List.append_assoc]
   rw[←List.append_assoc,←hlen]
   exact List.take_left
theorem ZgG {α:Type} {R:World→(Nat→Value)→α→Prop} {t e size bytes:Nat} (T:ZeM t e size bytes) (G:Zql R size) {ops:Array Oper} {o:Oper} {a:Act} {K:Act→World→Prop} {Q:Exit→Act→World→Prop} {E:Prop} (hgd:o.guard=none) (s x:Operand)
  (ho:o.op=.call {callee:=.builtin .append,args:=#[s,x],argTypes:=#[t,t]})
  {w0 w W:World} {B:Nat} {A:Option Addr} {n m:Nat} {xs:List α} (ys:List α) (us:Array Value) {H:Nat} (hs:a.eval s=.slice A n n) (hx:a.eval x=.slice (some ⟨H,0,none⟩) m m) (hH:H=w.heap.size) (hW:W=w.alloc (.cells us e)) (hus:us.size=m*size) (hm:0<m) (one:∀u∈us.toList,u.oneCell'=true)
  (src:Sl R size w A n n xs) (hread:Zax R size w us.toList ys) (hy:ys.length=m) (hb:Below B w0 w) (hB:B≤w.heap.size) (h63:n+m≤281474976710656) (hn:(n+m)*bytes≤140737488355328)
  (hK:∀g cap w',Zad R size w' B e (.slice (some ⟨g,0,none⟩) (n+m) cap) (n+m) (xs++ys)→Below B w0 w'→K (a.put o.dst (.slice (some ⟨g,0,none⟩) (n+m) cap)) w') :
  if Region.wanted o (yielded ops a.tmps)=true then Oper.wp Tryz.prog o a W K Q else E:=by
 subst hH hW
 rw[if_pos (by simp[Region.wanted,hgd])]
 obtain⟨i,z,h1,h2,h3,h4,h5⟩:=T.info
 have na:Below w.heap.size w (w.alloc (.cells us e)):=Zcv _ _
 have src':=src.keep G.kept na
 obtain⟨ds,d1,d2,d3,d4,d5⟩:=src'.flat G
 obtain⟨v',w',hr,r1,r2⟩:=Zh0 (P:=Tryz.prog) (w:=w.alloc (.cells us e)) t o.type e i z size bytes T.und h1 h2 h3 h4 h5 T.pos A n ds d1 (fun e=>(d2 e).1) d3 ⟨w.heap.size,0,none⟩ m m us.toList (by simpa using hus) hm (fun j u hj=>by
  have hz:((⟨w.heap.size,0,none⟩:Addr).add j)=⟨w.heap.size,j,none⟩:=by unfold Addr.add;split <;> simp_all
  rw[hz]
  have:(w.alloc (.cells us e)).cell? ⟨w.heap.size,j,none⟩=us[j]?:=cell_of_row _ _ _ _ _ (0,0) (heap_alloc_new w _)
  rw[this]
  simpa using hj) one (by simp only[maxLen];omega) hn
 obtain⟨g,cap,hv,hBg,hgl⟩:∃g cap,v'=.slice (some ⟨g,0,none⟩) (n+m) cap∧(w.alloc (.cells us e)).heap.size≤g∧g<w'.heap.size:=r1.form (by omega)
 subst hv
 have hb2:Below (w.alloc (.cells us e)).heap.size (w.alloc (.cells us e)) w':=(Below.refl _ _).grown r2 (Nat.le_refl _) (fun k hk=>by cases hk)
 have hb3:Below w.heap.size w w':=na.trans (hb2.mono na.size)
 have ap:=d5.append (hread.keep G.kept na)
 have own2:Zad R size w' (w.alloc (.cells us e)).heap.size e (.slice (some ⟨g,0,none⟩) (n+m) cap) (n+m) (xs++ys) :=
  ⟨_,r1,ap.keep G.kept hb2,by rw[List.length_append,src.len,hy]⟩
 have h:=hK g cap w' (own2.base (Nat.le_trans hB na.size)) (hb.trans (hb3.mono hB))
 unfold Oper.wp execOp
 simp only[ho,resolve,invoke,builtin,Sem.run_bind,Sem.run_pure,Result.andThen_ok,List.map_toArray,List.map_cons,List.map_nil,hs,hx,hr]
 exact h
theorem Zk4 (w:World)(c0 c1 c2 c3:Array Value)(t0 t1 t2 t3:Nat) :
  Below w.heap.size w ((((w.alloc (.cells c0 t0)).alloc (.cells c1 t1)).alloc (.cells c2 t2)).alloc (.cells c3 t3)) ∧
  Box ((((w.alloc (.cells c0 t0)).alloc (.cells c1 t1)).alloc (.cells c2 t2)).alloc (.cells c3 t3)) w.heap.size t0 c0 ∧
  Box ((((w.alloc (.cells c0 t0)).alloc (.cells c1 t1)).alloc (.cells c2 t2)).alloc (.cells c3 t3)) (w.heap.size+1) t1 c1 ∧
  Box ((((w.alloc (.cells c0 t0)).alloc (.cells c1 t1)).alloc (.cells c2 t2)).alloc (.cells c3 t3)) (w.heap.size+1+1) t2 c2 ∧
  Box ((((w.alloc (.cells c0 t0)).alloc (.cells c1 t1)).alloc (.cells c2 t2)).alloc (.cells c3 t3)) (w.heap.size+1+1+1) t3 c3 :=
 ⟨((((Below.refl _ _).alloc (Nat.le_refl _) _).alloc (by simp) _).alloc (by simp;omega) _).alloc (by simp;omega) _,
  (((Box.new _ _ _).old _).old _).old _,((Box.newAt (by simp) _ _).old _).old _,(Box.newAt (by simp) _ _).old _,Box.newAt (by simp) _ _⟩
set_option maxHeartbeats 4000000 in
theorem Ztw {w:World}{P:Int}{A B D:Option Addr}{n c m d l k:Nat}{ts:List Zak}{p:Zay}(kd t:Int)(h:ZaP w A n c ts)(g:Zam w B m d p.mark)(b:Zam w D l k p.busy)(hbad:∀(i:Nat) (T:Zak),t=(i:Int)→ts[i]?=some T→Zbb ⟨P,ts⟩ p=true→1≤kd→kd≤4→¬(kd=1↔T.label=0)) :
  Calls Tryz.prog 39 #[.agg #[.int .i64 P,.slice A n c],.agg #[.slice B m d,.slice D l k],.agg #[.int .i64 kd,.int .i64 t]] w (Zcz (doL ⟨P,ts⟩ p kd t) w):=by
 obtain⟨B0',X0,X1,X2,X3⟩:=Zk4 w #[.int .i64 P,.slice A n c] #[.slice B m d,.slice D l k] #[.int .i64 kd,.int .i64 t] #[.slice none 0 0,.slice none 0 0] 24 30 117 30
 have B0:=Zaa B0'
 have HX0:=Zaa X0
 have HX1:=Zaa X1
 have HX2:=Zaa X2
 have HX3:=Zaa X3
 clear B0' X0 X1 X2 X3
 have BAD:=Zaa hbad
 clear hbad
 have hn:=h.small
 have hm:=g.small
 have HL:=Zaa h.len
 have GL:=Zaa g.len
 have BL:=Zaa b.len
 have H:=Zaa h
 have G:=Zaa g
 have BB:=Zaa b
 clear h g b
 obtain⟨ok,hok⟩:∃ok,Zbb ⟨P,ts⟩ p=ok:=⟨_,rfl⟩
 have HO:=Zaa hok
 clear hok
 go_enter Tryz.func39,Tryz.ntmps39
 go_wp2_with fail
 refine(ZbN (P:=P) (p:=p) (H.out.keep B0.out) (G.out.keep B0.out) (BB.out.keep B0.out)).mono ?_
 rw[HO.out]
 rintro e w1 ⟨rfl,hb⟩
 have B1:=Zaa (B0.out.trans (hb.mono B0.out.size))
 have Y0:=Zaa (HX0.out.keep hb)
 have Y1:=Zaa (HX1.out.keep hb)
 have Y2:=Zaa (HX2.out.keep hb)
 have Y3:=Zaa (HX3.out.keep hb)
 clear hb HX0 HX1 HX2 HX3
 obtain⟨a0,a1⟩:=Y0.out.two
 obtain⟨b0,b1⟩:=Y1.out.two
 obtain⟨c0,c1⟩:=Y2.out.two
 cases ok
 ·have FIN:=Zaa (Zr6 (k:=kd) (t:=t) HO.out)
  go_wp2_with fail
  refine(ZaJ _ 2).mono ?_
  rintro e we ⟨rfl,hbe⟩
  have Ze:=Zaa (Y3.out.keep hbe)
  obtain⟨z0,z1⟩:=Ze.out.two
  have zf:=Ze.out.frozen 0
  have zg:=Ze.out.frozen 1
  have Be:=Zaa (B1.out.trans (hbe.mono B1.out.size))
  clear hbe
  go_wp2
  obtain⟨r0,r1⟩:=(Ze.out.set2 (.slice none 0 0) (.slice none 0 0)).two
  exact bodyPost_ret (v:=.tuple #[.agg #[.slice none 0 0,.slice none 0 0],.int .i64 (2)]) (by simp[results,Tryz.results39,go_sem,r0,r1]) rfl (by rw[FIN.out];exact Zcz.no ((Be.out.setCell (by show w.heap.size≤w.heap.size+1+1+1;omega) _).setCell (by show w.heap.size≤w.heap.size+1+1+1;omega) _))
 ·by_cases hk1:kd<1
  ·have FIN:=Zaa (Zmn (k:=kd) (t:=t) HO.out (.inl hk1))
   go_wp2_with fail
   refine(ZaJ _ 5).mono ?_
   rintro e we ⟨rfl,hbe⟩
   have Ze:=Zaa (Y3.out.keep hbe)
   obtain⟨z0,z1⟩:=Ze.out.two
   have zf:=Ze.out.frozen 0
   have zg:=Ze.out.frozen 1
   have Be:=Zaa (B1.out.trans (hbe.mono B1.out.size))
   clear hbe
   go_wp2
   obtain⟨r0,r1⟩:=(Ze.out.set2 (.slice none 0 0) (.slice none 0 0)).two
   exact bodyPost_ret (v:=.tuple #[.agg #[.slice none 0 0,.slice none 0 0],.int .i64 (5)]) (by simp[results,Tryz.results39,go_sem,r0,r1]) rfl (by rw[FIN.out];exact Zcz.no ((Be.out.setCell (by show w.heap.size≤w.heap.size+1+1+1;omega) _).setCell (by show w.heap.size≤w.heap.size+1+1+1;omega) _))
  ·by_cases hk4:4<kd
   ·have FIN:=Zaa (Zmn (k:=kd) (t:=t) HO.out (.inr hk4))
    go_wp2_with fail
    refine(ZaJ _ 5).mono ?_
    rintro e we ⟨rfl,hbe⟩
    have Ze:=Zaa (Y3.out.keep hbe)
    obtain⟨z0,z1⟩:=Ze.out.two
    have zf:=Ze.out.frozen 0
    have zg:=Ze.out.frozen 1
    have Be:=Zaa (B1.out.trans (hbe.mono B1.out.size))
    clear hbe
    go_wp2
    obtain⟨r0,r1⟩:=(Ze.out.set2 (.slice none 0 0) (.slice none 0 0)).two
    exact bodyPost_ret (v:=.tuple #[.agg #[.slice none 0 0,.slice none 0 0],.int .i64 (5)]) (by simp[results,Tryz.results39,go_sem,r0,r1]) rfl (by rw[FIN.out];exact Zcz.no ((Be.out.setCell (by show w.heap.size≤w.heap.size+1+1+1;omega) _).setCell (by show w.heap.size≤w.heap.size+1+1+1;omega) _))
   ·have HK:=Zaa (show 1≤kd∧kd≤4 by omega)
    by_cases ht0:t<0
    ·have FIN:=Zaa (Zmo HO.out HK.out (.inl ht0))
     go_wp2_with fail
     refine(ZaJ _ 3).mono ?_
     rintro e we ⟨rfl,hbe⟩
     have Ze:=Zaa (Y3.out.keep hbe)
     obtain⟨z0,z1⟩:=Ze.out.two
     have zf:=Ze.out.frozen 0
     have zg:=Ze.out.frozen 1
     have Be:=Zaa (B1.out.trans (hbe.mono B1.out.size))
     clear hbe
     go_wp2
     obtain⟨r0,r1⟩:=(Ze.out.set2 (.slice none 0 0) (.slice none 0 0)).two
     exact bodyPost_ret (v:=.tuple #[.agg #[.slice none 0 0,.slice none 0 0],.int .i64 (3)]) (by simp[results,Tryz.results39,go_sem,r0,r1]) rfl (by rw[FIN.out];exact Zcz.no ((Be.out.setCell (by show w.heap.size≤w.heap.size+1+1+1;omega) _).setCell (by show w.heap.size≤w.heap.size+1+1+1;omega) _))
    ·by_cases htn:(n:Int)≤t
     ·have FIN:=Zaa (Zmo HO.out HK.out (.inr (by simp only[];rw[HL.out];exact htn)))
      go_wp2_with fail
      refine(ZaJ _ 3).mono ?_
      rintro e we ⟨rfl,hbe⟩
      have Ze:=Zaa (Y3.out.keep hbe)
      obtain⟨z0,z1⟩:=Ze.out.two
      have zf:=Ze.out.frozen 0
      have zg:=Ze.out.frozen 1
      have Be:=Zaa (B1.out.trans (hbe.mono B1.out.size))
      clear hbe
      go_wp2
      obtain⟨r0,r1⟩:=(Ze.out.set2 (.slice none 0 0) (.slice none 0 0)).two
      exact bodyPost_ret (v:=.tuple #[.agg #[.slice none 0 0,.slice none 0 0],.int .i64 (3)]) (by simp[results,Tryz.results39,go_sem,r0,r1]) rfl (by rw[FIN.out];exact Zcz.no ((Be.out.setCell (by show w.heap.size≤w.heap.size+1+1+1;omega) _).setCell (by show w.heap.size≤w.heap.size+1+1+1;omega) _))
     ·obtain⟨i,rfl⟩:∃i:Nat,t=(i:Int):=⟨t.toNat,by omega⟩
      have hin:i<n:=by omega
      have hini:(i:Int)<(n:Int):=by omega
      have hi0:(0:Int)≤(i:Int):=by omega
      clear ht0 htn
      obtain⟨bl,off,T,A1,n1,c1,A2,n2,c2,rfl,hbl,hT,q0,q1,q2,i1,i2,m1,m2⟩:=ZaP.get (H.out.keep B1.out) hin
      have DIN:=Zaa (ZjS HO.out HK.out hT.out)
      have I1:=Zaa i1
      have I2:=Zaa i2
      clear i1 i2
      have hk:kd=1∨kd=2∨kd=3∨kd=4:=by have:=HK.out;omega
      by_cases hl0:T.label=0
      ·have q0':w1.cell? ⟨bl,off+i*3,none⟩=some (.int .i64 0):=by rw[←hl0];exact q0
       rcases hk with rfl|rfl|rfl|rfl
       ·exact absurd (by simp[hl0]) (BAD.out i T rfl hT.out HO.out (by omega) (by omega))
       all_goals
        have FIN:=Zaa (show doL ⟨P,ts⟩ p _ (i:Int)=(Zay.nil,1) by rw[DIN.out,if_neg (by rw[hl0];omega)])
        clear DIN hl0 q0
        go_wp2
        go_quiet (fail)
        go_wp2_with fail
        refine(ZaJ _ 1).mono ?_
        rintro e we ⟨rfl,hbe⟩
        have Ze:=Zaa ((Y3.out.drewN _).keep hbe)
        obtain⟨z0,z1⟩:=Ze.out.two
        have zf:=Ze.out.frozen 0
        have zg:=Ze.out.frozen 1
        have Be:=Zaa (B1.out.trans ((Drew.drewN _ _).below.trans hbe |>.mono B1.out.size))
        clear hbe
        go_wp2
        obtain⟨r0,r1⟩:=(Ze.out.set2 (.slice none 0 0) (.slice none 0 0)).two
        exact bodyPost_ret (v:=.tuple #[.agg #[.slice none 0 0,.slice none 0 0],.int .i64 (1)]) (by simp[results,Tryz.results39,go_sem,r0,r1]) rfl (by rw[FIN.out];exact Zcz.no ((Be.out.setCell (by show w.heap.size≤w.heap.size+1+1+1;omega) _).setCell (by show w.heap.size≤w.heap.size+1+1+1;omega) _))
      ·rcases hk with rfl|rfl|rfl|rfl
       ·have FIN:=Zaa (show doL ⟨P,ts⟩ p 1 (i:Int)=(Zay.nil,1) by rw[DIN.out,if_neg (by simpa using hl0)])
        have hne:(T.label==0)=false:=by simpa using hl0
        clear DIN hl0
        go_wp2
        go_quiet (fail)
        go_wp2_with fail
        refine(ZaJ _ 1).mono ?_
        rintro e we ⟨rfl,hbe⟩
        have Ze:=Zaa ((Y3.out.drewN _).keep hbe)
        obtain⟨z0,z1⟩:=Ze.out.two
        have zf:=Ze.out.frozen 0
        have zg:=Ze.out.frozen 1
        have Be:=Zaa (B1.out.trans ((Drew.drewN _ _).below.trans hbe |>.mono B1.out.size))
        clear hbe
        go_wp2
        obtain⟨r0,r1⟩:=(Ze.out.set2 (.slice none 0 0) (.slice none 0 0)).two
        exact bodyPost_ret (v:=.tuple #[.agg #[.slice none 0 0,.slice none 0 0],.int .i64 (1)]) (by simp[results,Tryz.results39,go_sem,r0,r1]) rfl (by rw[FIN.out];exact Zcz.no ((Be.out.setCell (by show w.heap.size≤w.heap.size+1+1+1;omega) _).setCell (by show w.heap.size≤w.heap.size+1+1+1;omega) _))
       ·exact absurd (by simp[hl0]) (BAD.out i T rfl hT.out HO.out (by omega) (by omega))
       ·exact absurd (by simp[hl0]) (BAD.out i T rfl hT.out HO.out (by omega) (by omega))
       ·exact absurd (by simp[hl0]) (BAD.out i T rfl hT.out HO.out (by omega) (by omega))
set_option maxHeartbeats 4000000 in
theorem Zuk {w:World}{P:Int}{A B D:Option Addr}{n c m d l k:Nat}{ts:List Zak}{p:Zay}(i:Nat)(T:Zak)(hT:ts[i]?=some T)(hok:Zbb ⟨P,ts⟩ p=true)(hl0:T.label=0)(h:ZaP w A n c ts)(g:Zam w B m d p.mark)(b:Zam w D l k p.busy)(hl:l≤17592186044416) :
  Calls Tryz.prog 39 #[.agg #[.int .i64 P,.slice A n c],.agg #[.slice B m d,.slice D l k],.agg #[.int .i64 1,.int .i64 i]] w (Zcz (doL ⟨P,ts⟩ p 1 i) w):=by
 obtain⟨B0',X0,X1,X2,X3⟩:=Zk4 w #[.int .i64 P,.slice A n c] #[.slice B m d,.slice D l k] #[.int .i64 1,.int .i64 i] #[.slice none 0 0,.slice none 0 0] 24 30 117 30
 have B0:=Zaa B0'
 have HX0:=Zaa X0
 have HX1:=Zaa X1
 have HX2:=Zaa X2
 have HX3:=Zaa X3
 clear B0' X0 X1 X2 X3
 have hn:=h.small
 have hm:=g.small
 have H:=Zaa h
 have G:=Zaa g
 have BB:=Zaa b
 have hin:i<n:=by rw[←h.len];exact(List.getElem?_eq_some_iff.1 hT).1
 have hini:(i:Int)<(n:Int):=by omega
 have hi0:(0:Int)≤(i:Int):=by omega
 have HT:=Zaa hT
 have HO:=Zaa hok
 have hcase:=(ZaV _ _).1 hok
 have hnt:=Za1 hcase.1 hT
 have hm16:m≤16:=by have h1:=((Zar _).1 hcase.1).2.1;have h2:=hcase.2.1;rw[g.len]at h2;simp only[]at h1 h2;omega
 have hil:i<l:=by have h1:=hcase.2.2.2.1;rw[b.len]at h1;simp only[]at h1;rw[h.len]at h1;omega
 have HRB:=Zaa hcase.2.2.2.2
 obtain⟨q,hq⟩:∃q,Zbu ⟨P,ts⟩ p.mark (i:Int)=q:=⟨_,rfl⟩
 have hfit:ZbI ⟨P,ts⟩ p.mark=true:=(ZaG _ _).2 ⟨hcase.1,hcase.2.1,hcase.2.2.1⟩
 have FIN:=Zaa (show doL ⟨P,ts⟩ p 1 (i:Int)=Zic q (p.busy,0) by
  rw[ZjS hok (by omega) hT,if_pos (by simp[hl0]),ZtH hcase.2.2.2.2,←hq,Zqz hfit hT])
 have HQ:=Zaa hq
 clear hfit hq
 clear hT hok hcase hnt h g b
 go_enter Tryz.func39,Tryz.ntmps39
 go_wp2_with fail
 refine(ZbN (P:=P) (p:=p) (H.out.keep B0.out) (G.out.keep B0.out) (BB.out.keep B0.out)).mono ?_
 rw[HO.out]
 rintro e w1 ⟨rfl,hb⟩
 have B1:=Zaa (B0.out.trans (hb.mono B0.out.size))
 have Y0:=Zaa (HX0.out.keep hb)
 have Y1:=Zaa (HX1.out.keep hb)
 have Y2:=Zaa (HX2.out.keep hb)
 have Y3:=Zaa (HX3.out.keep hb)
 clear hb HX0 HX1 HX2 HX3
 obtain⟨a0,a1⟩:=Y0.out.two
 obtain⟨b0,b1⟩:=Y1.out.two
 obtain⟨d0,d1⟩:=Y2.out.two
 obtain⟨bl,off,T',A1,n1,c1,A2,n2,c2,rfl,hbl,hT',q0',q1',q2',i1,i2,m1,m2⟩:=ZaP.get H.out hin
 obtain rfl:T'=T:=by have:=hT'.out;rw[HT.out]at this;injection this with this;exact this.symm
 rw[hl0]at q0'
 have q0:=(B1.out.cell (p:=⟨bl,off+i*3,none⟩) hbl).trans q0'
 have q1:=(B1.out.cell (p:=⟨bl,off+i*3+1,none⟩) hbl).trans q1'
 have q2:=(B1.out.cell (p:=⟨bl,off+i*3+2,none⟩) hbl).trans q2'
 have I1:=Zaa i1
 have I2:=Zaa i2
 clear i1 i2 q0' q1' q2' hl0
 go_wp2
 go_quiet (fail)
 have Z0:=Zaa (Y0.out.drewN nq)
 have Z1:=Zaa (Y1.out.drewN nq)
 have Z2:=Zaa (Y2.out.drewN nq)
 have Z3:=Zaa (Y3.out.drewN nq)
 have D2:=Zaa (B1.out.trans ((Drew.drewN w1 nq).below.mono B1.out.size))
 have e0:(w1.drewN nq).cell? ⟨bl,off+i*3,none⟩=some (.int .i64 0):=q0
 have e1:(w1.drewN nq).cell? ⟨bl,off+i*3+1,none⟩=some (.slice A1 n1 c1):=q1
 have e2:(w1.drewN nq).cell? ⟨bl,off+i*3+2,none⟩=some (.slice A2 n2 c2):=q2
 generalize w1.drewN nq=w2 at *
 clear Y0 Y1 Y2 Y3 a0 a1 b0 b1 d0 d1 q0 q1 q2
 obtain⟨a0,a1⟩:=Z0.out.two
 obtain⟨b0,b1⟩:=Z1.out.two
 obtain⟨d0,d1⟩:=Z2.out.two
 go_wp2
 generalize hw3:w2.alloc (.cells #[.int .i64 0,.slice A1 n1 c1,.slice A2 n2 c2] 49)=w3
 have V0:=Zaa (show Box w3 _ _ _ by rw[←hw3];exact Z0.out.old _)
 have V1:=Zaa (show Box w3 _ _ _ by rw[←hw3];exact Z1.out.old _)
 have V2:=Zaa (show Box w3 _ _ _ by rw[←hw3];exact Z2.out.old _)
 have V3:=Zaa (show Box w3 _ _ _ by rw[←hw3];exact Z3.out.old _)
 have V4:=Zaa (show Box w3 w2.heap.size 49 #[.int .i64 0,.slice A1 n1 c1,.slice A2 n2 c2] by rw[←hw3];exact Box.new _ _ _)
 have D3:=Zaa (show Below w.heap.size w w3 by rw[←hw3];exact D2.out.alloc D2.out.size _)
 clear hw3 Z0 Z1 Z2 Z3 a0 a1 b0 b1 d0 d1 e0 e1 e2
 obtain⟨bx,hbx⟩:∃bx,w2.heap.size=bx:=⟨_,rfl⟩
 rw[hbx]at V4
 rw[hbx]
 clear hbx D2 B1
 obtain⟨b0,b1⟩:=V1.out.two
 refine Zae 5 (.takes [0,1,2,3] (.one 4 (.fins [5,6,7] .done))) (fun w'=>w'.cell? ⟨w.heap.size+1,0,none⟩=some (.slice B m d)∧w'.cell? ⟨w.heap.size+1,1,none⟩=some (.slice D l k)) (by kernel_rfl) (by kernel_rfl) (by kernel_rfl) (fun _ _ _ _ _ h=>h) ⟨b0,b1⟩ (fun hHeld=>?_)
 simp only[Scr.takes,Scr.fins]
 iterate 4
  refine Zac (v:=?_) rfl (by rfl) hHeld (fun w' hSw=>?_) ?_
  rotate_left
  ·(go_simp;try with_reducible rfl)
  simp only[Act.put,Zag,Zah,Zai]
 refine ZaC rfl (fun K hK=>?_)
 go_simp;go_at_call 73
 (with_reducible refine(ZaA (BB.out.keep (D3.out.trans (((Below.refl _ _).drew:Below w3.heap.size w3 w3.drew).mono D3.out.size))) hl).mono ?_)
 rintro e w4 ⟨v,rfl,own,hb4⟩
 obtain⟨C4,k4,rfl,own4⟩:=own.sl (by omega)
 have hb4':Below w3.heap.size w3 w4:=((Below.refl _ _).drew:Below w3.heap.size w3 w3.drew).trans hb4
 have U0:=Zaa (V0.out.keep hb4')
 have U1:=Zaa (V1.out.keep hb4')
 have U2:=Zaa (V2.out.keep hb4')
 have U3:=Zaa (V3.out.keep hb4')
 have U4:=Zaa (V4.out.keep hb4')
 have D4:=Zaa (D3.out.trans (hb4'.mono D3.out.size))
 have HF4:=Zaa ((Zad.fresh own rfl).mono (show w.heap.size≤w3.drew.heap.size from D3.out.size))
 have O4:=Zaa (show Zam w4 C4 l k4 p.busy from own4)
 clear own own4 hb4 hb4' V0 V1 V2 V3 V4 b0 b1
 obtain⟨a0,a1⟩:=U0.out.two
 obtain⟨b0,b1⟩:=U1.out.two
 obtain⟨d0,d1⟩:=U2.out.two
 obtain⟨t0,t1,t2⟩:=U4.out.three
 refine hK.out _ _ ⟨b0,b1⟩ (fun hHeld=>?_)
 clear hK
 iterate 3
  refine Zaz rfl (fun K hK=>?_)
  go_simp
  refine hK.out _ _ ?_
  clear hK
  try simp only[Act.put,Zag,Zah,Zai]
 refine ZaH ?_
 go_wp2_with fail
 refine(ZdS (P:=P) (H.out.keep D4.out) (G.out.keep D4.out) i).mono ?_
 rw[HQ.out]
 rintro e w5 ⟨C5,l5,k5,rfl,i5,hb,hf5⟩
 have HF5:=Zaa (hf5.mono D4.out.size)
 clear hf5
 have I5:=Zaa i5
 have O5:=Zaa (O4.out.keep hb)
 have D5:=Zaa (D4.out.trans (hb.mono D4.out.size))
 have W0:=Zaa (U0.out.keep hb)
 have W1:=Zaa (U1.out.keep hb)
 have W2:=Zaa (U2.out.keep hb)
 have W3:=Zaa (U3.out.keep hb)
 have W4:=Zaa (U4.out.keep hb)
 clear hb i5 U0 U1 U2 U3 U4
 clear a0 a1 b0 b1 d0 d1 t0 t1 t2
 obtain⟨a0,a1⟩:=W0.out.two
 obtain⟨b0,b1⟩:=W1.out.two
 obtain⟨d0,d1⟩:=W2.out.two
 obtain⟨t0,t1,t2⟩:=W4.out.three
 by_cases hz:q.2=0
 ·have FE:=Zaa (show doL ⟨P,ts⟩ p 1 (i:Int)=(⟨q.1,p.busy⟩,0) by rw[FIN.out,Zic,if_pos hz];simp)
  rw[hz]
  clear hz
  obtain⟨z0,z1⟩:=W3.out.two
  have zf:=W3.out.frozen 0
  have zg:=W3.out.frozen 1
  go_wp2
  obtain⟨r0,r1⟩:=(W3.out.set2 (.slice C5 l5 k5) (.slice C4 l k4)).two
  exact bodyPost_ret (v:=.tuple #[.agg #[.slice C5 l5 k5,.slice C4 l k4],.int .i64 0]) (by simp[results,Tryz.results39,go_sem,r0,r1]) rfl
   ⟨_,_,_,_,_,_,by rw[FE.out],by rw[FE.out];exact(I5.out).beside W3.out ZcX (Zan.set2 _ _ _ _ _ _),by rw[FE.out];exact(O5.out).beside W3.out ZcX (Zan.set2 _ _ _ _ _ _),(D5.out.setCell (by show w.heap.size≤w.heap.size+1+1+1;omega) _).setCell (by show w.heap.size≤w.heap.size+1+1+1;omega) _,HF5.out,HF4.out⟩
 ·have FE:=Zaa (show doL ⟨P,ts⟩ p 1 (i:Int)=(Zay.nil,q.2) by rw[FIN.out,Zic,if_neg hz])
  have hne2:(q.2==0)=false:=by simpa using hz
  have hne3:(q.2 != 0)=true:=by simpa using hz
  clear hz
  go_wp2_with fail
  refine(ZaJ _ q.2).mono ?_
  rintro e we ⟨rfl,hbe⟩
  have Ze:=Zaa (W3.out.keep hbe)
  obtain⟨z0,z1⟩:=Ze.out.two
  have zf:=Ze.out.frozen 0
  have zg:=Ze.out.frozen 1
  have Be:=Zaa (D5.out.trans (hbe.mono D5.out.size))
  clear hbe
  go_wp2
  obtain⟨r0,r1⟩:=(Ze.out.set2 (.slice none 0 0) (.slice none 0 0)).two
  exact bodyPost_ret (v:=.tuple #[.agg #[.slice none 0 0,.slice none 0 0],.int .i64 (q.2)]) (by simp[results,Tryz.results39,go_sem,r0,r1]) rfl (by rw[FE.out];exact Zcz.no ((Be.out.setCell (by show w.heap.size≤w.heap.size+1+1+1;omega) _).setCell (by show w.heap.size≤w.heap.size+1+1+1;omega) _))
end Go.Proofs.YtfmnagcglhlicaaGreat
