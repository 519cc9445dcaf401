/- The plain law of the hall: what was done and written down, how much of it is sure; the journal read back. No program in sight. | The memory of the hall, and the contract of its crash. Condit -/
import Derived.Test.YtfmnagcglhlicaaGreatTopCrashK53
set_option maxRecDepth 100000
set_option maxHeartbeats 16000000
namespace Go.Proofs.YtfmnagcglhlicaaGreat
structure HOp where
 kind:Int
 keep:Int
 op:POp
abbrev HSt:=List POp×Nat
def jU (st:HSt)(keep:Int):Nat:=min ((max keep 0).toNat / 7) (st.1.length-st.2)
def kM (N:aS)(roles:LLi)(k0:aX)(st:HSt)(o:HOp):HSt×(Int×Int) :=
 if o.kind=1 then
  (if(cY o.op).2=0 then
   (if(cD N roles (jS N roles k0 st.1).1 o.op).2.2=0 then((st.1++[o.op],st.2),(0,(cD N roles (jS N roles k0 st.1).1 o.op).2.1))
   else(st,((cD N roles (jS N roles k0 st.1).1 o.op).2.2,(cD N roles (jS N roles k0 st.1).1 o.op).2.1)))
  else(st,((cY o.op).2,0)))
 else if o.kind=2 then((st.1,st.1.length),(0,0))
 else if o.kind=3 then((st.1.take (st.2+jU st o.keep),st.2+jU st o.keep),(0,0))
 else(st,(5,0))
def hdo (N:aS)(roles:LLi)(k0:aX)(st:HSt)(o:POp):HSt×(Int×Int) :=
 if(cY o).2=0 then
  (if(cD N roles (jS N roles k0 st.1).1 o).2.2=0 then((st.1++[o],st.2),(0,(cD N roles (jS N roles k0 st.1).1 o).2.1))
  else(st,((cD N roles (jS N roles k0 st.1).1 o).2.2,(cD N roles (jS N roles k0 st.1).1 o).2.1)))
 else(st,((cY o).2,0))
theorem Vx {N:aS}{roles:LLi}{k0:aX}{st:HSt}{o:HOp}(h:o.kind=1):kM N roles k0 st o=hdo N roles k0 st o.op:=by rw[kM,if_pos h];rfl
theorem Vy {N:aS}{roles:LLi}{k0:aX}{st:HSt}{o:HOp}(h:o.kind=2):kM N roles k0 st o=((st.1,st.1.length),(0,0)):=by rw[kM,if_neg (by omega),if_pos h]
theorem Vz {N:aS}{roles:LLi}{k0:aX}{st:HSt}{o:HOp}(h:o.kind=3):kM N roles k0 st o=((st.1.take (st.2+jU st o.keep),st.2+jU st o.keep),(0,0)):=by rw[kM,if_neg (by omega),if_neg (by omega),if_pos h]
theorem TM {N:aS}{roles:LLi}{k0:aX}{st:HSt}{o:HOp}(h1:o.kind≠1)(h2:o.kind≠2)(h3:o.kind≠3):kM N roles k0 st o=(st,(5,0)):=by rw[kM,if_neg h1,if_neg h2,if_neg h3]
def iW (N:aS)(roles:LLi)(k0:aX):HSt→List HOp→HSt×List (Int×Int)
 | st,[]=>(st,[])
 | st,o::r=>((iW N roles k0 (kM N roles k0 st o).1 r).1,(kM N roles k0 st o).2::(iW N roles k0 (kM N roles k0 st o).1 r).2)
theorem Es (N:aS)(roles:LLi)(k0:aX):∀(l:List HOp) (st:HSt) (o:HOp),iW N roles k0 st (l++[o]) =
  ((kM N roles k0 (iW N roles k0 st l).1 o).1,(iW N roles k0 st l).2++[(kM N roles k0 (iW N roles k0 st l).1 o).2])
 | [],_,_=>rfl
 | x::l,st,o=>by
  show((iW N roles k0 (kM N roles k0 st x).1 (l++[o])).1,_::(iW N roles k0 (kM N roles k0 st x).1 (l++[o])).2)=_
  rw[Es N roles k0 l];rfl
structure f9 (st:HSt):Prop where
 ops:∀o∈st.1,Bf o=true
 sure:st.2≤st.1.length
theorem f9.start:f9 ([],0):=⟨fun o h=>by simp at h,Nat.le_refl _⟩
theorem f9.add {st:HSt}{o:POp}(h:f9 st)(ho:Bf o=true):f9 (st.1++[o],st.2) :=
 ⟨fun x hx=>by
  rcases List.mem_append.1 hx with h1|h1
  ·exact h.ops x h1
  ·rw[List.mem_singleton.1 h1];exact ho,by have:=h.sure;simp;omega⟩
theorem pR {o:POp}:(cY o).2=0↔Bf o=true:=by
 unfold cY;split <;> simp_all
theorem TQ (st:HSt)(keep:Int):jU st keep≤st.1.length-st.2:=Nat.min_le_right _ _
theorem f9.cut {st:HSt}(h:f9 st)(keep:Int):f9 (st.1.take (st.2+jU st keep),st.2+jU st keep) :=
 ⟨fun x hx=>h.ops x (List.mem_of_mem_take hx),by have:=TQ st keep;have:=h.sure;simp;omega⟩
theorem f9.all {st:HSt}(h:f9 st):f9 (st.1,st.1.length):=⟨h.ops,Nat.le_refl _⟩
theorem TU {N:aS}{roles:LLi}{k0:aX}{st:HSt}(o:HOp)(h:f9 st):f9 (kM N roles k0 st o).1:=by
 unfold kM;split
 ·split
  ·rename_i hw
   split
   ·exact h.add (pR.1 hw)
   ·exact h
  ·exact h
 ·split
  ·exact h.all
  ·split
   ·exact h.cut o.keep
   ·exact h
theorem Qz {N:aS}{roles:LLi}{k0:aX}{st:HSt}(o:HOp):(kM N roles k0 st o).1.1.length≤st.1.length+1:=by
 unfold kM
 repeat' split
 all_goals (try simp)
 all_goals omega
def As (N:aS)(roles:LLi)(i:Int)(l:List HOp):aX×List (Int×Int)×Int :=
 if(aZ N i).2=0 then((jS N roles ⟨(aZ N i).1,[]⟩ (iW N roles ⟨(aZ N i).1,[]⟩ ([],0) l).1.1).1,(iW N roles ⟨(aZ N i).1,[]⟩ ([],0) l).2,0)else(aX.nil,[],(aZ N i).2)
def jb (l:List POp):List Nat:=l.flatMap fun o=>(cY o).1
theorem r9 {o:POp}(h:Bf o=true):(cY o).1.length=7:=by rw[cY,if_pos h];rfl
theorem VB (l:List POp)(o:POp):jb (l++[o])=jb l++(cY o).1:=by simp[jb]
theorem Hu (l:List POp)(o:POp):jb (o::l)=(cY o).1++jb l:=by simp[jb]
theorem LZ {o:POp}(h:Bf o=true)(r:List Nat):VF (Bh o++r)=o:=by
 obtain⟨⟨k0,k1⟩,⟨u0,u1⟩,⟨t0,t1⟩,⟨d0,d1⟩,i0,i1⟩:=(yT o).1 h;obtain⟨k,u,t,i,d⟩:=o;simp only at *
 unfold VF Bh;simp only[List.cons_append,List.getD_cons_zero,List.getD_cons_succ,POp.mk.injEq];refine⟨by omega,by omega,by omega,by omega,by omega⟩
theorem Hv {o:POp}(h:Bf o=true)(r:List Nat):gZ ((cY o).1++r)=(o::(gZ r).1,(gZ r).2.1+7,(gZ r).2.2):=by
 rw[cY,if_pos h];have hl:(Bh o).length=6:=rfl;simp only;have e:Bh o++[uD (Bh o)]++r=Bh o++uD (Bh o)::r:=by simp
 rw[e,xH (by simp[hl];omega) ?_,LZ h]
 ·have:(Bh o++uD (Bh o)::r).drop 7=r:=by
   rw[List.drop_append];simp[hl]
  rw[this]
 ·rw[List.take_append_of_le_length (by rw[hl];exact Nat.le_refl _),List.take_of_length_le (by rw[hl];exact Nat.le_refl _)];simp[List.getD_eq_getElem?_getD,hl]
theorem Et:∀(l:List POp) (m:Nat),(∀o∈l,Bf o=true)→m≤7*l.length→∃e,gZ ((jb l).take m)=(l.take (m / 7),((7*(m / 7):Nat):Int),e)
 | [],m,_,hm=>by
  obtain rfl:m=0:=by simpa using hm
  exact⟨0,by rw[oZ (by simp[jb])];rfl⟩
 | o::l,m,h,hm=>by
  have ho:=h o (by simp);have hw:=r9 ho;rw[Hu];by_cases h7:m<7
  ·refine⟨0, ?_⟩;rw[oZ (by rw[List.length_take];omega),show m / 7=0 by omega];rfl
  ·obtain⟨e,he⟩:=Et l (m-7) (fun x hx=>h x (by simp[hx])) (by simp only[List.length_cons]at hm;omega);refine⟨e, ?_⟩;rw[List.take_append,List.take_of_length_le (by omega),hw,Hv ho,he];obtain⟨q,hq⟩:∃q,m / 7=q+1:=⟨m / 7-1,by omega⟩;rw[show(m-7) / 7=q by omega,hq];simp only[List.take_succ_cons,Prod.mk.injEq,true_and,and_true];omega
theorem QA:∀(l:List POp) (j:Nat),(∀o∈l,Bf o=true)→(jb l).take (7*j)=jb (l.take j)
 | [],j,_=>by simp[jb]
 | o::l,0,_=>by simp[jb]
 | o::l,j+1,h=>by
  have hw:=r9 (h o (by simp));rw[List.take_succ_cons,Hu,Hu,List.take_append,List.take_of_length_le (by omega),hw,show 7*(j+1)-7=7*j by omega,QA l j (fun x hx=>h x (by simp[hx]))]
open Go.RowKit
abbrev nF (w:World)(B:Nat)(v:Value)(n:Nat)(bs:List Nat):Prop:=aC gC 1 w B 5 v n bs
structure fK (N:Nat)(w w':World):Prop where
 size:w.heap.size≤w'.heap.size
 same:∀(k:Nat) (cs:Array Value) (ty:TypeId),k<N→w.heap[k]?=some (.cells cs ty (0,0))→ty≠109→ty≠45→ty≠5→w'.heap[k]?=w.heap[k]?
theorem fK.trans {N:Nat}{w w1 w2:World}(h:fK N w w1)(g:fK N w1 w2):fK N w w2 :=
 ⟨Nat.le_trans h.size g.size,fun k cs ty hN hk h1 h2 h3=>by
  have e:=h.same k cs ty hN hk h1 h2 h3;rw[←e];exact g.same k cs ty hN (e.trans hk) h1 h2 h3⟩
theorem fK.of_below {N:Nat}{w w':World}(hb:Below N w w'):fK N w w':=⟨hb.size,fun k _ _ hN _ _ _ _=>hb.block k hN⟩
theorem fK.of_grown {N:Nat}{w w':World}{B e s n:Nat}{v:Value}{c:List Value}(hg:w.grownBy w' v.ownBlock)(hNw:N≤w.heap.size)(h:w.ownsRow B e s v n c)(he:e=45∨e=5):fK N w w' :=
 ⟨hg.size,fun k cs ty hN hk h1 h2 h3=>hg.block k (Nat.lt_of_lt_of_le hN hNw) (fun e2=>by
  rcases h.2 with⟨rfl,_⟩|⟨g,cap,cur,rfl,_,hh,_⟩
  ·cases e2
  ·simp only[Value.ownBlock,Option.some.injEq]at e2;subst e2;rw[hk]at hh;injection hh with hh;injection hh with _ hh;subst hh;rcases he with rfl|rfl
   ·exact h2 rfl
   ·exact h3 rfl)⟩
theorem fK.set {N:Nat}{w:World}{b:Nat}{cs:Array Value}(h:Box w b 109 cs)(i:Nat)(v:Value):fK N w (w.setCell ⟨b,i,none⟩ v) :=
 ⟨by simp[World.setCell],fun k cs' ty _ hk h1 _ _=>heap_setCell_other _ _ _ _ (fun e=>by
  have e:k=b:=e;subst e;unfold Box at h;rw[h]at hk;injection hk with hk;injection hk with _ hk;exact h1 hk.symm)⟩
theorem aC.onlyH {α:Type}{R:World→(Nat→Value)→α→Prop}{sz N:Nat}{w w':World}{B e:Nat}{v:Value}{n:Nat}{xs:List α}(h:aC R sz w B e v n xs)(ho:fK N w w')(hN:w.heap.size≤N)(h1:e≠109)(h2:e≠45)(h3:e≠5)(hR:∀vs x,R w vs x→R w' vs x):aC R sz w' B e v n xs:=by
 have hlt:=h.lt;obtain⟨cells,⟨h0,h4⟩,h5,h6⟩:=h;refine⟨cells,⟨h0, ?_⟩,⟨h5.1,fun i x hx=>by obtain⟨vs,a,b⟩:=h5.2 i x hx;exact⟨vs,a,hR _ _ b⟩⟩,h6⟩;rcases h4 with h4|⟨g,cap,cur,hv,hg,hh,r⟩
 ·exact .inl h4
 ·exact .inr ⟨g,cap,cur,hv,hg,(ho.same g cur e (Nat.lt_of_lt_of_le (hlt g (by rw[hv];rfl)).2 hN) hh h1 h2 h3).trans hh,r⟩
theorem aC.cutOff {α:Type}{R:World→(Nat→Value)→α→Prop}{sz:Nat}{w:World}{B e g n cap m:Nat}{xs:List α}(h:aC R sz w B e (.slice (some ⟨g,0,none⟩) n cap) n xs)(hm:m≤n):aC R sz w B e (.slice (some ⟨g,0,none⟩) m cap) m (xs.take m):=by
 obtain⟨cells,⟨h0,h4⟩,h5,h6⟩:=h;have hms:m*sz≤n*sz:=Nat.mul_le_mul_right _ hm;refine⟨cells.take (m*sz),⟨by rw[List.length_take];omega, ?_⟩,⟨by rw[List.length_take,List.length_take,h6,Nat.min_eq_left hm];omega,fun i x hx=>?_⟩,by rw[List.length_take];omega⟩
 ·rcases h4 with⟨h4,_⟩|⟨g',cap',cur,hv,hg,hh,r1,r2,r3,r4⟩
  ·cases h4
  ·injection hv with e1 e2 e3;injection e1 with e1;injection e1 with e1;subst e1 e3;exact .inr ⟨_,_,cur,rfl,hg,hh,by omega,r2,r3,by rw[←r4,List.take_take,Nat.min_eq_left hms]⟩
 ·rw[List.getElem?_take]at hx;split at hx
  ·rename_i him
   obtain⟨vs,a,b⟩:=h5.2 i x hx;refine⟨vs,fun j hj=>?_,b⟩;have:i*sz+j<m*sz:=by
    have:(i+1)*sz≤m*sz:=Nat.mul_le_mul_right _ him;rw[Nat.succ_mul]at this;omega
   rw[List.getElem?_take_of_lt this];exact a j hj
  ·cases hx
theorem vZ (w:World)(b i:Nat)(v:Value):w.grownBy (w.setCell ⟨b,i,none⟩ v) (some b) :=
 ⟨rfl,rfl,rfl,by simp[World.setCell],fun k _ hk=>heap_setCell_other _ _ _ _ (fun e=>hk (by rw[e]))⟩
theorem aC.besideHall {α:Type}{R:World→(Nat→Value)→α→Prop}{sz:Nat}{w:World}{B e:Nat}{v:Value}{n:Nat}{xs:List α}{b:Nat}{cs:Array Value}(h:aC R sz w B e v n xs)(x:Box w b 109 cs)(hne:e≠109)(i:Nat)(u:Value)(hR:∀vs y,R w vs y→R (w.setCell ⟨b,i,none⟩ u) vs y):aC R sz (w.setCell ⟨b,i,none⟩ u) B e v n xs :=
 h.kept (vZ w b i u) (.inr (h.notBox x hne)) hR
theorem aV {B b:Nat}{w0 w:World}(h:Below B w0 w)(hB:B≤w0.heap.size)(hb:B≤b)(i:Nat)(u:Value):Below B w0 (w.setCell ⟨b,i,none⟩ u):=h.grown (vZ w b i u) (Nat.le_trans hB h.size) (fun k hk=>by cases hk;exact hb)
structure iN (w:World)(B bh:Nat)(P:Int)(A:OAd)(n c:Nat)(i:Int)(R:OAd)(r q:Nat)(vd vb:Value)(st:HSt):Prop where
 lo:B≤bh
 box:Box w bh 109 #[.int .i64 P,.slice A n c,.int .i64 i,.slice R r q,vd,vb,.int .i64 ((7*st.2:Nat):Int)]
 done:kD w B vd st.1.length st.1
 bytes:nF w B vb (7*st.1.length) (jb st.1)
section
variable {w w':World} {B bh:Nat} {P:Int} {A:OAd} {n c:Nat} {i:Int} {R:OAd} {r q:Nat} {vd vb:Value} {st:HSt}
theorem iN.set3 {vd' vb':Value}{st':HSt}{s7:Int}(h:Box w bh 109 #[.int .i64 P,.slice A n c,.int .i64 i,.slice R r q,vd,vb,.int .i64 s7])(lo:B≤bh)(d:kD w B vd' st'.1.length st'.1)(y:nF w B vb' (7*st'.1.length) (jb st'.1))(N:Nat) :
  iN (((w.setCell ⟨bh,4,none⟩ vd').setCell ⟨bh,5,none⟩ vb').setCell ⟨bh,6,none⟩ (.int .i64 ((7*st'.2:Nat):Int))) B bh P A n c i R r q vd' vb' st' ∧
   fK N w (((w.setCell ⟨bh,4,none⟩ vd').setCell ⟨bh,5,none⟩ vb').setCell ⟨bh,6,none⟩ (.int .i64 ((7*st'.2:Nat):Int))):=by
 have h1:=h.set 4 vd';have h2:=h1.set 5 vb';have h3:=h2.set 6 (.int .i64 ((7*st'.2:Nat):Int));refine⟨⟨lo,by simpa using h3, ?_, ?_⟩,((fK.set h 4 _).trans (fK.set h1 5 _)).trans (fK.set h2 6 _)⟩
 ·exact((d.besideHall h (by decide) 4 _ (fun _ _ hx=>hx)).besideHall h1 (by decide) 5 _ (fun _ _ hx=>hx)).besideHall h2 (by decide) 6 _ (fun _ _ hx=>hx)
 ·exact((y.besideHall h (by decide) 4 _ (fun _ _ hx=>hx)).besideHall h1 (by decide) 5 _ (fun _ _ hx=>hx)).besideHall h2 (by decide) 6 _ (fun _ _ hx=>hx)
theorem iN.keep (h:iN w B bh P A n c i R r q vd vb st)(hb:Below w.heap.size w w'):iN w' B bh P A n c i R r q vd vb st :=
 ⟨h.lo,h.box.keep hb,h.done.keep xY.kept hb,h.bytes.keep gC.kept hb⟩
end
theorem iN.setOther {w:World}{B bh:Nat}{P:Int}{A:OAd}{n c:Nat}{i:Int}{R:OAd}{r q:Nat}{vd vb:Value}{st:HSt}{b ty:Nat}{cs:Array Value}(h:iN w B bh P A n c i R r q vd vb st)(x:Box w b ty cs)(hb:bh≠b)(h2:45≠ty)(h3:5≠ty)(j:Nat)(u:Value):iN (w.setCell ⟨b,j,none⟩ u) B bh P A n c i R r q vd vb st :=
 ⟨h.lo,h.box.other (a:=⟨b,j,none⟩) u hb,h.done.kept (vZ w b j u) (.inr (h.done.notBox x h2)) (fun _ _ hx=>hx),h.bytes.kept (vZ w b j u) (.inr (h.bytes.notBox x h3)) (fun _ _ hx=>hx)⟩
theorem l9 {w:World}{A:OAd}{n c:Nat}{xs:List Nat}(h:Bts w A n c xs)(hn:n≤17592186044416) :
  Calls Tryz.prog 70 #[.slice A n c] w (MS gC 1 5 n xs w):=by
 have HB:=aA (show ∀o,Below w.heap.size w (w.alloc o)from fun o=>(Below.refl _ _).alloc (Nat.le_refl _) _);rcases A with _|ad
 ·have hc:=h.nul rfl;have hn0:n=0:=by have:=h.le;omega
  subst hc hn0;have hx:=List.eq_nil_of_length_eq_zero h.len;subst hx;clear h;have he:=fun(w:World)=>Lib.run_eql_slice_nil (P:=Tryz.prog) w 107 5 none 0 0 0 0 Tryz.underlying107
  go_enter Tryz.func70,Tryz.ntmps70
  go_wp2
  go_ret
  exact⟨_,rfl,aC.nil,Below.refl _ _⟩
 ·have H:=aA h;have O:=aA (aC.empty (R:=gC) (sz:=1) (w:=w) (B:=w.heap.size) (e:=5) (Nat.le_refl _));clear h;have he:=fun(w:World)=>Lib.run_eql_slice_nil (P:=Tryz.prog) w 107 5 (some ad) n c 0 0 Tryz.underlying107
  go_enter Tryz.func70,Tryz.ntmps70
  go_wp2_with (at_builtin;refine gY EG gC.good rfl _ _ rfl rfl rfl O.o (Sl.keep gC.kept H.o (HB.o _)) (HB.o _) (by simp) (by omega) (by omega) (fun _ _ _ _ h=>h) ?_;intro v1 w1 own1 hg1 hb1)
  go_ret
  exact⟨_,rfl,by simpa using own1,hb1⟩
theorem QC {α:Type}{R:World→(Nat→Value)→α→Prop}{sz:Nat}{w:World}{B e:Nat}{v:Value}{n:Nat}{xs:List α}(h:aC R sz w B e v n xs):(v=.slice none 0 0∧n=0)∨∃g cap,v=.slice (some ⟨g,0,none⟩) n cap:=by
 obtain⟨cells,⟨_,h1⟩,_,_⟩:=h;rcases h1 with h1|⟨g,cap,_,hv,_⟩
 ·exact .inl h1
 ·exact .inr ⟨g,cap,hv⟩
theorem cutAt {st:HSt}(h:f9 st)(keep:Int):∃m:Nat,((7*st.2:Nat):Int)+min (max keep 0) (((7*st.1.length:Nat):Int)-((7*st.2:Nat):Int))=(m:Int)∧m≤7*st.1.length∧m / 7=st.2+jU st keep:=by
 have hs:=h.sure;refine⟨(((7*st.2:Nat):Int)+min (max keep 0) (((7*st.1.length:Nat):Int)-((7*st.2:Nat):Int))).toNat,by omega,by omega, ?_⟩;unfold jU;omega
theorem Hw {w:World}{B bh:Nat}{P:Int}{A:OAd}{n c:Nat}{i:Int}{R:OAd}{r q:Nat}{vd vb:Value}{st:HSt}(keep:Int)(h:iN w B bh P A n c i R r q vd vb st)(ok:f9 st)(hl:st.1.length≤2513169434916)(hB:B≤w.heap.size) :
  Calls Tryz.prog 38 #[.pointer (some ⟨bh,0,none⟩),.int .i64 keep] w fun e w'=>e=.returned (.tuple #[])∧∃vd' vb',iN w' B bh P A n c i R r q vd' vb' (st.1.take (st.2+jU st keep),st.2+jU st keep)∧Below B w w'∧fK w.heap.size w w':=by
 obtain⟨m,hm1,hm2,hm3⟩:=cutAt ok keep;obtain⟨e,hread⟩:=Et st.1 m ok.ops hm2;have JT:=aA (QA st.1 (m / 7) ok.ops);have h0:=aA h;obtain⟨Ab,cb,hv,sb⟩:=h.bytes.sl (by omega);subst hv;have SB:=aA sb;have HR:=aA hread;have HM3:=aA hm3;obtain⟨nn,hnn⟩:∃nn,7*st.1.length=nn:=⟨_,rfl⟩;obtain⟨ss,hss⟩:∃ss,7*st.2=ss:=⟨_,rfl⟩;have hsn:ss≤nn:=by have:=ok.sure;omega
 have hnb:nn≤17592186044412:=by omega
 obtain⟨M,hM⟩:∃M:Int,max keep 0=M:=⟨_,rfl⟩;obtain⟨mn,hmn⟩:∃mn:Int,min M ((nn:Int)-(ss:Int))=mn:=⟨_,rfl⟩;have hmq:(ss:Int)+mn=(m:Int):=by rw[←hm1,←hmn,←hM,←hnn,←hss]
 have hM0:0≤M:=by omega
 have hmn0:0≤mn∧mn≤(nn:Int):=by omega
 have W1:=aA (show IntKind.i64.wrap ((nn:Int)-(ss:Int))=(nn:Int)-(ss:Int) by rw[IntKind.wrap_i64];omega);have W2:=aA (show IntKind.i64.wrap (m:Int)=(m:Int) by rw[IntKind.wrap_i64];omega);have HMN:=aA hmn;have HMQ:=aA hmq;have hX:=h.box;rw[hnn,hss]at hX;rw[hnn]at SB hm2;have XB:=aA hX;have HNN:=aA hnn;have c4:w.cell? ⟨bh,4,none⟩=some vd:=hX.cell 4;have c5:w.cell? ⟨bh,5,none⟩=some (.slice Ab nn cb):=hX.cell 5;have c6:w.cell? ⟨bh,6,none⟩=some (.int .i64 ss):=hX.cell 6;clear h hX sb hm1 hread hm3 hss hnn hmn hmq;go_enter Tryz.func38,Tryz.ntmps38
 go_wp2
 go_quiet (fail)
 try rw[W1.o]
 rw[HMN.o,HMQ.o];try rw[W2.o]
 have D1:=aA (show Below w.heap.size w (w.drewN nq)from xI _ _);have SB1:=aA (Sl.keep gC.kept SB.o D1.o);have XB1:=aA (XB.o.keep D1.o);have OB1:=aA (show nF (w.drewN nq) B (.slice Ab nn cb) nn (jb st.1) by have:=h0.o.bytes.keep gC.kept D1.o;rwa[HNN.o]at this);generalize w.drewN nq=w1 at *
 clear c4 c5 c6 XB SB hM hM0 hmn0 W1 W2 HMN HMQ;have c5:w1.cell? ⟨bh,5,none⟩=some (.slice Ab nn cb):=XB1.o.cell 5;have hmi:(m:Int)≤(nn:Int):=by omega
 have hcb:=SB1.o.le;have hmci:(m:Int)≤(cb:Int):=by omega
 obtain⟨m7,hm7⟩:∃m7,7*(m / 7)=m7:=⟨_,rfl⟩;have HM7:=aA hm7;have hm7m:m7≤m:=by omega
 have hm7c:(m7:Int)≤(cb:Int):=by omega
 clear hm7;rcases QC h0.o.bytes with⟨hv,hn0⟩|⟨g,cap,hv⟩
 ·injection hv with e1 e2 e3;subst e1 e3;obtain rfl:nn=0:=by rw[HNN.o]at hn0;exact hn0
  obtain rfl:m=0:=by omega
  obtain rfl:m7=0:=by have:=HM7.o;omega
  have CR:=aA (qH (w:=w1) (A:=none) (n:=0) (c:=0) (bs:=(jb st.1).take 0) (by rw[List.take_zero];exact Sl.nil0) (by omega));rw[HR.o]at CR;rw[HM7.o]at CR;go_upto_region 2 with(go_at_call 69;go_loud ((with_reducible refine CR.o.mono ?_);rintro e2 w2 ⟨Al,nl,cl,rfl,ownl,hb2⟩;have OL:=aA ownl;have D2:=aA hb2;clear ownl hb2 c5))
  have X2:=aA (XB1.o.keep D2.o);have hnl:nl=(st.1.take (0 / 7)).length:=OL.o.len.symm;have HNL:=aA hnl;have CC:=aA (l9 (w:=w2) (A:=none) (n:=0) (c:=0) (xs:=[]) Sl.nil0 (by omega));have c5:w2.cell? ⟨bh,5,none⟩=some (.slice _ _ _):=X2.o.cell 5;clear hnl;go_wp2_with (go_at_call 70;(with_reducible refine CC.o.mono ?_);rintro e3 w3 ⟨v3,rfl,ownb,hb3⟩;obtain⟨Ac,cc,hv3,_⟩:=ownb.sl (by omega);subst hv3;have OB:=aA ownb;have D3:=aA hb3;have X3:=aA (X2.o.keep D3.o);clear ownb hb3 c5;have c4:=X3.o.cell 4;have c5:=X3.o.cell 5;have c6:=X3.o.cell 6;have f4:=X3.o.frozen 4;have f5:=X3.o.frozen 5;have f6:=X3.o.frozen 6)
  have hmd:0 / 7=st.2+jU st keep:=HM3.o;have DN:=aA (show kD w3 B (.slice Al nl cl) (st.1.take (0 / 7)).length (st.1.take (0 / 7)) by rw[←HNL.o];exact(OL.o.keep xY.kept D3.o).base (Nat.le_trans hB D1.o.size));have BN:=aA (show nF w3 B (.slice Ac 0 cc) (7*(st.1.take (0 / 7)).length) (jb (st.1.take (0 / 7)))from OB.o.base (Nat.le_trans hB (D1.o.trans (D2.o.mono D1.o.size)).size));obtain⟨g1,g2⟩:=iN.set3 (B:=B) (vd':=.slice Al nl cl) (vb':=.slice Ac 0 cc) (st':=(st.1.take (st.2+jU st keep),st.2+jU st keep)) X3.o h0.o.lo (by rw[←hmd];exact DN.o) (by rw[←hmd];exact BN.o) w.heap.size;have e7:((7*(st.2+jU st keep):Nat):Int)=(0:Int):=by rw[←hmd];rfl
  simp only[e7]at g1 g2;exact bodyPost_end (v:=.tuple #[]) (by simp[results,Tryz.results38,go_sem]) rfl ⟨rfl,_,_,g1,aV (aV (aV (((D1.o.trans (D2.o.mono D1.o.size)).trans (D3.o.mono (D1.o.trans (D2.o.mono D1.o.size)).size)).mono hB) hB h0.o.lo 4 _) hB h0.o.lo 5 _) hB h0.o.lo 6 _,(fK.of_below ((D1.o.trans (D2.o.mono D1.o.size)).trans (D3.o.mono (D1.o.trans (D2.o.mono D1.o.size)).size))).trans g2⟩
 ·injection hv with e1 e2 e3;subst e1 e3;have CR:=aA (qH (w:=w1) (A:=some ⟨g,0,none⟩) (n:=m) (c:=cb) (bs:=(jb st.1).take m) ((OB1.o.cutOff hm2).arr (by omega)) (by omega));rw[HR.o]at CR;rw[HM7.o]at CR;go_upto_region 2 with(go_at_call 69;go_loud ((with_reducible refine CR.o.mono ?_);rintro e2 w2 ⟨Al,nl,cl,rfl,ownl,hb2⟩;have OL:=aA ownl;have D2:=aA hb2;clear ownl hb2 c5))
  have X2:=aA (XB1.o.keep D2.o);have hnl:nl=(st.1.take (m / 7)).length:=OL.o.len.symm;have HNL:=aA hnl;have CC:=aA (l9 (w:=w2) (A:=some ⟨g,0,none⟩) (n:=m7) (c:=cb) (xs:=(jb st.1).take m7) (((OB1.o.keep gC.kept D2.o).cutOff (show m7≤nn by omega)).arr (by omega)) (by omega));have c5:w2.cell? ⟨bh,5,none⟩=some (.slice _ _ _):=X2.o.cell 5;clear hnl;go_wp2_with (go_at_call 70;(with_reducible refine CC.o.mono ?_);rintro e3 w3 ⟨v3,rfl,ownb,hb3⟩;obtain⟨Ac,cc,hv3,_⟩:=ownb.sl (by omega);subst hv3;have OB:=aA ownb;have D3:=aA hb3;have X3:=aA (X2.o.keep D3.o);clear ownb hb3 c5;have c4:=X3.o.cell 4;have c5:=X3.o.cell 5;have c6:=X3.o.cell 6;have f4:=X3.o.frozen 4;have f5:=X3.o.frozen 5;have f6:=X3.o.frozen 6)
  have hmd:m / 7=st.2+jU st keep:=HM3.o;have DN:=aA (show kD w3 B (.slice Al nl cl) (st.1.take (m / 7)).length (st.1.take (m / 7)) by rw[←HNL.o];exact(OL.o.keep xY.kept D3.o).base (Nat.le_trans hB D1.o.size));have hlen:(st.1.take (m / 7)).length=m / 7:=by rw[List.length_take];have:=HNN.o;omega
  have BN:=aA (show nF w3 B (.slice Ac m7 cc) (7*(st.1.take (m / 7)).length) (jb (st.1.take (m / 7))) by
   rw[hlen,HM7.o,←JT.o,HM7.o];exact OB.o.base (Nat.le_trans hB (D1.o.trans (D2.o.mono D1.o.size)).size))
  obtain⟨g1,g2⟩:=iN.set3 (B:=B) (vd':=.slice Al nl cl) (vb':=.slice Ac m7 cc) (st':=(st.1.take (st.2+jU st keep),st.2+jU st keep)) X3.o h0.o.lo (by rw[←hmd];exact DN.o) (by rw[←hmd];exact BN.o) w.heap.size;have e7:((7*(st.2+jU st keep):Nat):Int)=(m7:Int):=by rw[←hmd,HM7.o]
  simp only[e7]at g1 g2;exact bodyPost_end (v:=.tuple #[]) (by simp[results,Tryz.results38,go_sem]) rfl ⟨rfl,_,_,g1,aV (aV (aV (((D1.o.trans (D2.o.mono D1.o.size)).trans (D3.o.mono (D1.o.trans (D2.o.mono D1.o.size)).size)).mono hB) hB h0.o.lo 4 _) hB h0.o.lo 5 _) hB h0.o.lo 6 _,(fK.of_below ((D1.o.trans (D2.o.mono D1.o.size)).trans (D3.o.mono (D1.o.trans (D2.o.mono D1.o.size)).size))).trans g2⟩
theorem nD.beside {w w':World}{b ty:Nat}{cs:Array Value}{A:OAd}{n c:Nat}{xs:List (Int×Int)}(h:nD w A n c xs)(hb:Box w b ty cs)(hcs:∀(j:Nat) (x:Int),cs[j]?≠some (.int .i64 x))(hw:aK b w w'):nD w' A n c xs :=
 Sl.beside h (by omega) (fun vs x hx=>⟨⟨_,hx.1⟩,hx⟩) hb hcs hw
theorem kN {w:World}{bh:Nat}{P:Int}{A:OAd}{n c:Nat}{i:Int}{R:OAd}{r q:Nat}{vb vs:Value}{Ad:OAd}{sl cd:Nat}{os:List POp}{ts:List aI}{roles:LLi}(hx:Box w bh 109 #[.int .i64 P,.slice A n c,.int .i64 i,.slice R r q,.slice Ad sl cd,vb,vs])(sd:V5 w Ad sl cd os)(t:bK w A n c ts)(g:bT w R r q roles)(hs:sl≤3518437208780) :
  Calls Tryz.prog 36 #[.pointer (some ⟨bh,0,none⟩)] w (Ar (uG ⟨P,ts⟩ roles i os) w):=by
 generalize hw:w.alloc (.cells #[.slice none 0 0,.slice none 0 0,.slice none 0 0] 33)=w0;have hB:=aA (show Below w.heap.size w w0 by rw[←hw];exact(Below.refl _ _).alloc (Nat.le_refl _) _);have X1:=aA (show Box w0 w.heap.size 33 #[.slice none 0 0,.slice none 0 0,.slice none 0 0] by rw[←hw];exact Box.new _ _ _);have XH:=aA (hx.keep hB.o);have hlt:=aA (show bh<w.heap.size from hx.lt);have CD:=aA (fun(w':World) (hb:Below w0.heap.size w0 w')=>xB (P:=P) i ((t.keep hB.o).keep hb) (Sl.keep bH.kept (Sl.keep bH.kept g hB.o) hb) (Sl.keep xY.kept (Sl.keep xY.kept sd hB.o) hb) hs);obtain⟨PR,hPR⟩:∃PR,uG ⟨P,ts⟩ roles i os=PR:=⟨_,rfl⟩;rw[hPR];simp only[hPR]at CD;obtain⟨kd,la,er⟩:=PR;clear hx t g sd hPR;go_enter Tryz.func36,Tryz.ntmps36
 go_upto_region 1 with fail
 clear hw;have hne1:bh≠w.heap.size:=by have:=hlt.o;omega
 have hne2:w.heap.size≠bh:=by have:=hlt.o;omega
 have h0:w0.cell? ⟨bh,0,none⟩=some (.int .i64 P):=XH.o.cell 0;have h1:w0.cell? ⟨bh,1,none⟩=some (.slice A n c):=XH.o.cell 1;have h2:w0.cell? ⟨bh,2,none⟩=some (.int .i64 i):=XH.o.cell 2;have h3:w0.cell? ⟨bh,3,none⟩=some (.slice R r q):=XH.o.cell 3;have h4:w0.cell? ⟨bh,4,none⟩=some (.slice Ad sl cd):=XH.o.cell 4;have DR:=aA ((Below.refl w0.heap.size w0).drew);have KEEP:=aA (show ∀w',Below w0.heap.size w0 w'→w'.cell? ⟨bh,0,none⟩=some (.int .i64 P)∧w'.cell? ⟨bh,1,none⟩=some (.slice A n c)∧w'.cell? ⟨bh,2,none⟩=some (.int .i64 i)∧w'.cell? ⟨bh,3,none⟩=some (.slice R r q)∧w'.cell? ⟨bh,4,none⟩=some (.slice Ad sl cd)from fun w' hb=>⟨(XH.o.keep hb).cell 0,(XH.o.keep hb).cell 1,(XH.o.keep hb).cell 2,(XH.o.keep hb).cell 3,(XH.o.keep hb).cell 4⟩);go_region_held3 (fun w'=>w'.cell? ⟨bh,0,none⟩=some (.int .i64 P)∧w'.cell? ⟨bh,1,none⟩=some (.slice A n c)∧w'.cell? ⟨bh,2,none⟩=some (.int .i64 i)∧w'.cell? ⟨bh,3,none⟩=some (.slice R r q)∧w'.cell? ⟨bh,4,none⟩=some (.slice Ad sl cd))
  (first|go_keep)
  (first|(go_at_call 7;(with_reducible refine(CD.o _ DR.o).mono ?_);rintro e w2 ⟨B2,m2,d2,D2,l2,f2,I2,n2,c2,A2,na,ca,rfl,dw,an,hb2⟩;have DW:=aA dw;have AN:=aA an;have F2:=aA (DR.o.trans (hb2.mono DR.o.size));clear dw an hb2 h0 h1 h2 h3 h4;obtain⟨h0,h1,h2,h3,h4⟩:=KEEP.o w2 F2.o;obtain⟨z0,z1,z2⟩:=(X1.o.keep F2.o).three;have z3:=(X1.o.keep F2.o).frozen 0;have z4:=(X1.o.keep F2.o).frozen 1;have z5:=(X1.o.keep F2.o).frozen 2))
 all_goals
  go_wp2
  obtain⟨r0,r1,r2⟩:=((X1.o.keep F2.o).set3 (.slice B2 m2 d2) (.slice D2 l2 f2) (.slice I2 n2 c2)).three;have BW:=aG (hB.o.trans (F2.o.mono hB.o.size)) (Nat.le_refl w.heap.size) (.slice B2 m2 d2) (.slice D2 l2 f2) (.slice I2 n2 c2);exact bodyPost_ret (v:=.tuple #[.agg #[.slice B2 m2 d2,.slice D2 l2 f2,.slice I2 n2 c2],.slice A2 na ca,.int .i64 er]) (by simp[results,Tryz.results36,go_sem,r0,r1,r2]) rfl ⟨B2,m2,d2,D2,l2,f2,I2,n2,c2,A2,na,ca,rfl,DW.o.beside (X1.o.keep F2.o) dH (aK.set3 _ _ _ _ _),AN.o.beside (X1.o.keep F2.o) dH (aK.set3 _ _ _ _ _),BW⟩
theorem nD.at {w:World}{A:OAd}{n c k:Nat}{os:List (Int×Int)}(h:nD w A n c os)(hk:k<n) :
  ∃b off o,A=some ⟨b,off,none⟩∧b<w.heap.size∧Hid (os[k]?=some o)∧w.cell? ⟨b,off+k*2,none⟩=some (.int .i64 o.1)∧w.cell? ⟨b,off+k*2+1,none⟩=some (.int .i64 o.2):=by
 obtain⟨b,off,o,vs,h1,h2,h3,h4,e0,e1⟩:=Sl.get h hk;refine⟨b,off,o,h1,h2,h3, ?_, ?_⟩
 ·rw[←e0];exact h4 0 (by omega)
 ·rw[←e1];exact h4 1 (by omega)
theorem Wz {α:Type}{R:World→(Nat→Value)→α→Prop}{sz:Nat}{w:World}{B e n c:Nat}{A:OAd}{xs:List α}(h:aC R sz w B e (.slice A n c) n xs)(hn:n≤281474976710656):Sl R sz w A n c xs:=by
 obtain⟨A2,c2,hv,s2⟩:=h.sl hn;injection hv with e1 _ e2;subst e1 e2;exact s2
theorem Eu {w:World}{B bh:Nat}{P:Int}{A:OAd}{n c:Nat}{i:Int}{R:OAd}{r q:Nat}{vd vb:Value}{st:HSt}{ts:List aI}{roles:LLi}(o:POp)(h:iN w B bh P A n c i R r q vd vb st)(_:f9 st)(hbl:(aZ ⟨P,ts⟩ i).2=0)(t:∀w',Below B w w'→bK w' A n c ts)(g:∀w',Below B w w'→bT w' R r q roles)(hl:st.1.length≤2513169434915)(hB:B≤w.heap.size) :
  Calls Tryz.prog 37 #[.pointer (some ⟨bh,0,none⟩),.agg #[.int .i64 o.kind,.int .i64 o.user,.int .i64 o.tran,.int .i64 o.item,.int .i64 o.to_]] w fun e w'=>e=.returned (.agg #[.int .i64 (hdo ⟨P,ts⟩ roles ⟨(aZ ⟨P,ts⟩ i).1,[]⟩ st o).2.1,.int .i64 (hdo ⟨P,ts⟩ roles ⟨(aZ ⟨P,ts⟩ i).1,[]⟩ st o).2.2])∧∃vd' vb',iN w' B bh P A n c i R r q vd' vb' (hdo ⟨P,ts⟩ roles ⟨(aZ ⟨P,ts⟩ i).1,[]⟩ st o).1∧Below B w w'∧fK w.heap.size w w':=by
 have PD:=Ep (N:=⟨P,ts⟩) (roles:=roles) (i:=i) (l:=st.1++[o]) rfl hbl;rw[uE]at PD;have hLl:=(uF ⟨P,ts⟩ roles st.1 _ (eK.start hbl)).2.2;obtain⟨k0,hk0⟩:∃k0:aX,(⟨(aZ ⟨P,ts⟩ i).1,[]⟩:aX)=k0:=⟨_,rfl⟩;rw[hk0]at hLl PD;rw[hk0];have HE0:=aA (show(cY o).2≠0→hdo ⟨P,ts⟩ roles k0 st o=(st,((cY o).2,0))from fun hw=>by rw[hdo,if_neg hw]);have HE1:=aA (show(cY o).2=0→(cD ⟨P,ts⟩ roles (jS ⟨P,ts⟩ roles k0 st.1).1 o).2.2≠0→hdo ⟨P,ts⟩ roles k0 st o=(st,((cD ⟨P,ts⟩ roles (jS ⟨P,ts⟩ roles k0 st.1).1 o).2.2,(cD ⟨P,ts⟩ roles (jS ⟨P,ts⟩ roles k0 st.1).1 o).2.1))from fun hw he=>by rw[hdo,if_pos hw,if_neg he]);have HE2:=aA (show(cY o).2=0→(cD ⟨P,ts⟩ roles (jS ⟨P,ts⟩ roles k0 st.1).1 o).2.2=0→hdo ⟨P,ts⟩ roles k0 st o=((st.1++[o],st.2),(0,(cD ⟨P,ts⟩ roles (jS ⟨P,ts⟩ roles k0 st.1).1 o).2.1))from fun hw he=>by rw[hdo,if_pos hw,if_pos he]);generalize hdo ⟨P,ts⟩ roles k0 st o=HD at *
 generalize cD ⟨P,ts⟩ roles (jS ⟨P,ts⟩ roles k0 st.1).1 o=SD at *
 generalize (jS ⟨P,ts⟩ roles k0 st.1).2=LA at *
 obtain⟨sk,it,er⟩:=SD;simp only at PD HE1 HE2;have PDH:=aA PD;have HLL:=aA hLl;obtain⟨BL,ew⟩:∃x,x=cY o:=⟨_,rfl⟩;have CW:=aA (fun(w':World)=>Bj (w:=w') o);have CO:=aA (fun(w':World) (hw:(cY o).2=0)=>xJ (w:=w') o (pR.1 hw));have WL:=aA (show ∀(_:(cY o).2=0),(cY o).1.length=7 from fun hw=>r9 (pR.1 hw));have JS:=aA (VB st.1 o);clear ew BL;obtain⟨BW,hBW⟩:∃x,cY o=x:=⟨_,rfl⟩;rw[hBW]at HE0 HE1 HE2 WL JS;simp only[hBW]at CW CO;obtain⟨bl,ew⟩:=BW;simp only at HE0 HE1 HE2 WL JS;have hv0:=QC h.done;clear PD hLl hk0 hbl hBW;generalize hw:(w.alloc (.cells #[.int .i64 o.kind,.int .i64 o.user,.int .i64 o.tran,.int .i64 o.item,.int .i64 o.to_] 45)).alloc (.cells #[.int .i64 0,.int .i64 0] 47)=w0;have HB0:=aA (show Below w.heap.size w w0 by rw[←hw];exact((Below.refl _ _).alloc (Nat.le_refl _) _).alloc (by simp) _);have X3:=aA (show Box w0 w.heap.size 45 #[.int .i64 o.kind,.int .i64 o.user,.int .i64 o.tran,.int .i64 o.item,.int .i64 o.to_] by rw[←hw];exact(Box.new _ _ _).old _);have X4:=aA (show Box w0 (w.heap.size+1) 47 #[.int .i64 0,.int .i64 0] by rw[←hw];exact Box.newAt (by simp) _ _);have H:=aA h;have TT:=aA t;have GG:=aA g;have hlt:=aA (show bh<w.heap.size from h.box.lt);clear h t g;go_enter Tryz.func37,Tryz.ntmps37
 go_upto_region 1 with fail
 clear hw;obtain⟨p0,p1,p2,p3,p4⟩:=X3.o.five;by_cases hew:ew=0
 ·subst hew;go_upto_region 4 with(go_at_call 68;go_loud ((with_reducible refine(CO.o _ (by first|rfl|trivial)).mono ?_);rintro e1 w1 ⟨Ab,nb,cb,rfl,ib,hb1⟩;have IB:=aA ib;have B1:=aA (HB0.o.trans (hb1.mono HB0.o.size));have Y3:=aA (X3.o.keep hb1);have Y4:=aA (X4.o.keep hb1);clear ib hb1 p0 p1 p2 p3 p4 X3 X4))
  have Z0:=aA (show iN w1.drew B bh P A n c i R r q vd vb st from H.o.keep B1.o.drew);have Z3:=aA (Y3.o.drew);have Z4:=aA (Y4.o.drew);have D1:=aA (B1.o.drew);have IB1:=aA (show nF w1.drew w.heap.size (.slice Ab nb cb) nb bl from(IB.o.base HB0.o.size).keep gC.kept ⟨rfl,rfl,rfl,Nat.le_refl _,fun _ _=>rfl⟩);obtain⟨Ad,cd,hvd,sd⟩:=Z0.o.done.sl (by omega);subst hvd;obtain⟨nn,hnn⟩:∃nn,st.1.length=nn:=⟨_,rfl⟩;have HNN:=aA hnn;have NA:=aA (show(Value.slice Ad st.1.length cd).ownBlock≠some w.heap.size from H.o.done.notAt (Nat.le_refl _));have OD:=aA Z0.o.done;have OB:=aA Z0.o.bytes;have XH:=aA Z0.o.box;rw[hnn]at OD OB XH hl NA;clear sd H hnn HE0 Y3 Y4 B1 hv0 IB;obtain⟨p0,p1,p2,p3,p4⟩:=Z3.o.five;have c4:w1.drew.cell? ⟨bh,4,none⟩=some (.slice Ad nn cd):=XH.o.cell 4;refine aF 10 (.takes [0,1,2,3,4,5] (.one 6 (.one 7 (.one 8 (.one 9 (.fin 10 .done)))))) (fun w'=>w'.cell? ⟨bh,4,none⟩=some (.slice Ad nn cd)∧w'.cell? ⟨w.heap.size,0,none⟩=some (.int .i64 o.kind)∧w'.cell? ⟨w.heap.size,1,none⟩=some (.int .i64 o.user)∧w'.cell? ⟨w.heap.size,2,none⟩=some (.int .i64 o.tran)∧w'.cell? ⟨w.heap.size,3,none⟩=some (.int .i64 o.item)∧w'.cell? ⟨w.heap.size,4,none⟩=some (.int .i64 o.to_)) (by kernel_rfl) (by kernel_rfl) (by kernel_rfl) (fun _ _ _ _ _ h=>h) ⟨c4,p0,p1,p2,p3,p4⟩ (fun hH=>?_);simp only[Scr.takes];generalize w1.drew=u0 at *
  iterate 6
   refine aH (v:=?_) rfl (by rfl) hH (fun w' hSw=>?_) ?_
   rotate_left
   ·(go_simp;try with_reducible rfl)
   try simp only[Act.put,aL,aM,aN]
  refine bI rfl (fun Kf hKf=>?_);go_simp
  refine hKf.out _ _ ⟨(XH.o.old _).cell 4,(Z3.o.old _).five⟩ (fun hH=>?_);clear hKf;try simp only[Act.put,aL,aM,aN]
  refine bI rfl (fun Kf hKf=>?_);refine jD Ud rfl (.tmp 24) (.tmp 26) rfl [o] #[.int .i64 o.kind,.int .i64 o.user,.int .i64 o.tran,.int .i64 o.item,.int .i64 o.to_] rfl rfl (by first|rfl|simp) rfl rfl (by omega) (by simp[Value.oneCell']) OD.o (by have h:=a6.dop (w:=u0) (o:=o);simpa using h) rfl (D1.o.mono hB) (Nat.le_trans hB D1.o.size) (by omega) (by omega) (fun _ _ _ _ h=>h) ?_;intro g5 cap5 w5 own5 hg5 hb5 hBg hgl;replace hg5:u0.grownBy w5 (Value.slice Ad nn cd).ownBlock:=hg5
  obtain⟨cells,od1,_⟩:=id OD.o;obtain⟨_,ob1,_⟩:=id OB.o;have O5:=aA own5;have B5:=aA hb5;have X5:=aA (XH.o.grown hg5 (OD.o.notBox XH.o (by decide)));have V3:=aA (Z3.o.grown hg5 NA.o);have V4:=aA (Z4.o.grown hg5 (OD.o.notBox Z4.o (by decide)));have OB5:=aA (show nF w5 B vb (7*nn) (jb st.1)from OB.o.kept hg5 (fO ob1 od1 (by decide)) (fun _ _ hx=>hx));obtain⟨_,ib1,_⟩:=id IB1.o;have IB5:=aA (show nF w5 w.heap.size (.slice Ab nb cb) nb bl from IB1.o.kept hg5 (fO ib1 od1 (by decide)) (fun _ _ hx=>hx));have OH5:=aA ((fK.of_below D1.o).trans (fK.of_grown (N:=w.heap.size) hg5 D1.o.size od1 (.inl rfl)));have SZ5:=aA (show w.heap.size≤w5.heap.size from Nat.le_trans D1.o.size hg5.size);clear own5 hb5 hg5 od1 ob1 ib1 hBg hgl c4 p0 p1 p2 p3 p4;have c4:w5.cell? ⟨bh,4,none⟩=some (.slice Ad nn cd):=X5.o.cell 4;have f4:=X5.o.frozen 4;refine hKf.out _ _ ⟨c4,V3.o.five⟩ (fun hH=>?_);clear hKf;try simp only[Act.put,aL,aM,aN]
  refine bI rfl (fun Kf hKf=>?_);go_simp
  refine hKf.out _ _ ⟨c4,V3.o.five⟩ (fun hH=>?_);clear hKf;try simp only[Act.put,aL,aM,aN]
  refine bI rfl (fun Kf hKf=>?_);go_simp
  refine hKf.out _ _ ⟨c4,V3.o.five⟩ (fun hH=>?_);clear hKf;try simp only[Act.put,aL,aM,aN]
  refine bF rfl (fun Kf hKf=>?_);go_simp
  refine hKf.out _ _ ?_;clear hKf;try simp only[Act.put,aL,aM,aN]
  refine bP ?_;clear hH c4 f4;have X6:=aA (show Box (w5.setCell ⟨bh,4,none⟩ (.slice (some ⟨g5,0,none⟩) (nn+1) cap5)) bh 109 #[.int .i64 P,.slice A n c,.int .i64 i,.slice R r q,.slice (some ⟨g5,0,none⟩) (nn+1) cap5,vb,.int .i64 ((7*st.2:Nat):Int)] by simpa using X5.o.set 4 (.slice (some ⟨g5,0,none⟩) (nn+1) cap5));have O6:=aA (O5.o.besideHall X5.o (by decide) 4 (.slice (some ⟨g5,0,none⟩) (nn+1) cap5) (fun _ _ hx=>hx));have OB6:=aA (OB5.o.besideHall X5.o (by decide) 4 (.slice (some ⟨g5,0,none⟩) (nn+1) cap5) (fun _ _ hx=>hx));have IB6:=aA (IB5.o.besideHall X5.o (by decide) 4 (.slice (some ⟨g5,0,none⟩) (nn+1) cap5) (fun _ _ hx=>hx));have V46:=aA (V4.o.other (a:=⟨bh,4,none⟩) (.slice (some ⟨g5,0,none⟩) (nn+1) cap5) (show w.heap.size+1≠bh by have:=hlt.o;omega));have OH6:=aA (OH5.o.trans (fK.set X5.o 4 (.slice (some ⟨g5,0,none⟩) (nn+1) cap5)));have B6:=aA (aV B5.o hB (show B≤bh from Z0.o.lo) 4 (.slice (some ⟨g5,0,none⟩) (nn+1) cap5));have SZ6:=aA (show w.heap.size≤(w5.setCell ⟨bh,4,none⟩ (.slice (some ⟨g5,0,none⟩) (nn+1) cap5)).heap.size by simpa [World.setCell] using SZ5.o);have HLO:=aA (show B≤bh from Z0.o.lo);generalize w5.setCell ⟨bh,4,none⟩ (.slice (some ⟨g5,0,none⟩) (nn+1) cap5)=w6 at *
  clear X5 O5 OB5 V3 V4 OH5 B5 SZ5 Z3 Z4 Z0 OD OB XH D1 IB1 IB5;have CD:=aA (kN X6.o (O6.o.arr (by omega)) (TT.o w6 B6.o) (GG.o w6 B6.o) (by omega));rw[PDH.o]at CD;go_upto_region 6 with(go_at_call 36;go_loud ((with_reducible refine CD.o.mono ?_);rintro e7 w7 ⟨B2,m2,d2,D2,l2,f2,I2,n2,c2,A2,na,ca,rfl,_,an,hb7⟩;have AN:=aA an;have B7:=aA hb7;clear an hb7))
  obtain rfl:na=nn+1:=by have:=AN.o.len;rw[List.length_append,HLL.o,HNN.o]at this;exact this.symm
  generalize hw8:w7.alloc (.cells #[.slice B2 m2 d2,.slice D2 l2 f2,.slice I2 n2 c2] 33)=w8;have hb8:Below w7.heap.size w7 w8:=by rw[←hw8];exact(Below.refl _ _).alloc (Nat.le_refl _) _
  have B8:=aA (B7.o.trans (hb8.mono B7.o.size));obtain⟨b9,off9,y9,rfl,_,hy9,q0,q1⟩:=nD.at (Sl.keep QK.kept AN.o hb8) (show nn<nn+1 by omega);obtain rfl:y9=(er,it):=by have h:=hy9.o;rw[List.getElem?_append_right (by rw[HLL.o,HNN.o];omega),HLL.o,HNN.o]at h;simpa using h.symm
  have hni:(nn:Int)<((nn+1:Nat):Int):=by omega
  clear hw8 hb8 hy9 AN CD B7;by_cases her:er=0
  ·subst her;have HF:=aA (HE2.o (by first|rfl|trivial) (by first|rfl|trivial));go_upto_region 7 with fail
   generalize hw9:w8.alloc (.cells #[.int .i64 0,.int .i64 it] 47)=w9;have hb9:Below w8.heap.size w8 w9:=by rw[←hw9];exact(Below.refl _ _).alloc (Nat.le_refl _) _
   have X10:=aA (show Box w9 w8.heap.size 47 #[.int .i64 0,.int .i64 it] by rw[←hw9];exact Box.new _ _ _);have B9:=aA (B8.o.trans (hb9.mono B8.o.size));have X69:=aA (X6.o.keep B9.o);have O69:=aA (O6.o.keep xY.kept B9.o);have OB69:=aA (OB6.o.keep gC.kept B9.o);have V49:=aA (V46.o.keep B9.o);have IB9:=aA (show nF w9 w.heap.size (.slice Ab nb cb) nb bl from IB6.o.keep gC.kept B9.o);have hne10:=aA (show bh<w8.heap.size by have:=hlt.o;have:=SZ6.o;have:=B8.o.size;omega);have hne4:=aA (show w.heap.size+1<w8.heap.size by have:=V46.o.lt;have:=B8.o.size;omega);obtain rfl:nb=7:=by rw[←IB9.o.len];exact WL.o (by first|rfl|trivial)
   obtain⟨Av,cv,hvb,_⟩:=OB69.o.sl (by omega);subst hvb;obtain⟨nv,hnv⟩:∃nv,7*nn=nv:=⟨_,rfl⟩;have HNV:=aA hnv;rw[hnv]at OB69 X69;clear hw9 hb9 O6 X6 OB6 V46 hnv q0 q1 hni;generalize w8.heap.size=b10 at *
   have c5:w9.cell? ⟨bh,5,none⟩=some (.slice Av nv cv):=X69.o.cell 5;have B19:=aA (B6.o.trans (B9.o.mono (Nat.le_trans hB SZ6.o)));have OH9:=aA (OH6.o.trans (fK.of_below (B9.o.mono SZ6.o)));have SZ9:=aA (Nat.le_trans SZ6.o B9.o.size);obtain⟨_,od1,_⟩:=id O69.o;obtain⟨_,ob1,_⟩:=id OB69.o;have OD1:=aA od1;have OB1:=aA ob1;clear od1 ob1 B6 OH6 B8 B9;obtain⟨e0,e1⟩:=X10.o.two;go_upto_region 11 with(at_builtin;go_loud (refine y8 EG gC.good rfl _ _ rfl rfl rfl OB69.o (Wz IB9.o (by omega)) B19.o (Nat.le_trans hB SZ9.o) (by omega) (by omega) (fun _ _ _ _ h=>h) ?_;intro v10 w10 own10 hg10 hb10;obtain⟨Ac,cc,hvc,_⟩:=own10.sl (by omega);subst hvc;have O10:=aA own10;have G10:=aA hg10;have B10:=aA hb10;clear own10 hg10 hb10 c5 e0 e1;have X70:=aA (X69.o.grown G10.o (OB69.o.notBox X69.o (by decide)));have c5:w10.cell? ⟨bh,5,none⟩=some (.slice Av nv cv):=X70.o.cell 5;have f5:=X70.o.frozen 5))
   have X11:=aA (X10.o.grown G10.o (OB69.o.notBox X10.o (by decide)));have V50:=aA (V49.o.grown G10.o (OB69.o.notBox V49.o (by decide)));have O70:=aA (show kD w10 B (.slice (some ⟨g5,0,none⟩) (nn+1) cap5) (nn+1) (st.1++[o])from O69.o.kept G10.o (fO OD1.o OB1.o (by decide)) (fun _ _ hx=>hx));have OH10:=aA (OH9.o.trans (fK.of_grown G10.o SZ9.o OB1.o (.inr rfl)));have SZ10:=aA (Nat.le_trans SZ9.o G10.o.size);have X71:=aA (X70.o.set 5 (.slice Ac (nv+7) cc));have O71:=aA (O70.o.besideHall X70.o (by decide) 5 (.slice Ac (nv+7) cc) (fun _ _ hx=>hx));have OB71:=aA (O10.o.besideHall X70.o (by decide) 5 (.slice Ac (nv+7) cc) (fun _ _ hx=>hx));have X12:=aA (X11.o.other (a:=⟨bh,5,none⟩) (.slice Ac (nv+7) cc) (show b10≠bh by have:=hne10.o;omega));have V51:=aA (V50.o.other (a:=⟨bh,5,none⟩) (.slice Ac (nv+7) cc) (show w.heap.size+1≠bh by have:=hlt.o;omega));have OH11:=aA (OH10.o.trans (fK.set X70.o 5 (.slice Ac (nv+7) cc)));have B11:=aA (aV B10.o hB HLO.o 5 (.slice Ac (nv+7) cc));have SZ11:=aA (show w.heap.size≤(w10.setCell ⟨bh,5,none⟩ (.slice Ac (nv+7) cc)).heap.size by simpa [World.setCell] using SZ10.o);have HN1:=aA (show(st.1++[o]).length=nn+1 by rw[List.length_append,HNN.o];rfl);have HW:=aA (show iN (w10.setCell ⟨bh,5,none⟩ (.slice Ac (nv+7) cc)) B bh P A n c i R r q (.slice (some ⟨g5,0,none⟩) (nn+1) cap5) (.slice Ac (nv+7) cc) (st.1++[o],st.2) from
    ⟨HLO.o,by simpa using X71.o,by show kD _ _ _ (st.1++[o]).length (st.1++[o]);rw[HN1.o];exact O71.o,by show nF _ _ _ (7*(st.1++[o]).length) (jb (st.1++[o]));rw[HN1.o,JS.o,show 7*(nn+1)=nv+7 by rw[←HNV.o];rfl];exact OB71.o⟩)
   clear c5 f5 X69 X70 X10 X11 V49 V50 O69 O70 OB69 OB1 OD1 O10 G10 B10 OH9 OH10 X71 O71 OB71 IB9 IB6;generalize w10.setCell ⟨bh,5,none⟩ (.slice Ac (nv+7) cc)=w11 at *
   obtain⟨e0,e1⟩:=X12.o.two;obtain⟨z0,z1⟩:=V51.o.two;have zf0:=V51.o.frozen 0;have zf1:=V51.o.frozen 1;go_wp2
   obtain⟨r0,r1⟩:=(V51.o.set2 (.int .i64 0) (.int .i64 it)).two;have hbt:bh≠w.heap.size+1:=by have:=hlt.o;omega
   have HW2:=(HW.o.setOther V51.o hbt (by decide) (by decide) 0 (.int .i64 0)).setOther (V51.o.set 0 (.int .i64 0)) hbt (by decide) (by decide) 1 (.int .i64 it);have BW:=aV (aV B11.o hB (show B≤w.heap.size+1 by omega) 0 (.int .i64 0)) hB (show B≤w.heap.size+1 by omega) 1 (.int .i64 it);have OW:=OH11.o.trans (fK.of_below (aV (aV (Below.refl w.heap.size w11) SZ11.o (show w.heap.size≤w.heap.size+1 by omega) 0 (.int .i64 0)) SZ11.o (show w.heap.size≤w.heap.size+1 by omega) 1 (.int .i64 it)));exact bodyPost_ret (v:=.agg #[.int .i64 0,.int .i64 it]) (by simp[results,Tryz.results37,go_sem,r0,r1]) rfl (by rw[HF.o];first|exact⟨rfl,_,_,HW2,BW,OW⟩|exact⟨rfl,⟨_,_,HW2⟩,BW,OW⟩)
  ·have HF:=aA (HE1.o (by first|rfl|trivial) her);go_upto_region 7 with fail
   generalize hw9:w8.alloc (.cells #[.int .i64 er,.int .i64 it] 47)=w9;have hb9:Below w8.heap.size w8 w9:=by rw[←hw9];exact(Below.refl _ _).alloc (Nat.le_refl _) _
   have X10:=aA (show Box w9 w8.heap.size 47 #[.int .i64 er,.int .i64 it] by rw[←hw9];exact Box.new _ _ _);have B9:=aA (B8.o.trans (hb9.mono B8.o.size));have X69:=aA (X6.o.keep B9.o).drew;have O69:=aA (show kD w9.drew B (.slice (some ⟨g5,0,none⟩) (nn+1) cap5) (nn+1) (st.1++[o])from O6.o.keep xY.kept B9.o.drew);have OB69:=aA (show nF w9.drew B vb (7*nn) (jb st.1)from OB6.o.keep gC.kept B9.o.drew);have V49:=aA (V46.o.keep B9.o).drew;have hne10:=aA (show bh<w8.heap.size by have:=hlt.o;have:=SZ6.o;have:=B8.o.size;omega);have B19:=aA (B6.o.trans (B9.o.mono (Nat.le_trans hB SZ6.o))).drew;have OH9:=aA (OH6.o.trans (fK.of_below (B9.o.mono SZ6.o).drew));obtain⟨e0,e1⟩:=X10.o.two;have Y10:=aA X10.o.drew;have hcap5:nn+1≤cap5:=(O69.o.arr (by omega)).le;have hcap5i:(nn:Int)≤(cap5:Int):=by omega
   have WX:=aA (show IntKind.i64.wrap (nn:Int)=(nn:Int) by rw[IntKind.wrap_i64];omega);clear hw9 hb9 O6 X6 OB6 V46 q0 q1 hni;generalize w8.heap.size=b10 at *
   go_upto_region 8 with fail
   have c4:w9.drew.cell? ⟨bh,4,none⟩=some (.slice (some ⟨g5,0,none⟩) (nn+1) cap5):=X69.o.cell 4;have f4:=X69.o.frozen 4;clear e0 e1 X10;refine aF 14 (.takes [0,1,2,3,4,5,6,7,8,9,10] (.take 11 (.one 12 (.one 13 (.fin 14 .done))))) (fun w'=>w'.cell? ⟨bh,4,none⟩=some (.slice (some ⟨g5,0,none⟩) (nn+1) cap5)) (by kernel_rfl) (by kernel_rfl) (by kernel_rfl) (fun _ _ _ _ _ h=>h) c4 (fun hH=>?_);simp only[Scr.takes];generalize w9.drew=u9 at *
   iterate 11
    refine aH (v:=?_) rfl (by rfl) hH (fun w' hSw=>?_) ?_
    rotate_left
    ·(go_simp;try with_reducible rfl)
    try simp only[Act.put,aL,aM,aN]
   try rw[WX.o]
   refine aH (v:=?_) rfl (by rfl) hH (fun w' hSw=>?_) ?_
   rotate_left
   ·(go_simp;try with_reducible rfl)
   try simp only[Act.put,aL,aM,aN]
   refine bI rfl (fun Kf hKf=>?_);go_simp
   refine hKf.out _ _ c4 (fun hH=>?_);clear hKf;try simp only[Act.put,aL,aM,aN]
   refine bI rfl (fun Kf hKf=>?_);go_simp
   refine hKf.out _ _ c4 (fun hH=>?_);clear hKf;try simp only[Act.put,aL,aM,aN]
   refine bF rfl (fun Kf hKf=>?_);go_simp
   refine hKf.out _ _ ?_;clear hKf;try simp only[Act.put,aL,aM,aN]
   refine bP ?_;clear hH c4 f4;have OC:=aA (show kD u9 B (.slice (some ⟨g5,0,none⟩) nn cap5) nn st.1 by
    have h:=O69.o.cutOff (show nn≤nn+1 by omega);rwa[List.take_append_of_le_length (by rw[HNN.o];exact Nat.le_refl _),List.take_of_length_le (by rw[HNN.o];exact Nat.le_refl _)]at h)
   have HW:=aA (show iN (u9.setCell ⟨bh,4,none⟩ (.slice (some ⟨g5,0,none⟩) nn cap5)) B bh P A n c i R r q (.slice (some ⟨g5,0,none⟩) nn cap5) vb st from
    ⟨HLO.o,by simpa using X69.o.set 4 (.slice (some ⟨g5,0,none⟩) nn cap5),by rw[HNN.o];exact OC.o.besideHall X69.o (by decide) 4 _ (fun _ _ hx=>hx),by rw[HNN.o];exact OB69.o.besideHall X69.o (by decide) 4 _ (fun _ _ hx=>hx)⟩)
   have X12:=aA (Y10.o.other (a:=⟨bh,4,none⟩) (.slice (some ⟨g5,0,none⟩) nn cap5) (show b10≠bh by have:=hne10.o;omega));have V51:=aA (V49.o.other (a:=⟨bh,4,none⟩) (.slice (some ⟨g5,0,none⟩) nn cap5) (show w.heap.size+1≠bh by have:=hlt.o;omega));have OH11:=aA (OH9.o.trans (fK.set X69.o 4 (.slice (some ⟨g5,0,none⟩) nn cap5)));have B11:=aA (aV B19.o hB HLO.o 4 (.slice (some ⟨g5,0,none⟩) nn cap5));have SZ11:=aA (show w.heap.size≤(u9.setCell ⟨bh,4,none⟩ (.slice (some ⟨g5,0,none⟩) nn cap5)).heap.size by simpa [World.setCell] using OH9.o.size);clear X69 O69 OB69 V49 B19 OH9 Y10 OC;generalize u9.setCell ⟨bh,4,none⟩ (.slice (some ⟨g5,0,none⟩) nn cap5)=w11 at *
   obtain⟨e0,e1⟩:=X12.o.two;obtain⟨z0,z1⟩:=V51.o.two;have zf0:=V51.o.frozen 0;have zf1:=V51.o.frozen 1;go_wp2
   obtain⟨r0,r1⟩:=(V51.o.set2 (.int .i64 er) (.int .i64 it)).two;have hbt:bh≠w.heap.size+1:=by have:=hlt.o;omega
   have HW2:=(HW.o.setOther V51.o hbt (by decide) (by decide) 0 (.int .i64 er)).setOther (V51.o.set 0 (.int .i64 er)) hbt (by decide) (by decide) 1 (.int .i64 it);have BW:=aV (aV B11.o hB (show B≤w.heap.size+1 by omega) 0 (.int .i64 er)) hB (show B≤w.heap.size+1 by omega) 1 (.int .i64 it);have OW:=OH11.o.trans (fK.of_below (aV (aV (Below.refl w.heap.size w11) SZ11.o (show w.heap.size≤w.heap.size+1 by omega) 0 (.int .i64 er)) SZ11.o (show w.heap.size≤w.heap.size+1 by omega) 1 (.int .i64 it)));exact bodyPost_ret (v:=.agg #[.int .i64 er,.int .i64 it]) (by simp[results,Tryz.results37,go_sem,r0,r1]) rfl (by rw[HF.o];first|exact⟨rfl,_,_,HW2,BW,OW⟩|exact⟨rfl,⟨_,_,HW2⟩,BW,OW⟩)
 ·have HF:=aA (HE0.o hew);go_wp2_with (go_at_call 68;(with_reducible refine(CW.o _).mono ?_);rintro e1 w1 ⟨Ab,nb,cb,rfl,ib,hb1⟩;have B1:=aA (HB0.o.trans (hb1.mono HB0.o.size));have Y4:=aA (X4.o.keep hb1);clear ib hb1 p0 p1 p2 p3 p4;obtain⟨z0,z1⟩:=Y4.o.two;have f0:=Y4.o.frozen 0;have f1:=Y4.o.frozen 1)
  obtain⟨r0,r1⟩:=(Y4.o.set2 (.int .i64 ew) (.int .i64 0)).two;have BW:=aV (aV B1.o (Nat.le_refl _) (show w.heap.size≤w.heap.size+1 by omega) 0 (.int .i64 ew)) (Nat.le_refl _) (show w.heap.size≤w.heap.size+1 by omega) 1 (.int .i64 0);exact bodyPost_ret (v:=.agg #[.int .i64 ew,.int .i64 0]) (by simp[results,Tryz.results37,go_sem,r0,r1]) rfl (by rw[HF.o];exact⟨rfl,vd,vb,H.o.keep BW,BW.mono hB,fK.of_below BW⟩)
def Md:World→(Nat→Value)→HOp→Prop:=fun _ vs o=>vs 0=.int .i64 o.kind∧vs 1=.int .i64 o.keep∧vs 2=.int .i64 o.op.kind∧vs 3=.int .i64 o.op.user∧vs 4=.int .i64 o.op.tran∧vs 5=.int .i64 o.op.item∧vs 6=.int .i64 o.op.to_∧(Lit.int .i64 o.keep).wf=true
theorem Md.kept:t8 Md:=fun _ _ _ _ _ h=>h
theorem Md.good:Jj Md 7 where
 kept:=Md.kept
 one:=fun w vs x h j hj=>by
  obtain⟨h0,h1,h2,h3,h4,h5,h6,_⟩:=h;match j,hj with
  | 0,_=>rw[h0];rfl
  | 1,_=>rw[h1];rfl
  | 2,_=>rw[h2];rfl
  | 3,_=>rw[h3];rfl
  | 4,_=>rw[h4];rfl
  | 5,_=>rw[h5];rfl
  | 6,_=>rw[h6];rfl
 pos:=by omega
abbrev VE (w:World)(A:OAd)(n c:Nat)(os:List HOp):Prop:=Sl Md 7 w A n c os
theorem VE.get {w:World}{A:OAd}{n c k:Nat}{os:List HOp}(h:VE w A n c os)(hk:k<n) :
  ∃b off o,A=some ⟨b,off,none⟩∧b<w.heap.size∧Hid (os[k]?=some o)∧w.cell? ⟨b,off+k*7,none⟩=some (.int .i64 o.kind)∧w.cell? ⟨b,off+k*7+1,none⟩=some (.int .i64 o.keep)∧w.cell? ⟨b,off+k*7+2,none⟩=some (.int .i64 o.op.kind)∧w.cell? ⟨b,off+k*7+3,none⟩=some (.int .i64 o.op.user) ∧
   w.cell? ⟨b,off+k*7+4,none⟩=some (.int .i64 o.op.tran)∧w.cell? ⟨b,off+k*7+5,none⟩=some (.int .i64 o.op.item)∧w.cell? ⟨b,off+k*7+6,none⟩=some (.int .i64 o.op.to_)∧Hid ((Lit.int .i64 o.keep).wf=true):=by
 obtain⟨b,off,o,vs,h1,h2,h3,h4,e0,e1,e2,e3,e4,e5,e6,e7⟩:=Sl.get h hk;refine⟨b,off,o,h1,h2,h3, ?_, ?_, ?_, ?_, ?_, ?_, ?_,e7⟩
 ·rw[←e0];exact h4 0 (by omega)
 ·rw[←e1];exact h4 1 (by omega)
 ·rw[←e2];exact h4 2 (by omega)
 ·rw[←e3];exact h4 3 (by omega)
 ·rw[←e4];exact h4 4 (by omega)
 ·rw[←e5];exact h4 5 (by omega)
 ·rw[←e6];exact h4 6 (by omega)
theorem QD {N:aS}{roles:LLi}{k0:aX}{os:List HOp}{j:Nat}{o:HOp}{st:HSt}{la:List (Int×Int)}(h:os[j]?=some o)(hr:iW N roles k0 ([],0) (os.take j)=(st,la)):iW N roles k0 ([],0) (os.take (j+1))=((kM N roles k0 st o).1,la++[(kM N roles k0 st o).2]):=by
 obtain⟨hj,hx⟩:=List.getElem?_eq_some_iff.1 h;have e:os.take (j+1)=os.take j++[o]:=by rw[←List.take_append_getElem hj,hx]
 rw[e,Es,hr]
theorem Box.onlyH {w w':World}{b ty N:Nat}{cs:Array Value}(x:Box w b ty cs)(ho:fK N w w')(hb:b<N)(h1:ty≠109)(h2:ty≠45)(h3:ty≠5):Box w' b ty cs:=by
 unfold Box at x ⊢;exact(ho.same b cs ty hb x h1 h2 h3).trans x
theorem iN.grown {w w':World}{B bh:Nat}{P:Int}{A:OAd}{n c:Nat}{i:Int}{R:OAd}{r q:Nat}{vd vb:Value}{st:HSt}{α:Type}{R':World→(Nat→Value)→α→Prop}{sz B' e n':Nat}{v:Value}{xs:List α}(h:iN w B bh P A n c i R r q vd vb st)(own:aC R' sz w B' e v n' xs)(hg:w.grownBy w' v.ownBlock)(h1:e≠109)(h2:45≠e)(h3:5≠e):iN w' B bh P A n c i R r q vd vb st:=by
 obtain⟨_,o1,_⟩:=id own;obtain⟨_,d1,_⟩:=id h.done;obtain⟨_,b1,_⟩:=id h.bytes;exact⟨h.lo,h.box.grown hg (own.notBox h.box h1),h.done.kept hg (fO d1 o1 h2) (fun _ _ hx=>hx),h.bytes.kept hg (fO b1 o1 h3) (fun _ _ hx=>hx)⟩
theorem iN.sureAll {w:World}{B bh:Nat}{P:Int}{A:OAd}{n c:Nat}{i:Int}{R:OAd}{r q:Nat}{vd vb:Value}{st:HSt}(h:iN w B bh P A n c i R r q vd vb st){x:Int}(hx:((7*st.1.length:Nat):Int)=x):iN (w.setCell ⟨bh,6,none⟩ (.int .i64 x)) B bh P A n c i R r q vd vb (st.1,st.1.length):=by
 subst hx;exact⟨h.lo,by simpa using h.box.set 6 (.int .i64 ((7*st.1.length:Nat):Int)),h.done.besideHall h.box (by decide) 6 _ (fun _ _ hx=>hx),h.bytes.besideHall h.box (by decide) 6 _ (fun _ _ hx=>hx)⟩
theorem aC.setFar {α:Type}{R:World→(Nat→Value)→α→Prop}{sz:Nat}{w:World}{B e:Nat}{v:Value}{n:Nat}{xs:List α}(h:aC R sz w B e v n xs){b:Nat}(hne:v.ownBlock≠some b)(i:Nat)(u:Value)(hR:∀vs x,R w vs x→R (w.setCell ⟨b,i,none⟩ u) vs x):aC R sz (w.setCell ⟨b,i,none⟩ u) B e v n xs :=
 h.kept (vZ w b i u) (.inr hne) hR
theorem xC {w:World}{P:Int}{A R O:OAd}{n c r q s so:Nat}{ts:List aI}{roles:LLi}{os:List HOp}(i:Int)(h:bK w A n c ts)(g:bT w R r q roles)(x:VE w O s so os)(hs:s≤2513169434916) :
  Calls Tryz.prog 14 #[.agg #[.int .i64 P,.slice A n c],.int .i64 i,.slice R r q,.slice O s so] w (Ar (As ⟨P,ts⟩ roles i os) w):=by
 generalize hw:(w.alloc (.cells #[.int .i64 P,.slice A n c] 24)).alloc (.cells #[.slice none 0 0,.slice none 0 0,.slice none 0 0] 33)=w0;have HB:=aA (show Below w.heap.size w w0 by rw[←hw];exact((Below.refl _ _).alloc (Nat.le_refl _) _).alloc (by simp) _);have X0:=aA (show Box w0 w.heap.size 24 #[.int .i64 P,.slice A n c] by rw[←hw];exact(Box.new _ _ _).old _);have X1:=aA (show Box w0 (w.heap.size+1) 33 #[.slice none 0 0,.slice none 0 0,.slice none 0 0] by rw[←hw];exact Box.newAt (by simp) _ _);have HSZ:=aA (show w0.heap.size=w.heap.size+2 by rw[←hw];simp);have H:=aA h;have G:=aA g;have X:=aA x;have PE:=aA (show ∀e,(aZ ⟨P,ts⟩ i).2=e→e≠0→As ⟨P,ts⟩ roles i os=(aX.nil,[],e)from fun e he h0=>by rw[As,if_neg (by rw[he];exact h0),he]);have PL0:=aA (show ∀e,(aZ ⟨P,ts⟩ i).2=e→e≠0→uG ⟨P,ts⟩ roles i []=(aX.nil,[],e)from fun e he h0=>by rw[uG,if_neg (by rw[he];exact h0),he]);have PY:=aA (show(aZ ⟨P,ts⟩ i).2=0→As ⟨P,ts⟩ roles i os=((jS ⟨P,ts⟩ roles ⟨(aZ ⟨P,ts⟩ i).1,[]⟩ (iW ⟨P,ts⟩ roles ⟨(aZ ⟨P,ts⟩ i).1,[]⟩ ([],0) os).1.1).1,(iW ⟨P,ts⟩ roles ⟨(aZ ⟨P,ts⟩ i).1,[]⟩ ([],0) os).2,0)from fun h0=>by rw[As,if_pos h0]);have PLY:=aA (show ∀l,(aZ ⟨P,ts⟩ i).2=0→uG ⟨P,ts⟩ roles i l=((jS ⟨P,ts⟩ roles ⟨(aZ ⟨P,ts⟩ i).1,[]⟩ l).1,(jS ⟨P,ts⟩ roles ⟨(aZ ⟨P,ts⟩ i).1,[]⟩ l).2,0)from fun l h0=>by rw[uG,if_pos h0]);generalize As ⟨P,ts⟩ roles i os=RES at *
 clear h g x;go_enter Tryz.func14,Tryz.ntmps14
 go_upto_region 1 with fail
 clear hw;obtain⟨a0,a1⟩:=X0.o.two;go_upto_region 2 with fail
 generalize hw1:w0.alloc (.cells #[.int .i64 P,.slice A n c,.int .i64 i,.slice R r q,.slice none 0 0,.slice none 0 0,.int .i64 0] 109)=w1;have hb1:Below w0.heap.size w0 w1:=by rw[←hw1];exact(Below.refl _ _).alloc (Nat.le_refl _) _
 have HW1:=aA (show iN w1 w0.heap.size w0.heap.size P A n c i R r q (.slice none 0 0) (.slice none 0 0) ([],0)from⟨Nat.le_refl _,by rw[←hw1];exact Box.new _ _ _,aC.nil,aC.nil⟩);have B1:=aA (HB.o.trans (hb1.mono HB.o.size));have SB1:=aA (show w0.heap.size≤w1.heap.size from hb1.size);have Y1:=aA (X1.o.keep hb1);have Y1B:=aA (show w.heap.size+1<w0.heap.size by rw[HSZ.o];omega);clear hw1 hb1 a0 a1 X0 X1 HB;generalize w0.heap.size=B at *
 have CD:=aA (kN HW1.o.box (Sl.nil0) (H.o.keep B1.o) (Sl.keep bH.kept G.o B1.o) (by omega));obtain⟨be,hbe⟩:∃be,(aZ ⟨P,ts⟩ i).2=be:=⟨_,rfl⟩;by_cases h0:be=0
 ·subst h0;have BL:=aA hbe;have PY1:=aA (PY.o hbe);have PLY1:=aA (fun l=>PLY.o l hbe);rw[PLY.o [] hbe]at CD;clear hbe PE PL0 PY PLY;go_upto_region 3 with(go_at_call 36;go_loud ((with_reducible refine CD.o.mono ?_);rintro e w2 ⟨B2,m2,d2,D2,l2,f2,I2,n2,c2,A2,na,ca,rfl,_,an,hb2⟩;have D2b:=aA hb2;clear an hb2))
  generalize hw3:w2.alloc (.cells #[.slice B2 m2 d2,.slice D2 l2 f2,.slice I2 n2 c2] 33)=w3;have D3:=aA (show Below w1.heap.size w1 w3 by rw[←hw3];exact D2b.o.alloc D2b.o.size _);have HW3:=aA (HW1.o.keep D3.o);clear hw3 D2b CD HW1;obtain⟨k0,hk0⟩:∃k0:aX,(⟨(aZ ⟨P,ts⟩ i).1,[]⟩:aX)=k0:=⟨_,rfl⟩;have HK0:=aA hk0;simp only[hk0]at PLY1;rw[hk0]at PY1;clear hk0;go_wp2
  go_loopw [15,39] (fun ov jv wr=>∃(j:Nat) (vd vb:Value) (st:HSt) (la:List (Int×Int)),j≤s∧jv=.int .i64 j∧st.1.length≤j∧Hid (r8 wr B ov j la)∧Hid (iN wr B B P A n c i R r q vd vb st)∧Hid (f9 st)∧Hid (Below B w3 wr)∧Hid (iW ⟨P,ts⟩ roles k0 ([],0) (os.take j)=(st,la))) (fun _ jv _=>s-(intOf jv).toNat)
  case atStart=>exact⟨0,_,_,([],0),[],Nat.zero_le _,rfl,Nat.le_refl _,aC.nil,HW3,f9.start,Below.refl _ _,rfl⟩
  case round =>
   obtain⟨j,vd,vb,st,la,hj,rfl,hstl,OV,HWr,OK,BW,HR⟩:=hrel;have BZ:=aA (B1.o.trans ((D3.o.mono SB1.o |>.trans BW.o).mono (show w.heap.size≤B by have:=Y1B.o;omega)));by_cases hlj:j<s
   ·have hji:(j:Int)<(s:Int):=by omega
    obtain⟨b,off,o,rfl,hb,hx,q0,q1,q2,q3,q4,q5,q6,_⟩:=VE.get (Sl.keep Md.kept X.o BZ.o) hlj;have RT:=aA (QD hx.o HR.o);have NT:=aA (OV.o.notAt (show wr.heap.size≤wr.heap.size+1 by omega));have hBr:=aA (show B≤wr.heap.size from Nat.le_trans (Nat.le_trans SB1.o D3.o.size) BW.o.size);clear hx;go_upto_region 10 with fail
    generalize hwa:(wr.alloc (.cells #[.int .i64 o.kind,.int .i64 o.keep,.int .i64 o.op.kind,.int .i64 o.op.user,.int .i64 o.op.tran,.int .i64 o.op.item,.int .i64 o.op.to_] 112)).alloc (.cells #[.int .i64 0,.int .i64 0] 47)=wa;have ha:=aA (show Below wr.heap.size wr wa by rw[←hwa];exact((Below.refl _ _).alloc (Nat.le_refl _) _).alloc (by simp) _);have XO:=aA (show Box wa wr.heap.size 112 #[.int .i64 o.kind,.int .i64 o.keep,.int .i64 o.op.kind,.int .i64 o.op.user,.int .i64 o.op.tran,.int .i64 o.op.item,.int .i64 o.op.to_] by rw[←hwa];exact(Box.new _ _ _).old _);have XA:=aA (show Box wa (wr.heap.size+1) 47 #[.int .i64 0,.int .i64 0] by rw[←hwa];exact Box.newAt (by simp) _ _);have HWa:=aA (HWr.o.keep ha.o);have OVa:=aA (OV.o.keep QK.kept ha.o);have Ba:=aA (BW.o.trans (ha.o.mono hBr.o));have hBa:=aA (Nat.le_trans hBr.o ha.o.size);have hlt1:=aA (show B<wr.heap.size from HWr.o.box.lt);have XAlt:=aA (show wr.heap.size+1<wa.heap.size from XA.o.lt);have TT:=aA (show ∀w',Below B wa w'→bK w' A n c ts∧bT w' R r q roles from fun w' hb'=>⟨H.o.keep ((BZ.o.trans (ha.o.mono BZ.o.size)).trans (hb'.mono (show w.heap.size≤B by have:=Y1B.o;omega))),Sl.keep bH.kept G.o ((BZ.o.trans (ha.o.mono BZ.o.size)).trans (hb'.mono (show w.heap.size≤B by have:=Y1B.o;omega)))⟩);have k0c:wa.cell? ⟨wr.heap.size,0,none⟩=some (.int .i64 o.kind):=XO.o.cell 0;clear hwa q0 q1 q2 q3 q4 q5 q6 HWr OV BW ha;generalize wr.heap.size=b17 at *
    obtain⟨kd,hkd⟩:∃kd,o.kind=kd:=⟨_,rfl⟩;rw[hkd]at k0c;by_cases h1:kd=1
    ·subst h1;have HS:=aA (Vx (N:=⟨P,ts⟩) (roles:=roles) (k0:=k0) (st:=st) hkd);rw[HS.o]at RT;have DO:=aA (Eu o.op HWa.o OK.o BL.o (fun w' hb'=>(TT.o w' hb').1) (fun w' hb'=>(TT.o w' hb').2) (by omega) hBa.o);have SOK:=aA (show f9 (hdo ⟨P,ts⟩ roles k0 st o.op).1 from HS.o▸TU o OK.o);have SLN:=aA (show(hdo ⟨P,ts⟩ roles k0 st o.op).1.1.length≤st.1.length+1 from HS.o▸Qz o);rw[HK0.o]at DO;generalize hdo ⟨P,ts⟩ roles k0 st o.op=HD at *
     obtain⟨st',xx,yy⟩:=HD;simp only at DO SOK SLN RT;clear HS hkd;have k2:wa.cell? ⟨b17,2,none⟩=some (.int .i64 o.op.kind):=XO.o.cell 2;have k3:wa.cell? ⟨b17,3,none⟩=some (.int .i64 o.op.user):=XO.o.cell 3;have k4:wa.cell? ⟨b17,4,none⟩=some (.int .i64 o.op.tran):=XO.o.cell 4;have k5:wa.cell? ⟨b17,5,none⟩=some (.int .i64 o.op.item):=XO.o.cell 5;have k6:wa.cell? ⟨b17,6,none⟩=some (.int .i64 o.op.to_):=XO.o.cell 6;go_upto_region 18 with(go_at_call 37;go_loud ((with_reducible refine DO.o.mono ?_);rintro e wb ⟨rfl,vd',vb',hw',hb',ho'⟩;have HWb:=aA hw';have Bb:=aA (Ba.o.trans hb');have XAb:=aA (XA.o.onlyH ho' XAlt.o (by decide) (by decide) (by decide));have OVb:=aA (OVa.o.onlyH ho' (Nat.le_refl _) (by decide) (by decide) (by decide) (fun _ _ hx=>hx));clear hw' hb' ho' k0c k2 k3 k4 k5 k6;obtain⟨z0,z1⟩:=XAb.o.two;have f0:=XAb.o.frozen 0;have f1:=XAb.o.frozen 1))
     have HWc:=aA ((HWb.o.setOther XAb.o (show B≠b17+1 by have:=hlt1.o;omega) (by decide) (by decide) 0 (.int .i64 xx)).setOther (XAb.o.set 0 (.int .i64 xx)) (show B≠b17+1 by have:=hlt1.o;omega) (by decide) (by decide) 1 (.int .i64 yy));have OVc:=aA (show r8 ((wb.setCell ⟨b17+1,0,none⟩ (.int .i64 xx)).setCell ⟨b17+1,1,none⟩ (.int .i64 yy)) B u15 j la from(OVb.o.setFar NT.o 0 (.int .i64 xx) (fun _ _ hx=>hx)).setFar NT.o 1 (.int .i64 yy) (fun _ _ hx=>hx));have XAc:=aA (XAb.o.set2 (.int .i64 xx) (.int .i64 yy));have Bc:=aA (aV (aV Bb.o (Nat.le_trans SB1.o D3.o.size) (show B≤b17+1 by have:=hlt1.o;omega) 0 (.int .i64 xx)) (Nat.le_trans SB1.o D3.o.size) (show B≤b17+1 by have:=hlt1.o;omega) 1 (.int .i64 yy));generalize (wb.setCell ⟨b17+1,0,none⟩ (.int .i64 xx)).setCell ⟨b17+1,1,none⟩ (.int .i64 yy)=wc at *
     clear z0 z1 f0 f1 HWb OVb XAb Bb;obtain⟨e0,e1⟩:=XAc.o.two;go_wp2_with (at_builtin;refine bY nE rfl _ _ rfl [(xx,yy)] #[.int .i64 xx,.int .i64 yy] rfl rfl (by first|rfl|simp) rfl (by simp[Value.oneCell']) OVc.o a6.ans rfl Bc.o (Nat.le_trans (Nat.le_trans SB1.o D3.o.size) Bc.o.size) (by omega) (by omega) (fun _ _ _ _ h=>h) ?_;intro v2 w5 own5 hg5 hb5;have O5:=aA own5;have HW5:=aA (HWc.o.grown OVc.o hg5 (by decide) (by decide) (by decide));have B5:=aA hb5;clear own5 hg5 hb5)
     go_roundw
     case rel=>exact⟨j+1,_,_,st',la++[(xx,yy)],by omega,by go_num,by have:=SLN.o;first|omega|(simp only at this;omega),O5,HW5,SOK,B5,RT⟩
     case measure=>simp[intOf];omega
    ·by_cases h2:kd=2
     ·subst h2;have HS:=aA (Vy (N:=⟨P,ts⟩) (roles:=roles) (k0:=k0) (st:=st) hkd);rw[HS.o]at RT;clear HS hkd;obtain⟨Av,cv,hvb,_⟩:=HWa.o.bytes.sl (by omega);subst hvb;obtain⟨nv,hnv⟩:∃nv,7*st.1.length=nv:=⟨_,rfl⟩;have XH:=aA HWa.o.box;rw[hnv]at XH;have HNV:=aA hnv;clear hnv;have c5:wa.cell? ⟨B,5,none⟩=some (.slice Av nv cv):=XH.o.cell 5;obtain⟨s7,hs7⟩:∃s7:Value,.int .i64 ((7*st.2:Nat):Int)=s7:=⟨_,rfl⟩;have c6:wa.cell? ⟨B,6,none⟩=some s7:=by rw[←hs7];exact XH.o.cell 6
      have f6:=XH.o.frozen 6;clear hs7;go_upto_region 18 with fail
      have HWc:=aA (HWa.o.sureAll (x:=(nv:Int)) (by rw[HNV.o]));have OVc:=aA (OVa.o.setFar (b:=B) (OVa.o.notBox XH.o (by decide)) 6 (.int .i64 (nv:Int)) (fun _ _ hx=>hx));have XAc:=aA (XA.o.other (a:=⟨B,6,none⟩) (.int .i64 (nv:Int)) (show b17+1≠B by have:=hlt1.o;omega));have Bc:=aA (aV Ba.o (Nat.le_trans SB1.o D3.o.size) (Nat.le_refl B) 6 (.int .i64 (nv:Int)));have SOK:=aA OK.o.all;have SLN:=aA (show(st.1,st.1.length).1.length≤st.1.length+1 by simp);generalize wa.setCell ⟨B,6,none⟩ (.int .i64 (nv:Int))=wc at *
      clear c5 c6 f6 XH k0c;obtain⟨e0,e1⟩:=XAc.o.two;go_wp2_with (at_builtin;refine bY nE rfl _ _ rfl [(0,0)] #[.int .i64 0,.int .i64 0] rfl rfl (by first|rfl|simp) rfl (by simp[Value.oneCell']) OVc.o a6.ans rfl Bc.o (Nat.le_trans (Nat.le_trans SB1.o D3.o.size) Bc.o.size) (by omega) (by omega) (fun _ _ _ _ h=>h) ?_;intro v2 w5 own5 hg5 hb5;have O5:=aA own5;have HW5:=aA (HWc.o.grown OVc.o hg5 (by decide) (by decide) (by decide));have B5:=aA hb5;clear own5 hg5 hb5)
      go_roundw
      case rel=>exact⟨j+1,_,_,(st.1,st.1.length),la++[(0,0)],by omega,by go_num,by have:=SLN.o;first|omega|(simp only at this;omega),O5,HW5,SOK,B5,RT⟩
      case measure=>simp[intOf];omega
     ·by_cases h3:kd=3
      ·subst h3;have HS:=aA (Vz (N:=⟨P,ts⟩) (roles:=roles) (k0:=k0) (st:=st) hkd);rw[HS.o]at RT;clear HS hkd;have CR:=aA (Hw o.keep HWa.o OK.o (by omega) hBa.o);have SOK:=aA (OK.o.cut o.keep);have SLN:=aA (show(st.1.take (st.2+jU st o.keep)).length≤st.1.length+1 by rw[List.length_take];omega);generalize hst':((st.1.take (st.2+jU st o.keep),st.2+jU st o.keep):HSt)=st' at *
       have SLN2:=aA (show st'.1.length≤st.1.length+1 by rw[←hst'];exact SLN.o);clear hst' SLN;have k1:wa.cell? ⟨b17,1,none⟩=some (.int .i64 o.keep):=XO.o.cell 1;go_upto_region 18 with(go_at_call 38;go_loud ((with_reducible refine CR.o.mono ?_);rintro e wc ⟨rfl,vd',vb',hw',hb',ho'⟩;have HWc:=aA hw';have Bc:=aA (Ba.o.trans hb');have XAc:=aA (XA.o.onlyH ho' XAlt.o (by decide) (by decide) (by decide));have OVc:=aA (OVa.o.onlyH ho' (Nat.le_refl _) (by decide) (by decide) (by decide) (fun _ _ hx=>hx));clear hw' hb' ho' k0c k1))
       have SLN:=SLN2;obtain⟨e0,e1⟩:=XAc.o.two;go_wp2_with (at_builtin;refine bY nE rfl _ _ rfl [(0,0)] #[.int .i64 0,.int .i64 0] rfl rfl (by first|rfl|simp) rfl (by simp[Value.oneCell']) OVc.o a6.ans rfl Bc.o (Nat.le_trans (Nat.le_trans SB1.o D3.o.size) Bc.o.size) (by omega) (by omega) (fun _ _ _ _ h=>h) ?_;intro v2 w5 own5 hg5 hb5;have O5:=aA own5;have HW5:=aA (HWc.o.grown OVc.o hg5 (by decide) (by decide) (by decide));have B5:=aA hb5;clear own5 hg5 hb5)
       go_roundw
       case rel=>exact⟨j+1,_,_,st',la++[(0,0)],by omega,by go_num,by have:=SLN.o;first|omega|(simp only at this;omega),O5,HW5,SOK,B5,RT⟩
       case measure=>simp[intOf];omega
      ·have HS:=aA (TM (N:=⟨P,ts⟩) (roles:=roles) (k0:=k0) (st:=st) (o:=o) (by rw[hkd];exact h1) (by rw[hkd];exact h2) (by rw[hkd];exact h3));rw[HS.o]at RT;clear HS hkd;obtain⟨z0,z1⟩:=XA.o.two;have f0:=XA.o.frozen 0;go_upto_region 18 with fail
       have HWc:=aA (HWa.o.setOther XA.o (show B≠b17+1 by have:=hlt1.o;omega) (by decide) (by decide) 0 (.int .i64 5));have OVc:=aA (OVa.o.setFar NT.o 0 (.int .i64 5) (fun _ _ hx=>hx));have XAc:=aA (show Box (wa.setCell ⟨b17+1,0,none⟩ (.int .i64 5)) (b17+1) 47 #[.int .i64 5,.int .i64 0] by simpa using XA.o.set 0 (.int .i64 5));have Bc:=aA (aV Ba.o (Nat.le_trans SB1.o D3.o.size) (show B≤b17+1 by have:=hlt1.o;omega) 0 (.int .i64 5));have SOK:=OK;have SLN:=aA (show st.1.length≤st.1.length+1 by omega);generalize wa.setCell ⟨b17+1,0,none⟩ (.int .i64 5)=wc at *
       clear z0 z1 f0 k0c;obtain⟨e0,e1⟩:=XAc.o.two;go_wp2_with (at_builtin;refine bY nE rfl _ _ rfl [(5,0)] #[.int .i64 5,.int .i64 0] rfl rfl (by first|rfl|simp) rfl (by simp[Value.oneCell']) OVc.o a6.ans rfl Bc.o (Nat.le_trans (Nat.le_trans SB1.o D3.o.size) Bc.o.size) (by omega) (by omega) (fun _ _ _ _ h=>h) ?_;intro v2 w5 own5 hg5 hb5;have O5:=aA own5;have HW5:=aA (HWc.o.grown OVc.o hg5 (by decide) (by decide) (by decide));have B5:=aA hb5;clear own5 hg5 hb5)
       go_roundw
       case rel=>exact⟨j+1,_,_,st,la++[(5,0)],by omega,by go_num,by have:=SLN.o;first|omega|(simp only at this;omega),O5,HW5,SOK,B5,RT⟩
       case measure=>simp[intOf];omega
   ·obtain rfl:j=s:=by omega
    have hfull:os.take j=os:=List.take_of_length_le (by rw[X.o.len];exact Nat.le_refl _);rw[hfull]at HR;rw[HR.o]at PY1;obtain⟨Ad,cd,hvd,sd⟩:=HWr.o.done.sl (by omega);subst hvd;have CD:=aA (kN HWr.o.box sd (H.o.keep BZ.o) (Sl.keep bH.kept G.o BZ.o) (by omega));rw[PLY1.o]at CD;obtain⟨Av,cv,hov,av⟩:=OV.o.sl (by omega);subst hov;have AV:=aA av;have Y1r:=aA (show Box wr (w.heap.size+1) 33 #[.slice none 0 0,.slice none 0 0,.slice none 0 0]from(BW.o.block _ Y1B.o).trans (Y1.o.keep D3.o));have LAL:=aA (show la.length=j from OV.o.len);clear hfull sd av HWr OV;go_wp2_with (go_at_call 36;(with_reducible refine CD.o.mono ?_);rintro e w6 ⟨B2,m2,d2,D2,l2,f2,I2,n2,c2,A2,na,ca,rfl,dw,_,hb6⟩;have DW:=aA (dw.keep ((Below.refl w6.heap.size w6).alloc (Nat.le_refl _) (.cells #[.slice B2 m2 d2,.slice D2 l2 f2,.slice I2 n2 c2] 33)));have D6:=aA (hb6.alloc hb6.size (.cells #[.slice B2 m2 d2,.slice D2 l2 f2,.slice I2 n2 c2] 33));clear dw hb6;obtain⟨z0,z1,z2⟩:=(Y1r.o.keep D6.o).three;have f0:=(Y1r.o.keep D6.o).frozen 0;have f1:=(Y1r.o.keep D6.o).frozen 1;have f2':=(Y1r.o.keep D6.o).frozen 2)
    obtain⟨r0,r1,r2⟩:=((Y1r.o.keep D6.o).set3 (.slice B2 m2 d2) (.slice D2 l2 f2) (.slice I2 n2 c2)).three;have BWW:=aG (BZ.o.trans (D6.o.mono BZ.o.size)) (show w.heap.size≤w.heap.size+1 by omega) (.slice B2 m2 d2) (.slice D2 l2 f2) (.slice I2 n2 c2);exact bodyPost_ret (v:=.tuple #[.agg #[.slice B2 m2 d2,.slice D2 l2 f2,.slice I2 n2 c2],.slice Av j cv,.int .i64 0]) (by simp[results,Tryz.results14,go_sem,r0,r1,r2]) rfl (by rw[PY1.o];exact⟨B2,m2,d2,D2,l2,f2,I2,n2,c2,Av,j,cv,rfl,DW.o.beside (Y1r.o.keep D6.o) dH (aK.set3 _ _ _ _ _),nD.beside (Sl.keep QK.kept AV.o D6.o) (Y1r.o.keep D6.o) dH (aK.set3 _ _ _ _ _),BWW⟩)
 ·have RE:=aA (PE.o be hbe h0);rw[PL0.o be hbe h0]at CD;clear PE PL0 PY PLY hbe;obtain⟨z0,z1,z2⟩:=Y1.o.three;go_wp2_with (go_at_call 36;(with_reducible refine CD.o.mono ?_);rintro e w2 ⟨B2,m2,d2,D2,l2,f2,I2,n2,c2,A2,na,ca,rfl,_,an,hb2⟩;have NA:=aA an.len;have D2b:=aA (hb2.alloc hb2.size (.cells #[.slice B2 m2 d2,.slice D2 l2 f2,.slice I2 n2 c2] 33));have Z1:=aA ((Y1.o.keep hb2).old (.cells #[.slice B2 m2 d2,.slice D2 l2 f2,.slice I2 n2 c2] 33));clear an hb2 z0 z1 z2;obtain⟨z0,z1,z2⟩:=Z1.o.three;have f0:=Z1.o.frozen 0;have f1:=Z1.o.frozen 1;have f2':=Z1.o.frozen 2)
  obtain⟨r0,r1,r2⟩:=(Z1.o.set3 (.slice none 0 0) (.slice none 0 0) (.slice none 0 0)).three;have BW:=aG (B1.o.trans (D2b.o.mono B1.o.size)) (show w.heap.size≤w.heap.size+1 by omega) (.slice none 0 0) (.slice none 0 0) (.slice none 0 0);exact bodyPost_ret (v:=.tuple #[.agg #[.slice none 0 0,.slice none 0 0,.slice none 0 0],.slice none 0 0,.int .i64 be]) (by simp[results,Tryz.results14,go_sem,r0,r1,r2]) rfl (by rw[RE.o];exact⟨none,0,0,none,0,0,none,0,0,none,0,0,rfl,⟨Sl.nil0,Sl.nil0,Sl.nil0⟩,Sl.nil0,BW⟩)
end Go.Proofs.YtfmnagcglhlicaaGreat
