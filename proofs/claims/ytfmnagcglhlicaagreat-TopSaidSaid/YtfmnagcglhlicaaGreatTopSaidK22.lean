/- mine's leads. Conditions: the log reads as lists and prints, the labels are 1 to 26. -/
import Derived.Test.YtfmnagcglhlicaaGreatTopSaidK21
set_option maxRecDepth 100000
namespace Go.Proofs.YtfmnagcglhlicaaGreat
open Go.RowKit Go.Maps
abbrev Zkg (w:World)(b:Nat)(S:Int→Int→Bool)(q:Nat):Prop:=ZrT w b (fun z=>if S z.1 z.2=true then 1 else 0) q
theorem Zkg.look1 {w:World}{b q:Nat}{S:Int→Int→Bool}(h:Zkg w b S q){x y:Int}(hx:okI x)(hy:okI y){v:Bool}(hv:S x y=v):(Instr.lookup 278 (.map (some b)) (.agg #[.int .i64 x,.int .i64 y]) false).run Tryz.prog w=.ok (.int .i64 (if v=true then 1 else 0)) w:=by
 rw[ZrT.look h hx hy]
 simp[hv]
theorem Zkg.put1 {w:World}{b q:Nat}{S:Int→Int→Bool}(h:Zkg w b S q){x y:Int}(hx:okI x)(hy:okI y)(hq:q≤1000000) :
  ∃w',(Instr.mapUpdate 278 (.map (some b)) (.agg #[.int .i64 x,.int .i64 y]) (.int .i64 1)).run Tryz.prog w=.ok () w'∧Zkg w' b (fun a c=>decide (a=x∧c=y)||S a c) (q+1)∧w.grownBy w' (some b):=by
 obtain⟨w',h1,h2,h3⟩:=ZrT.one h hx hy (by simp only[maxLen];omega)
 refine⟨w',h1,h2.same (fun z _=>?_),h3⟩
 by_cases e:z=(x,y)
 ·subst e;simp
 ·have:¬(z.1=x∧z.2=y):=fun h=>e (Prod.ext h.1 h.2)
  simp[this,e]
theorem Zsm {S:Int→Int→Bool}{k a b:Int}(h:¬(S a k=true∧S k b=true)):Ziy S (k,a,b)=S:=by
 unfold Ziy;exact if_neg h
theorem ZqN {S:Int→Int→Bool}{k a b:Int}(h:S a k=true∧S k b=true):Ziy S (k,a,b)=fun x y=>decide (x=a∧y=b)||S x y:=by
 unfold Ziy;rw[if_pos h]
def ldB (ls:List Int)(S:Int→Int→Bool)(k a:Int)(j l:Nat):Int→Int→Bool:=((ls.take l).map fun b=>(a,b)).foldl (fun S p=>Ziy S (k,p.1,p.2)) (((ls.take j).flatMap fun a=>ls.map fun b=>(a,b)).foldl (fun S p=>Ziy S (k,p.1,p.2)) S)
def ldA (ls:List Int)(S:Int→Int→Bool)(k:Int)(j:Nat):Int→Int→Bool:=((ls.take j).flatMap fun a=>ls.map fun b=>(a,b)).foldl (fun S p=>Ziy S (k,p.1,p.2)) S
section
variable {ls:List Int} {S:Int→Int→Bool} {k a b:Int} {j l:Nat}
theorem ZqO (h:ls[l]?=some b):ldB ls S k a j (l+1)=Ziy (ldB ls S k a j l) (k,a,b):=by
 unfold ldB
 rw[List.take_add_one,h]
 simp
theorem Zsn (ha:ls[j]?=some a)(h:ls.length≤l):ldB ls S k a j l=ldA ls S k (j+1):=by
 unfold ldB ldA
 rw[List.take_of_length_le h,List.take_add_one,ha]
 simp
theorem Zso {K:List Int}{i:Nat}(h:ls.length≤j)(hk:K[i]?=some k):ldA ls (ZbU ls S (K.take i)) k j=ZbU ls S (K.take (i+1)):=by
 unfold ldA ZbU ZoH
 rw[List.take_of_length_le h,List.take_add_one,hk]
 simp
end
structure LdS (w:World)(LV:Array Value)(wr:World)(S:Int→Int→Bool)(q:Nat):Prop where
 d:Below w.heap.size w wr
 x:Box wr w.heap.size 222 LV
 y:Box wr (w.heap.size+1+1) 278 #[.map (some (w.heap.size+1))]
 m:Zkg wr (w.heap.size+1) S q
theorem LdS.keep {w wr w':World}{LV:Array Value}{S:Int→Int→Bool}{q:Nat}(h:LdS w LV wr S q)(hb:Below wr.heap.size wr w'):LdS w LV w' S q :=
 ⟨h.d.trans (hb.mono h.d.size),h.x.keep hb,h.y.keep hb,h.m.keep hb⟩
theorem LdS.upd {w wr w':World}{LV:Array Value}{S S':Int→Int→Bool}{q q':Nat}(h:LdS w LV wr S q)(hm:Zkg w' (w.heap.size+1) S' q')(hg:wr.grownBy w' (some (w.heap.size+1))):LdS w LV w' S' q' :=
 ⟨h.d.grown hg h.d.size (fun k hk=>by injection hk with hk;omega),h.x.grown hg (by intro e;injection e with e;omega),h.y.grown hg (by intro e;injection e with e;omega),hm⟩
theorem LdS.mono {w wr:World}{LV:Array Value}{S:Int→Int→Bool}{q q':Nat}(h:LdS w LV wr S q)(hq:q≤q'):LdS w LV wr S q':=⟨h.d,h.x,h.y,h.m.mono hq⟩
theorem LdS.like {w wr:World}{LV:Array Value}{S S':Int→Int→Bool}{q:Nat}(h:LdS w LV wr S q)(e:∀a b,S' a b=S a b):LdS w LV wr S' q:=by
 have:S'=S:=funext fun a=>funext fun b=>e a b
 rw[this];exact h
def ZsY (p:Zas)(k:Nat)(a b:Int):Bool:=(p.behind.take k).any fun q=>decide ((a,b)=q)
theorem Zo4 {p:Zas}{k:Nat}{x:Int×Int}(h:p.behind[k]?=some x)(a b:Int):ZsY p (k+1) a b=(decide (a=x.1∧b=x.2)||ZsY p k a b):=by
 unfold ZsY
 rw[List.take_add_one,h,List.any_append,Bool.or_comm]
 congr 1
 by_cases h1:a=x.1 <;> by_cases h2:b=x.2 <;> simp[h1,h2,Prod.ext_iff]
theorem ZqP {p:Zas}{k:Nat}(h:p.behind.length≤k)(a b:Int):bhB p a b=ZsY p k a b:=by
 unfold ZsY bhB
 rw[List.take_of_length_le h]
def Ztd (p:Zas)(w:World)(e:Ending)(w':World):Prop :=
 ∃b bm q,e=.returned (.func (.func 205) #[] #[.pointer (some ⟨b,0,none⟩)])∧Box w' b 278 #[.map (some bm)]∧Zkg w' bm (Zcq p) q∧Below w.heap.size w w'
set_option maxHeartbeats 8000000 in
theorem Zjk {w:World}{A A1 A2 A3 A4:Option Addr}{n c n1 c1 n2 c2 n3 c3 n4 c4:Nat}{log:List (List Int)}{p:Zas}(h:ZmE w A A1 A2 A3 A4 n c n1 c1 n2 c2 n3 c3 n4 c4 log p)(hl:∀a∈p.labels,okI a)(hb:∀q∈p.behind,okP q)(hn1:n1≤26)(hn4:n4≤1000) :
  Calls Tryz.prog 170 #[ZhF A A1 A2 A3 A4 n c n1 c1 n2 c2 n3 c3 n4 c4] w (Ztd p w):=by
 have hmm:=@run_makeMap Tryz.prog
 have H:=Zaa h
 have OK:=Zaa (And.intro hl hb)
 have NN:=Zaa (And.intro hn1 hn4)
 clear h hl hb hn1 hn4
 obtain⟨LV,hLV⟩:∃LV:Array Value,LV=#[.slice A n c,.slice A1 n1 c1,.slice A2 n2 c2,.slice A3 n3 c3,.slice A4 n4 c4]:=⟨_,rfl⟩
 have S0:=Zaa (show LdS w LV (((w.alloc (.cells #[.slice A n c,.slice A1 n1 c1,.slice A2 n2 c2,.slice A3 n3 c3,.slice A4 n4 c4] 222)).alloc (.map #[] 0)).alloc (.cells #[.map (some (w.heap.size+1))] 278)) (fun _ _=>false) 0 from by
  subst hLV
  refine⟨((Zab w _).alloc (by simp) _).alloc (by simp;omega) _,((Box.new w _ _).old _).old _,Box.newAt (by simp) _ _, ?_⟩
  have:=ZfT.made 240 okP kkP (w.alloc (.cells #[.slice A n c,.slice A1 n1 c1,.slice A2 n2 c2,.slice A3 n3 c3,.slice A4 n4 c4] 222))
  rw[show(w.alloc (.cells #[.slice A n c,.slice A1 n1 c1,.slice A2 n2 c2,.slice A3 n3 c3,.slice A4 n4 c4] 222)).heap.size=w.heap.size+1 by simp]at this
  exact(this.keep (Zab _ _)).same (fun _ _=>by simp))
 go_enter Tryz.func170,Tryz.ntmps170
 go_upto_region 2 with fail
 have HLV:=Zaa hLV
 clear hmm hLV
 generalize (((w.alloc (.cells #[.slice A n c,.slice A1 n1 c1,.slice A2 n2 c2,.slice A3 n3 c3,.slice A4 n4 c4] 222)).alloc (.map #[] 0)).alloc (.cells #[.map (some (w.heap.size+1))] 278))=w1 at *
 have x4:w1.cell? ⟨w.heap.size,4,none⟩=some (.slice A4 n4 c4):=(S0.out.x.cell 4).trans (by rw[HLV.out];rfl)
 go_wp2
 clear x4
 go_loopg [17] n4 (fun gk u wr=>∃k:Nat,u=.int .i64 k∧Hid (k+gk=n4)∧Hid (LdS w LV wr (ZsY p k) k))
 case atStart=>exact⟨0,rfl,Zaa (by omega),Zaa (S0.out.like (fun _ _=>rfl))⟩
 case round =>
  clear S0
  obtain⟨k,rfl,hgk,SS⟩:=hrel
  by_cases hlt:k<n4
  ·have hki:(k:Int)<(n4:Int):=by omega
   obtain⟨b,off,t,vs,rfl,hb,ht,hc,e0,e1⟩:=Sl.get (Sl.keep Zhy.kept H.out.ip.i4 SS.out.d) hlt
   have q0:wr.cell? ⟨b,off+k*2,none⟩=some (.int .i64 t.1):=by have:=hc 0 (by omega);rw[e0]at this;simpa using this
   have q1:wr.cell? ⟨b,off+k*2+1,none⟩=some (.int .i64 t.2):=by have:=hc 1 (by omega);rw[e1]at this;simpa [Nat.add_assoc] using this
   have HT:=Zaa (show p.behind[k]?=some t from ht)
   have HJ:=Zaa (show gk-1<gk∧(k+1)+(gk-1)=n4∧k≤1000 by have:=hgk.out;have:=NN.out;omega)
   have hwk:IntKind.i64.wrap ((k:Int)+1)=((k+1:Nat):Int):=by
    have:=HJ.out
    simp[IntKind.wrap,IntKind.bits,IntKind.signed];omega
   have TB:=Zaa (Box.new wr #[.int .i64 t.1,.int .i64 t.2] 240)
   have SB:=Zaa (SS.out.keep (Zab wr (.cells #[.int .i64 t.1,.int .i64 t.2] 240)))
   clear hc e0 e1 ht
   go_upto_region 5 with fail
   clear q0 q1
   generalize wr.alloc (.cells #[.int .i64 t.1,.int .i64 t.2] 240)=w2 at *
   generalize wr.heap.size=bx at *
   have z0:=TB.out.cell 0
   have z1:=TB.out.cell 1
   have y0:=SB.out.y.cell 0
   obtain⟨w3,up,m3,g3⟩:=Zkg.put1 SB.out.m (OK.out.2 t (List.mem_of_getElem? HT.out)).1 (OK.out.2 t (List.mem_of_getElem? HT.out)).2 (by have:=HJ.out;omega)
   have SN:=Zaa (LdS.like (SB.out.upd m3 g3) (Zo4 HT.out))
   clear m3 g3
   go_wp2
   go_roundg (gk-1)
   case measure=>exact HJ.out.1
   case rel=>exact⟨k+1,rfl,Zaa HJ.out.2.1,SN⟩
  ·have hki:¬(k:Int)<(n4:Int):=by omega
   have SA:=Zaa (show LdS w LV wr (ZbU p.labels (bhB p) (p.labels.take 0)) n4 from(SS.out.mono (by have:=hgk.out;omega)).like (fun a b=>ZqP (by rw[H.out.ip.i4.len];omega) a b))
   have x1:wr.cell? ⟨w.heap.size,1,none⟩=some (.slice A1 n1 c1):=(SS.out.x.cell 1).trans (by rw[HLV.out];rfl)
   clear SS hlt hgk
   obtain⟨go,hgo⟩:∃x:Nat,x=gk:=⟨_,rfl⟩
   subst hgo
   go_wp2
   clear x1
   go_loopg [28] n1 (fun gk u wr=>∃i:Nat,u=.int .i64 i∧Hid (i+gk=n1)∧Hid (LdS w LV wr (ZbU p.labels (bhB p) (p.labels.take i)) (n4+676*i)))
   case atStart=>exact⟨0,rfl,Zaa (by omega),SA⟩
   case round =>
    clear SA
    obtain⟨i,rfl,hgk,SS⟩:=hrel
    by_cases hlt:i<n1
    ·have hki:(i:Int)<(n1:Int):=by omega
     obtain⟨b1,off1,K,rfl,hb1,hK,qK⟩:=Zam.get (H.out.ip.i1.keep SS.out.d) hlt
     have HJ:=Zaa (show gk-1<gk∧(i+1)+(gk-1)=n1∧i≤26 by have:=hgk.out;have:=NN.out;omega)
     have hwi:IntKind.i64.wrap ((i:Int)+1)=((i+1:Nat):Int):=by
      have:=HJ.out
      simp[IntKind.wrap,IntKind.bits,IntKind.signed];omega
     have x1:wr.cell? ⟨w.heap.size,1,none⟩=some (.slice (some ⟨b1,off1,none⟩) n1 c1):=(SS.out.x.cell 1).trans (by rw[HLV.out];rfl)
     have SA:=Zaa (show LdS w LV wr (ldA p.labels (ZbU p.labels (bhB p) (p.labels.take i)) K 0) (n4+676*i+26*0)from SS.out)
     obtain⟨g1,hg1⟩:∃x:Nat,x=gk:=⟨_,rfl⟩
     subst hg1
     clear SS hb1
     go_wp2
     clear x1 qK
     go_loopg [36] n1 (fun gk u wr=>∃j:Nat,u=.int .i64 j∧Hid (j+gk=n1)∧Hid (LdS w LV wr (ldA p.labels (ZbU p.labels (bhB p) (p.labels.take i)) K j) (n4+676*i+26*j)))
     case atStart=>exact⟨0,rfl,Zaa (by omega),SA⟩
     case round =>
      clear SA
      obtain⟨j,rfl,hgk2,SS⟩:=hrel
      by_cases hlt2:j<n1
      ·have hkj:(j:Int)<(n1:Int):=by omega
       obtain⟨b2,off2,a,e2,hb2,ha,qA⟩:=Zam.get (H.out.ip.i1.keep SS.out.d) hlt2
       injection e2 with e2
       injection e2 with e21 e22
       subst e21 e22
       have HJ2:=Zaa (show gk-1<gk∧(j+1)+(gk-1)=n1∧j≤26 by have:=hgk2.out;have:=NN.out;omega)
       have hwj:IntKind.i64.wrap ((j:Int)+1)=((j+1:Nat):Int):=by
        have:=HJ2.out
        simp[IntKind.wrap,IntKind.bits,IntKind.signed];omega
       have x1:wr.cell? ⟨w.heap.size,1,none⟩=some (.slice (some ⟨b1,off1,none⟩) n1 c1):=(SS.out.x.cell 1).trans (by rw[HLV.out];rfl)
       have SA:=Zaa (show LdS w LV wr (ldB p.labels (ZbU p.labels (bhB p) (p.labels.take i)) K a j 0) (n4+676*i+26*j+0)from SS.out)
       obtain⟨g2,hg2⟩:∃x:Nat,x=gk:=⟨_,rfl⟩
       subst hg2
       clear SS hb2
       go_wp2
       clear x1 qA
       go_loopg [44] n1 (fun gk u wr=>∃l:Nat,u=.int .i64 l∧Hid (l+gk=n1)∧Hid (LdS w LV wr (ldB p.labels (ZbU p.labels (bhB p) (p.labels.take i)) K a j l) (n4+676*i+26*j+l)))
       case atStart=>exact⟨0,rfl,Zaa (by omega),SA⟩
       case round =>
        clear SA
        obtain⟨l,rfl,hgk3,SS⟩:=hrel
        by_cases hlt3:l<n1
        ·have hkl:(l:Int)<(n1:Int):=by omega
         obtain⟨b3,off3,b,e3,hb3,hB,qB⟩:=Zam.get (H.out.ip.i1.keep SS.out.d) hlt3
         injection e3 with e3
         injection e3 with e31 e32
         subst e31 e32
         have HJ3:=Zaa (show gk-1<gk∧(l+1)+(gk-1)=n1∧l≤26∧n4+676*i+26*j+l≤1000000 by have:=hgk3.out;have:=NN.out;have:=HJ.out;have:=HJ2.out;omega)
         have hwl:IntKind.i64.wrap ((l:Int)+1)=((l+1:Nat):Int):=by
          have:=HJ3.out
          simp[IntKind.wrap,IntKind.bits,IntKind.signed];omega
         have y0:=SS.out.y.cell 0
         have oK:=OK.out.1 K (List.mem_of_getElem? hK.out)
         have oA:=OK.out.1 a (List.mem_of_getElem? ha.out)
         have oB:=OK.out.1 b (List.mem_of_getElem? hB.out)
         have NX:=Zaa (ZqO (ls:=p.labels) (S:=ZbU p.labels (bhB p) (p.labels.take i)) (k:=K) (a:=a) (j:=j) hB.out)
         have skip:¬(ldB p.labels (ZbU p.labels (bhB p) (p.labels.take i)) K a j l a K=true∧ldB p.labels (ZbU p.labels (bhB p) (p.labels.take i)) K a j l K b=true)→Hid (LdS w LV wr (ldB p.labels (ZbU p.labels (bhB p) (p.labels.take i)) K a j (l+1)) (n4+676*i+26*j+(l+1))):=fun h=>Zaa (by rw[NX.out,Zsm h];exact SS.out.mono (by omega))
         have SK:=Zaa skip
         obtain⟨T,hT⟩:∃T,ldB p.labels (ZbU p.labels (bhB p) (p.labels.take i)) K a j l=T:=⟨_,rfl⟩
         rw[hT]at SS NX SK
         cases h1:T a K
         ·have SN:=SK.out (by rw[h1];exact fun h=>(nomatch h.1))
          have lk1:=Zkg.look1 SS.out.m oA oK h1
          clear oK oA oB skip hT h1 hb3
          go_wp2
          go_roundg (gk-1)
          case measure=>exact HJ3.out.1
          case rel=>exact⟨l+1,rfl,Zaa HJ3.out.2.1,SN⟩
         ·cases h2:T K b
          ·have SN:=SK.out (by rw[h2];exact fun h=>(nomatch h.2))
           have lk1:=Zkg.look1 SS.out.m oA oK h1
           have lk2:=Zkg.look1 SS.out.m oK oB h2
           clear oK oA oB skip hT h1 h2 hb3
           go_wp2
           go_roundg (gk-1)
           case measure=>exact HJ3.out.1
           case rel=>exact⟨l+1,rfl,Zaa HJ3.out.2.1,SN⟩
          ·have lk1:=Zkg.look1 SS.out.m oA oK h1
           have lk2:=Zkg.look1 SS.out.m oK oB h2
           obtain⟨w3,up,m3,g3⟩:=Zkg.put1 SS.out.m oA oB HJ3.out.2.2.2
           have SN:=Zaa (show LdS w LV w3 (ldB p.labels (ZbU p.labels (bhB p) (p.labels.take i)) K a j (l+1)) (n4+676*i+26*j+(l+1))from by rw[NX.out,ZqN ⟨h1,h2⟩];exact SS.out.upd m3 g3)
           clear oK oA oB skip hT h1 h2 hb3 m3 g3
           go_wp2
           go_roundg (gk-1)
           case measure=>exact HJ3.out.1
           case rel=>exact⟨l+1,rfl,Zaa HJ3.out.2.1,SN⟩
        ·have hkl:¬(l:Int)<(n1:Int):=by omega
         have SN:=Zaa (show LdS w LV wr (ldA p.labels (ZbU p.labels (bhB p) (p.labels.take i)) K (j+1)) (n4+676*i+26*(j+1))from by
          have:=SS.out
          rw[Zsn ha.out (by rw[H.out.ip.i1.len];omega)]at this
          exact this.mono (by have:=NN.out;have:=hgk3.out;omega))
         clear SS hlt3 hgk3
         go_wp2
         go_roundg (g2-1)
         case measure=>exact HJ2.out.1
         case rel=>exact⟨j+1,rfl,Zaa HJ2.out.2.1,SN⟩
      ·have hkj:¬(j:Int)<(n1:Int):=by omega
       have SN:=Zaa (show LdS w LV wr (ZbU p.labels (bhB p) (p.labels.take (i+1))) (n4+676*(i+1))from by
        have:=SS.out
        rw[Zso (by rw[H.out.ip.i1.len];omega) hK.out]at this
        exact this.mono (by have:=NN.out;have:=hgk2.out;omega))
       clear SS hlt2 hgk2
       go_wp2
       go_roundg (g1-1)
       case measure=>exact HJ.out.1
       case rel=>exact⟨i+1,rfl,Zaa HJ.out.2.1,SN⟩
    ·have hki:¬(i:Int)<(n1:Int):=by omega
     have FIN:=Zaa (show LdS w LV wr (Zcq p) (n4+676*i)from by
      have:=SS.out
      rw[List.take_of_length_le (by rw[H.out.ip.i1.len];omega)]at this
      exact this)
     clear SS hlt hgk
     go_wp2
     go_ret
     exact⟨_,_,_,rfl,FIN.out.y,FIN.out.m,FIN.out.d⟩
end Go.Proofs.YtfmnagcglhlicaaGreat
