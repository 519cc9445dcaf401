/- A slice of things to do at a desk, read. Conditions: none. -/
import Derived.Test.YtfmnagcglhlicaaGreatTopSaidK07
namespace Go.Proofs.YtfmnagcglhlicaaGreat
open Go.ChangeShapes Go.WideShapes Go.ChangeAt Go.RowKit Go.Deep
section
variable {H:Type} {enc:TypeId×Value→H} {W:World}
theorem ZrK:Zhb Zmq 5 40 45:=by
 refine⟨Zmq.good,by kernel_rfl,by kernel_rfl,by omega,fun enc W fuel cs d pl h hw hl=>?_⟩
 obtain⟨n,hg⟩:=ZdN Tryz.underlying45 (by kernel_rfl) h hw hl
 obtain⟨v0,y0,e0,t0,_⟩:=hg 0 _ rfl
 obtain⟨v1,y1,e1,t1,_⟩:=hg 1 _ rfl
 obtain⟨v2,y2,e2,t2,_⟩:=hg 2 _ rfl
 obtain⟨v3,y3,e3,t3,_⟩:=hg 3 _ rfl
 obtain⟨v4,y4,e4,t4,_⟩:=hg 4 _ rfl
 obtain⟨k,hk,_,_⟩:=DataW.trod_int Tryz.underlying3 t0
 obtain⟨u,hu,_,_⟩:=DataW.trod_int Tryz.underlying3 t1
 obtain⟨t,ht,_,_⟩:=DataW.trod_int Tryz.underlying3 t2
 obtain⟨i,hi,_,_⟩:=DataW.trod_int Tryz.underlying3 t3
 obtain⟨o,ho,_,_⟩:=DataW.trod_int Tryz.underlying3 t4
 injection hk with hk
 injection hu with hu
 injection ht with ht
 injection hi with hi
 injection ho with ho
 exact⟨⟨k,u,t,i,o⟩,by show cs.getD 0 undef=_;rw[e0,hk],by show cs.getD 1 undef=_;rw[e1,hu],by show cs.getD 2 undef=_;rw[e2,ht],by show cs.getD 3 undef=_;rw[e3,hi],by show cs.getD 4 undef=_;rw[e4,ho]⟩
end
end Go.Proofs.YtfmnagcglhlicaaGreat
