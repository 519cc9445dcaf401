/- Short names of library theorems. Conditions: none. -/
import Derived.Below
import Derived.Calls
import Derived.Laws.AppendOwn
import Derived.Laws.BitsLemmas
import Derived.Laws.Rows
import Derived.MapKept
import Derived.OneCell
import Derived.OwnWalk
import Derived.Tactics
import Derived.WalkArith
import GoSem.Core.Value
set_option linter.all false
namespace Go.Proofs.YtgnljpnlolkalaaGreat
open Go
abbrev LIn:=List Int
abbrev LLi:=List (List Int)
abbrev OAd:=Option Go.Addr
def aC:(∀(a:Act) (d:Tmp) (v:Value),a.put (some d) v=⟨a.tmps.setIfInBounds d v,a.defers⟩)/\(∀(a:Act) (v:Value),a.put none v=a)/\(∀{α:Type} (x:List α) (i:Nat) (a:α),x.toArray.setIfInBounds i a=(x.set i a).toArray)/\(∀{α:Type} {a b:α} {l:List α},(a::l).set 0 b=b::l)/\(∀{α:Type} {a b:α} {l:List α} {n:Nat},(a::l).set (n+1) b=a::l.set n b):=⟨λ_ _ _=>rfl,λ_ _=>rfl,λx i a=>List.setIfInBounds_toArray x i a,rfl,rfl⟩
abbrev aB:=@Nat.le_refl
abbrev aD:=@if_neg
abbrev aG:=@if_pos
abbrev aH:=@Go.RowKit.Below.refl
abbrev aL:=@Nat.zero_le
abbrev aO:=@congrArg
abbrev aQ:=@List.getElem?_cons_zero
abbrev aT:=@Nat.le_trans
abbrev aU:=@Go.bodyPost_ret
abbrev aV:=@List.getElem?_eq_getElem
abbrev aP:=@List.getElem?_toArray
abbrev aR:=@List.getElem?_eq_some_iff
abbrev aS:=@List.mem_of_getElem?
abbrev aW:=@List.take_of_length_le
abbrev aZ:=@Option.some.injEq
abbrev a7:=@List.mem_cons
abbrev bD:=@Nat.lt_of_lt_of_le
abbrev bJ:=@List.mem_singleton
abbrev bL:=@List.length_append
abbrev bM:=@List.mem_range
abbrev bO:=@decide_eq_true_eq
abbrev bP:=@List.length_cons
abbrev bR:=@List.mem_filter
abbrev bZ:=@List.mem_map
abbrev cA:=@Bool.and_eq_true
abbrev cB:=@List.getElem?_cons_succ
abbrev cJ:=@List.getD_eq_getElem?_getD
abbrev cN:=@List.mem_append
abbrev cP:=@List.take_add_one
abbrev dC:=@List.getElem?_eq_none
abbrev dF:=@List.getElem?_map
abbrev dO:=@List.any_eq_true
abbrev dP:=@List.filter_append
abbrev dQ:=@List.length_map
abbrev dS:=@List.eq_nil_of_length_eq_zero
abbrev dT:=@List.length_take
abbrev d9:=@Int.toNat_natCast
abbrev eF:=@List.range_succ
abbrev eG:=@List.getElem?_set_ne
abbrev eN:=@Go.heap_setCell_other
abbrev eO:=@Classical.byContradiction
abbrev eP:=@Nat.add_zero
abbrev eQ:=@List.getElem?_set_self
abbrev eR:=@Go.bodyPost_end
abbrev fA:=@beq_iff_eq
abbrev fB:=@List.map_append
abbrev fC:=@List.length_filter_le
abbrev fD:=@List.foldl_append
abbrev fE:=@List.map_replicate
abbrev fO:=@List.getElem?_append_left
abbrev fP:=@List.ext_getElem
abbrev fQ:=@List.length_nil
abbrev fR:=@Nat.le_of_lt
abbrev f8:=@Array.getElem?_eq_some_iff
abbrev f9:=@List.foldl_cons
abbrev gQ:=@List.pairwise_cons
abbrev gR:=@of_decide_eq_true
abbrev gU:=@Go.World.grownBy.refl
abbrev hZ:=@List.getElem_of_mem
abbrev iC:=@List.any_eq_false
abbrev iD:=@Go.heap_alloc_new
abbrev iE:=@List.ext_getElem?
abbrev iF:=@Bool.and_assoc
abbrev iG:=@List.getElem?_set
abbrev iH:=@Int.le_refl
abbrev iZ:=@List.mem_flatMap
abbrev i5:=@Go.ownsRow_setCell_other
abbrev jL:=@Nat.sub_self
abbrev jM:=@Go.WalkArith.wf_i64
abbrev jN:=@Nat.lt_succ_self
abbrev j5:=@List.getElem_mem
abbrev j6:=@Option.getD_some
abbrev j7:=@List.getElem?_append_right
abbrev j8:=@Nat.mul_one
abbrev j9:=@List.append_nil
abbrev kA:=@List.take_length
abbrev kB:=@List.length_set
abbrev kC:=@List.nodup_cons
abbrev kY:=@List.all_eq_true
abbrev kZ:=@List.map_cons
abbrev lA:=@List.map_nil
abbrev lB:=@Option.isSome_iff_exists
abbrev l6:=@List.mem_iff_getElem?
abbrev l7:=@Bool.or_eq_true
abbrev mA:=@decide_eq_false
abbrev mB:=@decide_eq_true
abbrev mC:=@Exists.choose_spec
abbrev mD:=@Int.le_trans
abbrev m9:=@Bool.not_eq_true'
abbrev nA:=@Array.getElem?_toList
abbrev nB:=@List.nodup_append
abbrev nC:=@List.append_assoc
abbrev nD:=@Classical.choose_spec
abbrev pR:=@Bool.eq_iff_iff
abbrev pS:=@List.prefix_append
abbrev pT:=@List.filter_cons_of_pos
abbrev pU:=@Go.IntKind.wrap_i64
abbrev r9:=@List.set_cons_succ
abbrev sA:=@Go.World.cell?_of_block
abbrev sB:=@List.getElem?_take_of_lt
abbrev oH:=@of_decide_eq_false
abbrev oI:=@List.pairwise_map
abbrev oJ:=@getElem!_pos
abbrev oL:=@List.length_pos_of_mem
abbrev oN:=@Go.MapKept.run_getObj_map
abbrev oO:=@Go.MapKept.run_setObj_map
abbrev oP:=@Classical.not_not
abbrev q8:=@List.findIdx?_eq_some_iff_getElem
abbrev rA:=@List.pairwise_iff_getElem
abbrev uH:=@List.getElem?_take
abbrev uI:=@List.getElem?_replicate
abbrev uJ:=@List.getElem_range
instance instCoeIV:Coe Int Value:=⟨λx=>.int .i64 x⟩
instance instCoeNV:Coe Nat Value:=⟨λx=>.int .i64 (x:Int)⟩
instance instCoeUV:Coe Unit Value:=⟨λ_=>.slice none 0 0⟩
instance instCoeNA:Coe Nat Addr:=⟨λb=>⟨b,0,none⟩⟩
instance instCoeWN:Coe World Nat:=⟨λw=>w.heap.size⟩
def aK {α:Sort _}(e:α):∃x,e=x:=⟨_,rfl⟩
def bS {α:Sort _}(e:α):∃x,x=e:=⟨_,rfl⟩
