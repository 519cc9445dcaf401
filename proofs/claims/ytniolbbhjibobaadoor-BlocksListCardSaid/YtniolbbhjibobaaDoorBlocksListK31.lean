/- Texts melted into one: slices.Sort and slices.Compact on integers that are the call's own. Conditions: the slice is the call's own. | slices.Collect over slices.Values on integers: the same list anew. Conditions: the slice reads as a list. | The contracts of blocks' shortest and letters. Conditions: the blocks read as some and are right. -/
import Derived.Test.YtniolbbhjibobaaDoorBlocksListK07
import Derived.Test.YtniolbbhjibobaaDoorBlocksListK30
import Derived.Sort.OwnSortedInts
import Derived.Test.YtniolbbhjibobaaDoorBlocksListK04
import Derived.Test.YtniolbbhjibobaaDoorBlocksListK06
import Derived.RangeFuncFrom
import Derived.Shelf.Abstract
import Derived.Shelf.RegionOpen
import Derived.WalkKit
import Derived.TacticsInMore
import Derived.LoopNIn
import Derived.Stop.RegionWithIn
import Derived.LoopIn
import Derived.OwnWalkIn
import Derived.RangeFuncCalls
import Derived.RangeFuncBound
import Derived.RangeFuncNested
import Derived.RangeFuncLeaves
import Derived.Test.YtniolbbhjibobaaDoorBlocksListK27
set_option linter.all false
namespace Go.Proofs.YtniolbbhjibobaaDoor
open Go.RowKit

set_option maxRecDepth 100000 in
set_option maxHeartbeats 1000000 in
/-- slices.Sort on a slice of the call's own. -/
theorem sortOwn_calls {w : World} {B n : Nat} {v : Value} {xs : List Int} (h : OwnInts w B v n xs) (hn : n ≤ 17592186044416) :
    Calls Tryd.prog 19 #[v] w fun e w' => e = .returned (.tuple #[]) ∧ OwnInts w' B v n (xs.mergeSort fun x y => decide (x ≤ y)) ∧ w.grownBy w' v.ownBlock := by
  have hl := h.len
  subst hl
  rcases h.row.2 with ⟨rfl, h0⟩ | ⟨g, cap, cur, rfl, hg, hb, h1, h2, h3, h4⟩
  · have hx : xs = [] := List.eq_nil_of_length_eq_zero h0
    subst hx
    refine (slices_Sort_int_none none 0 w).mono ?_
    rintro e w' ⟨rfl, rfl⟩
    exact ⟨rfl, by simpa using h, World.grownBy.refl _ _⟩
  · refine (slices_Sort_int g 0 cap xs w (holds_of_blockI hb (by simpa using h4)) (Array.getElem?_eq_some_iff.1 hb).1 (by omega)).mono ?_
    rintro e w' ⟨rfl, q, os, rfl⟩
    exact ⟨rfl, OwnInts.of_row (ownsRow_sortedI (by simp) hg hb h1 h2 h3), grownBy_sortedI _⟩
theorem own_cut {w : World} {B e n k g cap : Nat} {cells : List Value} (h : w.ownsRow B e 1 (.slice (some ⟨g, 0, none⟩) n cap) n cells) (hk : k ≤ n) : w.ownsRow B e 1 (.slice (some ⟨g, 0, none⟩) k cap) k (cells.take k) := by
  obtain ⟨h0, h1⟩ := h
  refine ⟨by rw [List.length_take]; omega, ?_⟩
  rcases h1 with ⟨hv, _⟩ | ⟨g', cap', cur, hv, hg, hb, a1, a2, a3, a4⟩
  · cases hv
  · injection hv with e1 e2 e3
    subst e3
    injection e1 with e1
    injection e1 with e1
    subst e1
    refine .inr ⟨g, cap, cur, rfl, hg, hb, by omega, a2, a3, ?_⟩
    rw [← a4, List.take_take]
    congr 1
    omega
theorem compact_len (xs : List Int) : (Lib.compact xs).length ≤ xs.length := by
  unfold Lib.compact Lib.compactUpTo
  rw [List.length_map]
  exact Nat.le_trans (List.length_filter_le _ _) (by simp)
set_option maxRecDepth 100000 in
set_option maxHeartbeats 1000000 in
/-- slices.Compact on a slice of the call's own. -/
theorem compactOwn_calls {w : World} {B n : Nat} {v : Value} {xs : List Int} (h : OwnInts w B v n xs) (hn : n ≤ 17592186044416) :
    Calls Tryd.prog 20 #[v] w fun e w' => ∃ v', e = .returned v' ∧ OwnInts w' B v' (Lib.compact xs).length (Lib.compact xs) ∧ w.grownBy w' v.ownBlock := by
  have hl := h.len
  subst hl
  rcases h.row.2 with ⟨rfl, h0⟩ | ⟨g, cap, cur, rfl, hg, hb, h1, h2, h3, h4⟩
  · have hx : xs = [] := List.eq_nil_of_length_eq_zero h0
    subst hx
    refine (slices_Compact_int_empty none 0 w).mono ?_
    rintro e w' ⟨rfl, rfl⟩
    exact ⟨_, rfl, OwnSl.nil, World.grownBy.refl _ _⟩
  · have hlen := compact_len xs
    refine (slices_Compact_int g 0 cap xs w (holds_of_blockI hb (by simpa using h4)) (by omega) h1).mono ?_
    rintro e w' ⟨rfl, q, rfl⟩
    refine ⟨_, rfl, ?_, ?_⟩
    · have key := ownsRow_sortedI (w := w) (n := q) (os := #[]) (ss := xs) (ts := Lib.compact xs ++ List.replicate (xs.length - (Lib.compact xs).length) 0) (by simp; omega) hg hb h1 h2 h3
      rw [Sort.grow_empty] at key
      have := own_cut key hlen
      rw [List.map_append, List.take_left' (by simp)] at this
      exact OwnInts.of_row this
    · have := grownBy_sortedI (w := w) (g := g) (n := q) (os := #[]) (Lib.compact xs ++ List.replicate (xs.length - (Lib.compact xs).length) 0).toArray
      rwa [Sort.grow_empty] at this

end Go.Proofs.YtniolbbhjibobaaDoor
namespace Go.Proofs.YtniolbbhjibobaaDoor
open Go.RowKit
attribute [local go_sem] Oper.semAt_some

/-- Between two rounds: the box holds a slice of the call's own. -/
def ApI (w : World) (pre : List Int) (W : World) : Prop := ∃ v, Box W w.heap.size 32 #[v] ∧ OwnInts W (w.heap.size + 1) v pre.length pre ∧ Below w.heap.size w W
theorem own_not_row {W : World} {B e size n : Nat} {v : Value} {cells : List Value} (h : W.ownsRow B e size v n cells) {row : Option Nat} (hr : ∀ r, row = some r → ∃ o : Obj, W.heap[r]? = some o ∧ o.isCells = false) : v.ownBlock = none ∨ v.ownBlock ≠ row := by
  rcases h.2 with ⟨rfl, _⟩ | ⟨g, cap, cur, rfl, _, hh, _⟩
  · exact .inl rfl
  · refine .inr fun e => ?_
    obtain ⟨o, ho, hc⟩ := hr g e.symm
    rw [hh] at ho
    injection ho with ho
    rw [← ho] at hc
    cases hc
theorem ApI.from (w : World) : OwnFrom (w.heap.size + 1) (ApI w) := fun s W W' row ⟨v, h1, h2, h3⟩ hg hr => by
  have hr' : ∀ r, row = some r → ∃ o : Obj, W.heap[r]? = some o ∧ o.isCells = false := fun r e => (hr r e).2
  refine ⟨v, (hg.block _ h1.lt (fun e => by have := (hr _ e.symm).1; omega)).trans h1, ?_, h3.grown hg h3.size (fun k e => by have := (hr k e).1; omega)⟩
  obtain ⟨cells, o1, o2, o3⟩ := h2
  exact ⟨cells, o1.kept hg (own_not_row o1 hr'), o2, o3⟩

end Go.Proofs.YtniolbbhjibobaaDoor
namespace Go.Proofs.YtniolbbhjibobaaDoor
open Go.RowKit Go.Maps

def shortN (bs : List PBlk) (n : Nat) : Nat := bs.foldl (fun n x => min n (leastB x)) n
theorem shortN_take {bs : List PBlk} {i n : Nat} {x : PBlk} (h : bs[i]? = some x) : shortN (bs.take (i + 1)) n = min (shortN (bs.take i) n) (leastB x) := by
  unfold shortN
  rw [List.take_add_one, h, List.foldl_append]; rfl
set_option maxRecDepth 100000 in
set_option maxHeartbeats 4000000 in
theorem bwShort_calls {S : Nat → Prop} {w : World} {A : Option Addr} {n c : Nat} {b : PBlk} {bs : List PBlk} (h : BX S w A n c (b :: bs)) (hL : ∀ x ∈ b :: bs, wfB x ∧ szB x ≤ 2400) :
    Calls Tryd.prog 8 #[.slice A n c] w (fun e w' => e = .returned (.int .i64 (shortB (b :: bs) : Nat)) ∧ Below w.heap.size w w') := by
  have HL := hide2 (show (b :: bs).length = n from h.2.len)
  have hns := h.2.small
  obtain ⟨m, rfl⟩ : ∃ m, n = m + 1 := ⟨bs.length, HL.out.symm⟩
  have H := hide2 h
  have LL := hide2 hL
  clear h hL
  obtain ⟨bl, off, kd, lb, ks, X, q, e, rfl, hbl, hbM, hx, q0, q1, q2, K'⟩ := H.out.get (k := 0) (by omega)
  obtain rfl : b = .mk kd lb ks := by injection hx.out
  simp only [Nat.zero_mul, Nat.add_zero] at q0 q1 q2
  have HT := hide2 H.out.tail
  obtain ⟨C, hC⟩ : ∃ C, (if c = 1 then some (⟨bl, off, none⟩ : Addr) else some ⟨bl, off + 3, none⟩) = C := ⟨_, rfl⟩
  rw [hC] at HT
  have L0 := hide2 (LL.out _ (List.mem_cons_self ..))
  have CL := hide2 (bwLeast_calls 2400 kd lb X q e ks w L0.out.2 (by omega) L0.out.1 K')
  have N0 := hide2 (show leastB (.mk kd lb ks) ≤ 2400 from Nat.le_trans (least_sz _ L0.out.1) L0.out.2)
  have ES := hide2 (show shortB (.mk kd lb ks :: bs) = shortN bs (leastB (.mk kd lb ks)) from rfl)
  have hn0 : (0 : Int) < ((m + 1 : Nat) : Int) := by omega
  obtain ⟨m0, hm0⟩ : ∃ m0, leastB (.mk kd lb ks) = m0 := ⟨_, rfl⟩
  rw [hm0] at CL N0 ES
  clear hm0 K' hx
  go_enter Tryd.func8, Tryd.ntmps8
  go_wp2_with fail
  refine CL.out.mono ?_
  rintro e w1 ⟨rfl, hb1⟩
  have B1 := hide2 hb1
  have HC := hide2 hC
  clear hb1
  obtain ⟨wd, hwd⟩ : ∃ wd : World, wd = w1 := ⟨_, rfl⟩
  subst hwd
  go_wp2_with fail
  clear q0 q1 q2 hC
  go_loopw [3, 13] (fun s3 v wr => ∃ (i nn : Nat), i ≤ m ∧ v = .int .i64 i ∧ s3 = .int .i64 nn ∧ nn ≤ 2400 ∧ Hid (shortN (bs.take i) m0 = nn) ∧ Hid (Below wd.heap.size wd wr)) (fun _ v _ => m - (intOf v).toNat)
  case atStart => exact ⟨0, m0, Nat.zero_le _, rfl, rfl, N0.out, hide2 rfl, hide2 (Below.refl _ _)⟩
  case round =>
    obtain ⟨i, nn, hi, rfl, rfl, hnn, FO, X2⟩ := hrel
    have BW := hide2 (B1.out.trans (X2.out.mono B1.out.size))
    by_cases hlt : i < m
    · have hki : (i : Int) < (m : Int) := by omega
      obtain ⟨b4, off4, kd4, lb4, ks4, A4, n4, c4, rfl, hb4, _, hx4, q0, q1, q2, K4⟩ := (HT.out.keep BW.out).get hlt
      have bb4 := boxBelow wr (.cells #[.int .i64 kd4, .int .i64 lb4, .slice A4 n4 c4] 24)
      have L4 := hide2 (LL.out _ (List.mem_cons_of_mem _ (List.mem_of_getElem? hx4.out)))
      have CT := hide2 (bwLeast_calls 2400 kd4 lb4 A4 n4 c4 ks4 (wr.alloc (.cells #[.int .i64 kd4, .int .i64 lb4, .slice A4 n4 c4] 24)) L4.out.2 (by omega) L4.out.1 (K4.keep bb4))
      have TK := hide2 (shortN_take (n := m0) hx4.out)
      obtain ⟨m4, hm4⟩ : ∃ m4, leastB (.mk kd4 lb4 ks4) = m4 := ⟨_, rfl⟩
      have hm4' : m4 ≤ 2400 := by rw [← hm4]; exact Nat.le_trans (least_sz _ L4.out.1) L4.out.2
      rw [hm4] at CT TK
      rw [FO.out] at TK
      have BT := hide2 (X2.out.trans (bb4.mono X2.out.size))
      obtain ⟨M, hM⟩ : ∃ M, min nn m4 = M := ⟨_, rfl⟩
      have hMi : min (nn : Int) (m4 : Int) = (M : Int) := by omega
      have hM6 : M ≤ 2400 := by omega
      rw [hM] at TK
      clear bb4 K4 hb4 hm4 hx4 hM
      go_wp2_with fail
      refine CT.out.mono ?_
      rintro e w5 ⟨rfl, hb5⟩
      have B5 := hide2 (BT.out.trans (hb5.mono BT.out.size))
      clear hb5
      go_wp2_with fail
      go_roundw
      case rel => exact ⟨i + 1, M, by omega, by go_num, rfl, hM6, TK, B5⟩
      case measure => simp [intOf]; omega
    · obtain rfl : i = m := by omega
      have EQ := hide2 (show shortB (.mk kd lb ks :: bs) = nn by rw [ES.out, ← FO.out, List.take_of_length_le (by have := HT.out.2.len; omega)])
      go_wp2
      go_ret
      rw [EQ.out]
      exact ⟨rfl, BW.out⟩
mutual
def letB : PBlk → List Int
  | .mk k l ks => Lib.compact (((if k = 2 then [l] else []) ++ letK ks).mergeSort fun x y => decide (x ≤ y))
def letK : List PBlk → List Int
  | [] => []
  | b :: bs => letB b ++ letK bs
end
theorem letB_one (k l : Int) (ks : List PBlk) : (letB (.mk k l ks)).Pairwise (· < ·) ∧ ∀ x, x ∈ letB (.mk k l ks) ↔ x ∈ (if k = 2 then [l] else []) ++ letK ks := by
  have hs : (((if k = 2 then [l] else []) ++ letK ks).mergeSort fun x y => decide (x ≤ y)).Pairwise (· ≤ ·) := by
    have := List.pairwise_mergeSort (le := fun x y : Int => decide (x ≤ y)) (fun a b c h1 h2 => by simp at *; omega) (fun a b => by simp; omega) ((if k = 2 then [l] else []) ++ letK ks)
    exact this.imp (fun {a b} h => by simpa using h)
  obtain ⟨h1, h2⟩ := compact_asc hs
  exact ⟨by rw [letB]; exact h1, fun x => by rw [letB, h2, List.mem_mergeSort]⟩
mutual
theorem letB_lab : ∀ (b : PBlk) (x : Int), x ∈ letB b ↔ x ∈ labB b
  | .mk k l ks, x => by
    rw [(letB_one k l ks).2, labB, List.mem_append, letK_lab ks x]
    by_cases h : k = 2
    · simp [h]
    · simp [h]
theorem letK_lab : ∀ (ks : List PBlk) (x : Int), x ∈ letK ks ↔ x ∈ labK ks
  | [], x => by simp [letK, labK]
  | b :: bs, x => by rw [letK, labK, List.mem_append, List.mem_append, letB_lab b x, letK_lab bs x]
end
theorem letB_asc (b : PBlk) : (letB b).Pairwise (· < ·) := by cases b; exact (letB_one _ _ _).1
theorem letB_len (b : PBlk) : (letB b).length ≤ szB b := by
  have hn : (letB b).Nodup := (letB_asc b).imp (fun {a b} hab e => by omega)
  exact Nat.le_trans (hn.length_le_of_subset (fun x hx => (letB_lab b x).1 hx)) (lab_len b)
end Go.Proofs.YtniolbbhjibobaaDoor
