/- slices.Sort and slices.Compact on integers that are the call's own. Conditions: the slice is the call's own. -/
import Derived.Test.YtldljjmibaaokaaCaseE
import Derived.Test.YtldljjmibaaokaaLayS
import Derived.Sort.OwnSortedInts
namespace Go.Proofs.Ytldljjmibaaokaa
open Go.RowKit

set_option maxRecDepth 100000 in
set_option maxHeartbeats 1000000 in
/-- slices.Sort on a slice of the call's own. -/
theorem sortOwn_calls {w : World} {B n : Nat} {v : Value} {xs : List Int} (h : OwnInts w B v n xs) (hn : n ≤ 17592186044416) :
    Calls Try.prog 80 #[v] w fun e w' => e = .returned (.tuple #[]) ∧ OwnInts w' B v n (xs.mergeSort fun x y => decide (x ≤ y)) ∧ w.grownBy w' v.ownBlock := by
  have hl := h.len
  subst hl
  rcases h.row.2 with ⟨rfl, h0⟩ | ⟨g, cap, cur, rfl, hg, hb, h1, h2, h3, h4⟩
  · have hx : xs = [] := List.eq_nil_of_length_eq_zero h0
    subst hx
    refine (slices_Sort_int_none none 0 w).mono ?_
    rintro e w' ⟨rfl, rfl⟩
    exact ⟨rfl, by simpa using h, World.grownBy.refl _ _⟩
  · refine (slices_Sort_int g 0 cap xs w (holds_of_blockI hb (by simpa using h4)) (Array.getElem?_eq_some_iff.1 hb).1 (by omega)).mono ?_
    rintro e w' ⟨rfl, q, os, rfl⟩
    exact ⟨rfl, OwnInts.of_row (ownsRow_sortedI (by simp) hg hb h1 h2 h3), grownBy_sortedI _⟩
theorem own_cut {w : World} {B e n k g cap : Nat} {cells : List Value} (h : w.ownsRow B e 1 (.slice (some ⟨g, 0, none⟩) n cap) n cells) (hk : k ≤ n) : w.ownsRow B e 1 (.slice (some ⟨g, 0, none⟩) k cap) k (cells.take k) := by
  obtain ⟨h0, h1⟩ := h
  refine ⟨by rw [List.length_take]; omega, ?_⟩
  rcases h1 with ⟨hv, _⟩ | ⟨g', cap', cur, hv, hg, hb, a1, a2, a3, a4⟩
  · cases hv
  · injection hv with e1 e2 e3
    subst e3
    injection e1 with e1
    injection e1 with e1
    subst e1
    refine .inr ⟨g, cap, cur, rfl, hg, hb, by omega, a2, a3, ?_⟩
    rw [← a4, List.take_take]
    congr 1
    omega
theorem compact_len (xs : List Int) : (Lib.compact xs).length ≤ xs.length := by
  unfold Lib.compact Lib.compactUpTo
  rw [List.length_map]
  exact Nat.le_trans (List.length_filter_le _ _) (by simp)
set_option maxRecDepth 100000 in
set_option maxHeartbeats 1000000 in
/-- slices.Compact on a slice of the call's own. -/
theorem compactOwn_calls {w : World} {B n : Nat} {v : Value} {xs : List Int} (h : OwnInts w B v n xs) (hn : n ≤ 17592186044416) :
    Calls Try.prog 70 #[v] w fun e w' => ∃ v', e = .returned v' ∧ OwnInts w' B v' (Lib.compact xs).length (Lib.compact xs) ∧ w.grownBy w' v.ownBlock := by
  have hl := h.len
  subst hl
  rcases h.row.2 with ⟨rfl, h0⟩ | ⟨g, cap, cur, rfl, hg, hb, h1, h2, h3, h4⟩
  · have hx : xs = [] := List.eq_nil_of_length_eq_zero h0
    subst hx
    refine (slices_Compact_int_empty none 0 w).mono ?_
    rintro e w' ⟨rfl, rfl⟩
    exact ⟨_, rfl, OwnSl.nil, World.grownBy.refl _ _⟩
  · have hlen := compact_len xs
    refine (slices_Compact_int g 0 cap xs w (holds_of_blockI hb (by simpa using h4)) (by omega) h1).mono ?_
    rintro e w' ⟨rfl, q, rfl⟩
    refine ⟨_, rfl, ?_, ?_⟩
    · have key := ownsRow_sortedI (w := w) (n := q) (os := #[]) (ss := xs) (ts := Lib.compact xs ++ List.replicate (xs.length - (Lib.compact xs).length) 0) (by simp; omega) hg hb h1 h2 h3
      rw [Sort.grow_empty] at key
      have := own_cut key hlen
      rw [List.map_append, List.take_left' (by simp)] at this
      exact OwnInts.of_row this
    · have := grownBy_sortedI (w := w) (g := g) (n := q) (os := #[]) (Lib.compact xs ++ List.replicate (xs.length - (Lib.compact xs).length) 0).toArray
      rwa [Sort.grow_empty] at this

end Go.Proofs.Ytldljjmibaaokaa
