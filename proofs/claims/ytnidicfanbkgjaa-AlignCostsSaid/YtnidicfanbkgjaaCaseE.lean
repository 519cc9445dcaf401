/- Contracts of cases.busy and of the closure no of cases.Do; integers that the call owns, one turned. Conditions: the slices read as lists of integers. -/
import Derived.Test.YtnidicfanbkgjaaCaseC
namespace Go.Proofs.Ytnidicfanbkgjaa
open Go.RowKit

theorem OwnInts.row {w : World} {B : Nat} {v : Value} {n : Nat} {xs : List Int} (h : OwnInts w B v n xs) : w.ownsRow B 3 1 v n (xs.map (Value.int .i64)) := by
  obtain ⟨cells, h1, h2, h3⟩ := h
  have e : cells = xs.map (Value.int .i64) := by
    apply List.ext_getElem?
    intro j
    cases hx : xs[j]? with
    | none =>
      rw [List.getElem?_map, hx, List.getElem?_eq_none (by have := h2.1; have := List.getElem?_eq_none_iff.1 hx; omega)]; rfl
    | some x =>
      obtain ⟨vs, a, b⟩ := h2.2 j x hx
      have := a 0 (by omega)
      simp only [Nat.mul_one, Nat.add_zero] at this
      rw [this, List.getElem?_map, hx, b]; rfl
  rw [← e]; exact h1
theorem OwnInts.form {w : World} {B : Nat} {v : Value} {n : Nat} {xs : List Int} (h : OwnInts w B v n xs) (hn : 0 < n) : ∃ g cap, v = .slice (some ⟨g, 0, none⟩) n cap ∧ B ≤ g ∧ g < w.heap.size := h.row.form hn
section
variable {w : World} {B g cap n : Nat} {xs : List Int}
theorem OwnInts.at (h : OwnInts w B (.slice (some ⟨g, 0, none⟩) n cap) n xs) {j : Nat} {x : Int} (hx : xs[j]? = some x) : w.cell? ⟨g, j, none⟩ = some (.int .i64 x) := by
  have hj : j < n := by rw [← h.len]; exact (List.getElem?_eq_some_iff.1 hx).1
  rw [h.row.cellAt j (by omega), List.getElem?_map, hx]; rfl
theorem OwnInts.frozen (h : OwnInts w B (.slice (some ⟨g, 0, none⟩) n cap) n xs) (j : Nat) : w.frozen? ⟨g, j, none⟩ = false := h.row.frozenAt j
theorem OwnInts.put (h : OwnInts w B (.slice (some ⟨g, 0, none⟩) n cap) n xs) (j : Nat) (y : Int) : OwnInts (w.setCell ⟨g, j, none⟩ (.int .i64 y)) B (.slice (some ⟨g, 0, none⟩) n cap) n (xs.set j y) := by
  have := (h.row.stored j (.int .i64 y)).1
  rw [← List.map_set] at this
  exact OwnInts.of_row this
theorem OwnInts.ints (h : OwnInts w B (.slice (some ⟨g, 0, none⟩) n cap) n xs) (hn : n ≤ 281474976710656) : Ints w (some ⟨g, 0, none⟩) n cap xs := by
  obtain ⟨A, c, hv, hi⟩ := h.sl hn
  injection hv with h1 h2 h3
  subst h1 h3
  exact hi
end

end Go.Proofs.Ytnidicfanbkgjaa
