/- Texts melted into one: The plain law of turned nets and of runs. No program in sight. | What chapter 16 says, in plain Lean: cases, and what is done with them. Conditions: none. | What is done with a case, way by way. No program in sight. Conditions: none. | Contracts of net.fits, BFits, net.Enabled and BEnabled. Conditions: the net and the mark read as lists. | Contracts of net.Enabled and BEnabled. Conditions: the net and the mark read as lists. | Contracts of shape.Start, HStart, SameInts and of the library's Equal on error numbers. Conditions: the slices read as lists of integers. | Contracts of SameInts, SameCase, of the library's Equal on error numbers, of cases.Right, PRight, cases.Begin and PBegin. Conditions: the net and the case read as lists. | Contracts of cases.Begin and PBegin. Conditions: the net reads as a list. | The contract of PBegin. Conditions: the net reads as a list. | Contracts of cases.busy and of the closure no of cases.Do; integers that the call owns, one turned. Conditions: the slices read as lists of integers. -/
import Derived.Test.YtcgdjpelcfofgaaDoorTextTellsK01
import Derived.Test.YtcgdjpelcfofgaaDoorTextTellsK17
import Derived.Test.YtcgdjpelcfofgaaDoorTextTellsK13
import Derived.Test.YtcgdjpelcfofgaaDoorTextTellsK09
namespace Go.Proofs.YtcgdjpelcfofgaaDoor
end Go.Proofs.YtcgdjpelcfofgaaDoor
namespace Go.Proofs.YtcgdjpelcfofgaaDoor

structure PCase where
  mark : List Int
  busy : List Int
deriving Inhabited, DecidableEq
def PCase.nil : PCase := ⟨[], []⟩
end Go.Proofs.YtcgdjpelcfofgaaDoor
namespace Go.Proofs.YtcgdjpelcfofgaaDoor

end Go.Proofs.YtcgdjpelcfofgaaDoor
namespace Go.Proofs.YtcgdjpelcfofgaaDoor
open Go.RowKit

theorem boxBelow (w : World) (o : Obj) : Below w.heap.size w (w.alloc o) := (Below.refl _ _).alloc (Nat.le_refl _) _

end Go.Proofs.YtcgdjpelcfofgaaDoor
namespace Go.Proofs.YtcgdjpelcfofgaaDoor
open Go.RowKit

end Go.Proofs.YtcgdjpelcfofgaaDoor
namespace Go.Proofs.YtcgdjpelcfofgaaDoor
open Go.RowKit

end Go.Proofs.YtcgdjpelcfofgaaDoor
namespace Go.Proofs.YtcgdjpelcfofgaaDoor
open Go.RowKit

end Go.Proofs.YtcgdjpelcfofgaaDoor
namespace Go.Proofs.YtcgdjpelcfofgaaDoor
open Go.RowKit

end Go.Proofs.YtcgdjpelcfofgaaDoor
namespace Go.Proofs.YtcgdjpelcfofgaaDoor
open Go.RowKit

end Go.Proofs.YtcgdjpelcfofgaaDoor
namespace Go.Proofs.YtcgdjpelcfofgaaDoor
open Go.RowKit

theorem OwnInts.row {w : World} {B : Nat} {v : Value} {n : Nat} {xs : List Int} (h : OwnInts w B v n xs) : w.ownsRow B 3 1 v n (xs.map (Value.int .i64)) := by
  obtain ⟨cells, h1, h2, h3⟩ := h
  have e : cells = xs.map (Value.int .i64) := by
    apply List.ext_getElem?
    intro j
    cases hx : xs[j]? with
    | none =>
      rw [List.getElem?_map, hx, List.getElem?_eq_none (by have := h2.1; have := List.getElem?_eq_none_iff.1 hx; omega)]; rfl
    | some x =>
      obtain ⟨vs, a, b⟩ := h2.2 j x hx
      have := a 0 (by omega)
      simp only [Nat.mul_one, Nat.add_zero] at this
      rw [this, List.getElem?_map, hx, b]; rfl
  rw [← e]; exact h1
section
variable {w : World} {B g cap n : Nat} {xs : List Int}
theorem OwnInts.at (h : OwnInts w B (.slice (some ⟨g, 0, none⟩) n cap) n xs) {j : Nat} {x : Int} (hx : xs[j]? = some x) : w.cell? ⟨g, j, none⟩ = some (.int .i64 x) := by
  have hj : j < n := by rw [← h.len]; exact (List.getElem?_eq_some_iff.1 hx).1
  rw [h.row.cellAt j (by omega), List.getElem?_map, hx]; rfl
theorem OwnInts.frozen (h : OwnInts w B (.slice (some ⟨g, 0, none⟩) n cap) n xs) (j : Nat) : w.frozen? ⟨g, j, none⟩ = false := h.row.frozenAt j
theorem OwnInts.put (h : OwnInts w B (.slice (some ⟨g, 0, none⟩) n cap) n xs) (j : Nat) (y : Int) : OwnInts (w.setCell ⟨g, j, none⟩ (.int .i64 y)) B (.slice (some ⟨g, 0, none⟩) n cap) n (xs.set j y) := by
  have := (h.row.stored j (.int .i64 y)).1
  rw [← List.map_set] at this
  exact OwnInts.of_row this
theorem OwnInts.ints (h : OwnInts w B (.slice (some ⟨g, 0, none⟩) n cap) n xs) (hn : n ≤ 281474976710656) : Ints w (some ⟨g, 0, none⟩) n cap xs := by
  obtain ⟨A, c, hv, hi⟩ := h.sl hn
  injection hv with h1 h2 h3
  subst h1 h3
  exact hi
end

end Go.Proofs.YtcgdjpelcfofgaaDoor
