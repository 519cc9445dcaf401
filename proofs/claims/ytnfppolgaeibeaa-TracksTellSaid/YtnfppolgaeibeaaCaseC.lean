/- Contracts of cases.Begin and PBegin. Conditions: the net reads as a list. | The contract of PBegin. Conditions: the net reads as a list. | Contracts of cases.busy and of the closure no of cases.Do; integers that the call owns, one turned. Conditions: the slices read as lists of integers. -/
import Derived.Test.YtnfppolgaeibeaaCaseA
namespace Go.Proofs.Ytnfppolgaeibeaa
open Go.RowKit

/-- What a call answers that hands back a case and what is wrong. -/
def AnsCE (p : PCase × Int) (w : World) (e : Ending) (w' : World) : Prop :=
  ∃ A n c B m d, e = .returned (.tuple #[.agg #[.slice A n c, .slice B m d], .int .i64 p.2]) ∧ Ints w' A n c p.1.mark ∧ Ints w' B m d p.1.busy ∧ Below w.heap.size w w' ∧ Fresh w A ∧ Fresh w B
theorem AnsCE.no {e : Int} {w w' : World} (hb : Below w.heap.size w w') : AnsCE (PCase.nil, e) w (.returned (.tuple #[.agg #[.slice none 0 0, .slice none 0 0], .int .i64 e])) w' :=
  ⟨none, 0, 0, none, 0, 0, rfl, Sl.nil0, Sl.nil0, hb, Fresh.none, Fresh.none⟩

theorem start_small (w : World) (P i : Int) (A : Option Addr) (n c : Nat) (hP : P ≤ 16) :
    Calls Try.prog 15 #[.agg #[.int .i64 P, .slice A n c], .int .i64 i] w (AnsIF P.toNat (oneL P.toNat i) w) := by
  have := start_calls w P i A n c
  rwa [show min P 16 = P by omega] at this
theorem refStart_small (w : World) (P i : Int) (A : Option Addr) (n c : Nat) (hP : P ≤ 16) :
    Calls Try.prog 16 #[.agg #[.int .i64 P, .slice A n c], .int .i64 i] w (AnsIF P.toNat (oneL P.toNat i) w) := by
  have := refStart_calls w P i A n c
  rwa [show min P 16 = P by omega] at this
theorem ints_made {w : World} {B n : Nat} {a : Addr} (own : w.ownsRow B 3 1 (.slice (some a) n n) n (List.replicate n (.int .i64 0))) (hn : n ≤ 281474976710656) : Ints w (some a) n n (List.replicate n 0) := by
  rw [show List.replicate n (Value.int .i64 0) = (List.replicate n (0 : Int)).map (Value.int .i64) by rw [List.map_replicate]] at own
  obtain ⟨C, cc, hv, hi⟩ := Ints.of_own own hn
  injection hv with h1 h2 h3
  subst h1 h3
  exact hi
theorem beginL_wrong {N : PNet} {i : Int} (h : netOk N = false) : beginL N i = (PCase.nil, 2) := by rw [beginL, h]; rfl
theorem beginL_none {N : PNet} {i : Int} (h : netOk N = true) (hi : ¬ (0 ≤ i ∧ i < N.places)) : beginL N i = (PCase.nil, 3) := by rw [beginL, if_pos h, if_neg hi]
theorem beginL_yes {N : PNet} {i : Int} (h : netOk N = true) (hi : 0 ≤ i ∧ i < N.places) : beginL N i = (⟨oneL N.places.toNat i, List.replicate N.trans.length 0⟩, 0) := by rw [beginL, if_pos h, if_pos hi]

end Go.Proofs.Ytnfppolgaeibeaa
namespace Go.Proofs.Ytnfppolgaeibeaa
open Go.RowKit

end Go.Proofs.Ytnfppolgaeibeaa
namespace Go.Proofs.Ytnfppolgaeibeaa
open Go.RowKit

theorem OwnInts.row {w : World} {B : Nat} {v : Value} {n : Nat} {xs : List Int} (h : OwnInts w B v n xs) : w.ownsRow B 3 1 v n (xs.map (Value.int .i64)) := by
  obtain ⟨cells, h1, h2, h3⟩ := h
  have e : cells = xs.map (Value.int .i64) := by
    apply List.ext_getElem?
    intro j
    cases hx : xs[j]? with
    | none =>
      rw [List.getElem?_map, hx, List.getElem?_eq_none (by have := h2.1; have := List.getElem?_eq_none_iff.1 hx; omega)]; rfl
    | some x =>
      obtain ⟨vs, a, b⟩ := h2.2 j x hx
      have := a 0 (by omega)
      simp only [Nat.mul_one, Nat.add_zero] at this
      rw [this, List.getElem?_map, hx, b]; rfl
  rw [← e]; exact h1
theorem OwnInts.form {w : World} {B : Nat} {v : Value} {n : Nat} {xs : List Int} (h : OwnInts w B v n xs) (hn : 0 < n) : ∃ g cap, v = .slice (some ⟨g, 0, none⟩) n cap ∧ B ≤ g ∧ g < w.heap.size := h.row.form hn
section
variable {w : World} {B g cap n : Nat} {xs : List Int}
theorem OwnInts.at (h : OwnInts w B (.slice (some ⟨g, 0, none⟩) n cap) n xs) {j : Nat} {x : Int} (hx : xs[j]? = some x) : w.cell? ⟨g, j, none⟩ = some (.int .i64 x) := by
  have hj : j < n := by rw [← h.len]; exact (List.getElem?_eq_some_iff.1 hx).1
  rw [h.row.cellAt j (by omega), List.getElem?_map, hx]; rfl
theorem OwnInts.frozen (h : OwnInts w B (.slice (some ⟨g, 0, none⟩) n cap) n xs) (j : Nat) : w.frozen? ⟨g, j, none⟩ = false := h.row.frozenAt j
theorem OwnInts.put (h : OwnInts w B (.slice (some ⟨g, 0, none⟩) n cap) n xs) (j : Nat) (y : Int) : OwnInts (w.setCell ⟨g, j, none⟩ (.int .i64 y)) B (.slice (some ⟨g, 0, none⟩) n cap) n (xs.set j y) := by
  have := (h.row.stored j (.int .i64 y)).1
  rw [← List.map_set] at this
  exact OwnInts.of_row this
theorem OwnInts.ints (h : OwnInts w B (.slice (some ⟨g, 0, none⟩) n cap) n xs) (hn : n ≤ 281474976710656) : Ints w (some ⟨g, 0, none⟩) n cap xs := by
  obtain ⟨A, c, hv, hi⟩ := h.sl hn
  injection hv with h1 h2 h3
  subst h1 h3
  exact hi
end

end Go.Proofs.Ytnfppolgaeibeaa
