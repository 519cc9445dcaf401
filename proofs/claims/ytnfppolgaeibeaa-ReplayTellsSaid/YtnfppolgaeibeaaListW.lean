/- What lists of lists of integers read as. Conditions: none. -/
import Derived.Test.YtnfppolgaeibeaaBase
namespace Go.Proofs.Ytnfppolgaeibeaa
open Go.RowKit

def ListR : World → (Nat → Value) → List Int → Prop := fun w vs xs => ∃ A n c, vs 0 = .slice A n c ∧ Ints w A n c xs ∧ n ≤ 17592186043904
theorem ListR.kept : Kept ListR := fun _ _ _ _ hb ⟨A, n, c, e, i, l⟩ => ⟨A, n, c, e, i.keep hb, l⟩
theorem ListR.good : Good ListR 1 where
  kept := ListR.kept
  one := fun w vs x h j hj => by
    obtain rfl : j = 0 := by omega
    obtain ⟨A, n, c, e, _⟩ := h
    rw [e]; rfl
  pos := by omega
abbrev Lists (w : World) (A : Option Addr) (n c : Nat) (xs : List (List Int)) : Prop := Sl ListR 1 w A n c xs
theorem Lists.get {w : World} {A : Option Addr} {n c k : Nat} {xs : List (List Int)} (h : Lists w A n c xs) (hk : k < n) :
    ∃ b off x B m d, A = some ⟨b, off, none⟩ ∧ b < w.heap.size ∧ Hid (xs[k]? = some x) ∧ w.cell? ⟨b, off + k, none⟩ = some (.slice B m d) ∧ Ints w B m d x ∧ m ≤ 17592186043904 := by
  obtain ⟨b, off, x, vs, h1, h2, h3, h4, B, m, d, e, i, l⟩ := Sl.get h hk
  refine ⟨b, off, x, B, m, d, h1, h2, h3, ?_, i, l⟩
  have := h4 0 (by omega)
  rw [e] at this
  simpa using this
end Go.Proofs.Ytnfppolgaeibeaa
