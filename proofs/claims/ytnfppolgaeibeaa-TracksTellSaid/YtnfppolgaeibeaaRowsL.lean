/- Rows of lists that are the call's own. Conditions: none; plain lemmas on memory. (Cut out of MrefA.) -/
import Derived.Test.YtnfppolgaeibeaaListW
import Derived.Test.YtnfppolgaeibeaaOwnB
namespace Go.Proofs.Ytnfppolgaeibeaa
open Go.RowKit

/-- A list whose cells are the call's own. -/
def OwnListR (B : Nat) : World → (Nat → Value) → List Int → Prop := fun w vs xs => ∃ n, OwnInts w B (vs 0) n xs ∧ n ≤ 17592186043904
theorem OwnListR.kept (B : Nat) : Kept (OwnListR B) := fun _ _ _ _ hb ⟨n, h, l⟩ => ⟨n, h.keep IntR.kept hb, l⟩
theorem OwnListR.list {B : Nat} {w : World} {vs : Nat → Value} {xs : List Int} (h : OwnListR B w vs xs) : ListR w vs xs := by
  obtain ⟨n, o, l⟩ := h
  obtain ⟨A, c, e, i⟩ := o.sl (by omega)
  exact ⟨A, n, c, e, i, l⟩
theorem OwnListR.good (B : Nat) : Good (OwnListR B) 1 where
  kept := OwnListR.kept B
  one := fun w vs x h j hj => ListR.good.one w vs x h.list j hj
  pos := by omega
theorem OwnListR.base {B B' : Nat} (hB : B' ≤ B) {w : World} {vs : Nat → Value} {xs : List Int} (h : OwnListR B w vs xs) : OwnListR B' w vs xs := by
  obtain ⟨n, o, l⟩ := h
  exact ⟨n, o.base hB, l⟩
theorem OwnListR.grown {B B2 size n e : Nat} {w w' : World} {v : Value} {cells : List Value} (hown : w.ownsRow B2 e size v n cells) (hne : 3 ≠ e) (hg : w.grownBy w' v.ownBlock) {vs : Nat → Value} {xs : List Int} (h : OwnListR B w vs xs) : OwnListR B w' vs xs := by
  obtain ⟨m, ⟨c1, a1, a2, a3⟩, l⟩ := h
  exact ⟨m, ⟨c1, a1.kept hg (own_ne a1 hown hne), ⟨a2.1, a2.2⟩, a3⟩, l⟩
theorem tyLists : SlTy 54 35 1 24 := SlTy.mk' (z := .slice none 0 0) Try.underlying54 (by kernel_rfl) rfl (by decide)
theorem keepLists {B B2 n : Nat} {w : World} {v : Value} {xs : List (List Int)} (h : OwnSl (OwnListR B) 1 w B2 35 v n xs) : ∀ w', w.grownBy w' v.ownBlock → ∀ vs y, OwnListR B w vs y → OwnListR B w' vs y := by
  obtain ⟨cells, h1, _⟩ := h
  exact fun w' hg vs y hy => hy.grown h1 (by decide) hg
theorem Reads.list1 {R : World → (Nat → Value) → List Int → Prop} {w : World} {v : Value} {xs : List Int} (h : R w (fun _ => v) xs) : Reads R 1 w [v] [xs] :=
  Reads.one h rfl (fun j hj => by cases j with | zero => rfl | succ j => omega)
end Go.Proofs.Ytnfppolgaeibeaa
