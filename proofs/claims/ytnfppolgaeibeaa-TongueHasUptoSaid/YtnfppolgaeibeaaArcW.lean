/- What arcs read as. Conditions: none. -/
import Derived.Test.YtnfppolgaeibeaaBase
import Derived.Test.YtnfppolgaeibeaaOwn
import Derived.Test.YtnfppolgaeibeaaPlainM
namespace Go.Proofs.Ytnfppolgaeibeaa
open Go.RowKit

theorem tyArcs : SlTy 105 130 3 24 := SlTy.mk' (z := .agg #[.int .i64 0, .int .i64 0, .int .i64 0]) Try.underlying105 (by kernel_rfl) rfl (by decide)
def ArcR : World → (Nat → Value) → PArc → Prop := fun _ vs a => vs 0 = .int .i64 a.from_ ∧ vs 1 = .int .i64 a.tran ∧ vs 2 = .int .i64 a.to_ ∧ (Lit.int .i64 a.tran).wf = true
theorem ArcR.kept : Kept ArcR := fun _ _ _ _ _ h => h
theorem ArcR.good : Good ArcR 3 where
  kept := ArcR.kept
  one := fun w vs x h j hj => by
    obtain ⟨h0, h1, h2, _⟩ := h
    match j, hj with
    | 0, _ => rw [h0]; rfl
    | 1, _ => rw [h1]; rfl
    | 2, _ => rw [h2]; rfl
  pos := by omega
abbrev Arcs (w : World) (A : Option Addr) (n c : Nat) (ars : List PArc) : Prop := Sl ArcR 3 w A n c ars
theorem Arcs.get {w : World} {A : Option Addr} {n c k : Nat} {ars : List PArc} (h : Arcs w A n c ars) (hk : k < n) :
    ∃ b off a, A = some ⟨b, off, none⟩ ∧ b < w.heap.size ∧ Hid (ars[k]? = some a) ∧ w.cell? ⟨b, off + k * 3, none⟩ = some (.int .i64 a.from_) ∧ w.cell? ⟨b, off + k * 3 + 1, none⟩ = some (.int .i64 a.tran) ∧ w.cell? ⟨b, off + k * 3 + 2, none⟩ = some (.int .i64 a.to_) ∧ Hid ((Lit.int .i64 a.tran).wf = true) := by
  obtain ⟨b, off, a, vs, h1, h2, h3, h4, e0, e1, e2, e3⟩ := Sl.get h hk
  refine ⟨b, off, a, h1, h2, h3, ?_, ?_, ?_, e3⟩
  · rw [← e0]; exact h4 0 (by omega)
  · rw [← e1]; exact h4 1 (by omega)
  · rw [← e2]; exact h4 2 (by omega)
end Go.Proofs.Ytnfppolgaeibeaa
