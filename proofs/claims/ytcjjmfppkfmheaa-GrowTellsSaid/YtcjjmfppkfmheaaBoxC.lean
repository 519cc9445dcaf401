/- A box of three cells, stored anew. Conditions: none. -/
import Derived.Test.YtcjjmfppkfmheaaBox
namespace Go.Proofs.Ytcjjmfppkfmheaa
open Go.RowKit

theorem Box.set3 {w : World} {b ty : Nat} {u0 u1 u2 : Value} (h : Box w b ty #[u0, u1, u2]) (v0 v1 v2 : Value) : Box (((w.setCell ⟨b, 0, none⟩ v0).setCell ⟨b, 1, none⟩ v1).setCell ⟨b, 2, none⟩ v2) b ty #[v0, v1, v2] := by
  have := ((h.set 0 v0).set 1 v1).set 2 v2
  simpa using this
theorem below_set3 {B b : Nat} {w0 w : World} (h : Below B w0 w) (hb : B ≤ b) (v0 v1 v2 : Value) : Below B w0 (((w.setCell ⟨b, 0, none⟩ v0).setCell ⟨b, 1, none⟩ v1).setCell ⟨b, 2, none⟩ v2) :=
  ((h.setCell hb _).setCell hb _).setCell hb _
end Go.Proofs.Ytcjjmfppkfmheaa
