/- Texts melted into one: Contracts of net.Fire and BFire. Conditions: the net and the mark read as lists. | The contract of BFire. Conditions: the net and the mark read as lists. | The contract of BTurned. Conditions: the net's transitions read as a list. | The contract of net.Turned. Conditions: the net's transitions read as a list. | Append of any list of integers (nil too) to one that the call owns, in plain regions and in those that draw their order. Conditions: the lengths stay below what memory bears. -/
import Derived.Test.YtcgdjpelcfofgaaDoorTextTellsK27
import Derived.Deep.RegionHeld3
import Derived.Test.YtcgdjpelcfofgaaDoorTextTellsK08
import Derived.Test.YtcgdjpelcfofgaaDoorTextTellsK09
import Derived.Maps.AppendAt
namespace Go.Proofs.YtcgdjpelcfofgaaDoor
open Go.RowKit

end Go.Proofs.YtcgdjpelcfofgaaDoor
namespace Go.Proofs.YtcgdjpelcfofgaaDoor
open Go.RowKit

end Go.Proofs.YtcgdjpelcfofgaaDoor
namespace Go.Proofs.YtcgdjpelcfofgaaDoor
open Go.RowKit

/-- A transition's cells, read in a world that is past: nothing of it has turned since. -/
def TranR0 (w0 : World) : World → (Nat → Value) → PTran → Prop := fun _ vs t => TranR w0 vs t
theorem TranR0.kept (w0 : World) : Kept (TranR0 w0) := fun _ _ _ _ _ h => h
theorem Reads.tran {w : World} {v0 v1 v2 : Value} {t : PTran} {R : World → (Nat → Value) → PTran → Prop} (h : R w (fun j => [v0, v1, v2].getD j undef) t) : Reads R 3 w [v0, v1, v2] [t] :=
  Reads.one h rfl (fun j hj => by
    match j, hj with
    | 0, _ => rfl
    | 1, _ => rfl
    | 2, _ => rfl)

end Go.Proofs.YtcgdjpelcfofgaaDoor
namespace Go.Proofs.YtcgdjpelcfofgaaDoor
open Go.RowKit

theorem turnedEnd {B g0 : Nat} {w : World} {v u : Value} {n : Nat} {xs : List PTran} {j : Nat} (h : OwnSl (OwnTranR B) 3 w B 44 v n xs) (hg : g0 < B) : Hid (OwnSl (OwnTranR B) 3 (w.setCell ⟨g0, j, none⟩ u) B 44 v n xs) := by
  have gr : w.grownBy (w.setCell ⟨g0, j, none⟩ u) (some g0) := ⟨rfl, rfl, rfl, by simp [World.setCell], fun k _ hk => Below.heap_setCell _ _ _ _ (fun e => hk (by rw [e]))⟩
  exact h.kept gr (.inr (fun e => by have := (h.lt _ e).1; omega)) (fun vs x hx => hx.far gr hg)
theorem keepTran {B : Nat} {w : World} {v : Value} {n : Nat} {xs : List PTran} (h : OwnSl (OwnTranR B) 3 w B 44 v n xs) : ∀ w', w.grownBy w' v.ownBlock → ∀ vs y, OwnTranR B w vs y → OwnTranR B w' vs y := by
  obtain ⟨cells, h1, _⟩ := h
  exact fun w' hg vs y hy => hy.grown h1 hg

theorem OwnTranR.base {B B' : Nat} (hB : B' ≤ B) {w : World} {vs : Nat → Value} {t : PTran} (h : OwnTranR B w vs t) : OwnTranR B' w vs t := by
  obtain ⟨h0, n1, n2, h1, h2, h3⟩ := h
  exact ⟨h0, n1, n2, h1.base hB, h2.base hB, h3⟩
end Go.Proofs.YtcgdjpelcfofgaaDoor
namespace Go.Proofs.YtcgdjpelcfofgaaDoor
open Go.RowKit

end Go.Proofs.YtcgdjpelcfofgaaDoor
