/- From a reading of an argument to lists of lists. Conditions: none. -/
import Derived.Test.YtpagenlealddhaaRead
import Derived.Test.YtpagenlealddhaaListW
namespace Go.Proofs.Ytpagenlealddhaa
open Go.ChangeShapes Go.WideShapes Go.ChangeAt Go.RowKit Go.Deep
section
variable {H : Type} {enc : TypeId × Value → H} {W : World}

theorem readsList : ReadsAs ListR 1 24 49 := by
  refine ⟨ListR.good, by kernel_rfl, by kernel_rfl, by omega, fun enc W fuel cs d pl h hw hl => ?_⟩
  match cs, hl with
  | [v], _ =>
    obtain ⟨A, n, c, xs, h1, i1, b1⟩ := Sl.of_trod Try.underlying49 readsInt h hw
    exact ⟨xs, A, n, c, h1, i1, by have := i1.le; simp only [reachBytes] at b1; omega⟩
end
end Go.Proofs.Ytpagenlealddhaa
