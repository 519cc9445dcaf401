/- The contract of BFire. Conditions: the net and the mark read as lists. -/
import Derived.Test.YtmdlbbfponepoaaNetF
namespace Go.Proofs.Ytmdlbbfponepoaa
open Go.RowKit

theorem SmallL.mix {xs ys : List Int} (h1 : rightB xs = true) (h2 : rightB ys = true) : SmallL (mixL xs ys (-1)) := fun p => by
  by_cases hp : p < max xs.length ys.length
  · rw [atL_some (mixL_get hp)]
    have := atL_right h1 p
    have := atL_right h2 p
    omega
  · rw [atL_none (by rw [mixL_length]; omega)]; omega

end Go.Proofs.Ytmdlbbfponepoaa
