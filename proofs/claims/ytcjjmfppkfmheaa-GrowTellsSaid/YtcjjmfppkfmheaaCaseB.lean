/- Contracts of SameInts, SameCase, of the library's Equal on error numbers, of cases.Right, PRight, cases.Begin and PBegin. Conditions: the net and the case read as lists. -/
import Derived.Test.YtcjjmfppkfmheaaCaseA
import Derived.Test.YtcjjmfppkfmheaaHeldB
namespace Go.Proofs.Ytcjjmfppkfmheaa
open Go.RowKit

end Go.Proofs.Ytcjjmfppkfmheaa
