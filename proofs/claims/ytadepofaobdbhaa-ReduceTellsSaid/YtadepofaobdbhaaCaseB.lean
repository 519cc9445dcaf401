/- Contracts of SameInts, SameCase, of the library's Equal on error numbers, of cases.Right, PRight, cases.Begin and PBegin. Conditions: the net and the case read as lists. -/
import Derived.Test.YtadepofaobdbhaaCaseA
import Derived.Test.YtadepofaobdbhaaHeldB
namespace Go.Proofs.Ytadepofaobdbhaa
open Go.RowKit

end Go.Proofs.Ytadepofaobdbhaa
