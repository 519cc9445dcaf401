/- The contract of PBegin. Conditions: the net reads as a list. -/
import Derived.Test.YtadepofaobdbhaaCaseC
namespace Go.Proofs.Ytadepofaobdbhaa
open Go.RowKit

end Go.Proofs.Ytadepofaobdbhaa
