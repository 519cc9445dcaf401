/- The contract of PBegin. Conditions: the net reads as a list. -/
import Derived.Test.YtldljjmibaaokaaCaseC
namespace Go.Proofs.Ytldljjmibaaokaa
open Go.RowKit

end Go.Proofs.Ytldljjmibaaokaa
