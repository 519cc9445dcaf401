/- The contract of PBegin. Conditions: the net reads as a list. -/
import Derived.Test.YtcjjmfppkfmheaaCaseC
namespace Go.Proofs.Ytcjjmfppkfmheaa
open Go.RowKit

end Go.Proofs.Ytcjjmfppkfmheaa
