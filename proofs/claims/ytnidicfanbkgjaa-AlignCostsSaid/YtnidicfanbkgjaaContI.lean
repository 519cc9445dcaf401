/- The contracts of the library's Index and Contains on integers. Conditions: the slices read as lists. -/
import Derived.Test.YtnidicfanbkgjaaMark
namespace Go.Proofs.Ytnidicfanbkgjaa
open Go.RowKit

end Go.Proofs.Ytnidicfanbkgjaa
