/- Contracts of net.Run and BRun. Conditions: the net, the mark and the sequence read as lists. -/
import Derived.Test.YtmdlbbfponepoaaNetL
namespace Go.Proofs.Ytmdlbbfponepoaa
open Go.RowKit

end Go.Proofs.Ytmdlbbfponepoaa
