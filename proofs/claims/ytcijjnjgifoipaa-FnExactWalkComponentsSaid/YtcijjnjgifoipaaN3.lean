/- Contracts: the Jacobi symbol, by the reference. -/
import Derived.Test.YtcijjnjgifoipaaN2
import Derived.Deep.LoopGhost
namespace Go.Proofs.Ytcijjnjgifoipaa
open Go.RowKit

end Go.Proofs.Ytcijjnjgifoipaa
