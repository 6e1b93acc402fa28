/- Contracts of the reference: the ambiguous classes. -/
import Derived.Test.YtbecjnmifdbnjaaR1
namespace Go.Proofs.Ytbecjnmifdbnjaa
open Go.RowKit

end Go.Proofs.Ytbecjnmifdbnjaa
