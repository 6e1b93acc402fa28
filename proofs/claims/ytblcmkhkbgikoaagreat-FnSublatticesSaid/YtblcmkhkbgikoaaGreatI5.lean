/- Contracts: the words of the laws on lists of points: equality, marks. -/
import Derived.Test.YtblcmkhkbgikoaaGreatI4
import Derived.Test.YtblcmkhkbgikoaaGreatG7
namespace Go.Proofs.YtblcmkhkbgikoaaGreat
open Go.RowKit
end Go.Proofs.YtblcmkhkbgikoaaGreat
