/- Contracts: the different prime factors. -/
import Derived.Test.YtohgccgbbipjjaaGreatN6
namespace Go.Proofs.YtohgccgbbipjjaaGreat
open Go.RowKit

end Go.Proofs.YtohgccgbbipjjaaGreat
