/- Contracts: whether a list has a form. -/
import Derived.Test.YtohgccgbbipjjaaGreatKX
namespace Go.Proofs.YtohgccgbbipjjaaGreat
open Go.RowKit

end Go.Proofs.YtohgccgbbipjjaaGreat
