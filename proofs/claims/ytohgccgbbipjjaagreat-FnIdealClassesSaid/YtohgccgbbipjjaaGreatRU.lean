/- Contract: the product of two ideals, of the reference, with its tests. -/
import Derived.Test.YtohgccgbbipjjaaGreatXB
namespace Go.Proofs.YtohgccgbbipjjaaGreat
open Go.RowKit

end Go.Proofs.YtohgccgbbipjjaaGreat
