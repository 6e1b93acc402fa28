/- Ambiguous forms and their opposites (plain); contracts: the exponent of a prime. -/
import Derived.Test.YtohgccgbbipjjaaGreatN5
import Derived.Test.YtohgccgbbipjjaaGreatK9
namespace Go.Proofs.YtohgccgbbipjjaaGreat
open Go.RowKit

end Go.Proofs.YtohgccgbbipjjaaGreat
