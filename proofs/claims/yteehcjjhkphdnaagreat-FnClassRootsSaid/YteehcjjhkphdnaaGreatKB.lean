/- Contracts of IsSquareClass, of the reference. -/
import Derived.Test.YteehcjjhkphdnaaGreatK9
import Derived.Test.YteehcjjhkphdnaaGreatK7
namespace Go.Proofs.YteehcjjhkphdnaaGreat
open Go.RowKit

end Go.Proofs.YteehcjjhkphdnaaGreat
