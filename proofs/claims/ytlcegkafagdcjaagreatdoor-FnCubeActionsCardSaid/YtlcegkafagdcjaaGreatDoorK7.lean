/- Contracts of PowerClasses and SquareClasses, of the program and of the reference. -/
import Derived.Test.YtlcegkafagdcjaaGreatDoorKX
import Derived.Test.YtlcegkafagdcjaaGreatDoorNA
namespace Go.Proofs.YtlcegkafagdcjaaGreatDoor
open Go.RowKit

end Go.Proofs.YtlcegkafagdcjaaGreatDoor
