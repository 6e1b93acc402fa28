/- Contracts: the different prime factors. -/
import Derived.Test.YtlcegkafagdcjaaGreatDoorN6
namespace Go.Proofs.YtlcegkafagdcjaaGreatDoor
open Go.RowKit

end Go.Proofs.YtlcegkafagdcjaaGreatDoor
