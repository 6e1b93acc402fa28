/- Contracts: l1Put, a sorted insertion. -/
import Derived.Test.YtlcegkafagdcjaaGreatDoorN5
import Derived.Test.YtlcegkafagdcjaaGreatDoorW4
namespace Go.Proofs.YtlcegkafagdcjaaGreatDoor
open Go.RowKit

end Go.Proofs.YtlcegkafagdcjaaGreatDoor
