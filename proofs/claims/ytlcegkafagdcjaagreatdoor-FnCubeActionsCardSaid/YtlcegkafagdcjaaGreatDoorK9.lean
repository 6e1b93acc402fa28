/- Contracts: whether a list has a form. -/
import Derived.Test.YtlcegkafagdcjaaGreatDoorKX
namespace Go.Proofs.YtlcegkafagdcjaaGreatDoor
open Go.RowKit

end Go.Proofs.YtlcegkafagdcjaaGreatDoor
