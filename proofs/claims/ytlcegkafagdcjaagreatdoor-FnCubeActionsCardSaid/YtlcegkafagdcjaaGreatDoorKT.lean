/- Parts K3 T1 laid together by tp.py. -/
import Derived.Test.YtlcegkafagdcjaaGreatDoorKV
import Derived.Test.YtlcegkafagdcjaaGreatDoorN6
namespace Go.Proofs.YtlcegkafagdcjaaGreatDoor
section
open Go.RowKit

end

section
open Go.RowKit

end
end Go.Proofs.YtlcegkafagdcjaaGreatDoor
