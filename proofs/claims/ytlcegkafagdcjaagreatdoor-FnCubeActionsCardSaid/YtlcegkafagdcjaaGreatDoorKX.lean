/- Parts K4 K5 K6 laid together by tp.py. -/
import Derived.Test.YtlcegkafagdcjaaGreatDoorKT
import Derived.Test.YtlcegkafagdcjaaGreatDoorGG
import Derived.Test.YtlcegkafagdcjaaGreatDoorKV
namespace Go.Proofs.YtlcegkafagdcjaaGreatDoor
section
open Go.RowKit

end

section
open Go.RowKit

end

section
open Go.RowKit

end
end Go.Proofs.YtlcegkafagdcjaaGreatDoor
