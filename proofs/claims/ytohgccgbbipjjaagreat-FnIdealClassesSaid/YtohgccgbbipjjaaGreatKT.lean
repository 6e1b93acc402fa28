/- Parts K3 T1 laid together by tp.py. -/
import Derived.Test.YtohgccgbbipjjaaGreatKV
import Derived.Test.YtohgccgbbipjjaaGreatN6
namespace Go.Proofs.YtohgccgbbipjjaaGreat
section
open Go.RowKit

end

section
open Go.RowKit

end
end Go.Proofs.YtohgccgbbipjjaaGreat
