/- Parts K4 K5 K6 laid together by tp.py. -/
import Derived.Test.YtohgccgbbipjjaaGreatKT
import Derived.Test.YtohgccgbbipjjaaGreatGG
import Derived.Test.YtohgccgbbipjjaaGreatKV
namespace Go.Proofs.YtohgccgbbipjjaaGreat
section
open Go.RowKit

end

section
open Go.RowKit

end

section
open Go.RowKit

end
end Go.Proofs.YtohgccgbbipjjaaGreat
