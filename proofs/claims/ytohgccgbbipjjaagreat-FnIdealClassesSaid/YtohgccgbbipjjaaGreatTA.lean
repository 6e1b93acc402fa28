/- Plain facts: how many points a reduced form has with each value, counted in a box by signs. -/
import Derived.Test.YtohgccgbbipjjaaGreatE1
namespace Go.Proofs.YtohgccgbbipjjaaGreat

end Go.Proofs.YtohgccgbbipjjaaGreat
