/- Contracts: united forms and the composite, by the reference. -/
import Derived.Test.YtdhennlanngjgaaUA
import Derived.Deep.RegionHeld3
import Derived.Deep.DeepCutAuto
import Derived.Deep.LoopGhost
namespace Go.Proofs.Ytdhennlanngjgaa
open Go.RowKit

def RetUn (a e b c : Int) (w : World) (ee : Ending) (w' : World) : Prop := ∃ m1 m2 m3 m4 n1 n2 n3 n4 : Int,
  ee = .returned (.tuple #[.agg #[.int .i64 a, .int .i64 b, .int .i64 (e * c)], .agg #[.int .i64 e, .int .i64 b, .int .i64 (a * c)], .agg #[.int .i64 m1, .int .i64 m2, .int .i64 m3, .int .i64 m4], .agg #[.int .i64 n1, .int .i64 n2, .int .i64 n3, .int .i64 n4]]) ∧ Below w.heap.size w w'

end Go.Proofs.Ytdhennlanngjgaa
