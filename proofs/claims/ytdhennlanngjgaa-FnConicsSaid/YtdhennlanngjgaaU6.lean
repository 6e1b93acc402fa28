/- Contracts: united forms, by the program. -/
import Derived.Test.YtdhennlanngjgaaUA
import Derived.Deep.DeepCutAuto
import Derived.Deep.LoopGhost
namespace Go.Proofs.Ytdhennlanngjgaa
open Go.RowKit

theorem Blk.put {w : World} {g i : Nat} {ty : TypeId} {cs cs' : Array Value} {u : Value} (h : Blk w g ty cs) (hc : cs.setIfInBounds i u = cs') : Blk (w.setCell ⟨g, i, none⟩ u) g ty cs' := hc ▸ h.set_ i u

end Go.Proofs.Ytdhennlanngjgaa
