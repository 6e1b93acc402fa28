/- Contracts of the reference: the ambiguous classes. -/
import Derived.Test.YtlcegkafagdcjaaGreatDoorR1
namespace Go.Proofs.YtlcegkafagdcjaaGreatDoor
open Go.RowKit

set_option maxHeartbeats 400000 in
theorem foOpposite_any (f : Fm) (w : World) (hb : Far f.b) :
    Calls Tryz.prog 90 #[.agg #[.int .i64 f.a, .int .i64 f.b, .int .i64 f.c]] w fun e w' => e = .returned (.agg #[.int .i64 (oppF f).a, .int .i64 (oppF f).b, .int .i64 (oppF f).c]) ∧ Below w.heap.size w w' := by
  obtain ⟨b1, b2⟩ := hb
  go_enter Tryz.func90, Tryz.ntmps90
  go_wp2
  exact bodyPost_ret (v := .agg #[.int .i64 (oppF f).a, .int .i64 (oppF f).b, .int .i64 (oppF f).c]) (by simp [results, Tryz.results90, go_sem, oppF, *]) rfl ⟨rfl, (by repeat (first | with_reducible exact Below.refl _ _ | with_reducible assumption | with_reducible apply Below.drew | with_reducible apply below_drewN | (with_reducible apply below_setp; (first | omega | (simp <;> omega))) | (with_reducible apply below_allocp; (first | omega | (simp <;> omega))) | (with_reducible refine below_viap (by assumption) ?_ ?_; (first | omega | (simp <;> omega)))))⟩

end Go.Proofs.YtlcegkafagdcjaaGreatDoor
