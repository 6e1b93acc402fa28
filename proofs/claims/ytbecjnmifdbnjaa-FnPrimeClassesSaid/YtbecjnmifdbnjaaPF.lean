/- Contracts: powers of classes with exponents of either sign. -/
import Derived.Test.YtbecjnmifdbnjaaPC
import Derived.Test.YtbecjnmifdbnjaaR2
import Derived.Test.YtbecjnmifdbnjaaSX
import Derived.Test.YtbecjnmifdbnjaaOP
namespace Go.Proofs.Ytbecjnmifdbnjaa
open Go.RowKit

/-- The power of a class, with an exponent of either sign. -/
noncomputable def pwZ (d : Int) (f : Fm) (e : Int) : Fm := if 0 ≤ e then pw d f e.toNat else pw d (red (oppF f)) (-e).toNat

set_option maxHeartbeats 400000 in
theorem opposite_any (f : Fm) (w : World) (hb : Far f.b) :
    Calls Try.prog 143 #[.agg #[.int .i64 f.a, .int .i64 f.b, .int .i64 f.c]] w fun e w' => e = .returned (.agg #[.int .i64 (oppF f).a, .int .i64 (oppF f).b, .int .i64 (oppF f).c]) ∧ Below w.heap.size w w' := by
  obtain ⟨b1, b2⟩ := hb
  go_enter Try.func143, Try.ntmps143
  go_wp2
  exact bodyPost_ret (v := .agg #[.int .i64 (oppF f).a, .int .i64 (oppF f).b, .int .i64 (oppF f).c]) (by simp [results, Try.results143, go_sem, oppF, *]) rfl ⟨rfl, (by repeat (first | with_reducible exact Below.refl _ _ | with_reducible assumption | with_reducible apply Below.drew | with_reducible apply below_drewN | (with_reducible apply below_setp; (first | omega | (simp <;> omega))) | (with_reducible apply below_allocp; (first | omega | (simp <;> omega))) | (with_reducible refine below_viap (by assumption) ?_ ?_; (first | omega | (simp <;> omega)))))⟩

theorem pwZ_mem {d : Int} {f : Fm} (D : Dsc d) (hf : f ∈ clsL d) (k : Int) : pwZ d f k ∈ clsL d := by
  unfold pwZ
  split
  · exact D.pwm hf _
  · exact D.pwm (D.opp_mem hf (CF.of_mem D hf).df) _
end Go.Proofs.Ytbecjnmifdbnjaa
