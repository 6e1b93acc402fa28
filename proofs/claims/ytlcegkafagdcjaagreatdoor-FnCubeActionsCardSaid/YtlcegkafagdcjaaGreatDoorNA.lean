/- Parts N2 N3 N4 laid together by tp.py. -/
import Derived.Test.YtlcegkafagdcjaaGreatDoorCA
import Derived.Test.YtlcegkafagdcjaaGreatDoorN1
import Derived.Deep.LoopGhost
namespace Go.Proofs.YtlcegkafagdcjaaGreatDoor
section
open Go.RowKit

set_option maxHeartbeats 400000 in
theorem l1In_any (k a b : Int) (w : World) : Calls Tryz.prog 29 #[.int .i64 k, .int .i64 a, .int .i64 b] w fun e w' => e = .returned (.bool (decide (a ≤ k) && decide (k ≤ b))) ∧ w = w' := by
  by_cases h : a ≤ k
  · go_enter Tryz.func29, Tryz.ntmps29
    go_wp2
    go_ret
    exact ⟨ret_bool (by first | (simp; done) | (simp; omega) | (rw [Bool.eq_iff_iff]; simp; omega) | (simp_all; done) | (simp_all; omega)), rfl⟩
  · go_enter Tryz.func29, Tryz.ntmps29
    go_wp2
    go_ret
    exact ⟨ret_bool (by first | (simp; done) | (simp; omega) | (rw [Bool.eq_iff_iff]; simp; omega) | (simp_all; done) | (simp_all; omega)), rfl⟩
end

section
open Go.RowKit

end

section
open Go.RowKit

end
end Go.Proofs.YtlcegkafagdcjaaGreatDoor
