/- Contracts of the reference: the ambiguous classes. -/
import Derived.Test.YtcijjnjgifoipaaR1
namespace Go.Proofs.Ytcijjnjgifoipaa
open Go.RowKit

set_option maxHeartbeats 400000 in
theorem foOpposite_any (f : Fm) (w : World) (hb : Far f.b) :
    Calls Try.prog 134 #[.agg #[.int .i64 f.a, .int .i64 f.b, .int .i64 f.c]] w fun e w' => e = .returned (.agg #[.int .i64 (oppF f).a, .int .i64 (oppF f).b, .int .i64 (oppF f).c]) ∧ Below w.heap.size w w' := by
  obtain ⟨b1, b2⟩ := hb
  go_enter Try.func134, Try.ntmps134
  go_wp2
  exact bodyPost_ret (v := .agg #[.int .i64 (oppF f).a, .int .i64 (oppF f).b, .int .i64 (oppF f).c]) (by simp [results, Try.results134, go_sem, oppF, *]) rfl ⟨rfl, (by repeat (first | with_reducible exact Below.refl _ _ | with_reducible assumption | with_reducible apply Below.drew | with_reducible apply below_drewN | (with_reducible apply below_setp; (first | omega | (simp <;> omega))) | (with_reducible apply below_allocp; (first | omega | (simp <;> omega))) | (with_reducible refine below_viap (by assumption) ?_ ?_; (first | omega | (simp <;> omega)))))⟩

set_option maxHeartbeats 800000 in
theorem coInverse_any (d : Int) (f r : Fm) (w : World) (D : Dsc d) (hf : f ∈ clsL d) (hr : red (oppF f) = r) :
    Calls Try.prog 112 #[.agg #[.int .i64 f.a, .int .i64 f.b, .int .i64 f.c]] w fun e w' => e = .returned (.agg #[.int .i64 r.a, .int .i64 r.b, .int .i64 r.c]) ∧ Below w.heap.size w w' := by
  have cf := CF.opp D hf
  rw [hr] at cf
  obtain ⟨_, ⟨B1, B2⟩, _⟩ := cls_bd D.lo hf
  have hO := Lib.hid (fun w => foOpposite_any f w ⟨by omega, by omega⟩)
  have hR := Lib.hid (fun w => reClass_cf d (oppF f) r w cf)
  generalize oppF f = o at *
  clear cf hr
  go_enter Try.func112, Try.ntmps112
  go_wp2_with (first | (go_at_call 134; (with_reducible refine (hO.out _).mono ?_); rintro e v1 ⟨rfl, hB1⟩; have hZ1 := hB1.size; (try simp at hZ1); (try have zl1 : w.heap.size < v1.heap.size := by omega); (try have ze1 : w.heap.size ≤ v1.heap.size := by omega); (try have zn1 : ¬ w.heap.size = v1.heap.size := by omega); (try have zm1 : ¬ v1.heap.size = w.heap.size := by omega); have hC1_0 := fun o => (calm_cells hB1).1 (w.heap.size) o (by first | omega | (simp <;> omega)); have hF1_0 := fun o => (calm_cells hB1).2 (w.heap.size) o (by first | omega | (simp <;> omega)); (try have hl1_0 : w.heap.size < v1.heap.size := by omega); (try have hm1_0 : ¬ w.heap.size = v1.heap.size := by omega); (try have hn1_0 : ¬ v1.heap.size = w.heap.size := by omega); have hC1_1 := fun o => (calm_cells hB1).1 (w.heap.size + 1) o (by first | omega | (simp <;> omega)); have hF1_1 := fun o => (calm_cells hB1).2 (w.heap.size + 1) o (by first | omega | (simp <;> omega)); (try have hl1_1 : w.heap.size + 1 < v1.heap.size := by omega); (try have hm1_1 : ¬ w.heap.size + 1 = v1.heap.size := by omega); (try have hn1_1 : ¬ v1.heap.size = w.heap.size + 1 := by omega)) | (go_at_call 72; (with_reducible refine (hR.out _).mono ?_); rintro e v2 ⟨rfl, hB2⟩; have hZ2 := hB2.size; (try simp at hZ2); (try have zl2 : w.heap.size < v2.heap.size := by omega); (try have ze2 : w.heap.size ≤ v2.heap.size := by omega); (try have zn2 : ¬ w.heap.size = v2.heap.size := by omega); (try have zm2 : ¬ v2.heap.size = w.heap.size := by omega); have hC2_0 := fun o => (calm_cells hB2).1 (w.heap.size) o (by first | omega | (simp <;> omega)); have hF2_0 := fun o => (calm_cells hB2).2 (w.heap.size) o (by first | omega | (simp <;> omega)); (try have hl2_0 : w.heap.size < v2.heap.size := by omega); (try have hm2_0 : ¬ w.heap.size = v2.heap.size := by omega); (try have hn2_0 : ¬ v2.heap.size = w.heap.size := by omega); have hC2_1 := fun o => (calm_cells hB2).1 (w.heap.size + 1) o (by first | omega | (simp <;> omega)); have hF2_1 := fun o => (calm_cells hB2).2 (w.heap.size + 1) o (by first | omega | (simp <;> omega)); (try have hl2_1 : w.heap.size + 1 < v2.heap.size := by omega); (try have hm2_1 : ¬ w.heap.size + 1 = v2.heap.size := by omega); (try have hn2_1 : ¬ v2.heap.size = w.heap.size + 1 := by omega)))
  exact bodyPost_ret (v := .agg #[.int .i64 r.a, .int .i64 r.b, .int .i64 r.c]) (by simp [results, Try.results112, go_sem, *]) rfl ⟨rfl, (by repeat (first | with_reducible exact Below.refl _ _ | with_reducible assumption | with_reducible apply Below.drew | with_reducible apply below_drewN | (with_reducible apply below_setp; (first | omega | (simp <;> omega))) | (with_reducible apply below_allocp; (first | omega | (simp <;> omega))) | (with_reducible refine below_viap (by assumption) ?_ ?_; (first | omega | (simp <;> omega)))))⟩

end Go.Proofs.Ytcijjnjgifoipaa
