/- Contracts: OrderOf, IsIdentity, InverseForm, PrimeClass of the program; the law's sums. -/
import Derived.Test.YtbecjnmifdbnjaaPF
import Derived.Test.YtbecjnmifdbnjaaGU
namespace Go.Proofs.Ytbecjnmifdbnjaa
open Go.RowKit


set_option maxHeartbeats 800000 in
theorem invF_any (d : Int) (p : Fm) (w : World) (D : Dsc d) (hp : p ∈ clsL d) :
    Calls Try.prog 56 #[.agg #[.int .i64 p.a, .int .i64 p.b, .int .i64 p.c]] w fun e w' => e = .returned (.tuple #[.agg #[.int .i64 (red (oppF p)).a, .int .i64 (red (oppF p)).b, .int .i64 (red (oppF p)).c], .bool true]) ∧ Below w.heap.size w w' := by
  have hc := cls_isCls D hp
  have cf := CF.opp D hp
  obtain ⟨_, ⟨B1, B2⟩, _⟩ := cls_bd D.lo hp
  have hO := Lib.hid (fun w => opposite_any p w ⟨by omega, by omega⟩)
  have hR := Lib.hid (fun w => reduced_any (oppF p).a (oppF p).b (oppF p).c (red (oppF p)).a (red (oppF p)).b (red (oppF p)).c w cf.df rfl)
  generalize red (oppF p) = r at *
  generalize oppF p = o at *
  clear cf
  go_enter Try.func56, Try.ntmps56
  go_wp2_with (first | (go_at_call 142; (with_reducible refine (icls_any p.a p.b p.c _).mono ?_); rw [hc]; rintro e v1 ⟨rfl, hB1⟩; have hZ1 := hB1.size; (try simp at hZ1); (try have zl1 : w.heap.size < v1.heap.size := by omega); (try have ze1 : w.heap.size ≤ v1.heap.size := by omega); (try have zn1 : ¬ w.heap.size = v1.heap.size := by omega); (try have zm1 : ¬ v1.heap.size = w.heap.size := by omega); have hC1_0 := fun o => (calm_cells hB1).1 (w.heap.size) o (by first | omega | (simp <;> omega)); have hF1_0 := fun o => (calm_cells hB1).2 (w.heap.size) o (by first | omega | (simp <;> omega)); (try have hl1_0 : w.heap.size < v1.heap.size := by omega); (try have hm1_0 : ¬ w.heap.size = v1.heap.size := by omega); (try have hn1_0 : ¬ v1.heap.size = w.heap.size := by omega); have hC1_1 := fun o => (calm_cells hB1).1 (w.heap.size + 1) o (by first | omega | (simp <;> omega)); have hF1_1 := fun o => (calm_cells hB1).2 (w.heap.size + 1) o (by first | omega | (simp <;> omega)); (try have hl1_1 : w.heap.size + 1 < v1.heap.size := by omega); (try have hm1_1 : ¬ w.heap.size + 1 = v1.heap.size := by omega); (try have hn1_1 : ¬ v1.heap.size = w.heap.size + 1 := by omega)) | (go_at_call 143; (with_reducible refine (hO.out _).mono ?_); rintro e v2 ⟨rfl, hB2⟩; have hZ2 := hB2.size; (try simp at hZ2); (try have zl2 : w.heap.size < v2.heap.size := by omega); (try have ze2 : w.heap.size ≤ v2.heap.size := by omega); (try have zn2 : ¬ w.heap.size = v2.heap.size := by omega); (try have zm2 : ¬ v2.heap.size = w.heap.size := by omega); have hC2_0 := fun o => (calm_cells hB2).1 (w.heap.size) o (by first | omega | (simp <;> omega)); have hF2_0 := fun o => (calm_cells hB2).2 (w.heap.size) o (by first | omega | (simp <;> omega)); (try have hl2_0 : w.heap.size < v2.heap.size := by omega); (try have hm2_0 : ¬ w.heap.size = v2.heap.size := by omega); (try have hn2_0 : ¬ v2.heap.size = w.heap.size := by omega); have hC2_1 := fun o => (calm_cells hB2).1 (w.heap.size + 1) o (by first | omega | (simp <;> omega)); have hF2_1 := fun o => (calm_cells hB2).2 (w.heap.size + 1) o (by first | omega | (simp <;> omega)); (try have hl2_1 : w.heap.size + 1 < v2.heap.size := by omega); (try have hm2_1 : ¬ w.heap.size + 1 = v2.heap.size := by omega); (try have hn2_1 : ¬ v2.heap.size = w.heap.size + 1 := by omega)) | (go_at_call 113; (with_reducible refine (hR.out _).mono ?_); rintro e v3 ⟨rfl, hB3⟩; have hZ3 := hB3.size; (try simp at hZ3); (try have zl3 : w.heap.size < v3.heap.size := by omega); (try have ze3 : w.heap.size ≤ v3.heap.size := by omega); (try have zn3 : ¬ w.heap.size = v3.heap.size := by omega); (try have zm3 : ¬ v3.heap.size = w.heap.size := by omega); have hC3_0 := fun o => (calm_cells hB3).1 (w.heap.size) o (by first | omega | (simp <;> omega)); have hF3_0 := fun o => (calm_cells hB3).2 (w.heap.size) o (by first | omega | (simp <;> omega)); (try have hl3_0 : w.heap.size < v3.heap.size := by omega); (try have hm3_0 : ¬ w.heap.size = v3.heap.size := by omega); (try have hn3_0 : ¬ v3.heap.size = w.heap.size := by omega); have hC3_1 := fun o => (calm_cells hB3).1 (w.heap.size + 1) o (by first | omega | (simp <;> omega)); have hF3_1 := fun o => (calm_cells hB3).2 (w.heap.size + 1) o (by first | omega | (simp <;> omega)); (try have hl3_1 : w.heap.size + 1 < v3.heap.size := by omega); (try have hm3_1 : ¬ w.heap.size + 1 = v3.heap.size := by omega); (try have hn3_1 : ¬ v3.heap.size = w.heap.size + 1 := by omega)))
  exact bodyPost_ret (v := .tuple #[.agg #[.int .i64 r.a, .int .i64 r.b, .int .i64 r.c], .bool true]) (by simp [results, Try.results56, go_sem, *]) rfl ⟨rfl, (by repeat (first | with_reducible exact Below.refl _ _ | with_reducible assumption | with_reducible apply Below.drew | with_reducible apply below_drewN | (with_reducible apply below_setp; (first | omega | (simp <;> omega))) | (with_reducible apply below_allocp; (first | omega | (simp <;> omega))) | (with_reducible refine below_viap (by assumption) ?_ ?_; (first | omega | (simp <;> omega)))))⟩

set_option maxHeartbeats 800000 in
theorem primeC_any (d z : Int) (f : Fm) (w : World) (h : prF d z = some f) :
    Calls Try.prog 52 #[.int .i64 d, .int .i64 z] w fun e w' => e = .returned (.tuple #[.agg #[.int .i64 (red f).a, .int .i64 (red f).b, .int .i64 (red f).c], .bool true]) ∧ Below w.heap.size w w' := by
  have cf := prF_cf h
  have hP := Lib.hid (fun w => implPF_any d z w)
  rw [h] at hP
  dsimp only [pfV, Option.isSome_some, Option.getD_some] at hP
  have hR := Lib.hid (fun w => reduced_any f.a f.b f.c (red f).a (red f).b (red f).c w cf.df rfl)
  generalize red f = r at *
  clear cf h
  go_enter Try.func52, Try.ntmps52
  go_wp2_with (first | (go_at_call 60; (with_reducible refine (hP.out _).mono ?_); rintro e v1 ⟨rfl, hB1⟩; have hZ1 := hB1.size; (try simp at hZ1); (try have zl1 : w.heap.size < v1.heap.size := by omega); (try have ze1 : w.heap.size ≤ v1.heap.size := by omega); (try have zn1 : ¬ w.heap.size = v1.heap.size := by omega); (try have zm1 : ¬ v1.heap.size = w.heap.size := by omega); have hC1_0 := fun o => (calm_cells hB1).1 (w.heap.size) o (by first | omega | (simp <;> omega)); have hF1_0 := fun o => (calm_cells hB1).2 (w.heap.size) o (by first | omega | (simp <;> omega)); (try have hl1_0 : w.heap.size < v1.heap.size := by omega); (try have hm1_0 : ¬ w.heap.size = v1.heap.size := by omega); (try have hn1_0 : ¬ v1.heap.size = w.heap.size := by omega)) | (go_at_call 113; (with_reducible refine (hR.out _).mono ?_); rintro e v2 ⟨rfl, hB2⟩; have hZ2 := hB2.size; (try simp at hZ2); (try have zl2 : w.heap.size < v2.heap.size := by omega); (try have ze2 : w.heap.size ≤ v2.heap.size := by omega); (try have zn2 : ¬ w.heap.size = v2.heap.size := by omega); (try have zm2 : ¬ v2.heap.size = w.heap.size := by omega); have hC2_0 := fun o => (calm_cells hB2).1 (w.heap.size) o (by first | omega | (simp <;> omega)); have hF2_0 := fun o => (calm_cells hB2).2 (w.heap.size) o (by first | omega | (simp <;> omega)); (try have hl2_0 : w.heap.size < v2.heap.size := by omega); (try have hm2_0 : ¬ w.heap.size = v2.heap.size := by omega); (try have hn2_0 : ¬ v2.heap.size = w.heap.size := by omega)))
  exact bodyPost_ret (v := .tuple #[.agg #[.int .i64 r.a, .int .i64 r.b, .int .i64 r.c], .bool true]) (by simp [results, Try.results52, go_sem, *]) rfl ⟨rfl, (by repeat (first | with_reducible exact Below.refl _ _ | with_reducible assumption | with_reducible apply Below.drew | with_reducible apply below_drewN | (with_reducible apply below_setp; (first | omega | (simp <;> omega))) | (with_reducible apply below_allocp; (first | omega | (simp <;> omega))) | (with_reducible refine below_viap (by assumption) ?_ ?_; (first | omega | (simp <;> omega)))))⟩

theorem sum_bd : ∀ (E : List Int), (∀ e ∈ E, 0 ≤ e ∧ e ≤ 650) → 0 ≤ E.sum ∧ E.sum ≤ 650 * E.length
  | [], _ => by simp
  | x :: E, h => by
    have h1 := h x (by simp)
    have h2 := sum_bd E (fun e he => h e (List.mem_cons_of_mem _ he))
    rw [List.sum_cons, List.length_cons]
    omega
end Go.Proofs.Ytbecjnmifdbnjaa
