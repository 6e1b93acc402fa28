/- Contracts: the composite of two classes, by the program. -/
import Derived.Test.YtifkmjmhhklkjaaU6
namespace Go.Proofs.Ytifkmjmhhklkjaa
open Go.RowKit

set_option maxHeartbeats 800000 in
theorem composite_any (a e b c m1 m2 m3 m4 n1 n2 n3 n4 : Int) (w : World) (h1 : Far (a * e)) :
    Calls Try.prog 141 #[.agg #[.int .i64 a, .int .i64 e, .int .i64 b, .int .i64 c, .int .i64 m1, .int .i64 m2, .int .i64 m3, .int .i64 m4, .int .i64 n1, .int .i64 n2, .int .i64 n3, .int .i64 n4]] w fun ee w' =>
      ee = .returned (.agg #[.int .i64 (a * e), .int .i64 b, .int .i64 c]) ∧ Below w.heap.size w w' := by
  obtain ⟨h1, h2⟩ := h1
  go_enter Try.func141, Try.ntmps141
  go_wp2
  exact bodyPost_ret (v := .agg #[.int .i64 (a * e), .int .i64 b, .int .i64 c]) (by simp [results, Try.results141, go_sem, *]) rfl ⟨rfl, (by repeat (first | with_reducible exact Below.refl _ _ | with_reducible assumption | with_reducible apply Below.drew | with_reducible apply below_drewN | (with_reducible apply below_setp; (first | omega | (simp <;> omega))) | (with_reducible apply below_allocp; (first | omega | (simp <;> omega))) | (with_reducible refine below_viap (by assumption) ?_ ?_; (first | omega | (simp <;> omega)))))⟩

set_option maxHeartbeats 1600000 in
theorem compose_any (d : Int) (f0 g0 f g r : Fm) (w : World) (D : Dsc d) (hf : f ∈ clsL d) (hg : g ∈ clsL d) (hf0 : Def M0 f0) (hg0 : Def M0 g0) (hrf : red f0 = f) (hrg : red g0 = g) (hr : cmp d f g = r) :
    Calls Try.prog 112 #[.agg #[.int .i64 f0.a, .int .i64 f0.b, .int .i64 f0.c], .agg #[.int .i64 g0.a, .int .i64 g0.b, .int .i64 g0.c]] w fun ee w' =>
      ee = .returned (.agg #[.int .i64 r.a, .int .i64 r.b, .int .i64 r.c]) ∧ Below w.heap.size w w' := by
  obtain ⟨x, y, S, Q, T, e, h, k, b, c, t1, t2, u⟩ := ud_ex D hf hg
  have hU := Lib.hid (fun w => unite_any d f g x y S Q T e h k b c t1 t2 w u)
  have hcm := u.cmp
  rw [hr] at hcm
  have hR := Lib.hid (fun w => reduced_any (f.a * e) b c r.a r.b r.c w u.dfn hcm)
  have hF := Lib.hid (fun w => reduced_any f0.a f0.b f0.c f.a f.b f.c w hf0 hrf)
  have hG := Lib.hid (fun w => reduced_any g0.a g0.b g0.c g.a g.b g.c w hg0 hrg)
  obtain ⟨ae1, ae2⟩ := u.ae
  have hC := Lib.hid (fun w => composite_any f.a e b c 1 t1 0 1 (mm x 1 (Q + T * x) 0) (mm x t2 (Q + T * x) 1) (mm y 1 (S + T * y) 0) (mm y t2 (S + T * y) 1) w ⟨by omega, by omega⟩)
  generalize mm x 1 (Q + T * x) 0 = n1 at *
  generalize mm x t2 (Q + T * x) 1 = n2 at *
  generalize mm y 1 (S + T * y) 0 = n3 at *
  generalize mm y t2 (S + T * y) 1 = n4 at *
  clear u hcm hr hrf hrg ae1 ae2
  go_enter Try.func112, Try.ntmps112
  go_wp2
  refine wp_region_calm 7 (Below (w.heap.size + 3) _) (by kernel_rfl) (by kernel_rfl) ((Below.refl _ _).drew) ?_
  simp only [List.take_succ_cons, List.take_zero, List.drop_succ_cons, List.drop_zero]
  repeat (first | (apply wpCalm_go; go_simp; (intro w' hw' hcc hff; go_simp; first | exact rfl | ((with_reducible refine (hF.out _).mono ?_); rintro ee w1 ⟨rfl, hb⟩; exact ⟨rfl, calm_call (by simp <;> omega) hw' hb⟩) | ((with_reducible refine (hG.out _).mono ?_); rintro ee w1 ⟨rfl, hb⟩; exact ⟨rfl, calm_call (by simp <;> omega) hw' hb⟩) | ((with_reducible refine (hU.out _).mono ?_); rintro ee w1 ⟨rfl, hb⟩; exact ⟨rfl, calm_call (by simp <;> omega) hw' hb⟩) | ((with_reducible refine (hC.out _).mono ?_); rintro ee w1 ⟨rfl, hb⟩; exact ⟨rfl, calm_call (by simp <;> omega) hw' hb⟩) | ((with_reducible refine (hR.out _).mono ?_); rintro ee w1 ⟨rfl, hb⟩; exact ⟨rfl, calm_call (by simp <;> omega) hw' hb⟩)); (intro K hK; go_simp; refine hK _ ?_; clear hK K)) | (apply wpCalm_skip; go_simp; (intro K hK; go_simp; refine hK _ ?_; clear hK K)))
  refine wpCalm_nil ?_
  intro w1 hw1
  have hcc := (calm_cells hw1).1
  have hff := (calm_cells hw1).2
  have hss := calm_size hw1
  have hsz := hw1.size
  (try simp at hsz)
  go_wp2
  exact bodyPost_ret (v := .agg #[.int .i64 r.a, .int .i64 r.b, .int .i64 r.c]) (by simp [results, Try.results112, go_sem, *]) rfl ⟨rfl, (by repeat (first | with_reducible exact Below.refl _ _ | with_reducible assumption | with_reducible apply Below.drew | with_reducible apply below_drewN | (with_reducible apply below_setp; (first | omega | (simp <;> omega))) | (with_reducible apply below_allocp; (first | omega | (simp <;> omega))) | (with_reducible refine below_viap (by assumption) ?_ ?_; (first | omega | (simp <;> omega)))))⟩
end Go.Proofs.Ytifkmjmhhklkjaa
