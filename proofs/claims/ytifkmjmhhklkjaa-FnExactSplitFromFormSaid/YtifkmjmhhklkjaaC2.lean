/- Contracts of the functions on forms: values, substitution, products of matrices, the reduction. -/
import Derived.Test.YtifkmjmhhklkjaaC1
import Derived.Test.YtifkmjmhhklkjaaR0
namespace Go.Proofs.Ytifkmjmhhklkjaa
open Go.RowKit

/-- An integer far from the ends. -/
def Far (x : Int) : Prop := -2000000000000000000 ≤ x ∧ x ≤ 2000000000000000000

structure AtOK (a b c x y : Int) : Prop where
  h1 : Far (a * x)
  h2 : Far (a * x * x)
  h3 : Far (b * x)
  h4 : Far (b * x * y)
  h5 : Far (c * y)
  h6 : Far (c * y * y)

structure PolOK (a b c x y u v : Int) : Prop where
  h0 : Far (2 * a)
  h1 : Far (2 * a * x)
  h2 : Far (2 * a * x * u)
  h3 : Far (x * v)
  h4 : Far (y * u)
  h5 : Far (b * (x * v + y * u))
  h6 : Far (2 * c)
  h7 : Far (2 * c * y)
  h8 : Far (2 * c * y * v)

def atF (a b c x y : Int) : Int := a * x * x + b * x * y + c * y * y
def polF (a b c x y u v : Int) : Int := 2 * a * x * u + b * (x * v + y * u) + 2 * c * y * v

set_option maxHeartbeats 400000 in
theorem at_any (a b c x y : Int) (w : World) (h : AtOK a b c x y) :
    Calls Try.prog 103 #[.agg #[.int .i64 a, .int .i64 b, .int .i64 c], .int .i64 x, .int .i64 y] w fun e w' => e = .returned (.int .i64 (atF a b c x y)) ∧ Below w.heap.size w w' := by
  obtain ⟨⟨h1, k1⟩, ⟨h2, k2⟩, ⟨h3, k3⟩, ⟨h4, k4⟩, ⟨h5, k5⟩, ⟨h6, k6⟩⟩ := h
  go_enter Try.func103, Try.ntmps103
  go_wp2
  go_ret
  exact ⟨ret_int rfl, (by repeat (first | with_reducible exact Below.refl _ _ | with_reducible assumption | with_reducible apply Below.drew | with_reducible apply below_drewN | (with_reducible apply below_setp; (first | omega | (simp <;> omega))) | (with_reducible apply below_allocp; (first | omega | (simp <;> omega))) | (with_reducible refine below_viap (by assumption) ?_ ?_; (first | omega | (simp <;> omega)))))⟩

set_option maxHeartbeats 400000 in
theorem foValue_any (a b c x y : Int) (w : World) (h : AtOK a b c x y) :
    Calls Try.prog 134 #[.agg #[.int .i64 a, .int .i64 b, .int .i64 c], .int .i64 x, .int .i64 y] w fun e w' => e = .returned (.int .i64 (atF a b c x y)) ∧ Below w.heap.size w w' := by
  obtain ⟨⟨h1, k1⟩, ⟨h2, k2⟩, ⟨h3, k3⟩, ⟨h4, k4⟩, ⟨h5, k5⟩, ⟨h6, k6⟩⟩ := h
  go_enter Try.func134, Try.ntmps134
  go_wp2
  go_ret
  exact ⟨ret_int rfl, (by repeat (first | with_reducible exact Below.refl _ _ | with_reducible assumption | with_reducible apply Below.drew | with_reducible apply below_drewN | (with_reducible apply below_setp; (first | omega | (simp <;> omega))) | (with_reducible apply below_allocp; (first | omega | (simp <;> omega))) | (with_reducible refine below_viap (by assumption) ?_ ?_; (first | omega | (simp <;> omega)))))⟩

set_option maxHeartbeats 400000 in
theorem polar_any (a b c x y u v : Int) (w : World) (h : PolOK a b c x y u v) :
    Calls Try.prog 147 #[.agg #[.int .i64 a, .int .i64 b, .int .i64 c], .int .i64 x, .int .i64 y, .int .i64 u, .int .i64 v] w fun e w' => e = .returned (.int .i64 (polF a b c x y u v)) ∧ Below w.heap.size w w' := by
  obtain ⟨⟨h0, k0⟩, ⟨h1, k1⟩, ⟨h2, k2⟩, ⟨h3, k3⟩, ⟨h4, k4⟩, ⟨h5, k5⟩, ⟨h6, k6⟩, ⟨h7, k7⟩, ⟨h8, k8⟩⟩ := h
  go_enter Try.func147, Try.ntmps147
  go_wp2
  go_ret
  exact ⟨ret_int rfl, (by repeat (first | with_reducible exact Below.refl _ _ | with_reducible assumption | with_reducible apply Below.drew | with_reducible apply below_drewN | (with_reducible apply below_setp; (first | omega | (simp <;> omega))) | (with_reducible apply below_allocp; (first | omega | (simp <;> omega))) | (with_reducible refine below_viap (by assumption) ?_ ?_; (first | omega | (simp <;> omega)))))⟩

set_option maxHeartbeats 400000 in
theorem foPolar_any (a b c x y u v : Int) (w : World) (h : PolOK a b c x y u v) :
    Calls Try.prog 144 #[.agg #[.int .i64 a, .int .i64 b, .int .i64 c], .int .i64 x, .int .i64 y, .int .i64 u, .int .i64 v] w fun e w' => e = .returned (.int .i64 (polF a b c x y u v)) ∧ Below w.heap.size w w' := by
  obtain ⟨⟨h0, k0⟩, ⟨h1, k1⟩, ⟨h2, k2⟩, ⟨h3, k3⟩, ⟨h4, k4⟩, ⟨h5, k5⟩, ⟨h6, k6⟩, ⟨h7, k7⟩, ⟨h8, k8⟩⟩ := h
  go_enter Try.func144, Try.ntmps144
  go_wp2
  go_ret
  exact ⟨ret_int rfl, (by repeat (first | with_reducible exact Below.refl _ _ | with_reducible assumption | with_reducible apply Below.drew | with_reducible apply below_drewN | (with_reducible apply below_setp; (first | omega | (simp <;> omega))) | (with_reducible apply below_allocp; (first | omega | (simp <;> omega))) | (with_reducible refine below_viap (by assumption) ?_ ?_; (first | omega | (simp <;> omega)))))⟩


set_option maxHeartbeats 800000 in
theorem substitute_any (a b c p q r s : Int) (w : World) (h1 : AtOK a b c p r) (h2 : PolOK a b c p r q s) (h3 : AtOK a b c q s) :
    Calls Try.prog 124 #[.agg #[.int .i64 a, .int .i64 b, .int .i64 c], .agg #[.int .i64 p, .int .i64 q, .int .i64 r, .int .i64 s]] w fun e w' =>
      e = .returned (.agg #[.int .i64 (atF a b c p r), .int .i64 (polF a b c p r q s), .int .i64 (atF a b c q s)]) ∧ Below w.heap.size w w' := by
  go_enter Try.func124, Try.ntmps124
  go_wp2
  refine wp_region_calm 23 (Below (w.heap.size + 3) _) (by kernel_rfl) (by kernel_rfl) ((Below.refl _ _).drew) ?_
  simp only [List.take_succ_cons, List.take_zero, List.drop_succ_cons, List.drop_zero]
  repeat (first | (apply wpCalm_go; go_simp; (intro w' hw' hcc hff; go_simp; first | exact rfl | (refine (at_any a b c _ _ _ ?_).mono ?_; (first | exact h1 | exact h3); rintro e w1 ⟨rfl, hb⟩; exact ⟨rfl, calm_call (by simp <;> omega) hw' hb⟩) | (refine (polar_any a b c _ _ _ _ _ h2).mono ?_; rintro e w1 ⟨rfl, hb⟩; exact ⟨rfl, calm_call (by simp <;> omega) hw' hb⟩)); (intro K hK; go_simp; refine hK _ ?_; clear hK K)) | (apply wpCalm_skip; go_simp; (intro K hK; go_simp; refine hK _ ?_; clear hK K)))
  refine wpCalm_nil ?_
  intro w1 hw1
  have hcc := (calm_cells hw1).1
  have hff := (calm_cells hw1).2
  have hss := calm_size hw1
  have hsz := hw1.size
  (try simp at hsz)
  go_wp2
  exact bodyPost_ret (v := .agg #[.int .i64 (atF a b c p r), .int .i64 (polF a b c p r q s), .int .i64 (atF a b c q s)]) (by simp [results, Try.results124, go_sem, *]) rfl ⟨rfl, (by repeat (first | with_reducible exact Below.refl _ _ | with_reducible assumption | with_reducible apply Below.drew | with_reducible apply below_drewN | (with_reducible apply below_setp; (first | omega | (simp <;> omega))) | (with_reducible apply below_allocp; (first | omega | (simp <;> omega))) | (with_reducible refine below_viap (by assumption) ?_ ?_; (first | omega | (simp <;> omega)))))⟩

set_option maxHeartbeats 800000 in
theorem foAct_any (a b c p q r s : Int) (w : World) (h1 : AtOK a b c p r) (h2 : PolOK a b c p r q s) (h3 : AtOK a b c q s) :
    Calls Try.prog 118 #[.agg #[.int .i64 a, .int .i64 b, .int .i64 c], .agg #[.int .i64 p, .int .i64 q, .int .i64 r, .int .i64 s]] w fun e w' =>
      e = .returned (.agg #[.int .i64 (atF a b c p r), .int .i64 (polF a b c p r q s), .int .i64 (atF a b c q s)]) ∧ Below w.heap.size w w' := by
  go_enter Try.func118, Try.ntmps118
  go_wp2
  refine wp_region_calm 23 (Below (w.heap.size + 3) _) (by kernel_rfl) (by kernel_rfl) ((Below.refl _ _).drew) ?_
  simp only [List.take_succ_cons, List.take_zero, List.drop_succ_cons, List.drop_zero]
  repeat (first | (apply wpCalm_go; go_simp; (intro w' hw' hcc hff; go_simp; first | exact rfl | (refine (foValue_any a b c _ _ _ ?_).mono ?_; (first | exact h1 | exact h3); rintro e w1 ⟨rfl, hb⟩; exact ⟨rfl, calm_call (by simp <;> omega) hw' hb⟩) | (refine (foPolar_any a b c _ _ _ _ _ h2).mono ?_; rintro e w1 ⟨rfl, hb⟩; exact ⟨rfl, calm_call (by simp <;> omega) hw' hb⟩)); (intro K hK; go_simp; refine hK _ ?_; clear hK K)) | (apply wpCalm_skip; go_simp; (intro K hK; go_simp; refine hK _ ?_; clear hK K)))
  refine wpCalm_nil ?_
  intro w1 hw1
  have hcc := (calm_cells hw1).1
  have hff := (calm_cells hw1).2
  have hss := calm_size hw1
  have hsz := hw1.size
  (try simp at hsz)
  go_wp2
  exact bodyPost_ret (v := .agg #[.int .i64 (atF a b c p r), .int .i64 (polF a b c p r q s), .int .i64 (atF a b c q s)]) (by simp [results, Try.results118, go_sem, *]) rfl ⟨rfl, (by repeat (first | with_reducible exact Below.refl _ _ | with_reducible assumption | with_reducible apply Below.drew | with_reducible apply below_drewN | (with_reducible apply below_setp; (first | omega | (simp <;> omega))) | (with_reducible apply below_allocp; (first | omega | (simp <;> omega))) | (with_reducible refine below_viap (by assumption) ?_ ?_; (first | omega | (simp <;> omega)))))⟩

/-- An entry of a product of matrices, as Go reckons it. -/
def mm (a b c d : Int) : Int := wrap64 (wrap64 (a * b) + wrap64 (c * d))

set_option maxHeartbeats 800000 in
theorem times_any (p q r s p' q' r' s' : Int) (w : World) :
    Calls Try.prog 125 #[.agg #[.int .i64 p, .int .i64 q, .int .i64 r, .int .i64 s], .agg #[.int .i64 p', .int .i64 q', .int .i64 r', .int .i64 s']] w fun e w' =>
      e = .returned (.agg #[.int .i64 (mm p p' q r'), .int .i64 (mm p q' q s'), .int .i64 (mm r p' s r'), .int .i64 (mm r q' s s')]) ∧ Below w.heap.size w w' := by
  go_enter Try.func125, Try.ntmps125
  go_wp2
  exact bodyPost_ret (v := .agg #[.int .i64 (mm p p' q r'), .int .i64 (mm p q' q s'), .int .i64 (mm r p' s r'), .int .i64 (mm r q' s s')]) (by simp [results, Try.results125, go_sem, mm, *]) rfl ⟨rfl, (by repeat (first | with_reducible exact Below.refl _ _ | with_reducible assumption | with_reducible apply Below.drew | with_reducible apply below_drewN | (with_reducible apply below_setp; (first | omega | (simp <;> omega))) | (with_reducible apply below_allocp; (first | omega | (simp <;> omega))) | (with_reducible refine below_viap (by assumption) ?_ ?_; (first | omega | (simp <;> omega)))))⟩

set_option maxHeartbeats 800000 in
theorem foMul_any (p q r s p' q' r' s' : Int) (w : World) :
    Calls Try.prog 119 #[.agg #[.int .i64 p, .int .i64 q, .int .i64 r, .int .i64 s], .agg #[.int .i64 p', .int .i64 q', .int .i64 r', .int .i64 s']] w fun e w' =>
      e = .returned (.agg #[.int .i64 (mm p p' q r'), .int .i64 (mm p q' q s'), .int .i64 (mm r p' s r'), .int .i64 (mm r q' s s')]) ∧ Below w.heap.size w w' := by
  go_enter Try.func119, Try.ntmps119
  go_wp2
  exact bodyPost_ret (v := .agg #[.int .i64 (mm p p' q r'), .int .i64 (mm p q' q s'), .int .i64 (mm r p' s r'), .int .i64 (mm r q' s s')]) (by simp [results, Try.results119, go_sem, mm, *]) rfl ⟨rfl, (by repeat (first | with_reducible exact Below.refl _ _ | with_reducible assumption | with_reducible apply Below.drew | with_reducible apply below_drewN | (with_reducible apply below_setp; (first | omega | (simp <;> omega))) | (with_reducible apply below_allocp; (first | omega | (simp <;> omega))) | (with_reducible refine below_viap (by assumption) ?_ ?_; (first | omega | (simp <;> omega)))))⟩

set_option maxHeartbeats 400000 in
theorem one_any (w : World) : Calls Try.prog 121 #[] w fun e w' => e = .returned (.agg #[.int .i64 1, .int .i64 0, .int .i64 0, .int .i64 1]) ∧ Below w.heap.size w w' := by
  go_enter Try.func121, Try.ntmps121
  go_wp2
  exact bodyPost_ret (v := .agg #[.int .i64 1, .int .i64 0, .int .i64 0, .int .i64 1]) (by simp [results, Try.results121, go_sem, *]) rfl ⟨rfl, (by repeat (first | with_reducible exact Below.refl _ _ | with_reducible assumption | with_reducible apply Below.drew | with_reducible apply below_drewN | (with_reducible apply below_setp; (first | omega | (simp <;> omega))) | (with_reducible apply below_allocp; (first | omega | (simp <;> omega))) | (with_reducible refine below_viap (by assumption) ?_ ?_; (first | omega | (simp <;> omega)))))⟩

set_option maxHeartbeats 400000 in
theorem isNormal_any (a b c : Int) (w : World) (ha : 0 < a) (ha2 : a ≤ 2000000000000000000) :
    Calls Try.prog 145 #[.agg #[.int .i64 a, .int .i64 b, .int .i64 c]] w fun e w' => e = .returned (.bool (isNorm a b)) ∧ Below w.heap.size w w' := by
  have hn := isNorm_iff a b
  by_cases h1 : -a < b
  · by_cases h2 : b ≤ a
    · rw [hn.2 ⟨h1, h2⟩]; clear hn
      go_enter Try.func145, Try.ntmps145
      go_wp2
      go_ret
      exact ⟨rfl, (by repeat (first | with_reducible exact Below.refl _ _ | with_reducible assumption | with_reducible apply Below.drew | with_reducible apply below_drewN | (with_reducible apply below_setp; (first | omega | (simp <;> omega))) | (with_reducible apply below_allocp; (first | omega | (simp <;> omega))) | (with_reducible refine below_viap (by assumption) ?_ ?_; (first | omega | (simp <;> omega)))))⟩
    · rw [(isNorm_false a b).2 (fun h => h2 h.2)]; clear hn
      go_enter Try.func145, Try.ntmps145
      go_wp2
      go_ret
      exact ⟨rfl, (by repeat (first | with_reducible exact Below.refl _ _ | with_reducible assumption | with_reducible apply Below.drew | with_reducible apply below_drewN | (with_reducible apply below_setp; (first | omega | (simp <;> omega))) | (with_reducible apply below_allocp; (first | omega | (simp <;> omega))) | (with_reducible refine below_viap (by assumption) ?_ ?_; (first | omega | (simp <;> omega)))))⟩
  · rw [(isNorm_false a b).2 (fun h => h1 h.1)]; clear hn
    go_enter Try.func145, Try.ntmps145
    go_wp2
    go_ret
    exact ⟨rfl, (by repeat (first | with_reducible exact Below.refl _ _ | with_reducible assumption | with_reducible apply Below.drew | with_reducible apply below_drewN | (with_reducible apply below_setp; (first | omega | (simp <;> omega))) | (with_reducible apply below_allocp; (first | omega | (simp <;> omega))) | (with_reducible refine below_viap (by assumption) ?_ ?_; (first | omega | (simp <;> omega)))))⟩
end Go.Proofs.Ytifkmjmhhklkjaa
