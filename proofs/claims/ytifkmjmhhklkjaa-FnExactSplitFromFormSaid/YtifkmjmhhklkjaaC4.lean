/- Contracts of the reduction of definite forms: the loop. -/
import Derived.Test.YtifkmjmhhklkjaaC3
import Derived.Test.YtifkmjmhhklkjaaW1
import Derived.BigRegion
import Derived.RegionTactic
namespace Go.Proofs.Ytifkmjmhhklkjaa
open Go.RowKit

set_option maxHeartbeats 800000 in
/-- The step of a form that is not reduced. -/
theorem reMove_any (a b c : Int) (w : World) (ha : 0 < a) (ha2 : a ≤ 1000000000000000000) (hb1 : -1000000000000000000 ≤ b) (hb2 : b ≤ 1000000000000000000) (hr : isRed a b c = false) :
    Calls Try.prog 117 #[.agg #[.int .i64 a, .int .i64 b, .int .i64 c]] w fun e w' =>
      e = .returned (.agg #[.int .i64 (if isNorm a b then 0 else 1), .int .i64 (if isNorm a b then -1 else tr a b), .int .i64 (if isNorm a b then 1 else 0), .int .i64 (if isNorm a b then 0 else 1)]) ∧ Below w.heap.size w w' := by
  cases hn : isNorm a b with
  | true =>
    simp only [if_true]
    have h0 := (tr_zero ha).2 hn
    have k := reNormal_any a b c
    rw [h0] at k
    have K := Lib.hid k; clear k h0
    go_enter Try.func117, Try.ntmps117
    go_wp2_with (first | (go_at_call 143; (with_reducible refine (K.out _ ha (by omega) (by omega) (by omega)).mono ?_); rintro e v1 ⟨rfl, hB1⟩; have hZ1 := hB1.size; (try simp at hZ1); (try have zl1 : w.heap.size < v1.heap.size := by omega); (try have ze1 : w.heap.size ≤ v1.heap.size := by omega); (try have zn1 : ¬ w.heap.size = v1.heap.size := by omega); (try have zm1 : ¬ v1.heap.size = w.heap.size := by omega); have hC1_0 := fun o => (calm_cells hB1).1 (w.heap.size) o (by first | omega | (simp <;> omega)); have hF1_0 := fun o => (calm_cells hB1).2 (w.heap.size) o (by first | omega | (simp <;> omega)); (try have hl1_0 : w.heap.size < v1.heap.size := by omega); (try have hm1_0 : ¬ w.heap.size = v1.heap.size := by omega); (try have hn1_0 : ¬ v1.heap.size = w.heap.size := by omega); have hC1_1 := fun o => (calm_cells hB1).1 (w.heap.size + 1) o (by first | omega | (simp <;> omega)); have hF1_1 := fun o => (calm_cells hB1).2 (w.heap.size + 1) o (by first | omega | (simp <;> omega)); (try have hl1_1 : w.heap.size + 1 < v1.heap.size := by omega); (try have hm1_1 : ¬ w.heap.size + 1 = v1.heap.size := by omega); (try have hn1_1 : ¬ v1.heap.size = w.heap.size + 1 := by omega)) | (go_at_call 116; (with_reducible refine (reIs_any a b c _ ha (by omega)).mono ?_); rw [hr]; rintro e v2 ⟨rfl, hB2⟩; have hZ2 := hB2.size; (try simp at hZ2); (try have zl2 : w.heap.size < v2.heap.size := by omega); (try have ze2 : w.heap.size ≤ v2.heap.size := by omega); (try have zn2 : ¬ w.heap.size = v2.heap.size := by omega); (try have zm2 : ¬ v2.heap.size = w.heap.size := by omega); have hC2_0 := fun o => (calm_cells hB2).1 (w.heap.size) o (by first | omega | (simp <;> omega)); have hF2_0 := fun o => (calm_cells hB2).2 (w.heap.size) o (by first | omega | (simp <;> omega)); (try have hl2_0 : w.heap.size < v2.heap.size := by omega); (try have hm2_0 : ¬ w.heap.size = v2.heap.size := by omega); (try have hn2_0 : ¬ v2.heap.size = w.heap.size := by omega); have hC2_1 := fun o => (calm_cells hB2).1 (w.heap.size + 1) o (by first | omega | (simp <;> omega)); have hF2_1 := fun o => (calm_cells hB2).2 (w.heap.size + 1) o (by first | omega | (simp <;> omega)); (try have hl2_1 : w.heap.size + 1 < v2.heap.size := by omega); (try have hm2_1 : ¬ w.heap.size + 1 = v2.heap.size := by omega); (try have hn2_1 : ¬ v2.heap.size = w.heap.size + 1 := by omega)))
    exact bodyPost_ret (v := .agg #[.int .i64 0, .int .i64 (-1), .int .i64 1, .int .i64 0]) (by simp [results, Try.results117, go_sem, *]) rfl ⟨rfl, (by repeat (first | with_reducible exact Below.refl _ _ | with_reducible assumption | with_reducible apply Below.drew | with_reducible apply below_drewN | (with_reducible apply below_setp; (first | omega | (simp <;> omega))) | (with_reducible apply below_allocp; (first | omega | (simp <;> omega))) | (with_reducible refine below_viap (by assumption) ?_ ?_; (first | omega | (simp <;> omega)))))⟩
  | false =>
    simp only [Bool.false_eq_true, if_false]
    have h0 : (tr a b != 0) = true := by
      rw [bne_iff_ne]; intro h; rw [(tr_zero ha).1 h] at hn; cases hn
    go_enter Try.func117, Try.ntmps117
    go_wp2_with (first | (go_at_call 143; (with_reducible refine (reNormal_any a b c _ ha (by omega) (by omega) (by omega)).mono ?_); rintro e v1 ⟨rfl, hB1⟩; have hZ1 := hB1.size; (try simp at hZ1); (try have zl1 : w.heap.size < v1.heap.size := by omega); (try have ze1 : w.heap.size ≤ v1.heap.size := by omega); (try have zn1 : ¬ w.heap.size = v1.heap.size := by omega); (try have zm1 : ¬ v1.heap.size = w.heap.size := by omega); have hC1_0 := fun o => (calm_cells hB1).1 (w.heap.size) o (by first | omega | (simp <;> omega)); have hF1_0 := fun o => (calm_cells hB1).2 (w.heap.size) o (by first | omega | (simp <;> omega)); (try have hl1_0 : w.heap.size < v1.heap.size := by omega); (try have hm1_0 : ¬ w.heap.size = v1.heap.size := by omega); (try have hn1_0 : ¬ v1.heap.size = w.heap.size := by omega); have hC1_1 := fun o => (calm_cells hB1).1 (w.heap.size + 1) o (by first | omega | (simp <;> omega)); have hF1_1 := fun o => (calm_cells hB1).2 (w.heap.size + 1) o (by first | omega | (simp <;> omega)); (try have hl1_1 : w.heap.size + 1 < v1.heap.size := by omega); (try have hm1_1 : ¬ w.heap.size + 1 = v1.heap.size := by omega); (try have hn1_1 : ¬ v1.heap.size = w.heap.size + 1 := by omega)))
    exact bodyPost_ret (v := .agg #[.int .i64 1, .int .i64 (tr a b), .int .i64 0, .int .i64 1]) (by simp [results, Try.results117, go_sem, *]) rfl ⟨rfl, (by repeat (first | with_reducible exact Below.refl _ _ | with_reducible assumption | with_reducible apply Below.drew | with_reducible apply below_drewN | (with_reducible apply below_setp; (first | omega | (simp <;> omega))) | (with_reducible apply below_allocp; (first | omega | (simp <;> omega))) | (with_reducible refine below_viap (by assumption) ?_ ?_; (first | omega | (simp <;> omega)))))⟩

/-! ### The matrices of a step are harmless -/
theorem far_of {x K : Int} (h : -K ≤ x ∧ x ≤ K) (hK : K ≤ 2000000000000000000) : Far x := ⟨by omega, by omega⟩
theorem at_S1 {a b c : Int} (ha : Far a) (hb : Far b) (hc : Far c) : AtOK a b c 0 1 := by
  obtain ⟨_, _⟩ := ha; obtain ⟨_, _⟩ := hb; obtain ⟨_, _⟩ := hc
  constructor <;> constructor <;> first | omega | (simp; done) | (simp; omega)
theorem at_S2 {a b c : Int} (ha : Far a) (hb : Far b) (hc : Far c) : AtOK a b c (-1) 0 := by
  obtain ⟨_, _⟩ := ha; obtain ⟨_, _⟩ := hb; obtain ⟨_, _⟩ := hc
  constructor <;> constructor <;> first | omega | (simp; done) | (simp; omega)
theorem pol_S {a b c : Int} (ha : Far (2 * a)) (hb : Far b) (hc : Far (2 * c)) : PolOK a b c 0 1 (-1) 0 := by
  obtain ⟨_, _⟩ := ha; obtain ⟨_, _⟩ := hb; obtain ⟨_, _⟩ := hc
  constructor <;> constructor <;> first | omega | (simp; done) | (simp; omega)
theorem at_T1 {a b c : Int} (ha : Far a) (hb : Far b) : AtOK a b c 1 0 := by
  obtain ⟨_, _⟩ := ha; obtain ⟨_, _⟩ := hb
  constructor <;> constructor <;> first | omega | (simp; done) | (simp; omega)
theorem at_T2 {a b c t : Int} (h1 : Far (a * t)) (h2 : Far (a * t * t)) (h3 : Far (b * t)) (hc : Far c) : AtOK a b c t 1 := by
  obtain ⟨_, _⟩ := h1; obtain ⟨_, _⟩ := h2; obtain ⟨_, _⟩ := h3; obtain ⟨_, _⟩ := hc
  constructor <;> constructor <;> first | omega | (simp; done) | (simp; omega)
theorem pol_T {a b c t : Int} (h1 : Far (2 * a)) (h2 : Far (2 * a * t)) (hb : Far b) (hc : Far (2 * c)) : PolOK a b c 1 0 t 1 := by
  obtain ⟨_, _⟩ := h1; obtain ⟨_, _⟩ := h2; obtain ⟨_, _⟩ := hb; obtain ⟨_, _⟩ := hc
  constructor <;> constructor <;> first | omega | (simp; done) | (simp; omega)

/-- How large a form may be. -/
def M0 : Int := 500000000
theorem tr_prods {f : Fm} (h : Def M0 f) : Far (f.a * tr f.a f.b) ∧ Far (2 * f.a * tr f.a f.b) ∧ Far (f.a * tr f.a f.b * tr f.a f.b) ∧ Far (f.b * tr f.a f.b) := by
  have hB := h.bB
  have ha := h.a0
  have hM := h.aM
  have ht := tr_bd ha hM hB
  have hs := tr_spec (b := f.b) ha
  unfold M0 at hB hM ht
  have h1 : -1500000000 ≤ 2 * f.a * tr f.a f.b ∧ 2 * f.a * tr f.a f.b ≤ 1500000000 := by omega
  have e : 2 * f.a * tr f.a f.b = 2 * (f.a * tr f.a f.b) := Int.mul_assoc _ _ _
  have h2 : -750000000 ≤ f.a * tr f.a f.b ∧ f.a * tr f.a f.b ≤ 750000000 := by omega
  have h3 := mul_bd (A := 750000000) (X := 1000000000) (x := tr f.a f.b) h2.1 h2.2 (by omega) (by omega)
  have h4 := mul_bd (A := 1000000000) (X := 1000000000) (a := f.b) (x := tr f.a f.b) (by omega) (by omega) (by omega) (by omega)
  exact ⟨⟨by omega, by omega⟩, ⟨by omega, by omega⟩, ⟨by omega, by omega⟩, ⟨by omega, by omega⟩⟩

theorem isNorm_eq (f : Fm) (h : isNorm f.a f.b = true) : stepF f = ⟨atF f.a f.b f.c 0 1, polF f.a f.b f.c 0 1 (-1) 0, atF f.a f.b f.c (-1) 0⟩ := by
  simp [stepF, h, atF, polF]
theorem notNorm_eq (f : Fm) (h : isNorm f.a f.b = false) : stepF f = ⟨atF f.a f.b f.c 1 0, polF f.a f.b f.c 1 0 (tr f.a f.b) 1, atF f.a f.b f.c (tr f.a f.b) 1⟩ := by
  simp [stepF, h, atF, polF]
  omega

theorem def_far {f : Fm} (h : Def M0 f) : Far f.a ∧ Far f.b ∧ Far f.c ∧ Far (2 * f.a) ∧ Far (2 * f.c) := by
  have hB := h.bB
  have h1 := h.a0; have h2 := h.aM; have h3 := h.c0; have h4 := h.cM
  unfold M0 at hB h2 h4
  exact ⟨⟨by omega, by omega⟩, ⟨by omega, by omega⟩, ⟨by omega, by omega⟩, ⟨by omega, by omega⟩, ⟨by omega, by omega⟩⟩

/-- The round of a reduction: what the step's matrix makes of the form. -/
theorem step_sub {f : Fm} (h : Def M0 f) : AtOK f.a f.b f.c (if isNorm f.a f.b then 0 else 1) (if isNorm f.a f.b then 1 else 0) ∧
    PolOK f.a f.b f.c (if isNorm f.a f.b then 0 else 1) (if isNorm f.a f.b then 1 else 0) (if isNorm f.a f.b then -1 else tr f.a f.b) (if isNorm f.a f.b then 0 else 1) ∧
    AtOK f.a f.b f.c (if isNorm f.a f.b then -1 else tr f.a f.b) (if isNorm f.a f.b then 0 else 1) ∧
    stepF f = ⟨atF f.a f.b f.c (if isNorm f.a f.b then 0 else 1) (if isNorm f.a f.b then 1 else 0),
      polF f.a f.b f.c (if isNorm f.a f.b then 0 else 1) (if isNorm f.a f.b then 1 else 0) (if isNorm f.a f.b then -1 else tr f.a f.b) (if isNorm f.a f.b then 0 else 1),
      atF f.a f.b f.c (if isNorm f.a f.b then -1 else tr f.a f.b) (if isNorm f.a f.b then 0 else 1)⟩ := by
  obtain ⟨fa, fb, fc, fa2, fc2⟩ := def_far h
  obtain ⟨k1, k2, k3, k4⟩ := tr_prods h
  cases hn : isNorm f.a f.b with
  | true =>
    simp only [if_true]
    exact ⟨at_S1 fa fb fc, pol_S fa2 fb fc2, at_S2 fa fb fc, isNorm_eq f hn⟩
  | false =>
    simp only [Bool.false_eq_true, if_false]
    exact ⟨at_T1 fa fb, pol_T fa2 k2 fb fc2, at_T2 k1 k3 k4 fc, notNorm_eq f hn⟩
end Go.Proofs.Ytifkmjmhhklkjaa
