/- Contracts: whether a triple is one; its list; the normal triple, of the program. -/
import Derived.Test.YtdhennlanngjgaaJC
import Derived.Test.YtdhennlanngjgaaJD
namespace Go.Proofs.Ytdhennlanngjgaa
open Go.RowKit

set_option maxHeartbeats 1600000 in
theorem isTriple_any (a b c : Int) (w : World) (ha : W64 a) (hb : W64 b) (hc : W64 c) :
    Calls Try.prog 29 #[.agg #[.int .i64 a, .int .i64 b, .int .i64 c]] w fun e w' => e = .returned (.bool (trB a b c)) ∧ Below w.heap.size w w' := by
  have hA := Lib.hid (fun w => isCoef_any a w ha)
  have hB := Lib.hid (fun w => isCoef_any b w hb)
  have hC := Lib.hid (fun w => isCoef_any c w hc)
  unfold trB
  clear ha hb hc
  cases h1 : cfB a <;> cases h2 : cfB b <;> cases h3 : cfB c
  all_goals
    rw [h1] at hA
    rw [h2] at hB
    rw [h3] at hC
    clear h1 h2 h3
    go_enter Try.func29, Try.ntmps29
    go_wp2_with (first | (go_at_call 57; (with_reducible refine (hA.out _).mono ?_); rintro e v ⟨rfl, rfl⟩) | (go_at_call 57; (with_reducible refine (hB.out _).mono ?_); rintro e v ⟨rfl, rfl⟩) | (go_at_call 57; (with_reducible refine (hC.out _).mono ?_); rintro e v ⟨rfl, rfl⟩))
    go_ret
    exact ⟨rfl, (by repeat (first | with_reducible exact Below.refl _ _ | with_reducible assumption | with_reducible apply Below.drew | with_reducible apply below_drewN | (with_reducible apply below_setp; (first | omega | (simp <;> omega))) | (with_reducible apply below_allocp; (first | omega | (simp <;> omega))) | (with_reducible refine below_viap (by assumption) ?_ ?_; (first | omega | (simp <;> omega)))))⟩

set_option maxHeartbeats 800000 in
theorem tlist_any (a b c : Int) (w : World) :
    Calls Try.prog 41 #[.agg #[.int .i64 a, .int .i64 b, .int .i64 c]] w fun e w' => e = .returned (.agg #[.int .i64 a, .int .i64 b, .int .i64 c]) ∧ Below w.heap.size w w' := by
  go_enter Try.func41, Try.ntmps41
  go_wp2
  exact bodyPost_ret (v := .agg #[.int .i64 a, .int .i64 b, .int .i64 c]) (by simp [results, Try.results41, go_sem, *]) rfl ⟨rfl, (by repeat (first | with_reducible exact Below.refl _ _ | with_reducible assumption | with_reducible apply Below.drew | with_reducible apply below_drewN | (with_reducible apply below_setp; (first | omega | (simp <;> omega))) | (with_reducible apply below_allocp; (first | omega | (simp <;> omega))) | (with_reducible refine below_viap (by assumption) ?_ ?_; (first | omega | (simp <;> omega)))))⟩

theorem own_lit3 {w : World} {B b : Nat} (x y z : Int) (hb : b = w.heap.size) (h : B ≤ w.heap.size) : (w.alloc (.cells #[.int .i64 x, .int .i64 y, .int .i64 z] 3)).ownsRow B 3 1 (.slice (some ⟨b, 0, none⟩) 3 3) [x, y, z].length (cellsI [x, y, z]) := by
  subst hb
  exact ⟨by simp [cellsI], .inr ⟨w.heap.size, 3, #[.int .i64 x, .int .i64 y, .int .i64 z], rfl, h, heap_alloc_new _ _, Nat.le_refl _, by unfold maxLen; omega, by simp, by simp [cellsI]⟩⟩
theorem inR_cf {a b c : Int} (ha : a ≠ 0) (hb : b ≠ 0) (hc : c ≠ 0) : inR (-400) 400 [a, b, c] = trB a b c := by
  unfold inR trB cfB
  simp [ha, hb, hc]
theorem trB_zero {a b c : Int} (h : a = 0 ∨ b = 0 ∨ c = 0) : trB a b c = false := by
  rw [← Bool.not_eq_true, trB_iff]
  intro t
  have := t.a0; have := t.b0; have := t.c0
  omega

set_option maxRecDepth 100000 in
set_option maxHeartbeats 1600000 in
theorem cnGood_any (a b c : Int) (w : World) :
    Calls Try.prog 20 #[.agg #[.int .i64 a, .int .i64 b, .int .i64 c]] w fun e w' => e = .returned (.bool (trB a b c)) ∧ Below w.heap.size w w' := by
  have hA := Lib.hid (fun v B w h => l1All_any v B [a, b, c] (-400) 400 w (by simp) h)
  have hOl := Lib.hid (fun (w : World) (B b' : Nat) => own_lit3 (w := w) (B := B) (b := b') a b c)
  by_cases h1 : a = 0 ∨ b = 0 ∨ c = 0
  · rw [trB_zero h1]
    cases hr : inR (-400) 400 [a, b, c] with
    | false =>
      rw [hr] at hA
      clear hr h1
      go_enter Try.func20, Try.ntmps20
      go_wp2_with (go_at_call 45; refine (hA.out _ _ _ (hOl.out _ (w.heap.size + 1) _ (by simp) (by simp))).mono ?_; rintro e v1 ⟨rfl, rfl⟩)
      go_ret
      exact ⟨rfl, (by repeat (first | with_reducible exact Below.refl _ _ | with_reducible assumption | with_reducible apply Below.drew | with_reducible apply below_drewN | (with_reducible apply below_setp; (first | omega | (simp <;> omega))) | (with_reducible apply below_allocp; (first | omega | (simp <;> omega))) | (with_reducible refine below_viap (by assumption) ?_ ?_; (first | omega | (simp <;> omega)))))⟩
    | true =>
      rw [hr] at hA
      clear hr
      have hz : ((a != 0) && ((b != 0) && (c != 0))) = false := by
        rcases h1 with rfl | rfl | rfl <;> simp
      cases e1 : a != 0 <;> cases e2 : b != 0 <;> cases e3 : c != 0 <;> rw [e1, e2, e3] at hz <;> clear h1
      all_goals (first | (simp at hz; done) | skip)
      all_goals
        go_enter Try.func20, Try.ntmps20
        go_wp2_with (go_at_call 45; refine (hA.out _ _ _ (hOl.out _ (w.heap.size + 1) _ (by simp) (by simp))).mono ?_; rintro e v1 ⟨rfl, rfl⟩)
        go_ret
        exact ⟨rfl, (by repeat (first | with_reducible exact Below.refl _ _ | with_reducible assumption | with_reducible apply Below.drew | with_reducible apply below_drewN | (with_reducible apply below_setp; (first | omega | (simp <;> omega))) | (with_reducible apply below_allocp; (first | omega | (simp <;> omega))) | (with_reducible refine below_viap (by assumption) ?_ ?_; (first | omega | (simp <;> omega)))))⟩
  · have e1 : (a != 0) = true := by rw [bne_iff_ne]; omega
    have e2 : (b != 0) = true := by rw [bne_iff_ne]; omega
    have e3 : (c != 0) = true := by rw [bne_iff_ne]; omega
    rw [inR_cf (by omega) (by omega) (by omega)] at hA
    cases hr : trB a b c
    all_goals
      rw [hr] at hA
      clear hr h1
      go_enter Try.func20, Try.ntmps20
      go_wp2_with (go_at_call 45; refine (hA.out _ _ _ (hOl.out _ (w.heap.size + 1) _ (by simp) (by simp))).mono ?_; rintro e v1 ⟨rfl, rfl⟩)
      go_ret
      exact ⟨rfl, (by repeat (first | with_reducible exact Below.refl _ _ | with_reducible assumption | with_reducible apply Below.drew | with_reducible apply below_drewN | (with_reducible apply below_setp; (first | omega | (simp <;> omega))) | (with_reducible apply below_allocp; (first | omega | (simp <;> omega))) | (with_reducible refine below_viap (by assumption) ?_ ?_; (first | omega | (simp <;> omega)))))⟩
end Go.Proofs.Ytdhennlanngjgaa
