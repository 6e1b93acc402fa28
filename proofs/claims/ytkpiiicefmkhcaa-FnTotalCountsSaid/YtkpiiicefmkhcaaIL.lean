/- Contracts: CompletedForm, of both sides. -/
import Derived.Test.YtkpiiicefmkhcaaIK
import Derived.Test.YtkpiiicefmkhcaaNA
namespace Go.Proofs.Ytkpiiicefmkhcaa
open Go.RowKit

def inK (x : Int) : Prop := -1000 ≤ x ∧ x ≤ 1000
def isM4 (p q r s : Int) : Bool := isNum p && (isNum q && (isNum r && isNum s))
/-- What CompletedForm gives. -/
def CfR (a b c x y g1 g2 g3 m1 m2 m3 m4 : Int) (ok : Bool) : Prop :=
  (((g1 = 0 ∧ g2 = 0 ∧ g3 = 0) ∧ (m1 = 0 ∧ m2 = 0 ∧ m3 = 0 ∧ m4 = 0) ∧ ok = false) ∧
    (isShown a b c = false ∨ (isShown a b c = true ∧ ¬ inK x) ∨ (isShown a b c = true ∧ inK x ∧ ¬ inK y) ∨ (isShown a b c = true ∧ inK x ∧ inK y ∧ Int.gcd x y ≠ 1) ∨
      ∃ S Q T E P, CpD a b c x y S Q T E P ∧ (isFm E (P % (2 * E)) (atF a b c (Q + T * x) (S + T * y)) = false ∨ (isFm E (P % (2 * E)) (atF a b c (Q + T * x) (S + T * y)) = true ∧ isM4 x (Q + T * x) y (S + T * y) = false)))) ∨
  (ok = true ∧ ∃ S Q T E P, CpD a b c x y S Q T E P ∧ isFm E (P % (2 * E)) (atF a b c (Q + T * x) (S + T * y)) = true ∧ isM4 x (Q + T * x) y (S + T * y) = true ∧
    (g1 = E ∧ g2 = P % (2 * E) ∧ g3 = atF a b c (Q + T * x) (S + T * y)) ∧ (m1 = x ∧ m2 = Q + T * x ∧ m3 = y ∧ m4 = S + T * y))
theorem cfR_ex (a b c x y : Int) : ∃ g1 g2 g3 m1 m2 m3 m4 ok, CfR a b c x y g1 g2 g3 m1 m2 m3 m4 ok := by
  have z : ((0 : Int) = 0 ∧ (0 : Int) = 0 ∧ (0 : Int) = 0) ∧ ((0 : Int) = 0 ∧ (0 : Int) = 0 ∧ (0 : Int) = 0 ∧ (0 : Int) = 0) ∧ false = false := ⟨⟨rfl, rfl, rfl⟩, ⟨rfl, rfl, rfl, rfl⟩, rfl⟩
  cases hs : isShown a b c with
  | false => exact ⟨0, 0, 0, 0, 0, 0, 0, false, .inl ⟨z, .inl hs⟩⟩
  | true =>
    by_cases hx : inK x
    · by_cases hy : inK y
      · by_cases hg : Int.gcd x y = 1
        · obtain ⟨S, Q, T, E, P, h⟩ := CpD.ex hs hx hy hg
          cases h1 : isFm E (P % (2 * E)) (atF a b c (Q + T * x) (S + T * y)) with
          | false => exact ⟨0, 0, 0, 0, 0, 0, 0, false, .inl ⟨z, .inr (.inr (.inr (.inr ⟨S, Q, T, E, P, h, .inl h1⟩)))⟩⟩
          | true =>
            cases h2 : isM4 x (Q + T * x) y (S + T * y) with
            | false => exact ⟨0, 0, 0, 0, 0, 0, 0, false, .inl ⟨z, .inr (.inr (.inr (.inr ⟨S, Q, T, E, P, h, .inr ⟨h1, h2⟩⟩)))⟩⟩
            | true => exact ⟨_, _, _, _, _, _, _, true, .inr ⟨rfl, S, Q, T, E, P, h, h1, h2, ⟨rfl, rfl, rfl⟩, rfl, rfl, rfl, rfl⟩⟩
        · exact ⟨0, 0, 0, 0, 0, 0, 0, false, .inl ⟨z, .inr (.inr (.inr (.inl ⟨hs, hx, hy, hg⟩)))⟩⟩
      · exact ⟨0, 0, 0, 0, 0, 0, 0, false, .inl ⟨z, .inr (.inr (.inl ⟨hs, hx, hy⟩))⟩⟩
    · exact ⟨0, 0, 0, 0, 0, 0, 0, false, .inl ⟨z, .inr (.inl ⟨hs, hx⟩)⟩⟩

set_option maxHeartbeats 400000 in
theorem abs_bigK (a : Int) (w : World) (h : ¬ inK a) (ha : W64 a) :
    Calls Try.prog 61 #[.int .i64 a] w fun e w' => (∃ t : Int, e = .returned (.int .i64 t) ∧ 1000 < t) ∧ w = w' := by
  unfold inK at h
  obtain ⟨h1, h2⟩ := ha
  by_cases hs : -9223372036854775807 ≤ a
  · by_cases hp : 0 ≤ a
    · go_enter Try.func61, Try.ntmps61
      go_wp2
      go_ret
      refine ⟨⟨a, ret_int (by omega), by omega⟩, rfl⟩
    · go_enter Try.func61, Try.ntmps61
      go_wp2
      go_ret
      refine ⟨⟨-a, ret_int (by omega), by omega⟩, rfl⟩
  · obtain rfl : a = -9223372036854775808 := by omega
    clear h h1 h2 hs
    go_enter Try.func61, Try.ntmps61
    go_wp2
    go_ret
    exact ⟨⟨9223372036854775807, rfl, by decide⟩, rfl⟩
set_option maxHeartbeats 400000 in
theorem l1In_K (x : Int) (t : Bool) (w : World) (h : t = true ↔ inK x) :
    Calls Try.prog 126 #[.int .i64 x, .int .i64 (-1000), .int .i64 1000] w fun e w' => e = .returned (.bool t) ∧ w = w' := by
  unfold inK at h
  have := l1In_any x (-1000) 1000 w
  cases t
  · refine this.mono ?_
    rintro e w' ⟨rfl, rfl⟩
    refine ⟨?_, rfl⟩
    congr 2
    by_cases h1 : -1000 ≤ x <;> by_cases h2 : x ≤ 1000 <;> simp_all
  · refine this.mono ?_
    rintro e w' ⟨rfl, rfl⟩
    refine ⟨?_, rfl⟩
    congr 2
    have := h.1 rfl
    simp [this.1, this.2]
set_option maxHeartbeats 800000 in
theorem IsMat_any (p q r s : Int) (w : World) :
    Calls Try.prog 76 #[.agg #[.int .i64 p, .int .i64 q, .int .i64 r, .int .i64 s]] w fun e w' => e = .returned (.bool (isM4 p q r s)) ∧ Below w.heap.size w w' := by
  have hc : ∀ j, j < 4 → ((w.alloc (.cells #[.int .i64 p, .int .i64 q, .int .i64 r, .int .i64 s] 49)).alloc (.cells #[.int .i64 p, .int .i64 q, .int .i64 r, .int .i64 s] 3)).cell? ⟨w.heap.size + 1, j, none⟩ = some (.int .i64 ([p, q, r, s].getD j 0)) := by
    intro j hj
    match j, hj with
    | 0, _ => simp [go_sem]
    | 1, _ => simp [go_sem]
    | 2, _ => simp [go_sem]
    | 3, _ => simp [go_sem]
  have Hc := Lib.hid hc; clear hc
  go_enter Try.func76, Try.ntmps76
  go_wp2_with (go_at_call 59; refine (areNumbers_any (w.heap.size + 1) 4 4 [p, q, r, s] _ rfl (by omega) Hc.out).mono ?_; rintro e v ⟨rfl, rfl⟩)
  go_ret
  exact ⟨ret_bool (by simp [isM4]), (by repeat (first | with_reducible exact Below.refl _ _ | with_reducible assumption | with_reducible apply Below.drew | with_reducible apply below_drewN | (with_reducible apply below_setp; (first | omega | (simp <;> omega))) | (with_reducible apply below_allocp; (first | omega | (simp <;> omega))) | (with_reducible refine below_viap (by assumption) ?_ ?_; (first | omega | (simp <;> omega)))))⟩
end Go.Proofs.Ytkpiiicefmkhcaa
