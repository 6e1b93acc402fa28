/- Contracts of ValuesAt and GenusRepresenting, of the program and of the reference. -/
import Derived.Test.YtbecjnmifdbnjaaQ5
import Derived.Test.YtbecjnmifdbnjaaCA
namespace Go.Proofs.Ytbecjnmifdbnjaa
open Go.RowKit

/-- What ValuesAt gives. -/
def VaV (d n : Int) (V : List Int) (ok : Bool) : Prop :=
  (isDisc d = false ∧ V = [] ∧ ok = false) ∨ (isDisc d = true ∧ isNum n = false ∧ V = [] ∧ ok = false) ∨
  (isDisc d = true ∧ isNum n = true ∧ ¬ Int.gcd n (2 * d) = 1 ∧ V = [] ∧ ok = false) ∨
  (isDisc d = true ∧ isNum n = true ∧ Int.gcd n (2 * d) = 1 ∧ V = vals (-d) n ∧ ok = true)

theorem own_emptyq {w : World} {B g : Nat} {e : TypeId} {sz : Nat} (hg : g = w.heap.size) (hB : B ≤ w.heap.size) : (w.alloc (.cells #[] e)).ownsRow B e sz (.slice (some ⟨g, 0, none⟩) 0 0) 0 [] := by
  subst hg; exact own_empty hB
theorem isNum_bd {n : Int} (h : isNum n = true) : -1000000 ≤ n ∧ n ≤ 1000000 := (isNum_iff n).1 h
theorem one_num (w : World) (n : Int) (e : TypeId) : ∀ j, j < 1 → (w.alloc (.cells #[.int .i64 n] e)).cell? ⟨w.heap.size, j, none⟩ = some (.int .i64 ([n].getD j 0)) := by
  intro j hj
  match j, hj with
  | 0, _ => simp [go_sem]
theorem areNum1 (n : Int) (y : Bool) (e : TypeId) (w : World) (hy : isNum n = y) :
    Calls Try.prog 91 #[.slice (some ⟨w.heap.size, 0, none⟩) 1 1] (w.alloc (.cells #[.int .i64 n] e)) fun e1 w' => e1 = .returned (.bool y) ∧ w.alloc (.cells #[.int .i64 n] e) = w' := by
  have k := areNumbers_any w.heap.size 1 1 [n] (w.alloc (.cells #[.int .i64 n] e)) rfl (by omega) (one_num w n e)
  rw [show [n].all isNum = y by simp [hy]] at k
  exact k

set_option maxRecDepth 100000 in
set_option maxHeartbeats 1600000 in
theorem implVA_any (d n : Int) (V : List Int) (ok : Bool) (w : World) (h : VaV d n V ok) :
    Calls Try.prog 58 #[.int .i64 d, .int .i64 n] w (RetI2 V ok w) := by
  rcases h with ⟨hc, rfl, rfl⟩ | ⟨hc, hn, rfl, rfl⟩ | ⟨hc, hn, hg, rfl, rfl⟩ | ⟨hc, hn, hg, hV, rfl⟩
  · go_enter Try.func58, Try.ntmps58
    go_wp2_with (go_at_call 82; (with_reducible refine (negDisc_eq d false _ hc).mono ?_); rintro e v ⟨rfl, rfl⟩)
    go_ret2
    exact ⟨_, rfl, own_empty (by omega), (by repeat (first | with_reducible exact Below.refl _ _ | with_reducible assumption | with_reducible apply Below.drew | with_reducible apply below_drewN | (with_reducible apply below_setp; (first | omega | (simp <;> omega))) | (with_reducible apply below_allocp; (first | omega | (simp <;> omega))) | (with_reducible refine below_viap (by assumption) ?_ ?_; (first | omega | (simp <;> omega)))))⟩
  · go_enter Try.func58, Try.ntmps58
    go_wp2_with (first
      | (go_at_call 82; (with_reducible refine (negDisc_eq d true _ hc).mono ?_); rintro e v ⟨rfl, rfl⟩)
      | (go_at_call 91; (with_reducible refine (areNum1 n false _ _ hn).mono ?_); rintro e v ⟨rfl, rfl⟩))
    go_ret2
    exact ⟨.slice (some ⟨w.heap.size + 1, 0, none⟩) 0 0, rfl, own_emptyq (by simp) (by simp), (by repeat (first | with_reducible exact Below.refl _ _ | with_reducible assumption | with_reducible apply Below.drew | with_reducible apply below_drewN | (with_reducible apply below_setp; (first | omega | (simp <;> omega))) | (with_reducible apply below_allocp; (first | omega | (simp <;> omega))) | (with_reducible refine below_viap (by assumption) ?_ ?_; (first | omega | (simp <;> omega)))))⟩
  · have D := dsc_of hc
    have hlo := D.lo; have hhi := D.hi
    obtain ⟨n1, n2⟩ := isNum_bd hn
    have hG := Lib.hid (fun w => gcd_any n (2 * d) w (by omega) (by omega) (by omega) (by omega))
    have e1 : ((Int.gcd n (2 * d) : Int) == 1) = false := by rw [beq_eq_false_iff_ne]; omega
    generalize (Int.gcd n (2 * d) : Int) = q at *
    clear hg D
    go_enter Try.func58, Try.ntmps58
    go_wp2_with (first
      | (go_at_call 82; (with_reducible refine (negDisc_eq d true _ hc).mono ?_); rintro e v ⟨rfl, rfl⟩)
      | (go_at_call 91; (with_reducible refine (areNum1 n true _ _ hn).mono ?_); rintro e v ⟨rfl, rfl⟩)
      | (go_at_call 144; refine (hG.out _).mono ?_; rintro e v ⟨rfl, nq, rfl⟩))
    go_ret2
    exact ⟨.slice (some ⟨w.heap.size + 1, 0, none⟩) 0 0, rfl, own_emptyq (by simp) (by simp), (by repeat (first | with_reducible exact Below.refl _ _ | with_reducible assumption | with_reducible apply Below.drew | with_reducible apply below_drewN | (with_reducible apply below_setp; (first | omega | (simp <;> omega))) | (with_reducible apply below_allocp; (first | omega | (simp <;> omega))) | (with_reducible refine below_viap (by assumption) ?_ ?_; (first | omega | (simp <;> omega)))))⟩
  · have D := dsc_of hc
    have hlo := D.lo; have hhi := D.hi
    obtain ⟨n1, n2⟩ := isNum_bd hn
    have hG := Lib.hid (fun w => gcd_any n (2 * d) w (by omega) (by omega) (by omega) (by omega))
    have e1 : ((Int.gcd n (2 * d) : Int) == 1) = true := by rw [beq_iff_eq]; omega
    have hW := Lib.hid (fun w => valuesAt_any d n w (by omega) (by omega) (by omega) (by omega))
    rw [← hV] at hW
    generalize (Int.gcd n (2 * d) : Int) = q at *
    clear hg D hV
    go_enter Try.func58, Try.ntmps58
    go_wp2_with (first
      | (go_at_call 82; (with_reducible refine (negDisc_eq d true _ hc).mono ?_); rintro e v ⟨rfl, rfl⟩)
      | (go_at_call 91; (with_reducible refine (areNum1 n true _ _ hn).mono ?_); rintro e v ⟨rfl, rfl⟩)
      | (go_at_call 144; refine (hG.out _).mono ?_; rintro e v ⟨rfl, nq, rfl⟩)
      | (go_at_call 145; refine (hW.out _).mono ?_; rintro e v5 ⟨vl, rfl, howl, hB5⟩; have hZ5 := hB5.size; (try simp at hZ5)))
    go_ret2
    exact ⟨_, rfl, own_base (by simp <;> omega) howl, (by repeat (first | with_reducible exact Below.refl _ _ | with_reducible assumption | with_reducible apply Below.drew | with_reducible apply below_drewN | (with_reducible apply below_setp; (first | omega | (simp <;> omega))) | (with_reducible apply below_allocp; (first | omega | (simp <;> omega))) | (with_reducible refine below_viap (by assumption) ?_ ?_; (first | omega | (simp <;> omega)))))⟩

/-- What chPrime gives. -/
def primC (d n : Int) : Bool := isDisc d && (isNum n && decide (Int.gcd n (2 * d) = 1))
/-- What GenusRepresenting gives. -/
def GrL (d n : Int) (L : List Fm) (ok : Bool) : Prop :=
  (primC d n = false ∧ VaV d n [] false ∧ L = [] ∧ ok = false) ∨
  (primC d n = true ∧ VaV d n (vals (-d) n) true ∧ L = (clsL d).filter (gnP d (vals (-d) n)) ∧ ok = decide (0 < L.length))
theorem grL_ex (d n : Int) : ∃ L ok, GrL d n L ok ∧ L.length ≤ 100000 := by
  cases hc : isDisc d with
  | false => exact ⟨_, _, .inl ⟨by simp [primC, hc], .inl ⟨hc, rfl, rfl⟩, rfl, rfl⟩, by simp⟩
  | true =>
    cases hn : isNum n with
    | false => exact ⟨_, _, .inl ⟨by simp [primC, hn], .inr (.inl ⟨hc, hn, rfl, rfl⟩), rfl, rfl⟩, by simp⟩
    | true =>
      by_cases hg : Int.gcd n (2 * d) = 1
      · exact ⟨_, _, .inr ⟨by simp [primC, hc, hn, hg], .inr (.inr (.inr ⟨hc, hn, hg, rfl, rfl⟩)), rfl, rfl⟩, Nat.le_trans (List.length_filter_le _ _) (Nat.le_trans (clsL_len _) (by decide))⟩
      · exact ⟨_, _, .inl ⟨by simp [primC, hg], .inr (.inr (.inl ⟨hc, hn, hg, rfl, rfl⟩)), rfl, rfl⟩, by simp⟩
theorem vals_len1 (m n : Int) : (vals m n).length = (chars m).length := by unfold vals; rw [List.length_map]
theorem primC_disc {d n : Int} (h : primC d n = true) : isDisc d = true ∧ isNum n = true ∧ Int.gcd n (2 * d) = 1 := by
  simpa [primC] using h

end Go.Proofs.Ytbecjnmifdbnjaa
