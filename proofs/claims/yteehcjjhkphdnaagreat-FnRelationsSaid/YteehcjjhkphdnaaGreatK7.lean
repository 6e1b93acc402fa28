/- Contracts of PowerClasses and SquareClasses, of the program and of the reference. -/
import Derived.Test.YteehcjjhkphdnaaGreatKX
import Derived.Test.YteehcjjhkphdnaaGreatNA
namespace Go.Proofs.YteehcjjhkphdnaaGreat
open Go.RowKit

theorem dsc_of {d : Int} (h : isDisc d = true) : Dsc d := by
  simp [isDisc] at h
  exact ⟨by omega, by omega, by omega⟩
def isPw (k : Int) : Bool := decide (0 ≤ k) && decide (k ≤ 100)
set_option maxHeartbeats 400000 in
theorem isClassExp_any (k : Int) (b : Bool) (w : World) (hb : isPw k = b) : Calls Tryz.prog 129 #[.int .i64 k] w fun e w' => e = .returned (.bool b) ∧ w = w' := by
  subst hb
  unfold isPw
  by_cases h : 0 ≤ k
  · go_enter Tryz.func129, Tryz.ntmps129
    go_wp2
    go_ret
    exact ⟨ret_bool (by first | (simp; done) | (simp; omega) | (rw [Bool.eq_iff_iff]; simp; omega) | (simp_all; done) | (simp_all; omega)), rfl⟩
  · go_enter Tryz.func129, Tryz.ntmps129
    go_wp2
    go_ret
    exact ⟨ret_bool (by first | (simp; done) | (simp; omega) | (rw [Bool.eq_iff_iff]; simp; omega) | (simp_all; done) | (simp_all; omega)), rfl⟩
theorem l1In_eq (k : Int) (b : Bool) (w : World) (hb : isPw k = b) : Calls Tryz.prog 89 #[.int .i64 k, .int .i64 0, .int .i64 100] w fun e w' => e = .returned (.bool b) ∧ w = w' := by
  have k2 := l1In_any k 0 100 w
  rwa [show (decide (0 ≤ k) && decide (k ≤ 100)) = b from hb] at k2
theorem negDisc_eq (d : Int) (b : Bool) (w : World) (h : isDisc d = b) : Calls Tryz.prog 76 #[.int .i64 d] w fun e w' => e = .returned (.bool b) ∧ w = w' := by
  have k := isNegativeDisc_any d w
  rwa [h] at k
theorem rDisc_eq (d : Int) (b : Bool) (w : World) (h : isDisc d = b) : Calls Tryz.prog 74 #[.int .i64 d] w fun e w' => e = .returned (.bool b) ∧ w = w' := by
  have k := reDisc_any d w
  rwa [h] at k
/-- A list of forms in new memory comes back, and a truth value. -/
def RetFb (L : List Fm) (ok : Bool) (w : World) (e : Ending) (w' : World) : Prop := ∃ v, e = .returned (.tuple #[v, .bool ok]) ∧ w'.ownsRow w.heap.size 36 3 v L.length (cellsF L) ∧ Below w.heap.size w w'
/-- What PowerClasses gives. -/
def PowL (d k : Int) (L : List Fm) (ok : Bool) : Prop :=
  (isDisc d = false ∧ L = [] ∧ ok = false) ∨ (isDisc d = true ∧ isPw k = false ∧ L = [] ∧ ok = false) ∨
  (isDisc d = true ∧ ∃ n : Nat, k = n ∧ isPw n = true ∧ L = (clsL d).filter (powP d n (clsL d)) ∧ ok = true)
theorem powL_ex (d k : Int) : ∃ L ok, PowL d k L ok ∧ L.length ≤ 100000 := by
  cases hc : isDisc d with
  | false => exact ⟨_, _, .inl ⟨hc, rfl, rfl⟩, by simp⟩
  | true =>
    cases hk : isPw k with
    | false => exact ⟨_, _, .inr (.inl ⟨hc, hk, rfl, rfl⟩), by simp⟩
    | true =>
      have hk2 := hk
      simp only [isPw, Bool.and_eq_true, decide_eq_true_eq] at hk2
      exact ⟨_, _, .inr (.inr ⟨hc, k.toNat, by omega, by rw [show ((k.toNat : Nat) : Int) = k by omega]; exact hk, rfl, rfl⟩), Nat.le_trans (List.length_filter_le _ _) (Nat.le_trans (clsL_len _) (by decide))⟩

set_option maxRecDepth 100000 in
set_option maxHeartbeats 800000 in
theorem implPow_any (d k : Int) (L : List Fm) (ok : Bool) (w : World) (h : PowL d k L ok) :
    Calls Tryz.prog 73 #[.int .i64 d, .int .i64 k] w (RetFb L ok w) := by
  rcases h with ⟨hc, rfl, rfl⟩ | ⟨hc, hk, rfl, rfl⟩ | ⟨hc, n, rfl, hk, rfl, rfl⟩
  · go_enter Tryz.func73, Tryz.ntmps73
    go_wp2_with (go_at_call 76; (with_reducible refine (negDisc_eq d false _ hc).mono ?_); rintro e v ⟨rfl, rfl⟩)
    go_ret2
    exact ⟨_, rfl, own_empty (by omega), (by repeat (first | with_reducible exact Below.refl _ _ | with_reducible assumption | with_reducible apply Below.drew | with_reducible apply below_drewN | (with_reducible apply below_setp; (first | omega | (simp <;> omega))) | (with_reducible apply below_allocp; (first | omega | (simp <;> omega))) | (with_reducible refine below_viap (by assumption) ?_ ?_; (first | omega | (simp <;> omega)))))⟩
  · go_enter Tryz.func73, Tryz.ntmps73
    go_wp2_with (first | (go_at_call 76; (with_reducible refine (negDisc_eq d true _ hc).mono ?_); rintro e v ⟨rfl, rfl⟩) | (go_at_call 129; (with_reducible refine (isClassExp_any k false _ hk).mono ?_); rintro e v ⟨rfl, rfl⟩))
    go_ret2
    exact ⟨_, rfl, own_empty (by omega), (by repeat (first | with_reducible exact Below.refl _ _ | with_reducible assumption | with_reducible apply Below.drew | with_reducible apply below_drewN | (with_reducible apply below_setp; (first | omega | (simp <;> omega))) | (with_reducible apply below_allocp; (first | omega | (simp <;> omega))) | (with_reducible refine below_viap (by assumption) ?_ ?_; (first | omega | (simp <;> omega)))))⟩
  · have hn : (n : Int) ≤ 100 := by simp [isPw] at hk; omega
    have hP := Lib.hid (fun w => powerClasses_any d n w (dsc_of hc) hn)
    generalize (clsL d).filter (powP d n (clsL d)) = L at *
    go_enter Tryz.func73, Tryz.ntmps73
    go_wp2_with (first
      | (go_at_call 76; (with_reducible refine (negDisc_eq d true _ hc).mono ?_); rintro e v ⟨rfl, rfl⟩)
      | (go_at_call 129; (with_reducible refine (isClassExp_any n true _ hk).mono ?_); rintro e v ⟨rfl, rfl⟩)
      | (go_at_call 108; refine (hP.out _).mono ?_; rintro e v5 ⟨vl, rfl, howl, hB5⟩; have hZ5 := hB5.size))
    go_ret2
    exact ⟨_, rfl, own_base (by omega) howl, (by repeat (first | with_reducible exact Below.refl _ _ | with_reducible assumption | with_reducible apply Below.drew | with_reducible apply below_drewN | (with_reducible apply below_setp; (first | omega | (simp <;> omega))) | (with_reducible apply below_allocp; (first | omega | (simp <;> omega))) | (with_reducible refine below_viap (by assumption) ?_ ?_; (first | omega | (simp <;> omega)))))⟩

end Go.Proofs.YteehcjjhkphdnaaGreat
