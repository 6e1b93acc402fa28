/- Contracts of PowerClasses and SquareClasses, of the program and of the reference. -/
import Derived.Test.YtblcmkhkbgikoaaGreatKX
import Derived.Test.YtblcmkhkbgikoaaGreatNA
namespace Go.Proofs.YtblcmkhkbgikoaaGreat
open Go.RowKit

theorem dsc_of {d : Int} (h : isDisc d = true) : Dsc d := by
  simp [isDisc] at h
  exact ⟨by omega, by omega, by omega⟩
def isPw (k : Int) : Bool := decide (0 ≤ k) && decide (k ≤ 100)
theorem l1In_eq (k : Int) (b : Bool) (w : World) (hb : isPw k = b) : Calls Tryz.prog 22 #[.int .i64 k, .int .i64 0, .int .i64 100] w fun e w' => e = .returned (.bool b) ∧ w = w' := by
  have k2 := l1In_any k 0 100 w
  rwa [show (decide (0 ≤ k) && decide (k ≤ 100)) = b from hb] at k2
theorem rDisc_eq (d : Int) (b : Bool) (w : World) (h : isDisc d = b) : Calls Tryz.prog 85 #[.int .i64 d] w fun e w' => e = .returned (.bool b) ∧ w = w' := by
  have k := reDisc_any d w
  rwa [h] at k
/-- A list of forms in new memory comes back, and a truth value. -/
def RetFb (L : List Fm) (ok : Bool) (w : World) (e : Ending) (w' : World) : Prop := ∃ v, e = .returned (.tuple #[v, .bool ok]) ∧ w'.ownsRow w.heap.size 36 3 v L.length (cellsF L) ∧ Below w.heap.size w w'
/-- What PowerClasses gives. -/
def PowL (d k : Int) (L : List Fm) (ok : Bool) : Prop :=
  (isDisc d = false ∧ L = [] ∧ ok = false) ∨ (isDisc d = true ∧ isPw k = false ∧ L = [] ∧ ok = false) ∨
  (isDisc d = true ∧ ∃ n : Nat, k = n ∧ isPw n = true ∧ L = (clsL d).filter (powP d n (clsL d)) ∧ ok = true)
theorem powL_ex (d k : Int) : ∃ L ok, PowL d k L ok ∧ L.length ≤ 100000 := by
  cases hc : isDisc d with
  | false => exact ⟨_, _, .inl ⟨hc, rfl, rfl⟩, by simp⟩
  | true =>
    cases hk : isPw k with
    | false => exact ⟨_, _, .inr (.inl ⟨hc, hk, rfl, rfl⟩), by simp⟩
    | true =>
      have hk2 := hk
      simp only [isPw, Bool.and_eq_true, decide_eq_true_eq] at hk2
      exact ⟨_, _, .inr (.inr ⟨hc, k.toNat, by omega, by rw [show ((k.toNat : Nat) : Int) = k by omega]; exact hk, rfl, rfl⟩), Nat.le_trans (List.length_filter_le _ _) (Nat.le_trans (clsL_len _) (by decide))⟩

end Go.Proofs.YtblcmkhkbgikoaaGreat
