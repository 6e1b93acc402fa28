/- Contract: whether all numbers of a list are in range, of the reference. -/
import Derived.Test.YtlcegkafagdcjaaGreatDoorNA
import Derived.Test.YtlcegkafagdcjaaGreatDoorN5
namespace Go.Proofs.YtlcegkafagdcjaaGreatDoor
open Go.RowKit

/-- Whether all exponents are in range. -/
def inR (lo hi : Int) (E : List Int) : Bool := E.all fun e => decide (lo ≤ e) && decide (e ≤ hi)
theorem inR_no {lo hi : Int} {E : List Int} {k : Nat} (h : k < E.length) (hb : (decide (lo ≤ E[k]) && decide (E[k] ≤ hi)) = false) : inR lo hi E = false := by
  unfold inR
  rw [List.all_eq_false]
  exact ⟨E[k], List.getElem_mem h, by rw [hb]; simp⟩
theorem inR_yes {lo hi : Int} {E : List Int} (h : ∀ j (h : j < E.length), (decide (lo ≤ E[j]) && decide (E[j] ≤ hi)) = true) : inR lo hi E = true := by
  unfold inR
  rw [List.all_eq_true]
  intro e he
  obtain ⟨j, hj, rfl⟩ := List.getElem_of_mem he
  exact h j hj
def ArSt (lo hi : Int) (E : List Int) (vi : Value) : Prop := ∃ k : Nat, vi = .int .i64 k ∧ k ≤ E.length ∧ Hid (∀ j (h : j < E.length), j < k → (decide (lo ≤ E[j]) && decide (E[j] ≤ hi)) = true)

set_option maxRecDepth 100000 in
set_option maxHeartbeats 1600000 in
theorem l1All_any (v : Value) (B : Nat) (E : List Int) (lo hi : Int) (w : World) (hl : E.length ≤ 10000000) (h : w.ownsRow B 3 1 v E.length (cellsI E)) :
    Calls Tryz.prog 62 #[v, .int .i64 lo, .int .i64 hi] w fun e w' => e = .returned (.bool (inR lo hi E)) ∧ w = w' := by
  obtain ⟨be, ce, rfl⟩ := own_shape h
  have HE := Lib.hid h
  obtain ⟨R, hR⟩ : ∃ R, inR lo hi E = R := ⟨_, rfl⟩
  rw [hR]
  have HR := Lib.hid hR
  clear h hR
  go_enter Tryz.func62, Tryz.ntmps62
  go_wp2
  go_loop [11] (fun vi => ArSt lo hi E vi) (fun vi => E.length - (intOf vi).toNat)
  case atStart => exact ⟨0, rfl, Nat.zero_le _, Lib.hid (fun _ _ h => absurd h (Nat.not_lt_zero _))⟩
  case round =>
    obtain ⟨k, rfl, hk, hs⟩ := hrel
    by_cases hlt : k < E.length
    · obtain ⟨ge, rfl, le, c1⟩ := own_elemI HE.out hlt
      cases hb : (decide (lo ≤ E[k]) && decide (E[k] ≤ hi)) with
      | false =>
        have hx := Lib.hid (HR.out.symm.trans (inR_no hlt hb))
        have hL := Lib.hid (fun w => l1In_any E[k] lo hi w)
        rw [hb] at hL
        generalize E[k] = y at c1 hL
        clear hb hs
        go_wp2_with (go_at_call 29; (with_reducible refine (hL.out _).mono ?_); rintro e v ⟨rfl, rfl⟩)
        go_ret
        exact ⟨ret_bool hx.out.symm, rfl⟩
      | true =>
        have hs2 : Hid (∀ j (h : j < E.length), j < k + 1 → (decide (lo ≤ E[j]) && decide (E[j] ≤ hi)) = true) := Lib.hid (fun j h hj => if e : j = k then (by subst e; exact hb) else hs.out j h (by omega))
        have hL := Lib.hid (fun w => l1In_any E[k] lo hi w)
        rw [hb] at hL
        generalize E[k] = y at c1 hL
        clear hb hs
        go_wp2_with (go_at_call 29; (with_reducible refine (hL.out _).mono ?_); rintro e v ⟨rfl, rfl⟩)
        go_round
        case rel => exact ⟨k + 1, by go_num, hlt, hs2⟩
        case measure => simp [intOf]; omega
    · have hx := Lib.hid (HR.out.symm.trans (inR_yes fun j h => hs.out j h (by omega)))
      clear hs
      go_wp2
      go_ret
      exact ⟨ret_bool hx.out.symm, rfl⟩
end Go.Proofs.YtlcegkafagdcjaaGreatDoor
