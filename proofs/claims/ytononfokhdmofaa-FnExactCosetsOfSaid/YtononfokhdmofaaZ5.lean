/- Contracts of the reference: whether a list has a number; a copy; what some classes generate. -/
import Derived.Test.YtononfokhdmofaaZ2
import Derived.Test.YtononfokhdmofaaN6
namespace Go.Proofs.Ytononfokhdmofaa
open Go.RowKit

def hasI (L : List Int) (x : Int) : Bool := decide (x ∈ L)
theorem hasI_yes {L : List Int} {x : Int} (h : x ∈ L) : hasI L x = true := decide_eq_true h
theorem hasI_no {L : List Int} {x : Int} (h : ∀ j (h : j < L.length), L[j] ≠ x) : hasI L x = false := by
  refine decide_eq_false (fun hx => ?_)
  obtain ⟨j, hj, e⟩ := List.getElem_of_mem hx
  exact h j hj e
def HasSt (L : List Int) (x : Int) (w : World) (vi : Value) (wr : World) : Prop :=
  ∃ k : Nat, vi = .int .i64 k ∧ k ≤ L.length ∧ Hid (∀ j (h : j < L.length), j < k → L[j] ≠ x) ∧ w = wr

set_option maxRecDepth 100000 in
set_option maxHeartbeats 1600000 in
theorem l1Has_any (v : Value) (B : Nat) (L : List Int) (x : Int) (w : World) (hl : L.length ≤ 10000000) (h : w.ownsRow B 3 1 v L.length (cellsI L)) :
    Calls Try.prog 100 #[v, .int .i64 x] w fun e w' => e = .returned (.bool (hasI L x)) ∧ w = w' := by
  obtain ⟨b1, c1, rfl⟩ := own_shape h
  have H := Lib.hid h
  clear h
  go_enter Try.func100, Try.ntmps100
  go_wp2
  go_loopw [9] (fun i wr => HasSt L x w i wr) (fun i _ => L.length - (intOf i).toNat)
  case atStart => exact ⟨0, rfl, Nat.zero_le _, Lib.hid (fun j _ h => absurd h (Nat.not_lt_zero _)), rfl⟩
  case round =>
    obtain ⟨k, rfl, hk, hno, rfl⟩ := hrel
    by_cases hlt : k < L.length
    · obtain ⟨g1, rfl, e1, d1⟩ := own_elemI H.out hlt
      have hyes := Lib.hid (fun (e : L[k] = x) => (show hasI L x = true from hasI_yes (e ▸ List.getElem_mem hlt)))
      have hnx := Lib.hid (fun (e : L[k] ≠ x) => (show ∀ j (h : j < L.length), j < k + 1 → L[j] ≠ x from fun j h hj => if he : j = k then (by subst he; exact e) else hno.out j h (by omega)))
      generalize L[k] = r at d1 hyes hnx
      by_cases hrx : r = x
      · have Hy := Lib.hid (hyes.out hrx)
        subst hrx
        clear hyes hnx
        go_wp2
        go_ret
        exact ⟨ret_bool Hy.out.symm, rfl⟩
      · have Hn := Lib.hid (hnx.out hrx)
        have hbe : (r == x) = false := by rw [beq_eq_false_iff_ne]; exact hrx
        clear hyes hnx hno
        go_wp2
        go_roundw
        case rel => exact ⟨k + 1, rfl, hlt, Hn, by simp⟩
        case measure => simp [intOf]; omega
    · have Hn := Lib.hid (hasI_no (L := L) (x := x) (fun j h => hno.out j h (by omega)))
      clear hno
      go_wp2
      go_ret
      exact ⟨ret_bool Hn.out.symm, rfl⟩

set_option maxRecDepth 100000 in
set_option maxHeartbeats 1600000 in
theorem l1Own_any (v : Value) (B : Nat) (L : List Int) (w : World) (hl : L.length ≤ 1000000) (h : w.ownsRow B 3 1 v L.length (cellsI L)) :
    Calls Try.prog 130 #[v] w (RetI L w) := by
  obtain ⟨i0, hi, hz0, hz1, hz2⟩ := info_parts infoInt
  have hsh := own_shape h
  obtain ⟨b1, c1, rfl⟩ := hsh
  have hrd2 : Reads w w.heap.size 1 b1 L.length (cellsI L) := Reads.of_own h
  have Hrd := Lib.hid hrd2
  clear h hrd2
  go_enter Try.func130, Try.ntmps130
  go_wp2_with (at_builtin; refine wpList_append_any _ rfl (.tmp 3) (.tmp 4) _ rfl w.heap.size 3 i0 _ 1 8 Try.underlying45 hi hz0 hz1 hz2 rfl (by omega) (.slice (some ⟨w.heap.size, 0, none⟩) 0 0) 0 [] rfl (own_empty (Nat.le_refl _)) w.heap.size b1 L.length _ (cellsI L) rfl (Hrd.out.alloc (Nat.le_refl _) _) (cellsI_one _) (by unfold maxLen; omega) (by omega) (by simp) ?_; intro x1 w1 hown1 hg1 hat1)
  have hb : Below w.heap.size w w1 := Below.grown ((by repeat (first | with_reducible exact Below.refl _ _ | with_reducible assumption | with_reducible apply Below.drew | with_reducible apply below_drewN | (with_reducible apply below_setp; (first | omega | (simp <;> omega))) | (with_reducible apply below_allocp; (first | omega | (simp <;> omega))) | (with_reducible refine below_viap (by assumption) ?_ ?_; (first | omega | (simp <;> omega)))))) hg1 (by simp) (fun q hq => by simp [Value.ownBlock] at hq; omega)
  go_ret
  refine ⟨x1, rfl, ?_, hb⟩
  simpa using hown1
end Go.Proofs.Ytononfokhdmofaa
