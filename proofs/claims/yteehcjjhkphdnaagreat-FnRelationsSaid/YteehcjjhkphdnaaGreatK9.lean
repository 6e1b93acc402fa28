/- Contracts: whether a list has a form. -/
import Derived.Test.YteehcjjhkphdnaaGreatKX
namespace Go.Proofs.YteehcjjhkphdnaaGreat
open Go.RowKit

/-- Whether L has f. -/
def hasF (L : List Fm) (f : Fm) : Bool := L.any fun g => fmEq g f
theorem hasF_yes {L : List Fm} {f : Fm} (h : f ∈ L) : hasF L f = true := List.any_eq_true.2 ⟨f, h, (fmEq_iff _ _).2 rfl⟩
theorem hasF_no {L : List Fm} {f : Fm} (hno : ∀ j (h : j < L.length), L[j] ≠ f) : hasF L f = false := by
  unfold hasF
  rw [List.any_eq_false]
  intro g hg
  obtain ⟨j, h, rfl⟩ := List.getElem_of_mem hg
  rw [(fmEq_no _ _).2 (hno j h)]; simp
theorem gix_has (L : List Fm) (f : Fm) : decide (0 ≤ gix L f) = hasF L f := gix_nonneg

set_option maxRecDepth 100000 in
set_option maxHeartbeats 1600000 in
theorem hasForm_any (v : Value) (B : Nat) (L : List Fm) (f : Fm) (w : World) (hl : L.length ≤ 100000) (h : w.ownsRow B 36 3 v L.length (cellsF L)) :
    Calls Tryz.prog 113 #[v, .agg #[.int .i64 f.a, .int .i64 f.b, .int .i64 f.c]] w fun e w' => e = .returned (.bool (hasF L f)) ∧ Below w.heap.size w w' := by
  obtain ⟨base, cap, rfl⟩ := own_shape h
  have H := Lib.hid h
  clear h
  go_enter Tryz.func113, Tryz.ntmps113
  go_wp2
  go_loopw [9] (fun i wr => GixSt L f B (.slice base L.length cap) w i wr) (fun i _ => L.length - (intOf i).toNat)
  case atStart => exact ⟨0, rfl, Nat.zero_le _, Lib.hid (fun j _ hj => absurd hj (Nat.not_lt_zero _)), own_alloc H.out, Blk.new _ _ _, (by repeat (first | with_reducible exact Below.refl _ _ | with_reducible assumption | with_reducible apply Below.drew | with_reducible apply below_drewN | (with_reducible apply below_setp; (first | omega | (simp <;> omega))) | (with_reducible apply below_allocp; (first | omega | (simp <;> omega))) | (with_reducible refine below_viap (by assumption) ?_ ?_; (first | omega | (simp <;> omega)))))⟩
  case round =>
    clear H
    obtain ⟨k, rfl, hk, hno, howl, hblk, hbel⟩ := hrel
    have hz := hbel.size
    have hC := hblk.cell; have hF := hblk.frozen; have hlt0 := hblk.lt
    by_cases hlt : k < L.length
    · obtain ⟨g, rfl, hg2, d1, d2, d3⟩ := own_elem howl hlt
      have hm := List.getElem_mem hlt
      have hnx := Lib.hid (fun (e : L[k] ≠ f) => (show ∀ j (h : j < L.length), j < k + 1 → L[j] ≠ f from fun j h hj => if he : j = k then (by subst he; exact e) else hno.out j h (by omega)))
      generalize L[k] = r at d1 d2 d3 hm hnx
      rcases fm_cases f r with ⟨rfl, hv⟩ | ⟨hv, e1⟩ | ⟨hv, e1, e2⟩ | ⟨hv, e1, e2, e3⟩
      · have Hat := Lib.hid (hasF_yes hm)
        clear hm hnx hv
        go_wp2
        go_ret
        exact ⟨ret_bool Hat.out.symm, (by repeat (first | with_reducible exact Below.refl _ _ | with_reducible assumption | with_reducible apply Below.drew | with_reducible apply below_drewN | (with_reducible apply below_setp; (first | omega | (simp <;> omega))) | (with_reducible apply below_allocp; (first | omega | (simp <;> omega))) | (with_reducible refine below_viap (by assumption) ?_ ?_; (first | omega | (simp <;> omega)))))⟩
      all_goals
        have Hnx := Lib.hid (hnx.out (Ne.symm ((fmEq_no _ _).1 hv)))
        clear hm hnx hv hno
        go_wp2
        exact ⟨⟨k + 1, rfl, hlt, Hnx, own_alloc howl, Blk.allocp hblk, (by repeat (first | with_reducible exact Below.refl _ _ | with_reducible assumption | with_reducible apply Below.drew | with_reducible apply below_drewN | (with_reducible apply below_setp; (first | omega | (simp <;> omega))) | (with_reducible apply below_allocp; (first | omega | (simp <;> omega))) | (with_reducible refine below_viap (by assumption) ?_ ?_; (first | omega | (simp <;> omega)))))⟩, by simp [intOf]; omega⟩
    · have Hno := Lib.hid (hasF_no (L := L) (f := f) (fun j h => hno.out j h (by omega)))
      clear hno
      go_wp2
      go_ret
      exact ⟨ret_bool Hno.out.symm, hbel⟩
end Go.Proofs.YteehcjjhkphdnaaGreat
