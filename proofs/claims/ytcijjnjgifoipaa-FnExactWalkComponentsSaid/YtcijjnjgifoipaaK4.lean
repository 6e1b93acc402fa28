/- Contracts of the reference: the index of a form, the forms at some indices, the powers of classes. -/
import Derived.Test.YtcijjnjgifoipaaK3
import Derived.Test.YtcijjnjgifoipaaGG
namespace Go.Proofs.Ytcijjnjgifoipaa
open Go.RowKit

def GixSt (L : List Fm) (f : Fm) (B : Nat) (v : Value) (w : World) (vi : Value) (wr : World) : Prop :=
  ∃ k : Nat, vi = .int .i64 k ∧ k ≤ L.length ∧ Hid (∀ j (h : j < L.length), j < k → L[j] ≠ f) ∧ wr.ownsRow B 32 3 v L.length (cellsF L) ∧
    Blk wr w.heap.size 32 #[.int .i64 f.a, .int .i64 f.b, .int .i64 f.c] ∧ Below w.heap.size w wr

set_option maxRecDepth 100000 in
set_option maxHeartbeats 1600000 in
theorem grIndex_any (v : Value) (B : Nat) (L : List Fm) (f : Fm) (w : World) (hl : L.length ≤ 100000) (h : w.ownsRow B 32 3 v L.length (cellsF L)) :
    Calls Try.prog 67 #[v, .agg #[.int .i64 f.a, .int .i64 f.b, .int .i64 f.c]] w fun e w' => e = .returned (.int .i64 (gix L f)) ∧ Below w.heap.size w w' := by
  obtain ⟨base, cap, rfl⟩ := own_shape h
  have H := Lib.hid h
  clear h
  go_enter Try.func67, Try.ntmps67
  go_wp2
  go_loopw [9] (fun i wr => GixSt L f B (.slice base L.length cap) w i wr) (fun i _ => L.length - (intOf i).toNat)
  case atStart => exact ⟨0, rfl, Nat.zero_le _, Lib.hid (fun j _ hj => absurd hj (Nat.not_lt_zero _)), own_alloc H.out, Blk.new _ _ _, (by repeat (first | with_reducible exact Below.refl _ _ | with_reducible assumption | with_reducible apply Below.drew | with_reducible apply below_drewN | (with_reducible apply below_setp; (first | omega | (simp <;> omega))) | (with_reducible apply below_allocp; (first | omega | (simp <;> omega))) | (with_reducible refine below_viap (by assumption) ?_ ?_; (first | omega | (simp <;> omega)))))⟩
  case round =>
    clear H
    obtain ⟨k, rfl, hk, hno, howl, hblk, hbel⟩ := hrel
    have hz := hbel.size
    have hC := hblk.cell; have hF := hblk.frozen; have hlt0 := hblk.lt
    by_cases hlt : k < L.length
    · obtain ⟨g, rfl, hg2, d1, d2, d3⟩ := own_elem howl hlt
      have hat := Lib.hid (fun (e : L[k] = f) => gix_at hlt e hno.out)
      have hnx := Lib.hid (fun (e : L[k] ≠ f) => (show ∀ j (h : j < L.length), j < k + 1 → L[j] ≠ f from fun j h hj => if he : j = k then (by subst he; exact e) else hno.out j h (by omega)))
      generalize L[k] = r at d1 d2 d3 hat hnx
      rcases fm_cases r f with ⟨rfl, hv⟩ | ⟨hv, e1⟩ | ⟨hv, e1, e2⟩ | ⟨hv, e1, e2, e3⟩
      · have Hat := Lib.hid (hat.out rfl)
        clear hat hnx hv
        go_wp2
        go_ret
        exact ⟨ret_int Hat.out.symm, (by repeat (first | with_reducible exact Below.refl _ _ | with_reducible assumption | with_reducible apply Below.drew | with_reducible apply below_drewN | (with_reducible apply below_setp; (first | omega | (simp <;> omega))) | (with_reducible apply below_allocp; (first | omega | (simp <;> omega))) | (with_reducible refine below_viap (by assumption) ?_ ?_; (first | omega | (simp <;> omega)))))⟩
      all_goals
        have Hnx := Lib.hid (hnx.out ((fmEq_no _ _).1 hv))
        clear hat hnx hv hno
        go_wp2
        exact ⟨⟨k + 1, rfl, hlt, Hnx, own_alloc howl, Blk.allocp hblk, (by repeat (first | with_reducible exact Below.refl _ _ | with_reducible assumption | with_reducible apply Below.drew | with_reducible apply below_drewN | (with_reducible apply below_setp; (first | omega | (simp <;> omega))) | (with_reducible apply below_allocp; (first | omega | (simp <;> omega))) | (with_reducible refine below_viap (by assumption) ?_ ?_; (first | omega | (simp <;> omega)))))⟩, by simp [intOf]; omega⟩
    · have Hno := Lib.hid (gix_no (L := L) (f := f) (fun j h => hno.out j h (by omega)))
      clear hno
      go_wp2
      go_ret
      exact ⟨ret_int Hno.out.symm, hbel⟩
end Go.Proofs.Ytcijjnjgifoipaa
