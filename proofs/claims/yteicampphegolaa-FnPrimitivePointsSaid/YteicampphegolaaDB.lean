/- Contracts: lists that are the same, as the laws compare them. -/
import Derived.Test.YteicampphegolaaG7
import Derived.Test.YteicampphegolaaN5
import Derived.BigQuiet
namespace Go.Proofs.Yteicampphegolaa
open Go.RowKit

set_option maxRecDepth 100000 in
set_option maxHeartbeats 1600000 in
theorem pSameForms_same (v u : Value) (B B2 : Nat) (L : List Fm) (w : World) (hl : L.length ≤ 10000000) (h1 : w.ownsRow B 35 3 v L.length (cellsF L)) (h2 : w.ownsRow B2 35 3 u L.length (cellsF L)) :
    Calls Try.prog 72 #[v, u] w fun e w' => e = .returned (.bool true) ∧ Below w.heap.size w w' := by
  obtain ⟨b1, c1, rfl⟩ := own_shape h1
  obtain ⟨b2, c2, rfl⟩ := own_shape h2
  have H1 := Lib.hid h1
  have H2 := Lib.hid h2
  clear h1 h2
  go_enter Try.func72, Try.ntmps72
  go_wp2
  go_loopw [13] (fun i wr => ∃ k : Nat, i = .int .i64 k ∧ k ≤ L.length ∧ Below w.heap.size w wr) (fun i _ => L.length - (intOf i).toNat)
  case atStart => exact ⟨0, rfl, Nat.zero_le _, (by repeat (first | with_reducible exact Below.refl _ _ | with_reducible assumption | with_reducible apply Below.drew | with_reducible apply below_drewN | (with_reducible apply below_setp; (first | omega | (simp <;> omega))) | (with_reducible apply below_allocp; (first | omega | (simp <;> omega))) | (with_reducible refine below_viap (by assumption) ?_ ?_; (first | omega | (simp <;> omega)))))⟩
  case round =>
    obtain ⟨k, rfl, hk, hbel⟩ := hrel
    by_cases hlt : k < L.length
    · obtain ⟨g1, rfl, hg1, d1, d2, d3⟩ := own_elem H1.out hlt
      obtain ⟨g2, rfl, hg2, e1, e2, e3⟩ := own_elem H2.out hlt
      have d4 := (hbel.cell (p := ⟨g1, k * 3, none⟩) hg1).trans d1
      have d5 := (hbel.cell (p := ⟨g1, k * 3 + 1, none⟩) hg1).trans d2
      have d6 := (hbel.cell (p := ⟨g1, k * 3 + 2, none⟩) hg1).trans d3
      have e4 := (hbel.cell (p := ⟨g2, k * 3, none⟩) hg2).trans e1
      have e5 := (hbel.cell (p := ⟨g2, k * 3 + 1, none⟩) hg2).trans e2
      have e6 := (hbel.cell (p := ⟨g2, k * 3 + 2, none⟩) hg2).trans e3
      clear d1 d2 d3 e1 e2 e3
      generalize L[k].a = r at d4 e4
      generalize L[k].b = s at d5 e5
      generalize L[k].c = t at d6 e6
      have hz := hbel.size
      have hg3 : g1 < wr.heap.size := by omega
      have hg4 : g2 < wr.heap.size := by omega
      go_wp2
      go_quiet (fail)
      go_wp2
      exact ⟨⟨k + 1, rfl, hlt, (by repeat (first | with_reducible exact Below.refl _ _ | with_reducible assumption | with_reducible apply Below.drew | with_reducible apply below_drewN | (with_reducible apply below_setp; (first | omega | (simp <;> omega))) | (with_reducible apply below_allocp; (first | omega | (simp <;> omega))) | (with_reducible refine below_viap (by assumption) ?_ ?_; (first | omega | (simp <;> omega)))))⟩, by simp [intOf]; omega⟩
    · go_wp2
      go_ret
      exact ⟨rfl, hbel⟩
set_option maxRecDepth 100000 in
set_option maxHeartbeats 1600000 in
theorem sameInts_same (v u : Value) (B B2 : Nat) (L : List Int) (w : World) (hl : L.length ≤ 10000000) (h1 : w.ownsRow B 3 1 v L.length (cellsI L)) (h2 : w.ownsRow B2 3 1 u L.length (cellsI L)) :
    Calls Try.prog 50 #[v, u] w fun e w' => e = .returned (.bool true) ∧ Below w.heap.size w w' := by
  obtain ⟨b1, c1, rfl⟩ := own_shape h1
  obtain ⟨b2, c2, rfl⟩ := own_shape h2
  have H1 := Lib.hid h1
  have H2 := Lib.hid h2
  clear h1 h2
  go_enter Try.func50, Try.ntmps50
  go_wp2
  go_loopw [13] (fun i wr => ∃ k : Nat, i = .int .i64 k ∧ k ≤ L.length ∧ Below w.heap.size w wr) (fun i _ => L.length - (intOf i).toNat)
  case atStart => exact ⟨0, rfl, Nat.zero_le _, (by repeat (first | with_reducible exact Below.refl _ _ | with_reducible assumption | with_reducible apply Below.drew | with_reducible apply below_drewN | (with_reducible apply below_setp; (first | omega | (simp <;> omega))) | (with_reducible apply below_allocp; (first | omega | (simp <;> omega))) | (with_reducible refine below_viap (by assumption) ?_ ?_; (first | omega | (simp <;> omega)))))⟩
  case round =>
    obtain ⟨k, rfl, hk, hbel⟩ := hrel
    by_cases hlt : k < L.length
    · obtain ⟨g1, rfl, hg1, d1⟩ := own_elemI H1.out hlt
      obtain ⟨g2, rfl, hg2, e1⟩ := own_elemI H2.out hlt
      have d4 := (hbel.cell (p := ⟨g1, k, none⟩) hg1).trans d1
      have e4 := (hbel.cell (p := ⟨g2, k, none⟩) hg2).trans e1
      clear d1 e1
      generalize L[k] = r at d4 e4
      have hz := hbel.size
      have hg3 : g1 < wr.heap.size := by omega
      have hg4 : g2 < wr.heap.size := by omega
      go_wp2
      go_quiet (fail)
      go_wp2
      exact ⟨⟨k + 1, rfl, hlt, (by repeat (first | with_reducible exact Below.refl _ _ | with_reducible assumption | with_reducible apply Below.drew | with_reducible apply below_drewN | (with_reducible apply below_setp; (first | omega | (simp <;> omega))) | (with_reducible apply below_allocp; (first | omega | (simp <;> omega))) | (with_reducible refine below_viap (by assumption) ?_ ?_; (first | omega | (simp <;> omega)))))⟩, by simp [intOf]; omega⟩
    · go_wp2
      go_ret
      exact ⟨rfl, hbel⟩
end Go.Proofs.Yteicampphegolaa
