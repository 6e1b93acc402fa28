/- Contracts: lists that are the same, as the laws compare them. -/
import Derived.Test.YtdaofpjanklmeaaG7
import Derived.Test.YtdaofpjanklmeaaN5
import Derived.BigQuiet
namespace Go.Proofs.Ytdaofpjanklmeaa
open Go.RowKit

set_option maxRecDepth 100000 in
set_option maxHeartbeats 1600000 in
theorem sameInts_same (v u : Value) (B B2 : Nat) (L : List Int) (w : World) (hl : L.length ≤ 10000000) (h1 : w.ownsRow B 3 1 v L.length (cellsI L)) (h2 : w.ownsRow B2 3 1 u L.length (cellsI L)) :
    Calls Try.prog 38 #[v, u] w fun e w' => e = .returned (.bool true) ∧ Below w.heap.size w w' := by
  obtain ⟨b1, c1, rfl⟩ := own_shape h1
  obtain ⟨b2, c2, rfl⟩ := own_shape h2
  have H1 := Lib.hid h1
  have H2 := Lib.hid h2
  clear h1 h2
  go_enter Try.func38, Try.ntmps38
  go_wp2
  go_loopw [13] (fun i wr => ∃ k : Nat, i = .int .i64 k ∧ k ≤ L.length ∧ Below w.heap.size w wr) (fun i _ => L.length - (intOf i).toNat)
  case atStart => exact ⟨0, rfl, Nat.zero_le _, (by repeat (first | with_reducible exact Below.refl _ _ | with_reducible assumption | with_reducible apply Below.drew | with_reducible apply below_drewN | (with_reducible apply below_setp; (first | omega | (simp <;> omega))) | (with_reducible apply below_allocp; (first | omega | (simp <;> omega))) | (with_reducible refine below_viap (by assumption) ?_ ?_; (first | omega | (simp <;> omega)))))⟩
  case round =>
    obtain ⟨k, rfl, hk, hbel⟩ := hrel
    by_cases hlt : k < L.length
    · obtain ⟨g1, rfl, hg1, d1⟩ := own_elemI H1.out hlt
      obtain ⟨g2, rfl, hg2, e1⟩ := own_elemI H2.out hlt
      have d4 := (hbel.cell (p := ⟨g1, k, none⟩) hg1).trans d1
      have e4 := (hbel.cell (p := ⟨g2, k, none⟩) hg2).trans e1
      clear d1 e1
      generalize L[k] = r at d4 e4
      have hz := hbel.size
      have hg3 : g1 < wr.heap.size := by omega
      have hg4 : g2 < wr.heap.size := by omega
      go_wp2
      go_quiet (fail)
      go_wp2
      exact ⟨⟨k + 1, rfl, hlt, (by repeat (first | with_reducible exact Below.refl _ _ | with_reducible assumption | with_reducible apply Below.drew | with_reducible apply below_drewN | (with_reducible apply below_setp; (first | omega | (simp <;> omega))) | (with_reducible apply below_allocp; (first | omega | (simp <;> omega))) | (with_reducible refine below_viap (by assumption) ?_ ?_; (first | omega | (simp <;> omega)))))⟩, by simp [intOf]; omega⟩
    · go_wp2
      go_ret
      exact ⟨rfl, hbel⟩
end Go.Proofs.Ytdaofpjanklmeaa
