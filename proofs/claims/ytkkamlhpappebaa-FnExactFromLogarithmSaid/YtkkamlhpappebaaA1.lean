/- Words: a slice of integers that came in; contracts: its copy. -/
import Derived.Test.YtkkamlhpappebaaN11
import Derived.Test.YtkkamlhpappebaaTZ
import Derived.Test.YtkkamlhpappebaaW4
namespace Go.Proofs.Ytkkamlhpappebaa
open Go.RowKit

theorem lt_of_cell {w : World} {a : Addr} {u : Value} (h : w.cell? a = some u) : a.block < w.heap.size := by
  apply Nat.lt_of_not_le
  intro hle
  have : w.heap[a.block]? = none := by simp [hle]
  simp [World.cell?, this] at h
/-- The value v is a slice that reads as zs. -/
def RdI (zs : List Int) (v : Value) (w : World) : Prop :=
  ∃ (A : Option Addr) (cap : Nat), v = .slice A zs.length cap ∧ ∀ i (h : i < zs.length), ∃ a, A = some a ∧ w.cell? (a.add i) = some (.int .i64 zs[i])
theorem RdI.call {zs : List Int} {v : Value} {w w' : World} (h : RdI zs v w) (hb : Below w.heap.size w w') : RdI zs v w' := by
  obtain ⟨A, cap, rfl, hc⟩ := h
  refine ⟨A, cap, rfl, fun i hi => ?_⟩
  obtain ⟨a, rfl, ha⟩ := hc i hi
  exact ⟨a, rfl, (hb.cell (lt_of_cell ha)).trans ha⟩
/-- The copy while it is made. -/
def copyQ (zs : List Int) (q j : Nat) : Value := if j < q then .int .i64 (zs.getD j 0) else .int .i64 0
theorem copyQ_next {zs : List Int} {q : Nat} (h : q < zs.length) : ∀ j, (if j = q then Value.int .i64 zs[q] else copyQ zs q j) = copyQ zs (q + 1) j := by
  intro j
  unfold copyQ
  by_cases e : j = q
  · subst e
    rw [if_pos rfl, if_pos (by omega)]
    simp [List.getD_eq_getElem?_getD, h]
  · rw [if_neg e]
    by_cases h1 : j < q
    · rw [if_pos h1, if_pos (by omega)]
    · rw [if_neg h1, if_neg (by omega)]
theorem copyQ_full {zs : List Int} : ∀ i, i < zs.length → (cellsI zs)[i]? = some (copyQ zs zs.length i) := by
  intro i hi
  unfold copyQ cellsI
  rw [if_pos hi]
  simp [List.getD_eq_getElem?_getD, hi]
def CpSt (zs : List Int) (w : World) (vi : Value) (wr : World) : Prop :=
  ∃ q : Nat, vi = .int .i64 q ∧ q ≤ zs.length ∧ Hid (wr.rowIs w.heap.size 3 zs.length (copyQ zs q)) ∧ w.heap.size < wr.heap.size ∧ Below w.heap.size w wr

set_option maxRecDepth 100000 in
set_option maxHeartbeats 1600000 in
theorem toIntS_any (zs : List Int) (v : Value) (w : World) (hl : zs.length ≤ 1048576) (h : RdI zs v w) :
    Calls Try.prog 64 #[v] w (RetI zs w) := by
  have H := Lib.hid h
  obtain ⟨A, cap, rfl, _⟩ := h
  have hmk2 := run_make_row' (P := Try.prog) 30 3 (.int .i64 0) 8 Try.underlying30 infoInt rfl .i64 .i64 zs.length (by omega) (by omega)
  go_enter Try.func64, Try.ntmps64
  go_wp2
  go_loopw [4] (fun i wr => CpSt zs w i wr) (fun i _ => zs.length - (intOf i).toNat)
  case atStart => exact ⟨0, rfl, Nat.zero_le _, Lib.hid ((World.rowIs_made w _ _ _).congr (fun j _ => by unfold copyQ; simp)), by simp, (by repeat (first | with_reducible exact Below.refl _ _ | with_reducible assumption | with_reducible apply Below.drew | with_reducible apply below_drewN | (with_reducible apply below_setp; (first | omega | (simp <;> omega))) | (with_reducible apply below_allocp; (first | omega | (simp <;> omega))) | (with_reducible refine below_viap (by assumption) ?_ ?_; (first | omega | (simp <;> omega)))))⟩
  case round =>
    obtain ⟨q, rfl, hq, hR, hlt0, hbel⟩ := hrel
    have hz := hbel.size
    by_cases hlt : q < zs.length
    · obtain ⟨A2, cap2, hA2, hc2⟩ := H.out.call hbel
      injection hA2 with e1 e2 e3
      subst e1; subst e3
      obtain ⟨a, rfl, ha⟩ := hc2 q hlt
      have cR := hR.out.cell hlt
      have fR := hR.out.frozen q
      have hqn := Lib.hid (copyQ_next hlt)
      generalize copyQ zs q q = y at cR
      generalize zs[q] = x at ha hqn
      clear hc2
      go_wp2
      go_roundw
      case rel => exact ⟨q + 1, rfl, hlt, Lib.hid ((hR.out.set q _).congr (fun j _ => hqn.out j)), by simp; omega, (by repeat (first | with_reducible exact Below.refl _ _ | with_reducible assumption | with_reducible apply Below.drew | with_reducible apply below_drewN | (with_reducible apply below_setp; (first | omega | (simp <;> omega))) | (with_reducible apply below_allocp; (first | omega | (simp <;> omega))) | (with_reducible refine below_viap (by assumption) ?_ ?_; (first | omega | (simp <;> omega)))))⟩
      case measure => simp [intOf]; omega
    · have e : q = zs.length := by omega
      have hown := rowIs_own (xs := cellsI zs) (B := w.heap.size) hR.out (by rw [cellsI_len]) (e ▸ copyQ_full) (Nat.le_refl _) (by unfold maxLen; omega)
      have Hown := Lib.hid hown
      clear hown hR
      subst e
      go_wp2
      go_ret
      exact ⟨_, rfl, Hown.out, hbel⟩
end Go.Proofs.Ytkkamlhpappebaa
