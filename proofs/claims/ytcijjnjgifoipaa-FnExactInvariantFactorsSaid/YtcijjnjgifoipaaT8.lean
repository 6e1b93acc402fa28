/- Contracts of ClassesOfOrder, of the reference: the orders by the table. -/
import Derived.Test.YtcijjnjgifoipaaT7
import Derived.Test.YtcijjnjgifoipaaT5
namespace Go.Proofs.Ytcijjnjgifoipaa
open Go.RowKit

theorem own_elem2 {w : World} {B : Nat} {e : TypeId} {vl : Value} {L : List Fm} (h : w.ownsRow B e 3 vl L.length (cellsF L)) {k : Nat} (hk : k < L.length) :
    ∃ g cl, vl = .slice (some ⟨g, 0, none⟩) L.length cl ∧ g < w.heap.size ∧ w.cell? ⟨g, k * 3, none⟩ = some (.int .i64 L[k].a) ∧ w.cell? ⟨g, k * 3 + 1, none⟩ = some (.int .i64 L[k].b) ∧ w.cell? ⟨g, k * 3 + 2, none⟩ = some (.int .i64 L[k].c) := by
  obtain ⟨base, cap, rfl⟩ := own_shape h
  obtain ⟨g, rfl, h2, h3⟩ := own_elem h hk
  exact ⟨g, cap, rfl, h2, h3⟩
def GroSt (d : Int) (L : List Fm) (f : Fm) (N : Nat) (w : World) (vk vj : Value) (wr : World) : Prop :=
  ∃ n : Nat, 1 ≤ n ∧ n ≤ N ∧ vk = .int .i64 n ∧ vj = .int .i64 (gix L (pw d f n)) ∧ w = wr

set_option maxRecDepth 100000 in
set_option maxHeartbeats 1600000 in
theorem grOrder_any (d : Int) (i N : Nat) (L : List Fm) (B : Nat) (base : Option Addr) (cap : Nat) (w : World) (hD : Dsc d) (hL : clsL d = L) (hi : i < L.length) (hN : IsOrd d L[i] N) (hN2 : N ≤ 1640) (ht : Tab d L B (.slice base L.length cap) w) :
    Calls Try.prog 66 #[.slice base L.length cap, .int .i64 i] w fun e w' => e = .returned (.int .i64 N) ∧ w = w' := by
  have hl : L.length ≤ 100000 := by rw [← hL]; exact Nat.le_trans (clsL_len d) (by decide)
  have hmi : L[i] ∈ clsL d := by rw [hL]; exact List.getElem_mem hi
  have hE := Lib.hid (fun (m : Nat) (hm : m < L.length) => ht.elem hm hi)
  have hgi : gix L (pw d L[i] 1) = i := by
    rw [hD.pw_one hmi]
    exact gix_get (hL ▸ clsL_nodup d) hi
  generalize L[i] = f at *
  have hst := Lib.hid (fun n (h1 : 1 ≤ n) (h2 : n ≤ N) => (show (gix L (pw d f n) = 0 ↔ n = N) from by
    have := gix_zero hD (hD.pwm hmi n)
    rw [hL] at this
    exact this.trans (ord_ne hN h1 h2)))
  have hel := Lib.hid (fun n => (show ∃ m : Nat, ∃ h : m < L.length, gix L (pw d f n) = m ∧ L[m] = pw d f n from by
    obtain ⟨m, a, b, c⟩ := gix_mem (L := L) (f := pw d f n) (by rw [← hL]; exact hD.pwm hmi n)
    exact ⟨m, a, c, b⟩))
  have Hn1 := hN.1
  clear hN hD hmi ht hL
  go_enter Try.func66, Try.ntmps66
  go_wp2
  go_loopw [5, 6] (fun vk vj wr => GroSt d L f N w vk vj wr) (fun vk _ _ => N - (intOf vk).toNat)
  case atStart => exact ⟨1, Nat.le_refl _, Hn1, rfl, by rw [hgi], rfl⟩
  case round =>
    clear hgi
    obtain ⟨n, n1, n2, rfl, rfl, rfl⟩ := hrel
    obtain ⟨m, hm, hgm, hLm⟩ := hel.out n
    have hz0' := hst.out n n1 n2
    rw [hgm] at hz0' ⊢
    by_cases he : n = N
    · have h0 : m = 0 := by have := hz0'.2 he; omega
      subst h0
      subst he
      clear hz0'
      go_wp2
      go_ret
      exact ⟨rfl, rfl⟩
    · have h00 : ¬ m = 0 := by intro h; exact he (hz0'.1 (by omega))
      have hnN : n < N := by omega
      obtain ⟨G, g, c, rfl, hG, cG, hg, cg⟩ := hE.out m hm
      rw [hLm] at cg
      clear hz0' he
      go_wp2
      go_roundw
      case rel => exact ⟨n + 1, by omega, hnN, by simp, rfl, rfl⟩
      case measure => simp [intOf]; omega

noncomputable def ordQ (d : Int) (L : List Fm) (q : Nat) (j : Nat) : Value := if j < q then .int .i64 (ordF d (L.getD j ⟨0, 0, 0⟩) : Int) else .int .i64 0
theorem ordQ_next {d : Int} {L : List Fm} {q : Nat} (h : q < L.length) : ∀ j, (if j = q then Value.int .i64 (ordF d L[q] : Int) else ordQ d L q j) = ordQ d L (q + 1) j := by
  intro j
  unfold ordQ
  by_cases e : j = q
  · subst e
    rw [if_pos rfl, if_pos (by omega)]
    simp [List.getD_eq_getElem?_getD, h]
  · rw [if_neg e]
    by_cases h1 : j < q
    · rw [if_pos h1, if_pos (by omega)]
    · rw [if_neg h1, if_neg (by omega)]
theorem ordQ_full {d : Int} {L : List Fm} : ∀ i, i < L.length → (cellsI (ordsL d L))[i]? = some (ordQ d L L.length i) := by
  intro i hi
  unfold ordQ ordsL cellsI
  rw [if_pos hi]
  simp [List.getD_eq_getElem?_getD, hi]
def GrsSt (d : Int) (L : List Fm) (w : World) (vi : Value) (wr : World) : Prop :=
  ∃ q : Nat, vi = .int .i64 q ∧ q ≤ L.length ∧ Hid (wr.rowIs w.heap.size 3 L.length (ordQ d L q)) ∧ w.heap.size < wr.heap.size ∧ Below w.heap.size w wr

set_option maxRecDepth 100000 in
set_option maxHeartbeats 1600000 in
theorem grOrders_any (d : Int) (L : List Fm) (B : Nat) (base : Option Addr) (cap : Nat) (w : World) (hD : Dsc d) (hL : clsL d = L) (ht : Tab d L B (.slice base L.length cap) w) :
    Calls Try.prog 31 #[.slice base L.length cap] w (RetI (ordsL d L) w) := by
  have hl : L.length ≤ 100000 := by rw [← hL]; exact Nat.le_trans (clsL_len d) (by decide)
  have hO := Lib.hid (fun (i : Nat) (hi : i < L.length) (w : World) (ht : Tab d L B (.slice base L.length cap) w) =>
    (show Calls Try.prog 66 #[.slice base L.length cap, .int .i64 i] w (fun e w' => e = .returned (.int .i64 (ordF d L[i] : Nat)) ∧ w = w') from by
      obtain ⟨a, b⟩ := hD.ordm (f := L[i]) (by rw [hL]; exact List.getElem_mem hi)
      exact grOrder_any d i _ L B base cap w hD hL hi a b ht))
  have HT := Lib.hid ht
  have hmk2 := run_make_row' (P := Try.prog) 25 3 (.int .i64 0) 8 Try.underlying25 infoInt rfl .i64 .i64 L.length (by omega) (by omega)
  clear hD hL ht
  go_enter Try.func31, Try.ntmps31
  go_wp2
  go_loopw [10] (fun i wr => GrsSt d L w i wr) (fun i _ => L.length - (intOf i).toNat)
  case atStart => exact ⟨0, rfl, Nat.zero_le _, Lib.hid ((World.rowIs_made w _ _ _).congr (fun j _ => by unfold ordQ; simp)), by simp, (by repeat (first | with_reducible exact Below.refl _ _ | with_reducible assumption | with_reducible apply Below.drew | with_reducible apply below_drewN | (with_reducible apply below_setp; (first | omega | (simp <;> omega))) | (with_reducible apply below_allocp; (first | omega | (simp <;> omega))) | (with_reducible refine below_viap (by assumption) ?_ ?_; (first | omega | (simp <;> omega)))))⟩
  case round =>
    obtain ⟨q, rfl, hq, hR, hlt0, hbel⟩ := hrel
    have hz := hbel.size
    by_cases hlt : q < L.length
    · have hO2 := Lib.hid (hO.out q hlt wr (HT.out.call hbel))
      have cR := hR.out.cell hlt
      have fR := hR.out.frozen q
      have hqn := Lib.hid (ordQ_next (d := d) hlt)
      generalize ordQ d L q q = y at cR
      generalize ordF d L[q] = N at hO2 hqn
      go_wp2_with (go_at_call 66; (with_reducible refine (hO2.out).mono ?_); rintro e v ⟨rfl, rfl⟩)
      go_roundw
      case rel => exact ⟨q + 1, rfl, hlt, Lib.hid ((hR.out.set q _).congr (fun j _ => hqn.out j)), by simp; omega, (by repeat (first | with_reducible exact Below.refl _ _ | with_reducible assumption | with_reducible apply Below.drew | with_reducible apply below_drewN | (with_reducible apply below_setp; (first | omega | (simp <;> omega))) | (with_reducible apply below_allocp; (first | omega | (simp <;> omega))) | (with_reducible refine below_viap (by assumption) ?_ ?_; (first | omega | (simp <;> omega)))))⟩
      case measure => simp [intOf]; omega
    · have e : q = L.length := by omega
      subst e
      have hown := rowIs_own (xs := cellsI (ordsL d L)) (B := w.heap.size) hR.out (by rw [cellsI_len, ordsL_len]) ordQ_full (by omega) (by unfold maxLen; omega)
      have Hown := Lib.hid hown
      clear hown hR
      go_wp2
      go_ret
      exact ⟨_, rfl, by rw [ordsL_len]; exact Hown.out, hbel⟩

def CosSt (p : Fm → Bool) (L : List Fm) (w3 : World) (v vi : Value) (wr : World) : Prop :=
  ∃ k : Nat, vi = .int .i64 k ∧ k ≤ L.length ∧ wr.ownsRow w3.heap.size 32 3 v ((L.take k).filter p).length (cellsF ((L.take k).filter p)) ∧ Below w3.heap.size w3 wr

end Go.Proofs.Ytcijjnjgifoipaa
