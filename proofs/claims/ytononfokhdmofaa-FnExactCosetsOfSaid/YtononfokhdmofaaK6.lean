/- Contracts of the reference: the powers of classes. -/
import Derived.Test.YtononfokhdmofaaK5
namespace Go.Proofs.Ytononfokhdmofaa
open Go.RowKit

theorem pows_next {d : Int} {n k : Nat} {L : List Fm} (h : k < L.length) : ixs L ((L.take (k + 1)).map fun g => pw d g n) = putI (ixs L ((L.take k).map fun g => pw d g n)) (gix L (pw d L[k] n)) := by
  rw [List.take_succ_eq_append_getElem h, List.map_append, ← ixs_snoc]; rfl
theorem pows_len {d : Int} {n k : Nat} {L : List Fm} (h : L.length ≤ 100000) : (ixs L ((L.take k).map fun g => pw d g n)).length ≤ 100000 := by
  have := ixs_len L ((L.take k).map fun g => pw d g n) 100000
  rw [List.take_of_length_le (by rw [List.length_map, List.length_take]; omega)] at this
  exact this
theorem pows_all {d : Int} {n : Nat} (D : Dsc d) : frm (clsL d) (ixs (clsL d) ((clsL d).map fun g => pw d g n)) = (clsL d).filter (powP d n (clsL d)) := by
  rw [frm_ixs (clsL_nodup d) (by intro t ht; obtain ⟨g, hg, rfl⟩ := List.mem_map.1 ht; exact D.pwm hg n)]
  congr 1
  funext f
  unfold powP
  rw [List.any_map]; rfl
def GpSt (d : Int) (n : Nat) (L : List Fm) (B N0 : Nat) (vl : Value) (w : World) (v vi : Value) (wr : World) : Prop :=
  ∃ k : Nat, vi = .int .i64 k ∧ k ≤ L.length ∧ wr.ownsRow N0 3 1 v (ixs L ((L.take k).map fun g => pw d g n)).length (cellsI (ixs L ((L.take k).map fun g => pw d g n))) ∧
    wr.ownsRow B 26 3 vl L.length (cellsF L) ∧ N0 ≤ wr.heap.size ∧ Below w.heap.size w wr

set_option maxRecDepth 100000 in
set_option maxHeartbeats 3200000 in
theorem gePowers_any (d : Int) (n : Nat) (w : World) (hD : Dsc d) (hn : (n : Int) ≤ 100) :
    Calls Try.prog 56 #[.int .i64 d, .int .i64 n] w (RetF ((clsL d).filter (powP d n (clsL d))) w) := by
  have hl : (clsL d).length ≤ 100000 := Nat.le_trans (clsL_len d) (by decide)
  have Hr := Lib.hid (fun w => reList_any d w hD.lo hD.hi)
  have hcm := Lib.hid (fun f (h : f ∈ clsL d) => CF.of_mem hD h)
  have hA := Lib.hid (ixs_lt (L := clsL d) (T := (clsL d).map fun g => pw d g n) (by intro t ht; obtain ⟨g, hg, rfl⟩ := List.mem_map.1 ht; exact hD.pwm hg n))
  rw [← pows_all hD]
  generalize clsL d = L at *
  go_enter Try.func56, Try.ntmps56
  go_wp2_with (go_at_call 67; refine (Hr.out _).mono ?_; rintro e w1 ⟨vl, rfl, howl, hb1⟩; obtain ⟨base, cap, rfl⟩ := own_shape howl)
  have hz1' := hb1.size
  obtain ⟨B, hB⟩ : ∃ B : Nat, B = w.heap.size := ⟨_, rfl⟩
  rw [← hB] at howl
  obtain ⟨N0, hN0⟩ : ∃ N0 : Nat, N0 = w1.heap.size := ⟨_, rfl⟩
  go_loopw [6, 13] (fun v i wr => GpSt d n L B N0 (.slice base L.length cap) w v i wr) (fun _ i _ => L.length - (intOf i).toNat)
  case atStart => exact ⟨0, rfl, Nat.zero_le _, World.ownsRow_nil _ _ _ _, howl, by omega, (by repeat (first | with_reducible exact Below.refl _ _ | with_reducible assumption | with_reducible apply Below.drew | with_reducible apply below_drewN | (with_reducible apply below_setp; (first | omega | (simp <;> omega))) | (with_reducible apply below_allocp; (first | omega | (simp <;> omega))) | (with_reducible refine below_viap (by assumption) ?_ ?_; (first | omega | (simp <;> omega)))))⟩
  case round =>
    clear howl hb1
    obtain ⟨k, rfl, hk, hown, howl, hN1, hbel⟩ := hrel
    have hz := hbel.size
    by_cases hlt : k < L.length
    · have hft := pows_next (d := d) (n := n) hlt
      have hql := pows_len (d := d) (n := n) (k := k) hl
      obtain ⟨g, rfl, hg2, d1, d2, d3⟩ := own_elem howl hlt
      have hfm := List.getElem_mem hlt
      generalize L[k] = f at d1 d2 d3 hft hfm
      obtain ⟨P, hP⟩ : ∃ P, pw d f n = P := ⟨_, rfl⟩
      have hW := Lib.hid (fun w => coPower_any d f f P n w (hcm.out f hfm) (by omega) hP)
      rw [hP] at hft
      generalize hQ : ixs L ((L.take k).map fun g => pw d g n) = Q at hft hown hql
      have Hft := Lib.hid hft
      clear hft hfm hP hQ
      go_wp2_with (first
        | (go_at_call 106; (with_reducible refine (hW.out _).mono ?_); rintro e v1 ⟨rfl, hB1⟩; have hZ1 := hB1.size; (try simp at hZ1); (try have zl1 : w.heap.size < v1.heap.size := by omega); (try have ze1 : w.heap.size ≤ v1.heap.size := by omega); (try have zn1 : ¬ w.heap.size = v1.heap.size := by omega); (try have zm1 : ¬ v1.heap.size = w.heap.size := by omega); have hC1_0 := fun o => (calm_cells hB1).1 (wr.heap.size) o (by first | omega | (simp <;> omega)); have hF1_0 := fun o => (calm_cells hB1).2 (wr.heap.size) o (by first | omega | (simp <;> omega)); (try have hl1_0 : wr.heap.size < v1.heap.size := by omega); (try have hm1_0 : ¬ wr.heap.size = v1.heap.size := by omega); (try have hn1_0 : ¬ v1.heap.size = wr.heap.size := by omega))
        | (have hol1 : v1.ownsRow B 26 3 (.slice (some ⟨g, 0, none⟩) L.length cap) L.length (cellsF L) := (by repeat (first | with_reducible assumption | with_reducible apply own_alloc | with_reducible apply own_drew | with_reducible apply own_drewN | (with_reducible refine own_setp (by assumption) ?_ ?_; (first | omega | (simp <;> omega))) | (with_reducible refine own_call (by assumption) ?_)))
           have hon1 : v1.ownsRow N0 3 1 u6 Q.length (cellsI Q) := (by repeat (first | with_reducible assumption | with_reducible apply own_alloc | with_reducible apply own_drew | with_reducible apply own_drewN | (with_reducible refine own_setp (by assumption) ?_ ?_; (first | omega | (simp <;> omega))) | (with_reducible refine own_call (by assumption) ?_)))
           (go_at_call 55; (with_reducible refine (grIndex_any _ B L P _ hl hol1).mono ?_); rintro e v2 ⟨rfl, hB2⟩; have hZ2 := hB2.size; (try simp at hZ2); (try have zl2 : w.heap.size < v2.heap.size := by omega); (try have ze2 : w.heap.size ≤ v2.heap.size := by omega); (try have zn2 : ¬ w.heap.size = v2.heap.size := by omega); (try have zm2 : ¬ v2.heap.size = w.heap.size := by omega); have hC2_0 := fun o => (calm_cells hB2).1 (wr.heap.size) o (by first | omega | (simp <;> omega)); have hF2_0 := fun o => (calm_cells hB2).2 (wr.heap.size) o (by first | omega | (simp <;> omega)); (try have hl2_0 : wr.heap.size < v2.heap.size := by omega); (try have hm2_0 : ¬ wr.heap.size = v2.heap.size := by omega); (try have hn2_0 : ¬ v2.heap.size = wr.heap.size := by omega))
           have hol2 := own_call hB2 hol1
           have hon2 := own_call hB2 hon1)
        | (go_at_call 101; refine (l1Put_any _ N0 Q _ _ (by omega) (by omega) hon2).mono ?_; rintro e w3 ⟨x3, rfl, hon3, _, hB3⟩; have hZ3 := hB3.size))
      have hol3 := own_call hB3 hol2
      have hb3 : Below w.heap.size w w3 := (by repeat (first | with_reducible exact Below.refl _ _ | with_reducible assumption | with_reducible apply Below.drew | with_reducible apply below_drewN | (with_reducible apply below_setp; (first | omega | (simp <;> omega))) | (with_reducible apply below_allocp; (first | omega | (simp <;> omega))) | (with_reducible refine below_viap (by assumption) ?_ ?_; (first | omega | (simp <;> omega)))))
      rw [← Hft.out] at hon3
      clear hown howl hbel
      go_wp2
      go_roundw
      case rel => exact ⟨k + 1, rfl, hlt, hon3, hol3, by omega, hb3⟩
      case measure => simp [intOf]; omega
    · have e : k = L.length := by omega
      have hx : (L.take k).map (fun g => pw d g n) = L.map fun g => pw d g n := by rw [e, List.take_length]
      have hql := pows_len (d := d) (n := n) (k := k) hl
      rw [hx] at hown hql
      subst e
      clear hx
      obtain ⟨A, hAe⟩ : ∃ A, ixs L (L.map fun g => pw d g n) = A := ⟨_, rfl⟩
      rw [hAe] at hown hql hA
      have HAe := Lib.hid hAe
      clear hAe
      go_wp2_with (go_at_call 88; refine (grForms_any _ _ B N0 L A _ hql hA.out howl hown).mono ?_; rintro e w4 ⟨x4, rfl, how4, hB4⟩)
      go_ret
      exact ⟨_, rfl, by rw [HAe.out]; exact own_base (by omega) how4, (by repeat (first | with_reducible exact Below.refl _ _ | with_reducible assumption | with_reducible apply Below.drew | with_reducible apply below_drewN | (with_reducible apply below_setp; (first | omega | (simp <;> omega))) | (with_reducible apply below_allocp; (first | omega | (simp <;> omega))) | (with_reducible refine below_viap (by assumption) ?_ ?_; (first | omega | (simp <;> omega)))))⟩
end Go.Proofs.Ytononfokhdmofaa
