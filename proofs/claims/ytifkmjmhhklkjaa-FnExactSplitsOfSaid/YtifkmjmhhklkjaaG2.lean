/- Contracts: the reference's list of all reduced forms of a discriminant. -/
import Derived.Test.YtifkmjmhhklkjaaG1
namespace Go.Proofs.Ytifkmjmhhklkjaa
open Go.RowKit

theorem disc_quot {a b d : Int} : disc ⟨a, b, (b * b - d) / (4 * a)⟩ = d ↔ (b * b - d) % (4 * a) = 0 := by
  have := Int.emod_add_mul_ediv (b * b - d) (4 * a)
  rw [← disc_eq]
  omega

set_option maxHeartbeats 1600000 in
theorem reAll_any (d : Int) (w : World) (hd1 : -2000 ≤ d) (hd2 : d ≤ -3) : Calls Try.prog 108 #[.int .i64 d] w (RetF (allR d) w) := by
  obtain ⟨i0, hi, hz0, hz1, hz2⟩ := info_parts infoForm
  go_enter Try.func108, Try.ntmps108
  go_wp2
  go_loopw [3, 4] (fun v a wr => AllSt d w v a wr) (fun _ a _ => (100 - intOf a).toNat)
  case atStart => exact ⟨0, 1, rfl, Lib.hid rfl, by omega, by omega, Lib.hid (.inl rfl), World.ownsRow_nil _ _ _ _, (by repeat (first | with_reducible exact Below.refl _ _ | with_reducible assumption | with_reducible apply Below.drew | with_reducible apply below_drewN | (with_reducible apply below_setp; (first | omega | (simp <;> omega))) | (with_reducible apply below_allocp; (first | omega | (simp <;> omega))) | (with_reducible refine below_viap (by assumption) ?_ ?_; (first | omega | (simp <;> omega)))))⟩
  case round =>
    obtain ⟨k, a, rfl, hka, ha1, ha2, hkd, hown, hbel⟩ := hrel
    have hsq := sq_bd (a := a) (by omega) (by omega)
    have h3 : 3 * a * a = 3 * (a * a) := Int.mul_assoc _ _ _
    have h3a : 0 ≤ 3 * a * a := by omega
    have h3b : 3 * a * a ≤ 4800 := by omega
    clear h3 hsq
    by_cases htest : 3 * a * a ≤ -d
    · go_wp2
      obtain ⟨wo, rfl⟩ : ∃ wo : World, wo = wr := ⟨_, rfl⟩
      go_loopw [3, 5] (fun v b wx => RowSt d a k w v b wx) (fun _ b _ => (100 - intOf b).toNat)
      case atStart =>
        have e : allF d k = allF d k ++ rowF d a 0 := by simp [rowF]
        refine ⟨0, 1 - a, rfl, Lib.hid (by simp), by omega, by omega, by omega, ?_, hbel⟩
        rw [← e]; exact hown
      case round =>
        clear hown hbel
        obtain ⟨j, b, rfl, hjb, hj, hb1, hb2, hown, hbel⟩ := hrel
        have hbb := sq_bd hb1 hb2
        obtain ⟨hbb1, hbb2⟩ := hbb
        have hz := hbel.size
        by_cases hba : b ≤ a
        · have hjlt : (j : Int) < 2 * a := by have := hjb.out; omega
          have e4 : (4 * a == 0) = false := by rw [beq_eq_false_iff_ne]; omega
          have e5 : ¬ 4 * a = 0 := by omega
          have hq1 : 0 ≤ (b * b - d) / (4 * a) := Int.ediv_nonneg (by omega) (by omega)
          have hq2 : (b * b - d) / (4 * a) ≤ b * b - d := Int.ediv_le_self _ (by omega)
          have hpr := mul_bd (a := 4 * a) (x := (b * b - d) / (4 * a)) (A := 120) (X := 4000) (by omega) (by omega) (by omega) (by omega)
          have f1 : Far (b * b) := ⟨by omega, by omega⟩
          have f2 : Far (4 * a) := ⟨by omega, by omega⟩
          have f3 : Far (4 * a * ((b * b - d) / (4 * a))) := ⟨by omega, by omega⟩
          have hdq := disc_quot (a := a) (b := b) (d := d)
          clear hpr
          by_cases hm : (b * b - d) % (4 * a) = 0
          · have e1 : (disc ⟨a, b, (b * b - d) / (4 * a)⟩ == d) = true := by rw [beq_iff_eq]; exact hdq.2 hm
            clear hdq
            cases hred : isRed a b ((b * b - d) / (4 * a)) with
            | true =>
              have hx := Lib.hid (row_take (L := allF d k) hjb.out (cand_yes hm hred))
              have hl := lens d a k j (by have := hka.out; omega) (by omega)
              have hjb2 := Lib.hid (show b + 1 = 1 - a + ((j + 1 : Nat) : Int) by have := hjb.out; omega)
              clear hm hjb
              go_wp2_with (first
                | (go_at_call 72; (with_reducible refine (sdisc_any a b ((b * b - d) / (4 * a)) _ f1 f2 f3).mono ?_); rintro e v1 ⟨rfl, hB1⟩; have hZ1 := hB1.size; (try simp at hZ1); (try have zl1 : w.heap.size < v1.heap.size := by omega); (try have ze1 : w.heap.size ≤ v1.heap.size := by omega); (try have zn1 : ¬ w.heap.size = v1.heap.size := by omega); (try have zm1 : ¬ v1.heap.size = w.heap.size := by omega); have hC1_0 := fun o => (calm_cells hB1).1 (wr.heap.size) o (by first | omega | (simp <;> omega)); have hF1_0 := fun o => (calm_cells hB1).2 (wr.heap.size) o (by first | omega | (simp <;> omega)); (try have hl1_0 : wr.heap.size < v1.heap.size := by omega); (try have hm1_0 : ¬ wr.heap.size = v1.heap.size := by omega); (try have hn1_0 : ¬ v1.heap.size = wr.heap.size := by omega))
                | (go_at_call 116; (with_reducible refine (reIs_any a b ((b * b - d) / (4 * a)) _ (by omega) (by omega)).mono ?_); rw [hred]; rintro e v2 ⟨rfl, hB2⟩; have hZ2 := hB2.size; (try simp at hZ2); (try have zl2 : w.heap.size < v2.heap.size := by omega); (try have ze2 : w.heap.size ≤ v2.heap.size := by omega); (try have zn2 : ¬ w.heap.size = v2.heap.size := by omega); (try have zm2 : ¬ v2.heap.size = w.heap.size := by omega); have hC2_0 := fun o => (calm_cells hB2).1 (wr.heap.size) o (by first | omega | (simp <;> omega)); have hF2_0 := fun o => (calm_cells hB2).2 (wr.heap.size) o (by first | omega | (simp <;> omega)); (try have hl2_0 : wr.heap.size < v2.heap.size := by omega); (try have hm2_0 : ¬ wr.heap.size = v2.heap.size := by omega); (try have hn2_0 : ¬ v2.heap.size = wr.heap.size := by omega))
                | (at_builtin; refine wpList_append_own _ rfl (.tmp 42) (.tmp 44) 51 rfl w.heap.size 23 i0 _ 3 24 Try.underlying51 hi hz0 hz1 hz2 rfl (by decide) u3 (allF d k ++ rowF d a j).length (cellsF (allF d k ++ rowF d a j)) rfl ?_ ⟨v2.heap.size, 0, none⟩ 1 1 [.int .i64 a, .int .i64 b, .int .i64 ((b * b - d) / (4 * a))] rfl rfl ?_ (one3 _ _ _) ?_ ?_ ?_ ?_; exact (by repeat (first | with_reducible assumption | with_reducible apply own_alloc | with_reducible apply own_drew | with_reducible apply own_drewN | (with_reducible refine own_setp (by assumption) ?_ ?_; (first | omega | (simp <;> omega))) | (with_reducible refine own_call (by assumption) ?_))); exact cells3 (Blk.new _ _ _); (unfold maxLen; omega); omega; (simp; omega); intro v5 w2 hown2 hg2 _))
              have hb2 : Below w.heap.size w w2 := below_grown (own_ge hown) (by simp; omega) hg2 (by repeat (first | with_reducible exact Below.refl _ _ | with_reducible assumption | with_reducible apply Below.drew | with_reducible apply below_drewN | (with_reducible apply below_setp; (first | omega | (simp <;> omega))) | (with_reducible apply below_allocp; (first | omega | (simp <;> omega))) | (with_reducible refine below_viap (by assumption) ?_ ?_; (first | omega | (simp <;> omega)))))
              have ho2 := own_snoc hx.out hown2
              clear hg2 hown2 hown hbel
              go_wp2
              go_roundw
              case rel => exact ⟨j + 1, b + 1, rfl, hjb2, by omega, by omega, by omega, ho2, hb2⟩
              case measure => simp [intOf]; omega
            | false =>
              have hx := Lib.hid (row_skip (L := allF d k) hjb.out (cand_no2 hred))
              have hjb2 := Lib.hid (show b + 1 = 1 - a + ((j + 1 : Nat) : Int) by have := hjb.out; omega)
              clear hm hjb
              go_wp2_with (first | (go_at_call 72; (with_reducible refine (sdisc_any a b ((b * b - d) / (4 * a)) _ f1 f2 f3).mono ?_); rintro e v1 ⟨rfl, hB1⟩; have hZ1 := hB1.size; (try simp at hZ1); (try have zl1 : w.heap.size < v1.heap.size := by omega); (try have ze1 : w.heap.size ≤ v1.heap.size := by omega); (try have zn1 : ¬ w.heap.size = v1.heap.size := by omega); (try have zm1 : ¬ v1.heap.size = w.heap.size := by omega); have hC1_0 := fun o => (calm_cells hB1).1 (wr.heap.size) o (by first | omega | (simp <;> omega)); have hF1_0 := fun o => (calm_cells hB1).2 (wr.heap.size) o (by first | omega | (simp <;> omega)); (try have hl1_0 : wr.heap.size < v1.heap.size := by omega); (try have hm1_0 : ¬ wr.heap.size = v1.heap.size := by omega); (try have hn1_0 : ¬ v1.heap.size = wr.heap.size := by omega)) | (go_at_call 116; (with_reducible refine (reIs_any a b ((b * b - d) / (4 * a)) _ (by omega) (by omega)).mono ?_); rw [hred]; rintro e v2 ⟨rfl, hB2⟩; have hZ2 := hB2.size; (try simp at hZ2); (try have zl2 : w.heap.size < v2.heap.size := by omega); (try have ze2 : w.heap.size ≤ v2.heap.size := by omega); (try have zn2 : ¬ w.heap.size = v2.heap.size := by omega); (try have zm2 : ¬ v2.heap.size = w.heap.size := by omega); have hC2_0 := fun o => (calm_cells hB2).1 (wr.heap.size) o (by first | omega | (simp <;> omega)); have hF2_0 := fun o => (calm_cells hB2).2 (wr.heap.size) o (by first | omega | (simp <;> omega)); (try have hl2_0 : wr.heap.size < v2.heap.size := by omega); (try have hm2_0 : ¬ wr.heap.size = v2.heap.size := by omega); (try have hn2_0 : ¬ v2.heap.size = wr.heap.size := by omega)))
              go_roundw
              case rel => exact ⟨j + 1, b + 1, rfl, hjb2, by omega, by omega, by omega, by rw [hx.out]; exact (by repeat (first | with_reducible assumption | with_reducible apply own_alloc | with_reducible apply own_drew | with_reducible apply own_drewN | (with_reducible refine own_setp (by assumption) ?_ ?_; (first | omega | (simp <;> omega))) | (with_reducible refine own_call (by assumption) ?_))), (by repeat (first | with_reducible exact Below.refl _ _ | with_reducible assumption | with_reducible apply Below.drew | with_reducible apply below_drewN | (with_reducible apply below_setp; (first | omega | (simp <;> omega))) | (with_reducible apply below_allocp; (first | omega | (simp <;> omega))) | (with_reducible refine below_viap (by assumption) ?_ ?_; (first | omega | (simp <;> omega)))))⟩
              case measure => simp [intOf]; omega
          · have e1 : (disc ⟨a, b, (b * b - d) / (4 * a)⟩ == d) = false := by rw [beq_eq_false_iff_ne]; exact fun h => hm (hdq.1 h)
            clear hdq
            have hx := Lib.hid (row_skip (L := allF d k) hjb.out (cand_no hm))
            have hjb2 := Lib.hid (show b + 1 = 1 - a + ((j + 1 : Nat) : Int) by have := hjb.out; omega)
            clear hm hjb
            go_wp2_with (go_at_call 72; (with_reducible refine (sdisc_any a b ((b * b - d) / (4 * a)) _ f1 f2 f3).mono ?_); rintro e v1 ⟨rfl, hB1⟩; have hZ1 := hB1.size; (try simp at hZ1); (try have zl1 : w.heap.size < v1.heap.size := by omega); (try have ze1 : w.heap.size ≤ v1.heap.size := by omega); (try have zn1 : ¬ w.heap.size = v1.heap.size := by omega); (try have zm1 : ¬ v1.heap.size = w.heap.size := by omega); have hC1_0 := fun o => (calm_cells hB1).1 (wr.heap.size) o (by first | omega | (simp <;> omega)); have hF1_0 := fun o => (calm_cells hB1).2 (wr.heap.size) o (by first | omega | (simp <;> omega)); (try have hl1_0 : wr.heap.size < v1.heap.size := by omega); (try have hm1_0 : ¬ wr.heap.size = v1.heap.size := by omega); (try have hn1_0 : ¬ v1.heap.size = wr.heap.size := by omega))
            go_roundw
            case rel => exact ⟨j + 1, b + 1, rfl, hjb2, by omega, by omega, by omega, by rw [hx.out]; exact (by repeat (first | with_reducible assumption | with_reducible apply own_alloc | with_reducible apply own_drew | with_reducible apply own_drewN | (with_reducible refine own_setp (by assumption) ?_ ?_; (first | omega | (simp <;> omega))) | (with_reducible refine own_call (by assumption) ?_))), (by repeat (first | with_reducible exact Below.refl _ _ | with_reducible assumption | with_reducible apply Below.drew | with_reducible apply below_drewN | (with_reducible apply below_setp; (first | omega | (simp <;> omega))) | (with_reducible apply below_allocp; (first | omega | (simp <;> omega))) | (with_reducible refine below_viap (by assumption) ?_ ?_; (first | omega | (simp <;> omega)))))⟩
            case measure => simp [intOf]; omega
        · have hj2 : j = 2 * (k + 1) := by have := hjb.out; have := hka.out; omega
          have hx := Lib.hid (show allF d k ++ rowF d a j = allF d (k + 1) by rw [allF_succ, hj2, hka.out])
          have hka2 := Lib.hid (show a + 1 = ((k + 1 : Nat) : Int) + 1 by have := hka.out; omega)
          have hkd2 := Lib.hid (show k + 1 = 0 ∨ 3 * ((k + 1 : Nat) : Int) * ((k + 1 : Nat) : Int) ≤ -d by right; have e := hka.out; rw [show ((k + 1 : Nat) : Int) = a by omega]; exact htest)
          have ha3 := a_bd hd1 (by omega) htest
          clear hj2
          go_wp2
          go_roundw
          case rel => exact ⟨k + 1, a + 1, rfl, hka2, by omega, by omega, hkd2, by rw [← hx.out]; exact hown, hbel⟩
          case measure => simp [intOf]; omega
    · have hkk : kOf d = k := by
        have e := hka.out
        refine kOf_eq (by omega) hkd.out ?_
        rw [← e]; exact htest
      have hx := Lib.hid (show allR d = allF d k by unfold allR; rw [hkk])
      clear hkk
      go_wp2
      go_ret
      exact ⟨_, rfl, by rw [hx.out]; exact hown, hbel⟩
end Go.Proofs.Ytifkmjmhhklkjaa
