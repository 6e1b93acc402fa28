/- Contracts: the lists of all reduced forms of a discriminant. -/
import Derived.Test.YtifkmjmhhklkjaaC9
import Derived.Test.YtifkmjmhhklkjaaW3
namespace Go.Proofs.Ytifkmjmhhklkjaa
open Go.RowKit

theorem infoForm : (Try.prog.info? 23).map (fun i => (i.zero, i.size, i.bytes)) = some (some (.agg #[.int .i64 0, .int .i64 0, .int .i64 0]), 3, 24) := by kernel_rfl

/-- A list of forms in new memory comes back. -/
def RetF (L : List Fm) (w : World) (e : Ending) (w' : World) : Prop := ∃ v, e = .returned v ∧ w'.ownsRow w.heap.size 23 3 v L.length (cellsF L) ∧ Below w.heap.size w w'

theorem a_bd {a d : Int} (hd : -2000 ≤ d) (h0 : 0 ≤ a) (h : 3 * a * a ≤ -d) : a ≤ 26 := by
  apply Int.not_lt.1
  intro hlt
  have := Int.mul_le_mul (show (27 : Int) ≤ a by omega) (show (27 : Int) ≤ a by omega) (by omega) (by omega)
  have e : 3 * a * a = 3 * (a * a) := Int.mul_assoc _ _ _
  omega
theorem sq_bd {a : Int} (h0 : -40 ≤ a) (h1 : a ≤ 40) : 0 ≤ a * a ∧ a * a ≤ 1600 := by
  have h := mul_bd (A := 40) (X := 40) h0 h1 h0 h1
  refine ⟨?_, h.2⟩
  rcases Int.le_total 0 a with h | h
  · exact Int.mul_nonneg h h
  · exact Int.mul_nonneg_of_nonpos_of_nonpos h h

theorem cand_no {d a b : Int} (h : ¬ (b * b - d) % (4 * a) = 0) : cand d a b = none := by unfold cand; rw [if_neg (fun h2 => h h2.1)]
theorem cand_no2 {d a b : Int} (h : isRed a b ((b * b - d) / (4 * a)) = false) : cand d a b = none := by unfold cand; rw [if_neg (fun h2 => by rw [h] at h2; cases h2.2)]
theorem cand_yes {d a b : Int} (h : (b * b - d) % (4 * a) = 0) (h2 : isRed a b ((b * b - d) / (4 * a)) = true) : cand d a b = some ⟨a, b, (b * b - d) / (4 * a)⟩ := by unfold cand; rw [if_pos ⟨h, h2⟩]
theorem row_skip {d a b : Int} {j : Nat} {L : List Fm} (hb : b = 1 - a + j) (h : cand d a b = none) : L ++ rowF d a (j + 1) = L ++ rowF d a j := by
  rw [rowF_succ, ← hb, h]; simp
theorem row_take {d a b : Int} {j : Nat} {L : List Fm} {f : Fm} (hb : b = 1 - a + j) (h : cand d a b = some f) : L ++ rowF d a (j + 1) = (L ++ rowF d a j) ++ [f] := by
  rw [rowF_succ, ← hb, h]; simp

/-- The state of the outer loop. -/
def AllSt (d : Int) (w : World) (v va : Value) (wr : World) : Prop :=
  ∃ (k : Nat) (a : Int), va = .int .i64 a ∧ Hid (a = k + 1) ∧ 1 ≤ a ∧ a ≤ 30 ∧ Hid (k = 0 ∨ 3 * (k : Int) * k ≤ -d) ∧ wr.ownsRow w.heap.size 23 3 v (allF d k).length (cellsF (allF d k)) ∧ Below w.heap.size w wr
/-- The state of the inner loop. -/
def RowSt (d a : Int) (k : Nat) (w : World) (v vb : Value) (wr : World) : Prop :=
  ∃ (j : Nat) (b : Int), vb = .int .i64 b ∧ Hid (b = 1 - a + j) ∧ (j : Int) ≤ 2 * a ∧ -40 ≤ b ∧ b ≤ 40 ∧ wr.ownsRow w.heap.size 23 3 v (allF d k ++ rowF d a j).length (cellsF (allF d k ++ rowF d a j)) ∧ Below w.heap.size w wr
theorem lens (d a : Int) (k j : Nat) (hk : k ≤ 30) (hj : (j : Int) ≤ 80) : (allF d k ++ rowF d a j).length ≤ 1100 := by
  rw [List.length_append]
  have h1 := allF_len d k
  have h2 := rowF_len d a j
  have h3 := Nat.mul_le_mul hk (Nat.succ_le_succ hk)
  simp at h3
  omega

set_option maxHeartbeats 1600000 in
theorem allReduced_any (d : Int) (w : World) (hd1 : -2000 ≤ d) (hd2 : d ≤ -3) : Calls Try.prog 138 #[.int .i64 d] w (RetF (allR d) w) := by
  obtain ⟨i0, hi, hz0, hz1, hz2⟩ := info_parts infoForm
  go_enter Try.func138, Try.ntmps138
  go_wp2
  go_loopw [3, 4] (fun v a wr => AllSt d w v a wr) (fun _ a _ => (100 - intOf a).toNat)
  case atStart => exact ⟨0, 1, rfl, Lib.hid rfl, by omega, by omega, Lib.hid (.inl rfl), own_empty (Nat.le_refl _), (by repeat (first | with_reducible exact Below.refl _ _ | with_reducible assumption | with_reducible apply Below.drew | with_reducible apply below_drewN | (with_reducible apply below_setp; (first | omega | (simp <;> omega))) | (with_reducible apply below_allocp; (first | omega | (simp <;> omega))) | (with_reducible refine below_viap (by assumption) ?_ ?_; (first | omega | (simp <;> omega)))))⟩
  case round =>
    obtain ⟨k, a, rfl, hka, ha1, ha2, hkd, hown, hbel⟩ := hrel
    have hsq := sq_bd (a := a) (by omega) (by omega)
    have h3 : 3 * a * a = 3 * (a * a) := Int.mul_assoc _ _ _
    have h3a : 0 ≤ 3 * a * a := by omega
    have h3b : 3 * a * a ≤ 4800 := by omega
    clear h3 hsq
    by_cases htest : 3 * a * a ≤ -d
    · go_wp2
      obtain ⟨wo, rfl⟩ : ∃ wo : World, wo = wr := ⟨_, rfl⟩
      go_loopw [3, 5] (fun v b wx => RowSt d a k w v b wx) (fun _ b _ => (100 - intOf b).toNat)
      case atStart =>
        have e : allF d k = allF d k ++ rowF d a 0 := by simp [rowF]
        refine ⟨0, 1 - a, rfl, Lib.hid (by simp), by omega, by omega, by omega, ?_, hbel⟩
        rw [← e]; exact hown
      case round =>
        clear hown hbel
        obtain ⟨j, b, rfl, hjb, hj, hb1, hb2, hown, hbel⟩ := hrel
        have hbb := sq_bd hb1 hb2
        obtain ⟨hbb1, hbb2⟩ := hbb
        have hz := hbel.size
        by_cases hba : b ≤ a
        · have hjlt : (j : Int) < 2 * a := by have := hjb.out; omega
          have e4 : (4 * a == 0) = false := by rw [beq_eq_false_iff_ne]; omega
          have e5 : ¬ 4 * a = 0 := by omega
          by_cases hm : (b * b - d) % (4 * a) = 0
          · have e1 : ((b * b - d) % (4 * a) != 0) = false := by rw [bne_eq_false_iff_eq]; exact hm
            have hq1 : 0 ≤ (b * b - d) / (4 * a) := Int.ediv_nonneg (by omega) (by omega)
            have hq2 : (b * b - d) / (4 * a) ≤ b * b - d := Int.ediv_le_self _ (by omega)
            cases hred : isRed a b ((b * b - d) / (4 * a)) with
            | true =>
              have hx := Lib.hid (row_take (L := allF d k) hjb.out (cand_yes hm hred))
              have hl := lens d a k j (by have := hka.out; omega) (by omega)
              have hjb2 := Lib.hid (show b + 1 = 1 - a + ((j + 1 : Nat) : Int) by have := hjb.out; omega)
              clear hm hjb
              go_wp2_with (first
                | (go_at_call 122; (with_reducible refine (isReduced_any a b ((b * b - d) / (4 * a)) _ (by omega) (by omega)).mono ?_); rw [hred]; rintro e v1 ⟨rfl, hB1⟩; have hZ1 := hB1.size; (try simp at hZ1); (try have zl1 : w.heap.size < v1.heap.size := by omega); (try have ze1 : w.heap.size ≤ v1.heap.size := by omega); (try have zn1 : ¬ w.heap.size = v1.heap.size := by omega); (try have zm1 : ¬ v1.heap.size = w.heap.size := by omega); have hC1_0 := fun o => (calm_cells hB1).1 (wr.heap.size) o (by first | omega | (simp <;> omega)); have hF1_0 := fun o => (calm_cells hB1).2 (wr.heap.size) o (by first | omega | (simp <;> omega)); (try have hl1_0 : wr.heap.size < v1.heap.size := by omega); (try have hm1_0 : ¬ wr.heap.size = v1.heap.size := by omega); (try have hn1_0 : ¬ v1.heap.size = wr.heap.size := by omega))
                | (at_builtin; refine wpList_append_own _ rfl (.tmp 46) (.tmp 48) 51 rfl w.heap.size 23 i0 _ 3 24 Try.underlying51 hi hz0 hz1 hz2 rfl (by decide) u3 (allF d k ++ rowF d a j).length (cellsF (allF d k ++ rowF d a j)) rfl ?_ ⟨v1.heap.size, 0, none⟩ 1 1 [.int .i64 a, .int .i64 b, .int .i64 ((b * b - d) / (4 * a))] rfl rfl ?_ (one3 _ _ _) ?_ ?_ ?_ ?_; exact (by repeat (first | with_reducible assumption | with_reducible apply own_alloc | with_reducible apply own_drew | with_reducible apply own_drewN | (with_reducible refine own_setp (by assumption) ?_ ?_; (first | omega | (simp <;> omega))) | (with_reducible refine own_call (by assumption) ?_))); exact cells3 (Blk.new _ _ _); (unfold maxLen; omega); omega; (simp; omega); intro v2 w2 hown2 hg2 _))
              have hb2 : Below w.heap.size w w2 := below_grown (own_ge hown) (by simp; omega) hg2 (by repeat (first | with_reducible exact Below.refl _ _ | with_reducible assumption | with_reducible apply Below.drew | with_reducible apply below_drewN | (with_reducible apply below_setp; (first | omega | (simp <;> omega))) | (with_reducible apply below_allocp; (first | omega | (simp <;> omega))) | (with_reducible refine below_viap (by assumption) ?_ ?_; (first | omega | (simp <;> omega)))))
              have ho2 := own_snoc hx.out hown2
              clear hg2 hown2 hown hbel
              go_wp2
              go_roundw
              case rel => exact ⟨j + 1, b + 1, rfl, hjb2, by omega, by omega, by omega, ho2, hb2⟩
              case measure => simp [intOf]; omega
            | false =>
              have hx := Lib.hid (row_skip (L := allF d k) hjb.out (cand_no2 hred))
              have hjb2 := Lib.hid (show b + 1 = 1 - a + ((j + 1 : Nat) : Int) by have := hjb.out; omega)
              clear hm hjb
              go_wp2_with (go_at_call 122; (with_reducible refine (isReduced_any a b ((b * b - d) / (4 * a)) _ (by omega) (by omega)).mono ?_); rw [hred]; rintro e v1 ⟨rfl, hB1⟩; have hZ1 := hB1.size; (try simp at hZ1); (try have zl1 : w.heap.size < v1.heap.size := by omega); (try have ze1 : w.heap.size ≤ v1.heap.size := by omega); (try have zn1 : ¬ w.heap.size = v1.heap.size := by omega); (try have zm1 : ¬ v1.heap.size = w.heap.size := by omega); have hC1_0 := fun o => (calm_cells hB1).1 (wr.heap.size) o (by first | omega | (simp <;> omega)); have hF1_0 := fun o => (calm_cells hB1).2 (wr.heap.size) o (by first | omega | (simp <;> omega)); (try have hl1_0 : wr.heap.size < v1.heap.size := by omega); (try have hm1_0 : ¬ wr.heap.size = v1.heap.size := by omega); (try have hn1_0 : ¬ v1.heap.size = wr.heap.size := by omega))
              go_roundw
              case rel => exact ⟨j + 1, b + 1, rfl, hjb2, by omega, by omega, by omega, by rw [hx.out]; exact (by repeat (first | with_reducible assumption | with_reducible apply own_alloc | with_reducible apply own_drew | with_reducible apply own_drewN | (with_reducible refine own_setp (by assumption) ?_ ?_; (first | omega | (simp <;> omega))) | (with_reducible refine own_call (by assumption) ?_))), (by repeat (first | with_reducible exact Below.refl _ _ | with_reducible assumption | with_reducible apply Below.drew | with_reducible apply below_drewN | (with_reducible apply below_setp; (first | omega | (simp <;> omega))) | (with_reducible apply below_allocp; (first | omega | (simp <;> omega))) | (with_reducible refine below_viap (by assumption) ?_ ?_; (first | omega | (simp <;> omega)))))⟩
              case measure => simp [intOf]; omega
          · have e1 : ((b * b - d) % (4 * a) != 0) = true := by rw [bne_iff_ne]; exact hm
            have hx := Lib.hid (row_skip (L := allF d k) hjb.out (cand_no hm))
            have hjb2 := Lib.hid (show b + 1 = 1 - a + ((j + 1 : Nat) : Int) by have := hjb.out; omega)
            clear hm hjb
            go_wp2
            go_roundw
            case rel => exact ⟨j + 1, b + 1, rfl, hjb2, by omega, by omega, by omega, by rw [hx.out]; exact hown, hbel⟩
            case measure => simp [intOf]; omega
        · have hj2 : j = 2 * (k + 1) := by have := hjb.out; have := hka.out; omega
          have hx := Lib.hid (show allF d k ++ rowF d a j = allF d (k + 1) by rw [allF_succ, hj2, hka.out])
          have hka2 := Lib.hid (show a + 1 = ((k + 1 : Nat) : Int) + 1 by have := hka.out; omega)
          have hkd2 := Lib.hid (show k + 1 = 0 ∨ 3 * ((k + 1 : Nat) : Int) * ((k + 1 : Nat) : Int) ≤ -d by right; have e := hka.out; rw [show ((k + 1 : Nat) : Int) = a by omega]; exact htest)
          have ha3 := a_bd hd1 (by omega) htest
          clear hj2
          go_wp2
          go_roundw
          case rel => exact ⟨k + 1, a + 1, rfl, hka2, by omega, by omega, hkd2, by rw [← hx.out]; exact hown, hbel⟩
          case measure => simp [intOf]; omega
    · have hkk : kOf d = k := by
        have e := hka.out
        refine kOf_eq (by omega) hkd.out ?_
        rw [← e]; exact htest
      have hx := Lib.hid (show allR d = allF d k by unfold allR; rw [hkk])
      clear hkk
      go_wp2
      go_ret
      exact ⟨_, rfl, by rw [hx.out]; exact hown, hbel⟩
end Go.Proofs.Ytifkmjmhhklkjaa
