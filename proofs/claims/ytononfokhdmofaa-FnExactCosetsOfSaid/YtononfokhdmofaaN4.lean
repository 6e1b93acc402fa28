/- Contracts: the Jacobi symbol, by the reference: the loop. -/
import Derived.Test.YtononfokhdmofaaN3
namespace Go.Proofs.Ytononfokhdmofaa
open Go.RowKit

/-- How many steps are to come. -/
def muJ (t b : Int) : Nat := if 0 ≤ t ∧ t < b then (2 * t).toNat else (2 * b - 1).toNat
theorem muJ_red {t b : Int} (hb : 0 < b) (h : ¬ (0 ≤ t ∧ t < b)) : muJ (t % b) b < muJ t b := by
  have h1 := Int.emod_nonneg t (show b ≠ 0 by omega)
  have h2 := Int.emod_lt_of_pos t hb
  unfold muJ; rw [if_neg h, if_pos ⟨h1, h2⟩]; omega
theorem muJ_even {t b : Int} (h0 : 0 < t) (h1 : t < b) : muJ (t / 2) b < muJ t b := by
  unfold muJ; rw [if_pos (show 0 ≤ t / 2 ∧ t / 2 < b by omega), if_pos (show 0 ≤ t ∧ t < b by omega)]; omega
theorem muJ_odd {t b : Int} (h0 : 0 < t) (h1 : t < b) : muJ b t < muJ t b := by
  unfold muJ; rw [if_neg (show ¬ (0 ≤ b ∧ b < t) by omega), if_pos (show 0 ≤ t ∧ t < b by omega)]; omega
/-- The state of the loop. -/
def SyJSt (R : Int) (G : Nat) (w : World) (k : Nat) (wr : World) : Prop :=
  ∃ t b s : Int, 0 < b ∧ b ≤ 1000000000000000 ∧ Hid (b % 2 = 1) ∧ (-1 ≤ s ∧ s ≤ 1) ∧ Hid ((s = 1 ∨ s = -1) ∧ s * jacS (t % b) b = R) ∧ muJ t b ≤ k ∧
    Blk wr G 140 #[.int .i64 t, .int .i64 b, .int .i64 s] ∧ Below w.heap.size w wr

set_option maxHeartbeats 3200000 in
theorem syJacobi_any (a n : Int) (w : World) (hn : 0 < n) (hn2 : n ≤ 1000000000000000) (ho : n % 2 = 1) :
    Calls Try.prog 160 #[.int .i64 a, .int .i64 n] w fun e w' => e = .returned (.int .i64 (jacS (a % n) n)) ∧ Below w.heap.size w w' := by
  obtain ⟨R, hR⟩ : ∃ R, jacS (a % n) n = R := ⟨_, rfl⟩
  have hst := Lib.hid hR
  rw [hR]
  have ho' := Lib.hid ho
  clear hR ho
  go_enter Try.func160, Try.ntmps160
  go_wp2
  go_loopg [] (muJ a n) (fun k wr => SyJSt R w.heap.size w k wr)
  case atStart => exact ⟨a, n, 1, hn, hn2, ho', ⟨by omega, by omega⟩, Lib.hid ⟨.inl rfl, by rw [Int.one_mul]; exact hst.out⟩, Nat.le_refl _, by (repeat (first | with_reducible assumption | (with_reducible apply Blk.new_at; (first | rfl | (simp; done))) | with_reducible apply Blk.store3 | with_reducible apply Blk.store4 | (with_reducible apply Blk.farp; (first | omega | (simp <;> omega))) | with_reducible apply Blk.allocp | with_reducible apply Blk.drew | with_reducible apply Blk.drewN)), (by repeat (first | with_reducible exact Below.refl _ _ | with_reducible assumption | with_reducible apply Below.drew | with_reducible apply below_drewN | (with_reducible apply below_setp; (first | omega | (simp <;> omega))) | (with_reducible apply below_allocp; (first | omega | (simp <;> omega))) | (with_reducible refine below_viap (by assumption) ?_ ?_; (first | omega | (simp <;> omega)))))⟩
  case round =>
    clear hst ho' hn hn2
    obtain ⟨t, b, s, b0, b2, bo, ⟨s1, s2⟩, hs, hmu, hB, hbel⟩ := hrel
    have cB := hB.cell; have fB := hB.frozen; have lB := hB.lt
    by_cases h0 : t = 0
    · subst h0
      have hE := Lib.hid (fun w => syEnd_any 0 b s true w (by simp))
      have hj : s * (if b = 1 then 1 else 0) = R := by have := hs.out.2; rw [Int.zero_emod, jacS_zero] at this; exact this
      by_cases hb1 : b = 1
      · subst hb1
        have hx := Lib.hid (show s = R by rw [← hj]; simp)
        clear hj
        go_wp2_with (go_at_call 180; (with_reducible refine (hE.out _).mono ?_); rintro e v1 ⟨rfl, hB1⟩; have hZ1 := hB1.size; (try simp at hZ1); (try have zl1 : w.heap.size < v1.heap.size := by omega); (try have ze1 : w.heap.size ≤ v1.heap.size := by omega); (try have zn1 : ¬ w.heap.size = v1.heap.size := by omega); (try have zm1 : ¬ v1.heap.size = w.heap.size := by omega); have hB1 : Blk v1 (w.heap.size) 140 #[.int .i64 0, .int .i64 1, .int .i64 s] := Blk.call (by (repeat (first | with_reducible assumption | (with_reducible apply Blk.new_at; (first | rfl | (simp; done))) | with_reducible apply Blk.store3 | with_reducible apply Blk.store4 | (with_reducible apply Blk.farp; (first | omega | (simp <;> omega))) | with_reducible apply Blk.allocp | with_reducible apply Blk.drew | with_reducible apply Blk.drewN))) hB1; have cB1 := hB1.cell; have fB1 := hB1.frozen; have lB1 := hB1.lt; have mB1 := Nat.ne_of_gt lB1; have nB1 := Nat.ne_of_lt lB1)
        go_ret
        exact ⟨ret_int hx.out, (by repeat (first | with_reducible exact Below.refl _ _ | with_reducible assumption | with_reducible apply Below.drew | with_reducible apply below_drewN | (with_reducible apply below_setp; (first | omega | (simp <;> omega))) | (with_reducible apply below_allocp; (first | omega | (simp <;> omega))) | (with_reducible refine below_viap (by assumption) ?_ ?_; (first | omega | (simp <;> omega)))))⟩
      · have hx := Lib.hid (show 0 = R by rw [← hj, if_neg hb1]; simp)
        have e1 : 1 < b := by omega
        clear hj hb1
        go_wp2_with (go_at_call 180; (with_reducible refine (hE.out _).mono ?_); rintro e v1 ⟨rfl, hB1⟩; have hZ1 := hB1.size; (try simp at hZ1); (try have zl1 : w.heap.size < v1.heap.size := by omega); (try have ze1 : w.heap.size ≤ v1.heap.size := by omega); (try have zn1 : ¬ w.heap.size = v1.heap.size := by omega); (try have zm1 : ¬ v1.heap.size = w.heap.size := by omega); have hB1 : Blk v1 (w.heap.size) 140 #[.int .i64 0, .int .i64 b, .int .i64 s] := Blk.call (by (repeat (first | with_reducible assumption | (with_reducible apply Blk.new_at; (first | rfl | (simp; done))) | with_reducible apply Blk.store3 | with_reducible apply Blk.store4 | (with_reducible apply Blk.farp; (first | omega | (simp <;> omega))) | with_reducible apply Blk.allocp | with_reducible apply Blk.drew | with_reducible apply Blk.drewN))) hB1; have cB1 := hB1.cell; have fB1 := hB1.frozen; have lB1 := hB1.lt; have mB1 := Nat.ne_of_gt lB1; have nB1 := Nat.ne_of_lt lB1)
        go_ret
        exact ⟨ret_int hx.out, (by repeat (first | with_reducible exact Below.refl _ _ | with_reducible assumption | with_reducible apply Below.drew | with_reducible apply below_drewN | (with_reducible apply below_setp; (first | omega | (simp <;> omega))) | (with_reducible apply below_allocp; (first | omega | (simp <;> omega))) | (with_reducible refine below_viap (by assumption) ?_ ?_; (first | omega | (simp <;> omega)))))⟩
    · by_cases h1 : t = 1
      · subst h1
        have hE := Lib.hid (fun w => syEnd_any 1 b s true w (by simp))
        have hj : s = R := by
          have := hs.out.2
          by_cases hb1 : b = 1
          · rw [hb1] at this; simp [jacS_zero] at this; exact this
          · rw [Int.emod_eq_of_lt (by omega) (by omega), jacS_one, Int.mul_one] at this; exact this
        have hx := Lib.hid hj
        clear hj h0
        go_wp2_with (go_at_call 180; (with_reducible refine (hE.out _).mono ?_); rintro e v1 ⟨rfl, hB1⟩; have hZ1 := hB1.size; (try simp at hZ1); (try have zl1 : w.heap.size < v1.heap.size := by omega); (try have ze1 : w.heap.size ≤ v1.heap.size := by omega); (try have zn1 : ¬ w.heap.size = v1.heap.size := by omega); (try have zm1 : ¬ v1.heap.size = w.heap.size := by omega); have hB1 : Blk v1 (w.heap.size) 140 #[.int .i64 1, .int .i64 b, .int .i64 s] := Blk.call (by (repeat (first | with_reducible assumption | (with_reducible apply Blk.new_at; (first | rfl | (simp; done))) | with_reducible apply Blk.store3 | with_reducible apply Blk.store4 | (with_reducible apply Blk.farp; (first | omega | (simp <;> omega))) | with_reducible apply Blk.allocp | with_reducible apply Blk.drew | with_reducible apply Blk.drewN))) hB1; have cB1 := hB1.cell; have fB1 := hB1.frozen; have lB1 := hB1.lt; have mB1 := Nat.ne_of_gt lB1; have nB1 := Nat.ne_of_lt lB1)
        go_ret
        exact ⟨ret_int hx.out, (by repeat (first | with_reducible exact Below.refl _ _ | with_reducible assumption | with_reducible apply Below.drew | with_reducible apply below_drewN | (with_reducible apply below_setp; (first | omega | (simp <;> omega))) | (with_reducible apply below_allocp; (first | omega | (simp <;> omega))) | (with_reducible refine below_viap (by assumption) ?_ ?_; (first | omega | (simp <;> omega)))))⟩
      · have hE := Lib.hid (fun w => syEnd_any t b s false w (by simp [h0, h1]))
        have step : ∀ t' b' s' : Int, (∀ w, Calls Try.prog 181 #[.agg #[.int .i64 t, .int .i64 b, .int .i64 s]] w fun e w' => e = .returned (.agg #[.int .i64 t', .int .i64 b', .int .i64 s']) ∧ Below w.heap.size w w') →
            0 < b' → b' ≤ 1000000000000000 → b' % 2 = 1 → (-1 ≤ s' ∧ s' ≤ 1) → (s' = 1 ∨ s' = -1) ∧ s' * jacS (t' % b') b' = R → muJ t' b' < muJ t b →
            ∃ t' b' s' : Int, Hid (∀ w, Calls Try.prog 181 #[.agg #[.int .i64 t, .int .i64 b, .int .i64 s]] w fun e w' => e = .returned (.agg #[.int .i64 t', .int .i64 b', .int .i64 s']) ∧ Below w.heap.size w w') ∧
            0 < b' ∧ b' ≤ 1000000000000000 ∧ Hid (b' % 2 = 1) ∧ (-1 ≤ s' ∧ s' ≤ 1) ∧ Hid ((s' = 1 ∨ s' = -1) ∧ s' * jacS (t' % b') b' = R) ∧ muJ t' b' < muJ t b :=
          fun t' b' s' h1 h2 h3 h4 h5 h6 h7 => ⟨t', b', s', Lib.hid h1, h2, h3, Lib.hid h4, h5, Lib.hid h6, h7⟩
        have hnx : ∃ t' b' s' : Int, Hid (∀ w, Calls Try.prog 181 #[.agg #[.int .i64 t, .int .i64 b, .int .i64 s]] w fun e w' => e = .returned (.agg #[.int .i64 t', .int .i64 b', .int .i64 s']) ∧ Below w.heap.size w w') ∧
            0 < b' ∧ b' ≤ 1000000000000000 ∧ Hid (b' % 2 = 1) ∧ (-1 ≤ s' ∧ s' ≤ 1) ∧ Hid ((s' = 1 ∨ s' = -1) ∧ s' * jacS (t' % b') b' = R) ∧ muJ t' b' < muJ t b := by
          have hso := hs.out
          have hbo := bo.out
          by_cases hin : 0 ≤ t ∧ t < b
          · have et : t % b = t := Int.emod_eq_of_lt hin.1 hin.2
            rw [et] at hso
            by_cases hev : t % 2 = 0
            · have hsg := sg_mul hso.1 (two_sg b)
              refine step (t / 2) b (s * two b) (fun w => sySuc_even t b s w b2 hin.1 hin.2 hev (by rcases hsg with h | h <;> rw [h] <;> omega) ⟨s1, s2⟩ hbo) b0 b2 hbo (by rcases hsg with h | h <;> rw [h] <;> omega) ⟨hsg, ?_⟩ (muJ_even (by omega) hin.2)
              rw [Int.emod_eq_of_lt (by omega) (by omega), Int.mul_assoc, ← jacS_even (by omega) hev]; exact hso.2
            · have hjo := jacS_odd (n := b) (show 0 < t by omega) hev
              refine step b t (if t % 4 = 3 ∧ b % 4 = 3 then -s else s) (fun w => sySuc_odd t b s _ w b2 (by omega) hin.2 hev ⟨s1, s2⟩ rfl) (by omega) (by omega) (by omega) (by split <;> omega) ⟨by split <;> omega, ?_⟩ (muJ_odd (by omega) hin.2)
              rw [← hso.2, hjo]
              split <;> grind
          · refine step (t % b) b s (fun w => sySuc_red t b s w b0 b2 hin) b0 b2 hbo ⟨s1, s2⟩ ⟨hso.1, ?_⟩ (muJ_red b0 hin)
            rw [Int.emod_emod]; exact hso.2
        clear step
        obtain ⟨t', b', s', hN, b0', b2', bo', hs', hj', hmu'⟩ := hnx
        have hmm : muJ t' b' ≤ gk - 1 := by omega
        have hm2 : gk - 1 < gk := by omega
        clear h0 h1 hmu hmu'
        go_wp2_with (first
          | (go_at_call 180; (with_reducible refine (hE.out _).mono ?_); rintro e v1 ⟨rfl, hB1⟩; have hZ1 := hB1.size; (try simp at hZ1); (try have zl1 : w.heap.size < v1.heap.size := by omega); (try have ze1 : w.heap.size ≤ v1.heap.size := by omega); (try have zn1 : ¬ w.heap.size = v1.heap.size := by omega); (try have zm1 : ¬ v1.heap.size = w.heap.size := by omega); have hB1 : Blk v1 (w.heap.size) 140 #[.int .i64 t, .int .i64 b, .int .i64 s] := Blk.call (by (repeat (first | with_reducible assumption | (with_reducible apply Blk.new_at; (first | rfl | (simp; done))) | with_reducible apply Blk.store3 | with_reducible apply Blk.store4 | (with_reducible apply Blk.farp; (first | omega | (simp <;> omega))) | with_reducible apply Blk.allocp | with_reducible apply Blk.drew | with_reducible apply Blk.drewN))) hB1; have cB1 := hB1.cell; have fB1 := hB1.frozen; have lB1 := hB1.lt; have mB1 := Nat.ne_of_gt lB1; have nB1 := Nat.ne_of_lt lB1)
          | (go_at_call 181; (with_reducible refine (hN.out _).mono ?_); rintro e v2 ⟨rfl, hB2⟩; have hZ2 := hB2.size; (try simp at hZ2); (try have zl2 : w.heap.size < v2.heap.size := by omega); (try have ze2 : w.heap.size ≤ v2.heap.size := by omega); (try have zn2 : ¬ w.heap.size = v2.heap.size := by omega); (try have zm2 : ¬ v2.heap.size = w.heap.size := by omega); have hB2 : Blk v2 (w.heap.size) 140 #[.int .i64 t, .int .i64 b, .int .i64 s] := Blk.call (by (repeat (first | with_reducible assumption | (with_reducible apply Blk.new_at; (first | rfl | (simp; done))) | with_reducible apply Blk.store3 | with_reducible apply Blk.store4 | (with_reducible apply Blk.farp; (first | omega | (simp <;> omega))) | with_reducible apply Blk.allocp | with_reducible apply Blk.drew | with_reducible apply Blk.drewN))) hB2; have cB2 := hB2.cell; have fB2 := hB2.frozen; have lB2 := hB2.lt; have mB2 := Nat.ne_of_gt lB2; have nB2 := Nat.ne_of_lt lB2))
        go_roundg (gk - 1)
        case measure => exact hm2
        case rel => exact ⟨t', b', s', b0', b2', bo', hs', hj', hmm, by (repeat (first | with_reducible assumption | (with_reducible apply Blk.new_at; (first | rfl | (simp; done))) | with_reducible apply Blk.store3 | with_reducible apply Blk.store4 | (with_reducible apply Blk.farp; (first | omega | (simp <;> omega))) | with_reducible apply Blk.allocp | with_reducible apply Blk.drew | with_reducible apply Blk.drewN)), (by repeat (first | with_reducible exact Below.refl _ _ | with_reducible assumption | with_reducible apply Below.drew | with_reducible apply below_drewN | (with_reducible apply below_setp; (first | omega | (simp <;> omega))) | (with_reducible apply below_allocp; (first | omega | (simp <;> omega))) | (with_reducible refine below_viap (by assumption) ?_ ?_; (first | omega | (simp <;> omega)))))⟩
end Go.Proofs.Ytononfokhdmofaa
