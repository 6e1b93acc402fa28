/- Contracts: the root of a number; a list of points: whether it has a point, a sorted insertion; of the reference. -/
import Derived.Test.YtohgccgbbipjjaaGreatIA
import Derived.Test.YtohgccgbbipjjaaGreatN6
namespace Go.Proofs.YtohgccgbbipjjaaGreat
open Go.RowKit

set_option maxHeartbeats 1600000 in
theorem nuRoot_any (n : Int) (w : World) (h0 : 0 ≤ n) (h1 : n ≤ 100000000000000000) :
    Calls Tryz.prog 82 #[.int .i64 n] w fun e w' => (∃ r : Int, e = .returned (.int .i64 r) ∧ 0 ≤ r ∧ r ≤ 1000000000 ∧ r * r ≤ n ∧ n < (r + 1) * (r + 1)) ∧ w = w' := by
  go_enter Tryz.func82, Tryz.ntmps82
  go_wp2
  go_loop [3, 4] (fun vl vh => ∃ lo hi : Int, vl = .int .i64 lo ∧ vh = .int .i64 hi ∧ 0 ≤ lo ∧ lo ≤ hi ∧ hi ≤ 1000000000 ∧ Hid (lo * lo ≤ n ∧ n < (hi + 1) * (hi + 1))) (fun vl vh => (intOf vh - intOf vl).toNat)
  case atStart => exact ⟨0, 1000000000, rfl, rfl, by omega, by omega, by omega, Lib.hid ⟨by omega, by omega⟩⟩
  case round =>
    obtain ⟨lo, hi, rfl, rfl, l0, l1, l2, hb⟩ := hrel
    by_cases hlt : lo < hi
    · obtain ⟨m, hm⟩ : ∃ m, (lo + hi + 1) / 2 = m := ⟨_, rfl⟩
      have m1 : lo < m := by omega
      have m2 : m ≤ hi := by omega
      have mm : 0 ≤ m * m ∧ m * m ≤ 1000000000 * 1000000000 := ⟨Int.mul_nonneg (by omega) (by omega), Int.mul_le_mul (by omega) (by omega) (by omega) (by omega)⟩
      by_cases hmm : m * m ≤ n
      · have hb2 : Hid (m * m ≤ n ∧ n < (hi + 1) * (hi + 1)) := Lib.hid ⟨hmm, hb.out.2⟩
        clear hb
        go_wp2
        go_round
        case rel => exact ⟨m, hi, by first | rfl | rw [hm], rfl, by omega, by omega, by omega, hb2⟩
        case measure => simp [intOf]; omega
      · have hb2 : Hid (lo * lo ≤ n ∧ n < (m - 1 + 1) * (m - 1 + 1)) := Lib.hid ⟨hb.out.1, by rw [Int.sub_add_cancel]; omega⟩
        clear hb
        go_wp2
        go_round
        case rel => exact ⟨lo, m - 1, rfl, by first | rfl | rw [hm], by omega, by omega, by omega, hb2⟩
        case measure => simp [intOf]; omega
    · have e : lo = hi := by omega
      subst e
      go_wp2
      go_ret
      exact ⟨⟨lo, rfl, l0, l2, hb.out.1, hb.out.2⟩, rfl⟩

set_option maxRecDepth 100000 in
set_option maxHeartbeats 3200000 in
theorem vaHas_any (v : Value) (B : Nat) (L : List (Int × Int)) (x y : Int) (w : World) (hl : L.length ≤ 1000000) (h : w.ownsRow B 80 2 v L.length (cellsP L)) :
    Calls Tryz.prog 83 #[v, .agg #[.int .i64 x, .int .i64 y]] w fun e w' => e = .returned (.bool (decide ((x, y) ∈ L))) ∧ Below w.heap.size w w' := by
  obtain ⟨base, cap, rfl⟩ := own_shape h
  have HO := Lib.hid h
  have hlo := own_lt h
  obtain ⟨m, hm⟩ : ∃ m, L.length = m := ⟨_, rfl⟩
  have Hm := Lib.hid hm
  rw [hm] at hl h ⊢
  clear hm h
  go_enter Tryz.func83, Tryz.ntmps83
  go_wp2
  have hA0 : Blk (w.alloc (.cells #[.int .i64 x, .int .i64 y] 80)) w.heap.size 80 #[.int .i64 x, .int .i64 y] := Blk.new _ _ _
  have hb0 : Below w.heap.size w (w.alloc (.cells #[.int .i64 x, .int .i64 y] 80)) := (by repeat (first | with_reducible exact Below.refl _ _ | with_reducible assumption | with_reducible apply Below.drew | with_reducible apply below_drewN | (with_reducible apply below_setp; (first | omega | (simp <;> omega))) | (with_reducible apply below_allocp; (first | omega | (simp <;> omega))) | (with_reducible refine below_viap (by assumption) ?_ ?_; (first | omega | (simp <;> omega)))))
  go_loopw [9] (fun vi wr => ∃ k : Nat, vi = .int .i64 k ∧ k ≤ m ∧ Hid (∀ j (h : j < L.length), j < k → L[j] ≠ (x, y)) ∧ Hid (Blk wr w.heap.size 80 #[.int .i64 x, .int .i64 y]) ∧ Below w.heap.size w wr) (fun vi _ => m - (intOf vi).toNat)
  case atStart => exact ⟨0, rfl, Nat.zero_le _, Lib.hid (fun _ _ h => absurd h (Nat.not_lt_zero _)), Lib.hid hA0, hb0⟩
  case round =>
    clear hA0 hb0
    obtain ⟨k, rfl, hk, hno, hA, hbel⟩ := hrel
    have hz := hbel.size
    have cA := hA.out.cell; have fA := hA.out.frozen; have lA := hA.out.lt
    have n1 : ¬ w.heap.size = wr.heap.size := by omega
    by_cases hlt : k < m
    · have hkL : k < L.length := by rw [Hm.out]; exact hlt
      obtain ⟨g, rfl, lg, c1, c2⟩ := own_elemP (own_call hbel HO.out) hkL
      have hyes := Lib.hid (fun e : L[k] = (x, y) => (decide_eq_true (e ▸ List.getElem_mem hkL) : decide ((x, y) ∈ L) = true))
      have hnxt := Lib.hid (fun (e : L[k] ≠ (x, y)) j (h : j < L.length) (hj : j < k + 1) => (if e2 : j = k then (by subst e2; exact e) else hno.out j h (by omega) : L[j] ≠ (x, y)))
      generalize L[k] = q at *
      obtain ⟨s, t⟩ := q
      dsimp only at c1 c2
      have ng : ¬ g = wr.heap.size := by omega
      by_cases e1 : s = x
      · by_cases e2 : t = y
        · have hY := Lib.hid (hyes.out (by rw [e1, e2]))
          subst e1 e2
          clear hyes hnxt
          go_wp2
          go_ret
          exact ⟨ret_bool hY.out.symm, (by repeat (first | with_reducible exact Below.refl _ _ | with_reducible assumption | with_reducible apply Below.drew | with_reducible apply below_drewN | (with_reducible apply below_setp; (first | omega | (simp <;> omega))) | (with_reducible apply below_allocp; (first | omega | (simp <;> omega))) | (with_reducible refine below_viap (by assumption) ?_ ?_; (first | omega | (simp <;> omega)))))⟩
        · have hN := Lib.hid (hnxt.out (fun e => e2 (by injection e)))
          subst e1
          have e3 : (t == y) = false := by rw [beq_eq_false_iff_ne]; exact e2
          clear hyes hnxt
          go_wp2
          go_roundw
          case rel => exact ⟨k + 1, by go_num, hlt, hN, Lib.hid (by have hA2 := hA.out; (repeat (first | with_reducible assumption | (with_reducible apply Blk.new_at; (first | rfl | (simp; done))) | with_reducible apply Blk.store3 | with_reducible apply Blk.store4 | (with_reducible apply Blk.farp; (first | omega | (simp <;> omega))) | with_reducible apply Blk.allocp | with_reducible apply Blk.drew | with_reducible apply Blk.drewN))), (by repeat (first | with_reducible exact Below.refl _ _ | with_reducible assumption | with_reducible apply Below.drew | with_reducible apply below_drewN | (with_reducible apply below_setp; (first | omega | (simp <;> omega))) | (with_reducible apply below_allocp; (first | omega | (simp <;> omega))) | (with_reducible refine below_viap (by assumption) ?_ ?_; (first | omega | (simp <;> omega)))))⟩
          case measure => simp [intOf]; omega
      · have hN := Lib.hid (hnxt.out (fun e => e1 (by injection e)))
        have e3 : (s == x) = false := by rw [beq_eq_false_iff_ne]; exact e1
        clear hyes hnxt
        go_wp2
        go_roundw
        case rel => exact ⟨k + 1, by go_num, hlt, hN, Lib.hid (by have hA2 := hA.out; (repeat (first | with_reducible assumption | (with_reducible apply Blk.new_at; (first | rfl | (simp; done))) | with_reducible apply Blk.store3 | with_reducible apply Blk.store4 | (with_reducible apply Blk.farp; (first | omega | (simp <;> omega))) | with_reducible apply Blk.allocp | with_reducible apply Blk.drew | with_reducible apply Blk.drewN))), (by repeat (first | with_reducible exact Below.refl _ _ | with_reducible assumption | with_reducible apply Below.drew | with_reducible apply below_drewN | (with_reducible apply below_setp; (first | omega | (simp <;> omega))) | (with_reducible apply below_allocp; (first | omega | (simp <;> omega))) | (with_reducible refine below_viap (by assumption) ?_ ?_; (first | omega | (simp <;> omega)))))⟩
        case measure => simp [intOf]; omega
    · have hN := Lib.hid (decide_eq_false (p := (x, y) ∈ L) (fun hx => by
        obtain ⟨j, hj, e⟩ := List.getElem_of_mem hx
        exact hno.out j hj (by rw [Hm.out] at hj; omega) e))
      go_wp2
      go_ret
      exact ⟨ret_bool hN.out.symm, (by repeat (first | with_reducible exact Below.refl _ _ | with_reducible assumption | with_reducible apply Below.drew | with_reducible apply below_drewN | (with_reducible apply below_setp; (first | omega | (simp <;> omega))) | (with_reducible apply below_allocp; (first | omega | (simp <;> omega))) | (with_reducible refine below_viap (by assumption) ?_ ?_; (first | omega | (simp <;> omega)))))⟩
end Go.Proofs.YtohgccgbbipjjaaGreat
