/- Contract: sort.insertionSort_func over a row of points. -/
import Derived.Test.YtblcmkhkbgikoaaGreatHZ
import Derived.Test.YtblcmkhkbgikoaaGreatHQ
namespace Go.Proofs.YtblcmkhkbgikoaaGreat
open Go.RowKit Go

theorem cell_far {w : World} {p q : Addr} {u : Value} {x : Option Value} (h : w.cell? p = x) (hne : p.block ≠ q.block) : (w.setCell q u).cell? p = x := by
  unfold World.cell? at h ⊢
  rw [Below.heap_setCell w q u _ hne]
  exact h
set_option maxRecDepth 100000 in
set_option maxHeartbeats 3200000 in
theorem insSort_any (K0 : List (Int × Int)) (n g cap Bs B sf Bb : Nat) (sb : Array Value) (w : World) (hn : K0.length = n) (hn9 : n ≤ 9) (hnd : K0.Nodup)
    (hown : w.ownsRow B 51 2 (.slice (some ⟨g, 0, none⟩) n cap) n (cellsP K0)) (hbox : w.cell? ⟨Bs, 0, none⟩ = some (.slice (some ⟨g, 0, none⟩) n cap)) (lB : Bs < w.heap.size) (nB : Bs ≠ g) (lgw : g < w.heap.size) (hgB : Bb ≤ g)
    (hsw : Hid (∀ (W : World) (K : List (Int × Int)) (a b : Nat) (ha : a < K.length) (hb : b < K.length), K.length = n → W.ownsRow B 51 2 (.slice (some ⟨g, 0, none⟩) n cap) n (cellsP K) → (callFunc sf (#[.int .i64 (a : Int), .int .i64 (b : Int)] ++ sb)).run Tryz.prog W = .ok (.value (.tuple #[])) ((W.setCells g (a * 2) [.int .i64 K[b].1, .int .i64 K[b].2]).setCells g (b * 2) [.int .i64 K[a].1, .int .i64 K[a].2]))) :
    Calls Tryz.prog 99 #[.agg #[.func (.func 57) #[] #[.pointer (some ⟨Bs, 0, none⟩)], .func (.func sf) #[] sb], .int .i64 0, .int .i64 n] w fun e w' => e = .returned (.tuple #[]) ∧ ∃ K, K.Perm K0 ∧ SrtN K n ∧ w'.ownsRow B 51 2 (.slice (some ⟨g, 0, none⟩) n cap) n (cellsP K) ∧ Below Bb w w' := by
  have lbw : Bb ≤ w.heap.size := by omega
  go_enter Tryz.func99, Tryz.ntmps99
  go_wp2
  go_loopw [6] (fun v6 wr => ∃ (i : Nat) (K : List (Int × Int)), v6 = .int .i64 (i + 1) ∧ i + 1 ≤ n + 1 ∧ Hid (K.Perm K0) ∧ Hid (SrtN K (i + 1)) ∧ wr.ownsRow B 51 2 (.slice (some ⟨g, 0, none⟩) n cap) n (cellsP K) ∧ wr.cell? ⟨Bs, 0, none⟩ = some (.slice (some ⟨g, 0, none⟩) n cap) ∧ Bs < wr.heap.size ∧ Blk wr w.heap.size 108 #[.func (.func 57) #[] #[.pointer (some ⟨Bs, 0, none⟩)], .func (.func sf) #[] sb] ∧ Below Bb w wr) (fun v6 _ => n + 2 - (intOf v6).toNat)
  case atStart => exact ⟨0, K0, rfl, by omega, Lib.hid (List.Perm.refl _), Lib.hid (srtN_one K0), own_alloc hown, (((Below.refl w.heap.size w).alloc (Nat.le_refl _) _).cell (p := ⟨Bs, 0, none⟩) lB).trans hbox, by simp; omega, Blk.new_at rfl, (Below.refl Bb w).alloc lbw _⟩
  case round =>
    obtain ⟨i, K, rfl, hi, HP, HS, ho, hb, lb, hA, hBw⟩ := hrel
    have cA := hA.cell; have fA := hA.frozen; have lA := hA.lt
    by_cases hlt : i + 1 < n
    · have kI : (i : Int) + 1 < (n : Int) := by omega
      go_wp2
      go_loopw [7] (fun v7 wr => ∃ (j : Nat) (K : List (Int × Int)), v7 = .int .i64 j ∧ j ≤ i + 1 ∧ Hid (K.Perm K0) ∧ Hid (InsI K (i + 1) j) ∧ wr.ownsRow B 51 2 (.slice (some ⟨g, 0, none⟩) n cap) n (cellsP K) ∧ wr.cell? ⟨Bs, 0, none⟩ = some (.slice (some ⟨g, 0, none⟩) n cap) ∧ Bs < wr.heap.size ∧ Blk wr w.heap.size 108 #[.func (.func 57) #[] #[.pointer (some ⟨Bs, 0, none⟩)], .func (.func sf) #[] sb] ∧ Below Bb w wr) (fun v7 _ => (intOf v7).toNat)
      case atStart => exact ⟨i + 1, K, by go_num, by omega, HP, Lib.hid (insI_start HS.out), ho, hb, lb, hA, hBw⟩
      case round =>
        clear HP HS ho hb lb hA cA fA lA hBw
        obtain ⟨j, K, rfl, hj, HP, HI, ho, hb, lb, hA, hBw⟩ := hrel
        have cA := hA.cell; have fA := hA.frozen; have lA := hA.lt
        have HL := Lib.hid (show K.length = n by rw [HP.out.length_eq, hn])
        by_cases hj0 : j = 0
        · subst hj0
          have W1 := Lib.hid (show wrap64 ((i : Int) + 1 + 1) = (i : Int) + 1 + 1 from IntWalk.wrap64_in _ (by omega))
          have w1 := W1.out
          go_wp2
          clear w1
          go_roundw
          case rel => exact ⟨i + 1, K, by first | go_num | (rw [W1.out]; go_num), by omega, HP, Lib.hid (insI_zero HI.out), ho, hb, lb, hA, hBw⟩
          case measure => (first | (simp [intOf]; done) | (simp [intOf]; omega) | (simp [intOf, W1.out]; omega))
        · obtain ⟨j, rfl⟩ : ∃ j', j = j' + 1 := ⟨j - 1, by omega⟩
          have hk1 : j + 1 < K.length := by have := HL.out; omega
          have hk0 : j < K.length := by omega
          have ho' : wr.ownsRow B 51 2 (.slice (some ⟨g, 0, none⟩) K.length cap) K.length (cellsP K) := by rw [HL.out]; exact ho
          obtain ⟨g1, e1, lg, c1, c2⟩ := own_elemP ho' hk1
          injection e1 with e1
          injection e1 with e1
          subst e1
          obtain ⟨g2, e2, _, c3, c4⟩ := own_elemP ho' hk0
          injection e2 with e2
          injection e2 with e2
          subst e2
          have HC := Lib.hid (lessClo_any g n cap Bs (j + 1) j _ _ _ _ wr hb lb lg (by omega) (by omega) c1 c2 c3 c4)
          have W1 := Lib.hid (show wrap64 (((j + 1 : Nat) : Int) - 1) = (j : Int) from by rw [IntWalk.wrap64_in _ (by omega)]; omega)
          have kJ : (0 : Int) < ((j + 1 : Nat) : Int) := by omega
          have w1 := W1.out
          clear c1 c2 c3 c4 ho' hj0
          rw [show ((j + 1 : Nat) : Int) = (j : Int) + 1 by omega] at HC
          have W2 := Lib.hid (show wrap64 ((i : Int) + 1 + 1) = (i : Int) + 1 + 1 from IntWalk.wrap64_in _ (by omega))
          go_wp2_with fail
          clear w1
          refine HC.out.mono ?_
          rintro e v2 ⟨rfl, hB2⟩
          have hz2 := hB2.size
          have ho2 := own_call hB2 ho
          have hb2 : v2.cell? ⟨Bs, 0, none⟩ = some (.slice (some ⟨g, 0, none⟩) n cap) := (hB2.cell (p := ⟨Bs, 0, none⟩) lb).trans hb
          have lb2 : Bs < v2.heap.size := by omega
          have lg2 : g < v2.heap.size := by omega
          have hA2 := hA.call hB2
          have cA2 := hA2.cell; have fA2 := hA2.frozen; have lA2 := hA2.lt
          have hBw2 : Bb ≤ wr.heap.size := Nat.le_trans lbw hBw.size
          have hBw3 := hBw.trans (hB2.mono hBw2)
          clear hB2 hBw hBw2 ho hb lb hA cA fA lA HC lg
          cases hq : ltP (K[j + 1].1, K[j + 1].2) (K[j].1, K[j].2) with
          | false =>
            have HN := Lib.hid (insI_stop (HP.out.nodup_iff.2 hnd) HI.out hj (by have := HL.out; omega) hq)
            have w1 := W2.out
            clear hq hk1 hk0 kJ hnd hown hbox hsw lbw hgB
            go_wp2
            clear w1
            go_roundw
            case rel => exact ⟨i + 1, K, by go_num, by omega, HP, HN, ho2, hb2, lb2, hA2, hBw3⟩
            case measure => (first | (simp [intOf]; omega) | (simp [intOf, W2.out]; omega))
          | true =>
            have HN := Lib.hid (insI_swap HI.out hj (by have := HL.out; omega) hq)
            have hsr := hsw.out v2 K (j + 1) j hk1 hk0 HL.out ho2
            rw [show ((j + 1 : Nat) : Int) = (j : Int) + 1 by omega] at hsr
            have ho3 := own_swapP (i := j + 1) (j := j) (K := K) (g := g) (cap := cap) (by rw [HL.out]; exact ho2) K[j + 1] K[j]
            rw [HL.out] at ho3
            have hPm := Lib.hid ((swap_perm hk1 hk0).trans HP.out)
            have hb3 : ((v2.setCells g ((j + 1) * 2) [.int .i64 K[j].1, .int .i64 K[j].2]).setCells g (j * 2) [.int .i64 K[j + 1].1, .int .i64 K[j + 1].2]).cell? ⟨Bs, 0, none⟩ = some (.slice (some ⟨g, 0, none⟩) n cap) := by
              rw [setCells_two, setCells_two]
              exact cell_far (cell_far (cell_far (cell_far hb2 nB) nB) nB) nB
            have hA3 : Blk ((v2.setCells g ((j + 1) * 2) [.int .i64 K[j].1, .int .i64 K[j].2]).setCells g (j * 2) [.int .i64 K[j + 1].1, .int .i64 K[j + 1].2]) w.heap.size 108 #[.func (.func 57) #[] #[.pointer (some ⟨Bs, 0, none⟩)], .func (.func sf) #[] sb] := by
              rw [setCells_two, setCells_two]
              exact (((hA2.far (Nat.ne_of_gt lgw) _).far (Nat.ne_of_gt lgw) _).far (Nat.ne_of_gt lgw) _).far (Nat.ne_of_gt lgw) _
            have lb3 : Bs < ((v2.setCells g ((j + 1) * 2) [.int .i64 K[j].1, .int .i64 K[j].2]).setCells g (j * 2) [.int .i64 K[j + 1].1, .int .i64 K[j + 1].2]).heap.size := by
              rw [setCells_two, setCells_two]
              simpa using lb2
            have hBw4 : Below Bb w ((v2.setCells g ((j + 1) * 2) [.int .i64 K[j].1, .int .i64 K[j].2]).setCells g (j * 2) [.int .i64 K[j + 1].1, .int .i64 K[j + 1].2]) := by
              rw [setCells_two, setCells_two]
              exact (((hBw3.setCell hgB _).setCell hgB _).setCell hgB _).setCell hgB _
            have w1 := W1.out
            go_wp2_with fail
            clear w1
            exact ⟨⟨j, _, rfl, by omega, hPm, HN, ho3, hb3, lb3, hA3, hBw4⟩, by simp [intOf]⟩
    · obtain ⟨N, rfl⟩ : ∃ N : Nat, n = N := ⟨n, rfl⟩
      have kI : ¬ (i : Int) + 1 < (n : Int) := by omega
      have hS := HS.out
      clear hnd hown hbox hsw
      go_wp2
      refine bodyPost_end (results_none rfl _ _ _) rfl ?_
      exact ⟨rfl, K, HP.out, fun a b h hab hbi => hS a b h hab (by omega), ho, hBw⟩
end Go.Proofs.YtblcmkhkbgikoaaGreat
