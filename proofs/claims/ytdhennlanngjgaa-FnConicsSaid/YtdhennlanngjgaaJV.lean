/- Contract: LeastSolution, of the reference (written by gen_JT.py). -/
import Derived.Test.YtdhennlanngjgaaJT
namespace Go.Proofs.Ytdhennlanngjgaa
open Go.RowKit

set_option maxRecDepth 100000 in
set_option maxHeartbeats 25600000 in
theorem specLS_any (a b c : Int) (w : World) : Calls Try.prog 13 #[.agg #[.int .i64 a, .int .i64 b, .int .i64 c]] w (RetLs2 a b c w) := by
  have hI := Lib.hid (fun w => cnGood_any a b c w)
  cases ht : trB a b c with
  | false =>
    rw [ht] at hI
    have HF := Lib.hid (fun w w' (h : Below w.heap.size w w') => retLs2 (a := a) (b := b) (c := c) (w := w) (w' := w') (.inl ⟨by rw [ht]; rfl, rfl, rfl, rfl, rfl⟩) h)
    clear ht
    go_enter Try.func13, Try.ntmps13
    go_wp2_with (go_at_call 20; (with_reducible refine (hI.out _).mono ?_); rintro e v1 ⟨rfl, hB1⟩; have hZ1 := hB1.size; (try simp at hZ1); (try have zl1 : w.heap.size < v1.heap.size := by omega); (try have ze1 : w.heap.size ≤ v1.heap.size := by omega); (try have zn1 : ¬ w.heap.size = v1.heap.size := by omega); (try have zm1 : ¬ v1.heap.size = w.heap.size := by omega); have hA1 : Blk v1 (w.heap.size) 25 #[.int .i64 a, .int .i64 b, .int .i64 c] := Blk.call (by (repeat (first | with_reducible assumption | (with_reducible apply Blk.new_at; (first | rfl | (simp; done))) | with_reducible apply Blk.store3 | with_reducible apply Blk.store4 | (with_reducible apply Blk.farp; (first | omega | (simp <;> omega))) | with_reducible apply Blk.allocp | with_reducible apply Blk.drew | with_reducible apply Blk.drewN))) hB1; have cA1 := hA1.cell; have fA1 := hA1.frozen; have lA1 := hA1.lt; have mA1 := Nat.ne_of_gt lA1; have nA1 := Nat.ne_of_lt lA1; have hR1 : Blk v1 (w.heap.size + 1) 36 #[.int .i64 0, .int .i64 0, .int .i64 0] := Blk.call (by (repeat (first | with_reducible assumption | (with_reducible apply Blk.new_at; (first | rfl | (simp; done))) | with_reducible apply Blk.store3 | with_reducible apply Blk.store4 | (with_reducible apply Blk.farp; (first | omega | (simp <;> omega))) | with_reducible apply Blk.allocp | with_reducible apply Blk.drew | with_reducible apply Blk.drewN))) hB1; have cR1 := hR1.cell; have fR1 := hR1.frozen; have lR1 := hR1.lt; have mR1 := Nat.ne_of_gt lR1; have nR1 := Nat.ne_of_lt lR1)
    exact bodyPost_ret (v := .tuple #[.agg #[.int .i64 0, .int .i64 0, .int .i64 0], .bool false]) (by simp [results, Try.results13, go_sem, *]) rfl (HF.out _ _ (by repeat (first | with_reducible exact Below.refl _ _ | with_reducible assumption | with_reducible apply Below.drew | with_reducible apply below_drewN | (with_reducible apply below_setp; (first | omega | (simp <;> omega))) | (with_reducible apply below_allocp; (first | omega | (simp <;> omega))) | (with_reducible refine below_viap (by assumption) ?_ ?_; (first | omega | (simp <;> omega))))))
  | true =>
    have h := trB_iff.1 ht
    have hN := Lib.hid (fun w => cnNormal_any a b c w h)
    cases hn : nmB a b c with
    | false =>
      rw [ht] at hI
      rw [hn] at hN
      have HF := Lib.hid (fun w w' (h : Below w.heap.size w w') => retLs2 (a := a) (b := b) (c := c) (w := w) (w' := w') (.inl ⟨by rw [ht, hn]; rfl, rfl, rfl, rfl, rfl⟩) h)
      clear ht hn h
      go_enter Try.func13, Try.ntmps13
      go_wp2_with (first | (go_at_call 20; (with_reducible refine (hI.out _).mono ?_); rintro e v1 ⟨rfl, hB1⟩; have hZ1 := hB1.size; (try simp at hZ1); (try have zl1 : w.heap.size < v1.heap.size := by omega); (try have ze1 : w.heap.size ≤ v1.heap.size := by omega); (try have zn1 : ¬ w.heap.size = v1.heap.size := by omega); (try have zm1 : ¬ v1.heap.size = w.heap.size := by omega); have hA1 : Blk v1 (w.heap.size) 25 #[.int .i64 a, .int .i64 b, .int .i64 c] := Blk.call (by (repeat (first | with_reducible assumption | (with_reducible apply Blk.new_at; (first | rfl | (simp; done))) | with_reducible apply Blk.store3 | with_reducible apply Blk.store4 | (with_reducible apply Blk.farp; (first | omega | (simp <;> omega))) | with_reducible apply Blk.allocp | with_reducible apply Blk.drew | with_reducible apply Blk.drewN))) hB1; have cA1 := hA1.cell; have fA1 := hA1.frozen; have lA1 := hA1.lt; have mA1 := Nat.ne_of_gt lA1; have nA1 := Nat.ne_of_lt lA1; have hR1 : Blk v1 (w.heap.size + 1) 36 #[.int .i64 0, .int .i64 0, .int .i64 0] := Blk.call (by (repeat (first | with_reducible assumption | (with_reducible apply Blk.new_at; (first | rfl | (simp; done))) | with_reducible apply Blk.store3 | with_reducible apply Blk.store4 | (with_reducible apply Blk.farp; (first | omega | (simp <;> omega))) | with_reducible apply Blk.allocp | with_reducible apply Blk.drew | with_reducible apply Blk.drewN))) hB1; have cR1 := hR1.cell; have fR1 := hR1.frozen; have lR1 := hR1.lt; have mR1 := Nat.ne_of_gt lR1; have nR1 := Nat.ne_of_lt lR1) | (go_at_call 34; (with_reducible refine (hN.out _).mono ?_); rintro e v2 ⟨rfl, hB2⟩; have hZ2 := hB2.size; (try simp at hZ2); (try have zl2 : w.heap.size < v2.heap.size := by omega); (try have ze2 : w.heap.size ≤ v2.heap.size := by omega); (try have zn2 : ¬ w.heap.size = v2.heap.size := by omega); (try have zm2 : ¬ v2.heap.size = w.heap.size := by omega); have hA2 : Blk v2 (w.heap.size) 25 #[.int .i64 a, .int .i64 b, .int .i64 c] := Blk.call (by (repeat (first | with_reducible assumption | (with_reducible apply Blk.new_at; (first | rfl | (simp; done))) | with_reducible apply Blk.store3 | with_reducible apply Blk.store4 | (with_reducible apply Blk.farp; (first | omega | (simp <;> omega))) | with_reducible apply Blk.allocp | with_reducible apply Blk.drew | with_reducible apply Blk.drewN))) hB2; have cA2 := hA2.cell; have fA2 := hA2.frozen; have lA2 := hA2.lt; have mA2 := Nat.ne_of_gt lA2; have nA2 := Nat.ne_of_lt lA2; have hR2 : Blk v2 (w.heap.size + 1) 36 #[.int .i64 0, .int .i64 0, .int .i64 0] := Blk.call (by (repeat (first | with_reducible assumption | (with_reducible apply Blk.new_at; (first | rfl | (simp; done))) | with_reducible apply Blk.store3 | with_reducible apply Blk.store4 | (with_reducible apply Blk.farp; (first | omega | (simp <;> omega))) | with_reducible apply Blk.allocp | with_reducible apply Blk.drew | with_reducible apply Blk.drewN))) hB2; have cR2 := hR2.cell; have fR2 := hR2.frozen; have lR2 := hR2.lt; have mR2 := Nat.ne_of_gt lR2; have nR2 := Nat.ne_of_lt lR2))
      exact bodyPost_ret (v := .tuple #[.agg #[.int .i64 0, .int .i64 0, .int .i64 0], .bool false]) (by simp [results, Try.results13, go_sem, *]) rfl (HF.out _ _ (by repeat (first | with_reducible exact Below.refl _ _ | with_reducible assumption | with_reducible apply Below.drew | with_reducible apply below_drewN | (with_reducible apply below_setp; (first | omega | (simp <;> omega))) | (with_reducible apply below_allocp; (first | omega | (simp <;> omega))) | (with_reducible refine below_viap (by assumption) ?_ ?_; (first | omega | (simp <;> omega))))))
    | true =>
      rw [ht] at hI
      rw [hn] at hN
      have HF := Lib.hid (fun w w' (h0 : LsR a b c 0 0 0 false) (hb : Below w.heap.size w w') => retLs2 (a := a) (b := b) (c := c) (w := w) (w' := w') (.inr ⟨h, hn, h0⟩) hb)
      have HT := Lib.hid (fun w w' x y z (h0 : LsR a b c x y z true) (hb : Below w.heap.size w w') => retLs2 (a := a) (b := b) (c := c) (w := w) (w' := w') (.inr ⟨h, hn, h0⟩) hb)
      have NT := (nmB_iff h).1 hn
      have hpN := NT.plF
      have hPl := Lib.hid (fun w => cnPlace_any a b c w h (by rw [NT.self (.inl rfl), NT.self (.inr (.inl rfl)), NT.self (.inr (.inr rfl))]; exact h))
      by_cases hp : plG a b c < 0
      · have hp1 : plF a b c < 0 := by rw [hpN]; exact hp
        have hpd : decide (plF a b c ≥ 0) = false := decide_eq_false (by omega)
        have hpd2 : decide (0 ≤ plF a b c) = false := decide_eq_false (by omega)
        clear hpN hp hp1 NT
        obtain ⟨⟨ab1, ab2⟩, ⟨bc1, bc2⟩, ⟨ac1, ac2⟩, -⟩ := h.pb
        have mab := nab ⟨ab1, ab2⟩
        have mac := nab ⟨ac1, ac2⟩
        have mbc := nab ⟨bc1, bc2⟩
        have hAab := Lib.hid (fun w => l1Abs_any (a * b) w (by omega) (by omega))
        have hAac := Lib.hid (fun w => l1Abs_any (a * c) w (by omega) (by omega))
        have hAbc := Lib.hid (fun w => l1Abs_any (b * c) w (by omega) (by omega))
        have V1 : wrap64 (a * b) = a * b := IntWalk.wrap64_in _ (by omega)
        have V2 : wrap64 (a * c) = a * c := IntWalk.wrap64_in _ (by omega)
        have V3 : wrap64 (b * c) = b * c := IntWalk.wrap64_in _ (by omega)
        have VH := Lib.hid (And.intro V1 (And.intro V2 V3))
        have VK := Lib.hid (show IntKind.i64.wrap (b * c) = b * c from IntWalk.i64_in _ (by omega))
        clear V1 V2 V3
        have hTh := Lib.hid (fun y z w hy hz => cnX_any a b c y z w h hy hz)
        have hXb := Lib.hid (fun y z hy hz => thX_bd (y := y) (z := z) h hy hz)
        have hAll := Lib.hid (fun z (h1 : noRow a b c z) (h2 : 0 ≤ z) (h3 : ((a * b).natAbs : Int) < z * z) => h1.all h2 (Int.not_le.2 h3))
        have hRow := Lib.hid (fun y z (h1 : noPt a b c y z) (h2 : 0 ≤ y) (h3 : ((a * c).natAbs : Int) < y * y) => h1.row h2 (Int.not_le.2 h3))
        have hNx := Lib.hid (fun z (h1 : noRow a b c z) (h2 : ∀ y', 0 ≤ y' → y' * y' ≤ ((a * c).natAbs : Int) → lsB a b c y' z = false) => h1.next h2)
        have hHit := Lib.hid (fun y z (h0 : 0 ≤ y ∧ 0 ≤ z) (h1 : z * z ≤ ((a * b).natAbs : Int)) (h2 : y * y ≤ ((a * c).natAbs : Int)) (h3 : lsB a b c y z = true) (h4 : noRow a b c z) (h5 : noPt a b c y z) => lsR_hit h0 h1 h2 h3 h4 h5)
        have hCs := Lib.hid (fun y z => ls_cases a b c y z)
        generalize ((a * b).natAbs : Int) = mb at *
        generalize ((a * c).natAbs : Int) = mc at *
        generalize ((b * c).natAbs : Int) = md at *
        clear ht hn h ab1 ab2 bc1 bc2 ac1 ac2
        generalize plF a b c = pp at *
        go_enter Try.func13, Try.ntmps13
        go_wp2_with (first | (go_at_call 20; (with_reducible refine (hI.out _).mono ?_); rintro e v1 ⟨rfl, hB1⟩; have hZ1 := hB1.size; (try simp at hZ1); (try have zl1 : w.heap.size < v1.heap.size := by omega); (try have ze1 : w.heap.size ≤ v1.heap.size := by omega); (try have zn1 : ¬ w.heap.size = v1.heap.size := by omega); (try have zm1 : ¬ v1.heap.size = w.heap.size := by omega); have hA1 : Blk v1 (w.heap.size) 25 #[.int .i64 a, .int .i64 b, .int .i64 c] := Blk.call (by (repeat (first | with_reducible assumption | (with_reducible apply Blk.new_at; (first | rfl | (simp; done))) | with_reducible apply Blk.store3 | with_reducible apply Blk.store4 | (with_reducible apply Blk.farp; (first | omega | (simp <;> omega))) | with_reducible apply Blk.allocp | with_reducible apply Blk.drew | with_reducible apply Blk.drewN))) hB1; have cA1 := hA1.cell; have fA1 := hA1.frozen; have lA1 := hA1.lt; have mA1 := Nat.ne_of_gt lA1; have nA1 := Nat.ne_of_lt lA1; have hR1 : Blk v1 (w.heap.size + 1) 36 #[.int .i64 0, .int .i64 0, .int .i64 0] := Blk.call (by (repeat (first | with_reducible assumption | (with_reducible apply Blk.new_at; (first | rfl | (simp; done))) | with_reducible apply Blk.store3 | with_reducible apply Blk.store4 | (with_reducible apply Blk.farp; (first | omega | (simp <;> omega))) | with_reducible apply Blk.allocp | with_reducible apply Blk.drew | with_reducible apply Blk.drewN))) hB1; have cR1 := hR1.cell; have fR1 := hR1.frozen; have lR1 := hR1.lt; have mR1 := Nat.ne_of_gt lR1; have nR1 := Nat.ne_of_lt lR1) | (go_at_call 34; (with_reducible refine (hN.out _).mono ?_); rintro e v2 ⟨rfl, hB2⟩; have hZ2 := hB2.size; (try simp at hZ2); (try have zl2 : w.heap.size < v2.heap.size := by omega); (try have ze2 : w.heap.size ≤ v2.heap.size := by omega); (try have zn2 : ¬ w.heap.size = v2.heap.size := by omega); (try have zm2 : ¬ v2.heap.size = w.heap.size := by omega); have hA2 : Blk v2 (w.heap.size) 25 #[.int .i64 a, .int .i64 b, .int .i64 c] := Blk.call (by (repeat (first | with_reducible assumption | (with_reducible apply Blk.new_at; (first | rfl | (simp; done))) | with_reducible apply Blk.store3 | with_reducible apply Blk.store4 | (with_reducible apply Blk.farp; (first | omega | (simp <;> omega))) | with_reducible apply Blk.allocp | with_reducible apply Blk.drew | with_reducible apply Blk.drewN))) hB2; have cA2 := hA2.cell; have fA2 := hA2.frozen; have lA2 := hA2.lt; have mA2 := Nat.ne_of_gt lA2; have nA2 := Nat.ne_of_lt lA2; have hR2 : Blk v2 (w.heap.size + 1) 36 #[.int .i64 0, .int .i64 0, .int .i64 0] := Blk.call (by (repeat (first | with_reducible assumption | (with_reducible apply Blk.new_at; (first | rfl | (simp; done))) | with_reducible apply Blk.store3 | with_reducible apply Blk.store4 | (with_reducible apply Blk.farp; (first | omega | (simp <;> omega))) | with_reducible apply Blk.allocp | with_reducible apply Blk.drew | with_reducible apply Blk.drewN))) hB2; have cR2 := hR2.cell; have fR2 := hR2.frozen; have lR2 := hR2.lt; have mR2 := Nat.ne_of_gt lR2; have nR2 := Nat.ne_of_lt lR2) | (go_at_call 22; (with_reducible refine (hPl.out _).mono ?_); rintro e v9 ⟨rfl, hB9⟩; have hZ9 := hB9.size; (try simp at hZ9); (try have zl9 : w.heap.size < v9.heap.size := by omega); (try have ze9 : w.heap.size ≤ v9.heap.size := by omega); (try have zn9 : ¬ w.heap.size = v9.heap.size := by omega); (try have zm9 : ¬ v9.heap.size = w.heap.size := by omega); have hA9 : Blk v9 (w.heap.size) 25 #[.int .i64 a, .int .i64 b, .int .i64 c] := Blk.call (by (repeat (first | with_reducible assumption | (with_reducible apply Blk.new_at; (first | rfl | (simp; done))) | with_reducible apply Blk.store3 | with_reducible apply Blk.store4 | (with_reducible apply Blk.farp; (first | omega | (simp <;> omega))) | with_reducible apply Blk.allocp | with_reducible apply Blk.drew | with_reducible apply Blk.drewN))) hB9; have cA9 := hA9.cell; have fA9 := hA9.frozen; have lA9 := hA9.lt; have mA9 := Nat.ne_of_gt lA9; have nA9 := Nat.ne_of_lt lA9; have hR9 : Blk v9 (w.heap.size + 1) 36 #[.int .i64 0, .int .i64 0, .int .i64 0] := Blk.call (by (repeat (first | with_reducible assumption | (with_reducible apply Blk.new_at; (first | rfl | (simp; done))) | with_reducible apply Blk.store3 | with_reducible apply Blk.store4 | (with_reducible apply Blk.farp; (first | omega | (simp <;> omega))) | with_reducible apply Blk.allocp | with_reducible apply Blk.drew | with_reducible apply Blk.drewN))) hB9; have cR9 := hR9.cell; have fR9 := hR9.frozen; have lR9 := hR9.lt; have mR9 := Nat.ne_of_gt lR9; have nR9 := Nat.ne_of_lt lR9))
        have hAK := hA9; have hRK := hR9
        have hbK : Below w.heap.size w v9 := (by repeat (first | with_reducible exact Below.refl _ _ | with_reducible assumption | with_reducible apply Below.drew | with_reducible apply below_drewN | (with_reducible apply below_setp; (first | omega | (simp <;> omega))) | (with_reducible apply below_allocp; (first | omega | (simp <;> omega))) | (with_reducible refine below_viap (by assumption) ?_ ?_; (first | omega | (simp <;> omega)))))
        clear hA1 hA2 hR1 hR2 cA1 cA2 cR1 cR2 fA1 fA2 fR1 fR2 lA1 lA2 lR1 lR2 mA1 mA2 mR1 mR2 nA1 nA2 nR1 nR2 hB1 hB2 hZ1 hZ2 hA9 hR9 cA9 cR9 fA9 fR9 lA9 lR9 mA9 mR9 nA9 nR9 hB9 hZ9 hpd hpd2
        obtain ⟨V1, V2, V3⟩ := VH.out
        go_loopw [4] (fun vz wr => LzSt a b c w vz wr) (fun vz _ => (402 - intOf vz).toNat)
        case atStart => exact ⟨0, rfl, ⟨by omega, by omega⟩, Lib.hid (fun z' y' h1 h2 => by omega), Lib.hid hAK, Lib.hid hRK, hbK⟩
        case round =>
          clear hAK hRK hbK
          obtain ⟨z, rfl, ⟨z0, z4⟩, hnr, hA, hR, hbel⟩ := hrel
          have hz := hbel.size
          have hAA := hA.out; have hRR := hR.out
          have cA := hA.out.cell; have fA := hA.out.frozen; have lA := hA.out.lt
          have cR := hR.out.cell; have fR := hR.out.frozen; have lR := hR.out.lt
          have zz0 := sq_nn z
          have zz1 : z * z ≤ 160801 := Int.mul_le_mul z4 z4 z0 (by omega)
          have W1 := Lib.hid (show wrap64 (z * z) = z * z from IntWalk.wrap64_in _ (by omega))
          by_cases hle : z * z ≤ mb
          · have d1 := decide_eq_true hle
            have z5 := sq_400 mab hle
            have hle' := Lib.hid hle
            clear hle zz0 zz1 V1 V2 V3
            obtain ⟨V1, V2, V3⟩ := VH.out
            have U1 := W1.out
            go_wp2_with (go_at_call 35; (with_reducible refine (hAab.out _).mono ?_); rintro e v ⟨rfl, rfl⟩)
            obtain ⟨wo, rfl⟩ : ∃ wo : World, wo = wr := ⟨_, rfl⟩
            go_loopw [5] (fun vy wr => LySt a b c z w vy wr) (fun vy _ => (402 - intOf vy).toNat)
            case atStart => exact ⟨0, rfl, ⟨by omega, by omega⟩, Lib.hid (fun y' h1 h2 => by omega), hA, hR, hbel⟩
            case round =>
              clear hA hR hbel cA fA lA cR fR lR hz hAA hRR
              obtain ⟨y, rfl, ⟨y0, y4⟩, hnp, hA, hR, hbel⟩ := hrel
              have hz := hbel.size
              have hAA := hA.out; have hRR := hR.out
              have cA := hA.out.cell; have fA := hA.out.frozen; have lA := hA.out.lt
              have cR := hR.out.cell; have fR := hR.out.frozen; have lR := hR.out.lt
              clear V1 V2 V3 U1
              have yy0 := sq_nn y
              have yy1 : y * y ≤ 160801 := Int.mul_le_mul y4 y4 y0 (by omega)
              have W2 := Lib.hid (show wrap64 (y * y) = y * y from IntWalk.wrap64_in _ (by omega))
              by_cases hly : y * y ≤ mc
              · have d2 := decide_eq_true hly
                have y5 := sq_400 mac hly
                have hT := Lib.hid (fun w => hTh.out y z w ⟨y0, y5⟩ ⟨z0, z5⟩)
                obtain ⟨x0, x1⟩ := hXb.out y z ⟨y0, y5⟩ ⟨z0, z5⟩
                obtain ⟨g0, g1⟩ := gcd_bd (y := y) (z := z) ⟨y0, y5⟩ ⟨z0, z5⟩
                have HH := Lib.hid (hHit.out y z ⟨y0, z0⟩ hle'.out hly)
                have Hnp := Lib.hid (fun (k : lsB a b c y z = false) => hnp.out.next k)
                rcases hCs.out y z with ⟨q1, q4⟩ | ⟨q1, q2, q4⟩ | ⟨q1, q2, q3, q4⟩ | ⟨q1, q2, q3, q4⟩
                · have HN := Lib.hid (Hnp.out q4)
                  have qb : xpB a b c y z = false := by unfold xpB; rw [q1]; rfl
                  rw [qb] at hT
                  clear q1 qb q4
                  clear hly yy0 yy1 HH Hnp
                  obtain ⟨V1, V2, V3⟩ := VH.out
                  have U1 := W1.out
                  have U2 := W2.out
                  generalize thX a b c y z = x at *
                  generalize xpV a b c y z y = y2 at *
                  generalize xpV a b c y z z = z2 at *
                  go_wp2_with (first
                    | (go_at_call 35; (with_reducible refine (hAac.out _).mono ?_); rintro e v ⟨rfl, rfl⟩)
                    | (go_at_call 36; (with_reducible refine (hT.out _).mono ?_); rintro e v3 ⟨rfl, hB3⟩; have hZ3 := hB3.size; (try simp at hZ3); (try have zl3 : w.heap.size < v3.heap.size := by omega); (try have ze3 : w.heap.size ≤ v3.heap.size := by omega); (try have zn3 : ¬ w.heap.size = v3.heap.size := by omega); (try have zm3 : ¬ v3.heap.size = w.heap.size := by omega); have hA3 : Blk v3 (w.heap.size) 25 #[.int .i64 a, .int .i64 b, .int .i64 c] := Blk.call (by (repeat (first | with_reducible assumption | (with_reducible apply Blk.new_at; (first | rfl | (simp; done))) | with_reducible apply Blk.store3 | with_reducible apply Blk.store4 | (with_reducible apply Blk.farp; (first | omega | (simp <;> omega))) | with_reducible apply Blk.allocp | with_reducible apply Blk.drew | with_reducible apply Blk.drewN))) hB3; have cA3 := hA3.cell; have fA3 := hA3.frozen; have lA3 := hA3.lt; have mA3 := Nat.ne_of_gt lA3; have nA3 := Nat.ne_of_lt lA3; have hR3 : Blk v3 (w.heap.size + 1) 36 #[.int .i64 0, .int .i64 0, .int .i64 0] := Blk.call (by (repeat (first | with_reducible assumption | (with_reducible apply Blk.new_at; (first | rfl | (simp; done))) | with_reducible apply Blk.store3 | with_reducible apply Blk.store4 | (with_reducible apply Blk.farp; (first | omega | (simp <;> omega))) | with_reducible apply Blk.allocp | with_reducible apply Blk.drew | with_reducible apply Blk.drewN))) hB3; have cR3 := hR3.cell; have fR3 := hR3.frozen; have lR3 := hR3.lt; have mR3 := Nat.ne_of_gt lR3; have nR3 := Nat.ne_of_lt lR3))
                  have hS4 : Blk (v3.alloc (.cells #[.int .i64 x, .int .i64 y2, .int .i64 z2] 36)) v3.heap.size 36 #[.int .i64 x, .int .i64 y2, .int .i64 z2] := Blk.new _ _ _
                  have hA4 : Blk (v3.alloc (.cells #[.int .i64 x, .int .i64 y2, .int .i64 z2] 36)) w.heap.size 25 #[.int .i64 a, .int .i64 b, .int .i64 c] := by (repeat (first | with_reducible assumption | (with_reducible apply Blk.new_at; (first | rfl | (simp; done))) | with_reducible apply Blk.store3 | with_reducible apply Blk.store4 | (with_reducible apply Blk.farp; (first | omega | (simp <;> omega))) | with_reducible apply Blk.allocp | with_reducible apply Blk.drew | with_reducible apply Blk.drewN))
                  have hR4 : Blk (v3.alloc (.cells #[.int .i64 x, .int .i64 y2, .int .i64 z2] 36)) (w.heap.size + 1) 36 #[.int .i64 0, .int .i64 0, .int .i64 0] := by (repeat (first | with_reducible assumption | (with_reducible apply Blk.new_at; (first | rfl | (simp; done))) | with_reducible apply Blk.store3 | with_reducible apply Blk.store4 | (with_reducible apply Blk.farp; (first | omega | (simp <;> omega))) | with_reducible apply Blk.allocp | with_reducible apply Blk.drew | with_reducible apply Blk.drewN))
                  have hb4 : Below w.heap.size w (v3.alloc (.cells #[.int .i64 x, .int .i64 y2, .int .i64 z2] 36)) := (by repeat (first | with_reducible exact Below.refl _ _ | with_reducible assumption | with_reducible apply Below.drew | with_reducible apply below_drewN | (with_reducible apply below_setp; (first | omega | (simp <;> omega))) | (with_reducible apply below_allocp; (first | omega | (simp <;> omega))) | (with_reducible refine below_viap (by assumption) ?_ ?_; (first | omega | (simp <;> omega)))))
                  have cS4 := hS4.cell; have fS4 := hS4.frozen; have lS4 := hS4.lt
                  have cA4 := hA4.cell; have fA4 := hA4.frozen; have lA4 := hA4.lt
                  refine wp_region_calm 20 (Below (v3.heap.size + 1) _) (by kernel_rfl) (by kernel_rfl) ((Below.refl _ _).drew) ?_
                  simp only [List.take_succ_cons, List.take_zero, List.drop_succ_cons, List.drop_zero]
                  repeat (first | (apply wpCalm_go; go_simp; (intro w' hw' hcc hff; go_simp; first | exact rfl | (with_reducible refine (hAbc.out _).mono ?_; rintro e w1 ⟨rfl, hb⟩; exact ⟨rfl, calm_call_same hw' hb⟩)); (intro K hK; go_simp; refine hK _ ?_; clear hK K)) | (apply wpCalm_skip; go_simp; (try (focus (simp [undef]; done))); (intro K hK; go_simp; refine hK _ ?_; clear hK K)))
                  refine wpCalm_nil ?_
                  intro w1 hw1
                  have hcc := (calm_cells hw1).1
                  have hff := (calm_cells hw1).2
                  have hss := calm_size hw1
                  have hsz := hw1.size
                  (try simp at hsz)
                  have hA5 : Blk w1 w.heap.size 25 #[.int .i64 a, .int .i64 b, .int .i64 c] := Blk.below (by (repeat (first | with_reducible assumption | (with_reducible apply Blk.new_at; (first | rfl | (simp; done))) | with_reducible apply Blk.store3 | with_reducible apply Blk.store4 | (with_reducible apply Blk.farp; (first | omega | (simp <;> omega))) | with_reducible apply Blk.allocp | with_reducible apply Blk.drew | with_reducible apply Blk.drewN))) hw1 (by omega)
                  have hR5 : Blk w1 (w.heap.size + 1) 36 #[.int .i64 0, .int .i64 0, .int .i64 0] := Blk.below (by (repeat (first | with_reducible assumption | (with_reducible apply Blk.new_at; (first | rfl | (simp; done))) | with_reducible apply Blk.store3 | with_reducible apply Blk.store4 | (with_reducible apply Blk.farp; (first | omega | (simp <;> omega))) | with_reducible apply Blk.allocp | with_reducible apply Blk.drew | with_reducible apply Blk.drewN))) hw1 (by omega)
                  have hS5 : Blk w1 v3.heap.size 36 #[.int .i64 x, .int .i64 y2, .int .i64 z2] := Blk.below (by (repeat (first | with_reducible assumption | (with_reducible apply Blk.new_at; (first | rfl | (simp; done))) | with_reducible apply Blk.store3 | with_reducible apply Blk.store4 | (with_reducible apply Blk.farp; (first | omega | (simp <;> omega))) | with_reducible apply Blk.allocp | with_reducible apply Blk.drew | with_reducible apply Blk.drewN))) hw1 (by omega)
                  have cS5 := hS5.cell; have fS5 := hS5.frozen; have lS5 := hS5.lt
                  have cR5 := hR5.cell; have fR5 := hR5.frozen; have lR5 := hR5.lt
                  have hb5 : Below w.heap.size w w1 := below_via hb4 hw1 (by first | omega | (simp <;> omega))
                  clear hcc hff hw1 hS4 hA4 hR4 hb4 hA3 cA3 fA3 lA3 hR3 cR3 fR3 lR3 cS4 fS4 lS4 cA4 fA4 lA4
                  go_wp2
                  go_roundw
                  case rel => exact ⟨y + 1, rfl, ⟨by omega, by omega⟩, HN, Lib.hid (by (repeat (first | with_reducible assumption | (with_reducible apply Blk.new_at; (first | rfl | (simp; done))) | with_reducible apply Blk.store3 | with_reducible apply Blk.store4 | (with_reducible apply Blk.farp; (first | omega | (simp <;> omega))) | with_reducible apply Blk.allocp | with_reducible apply Blk.drew | with_reducible apply Blk.drewN))), Lib.hid (by (repeat (first | with_reducible assumption | (with_reducible apply Blk.new_at; (first | rfl | (simp; done))) | with_reducible apply Blk.store3 | with_reducible apply Blk.store4 | (with_reducible apply Blk.farp; (first | omega | (simp <;> omega))) | with_reducible apply Blk.allocp | with_reducible apply Blk.drew | with_reducible apply Blk.drewN))), (by repeat (first | with_reducible exact Below.refl _ _ | with_reducible assumption | with_reducible apply Below.drew | with_reducible apply below_drewN | (with_reducible apply below_setp; (first | omega | (simp <;> omega))) | (with_reducible apply below_allocp; (first | omega | (simp <;> omega))) | (with_reducible refine below_viap (by assumption) ?_ ?_; (first | omega | (simp <;> omega)))))⟩
                  case measure => simp [intOf]; omega
                · have HN := Lib.hid (Hnp.out q4)
                  have px : xpV a b c y z y = y ∧ xpV a b c y z z = z := by unfold xpV; rw [q1]; exact ⟨rfl, rfl⟩
                  rw [px.1, px.2] at hT
                  clear px
                  
                  cases hz9 : nzB (thX a b c y z) y z with
                  | false =>
                    have qb : xpB a b c y z = false := by unfold xpB; rw [q1, hz9]; rfl
                    rw [qb] at hT
                    clear q1 qb q4 hz9 q2
                    clear hly yy0 yy1 HH Hnp
                    obtain ⟨V1, V2, V3⟩ := VH.out
                    have U1 := W1.out
                    have U2 := W2.out
                    generalize thX a b c y z = x at *
                    go_wp2_with (first
                      | (go_at_call 35; (with_reducible refine (hAac.out _).mono ?_); rintro e v ⟨rfl, rfl⟩)
                      | (go_at_call 36; (with_reducible refine (hT.out _).mono ?_); rintro e v3 ⟨rfl, hB3⟩; have hZ3 := hB3.size; (try simp at hZ3); (try have zl3 : w.heap.size < v3.heap.size := by omega); (try have ze3 : w.heap.size ≤ v3.heap.size := by omega); (try have zn3 : ¬ w.heap.size = v3.heap.size := by omega); (try have zm3 : ¬ v3.heap.size = w.heap.size := by omega); have hA3 : Blk v3 (w.heap.size) 25 #[.int .i64 a, .int .i64 b, .int .i64 c] := Blk.call (by (repeat (first | with_reducible assumption | (with_reducible apply Blk.new_at; (first | rfl | (simp; done))) | with_reducible apply Blk.store3 | with_reducible apply Blk.store4 | (with_reducible apply Blk.farp; (first | omega | (simp <;> omega))) | with_reducible apply Blk.allocp | with_reducible apply Blk.drew | with_reducible apply Blk.drewN))) hB3; have cA3 := hA3.cell; have fA3 := hA3.frozen; have lA3 := hA3.lt; have mA3 := Nat.ne_of_gt lA3; have nA3 := Nat.ne_of_lt lA3; have hR3 : Blk v3 (w.heap.size + 1) 36 #[.int .i64 0, .int .i64 0, .int .i64 0] := Blk.call (by (repeat (first | with_reducible assumption | (with_reducible apply Blk.new_at; (first | rfl | (simp; done))) | with_reducible apply Blk.store3 | with_reducible apply Blk.store4 | (with_reducible apply Blk.farp; (first | omega | (simp <;> omega))) | with_reducible apply Blk.allocp | with_reducible apply Blk.drew | with_reducible apply Blk.drewN))) hB3; have cR3 := hR3.cell; have fR3 := hR3.frozen; have lR3 := hR3.lt; have mR3 := Nat.ne_of_gt lR3; have nR3 := Nat.ne_of_lt lR3))
                    have hS4 : Blk (v3.alloc (.cells #[.int .i64 x, .int .i64 y, .int .i64 z] 36)) v3.heap.size 36 #[.int .i64 x, .int .i64 y, .int .i64 z] := Blk.new _ _ _
                    have hA4 : Blk (v3.alloc (.cells #[.int .i64 x, .int .i64 y, .int .i64 z] 36)) w.heap.size 25 #[.int .i64 a, .int .i64 b, .int .i64 c] := by (repeat (first | with_reducible assumption | (with_reducible apply Blk.new_at; (first | rfl | (simp; done))) | with_reducible apply Blk.store3 | with_reducible apply Blk.store4 | (with_reducible apply Blk.farp; (first | omega | (simp <;> omega))) | with_reducible apply Blk.allocp | with_reducible apply Blk.drew | with_reducible apply Blk.drewN))
                    have hR4 : Blk (v3.alloc (.cells #[.int .i64 x, .int .i64 y, .int .i64 z] 36)) (w.heap.size + 1) 36 #[.int .i64 0, .int .i64 0, .int .i64 0] := by (repeat (first | with_reducible assumption | (with_reducible apply Blk.new_at; (first | rfl | (simp; done))) | with_reducible apply Blk.store3 | with_reducible apply Blk.store4 | (with_reducible apply Blk.farp; (first | omega | (simp <;> omega))) | with_reducible apply Blk.allocp | with_reducible apply Blk.drew | with_reducible apply Blk.drewN))
                    have hb4 : Below w.heap.size w (v3.alloc (.cells #[.int .i64 x, .int .i64 y, .int .i64 z] 36)) := (by repeat (first | with_reducible exact Below.refl _ _ | with_reducible assumption | with_reducible apply Below.drew | with_reducible apply below_drewN | (with_reducible apply below_setp; (first | omega | (simp <;> omega))) | (with_reducible apply below_allocp; (first | omega | (simp <;> omega))) | (with_reducible refine below_viap (by assumption) ?_ ?_; (first | omega | (simp <;> omega)))))
                    have cS4 := hS4.cell; have fS4 := hS4.frozen; have lS4 := hS4.lt
                    have cA4 := hA4.cell; have fA4 := hA4.frozen; have lA4 := hA4.lt
                    refine wp_region_calm 20 (Below (v3.heap.size + 1) _) (by kernel_rfl) (by kernel_rfl) ((Below.refl _ _).drew) ?_
                    simp only [List.take_succ_cons, List.take_zero, List.drop_succ_cons, List.drop_zero]
                    repeat (first | (apply wpCalm_go; go_simp; (intro w' hw' hcc hff; go_simp; first | exact rfl | (with_reducible refine (hAbc.out _).mono ?_; rintro e w1 ⟨rfl, hb⟩; exact ⟨rfl, calm_call_same hw' hb⟩)); (intro K hK; go_simp; refine hK _ ?_; clear hK K)) | (apply wpCalm_skip; go_simp; (try (focus (simp [undef]; done))); (intro K hK; go_simp; refine hK _ ?_; clear hK K)))
                    refine wpCalm_nil ?_
                    intro w1 hw1
                    have hcc := (calm_cells hw1).1
                    have hff := (calm_cells hw1).2
                    have hss := calm_size hw1
                    have hsz := hw1.size
                    (try simp at hsz)
                    have hA5 : Blk w1 w.heap.size 25 #[.int .i64 a, .int .i64 b, .int .i64 c] := Blk.below (by (repeat (first | with_reducible assumption | (with_reducible apply Blk.new_at; (first | rfl | (simp; done))) | with_reducible apply Blk.store3 | with_reducible apply Blk.store4 | (with_reducible apply Blk.farp; (first | omega | (simp <;> omega))) | with_reducible apply Blk.allocp | with_reducible apply Blk.drew | with_reducible apply Blk.drewN))) hw1 (by omega)
                    have hR5 : Blk w1 (w.heap.size + 1) 36 #[.int .i64 0, .int .i64 0, .int .i64 0] := Blk.below (by (repeat (first | with_reducible assumption | (with_reducible apply Blk.new_at; (first | rfl | (simp; done))) | with_reducible apply Blk.store3 | with_reducible apply Blk.store4 | (with_reducible apply Blk.farp; (first | omega | (simp <;> omega))) | with_reducible apply Blk.allocp | with_reducible apply Blk.drew | with_reducible apply Blk.drewN))) hw1 (by omega)
                    have hS5 : Blk w1 v3.heap.size 36 #[.int .i64 x, .int .i64 y, .int .i64 z] := Blk.below (by (repeat (first | with_reducible assumption | (with_reducible apply Blk.new_at; (first | rfl | (simp; done))) | with_reducible apply Blk.store3 | with_reducible apply Blk.store4 | (with_reducible apply Blk.farp; (first | omega | (simp <;> omega))) | with_reducible apply Blk.allocp | with_reducible apply Blk.drew | with_reducible apply Blk.drewN))) hw1 (by omega)
                    have cS5 := hS5.cell; have fS5 := hS5.frozen; have lS5 := hS5.lt
                    have cR5 := hR5.cell; have fR5 := hR5.frozen; have lR5 := hR5.lt
                    have hb5 : Below w.heap.size w w1 := below_via hb4 hw1 (by first | omega | (simp <;> omega))
                    clear hcc hff hw1 hS4 hA4 hR4 hb4 hA3 cA3 fA3 lA3 hR3 cR3 fR3 lR3 cS4 fS4 lS4 cA4 fA4 lA4
                    go_wp2
                    go_roundw
                    case rel => exact ⟨y + 1, rfl, ⟨by omega, by omega⟩, HN, Lib.hid (by (repeat (first | with_reducible assumption | (with_reducible apply Blk.new_at; (first | rfl | (simp; done))) | with_reducible apply Blk.store3 | with_reducible apply Blk.store4 | (with_reducible apply Blk.farp; (first | omega | (simp <;> omega))) | with_reducible apply Blk.allocp | with_reducible apply Blk.drew | with_reducible apply Blk.drewN))), Lib.hid (by (repeat (first | with_reducible assumption | (with_reducible apply Blk.new_at; (first | rfl | (simp; done))) | with_reducible apply Blk.store3 | with_reducible apply Blk.store4 | (with_reducible apply Blk.farp; (first | omega | (simp <;> omega))) | with_reducible apply Blk.allocp | with_reducible apply Blk.drew | with_reducible apply Blk.drewN))), (by repeat (first | with_reducible exact Below.refl _ _ | with_reducible assumption | with_reducible apply Below.drew | with_reducible apply below_drewN | (with_reducible apply below_setp; (first | omega | (simp <;> omega))) | (with_reducible apply below_allocp; (first | omega | (simp <;> omega))) | (with_reducible refine below_viap (by assumption) ?_ ?_; (first | omega | (simp <;> omega)))))⟩
                    case measure => simp [intOf]; omega
                  | true =>
                    by_cases q3 : gc3 (thX a b c y z) y z = 1
                    · skip
                      have qb : xpB a b c y z = true := by unfold xpB; rw [q1, hz9]; rfl
                      rw [qb] at hT
                      have xx0 := sq_nn (thX a b c y z)
                      have xx1 : thX a b c y z * thX a b c y z ≤ 144000000 := Int.mul_le_mul x1 x1 x0 (by omega)
                      have W3 := Lib.hid (show wrap64 (thX a b c y z * thX a b c y z) = thX a b c y z * thX a b c y z from IntWalk.wrap64_in _ (by omega))
                      have W4 := Lib.hid (show IntKind.i64.wrap (thX a b c y z * thX a b c y z) = thX a b c y z * thX a b c y z from IntWalk.i64_in _ (by omega))
                      have hCg := Lib.hid (fun w => cnGcd_any (thX a b c y z) y z w ⟨x0, x1⟩ (by omega) (by omega))
                      have d3 := decide_eq_false (Int.not_le.2 q2)
                      have d4 : (gc3 (thX a b c y z) y z == 1) = true := by rw [beq_iff_eq]; exact q3
                      clear q1 qb q4 hz9 q2 q3
                      clear hly yy0 yy1 HH Hnp
                      obtain ⟨V1, V2, V3⟩ := VH.out
                      have U1 := W1.out
                      have U2 := W2.out
                      generalize gc3 (thX a b c y z) y z = gg at *
                      generalize thX a b c y z = x at *
                      clear xx0 xx1
                      have U3 := W3.out
                      have U4 := W4.out
                      have U5 := VK.out
                      go_wp2_with (first
                        | (go_at_call 35; (with_reducible refine (hAac.out _).mono ?_); rintro e v ⟨rfl, rfl⟩)
                        | (go_at_call 36; (with_reducible refine (hT.out _).mono ?_); rintro e v3 ⟨rfl, hB3⟩; have hZ3 := hB3.size; (try simp at hZ3); (try have zl3 : w.heap.size < v3.heap.size := by omega); (try have ze3 : w.heap.size ≤ v3.heap.size := by omega); (try have zn3 : ¬ w.heap.size = v3.heap.size := by omega); (try have zm3 : ¬ v3.heap.size = w.heap.size := by omega); have hA3 : Blk v3 (w.heap.size) 25 #[.int .i64 a, .int .i64 b, .int .i64 c] := Blk.call (by (repeat (first | with_reducible assumption | (with_reducible apply Blk.new_at; (first | rfl | (simp; done))) | with_reducible apply Blk.store3 | with_reducible apply Blk.store4 | (with_reducible apply Blk.farp; (first | omega | (simp <;> omega))) | with_reducible apply Blk.allocp | with_reducible apply Blk.drew | with_reducible apply Blk.drewN))) hB3; have cA3 := hA3.cell; have fA3 := hA3.frozen; have lA3 := hA3.lt; have mA3 := Nat.ne_of_gt lA3; have nA3 := Nat.ne_of_lt lA3; have hR3 : Blk v3 (w.heap.size + 1) 36 #[.int .i64 0, .int .i64 0, .int .i64 0] := Blk.call (by (repeat (first | with_reducible assumption | (with_reducible apply Blk.new_at; (first | rfl | (simp; done))) | with_reducible apply Blk.store3 | with_reducible apply Blk.store4 | (with_reducible apply Blk.farp; (first | omega | (simp <;> omega))) | with_reducible apply Blk.allocp | with_reducible apply Blk.drew | with_reducible apply Blk.drewN))) hB3; have cR3 := hR3.cell; have fR3 := hR3.frozen; have lR3 := hR3.lt; have mR3 := Nat.ne_of_gt lR3; have nR3 := Nat.ne_of_lt lR3))
                      have hS4 : Blk (v3.alloc (.cells #[.int .i64 x, .int .i64 y, .int .i64 z] 36)) v3.heap.size 36 #[.int .i64 x, .int .i64 y, .int .i64 z] := Blk.new _ _ _
                      have hA4 : Blk (v3.alloc (.cells #[.int .i64 x, .int .i64 y, .int .i64 z] 36)) w.heap.size 25 #[.int .i64 a, .int .i64 b, .int .i64 c] := by (repeat (first | with_reducible assumption | (with_reducible apply Blk.new_at; (first | rfl | (simp; done))) | with_reducible apply Blk.store3 | with_reducible apply Blk.store4 | (with_reducible apply Blk.farp; (first | omega | (simp <;> omega))) | with_reducible apply Blk.allocp | with_reducible apply Blk.drew | with_reducible apply Blk.drewN))
                      have hR4 : Blk (v3.alloc (.cells #[.int .i64 x, .int .i64 y, .int .i64 z] 36)) (w.heap.size + 1) 36 #[.int .i64 0, .int .i64 0, .int .i64 0] := by (repeat (first | with_reducible assumption | (with_reducible apply Blk.new_at; (first | rfl | (simp; done))) | with_reducible apply Blk.store3 | with_reducible apply Blk.store4 | (with_reducible apply Blk.farp; (first | omega | (simp <;> omega))) | with_reducible apply Blk.allocp | with_reducible apply Blk.drew | with_reducible apply Blk.drewN))
                      have hb4 : Below w.heap.size w (v3.alloc (.cells #[.int .i64 x, .int .i64 y, .int .i64 z] 36)) := (by repeat (first | with_reducible exact Below.refl _ _ | with_reducible assumption | with_reducible apply Below.drew | with_reducible apply below_drewN | (with_reducible apply below_setp; (first | omega | (simp <;> omega))) | (with_reducible apply below_allocp; (first | omega | (simp <;> omega))) | (with_reducible refine below_viap (by assumption) ?_ ?_; (first | omega | (simp <;> omega)))))
                      have cS4 := hS4.cell; have fS4 := hS4.frozen; have lS4 := hS4.lt
                      have cA4 := hA4.cell; have fA4 := hA4.frozen; have lA4 := hA4.lt
                      refine wp_region_calm 20 (Below (v3.heap.size + 1) _) (by kernel_rfl) (by kernel_rfl) ((Below.refl _ _).drew) ?_
                      simp only [List.take_succ_cons, List.take_zero, List.drop_succ_cons, List.drop_zero]
                      repeat (first | (apply wpCalm_go; go_simp; (intro w' hw' hcc hff; go_simp; first | exact rfl | (with_reducible refine (hCg.out _).mono ?_; rintro e w1 ⟨rfl, hb⟩; exact ⟨rfl, calm_call (by first | omega | (simp <;> omega)) hw' hb⟩) | (with_reducible refine (hAbc.out _).mono ?_; rintro e w1 ⟨rfl, hb⟩; exact ⟨rfl, calm_call_same hw' hb⟩)); (intro K hK; go_simp; refine hK _ ?_; clear hK K)) | (apply wpCalm_skip; go_simp; (try (focus (simp [undef]; done))); (intro K hK; go_simp; refine hK _ ?_; clear hK K)))
                      refine wpCalm_nil ?_
                      intro w1 hw1
                      have hcc := (calm_cells hw1).1
                      have hff := (calm_cells hw1).2
                      have hss := calm_size hw1
                      have hsz := hw1.size
                      (try simp at hsz)
                      have hA5 : Blk w1 w.heap.size 25 #[.int .i64 a, .int .i64 b, .int .i64 c] := Blk.below (by (repeat (first | with_reducible assumption | (with_reducible apply Blk.new_at; (first | rfl | (simp; done))) | with_reducible apply Blk.store3 | with_reducible apply Blk.store4 | (with_reducible apply Blk.farp; (first | omega | (simp <;> omega))) | with_reducible apply Blk.allocp | with_reducible apply Blk.drew | with_reducible apply Blk.drewN))) hw1 (by omega)
                      have hR5 : Blk w1 (w.heap.size + 1) 36 #[.int .i64 0, .int .i64 0, .int .i64 0] := Blk.below (by (repeat (first | with_reducible assumption | (with_reducible apply Blk.new_at; (first | rfl | (simp; done))) | with_reducible apply Blk.store3 | with_reducible apply Blk.store4 | (with_reducible apply Blk.farp; (first | omega | (simp <;> omega))) | with_reducible apply Blk.allocp | with_reducible apply Blk.drew | with_reducible apply Blk.drewN))) hw1 (by omega)
                      have hS5 : Blk w1 v3.heap.size 36 #[.int .i64 x, .int .i64 y, .int .i64 z] := Blk.below (by (repeat (first | with_reducible assumption | (with_reducible apply Blk.new_at; (first | rfl | (simp; done))) | with_reducible apply Blk.store3 | with_reducible apply Blk.store4 | (with_reducible apply Blk.farp; (first | omega | (simp <;> omega))) | with_reducible apply Blk.allocp | with_reducible apply Blk.drew | with_reducible apply Blk.drewN))) hw1 (by omega)
                      have cS5 := hS5.cell; have fS5 := hS5.frozen; have lS5 := hS5.lt
                      have cR5 := hR5.cell; have fR5 := hR5.frozen; have lR5 := hR5.lt
                      have hb5 : Below w.heap.size w w1 := below_via hb4 hw1 (by first | omega | (simp <;> omega))
                      clear hcc hff hw1 hS4 hA4 hR4 hb4 hA3 cA3 fA3 lA3 hR3 cR3 fR3 lR3 cS4 fS4 lS4 cA4 fA4 lA4
                      go_wp2
                      go_roundw
                      case rel => exact ⟨y + 1, rfl, ⟨by omega, by omega⟩, HN, Lib.hid (by (repeat (first | with_reducible assumption | (with_reducible apply Blk.new_at; (first | rfl | (simp; done))) | with_reducible apply Blk.store3 | with_reducible apply Blk.store4 | (with_reducible apply Blk.farp; (first | omega | (simp <;> omega))) | with_reducible apply Blk.allocp | with_reducible apply Blk.drew | with_reducible apply Blk.drewN))), Lib.hid (by (repeat (first | with_reducible assumption | (with_reducible apply Blk.new_at; (first | rfl | (simp; done))) | with_reducible apply Blk.store3 | with_reducible apply Blk.store4 | (with_reducible apply Blk.farp; (first | omega | (simp <;> omega))) | with_reducible apply Blk.allocp | with_reducible apply Blk.drew | with_reducible apply Blk.drewN))), (by repeat (first | with_reducible exact Below.refl _ _ | with_reducible assumption | with_reducible apply Below.drew | with_reducible apply below_drewN | (with_reducible apply below_setp; (first | omega | (simp <;> omega))) | (with_reducible apply below_allocp; (first | omega | (simp <;> omega))) | (with_reducible refine below_viap (by assumption) ?_ ?_; (first | omega | (simp <;> omega)))))⟩
                      case measure => simp [intOf]; omega
                    · skip
                      have qb : xpB a b c y z = true := by unfold xpB; rw [q1, hz9]; rfl
                      rw [qb] at hT
                      have xx0 := sq_nn (thX a b c y z)
                      have xx1 : thX a b c y z * thX a b c y z ≤ 144000000 := Int.mul_le_mul x1 x1 x0 (by omega)
                      have W3 := Lib.hid (show wrap64 (thX a b c y z * thX a b c y z) = thX a b c y z * thX a b c y z from IntWalk.wrap64_in _ (by omega))
                      have W4 := Lib.hid (show IntKind.i64.wrap (thX a b c y z * thX a b c y z) = thX a b c y z * thX a b c y z from IntWalk.i64_in _ (by omega))
                      have hCg := Lib.hid (fun w => cnGcd_any (thX a b c y z) y z w ⟨x0, x1⟩ (by omega) (by omega))
                      have d4 : (gc3 (thX a b c y z) y z == 1) = false := by rw [beq_eq_false_iff_ne]; exact q3
                      clear q1 qb q4 hz9 q2 q3
                      clear hly yy0 yy1 HH Hnp
                      obtain ⟨V1, V2, V3⟩ := VH.out
                      have U1 := W1.out
                      have U2 := W2.out
                      generalize gc3 (thX a b c y z) y z = gg at *
                      generalize thX a b c y z = x at *
                      clear xx0 xx1
                      have U3 := W3.out
                      have U4 := W4.out
                      have U5 := VK.out
                      go_wp2_with (first
                        | (go_at_call 35; (with_reducible refine (hAac.out _).mono ?_); rintro e v ⟨rfl, rfl⟩)
                        | (go_at_call 36; (with_reducible refine (hT.out _).mono ?_); rintro e v3 ⟨rfl, hB3⟩; have hZ3 := hB3.size; (try simp at hZ3); (try have zl3 : w.heap.size < v3.heap.size := by omega); (try have ze3 : w.heap.size ≤ v3.heap.size := by omega); (try have zn3 : ¬ w.heap.size = v3.heap.size := by omega); (try have zm3 : ¬ v3.heap.size = w.heap.size := by omega); have hA3 : Blk v3 (w.heap.size) 25 #[.int .i64 a, .int .i64 b, .int .i64 c] := Blk.call (by (repeat (first | with_reducible assumption | (with_reducible apply Blk.new_at; (first | rfl | (simp; done))) | with_reducible apply Blk.store3 | with_reducible apply Blk.store4 | (with_reducible apply Blk.farp; (first | omega | (simp <;> omega))) | with_reducible apply Blk.allocp | with_reducible apply Blk.drew | with_reducible apply Blk.drewN))) hB3; have cA3 := hA3.cell; have fA3 := hA3.frozen; have lA3 := hA3.lt; have mA3 := Nat.ne_of_gt lA3; have nA3 := Nat.ne_of_lt lA3; have hR3 : Blk v3 (w.heap.size + 1) 36 #[.int .i64 0, .int .i64 0, .int .i64 0] := Blk.call (by (repeat (first | with_reducible assumption | (with_reducible apply Blk.new_at; (first | rfl | (simp; done))) | with_reducible apply Blk.store3 | with_reducible apply Blk.store4 | (with_reducible apply Blk.farp; (first | omega | (simp <;> omega))) | with_reducible apply Blk.allocp | with_reducible apply Blk.drew | with_reducible apply Blk.drewN))) hB3; have cR3 := hR3.cell; have fR3 := hR3.frozen; have lR3 := hR3.lt; have mR3 := Nat.ne_of_gt lR3; have nR3 := Nat.ne_of_lt lR3))
                      have hS4 : Blk (v3.alloc (.cells #[.int .i64 x, .int .i64 y, .int .i64 z] 36)) v3.heap.size 36 #[.int .i64 x, .int .i64 y, .int .i64 z] := Blk.new _ _ _
                      have hA4 : Blk (v3.alloc (.cells #[.int .i64 x, .int .i64 y, .int .i64 z] 36)) w.heap.size 25 #[.int .i64 a, .int .i64 b, .int .i64 c] := by (repeat (first | with_reducible assumption | (with_reducible apply Blk.new_at; (first | rfl | (simp; done))) | with_reducible apply Blk.store3 | with_reducible apply Blk.store4 | (with_reducible apply Blk.farp; (first | omega | (simp <;> omega))) | with_reducible apply Blk.allocp | with_reducible apply Blk.drew | with_reducible apply Blk.drewN))
                      have hR4 : Blk (v3.alloc (.cells #[.int .i64 x, .int .i64 y, .int .i64 z] 36)) (w.heap.size + 1) 36 #[.int .i64 0, .int .i64 0, .int .i64 0] := by (repeat (first | with_reducible assumption | (with_reducible apply Blk.new_at; (first | rfl | (simp; done))) | with_reducible apply Blk.store3 | with_reducible apply Blk.store4 | (with_reducible apply Blk.farp; (first | omega | (simp <;> omega))) | with_reducible apply Blk.allocp | with_reducible apply Blk.drew | with_reducible apply Blk.drewN))
                      have hb4 : Below w.heap.size w (v3.alloc (.cells #[.int .i64 x, .int .i64 y, .int .i64 z] 36)) := (by repeat (first | with_reducible exact Below.refl _ _ | with_reducible assumption | with_reducible apply Below.drew | with_reducible apply below_drewN | (with_reducible apply below_setp; (first | omega | (simp <;> omega))) | (with_reducible apply below_allocp; (first | omega | (simp <;> omega))) | (with_reducible refine below_viap (by assumption) ?_ ?_; (first | omega | (simp <;> omega)))))
                      have cS4 := hS4.cell; have fS4 := hS4.frozen; have lS4 := hS4.lt
                      have cA4 := hA4.cell; have fA4 := hA4.frozen; have lA4 := hA4.lt
                      refine wp_region_calm 20 (Below (v3.heap.size + 1) _) (by kernel_rfl) (by kernel_rfl) ((Below.refl _ _).drew) ?_
                      simp only [List.take_succ_cons, List.take_zero, List.drop_succ_cons, List.drop_zero]
                      repeat (first | (apply wpCalm_go; go_simp; (intro w' hw' hcc hff; go_simp; first | exact rfl | (with_reducible refine (hCg.out _).mono ?_; rintro e w1 ⟨rfl, hb⟩; exact ⟨rfl, calm_call (by first | omega | (simp <;> omega)) hw' hb⟩) | (with_reducible refine (hAbc.out _).mono ?_; rintro e w1 ⟨rfl, hb⟩; exact ⟨rfl, calm_call_same hw' hb⟩)); (intro K hK; go_simp; refine hK _ ?_; clear hK K)) | (apply wpCalm_skip; go_simp; (try (focus (simp [undef]; done))); (intro K hK; go_simp; refine hK _ ?_; clear hK K)))
                      refine wpCalm_nil ?_
                      intro w1 hw1
                      have hcc := (calm_cells hw1).1
                      have hff := (calm_cells hw1).2
                      have hss := calm_size hw1
                      have hsz := hw1.size
                      (try simp at hsz)
                      have hA5 : Blk w1 w.heap.size 25 #[.int .i64 a, .int .i64 b, .int .i64 c] := Blk.below (by (repeat (first | with_reducible assumption | (with_reducible apply Blk.new_at; (first | rfl | (simp; done))) | with_reducible apply Blk.store3 | with_reducible apply Blk.store4 | (with_reducible apply Blk.farp; (first | omega | (simp <;> omega))) | with_reducible apply Blk.allocp | with_reducible apply Blk.drew | with_reducible apply Blk.drewN))) hw1 (by omega)
                      have hR5 : Blk w1 (w.heap.size + 1) 36 #[.int .i64 0, .int .i64 0, .int .i64 0] := Blk.below (by (repeat (first | with_reducible assumption | (with_reducible apply Blk.new_at; (first | rfl | (simp; done))) | with_reducible apply Blk.store3 | with_reducible apply Blk.store4 | (with_reducible apply Blk.farp; (first | omega | (simp <;> omega))) | with_reducible apply Blk.allocp | with_reducible apply Blk.drew | with_reducible apply Blk.drewN))) hw1 (by omega)
                      have hS5 : Blk w1 v3.heap.size 36 #[.int .i64 x, .int .i64 y, .int .i64 z] := Blk.below (by (repeat (first | with_reducible assumption | (with_reducible apply Blk.new_at; (first | rfl | (simp; done))) | with_reducible apply Blk.store3 | with_reducible apply Blk.store4 | (with_reducible apply Blk.farp; (first | omega | (simp <;> omega))) | with_reducible apply Blk.allocp | with_reducible apply Blk.drew | with_reducible apply Blk.drewN))) hw1 (by omega)
                      have cS5 := hS5.cell; have fS5 := hS5.frozen; have lS5 := hS5.lt
                      have cR5 := hR5.cell; have fR5 := hR5.frozen; have lR5 := hR5.lt
                      have hb5 : Below w.heap.size w w1 := below_via hb4 hw1 (by first | omega | (simp <;> omega))
                      clear hcc hff hw1 hS4 hA4 hR4 hb4 hA3 cA3 fA3 lA3 hR3 cR3 fR3 lR3 cS4 fS4 lS4 cA4 fA4 lA4
                      go_wp2
                      go_roundw
                      case rel => exact ⟨y + 1, rfl, ⟨by omega, by omega⟩, HN, Lib.hid (by (repeat (first | with_reducible assumption | (with_reducible apply Blk.new_at; (first | rfl | (simp; done))) | with_reducible apply Blk.store3 | with_reducible apply Blk.store4 | (with_reducible apply Blk.farp; (first | omega | (simp <;> omega))) | with_reducible apply Blk.allocp | with_reducible apply Blk.drew | with_reducible apply Blk.drewN))), Lib.hid (by (repeat (first | with_reducible assumption | (with_reducible apply Blk.new_at; (first | rfl | (simp; done))) | with_reducible apply Blk.store3 | with_reducible apply Blk.store4 | (with_reducible apply Blk.farp; (first | omega | (simp <;> omega))) | with_reducible apply Blk.allocp | with_reducible apply Blk.drew | with_reducible apply Blk.drewN))), (by repeat (first | with_reducible exact Below.refl _ _ | with_reducible assumption | with_reducible apply Below.drew | with_reducible apply below_drewN | (with_reducible apply below_setp; (first | omega | (simp <;> omega))) | (with_reducible apply below_allocp; (first | omega | (simp <;> omega))) | (with_reducible refine below_viap (by assumption) ?_ ?_; (first | omega | (simp <;> omega)))))⟩
                      case measure => simp [intOf]; omega
                · have HN := Lib.hid (Hnp.out q4)
                  have px : xpV a b c y z y = y ∧ xpV a b c y z z = z := by unfold xpV; rw [q1]; exact ⟨rfl, rfl⟩
                  rw [px.1, px.2] at hT
                  clear px
                  
                  cases hz9 : nzB (thX a b c y z) y z with
                  | false =>
                    have qb : xpB a b c y z = false := by unfold xpB; rw [q1, hz9]; rfl
                    rw [qb] at hT
                    clear q1 qb q4 hz9 q2 q3
                    clear hly yy0 yy1 HH Hnp
                    obtain ⟨V1, V2, V3⟩ := VH.out
                    have U1 := W1.out
                    have U2 := W2.out
                    generalize thX a b c y z = x at *
                    go_wp2_with (first
                      | (go_at_call 35; (with_reducible refine (hAac.out _).mono ?_); rintro e v ⟨rfl, rfl⟩)
                      | (go_at_call 36; (with_reducible refine (hT.out _).mono ?_); rintro e v3 ⟨rfl, hB3⟩; have hZ3 := hB3.size; (try simp at hZ3); (try have zl3 : w.heap.size < v3.heap.size := by omega); (try have ze3 : w.heap.size ≤ v3.heap.size := by omega); (try have zn3 : ¬ w.heap.size = v3.heap.size := by omega); (try have zm3 : ¬ v3.heap.size = w.heap.size := by omega); have hA3 : Blk v3 (w.heap.size) 25 #[.int .i64 a, .int .i64 b, .int .i64 c] := Blk.call (by (repeat (first | with_reducible assumption | (with_reducible apply Blk.new_at; (first | rfl | (simp; done))) | with_reducible apply Blk.store3 | with_reducible apply Blk.store4 | (with_reducible apply Blk.farp; (first | omega | (simp <;> omega))) | with_reducible apply Blk.allocp | with_reducible apply Blk.drew | with_reducible apply Blk.drewN))) hB3; have cA3 := hA3.cell; have fA3 := hA3.frozen; have lA3 := hA3.lt; have mA3 := Nat.ne_of_gt lA3; have nA3 := Nat.ne_of_lt lA3; have hR3 : Blk v3 (w.heap.size + 1) 36 #[.int .i64 0, .int .i64 0, .int .i64 0] := Blk.call (by (repeat (first | with_reducible assumption | (with_reducible apply Blk.new_at; (first | rfl | (simp; done))) | with_reducible apply Blk.store3 | with_reducible apply Blk.store4 | (with_reducible apply Blk.farp; (first | omega | (simp <;> omega))) | with_reducible apply Blk.allocp | with_reducible apply Blk.drew | with_reducible apply Blk.drewN))) hB3; have cR3 := hR3.cell; have fR3 := hR3.frozen; have lR3 := hR3.lt; have mR3 := Nat.ne_of_gt lR3; have nR3 := Nat.ne_of_lt lR3))
                    have hS4 : Blk (v3.alloc (.cells #[.int .i64 x, .int .i64 y, .int .i64 z] 36)) v3.heap.size 36 #[.int .i64 x, .int .i64 y, .int .i64 z] := Blk.new _ _ _
                    have hA4 : Blk (v3.alloc (.cells #[.int .i64 x, .int .i64 y, .int .i64 z] 36)) w.heap.size 25 #[.int .i64 a, .int .i64 b, .int .i64 c] := by (repeat (first | with_reducible assumption | (with_reducible apply Blk.new_at; (first | rfl | (simp; done))) | with_reducible apply Blk.store3 | with_reducible apply Blk.store4 | (with_reducible apply Blk.farp; (first | omega | (simp <;> omega))) | with_reducible apply Blk.allocp | with_reducible apply Blk.drew | with_reducible apply Blk.drewN))
                    have hR4 : Blk (v3.alloc (.cells #[.int .i64 x, .int .i64 y, .int .i64 z] 36)) (w.heap.size + 1) 36 #[.int .i64 0, .int .i64 0, .int .i64 0] := by (repeat (first | with_reducible assumption | (with_reducible apply Blk.new_at; (first | rfl | (simp; done))) | with_reducible apply Blk.store3 | with_reducible apply Blk.store4 | (with_reducible apply Blk.farp; (first | omega | (simp <;> omega))) | with_reducible apply Blk.allocp | with_reducible apply Blk.drew | with_reducible apply Blk.drewN))
                    have hb4 : Below w.heap.size w (v3.alloc (.cells #[.int .i64 x, .int .i64 y, .int .i64 z] 36)) := (by repeat (first | with_reducible exact Below.refl _ _ | with_reducible assumption | with_reducible apply Below.drew | with_reducible apply below_drewN | (with_reducible apply below_setp; (first | omega | (simp <;> omega))) | (with_reducible apply below_allocp; (first | omega | (simp <;> omega))) | (with_reducible refine below_viap (by assumption) ?_ ?_; (first | omega | (simp <;> omega)))))
                    have cS4 := hS4.cell; have fS4 := hS4.frozen; have lS4 := hS4.lt
                    have cA4 := hA4.cell; have fA4 := hA4.frozen; have lA4 := hA4.lt
                    refine wp_region_calm 20 (Below (v3.heap.size + 1) _) (by kernel_rfl) (by kernel_rfl) ((Below.refl _ _).drew) ?_
                    simp only [List.take_succ_cons, List.take_zero, List.drop_succ_cons, List.drop_zero]
                    repeat (first | (apply wpCalm_go; go_simp; (intro w' hw' hcc hff; go_simp; first | exact rfl | (with_reducible refine (hAbc.out _).mono ?_; rintro e w1 ⟨rfl, hb⟩; exact ⟨rfl, calm_call_same hw' hb⟩)); (intro K hK; go_simp; refine hK _ ?_; clear hK K)) | (apply wpCalm_skip; go_simp; (try (focus (simp [undef]; done))); (intro K hK; go_simp; refine hK _ ?_; clear hK K)))
                    refine wpCalm_nil ?_
                    intro w1 hw1
                    have hcc := (calm_cells hw1).1
                    have hff := (calm_cells hw1).2
                    have hss := calm_size hw1
                    have hsz := hw1.size
                    (try simp at hsz)
                    have hA5 : Blk w1 w.heap.size 25 #[.int .i64 a, .int .i64 b, .int .i64 c] := Blk.below (by (repeat (first | with_reducible assumption | (with_reducible apply Blk.new_at; (first | rfl | (simp; done))) | with_reducible apply Blk.store3 | with_reducible apply Blk.store4 | (with_reducible apply Blk.farp; (first | omega | (simp <;> omega))) | with_reducible apply Blk.allocp | with_reducible apply Blk.drew | with_reducible apply Blk.drewN))) hw1 (by omega)
                    have hR5 : Blk w1 (w.heap.size + 1) 36 #[.int .i64 0, .int .i64 0, .int .i64 0] := Blk.below (by (repeat (first | with_reducible assumption | (with_reducible apply Blk.new_at; (first | rfl | (simp; done))) | with_reducible apply Blk.store3 | with_reducible apply Blk.store4 | (with_reducible apply Blk.farp; (first | omega | (simp <;> omega))) | with_reducible apply Blk.allocp | with_reducible apply Blk.drew | with_reducible apply Blk.drewN))) hw1 (by omega)
                    have hS5 : Blk w1 v3.heap.size 36 #[.int .i64 x, .int .i64 y, .int .i64 z] := Blk.below (by (repeat (first | with_reducible assumption | (with_reducible apply Blk.new_at; (first | rfl | (simp; done))) | with_reducible apply Blk.store3 | with_reducible apply Blk.store4 | (with_reducible apply Blk.farp; (first | omega | (simp <;> omega))) | with_reducible apply Blk.allocp | with_reducible apply Blk.drew | with_reducible apply Blk.drewN))) hw1 (by omega)
                    have cS5 := hS5.cell; have fS5 := hS5.frozen; have lS5 := hS5.lt
                    have cR5 := hR5.cell; have fR5 := hR5.frozen; have lR5 := hR5.lt
                    have hb5 : Below w.heap.size w w1 := below_via hb4 hw1 (by first | omega | (simp <;> omega))
                    clear hcc hff hw1 hS4 hA4 hR4 hb4 hA3 cA3 fA3 lA3 hR3 cR3 fR3 lR3 cS4 fS4 lS4 cA4 fA4 lA4
                    go_wp2
                    go_roundw
                    case rel => exact ⟨y + 1, rfl, ⟨by omega, by omega⟩, HN, Lib.hid (by (repeat (first | with_reducible assumption | (with_reducible apply Blk.new_at; (first | rfl | (simp; done))) | with_reducible apply Blk.store3 | with_reducible apply Blk.store4 | (with_reducible apply Blk.farp; (first | omega | (simp <;> omega))) | with_reducible apply Blk.allocp | with_reducible apply Blk.drew | with_reducible apply Blk.drewN))), Lib.hid (by (repeat (first | with_reducible assumption | (with_reducible apply Blk.new_at; (first | rfl | (simp; done))) | with_reducible apply Blk.store3 | with_reducible apply Blk.store4 | (with_reducible apply Blk.farp; (first | omega | (simp <;> omega))) | with_reducible apply Blk.allocp | with_reducible apply Blk.drew | with_reducible apply Blk.drewN))), (by repeat (first | with_reducible exact Below.refl _ _ | with_reducible assumption | with_reducible apply Below.drew | with_reducible apply below_drewN | (with_reducible apply below_setp; (first | omega | (simp <;> omega))) | (with_reducible apply below_allocp; (first | omega | (simp <;> omega))) | (with_reducible refine below_viap (by assumption) ?_ ?_; (first | omega | (simp <;> omega)))))⟩
                    case measure => simp [intOf]; omega
                  | true =>
                    have qb : xpB a b c y z = true := by unfold xpB; rw [q1, hz9]; rfl
                    rw [qb] at hT
                    have xx0 := sq_nn (thX a b c y z)
                    have xx1 : thX a b c y z * thX a b c y z ≤ 144000000 := Int.mul_le_mul x1 x1 x0 (by omega)
                    have W3 := Lib.hid (show wrap64 (thX a b c y z * thX a b c y z) = thX a b c y z * thX a b c y z from IntWalk.wrap64_in _ (by omega))
                    have W4 := Lib.hid (show IntKind.i64.wrap (thX a b c y z * thX a b c y z) = thX a b c y z * thX a b c y z from IntWalk.i64_in _ (by omega))
                    have hCg := Lib.hid (fun w => cnGcd_any (thX a b c y z) y z w ⟨x0, x1⟩ (by omega) (by omega))
                    have d4 : (gc3 (thX a b c y z) y z == 1) = false := by rw [beq_eq_false_iff_ne]; exact q3
                    clear q1 qb q4 hz9 q2 q3
                    clear hly yy0 yy1 HH Hnp
                    obtain ⟨V1, V2, V3⟩ := VH.out
                    have U1 := W1.out
                    have U2 := W2.out
                    generalize gc3 (thX a b c y z) y z = gg at *
                    generalize thX a b c y z = x at *
                    clear xx0 xx1
                    have U3 := W3.out
                    have U4 := W4.out
                    have U5 := VK.out
                    go_wp2_with (first
                      | (go_at_call 35; (with_reducible refine (hAac.out _).mono ?_); rintro e v ⟨rfl, rfl⟩)
                      | (go_at_call 36; (with_reducible refine (hT.out _).mono ?_); rintro e v3 ⟨rfl, hB3⟩; have hZ3 := hB3.size; (try simp at hZ3); (try have zl3 : w.heap.size < v3.heap.size := by omega); (try have ze3 : w.heap.size ≤ v3.heap.size := by omega); (try have zn3 : ¬ w.heap.size = v3.heap.size := by omega); (try have zm3 : ¬ v3.heap.size = w.heap.size := by omega); have hA3 : Blk v3 (w.heap.size) 25 #[.int .i64 a, .int .i64 b, .int .i64 c] := Blk.call (by (repeat (first | with_reducible assumption | (with_reducible apply Blk.new_at; (first | rfl | (simp; done))) | with_reducible apply Blk.store3 | with_reducible apply Blk.store4 | (with_reducible apply Blk.farp; (first | omega | (simp <;> omega))) | with_reducible apply Blk.allocp | with_reducible apply Blk.drew | with_reducible apply Blk.drewN))) hB3; have cA3 := hA3.cell; have fA3 := hA3.frozen; have lA3 := hA3.lt; have mA3 := Nat.ne_of_gt lA3; have nA3 := Nat.ne_of_lt lA3; have hR3 : Blk v3 (w.heap.size + 1) 36 #[.int .i64 0, .int .i64 0, .int .i64 0] := Blk.call (by (repeat (first | with_reducible assumption | (with_reducible apply Blk.new_at; (first | rfl | (simp; done))) | with_reducible apply Blk.store3 | with_reducible apply Blk.store4 | (with_reducible apply Blk.farp; (first | omega | (simp <;> omega))) | with_reducible apply Blk.allocp | with_reducible apply Blk.drew | with_reducible apply Blk.drewN))) hB3; have cR3 := hR3.cell; have fR3 := hR3.frozen; have lR3 := hR3.lt; have mR3 := Nat.ne_of_gt lR3; have nR3 := Nat.ne_of_lt lR3))
                    have hS4 : Blk (v3.alloc (.cells #[.int .i64 x, .int .i64 y, .int .i64 z] 36)) v3.heap.size 36 #[.int .i64 x, .int .i64 y, .int .i64 z] := Blk.new _ _ _
                    have hA4 : Blk (v3.alloc (.cells #[.int .i64 x, .int .i64 y, .int .i64 z] 36)) w.heap.size 25 #[.int .i64 a, .int .i64 b, .int .i64 c] := by (repeat (first | with_reducible assumption | (with_reducible apply Blk.new_at; (first | rfl | (simp; done))) | with_reducible apply Blk.store3 | with_reducible apply Blk.store4 | (with_reducible apply Blk.farp; (first | omega | (simp <;> omega))) | with_reducible apply Blk.allocp | with_reducible apply Blk.drew | with_reducible apply Blk.drewN))
                    have hR4 : Blk (v3.alloc (.cells #[.int .i64 x, .int .i64 y, .int .i64 z] 36)) (w.heap.size + 1) 36 #[.int .i64 0, .int .i64 0, .int .i64 0] := by (repeat (first | with_reducible assumption | (with_reducible apply Blk.new_at; (first | rfl | (simp; done))) | with_reducible apply Blk.store3 | with_reducible apply Blk.store4 | (with_reducible apply Blk.farp; (first | omega | (simp <;> omega))) | with_reducible apply Blk.allocp | with_reducible apply Blk.drew | with_reducible apply Blk.drewN))
                    have hb4 : Below w.heap.size w (v3.alloc (.cells #[.int .i64 x, .int .i64 y, .int .i64 z] 36)) := (by repeat (first | with_reducible exact Below.refl _ _ | with_reducible assumption | with_reducible apply Below.drew | with_reducible apply below_drewN | (with_reducible apply below_setp; (first | omega | (simp <;> omega))) | (with_reducible apply below_allocp; (first | omega | (simp <;> omega))) | (with_reducible refine below_viap (by assumption) ?_ ?_; (first | omega | (simp <;> omega)))))
                    have cS4 := hS4.cell; have fS4 := hS4.frozen; have lS4 := hS4.lt
                    have cA4 := hA4.cell; have fA4 := hA4.frozen; have lA4 := hA4.lt
                    refine wp_region_calm 20 (Below (v3.heap.size + 1) _) (by kernel_rfl) (by kernel_rfl) ((Below.refl _ _).drew) ?_
                    simp only [List.take_succ_cons, List.take_zero, List.drop_succ_cons, List.drop_zero]
                    repeat (first | (apply wpCalm_go; go_simp; (intro w' hw' hcc hff; go_simp; first | exact rfl | (with_reducible refine (hCg.out _).mono ?_; rintro e w1 ⟨rfl, hb⟩; exact ⟨rfl, calm_call (by first | omega | (simp <;> omega)) hw' hb⟩) | (with_reducible refine (hAbc.out _).mono ?_; rintro e w1 ⟨rfl, hb⟩; exact ⟨rfl, calm_call_same hw' hb⟩)); (intro K hK; go_simp; refine hK _ ?_; clear hK K)) | (apply wpCalm_skip; go_simp; (try (focus (simp [undef]; done))); (intro K hK; go_simp; refine hK _ ?_; clear hK K)))
                    refine wpCalm_nil ?_
                    intro w1 hw1
                    have hcc := (calm_cells hw1).1
                    have hff := (calm_cells hw1).2
                    have hss := calm_size hw1
                    have hsz := hw1.size
                    (try simp at hsz)
                    have hA5 : Blk w1 w.heap.size 25 #[.int .i64 a, .int .i64 b, .int .i64 c] := Blk.below (by (repeat (first | with_reducible assumption | (with_reducible apply Blk.new_at; (first | rfl | (simp; done))) | with_reducible apply Blk.store3 | with_reducible apply Blk.store4 | (with_reducible apply Blk.farp; (first | omega | (simp <;> omega))) | with_reducible apply Blk.allocp | with_reducible apply Blk.drew | with_reducible apply Blk.drewN))) hw1 (by omega)
                    have hR5 : Blk w1 (w.heap.size + 1) 36 #[.int .i64 0, .int .i64 0, .int .i64 0] := Blk.below (by (repeat (first | with_reducible assumption | (with_reducible apply Blk.new_at; (first | rfl | (simp; done))) | with_reducible apply Blk.store3 | with_reducible apply Blk.store4 | (with_reducible apply Blk.farp; (first | omega | (simp <;> omega))) | with_reducible apply Blk.allocp | with_reducible apply Blk.drew | with_reducible apply Blk.drewN))) hw1 (by omega)
                    have hS5 : Blk w1 v3.heap.size 36 #[.int .i64 x, .int .i64 y, .int .i64 z] := Blk.below (by (repeat (first | with_reducible assumption | (with_reducible apply Blk.new_at; (first | rfl | (simp; done))) | with_reducible apply Blk.store3 | with_reducible apply Blk.store4 | (with_reducible apply Blk.farp; (first | omega | (simp <;> omega))) | with_reducible apply Blk.allocp | with_reducible apply Blk.drew | with_reducible apply Blk.drewN))) hw1 (by omega)
                    have cS5 := hS5.cell; have fS5 := hS5.frozen; have lS5 := hS5.lt
                    have cR5 := hR5.cell; have fR5 := hR5.frozen; have lR5 := hR5.lt
                    have hb5 : Below w.heap.size w w1 := below_via hb4 hw1 (by first | omega | (simp <;> omega))
                    clear hcc hff hw1 hS4 hA4 hR4 hb4 hA3 cA3 fA3 lA3 hR3 cR3 fR3 lR3 cS4 fS4 lS4 cA4 fA4 lA4
                    go_wp2
                    go_roundw
                    case rel => exact ⟨y + 1, rfl, ⟨by omega, by omega⟩, HN, Lib.hid (by (repeat (first | with_reducible assumption | (with_reducible apply Blk.new_at; (first | rfl | (simp; done))) | with_reducible apply Blk.store3 | with_reducible apply Blk.store4 | (with_reducible apply Blk.farp; (first | omega | (simp <;> omega))) | with_reducible apply Blk.allocp | with_reducible apply Blk.drew | with_reducible apply Blk.drewN))), Lib.hid (by (repeat (first | with_reducible assumption | (with_reducible apply Blk.new_at; (first | rfl | (simp; done))) | with_reducible apply Blk.store3 | with_reducible apply Blk.store4 | (with_reducible apply Blk.farp; (first | omega | (simp <;> omega))) | with_reducible apply Blk.allocp | with_reducible apply Blk.drew | with_reducible apply Blk.drewN))), (by repeat (first | with_reducible exact Below.refl _ _ | with_reducible assumption | with_reducible apply Below.drew | with_reducible apply below_drewN | (with_reducible apply below_setp; (first | omega | (simp <;> omega))) | (with_reducible apply below_allocp; (first | omega | (simp <;> omega))) | (with_reducible refine below_viap (by assumption) ?_ ?_; (first | omega | (simp <;> omega)))))⟩
                    case measure => simp [intOf]; omega
                · have HZ := Lib.hid (HH.out q4 hnr.out hnp.out)
                  have px : xpV a b c y z y = y ∧ xpV a b c y z z = z := by unfold xpV; rw [q1]; exact ⟨rfl, rfl⟩
                  rw [px.1, px.2] at hT
                  clear px
                  
                  have hz9 : nzB (thX a b c y z) y z = true := by
                    cases hz9 : nzB (thX a b c y z) y z with
                    | false => exact absurd q3 (gc3_nz hz9)
                    | true => rfl
                  have qb : xpB a b c y z = true := by unfold xpB; rw [q1, hz9]; rfl
                  rw [qb] at hT
                  have xx0 := sq_nn (thX a b c y z)
                  have xx1 : thX a b c y z * thX a b c y z ≤ 144000000 := Int.mul_le_mul x1 x1 x0 (by omega)
                  have W3 := Lib.hid (show wrap64 (thX a b c y z * thX a b c y z) = thX a b c y z * thX a b c y z from IntWalk.wrap64_in _ (by omega))
                  have W4 := Lib.hid (show IntKind.i64.wrap (thX a b c y z * thX a b c y z) = thX a b c y z * thX a b c y z from IntWalk.i64_in _ (by omega))
                  have hCg := Lib.hid (fun w => cnGcd_any (thX a b c y z) y z w ⟨x0, x1⟩ (by omega) (by omega))
                  have d3 := decide_eq_true q2
                  have d4 : (gc3 (thX a b c y z) y z == 1) = true := by rw [beq_iff_eq]; exact q3
                  clear q1 qb q4 hz9 q2 q3
                  clear hly yy0 yy1 HH Hnp
                  obtain ⟨V1, V2, V3⟩ := VH.out
                  have U1 := W1.out
                  have U2 := W2.out
                  generalize gc3 (thX a b c y z) y z = gg at *
                  generalize thX a b c y z = x at *
                  clear xx0 xx1
                  have U3 := W3.out
                  have U4 := W4.out
                  have U5 := VK.out
                  go_wp2_with (first
                    | (go_at_call 35; (with_reducible refine (hAac.out _).mono ?_); rintro e v ⟨rfl, rfl⟩)
                    | (go_at_call 36; (with_reducible refine (hT.out _).mono ?_); rintro e v3 ⟨rfl, hB3⟩; have hZ3 := hB3.size; (try simp at hZ3); (try have zl3 : w.heap.size < v3.heap.size := by omega); (try have ze3 : w.heap.size ≤ v3.heap.size := by omega); (try have zn3 : ¬ w.heap.size = v3.heap.size := by omega); (try have zm3 : ¬ v3.heap.size = w.heap.size := by omega); have hA3 : Blk v3 (w.heap.size) 25 #[.int .i64 a, .int .i64 b, .int .i64 c] := Blk.call (by (repeat (first | with_reducible assumption | (with_reducible apply Blk.new_at; (first | rfl | (simp; done))) | with_reducible apply Blk.store3 | with_reducible apply Blk.store4 | (with_reducible apply Blk.farp; (first | omega | (simp <;> omega))) | with_reducible apply Blk.allocp | with_reducible apply Blk.drew | with_reducible apply Blk.drewN))) hB3; have cA3 := hA3.cell; have fA3 := hA3.frozen; have lA3 := hA3.lt; have mA3 := Nat.ne_of_gt lA3; have nA3 := Nat.ne_of_lt lA3; have hR3 : Blk v3 (w.heap.size + 1) 36 #[.int .i64 0, .int .i64 0, .int .i64 0] := Blk.call (by (repeat (first | with_reducible assumption | (with_reducible apply Blk.new_at; (first | rfl | (simp; done))) | with_reducible apply Blk.store3 | with_reducible apply Blk.store4 | (with_reducible apply Blk.farp; (first | omega | (simp <;> omega))) | with_reducible apply Blk.allocp | with_reducible apply Blk.drew | with_reducible apply Blk.drewN))) hB3; have cR3 := hR3.cell; have fR3 := hR3.frozen; have lR3 := hR3.lt; have mR3 := Nat.ne_of_gt lR3; have nR3 := Nat.ne_of_lt lR3))
                  have hS4 : Blk (v3.alloc (.cells #[.int .i64 x, .int .i64 y, .int .i64 z] 36)) v3.heap.size 36 #[.int .i64 x, .int .i64 y, .int .i64 z] := Blk.new _ _ _
                  have hA4 : Blk (v3.alloc (.cells #[.int .i64 x, .int .i64 y, .int .i64 z] 36)) w.heap.size 25 #[.int .i64 a, .int .i64 b, .int .i64 c] := by (repeat (first | with_reducible assumption | (with_reducible apply Blk.new_at; (first | rfl | (simp; done))) | with_reducible apply Blk.store3 | with_reducible apply Blk.store4 | (with_reducible apply Blk.farp; (first | omega | (simp <;> omega))) | with_reducible apply Blk.allocp | with_reducible apply Blk.drew | with_reducible apply Blk.drewN))
                  have hR4 : Blk (v3.alloc (.cells #[.int .i64 x, .int .i64 y, .int .i64 z] 36)) (w.heap.size + 1) 36 #[.int .i64 0, .int .i64 0, .int .i64 0] := by (repeat (first | with_reducible assumption | (with_reducible apply Blk.new_at; (first | rfl | (simp; done))) | with_reducible apply Blk.store3 | with_reducible apply Blk.store4 | (with_reducible apply Blk.farp; (first | omega | (simp <;> omega))) | with_reducible apply Blk.allocp | with_reducible apply Blk.drew | with_reducible apply Blk.drewN))
                  have hb4 : Below w.heap.size w (v3.alloc (.cells #[.int .i64 x, .int .i64 y, .int .i64 z] 36)) := (by repeat (first | with_reducible exact Below.refl _ _ | with_reducible assumption | with_reducible apply Below.drew | with_reducible apply below_drewN | (with_reducible apply below_setp; (first | omega | (simp <;> omega))) | (with_reducible apply below_allocp; (first | omega | (simp <;> omega))) | (with_reducible refine below_viap (by assumption) ?_ ?_; (first | omega | (simp <;> omega)))))
                  have cS4 := hS4.cell; have fS4 := hS4.frozen; have lS4 := hS4.lt
                  have cA4 := hA4.cell; have fA4 := hA4.frozen; have lA4 := hA4.lt
                  refine wp_region_calm 20 (Below (v3.heap.size + 1) _) (by kernel_rfl) (by kernel_rfl) ((Below.refl _ _).drew) ?_
                  simp only [List.take_succ_cons, List.take_zero, List.drop_succ_cons, List.drop_zero]
                  repeat (first | (apply wpCalm_go; go_simp; (intro w' hw' hcc hff; go_simp; first | exact rfl | (with_reducible refine (hCg.out _).mono ?_; rintro e w1 ⟨rfl, hb⟩; exact ⟨rfl, calm_call (by first | omega | (simp <;> omega)) hw' hb⟩) | (with_reducible refine (hAbc.out _).mono ?_; rintro e w1 ⟨rfl, hb⟩; exact ⟨rfl, calm_call_same hw' hb⟩)); (intro K hK; go_simp; refine hK _ ?_; clear hK K)) | (apply wpCalm_skip; go_simp; (try (focus (simp [undef]; done))); (intro K hK; go_simp; refine hK _ ?_; clear hK K)))
                  refine wpCalm_nil ?_
                  intro w1 hw1
                  have hcc := (calm_cells hw1).1
                  have hff := (calm_cells hw1).2
                  have hss := calm_size hw1
                  have hsz := hw1.size
                  (try simp at hsz)
                  have hA5 : Blk w1 w.heap.size 25 #[.int .i64 a, .int .i64 b, .int .i64 c] := Blk.below (by (repeat (first | with_reducible assumption | (with_reducible apply Blk.new_at; (first | rfl | (simp; done))) | with_reducible apply Blk.store3 | with_reducible apply Blk.store4 | (with_reducible apply Blk.farp; (first | omega | (simp <;> omega))) | with_reducible apply Blk.allocp | with_reducible apply Blk.drew | with_reducible apply Blk.drewN))) hw1 (by omega)
                  have hR5 : Blk w1 (w.heap.size + 1) 36 #[.int .i64 0, .int .i64 0, .int .i64 0] := Blk.below (by (repeat (first | with_reducible assumption | (with_reducible apply Blk.new_at; (first | rfl | (simp; done))) | with_reducible apply Blk.store3 | with_reducible apply Blk.store4 | (with_reducible apply Blk.farp; (first | omega | (simp <;> omega))) | with_reducible apply Blk.allocp | with_reducible apply Blk.drew | with_reducible apply Blk.drewN))) hw1 (by omega)
                  have hS5 : Blk w1 v3.heap.size 36 #[.int .i64 x, .int .i64 y, .int .i64 z] := Blk.below (by (repeat (first | with_reducible assumption | (with_reducible apply Blk.new_at; (first | rfl | (simp; done))) | with_reducible apply Blk.store3 | with_reducible apply Blk.store4 | (with_reducible apply Blk.farp; (first | omega | (simp <;> omega))) | with_reducible apply Blk.allocp | with_reducible apply Blk.drew | with_reducible apply Blk.drewN))) hw1 (by omega)
                  have cS5 := hS5.cell; have fS5 := hS5.frozen; have lS5 := hS5.lt
                  have cR5 := hR5.cell; have fR5 := hR5.frozen; have lR5 := hR5.lt
                  have hb5 : Below w.heap.size w w1 := below_via hb4 hw1 (by first | omega | (simp <;> omega))
                  clear hcc hff hw1 hS4 hA4 hR4 hb4 hA3 cA3 fA3 lA3 hR3 cR3 fR3 lR3 cS4 fS4 lS4 cA4 fA4 lA4
                  go_wp2
                  exact bodyPost_ret (v := .tuple #[.agg #[.int .i64 x, .int .i64 y, .int .i64 z], .bool true]) (by simp [results, Try.results13, go_sem, *]) rfl (HT.out _ _ _ _ _ HZ.out (by repeat (first | with_reducible exact Below.refl _ _ | with_reducible assumption | with_reducible apply Below.drew | with_reducible apply below_drewN | (with_reducible apply below_setp; (first | omega | (simp <;> omega))) | (with_reducible apply below_allocp; (first | omega | (simp <;> omega))) | (with_reducible refine below_viap (by assumption) ?_ ?_; (first | omega | (simp <;> omega))))))
              · have d2 := decide_eq_false hly
                have hr := Lib.hid (hNx.out z hnr.out (hRow.out y z hnp.out y0 (Int.not_le.1 hly)))
                clear hly yy0 yy1
                obtain ⟨V1, V2, V3⟩ := VH.out
                have U2 := W2.out
                go_wp2_with (go_at_call 35; (with_reducible refine (hAac.out _).mono ?_); rintro e v ⟨rfl, rfl⟩)
                go_roundw
                case rel => exact ⟨z + 1, rfl, ⟨by omega, by omega⟩, hr, hA, hR, hbel⟩
                case measure => simp [intOf]; omega
          · have d1 := decide_eq_false hle
            have HX := Lib.hid (hAll.out z hnr.out z0 (Int.not_le.1 hle))
            clear hle zz0 zz1 V1 V2 V3
            obtain ⟨V1, V2, V3⟩ := VH.out
            have U1 := W1.out
            go_wp2_with (go_at_call 35; (with_reducible refine (hAab.out _).mono ?_); rintro e v ⟨rfl, rfl⟩)
            exact bodyPost_ret (v := .tuple #[.agg #[.int .i64 0, .int .i64 0, .int .i64 0], .bool false]) (by simp [results, Try.results13, go_sem, *]) rfl (HF.out _ _ HX.out (by repeat (first | with_reducible exact Below.refl _ _ | with_reducible assumption | with_reducible apply Below.drew | with_reducible apply below_drewN | (with_reducible apply below_setp; (first | omega | (simp <;> omega))) | (with_reducible apply below_allocp; (first | omega | (simp <;> omega))) | (with_reducible refine below_viap (by assumption) ?_ ?_; (first | omega | (simp <;> omega))))))
      · have hp1 : ¬ plF a b c < 0 := by rw [hpN]; exact hp
        have hpd : decide (plF a b c ≥ 0) = true := decide_eq_true (by omega)
        have hpd2 : decide (0 ≤ plF a b c) = true := decide_eq_true (by omega)
        have HN := Lib.hid (ls_none NT hp)
        clear hpN hp hp1 NT ht hn h HT
        generalize plF a b c = pp at *
        go_enter Try.func13, Try.ntmps13
        go_wp2_with (first | (go_at_call 20; (with_reducible refine (hI.out _).mono ?_); rintro e v1 ⟨rfl, hB1⟩; have hZ1 := hB1.size; (try simp at hZ1); (try have zl1 : w.heap.size < v1.heap.size := by omega); (try have ze1 : w.heap.size ≤ v1.heap.size := by omega); (try have zn1 : ¬ w.heap.size = v1.heap.size := by omega); (try have zm1 : ¬ v1.heap.size = w.heap.size := by omega); have hA1 : Blk v1 (w.heap.size) 25 #[.int .i64 a, .int .i64 b, .int .i64 c] := Blk.call (by (repeat (first | with_reducible assumption | (with_reducible apply Blk.new_at; (first | rfl | (simp; done))) | with_reducible apply Blk.store3 | with_reducible apply Blk.store4 | (with_reducible apply Blk.farp; (first | omega | (simp <;> omega))) | with_reducible apply Blk.allocp | with_reducible apply Blk.drew | with_reducible apply Blk.drewN))) hB1; have cA1 := hA1.cell; have fA1 := hA1.frozen; have lA1 := hA1.lt; have mA1 := Nat.ne_of_gt lA1; have nA1 := Nat.ne_of_lt lA1; have hR1 : Blk v1 (w.heap.size + 1) 36 #[.int .i64 0, .int .i64 0, .int .i64 0] := Blk.call (by (repeat (first | with_reducible assumption | (with_reducible apply Blk.new_at; (first | rfl | (simp; done))) | with_reducible apply Blk.store3 | with_reducible apply Blk.store4 | (with_reducible apply Blk.farp; (first | omega | (simp <;> omega))) | with_reducible apply Blk.allocp | with_reducible apply Blk.drew | with_reducible apply Blk.drewN))) hB1; have cR1 := hR1.cell; have fR1 := hR1.frozen; have lR1 := hR1.lt; have mR1 := Nat.ne_of_gt lR1; have nR1 := Nat.ne_of_lt lR1) | (go_at_call 34; (with_reducible refine (hN.out _).mono ?_); rintro e v2 ⟨rfl, hB2⟩; have hZ2 := hB2.size; (try simp at hZ2); (try have zl2 : w.heap.size < v2.heap.size := by omega); (try have ze2 : w.heap.size ≤ v2.heap.size := by omega); (try have zn2 : ¬ w.heap.size = v2.heap.size := by omega); (try have zm2 : ¬ v2.heap.size = w.heap.size := by omega); have hA2 : Blk v2 (w.heap.size) 25 #[.int .i64 a, .int .i64 b, .int .i64 c] := Blk.call (by (repeat (first | with_reducible assumption | (with_reducible apply Blk.new_at; (first | rfl | (simp; done))) | with_reducible apply Blk.store3 | with_reducible apply Blk.store4 | (with_reducible apply Blk.farp; (first | omega | (simp <;> omega))) | with_reducible apply Blk.allocp | with_reducible apply Blk.drew | with_reducible apply Blk.drewN))) hB2; have cA2 := hA2.cell; have fA2 := hA2.frozen; have lA2 := hA2.lt; have mA2 := Nat.ne_of_gt lA2; have nA2 := Nat.ne_of_lt lA2; have hR2 : Blk v2 (w.heap.size + 1) 36 #[.int .i64 0, .int .i64 0, .int .i64 0] := Blk.call (by (repeat (first | with_reducible assumption | (with_reducible apply Blk.new_at; (first | rfl | (simp; done))) | with_reducible apply Blk.store3 | with_reducible apply Blk.store4 | (with_reducible apply Blk.farp; (first | omega | (simp <;> omega))) | with_reducible apply Blk.allocp | with_reducible apply Blk.drew | with_reducible apply Blk.drewN))) hB2; have cR2 := hR2.cell; have fR2 := hR2.frozen; have lR2 := hR2.lt; have mR2 := Nat.ne_of_gt lR2; have nR2 := Nat.ne_of_lt lR2) | (go_at_call 22; (with_reducible refine (hPl.out _).mono ?_); rintro e v9 ⟨rfl, hB9⟩; have hZ9 := hB9.size; (try simp at hZ9); (try have zl9 : w.heap.size < v9.heap.size := by omega); (try have ze9 : w.heap.size ≤ v9.heap.size := by omega); (try have zn9 : ¬ w.heap.size = v9.heap.size := by omega); (try have zm9 : ¬ v9.heap.size = w.heap.size := by omega); have hA9 : Blk v9 (w.heap.size) 25 #[.int .i64 a, .int .i64 b, .int .i64 c] := Blk.call (by (repeat (first | with_reducible assumption | (with_reducible apply Blk.new_at; (first | rfl | (simp; done))) | with_reducible apply Blk.store3 | with_reducible apply Blk.store4 | (with_reducible apply Blk.farp; (first | omega | (simp <;> omega))) | with_reducible apply Blk.allocp | with_reducible apply Blk.drew | with_reducible apply Blk.drewN))) hB9; have cA9 := hA9.cell; have fA9 := hA9.frozen; have lA9 := hA9.lt; have mA9 := Nat.ne_of_gt lA9; have nA9 := Nat.ne_of_lt lA9; have hR9 : Blk v9 (w.heap.size + 1) 36 #[.int .i64 0, .int .i64 0, .int .i64 0] := Blk.call (by (repeat (first | with_reducible assumption | (with_reducible apply Blk.new_at; (first | rfl | (simp; done))) | with_reducible apply Blk.store3 | with_reducible apply Blk.store4 | (with_reducible apply Blk.farp; (first | omega | (simp <;> omega))) | with_reducible apply Blk.allocp | with_reducible apply Blk.drew | with_reducible apply Blk.drewN))) hB9; have cR9 := hR9.cell; have fR9 := hR9.frozen; have lR9 := hR9.lt; have mR9 := Nat.ne_of_gt lR9; have nR9 := Nat.ne_of_lt lR9))
        exact bodyPost_ret (v := .tuple #[.agg #[.int .i64 0, .int .i64 0, .int .i64 0], .bool false]) (by simp [results, Try.results13, go_sem, *]) rfl (HF.out _ _ HN.out (by repeat (first | with_reducible exact Below.refl _ _ | with_reducible assumption | with_reducible apply Below.drew | with_reducible apply below_drewN | (with_reducible apply below_setp; (first | omega | (simp <;> omega))) | (with_reducible apply below_allocp; (first | omega | (simp <;> omega))) | (with_reducible refine below_viap (by assumption) ?_ ?_; (first | omega | (simp <;> omega))))))
end Go.Proofs.Ytdhennlanngjgaa
