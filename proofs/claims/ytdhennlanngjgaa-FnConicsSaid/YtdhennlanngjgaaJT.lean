/- Contracts: LeastSolution, of both sides (written by gen_JT.py). -/
import Derived.Test.YtdhennlanngjgaaJQ
namespace Go.Proofs.Ytdhennlanngjgaa
open Go.RowKit

/-- What LeastSolution gives back. -/
def RetLs2 (a b c : Int) (w : World) (e : Ending) (w' : World) : Prop := ∃ (x y z : Int) (ok : Bool), e = .returned (.tuple #[.agg #[.int .i64 x, .int .i64 y, .int .i64 z], .bool ok]) ∧ LsW a b c x y z ok ∧ Below w.heap.size w w'
theorem retLs2 {a b c x y z : Int} {ok : Bool} {w w' : World} (h : LsW a b c x y z ok) (hb : Below w.heap.size w w') : RetLs2 a b c w (.returned (.tuple #[.agg #[.int .i64 x, .int .i64 y, .int .i64 z], .bool ok])) w' := ⟨x, y, z, ok, rfl, h, hb⟩
/-- The state of the outer loop. -/
def LzSt (a b c : Int) (w : World) (vz : Value) (wr : World) : Prop := ∃ z : Int, vz = .int .i64 z ∧ (0 ≤ z ∧ z ≤ 401) ∧ Hid (noRow a b c z) ∧ Hid (Blk wr w.heap.size 25 #[.int .i64 a, .int .i64 b, .int .i64 c]) ∧ Hid (Blk wr (w.heap.size + 1) 36 #[.int .i64 0, .int .i64 0, .int .i64 0]) ∧ Below w.heap.size w wr
def LySt (a b c z : Int) (w : World) (vy : Value) (wr : World) : Prop := ∃ y : Int, vy = .int .i64 y ∧ (0 ≤ y ∧ y ≤ 401) ∧ Hid (noPt a b c y z) ∧ Hid (Blk wr w.heap.size 25 #[.int .i64 a, .int .i64 b, .int .i64 c]) ∧ Hid (Blk wr (w.heap.size + 1) 36 #[.int .i64 0, .int .i64 0, .int .i64 0]) ∧ Below w.heap.size w wr
theorem lsR_hit {a b c y z : Int} (h0 : 0 ≤ y ∧ 0 ≤ z) (h1 : z * z ≤ ((a * b).natAbs : Int)) (h2 : y * y ≤ ((a * c).natAbs : Int)) (h3 : lsB a b c y z = true) (h4 : noRow a b c z) (h5 : noPt a b c y z) : LsR a b c (thX a b c y z) y z true := .inl ⟨rfl, h0, h1, h2, h3, rfl, h4, h5⟩
theorem gc3_eq (x y z : Int) : (Int.gcd x (Int.gcd y z : Int) : Int) = gc3 x y z := rfl
theorem gc3_any (x y z : Int) (w : World) (h1 : -4000000000000000000 ≤ x) (h2 : x ≤ 4000000000000000000) (h3 : -4000000000000000000 ≤ (Int.gcd y z : Int)) (h4 : (Int.gcd y z : Int) ≤ 4000000000000000000) :
    Calls Try.prog 33 #[.int .i64 x, .int .i64 (Int.gcd y z)] w fun e w' => e = .returned (.int .i64 (gc3 x y z)) ∧ ∃ n, w' = w.drewN n := gcd_any x (Int.gcd y z) w h1 h2 h3 h4
theorem gcd_bd {y z : Int} (hy : 0 ≤ y ∧ y ≤ 400) (hz : 0 ≤ z ∧ z ≤ 400) : (0 : Int) ≤ (Int.gcd y z : Int) ∧ (Int.gcd y z : Int) ≤ 400 := by
  by_cases h0 : y = 0
  · subst h0; simp; omega
  · have := Int.gcd_le_natAbs_left (b := z) h0; omega
theorem ls_cases (a b c y z : Int) : (thB a b c y z = false ∧ lsB a b c y z = false) ∨ (thB a b c y z = true ∧ ((b * c).natAbs : Int) < thX a b c y z * thX a b c y z ∧ lsB a b c y z = false) ∨
    (thB a b c y z = true ∧ thX a b c y z * thX a b c y z ≤ ((b * c).natAbs : Int) ∧ ¬ gc3 (thX a b c y z) y z = 1 ∧ lsB a b c y z = false) ∨ (thB a b c y z = true ∧ thX a b c y z * thX a b c y z ≤ ((b * c).natAbs : Int) ∧ gc3 (thX a b c y z) y z = 1 ∧ lsB a b c y z = true) := by
  unfold lsB
  cases h : thB a b c y z with
  | false => exact .inl ⟨rfl, rfl⟩
  | true =>
    by_cases h2 : thX a b c y z * thX a b c y z ≤ ((b * c).natAbs : Int)
    · by_cases h3 : gc3 (thX a b c y z) y z = 1
      · exact .inr (.inr (.inr ⟨rfl, h2, h3, by rw [decide_eq_true h2, decide_eq_true h3]; rfl⟩))
      · exact .inr (.inr (.inl ⟨rfl, h2, h3, by rw [decide_eq_true h2, decide_eq_false h3]; rfl⟩))
    · exact .inr (.inl ⟨rfl, Int.not_le.1 h2, by rw [decide_eq_false h2]; rfl⟩)
theorem thX_bd {a b c y z : Int} (h : TrI a b c) (hy : 0 ≤ y ∧ y ≤ 400) (hz : 0 ≤ z ∧ z ≤ 400) : 0 ≤ thX a b c y z ∧ thX a b c y z ≤ 12000 := by
  cases hb : thB a b c y z with
  | false => unfold thX; rw [hb]; simp
  | true =>
    obtain ⟨_, x0, xe, q0⟩ := thB_yes hb
    obtain ⟨b1, b2, b3, b4⟩ := th_bd h.b1 h.c1 hy hz
    have qb := tdv_bd (a := a) (R := thR b c y z) (M := 128000000) (by unfold thR; omega) (by unfold thR; omega)
    exact ⟨x0, by rw [xe]; exact rt_le q0 qb.2⟩

set_option maxRecDepth 100000 in
set_option maxHeartbeats 25600000 in
theorem implLS_any (a b c : Int) (w : World) (ha : W64 a) (hb : W64 b) (hc : W64 c) : Calls Try.prog 12 #[.agg #[.int .i64 a, .int .i64 b, .int .i64 c]] w (RetLs2 a b c w) := by
  have hI := Lib.hid (fun w => isTriple_any a b c w ha hb hc)
  cases ht : trB a b c with
  | false =>
    rw [ht] at hI
    have HF := Lib.hid (fun w w' (h : Below w.heap.size w w') => retLs2 (a := a) (b := b) (c := c) (w := w) (w' := w') (.inl ⟨by rw [ht]; rfl, rfl, rfl, rfl, rfl⟩) h)
    clear ht ha hb hc
    go_enter Try.func12, Try.ntmps12
    go_wp2_with (go_at_call 29; (with_reducible refine (hI.out _).mono ?_); rintro e v1 ⟨rfl, hB1⟩; have hZ1 := hB1.size; (try simp at hZ1); (try have zl1 : w.heap.size < v1.heap.size := by omega); (try have ze1 : w.heap.size ≤ v1.heap.size := by omega); (try have zn1 : ¬ w.heap.size = v1.heap.size := by omega); (try have zm1 : ¬ v1.heap.size = w.heap.size := by omega); have hA1 : Blk v1 (w.heap.size) 25 #[.int .i64 a, .int .i64 b, .int .i64 c] := Blk.call (by (repeat (first | with_reducible assumption | (with_reducible apply Blk.new_at; (first | rfl | (simp; done))) | with_reducible apply Blk.store3 | with_reducible apply Blk.store4 | (with_reducible apply Blk.farp; (first | omega | (simp <;> omega))) | with_reducible apply Blk.allocp | with_reducible apply Blk.drew | with_reducible apply Blk.drewN))) hB1; have cA1 := hA1.cell; have fA1 := hA1.frozen; have lA1 := hA1.lt; have mA1 := Nat.ne_of_gt lA1; have nA1 := Nat.ne_of_lt lA1; have hR1 : Blk v1 (w.heap.size + 1) 36 #[.int .i64 0, .int .i64 0, .int .i64 0] := Blk.call (by (repeat (first | with_reducible assumption | (with_reducible apply Blk.new_at; (first | rfl | (simp; done))) | with_reducible apply Blk.store3 | with_reducible apply Blk.store4 | (with_reducible apply Blk.farp; (first | omega | (simp <;> omega))) | with_reducible apply Blk.allocp | with_reducible apply Blk.drew | with_reducible apply Blk.drewN))) hB1; have cR1 := hR1.cell; have fR1 := hR1.frozen; have lR1 := hR1.lt; have mR1 := Nat.ne_of_gt lR1; have nR1 := Nat.ne_of_lt lR1)
    exact bodyPost_ret (v := .tuple #[.agg #[.int .i64 0, .int .i64 0, .int .i64 0], .bool false]) (by simp [results, Try.results12, go_sem, *]) rfl (HF.out _ _ (by repeat (first | with_reducible exact Below.refl _ _ | with_reducible assumption | with_reducible apply Below.drew | with_reducible apply below_drewN | (with_reducible apply below_setp; (first | omega | (simp <;> omega))) | (with_reducible apply below_allocp; (first | omega | (simp <;> omega))) | (with_reducible refine below_viap (by assumption) ?_ ?_; (first | omega | (simp <;> omega))))))
  | true =>
    have h := trB_iff.1 ht
    have hN := Lib.hid (fun w => nmT_any a b c w h)
    cases hn : nmB a b c with
    | false =>
      rw [ht] at hI
      rw [hn] at hN
      have HF := Lib.hid (fun w w' (h : Below w.heap.size w w') => retLs2 (a := a) (b := b) (c := c) (w := w) (w' := w') (.inl ⟨by rw [ht, hn]; rfl, rfl, rfl, rfl, rfl⟩) h)
      clear ht ha hb hc hn h
      go_enter Try.func12, Try.ntmps12
      go_wp2_with (first | (go_at_call 29; (with_reducible refine (hI.out _).mono ?_); rintro e v1 ⟨rfl, hB1⟩; have hZ1 := hB1.size; (try simp at hZ1); (try have zl1 : w.heap.size < v1.heap.size := by omega); (try have ze1 : w.heap.size ≤ v1.heap.size := by omega); (try have zn1 : ¬ w.heap.size = v1.heap.size := by omega); (try have zm1 : ¬ v1.heap.size = w.heap.size := by omega); have hA1 : Blk v1 (w.heap.size) 25 #[.int .i64 a, .int .i64 b, .int .i64 c] := Blk.call (by (repeat (first | with_reducible assumption | (with_reducible apply Blk.new_at; (first | rfl | (simp; done))) | with_reducible apply Blk.store3 | with_reducible apply Blk.store4 | (with_reducible apply Blk.farp; (first | omega | (simp <;> omega))) | with_reducible apply Blk.allocp | with_reducible apply Blk.drew | with_reducible apply Blk.drewN))) hB1; have cA1 := hA1.cell; have fA1 := hA1.frozen; have lA1 := hA1.lt; have mA1 := Nat.ne_of_gt lA1; have nA1 := Nat.ne_of_lt lA1; have hR1 : Blk v1 (w.heap.size + 1) 36 #[.int .i64 0, .int .i64 0, .int .i64 0] := Blk.call (by (repeat (first | with_reducible assumption | (with_reducible apply Blk.new_at; (first | rfl | (simp; done))) | with_reducible apply Blk.store3 | with_reducible apply Blk.store4 | (with_reducible apply Blk.farp; (first | omega | (simp <;> omega))) | with_reducible apply Blk.allocp | with_reducible apply Blk.drew | with_reducible apply Blk.drewN))) hB1; have cR1 := hR1.cell; have fR1 := hR1.frozen; have lR1 := hR1.lt; have mR1 := Nat.ne_of_gt lR1; have nR1 := Nat.ne_of_lt lR1) | (go_at_call 30; (with_reducible refine (hN.out _).mono ?_); rintro e v2 ⟨rfl, hB2⟩; have hZ2 := hB2.size; (try simp at hZ2); (try have zl2 : w.heap.size < v2.heap.size := by omega); (try have ze2 : w.heap.size ≤ v2.heap.size := by omega); (try have zn2 : ¬ w.heap.size = v2.heap.size := by omega); (try have zm2 : ¬ v2.heap.size = w.heap.size := by omega); have hA2 : Blk v2 (w.heap.size) 25 #[.int .i64 a, .int .i64 b, .int .i64 c] := Blk.call (by (repeat (first | with_reducible assumption | (with_reducible apply Blk.new_at; (first | rfl | (simp; done))) | with_reducible apply Blk.store3 | with_reducible apply Blk.store4 | (with_reducible apply Blk.farp; (first | omega | (simp <;> omega))) | with_reducible apply Blk.allocp | with_reducible apply Blk.drew | with_reducible apply Blk.drewN))) hB2; have cA2 := hA2.cell; have fA2 := hA2.frozen; have lA2 := hA2.lt; have mA2 := Nat.ne_of_gt lA2; have nA2 := Nat.ne_of_lt lA2; have hR2 : Blk v2 (w.heap.size + 1) 36 #[.int .i64 0, .int .i64 0, .int .i64 0] := Blk.call (by (repeat (first | with_reducible assumption | (with_reducible apply Blk.new_at; (first | rfl | (simp; done))) | with_reducible apply Blk.store3 | with_reducible apply Blk.store4 | (with_reducible apply Blk.farp; (first | omega | (simp <;> omega))) | with_reducible apply Blk.allocp | with_reducible apply Blk.drew | with_reducible apply Blk.drewN))) hB2; have cR2 := hR2.cell; have fR2 := hR2.frozen; have lR2 := hR2.lt; have mR2 := Nat.ne_of_gt lR2; have nR2 := Nat.ne_of_lt lR2))
      exact bodyPost_ret (v := .tuple #[.agg #[.int .i64 0, .int .i64 0, .int .i64 0], .bool false]) (by simp [results, Try.results12, go_sem, *]) rfl (HF.out _ _ (by repeat (first | with_reducible exact Below.refl _ _ | with_reducible assumption | with_reducible apply Below.drew | with_reducible apply below_drewN | (with_reducible apply below_setp; (first | omega | (simp <;> omega))) | (with_reducible apply below_allocp; (first | omega | (simp <;> omega))) | (with_reducible refine below_viap (by assumption) ?_ ?_; (first | omega | (simp <;> omega))))))
    | true =>
      rw [ht] at hI
      rw [hn] at hN
      have HF := Lib.hid (fun w w' (h0 : LsR a b c 0 0 0 false) (hb : Below w.heap.size w w') => retLs2 (a := a) (b := b) (c := c) (w := w) (w' := w') (.inr ⟨h, hn, h0⟩) hb)
      have HT := Lib.hid (fun w w' x y z (h0 : LsR a b c x y z true) (hb : Below w.heap.size w w') => retLs2 (a := a) (b := b) (c := c) (w := w) (w' := w') (.inr ⟨h, hn, h0⟩) hb)
      obtain ⟨⟨ab1, ab2⟩, ⟨bc1, bc2⟩, ⟨ac1, ac2⟩, -⟩ := h.pb
      have mab := nab ⟨ab1, ab2⟩
      have mac := nab ⟨ac1, ac2⟩
      have mbc := nab ⟨bc1, bc2⟩
      have hAab := Lib.hid (fun w => abs_any (a * b) w (by omega) (by omega))
      have hAac := Lib.hid (fun w => abs_any (a * c) w (by omega) (by omega))
      have hAbc := Lib.hid (fun w => abs_any (b * c) w (by omega) (by omega))
      have V1 : wrap64 (a * b) = a * b := IntWalk.wrap64_in _ (by omega)
      have V2 : wrap64 (a * c) = a * c := IntWalk.wrap64_in _ (by omega)
      have V3 : wrap64 (b * c) = b * c := IntWalk.wrap64_in _ (by omega)
      have VH := Lib.hid (And.intro V1 (And.intro V2 V3))
      have VK := Lib.hid (show IntKind.i64.wrap (b * c) = b * c from IntWalk.i64_in _ (by omega))
      clear V1 V2 V3
      have hTh := Lib.hid (fun y z w hy hz => third_any a b c y z w h hy hz)
      have hXb := Lib.hid (fun y z hy hz => thX_bd (y := y) (z := z) h hy hz)
      have hAll := Lib.hid (fun z (h1 : noRow a b c z) (h2 : 0 ≤ z) (h3 : ((a * b).natAbs : Int) < z * z) => h1.all h2 (Int.not_le.2 h3))
      have hRow := Lib.hid (fun y z (h1 : noPt a b c y z) (h2 : 0 ≤ y) (h3 : ((a * c).natAbs : Int) < y * y) => h1.row h2 (Int.not_le.2 h3))
      have hNx := Lib.hid (fun z (h1 : noRow a b c z) (h2 : ∀ y', 0 ≤ y' → y' * y' ≤ ((a * c).natAbs : Int) → lsB a b c y' z = false) => h1.next h2)
      have hHit := Lib.hid (fun y z (h0 : 0 ≤ y ∧ 0 ≤ z) (h1 : z * z ≤ ((a * b).natAbs : Int)) (h2 : y * y ≤ ((a * c).natAbs : Int)) (h3 : lsB a b c y z = true) (h4 : noRow a b c z) (h5 : noPt a b c y z) => lsR_hit h0 h1 h2 h3 h4 h5)
      have hCs := Lib.hid (fun y z => ls_cases a b c y z)
      generalize ((a * b).natAbs : Int) = mb at *
      generalize ((a * c).natAbs : Int) = mc at *
      generalize ((b * c).natAbs : Int) = md at *
      clear ht ha hb hc hn h ab1 ab2 bc1 bc2 ac1 ac2
      go_enter Try.func12, Try.ntmps12
      go_wp2_with (first | (go_at_call 29; (with_reducible refine (hI.out _).mono ?_); rintro e v1 ⟨rfl, hB1⟩; have hZ1 := hB1.size; (try simp at hZ1); (try have zl1 : w.heap.size < v1.heap.size := by omega); (try have ze1 : w.heap.size ≤ v1.heap.size := by omega); (try have zn1 : ¬ w.heap.size = v1.heap.size := by omega); (try have zm1 : ¬ v1.heap.size = w.heap.size := by omega); have hA1 : Blk v1 (w.heap.size) 25 #[.int .i64 a, .int .i64 b, .int .i64 c] := Blk.call (by (repeat (first | with_reducible assumption | (with_reducible apply Blk.new_at; (first | rfl | (simp; done))) | with_reducible apply Blk.store3 | with_reducible apply Blk.store4 | (with_reducible apply Blk.farp; (first | omega | (simp <;> omega))) | with_reducible apply Blk.allocp | with_reducible apply Blk.drew | with_reducible apply Blk.drewN))) hB1; have cA1 := hA1.cell; have fA1 := hA1.frozen; have lA1 := hA1.lt; have mA1 := Nat.ne_of_gt lA1; have nA1 := Nat.ne_of_lt lA1; have hR1 : Blk v1 (w.heap.size + 1) 36 #[.int .i64 0, .int .i64 0, .int .i64 0] := Blk.call (by (repeat (first | with_reducible assumption | (with_reducible apply Blk.new_at; (first | rfl | (simp; done))) | with_reducible apply Blk.store3 | with_reducible apply Blk.store4 | (with_reducible apply Blk.farp; (first | omega | (simp <;> omega))) | with_reducible apply Blk.allocp | with_reducible apply Blk.drew | with_reducible apply Blk.drewN))) hB1; have cR1 := hR1.cell; have fR1 := hR1.frozen; have lR1 := hR1.lt; have mR1 := Nat.ne_of_gt lR1; have nR1 := Nat.ne_of_lt lR1) | (go_at_call 30; (with_reducible refine (hN.out _).mono ?_); rintro e v2 ⟨rfl, hB2⟩; have hZ2 := hB2.size; (try simp at hZ2); (try have zl2 : w.heap.size < v2.heap.size := by omega); (try have ze2 : w.heap.size ≤ v2.heap.size := by omega); (try have zn2 : ¬ w.heap.size = v2.heap.size := by omega); (try have zm2 : ¬ v2.heap.size = w.heap.size := by omega); have hA2 : Blk v2 (w.heap.size) 25 #[.int .i64 a, .int .i64 b, .int .i64 c] := Blk.call (by (repeat (first | with_reducible assumption | (with_reducible apply Blk.new_at; (first | rfl | (simp; done))) | with_reducible apply Blk.store3 | with_reducible apply Blk.store4 | (with_reducible apply Blk.farp; (first | omega | (simp <;> omega))) | with_reducible apply Blk.allocp | with_reducible apply Blk.drew | with_reducible apply Blk.drewN))) hB2; have cA2 := hA2.cell; have fA2 := hA2.frozen; have lA2 := hA2.lt; have mA2 := Nat.ne_of_gt lA2; have nA2 := Nat.ne_of_lt lA2; have hR2 : Blk v2 (w.heap.size + 1) 36 #[.int .i64 0, .int .i64 0, .int .i64 0] := Blk.call (by (repeat (first | with_reducible assumption | (with_reducible apply Blk.new_at; (first | rfl | (simp; done))) | with_reducible apply Blk.store3 | with_reducible apply Blk.store4 | (with_reducible apply Blk.farp; (first | omega | (simp <;> omega))) | with_reducible apply Blk.allocp | with_reducible apply Blk.drew | with_reducible apply Blk.drewN))) hB2; have cR2 := hR2.cell; have fR2 := hR2.frozen; have lR2 := hR2.lt; have mR2 := Nat.ne_of_gt lR2; have nR2 := Nat.ne_of_lt lR2))
      have hAK := hA2; have hRK := hR2
      have hbK : Below w.heap.size w v2 := (by repeat (first | with_reducible exact Below.refl _ _ | with_reducible assumption | with_reducible apply Below.drew | with_reducible apply below_drewN | (with_reducible apply below_setp; (first | omega | (simp <;> omega))) | (with_reducible apply below_allocp; (first | omega | (simp <;> omega))) | (with_reducible refine below_viap (by assumption) ?_ ?_; (first | omega | (simp <;> omega)))))
      clear hA1 hA2 hR1 hR2 cA1 cA2 cR1 cR2 fA1 fA2 fR1 fR2 lA1 lA2 lR1 lR2 mA1 mA2 mR1 mR2 nA1 nA2 nR1 nR2 hB1 hB2 hZ1 hZ2
      obtain ⟨V1, V2, V3⟩ := VH.out
      go_loopw [4] (fun vz wr => LzSt a b c w vz wr) (fun vz _ => (402 - intOf vz).toNat)
      case atStart => exact ⟨0, rfl, ⟨by omega, by omega⟩, Lib.hid (fun z' y' h1 h2 => by omega), Lib.hid hAK, Lib.hid hRK, hbK⟩
      case round =>
        clear hAK hRK hbK
        obtain ⟨z, rfl, ⟨z0, z4⟩, hnr, hA, hR, hbel⟩ := hrel
        have hz := hbel.size
        have hAA := hA.out; have hRR := hR.out
        have cA := hA.out.cell; have fA := hA.out.frozen; have lA := hA.out.lt
        have cR := hR.out.cell; have fR := hR.out.frozen; have lR := hR.out.lt
        have zz0 := sq_nn z
        have zz1 : z * z ≤ 160801 := Int.mul_le_mul z4 z4 z0 (by omega)
        have W1 := Lib.hid (show wrap64 (z * z) = z * z from IntWalk.wrap64_in _ (by omega))
        by_cases hle : z * z ≤ mb
        · have d1 := decide_eq_true hle
          have z5 := sq_400 mab hle
          have hle' := Lib.hid hle
          clear hle zz0 zz1 V1 V2 V3
          obtain ⟨V1, V2, V3⟩ := VH.out
          have U1 := W1.out
          go_wp2_with (go_at_call 31; (with_reducible refine (hAab.out _).mono ?_); rintro e v ⟨rfl, rfl⟩)
          obtain ⟨wo, rfl⟩ : ∃ wo : World, wo = wr := ⟨_, rfl⟩
          go_loopw [5] (fun vy wr => LySt a b c z w vy wr) (fun vy _ => (402 - intOf vy).toNat)
          case atStart => exact ⟨0, rfl, ⟨by omega, by omega⟩, Lib.hid (fun y' h1 h2 => by omega), hA, hR, hbel⟩
          case round =>
            clear hA hR hbel cA fA lA cR fR lR hz hAA hRR
            obtain ⟨y, rfl, ⟨y0, y4⟩, hnp, hA, hR, hbel⟩ := hrel
            have hz := hbel.size
            have hAA := hA.out; have hRR := hR.out
            have cA := hA.out.cell; have fA := hA.out.frozen; have lA := hA.out.lt
            have cR := hR.out.cell; have fR := hR.out.frozen; have lR := hR.out.lt
            clear V1 V2 V3 U1
            have yy0 := sq_nn y
            have yy1 : y * y ≤ 160801 := Int.mul_le_mul y4 y4 y0 (by omega)
            have W2 := Lib.hid (show wrap64 (y * y) = y * y from IntWalk.wrap64_in _ (by omega))
            by_cases hly : y * y ≤ mc
            · have d2 := decide_eq_true hly
              have y5 := sq_400 mac hly
              have hT := Lib.hid (fun w => hTh.out y z w ⟨y0, y5⟩ ⟨z0, z5⟩)
              obtain ⟨x0, x1⟩ := hXb.out y z ⟨y0, y5⟩ ⟨z0, z5⟩
              obtain ⟨g0, g1⟩ := gcd_bd (y := y) (z := z) ⟨y0, y5⟩ ⟨z0, z5⟩
              have HH := Lib.hid (hHit.out y z ⟨y0, z0⟩ hle'.out hly)
              have Hnp := Lib.hid (fun (k : lsB a b c y z = false) => hnp.out.next k)
              rcases hCs.out y z with ⟨q1, q4⟩ | ⟨q1, q2, q4⟩ | ⟨q1, q2, q3, q4⟩ | ⟨q1, q2, q3, q4⟩
              · have HN := Lib.hid (Hnp.out q4)
                rw [q1] at hT
                clear hly yy0 yy1 q4 HH Hnp
                obtain ⟨V1, V2, V3⟩ := VH.out
                have U1 := W1.out
                have U2 := W2.out
                clear q1
                generalize thX a b c y z = x at *
                go_wp2_with (first
                  | (go_at_call 31; (with_reducible refine (hAac.out _).mono ?_); rintro e v ⟨rfl, rfl⟩)
                  | (go_at_call 32; (with_reducible refine (hT.out _).mono ?_); rintro e v3 ⟨rfl, hB3⟩; have hZ3 := hB3.size; (try simp at hZ3); (try have zl3 : w.heap.size < v3.heap.size := by omega); (try have ze3 : w.heap.size ≤ v3.heap.size := by omega); (try have zn3 : ¬ w.heap.size = v3.heap.size := by omega); (try have zm3 : ¬ v3.heap.size = w.heap.size := by omega); have hA3 : Blk v3 (w.heap.size) 25 #[.int .i64 a, .int .i64 b, .int .i64 c] := Blk.call (by (repeat (first | with_reducible assumption | (with_reducible apply Blk.new_at; (first | rfl | (simp; done))) | with_reducible apply Blk.store3 | with_reducible apply Blk.store4 | (with_reducible apply Blk.farp; (first | omega | (simp <;> omega))) | with_reducible apply Blk.allocp | with_reducible apply Blk.drew | with_reducible apply Blk.drewN))) hB3; have cA3 := hA3.cell; have fA3 := hA3.frozen; have lA3 := hA3.lt; have mA3 := Nat.ne_of_gt lA3; have nA3 := Nat.ne_of_lt lA3; have hR3 : Blk v3 (w.heap.size + 1) 36 #[.int .i64 0, .int .i64 0, .int .i64 0] := Blk.call (by (repeat (first | with_reducible assumption | (with_reducible apply Blk.new_at; (first | rfl | (simp; done))) | with_reducible apply Blk.store3 | with_reducible apply Blk.store4 | (with_reducible apply Blk.farp; (first | omega | (simp <;> omega))) | with_reducible apply Blk.allocp | with_reducible apply Blk.drew | with_reducible apply Blk.drewN))) hB3; have cR3 := hR3.cell; have fR3 := hR3.frozen; have lR3 := hR3.lt; have mR3 := Nat.ne_of_gt lR3; have nR3 := Nat.ne_of_lt lR3)
                  | (go_at_call 31; (with_reducible refine (hAbc.out _).mono ?_); rintro e v ⟨rfl, rfl⟩)
                  | (go_at_call 33; (with_reducible refine (hG1.out _).mono ?_); rintro e v ⟨rfl, nq, rfl⟩)
                  | (go_at_call 33; (with_reducible refine (hG2.out _).mono ?_); rintro e v ⟨rfl, nq, rfl⟩))
                go_roundw
                case rel => exact ⟨y + 1, rfl, ⟨by omega, by omega⟩, HN, Lib.hid (by (repeat (first | with_reducible assumption | (with_reducible apply Blk.new_at; (first | rfl | (simp; done))) | with_reducible apply Blk.store3 | with_reducible apply Blk.store4 | (with_reducible apply Blk.farp; (first | omega | (simp <;> omega))) | with_reducible apply Blk.allocp | with_reducible apply Blk.drew | with_reducible apply Blk.drewN))), Lib.hid (by (repeat (first | with_reducible assumption | (with_reducible apply Blk.new_at; (first | rfl | (simp; done))) | with_reducible apply Blk.store3 | with_reducible apply Blk.store4 | (with_reducible apply Blk.farp; (first | omega | (simp <;> omega))) | with_reducible apply Blk.allocp | with_reducible apply Blk.drew | with_reducible apply Blk.drewN))), (by repeat (first | with_reducible exact Below.refl _ _ | with_reducible assumption | with_reducible apply Below.drew | with_reducible apply below_drewN | (with_reducible apply below_setp; (first | omega | (simp <;> omega))) | (with_reducible apply below_allocp; (first | omega | (simp <;> omega))) | (with_reducible refine below_viap (by assumption) ?_ ?_; (first | omega | (simp <;> omega)))))⟩
                case measure => simp [intOf]; omega
              · have HN := Lib.hid (Hnp.out q4)
                have xx0 := sq_nn (thX a b c y z)
                have xx1 : thX a b c y z * thX a b c y z ≤ 144000000 := Int.mul_le_mul x1 x1 x0 (by omega)
                have W3 := Lib.hid (show wrap64 (thX a b c y z * thX a b c y z) = thX a b c y z * thX a b c y z from IntWalk.wrap64_in _ (by omega))
                have d3 := decide_eq_false (Int.not_le.2 q2)
                rw [q1] at hT
                clear hly yy0 yy1 q4 HH Hnp
                obtain ⟨V1, V2, V3⟩ := VH.out
                have U1 := W1.out
                have U2 := W2.out
                clear q1 q2
                generalize thX a b c y z = x at *
                clear xx0 xx1
                have U3 := W3.out
                go_wp2_with (first
                  | (go_at_call 31; (with_reducible refine (hAac.out _).mono ?_); rintro e v ⟨rfl, rfl⟩)
                  | (go_at_call 32; (with_reducible refine (hT.out _).mono ?_); rintro e v3 ⟨rfl, hB3⟩; have hZ3 := hB3.size; (try simp at hZ3); (try have zl3 : w.heap.size < v3.heap.size := by omega); (try have ze3 : w.heap.size ≤ v3.heap.size := by omega); (try have zn3 : ¬ w.heap.size = v3.heap.size := by omega); (try have zm3 : ¬ v3.heap.size = w.heap.size := by omega); have hA3 : Blk v3 (w.heap.size) 25 #[.int .i64 a, .int .i64 b, .int .i64 c] := Blk.call (by (repeat (first | with_reducible assumption | (with_reducible apply Blk.new_at; (first | rfl | (simp; done))) | with_reducible apply Blk.store3 | with_reducible apply Blk.store4 | (with_reducible apply Blk.farp; (first | omega | (simp <;> omega))) | with_reducible apply Blk.allocp | with_reducible apply Blk.drew | with_reducible apply Blk.drewN))) hB3; have cA3 := hA3.cell; have fA3 := hA3.frozen; have lA3 := hA3.lt; have mA3 := Nat.ne_of_gt lA3; have nA3 := Nat.ne_of_lt lA3; have hR3 : Blk v3 (w.heap.size + 1) 36 #[.int .i64 0, .int .i64 0, .int .i64 0] := Blk.call (by (repeat (first | with_reducible assumption | (with_reducible apply Blk.new_at; (first | rfl | (simp; done))) | with_reducible apply Blk.store3 | with_reducible apply Blk.store4 | (with_reducible apply Blk.farp; (first | omega | (simp <;> omega))) | with_reducible apply Blk.allocp | with_reducible apply Blk.drew | with_reducible apply Blk.drewN))) hB3; have cR3 := hR3.cell; have fR3 := hR3.frozen; have lR3 := hR3.lt; have mR3 := Nat.ne_of_gt lR3; have nR3 := Nat.ne_of_lt lR3)
                  | (go_at_call 31; (with_reducible refine (hAbc.out _).mono ?_); rintro e v ⟨rfl, rfl⟩)
                  | (go_at_call 33; (with_reducible refine (hG1.out _).mono ?_); rintro e v ⟨rfl, nq, rfl⟩)
                  | (go_at_call 33; (with_reducible refine (hG2.out _).mono ?_); rintro e v ⟨rfl, nq, rfl⟩))
                go_roundw
                case rel => exact ⟨y + 1, rfl, ⟨by omega, by omega⟩, HN, Lib.hid (by (repeat (first | with_reducible assumption | (with_reducible apply Blk.new_at; (first | rfl | (simp; done))) | with_reducible apply Blk.store3 | with_reducible apply Blk.store4 | (with_reducible apply Blk.farp; (first | omega | (simp <;> omega))) | with_reducible apply Blk.allocp | with_reducible apply Blk.drew | with_reducible apply Blk.drewN))), Lib.hid (by (repeat (first | with_reducible assumption | (with_reducible apply Blk.new_at; (first | rfl | (simp; done))) | with_reducible apply Blk.store3 | with_reducible apply Blk.store4 | (with_reducible apply Blk.farp; (first | omega | (simp <;> omega))) | with_reducible apply Blk.allocp | with_reducible apply Blk.drew | with_reducible apply Blk.drewN))), (by repeat (first | with_reducible exact Below.refl _ _ | with_reducible assumption | with_reducible apply Below.drew | with_reducible apply below_drewN | (with_reducible apply below_setp; (first | omega | (simp <;> omega))) | (with_reducible apply below_allocp; (first | omega | (simp <;> omega))) | (with_reducible refine below_viap (by assumption) ?_ ?_; (first | omega | (simp <;> omega)))))⟩
                case measure => simp [intOf]; omega
              · have HN := Lib.hid (Hnp.out q4)
                have xx0 := sq_nn (thX a b c y z)
                have xx1 : thX a b c y z * thX a b c y z ≤ 144000000 := Int.mul_le_mul x1 x1 x0 (by omega)
                have W3 := Lib.hid (show wrap64 (thX a b c y z * thX a b c y z) = thX a b c y z * thX a b c y z from IntWalk.wrap64_in _ (by omega))
                have hG1 := Lib.hid (fun w => gcd_any y z w (by omega) (by omega) (by omega) (by omega))
                have hG2 := Lib.hid (fun w => gc3_any (thX a b c y z) y z w (by omega) (by omega) (by omega) (by omega))
                have d3 := decide_eq_true q2
                have d4 : (gc3 (thX a b c y z) y z == 1) = false := by rw [beq_eq_false_iff_ne]; exact q3
                rw [q1] at hT
                clear hly yy0 yy1 q4 HH Hnp
                obtain ⟨V1, V2, V3⟩ := VH.out
                have U1 := W1.out
                have U2 := W2.out
                clear q1 q2 q3
                generalize gc3 (thX a b c y z) y z = gg at *
                generalize thX a b c y z = x at *
                clear xx0 xx1
                generalize (Int.gcd y z : Int) = g at *
                have U3 := W3.out
                go_wp2_with (first
                  | (go_at_call 31; (with_reducible refine (hAac.out _).mono ?_); rintro e v ⟨rfl, rfl⟩)
                  | (go_at_call 32; (with_reducible refine (hT.out _).mono ?_); rintro e v3 ⟨rfl, hB3⟩; have hZ3 := hB3.size; (try simp at hZ3); (try have zl3 : w.heap.size < v3.heap.size := by omega); (try have ze3 : w.heap.size ≤ v3.heap.size := by omega); (try have zn3 : ¬ w.heap.size = v3.heap.size := by omega); (try have zm3 : ¬ v3.heap.size = w.heap.size := by omega); have hA3 : Blk v3 (w.heap.size) 25 #[.int .i64 a, .int .i64 b, .int .i64 c] := Blk.call (by (repeat (first | with_reducible assumption | (with_reducible apply Blk.new_at; (first | rfl | (simp; done))) | with_reducible apply Blk.store3 | with_reducible apply Blk.store4 | (with_reducible apply Blk.farp; (first | omega | (simp <;> omega))) | with_reducible apply Blk.allocp | with_reducible apply Blk.drew | with_reducible apply Blk.drewN))) hB3; have cA3 := hA3.cell; have fA3 := hA3.frozen; have lA3 := hA3.lt; have mA3 := Nat.ne_of_gt lA3; have nA3 := Nat.ne_of_lt lA3; have hR3 : Blk v3 (w.heap.size + 1) 36 #[.int .i64 0, .int .i64 0, .int .i64 0] := Blk.call (by (repeat (first | with_reducible assumption | (with_reducible apply Blk.new_at; (first | rfl | (simp; done))) | with_reducible apply Blk.store3 | with_reducible apply Blk.store4 | (with_reducible apply Blk.farp; (first | omega | (simp <;> omega))) | with_reducible apply Blk.allocp | with_reducible apply Blk.drew | with_reducible apply Blk.drewN))) hB3; have cR3 := hR3.cell; have fR3 := hR3.frozen; have lR3 := hR3.lt; have mR3 := Nat.ne_of_gt lR3; have nR3 := Nat.ne_of_lt lR3)
                  | (go_at_call 31; (with_reducible refine (hAbc.out _).mono ?_); rintro e v ⟨rfl, rfl⟩)
                  | (go_at_call 33; (with_reducible refine (hG1.out _).mono ?_); rintro e v ⟨rfl, nq, rfl⟩)
                  | (go_at_call 33; (with_reducible refine (hG2.out _).mono ?_); rintro e v ⟨rfl, nq, rfl⟩))
                go_roundw
                case rel => exact ⟨y + 1, rfl, ⟨by omega, by omega⟩, HN, Lib.hid (by (repeat (first | with_reducible assumption | (with_reducible apply Blk.new_at; (first | rfl | (simp; done))) | with_reducible apply Blk.store3 | with_reducible apply Blk.store4 | (with_reducible apply Blk.farp; (first | omega | (simp <;> omega))) | with_reducible apply Blk.allocp | with_reducible apply Blk.drew | with_reducible apply Blk.drewN))), Lib.hid (by (repeat (first | with_reducible assumption | (with_reducible apply Blk.new_at; (first | rfl | (simp; done))) | with_reducible apply Blk.store3 | with_reducible apply Blk.store4 | (with_reducible apply Blk.farp; (first | omega | (simp <;> omega))) | with_reducible apply Blk.allocp | with_reducible apply Blk.drew | with_reducible apply Blk.drewN))), (by repeat (first | with_reducible exact Below.refl _ _ | with_reducible assumption | with_reducible apply Below.drew | with_reducible apply below_drewN | (with_reducible apply below_setp; (first | omega | (simp <;> omega))) | (with_reducible apply below_allocp; (first | omega | (simp <;> omega))) | (with_reducible refine below_viap (by assumption) ?_ ?_; (first | omega | (simp <;> omega)))))⟩
                case measure => simp [intOf]; omega
              · skip
                have xx0 := sq_nn (thX a b c y z)
                have xx1 : thX a b c y z * thX a b c y z ≤ 144000000 := Int.mul_le_mul x1 x1 x0 (by omega)
                have W3 := Lib.hid (show wrap64 (thX a b c y z * thX a b c y z) = thX a b c y z * thX a b c y z from IntWalk.wrap64_in _ (by omega))
                have hG1 := Lib.hid (fun w => gcd_any y z w (by omega) (by omega) (by omega) (by omega))
                have hG2 := Lib.hid (fun w => gc3_any (thX a b c y z) y z w (by omega) (by omega) (by omega) (by omega))
                have d3 := decide_eq_true q2
                have d4 : (gc3 (thX a b c y z) y z == 1) = true := by rw [beq_iff_eq]; exact q3
                have HZ := Lib.hid (HH.out q4 hnr.out hnp.out)
                rw [q1] at hT
                clear hly yy0 yy1 q4 HH Hnp
                obtain ⟨V1, V2, V3⟩ := VH.out
                have U1 := W1.out
                have U2 := W2.out
                clear q1 q2 q3
                generalize gc3 (thX a b c y z) y z = gg at *
                generalize thX a b c y z = x at *
                clear xx0 xx1
                generalize (Int.gcd y z : Int) = g at *
                have U3 := W3.out
                go_wp2_with (first
                  | (go_at_call 31; (with_reducible refine (hAac.out _).mono ?_); rintro e v ⟨rfl, rfl⟩)
                  | (go_at_call 32; (with_reducible refine (hT.out _).mono ?_); rintro e v3 ⟨rfl, hB3⟩; have hZ3 := hB3.size; (try simp at hZ3); (try have zl3 : w.heap.size < v3.heap.size := by omega); (try have ze3 : w.heap.size ≤ v3.heap.size := by omega); (try have zn3 : ¬ w.heap.size = v3.heap.size := by omega); (try have zm3 : ¬ v3.heap.size = w.heap.size := by omega); have hA3 : Blk v3 (w.heap.size) 25 #[.int .i64 a, .int .i64 b, .int .i64 c] := Blk.call (by (repeat (first | with_reducible assumption | (with_reducible apply Blk.new_at; (first | rfl | (simp; done))) | with_reducible apply Blk.store3 | with_reducible apply Blk.store4 | (with_reducible apply Blk.farp; (first | omega | (simp <;> omega))) | with_reducible apply Blk.allocp | with_reducible apply Blk.drew | with_reducible apply Blk.drewN))) hB3; have cA3 := hA3.cell; have fA3 := hA3.frozen; have lA3 := hA3.lt; have mA3 := Nat.ne_of_gt lA3; have nA3 := Nat.ne_of_lt lA3; have hR3 : Blk v3 (w.heap.size + 1) 36 #[.int .i64 0, .int .i64 0, .int .i64 0] := Blk.call (by (repeat (first | with_reducible assumption | (with_reducible apply Blk.new_at; (first | rfl | (simp; done))) | with_reducible apply Blk.store3 | with_reducible apply Blk.store4 | (with_reducible apply Blk.farp; (first | omega | (simp <;> omega))) | with_reducible apply Blk.allocp | with_reducible apply Blk.drew | with_reducible apply Blk.drewN))) hB3; have cR3 := hR3.cell; have fR3 := hR3.frozen; have lR3 := hR3.lt; have mR3 := Nat.ne_of_gt lR3; have nR3 := Nat.ne_of_lt lR3)
                  | (go_at_call 31; (with_reducible refine (hAbc.out _).mono ?_); rintro e v ⟨rfl, rfl⟩)
                  | (go_at_call 33; (with_reducible refine (hG1.out _).mono ?_); rintro e v ⟨rfl, nq, rfl⟩)
                  | (go_at_call 33; (with_reducible refine (hG2.out _).mono ?_); rintro e v ⟨rfl, nq, rfl⟩))
                exact bodyPost_ret (v := .tuple #[.agg #[.int .i64 x, .int .i64 y, .int .i64 z], .bool true]) (by simp [results, Try.results12, go_sem, *]) rfl (HT.out _ _ _ _ _ HZ.out (by repeat (first | with_reducible exact Below.refl _ _ | with_reducible assumption | with_reducible apply Below.drew | with_reducible apply below_drewN | (with_reducible apply below_setp; (first | omega | (simp <;> omega))) | (with_reducible apply below_allocp; (first | omega | (simp <;> omega))) | (with_reducible refine below_viap (by assumption) ?_ ?_; (first | omega | (simp <;> omega))))))
            · have d2 := decide_eq_false hly
              have hr := Lib.hid (hNx.out z hnr.out (hRow.out y z hnp.out y0 (Int.not_le.1 hly)))
              clear hly yy0 yy1
              obtain ⟨V1, V2, V3⟩ := VH.out
              have U2 := W2.out
              go_wp2_with (go_at_call 31; (with_reducible refine (hAac.out _).mono ?_); rintro e v ⟨rfl, rfl⟩)
              go_roundw
              case rel => exact ⟨z + 1, rfl, ⟨by omega, by omega⟩, hr, hA, hR, hbel⟩
              case measure => simp [intOf]; omega
        · have d1 := decide_eq_false hle
          have HX := Lib.hid (hAll.out z hnr.out z0 (Int.not_le.1 hle))
          clear hle zz0 zz1 V1 V2 V3
          obtain ⟨V1, V2, V3⟩ := VH.out
          have U1 := W1.out
          go_wp2_with (go_at_call 31; (with_reducible refine (hAab.out _).mono ?_); rintro e v ⟨rfl, rfl⟩)
          exact bodyPost_ret (v := .tuple #[.agg #[.int .i64 0, .int .i64 0, .int .i64 0], .bool false]) (by simp [results, Try.results12, go_sem, *]) rfl (HF.out _ _ HX.out (by repeat (first | with_reducible exact Below.refl _ _ | with_reducible assumption | with_reducible apply Below.drew | with_reducible apply below_drewN | (with_reducible apply below_setp; (first | omega | (simp <;> omega))) | (with_reducible apply below_allocp; (first | omega | (simp <;> omega))) | (with_reducible refine below_viap (by assumption) ?_ ?_; (first | omega | (simp <;> omega))))))
end Go.Proofs.Ytdhennlanngjgaa
