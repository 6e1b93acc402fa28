/- Contracts: the normal triple, the place that forbids, whether a triple has a solution, of both sides. -/
import Derived.Test.YtdhennlanngjgaaJH
namespace Go.Proofs.Ytdhennlanngjgaa
open Go.RowKit

theorem wf_w64 {n : Int} (h : (Lit.int .i64 n).wf = true) : W64 n := by
  simp [Lit.wf, IntKind.min, IntKind.max, IntKind.bits, IntKind.signed] at h
  exact h
theorem ntB_yes {a b c : Int} (h : ntB a b c = true) : TrI a b c ∧ TrI (nfE a b c a) (nfE a b c b) (nfE a b c c) := by
  unfold ntB at h
  rw [Bool.and_eq_true, trB_iff, trB_iff] at h
  exact h
theorem one_nf {a b c : Int} (h : TrI a b c) : OneD (nfE a b c a) (nfE a b c b) (nfE a b c c) := fun _ hq hd => h.one hq hd
/-- A normal triple: its numbers, and whether there is one. -/
def NtR (a b c x y z : Int) (ok : Bool) : Prop :=
  (trB a b c = false ∧ x = 0 ∧ y = 0 ∧ z = 0 ∧ ok = false) ∨ (TrI a b c ∧ trB (nfE a b c a) (nfE a b c b) (nfE a b c c) = false ∧ x = 0 ∧ y = 0 ∧ z = 0 ∧ ok = false) ∨
  (TrI a b c ∧ TrI (nfE a b c a) (nfE a b c b) (nfE a b c c) ∧ x = nfE a b c a ∧ y = nfE a b c b ∧ z = nfE a b c c ∧ ok = true)
theorem ntR_ex (a b c : Int) : ∃ x y z ok, NtR a b c x y z ok ∧ (ntV a b c a = x ∧ ntV a b c b = y ∧ ntV a b c c = z ∧ ntB a b c = ok) := by
  cases h1 : trB a b c with
  | false =>
    have h0 : ntB a b c = false := by unfold ntB; rw [h1]; rfl
    exact ⟨0, 0, 0, false, .inl ⟨h1, rfl, rfl, rfl, rfl⟩, by unfold ntV; rw [h0]; simp⟩
  | true =>
    cases h2 : trB (nfE a b c a) (nfE a b c b) (nfE a b c c) with
    | false =>
      have h0 : ntB a b c = false := by unfold ntB; rw [h1, h2]; rfl
      exact ⟨0, 0, 0, false, .inr (.inl ⟨trB_iff.1 h1, h2, rfl, rfl, rfl, rfl⟩), by unfold ntV; rw [h0]; simp⟩
    | true =>
      have h0 : ntB a b c = true := by unfold ntB; rw [h1, h2]; rfl
      exact ⟨_, _, _, true, .inr (.inr ⟨trB_iff.1 h1, trB_iff.1 h2, rfl, rfl, rfl, rfl⟩), by unfold ntV; rw [h0]; simp⟩

/-- What ForbiddingPlace and IsSolvable give. -/
def FpR (a b c x : Int) (ok : Bool) : Prop := (trB a b c = false ∧ x = 0 ∧ ok = false) ∨ (TrI a b c ∧ trB (nfE a b c a) (nfE a b c b) (nfE a b c c) = false ∧ x = 0 ∧ ok = false) ∨
  (TrI a b c ∧ TrI (nfE a b c a) (nfE a b c b) (nfE a b c c) ∧ plF a b c < 0 ∧ x = 0 ∧ ok = false) ∨ (TrI a b c ∧ TrI (nfE a b c a) (nfE a b c b) (nfE a b c c) ∧ 0 ≤ plF a b c ∧ x = plF a b c ∧ ok = true)
theorem fpR_ex (a b c : Int) : ∃ x ok, FpR a b c x ok := by
  cases h1 : trB a b c with
  | false => exact ⟨0, false, .inl ⟨h1, rfl, rfl⟩⟩
  | true =>
    cases h2 : trB (nfE a b c a) (nfE a b c b) (nfE a b c c) with
    | false => exact ⟨0, false, .inr (.inl ⟨trB_iff.1 h1, h2, rfl, rfl⟩)⟩
    | true =>
      rcases Int.lt_or_le (plF a b c) 0 with h3 | h3
      · exact ⟨0, false, .inr (.inr (.inl ⟨trB_iff.1 h1, trB_iff.1 h2, h3, rfl, rfl⟩))⟩
      · exact ⟨_, true, .inr (.inr (.inr ⟨trB_iff.1 h1, trB_iff.1 h2, h3, rfl, rfl⟩))⟩
theorem ntB_of {a b c : Int} (h1 : TrI a b c) (h2 : TrI (nfE a b c a) (nfE a b c b) (nfE a b c c)) : ntB a b c = true := by unfold ntB; rw [trB_iff.2 h1, trB_iff.2 h2]; rfl
theorem ntV_of {a b c x : Int} (h1 : TrI a b c) (h2 : TrI (nfE a b c a) (nfE a b c b) (nfE a b c c)) : ntV a b c x = nfE a b c x := by unfold ntV; rw [ntB_of h1 h2, if_pos rfl]
theorem ntV_no {a b c x : Int} (h : ntB a b c = false) : ntV a b c x = 0 := by unfold ntV; rw [h]; rfl
theorem ntB_no1 {a b c : Int} (h : trB a b c = false) : ntB a b c = false := by unfold ntB; rw [h]; rfl
theorem ntB_no2 {a b c : Int} (_ : TrI a b c) (h : trB (nfE a b c a) (nfE a b c b) (nfE a b c c) = false) : ntB a b c = false := by unfold ntB; rw [h, Bool.and_false]

set_option maxHeartbeats 1600000 in
theorem implFP_any (a b c x : Int) (ok : Bool) (w : World) (ha : W64 a) (hb : W64 b) (hc : W64 c) (h : FpR a b c x ok) :
    Calls Try.prog 9 #[.agg #[.int .i64 a, .int .i64 b, .int .i64 c]] w fun e w' => e = .returned (.tuple #[.int .i64 x, .bool ok]) ∧ Below w.heap.size w w' := by
  have hN := Lib.hid (fun w => implNT_any a b c w ha hb hc)
  clear ha hb hc
  have hno : ntB a b c = false → x = 0 → ok = false → Calls Try.prog 9 #[.agg #[.int .i64 a, .int .i64 b, .int .i64 c]] w fun e w' => e = .returned (.tuple #[.int .i64 x, .bool ok]) ∧ Below w.heap.size w w' := by
    rintro h0 rfl rfl
    rw [h0, ntV_no h0, ntV_no h0, ntV_no h0] at hN
    clear h0 h
    go_enter Try.func9, Try.ntmps9
    go_wp2_with (go_at_call 18; (with_reducible refine (hN.out _).mono ?_); rintro e v1 ⟨rfl, hB1⟩; have hZ1 := hB1.size; (try simp at hZ1); (try have zl1 : w.heap.size < v1.heap.size := by omega); (try have ze1 : w.heap.size ≤ v1.heap.size := by omega); (try have zn1 : ¬ w.heap.size = v1.heap.size := by omega); (try have zm1 : ¬ v1.heap.size = w.heap.size := by omega); have hA1 : Blk v1 (w.heap.size) 25 #[.int .i64 a, .int .i64 b, .int .i64 c] := Blk.call (by (repeat (first | with_reducible assumption | (with_reducible apply Blk.new_at; (first | rfl | (simp; done))) | with_reducible apply Blk.store3 | with_reducible apply Blk.store4 | (with_reducible apply Blk.farp; (first | omega | (simp <;> omega))) | with_reducible apply Blk.allocp | with_reducible apply Blk.drew | with_reducible apply Blk.drewN))) hB1; have cA1 := hA1.cell; have fA1 := hA1.frozen; have lA1 := hA1.lt; have mA1 := Nat.ne_of_gt lA1; have nA1 := Nat.ne_of_lt lA1)
    go_ret2
    exact ⟨rfl, (by repeat (first | with_reducible exact Below.refl _ _ | with_reducible assumption | with_reducible apply Below.drew | with_reducible apply below_drewN | (with_reducible apply below_setp; (first | omega | (simp <;> omega))) | (with_reducible apply below_allocp; (first | omega | (simp <;> omega))) | (with_reducible refine below_viap (by assumption) ?_ ?_; (first | omega | (simp <;> omega)))))⟩
  rcases h with ⟨h1, h2, h3⟩ | ⟨h1, h2, h3, h4⟩ | ⟨h1, h2, h3, rfl, rfl⟩ | ⟨h1, h2, h3, rfl, rfl⟩
  · exact hno (ntB_no1 h1) h2 h3
  · exact hno (ntB_no2 h1 h2) h3 h4
  · have hF := Lib.hid (fun w => forb_any (nfE a b c a) (nfE a b c b) (nfE a b c c) w h2 (one_nf h1))
    have hv : plR (plG (nfE a b c a) (nfE a b c b) (nfE a b c c)) = .tuple #[.int .i64 0, .bool false] := by
      rw [← plF_nf h1]; unfold plR; rw [if_pos h3, decide_eq_false (by omega)]
    rw [hv] at hF
    rw [ntB_of h1 h2, ntV_of h1 h2, ntV_of h1 h2, ntV_of h1 h2] at hN
    clear h1 h2 h3 hv hno
    generalize nfE a b c a = xa at *
    generalize nfE a b c b = xb at *
    generalize nfE a b c c = xc at *
    go_enter Try.func9, Try.ntmps9
    go_wp2_with (first
      | (go_at_call 18; (with_reducible refine (hN.out _).mono ?_); rintro e v1 ⟨rfl, hB1⟩; have hZ1 := hB1.size; (try simp at hZ1); (try have zl1 : w.heap.size < v1.heap.size := by omega); (try have ze1 : w.heap.size ≤ v1.heap.size := by omega); (try have zn1 : ¬ w.heap.size = v1.heap.size := by omega); (try have zm1 : ¬ v1.heap.size = w.heap.size := by omega); have hA1 : Blk v1 (w.heap.size) 25 #[.int .i64 a, .int .i64 b, .int .i64 c] := Blk.call (by (repeat (first | with_reducible assumption | (with_reducible apply Blk.new_at; (first | rfl | (simp; done))) | with_reducible apply Blk.store3 | with_reducible apply Blk.store4 | (with_reducible apply Blk.farp; (first | omega | (simp <;> omega))) | with_reducible apply Blk.allocp | with_reducible apply Blk.drew | with_reducible apply Blk.drewN))) hB1; have cA1 := hA1.cell; have fA1 := hA1.frozen; have lA1 := hA1.lt; have mA1 := Nat.ne_of_gt lA1; have nA1 := Nat.ne_of_lt lA1)
      | (go_at_call 19; (with_reducible refine (hF.out _).mono ?_); rintro e v2 ⟨rfl, hB2⟩; have hZ2 := hB2.size; (try simp at hZ2); (try have zl2 : w.heap.size < v2.heap.size := by omega); (try have ze2 : w.heap.size ≤ v2.heap.size := by omega); (try have zn2 : ¬ w.heap.size = v2.heap.size := by omega); (try have zm2 : ¬ v2.heap.size = w.heap.size := by omega); have hC2_0 := fun o => (calm_cells hB2).1 (w.heap.size) o (by first | omega | (simp <;> omega)); have hF2_0 := fun o => (calm_cells hB2).2 (w.heap.size) o (by first | omega | (simp <;> omega)); (try have hl2_0 : w.heap.size < v2.heap.size := by omega); (try have hm2_0 : ¬ w.heap.size = v2.heap.size := by omega); (try have hn2_0 : ¬ v2.heap.size = w.heap.size := by omega)))
    go_ret2
    exact ⟨rfl, (by repeat (first | with_reducible exact Below.refl _ _ | with_reducible assumption | with_reducible apply Below.drew | with_reducible apply below_drewN | (with_reducible apply below_setp; (first | omega | (simp <;> omega))) | (with_reducible apply below_allocp; (first | omega | (simp <;> omega))) | (with_reducible refine below_viap (by assumption) ?_ ?_; (first | omega | (simp <;> omega)))))⟩
  · have hF := Lib.hid (fun w => forb_any (nfE a b c a) (nfE a b c b) (nfE a b c c) w h2 (one_nf h1))
    rw [← plF_nf h1, plR_yes h3] at hF
    rw [ntB_of h1 h2, ntV_of h1 h2, ntV_of h1 h2, ntV_of h1 h2] at hN
    clear h1 h2 h3 hno
    generalize nfE a b c a = xa at *
    generalize nfE a b c b = xb at *
    generalize nfE a b c c = xc at *
    generalize plF a b c = y at *
    go_enter Try.func9, Try.ntmps9
    go_wp2_with (first
      | (go_at_call 18; (with_reducible refine (hN.out _).mono ?_); rintro e v1 ⟨rfl, hB1⟩; have hZ1 := hB1.size; (try simp at hZ1); (try have zl1 : w.heap.size < v1.heap.size := by omega); (try have ze1 : w.heap.size ≤ v1.heap.size := by omega); (try have zn1 : ¬ w.heap.size = v1.heap.size := by omega); (try have zm1 : ¬ v1.heap.size = w.heap.size := by omega); have hA1 : Blk v1 (w.heap.size) 25 #[.int .i64 a, .int .i64 b, .int .i64 c] := Blk.call (by (repeat (first | with_reducible assumption | (with_reducible apply Blk.new_at; (first | rfl | (simp; done))) | with_reducible apply Blk.store3 | with_reducible apply Blk.store4 | (with_reducible apply Blk.farp; (first | omega | (simp <;> omega))) | with_reducible apply Blk.allocp | with_reducible apply Blk.drew | with_reducible apply Blk.drewN))) hB1; have cA1 := hA1.cell; have fA1 := hA1.frozen; have lA1 := hA1.lt; have mA1 := Nat.ne_of_gt lA1; have nA1 := Nat.ne_of_lt lA1)
      | (go_at_call 19; (with_reducible refine (hF.out _).mono ?_); rintro e v2 ⟨rfl, hB2⟩; have hZ2 := hB2.size; (try simp at hZ2); (try have zl2 : w.heap.size < v2.heap.size := by omega); (try have ze2 : w.heap.size ≤ v2.heap.size := by omega); (try have zn2 : ¬ w.heap.size = v2.heap.size := by omega); (try have zm2 : ¬ v2.heap.size = w.heap.size := by omega); have hC2_0 := fun o => (calm_cells hB2).1 (w.heap.size) o (by first | omega | (simp <;> omega)); have hF2_0 := fun o => (calm_cells hB2).2 (w.heap.size) o (by first | omega | (simp <;> omega)); (try have hl2_0 : w.heap.size < v2.heap.size := by omega); (try have hm2_0 : ¬ w.heap.size = v2.heap.size := by omega); (try have hn2_0 : ¬ v2.heap.size = w.heap.size := by omega)))
    go_ret2
    exact ⟨rfl, (by repeat (first | with_reducible exact Below.refl _ _ | with_reducible assumption | with_reducible apply Below.drew | with_reducible apply below_drewN | (with_reducible apply below_setp; (first | omega | (simp <;> omega))) | (with_reducible apply below_allocp; (first | omega | (simp <;> omega))) | (with_reducible refine below_viap (by assumption) ?_ ?_; (first | omega | (simp <;> omega)))))⟩

/-- What IsSolvable gives. -/
def IsR (a b c : Int) (s ok : Bool) : Prop := (ntB a b c = false ∧ s = false ∧ ok = false) ∨ (TrI a b c ∧ TrI (nfE a b c a) (nfE a b c b) (nfE a b c c) ∧ s = decide (plF a b c < 0) ∧ ok = true)
theorem isR_ex (a b c : Int) : ∃ s ok, IsR a b c s ok := by
  cases h1 : ntB a b c with
  | false => exact ⟨false, false, .inl ⟨h1, rfl, rfl⟩⟩
  | true => obtain ⟨h2, h3⟩ := ntB_yes h1; exact ⟨_, _, .inr ⟨h2, h3, rfl, rfl⟩⟩

set_option maxHeartbeats 1600000 in
theorem implIS_any (a b c : Int) (s ok : Bool) (w : World) (ha : W64 a) (hb : W64 b) (hc : W64 c) (h : IsR a b c s ok) :
    Calls Try.prog 6 #[.agg #[.int .i64 a, .int .i64 b, .int .i64 c]] w fun e w' => e = .returned (.tuple #[.bool s, .bool ok]) ∧ Below w.heap.size w w' := by
  have hN := Lib.hid (fun w => implNT_any a b c w ha hb hc)
  clear ha hb hc
  rcases h with ⟨h0, rfl, rfl⟩ | ⟨h1, h2, rfl, rfl⟩
  · rw [h0, ntV_no h0, ntV_no h0, ntV_no h0] at hN
    clear h0
    go_enter Try.func6, Try.ntmps6
    go_wp2_with (go_at_call 18; (with_reducible refine (hN.out _).mono ?_); rintro e v1 ⟨rfl, hB1⟩; have hZ1 := hB1.size; (try simp at hZ1); (try have zl1 : w.heap.size < v1.heap.size := by omega); (try have ze1 : w.heap.size ≤ v1.heap.size := by omega); (try have zn1 : ¬ w.heap.size = v1.heap.size := by omega); (try have zm1 : ¬ v1.heap.size = w.heap.size := by omega); have hA1 : Blk v1 (w.heap.size) 25 #[.int .i64 a, .int .i64 b, .int .i64 c] := Blk.call (by (repeat (first | with_reducible assumption | (with_reducible apply Blk.new_at; (first | rfl | (simp; done))) | with_reducible apply Blk.store3 | with_reducible apply Blk.store4 | (with_reducible apply Blk.farp; (first | omega | (simp <;> omega))) | with_reducible apply Blk.allocp | with_reducible apply Blk.drew | with_reducible apply Blk.drewN))) hB1; have cA1 := hA1.cell; have fA1 := hA1.frozen; have lA1 := hA1.lt; have mA1 := Nat.ne_of_gt lA1; have nA1 := Nat.ne_of_lt lA1)
    go_ret2
    exact ⟨rfl, (by repeat (first | with_reducible exact Below.refl _ _ | with_reducible assumption | with_reducible apply Below.drew | with_reducible apply below_drewN | (with_reducible apply below_setp; (first | omega | (simp <;> omega))) | (with_reducible apply below_allocp; (first | omega | (simp <;> omega))) | (with_reducible refine below_viap (by assumption) ?_ ?_; (first | omega | (simp <;> omega)))))⟩
  · have hF := Lib.hid (fun w => forb_any (nfE a b c a) (nfE a b c b) (nfE a b c c) w h2 (one_nf h1))
    rw [← plF_nf h1] at hF
    rw [ntB_of h1 h2, ntV_of h1 h2, ntV_of h1 h2, ntV_of h1 h2] at hN
    have hd : decide (plF a b c < 0) = !decide (0 ≤ plF a b c) := by
      rw [Bool.eq_iff_iff]; simp
    have Hd := Lib.hid hd
    clear h1 h2 hd
    generalize nfE a b c a = xa at *
    generalize nfE a b c b = xb at *
    generalize nfE a b c c = xc at *
    unfold plR at hF
    generalize (if plF a b c < 0 then 0 else plF a b c) = y at *
    rw [Hd.out]
    generalize decide (0 ≤ plF a b c) = q at *
    clear Hd
    cases q
    all_goals
      go_enter Try.func6, Try.ntmps6
      go_wp2_with (first
        | (go_at_call 18; (with_reducible refine (hN.out _).mono ?_); rintro e v1 ⟨rfl, hB1⟩; have hZ1 := hB1.size; (try simp at hZ1); (try have zl1 : w.heap.size < v1.heap.size := by omega); (try have ze1 : w.heap.size ≤ v1.heap.size := by omega); (try have zn1 : ¬ w.heap.size = v1.heap.size := by omega); (try have zm1 : ¬ v1.heap.size = w.heap.size := by omega); have hA1 : Blk v1 (w.heap.size) 25 #[.int .i64 a, .int .i64 b, .int .i64 c] := Blk.call (by (repeat (first | with_reducible assumption | (with_reducible apply Blk.new_at; (first | rfl | (simp; done))) | with_reducible apply Blk.store3 | with_reducible apply Blk.store4 | (with_reducible apply Blk.farp; (first | omega | (simp <;> omega))) | with_reducible apply Blk.allocp | with_reducible apply Blk.drew | with_reducible apply Blk.drewN))) hB1; have cA1 := hA1.cell; have fA1 := hA1.frozen; have lA1 := hA1.lt; have mA1 := Nat.ne_of_gt lA1; have nA1 := Nat.ne_of_lt lA1)
        | (go_at_call 19; (with_reducible refine (hF.out _).mono ?_); rintro e v2 ⟨rfl, hB2⟩; have hZ2 := hB2.size; (try simp at hZ2); (try have zl2 : w.heap.size < v2.heap.size := by omega); (try have ze2 : w.heap.size ≤ v2.heap.size := by omega); (try have zn2 : ¬ w.heap.size = v2.heap.size := by omega); (try have zm2 : ¬ v2.heap.size = w.heap.size := by omega); have hC2_0 := fun o => (calm_cells hB2).1 (w.heap.size) o (by first | omega | (simp <;> omega)); have hF2_0 := fun o => (calm_cells hB2).2 (w.heap.size) o (by first | omega | (simp <;> omega)); (try have hl2_0 : w.heap.size < v2.heap.size := by omega); (try have hm2_0 : ¬ w.heap.size = v2.heap.size := by omega); (try have hn2_0 : ¬ v2.heap.size = w.heap.size := by omega)))
      go_ret2
      exact ⟨rfl, (by repeat (first | with_reducible exact Below.refl _ _ | with_reducible assumption | with_reducible apply Below.drew | with_reducible apply below_drewN | (with_reducible apply below_setp; (first | omega | (simp <;> omega))) | (with_reducible apply below_allocp; (first | omega | (simp <;> omega))) | (with_reducible refine below_viap (by assumption) ?_ ?_; (first | omega | (simp <;> omega)))))⟩

set_option maxHeartbeats 1600000 in
theorem specIS_any (a b c : Int) (s ok : Bool) (w : World) (h : IsR a b c s ok) :
    Calls Try.prog 7 #[.agg #[.int .i64 a, .int .i64 b, .int .i64 c]] w fun e w' => e = .returned (.tuple #[.bool s, .bool ok]) ∧ Below w.heap.size w w' := by
  have hG := Lib.hid (fun w => cnGood_any a b c w)
  have hN := Lib.hid (fun w => cnGood_any (nfE a b c a) (nfE a b c b) (nfE a b c c) w)
  rcases h with ⟨h0, rfl, rfl⟩ | ⟨h1, h2, rfl, rfl⟩
  · cases h1 : trB a b c with
    | false =>
      rw [h1] at hG
      clear hN h1 h0
      go_enter Try.func7, Try.ntmps7
      go_wp2_with (go_at_call 20; (with_reducible refine (hG.out _).mono ?_); rintro e v1 ⟨rfl, hB1⟩; have hZ1 := hB1.size; (try simp at hZ1); (try have zl1 : w.heap.size < v1.heap.size := by omega); (try have ze1 : w.heap.size ≤ v1.heap.size := by omega); (try have zn1 : ¬ w.heap.size = v1.heap.size := by omega); (try have zm1 : ¬ v1.heap.size = w.heap.size := by omega); have hA1 : Blk v1 (w.heap.size) 25 #[.int .i64 a, .int .i64 b, .int .i64 c] := Blk.call (by (repeat (first | with_reducible assumption | (with_reducible apply Blk.new_at; (first | rfl | (simp; done))) | with_reducible apply Blk.store3 | with_reducible apply Blk.store4 | (with_reducible apply Blk.farp; (first | omega | (simp <;> omega))) | with_reducible apply Blk.allocp | with_reducible apply Blk.drew | with_reducible apply Blk.drewN))) hB1; have cA1 := hA1.cell; have fA1 := hA1.frozen; have lA1 := hA1.lt; have mA1 := Nat.ne_of_gt lA1; have nA1 := Nat.ne_of_lt lA1)
      go_ret2
      exact ⟨rfl, (by repeat (first | with_reducible exact Below.refl _ _ | with_reducible assumption | with_reducible apply Below.drew | with_reducible apply below_drewN | (with_reducible apply below_setp; (first | omega | (simp <;> omega))) | (with_reducible apply below_allocp; (first | omega | (simp <;> omega))) | (with_reducible refine below_viap (by assumption) ?_ ?_; (first | omega | (simp <;> omega)))))⟩
    | true =>
      have hM := Lib.hid (fun w => cnMake_any a b c w (trB_iff.1 h1))
      have h2 : trB (nfE a b c a) (nfE a b c b) (nfE a b c c) = false := by unfold ntB at h0; rw [h1, Bool.true_and] at h0; exact h0
      rw [h1] at hG
      rw [h2] at hN
      clear h1 h2 h0
      generalize nfE a b c a = xa at *
      generalize nfE a b c b = xb at *
      generalize nfE a b c c = xc at *
      go_enter Try.func7, Try.ntmps7
      go_wp2_with (first
        | (go_at_call 20; (with_reducible refine (hG.out _).mono ?_); rintro e v1 ⟨rfl, hB1⟩; have hZ1 := hB1.size; (try simp at hZ1); (try have zl1 : w.heap.size < v1.heap.size := by omega); (try have ze1 : w.heap.size ≤ v1.heap.size := by omega); (try have zn1 : ¬ w.heap.size = v1.heap.size := by omega); (try have zm1 : ¬ v1.heap.size = w.heap.size := by omega); have hA1 : Blk v1 (w.heap.size) 25 #[.int .i64 a, .int .i64 b, .int .i64 c] := Blk.call (by (repeat (first | with_reducible assumption | (with_reducible apply Blk.new_at; (first | rfl | (simp; done))) | with_reducible apply Blk.store3 | with_reducible apply Blk.store4 | (with_reducible apply Blk.farp; (first | omega | (simp <;> omega))) | with_reducible apply Blk.allocp | with_reducible apply Blk.drew | with_reducible apply Blk.drewN))) hB1; have cA1 := hA1.cell; have fA1 := hA1.frozen; have lA1 := hA1.lt; have mA1 := Nat.ne_of_gt lA1; have nA1 := Nat.ne_of_lt lA1)
        | (go_at_call 21; (with_reducible refine (hM.out _).mono ?_); rintro e v2 ⟨rfl, hB2⟩; have hZ2 := hB2.size; (try simp at hZ2); (try have zl2 : w.heap.size < v2.heap.size := by omega); (try have ze2 : w.heap.size ≤ v2.heap.size := by omega); (try have zn2 : ¬ w.heap.size = v2.heap.size := by omega); (try have zm2 : ¬ v2.heap.size = w.heap.size := by omega); have hA2 : Blk v2 (w.heap.size) 25 #[.int .i64 a, .int .i64 b, .int .i64 c] := Blk.call (by (repeat (first | with_reducible assumption | (with_reducible apply Blk.new_at; (first | rfl | (simp; done))) | with_reducible apply Blk.store3 | with_reducible apply Blk.store4 | (with_reducible apply Blk.farp; (first | omega | (simp <;> omega))) | with_reducible apply Blk.allocp | with_reducible apply Blk.drew | with_reducible apply Blk.drewN))) hB2; have cA2 := hA2.cell; have fA2 := hA2.frozen; have lA2 := hA2.lt; have mA2 := Nat.ne_of_gt lA2; have nA2 := Nat.ne_of_lt lA2)
        | (go_at_call 20; (with_reducible refine (hN.out _).mono ?_); rintro e v3 ⟨rfl, hB3⟩; have hZ3 := hB3.size; (try simp at hZ3); (try have zl3 : w.heap.size < v3.heap.size := by omega); (try have ze3 : w.heap.size ≤ v3.heap.size := by omega); (try have zn3 : ¬ w.heap.size = v3.heap.size := by omega); (try have zm3 : ¬ v3.heap.size = w.heap.size := by omega); have hA3 : Blk v3 (w.heap.size) 25 #[.int .i64 a, .int .i64 b, .int .i64 c] := Blk.call (by (repeat (first | with_reducible assumption | (with_reducible apply Blk.new_at; (first | rfl | (simp; done))) | with_reducible apply Blk.store3 | with_reducible apply Blk.store4 | (with_reducible apply Blk.farp; (first | omega | (simp <;> omega))) | with_reducible apply Blk.allocp | with_reducible apply Blk.drew | with_reducible apply Blk.drewN))) hB3; have cA3 := hA3.cell; have fA3 := hA3.frozen; have lA3 := hA3.lt; have mA3 := Nat.ne_of_gt lA3; have nA3 := Nat.ne_of_lt lA3))
      go_ret2
      exact ⟨rfl, (by repeat (first | with_reducible exact Below.refl _ _ | with_reducible assumption | with_reducible apply Below.drew | with_reducible apply below_drewN | (with_reducible apply below_setp; (first | omega | (simp <;> omega))) | (with_reducible apply below_allocp; (first | omega | (simp <;> omega))) | (with_reducible refine below_viap (by assumption) ?_ ?_; (first | omega | (simp <;> omega)))))⟩
  · have hM := Lib.hid (fun w => cnMake_any a b c w h1)
    have hP := Lib.hid (fun w => cnPlace_any a b c w h1 h2)
    rw [trB_iff.2 h1] at hG
    rw [trB_iff.2 h2] at hN
    clear h1 h2
    generalize nfE a b c a = xa at *
    generalize nfE a b c b = xb at *
    generalize nfE a b c c = xc at *
    generalize plF a b c = y at *
    by_cases hy : y < 0
    all_goals
      go_enter Try.func7, Try.ntmps7
      go_wp2_with (first
        | (go_at_call 20; (with_reducible refine (hG.out _).mono ?_); rintro e v1 ⟨rfl, hB1⟩; have hZ1 := hB1.size; (try simp at hZ1); (try have zl1 : w.heap.size < v1.heap.size := by omega); (try have ze1 : w.heap.size ≤ v1.heap.size := by omega); (try have zn1 : ¬ w.heap.size = v1.heap.size := by omega); (try have zm1 : ¬ v1.heap.size = w.heap.size := by omega); have hA1 : Blk v1 (w.heap.size) 25 #[.int .i64 a, .int .i64 b, .int .i64 c] := Blk.call (by (repeat (first | with_reducible assumption | (with_reducible apply Blk.new_at; (first | rfl | (simp; done))) | with_reducible apply Blk.store3 | with_reducible apply Blk.store4 | (with_reducible apply Blk.farp; (first | omega | (simp <;> omega))) | with_reducible apply Blk.allocp | with_reducible apply Blk.drew | with_reducible apply Blk.drewN))) hB1; have cA1 := hA1.cell; have fA1 := hA1.frozen; have lA1 := hA1.lt; have mA1 := Nat.ne_of_gt lA1; have nA1 := Nat.ne_of_lt lA1)
        | (go_at_call 21; (with_reducible refine (hM.out _).mono ?_); rintro e v2 ⟨rfl, hB2⟩; have hZ2 := hB2.size; (try simp at hZ2); (try have zl2 : w.heap.size < v2.heap.size := by omega); (try have ze2 : w.heap.size ≤ v2.heap.size := by omega); (try have zn2 : ¬ w.heap.size = v2.heap.size := by omega); (try have zm2 : ¬ v2.heap.size = w.heap.size := by omega); have hA2 : Blk v2 (w.heap.size) 25 #[.int .i64 a, .int .i64 b, .int .i64 c] := Blk.call (by (repeat (first | with_reducible assumption | (with_reducible apply Blk.new_at; (first | rfl | (simp; done))) | with_reducible apply Blk.store3 | with_reducible apply Blk.store4 | (with_reducible apply Blk.farp; (first | omega | (simp <;> omega))) | with_reducible apply Blk.allocp | with_reducible apply Blk.drew | with_reducible apply Blk.drewN))) hB2; have cA2 := hA2.cell; have fA2 := hA2.frozen; have lA2 := hA2.lt; have mA2 := Nat.ne_of_gt lA2; have nA2 := Nat.ne_of_lt lA2)
        | (go_at_call 20; (with_reducible refine (hN.out _).mono ?_); rintro e v3 ⟨rfl, hB3⟩; have hZ3 := hB3.size; (try simp at hZ3); (try have zl3 : w.heap.size < v3.heap.size := by omega); (try have ze3 : w.heap.size ≤ v3.heap.size := by omega); (try have zn3 : ¬ w.heap.size = v3.heap.size := by omega); (try have zm3 : ¬ v3.heap.size = w.heap.size := by omega); have hA3 : Blk v3 (w.heap.size) 25 #[.int .i64 a, .int .i64 b, .int .i64 c] := Blk.call (by (repeat (first | with_reducible assumption | (with_reducible apply Blk.new_at; (first | rfl | (simp; done))) | with_reducible apply Blk.store3 | with_reducible apply Blk.store4 | (with_reducible apply Blk.farp; (first | omega | (simp <;> omega))) | with_reducible apply Blk.allocp | with_reducible apply Blk.drew | with_reducible apply Blk.drewN))) hB3; have cA3 := hA3.cell; have fA3 := hA3.frozen; have lA3 := hA3.lt; have mA3 := Nat.ne_of_gt lA3; have nA3 := Nat.ne_of_lt lA3)
        | (go_at_call 22; (with_reducible refine (hP.out _).mono ?_); rintro e v4 ⟨rfl, hB4⟩; have hZ4 := hB4.size; (try simp at hZ4); (try have zl4 : w.heap.size < v4.heap.size := by omega); (try have ze4 : w.heap.size ≤ v4.heap.size := by omega); (try have zn4 : ¬ w.heap.size = v4.heap.size := by omega); (try have zm4 : ¬ v4.heap.size = w.heap.size := by omega); have hA4 : Blk v4 (w.heap.size) 25 #[.int .i64 a, .int .i64 b, .int .i64 c] := Blk.call (by (repeat (first | with_reducible assumption | (with_reducible apply Blk.new_at; (first | rfl | (simp; done))) | with_reducible apply Blk.store3 | with_reducible apply Blk.store4 | (with_reducible apply Blk.farp; (first | omega | (simp <;> omega))) | with_reducible apply Blk.allocp | with_reducible apply Blk.drew | with_reducible apply Blk.drewN))) hB4; have cA4 := hA4.cell; have fA4 := hA4.frozen; have lA4 := hA4.lt; have mA4 := Nat.ne_of_gt lA4; have nA4 := Nat.ne_of_lt lA4))
      go_ret2
      first
        | exact ⟨rfl, (by repeat (first | with_reducible exact Below.refl _ _ | with_reducible assumption | with_reducible apply Below.drew | with_reducible apply below_drewN | (with_reducible apply below_setp; (first | omega | (simp <;> omega))) | (with_reducible apply below_allocp; (first | omega | (simp <;> omega))) | (with_reducible refine below_viap (by assumption) ?_ ?_; (first | omega | (simp <;> omega)))))⟩
        | exact ⟨by simp [hy], (by repeat (first | with_reducible exact Below.refl _ _ | with_reducible assumption | with_reducible apply Below.drew | with_reducible apply below_drewN | (with_reducible apply below_setp; (first | omega | (simp <;> omega))) | (with_reducible apply below_allocp; (first | omega | (simp <;> omega))) | (with_reducible refine below_viap (by assumption) ?_ ?_; (first | omega | (simp <;> omega)))))⟩
end Go.Proofs.Ytdhennlanngjgaa
