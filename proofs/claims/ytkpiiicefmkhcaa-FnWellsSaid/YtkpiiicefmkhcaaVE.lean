/- Contracts: AreEquivalent of both sides, EquivalenceMatrix, Determinant, Discriminant, IsPrimitive, Substitute of the program. -/
import Derived.Test.YtkpiiicefmkhcaaVP
import Derived.Test.YtkpiiicefmkhcaaRY
import Derived.Test.YtkpiiicefmkhcaaIJ
namespace Go.Proofs.Ytkpiiicefmkhcaa
open Go.RowKit

theorem defB_def {a b c : Int} (h : isDefB a b c = true) : Def 1000000 ⟨a, b, c⟩ := by
  unfold isDefB at h
  simp only [Bool.and_eq_true, decide_eq_true_eq] at h
  obtain ⟨hf, h1, h2⟩ := h
  obtain ⟨⟨a1, a2⟩, ⟨b1, b2⟩, ⟨c1, c2⟩⟩ := isFm_bd hf
  have hd : b * b < 4 * (a * c) := by rw [← disc_eq, Int.mul_assoc] at h1; omega
  exact ⟨h2, a2, c_of_disc h2 hd, c2, hd⟩
/-- What AreEquivalent answers. -/
def AeR (f g : Fm) (x ok : Bool) : Prop := (isDefB f.a f.b f.c = false ∧ x = false ∧ ok = false) ∨ (isDefB f.a f.b f.c = true ∧ isDefB g.a g.b g.c = false ∧ x = false ∧ ok = false) ∨ (isDefB f.a f.b f.c = true ∧ isDefB g.a g.b g.c = true ∧ x = fmEq (red f) (red g) ∧ ok = true)
theorem aeR_ex (f g : Fm) : ∃ x ok, AeR f g x ok := by
  cases h1 : isDefB f.a f.b f.c with
  | false => exact ⟨_, _, .inl ⟨h1, rfl, rfl⟩⟩
  | true =>
    cases h2 : isDefB g.a g.b g.c with
    | false => exact ⟨_, _, .inr (.inl ⟨h1, h2, rfl, rfl⟩)⟩
    | true => exact ⟨_, _, .inr (.inr ⟨h1, h2, rfl, rfl⟩)⟩
theorem red_any_d (f : Fm) (w : World) (h : Def 1000000 f) : Calls Try.prog 92 #[.agg #[.int .i64 f.a, .int .i64 f.b, .int .i64 f.c]] w fun e w' => e = .returned (.agg #[.int .i64 (red f).a, .int .i64 (red f).b, .int .i64 (red f).c]) ∧ Below w.heap.size w w' :=
  reduced_any f.a f.b f.c _ _ _ w (def_mono h (by decide)) rfl
theorem reCl_any_d (f : Fm) (w : World) (h : Def 1000000 f) : Calls Try.prog 190 #[.agg #[.int .i64 f.a, .int .i64 f.b, .int .i64 f.c]] w fun e w' => e = .returned (.agg #[.int .i64 (red f).a, .int .i64 (red f).b, .int .i64 (red f).c]) ∧ Below w.heap.size w w' :=
  reClass_any f.a f.b f.c _ _ _ w (def_mono h (by decide)) rfl
set_option maxRecDepth 100000 in
set_option maxHeartbeats 3200000 in
theorem implAE_any (f g : Fm) (x ok : Bool) (w : World) (h : AeR f g x ok) :
    Calls Try.prog 28 #[.agg #[.int .i64 f.a, .int .i64 f.b, .int .i64 f.c], .agg #[.int .i64 g.a, .int .i64 g.b, .int .i64 g.c]] w fun e w' => e = .returned (.tuple #[.bool x, .bool ok]) ∧ Below w.heap.size w w' := by
  have hF := Lib.hid (fun w => iisDef_any f.a f.b f.c w)
  have hG := Lib.hid (fun w => iisDef_any g.a g.b g.c w)
  rcases h with ⟨h1, rfl, rfl⟩ | ⟨h1, h2, rfl, rfl⟩ | ⟨h1, h2, rfl, rfl⟩
  · rw [h1] at hF
    clear h1
    go_enter Try.func28, Try.ntmps28
    go_wp2_with (go_at_call 65; (with_reducible refine (hF.out _).mono ?_); rintro e v1 ⟨rfl, hB1⟩; have hZ1 := hB1.size; (try simp at hZ1); (try have zl1 : w.heap.size < v1.heap.size := by omega); (try have ze1 : w.heap.size ≤ v1.heap.size := by omega); (try have zn1 : ¬ w.heap.size = v1.heap.size := by omega); (try have zm1 : ¬ v1.heap.size = w.heap.size := by omega); have hA1 : Blk v1 (w.heap.size) 35 #[.int .i64 f.a, .int .i64 f.b, .int .i64 f.c] := Blk.call (by (repeat (first | with_reducible assumption | (with_reducible apply Blk.new_at; (first | rfl | (simp; done))) | with_reducible apply Blk.store3 | with_reducible apply Blk.store4 | (with_reducible apply Blk.farp; (first | omega | (simp <;> omega))) | with_reducible apply Blk.allocp | with_reducible apply Blk.drew | with_reducible apply Blk.drewN))) hB1; have cA1 := hA1.cell; have fA1 := hA1.frozen; have lA1 := hA1.lt; have mA1 := Nat.ne_of_gt lA1; have nA1 := Nat.ne_of_lt lA1; have hD1 : Blk v1 (w.heap.size + 1) 35 #[.int .i64 g.a, .int .i64 g.b, .int .i64 g.c] := Blk.call (by (repeat (first | with_reducible assumption | (with_reducible apply Blk.new_at; (first | rfl | (simp; done))) | with_reducible apply Blk.store3 | with_reducible apply Blk.store4 | (with_reducible apply Blk.farp; (first | omega | (simp <;> omega))) | with_reducible apply Blk.allocp | with_reducible apply Blk.drew | with_reducible apply Blk.drewN))) hB1; have cD1 := hD1.cell; have fD1 := hD1.frozen; have lD1 := hD1.lt; have mD1 := Nat.ne_of_gt lD1; have nD1 := Nat.ne_of_lt lD1)
    go_ret2
    exact ⟨rfl, (by repeat (first | with_reducible exact Below.refl _ _ | with_reducible assumption | with_reducible apply Below.drew | with_reducible apply below_drewN | (with_reducible apply below_setp; (first | omega | (simp <;> omega))) | (with_reducible apply below_allocp; (first | omega | (simp <;> omega))) | (with_reducible refine below_viap (by assumption) ?_ ?_; (first | omega | (simp <;> omega)))))⟩
  · rw [h1] at hF
    rw [h2] at hG
    clear h1 h2
    go_enter Try.func28, Try.ntmps28
    go_wp2_with (first
      | (go_at_call 65; (with_reducible refine (hF.out _).mono ?_); rintro e v1 ⟨rfl, hB1⟩; have hZ1 := hB1.size; (try simp at hZ1); (try have zl1 : w.heap.size < v1.heap.size := by omega); (try have ze1 : w.heap.size ≤ v1.heap.size := by omega); (try have zn1 : ¬ w.heap.size = v1.heap.size := by omega); (try have zm1 : ¬ v1.heap.size = w.heap.size := by omega); have hA1 : Blk v1 (w.heap.size) 35 #[.int .i64 f.a, .int .i64 f.b, .int .i64 f.c] := Blk.call (by (repeat (first | with_reducible assumption | (with_reducible apply Blk.new_at; (first | rfl | (simp; done))) | with_reducible apply Blk.store3 | with_reducible apply Blk.store4 | (with_reducible apply Blk.farp; (first | omega | (simp <;> omega))) | with_reducible apply Blk.allocp | with_reducible apply Blk.drew | with_reducible apply Blk.drewN))) hB1; have cA1 := hA1.cell; have fA1 := hA1.frozen; have lA1 := hA1.lt; have mA1 := Nat.ne_of_gt lA1; have nA1 := Nat.ne_of_lt lA1; have hD1 : Blk v1 (w.heap.size + 1) 35 #[.int .i64 g.a, .int .i64 g.b, .int .i64 g.c] := Blk.call (by (repeat (first | with_reducible assumption | (with_reducible apply Blk.new_at; (first | rfl | (simp; done))) | with_reducible apply Blk.store3 | with_reducible apply Blk.store4 | (with_reducible apply Blk.farp; (first | omega | (simp <;> omega))) | with_reducible apply Blk.allocp | with_reducible apply Blk.drew | with_reducible apply Blk.drewN))) hB1; have cD1 := hD1.cell; have fD1 := hD1.frozen; have lD1 := hD1.lt; have mD1 := Nat.ne_of_gt lD1; have nD1 := Nat.ne_of_lt lD1)
      | (go_at_call 65; (with_reducible refine (hG.out _).mono ?_); rintro e v2 ⟨rfl, hB2⟩; have hZ2 := hB2.size; (try simp at hZ2); (try have zl2 : w.heap.size < v2.heap.size := by omega); (try have ze2 : w.heap.size ≤ v2.heap.size := by omega); (try have zn2 : ¬ w.heap.size = v2.heap.size := by omega); (try have zm2 : ¬ v2.heap.size = w.heap.size := by omega); have hA2 : Blk v2 (w.heap.size) 35 #[.int .i64 f.a, .int .i64 f.b, .int .i64 f.c] := Blk.call (by (repeat (first | with_reducible assumption | (with_reducible apply Blk.new_at; (first | rfl | (simp; done))) | with_reducible apply Blk.store3 | with_reducible apply Blk.store4 | (with_reducible apply Blk.farp; (first | omega | (simp <;> omega))) | with_reducible apply Blk.allocp | with_reducible apply Blk.drew | with_reducible apply Blk.drewN))) hB2; have cA2 := hA2.cell; have fA2 := hA2.frozen; have lA2 := hA2.lt; have mA2 := Nat.ne_of_gt lA2; have nA2 := Nat.ne_of_lt lA2; have hD2 : Blk v2 (w.heap.size + 1) 35 #[.int .i64 g.a, .int .i64 g.b, .int .i64 g.c] := Blk.call (by (repeat (first | with_reducible assumption | (with_reducible apply Blk.new_at; (first | rfl | (simp; done))) | with_reducible apply Blk.store3 | with_reducible apply Blk.store4 | (with_reducible apply Blk.farp; (first | omega | (simp <;> omega))) | with_reducible apply Blk.allocp | with_reducible apply Blk.drew | with_reducible apply Blk.drewN))) hB2; have cD2 := hD2.cell; have fD2 := hD2.frozen; have lD2 := hD2.lt; have mD2 := Nat.ne_of_gt lD2; have nD2 := Nat.ne_of_lt lD2))
    go_ret2
    exact ⟨rfl, (by repeat (first | with_reducible exact Below.refl _ _ | with_reducible assumption | with_reducible apply Below.drew | with_reducible apply below_drewN | (with_reducible apply below_setp; (first | omega | (simp <;> omega))) | (with_reducible apply below_allocp; (first | omega | (simp <;> omega))) | (with_reducible refine below_viap (by assumption) ?_ ?_; (first | omega | (simp <;> omega)))))⟩
  · rw [h1] at hF
    rw [h2] at hG
    have hR := Lib.hid (fun w => red_any_d f w (defB_def h1))
    have hS := Lib.hid (fun w => red_any_d g w (defB_def h2))
    clear h1 h2
    generalize red f = r at *
    generalize red g = s at *
    rcases fm_cases r s with ⟨rfl, hv⟩ | ⟨hv, e1⟩ | ⟨hv, e1, e2⟩ | ⟨hv, e1, e2, e3⟩
    all_goals
      rw [hv]
      clear hv
      go_enter Try.func28, Try.ntmps28
      go_wp2_with (first
        | (go_at_call 65; (with_reducible refine (hF.out _).mono ?_); rintro e v1 ⟨rfl, hB1⟩; have hZ1 := hB1.size; (try simp at hZ1); (try have zl1 : w.heap.size < v1.heap.size := by omega); (try have ze1 : w.heap.size ≤ v1.heap.size := by omega); (try have zn1 : ¬ w.heap.size = v1.heap.size := by omega); (try have zm1 : ¬ v1.heap.size = w.heap.size := by omega); have hA1 : Blk v1 (w.heap.size) 35 #[.int .i64 f.a, .int .i64 f.b, .int .i64 f.c] := Blk.call (by (repeat (first | with_reducible assumption | (with_reducible apply Blk.new_at; (first | rfl | (simp; done))) | with_reducible apply Blk.store3 | with_reducible apply Blk.store4 | (with_reducible apply Blk.farp; (first | omega | (simp <;> omega))) | with_reducible apply Blk.allocp | with_reducible apply Blk.drew | with_reducible apply Blk.drewN))) hB1; have cA1 := hA1.cell; have fA1 := hA1.frozen; have lA1 := hA1.lt; have mA1 := Nat.ne_of_gt lA1; have nA1 := Nat.ne_of_lt lA1; have hD1 : Blk v1 (w.heap.size + 1) 35 #[.int .i64 g.a, .int .i64 g.b, .int .i64 g.c] := Blk.call (by (repeat (first | with_reducible assumption | (with_reducible apply Blk.new_at; (first | rfl | (simp; done))) | with_reducible apply Blk.store3 | with_reducible apply Blk.store4 | (with_reducible apply Blk.farp; (first | omega | (simp <;> omega))) | with_reducible apply Blk.allocp | with_reducible apply Blk.drew | with_reducible apply Blk.drewN))) hB1; have cD1 := hD1.cell; have fD1 := hD1.frozen; have lD1 := hD1.lt; have mD1 := Nat.ne_of_gt lD1; have nD1 := Nat.ne_of_lt lD1)
        | (go_at_call 65; (with_reducible refine (hG.out _).mono ?_); rintro e v2 ⟨rfl, hB2⟩; have hZ2 := hB2.size; (try simp at hZ2); (try have zl2 : w.heap.size < v2.heap.size := by omega); (try have ze2 : w.heap.size ≤ v2.heap.size := by omega); (try have zn2 : ¬ w.heap.size = v2.heap.size := by omega); (try have zm2 : ¬ v2.heap.size = w.heap.size := by omega); have hA2 : Blk v2 (w.heap.size) 35 #[.int .i64 f.a, .int .i64 f.b, .int .i64 f.c] := Blk.call (by (repeat (first | with_reducible assumption | (with_reducible apply Blk.new_at; (first | rfl | (simp; done))) | with_reducible apply Blk.store3 | with_reducible apply Blk.store4 | (with_reducible apply Blk.farp; (first | omega | (simp <;> omega))) | with_reducible apply Blk.allocp | with_reducible apply Blk.drew | with_reducible apply Blk.drewN))) hB2; have cA2 := hA2.cell; have fA2 := hA2.frozen; have lA2 := hA2.lt; have mA2 := Nat.ne_of_gt lA2; have nA2 := Nat.ne_of_lt lA2; have hD2 : Blk v2 (w.heap.size + 1) 35 #[.int .i64 g.a, .int .i64 g.b, .int .i64 g.c] := Blk.call (by (repeat (first | with_reducible assumption | (with_reducible apply Blk.new_at; (first | rfl | (simp; done))) | with_reducible apply Blk.store3 | with_reducible apply Blk.store4 | (with_reducible apply Blk.farp; (first | omega | (simp <;> omega))) | with_reducible apply Blk.allocp | with_reducible apply Blk.drew | with_reducible apply Blk.drewN))) hB2; have cD2 := hD2.cell; have fD2 := hD2.frozen; have lD2 := hD2.lt; have mD2 := Nat.ne_of_gt lD2; have nD2 := Nat.ne_of_lt lD2))
      refine wp_region_calm 5 (Below (v2.heap.size) _) (by kernel_rfl) (by kernel_rfl) ((Below.refl _ _).drew) ?_
      simp only [List.take_succ_cons, List.take_zero, List.drop_succ_cons, List.drop_zero]
      repeat (first | (apply wpCalm_go; go_simp; (intro w' hw' hcc hff; go_simp; first | exact rfl | ((with_reducible refine (hR.out _).mono ?_); rintro ee w1 ⟨rfl, hb⟩; exact ⟨rfl, calm_call (by simp <;> omega) hw' hb⟩) | ((with_reducible refine (hS.out _).mono ?_); rintro ee w1 ⟨rfl, hb⟩; exact ⟨rfl, calm_call (by simp <;> omega) hw' hb⟩)); (intro K hK; go_simp; refine hK _ ?_; clear hK K)) | (apply wpCalm_skip; go_simp; (try (focus (simp [undef]; done))); (intro K hK; go_simp; refine hK _ ?_; clear hK K)))
      refine wpCalm_nil ?_
      intro w1 hw1
      have hcc := (calm_cells hw1).1
      have hff := (calm_cells hw1).2
      have hss := calm_size hw1
      have hsz := hw1.size
      (try simp at hsz)
      go_wp2
      go_ret2
      exact ⟨rfl, (by repeat (first | with_reducible exact Below.refl _ _ | with_reducible assumption | with_reducible apply Below.drew | with_reducible apply below_drewN | (with_reducible apply below_setp; (first | omega | (simp <;> omega))) | (with_reducible apply below_allocp; (first | omega | (simp <;> omega))) | (with_reducible refine below_viap (by assumption) ?_ ?_; (first | omega | (simp <;> omega)))))⟩
theorem mm_fit {a b c d : Int} (h1 : -9000000000000000000 ≤ a * b + c * d) (h2 : a * b + c * d ≤ 9000000000000000000) : mm a b c d = a * b + c * d := by
  unfold mm
  rw [wrap_addl, wrap_addr]
  exact wrap_fit h1 h2
/-- Whether the entries are numbers of the program. -/
def numM (m : M4) : Bool := isNum m.p && (isNum m.q && (isNum m.r && isNum m.s))
theorem numM_bd {m : M4} (h : numM m = true) : (-1000000 ≤ m.p ∧ m.p ≤ 1000000) ∧ (-1000000 ≤ m.q ∧ m.q ≤ 1000000) ∧ (-1000000 ≤ m.r ∧ m.r ≤ 1000000) ∧ (-1000000 ≤ m.s ∧ m.s ≤ 1000000) := by
  unfold numM at h
  simp only [Bool.and_eq_true, isNum_iff] at h
  exact h
theorem isMx_any (m : M4) (w : World) : Calls Try.prog 76 #[.agg #[.int .i64 m.p, .int .i64 m.q, .int .i64 m.r, .int .i64 m.s]] w fun e w' => e = .returned (.bool (numM m)) ∧ Below w.heap.size w w' := IsMatrix_any m.p m.q m.r m.s w
theorem times_mul {m n : M4} (h1 : -2000000 ≤ m.p ∧ m.p ≤ 2000000) (h2 : -2000000 ≤ m.q ∧ m.q ≤ 2000000) (h3 : -2000000 ≤ m.r ∧ m.r ≤ 2000000) (h4 : -2000000 ≤ m.s ∧ m.s ≤ 2000000)
    (k1 : -2000000 ≤ n.p ∧ n.p ≤ 2000000) (k2 : -2000000 ≤ n.q ∧ n.q ≤ 2000000) (k3 : -2000000 ≤ n.r ∧ n.r ≤ 2000000) (k4 : -2000000 ≤ n.s ∧ n.s ≤ 2000000) (w : World) :
    Calls Try.prog 159 #[.agg #[.int .i64 m.p, .int .i64 m.q, .int .i64 m.r, .int .i64 m.s], .agg #[.int .i64 n.p, .int .i64 n.q, .int .i64 n.r, .int .i64 n.s]] w fun e w' =>
      e = .returned (.agg #[.int .i64 (m.mul n).p, .int .i64 (m.mul n).q, .int .i64 (m.mul n).r, .int .i64 (m.mul n).s]) ∧ Below w.heap.size w w' := by
  have := times_any m.p m.q m.r m.s n.p n.q n.r n.s w
  rw [mm_in h1 k1 h2 k3, mm_in h1 k2 h2 k4, mm_in h3 k1 h4 k3, mm_in h3 k2 h4 k4] at this
  exact this
end Go.Proofs.Ytkpiiicefmkhcaa
