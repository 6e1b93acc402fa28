/- Contracts: norms, forms, conjugates and units of ideals, of the program and the reference. -/
import Derived.Test.YtjjkndgokdofdaaRH
import Derived.Test.YtjjkndgokdofdaaCA
namespace Go.Proofs.Ytjjkndgokdofdaa
open Go.RowKit

set_option maxRecDepth 100000 in
set_option maxHeartbeats 3200000 in
theorem norm_any (e a b : Int) (w : World) (he : 1 ≤ e ∧ e ≤ 10000) (ha : 1 ≤ a ∧ a ≤ 10000) : Calls Try.prog 52 #[.agg #[.int .i64 e, .int .i64 a, .int .i64 b]] w fun x w' => x = .returned (.int .i64 (e * e * a)) ∧ Below w.heap.size w w' := by
  have m1 := mul_bd (a := e) (x := e) (A := 10000) (X := 10000) (by omega) (by omega) (by omega) (by omega)
  have m2 := mul_bd (a := e * e) (x := a) (A := 100000000) (X := 10000) (by omega) (by omega) (by omega) (by omega)
  have w1 : wrap64 (e * e) = e * e := IntWalk.wrap64_in _ (by omega)
  have w2 : wrap64 (e * e * a) = e * e * a := IntWalk.wrap64_in _ (by omega)
  clear m1 m2
  go_enter Try.func52, Try.ntmps52
  go_wp2
  go_ret
  exact ⟨by simp [w2], (by repeat (first | with_reducible exact Below.refl _ _ | with_reducible assumption | with_reducible apply Below.drew | with_reducible apply below_drewN | (with_reducible apply below_setp; (first | omega | (simp <;> omega))) | (with_reducible apply below_allocp; (first | omega | (simp <;> omega))) | (with_reducible refine below_viap (by assumption) ?_ ?_; (first | omega | (simp <;> omega)))))⟩
set_option maxRecDepth 100000 in
set_option maxHeartbeats 3200000 in
theorem IdealNorm_any (d e a b : Int) (w : World) (h : idB d e a b = true) : Calls Try.prog 14 #[.int .i64 d, .agg #[.int .i64 e, .int .i64 a, .int .i64 b]] w fun x w' => x = .returned (.tuple #[.int .i64 (e * e * a), .bool true]) ∧ Below w.heap.size w w' := by
  have V := idB_iff.1 h
  have hN := Lib.hid (fun w => norm_any e a b w ⟨V.e1, V.e2⟩ ⟨V.a1, V.a2⟩)
  have hI := Lib.hid (fun w => isIdeal_any d e a b w)
  rw [h] at hI
  clear h V
  generalize e * e * a = n at *
  go_enter Try.func14, Try.ntmps14
  go_wp2_with (first | (go_at_call 45; (with_reducible refine (hI.out _).mono ?_); rintro e v1 ⟨rfl, hB1⟩; have hZ1 := hB1.size; (try simp at hZ1); (try have zl1 : w.heap.size < v1.heap.size := by omega); (try have ze1 : w.heap.size ≤ v1.heap.size := by omega); (try have zn1 : ¬ w.heap.size = v1.heap.size := by omega); (try have zm1 : ¬ v1.heap.size = w.heap.size := by omega); have hX1 : Blk v1 (w.heap.size) 25 #[.int .i64 e, .int .i64 a, .int .i64 b] := Blk.call (by (repeat (first | with_reducible assumption | (with_reducible apply Blk.new_at; (first | rfl | (simp; done))) | with_reducible apply Blk.store3 | with_reducible apply Blk.store4 | (with_reducible apply Blk.farp; (first | omega | (simp <;> omega))) | with_reducible apply Blk.allocp | with_reducible apply Blk.drew | with_reducible apply Blk.drewN))) hB1; have cX1 := hX1.cell; have fX1 := hX1.frozen; have lX1 := hX1.lt; have mX1 := Nat.ne_of_gt lX1; have nX1 := Nat.ne_of_lt lX1) | (go_at_call 52; (with_reducible refine (hN.out _).mono ?_); rintro e v2 ⟨rfl, hB2⟩; have hZ2 := hB2.size; (try simp at hZ2); (try have zl2 : w.heap.size < v2.heap.size := by omega); (try have ze2 : w.heap.size ≤ v2.heap.size := by omega); (try have zn2 : ¬ w.heap.size = v2.heap.size := by omega); (try have zm2 : ¬ v2.heap.size = w.heap.size := by omega); have hX2 : Blk v2 (w.heap.size) 25 #[.int .i64 e, .int .i64 a, .int .i64 b] := Blk.call (by (repeat (first | with_reducible assumption | (with_reducible apply Blk.new_at; (first | rfl | (simp; done))) | with_reducible apply Blk.store3 | with_reducible apply Blk.store4 | (with_reducible apply Blk.farp; (first | omega | (simp <;> omega))) | with_reducible apply Blk.allocp | with_reducible apply Blk.drew | with_reducible apply Blk.drewN))) hB2; have cX2 := hX2.cell; have fX2 := hX2.frozen; have lX2 := hX2.lt; have mX2 := Nat.ne_of_gt lX2; have nX2 := Nat.ne_of_lt lX2))
  exact bodyPost_ret (v := .tuple #[.int .i64 n, .bool true]) (by simp [results, Try.results14, go_sem, *]) rfl ⟨rfl, (by repeat (first | with_reducible exact Below.refl _ _ | with_reducible assumption | with_reducible apply Below.drew | with_reducible apply below_drewN | (with_reducible apply below_setp; (first | omega | (simp <;> omega))) | (with_reducible apply below_allocp; (first | omega | (simp <;> omega))) | (with_reducible refine below_viap (by assumption) ?_ ?_; (first | omega | (simp <;> omega)))))⟩
set_option maxRecDepth 100000 in
set_option maxHeartbeats 3200000 in
theorem conj_any (e a b : Int) (w : World) (ha : 1 ≤ a ∧ a ≤ 10000) (hb : 0 ≤ b ∧ b ≤ 20000) : Calls Try.prog 56 #[.agg #[.int .i64 e, .int .i64 a, .int .i64 b]] w fun x w' => x = .returned (.agg #[.int .i64 e, .int .i64 a, .int .i64 ((-b) % (2 * a))]) ∧ Below w.heap.size w w' := by
  have w1 : wrap64 (2 * a) = 2 * a := IntWalk.wrap64_in _ (by omega)
  have i1 : IntKind.i64.wrap (-b) = -b := IntWalk.i64_in _ (by omega)
  have hM := Lib.hid (fun w => mod_any (-b) (2 * a) w (by omega) (by omega))
  have i3 : IntKind.i64.wrap (2 * a) = 2 * a := IntWalk.i64_in _ (by omega)
  generalize (-b) % (2 * a) = R at *
  go_enter Try.func56, Try.ntmps56
  go_wp2
  refine wp_region_calm 11 (Below (w.heap.size + 1 + 1) _) (by kernel_rfl) (by kernel_rfl) ((Below.refl _ _).drew) ?_
  simp only [List.take_succ_cons, List.take_zero, List.drop_succ_cons, List.drop_zero]
  repeat (first | (apply wpCalm_go; go_simp; (intro w' hw' hcc hff; go_simp; first | exact rfl | ((with_reducible refine (hM.out _).mono ?_); rintro e w1 ⟨rfl, hb⟩; exact ⟨rfl, calm_call_same hw' hb⟩)); (intro K hK; go_simp; refine hK _ ?_; clear hK K)) | (apply wpCalm_skip; go_simp; (try (focus (simp [undef]; done))); (intro K hK; go_simp; refine hK _ ?_; clear hK K)))
  refine wpCalm_nil ?_
  intro w1 hw1
  have hcc := (calm_cells hw1).1
  have hff := (calm_cells hw1).2
  have hss := calm_size hw1
  have hsz := hw1.size
  (try simp at hsz)
  have hX2 : Blk w1 w.heap.size 25 #[.int .i64 e, .int .i64 a, .int .i64 b] := Blk.below (by (repeat (first | with_reducible assumption | (with_reducible apply Blk.new_at; (first | rfl | (simp; done))) | with_reducible apply Blk.store3 | with_reducible apply Blk.store4 | (with_reducible apply Blk.farp; (first | omega | (simp <;> omega))) | with_reducible apply Blk.allocp | with_reducible apply Blk.drew | with_reducible apply Blk.drewN))) hw1 (by omega)
  have hR2 : Blk w1 (w.heap.size + 1) 25 #[.int .i64 0, .int .i64 0, .int .i64 0] := Blk.below (by (repeat (first | with_reducible assumption | (with_reducible apply Blk.new_at; (first | rfl | (simp; done))) | with_reducible apply Blk.store3 | with_reducible apply Blk.store4 | (with_reducible apply Blk.farp; (first | omega | (simp <;> omega))) | with_reducible apply Blk.allocp | with_reducible apply Blk.drew | with_reducible apply Blk.drewN))) hw1 (by omega)
  have cX2 := hX2.cell; have fX2 := hX2.frozen; have lX2 := hX2.lt
  have cR2 := hR2.cell; have fR2 := hR2.frozen; have lR2 := hR2.lt
  have hz1 := hw1.size
  clear hcc hff hss
  go_wp2
  exact bodyPost_ret (v := .agg #[.int .i64 e, .int .i64 a, .int .i64 R]) (by simp [results, Try.results56, go_sem, *]) rfl ⟨rfl, (by repeat (first | with_reducible exact Below.refl _ _ | with_reducible assumption | with_reducible apply Below.drew | with_reducible apply below_drewN | (with_reducible apply below_setp; (first | omega | (simp <;> omega))) | (with_reducible apply below_allocp; (first | omega | (simp <;> omega))) | (with_reducible refine below_viap (by assumption) ?_ ?_; (first | omega | (simp <;> omega)))))⟩
set_option maxRecDepth 100000 in
set_option maxHeartbeats 3200000 in
theorem ConjugateIdeal_any (d e a b : Int) (w : World) (h : idB d e a b = true) : Calls Try.prog 17 #[.int .i64 d, .agg #[.int .i64 e, .int .i64 a, .int .i64 b]] w fun x w' => x = .returned (.tuple #[.agg #[.int .i64 e, .int .i64 a, .int .i64 ((-b) % (2 * a))], .bool true]) ∧ Below w.heap.size w w' := by
  have V := idB_iff.1 h
  have v1 := V.a2; have v2 := V.b2
  have hN := Lib.hid (fun w => conj_any e a b w ⟨V.a1, V.a2⟩ ⟨V.b0, by omega⟩)
  have hI := Lib.hid (fun w => isIdeal_any d e a b w)
  rw [h] at hI
  clear h V v1 v2
  generalize (-b) % (2 * a) = R at *
  go_enter Try.func17, Try.ntmps17
  go_wp2_with (first | (go_at_call 45; (with_reducible refine (hI.out _).mono ?_); rintro e v1 ⟨rfl, hB1⟩; have hZ1 := hB1.size; (try simp at hZ1); (try have zl1 : w.heap.size < v1.heap.size := by omega); (try have ze1 : w.heap.size ≤ v1.heap.size := by omega); (try have zn1 : ¬ w.heap.size = v1.heap.size := by omega); (try have zm1 : ¬ v1.heap.size = w.heap.size := by omega); have hX1 : Blk v1 (w.heap.size) 25 #[.int .i64 e, .int .i64 a, .int .i64 b] := Blk.call (by (repeat (first | with_reducible assumption | (with_reducible apply Blk.new_at; (first | rfl | (simp; done))) | with_reducible apply Blk.store3 | with_reducible apply Blk.store4 | (with_reducible apply Blk.farp; (first | omega | (simp <;> omega))) | with_reducible apply Blk.allocp | with_reducible apply Blk.drew | with_reducible apply Blk.drewN))) hB1; have cX1 := hX1.cell; have fX1 := hX1.frozen; have lX1 := hX1.lt; have mX1 := Nat.ne_of_gt lX1; have nX1 := Nat.ne_of_lt lX1; have hR1 : Blk v1 (w.heap.size + 1) 25 #[.int .i64 0, .int .i64 0, .int .i64 0] := Blk.call (by (repeat (first | with_reducible assumption | (with_reducible apply Blk.new_at; (first | rfl | (simp; done))) | with_reducible apply Blk.store3 | with_reducible apply Blk.store4 | (with_reducible apply Blk.farp; (first | omega | (simp <;> omega))) | with_reducible apply Blk.allocp | with_reducible apply Blk.drew | with_reducible apply Blk.drewN))) hB1; have cR1 := hR1.cell; have fR1 := hR1.frozen; have lR1 := hR1.lt; have mR1 := Nat.ne_of_gt lR1; have nR1 := Nat.ne_of_lt lR1) | (go_at_call 56; (with_reducible refine (hN.out _).mono ?_); rintro e v2 ⟨rfl, hB2⟩; have hZ2 := hB2.size; (try simp at hZ2); (try have zl2 : w.heap.size < v2.heap.size := by omega); (try have ze2 : w.heap.size ≤ v2.heap.size := by omega); (try have zn2 : ¬ w.heap.size = v2.heap.size := by omega); (try have zm2 : ¬ v2.heap.size = w.heap.size := by omega); have hX2 : Blk v2 (w.heap.size) 25 #[.int .i64 e, .int .i64 a, .int .i64 b] := Blk.call (by (repeat (first | with_reducible assumption | (with_reducible apply Blk.new_at; (first | rfl | (simp; done))) | with_reducible apply Blk.store3 | with_reducible apply Blk.store4 | (with_reducible apply Blk.farp; (first | omega | (simp <;> omega))) | with_reducible apply Blk.allocp | with_reducible apply Blk.drew | with_reducible apply Blk.drewN))) hB2; have cX2 := hX2.cell; have fX2 := hX2.frozen; have lX2 := hX2.lt; have mX2 := Nat.ne_of_gt lX2; have nX2 := Nat.ne_of_lt lX2; have hR2 : Blk v2 (w.heap.size + 1) 25 #[.int .i64 0, .int .i64 0, .int .i64 0] := Blk.call (by (repeat (first | with_reducible assumption | (with_reducible apply Blk.new_at; (first | rfl | (simp; done))) | with_reducible apply Blk.store3 | with_reducible apply Blk.store4 | (with_reducible apply Blk.farp; (first | omega | (simp <;> omega))) | with_reducible apply Blk.allocp | with_reducible apply Blk.drew | with_reducible apply Blk.drewN))) hB2; have cR2 := hR2.cell; have fR2 := hR2.frozen; have lR2 := hR2.lt; have mR2 := Nat.ne_of_gt lR2; have nR2 := Nat.ne_of_lt lR2))
  exact bodyPost_ret (v := .tuple #[.agg #[.int .i64 e, .int .i64 a, .int .i64 R], .bool true]) (by simp [results, Try.results17, go_sem, *]) rfl ⟨rfl, (by repeat (first | with_reducible exact Below.refl _ _ | with_reducible assumption | with_reducible apply Below.drew | with_reducible apply below_drewN | (with_reducible apply below_setp; (first | omega | (simp <;> omega))) | (with_reducible apply below_allocp; (first | omega | (simp <;> omega))) | (with_reducible refine below_viap (by assumption) ?_ ?_; (first | omega | (simp <;> omega)))))⟩
set_option maxRecDepth 100000 in
set_option maxHeartbeats 3200000 in
theorem idConj_any (e a b : Int) (w : World) (ha : 1 ≤ a ∧ a ≤ 10000) (hb : 0 ≤ b ∧ b ≤ 20000) : Calls Try.prog 39 #[.agg #[.int .i64 e, .int .i64 a, .int .i64 b]] w fun x w' => x = .returned (.agg #[.int .i64 e, .int .i64 a, .int .i64 ((-b) % (2 * a))]) ∧ Below w.heap.size w w' := by
  have w1 : wrap64 (2 * a) = 2 * a := IntWalk.wrap64_in _ (by omega)
  have i1 : IntKind.i64.wrap (-b) = -b := IntWalk.i64_in _ (by omega)
  have hM := Lib.hid (fun w => nuMod_any (-b) (2 * a) w (by omega) (by omega))
  have i3 : IntKind.i64.wrap (2 * a) = 2 * a := IntWalk.i64_in _ (by omega)
  generalize (-b) % (2 * a) = R at *
  go_enter Try.func39, Try.ntmps39
  go_wp2
  refine wp_region_calm 11 (Below (w.heap.size + 1 + 1) _) (by kernel_rfl) (by kernel_rfl) ((Below.refl _ _).drew) ?_
  simp only [List.take_succ_cons, List.take_zero, List.drop_succ_cons, List.drop_zero]
  repeat (first | (apply wpCalm_go; go_simp; (intro w' hw' hcc hff; go_simp; first | exact rfl | ((with_reducible refine (hM.out _).mono ?_); rintro e w1 ⟨rfl, hb⟩; exact ⟨rfl, calm_call_same hw' hb⟩)); (intro K hK; go_simp; refine hK _ ?_; clear hK K)) | (apply wpCalm_skip; go_simp; (try (focus (simp [undef]; done))); (intro K hK; go_simp; refine hK _ ?_; clear hK K)))
  refine wpCalm_nil ?_
  intro w1 hw1
  have hcc := (calm_cells hw1).1
  have hff := (calm_cells hw1).2
  have hss := calm_size hw1
  have hsz := hw1.size
  (try simp at hsz)
  have hX2 : Blk w1 w.heap.size 25 #[.int .i64 e, .int .i64 a, .int .i64 b] := Blk.below (by (repeat (first | with_reducible assumption | (with_reducible apply Blk.new_at; (first | rfl | (simp; done))) | with_reducible apply Blk.store3 | with_reducible apply Blk.store4 | (with_reducible apply Blk.farp; (first | omega | (simp <;> omega))) | with_reducible apply Blk.allocp | with_reducible apply Blk.drew | with_reducible apply Blk.drewN))) hw1 (by omega)
  have hR2 : Blk w1 (w.heap.size + 1) 25 #[.int .i64 0, .int .i64 0, .int .i64 0] := Blk.below (by (repeat (first | with_reducible assumption | (with_reducible apply Blk.new_at; (first | rfl | (simp; done))) | with_reducible apply Blk.store3 | with_reducible apply Blk.store4 | (with_reducible apply Blk.farp; (first | omega | (simp <;> omega))) | with_reducible apply Blk.allocp | with_reducible apply Blk.drew | with_reducible apply Blk.drewN))) hw1 (by omega)
  have cX2 := hX2.cell; have fX2 := hX2.frozen; have lX2 := hX2.lt
  have cR2 := hR2.cell; have fR2 := hR2.frozen; have lR2 := hR2.lt
  have hz1 := hw1.size
  clear hcc hff hss
  go_wp2
  exact bodyPost_ret (v := .agg #[.int .i64 e, .int .i64 a, .int .i64 R]) (by simp [results, Try.results39, go_sem, *]) rfl ⟨rfl, (by repeat (first | with_reducible exact Below.refl _ _ | with_reducible assumption | with_reducible apply Below.drew | with_reducible apply below_drewN | (with_reducible apply below_setp; (first | omega | (simp <;> omega))) | (with_reducible apply below_allocp; (first | omega | (simp <;> omega))) | (with_reducible refine below_viap (by assumption) ?_ ?_; (first | omega | (simp <;> omega)))))⟩
set_option maxRecDepth 100000 in
set_option maxHeartbeats 3200000 in
theorem unitIdeal_any (d : Int) (w : World) : Calls Try.prog 58 #[.int .i64 d] w fun x w' => x = .returned (.agg #[.int .i64 1, .int .i64 1, .int .i64 (d % 2)]) ∧ Below w.heap.size w w' := by
  have hM := Lib.hid (fun w => mod_any d 2 w (by omega) (by omega))
  generalize d % 2 = R at *
  go_enter Try.func58, Try.ntmps58
  go_wp2_with (go_at_call 95; (with_reducible refine (hM.out _).mono ?_); rintro e v ⟨rfl, rfl⟩)
  exact bodyPost_ret (v := .agg #[.int .i64 1, .int .i64 1, .int .i64 R]) (by simp [results, Try.results58, go_sem, *]) rfl ⟨rfl, (by repeat (first | with_reducible exact Below.refl _ _ | with_reducible assumption | with_reducible apply Below.drew | with_reducible apply below_drewN | (with_reducible apply below_setp; (first | omega | (simp <;> omega))) | (with_reducible apply below_allocp; (first | omega | (simp <;> omega))) | (with_reducible refine below_viap (by assumption) ?_ ?_; (first | omega | (simp <;> omega)))))⟩
set_option maxRecDepth 100000 in
set_option maxHeartbeats 3200000 in
theorem UnitIdeal_any (d : Int) (w : World) (h : isDisc d = true) : Calls Try.prog 18 #[.int .i64 d] w fun x w' => x = .returned (.tuple #[.agg #[.int .i64 1, .int .i64 1, .int .i64 (d % 2)], .bool true]) ∧ Below w.heap.size w w' := by
  have hN := Lib.hid (fun w => unitIdeal_any d w)
  generalize d % 2 = R at *
  go_enter Try.func18, Try.ntmps18
  go_wp2_with (first | (go_at_call 57; (with_reducible refine (negDisc_eq d true _ h).mono ?_); rintro e v ⟨rfl, rfl⟩) | (go_at_call 58; (with_reducible refine (hN.out _).mono ?_); rintro e v2 ⟨rfl, hB2⟩; have hZ2 := hB2.size; (try simp at hZ2); (try have zl2 : w.heap.size < v2.heap.size := by omega); (try have ze2 : w.heap.size ≤ v2.heap.size := by omega); (try have zn2 : ¬ w.heap.size = v2.heap.size := by omega); (try have zm2 : ¬ v2.heap.size = w.heap.size := by omega); have hR2 : Blk v2 (w.heap.size) 25 #[.int .i64 0, .int .i64 0, .int .i64 0] := Blk.call (by (repeat (first | with_reducible assumption | (with_reducible apply Blk.new_at; (first | rfl | (simp; done))) | with_reducible apply Blk.store3 | with_reducible apply Blk.store4 | (with_reducible apply Blk.farp; (first | omega | (simp <;> omega))) | with_reducible apply Blk.allocp | with_reducible apply Blk.drew | with_reducible apply Blk.drewN))) hB2; have cR2 := hR2.cell; have fR2 := hR2.frozen; have lR2 := hR2.lt; have mR2 := Nat.ne_of_gt lR2; have nR2 := Nat.ne_of_lt lR2))
  exact bodyPost_ret (v := .tuple #[.agg #[.int .i64 1, .int .i64 1, .int .i64 R], .bool true]) (by simp [results, Try.results18, go_sem, *]) rfl ⟨rfl, (by repeat (first | with_reducible exact Below.refl _ _ | with_reducible assumption | with_reducible apply Below.drew | with_reducible apply below_drewN | (with_reducible apply below_setp; (first | omega | (simp <;> omega))) | (with_reducible apply below_allocp; (first | omega | (simp <;> omega))) | (with_reducible refine below_viap (by assumption) ?_ ?_; (first | omega | (simp <;> omega)))))⟩
set_option maxRecDepth 100000 in
set_option maxHeartbeats 3200000 in
theorem form_any (d e a b c : Int) (w : World) (ha : 1 ≤ a ∧ a ≤ 10000) (hb : 0 ≤ b ∧ b ≤ 20000) (hd : -2000 ≤ d ∧ d ≤ 0) (hc : b * b - d = 4 * a * c) : Calls Try.prog 46 #[.agg #[.int .i64 e, .int .i64 a, .int .i64 b], .int .i64 d] w fun x w' => x = .returned (.agg #[.int .i64 a, .int .i64 b, .int .i64 c]) ∧ Below w.heap.size w w' := by
  have m1 := mul_bd (a := b) (x := b) (A := 20000) (X := 20000) (by omega) (by omega) (by omega) (by omega)
  have w1 : wrap64 (b * b) = b * b := IntWalk.wrap64_in _ (by omega)
  have w2 : wrap64 (b * b - d) = b * b - d := IntWalk.wrap64_in _ (by omega)
  have w3 : wrap64 (4 * a) = 4 * a := IntWalk.wrap64_in _ (by omega)
  have i1 : IntKind.i64.wrap (b * b) = b * b := IntWalk.i64_in _ (by omega)
  have i2 : IntKind.i64.wrap (b * b - d) = b * b - d := IntWalk.i64_in _ (by omega)
  have i3 : IntKind.i64.wrap (4 * a) = 4 * a := IntWalk.i64_in _ (by omega)
  have q0 : (b * b - d).tdiv (4 * a) = c := by rw [hc]; exact Int.mul_tdiv_cancel_left _ (by omega)
  have c0 : 0 ≤ c := by
    apply Classical.byContradiction; intro hn
    have : 4 * a * c ≤ 4 * a * (-1) := Int.mul_le_mul_of_nonneg_left (by omega) (by omega)
    have : 0 ≤ b * b := Int.mul_nonneg hb.1 hb.1
    omega
  have c1 : c ≤ 4 * a * c := by have := Int.mul_le_mul_of_nonneg_right (show 1 ≤ 4 * a by omega) c0; omega
  have q1 : wrap64 c = c := IntWalk.wrap64_in _ (by omega)
  have q2 : IntKind.i64.wrap c = c := IntWalk.i64_in _ (by omega)
  have z0 : (4 * a == 0) = false := beq_eq_false_iff_ne.2 (by omega)
  have z1 : (4 * a = 0) = False := by simp; omega
  clear hc m1 c1
  go_enter Try.func46, Try.ntmps46
  go_wp2
  go_region
  go_wp2
  exact bodyPost_ret (v := .agg #[.int .i64 a, .int .i64 b, .int .i64 c]) (by simp [results, Try.results46, go_sem, *]) rfl ⟨rfl, (by repeat (first | with_reducible exact Below.refl _ _ | with_reducible assumption | with_reducible apply Below.drew | with_reducible apply below_drewN | (with_reducible apply below_setp; (first | omega | (simp <;> omega))) | (with_reducible apply below_allocp; (first | omega | (simp <;> omega))) | (with_reducible refine below_viap (by assumption) ?_ ?_; (first | omega | (simp <;> omega)))))⟩
set_option maxRecDepth 100000 in
set_option maxHeartbeats 3200000 in
theorem idForm_any (d e a b c : Int) (w : World) (ha : 1 ≤ a ∧ a ≤ 10000) (hb : 0 ≤ b ∧ b ≤ 20000) (hd : -2000 ≤ d ∧ d ≤ 0) (hc : b * b - d = 4 * a * c) : Calls Try.prog 55 #[.int .i64 d, .agg #[.int .i64 e, .int .i64 a, .int .i64 b]] w fun x w' => x = .returned (.agg #[.int .i64 a, .int .i64 b, .int .i64 c]) ∧ Below w.heap.size w w' := by
  have m1 := mul_bd (a := b) (x := b) (A := 20000) (X := 20000) (by omega) (by omega) (by omega) (by omega)
  have w1 : wrap64 (b * b) = b * b := IntWalk.wrap64_in _ (by omega)
  have w2 : wrap64 (b * b - d) = b * b - d := IntWalk.wrap64_in _ (by omega)
  have w3 : wrap64 (4 * a) = 4 * a := IntWalk.wrap64_in _ (by omega)
  have i1 : IntKind.i64.wrap (b * b) = b * b := IntWalk.i64_in _ (by omega)
  have i2 : IntKind.i64.wrap (b * b - d) = b * b - d := IntWalk.i64_in _ (by omega)
  have i3 : IntKind.i64.wrap (4 * a) = 4 * a := IntWalk.i64_in _ (by omega)
  have q0 : (b * b - d).tdiv (4 * a) = c := by rw [hc]; exact Int.mul_tdiv_cancel_left _ (by omega)
  have c0 : 0 ≤ c := by
    apply Classical.byContradiction; intro hn
    have : 4 * a * c ≤ 4 * a * (-1) := Int.mul_le_mul_of_nonneg_left (by omega) (by omega)
    have : 0 ≤ b * b := Int.mul_nonneg hb.1 hb.1
    omega
  have c1 : c ≤ 4 * a * c := by have := Int.mul_le_mul_of_nonneg_right (show 1 ≤ 4 * a by omega) c0; omega
  have q1 : wrap64 c = c := IntWalk.wrap64_in _ (by omega)
  have q2 : IntKind.i64.wrap c = c := IntWalk.i64_in _ (by omega)
  have z0 : (4 * a == 0) = false := beq_eq_false_iff_ne.2 (by omega)
  have z1 : (4 * a = 0) = False := by simp; omega
  clear hc m1 c1
  go_enter Try.func55, Try.ntmps55
  go_wp2
  go_region
  go_wp2
  exact bodyPost_ret (v := .agg #[.int .i64 a, .int .i64 b, .int .i64 c]) (by simp [results, Try.results55, go_sem, *]) rfl ⟨rfl, (by repeat (first | with_reducible exact Below.refl _ _ | with_reducible assumption | with_reducible apply Below.drew | with_reducible apply below_drewN | (with_reducible apply below_setp; (first | omega | (simp <;> omega))) | (with_reducible apply below_allocp; (first | omega | (simp <;> omega))) | (with_reducible refine below_viap (by assumption) ?_ ?_; (first | omega | (simp <;> omega)))))⟩
end Go.Proofs.Ytjjkndgokdofdaa
