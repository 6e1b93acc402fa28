/- Contracts: Discriminant, ReduceForm, ComposeForms, OrderOf, InverseForm, IsIdentity, IsAmbiguousClass of the program, for class forms. -/
import Derived.Test.YteehcjjhkphdnaaGreatRM
import Derived.Test.YteehcjjhkphdnaaGreatUB
namespace Go.Proofs.YteehcjjhkphdnaaGreat
open Go.RowKit

theorem cls_fm {a b c : Int} (h : isCls a b c = true) : isFm a b c = true ∧ isDefB a b c = true := by
  unfold isCls isShown isDefB at h
  simp only [Bool.and_eq_true] at h
  refine ⟨h.1.1.1, ?_⟩
  unfold isDefB
  simp only [Bool.and_eq_true]
  exact h.1.1
theorem cls_def6 {a b c : Int} (h : isCls a b c = true) : Def 1000000 ⟨a, b, c⟩ := by
  have h0 := (cls_def h).1
  obtain ⟨⟨a1, a2⟩, ⟨b1, b2⟩, ⟨c1, c2⟩⟩ := isFm_bd (cls_fm h).1
  exact ⟨h0.a0, a2, h0.c0, c2, h0.d⟩
set_option maxHeartbeats 800000 in
theorem implDisc_c (a b c : Int) (w : World) (h : isCls a b c = true) :
    Calls Tryz.prog 53 #[.agg #[.int .i64 a, .int .i64 b, .int .i64 c]] w fun e w' => e = .returned (.tuple #[.int .i64 (disc ⟨a, b, c⟩), .bool true]) ∧ Below w.heap.size w w' := by
  have hF := Lib.hid (fun w => IsForm_any a b c w)
  rw [(cls_fm h).1] at hF
  have cf := CF.of_cls h
  have hD := Lib.hid (fun w => disc_cf _ _ _ w cf)
  dsimp only at hD
  clear cf h
  go_enter Tryz.func53, Tryz.ntmps53
  go_wp2_with (first
    | (go_at_call 132; (with_reducible refine (hF.out _).mono ?_); rintro e v1 ⟨rfl, hB1⟩; have hZ1 := hB1.size; (try simp at hZ1); (try have zl1 : w.heap.size < v1.heap.size := by omega); (try have ze1 : w.heap.size ≤ v1.heap.size := by omega); (try have zn1 : ¬ w.heap.size = v1.heap.size := by omega); (try have zm1 : ¬ v1.heap.size = w.heap.size := by omega); have hA1 : Blk v1 (w.heap.size) 36 #[.int .i64 a, .int .i64 b, .int .i64 c] := Blk.call (by (repeat (first | with_reducible assumption | (with_reducible apply Blk.new_at; (first | rfl | (simp; done))) | with_reducible apply Blk.store3 | with_reducible apply Blk.store4 | (with_reducible apply Blk.farp; (first | omega | (simp <;> omega))) | with_reducible apply Blk.allocp | with_reducible apply Blk.drew | with_reducible apply Blk.drewN))) hB1; have cA1 := hA1.cell; have fA1 := hA1.frozen; have lA1 := hA1.lt; have mA1 := Nat.ne_of_gt lA1; have nA1 := Nat.ne_of_lt lA1)
    | (go_at_call 109; (with_reducible refine (hD.out _).mono ?_); rintro e v2 ⟨rfl, hB2⟩; have hZ2 := hB2.size; (try simp at hZ2); (try have zl2 : w.heap.size < v2.heap.size := by omega); (try have ze2 : w.heap.size ≤ v2.heap.size := by omega); (try have zn2 : ¬ w.heap.size = v2.heap.size := by omega); (try have zm2 : ¬ v2.heap.size = w.heap.size := by omega); have hA2 : Blk v2 (w.heap.size) 36 #[.int .i64 a, .int .i64 b, .int .i64 c] := Blk.call (by (repeat (first | with_reducible assumption | (with_reducible apply Blk.new_at; (first | rfl | (simp; done))) | with_reducible apply Blk.store3 | with_reducible apply Blk.store4 | (with_reducible apply Blk.farp; (first | omega | (simp <;> omega))) | with_reducible apply Blk.allocp | with_reducible apply Blk.drew | with_reducible apply Blk.drewN))) hB2; have cA2 := hA2.cell; have fA2 := hA2.frozen; have lA2 := hA2.lt; have mA2 := Nat.ne_of_gt lA2; have nA2 := Nat.ne_of_lt lA2))
  go_ret2
  exact ⟨rfl, (by repeat (first | with_reducible exact Below.refl _ _ | with_reducible assumption | with_reducible apply Below.drew | with_reducible apply below_drewN | (with_reducible apply below_setp; (first | omega | (simp <;> omega))) | (with_reducible apply below_allocp; (first | omega | (simp <;> omega))) | (with_reducible refine below_viap (by assumption) ?_ ?_; (first | omega | (simp <;> omega)))))⟩
set_option maxHeartbeats 800000 in
theorem IsMatrix_any (p q r s : Int) (w : World) :
    Calls Tryz.prog 125 #[.agg #[.int .i64 p, .int .i64 q, .int .i64 r, .int .i64 s]] w fun e w' => e = .returned (.bool (isNum p && (isNum q && (isNum r && isNum s)))) ∧ Below w.heap.size w w' := by
  have hc : ∀ j, j < 4 → ((w.alloc (.cells #[.int .i64 p, .int .i64 q, .int .i64 r, .int .i64 s] 65)).alloc (.cells #[.int .i64 p, .int .i64 q, .int .i64 r, .int .i64 s] 3)).cell? ⟨w.heap.size + 1, j, none⟩ = some (.int .i64 ([p, q, r, s].getD j 0)) := by
    intro j hj
    match j, hj with
    | 0, _ => simp [go_sem]
    | 1, _ => simp [go_sem]
    | 2, _ => simp [go_sem]
    | 3, _ => simp [go_sem]
  have Hc := Lib.hid hc; clear hc
  go_enter Tryz.func125, Tryz.ntmps125
  go_wp2_with (go_at_call 144; refine (areNumbers_any (w.heap.size + 1) 4 4 [p, q, r, s] _ rfl (by omega) Hc.out).mono ?_; rintro e v ⟨rfl, rfl⟩)
  go_ret
  exact ⟨ret_bool (by simp), (by repeat (first | with_reducible exact Below.refl _ _ | with_reducible assumption | with_reducible apply Below.drew | with_reducible apply below_drewN | (with_reducible apply below_setp; (first | omega | (simp <;> omega))) | (with_reducible apply below_allocp; (first | omega | (simp <;> omega))) | (with_reducible refine below_viap (by assumption) ?_ ?_; (first | omega | (simp <;> omega)))))⟩
theorem isNum_sm {x : Int} (h : -1200 ≤ x ∧ x ≤ 1200) : isNum x = true := by rw [isNum_iff]; omega
set_option maxRecDepth 100000 in
set_option maxHeartbeats 1600000 in
theorem implReduce_d (a b c : Int) (w : World) (hd : isDefB a b c = true) (h6 : Def 1000000 ⟨a, b, c⟩) :
    Calls Tryz.prog 47 #[.agg #[.int .i64 a, .int .i64 b, .int .i64 c]] w fun e w' => e = .returned (.tuple #[.agg #[.int .i64 (red ⟨a, b, c⟩).a, .int .i64 (red ⟨a, b, c⟩).b, .int .i64 (red ⟨a, b, c⟩).c],
      .agg #[.int .i64 (redM ⟨a, b, c⟩ M4.one).p, .int .i64 (redM ⟨a, b, c⟩ M4.one).q, .int .i64 (redM ⟨a, b, c⟩ M4.one).r, .int .i64 (redM ⟨a, b, c⟩ M4.one).s], .bool true]) ∧ Below w.heap.size w w' := by
  have hF := Lib.hid (fun w => iisDef_any a b c w)
  have hR := Lib.hid (fun w => reduce_m ⟨a, b, c⟩ w h6)
  rw [hd] at hF
  obtain ⟨k1, k2, k3, k4⟩ := redM_bd h6
  have hM := Lib.hid (fun w => IsMatrix_any (redM ⟨a, b, c⟩ M4.one).p (redM ⟨a, b, c⟩ M4.one).q (redM ⟨a, b, c⟩ M4.one).r (redM ⟨a, b, c⟩ M4.one).s w)
  rw [isNum_sm k1, isNum_sm k2, isNum_sm k3, isNum_sm k4] at hM
  dsimp only at hR
  clear k1 k2 k3 k4 h6 hd
  generalize redM ⟨a, b, c⟩ M4.one = m at *
  generalize red ⟨a, b, c⟩ = g at *
  go_enter Tryz.func47, Tryz.ntmps47
  go_wp2_with (first
    | (go_at_call 123; (with_reducible refine (hF.out _).mono ?_); rintro e v1 ⟨rfl, hB1⟩; have hZ1 := hB1.size; (try simp at hZ1); (try have zl1 : w.heap.size < v1.heap.size := by omega); (try have ze1 : w.heap.size ≤ v1.heap.size := by omega); (try have zn1 : ¬ w.heap.size = v1.heap.size := by omega); (try have zm1 : ¬ v1.heap.size = w.heap.size := by omega); have hA1 : Blk v1 (w.heap.size) 36 #[.int .i64 a, .int .i64 b, .int .i64 c] := Blk.call (by (repeat (first | with_reducible assumption | (with_reducible apply Blk.new_at; (first | rfl | (simp; done))) | with_reducible apply Blk.store3 | with_reducible apply Blk.store4 | (with_reducible apply Blk.farp; (first | omega | (simp <;> omega))) | with_reducible apply Blk.allocp | with_reducible apply Blk.drew | with_reducible apply Blk.drewN))) hB1; have cA1 := hA1.cell; have fA1 := hA1.frozen; have lA1 := hA1.lt; have mA1 := Nat.ne_of_gt lA1; have nA1 := Nat.ne_of_lt lA1; have hR1 : Blk v1 (w.heap.size + 1) 36 #[.int .i64 0, .int .i64 0, .int .i64 0] := Blk.call (by (repeat (first | with_reducible assumption | (with_reducible apply Blk.new_at; (first | rfl | (simp; done))) | with_reducible apply Blk.store3 | with_reducible apply Blk.store4 | (with_reducible apply Blk.farp; (first | omega | (simp <;> omega))) | with_reducible apply Blk.allocp | with_reducible apply Blk.drew | with_reducible apply Blk.drewN))) hB1; have cR1 := hR1.cell; have fR1 := hR1.frozen; have lR1 := hR1.lt; have mR1 := Nat.ne_of_gt lR1; have nR1 := Nat.ne_of_lt lR1; have hS1 : Blk v1 (w.heap.size + 1 + 1) 65 #[.int .i64 0, .int .i64 0, .int .i64 0, .int .i64 0] := Blk.call (by (repeat (first | with_reducible assumption | (with_reducible apply Blk.new_at; (first | rfl | (simp; done))) | with_reducible apply Blk.store3 | with_reducible apply Blk.store4 | (with_reducible apply Blk.farp; (first | omega | (simp <;> omega))) | with_reducible apply Blk.allocp | with_reducible apply Blk.drew | with_reducible apply Blk.drewN))) hB1; have cS1 := hS1.cell; have fS1 := hS1.frozen; have lS1 := hS1.lt; have mS1 := Nat.ne_of_gt lS1; have nS1 := Nat.ne_of_lt lS1)
    | (go_at_call 124; (with_reducible refine (hR.out _).mono ?_); rintro e v2 ⟨rfl, hB2⟩; have hZ2 := hB2.size; (try simp at hZ2); (try have zl2 : w.heap.size < v2.heap.size := by omega); (try have ze2 : w.heap.size ≤ v2.heap.size := by omega); (try have zn2 : ¬ w.heap.size = v2.heap.size := by omega); (try have zm2 : ¬ v2.heap.size = w.heap.size := by omega); have hR2 : Blk v2 (w.heap.size + 1) 36 #[.int .i64 0, .int .i64 0, .int .i64 0] := Blk.call (by (repeat (first | with_reducible assumption | (with_reducible apply Blk.new_at; (first | rfl | (simp; done))) | with_reducible apply Blk.store3 | with_reducible apply Blk.store4 | (with_reducible apply Blk.farp; (first | omega | (simp <;> omega))) | with_reducible apply Blk.allocp | with_reducible apply Blk.drew | with_reducible apply Blk.drewN))) hB2; have cR2 := hR2.cell; have fR2 := hR2.frozen; have lR2 := hR2.lt; have mR2 := Nat.ne_of_gt lR2; have nR2 := Nat.ne_of_lt lR2; have hS2 : Blk v2 (w.heap.size + 1 + 1) 65 #[.int .i64 0, .int .i64 0, .int .i64 0, .int .i64 0] := Blk.call (by (repeat (first | with_reducible assumption | (with_reducible apply Blk.new_at; (first | rfl | (simp; done))) | with_reducible apply Blk.store3 | with_reducible apply Blk.store4 | (with_reducible apply Blk.farp; (first | omega | (simp <;> omega))) | with_reducible apply Blk.allocp | with_reducible apply Blk.drew | with_reducible apply Blk.drewN))) hB2; have cS2 := hS2.cell; have fS2 := hS2.frozen; have lS2 := hS2.lt; have mS2 := Nat.ne_of_gt lS2; have nS2 := Nat.ne_of_lt lS2)
    | (go_at_call 125; (with_reducible refine (hM.out _).mono ?_); rintro e v3 ⟨rfl, hB3⟩; have hZ3 := hB3.size; (try simp at hZ3); (try have zl3 : w.heap.size < v3.heap.size := by omega); (try have ze3 : w.heap.size ≤ v3.heap.size := by omega); (try have zn3 : ¬ w.heap.size = v3.heap.size := by omega); (try have zm3 : ¬ v3.heap.size = w.heap.size := by omega); have hR3 : Blk v3 (w.heap.size + 1) 36 #[.int .i64 0, .int .i64 0, .int .i64 0] := Blk.call (by (repeat (first | with_reducible assumption | (with_reducible apply Blk.new_at; (first | rfl | (simp; done))) | with_reducible apply Blk.store3 | with_reducible apply Blk.store4 | (with_reducible apply Blk.farp; (first | omega | (simp <;> omega))) | with_reducible apply Blk.allocp | with_reducible apply Blk.drew | with_reducible apply Blk.drewN))) hB3; have cR3 := hR3.cell; have fR3 := hR3.frozen; have lR3 := hR3.lt; have mR3 := Nat.ne_of_gt lR3; have nR3 := Nat.ne_of_lt lR3; have hS3 : Blk v3 (w.heap.size + 1 + 1) 65 #[.int .i64 0, .int .i64 0, .int .i64 0, .int .i64 0] := Blk.call (by (repeat (first | with_reducible assumption | (with_reducible apply Blk.new_at; (first | rfl | (simp; done))) | with_reducible apply Blk.store3 | with_reducible apply Blk.store4 | (with_reducible apply Blk.farp; (first | omega | (simp <;> omega))) | with_reducible apply Blk.allocp | with_reducible apply Blk.drew | with_reducible apply Blk.drewN))) hB3; have cS3 := hS3.cell; have fS3 := hS3.frozen; have lS3 := hS3.lt; have mS3 := Nat.ne_of_gt lS3; have nS3 := Nat.ne_of_lt lS3; have hG3 : Blk v3 (v2.heap.size) 36 #[.int .i64 g.a, .int .i64 g.b, .int .i64 g.c] := Blk.call (by (repeat (first | with_reducible assumption | (with_reducible apply Blk.new_at; (first | rfl | (simp; done))) | with_reducible apply Blk.store3 | with_reducible apply Blk.store4 | (with_reducible apply Blk.farp; (first | omega | (simp <;> omega))) | with_reducible apply Blk.allocp | with_reducible apply Blk.drew | with_reducible apply Blk.drewN))) hB3; have cG3 := hG3.cell; have fG3 := hG3.frozen; have lG3 := hG3.lt; have mG3 := Nat.ne_of_gt lG3; have nG3 := Nat.ne_of_lt lG3; have hM3 : Blk v3 (v2.heap.size + 1) 65 #[.int .i64 m.p, .int .i64 m.q, .int .i64 m.r, .int .i64 m.s] := Blk.call (by (repeat (first | with_reducible assumption | (with_reducible apply Blk.new_at; (first | rfl | (simp; done))) | with_reducible apply Blk.store3 | with_reducible apply Blk.store4 | (with_reducible apply Blk.farp; (first | omega | (simp <;> omega))) | with_reducible apply Blk.allocp | with_reducible apply Blk.drew | with_reducible apply Blk.drewN))) hB3; have cM3 := hM3.cell; have fM3 := hM3.frozen; have lM3 := hM3.lt; have mM3 := Nat.ne_of_gt lM3; have nM3 := Nat.ne_of_lt lM3))
  go_region
  go_wp2
  exact bodyPost_ret (v := .tuple #[.agg #[.int .i64 g.a, .int .i64 g.b, .int .i64 g.c], .agg #[.int .i64 m.p, .int .i64 m.q, .int .i64 m.r, .int .i64 m.s], .bool true]) (by simp [results, Tryz.results47, go_sem, *]) rfl ⟨rfl, (by repeat (first | with_reducible exact Below.refl _ _ | with_reducible assumption | with_reducible apply Below.drew | with_reducible apply below_drewN | (with_reducible apply below_setp; (first | omega | (simp <;> omega))) | (with_reducible apply below_allocp; (first | omega | (simp <;> omega))) | (with_reducible refine below_viap (by assumption) ?_ ?_; (first | omega | (simp <;> omega)))))⟩
/-- Whether two forms can be composed. -/
def pairB (f g : Fm) : Bool := isCls f.a f.b f.c && (isCls g.a g.b g.c && decide (disc f = disc g))
set_option maxRecDepth 100000 in
set_option maxHeartbeats 1600000 in
theorem arePair_any (f g : Fm) (w : World) :
    Calls Tryz.prog 133 #[.agg #[.int .i64 f.a, .int .i64 f.b, .int .i64 f.c], .agg #[.int .i64 g.a, .int .i64 g.b, .int .i64 g.c]] w fun e w' => e = .returned (.bool (pairB f g)) ∧ Below w.heap.size w w' := by
  unfold pairB
  have hIf := Lib.hid (fun w => icls_any f.a f.b f.c w)
  have hIg := Lib.hid (fun w => icls_any g.a g.b g.c w)
  cases hf : isCls f.a f.b f.c with
  | false =>
    rw [hf] at hIf
    go_enter Tryz.func133, Tryz.ntmps133
    go_wp2
    go_region_with (go_at_call 93; refine (hIf.out _).mono ?_; rintro e w1 ⟨rfl, hb⟩; have kA1 := fun o => (calm_cells hb).1 w.heap.size o (by first | omega | (simp <;> omega)); have kB1 := fun o => (calm_cells hb).1 (w.heap.size + 1) o (by first | omega | (simp <;> omega)); have kZ1 := hb.size; (try simp at kZ1))
    all_goals (go_wp2; go_ret; exact ⟨rfl, (by repeat (first | with_reducible exact Below.refl _ _ | with_reducible assumption | with_reducible apply Below.drew | with_reducible apply below_drewN | (with_reducible apply below_setp; (first | omega | (simp <;> omega))) | (with_reducible apply below_allocp; (first | omega | (simp <;> omega))) | (with_reducible refine below_viap (by assumption) ?_ ?_; (first | omega | (simp <;> omega)))))⟩)
  | true =>
    rw [hf] at hIf
    cases hg : isCls g.a g.b g.c with
    | false =>
      rw [hg] at hIg
      go_enter Tryz.func133, Tryz.ntmps133
      go_wp2
      go_region_with (first | (go_at_call 93; (with_reducible refine (hIf.out _).mono ?_); rintro e w1 ⟨rfl, hb⟩; have kA1 := fun o => (calm_cells hb).1 w.heap.size o (by first | omega | (simp <;> omega)); have kB1 := fun o => (calm_cells hb).1 (w.heap.size + 1) o (by first | omega | (simp <;> omega)); have kZ1 := hb.size; (try simp at kZ1)) | (go_at_call 93; (with_reducible refine (hIg.out _).mono ?_); rintro e w2 ⟨rfl, hb2⟩; have kA2 := fun o => (calm_cells hb2).1 w.heap.size o (by first | omega | (simp <;> omega)); have kB2 := fun o => (calm_cells hb2).1 (w.heap.size + 1) o (by first | omega | (simp <;> omega)); have kZ2 := hb2.size; (try simp at kZ2)))
      all_goals (go_wp2; go_ret; exact ⟨rfl, (by repeat (first | with_reducible exact Below.refl _ _ | with_reducible assumption | with_reducible apply Below.drew | with_reducible apply below_drewN | (with_reducible apply below_setp; (first | omega | (simp <;> omega))) | (with_reducible apply below_allocp; (first | omega | (simp <;> omega))) | (with_reducible refine below_viap (by assumption) ?_ ?_; (first | omega | (simp <;> omega)))))⟩)
    | true =>
      rw [hg] at hIg
      have cf : CF (disc f) f (red f) := CF.of_cls hf
      have cg : CF (disc g) g (red g) := CF.of_cls hg
      have hDf := Lib.hid (fun w => disc_cf _ _ _ w cf)
      have hDg := Lib.hid (fun w => disc_cf _ _ _ w cg)
      clear cf cg hf hg
      generalize disc f = x at *
      generalize disc g = y at *
      go_enter Tryz.func133, Tryz.ntmps133
      go_wp2
      go_region_with (first | (go_at_call 93; (with_reducible refine (hIf.out _).mono ?_); rintro e w1 ⟨rfl, hb⟩; have kA1 := fun o => (calm_cells hb).1 w.heap.size o (by first | omega | (simp <;> omega)); have kB1 := fun o => (calm_cells hb).1 (w.heap.size + 1) o (by first | omega | (simp <;> omega)); have kZ1 := hb.size; (try simp at kZ1)) | (go_at_call 93; (with_reducible refine (hIg.out _).mono ?_); rintro e w2 ⟨rfl, hb2⟩; have kA2 := fun o => (calm_cells hb2).1 w.heap.size o (by first | omega | (simp <;> omega)); have kB2 := fun o => (calm_cells hb2).1 (w.heap.size + 1) o (by first | omega | (simp <;> omega)); have kZ2 := hb2.size; (try simp at kZ2)) | (go_at_call 109; (with_reducible refine (hDf.out _).mono ?_); rintro e w3 ⟨rfl, hb3⟩; have kA3 := fun o => (calm_cells hb3).1 w.heap.size o (by first | omega | (simp <;> omega)); have kB3 := fun o => (calm_cells hb3).1 (w.heap.size + 1) o (by first | omega | (simp <;> omega)); have kZ3 := hb3.size; (try simp at kZ3)) | (go_at_call 109; (with_reducible refine (hDg.out _).mono ?_); rintro e w4 ⟨rfl, hb4⟩; have kZ4 := hb4.size; (try simp at kZ4)))
      all_goals (go_wp2; go_ret; exact ⟨ret_bool (by rw [Bool.true_and, Bool.true_and, Bool.eq_iff_iff, beq_iff_eq, decide_eq_true_iff]), (by repeat (first | with_reducible exact Below.refl _ _ | with_reducible assumption | with_reducible apply Below.drew | with_reducible apply below_drewN | (with_reducible apply below_setp; (first | omega | (simp <;> omega))) | (with_reducible apply below_allocp; (first | omega | (simp <;> omega))) | (with_reducible refine below_viap (by assumption) ?_ ?_; (first | omega | (simp <;> omega)))))⟩)
set_option maxRecDepth 100000 in
set_option maxHeartbeats 1600000 in
theorem implComp_c (f g : Fm) (w : World) (h : pairB f g = true) :
    Calls Tryz.prog 54 #[.agg #[.int .i64 f.a, .int .i64 f.b, .int .i64 f.c], .agg #[.int .i64 g.a, .int .i64 g.b, .int .i64 g.c]] w fun e w' =>
      e = .returned (.tuple #[.agg #[.int .i64 (cmp (disc f) (red f) (red g)).a, .int .i64 (cmp (disc f) (red f) (red g)).b, .int .i64 (cmp (disc f) (red f) (red g)).c], .bool true]) ∧ Below w.heap.size w w' := by
  have hP := Lib.hid (fun w => arePair_any f g w)
  rw [h] at hP
  unfold pairB at h
  simp only [Bool.and_eq_true, decide_eq_true_eq] at h
  obtain ⟨hf, hg, he⟩ := h
  have cf : CF (disc f) f (red f) := CF.of_cls hf
  have cg : CF (disc g) g (red g) := CF.of_cls hg
  rw [← he] at cg
  have hC := Lib.hid (fun w => compose_cf _ _ _ _ _ _ w cf cg rfl)
  generalize cmp (disc f) (red f) (red g) = r at *
  clear cf cg hf hg he
  go_enter Tryz.func54, Tryz.ntmps54
  go_wp2_with (first
    | (go_at_call 133; (with_reducible refine (hP.out _).mono ?_); rintro e v1 ⟨rfl, hB1⟩; have hZ1 := hB1.size; (try simp at hZ1); (try have zl1 : w.heap.size < v1.heap.size := by omega); (try have ze1 : w.heap.size ≤ v1.heap.size := by omega); (try have zn1 : ¬ w.heap.size = v1.heap.size := by omega); (try have zm1 : ¬ v1.heap.size = w.heap.size := by omega); have hA1 : Blk v1 (w.heap.size) 36 #[.int .i64 f.a, .int .i64 f.b, .int .i64 f.c] := Blk.call (by (repeat (first | with_reducible assumption | (with_reducible apply Blk.new_at; (first | rfl | (simp; done))) | with_reducible apply Blk.store3 | with_reducible apply Blk.store4 | (with_reducible apply Blk.farp; (first | omega | (simp <;> omega))) | with_reducible apply Blk.allocp | with_reducible apply Blk.drew | with_reducible apply Blk.drewN))) hB1; have cA1 := hA1.cell; have fA1 := hA1.frozen; have lA1 := hA1.lt; have mA1 := Nat.ne_of_gt lA1; have nA1 := Nat.ne_of_lt lA1; have hD1 : Blk v1 (w.heap.size + 1) 36 #[.int .i64 g.a, .int .i64 g.b, .int .i64 g.c] := Blk.call (by (repeat (first | with_reducible assumption | (with_reducible apply Blk.new_at; (first | rfl | (simp; done))) | with_reducible apply Blk.store3 | with_reducible apply Blk.store4 | (with_reducible apply Blk.farp; (first | omega | (simp <;> omega))) | with_reducible apply Blk.allocp | with_reducible apply Blk.drew | with_reducible apply Blk.drewN))) hB1; have cD1 := hD1.cell; have fD1 := hD1.frozen; have lD1 := hD1.lt; have mD1 := Nat.ne_of_gt lD1; have nD1 := Nat.ne_of_lt lD1; have hR1 : Blk v1 (w.heap.size + 1 + 1) 36 #[.int .i64 0, .int .i64 0, .int .i64 0] := Blk.call (by (repeat (first | with_reducible assumption | (with_reducible apply Blk.new_at; (first | rfl | (simp; done))) | with_reducible apply Blk.store3 | with_reducible apply Blk.store4 | (with_reducible apply Blk.farp; (first | omega | (simp <;> omega))) | with_reducible apply Blk.allocp | with_reducible apply Blk.drew | with_reducible apply Blk.drewN))) hB1; have cR1 := hR1.cell; have fR1 := hR1.frozen; have lR1 := hR1.lt; have mR1 := Nat.ne_of_gt lR1; have nR1 := Nat.ne_of_lt lR1)
    | (go_at_call 110; (with_reducible refine (hC.out _).mono ?_); rintro e v2 ⟨rfl, hB2⟩; have hZ2 := hB2.size; (try simp at hZ2); (try have zl2 : w.heap.size < v2.heap.size := by omega); (try have ze2 : w.heap.size ≤ v2.heap.size := by omega); (try have zn2 : ¬ w.heap.size = v2.heap.size := by omega); (try have zm2 : ¬ v2.heap.size = w.heap.size := by omega); have hR2 : Blk v2 (w.heap.size + 1 + 1) 36 #[.int .i64 0, .int .i64 0, .int .i64 0] := Blk.call (by (repeat (first | with_reducible assumption | (with_reducible apply Blk.new_at; (first | rfl | (simp; done))) | with_reducible apply Blk.store3 | with_reducible apply Blk.store4 | (with_reducible apply Blk.farp; (first | omega | (simp <;> omega))) | with_reducible apply Blk.allocp | with_reducible apply Blk.drew | with_reducible apply Blk.drewN))) hB2; have cR2 := hR2.cell; have fR2 := hR2.frozen; have lR2 := hR2.lt; have mR2 := Nat.ne_of_gt lR2; have nR2 := Nat.ne_of_lt lR2))
  exact bodyPost_ret (v := .tuple #[.agg #[.int .i64 r.a, .int .i64 r.b, .int .i64 r.c], .bool true]) (by simp [results, Tryz.results54, go_sem, *]) rfl ⟨rfl, (by repeat (first | with_reducible exact Below.refl _ _ | with_reducible assumption | with_reducible apply Below.drew | with_reducible apply below_drewN | (with_reducible apply below_setp; (first | omega | (simp <;> omega))) | (with_reducible apply below_allocp; (first | omega | (simp <;> omega))) | (with_reducible refine below_viap (by assumption) ?_ ?_; (first | omega | (simp <;> omega)))))⟩
set_option maxHeartbeats 800000 in
theorem implComp_no (f g : Fm) (w : World) (h : pairB f g = false) :
    Calls Tryz.prog 54 #[.agg #[.int .i64 f.a, .int .i64 f.b, .int .i64 f.c], .agg #[.int .i64 g.a, .int .i64 g.b, .int .i64 g.c]] w fun e w' =>
      e = .returned (.tuple #[.agg #[.int .i64 0, .int .i64 0, .int .i64 0], .bool false]) ∧ Below w.heap.size w w' := by
  have hP := Lib.hid (fun w => arePair_any f g w)
  rw [h] at hP
  clear h
  go_enter Tryz.func54, Tryz.ntmps54
  go_wp2_with (go_at_call 133; (with_reducible refine (hP.out _).mono ?_); rintro e v1 ⟨rfl, hB1⟩; have hZ1 := hB1.size; (try simp at hZ1); (try have zl1 : w.heap.size < v1.heap.size := by omega); (try have ze1 : w.heap.size ≤ v1.heap.size := by omega); (try have zn1 : ¬ w.heap.size = v1.heap.size := by omega); (try have zm1 : ¬ v1.heap.size = w.heap.size := by omega); have hR1 : Blk v1 (w.heap.size + 1 + 1) 36 #[.int .i64 0, .int .i64 0, .int .i64 0] := Blk.call (by (repeat (first | with_reducible assumption | (with_reducible apply Blk.new_at; (first | rfl | (simp; done))) | with_reducible apply Blk.store3 | with_reducible apply Blk.store4 | (with_reducible apply Blk.farp; (first | omega | (simp <;> omega))) | with_reducible apply Blk.allocp | with_reducible apply Blk.drew | with_reducible apply Blk.drewN))) hB1; have cR1 := hR1.cell; have fR1 := hR1.frozen; have lR1 := hR1.lt; have mR1 := Nat.ne_of_gt lR1; have nR1 := Nat.ne_of_lt lR1)
  exact bodyPost_ret (v := .tuple #[.agg #[.int .i64 0, .int .i64 0, .int .i64 0], .bool false]) (by simp [results, Tryz.results54, go_sem, *]) rfl ⟨rfl, (by repeat (first | with_reducible exact Below.refl _ _ | with_reducible assumption | with_reducible apply Below.drew | with_reducible apply below_drewN | (with_reducible apply below_setp; (first | omega | (simp <;> omega))) | (with_reducible apply below_allocp; (first | omega | (simp <;> omega))) | (with_reducible refine below_viap (by assumption) ?_ ?_; (first | omega | (simp <;> omega)))))⟩
end Go.Proofs.YteehcjjhkphdnaaGreat
