/- Contracts: the cubes of the reference (written by gen_QI.py). -/
import Derived.Test.YtjjkndgokdofdaaQH
import Derived.Test.YtjjkndgokdofdaaAL
import Derived.Test.YtjjkndgokdofdaaDX
import Derived.Test.YtjjkndgokdofdaaRG
namespace Go.Proofs.Ytjjkndgokdofdaa
open Go.RowKit

theorem own_lit_at {w : World} {B M n : Nat} {xs : Array Value} (L : List Int) (hN : M = w.heap.size) (hn : L.length = n) (hxs : (cellsI L).toArray = xs) (hB : B ≤ M) (hl : L.length ≤ 1000) :
    (w.alloc (.cells xs 3)).ownsRow B 3 1 (.slice (some ⟨M, 0, none⟩) n n) n (cellsI L) := by
  subst hN hn hxs
  exact own_lit L hB hl
set_option maxRecDepth 100000 in
set_option maxHeartbeats 6400000 in
theorem cuList_any (k : Cu) (w : World) : Calls Try.prog 101 #[.agg #[.int .i64 k.a, .int .i64 k.b, .int .i64 k.c, .int .i64 k.d, .int .i64 k.e, .int .i64 k.f, .int .i64 k.g, .int .i64 k.h]] w (RetI (cuL k) w) := by
  go_enter Try.func101, Try.ntmps101
  go_wp2
  go_ret
  exact ⟨_, rfl, own_lit_at (cuL k) (by simp) rfl rfl (by omega) (by simp [cuL]), (by repeat (first | with_reducible exact Below.refl _ _ | with_reducible assumption | with_reducible apply Below.drew | with_reducible apply below_drewN | (with_reducible apply below_setp; (first | omega | (simp <;> omega))) | (with_reducible apply below_allocp; (first | omega | (simp <;> omega))) | (with_reducible refine below_viap (by assumption) ?_ ?_; (first | omega | (simp <;> omega)))))⟩
set_option maxRecDepth 100000 in
set_option maxHeartbeats 6400000 in
theorem cuIn_any (k : Cu) (w : World) : Calls Try.prog 63 #[.agg #[.int .i64 k.a, .int .i64 k.b, .int .i64 k.c, .int .i64 k.d, .int .i64 k.e, .int .i64 k.f, .int .i64 k.g, .int .i64 k.h]] w fun e w' => e = .returned (.bool (cuB k)) ∧ Below w.heap.size w w' := by
  have hL := Lib.hid (fun w => cuList_any k w)
  have hA := Lib.hid (fun v B w h => l1All_any v B (cuL k) (-500) 500 w (by simp [cuL]) h)
  have e : inR (-500) 500 (cuL k) = cuB k := rfl
  rw [e] at hA
  clear e
  generalize cuB k = b at *
  go_enter Try.func63, Try.ntmps63
  go_wp2_with fail
  refine (hL.out _).mono ?_
  rintro e v1 ⟨vl, rfl, ho1, hB1⟩
  have hZ1 := hB1.size
  (try simp at hZ1)
  go_wp2_with fail
  refine (hA.out _ _ _ ho1).mono ?_
  rintro e v2 ⟨rfl, rfl⟩
  clear ho1
  go_wp2
  go_ret
  exact ⟨rfl, (by repeat (first | with_reducible exact Below.refl _ _ | with_reducible assumption | with_reducible apply Below.drew | with_reducible apply below_drewN | (with_reducible apply below_setp; (first | omega | (simp <;> omega))) | (with_reducible apply below_allocp; (first | omega | (simp <;> omega))) | (with_reducible refine below_viap (by assumption) ?_ ?_; (first | omega | (simp <;> omega)))))⟩
set_option maxRecDepth 100000 in
set_option maxHeartbeats 6400000 in
theorem cuTurn_any (k : Cu) (w : World) : Calls Try.prog 103 #[.agg #[.int .i64 k.a, .int .i64 k.b, .int .i64 k.c, .int .i64 k.d, .int .i64 k.e, .int .i64 k.f, .int .i64 k.g, .int .i64 k.h]] w fun e w' => e = .returned (.agg #[.int .i64 ((cuT k).a), .int .i64 ((cuT k).b), .int .i64 ((cuT k).c), .int .i64 ((cuT k).d), .int .i64 ((cuT k).e), .int .i64 ((cuT k).f), .int .i64 ((cuT k).g), .int .i64 ((cuT k).h)]) ∧ Below w.heap.size w w' := by
  show Calls _ _ _ _ fun e w' => e = .returned (.agg #[.int .i64 k.a, .int .i64 k.c, .int .i64 k.e, .int .i64 k.g, .int .i64 k.b, .int .i64 k.d, .int .i64 k.f, .int .i64 k.h]) ∧ Below w.heap.size w w'
  go_enter Try.func103, Try.ntmps103
  go_wp2
  exact bodyPost_ret (v := .agg #[.int .i64 k.a, .int .i64 k.c, .int .i64 k.e, .int .i64 k.g, .int .i64 k.b, .int .i64 k.d, .int .i64 k.f, .int .i64 k.h]) (by simp [results, Try.results103, go_sem, *]) rfl ⟨rfl, (by repeat (first | with_reducible exact Below.refl _ _ | with_reducible assumption | with_reducible apply Below.drew | with_reducible apply below_drewN | (with_reducible apply below_setp; (first | omega | (simp <;> omega))) | (with_reducible apply below_allocp; (first | omega | (simp <;> omega))) | (with_reducible refine below_viap (by assumption) ?_ ?_; (first | omega | (simp <;> omega)))))⟩
set_option maxRecDepth 100000 in
set_option maxHeartbeats 6400000 in
theorem cuForm_any (k : Cu) (w : World) (V : CuV k) : Calls Try.prog 102 #[.agg #[.int .i64 k.a, .int .i64 k.b, .int .i64 k.c, .int .i64 k.d, .int .i64 k.e, .int .i64 k.f, .int .i64 k.g, .int .i64 k.h]] w fun e w' => e = .returned (.agg #[.int .i64 ((cuF k).a), .int .i64 ((cuF k).b), .int .i64 ((cuF k).c)]) ∧ Below w.heap.size w w' := by
  have m0 := bd5_mul (x := k.b) (y := k.c) ⟨V.b1, V.b2⟩ ⟨V.c1, V.c2⟩
  have m1 := bd5_mul (x := k.a) (y := k.d) ⟨V.a1, V.a2⟩ ⟨V.d1, V.d2⟩
  have m2 := bd5_mul (x := k.a) (y := k.h) ⟨V.a1, V.a2⟩ ⟨V.h1, V.h2⟩
  have m3 := bd5_mul (x := k.d) (y := k.e) ⟨V.d1, V.d2⟩ ⟨V.e1, V.e2⟩
  have m4 := bd5_mul (x := k.b) (y := k.g) ⟨V.b1, V.b2⟩ ⟨V.g1, V.g2⟩
  have m5 := bd5_mul (x := k.c) (y := k.f) ⟨V.c1, V.c2⟩ ⟨V.f1, V.f2⟩
  have m6 := bd5_mul (x := k.f) (y := k.g) ⟨V.f1, V.f2⟩ ⟨V.g1, V.g2⟩
  have m7 := bd5_mul (x := k.e) (y := k.h) ⟨V.e1, V.e2⟩ ⟨V.h1, V.h2⟩
  have W0 := Lib.hid (show wrap64 (k.b * k.c) = k.b * k.c from IntWalk.wrap64_in _ (by omega))
  have W1 := Lib.hid (show wrap64 (k.a * k.d) = k.a * k.d from IntWalk.wrap64_in _ (by omega))
  have W2 := Lib.hid (show wrap64 (k.a * k.h) = k.a * k.h from IntWalk.wrap64_in _ (by omega))
  have W3 := Lib.hid (show wrap64 (k.d * k.e) = k.d * k.e from IntWalk.wrap64_in _ (by omega))
  have W4 := Lib.hid (show wrap64 (k.b * k.g) = k.b * k.g from IntWalk.wrap64_in _ (by omega))
  have W5 := Lib.hid (show wrap64 (k.c * k.f) = k.c * k.f from IntWalk.wrap64_in _ (by omega))
  have W6 := Lib.hid (show wrap64 (k.f * k.g) = k.f * k.g from IntWalk.wrap64_in _ (by omega))
  have W7 := Lib.hid (show wrap64 (k.e * k.h) = k.e * k.h from IntWalk.wrap64_in _ (by omega))
  have W8 := Lib.hid (show wrap64 (k.b * k.c - k.a * k.d) = k.b * k.c - k.a * k.d from IntWalk.wrap64_in _ (by omega))
  have W9 := Lib.hid (show wrap64 (k.a * k.h + k.d * k.e) = k.a * k.h + k.d * k.e from IntWalk.wrap64_in _ (by omega))
  have W10 := Lib.hid (show wrap64 (k.a * k.h + k.d * k.e - k.b * k.g) = k.a * k.h + k.d * k.e - k.b * k.g from IntWalk.wrap64_in _ (by omega))
  have W11 := Lib.hid (show wrap64 (k.a * k.h + k.d * k.e - k.b * k.g - k.c * k.f) = k.a * k.h + k.d * k.e - k.b * k.g - k.c * k.f from IntWalk.wrap64_in _ (by omega))
  have W12 := Lib.hid (show wrap64 (k.f * k.g - k.e * k.h) = k.f * k.g - k.e * k.h from IntWalk.wrap64_in _ (by omega))
  have w0 := W0.out
  have w1 := W1.out
  have w2 := W2.out
  have w3 := W3.out
  have w4 := W4.out
  have w5 := W5.out
  have w6 := W6.out
  have w7 := W7.out
  have w8 := W8.out
  have w9 := W9.out
  have w10 := W10.out
  have w11 := W11.out
  have w12 := W12.out
  clear m0 m1 m2 m3 m4 m5 m6 m7 V
  show Calls _ _ _ _ fun e w' => e = .returned (.agg #[.int .i64 (k.b * k.c - k.a * k.d), .int .i64 (k.a * k.h + k.d * k.e - k.b * k.g - k.c * k.f), .int .i64 (k.f * k.g - k.e * k.h)]) ∧ Below w.heap.size w w'
  go_enter Try.func102, Try.ntmps102
  go_wp2
  exact bodyPost_ret (v := .agg #[.int .i64 (k.b * k.c - k.a * k.d), .int .i64 (k.a * k.h + k.d * k.e - k.b * k.g - k.c * k.f), .int .i64 (k.f * k.g - k.e * k.h)]) (by simp [results, Try.results102, go_sem, *]) rfl ⟨rfl, (by repeat (first | with_reducible exact Below.refl _ _ | with_reducible assumption | with_reducible apply Below.drew | with_reducible apply below_drewN | (with_reducible apply below_setp; (first | omega | (simp <;> omega))) | (with_reducible apply below_allocp; (first | omega | (simp <;> omega))) | (with_reducible refine below_viap (by assumption) ?_ ?_; (first | omega | (simp <;> omega)))))⟩
/-- What the reference's list of forms is. -/
def RetF3 (k : Cu) (w : World) (e : Ending) (w' : World) : Prop := ∃ g : Nat, e = .returned (.slice (some ⟨g, 0, none⟩) 3 3) ∧ Blk w' g 33 #[.int .i64 ((cuF k).a), .int .i64 ((cuF k).b), .int .i64 ((cuF k).c), .int .i64 ((cuF2 k).a), .int .i64 ((cuF2 k).b), .int .i64 ((cuF2 k).c), .int .i64 ((cuF3 k).a), .int .i64 ((cuF3 k).b), .int .i64 ((cuF3 k).c)] ∧ Below w.heap.size w w' ∧ w.heap.size ≤ g
set_option maxRecDepth 100000 in
set_option maxHeartbeats 6400000 in
theorem cuForms_any (k : Cu) (w : World) (V : CuV k) : Calls Try.prog 64 #[.agg #[.int .i64 k.a, .int .i64 k.b, .int .i64 k.c, .int .i64 k.d, .int .i64 k.e, .int .i64 k.f, .int .i64 k.g, .int .i64 k.h]] w (RetF3 k w) := by
  have hF := Lib.hid (fun w => cuForm_any k w V)
  have hG := Lib.hid (fun w => cuForm_any (cuT k) w V.turn)
  have hU := Lib.hid (fun w => cuForm_any (cuT (cuT k)) w V.turn.turn)
  have hT := Lib.hid (fun w => cuTurn_any k w)
  have hS := Lib.hid (fun w => cuTurn_any (cuT k) w)
  unfold RetF3 cuF2 cuF3
  clear V
  go_enter Try.func64, Try.ntmps64
  go_wp2
  refine wp_region_calm 9 (Below (w.heap.size + 1) _) (by kernel_rfl) (by kernel_rfl) ((Below.refl _ _).drew) ?_
  simp only [List.take_succ_cons, List.take_zero, List.drop_succ_cons, List.drop_zero]
  repeat (first | (apply wpCalm_go; go_simp; (intro w' hw' hcc hff; go_simp; first | exact rfl | ((with_reducible refine (hF.out _).mono ?_); rintro ee w1 ⟨rfl, hb⟩; exact ⟨rfl, calm_call (by simp <;> omega) hw' hb⟩) | ((with_reducible refine (hG.out _).mono ?_); rintro ee w1 ⟨rfl, hb⟩; exact ⟨rfl, calm_call (by simp <;> omega) hw' hb⟩) | ((with_reducible refine (hU.out _).mono ?_); rintro ee w1 ⟨rfl, hb⟩; exact ⟨rfl, calm_call (by simp <;> omega) hw' hb⟩) | ((with_reducible refine (hT.out _).mono ?_); rintro ee w1 ⟨rfl, hb⟩; exact ⟨rfl, calm_call (by simp <;> omega) hw' hb⟩) | ((with_reducible refine (hS.out _).mono ?_); rintro ee w1 ⟨rfl, hb⟩; exact ⟨rfl, calm_call (by simp <;> omega) hw' hb⟩)); (intro K hK; go_simp; refine hK _ ?_; clear hK K)) | (apply wpCalm_skip; go_simp; (try (focus (simp [undef]; done))); (intro K hK; go_simp; refine hK _ ?_; clear hK K)))
  refine wpCalm_nil ?_
  intro w1 hw1
  have hcc := (calm_cells hw1).1
  have hff := (calm_cells hw1).2
  have hss := calm_size hw1
  have hsz := hw1.size
  (try simp at hsz)
  clear hcc hff hss
  go_wp2
  go_ret
  exact ⟨_, rfl, Blk.new_at rfl, (by repeat (first | with_reducible exact Below.refl _ _ | with_reducible assumption | with_reducible apply Below.drew | with_reducible apply below_drewN | (with_reducible apply below_setp; (first | omega | (simp <;> omega))) | (with_reducible apply below_allocp; (first | omega | (simp <;> omega))) | (with_reducible refine below_viap (by assumption) ?_ ?_; (first | omega | (simp <;> omega))))), by omega⟩
set_option maxRecDepth 100000 in
set_option maxHeartbeats 6400000 in
theorem specCF_no (k : Cu) (w : World) (h : cuB k = false) : Calls Try.prog 21 #[.agg #[.int .i64 k.a, .int .i64 k.b, .int .i64 k.c, .int .i64 k.d, .int .i64 k.e, .int .i64 k.f, .int .i64 k.g, .int .i64 k.h]] w fun e w' => e = .returned (.tuple #[.agg #[.int .i64 0, .int .i64 0, .int .i64 0], .agg #[.int .i64 0, .int .i64 0, .int .i64 0], .agg #[.int .i64 0, .int .i64 0, .int .i64 0], .bool false]) ∧ Below w.heap.size w w' := by
  have hI := Lib.hid (fun w => cuIn_any k w)
  rw [h] at hI
  clear h
  go_enter Try.func21, Try.ntmps21
  go_wp2_with (go_at_call 63; (with_reducible refine (hI.out _).mono ?_); rintro e v1 ⟨rfl, hB1⟩; have hZ1 := hB1.size; (try simp at hZ1); (try have zl1 : w.heap.size < v1.heap.size := by omega); (try have ze1 : w.heap.size ≤ v1.heap.size := by omega); (try have zn1 : ¬ w.heap.size = v1.heap.size := by omega); (try have zm1 : ¬ v1.heap.size = w.heap.size := by omega); have hX1 : Blk v1 (w.heap.size) 45 #[.int .i64 k.a, .int .i64 k.b, .int .i64 k.c, .int .i64 k.d, .int .i64 k.e, .int .i64 k.f, .int .i64 k.g, .int .i64 k.h] := Blk.call (by (repeat (first | with_reducible assumption | (with_reducible apply Blk.new_at; (first | rfl | (simp; done))) | with_reducible apply Blk.store3 | with_reducible apply Blk.store4 | (with_reducible apply Blk.farp; (first | omega | (simp <;> omega))) | with_reducible apply Blk.allocp | with_reducible apply Blk.drew | with_reducible apply Blk.drewN))) hB1; have cX1 := hX1.cell; have fX1 := hX1.frozen; have lX1 := hX1.lt; have mX1 := Nat.ne_of_gt lX1; have nX1 := Nat.ne_of_lt lX1; have hR1 : Blk v1 (w.heap.size + 1) 33 #[.int .i64 0, .int .i64 0, .int .i64 0] := Blk.call (by (repeat (first | with_reducible assumption | (with_reducible apply Blk.new_at; (first | rfl | (simp; done))) | with_reducible apply Blk.store3 | with_reducible apply Blk.store4 | (with_reducible apply Blk.farp; (first | omega | (simp <;> omega))) | with_reducible apply Blk.allocp | with_reducible apply Blk.drew | with_reducible apply Blk.drewN))) hB1; have cR1 := hR1.cell; have fR1 := hR1.frozen; have lR1 := hR1.lt; have mR1 := Nat.ne_of_gt lR1; have nR1 := Nat.ne_of_lt lR1; have hS1 : Blk v1 (w.heap.size + 1 + 1) 33 #[.int .i64 0, .int .i64 0, .int .i64 0] := Blk.call (by (repeat (first | with_reducible assumption | (with_reducible apply Blk.new_at; (first | rfl | (simp; done))) | with_reducible apply Blk.store3 | with_reducible apply Blk.store4 | (with_reducible apply Blk.farp; (first | omega | (simp <;> omega))) | with_reducible apply Blk.allocp | with_reducible apply Blk.drew | with_reducible apply Blk.drewN))) hB1; have cS1 := hS1.cell; have fS1 := hS1.frozen; have lS1 := hS1.lt; have mS1 := Nat.ne_of_gt lS1; have nS1 := Nat.ne_of_lt lS1; have hT1 : Blk v1 (w.heap.size + 1 + 1 + 1) 33 #[.int .i64 0, .int .i64 0, .int .i64 0] := Blk.call (by (repeat (first | with_reducible assumption | (with_reducible apply Blk.new_at; (first | rfl | (simp; done))) | with_reducible apply Blk.store3 | with_reducible apply Blk.store4 | (with_reducible apply Blk.farp; (first | omega | (simp <;> omega))) | with_reducible apply Blk.allocp | with_reducible apply Blk.drew | with_reducible apply Blk.drewN))) hB1; have cT1 := hT1.cell; have fT1 := hT1.frozen; have lT1 := hT1.lt; have mT1 := Nat.ne_of_gt lT1; have nT1 := Nat.ne_of_lt lT1)
  exact bodyPost_ret (v := .tuple #[.agg #[.int .i64 0, .int .i64 0, .int .i64 0], .agg #[.int .i64 0, .int .i64 0, .int .i64 0], .agg #[.int .i64 0, .int .i64 0, .int .i64 0], .bool false]) (by simp [results, Try.results21, go_sem, *]) rfl ⟨rfl, (by repeat (first | with_reducible exact Below.refl _ _ | with_reducible assumption | with_reducible apply Below.drew | with_reducible apply below_drewN | (with_reducible apply below_setp; (first | omega | (simp <;> omega))) | (with_reducible apply below_allocp; (first | omega | (simp <;> omega))) | (with_reducible refine below_viap (by assumption) ?_ ?_; (first | omega | (simp <;> omega)))))⟩
set_option maxRecDepth 100000 in
set_option maxHeartbeats 6400000 in
theorem specCF_yes (k : Cu) (w : World) (h : cuB k = true) : Calls Try.prog 21 #[.agg #[.int .i64 k.a, .int .i64 k.b, .int .i64 k.c, .int .i64 k.d, .int .i64 k.e, .int .i64 k.f, .int .i64 k.g, .int .i64 k.h]] w fun e w' => e = .returned (.tuple #[.agg #[.int .i64 ((cuF k).a), .int .i64 ((cuF k).b), .int .i64 ((cuF k).c)], .agg #[.int .i64 ((cuF2 k).a), .int .i64 ((cuF2 k).b), .int .i64 ((cuF2 k).c)], .agg #[.int .i64 ((cuF3 k).a), .int .i64 ((cuF3 k).b), .int .i64 ((cuF3 k).c)], .bool true]) ∧ Below w.heap.size w w' := by
  have hI := Lib.hid (fun w => cuIn_any k w)
  rw [h] at hI
  have hF := Lib.hid (fun w => cuForms_any k w (cuB_v h))
  clear h
  unfold RetF3 at hF
  generalize cuF k = f at *
  generalize cuF2 k = g at *
  generalize cuF3 k = u at *
  go_enter Try.func21, Try.ntmps21
  go_wp2_with (go_at_call 63; (with_reducible refine (hI.out _).mono ?_); rintro e v1 ⟨rfl, hB1⟩; have hZ1 := hB1.size; (try simp at hZ1); (try have zl1 : w.heap.size < v1.heap.size := by omega); (try have ze1 : w.heap.size ≤ v1.heap.size := by omega); (try have zn1 : ¬ w.heap.size = v1.heap.size := by omega); (try have zm1 : ¬ v1.heap.size = w.heap.size := by omega); have hX1 : Blk v1 (w.heap.size) 45 #[.int .i64 k.a, .int .i64 k.b, .int .i64 k.c, .int .i64 k.d, .int .i64 k.e, .int .i64 k.f, .int .i64 k.g, .int .i64 k.h] := Blk.call (by (repeat (first | with_reducible assumption | (with_reducible apply Blk.new_at; (first | rfl | (simp; done))) | with_reducible apply Blk.store3 | with_reducible apply Blk.store4 | (with_reducible apply Blk.farp; (first | omega | (simp <;> omega))) | with_reducible apply Blk.allocp | with_reducible apply Blk.drew | with_reducible apply Blk.drewN))) hB1; have cX1 := hX1.cell; have fX1 := hX1.frozen; have lX1 := hX1.lt; have mX1 := Nat.ne_of_gt lX1; have nX1 := Nat.ne_of_lt lX1; have hR1 : Blk v1 (w.heap.size + 1) 33 #[.int .i64 0, .int .i64 0, .int .i64 0] := Blk.call (by (repeat (first | with_reducible assumption | (with_reducible apply Blk.new_at; (first | rfl | (simp; done))) | with_reducible apply Blk.store3 | with_reducible apply Blk.store4 | (with_reducible apply Blk.farp; (first | omega | (simp <;> omega))) | with_reducible apply Blk.allocp | with_reducible apply Blk.drew | with_reducible apply Blk.drewN))) hB1; have cR1 := hR1.cell; have fR1 := hR1.frozen; have lR1 := hR1.lt; have mR1 := Nat.ne_of_gt lR1; have nR1 := Nat.ne_of_lt lR1; have hS1 : Blk v1 (w.heap.size + 1 + 1) 33 #[.int .i64 0, .int .i64 0, .int .i64 0] := Blk.call (by (repeat (first | with_reducible assumption | (with_reducible apply Blk.new_at; (first | rfl | (simp; done))) | with_reducible apply Blk.store3 | with_reducible apply Blk.store4 | (with_reducible apply Blk.farp; (first | omega | (simp <;> omega))) | with_reducible apply Blk.allocp | with_reducible apply Blk.drew | with_reducible apply Blk.drewN))) hB1; have cS1 := hS1.cell; have fS1 := hS1.frozen; have lS1 := hS1.lt; have mS1 := Nat.ne_of_gt lS1; have nS1 := Nat.ne_of_lt lS1; have hT1 : Blk v1 (w.heap.size + 1 + 1 + 1) 33 #[.int .i64 0, .int .i64 0, .int .i64 0] := Blk.call (by (repeat (first | with_reducible assumption | (with_reducible apply Blk.new_at; (first | rfl | (simp; done))) | with_reducible apply Blk.store3 | with_reducible apply Blk.store4 | (with_reducible apply Blk.farp; (first | omega | (simp <;> omega))) | with_reducible apply Blk.allocp | with_reducible apply Blk.drew | with_reducible apply Blk.drewN))) hB1; have cT1 := hT1.cell; have fT1 := hT1.frozen; have lT1 := hT1.lt; have mT1 := Nat.ne_of_gt lT1; have nT1 := Nat.ne_of_lt lT1)
  refine (hF.out _).mono ?_
  rintro e v2 ⟨q, rfl, hQ, hB2, hq⟩
  have hZ2 := hB2.size
  (try simp at hZ2)
  (try simp at hq)
  have cQ := hQ.cell; have fQ := hQ.frozen; have lQ := hQ.lt; have mQ := Nat.ne_of_gt lQ; have nQ := Nat.ne_of_lt lQ
  have hX2 : Blk v2 (w.heap.size) 45 #[.int .i64 k.a, .int .i64 k.b, .int .i64 k.c, .int .i64 k.d, .int .i64 k.e, .int .i64 k.f, .int .i64 k.g, .int .i64 k.h] := Blk.call (by (repeat (first | with_reducible assumption | (with_reducible apply Blk.new_at; (first | rfl | (simp; done))) | with_reducible apply Blk.store3 | with_reducible apply Blk.store4 | (with_reducible apply Blk.farp; (first | omega | (simp <;> omega))) | with_reducible apply Blk.allocp | with_reducible apply Blk.drew | with_reducible apply Blk.drewN))) hB2; have cX2 := hX2.cell; have fX2 := hX2.frozen; have lX2 := hX2.lt; have mX2 := Nat.ne_of_gt lX2; have nX2 := Nat.ne_of_lt lX2
  have hR2 : Blk v2 (w.heap.size + 1) 33 #[.int .i64 0, .int .i64 0, .int .i64 0] := Blk.call (by (repeat (first | with_reducible assumption | (with_reducible apply Blk.new_at; (first | rfl | (simp; done))) | with_reducible apply Blk.store3 | with_reducible apply Blk.store4 | (with_reducible apply Blk.farp; (first | omega | (simp <;> omega))) | with_reducible apply Blk.allocp | with_reducible apply Blk.drew | with_reducible apply Blk.drewN))) hB2; have cR2 := hR2.cell; have fR2 := hR2.frozen; have lR2 := hR2.lt; have mR2 := Nat.ne_of_gt lR2; have nR2 := Nat.ne_of_lt lR2
  have hS2 : Blk v2 (w.heap.size + 1 + 1) 33 #[.int .i64 0, .int .i64 0, .int .i64 0] := Blk.call (by (repeat (first | with_reducible assumption | (with_reducible apply Blk.new_at; (first | rfl | (simp; done))) | with_reducible apply Blk.store3 | with_reducible apply Blk.store4 | (with_reducible apply Blk.farp; (first | omega | (simp <;> omega))) | with_reducible apply Blk.allocp | with_reducible apply Blk.drew | with_reducible apply Blk.drewN))) hB2; have cS2 := hS2.cell; have fS2 := hS2.frozen; have lS2 := hS2.lt; have mS2 := Nat.ne_of_gt lS2; have nS2 := Nat.ne_of_lt lS2
  have hT2 : Blk v2 (w.heap.size + 1 + 1 + 1) 33 #[.int .i64 0, .int .i64 0, .int .i64 0] := Blk.call (by (repeat (first | with_reducible assumption | (with_reducible apply Blk.new_at; (first | rfl | (simp; done))) | with_reducible apply Blk.store3 | with_reducible apply Blk.store4 | (with_reducible apply Blk.farp; (first | omega | (simp <;> omega))) | with_reducible apply Blk.allocp | with_reducible apply Blk.drew | with_reducible apply Blk.drewN))) hB2; have cT2 := hT2.cell; have fT2 := hT2.frozen; have lT2 := hT2.lt; have mT2 := Nat.ne_of_gt lT2; have nT2 := Nat.ne_of_lt lT2
  have n1 : ¬ q = w.heap.size := by omega
  have n2 : ¬ q = w.heap.size + 1 := by omega
  have n3 : ¬ q = w.heap.size + 1 + 1 := by omega
  have n4 : ¬ q = w.heap.size + 1 + 1 + 1 := by omega
  have hb2 : Below w.heap.size w v2 := (by repeat (first | with_reducible exact Below.refl _ _ | with_reducible assumption | with_reducible apply Below.drew | with_reducible apply below_drewN | (with_reducible apply below_setp; (first | omega | (simp <;> omega))) | (with_reducible apply below_allocp; (first | omega | (simp <;> omega))) | (with_reducible refine below_viap (by assumption) ?_ ?_; (first | omega | (simp <;> omega)))))
  clear hB2 hB1 hX1 cX1 fX1 lX1 mX1 nX1 hR1 cR1 fR1 lR1 mR1 nR1 hS1 cS1 fS1 lS1 mS1 nS1 hT1 cT1 fT1 lT1 mT1 nT1
  go_wp2_with fail
  go_region_held3 (fun w' => w'.cell? ⟨q, 0, none⟩ = some (.int .i64 (f.a)) ∧ w'.cell? ⟨q, 1, none⟩ = some (.int .i64 (f.b)) ∧ w'.cell? ⟨q, 2, none⟩ = some (.int .i64 (f.c)) ∧ w'.cell? ⟨q, 3, none⟩ = some (.int .i64 (g.a)) ∧ w'.cell? ⟨q, 4, none⟩ = some (.int .i64 (g.b)) ∧ w'.cell? ⟨q, 5, none⟩ = some (.int .i64 (g.c)) ∧ w'.cell? ⟨q, 6, none⟩ = some (.int .i64 (u.a)) ∧ w'.cell? ⟨q, 7, none⟩ = some (.int .i64 (u.b)) ∧ w'.cell? ⟨q, 8, none⟩ = some (.int .i64 (u.c))) (first | (go_keep; done) | (go_simp; done)) (fail)
  all_goals
    go_wp2
    exact bodyPost_ret (v := .tuple #[.agg #[.int .i64 f.a, .int .i64 f.b, .int .i64 f.c], .agg #[.int .i64 g.a, .int .i64 g.b, .int .i64 g.c], .agg #[.int .i64 u.a, .int .i64 u.b, .int .i64 u.c], .bool true]) (by simp [results, Try.results21, go_sem, *]) rfl ⟨rfl, (by repeat (first | with_reducible exact Below.refl _ _ | with_reducible assumption | with_reducible apply Below.drew | with_reducible apply below_drewN | (with_reducible apply below_setp; (first | omega | (simp <;> omega))) | (with_reducible apply below_allocp; (first | omega | (simp <;> omega))) | (with_reducible refine below_viap (by assumption) ?_ ?_; (first | omega | (simp <;> omega)))))⟩
end Go.Proofs.Ytjjkndgokdofdaa
