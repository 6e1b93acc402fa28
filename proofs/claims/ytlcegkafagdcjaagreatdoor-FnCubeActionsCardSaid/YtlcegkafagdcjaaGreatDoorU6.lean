/- Contracts: united forms, by the program. -/
import Derived.Test.YtlcegkafagdcjaaGreatDoorUA
import Derived.Deep.DeepCutAuto
import Derived.Deep.LoopGhost
namespace Go.Proofs.YtlcegkafagdcjaaGreatDoor
open Go.RowKit

theorem Blk.put {w : World} {g i : Nat} {ty : TypeId} {cs cs' : Array Value} {u : Value} (h : Blk w g ty cs) (hc : cs.setIfInBounds i u = cs') : Blk (w.setCell ⟨g, i, none⟩ u) g ty cs' := hc ▸ h.set_ i u

def UniSt (f : Fm) (e h k y t x q N : Int) (w v2 : World) (U : Nat) (n : Nat) (wr : World) : Prop :=
  ∃ (j : Nat) (bj : Int), Hid (bj = f.b % (2 * f.a) + 2 * f.a * j) ∧ (0 ≤ bj ∧ bj ≤ 2000000) ∧ (j : Int) ≤ N ∧ N - j ≤ n ∧ Blk wr w.heap.size 33 #[.int .i64 f.a, .int .i64 f.b, .int .i64 f.c] ∧ Blk wr (w.heap.size + 1 + 1) 78 #[.int .i64 0, .int .i64 0, .int .i64 0, .int .i64 0, .int .i64 0, .int .i64 0, .int .i64 0, .int .i64 0, .int .i64 0, .int .i64 0, .int .i64 0, .int .i64 0] ∧
    Blk wr v2.heap.size 33 #[.int .i64 e, .int .i64 h, .int .i64 k] ∧ Blk wr (v2.heap.size + 1) 27 #[.int .i64 x, .int .i64 q, .int .i64 y, .int .i64 t] ∧
    Blk wr U 78 #[.int .i64 f.a, .int .i64 e, .int .i64 bj, .int .i64 0, .int .i64 0, .int .i64 0, .int .i64 0, .int .i64 0, .int .i64 0, .int .i64 0, .int .i64 0, .int .i64 0] ∧ Below w.heap.size w wr

set_option maxRecDepth 100000 in
set_option maxHeartbeats 8000000 in
theorem unite_any (d : Int) (f g : Fm) (x y S Q T e h k b c t1 t2 : Int) (w : World) (u : UD d f g x y S Q T e h k b c t1 t2) :
    Calls Tryz.prog 44 #[.agg #[.int .i64 f.a, .int .i64 f.b, .int .i64 f.c], .agg #[.int .i64 g.a, .int .i64 g.b, .int .i64 g.c]] w fun ee w' =>
      ee = .returned (.agg #[.int .i64 f.a, .int .i64 e, .int .i64 b, .int .i64 c, .int .i64 1, .int .i64 t1, .int .i64 0, .int .i64 1, .int .i64 (mm x 1 (Q + T * x) 0), .int .i64 (mm x t2 (Q + T * x) 1), .int .i64 (mm y 1 (S + T * y) 0), .int .i64 (mm y t2 (S + T * y) 1)]) ∧ Below w.heap.size w w' := by
  obtain ⟨⟨a1, a2⟩, ⟨fb1, fb2⟩, ⟨fc1, fc2⟩⟩ := cls_bd u.D.lo u.hf
  obtain ⟨⟨A1, A2⟩, ⟨B1, B2⟩, ⟨C1, C2⟩⟩ := cls_bd u.D.lo u.hg
  obtain ⟨X, Y, S0, hX, hY, hS, hS1, hgd⟩ := good_ex u.D.lo u.hf u.hg
  have hFp := Lib.hid (fun w => (firstPoint_any g.a g.b g.c f.a X Y S0 w (by omega) (by omega) (by omega) (by omega) hX hY (by omega) hgd).mono (R' := fun e' w' => e' = .returned (.tuple #[.int .i64 x, .int .i64 y]) ∧ Below w.heap.size w w') (fun e' w' ⟨x', y', h1, h2, h3⟩ => by
    obtain ⟨rfl, rfl⟩ := h2.uniq u.pt; exact ⟨h1, h3⟩))
  have hCo := Lib.hid (fun w => complete_any g.a g.b g.c x y S Q T w u.co)
  rw [← u.ee, ← u.eh, ← u.ek] at hCo
  obtain ⟨e1, e2⟩ := u.e_pos
  obtain ⟨h1, h2⟩ := u.h_bd
  obtain ⟨m1, m2⟩ := u.ae
  obtain ⟨c1, c2⟩ := u.c_bd
  have b0 := u.b0
  have b1 := u.b1
  obtain ⟨N, hN, hbN, hstop, hgo⟩ := u.start
  have hmod := u.b_mod
  have hdisc := Lib.hid (fun w => idisc_any f.a f.b f.c w ⟨by have := mul_bd fb1 fb2 fb1 fb2; omega, by have := mul_bd fb1 fb2 fb1 fb2; omega⟩ ⟨by omega, by omega⟩ ⟨by have := mul_bd (a := 4 * f.a) (x := f.c) (A := 104) (X := 1000) (by omega) (by omega) (by omega) (by omega); omega, by have := mul_bd (a := 4 * f.a) (x := f.c) (A := 104) (X := 1000) (by omega) (by omega) (by omega) (by omega); omega⟩)
  have hdd : disc ⟨f.a, f.b, f.c⟩ = d := (mem_clsL u.D.lo u.hf).1.2.2.1
  rw [hdd] at hdisc
  have hgo' := Lib.hid hgo
  have hbN' := Lib.hid hbN
  have r1 := Int.emod_nonneg f.b (show 2 * f.a ≠ 0 by omega)
  have r2 := Int.emod_lt_of_pos f.b (show 0 < 2 * f.a by omega)
  have ea1 : (2 * f.a == 0) = false := by rw [beq_eq_false_iff_ne]; omega
  have ea2 : ¬ 2 * f.a = 0 := by omega
  have ee1 : (2 * e == 0) = false := by rw [beq_eq_false_iff_ne]; omega
  have ee2 : ¬ 2 * e = 0 := by omega
  have l1 : 4 * f.a * e = 4 * (f.a * e) := Int.mul_assoc _ _ _
  have l2 : 2 * f.a * e = 2 * (f.a * e) := Int.mul_assoc _ _ _
  have ef1 : (4 * f.a * e == 0) = false := by rw [beq_eq_false_iff_ne]; omega
  have ef2 : ¬ 4 * f.a * e = 0 := by omega
  have eg1 : 0 < 2 * f.a * e := by omega
  have eg2 : 2 * f.a * e ≤ 1040000 := by omega
  have eh2 : 4 * f.a * e ≤ 2080000 := by omega
  have hc0 := u.hc
  have hmod2 : b % (2 * f.a * e) = b := by rw [l2]; exact hmod
  have hquo : (b * b - d).tdiv (4 * f.a * e) = c := by rw [l1, hc0, Int.mul_tdiv_cancel_left _ (by omega)]
  have ht1 : (b - f.b).tdiv (2 * f.a) = t1 := by
    have : b - f.b = 2 * f.a * t1 := by have := u.t1; have := Int.mul_assoc 2 f.a t1; omega
    rw [this, Int.mul_tdiv_cancel_left _ ea2]
  have ht2 : (b - h).tdiv (2 * e) = t2 := by
    have : b - h = 2 * e * t2 := by have := u.t2; have := Int.mul_assoc 2 e t2; omega
    rw [this, Int.mul_tdiv_cancel_left _ ee2]
  have bt1 : -3000000 ≤ t1 ∧ t1 ≤ 3000000 := by rw [← ht1]; exact tdiv_bd (by omega) (by omega)
  have bt2 : -3000000 ≤ t2 ∧ t2 ≤ 3000000 := by rw [← ht2]; exact tdiv_bd (by omega) (by omega)
  have bbb := mul_bd (a := b) (x := b) (A := 1040000) (X := 1040000) (by omega) (by omega) (by omega) (by omega)
  have d1 := u.D.lo
  have d2 := u.D.hi
  have wr1 : IntKind.i64.wrap (2 * f.a) = 2 * f.a := IntWalk.i64_in _ (by omega)
  have wr2 : IntKind.i64.wrap (b * b) = b * b := IntWalk.i64_in _ (by omega)
  have wr3 : IntKind.i64.wrap (b * b - d) = b * b - d := IntWalk.i64_in _ (by omega)
  have wr4 : IntKind.i64.wrap (4 * f.a) = 4 * f.a := IntWalk.i64_in _ (by omega)
  have wr5 : IntKind.i64.wrap (4 * f.a * e) = 4 * f.a * e := IntWalk.i64_in _ (by omega)
  have wr6 : IntKind.i64.wrap c = c := IntWalk.i64_in _ (by omega)
  have wr7 : IntKind.i64.wrap (b - h) = b - h := IntWalk.i64_in _ (by omega)
  have wr8 : IntKind.i64.wrap (2 * e) = 2 * e := IntWalk.i64_in _ (by omega)
  have wr9 : IntKind.i64.wrap t2 = t2 := IntWalk.i64_in _ (by omega)
  obtain ⟨bt1, bt1'⟩ := bt1
  obtain ⟨bt2, bt2'⟩ := bt2
  obtain ⟨bbb, bbb'⟩ := bbb
  clear l1 l2 hc0 hmod hbN
  generalize hq : Q + T * x = q at *
  generalize ht : S + T * y = t at *
  clear hgo hgd hX hY hS hS1 hdd
  go_enter Tryz.func44, Tryz.ntmps44
  go_upto_region 3 with (first
    | (go_at_call 85; (with_reducible refine (hFp.out _).mono ?_); rintro e v1 ⟨rfl, hB1⟩; have hZ1 := hB1.size; (try simp at hZ1); (try have zl1 : w.heap.size < v1.heap.size := by omega); (try have ze1 : w.heap.size ≤ v1.heap.size := by omega); (try have zn1 : ¬ w.heap.size = v1.heap.size := by omega); (try have zm1 : ¬ v1.heap.size = w.heap.size := by omega); have hA1 : Blk v1 (w.heap.size) 33 #[.int .i64 f.a, .int .i64 f.b, .int .i64 f.c] := Blk.call (by (repeat (first | with_reducible assumption | (with_reducible apply Blk.new_at; (first | rfl | (simp; done))) | with_reducible apply Blk.store3 | with_reducible apply Blk.store4 | (with_reducible apply Blk.farp; (first | omega | (simp <;> omega))) | with_reducible apply Blk.allocp | with_reducible apply Blk.drew | with_reducible apply Blk.drewN))) hB1; have cA1 := hA1.cell; have fA1 := hA1.frozen; have lA1 := hA1.lt; have mA1 := Nat.ne_of_gt lA1; have nA1 := Nat.ne_of_lt lA1; have hG1 : Blk v1 (w.heap.size + 1) 33 #[.int .i64 g.a, .int .i64 g.b, .int .i64 g.c] := Blk.call (by (repeat (first | with_reducible assumption | (with_reducible apply Blk.new_at; (first | rfl | (simp; done))) | with_reducible apply Blk.store3 | with_reducible apply Blk.store4 | (with_reducible apply Blk.farp; (first | omega | (simp <;> omega))) | with_reducible apply Blk.allocp | with_reducible apply Blk.drew | with_reducible apply Blk.drewN))) hB1; have cG1 := hG1.cell; have fG1 := hG1.frozen; have lG1 := hG1.lt; have mG1 := Nat.ne_of_gt lG1; have nG1 := Nat.ne_of_lt lG1; have hR1 : Blk v1 (w.heap.size + 1 + 1) 78 #[.int .i64 0, .int .i64 0, .int .i64 0, .int .i64 0, .int .i64 0, .int .i64 0, .int .i64 0, .int .i64 0, .int .i64 0, .int .i64 0, .int .i64 0, .int .i64 0] := Blk.call (by (repeat (first | with_reducible assumption | (with_reducible apply Blk.new_at; (first | rfl | (simp; done))) | with_reducible apply Blk.store3 | with_reducible apply Blk.store4 | (with_reducible apply Blk.farp; (first | omega | (simp <;> omega))) | with_reducible apply Blk.allocp | with_reducible apply Blk.drew | with_reducible apply Blk.drewN))) hB1; have cR1 := hR1.cell; have fR1 := hR1.frozen; have lR1 := hR1.lt; have mR1 := Nat.ne_of_gt lR1; have nR1 := Nat.ne_of_lt lR1)
    | (go_at_call 86; (with_reducible refine (hCo.out _).mono ?_); rintro e v2 ⟨rfl, hB2⟩; have hZ2 := hB2.size; (try simp at hZ2); (try have zl2 : w.heap.size < v2.heap.size := by omega); (try have ze2 : w.heap.size ≤ v2.heap.size := by omega); (try have zn2 : ¬ w.heap.size = v2.heap.size := by omega); (try have zm2 : ¬ v2.heap.size = w.heap.size := by omega); have hA2 : Blk v2 (w.heap.size) 33 #[.int .i64 f.a, .int .i64 f.b, .int .i64 f.c] := Blk.call (by (repeat (first | with_reducible assumption | (with_reducible apply Blk.new_at; (first | rfl | (simp; done))) | with_reducible apply Blk.store3 | with_reducible apply Blk.store4 | (with_reducible apply Blk.farp; (first | omega | (simp <;> omega))) | with_reducible apply Blk.allocp | with_reducible apply Blk.drew | with_reducible apply Blk.drewN))) hB2; have cA2 := hA2.cell; have fA2 := hA2.frozen; have lA2 := hA2.lt; have mA2 := Nat.ne_of_gt lA2; have nA2 := Nat.ne_of_lt lA2; have hG2 : Blk v2 (w.heap.size + 1) 33 #[.int .i64 g.a, .int .i64 g.b, .int .i64 g.c] := Blk.call (by (repeat (first | with_reducible assumption | (with_reducible apply Blk.new_at; (first | rfl | (simp; done))) | with_reducible apply Blk.store3 | with_reducible apply Blk.store4 | (with_reducible apply Blk.farp; (first | omega | (simp <;> omega))) | with_reducible apply Blk.allocp | with_reducible apply Blk.drew | with_reducible apply Blk.drewN))) hB2; have cG2 := hG2.cell; have fG2 := hG2.frozen; have lG2 := hG2.lt; have mG2 := Nat.ne_of_gt lG2; have nG2 := Nat.ne_of_lt lG2; have hR2 : Blk v2 (w.heap.size + 1 + 1) 78 #[.int .i64 0, .int .i64 0, .int .i64 0, .int .i64 0, .int .i64 0, .int .i64 0, .int .i64 0, .int .i64 0, .int .i64 0, .int .i64 0, .int .i64 0, .int .i64 0] := Blk.call (by (repeat (first | with_reducible assumption | (with_reducible apply Blk.new_at; (first | rfl | (simp; done))) | with_reducible apply Blk.store3 | with_reducible apply Blk.store4 | (with_reducible apply Blk.farp; (first | omega | (simp <;> omega))) | with_reducible apply Blk.allocp | with_reducible apply Blk.drew | with_reducible apply Blk.drewN))) hB2; have cR2 := hR2.cell; have fR2 := hR2.frozen; have lR2 := hR2.lt; have mR2 := Nat.ne_of_gt lR2; have nR2 := Nat.ne_of_lt lR2))
  go_cut [9] (fun s wx => ∃ U : Nat, s = .pointer (some ⟨U, 0, none⟩) ∧ v2.heap.size + 1 < U ∧ Blk wx w.heap.size 33 #[.int .i64 f.a, .int .i64 f.b, .int .i64 f.c] ∧ Blk wx (w.heap.size + 1 + 1) 78 #[.int .i64 0, .int .i64 0, .int .i64 0, .int .i64 0, .int .i64 0, .int .i64 0, .int .i64 0, .int .i64 0, .int .i64 0, .int .i64 0, .int .i64 0, .int .i64 0] ∧ Blk wx v2.heap.size 33 #[.int .i64 e, .int .i64 h, .int .i64 k] ∧ Blk wx (v2.heap.size + 1) 27 #[.int .i64 x, .int .i64 q, .int .i64 y, .int .i64 t] ∧ Blk wx U 78 #[.int .i64 f.a, .int .i64 e, .int .i64 (f.b % (2 * f.a)), .int .i64 0, .int .i64 0, .int .i64 0, .int .i64 0, .int .i64 0, .int .i64 0, .int .i64 0, .int .i64 0, .int .i64 0] ∧ Below w.heap.size w wx)
  case first =>
    have k1 : ¬ w.heap.size = v2.heap.size + 1 + 1 := by omega
    have k2 : ¬ v2.heap.size + 1 + 1 = w.heap.size := by omega
    have k3 : ¬ v2.heap.size = v2.heap.size + 1 + 1 := by omega
    have k5 : ¬ w.heap.size = v2.heap.size + 2 := by omega
    have k6 : ¬ v2.heap.size + 2 = w.heap.size := by omega
    have k7 : w.heap.size < v2.heap.size + 1 + 1 := by omega
    have k8 : w.heap.size < v2.heap.size + 2 := by omega
    have k9 : w.heap.size < v2.heap.size + 1 := by omega
    have k4 : ¬ v2.heap.size + 1 + 1 = v2.heap.size := by omega
    go_region_held3 (fun w' => w'.cell? ⟨w.heap.size, 0, none⟩ = some (.int .i64 (f.a)) ∧ w'.cell? ⟨w.heap.size, 1, none⟩ = some (.int .i64 (f.b)) ∧ w'.cell? ⟨w.heap.size, 2, none⟩ = some (.int .i64 (f.c)) ∧ w'.cell? ⟨v2.heap.size, 0, none⟩ = some (.int .i64 (e)) ∧ w'.cell? ⟨v2.heap.size, 1, none⟩ = some (.int .i64 (h)) ∧ w'.cell? ⟨v2.heap.size, 2, none⟩ = some (.int .i64 (k))) (first | (go_keep; done) | (go_simp; done)) ((go_at_call 87; (with_reducible refine (mod_any f.b (2 * f.a) _ (by omega) (by omega)).mono ?_); rintro e v ⟨rfl, rfl⟩))
    all_goals
      go_wp2_with fail
      go_meet
      exact ⟨_, rfl, by omega, by (repeat (first | with_reducible assumption | (with_reducible apply Blk.new_at; (first | rfl | (simp; done))) | with_reducible apply Blk.store3 | with_reducible apply Blk.store4 | (with_reducible apply Blk.farp; (first | omega | (simp <;> omega))) | with_reducible apply Blk.allocp | with_reducible apply Blk.drew | with_reducible apply Blk.drewN)), by (repeat (first | with_reducible assumption | (with_reducible apply Blk.new_at; (first | rfl | (simp; done))) | with_reducible apply Blk.store3 | with_reducible apply Blk.store4 | (with_reducible apply Blk.farp; (first | omega | (simp <;> omega))) | with_reducible apply Blk.allocp | with_reducible apply Blk.drew | with_reducible apply Blk.drewN)), by (repeat (first | with_reducible assumption | (with_reducible apply Blk.new_at; (first | rfl | (simp; done))) | with_reducible apply Blk.store3 | with_reducible apply Blk.store4 | (with_reducible apply Blk.farp; (first | omega | (simp <;> omega))) | with_reducible apply Blk.allocp | with_reducible apply Blk.drew | with_reducible apply Blk.drewN)), by (repeat (first | with_reducible assumption | (with_reducible apply Blk.new_at; (first | rfl | (simp; done))) | with_reducible apply Blk.store3 | with_reducible apply Blk.store4 | (with_reducible apply Blk.farp; (first | omega | (simp <;> omega))) | with_reducible apply Blk.allocp | with_reducible apply Blk.drew | with_reducible apply Blk.drewN)), by (repeat (first | with_reducible assumption | (with_reducible apply Blk.new_at; (first | rfl | (simp; done))) | with_reducible apply Blk.store3 | with_reducible apply Blk.store4 | (with_reducible apply Blk.farp; (first | omega | (simp <;> omega))) | with_reducible apply Blk.allocp | with_reducible apply Blk.drew | with_reducible apply Blk.drewN)), (by repeat (first | with_reducible exact Below.refl _ _ | with_reducible assumption | with_reducible apply Below.drew | with_reducible apply below_drewN | (with_reducible apply below_setp; (first | omega | (simp <;> omega))) | (with_reducible apply below_allocp; (first | omega | (simp <;> omega))) | (with_reducible refine below_viap (by assumption) ?_ ?_; (first | omega | (simp <;> omega)))))⟩
  case rest =>
    obtain ⟨U, rfl, hU, hA, hR, hH, hM, hUU, hbel⟩ := hcut
    go_wp2
    go_loopg [] N (fun n wr => UniSt f e h k y t x q N w v2 U n wr)
    case atStart => exact ⟨0, _, Lib.hid (by simp), by omega, by omega, by omega, hA, hR, hH, hM, hUU, hbel⟩
    case round =>
      clear hA hR hH hM hUU hbel
      obtain ⟨j, bj, hbj, ⟨hb0, hb1⟩, hjN, hjm, hA, hR, hH, hM, hUU, hbel⟩ := hrel
      have hjj : 2 * f.a * (j : Int) ≤ 2 * f.a * N := Int.mul_le_mul_of_nonneg_left hjN (by omega)
      have hbjb : bj ≤ 1040000 := by have := hbj.out; have := hbN'.out; omega
      have cA := hA.cell; have fA := hA.frozen; have cR := hR.cell; have fR := hR.frozen; have cH := hH.cell; have fH := hH.frozen; have cM := hM.cell; have fM := hM.frozen
      have n1 : ¬ U = w.heap.size := by omega
      have n2 : ¬ w.heap.size = U := by omega
      have n3 : ¬ U = v2.heap.size := by omega
      have n4 : ¬ v2.heap.size = U := by omega
      have n5 : ¬ U = v2.heap.size + 1 := by omega
      have n6 : ¬ v2.heap.size + 1 = U := by omega
      have n7 : ¬ U = w.heap.size + 1 + 1 := by omega
      have n8 : ¬ w.heap.size + 1 + 1 = U := by omega
      have lA := hA.lt; have lR := hR.lt; have lH := hH.lt; have lM := hM.lt; have lU := hUU.lt
      by_cases hj : j < N
      · have cU := hUU.cell; have fU := hUU.frozen
        have hne := hgo'.out j hj
        rw [← hbj.out] at hne
        have hn1 : ((bj - h) % (2 * e) != 0) = true := by rw [bne_iff_ne]; exact hne
        clear hne hjj
        go_wp2_with (go_at_call 87; (with_reducible refine (mod_any (bj - h) (2 * e) _ (by omega) (by omega)).mono ?_); rintro e v ⟨rfl, rfl⟩)
        go_roundg (gk - 1)
        case measure => omega
        case rel => exact ⟨j + 1, bj + 2 * f.a, Lib.hid (by rw [hbj.out]; push_cast; grind), by omega, by omega, by omega, hA.farp n2, hR.farp n8, hH.farp n4, hM.farp n6, Blk.put hUU (by simp), (by repeat (first | with_reducible exact Below.refl _ _ | with_reducible assumption | with_reducible apply Below.drew | with_reducible apply below_drewN | (with_reducible apply below_setp; (first | omega | (simp <;> omega))) | (with_reducible apply below_allocp; (first | omega | (simp <;> omega))) | (with_reducible refine below_viap (by assumption) ?_ ?_; (first | omega | (simp <;> omega)))))⟩
      · have hjn : j = N := by omega
        have hjb : bj = b := by rw [hbj.out, hbN'.out, hjn]
        rw [hjb] at hUU
        have cU := hUU.cell; have fU := hUU.frozen
        have hs1 : ((b - h) % (2 * e) != 0) = false := by rw [bne_eq_false_iff_eq]; exact hstop
        clear hjj hjn hjb hbj hj hstop
        go_wp2_with ((go_at_call 87; (with_reducible refine (mod_any _ _ _ (by omega) (by omega)).mono ?_); rintro e v ⟨rfl, rfl⟩))
        go_region_held3 (fun w' => w'.cell? ⟨w.heap.size, 0, none⟩ = some (.int .i64 (f.a)) ∧ w'.cell? ⟨w.heap.size, 1, none⟩ = some (.int .i64 (f.b)) ∧ w'.cell? ⟨w.heap.size, 2, none⟩ = some (.int .i64 (f.c)) ∧ w'.cell? ⟨U, 0, none⟩ = some (.int .i64 (f.a)) ∧ w'.cell? ⟨U, 1, none⟩ = some (.int .i64 (e)) ∧ w'.cell? ⟨U, 2, none⟩ = some (.int .i64 (b)) ∧ w'.cell? ⟨v2.heap.size, 0, none⟩ = some (.int .i64 (e)) ∧ w'.cell? ⟨v2.heap.size, 1, none⟩ = some (.int .i64 (h)) ∧ w'.cell? ⟨v2.heap.size, 2, none⟩ = some (.int .i64 (k)) ∧ w'.cell? ⟨v2.heap.size + 1, 0, none⟩ = some (.int .i64 (x)) ∧ w'.cell? ⟨v2.heap.size + 1, 1, none⟩ = some (.int .i64 (q)) ∧ w'.cell? ⟨v2.heap.size + 1, 2, none⟩ = some (.int .i64 (y)) ∧ w'.cell? ⟨v2.heap.size + 1, 3, none⟩ = some (.int .i64 (t))) (first | (go_keep; done) | (go_simp; done)) ((go_at_call 81; (with_reducible refine (hdisc.out _).mono ?_); rintro e h5 ⟨rfl, hb5⟩; have hcc := (calm_cells hb5).1; have hff := (calm_cells hb5).2; have hsz5 := hb5.size; (try simp at hsz5); have g5_0 := fun o => hcc (w.heap.size) o (by first | omega | (simp <;> omega)); have g5_1 := fun o => hff (w.heap.size) o (by first | omega | (simp <;> omega)); have g5_2 := fun o => hcc (U) o (by first | omega | (simp <;> omega)); have g5_3 := fun o => hff (U) o (by first | omega | (simp <;> omega)); have g5_4 := fun o => hcc (v2.heap.size) o (by first | omega | (simp <;> omega)); have g5_5 := fun o => hff (v2.heap.size) o (by first | omega | (simp <;> omega)); have g5_6 := fun o => hcc (v2.heap.size + 1) o (by first | omega | (simp <;> omega)); have g5_7 := fun o => hff (v2.heap.size + 1) o (by first | omega | (simp <;> omega)); have g5_8 := fun o => hcc (w.heap.size + 1 + 1) o (by first | omega | (simp <;> omega)); have g5_9 := fun o => hff (w.heap.size + 1 + 1) o (by first | omega | (simp <;> omega)); clear hcc hff))
        go_wp2
        clear hFp hCo hgo' hbN' hdisc hA hR hH hM hs1 hmod2 hquo ht1
        go_region_held3 (fun w' => w'.cell? ⟨U, 0, none⟩ = some (.int .i64 (f.a)) ∧ w'.cell? ⟨U, 1, none⟩ = some (.int .i64 (e)) ∧ w'.cell? ⟨U, 2, none⟩ = some (.int .i64 (b)) ∧ w'.cell? ⟨U, 3, none⟩ = some (.int .i64 (c)) ∧ w'.cell? ⟨U, 4, none⟩ = some (.int .i64 (1)) ∧ w'.cell? ⟨U, 5, none⟩ = some (.int .i64 (t1)) ∧ w'.cell? ⟨U, 6, none⟩ = some (.int .i64 (0)) ∧ w'.cell? ⟨U, 7, none⟩ = some (.int .i64 (1)) ∧ w'.cell? ⟨v2.heap.size, 0, none⟩ = some (.int .i64 (e)) ∧ w'.cell? ⟨v2.heap.size, 1, none⟩ = some (.int .i64 (h)) ∧ w'.cell? ⟨v2.heap.size, 2, none⟩ = some (.int .i64 (k)) ∧ w'.cell? ⟨v2.heap.size + 1, 0, none⟩ = some (.int .i64 (x)) ∧ w'.cell? ⟨v2.heap.size + 1, 1, none⟩ = some (.int .i64 (q)) ∧ w'.cell? ⟨v2.heap.size + 1, 2, none⟩ = some (.int .i64 (y)) ∧ w'.cell? ⟨v2.heap.size + 1, 3, none⟩ = some (.int .i64 (t))) (first | (go_keep; done) | (go_simp; done)) ((go_at_call 47; (with_reducible refine (times_any x q y t 1 t2 0 1 _).mono ?_); rintro e h6 ⟨rfl, hb6⟩; have hcc := (calm_cells hb6).1; have hff := (calm_cells hb6).2; have hsz6 := hb6.size; (try simp at hsz6); have g6_0 := fun o => hcc (U) o (by first | omega | (simp <;> omega)); have g6_1 := fun o => hff (U) o (by first | omega | (simp <;> omega)); have g6_2 := fun o => hcc (v2.heap.size) o (by first | omega | (simp <;> omega)); have g6_3 := fun o => hff (v2.heap.size) o (by first | omega | (simp <;> omega)); have g6_4 := fun o => hcc (v2.heap.size + 1) o (by first | omega | (simp <;> omega)); have g6_5 := fun o => hff (v2.heap.size + 1) o (by first | omega | (simp <;> omega)); have g6_6 := fun o => hcc (w.heap.size + 1 + 1) o (by first | omega | (simp <;> omega)); have g6_7 := fun o => hff (w.heap.size + 1 + 1) o (by first | omega | (simp <;> omega)); clear hcc hff))
        go_wp2
        exact bodyPost_ret (v := .agg #[.int .i64 f.a, .int .i64 e, .int .i64 b, .int .i64 c, .int .i64 1, .int .i64 t1, .int .i64 0, .int .i64 1, .int .i64 (mm x 1 q 0), .int .i64 (mm x t2 q 1), .int .i64 (mm y 1 t 0), .int .i64 (mm y t2 t 1)]) (by simp [results, Tryz.results44, go_sem, *]) rfl ⟨rfl, (by repeat (first | with_reducible exact Below.refl _ _ | with_reducible assumption | with_reducible apply Below.drew | with_reducible apply below_drewN | (with_reducible apply below_setp; (first | omega | (simp <;> omega))) | (with_reducible apply below_allocp; (first | omega | (simp <;> omega))) | (with_reducible refine below_viap (by assumption) ?_ ?_; (first | omega | (simp <;> omega)))))⟩
end Go.Proofs.YtlcegkafagdcjaaGreatDoor
