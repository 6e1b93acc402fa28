/- Parts IQ IR laid together by tp.py. -/
import Derived.Test.YteicampphegolaaIL
import Derived.Test.YteicampphegolaaIH
namespace Go.Proofs.Yteicampphegolaa
section
open Go.RowKit

theorem areNum2 (x y : Int) (e : TypeId) (w : World) (hx : isNum x = true) (hy : isNum y = true) :
    Calls Try.prog 95 #[.slice (some ⟨w.heap.size, 0, none⟩) 2 2] (w.alloc (.cells #[.int .i64 x, .int .i64 y] e)) fun e1 w' => e1 = .returned (.bool true) ∧ w.alloc (.cells #[.int .i64 x, .int .i64 y] e) = w' := by
  have hc : ∀ j, j < 2 → (w.alloc (.cells #[.int .i64 x, .int .i64 y] e)).cell? ⟨w.heap.size, j, none⟩ = some (.int .i64 ([x, y].getD j 0)) := by
    intro j hj
    match j, hj with
    | 0, _ => simp [go_sem]
    | 1, _ => simp [go_sem]
  have k := areNumbers_any w.heap.size 2 2 [x, y] (w.alloc (.cells #[.int .i64 x, .int .i64 y] e)) rfl (by omega) hc
  rw [show [x, y].all isNum = true by simp [hx, hy]] at k
  exact k
set_option maxHeartbeats 1600000 in
theorem implVA_c (a b c x y E : Int) (w : World) (hF : isFm a b c = true) (hx : isNum x = true) (hy : isNum y = true) (hA : AtOK a b c x y) (hE : E = atF a b c x y) :
    Calls Try.prog 78 #[.agg #[.int .i64 a, .int .i64 b, .int .i64 c], .int .i64 x, .int .i64 y] w fun e w' => e = .returned (.tuple #[.int .i64 E, .bool true]) ∧ Below w.heap.size w w' := by
  have hFm := Lib.hid (fun w => IsForm_any a b c w)
  rw [hF] at hFm
  have hV := Lib.hid (fun w => at_any a b c x y w hA)
  rw [← hE] at hV
  clear hF hA hE
  go_enter Try.func78, Try.ntmps78
  go_wp2_with (first
    | (go_at_call 110; (with_reducible refine (hFm.out _).mono ?_); rintro e v1 ⟨rfl, hB1⟩; have hZ1 := hB1.size; (try simp at hZ1); (try have zl1 : w.heap.size < v1.heap.size := by omega); (try have ze1 : w.heap.size ≤ v1.heap.size := by omega); (try have zn1 : ¬ w.heap.size = v1.heap.size := by omega); (try have zm1 : ¬ v1.heap.size = w.heap.size := by omega); have hA1 : Blk v1 (w.heap.size) 35 #[.int .i64 a, .int .i64 b, .int .i64 c] := Blk.call (by (repeat (first | with_reducible assumption | (with_reducible apply Blk.new_at; (first | rfl | (simp; done))) | with_reducible apply Blk.store3 | with_reducible apply Blk.store4 | (with_reducible apply Blk.farp; (first | omega | (simp <;> omega))) | with_reducible apply Blk.allocp | with_reducible apply Blk.drew | with_reducible apply Blk.drewN))) hB1; have cA1 := hA1.cell; have fA1 := hA1.frozen; have lA1 := hA1.lt; have mA1 := Nat.ne_of_gt lA1; have nA1 := Nat.ne_of_lt lA1)
    | (go_at_call 95; (with_reducible refine (areNum2 x y _ _ hx hy).mono ?_); rintro e v2 ⟨rfl, rfl⟩)
    | (go_at_call 190; (with_reducible refine (hV.out _).mono ?_); rintro e v3 ⟨rfl, hB3⟩))
  go_ret2
  exact ⟨rfl, (by repeat (first | with_reducible exact Below.refl _ _ | with_reducible assumption | with_reducible apply Below.drew | with_reducible apply below_drewN | (with_reducible apply below_setp; (first | omega | (simp <;> omega))) | (with_reducible apply below_allocp; (first | omega | (simp <;> omega))) | (with_reducible refine below_viap (by assumption) ?_ ?_; (first | omega | (simp <;> omega)))))⟩
set_option maxRecDepth 100000 in
set_option maxHeartbeats 1600000 in
theorem implSub_c (a b c x q y t A B C : Int) (w : World) (hF : isFm a b c = true) (hM : isM4 x q y t = true) (h1 : atV a b c x y = A) (h2 : polV a b c x y q t = B) (h3 : atV a b c q t = C) (hG : isFm A B C = true) :
    Calls Try.prog 29 #[.agg #[.int .i64 a, .int .i64 b, .int .i64 c], .agg #[.int .i64 x, .int .i64 q, .int .i64 y, .int .i64 t]] w fun e w' => e = .returned (.tuple #[.agg #[.int .i64 A, .int .i64 B, .int .i64 C], .bool true]) ∧ Below w.heap.size w w' := by
  have hFm := Lib.hid (fun w => IsForm_any a b c w)
  have hGm := Lib.hid (fun w => IsForm_any A B C w)
  have hMm := Lib.hid (fun w => IsMat_any x q y t w)
  have hS := Lib.hid (fun w => substitute_w a b c x q y t A B C w h1 h2 h3)
  rw [hF] at hFm
  rw [hG] at hGm
  rw [hM] at hMm
  clear hF hM h1 h2 h3 hG
  go_enter Try.func29, Try.ntmps29
  go_wp2_with (first
    | (go_at_call 110; (with_reducible refine (hFm.out _).mono ?_); rintro e v1 ⟨rfl, hB1⟩; have hZ1 := hB1.size; (try simp at hZ1); (try have zl1 : w.heap.size < v1.heap.size := by omega); (try have ze1 : w.heap.size ≤ v1.heap.size := by omega); (try have zn1 : ¬ w.heap.size = v1.heap.size := by omega); (try have zm1 : ¬ v1.heap.size = w.heap.size := by omega); have hA1 : Blk v1 (w.heap.size) 35 #[.int .i64 a, .int .i64 b, .int .i64 c] := Blk.call (by (repeat (first | with_reducible assumption | (with_reducible apply Blk.new_at; (first | rfl | (simp; done))) | with_reducible apply Blk.store3 | with_reducible apply Blk.store4 | (with_reducible apply Blk.farp; (first | omega | (simp <;> omega))) | with_reducible apply Blk.allocp | with_reducible apply Blk.drew | with_reducible apply Blk.drewN))) hB1; have cA1 := hA1.cell; have fA1 := hA1.frozen; have lA1 := hA1.lt; have mA1 := Nat.ne_of_gt lA1; have nA1 := Nat.ne_of_lt lA1; have hM1 : Blk v1 (w.heap.size + 1) 49 #[.int .i64 x, .int .i64 q, .int .i64 y, .int .i64 t] := Blk.call (by (repeat (first | with_reducible assumption | (with_reducible apply Blk.new_at; (first | rfl | (simp; done))) | with_reducible apply Blk.store3 | with_reducible apply Blk.store4 | (with_reducible apply Blk.farp; (first | omega | (simp <;> omega))) | with_reducible apply Blk.allocp | with_reducible apply Blk.drew | with_reducible apply Blk.drewN))) hB1; have cM1 := hM1.cell; have fM1 := hM1.frozen; have lM1 := hM1.lt; have mM1 := Nat.ne_of_gt lM1; have nM1 := Nat.ne_of_lt lM1; have hR1 : Blk v1 (w.heap.size + 1 + 1) 35 #[.int .i64 0, .int .i64 0, .int .i64 0] := Blk.call (by (repeat (first | with_reducible assumption | (with_reducible apply Blk.new_at; (first | rfl | (simp; done))) | with_reducible apply Blk.store3 | with_reducible apply Blk.store4 | (with_reducible apply Blk.farp; (first | omega | (simp <;> omega))) | with_reducible apply Blk.allocp | with_reducible apply Blk.drew | with_reducible apply Blk.drewN))) hB1; have cR1 := hR1.cell; have fR1 := hR1.frozen; have lR1 := hR1.lt; have mR1 := Nat.ne_of_gt lR1; have nR1 := Nat.ne_of_lt lR1)
    | (go_at_call 112; (with_reducible refine (hMm.out _).mono ?_); rintro e v2 ⟨rfl, hB2⟩; have hZ2 := hB2.size; (try simp at hZ2); (try have zl2 : w.heap.size < v2.heap.size := by omega); (try have ze2 : w.heap.size ≤ v2.heap.size := by omega); (try have zn2 : ¬ w.heap.size = v2.heap.size := by omega); (try have zm2 : ¬ v2.heap.size = w.heap.size := by omega); have hA2 : Blk v2 (w.heap.size) 35 #[.int .i64 a, .int .i64 b, .int .i64 c] := Blk.call (by (repeat (first | with_reducible assumption | (with_reducible apply Blk.new_at; (first | rfl | (simp; done))) | with_reducible apply Blk.store3 | with_reducible apply Blk.store4 | (with_reducible apply Blk.farp; (first | omega | (simp <;> omega))) | with_reducible apply Blk.allocp | with_reducible apply Blk.drew | with_reducible apply Blk.drewN))) hB2; have cA2 := hA2.cell; have fA2 := hA2.frozen; have lA2 := hA2.lt; have mA2 := Nat.ne_of_gt lA2; have nA2 := Nat.ne_of_lt lA2; have hM2 : Blk v2 (w.heap.size + 1) 49 #[.int .i64 x, .int .i64 q, .int .i64 y, .int .i64 t] := Blk.call (by (repeat (first | with_reducible assumption | (with_reducible apply Blk.new_at; (first | rfl | (simp; done))) | with_reducible apply Blk.store3 | with_reducible apply Blk.store4 | (with_reducible apply Blk.farp; (first | omega | (simp <;> omega))) | with_reducible apply Blk.allocp | with_reducible apply Blk.drew | with_reducible apply Blk.drewN))) hB2; have cM2 := hM2.cell; have fM2 := hM2.frozen; have lM2 := hM2.lt; have mM2 := Nat.ne_of_gt lM2; have nM2 := Nat.ne_of_lt lM2; have hR2 : Blk v2 (w.heap.size + 1 + 1) 35 #[.int .i64 0, .int .i64 0, .int .i64 0] := Blk.call (by (repeat (first | with_reducible assumption | (with_reducible apply Blk.new_at; (first | rfl | (simp; done))) | with_reducible apply Blk.store3 | with_reducible apply Blk.store4 | (with_reducible apply Blk.farp; (first | omega | (simp <;> omega))) | with_reducible apply Blk.allocp | with_reducible apply Blk.drew | with_reducible apply Blk.drewN))) hB2; have cR2 := hR2.cell; have fR2 := hR2.frozen; have lR2 := hR2.lt; have mR2 := Nat.ne_of_gt lR2; have nR2 := Nat.ne_of_lt lR2)
    | (go_at_call 122; (with_reducible refine (hS.out _).mono ?_); rintro e v3 ⟨rfl, hB3⟩; have hZ3 := hB3.size; (try simp at hZ3); (try have zl3 : w.heap.size < v3.heap.size := by omega); (try have ze3 : w.heap.size ≤ v3.heap.size := by omega); (try have zn3 : ¬ w.heap.size = v3.heap.size := by omega); (try have zm3 : ¬ v3.heap.size = w.heap.size := by omega); have hR3 : Blk v3 (w.heap.size + 1 + 1) 35 #[.int .i64 0, .int .i64 0, .int .i64 0] := Blk.call (by (repeat (first | with_reducible assumption | (with_reducible apply Blk.new_at; (first | rfl | (simp; done))) | with_reducible apply Blk.store3 | with_reducible apply Blk.store4 | (with_reducible apply Blk.farp; (first | omega | (simp <;> omega))) | with_reducible apply Blk.allocp | with_reducible apply Blk.drew | with_reducible apply Blk.drewN))) hB3; have cR3 := hR3.cell; have fR3 := hR3.frozen; have lR3 := hR3.lt; have mR3 := Nat.ne_of_gt lR3; have nR3 := Nat.ne_of_lt lR3)
    | (go_at_call 110; (with_reducible refine (hGm.out _).mono ?_); rintro e v4 ⟨rfl, hB4⟩; have hZ4 := hB4.size; (try simp at hZ4); (try have zl4 : w.heap.size < v4.heap.size := by omega); (try have ze4 : w.heap.size ≤ v4.heap.size := by omega); (try have zn4 : ¬ w.heap.size = v4.heap.size := by omega); (try have zm4 : ¬ v4.heap.size = w.heap.size := by omega); have hR4 : Blk v4 (w.heap.size + 1 + 1) 35 #[.int .i64 0, .int .i64 0, .int .i64 0] := Blk.call (by (repeat (first | with_reducible assumption | (with_reducible apply Blk.new_at; (first | rfl | (simp; done))) | with_reducible apply Blk.store3 | with_reducible apply Blk.store4 | (with_reducible apply Blk.farp; (first | omega | (simp <;> omega))) | with_reducible apply Blk.allocp | with_reducible apply Blk.drew | with_reducible apply Blk.drewN))) hB4; have cR4 := hR4.cell; have fR4 := hR4.frozen; have lR4 := hR4.lt; have mR4 := Nat.ne_of_gt lR4; have nR4 := Nat.ne_of_lt lR4; have hG4 : Blk v4 (v3.heap.size) 35 #[.int .i64 A, .int .i64 B, .int .i64 C] := Blk.call (by (repeat (first | with_reducible assumption | (with_reducible apply Blk.new_at; (first | rfl | (simp; done))) | with_reducible apply Blk.store3 | with_reducible apply Blk.store4 | (with_reducible apply Blk.farp; (first | omega | (simp <;> omega))) | with_reducible apply Blk.allocp | with_reducible apply Blk.drew | with_reducible apply Blk.drewN))) hB4; have cG4 := hG4.cell; have fG4 := hG4.frozen; have lG4 := hG4.lt; have mG4 := Nat.ne_of_gt lG4; have nG4 := Nat.ne_of_lt lG4))
  exact bodyPost_ret (v := .tuple #[.agg #[.int .i64 A, .int .i64 B, .int .i64 C], .bool true]) (by simp [results, Try.results29, go_sem, *]) rfl ⟨rfl, (by repeat (first | with_reducible exact Below.refl _ _ | with_reducible assumption | with_reducible apply Below.drew | with_reducible apply below_drewN | (with_reducible apply below_setp; (first | omega | (simp <;> omega))) | (with_reducible apply below_allocp; (first | omega | (simp <;> omega))) | (with_reducible refine below_viap (by assumption) ?_ ?_; (first | omega | (simp <;> omega)))))⟩
end

section
open Go.RowKit

set_option maxHeartbeats 800000 in
theorem autW_any (d : Int) (w : World) (h : isDisc d = true) :
    Calls Try.prog 16 #[.int .i64 d] w fun e w' => e = .returned (.tuple #[.int .i64 (wD d : Nat), .bool true]) ∧ w = w' := by
  unfold wD
  by_cases h3 : d = -3
  · subst h3
    go_enter Try.func16, Try.ntmps16
    go_wp2_with (go_at_call 86; (with_reducible refine (negDisc_eq (-3) true _ h).mono ?_); rintro e v ⟨rfl, rfl⟩)
    go_ret2
    exact ⟨rfl, rfl⟩
  · rw [if_neg h3]
    have e3 : (d == -3) = false := by rw [beq_eq_false_iff_ne]; exact h3
    by_cases h4 : d = -4
    · subst h4
      go_enter Try.func16, Try.ntmps16
      go_wp2_with (go_at_call 86; (with_reducible refine (negDisc_eq (-4) true _ h).mono ?_); rintro e v ⟨rfl, rfl⟩)
      go_ret2
      exact ⟨rfl, rfl⟩
    · rw [if_neg h4]
      have e4 : (d == -4) = false := by rw [beq_eq_false_iff_ne]; exact h4
      go_enter Try.func16, Try.ntmps16
      go_wp2_with (go_at_call 86; (with_reducible refine (negDisc_eq d true _ h).mono ?_); rintro e v ⟨rfl, rfl⟩)
      go_ret2
      exact ⟨rfl, rfl⟩
end
end Go.Proofs.Yteicampphegolaa
