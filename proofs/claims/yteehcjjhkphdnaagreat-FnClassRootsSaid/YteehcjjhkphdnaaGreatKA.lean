/- Contracts of IsSquareClass, of the program and of the reference. -/
import Derived.Test.YteehcjjhkphdnaaGreatK9
import Derived.Test.YteehcjjhkphdnaaGreatK7
namespace Go.Proofs.YteehcjjhkphdnaaGreat
open Go.RowKit

set_option maxRecDepth 100000 in
set_option maxHeartbeats 3200000 in
theorem implIsSq_any (a b c d : Int) (r : Fm) (L : List Fm) (w : World) (hc : isCls a b c = true) (hd : disc ⟨a, b, c⟩ = d) (hr : red ⟨a, b, c⟩ = r) (hL : (clsL d).filter (powP d 2 (clsL d)) = L) :
    Calls Tryz.prog 51 #[.agg #[.int .i64 a, .int .i64 b, .int .i64 c]] w fun e w' => e = .returned (.tuple #[.bool (hasF L r), .bool true]) ∧ Below w.heap.size w w' := by
  have cf := CF.of_cls hc
  rw [hr, hd] at cf
  have hR := Lib.hid (fun w => reduced_cf d ⟨a, b, c⟩ r w cf)
  have hDc := Lib.hid (fun w => disc_cf d ⟨a, b, c⟩ r w cf)
  have hP := Lib.hid (fun w => powerClasses_any d 2 w cf.D (by decide))
  rw [hL] at hP
  have hl : L.length ≤ 100000 := by rw [← hL]; exact Nat.le_trans (List.length_filter_le _ _) (Nat.le_trans (clsL_len _) (by decide))
  clear hd hr hL cf
  go_enter Tryz.func51, Tryz.ntmps51
  go_wp2_with (go_at_call 93; (with_reducible refine (icls_any a b c _).mono ?_); rw [hc]; rintro e v1 ⟨rfl, hB1⟩; have hZ1 := hB1.size; (try simp at hZ1); (try have zl1 : w.heap.size < v1.heap.size := by omega); (try have ze1 : w.heap.size ≤ v1.heap.size := by omega); (try have zn1 : ¬ w.heap.size = v1.heap.size := by omega); (try have zm1 : ¬ v1.heap.size = w.heap.size := by omega); have hA1 : Blk v1 (w.heap.size) 36 #[.int .i64 a, .int .i64 b, .int .i64 c] := Blk.call (by (repeat (first | with_reducible assumption | (with_reducible apply Blk.new_at; (first | rfl | (simp; done))) | with_reducible apply Blk.store3 | with_reducible apply Blk.store4 | (with_reducible apply Blk.farp; (first | omega | (simp <;> omega))) | with_reducible apply Blk.allocp | with_reducible apply Blk.drew | with_reducible apply Blk.drewN))) hB1; have cA1 := hA1.cell; have fA1 := hA1.frozen; have lA1 := hA1.lt; have mA1 := Nat.ne_of_gt lA1; have nA1 := Nat.ne_of_lt lA1)
  go_region_with (first
    | (go_at_call 109; (with_reducible refine (hDc.out _).mono ?_); rintro e v2 ⟨rfl, hB2⟩; have hZ2 := hB2.size; (try simp at hZ2); (try have zl2 : w.heap.size < v2.heap.size := by omega); (try have ze2 : w.heap.size ≤ v2.heap.size := by omega); (try have zn2 : ¬ w.heap.size = v2.heap.size := by omega); (try have zm2 : ¬ v2.heap.size = w.heap.size := by omega); have hA2 : Blk v2 (w.heap.size) 36 #[.int .i64 a, .int .i64 b, .int .i64 c] := Blk.call (by (repeat (first | with_reducible assumption | (with_reducible apply Blk.new_at; (first | rfl | (simp; done))) | with_reducible apply Blk.store3 | with_reducible apply Blk.store4 | (with_reducible apply Blk.farp; (first | omega | (simp <;> omega))) | with_reducible apply Blk.allocp | with_reducible apply Blk.drew | with_reducible apply Blk.drewN))) hB2; have cA2 := hA2.cell; have fA2 := hA2.frozen; have lA2 := hA2.lt; have mA2 := Nat.ne_of_gt lA2; have nA2 := Nat.ne_of_lt lA2)
    | (go_at_call 94; (with_reducible refine (hR.out _).mono ?_); rintro e v3 ⟨rfl, hB3⟩; have hZ3 := hB3.size; (try simp at hZ3); (try have zl3 : w.heap.size < v3.heap.size := by omega); (try have ze3 : w.heap.size ≤ v3.heap.size := by omega); (try have zn3 : ¬ w.heap.size = v3.heap.size := by omega); (try have zm3 : ¬ v3.heap.size = w.heap.size := by omega); have hA3 : Blk v3 (w.heap.size) 36 #[.int .i64 a, .int .i64 b, .int .i64 c] := Blk.call (by (repeat (first | with_reducible assumption | (with_reducible apply Blk.new_at; (first | rfl | (simp; done))) | with_reducible apply Blk.store3 | with_reducible apply Blk.store4 | (with_reducible apply Blk.farp; (first | omega | (simp <;> omega))) | with_reducible apply Blk.allocp | with_reducible apply Blk.drew | with_reducible apply Blk.drewN))) hB3; have cA3 := hA3.cell; have fA3 := hA3.frozen; have lA3 := hA3.lt; have mA3 := Nat.ne_of_gt lA3; have nA3 := Nat.ne_of_lt lA3)
    | (go_at_call 108; refine (hP.out _).mono ?_; rintro e v4 ⟨vl, rfl, howl, hB4⟩; have hZ4 := hB4.size; have hA4 : Blk v4 w.heap.size 36 #[.int .i64 a, .int .i64 b, .int .i64 c] := Blk.call (by (repeat (first | with_reducible assumption | (with_reducible apply Blk.new_at; (first | rfl | (simp; done))) | with_reducible apply Blk.store3 | with_reducible apply Blk.store4 | (with_reducible apply Blk.farp; (first | omega | (simp <;> omega))) | with_reducible apply Blk.allocp | with_reducible apply Blk.drew | with_reducible apply Blk.drewN))) hB4; have cA4 := hA4.cell; have fA4 := hA4.frozen; have lA4 := hA4.lt)
    | (go_at_call 113; (first | refine (hasForm_any vl _ L r _ hl howl).mono ?_ | refine (hasForm_any vl _ L r _ hl (own_call hB3 howl)).mono ?_); rintro e v5 ⟨rfl, hB5⟩; have hZ5 := hB5.size))
  all_goals (go_wp2; go_ret2; exact ⟨rfl, (by repeat (first | with_reducible exact Below.refl _ _ | with_reducible assumption | with_reducible apply Below.drew | with_reducible apply below_drewN | (with_reducible apply below_setp; (first | omega | (simp <;> omega))) | (with_reducible apply below_allocp; (first | omega | (simp <;> omega))) | (with_reducible refine below_viap (by assumption) ?_ ?_; (first | omega | (simp <;> omega)))))⟩)
end Go.Proofs.YteehcjjhkphdnaaGreat
