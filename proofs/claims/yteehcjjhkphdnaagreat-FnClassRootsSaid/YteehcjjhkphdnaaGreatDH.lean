/- Contracts: drawn forms of classes, for the laws on square classes. -/
import Derived.Test.YteehcjjhkphdnaaGreatD8
import Derived.Test.YteehcjjhkphdnaaGreatDX
import Derived.Test.YteehcjjhkphdnaaGreatUB
namespace Go.Proofs.YteehcjjhkphdnaaGreat
open Go.RowKit

/-- What a draw of a form gives. -/
def RetDf (w : World) (e : Ending) (w' : World) : Prop := ∃ f : Fm, e = .returned (.agg #[.int .i64 f.a, .int .i64 f.b, .int .i64 f.c]) ∧ Below w.heap.size w w'
theorem drw_start {zs : List Int} {v : Value} {B : Nat} {w : World} (hr : RdB zs v B w) : Drw zs v B w.heap.size 0 (w.alloc (.cells #[v, .int .i64 0, .int .u64 0] 95)) (w.alloc (.cells #[v, .int .i64 0, .int .u64 0] 95)) :=
  Drw.start (hr.grown (grown_alloc _ _ none) (fun k hk => by cases hk)) cur_start
theorem drw_start2 {zs : List Int} {v : Value} {B : Nat} {w : World} (r : Obj) (hr : RdB zs v B w) : Drw zs v B (w.heap.size + 1) 0 w ((w.alloc r).alloc (.cells #[v, .int .i64 0, .int .u64 0] 95)) := by
  have h := drw_start (w := w.alloc r) (hr.grown (grown_alloc _ _ none) (fun k hk => by cases hk))
  refine ⟨h.rd, by simpa using h.cur, (grown_alloc _ _ _).trans (grown_alloc _ _ _)⟩
theorem below_cur2 {w w' : World} (h : w.grownBy w' (some (w.heap.size + 1))) : Below w.heap.size w w' :=
  (Below.refl w.heap.size w).grown h (Nat.le_refl _) (fun k hk => by injection hk with hk; omega)
theorem retDf_mk {w w' : World} {zs : List Int} {v : Value} {B n : Nat} (x y z : Int) (h : Drw zs v B (w.heap.size + 1) n w w') : RetDf w (.returned (.agg #[.int .i64 x, .int .i64 y, .int .i64 z])) w' :=
  ⟨⟨x, y, z⟩, rfl, below_cur2 h.gr⟩
set_option maxRecDepth 100000 in
set_option maxHeartbeats 3200000 in
theorem drawIsSq_any (zs : List Int) (v : Value) (B : Nat) (w : World) (hr : RdB zs v B w) (hB : B ≤ w.heap.size) :
    Calls Tryz.prog 126 #[v] w (RetDf w) := by
  obtain ⟨A, m, c, rfl⟩ := hr.shape
  have hD0 := Lib.hid (drw_start2 (.cells #[.int .i64 0, .int .i64 0, .int .i64 0] 36) hr)
  have hB1 : B ≤ w.heap.size + 1 := by omega
  clear hr
  have hfin := Lib.hid (fun x y z w' (h : Drw zs (.slice A m c) B (w.heap.size + 1) 58 w w') => retDf_mk x y z h)
  go_enter Tryz.func126, Tryz.ntmps126
  go_wp2_with fail
  refine (classForm_d (by repeat (first | with_reducible assumption | (with_reducible apply Hid.out; assumption) | with_reducible apply Drw.drewN | with_reducible apply Drw.drew | with_reducible apply Drw.alloc | (with_reducible refine Drw.setp ?_ ?_ ?_ ?_; (first | omega | (simp <;> omega)); (first | omega | (simp <;> omega)); (first | omega | (simp <;> omega))))) hB1 (by omega)).mono ?_
  rintro e v1 ⟨f1, rfl, hx1, hD1', hG1⟩
  have hD1 := Lib.hid hD1'
  have lG1 := hD1'.lt
  have zG1 := hG1.size
  (try simp at zG1)
  have hA1 : Blk v1 (w.heap.size) 36 #[.int .i64 0, .int .i64 0, .int .i64 0] := Blk.grown (by (repeat (first | with_reducible assumption | (with_reducible apply Blk.new_at; (first | rfl | (simp; done))) | with_reducible apply Blk.store3 | with_reducible apply Blk.store4 | (with_reducible apply Blk.farp; (first | omega | (simp <;> omega))) | with_reducible apply Blk.allocp | with_reducible apply Blk.drew | with_reducible apply Blk.drewN))) hG1 (by simp <;> omega)
  have cA1 := hA1.cell; have fA1 := hA1.frozen; have lA1 := hA1.lt; have mA1 := Nat.ne_of_gt lA1; have nA1 := Nat.ne_of_lt lA1
  clear hD1' hG1
  have hCG := Lib.hid (fun w => scls_any f1.a f1.b f1.c w)
  cases hc : isCls f1.a f1.b f1.c with
  | false =>
    rw [hc] at hCG
    clear hc
    go_wp2_with (go_at_call 127; (with_reducible refine (hCG.out _).mono ?_); rintro e v2 ⟨rfl, hB2⟩; have hZ2 := hB2.size; (try simp at hZ2); (try have zl2 : w.heap.size < v2.heap.size := by omega); (try have ze2 : w.heap.size ≤ v2.heap.size := by omega); (try have zn2 : ¬ w.heap.size = v2.heap.size := by omega); (try have zm2 : ¬ v2.heap.size = w.heap.size := by omega); have hA2 : Blk v2 (w.heap.size) 36 #[.int .i64 0, .int .i64 0, .int .i64 0] := Blk.call (by (repeat (first | with_reducible assumption | (with_reducible apply Blk.new_at; (first | rfl | (simp; done))) | with_reducible apply Blk.store3 | with_reducible apply Blk.store4 | (with_reducible apply Blk.farp; (first | omega | (simp <;> omega))) | with_reducible apply Blk.allocp | with_reducible apply Blk.drew | with_reducible apply Blk.drewN))) hB2; have cA2 := hA2.cell; have fA2 := hA2.frozen; have lA2 := hA2.lt; have mA2 := Nat.ne_of_gt lA2; have nA2 := Nat.ne_of_lt lA2; have hP2 : Blk v2 (v1.heap.size) 36 #[.int .i64 f1.a, .int .i64 f1.b, .int .i64 f1.c] := Blk.call (by (repeat (first | with_reducible assumption | (with_reducible apply Blk.new_at; (first | rfl | (simp; done))) | with_reducible apply Blk.store3 | with_reducible apply Blk.store4 | (with_reducible apply Blk.farp; (first | omega | (simp <;> omega))) | with_reducible apply Blk.allocp | with_reducible apply Blk.drew | with_reducible apply Blk.drewN))) hB2; have cP2 := hP2.cell; have fP2 := hP2.frozen; have lP2 := hP2.lt; have mP2 := Nat.ne_of_gt lP2; have nP2 := Nat.ne_of_lt lP2)
    have hD2 : Drw zs _ B (w.heap.size + 1) _ _ v2 := Drw.call (w := _) (by repeat (first | with_reducible assumption | (with_reducible apply Hid.out; assumption) | with_reducible apply Drw.drewN | with_reducible apply Drw.drew | with_reducible apply Drw.alloc | (with_reducible refine Drw.setp ?_ ?_ ?_ ?_; (first | omega | (simp <;> omega)); (first | omega | (simp <;> omega)); (first | omega | (simp <;> omega))))) hB1 hB2
    exact bodyPost_ret (v := .agg #[.int .i64 f1.a, .int .i64 f1.b, .int .i64 f1.c]) (by simp [results, Tryz.results126, go_sem, *]) rfl (hfin.out _ _ _ _ (Drw.more (n := 0 + 34) (by repeat (first | with_reducible assumption | (with_reducible apply Hid.out; assumption) | with_reducible apply Drw.drewN | with_reducible apply Drw.drew | with_reducible apply Drw.alloc | (with_reducible refine Drw.setp ?_ ?_ ?_ ?_; (first | omega | (simp <;> omega)); (first | omega | (simp <;> omega)); (first | omega | (simp <;> omega))))) (by omega)))
  | true =>
    rw [hc] at hCG
    have cf : CF (disc f1) f1 (red f1) := CF.of_cls hc
    have hM := Lib.hid (fun w => coMul_cf _ _ _ _ _ _ w cf cf rfl)
    generalize cmp (disc f1) (red f1) (red f1) = g at hM
    clear cf hc
    go_wp2_with (go_at_call 127; (with_reducible refine (hCG.out _).mono ?_); rintro e v2 ⟨rfl, hB2⟩; have hZ2 := hB2.size; (try simp at hZ2); (try have zl2 : w.heap.size < v2.heap.size := by omega); (try have ze2 : w.heap.size ≤ v2.heap.size := by omega); (try have zn2 : ¬ w.heap.size = v2.heap.size := by omega); (try have zm2 : ¬ v2.heap.size = w.heap.size := by omega); have hA2 : Blk v2 (w.heap.size) 36 #[.int .i64 0, .int .i64 0, .int .i64 0] := Blk.call (by (repeat (first | with_reducible assumption | (with_reducible apply Blk.new_at; (first | rfl | (simp; done))) | with_reducible apply Blk.store3 | with_reducible apply Blk.store4 | (with_reducible apply Blk.farp; (first | omega | (simp <;> omega))) | with_reducible apply Blk.allocp | with_reducible apply Blk.drew | with_reducible apply Blk.drewN))) hB2; have cA2 := hA2.cell; have fA2 := hA2.frozen; have lA2 := hA2.lt; have mA2 := Nat.ne_of_gt lA2; have nA2 := Nat.ne_of_lt lA2; have hP2 : Blk v2 (v1.heap.size) 36 #[.int .i64 f1.a, .int .i64 f1.b, .int .i64 f1.c] := Blk.call (by (repeat (first | with_reducible assumption | (with_reducible apply Blk.new_at; (first | rfl | (simp; done))) | with_reducible apply Blk.store3 | with_reducible apply Blk.store4 | (with_reducible apply Blk.farp; (first | omega | (simp <;> omega))) | with_reducible apply Blk.allocp | with_reducible apply Blk.drew | with_reducible apply Blk.drewN))) hB2; have cP2 := hP2.cell; have fP2 := hP2.frozen; have lP2 := hP2.lt; have mP2 := Nat.ne_of_gt lP2; have nP2 := Nat.ne_of_lt lP2)
    have hD2 : Drw zs _ B (w.heap.size + 1) _ _ v2 := Drw.call (w := _) (by repeat (first | with_reducible assumption | (with_reducible apply Hid.out; assumption) | with_reducible apply Drw.drewN | with_reducible apply Drw.drew | with_reducible apply Drw.alloc | (with_reducible refine Drw.setp ?_ ?_ ?_ ?_; (first | omega | (simp <;> omega)); (first | omega | (simp <;> omega)); (first | omega | (simp <;> omega))))) hB1 hB2
    go_wp2_with fail
    refine (one_d (by repeat (first | with_reducible assumption | (with_reducible apply Hid.out; assumption) | with_reducible apply Drw.drewN | with_reducible apply Drw.drew | with_reducible apply Drw.alloc | (with_reducible refine Drw.setp ?_ ?_ ?_ ?_; (first | omega | (simp <;> omega)); (first | omega | (simp <;> omega)); (first | omega | (simp <;> omega))))) hB1 3 (by omega) (by omega)).mono ?_
    rintro e v3 ⟨x3, rfl, hx3, hD3', hG3⟩
    have hD3 := Lib.hid hD3'
    have lG3 := hD3'.lt
    have zG3 := hG3.size
    (try simp at zG3)
    have hA3 : Blk v3 (w.heap.size) 36 #[.int .i64 0, .int .i64 0, .int .i64 0] := Blk.grown (by (repeat (first | with_reducible assumption | (with_reducible apply Blk.new_at; (first | rfl | (simp; done))) | with_reducible apply Blk.store3 | with_reducible apply Blk.store4 | (with_reducible apply Blk.farp; (first | omega | (simp <;> omega))) | with_reducible apply Blk.allocp | with_reducible apply Blk.drew | with_reducible apply Blk.drewN))) hG3 (by simp <;> omega)
    have cA3 := hA3.cell; have fA3 := hA3.frozen; have lA3 := hA3.lt; have mA3 := Nat.ne_of_gt lA3; have nA3 := Nat.ne_of_lt lA3
    have hP3 : Blk v3 (v1.heap.size) 36 #[.int .i64 f1.a, .int .i64 f1.b, .int .i64 f1.c] := Blk.grown (by (repeat (first | with_reducible assumption | (with_reducible apply Blk.new_at; (first | rfl | (simp; done))) | with_reducible apply Blk.store3 | with_reducible apply Blk.store4 | (with_reducible apply Blk.farp; (first | omega | (simp <;> omega))) | with_reducible apply Blk.allocp | with_reducible apply Blk.drew | with_reducible apply Blk.drewN))) hG3 (by simp <;> omega)
    have cP3 := hP3.cell; have fP3 := hP3.frozen; have lP3 := hP3.lt; have mP3 := Nat.ne_of_gt lP3; have nP3 := Nat.ne_of_lt lP3
    clear hD3' hG3
    cases x3 with
    | false =>
      go_wp2
      exact bodyPost_ret (v := .agg #[.int .i64 f1.a, .int .i64 f1.b, .int .i64 f1.c]) (by simp [results, Tryz.results126, go_sem, *]) rfl (hfin.out _ _ _ _ (Drw.more (n := 0 + 34 + 2) (by repeat (first | with_reducible assumption | (with_reducible apply Hid.out; assumption) | with_reducible apply Drw.drewN | with_reducible apply Drw.drew | with_reducible apply Drw.alloc | (with_reducible refine Drw.setp ?_ ?_ ?_ ?_; (first | omega | (simp <;> omega)); (first | omega | (simp <;> omega)); (first | omega | (simp <;> omega))))) (by omega)))
    | true =>
      go_wp2_with (go_at_call 174; (with_reducible refine (hM.out _).mono ?_); rintro e v4 ⟨rfl, hB4⟩; have hZ4 := hB4.size; (try simp at hZ4); (try have zl4 : w.heap.size < v4.heap.size := by omega); (try have ze4 : w.heap.size ≤ v4.heap.size := by omega); (try have zn4 : ¬ w.heap.size = v4.heap.size := by omega); (try have zm4 : ¬ v4.heap.size = w.heap.size := by omega); have hA4 : Blk v4 (w.heap.size) 36 #[.int .i64 0, .int .i64 0, .int .i64 0] := Blk.call (by (repeat (first | with_reducible assumption | (with_reducible apply Blk.new_at; (first | rfl | (simp; done))) | with_reducible apply Blk.store3 | with_reducible apply Blk.store4 | (with_reducible apply Blk.farp; (first | omega | (simp <;> omega))) | with_reducible apply Blk.allocp | with_reducible apply Blk.drew | with_reducible apply Blk.drewN))) hB4; have cA4 := hA4.cell; have fA4 := hA4.frozen; have lA4 := hA4.lt; have mA4 := Nat.ne_of_gt lA4; have nA4 := Nat.ne_of_lt lA4)
      have hD4 : Drw zs _ B (w.heap.size + 1) _ _ v4 := Drw.call (w := _) (by repeat (first | with_reducible assumption | (with_reducible apply Hid.out; assumption) | with_reducible apply Drw.drewN | with_reducible apply Drw.drew | with_reducible apply Drw.alloc | (with_reducible refine Drw.setp ?_ ?_ ?_ ?_; (first | omega | (simp <;> omega)); (first | omega | (simp <;> omega)); (first | omega | (simp <;> omega))))) hB1 hB4
      go_wp2_with fail
      refine (moved_d (by repeat (first | with_reducible assumption | (with_reducible apply Hid.out; assumption) | with_reducible apply Drw.drewN | with_reducible apply Drw.drew | with_reducible apply Drw.alloc | (with_reducible refine Drw.setp ?_ ?_ ?_ ?_; (first | omega | (simp <;> omega)); (first | omega | (simp <;> omega)); (first | omega | (simp <;> omega))))) hB1 (by omega) g).mono ?_
      rintro e v5 ⟨f5, rfl, hx5, hD5', hG5⟩
      have hD5 := Lib.hid hD5'
      have lG5 := hD5'.lt
      have zG5 := hG5.size
      (try simp at zG5)
      have hA5 : Blk v5 (w.heap.size) 36 #[.int .i64 0, .int .i64 0, .int .i64 0] := Blk.grown (by (repeat (first | with_reducible assumption | (with_reducible apply Blk.new_at; (first | rfl | (simp; done))) | with_reducible apply Blk.store3 | with_reducible apply Blk.store4 | (with_reducible apply Blk.farp; (first | omega | (simp <;> omega))) | with_reducible apply Blk.allocp | with_reducible apply Blk.drew | with_reducible apply Blk.drewN))) hG5 (by simp <;> omega)
      have cA5 := hA5.cell; have fA5 := hA5.frozen; have lA5 := hA5.lt; have mA5 := Nat.ne_of_gt lA5; have nA5 := Nat.ne_of_lt lA5
      clear hD5' hG5
      go_wp2
      exact bodyPost_ret (v := .agg #[.int .i64 f5.a, .int .i64 f5.b, .int .i64 f5.c]) (by simp [results, Tryz.results126, go_sem, *]) rfl (hfin.out _ _ _ _ (Drw.more (n := 0 + 34 + 2 + 22) (by repeat (first | with_reducible assumption | (with_reducible apply Hid.out; assumption) | with_reducible apply Drw.drewN | with_reducible apply Drw.drew | with_reducible apply Drw.alloc | (with_reducible refine Drw.setp ?_ ?_ ?_ ?_; (first | omega | (simp <;> omega)); (first | omega | (simp <;> omega)); (first | omega | (simp <;> omega))))) (by omega)))
end Go.Proofs.YteehcjjhkphdnaaGreat
