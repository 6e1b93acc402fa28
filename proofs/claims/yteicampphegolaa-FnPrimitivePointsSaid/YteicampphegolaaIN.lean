/- Contracts: drawn forms with values, drawn numbers. -/
import Derived.Test.YteicampphegolaaIM
namespace Go.Proofs.Yteicampphegolaa
open Go.RowKit

theorem w64_wrap (x : Int) : W64 (wrap64 x) := by unfold W64 wrap64; omega
section
variable {zs : List Int} {v : Value} {B G n m : Nat} {w0 w w1 w2 : World}
set_option maxRecDepth 100000 in
set_option maxHeartbeats 3200000 in
theorem valued_d (h : Drw zs v B G n w0 w) (hB : B ≤ G) (hn : n + 72 ≤ 100000000) :
    Calls Try.prog 177 #[.pointer (some ⟨G, 0, none⟩)] w fun e w' => ∃ x : Fm × Int, e = .returned (.tuple #[.agg #[.int .i64 x.1.a, .int .i64 x.1.b, .int .i64 x.1.c], .int .i64 x.2]) ∧ True ∧ Drw zs v B G (n + 72) w0 w' ∧ w.grownBy w' (some G) := by
  have H := Lib.hid h
  have lG0 := h.lt
  have hD0 := Lib.hid (Drw.start h.rd h.cur)
  clear h
  have hfin : Hid (∀ (a b c x : Int) (w' : World) (k : Nat), Drw zs v B G k w w' → k ≤ n + 72 → ∃ y : Fm × Int, Ending.returned (.tuple #[.agg #[.int .i64 a, .int .i64 b, .int .i64 c], .int .i64 x]) = .returned (.tuple #[.agg #[.int .i64 y.1.a, .int .i64 y.1.b, .int .i64 y.1.c], .int .i64 y.2]) ∧ True ∧ Drw zs v B G (n + 72) w0 w' ∧ w.grownBy w' (some G)) :=
    Lib.hid (fun a b c x w' k hd hk => ⟨(⟨a, b, c⟩, x), rfl, trivial, (H.out.next hB hd.cur hd.gr).more hk, hd.gr⟩)
  go_enter Try.func177, Try.ntmps177
  go_wp2_with fail
  refine (goodDisc_d (by repeat (first | with_reducible assumption | (with_reducible apply Hid.out; assumption) | with_reducible apply Drw.drewN | with_reducible apply Drw.drew | with_reducible apply Drw.alloc | (with_reducible refine Drw.setp ?_ ?_ ?_ ?_; (first | omega | (simp <;> omega)); (first | omega | (simp <;> omega)); (first | omega | (simp <;> omega))))) hB (by omega)).mono ?_
  rintro e v1 ⟨d1, rfl, hx1, hD1', hG1⟩
  have hD1 := Lib.hid hD1'
  have lG1 := hD1'.lt
  have zG1 := hG1.size
  (try simp at zG1)
  have hR1 : Blk v1 (w.heap.size) 35 #[.int .i64 0, .int .i64 0, .int .i64 0] := Blk.grown (by (repeat (first | with_reducible assumption | (with_reducible apply Blk.new_at; (first | rfl | (simp; done))) | with_reducible apply Blk.store3 | with_reducible apply Blk.store4 | (with_reducible apply Blk.farp; (first | omega | (simp <;> omega))) | with_reducible apply Blk.allocp | with_reducible apply Blk.drew | with_reducible apply Blk.drewN))) hG1 (by simp <;> omega)
  have cR1 := hR1.cell; have fR1 := hR1.frozen; have lR1 := hR1.lt; have mR1 := Nat.ne_of_gt lR1; have nR1 := Nat.ne_of_lt lR1
  clear hD1' hG1
  have HX1 := Lib.hid hx1
  clear hx1
  go_wp2_with fail
  refine (reduced_d (by repeat (first | with_reducible assumption | (with_reducible apply Hid.out; assumption) | with_reducible apply Drw.drewN | with_reducible apply Drw.drew | with_reducible apply Drw.alloc | (with_reducible refine Drw.setp ?_ ?_ ?_ ?_; (first | omega | (simp <;> omega)); (first | omega | (simp <;> omega)); (first | omega | (simp <;> omega))))) hB (by omega) d1 HX1.out).mono ?_
  rintro e v2 ⟨f2, rfl, hx2, hD2', hG2⟩
  have hD2 := Lib.hid hD2'
  have lG2 := hD2'.lt
  have zG2 := hG2.size
  (try simp at zG2)
  have hR2 : Blk v2 (w.heap.size) 35 #[.int .i64 0, .int .i64 0, .int .i64 0] := Blk.grown (by (repeat (first | with_reducible assumption | (with_reducible apply Blk.new_at; (first | rfl | (simp; done))) | with_reducible apply Blk.store3 | with_reducible apply Blk.store4 | (with_reducible apply Blk.farp; (first | omega | (simp <;> omega))) | with_reducible apply Blk.allocp | with_reducible apply Blk.drew | with_reducible apply Blk.drewN))) hG2 (by simp <;> omega)
  have cR2 := hR2.cell; have fR2 := hR2.frozen; have lR2 := hR2.lt; have mR2 := Nat.ne_of_gt lR2; have nR2 := Nat.ne_of_lt lR2
  clear hD2' hG2
  clear hx2
  go_wp2_with fail
  refine (moved_d (by repeat (first | with_reducible assumption | (with_reducible apply Hid.out; assumption) | with_reducible apply Drw.drewN | with_reducible apply Drw.drew | with_reducible apply Drw.alloc | (with_reducible refine Drw.setp ?_ ?_ ?_ ?_; (first | omega | (simp <;> omega)); (first | omega | (simp <;> omega)); (first | omega | (simp <;> omega))))) hB (by omega) f2).mono ?_
  rintro e v3 ⟨f3, rfl, hx3, hD3', hG3⟩
  have hD3 := Lib.hid hD3'
  have lG3 := hD3'.lt
  have zG3 := hG3.size
  (try simp at zG3)
  have hR3 : Blk v3 (w.heap.size) 35 #[.int .i64 0, .int .i64 0, .int .i64 0] := Blk.grown (by (repeat (first | with_reducible assumption | (with_reducible apply Blk.new_at; (first | rfl | (simp; done))) | with_reducible apply Blk.store3 | with_reducible apply Blk.store4 | (with_reducible apply Blk.farp; (first | omega | (simp <;> omega))) | with_reducible apply Blk.allocp | with_reducible apply Blk.drew | with_reducible apply Blk.drewN))) hG3 (by simp <;> omega)
  have cR3 := hR3.cell; have fR3 := hR3.frozen; have lR3 := hR3.lt; have mR3 := Nat.ne_of_gt lR3; have nR3 := Nat.ne_of_lt lR3
  clear hD3' hG3
  clear hD0 hD1 hD2
  go_wp2_with fail
  refine (pick_d (by repeat (first | with_reducible assumption | (with_reducible apply Hid.out; assumption) | with_reducible apply Drw.drewN | with_reducible apply Drw.drew | with_reducible apply Drw.alloc | (with_reducible refine Drw.setp ?_ ?_ ?_ ?_; (first | omega | (simp <;> omega)); (first | omega | (simp <;> omega)); (first | omega | (simp <;> omega))))) hB 12 (by omega) (by omega)).mono ?_
  rintro e v4 ⟨x4, rfl, hx4, hD4', hG4⟩
  have hD4 := Lib.hid hD4'
  have lG4 := hD4'.lt
  have zG4 := hG4.size
  (try simp at zG4)
  have hR4 : Blk v4 (w.heap.size) 35 #[.int .i64 0, .int .i64 0, .int .i64 0] := Blk.grown (by (repeat (first | with_reducible assumption | (with_reducible apply Blk.new_at; (first | rfl | (simp; done))) | with_reducible apply Blk.store3 | with_reducible apply Blk.store4 | (with_reducible apply Blk.farp; (first | omega | (simp <;> omega))) | with_reducible apply Blk.allocp | with_reducible apply Blk.drew | with_reducible apply Blk.drewN))) hG4 (by simp <;> omega)
  have cR4 := hR4.cell; have fR4 := hR4.frozen; have lR4 := hR4.lt; have mR4 := Nat.ne_of_gt lR4; have nR4 := Nat.ne_of_lt lR4
  have hP4 : Blk v4 (v3.heap.size) 35 #[.int .i64 f3.a, .int .i64 f3.b, .int .i64 f3.c] := Blk.grown (by (repeat (first | with_reducible assumption | (with_reducible apply Blk.new_at; (first | rfl | (simp; done))) | with_reducible apply Blk.store3 | with_reducible apply Blk.store4 | (with_reducible apply Blk.farp; (first | omega | (simp <;> omega))) | with_reducible apply Blk.allocp | with_reducible apply Blk.drew | with_reducible apply Blk.drewN))) hG4 (by simp <;> omega)
  have cP4 := hP4.cell; have fP4 := hP4.frozen; have lP4 := hP4.lt; have mP4 := Nat.ne_of_gt lP4; have nP4 := Nat.ne_of_lt lP4
  clear hD4' hG4
  by_cases e0 : x4 = 0
  · subst e0
    clear hx4
    go_wp2_with fail
    refine (definite_d (by repeat (first | with_reducible assumption | (with_reducible apply Hid.out; assumption) | with_reducible apply Drw.drewN | with_reducible apply Drw.drew | with_reducible apply Drw.alloc | (with_reducible refine Drw.setp ?_ ?_ ?_ ?_; (first | omega | (simp <;> omega)); (first | omega | (simp <;> omega)); (first | omega | (simp <;> omega))))) hB (by omega)).mono ?_
    rintro e v5 ⟨f5, rfl, hx5, hD5', hG5⟩
    have hD5 := Lib.hid hD5'
    have lG5 := hD5'.lt
    have zG5 := hG5.size
    (try simp at zG5)
    have hR5 : Blk v5 (w.heap.size) 35 #[.int .i64 0, .int .i64 0, .int .i64 0] := Blk.grown (by (repeat (first | with_reducible assumption | (with_reducible apply Blk.new_at; (first | rfl | (simp; done))) | with_reducible apply Blk.store3 | with_reducible apply Blk.store4 | (with_reducible apply Blk.farp; (first | omega | (simp <;> omega))) | with_reducible apply Blk.allocp | with_reducible apply Blk.drew | with_reducible apply Blk.drewN))) hG5 (by simp <;> omega)
    have cR5 := hR5.cell; have fR5 := hR5.frozen; have lR5 := hR5.lt; have mR5 := Nat.ne_of_gt lR5; have nR5 := Nat.ne_of_lt lR5
    have hP5 : Blk v5 (v3.heap.size) 35 #[.int .i64 f3.a, .int .i64 f3.b, .int .i64 f3.c] := Blk.grown (by (repeat (first | with_reducible assumption | (with_reducible apply Blk.new_at; (first | rfl | (simp; done))) | with_reducible apply Blk.store3 | with_reducible apply Blk.store4 | (with_reducible apply Blk.farp; (first | omega | (simp <;> omega))) | with_reducible apply Blk.allocp | with_reducible apply Blk.drew | with_reducible apply Blk.drewN))) hG5 (by simp <;> omega)
    have cP5 := hP5.cell; have fP5 := hP5.frozen; have lP5 := hP5.lt; have mP5 := Nat.ne_of_gt lP5; have nP5 := Nat.ne_of_lt lP5
    clear hD5' hG5
    go_wp2
    generalize hW : ((v5.setCell ⟨v3.heap.size, 0, none⟩ (.int .i64 f5.a)).setCell ⟨v3.heap.size, 1, none⟩ (.int .i64 f5.b)).setCell ⟨v3.heap.size, 2, none⟩ (.int .i64 f5.c) = W
    have hDW : Drw zs v B G (n + 4 + 2 + 22 + 2 + 32) w W := by rw [← hW]; exact (by repeat (first | with_reducible assumption | (with_reducible apply Hid.out; assumption) | with_reducible apply Drw.drewN | with_reducible apply Drw.drew | with_reducible apply Drw.alloc | (with_reducible refine Drw.setp ?_ ?_ ?_ ?_; (first | omega | (simp <;> omega)); (first | omega | (simp <;> omega)); (first | omega | (simp <;> omega)))))
    have hPW : Blk W (v3.heap.size) 35 #[.int .i64 f5.a, .int .i64 f5.b, .int .i64 f5.c] := by rw [← hW]; (repeat (first | with_reducible assumption | (with_reducible apply Blk.new_at; (first | rfl | (simp; done))) | with_reducible apply Blk.store3 | with_reducible apply Blk.store4 | (with_reducible apply Blk.farp; (first | omega | (simp <;> omega))) | with_reducible apply Blk.allocp | with_reducible apply Blk.drew | with_reducible apply Blk.drewN))
    have hRW : Blk W (w.heap.size) 35 #[.int .i64 0, .int .i64 0, .int .i64 0] := by rw [← hW]; (repeat (first | with_reducible assumption | (with_reducible apply Blk.new_at; (first | rfl | (simp; done))) | with_reducible apply Blk.store3 | with_reducible apply Blk.store4 | (with_reducible apply Blk.farp; (first | omega | (simp <;> omega))) | with_reducible apply Blk.allocp | with_reducible apply Blk.drew | with_reducible apply Blk.drewN))
    have cRW := hRW.cell; have fRW := hRW.frozen; have lRW := hRW.lt; have cPW := hPW.cell; have fPW := hPW.frozen; have lPW := hPW.lt; have nRW := Nat.ne_of_lt lRW; have nPW := Nat.ne_of_lt lPW
    clear hW
    go_region_with (go_at_call 169; refine (shown_d (n := n + 4 + 2 + 22 + 2 + 32) (w0 := w) (by repeat (first | with_reducible assumption | (with_reducible apply Hid.out; assumption) | with_reducible apply Drw.drewN | with_reducible apply Drw.drew | with_reducible apply Drw.alloc | (with_reducible refine Drw.setp ?_ ?_ ?_ ?_; (first | omega | (simp <;> omega)); (first | omega | (simp <;> omega)); (first | omega | (simp <;> omega))))) hB (by omega) ⟨f5.a, f5.b, f5.c⟩).mono ?_; rintro e v9 ⟨x9, rfl, _, hD9', hG9⟩; have hD9 := Lib.hid hD9'; have lG9 := hD9'.lt; have zG9 := hG9.size; (try simp at zG9); have hR9 : Blk v9 (w.heap.size) 35 #[.int .i64 0, .int .i64 0, .int .i64 0] := Blk.grown (by (repeat (first | with_reducible assumption | (with_reducible apply Blk.new_at; (first | rfl | (simp; done))) | with_reducible apply Blk.store3 | with_reducible apply Blk.store4 | (with_reducible apply Blk.farp; (first | omega | (simp <;> omega))) | with_reducible apply Blk.allocp | with_reducible apply Blk.drew | with_reducible apply Blk.drewN))) hG9 (by simp <;> omega); have cR9 := hR9.cell; have fR9 := hR9.frozen; have lR9 := hR9.lt; have mR9 := Nat.ne_of_gt lR9; have nR9 := Nat.ne_of_lt lR9; have hP9 : Blk v9 (v3.heap.size) 35 #[.int .i64 f5.a, .int .i64 f5.b, .int .i64 f5.c] := Blk.grown (by (repeat (first | with_reducible assumption | (with_reducible apply Blk.new_at; (first | rfl | (simp; done))) | with_reducible apply Blk.store3 | with_reducible apply Blk.store4 | (with_reducible apply Blk.farp; (first | omega | (simp <;> omega))) | with_reducible apply Blk.allocp | with_reducible apply Blk.drew | with_reducible apply Blk.drewN))) hG9 (by simp <;> omega); have cP9 := hP9.cell; have fP9 := hP9.frozen; have lP9 := hP9.lt; have mP9 := Nat.ne_of_gt lP9; have nP9 := Nat.ne_of_lt lP9; clear hD9' hG9)
    all_goals
      go_wp2
      exact bodyPost_ret (v := .tuple #[.agg #[.int .i64 f5.a, .int .i64 f5.b, .int .i64 f5.c], .int .i64 x9]) (by simp [results, Try.results177, go_sem, *]) rfl (hfin.out _ _ _ _ _ _ (Drw.more (n := n + 4 + 2 + 22 + 2 + 32 + 10) (by repeat (first | with_reducible assumption | (with_reducible apply Hid.out; assumption) | with_reducible apply Drw.drewN | with_reducible apply Drw.drew | with_reducible apply Drw.alloc | (with_reducible refine Drw.setp ?_ ?_ ?_ ?_; (first | omega | (simp <;> omega)); (first | omega | (simp <;> omega)); (first | omega | (simp <;> omega))))) (by omega)) (Nat.le_refl _))
  · have n0 : (x4 == 0) = false := by rw [beq_eq_false_iff_ne]; exact e0
    by_cases e1 : x4 = 1
    · subst e1
      clear hx4
      go_wp2_with fail
      refine (pick_d (by repeat (first | with_reducible assumption | (with_reducible apply Hid.out; assumption) | with_reducible apply Drw.drewN | with_reducible apply Drw.drew | with_reducible apply Drw.alloc | (with_reducible refine Drw.setp ?_ ?_ ?_ ?_; (first | omega | (simp <;> omega)); (first | omega | (simp <;> omega)); (first | omega | (simp <;> omega))))) hB 4 (by omega) (by omega)).mono ?_
      rintro e v5 ⟨x5, rfl, hx5, hD5', hG5⟩
      have hD5 := Lib.hid hD5'
      have lG5 := hD5'.lt
      have zG5 := hG5.size
      (try simp at zG5)
      have hR5 : Blk v5 (w.heap.size) 35 #[.int .i64 0, .int .i64 0, .int .i64 0] := Blk.grown (by (repeat (first | with_reducible assumption | (with_reducible apply Blk.new_at; (first | rfl | (simp; done))) | with_reducible apply Blk.store3 | with_reducible apply Blk.store4 | (with_reducible apply Blk.farp; (first | omega | (simp <;> omega))) | with_reducible apply Blk.allocp | with_reducible apply Blk.drew | with_reducible apply Blk.drewN))) hG5 (by simp <;> omega)
      have cR5 := hR5.cell; have fR5 := hR5.frozen; have lR5 := hR5.lt; have mR5 := Nat.ne_of_gt lR5; have nR5 := Nat.ne_of_lt lR5
      have hP5 : Blk v5 (v3.heap.size) 35 #[.int .i64 f3.a, .int .i64 f3.b, .int .i64 f3.c] := Blk.grown (by (repeat (first | with_reducible assumption | (with_reducible apply Blk.new_at; (first | rfl | (simp; done))) | with_reducible apply Blk.store3 | with_reducible apply Blk.store4 | (with_reducible apply Blk.farp; (first | omega | (simp <;> omega))) | with_reducible apply Blk.allocp | with_reducible apply Blk.drew | with_reducible apply Blk.drewN))) hG5 (by simp <;> omega)
      have cP5 := hP5.cell; have fP5 := hP5.frozen; have lP5 := hP5.lt; have mP5 := Nat.ne_of_gt lP5; have nP5 := Nat.ne_of_lt lP5
      clear hD5' hG5
      go_wp2
      generalize hW : ((v5.setCell ⟨v3.heap.size, 0, none⟩ (.int .i64 3)).setCell ⟨v3.heap.size, 1, none⟩ (.int .i64 x5)).setCell ⟨v3.heap.size, 2, none⟩ (.int .i64 3) = W
      have hDW : Drw zs v B G (n + 4 + 2 + 22 + 2 + 2) w W := by rw [← hW]; exact (by repeat (first | with_reducible assumption | (with_reducible apply Hid.out; assumption) | with_reducible apply Drw.drewN | with_reducible apply Drw.drew | with_reducible apply Drw.alloc | (with_reducible refine Drw.setp ?_ ?_ ?_ ?_; (first | omega | (simp <;> omega)); (first | omega | (simp <;> omega)); (first | omega | (simp <;> omega)))))
      have hPW : Blk W (v3.heap.size) 35 #[.int .i64 3, .int .i64 x5, .int .i64 3] := by rw [← hW]; (repeat (first | with_reducible assumption | (with_reducible apply Blk.new_at; (first | rfl | (simp; done))) | with_reducible apply Blk.store3 | with_reducible apply Blk.store4 | (with_reducible apply Blk.farp; (first | omega | (simp <;> omega))) | with_reducible apply Blk.allocp | with_reducible apply Blk.drew | with_reducible apply Blk.drewN))
      have hRW : Blk W (w.heap.size) 35 #[.int .i64 0, .int .i64 0, .int .i64 0] := by rw [← hW]; (repeat (first | with_reducible assumption | (with_reducible apply Blk.new_at; (first | rfl | (simp; done))) | with_reducible apply Blk.store3 | with_reducible apply Blk.store4 | (with_reducible apply Blk.farp; (first | omega | (simp <;> omega))) | with_reducible apply Blk.allocp | with_reducible apply Blk.drew | with_reducible apply Blk.drewN))
      have cRW := hRW.cell; have fRW := hRW.frozen; have lRW := hRW.lt; have cPW := hPW.cell; have fPW := hPW.frozen; have lPW := hPW.lt; have nRW := Nat.ne_of_lt lRW; have nPW := Nat.ne_of_lt lPW
      clear hW
      go_region_with (go_at_call 169; refine (shown_d (n := n + 4 + 2 + 22 + 2 + 2) (w0 := w) (by repeat (first | with_reducible assumption | (with_reducible apply Hid.out; assumption) | with_reducible apply Drw.drewN | with_reducible apply Drw.drew | with_reducible apply Drw.alloc | (with_reducible refine Drw.setp ?_ ?_ ?_ ?_; (first | omega | (simp <;> omega)); (first | omega | (simp <;> omega)); (first | omega | (simp <;> omega))))) hB (by omega) ⟨3, x5, 3⟩).mono ?_; rintro e v9 ⟨x9, rfl, _, hD9', hG9⟩; have hD9 := Lib.hid hD9'; have lG9 := hD9'.lt; have zG9 := hG9.size; (try simp at zG9); have hR9 : Blk v9 (w.heap.size) 35 #[.int .i64 0, .int .i64 0, .int .i64 0] := Blk.grown (by (repeat (first | with_reducible assumption | (with_reducible apply Blk.new_at; (first | rfl | (simp; done))) | with_reducible apply Blk.store3 | with_reducible apply Blk.store4 | (with_reducible apply Blk.farp; (first | omega | (simp <;> omega))) | with_reducible apply Blk.allocp | with_reducible apply Blk.drew | with_reducible apply Blk.drewN))) hG9 (by simp <;> omega); have cR9 := hR9.cell; have fR9 := hR9.frozen; have lR9 := hR9.lt; have mR9 := Nat.ne_of_gt lR9; have nR9 := Nat.ne_of_lt lR9; have hP9 : Blk v9 (v3.heap.size) 35 #[.int .i64 3, .int .i64 x5, .int .i64 3] := Blk.grown (by (repeat (first | with_reducible assumption | (with_reducible apply Blk.new_at; (first | rfl | (simp; done))) | with_reducible apply Blk.store3 | with_reducible apply Blk.store4 | (with_reducible apply Blk.farp; (first | omega | (simp <;> omega))) | with_reducible apply Blk.allocp | with_reducible apply Blk.drew | with_reducible apply Blk.drewN))) hG9 (by simp <;> omega); have cP9 := hP9.cell; have fP9 := hP9.frozen; have lP9 := hP9.lt; have mP9 := Nat.ne_of_gt lP9; have nP9 := Nat.ne_of_lt lP9; clear hD9' hG9)
      all_goals
        go_wp2
        exact bodyPost_ret (v := .tuple #[.agg #[.int .i64 3, .int .i64 x5, .int .i64 3], .int .i64 x9]) (by simp [results, Try.results177, go_sem, *]) rfl (hfin.out _ _ _ _ _ _ (Drw.more (n := n + 4 + 2 + 22 + 2 + 2 + 10) (by repeat (first | with_reducible assumption | (with_reducible apply Hid.out; assumption) | with_reducible apply Drw.drewN | with_reducible apply Drw.drew | with_reducible apply Drw.alloc | (with_reducible refine Drw.setp ?_ ?_ ?_ ?_; (first | omega | (simp <;> omega)); (first | omega | (simp <;> omega)); (first | omega | (simp <;> omega))))) (by omega)) (Nat.le_refl _))
    · have n1 : (x4 == 1) = false := by rw [beq_eq_false_iff_ne]; exact e1
      by_cases e2 : x4 = 2
      · subst e2
        clear hx4
        go_wp2_with fail
        refine (pick_d (by repeat (first | with_reducible assumption | (with_reducible apply Hid.out; assumption) | with_reducible apply Drw.drewN | with_reducible apply Drw.drew | with_reducible apply Drw.alloc | (with_reducible refine Drw.setp ?_ ?_ ?_ ?_; (first | omega | (simp <;> omega)); (first | omega | (simp <;> omega)); (first | omega | (simp <;> omega))))) hB 2 (by omega) (by omega)).mono ?_
        rintro e v5 ⟨x5, rfl, hx5, hD5', hG5⟩
        have hD5 := Lib.hid hD5'
        have lG5 := hD5'.lt
        have zG5 := hG5.size
        (try simp at zG5)
        have hR5 : Blk v5 (w.heap.size) 35 #[.int .i64 0, .int .i64 0, .int .i64 0] := Blk.grown (by (repeat (first | with_reducible assumption | (with_reducible apply Blk.new_at; (first | rfl | (simp; done))) | with_reducible apply Blk.store3 | with_reducible apply Blk.store4 | (with_reducible apply Blk.farp; (first | omega | (simp <;> omega))) | with_reducible apply Blk.allocp | with_reducible apply Blk.drew | with_reducible apply Blk.drewN))) hG5 (by simp <;> omega)
        have cR5 := hR5.cell; have fR5 := hR5.frozen; have lR5 := hR5.lt; have mR5 := Nat.ne_of_gt lR5; have nR5 := Nat.ne_of_lt lR5
        have hP5 : Blk v5 (v3.heap.size) 35 #[.int .i64 f3.a, .int .i64 f3.b, .int .i64 f3.c] := Blk.grown (by (repeat (first | with_reducible assumption | (with_reducible apply Blk.new_at; (first | rfl | (simp; done))) | with_reducible apply Blk.store3 | with_reducible apply Blk.store4 | (with_reducible apply Blk.farp; (first | omega | (simp <;> omega))) | with_reducible apply Blk.allocp | with_reducible apply Blk.drew | with_reducible apply Blk.drewN))) hG5 (by simp <;> omega)
        have cP5 := hP5.cell; have fP5 := hP5.frozen; have lP5 := hP5.lt; have mP5 := Nat.ne_of_gt lP5; have nP5 := Nat.ne_of_lt lP5
        clear hD5' hG5
        go_wp2_with fail
        refine (pick_d (by repeat (first | with_reducible assumption | (with_reducible apply Hid.out; assumption) | with_reducible apply Drw.drewN | with_reducible apply Drw.drew | with_reducible apply Drw.alloc | (with_reducible refine Drw.setp ?_ ?_ ?_ ?_; (first | omega | (simp <;> omega)); (first | omega | (simp <;> omega)); (first | omega | (simp <;> omega))))) hB 2 (by omega) (by omega)).mono ?_
        rintro e v6 ⟨x6, rfl, hx6, hD6', hG6⟩
        have hD6 := Lib.hid hD6'
        have lG6 := hD6'.lt
        have zG6 := hG6.size
        (try simp at zG6)
        have hR6 : Blk v6 (w.heap.size) 35 #[.int .i64 0, .int .i64 0, .int .i64 0] := Blk.grown (by (repeat (first | with_reducible assumption | (with_reducible apply Blk.new_at; (first | rfl | (simp; done))) | with_reducible apply Blk.store3 | with_reducible apply Blk.store4 | (with_reducible apply Blk.farp; (first | omega | (simp <;> omega))) | with_reducible apply Blk.allocp | with_reducible apply Blk.drew | with_reducible apply Blk.drewN))) hG6 (by simp <;> omega)
        have cR6 := hR6.cell; have fR6 := hR6.frozen; have lR6 := hR6.lt; have mR6 := Nat.ne_of_gt lR6; have nR6 := Nat.ne_of_lt lR6
        have hP6 : Blk v6 (v3.heap.size) 35 #[.int .i64 f3.a, .int .i64 f3.b, .int .i64 f3.c] := Blk.grown (by (repeat (first | with_reducible assumption | (with_reducible apply Blk.new_at; (first | rfl | (simp; done))) | with_reducible apply Blk.store3 | with_reducible apply Blk.store4 | (with_reducible apply Blk.farp; (first | omega | (simp <;> omega))) | with_reducible apply Blk.allocp | with_reducible apply Blk.drew | with_reducible apply Blk.drewN))) hG6 (by simp <;> omega)
        have cP6 := hP6.cell; have fP6 := hP6.frozen; have lP6 := hP6.lt; have mP6 := Nat.ne_of_gt lP6; have nP6 := Nat.ne_of_lt lP6
        clear hD6' hG6
        go_wp2
        generalize hW : ((v6.setCell ⟨v3.heap.size, 0, none⟩ (.int .i64 (1 + x5))).setCell ⟨v3.heap.size, 1, none⟩ (.int .i64 0)).setCell ⟨v3.heap.size, 2, none⟩ (.int .i64 (1 + x6)) = W
        have hDW : Drw zs v B G (n + 4 + 2 + 22 + 2 + 4) w W := by rw [← hW]; exact (by repeat (first | with_reducible assumption | (with_reducible apply Hid.out; assumption) | with_reducible apply Drw.drewN | with_reducible apply Drw.drew | with_reducible apply Drw.alloc | (with_reducible refine Drw.setp ?_ ?_ ?_ ?_; (first | omega | (simp <;> omega)); (first | omega | (simp <;> omega)); (first | omega | (simp <;> omega)))))
        have hPW : Blk W (v3.heap.size) 35 #[.int .i64 (1 + x5), .int .i64 0, .int .i64 (1 + x6)] := by rw [← hW]; (repeat (first | with_reducible assumption | (with_reducible apply Blk.new_at; (first | rfl | (simp; done))) | with_reducible apply Blk.store3 | with_reducible apply Blk.store4 | (with_reducible apply Blk.farp; (first | omega | (simp <;> omega))) | with_reducible apply Blk.allocp | with_reducible apply Blk.drew | with_reducible apply Blk.drewN))
        have hRW : Blk W (w.heap.size) 35 #[.int .i64 0, .int .i64 0, .int .i64 0] := by rw [← hW]; (repeat (first | with_reducible assumption | (with_reducible apply Blk.new_at; (first | rfl | (simp; done))) | with_reducible apply Blk.store3 | with_reducible apply Blk.store4 | (with_reducible apply Blk.farp; (first | omega | (simp <;> omega))) | with_reducible apply Blk.allocp | with_reducible apply Blk.drew | with_reducible apply Blk.drewN))
        have cRW := hRW.cell; have fRW := hRW.frozen; have lRW := hRW.lt; have cPW := hPW.cell; have fPW := hPW.frozen; have lPW := hPW.lt; have nRW := Nat.ne_of_lt lRW; have nPW := Nat.ne_of_lt lPW
        clear hW
        go_region_with (go_at_call 169; refine (shown_d (n := n + 4 + 2 + 22 + 2 + 4) (w0 := w) (by repeat (first | with_reducible assumption | (with_reducible apply Hid.out; assumption) | with_reducible apply Drw.drewN | with_reducible apply Drw.drew | with_reducible apply Drw.alloc | (with_reducible refine Drw.setp ?_ ?_ ?_ ?_; (first | omega | (simp <;> omega)); (first | omega | (simp <;> omega)); (first | omega | (simp <;> omega))))) hB (by omega) ⟨(1 + x5), 0, (1 + x6)⟩).mono ?_; rintro e v9 ⟨x9, rfl, _, hD9', hG9⟩; have hD9 := Lib.hid hD9'; have lG9 := hD9'.lt; have zG9 := hG9.size; (try simp at zG9); have hR9 : Blk v9 (w.heap.size) 35 #[.int .i64 0, .int .i64 0, .int .i64 0] := Blk.grown (by (repeat (first | with_reducible assumption | (with_reducible apply Blk.new_at; (first | rfl | (simp; done))) | with_reducible apply Blk.store3 | with_reducible apply Blk.store4 | (with_reducible apply Blk.farp; (first | omega | (simp <;> omega))) | with_reducible apply Blk.allocp | with_reducible apply Blk.drew | with_reducible apply Blk.drewN))) hG9 (by simp <;> omega); have cR9 := hR9.cell; have fR9 := hR9.frozen; have lR9 := hR9.lt; have mR9 := Nat.ne_of_gt lR9; have nR9 := Nat.ne_of_lt lR9; have hP9 : Blk v9 (v3.heap.size) 35 #[.int .i64 (1 + x5), .int .i64 0, .int .i64 (1 + x6)] := Blk.grown (by (repeat (first | with_reducible assumption | (with_reducible apply Blk.new_at; (first | rfl | (simp; done))) | with_reducible apply Blk.store3 | with_reducible apply Blk.store4 | (with_reducible apply Blk.farp; (first | omega | (simp <;> omega))) | with_reducible apply Blk.allocp | with_reducible apply Blk.drew | with_reducible apply Blk.drewN))) hG9 (by simp <;> omega); have cP9 := hP9.cell; have fP9 := hP9.frozen; have lP9 := hP9.lt; have mP9 := Nat.ne_of_gt lP9; have nP9 := Nat.ne_of_lt lP9; clear hD9' hG9)
        all_goals
          go_wp2
          exact bodyPost_ret (v := .tuple #[.agg #[.int .i64 (1 + x5), .int .i64 0, .int .i64 (1 + x6)], .int .i64 x9]) (by simp [results, Try.results177, go_sem, *]) rfl (hfin.out _ _ _ _ _ _ (Drw.more (n := n + 4 + 2 + 22 + 2 + 4 + 10) (by repeat (first | with_reducible assumption | (with_reducible apply Hid.out; assumption) | with_reducible apply Drw.drewN | with_reducible apply Drw.drew | with_reducible apply Drw.alloc | (with_reducible refine Drw.setp ?_ ?_ ?_ ?_; (first | omega | (simp <;> omega)); (first | omega | (simp <;> omega)); (first | omega | (simp <;> omega))))) (by omega)) (Nat.le_refl _))
      · have n2 : (x4 == 2) = false := by rw [beq_eq_false_iff_ne]; exact e2
        clear hx4 e0 e1 e2
        go_wp2
        go_region_with (go_at_call 169; refine (shown_d (n := n + 4 + 2 + 22 + 2 + 0) (w0 := w) (by repeat (first | with_reducible assumption | (with_reducible apply Hid.out; assumption) | with_reducible apply Drw.drewN | with_reducible apply Drw.drew | with_reducible apply Drw.alloc | (with_reducible refine Drw.setp ?_ ?_ ?_ ?_; (first | omega | (simp <;> omega)); (first | omega | (simp <;> omega)); (first | omega | (simp <;> omega))))) hB (by omega) ⟨f3.a, f3.b, f3.c⟩).mono ?_; rintro e v9 ⟨x9, rfl, _, hD9', hG9⟩; have hD9 := Lib.hid hD9'; have lG9 := hD9'.lt; have zG9 := hG9.size; (try simp at zG9); have hR9 : Blk v9 (w.heap.size) 35 #[.int .i64 0, .int .i64 0, .int .i64 0] := Blk.grown (by (repeat (first | with_reducible assumption | (with_reducible apply Blk.new_at; (first | rfl | (simp; done))) | with_reducible apply Blk.store3 | with_reducible apply Blk.store4 | (with_reducible apply Blk.farp; (first | omega | (simp <;> omega))) | with_reducible apply Blk.allocp | with_reducible apply Blk.drew | with_reducible apply Blk.drewN))) hG9 (by simp <;> omega); have cR9 := hR9.cell; have fR9 := hR9.frozen; have lR9 := hR9.lt; have mR9 := Nat.ne_of_gt lR9; have nR9 := Nat.ne_of_lt lR9; have hP9 : Blk v9 (v3.heap.size) 35 #[.int .i64 f3.a, .int .i64 f3.b, .int .i64 f3.c] := Blk.grown (by (repeat (first | with_reducible assumption | (with_reducible apply Blk.new_at; (first | rfl | (simp; done))) | with_reducible apply Blk.store3 | with_reducible apply Blk.store4 | (with_reducible apply Blk.farp; (first | omega | (simp <;> omega))) | with_reducible apply Blk.allocp | with_reducible apply Blk.drew | with_reducible apply Blk.drewN))) hG9 (by simp <;> omega); have cP9 := hP9.cell; have fP9 := hP9.frozen; have lP9 := hP9.lt; have mP9 := Nat.ne_of_gt lP9; have nP9 := Nat.ne_of_lt lP9; clear hD9' hG9)
        all_goals
          go_wp2
          exact bodyPost_ret (v := .tuple #[.agg #[.int .i64 f3.a, .int .i64 f3.b, .int .i64 f3.c], .int .i64 x9]) (by simp [results, Try.results177, go_sem, *]) rfl (hfin.out _ _ _ _ _ _ (Drw.more (n := n + 4 + 2 + 22 + 2 + 0 + 10) (by repeat (first | with_reducible assumption | (with_reducible apply Hid.out; assumption) | with_reducible apply Drw.drewN | with_reducible apply Drw.drew | with_reducible apply Drw.alloc | (with_reducible refine Drw.setp ?_ ?_ ?_ ?_; (first | omega | (simp <;> omega)); (first | omega | (simp <;> omega)); (first | omega | (simp <;> omega))))) (by omega)) (Nat.le_refl _))
set_option maxRecDepth 100000 in
set_option maxHeartbeats 1600000 in
theorem number_w (h : Drw zs v B G n w0 w) (hB : B ≤ G) (hn : n + 8 ≤ 100000000) :
    Calls Try.prog 179 #[.pointer (some ⟨G, 0, none⟩)] w fun e w' => ∃ x : Int, e = .returned (.int .i64 x) ∧ W64 x ∧ Drw zs v B G (n + 8) w0 w' ∧ w.grownBy w' (some G) := by
  have H := Lib.hid h
  have lG0 := h.lt
  have hD0 := Lib.hid (Drw.start h.rd h.cur)
  clear h
  have hfin : Hid (∀ (x : Int) (w' : World) (k : Nat), W64 x → Drw zs v B G k w w' → k ≤ n + 8 → ∃ y : Int, Ending.returned (.int .i64 x) = .returned (.int .i64 y) ∧ W64 y ∧ Drw zs v B G (n + 8) w0 w' ∧ w.grownBy w' (some G)) :=
    Lib.hid (fun x w' k h64 hd hk => ⟨x, rfl, h64, (H.out.next hB hd.cur hd.gr).more hk, hd.gr⟩)
  go_enter Try.func179, Try.ntmps179
  go_wp2_with fail
  refine (pick_d (by repeat (first | with_reducible assumption | (with_reducible apply Hid.out; assumption) | with_reducible apply Drw.drewN | with_reducible apply Drw.drew | with_reducible apply Drw.alloc | (with_reducible refine Drw.setp ?_ ?_ ?_ ?_; (first | omega | (simp <;> omega)); (first | omega | (simp <;> omega)); (first | omega | (simp <;> omega))))) hB 12 (by omega) (by omega)).mono ?_
  rintro e v1 ⟨x1, rfl, hx1, hD1', hG1⟩
  have hD1 := Lib.hid hD1'
  have lG1 := hD1'.lt
  have zG1 := hG1.size
  (try simp at zG1)
  clear hD1' hG1
  by_cases e0 : x1 = 0
  · subst e0
    clear hx1
    go_wp2_with fail
    refine (among_d (w := v1) (by repeat (first | with_reducible assumption | (with_reducible apply Hid.out; assumption) | with_reducible apply Drw.drewN | with_reducible apply Drw.drew | with_reducible apply Drw.alloc | (with_reducible refine Drw.setp ?_ ?_ ?_ ?_; (first | omega | (simp <;> omega)); (first | omega | (simp <;> omega)); (first | omega | (simp <;> omega))))) hB [0, 1, -1, 1000000, -1000000, 1000001, -1000001, -9223372036854775808, 9223372036854775807, 999983, 999999, 1000] W64 (by intro x hx; simp at hx; unfold W64; omega) (by decide) (by decide) (by omega)).mono ?_
    rintro e v2 ⟨x2, rfl, hx2, hD2', hG2⟩
    have hD2 := Lib.hid hD2'
    clear hD2' hG2
    go_wp2
    go_ret
    exact hfin.out _ _ _ hx2 (by repeat (first | with_reducible assumption | (with_reducible apply Hid.out; assumption) | with_reducible apply Drw.drewN | with_reducible apply Drw.drew | with_reducible apply Drw.alloc | (with_reducible refine Drw.setp ?_ ?_ ?_ ?_; (first | omega | (simp <;> omega)); (first | omega | (simp <;> omega)); (first | omega | (simp <;> omega))))) (by omega)
  · by_cases e1 : x1 = 1 ∨ x1 = 2
    · have e2 : (x1 == 1) = true ∨ (x1 == 1) = false ∧ (x1 == 2) = true := by
        rcases e1 with rfl | rfl
        · exact .inl rfl
        · exact .inr ⟨rfl, rfl⟩
      have n0 : (x1 == 0) = false := by rw [beq_eq_false_iff_ne]; exact e0
      clear e1 hx1 e0
      rcases e2 with e2 | ⟨e2, e3⟩
      all_goals
        go_wp2_with fail
        refine (pick_d (by repeat (first | with_reducible assumption | (with_reducible apply Hid.out; assumption) | with_reducible apply Drw.drewN | with_reducible apply Drw.drew | with_reducible apply Drw.alloc | (with_reducible refine Drw.setp ?_ ?_ ?_ ?_; (first | omega | (simp <;> omega)); (first | omega | (simp <;> omega)); (first | omega | (simp <;> omega))))) hB 50000 (by omega) (by omega)).mono ?_
        rintro e v2 ⟨x2, rfl, hx2, hD2', hG2⟩
        have hD2 := Lib.hid hD2'
        have lG2 := hD2'.lt
        have zG2 := hG2.size
        (try simp at zG2)
        clear hD2' hG2
        go_wp2_with fail
        refine (pick_d (by repeat (first | with_reducible assumption | (with_reducible apply Hid.out; assumption) | with_reducible apply Drw.drewN | with_reducible apply Drw.drew | with_reducible apply Drw.alloc | (with_reducible refine Drw.setp ?_ ?_ ?_ ?_; (first | omega | (simp <;> omega)); (first | omega | (simp <;> omega)); (first | omega | (simp <;> omega))))) hB 20 (by omega) (by omega)).mono ?_
        rintro e v3 ⟨x3, rfl, hx3, hD3', hG3⟩
        have hD3 := Lib.hid hD3'
        have lG3 := hD3'.lt
        have zG3 := hG3.size
        (try simp at zG3)
        clear hD3' hG3
        go_wp2_with fail
        refine (pick_d (by repeat (first | with_reducible assumption | (with_reducible apply Hid.out; assumption) | with_reducible apply Drw.drewN | with_reducible apply Drw.drew | with_reducible apply Drw.alloc | (with_reducible refine Drw.setp ?_ ?_ ?_ ?_; (first | omega | (simp <;> omega)); (first | omega | (simp <;> omega)); (first | omega | (simp <;> omega))))) hB 2 (by omega) (by omega)).mono ?_
        rintro e v4 ⟨x4, rfl, hx4, hD4', hG4⟩
        have hD4 := Lib.hid hD4'
        have lG4 := hD4'.lt
        have zG4 := hG4.size
        (try simp at zG4)
        clear hD4' hG4
        go_wp2
        go_ret
        exact hfin.out _ _ _ (by first | exact w64_wrap _ | (unfold W64; omega)) (by repeat (first | with_reducible assumption | (with_reducible apply Hid.out; assumption) | with_reducible apply Drw.drewN | with_reducible apply Drw.drew | with_reducible apply Drw.alloc | (with_reducible refine Drw.setp ?_ ?_ ?_ ?_; (first | omega | (simp <;> omega)); (first | omega | (simp <;> omega)); (first | omega | (simp <;> omega))))) (by omega)
    · by_cases e3 : x1 = 3 ∨ x1 = 4
      · have e2 : (x1 == 3) = true ∨ (x1 == 3) = false ∧ (x1 == 4) = true := by
          rcases e3 with rfl | rfl
          · exact .inl rfl
          · exact .inr ⟨rfl, rfl⟩
        have n0 : (x1 == 0) = false := by rw [beq_eq_false_iff_ne]; exact e0
        have n1 : (x1 == 1) = false := by rw [beq_eq_false_iff_ne]; omega
        have n2 : (x1 == 2) = false := by rw [beq_eq_false_iff_ne]; omega
        clear e1 hx1 e0 e3
        rcases e2 with e2 | ⟨e2, e3⟩
        all_goals
          go_wp2_with fail
          refine (pick_d (by repeat (first | with_reducible assumption | (with_reducible apply Hid.out; assumption) | with_reducible apply Drw.drewN | with_reducible apply Drw.drew | with_reducible apply Drw.alloc | (with_reducible refine Drw.setp ?_ ?_ ?_ ?_; (first | omega | (simp <;> omega)); (first | omega | (simp <;> omega)); (first | omega | (simp <;> omega))))) hB 2000 (by omega) (by omega)).mono ?_
          rintro e v2 ⟨x2, rfl, hx2, hD2', hG2⟩
          have hD2 := Lib.hid hD2'
          have lG2 := hD2'.lt
          have zG2 := hG2.size
          (try simp at zG2)
          clear hD2' hG2
          go_wp2
          go_ret
          exact hfin.out _ _ _ (by first | exact w64_wrap _ | (unfold W64; omega)) (by repeat (first | with_reducible assumption | (with_reducible apply Hid.out; assumption) | with_reducible apply Drw.drewN | with_reducible apply Drw.drew | with_reducible apply Drw.alloc | (with_reducible refine Drw.setp ?_ ?_ ?_ ?_; (first | omega | (simp <;> omega)); (first | omega | (simp <;> omega)); (first | omega | (simp <;> omega))))) (by omega)
      · have n0 : (x1 == 0) = false := by rw [beq_eq_false_iff_ne]; exact e0
        have n1 : (x1 == 1) = false := by rw [beq_eq_false_iff_ne]; omega
        have n2 : (x1 == 2) = false := by rw [beq_eq_false_iff_ne]; omega
        have n3 : (x1 == 3) = false := by rw [beq_eq_false_iff_ne]; omega
        have n4 : (x1 == 4) = false := by rw [beq_eq_false_iff_ne]; omega
        clear e1 hx1 e0 e3
        go_wp2_with fail
        refine (pick_d (by repeat (first | with_reducible assumption | (with_reducible apply Hid.out; assumption) | with_reducible apply Drw.drewN | with_reducible apply Drw.drew | with_reducible apply Drw.alloc | (with_reducible refine Drw.setp ?_ ?_ ?_ ?_; (first | omega | (simp <;> omega)); (first | omega | (simp <;> omega)); (first | omega | (simp <;> omega))))) hB 121 (by omega) (by omega)).mono ?_
        rintro e v2 ⟨x2, rfl, hx2, hD2', hG2⟩
        have hD2 := Lib.hid hD2'
        have lG2 := hD2'.lt
        have zG2 := hG2.size
        (try simp at zG2)
        clear hD2' hG2
        go_wp2
        go_ret
        exact hfin.out _ _ _ (by first | exact w64_wrap _ | (unfold W64; omega)) (by repeat (first | with_reducible assumption | (with_reducible apply Hid.out; assumption) | with_reducible apply Drw.drewN | with_reducible apply Drw.drew | with_reducible apply Drw.alloc | (with_reducible refine Drw.setp ?_ ?_ ?_ ?_; (first | omega | (simp <;> omega)); (first | omega | (simp <;> omega)); (first | omega | (simp <;> omega))))) (by omega)
end
end Go.Proofs.Yteicampphegolaa
