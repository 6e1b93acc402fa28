/- Contracts: drawn definite forms, class forms. -/
import Derived.Test.YteehcjjhkphdnaaGreatD7
namespace Go.Proofs.YteehcjjhkphdnaaGreat
open Go.RowKit

section
variable {zs : List Int} {v : Value} {B G n m : Nat} {w0 w w1 w2 : World}
theorem more_f {zs : List Int} {v : Value} {B G n m : Nat} {w0 w w' : World} {e : Ending} (hm : n ≤ m) (h : ∃ f : Fm, e = .returned (.agg #[.int .i64 f.a, .int .i64 f.b, .int .i64 f.c]) ∧ True ∧ Drw zs v B G n w0 w' ∧ w.grownBy w' (some G)) :
    ∃ f : Fm, e = .returned (.agg #[.int .i64 f.a, .int .i64 f.b, .int .i64 f.c]) ∧ True ∧ Drw zs v B G m w0 w' ∧ w.grownBy w' (some G) := by
  obtain ⟨f, h1, h2, h3, h4⟩ := h
  exact ⟨f, h1, h2, h3.more hm, h4⟩
set_option maxRecDepth 100000 in
set_option maxHeartbeats 1600000 in
theorem definite_d (h : Drw zs v B G n w0 w) (hB : B ≤ G) (hn : n + 32 ≤ 100000000) :
    Calls Tryz.prog 203 #[.pointer (some ⟨G, 0, none⟩)] w fun e w' => ∃ f : Fm, e = .returned (.agg #[.int .i64 f.a, .int .i64 f.b, .int .i64 f.c]) ∧ True ∧ Drw zs v B G (n + 32) w0 w' ∧ w.grownBy w' (some G) := by
  have H := Lib.hid h
  have lG0 := h.lt
  have hD0 := Lib.hid (Drw.start h.rd h.cur)
  clear h
  have hfin : Hid (∀ (x y z : Int) (w' : World), Drw zs v B G (n + 32) w w' → ∃ f : Fm, Ending.returned (.agg #[.int .i64 x, .int .i64 y, .int .i64 z]) = .returned (.agg #[.int .i64 f.a, .int .i64 f.b, .int .i64 f.c]) ∧ True ∧ Drw zs v B G (n + 32) w0 w' ∧ w.grownBy w' (some G)) :=
    Lib.hid (fun x y z w' hd => ⟨⟨x, y, z⟩, rfl, trivial, H.out.next hB hd.cur hd.gr, hd.gr⟩)
  go_enter Tryz.func203, Tryz.ntmps203
  go_wp2_with fail
  refine (pick_d (by repeat (first | with_reducible assumption | (with_reducible apply Hid.out; assumption) | with_reducible apply Drw.drewN | with_reducible apply Drw.drew | with_reducible apply Drw.alloc | (with_reducible refine Drw.setp ?_ ?_ ?_ ?_; (first | omega | (simp <;> omega)); (first | omega | (simp <;> omega)); (first | omega | (simp <;> omega))))) hB 12 (by omega) (by omega)).mono ?_
  rintro e v1 ⟨x1, rfl, hx1, hD1', hG1⟩
  have hD1 := Lib.hid hD1'
  have lG1 := hD1'.lt
  have zG1 := hG1.size
  (try simp at zG1)
  have hA1 : Blk v1 (w.heap.size) 36 #[.int .i64 0, .int .i64 0, .int .i64 0] := Blk.grown (by (repeat (first | with_reducible assumption | (with_reducible apply Blk.new_at; (first | rfl | (simp; done))) | with_reducible apply Blk.store3 | with_reducible apply Blk.store4 | (with_reducible apply Blk.farp; (first | omega | (simp <;> omega))) | with_reducible apply Blk.allocp | with_reducible apply Blk.drew | with_reducible apply Blk.drewN))) hG1 (by simp; omega)
  have cA1 := hA1.cell; have fA1 := hA1.frozen; have lA1 := hA1.lt; have mA1 := Nat.ne_of_gt lA1; have nA1 := Nat.ne_of_lt lA1
  clear hD1' hG1
  by_cases e0 : x1 = 0
  · subst e0
    clear hx1
    go_wp2_with fail
    refine (form_d (by repeat (first | with_reducible assumption | (with_reducible apply Hid.out; assumption) | with_reducible apply Drw.drewN | with_reducible apply Drw.drew | with_reducible apply Drw.alloc | (with_reducible refine Drw.setp ?_ ?_ ?_ ?_; (first | omega | (simp <;> omega)); (first | omega | (simp <;> omega)); (first | omega | (simp <;> omega))))) hB (by omega)).mono ?_
    rintro e v2 ⟨f2, rfl, hx2, hD2', hG2⟩
    have hD2 := Lib.hid hD2'
    have lG2 := hD2'.lt
    have zG2 := hG2.size
    (try simp at zG2)
    have hA2 : Blk v2 (w.heap.size) 36 #[.int .i64 0, .int .i64 0, .int .i64 0] := Blk.grown (by (repeat (first | with_reducible assumption | (with_reducible apply Blk.new_at; (first | rfl | (simp; done))) | with_reducible apply Blk.store3 | with_reducible apply Blk.store4 | (with_reducible apply Blk.farp; (first | omega | (simp <;> omega))) | with_reducible apply Blk.allocp | with_reducible apply Blk.drew | with_reducible apply Blk.drewN))) hG2 (by simp; omega)
    have cA2 := hA2.cell; have fA2 := hA2.frozen; have lA2 := hA2.lt; have mA2 := Nat.ne_of_gt lA2; have nA2 := Nat.ne_of_lt lA2
    clear hD2' hG2
    go_wp2
    exact bodyPost_ret (v := .agg #[.int .i64 f2.a, .int .i64 f2.b, .int .i64 f2.c]) (by simp [results, Tryz.results203, go_sem, *]) rfl (hfin.out _ _ _ _ (Drw.more (n := n + 2 + 26) (by repeat (first | with_reducible assumption | (with_reducible apply Hid.out; assumption) | with_reducible apply Drw.drewN | with_reducible apply Drw.drew | with_reducible apply Drw.alloc | (with_reducible refine Drw.setp ?_ ?_ ?_ ?_; (first | omega | (simp <;> omega)); (first | omega | (simp <;> omega)); (first | omega | (simp <;> omega))))) (by omega)))
  · have n0 : (x1 == 0) = false := by rw [beq_eq_false_iff_ne]; exact e0
    by_cases e1 : x1 = 1
    · subst e1
      clear hx1 e0 n0
      go_wp2_with fail
      refine (goodDisc_d (by repeat (first | with_reducible assumption | (with_reducible apply Hid.out; assumption) | with_reducible apply Drw.drewN | with_reducible apply Drw.drew | with_reducible apply Drw.alloc | (with_reducible refine Drw.setp ?_ ?_ ?_ ?_; (first | omega | (simp <;> omega)); (first | omega | (simp <;> omega)); (first | omega | (simp <;> omega))))) hB (by omega)).mono ?_
      rintro e v2 ⟨d2, rfl, hx2, hD2', hG2⟩
      have hD2 := Lib.hid hD2'
      have lG2 := hD2'.lt
      have zG2 := hG2.size
      (try simp at zG2)
      have hA2 : Blk v2 (w.heap.size) 36 #[.int .i64 0, .int .i64 0, .int .i64 0] := Blk.grown (by (repeat (first | with_reducible assumption | (with_reducible apply Blk.new_at; (first | rfl | (simp; done))) | with_reducible apply Blk.store3 | with_reducible apply Blk.store4 | (with_reducible apply Blk.farp; (first | omega | (simp <;> omega))) | with_reducible apply Blk.allocp | with_reducible apply Blk.drew | with_reducible apply Blk.drewN))) hG2 (by simp; omega)
      have cA2 := hA2.cell; have fA2 := hA2.frozen; have lA2 := hA2.lt; have mA2 := Nat.ne_of_gt lA2; have nA2 := Nat.ne_of_lt lA2
      clear hD2' hG2
      have HX2 := Lib.hid hx2
      clear hx2
      go_wp2_with fail
      refine (reduced_d (by repeat (first | with_reducible assumption | (with_reducible apply Hid.out; assumption) | with_reducible apply Drw.drewN | with_reducible apply Drw.drew | with_reducible apply Drw.alloc | (with_reducible refine Drw.setp ?_ ?_ ?_ ?_; (first | omega | (simp <;> omega)); (first | omega | (simp <;> omega)); (first | omega | (simp <;> omega))))) hB (by omega) d2 HX2.out).mono ?_
      rintro e v3 ⟨f3, rfl, hx3, hD3', hG3⟩
      have hD3 := Lib.hid hD3'
      have lG3 := hD3'.lt
      have zG3 := hG3.size
      (try simp at zG3)
      have hA3 : Blk v3 (w.heap.size) 36 #[.int .i64 0, .int .i64 0, .int .i64 0] := Blk.grown (by (repeat (first | with_reducible assumption | (with_reducible apply Blk.new_at; (first | rfl | (simp; done))) | with_reducible apply Blk.store3 | with_reducible apply Blk.store4 | (with_reducible apply Blk.farp; (first | omega | (simp <;> omega))) | with_reducible apply Blk.allocp | with_reducible apply Blk.drew | with_reducible apply Blk.drewN))) hG3 (by simp; omega)
      have cA3 := hA3.cell; have fA3 := hA3.frozen; have lA3 := hA3.lt; have mA3 := Nat.ne_of_gt lA3; have nA3 := Nat.ne_of_lt lA3
      clear hD3' hG3
      clear hx3
      go_wp2_with fail
      refine (pick_d (by repeat (first | with_reducible assumption | (with_reducible apply Hid.out; assumption) | with_reducible apply Drw.drewN | with_reducible apply Drw.drew | with_reducible apply Drw.alloc | (with_reducible refine Drw.setp ?_ ?_ ?_ ?_; (first | omega | (simp <;> omega)); (first | omega | (simp <;> omega)); (first | omega | (simp <;> omega))))) hB 5 (by omega) (by omega)).mono ?_
      rintro e v4 ⟨x4, rfl, hx4, hD4', hG4⟩
      have hD4 := Lib.hid hD4'
      have lG4 := hD4'.lt
      have zG4 := hG4.size
      (try simp at zG4)
      have hA4 : Blk v4 (w.heap.size) 36 #[.int .i64 0, .int .i64 0, .int .i64 0] := Blk.grown (by (repeat (first | with_reducible assumption | (with_reducible apply Blk.new_at; (first | rfl | (simp; done))) | with_reducible apply Blk.store3 | with_reducible apply Blk.store4 | (with_reducible apply Blk.farp; (first | omega | (simp <;> omega))) | with_reducible apply Blk.allocp | with_reducible apply Blk.drew | with_reducible apply Blk.drewN))) hG4 (by simp; omega)
      have cA4 := hA4.cell; have fA4 := hA4.frozen; have lA4 := hA4.lt; have mA4 := Nat.ne_of_gt lA4; have nA4 := Nat.ne_of_lt lA4
      have hP4 : Blk v4 (v3.heap.size) 36 #[.int .i64 f3.a, .int .i64 f3.b, .int .i64 f3.c] := Blk.grown (by (repeat (first | with_reducible assumption | (with_reducible apply Blk.new_at; (first | rfl | (simp; done))) | with_reducible apply Blk.store3 | with_reducible apply Blk.store4 | (with_reducible apply Blk.farp; (first | omega | (simp <;> omega))) | with_reducible apply Blk.allocp | with_reducible apply Blk.drew | with_reducible apply Blk.drewN))) hG4 (by simp; omega)
      have cP4 := hP4.cell; have fP4 := hP4.frozen; have lP4 := hP4.lt; have mP4 := Nat.ne_of_gt lP4; have nP4 := Nat.ne_of_lt lP4
      clear hD4' hG4
      go_wp2_with fail
      refine (moved_d (by repeat (first | with_reducible assumption | (with_reducible apply Hid.out; assumption) | with_reducible apply Drw.drewN | with_reducible apply Drw.drew | with_reducible apply Drw.alloc | (with_reducible refine Drw.setp ?_ ?_ ?_ ?_; (first | omega | (simp <;> omega)); (first | omega | (simp <;> omega)); (first | omega | (simp <;> omega))))) hB (by omega) ⟨_, _, _⟩).mono ?_
      rintro e v5 ⟨f5, rfl, hx5, hD5', hG5⟩
      have hD5 := Lib.hid hD5'
      have lG5 := hD5'.lt
      have zG5 := hG5.size
      (try simp at zG5)
      have hA5 : Blk v5 (w.heap.size) 36 #[.int .i64 0, .int .i64 0, .int .i64 0] := Blk.grown (by (repeat (first | with_reducible assumption | (with_reducible apply Blk.new_at; (first | rfl | (simp; done))) | with_reducible apply Blk.store3 | with_reducible apply Blk.store4 | (with_reducible apply Blk.farp; (first | omega | (simp <;> omega))) | with_reducible apply Blk.allocp | with_reducible apply Blk.drew | with_reducible apply Blk.drewN))) hG5 (by simp; omega)
      have cA5 := hA5.cell; have fA5 := hA5.frozen; have lA5 := hA5.lt; have mA5 := Nat.ne_of_gt lA5; have nA5 := Nat.ne_of_lt lA5
      clear hD5' hG5
      go_wp2
      exact bodyPost_ret (v := .agg #[.int .i64 f5.a, .int .i64 f5.b, .int .i64 f5.c]) (by simp [results, Tryz.results203, go_sem, *]) rfl (hfin.out _ _ _ _ (Drw.more (n := n + 2 + 4 + 2 + 2 + 22) (by repeat (first | with_reducible assumption | (with_reducible apply Hid.out; assumption) | with_reducible apply Drw.drewN | with_reducible apply Drw.drew | with_reducible apply Drw.alloc | (with_reducible refine Drw.setp ?_ ?_ ?_ ?_; (first | omega | (simp <;> omega)); (first | omega | (simp <;> omega)); (first | omega | (simp <;> omega))))) (by omega)))
    · have n1 : (x1 == 1) = false := by rw [beq_eq_false_iff_ne]; exact e1
      by_cases e2 : x1 = 2
      · subst e2
        clear hx1 e0 n0 e1 n1
        go_wp2_with fail
        refine (pick_d (by repeat (first | with_reducible assumption | (with_reducible apply Hid.out; assumption) | with_reducible apply Drw.drewN | with_reducible apply Drw.drew | with_reducible apply Drw.alloc | (with_reducible refine Drw.setp ?_ ?_ ?_ ?_; (first | omega | (simp <;> omega)); (first | omega | (simp <;> omega)); (first | omega | (simp <;> omega))))) hB 1000000 (by omega) (by omega)).mono ?_
        rintro e v3 ⟨x3, rfl, hx3, hD3', hG3⟩
        have hD3 := Lib.hid hD3'
        have lG3 := hD3'.lt
        have zG3 := hG3.size
        (try simp at zG3)
        have hA3 : Blk v3 (w.heap.size) 36 #[.int .i64 0, .int .i64 0, .int .i64 0] := Blk.grown (by (repeat (first | with_reducible assumption | (with_reducible apply Blk.new_at; (first | rfl | (simp; done))) | with_reducible apply Blk.store3 | with_reducible apply Blk.store4 | (with_reducible apply Blk.farp; (first | omega | (simp <;> omega))) | with_reducible apply Blk.allocp | with_reducible apply Blk.drew | with_reducible apply Blk.drewN))) hG3 (by simp; omega)
        have cA3 := hA3.cell; have fA3 := hA3.frozen; have lA3 := hA3.lt; have mA3 := Nat.ne_of_gt lA3; have nA3 := Nat.ne_of_lt lA3
        clear hD3' hG3
        go_wp2_with fail
        refine (pick_d (by repeat (first | with_reducible assumption | (with_reducible apply Hid.out; assumption) | with_reducible apply Drw.drewN | with_reducible apply Drw.drew | with_reducible apply Drw.alloc | (with_reducible refine Drw.setp ?_ ?_ ?_ ?_; (first | omega | (simp <;> omega)); (first | omega | (simp <;> omega)); (first | omega | (simp <;> omega))))) hB 1000001 (by omega) (by omega)).mono ?_
        rintro e v4 ⟨x4, rfl, hx4, hD4', hG4⟩
        have hD4 := Lib.hid hD4'
        have lG4 := hD4'.lt
        have zG4 := hG4.size
        (try simp at zG4)
        have hA4 : Blk v4 (w.heap.size) 36 #[.int .i64 0, .int .i64 0, .int .i64 0] := Blk.grown (by (repeat (first | with_reducible assumption | (with_reducible apply Blk.new_at; (first | rfl | (simp; done))) | with_reducible apply Blk.store3 | with_reducible apply Blk.store4 | (with_reducible apply Blk.farp; (first | omega | (simp <;> omega))) | with_reducible apply Blk.allocp | with_reducible apply Blk.drew | with_reducible apply Blk.drewN))) hG4 (by simp; omega)
        have cA4 := hA4.cell; have fA4 := hA4.frozen; have lA4 := hA4.lt; have mA4 := Nat.ne_of_gt lA4; have nA4 := Nat.ne_of_lt lA4
        clear hD4' hG4
        go_wp2_with fail
        refine (pick_d (by repeat (first | with_reducible assumption | (with_reducible apply Hid.out; assumption) | with_reducible apply Drw.drewN | with_reducible apply Drw.drew | with_reducible apply Drw.alloc | (with_reducible refine Drw.setp ?_ ?_ ?_ ?_; (first | omega | (simp <;> omega)); (first | omega | (simp <;> omega)); (first | omega | (simp <;> omega))))) hB 750001 (by omega) (by omega)).mono ?_
        rintro e v5 ⟨x5, rfl, hx5, hD5', hG5⟩
        have hD5 := Lib.hid hD5'
        have lG5 := hD5'.lt
        have zG5 := hG5.size
        (try simp at zG5)
        have hA5 : Blk v5 (w.heap.size) 36 #[.int .i64 0, .int .i64 0, .int .i64 0] := Blk.grown (by (repeat (first | with_reducible assumption | (with_reducible apply Blk.new_at; (first | rfl | (simp; done))) | with_reducible apply Blk.store3 | with_reducible apply Blk.store4 | (with_reducible apply Blk.farp; (first | omega | (simp <;> omega))) | with_reducible apply Blk.allocp | with_reducible apply Blk.drew | with_reducible apply Blk.drewN))) hG5 (by simp; omega)
        have cA5 := hA5.cell; have fA5 := hA5.frozen; have lA5 := hA5.lt; have mA5 := Nat.ne_of_gt lA5; have nA5 := Nat.ne_of_lt lA5
        clear hD5' hG5
        go_wp2
        exact bodyPost_ret (v := .agg #[.int .i64 (1 + x3), .int .i64 x4, .int .i64 (250000 + x5)]) (by simp [results, Tryz.results203, go_sem, *]) rfl (hfin.out _ _ _ _ (Drw.more (n := n + 2 + 2 + 2 + 2) (by repeat (first | with_reducible assumption | (with_reducible apply Hid.out; assumption) | with_reducible apply Drw.drewN | with_reducible apply Drw.drew | with_reducible apply Drw.alloc | (with_reducible refine Drw.setp ?_ ?_ ?_ ?_; (first | omega | (simp <;> omega)); (first | omega | (simp <;> omega)); (first | omega | (simp <;> omega))))) (by omega)))
      · have n2 : (x1 == 2) = false := by rw [beq_eq_false_iff_ne]; exact e2
        clear hx1 e0 e1 e2
        go_wp2_with fail
        refine (goodDisc_d (by repeat (first | with_reducible assumption | (with_reducible apply Hid.out; assumption) | with_reducible apply Drw.drewN | with_reducible apply Drw.drew | with_reducible apply Drw.alloc | (with_reducible refine Drw.setp ?_ ?_ ?_ ?_; (first | omega | (simp <;> omega)); (first | omega | (simp <;> omega)); (first | omega | (simp <;> omega))))) hB (by omega)).mono ?_
        rintro e v2 ⟨d2, rfl, hx2, hD2', hG2⟩
        have hD2 := Lib.hid hD2'
        have lG2 := hD2'.lt
        have zG2 := hG2.size
        (try simp at zG2)
        have hA2 : Blk v2 (w.heap.size) 36 #[.int .i64 0, .int .i64 0, .int .i64 0] := Blk.grown (by (repeat (first | with_reducible assumption | (with_reducible apply Blk.new_at; (first | rfl | (simp; done))) | with_reducible apply Blk.store3 | with_reducible apply Blk.store4 | (with_reducible apply Blk.farp; (first | omega | (simp <;> omega))) | with_reducible apply Blk.allocp | with_reducible apply Blk.drew | with_reducible apply Blk.drewN))) hG2 (by simp; omega)
        have cA2 := hA2.cell; have fA2 := hA2.frozen; have lA2 := hA2.lt; have mA2 := Nat.ne_of_gt lA2; have nA2 := Nat.ne_of_lt lA2
        clear hD2' hG2
        have HX2 := Lib.hid hx2
        clear hx2
        go_wp2_with fail
        refine (reduced_d (by repeat (first | with_reducible assumption | (with_reducible apply Hid.out; assumption) | with_reducible apply Drw.drewN | with_reducible apply Drw.drew | with_reducible apply Drw.alloc | (with_reducible refine Drw.setp ?_ ?_ ?_ ?_; (first | omega | (simp <;> omega)); (first | omega | (simp <;> omega)); (first | omega | (simp <;> omega))))) hB (by omega) d2 HX2.out).mono ?_
        rintro e v3 ⟨f3, rfl, hx3, hD3', hG3⟩
        have hD3 := Lib.hid hD3'
        have lG3 := hD3'.lt
        have zG3 := hG3.size
        (try simp at zG3)
        have hA3 : Blk v3 (w.heap.size) 36 #[.int .i64 0, .int .i64 0, .int .i64 0] := Blk.grown (by (repeat (first | with_reducible assumption | (with_reducible apply Blk.new_at; (first | rfl | (simp; done))) | with_reducible apply Blk.store3 | with_reducible apply Blk.store4 | (with_reducible apply Blk.farp; (first | omega | (simp <;> omega))) | with_reducible apply Blk.allocp | with_reducible apply Blk.drew | with_reducible apply Blk.drewN))) hG3 (by simp; omega)
        have cA3 := hA3.cell; have fA3 := hA3.frozen; have lA3 := hA3.lt; have mA3 := Nat.ne_of_gt lA3; have nA3 := Nat.ne_of_lt lA3
        clear hD3' hG3
        clear hx3
        go_wp2_with fail
        refine (moved_d (by repeat (first | with_reducible assumption | (with_reducible apply Hid.out; assumption) | with_reducible apply Drw.drewN | with_reducible apply Drw.drew | with_reducible apply Drw.alloc | (with_reducible refine Drw.setp ?_ ?_ ?_ ?_; (first | omega | (simp <;> omega)); (first | omega | (simp <;> omega)); (first | omega | (simp <;> omega))))) hB (by omega) f3).mono ?_
        rintro e v4 ⟨f4, rfl, hx4, hD4', hG4⟩
        have hD4 := Lib.hid hD4'
        have lG4 := hD4'.lt
        have zG4 := hG4.size
        (try simp at zG4)
        have hA4 : Blk v4 (w.heap.size) 36 #[.int .i64 0, .int .i64 0, .int .i64 0] := Blk.grown (by (repeat (first | with_reducible assumption | (with_reducible apply Blk.new_at; (first | rfl | (simp; done))) | with_reducible apply Blk.store3 | with_reducible apply Blk.store4 | (with_reducible apply Blk.farp; (first | omega | (simp <;> omega))) | with_reducible apply Blk.allocp | with_reducible apply Blk.drew | with_reducible apply Blk.drewN))) hG4 (by simp; omega)
        have cA4 := hA4.cell; have fA4 := hA4.frozen; have lA4 := hA4.lt; have mA4 := Nat.ne_of_gt lA4; have nA4 := Nat.ne_of_lt lA4
        clear hD4' hG4
        go_wp2
        exact bodyPost_ret (v := .agg #[.int .i64 f4.a, .int .i64 f4.b, .int .i64 f4.c]) (by simp [results, Tryz.results203, go_sem, *]) rfl (hfin.out _ _ _ _ (Drw.more (n := n + 2 + 4 + 2 + 22) (by repeat (first | with_reducible assumption | (with_reducible apply Hid.out; assumption) | with_reducible apply Drw.drewN | with_reducible apply Drw.drew | with_reducible apply Drw.alloc | (with_reducible refine Drw.setp ?_ ?_ ?_ ?_; (first | omega | (simp <;> omega)); (first | omega | (simp <;> omega)); (first | omega | (simp <;> omega))))) (by omega)))
set_option maxRecDepth 100000 in
set_option maxHeartbeats 1600000 in
theorem classForm_d (h : Drw zs v B G n w0 w) (hB : B ≤ G) (hn : n + 34 ≤ 100000000) :
    Calls Tryz.prog 146 #[.pointer (some ⟨G, 0, none⟩)] w fun e w' => ∃ f : Fm, e = .returned (.agg #[.int .i64 f.a, .int .i64 f.b, .int .i64 f.c]) ∧ True ∧ Drw zs v B G (n + 34) w0 w' ∧ w.grownBy w' (some G) := by
  have H := Lib.hid h
  have lG0 := h.lt
  have hD0 := Lib.hid (Drw.start h.rd h.cur)
  clear h
  have hfin : Hid (∀ (x y z : Int) (w' : World), Drw zs v B G (n + 34) w w' → ∃ f : Fm, Ending.returned (.agg #[.int .i64 x, .int .i64 y, .int .i64 z]) = .returned (.agg #[.int .i64 f.a, .int .i64 f.b, .int .i64 f.c]) ∧ True ∧ Drw zs v B G (n + 34) w0 w' ∧ w.grownBy w' (some G)) :=
    Lib.hid (fun x y z w' hd => ⟨⟨x, y, z⟩, rfl, trivial, H.out.next hB hd.cur hd.gr, hd.gr⟩)
  go_enter Tryz.func146, Tryz.ntmps146
  go_wp2_with fail
  refine (one_d (by repeat (first | with_reducible assumption | (with_reducible apply Hid.out; assumption) | with_reducible apply Drw.drewN | with_reducible apply Drw.drew | with_reducible apply Drw.alloc | (with_reducible refine Drw.setp ?_ ?_ ?_ ?_; (first | omega | (simp <;> omega)); (first | omega | (simp <;> omega)); (first | omega | (simp <;> omega))))) hB 12 (by omega) (by omega)).mono ?_
  rintro e v1 ⟨x1, rfl, hx1, hD1', hG1⟩
  have hD1 := Lib.hid hD1'
  have lG1 := hD1'.lt
  have zG1 := hG1.size
  (try simp at zG1)
  have hA1 : Blk v1 (w.heap.size) 36 #[.int .i64 0, .int .i64 0, .int .i64 0] := Blk.grown (by (repeat (first | with_reducible assumption | (with_reducible apply Blk.new_at; (first | rfl | (simp; done))) | with_reducible apply Blk.store3 | with_reducible apply Blk.store4 | (with_reducible apply Blk.farp; (first | omega | (simp <;> omega))) | with_reducible apply Blk.allocp | with_reducible apply Blk.drew | with_reducible apply Blk.drewN))) hG1 (by simp; omega)
  have cA1 := hA1.cell; have fA1 := hA1.frozen; have lA1 := hA1.lt; have mA1 := Nat.ne_of_gt lA1; have nA1 := Nat.ne_of_lt lA1
  clear hD1' hG1
  cases x1 with
  | true =>
    go_wp2_with fail
    refine (definite_d (by repeat (first | with_reducible assumption | (with_reducible apply Hid.out; assumption) | with_reducible apply Drw.drewN | with_reducible apply Drw.drew | with_reducible apply Drw.alloc | (with_reducible refine Drw.setp ?_ ?_ ?_ ?_; (first | omega | (simp <;> omega)); (first | omega | (simp <;> omega)); (first | omega | (simp <;> omega))))) hB (by omega)).mono ?_
    rintro e v2 ⟨f2, rfl, hx2, hD2', hG2⟩
    have hD2 := Lib.hid hD2'
    have lG2 := hD2'.lt
    have zG2 := hG2.size
    (try simp at zG2)
    have hA2 : Blk v2 (w.heap.size) 36 #[.int .i64 0, .int .i64 0, .int .i64 0] := Blk.grown (by (repeat (first | with_reducible assumption | (with_reducible apply Blk.new_at; (first | rfl | (simp; done))) | with_reducible apply Blk.store3 | with_reducible apply Blk.store4 | (with_reducible apply Blk.farp; (first | omega | (simp <;> omega))) | with_reducible apply Blk.allocp | with_reducible apply Blk.drew | with_reducible apply Blk.drewN))) hG2 (by simp; omega)
    have cA2 := hA2.cell; have fA2 := hA2.frozen; have lA2 := hA2.lt; have mA2 := Nat.ne_of_gt lA2; have nA2 := Nat.ne_of_lt lA2
    clear hD2' hG2
    go_wp2
    exact bodyPost_ret (v := .agg #[.int .i64 f2.a, .int .i64 f2.b, .int .i64 f2.c]) (by simp [results, Tryz.results146, go_sem, *]) rfl (hfin.out _ _ _ _ (Drw.more (n := n + 2 + 32) (by repeat (first | with_reducible assumption | (with_reducible apply Hid.out; assumption) | with_reducible apply Drw.drewN | with_reducible apply Drw.drew | with_reducible apply Drw.alloc | (with_reducible refine Drw.setp ?_ ?_ ?_ ?_; (first | omega | (simp <;> omega)); (first | omega | (simp <;> omega)); (first | omega | (simp <;> omega))))) (by omega)))
  | false =>
    go_wp2_with fail
    refine (goodDisc_d (by repeat (first | with_reducible assumption | (with_reducible apply Hid.out; assumption) | with_reducible apply Drw.drewN | with_reducible apply Drw.drew | with_reducible apply Drw.alloc | (with_reducible refine Drw.setp ?_ ?_ ?_ ?_; (first | omega | (simp <;> omega)); (first | omega | (simp <;> omega)); (first | omega | (simp <;> omega))))) hB (by omega)).mono ?_
    rintro e v2 ⟨d2, rfl, hx2, hD2', hG2⟩
    have hD2 := Lib.hid hD2'
    have lG2 := hD2'.lt
    have zG2 := hG2.size
    (try simp at zG2)
    have hA2 : Blk v2 (w.heap.size) 36 #[.int .i64 0, .int .i64 0, .int .i64 0] := Blk.grown (by (repeat (first | with_reducible assumption | (with_reducible apply Blk.new_at; (first | rfl | (simp; done))) | with_reducible apply Blk.store3 | with_reducible apply Blk.store4 | (with_reducible apply Blk.farp; (first | omega | (simp <;> omega))) | with_reducible apply Blk.allocp | with_reducible apply Blk.drew | with_reducible apply Blk.drewN))) hG2 (by simp; omega)
    have cA2 := hA2.cell; have fA2 := hA2.frozen; have lA2 := hA2.lt; have mA2 := Nat.ne_of_gt lA2; have nA2 := Nat.ne_of_lt lA2
    clear hD2' hG2
    have HX2 := Lib.hid hx2
    clear hx2
    go_wp2_with fail
    refine (reduced_d (by repeat (first | with_reducible assumption | (with_reducible apply Hid.out; assumption) | with_reducible apply Drw.drewN | with_reducible apply Drw.drew | with_reducible apply Drw.alloc | (with_reducible refine Drw.setp ?_ ?_ ?_ ?_; (first | omega | (simp <;> omega)); (first | omega | (simp <;> omega)); (first | omega | (simp <;> omega))))) hB (by omega) d2 HX2.out).mono ?_
    rintro e v3 ⟨f3, rfl, hx3, hD3', hG3⟩
    have hD3 := Lib.hid hD3'
    have lG3 := hD3'.lt
    have zG3 := hG3.size
    (try simp at zG3)
    have hA3 : Blk v3 (w.heap.size) 36 #[.int .i64 0, .int .i64 0, .int .i64 0] := Blk.grown (by (repeat (first | with_reducible assumption | (with_reducible apply Blk.new_at; (first | rfl | (simp; done))) | with_reducible apply Blk.store3 | with_reducible apply Blk.store4 | (with_reducible apply Blk.farp; (first | omega | (simp <;> omega))) | with_reducible apply Blk.allocp | with_reducible apply Blk.drew | with_reducible apply Blk.drewN))) hG3 (by simp; omega)
    have cA3 := hA3.cell; have fA3 := hA3.frozen; have lA3 := hA3.lt; have mA3 := Nat.ne_of_gt lA3; have nA3 := Nat.ne_of_lt lA3
    clear hD3' hG3
    clear hx3
    go_wp2_with fail
    refine (one_d (by repeat (first | with_reducible assumption | (with_reducible apply Hid.out; assumption) | with_reducible apply Drw.drewN | with_reducible apply Drw.drew | with_reducible apply Drw.alloc | (with_reducible refine Drw.setp ?_ ?_ ?_ ?_; (first | omega | (simp <;> omega)); (first | omega | (simp <;> omega)); (first | omega | (simp <;> omega))))) hB 2 (by omega) (by omega)).mono ?_
    rintro e v4 ⟨x4, rfl, hx4, hD4', hG4⟩
    have hD4 := Lib.hid hD4'
    have lG4 := hD4'.lt
    have zG4 := hG4.size
    (try simp at zG4)
    have hA4 : Blk v4 (w.heap.size) 36 #[.int .i64 0, .int .i64 0, .int .i64 0] := Blk.grown (by (repeat (first | with_reducible assumption | (with_reducible apply Blk.new_at; (first | rfl | (simp; done))) | with_reducible apply Blk.store3 | with_reducible apply Blk.store4 | (with_reducible apply Blk.farp; (first | omega | (simp <;> omega))) | with_reducible apply Blk.allocp | with_reducible apply Blk.drew | with_reducible apply Blk.drewN))) hG4 (by simp; omega)
    have cA4 := hA4.cell; have fA4 := hA4.frozen; have lA4 := hA4.lt; have mA4 := Nat.ne_of_gt lA4; have nA4 := Nat.ne_of_lt lA4
    have hP4 : Blk v4 (v3.heap.size) 36 #[.int .i64 f3.a, .int .i64 f3.b, .int .i64 f3.c] := Blk.grown (by (repeat (first | with_reducible assumption | (with_reducible apply Blk.new_at; (first | rfl | (simp; done))) | with_reducible apply Blk.store3 | with_reducible apply Blk.store4 | (with_reducible apply Blk.farp; (first | omega | (simp <;> omega))) | with_reducible apply Blk.allocp | with_reducible apply Blk.drew | with_reducible apply Blk.drewN))) hG4 (by simp; omega)
    have cP4 := hP4.cell; have fP4 := hP4.frozen; have lP4 := hP4.lt; have mP4 := Nat.ne_of_gt lP4; have nP4 := Nat.ne_of_lt lP4
    clear hD4' hG4
    cases x4 with
    | true =>
      go_wp2_with fail
      refine (moved_d (by repeat (first | with_reducible assumption | (with_reducible apply Hid.out; assumption) | with_reducible apply Drw.drewN | with_reducible apply Drw.drew | with_reducible apply Drw.alloc | (with_reducible refine Drw.setp ?_ ?_ ?_ ?_; (first | omega | (simp <;> omega)); (first | omega | (simp <;> omega)); (first | omega | (simp <;> omega))))) hB (by omega) f3).mono ?_
      rintro e v5 ⟨f5, rfl, hx5, hD5', hG5⟩
      have hD5 := Lib.hid hD5'
      have lG5 := hD5'.lt
      have zG5 := hG5.size
      (try simp at zG5)
      have hA5 : Blk v5 (w.heap.size) 36 #[.int .i64 0, .int .i64 0, .int .i64 0] := Blk.grown (by (repeat (first | with_reducible assumption | (with_reducible apply Blk.new_at; (first | rfl | (simp; done))) | with_reducible apply Blk.store3 | with_reducible apply Blk.store4 | (with_reducible apply Blk.farp; (first | omega | (simp <;> omega))) | with_reducible apply Blk.allocp | with_reducible apply Blk.drew | with_reducible apply Blk.drewN))) hG5 (by simp; omega)
      have cA5 := hA5.cell; have fA5 := hA5.frozen; have lA5 := hA5.lt; have mA5 := Nat.ne_of_gt lA5; have nA5 := Nat.ne_of_lt lA5
      clear hD5' hG5
      go_wp2
      exact bodyPost_ret (v := .agg #[.int .i64 f5.a, .int .i64 f5.b, .int .i64 f5.c]) (by simp [results, Tryz.results146, go_sem, *]) rfl (hfin.out _ _ _ _ (Drw.more (n := n + 2 + 4 + 2 + 2 + 22) (by repeat (first | with_reducible assumption | (with_reducible apply Hid.out; assumption) | with_reducible apply Drw.drewN | with_reducible apply Drw.drew | with_reducible apply Drw.alloc | (with_reducible refine Drw.setp ?_ ?_ ?_ ?_; (first | omega | (simp <;> omega)); (first | omega | (simp <;> omega)); (first | omega | (simp <;> omega))))) (by omega)))
    | false =>
      go_wp2
      exact bodyPost_ret (v := .agg #[.int .i64 f3.a, .int .i64 f3.b, .int .i64 f3.c]) (by simp [results, Tryz.results146, go_sem, *]) rfl (hfin.out _ _ _ _ (Drw.more (n := n + 2 + 4 + 2 + 2) (by repeat (first | with_reducible assumption | (with_reducible apply Hid.out; assumption) | with_reducible apply Drw.drewN | with_reducible apply Drw.drew | with_reducible apply Drw.alloc | (with_reducible refine Drw.setp ?_ ?_ ?_ ?_; (first | omega | (simp <;> omega)); (first | omega | (simp <;> omega)); (first | omega | (simp <;> omega))))) (by omega)))
end
end Go.Proofs.YteehcjjhkphdnaaGreat
