/- Contracts: the draws of the law on sublattices (written by gen_Y9.py). -/
import Derived.Test.YtblcmkhkbgikoaaGreatDZ
import Derived.Test.YtblcmkhkbgikoaaGreatDX
import Derived.Test.YtblcmkhkbgikoaaGreatN5
namespace Go.Proofs.YtblcmkhkbgikoaaGreat
open Go.RowKit

theorem drw_start {zs : List Int} {v : Value} {B : Nat} {w : World} (hr : RdB zs v B w) : Drw zs v B w.heap.size 0 (w.alloc (.cells #[v, .int .i64 0, .int .u64 0] 58)) (w.alloc (.cells #[v, .int .i64 0, .int .u64 0] 58)) :=
  Drw.start (hr.grown (grown_alloc _ _ none) (fun k hk => by cases hk)) cur_start
theorem drw_start2 {zs : List Int} {v : Value} {B : Nat} {w : World} (r : Obj) (hr : RdB zs v B w) : Drw zs v B (w.heap.size + 1) 0 w ((w.alloc r).alloc (.cells #[v, .int .i64 0, .int .u64 0] 58)) := by
  have h := drw_start (w := w.alloc r) (hr.grown (grown_alloc _ _ none) (fun k hk => by cases hk))
  refine ⟨h.rd, by simpa using h.cur, (grown_alloc _ _ _).trans (grown_alloc _ _ _)⟩
theorem below_cur2 {w w' : World} (h : w.grownBy w' (some (w.heap.size + 1))) : Below w.heap.size w w' :=
  (Below.refl w.heap.size w).grown h (Nat.le_refl _) (fun k hk => by injection hk with hk; omega)
theorem drw_start3 {zs : List Int} {v : Value} {B : Nat} {w : World} (r r2 : Obj) (hr : RdB zs v B w) : Drw zs v B (w.heap.size + 1 + 1) 0 w (((w.alloc r).alloc r2).alloc (.cells #[v, .int .i64 0, .int .u64 0] 58)) := by
  have h := drw_start2 (w := w.alloc r) r2 (hr.grown (grown_alloc _ _ none) (fun k hk => by cases hk))
  refine ⟨h.rd, by simpa using h.cur, (grown_alloc _ _ _).trans (by simpa using h.gr)⟩
theorem below_cur3 {w w' : World} (h : w.grownBy w' (some (w.heap.size + 1 + 1))) : Below w.heap.size w w' :=
  (Below.refl w.heap.size w).grown h (Nat.le_refl _) (fun k hk => by injection hk with hk; omega)
section
variable {zs : List Int} {v : Value} {B G n m : Nat} {w0 w w1 w2 : World}
theorem among_at (h : Drw zs v B G n w0 w) (hB : B ≤ G) (L : List Int) (P : Int → Prop) (hP : ∀ x ∈ L, P x) (h1 : 1 ≤ L.length) (h2 : L.length ≤ 1000) (hn : n + 2 ≤ 100000000) {N k : Nat} {xs : Array Value} (hN : N = w.heap.size) (hk : L.length = k) (hxs : (cellsI L).toArray = xs) :
    Calls Tryz.prog 19 #[.pointer (some ⟨G, 0, none⟩), .slice (some ⟨N, 0, none⟩) k k] (w.alloc (.cells xs 3)) fun e w' => ∃ x : Int, e = .returned (.int .i64 x) ∧ P x ∧ Drw zs v B G (n + 2) w0 w' ∧ w.grownBy w' (some G) := by
  subst hN hk hxs
  exact among_d h hB L P hP h1 h2 hn
end
section
variable {zs : List Int} {v : Value} {B G n m : Nat} {w0 w w1 w2 : World}
set_option maxRecDepth 100000 in
set_option maxHeartbeats 6400000 in
theorem lattice_d (h : Drw zs v B G n w0 w) (hB : B ≤ G) (hn : n + 30 ≤ 100000000) :
    Calls Tryz.prog 49 #[.pointer (some ⟨G, 0, none⟩)] w fun e w' => ∃ p : Int × Int × Int, e = .returned (.agg #[.int .i64 p.1, .int .i64 p.2.1, .int .i64 p.2.2]) ∧ True ∧ Drw zs v B G (n + 30) w0 w' ∧ w.grownBy w' (some G) := by
  have H := Lib.hid h
  have lG0 := h.lt
  have hD0 := Lib.hid (Drw.start h.rd h.cur)
  clear h
  have hfin : Hid (∀ (x y z : Int) (w' : World), Drw zs v B G (n + 30) w w' → ∃ p : Int × Int × Int, Ending.returned (.agg #[.int .i64 x, .int .i64 y, .int .i64 z]) = .returned (.agg #[.int .i64 p.1, .int .i64 p.2.1, .int .i64 p.2.2]) ∧ True ∧ Drw zs v B G (n + 30) w0 w' ∧ w.grownBy w' (some G)) :=
    Lib.hid (fun x y z w' hd => ⟨(x, y, z), rfl, trivial, H.out.next hB hd.cur hd.gr, hd.gr⟩)
  go_enter Tryz.func49, Tryz.ntmps49
  go_wp2_with fail
  refine (pick_d (by repeat (first | with_reducible assumption | (with_reducible apply Hid.out; assumption) | with_reducible apply Drw.drewN | with_reducible apply Drw.drew | with_reducible apply Drw.alloc | (with_reducible refine Drw.setp ?_ ?_ ?_ ?_; (first | omega | (simp <;> omega)); (first | omega | (simp <;> omega)); (first | omega | (simp <;> omega))))) hB 30 (by omega) (by omega)).mono ?_
  rintro e v1 ⟨x1, rfl, hx1, hD1', hG1⟩
  have hD1 := Lib.hid hD1'
  have lG1 := hD1'.lt
  have zG1 := hG1.size
  (try simp at zG1)
  have hA1 : Blk v1 (w.heap.size) 32 #[.int .i64 0, .int .i64 0, .int .i64 0] := Blk.grown (by (repeat (first | with_reducible assumption | (with_reducible apply Blk.new_at; (first | rfl | (simp; done))) | with_reducible apply Blk.store3 | with_reducible apply Blk.store4 | (with_reducible apply Blk.farp; (first | omega | (simp <;> omega))) | with_reducible apply Blk.allocp | with_reducible apply Blk.drew | with_reducible apply Blk.drewN))) hG1 (by simp <;> omega)
  have cA1 := hA1.cell; have fA1 := hA1.frozen; have lA1 := hA1.lt; have mA1 := Nat.ne_of_gt lA1; have nA1 := Nat.ne_of_lt lA1
  clear hD1' hG1
  go_wp2_with fail
  refine (pick_d (by repeat (first | with_reducible assumption | (with_reducible apply Hid.out; assumption) | with_reducible apply Drw.drewN | with_reducible apply Drw.drew | with_reducible apply Drw.alloc | (with_reducible refine Drw.setp ?_ ?_ ?_ ?_; (first | omega | (simp <;> omega)); (first | omega | (simp <;> omega)); (first | omega | (simp <;> omega))))) hB 30 (by omega) (by omega)).mono ?_
  rintro e v2 ⟨x2, rfl, hx2, hD2', hG2⟩
  have hD2 := Lib.hid hD2'
  have lG2 := hD2'.lt
  have zG2 := hG2.size
  (try simp at zG2)
  have hA2 : Blk v2 (w.heap.size) 32 #[.int .i64 0, .int .i64 0, .int .i64 0] := Blk.grown (by (repeat (first | with_reducible assumption | (with_reducible apply Blk.new_at; (first | rfl | (simp; done))) | with_reducible apply Blk.store3 | with_reducible apply Blk.store4 | (with_reducible apply Blk.farp; (first | omega | (simp <;> omega))) | with_reducible apply Blk.allocp | with_reducible apply Blk.drew | with_reducible apply Blk.drewN))) hG2 (by simp <;> omega)
  have cA2 := hA2.cell; have fA2 := hA2.frozen; have lA2 := hA2.lt; have mA2 := Nat.ne_of_gt lA2; have nA2 := Nat.ne_of_lt lA2
  clear hD2' hG2
  go_wp2_with fail
  refine (pick_d (by repeat (first | with_reducible assumption | (with_reducible apply Hid.out; assumption) | with_reducible apply Drw.drewN | with_reducible apply Drw.drew | with_reducible apply Drw.alloc | (with_reducible refine Drw.setp ?_ ?_ ?_ ?_; (first | omega | (simp <;> omega)); (first | omega | (simp <;> omega)); (first | omega | (simp <;> omega))))) hB 16 (by omega) (by omega)).mono ?_
  rintro e v3 ⟨x3, rfl, hx3, hD3', hG3⟩
  have hD3 := Lib.hid hD3'
  have lG3 := hD3'.lt
  have zG3 := hG3.size
  (try simp at zG3)
  have hA3 : Blk v3 (w.heap.size) 32 #[.int .i64 0, .int .i64 0, .int .i64 0] := Blk.grown (by (repeat (first | with_reducible assumption | (with_reducible apply Blk.new_at; (first | rfl | (simp; done))) | with_reducible apply Blk.store3 | with_reducible apply Blk.store4 | (with_reducible apply Blk.farp; (first | omega | (simp <;> omega))) | with_reducible apply Blk.allocp | with_reducible apply Blk.drew | with_reducible apply Blk.drewN))) hG3 (by simp <;> omega)
  have cA3 := hA3.cell; have fA3 := hA3.frozen; have lA3 := hA3.lt; have mA3 := Nat.ne_of_gt lA3; have nA3 := Nat.ne_of_lt lA3
  clear hD3' hG3
  have W1 := Lib.hid (show wrap64 (1 + x1) = 1 + x1 from IntWalk.wrap64_in _ (by omega))
  have W2 := Lib.hid (show wrap64 (1 + x2) = 1 + x2 from IntWalk.wrap64_in _ (by omega))
  by_cases e0 : x3 = 0
  · subst e0
    clear hx3
    go_wp2_with fail
    refine (number_d (by repeat (first | with_reducible assumption | (with_reducible apply Hid.out; assumption) | with_reducible apply Drw.drewN | with_reducible apply Drw.drew | with_reducible apply Drw.alloc | (with_reducible refine Drw.setp ?_ ?_ ?_ ?_; (first | omega | (simp <;> omega)); (first | omega | (simp <;> omega)); (first | omega | (simp <;> omega))))) hB (by omega)).mono ?_
    rintro e v4 ⟨x4, rfl, hx4, hD4', hG4⟩
    have hD4 := Lib.hid hD4'
    have lG4 := hD4'.lt
    have zG4 := hG4.size
    (try simp at zG4)
    have hA4 : Blk v4 (w.heap.size) 32 #[.int .i64 0, .int .i64 0, .int .i64 0] := Blk.grown (by (repeat (first | with_reducible assumption | (with_reducible apply Blk.new_at; (first | rfl | (simp; done))) | with_reducible apply Blk.store3 | with_reducible apply Blk.store4 | (with_reducible apply Blk.farp; (first | omega | (simp <;> omega))) | with_reducible apply Blk.allocp | with_reducible apply Blk.drew | with_reducible apply Blk.drewN))) hG4 (by simp <;> omega)
    have cA4 := hA4.cell; have fA4 := hA4.frozen; have lA4 := hA4.lt; have mA4 := Nat.ne_of_gt lA4; have nA4 := Nat.ne_of_lt lA4
    clear hD4' hG4
    go_wp2_with fail
    refine (number_d (by repeat (first | with_reducible assumption | (with_reducible apply Hid.out; assumption) | with_reducible apply Drw.drewN | with_reducible apply Drw.drew | with_reducible apply Drw.alloc | (with_reducible refine Drw.setp ?_ ?_ ?_ ?_; (first | omega | (simp <;> omega)); (first | omega | (simp <;> omega)); (first | omega | (simp <;> omega))))) hB (by omega)).mono ?_
    rintro e v5 ⟨x5, rfl, hx5, hD5', hG5⟩
    have hD5 := Lib.hid hD5'
    have lG5 := hD5'.lt
    have zG5 := hG5.size
    (try simp at zG5)
    have hA5 : Blk v5 (w.heap.size) 32 #[.int .i64 0, .int .i64 0, .int .i64 0] := Blk.grown (by (repeat (first | with_reducible assumption | (with_reducible apply Blk.new_at; (first | rfl | (simp; done))) | with_reducible apply Blk.store3 | with_reducible apply Blk.store4 | (with_reducible apply Blk.farp; (first | omega | (simp <;> omega))) | with_reducible apply Blk.allocp | with_reducible apply Blk.drew | with_reducible apply Blk.drewN))) hG5 (by simp <;> omega)
    have cA5 := hA5.cell; have fA5 := hA5.frozen; have lA5 := hA5.lt; have mA5 := Nat.ne_of_gt lA5; have nA5 := Nat.ne_of_lt lA5
    clear hD5' hG5
    go_wp2_with fail
    refine (number_d (by repeat (first | with_reducible assumption | (with_reducible apply Hid.out; assumption) | with_reducible apply Drw.drewN | with_reducible apply Drw.drew | with_reducible apply Drw.alloc | (with_reducible refine Drw.setp ?_ ?_ ?_ ?_; (first | omega | (simp <;> omega)); (first | omega | (simp <;> omega)); (first | omega | (simp <;> omega))))) hB (by omega)).mono ?_
    rintro e v6 ⟨x6, rfl, hx6, hD6', hG6⟩
    have hD6 := Lib.hid hD6'
    have lG6 := hD6'.lt
    have zG6 := hG6.size
    (try simp at zG6)
    have hA6 : Blk v6 (w.heap.size) 32 #[.int .i64 0, .int .i64 0, .int .i64 0] := Blk.grown (by (repeat (first | with_reducible assumption | (with_reducible apply Blk.new_at; (first | rfl | (simp; done))) | with_reducible apply Blk.store3 | with_reducible apply Blk.store4 | (with_reducible apply Blk.farp; (first | omega | (simp <;> omega))) | with_reducible apply Blk.allocp | with_reducible apply Blk.drew | with_reducible apply Blk.drewN))) hG6 (by simp <;> omega)
    have cA6 := hA6.cell; have fA6 := hA6.frozen; have lA6 := hA6.lt; have mA6 := Nat.ne_of_gt lA6; have nA6 := Nat.ne_of_lt lA6
    clear hD6' hG6
    go_wp2
    exact bodyPost_ret (v := .agg #[.int .i64 (x4), .int .i64 (x5), .int .i64 (x6)]) (by simp [results, Tryz.results49, go_sem, *]) rfl (hfin.out _ _ _ _ (Drw.more (n := n + 2 + 2 + 2 + 8 + 8 + 8) (by repeat (first | with_reducible assumption | (with_reducible apply Hid.out; assumption) | with_reducible apply Drw.drewN | with_reducible apply Drw.drew | with_reducible apply Drw.alloc | (with_reducible refine Drw.setp ?_ ?_ ?_ ?_; (first | omega | (simp <;> omega)); (first | omega | (simp <;> omega)); (first | omega | (simp <;> omega))))) (by omega)))
  have n0 : (x3 == 0) = false := by rw [beq_eq_false_iff_ne]; exact e0
  by_cases e1 : x3 = 1
  · subst e1
    clear hx3
    go_wp2_with fail
    refine (among_at (w := v3) (by repeat (first | with_reducible assumption | (with_reducible apply Hid.out; assumption) | with_reducible apply Drw.drewN | with_reducible apply Drw.drew | with_reducible apply Drw.alloc | (with_reducible refine Drw.setp ?_ ?_ ?_ ?_; (first | omega | (simp <;> omega)); (first | omega | (simp <;> omega)); (first | omega | (simp <;> omega))))) hB [1000, 1001, 1, 999] (fun x => 1 ≤ x ∧ x ≤ 1001) (by simp) (by simp) (by simp) (by omega) rfl rfl rfl).mono ?_
    rintro e v4 ⟨x4, rfl, hx4, hD4', hG4⟩
    have hD4 := Lib.hid hD4'
    have lG4 := hD4'.lt
    have zG4 := hG4.size
    (try simp at zG4)
    have hA4 : Blk v4 w.heap.size 32 #[.int .i64 0, .int .i64 0, .int .i64 0] := Blk.grown (by (repeat (first | with_reducible assumption | (with_reducible apply Blk.new_at; (first | rfl | (simp; done))) | with_reducible apply Blk.store3 | with_reducible apply Blk.store4 | (with_reducible apply Blk.farp; (first | omega | (simp <;> omega))) | with_reducible apply Blk.allocp | with_reducible apply Blk.drew | with_reducible apply Blk.drewN))) hG4 (by simp <;> omega)
    have cA4 := hA4.cell; have fA4 := hA4.frozen; have lA4 := hA4.lt; have mA4 := Nat.ne_of_gt lA4; have nA4 := Nat.ne_of_lt lA4
    clear hD4' hG4
    go_wp2_with fail
    refine (pick_d (by repeat (first | with_reducible assumption | (with_reducible apply Hid.out; assumption) | with_reducible apply Drw.drewN | with_reducible apply Drw.drew | with_reducible apply Drw.alloc | (with_reducible refine Drw.setp ?_ ?_ ?_ ?_; (first | omega | (simp <;> omega)); (first | omega | (simp <;> omega)); (first | omega | (simp <;> omega))))) hB x4 (by omega) (by omega)).mono ?_
    rintro e v5 ⟨x5, rfl, hx5, hD5', hG5⟩
    have hD5 := Lib.hid hD5'
    have lG5 := hD5'.lt
    have zG5 := hG5.size
    (try simp at zG5)
    have hA5 : Blk v5 (w.heap.size) 32 #[.int .i64 0, .int .i64 0, .int .i64 0] := Blk.grown (by (repeat (first | with_reducible assumption | (with_reducible apply Blk.new_at; (first | rfl | (simp; done))) | with_reducible apply Blk.store3 | with_reducible apply Blk.store4 | (with_reducible apply Blk.farp; (first | omega | (simp <;> omega))) | with_reducible apply Blk.allocp | with_reducible apply Blk.drew | with_reducible apply Blk.drewN))) hG5 (by simp <;> omega)
    have cA5 := hA5.cell; have fA5 := hA5.frozen; have lA5 := hA5.lt; have mA5 := Nat.ne_of_gt lA5; have nA5 := Nat.ne_of_lt lA5
    clear hD5' hG5
    go_wp2
    exact bodyPost_ret (v := .agg #[.int .i64 (x4), .int .i64 (x5), .int .i64 (1 + x2)]) (by simp [results, Tryz.results49, go_sem, *]) rfl (hfin.out _ _ _ _ (Drw.more (n := n + 2 + 2 + 2 + 2 + 2) (by repeat (first | with_reducible assumption | (with_reducible apply Hid.out; assumption) | with_reducible apply Drw.drewN | with_reducible apply Drw.drew | with_reducible apply Drw.alloc | (with_reducible refine Drw.setp ?_ ?_ ?_ ?_; (first | omega | (simp <;> omega)); (first | omega | (simp <;> omega)); (first | omega | (simp <;> omega))))) (by omega)))
  have n1 : (x3 == 1) = false := by rw [beq_eq_false_iff_ne]; exact e1
  by_cases e2 : x3 = 2
  · subst e2
    clear hx3
    go_wp2_with fail
    refine (among_at (w := v3) (by repeat (first | with_reducible assumption | (with_reducible apply Hid.out; assumption) | with_reducible apply Drw.drewN | with_reducible apply Drw.drew | with_reducible apply Drw.alloc | (with_reducible refine Drw.setp ?_ ?_ ?_ ?_; (first | omega | (simp <;> omega)); (first | omega | (simp <;> omega)); (first | omega | (simp <;> omega))))) hB [1000, 1001, 0, 999] (fun x => 0 ≤ x ∧ x ≤ 1001) (by simp) (by simp) (by simp) (by omega) rfl rfl rfl).mono ?_
    rintro e v4 ⟨x4, rfl, hx4, hD4', hG4⟩
    have hD4 := Lib.hid hD4'
    have lG4 := hD4'.lt
    have zG4 := hG4.size
    (try simp at zG4)
    have hA4 : Blk v4 w.heap.size 32 #[.int .i64 0, .int .i64 0, .int .i64 0] := Blk.grown (by (repeat (first | with_reducible assumption | (with_reducible apply Blk.new_at; (first | rfl | (simp; done))) | with_reducible apply Blk.store3 | with_reducible apply Blk.store4 | (with_reducible apply Blk.farp; (first | omega | (simp <;> omega))) | with_reducible apply Blk.allocp | with_reducible apply Blk.drew | with_reducible apply Blk.drewN))) hG4 (by simp <;> omega)
    have cA4 := hA4.cell; have fA4 := hA4.frozen; have lA4 := hA4.lt; have mA4 := Nat.ne_of_gt lA4; have nA4 := Nat.ne_of_lt lA4
    clear hD4' hG4
    go_wp2_with fail
    refine (pick_d (by repeat (first | with_reducible assumption | (with_reducible apply Hid.out; assumption) | with_reducible apply Drw.drewN | with_reducible apply Drw.drew | with_reducible apply Drw.alloc | (with_reducible refine Drw.setp ?_ ?_ ?_ ?_; (first | omega | (simp <;> omega)); (first | omega | (simp <;> omega)); (first | omega | (simp <;> omega))))) hB (1 + x1) (by omega) (by omega)).mono ?_
    rintro e v5 ⟨x5, rfl, hx5, hD5', hG5⟩
    have hD5 := Lib.hid hD5'
    have lG5 := hD5'.lt
    have zG5 := hG5.size
    (try simp at zG5)
    have hA5 : Blk v5 (w.heap.size) 32 #[.int .i64 0, .int .i64 0, .int .i64 0] := Blk.grown (by (repeat (first | with_reducible assumption | (with_reducible apply Blk.new_at; (first | rfl | (simp; done))) | with_reducible apply Blk.store3 | with_reducible apply Blk.store4 | (with_reducible apply Blk.farp; (first | omega | (simp <;> omega))) | with_reducible apply Blk.allocp | with_reducible apply Blk.drew | with_reducible apply Blk.drewN))) hG5 (by simp <;> omega)
    have cA5 := hA5.cell; have fA5 := hA5.frozen; have lA5 := hA5.lt; have mA5 := Nat.ne_of_gt lA5; have nA5 := Nat.ne_of_lt lA5
    clear hD5' hG5
    go_wp2
    exact bodyPost_ret (v := .agg #[.int .i64 (1 + x1), .int .i64 (x5), .int .i64 (x4)]) (by simp [results, Tryz.results49, go_sem, *]) rfl (hfin.out _ _ _ _ (Drw.more (n := n + 2 + 2 + 2 + 2 + 2) (by repeat (first | with_reducible assumption | (with_reducible apply Hid.out; assumption) | with_reducible apply Drw.drewN | with_reducible apply Drw.drew | with_reducible apply Drw.alloc | (with_reducible refine Drw.setp ?_ ?_ ?_ ?_; (first | omega | (simp <;> omega)); (first | omega | (simp <;> omega)); (first | omega | (simp <;> omega))))) (by omega)))
  have n2 : (x3 == 2) = false := by rw [beq_eq_false_iff_ne]; exact e2
  by_cases e3 : x3 = 3
  · subst e3
    clear hx3
    go_wp2
    exact bodyPost_ret (v := .agg #[.int .i64 (1 + x1), .int .i64 (1 + x1), .int .i64 (1 + x2)]) (by simp [results, Tryz.results49, go_sem, *]) rfl (hfin.out _ _ _ _ (Drw.more (n := n + 2 + 2 + 2) (by repeat (first | with_reducible assumption | (with_reducible apply Hid.out; assumption) | with_reducible apply Drw.drewN | with_reducible apply Drw.drew | with_reducible apply Drw.alloc | (with_reducible refine Drw.setp ?_ ?_ ?_ ?_; (first | omega | (simp <;> omega)); (first | omega | (simp <;> omega)); (first | omega | (simp <;> omega))))) (by omega)))
  have n3 : (x3 == 3) = false := by rw [beq_eq_false_iff_ne]; exact e3
  by_cases e4 : x3 = 4
  · subst e4
    clear hx3
    go_wp2_with fail
    refine (pick_d (by repeat (first | with_reducible assumption | (with_reducible apply Hid.out; assumption) | with_reducible apply Drw.drewN | with_reducible apply Drw.drew | with_reducible apply Drw.alloc | (with_reducible refine Drw.setp ?_ ?_ ?_ ?_; (first | omega | (simp <;> omega)); (first | omega | (simp <;> omega)); (first | omega | (simp <;> omega))))) hB 6 (by omega) (by omega)).mono ?_
    rintro e v4 ⟨x4, rfl, hx4, hD4', hG4⟩
    have hD4 := Lib.hid hD4'
    have lG4 := hD4'.lt
    have zG4 := hG4.size
    (try simp at zG4)
    have hA4 : Blk v4 (w.heap.size) 32 #[.int .i64 0, .int .i64 0, .int .i64 0] := Blk.grown (by (repeat (first | with_reducible assumption | (with_reducible apply Blk.new_at; (first | rfl | (simp; done))) | with_reducible apply Blk.store3 | with_reducible apply Blk.store4 | (with_reducible apply Blk.farp; (first | omega | (simp <;> omega))) | with_reducible apply Blk.allocp | with_reducible apply Blk.drew | with_reducible apply Blk.drewN))) hG4 (by simp <;> omega)
    have cA4 := hA4.cell; have fA4 := hA4.frozen; have lA4 := hA4.lt; have mA4 := Nat.ne_of_gt lA4; have nA4 := Nat.ne_of_lt lA4
    clear hD4' hG4
    go_wp2_with fail
    refine (pick_d (by repeat (first | with_reducible assumption | (with_reducible apply Hid.out; assumption) | with_reducible apply Drw.drewN | with_reducible apply Drw.drew | with_reducible apply Drw.alloc | (with_reducible refine Drw.setp ?_ ?_ ?_ ?_; (first | omega | (simp <;> omega)); (first | omega | (simp <;> omega)); (first | omega | (simp <;> omega))))) hB (1 + x1) (by omega) (by omega)).mono ?_
    rintro e v5 ⟨x5, rfl, hx5, hD5', hG5⟩
    have hD5 := Lib.hid hD5'
    have lG5 := hD5'.lt
    have zG5 := hG5.size
    (try simp at zG5)
    have hA5 : Blk v5 (w.heap.size) 32 #[.int .i64 0, .int .i64 0, .int .i64 0] := Blk.grown (by (repeat (first | with_reducible assumption | (with_reducible apply Blk.new_at; (first | rfl | (simp; done))) | with_reducible apply Blk.store3 | with_reducible apply Blk.store4 | (with_reducible apply Blk.farp; (first | omega | (simp <;> omega))) | with_reducible apply Blk.allocp | with_reducible apply Blk.drew | with_reducible apply Blk.drewN))) hG5 (by simp <;> omega)
    have cA5 := hA5.cell; have fA5 := hA5.frozen; have lA5 := hA5.lt; have mA5 := Nat.ne_of_gt lA5; have nA5 := Nat.ne_of_lt lA5
    clear hD5' hG5
    go_wp2
    exact bodyPost_ret (v := .agg #[.int .i64 (wrap64 ((1 + x4) * (1 + x1))), .int .i64 (wrap64 ((1 + x4) * x5)), .int .i64 (wrap64 ((1 + x4) * (1 + x2)))]) (by simp [results, Tryz.results49, go_sem, *]) rfl (hfin.out _ _ _ _ (Drw.more (n := n + 2 + 2 + 2 + 2 + 2) (by repeat (first | with_reducible assumption | (with_reducible apply Hid.out; assumption) | with_reducible apply Drw.drewN | with_reducible apply Drw.drew | with_reducible apply Drw.alloc | (with_reducible refine Drw.setp ?_ ?_ ?_ ?_; (first | omega | (simp <;> omega)); (first | omega | (simp <;> omega)); (first | omega | (simp <;> omega))))) (by omega)))
  have n4 : (x3 == 4) = false := by rw [beq_eq_false_iff_ne]; exact e4
  by_cases e5 : x3 = 5
  · subst e5
    clear hx3
    go_wp2_with fail
    refine (pick_d (by repeat (first | with_reducible assumption | (with_reducible apply Hid.out; assumption) | with_reducible apply Drw.drewN | with_reducible apply Drw.drew | with_reducible apply Drw.alloc | (with_reducible refine Drw.setp ?_ ?_ ?_ ?_; (first | omega | (simp <;> omega)); (first | omega | (simp <;> omega)); (first | omega | (simp <;> omega))))) hB 6 (by omega) (by omega)).mono ?_
    rintro e v4 ⟨x4, rfl, hx4, hD4', hG4⟩
    have hD4 := Lib.hid hD4'
    have lG4 := hD4'.lt
    have zG4 := hG4.size
    (try simp at zG4)
    have hA4 : Blk v4 (w.heap.size) 32 #[.int .i64 0, .int .i64 0, .int .i64 0] := Blk.grown (by (repeat (first | with_reducible assumption | (with_reducible apply Blk.new_at; (first | rfl | (simp; done))) | with_reducible apply Blk.store3 | with_reducible apply Blk.store4 | (with_reducible apply Blk.farp; (first | omega | (simp <;> omega))) | with_reducible apply Blk.allocp | with_reducible apply Blk.drew | with_reducible apply Blk.drewN))) hG4 (by simp <;> omega)
    have cA4 := hA4.cell; have fA4 := hA4.frozen; have lA4 := hA4.lt; have mA4 := Nat.ne_of_gt lA4; have nA4 := Nat.ne_of_lt lA4
    clear hD4' hG4
    go_wp2_with fail
    refine (pick_d (by repeat (first | with_reducible assumption | (with_reducible apply Hid.out; assumption) | with_reducible apply Drw.drewN | with_reducible apply Drw.drew | with_reducible apply Drw.alloc | (with_reducible refine Drw.setp ?_ ?_ ?_ ?_; (first | omega | (simp <;> omega)); (first | omega | (simp <;> omega)); (first | omega | (simp <;> omega))))) hB (1 + x1) (by omega) (by omega)).mono ?_
    rintro e v5 ⟨x5, rfl, hx5, hD5', hG5⟩
    have hD5 := Lib.hid hD5'
    have lG5 := hD5'.lt
    have zG5 := hG5.size
    (try simp at zG5)
    have hA5 : Blk v5 (w.heap.size) 32 #[.int .i64 0, .int .i64 0, .int .i64 0] := Blk.grown (by (repeat (first | with_reducible assumption | (with_reducible apply Blk.new_at; (first | rfl | (simp; done))) | with_reducible apply Blk.store3 | with_reducible apply Blk.store4 | (with_reducible apply Blk.farp; (first | omega | (simp <;> omega))) | with_reducible apply Blk.allocp | with_reducible apply Blk.drew | with_reducible apply Blk.drewN))) hG5 (by simp <;> omega)
    have cA5 := hA5.cell; have fA5 := hA5.frozen; have lA5 := hA5.lt; have mA5 := Nat.ne_of_gt lA5; have nA5 := Nat.ne_of_lt lA5
    clear hD5' hG5
    go_wp2
    exact bodyPost_ret (v := .agg #[.int .i64 (wrap64 ((1 + x4) * (1 + x1))), .int .i64 (wrap64 ((1 + x4) * x5)), .int .i64 (wrap64 ((1 + x4) * (1 + x2)))]) (by simp [results, Tryz.results49, go_sem, *]) rfl (hfin.out _ _ _ _ (Drw.more (n := n + 2 + 2 + 2 + 2 + 2) (by repeat (first | with_reducible assumption | (with_reducible apply Hid.out; assumption) | with_reducible apply Drw.drewN | with_reducible apply Drw.drew | with_reducible apply Drw.alloc | (with_reducible refine Drw.setp ?_ ?_ ?_ ?_; (first | omega | (simp <;> omega)); (first | omega | (simp <;> omega)); (first | omega | (simp <;> omega))))) (by omega)))
  have n5 : (x3 == 5) = false := by rw [beq_eq_false_iff_ne]; exact e5
  clear hx3 e0 e1 e2 e3 e4 e5
  go_wp2_with fail
  refine (pick_d (by repeat (first | with_reducible assumption | (with_reducible apply Hid.out; assumption) | with_reducible apply Drw.drewN | with_reducible apply Drw.drew | with_reducible apply Drw.alloc | (with_reducible refine Drw.setp ?_ ?_ ?_ ?_; (first | omega | (simp <;> omega)); (first | omega | (simp <;> omega)); (first | omega | (simp <;> omega))))) hB (1 + x1) (by omega) (by omega)).mono ?_
  rintro e v4 ⟨x4, rfl, hx4, hD4', hG4⟩
  have hD4 := Lib.hid hD4'
  have lG4 := hD4'.lt
  have zG4 := hG4.size
  (try simp at zG4)
  have hA4 : Blk v4 (w.heap.size) 32 #[.int .i64 0, .int .i64 0, .int .i64 0] := Blk.grown (by (repeat (first | with_reducible assumption | (with_reducible apply Blk.new_at; (first | rfl | (simp; done))) | with_reducible apply Blk.store3 | with_reducible apply Blk.store4 | (with_reducible apply Blk.farp; (first | omega | (simp <;> omega))) | with_reducible apply Blk.allocp | with_reducible apply Blk.drew | with_reducible apply Blk.drewN))) hG4 (by simp <;> omega)
  have cA4 := hA4.cell; have fA4 := hA4.frozen; have lA4 := hA4.lt; have mA4 := Nat.ne_of_gt lA4; have nA4 := Nat.ne_of_lt lA4
  clear hD4' hG4
  go_wp2
  exact bodyPost_ret (v := .agg #[.int .i64 (1 + x1), .int .i64 (x4), .int .i64 (1 + x2)]) (by simp [results, Tryz.results49, go_sem, *]) rfl (hfin.out _ _ _ _ (Drw.more (n := n + 2 + 2 + 2 + 2) (by repeat (first | with_reducible assumption | (with_reducible apply Hid.out; assumption) | with_reducible apply Drw.drewN | with_reducible apply Drw.drew | with_reducible apply Drw.alloc | (with_reducible refine Drw.setp ?_ ?_ ?_ ?_; (first | omega | (simp <;> omega)); (first | omega | (simp <;> omega)); (first | omega | (simp <;> omega))))) (by omega)))
end
set_option maxRecDepth 100000 in
set_option maxHeartbeats 3200000 in
theorem drawSL_any (zs : List Int) (v : Value) (B : Nat) (w : World) (hr : RdB zs v B w) (hB : B ≤ w.heap.size) :
    Calls Tryz.prog 5 #[v] w (fun e w' => ∃ n : Int, e = .returned (.int .i64 n) ∧ Below w.heap.size w w') := by
  obtain ⟨A, m, c, rfl⟩ := hr.shape
  have hD0 := Lib.hid (drw_start hr)
  clear hr
  have hfin : Hid (∀ (x : Int) (w' : World) (k : Nat), Drw zs (.slice A m c) B w.heap.size k (w.alloc (.cells #[.slice A m c, .int .i64 0, .int .u64 0] 58)) w' → ∃ n : Int, Ending.returned (.int .i64 x) = .returned (.int .i64 n) ∧ Below w.heap.size w w') :=
    Lib.hid (fun x w' k hd => ⟨x, rfl, below_cur hd.gr⟩)
  go_enter Tryz.func5, Tryz.ntmps5
  go_wp2_with fail
  refine (pick_d (by repeat (first | with_reducible assumption | (with_reducible apply Hid.out; assumption) | with_reducible apply Drw.drewN | with_reducible apply Drw.drew | with_reducible apply Drw.alloc | (with_reducible refine Drw.setp ?_ ?_ ?_ ?_; (first | omega | (simp <;> omega)); (first | omega | (simp <;> omega)); (first | omega | (simp <;> omega))))) hB 100 (by omega) (by omega)).mono ?_
  rintro e v1 ⟨x1, rfl, hx1, hD1', hG1⟩
  have hD1 := Lib.hid hD1'
  have lG1 := hD1'.lt
  clear hD1' hG1
  go_wp2_with fail
  refine (pick_d (by repeat (first | with_reducible assumption | (with_reducible apply Hid.out; assumption) | with_reducible apply Drw.drewN | with_reducible apply Drw.drew | with_reducible apply Drw.alloc | (with_reducible refine Drw.setp ?_ ?_ ?_ ?_; (first | omega | (simp <;> omega)); (first | omega | (simp <;> omega)); (first | omega | (simp <;> omega))))) hB 30 (by omega) (by omega)).mono ?_
  rintro e v2 ⟨x2, rfl, hx2, hD2', hG2⟩
  have hD2 := Lib.hid hD2'
  have lG2 := hD2'.lt
  clear hD2' hG2
  have W1 : wrap64 (1 + x1) = 1 + x1 := IntWalk.wrap64_in _ (by omega)
  have W2 : wrap64 (1 + x2) = 1 + x2 := IntWalk.wrap64_in _ (by omega)
  go_wp2_with fail
  refine (among_at (w := v2) (Hid.out hD2) hB [0, 1, 2, 3, 4, 100, 101, 1 + x1, 1 + x2, -1] (fun _ => True) (by simp) (by simp) (by simp) (by omega) rfl rfl rfl).mono ?_
  rintro e v3 ⟨x3, rfl, -, hD3', hG3⟩
  have hD3 := Lib.hid hD3'
  clear hD3' hG3 hD2 hD1
  go_wp2
  go_ret
  exact hfin.out _ _ _ hD3.out
/-- What a draw of a form and a lattice gives. -/
def RetFL (w : World) (e : Ending) (w' : World) : Prop := ∃ (f : Fm) (A B D : Int), e = .returned (.tuple #[.agg #[.int .i64 f.a, .int .i64 f.b, .int .i64 f.c], .agg #[.int .i64 A, .int .i64 B, .int .i64 D]]) ∧ Below w.heap.size w w'
set_option maxRecDepth 100000 in
set_option maxHeartbeats 6400000 in
theorem drawFL_any (zs : List Int) (v : Value) (B : Nat) (w : World) (hr : RdB zs v B w) (hB0 : B ≤ w.heap.size) :
    Calls Tryz.prog 27 #[v] w (RetFL w) := by
  obtain ⟨A, m, c, rfl⟩ := hr.shape
  have hD0 := Lib.hid (drw_start3 (.cells #[.int .i64 0, .int .i64 0, .int .i64 0] 36) (.cells #[.int .i64 0, .int .i64 0, .int .i64 0] 32) hr)
  have hB : B ≤ w.heap.size + 1 + 1 := by omega
  clear hr
  have hfin : Hid (∀ (x y z a b d : Int) (w' : World), Drw zs (.slice A m c) B (w.heap.size + 1 + 1) 200 w w' → RetFL w (.returned (.tuple #[.agg #[.int .i64 x, .int .i64 y, .int .i64 z], .agg #[.int .i64 a, .int .i64 b, .int .i64 d]])) w') :=
    Lib.hid (fun x y z a b d w' hd => ⟨⟨x, y, z⟩, a, b, d, rfl, below_cur3 hd.gr⟩)
  go_enter Tryz.func27, Tryz.ntmps27
  go_wp2_with fail
  refine (definite_d (by repeat (first | with_reducible assumption | (with_reducible apply Hid.out; assumption) | with_reducible apply Drw.drewN | with_reducible apply Drw.drew | with_reducible apply Drw.alloc | (with_reducible refine Drw.setp ?_ ?_ ?_ ?_; (first | omega | (simp <;> omega)); (first | omega | (simp <;> omega)); (first | omega | (simp <;> omega))))) hB (by omega)).mono ?_
  rintro e v1 ⟨f1, rfl, hx1, hD1', hG1⟩
  have hD1 := Lib.hid hD1'
  have lG1 := hD1'.lt
  have zG1 := hG1.size
  (try simp at zG1)
  have hA1 : Blk v1 (w.heap.size) 36 #[.int .i64 0, .int .i64 0, .int .i64 0] := Blk.grown (by (repeat (first | with_reducible assumption | (with_reducible apply Blk.new_at; (first | rfl | (simp; done))) | with_reducible apply Blk.store3 | with_reducible apply Blk.store4 | (with_reducible apply Blk.farp; (first | omega | (simp <;> omega))) | with_reducible apply Blk.allocp | with_reducible apply Blk.drew | with_reducible apply Blk.drewN))) hG1 (by simp <;> omega)
  have cA1 := hA1.cell; have fA1 := hA1.frozen; have lA1 := hA1.lt; have mA1 := Nat.ne_of_gt lA1; have nA1 := Nat.ne_of_lt lA1
  have hR1 : Blk v1 (w.heap.size + 1) 32 #[.int .i64 0, .int .i64 0, .int .i64 0] := Blk.grown (by (repeat (first | with_reducible assumption | (with_reducible apply Blk.new_at; (first | rfl | (simp; done))) | with_reducible apply Blk.store3 | with_reducible apply Blk.store4 | (with_reducible apply Blk.farp; (first | omega | (simp <;> omega))) | with_reducible apply Blk.allocp | with_reducible apply Blk.drew | with_reducible apply Blk.drewN))) hG1 (by simp <;> omega)
  have cR1 := hR1.cell; have fR1 := hR1.frozen; have lR1 := hR1.lt; have mR1 := Nat.ne_of_gt lR1; have nR1 := Nat.ne_of_lt lR1
  clear hD1' hG1
  clear hx1
  go_wp2_with fail
  go_region_with (go_at_call 49; refine (lattice_d (by repeat (first | with_reducible assumption | (with_reducible apply Hid.out; assumption) | with_reducible apply Drw.drewN | with_reducible apply Drw.drew | with_reducible apply Drw.alloc | (with_reducible refine Drw.setp ?_ ?_ ?_ ?_; (first | omega | (simp <;> omega)); (first | omega | (simp <;> omega)); (first | omega | (simp <;> omega))))) hB (by omega)).mono ?_; rintro e v4 ⟨x4, rfl, _, hD4', hG4⟩; have hD4 := Lib.hid hD4'; have lG4 := hD4'.lt; have zG4 := hG4.size; (try simp at zG4); have hA4 : Blk v4 (w.heap.size) 36 #[.int .i64 0, .int .i64 0, .int .i64 0] := Blk.grown (by (repeat (first | with_reducible assumption | (with_reducible apply Blk.new_at; (first | rfl | (simp; done))) | with_reducible apply Blk.store3 | with_reducible apply Blk.store4 | (with_reducible apply Blk.farp; (first | omega | (simp <;> omega))) | with_reducible apply Blk.allocp | with_reducible apply Blk.drew | with_reducible apply Blk.drewN))) hG4 (by simp <;> omega); have cA4 := hA4.cell; have fA4 := hA4.frozen; have lA4 := hA4.lt; have mA4 := Nat.ne_of_gt lA4; have nA4 := Nat.ne_of_lt lA4; have hR4 : Blk v4 (w.heap.size + 1) 32 #[.int .i64 0, .int .i64 0, .int .i64 0] := Blk.grown (by (repeat (first | with_reducible assumption | (with_reducible apply Blk.new_at; (first | rfl | (simp; done))) | with_reducible apply Blk.store3 | with_reducible apply Blk.store4 | (with_reducible apply Blk.farp; (first | omega | (simp <;> omega))) | with_reducible apply Blk.allocp | with_reducible apply Blk.drew | with_reducible apply Blk.drewN))) hG4 (by simp <;> omega); have cR4 := hR4.cell; have fR4 := hR4.frozen; have lR4 := hR4.lt; have mR4 := Nat.ne_of_gt lR4; have nR4 := Nat.ne_of_lt lR4; have hP4 : Blk v4 (v1.heap.size) 36 #[.int .i64 f1.a, .int .i64 f1.b, .int .i64 f1.c] := Blk.grown (by (repeat (first | with_reducible assumption | (with_reducible apply Blk.new_at; (first | rfl | (simp; done))) | with_reducible apply Blk.store3 | with_reducible apply Blk.store4 | (with_reducible apply Blk.farp; (first | omega | (simp <;> omega))) | with_reducible apply Blk.allocp | with_reducible apply Blk.drew | with_reducible apply Blk.drewN))) hG4 (by simp <;> omega); have cP4 := hP4.cell; have fP4 := hP4.frozen; have lP4 := hP4.lt; have mP4 := Nat.ne_of_gt lP4; have nP4 := Nat.ne_of_lt lP4)
  all_goals
    go_wp2
    exact bodyPost_ret (v := .tuple #[.agg #[.int .i64 f1.a, .int .i64 f1.b, .int .i64 f1.c], .agg #[.int .i64 x4.1, .int .i64 x4.2.1, .int .i64 x4.2.2]]) (by simp [results, Tryz.results27, go_sem, *]) rfl (hfin.out _ _ _ _ _ _ _ (Drw.more (n := 0 + 32 + 30) (by repeat (first | with_reducible assumption | (with_reducible apply Hid.out; assumption) | with_reducible apply Drw.drewN | with_reducible apply Drw.drew | with_reducible apply Drw.alloc | (with_reducible refine Drw.setp ?_ ?_ ?_ ?_; (first | omega | (simp <;> omega)); (first | omega | (simp <;> omega)); (first | omega | (simp <;> omega))))) (by omega)))
set_option maxHeartbeats 800000 in
theorem drawSP_any (zs : List Int) (v : Value) (B : Nat) (w : World) (hr : RdB zs v B w) (hB : B ≤ w.heap.size) :
    Calls Tryz.prog 10 #[v] w (RetFL w) := by
  have h := Lib.hid (fun w (hr : RdB zs v B w) (hB : B ≤ w.heap.size) => drawFL_any zs v B w hr hB)
  have H := Lib.hid (((hr.grown (grown_alloc w (.cells #[.int .i64 0, .int .i64 0, .int .i64 0] 36) none) (fun k hk => by cases hk))).grown (grown_alloc _ (.cells #[.int .i64 0, .int .i64 0, .int .i64 0] 32) none) (fun k hk => by cases hk))
  clear hr
  go_enter Tryz.func10, Tryz.ntmps10
  go_wp2_with fail
  refine (h.out _ H.out (by simp; omega)).mono ?_
  rintro e v1 ⟨f, a, b, d, rfl, hb⟩
  have hz := hb.size
  simp at hz
  have hA1 : Blk v1 w.heap.size 36 #[.int .i64 0, .int .i64 0, .int .i64 0] := Blk.call (by (repeat (first | with_reducible assumption | (with_reducible apply Blk.new_at; (first | rfl | (simp; done))) | with_reducible apply Blk.store3 | with_reducible apply Blk.store4 | (with_reducible apply Blk.farp; (first | omega | (simp <;> omega))) | with_reducible apply Blk.allocp | with_reducible apply Blk.drew | with_reducible apply Blk.drewN))) hb
  have hR1 : Blk v1 (w.heap.size + 1) 32 #[.int .i64 0, .int .i64 0, .int .i64 0] := Blk.call (by (repeat (first | with_reducible assumption | (with_reducible apply Blk.new_at; (first | rfl | (simp; done))) | with_reducible apply Blk.store3 | with_reducible apply Blk.store4 | (with_reducible apply Blk.farp; (first | omega | (simp <;> omega))) | with_reducible apply Blk.allocp | with_reducible apply Blk.drew | with_reducible apply Blk.drewN))) hb
  have cA1 := hA1.cell; have fA1 := hA1.frozen; have lA1 := hA1.lt; have cR1 := hR1.cell; have fR1 := hR1.frozen; have lR1 := hR1.lt
  have hb1 : Below w.heap.size w v1 := (by repeat (first | with_reducible exact Below.refl _ _ | with_reducible assumption | with_reducible apply Below.drew | with_reducible apply below_drewN | (with_reducible apply below_setp; (first | omega | (simp <;> omega))) | (with_reducible apply below_allocp; (first | omega | (simp <;> omega))) | (with_reducible refine below_viap (by assumption) ?_ ?_; (first | omega | (simp <;> omega)))))
  go_wp2
  exact bodyPost_ret (v := .tuple #[.agg #[.int .i64 f.a, .int .i64 f.b, .int .i64 f.c], .agg #[.int .i64 a, .int .i64 b, .int .i64 d]]) (by simp [results, Tryz.results10, go_sem, *]) rfl (⟨f, a, b, d, rfl, (by repeat (first | with_reducible exact Below.refl _ _ | with_reducible assumption | with_reducible apply Below.drew | with_reducible apply below_drewN | (with_reducible apply below_setp; (first | omega | (simp <;> omega))) | (with_reducible apply below_allocp; (first | omega | (simp <;> omega))) | (with_reducible refine below_viap (by assumption) ?_ ?_; (first | omega | (simp <;> omega)))))⟩)
end Go.Proofs.YtblcmkhkbgikoaaGreat
