/- Contracts: the draws of the law on matrices that act on cubes (written by gen_FV.py). -/
import Derived.Test.YtlcegkafagdcjaaGreatDoorQM
import Derived.Test.YtlcegkafagdcjaaGreatDoorDL
import Derived.Test.YtlcegkafagdcjaaGreatDoorFO
namespace Go.Proofs.YtlcegkafagdcjaaGreatDoor
open Go.RowKit

theorem drw_start3 {zs : List Int} {v : Value} {B : Nat} {w : World} (r r2 : Obj) (hr : RdB zs v B w) : Drw zs v B (w.heap.size + 1 + 1) 0 w (((w.alloc r).alloc r2).alloc (.cells #[v, .int .i64 0, .int .u64 0] 51)) := by
  have h := drw_start2 (w := w.alloc r) r2 (hr.grown (grown_alloc _ _ none) (fun k hk => by cases hk))
  refine ⟨h.rd, by simpa using h.cur, (grown_alloc _ _ _).trans (by simpa using h.gr)⟩
theorem below_cur3 {w w' : World} (h : w.grownBy w' (some (w.heap.size + 1 + 1))) : Below w.heap.size w w' :=
  (Below.refl w.heap.size w).grown h (Nat.le_refl _) (fun k hk => by injection hk with hk; omega)
section
variable {zs : List Int} {v : Value} {B G n m : Nat} {w0 w w1 w2 : World}
theorem among_at (h : Drw zs v B G n w0 w) (hB : B ≤ G) (L : List Int) (P : Int → Prop) (hP : ∀ x ∈ L, P x) (h1 : 1 ≤ L.length) (h2 : L.length ≤ 1000) (hn : n + 2 ≤ 100000000) {N k : Nat} {xs : Array Value} (hN : N = w.heap.size) (hk : L.length = k) (hxs : (cellsI L).toArray = xs) :
    Calls Tryz.prog 19 #[.pointer (some ⟨G, 0, none⟩), .slice (some ⟨N, 0, none⟩) k k] (w.alloc (.cells xs 3)) fun e w' => ∃ x : Int, e = .returned (.int .i64 x) ∧ P x ∧ Drw zs v B G (n + 2) w0 w' ∧ w.grownBy w' (some G) := by
  subst hN hk hxs
  exact among_d h hB L P hP h1 h2 hn
end
section
variable {zs : List Int} {v : Value} {B G n m : Nat} {w0 w w1 w2 : World}
set_option maxRecDepth 100000 in
set_option maxHeartbeats 6400000 in
theorem matrix_d (h : Drw zs v B G n w0 w) (hB : B ≤ G) (hn : n + 60 ≤ 100000000) :
    Calls Tryz.prog 21 #[.pointer (some ⟨G, 0, none⟩)] w fun e w' => ∃ x : Int × Int × Int × Int, e = .returned (.agg #[.int .i64 x.1, .int .i64 x.2.1, .int .i64 x.2.2.1, .int .i64 x.2.2.2]) ∧ True ∧ Drw zs v B G (n + 60) w0 w' ∧ w.grownBy w' (some G) := by
  have H := Lib.hid h
  have lG0 := h.lt
  have hD0 := Lib.hid (Drw.start h.rd h.cur)
  clear h
  have hfin : Hid (∀ (x y z t : Int) (w' : World), Drw zs v B G (n + 60) w w' → ∃ f : Int × Int × Int × Int, Ending.returned (.agg #[.int .i64 x, .int .i64 y, .int .i64 z, .int .i64 t]) = .returned (.agg #[.int .i64 f.1, .int .i64 f.2.1, .int .i64 f.2.2.1, .int .i64 f.2.2.2]) ∧ True ∧ Drw zs v B G (n + 60) w0 w' ∧ w.grownBy w' (some G)) :=
    Lib.hid (fun x y z t w' hd => ⟨(x, y, z, t), rfl, trivial, H.out.next hB hd.cur hd.gr, hd.gr⟩)
  go_enter Tryz.func21, Tryz.ntmps21
  go_wp2_with fail
  refine (proper_d (by repeat (first | with_reducible assumption | (with_reducible apply Hid.out; assumption) | with_reducible apply Drw.drewN | with_reducible apply Drw.drew | with_reducible apply Drw.alloc | (with_reducible refine Drw.setp ?_ ?_ ?_ ?_; (first | omega | (simp <;> omega)); (first | omega | (simp <;> omega)); (first | omega | (simp <;> omega))))) hB (by omega)).mono ?_
  rintro e v1 ⟨x1, rfl, hx1, hD1', hG1⟩
  have hD1 := Lib.hid hD1'
  have lG1 := hD1'.lt
  have zG1 := hG1.size
  (try simp at zG1)
  have hA1 : Blk v1 (w.heap.size) 27 #[.int .i64 0, .int .i64 0, .int .i64 0, .int .i64 0] := Blk.grown (by (repeat (first | with_reducible assumption | (with_reducible apply Blk.new_at; (first | rfl | (simp; done))) | with_reducible (first | apply Blk.store3 | apply Blk.store4) | (with_reducible apply Blk.farp; (first | omega | (simp <;> omega))) | with_reducible (first | apply Blk.allocp | apply Blk.drew | apply Blk.drewN)))) hG1 (by simp <;> omega)
  obtain ⟨cA1, fA1, lA1, mA1, nA1⟩ := hA1.all5
  clear hD1' hG1
  clear hx1
  go_wp2_with fail
  refine (pick_d (by repeat (first | with_reducible assumption | (with_reducible apply Hid.out; assumption) | with_reducible apply Drw.drewN | with_reducible apply Drw.drew | with_reducible apply Drw.alloc | (with_reducible refine Drw.setp ?_ ?_ ?_ ?_; (first | omega | (simp <;> omega)); (first | omega | (simp <;> omega)); (first | omega | (simp <;> omega))))) hB 10 (by omega) (by omega)).mono ?_
  rintro e v2 ⟨x2, rfl, hx2, hD2', hG2⟩
  have hD2 := Lib.hid hD2'
  have lG2 := hD2'.lt
  have zG2 := hG2.size
  (try simp at zG2)
  have hA2 : Blk v2 (w.heap.size) 27 #[.int .i64 0, .int .i64 0, .int .i64 0, .int .i64 0] := Blk.grown (by (repeat (first | with_reducible assumption | (with_reducible apply Blk.new_at; (first | rfl | (simp; done))) | with_reducible (first | apply Blk.store3 | apply Blk.store4) | (with_reducible apply Blk.farp; (first | omega | (simp <;> omega))) | with_reducible (first | apply Blk.allocp | apply Blk.drew | apply Blk.drewN)))) hG2 (by simp <;> omega)
  obtain ⟨cA2, fA2, lA2, mA2, nA2⟩ := hA2.all5
  have hM2 : Blk v2 (v1.heap.size) 27 #[.int .i64 x1.1, .int .i64 x1.2.1, .int .i64 x1.2.2.1, .int .i64 x1.2.2.2] := Blk.grown (by (repeat (first | with_reducible assumption | (with_reducible apply Blk.new_at; (first | rfl | (simp; done))) | with_reducible (first | apply Blk.store3 | apply Blk.store4) | (with_reducible apply Blk.farp; (first | omega | (simp <;> omega))) | with_reducible (first | apply Blk.allocp | apply Blk.drew | apply Blk.drewN)))) hG2 (by simp <;> omega)
  obtain ⟨cM2, fM2, lM2, mM2, nM2⟩ := hM2.all5
  clear hD2' hG2
  clear hx2
  by_cases e0 : x2 = 0
  · subst e0
    go_wp2_with fail
    refine (number_d (by repeat (first | with_reducible assumption | (with_reducible apply Hid.out; assumption) | with_reducible apply Drw.drewN | with_reducible apply Drw.drew | with_reducible apply Drw.alloc | (with_reducible refine Drw.setp ?_ ?_ ?_ ?_; (first | omega | (simp <;> omega)); (first | omega | (simp <;> omega)); (first | omega | (simp <;> omega))))) hB (by omega)).mono ?_
    rintro e v3 ⟨x3, rfl, hx3, hD3', hG3⟩
    have hD3 := Lib.hid hD3'
    have lG3 := hD3'.lt
    have zG3 := hG3.size
    (try simp at zG3)
    have hA3 : Blk v3 (w.heap.size) 27 #[.int .i64 0, .int .i64 0, .int .i64 0, .int .i64 0] := Blk.grown (by (repeat (first | with_reducible assumption | (with_reducible apply Blk.new_at; (first | rfl | (simp; done))) | with_reducible (first | apply Blk.store3 | apply Blk.store4) | (with_reducible apply Blk.farp; (first | omega | (simp <;> omega))) | with_reducible (first | apply Blk.allocp | apply Blk.drew | apply Blk.drewN)))) hG3 (by simp <;> omega)
    obtain ⟨cA3, fA3, lA3, mA3, nA3⟩ := hA3.all5
    have hM3 : Blk v3 (v1.heap.size) 27 #[.int .i64 x1.1, .int .i64 x1.2.1, .int .i64 x1.2.2.1, .int .i64 x1.2.2.2] := Blk.grown (by (repeat (first | with_reducible assumption | (with_reducible apply Blk.new_at; (first | rfl | (simp; done))) | with_reducible (first | apply Blk.store3 | apply Blk.store4) | (with_reducible apply Blk.farp; (first | omega | (simp <;> omega))) | with_reducible (first | apply Blk.allocp | apply Blk.drew | apply Blk.drewN)))) hG3 (by simp <;> omega)
    obtain ⟨cM3, fM3, lM3, mM3, nM3⟩ := hM3.all5
    clear hD3' hG3
    go_wp2_with fail
    refine (number_d (by repeat (first | with_reducible assumption | (with_reducible apply Hid.out; assumption) | with_reducible apply Drw.drewN | with_reducible apply Drw.drew | with_reducible apply Drw.alloc | (with_reducible refine Drw.setp ?_ ?_ ?_ ?_; (first | omega | (simp <;> omega)); (first | omega | (simp <;> omega)); (first | omega | (simp <;> omega))))) hB (by omega)).mono ?_
    rintro e v4 ⟨x4, rfl, hx4, hD4', hG4⟩
    have hD4 := Lib.hid hD4'
    have lG4 := hD4'.lt
    have zG4 := hG4.size
    (try simp at zG4)
    have hA4 : Blk v4 (w.heap.size) 27 #[.int .i64 0, .int .i64 0, .int .i64 0, .int .i64 0] := Blk.grown (by (repeat (first | with_reducible assumption | (with_reducible apply Blk.new_at; (first | rfl | (simp; done))) | with_reducible (first | apply Blk.store3 | apply Blk.store4) | (with_reducible apply Blk.farp; (first | omega | (simp <;> omega))) | with_reducible (first | apply Blk.allocp | apply Blk.drew | apply Blk.drewN)))) hG4 (by simp <;> omega)
    obtain ⟨cA4, fA4, lA4, mA4, nA4⟩ := hA4.all5
    have hM4 : Blk v4 (v1.heap.size) 27 #[.int .i64 x1.1, .int .i64 x1.2.1, .int .i64 x1.2.2.1, .int .i64 x1.2.2.2] := Blk.grown (by (repeat (first | with_reducible assumption | (with_reducible apply Blk.new_at; (first | rfl | (simp; done))) | with_reducible (first | apply Blk.store3 | apply Blk.store4) | (with_reducible apply Blk.farp; (first | omega | (simp <;> omega))) | with_reducible (first | apply Blk.allocp | apply Blk.drew | apply Blk.drewN)))) hG4 (by simp <;> omega)
    obtain ⟨cM4, fM4, lM4, mM4, nM4⟩ := hM4.all5
    clear hD4' hG4
    go_wp2_with fail
    refine (number_d (by repeat (first | with_reducible assumption | (with_reducible apply Hid.out; assumption) | with_reducible apply Drw.drewN | with_reducible apply Drw.drew | with_reducible apply Drw.alloc | (with_reducible refine Drw.setp ?_ ?_ ?_ ?_; (first | omega | (simp <;> omega)); (first | omega | (simp <;> omega)); (first | omega | (simp <;> omega))))) hB (by omega)).mono ?_
    rintro e v5 ⟨x5, rfl, hx5, hD5', hG5⟩
    have hD5 := Lib.hid hD5'
    have lG5 := hD5'.lt
    have zG5 := hG5.size
    (try simp at zG5)
    have hA5 : Blk v5 (w.heap.size) 27 #[.int .i64 0, .int .i64 0, .int .i64 0, .int .i64 0] := Blk.grown (by (repeat (first | with_reducible assumption | (with_reducible apply Blk.new_at; (first | rfl | (simp; done))) | with_reducible (first | apply Blk.store3 | apply Blk.store4) | (with_reducible apply Blk.farp; (first | omega | (simp <;> omega))) | with_reducible (first | apply Blk.allocp | apply Blk.drew | apply Blk.drewN)))) hG5 (by simp <;> omega)
    obtain ⟨cA5, fA5, lA5, mA5, nA5⟩ := hA5.all5
    have hM5 : Blk v5 (v1.heap.size) 27 #[.int .i64 x1.1, .int .i64 x1.2.1, .int .i64 x1.2.2.1, .int .i64 x1.2.2.2] := Blk.grown (by (repeat (first | with_reducible assumption | (with_reducible apply Blk.new_at; (first | rfl | (simp; done))) | with_reducible (first | apply Blk.store3 | apply Blk.store4) | (with_reducible apply Blk.farp; (first | omega | (simp <;> omega))) | with_reducible (first | apply Blk.allocp | apply Blk.drew | apply Blk.drewN)))) hG5 (by simp <;> omega)
    obtain ⟨cM5, fM5, lM5, mM5, nM5⟩ := hM5.all5
    clear hD5' hG5
    go_wp2_with fail
    refine (number_d (by repeat (first | with_reducible assumption | (with_reducible apply Hid.out; assumption) | with_reducible apply Drw.drewN | with_reducible apply Drw.drew | with_reducible apply Drw.alloc | (with_reducible refine Drw.setp ?_ ?_ ?_ ?_; (first | omega | (simp <;> omega)); (first | omega | (simp <;> omega)); (first | omega | (simp <;> omega))))) hB (by omega)).mono ?_
    rintro e v6 ⟨x6, rfl, hx6, hD6', hG6⟩
    have hD6 := Lib.hid hD6'
    have lG6 := hD6'.lt
    have zG6 := hG6.size
    (try simp at zG6)
    have hA6 : Blk v6 (w.heap.size) 27 #[.int .i64 0, .int .i64 0, .int .i64 0, .int .i64 0] := Blk.grown (by (repeat (first | with_reducible assumption | (with_reducible apply Blk.new_at; (first | rfl | (simp; done))) | with_reducible (first | apply Blk.store3 | apply Blk.store4) | (with_reducible apply Blk.farp; (first | omega | (simp <;> omega))) | with_reducible (first | apply Blk.allocp | apply Blk.drew | apply Blk.drewN)))) hG6 (by simp <;> omega)
    obtain ⟨cA6, fA6, lA6, mA6, nA6⟩ := hA6.all5
    have hM6 : Blk v6 (v1.heap.size) 27 #[.int .i64 x1.1, .int .i64 x1.2.1, .int .i64 x1.2.2.1, .int .i64 x1.2.2.2] := Blk.grown (by (repeat (first | with_reducible assumption | (with_reducible apply Blk.new_at; (first | rfl | (simp; done))) | with_reducible (first | apply Blk.store3 | apply Blk.store4) | (with_reducible apply Blk.farp; (first | omega | (simp <;> omega))) | with_reducible (first | apply Blk.allocp | apply Blk.drew | apply Blk.drewN)))) hG6 (by simp <;> omega)
    obtain ⟨cM6, fM6, lM6, mM6, nM6⟩ := hM6.all5
    clear hD6' hG6
    go_wp2
    exact bodyPost_ret (v := .agg #[.int .i64 (x3), .int .i64 (x4), .int .i64 (x5), .int .i64 (x6)]) (by simp [results, Tryz.results21, go_sem, *]) rfl (hfin.out _ _ _ _ _ (Drw.more (n := n + 22 + 2 + 8 + 8 + 8 + 8) (by repeat (first | with_reducible assumption | (with_reducible apply Hid.out; assumption) | with_reducible apply Drw.drewN | with_reducible apply Drw.drew | with_reducible apply Drw.alloc | (with_reducible refine Drw.setp ?_ ?_ ?_ ?_; (first | omega | (simp <;> omega)); (first | omega | (simp <;> omega)); (first | omega | (simp <;> omega))))) (by omega)))
  have n0 : (x2 == 0) = false := by rw [beq_eq_false_iff_ne]; exact e0
  by_cases e1 : x2 = 1
  · subst e1
    clear e0 n0
    go_wp2
    exact bodyPost_ret (v := .agg #[.int .i64 (x1.2.1), .int .i64 (x1.1), .int .i64 (x1.2.2.2), .int .i64 (x1.2.2.1)]) (by simp [results, Tryz.results21, go_sem, *]) rfl (hfin.out _ _ _ _ _ (Drw.more (n := n + 22 + 2) (by repeat (first | with_reducible assumption | (with_reducible apply Hid.out; assumption) | with_reducible apply Drw.drewN | with_reducible apply Drw.drew | with_reducible apply Drw.alloc | (with_reducible refine Drw.setp ?_ ?_ ?_ ?_; (first | omega | (simp <;> omega)); (first | omega | (simp <;> omega)); (first | omega | (simp <;> omega))))) (by omega)))
  have n1 : (x2 == 1) = false := by rw [beq_eq_false_iff_ne]; exact e1
  by_cases e2 : x2 = 2
  · subst e2
    clear e0 n0 e1 n1
    go_wp2
    go_region_with (go_at_call 53; refine (pick_d (by repeat (first | with_reducible assumption | (with_reducible apply Hid.out; assumption) | with_reducible apply Drw.drewN | with_reducible apply Drw.drew | with_reducible apply Drw.alloc | (with_reducible refine Drw.setp ?_ ?_ ?_ ?_; (first | omega | (simp <;> omega)); (first | omega | (simp <;> omega)); (first | omega | (simp <;> omega))))) hB 3 (by omega) (by omega)).mono ?_; rintro e v3 ⟨x3, rfl, _, hD3', hG3⟩; have hD3 := Lib.hid hD3'; have lG3 := hD3'.lt; have zG3 := hG3.size; (try simp at zG3); have hA3 : Blk v3 (w.heap.size) 27 #[.int .i64 0, .int .i64 0, .int .i64 0, .int .i64 0] := Blk.grown (by (repeat (first | with_reducible assumption | (with_reducible apply Blk.new_at; (first | rfl | (simp; done))) | with_reducible (first | apply Blk.store3 | apply Blk.store4) | (with_reducible apply Blk.farp; (first | omega | (simp <;> omega))) | with_reducible (first | apply Blk.allocp | apply Blk.drew | apply Blk.drewN)))) hG3 (by simp <;> omega); obtain ⟨cA3, fA3, lA3, mA3, nA3⟩ := hA3.all5; have hM3 : Blk v3 (v1.heap.size) 27 #[.int .i64 x1.1, .int .i64 x1.2.1, .int .i64 x1.2.2.1, .int .i64 x1.2.2.2] := Blk.grown (by (repeat (first | with_reducible assumption | (with_reducible apply Blk.new_at; (first | rfl | (simp; done))) | with_reducible (first | apply Blk.store3 | apply Blk.store4) | (with_reducible apply Blk.farp; (first | omega | (simp <;> omega))) | with_reducible (first | apply Blk.allocp | apply Blk.drew | apply Blk.drewN)))) hG3 (by simp <;> omega); obtain ⟨cM3, fM3, lM3, mM3, nM3⟩ := hM3.all5)
    all_goals
      go_wp2
      exact bodyPost_ret (v := .agg #[.int .i64 (x1.1), .int .i64 (wrap64 (x1.2.1 + (1 + x3))), .int .i64 (x1.2.2.1), .int .i64 (x1.2.2.2)]) (by simp [results, Tryz.results21, go_sem, *]) rfl (hfin.out _ _ _ _ _ (Drw.more (n := n + 22 + 2 + 2) (by repeat (first | with_reducible assumption | (with_reducible apply Hid.out; assumption) | with_reducible apply Drw.drewN | with_reducible apply Drw.drew | with_reducible apply Drw.alloc | (with_reducible refine Drw.setp ?_ ?_ ?_ ?_; (first | omega | (simp <;> omega)); (first | omega | (simp <;> omega)); (first | omega | (simp <;> omega))))) (by omega)))
  have n2 : (x2 == 2) = false := by rw [beq_eq_false_iff_ne]; exact e2
  clear e0 e1 e2
  go_wp2
  exact bodyPost_ret (v := .agg #[.int .i64 (x1.1), .int .i64 (x1.2.1), .int .i64 (x1.2.2.1), .int .i64 (x1.2.2.2)]) (by simp [results, Tryz.results21, go_sem, *]) rfl (hfin.out _ _ _ _ _ (Drw.more (n := n + 22 + 2) (by repeat (first | with_reducible assumption | (with_reducible apply Hid.out; assumption) | with_reducible apply Drw.drewN | with_reducible apply Drw.drew | with_reducible apply Drw.alloc | (with_reducible refine Drw.setp ?_ ?_ ?_ ?_; (first | omega | (simp <;> omega)); (first | omega | (simp <;> omega)); (first | omega | (simp <;> omega))))) (by omega)))
end
/-- What a draw of a cube, a direction and a matrix gives. -/
def RetAC (w : World) (e : Ending) (w' : World) : Prop := ∃ (k : Cu) (i : Int) (m : M4), e = .returned (.tuple #[.agg #[.int .i64 k.a, .int .i64 k.b, .int .i64 k.c, .int .i64 k.d, .int .i64 k.e, .int .i64 k.f, .int .i64 k.g, .int .i64 k.h], .int .i64 i, .agg #[.int .i64 m.p, .int .i64 m.q, .int .i64 m.r, .int .i64 m.s]]) ∧ Below w.heap.size w w'
set_option maxRecDepth 100000 in
set_option maxHeartbeats 6400000 in
theorem drawAC_any (zs : List Int) (v : Value) (B : Nat) (w : World) (hr : RdB zs v B w) (hB0 : B ≤ w.heap.size) :
    Calls Tryz.prog 5 #[v] w (RetAC w) := by
  obtain ⟨A, m, c, rfl⟩ := hr.shape
  have hD0 := Lib.hid (drw_start3 (.cells #[.int .i64 0, .int .i64 0, .int .i64 0, .int .i64 0, .int .i64 0, .int .i64 0, .int .i64 0, .int .i64 0] 25) (.cells #[.int .i64 0, .int .i64 0, .int .i64 0, .int .i64 0] 27) hr)
  have hB : B ≤ w.heap.size + 1 + 1 := by omega
  clear hr
  have hfin : Hid (∀ (k : Cu) (i p q r s : Int) (w' : World), Drw zs (.slice A m c) B (w.heap.size + 1 + 1) 200 w w' → RetAC w (.returned (.tuple #[.agg #[.int .i64 k.a, .int .i64 k.b, .int .i64 k.c, .int .i64 k.d, .int .i64 k.e, .int .i64 k.f, .int .i64 k.g, .int .i64 k.h], .int .i64 i, .agg #[.int .i64 p, .int .i64 q, .int .i64 r, .int .i64 s]])) w') :=
    Lib.hid (fun k i p q r s w' hd => ⟨k, i, ⟨p, q, r, s⟩, rfl, below_cur3 hd.gr⟩)
  go_enter Tryz.func5, Tryz.ntmps5
  go_wp2_with fail
  refine (cube_d (by repeat (first | with_reducible assumption | (with_reducible apply Hid.out; assumption) | with_reducible apply Drw.drewN | with_reducible apply Drw.drew | with_reducible apply Drw.alloc | (with_reducible refine Drw.setp ?_ ?_ ?_ ?_; (first | omega | (simp <;> omega)); (first | omega | (simp <;> omega)); (first | omega | (simp <;> omega))))) hB (by omega)).mono ?_
  rintro e v1 ⟨k1, rfl, hx1, hD1', hG1⟩
  have hD1 := Lib.hid hD1'
  have lG1 := hD1'.lt
  have zG1 := hG1.size
  (try simp at zG1)
  have hR1 : Blk v1 (w.heap.size) 25 #[.int .i64 0, .int .i64 0, .int .i64 0, .int .i64 0, .int .i64 0, .int .i64 0, .int .i64 0, .int .i64 0] := Blk.grown (by (repeat (first | with_reducible assumption | (with_reducible apply Blk.new_at; (first | rfl | (simp; done))) | with_reducible (first | apply Blk.store3 | apply Blk.store4) | (with_reducible apply Blk.farp; (first | omega | (simp <;> omega))) | with_reducible (first | apply Blk.allocp | apply Blk.drew | apply Blk.drewN)))) hG1 (by simp <;> omega)
  obtain ⟨cR1, fR1, lR1, mR1, nR1⟩ := hR1.all5
  have hS1 : Blk v1 (w.heap.size + 1) 27 #[.int .i64 0, .int .i64 0, .int .i64 0, .int .i64 0] := Blk.grown (by (repeat (first | with_reducible assumption | (with_reducible apply Blk.new_at; (first | rfl | (simp; done))) | with_reducible (first | apply Blk.store3 | apply Blk.store4) | (with_reducible apply Blk.farp; (first | omega | (simp <;> omega))) | with_reducible (first | apply Blk.allocp | apply Blk.drew | apply Blk.drewN)))) hG1 (by simp <;> omega)
  obtain ⟨cS1, fS1, lS1, mS1, nS1⟩ := hS1.all5
  clear hD1' hG1
  clear hx1
  go_wp2_with fail
  refine (among_at (w := v1.alloc (.cells #[.int .i64 k1.a, .int .i64 k1.b, .int .i64 k1.c, .int .i64 k1.d, .int .i64 k1.e, .int .i64 k1.f, .int .i64 k1.g, .int .i64 k1.h] 25)) (by repeat (first | with_reducible assumption | (with_reducible apply Hid.out; assumption) | with_reducible apply Drw.drewN | with_reducible apply Drw.drew | with_reducible apply Drw.alloc | (with_reducible refine Drw.setp ?_ ?_ ?_ ?_; (first | omega | (simp <;> omega)); (first | omega | (simp <;> omega)); (first | omega | (simp <;> omega))))) hB [1, 2, 3, 1, 2, 3, 1, 2, 3, 0, 4] (fun _ => True) (by simp) (by simp) (by simp) (by omega) (by simp) rfl rfl).mono ?_
  rintro e v2 ⟨x2, rfl, _, hD2', hG2⟩
  have hD2 := Lib.hid hD2'
  have lG2 := hD2'.lt
  have zG2 := hG2.size
  (try simp at zG2)
  have hR2 : Blk v2 (w.heap.size) 25 #[.int .i64 0, .int .i64 0, .int .i64 0, .int .i64 0, .int .i64 0, .int .i64 0, .int .i64 0, .int .i64 0] := Blk.grown (by (repeat (first | with_reducible assumption | (with_reducible apply Blk.new_at; (first | rfl | (simp; done))) | with_reducible (first | apply Blk.store3 | apply Blk.store4) | (with_reducible apply Blk.farp; (first | omega | (simp <;> omega))) | with_reducible (first | apply Blk.allocp | apply Blk.drew | apply Blk.drewN)))) hG2 (by simp <;> omega)
  obtain ⟨cR2, fR2, lR2, mR2, nR2⟩ := hR2.all5
  have hS2 : Blk v2 (w.heap.size + 1) 27 #[.int .i64 0, .int .i64 0, .int .i64 0, .int .i64 0] := Blk.grown (by (repeat (first | with_reducible assumption | (with_reducible apply Blk.new_at; (first | rfl | (simp; done))) | with_reducible (first | apply Blk.store3 | apply Blk.store4) | (with_reducible apply Blk.farp; (first | omega | (simp <;> omega))) | with_reducible (first | apply Blk.allocp | apply Blk.drew | apply Blk.drewN)))) hG2 (by simp <;> omega)
  obtain ⟨cS2, fS2, lS2, mS2, nS2⟩ := hS2.all5
  have hK2 : Blk v2 (v1.heap.size) 25 #[.int .i64 k1.a, .int .i64 k1.b, .int .i64 k1.c, .int .i64 k1.d, .int .i64 k1.e, .int .i64 k1.f, .int .i64 k1.g, .int .i64 k1.h] := Blk.grown (by (repeat (first | with_reducible assumption | (with_reducible apply Blk.new_at; (first | rfl | (simp; done))) | with_reducible (first | apply Blk.store3 | apply Blk.store4) | (with_reducible apply Blk.farp; (first | omega | (simp <;> omega))) | with_reducible (first | apply Blk.allocp | apply Blk.drew | apply Blk.drewN)))) hG2 (by simp <;> omega)
  obtain ⟨cK2, fK2, lK2, mK2, nK2⟩ := hK2.all5
  clear hD2' hG2 hD1
  go_wp2_with fail
  refine (one_d (by repeat (first | with_reducible assumption | (with_reducible apply Hid.out; assumption) | with_reducible apply Drw.drewN | with_reducible apply Drw.drew | with_reducible apply Drw.alloc | (with_reducible refine Drw.setp ?_ ?_ ?_ ?_; (first | omega | (simp <;> omega)); (first | omega | (simp <;> omega)); (first | omega | (simp <;> omega))))) hB 6 (by omega) (by omega)).mono ?_
  rintro e v3 ⟨x3, rfl, hx3, hD3', hG3⟩
  have hD3 := Lib.hid hD3'
  have lG3 := hD3'.lt
  have zG3 := hG3.size
  (try simp at zG3)
  have hR3 : Blk v3 (w.heap.size) 25 #[.int .i64 0, .int .i64 0, .int .i64 0, .int .i64 0, .int .i64 0, .int .i64 0, .int .i64 0, .int .i64 0] := Blk.grown (by (repeat (first | with_reducible assumption | (with_reducible apply Blk.new_at; (first | rfl | (simp; done))) | with_reducible (first | apply Blk.store3 | apply Blk.store4) | (with_reducible apply Blk.farp; (first | omega | (simp <;> omega))) | with_reducible (first | apply Blk.allocp | apply Blk.drew | apply Blk.drewN)))) hG3 (by simp <;> omega)
  obtain ⟨cR3, fR3, lR3, mR3, nR3⟩ := hR3.all5
  have hS3 : Blk v3 (w.heap.size + 1) 27 #[.int .i64 0, .int .i64 0, .int .i64 0, .int .i64 0] := Blk.grown (by (repeat (first | with_reducible assumption | (with_reducible apply Blk.new_at; (first | rfl | (simp; done))) | with_reducible (first | apply Blk.store3 | apply Blk.store4) | (with_reducible apply Blk.farp; (first | omega | (simp <;> omega))) | with_reducible (first | apply Blk.allocp | apply Blk.drew | apply Blk.drewN)))) hG3 (by simp <;> omega)
  obtain ⟨cS3, fS3, lS3, mS3, nS3⟩ := hS3.all5
  have hK3 : Blk v3 (v1.heap.size) 25 #[.int .i64 k1.a, .int .i64 k1.b, .int .i64 k1.c, .int .i64 k1.d, .int .i64 k1.e, .int .i64 k1.f, .int .i64 k1.g, .int .i64 k1.h] := Blk.grown (by (repeat (first | with_reducible assumption | (with_reducible apply Blk.new_at; (first | rfl | (simp; done))) | with_reducible (first | apply Blk.store3 | apply Blk.store4) | (with_reducible apply Blk.farp; (first | omega | (simp <;> omega))) | with_reducible (first | apply Blk.allocp | apply Blk.drew | apply Blk.drewN)))) hG3 (by simp <;> omega)
  obtain ⟨cK3, fK3, lK3, mK3, nK3⟩ := hK3.all5
  clear hD3' hG3
  clear hx3
  cases x3 with
  | true =>
    go_wp2
    go_region_with (go_at_call 21; refine (matrix_d (by repeat (first | with_reducible assumption | (with_reducible apply Hid.out; assumption) | with_reducible apply Drw.drewN | with_reducible apply Drw.drew | with_reducible apply Drw.alloc | (with_reducible refine Drw.setp ?_ ?_ ?_ ?_; (first | omega | (simp <;> omega)); (first | omega | (simp <;> omega)); (first | omega | (simp <;> omega))))) hB (by omega)).mono ?_; rintro e v4 ⟨x4, rfl, _, hD4', hG4⟩; have hD4 := Lib.hid hD4'; have lG4 := hD4'.lt; have zG4 := hG4.size; (try simp at zG4); have hR4 : Blk v4 (w.heap.size) 25 #[.int .i64 0, .int .i64 0, .int .i64 0, .int .i64 0, .int .i64 0, .int .i64 0, .int .i64 0, .int .i64 0] := Blk.grown (by (repeat (first | with_reducible assumption | (with_reducible apply Blk.new_at; (first | rfl | (simp; done))) | with_reducible (first | apply Blk.store3 | apply Blk.store4) | (with_reducible apply Blk.farp; (first | omega | (simp <;> omega))) | with_reducible (first | apply Blk.allocp | apply Blk.drew | apply Blk.drewN)))) hG4 (by simp <;> omega); obtain ⟨cR4, fR4, lR4, mR4, nR4⟩ := hR4.all5; have hS4 : Blk v4 (w.heap.size + 1) 27 #[.int .i64 0, .int .i64 0, .int .i64 0, .int .i64 0] := Blk.grown (by (repeat (first | with_reducible assumption | (with_reducible apply Blk.new_at; (first | rfl | (simp; done))) | with_reducible (first | apply Blk.store3 | apply Blk.store4) | (with_reducible apply Blk.farp; (first | omega | (simp <;> omega))) | with_reducible (first | apply Blk.allocp | apply Blk.drew | apply Blk.drewN)))) hG4 (by simp <;> omega); obtain ⟨cS4, fS4, lS4, mS4, nS4⟩ := hS4.all5; have hK4 : Blk v4 (v1.heap.size) 25 #[.int .i64 k1.a, .int .i64 k1.b, .int .i64 k1.c, .int .i64 k1.d, .int .i64 k1.e, .int .i64 k1.f, .int .i64 k1.g, .int .i64 k1.h] := Blk.grown (by (repeat (first | with_reducible assumption | (with_reducible apply Blk.new_at; (first | rfl | (simp; done))) | with_reducible (first | apply Blk.store3 | apply Blk.store4) | (with_reducible apply Blk.farp; (first | omega | (simp <;> omega))) | with_reducible (first | apply Blk.allocp | apply Blk.drew | apply Blk.drewN)))) hG4 (by simp <;> omega); obtain ⟨cK4, fK4, lK4, mK4, nK4⟩ := hK4.all5)
    all_goals
      go_wp2
      exact bodyPost_ret (v := .tuple #[.agg #[.int .i64 k1.a, .int .i64 k1.b, .int .i64 k1.c, .int .i64 k1.d, .int .i64 k1.e, .int .i64 k1.f, .int .i64 k1.g, .int .i64 k1.h], .int .i64 x2, .agg #[.int .i64 x4.1, .int .i64 x4.2.1, .int .i64 x4.2.2.1, .int .i64 x4.2.2.2]]) (by simp [results, Tryz.results5, go_sem, *]) rfl (hfin.out k1 _ _ _ _ _ _ (Drw.more (n := 0 + 60 + 2 + 2 + 60) (by repeat (first | with_reducible assumption | (with_reducible apply Hid.out; assumption) | with_reducible apply Drw.drewN | with_reducible apply Drw.drew | with_reducible apply Drw.alloc | (with_reducible refine Drw.setp ?_ ?_ ?_ ?_; (first | omega | (simp <;> omega)); (first | omega | (simp <;> omega)); (first | omega | (simp <;> omega))))) (by omega)))
  | false =>
    go_wp2
    go_region_with (go_at_call 22; refine (proper_d (by repeat (first | with_reducible assumption | (with_reducible apply Hid.out; assumption) | with_reducible apply Drw.drewN | with_reducible apply Drw.drew | with_reducible apply Drw.alloc | (with_reducible refine Drw.setp ?_ ?_ ?_ ?_; (first | omega | (simp <;> omega)); (first | omega | (simp <;> omega)); (first | omega | (simp <;> omega))))) hB (by omega)).mono ?_; rintro e v4 ⟨x4, rfl, _, hD4', hG4⟩; have hD4 := Lib.hid hD4'; have lG4 := hD4'.lt; have zG4 := hG4.size; (try simp at zG4); have hR4 : Blk v4 (w.heap.size) 25 #[.int .i64 0, .int .i64 0, .int .i64 0, .int .i64 0, .int .i64 0, .int .i64 0, .int .i64 0, .int .i64 0] := Blk.grown (by (repeat (first | with_reducible assumption | (with_reducible apply Blk.new_at; (first | rfl | (simp; done))) | with_reducible (first | apply Blk.store3 | apply Blk.store4) | (with_reducible apply Blk.farp; (first | omega | (simp <;> omega))) | with_reducible (first | apply Blk.allocp | apply Blk.drew | apply Blk.drewN)))) hG4 (by simp <;> omega); obtain ⟨cR4, fR4, lR4, mR4, nR4⟩ := hR4.all5; have hS4 : Blk v4 (w.heap.size + 1) 27 #[.int .i64 0, .int .i64 0, .int .i64 0, .int .i64 0] := Blk.grown (by (repeat (first | with_reducible assumption | (with_reducible apply Blk.new_at; (first | rfl | (simp; done))) | with_reducible (first | apply Blk.store3 | apply Blk.store4) | (with_reducible apply Blk.farp; (first | omega | (simp <;> omega))) | with_reducible (first | apply Blk.allocp | apply Blk.drew | apply Blk.drewN)))) hG4 (by simp <;> omega); obtain ⟨cS4, fS4, lS4, mS4, nS4⟩ := hS4.all5; have hK4 : Blk v4 (v1.heap.size) 25 #[.int .i64 k1.a, .int .i64 k1.b, .int .i64 k1.c, .int .i64 k1.d, .int .i64 k1.e, .int .i64 k1.f, .int .i64 k1.g, .int .i64 k1.h] := Blk.grown (by (repeat (first | with_reducible assumption | (with_reducible apply Blk.new_at; (first | rfl | (simp; done))) | with_reducible (first | apply Blk.store3 | apply Blk.store4) | (with_reducible apply Blk.farp; (first | omega | (simp <;> omega))) | with_reducible (first | apply Blk.allocp | apply Blk.drew | apply Blk.drewN)))) hG4 (by simp <;> omega); obtain ⟨cK4, fK4, lK4, mK4, nK4⟩ := hK4.all5)
    all_goals
      go_wp2
      exact bodyPost_ret (v := .tuple #[.agg #[.int .i64 k1.a, .int .i64 k1.b, .int .i64 k1.c, .int .i64 k1.d, .int .i64 k1.e, .int .i64 k1.f, .int .i64 k1.g, .int .i64 k1.h], .int .i64 x2, .agg #[.int .i64 x4.1, .int .i64 x4.2.1, .int .i64 x4.2.2.1, .int .i64 x4.2.2.2]]) (by simp [results, Tryz.results5, go_sem, *]) rfl (hfin.out k1 _ _ _ _ _ _ (Drw.more (n := 0 + 60 + 2 + 2 + 22) (by repeat (first | with_reducible assumption | (with_reducible apply Hid.out; assumption) | with_reducible apply Drw.drewN | with_reducible apply Drw.drew | with_reducible apply Drw.alloc | (with_reducible refine Drw.setp ?_ ?_ ?_ ?_; (first | omega | (simp <;> omega)); (first | omega | (simp <;> omega)); (first | omega | (simp <;> omega))))) (by omega)))
set_option maxRecDepth 100000 in
set_option maxHeartbeats 6400000 in
theorem drawCO_any (zs : List Int) (v : Value) (B : Nat) (w : World) (hr : RdB zs v B w) (hB0 : B ≤ w.heap.size) :
    Calls Tryz.prog 13 #[v] w (RetDg w) := by
  obtain ⟨A, m, c, rfl⟩ := hr.shape
  have hD0 := Lib.hid (drw_start3 (.cells #[.int .i64 0, .int .i64 0, .int .i64 0] 33) (.cells #[.int .i64 0, .int .i64 0, .int .i64 0] 33) hr)
  have hB : B ≤ w.heap.size + 1 + 1 := by omega
  clear hr
  have hfin : Hid (∀ (x y z a b d : Int) (w' : World), Drw zs (.slice A m c) B (w.heap.size + 1 + 1) 200 w w' → RetDg w (.returned (.tuple #[.agg #[.int .i64 x, .int .i64 y, .int .i64 z], .agg #[.int .i64 a, .int .i64 b, .int .i64 d]])) w') :=
    Lib.hid (fun x y z a b d w' hd => ⟨⟨x, y, z⟩, ⟨a, b, d⟩, rfl, below_cur3 hd.gr⟩)
  go_enter Tryz.func13, Tryz.ntmps13
  go_wp2_with fail
  refine (classForms_d (by repeat (first | with_reducible assumption | (with_reducible apply Hid.out; assumption) | with_reducible apply Drw.drewN | with_reducible apply Drw.drew | with_reducible apply Drw.alloc | (with_reducible refine Drw.setp ?_ ?_ ?_ ?_; (first | omega | (simp <;> omega)); (first | omega | (simp <;> omega)); (first | omega | (simp <;> omega))))) hB (by omega)).mono ?_
  rintro e v1 ⟨f, g, rfl, hD1', hG1⟩
  have hD1 := Lib.hid hD1'; have lG1 := hD1'.lt; have zG1 := hG1.size
  (try simp at zG1)
  have hR1 : Blk v1 (w.heap.size) 33 #[.int .i64 0, .int .i64 0, .int .i64 0] := Blk.grown (by (repeat (first | with_reducible assumption | (with_reducible apply Blk.new_at; (first | rfl | (simp; done))) | with_reducible (first | apply Blk.store3 | apply Blk.store4) | (with_reducible apply Blk.farp; (first | omega | (simp <;> omega))) | with_reducible (first | apply Blk.allocp | apply Blk.drew | apply Blk.drewN)))) hG1 (by simp <;> omega)
  obtain ⟨cR1, fR1, lR1, mR1, nR1⟩ := hR1.all5
  have hS1 : Blk v1 (w.heap.size + 1) 33 #[.int .i64 0, .int .i64 0, .int .i64 0] := Blk.grown (by (repeat (first | with_reducible assumption | (with_reducible apply Blk.new_at; (first | rfl | (simp; done))) | with_reducible (first | apply Blk.store3 | apply Blk.store4) | (with_reducible apply Blk.farp; (first | omega | (simp <;> omega))) | with_reducible (first | apply Blk.allocp | apply Blk.drew | apply Blk.drewN)))) hG1 (by simp <;> omega)
  obtain ⟨cS1, fS1, lS1, mS1, nS1⟩ := hS1.all5
  clear hD1' hG1
  go_wp2_with fail
  refine (one_d (by repeat (first | with_reducible assumption | (with_reducible apply Hid.out; assumption) | with_reducible apply Drw.drewN | with_reducible apply Drw.drew | with_reducible apply Drw.alloc | (with_reducible refine Drw.setp ?_ ?_ ?_ ?_; (first | omega | (simp <;> omega)); (first | omega | (simp <;> omega)); (first | omega | (simp <;> omega))))) hB 2 (by omega) (by omega)).mono ?_
  rintro e v2 ⟨x2, rfl, hx2, hD2', hG2⟩
  have hD2 := Lib.hid hD2'
  have lG2 := hD2'.lt
  have zG2 := hG2.size
  (try simp at zG2)
  have hR2 : Blk v2 (w.heap.size) 33 #[.int .i64 0, .int .i64 0, .int .i64 0] := Blk.grown (by (repeat (first | with_reducible assumption | (with_reducible apply Blk.new_at; (first | rfl | (simp; done))) | with_reducible (first | apply Blk.store3 | apply Blk.store4) | (with_reducible apply Blk.farp; (first | omega | (simp <;> omega))) | with_reducible (first | apply Blk.allocp | apply Blk.drew | apply Blk.drewN)))) hG2 (by simp <;> omega)
  obtain ⟨cR2, fR2, lR2, mR2, nR2⟩ := hR2.all5
  have hS2 : Blk v2 (w.heap.size + 1) 33 #[.int .i64 0, .int .i64 0, .int .i64 0] := Blk.grown (by (repeat (first | with_reducible assumption | (with_reducible apply Blk.new_at; (first | rfl | (simp; done))) | with_reducible (first | apply Blk.store3 | apply Blk.store4) | (with_reducible apply Blk.farp; (first | omega | (simp <;> omega))) | with_reducible (first | apply Blk.allocp | apply Blk.drew | apply Blk.drewN)))) hG2 (by simp <;> omega)
  obtain ⟨cS2, fS2, lS2, mS2, nS2⟩ := hS2.all5
  have hP2 : Blk v2 (v1.heap.size) 33 #[.int .i64 f.a, .int .i64 f.b, .int .i64 f.c] := Blk.grown (by (repeat (first | with_reducible assumption | (with_reducible apply Blk.new_at; (first | rfl | (simp; done))) | with_reducible (first | apply Blk.store3 | apply Blk.store4) | (with_reducible apply Blk.farp; (first | omega | (simp <;> omega))) | with_reducible (first | apply Blk.allocp | apply Blk.drew | apply Blk.drewN)))) hG2 (by simp <;> omega)
  obtain ⟨cP2, fP2, lP2, mP2, nP2⟩ := hP2.all5
  have hQ2 : Blk v2 (v1.heap.size + 1) 33 #[.int .i64 g.a, .int .i64 g.b, .int .i64 g.c] := Blk.grown (by (repeat (first | with_reducible assumption | (with_reducible apply Blk.new_at; (first | rfl | (simp; done))) | with_reducible (first | apply Blk.store3 | apply Blk.store4) | (with_reducible apply Blk.farp; (first | omega | (simp <;> omega))) | with_reducible (first | apply Blk.allocp | apply Blk.drew | apply Blk.drewN)))) hG2 (by simp <;> omega)
  obtain ⟨cQ2, fQ2, lQ2, mQ2, nQ2⟩ := hQ2.all5
  clear hD2' hG2
  clear hx2
  cases x2 with
  | false =>
    go_wp2
    go_region
    all_goals
      go_wp2
      exact bodyPost_ret (v := .tuple #[.agg #[.int .i64 f.a, .int .i64 f.b, .int .i64 f.c], .agg #[.int .i64 g.a, .int .i64 g.b, .int .i64 g.c]]) (by simp [results, Tryz.results13, go_sem, *]) rfl (hfin.out _ _ _ _ _ _ _ (Drw.more (n := 0 + 100 + 2) (by repeat (first | with_reducible assumption | (with_reducible apply Hid.out; assumption) | with_reducible apply Drw.drewN | with_reducible apply Drw.drew | with_reducible apply Drw.alloc | (with_reducible refine Drw.setp ?_ ?_ ?_ ?_; (first | omega | (simp <;> omega)); (first | omega | (simp <;> omega)); (first | omega | (simp <;> omega))))) (by omega)))
  | true =>
    have hT := Lib.hid (fun w => coTwo_any f g w)
    cases hp : pairB f g with
    | false =>
      rw [hp] at hT
      clear hp
      go_wp2_with (go_at_call 40; (with_reducible refine (hT.out _).mono ?_); rintro e v3 ⟨rfl, hB3⟩; have hZ3 := hB3.size; (try simp at hZ3); (try have zl3 : w.heap.size < v3.heap.size := by omega); (try have ze3 : w.heap.size ≤ v3.heap.size := by omega); (try have zn3 : ¬ w.heap.size = v3.heap.size := by omega); (try have zm3 : ¬ v3.heap.size = w.heap.size := by omega); have hR3 : Blk v3 (w.heap.size) 33 #[.int .i64 0, .int .i64 0, .int .i64 0] := Blk.call (by (repeat (first | with_reducible assumption | (with_reducible apply Blk.new_at; (first | rfl | (simp; done))) | with_reducible (first | apply Blk.store3 | apply Blk.store4) | (with_reducible apply Blk.farp; (first | omega | (simp <;> omega))) | with_reducible (first | apply Blk.allocp | apply Blk.drew | apply Blk.drewN)))) hB3; obtain ⟨cR3, fR3, lR3, mR3, nR3⟩ := hR3.all5; have hS3 : Blk v3 (w.heap.size + 1) 33 #[.int .i64 0, .int .i64 0, .int .i64 0] := Blk.call (by (repeat (first | with_reducible assumption | (with_reducible apply Blk.new_at; (first | rfl | (simp; done))) | with_reducible (first | apply Blk.store3 | apply Blk.store4) | (with_reducible apply Blk.farp; (first | omega | (simp <;> omega))) | with_reducible (first | apply Blk.allocp | apply Blk.drew | apply Blk.drewN)))) hB3; obtain ⟨cS3, fS3, lS3, mS3, nS3⟩ := hS3.all5; have hP3 : Blk v3 (v1.heap.size) 33 #[.int .i64 f.a, .int .i64 f.b, .int .i64 f.c] := Blk.call (by (repeat (first | with_reducible assumption | (with_reducible apply Blk.new_at; (first | rfl | (simp; done))) | with_reducible (first | apply Blk.store3 | apply Blk.store4) | (with_reducible apply Blk.farp; (first | omega | (simp <;> omega))) | with_reducible (first | apply Blk.allocp | apply Blk.drew | apply Blk.drewN)))) hB3; obtain ⟨cP3, fP3, lP3, mP3, nP3⟩ := hP3.all5; have hQ3 : Blk v3 (v1.heap.size + 1) 33 #[.int .i64 g.a, .int .i64 g.b, .int .i64 g.c] := Blk.call (by (repeat (first | with_reducible assumption | (with_reducible apply Blk.new_at; (first | rfl | (simp; done))) | with_reducible (first | apply Blk.store3 | apply Blk.store4) | (with_reducible apply Blk.farp; (first | omega | (simp <;> omega))) | with_reducible (first | apply Blk.allocp | apply Blk.drew | apply Blk.drewN)))) hB3; obtain ⟨cQ3, fQ3, lQ3, mQ3, nQ3⟩ := hQ3.all5)
      have hD3 := Lib.hid (Drw.call (w := _) (n := 0 + 100 + 2) (zs := zs) (v := .slice A m c) (B := B) (G := w.heap.size + 1 + 1) (w0 := w) (by repeat (first | with_reducible assumption | (with_reducible apply Hid.out; assumption) | with_reducible apply Drw.drewN | with_reducible apply Drw.drew | with_reducible apply Drw.alloc | (with_reducible refine Drw.setp ?_ ?_ ?_ ?_; (first | omega | (simp <;> omega)); (first | omega | (simp <;> omega)); (first | omega | (simp <;> omega))))) hB hB3)
      go_region
      all_goals
        go_wp2
        exact bodyPost_ret (v := .tuple #[.agg #[.int .i64 f.a, .int .i64 f.b, .int .i64 f.c], .agg #[.int .i64 g.a, .int .i64 g.b, .int .i64 g.c]]) (by simp [results, Tryz.results13, go_sem, *]) rfl (hfin.out _ _ _ _ _ _ _ (Drw.more (n := 0 + 100 + 2) (by repeat (first | with_reducible assumption | (with_reducible apply Hid.out; assumption) | with_reducible apply Drw.drewN | with_reducible apply Drw.drew | with_reducible apply Drw.alloc | (with_reducible refine Drw.setp ?_ ?_ ?_ ?_; (first | omega | (simp <;> omega)); (first | omega | (simp <;> omega)); (first | omega | (simp <;> omega))))) (by omega)))
    | true =>
      rw [hp] at hT
      unfold pairB at hp
      simp only [Bool.and_eq_true, decide_eq_true_eq] at hp
      have hF := Lib.hid (fun w => reClass_any f.a f.b f.c (red f).a (red f).b (red f).c w (CF.of_cls hp.1).df rfl)
      have hG := Lib.hid (fun w => reClass_any g.a g.b g.c (red g).a (red g).b (red g).c w (CF.of_cls hp.2.1).df rfl)
      clear hp
      generalize red f = rf at *
      generalize red g = rg at *
      go_wp2_with (go_at_call 40; (with_reducible refine (hT.out _).mono ?_); rintro e v3 ⟨rfl, hB3⟩; have hZ3 := hB3.size; (try simp at hZ3); (try have zl3 : w.heap.size < v3.heap.size := by omega); (try have ze3 : w.heap.size ≤ v3.heap.size := by omega); (try have zn3 : ¬ w.heap.size = v3.heap.size := by omega); (try have zm3 : ¬ v3.heap.size = w.heap.size := by omega); have hR3 : Blk v3 (w.heap.size) 33 #[.int .i64 0, .int .i64 0, .int .i64 0] := Blk.call (by (repeat (first | with_reducible assumption | (with_reducible apply Blk.new_at; (first | rfl | (simp; done))) | with_reducible (first | apply Blk.store3 | apply Blk.store4) | (with_reducible apply Blk.farp; (first | omega | (simp <;> omega))) | with_reducible (first | apply Blk.allocp | apply Blk.drew | apply Blk.drewN)))) hB3; obtain ⟨cR3, fR3, lR3, mR3, nR3⟩ := hR3.all5; have hS3 : Blk v3 (w.heap.size + 1) 33 #[.int .i64 0, .int .i64 0, .int .i64 0] := Blk.call (by (repeat (first | with_reducible assumption | (with_reducible apply Blk.new_at; (first | rfl | (simp; done))) | with_reducible (first | apply Blk.store3 | apply Blk.store4) | (with_reducible apply Blk.farp; (first | omega | (simp <;> omega))) | with_reducible (first | apply Blk.allocp | apply Blk.drew | apply Blk.drewN)))) hB3; obtain ⟨cS3, fS3, lS3, mS3, nS3⟩ := hS3.all5; have hP3 : Blk v3 (v1.heap.size) 33 #[.int .i64 f.a, .int .i64 f.b, .int .i64 f.c] := Blk.call (by (repeat (first | with_reducible assumption | (with_reducible apply Blk.new_at; (first | rfl | (simp; done))) | with_reducible (first | apply Blk.store3 | apply Blk.store4) | (with_reducible apply Blk.farp; (first | omega | (simp <;> omega))) | with_reducible (first | apply Blk.allocp | apply Blk.drew | apply Blk.drewN)))) hB3; obtain ⟨cP3, fP3, lP3, mP3, nP3⟩ := hP3.all5; have hQ3 : Blk v3 (v1.heap.size + 1) 33 #[.int .i64 g.a, .int .i64 g.b, .int .i64 g.c] := Blk.call (by (repeat (first | with_reducible assumption | (with_reducible apply Blk.new_at; (first | rfl | (simp; done))) | with_reducible (first | apply Blk.store3 | apply Blk.store4) | (with_reducible apply Blk.farp; (first | omega | (simp <;> omega))) | with_reducible (first | apply Blk.allocp | apply Blk.drew | apply Blk.drewN)))) hB3; obtain ⟨cQ3, fQ3, lQ3, mQ3, nQ3⟩ := hQ3.all5)
      have hD3 := Lib.hid (Drw.call (w := _) (n := 0 + 100 + 2) (zs := zs) (v := .slice A m c) (B := B) (G := w.heap.size + 1 + 1) (w0 := w) (by repeat (first | with_reducible assumption | (with_reducible apply Hid.out; assumption) | with_reducible apply Drw.drewN | with_reducible apply Drw.drew | with_reducible apply Drw.alloc | (with_reducible refine Drw.setp ?_ ?_ ?_ ?_; (first | omega | (simp <;> omega)); (first | omega | (simp <;> omega)); (first | omega | (simp <;> omega))))) hB hB3)
      go_region_with (first | (go_at_call 41; (with_reducible refine (hF.out _).mono ?_); rintro e v4 ⟨rfl, hB4⟩; have zB4 := hB4.size; (try simp at zB4); have hR4 : Blk v4 (w.heap.size) 33 #[.int .i64 0, .int .i64 0, .int .i64 0] := Blk.call (by (repeat (first | with_reducible assumption | (with_reducible apply Blk.new_at; (first | rfl | (simp; done))) | with_reducible (first | apply Blk.store3 | apply Blk.store4) | (with_reducible apply Blk.farp; (first | omega | (simp <;> omega))) | with_reducible (first | apply Blk.allocp | apply Blk.drew | apply Blk.drewN)))) hB4; obtain ⟨cR4, fR4, lR4, mR4, nR4⟩ := hR4.all5; have hS4 : Blk v4 (w.heap.size + 1) 33 #[.int .i64 0, .int .i64 0, .int .i64 0] := Blk.call (by (repeat (first | with_reducible assumption | (with_reducible apply Blk.new_at; (first | rfl | (simp; done))) | with_reducible (first | apply Blk.store3 | apply Blk.store4) | (with_reducible apply Blk.farp; (first | omega | (simp <;> omega))) | with_reducible (first | apply Blk.allocp | apply Blk.drew | apply Blk.drewN)))) hB4; obtain ⟨cS4, fS4, lS4, mS4, nS4⟩ := hS4.all5; have hP4 : Blk v4 (v1.heap.size) 33 #[.int .i64 f.a, .int .i64 f.b, .int .i64 f.c] := Blk.call (by (repeat (first | with_reducible assumption | (with_reducible apply Blk.new_at; (first | rfl | (simp; done))) | with_reducible (first | apply Blk.store3 | apply Blk.store4) | (with_reducible apply Blk.farp; (first | omega | (simp <;> omega))) | with_reducible (first | apply Blk.allocp | apply Blk.drew | apply Blk.drewN)))) hB4; obtain ⟨cP4, fP4, lP4, mP4, nP4⟩ := hP4.all5; have hQ4 : Blk v4 (v1.heap.size + 1) 33 #[.int .i64 g.a, .int .i64 g.b, .int .i64 g.c] := Blk.call (by (repeat (first | with_reducible assumption | (with_reducible apply Blk.new_at; (first | rfl | (simp; done))) | with_reducible (first | apply Blk.store3 | apply Blk.store4) | (with_reducible apply Blk.farp; (first | omega | (simp <;> omega))) | with_reducible (first | apply Blk.allocp | apply Blk.drew | apply Blk.drewN)))) hB4; obtain ⟨cQ4, fQ4, lQ4, mQ4, nQ4⟩ := hQ4.all5) | (go_at_call 41; (with_reducible refine (hG.out _).mono ?_); rintro e v5 ⟨rfl, hB5⟩; have zB5 := hB5.size; (try simp at zB5); have hR5 : Blk v5 (w.heap.size) 33 #[.int .i64 0, .int .i64 0, .int .i64 0] := Blk.call (by (repeat (first | with_reducible assumption | (with_reducible apply Blk.new_at; (first | rfl | (simp; done))) | with_reducible (first | apply Blk.store3 | apply Blk.store4) | (with_reducible apply Blk.farp; (first | omega | (simp <;> omega))) | with_reducible (first | apply Blk.allocp | apply Blk.drew | apply Blk.drewN)))) hB5; obtain ⟨cR5, fR5, lR5, mR5, nR5⟩ := hR5.all5; have hS5 : Blk v5 (w.heap.size + 1) 33 #[.int .i64 0, .int .i64 0, .int .i64 0] := Blk.call (by (repeat (first | with_reducible assumption | (with_reducible apply Blk.new_at; (first | rfl | (simp; done))) | with_reducible (first | apply Blk.store3 | apply Blk.store4) | (with_reducible apply Blk.farp; (first | omega | (simp <;> omega))) | with_reducible (first | apply Blk.allocp | apply Blk.drew | apply Blk.drewN)))) hB5; obtain ⟨cS5, fS5, lS5, mS5, nS5⟩ := hS5.all5; have hP5 : Blk v5 (v1.heap.size) 33 #[.int .i64 f.a, .int .i64 f.b, .int .i64 f.c] := Blk.call (by (repeat (first | with_reducible assumption | (with_reducible apply Blk.new_at; (first | rfl | (simp; done))) | with_reducible (first | apply Blk.store3 | apply Blk.store4) | (with_reducible apply Blk.farp; (first | omega | (simp <;> omega))) | with_reducible (first | apply Blk.allocp | apply Blk.drew | apply Blk.drewN)))) hB5; obtain ⟨cP5, fP5, lP5, mP5, nP5⟩ := hP5.all5; have hQ5 : Blk v5 (v1.heap.size + 1) 33 #[.int .i64 g.a, .int .i64 g.b, .int .i64 g.c] := Blk.call (by (repeat (first | with_reducible assumption | (with_reducible apply Blk.new_at; (first | rfl | (simp; done))) | with_reducible (first | apply Blk.store3 | apply Blk.store4) | (with_reducible apply Blk.farp; (first | omega | (simp <;> omega))) | with_reducible (first | apply Blk.allocp | apply Blk.drew | apply Blk.drewN)))) hB5; obtain ⟨cQ5, fQ5, lQ5, mQ5, nQ5⟩ := hQ5.all5))
      all_goals
        go_wp2
        have hD4 := Lib.hid (Drw.call (w := _) (n := 0 + 100 + 2) (zs := zs) (v := .slice A m c) (B := B) (G := w.heap.size + 1 + 1) (w0 := w) (by repeat (first | with_reducible assumption | (with_reducible apply Hid.out; assumption) | with_reducible apply Drw.drewN | with_reducible apply Drw.drew | with_reducible apply Drw.alloc | (with_reducible refine Drw.setp ?_ ?_ ?_ ?_; (first | omega | (simp <;> omega)); (first | omega | (simp <;> omega)); (first | omega | (simp <;> omega))))) hB hB4)
        have hD5 := Lib.hid (Drw.call (w := _) (n := 0 + 100 + 2) (zs := zs) (v := .slice A m c) (B := B) (G := w.heap.size + 1 + 1) (w0 := w) (by repeat (first | with_reducible assumption | (with_reducible apply Hid.out; assumption) | with_reducible apply Drw.drewN | with_reducible apply Drw.drew | with_reducible apply Drw.alloc | (with_reducible refine Drw.setp ?_ ?_ ?_ ?_; (first | omega | (simp <;> omega)); (first | omega | (simp <;> omega)); (first | omega | (simp <;> omega))))) hB hB5)
        exact bodyPost_ret (v := .tuple #[.agg #[.int .i64 rf.a, .int .i64 rf.b, .int .i64 rf.c], .agg #[.int .i64 rg.a, .int .i64 rg.b, .int .i64 rg.c]]) (by simp [results, Tryz.results13, go_sem, *]) rfl (hfin.out _ _ _ _ _ _ _ (Drw.more (n := 0 + 100 + 2) (by repeat (first | with_reducible assumption | (with_reducible apply Hid.out; assumption) | with_reducible apply Drw.drewN | with_reducible apply Drw.drew | with_reducible apply Drw.alloc | (with_reducible refine Drw.setp ?_ ?_ ?_ ?_; (first | omega | (simp <;> omega)); (first | omega | (simp <;> omega)); (first | omega | (simp <;> omega))))) (by omega)))
end Go.Proofs.YtlcegkafagdcjaaGreatDoor
