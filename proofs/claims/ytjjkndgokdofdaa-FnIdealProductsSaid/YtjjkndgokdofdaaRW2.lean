/- Contracts: drawn ideals that are seldom invalid; DrawIsInvertible, DrawIdealProduct (written by gen_RW2.py). -/
import Derived.Test.YtjjkndgokdofdaaRW
import Derived.Test.YtjjkndgokdofdaaDK
namespace Go.Proofs.Ytjjkndgokdofdaa
open Go.RowKit

theorem drw_start3I {zs : List Int} {v : Value} {B : Nat} {w : World} (r r2 : Obj) (hr : RdB zs v B w) : Drw zs v B (w.heap.size + 1 + 1) 0 w (((w.alloc r).alloc r2).alloc (.cells #[v, .int .i64 0, .int .u64 0] 69)) := by
  have h := drw_start2 (w := w.alloc r) r2 (hr.grown (grown_alloc _ _ none) (fun k hk => by cases hk))
  refine ⟨h.rd, by simpa using h.cur, (grown_alloc _ _ _).trans (by simpa using h.gr)⟩
theorem below_cur3I {w w' : World} (h : w.grownBy w' (some (w.heap.size + 1 + 1))) : Below w.heap.size w w' :=
  (Below.refl w.heap.size w).grown h (Nat.le_refl _) (fun k hk => by injection hk with hk; omega)
/-- What a draw of an ideal gives. -/
def RetDI (w : World) (e : Ending) (w' : World) : Prop := ∃ (d x y z : Int), e = .returned (.tuple #[.int .i64 d, .agg #[.int .i64 x, .int .i64 y, .int .i64 z]]) ∧ Below w.heap.size w w'
/-- What a draw of two ideals gives. -/
def RetDI2 (w : World) (e : Ending) (w' : World) : Prop := ∃ (d x y z a b c : Int), e = .returned (.tuple #[.int .i64 d, .agg #[.int .i64 x, .int .i64 y, .int .i64 z], .agg #[.int .i64 a, .int .i64 b, .int .i64 c]]) ∧ Below w.heap.size w w'
section
variable {zs : List Int} {v : Value} {B G n m : Nat} {w0 w w1 w2 : World}
theorem among_eqRd (h : Drw zs v B G n w0 w) (hB : B ≤ G) (L : List Int) (P : Int → Prop) (hP : ∀ x ∈ L, P x) (h1 : 1 ≤ L.length) (h2 : L.length ≤ 1000) (hn : n + 2 ≤ 100000000) {N k : Nat} {xs : Array Value} (hN : N = w.heap.size) (hk : L.length = k) (hxs : (cellsI L).toArray = xs) :
    Calls Try.prog 82 #[.pointer (some ⟨G, 0, none⟩), .slice (some ⟨N, 0, none⟩) k k] (w.alloc (.cells xs 3)).drew fun e w' => ∃ x : Int, e = .returned (.int .i64 x) ∧ P x ∧ Drw zs v B G (n + 2) w0 w' ∧ w.grownBy w' (some G) := by
  subst hN hk hxs
  have hl := h.lt
  have ha := (h.alloc (.cells (cellsI L).toArray 3)).drew
  refine (among_any L (.slice (some ⟨w.heap.size, 0, none⟩) L.length L.length) w.heap.size P zs v B G n _ (own_drew (own_lit L (Nat.le_refl _) h2)) hP h1 h2 (by simp [Value.ownBlock]; omega) ha.rd ha.cur hB hn).mono ?_
  rintro e w1 ⟨x, rfl, hx, hc, hg⟩
  exact ⟨x, rfl, hx, ha.next hB hc hg, (grown_alloc _ _ _).trans ⟨hg.os, hg.tape, hg.output, hg.size, hg.block⟩⟩
set_option maxRecDepth 100000 in
set_option maxHeartbeats 6400000 in
theorem anyIdeal_d (h : Drw zs v B G n w0 w) (hB : B ≤ G) (hn : n + 70 ≤ 100000000) (d : Int) :
    Calls Try.prog 35 #[.pointer (some ⟨G, 0, none⟩), .int .i64 d] w fun e w' => ∃ x : Int × Int × Int, e = .returned (.agg #[.int .i64 x.1, .int .i64 x.2.1, .int .i64 x.2.2]) ∧ True ∧ Drw zs v B G (n + 70) w0 w' ∧ w.grownBy w' (some G) := by
  have H := Lib.hid h
  have lG0 := h.lt
  have hD0 := Lib.hid (Drw.start h.rd h.cur)
  clear h
  have hfin : Hid (∀ (x y z : Int) (w' : World), Drw zs v B G (n + 70) w w' → ∃ f : Int × Int × Int, Ending.returned (.agg #[.int .i64 x, .int .i64 y, .int .i64 z]) = .returned (.agg #[.int .i64 f.1, .int .i64 f.2.1, .int .i64 f.2.2]) ∧ True ∧ Drw zs v B G (n + 70) w0 w' ∧ w.grownBy w' (some G)) :=
    Lib.hid (fun x y z w' hd => ⟨(x, y, z), rfl, trivial, H.out.next hB hd.cur hd.gr, hd.gr⟩)
  have hRD := Lib.hid (fun w => reDisc_any d w)
  have hNM := Lib.hid (fun w => nuMod_any d 2 w (by omega) (by omega))
  cases hc : isDisc d with
  | false =>
    rw [hc] at hRD
    clear hc
    generalize d % 2 = r at *
    go_enter Try.func35, Try.ntmps35
    go_wp2_with (first | (go_at_call 37; (with_reducible refine (hRD.out _).mono ?_); rintro e v ⟨rfl, rfl⟩) | (go_at_call 83; (with_reducible refine (hNM.out _).mono ?_); rintro e v ⟨rfl, rfl⟩))
    exact bodyPost_ret (v := .agg #[.int .i64 1, .int .i64 1, .int .i64 r]) (by simp [results, Try.results35, go_sem, *]) rfl (hfin.out _ _ _ _ (Drw.more (n := n) (by repeat (first | with_reducible assumption | (with_reducible apply Hid.out; assumption) | with_reducible apply Drw.drewN | with_reducible apply Drw.drew | with_reducible apply Drw.alloc | (with_reducible refine Drw.setp ?_ ?_ ?_ ?_; (first | omega | (simp <;> omega)); (first | omega | (simp <;> omega)); (first | omega | (simp <;> omega))))) (by omega)))
  | true =>
    rw [hc] at hRD
    have HC := Lib.hid hc
    clear hc hNM
    go_enter Try.func35, Try.ntmps35
    go_wp2_with (go_at_call 37; (with_reducible refine (hRD.out _).mono ?_); rintro e v ⟨rfl, rfl⟩)
    refine (ideal_d (by repeat (first | with_reducible assumption | (with_reducible apply Hid.out; assumption) | with_reducible apply Drw.drewN | with_reducible apply Drw.drew | with_reducible apply Drw.alloc | (with_reducible refine Drw.setp ?_ ?_ ?_ ?_; (first | omega | (simp <;> omega)); (first | omega | (simp <;> omega)); (first | omega | (simp <;> omega))))) hB (by omega) d HC.out).mono ?_
    rintro e v1 ⟨⟨x, y, z⟩, rfl, -, hD1', hG1⟩
    have hD1 := Lib.hid hD1'
    have lG1 := hD1'.lt
    have zG1 := hG1.size
    (try simp at zG1)
    have hA1 : Blk v1 w.heap.size 25 #[.int .i64 0, .int .i64 0, .int .i64 0] := Blk.grown (by (repeat (first | with_reducible assumption | (with_reducible apply Blk.new_at; (first | rfl | (simp; done))) | with_reducible apply Blk.store3 | with_reducible apply Blk.store4 | (with_reducible apply Blk.farp; (first | omega | (simp <;> omega))) | with_reducible apply Blk.allocp | with_reducible apply Blk.drew | with_reducible apply Blk.drewN))) hG1 (by simp <;> omega)
    have cA1 := hA1.cell; have fA1 := hA1.frozen; have lA1 := hA1.lt; have mA1 := Nat.ne_of_gt lA1; have nA1 := Nat.ne_of_lt lA1
    clear hD1' hG1 hD0
    go_wp2_with fail
    refine (pick_d (n := n + 60) (by repeat (first | with_reducible assumption | (with_reducible apply Hid.out; assumption) | with_reducible apply Drw.drewN | with_reducible apply Drw.drew | with_reducible apply Drw.alloc | (with_reducible refine Drw.setp ?_ ?_ ?_ ?_; (first | omega | (simp <;> omega)); (first | omega | (simp <;> omega)); (first | omega | (simp <;> omega))))) hB 20 (by omega) (by omega)).mono ?_
    rintro e v2 ⟨x2, rfl, hx2, hD2', hG2⟩
    have hD2 := Lib.hid hD2'
    have lG2 := hD2'.lt
    have zG2 := hG2.size
    (try simp at zG2)
    have hA2 : Blk v2 w.heap.size 25 #[.int .i64 0, .int .i64 0, .int .i64 0] := Blk.grown (by (repeat (first | with_reducible assumption | (with_reducible apply Blk.new_at; (first | rfl | (simp; done))) | with_reducible apply Blk.store3 | with_reducible apply Blk.store4 | (with_reducible apply Blk.farp; (first | omega | (simp <;> omega))) | with_reducible apply Blk.allocp | with_reducible apply Blk.drew | with_reducible apply Blk.drewN))) hG2 (by simp <;> omega)
    have cA2 := hA2.cell; have fA2 := hA2.frozen; have lA2 := hA2.lt; have mA2 := Nat.ne_of_gt lA2; have nA2 := Nat.ne_of_lt lA2
    have hU2 : Blk v2 v1.heap.size 25 #[.int .i64 x, .int .i64 y, .int .i64 z] := Blk.grown (by (repeat (first | with_reducible assumption | (with_reducible apply Blk.new_at; (first | rfl | (simp; done))) | with_reducible apply Blk.store3 | with_reducible apply Blk.store4 | (with_reducible apply Blk.farp; (first | omega | (simp <;> omega))) | with_reducible apply Blk.allocp | with_reducible apply Blk.drew | with_reducible apply Blk.drewN))) hG2 (by simp <;> omega)
    have cU2 := hU2.cell; have fU2 := hU2.frozen; have lU2 := hU2.lt; have mU2 := Nat.ne_of_gt lU2; have nU2 := Nat.ne_of_lt lU2
    clear hD2' hG2 hD1 hA1 cA1 fA1 lA1 mA1 nA1
    have hx2' : x2 = 0 ∨ x2 = 1 ∨ x2 = 2 ∨ 2 < x2 := by omega
    clear hx2
    rcases hx2' with rfl | rfl | rfl | hx2
    · obtain ⟨p, i1⟩ : ∃ p, IntKind.i64.wrap (2 * y) = p := ⟨_, rfl⟩
      obtain ⟨q, i2⟩ : ∃ q, IntKind.i64.wrap (-(2 * y)) = q := ⟨_, rfl⟩
      have i3 : IntKind.i64.wrap (-2 * y) = q := by rw [← i2]; congr 1; omega
      go_upto_region 6 with (fail)
      go_region_with (go_at_call 82; refine (among_eqRd (w0 := w) (Hid.out hD2) hB [1, -1, p, q] (fun _ => True) (by simp) (by simp) (by simp) (by omega) (by simp) rfl rfl).mono ?_; rintro e v3 ⟨x3, rfl, -, hD3', hG3⟩; have hD3 := Lib.hid hD3'; have lG3 := hD3'.lt; have zG3 := hG3.size; (try simp at zG3); have hA3 := hA2.grown hG3 (by simp <;> omega); have cA3 := hA3.cell; have fA3 := hA3.frozen; have lA3 := hA3.lt; have mA3 := Nat.ne_of_gt lA3; have nA3 := Nat.ne_of_lt lA3; have hU3 := hU2.grown hG3 (by simp <;> omega); have cU3 := hU3.cell; have fU3 := hU3.frozen; have lU3 := hU3.lt; have mU3 := Nat.ne_of_gt lU3; have nU3 := Nat.ne_of_lt lU3; clear hD3' hG3; obtain ⟨q9, i9⟩ : ∃ q, IntKind.i64.wrap (z + x3) = q := ⟨_, rfl⟩)
      all_goals
        go_wp2
        exact bodyPost_ret (v := .agg #[.int .i64 x, .int .i64 y, .int .i64 q9]) (by simp [results, Try.results35, go_sem, *]) rfl (hfin.out _ _ _ _ (Drw.more (n := n + 60 + 2 + 2) (by repeat (first | with_reducible assumption | (with_reducible apply Hid.out; assumption) | with_reducible apply Drw.drewN | with_reducible apply Drw.drew | with_reducible apply Drw.alloc | (with_reducible refine Drw.setp ?_ ?_ ?_ ?_; (first | omega | (simp <;> omega)); (first | omega | (simp <;> omega)); (first | omega | (simp <;> omega))))) (by omega)))
    · go_wp2_with (go_at_call 82; refine (among_eqR (w0 := w) (Hid.out hD2) hB [0, -1, 10001] (fun _ => True) (by simp) (by simp) (by simp) (by omega) (by simp) rfl rfl).mono ?_; rintro e v3 ⟨x3, rfl, -, hD3', hG3⟩; have hD3 := Lib.hid hD3'; have lG3 := hD3'.lt; have zG3 := hG3.size; (try simp at zG3); have hA3 := hA2.grown hG3 (by simp <;> omega); have cA3 := hA3.cell; have fA3 := hA3.frozen; have lA3 := hA3.lt; have mA3 := Nat.ne_of_gt lA3; have nA3 := Nat.ne_of_lt lA3; have hU3 := hU2.grown hG3 (by simp <;> omega); have cU3 := hU3.cell; have fU3 := hU3.frozen; have lU3 := hU3.lt; have mU3 := Nat.ne_of_gt lU3; have nU3 := Nat.ne_of_lt lU3; clear hD3' hG3)
      exact bodyPost_ret (v := .agg #[.int .i64 x3, .int .i64 y, .int .i64 z]) (by simp [results, Try.results35, go_sem, *]) rfl (hfin.out _ _ _ _ (Drw.more (n := n + 60 + 2 + 2) (by repeat (first | with_reducible assumption | (with_reducible apply Hid.out; assumption) | with_reducible apply Drw.drewN | with_reducible apply Drw.drew | with_reducible apply Drw.alloc | (with_reducible refine Drw.setp ?_ ?_ ?_ ?_; (first | omega | (simp <;> omega)); (first | omega | (simp <;> omega)); (first | omega | (simp <;> omega))))) (by omega)))
    · obtain ⟨p, k1⟩ : ∃ p, wrap64 (y + 1) = p := ⟨_, rfl⟩
      go_wp2_with (go_at_call 82; refine (among_eqR (w0 := w) (Hid.out hD2) hB [0, -1, p, 10001] (fun _ => True) (by simp) (by simp) (by simp) (by omega) (by simp) rfl rfl).mono ?_; rintro e v3 ⟨x3, rfl, -, hD3', hG3⟩; have hD3 := Lib.hid hD3'; have lG3 := hD3'.lt; have zG3 := hG3.size; (try simp at zG3); have hA3 := hA2.grown hG3 (by simp <;> omega); have cA3 := hA3.cell; have fA3 := hA3.frozen; have lA3 := hA3.lt; have mA3 := Nat.ne_of_gt lA3; have nA3 := Nat.ne_of_lt lA3; have hU3 := hU2.grown hG3 (by simp <;> omega); have cU3 := hU3.cell; have fU3 := hU3.frozen; have lU3 := hU3.lt; have mU3 := Nat.ne_of_gt lU3; have nU3 := Nat.ne_of_lt lU3; clear hD3' hG3)
      exact bodyPost_ret (v := .agg #[.int .i64 x, .int .i64 x3, .int .i64 z]) (by simp [results, Try.results35, go_sem, *]) rfl (hfin.out _ _ _ _ (Drw.more (n := n + 60 + 2 + 2) (by repeat (first | with_reducible assumption | (with_reducible apply Hid.out; assumption) | with_reducible apply Drw.drewN | with_reducible apply Drw.drew | with_reducible apply Drw.alloc | (with_reducible refine Drw.setp ?_ ?_ ?_ ?_; (first | omega | (simp <;> omega)); (first | omega | (simp <;> omega)); (first | omega | (simp <;> omega))))) (by omega)))
    · have n0 : (x2 == 0) = false := by rw [beq_eq_false_iff_ne]; omega
      have n1 : (x2 == 1) = false := by rw [beq_eq_false_iff_ne]; omega
      have n2 : (x2 == 2) = false := by rw [beq_eq_false_iff_ne]; omega
      go_wp2
      exact bodyPost_ret (v := .agg #[.int .i64 x, .int .i64 y, .int .i64 z]) (by simp [results, Try.results35, go_sem, *]) rfl (hfin.out _ _ _ _ (Drw.more (n := n + 60 + 2) (by repeat (first | with_reducible assumption | (with_reducible apply Hid.out; assumption) | with_reducible apply Drw.drewN | with_reducible apply Drw.drew | with_reducible apply Drw.alloc | (with_reducible refine Drw.setp ?_ ?_ ?_ ?_; (first | omega | (simp <;> omega)); (first | omega | (simp <;> omega)); (first | omega | (simp <;> omega))))) (by omega)))
end
set_option maxRecDepth 100000 in
set_option maxHeartbeats 6400000 in
theorem drawII_any (zs : List Int) (v : Value) (B : Nat) (w : World) (hr : RdB zs v B w) (hB0 : B ≤ w.heap.size) :
    Calls Try.prog 53 #[v] w (RetDI w) := by
  obtain ⟨A, m, c, rfl⟩ := hr.shape
  have hD0 := Lib.hid (drw_start2 (.cells #[.int .i64 0, .int .i64 0, .int .i64 0] 25) hr)
  have hB : B ≤ w.heap.size + 1 := by omega
  clear hr
  have hfin := Lib.hid (fun d x y z w' (h : Drw zs (.slice A m c) B (w.heap.size + 1) 100 w w') => (⟨d, x, y, z, rfl, below_cur2 h.gr⟩ : RetDI w (.returned (.tuple #[.int .i64 d, .agg #[.int .i64 x, .int .i64 y, .int .i64 z]])) w'))
  go_enter Try.func53, Try.ntmps53
  go_wp2_with fail
  refine (disc_d (by repeat (first | with_reducible assumption | (with_reducible apply Hid.out; assumption) | with_reducible apply Drw.drewN | with_reducible apply Drw.drew | with_reducible apply Drw.alloc | (with_reducible refine Drw.setp ?_ ?_ ?_ ?_; (first | omega | (simp <;> omega)); (first | omega | (simp <;> omega)); (first | omega | (simp <;> omega))))) hB (by omega)).mono ?_
  rintro e v1 ⟨x1, rfl, hx1, hD1', hG1⟩
  have hD1 := Lib.hid hD1'
  have lG1 := hD1'.lt
  have zG1 := hG1.size
  (try simp at zG1)
  have hA1 : Blk v1 (w.heap.size) 25 #[.int .i64 0, .int .i64 0, .int .i64 0] := Blk.grown (by (repeat (first | with_reducible assumption | (with_reducible apply Blk.new_at; (first | rfl | (simp; done))) | with_reducible apply Blk.store3 | with_reducible apply Blk.store4 | (with_reducible apply Blk.farp; (first | omega | (simp <;> omega))) | with_reducible apply Blk.allocp | with_reducible apply Blk.drew | with_reducible apply Blk.drewN))) hG1 (by simp <;> omega)
  have cA1 := hA1.cell; have fA1 := hA1.frozen; have lA1 := hA1.lt; have mA1 := Nat.ne_of_gt lA1; have nA1 := Nat.ne_of_lt lA1
  clear hD1' hG1
  clear hx1
  go_wp2_with fail
  refine (anyIdeal_d (by repeat (first | with_reducible assumption | (with_reducible apply Hid.out; assumption) | with_reducible apply Drw.drewN | with_reducible apply Drw.drew | with_reducible apply Drw.alloc | (with_reducible refine Drw.setp ?_ ?_ ?_ ?_; (first | omega | (simp <;> omega)); (first | omega | (simp <;> omega)); (first | omega | (simp <;> omega))))) hB (by omega) x1).mono ?_
  rintro e v2 ⟨⟨x, y, z⟩, rfl, hx2, hD2', hG2⟩
  have hD2 := Lib.hid hD2'
  have lG2 := hD2'.lt
  have zG2 := hG2.size
  (try simp at zG2)
  have hA2 : Blk v2 (w.heap.size) 25 #[.int .i64 0, .int .i64 0, .int .i64 0] := Blk.grown (by (repeat (first | with_reducible assumption | (with_reducible apply Blk.new_at; (first | rfl | (simp; done))) | with_reducible apply Blk.store3 | with_reducible apply Blk.store4 | (with_reducible apply Blk.farp; (first | omega | (simp <;> omega))) | with_reducible apply Blk.allocp | with_reducible apply Blk.drew | with_reducible apply Blk.drewN))) hG2 (by simp <;> omega)
  have cA2 := hA2.cell; have fA2 := hA2.frozen; have lA2 := hA2.lt; have mA2 := Nat.ne_of_gt lA2; have nA2 := Nat.ne_of_lt lA2
  clear hD2' hG2
  clear hx2
  go_wp2
  exact bodyPost_ret (v := .tuple #[.int .i64 x1, .agg #[.int .i64 x, .int .i64 y, .int .i64 z]]) (by simp [results, Try.results53, go_sem, *]) rfl (hfin.out _ _ _ _ _ (Drw.more (n := 0 + 4 + 70) (by repeat (first | with_reducible assumption | (with_reducible apply Hid.out; assumption) | with_reducible apply Drw.drewN | with_reducible apply Drw.drew | with_reducible apply Drw.alloc | (with_reducible refine Drw.setp ?_ ?_ ?_ ?_; (first | omega | (simp <;> omega)); (first | omega | (simp <;> omega)); (first | omega | (simp <;> omega))))) (by omega)))
set_option maxRecDepth 100000 in
set_option maxHeartbeats 6400000 in
theorem drawInv_any (zs : List Int) (v : Value) (B : Nat) (w : World) (hr : RdB zs v B w) (hB0 : B ≤ w.heap.size) :
    Calls Try.prog 15 #[v] w (RetDI w) := by
  have HR := Lib.hid hr
  have hC := Lib.hid (fun w (h : RdB zs v B w) (h2 : B ≤ w.heap.size) => drawII_any zs v B w h h2)
  clear hr
  obtain ⟨A, m, c, rfl⟩ := HR.out.shape
  go_enter Try.func15, Try.ntmps15
  go_wp2_with fail
  refine (hC.out _ (HR.out.grown (grown_alloc _ _ none) (fun k hk => by cases hk)) (by simp; omega)).mono ?_
  rintro e v1 ⟨d, x, y, z, rfl, hb1⟩
  have hz1 := hb1.size
  (try simp at hz1)
  have hA1 : Blk v1 w.heap.size 25 #[.int .i64 0, .int .i64 0, .int .i64 0] := Blk.call (by (repeat (first | with_reducible assumption | (with_reducible apply Blk.new_at; (first | rfl | (simp; done))) | with_reducible apply Blk.store3 | with_reducible apply Blk.store4 | (with_reducible apply Blk.farp; (first | omega | (simp <;> omega))) | with_reducible apply Blk.allocp | with_reducible apply Blk.drew | with_reducible apply Blk.drewN))) hb1
  have cA1 := hA1.cell; have fA1 := hA1.frozen; have lA1 := hA1.lt; have mA1 := Nat.ne_of_gt lA1; have nA1 := Nat.ne_of_lt lA1
  have hb2 : Below w.heap.size w v1 := (by repeat (first | with_reducible exact Below.refl _ _ | with_reducible assumption | with_reducible apply Below.drew | with_reducible apply below_drewN | (with_reducible apply below_setp; (first | omega | (simp <;> omega))) | (with_reducible apply below_allocp; (first | omega | (simp <;> omega))) | (with_reducible refine below_viap (by assumption) ?_ ?_; (first | omega | (simp <;> omega)))))
  clear hb1
  go_wp2
  exact bodyPost_ret (v := .tuple #[.int .i64 d, .agg #[.int .i64 x, .int .i64 y, .int .i64 z]]) (by simp [results, Try.results15, go_sem, *]) rfl ⟨d, x, y, z, rfl, (by repeat (first | with_reducible exact Below.refl _ _ | with_reducible assumption | with_reducible apply Below.drew | with_reducible apply below_drewN | (with_reducible apply below_setp; (first | omega | (simp <;> omega))) | (with_reducible apply below_allocp; (first | omega | (simp <;> omega))) | (with_reducible refine below_viap (by assumption) ?_ ?_; (first | omega | (simp <;> omega)))))⟩
set_option maxRecDepth 100000 in
set_option maxHeartbeats 6400000 in
theorem drawIP_any (zs : List Int) (v : Value) (B : Nat) (w : World) (hr : RdB zs v B w) (hB0 : B ≤ w.heap.size) :
    Calls Try.prog 7 #[v] w (RetDI2 w) := by
  obtain ⟨A, m, c, rfl⟩ := hr.shape
  have hD0 := Lib.hid (drw_start3I (.cells #[.int .i64 0, .int .i64 0, .int .i64 0] 25) (.cells #[.int .i64 0, .int .i64 0, .int .i64 0] 25) hr)
  have hB : B ≤ w.heap.size + 1 + 1 := by omega
  clear hr
  have hfin := Lib.hid (fun d x y z a b e w' (h : Drw zs (.slice A m c) B (w.heap.size + 1 + 1) 200 w w') => (⟨d, x, y, z, a, b, e, rfl, below_cur3I h.gr⟩ : RetDI2 w (.returned (.tuple #[.int .i64 d, .agg #[.int .i64 x, .int .i64 y, .int .i64 z], .agg #[.int .i64 a, .int .i64 b, .int .i64 e]])) w'))
  go_enter Try.func7, Try.ntmps7
  go_wp2_with fail
  refine (disc_d (by repeat (first | with_reducible assumption | (with_reducible apply Hid.out; assumption) | with_reducible apply Drw.drewN | with_reducible apply Drw.drew | with_reducible apply Drw.alloc | (with_reducible refine Drw.setp ?_ ?_ ?_ ?_; (first | omega | (simp <;> omega)); (first | omega | (simp <;> omega)); (first | omega | (simp <;> omega))))) hB (by omega)).mono ?_
  rintro e v1 ⟨x1, rfl, hx1, hD1', hG1⟩
  have hD1 := Lib.hid hD1'
  have lG1 := hD1'.lt
  have zG1 := hG1.size
  (try simp at zG1)
  have hA1 : Blk v1 (w.heap.size) 25 #[.int .i64 0, .int .i64 0, .int .i64 0] := Blk.grown (by (repeat (first | with_reducible assumption | (with_reducible apply Blk.new_at; (first | rfl | (simp; done))) | with_reducible apply Blk.store3 | with_reducible apply Blk.store4 | (with_reducible apply Blk.farp; (first | omega | (simp <;> omega))) | with_reducible apply Blk.allocp | with_reducible apply Blk.drew | with_reducible apply Blk.drewN))) hG1 (by simp <;> omega)
  have cA1 := hA1.cell; have fA1 := hA1.frozen; have lA1 := hA1.lt; have mA1 := Nat.ne_of_gt lA1; have nA1 := Nat.ne_of_lt lA1
  have hR1 : Blk v1 (w.heap.size + 1) 25 #[.int .i64 0, .int .i64 0, .int .i64 0] := Blk.grown (by (repeat (first | with_reducible assumption | (with_reducible apply Blk.new_at; (first | rfl | (simp; done))) | with_reducible apply Blk.store3 | with_reducible apply Blk.store4 | (with_reducible apply Blk.farp; (first | omega | (simp <;> omega))) | with_reducible apply Blk.allocp | with_reducible apply Blk.drew | with_reducible apply Blk.drewN))) hG1 (by simp <;> omega)
  have cR1 := hR1.cell; have fR1 := hR1.frozen; have lR1 := hR1.lt; have mR1 := Nat.ne_of_gt lR1; have nR1 := Nat.ne_of_lt lR1
  clear hD1' hG1
  clear hx1
  go_wp2_with fail
  refine (anyIdeal_d (by repeat (first | with_reducible assumption | (with_reducible apply Hid.out; assumption) | with_reducible apply Drw.drewN | with_reducible apply Drw.drew | with_reducible apply Drw.alloc | (with_reducible refine Drw.setp ?_ ?_ ?_ ?_; (first | omega | (simp <;> omega)); (first | omega | (simp <;> omega)); (first | omega | (simp <;> omega))))) hB (by omega) x1).mono ?_
  rintro e v2 ⟨⟨x, y, z⟩, rfl, hx2, hD2', hG2⟩
  have hD2 := Lib.hid hD2'
  have lG2 := hD2'.lt
  have zG2 := hG2.size
  (try simp at zG2)
  have hA2 : Blk v2 (w.heap.size) 25 #[.int .i64 0, .int .i64 0, .int .i64 0] := Blk.grown (by (repeat (first | with_reducible assumption | (with_reducible apply Blk.new_at; (first | rfl | (simp; done))) | with_reducible apply Blk.store3 | with_reducible apply Blk.store4 | (with_reducible apply Blk.farp; (first | omega | (simp <;> omega))) | with_reducible apply Blk.allocp | with_reducible apply Blk.drew | with_reducible apply Blk.drewN))) hG2 (by simp <;> omega)
  have cA2 := hA2.cell; have fA2 := hA2.frozen; have lA2 := hA2.lt; have mA2 := Nat.ne_of_gt lA2; have nA2 := Nat.ne_of_lt lA2
  have hR2 : Blk v2 (w.heap.size + 1) 25 #[.int .i64 0, .int .i64 0, .int .i64 0] := Blk.grown (by (repeat (first | with_reducible assumption | (with_reducible apply Blk.new_at; (first | rfl | (simp; done))) | with_reducible apply Blk.store3 | with_reducible apply Blk.store4 | (with_reducible apply Blk.farp; (first | omega | (simp <;> omega))) | with_reducible apply Blk.allocp | with_reducible apply Blk.drew | with_reducible apply Blk.drewN))) hG2 (by simp <;> omega)
  have cR2 := hR2.cell; have fR2 := hR2.frozen; have lR2 := hR2.lt; have mR2 := Nat.ne_of_gt lR2; have nR2 := Nat.ne_of_lt lR2
  clear hD2' hG2
  clear hx2
  go_wp2_with fail
  refine (one_d (n := 74) (by repeat (first | with_reducible assumption | (with_reducible apply Hid.out; assumption) | with_reducible apply Drw.drewN | with_reducible apply Drw.drew | with_reducible apply Drw.alloc | (with_reducible refine Drw.setp ?_ ?_ ?_ ?_; (first | omega | (simp <;> omega)); (first | omega | (simp <;> omega)); (first | omega | (simp <;> omega))))) hB 6 (by omega) (by omega)).mono ?_
  rintro e v3 ⟨x3, rfl, hx3, hD3', hG3⟩
  have hD3 := Lib.hid hD3'
  have lG3 := hD3'.lt
  have zG3 := hG3.size
  (try simp at zG3)
  have hA3 : Blk v3 (w.heap.size) 25 #[.int .i64 0, .int .i64 0, .int .i64 0] := Blk.grown (by (repeat (first | with_reducible assumption | (with_reducible apply Blk.new_at; (first | rfl | (simp; done))) | with_reducible apply Blk.store3 | with_reducible apply Blk.store4 | (with_reducible apply Blk.farp; (first | omega | (simp <;> omega))) | with_reducible apply Blk.allocp | with_reducible apply Blk.drew | with_reducible apply Blk.drewN))) hG3 (by simp <;> omega)
  have cA3 := hA3.cell; have fA3 := hA3.frozen; have lA3 := hA3.lt; have mA3 := Nat.ne_of_gt lA3; have nA3 := Nat.ne_of_lt lA3
  have hR3 : Blk v3 (w.heap.size + 1) 25 #[.int .i64 0, .int .i64 0, .int .i64 0] := Blk.grown (by (repeat (first | with_reducible assumption | (with_reducible apply Blk.new_at; (first | rfl | (simp; done))) | with_reducible apply Blk.store3 | with_reducible apply Blk.store4 | (with_reducible apply Blk.farp; (first | omega | (simp <;> omega))) | with_reducible apply Blk.allocp | with_reducible apply Blk.drew | with_reducible apply Blk.drewN))) hG3 (by simp <;> omega)
  have cR3 := hR3.cell; have fR3 := hR3.frozen; have lR3 := hR3.lt; have mR3 := Nat.ne_of_gt lR3; have nR3 := Nat.ne_of_lt lR3
  have hX3 : Blk v3 (v2.heap.size) 25 #[.int .i64 x, .int .i64 y, .int .i64 z] := Blk.grown (by (repeat (first | with_reducible assumption | (with_reducible apply Blk.new_at; (first | rfl | (simp; done))) | with_reducible apply Blk.store3 | with_reducible apply Blk.store4 | (with_reducible apply Blk.farp; (first | omega | (simp <;> omega))) | with_reducible apply Blk.allocp | with_reducible apply Blk.drew | with_reducible apply Blk.drewN))) hG3 (by simp <;> omega)
  have cX3 := hX3.cell; have fX3 := hX3.frozen; have lX3 := hX3.lt; have mX3 := Nat.ne_of_gt lX3; have nX3 := Nat.ne_of_lt lX3
  clear hD3' hG3
  clear hx3
  have hRD := Lib.hid (fun w => reDisc_any x1 w)
  have hG := Lib.hid (fun w => idGood_any x1 x y z w)
  cases x3 with
  | false =>
    go_upto_region 6 with (fail)
    go_region_with (go_at_call 35; refine (anyIdeal_d (n := 76) (by repeat (first | with_reducible assumption | (with_reducible apply Hid.out; assumption) | with_reducible apply Drw.drewN | with_reducible apply Drw.drew | with_reducible apply Drw.alloc | (with_reducible refine Drw.setp ?_ ?_ ?_ ?_; (first | omega | (simp <;> omega)); (first | omega | (simp <;> omega)); (first | omega | (simp <;> omega))))) hB (by omega) x1).mono ?_; rintro e v5 ⟨⟨a', b', c'⟩, rfl, -, hD5', hG5⟩; have hD5 := Lib.hid hD5'; have lG5 := hD5'.lt; have zG5 := hG5.size; (try simp at zG5); have hA5 : Blk v5 (w.heap.size) 25 #[.int .i64 0, .int .i64 0, .int .i64 0] := Blk.grown (by (repeat (first | with_reducible assumption | (with_reducible apply Blk.new_at; (first | rfl | (simp; done))) | with_reducible apply Blk.store3 | with_reducible apply Blk.store4 | (with_reducible apply Blk.farp; (first | omega | (simp <;> omega))) | with_reducible apply Blk.allocp | with_reducible apply Blk.drew | with_reducible apply Blk.drewN))) hG5 (by simp <;> omega); have cA5 := hA5.cell; have fA5 := hA5.frozen; have lA5 := hA5.lt; have mA5 := Nat.ne_of_gt lA5; have nA5 := Nat.ne_of_lt lA5; have hR5 : Blk v5 (w.heap.size + 1) 25 #[.int .i64 0, .int .i64 0, .int .i64 0] := Blk.grown (by (repeat (first | with_reducible assumption | (with_reducible apply Blk.new_at; (first | rfl | (simp; done))) | with_reducible apply Blk.store3 | with_reducible apply Blk.store4 | (with_reducible apply Blk.farp; (first | omega | (simp <;> omega))) | with_reducible apply Blk.allocp | with_reducible apply Blk.drew | with_reducible apply Blk.drewN))) hG5 (by simp <;> omega); have cR5 := hR5.cell; have fR5 := hR5.frozen; have lR5 := hR5.lt; have mR5 := Nat.ne_of_gt lR5; have nR5 := Nat.ne_of_lt lR5; have hX5 : Blk v5 (v2.heap.size) 25 #[.int .i64 x, .int .i64 y, .int .i64 z] := Blk.grown (by (repeat (first | with_reducible assumption | (with_reducible apply Blk.new_at; (first | rfl | (simp; done))) | with_reducible apply Blk.store3 | with_reducible apply Blk.store4 | (with_reducible apply Blk.farp; (first | omega | (simp <;> omega))) | with_reducible apply Blk.allocp | with_reducible apply Blk.drew | with_reducible apply Blk.drewN))) hG5 (by simp <;> omega); have cX5 := hX5.cell; have fX5 := hX5.frozen; have lX5 := hX5.lt; have mX5 := Nat.ne_of_gt lX5; have nX5 := Nat.ne_of_lt lX5; clear hD5' hG5)
    all_goals
      go_wp2
      exact bodyPost_ret (v := .tuple #[.int .i64 x1, .agg #[.int .i64 x, .int .i64 y, .int .i64 z], .agg #[.int .i64 a', .int .i64 b', .int .i64 c']]) (by simp [results, Try.results7, go_sem, *]) rfl (hfin.out _ _ _ _ _ _ _ _ (Drw.more (n := 76 + 70) (by repeat (first | with_reducible assumption | (with_reducible apply Hid.out; assumption) | with_reducible apply Drw.drewN | with_reducible apply Drw.drew | with_reducible apply Drw.alloc | (with_reducible refine Drw.setp ?_ ?_ ?_ ?_; (first | omega | (simp <;> omega)); (first | omega | (simp <;> omega)); (first | omega | (simp <;> omega))))) (by omega)))
  | true =>
    cases hc : isDisc x1 with
    | false =>
      rw [hc] at hRD
      clear hc hG
      go_upto_region 6 with (go_at_call 37; (with_reducible refine (hRD.out _).mono ?_); rintro e v ⟨rfl, rfl⟩)
      go_region_with (go_at_call 35; refine (anyIdeal_d (n := 76) (by repeat (first | with_reducible assumption | (with_reducible apply Hid.out; assumption) | with_reducible apply Drw.drewN | with_reducible apply Drw.drew | with_reducible apply Drw.alloc | (with_reducible refine Drw.setp ?_ ?_ ?_ ?_; (first | omega | (simp <;> omega)); (first | omega | (simp <;> omega)); (first | omega | (simp <;> omega))))) hB (by omega) x1).mono ?_; rintro e v5 ⟨⟨a', b', c'⟩, rfl, -, hD5', hG5⟩; have hD5 := Lib.hid hD5'; have lG5 := hD5'.lt; have zG5 := hG5.size; (try simp at zG5); have hA5 : Blk v5 (w.heap.size) 25 #[.int .i64 0, .int .i64 0, .int .i64 0] := Blk.grown (by (repeat (first | with_reducible assumption | (with_reducible apply Blk.new_at; (first | rfl | (simp; done))) | with_reducible apply Blk.store3 | with_reducible apply Blk.store4 | (with_reducible apply Blk.farp; (first | omega | (simp <;> omega))) | with_reducible apply Blk.allocp | with_reducible apply Blk.drew | with_reducible apply Blk.drewN))) hG5 (by simp <;> omega); have cA5 := hA5.cell; have fA5 := hA5.frozen; have lA5 := hA5.lt; have mA5 := Nat.ne_of_gt lA5; have nA5 := Nat.ne_of_lt lA5; have hR5 : Blk v5 (w.heap.size + 1) 25 #[.int .i64 0, .int .i64 0, .int .i64 0] := Blk.grown (by (repeat (first | with_reducible assumption | (with_reducible apply Blk.new_at; (first | rfl | (simp; done))) | with_reducible apply Blk.store3 | with_reducible apply Blk.store4 | (with_reducible apply Blk.farp; (first | omega | (simp <;> omega))) | with_reducible apply Blk.allocp | with_reducible apply Blk.drew | with_reducible apply Blk.drewN))) hG5 (by simp <;> omega); have cR5 := hR5.cell; have fR5 := hR5.frozen; have lR5 := hR5.lt; have mR5 := Nat.ne_of_gt lR5; have nR5 := Nat.ne_of_lt lR5; have hX5 : Blk v5 (v2.heap.size) 25 #[.int .i64 x, .int .i64 y, .int .i64 z] := Blk.grown (by (repeat (first | with_reducible assumption | (with_reducible apply Blk.new_at; (first | rfl | (simp; done))) | with_reducible apply Blk.store3 | with_reducible apply Blk.store4 | (with_reducible apply Blk.farp; (first | omega | (simp <;> omega))) | with_reducible apply Blk.allocp | with_reducible apply Blk.drew | with_reducible apply Blk.drewN))) hG5 (by simp <;> omega); have cX5 := hX5.cell; have fX5 := hX5.frozen; have lX5 := hX5.lt; have mX5 := Nat.ne_of_gt lX5; have nX5 := Nat.ne_of_lt lX5; clear hD5' hG5)
      all_goals
        go_wp2
        exact bodyPost_ret (v := .tuple #[.int .i64 x1, .agg #[.int .i64 x, .int .i64 y, .int .i64 z], .agg #[.int .i64 a', .int .i64 b', .int .i64 c']]) (by simp [results, Try.results7, go_sem, *]) rfl (hfin.out _ _ _ _ _ _ _ _ (Drw.more (n := 76 + 70) (by repeat (first | with_reducible assumption | (with_reducible apply Hid.out; assumption) | with_reducible apply Drw.drewN | with_reducible apply Drw.drew | with_reducible apply Drw.alloc | (with_reducible refine Drw.setp ?_ ?_ ?_ ?_; (first | omega | (simp <;> omega)); (first | omega | (simp <;> omega)); (first | omega | (simp <;> omega))))) (by omega)))
    | true =>
      rw [hc] at hRD
      clear hc
      cases hi : idB x1 x y z with
      | false =>
        rw [hi] at hG
        clear hi
        go_upto_region 6 with (first | (go_at_call 37; (with_reducible refine (hRD.out _).mono ?_); rintro e v ⟨rfl, rfl⟩) | (go_at_call 38; (with_reducible refine (hG.out _).mono ?_); rintro e v4 ⟨rfl, hB4⟩; have hZ4 := hB4.size; (try simp at hZ4); have hA4 : Blk v4 (w.heap.size) 25 #[.int .i64 0, .int .i64 0, .int .i64 0] := Blk.call (by (repeat (first | with_reducible assumption | (with_reducible apply Blk.new_at; (first | rfl | (simp; done))) | with_reducible apply Blk.store3 | with_reducible apply Blk.store4 | (with_reducible apply Blk.farp; (first | omega | (simp <;> omega))) | with_reducible apply Blk.allocp | with_reducible apply Blk.drew | with_reducible apply Blk.drewN))) hB4; have cA4 := hA4.cell; have fA4 := hA4.frozen; have lA4 := hA4.lt; have mA4 := Nat.ne_of_gt lA4; have nA4 := Nat.ne_of_lt lA4; have hR4 : Blk v4 (w.heap.size + 1) 25 #[.int .i64 0, .int .i64 0, .int .i64 0] := Blk.call (by (repeat (first | with_reducible assumption | (with_reducible apply Blk.new_at; (first | rfl | (simp; done))) | with_reducible apply Blk.store3 | with_reducible apply Blk.store4 | (with_reducible apply Blk.farp; (first | omega | (simp <;> omega))) | with_reducible apply Blk.allocp | with_reducible apply Blk.drew | with_reducible apply Blk.drewN))) hB4; have cR4 := hR4.cell; have fR4 := hR4.frozen; have lR4 := hR4.lt; have mR4 := Nat.ne_of_gt lR4; have nR4 := Nat.ne_of_lt lR4; have hX4 : Blk v4 (v2.heap.size) 25 #[.int .i64 x, .int .i64 y, .int .i64 z] := Blk.call (by (repeat (first | with_reducible assumption | (with_reducible apply Blk.new_at; (first | rfl | (simp; done))) | with_reducible apply Blk.store3 | with_reducible apply Blk.store4 | (with_reducible apply Blk.farp; (first | omega | (simp <;> omega))) | with_reducible apply Blk.allocp | with_reducible apply Blk.drew | with_reducible apply Blk.drewN))) hB4; have cX4 := hX4.cell; have fX4 := hX4.frozen; have lX4 := hX4.lt; have mX4 := Nat.ne_of_gt lX4; have nX4 := Nat.ne_of_lt lX4; have hD4 := Lib.hid (Drw.call (w := _) (n := 76) (zs := zs) (v := .slice A m c) (B := B) (G := w.heap.size + 1 + 1) (w0 := w) (by repeat (first | with_reducible assumption | (with_reducible apply Hid.out; assumption) | with_reducible apply Drw.drewN | with_reducible apply Drw.drew | with_reducible apply Drw.alloc | (with_reducible refine Drw.setp ?_ ?_ ?_ ?_; (first | omega | (simp <;> omega)); (first | omega | (simp <;> omega)); (first | omega | (simp <;> omega))))) hB hB4)))
        go_region_with (go_at_call 35; refine (anyIdeal_d (n := 76) (by repeat (first | with_reducible assumption | (with_reducible apply Hid.out; assumption) | with_reducible apply Drw.drewN | with_reducible apply Drw.drew | with_reducible apply Drw.alloc | (with_reducible refine Drw.setp ?_ ?_ ?_ ?_; (first | omega | (simp <;> omega)); (first | omega | (simp <;> omega)); (first | omega | (simp <;> omega))))) hB (by omega) x1).mono ?_; rintro e v5 ⟨⟨a', b', c'⟩, rfl, -, hD5', hG5⟩; have hD5 := Lib.hid hD5'; have lG5 := hD5'.lt; have zG5 := hG5.size; (try simp at zG5); have hA5 : Blk v5 (w.heap.size) 25 #[.int .i64 0, .int .i64 0, .int .i64 0] := Blk.grown (by (repeat (first | with_reducible assumption | (with_reducible apply Blk.new_at; (first | rfl | (simp; done))) | with_reducible apply Blk.store3 | with_reducible apply Blk.store4 | (with_reducible apply Blk.farp; (first | omega | (simp <;> omega))) | with_reducible apply Blk.allocp | with_reducible apply Blk.drew | with_reducible apply Blk.drewN))) hG5 (by simp <;> omega); have cA5 := hA5.cell; have fA5 := hA5.frozen; have lA5 := hA5.lt; have mA5 := Nat.ne_of_gt lA5; have nA5 := Nat.ne_of_lt lA5; have hR5 : Blk v5 (w.heap.size + 1) 25 #[.int .i64 0, .int .i64 0, .int .i64 0] := Blk.grown (by (repeat (first | with_reducible assumption | (with_reducible apply Blk.new_at; (first | rfl | (simp; done))) | with_reducible apply Blk.store3 | with_reducible apply Blk.store4 | (with_reducible apply Blk.farp; (first | omega | (simp <;> omega))) | with_reducible apply Blk.allocp | with_reducible apply Blk.drew | with_reducible apply Blk.drewN))) hG5 (by simp <;> omega); have cR5 := hR5.cell; have fR5 := hR5.frozen; have lR5 := hR5.lt; have mR5 := Nat.ne_of_gt lR5; have nR5 := Nat.ne_of_lt lR5; have hX5 : Blk v5 (v2.heap.size) 25 #[.int .i64 x, .int .i64 y, .int .i64 z] := Blk.grown (by (repeat (first | with_reducible assumption | (with_reducible apply Blk.new_at; (first | rfl | (simp; done))) | with_reducible apply Blk.store3 | with_reducible apply Blk.store4 | (with_reducible apply Blk.farp; (first | omega | (simp <;> omega))) | with_reducible apply Blk.allocp | with_reducible apply Blk.drew | with_reducible apply Blk.drewN))) hG5 (by simp <;> omega); have cX5 := hX5.cell; have fX5 := hX5.frozen; have lX5 := hX5.lt; have mX5 := Nat.ne_of_gt lX5; have nX5 := Nat.ne_of_lt lX5; clear hD5' hG5)
        all_goals
          go_wp2
          exact bodyPost_ret (v := .tuple #[.int .i64 x1, .agg #[.int .i64 x, .int .i64 y, .int .i64 z], .agg #[.int .i64 a', .int .i64 b', .int .i64 c']]) (by simp [results, Try.results7, go_sem, *]) rfl (hfin.out _ _ _ _ _ _ _ _ (Drw.more (n := 76 + 70) (by repeat (first | with_reducible assumption | (with_reducible apply Hid.out; assumption) | with_reducible apply Drw.drewN | with_reducible apply Drw.drew | with_reducible apply Drw.alloc | (with_reducible refine Drw.setp ?_ ?_ ?_ ?_; (first | omega | (simp <;> omega)); (first | omega | (simp <;> omega)); (first | omega | (simp <;> omega))))) (by omega)))
      | true =>
        have V := idB_iff.1 hi
        have v1' := V.a1; have v2' := V.a2; have v3' := V.b0; have v4' := V.b2
        rw [hi] at hG
        have hCj := Lib.hid (fun w => idConj_any x y z w ⟨v1', v2'⟩ ⟨v3', by omega⟩)
        clear hi V v1' v2' v3' v4'
        generalize (-z) % (2 * y) = r at *
        go_upto_region 5 with (first | (go_at_call 37; (with_reducible refine (hRD.out _).mono ?_); rintro e v ⟨rfl, rfl⟩) | (go_at_call 38; (with_reducible refine (hG.out _).mono ?_); rintro e v4 ⟨rfl, hB4⟩; have hZ4 := hB4.size; (try simp at hZ4); have hA4 : Blk v4 (w.heap.size) 25 #[.int .i64 0, .int .i64 0, .int .i64 0] := Blk.call (by (repeat (first | with_reducible assumption | (with_reducible apply Blk.new_at; (first | rfl | (simp; done))) | with_reducible apply Blk.store3 | with_reducible apply Blk.store4 | (with_reducible apply Blk.farp; (first | omega | (simp <;> omega))) | with_reducible apply Blk.allocp | with_reducible apply Blk.drew | with_reducible apply Blk.drewN))) hB4; have cA4 := hA4.cell; have fA4 := hA4.frozen; have lA4 := hA4.lt; have mA4 := Nat.ne_of_gt lA4; have nA4 := Nat.ne_of_lt lA4; have hR4 : Blk v4 (w.heap.size + 1) 25 #[.int .i64 0, .int .i64 0, .int .i64 0] := Blk.call (by (repeat (first | with_reducible assumption | (with_reducible apply Blk.new_at; (first | rfl | (simp; done))) | with_reducible apply Blk.store3 | with_reducible apply Blk.store4 | (with_reducible apply Blk.farp; (first | omega | (simp <;> omega))) | with_reducible apply Blk.allocp | with_reducible apply Blk.drew | with_reducible apply Blk.drewN))) hB4; have cR4 := hR4.cell; have fR4 := hR4.frozen; have lR4 := hR4.lt; have mR4 := Nat.ne_of_gt lR4; have nR4 := Nat.ne_of_lt lR4; have hX4 : Blk v4 (v2.heap.size) 25 #[.int .i64 x, .int .i64 y, .int .i64 z] := Blk.call (by (repeat (first | with_reducible assumption | (with_reducible apply Blk.new_at; (first | rfl | (simp; done))) | with_reducible apply Blk.store3 | with_reducible apply Blk.store4 | (with_reducible apply Blk.farp; (first | omega | (simp <;> omega))) | with_reducible apply Blk.allocp | with_reducible apply Blk.drew | with_reducible apply Blk.drewN))) hB4; have cX4 := hX4.cell; have fX4 := hX4.frozen; have lX4 := hX4.lt; have mX4 := Nat.ne_of_gt lX4; have nX4 := Nat.ne_of_lt lX4; have hD4 := Lib.hid (Drw.call (w := _) (n := 76) (zs := zs) (v := .slice A m c) (B := B) (G := w.heap.size + 1 + 1) (w0 := w) (by repeat (first | with_reducible assumption | (with_reducible apply Hid.out; assumption) | with_reducible apply Drw.drewN | with_reducible apply Drw.drew | with_reducible apply Drw.alloc | (with_reducible refine Drw.setp ?_ ?_ ?_ ?_; (first | omega | (simp <;> omega)); (first | omega | (simp <;> omega)); (first | omega | (simp <;> omega))))) hB hB4)))
        go_region_with (go_at_call 39; (with_reducible refine (hCj.out _).mono ?_); rintro e v5 ⟨rfl, hB5⟩; have hZ5 := hB5.size; (try simp at hZ5); have hA5 : Blk v5 (w.heap.size) 25 #[.int .i64 0, .int .i64 0, .int .i64 0] := Blk.call (by (repeat (first | with_reducible assumption | (with_reducible apply Blk.new_at; (first | rfl | (simp; done))) | with_reducible apply Blk.store3 | with_reducible apply Blk.store4 | (with_reducible apply Blk.farp; (first | omega | (simp <;> omega))) | with_reducible apply Blk.allocp | with_reducible apply Blk.drew | with_reducible apply Blk.drewN))) hB5; have cA5 := hA5.cell; have fA5 := hA5.frozen; have lA5 := hA5.lt; have mA5 := Nat.ne_of_gt lA5; have nA5 := Nat.ne_of_lt lA5; have hR5 : Blk v5 (w.heap.size + 1) 25 #[.int .i64 0, .int .i64 0, .int .i64 0] := Blk.call (by (repeat (first | with_reducible assumption | (with_reducible apply Blk.new_at; (first | rfl | (simp; done))) | with_reducible apply Blk.store3 | with_reducible apply Blk.store4 | (with_reducible apply Blk.farp; (first | omega | (simp <;> omega))) | with_reducible apply Blk.allocp | with_reducible apply Blk.drew | with_reducible apply Blk.drewN))) hB5; have cR5 := hR5.cell; have fR5 := hR5.frozen; have lR5 := hR5.lt; have mR5 := Nat.ne_of_gt lR5; have nR5 := Nat.ne_of_lt lR5; have hX5 : Blk v5 (v2.heap.size) 25 #[.int .i64 x, .int .i64 y, .int .i64 z] := Blk.call (by (repeat (first | with_reducible assumption | (with_reducible apply Blk.new_at; (first | rfl | (simp; done))) | with_reducible apply Blk.store3 | with_reducible apply Blk.store4 | (with_reducible apply Blk.farp; (first | omega | (simp <;> omega))) | with_reducible apply Blk.allocp | with_reducible apply Blk.drew | with_reducible apply Blk.drewN))) hB5; have cX5 := hX5.cell; have fX5 := hX5.frozen; have lX5 := hX5.lt; have mX5 := Nat.ne_of_gt lX5; have nX5 := Nat.ne_of_lt lX5; have hD5 := Lib.hid (Drw.call (w := _) (n := 76) (zs := zs) (v := .slice A m c) (B := B) (G := w.heap.size + 1 + 1) (w0 := w) (by repeat (first | with_reducible assumption | (with_reducible apply Hid.out; assumption) | with_reducible apply Drw.drewN | with_reducible apply Drw.drew | with_reducible apply Drw.alloc | (with_reducible refine Drw.setp ?_ ?_ ?_ ?_; (first | omega | (simp <;> omega)); (first | omega | (simp <;> omega)); (first | omega | (simp <;> omega))))) hB hB5))
        all_goals
          go_wp2
          exact bodyPost_ret (v := .tuple #[.int .i64 x1, .agg #[.int .i64 x, .int .i64 y, .int .i64 z], .agg #[.int .i64 x, .int .i64 y, .int .i64 r]]) (by simp [results, Try.results7, go_sem, *]) rfl (hfin.out _ _ _ _ _ _ _ _ (Drw.more (n := 76) (by repeat (first | with_reducible assumption | (with_reducible apply Hid.out; assumption) | with_reducible apply Drw.drewN | with_reducible apply Drw.drew | with_reducible apply Drw.alloc | (with_reducible refine Drw.setp ?_ ?_ ?_ ?_; (first | omega | (simp <;> omega)); (first | omega | (simp <;> omega)); (first | omega | (simp <;> omega))))) (by omega)))
end Go.Proofs.Ytjjkndgokdofdaa
