/- Parts DH DI laid together by tp.py. -/
import Derived.Test.YteehcjjhkphdnaaGreatDZ
import Derived.Test.YteehcjjhkphdnaaGreatDX
import Derived.Test.YteehcjjhkphdnaaGreatUB
import Derived.Test.YteehcjjhkphdnaaGreatK7
namespace Go.Proofs.YteehcjjhkphdnaaGreat
section
open Go.RowKit

/-- What a draw of a form gives. -/
def RetDf (w : World) (e : Ending) (w' : World) : Prop := ∃ f : Fm, e = .returned (.agg #[.int .i64 f.a, .int .i64 f.b, .int .i64 f.c]) ∧ Below w.heap.size w w'
theorem drw_start {zs : List Int} {v : Value} {B : Nat} {w : World} (hr : RdB zs v B w) : Drw zs v B w.heap.size 0 (w.alloc (.cells #[v, .int .i64 0, .int .u64 0] 95)) (w.alloc (.cells #[v, .int .i64 0, .int .u64 0] 95)) :=
  Drw.start (hr.grown (grown_alloc _ _ none) (fun k hk => by cases hk)) cur_start
theorem drw_start2 {zs : List Int} {v : Value} {B : Nat} {w : World} (r : Obj) (hr : RdB zs v B w) : Drw zs v B (w.heap.size + 1) 0 w ((w.alloc r).alloc (.cells #[v, .int .i64 0, .int .u64 0] 95)) := by
  have h := drw_start (w := w.alloc r) (hr.grown (grown_alloc _ _ none) (fun k hk => by cases hk))
  refine ⟨h.rd, by simpa using h.cur, (grown_alloc _ _ _).trans (grown_alloc _ _ _)⟩
theorem below_cur2 {w w' : World} (h : w.grownBy w' (some (w.heap.size + 1))) : Below w.heap.size w w' :=
  (Below.refl w.heap.size w).grown h (Nat.le_refl _) (fun k hk => by injection hk with hk; omega)
theorem retDf_mk {w w' : World} {zs : List Int} {v : Value} {B n : Nat} (x y z : Int) (h : Drw zs v B (w.heap.size + 1) n w w') : RetDf w (.returned (.agg #[.int .i64 x, .int .i64 y, .int .i64 z])) w' :=
  ⟨⟨x, y, z⟩, rfl, below_cur2 h.gr⟩
set_option maxRecDepth 100000 in
set_option maxHeartbeats 3200000 in
theorem drawIsSq_any (zs : List Int) (v : Value) (B : Nat) (w : World) (hr : RdB zs v B w) (hB : B ≤ w.heap.size) :
    Calls Tryz.prog 126 #[v] w (RetDf w) := by
  obtain ⟨A, m, c, rfl⟩ := hr.shape
  have hD0 := Lib.hid (drw_start2 (.cells #[.int .i64 0, .int .i64 0, .int .i64 0] 36) hr)
  have hB1 : B ≤ w.heap.size + 1 := by omega
  clear hr
  have hfin := Lib.hid (fun x y z w' (h : Drw zs (.slice A m c) B (w.heap.size + 1) 58 w w') => retDf_mk x y z h)
  go_enter Tryz.func126, Tryz.ntmps126
  go_wp2_with fail
  refine (classForm_d (by repeat (first | with_reducible assumption | (with_reducible apply Hid.out; assumption) | with_reducible apply Drw.drewN | with_reducible apply Drw.drew | with_reducible apply Drw.alloc | (with_reducible refine Drw.setp ?_ ?_ ?_ ?_; (first | omega | (simp <;> omega)); (first | omega | (simp <;> omega)); (first | omega | (simp <;> omega))))) hB1 (by omega)).mono ?_
  rintro e v1 ⟨f1, rfl, hx1, hD1', hG1⟩
  have hD1 := Lib.hid hD1'
  have lG1 := hD1'.lt
  have zG1 := hG1.size
  (try simp at zG1)
  have hA1 : Blk v1 (w.heap.size) 36 #[.int .i64 0, .int .i64 0, .int .i64 0] := Blk.grown (by (repeat (first | with_reducible assumption | (with_reducible apply Blk.new_at; (first | rfl | (simp; done))) | with_reducible apply Blk.store3 | with_reducible apply Blk.store4 | (with_reducible apply Blk.farp; (first | omega | (simp <;> omega))) | with_reducible apply Blk.allocp | with_reducible apply Blk.drew | with_reducible apply Blk.drewN))) hG1 (by simp <;> omega)
  have cA1 := hA1.cell; have fA1 := hA1.frozen; have lA1 := hA1.lt; have mA1 := Nat.ne_of_gt lA1; have nA1 := Nat.ne_of_lt lA1
  clear hD1' hG1
  have hCG := Lib.hid (fun w => scls_any f1.a f1.b f1.c w)
  cases hc : isCls f1.a f1.b f1.c with
  | false =>
    rw [hc] at hCG
    clear hc
    go_wp2_with (go_at_call 127; (with_reducible refine (hCG.out _).mono ?_); rintro e v2 ⟨rfl, hB2⟩; have hZ2 := hB2.size; (try simp at hZ2); (try have zl2 : w.heap.size < v2.heap.size := by omega); (try have ze2 : w.heap.size ≤ v2.heap.size := by omega); (try have zn2 : ¬ w.heap.size = v2.heap.size := by omega); (try have zm2 : ¬ v2.heap.size = w.heap.size := by omega); have hA2 : Blk v2 (w.heap.size) 36 #[.int .i64 0, .int .i64 0, .int .i64 0] := Blk.call (by (repeat (first | with_reducible assumption | (with_reducible apply Blk.new_at; (first | rfl | (simp; done))) | with_reducible apply Blk.store3 | with_reducible apply Blk.store4 | (with_reducible apply Blk.farp; (first | omega | (simp <;> omega))) | with_reducible apply Blk.allocp | with_reducible apply Blk.drew | with_reducible apply Blk.drewN))) hB2; have cA2 := hA2.cell; have fA2 := hA2.frozen; have lA2 := hA2.lt; have mA2 := Nat.ne_of_gt lA2; have nA2 := Nat.ne_of_lt lA2; have hP2 : Blk v2 (v1.heap.size) 36 #[.int .i64 f1.a, .int .i64 f1.b, .int .i64 f1.c] := Blk.call (by (repeat (first | with_reducible assumption | (with_reducible apply Blk.new_at; (first | rfl | (simp; done))) | with_reducible apply Blk.store3 | with_reducible apply Blk.store4 | (with_reducible apply Blk.farp; (first | omega | (simp <;> omega))) | with_reducible apply Blk.allocp | with_reducible apply Blk.drew | with_reducible apply Blk.drewN))) hB2; have cP2 := hP2.cell; have fP2 := hP2.frozen; have lP2 := hP2.lt; have mP2 := Nat.ne_of_gt lP2; have nP2 := Nat.ne_of_lt lP2)
    have hD2 : Drw zs _ B (w.heap.size + 1) _ _ v2 := Drw.call (w := _) (by repeat (first | with_reducible assumption | (with_reducible apply Hid.out; assumption) | with_reducible apply Drw.drewN | with_reducible apply Drw.drew | with_reducible apply Drw.alloc | (with_reducible refine Drw.setp ?_ ?_ ?_ ?_; (first | omega | (simp <;> omega)); (first | omega | (simp <;> omega)); (first | omega | (simp <;> omega))))) hB1 hB2
    exact bodyPost_ret (v := .agg #[.int .i64 f1.a, .int .i64 f1.b, .int .i64 f1.c]) (by simp [results, Tryz.results126, go_sem, *]) rfl (hfin.out _ _ _ _ (Drw.more (n := 0 + 34) (by repeat (first | with_reducible assumption | (with_reducible apply Hid.out; assumption) | with_reducible apply Drw.drewN | with_reducible apply Drw.drew | with_reducible apply Drw.alloc | (with_reducible refine Drw.setp ?_ ?_ ?_ ?_; (first | omega | (simp <;> omega)); (first | omega | (simp <;> omega)); (first | omega | (simp <;> omega))))) (by omega)))
  | true =>
    rw [hc] at hCG
    have cf : CF (disc f1) f1 (red f1) := CF.of_cls hc
    have hM := Lib.hid (fun w => coMul_cf _ _ _ _ _ _ w cf cf rfl)
    generalize cmp (disc f1) (red f1) (red f1) = g at hM
    clear cf hc
    go_wp2_with (go_at_call 127; (with_reducible refine (hCG.out _).mono ?_); rintro e v2 ⟨rfl, hB2⟩; have hZ2 := hB2.size; (try simp at hZ2); (try have zl2 : w.heap.size < v2.heap.size := by omega); (try have ze2 : w.heap.size ≤ v2.heap.size := by omega); (try have zn2 : ¬ w.heap.size = v2.heap.size := by omega); (try have zm2 : ¬ v2.heap.size = w.heap.size := by omega); have hA2 : Blk v2 (w.heap.size) 36 #[.int .i64 0, .int .i64 0, .int .i64 0] := Blk.call (by (repeat (first | with_reducible assumption | (with_reducible apply Blk.new_at; (first | rfl | (simp; done))) | with_reducible apply Blk.store3 | with_reducible apply Blk.store4 | (with_reducible apply Blk.farp; (first | omega | (simp <;> omega))) | with_reducible apply Blk.allocp | with_reducible apply Blk.drew | with_reducible apply Blk.drewN))) hB2; have cA2 := hA2.cell; have fA2 := hA2.frozen; have lA2 := hA2.lt; have mA2 := Nat.ne_of_gt lA2; have nA2 := Nat.ne_of_lt lA2; have hP2 : Blk v2 (v1.heap.size) 36 #[.int .i64 f1.a, .int .i64 f1.b, .int .i64 f1.c] := Blk.call (by (repeat (first | with_reducible assumption | (with_reducible apply Blk.new_at; (first | rfl | (simp; done))) | with_reducible apply Blk.store3 | with_reducible apply Blk.store4 | (with_reducible apply Blk.farp; (first | omega | (simp <;> omega))) | with_reducible apply Blk.allocp | with_reducible apply Blk.drew | with_reducible apply Blk.drewN))) hB2; have cP2 := hP2.cell; have fP2 := hP2.frozen; have lP2 := hP2.lt; have mP2 := Nat.ne_of_gt lP2; have nP2 := Nat.ne_of_lt lP2)
    have hD2 : Drw zs _ B (w.heap.size + 1) _ _ v2 := Drw.call (w := _) (by repeat (first | with_reducible assumption | (with_reducible apply Hid.out; assumption) | with_reducible apply Drw.drewN | with_reducible apply Drw.drew | with_reducible apply Drw.alloc | (with_reducible refine Drw.setp ?_ ?_ ?_ ?_; (first | omega | (simp <;> omega)); (first | omega | (simp <;> omega)); (first | omega | (simp <;> omega))))) hB1 hB2
    go_wp2_with fail
    refine (one_d (by repeat (first | with_reducible assumption | (with_reducible apply Hid.out; assumption) | with_reducible apply Drw.drewN | with_reducible apply Drw.drew | with_reducible apply Drw.alloc | (with_reducible refine Drw.setp ?_ ?_ ?_ ?_; (first | omega | (simp <;> omega)); (first | omega | (simp <;> omega)); (first | omega | (simp <;> omega))))) hB1 3 (by omega) (by omega)).mono ?_
    rintro e v3 ⟨x3, rfl, hx3, hD3', hG3⟩
    have hD3 := Lib.hid hD3'
    have lG3 := hD3'.lt
    have zG3 := hG3.size
    (try simp at zG3)
    have hA3 : Blk v3 (w.heap.size) 36 #[.int .i64 0, .int .i64 0, .int .i64 0] := Blk.grown (by (repeat (first | with_reducible assumption | (with_reducible apply Blk.new_at; (first | rfl | (simp; done))) | with_reducible apply Blk.store3 | with_reducible apply Blk.store4 | (with_reducible apply Blk.farp; (first | omega | (simp <;> omega))) | with_reducible apply Blk.allocp | with_reducible apply Blk.drew | with_reducible apply Blk.drewN))) hG3 (by simp <;> omega)
    have cA3 := hA3.cell; have fA3 := hA3.frozen; have lA3 := hA3.lt; have mA3 := Nat.ne_of_gt lA3; have nA3 := Nat.ne_of_lt lA3
    have hP3 : Blk v3 (v1.heap.size) 36 #[.int .i64 f1.a, .int .i64 f1.b, .int .i64 f1.c] := Blk.grown (by (repeat (first | with_reducible assumption | (with_reducible apply Blk.new_at; (first | rfl | (simp; done))) | with_reducible apply Blk.store3 | with_reducible apply Blk.store4 | (with_reducible apply Blk.farp; (first | omega | (simp <;> omega))) | with_reducible apply Blk.allocp | with_reducible apply Blk.drew | with_reducible apply Blk.drewN))) hG3 (by simp <;> omega)
    have cP3 := hP3.cell; have fP3 := hP3.frozen; have lP3 := hP3.lt; have mP3 := Nat.ne_of_gt lP3; have nP3 := Nat.ne_of_lt lP3
    clear hD3' hG3
    cases x3 with
    | false =>
      go_wp2
      exact bodyPost_ret (v := .agg #[.int .i64 f1.a, .int .i64 f1.b, .int .i64 f1.c]) (by simp [results, Tryz.results126, go_sem, *]) rfl (hfin.out _ _ _ _ (Drw.more (n := 0 + 34 + 2) (by repeat (first | with_reducible assumption | (with_reducible apply Hid.out; assumption) | with_reducible apply Drw.drewN | with_reducible apply Drw.drew | with_reducible apply Drw.alloc | (with_reducible refine Drw.setp ?_ ?_ ?_ ?_; (first | omega | (simp <;> omega)); (first | omega | (simp <;> omega)); (first | omega | (simp <;> omega))))) (by omega)))
    | true =>
      go_wp2_with (go_at_call 174; (with_reducible refine (hM.out _).mono ?_); rintro e v4 ⟨rfl, hB4⟩; have hZ4 := hB4.size; (try simp at hZ4); (try have zl4 : w.heap.size < v4.heap.size := by omega); (try have ze4 : w.heap.size ≤ v4.heap.size := by omega); (try have zn4 : ¬ w.heap.size = v4.heap.size := by omega); (try have zm4 : ¬ v4.heap.size = w.heap.size := by omega); have hA4 : Blk v4 (w.heap.size) 36 #[.int .i64 0, .int .i64 0, .int .i64 0] := Blk.call (by (repeat (first | with_reducible assumption | (with_reducible apply Blk.new_at; (first | rfl | (simp; done))) | with_reducible apply Blk.store3 | with_reducible apply Blk.store4 | (with_reducible apply Blk.farp; (first | omega | (simp <;> omega))) | with_reducible apply Blk.allocp | with_reducible apply Blk.drew | with_reducible apply Blk.drewN))) hB4; have cA4 := hA4.cell; have fA4 := hA4.frozen; have lA4 := hA4.lt; have mA4 := Nat.ne_of_gt lA4; have nA4 := Nat.ne_of_lt lA4)
      have hD4 : Drw zs _ B (w.heap.size + 1) _ _ v4 := Drw.call (w := _) (by repeat (first | with_reducible assumption | (with_reducible apply Hid.out; assumption) | with_reducible apply Drw.drewN | with_reducible apply Drw.drew | with_reducible apply Drw.alloc | (with_reducible refine Drw.setp ?_ ?_ ?_ ?_; (first | omega | (simp <;> omega)); (first | omega | (simp <;> omega)); (first | omega | (simp <;> omega))))) hB1 hB4
      go_wp2_with fail
      refine (moved_d (by repeat (first | with_reducible assumption | (with_reducible apply Hid.out; assumption) | with_reducible apply Drw.drewN | with_reducible apply Drw.drew | with_reducible apply Drw.alloc | (with_reducible refine Drw.setp ?_ ?_ ?_ ?_; (first | omega | (simp <;> omega)); (first | omega | (simp <;> omega)); (first | omega | (simp <;> omega))))) hB1 (by omega) g).mono ?_
      rintro e v5 ⟨f5, rfl, hx5, hD5', hG5⟩
      have hD5 := Lib.hid hD5'
      have lG5 := hD5'.lt
      have zG5 := hG5.size
      (try simp at zG5)
      have hA5 : Blk v5 (w.heap.size) 36 #[.int .i64 0, .int .i64 0, .int .i64 0] := Blk.grown (by (repeat (first | with_reducible assumption | (with_reducible apply Blk.new_at; (first | rfl | (simp; done))) | with_reducible apply Blk.store3 | with_reducible apply Blk.store4 | (with_reducible apply Blk.farp; (first | omega | (simp <;> omega))) | with_reducible apply Blk.allocp | with_reducible apply Blk.drew | with_reducible apply Blk.drewN))) hG5 (by simp <;> omega)
      have cA5 := hA5.cell; have fA5 := hA5.frozen; have lA5 := hA5.lt; have mA5 := Nat.ne_of_gt lA5; have nA5 := Nat.ne_of_lt lA5
      clear hD5' hG5
      go_wp2
      exact bodyPost_ret (v := .agg #[.int .i64 f5.a, .int .i64 f5.b, .int .i64 f5.c]) (by simp [results, Tryz.results126, go_sem, *]) rfl (hfin.out _ _ _ _ (Drw.more (n := 0 + 34 + 2 + 22) (by repeat (first | with_reducible assumption | (with_reducible apply Hid.out; assumption) | with_reducible apply Drw.drewN | with_reducible apply Drw.drew | with_reducible apply Drw.alloc | (with_reducible refine Drw.setp ?_ ?_ ?_ ?_; (first | omega | (simp <;> omega)); (first | omega | (simp <;> omega)); (first | omega | (simp <;> omega))))) (by omega)))
end

section
open Go.RowKit

theorem Drw.row {zs : List Int} {v : Value} {B G n : Nat} {w0 w1 w2 : World} {row : Option Nat} (h : Drw zs v B G n w0 w1) (hB : B ≤ G) (hg : w1.grownBy w2 row) (hr : ∀ q, row = some q → w0.heap.size ≤ q) (hG : G < w0.heap.size) : Drw zs v B G n w0 w2 := by
  refine ⟨h.rd.grown hg (fun k hk => by have := hr k hk; omega), ?_, ⟨hg.os.trans h.gr.os, hg.tape.trans h.gr.tape, hg.output.trans h.gr.output, Nat.le_trans h.gr.size hg.size, fun k hk hn => ?_⟩⟩
  · obtain ⟨p, s, h1, h2, h3, h4⟩ := h.cur
    exact ⟨p, s, h1, h2, h3, h4.grown hg (fun e => by have := hr G e.symm; omega)⟩
  · have h1 := h.gr.size
    rw [hg.block k (by omega) (fun e => by have := hr k e.symm; omega), h.gr.block k hk hn]
section
variable {zs : List Int} {v : Value} {B G n m : Nat} {w0 w w1 w2 : World}
theorem own_set_nq {w : World} {B2 k sz : Nat} {e : TypeId} {u x : Value} {xs : List Value} {p : Addr} (h : w.ownsRow B2 e sz u k xs) (hne : ∀ q, u.ownBlock = some q → q ≠ p.block) : (w.setCell p x).ownsRow B2 e sz u k xs :=
  h.kept (row := some p.block) ⟨rfl, rfl, rfl, by simp, fun k _ hn => Below.heap_setCell w p x k (fun e => hn (by rw [e]))⟩ (by
    cases hq : u.ownBlock with
    | none => exact .inl rfl
    | some q => exact .inr (fun he => by injection he with he; exact hne q hq he))
set_option maxRecDepth 100000 in
set_option maxHeartbeats 1600000 in
theorem grDisc_d (h : Drw zs v B G n w0 w) (hB : B ≤ G) (hn : n + 8 ≤ 100000000) :
    Calls Tryz.prog 184 #[.pointer (some ⟨G, 0, none⟩)] w fun e w' => ∃ x : Int, e = .returned (.int .i64 x) ∧ True ∧ Drw zs v B G (n + 8) w0 w' ∧ w.grownBy w' (some G) := by
  have H := Lib.hid h
  have lG0 := h.lt
  have hD0 := Lib.hid (Drw.start h.rd h.cur)
  clear h
  have hfin : Hid (∀ (x : Int) (w' : World), Drw zs v B G (n + 8) w w' → ∃ y : Int, Ending.returned (.int .i64 x) = .returned (.int .i64 y) ∧ True ∧ Drw zs v B G (n + 8) w0 w' ∧ w.grownBy w' (some G)) :=
    Lib.hid (fun x w' hd => ⟨x, rfl, trivial, H.out.next hB hd.cur hd.gr, hd.gr⟩)
  go_enter Tryz.func184, Tryz.ntmps184
  go_wp2_with fail
  refine (disc_d (by repeat (first | with_reducible assumption | (with_reducible apply Hid.out; assumption) | with_reducible apply Drw.drewN | with_reducible apply Drw.drew | with_reducible apply Drw.alloc | (with_reducible refine Drw.setp ?_ ?_ ?_ ?_; (first | omega | (simp <;> omega)); (first | omega | (simp <;> omega)); (first | omega | (simp <;> omega))))) hB (by omega)).mono ?_
  rintro e v1 ⟨x1, rfl, hx1, hD1', hG1⟩
  have hD1 := Lib.hid hD1'
  have lG1 := hD1'.lt
  have zG1 := hG1.size
  (try simp at zG1)
  clear hD1' hG1
  clear hx1
  go_wp2_with fail
  refine (one_d (by repeat (first | with_reducible assumption | (with_reducible apply Hid.out; assumption) | with_reducible apply Drw.drewN | with_reducible apply Drw.drew | with_reducible apply Drw.alloc | (with_reducible refine Drw.setp ?_ ?_ ?_ ?_; (first | omega | (simp <;> omega)); (first | omega | (simp <;> omega)); (first | omega | (simp <;> omega))))) hB 2 (by omega) (by omega)).mono ?_
  rintro e v2 ⟨b2, rfl, hx2, hD2', hG2⟩
  have hD2 := Lib.hid hD2'
  have lG2 := hD2'.lt
  have zG2 := hG2.size
  (try simp at zG2)
  clear hD2' hG2
  have hRD := Lib.hid (fun w => reDisc_any x1 w)
  cases b2 with
  | false =>
    go_wp2
    go_ret
    exact hfin.out _ _ (Drw.more (n := n + 4 + 2) (by repeat (first | with_reducible assumption | (with_reducible apply Hid.out; assumption) | with_reducible apply Drw.drewN | with_reducible apply Drw.drew | with_reducible apply Drw.alloc | (with_reducible refine Drw.setp ?_ ?_ ?_ ?_; (first | omega | (simp <;> omega)); (first | omega | (simp <;> omega)); (first | omega | (simp <;> omega))))) (by omega))
  | true =>
    cases hc : isDisc x1 with
    | false =>
      rw [hc] at hRD
      clear hc
      go_wp2_with (go_at_call 74; (with_reducible refine (hRD.out _).mono ?_); rintro e v ⟨rfl, rfl⟩)
      go_ret
      exact hfin.out _ _ (Drw.more (n := n + 4 + 2) (by repeat (first | with_reducible assumption | (with_reducible apply Hid.out; assumption) | with_reducible apply Drw.drewN | with_reducible apply Drw.drew | with_reducible apply Drw.alloc | (with_reducible refine Drw.setp ?_ ?_ ?_ ?_; (first | omega | (simp <;> omega)); (first | omega | (simp <;> omega)); (first | omega | (simp <;> omega))))) (by omega))
    | true =>
      rw [hc] at hRD
      clear hc
      by_cases h8 : x1 < -800
      · go_wp2_with (go_at_call 74; (with_reducible refine (hRD.out _).mono ?_); rintro e v ⟨rfl, rfl⟩)
        refine (pick_d (by repeat (first | with_reducible assumption | (with_reducible apply Hid.out; assumption) | with_reducible apply Drw.drewN | with_reducible apply Drw.drew | with_reducible apply Drw.alloc | (with_reducible refine Drw.setp ?_ ?_ ?_ ?_; (first | omega | (simp <;> omega)); (first | omega | (simp <;> omega)); (first | omega | (simp <;> omega))))) hB 200 (by omega) (by omega)).mono ?_
        rintro e v3 ⟨x3, rfl, hx3, hD3', hG3⟩
        have hD3 := Lib.hid hD3'
        clear hD3' hG3
        go_wp2
        go_ret
        exact hfin.out _ _ (Drw.more (n := n + 4 + 2 + 2) (by repeat (first | with_reducible assumption | (with_reducible apply Hid.out; assumption) | with_reducible apply Drw.drewN | with_reducible apply Drw.drew | with_reducible apply Drw.alloc | (with_reducible refine Drw.setp ?_ ?_ ?_ ?_; (first | omega | (simp <;> omega)); (first | omega | (simp <;> omega)); (first | omega | (simp <;> omega))))) (by omega))
      · go_wp2_with (go_at_call 74; (with_reducible refine (hRD.out _).mono ?_); rintro e v ⟨rfl, rfl⟩)
        go_ret
        exact hfin.out _ _ (Drw.more (n := n + 4 + 2) (by repeat (first | with_reducible assumption | (with_reducible apply Hid.out; assumption) | with_reducible apply Drw.drewN | with_reducible apply Drw.drew | with_reducible apply Drw.alloc | (with_reducible refine Drw.setp ?_ ?_ ?_ ?_; (first | omega | (simp <;> omega)); (first | omega | (simp <;> omega)); (first | omega | (simp <;> omega))))) (by omega))
end
/-- What a draw of a list of forms gives. -/
def RetDl (w : World) (e : Ending) (w' : World) : Prop := ∃ (d : Int) (L : List Fm) (vl : Value), e = .returned (.tuple #[.int .i64 d, vl]) ∧ w'.ownsRow w.heap.size 36 3 vl L.length (cellsF L) ∧ L.length ≤ 30 ∧ Below w.heap.size w w'
def lenSl : Value → Nat
  | .slice _ n _ => n
  | _ => 0
def GnDr (zs : List Int) (v : Value) (B : Nat) (w W : World) (vl vk : Value) (wr : World) : Prop :=
  ∃ (k : Nat) (L : List Fm), vk = .int .i64 k ∧ L.length + k ≤ 3 ∧ Hid (Drw zs v B w.heap.size (90 - 26 * k) W wr) ∧ wr.ownsRow (w.heap.size + 1) 36 3 vl L.length (cellsF L)
def GnDr2 (zs : List Int) (v : Value) (B : Nat) (w W : World) (vl : Value) (wr : World) : Prop :=
  ∃ L : List Fm, L.length ≤ 21 ∧ Hid (Drw zs v B w.heap.size (100 + 2 * L.length) W wr) ∧ wr.ownsRow (w.heap.size + 1) 36 3 vl L.length (cellsF L)
set_option maxRecDepth 100000 in
set_option maxHeartbeats 6400000 in
theorem drawGen_any (zs : List Int) (v : Value) (B : Nat) (w : World) (hr : RdB zs v B w) (hB : B ≤ w.heap.size) :
    Calls Tryz.prog 114 #[v] w (RetDl w) := by
  obtain ⟨i0, hi, hz0, hz1, hz2⟩ := info_parts infoForm
  obtain ⟨A, m, c, rfl⟩ := hr.shape
  have hD0 := Lib.hid (drw_start hr)
  clear hr
  have hfin := Lib.hid (fun (d : Int) (L : List Fm) vl w' n (h : Drw zs (.slice A m c) B w.heap.size n (w.alloc (.cells #[.slice A m c, .int .i64 0, .int .u64 0] 95)) w') (ho : w'.ownsRow (w.heap.size + 1) 36 3 vl L.length (cellsF L)) (hl : L.length ≤ 30) => (⟨d, L, vl, rfl, own_base (by omega) ho, hl, below_cur h.gr⟩ : RetDl w (.returned (.tuple #[.int .i64 d, vl])) w'))
  go_enter Tryz.func114, Tryz.ntmps114
  go_wp2_with fail
  refine (grDisc_d (by repeat (first | with_reducible assumption | (with_reducible apply Hid.out; assumption) | with_reducible apply Drw.drewN | with_reducible apply Drw.drew | with_reducible apply Drw.alloc | (with_reducible refine Drw.setp ?_ ?_ ?_ ?_; (first | omega | (simp <;> omega)); (first | omega | (simp <;> omega)); (first | omega | (simp <;> omega))))) hB (by omega)).mono ?_
  rintro e v1 ⟨d1, rfl, hx1, hD1', hG1⟩
  have hD1 := Lib.hid hD1'
  have lG1 := hD1'.lt
  have zG1 := hG1.size
  (try simp at zG1)
  clear hD1' hG1
  have hRD := Lib.hid (fun w => reDisc_any d1 w)
  cases hc : isDisc d1 with
  | false =>
    rw [hc] at hRD
    clear hc
    go_wp2_with (go_at_call 74; (with_reducible refine (hRD.out _).mono ?_); rintro e v ⟨rfl, rfl⟩)
    go_ret2
    exact hfin.out d1 [] _ _ (0 + 8) hD1.out (World.ownsRow_nil _ _ _ _) (by simp)
  | true =>
    rw [hc] at hRD
    have HC := Lib.hid hc
    clear hc
    go_wp2_with (go_at_call 74; (with_reducible refine (hRD.out _).mono ?_); rintro e v ⟨rfl, rfl⟩)
    refine (pick_d (Hid.out hD1) hB 4 (by omega) (by omega)).mono ?_
    rintro e v2 ⟨x2, rfl, hx2, hD2', hG2⟩
    have hD2 := Lib.hid hD2'
    obtain ⟨k2, rfl⟩ : ∃ k : Nat, x2 = k := ⟨x2.toNat, by omega⟩
    have hone := Lib.hid (fun w => coOne_any d1 _ w (dsc_of HC.out) rfl)
    generalize oneF d1 = o1 at hone
    have hsq := Lib.hid (fun f (hf : f ∈ clsL d1) w => coMul_cf d1 f f f f _ w (CF.of_mem (dsc_of HC.out) hf) (CF.of_mem (dsc_of HC.out) hf) rfl)
    clear hD2' hG2
    go_wp2
    go_loopw [6, 7] (fun vl vk wr => GnDr zs (.slice A m c) B w (w.alloc (.cells #[.slice A m c, .int .i64 0, .int .u64 0] 95)) vl vk wr) (fun _ vk _ => (intOf vk).toNat)
    case atStart => exact ⟨k2, [], rfl, by simp; omega, Lib.hid (hD2.out.more (by omega)), World.ownsRow_nil _ _ _ _⟩
    case round =>
      clear hD2 hD1 hD0 hx2
      obtain ⟨k, L, rfl, hk, hD, hown⟩ := hrel
      have lG := hD.out.lt
      have zz := hD.out.size
      (try simp at zz)
      by_cases hk0 : k = 0
      · subst hk0
        have hl3 : L.length ≤ 3 := by omega
        go_wp2_with fail
        refine (pick_d (n := 90 - 26 * 0) (Hid.out hD) hB 16 (by omega) (by omega)).mono ?_
        rintro e v8 ⟨x8, rfl, hx8, hD8', hG8⟩
        have hD8 := Lib.hid hD8'
        have ho8 := own_drw hown (by omega) hG8
        have lG8 := hD8'.lt
        clear hD8' hG8 hown hD
        by_cases e0 : x8 = 0
        · subst e0
          clear hx8
          go_wp2_with fail
          refine (classForm_d (Hid.out hD8) hB (by omega)).mono ?_
          rintro e v6 ⟨f6, rfl, _, hD6', hG6⟩
          have hD6 := Lib.hid hD6'
          have ho6 := own_drw ho8 (by omega) hG6
          have lG6 := hD6'.lt
          clear hD6' hG6 ho8 hD8
          go_wp2_with (at_builtin; refine wpList_append_own _ rfl (.tmp 42) (.tmp 45) 25 rfl (w.heap.size + 1) 36 i0 _ 3 24 Tryz.underlying25 hi hz0 hz1 hz2 rfl (by decide) u6 L.length (cellsF L) rfl ?_ ⟨v6.heap.size, 0, none⟩ 1 1 [.int .i64 f6.a, .int .i64 f6.b, .int .i64 f6.c] rfl rfl ?_ (one3 _ _ _) ?_ ?_ ?_ ?_; exact (by repeat (first | with_reducible assumption | with_reducible apply own_alloc | with_reducible apply own_drew | with_reducible apply own_drewN | (with_reducible refine own_setp (by assumption) ?_ ?_; (first | omega | (simp <;> omega))) | (with_reducible refine own_call (by assumption) ?_))); exact cells3 (Blk.new_at (by simp)); (unfold maxLen; omega); omega; (simp; omega); intro v7 w7 hown7 hg7 _)
          have ho7 := own_snoc (L := L) (K := L ++ [f6]) rfl hown7
          have hd7 : Drw zs _ B w.heap.size (_) _ w7 := Drw.row (by exact (by repeat (first | with_reducible assumption | (with_reducible apply Hid.out; assumption) | with_reducible apply Drw.drewN | with_reducible apply Drw.drew | with_reducible apply Drw.alloc | (with_reducible refine Drw.setp ?_ ?_ ?_ ?_; (first | omega | (simp <;> omega)); (first | omega | (simp <;> omega)); (first | omega | (simp <;> omega)))))) hB hg7 (fun q hq => by have := own_ge ho6 q hq; simp; omega) (by simp)
          go_wp2
          go_ret2
          exact hfin.out d1 (L ++ [f6]) _ _ _ hd7 ho7 (by simp; omega)
        · have n0 : (x8 == 0) = false := by rw [beq_eq_false_iff_ne]; exact e0
          by_cases e1 : x8 = 1
          · subst e1
            clear hx8 e0 n0
            go_wp2
            obtain ⟨wo, rfl⟩ : ∃ wo : World, wo = wr := ⟨_, rfl⟩
            go_loopw [6] (fun vl wr => GnDr2 zs (.slice A m c) B w (w.alloc (.cells #[.slice A m c, .int .i64 0, .int .u64 0] 95)) vl wr) (fun vl _ => 21 - lenSl vl)
            case atStart => exact ⟨L, by omega, Lib.hid (hD8.out.more (by omega)), ho8⟩
            case round =>
              clear hD8 ho8 hl3
              obtain ⟨L, hl, hD, hown⟩ := hrel
              have lG := hD.out.lt
              obtain ⟨bl, cl, rfl⟩ := own_shape hown
              go_wp2_with fail
              refine (pick_d (Hid.out hD) hB 2 (by omega) (by omega)).mono ?_
              rintro e v9 ⟨x9, rfl, hx9, hD9', hG9⟩
              have hD9 := Lib.hid hD9'
              have ho9 := own_drw hown (by omega) hG9
              have lG9 := hD9'.lt
              have hx9' : 0 ≤ x9 ∧ x9 ≤ 1 := by omega
              clear hD9' hG9 hown hD hx9
              by_cases hlt : (L.length : Int) < 20 + x9
              · go_wp2_with (first
                  | (go_at_call 101; refine (hone.out _).mono ?_; rintro e v6 ⟨rfl, hB6⟩; have hZ6 := hB6.size; have ho6 := own_call hB6 ho9)
                  | (at_builtin; refine wpList_append_own _ rfl (.tmp 55) (.tmp 58) 25 rfl (w.heap.size + 1) 36 i0 _ 3 24 Tryz.underlying25 hi hz0 hz1 hz2 rfl (by decide) (.slice bl L.length cl) L.length (cellsF L) rfl ?_ ⟨v6.heap.size, 0, none⟩ 1 1 [.int .i64 o1.a, .int .i64 o1.b, .int .i64 o1.c] rfl rfl ?_ (one3 _ _ _) ?_ ?_ ?_ ?_; exact (by repeat (first | with_reducible assumption | with_reducible apply own_alloc | with_reducible apply own_drew | with_reducible apply own_drewN | (with_reducible refine own_setp (by assumption) ?_ ?_; (first | omega | (simp <;> omega))) | (with_reducible refine own_call (by assumption) ?_))); exact cells3 (Blk.new_at (by simp)); (unfold maxLen; omega); omega; (simp; omega); intro v7 w7 hown7 hg7 _))
                have hd6 : Drw zs _ B w.heap.size (100 + 2 * L.length + 2) _ v6 := Drw.call (w := v9) (Hid.out hD9) hB hB6
                have lG6 := hd6.lt
                have ho7 := own_snoc (L := L) (K := L ++ [o1]) rfl hown7
                have hd7 : Drw zs _ B w.heap.size (_) _ w7 := Drw.row (by exact (by repeat (first | with_reducible assumption | (with_reducible apply Hid.out; assumption) | with_reducible apply Drw.drewN | with_reducible apply Drw.drew | with_reducible apply Drw.alloc | (with_reducible refine Drw.setp ?_ ?_ ?_ ?_; (first | omega | (simp <;> omega)); (first | omega | (simp <;> omega)); (first | omega | (simp <;> omega)))))) hB hg7 (fun q hq => by have := own_ge ho6 q hq; simp; omega) (by simp)
                obtain ⟨b7, c7, rfl⟩ := own_shape ho7
                go_roundw
                case rel => exact ⟨L ++ [o1], by simp; omega, Lib.hid (hd7.more (by simp; omega)), ho7⟩
                case measure => simp [lenSl]; omega
              · go_wp2
                go_ret2
                exact hfin.out d1 L _ _ _ hD9.out ho9 (by omega)
          · have n1 : (x8 == 1) = false := by rw [beq_eq_false_iff_ne]; exact e1
            clear hx8 e0 e1
            go_wp2
            go_ret2
            exact hfin.out d1 L _ _ _ hD8.out ho8 (by omega)
      · obtain ⟨j, rfl⟩ : ∃ j, k = j + 1 := ⟨k - 1, by omega⟩
        have hk1 : 0 < ((j + 1 : Nat) : Int) := by omega
        have hk2 : wrap64 (((j + 1 : Nat) : Int) - 1) = (j : Int) := by rw [IntWalk.wrap64_in _ (by omega)]; omega
        go_wp2_with fail
        refine (reduced_d (Hid.out hD) hB (by omega) d1 HC.out).mono ?_
        rintro e v3 ⟨f3, rfl, hx3, hD3', hG3⟩
        have ho3 := own_drw hown (by omega) hG3
        have hD3 := Lib.hid hD3'
        have lG3 := hD3'.lt
        have zz3 := hD3'.size
        (try simp at zz3)
        have hsq3 := Lib.hid (hsq.out f3 hx3)
        generalize cmp d1 f3 f3 = g3 at hsq3
        clear hD3' hG3 hown hD hx3
        go_wp2_with fail
        refine (one_d (n := 90 - 26 * (j + 1) + 2) (by exact (by repeat (first | with_reducible assumption | (with_reducible apply Hid.out; assumption) | with_reducible apply Drw.drewN | with_reducible apply Drw.drew | with_reducible apply Drw.alloc | (with_reducible refine Drw.setp ?_ ?_ ?_ ?_; (first | omega | (simp <;> omega)); (first | omega | (simp <;> omega)); (first | omega | (simp <;> omega)))))) hB 3 (by omega) (by omega)).mono ?_
        rintro e v4 ⟨b4, rfl, _, hD4', hG4⟩
        have ho4 := own_drw (own_alloc ho3) (by omega) hG4
        have hD4 := Lib.hid hD4'
        have lG4 := hD4'.lt
        have zz4 := hG4.size
        (try simp at zz4)
        have hP4 : Blk v4 v3.heap.size 36 #[.int .i64 f3.a, .int .i64 f3.b, .int .i64 f3.c] := Blk.grown (by (repeat (first | with_reducible assumption | (with_reducible apply Blk.new_at; (first | rfl | (simp; done))) | with_reducible apply Blk.store3 | with_reducible apply Blk.store4 | (with_reducible apply Blk.farp; (first | omega | (simp <;> omega))) | with_reducible apply Blk.allocp | with_reducible apply Blk.drew | with_reducible apply Blk.drewN))) hG4 (by simp <;> omega)
        have cP4 := hP4.cell; have fP4 := hP4.frozen; have lP4 := hP4.lt
        have hne := fun q hq => Nat.ne_of_lt (own_lt ho3 q hq)
        clear hD4' hG4 ho3 hD3
        cases b4 with
        | false =>
          go_wp2_with fail
          refine (moved_d (Hid.out hD4) hB (by omega) f3).mono ?_
          rintro e v6 ⟨f6, rfl, _, hD6', hG6⟩
          have hD6 := Lib.hid hD6'
          have ho6 := own_drw ho4 (by omega) hG6
          have lG6 := hD6'.lt
          clear hD6' hG6 ho4 hD4
          go_wp2_with (at_builtin; refine wpList_append_own _ rfl (.tmp 32) (.tmp 36) 25 rfl (w.heap.size + 1) 36 i0 _ 3 24 Tryz.underlying25 hi hz0 hz1 hz2 rfl (by decide) u6 L.length (cellsF L) rfl ?_ ⟨v6.heap.size, 0, none⟩ 1 1 [.int .i64 f6.a, .int .i64 f6.b, .int .i64 f6.c] rfl rfl ?_ (one3 _ _ _) ?_ ?_ ?_ ?_; exact (by repeat (first | with_reducible assumption | with_reducible apply own_alloc | with_reducible apply own_drew | with_reducible apply own_drewN | (with_reducible refine own_setp (by assumption) ?_ ?_; (first | omega | (simp <;> omega))) | (with_reducible refine own_call (by assumption) ?_))); exact cells3 (Blk.new_at (by simp)); (unfold maxLen; omega); omega; (simp; omega); intro v7 w7 hown7 hg7 _)
          have ho7 := own_snoc (L := L) (K := L ++ [f6]) rfl hown7
          have hd7 : Drw zs _ B w.heap.size (_) _ w7 := Drw.row (by exact (by repeat (first | with_reducible assumption | (with_reducible apply Hid.out; assumption) | with_reducible apply Drw.drewN | with_reducible apply Drw.drew | with_reducible apply Drw.alloc | (with_reducible refine Drw.setp ?_ ?_ ?_ ?_; (first | omega | (simp <;> omega)); (first | omega | (simp <;> omega)); (first | omega | (simp <;> omega)))))) hB hg7 (fun q hq => by have := own_ge ho6 q hq; simp; omega) (by simp)
          go_roundw
          case rel => exact ⟨j, L ++ [f6], by simp, by simp; omega, Lib.hid (hd7.more (by omega)), ho7⟩
          case measure => simp [intOf]
        | true =>
          go_wp2_with (go_at_call 174; (with_reducible refine (hsq3.out _).mono ?_); rintro e v5 ⟨rfl, hB5⟩; have hZ5 := hB5.size; (try simp at hZ5); (try have zl5 : w.heap.size < v5.heap.size := by omega); (try have ze5 : w.heap.size ≤ v5.heap.size := by omega); (try have zn5 : ¬ w.heap.size = v5.heap.size := by omega); (try have zm5 : ¬ v5.heap.size = w.heap.size := by omega); have hP5 : Blk v5 (v3.heap.size) 36 #[.int .i64 f3.a, .int .i64 f3.b, .int .i64 f3.c] := Blk.call (by (repeat (first | with_reducible assumption | (with_reducible apply Blk.new_at; (first | rfl | (simp; done))) | with_reducible apply Blk.store3 | with_reducible apply Blk.store4 | (with_reducible apply Blk.farp; (first | omega | (simp <;> omega))) | with_reducible apply Blk.allocp | with_reducible apply Blk.drew | with_reducible apply Blk.drewN))) hB5; have cP5 := hP5.cell; have fP5 := hP5.frozen; have lP5 := hP5.lt; have mP5 := Nat.ne_of_gt lP5; have nP5 := Nat.ne_of_lt lP5)
          have hd5 : Drw zs _ B w.heap.size _ _ v5 := Drw.call (w := v4) (Hid.out hD4) hB hB5
          have ho5 := own_call hB5 ho4
          have lG5 := hd5.lt
          have ho5s : ∀ x y z, (((v5.setCell ⟨v3.heap.size, 0, none⟩ x).setCell ⟨v3.heap.size, 1, none⟩ y).setCell ⟨v3.heap.size, 2, none⟩ z).ownsRow (w.heap.size + 1) 36 3 u6 L.length (cellsF L) := fun x y z => own_set_nq (own_set_nq (own_set_nq ho5 hne) hne) hne
          have zw5 : (w.alloc (.cells #[.slice A m c, .int .i64 0, .int .u64 0] 95)).heap.size ≤ v3.heap.size := by simp; omega
          have hq1 : B ≤ v3.heap.size := by omega
          have hq2 : w.heap.size ≠ v3.heap.size := by omega
          have hd5s := fun x y z => Drw.setp (p := ⟨v3.heap.size, 2, none⟩) (u := z) hq1 hq2 zw5 (Drw.setp (p := ⟨v3.heap.size, 1, none⟩) (u := y) hq1 hq2 zw5 (Drw.setp (p := ⟨v3.heap.size, 0, none⟩) (u := x) hq1 hq2 zw5 hd5))
          refine (moved_d (hd5s _ _ _) hB (by omega) g3).mono ?_
          rintro e v6 ⟨f6, rfl, _, hD6', hG6⟩
          have hD6 := Lib.hid hD6'
          have ho6 := own_drw (ho5s _ _ _) (by omega) hG6
          have lG6 := hD6'.lt
          clear hD6' hG6 ho4 hD4 hd5 ho5 ho5s hd5s
          go_wp2_with (at_builtin; refine wpList_append_own _ rfl (.tmp 32) (.tmp 36) 25 rfl (w.heap.size + 1) 36 i0 _ 3 24 Tryz.underlying25 hi hz0 hz1 hz2 rfl (by decide) u6 L.length (cellsF L) rfl ?_ ⟨v6.heap.size, 0, none⟩ 1 1 [.int .i64 f6.a, .int .i64 f6.b, .int .i64 f6.c] rfl rfl ?_ (one3 _ _ _) ?_ ?_ ?_ ?_; exact (by repeat (first | with_reducible assumption | with_reducible apply own_alloc | with_reducible apply own_drew | with_reducible apply own_drewN | (with_reducible refine own_setp (by assumption) ?_ ?_; (first | omega | (simp <;> omega))) | (with_reducible refine own_call (by assumption) ?_))); exact cells3 (Blk.new_at (by simp)); (unfold maxLen; omega); omega; (simp; omega); intro v7 w7 hown7 hg7 _)
          have ho7 := own_snoc (L := L) (K := L ++ [f6]) rfl hown7
          have hd7 : Drw zs _ B w.heap.size (_) _ w7 := Drw.row (by exact (by repeat (first | with_reducible assumption | (with_reducible apply Hid.out; assumption) | with_reducible apply Drw.drewN | with_reducible apply Drw.drew | with_reducible apply Drw.alloc | (with_reducible refine Drw.setp ?_ ?_ ?_ ?_; (first | omega | (simp <;> omega)); (first | omega | (simp <;> omega)); (first | omega | (simp <;> omega)))))) hB hg7 (fun q hq => by have := own_ge ho6 q hq; simp; omega) (by simp)
          go_roundw
          case rel => exact ⟨j, L ++ [f6], by simp, by simp; omega, Lib.hid (hd7.more (by omega)), ho7⟩
          case measure => simp [intOf]
set_option maxHeartbeats 800000 in
theorem drawCos_any (zs : List Int) (v : Value) (B : Nat) (w : World) (hr : RdB zs v B w) (hB : B ≤ w.heap.size) :
    Calls Tryz.prog 41 #[v] w (RetDl w) := by
  obtain ⟨A, m, c, rfl⟩ := hr.shape
  have HR := Lib.hid hr
  clear hr
  go_enter Tryz.func41, Tryz.ntmps41
  go_wp2_with fail
  refine (drawGen_any zs _ B _ HR.out hB).mono ?_
  rintro e w1 ⟨d, L, vl, rfl, ho, hl, hb⟩
  go_wp2
  go_ret2
  exact ⟨d, L, vl, rfl, ho, hl, hb⟩
end
end Go.Proofs.YteehcjjhkphdnaaGreat
