/- Contracts: the draws of the law on conics, its helpers, solutions. -/
import Derived.Test.YtdhennlanngjgaaJU
import Derived.Test.YtdhennlanngjgaaJS
import Derived.Test.YtdhennlanngjgaaJQ
namespace Go.Proofs.Ytdhennlanngjgaa
open Go.RowKit

section
variable {zs : List Int} {v : Value} {B G n m : Nat} {w0 w w1 w2 : World}
set_option maxRecDepth 100000 in
set_option maxHeartbeats 6400000 in
theorem normal_d (h : Drw zs v B G n w0 w) (hB : B ≤ G) (hn : n + 60 ≤ 100000000) :
    Calls Try.prog 56 #[.pointer (some ⟨G, 0, none⟩)] w fun e w' => ∃ p : Int × Int × Int, e = .returned (.agg #[.int .i64 p.1, .int .i64 p.2.1, .int .i64 p.2.2]) ∧ W3 p ∧ Drw zs v B G (n + 60) w0 w' ∧ w.grownBy w' (some G) := by
  have H := Lib.hid h
  have lG0 := h.lt
  have hD0 := Lib.hid (Drw.start (n := n) h.rd h.cur)
  clear h
  have hfin : Hid (∀ (x y z : Int) (w' : World), W3 (x, y, z) → Drw zs v B G (n + 60) w w' → ∃ p : Int × Int × Int, Ending.returned (.agg #[.int .i64 x, .int .i64 y, .int .i64 z]) = .returned (.agg #[.int .i64 p.1, .int .i64 p.2.1, .int .i64 p.2.2]) ∧ W3 p ∧ Drw zs v B G (n + 60) w0 w' ∧ w.grownBy w' (some G)) :=
    Lib.hid (fun x y z w' h3 hd => ⟨(x, y, z), rfl, h3, H.out.next hB hd.cur hd.gr, hd.gr⟩)
  go_enter Try.func56, Try.ntmps56
  go_wp2_with fail
  refine (triple_d (n := n) (by repeat (first | with_reducible assumption | (with_reducible apply Hid.out; assumption) | with_reducible apply Drw.drewN | with_reducible apply Drw.drew | with_reducible apply Drw.alloc | (with_reducible refine Drw.setp ?_ ?_ ?_ ?_; (first | omega | (simp <;> omega)); (first | omega | (simp <;> omega)); (first | omega | (simp <;> omega))))) hB (by omega)).mono ?_
  rintro e v1 ⟨⟨a, b, c⟩, rfl, h3, hD1', hG1⟩
  have hD1 := Lib.hid hD1'
  have lG1 := hD1'.lt
  have zG1 := hG1.size
  simp at zG1
  have H3 := Lib.hid h3
  have hA1 : Blk v1 w.heap.size 25 #[.int .i64 0, .int .i64 0, .int .i64 0] := Blk.grown (by (repeat (first | with_reducible assumption | (with_reducible apply Blk.new_at; (first | rfl | (simp; done))) | with_reducible apply Blk.store3 | with_reducible apply Blk.store4 | (with_reducible apply Blk.farp; (first | omega | (simp <;> omega))) | with_reducible apply Blk.allocp | with_reducible apply Blk.drew | with_reducible apply Blk.drewN))) hG1 (by simp <;> omega)
  have cA1 := hA1.cell; have fA1 := hA1.frozen; have lA1 := hA1.lt; have mA1 := Nat.ne_of_gt lA1; have nA1 := Nat.ne_of_lt lA1
  clear hD1' hG1 h3
  have hGd := Lib.hid (fun w => cnGood_any a b c w)
  cases ht : trB a b c with
  | false =>
    rw [ht] at hGd
    clear ht
    go_wp2_with (go_at_call 20; (with_reducible refine (hGd.out _).mono ?_); rintro e v2 ⟨rfl, hB2⟩; have zG2 := hB2.size; (try simp at zG2); have hA2 : Blk v2 w.heap.size 25 #[.int .i64 0, .int .i64 0, .int .i64 0] := Blk.call (by (repeat (first | with_reducible assumption | (with_reducible apply Blk.new_at; (first | rfl | (simp; done))) | with_reducible apply Blk.store3 | with_reducible apply Blk.store4 | (with_reducible apply Blk.farp; (first | omega | (simp <;> omega))) | with_reducible apply Blk.allocp | with_reducible apply Blk.drew | with_reducible apply Blk.drewN))) hB2; have hT2 : Blk v2 v1.heap.size 25 #[.int .i64 a, .int .i64 b, .int .i64 c] := Blk.call (by (repeat (first | with_reducible assumption | (with_reducible apply Blk.new_at; (first | rfl | (simp; done))) | with_reducible apply Blk.store3 | with_reducible apply Blk.store4 | (with_reducible apply Blk.farp; (first | omega | (simp <;> omega))) | with_reducible apply Blk.allocp | with_reducible apply Blk.drew | with_reducible apply Blk.drewN))) hB2; have cA2 := hA2.cell; have fA2 := hA2.frozen; have lA2 := hA2.lt; have cT2 := hT2.cell; have fT2 := hT2.frozen; have lT2 := hT2.lt; have hD2 := Lib.hid (Drw.call (w := _) (n := n + 40) (zs := zs) (v := v) (B := B) (G := G) (w0 := w) (by repeat (first | with_reducible assumption | (with_reducible apply Hid.out; assumption) | with_reducible apply Drw.drewN | with_reducible apply Drw.drew | with_reducible apply Drw.alloc | (with_reducible refine Drw.setp ?_ ?_ ?_ ?_; (first | omega | (simp <;> omega)); (first | omega | (simp <;> omega)); (first | omega | (simp <;> omega))))) hB hB2); have lG2 := hD2.out.lt)
    exact bodyPost_ret (v := .agg #[.int .i64 a, .int .i64 b, .int .i64 c]) (by simp [results, Try.results56, go_sem, *]) rfl (hfin.out _ _ _ _ H3.out (Drw.more (n := n + 40) (by repeat (first | with_reducible assumption | (with_reducible apply Hid.out; assumption) | with_reducible apply Drw.drewN | with_reducible apply Drw.drew | with_reducible apply Drw.alloc | (with_reducible refine Drw.setp ?_ ?_ ?_ ?_; (first | omega | (simp <;> omega)); (first | omega | (simp <;> omega)); (first | omega | (simp <;> omega))))) (by omega)))
  | true =>
    have h := trB_iff.1 ht
    have hM := Lib.hid (fun w => cnMake_any a b c w h)
    have HM := Lib.hid (show W3 (nfE a b c a, nfE a b c b, nfE a b c c) from w3_of (by have := h.all_bd h.a0; omega) (by have := h.all_bd h.b0; omega) (by have := h.all_bd h.c0; omega))
    rw [ht] at hGd
    generalize nfE a b c a = xa at *
    generalize nfE a b c b = xb at *
    generalize nfE a b c c = xc at *
    clear ht h
    go_wp2_with fail
    refine (hGd.out _).mono ?_
    rintro e v2 ⟨rfl, hB2⟩
    have zG2 := hB2.size; (try simp at zG2)
    have hA2 : Blk v2 w.heap.size 25 #[.int .i64 0, .int .i64 0, .int .i64 0] := Blk.call (by (repeat (first | with_reducible assumption | (with_reducible apply Blk.new_at; (first | rfl | (simp; done))) | with_reducible apply Blk.store3 | with_reducible apply Blk.store4 | (with_reducible apply Blk.farp; (first | omega | (simp <;> omega))) | with_reducible apply Blk.allocp | with_reducible apply Blk.drew | with_reducible apply Blk.drewN))) hB2
    have hT2 : Blk v2 v1.heap.size 25 #[.int .i64 a, .int .i64 b, .int .i64 c] := Blk.call (by (repeat (first | with_reducible assumption | (with_reducible apply Blk.new_at; (first | rfl | (simp; done))) | with_reducible apply Blk.store3 | with_reducible apply Blk.store4 | (with_reducible apply Blk.farp; (first | omega | (simp <;> omega))) | with_reducible apply Blk.allocp | with_reducible apply Blk.drew | with_reducible apply Blk.drewN))) hB2
    have cA2 := hA2.cell; have fA2 := hA2.frozen; have lA2 := hA2.lt; have cT2 := hT2.cell; have fT2 := hT2.frozen; have lT2 := hT2.lt
    have hD2 := Lib.hid (Drw.call (w := _) (n := n + 40) (zs := zs) (v := v) (B := B) (G := G) (w0 := w) (by repeat (first | with_reducible assumption | (with_reducible apply Hid.out; assumption) | with_reducible apply Drw.drewN | with_reducible apply Drw.drew | with_reducible apply Drw.alloc | (with_reducible refine Drw.setp ?_ ?_ ?_ ?_; (first | omega | (simp <;> omega)); (first | omega | (simp <;> omega)); (first | omega | (simp <;> omega))))) hB hB2); have lG2 := hD2.out.lt
    clear hB2 hA1 cA1 fA1 lA1 mA1 nA1 hD1 hD0
    go_wp2_with fail
    refine (one_d (n := n + 40) (by repeat (first | with_reducible assumption | (with_reducible apply Hid.out; assumption) | with_reducible apply Drw.drewN | with_reducible apply Drw.drew | with_reducible apply Drw.alloc | (with_reducible refine Drw.setp ?_ ?_ ?_ ?_; (first | omega | (simp <;> omega)); (first | omega | (simp <;> omega)); (first | omega | (simp <;> omega))))) hB 6 (by omega) (by omega)).mono ?_
    rintro e v3 ⟨x3, rfl, -, hD3', hG3⟩
    have hD3 := Lib.hid hD3'; have lG3 := hD3'.lt; have zG3 := hG3.size; (try simp at zG3)
    have hA3 : Blk v3 w.heap.size 25 #[.int .i64 0, .int .i64 0, .int .i64 0] := Blk.grown (by (repeat (first | with_reducible assumption | (with_reducible apply Blk.new_at; (first | rfl | (simp; done))) | with_reducible apply Blk.store3 | with_reducible apply Blk.store4 | (with_reducible apply Blk.farp; (first | omega | (simp <;> omega))) | with_reducible apply Blk.allocp | with_reducible apply Blk.drew | with_reducible apply Blk.drewN))) hG3 (by simp <;> omega)
    have hT3 : Blk v3 v1.heap.size 25 #[.int .i64 a, .int .i64 b, .int .i64 c] := Blk.grown (by (repeat (first | with_reducible assumption | (with_reducible apply Blk.new_at; (first | rfl | (simp; done))) | with_reducible apply Blk.store3 | with_reducible apply Blk.store4 | (with_reducible apply Blk.farp; (first | omega | (simp <;> omega))) | with_reducible apply Blk.allocp | with_reducible apply Blk.drew | with_reducible apply Blk.drewN))) hG3 (by simp <;> omega)
    have cA3 := hA3.cell; have fA3 := hA3.frozen; have lA3 := hA3.lt; have cT3 := hT3.cell; have fT3 := hT3.frozen; have lT3 := hT3.lt
    clear hD3' hG3 hA2 cA2 fA2 lA2 hT2 cT2 fT2 lT2 hD2
    cases x3 with
    | true =>
      go_wp2
      exact bodyPost_ret (v := .agg #[.int .i64 a, .int .i64 b, .int .i64 c]) (by simp [results, Try.results56, go_sem, *]) rfl (hfin.out _ _ _ _ H3.out (Drw.more (n := n + 40 + 2) (by repeat (first | with_reducible assumption | (with_reducible apply Hid.out; assumption) | with_reducible apply Drw.drewN | with_reducible apply Drw.drew | with_reducible apply Drw.alloc | (with_reducible refine Drw.setp ?_ ?_ ?_ ?_; (first | omega | (simp <;> omega)); (first | omega | (simp <;> omega)); (first | omega | (simp <;> omega))))) (by omega)))
    | false =>
      go_wp2_with fail
      refine (hM.out _).mono ?_
      rintro e v4 ⟨rfl, hB4⟩
      have zG4 := hB4.size; (try simp at zG4)
      have hA4 : Blk v4 w.heap.size 25 #[.int .i64 0, .int .i64 0, .int .i64 0] := Blk.call (by (repeat (first | with_reducible assumption | (with_reducible apply Blk.new_at; (first | rfl | (simp; done))) | with_reducible apply Blk.store3 | with_reducible apply Blk.store4 | (with_reducible apply Blk.farp; (first | omega | (simp <;> omega))) | with_reducible apply Blk.allocp | with_reducible apply Blk.drew | with_reducible apply Blk.drewN))) hB4
      have cA4 := hA4.cell; have fA4 := hA4.frozen; have lA4 := hA4.lt
      have hD4 := Lib.hid (Drw.call (w := _) (n := n + 40 + 2) (zs := zs) (v := v) (B := B) (G := G) (w0 := w) (by repeat (first | with_reducible assumption | (with_reducible apply Hid.out; assumption) | with_reducible apply Drw.drewN | with_reducible apply Drw.drew | with_reducible apply Drw.alloc | (with_reducible refine Drw.setp ?_ ?_ ?_ ?_; (first | omega | (simp <;> omega)); (first | omega | (simp <;> omega)); (first | omega | (simp <;> omega))))) hB hB4); have lG4 := hD4.out.lt
      clear hB4 hD3
      go_wp2
      exact bodyPost_ret (v := .agg #[.int .i64 xa, .int .i64 xb, .int .i64 xc]) (by simp [results, Try.results56, go_sem, *]) rfl (hfin.out _ _ _ _ HM.out (Drw.more (n := n + 40 + 2) (by repeat (first | with_reducible assumption | (with_reducible apply Hid.out; assumption) | with_reducible apply Drw.drewN | with_reducible apply Drw.drew | with_reducible apply Drw.alloc | (with_reducible refine Drw.setp ?_ ?_ ?_ ?_; (first | omega | (simp <;> omega)); (first | omega | (simp <;> omega)); (first | omega | (simp <;> omega))))) (by omega)))
end

set_option maxRecDepth 100000 in
set_option maxHeartbeats 3200000 in
theorem drawIT_any (zs : List Int) (v : Value) (B : Nat) (w : World) (hr : RdB zs v B w) (hB0 : B ≤ w.heap.size) :
    Calls Try.prog 17 #[v] w fun e w' => ∃ p : Int × Int × Int, e = .returned (.agg #[.int .i64 p.1, .int .i64 p.2.1, .int .i64 p.2.2]) ∧ W3 p ∧ Below w.heap.size w w' := by
  obtain ⟨A, m, c, rfl⟩ := hr.shape
  have hD0 := Lib.hid (drw_start2 (.cells #[.int .i64 0, .int .i64 0, .int .i64 0] 25) hr)
  have hB : B ≤ w.heap.size + 1 := by omega
  clear hr
  go_enter Try.func17, Try.ntmps17
  go_wp2_with fail
  refine (triple_d (n := 0) (by repeat (first | with_reducible assumption | (with_reducible apply Hid.out; assumption) | with_reducible apply Drw.drewN | with_reducible apply Drw.drew | with_reducible apply Drw.alloc | (with_reducible refine Drw.setp ?_ ?_ ?_ ?_; (first | omega | (simp <;> omega)); (first | omega | (simp <;> omega)); (first | omega | (simp <;> omega))))) hB (by omega)).mono ?_
  rintro e v1 ⟨⟨a, b, c⟩, rfl, h3, hD1, hG1⟩
  have hb := below_cur2 hD1.gr
  have zG1 := hG1.size
  simp at zG1
  have H3 := Lib.hid h3
  have hA1 : Blk v1 w.heap.size 25 #[.int .i64 0, .int .i64 0, .int .i64 0] := Blk.grown (by (repeat (first | with_reducible assumption | (with_reducible apply Blk.new_at; (first | rfl | (simp; done))) | with_reducible apply Blk.store3 | with_reducible apply Blk.store4 | (with_reducible apply Blk.farp; (first | omega | (simp <;> omega))) | with_reducible apply Blk.allocp | with_reducible apply Blk.drew | with_reducible apply Blk.drewN))) hG1 (by simp <;> omega)
  have cA1 := hA1.cell; have fA1 := hA1.frozen; have lA1 := hA1.lt
  clear hD1 hG1 hD0 h3
  go_wp2
  exact bodyPost_ret (v := .agg #[.int .i64 a, .int .i64 b, .int .i64 c]) (by simp [results, Try.results17, go_sem, *]) rfl ⟨(a, b, c), rfl, H3.out, (by repeat (first | with_reducible exact Below.refl _ _ | with_reducible assumption | with_reducible apply Below.drew | with_reducible apply below_drewN | (with_reducible apply below_setp; (first | omega | (simp <;> omega))) | (with_reducible apply below_allocp; (first | omega | (simp <;> omega))) | (with_reducible refine below_viap (by assumption) ?_ ?_; (first | omega | (simp <;> omega)))))⟩
set_option maxRecDepth 100000 in
set_option maxHeartbeats 3200000 in
theorem drawLR_any (zs : List Int) (v : Value) (B : Nat) (w : World) (hr : RdB zs v B w) (hB0 : B ≤ w.heap.size) :
    Calls Try.prog 28 #[v] w fun e w' => ∃ p : Int × Int × Int, e = .returned (.agg #[.int .i64 p.1, .int .i64 p.2.1, .int .i64 p.2.2]) ∧ W3 p ∧ Below w.heap.size w w' := by
  obtain ⟨A, m, c, rfl⟩ := hr.shape
  have hD0 := Lib.hid (drw_start2 (.cells #[.int .i64 0, .int .i64 0, .int .i64 0] 25) hr)
  have hB : B ≤ w.heap.size + 1 := by omega
  clear hr
  go_enter Try.func28, Try.ntmps28
  go_wp2_with fail
  refine (normal_d (n := 0) (by repeat (first | with_reducible assumption | (with_reducible apply Hid.out; assumption) | with_reducible apply Drw.drewN | with_reducible apply Drw.drew | with_reducible apply Drw.alloc | (with_reducible refine Drw.setp ?_ ?_ ?_ ?_; (first | omega | (simp <;> omega)); (first | omega | (simp <;> omega)); (first | omega | (simp <;> omega))))) hB (by omega)).mono ?_
  rintro e v1 ⟨⟨a, b, c⟩, rfl, h3, hD1, hG1⟩
  have hb := below_cur2 hD1.gr
  have zG1 := hG1.size
  simp at zG1
  have H3 := Lib.hid h3
  have hA1 : Blk v1 w.heap.size 25 #[.int .i64 0, .int .i64 0, .int .i64 0] := Blk.grown (by (repeat (first | with_reducible assumption | (with_reducible apply Blk.new_at; (first | rfl | (simp; done))) | with_reducible apply Blk.store3 | with_reducible apply Blk.store4 | (with_reducible apply Blk.farp; (first | omega | (simp <;> omega))) | with_reducible apply Blk.allocp | with_reducible apply Blk.drew | with_reducible apply Blk.drewN))) hG1 (by simp <;> omega)
  have cA1 := hA1.cell; have fA1 := hA1.frozen; have lA1 := hA1.lt
  clear hD1 hG1 hD0 h3
  go_wp2
  exact bodyPost_ret (v := .agg #[.int .i64 a, .int .i64 b, .int .i64 c]) (by simp [results, Try.results28, go_sem, *]) rfl ⟨(a, b, c), rfl, H3.out, (by repeat (first | with_reducible exact Below.refl _ _ | with_reducible assumption | with_reducible apply Below.drew | with_reducible apply below_drewN | (with_reducible apply below_setp; (first | omega | (simp <;> omega))) | (with_reducible apply below_allocp; (first | omega | (simp <;> omega))) | (with_reducible refine below_viap (by assumption) ?_ ?_; (first | omega | (simp <;> omega)))))⟩
set_option maxHeartbeats 1600000 in
theorem drawSo_any (zs : List Int) (v : Value) (B : Nat) (w : World) (hr : RdB zs v B w) (hB0 : B ≤ w.heap.size) :
    Calls Try.prog 5 #[v] w fun e w' => ∃ p : Int × Int × Int, e = .returned (.agg #[.int .i64 p.1, .int .i64 p.2.1, .int .i64 p.2.2]) ∧ W3 p ∧ Below w.heap.size w w' := by
  have h := Lib.hid (fun w (hr : RdB zs v B w) (hB : B ≤ w.heap.size) => drawIT_any zs v B w hr hB)
  have H := Lib.hid (hr.grown (grown_alloc w (.cells #[.int .i64 0, .int .i64 0, .int .i64 0] 25) none) (fun k hk => by cases hk))
  clear hr
  go_enter Try.func5, Try.ntmps5
  go_wp2_with fail
  refine (h.out _ H.out (by simp; omega)).mono ?_
  rintro e v1 ⟨⟨a, b, c⟩, rfl, h3, hb⟩
  have hz := hb.size
  simp at hz
  have H3 := Lib.hid h3
  have hA1 : Blk v1 w.heap.size 25 #[.int .i64 0, .int .i64 0, .int .i64 0] := Blk.call (by (repeat (first | with_reducible assumption | (with_reducible apply Blk.new_at; (first | rfl | (simp; done))) | with_reducible apply Blk.store3 | with_reducible apply Blk.store4 | (with_reducible apply Blk.farp; (first | omega | (simp <;> omega))) | with_reducible apply Blk.allocp | with_reducible apply Blk.drew | with_reducible apply Blk.drewN))) hb
  have cA1 := hA1.cell; have fA1 := hA1.frozen; have lA1 := hA1.lt
  have hb1 : Below w.heap.size w v1 := (by repeat (first | with_reducible exact Below.refl _ _ | with_reducible assumption | with_reducible apply Below.drew | with_reducible apply below_drewN | (with_reducible apply below_setp; (first | omega | (simp <;> omega))) | (with_reducible apply below_allocp; (first | omega | (simp <;> omega))) | (with_reducible refine below_viap (by assumption) ?_ ?_; (first | omega | (simp <;> omega)))))
  clear h3 h H
  go_wp2
  exact bodyPost_ret (v := .agg #[.int .i64 a, .int .i64 b, .int .i64 c]) (by simp [results, Try.results5, go_sem, *]) rfl ⟨(a, b, c), rfl, H3.out, (by repeat (first | with_reducible exact Below.refl _ _ | with_reducible assumption | with_reducible apply Below.drew | with_reducible apply below_drewN | (with_reducible apply below_setp; (first | omega | (simp <;> omega))) | (with_reducible apply below_allocp; (first | omega | (simp <;> omega))) | (with_reducible refine below_viap (by assumption) ?_ ?_; (first | omega | (simp <;> omega)))))⟩
set_option maxHeartbeats 1600000 in
theorem drawLS_any (zs : List Int) (v : Value) (B : Nat) (w : World) (hr : RdB zs v B w) (hB0 : B ≤ w.heap.size) :
    Calls Try.prog 11 #[v] w fun e w' => ∃ p : Int × Int × Int, e = .returned (.agg #[.int .i64 p.1, .int .i64 p.2.1, .int .i64 p.2.2]) ∧ W3 p ∧ Below w.heap.size w w' := by
  have h := Lib.hid (fun w (hr : RdB zs v B w) (hB : B ≤ w.heap.size) => drawLR_any zs v B w hr hB)
  have H := Lib.hid (hr.grown (grown_alloc w (.cells #[.int .i64 0, .int .i64 0, .int .i64 0] 25) none) (fun k hk => by cases hk))
  clear hr
  go_enter Try.func11, Try.ntmps11
  go_wp2_with fail
  refine (h.out _ H.out (by simp; omega)).mono ?_
  rintro e v1 ⟨⟨a, b, c⟩, rfl, h3, hb⟩
  have hz := hb.size
  simp at hz
  have H3 := Lib.hid h3
  have hA1 : Blk v1 w.heap.size 25 #[.int .i64 0, .int .i64 0, .int .i64 0] := Blk.call (by (repeat (first | with_reducible assumption | (with_reducible apply Blk.new_at; (first | rfl | (simp; done))) | with_reducible apply Blk.store3 | with_reducible apply Blk.store4 | (with_reducible apply Blk.farp; (first | omega | (simp <;> omega))) | with_reducible apply Blk.allocp | with_reducible apply Blk.drew | with_reducible apply Blk.drewN))) hb
  have cA1 := hA1.cell; have fA1 := hA1.frozen; have lA1 := hA1.lt
  have hb1 : Below w.heap.size w v1 := (by repeat (first | with_reducible exact Below.refl _ _ | with_reducible assumption | with_reducible apply Below.drew | with_reducible apply below_drewN | (with_reducible apply below_setp; (first | omega | (simp <;> omega))) | (with_reducible apply below_allocp; (first | omega | (simp <;> omega))) | (with_reducible refine below_viap (by assumption) ?_ ?_; (first | omega | (simp <;> omega)))))
  clear h3 h H
  go_wp2
  exact bodyPost_ret (v := .agg #[.int .i64 a, .int .i64 b, .int .i64 c]) (by simp [results, Try.results11, go_sem, *]) rfl ⟨(a, b, c), rfl, H3.out, (by repeat (first | with_reducible exact Below.refl _ _ | with_reducible assumption | with_reducible apply Below.drew | with_reducible apply below_drewN | (with_reducible apply below_setp; (first | omega | (simp <;> omega))) | (with_reducible apply below_allocp; (first | omega | (simp <;> omega))) | (with_reducible refine below_viap (by assumption) ?_ ?_; (first | omega | (simp <;> omega)))))⟩

set_option maxHeartbeats 800000 in
theorem pAbs_any (x : Int) (w : World) (h : -1000000000000 ≤ x ∧ x ≤ 1000000000000) : Calls Try.prog 16 #[.int .i64 x] w fun e w' => e = .returned (.int .i64 (x.natAbs : Int)) ∧ w = w' := by
  by_cases q : x < 0
  · have d := decide_eq_true q
    have hw : wrap64 (-x) = -x := IntWalk.wrap64_in _ (by omega)
    have hx := Lib.hid (show -x = (x.natAbs : Int) by omega)
    clear q
    go_enter Try.func16, Try.ntmps16
    go_wp2
    go_ret
    exact ⟨ret_int hx.out, rfl⟩
  · have d := decide_eq_false q
    have hx := Lib.hid (show x = (x.natAbs : Int) by omega)
    clear q
    go_enter Try.func16, Try.ntmps16
    go_wp2
    go_ret
    exact ⟨ret_int hx.out, rfl⟩

set_option maxRecDepth 100000 in
set_option maxHeartbeats 1600000 in
theorem pIn_any (L : List Int) (v : Value) (B : Nat) (x : Int) (w : World) (hl : L.length ≤ 1000000) (h : w.ownsRow B 3 1 v L.length (cellsI L)) :
    Calls Try.prog 10 #[v, .int .i64 x] w fun e w' => e = .returned (.bool (decide (x ∈ L))) ∧ w = w' := by
  obtain ⟨be, ce, rfl⟩ := own_shape h
  have HE := Lib.hid h
  obtain ⟨R, hR⟩ : ∃ R, decide (x ∈ L) = R := ⟨_, rfl⟩
  rw [hR]
  have HR := Lib.hid hR
  obtain ⟨m, hm⟩ : ∃ m, L.length = m := ⟨_, rfl⟩
  have Hm := Lib.hid hm
  rw [hm] at hl ⊢
  clear h hR hm
  go_enter Try.func10, Try.ntmps10
  go_wp2
  go_loop [9] (fun vi => ∃ k : Nat, vi = .int .i64 k ∧ k ≤ m ∧ Hid (∀ j (h : j < L.length), j < k → L[j] ≠ x)) (fun vi => m - (intOf vi).toNat)
  case atStart => exact ⟨0, rfl, Nat.zero_le _, Lib.hid (fun _ _ h => absurd h (Nat.not_lt_zero _))⟩
  case round =>
    obtain ⟨k, rfl, hk, hs⟩ := hrel
    by_cases hlt : k < m
    · have hlk : k < L.length := by rw [Hm.out]; exact hlt
      obtain ⟨ge, rfl, le, c1⟩ := own_elemI HE.out hlk
      by_cases hb : L[k] = x
      · have hx := Lib.hid (HR.out.symm.trans (decide_eq_true (hb ▸ List.getElem_mem hlk)))
        have he : (L[k] == x) = true := by rw [beq_iff_eq]; exact hb
        generalize L[k] = y at *
        clear hb hs
        go_wp2
        go_ret
        exact ⟨ret_bool hx.out.symm, rfl⟩
      · have hs2 : Hid (∀ j (h : j < L.length), j < k + 1 → L[j] ≠ x) := Lib.hid (fun j h hj => if e : j = k then (by subst e; exact hb) else hs.out j h (by omega))
        have he : (L[k] == x) = false := by rw [beq_eq_false_iff_ne]; exact hb
        generalize L[k] = y at c1 he hb
        clear hb hs
        go_wp2
        go_round
        case rel => exact ⟨k + 1, by go_num, hlt, hs2⟩
        case measure => simp [intOf]; omega
    · have hx := Lib.hid (HR.out.symm.trans (decide_eq_false (fun hm => by
        obtain ⟨j, hj, he⟩ := List.getElem_of_mem hm
        exact hs.out j hj (by have := Hm.out; omega) he)))
      have e : k = m := by omega
      subst e
      clear hs
      go_wp2
      go_ret
      exact ⟨ret_bool hx.out.symm, rfl⟩

theorem num3_cells {w : World} {b : Nat} (x y z : Int) (hb : b = w.heap.size) : ∀ j, j < 3 → (w.alloc (.cells #[.int .i64 x, .int .i64 y, .int .i64 z] 3)).cell? ⟨b, j, none⟩ = some (.int .i64 ([x, y, z].getD j 0)) := by
  subst hb
  intro j hj
  have h : Blk (w.alloc (.cells #[.int .i64 x, .int .i64 y, .int .i64 z] 3)) w.heap.size 3 #[.int .i64 x, .int .i64 y, .int .i64 z] := Blk.new _ _ _
  rw [h.cell]
  match j, hj with
  | 0, _ => rfl
  | 1, _ => rfl
  | 2, _ => rfl
set_option maxRecDepth 100000 in
set_option maxHeartbeats 6400000 in
theorem isSolT_any (a b c x y z : Int) (w : World) (h : TrI a b c) (hx : 0 ≤ x ∧ x ≤ 12000) (hy : 0 ≤ y ∧ y ≤ 400) (hz : 0 ≤ z ∧ z ≤ 400) (e : a * (x * x) + b * (y * y) + c * (z * z) = 0) (hn : nzB x y z = true) :
    Calls Try.prog 39 #[.agg #[.int .i64 a, .int .i64 b, .int .i64 c], .agg #[.int .i64 x, .int .i64 y, .int .i64 z]] w fun e w' => e = .returned (.bool true) ∧ Below w.heap.size w w' := by
  obtain ⟨x1, x2⟩ := is_bd h.a1 hx
  obtain ⟨y1, y2⟩ := is_bd h.b1 (show 0 ≤ y ∧ y ≤ 12000 by omega)
  obtain ⟨z1, z2⟩ := is_bd h.c1 (show 0 ≤ z ∧ z ≤ 12000 by omega)
  have E : a * x * x + b * y * y + c * z * z = 0 := by grind
  have V1 := Lib.hid (show wrap64 (a * x) = a * x from IntWalk.wrap64_in _ (by omega))
  have V2 := Lib.hid (show wrap64 (a * x * x) = a * x * x from IntWalk.wrap64_in _ (by omega))
  have V3 := Lib.hid (show wrap64 (b * y) = b * y from IntWalk.wrap64_in _ (by omega))
  have V4 := Lib.hid (show wrap64 (b * y * y) = b * y * y from IntWalk.wrap64_in _ (by omega))
  have V5 := Lib.hid (show wrap64 (c * z) = c * z from IntWalk.wrap64_in _ (by omega))
  have V6 := Lib.hid (show wrap64 (c * z * z) = c * z * z from IntWalk.wrap64_in _ (by omega))
  have V7 := Lib.hid (show wrap64 (a * x * x + b * y * y) = a * x * x + b * y * y from IntWalk.wrap64_in _ (by omega))
  have V8 := Lib.hid (show wrap64 (a * x * x + b * y * y + c * z * z) = 0 by rw [E]; exact IntWalk.wrap64_in _ (by omega))
  have hq : (x == 0) = false ∨ (x == 0) = true ∧ ((y == 0) = false ∨ (y == 0) = true ∧ (z == 0) = false) := by
    unfold nzB at hn
    cases q1 : x == 0 <;> cases q2 : y == 0 <;> cases q3 : z == 0 <;> simp [bne, q1, q2, q3] at hn ⊢
  clear x1 x2 y1 y2 z1 z2 E e h hx hy hz hn
  have W1 := V1.out; have W2 := V2.out; have W3 := V3.out; have W4 := V4.out; have W5 := V5.out; have W6 := V6.out; have W7 := V7.out; have W8 := V8.out
  clear V1 V2 V3 V4 V5 V6 V7 V8
  rcases hq with q | ⟨q1, q | ⟨q2, q⟩⟩
  all_goals
    go_enter Try.func39, Try.ntmps39
    go_wp2
    go_ret
    exact ⟨rfl, (by repeat (first | with_reducible exact Below.refl _ _ | with_reducible assumption | with_reducible apply Below.drew | with_reducible apply below_drewN | (with_reducible apply below_setp; (first | omega | (simp <;> omega))) | (with_reducible apply below_allocp; (first | omega | (simp <;> omega))) | (with_reducible refine below_viap (by assumption) ?_ ?_; (first | omega | (simp <;> omega)))))⟩
set_option maxRecDepth 100000 in
set_option maxHeartbeats 3200000 in
theorem isSol_any (a b c x y z : Int) (w : World) (h : TrI a b c) (hx : 0 ≤ x ∧ x ≤ 12000) (hy : 0 ≤ y ∧ y ≤ 400) (hz : 0 ≤ z ∧ z ≤ 400) (e : a * (x * x) + b * (y * y) + c * (z * z) = 0) (hn : nzB x y z = true) :
    Calls Try.prog 15 #[.agg #[.int .i64 a, .int .i64 b, .int .i64 c], .agg #[.int .i64 x, .int .i64 y, .int .i64 z]] w fun e w' => e = .returned (.tuple #[.bool true, .bool true]) ∧ Below w.heap.size w w' := by
  have hS := Lib.hid (fun w => isSolT_any a b c x y z w h hx hy hz e hn)
  have hI := Lib.hid (fun w => isTriple_any a b c w (by have := h.a1; unfold W64; omega) (by have := h.b1; unfold W64; omega) (by have := h.c1; unfold W64; omega))
  rw [trB_iff.2 h] at hI
  have hall : [x, y, z].all isNum = true := by
    rw [List.all_eq_true]
    intro q hq
    simp only [List.mem_cons, List.not_mem_nil, or_false] at hq
    rcases hq with rfl | rfl | rfl <;> exact (isNum_iff _).2 ⟨by omega, by omega⟩
  have hN := Lib.hid (fun b w (hc : ∀ j, j < 3 → w.cell? ⟨b, j, none⟩ = some (.int .i64 ([x, y, z].getD j 0))) => areNumbers_any b 3 3 [x, y, z] w rfl (by omega) hc)
  rw [hall] at hN
  clear h hx hy hz e hn hall
  go_enter Try.func15, Try.ntmps15
  go_wp2_with (first
    | (go_at_call 29; (with_reducible refine (hI.out _).mono ?_); rintro e v1 ⟨rfl, hB1⟩; have hZ1 := hB1.size; (try simp at hZ1); (try have zl1 : w.heap.size < v1.heap.size := by omega); (try have ze1 : w.heap.size ≤ v1.heap.size := by omega); (try have zn1 : ¬ w.heap.size = v1.heap.size := by omega); (try have zm1 : ¬ v1.heap.size = w.heap.size := by omega); have hA1 : Blk v1 (w.heap.size) 25 #[.int .i64 a, .int .i64 b, .int .i64 c] := Blk.call (by (repeat (first | with_reducible assumption | (with_reducible apply Blk.new_at; (first | rfl | (simp; done))) | with_reducible apply Blk.store3 | with_reducible apply Blk.store4 | (with_reducible apply Blk.farp; (first | omega | (simp <;> omega))) | with_reducible apply Blk.allocp | with_reducible apply Blk.drew | with_reducible apply Blk.drewN))) hB1; have cA1 := hA1.cell; have fA1 := hA1.frozen; have lA1 := hA1.lt; have mA1 := Nat.ne_of_gt lA1; have nA1 := Nat.ne_of_lt lA1; have hS1 : Blk v1 (w.heap.size + 1) 36 #[.int .i64 x, .int .i64 y, .int .i64 z] := Blk.call (by (repeat (first | with_reducible assumption | (with_reducible apply Blk.new_at; (first | rfl | (simp; done))) | with_reducible apply Blk.store3 | with_reducible apply Blk.store4 | (with_reducible apply Blk.farp; (first | omega | (simp <;> omega))) | with_reducible apply Blk.allocp | with_reducible apply Blk.drew | with_reducible apply Blk.drewN))) hB1; have cS1 := hS1.cell; have fS1 := hS1.frozen; have lS1 := hS1.lt; have mS1 := Nat.ne_of_gt lS1; have nS1 := Nat.ne_of_lt lS1)
    | (go_at_call 38; refine (hN.out v1.heap.size _ (num3_cells x y z rfl)).mono ?_; rintro e v2 ⟨rfl, rfl⟩)
    | (go_at_call 39; (with_reducible refine (hS.out _).mono ?_); rintro e v3 ⟨rfl, hB3⟩; have hZ3 := hB3.size; (try simp at hZ3); (try have zl3 : w.heap.size < v3.heap.size := by omega); (try have ze3 : w.heap.size ≤ v3.heap.size := by omega); (try have zn3 : ¬ w.heap.size = v3.heap.size := by omega); (try have zm3 : ¬ v3.heap.size = w.heap.size := by omega); have hC3_0 := fun o => (calm_cells hB3).1 (w.heap.size) o (by first | omega | (simp <;> omega)); have hF3_0 := fun o => (calm_cells hB3).2 (w.heap.size) o (by first | omega | (simp <;> omega)); (try have hl3_0 : w.heap.size < v3.heap.size := by omega); (try have hm3_0 : ¬ w.heap.size = v3.heap.size := by omega); (try have hn3_0 : ¬ v3.heap.size = w.heap.size := by omega); have hC3_1 := fun o => (calm_cells hB3).1 (w.heap.size + 1) o (by first | omega | (simp <;> omega)); have hF3_1 := fun o => (calm_cells hB3).2 (w.heap.size + 1) o (by first | omega | (simp <;> omega)); (try have hl3_1 : w.heap.size + 1 < v3.heap.size := by omega); (try have hm3_1 : ¬ w.heap.size + 1 = v3.heap.size := by omega); (try have hn3_1 : ¬ v3.heap.size = w.heap.size + 1 := by omega)))
  go_ret2
  exact ⟨rfl, (by repeat (first | with_reducible exact Below.refl _ _ | with_reducible assumption | with_reducible apply Below.drew | with_reducible apply below_drewN | (with_reducible apply below_setp; (first | omega | (simp <;> omega))) | (with_reducible apply below_allocp; (first | omega | (simp <;> omega))) | (with_reducible refine below_viap (by assumption) ?_ ?_; (first | omega | (simp <;> omega)))))⟩
end Go.Proofs.Ytdhennlanngjgaa
