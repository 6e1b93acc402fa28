/- Parts IP IO laid together by tp.py. -/
import Derived.Test.YteicampphegolaaIN
namespace Go.Proofs.Yteicampphegolaa
section
open Go.RowKit

section
variable {zs : List Int} {v : Value} {B G n m : Nat} {w0 w w1 w2 : World}
/-- The loop of a drawn matrix. -/
def PrStW (zs : List Int) (v : Value) (B G n : Nat) (w : World) (b1 : Nat) (vk : Value) (wr : World) : Prop :=
  ∃ (k : Nat) (p q r s : Int), vk = .int .i64 k ∧ k ≤ 5 ∧ Hid (Drw zs v B G (n + 22 - 4 * k) w wr) ∧ Blk wr w.heap.size 49 #[.int .i64 0, .int .i64 0, .int .i64 0, .int .i64 0] ∧
    Blk wr b1 49 #[.int .i64 p, .int .i64 q, .int .i64 r, .int .i64 s] ∧ b1 < wr.heap.size ∧ (W64 p ∧ W64 r)

set_option maxRecDepth 100000 in
set_option maxHeartbeats 1600000 in
theorem proper_w (h : Drw zs v B G n w0 w) (hB : B ≤ G) (hn : n + 22 ≤ 100000000) :
    Calls Try.prog 178 #[.pointer (some ⟨G, 0, none⟩)] w fun e w' => ∃ x : Int × Int × Int × Int, e = .returned (.agg #[.int .i64 x.1, .int .i64 x.2.1, .int .i64 x.2.2.1, .int .i64 x.2.2.2]) ∧ (W64 x.1 ∧ W64 x.2.2.1) ∧ Drw zs v B G (n + 22) w0 w' ∧ w.grownBy w' (some G) := by
  have H := Lib.hid h
  have lG0 := h.lt
  have hD0 := Lib.hid (Drw.start h.rd h.cur)
  clear h
  have hfin : Hid (∀ (x y z t : Int) (w' : World), W64 x ∧ W64 z → Drw zs v B G (n + 22) w w' → ∃ f : Int × Int × Int × Int, Ending.returned (.agg #[.int .i64 x, .int .i64 y, .int .i64 z, .int .i64 t]) = .returned (.agg #[.int .i64 f.1, .int .i64 f.2.1, .int .i64 f.2.2.1, .int .i64 f.2.2.2]) ∧ (W64 f.1 ∧ W64 f.2.2.1) ∧ Drw zs v B G (n + 22) w0 w' ∧ w.grownBy w' (some G)) :=
    Lib.hid (fun x y z t w' h64 hd => ⟨(x, y, z, t), rfl, h64, H.out.next hB hd.cur hd.gr, hd.gr⟩)
  go_enter Try.func178, Try.ntmps178
  go_wp2_with fail
  refine (pick_d (by repeat (first | with_reducible assumption | (with_reducible apply Hid.out; assumption) | with_reducible apply Drw.drewN | with_reducible apply Drw.drew | with_reducible apply Drw.alloc | (with_reducible refine Drw.setp ?_ ?_ ?_ ?_; (first | omega | (simp <;> omega)); (first | omega | (simp <;> omega)); (first | omega | (simp <;> omega))))) hB 6 (by omega) (by omega)).mono ?_
  rintro e v1 ⟨x1, rfl, hx1, hD1', hG1⟩
  have hD1 := Lib.hid hD1'
  have lG1 := hD1'.lt
  have zG1 := hG1.size
  (try simp at zG1)
  have hA1 : Blk v1 (w.heap.size) 49 #[.int .i64 0, .int .i64 0, .int .i64 0, .int .i64 0] := Blk.grown (by (repeat (first | with_reducible assumption | (with_reducible apply Blk.new_at; (first | rfl | (simp; done))) | with_reducible apply Blk.store3 | with_reducible apply Blk.store4 | (with_reducible apply Blk.farp; (first | omega | (simp <;> omega))) | with_reducible apply Blk.allocp | with_reducible apply Blk.drew | with_reducible apply Blk.drewN))) hG1 (by simp; omega)
  have cA1 := hA1.cell; have fA1 := hA1.frozen; have lA1 := hA1.lt; have mA1 := Nat.ne_of_gt lA1; have nA1 := Nat.ne_of_lt lA1
  have hM1 : Blk v1 (w.heap.size + 1) 49 #[.int .i64 1, .int .i64 0, .int .i64 0, .int .i64 1] := Blk.grown (by (repeat (first | with_reducible assumption | (with_reducible apply Blk.new_at; (first | rfl | (simp; done))) | with_reducible apply Blk.store3 | with_reducible apply Blk.store4 | (with_reducible apply Blk.farp; (first | omega | (simp <;> omega))) | with_reducible apply Blk.allocp | with_reducible apply Blk.drew | with_reducible apply Blk.drewN))) hG1 (by simp; omega)
  have cM1 := hM1.cell; have fM1 := hM1.frozen; have lM1 := hM1.lt; have mM1 := Nat.ne_of_gt lM1; have nM1 := Nat.ne_of_lt lM1
  clear hD1' hG1
  obtain ⟨k1, rfl⟩ : ∃ k : Nat, x1 = k := ⟨x1.toNat, by omega⟩
  obtain ⟨b1, hb1⟩ : ∃ b : Nat, b = w.heap.size + 1 := ⟨_, rfl⟩
  rw [← hb1] at hM1 lM1
  go_wp2
  rw [← hb1]
  have hb2 : w.heap.size < b1 := by omega
  have hb3 : ¬ w.heap.size = b1 := by omega
  have hb4 : ¬ b1 = w.heap.size := by omega
  clear cA1 fA1 cM1 fM1 hb1
  go_loopw [4] (fun vk wr => PrStW zs v B G n w b1 vk wr) (fun vk _ => (intOf vk).toNat)
  case atStart => exact ⟨k1, 1, 0, 0, 1, rfl, by omega, Lib.hid (hD1.out.more (by omega)), hA1, hM1, lM1, by unfold W64; omega⟩
  case round =>
    obtain ⟨k, p, q, r, s, rfl, hk, hD, hA, hM, hlt, h64⟩ := hrel
    have cM := hM.cell; have fM := hM.frozen; have cA := hA.cell; have fA := hA.frozen
    have lG := hD.out.lt
    have ln := Nat.ne_of_gt hlt
    by_cases hk0 : k = 0
    · subst hk0
      go_wp2
      exact bodyPost_ret (v := .agg #[.int .i64 p, .int .i64 q, .int .i64 r, .int .i64 s]) (by simp [results, Try.results178, go_sem, *]) rfl (hfin.out _ _ _ _ _ h64 (by have hd := hD.out.more (show n + 22 - 4 * 0 ≤ n + 22 by omega); clear hD hD1 hD0; exact (by repeat (first | with_reducible assumption | (with_reducible apply Hid.out; assumption) | with_reducible apply Drw.drewN | with_reducible apply Drw.drew | with_reducible apply Drw.alloc | (with_reducible refine Drw.setp ?_ ?_ ?_ ?_; (first | omega | (simp <;> omega)); (first | omega | (simp <;> omega)); (first | omega | (simp <;> omega)))))))
    · obtain ⟨j, rfl⟩ : ∃ j, k = j + 1 := ⟨k - 1, by omega⟩
      have hk1 : 0 < ((j + 1 : Nat) : Int) := by omega
      have hk2 : wrap64 (((j + 1 : Nat) : Int) - 1) = (j : Int) := by rw [IntWalk.wrap64_in _ (by omega)]; omega
      go_wp2_with fail
      refine (pick_d (w0 := w) (n := n + 22 - 4 * (j + 1)) hD.out hB 9 (by omega) (by omega)).mono ?_
      rintro e v2 ⟨x2, rfl, hx2, hD2', hG2⟩
      have hD2 := Lib.hid hD2'
      have hA2 := hA.grown hG2 (by simp; omega)
      have hM2 := hM.grown hG2 (by simp; omega)
      have zG2 := hG2.size
      clear cM fM cA fA hD2' hG2 hA hM
      go_wp2_with fail
      refine (pick_d (w0 := w) (Hid.out hD2) hB 3 (by omega) (by omega)).mono ?_
      rintro e v3 ⟨x3, rfl, hx3, hD3', hG3⟩
      have hD3 := Lib.hid hD3'
      have hA3 := hA2.grown hG3 (by simp; omega)
      have hM3 := hM2.grown hG3 (by simp; omega)
      have zG3 := hG3.size
      have cM := hM3.cell; have fM := hM3.frozen; have cA := hA3.cell; have fA := hA3.frozen
      have lM := hM3.lt
      have lG3 := hD3'.lt
      clear hD3' hG3 hA2 hM2
      have e3 : x3 = 0 ∨ x3 = 1 ∨ x3 = 2 := by omega
      clear hx3
      clear hA1 hM1 lM1 hD1 hD hlt ln
      rcases e3 with rfl | rfl | rfl
      · go_wp2_with (go_at_call 241; (with_reducible refine (foMul_any _ _ _ _ _ _ _ _ _).mono ?_); rintro e v4 ⟨rfl, hB4⟩; have hZ4 := hB4.size; (try simp at hZ4); (try have zl4 : w.heap.size < v4.heap.size := by omega); (try have ze4 : w.heap.size ≤ v4.heap.size := by omega); (try have zn4 : ¬ w.heap.size = v4.heap.size := by omega); (try have zm4 : ¬ v4.heap.size = w.heap.size := by omega); have hA4 : Blk v4 (w.heap.size) 49 #[.int .i64 0, .int .i64 0, .int .i64 0, .int .i64 0] := Blk.call (by (repeat (first | with_reducible assumption | (with_reducible apply Blk.new_at; (first | rfl | (simp; done))) | with_reducible apply Blk.store3 | with_reducible apply Blk.store4 | (with_reducible apply Blk.farp; (first | omega | (simp <;> omega))) | with_reducible apply Blk.allocp | with_reducible apply Blk.drew | with_reducible apply Blk.drewN))) hB4; have cA4 := hA4.cell; have fA4 := hA4.frozen; have lA4 := hA4.lt; have mA4 := Nat.ne_of_gt lA4; have nA4 := Nat.ne_of_lt lA4; have hM4 : Blk v4 (b1) 49 #[.int .i64 p, .int .i64 q, .int .i64 r, .int .i64 s] := Blk.call (by (repeat (first | with_reducible assumption | (with_reducible apply Blk.new_at; (first | rfl | (simp; done))) | with_reducible apply Blk.store3 | with_reducible apply Blk.store4 | (with_reducible apply Blk.farp; (first | omega | (simp <;> omega))) | with_reducible apply Blk.allocp | with_reducible apply Blk.drew | with_reducible apply Blk.drewN))) hB4; have cM4 := hM4.cell; have fM4 := hM4.frozen; have lM4 := hM4.lt; have mM4 := Nat.ne_of_gt lM4; have nM4 := Nat.ne_of_lt lM4)
        refine ⟨⟨j, mm p 1 q 0, mm p (x2 - 4) q 1, mm r 1 s 0, mm r (x2 - 4) s 1, rfl, by omega, Lib.hid ?_, by (repeat (first | with_reducible assumption | (with_reducible apply Blk.new_at; (first | rfl | (simp; done))) | with_reducible apply Blk.store3 | with_reducible apply Blk.store4 | (with_reducible apply Blk.farp; (first | omega | (simp <;> omega))) | with_reducible apply Blk.allocp | with_reducible apply Blk.drew | with_reducible apply Blk.drewN)), by (repeat (first | with_reducible assumption | (with_reducible apply Blk.new_at; (first | rfl | (simp; done))) | with_reducible apply Blk.store3 | with_reducible apply Blk.store4 | (with_reducible apply Blk.farp; (first | omega | (simp <;> omega))) | with_reducible apply Blk.allocp | with_reducible apply Blk.drew | with_reducible apply Blk.drewN)), by simp; omega, w64_wrap _, w64_wrap _⟩, by simp [intOf]⟩
        have hd := (hD3.out.call (w1 := v4) hB hB4).more (show n + 22 - 4 * (j + 1) + 2 + 2 ≤ n + 22 - 4 * j by omega)
        exact (by repeat (first | with_reducible assumption | (with_reducible apply Hid.out; assumption) | with_reducible apply Drw.drewN | with_reducible apply Drw.drew | with_reducible apply Drw.alloc | (with_reducible refine Drw.setp ?_ ?_ ?_ ?_; (first | omega | (simp <;> omega)); (first | omega | (simp <;> omega)); (first | omega | (simp <;> omega)))))
      · go_wp2_with (go_at_call 241; (with_reducible refine (foMul_any _ _ _ _ _ _ _ _ _).mono ?_); rintro e v4 ⟨rfl, hB4⟩; have hZ4 := hB4.size; (try simp at hZ4); (try have zl4 : w.heap.size < v4.heap.size := by omega); (try have ze4 : w.heap.size ≤ v4.heap.size := by omega); (try have zn4 : ¬ w.heap.size = v4.heap.size := by omega); (try have zm4 : ¬ v4.heap.size = w.heap.size := by omega); have hA4 : Blk v4 (w.heap.size) 49 #[.int .i64 0, .int .i64 0, .int .i64 0, .int .i64 0] := Blk.call (by (repeat (first | with_reducible assumption | (with_reducible apply Blk.new_at; (first | rfl | (simp; done))) | with_reducible apply Blk.store3 | with_reducible apply Blk.store4 | (with_reducible apply Blk.farp; (first | omega | (simp <;> omega))) | with_reducible apply Blk.allocp | with_reducible apply Blk.drew | with_reducible apply Blk.drewN))) hB4; have cA4 := hA4.cell; have fA4 := hA4.frozen; have lA4 := hA4.lt; have mA4 := Nat.ne_of_gt lA4; have nA4 := Nat.ne_of_lt lA4; have hM4 : Blk v4 (b1) 49 #[.int .i64 p, .int .i64 q, .int .i64 r, .int .i64 s] := Blk.call (by (repeat (first | with_reducible assumption | (with_reducible apply Blk.new_at; (first | rfl | (simp; done))) | with_reducible apply Blk.store3 | with_reducible apply Blk.store4 | (with_reducible apply Blk.farp; (first | omega | (simp <;> omega))) | with_reducible apply Blk.allocp | with_reducible apply Blk.drew | with_reducible apply Blk.drewN))) hB4; have cM4 := hM4.cell; have fM4 := hM4.frozen; have lM4 := hM4.lt; have mM4 := Nat.ne_of_gt lM4; have nM4 := Nat.ne_of_lt lM4)
        refine ⟨⟨j, mm p 1 q (x2 - 4), mm p 0 q 1, mm r 1 s (x2 - 4), mm r 0 s 1, rfl, by omega, Lib.hid ?_, by (repeat (first | with_reducible assumption | (with_reducible apply Blk.new_at; (first | rfl | (simp; done))) | with_reducible apply Blk.store3 | with_reducible apply Blk.store4 | (with_reducible apply Blk.farp; (first | omega | (simp <;> omega))) | with_reducible apply Blk.allocp | with_reducible apply Blk.drew | with_reducible apply Blk.drewN)), by (repeat (first | with_reducible assumption | (with_reducible apply Blk.new_at; (first | rfl | (simp; done))) | with_reducible apply Blk.store3 | with_reducible apply Blk.store4 | (with_reducible apply Blk.farp; (first | omega | (simp <;> omega))) | with_reducible apply Blk.allocp | with_reducible apply Blk.drew | with_reducible apply Blk.drewN)), by simp; omega, w64_wrap _, w64_wrap _⟩, by simp [intOf]⟩
        have hd := (hD3.out.call (w1 := v4) hB hB4).more (show n + 22 - 4 * (j + 1) + 2 + 2 ≤ n + 22 - 4 * j by omega)
        exact (by repeat (first | with_reducible assumption | (with_reducible apply Hid.out; assumption) | with_reducible apply Drw.drewN | with_reducible apply Drw.drew | with_reducible apply Drw.alloc | (with_reducible refine Drw.setp ?_ ?_ ?_ ?_; (first | omega | (simp <;> omega)); (first | omega | (simp <;> omega)); (first | omega | (simp <;> omega)))))
      · go_wp2_with (go_at_call 241; (with_reducible refine (foMul_any _ _ _ _ _ _ _ _ _).mono ?_); rintro e v4 ⟨rfl, hB4⟩; have hZ4 := hB4.size; (try simp at hZ4); (try have zl4 : w.heap.size < v4.heap.size := by omega); (try have ze4 : w.heap.size ≤ v4.heap.size := by omega); (try have zn4 : ¬ w.heap.size = v4.heap.size := by omega); (try have zm4 : ¬ v4.heap.size = w.heap.size := by omega); have hA4 : Blk v4 (w.heap.size) 49 #[.int .i64 0, .int .i64 0, .int .i64 0, .int .i64 0] := Blk.call (by (repeat (first | with_reducible assumption | (with_reducible apply Blk.new_at; (first | rfl | (simp; done))) | with_reducible apply Blk.store3 | with_reducible apply Blk.store4 | (with_reducible apply Blk.farp; (first | omega | (simp <;> omega))) | with_reducible apply Blk.allocp | with_reducible apply Blk.drew | with_reducible apply Blk.drewN))) hB4; have cA4 := hA4.cell; have fA4 := hA4.frozen; have lA4 := hA4.lt; have mA4 := Nat.ne_of_gt lA4; have nA4 := Nat.ne_of_lt lA4; have hM4 : Blk v4 (b1) 49 #[.int .i64 p, .int .i64 q, .int .i64 r, .int .i64 s] := Blk.call (by (repeat (first | with_reducible assumption | (with_reducible apply Blk.new_at; (first | rfl | (simp; done))) | with_reducible apply Blk.store3 | with_reducible apply Blk.store4 | (with_reducible apply Blk.farp; (first | omega | (simp <;> omega))) | with_reducible apply Blk.allocp | with_reducible apply Blk.drew | with_reducible apply Blk.drewN))) hB4; have cM4 := hM4.cell; have fM4 := hM4.frozen; have lM4 := hM4.lt; have mM4 := Nat.ne_of_gt lM4; have nM4 := Nat.ne_of_lt lM4)
        refine ⟨⟨j, mm p 0 q 1, mm p (-1) q 0, mm r 0 s 1, mm r (-1) s 0, rfl, by omega, Lib.hid ?_, by (repeat (first | with_reducible assumption | (with_reducible apply Blk.new_at; (first | rfl | (simp; done))) | with_reducible apply Blk.store3 | with_reducible apply Blk.store4 | (with_reducible apply Blk.farp; (first | omega | (simp <;> omega))) | with_reducible apply Blk.allocp | with_reducible apply Blk.drew | with_reducible apply Blk.drewN)), by (repeat (first | with_reducible assumption | (with_reducible apply Blk.new_at; (first | rfl | (simp; done))) | with_reducible apply Blk.store3 | with_reducible apply Blk.store4 | (with_reducible apply Blk.farp; (first | omega | (simp <;> omega))) | with_reducible apply Blk.allocp | with_reducible apply Blk.drew | with_reducible apply Blk.drewN)), by simp; omega, w64_wrap _, w64_wrap _⟩, by simp [intOf]⟩
        have hd := (hD3.out.call (w1 := v4) hB hB4).more (show n + 22 - 4 * (j + 1) + 2 + 2 ≤ n + 22 - 4 * j by omega)
        exact (by repeat (first | with_reducible assumption | (with_reducible apply Hid.out; assumption) | with_reducible apply Drw.drewN | with_reducible apply Drw.drew | with_reducible apply Drw.alloc | (with_reducible refine Drw.setp ?_ ?_ ?_ ?_; (first | omega | (simp <;> omega)); (first | omega | (simp <;> omega)); (first | omega | (simp <;> omega)))))
end
end

section
open Go.RowKit

set_option maxRecDepth 100000 in
set_option maxHeartbeats 3200000 in
theorem drawRep_any (zs : List Int) (v : Value) (B : Nat) (w : World) (hr : RdB zs v B w) (hB : B ≤ w.heap.size) :
    Calls Try.prog 69 #[v] w (fun e w' => ∃ d p : Int, e = .returned (.tuple #[.int .i64 d, .int .i64 p]) ∧ Below w.heap.size w w') := by
  obtain ⟨A, m, c, rfl⟩ := hr.shape
  have hD0 := Lib.hid (drw_start hr)
  clear hr
  go_enter Try.func69, Try.ntmps69
  go_wp2_with fail
  refine (disc_d (by repeat (first | with_reducible assumption | (with_reducible apply Hid.out; assumption) | with_reducible apply Drw.drewN | with_reducible apply Drw.drew | with_reducible apply Drw.alloc | (with_reducible refine Drw.setp ?_ ?_ ?_ ?_; (first | omega | (simp <;> omega)); (first | omega | (simp <;> omega)); (first | omega | (simp <;> omega))))) hB (by omega)).mono ?_
  rintro e v1 ⟨x1, rfl, hx1, hD1', hG1⟩
  have hD1 := Lib.hid hD1'
  clear hD1' hx1
  have hRD := Lib.hid (fun w => reDisc_any x1 w)
  cases hc : isDisc x1 with
  | false =>
    rw [hc] at hRD
    clear hc
    go_wp2_with (go_at_call 90; (with_reducible refine (hRD.out _).mono ?_); rintro e v ⟨rfl, rfl⟩)
    refine (pick_d (by repeat (first | with_reducible assumption | (with_reducible apply Hid.out; assumption) | with_reducible apply Drw.drewN | with_reducible apply Drw.drew | with_reducible apply Drw.alloc | (with_reducible refine Drw.setp ?_ ?_ ?_ ?_; (first | omega | (simp <;> omega)); (first | omega | (simp <;> omega)); (first | omega | (simp <;> omega))))) hB 400 (by omega) (by omega)).mono ?_
    rintro e v2 ⟨x2, rfl, hx2, hD2', hG2⟩
    have hb2 := below_cur (hG1.trans hG2)
    go_wp2
    go_ret2
    exact ⟨_, _, rfl, hb2⟩
  | true =>
    rw [hc] at hRD
    go_wp2_with (go_at_call 90; (with_reducible refine (hRD.out _).mono ?_); rintro e v ⟨rfl, rfl⟩)
    refine (one_d (by repeat (first | with_reducible assumption | (with_reducible apply Hid.out; assumption) | with_reducible apply Drw.drewN | with_reducible apply Drw.drew | with_reducible apply Drw.alloc | (with_reducible refine Drw.setp ?_ ?_ ?_ ?_; (first | omega | (simp <;> omega)); (first | omega | (simp <;> omega)); (first | omega | (simp <;> omega))))) hB 4 (by omega) (by omega)).mono ?_
    rintro e v2 ⟨x2, rfl, _, hD2', hG2⟩
    have hD2 := Lib.hid hD2'
    clear hD2' hD1
    cases x2 with
    | true =>
      go_wp2_with fail
      refine (pick_d (by repeat (first | with_reducible assumption | (with_reducible apply Hid.out; assumption) | with_reducible apply Drw.drewN | with_reducible apply Drw.drew | with_reducible apply Drw.alloc | (with_reducible refine Drw.setp ?_ ?_ ?_ ?_; (first | omega | (simp <;> omega)); (first | omega | (simp <;> omega)); (first | omega | (simp <;> omega))))) hB 400 (by omega) (by omega)).mono ?_
      rintro e v3 ⟨x3, rfl, hx3, hD3', hG3⟩
      have hb3 := below_cur ((hG1.trans hG2).trans hG3)
      go_wp2
      go_ret2
      exact ⟨_, _, rfl, hb3⟩
    | false =>
      go_wp2_with fail
      refine (reduced_d (by repeat (first | with_reducible assumption | (with_reducible apply Hid.out; assumption) | with_reducible apply Drw.drewN | with_reducible apply Drw.drew | with_reducible apply Drw.alloc | (with_reducible refine Drw.setp ?_ ?_ ?_ ?_; (first | omega | (simp <;> omega)); (first | omega | (simp <;> omega)); (first | omega | (simp <;> omega))))) hB (by omega) x1 hc).mono ?_
      rintro e v3 ⟨f3, rfl, _, hD3', hG3⟩
      have hD3 := Lib.hid hD3'
      clear hD3' hD2
      go_wp2_with fail
      refine (shown_d (by repeat (first | with_reducible assumption | (with_reducible apply Hid.out; assumption) | with_reducible apply Drw.drewN | with_reducible apply Drw.drew | with_reducible apply Drw.alloc | (with_reducible refine Drw.setp ?_ ?_ ?_ ?_; (first | omega | (simp <;> omega)); (first | omega | (simp <;> omega)); (first | omega | (simp <;> omega))))) hB (by omega) f3).mono ?_
      rintro e v4 ⟨x4, rfl, _, hD4', hG4⟩
      have hb4 := below_cur (((hG1.trans hG2).trans hG3).trans hG4)
      go_wp2
      go_ret2
      exact ⟨_, _, rfl, hb4⟩

set_option maxRecDepth 100000 in
set_option maxHeartbeats 3200000 in
theorem drawCf_any (zs : List Int) (v : Value) (B : Nat) (w : World) (hr : RdB zs v B w) (hB : B ≤ w.heap.size) :
    Calls Try.prog 75 #[v] w (fun e w' => ∃ (f : Fm) (x y : Int), e = .returned (.tuple #[.agg #[.int .i64 f.a, .int .i64 f.b, .int .i64 f.c], .int .i64 x, .int .i64 y]) ∧ (W64 x ∧ W64 y) ∧ Below w.heap.size w w') := by
  obtain ⟨A, m, c, rfl⟩ := hr.shape
  have hD0 := Lib.hid (drw_start2 (.cells #[.int .i64 0, .int .i64 0, .int .i64 0] 35) hr)
  have hB1 : B ≤ w.heap.size + 1 := by omega
  clear hr
  have hfin : Hid (∀ (a b c' x y : Int) (w' : World) (k : Nat), W64 x → W64 y → Drw zs (.slice A m c) B (w.heap.size + 1) k w w' → ∃ (f : Fm) (x' y' : Int), Ending.returned (.tuple #[.agg #[.int .i64 a, .int .i64 b, .int .i64 c'], .int .i64 x, .int .i64 y]) = .returned (.tuple #[.agg #[.int .i64 f.a, .int .i64 f.b, .int .i64 f.c], .int .i64 x', .int .i64 y']) ∧ (W64 x' ∧ W64 y') ∧ Below w.heap.size w w') :=
    Lib.hid (fun a b c' x y w' k h1 h2 h => ⟨⟨a, b, c'⟩, x, y, rfl, ⟨h1, h2⟩, below_cur2 h.gr⟩)
  go_enter Try.func75, Try.ntmps75
  go_wp2_with fail
  refine (valued_d (by repeat (first | with_reducible assumption | (with_reducible apply Hid.out; assumption) | with_reducible apply Drw.drewN | with_reducible apply Drw.drew | with_reducible apply Drw.alloc | (with_reducible refine Drw.setp ?_ ?_ ?_ ?_; (first | omega | (simp <;> omega)); (first | omega | (simp <;> omega)); (first | omega | (simp <;> omega))))) hB1 (by omega)).mono ?_
  rintro e v1 ⟨⟨f1, x1⟩, rfl, hx1, hD1', hG1⟩
  have hD1 := Lib.hid hD1'
  have lG1 := hD1'.lt
  have zG1 := hG1.size
  (try simp at zG1)
  have hR1 : Blk v1 (w.heap.size) 35 #[.int .i64 0, .int .i64 0, .int .i64 0] := Blk.grown (by (repeat (first | with_reducible assumption | (with_reducible apply Blk.new_at; (first | rfl | (simp; done))) | with_reducible apply Blk.store3 | with_reducible apply Blk.store4 | (with_reducible apply Blk.farp; (first | omega | (simp <;> omega))) | with_reducible apply Blk.allocp | with_reducible apply Blk.drew | with_reducible apply Blk.drewN))) hG1 (by simp <;> omega)
  have cR1 := hR1.cell; have fR1 := hR1.frozen; have lR1 := hR1.lt; have mR1 := Nat.ne_of_gt lR1; have nR1 := Nat.ne_of_lt lR1
  clear hD1' hG1
  go_wp2_with fail
  refine (proper_w (by repeat (first | with_reducible assumption | (with_reducible apply Hid.out; assumption) | with_reducible apply Drw.drewN | with_reducible apply Drw.drew | with_reducible apply Drw.alloc | (with_reducible refine Drw.setp ?_ ?_ ?_ ?_; (first | omega | (simp <;> omega)); (first | omega | (simp <;> omega)); (first | omega | (simp <;> omega))))) hB1 (by omega)).mono ?_
  rintro e v2 ⟨⟨m1, m2, m3, m4⟩, rfl, hx2, hD2', hG2⟩
  have hD2 := Lib.hid hD2'
  have lG2 := hD2'.lt
  have zG2 := hG2.size
  (try simp at zG2)
  have hR2 : Blk v2 (w.heap.size) 35 #[.int .i64 0, .int .i64 0, .int .i64 0] := Blk.grown (by (repeat (first | with_reducible assumption | (with_reducible apply Blk.new_at; (first | rfl | (simp; done))) | with_reducible apply Blk.store3 | with_reducible apply Blk.store4 | (with_reducible apply Blk.farp; (first | omega | (simp <;> omega))) | with_reducible apply Blk.allocp | with_reducible apply Blk.drew | with_reducible apply Blk.drewN))) hG2 (by simp <;> omega)
  have cR2 := hR2.cell; have fR2 := hR2.frozen; have lR2 := hR2.lt; have mR2 := Nat.ne_of_gt lR2; have nR2 := Nat.ne_of_lt lR2
  have hP2 : Blk v2 (v1.heap.size) 35 #[.int .i64 f1.a, .int .i64 f1.b, .int .i64 f1.c] := Blk.grown (by (repeat (first | with_reducible assumption | (with_reducible apply Blk.new_at; (first | rfl | (simp; done))) | with_reducible apply Blk.store3 | with_reducible apply Blk.store4 | (with_reducible apply Blk.farp; (first | omega | (simp <;> omega))) | with_reducible apply Blk.allocp | with_reducible apply Blk.drew | with_reducible apply Blk.drewN))) hG2 (by simp <;> omega)
  have cP2 := hP2.cell; have fP2 := hP2.frozen; have lP2 := hP2.lt; have mP2 := Nat.ne_of_gt lP2; have nP2 := Nat.ne_of_lt lP2
  clear hD2' hG2
  obtain ⟨hm1, hm3⟩ := hx2
  dsimp only at hm1 hm3
  clear hx1
  dsimp only
  go_wp2_with fail
  refine (pick_d (by repeat (first | with_reducible assumption | (with_reducible apply Hid.out; assumption) | with_reducible apply Drw.drewN | with_reducible apply Drw.drew | with_reducible apply Drw.alloc | (with_reducible refine Drw.setp ?_ ?_ ?_ ?_; (first | omega | (simp <;> omega)); (first | omega | (simp <;> omega)); (first | omega | (simp <;> omega))))) hB1 8 (by omega) (by omega)).mono ?_
  rintro e v3 ⟨x3, rfl, hx3, hD3', hG3⟩
  have hD3 := Lib.hid hD3'
  have lG3 := hD3'.lt
  have zG3 := hG3.size
  (try simp at zG3)
  have hR3 : Blk v3 (w.heap.size) 35 #[.int .i64 0, .int .i64 0, .int .i64 0] := Blk.grown (by (repeat (first | with_reducible assumption | (with_reducible apply Blk.new_at; (first | rfl | (simp; done))) | with_reducible apply Blk.store3 | with_reducible apply Blk.store4 | (with_reducible apply Blk.farp; (first | omega | (simp <;> omega))) | with_reducible apply Blk.allocp | with_reducible apply Blk.drew | with_reducible apply Blk.drewN))) hG3 (by simp <;> omega)
  have cR3 := hR3.cell; have fR3 := hR3.frozen; have lR3 := hR3.lt; have mR3 := Nat.ne_of_gt lR3; have nR3 := Nat.ne_of_lt lR3
  have hP3 : Blk v3 (v1.heap.size) 35 #[.int .i64 f1.a, .int .i64 f1.b, .int .i64 f1.c] := Blk.grown (by (repeat (first | with_reducible assumption | (with_reducible apply Blk.new_at; (first | rfl | (simp; done))) | with_reducible apply Blk.store3 | with_reducible apply Blk.store4 | (with_reducible apply Blk.farp; (first | omega | (simp <;> omega))) | with_reducible apply Blk.allocp | with_reducible apply Blk.drew | with_reducible apply Blk.drewN))) hG3 (by simp <;> omega)
  have cP3 := hP3.cell; have fP3 := hP3.frozen; have lP3 := hP3.lt; have mP3 := Nat.ne_of_gt lP3; have nP3 := Nat.ne_of_lt lP3
  have hM3 : Blk v3 (v2.heap.size) 49 #[.int .i64 m1, .int .i64 m2, .int .i64 m3, .int .i64 m4] := Blk.grown (by (repeat (first | with_reducible assumption | (with_reducible apply Blk.new_at; (first | rfl | (simp; done))) | with_reducible apply Blk.store3 | with_reducible apply Blk.store4 | (with_reducible apply Blk.farp; (first | omega | (simp <;> omega))) | with_reducible apply Blk.allocp | with_reducible apply Blk.drew | with_reducible apply Blk.drewN))) hG3 (by simp <;> omega)
  have cM3 := hM3.cell; have fM3 := hM3.frozen; have lM3 := hM3.lt; have mM3 := Nat.ne_of_gt lM3; have nM3 := Nat.ne_of_lt lM3
  clear hD3' hG3
  clear hD0 hD1 hD2
  by_cases e0 : x3 = 0
  · subst e0
    clear hx3
    go_wp2
    go_region_with (first | (go_at_call 179; refine (number_w (n := 0 + 72 + 22 + 2) (w0 := w) (by repeat (first | with_reducible assumption | (with_reducible apply Hid.out; assumption) | with_reducible apply Drw.drewN | with_reducible apply Drw.drew | with_reducible apply Drw.alloc | (with_reducible refine Drw.setp ?_ ?_ ?_ ?_; (first | omega | (simp <;> omega)); (first | omega | (simp <;> omega)); (first | omega | (simp <;> omega))))) hB1 (by omega)).mono ?_; rintro e v4 ⟨x4, rfl, hx4, hD4', hG4⟩; have hD4 := Lib.hid hD4'; have lG4 := hD4'.lt; have zG4 := hG4.size; (try simp at zG4); have hR4 : Blk v4 (w.heap.size) 35 #[.int .i64 0, .int .i64 0, .int .i64 0] := Blk.grown (by (repeat (first | with_reducible assumption | (with_reducible apply Blk.new_at; (first | rfl | (simp; done))) | with_reducible apply Blk.store3 | with_reducible apply Blk.store4 | (with_reducible apply Blk.farp; (first | omega | (simp <;> omega))) | with_reducible apply Blk.allocp | with_reducible apply Blk.drew | with_reducible apply Blk.drewN))) hG4 (by simp <;> omega); have cR4 := hR4.cell; have fR4 := hR4.frozen; have lR4 := hR4.lt; have mR4 := Nat.ne_of_gt lR4; have nR4 := Nat.ne_of_lt lR4; have hP4 : Blk v4 (v1.heap.size) 35 #[.int .i64 f1.a, .int .i64 f1.b, .int .i64 f1.c] := Blk.grown (by (repeat (first | with_reducible assumption | (with_reducible apply Blk.new_at; (first | rfl | (simp; done))) | with_reducible apply Blk.store3 | with_reducible apply Blk.store4 | (with_reducible apply Blk.farp; (first | omega | (simp <;> omega))) | with_reducible apply Blk.allocp | with_reducible apply Blk.drew | with_reducible apply Blk.drewN))) hG4 (by simp <;> omega); have cP4 := hP4.cell; have fP4 := hP4.frozen; have lP4 := hP4.lt; have mP4 := Nat.ne_of_gt lP4; have nP4 := Nat.ne_of_lt lP4; clear hD4' hG4) | (go_at_call 179; refine (number_w (n := 0 + 72 + 22 + 2 + 8) (w0 := w) (by repeat (first | with_reducible assumption | (with_reducible apply Hid.out; assumption) | with_reducible apply Drw.drewN | with_reducible apply Drw.drew | with_reducible apply Drw.alloc | (with_reducible refine Drw.setp ?_ ?_ ?_ ?_; (first | omega | (simp <;> omega)); (first | omega | (simp <;> omega)); (first | omega | (simp <;> omega))))) hB1 (by omega)).mono ?_; rintro e v5 ⟨x5, rfl, hx5, hD5', hG5⟩; have hD5 := Lib.hid hD5'; have lG5 := hD5'.lt; have zG5 := hG5.size; (try simp at zG5); have hR5 : Blk v5 (w.heap.size) 35 #[.int .i64 0, .int .i64 0, .int .i64 0] := Blk.grown (by (repeat (first | with_reducible assumption | (with_reducible apply Blk.new_at; (first | rfl | (simp; done))) | with_reducible apply Blk.store3 | with_reducible apply Blk.store4 | (with_reducible apply Blk.farp; (first | omega | (simp <;> omega))) | with_reducible apply Blk.allocp | with_reducible apply Blk.drew | with_reducible apply Blk.drewN))) hG5 (by simp <;> omega); have cR5 := hR5.cell; have fR5 := hR5.frozen; have lR5 := hR5.lt; have mR5 := Nat.ne_of_gt lR5; have nR5 := Nat.ne_of_lt lR5; have hP5 : Blk v5 (v1.heap.size) 35 #[.int .i64 f1.a, .int .i64 f1.b, .int .i64 f1.c] := Blk.grown (by (repeat (first | with_reducible assumption | (with_reducible apply Blk.new_at; (first | rfl | (simp; done))) | with_reducible apply Blk.store3 | with_reducible apply Blk.store4 | (with_reducible apply Blk.farp; (first | omega | (simp <;> omega))) | with_reducible apply Blk.allocp | with_reducible apply Blk.drew | with_reducible apply Blk.drewN))) hG5 (by simp <;> omega); have cP5 := hP5.cell; have fP5 := hP5.frozen; have lP5 := hP5.lt; have mP5 := Nat.ne_of_gt lP5; have nP5 := Nat.ne_of_lt lP5; clear hD5' hG5))
    all_goals
      go_wp2
      exact bodyPost_ret (v := .tuple #[.agg #[.int .i64 f1.a, .int .i64 f1.b, .int .i64 f1.c], .int .i64 x4, .int .i64 x5]) (by simp [results, Try.results75, go_sem, *]) rfl (hfin.out _ _ _ _ _ _ _ hx4 hx5 (Drw.more (n := 0 + 72 + 22 + 2 + 8 + 8) (by repeat (first | with_reducible assumption | (with_reducible apply Hid.out; assumption) | with_reducible apply Drw.drewN | with_reducible apply Drw.drew | with_reducible apply Drw.alloc | (with_reducible refine Drw.setp ?_ ?_ ?_ ?_; (first | omega | (simp <;> omega)); (first | omega | (simp <;> omega)); (first | omega | (simp <;> omega))))) (Nat.le_refl _)))
  · have n0 : (x3 == 0) = false := by rw [beq_eq_false_iff_ne]; exact e0
    by_cases e1 : x3 = 1
    · subst e1
      clear hx3
      go_wp2
      go_region_with (first | (go_at_call 124; refine (pick_d (n := 0 + 72 + 22 + 2) (w0 := w) (by repeat (first | with_reducible assumption | (with_reducible apply Hid.out; assumption) | with_reducible apply Drw.drewN | with_reducible apply Drw.drew | with_reducible apply Drw.alloc | (with_reducible refine Drw.setp ?_ ?_ ?_ ?_; (first | omega | (simp <;> omega)); (first | omega | (simp <;> omega)); (first | omega | (simp <;> omega))))) hB1 2001 (by omega) (by omega)).mono ?_; rintro e v4 ⟨x4, rfl, hx4, hD4', hG4⟩; have hD4 := Lib.hid hD4'; have lG4 := hD4'.lt; have zG4 := hG4.size; (try simp at zG4); have hR4 : Blk v4 (w.heap.size) 35 #[.int .i64 0, .int .i64 0, .int .i64 0] := Blk.grown (by (repeat (first | with_reducible assumption | (with_reducible apply Blk.new_at; (first | rfl | (simp; done))) | with_reducible apply Blk.store3 | with_reducible apply Blk.store4 | (with_reducible apply Blk.farp; (first | omega | (simp <;> omega))) | with_reducible apply Blk.allocp | with_reducible apply Blk.drew | with_reducible apply Blk.drewN))) hG4 (by simp <;> omega); have cR4 := hR4.cell; have fR4 := hR4.frozen; have lR4 := hR4.lt; have mR4 := Nat.ne_of_gt lR4; have nR4 := Nat.ne_of_lt lR4; have hP4 : Blk v4 (v1.heap.size) 35 #[.int .i64 f1.a, .int .i64 f1.b, .int .i64 f1.c] := Blk.grown (by (repeat (first | with_reducible assumption | (with_reducible apply Blk.new_at; (first | rfl | (simp; done))) | with_reducible apply Blk.store3 | with_reducible apply Blk.store4 | (with_reducible apply Blk.farp; (first | omega | (simp <;> omega))) | with_reducible apply Blk.allocp | with_reducible apply Blk.drew | with_reducible apply Blk.drewN))) hG4 (by simp <;> omega); have cP4 := hP4.cell; have fP4 := hP4.frozen; have lP4 := hP4.lt; have mP4 := Nat.ne_of_gt lP4; have nP4 := Nat.ne_of_lt lP4; clear hD4' hG4) | (go_at_call 124; refine (pick_d (n := 0 + 72 + 22 + 2 + 2) (w0 := w) (by repeat (first | with_reducible assumption | (with_reducible apply Hid.out; assumption) | with_reducible apply Drw.drewN | with_reducible apply Drw.drew | with_reducible apply Drw.alloc | (with_reducible refine Drw.setp ?_ ?_ ?_ ?_; (first | omega | (simp <;> omega)); (first | omega | (simp <;> omega)); (first | omega | (simp <;> omega))))) hB1 2001 (by omega) (by omega)).mono ?_; rintro e v5 ⟨x5, rfl, hx5, hD5', hG5⟩; have hD5 := Lib.hid hD5'; have lG5 := hD5'.lt; have zG5 := hG5.size; (try simp at zG5); have hR5 : Blk v5 (w.heap.size) 35 #[.int .i64 0, .int .i64 0, .int .i64 0] := Blk.grown (by (repeat (first | with_reducible assumption | (with_reducible apply Blk.new_at; (first | rfl | (simp; done))) | with_reducible apply Blk.store3 | with_reducible apply Blk.store4 | (with_reducible apply Blk.farp; (first | omega | (simp <;> omega))) | with_reducible apply Blk.allocp | with_reducible apply Blk.drew | with_reducible apply Blk.drewN))) hG5 (by simp <;> omega); have cR5 := hR5.cell; have fR5 := hR5.frozen; have lR5 := hR5.lt; have mR5 := Nat.ne_of_gt lR5; have nR5 := Nat.ne_of_lt lR5; have hP5 : Blk v5 (v1.heap.size) 35 #[.int .i64 f1.a, .int .i64 f1.b, .int .i64 f1.c] := Blk.grown (by (repeat (first | with_reducible assumption | (with_reducible apply Blk.new_at; (first | rfl | (simp; done))) | with_reducible apply Blk.store3 | with_reducible apply Blk.store4 | (with_reducible apply Blk.farp; (first | omega | (simp <;> omega))) | with_reducible apply Blk.allocp | with_reducible apply Blk.drew | with_reducible apply Blk.drewN))) hG5 (by simp <;> omega); have cP5 := hP5.cell; have fP5 := hP5.frozen; have lP5 := hP5.lt; have mP5 := Nat.ne_of_gt lP5; have nP5 := Nat.ne_of_lt lP5; clear hD5' hG5))
      all_goals
        go_wp2
        have k4 : IntKind.i64.wrap (x4 - 1000) = x4 - 1000 := IntWalk.i64_in _ (by omega)
        have k5 : IntKind.i64.wrap (x5 - 1000) = x5 - 1000 := IntWalk.i64_in _ (by omega)
        exact bodyPost_ret (v := .tuple #[.agg #[.int .i64 f1.a, .int .i64 f1.b, .int .i64 f1.c], .int .i64 (x4 - 1000), .int .i64 (x5 - 1000)]) (by simp [results, Try.results75, go_sem, *]) rfl (hfin.out _ _ _ _ _ _ _ (by unfold W64; omega) (by unfold W64; omega) (Drw.more (n := 0 + 72 + 22 + 2 + 2 + 2) (by repeat (first | with_reducible assumption | (with_reducible apply Hid.out; assumption) | with_reducible apply Drw.drewN | with_reducible apply Drw.drew | with_reducible apply Drw.alloc | (with_reducible refine Drw.setp ?_ ?_ ?_ ?_; (first | omega | (simp <;> omega)); (first | omega | (simp <;> omega)); (first | omega | (simp <;> omega))))) (Nat.le_refl _)))
    · have n1 : (x3 == 1) = false := by rw [beq_eq_false_iff_ne]; exact e1
      clear hx3 e0 e1
      go_wp2
      go_region
      all_goals go_wp2
      all_goals
        exact bodyPost_ret (v := .tuple #[.agg #[.int .i64 f1.a, .int .i64 f1.b, .int .i64 f1.c], .int .i64 m1, .int .i64 m3]) (by simp [results, Try.results75, go_sem, *]) rfl (hfin.out _ _ _ _ _ _ _ hm1 hm3 (Drw.more (n := 0 + 72 + 22 + 2) (by repeat (first | with_reducible assumption | (with_reducible apply Hid.out; assumption) | with_reducible apply Drw.drewN | with_reducible apply Drw.drew | with_reducible apply Drw.alloc | (with_reducible refine Drw.setp ?_ ?_ ?_ ?_; (first | omega | (simp <;> omega)); (first | omega | (simp <;> omega)); (first | omega | (simp <;> omega))))) (Nat.le_refl _)))
end
end Go.Proofs.Yteicampphegolaa
