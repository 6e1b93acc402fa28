/- Parts RV RW RW2 laid together by tp.py. -/
import Derived.Test.YtohgccgbbipjjaaGreatDZ
import Derived.Test.YtohgccgbbipjjaaGreatUA
import Derived.Test.YtohgccgbbipjjaaGreatRL
import Derived.Deep.RegionHeld3
import Derived.Test.YtohgccgbbipjjaaGreatDK
namespace Go.Proofs.YtohgccgbbipjjaaGreat
section
open Go.RowKit

/-- A proper matrix before k more steps. -/
structure Pm (k : Nat) (p q r s : Int) : Prop where
  p0 : p.natAbs ≤ 5 ^ (5 - k)
  q0 : q.natAbs ≤ 5 ^ (5 - k)
  r0 : r.natAbs ≤ 5 ^ (5 - k)
  s0 : s.natAbs ≤ 5 ^ (5 - k)
  det : p * s - q * r = 1
theorem Pm.one (k : Nat) : Pm k 1 0 0 1 := by
  have h : 1 ≤ 5 ^ (5 - k) := Nat.one_le_pow _ _ (by decide)
  exact ⟨h, Nat.zero_le _, Nat.zero_le _, h, by decide⟩
theorem mm_eq {a b c d : Int} (ha : a.natAbs ≤ 625) (hc : c.natAbs ≤ 625) (hb : -4 ≤ b ∧ b ≤ 4) (hd : -4 ≤ d ∧ d ≤ 4) : mm a b c d = a * b + c * d := by
  unfold mm
  have m1 := mul_bd (a := b) (x := a) (A := 4) (X := 625) (by omega) (by omega) (by omega) (by omega)
  have m2 := mul_bd (a := d) (x := c) (A := 4) (X := 625) (by omega) (by omega) (by omega) (by omega)
  rw [Int.mul_comm b a] at m1
  rw [Int.mul_comm d c] at m2
  rw [IntWalk.wrap64_in (a * b) (by omega), IntWalk.wrap64_in (c * d) (by omega), IntWalk.wrap64_in _ (by omega)]
theorem pm_pow {j : Nat} (hj : j + 1 ≤ 5) : 5 ^ (5 - j) = 5 * 5 ^ (5 - (j + 1)) ∧ 5 ^ (5 - (j + 1)) ≤ 625 := by
  rcases (show j = 0 ∨ j = 1 ∨ j = 2 ∨ j = 3 ∨ j = 4 by omega) with rfl | rfl | rfl | rfl | rfl <;> decide
theorem pm_lin {x y t : Int} {N : Nat} (hx : x.natAbs ≤ N) (hy : y.natAbs ≤ N) (ht : -4 ≤ t ∧ t ≤ 4) : (x * t + y).natAbs ≤ 5 * N ∧ (x + y * t).natAbs ≤ 5 * N := by
  have h1 : (x * t).natAbs ≤ N * 4 := by rw [Int.natAbs_mul]; exact Nat.mul_le_mul hx (by omega)
  have h2 : (y * t).natAbs ≤ N * 4 := by rw [Int.natAbs_mul]; exact Nat.mul_le_mul hy (by omega)
  omega
section
variable {j : Nat} {p q r s t : Int}
theorem Pm.t1 (h : Pm (j + 1) p q r s) (hj : j + 1 ≤ 5) (ht : -4 ≤ t ∧ t ≤ 4) : Pm j (mm p 1 q 0) (mm p t q 1) (mm r 1 s 0) (mm r t s 1) := by
  obtain ⟨e1, e2⟩ := pm_pow hj
  obtain ⟨h1, h2, h3, h4, h5⟩ := h
  rw [mm_eq (by omega) (by omega) (by omega) (by omega), mm_eq (by omega) (by omega) (by omega) (by omega), mm_eq (by omega) (by omega) (by omega) (by omega), mm_eq (by omega) (by omega) (by omega) (by omega)]
  simp only [Int.mul_one, Int.mul_zero, Int.add_zero]
  exact ⟨by omega, by rw [e1]; exact (pm_lin h1 h2 ht).1, by omega, by rw [e1]; exact (pm_lin h3 h4 ht).1, by rw [← h5]; grind⟩
theorem Pm.t2 (h : Pm (j + 1) p q r s) (hj : j + 1 ≤ 5) (ht : -4 ≤ t ∧ t ≤ 4) : Pm j (mm p 1 q t) (mm p 0 q 1) (mm r 1 s t) (mm r 0 s 1) := by
  obtain ⟨e1, e2⟩ := pm_pow hj
  obtain ⟨h1, h2, h3, h4, h5⟩ := h
  rw [mm_eq (by omega) (by omega) (by omega) (by omega), mm_eq (by omega) (by omega) (by omega) (by omega), mm_eq (by omega) (by omega) (by omega) (by omega), mm_eq (by omega) (by omega) (by omega) (by omega)]
  simp only [Int.mul_one, Int.mul_zero, Int.zero_add]
  exact ⟨by rw [e1]; exact (pm_lin h1 h2 ht).2, by omega, by rw [e1]; exact (pm_lin h3 h4 ht).2, by omega, by rw [← h5]; grind⟩
theorem Pm.t3 (h : Pm (j + 1) p q r s) (hj : j + 1 ≤ 5) : Pm j (mm p 0 q 1) (mm p (-1) q 0) (mm r 0 s 1) (mm r (-1) s 0) := by
  obtain ⟨e1, e2⟩ := pm_pow hj
  obtain ⟨h1, h2, h3, h4, h5⟩ := h
  rw [mm_eq (by omega) (by omega) (by omega) (by omega), mm_eq (by omega) (by omega) (by omega) (by omega), mm_eq (by omega) (by omega) (by omega) (by omega), mm_eq (by omega) (by omega) (by omega) (by omega)]
  simp only [Int.mul_one, Int.mul_zero, Int.zero_add, Int.add_zero]
  exact ⟨by omega, by omega, by omega, by omega, by rw [← h5]; grind⟩
end
theorem atW_pos {a b c p q r s : Int} (h : Pm 0 p q r s) (ha : 1 ≤ a ∧ a ≤ 26) (hb : -26 ≤ b ∧ b ≤ 26) (hc : 1 ≤ c ∧ c ≤ 1000) (hd : b * b - 4 * a * c < 0) : 1 ≤ atW a b c p r := by
  obtain ⟨h1, h2, h3, h4, h5⟩ := h
  simp at h1 h3
  have m1 := mul_bd (a := a) (x := p) (A := 26) (X := 3125) (by omega) (by omega) (by omega) (by omega)
  have m2 := mul_bd (a := a * p) (x := p) (A := 81250) (X := 3125) (by omega) (by omega) (by omega) (by omega)
  have m3 := mul_bd (a := b) (x := p) (A := 26) (X := 3125) (by omega) (by omega) (by omega) (by omega)
  have m4 := mul_bd (a := b * p) (x := r) (A := 81250) (X := 3125) (by omega) (by omega) (by omega) (by omega)
  have m5 := mul_bd (a := c) (x := r) (A := 1000) (X := 3125) (by omega) (by omega) (by omega) (by omega)
  have m6 := mul_bd (a := c * r) (x := r) (A := 3125000) (X := 3125) (by omega) (by omega) (by omega) (by omega)
  unfold atW
  rw [IntWalk.wrap64_in (a * p) (by omega), IntWalk.wrap64_in (a * p * p) (by omega), IntWalk.wrap64_in (b * p) (by omega), IntWalk.wrap64_in (b * p * r) (by omega), IntWalk.wrap64_in (c * r) (by omega), IntWalk.wrap64_in (c * r * r) (by omega), IntWalk.wrap64_in (a * p * p + b * p * r) (by omega), IntWalk.wrap64_in _ (by omega)]
  apply Classical.byContradiction
  intro hn
  have k1 : 4 * a * (a * p * p + b * p * r + c * r * r) = (2 * a * p + b * r) * (2 * a * p + b * r) + (4 * a * c - b * b) * (r * r) := by grind
  have k2 : 0 ≤ (2 * a * p + b * r) * (2 * a * p + b * r) := by
    rcases Int.le_total 0 (2 * a * p + b * r) with h | h
    · exact Int.mul_nonneg h h
    · exact Int.mul_nonneg_of_nonpos_of_nonpos h h
  have k3 : 4 * a * (a * p * p + b * p * r + c * r * r) ≤ 0 := Int.mul_nonpos_of_nonneg_of_nonpos (by omega) (by omega)
  have k4 : 0 ≤ r * r := by
    rcases Int.le_total 0 r with h | h
    · exact Int.mul_nonneg h h
    · exact Int.mul_nonneg_of_nonpos_of_nonpos h h
  have k5 : 0 ≤ (4 * a * c - b * b) * (r * r) := Int.mul_nonneg (by omega) k4
  have k6 : (4 * a * c - b * b) * (r * r) = 0 := by omega
  have k7 : r = 0 := by
    rcases Int.mul_eq_zero.1 k6 with h | h
    · omega
    · rcases Int.mul_eq_zero.1 h with h | h <;> exact h
  subst k7
  have k8 : (2 * a * p) * (2 * a * p) = 0 := by
    have : (2 * a * p + b * 0) * (2 * a * p + b * 0) = 0 := by omega
    rw [Int.mul_zero, Int.add_zero] at this; exact this
  have k9 : p = 0 := by
    rcases Int.mul_eq_zero.1 k8 with h | h <;> (rcases Int.mul_eq_zero.1 h with h | h <;> omega)
  subst k9
  simp at h5
theorem isFm_a {a b c : Int} (h : isFm a b c = true) : a ≤ 1000000 := by
  unfold isFm at h
  simp only [Bool.and_eq_true] at h
  exact ((isNum_iff a).1 h.1).2
section
variable {zs : List Int} {v : Value} {B G n m : Nat} {w0 w w1 w2 : World}
/-- The loop of a drawn matrix. -/
def PrSt2 (zs : List Int) (v : Value) (B G n : Nat) (w : World) (b1 : Nat) (vk : Value) (wr : World) : Prop :=
  ∃ (k : Nat) (p q r s : Int), vk = .int .i64 k ∧ k ≤ 5 ∧ Hid (Drw zs v B G (n + 22 - 4 * k) w wr) ∧ Blk wr w.heap.size 87 #[.int .i64 0, .int .i64 0, .int .i64 0, .int .i64 0] ∧
    Blk wr b1 87 #[.int .i64 p, .int .i64 q, .int .i64 r, .int .i64 s] ∧ b1 < wr.heap.size ∧ Hid (Pm k p q r s)

set_option maxRecDepth 100000 in
set_option maxHeartbeats 1600000 in
theorem proper2_d (h : Drw zs v B G n w0 w) (hB : B ≤ G) (hn : n + 22 ≤ 100000000) :
    Calls Tryz.prog 125 #[.pointer (some ⟨G, 0, none⟩)] w fun e w' => ∃ x : Int × Int × Int × Int, e = .returned (.agg #[.int .i64 x.1, .int .i64 x.2.1, .int .i64 x.2.2.1, .int .i64 x.2.2.2]) ∧ Pm 0 x.1 x.2.1 x.2.2.1 x.2.2.2 ∧ Drw zs v B G (n + 22) w0 w' ∧ w.grownBy w' (some G) := by
  have H := Lib.hid h
  have lG0 := h.lt
  have hD0 := Lib.hid (Drw.start h.rd h.cur)
  clear h
  have hfin : Hid (∀ (x y z t : Int) (w' : World), Pm 0 x y z t → Drw zs v B G (n + 22) w w' → ∃ f : Int × Int × Int × Int, Ending.returned (.agg #[.int .i64 x, .int .i64 y, .int .i64 z, .int .i64 t]) = .returned (.agg #[.int .i64 f.1, .int .i64 f.2.1, .int .i64 f.2.2.1, .int .i64 f.2.2.2]) ∧ Pm 0 f.1 f.2.1 f.2.2.1 f.2.2.2 ∧ Drw zs v B G (n + 22) w0 w' ∧ w.grownBy w' (some G)) :=
    Lib.hid (fun x y z t w' hp hd => ⟨(x, y, z, t), rfl, hp, H.out.next hB hd.cur hd.gr, hd.gr⟩)
  go_enter Tryz.func125, Tryz.ntmps125
  go_wp2_with fail
  refine (pick_d (by repeat (first | with_reducible assumption | (with_reducible apply Hid.out; assumption) | with_reducible apply Drw.drewN | with_reducible apply Drw.drew | with_reducible apply Drw.alloc | (with_reducible refine Drw.setp ?_ ?_ ?_ ?_; (first | omega | (simp <;> omega)); (first | omega | (simp <;> omega)); (first | omega | (simp <;> omega))))) hB 6 (by omega) (by omega)).mono ?_
  rintro e v1 ⟨x1, rfl, hx1, hD1', hG1⟩
  have hD1 := Lib.hid hD1'
  have lG1 := hD1'.lt
  have zG1 := hG1.size
  (try simp at zG1)
  have hA1 : Blk v1 (w.heap.size) 87 #[.int .i64 0, .int .i64 0, .int .i64 0, .int .i64 0] := Blk.grown (by (repeat (first | with_reducible assumption | (with_reducible apply Blk.new_at; (first | rfl | (simp; done))) | with_reducible apply Blk.store3 | with_reducible apply Blk.store4 | (with_reducible apply Blk.farp; (first | omega | (simp <;> omega))) | with_reducible apply Blk.allocp | with_reducible apply Blk.drew | with_reducible apply Blk.drewN))) hG1 (by simp; omega)
  have cA1 := hA1.cell; have fA1 := hA1.frozen; have lA1 := hA1.lt; have mA1 := Nat.ne_of_gt lA1; have nA1 := Nat.ne_of_lt lA1
  have hM1 : Blk v1 (w.heap.size + 1) 87 #[.int .i64 1, .int .i64 0, .int .i64 0, .int .i64 1] := Blk.grown (by (repeat (first | with_reducible assumption | (with_reducible apply Blk.new_at; (first | rfl | (simp; done))) | with_reducible apply Blk.store3 | with_reducible apply Blk.store4 | (with_reducible apply Blk.farp; (first | omega | (simp <;> omega))) | with_reducible apply Blk.allocp | with_reducible apply Blk.drew | with_reducible apply Blk.drewN))) hG1 (by simp; omega)
  have cM1 := hM1.cell; have fM1 := hM1.frozen; have lM1 := hM1.lt; have mM1 := Nat.ne_of_gt lM1; have nM1 := Nat.ne_of_lt lM1
  clear hD1' hG1
  obtain ⟨k1, rfl⟩ : ∃ k : Nat, x1 = k := ⟨x1.toNat, by omega⟩
  obtain ⟨b1, hb1⟩ : ∃ b : Nat, b = w.heap.size + 1 := ⟨_, rfl⟩
  rw [← hb1] at hM1 lM1
  go_wp2
  rw [← hb1]
  have hb2 : w.heap.size < b1 := by omega
  have hb3 : ¬ w.heap.size = b1 := by omega
  have hb4 : ¬ b1 = w.heap.size := by omega
  clear cA1 fA1 cM1 fM1 hb1
  go_loopw [4] (fun vk wr => PrSt2 zs v B G n w b1 vk wr) (fun vk _ => (intOf vk).toNat)
  case atStart => exact ⟨k1, 1, 0, 0, 1, rfl, by omega, Lib.hid (hD1.out.more (by omega)), hA1, hM1, lM1, Lib.hid (Pm.one _)⟩
  case round =>
    obtain ⟨k, p, q, r, s, rfl, hk, hD, hA, hM, hlt, hP⟩ := hrel
    have cM := hM.cell; have fM := hM.frozen; have cA := hA.cell; have fA := hA.frozen
    have lG := hD.out.lt
    have ln := Nat.ne_of_gt hlt
    by_cases hk0 : k = 0
    · subst hk0
      go_wp2
      exact bodyPost_ret (v := .agg #[.int .i64 p, .int .i64 q, .int .i64 r, .int .i64 s]) (by simp [results, Tryz.results125, go_sem, *]) rfl (hfin.out _ _ _ _ _ hP.out (by have hd := hD.out.more (show n + 22 - 4 * 0 ≤ n + 22 by omega); clear hD hD1 hD0; exact (by repeat (first | with_reducible assumption | (with_reducible apply Hid.out; assumption) | with_reducible apply Drw.drewN | with_reducible apply Drw.drew | with_reducible apply Drw.alloc | (with_reducible refine Drw.setp ?_ ?_ ?_ ?_; (first | omega | (simp <;> omega)); (first | omega | (simp <;> omega)); (first | omega | (simp <;> omega)))))))
    · obtain ⟨j, rfl⟩ : ∃ j, k = j + 1 := ⟨k - 1, by omega⟩
      have hk1 : 0 < ((j + 1 : Nat) : Int) := by omega
      have hk2 : wrap64 (((j + 1 : Nat) : Int) - 1) = (j : Int) := by rw [IntWalk.wrap64_in _ (by omega)]; omega
      go_wp2_with fail
      refine (pick_d (w0 := w) (n := n + 22 - 4 * (j + 1)) hD.out hB 9 (by omega) (by omega)).mono ?_
      rintro e v2 ⟨x2, rfl, hx2, hD2', hG2⟩
      have hD2 := Lib.hid hD2'
      have hA2 := hA.grown hG2 (by simp; omega)
      have hM2 := hM.grown hG2 (by simp; omega)
      have zG2 := hG2.size
      clear cM fM cA fA hD2' hG2 hA hM
      go_wp2_with fail
      refine (pick_d (w0 := w) (Hid.out hD2) hB 3 (by omega) (by omega)).mono ?_
      rintro e v3 ⟨x3, rfl, hx3, hD3', hG3⟩
      have hD3 := Lib.hid hD3'
      have hA3 := hA2.grown hG3 (by simp; omega)
      have hM3 := hM2.grown hG3 (by simp; omega)
      have zG3 := hG3.size
      have cM := hM3.cell; have fM := hM3.frozen; have cA := hA3.cell; have fA := hA3.frozen
      have lM := hM3.lt
      have lG3 := hD3'.lt
      clear hD3' hG3 hA2 hM2
      have e3 : x3 = 0 ∨ x3 = 1 ∨ x3 = 2 := by omega
      clear hx3
      clear hA1 hM1 lM1 hD1 hD hlt ln
      rcases e3 with rfl | rfl | rfl
      · go_wp2_with (go_at_call 116; (with_reducible refine (foMul_any _ _ _ _ _ _ _ _ _).mono ?_); rintro e v4 ⟨rfl, hB4⟩; have hZ4 := hB4.size; (try simp at hZ4); (try have zl4 : w.heap.size < v4.heap.size := by omega); (try have ze4 : w.heap.size ≤ v4.heap.size := by omega); (try have zn4 : ¬ w.heap.size = v4.heap.size := by omega); (try have zm4 : ¬ v4.heap.size = w.heap.size := by omega); have hA4 : Blk v4 (w.heap.size) 87 #[.int .i64 0, .int .i64 0, .int .i64 0, .int .i64 0] := Blk.call (by (repeat (first | with_reducible assumption | (with_reducible apply Blk.new_at; (first | rfl | (simp; done))) | with_reducible apply Blk.store3 | with_reducible apply Blk.store4 | (with_reducible apply Blk.farp; (first | omega | (simp <;> omega))) | with_reducible apply Blk.allocp | with_reducible apply Blk.drew | with_reducible apply Blk.drewN))) hB4; have cA4 := hA4.cell; have fA4 := hA4.frozen; have lA4 := hA4.lt; have mA4 := Nat.ne_of_gt lA4; have nA4 := Nat.ne_of_lt lA4; have hM4 : Blk v4 (b1) 87 #[.int .i64 p, .int .i64 q, .int .i64 r, .int .i64 s] := Blk.call (by (repeat (first | with_reducible assumption | (with_reducible apply Blk.new_at; (first | rfl | (simp; done))) | with_reducible apply Blk.store3 | with_reducible apply Blk.store4 | (with_reducible apply Blk.farp; (first | omega | (simp <;> omega))) | with_reducible apply Blk.allocp | with_reducible apply Blk.drew | with_reducible apply Blk.drewN))) hB4; have cM4 := hM4.cell; have fM4 := hM4.frozen; have lM4 := hM4.lt; have mM4 := Nat.ne_of_gt lM4; have nM4 := Nat.ne_of_lt lM4)
        refine ⟨⟨j, mm p 1 q 0, mm p (x2 - 4) q 1, mm r 1 s 0, mm r (x2 - 4) s 1, rfl, by omega, Lib.hid ?_, by (repeat (first | with_reducible assumption | (with_reducible apply Blk.new_at; (first | rfl | (simp; done))) | with_reducible apply Blk.store3 | with_reducible apply Blk.store4 | (with_reducible apply Blk.farp; (first | omega | (simp <;> omega))) | with_reducible apply Blk.allocp | with_reducible apply Blk.drew | with_reducible apply Blk.drewN)), by (repeat (first | with_reducible assumption | (with_reducible apply Blk.new_at; (first | rfl | (simp; done))) | with_reducible apply Blk.store3 | with_reducible apply Blk.store4 | (with_reducible apply Blk.farp; (first | omega | (simp <;> omega))) | with_reducible apply Blk.allocp | with_reducible apply Blk.drew | with_reducible apply Blk.drewN)), by simp; omega, Lib.hid (Pm.t1 hP.out hk ⟨by omega, by omega⟩)⟩, by simp [intOf]⟩
        have hd := (hD3.out.call (w1 := v4) hB hB4).more (show n + 22 - 4 * (j + 1) + 2 + 2 ≤ n + 22 - 4 * j by omega)
        exact (by repeat (first | with_reducible assumption | (with_reducible apply Hid.out; assumption) | with_reducible apply Drw.drewN | with_reducible apply Drw.drew | with_reducible apply Drw.alloc | (with_reducible refine Drw.setp ?_ ?_ ?_ ?_; (first | omega | (simp <;> omega)); (first | omega | (simp <;> omega)); (first | omega | (simp <;> omega)))))
      · go_wp2_with (go_at_call 116; (with_reducible refine (foMul_any _ _ _ _ _ _ _ _ _).mono ?_); rintro e v4 ⟨rfl, hB4⟩; have hZ4 := hB4.size; (try simp at hZ4); (try have zl4 : w.heap.size < v4.heap.size := by omega); (try have ze4 : w.heap.size ≤ v4.heap.size := by omega); (try have zn4 : ¬ w.heap.size = v4.heap.size := by omega); (try have zm4 : ¬ v4.heap.size = w.heap.size := by omega); have hA4 : Blk v4 (w.heap.size) 87 #[.int .i64 0, .int .i64 0, .int .i64 0, .int .i64 0] := Blk.call (by (repeat (first | with_reducible assumption | (with_reducible apply Blk.new_at; (first | rfl | (simp; done))) | with_reducible apply Blk.store3 | with_reducible apply Blk.store4 | (with_reducible apply Blk.farp; (first | omega | (simp <;> omega))) | with_reducible apply Blk.allocp | with_reducible apply Blk.drew | with_reducible apply Blk.drewN))) hB4; have cA4 := hA4.cell; have fA4 := hA4.frozen; have lA4 := hA4.lt; have mA4 := Nat.ne_of_gt lA4; have nA4 := Nat.ne_of_lt lA4; have hM4 : Blk v4 (b1) 87 #[.int .i64 p, .int .i64 q, .int .i64 r, .int .i64 s] := Blk.call (by (repeat (first | with_reducible assumption | (with_reducible apply Blk.new_at; (first | rfl | (simp; done))) | with_reducible apply Blk.store3 | with_reducible apply Blk.store4 | (with_reducible apply Blk.farp; (first | omega | (simp <;> omega))) | with_reducible apply Blk.allocp | with_reducible apply Blk.drew | with_reducible apply Blk.drewN))) hB4; have cM4 := hM4.cell; have fM4 := hM4.frozen; have lM4 := hM4.lt; have mM4 := Nat.ne_of_gt lM4; have nM4 := Nat.ne_of_lt lM4)
        refine ⟨⟨j, mm p 1 q (x2 - 4), mm p 0 q 1, mm r 1 s (x2 - 4), mm r 0 s 1, rfl, by omega, Lib.hid ?_, by (repeat (first | with_reducible assumption | (with_reducible apply Blk.new_at; (first | rfl | (simp; done))) | with_reducible apply Blk.store3 | with_reducible apply Blk.store4 | (with_reducible apply Blk.farp; (first | omega | (simp <;> omega))) | with_reducible apply Blk.allocp | with_reducible apply Blk.drew | with_reducible apply Blk.drewN)), by (repeat (first | with_reducible assumption | (with_reducible apply Blk.new_at; (first | rfl | (simp; done))) | with_reducible apply Blk.store3 | with_reducible apply Blk.store4 | (with_reducible apply Blk.farp; (first | omega | (simp <;> omega))) | with_reducible apply Blk.allocp | with_reducible apply Blk.drew | with_reducible apply Blk.drewN)), by simp; omega, Lib.hid (Pm.t2 hP.out hk ⟨by omega, by omega⟩)⟩, by simp [intOf]⟩
        have hd := (hD3.out.call (w1 := v4) hB hB4).more (show n + 22 - 4 * (j + 1) + 2 + 2 ≤ n + 22 - 4 * j by omega)
        exact (by repeat (first | with_reducible assumption | (with_reducible apply Hid.out; assumption) | with_reducible apply Drw.drewN | with_reducible apply Drw.drew | with_reducible apply Drw.alloc | (with_reducible refine Drw.setp ?_ ?_ ?_ ?_; (first | omega | (simp <;> omega)); (first | omega | (simp <;> omega)); (first | omega | (simp <;> omega)))))
      · go_wp2_with (go_at_call 116; (with_reducible refine (foMul_any _ _ _ _ _ _ _ _ _).mono ?_); rintro e v4 ⟨rfl, hB4⟩; have hZ4 := hB4.size; (try simp at hZ4); (try have zl4 : w.heap.size < v4.heap.size := by omega); (try have ze4 : w.heap.size ≤ v4.heap.size := by omega); (try have zn4 : ¬ w.heap.size = v4.heap.size := by omega); (try have zm4 : ¬ v4.heap.size = w.heap.size := by omega); have hA4 : Blk v4 (w.heap.size) 87 #[.int .i64 0, .int .i64 0, .int .i64 0, .int .i64 0] := Blk.call (by (repeat (first | with_reducible assumption | (with_reducible apply Blk.new_at; (first | rfl | (simp; done))) | with_reducible apply Blk.store3 | with_reducible apply Blk.store4 | (with_reducible apply Blk.farp; (first | omega | (simp <;> omega))) | with_reducible apply Blk.allocp | with_reducible apply Blk.drew | with_reducible apply Blk.drewN))) hB4; have cA4 := hA4.cell; have fA4 := hA4.frozen; have lA4 := hA4.lt; have mA4 := Nat.ne_of_gt lA4; have nA4 := Nat.ne_of_lt lA4; have hM4 : Blk v4 (b1) 87 #[.int .i64 p, .int .i64 q, .int .i64 r, .int .i64 s] := Blk.call (by (repeat (first | with_reducible assumption | (with_reducible apply Blk.new_at; (first | rfl | (simp; done))) | with_reducible apply Blk.store3 | with_reducible apply Blk.store4 | (with_reducible apply Blk.farp; (first | omega | (simp <;> omega))) | with_reducible apply Blk.allocp | with_reducible apply Blk.drew | with_reducible apply Blk.drewN))) hB4; have cM4 := hM4.cell; have fM4 := hM4.frozen; have lM4 := hM4.lt; have mM4 := Nat.ne_of_gt lM4; have nM4 := Nat.ne_of_lt lM4)
        refine ⟨⟨j, mm p 0 q 1, mm p (-1) q 0, mm r 0 s 1, mm r (-1) s 0, rfl, by omega, Lib.hid ?_, by (repeat (first | with_reducible assumption | (with_reducible apply Blk.new_at; (first | rfl | (simp; done))) | with_reducible apply Blk.store3 | with_reducible apply Blk.store4 | (with_reducible apply Blk.farp; (first | omega | (simp <;> omega))) | with_reducible apply Blk.allocp | with_reducible apply Blk.drew | with_reducible apply Blk.drewN)), by (repeat (first | with_reducible assumption | (with_reducible apply Blk.new_at; (first | rfl | (simp; done))) | with_reducible apply Blk.store3 | with_reducible apply Blk.store4 | (with_reducible apply Blk.farp; (first | omega | (simp <;> omega))) | with_reducible apply Blk.allocp | with_reducible apply Blk.drew | with_reducible apply Blk.drewN)), by simp; omega, Lib.hid (Pm.t3 hP.out hk)⟩, by simp [intOf]⟩
        have hd := (hD3.out.call (w1 := v4) hB hB4).more (show n + 22 - 4 * (j + 1) + 2 + 2 ≤ n + 22 - 4 * j by omega)
        exact (by repeat (first | with_reducible assumption | (with_reducible apply Hid.out; assumption) | with_reducible apply Drw.drewN | with_reducible apply Drw.drew | with_reducible apply Drw.alloc | (with_reducible refine Drw.setp ?_ ?_ ?_ ?_; (first | omega | (simp <;> omega)); (first | omega | (simp <;> omega)); (first | omega | (simp <;> omega)))))
set_option maxRecDepth 100000 in
set_option maxHeartbeats 1600000 in
theorem moved2_d (h : Drw zs v B G n w0 w) (hB : B ≤ G) (hn : n + 22 ≤ 100000000) (f : Fm) (fa : 1 ≤ f.a ∧ f.a ≤ 26) (fb : -26 ≤ f.b ∧ f.b ≤ 26) (fc : 1 ≤ f.c ∧ f.c ≤ 1000) (fd : f.b * f.b - 4 * f.a * f.c < 0) :
    Calls Tryz.prog 104 #[.pointer (some ⟨G, 0, none⟩), .agg #[.int .i64 f.a, .int .i64 f.b, .int .i64 f.c]] w fun e w' => ∃ f : Fm, e = .returned (.agg #[.int .i64 f.a, .int .i64 f.b, .int .i64 f.c]) ∧ (1 ≤ f.a ∧ f.a ≤ 1000000) ∧ Drw zs v B G (n + 22) w0 w' ∧ w.grownBy w' (some G) := by
  have H := Lib.hid h
  have lG0 := h.lt
  have hD0 := Lib.hid (Drw.start h.rd h.cur)
  clear h
  have hfin : Hid (∀ (x y z : Int) (w' : World), (1 ≤ x ∧ x ≤ 1000000) → Drw zs v B G (n + 22) w w' → ∃ f : Fm, Ending.returned (.agg #[.int .i64 x, .int .i64 y, .int .i64 z]) = .returned (.agg #[.int .i64 f.a, .int .i64 f.b, .int .i64 f.c]) ∧ (1 ≤ f.a ∧ f.a ≤ 1000000) ∧ Drw zs v B G (n + 22) w0 w' ∧ w.grownBy w' (some G)) :=
    Lib.hid (fun x y z w' hp hd => ⟨⟨x, y, z⟩, rfl, hp, H.out.next hB hd.cur hd.gr, hd.gr⟩)
  have HFA := Lib.hid (show 1 ≤ f.a ∧ f.a ≤ 1000000 by omega)
  have HFB := Lib.hid (And.intro fa (And.intro fb (And.intro fc fd)))
  clear fa fb fc fd
  go_enter Tryz.func104, Tryz.ntmps104
  go_wp2
  have nG1 : ¬ w.heap.size = G := by omega
  have nG2 : ¬ w.heap.size + 1 = G := by omega
  have nG3 : ¬ w.heap.size + 1 + 1 = G := by omega
  have p1 : w.heap.size < w.heap.size + 1 + 1 := by omega
  have p2 : w.heap.size < w.heap.size + 1 + 1 + 1 := by omega
  have p3 : w.heap.size + 1 < w.heap.size + 1 + 1 + 1 := by omega
  go_region_with (first
    | (go_at_call 125; refine (proper2_d (by repeat (first | with_reducible assumption | (with_reducible apply Hid.out; assumption) | with_reducible apply Drw.drewN | with_reducible apply Drw.drew | with_reducible apply Drw.alloc | (with_reducible refine Drw.setp ?_ ?_ ?_ ?_; (first | omega | (simp <;> omega)); (first | omega | (simp <;> omega)); (first | omega | (simp <;> omega))))) hB (by omega)).mono ?_; rintro e v1 ⟨x1, rfl, hx1, hD1', hG1⟩; have hD1 := Lib.hid hD1'; have zG1 := hG1.size; (try simp at zG1); have lG1 := hD1'.lt
       have hcc := (grown_calm hG1).1; have hff := (grown_calm hG1).2
       have cA1 := fun o => hcc w.heap.size o; have fA1 := fun o => hff w.heap.size o; have cR1 := fun o => hcc (w.heap.size + 1) o; have fR1 := fun o => hff (w.heap.size + 1) o
       have cP1 := fun o => hcc (w.heap.size + 1 + 1) o; have fP1 := fun o => hff (w.heap.size + 1 + 1) o
       (try simp [nG1, p1, p2] at cA1); (try simp [nG1, p1, p2] at fA1); (try simp [nG2, p3] at cR1); (try simp [nG2, p3] at fR1); (try simp [nG3] at cP1); (try simp [nG3] at fP1)
       have q0 : w.heap.size < v1.heap.size := by omega
       have q1 : w.heap.size + 1 < v1.heap.size := by omega
       (try have q2 : w.heap.size + 1 + 1 < v1.heap.size := by omega)
       have q3 : w.heap.size < v1.heap.size + 1 := by omega
       have q4 : w.heap.size + 1 < v1.heap.size + 1 := by omega
       have q5 : ¬ w.heap.size = v1.heap.size := by omega
       have q6 : ¬ w.heap.size + 1 = v1.heap.size := by omega
       have q7 : ¬ v1.heap.size = w.heap.size := by omega
       have q8 : ¬ v1.heap.size = w.heap.size + 1 := by omega
       clear hD1' hG1 hcc hff)
    | (go_at_call 115; refine (foAct_w _ _ _ _ _ _ _ _).mono ?_; rintro e v2 ⟨rfl, hB2⟩; have zB2 := hB2.size; (try simp at zB2)
       have hcc := (calm_cells hB2).1; have hff := (calm_cells hB2).2
       have cA2 := fun o => hcc w.heap.size o; have fA2 := fun o => hff w.heap.size o; have cR2 := fun o => hcc (w.heap.size + 1) o; have fR2 := fun o => hff (w.heap.size + 1) o
       have cP2 := fun o => hcc (w.heap.size + 1 + 1) o; have fP2 := fun o => hff (w.heap.size + 1 + 1) o
       have cQ2 := fun o => hcc v1.heap.size o; have fQ2 := fun o => hff v1.heap.size o
       (try simp [q0, q3, cA1] at cA2); (try simp [q0, q3, fA1] at fA2); (try simp [q1, q4, cR1] at cR2); (try simp [q1, q4, fR1] at fR2); (try simp [q2, cP1] at cP2); (try simp [q2, fP1] at fP2); (try simp at cQ2); (try simp at fQ2)
       have r5 : ¬ w.heap.size = v2.heap.size := by omega
       have r6 : ¬ w.heap.size + 1 = v2.heap.size := by omega
       have r7 : ¬ v2.heap.size = w.heap.size := by omega
       have r8 : ¬ v2.heap.size = w.heap.size + 1 := by omega
       have hD2 := Lib.hid (Drw.call (by repeat (first | with_reducible assumption | (with_reducible apply Hid.out; assumption) | with_reducible apply Drw.drewN | with_reducible apply Drw.drew | with_reducible apply Drw.alloc | (with_reducible refine Drw.setp ?_ ?_ ?_ ?_; (first | omega | (simp <;> omega)); (first | omega | (simp <;> omega)); (first | omega | (simp <;> omega))))) hB hB2)
       (try have s2 : w.heap.size + 1 + 1 < v2.heap.size := by omega)
       (try have s3 : v1.heap.size < v2.heap.size := by omega)
       have s0 : w.heap.size < v2.heap.size := by omega
       have s1 : w.heap.size + 1 < v2.heap.size := by omega
       have s4 : w.heap.size < v2.heap.size + 1 := by omega
       have s5 : w.heap.size + 1 < v2.heap.size + 1 := by omega
       clear hcc hff))
  all_goals
    clear hD1 hD0
    have hXp := Lib.hid (atW_pos hx1 HFB.out.1 HFB.out.2.1 HFB.out.2.2.1 HFB.out.2.2.2)
    clear hx1
    generalize atW f.a f.b f.c x1.fst x1.snd.snd.fst = X at *
    generalize polW f.a f.b f.c x1.fst x1.snd.snd.fst x1.snd.fst x1.snd.snd.snd = Y at *
    generalize atW f.a f.b f.c x1.snd.fst x1.snd.snd.snd = Z at *
    have hGd := Lib.hid (fun w => foGood_any X Y Z w)
    cases hbb : isFm X Y Z
    all_goals rw [hbb] at hGd
    · clear hbb
      go_wp2_with (go_at_call 126; refine (hGd.out _).mono ?_; rintro e v3 ⟨rfl, hB3⟩; have hcc := (calm_cells hB3).1; have hff := (calm_cells hB3).2)
      exact bodyPost_ret (v := .agg #[.int .i64 f.a, .int .i64 f.b, .int .i64 f.c]) (by simp [results, Tryz.results104, go_sem, *]) rfl (hfin.out _ _ _ _ HFA.out (by have hd : Drw zs v B G (n + 22) w v3 := Drw.call (w := _) (by repeat (first | with_reducible assumption | (with_reducible apply Hid.out; assumption) | with_reducible apply Drw.drewN | with_reducible apply Drw.drew | with_reducible apply Drw.alloc | (with_reducible refine Drw.setp ?_ ?_ ?_ ?_; (first | omega | (simp <;> omega)); (first | omega | (simp <;> omega)); (first | omega | (simp <;> omega))))) hB hB3; clear hD2; exact (by repeat (first | with_reducible assumption | (with_reducible apply Hid.out; assumption) | with_reducible apply Drw.drewN | with_reducible apply Drw.drew | with_reducible apply Drw.alloc | (with_reducible refine Drw.setp ?_ ?_ ?_ ?_; (first | omega | (simp <;> omega)); (first | omega | (simp <;> omega)); (first | omega | (simp <;> omega)))))))
    · have HXP := Lib.hid (show 1 ≤ X ∧ X ≤ 1000000 from ⟨hXp.out, isFm_a hbb⟩)
      clear hbb
      go_wp2_with (go_at_call 126; refine (hGd.out _).mono ?_; rintro e v3 ⟨rfl, hB3⟩; have hcc := (calm_cells hB3).1; have hff := (calm_cells hB3).2)
      exact bodyPost_ret (v := .agg #[.int .i64 X, .int .i64 Y, .int .i64 Z]) (by simp [results, Tryz.results104, go_sem, *]) rfl (hfin.out _ _ _ _ HXP.out (by have hd : Drw zs v B G (n + 22) w v3 := Drw.call (w := _) (by repeat (first | with_reducible assumption | (with_reducible apply Hid.out; assumption) | with_reducible apply Drw.drewN | with_reducible apply Drw.drew | with_reducible apply Drw.alloc | (with_reducible refine Drw.setp ?_ ?_ ?_ ?_; (first | omega | (simp <;> omega)); (first | omega | (simp <;> omega)); (first | omega | (simp <;> omega))))) hB hB3; clear hD2; exact (by repeat (first | with_reducible assumption | (with_reducible apply Hid.out; assumption) | with_reducible apply Drw.drewN | with_reducible apply Drw.drew | with_reducible apply Drw.alloc | (with_reducible refine Drw.setp ?_ ?_ ?_ ?_; (first | omega | (simp <;> omega)); (first | omega | (simp <;> omega)); (first | omega | (simp <;> omega)))))))
end
end

section
open Go.RowKit

section
variable {zs : List Int} {v : Value} {B G n m : Nat} {w0 w w1 w2 : World}
theorem pk_nat {x : Int} {N : Nat} (h : 0 ≤ x ∧ x < max (N : Int) 1) (hN : 1 ≤ N) : ∃ k : Nat, x = k ∧ k < N := ⟨x.toNat, by omega, by omega⟩
theorem among_eqR (h : Drw zs v B G n w0 w) (hB : B ≤ G) (L : List Int) (P : Int → Prop) (hP : ∀ x ∈ L, P x) (h1 : 1 ≤ L.length) (h2 : L.length ≤ 1000) (hn : n + 2 ≤ 100000000) {N k : Nat} {xs : Array Value} (hN : N = w.heap.size) (hk : L.length = k) (hxs : (cellsI L).toArray = xs) :
    Calls Tryz.prog 61 #[.pointer (some ⟨G, 0, none⟩), .slice (some ⟨N, 0, none⟩) k k] (w.alloc (.cells xs 3)) fun e w' => ∃ x : Int, e = .returned (.int .i64 x) ∧ P x ∧ Drw zs v B G (n + 2) w0 w' ∧ w.grownBy w' (some G) := by
  subst hN hk hxs
  exact among_d h hB L P hP h1 h2 hn
set_option maxRecDepth 100000 in
set_option maxHeartbeats 6400000 in
theorem ideal_d (h : Drw zs v B G n w0 w) (hB : B ≤ G) (hn : n + 60 ≤ 100000000) (d : Int) (hd : isDisc d = true) :
    Calls Tryz.prog 86 #[.pointer (some ⟨G, 0, none⟩), .int .i64 d] w fun e w' => ∃ x : Int × Int × Int, e = .returned (.agg #[.int .i64 x.1, .int .i64 x.2.1, .int .i64 x.2.2]) ∧ True ∧ Drw zs v B G (n + 60) w0 w' ∧ w.grownBy w' (some G) := by
  have H := Lib.hid h
  have lG0 := h.lt
  have hD0 := Lib.hid (Drw.start h.rd h.cur)
  clear h
  have hfin : Hid (∀ (x y z : Int) (w' : World), Drw zs v B G (n + 60) w w' → ∃ f : Int × Int × Int, Ending.returned (.agg #[.int .i64 x, .int .i64 y, .int .i64 z]) = .returned (.agg #[.int .i64 f.1, .int .i64 f.2.1, .int .i64 f.2.2]) ∧ True ∧ Drw zs v B G (n + 60) w0 w' ∧ w.grownBy w' (some G)) :=
    Lib.hid (fun x y z w' hd => ⟨(x, y, z), rfl, trivial, H.out.next hB hd.cur hd.gr, hd.gr⟩)
  have HD := Lib.hid (dsc_D7 hd)
  have hcl : Hid (∀ f : Fm, f ∈ clsL d → (1 ≤ f.a ∧ f.a ≤ 26) ∧ (-26 ≤ f.b ∧ f.b ≤ 26) ∧ (1 ≤ f.c ∧ f.c ≤ 1000) ∧ f.b * f.b - 4 * f.a * f.c < 0) := Lib.hid (fun f hf => by
    obtain ⟨b1, b2, b3⟩ := cls_bd HD.out.lo hf
    have b4 : f.b * f.b - 4 * f.a * f.c = d := (mem_clsL HD.out.lo hf).1.2.2.1
    have := HD.out.hi
    exact ⟨b1, b2, b3, by omega⟩)
  have Hd := Lib.hid hd
  clear hd
  go_enter Tryz.func86, Tryz.ntmps86
  go_wp2_with fail
  refine (reduced_d (by repeat (first | with_reducible assumption | (with_reducible apply Hid.out; assumption) | with_reducible apply Drw.drewN | with_reducible apply Drw.drew | with_reducible apply Drw.alloc | (with_reducible refine Drw.setp ?_ ?_ ?_ ?_; (first | omega | (simp <;> omega)); (first | omega | (simp <;> omega)); (first | omega | (simp <;> omega))))) hB (by omega) d Hd.out).mono ?_
  rintro e v1 ⟨f1, rfl, hx1, hD1', hG1⟩
  have hD1 := Lib.hid hD1'; have lG1 := hD1'.lt; have zG1 := hG1.size; (try simp at zG1)
  have hA1 : Blk v1 (w.heap.size) 25 #[.int .i64 0, .int .i64 0, .int .i64 0] := Blk.grown (by (repeat (first | with_reducible assumption | (with_reducible apply Blk.new_at; (first | rfl | (simp; done))) | with_reducible apply Blk.store3 | with_reducible apply Blk.store4 | (with_reducible apply Blk.farp; (first | omega | (simp <;> omega))) | with_reducible apply Blk.allocp | with_reducible apply Blk.drew | with_reducible apply Blk.drewN))) hG1 (by simp <;> omega)
  have cA1 := hA1.cell; have fA1 := hA1.frozen; have lA1 := hA1.lt; have mA1 := Nat.ne_of_gt lA1; have nA1 := Nat.ne_of_lt lA1
  clear hD1' hG1 hD0
  obtain ⟨b1, b2, b3, b4⟩ := hcl.out _ hx1
  clear hx1
  go_wp2_with fail
  refine (moved2_d (by repeat (first | with_reducible assumption | (with_reducible apply Hid.out; assumption) | with_reducible apply Drw.drewN | with_reducible apply Drw.drew | with_reducible apply Drw.alloc | (with_reducible refine Drw.setp ?_ ?_ ?_ ?_; (first | omega | (simp <;> omega)); (first | omega | (simp <;> omega)); (first | omega | (simp <;> omega))))) hB (by omega) f1 b1 b2 b3 b4).mono ?_
  rintro e v2 ⟨f2, rfl, hx2, hD2', hG2⟩
  have hD2 := Lib.hid hD2'; have lG2 := hD2'.lt; have zG2 := hG2.size; (try simp at zG2)
  have hA2 : Blk v2 (w.heap.size) 25 #[.int .i64 0, .int .i64 0, .int .i64 0] := Blk.grown (by (repeat (first | with_reducible assumption | (with_reducible apply Blk.new_at; (first | rfl | (simp; done))) | with_reducible apply Blk.store3 | with_reducible apply Blk.store4 | (with_reducible apply Blk.farp; (first | omega | (simp <;> omega))) | with_reducible apply Blk.allocp | with_reducible apply Blk.drew | with_reducible apply Blk.drewN))) hG2 (by simp <;> omega)
  have cA2 := hA2.cell; have fA2 := hA2.frozen; have lA2 := hA2.lt; have mA2 := Nat.ne_of_gt lA2; have nA2 := Nat.ne_of_lt lA2
  clear hD2' hG2 hA1 cA1 fA1 lA1 mA1 nA1 hD1 b1 b2 b3 b4
  have HX2 := Lib.hid hx2
  clear hx2
  go_upto_if 15 with fail
  go_cut [] from 15 to 18 (fun wx => ∃ a b c : Int, Blk wx v2.heap.size 29 #[.int .i64 a, .int .i64 b, .int .i64 c] ∧ (1 ≤ a ∧ a ≤ 1000000) ∧ Blk wx w.heap.size 25 #[.int .i64 0, .int .i64 0, .int .i64 0] ∧ Drw zs v B G (n + 26) w wx)
  case first =>
    as_aux_lemma =>
      by_cases h3 : 300 < f2.a
      · skip
        go_wp2_with fail
        refine (reduced_d (by repeat (first | with_reducible assumption | (with_reducible apply Hid.out; assumption) | with_reducible apply Drw.drewN | with_reducible apply Drw.drew | with_reducible apply Drw.alloc | (with_reducible refine Drw.setp ?_ ?_ ?_ ?_; (first | omega | (simp <;> omega)); (first | omega | (simp <;> omega)); (first | omega | (simp <;> omega))))) hB (by omega) d Hd.out).mono ?_
        rintro e v3 ⟨f3, rfl, hx3, hD3', hG3⟩
        have hD3 := Lib.hid hD3'; have lG3 := hD3'.lt; have zG3 := hG3.size; (try simp at zG3)
        have hA3 : Blk v3 (w.heap.size) 25 #[.int .i64 0, .int .i64 0, .int .i64 0] := Blk.grown (by (repeat (first | with_reducible assumption | (with_reducible apply Blk.new_at; (first | rfl | (simp; done))) | with_reducible apply Blk.store3 | with_reducible apply Blk.store4 | (with_reducible apply Blk.farp; (first | omega | (simp <;> omega))) | with_reducible apply Blk.allocp | with_reducible apply Blk.drew | with_reducible apply Blk.drewN))) hG3 (by simp <;> omega)
        have cA3 := hA3.cell; have fA3 := hA3.frozen; have lA3 := hA3.lt; have mA3 := Nat.ne_of_gt lA3; have nA3 := Nat.ne_of_lt lA3
        have hP3x : Blk v3 v2.heap.size 29 #[.int .i64 f2.a, .int .i64 f2.b, .int .i64 f2.c] := Blk.grown (by (repeat (first | with_reducible assumption | (with_reducible apply Blk.new_at; (first | rfl | (simp; done))) | with_reducible apply Blk.store3 | with_reducible apply Blk.store4 | (with_reducible apply Blk.farp; (first | omega | (simp <;> omega))) | with_reducible apply Blk.allocp | with_reducible apply Blk.drew | with_reducible apply Blk.drewN))) hG3 (by simp <;> omega)
        have cP3 := hP3x.cell; have fP3 := hP3x.frozen; have lP3 := hP3x.lt; have mP3 := Nat.ne_of_gt lP3; have nP3 := Nat.ne_of_lt lP3
        clear hD3' hG3 hA2 cA2 fA2 lA2 mA2 nA2 hD2
        obtain ⟨b1, b2, b3, b4⟩ := hcl.out _ hx3
        clear hx3
        skip
        go_wp2_with fail
        go_meet
        exact ⟨f3.a, f3.b, f3.c, by (repeat (first | with_reducible assumption | (with_reducible apply Blk.new_at; (first | rfl | (simp; done))) | with_reducible apply Blk.store3 | with_reducible apply Blk.store4 | (with_reducible apply Blk.farp; (first | omega | (simp <;> omega))) | with_reducible apply Blk.allocp | with_reducible apply Blk.drew | with_reducible apply Blk.drewN)), by omega, by (repeat (first | with_reducible assumption | (with_reducible apply Blk.new_at; (first | rfl | (simp; done))) | with_reducible apply Blk.store3 | with_reducible apply Blk.store4 | (with_reducible apply Blk.farp; (first | omega | (simp <;> omega))) | with_reducible apply Blk.allocp | with_reducible apply Blk.drew | with_reducible apply Blk.drewN)), Drw.more (n := n + 2 + 22 + 2) (by repeat (first | with_reducible assumption | (with_reducible apply Hid.out; assumption) | with_reducible apply Drw.drewN | with_reducible apply Drw.drew | with_reducible apply Drw.alloc | (with_reducible refine Drw.setp ?_ ?_ ?_ ?_; (first | omega | (simp <;> omega)); (first | omega | (simp <;> omega)); (first | omega | (simp <;> omega))))) (by omega)⟩
      · go_wp2_with fail
        go_meet
        exact ⟨f2.a, f2.b, f2.c, by (repeat (first | with_reducible assumption | (with_reducible apply Blk.new_at; (first | rfl | (simp; done))) | with_reducible apply Blk.store3 | with_reducible apply Blk.store4 | (with_reducible apply Blk.farp; (first | omega | (simp <;> omega))) | with_reducible apply Blk.allocp | with_reducible apply Blk.drew | with_reducible apply Blk.drewN)), HX2.out, by (repeat (first | with_reducible assumption | (with_reducible apply Blk.new_at; (first | rfl | (simp; done))) | with_reducible apply Blk.store3 | with_reducible apply Blk.store4 | (with_reducible apply Blk.farp; (first | omega | (simp <;> omega))) | with_reducible apply Blk.allocp | with_reducible apply Blk.drew | with_reducible apply Blk.drewN)), Drw.more (n := n + 2 + 22) (by repeat (first | with_reducible assumption | (with_reducible apply Hid.out; assumption) | with_reducible apply Drw.drewN | with_reducible apply Drw.drew | with_reducible apply Drw.alloc | (with_reducible refine Drw.setp ?_ ?_ ?_ ?_; (first | omega | (simp <;> omega)); (first | omega | (simp <;> omega)); (first | omega | (simp <;> omega))))) (by omega)⟩
  case rest =>
    obtain ⟨v3, rfl⟩ : ∃ v3 : World, v3 = wc := ⟨_, rfl⟩
    obtain ⟨a, b, c, hP, ha, hA, hD3'⟩ := hcut
    have hD3 := Lib.hid hD3'; have lG3 := hD3'.lt
    clear hD3' HX2 hA2 cA2 fA2 lA2 mA2 nA2 hD2
    have hA3 := hA; have cA3 := hA3.cell; have fA3 := hA3.frozen; have lA3 := hA3.lt; have mA3 := Nat.ne_of_gt lA3; have nA3 := Nat.ne_of_lt lA3
    have hP3 := hP; have cP3 := hP3.cell; have fP3 := hP3.frozen; have lP3 := hP3.lt; have mP3 := Nat.ne_of_gt lP3; have nP3 := Nat.ne_of_lt lP3
    clear hA hP
    have PA : v2.heap.size ≠ w.heap.size := by omega
    have HM := Lib.hid (fun w => nuMod_any b (2 * a) w (by omega) (by omega))
    have w1 : wrap64 (2 * a) = 2 * a := IntWalk.wrap64_in _ (by omega)
    have i1 : IntKind.i64.wrap (2 * a) = 2 * a := IntWalk.i64_in _ (by omega)
    clear ha
    generalize b % (2 * a) = R at *
    go_upto_region 4 with (fail)
    go_cut [6] from 19 to 34 (fun s6 wx => ∃ (U : Nat) (x y z : Int), s6 = .pointer (some ⟨U, 0, none⟩) ∧ Blk wx U 25 #[.int .i64 x, .int .i64 y, .int .i64 z] ∧ G < U ∧ v2.heap.size < U ∧ Blk wx v2.heap.size 29 #[.int .i64 a, .int .i64 b, .int .i64 c] ∧ Blk wx w.heap.size 25 #[.int .i64 0, .int .i64 0, .int .i64 0] ∧ Drw zs v B G (n + 30) w wx)
    case first =>
      as_aux_lemma =>
       clear HD hcl hfin Hd
       go_wp2_with fail
       go_region_held3 (fun w' => w'.cell? ⟨v2.heap.size, 0, none⟩ = some (.int .i64 a) ∧ w'.cell? ⟨v2.heap.size, 1, none⟩ = some (.int .i64 b)) (first | (go_keep; done) | (go_simp; done)) (first | (go_at_call 59; have h4m := zG4; clear h4m; refine (pick_d (by repeat (first | with_reducible assumption | (with_reducible apply Hid.out; assumption) | with_reducible apply Drw.drewN | with_reducible apply Drw.drew | with_reducible apply Drw.alloc | (with_reducible refine Drw.setp ?_ ?_ ?_ ?_; (first | omega | (simp <;> omega)); (first | omega | (simp <;> omega)); (first | omega | (simp <;> omega))))) hB 4 (by omega) (by omega)).mono ?_; rintro e v5 ⟨x5, rfl, _, hD5', hG5⟩; have hD5 := Lib.hid hD5'; have lG5 := hD5'.lt; have zG5 := hG5.size; (try simp at zG5); have hA5 : Blk v5 (w.heap.size) 25 #[.int .i64 0, .int .i64 0, .int .i64 0] := Blk.grown (by (repeat (first | with_reducible assumption | (with_reducible apply Blk.new_at; (first | rfl | (simp; done))) | with_reducible apply Blk.store3 | with_reducible apply Blk.store4 | (with_reducible apply Blk.farp; (first | omega | (simp <;> omega))) | with_reducible apply Blk.allocp | with_reducible apply Blk.drew | with_reducible apply Blk.drewN))) hG5 (by simp <;> omega); have cA5 := hA5.cell; have fA5 := hA5.frozen; have lA5 := hA5.lt; have mA5 := Nat.ne_of_gt lA5; have nA5 := Nat.ne_of_lt lA5; have hP5 : Blk v5 (v2.heap.size) 29 #[.int .i64 a, .int .i64 b, .int .i64 c] := Blk.grown (by (repeat (first | with_reducible assumption | (with_reducible apply Blk.new_at; (first | rfl | (simp; done))) | with_reducible apply Blk.store3 | with_reducible apply Blk.store4 | (with_reducible apply Blk.farp; (first | omega | (simp <;> omega))) | with_reducible apply Blk.allocp | with_reducible apply Blk.drew | with_reducible apply Blk.drewN))) hG5 (by simp <;> omega); have cP5 := hP5.cell; have fP5 := hP5.frozen; have lP5 := hP5.lt; have mP5 := Nat.ne_of_gt lP5; have nP5 := Nat.ne_of_lt lP5; (try (have hS5 : Blk v5 (v3.heap.size) 25 #[.int .i64 0, .int .i64 0, .int .i64 0] := Blk.grown (by first | exact Blk.new_at rfl | exact hS4) hG5 (by simp <;> omega); have cS5 := hS5.cell; have fS5 := hS5.frozen; have lS5 := hS5.lt; have mS5 := Nat.ne_of_gt lS5; have nS5 := Nat.ne_of_lt lS5)); (try (have hT5 : Blk v5 (v4.heap.size) 25 #[.int .i64 0, .int .i64 0, .int .i64 0] := Blk.grown (by first | exact Blk.new_at rfl | exact hS4) hG5 (by simp <;> omega); have cT5 := hT5.cell; have fT5 := hT5.frozen; have lT5 := hT5.lt; have mT5 := Nat.ne_of_gt lT5; have nT5 := Nat.ne_of_lt lT5))) | (go_at_call 59; refine (pick_d (by repeat (first | with_reducible assumption | (with_reducible apply Hid.out; assumption) | with_reducible apply Drw.drewN | with_reducible apply Drw.drew | with_reducible apply Drw.alloc | (with_reducible refine Drw.setp ?_ ?_ ?_ ?_; (first | omega | (simp <;> omega)); (first | omega | (simp <;> omega)); (first | omega | (simp <;> omega))))) hB 3 (by omega) (by omega)).mono ?_; rintro e v4 ⟨x4, rfl, _, hD4', hG4⟩; have hD4 := Lib.hid hD4'; have lG4 := hD4'.lt; have zG4 := hG4.size; (try simp at zG4); have hA4 : Blk v4 (w.heap.size) 25 #[.int .i64 0, .int .i64 0, .int .i64 0] := Blk.grown (by (repeat (first | with_reducible assumption | (with_reducible apply Blk.new_at; (first | rfl | (simp; done))) | with_reducible apply Blk.store3 | with_reducible apply Blk.store4 | (with_reducible apply Blk.farp; (first | omega | (simp <;> omega))) | with_reducible apply Blk.allocp | with_reducible apply Blk.drew | with_reducible apply Blk.drewN))) hG4 (by simp <;> omega); have cA4 := hA4.cell; have fA4 := hA4.frozen; have lA4 := hA4.lt; have mA4 := Nat.ne_of_gt lA4; have nA4 := Nat.ne_of_lt lA4; have hP4 : Blk v4 (v2.heap.size) 29 #[.int .i64 a, .int .i64 b, .int .i64 c] := Blk.grown (by (repeat (first | with_reducible assumption | (with_reducible apply Blk.new_at; (first | rfl | (simp; done))) | with_reducible apply Blk.store3 | with_reducible apply Blk.store4 | (with_reducible apply Blk.farp; (first | omega | (simp <;> omega))) | with_reducible apply Blk.allocp | with_reducible apply Blk.drew | with_reducible apply Blk.drewN))) hG4 (by simp <;> omega); have cP4 := hP4.cell; have fP4 := hP4.frozen; have lP4 := hP4.lt; have mP4 := Nat.ne_of_gt lP4; have nP4 := Nat.ne_of_lt lP4; (try (have hS4 : Blk v4 (v3.heap.size) 25 #[.int .i64 0, .int .i64 0, .int .i64 0] := Blk.grown (by first | exact Blk.new_at rfl | exact hS4) hG4 (by simp <;> omega); have cS4 := hS4.cell; have fS4 := hS4.frozen; have lS4 := hS4.lt; have mS4 := Nat.ne_of_gt lS4; have nS4 := Nat.ne_of_lt lS4))) | (go_at_call 58; (with_reducible refine (HM.out _).mono ?_); rintro e6 w6 ⟨rfl, rfl⟩))
       all_goals
        go_wp2_with fail
        go_meet
        exact ⟨_, _, _, _, rfl, by (repeat (first | with_reducible assumption | (with_reducible apply Blk.new_at; (first | rfl | (simp; done))) | with_reducible apply Blk.store2 | with_reducible apply Blk.store3 | with_reducible apply Blk.store4 | (with_reducible apply Blk.farp; (first | omega | (simp <;> omega))) | with_reducible apply Blk.allocp | with_reducible apply Blk.drew | with_reducible apply Blk.drewN)), by omega, by omega, by (repeat (first | with_reducible assumption | (with_reducible apply Blk.new_at; (first | rfl | (simp; done))) | with_reducible apply Blk.store2 | with_reducible apply Blk.store3 | with_reducible apply Blk.store4 | (with_reducible apply Blk.farp; (first | omega | (simp <;> omega))) | with_reducible apply Blk.allocp | with_reducible apply Blk.drew | with_reducible apply Blk.drewN)), by (repeat (first | with_reducible assumption | (with_reducible apply Blk.new_at; (first | rfl | (simp; done))) | with_reducible apply Blk.store2 | with_reducible apply Blk.store3 | with_reducible apply Blk.store4 | (with_reducible apply Blk.farp; (first | omega | (simp <;> omega))) | with_reducible apply Blk.allocp | with_reducible apply Blk.drew | with_reducible apply Blk.drewN)), Drw.more (n := n + 26 + 2 + 2) (by repeat (first | with_reducible assumption | (with_reducible apply Hid.out; assumption) | with_reducible apply Drw.drewN | with_reducible apply Drw.drew | with_reducible apply Drw.alloc | (with_reducible refine Drw.setp ?_ ?_ ?_ ?_; (first | omega | (simp <;> omega)); (first | omega | (simp <;> omega)); (first | omega | (simp <;> omega))))) (by omega)⟩
    case rest =>
     obtain ⟨v4, rfl⟩ : ∃ v4 : World, v4 = wc := ⟨_, rfl⟩
     obtain ⟨U, x, y, z, rfl, hU, gU, pU, hP, hA, hD4'⟩ := hcut
     have hD4 := Lib.hid hD4'; have lG4 := hD4'.lt
     clear hD4' HM w1 i1 hA3 cA3 fA3 lA3 mA3 nA3 hP3 cP3 fP3 lP3 mP3 nP3 hD3
     have hA4 := hA; have cA4 := hA4.cell; have fA4 := hA4.frozen; have lA4 := hA4.lt; have mA4 := Nat.ne_of_gt lA4; have nA4 := Nat.ne_of_lt lA4
     have hP4 := hP; have cP4 := hP4.cell; have fP4 := hP4.frozen; have lP4 := hP4.lt; have mP4 := Nat.ne_of_gt lP4; have nP4 := Nat.ne_of_lt lP4
     have hU4 := hU; have cU4 := hU4.cell; have fU4 := hU4.frozen; have lU4 := hU4.lt; have mU4 := Nat.ne_of_gt lU4; have nU4 := Nat.ne_of_lt lU4
     clear hA hP hU
     go_wp2_with fail
     refine (one_d (n := n + 30) (by repeat (first | with_reducible assumption | (with_reducible apply Hid.out; assumption) | with_reducible apply Drw.drewN | with_reducible apply Drw.drew | with_reducible apply Drw.alloc | (with_reducible refine Drw.setp ?_ ?_ ?_ ?_; (first | omega | (simp <;> omega)); (first | omega | (simp <;> omega)); (first | omega | (simp <;> omega))))) hB 6 (by omega) (by omega)).mono ?_
     rintro e v5 ⟨x5, rfl, hx5, hD5', hG5⟩
     have hD5 := Lib.hid hD5'; have lG5 := hD5'.lt; have zG5 := hG5.size; (try simp at zG5)
     have hA5 : Blk v5 (w.heap.size) 25 #[.int .i64 0, .int .i64 0, .int .i64 0] := Blk.grown (by (repeat (first | with_reducible assumption | (with_reducible apply Blk.new_at; (first | rfl | (simp; done))) | with_reducible apply Blk.store3 | with_reducible apply Blk.store4 | (with_reducible apply Blk.farp; (first | omega | (simp <;> omega))) | with_reducible apply Blk.allocp | with_reducible apply Blk.drew | with_reducible apply Blk.drewN))) hG5 (by simp <;> omega)
     have cA5 := hA5.cell; have fA5 := hA5.frozen; have lA5 := hA5.lt; have mA5 := Nat.ne_of_gt lA5; have nA5 := Nat.ne_of_lt lA5
     have hP5 : Blk v5 (v2.heap.size) 29 #[.int .i64 a, .int .i64 b, .int .i64 c] := Blk.grown (by (repeat (first | with_reducible assumption | (with_reducible apply Blk.new_at; (first | rfl | (simp; done))) | with_reducible apply Blk.store3 | with_reducible apply Blk.store4 | (with_reducible apply Blk.farp; (first | omega | (simp <;> omega))) | with_reducible apply Blk.allocp | with_reducible apply Blk.drew | with_reducible apply Blk.drewN))) hG5 (by simp <;> omega)
     have cP5 := hP5.cell; have fP5 := hP5.frozen; have lP5 := hP5.lt; have mP5 := Nat.ne_of_gt lP5; have nP5 := Nat.ne_of_lt lP5
     have hU5 : Blk v5 (U) 25 #[.int .i64 x, .int .i64 y, .int .i64 z] := Blk.grown (by (repeat (first | with_reducible assumption | (with_reducible apply Blk.new_at; (first | rfl | (simp; done))) | with_reducible apply Blk.store3 | with_reducible apply Blk.store4 | (with_reducible apply Blk.farp; (first | omega | (simp <;> omega))) | with_reducible apply Blk.allocp | with_reducible apply Blk.drew | with_reducible apply Blk.drewN))) hG5 (by simp <;> omega)
     have cU5 := hU5.cell; have fU5 := hU5.frozen; have lU5 := hU5.lt; have mU5 := Nat.ne_of_gt lU5; have nU5 := Nat.ne_of_lt lU5
     clear hD5' hG5 hA4 cA4 fA4 lA4 mA4 nA4 hP4 cP4 fP4 lP4 mP4 nP4 hU4 cU4 fU4 lU4 mU4 nU4 hD4
     clear hx5
     go_upto_if 36 with fail
     go_cut [] from 36 to 57 (fun wx => ∃ (x y z : Int), Blk wx U 25 #[.int .i64 x, .int .i64 y, .int .i64 z] ∧ Blk wx w.heap.size 25 #[.int .i64 0, .int .i64 0, .int .i64 0] ∧ Drw zs v B G (n + 34) w wx)
     case first =>
       as_aux_lemma =>
         cases x5 with
         | false =>
           go_wp2_with fail
           go_meet
           exact ⟨x, y, z, by (repeat (first | with_reducible assumption | (with_reducible apply Blk.new_at; (first | rfl | (simp; done))) | with_reducible apply Blk.store3 | with_reducible apply Blk.store4 | (with_reducible apply Blk.farp; (first | omega | (simp <;> omega))) | with_reducible apply Blk.allocp | with_reducible apply Blk.drew | with_reducible apply Blk.drewN)), by (repeat (first | with_reducible assumption | (with_reducible apply Blk.new_at; (first | rfl | (simp; done))) | with_reducible apply Blk.store3 | with_reducible apply Blk.store4 | (with_reducible apply Blk.farp; (first | omega | (simp <;> omega))) | with_reducible apply Blk.allocp | with_reducible apply Blk.drew | with_reducible apply Blk.drewN)), Drw.more (n := n + 30 + 2) (by repeat (first | with_reducible assumption | (with_reducible apply Hid.out; assumption) | with_reducible apply Drw.drewN | with_reducible apply Drw.drew | with_reducible apply Drw.alloc | (with_reducible refine Drw.setp ?_ ?_ ?_ ?_; (first | omega | (simp <;> omega)); (first | omega | (simp <;> omega)); (first | omega | (simp <;> omega))))) (by omega)⟩
         | true =>
           have hL0 : 1 ≤ (allR d).length := Nat.le_trans (List.length_pos_of_mem HD.out.one) (List.length_filter_le _ _)
           have hL1 := allR_len d
           have HR := Lib.hid (fun w => reAll_any d w HD.out.lo HD.out.hi)
           have Hel := Lib.hid (fun f (hf : f ∈ allR d) => mem_allR HD.out.lo hf)
           generalize allR d = L at *
           have hgt : (0 : Int) < (L.length : Int) := by omega
           have Hgt := Lib.hid hgt
           have H9 := Lib.hid (show (L.length : Int) ≤ 1000000000 ∧ n + 30 + 2 + 2 ≤ 100000000 ∧ 1 ≤ L.length by omega)
           have H64 := Lib.hid (show wrap64 (L.length : Int) = L.length from IntWalk.wrap64_in _ (by omega))
           clear HD hcl Hd hfin hL0 hL1 hgt
           go_wp2_with fail
           refine (HR.out _).mono ?_
           rintro e v6 ⟨vl, rfl, ho6, hB6⟩
           have zG6 := hB6.size; (try simp at zG6)
           obtain ⟨base, cap, rfl⟩ := own_shape ho6
           have HO6 := Lib.hid ho6
           clear ho6 HR
           have hD6 := Lib.hid ((Drw.call hD5.out hB hB6)); have lG6 := hD6.out.lt
           have hA6 : Blk v6 (w.heap.size) 25 #[.int .i64 0, .int .i64 0, .int .i64 0] := Blk.call (by (repeat (first | with_reducible assumption | (with_reducible apply Blk.new_at; (first | rfl | (simp; done))) | with_reducible apply Blk.store3 | with_reducible apply Blk.store4 | (with_reducible apply Blk.farp; (first | omega | (simp <;> omega))) | with_reducible apply Blk.allocp | with_reducible apply Blk.drew | with_reducible apply Blk.drewN))) hB6
           have cA6 := hA6.cell; have fA6 := hA6.frozen; have lA6 := hA6.lt; have mA6 := Nat.ne_of_gt lA6; have nA6 := Nat.ne_of_lt lA6
           have hP6 : Blk v6 (v2.heap.size) 29 #[.int .i64 a, .int .i64 b, .int .i64 c] := Blk.call (by (repeat (first | with_reducible assumption | (with_reducible apply Blk.new_at; (first | rfl | (simp; done))) | with_reducible apply Blk.store3 | with_reducible apply Blk.store4 | (with_reducible apply Blk.farp; (first | omega | (simp <;> omega))) | with_reducible apply Blk.allocp | with_reducible apply Blk.drew | with_reducible apply Blk.drewN))) hB6
           have cP6 := hP6.cell; have fP6 := hP6.frozen; have lP6 := hP6.lt; have mP6 := Nat.ne_of_gt lP6; have nP6 := Nat.ne_of_lt lP6
           have hU6 : Blk v6 (U) 25 #[.int .i64 x, .int .i64 y, .int .i64 z] := Blk.call (by (repeat (first | with_reducible assumption | (with_reducible apply Blk.new_at; (first | rfl | (simp; done))) | with_reducible apply Blk.store3 | with_reducible apply Blk.store4 | (with_reducible apply Blk.farp; (first | omega | (simp <;> omega))) | with_reducible apply Blk.allocp | with_reducible apply Blk.drew | with_reducible apply Blk.drewN))) hB6
           have cU6 := hU6.cell; have fU6 := hU6.frozen; have lU6 := hU6.lt; have mU6 := Nat.ne_of_gt lU6; have nU6 := Nat.ne_of_lt lU6
           clear hB6 hA5 cA5 fA5 lA5 mA5 nA5 hP5 cP5 fP5 lP5 mP5 nP5 hU5 cU5 fU5 lU5 mU5 nU5 hD5
           have h64 := H64.out
           have hgt := Hgt.out
           go_wp2_with fail
           clear h64 hgt
           refine (pick_d (w0 := w) (Hid.out hD6) hB L.length H9.out.2.1 H9.out.1).mono ?_
           rintro e v7 ⟨x7, rfl, hx7, hD7', hG7⟩
           have hD7 := Lib.hid hD7'; have lG7 := hD7'.lt; have zG7 := hG7.size; (try simp at zG7)
           have hA7 : Blk v7 (w.heap.size) 25 #[.int .i64 0, .int .i64 0, .int .i64 0] := Blk.grown (by (repeat (first | with_reducible assumption | (with_reducible apply Blk.new_at; (first | rfl | (simp; done))) | with_reducible apply Blk.store3 | with_reducible apply Blk.store4 | (with_reducible apply Blk.farp; (first | omega | (simp <;> omega))) | with_reducible apply Blk.allocp | with_reducible apply Blk.drew | with_reducible apply Blk.drewN))) hG7 (by simp <;> omega)
           have cA7 := hA7.cell; have fA7 := hA7.frozen; have lA7 := hA7.lt; have mA7 := Nat.ne_of_gt lA7; have nA7 := Nat.ne_of_lt lA7
           have hP7 : Blk v7 (v2.heap.size) 29 #[.int .i64 a, .int .i64 b, .int .i64 c] := Blk.grown (by (repeat (first | with_reducible assumption | (with_reducible apply Blk.new_at; (first | rfl | (simp; done))) | with_reducible apply Blk.store3 | with_reducible apply Blk.store4 | (with_reducible apply Blk.farp; (first | omega | (simp <;> omega))) | with_reducible apply Blk.allocp | with_reducible apply Blk.drew | with_reducible apply Blk.drewN))) hG7 (by simp <;> omega)
           have cP7 := hP7.cell; have fP7 := hP7.frozen; have lP7 := hP7.lt; have mP7 := Nat.ne_of_gt lP7; have nP7 := Nat.ne_of_lt lP7
           have hU7 : Blk v7 (U) 25 #[.int .i64 x, .int .i64 y, .int .i64 z] := Blk.grown (by (repeat (first | with_reducible assumption | (with_reducible apply Blk.new_at; (first | rfl | (simp; done))) | with_reducible apply Blk.store3 | with_reducible apply Blk.store4 | (with_reducible apply Blk.farp; (first | omega | (simp <;> omega))) | with_reducible apply Blk.allocp | with_reducible apply Blk.drew | with_reducible apply Blk.drewN))) hG7 (by simp <;> omega)
           have cU7 := hU7.cell; have fU7 := hU7.frozen; have lU7 := hU7.lt; have mU7 := Nat.ne_of_gt lU7; have nU7 := Nat.ne_of_lt lU7
           have ho7 := own_drw HO6.out (by omega) hG7
           clear hD7' hG7 hA6 cA6 fA6 lA6 mA6 nA6 hP6 cP6 fP6 lP6 mP6 nP6 hU6 cU6 fU6 lU6 mU6 nU6 hD6
           obtain ⟨k, rfl, hk⟩ := pk_nat hx7 H9.out.2.2
           obtain ⟨g, rfl, lg, c1, c2, c3⟩ := own_elem ho7 hk
           obtain ⟨a1, a2, -, -, b1, b2, -⟩ := Hel.out _ (List.getElem_mem hk)
           have HM := Lib.hid (fun w => nuMod_any L[k].b (2 * L[k].a) w (by omega) (by omega))
           have i1 : IntKind.i64.wrap (2 * L[k].a) = 2 * L[k].a := IntWalk.i64_in _ (by omega)
           have w1 : wrap64 (2 * L[k].a) = 2 * L[k].a := IntWalk.wrap64_in _ (by omega)
           generalize L[k].b % (2 * L[k].a) = R2 at *
           generalize L[k].a = a' at *
           generalize L[k].b = b' at *
           generalize L[k].c = c' at *
           have kI : (k : Int) < (L.length : Int) := by omega
           generalize L.length = N at *
           clear ho7 HO6 Hel a1 a2 b1 b2 hx7 H9 Hgt H64
           go_upto_region 9 with (fail)
           generalize hw9 : ((v7.setCell ⟨v2.heap.size, 0, none⟩ (.int .i64 a')).setCell ⟨v2.heap.size, 1, none⟩ (.int .i64 b')).setCell ⟨v2.heap.size, 2, none⟩ (.int .i64 c') = w9
           have hA9 : Blk w9 (w.heap.size) 25 #[.int .i64 0, .int .i64 0, .int .i64 0] := by rw [← hw9]; (repeat (first | with_reducible assumption | (with_reducible apply Blk.new_at; (first | rfl | (simp; done))) | with_reducible apply Blk.store2 | with_reducible apply Blk.store3 | with_reducible apply Blk.store4 | (with_reducible apply Blk.farp; (first | omega | (simp <;> omega))) | with_reducible apply Blk.allocp | with_reducible apply Blk.drew | with_reducible apply Blk.drewN))
           have cA9 := hA9.cell; have fA9 := hA9.frozen; have lA9 := hA9.lt; have mA9 := Nat.ne_of_gt lA9; have nA9 := Nat.ne_of_lt lA9
           have hP9 : Blk w9 (v2.heap.size) 29 #[.int .i64 a', .int .i64 b', .int .i64 c'] := by rw [← hw9]; (repeat (first | with_reducible assumption | (with_reducible apply Blk.new_at; (first | rfl | (simp; done))) | with_reducible apply Blk.store2 | with_reducible apply Blk.store3 | with_reducible apply Blk.store4 | (with_reducible apply Blk.farp; (first | omega | (simp <;> omega))) | with_reducible apply Blk.allocp | with_reducible apply Blk.drew | with_reducible apply Blk.drewN))
           have cP9 := hP9.cell; have fP9 := hP9.frozen; have lP9 := hP9.lt; have mP9 := Nat.ne_of_gt lP9; have nP9 := Nat.ne_of_lt lP9
           have hU9 : Blk w9 (U) 25 #[.int .i64 x, .int .i64 y, .int .i64 z] := by rw [← hw9]; (repeat (first | with_reducible assumption | (with_reducible apply Blk.new_at; (first | rfl | (simp; done))) | with_reducible apply Blk.store2 | with_reducible apply Blk.store3 | with_reducible apply Blk.store4 | (with_reducible apply Blk.farp; (first | omega | (simp <;> omega))) | with_reducible apply Blk.allocp | with_reducible apply Blk.drew | with_reducible apply Blk.drewN))
           have cU9 := hU9.cell; have fU9 := hU9.frozen; have lU9 := hU9.lt; have mU9 := Nat.ne_of_gt lU9; have nU9 := Nat.ne_of_lt lU9
           have hD9 := Lib.hid (show Drw zs v B G (n + 30 + 2 + 2) w w9 by rw [← hw9]; have := hD7.out; exact (by repeat (first | with_reducible assumption | (with_reducible apply Hid.out; assumption) | with_reducible apply Drw.drewN | with_reducible apply Drw.drew | with_reducible apply Drw.alloc | (with_reducible refine Drw.setp ?_ ?_ ?_ ?_; (first | omega | (simp <;> omega)); (first | omega | (simp <;> omega)); (first | omega | (simp <;> omega))))))
           have lG9 := hD9.out.lt
           clear hw9 c1 c2 c3 lg hA7 cA7 fA7 lA7 mA7 nA7 hP7 cP7 fP7 lP7 mP7 nP7 hU7 cU7 fU7 lU7 mU7 nU7 hD7
           refine wp_region_calm 9 (Below (w9.heap.size) _) (by kernel_rfl) (by kernel_rfl) ((Below.refl _ _).drew) ?_
           simp only [List.take_succ_cons, List.take_zero, List.drop_succ_cons, List.drop_zero]
           repeat (first | (apply wpCalm_go; go_simp; (intro w' hw' hcc hff; go_simp; first | exact rfl | ((with_reducible refine (HM.out _).mono ?_); rintro e w1 ⟨rfl, hb⟩; exact ⟨rfl, calm_call_same hw' hb⟩)); (intro K hK; go_simp; refine hK _ ?_; clear hK K)) | (apply wpCalm_skip; go_simp; (try (focus (simp [undef]; done))); (intro K hK; go_simp; refine hK _ ?_; clear hK K)))
           refine wpCalm_nil ?_
           intro w1 hw1
           have hcc := (calm_cells hw1).1
           have hff := (calm_cells hw1).2
           have hss := calm_size hw1
           have hsz := hw1.size
           (try simp at hsz)
           have hD10 := Lib.hid (Drw.call hD9.out hB hw1)
           have hzw := hw1.size
           clear hcc hff hss
           have hA10 : Blk w1 (w.heap.size) 25 #[.int .i64 0, .int .i64 0, .int .i64 0] := Blk.below hA9 hw1 (by omega)
           have cA10 := hA10.cell; have fA10 := hA10.frozen; have lA10 := hA10.lt; have mA10 := Nat.ne_of_gt lA10; have nA10 := Nat.ne_of_lt lA10
           have hP10 : Blk w1 (v2.heap.size) 29 #[.int .i64 a', .int .i64 b', .int .i64 c'] := Blk.below hP9 hw1 (by omega)
           have cP10 := hP10.cell; have fP10 := hP10.frozen; have lP10 := hP10.lt; have mP10 := Nat.ne_of_gt lP10; have nP10 := Nat.ne_of_lt lP10
           have hU10 : Blk w1 (U) 25 #[.int .i64 x, .int .i64 y, .int .i64 z] := Blk.below hU9 hw1 (by omega)
           have cU10 := hU10.cell; have fU10 := hU10.frozen; have lU10 := hU10.lt; have mU10 := Nat.ne_of_gt lU10; have nU10 := Nat.ne_of_lt lU10
           clear hA9 cA9 fA9 lA9 mA9 nA9 hP9 cP9 fP9 lP9 mP9 nP9 hU9 cU9 fU9 lU9 mU9 nU9 hD9
           go_wp2_with fail
           go_meet
           exact ⟨_, _, _, by (repeat (first | with_reducible assumption | (with_reducible apply Blk.new_at; (first | rfl | (simp; done))) | with_reducible apply Blk.store2 | with_reducible apply Blk.store3 | with_reducible apply Blk.store4 | (with_reducible apply Blk.farp; (first | omega | (simp <;> omega))) | with_reducible apply Blk.allocp | with_reducible apply Blk.drew | with_reducible apply Blk.drewN)), by (repeat (first | with_reducible assumption | (with_reducible apply Blk.new_at; (first | rfl | (simp; done))) | with_reducible apply Blk.store2 | with_reducible apply Blk.store3 | with_reducible apply Blk.store4 | (with_reducible apply Blk.farp; (first | omega | (simp <;> omega))) | with_reducible apply Blk.allocp | with_reducible apply Blk.drew | with_reducible apply Blk.drewN)), Drw.more (n := n + 30 + 2 + 2) (by repeat (first | with_reducible assumption | (with_reducible apply Hid.out; assumption) | with_reducible apply Drw.drewN | with_reducible apply Drw.drew | with_reducible apply Drw.alloc | (with_reducible refine Drw.setp ?_ ?_ ?_ ?_; (first | omega | (simp <;> omega)); (first | omega | (simp <;> omega)); (first | omega | (simp <;> omega))))) (by omega)⟩
     case rest =>
       obtain ⟨v8, rfl⟩ : ∃ v8 : World, v8 = wc := ⟨_, rfl⟩
       obtain ⟨x, y, z, hU, hA, hD8'⟩ := hcut
       have hD8 := Lib.hid hD8'; have lG8 := hD8'.lt
       clear hD8' HD hcl Hd hA5 cA5 fA5 lA5 mA5 nA5 hP5 cP5 fP5 lP5 mP5 nP5 hU5 cU5 fU5 lU5 mU5 nU5 hD5
       have hA8 := hA; have cA8 := hA8.cell; have fA8 := hA8.frozen; have lA8 := hA8.lt; have mA8 := Nat.ne_of_gt lA8; have nA8 := Nat.ne_of_lt lA8
       have hU8 := hU; have cU8 := hU8.cell; have fU8 := hU8.frozen; have lU8 := hU8.lt; have mU8 := Nat.ne_of_gt lU8; have nU8 := Nat.ne_of_lt lU8
       clear hA hU
       go_wp2_with fail
       refine (one_d (n := n + 34) (by repeat (first | with_reducible assumption | (with_reducible apply Hid.out; assumption) | with_reducible apply Drw.drewN | with_reducible apply Drw.drew | with_reducible apply Drw.alloc | (with_reducible refine Drw.setp ?_ ?_ ?_ ?_; (first | omega | (simp <;> omega)); (first | omega | (simp <;> omega)); (first | omega | (simp <;> omega))))) hB 12 (by omega) (by omega)).mono ?_
       rintro e v9 ⟨x9, rfl, hx9, hD9', hG9⟩
       have hD9 := Lib.hid hD9'; have lG9 := hD9'.lt; have zG9 := hG9.size; (try simp at zG9)
       have hA9 : Blk v9 (w.heap.size) 25 #[.int .i64 0, .int .i64 0, .int .i64 0] := Blk.grown (by (repeat (first | with_reducible assumption | (with_reducible apply Blk.new_at; (first | rfl | (simp; done))) | with_reducible apply Blk.store3 | with_reducible apply Blk.store4 | (with_reducible apply Blk.farp; (first | omega | (simp <;> omega))) | with_reducible apply Blk.allocp | with_reducible apply Blk.drew | with_reducible apply Blk.drewN))) hG9 (by simp <;> omega)
       have cA9 := hA9.cell; have fA9 := hA9.frozen; have lA9 := hA9.lt; have mA9 := Nat.ne_of_gt lA9; have nA9 := Nat.ne_of_lt lA9
       have hU9 : Blk v9 (U) 25 #[.int .i64 x, .int .i64 y, .int .i64 z] := Blk.grown (by (repeat (first | with_reducible assumption | (with_reducible apply Blk.new_at; (first | rfl | (simp; done))) | with_reducible apply Blk.store3 | with_reducible apply Blk.store4 | (with_reducible apply Blk.farp; (first | omega | (simp <;> omega))) | with_reducible apply Blk.allocp | with_reducible apply Blk.drew | with_reducible apply Blk.drewN))) hG9 (by simp <;> omega)
       have cU9 := hU9.cell; have fU9 := hU9.frozen; have lU9 := hU9.lt; have mU9 := Nat.ne_of_gt lU9; have nU9 := Nat.ne_of_lt lU9
       clear hD9' hG9 hA8 cA8 fA8 lA8 mA8 nA8 hU8 cU8 fU8 lU8 mU8 nU8 hD8
       clear hx9
       cases x9 with
       | false =>
         go_wp2
         exact bodyPost_ret (v := .agg #[.int .i64 x, .int .i64 y, .int .i64 z]) (by simp [results, Tryz.results86, go_sem, *]) rfl (hfin.out _ _ _ _ (Drw.more (n := n + 34 + 2) (by repeat (first | with_reducible assumption | (with_reducible apply Hid.out; assumption) | with_reducible apply Drw.drewN | with_reducible apply Drw.drew | with_reducible apply Drw.alloc | (with_reducible refine Drw.setp ?_ ?_ ?_ ?_; (first | omega | (simp <;> omega)); (first | omega | (simp <;> omega)); (first | omega | (simp <;> omega))))) (by omega)))
       | true =>
         go_wp2_with fail
         refine (among_eqR (w := v9) (w0 := w) (Hid.out hD9) hB [100, 9999, 10000, 5000] (fun _ => True) (by simp) (by simp) (by simp) (by omega) rfl rfl rfl).mono ?_
         rintro e v10 ⟨x10, rfl, hx10, hD10', hG10⟩
         have hD10 := Lib.hid hD10'; have lG10 := hD10'.lt; have zG10 := hG10.size; (try simp at zG10)
         have hA10 : Blk v10 (w.heap.size) 25 #[.int .i64 0, .int .i64 0, .int .i64 0] := Blk.grown (by (repeat (first | with_reducible assumption | (with_reducible apply Blk.new_at; (first | rfl | (simp; done))) | with_reducible apply Blk.store3 | with_reducible apply Blk.store4 | (with_reducible apply Blk.farp; (first | omega | (simp <;> omega))) | with_reducible apply Blk.allocp | with_reducible apply Blk.drew | with_reducible apply Blk.drewN))) hG10 (by simp <;> omega)
         have cA10 := hA10.cell; have fA10 := hA10.frozen; have lA10 := hA10.lt; have mA10 := Nat.ne_of_gt lA10; have nA10 := Nat.ne_of_lt lA10
         have hU10 : Blk v10 (U) 25 #[.int .i64 x, .int .i64 y, .int .i64 z] := Blk.grown (by (repeat (first | with_reducible assumption | (with_reducible apply Blk.new_at; (first | rfl | (simp; done))) | with_reducible apply Blk.store3 | with_reducible apply Blk.store4 | (with_reducible apply Blk.farp; (first | omega | (simp <;> omega))) | with_reducible apply Blk.allocp | with_reducible apply Blk.drew | with_reducible apply Blk.drewN))) hG10 (by simp <;> omega)
         have cU10 := hU10.cell; have fU10 := hU10.frozen; have lU10 := hU10.lt; have mU10 := Nat.ne_of_gt lU10; have nU10 := Nat.ne_of_lt lU10
         clear hD10' hG10 hA9 cA9 fA9 lA9 mA9 nA9 hU9 cU9 fU9 lU9 mU9 nU9 hD9
         go_wp2
         exact bodyPost_ret (v := .agg #[.int .i64 x10, .int .i64 y, .int .i64 z]) (by simp [results, Tryz.results86, go_sem, *]) rfl (hfin.out _ _ _ _ (Drw.more (n := n + 34 + 2 + 2) (by repeat (first | with_reducible assumption | (with_reducible apply Hid.out; assumption) | with_reducible apply Drw.drewN | with_reducible apply Drw.drew | with_reducible apply Drw.alloc | (with_reducible refine Drw.setp ?_ ?_ ?_ ?_; (first | omega | (simp <;> omega)); (first | omega | (simp <;> omega)); (first | omega | (simp <;> omega))))) (by omega)))
end
end

section
open Go.RowKit

theorem drw_start3I {zs : List Int} {v : Value} {B : Nat} {w : World} (r r2 : Obj) (hr : RdB zs v B w) : Drw zs v B (w.heap.size + 1 + 1) 0 w (((w.alloc r).alloc r2).alloc (.cells #[v, .int .i64 0, .int .u64 0] 51)) := by
  have h := drw_start2 (w := w.alloc r) r2 (hr.grown (grown_alloc _ _ none) (fun k hk => by cases hk))
  refine ⟨h.rd, by simpa using h.cur, (grown_alloc _ _ _).trans (by simpa using h.gr)⟩
theorem below_cur3I {w w' : World} (h : w.grownBy w' (some (w.heap.size + 1 + 1))) : Below w.heap.size w w' :=
  (Below.refl w.heap.size w).grown h (Nat.le_refl _) (fun k hk => by injection hk with hk; omega)
section
variable {zs : List Int} {v : Value} {B G n m : Nat} {w0 w w1 w2 : World}
theorem among_eqRd (h : Drw zs v B G n w0 w) (hB : B ≤ G) (L : List Int) (P : Int → Prop) (hP : ∀ x ∈ L, P x) (h1 : 1 ≤ L.length) (h2 : L.length ≤ 1000) (hn : n + 2 ≤ 100000000) {N k : Nat} {xs : Array Value} (hN : N = w.heap.size) (hk : L.length = k) (hxs : (cellsI L).toArray = xs) :
    Calls Tryz.prog 61 #[.pointer (some ⟨G, 0, none⟩), .slice (some ⟨N, 0, none⟩) k k] (w.alloc (.cells xs 3)).drew fun e w' => ∃ x : Int, e = .returned (.int .i64 x) ∧ P x ∧ Drw zs v B G (n + 2) w0 w' ∧ w.grownBy w' (some G) := by
  subst hN hk hxs
  have hl := h.lt
  have ha := (h.alloc (.cells (cellsI L).toArray 3)).drew
  refine (among_any L (.slice (some ⟨w.heap.size, 0, none⟩) L.length L.length) w.heap.size P zs v B G n _ (own_drew (own_lit L (Nat.le_refl _) h2)) hP h1 h2 (by simp [Value.ownBlock]; omega) ha.rd ha.cur hB hn).mono ?_
  rintro e w1 ⟨x, rfl, hx, hc, hg⟩
  exact ⟨x, rfl, hx, ha.next hB hc hg, (grown_alloc _ _ _).trans ⟨hg.os, hg.tape, hg.output, hg.size, hg.block⟩⟩
set_option maxRecDepth 100000 in
set_option maxHeartbeats 6400000 in
theorem anyIdeal_d (h : Drw zs v B G n w0 w) (hB : B ≤ G) (hn : n + 70 ≤ 100000000) (d : Int) :
    Calls Tryz.prog 57 #[.pointer (some ⟨G, 0, none⟩), .int .i64 d] w fun e w' => ∃ x : Int × Int × Int, e = .returned (.agg #[.int .i64 x.1, .int .i64 x.2.1, .int .i64 x.2.2]) ∧ True ∧ Drw zs v B G (n + 70) w0 w' ∧ w.grownBy w' (some G) := by
  have H := Lib.hid h
  have lG0 := h.lt
  have hD0 := Lib.hid (Drw.start h.rd h.cur)
  clear h
  have hfin : Hid (∀ (x y z : Int) (w' : World), Drw zs v B G (n + 70) w w' → ∃ f : Int × Int × Int, Ending.returned (.agg #[.int .i64 x, .int .i64 y, .int .i64 z]) = .returned (.agg #[.int .i64 f.1, .int .i64 f.2.1, .int .i64 f.2.2]) ∧ True ∧ Drw zs v B G (n + 70) w0 w' ∧ w.grownBy w' (some G)) :=
    Lib.hid (fun x y z w' hd => ⟨(x, y, z), rfl, trivial, H.out.next hB hd.cur hd.gr, hd.gr⟩)
  have hRD := Lib.hid (fun w => reDisc_any d w)
  have hNM := Lib.hid (fun w => nuMod_any d 2 w (by omega) (by omega))
  cases hc : isDisc d with
  | false =>
    rw [hc] at hRD
    clear hc
    generalize d % 2 = r at *
    go_enter Tryz.func57, Tryz.ntmps57
    go_wp2_with (first | (go_at_call 56; (with_reducible refine (hRD.out _).mono ?_); rintro e v ⟨rfl, rfl⟩) | (go_at_call 58; (with_reducible refine (hNM.out _).mono ?_); rintro e v ⟨rfl, rfl⟩))
    exact bodyPost_ret (v := .agg #[.int .i64 1, .int .i64 1, .int .i64 r]) (by simp [results, Tryz.results57, go_sem, *]) rfl (hfin.out _ _ _ _ (Drw.more (n := n) (by repeat (first | with_reducible assumption | (with_reducible apply Hid.out; assumption) | with_reducible apply Drw.drewN | with_reducible apply Drw.drew | with_reducible apply Drw.alloc | (with_reducible refine Drw.setp ?_ ?_ ?_ ?_; (first | omega | (simp <;> omega)); (first | omega | (simp <;> omega)); (first | omega | (simp <;> omega))))) (by omega)))
  | true =>
    rw [hc] at hRD
    have HC := Lib.hid hc
    clear hc hNM
    go_enter Tryz.func57, Tryz.ntmps57
    go_wp2_with (go_at_call 56; (with_reducible refine (hRD.out _).mono ?_); rintro e v ⟨rfl, rfl⟩)
    refine (ideal_d (by repeat (first | with_reducible assumption | (with_reducible apply Hid.out; assumption) | with_reducible apply Drw.drewN | with_reducible apply Drw.drew | with_reducible apply Drw.alloc | (with_reducible refine Drw.setp ?_ ?_ ?_ ?_; (first | omega | (simp <;> omega)); (first | omega | (simp <;> omega)); (first | omega | (simp <;> omega))))) hB (by omega) d HC.out).mono ?_
    rintro e v1 ⟨⟨x, y, z⟩, rfl, -, hD1', hG1⟩
    have hD1 := Lib.hid hD1'
    have lG1 := hD1'.lt
    have zG1 := hG1.size
    (try simp at zG1)
    have hA1 : Blk v1 w.heap.size 25 #[.int .i64 0, .int .i64 0, .int .i64 0] := Blk.grown (by (repeat (first | with_reducible assumption | (with_reducible apply Blk.new_at; (first | rfl | (simp; done))) | with_reducible apply Blk.store3 | with_reducible apply Blk.store4 | (with_reducible apply Blk.farp; (first | omega | (simp <;> omega))) | with_reducible apply Blk.allocp | with_reducible apply Blk.drew | with_reducible apply Blk.drewN))) hG1 (by simp <;> omega)
    have cA1 := hA1.cell; have fA1 := hA1.frozen; have lA1 := hA1.lt; have mA1 := Nat.ne_of_gt lA1; have nA1 := Nat.ne_of_lt lA1
    clear hD1' hG1 hD0
    go_wp2_with fail
    refine (pick_d (n := n + 60) (by repeat (first | with_reducible assumption | (with_reducible apply Hid.out; assumption) | with_reducible apply Drw.drewN | with_reducible apply Drw.drew | with_reducible apply Drw.alloc | (with_reducible refine Drw.setp ?_ ?_ ?_ ?_; (first | omega | (simp <;> omega)); (first | omega | (simp <;> omega)); (first | omega | (simp <;> omega))))) hB 20 (by omega) (by omega)).mono ?_
    rintro e v2 ⟨x2, rfl, hx2, hD2', hG2⟩
    have hD2 := Lib.hid hD2'
    have lG2 := hD2'.lt
    have zG2 := hG2.size
    (try simp at zG2)
    have hA2 : Blk v2 w.heap.size 25 #[.int .i64 0, .int .i64 0, .int .i64 0] := Blk.grown (by (repeat (first | with_reducible assumption | (with_reducible apply Blk.new_at; (first | rfl | (simp; done))) | with_reducible apply Blk.store3 | with_reducible apply Blk.store4 | (with_reducible apply Blk.farp; (first | omega | (simp <;> omega))) | with_reducible apply Blk.allocp | with_reducible apply Blk.drew | with_reducible apply Blk.drewN))) hG2 (by simp <;> omega)
    have cA2 := hA2.cell; have fA2 := hA2.frozen; have lA2 := hA2.lt; have mA2 := Nat.ne_of_gt lA2; have nA2 := Nat.ne_of_lt lA2
    have hU2 : Blk v2 v1.heap.size 25 #[.int .i64 x, .int .i64 y, .int .i64 z] := Blk.grown (by (repeat (first | with_reducible assumption | (with_reducible apply Blk.new_at; (first | rfl | (simp; done))) | with_reducible apply Blk.store3 | with_reducible apply Blk.store4 | (with_reducible apply Blk.farp; (first | omega | (simp <;> omega))) | with_reducible apply Blk.allocp | with_reducible apply Blk.drew | with_reducible apply Blk.drewN))) hG2 (by simp <;> omega)
    have cU2 := hU2.cell; have fU2 := hU2.frozen; have lU2 := hU2.lt; have mU2 := Nat.ne_of_gt lU2; have nU2 := Nat.ne_of_lt lU2
    clear hD2' hG2 hD1 hA1 cA1 fA1 lA1 mA1 nA1
    have hx2' : x2 = 0 ∨ x2 = 1 ∨ x2 = 2 ∨ 2 < x2 := by omega
    clear hx2
    rcases hx2' with rfl | rfl | rfl | hx2
    · obtain ⟨p, i1⟩ : ∃ p, IntKind.i64.wrap (2 * y) = p := ⟨_, rfl⟩
      obtain ⟨q, i2⟩ : ∃ q, IntKind.i64.wrap (-(2 * y)) = q := ⟨_, rfl⟩
      have i3 : IntKind.i64.wrap (-2 * y) = q := by rw [← i2]; congr 1; omega
      go_upto_region 6 with (fail)
      go_region_with (go_at_call 61; refine (among_eqRd (w0 := w) (Hid.out hD2) hB [1, -1, p, q] (fun _ => True) (by simp) (by simp) (by simp) (by omega) (by simp) rfl rfl).mono ?_; rintro e v3 ⟨x3, rfl, -, hD3', hG3⟩; have hD3 := Lib.hid hD3'; have lG3 := hD3'.lt; have zG3 := hG3.size; (try simp at zG3); have hA3 := hA2.grown hG3 (by simp <;> omega); have cA3 := hA3.cell; have fA3 := hA3.frozen; have lA3 := hA3.lt; have mA3 := Nat.ne_of_gt lA3; have nA3 := Nat.ne_of_lt lA3; have hU3 := hU2.grown hG3 (by simp <;> omega); have cU3 := hU3.cell; have fU3 := hU3.frozen; have lU3 := hU3.lt; have mU3 := Nat.ne_of_gt lU3; have nU3 := Nat.ne_of_lt lU3; clear hD3' hG3; obtain ⟨q9, i9⟩ : ∃ q, IntKind.i64.wrap (z + x3) = q := ⟨_, rfl⟩)
      all_goals
        go_wp2
        exact bodyPost_ret (v := .agg #[.int .i64 x, .int .i64 y, .int .i64 q9]) (by simp [results, Tryz.results57, go_sem, *]) rfl (hfin.out _ _ _ _ (Drw.more (n := n + 60 + 2 + 2) (by repeat (first | with_reducible assumption | (with_reducible apply Hid.out; assumption) | with_reducible apply Drw.drewN | with_reducible apply Drw.drew | with_reducible apply Drw.alloc | (with_reducible refine Drw.setp ?_ ?_ ?_ ?_; (first | omega | (simp <;> omega)); (first | omega | (simp <;> omega)); (first | omega | (simp <;> omega))))) (by omega)))
    · go_wp2_with (go_at_call 61; refine (among_eqR (w0 := w) (Hid.out hD2) hB [0, -1, 10001] (fun _ => True) (by simp) (by simp) (by simp) (by omega) (by simp) rfl rfl).mono ?_; rintro e v3 ⟨x3, rfl, -, hD3', hG3⟩; have hD3 := Lib.hid hD3'; have lG3 := hD3'.lt; have zG3 := hG3.size; (try simp at zG3); have hA3 := hA2.grown hG3 (by simp <;> omega); have cA3 := hA3.cell; have fA3 := hA3.frozen; have lA3 := hA3.lt; have mA3 := Nat.ne_of_gt lA3; have nA3 := Nat.ne_of_lt lA3; have hU3 := hU2.grown hG3 (by simp <;> omega); have cU3 := hU3.cell; have fU3 := hU3.frozen; have lU3 := hU3.lt; have mU3 := Nat.ne_of_gt lU3; have nU3 := Nat.ne_of_lt lU3; clear hD3' hG3)
      exact bodyPost_ret (v := .agg #[.int .i64 x3, .int .i64 y, .int .i64 z]) (by simp [results, Tryz.results57, go_sem, *]) rfl (hfin.out _ _ _ _ (Drw.more (n := n + 60 + 2 + 2) (by repeat (first | with_reducible assumption | (with_reducible apply Hid.out; assumption) | with_reducible apply Drw.drewN | with_reducible apply Drw.drew | with_reducible apply Drw.alloc | (with_reducible refine Drw.setp ?_ ?_ ?_ ?_; (first | omega | (simp <;> omega)); (first | omega | (simp <;> omega)); (first | omega | (simp <;> omega))))) (by omega)))
    · obtain ⟨p, k1⟩ : ∃ p, wrap64 (y + 1) = p := ⟨_, rfl⟩
      go_wp2_with (go_at_call 61; refine (among_eqR (w0 := w) (Hid.out hD2) hB [0, -1, p, 10001] (fun _ => True) (by simp) (by simp) (by simp) (by omega) (by simp) rfl rfl).mono ?_; rintro e v3 ⟨x3, rfl, -, hD3', hG3⟩; have hD3 := Lib.hid hD3'; have lG3 := hD3'.lt; have zG3 := hG3.size; (try simp at zG3); have hA3 := hA2.grown hG3 (by simp <;> omega); have cA3 := hA3.cell; have fA3 := hA3.frozen; have lA3 := hA3.lt; have mA3 := Nat.ne_of_gt lA3; have nA3 := Nat.ne_of_lt lA3; have hU3 := hU2.grown hG3 (by simp <;> omega); have cU3 := hU3.cell; have fU3 := hU3.frozen; have lU3 := hU3.lt; have mU3 := Nat.ne_of_gt lU3; have nU3 := Nat.ne_of_lt lU3; clear hD3' hG3)
      exact bodyPost_ret (v := .agg #[.int .i64 x, .int .i64 x3, .int .i64 z]) (by simp [results, Tryz.results57, go_sem, *]) rfl (hfin.out _ _ _ _ (Drw.more (n := n + 60 + 2 + 2) (by repeat (first | with_reducible assumption | (with_reducible apply Hid.out; assumption) | with_reducible apply Drw.drewN | with_reducible apply Drw.drew | with_reducible apply Drw.alloc | (with_reducible refine Drw.setp ?_ ?_ ?_ ?_; (first | omega | (simp <;> omega)); (first | omega | (simp <;> omega)); (first | omega | (simp <;> omega))))) (by omega)))
    · have n0 : (x2 == 0) = false := by rw [beq_eq_false_iff_ne]; omega
      have n1 : (x2 == 1) = false := by rw [beq_eq_false_iff_ne]; omega
      have n2 : (x2 == 2) = false := by rw [beq_eq_false_iff_ne]; omega
      go_wp2
      exact bodyPost_ret (v := .agg #[.int .i64 x, .int .i64 y, .int .i64 z]) (by simp [results, Tryz.results57, go_sem, *]) rfl (hfin.out _ _ _ _ (Drw.more (n := n + 60 + 2) (by repeat (first | with_reducible assumption | (with_reducible apply Hid.out; assumption) | with_reducible apply Drw.drewN | with_reducible apply Drw.drew | with_reducible apply Drw.alloc | (with_reducible refine Drw.setp ?_ ?_ ?_ ?_; (first | omega | (simp <;> omega)); (first | omega | (simp <;> omega)); (first | omega | (simp <;> omega))))) (by omega)))
end
end
end Go.Proofs.YtohgccgbbipjjaaGreat
